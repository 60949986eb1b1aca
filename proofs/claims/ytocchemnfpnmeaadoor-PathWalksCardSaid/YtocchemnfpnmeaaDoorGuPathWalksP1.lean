/- What the functions compute, as functions over plain data, with their contracts: written by gen.py. -/
import Derived.Test.YtocchemnfpnmeaaDoorProg
import Derived.Test.YtocchemnfpnmeaaDoorQr
import Derived.Test.YtocchemnfpnmeaaDoorShelf
import Derived.Test.YtocchemnfpnmeaaDoorSall
set_option maxRecDepth 100000
set_option linter.all false
namespace Go.Proofs.YtocchemnfpnmeaaDoor.pv
open Go.RowKit
abbrev di (x:Int):FV:=.d (.v (.int .i64 x))
def dds (n:Nat) (l:List FV):List FV:=List.replicate n dd++l
def TT:List TI:=[
⟨1,0,.oth,[]⟩,
⟨1,8,.oth,[.nf]⟩,
⟨1,8,.int .i64,[.i .i64]⟩,
⟨1,8,.int .i64,[.i .i64]⟩,
⟨1,1,.bool,[.b]⟩,
⟨1,1,.int .u8,[.i .u8]⟩,
⟨1,1,.int .u8,[.i .u8]⟩,
⟨4,24,.st [(0,2),(1,3),(2,4),(3,6)],[.i .i64,.i .i64,.b,.i .u8]⟩,
⟨4,24,.st [(0,2),(1,3),(2,4),(3,6)],[.i .i64,.i .i64,.b,.i .u8]⟩,
⟨1,16,.str,[.s]⟩,
⟨1,16,.str,[.s]⟩,
⟨1,16,.str,[.s]⟩,
⟨1,8,.int .u64,[.i .u64]⟩,
⟨2,24,.st [(0,9),(1,12)],[.s,.i .u64]⟩,
⟨2,24,.st [(0,9),(1,12)],[.s,.i .u64]⟩,
⟨1,8,.ptr 135,[.np]⟩,
⟨1,8,.ptr 138,[.np]⟩,
⟨1,8,.ptr 146,[.np]⟩,
⟨1,8,.st [(0,17)],[.np]⟩,
⟨1,8,.st [(0,17)],[.np]⟩,
⟨1,16,.oth,[.ni]⟩,
⟨1,4,.int .i32,[.i .i32]⟩,
⟨1,24,.sl 81,[.sl]⟩,
⟨1,24,.st [(0,22)],[.sl]⟩,
⟨1,24,.st [(0,22)],[.sl]⟩,
⟨1,24,.sl 30,[.sl]⟩,
⟨1,24,.sl 3,[.sl]⟩,
⟨6,64,.st [(0,3),(1,3),(2,26),(3,3),(4,3),(5,3)],[.i .i64,.i .i64,.sl,.i .i64,.i .i64,.i .i64]⟩,
⟨6,64,.st [(0,3),(1,3),(2,26),(3,3),(4,3),(5,3)],[.i .i64,.i .i64,.sl,.i .i64,.i .i64,.i .i64]⟩,
⟨1,24,.sl 32,[.sl]⟩,
⟨2,16,.arr 2 3,[.i .i64,.i .i64]⟩,
⟨2,16,.st [(0,3),(1,3)],[.i .i64,.i .i64]⟩,
⟨2,16,.st [(0,3),(1,3)],[.i .i64,.i .i64]⟩,
⟨1,8,.int .i64,[.i .i64]⟩,
⟨1,0,.oth,[]⟩,
⟨1,8,.oth,[.nf]⟩,
⟨1,0,.oth,[]⟩,
⟨1,8,.oth,[.nf]⟩,
⟨1,8,.oth,[.nf]⟩,
⟨1,8,.oth,[.nf]⟩,
⟨1,8,.oth,[.nf]⟩,
⟨1,8,.oth,[.nf]⟩,
⟨1,16,.oth,[.ni]⟩,
⟨1,16,.oth,[.ni]⟩,
⟨1,8,.ptr 51,[.np]⟩,
⟨1,24,.sl 9,[.sl]⟩,
⟨1,0,.oth,[]⟩,
⟨1,8,.oth,[.nf]⟩,
⟨1,8,.oth,[.nf]⟩,
⟨1,8,.oth,[.nf]⟩,
⟨10,136,.st [(0,43),(1,29),(2,28),(8,26),(9,3)],[.ni,.sl,.i .i64,.i .i64,.sl,.i .i64,.i .i64,.i .i64,.sl,.i .i64]⟩,
⟨10,136,.st [(0,43),(1,29),(2,28),(8,26),(9,3)],[.ni,.sl,.i .i64,.i .i64,.sl,.i .i64,.i .i64,.i .i64,.sl,.i .i64]⟩,
⟨1,8,.oth,[.nf]⟩,
⟨1,8,.oth,[.nf]⟩,
⟨1,0,.oth,[]⟩,
⟨1,8,.oth,[.nf]⟩,
⟨9,120,.st [(0,24),(1,25),(2,28),(8,4)],[.sl,.sl,.i .i64,.i .i64,.sl,.i .i64,.i .i64,.i .i64,.b]⟩,
⟨9,120,.st [(0,24),(1,25),(2,28),(8,4)],[.sl,.sl,.i .i64,.i .i64,.sl,.i .i64,.i .i64,.i .i64,.b]⟩,
⟨1,8,.oth,[.nf]⟩,
⟨1,8,.oth,[.nf]⟩,
⟨1,8,.oth,[.nf]⟩,
⟨1,8,.oth,[.nf]⟩,
⟨1,0,.oth,[]⟩,
⟨1,8,.oth,[.nf]⟩,
⟨1,8,.oth,[.nf]⟩,
⟨6,48,.st [(0,3),(1,3),(2,3),(3,3),(4,3),(5,3)],[.i .i64,.i .i64,.i .i64,.i .i64,.i .i64,.i .i64]⟩,
⟨6,48,.st [(0,3),(1,3),(2,3),(3,3),(4,3),(5,3)],[.i .i64,.i .i64,.i .i64,.i .i64,.i .i64,.i .i64]⟩,
⟨1,0,.oth,[]⟩,
⟨1,8,.oth,[.nf]⟩,
⟨1,0,.oth,[]⟩,
⟨1,8,.oth,[.nf]⟩,
⟨1,8,.oth,[.nf]⟩,
⟨1,0,.oth,[]⟩,
⟨1,8,.oth,[.nf]⟩,
⟨1,8,.oth,[.nf]⟩,
⟨1,8,.oth,[.nf]⟩,
⟨1,8,.oth,[.nf]⟩,
⟨1,8,.oth,[.nf]⟩,
⟨1,8,.oth,[.nf]⟩,
⟨1,24,.sl 102,[.sl]⟩,
⟨8,88,.st [(0,66),(6,79),(7,9)],[.i .i64,.i .i64,.i .i64,.i .i64,.i .i64,.i .i64,.sl,.s]⟩,
⟨8,88,.st [(0,66),(6,79),(7,9)],[.i .i64,.i .i64,.i .i64,.i .i64,.i .i64,.i .i64,.sl,.s]⟩,
⟨1,8,.ptr 81,[.np]⟩,
⟨1,8,.oth,[.nf]⟩,
⟨1,8,.oth,[.nf]⟩,
⟨1,8,.oth,[.nf]⟩,
⟨1,8,.oth,[.nf]⟩,
⟨1,8,.oth,[.nf]⟩,
⟨1,8,.oth,[.nf]⟩,
⟨1,0,.oth,[]⟩,
⟨1,8,.oth,[.nf]⟩,
⟨1,8,.oth,[.nf]⟩,
⟨1,0,.oth,[]⟩,
⟨1,8,.oth,[.nf]⟩,
⟨1,8,.oth,[.nf]⟩,
⟨1,8,.oth,[.nf]⟩,
⟨1,8,.oth,[.nf]⟩,
⟨1,24,.sl 99,[.sl]⟩,
⟨2,16,.st [(0,3),(1,3)],[.i .i64,.i .i64]⟩,
⟨2,16,.st [(0,3),(1,3)],[.i .i64,.i .i64]⟩,
⟨1,8,.oth,[.nf]⟩,
⟨2,24,.st [(0,9),(1,3)],[.s,.i .i64]⟩,
⟨2,24,.st [(0,9),(1,3)],[.s,.i .i64]⟩,
⟨1,24,.sl 26,[.sl]⟩,
⟨1,8,.oth,[.nf]⟩,
⟨1,8,.oth,[.nf]⟩,
⟨1,8,.oth,[.nf]⟩,
⟨1,8,.oth,[.nf]⟩,
⟨1,24,.sl 45,[.sl]⟩,
⟨1,8,.oth,[.nf]⟩,
⟨1,8,.oth,[.nf]⟩,
⟨1,8,.oth,[.nf]⟩,
⟨1,8,.oth,[.nf]⟩,
⟨1,8,.oth,[.nf]⟩,
⟨1,8,.int .u64,[.i .u64]⟩,
⟨1,8,.oth,[.nf]⟩,
⟨1,8,.oth,[.nf]⟩,
⟨1,24,.sl 5,[.sl]⟩,
⟨1,8,.oth,[.nf]⟩,
⟨1,8,.oth,[.nf]⟩,
⟨1,8,.oth,[.nf]⟩,
⟨1,8,.oth,[.nf]⟩,
⟨1,8,.oth,[.nf]⟩,
⟨1,0,.oth,[]⟩,
⟨1,8,.oth,[.nf]⟩,
⟨1,8,.oth,[.nf]⟩,
⟨256,256,.arr 256 5,List.replicate 256 (.i .u8)⟩,
⟨2,2,.st [(0,5),(1,5)],[.i .u8,.i .u8]⟩,
⟨2,2,.st [(0,5),(1,5)],[.i .u8,.i .u8]⟩,
⟨32,32,.arr 16 128,List.replicate 32 (.i .u8)⟩,
⟨1,4,.int .u32,[.i .u32]⟩,
⟨1,0,.oth,[]⟩,
⟨1,8,.oth,[.nf]⟩,
⟨1,8,.oth,[.nf]⟩,
⟨4,40,.st [(0,17),(1,17),(2,17),(3,9)],[.np,.np,.np,.s]⟩,
⟨4,40,.st [(0,17),(1,17),(2,17),(3,9)],[.np,.np,.np,.s]⟩,
⟨0,0,.arr 0 16,[]⟩,
⟨0,0,.st [(0,136)],[]⟩,
⟨0,0,.st [(0,136)],[]⟩,
⟨1,1,.int .u8,[.i .u8]⟩,
⟨1,1,.int .u8,[.i .u8]⟩,
⟨1,8,.oth,[.nf]⟩,
⟨1,8,.ptr 5,[.np]⟩,
⟨1,4,.int .i32,[.i .i32]⟩,
⟨1,4,.int .i32,[.i .i32]⟩,
⟨11,48,.st [(0,12),(1,12),(2,130),(3,139),(4,5),(5,5),(6,140),(7,141),(8,142),(9,143),(10,144)],[.i .u64,.i .u64,.i .u32,.i .u8,.i .u8,.i .u8,.i .u8,.nf,.np,.i .i32,.i .i32]⟩,
⟨11,48,.st [(0,12),(1,12),(2,130),(3,139),(4,5),(5,5),(6,140),(7,141),(8,142),(9,143),(10,144)],[.i .u64,.i .u64,.i .u32,.i .u8,.i .u8,.i .u8,.i .u8,.nf,.np,.i .i32,.i .i32]⟩,
⟨1,8,.oth,[.np]⟩]
theorem TTok:TOk Tryd.prog TT:=by unfold TOk; kernel_rfl
theorem mix:Tryd.prog.follows .mixedOrders=true:=by kernel_rfl
structure Gh where
 fKind:Int
 fMode:Int
 fUser:Int
 fGroup:Int
 fSize:Int
 fLinks:Int
def GZ (x:Gh):PV:=.agg [.v (.int .i64 x.fKind),.v (.int .i64 x.fMode),.v (.int .i64 x.fUser),.v (.int .i64 x.fGroup),.v (.int .i64 x.fSize),.v (.int .i64 x.fLinks)]
structure Zp where
 fName:ByteArray
 fIno:Int
def GE (x:Zp):PV:=.agg [.v (.string x.fName),.v (.int .i64 x.fIno)]
structure Gk where
 fStat:Gh
 fNames:(List Zp)
 fTell:ByteArray
def Gf (x:Gk):PV:=.agg [.v (.int .i64 x.fStat.fKind),.v (.int .i64 x.fStat.fMode),.v (.int .i64 x.fStat.fUser),.v (.int .i64 x.fStat.fGroup),.v (.int .i64 x.fStat.fSize),.v (.int .i64 x.fStat.fLinks),.sl (x.fNames.map GE),.v (.string x.fTell)]
structure Gg where
 fNodes:(List Gk)
def Gb (x:Gg):PV:=.agg [.sl (x.fNodes.map Gf)]
structure Gc where
 fUser:Int
 fGroup:Int
 fMore:(List Int)
 fCaps:Int
 fLevel:Int
 fKind:Int
def G0 (x:Gc):PV:=.agg [.v (.int .i64 x.fUser),.v (.int .i64 x.fGroup),.sl (x.fMore.map (eI .i64)),.v (.int .i64 x.fCaps),.v (.int .i64 x.fLevel),.v (.int .i64 x.fKind)]
structure Gd where
 fAt:Int
 fRoot:Int
def Ga (x:Gd):PV:=.agg [.v (.int .i64 x.fAt),.v (.int .i64 x.fRoot)]
structure Ge where
 ft:Gg
 fmounts:(List Gd)
 fc:Gc
 fstack:(List Int)
 flinks:Int
def Sn (x:Ge):List PV:=[.ifc 24 (Gb x.ft),.sl (x.fmounts.map Ga),.v (.int .i64 x.fc.fUser),.v (.int .i64 x.fc.fGroup),.sl (x.fc.fMore.map (eI .i64)),.v (.int .i64 x.fc.fCaps),.v (.int .i64 x.fc.fLevel),.v (.int .i64 x.fc.fKind),.sl (x.fstack.map (eI .i64)),.v (.int .i64 x.flinks)]
def VA (x:Ge):PV:=.agg (Sn x)
structure Gn where
 ft:Gg
 fmounts:(List (Fin 2→Int))
 fc:Gc
 ffollow:Bool
def Yq (x:Gn):List PV:=[.sl (x.ft.fNodes.map Gf),.sl (x.fmounts.map (fun x=>PV.agg [.v (.int .i64 (x 0)),.v (.int .i64 (x 1))])),.v (.int .i64 x.fc.fUser),.v (.int .i64 x.fc.fGroup),.sl (x.fc.fMore.map (eI .i64)),.v (.int .i64 x.fc.fCaps),.v (.int .i64 x.fc.fLevel),.v (.int .i64 x.fc.fKind),.v (.bool x.ffollow)]
def Ui (x:Gn):PV:=.agg (Yq x)
/- ringhall/mount.inode -/
def KU (n:Nat) (a:Int):Option (Bool) :=
 if a≥1 then
  some (decide (a≤32))
 else
  some false
theorem Sg (n:Nat) (b:Int) (r:Bool) (h:KU n b=some r):Ret Tryd.prog 36 [(eI .i64) b] (eB r):=by
 refine ret_run (n:=9) (fn:=Tryd.f36) (c:=bodyOf Tryd.f36) (by kernel_rfl) (by kernel_rfl) (by kernel_rfl) (by kernel_rfl) ?_
 have hF:KC 9 (FinR Tryd.prog Tryd.f36 (eB r)):=FinR.kc' (by kernel_rfl)
 unfold KU at h
 by_cases a:b≥1
 ·rw [if_pos a] at h
  obtain rfl:=Option.some.inj h
  exact pend_sound TTok mix 5 (hs:=[.t true,.c]) (by kernel_rfl) (by kernel_rfl) (by kernel_rfl) (.cons (dt a) .nil)
 ·rw [if_neg a] at h
  obtain rfl:=Option.some.inj h
  exact pend_sound TTok mix 5 (hs:=[.t false,.c]) (by kernel_rfl) (by kernel_rfl) (by kernel_rfl) (.cons (df a) .nil)
inductive GF where
 | x0 (a:Int)
 | x1 
def K2:GF→Ex
 | .x0 _=>.ret
 | .x1  => .exit 0
def K3 (b:(List Gd)) (c:(Gd→Option (Bool))) (e:FuncId) (f:(List PV)):GF→PS
 | .x0 a=>⟨(dd::dd::dd::dd::di a::(dds 14 [])),[]⟩
 | .x1  => ⟨(dds 19 []),[]⟩
def K4 (a:(List Gd)) (f:(Gd→Option (Bool))) (b:FuncId) (c:(List PV)) (e:Int):PS:=⟨(.d (.sl (a.map Ga))::.d (.clo b c)::dd::dd::dd::dd::dd::di (a.length:Int)::di e::(dds 10 [])),[]⟩
def Gl (n:Nat) (b:(List Gd)) (c:(Gd→Option (Bool))):Nat→Int→Option GF
 | 0,_=>none
 | k+1,a =>
  if a<(b.length:Int) then
   (getI b a).bind fun (d:Gd) =>
   (c d).bind fun (e:(Bool)) =>
   if e=true then
    some (.x0 a)
   else
    Gl n b c k (wi .i64 (a+1))
  else
   some (.x1 )
theorem St {Fi:Ex→PS→Prop} (hF:KC 19 Fi) (ks:List Fr) (n:Nat) (b:(List Gd)) (c:(Gd→Option (Bool))) (e:FuncId) (g:(List PV)) (m:∀ (x0:Gd) (r:Bool),c x0=some r→Ret Tryd.prog e ([Ga x0]++g) (eB r)):∀ (k:Nat) (a:Int) (o:GF),Gl n b c k a=some o→RunE Tryd.prog 19 Fi ks (K2 o) (K3 b c e g o)→RunE Tryd.prog 19 Fi (.l k (cP (cB (cR (cL (cR (bodyOf Tryd.f52))))))::ks) .normal (K4 b c e g a)
 | 0,a,o,h,q=>by rw [Gl] at h; cases h
 | k+1,a,o,h,q=>by
  rw [Gl] at h
  by_cases d:a<(b.length:Int)
  ·rw [if_pos d] at h
   obtain ⟨i,u,h⟩:=bind_some h
   obtain ⟨p,v,h⟩:=bind_some h
   by_cases j:p=true
   ·rw [if_pos j] at h
    cases h
    exact pkk_sound TTok mix hF 19 (hs:=[.t true,.y (Ga i),.r (eB p),.t true]) (ts:=[]) (s:=[]) (l:=[4]) (by kernel_rfl) (by kernel_rfl) (.cons (dt d) (.cons (getI_ob (f:=Ga) u) (.cons (m i _ v) (.cons j .nil)))) q
   ·rw [if_neg j] at h
    exact pkk_sound TTok mix hF 16 (hs:=[.t true,.y (Ga i),.r (eB p),.t false]) (ts:=[]) (s:=[]) (l:=[0,1,7,8]) (by kernel_rfl) (by kernel_rfl) (.cons (dt d) (.cons (getI_ob (f:=Ga) u) (.cons (m i _ v) (.cons (vf j) .nil)))) (St hF ks n b c e g m k (wi .i64 (a+1)) _ h q)
  ·rw [if_neg d] at h
   cases h
   exact pkk_sound TTok mix hF 8 (hs:=[.t false]) (ts:=[]) (s:=[]) (l:=[]) (by kernel_rfl) (by kernel_rfl) (.cons (df d) .nil) q
/- slices.IndexFunc[[]ringhall/mount.Mount,ringhall/mount.Mount] -/
def Gz (n:Nat) (a:(List Gd)) (b:(Gd→Option (Bool))):Option (Int) :=
 (Gl n a b n 0).bind fun c=>match c with
 | .x0 d =>
  some d
 | .x1  =>
  some (-1)
theorem Zg (n:Nat) (a:(List Gd)) (e:(Gd→Option (Bool))) (g:FuncId) (i:List PV) (j:∀ (x0:Gd) (r:Bool),e x0=some r→Ret Tryd.prog g ([Ga x0]++i) (eB r)) (r:Int) (h:Gz n a e=some r):Ret Tryd.prog 52 [(eL Ga) a,(.clo g i)] ((eI .i64) r):=by
 refine ret_run (n:=19) (fn:=Tryd.f52) (c:=bodyOf Tryd.f52) (by kernel_rfl) (by kernel_rfl) (by kernel_rfl) (by kernel_rfl) ?_
 have hF:KC 19 (FinR Tryd.prog Tryd.f52 ((eI .i64) r)):=FinR.kc' (by kernel_rfl)
 unfold Gz at h
 obtain ⟨k,m,h⟩:=bind_some h
 refine pkk_sound TTok mix hF 7 (hs:=[.u (di (a.length:Int)),.n n]) (ts:=[]) (s:=[]) (l:=[0,1,7,8]) (by kernel_rfl) (by kernel_rfl) (.cons (len_ob (f:=Ga) (l:=a)) .nil) (St hF (.b 0::.s (cR (cR (bodyOf Tryd.f52)))::[]) n a e g i j n 0 _ m ?_)
 cases k with
 | x0 o =>
  try dsimp only at h
  obtain rfl:=Option.some.inj h
  exact pend_sound TTok mix 2 (hs:=[]) (by kernel_rfl) (by kernel_rfl) (by kernel_rfl) .nil
 | x1  =>
  try dsimp only at h
  obtain rfl:=Option.some.inj h
  exact pend_sound TTok mix 4 (hs:=[]) (by kernel_rfl) (by kernel_rfl) (by kernel_rfl) .nil
/- ringhall/mount.find$1 -/
def Z4 (n:Nat) (a:Gd) (b:Int):Option (Bool) :=
 some (a.fAt == b)
theorem Vh (n:Nat) (a:Gd) (b:Int) (r:Bool) (h:Z4 n a b=some r):Ret Tryd.prog 53 [Ga a,.iptr [.v (.int .i64 b)] 0] (eB r):=by
 refine ret_run (n:=8) (fn:=Tryd.f53) (c:=bodyOf Tryd.f53) (by kernel_rfl) (by kernel_rfl) (by kernel_rfl) (by kernel_rfl) ?_
 have hF:KC 8 (FinR Tryd.prog Tryd.f53 (eB r)):=FinR.kc' (by kernel_rfl)
 unfold Z4 at h
 obtain rfl:=Option.some.inj h
 exact pend_sound TTok mix 5 (hs:=[.c,.c]) (by kernel_rfl) (by kernel_rfl) (by kernel_rfl) .nil
/- ringhall/mount.find -/
def ZA (n:Nat) (a:(List Gd)) (b:Int):Option (Int) :=
 (Gz n a (fun (y0:Gd)=>Z4 n y0 b)).bind fun (c:(Int)) =>
 some c
theorem ZM (n:Nat) (b:(List Gd)) (a r:Int) (h:ZA n b a=some r):Ret Tryd.prog 37 [(eL Ga) b,(eI .i64) a] ((eI .i64) r):=by
 refine ret_run (n:=8) (fn:=Tryd.f37) (c:=bodyOf Tryd.f37) (by kernel_rfl) (by kernel_rfl) (by kernel_rfl) (by kernel_rfl) ?_
 have hF:KC 8 (FinR Tryd.prog Tryd.f37 ((eI .i64) r)):=FinR.kc' (by kernel_rfl)
 unfold ZA at h
 obtain ⟨d,e,h⟩:=bind_some h
 obtain rfl:=Option.some.inj h
 exact pend_sound TTok mix 5 (hs:=[.c,.r ((eI .i64) d)]) (by kernel_rfl) (by kernel_rfl) (by kernel_rfl) (.cons (Zg n b (fun (y0:Gd)=>Z4 n y0 a) 53 [.iptr [.v (.int .i64 a)] 0] (fun y0 r h=>Vh n y0 a r h) _ e) .nil)
inductive Zs where
 | x0 (a:Int) (b:Bool)
 | x1 
def US:Zs→Ex
 | .x0 _ _=>.ret
 | .x1  => .exit 0
def UT (c:(List Gd)):Zs→PS
 | .x0 a b=>⟨(dd::dd::dd::dd::di a::.d (.v (.bool b))::(dds 18 [])),[]⟩
 | .x1  => ⟨(dds 24 []),[]⟩
def UU (a:(List Gd)) (b c:Int):PS:=⟨(.d (.sl (a.map Ga))::di b::dd::dd::dd::dd::dd::dd::dd::di (wi .i64 ((a.length:Int)+1))::di c::(dds 13 [])),[]⟩
def SE (n:Nat) (a:(List Gd)):Nat→Int→Int→Option Zs
 | 0,_,_=>none
 | k+1,b,c =>
  if c<(wi .i64 ((a.length:Int)+1)) then
   (ZA n a b).bind fun (d:(Int)) =>
   if d<0 then
    some (.x0 b true)
   else
    (getI a d).bind fun (e:Gd) =>
    SE n a k e.fRoot (wi .i64 (c+1))
  else
   some (.x1 )
theorem YL {Fi:Ex→PS→Prop} (hF:KC 24 Fi) (ks:List Fr) (n:Nat) (a:(List Gd))  : ∀ (k:Nat) (b d:Int) (o:Zs),SE n a k b d=some o→RunE Tryd.prog 24 Fi ks (US o) (UT a o)→RunE Tryd.prog 24 Fi (.l k (cP (cB (cR (cL (cR (bodyOf Tryd.f38))))))::ks) .normal (UU a b d)
 | 0,b,d,o,h,q=>by rw [SE] at h; cases h
 | k+1,b,d,o,h,q=>by
  rw [SE] at h
  by_cases e:d<(wi .i64 ((a.length:Int)+1))
  ·rw [if_pos e] at h
   obtain ⟨i,j,h⟩:=bind_some h
   by_cases g:i<0
   ·rw [if_pos g] at h
    cases h
    exact pkk_sound TTok mix hF 21 (hs:=[.t true,.r ((eI .i64) i),.t true]) (ts:=[]) (s:=[]) (l:=[4,5]) (by kernel_rfl) (by kernel_rfl) (.cons (dt e) (.cons (ZM n a b _ j) (.cons (dt g) .nil))) q
   ·rw [if_neg g] at h
    obtain ⟨m,p,h⟩:=bind_some h
    exact pkk_sound TTok mix hF 18 (hs:=[.t true,.r ((eI .i64) i),.t false,.y (Ga m),.c]) (ts:=[]) (s:=[]) (l:=[0,1,9,10]) (by kernel_rfl) (by kernel_rfl) (.cons (dt e) (.cons (ZM n a b _ j) (.cons (df g) (.cons (getI_ob (f:=Ga) p) .nil)))) (YL hF ks n a k m.fRoot (wi .i64 (d+1)) _ h q)
  ·rw [if_neg e] at h
   cases h
   exact pkk_sound TTok mix hF 8 (hs:=[.t false]) (ts:=[]) (s:=[]) (l:=[]) (by kernel_rfl) (by kernel_rfl) (.cons (df e) .nil) q
/- ringhall/mount.down -/
def ZB (n:Nat) (a:(List Gd)) (b:Int):Option (Int×Bool) :=
 (SE n a n b 0).bind fun c=>match c with
 | .x0 d e =>
  some (d,e)
 | .x1  =>
  some (0,false)
theorem Yr (n:Nat) (a:(List Gd)) (e:Int) (r:Int×Bool) (h:ZB n a e=some r):Ret Tryd.prog 38 [(eL Ga) a,(eI .i64) e] (.tup [(eI .i64) r.1,eB r.2]):=by
 refine ret_run (n:=24) (fn:=Tryd.f38) (c:=bodyOf Tryd.f38) (by kernel_rfl) (by kernel_rfl) (by kernel_rfl) (by kernel_rfl) ?_
 have hF:KC 24 (FinR Tryd.prog Tryd.f38 (.tup [(eI .i64) r.1,eB r.2])):=FinR.kc' (by kernel_rfl)
 unfold ZB at h
 obtain ⟨g,i,h⟩:=bind_some h
 refine pkk_sound TTok mix hF 7 (hs:=[.u (di (a.length:Int)),.n n]) (ts:=[]) (s:=[]) (l:=[0,1,9,10]) (by kernel_rfl) (by kernel_rfl) (.cons (len_ob (f:=Ga) (l:=a)) .nil) (YL hF (.b 0::.s (cR (cR (bodyOf Tryd.f38)))::[]) n a n e 0 _ i ?_)
 cases g with
 | x0 j k =>
  try dsimp only at h
  obtain rfl:=Option.some.inj h
  exact pend_sound TTok mix 2 (hs:=[]) (by kernel_rfl) (by kernel_rfl) (by kernel_rfl) .nil
 | x1  =>
  try dsimp only at h
  obtain rfl:=Option.some.inj h
  exact pend_sound TTok mix 4 (hs:=[]) (by kernel_rfl) (by kernel_rfl) (by kernel_rfl) .nil
inductive Zh where
 | x0 (a:Int)
 | x1 
def UM:Zh→Ex
 | .x0 _=>.ret
 | .x1  => .exit 0
def UN (a:(List Gd)):Zh→PS
 | .x0 b=>⟨(dd::dd::di b::(dds 49 [])),[]⟩
 | .x1  => ⟨(.d (.sl (a.map Ga))::(dds 51 [])),[]⟩
def UO (a:(List Gd)) (b:Int):PS:=⟨(.d (.sl (a.map Ga))::(dds 11 (.d (.sl (a.map Ga))::di (a.length:Int)::di b::(dds 37 [])))),[]⟩
def G1 (n:Nat) (a:(List Gd)):Nat→Int→Option Zh
 | 0,_=>none
 | k+1,b =>
  if b<(a.length:Int) then
   (getI a b).bind fun (c:Gd) =>
   (KU n c.fAt).bind fun (d:(Bool)) =>
   if d=true then
    (KU n c.fRoot).bind fun (e:(Bool)) =>
    if e=true then
     (ZA n a c.fAt).bind fun (f:(Int)) =>
     if f<b then
      some (.x0 5)
     else
      G1 n a k (wi .i64 (b+1))
    else
     some (.x0 1)
   else
    some (.x0 1)
  else
   some (.x1 )
theorem YB {Fi:Ex→PS→Prop} (hF:KC 52 Fi) (ks:List Fr) (n:Nat) (b:(List Gd))  : ∀ (k:Nat) (d:Int) (o:Zh),G1 n b k d=some o→RunE Tryd.prog 52 Fi ks (UM o) (UN b o)→RunE Tryd.prog 52 Fi (.l k (cP (cB (cR (cL (cR (cR (bodyOf Tryd.f17)))))))::ks) .normal (UO b d)
 | 0,d,o,h,q=>by rw [G1] at h; cases h
 | k+1,d,o,h,q=>by
  rw [G1] at h
  by_cases e:d<(b.length:Int)
  ·rw [if_pos e] at h
   obtain ⟨a,m,h⟩:=bind_some h
   obtain ⟨i,p,h⟩:=bind_some h
   by_cases g:i=true
   ·rw [if_pos g] at h
    obtain ⟨u,w,h⟩:=bind_some h
    by_cases j:u=true
    ·rw [if_pos j] at h
     obtain ⟨x,z,h⟩:=bind_some h
     by_cases v:x<d
     ·rw [if_pos v] at h
      cases h
      exact pkk_sound TTok mix hF 24 (hs:=[.t true,.y (Ga a),.c,.c,.r (eB i),.t false,.c,.c,.c,.r (eB u),.c,.t false,.c,.r ((eI .i64) x),.t true]) (ts:=[]) (s:=[]) (l:=[2]) (by kernel_rfl) (by kernel_rfl) (.cons (dt e) (.cons (getI_ob (f:=Ga) m) (.cons (show 0+2≤2 by decide) (.cons (Sg n a.fAt _ p) (.cons (bnf g) (.cons (Sg n a.fRoot _ w) (.cons (bnf j) (.cons (ZM n b a.fAt _ z) (.cons (dt v) .nil))))))))) q
     ·rw [if_neg v] at h
      exact pkk_sound TTok mix hF 21 (hs:=[.t true,.y (Ga a),.c,.c,.r (eB i),.t false,.c,.c,.c,.r (eB u),.c,.t false,.c,.r ((eI .i64) x),.t false]) (ts:=[]) (s:=[]) (l:=[0,12,13,14]) (by kernel_rfl) (by kernel_rfl) (.cons (dt e) (.cons (getI_ob (f:=Ga) m) (.cons (show 0+2≤2 by decide) (.cons (Sg n a.fAt _ p) (.cons (bnf g) (.cons (Sg n a.fRoot _ w) (.cons (bnf j) (.cons (ZM n b a.fAt _ z) (.cons (df v) .nil))))))))) (YB hF ks n b k (wi .i64 (d+1)) _ h q)
    ·rw [if_neg j] at h
     cases h
     exact pkk_sound TTok mix hF 21 (hs:=[.t true,.y (Ga a),.c,.c,.r (eB i),.t false,.c,.c,.c,.r (eB u),.c,.t true]) (ts:=[]) (s:=[]) (l:=[2]) (by kernel_rfl) (by kernel_rfl) (.cons (dt e) (.cons (getI_ob (f:=Ga) m) (.cons (show 0+2≤2 by decide) (.cons (Sg n a.fAt _ p) (.cons (bnf g) (.cons (Sg n a.fRoot _ w) (.cons (bnt (vf j)) .nil))))))) q
   ·rw [if_neg g] at h
    cases h
    exact pkk_sound TTok mix hF 21 (hs:=[.t true,.y (Ga a),.c,.c,.r (eB i),.t true,.c,.c,.c,.c]) (ts:=[]) (s:=[]) (l:=[2]) (by kernel_rfl) (by kernel_rfl) (.cons (dt e) (.cons (getI_ob (f:=Ga) m) (.cons (show 0+2≤2 by decide) (.cons (Sg n a.fAt _ p) (.cons (bnt (vf g)) .nil))))) q
  ·rw [if_neg e] at h
   cases h
   exact pkk_sound TTok mix hF 8 (hs:=[.t false]) (ts:=[]) (s:=[]) (l:=[0]) (by kernel_rfl) (by kernel_rfl) (.cons (df e) .nil) q
inductive Zi where
 | x0 (a:Int)
 | x1 
def UP:Zi→Ex
 | .x0 _=>.ret
 | .x1  => .exit 2
def UQ (b:(List Gd)):Zi→PS
 | .x0 a=>⟨(dd::dd::di a::(dds 49 [])),[]⟩
 | .x1  => ⟨(dds 52 []),[]⟩
def UR (a:(List Gd)) (b:Int):PS:=⟨(.d (.sl (a.map Ga))::(dds 35 (.d (.sl (a.map Ga))::di (a.length:Int)::di b::(dds 13 [])))),[]⟩
def G2 (n:Nat) (a:(List Gd)):Nat→Int→Option Zi
 | 0,_=>none
 | k+1,b =>
  if b<(a.length:Int) then
   (getI a b).bind fun (c:Gd) =>
   (ZB n a c.fAt).bind fun (d:(Int×Bool)) =>
   if d.2=true then
    G2 n a k (wi .i64 (b+1))
   else
    some (.x0 14)
  else
   some (.x1 )
theorem YC {Fi:Ex→PS→Prop} (hF:KC 52 Fi) (ks:List Fr) (n:Nat) (a:(List Gd))  : ∀ (k:Nat) (b:Int) (o:Zi),G2 n a k b=some o→RunE Tryd.prog 52 Fi ks (UP o) (UQ a o)→RunE Tryd.prog 52 Fi (.l k (cP (cB (cR (cL (cR (cR (cR (bodyOf Tryd.f17))))))))::ks) .normal (UR a b)
 | 0,b,o,h,q=>by rw [G2] at h; cases h
 | k+1,b,o,h,q=>by
  rw [G2] at h
  by_cases d:b<(a.length:Int)
  ·rw [if_pos d] at h
   obtain ⟨g,j,h⟩:=bind_some h
   obtain ⟨e,m,h⟩:=bind_some h
   by_cases i:e.2=true
   ·rw [if_pos i] at h
    exact pkk_sound TTok mix hF 18 (hs:=[.t true,.y (Ga g),.c,.c,.r (.tup [(eI .i64) e.1,eB e.2]),.t false]) (ts:=[]) (s:=[]) (l:=[0,36,37,38]) (by kernel_rfl) (by kernel_rfl) (.cons (dt d) (.cons (getI_ob (f:=Ga) j) (.cons (show 0+2≤2 by decide) (.cons (Yr n a g.fAt _ m) (.cons (bnf i) .nil))))) (YC hF ks n a k (wi .i64 (b+1)) _ h q)
   ·rw [if_neg i] at h
    cases h
    exact pkk_sound TTok mix hF 21 (hs:=[.t true,.y (Ga g),.c,.c,.r (.tup [(eI .i64) e.1,eB e.2]),.t true]) (ts:=[]) (s:=[]) (l:=[2]) (by kernel_rfl) (by kernel_rfl) (.cons (dt d) (.cons (getI_ob (f:=Ga) j) (.cons (show 0+2≤2 by decide) (.cons (Yr n a g.fAt _ m) (.cons (bnt (vf i)) .nil))))) q
  ·rw [if_neg d] at h
   cases h
   exact pkk_sound TTok mix hF 8 (hs:=[.t false]) (ts:=[]) (s:=[]) (l:=[]) (by kernel_rfl) (by kernel_rfl) (.cons (df d) .nil) q
/- ringhall/mount.Check -/
def Ki (n:Nat) (a:(List Gd)):Option (Int) :=
 if (a.length:Int) > 8 then
  some 2
 else
  (G1 n a n 0).bind fun b=>match b with
  | .x0 c =>
   some c
  | .x1  =>
   (G2 n a n 0).bind fun d=>match d with
   | .x0 e =>
    some e
   | .x1  =>
    some 0
theorem Si (n:Nat) (a:(List Gd)) (r:Int) (h:Ki n a=some r):Ret Tryd.prog 17 [(eL Ga) a] ((eI .i64) r):=by
 refine ret_run (n:=52) (fn:=Tryd.f17) (c:=bodyOf Tryd.f17) (by kernel_rfl) (by kernel_rfl) (by kernel_rfl) (by kernel_rfl) ?_
 have hF:KC 52 (FinR Tryd.prog Tryd.f17 ((eI .i64) r)):=FinR.kc' (by kernel_rfl)
 unfold Ki at h
 by_cases e:(a.length:Int) > 8
 ·rw [if_pos e] at h
  obtain rfl:=Option.some.inj h
  exact pend_sound TTok mix 10 (hs:=[.u (di (a.length:Int)),.t true]) (by kernel_rfl) (by kernel_rfl) (by kernel_rfl) (.cons (len_ob (f:=Ga) (l:=a)) (.cons (dt e) .nil))
 ·rw [if_neg e] at h
  obtain ⟨g,i,h⟩:=bind_some h
  refine pkk_sound TTok mix hF 12 (hs:=[.u (di (a.length:Int)),.t false,.u (di (a.length:Int)),.n n]) (ts:=[]) (s:=[]) (l:=[0,12,13,14]) (by kernel_rfl) (by kernel_rfl) (.cons (len_ob (f:=Ga) (l:=a)) (.cons (df e) (.cons (len_ob (f:=Ga) (l:=a)) .nil))) (YB hF (.b 0::.s (cR (cR (cR (bodyOf Tryd.f17))))::[]) n a n 0 _ i ?_)
  cases g with
  | x0 m =>
   try dsimp only at h
   obtain rfl:=Option.some.inj h
   exact pend_sound TTok mix 2 (hs:=[]) (by kernel_rfl) (by kernel_rfl) (by kernel_rfl) .nil
  | x1  =>
   try dsimp only at h
   obtain ⟨j,k,h⟩:=bind_some h
   refine pkk_sound TTok mix hF 6 (hs:=[.u (di (a.length:Int)),.n n]) (ts:=[]) (s:=[]) (l:=[0,36,37,38]) (by kernel_rfl) (by kernel_rfl) (.cons (len_ob (f:=Ga) (l:=a)) .nil) (YC hF (.b 2::.s (cR (cR (cR (cR (bodyOf Tryd.f17)))))::[]) n a n 0 _ k ?_)
   cases j with
   | x0 o =>
    try dsimp only at h
    obtain rfl:=Option.some.inj h
    exact pend_sound TTok mix 2 (hs:=[]) (by kernel_rfl) (by kernel_rfl) (by kernel_rfl) .nil
   | x1  =>
    try dsimp only at h
    obtain rfl:=Option.some.inj h
    exact pend_sound TTok mix 4 (hs:=[]) (by kernel_rfl) (by kernel_rfl) (by kernel_rfl) .nil
inductive Zt where
 | x0 (a:Int)
 | x1 
def UV:Zt→Ex
 | .x0 _=>.ret
 | .x1  => .exit 0
def UW (a:Gc):Zt→PS
 | .x0 b=>⟨(dd::dd::di b::(dds 80 [])),[]⟩
 | .x1  => ⟨(dd::.ref 0 0::(dds 81 [])),[.box [di a.fUser,di a.fGroup,.d (.sl (a.fMore.map (eI .i64))),di a.fCaps,di a.fLevel,di a.fKind]]⟩
def UX (a:Gc) (b:Int):PS:=⟨(dd::.ref 0 0::(dds 9 (.d (.sl (([a.fUser,a.fGroup]).map (eI .i64)))::di (([a.fUser,a.fGroup]).length:Int)::di b::(dds 69 [])))),[.box [di a.fUser,di a.fGroup,.d (.sl (a.fMore.map (eI .i64))),di a.fCaps,di a.fLevel,di a.fKind]]⟩
def GK (n:Nat) (a:Gc):Nat→Int→Option Zt
 | 0,_=>none
 | k+1,b =>
  if b<(([a.fUser,a.fGroup]).length:Int) then
   (getI ([a.fUser,a.fGroup]) b).bind fun (c:Int) =>
   if c<0 then
    some (.x0 1)
   else
    if c > 99 then
     some (.x0 1)
    else
     GK n a k (wi .i64 (b+1))
  else
   some (.x1 )
theorem YM {Fi:Ex→PS→Prop} (hF:KC 83 Fi) (ks:List Fr) (n:Nat) (a:Gc)  : ∀ (k:Nat) (b:Int) (o:Zt),GK n a k b=some o→RunE Tryd.prog 83 Fi ks (UV o) (UW a o)→RunE Tryd.prog 83 Fi (.l k (cP (cB (cR (cL (cR (bodyOf Tryd.f18))))))::ks) .normal (UX a b)
 | 0,b,o,h,q=>by rw [GK] at h; cases h
 | k+1,b,o,h,q=>by
  rw [GK] at h
  by_cases d:b<(([a.fUser,a.fGroup]).length:Int)
  ·rw [if_pos d] at h
   obtain ⟨e,j,h⟩:=bind_some h
   by_cases g:e<0
   ·rw [if_pos g] at h
    cases h
    exact pkk_sound TTok mix hF 19 (hs:=[.t true,.y ((eI .i64) e),.c,.t true,.c,.c]) (ts:=[]) (s:=[]) (l:=[2]) (by kernel_rfl) (by kernel_rfl) (.cons (dt d) (.cons (getI_ob (f:=(eI .i64)) j) (.cons (dt g) .nil))) q
   ·rw [if_neg g] at h
    by_cases i:e > 99
    ·rw [if_pos i] at h
     cases h
     exact pkk_sound TTok mix hF 19 (hs:=[.t true,.y ((eI .i64) e),.c,.t false,.c,.t true]) (ts:=[]) (s:=[]) (l:=[2]) (by kernel_rfl) (by kernel_rfl) (.cons (dt d) (.cons (getI_ob (f:=(eI .i64)) j) (.cons (df g) (.cons (dt i) .nil)))) q
    ·rw [if_neg i] at h
     exact pkk_sound TTok mix hF 16 (hs:=[.t true,.y ((eI .i64) e),.c,.t false,.c,.t false]) (ts:=[]) (s:=[0]) (l:=[1,11,12,13]) (by kernel_rfl) (by kernel_rfl) (.cons (dt d) (.cons (getI_ob (f:=(eI .i64)) j) (.cons (df g) (.cons (df i) .nil)))) (YM hF ks n a k (wi .i64 (b+1)) _ h q)
  ·rw [if_neg d] at h
   cases h
   exact pkk_sound TTok mix hF 8 (hs:=[.t false]) (ts:=[]) (s:=[0]) (l:=[1]) (by kernel_rfl) (by kernel_rfl) (.cons (df d) .nil) q
inductive Zu where
 | x0 (a:Int)
 | x1 
def UY:Zu→Ex
 | .x0 _=>.ret
 | .x1  => .exit 2
def UZ (a:Gc):Zu→PS
 | .x0 b=>⟨(dd::dd::di b::(dds 80 [])),[]⟩
 | .x1  => ⟨(dd::.ref 0 0::(dds 81 [])),[.box [di a.fUser,di a.fGroup,.d (.sl (a.fMore.map (eI .i64))),di a.fCaps,di a.fLevel,di a.fKind]]⟩
def U0 (a:Gc) (b:Int):PS:=⟨(dd::.ref 0 0::(dds 27 (.d (.sl (a.fMore.map (eI .i64)))::di (a.fMore.length:Int)::di b::(dds 51 [])))),[.box [di a.fUser,di a.fGroup,.d (.sl (a.fMore.map (eI .i64))),di a.fCaps,di a.fLevel,di a.fKind]]⟩
def GU (n:Nat) (b:Gc):Nat→Int→Option Zu
 | 0,_=>none
 | k+1,a =>
  if a<(b.fMore.length:Int) then
   (getI b.fMore a).bind fun (c:Int) =>
   if c<0 then
    some (.x0 1)
   else
    if c > 99 then
     some (.x0 1)
    else
     if a > 0 then
      (getI b.fMore (wi .i64 (a-1))).bind fun (d:Int) =>
      if c≤d then
       some (.x0 3)
      else
       GU n b k (wi .i64 (a+1))
     else
      GU n b k (wi .i64 (a+1))
  else
   some (.x1 )
theorem ZV {Fi:Ex→PS→Prop} (hF:KC 83 Fi) (ks:List Fr) (n:Nat) (g:Gc)  : ∀ (k:Nat) (a:Int) (o:Zu),GU n g k a=some o→RunE Tryd.prog 83 Fi ks (UY o) (UZ g o)→RunE Tryd.prog 83 Fi (.l k (cP (cB (cR (cL (cR (cR (cR (bodyOf Tryd.f18))))))))::ks) .normal (U0 g a)
 | 0,a,o,h,q=>by rw [GU] at h; cases h
 | k+1,a,o,h,q=>by
  rw [GU] at h
  by_cases b:a<(g.fMore.length:Int)
  ·rw [if_pos b] at h
   obtain ⟨d,j,h⟩:=bind_some h
   by_cases e:d<0
   ·rw [if_pos e] at h
    cases h
    exact pkk_sound TTok mix hF 21 (hs:=[.t true,.y ((eI .i64) d),.c,.t true,.c,.c]) (ts:=[]) (s:=[]) (l:=[2]) (by kernel_rfl) (by kernel_rfl) (.cons (dt b) (.cons (getI_ob (f:=(eI .i64)) j) (.cons (dt e) .nil))) q
   ·rw [if_neg e] at h
    by_cases i:d > 99
    ·rw [if_pos i] at h
     cases h
     exact pkk_sound TTok mix hF 21 (hs:=[.t true,.y ((eI .i64) d),.c,.t false,.c,.t true]) (ts:=[]) (s:=[]) (l:=[2]) (by kernel_rfl) (by kernel_rfl) (.cons (dt b) (.cons (getI_ob (f:=(eI .i64)) j) (.cons (df e) (.cons (dt i) .nil)))) q
    ·rw [if_neg i] at h
     by_cases m:a > 0
     ·rw [if_pos m] at h
      obtain ⟨r,u,h⟩:=bind_some h
      by_cases p:d≤r
      ·rw [if_pos p] at h
       cases h
       exact pkk_sound TTok mix hF 24 (hs:=[.t true,.y ((eI .i64) d),.c,.t false,.c,.t false,.t true,.c,.c,.c,.c,.c,.c,.y ((eI .i64) r),.c,.c,.c,.t true]) (ts:=[]) (s:=[]) (l:=[2]) (by kernel_rfl) (by kernel_rfl) (.cons (dt b) (.cons (getI_ob (f:=(eI .i64)) j) (.cons (df e) (.cons (df i) (.cons (dt m) (.cons (getI_ob (f:=(eI .i64)) u) (.cons (dt p) .nil))))))) q
      ·rw [if_neg p] at h
       exact pkk_sound TTok mix hF 21 (hs:=[.t true,.y ((eI .i64) d),.c,.t false,.c,.t false,.t true,.c,.c,.c,.c,.c,.c,.y ((eI .i64) r),.c,.c,.c,.t false]) (ts:=[]) (s:=[0]) (l:=[1,29,30,31]) (by kernel_rfl) (by kernel_rfl) (.cons (dt b) (.cons (getI_ob (f:=(eI .i64)) j) (.cons (df e) (.cons (df i) (.cons (dt m) (.cons (getI_ob (f:=(eI .i64)) u) (.cons (df p) .nil))))))) (ZV hF ks n g k (wi .i64 (a+1)) _ h q)
     ·rw [if_neg m] at h
      exact pkk_sound TTok mix hF 21 (hs:=[.t true,.y ((eI .i64) d),.c,.t false,.c,.t false,.t false,.c,.c,.c,.c,.c,.c,.c,.c]) (ts:=[]) (s:=[0]) (l:=[1,29,30,31]) (by kernel_rfl) (by kernel_rfl) (.cons (dt b) (.cons (getI_ob (f:=(eI .i64)) j) (.cons (df e) (.cons (df i) (.cons (df m) .nil))))) (ZV hF ks n g k (wi .i64 (a+1)) _ h q)
  ·rw [if_neg b] at h
   cases h
   exact pkk_sound TTok mix hF 8 (hs:=[.t false]) (ts:=[]) (s:=[0]) (l:=[1]) (by kernel_rfl) (by kernel_rfl) (.cons (df b) .nil) q
inductive Zv where
 | x0 (a:Bool)
def U1:Zv→Ex
 | .x0 _=>.normal
def U2 (b:Gc):Zv→PS
 | .x0 a=>⟨(dds 82 [.d (.v (.bool a))]),[]⟩
def U3 (a:Gc)  : PS:=⟨(dd::.ref 0 0::(dds 81 [])),[.box [di a.fUser,di a.fGroup,.d (.sl (a.fMore.map (eI .i64))),di a.fCaps,di a.fLevel,di a.fKind]]⟩
def KI (n:Nat) (a:Gc):Option Zv :=
 if a.fCaps<0 then
  some (.x0 true)
 else
  if a.fCaps > 127 then
   some (.x0 true)
  else
   if a.fLevel<0 then
    some (.x0 true)
   else
    if a.fLevel > 7 then
     some (.x0 true)
    else
     if a.fKind<0 then
      some (.x0 true)
     else
      some (.x0 (decide (a.fKind > 255)))
theorem U4 {Fi:Ex→PS→Prop} (hF:KC 83 Fi) (ks:List Fr) (n:Nat) (a:Gc)  (o:Zv) (h:KI n a=some o) (q:RunE Tryd.prog 83 Fi ks (U1 o) (U2 a o)):RunE Tryd.prog 83 Fi (.s (cL (cL (cR (cR (cR (cR (bodyOf Tryd.f18)))))))::ks) .normal (U3 a):=by
 unfold KI at h
 by_cases b:a.fCaps<0
 ·rw [if_pos b] at h
  cases h
  exact pkk_sound TTok mix hF 1 (hs:=[.c,.t true,.c,.c,.c,.c,.c,.c,.c,.c,.c,.c,.c,.c,.c,.c]) (ts:=[]) (s:=[]) (l:=[82]) (by kernel_rfl) (by kernel_rfl) (.cons (dt b) .nil) q
 ·rw [if_neg b] at h
  by_cases d:a.fCaps > 127
  ·rw [if_pos d] at h
   cases h
   exact pkk_sound TTok mix hF 1 (hs:=[.c,.t false,.c,.c,.c,.t true,.c,.c,.c,.c,.c,.c,.c,.c,.c,.c,.c]) (ts:=[]) (s:=[]) (l:=[82]) (by kernel_rfl) (by kernel_rfl) (.cons (df b) (.cons (dt d) .nil)) q
  ·rw [if_neg d] at h
   by_cases e:a.fLevel<0
   ·rw [if_pos e] at h
    cases h
    exact pkk_sound TTok mix hF 1 (hs:=[.c,.t false,.c,.c,.c,.t false,.c,.c,.c,.t true,.c,.c,.c,.c,.c,.c,.c,.c]) (ts:=[]) (s:=[]) (l:=[82]) (by kernel_rfl) (by kernel_rfl) (.cons (df b) (.cons (df d) (.cons (dt e) .nil))) q
   ·rw [if_neg e] at h
    by_cases f:a.fLevel > 7
    ·rw [if_pos f] at h
     cases h
     exact pkk_sound TTok mix hF 1 (hs:=[.c,.t false,.c,.c,.c,.t false,.c,.c,.c,.t false,.c,.c,.c,.t true,.c,.c,.c,.c,.c]) (ts:=[]) (s:=[]) (l:=[82]) (by kernel_rfl) (by kernel_rfl) (.cons (df b) (.cons (df d) (.cons (df e) (.cons (dt f) .nil)))) q
    ·rw [if_neg f] at h
     by_cases g:a.fKind<0
     ·rw [if_pos g] at h
      cases h
      exact pkk_sound TTok mix hF 1 (hs:=[.c,.t false,.c,.c,.c,.t false,.c,.c,.c,.t false,.c,.c,.c,.t false,.c,.c,.c,.t true,.c,.c]) (ts:=[]) (s:=[]) (l:=[82]) (by kernel_rfl) (by kernel_rfl) (.cons (df b) (.cons (df d) (.cons (df e) (.cons (df f) (.cons (dt g) .nil))))) q
     ·rw [if_neg g] at h
      cases h
      exact pkk_sound TTok mix hF 1 (hs:=[.c,.t false,.c,.c,.c,.t false,.c,.c,.c,.t false,.c,.c,.c,.t false,.c,.c,.c,.t false,.c,.c,.c]) (ts:=[]) (s:=[]) (l:=[82]) (by kernel_rfl) (by kernel_rfl) (.cons (df b) (.cons (df d) (.cons (df e) (.cons (df f) (.cons (df g) .nil))))) q
/- ringhall/cred.Check -/
def Sm (n:Nat) (a:Gc):Option (Int) :=
 (GK n a n 0).bind fun b=>match b with
 | .x0 c =>
  some c
 | .x1  =>
  if (a.fMore.length:Int) > 4 then
   some 2
  else
   (GU n a n 0).bind fun d=>match d with
   | .x0 e =>
    some e
   | .x1  =>
    (KI n a).bind fun f=>match f with
    | .x0 g =>
     if g=true then
      some 1
     else
      some 0
theorem GL (n:Nat) (a:Gc) (r:Int) (h:Sm n a=some r):Ret Tryd.prog 18 [G0 a] ((eI .i64) r):=by
 refine ret_run (n:=83) (fn:=Tryd.f18) (c:=bodyOf Tryd.f18) (by kernel_rfl) (by kernel_rfl) (by kernel_rfl) (by kernel_rfl) ?_
 have hF:KC 83 (FinR Tryd.prog Tryd.f18 ((eI .i64) r)):=FinR.kc' (by kernel_rfl)
 unfold Sm at h
 obtain ⟨i,j,h⟩:=bind_some h
 refine pkk_sound TTok mix hF 7 (hs:=[.c,.c,.bd,.u (di (([a.fUser,a.fGroup]).length:Int)),.n n]) (ts:=[]) (s:=[0]) (l:=[1,11,12,13]) (by kernel_rfl) (by kernel_rfl) (.cons (len_ob (f:=(eI .i64)) (l:=[a.fUser,a.fGroup])) .nil) (YM hF (.b 0::.s (cR (cR (bodyOf Tryd.f18)))::[]) n a n 0 _ j ?_)
 cases i with
 | x0 w =>
  try dsimp only at h
  obtain rfl:=Option.some.inj h
  exact pend_sound TTok mix 2 (hs:=[]) (by kernel_rfl) (by kernel_rfl) (by kernel_rfl) .nil
 | x1  =>
  try dsimp only at h
  by_cases e:(a.fMore.length:Int) > 4
  ·rw [if_pos e] at h
   obtain rfl:=Option.some.inj h
   exact pend_sound TTok mix 9 (hs:=[.c,.u (di (a.fMore.length:Int)),.t true]) (by kernel_rfl) (by kernel_rfl) (by kernel_rfl) (.cons (len_ob (f:=(eI .i64)) (l:=a.fMore)) (.cons (dt e) .nil))
  ·rw [if_neg e] at h
   obtain ⟨k,m,h⟩:=bind_some h
   refine pkk_sound TTok mix hF 11 (hs:=[.c,.u (di (a.fMore.length:Int)),.t false,.c,.u (di (a.fMore.length:Int)),.n n]) (ts:=[]) (s:=[0]) (l:=[1,29,30,31]) (by kernel_rfl) (by kernel_rfl) (.cons (len_ob (f:=(eI .i64)) (l:=a.fMore)) (.cons (df e) (.cons (len_ob (f:=(eI .i64)) (l:=a.fMore)) .nil))) (ZV hF (.b 2::.s (cR (cR (cR (cR (bodyOf Tryd.f18)))))::[]) n a n 0 _ m ?_)
   cases k with
   | x0 x =>
    try dsimp only at h
    obtain rfl:=Option.some.inj h
    exact pend_sound TTok mix 2 (hs:=[]) (by kernel_rfl) (by kernel_rfl) (by kernel_rfl) .nil
   | x1  =>
    try dsimp only at h
    obtain ⟨o,p,h⟩:=bind_some h
    refine pkk_sound TTok mix hF 3 (hs:=[]) (ts:=[]) (s:=[0]) (l:=[1]) (by kernel_rfl) (by kernel_rfl) .nil (U4 hF (.s (cR (cL (cR (cR (cR (cR (bodyOf Tryd.f18)))))))::.s (cR (cR (cR (cR (cR (bodyOf Tryd.f18))))))::[]) n a _ p ?_)
    cases o with
    | x0 q =>
     try dsimp only at h
     by_cases g:q=true
     ·rw [if_pos g] at h
      obtain rfl:=Option.some.inj h
      exact pend_sound TTok mix 5 (hs:=[.t true]) (by kernel_rfl) (by kernel_rfl) (by kernel_rfl) (.cons g .nil)
     ·rw [if_neg g] at h
      obtain rfl:=Option.some.inj h
      exact pend_sound TTok mix 5 (hs:=[.t false]) (by kernel_rfl) (by kernel_rfl) (by kernel_rfl) (.cons (vf g) .nil)
theorem one_byteCount {c:ByteArray} (h:c.size=1):∃ x,c=⟨#[x]⟩:=by
 obtain ⟨⟨l⟩⟩:=c
 match l,h with
 | [x],_=>exact ⟨x,rfl⟩
def Zj (n:Nat) (s c:ByteArray):Option Int:=if c.size=1 then some (((Lib.countByte s.data.toList (c.data.toList.headD 0):Nat):Int)) else none
theorem U5 (n:Nat) (s c:ByteArray) (r:Int) (h:Zj n s c=some r):Ret Tryd.prog 59 [eS s,eS c] (eI .i64 r):=by
 unfold Zj at h
 split at h
 ·rename_i q
  obtain rfl:=Option.some.inj h
  obtain ⟨x,rfl⟩:=one_byteCount q
  refine ⟨⟨Tryd.f59,by kernel_rfl,by kernel_rfl,by kernel_rfl⟩,fun ow w vs _ hv=>?_⟩
  simp only [RT,R,eS,eI] at hv
  obtain ⟨_,_,rfl,⟨rfl,_⟩,_,_,rfl,⟨rfl,_⟩,rfl⟩:=hv
  refine (Tryd.strings_Count_one s x w).mono ?_
  rintro e w' ⟨rfl,rfl⟩
  exact ⟨_,rfl,Below.refl _ _,rfl,rfl⟩
 ·cases h
theorem one_byteIndex {c:ByteArray} (h:c.size=1):∃ x,c=⟨#[x]⟩:=by
 obtain ⟨⟨l⟩⟩:=c
 match l,h with
 | [x],_=>exact ⟨x,rfl⟩
def Zk (n:Nat) (s c:ByteArray):Option Int:=if c.size=1 then some (Lib.indexByte s.data.toList (c.data.toList.headD 0)) else none
theorem YN (n:Nat) (s c:ByteArray) (r:Int) (h:Zk n s c=some r):Ret Tryd.prog 60 [eS s,eS c] (eI .i64 r):=by
 unfold Zk at h
 split at h
 ·rename_i q
  obtain rfl:=Option.some.inj h
  obtain ⟨x,rfl⟩:=one_byteIndex q
  refine ⟨⟨Tryd.f60,by kernel_rfl,by kernel_rfl,by kernel_rfl⟩,fun ow w vs _ hv=>?_⟩
  simp only [RT,R,eS,eI] at hv
  obtain ⟨_,_,rfl,⟨rfl,_⟩,_,_,rfl,⟨rfl,_⟩,rfl⟩:=hv
  refine (Tryd.strings_Index_one s x w).mono ?_
  rintro e w' ⟨rfl,rfl⟩
  exact ⟨_,rfl,Below.refl _ _,rfl,rfl⟩
 ·cases h
inductive Kj where
 | x0 (a:Int)
def XB:Kj→Ex
 | .x0 _=>.normal
def XC (a b:ByteArray) (c f:Int):Kj→PS
 | .x0 e=>⟨(.d (.v (.string a))::.d (.v (.string b))::di c::di e::(dds 62 [])),[]⟩
def XD (b c:ByteArray) (e a:Int)  : PS:=⟨(.d (.v (.string b))::.d (.v (.string c))::di e::di a::(dds 16 (.d (.v (.bool (decide (a<0))))::(dds 45 [])))),[]⟩
def KJ (n:Nat) (b c:ByteArray) (e a:Int):Option Kj :=
 if a<0 then
  (Zj n b c).bind fun (d:(Int)) =>
  some (.x0 (wi .i64 (d+1)))
 else
  some (.x0 a)
theorem XE {Fi:Ex→PS→Prop} (hF:KC 66 Fi) (ks:List Fr) (n:Nat) (a b:ByteArray) (e c:Int)  (o:Kj) (h:KJ n a b e c=some o) (q:RunE Tryd.prog 66 Fi ks (XB o) (XC a b e c o)):RunE Tryd.prog 66 Fi (.s (cR (cL (cR (cR (cR (bodyOf Tryd.f54))))))::ks) .normal (XD a b e c):=by
 unfold KJ at h
 by_cases d:c<0
 ·rw [if_pos d] at h
  obtain ⟨f,g,h⟩:=bind_some h
  cases h
  exact pkk_sound TTok mix hF 2 (hs:=[.t true,.r ((eI .i64) f)]) (ts:=[]) (s:=[]) (l:=[0,1,2,3]) (by kernel_rfl) (by kernel_rfl) (.cons (dt d) (.cons (U5 n a b _ g) .nil)) q
 ·rw [if_neg d] at h
  cases h
  exact pkk_sound TTok mix hF 2 (hs:=[.t false]) (ts:=[]) (s:=[]) (l:=[0,1,2,3]) (by kernel_rfl) (by kernel_rfl) (.cons (df d) .nil) q
inductive Kk where
 | x0 (a:ByteArray) (b:Int) (c:(List ByteArray))
def XF:Kk→Ex
 | .x0 _ _ _=>.exit 0
def XG (e:ByteArray) (f g:Int) (h:ByteArray):Kk→PS
 | .x0 a b c=>⟨(.d (.v (.string a))::(dds 8 (.srf 0::di b::(dds 55 [])))),[.row 9 1 (c.map eS)]⟩
def XH (a:ByteArray) (b c:Int) (e f:ByteArray) (g:Int) (h:(List ByteArray)):PS:=⟨(.d (.v (.string f))::.d (.v (.string a))::di b::di (wi .i64 ((minI c (wi .i64 ((e.size:Int)+1)))-1))::dd::dd::dd::dd::dd::.srf 0::di g::(dds 55 [])),[.row 9 1 (h.map eS)]⟩
def Sa (n:Nat) (d:ByteArray) (f g:Int) (h:ByteArray):Nat→ByteArray→Int→(List ByteArray)→Option Kk
 | 0,_,_,_=>none
 | k+1,b,a,c =>
  if a<(wi .i64 ((minI g (wi .i64 ((h.size:Int)+1)))-1)) then
   (Zk n b d).bind fun (e:(Int)) =>
   if e<0 then
    some (.x0 b a c)
   else
    (subS b 0 (wi .i64 (e+f))).bind fun (i:ByteArray) =>
    if 0≤a∧(a).toNat<c.length then
     (c[(a).toNat]?).bind fun (l:ByteArray) =>
     (subS b (wi .i64 (e+(d.size:Int))) (b.size:Int)).bind fun (j:ByteArray) =>
     Sa n d f g h k j (wi .i64 (a+1)) (c.set (a).toNat i)
    else none
  else
   some (.x0 b a c)
theorem ZW {Fi:Ex→PS→Prop} (hF:KC 66 Fi) (ks:List Fr) (n:Nat) (g:ByteArray) (m u:Int) (a0:ByteArray)  : ∀ (k:Nat) (b:ByteArray) (a:Int) (c:(List ByteArray)) (o:Kk),Sa n g m u a0 k b a c=some o→RunE Tryd.prog 66 Fi ks (XF o) (XG g m u a0 o)→RunE Tryd.prog 66 Fi (.l k (cP (cB (cL (cR (cR (cR (cR (cR (cR (cR (cR (bodyOf Tryd.f54))))))))))))::ks) .normal (XH g m u a0 b a c)
 | 0,b,a,c,o,h,q=>by rw [Sa] at h; cases h
 | k+1,b,a,c,o,h,q=>by
  rw [Sa] at h
  by_cases a1:a<(wi .i64 ((minI u (wi .i64 ((a0.size:Int)+1)))-1))
  ·rw [if_pos a1] at h
   obtain ⟨a2,a6,h⟩:=bind_some h
   by_cases a3:a2<0
   ·rw [if_pos a3] at h
    cases h
    exact pkk_sound TTok mix hF 17 (hs:=[.t true,.r ((eI .i64) a2),.t true]) (ts:=[]) (s:=[0]) (l:=[0,9,10]) (by kernel_rfl) (by kernel_rfl) (.cons (dt a1) (.cons (YN n b g _ a6) (.cons (dt a3) .nil))) q
   ·rw [if_neg a3] at h
    obtain ⟨j,a7,h⟩:=bind_some h
    by_cases a4:0≤a∧(a).toNat<c.length
    ·rw [if_pos a4] at h
     obtain ⟨a8,a9,h⟩:=bind_some h
     obtain ⟨a5,b0,h⟩:=bind_some h
     exact pkk_sound TTok mix hF 20 (hs:=[.t true,.r ((eI .i64) a2),.t false,.e 76 [] (.d (.v (.string j))) [],.w ((c.set (a).toNat j).map eS),.y (eS a8),.e 116 [] (.d (.v (.string a5))) []]) (ts:=[]) (s:=[0]) (l:=[0,1,2,3,9,10]) (by kernel_rfl) (by kernel_rfl) (.cons (dt a1) (.cons (YN n b g _ a6) (.cons (df a3) (.cons (xsub01 (P:=Tryd.prog) (T:=TT) (t:=9) (x:=(.tmp 44)) (p:=b) (r:=j) (hi:=(.tmp 47)) (h:=(wi .i64 (a2+m))) (kb:=.i64) (by kernel_rfl) a7) (.cons (idx_ob (f:=eS) a4) (.cons (get_ob (f:=eS) a9) (.cons (Eq.refl (pcells (.v (.string j)))) (.cons (set_ob (f:=eS) (l:=c) (k:=(a).toNat) (z:=j) (p:=.v (.string j)) rfl) (.cons (xsub10 (P:=Tryd.prog) (T:=TT) (t:=9) (x:=(.tmp 50)) (p:=b) (r:=a5) (lo:=(.tmp 54)) (i:=(wi .i64 (a2+(g.size:Int)))) (ka:=.i64) (by kernel_rfl) b0) .nil))))))))) (ZW hF ks n g m u a0 k a5 (wi .i64 (a+1)) (c.set (a).toNat j) _ h q)
    ·rw [if_neg a4] at h; cases h
  ·rw [if_neg a1] at h
   cases h
   exact pkk_sound TTok mix hF 8 (hs:=[.t false]) (ts:=[]) (s:=[0]) (l:=[0,9,10]) (by kernel_rfl) (by kernel_rfl) (.cons (df a1) .nil) q
/- strings.genSplit -/
def Zl (n:Nat) (b c:ByteArray) (e f:Int):Option ((List ByteArray)) :=
 if f=0 then
  some ([]:(List ByteArray))
 else
  if (c.toList == (ByteArray.mk #[]).toList)=true then
   none
  else
   (KJ n b c e f).bind fun h=>match h with
   | .x0 g =>
    (mkL 16 (ByteArray.mk #[]) (minI g (wi .i64 ((b.size:Int)+1)))).bind fun (i:(List ByteArray)) =>
    (Sa n c e g b n b 0 i).bind fun j=>match j with
    | .x0 k a d =>
     if 0≤a∧(a).toNat<d.length then
      (d[(a).toNat]?).bind fun (m:ByteArray) =>
      (sub (d.set (a).toNat k) 0 (wi .i64 (a+1))).bind fun (l:(List ByteArray)) =>
      some l
     else none
theorem UI (n:Nat) (a d:ByteArray) (g i:Int) (r:(List ByteArray)) (h:Zl n a d g i=some r):Ret Tryd.prog 54 [eS a,eS d,(eI .i64) g,(eI .i64) i] ((eL eS) r):=by
 refine ret_run (n:=66) (fn:=Tryd.f54) (c:=bodyOf Tryd.f54) (by kernel_rfl) (by kernel_rfl) (by kernel_rfl) (by kernel_rfl) ?_
 have hF:KC 66 (FinR Tryd.prog Tryd.f54 ((eL eS) r)):=FinR.kc' (by kernel_rfl)
 unfold Zl at h
 by_cases j:i=0
 ·rw [if_pos j] at h
  obtain rfl:=Option.some.inj h
  exact pend_sound TTok mix 10 (hs:=[.t true]) (by kernel_rfl) (by kernel_rfl) (by kernel_rfl) (.cons (bt j) .nil)
 ·rw [if_neg j] at h
  by_cases q:(d.toList == (ByteArray.mk #[]).toList)=true
  ·rw [if_pos q] at h
   cases h
  ·rw [if_neg q] at h
   obtain ⟨a2,a3,h⟩:=bind_some h
   refine pkk_sound TTok mix hF 15 (hs:=[.t false,.t false]) (ts:=[]) (s:=[]) (l:=[0,1,2,3,20]) (by kernel_rfl) (by kernel_rfl) (.cons (bf j) (.cons (vf q) .nil)) (XE hF (.s (cR (cR (cR (cR (bodyOf Tryd.f54)))))::[]) n a d g i _ a3 ?_)
   cases a2 with
   | x0 a4 =>
    try dsimp only at h
    obtain ⟨a1,e,h⟩:=bind_some h
    obtain ⟨a5,a6,h⟩:=bind_some h
    refine pkk_sound TTok mix hF 11 (hs:=[.w (a1.map eS),.n n]) (ts:=[]) (s:=[35]) (l:=[0,1,2,3,9,10]) (by kernel_rfl) (by kernel_rfl) (.cons (mkL_ob (f:=eS) (p:=.v (.string ⟨#[]⟩)) e rfl).1 (.cons (mkL_ob (f:=eS) (p:=.v (.string ⟨#[]⟩)) e rfl).2.1 (.cons (mkL_ob (f:=eS) (p:=.v (.string ⟨#[]⟩)) e rfl).2.2.1 (.cons (mkL_ob (f:=eS) (p:=.v (.string ⟨#[]⟩)) e rfl).2.2.2.1 (.cons (mkL_ob (f:=eS) (p:=.v (.string ⟨#[]⟩)) e rfl).2.2.2.2 .nil))))) (ZW hF (.b 0::.s (cR (cR (cR (cR (cR (cR (cR (cR (cR (bodyOf Tryd.f54))))))))))::[]) n d g a4 a n a 0 a1 _ a6 ?_)
    cases a5 with
    | x0 m o u =>
     try dsimp only at h
     by_cases x:0≤o∧(o).toNat<u.length
     ·rw [if_pos x] at h
      obtain ⟨a7,a8,h⟩:=bind_some h
      obtain ⟨a9,a0,h⟩:=bind_some h
      obtain rfl:=Option.some.inj h
      exact pend_sound TTok mix 6 (hs:=[.w ((u.set (o).toNat m).map eS),.y (eS a7),.w (a9.map eS)]) (by kernel_rfl) (by kernel_rfl) (by kernel_rfl) (.cons (idx_ob (f:=eS) x) (.cons (get_ob (f:=eS) a8) (.cons (Eq.refl (pcells (.v (.string m)))) (.cons (set_ob (f:=eS) (l:=u) (k:=(o).toNat) (z:=m) (p:=.v (.string m)) rfl) (.cons (Eq.refl (0:Int)) (.cons (subR_ob (f:=eS) a0).1 (.cons (subR_ob (f:=eS) a0).2.1 (.cons (subR_ob (f:=eS) a0).2.2 .nil))))))))
     ·rw [if_neg x] at h; cases h
/- strings.Split -/
def Zm (n:Nat) (a b:ByteArray):Option ((List ByteArray)) :=
 (Zl n a b 0 (-1)).bind fun (c:((List ByteArray))) =>
 some c
theorem U6 (n:Nat) (a b:ByteArray) (r:(List ByteArray)) (h:Zm n a b=some r):Ret Tryd.prog 39 [eS a,eS b] ((eL eS) r):=by
 refine ret_run (n:=8) (fn:=Tryd.f39) (c:=bodyOf Tryd.f39) (by kernel_rfl) (by kernel_rfl) (by kernel_rfl) (by kernel_rfl) ?_
 have hF:KC 8 (FinR Tryd.prog Tryd.f39 ((eL eS) r)):=FinR.kc' (by kernel_rfl)
 unfold Zm at h
 obtain ⟨d,e,h⟩:=bind_some h
 obtain rfl:=Option.some.inj h
 exact pend_sound TTok mix 5 (hs:=[.r ((eL eS) d)]) (by kernel_rfl) (by kernel_rfl) (by kernel_rfl) (.cons (UI n a b 0 (-1) _ e) .nil)
inductive Zw where
 | x0 (a:Bool) (b:Int)
 | x1 (c:(List ByteArray))
def U7:Zw→Ex
 | .x0 _ _=>.ret
 | .x1 _=>.exit 0
def U8 (a:ByteArray) (f:((List ByteArray))):Zw→PS
 | .x0 b c=>⟨(dd::dd::.d (.v (.bool b))::.d (vnil)::di c::(dds 29 [])),[]⟩
 | .x1 e=>⟨(.d (.v (.string a))::dd::dd::dd::dd::.srf 0::(dds 28 [])),[.row 9 1 (e.map eS)]⟩
def U9 (b:ByteArray) (a:((List ByteArray))) (c:Int) (e:(List ByteArray)):PS:=⟨(.d (.v (.string b))::dd::dd::dd::dd::.srf 0::(dds 8 (.d (.sl (a.map eS))::di (a.length:Int)::di c::(dds 17 [])))),[.row 9 1 (e.map eS)]⟩
def Sq (n:Nat) (e:ByteArray) (a:((List ByteArray))):Nat→Int→(List ByteArray)→Option Zw
 | 0,_,_=>none
 | k+1,b,c =>
  if b<(a.length:Int) then
   (getI a b).bind fun (d:ByteArray) =>
   if (d.size:Int) > 14 then
    some (.x0 false 3)
   else
    if (!(d.toList == (ByteArray.mk #[]).toList))=true then
     (app 16 c ([d])).bind fun (f:(List ByteArray)) =>
     Sq n e a k (wi .i64 (b+1)) f
    else
     Sq n e a k (wi .i64 (b+1)) c
  else
   some (.x1 c)
theorem ZX {Fi:Ex→PS→Prop} (hF:KC 34 Fi) (ks:List Fr) (n:Nat) (e:ByteArray) (b:((List ByteArray)))  : ∀ (k:Nat) (a:Int) (g:(List ByteArray)) (o:Zw),Sq n e b k a g=some o→RunE Tryd.prog 34 Fi ks (U7 o) (U8 e b o)→RunE Tryd.prog 34 Fi (.l k (cP (cB (cR (cL (cR (cR (cR (cR (bodyOf Tryd.f19)))))))))::ks) .normal (U9 e b a g)
 | 0,a,g,o,h,q=>by rw [Sq] at h; cases h
 | k+1,a,g,o,h,q=>by
  rw [Sq] at h
  by_cases d:a<(b.length:Int)
  ·rw [if_pos d] at h
   obtain ⟨i,r,h⟩:=bind_some h
   by_cases j:(i.size:Int) > 14
   ·rw [if_pos j] at h
    cases h
    exact pkk_sound TTok mix hF 21 (hs:=[.t true,.y (eS i),.c,.t true]) (ts:=[]) (s:=[]) (l:=[2,3,4]) (by kernel_rfl) (by kernel_rfl) (.cons (dt d) (.cons (getI_ob (f:=eS) r) (.cons (dt j) .nil))) q
   ·rw [if_neg j] at h
    by_cases m:(!(i.toList == (ByteArray.mk #[]).toList))=true
    ·rw [if_pos m] at h
     obtain ⟨u,p,h⟩:=bind_some h
     exact pkk_sound TTok mix hF 21 (hs:=[.t true,.y (eS i),.c,.t false,.t true,.bd,.w (u.map eS)]) (ts:=[]) (s:=[61]) (l:=[0,5,14,15,16]) (by kernel_rfl) (by kernel_rfl) (.cons (dt d) (.cons (getI_ob (f:=eS) r) (.cons (df j) (.cons m (.cons (app_ob (f:=eS) (s:=1) p (fun _=>rfl)).1 (.cons (app_ob (f:=eS) (s:=1) p (fun _=>rfl)).2.1 (.cons (app_ob (f:=eS) (s:=1) p (fun _=>rfl)).2.2.1 (.cons (app_ob (f:=eS) (s:=1) p (fun _=>rfl)).2.2.2 .nil)))))))) (ZX hF ks n e b k (wi .i64 (a+1)) u _ h q)
    ·rw [if_neg m] at h
     exact pkk_sound TTok mix hF 21 (hs:=[.t true,.y (eS i),.c,.t false,.t false]) (ts:=[]) (s:=[0]) (l:=[0,5,14,15,16]) (by kernel_rfl) (by kernel_rfl) (.cons (dt d) (.cons (getI_ob (f:=eS) r) (.cons (df j) (.cons (vf m) .nil)))) (ZX hF ks n e b k (wi .i64 (a+1)) g _ h q)
  ·rw [if_neg d] at h
   cases h
   exact pkk_sound TTok mix hF 8 (hs:=[.t false]) (ts:=[]) (s:=[0]) (l:=[0,5]) (by kernel_rfl) (by kernel_rfl) (.cons (df d) .nil) q
/- ringhall/path.Split -/
def SJ (n:Nat) (a:ByteArray):Option (Bool×(List ByteArray)×Int) :=
 if (a.size:Int) > 64 then
  some (false,([]:(List ByteArray)),2)
 else
  if (a.toList == (ByteArray.mk #[]).toList)=true then
   some (false,([]:(List ByteArray)),3)
  else
   (Zm n a (ByteArray.mk #[47])).bind fun (b:((List ByteArray))) =>
   (Sq n a b n 0 ([]:List ByteArray)).bind fun c=>match c with
   | .x0 d e =>
    some (d,([]:(List ByteArray)),e)
   | .x1 f =>
    (getS a 0).bind fun (g:Int) =>
    some ((g == 47),f,0)
theorem KK (n:Nat) (a:ByteArray) (r:Bool×(List ByteArray)×Int) (h:SJ n a=some r):Ret Tryd.prog 19 [eS a] (.tup [eB r.1,(eL eS) r.2.1,(eI .i64) r.2.2]):=by
 refine ret_run (n:=34) (fn:=Tryd.f19) (c:=bodyOf Tryd.f19) (by kernel_rfl) (by kernel_rfl) (by kernel_rfl) (by kernel_rfl) ?_
 have hF:KC 34 (FinR Tryd.prog Tryd.f19 (.tup [eB r.1,(eL eS) r.2.1,(eI .i64) r.2.2])):=FinR.kc' (by kernel_rfl)
 unfold SJ at h
 by_cases e:(a.size:Int) > 64
 ·rw [if_pos e] at h
  obtain rfl:=Option.some.inj h
  exact pend_sound TTok mix 10 (hs:=[.t true]) (by kernel_rfl) (by kernel_rfl) (by kernel_rfl) (.cons (dt e) .nil)
 ·rw [if_neg e] at h
  by_cases g:(a.toList == (ByteArray.mk #[]).toList)=true
  ·rw [if_pos g] at h
   obtain rfl:=Option.some.inj h
   exact pend_sound TTok mix 15 (hs:=[.t false,.t true]) (by kernel_rfl) (by kernel_rfl) (by kernel_rfl) (.cons (df e) (.cons g .nil))
  ·rw [if_neg g] at h
   obtain ⟨i,j,h⟩:=bind_some h
   obtain ⟨k,m,h⟩:=bind_some h
   refine pkk_sound TTok mix hF 19 (hs:=[.t false,.t false,.r ((eL eS) i),.u (di (i.length:Int)),.n n]) (ts:=[(5,9,1)]) (s:=[65]) (l:=[0,5,14,15,16]) (by kernel_rfl) (by kernel_rfl) (.cons (df e) (.cons (vf g) (.cons (U6 n a (ByteArray.mk #[47]) _ j) (.cons (len_ob (f:=eS) (l:=i)) .nil)))) (ZX hF (.b 0::.s (cR (cR (cR (cR (cR (bodyOf Tryd.f19))))))::[]) n a i n 0 ([]:List ByteArray) _ m ?_)
   cases k with
   | x0 q w =>
    try dsimp only at h
    obtain rfl:=Option.some.inj h
    exact pend_sound TTok mix 2 (hs:=[]) (by kernel_rfl) (by kernel_rfl) (by kernel_rfl) .nil
   | x1 x =>
    try dsimp only at h
    obtain ⟨o,p,h⟩:=bind_some h
    obtain rfl:=Option.some.inj h
    exact pend_sound TTok mix 4 (hs:=[.l (.d (.v (.int .u8 o)))]) (by kernel_rfl) (by kernel_rfl) (by kernel_rfl) (.cons (getS_ob p) .nil)
/- slices.Clone[[]int,int] -/
def K5 (n a:Nat):Option ((List Int)) :=
 some ([]:List Int)
theorem YO (n a:Nat) (r:(List Int)) (h:K5 n a=some r):RetH Tryd.prog 11 [.d (.v (.slice none 0 a))] [] (.srf 0) [.row 3 1 (r.map (eI .i64))]:=by
 refine retH_run (n:=8) (fn:=Tryd.f11) (c:=bodyOf Tryd.f11) (by kernel_rfl) (by kernel_rfl) (by kernel_rfl) (by kernel_rfl) ?_
 have hF:KC 8 (FinH Tryd.prog Tryd.f11 [] (.srf 0) [.row 3 1 (r.map (eI .i64))]):=FinH.kc' (by kernel_rfl)
 unfold K5 at h
 obtain rfl:=Option.some.inj h
 exact pendH_sound TTok mix 11 (hs:=[.c,.dl 4,.th 2 3 1]) [20] (by kernel_rfl) (by kernel_rfl) (by kernel_rfl) .nil
/- slices.Clone[[]int,int] -/
def K6 (n:Nat) (b:Addr) (c:Nat):Option ((List Int)) :=
 (app 8 ([]:List Int) ([]:(List Int))).bind fun (a:(List Int)) =>
 some a
theorem YP (n:Nat) (b:Addr) (e:Nat) (r:(List Int)) (h:K6 n b e=some r):RetH Tryd.prog 11 [.d (.v (.slice (some b) 0 e))] [] (.srf 0) [.row 3 1 (r.map (eI .i64))]:=by
 refine retH_run (n:=8) (fn:=Tryd.f11) (c:=bodyOf Tryd.f11) (by kernel_rfl) (by kernel_rfl) (by kernel_rfl) (by kernel_rfl) ?_
 have hF:KC 8 (FinH Tryd.prog Tryd.f11 [] (.srf 0) [.row 3 1 (r.map (eI .i64))]):=FinH.kc' (by kernel_rfl)
 unfold K6 at h
 obtain ⟨g,a,h⟩:=bind_some h
 obtain rfl:=Option.some.inj h
 exact pendH_sound TTok mix 10 (hs:=[.c,.w (([]:List Int).map (eI .i64)),.w (g.map (eI .i64))]) [25] (by kernel_rfl) (by kernel_rfl) (by kernel_rfl) (.cons (Eq.refl (([]:List Int).map (eI .i64))) (.cons (app_ob (f:=(eI .i64)) (s:=1) a (fun _=>rfl)).1 (.cons (app_ob (f:=(eI .i64)) (s:=1) a (fun _=>rfl)).2.1 (.cons (app_ob (f:=(eI .i64)) (s:=1) a (fun _=>rfl)).2.2.1 (.cons (app_ob (f:=(eI .i64)) (s:=1) a (fun _=>rfl)).2.2.2 .nil)))))
/- slices.Clone[[]int,int] -/
def K7 (n:Nat) (a:Int) (b:(List Int)):Option ((List Int)) :=
 (app 8 ([]:List Int) (a::b)).bind fun (c:(List Int)) =>
 some c
theorem YQ (n:Nat) (b:Int) (e r:(List Int)) (h:K7 n b e=some r):RetH Tryd.prog 11 [.d (.sl ((eI .i64) b::e.map (eI .i64)))] [] (.srf 0) [.row 3 1 (r.map (eI .i64))]:=by
 refine retH_run (n:=8) (fn:=Tryd.f11) (c:=bodyOf Tryd.f11) (by kernel_rfl) (by kernel_rfl) (by kernel_rfl) (by kernel_rfl) ?_
 have hF:KC 8 (FinH Tryd.prog Tryd.f11 [] (.srf 0) [.row 3 1 (r.map (eI .i64))]):=FinH.kc' (by kernel_rfl)
 unfold K7 at h
 obtain ⟨g,a,h⟩:=bind_some h
 obtain rfl:=Option.some.inj h
 exact pendH_sound TTok mix 10 (hs:=[.c,.w (([]:List Int).map (eI .i64)),.w (g.map (eI .i64))]) [25] (by kernel_rfl) (by kernel_rfl) (by kernel_rfl) (.cons (Eq.refl (([]:List Int).map (eI .i64))) (.cons (app_ob (f:=(eI .i64)) (s:=1) a (fun _=>rfl)).1 (.cons (app_ob (f:=(eI .i64)) (s:=1) a (fun _=>rfl)).2.1 (.cons (app_ob (f:=(eI .i64)) (s:=1) a (fun _=>rfl)).2.2.1 (.cons (app_ob (f:=(eI .i64)) (s:=1) a (fun _=>rfl)).2.2.2 .nil)))))
def G3 (n:Nat) (xs:(List Int)):Option (List Int):=app 8 [] xs
theorem SP (n:Nat) (xs r:(List Int)) (h:G3 n xs=some r):RetH Tryd.prog 11 [.d (.sl (xs.map (eI .i64)))] [] (.srf 0) [.row 3 1 (r.map (eI .i64))]:=by
 unfold G3 at h
 have e:app 8 ([]:(List Int)) []=some []:=by simp [app]
 cases xs with
 | nil =>
  rw [e] at h; obtain rfl:=Option.some.inj h
  exact clone_nil (fun c=>YO n c _ (by unfold K5; rfl)) (fun a c=>YP n a c _ (by unfold K6; rw [e]; rfl))
 | cons y ys=>exact YQ n y ys _ (by unfold K7; rw [h]; rfl)
/- ringhall/path.start -/
def Kx (n:Nat) (d:Gg) (b:(List Gd)) (c:Gc) (e:(List Int)) (i:ByteArray):Option ((Option Ge)×(List ByteArray)×Int) :=
 (Ki n b).bind fun (f:(Int)) =>
 if f=0 then
  (Sm n c).bind fun (g:(Int)) =>
  if g=0 then
   if (e.length:Int)=0 then
    some (none,([]:(List ByteArray)),4)
   else
    (SJ n i).bind fun (a:(Bool×(List ByteArray)×Int)) =>
    if a.2.2=0 then
     (G3 n e).bind fun (h:((List Int))) =>
     if a.1=true then
      (sub h 0 1).bind fun (j:(List Int)) =>
      some ((some (Ge.mk d b c j 0)),a.2.1,0)
     else
      some ((some (Ge.mk d b c h 0)),a.2.1,0)
    else
     some (none,([]:(List ByteArray)),a.2.2)
  else
   some (none,([]:(List ByteArray)),g)
 else
  some (none,([]:(List ByteArray)),f)
theorem GS (n:Nat) (a2:Gg) (e:(List Gd)) (i:Gc) (a:(List Int)) (q:ByteArray) (r:(Option Ge)×(List ByteArray)×Int) (h:Kx n a2 e i a q=some r):RetH Tryd.prog 9 [.d ((eF 24 Gb) a2),.d ((eL Ga) e),.d (G0 i),.d ((eL (eI .i64)) a),.d (eS q)] [] (.tup [(match r.1 with | none=>.d (.v (.pointer none)) | some x=>.ref 0 0),.d ((eL eS) r.2.1),.d ((eI .i64) r.2.2)]) (match r.1 with | none=>[] | some x=>[.box [.d (.ifc 24 (Gb x.ft)),.d (.sl (x.fmounts.map Ga)),di x.fc.fUser,di x.fc.fGroup,.d (.sl (x.fc.fMore.map (eI .i64))),di x.fc.fCaps,di x.fc.fLevel,di x.fc.fKind,.srf 1,di x.flinks],.row 3 1 (x.fstack.map (eI .i64))]):=by
 refine retH_run (n:=59) (fn:=Tryd.f9) (c:=bodyOf Tryd.f9) (by kernel_rfl) (by kernel_rfl) (by kernel_rfl) (by kernel_rfl) ?_
 have hF:KC 59 (FinH Tryd.prog Tryd.f9 [] (.tup [(match r.1 with | none=>.d (.v (.pointer none)) | some x=>.ref 0 0),.d ((eL eS) r.2.1),.d ((eI .i64) r.2.2)]) (match r.1 with | none=>[] | some x=>[.box [.d (.ifc 24 (Gb x.ft)),.d (.sl (x.fmounts.map Ga)),di x.fc.fUser,di x.fc.fGroup,.d (.sl (x.fc.fMore.map (eI .i64))),di x.fc.fCaps,di x.fc.fLevel,di x.fc.fKind,.srf 1,di x.flinks],.row 3 1 (x.fstack.map (eI .i64))])):=FinH.kc' (by kernel_rfl)
 unfold Kx at h
 obtain ⟨j,m,h⟩:=bind_some h
 by_cases g:j=0
 ·rw [if_pos g] at h
  obtain ⟨o,s,h⟩:=bind_some h
  by_cases k:o=0
  ·rw [if_pos k] at h
   by_cases p:(a.length:Int)=0
   ·rw [if_pos p] at h
    obtain rfl:=Option.some.inj h
    exact pendH_sound TTok mix 24 (hs:=[.r ((eI .i64) j),.t false,.c,.r ((eI .i64) o),.t false,.u (di (a.length:Int)),.t true]) [] (by kernel_rfl) (by kernel_rfl) (by kernel_rfl) (.cons (Si n e _ m) (.cons (nf g) (.cons (GL n i _ s) (.cons (nf k) (.cons (len_ob (f:=(eI .i64)) (l:=a)) (.cons (bt p) .nil))))))
   ·rw [if_neg p] at h
    obtain ⟨b,a0,h⟩:=bind_some h
    by_cases y:b.2.2=0
    ·rw [if_pos y] at h
     obtain ⟨a3,a4,h⟩:=bind_some h
     by_cases z:b.1=true
     ·rw [if_pos z] at h
      obtain ⟨a5,a1,h⟩:=bind_some h
      obtain rfl:=Option.some.inj h
      exact pendH_sound TTok mix 38 (hs:=[.r ((eI .i64) j),.t false,.c,.r ((eI .i64) o),.t false,.u (di (a.length:Int)),.t false,.r (.tup [eB b.1,(eL eS) b.2.1,(eI .i64) b.2.2]),.t false,.c,.h [] [] [.row 3 1 (a3.map (eI .i64))] (.srf 0),.t true,.c,.w (a5.map (eI .i64)),.c]) [170,210] (by kernel_rfl) (by kernel_rfl) (by kernel_rfl) (.cons (Si n e _ m) (.cons (nf g) (.cons (GL n i _ s) (.cons (nf k) (.cons (len_ob (f:=(eI .i64)) (l:=a)) (.cons (bf p) (.cons (KK n q _ a0) (.cons (nf y) (.cons (SP n a _ a4) (.cons z (.cons (Eq.refl (0:Int)) (.cons (subR_ob (f:=(eI .i64)) a1).1 (.cons (subR_ob (f:=(eI .i64)) a1).2.1 (.cons (subR_ob (f:=(eI .i64)) a1).2.2 (.cons (show 8+1≤10 by decide) .nil)))))))))))))))
     ·rw [if_neg z] at h
      obtain rfl:=Option.some.inj h
      exact pendH_sound TTok mix 38 (hs:=[.r ((eI .i64) j),.t false,.c,.r ((eI .i64) o),.t false,.u (di (a.length:Int)),.t false,.r (.tup [eB b.1,(eL eS) b.2.1,(eI .i64) b.2.2]),.t false,.c,.h [] [] [.row 3 1 (a3.map (eI .i64))] (.srf 0),.t false]) [170,160] (by kernel_rfl) (by kernel_rfl) (by kernel_rfl) (.cons (Si n e _ m) (.cons (nf g) (.cons (GL n i _ s) (.cons (nf k) (.cons (len_ob (f:=(eI .i64)) (l:=a)) (.cons (bf p) (.cons (KK n q _ a0) (.cons (nf y) (.cons (SP n a _ a4) (.cons (vf z) .nil))))))))))
    ·rw [if_neg y] at h
     obtain rfl:=Option.some.inj h
     exact pendH_sound TTok mix 31 (hs:=[.r ((eI .i64) j),.t false,.c,.r ((eI .i64) o),.t false,.u (di (a.length:Int)),.t false,.r (.tup [eB b.1,(eL eS) b.2.1,(eI .i64) b.2.2]),.t true]) [] (by kernel_rfl) (by kernel_rfl) (by kernel_rfl) (.cons (Si n e _ m) (.cons (nf g) (.cons (GL n i _ s) (.cons (nf k) (.cons (len_ob (f:=(eI .i64)) (l:=a)) (.cons (bf p) (.cons (KK n q _ a0) (.cons (nt y) .nil))))))))
  ·rw [if_neg k] at h
   obtain rfl:=Option.some.inj h
   exact pendH_sound TTok mix 19 (hs:=[.r ((eI .i64) j),.t false,.c,.r ((eI .i64) o),.t true]) [] (by kernel_rfl) (by kernel_rfl) (by kernel_rfl) (.cons (Si n e _ m) (.cons (nf g) (.cons (GL n i _ s) (.cons (nt k) .nil))))
 ·rw [if_neg g] at h
  obtain rfl:=Option.some.inj h
  exact pendH_sound TTok mix 12 (hs:=[.r ((eI .i64) j),.t true]) [] (by kernel_rfl) (by kernel_rfl) (by kernel_rfl) (.cons (Si n e _ m) (.cons (nt g) .nil))
/- (*ringhall/path.walker).top -/
def Kh (n:Nat) (a:Ge):Option (Int) :=
 (getI a.fstack (wi .i64 ((a.fstack.length:Int)-1))).bind fun (b:Int) =>
 some b
theorem GV (n:Nat) (a:Ge) (r:Int) (h:Kh n a=some r):Ret Tryd.prog 20 [.iptr (Sn a) 0] ((eI .i64) r):=by
 refine ret_run (n:=15) (fn:=Tryd.f20) (c:=bodyOf Tryd.f20) (by kernel_rfl) (by kernel_rfl) (by kernel_rfl) (by kernel_rfl) ?_
 have hF:KC 15 (FinR Tryd.prog Tryd.f20 ((eI .i64) r)):=FinR.kc' (by kernel_rfl)
 unfold Kh at h
 obtain ⟨b,e,h⟩:=bind_some h
 obtain rfl:=Option.some.inj h
 exact pend_sound TTok mix 5 (hs:=[.c,.c,.u (di (a.fstack.length:Int)),.y ((eI .i64) b),.c]) (by kernel_rfl) (by kernel_rfl) (by kernel_rfl) (.cons (len_ob (f:=(eI .i64)) (l:=a.fstack)) (.cons (getI_ob (f:=(eI .i64)) e) .nil))
/- (ringhall/ringref5.Tree).node -/
def GW (n:Nat) (b:Gg) (a:Int):Option ((Option Gk)) :=
 if a<1 then
  some (none:(Option Gk))
 else
  if a > (b.fNodes.length:Int) then
   some (none:(Option Gk))
  else
   (getI b.fNodes (wi .i64 (a-1))).bind fun (c:Gk) =>
   if c.fStat.fKind=0 then
    some (none:(Option Gk))
   else
    (getI b.fNodes (wi .i64 (a-1))).bind fun (d:Gk) =>
    some (some d)
theorem Gu (n:Nat) (a:Gg) (g:Int) (r:(Option Gk)) (h:GW n a g=some r):Ret Tryd.prog 32 [Gb a,(eI .i64) g] ((eO Gf) r):=by
 refine ret_run (n:=30) (fn:=Tryd.f32) (c:=bodyOf Tryd.f32) (by kernel_rfl) (by kernel_rfl) (by kernel_rfl) (by kernel_rfl) ?_
 have hF:KC 30 (FinR Tryd.prog Tryd.f32 ((eO Gf) r)):=FinR.kc' (by kernel_rfl)
 unfold GW at h
 by_cases b:g<1
 ·rw [if_pos b] at h
  obtain rfl:=Option.some.inj h
  exact pend_sound TTok mix 10 (hs:=[.t true,.c,.c,.c,.c,.c,.c,.c,.c,.c,.c,.c,.c,.c,.c]) (by kernel_rfl) (by kernel_rfl) (by kernel_rfl) (.cons (dt b) .nil)
 ·rw [if_neg b] at h
  by_cases e:g > (a.fNodes.length:Int)
  ·rw [if_pos e] at h
   obtain rfl:=Option.some.inj h
   exact pend_sound TTok mix 10 (hs:=[.t false,.c,.c,.c,.c,.u (di (a.fNodes.length:Int)),.c,.t true,.c,.c,.c,.c,.c,.c,.c,.c,.c]) (by kernel_rfl) (by kernel_rfl) (by kernel_rfl) (.cons (df b) (.cons (len_ob (f:=Gf) (l:=a.fNodes)) (.cons (dt e) .nil)))
  ·rw [if_neg e] at h
   obtain ⟨j,k,h⟩:=bind_some h
   by_cases i:j.fStat.fKind=0
   ·rw [if_pos i] at h
    obtain rfl:=Option.some.inj h
    exact pend_sound TTok mix 10 (hs:=[.t false,.c,.c,.c,.c,.u (di (a.fNodes.length:Int)),.c,.t false,.c,.c,.c,.c,.c,.y (Gf j),.c,.c,.c,.c,.c,.t true]) (by kernel_rfl) (by kernel_rfl) (by kernel_rfl) (.cons (df b) (.cons (len_ob (f:=Gf) (l:=a.fNodes)) (.cons (df e) (.cons (getI_ob (f:=Gf) k) (.cons (bt i) .nil)))))
   ·rw [if_neg i] at h
    obtain ⟨m,o,h⟩:=bind_some h
    obtain rfl:=Option.some.inj h
    exact pend_sound TTok mix 10 (hs:=[.t false,.c,.c,.c,.c,.u (di (a.fNodes.length:Int)),.c,.t false,.c,.c,.c,.c,.c,.y (Gf j),.c,.c,.c,.c,.c,.t false,.c,.y (Gf m)]) (by kernel_rfl) (by kernel_rfl) (by kernel_rfl) (.cons (df b) (.cons (len_ob (f:=Gf) (l:=a.fNodes)) (.cons (df e) (.cons (getI_ob (f:=Gf) k) (.cons (bf i) (.cons (getI_ob (f:=Gf) o) .nil))))))
/- (ringhall/ringref5.Tree).Stat -/
def GX (n:Nat) (b:Gg) (c:Int):Option (Gh×Int) :=
 (GW n b c).bind fun (a:((Option Gk))) =>
 if (a.isNone)=true then
  some ((Gh.mk 0 0 0 0 0 0),4)
 else
  (a).bind fun (d:Gk) =>
  some (d.fStat,0)
theorem Gm (n:Nat) (g:Gg) (i:Int) (r:Gh×Int) (h:GX n g i=some r):Ret Tryd.prog 29 [Gb g,(eI .i64) i] (.tup [GZ r.1,(eI .i64) r.2]):=by
 refine ret_run (n:=17) (fn:=Tryd.f29) (c:=bodyOf Tryd.f29) (by kernel_rfl) (by kernel_rfl) (by kernel_rfl) (by kernel_rfl) ?_
 have hF:KC 17 (FinR Tryd.prog Tryd.f29 (.tup [GZ r.1,(eI .i64) r.2])):=FinR.kc' (by kernel_rfl)
 unfold GX at h
 obtain ⟨b,k,h⟩:=bind_some h
 by_cases j:(b.isNone)=true
 ·rw [if_pos j] at h
  obtain rfl:=Option.some.inj h
  exact pend_sound TTok mix 12 (hs:=[.c,.r ((eO Gf) b),.e 40 [] (.d (.v (.bool (b.isNone)))) [],.t true,.c]) (by kernel_rfl) (by kernel_rfl) (by kernel_rfl) (.cons (Gu n g i _ k) (.cons (xnilO (P:=Tryd.prog) (T:=TT) (f:=Gf) (v:=b) (op:=.eql) (t:=82) (e:=81) (ty':=82) (x:=(.tmp 10)) (y:=(.const (.pointer none))) rfl (by kernel_rfl)) (.cons j (.cons (show 0+6≤6 by decide) .nil))))
 ·rw [if_neg j] at h
  obtain ⟨a,l,h⟩:=bind_some h
  obtain rfl:=Option.some.inj h
  exact pend_sound TTok mix 12 (hs:=[.c,.r ((eO Gf) b),.e 40 [] (.d (.v (.bool (b.isNone)))) [],.t false,.e 50 [] (.d (.iptr [.v (.int .i64 a.fStat.fKind),.v (.int .i64 a.fStat.fMode),.v (.int .i64 a.fStat.fUser),.v (.int .i64 a.fStat.fGroup),.v (.int .i64 a.fStat.fSize),.v (.int .i64 a.fStat.fLinks),.sl (a.fNames.map GE),.v (.string a.fTell)] 0)) [],.c]) (by kernel_rfl) (by kernel_rfl) (by kernel_rfl) (.cons (Gu n g i _ k) (.cons (xnilO (P:=Tryd.prog) (T:=TT) (f:=Gf) (v:=b) (op:=.eql) (t:=82) (e:=81) (ty':=82) (x:=(.tmp 10)) (y:=(.const (.pointer none))) rfl (by kernel_rfl)) (.cons (vf j) (.cons (xderO (P:=Tryd.prog) (T:=TT) (f:=Gf) (v:=b) (z:=a) (x:=(.tmp 13)) l) (.cons (show 0+6≤6 by decide) .nil)))))
inductive Zx where
 | x0 (a:Bool)
def Va:Zx→Ex
 | .x0 _=>.normal
def Vb (b:Gh):Zx→PS
 | .x0 a=>⟨(dds 30 [.d (.v (.bool a))]),[]⟩
def Vc (a:Gh)  : PS:=⟨(dd::.ref 0 0::(dds 29 [])),[.box [di a.fKind,di a.fMode,di a.fUser,di a.fGroup,di a.fSize,di a.fLinks]]⟩
def ZN (n:Nat) (a:Gh):Option Zx :=
 if a.fMode<0 then
  some (.x0 true)
 else
  if a.fMode > 511 then
   some (.x0 true)
  else
   if a.fUser<0 then
    some (.x0 true)
   else
    if a.fUser > 99 then
     some (.x0 true)
    else
     if a.fGroup<0 then
      some (.x0 true)
     else
      some (.x0 (decide (a.fGroup > 99)))
theorem Vd {Fi:Ex→PS→Prop} (hF:KC 31 Fi) (ks:List Fr) (n:Nat) (a:Gh)  (o:Zx) (h:ZN n a=some o) (q:RunE Tryd.prog 31 Fi ks (Va o) (Vb a o)):RunE Tryd.prog 31 Fi (.s (cL (cL (cR (bodyOf Tryd.f41))))::ks) .normal (Vc a):=by
 unfold ZN at h
 by_cases b:a.fMode<0
 ·rw [if_pos b] at h
  cases h
  exact pkk_sound TTok mix hF 1 (hs:=[.c,.t true,.c,.c,.c,.c,.c,.c,.c,.c,.c,.c,.c,.c,.c,.c]) (ts:=[]) (s:=[]) (l:=[30]) (by kernel_rfl) (by kernel_rfl) (.cons (dt b) .nil) q
 ·rw [if_neg b] at h
  by_cases d:a.fMode > 511
  ·rw [if_pos d] at h
   cases h
   exact pkk_sound TTok mix hF 1 (hs:=[.c,.t false,.c,.c,.c,.t true,.c,.c,.c,.c,.c,.c,.c,.c,.c,.c,.c]) (ts:=[]) (s:=[]) (l:=[30]) (by kernel_rfl) (by kernel_rfl) (.cons (df b) (.cons (dt d) .nil)) q
  ·rw [if_neg d] at h
   by_cases e:a.fUser<0
   ·rw [if_pos e] at h
    cases h
    exact pkk_sound TTok mix hF 1 (hs:=[.c,.t false,.c,.c,.c,.t false,.c,.c,.c,.t true,.c,.c,.c,.c,.c,.c,.c,.c]) (ts:=[]) (s:=[]) (l:=[30]) (by kernel_rfl) (by kernel_rfl) (.cons (df b) (.cons (df d) (.cons (dt e) .nil))) q
   ·rw [if_neg e] at h
    by_cases f:a.fUser > 99
    ·rw [if_pos f] at h
     cases h
     exact pkk_sound TTok mix hF 1 (hs:=[.c,.t false,.c,.c,.c,.t false,.c,.c,.c,.t false,.c,.c,.c,.t true,.c,.c,.c,.c,.c]) (ts:=[]) (s:=[]) (l:=[30]) (by kernel_rfl) (by kernel_rfl) (.cons (df b) (.cons (df d) (.cons (df e) (.cons (dt f) .nil)))) q
    ·rw [if_neg f] at h
     by_cases g:a.fGroup<0
     ·rw [if_pos g] at h
      cases h
      exact pkk_sound TTok mix hF 1 (hs:=[.c,.t false,.c,.c,.c,.t false,.c,.c,.c,.t false,.c,.c,.c,.t false,.c,.c,.c,.t true,.c,.c]) (ts:=[]) (s:=[]) (l:=[30]) (by kernel_rfl) (by kernel_rfl) (.cons (df b) (.cons (df d) (.cons (df e) (.cons (df f) (.cons (dt g) .nil))))) q
     ·rw [if_neg g] at h
      cases h
      exact pkk_sound TTok mix hF 1 (hs:=[.c,.t false,.c,.c,.c,.t false,.c,.c,.c,.t false,.c,.c,.c,.t false,.c,.c,.c,.t false,.c,.c,.c]) (ts:=[]) (s:=[]) (l:=[30]) (by kernel_rfl) (by kernel_rfl) (.cons (df b) (.cons (df d) (.cons (df e) (.cons (df f) (.cons (df g) .nil))))) q
/- ringhall/mode.Check -/
def SK (n:Nat) (a:Gh):Option (Int) :=
 (ZN n a).bind fun b=>match b with
 | .x0 c =>
  if c=true then
   some 1
  else
   some 0
theorem ZO (n:Nat) (b:Gh) (r:Int) (h:SK n b=some r):Ret Tryd.prog 41 [GZ b] ((eI .i64) r):=by
 refine ret_run (n:=31) (fn:=Tryd.f41) (c:=bodyOf Tryd.f41) (by kernel_rfl) (by kernel_rfl) (by kernel_rfl) (by kernel_rfl) ?_
 have hF:KC 31 (FinR Tryd.prog Tryd.f41 ((eI .i64) r)):=FinR.kc' (by kernel_rfl)
 unfold SK at h
 obtain ⟨d,e,h⟩:=bind_some h
 refine pkk_sound TTok mix hF 4 (hs:=[]) (ts:=[]) (s:=[0]) (l:=[1]) (by kernel_rfl) (by kernel_rfl) .nil (Vd hF (.s (cR (cL (cR (bodyOf Tryd.f41))))::.s (cR (cR (bodyOf Tryd.f41)))::[]) n b _ e ?_)
 cases d with
 | x0 f =>
  try dsimp only at h
  by_cases a:f=true
  ·rw [if_pos a] at h
   obtain rfl:=Option.some.inj h
   exact pend_sound TTok mix 5 (hs:=[.t true]) (by kernel_rfl) (by kernel_rfl) (by kernel_rfl) (.cons a .nil)
  ·rw [if_neg a] at h
   obtain rfl:=Option.some.inj h
   exact pend_sound TTok mix 5 (hs:=[.t false]) (by kernel_rfl) (by kernel_rfl) (by kernel_rfl) (.cons (vf a) .nil)
/- ringhall/mode.wanted -/
def Yo (n:Nat) (a:Int):Option (Int) :=
 some (bits .or .i64 (bits .or .i64 (shlI .i64 (bits .and .i64 a 1) 2) (bits .and .i64 a 2)) (shrI .i64 (bits .and .i64 a 4) 2))
theorem Vs (n:Nat) (a r:Int) (h:Yo n a=some r):Ret Tryd.prog 42 [(eI .i64) a] ((eI .i64) r):=by
 refine ret_run (n:=13) (fn:=Tryd.f42) (c:=bodyOf Tryd.f42) (by kernel_rfl) (by kernel_rfl) (by kernel_rfl) (by kernel_rfl) ?_
 have hF:KC 13 (FinR Tryd.prog Tryd.f42 ((eI .i64) r)):=FinR.kc' (by kernel_rfl)
 unfold Yo at h
 obtain rfl:=Option.some.inj h
 exact pend_sound TTok mix 5 (hs:=[]) (by kernel_rfl) (by kernel_rfl) (by kernel_rfl) (.cons (show (0:Int)≤2 by decide) (.cons (show (0:Int)≤2 by decide) .nil))
inductive SF where
 | x0 (a:Int)
 | x1 
def YE:SF→Ex
 | .x0 _=>.ret
 | .x1  => .exit 0
def YF (b:(List Int)) (c:Int):SF→PS
 | .x0 a=>⟨(dd::dd::dd::dd::di a::(dds 14 [])),[]⟩
 | .x1  => ⟨(dds 19 []),[]⟩
def YG (a:(List Int)) (b c:Int):PS:=⟨(.d (.sl (a.map (eI .i64)))::di b::dd::dd::dd::dd::dd::di (a.length:Int)::di c::(dds 10 [])),[]⟩
def Gr (n:Nat) (b:(List Int)) (c:Int):Nat→Int→Option SF
 | 0,_=>none
 | k+1,a =>
  if a<(b.length:Int) then
   (getI b a).bind fun (d:Int) =>
   if c=d then
    some (.x0 a)
   else
    Gr n b c k (wi .i64 (a+1))
  else
   some (.x1 )
theorem ZC {Fi:Ex→PS→Prop} (hF:KC 19 Fi) (ks:List Fr) (n:Nat) (b:(List Int)) (d:Int)  : ∀ (k:Nat) (a:Int) (o:SF),Gr n b d k a=some o→RunE Tryd.prog 19 Fi ks (YE o) (YF b d o)→RunE Tryd.prog 19 Fi (.l k (cP (cB (cR (cL (cR (bodyOf Tryd.f57))))))::ks) .normal (YG b d a)
 | 0,a,o,h,q=>by rw [Gr] at h; cases h
 | k+1,a,o,h,q=>by
  rw [Gr] at h
  by_cases e:a<(b.length:Int)
  ·rw [if_pos e] at h
   obtain ⟨i,j,h⟩:=bind_some h
   by_cases g:d=i
   ·rw [if_pos g] at h
    cases h
    exact pkk_sound TTok mix hF 19 (hs:=[.t true,.y ((eI .i64) i),.c,.t true]) (ts:=[]) (s:=[]) (l:=[4]) (by kernel_rfl) (by kernel_rfl) (.cons (dt e) (.cons (getI_ob (f:=(eI .i64)) j) (.cons (bt g) .nil))) q
   ·rw [if_neg g] at h
    exact pkk_sound TTok mix hF 16 (hs:=[.t true,.y ((eI .i64) i),.c,.t false]) (ts:=[]) (s:=[]) (l:=[0,1,7,8]) (by kernel_rfl) (by kernel_rfl) (.cons (dt e) (.cons (getI_ob (f:=(eI .i64)) j) (.cons (bf g) .nil))) (ZC hF ks n b d k (wi .i64 (a+1)) _ h q)
  ·rw [if_neg e] at h
   cases h
   exact pkk_sound TTok mix hF 8 (hs:=[.t false]) (ts:=[]) (s:=[]) (l:=[]) (by kernel_rfl) (by kernel_rfl) (.cons (df e) .nil) q
/- slices.Index[[]int,int] -/
def G4 (n:Nat) (a:(List Int)) (b:Int):Option (Int) :=
 (Gr n a b n 0).bind fun c=>match c with
 | .x0 d =>
  some d
 | .x1  =>
  some (-1)
theorem Xm (n:Nat) (a:(List Int)) (e r:Int) (h:G4 n a e=some r):Ret Tryd.prog 57 [(eL (eI .i64)) a,(eI .i64) e] ((eI .i64) r):=by
 refine ret_run (n:=19) (fn:=Tryd.f57) (c:=bodyOf Tryd.f57) (by kernel_rfl) (by kernel_rfl) (by kernel_rfl) (by kernel_rfl) ?_
 have hF:KC 19 (FinR Tryd.prog Tryd.f57 ((eI .i64) r)):=FinR.kc' (by kernel_rfl)
 unfold G4 at h
 obtain ⟨g,i,h⟩:=bind_some h
 refine pkk_sound TTok mix hF 7 (hs:=[.u (di (a.length:Int)),.n n]) (ts:=[]) (s:=[]) (l:=[0,1,7,8]) (by kernel_rfl) (by kernel_rfl) (.cons (len_ob (f:=(eI .i64)) (l:=a)) .nil) (ZC hF (.b 0::.s (cR (cR (bodyOf Tryd.f57)))::[]) n a e n 0 _ i ?_)
 cases g with
 | x0 j =>
  try dsimp only at h
  obtain rfl:=Option.some.inj h
  exact pend_sound TTok mix 2 (hs:=[]) (by kernel_rfl) (by kernel_rfl) (by kernel_rfl) .nil
 | x1  =>
  try dsimp only at h
  obtain rfl:=Option.some.inj h
  exact pend_sound TTok mix 4 (hs:=[]) (by kernel_rfl) (by kernel_rfl) (by kernel_rfl) .nil
/- slices.Contains[[]int,int] -/
def GA (n:Nat) (a:(List Int)) (b:Int):Option (Bool) :=
 (G4 n a b).bind fun (c:(Int)) =>
 some (decide (c≥0))
theorem Sb (n:Nat) (a:(List Int)) (b:Int) (r:Bool) (h:GA n a b=some r):Ret Tryd.prog 47 [(eL (eI .i64)) a,(eI .i64) b] (eB r):=by
 refine ret_run (n:=9) (fn:=Tryd.f47) (c:=bodyOf Tryd.f47) (by kernel_rfl) (by kernel_rfl) (by kernel_rfl) (by kernel_rfl) ?_
 have hF:KC 9 (FinR Tryd.prog Tryd.f47 (eB r)):=FinR.kc' (by kernel_rfl)
 unfold GA at h
 obtain ⟨d,e,h⟩:=bind_some h
 obtain rfl:=Option.some.inj h
 exact pend_sound TTok mix 5 (hs:=[.r ((eI .i64) d)]) (by kernel_rfl) (by kernel_rfl) (by kernel_rfl) (.cons (Xm n a b _ e) .nil)
/- ringhall/cred.In -/
def YR (n:Nat) (a:Gc) (b:Int):Option (Bool×Int) :=
 (Sm n a).bind fun (c:(Int)) =>
 if c=0 then
  if b=a.fGroup then
   some (true,0)
  else
   (GA n a.fMore b).bind fun (d:(Bool)) =>
   some (d,0)
 else
  some (false,c)
theorem Ve (n:Nat) (a:Gc) (d:Int) (r:Bool×Int) (h:YR n a d=some r):Ret Tryd.prog 55 [G0 a,(eI .i64) d] (.tup [eB r.1,(eI .i64) r.2]):=by
 refine ret_run (n:=22) (fn:=Tryd.f55) (c:=bodyOf Tryd.f55) (by kernel_rfl) (by kernel_rfl) (by kernel_rfl) (by kernel_rfl) ?_
 have hF:KC 22 (FinR Tryd.prog Tryd.f55 (.tup [eB r.1,(eI .i64) r.2])):=FinR.kc' (by kernel_rfl)
 unfold YR at h
 obtain ⟨e,g,h⟩:=bind_some h
 by_cases b:e=0
 ·rw [if_pos b] at h
  by_cases f:d=a.fGroup
  ·rw [if_pos f] at h
   obtain rfl:=Option.some.inj h
   exact pend_sound TTok mix 12 (hs:=[.c,.r ((eI .i64) e),.t false,.c,.t true,.c,.c,.c]) (by kernel_rfl) (by kernel_rfl) (by kernel_rfl) (.cons (GL n a _ g) (.cons (nf b) (.cons (bt f) .nil)))
  ·rw [if_neg f] at h
   obtain ⟨i,j,h⟩:=bind_some h
   obtain rfl:=Option.some.inj h
   exact pend_sound TTok mix 12 (hs:=[.c,.r ((eI .i64) e),.t false,.c,.t false,.c,.c,.c,.c,.r (eB i)]) (by kernel_rfl) (by kernel_rfl) (by kernel_rfl) (.cons (GL n a _ g) (.cons (nf b) (.cons (bf f) (.cons (Sb n a.fMore d _ j) .nil))))
 ·rw [if_neg b] at h
  obtain rfl:=Option.some.inj h
  exact pend_sound TTok mix 12 (hs:=[.c,.r ((eI .i64) e),.t true]) (by kernel_rfl) (by kernel_rfl) (by kernel_rfl) (.cons (GL n a _ g) (.cons (nt b) .nil))
/- ringhall/mode.bits -/
def Yf (n:Nat) (a:Gh) (b:Gc):Option (Int) :=
 if b.fUser=a.fUser then
  some (shrI .i64 a.fMode 6)
 else
  (YR n b a.fGroup).bind fun (c:(Bool×Int)) =>
  if c.1=true then
   some (bits .and .i64 (shrI .i64 a.fMode 3) 7)
  else
   some (bits .and .i64 a.fMode 7)
theorem Vt (n:Nat) (a:Gh) (b:Gc) (r:Int) (h:Yf n a b=some r):Ret Tryd.prog 43 [GZ a,G0 b] ((eI .i64) r):=by
 refine ret_run (n:=30) (fn:=Tryd.f43) (c:=bodyOf Tryd.f43) (by kernel_rfl) (by kernel_rfl) (by kernel_rfl) (by kernel_rfl) ?_
 have hF:KC 30 (FinR Tryd.prog Tryd.f43 ((eI .i64) r)):=FinR.kc' (by kernel_rfl)
 unfold Yf at h
 by_cases d:b.fUser=a.fUser
 ·rw [if_pos d] at h
  obtain rfl:=Option.some.inj h
  exact pend_sound TTok mix 10 (hs:=[.c,.c,.t true,.c]) (by kernel_rfl) (by kernel_rfl) (by kernel_rfl) (.cons (bt d) (.cons (show (0:Int)≤6 by decide) .nil))
 ·rw [if_neg d] at h
  obtain ⟨e,g,h⟩:=bind_some h
  by_cases f:e.1=true
  ·rw [if_pos f] at h
   obtain rfl:=Option.some.inj h
   exact pend_sound TTok mix 17 (hs:=[.c,.c,.t false,.c,.c,.r (.tup [eB e.1,(eI .i64) e.2]),.t true,.c]) (by kernel_rfl) (by kernel_rfl) (by kernel_rfl) (.cons (bf d) (.cons (Ve n b a.fGroup _ g) (.cons f (.cons (show (0:Int)≤3 by decide) .nil))))
  ·rw [if_neg f] at h
   obtain rfl:=Option.some.inj h
   exact pend_sound TTok mix 17 (hs:=[.c,.c,.t false,.c,.c,.r (.tup [eB e.1,(eI .i64) e.2]),.t false,.c]) (by kernel_rfl) (by kernel_rfl) (by kernel_rfl) (.cons (bf d) (.cons (Ve n b a.fGroup _ g) (.cons (vf f) .nil)))
inductive ZG where
 | x0 (a:Int)
def Vi:ZG→Ex
 | .x0 _=>.normal
def Vj (a:Gc) (c:Gh):ZG→PS
 | .x0 b=>⟨(dd::dd::dd::.ref 0 0::dd::di b::(dds 18 [])),[.box [di a.fUser,di a.fGroup,.d (.sl (a.fMore.map (eI .i64))),di a.fCaps,di a.fLevel,di a.fKind]]⟩
def Vk (a:Gc) (b:Gh)  : PS:=⟨(dd::dd::.ref 0 0::.ref 1 0::dd::di 0::dd::dd::dd::.d (.v (.bool ((bits .and .i64 a.fCaps 1) != 0)))::(dds 14 [])),[.box [di b.fKind,di b.fMode,di b.fUser,di b.fGroup,di b.fSize,di b.fLinks],.box [di a.fUser,di a.fGroup,.d (.sl (a.fMore.map (eI .i64))),di a.fCaps,di a.fLevel,di a.fKind]]⟩
def Z5 (n:Nat) (a:Gc) (b:Gh):Option ZG :=
 if (bits .and .i64 a.fCaps 1)=0 then
  some (.x0 0)
 else
  if b.fKind=2 then
   some (.x0 (bits .or .i64 (bits .or .i64 0 4) 1))
  else
   some (.x0 (bits .or .i64 0 4))
theorem Vl {Fi:Ex→PS→Prop} (hF:KC 24 Fi) (ks:List Fr) (n:Nat) (b:Gc) (d:Gh)  (o:ZG) (h:Z5 n b d=some o) (q:RunE Tryd.prog 24 Fi ks (Vi o) (Vj b d o)):RunE Tryd.prog 24 Fi (.s (cR (cL (cR (cR (bodyOf Tryd.f44)))))::ks) .normal (Vk b d):=by
 unfold Z5 at h
 by_cases a:(bits .and .i64 b.fCaps 1)=0
 ·rw [if_pos a] at h
  cases h
  exact pkk_sound TTok mix hF 2 (hs:=[.t false]) (ts:=[]) (s:=[1]) (l:=[3,5]) (by kernel_rfl) (by kernel_rfl) (.cons (nf a) .nil) q
 ·rw [if_neg a] at h
  by_cases e:d.fKind=2
  ·rw [if_pos e] at h
   cases h
   exact pkk_sound TTok mix hF 7 (hs:=[.t true,.c,.t true]) (ts:=[]) (s:=[1]) (l:=[3,5]) (by kernel_rfl) (by kernel_rfl) (.cons (nt a) (.cons (bt e) .nil)) q
  ·rw [if_neg e] at h
   cases h
   exact pkk_sound TTok mix hF 7 (hs:=[.t true,.c,.t false]) (ts:=[]) (s:=[1]) (l:=[3,5]) (by kernel_rfl) (by kernel_rfl) (.cons (nt a) (.cons (bf e) .nil)) q
/- ringhall/mode.over -/
def Yg (n:Nat) (c:Gh) (a:Gc):Option (Int) :=
 (Z5 n a c).bind fun d=>match d with
 | .x0 b =>
  if (bits .and .i64 a.fCaps 2)=0 then
   some b
  else
   some (bits .or .i64 b 2)
theorem Vu (n:Nat) (d:Gh) (a:Gc) (r:Int) (h:Yg n d a=some r):Ret Tryd.prog 44 [GZ d,G0 a] ((eI .i64) r):=by
 refine ret_run (n:=24) (fn:=Tryd.f44) (c:=bodyOf Tryd.f44) (by kernel_rfl) (by kernel_rfl) (by kernel_rfl) (by kernel_rfl) ?_
 have hF:KC 24 (FinR Tryd.prog Tryd.f44 ((eI .i64) r)):=FinR.kc' (by kernel_rfl)
 unfold Yg at h
 obtain ⟨e,f,h⟩:=bind_some h
 refine pkk_sound TTok mix hF 7 (hs:=[.c]) (ts:=[]) (s:=[0,5]) (l:=[2,3,5,9]) (by kernel_rfl) (by kernel_rfl) .nil (Vl hF (.s (cR (cR (cR (bodyOf Tryd.f44))))::[]) n a d _ f ?_)
 cases e with
 | x0 g =>
  try dsimp only at h
  by_cases b:(bits .and .i64 a.fCaps 2)=0
  ·rw [if_pos b] at h
   obtain rfl:=Option.some.inj h
   exact pend_sound TTok mix 8 (hs:=[.c,.t false]) (by kernel_rfl) (by kernel_rfl) (by kernel_rfl) (.cons (nf b) .nil)
  ·rw [if_neg b] at h
   obtain rfl:=Option.some.inj h
   exact pend_sound TTok mix 8 (hs:=[.c,.t true]) (by kernel_rfl) (by kernel_rfl) (by kernel_rfl) (.cons (nt b) .nil)
/- ringhall/mode.May -/
def ZH (n:Nat) (a:Gh) (b:Gc) (c:Int):Option (Bool×Int) :=
 (Sm n b).bind fun (d:(Int)) =>
 if d=0 then
  (SK n a).bind fun (e:(Int)) =>
  if e=0 then
   if c<0 then
    some (false,1)
   else
    if c > 7 then
     some (false,1)
    else
     (Yo n c).bind fun (f:(Int)) =>
     (Yf n a b).bind fun (g:(Int)) =>
     (Yg n a b).bind fun (h:(Int)) =>
     some (((bits .andNot .i64 f (bits .or .i64 g h)) == 0),0)
  else
   some (false,e)
 else
  some (false,d)
theorem YT (n:Nat) (b:Gh) (a:Gc) (g:Int) (r:Bool×Int) (h:ZH n b a g=some r):Ret Tryd.prog 23 [GZ b,G0 a,(eI .i64) g] (.tup [eB r.1,(eI .i64) r.2]):=by
 refine ret_run (n:=37) (fn:=Tryd.f23) (c:=bodyOf Tryd.f23) (by kernel_rfl) (by kernel_rfl) (by kernel_rfl) (by kernel_rfl) ?_
 have hF:KC 37 (FinR Tryd.prog Tryd.f23 (.tup [eB r.1,(eI .i64) r.2])):=FinR.kc' (by kernel_rfl)
 unfold ZH at h
 obtain ⟨e,i,h⟩:=bind_some h
 by_cases d:e=0
 ·rw [if_pos d] at h
  obtain ⟨j,l,h⟩:=bind_some h
  by_cases f:j=0
  ·rw [if_pos f] at h
   by_cases k:g<0
   ·rw [if_pos k] at h
    obtain rfl:=Option.some.inj h
    exact pend_sound TTok mix 24 (hs:=[.c,.r ((eI .i64) e),.t false,.c,.r ((eI .i64) j),.t false,.t true,.c,.c]) (by kernel_rfl) (by kernel_rfl) (by kernel_rfl) (.cons (GL n a _ i) (.cons (nf d) (.cons (ZO n b _ l) (.cons (nf f) (.cons (dt k) .nil)))))
   ·rw [if_neg k] at h
    by_cases m:g > 7
    ·rw [if_pos m] at h
     obtain rfl:=Option.some.inj h
     exact pend_sound TTok mix 24 (hs:=[.c,.r ((eI .i64) e),.t false,.c,.r ((eI .i64) j),.t false,.t false,.c,.t true]) (by kernel_rfl) (by kernel_rfl) (by kernel_rfl) (.cons (GL n a _ i) (.cons (nf d) (.cons (ZO n b _ l) (.cons (nf f) (.cons (df k) (.cons (dt m) .nil))))))
    ·rw [if_neg m] at h
     obtain ⟨o,p,h⟩:=bind_some h
     obtain ⟨q,s,h⟩:=bind_some h
     obtain ⟨u,v,h⟩:=bind_some h
     obtain rfl:=Option.some.inj h
     exact pend_sound TTok mix 24 (hs:=[.c,.r ((eI .i64) e),.t false,.c,.r ((eI .i64) j),.t false,.t false,.c,.t false,.r ((eI .i64) o),.c,.c,.r ((eI .i64) q),.c,.c,.r ((eI .i64) u)]) (by kernel_rfl) (by kernel_rfl) (by kernel_rfl) (.cons (GL n a _ i) (.cons (nf d) (.cons (ZO n b _ l) (.cons (nf f) (.cons (df k) (.cons (df m) (.cons (Vs n g _ p) (.cons (Vt n b a _ s) (.cons (Vu n b a _ v) .nil)))))))))
  ·rw [if_neg f] at h
   obtain rfl:=Option.some.inj h
   exact pend_sound TTok mix 19 (hs:=[.c,.r ((eI .i64) e),.t false,.c,.r ((eI .i64) j),.t true]) (by kernel_rfl) (by kernel_rfl) (by kernel_rfl) (.cons (GL n a _ i) (.cons (nf d) (.cons (ZO n b _ l) (.cons (nt f) .nil))))
 ·rw [if_neg d] at h
  obtain rfl:=Option.some.inj h
  exact pend_sound TTok mix 12 (hs:=[.c,.r ((eI .i64) e),.t true]) (by kernel_rfl) (by kernel_rfl) (by kernel_rfl) (.cons (GL n a _ i) (.cons (nt d) .nil))
/- (*ringhall/path.walker).may -/
def SI (n:Nat) (a:Ge):Option (Int×Ge) :=
 (Kh n a).bind fun (d:(Int)) =>
 (GX n a.ft d).bind fun (b:(Gh×Int)) =>
 if b.2=0 then
  if b.1.fKind=2 then
   (ZH n b.1 a.fc 4).bind fun (c:(Bool×Int)) =>
   if c.2=0 then
    if c.1=true then
     some (0,a)
    else
     some (7,a)
   else
    some (7,a)
  else
   some (12,a)
 else
  some (b.2,a)
theorem GN (n:Nat) (a:Ge) (r:Int×Ge) (h:SI n a=some r):RetH Tryd.prog 12 [.ref 0 0] [.box [.d (.ifc 24 (Gb a.ft)),.d (.sl (a.fmounts.map Ga)),di a.fc.fUser,di a.fc.fGroup,.d (.sl (a.fc.fMore.map (eI .i64))),di a.fc.fCaps,di a.fc.fLevel,di a.fc.fKind,.srf 1,di a.flinks],.row 3 1 (a.fstack.map (eI .i64))] (.d ((eI .i64) r.1)) [.box [.d (.ifc 24 (Gb r.2.ft)),.d (.sl (r.2.fmounts.map Ga)),di r.2.fc.fUser,di r.2.fc.fGroup,.d (.sl (r.2.fc.fMore.map (eI .i64))),di r.2.fc.fCaps,di r.2.fc.fLevel,di r.2.fc.fKind,.srf 2,di r.2.flinks],.none,.row 3 1 (r.2.fstack.map (eI .i64))]:=by
 refine retH_run (n:=40) (fn:=Tryd.f12) (c:=bodyOf Tryd.f12) (by kernel_rfl) (by kernel_rfl) (by kernel_rfl) (by kernel_rfl) ?_
 have hF:KC 40 (FinH Tryd.prog Tryd.f12 [.box [.d (.ifc 24 (Gb a.ft)),.d (.sl (a.fmounts.map Ga)),di a.fc.fUser,di a.fc.fGroup,.d (.sl (a.fc.fMore.map (eI .i64))),di a.fc.fCaps,di a.fc.fLevel,di a.fc.fKind,.srf 1,di a.flinks],.row 3 1 (a.fstack.map (eI .i64))] (.d ((eI .i64) r.1)) [.box [.d (.ifc 24 (Gb r.2.ft)),.d (.sl (r.2.fmounts.map Ga)),di r.2.fc.fUser,di r.2.fc.fGroup,.d (.sl (r.2.fc.fMore.map (eI .i64))),di r.2.fc.fCaps,di r.2.fc.fLevel,di r.2.fc.fKind,.srf 2,di r.2.flinks],.none,.row 3 1 (r.2.fstack.map (eI .i64))]):=FinH.kc' (by kernel_rfl)
 unfold SI at h
 obtain ⟨i,o,h⟩:=bind_some h
 obtain ⟨b,p,h⟩:=bind_some h
 by_cases k:b.2=0
 ·rw [if_pos k] at h
  by_cases m:b.1.fKind=2
  ·rw [if_pos m] at h
   obtain ⟨j,w,h⟩:=bind_some h
   by_cases q:j.2=0
   ·rw [if_pos q] at h
    by_cases u:j.1=true
    ·rw [if_pos u] at h
     obtain rfl:=Option.some.inj h
     exact pendH_sound TTok mix 25 (hs:=[.c,.e 34 [0,1] (di i) [],.e 49 [] (.d (.tup [.agg [.v (.int .i64 b.1.fKind),.v (.int .i64 b.1.fMode),.v (.int .i64 b.1.fUser),.v (.int .i64 b.1.fGroup),.v (.int .i64 b.1.fSize),.v (.int .i64 b.1.fLinks)],.v (.int .i64 b.2)])) [],.c,.t false,.c,.t false,.c,.c,.r (.tup [eB j.1,(eI .i64) j.2]),.t false,.c,.t false,.dl 4,.mv 1]) [0,1,199] (by kernel_rfl) (by kernel_rfl) (by kernel_rfl) (.cons (lcall (P:=Tryd.prog) (T:=TT) (f:=.func 20) (args:=#[(.tmp 12)]) (tys:=#[44]) (g:=20) (l:=0) (L:=1) (e:=3) (s:=1) (cs:=[.d (.ifc 24 (Gb a.ft)),.d (.sl (a.fmounts.map Ga)),di a.fc.fUser,di a.fc.fGroup,.d (.sl (a.fc.fMore.map (eI .i64))),di a.fc.fCaps,di a.fc.fLevel,di a.fc.fKind,.srf 1,di a.flinks]) (pre:=[.ifc 24 (Gb a.ft),.sl (a.fmounts.map Ga),.v (.int .i64 a.fc.fUser),.v (.int .i64 a.fc.fGroup),.sl (a.fc.fMore.map (eI .i64)),.v (.int .i64 a.fc.fCaps),.v (.int .i64 a.fc.fLevel),.v (.int .i64 a.fc.fKind)]) (post:=[.v (.int .i64 a.flinks)]) (xs:=(a.fstack.map (eI .i64))) (ds:=(Sn a)) (ps:=[]) (by kernel_rfl) (by kernel_rfl) (GV n a _ o) (by rfl)) (.cons (icallD (P:=Tryd.prog) (T:=TT) (x:=(.tmp 15)) (args:=#[(.tmp 13)]) (tys:=#[3]) (name := "Stat") (t:=24) (y:=Gb a.ft) (ps:=[.v (.int .i64 i)]) (g:=29) (by kernel_rfl) (Gm n a.ft i _ p)) (.cons (show 0+6≤6 by decide) (.cons (nf k) (.cons (nf m) (.cons (YT n b.1 a.fc 4 _ w) (.cons (nf q) (.cons (bnf u) .nil))))))))
    ·rw [if_neg u] at h
     obtain rfl:=Option.some.inj h
     exact pendH_sound TTok mix 25 (hs:=[.c,.e 34 [0,1] (di i) [],.e 49 [] (.d (.tup [.agg [.v (.int .i64 b.1.fKind),.v (.int .i64 b.1.fMode),.v (.int .i64 b.1.fUser),.v (.int .i64 b.1.fGroup),.v (.int .i64 b.1.fSize),.v (.int .i64 b.1.fLinks)],.v (.int .i64 b.2)])) [],.c,.t false,.c,.t false,.c,.c,.r (.tup [eB j.1,(eI .i64) j.2]),.t false,.c,.t true,.dl 4,.mv 1]) [0,1,199] (by kernel_rfl) (by kernel_rfl) (by kernel_rfl) (.cons (lcall (P:=Tryd.prog) (T:=TT) (f:=.func 20) (args:=#[(.tmp 12)]) (tys:=#[44]) (g:=20) (l:=0) (L:=1) (e:=3) (s:=1) (cs:=[.d (.ifc 24 (Gb a.ft)),.d (.sl (a.fmounts.map Ga)),di a.fc.fUser,di a.fc.fGroup,.d (.sl (a.fc.fMore.map (eI .i64))),di a.fc.fCaps,di a.fc.fLevel,di a.fc.fKind,.srf 1,di a.flinks]) (pre:=[.ifc 24 (Gb a.ft),.sl (a.fmounts.map Ga),.v (.int .i64 a.fc.fUser),.v (.int .i64 a.fc.fGroup),.sl (a.fc.fMore.map (eI .i64)),.v (.int .i64 a.fc.fCaps),.v (.int .i64 a.fc.fLevel),.v (.int .i64 a.fc.fKind)]) (post:=[.v (.int .i64 a.flinks)]) (xs:=(a.fstack.map (eI .i64))) (ds:=(Sn a)) (ps:=[]) (by kernel_rfl) (by kernel_rfl) (GV n a _ o) (by rfl)) (.cons (icallD (P:=Tryd.prog) (T:=TT) (x:=(.tmp 15)) (args:=#[(.tmp 13)]) (tys:=#[3]) (name := "Stat") (t:=24) (y:=Gb a.ft) (ps:=[.v (.int .i64 i)]) (g:=29) (by kernel_rfl) (Gm n a.ft i _ p)) (.cons (show 0+6≤6 by decide) (.cons (nf k) (.cons (nf m) (.cons (YT n b.1 a.fc 4 _ w) (.cons (nf q) (.cons (bnt (vf u)) .nil))))))))
   ·rw [if_neg q] at h
    obtain rfl:=Option.some.inj h
    exact pendH_sound TTok mix 25 (hs:=[.c,.e 34 [0,1] (di i) [],.e 49 [] (.d (.tup [.agg [.v (.int .i64 b.1.fKind),.v (.int .i64 b.1.fMode),.v (.int .i64 b.1.fUser),.v (.int .i64 b.1.fGroup),.v (.int .i64 b.1.fSize),.v (.int .i64 b.1.fLinks)],.v (.int .i64 b.2)])) [],.c,.t false,.c,.t false,.c,.c,.r (.tup [eB j.1,(eI .i64) j.2]),.t true,.c,.c,.dl 4,.mv 1]) [0,1,199] (by kernel_rfl) (by kernel_rfl) (by kernel_rfl) (.cons (lcall (P:=Tryd.prog) (T:=TT) (f:=.func 20) (args:=#[(.tmp 12)]) (tys:=#[44]) (g:=20) (l:=0) (L:=1) (e:=3) (s:=1) (cs:=[.d (.ifc 24 (Gb a.ft)),.d (.sl (a.fmounts.map Ga)),di a.fc.fUser,di a.fc.fGroup,.d (.sl (a.fc.fMore.map (eI .i64))),di a.fc.fCaps,di a.fc.fLevel,di a.fc.fKind,.srf 1,di a.flinks]) (pre:=[.ifc 24 (Gb a.ft),.sl (a.fmounts.map Ga),.v (.int .i64 a.fc.fUser),.v (.int .i64 a.fc.fGroup),.sl (a.fc.fMore.map (eI .i64)),.v (.int .i64 a.fc.fCaps),.v (.int .i64 a.fc.fLevel),.v (.int .i64 a.fc.fKind)]) (post:=[.v (.int .i64 a.flinks)]) (xs:=(a.fstack.map (eI .i64))) (ds:=(Sn a)) (ps:=[]) (by kernel_rfl) (by kernel_rfl) (GV n a _ o) (by rfl)) (.cons (icallD (P:=Tryd.prog) (T:=TT) (x:=(.tmp 15)) (args:=#[(.tmp 13)]) (tys:=#[3]) (name := "Stat") (t:=24) (y:=Gb a.ft) (ps:=[.v (.int .i64 i)]) (g:=29) (by kernel_rfl) (Gm n a.ft i _ p)) (.cons (show 0+6≤6 by decide) (.cons (nf k) (.cons (nf m) (.cons (YT n b.1 a.fc 4 _ w) (.cons (nt q) .nil)))))))
  ·rw [if_neg m] at h
   obtain rfl:=Option.some.inj h
   exact pendH_sound TTok mix 18 (hs:=[.c,.e 34 [0,1] (di i) [],.e 49 [] (.d (.tup [.agg [.v (.int .i64 b.1.fKind),.v (.int .i64 b.1.fMode),.v (.int .i64 b.1.fUser),.v (.int .i64 b.1.fGroup),.v (.int .i64 b.1.fSize),.v (.int .i64 b.1.fLinks)],.v (.int .i64 b.2)])) [],.c,.t false,.c,.t true,.dl 4,.mv 1]) [0,1,114] (by kernel_rfl) (by kernel_rfl) (by kernel_rfl) (.cons (lcall (P:=Tryd.prog) (T:=TT) (f:=.func 20) (args:=#[(.tmp 12)]) (tys:=#[44]) (g:=20) (l:=0) (L:=1) (e:=3) (s:=1) (cs:=[.d (.ifc 24 (Gb a.ft)),.d (.sl (a.fmounts.map Ga)),di a.fc.fUser,di a.fc.fGroup,.d (.sl (a.fc.fMore.map (eI .i64))),di a.fc.fCaps,di a.fc.fLevel,di a.fc.fKind,.srf 1,di a.flinks]) (pre:=[.ifc 24 (Gb a.ft),.sl (a.fmounts.map Ga),.v (.int .i64 a.fc.fUser),.v (.int .i64 a.fc.fGroup),.sl (a.fc.fMore.map (eI .i64)),.v (.int .i64 a.fc.fCaps),.v (.int .i64 a.fc.fLevel),.v (.int .i64 a.fc.fKind)]) (post:=[.v (.int .i64 a.flinks)]) (xs:=(a.fstack.map (eI .i64))) (ds:=(Sn a)) (ps:=[]) (by kernel_rfl) (by kernel_rfl) (GV n a _ o) (by rfl)) (.cons (icallD (P:=Tryd.prog) (T:=TT) (x:=(.tmp 15)) (args:=#[(.tmp 13)]) (tys:=#[3]) (name := "Stat") (t:=24) (y:=Gb a.ft) (ps:=[.v (.int .i64 i)]) (g:=29) (by kernel_rfl) (Gm n a.ft i _ p)) (.cons (show 0+6≤6 by decide) (.cons (nf k) (.cons (nt m) .nil)))))
 ·rw [if_neg k] at h
  obtain rfl:=Option.some.inj h
  exact pendH_sound TTok mix 13 (hs:=[.c,.e 34 [0,1] (di i) [],.e 49 [] (.d (.tup [.agg [.v (.int .i64 b.1.fKind),.v (.int .i64 b.1.fMode),.v (.int .i64 b.1.fUser),.v (.int .i64 b.1.fGroup),.v (.int .i64 b.1.fSize),.v (.int .i64 b.1.fLinks)],.v (.int .i64 b.2)])) [],.c,.t true,.dl 4,.mv 1]) [0,1,104] (by kernel_rfl) (by kernel_rfl) (by kernel_rfl) (.cons (lcall (P:=Tryd.prog) (T:=TT) (f:=.func 20) (args:=#[(.tmp 12)]) (tys:=#[44]) (g:=20) (l:=0) (L:=1) (e:=3) (s:=1) (cs:=[.d (.ifc 24 (Gb a.ft)),.d (.sl (a.fmounts.map Ga)),di a.fc.fUser,di a.fc.fGroup,.d (.sl (a.fc.fMore.map (eI .i64))),di a.fc.fCaps,di a.fc.fLevel,di a.fc.fKind,.srf 1,di a.flinks]) (pre:=[.ifc 24 (Gb a.ft),.sl (a.fmounts.map Ga),.v (.int .i64 a.fc.fUser),.v (.int .i64 a.fc.fGroup),.sl (a.fc.fMore.map (eI .i64)),.v (.int .i64 a.fc.fCaps),.v (.int .i64 a.fc.fLevel),.v (.int .i64 a.fc.fKind)]) (post:=[.v (.int .i64 a.flinks)]) (xs:=(a.fstack.map (eI .i64))) (ds:=(Sn a)) (ps:=[]) (by kernel_rfl) (by kernel_rfl) (GV n a _ o) (by rfl)) (.cons (icallD (P:=Tryd.prog) (T:=TT) (x:=(.tmp 15)) (args:=#[(.tmp 13)]) (tys:=#[3]) (name := "Stat") (t:=24) (y:=Gb a.ft) (ps:=[.v (.int .i64 i)]) (g:=29) (by kernel_rfl) (Gm n a.ft i _ p)) (.cons (show 0+6≤6 by decide) (.cons (nt k) .nil))))
inductive Ss where
 | x0 (a:Int)
 | x1 
def Ys:Ss→Ex
 | .x0 _=>.ret
 | .x1  => .exit 0
def Yt (b:(List Int)) (c:Int):Ss→PS
 | .x0 a=>⟨(dd::dd::dd::dd::di a::(dds 14 [])),[]⟩
 | .x1  => ⟨(dds 19 []),[]⟩
def Yu (a:(List Int)) (b c:Int):PS:=⟨(.d (.sl (a.map (eI .u8)))::.d (.v (.int .u8 b))::dd::dd::dd::dd::dd::di (a.length:Int)::di c::(dds 10 [])),[]⟩
def GB (n:Nat) (b:(List Int)) (c:Int):Nat→Int→Option Ss
 | 0,_=>none
 | k+1,a =>
  if a<(b.length:Int) then
   (getI b a).bind fun (d:Int) =>
   if c=d then
    some (.x0 a)
   else
    GB n b c k (wi .i64 (a+1))
  else
   some (.x1 )
theorem Zn {Fi:Ex→PS→Prop} (hF:KC 19 Fi) (ks:List Fr) (n:Nat) (b:(List Int)) (d:Int)  : ∀ (k:Nat) (a:Int) (o:Ss),GB n b d k a=some o→RunE Tryd.prog 19 Fi ks (Ys o) (Yt b d o)→RunE Tryd.prog 19 Fi (.l k (cP (cB (cR (cL (cR (bodyOf Tryd.f61))))))::ks) .normal (Yu b d a)
 | 0,a,o,h,q=>by rw [GB] at h; cases h
 | k+1,a,o,h,q=>by
  rw [GB] at h
  by_cases e:a<(b.length:Int)
  ·rw [if_pos e] at h
   obtain ⟨i,j,h⟩:=bind_some h
   by_cases g:d=i
   ·rw [if_pos g] at h
    cases h
    exact pkk_sound TTok mix hF 19 (hs:=[.t true,.y ((eI .u8) i),.c,.t true]) (ts:=[]) (s:=[]) (l:=[4]) (by kernel_rfl) (by kernel_rfl) (.cons (dt e) (.cons (getI_ob (f:=(eI .u8)) j) (.cons (bt g) .nil))) q
   ·rw [if_neg g] at h
    exact pkk_sound TTok mix hF 16 (hs:=[.t true,.y ((eI .u8) i),.c,.t false]) (ts:=[]) (s:=[]) (l:=[0,1,7,8]) (by kernel_rfl) (by kernel_rfl) (.cons (dt e) (.cons (getI_ob (f:=(eI .u8)) j) (.cons (bf g) .nil))) (Zn hF ks n b d k (wi .i64 (a+1)) _ h q)
  ·rw [if_neg e] at h
   cases h
   exact pkk_sound TTok mix hF 8 (hs:=[.t false]) (ts:=[]) (s:=[]) (l:=[]) (by kernel_rfl) (by kernel_rfl) (.cons (df e) .nil) q
/- slices.Index[[]byte,byte] -/
def SX (n:Nat) (a:(List Int)) (b:Int):Option (Int) :=
 (GB n a b n 0).bind fun c=>match c with
 | .x0 d =>
  some d
 | .x1  =>
  some (-1)
theorem YS (n:Nat) (a:(List Int)) (e r:Int) (h:SX n a e=some r):Ret Tryd.prog 61 [(eL (eI .u8)) a,(eI .u8) e] ((eI .i64) r):=by
 refine ret_run (n:=19) (fn:=Tryd.f61) (c:=bodyOf Tryd.f61) (by kernel_rfl) (by kernel_rfl) (by kernel_rfl) (by kernel_rfl) ?_
 have hF:KC 19 (FinR Tryd.prog Tryd.f61 ((eI .i64) r)):=FinR.kc' (by kernel_rfl)
 unfold SX at h
 obtain ⟨g,i,h⟩:=bind_some h
 refine pkk_sound TTok mix hF 7 (hs:=[.u (di (a.length:Int)),.n n]) (ts:=[]) (s:=[]) (l:=[0,1,7,8]) (by kernel_rfl) (by kernel_rfl) (.cons (len_ob (f:=(eI .u8)) (l:=a)) .nil) (Zn hF (.b 0::.s (cR (cR (bodyOf Tryd.f61)))::[]) n a e n 0 _ i ?_)
 cases g with
 | x0 j =>
  try dsimp only at h
  obtain rfl:=Option.some.inj h
  exact pend_sound TTok mix 2 (hs:=[]) (by kernel_rfl) (by kernel_rfl) (by kernel_rfl) .nil
 | x1  =>
  try dsimp only at h
  obtain rfl:=Option.some.inj h
  exact pend_sound TTok mix 4 (hs:=[]) (by kernel_rfl) (by kernel_rfl) (by kernel_rfl) .nil
/- slices.Contains[[]byte,byte] -/
def GQ (n:Nat) (a:(List Int)) (b:Int):Option (Bool) :=
 (SX n a b).bind fun (c:(Int)) =>
 some (decide (c≥0))
theorem SY (n:Nat) (a:(List Int)) (b:Int) (r:Bool) (h:GQ n a b=some r):Ret Tryd.prog 56 [(eL (eI .u8)) a,(eI .u8) b] (eB r):=by
 refine ret_run (n:=9) (fn:=Tryd.f56) (c:=bodyOf Tryd.f56) (by kernel_rfl) (by kernel_rfl) (by kernel_rfl) (by kernel_rfl) ?_
 have hF:KC 9 (FinR Tryd.prog Tryd.f56 (eB r)):=FinR.kc' (by kernel_rfl)
 unfold GQ at h
 obtain ⟨d,e,h⟩:=bind_some h
 obtain rfl:=Option.some.inj h
 exact pend_sound TTok mix 5 (hs:=[.r ((eI .i64) d)]) (by kernel_rfl) (by kernel_rfl) (by kernel_rfl) (.cons (YS n a b _ e) .nil)
inductive KL where
 | x0 (a:Bool)
def Uk:KL→Ex
 | .x0 _=>.normal
def Ul (a:ByteArray):KL→PS
 | .x0 b=>⟨(.d (.v (.string a))::(dds 17 (.d (.v (.bool b))::(dds 10 [])))),[]⟩
def Um (a:ByteArray)  : PS:=⟨(.d (.v (.string a))::(dds 28 [])),[]⟩
def Za (n:Nat) (a:ByteArray):Option KL :=
 if (a.size:Int)<1 then
  some (.x0 true)
 else
  if (a.size:Int) > 14 then
   some (.x0 true)
  else
   if (a.toList == (ByteArray.mk #[46]).toList)=true then
    some (.x0 true)
   else
    some (.x0 (a.toList == (ByteArray.mk #[46,46]).toList))
theorem Un {Fi:Ex→PS→Prop} (hF:KC 29 Fi) (ks:List Fr) (n:Nat) (a:ByteArray)  (o:KL) (h:Za n a=some o) (q:RunE Tryd.prog 29 Fi ks (Uk o) (Ul a o)):RunE Tryd.prog 29 Fi (.s (cL (cL (cR (bodyOf Tryd.f45))))::ks) .normal (Um a):=by
 unfold Za at h
 by_cases b:(a.size:Int)<1
 ·rw [if_pos b] at h
  cases h
  exact pkk_sound TTok mix hF 1 (hs:=[.t true,.c,.c,.c,.c,.c,.c]) (ts:=[]) (s:=[]) (l:=[0,18]) (by kernel_rfl) (by kernel_rfl) (.cons (dt b) .nil) q
 ·rw [if_neg b] at h
  by_cases d:(a.size:Int) > 14
  ·rw [if_pos d] at h
   cases h
   exact pkk_sound TTok mix hF 1 (hs:=[.t false,.c,.c,.t true,.c,.c,.c]) (ts:=[]) (s:=[]) (l:=[0,18]) (by kernel_rfl) (by kernel_rfl) (.cons (df b) (.cons (dt d) .nil)) q
  ·rw [if_neg d] at h
   by_cases e:(a.toList == (ByteArray.mk #[46]).toList)=true
   ·rw [if_pos e] at h
    cases h
    exact pkk_sound TTok mix hF 1 (hs:=[.t false,.c,.c,.t false,.c,.t true,.c]) (ts:=[]) (s:=[]) (l:=[0,18]) (by kernel_rfl) (by kernel_rfl) (.cons (df b) (.cons (df d) (.cons e .nil))) q
   ·rw [if_neg e] at h
    cases h
    exact pkk_sound TTok mix hF 1 (hs:=[.t false,.c,.c,.t false,.c,.t false,.c]) (ts:=[]) (s:=[]) (l:=[0,18]) (by kernel_rfl) (by kernel_rfl) (.cons (df b) (.cons (df d) (.cons (vf e) .nil))) q
/- ringhall/ringref5.named -/
def Ky (n:Nat) (a:ByteArray):Option (Bool) :=
 (Za n a).bind fun b=>match b with
 | .x0 c =>
  if c=true then
   some false
  else
   (s2bO a).bind fun (d:(List Int)) =>
   (GQ n d 0).bind fun (e:(Bool)) =>
   if e=true then
    some false
   else
    (s2bO a).bind fun (f:(List Int)) =>
    (GQ n f 47).bind fun (g:(Bool)) =>
    some (!g)
theorem Zb (n:Nat) (a:ByteArray) (r:Bool) (h:Ky n a=some r):Ret Tryd.prog 45 [eS a] (eB r):=by
 refine ret_run (n:=29) (fn:=Tryd.f45) (c:=bodyOf Tryd.f45) (by kernel_rfl) (by kernel_rfl) (by kernel_rfl) (by kernel_rfl) ?_
 have hF:KC 29 (FinR Tryd.prog Tryd.f45 (eB r)):=FinR.kc' (by kernel_rfl)
 unfold Ky at h
 obtain ⟨o,p,h⟩:=bind_some h
 refine pkk_sound TTok mix hF 4 (hs:=[]) (ts:=[]) (s:=[]) (l:=[0]) (by kernel_rfl) (by kernel_rfl) .nil (Un hF (.s (cR (cL (cR (bodyOf Tryd.f45))))::.s (cR (cR (bodyOf Tryd.f45)))::[]) n a _ p ?_)
 cases o with
 | x0 q =>
  try dsimp only at h
  by_cases f:q=true
  ·rw [if_pos f] at h
   obtain rfl:=Option.some.inj h
   exact pend_sound TTok mix 5 (hs:=[.t true]) (by kernel_rfl) (by kernel_rfl) (by kernel_rfl) (.cons f .nil)
  ·rw [if_neg f] at h
   obtain ⟨b,k,h⟩:=bind_some h
   obtain ⟨i,m,h⟩:=bind_some h
   by_cases g:i=true
   ·rw [if_pos g] at h
    obtain rfl:=Option.some.inj h
    exact pend_sound TTok mix 5 (hs:=[.t false,.e 5 [] (.d (.sl (b.map (eI .u8)))) [],.r (eB i),.t false,.c,.c,.c]) (by kernel_rfl) (by kernel_rfl) (by kernel_rfl) (.cons (vf f) (.cons (xs2b (P:=Tryd.prog) (T:=TT) (src:=9) (dst:=117) (e:=5) (x:=(.tmp 19)) (s:=a) (L:=b) k (by kernel_rfl) (by kernel_rfl) (by kernel_rfl)) (.cons (SY n b 0 _ m) (.cons (bnf g) .nil))))
   ·rw [if_neg g] at h
    obtain ⟨j,u,h⟩:=bind_some h
    obtain ⟨v,w,h⟩:=bind_some h
    obtain rfl:=Option.some.inj h
    exact pend_sound TTok mix 5 (hs:=[.t false,.e 5 [] (.d (.sl (b.map (eI .u8)))) [],.r (eB i),.t true,.c,.e 30 [] (.d (.sl (j.map (eI .u8)))) [],.c,.r (eB v),.c]) (by kernel_rfl) (by kernel_rfl) (by kernel_rfl) (.cons (vf f) (.cons (xs2b (P:=Tryd.prog) (T:=TT) (src:=9) (dst:=117) (e:=5) (x:=(.tmp 19)) (s:=a) (L:=b) k (by kernel_rfl) (by kernel_rfl) (by kernel_rfl)) (.cons (SY n b 0 _ m) (.cons (bnt (vf g)) (.cons (xs2b (P:=Tryd.prog) (T:=TT) (src:=9) (dst:=117) (e:=5) (x:=(.tmp 24)) (s:=a) (L:=j) u (by kernel_rfl) (by kernel_rfl) (by kernel_rfl)) (.cons (SY n j 47 _ w) .nil))))))
inductive SQ where
 | x0 (a b:Int)
 | x1 
def YU:SQ→Ex
 | .x0 _ _=>.ret
 | .x1  => .exit 0
def YV (c:ByteArray) (e:Gk):SQ→PS
 | .x0 a b=>⟨(dd::dd::dd::dd::dd::dd::di a::di b::(dds 33 [])),[]⟩
 | .x1  => ⟨(dds 41 []),[]⟩
def YW (b:ByteArray) (a:Gk) (c:Int):PS:=⟨(dd::dd::.d (.v (.string b))::(dds 25 (.d (.sl (a.fNames.map GE))::di (a.fNames.length:Int)::di c::(dds 10 [])))),[]⟩
def GT (n:Nat) (c:ByteArray) (a:Gk):Nat→Int→Option SQ
 | 0,_=>none
 | k+1,b =>
  if b<(a.fNames.length:Int) then
   (getI a.fNames b).bind fun (d:Zp) =>
   if (d.fName.toList == c.toList)=true then
    some (.x0 d.fIno 0)
   else
    GT n c a k (wi .i64 (b+1))
  else
   some (.x1 )
theorem ZK {Fi:Ex→PS→Prop} (hF:KC 41 Fi) (ks:List Fr) (n:Nat) (b:ByteArray) (d:Gk)  : ∀ (k:Nat) (a:Int) (o:SQ),GT n b d k a=some o→RunE Tryd.prog 41 Fi ks (YU o) (YV b d o)→RunE Tryd.prog 41 Fi (.l k (cP (cB (cR (cL (cR (cR (cR (cR (cR (bodyOf Tryd.f28))))))))))::ks) .normal (YW b d a)
 | 0,a,o,h,q=>by rw [GT] at h; cases h
 | k+1,a,o,h,q=>by
  rw [GT] at h
  by_cases e:a<(d.fNames.length:Int)
  ·rw [if_pos e] at h
   obtain ⟨i,j,h⟩:=bind_some h
   by_cases g:(i.fName.toList == b.toList)=true
   ·rw [if_pos g] at h
    cases h
    exact pkk_sound TTok mix hF 19 (hs:=[.t true,.y (GE i),.c,.c,.t true,.c]) (ts:=[]) (s:=[]) (l:=[6,7]) (by kernel_rfl) (by kernel_rfl) (.cons (dt e) (.cons (getI_ob (f:=GE) j) (.cons (show 0+2≤2 by decide) (.cons g .nil)))) q
   ·rw [if_neg g] at h
    exact pkk_sound TTok mix hF 16 (hs:=[.t true,.y (GE i),.c,.c,.t false]) (ts:=[]) (s:=[]) (l:=[2,28,29,30]) (by kernel_rfl) (by kernel_rfl) (.cons (dt e) (.cons (getI_ob (f:=GE) j) (.cons (show 0+2≤2 by decide) (.cons (vf g) .nil)))) (ZK hF ks n b d k (wi .i64 (a+1)) _ h q)
  ·rw [if_neg e] at h
   cases h
   exact pkk_sound TTok mix hF 8 (hs:=[.t false]) (ts:=[]) (s:=[]) (l:=[]) (by kernel_rfl) (by kernel_rfl) (.cons (df e) .nil) q
/- (ringhall/ringref5.Tree).Look -/
def Su (n:Nat) (c:Gg) (d:Int) (b:ByteArray):Option (Int×Int) :=
 (Ky n b).bind fun (e:(Bool)) =>
 if e=true then
  (GW n c d).bind fun (a:((Option Gk))) =>
  if (a.isNone)=true then
   some (0,4)
  else
   (a).bind fun (f:Gk) =>
   if f.fStat.fKind=2 then
    (a).bind fun (g:Gk) =>
    (GT n b g n 0).bind fun h=>match h with
    | .x0 i j =>
     some (i,j)
    | .x1  =>
     some (0,4)
   else
    some (0,12)
 else
  some (0,3)
theorem Se (n:Nat) (m:Gg) (o:Int) (j:ByteArray) (r:Int×Int) (h:Su n m o j=some r):Ret Tryd.prog 28 [Gb m,(eI .i64) o,eS j] (.tup [(eI .i64) r.1,(eI .i64) r.2]):=by
 refine ret_run (n:=41) (fn:=Tryd.f28) (c:=bodyOf Tryd.f28) (by kernel_rfl) (by kernel_rfl) (by kernel_rfl) (by kernel_rfl) ?_
 have hF:KC 41 (FinR Tryd.prog Tryd.f28 (.tup [(eI .i64) r.1,(eI .i64) r.2])):=FinR.kc' (by kernel_rfl)
 unfold Su at h
 obtain ⟨p,w,h⟩:=bind_some h
 by_cases k:p=true
 ·rw [if_pos k] at h
  obtain ⟨g,a1,h⟩:=bind_some h
  by_cases q:(g.isNone)=true
  ·rw [if_pos q] at h
   obtain rfl:=Option.some.inj h
   exact pend_sound TTok mix 17 (hs:=[.r (eB p),.t false,.c,.r ((eO Gf) g),.e 55 [] (.d (.v (.bool (g.isNone)))) [],.t true]) (by kernel_rfl) (by kernel_rfl) (by kernel_rfl) (.cons (Zb n j _ w) (.cons (bnf k) (.cons (Gu n m o _ a1) (.cons (xnilO (P:=Tryd.prog) (T:=TT) (f:=Gf) (v:=g) (op:=.eql) (t:=82) (e:=81) (ty':=82) (x:=(.tmp 17)) (y:=(.const (.pointer none))) rfl (by kernel_rfl)) (.cons q .nil)))))
  ·rw [if_neg q] at h
   obtain ⟨a,a2,h⟩:=bind_some h
   by_cases a0:a.fStat.fKind=2
   ·rw [if_pos a0] at h
    obtain ⟨i,a3,h⟩:=bind_some h
    obtain ⟨a4,a5,h⟩:=bind_some h
    refine pkk_sound TTok mix hF 24 (hs:=[.r (eB p),.t false,.c,.r ((eO Gf) g),.e 55 [] (.d (.v (.bool (g.isNone)))) [],.t false,.e 65 [] (.d (.iptr [.v (.int .i64 a.fStat.fKind),.v (.int .i64 a.fStat.fMode),.v (.int .i64 a.fStat.fUser),.v (.int .i64 a.fStat.fGroup),.v (.int .i64 a.fStat.fSize),.v (.int .i64 a.fStat.fLinks),.sl (a.fNames.map GE),.v (.string a.fTell)] 0)) [],.c,.t false,.e 95 [] (.d (.iptr [.v (.int .i64 i.fStat.fKind),.v (.int .i64 i.fStat.fMode),.v (.int .i64 i.fStat.fUser),.v (.int .i64 i.fStat.fGroup),.v (.int .i64 i.fStat.fSize),.v (.int .i64 i.fStat.fLinks),.sl (i.fNames.map GE),.v (.string i.fTell)] 0)) [],.c,.u (di (i.fNames.length:Int)),.n n]) (ts:=[]) (s:=[]) (l:=[2,28,29,30]) (by kernel_rfl) (by kernel_rfl) (.cons (Zb n j _ w) (.cons (bnf k) (.cons (Gu n m o _ a1) (.cons (xnilO (P:=Tryd.prog) (T:=TT) (f:=Gf) (v:=g) (op:=.eql) (t:=82) (e:=81) (ty':=82) (x:=(.tmp 17)) (y:=(.const (.pointer none))) rfl (by kernel_rfl)) (.cons (vf q) (.cons (xderO (P:=Tryd.prog) (T:=TT) (f:=Gf) (v:=g) (z:=a) (x:=(.tmp 19)) a2) (.cons (nf a0) (.cons (xderO (P:=Tryd.prog) (T:=TT) (f:=Gf) (v:=g) (z:=i) (x:=(.tmp 25)) a3) (.cons (len_ob (f:=GE) (l:=i.fNames)) .nil))))))))) (ZK hF (.b 0::.s (cR (cR (cR (cR (cR (cR (bodyOf Tryd.f28)))))))::[]) n j i n 0 _ a5 ?_)
    cases a4 with
    | x0 a6 a7 =>
     try dsimp only at h
     obtain rfl:=Option.some.inj h
     exact pend_sound TTok mix 2 (hs:=[]) (by kernel_rfl) (by kernel_rfl) (by kernel_rfl) .nil
    | x1  =>
     try dsimp only at h
     obtain rfl:=Option.some.inj h
     exact pend_sound TTok mix 4 (hs:=[]) (by kernel_rfl) (by kernel_rfl) (by kernel_rfl) .nil
   ·rw [if_neg a0] at h
    obtain rfl:=Option.some.inj h
    exact pend_sound TTok mix 22 (hs:=[.r (eB p),.t false,.c,.r ((eO Gf) g),.e 55 [] (.d (.v (.bool (g.isNone)))) [],.t false,.e 65 [] (.d (.iptr [.v (.int .i64 a.fStat.fKind),.v (.int .i64 a.fStat.fMode),.v (.int .i64 a.fStat.fUser),.v (.int .i64 a.fStat.fGroup),.v (.int .i64 a.fStat.fSize),.v (.int .i64 a.fStat.fLinks),.sl (a.fNames.map GE),.v (.string a.fTell)] 0)) [],.c,.t true]) (by kernel_rfl) (by kernel_rfl) (by kernel_rfl) (.cons (Zb n j _ w) (.cons (bnf k) (.cons (Gu n m o _ a1) (.cons (xnilO (P:=Tryd.prog) (T:=TT) (f:=Gf) (v:=g) (op:=.eql) (t:=82) (e:=81) (ty':=82) (x:=(.tmp 17)) (y:=(.const (.pointer none))) rfl (by kernel_rfl)) (.cons (vf q) (.cons (xderO (P:=Tryd.prog) (T:=TT) (f:=Gf) (v:=g) (z:=a) (x:=(.tmp 19)) a2) (.cons (nt a0) .nil)))))))
 ·rw [if_neg k] at h
  obtain rfl:=Option.some.inj h
  exact pend_sound TTok mix 10 (hs:=[.r (eB p),.t true]) (by kernel_rfl) (by kernel_rfl) (by kernel_rfl) (.cons (Zb n j _ w) (.cons (bnt (vf k)) .nil))
/- (ringhall/ringref5.Tree).Tells -/
def SM (n:Nat) (b:Gg) (c:Int):Option (ByteArray×Int) :=
 (GW n b c).bind fun (a:((Option Gk))) =>
 if (a.isNone)=true then
  some ((ByteArray.mk #[]),4)
 else
  (a).bind fun (d:Gk) =>
  if d.fStat.fKind=3 then
   (a).bind fun (e:Gk) =>
   some (e.fTell,0)
  else
   some ((ByteArray.mk #[]),8)
theorem SZ (n:Nat) (i:Gg) (j:Int) (r:ByteArray×Int) (h:SM n i j=some r):Ret Tryd.prog 88 [Gb i,(eI .i64) j] (.tup [eS r.1,(eI .i64) r.2]):=by
 refine ret_run (n:=22) (fn:=Tryd.f88) (c:=bodyOf Tryd.f88) (by kernel_rfl) (by kernel_rfl) (by kernel_rfl) (by kernel_rfl) ?_
 have hF:KC 22 (FinR Tryd.prog Tryd.f88 (.tup [eS r.1,(eI .i64) r.2])):=FinR.kc' (by kernel_rfl)
 unfold SM at h
 obtain ⟨b,m,h⟩:=bind_some h
 by_cases k:(b.isNone)=true
 ·rw [if_pos k] at h
  obtain rfl:=Option.some.inj h
  exact pend_sound TTok mix 12 (hs:=[.c,.r ((eO Gf) b),.e 40 [] (.d (.v (.bool (b.isNone)))) [],.t true]) (by kernel_rfl) (by kernel_rfl) (by kernel_rfl) (.cons (Gu n i j _ m) (.cons (xnilO (P:=Tryd.prog) (T:=TT) (f:=Gf) (v:=b) (op:=.eql) (t:=82) (e:=81) (ty':=82) (x:=(.tmp 10)) (y:=(.const (.pointer none))) rfl (by kernel_rfl)) (.cons k .nil)))
 ·rw [if_neg k] at h
  obtain ⟨a,o,h⟩:=bind_some h
  by_cases l:a.fStat.fKind=3
  ·rw [if_pos l] at h
   obtain ⟨g,p,h⟩:=bind_some h
   obtain rfl:=Option.some.inj h
   exact pend_sound TTok mix 17 (hs:=[.c,.r ((eO Gf) b),.e 40 [] (.d (.v (.bool (b.isNone)))) [],.t false,.e 50 [] (.d (.iptr [.v (.int .i64 a.fStat.fKind),.v (.int .i64 a.fStat.fMode),.v (.int .i64 a.fStat.fUser),.v (.int .i64 a.fStat.fGroup),.v (.int .i64 a.fStat.fSize),.v (.int .i64 a.fStat.fLinks),.sl (a.fNames.map GE),.v (.string a.fTell)] 0)) [],.c,.t false,.e 80 [] (.d (.iptr [.v (.int .i64 g.fStat.fKind),.v (.int .i64 g.fStat.fMode),.v (.int .i64 g.fStat.fUser),.v (.int .i64 g.fStat.fGroup),.v (.int .i64 g.fStat.fSize),.v (.int .i64 g.fStat.fLinks),.sl (g.fNames.map GE),.v (.string g.fTell)] 0)) [],.c]) (by kernel_rfl) (by kernel_rfl) (by kernel_rfl) (.cons (Gu n i j _ m) (.cons (xnilO (P:=Tryd.prog) (T:=TT) (f:=Gf) (v:=b) (op:=.eql) (t:=82) (e:=81) (ty':=82) (x:=(.tmp 10)) (y:=(.const (.pointer none))) rfl (by kernel_rfl)) (.cons (vf k) (.cons (xderO (P:=Tryd.prog) (T:=TT) (f:=Gf) (v:=b) (z:=a) (x:=(.tmp 12)) o) (.cons (nf l) (.cons (xderO (P:=Tryd.prog) (T:=TT) (f:=Gf) (v:=b) (z:=g) (x:=(.tmp 18)) p) .nil))))))
  ·rw [if_neg l] at h
   obtain rfl:=Option.some.inj h
   exact pend_sound TTok mix 17 (hs:=[.c,.r ((eO Gf) b),.e 40 [] (.d (.v (.bool (b.isNone)))) [],.t false,.e 50 [] (.d (.iptr [.v (.int .i64 a.fStat.fKind),.v (.int .i64 a.fStat.fMode),.v (.int .i64 a.fStat.fUser),.v (.int .i64 a.fStat.fGroup),.v (.int .i64 a.fStat.fSize),.v (.int .i64 a.fStat.fLinks),.sl (a.fNames.map GE),.v (.string a.fTell)] 0)) [],.c,.t true]) (by kernel_rfl) (by kernel_rfl) (by kernel_rfl) (.cons (Gu n i j _ m) (.cons (xnilO (P:=Tryd.prog) (T:=TT) (f:=Gf) (v:=b) (op:=.eql) (t:=82) (e:=81) (ty':=82) (x:=(.tmp 10)) (y:=(.const (.pointer none))) rfl (by kernel_rfl)) (.cons (vf k) (.cons (xderO (P:=Tryd.prog) (T:=TT) (f:=Gf) (v:=b) (z:=a) (x:=(.tmp 12)) o) (.cons (nt l) .nil)))))
/- slices.Clone[[]string,string] -/
def S4 (n a:Nat):Option ((List ByteArray)) :=
 some ([]:List ByteArray)
theorem Yh (n a:Nat) (r:(List ByteArray)) (h:S4 n a=some r):RetH Tryd.prog 40 [.d (.v (.slice none 0 a))] [] (.srf 0) [.row 9 1 (r.map eS)]:=by
 refine retH_run (n:=8) (fn:=Tryd.f40) (c:=bodyOf Tryd.f40) (by kernel_rfl) (by kernel_rfl) (by kernel_rfl) (by kernel_rfl) ?_
 have hF:KC 8 (FinH Tryd.prog Tryd.f40 [] (.srf 0) [.row 9 1 (r.map eS)]):=FinH.kc' (by kernel_rfl)
 unfold S4 at h
 obtain rfl:=Option.some.inj h
 exact pendH_sound TTok mix 11 (hs:=[.c,.dl 4,.th 2 9 1]) [20] (by kernel_rfl) (by kernel_rfl) (by kernel_rfl) .nil
/- slices.Clone[[]string,string] -/
def S5 (n:Nat) (b:Addr) (c:Nat):Option ((List ByteArray)) :=
 (app 16 ([]:List ByteArray) ([]:(List ByteArray))).bind fun (a:(List ByteArray)) =>
 some a
theorem Yi (n:Nat) (b:Addr) (e:Nat) (r:(List ByteArray)) (h:S5 n b e=some r):RetH Tryd.prog 40 [.d (.v (.slice (some b) 0 e))] [] (.srf 0) [.row 9 1 (r.map eS)]:=by
 refine retH_run (n:=8) (fn:=Tryd.f40) (c:=bodyOf Tryd.f40) (by kernel_rfl) (by kernel_rfl) (by kernel_rfl) (by kernel_rfl) ?_
 have hF:KC 8 (FinH Tryd.prog Tryd.f40 [] (.srf 0) [.row 9 1 (r.map eS)]):=FinH.kc' (by kernel_rfl)
 unfold S5 at h
 obtain ⟨g,a,h⟩:=bind_some h
 obtain rfl:=Option.some.inj h
 exact pendH_sound TTok mix 10 (hs:=[.c,.w (([]:List ByteArray).map eS),.w (g.map eS)]) [25] (by kernel_rfl) (by kernel_rfl) (by kernel_rfl) (.cons (Eq.refl (([]:List ByteArray).map eS)) (.cons (app_ob (f:=eS) (s:=1) a (fun _=>rfl)).1 (.cons (app_ob (f:=eS) (s:=1) a (fun _=>rfl)).2.1 (.cons (app_ob (f:=eS) (s:=1) a (fun _=>rfl)).2.2.1 (.cons (app_ob (f:=eS) (s:=1) a (fun _=>rfl)).2.2.2 .nil)))))
/- slices.Clone[[]string,string] -/
def S6 (n:Nat) (a:ByteArray) (b:(List ByteArray)):Option ((List ByteArray)) :=
 (app 16 ([]:List ByteArray) (a::b)).bind fun (c:(List ByteArray)) =>
 some c
theorem Yj (n:Nat) (b:ByteArray) (e r:(List ByteArray)) (h:S6 n b e=some r):RetH Tryd.prog 40 [.d (.sl (eS b::e.map eS))] [] (.srf 0) [.row 9 1 (r.map eS)]:=by
 refine retH_run (n:=8) (fn:=Tryd.f40) (c:=bodyOf Tryd.f40) (by kernel_rfl) (by kernel_rfl) (by kernel_rfl) (by kernel_rfl) ?_
 have hF:KC 8 (FinH Tryd.prog Tryd.f40 [] (.srf 0) [.row 9 1 (r.map eS)]):=FinH.kc' (by kernel_rfl)
 unfold S6 at h
 obtain ⟨g,a,h⟩:=bind_some h
 obtain rfl:=Option.some.inj h
 exact pendH_sound TTok mix 10 (hs:=[.c,.w (([]:List ByteArray).map eS),.w (g.map eS)]) [25] (by kernel_rfl) (by kernel_rfl) (by kernel_rfl) (.cons (Eq.refl (([]:List ByteArray).map eS)) (.cons (app_ob (f:=eS) (s:=1) a (fun _=>rfl)).1 (.cons (app_ob (f:=eS) (s:=1) a (fun _=>rfl)).2.1 (.cons (app_ob (f:=eS) (s:=1) a (fun _=>rfl)).2.2.1 (.cons (app_ob (f:=eS) (s:=1) a (fun _=>rfl)).2.2.2 .nil)))))
def GP (n:Nat) (xs:(List ByteArray)):Option (List ByteArray):=app 16 [] xs
theorem Zf (n:Nat) (xs r:(List ByteArray)) (h:GP n xs=some r):RetH Tryd.prog 40 [.d (.sl (xs.map eS))] [] (.srf 0) [.row 9 1 (r.map eS)]:=by
 unfold GP at h
 have e:app 16 ([]:(List ByteArray)) []=some []:=by simp [app]
 cases xs with
 | nil =>
  rw [e] at h; obtain rfl:=Option.some.inj h
  exact clone_nil (fun c=>Yh n c _ (by unfold S4; rfl)) (fun a c=>Yi n a c _ (by unfold S5; rw [e]; rfl))
 | cons y ys=>exact Yj n y ys _ (by unfold S6; rw [h]; rfl)
/- (*ringhall/path.walker).link -/
def S7 (n:Nat) (a:Ge) (d:Int):Option ((List ByteArray)×Int×Ge) :=
 if (wi .i64 (a.flinks+1)) > 8 then
  some (([]:List ByteArray),14,(Ge.mk a.ft a.fmounts a.fc a.fstack (wi .i64 (a.flinks+1))))
 else
  (SM n a.ft d).bind fun (c:(ByteArray×Int)) =>
  if c.2=0 then
   (SJ n c.1).bind fun (b:(Bool×(List ByteArray)×Int)) =>
   if b.2.2=0 then
    if b.1=true then
     (sub a.fstack 0 1).bind fun (e:(List Int)) =>
     (GP n b.2.1).bind fun (f:((List ByteArray))) =>
     some (f,0,(Ge.mk a.ft a.fmounts a.fc e (wi .i64 (a.flinks+1))))
    else
     (GP n b.2.1).bind fun (g:((List ByteArray))) =>
     some (g,0,(Ge.mk a.ft a.fmounts a.fc a.fstack (wi .i64 (a.flinks+1))))
   else
    some (([]:List ByteArray),b.2.2,(Ge.mk a.ft a.fmounts a.fc a.fstack (wi .i64 (a.flinks+1))))
  else
   some (([]:List ByteArray),c.2,(Ge.mk a.ft a.fmounts a.fc a.fstack (wi .i64 (a.flinks+1))))
theorem Yc (n:Nat) (a:Ge) (j:Int) (r:(List ByteArray)×Int×Ge) (h:S7 n a j=some r):RetH Tryd.prog 21 [.ref 0 0,.d ((eI .i64) j)] [.box [.d (.ifc 24 (Gb a.ft)),.d (.sl (a.fmounts.map Ga)),di a.fc.fUser,di a.fc.fGroup,.d (.sl (a.fc.fMore.map (eI .i64))),di a.fc.fCaps,di a.fc.fLevel,di a.fc.fKind,.srf 1,di a.flinks],.row 3 1 (a.fstack.map (eI .i64))] (.tup [.srf 2,.d ((eI .i64) r.2.1)]) [.box [.d (.ifc 24 (Gb r.2.2.ft)),.d (.sl (r.2.2.fmounts.map Ga)),di r.2.2.fc.fUser,di r.2.2.fc.fGroup,.d (.sl (r.2.2.fc.fMore.map (eI .i64))),di r.2.2.fc.fCaps,di r.2.2.fc.fLevel,di r.2.2.fc.fKind,.srf 3,di r.2.2.flinks],.none,.row 9 1 (r.1.map eS),.row 3 1 (r.2.2.fstack.map (eI .i64))]:=by
 refine retH_run (n:=54) (fn:=Tryd.f21) (c:=bodyOf Tryd.f21) (by kernel_rfl) (by kernel_rfl) (by kernel_rfl) (by kernel_rfl) ?_
 have hF:KC 54 (FinH Tryd.prog Tryd.f21 [.box [.d (.ifc 24 (Gb a.ft)),.d (.sl (a.fmounts.map Ga)),di a.fc.fUser,di a.fc.fGroup,.d (.sl (a.fc.fMore.map (eI .i64))),di a.fc.fCaps,di a.fc.fLevel,di a.fc.fKind,.srf 1,di a.flinks],.row 3 1 (a.fstack.map (eI .i64))] (.tup [.srf 2,.d ((eI .i64) r.2.1)]) [.box [.d (.ifc 24 (Gb r.2.2.ft)),.d (.sl (r.2.2.fmounts.map Ga)),di r.2.2.fc.fUser,di r.2.2.fc.fGroup,.d (.sl (r.2.2.fc.fMore.map (eI .i64))),di r.2.2.fc.fCaps,di r.2.2.fc.fLevel,di r.2.2.fc.fKind,.srf 3,di r.2.2.flinks],.none,.row 9 1 (r.1.map eS),.row 3 1 (r.2.2.fstack.map (eI .i64))]):=FinH.kc' (by kernel_rfl)
 unfold S7 at h
 by_cases k:(wi .i64 (a.flinks+1)) > 8
 ·rw [if_pos k] at h
  obtain rfl:=Option.some.inj h
  exact pendH_sound TTok mix 14 (hs:=[.c,.c,.c,.t true,.dl 4,.th 4 9 1,.mv 1]) [0,1,89,90] (by kernel_rfl) (by kernel_rfl) (by kernel_rfl) (.cons (show 9+1≤10 by decide) (.cons (dt k) .nil))
 ·rw [if_neg k] at h
  obtain ⟨i,o,h⟩:=bind_some h
  by_cases l:i.2=0
  ·rw [if_pos l] at h
   obtain ⟨b,q,h⟩:=bind_some h
   by_cases m:b.2.2=0
   ·rw [if_pos m] at h
    by_cases p:b.1=true
    ·rw [if_pos p] at h
     obtain ⟨u,s,h⟩:=bind_some h
     obtain ⟨z,a0,h⟩:=bind_some h
     obtain rfl:=Option.some.inj h
     exact pendH_sound TTok mix 31 (hs:=[.c,.c,.c,.t false,.c,.e 104 [] (.d (.tup [.v (.string i.1),.v (.int .i64 i.2)])) [],.t false,.r (.tup [eB b.1,(eL eS) b.2.1,(eI .i64) b.2.2]),.t false,.t true,.c,.w (u.map (eI .i64)),.c,.h [] [] [.row 9 1 (z.map eS)] (.srf 0)]) [0,1,254,229] (by kernel_rfl) (by kernel_rfl) (by kernel_rfl) (.cons (show 9+1≤10 by decide) (.cons (df k) (.cons (icallD (P:=Tryd.prog) (T:=TT) (x:=(.tmp 26)) (args:=#[(.tmp 27)]) (tys:=#[3]) (name := "Tells") (t:=24) (y:=Gb a.ft) (ps:=[.v (.int .i64 j)]) (g:=88) (by kernel_rfl) (SZ n a.ft j _ o)) (.cons (nf l) (.cons (KK n i.1 _ q) (.cons (nf m) (.cons p (.cons (Eq.refl (0:Int)) (.cons (subR_ob (f:=(eI .i64)) s).1 (.cons (subR_ob (f:=(eI .i64)) s).2.1 (.cons (subR_ob (f:=(eI .i64)) s).2.2 (.cons (show 8+1≤10 by decide) (.cons (Zf n b.2.1 _ a0) .nil)))))))))))))
    ·rw [if_neg p] at h
     obtain ⟨a1,a2,h⟩:=bind_some h
     obtain rfl:=Option.some.inj h
     exact pendH_sound TTok mix 32 (hs:=[.c,.c,.c,.t false,.c,.e 104 [] (.d (.tup [.v (.string i.1),.v (.int .i64 i.2)])) [],.t false,.r (.tup [eB b.1,(eL eS) b.2.1,(eI .i64) b.2.2]),.t false,.t false,.h [] [] [.row 9 1 (a1.map eS)] (.srf 0),.dl 1,.mv 1]) [0,1,209,224] (by kernel_rfl) (by kernel_rfl) (by kernel_rfl) (.cons (show 9+1≤10 by decide) (.cons (df k) (.cons (icallD (P:=Tryd.prog) (T:=TT) (x:=(.tmp 26)) (args:=#[(.tmp 27)]) (tys:=#[3]) (name := "Tells") (t:=24) (y:=Gb a.ft) (ps:=[.v (.int .i64 j)]) (g:=88) (by kernel_rfl) (SZ n a.ft j _ o)) (.cons (nf l) (.cons (KK n i.1 _ q) (.cons (nf m) (.cons (vf p) (.cons (Zf n b.2.1 _ a2) .nil))))))))
   ·rw [if_neg m] at h
    obtain rfl:=Option.some.inj h
    exact pendH_sound TTok mix 28 (hs:=[.c,.c,.c,.t false,.c,.e 104 [] (.d (.tup [.v (.string i.1),.v (.int .i64 i.2)])) [],.t false,.r (.tup [eB b.1,(eL eS) b.2.1,(eI .i64) b.2.2]),.t true,.dl 4,.th 4 9 1,.mv 1]) [0,1,214,215] (by kernel_rfl) (by kernel_rfl) (by kernel_rfl) (.cons (show 9+1≤10 by decide) (.cons (df k) (.cons (icallD (P:=Tryd.prog) (T:=TT) (x:=(.tmp 26)) (args:=#[(.tmp 27)]) (tys:=#[3]) (name := "Tells") (t:=24) (y:=Gb a.ft) (ps:=[.v (.int .i64 j)]) (g:=88) (by kernel_rfl) (SZ n a.ft j _ o)) (.cons (nf l) (.cons (KK n i.1 _ q) (.cons (nt m) .nil))))))
  ·rw [if_neg l] at h
   obtain rfl:=Option.some.inj h
   exact pendH_sound TTok mix 21 (hs:=[.c,.c,.c,.t false,.c,.e 104 [] (.d (.tup [.v (.string i.1),.v (.int .i64 i.2)])) [],.t true,.dl 4,.th 4 9 1,.mv 1]) [0,1,159,160] (by kernel_rfl) (by kernel_rfl) (by kernel_rfl) (.cons (show 9+1≤10 by decide) (.cons (df k) (.cons (icallD (P:=Tryd.prog) (T:=TT) (x:=(.tmp 26)) (args:=#[(.tmp 27)]) (tys:=#[3]) (name := "Tells") (t:=24) (y:=Gb a.ft) (ps:=[.v (.int .i64 j)]) (g:=88) (by kernel_rfl) (SZ n a.ft j _ o)) (.cons (nt l) .nil))))
/- ringhall/mount.Down -/
def ZY (n:Nat) (a:(List Gd)) (b:Int):Option (Int×Int) :=
 (Ki n a).bind fun (c:(Int)) =>
 if c=0 then
  (KU n b).bind fun (d:(Bool)) =>
  if d=true then
   (ZB n a b).bind fun (e:(Int×Bool)) =>
   some (e.1,0)
  else
   some (0,1)
 else
  some (0,c)
theorem Uj (n:Nat) (a:(List Gd)) (b:Int) (r:Int×Int) (h:ZY n a b=some r):Ret Tryd.prog 22 [(eL Ga) a,(eI .i64) b] (.tup [(eI .i64) r.1,(eI .i64) r.2]):=by
 refine ret_run (n:=22) (fn:=Tryd.f22) (c:=bodyOf Tryd.f22) (by kernel_rfl) (by kernel_rfl) (by kernel_rfl) (by kernel_rfl) ?_
 have hF:KC 22 (FinR Tryd.prog Tryd.f22 (.tup [(eI .i64) r.1,(eI .i64) r.2])):=FinR.kc' (by kernel_rfl)
 unfold ZY at h
 obtain ⟨e,g,h⟩:=bind_some h
 by_cases d:e=0
 ·rw [if_pos d] at h
  obtain ⟨i,j,h⟩:=bind_some h
  by_cases f:i=true
  ·rw [if_pos f] at h
   obtain ⟨k,l,h⟩:=bind_some h
   obtain rfl:=Option.some.inj h
   exact pend_sound TTok mix 19 (hs:=[.r ((eI .i64) e),.t false,.r (eB i),.t false,.r (.tup [(eI .i64) k.1,eB k.2])]) (by kernel_rfl) (by kernel_rfl) (by kernel_rfl) (.cons (Si n a _ g) (.cons (nf d) (.cons (Sg n b _ j) (.cons (bnf f) (.cons (Yr n a b _ l) .nil)))))
  ·rw [if_neg f] at h
   obtain rfl:=Option.some.inj h
   exact pend_sound TTok mix 17 (hs:=[.r ((eI .i64) e),.t false,.r (eB i),.t true]) (by kernel_rfl) (by kernel_rfl) (by kernel_rfl) (.cons (Si n a _ g) (.cons (nf d) (.cons (Sg n b _ j) (.cons (bnt (vf f)) .nil))))
 ·rw [if_neg d] at h
  obtain rfl:=Option.some.inj h
  exact pend_sound TTok mix 12 (hs:=[.r ((eI .i64) e),.t true]) (by kernel_rfl) (by kernel_rfl) (by kernel_rfl) (.cons (Si n a _ g) (.cons (nt d) .nil))
inductive SR where
 | x0 (a:(List Int))
def YX:SR→Ex
 | .x0 _=>.normal
def YY (b:(List ByteArray)) (c:Bool) (a:(Int×Ge)):SR→PS
 | .x0 e=>⟨(.ref 2 0::.d (.sl (b.map eS))::.d (.v (.bool c))::(dds 122 [])),[.gh 0 (.ref 2 0),.gh 1 (.srf 4),.box [.d (.ifc 24 (Gb a.2.ft)),.d (.sl (a.2.fmounts.map Ga)),di a.2.fc.fUser,di a.2.fc.fGroup,.d (.sl (a.2.fc.fMore.map (eI .i64))),di a.2.fc.fCaps,di a.2.fc.fLevel,di a.2.fc.fKind,.srf 3,di a.2.flinks],.row 3 1 (e.map (eI .i64)),.none]⟩
def YZ (b:(List ByteArray)) (c:Bool) (a:(Int×Ge))  : PS:=⟨(.ref 2 0::.d (.sl (b.map eS))::.d (.v (.bool c))::(dds 34 (.d (.v (.bool (decide ((a.2.fstack.length:Int) > 1))))::(dds 87 [])))),[.gh 0 (.ref 2 0),.gh 1 (.srf 4),.box [.d (.ifc 24 (Gb a.2.ft)),.d (.sl (a.2.fmounts.map Ga)),di a.2.fc.fUser,di a.2.fc.fGroup,.d (.sl (a.2.fc.fMore.map (eI .i64))),di a.2.fc.fCaps,di a.2.fc.fLevel,di a.2.fc.fKind,.srf 3,di a.2.flinks],.row 3 1 (a.2.fstack.map (eI .i64)),.none]⟩
def Sy (n:Nat) (c:(List ByteArray)) (d:Bool) (a:(Int×Ge)):Option SR :=
 if (a.2.fstack.length:Int) > 1 then
  (sub a.2.fstack 0 (wi .i64 ((a.2.fstack.length:Int)-1))).bind fun (b:(List Int)) =>
  some (.x0 b)
 else
  some (.x0 a.2.fstack)
theorem Y0 {Fi:Ex→PS→Prop} (hF:KC 125 Fi) (ks:List Fr) (n:Nat) (e:(List ByteArray)) (g:Bool) (a:(Int×Ge))  (o:SR) (h:Sy n e g a=some o) (q:RunE Tryd.prog 125 Fi ks (YX o) (YY e g a o)):RunE Tryd.prog 125 Fi (.s (cR (cL (cT (cR (cF (cR (cB (cR (cL (cR (cR (cR (cB (cR (cP (cB (cL (cR (bodyOf Tryd.f10)))))))))))))))))))::ks) .normal (YZ e g a):=by
 unfold Sy at h
 by_cases b:(a.2.fstack.length:Int) > 1
 ·rw [if_pos b] at h
  obtain ⟨j,i,h⟩:=bind_some h
  cases h
  exact pkk_sound TTok mix hF 2 (hs:=[.t true,.c,.c,.u (di (a.2.fstack.length:Int)),.w (j.map (eI .i64)),.c]) (ts:=[]) (s:=[0,1,2,60,4]) (l:=[0,1,2]) (by kernel_rfl) (by kernel_rfl) (.cons (dt b) (.cons (len_ob (f:=(eI .i64)) (l:=a.2.fstack)) (.cons (Eq.refl (0:Int)) (.cons (subR_ob (f:=(eI .i64)) i).1 (.cons (subR_ob (f:=(eI .i64)) i).2.1 (.cons (subR_ob (f:=(eI .i64)) i).2.2 (.cons (show 8+1≤10 by decide) .nil))))))) q
 ·rw [if_neg b] at h
  cases h
  exact pkk_sound TTok mix hF 2 (hs:=[.t false]) (ts:=[]) (s:=[0,1,2,3,4]) (l:=[0,1,2]) (by kernel_rfl) (by kernel_rfl) (.cons (df b) .nil) q
inductive SS where
 | x0 (a:Bool) (b:(List Int))
def Y1:SS→Ex
 | .x0 _ _=>.normal
def Y2 (b:(List ByteArray)) (c:Bool) (e:(Int×Int)) (a:(Int×Ge)) (h:(Gh×Int)):SS→PS
 | .x0 f g=>⟨(.ref 2 0::.d (.sl (b.map eS))::.d (.v (.bool c))::dd::dd::dd::dd::dd::dd::di e.1::(dds 80 (.d (.v (.bool f))::(dds 34 [])))),[.gh 0 (.ref 2 0),.gh 1 (.srf 4),.box [.d (.ifc 24 (Gb a.2.ft)),.d (.sl (a.2.fmounts.map Ga)),di a.2.fc.fUser,di a.2.fc.fGroup,.d (.sl (a.2.fc.fMore.map (eI .i64))),di a.2.fc.fCaps,di a.2.fc.fLevel,di a.2.fc.fKind,.srf 3,di a.2.flinks],.row 3 1 (g.map (eI .i64)),.none]⟩
def Y3 (c:(List ByteArray)) (e:Bool) (f:(Int×Int)) (a:(Int×Ge)) (b:(Gh×Int))  : PS:=⟨(.ref 2 0::.d (.sl (c.map eS))::.d (.v (.bool e))::dd::dd::dd::dd::dd::dd::di f.1::dd::.ref 5 0::(dds 113 [])),[.gh 0 (.ref 2 0),.gh 1 (.srf 4),.box [.d (.ifc 24 (Gb a.2.ft)),.d (.sl (a.2.fmounts.map Ga)),di a.2.fc.fUser,di a.2.fc.fGroup,.d (.sl (a.2.fc.fMore.map (eI .i64))),di a.2.fc.fCaps,di a.2.fc.fLevel,di a.2.fc.fKind,.srf 3,di a.2.flinks],.row 3 1 (a.2.fstack.map (eI .i64)),.none,.box [di b.1.fKind,di b.1.fMode,di b.1.fUser,di b.1.fGroup,di b.1.fSize,di b.1.fLinks]]⟩
def Sz (n:Nat) (b:(List ByteArray)) (c:Bool) (e:(Int×Int)) (a:(Int×Ge)) (d:(Gh×Int)):Option SS :=
 if d.1.fKind=3 then
  if c=true then
   some (.x0 true a.2.fstack)
  else
   some (.x0 (decide ((b.length:Int) > 0)) a.2.fstack)
 else
  some (.x0 false a.2.fstack)
theorem Y4 {Fi:Ex→PS→Prop} (hF:KC 125 Fi) (ks:List Fr) (n:Nat) (a:(List ByteArray)) (e:Bool) (j:(Int×Int)) (k:(Int×Ge)) (g:(Gh×Int))  (o:SS) (h:Sz n a e j k g=some o) (q:RunE Tryd.prog 125 Fi ks (Y1 o) (Y2 a e j k g o)):RunE Tryd.prog 125 Fi (.s (cL (cL (cR (cR (cR (cR (cR (cR (cR (cR (cB (cR (cP (cB (cL (cR (bodyOf Tryd.f10)))))))))))))))))::ks) .normal (Y3 a e j k g):=by
 unfold Sz at h
 by_cases b:g.1.fKind=3
 ·rw [if_pos b] at h
  by_cases i:e=true
  ·rw [if_pos i] at h
   cases h
   exact pkk_sound TTok mix hF 1 (hs:=[.c,.t true,.c,.t true,.c,.c,.c]) (ts:=[]) (s:=[0,1,2,3,4]) (l:=[0,1,2,9,90]) (by kernel_rfl) (by kernel_rfl) (.cons (bt b) (.cons i .nil)) q
  ·rw [if_neg i] at h
   cases h
   exact pkk_sound TTok mix hF 1 (hs:=[.c,.t true,.c,.t false,.c,.u (di (a.length:Int)),.c,.c]) (ts:=[]) (s:=[0,1,2,3,4]) (l:=[0,1,2,9,90]) (by kernel_rfl) (by kernel_rfl) (.cons (bt b) (.cons (vf i) (.cons (len_ob (f:=eS) (l:=a)) .nil))) q
 ·rw [if_neg b] at h
  cases h
  exact pkk_sound TTok mix hF 1 (hs:=[.c,.t false,.c,.c]) (ts:=[]) (s:=[0,1,2,3,4]) (l:=[0,1,2,9,90]) (by kernel_rfl) (by kernel_rfl) (.cons (bf b) .nil) q
inductive ST where
 | x0 (a:Int) (b:Gg) (c:(List Gd)) (d:Gc) (e:Int) (f:(List Int))
 | x1 (g:(List ByteArray)) (h:Gg) (i:(List Gd)) (j:Gc) (k:Int) (l:(List Int))
 | x2 (m:Gg) (n:(List Gd)) (o:Gc) (p:Int) (q:(List Int)) (r:(List ByteArray))
def Y5:ST→Ex
 | .x0 _ _ _ _ _ _=>.ret
 | .x1 _ _ _ _ _ _=>.normal
 | .x2 _ _ _ _ _ _=>.normal
def Y6 (u:(List ByteArray)) (e:Bool) (w:Gg) (x:(List Gd)) (y:Gc) (z:Int) (a0:(List Int)):ST→PS
 | .x0 f g h a i j=>⟨(dd::dd::dd::dd::dd::dd::di f::(dds 118 [])),[.gh 0 (.ref 2 0),.gh 1 (.srf 4),.box [.d (.ifc 24 (Gb g)),.d (.sl (h.map Ga)),di a.fUser,di a.fGroup,.d (.sl (a.fMore.map (eI .i64))),di a.fCaps,di a.fLevel,di a.fKind,.srf 3,di i],.row 3 1 (j.map (eI .i64)),.none]⟩
 | .x1 k l m b n o=>⟨(.ref 2 0::.d (.sl (k.map eS))::.d (.v (.bool e))::(dds 122 [])),[.gh 0 (.ref 2 0),.gh 1 (.srf 4),.box [.d (.ifc 24 (Gb l)),.d (.sl (m.map Ga)),di b.fUser,di b.fGroup,.d (.sl (b.fMore.map (eI .i64))),di b.fCaps,di b.fLevel,di b.fKind,.srf 3,di n],.row 3 1 (o.map (eI .i64)),.none]⟩
 | .x2 p q c r s t=>⟨(.ref 2 0::.srf 5::.d (.v (.bool e))::(dds 122 [])),[.gh 0 (.ref 2 0),.gh 1 (.srf 4),.box [.d (.ifc 24 (Gb p)),.d (.sl (q.map Ga)),di c.fUser,di c.fGroup,.d (.sl (c.fMore.map (eI .i64))),di c.fCaps,di c.fLevel,di c.fKind,.srf 3,di r],.row 3 1 (s.map (eI .i64)),.none,.row 9 1 (t.map eS)]⟩
def Y7 (b:(List ByteArray)) (c:Bool) (e:Gg) (f:(List Gd)) (a:Gc) (g:Int) (h:(List Int))  : PS:=⟨(.ref 2 0::.d (.sl (b.map eS))::.d (.v (.bool c))::(dds 122 [])),[.gh 0 (.ref 2 0),.gh 1 (.srf 4),.box [.d (.ifc 24 (Gb e)),.d (.sl (f.map Ga)),di a.fUser,di a.fGroup,.d (.sl (a.fMore.map (eI .i64))),di a.fCaps,di a.fLevel,di a.fKind,.srf 3,di g],.row 3 1 (h.map (eI .i64)),.none]⟩
def Gs (n:Nat) (e:(List ByteArray)) (j:Bool) (k:Gg) (l:(List Gd)) (m:Gc) (o:Int) (p:(List Int)):Option ST :=
 (getI e 0).bind fun (f:ByteArray) =>
 (sub e 1 (e.length:Int)).bind fun (c:(List ByteArray)) =>
 (SI n (Ge.mk k l m p o)).bind fun (a:(Int×Ge)) =>
 if a.1=0 then
  if (f.toList == (ByteArray.mk #[46]).toList)=true then
   some (.x1 c a.2.ft a.2.fmounts a.2.fc a.2.flinks a.2.fstack)
  else
   if (f.toList == (ByteArray.mk #[46,46]).toList)=true then
    (Sy n c j a).bind fun q=>match q with
    | .x0 r =>
      some (.x1 c a.2.ft a.2.fmounts a.2.fc a.2.flinks r)
   else
    (Kh n a.2).bind fun (s:(Int)) =>
    (Su n a.2.ft s f).bind fun (d:(Int×Int)) =>
    if d.2=0 then
     (GX n a.2.ft d.1).bind fun (g:(Gh×Int)) =>
     if g.2=0 then
      (Sz n c j d a g).bind fun t=>match t with
      | .x0 u h =>
       if u=true then
        (S7 n (Ge.mk a.2.ft a.2.fmounts a.2.fc h a.2.flinks) d.1).bind fun (b:((List ByteArray)×Int×Ge)) =>
        if b.2.1=0 then
         (app 16 b.1 c).bind fun (v:(List ByteArray)) =>
         some (.x2 b.2.2.ft b.2.2.fmounts b.2.2.fc b.2.2.flinks b.2.2.fstack v)
        else
         some (.x0 b.2.1 b.2.2.ft b.2.2.fmounts b.2.2.fc b.2.2.flinks b.2.2.fstack)
       else
        (ZY n a.2.fmounts d.1).bind fun (i:(Int×Int)) =>
        if i.2=0 then
         (app 8 h ([i.1])).bind fun (w:(List Int)) =>
         some (.x1 c a.2.ft a.2.fmounts a.2.fc a.2.flinks w)
        else
         some (.x0 i.2 a.2.ft a.2.fmounts a.2.fc a.2.flinks h)
     else
      some (.x0 g.2 a.2.ft a.2.fmounts a.2.fc a.2.flinks a.2.fstack)
    else
     some (.x0 d.2 a.2.ft a.2.fmounts a.2.fc a.2.flinks a.2.fstack)
 else
  some (.x0 a.1 a.2.ft a.2.fmounts a.2.fc a.2.flinks a.2.fstack)
theorem Y8 {Fi:Ex→PS→Prop} (hF:KC 125 Fi) (ks:List Fr) (n:Nat) (c0:(List ByteArray)) (b2:Bool) (z:Gg) (a0:(List Gd)) (a1:Gc) (a2:Int) (a3:(List Int))  (o:ST) (h:Gs n c0 b2 z a0 a1 a2 a3=some o) (q:RunE Tryd.prog 125 Fi ks (Y5 o) (Y6 c0 b2 z a0 a1 a2 a3 o)):RunE Tryd.prog 125 Fi (.s (cR (cP (cB (cL (cR (bodyOf Tryd.f10))))))::ks) .normal (Y7 c0 b2 z a0 a1 a2 a3):=by
 unfold Gs at h
 obtain ⟨p,a8,h⟩:=bind_some h
 obtain ⟨a5,i,h⟩:=bind_some h
 obtain ⟨a,a9,h⟩:=bind_some h
 by_cases a6:a.1=0
 ·rw [if_pos a6] at h
  by_cases a7:(p.toList == (ByteArray.mk #[46]).toList)=true
  ·rw [if_pos a7] at h
   cases h
   exact pkk_sound TTok mix hF 23 (hs:=[.y (eS p),.c,.w (a5.map eS),.h [2,3] [] [.box [.d (.ifc 24 (Gb a.2.ft)),.d (.sl (a.2.fmounts.map Ga)),di a.2.fc.fUser,di a.2.fc.fGroup,.d (.sl (a.2.fc.fMore.map (eI .i64))),di a.2.fc.fCaps,di a.2.fc.fLevel,di a.2.fc.fKind,.srf 2,di a.2.flinks],.none,.row 3 1 (a.2.fstack.map (eI .i64))] (di a.1),.t false,.t true]) (ts:=[]) (s:=[0,1,2,45,4]) (l:=[0,1,2]) (by kernel_rfl) (by kernel_rfl) (.cons (getI_ob (f:=eS) a8) (.cons (sub_ob' (f:=eS) (s:=1) i (fun _=>rfl)).1 (.cons (sub_ob' (f:=eS) (s:=1) i (fun _=>rfl)).2.1 (.cons (sub_ob' (f:=eS) (s:=1) i (fun _=>rfl)).2.2.1 (.cons (sub_ob' (f:=eS) (s:=1) i (fun _=>rfl)).2.2.2.1 (.cons (sub_ob' (f:=eS) (s:=1) i (fun _=>rfl)).2.2.2.2 (.cons (GN n (Ge.mk z a0 a1 a3 a2) _ a9) (.cons (nf a6) (.cons a7 .nil))))))))) q
  ·rw [if_neg a7] at h
   by_cases b0:(p.toList == (ByteArray.mk #[46,46]).toList)=true
   ·rw [if_pos b0] at h
    obtain ⟨c7,c8,h⟩:=bind_some h
    refine pkk_sound TTok mix hF 25 (hs:=[.y (eS p),.c,.w (a5.map eS),.h [2,3] [] [.box [.d (.ifc 24 (Gb a.2.ft)),.d (.sl (a.2.fmounts.map Ga)),di a.2.fc.fUser,di a.2.fc.fGroup,.d (.sl (a.2.fc.fMore.map (eI .i64))),di a.2.fc.fCaps,di a.2.fc.fLevel,di a.2.fc.fKind,.srf 2,di a.2.flinks],.none,.row 3 1 (a.2.fstack.map (eI .i64))] (di a.1),.t false,.t false,.t true,.c,.u (di (a.2.fstack.length:Int))]) (ts:=[]) (s:=[0,1,2,45,4]) (l:=[0,1,2,37]) (by kernel_rfl) (by kernel_rfl) (.cons (getI_ob (f:=eS) a8) (.cons (sub_ob' (f:=eS) (s:=1) i (fun _=>rfl)).1 (.cons (sub_ob' (f:=eS) (s:=1) i (fun _=>rfl)).2.1 (.cons (sub_ob' (f:=eS) (s:=1) i (fun _=>rfl)).2.2.1 (.cons (sub_ob' (f:=eS) (s:=1) i (fun _=>rfl)).2.2.2.1 (.cons (sub_ob' (f:=eS) (s:=1) i (fun _=>rfl)).2.2.2.2 (.cons (GN n (Ge.mk z a0 a1 a3 a2) _ a9) (.cons (nf a6) (.cons (vf a7) (.cons b0 (.cons (len_ob (f:=(eI .i64)) (l:=a.2.fstack)) .nil))))))))))) (Y0 hF (.s (cR (cT (cR (cF (cR (cB (cR (cL (cR (cR (cR (cB (cR (cP (cB (cL (cR (bodyOf Tryd.f10))))))))))))))))))::.b 2::.s (cR (cR (cR (cR (cB (cR (cP (cB (cL (cR (bodyOf Tryd.f10)))))))))))::.b 1::ks) n a5 b2 a _ c8 ?_)
    cases c7 with
    | x0 d4 =>
     try dsimp only at h
     cases h
     exact pkk_sound TTok mix hF 4 (hs:=[]) (ts:=[]) (s:=[0,1,2,3,4]) (l:=[0,1,2]) (by kernel_rfl) (by kernel_rfl) .nil q
   ·rw [if_neg b0] at h
    obtain ⟨a4,c1,h⟩:=bind_some h
    obtain ⟨k,c2,h⟩:=bind_some h
    by_cases b3:k.2=0
    ·rw [if_pos b3] at h
     obtain ⟨m,c3,h⟩:=bind_some h
     by_cases b5:m.2=0
     ·rw [if_pos b5] at h
      obtain ⟨c9,d0,h⟩:=bind_some h
      refine pkk_sound TTok mix hF 40 (hs:=[.y (eS p),.c,.w (a5.map eS),.h [2,3] [] [.box [.d (.ifc 24 (Gb a.2.ft)),.d (.sl (a.2.fmounts.map Ga)),di a.2.fc.fUser,di a.2.fc.fGroup,.d (.sl (a.2.fc.fMore.map (eI .i64))),di a.2.fc.fCaps,di a.2.fc.fLevel,di a.2.fc.fKind,.srf 2,di a.2.flinks],.none,.row 3 1 (a.2.fstack.map (eI .i64))] (di a.1),.t false,.t false,.t false,.c,.e 115 [2,45] (di a4) [],.e 135 [] (.d (.tup [.v (.int .i64 k.1),.v (.int .i64 k.2)])) [],.t false,.c,.e 200 [] (.d (.tup [.agg [.v (.int .i64 m.1.fKind),.v (.int .i64 m.1.fMode),.v (.int .i64 m.1.fUser),.v (.int .i64 m.1.fGroup),.v (.int .i64 m.1.fSize),.v (.int .i64 m.1.fLinks)],.v (.int .i64 m.2)])) [],.c,.t false]) (ts:=[]) (s:=[0,1,2,45,4,220]) (l:=[0,1,2,9,11]) (by kernel_rfl) (by kernel_rfl) (.cons (getI_ob (f:=eS) a8) (.cons (sub_ob' (f:=eS) (s:=1) i (fun _=>rfl)).1 (.cons (sub_ob' (f:=eS) (s:=1) i (fun _=>rfl)).2.1 (.cons (sub_ob' (f:=eS) (s:=1) i (fun _=>rfl)).2.2.1 (.cons (sub_ob' (f:=eS) (s:=1) i (fun _=>rfl)).2.2.2.1 (.cons (sub_ob' (f:=eS) (s:=1) i (fun _=>rfl)).2.2.2.2 (.cons (GN n (Ge.mk z a0 a1 a3 a2) _ a9) (.cons (nf a6) (.cons (vf a7) (.cons (vf b0) (.cons (lcall (P:=Tryd.prog) (T:=TT) (f:=.func 20) (args:=#[(.tmp 57)]) (tys:=#[44]) (g:=20) (l:=2) (L:=45) (e:=3) (s:=1) (cs:=[.d (.ifc 24 (Gb a.2.ft)),.d (.sl (a.2.fmounts.map Ga)),di a.2.fc.fUser,di a.2.fc.fGroup,.d (.sl (a.2.fc.fMore.map (eI .i64))),di a.2.fc.fCaps,di a.2.fc.fLevel,di a.2.fc.fKind,.srf 45,di a.2.flinks]) (pre:=[.ifc 24 (Gb a.2.ft),.sl (a.2.fmounts.map Ga),.v (.int .i64 a.2.fc.fUser),.v (.int .i64 a.2.fc.fGroup),.sl (a.2.fc.fMore.map (eI .i64)),.v (.int .i64 a.2.fc.fCaps),.v (.int .i64 a.2.fc.fLevel),.v (.int .i64 a.2.fc.fKind)]) (post:=[.v (.int .i64 a.2.flinks)]) (xs:=(a.2.fstack.map (eI .i64))) (ds:=(Sn a.2)) (ps:=[]) (by kernel_rfl) (by kernel_rfl) (GV n a.2 _ c1) (by rfl)) (.cons (icallD (P:=Tryd.prog) (T:=TT) (x:=(.tmp 61)) (args:=#[(.tmp 58),(.tmp 59)]) (tys:=#[3,9]) (name := "Look") (t:=24) (y:=Gb a.2.ft) (ps:=[.v (.int .i64 a4),.v (.string p)]) (g:=28) (by kernel_rfl) (Se n a.2.ft a4 p _ c2)) (.cons (nf b3) (.cons (icallD (P:=Tryd.prog) (T:=TT) (x:=(.tmp 72)) (args:=#[(.tmp 73)]) (tys:=#[3]) (name := "Stat") (t:=24) (y:=Gb a.2.ft) (ps:=[.v (.int .i64 k.1)]) (g:=29) (by kernel_rfl) (Gm n a.2.ft k.1 _ c3)) (.cons (show 0+6≤6 by decide) (.cons (nf b5) .nil)))))))))))))))) (Y4 hF (.s (cR (cL (cR (cR (cR (cR (cR (cR (cR (cR (cB (cR (cP (cB (cL (cR (bodyOf Tryd.f10)))))))))))))))))::.s (cR (cR (cR (cR (cR (cR (cR (cR (cR (cB (cR (cP (cB (cL (cR (bodyOf Tryd.f10))))))))))))))))::.b 1::ks) n a5 b2 k a m _ d0 ?_)
      cases c9 with
      | x0 d1 c4 =>
       try dsimp only at h
       by_cases b1:d1=true
       ·rw [if_pos b1] at h
        obtain ⟨j,c5,h⟩:=bind_some h
        by_cases b6:j.2.1=0
        ·rw [if_pos b6] at h
         obtain ⟨d2,b7,h⟩:=bind_some h
         cases h
         exact pkk_sound TTok mix hF 13 (hs:=[.t true,.h [2,3] [] [.box [.d (.ifc 24 (Gb j.2.2.ft)),.d (.sl (j.2.2.fmounts.map Ga)),di j.2.2.fc.fUser,di j.2.2.fc.fGroup,.d (.sl (j.2.2.fc.fMore.map (eI .i64))),di j.2.2.fc.fCaps,di j.2.2.fc.fLevel,di j.2.2.fc.fKind,.srf 3,di j.2.2.flinks],.none,.row 9 1 (j.1.map eS),.row 3 1 (j.2.2.fstack.map (eI .i64))] (.tup [.srf 2,di j.2.1]),.t false,.w (d2.map eS)]) (ts:=[]) (s:=[0,1,2,16,4,65]) (l:=[0,1,2]) (by kernel_rfl) (by kernel_rfl) (.cons b1 (.cons (Yc n (Ge.mk a.2.ft a.2.fmounts a.2.fc c4 a.2.flinks) k.1 _ c5) (.cons (nf b6) (.cons (app_ob (f:=eS) (s:=1) b7 (fun _=>rfl)).1 (.cons (app_ob (f:=eS) (s:=1) b7 (fun _=>rfl)).2.1 (.cons (app_ob (f:=eS) (s:=1) b7 (fun _=>rfl)).2.2.1 (.cons (app_ob (f:=eS) (s:=1) b7 (fun _=>rfl)).2.2.2 .nil))))))) q
        ·rw [if_neg b6] at h
         cases h
         exact pkk_sound TTok mix hF 13 (hs:=[.t true,.h [2,3] [] [.box [.d (.ifc 24 (Gb j.2.2.ft)),.d (.sl (j.2.2.fmounts.map Ga)),di j.2.2.fc.fUser,di j.2.2.fc.fGroup,.d (.sl (j.2.2.fc.fMore.map (eI .i64))),di j.2.2.fc.fCaps,di j.2.2.fc.fLevel,di j.2.2.fc.fKind,.srf 3,di j.2.2.flinks],.none,.row 9 1 (j.1.map eS),.row 3 1 (j.2.2.fstack.map (eI .i64))] (.tup [.srf 2,di j.2.1]),.t true]) (ts:=[]) (s:=[0,1,2,16,4]) (l:=[6]) (by kernel_rfl) (by kernel_rfl) (.cons b1 (.cons (Yc n (Ge.mk a.2.ft a.2.fmounts a.2.fc c4 a.2.flinks) k.1 _ c5) (.cons (nt b6) .nil))) q
       ·rw [if_neg b1] at h
        obtain ⟨b4,c6,h⟩:=bind_some h
        by_cases b8:b4.2=0
        ·rw [if_pos b8] at h
         obtain ⟨d3,b9,h⟩:=bind_some h
         cases h
         exact pkk_sound TTok mix hF 11 (hs:=[.t false,.c,.r (.tup [(eI .i64) b4.1,(eI .i64) b4.2]),.t false,.c,.bd,.w (d3.map (eI .i64)),.c]) (ts:=[]) (s:=[0,1,2,105,4]) (l:=[0,1,2]) (by kernel_rfl) (by kernel_rfl) (.cons (vf b1) (.cons (Uj n a.2.fmounts k.1 _ c6) (.cons (nf b8) (.cons (app_ob (f:=(eI .i64)) (s:=1) b9 (fun _=>rfl)).1 (.cons (app_ob (f:=(eI .i64)) (s:=1) b9 (fun _=>rfl)).2.1 (.cons (app_ob (f:=(eI .i64)) (s:=1) b9 (fun _=>rfl)).2.2.1 (.cons (app_ob (f:=(eI .i64)) (s:=1) b9 (fun _=>rfl)).2.2.2 (.cons (show 8+1≤10 by decide) .nil)))))))) q
        ·rw [if_neg b8] at h
         cases h
         exact pkk_sound TTok mix hF 13 (hs:=[.t false,.c,.r (.tup [(eI .i64) b4.1,(eI .i64) b4.2]),.t true]) (ts:=[]) (s:=[0,1,2,3,4]) (l:=[6]) (by kernel_rfl) (by kernel_rfl) (.cons (vf b1) (.cons (Uj n a.2.fmounts k.1 _ c6) (.cons (nt b8) .nil))) q
     ·rw [if_neg b5] at h
      cases h
      exact pkk_sound TTok mix hF 42 (hs:=[.y (eS p),.c,.w (a5.map eS),.h [2,3] [] [.box [.d (.ifc 24 (Gb a.2.ft)),.d (.sl (a.2.fmounts.map Ga)),di a.2.fc.fUser,di a.2.fc.fGroup,.d (.sl (a.2.fc.fMore.map (eI .i64))),di a.2.fc.fCaps,di a.2.fc.fLevel,di a.2.fc.fKind,.srf 2,di a.2.flinks],.none,.row 3 1 (a.2.fstack.map (eI .i64))] (di a.1),.t false,.t false,.t false,.c,.e 115 [2,45] (di a4) [],.e 135 [] (.d (.tup [.v (.int .i64 k.1),.v (.int .i64 k.2)])) [],.t false,.c,.e 200 [] (.d (.tup [.agg [.v (.int .i64 m.1.fKind),.v (.int .i64 m.1.fMode),.v (.int .i64 m.1.fUser),.v (.int .i64 m.1.fGroup),.v (.int .i64 m.1.fSize),.v (.int .i64 m.1.fLinks)],.v (.int .i64 m.2)])) [],.c,.t true]) (ts:=[]) (s:=[0,1,2,45,4]) (l:=[6]) (by kernel_rfl) (by kernel_rfl) (.cons (getI_ob (f:=eS) a8) (.cons (sub_ob' (f:=eS) (s:=1) i (fun _=>rfl)).1 (.cons (sub_ob' (f:=eS) (s:=1) i (fun _=>rfl)).2.1 (.cons (sub_ob' (f:=eS) (s:=1) i (fun _=>rfl)).2.2.1 (.cons (sub_ob' (f:=eS) (s:=1) i (fun _=>rfl)).2.2.2.1 (.cons (sub_ob' (f:=eS) (s:=1) i (fun _=>rfl)).2.2.2.2 (.cons (GN n (Ge.mk z a0 a1 a3 a2) _ a9) (.cons (nf a6) (.cons (vf a7) (.cons (vf b0) (.cons (lcall (P:=Tryd.prog) (T:=TT) (f:=.func 20) (args:=#[(.tmp 57)]) (tys:=#[44]) (g:=20) (l:=2) (L:=45) (e:=3) (s:=1) (cs:=[.d (.ifc 24 (Gb a.2.ft)),.d (.sl (a.2.fmounts.map Ga)),di a.2.fc.fUser,di a.2.fc.fGroup,.d (.sl (a.2.fc.fMore.map (eI .i64))),di a.2.fc.fCaps,di a.2.fc.fLevel,di a.2.fc.fKind,.srf 45,di a.2.flinks]) (pre:=[.ifc 24 (Gb a.2.ft),.sl (a.2.fmounts.map Ga),.v (.int .i64 a.2.fc.fUser),.v (.int .i64 a.2.fc.fGroup),.sl (a.2.fc.fMore.map (eI .i64)),.v (.int .i64 a.2.fc.fCaps),.v (.int .i64 a.2.fc.fLevel),.v (.int .i64 a.2.fc.fKind)]) (post:=[.v (.int .i64 a.2.flinks)]) (xs:=(a.2.fstack.map (eI .i64))) (ds:=(Sn a.2)) (ps:=[]) (by kernel_rfl) (by kernel_rfl) (GV n a.2 _ c1) (by rfl)) (.cons (icallD (P:=Tryd.prog) (T:=TT) (x:=(.tmp 61)) (args:=#[(.tmp 58),(.tmp 59)]) (tys:=#[3,9]) (name := "Look") (t:=24) (y:=Gb a.2.ft) (ps:=[.v (.int .i64 a4),.v (.string p)]) (g:=28) (by kernel_rfl) (Se n a.2.ft a4 p _ c2)) (.cons (nf b3) (.cons (icallD (P:=Tryd.prog) (T:=TT) (x:=(.tmp 72)) (args:=#[(.tmp 73)]) (tys:=#[3]) (name := "Stat") (t:=24) (y:=Gb a.2.ft) (ps:=[.v (.int .i64 k.1)]) (g:=29) (by kernel_rfl) (Gm n a.2.ft k.1 _ c3)) (.cons (show 0+6≤6 by decide) (.cons (nt b5) .nil)))))))))))))))) q
    ·rw [if_neg b3] at h
     cases h
     exact pkk_sound TTok mix hF 35 (hs:=[.y (eS p),.c,.w (a5.map eS),.h [2,3] [] [.box [.d (.ifc 24 (Gb a.2.ft)),.d (.sl (a.2.fmounts.map Ga)),di a.2.fc.fUser,di a.2.fc.fGroup,.d (.sl (a.2.fc.fMore.map (eI .i64))),di a.2.fc.fCaps,di a.2.fc.fLevel,di a.2.fc.fKind,.srf 2,di a.2.flinks],.none,.row 3 1 (a.2.fstack.map (eI .i64))] (di a.1),.t false,.t false,.t false,.c,.e 115 [2,45] (di a4) [],.e 135 [] (.d (.tup [.v (.int .i64 k.1),.v (.int .i64 k.2)])) [],.t true]) (ts:=[]) (s:=[0,1,2,45,4]) (l:=[6]) (by kernel_rfl) (by kernel_rfl) (.cons (getI_ob (f:=eS) a8) (.cons (sub_ob' (f:=eS) (s:=1) i (fun _=>rfl)).1 (.cons (sub_ob' (f:=eS) (s:=1) i (fun _=>rfl)).2.1 (.cons (sub_ob' (f:=eS) (s:=1) i (fun _=>rfl)).2.2.1 (.cons (sub_ob' (f:=eS) (s:=1) i (fun _=>rfl)).2.2.2.1 (.cons (sub_ob' (f:=eS) (s:=1) i (fun _=>rfl)).2.2.2.2 (.cons (GN n (Ge.mk z a0 a1 a3 a2) _ a9) (.cons (nf a6) (.cons (vf a7) (.cons (vf b0) (.cons (lcall (P:=Tryd.prog) (T:=TT) (f:=.func 20) (args:=#[(.tmp 57)]) (tys:=#[44]) (g:=20) (l:=2) (L:=45) (e:=3) (s:=1) (cs:=[.d (.ifc 24 (Gb a.2.ft)),.d (.sl (a.2.fmounts.map Ga)),di a.2.fc.fUser,di a.2.fc.fGroup,.d (.sl (a.2.fc.fMore.map (eI .i64))),di a.2.fc.fCaps,di a.2.fc.fLevel,di a.2.fc.fKind,.srf 45,di a.2.flinks]) (pre:=[.ifc 24 (Gb a.2.ft),.sl (a.2.fmounts.map Ga),.v (.int .i64 a.2.fc.fUser),.v (.int .i64 a.2.fc.fGroup),.sl (a.2.fc.fMore.map (eI .i64)),.v (.int .i64 a.2.fc.fCaps),.v (.int .i64 a.2.fc.fLevel),.v (.int .i64 a.2.fc.fKind)]) (post:=[.v (.int .i64 a.2.flinks)]) (xs:=(a.2.fstack.map (eI .i64))) (ds:=(Sn a.2)) (ps:=[]) (by kernel_rfl) (by kernel_rfl) (GV n a.2 _ c1) (by rfl)) (.cons (icallD (P:=Tryd.prog) (T:=TT) (x:=(.tmp 61)) (args:=#[(.tmp 58),(.tmp 59)]) (tys:=#[3,9]) (name := "Look") (t:=24) (y:=Gb a.2.ft) (ps:=[.v (.int .i64 a4),.v (.string p)]) (g:=28) (by kernel_rfl) (Se n a.2.ft a4 p _ c2)) (.cons (nt b3) .nil))))))))))))) q
 ·rw [if_neg a6] at h
  cases h
  exact pkk_sound TTok mix hF 16 (hs:=[.y (eS p),.c,.w (a5.map eS),.h [2,3] [] [.box [.d (.ifc 24 (Gb a.2.ft)),.d (.sl (a.2.fmounts.map Ga)),di a.2.fc.fUser,di a.2.fc.fGroup,.d (.sl (a.2.fc.fMore.map (eI .i64))),di a.2.fc.fCaps,di a.2.fc.fLevel,di a.2.fc.fKind,.srf 2,di a.2.flinks],.none,.row 3 1 (a.2.fstack.map (eI .i64))] (di a.1),.t true]) (ts:=[]) (s:=[0,1,2,45,4]) (l:=[6]) (by kernel_rfl) (by kernel_rfl) (.cons (getI_ob (f:=eS) a8) (.cons (sub_ob' (f:=eS) (s:=1) i (fun _=>rfl)).1 (.cons (sub_ob' (f:=eS) (s:=1) i (fun _=>rfl)).2.1 (.cons (sub_ob' (f:=eS) (s:=1) i (fun _=>rfl)).2.2.1 (.cons (sub_ob' (f:=eS) (s:=1) i (fun _=>rfl)).2.2.2.1 (.cons (sub_ob' (f:=eS) (s:=1) i (fun _=>rfl)).2.2.2.2 (.cons (GN n (Ge.mk z a0 a1 a3 a2) _ a9) (.cons (nt a6) .nil)))))))) q
inductive SU where
 | x0 (a:Int) (b:Gg) (c:(List Gd)) (d:Gc) (e:Int) (f:(List Int))
 | x1 (g:Gg) (h:(List Gd)) (i:Gc) (j:Int) (k:(List Int))
def Y9:SU→Ex
 | .x0 _ _ _ _ _ _=>.ret
 | .x1 _ _ _ _ _=>.exit 0
def Xa (m:Bool):SU→PS
 | .x0 c e f a g h=>⟨(dd::dd::dd::dd::dd::dd::di c::(dds 118 [])),[.gh 0 (.ref 2 0),.gh 1 (.srf 4),.box [.d (.ifc 24 (Gb e)),.d (.sl (f.map Ga)),di a.fUser,di a.fGroup,.d (.sl (a.fMore.map (eI .i64))),di a.fCaps,di a.fLevel,di a.fKind,.srf 3,di g],.row 3 1 (h.map (eI .i64)),.none]⟩
 | .x1 i j b k l=>⟨(dds 125 []),[.gh 0 (.ref 2 0),.gh 1 (.srf 4),.box [.d (.ifc 24 (Gb i)),.d (.sl (j.map Ga)),di b.fUser,di b.fGroup,.d (.sl (b.fMore.map (eI .i64))),di b.fCaps,di b.fLevel,di b.fKind,.srf 3,di k],.row 3 1 (l.map (eI .i64)),.none]⟩
def Xb (b:Bool) (c:(List ByteArray)) (e:Gg) (f:(List Gd)) (a:Gc) (g:Int) (h:(List Int)):PS:=⟨(.ref 2 0::.d (.sl (c.map eS))::.d (.v (.bool b))::(dds 122 [])),[.gh 0 (.ref 2 0),.gh 1 (.srf 4),.box [.d (.ifc 24 (Gb e)),.d (.sl (f.map Ga)),di a.fUser,di a.fGroup,.d (.sl (a.fMore.map (eI .i64))),di a.fCaps,di a.fLevel,di a.fKind,.srf 3,di g],.row 3 1 (h.map (eI .i64)),.none]⟩
def Gj (n:Nat) (a:Bool):Nat→(List ByteArray)→Gg→(List Gd)→Gc→Int→(List Int)→Option SU
 | 0,_,_,_,_,_,_=>none
 | k+1,b,c,d,e,f,g =>
  if (b.length:Int) > 0 then
   (Gs n b a c d e f g).bind fun h=>match h with
   | .x0 i j l m o p =>
    some (.x0 i j l m o p)
   | .x1 q r s t u v =>
    Gj n a k q r s t u v
   | .x2 w x y z a0 a1 =>
    Gj n a k a1 w x y z a0
  else
   some (.x1 c d e f g)
theorem KX {Fi:Ex→PS→Prop} (hF:KC 125 Fi) (ks:List Fr) (n:Nat) (b:Bool)  : ∀ (k:Nat) (a:(List ByteArray)) (c:Gg) (e:(List Gd)) (g:Gc) (i:Int) (j:(List Int)) (o:SU),Gj n b k a c e g i j=some o→RunE Tryd.prog 125 Fi ks (Y9 o) (Xa b o)→RunE Tryd.prog 125 Fi (.l k (cP (cB (cL (cR (bodyOf Tryd.f10)))))::ks) .normal (Xb b a c e g i j)
 | 0,a,c,e,g,i,j,o,h,q=>by rw [Gj] at h; cases h
 | k+1,a,c,e,g,i,j,o,h,q=>by
  rw [Gj] at h
  by_cases m:(a.length:Int) > 0
  ·rw [if_pos m] at h
   obtain ⟨p,r,h⟩:=bind_some h
   refine pkk_sound TTok mix hF 6 (hs:=[.u (di (a.length:Int)),.t true]) (ts:=[]) (s:=[0,1,2,3,4]) (l:=[0,1,2]) (by kernel_rfl) (by kernel_rfl) (.cons (len_ob (f:=eS) (l:=a)) (.cons (dt m) .nil)) (Y8 hF (.l k (cP (cB (cL (cR (bodyOf Tryd.f10)))))::ks) n a b c e g i j _ r ?_)
   cases p with
   | x0 a8 a9 b0 b1 b2 b3 =>
    try dsimp only at h
    cases h
    exact pkk_sound TTok mix hF 1 (hs:=[]) (ts:=[]) (s:=[0,1,2,3,4]) (l:=[6]) (by kernel_rfl) (by kernel_rfl) .nil q
   | x1 w x y z a0 a1 =>
    try dsimp only at h
    exact pkk_sound TTok mix hF 0 (hs:=[]) (ts:=[]) (s:=[0,1,2,3,4]) (l:=[0,1,2]) (by kernel_rfl) (by kernel_rfl) .nil (KX hF ks n b k w x y z a0 a1 _ h q)
   | x2 a2 a3 a4 a5 a6 a7 =>
    try dsimp only at h
    exact pkk_sound TTok mix hF 1 (hs:=[.fz 5]) (ts:=[]) (s:=[0,1,2,3,4]) (l:=[0,1,2]) (by kernel_rfl) (by kernel_rfl) .nil (KX hF ks n b k a7 a2 a3 a4 a5 a6 _ h q)
  ·rw [if_neg m] at h
   cases h
   exact pkk_sound TTok mix hF 8 (hs:=[.u (di (a.length:Int)),.t false]) (ts:=[]) (s:=[0,1,2,3,4]) (l:=[]) (by kernel_rfl) (by kernel_rfl) (.cons (len_ob (f:=eS) (l:=a)) (.cons (df m) .nil)) q
/- (*ringhall/path.walker).walk -/
def Sv (n:Nat) (a:Ge) (b:(List ByteArray)) (c:Bool):Option (Int×Ge) :=
 (Gj n c n b a.ft a.fmounts a.fc a.flinks a.fstack).bind fun d=>match d with
 | .x0 e f g h i j =>
  some (e,(Ge.mk f g h j i))
 | .x1 k l m o p =>
  some (0,(Ge.mk k l m p o))
theorem SA (n:Nat) (a:Ge) (e:(List ByteArray)) (f:Bool) (r:Int×Ge) (h:Sv n a e f=some r):RetH Tryd.prog 10 [.ref 0 0,.d ((eL eS) e),.d (eB f)] [.box [.d (.ifc 24 (Gb a.ft)),.d (.sl (a.fmounts.map Ga)),di a.fc.fUser,di a.fc.fGroup,.d (.sl (a.fc.fMore.map (eI .i64))),di a.fc.fCaps,di a.fc.fLevel,di a.fc.fKind,.srf 1,di a.flinks],.row 3 1 (a.fstack.map (eI .i64))] (.d ((eI .i64) r.1)) [.box [.d (.ifc 24 (Gb r.2.ft)),.d (.sl (r.2.fmounts.map Ga)),di r.2.fc.fUser,di r.2.fc.fGroup,.d (.sl (r.2.fc.fMore.map (eI .i64))),di r.2.fc.fCaps,di r.2.fc.fLevel,di r.2.fc.fKind,.srf 2,di r.2.flinks],.none,.row 3 1 (r.2.fstack.map (eI .i64))]:=by
 refine retH_run (n:=125) (fn:=Tryd.f10) (c:=bodyOf Tryd.f10) (by kernel_rfl) (by kernel_rfl) (by kernel_rfl) (by kernel_rfl) ?_
 have hF:KC 125 (FinH Tryd.prog Tryd.f10 [.box [.d (.ifc 24 (Gb a.ft)),.d (.sl (a.fmounts.map Ga)),di a.fc.fUser,di a.fc.fGroup,.d (.sl (a.fc.fMore.map (eI .i64))),di a.fc.fCaps,di a.fc.fLevel,di a.fc.fKind,.srf 1,di a.flinks],.row 3 1 (a.fstack.map (eI .i64))] (.d ((eI .i64) r.1)) [.box [.d (.ifc 24 (Gb r.2.ft)),.d (.sl (r.2.fmounts.map Ga)),di r.2.fc.fUser,di r.2.fc.fGroup,.d (.sl (r.2.fc.fMore.map (eI .i64))),di r.2.fc.fCaps,di r.2.fc.fLevel,di r.2.fc.fKind,.srf 2,di r.2.flinks],.none,.row 3 1 (r.2.fstack.map (eI .i64))]):=FinH.kc' (by kernel_rfl)
 unfold Sv at h
 obtain ⟨g,i,h⟩:=bind_some h
 refine pkk_sound TTok mix hF 6 (hs:=[.dl 4,.mv 1,.n n]) (ts:=[]) (s:=[2,3,0,9,1]) (l:=[0,1,2]) (by kernel_rfl) (by kernel_rfl) .nil (KX hF (.b 0::.s (cR (cR (bodyOf Tryd.f10)))::[]) n f n e a.ft a.fmounts a.fc a.flinks a.fstack _ i ?_)
 cases g with
 | x0 j k m o p q =>
  try dsimp only at h
  obtain rfl:=Option.some.inj h
  exact pendH_sound TTok mix 2 (hs:=[]) [2,4,3] (by kernel_rfl) (by kernel_rfl) (by kernel_rfl) .nil
 | x1 t u w x y =>
  try dsimp only at h
  obtain rfl:=Option.some.inj h
  exact pendH_sound TTok mix 4 (hs:=[]) [2,4,3] (by kernel_rfl) (by kernel_rfl) (by kernel_rfl) .nil
/- ringhall/path.Walk -/
def Yk (n:Nat) (d:Gg) (e:(List Gd)) (f:Gc) (g:(List Int)) (h:ByteArray) (i:Bool):Option ((List Int)×Int) :=
 (Kx n d e f g h).bind fun (j:(Option Ge)×(List ByteArray)×Int)=>match j with
 | (none,c,a) =>
  if a=0 then
   none
  else
   some (([]:(List Int)),a)
 | (some k,c,a) =>
  if a=0 then
   (Sv n k c i).bind fun (b:(Int×Ge)) =>
   if b.1=0 then
    (G3 n b.2.fstack).bind fun (l:(List Int)) =>
    some (l,0)
   else
    some (([]:(List Int)),b.1)
  else
   some (([]:(List Int)),a)
theorem Vv (n:Nat) (m:Gg) (o:(List Gd)) (p:Gc) (q:(List Int)) (u:ByteArray) (x:Bool) (r:(List Int)×Int) (h:Yk n m o p q u x=some r):Ret Tryd.prog 4 [(eF 24 Gb) m,(eL Ga) o,G0 p,(eL (eI .i64)) q,eS u,eB x] (.tup [(eL (eI .i64)) r.1,(eI .i64) r.2]):=by
 refine ret_run (n:=43) (fn:=Tryd.f4) (c:=bodyOf Tryd.f4) (by kernel_rfl) (by kernel_rfl) (by kernel_rfl) (by kernel_rfl) ?_
 have hF:KC 43 (FinR Tryd.prog Tryd.f4 (.tup [(eL (eI .i64)) r.1,(eI .i64) r.2])):=FinR.kc' (by kernel_rfl)
 unfold Yk at h
 obtain ⟨a1,i,h⟩:=bind_some h
 match a1,i,h with
 | (none,j,k),i,h =>
  try dsimp only at h
  by_cases z:k=0
  ·rw [if_pos z] at h
   cases h
  ·rw [if_neg z] at h
   obtain rfl:=Option.some.inj h
   exact pend_sound TTok mix 12 (hs:=[.c,.h [] [] [] (.tup [.d (.v (.pointer none)),.d (.sl (j.map eS)),di k]),.t true]) (by kernel_rfl) (by kernel_rfl) (by kernel_rfl) (.cons (GS n m o p q u _ i) (.cons (nt z) .nil))
 | (some a,j,k),i,h =>
  try dsimp only at h
  by_cases w:k=0
  ·rw [if_pos w] at h
   obtain ⟨b,a0,h⟩:=bind_some h
   by_cases y:b.1=0
   ·rw [if_pos y] at h
    obtain ⟨a2,a3,h⟩:=bind_some h
    obtain rfl:=Option.some.inj h
    exact pend_sound TTok mix 19 (hs:=[.c,.h [] [] [.box [.d (.ifc 24 (Gb a.ft)),.d (.sl (a.fmounts.map Ga)),di a.fc.fUser,di a.fc.fGroup,.d (.sl (a.fc.fMore.map (eI .i64))),di a.fc.fCaps,di a.fc.fLevel,di a.fc.fKind,.srf 1,di a.flinks],.row 3 1 (a.fstack.map (eI .i64))] (.tup [.ref 0 0,.d (.sl (j.map eS)),di k]),.t false,.h [40,41] [] [.box [.d (.ifc 24 (Gb b.2.ft)),.d (.sl (b.2.fmounts.map Ga)),di b.2.fc.fUser,di b.2.fc.fGroup,.d (.sl (b.2.fc.fMore.map (eI .i64))),di b.2.fc.fCaps,di b.2.fc.fLevel,di b.2.fc.fKind,.srf 2,di b.2.flinks],.none,.row 3 1 (b.2.fstack.map (eI .i64))] (di b.1),.t false,.c,.e 145 [105,145] (.srf 145) [(145,.row 3 1 (a2.map (eI .i64)))]]) (by kernel_rfl) (by kernel_rfl) (by kernel_rfl) (.cons (GS n m o p q u _ i) (.cons (nf w) (.cons (SA n a j x _ a0) (.cons (nf y) (.cons (cwhole (P:=Tryd.prog) (T:=TT) (f:=.func 11) (args:=#[(.tmp 41)]) (tys:=#[26]) (g:=11) (l:=105) (e:=3) (s:=1) (nl:=145) (xs:=(b.2.fstack.map (eI .i64))) (SP n _ _ a3) (flat_map _ (fun _=>rfl))) .nil)))))
   ·rw [if_neg y] at h
    obtain rfl:=Option.some.inj h
    exact pend_sound TTok mix 19 (hs:=[.c,.h [] [] [.box [.d (.ifc 24 (Gb a.ft)),.d (.sl (a.fmounts.map Ga)),di a.fc.fUser,di a.fc.fGroup,.d (.sl (a.fc.fMore.map (eI .i64))),di a.fc.fCaps,di a.fc.fLevel,di a.fc.fKind,.srf 1,di a.flinks],.row 3 1 (a.fstack.map (eI .i64))] (.tup [.ref 0 0,.d (.sl (j.map eS)),di k]),.t false,.h [40,41] [] [.box [.d (.ifc 24 (Gb b.2.ft)),.d (.sl (b.2.fmounts.map Ga)),di b.2.fc.fUser,di b.2.fc.fGroup,.d (.sl (b.2.fc.fMore.map (eI .i64))),di b.2.fc.fCaps,di b.2.fc.fLevel,di b.2.fc.fKind,.srf 2,di b.2.flinks],.none,.row 3 1 (b.2.fstack.map (eI .i64))] (di b.1),.t true]) (by kernel_rfl) (by kernel_rfl) (by kernel_rfl) (.cons (GS n m o p q u _ i) (.cons (nf w) (.cons (SA n a j x _ a0) (.cons (nt y) .nil))))
  ·rw [if_neg w] at h
   obtain rfl:=Option.some.inj h
   exact pend_sound TTok mix 12 (hs:=[.c,.h [] [] [.box [.d (.ifc 24 (Gb a.ft)),.d (.sl (a.fmounts.map Ga)),di a.fc.fUser,di a.fc.fGroup,.d (.sl (a.fc.fMore.map (eI .i64))),di a.fc.fCaps,di a.fc.fLevel,di a.fc.fKind,.srf 1,di a.flinks],.row 3 1 (a.fstack.map (eI .i64))] (.tup [.ref 0 0,.d (.sl (j.map eS)),di k]),.t true]) (by kernel_rfl) (by kernel_rfl) (by kernel_rfl) (.cons (GS n m o p q u _ i) (.cons (nt w) .nil))
inductive ZI where
 | x0 (a:Bool) (b:(List Int))
def Vm:ZI→Ex
 | .x0 _ _=>.normal
def Vn (b:(List ByteArray)) (a:Ge):ZI→PS
 | .x0 c e=>⟨(dds 13 (.ref 0 0::.d (.sl (b.map eS))::(dds 36 (.d (.v (.bool c))::(dds 26 []))))),[.box [.d (.ifc 24 (Gb a.ft)),.d (.sl (a.fmounts.map Ga)),di a.fc.fUser,di a.fc.fGroup,.d (.sl (a.fc.fMore.map (eI .i64))),di a.fc.fCaps,di a.fc.fLevel,di a.fc.fKind,.srf 1,di a.flinks],.row 3 1 (e.map (eI .i64))]⟩
def Vo (b:(List ByteArray)) (a:Ge)  : PS:=⟨(dds 13 (.ref 0 0::.d (.sl (b.map eS))::(dds 63 []))),[.box [.d (.ifc 24 (Gb a.ft)),.d (.sl (a.fmounts.map Ga)),di a.fc.fUser,di a.fc.fGroup,.d (.sl (a.fc.fMore.map (eI .i64))),di a.fc.fCaps,di a.fc.fLevel,di a.fc.fKind,.srf 1,di a.flinks],.row 3 1 (a.fstack.map (eI .i64))]⟩
def Kz (n:Nat) (a:(List ByteArray)) (b:Ge):Option ZI :=
 if (a.length:Int)=0 then
  some (.x0 true b.fstack)
 else
  (getI a (wi .i64 ((a.length:Int)-1))).bind fun (c:ByteArray) =>
  if (c.toList == (ByteArray.mk #[46]).toList)=true then
   some (.x0 true b.fstack)
  else
   (getI a (wi .i64 ((a.length:Int)-1))).bind fun (d:ByteArray) =>
   some (.x0 (d.toList == (ByteArray.mk #[46,46]).toList) b.fstack)
theorem Vp {Fi:Ex→PS→Prop} (hF:KC 78 Fi) (ks:List Fr) (n:Nat) (a:(List ByteArray)) (g:Ge)  (o:ZI) (h:Kz n a g=some o) (q:RunE Tryd.prog 78 Fi ks (Vm o) (Vn a g o)):RunE Tryd.prog 78 Fi (.s (cL (cL (cR (cR (cR (bodyOf Tryd.f5))))))::ks) .normal (Vo a g):=by
 unfold Kz at h
 by_cases b:(a.length:Int)=0
 ·rw [if_pos b] at h
  cases h
  exact pkk_sound TTok mix hF 1 (hs:=[.u (di (a.length:Int)),.t true,.c,.c,.c,.c,.c,.c,.c,.c,.c,.c,.c,.c,.c]) (ts:=[]) (s:=[0,1]) (l:=[13,14,51]) (by kernel_rfl) (by kernel_rfl) (.cons (len_ob (f:=eS) (l:=a)) (.cons (bt b) .nil)) q
 ·rw [if_neg b] at h
  obtain ⟨i,j,h⟩:=bind_some h
  by_cases e:(i.toList == (ByteArray.mk #[46]).toList)=true
  ·rw [if_pos e] at h
   cases h
   exact pkk_sound TTok mix hF 1 (hs:=[.u (di (a.length:Int)),.t false,.c,.c,.u (di (a.length:Int)),.c,.c,.y (eS i),.c,.c,.c,.t true,.c,.c,.c,.c,.c,.c]) (ts:=[]) (s:=[0,1]) (l:=[13,14,51]) (by kernel_rfl) (by kernel_rfl) (.cons (len_ob (f:=eS) (l:=a)) (.cons (bf b) (.cons (len_ob (f:=eS) (l:=a)) (.cons (getI_ob (f:=eS) j) (.cons e .nil))))) q
  ·rw [if_neg e] at h
   obtain ⟨k,m,h⟩:=bind_some h
   cases h
   exact pkk_sound TTok mix hF 1 (hs:=[.u (di (a.length:Int)),.t false,.c,.c,.u (di (a.length:Int)),.c,.c,.y (eS i),.c,.c,.c,.t false,.c,.c,.u (di (a.length:Int)),.c,.c,.y (eS k),.c,.c,.c]) (ts:=[]) (s:=[0,1]) (l:=[13,14,51]) (by kernel_rfl) (by kernel_rfl) (.cons (len_ob (f:=eS) (l:=a)) (.cons (bf b) (.cons (len_ob (f:=eS) (l:=a)) (.cons (getI_ob (f:=eS) j) (.cons (vf e) (.cons (len_ob (f:=eS) (l:=a)) (.cons (getI_ob (f:=eS) m) .nil))))))) q
/- ringhall/path.Last -/
def Yl (n:Nat) (f:Gg) (g:(List Gd)) (h:Gc) (i:(List Int)) (j:ByteArray):Option ((List Int)×ByteArray×Int) :=
 (Kx n f g h i j).bind fun (k:(Option Ge)×(List ByteArray)×Int)=>match k with
 | (none,a,b) =>
  if b=0 then
   if (a.length:Int)=0 then
    some (([]:(List Int)),(ByteArray.mk #[]),3)
   else
    (getI a (wi .i64 ((a.length:Int)-1))).bind fun (l:ByteArray) =>
    if (l.toList == (ByteArray.mk #[46]).toList)=true then
     some (([]:(List Int)),(ByteArray.mk #[]),3)
    else
     (getI a (wi .i64 ((a.length:Int)-1))).bind fun (m:ByteArray) =>
     if (m.toList == (ByteArray.mk #[46,46]).toList)=true then
      some (([]:(List Int)),(ByteArray.mk #[]),3)
     else
      (sub a 0 (wi .i64 ((a.length:Int)-1))).bind fun (u:(List ByteArray)) =>
      none
  else
   some (([]:(List Int)),(ByteArray.mk #[]),b)
 | (some c,a,b) =>
  if b=0 then
   (Kz n a c).bind fun o=>match o with
   | .x0 p q =>
     if p=true then
      some (([]:(List Int)),(ByteArray.mk #[]),3)
     else
      (sub a 0 (wi .i64 ((a.length:Int)-1))).bind fun (r:(List ByteArray)) =>
      (Sv n (Ge.mk c.ft c.fmounts c.fc q c.flinks) r true).bind fun (d:(Int×Ge)) =>
      if d.1=0 then
       (SI n d.2).bind fun (e:(Int×Ge)) =>
       if e.1=0 then
        (G3 n e.2.fstack).bind fun (s:(List Int)) =>
        (getI a (wi .i64 ((a.length:Int)-1))).bind fun (t:ByteArray) =>
        some (s,t,0)
       else
        some (([]:(List Int)),(ByteArray.mk #[]),e.1)
      else
       some (([]:(List Int)),(ByteArray.mk #[]),d.1)
  else
   some (([]:(List Int)),(ByteArray.mk #[]),b)
theorem Vw (n:Nat) (p:Gg) (q:(List Gd)) (x:Gc) (z:(List Int)) (a0:ByteArray) (r:(List Int)×ByteArray×Int) (h:Yl n p q x z a0=some r):Ret Tryd.prog 5 [(eF 24 Gb) p,(eL Ga) q,G0 x,(eL (eI .i64)) z,eS a0] (.tup [(eL (eI .i64)) r.1,eS r.2.1,(eI .i64) r.2.2]):=by
 refine ret_run (n:=78) (fn:=Tryd.f5) (c:=bodyOf Tryd.f5) (by kernel_rfl) (by kernel_rfl) (by kernel_rfl) (by kernel_rfl) ?_
 have hF:KC 78 (FinR Tryd.prog Tryd.f5 (.tup [(eL (eI .i64)) r.1,eS r.2.1,(eI .i64) r.2.2])):=FinR.kc' (by kernel_rfl)
 unfold Yl at h
 obtain ⟨b6,m,h⟩:=bind_some h
 match b6,m,h with
 | (none,i,o),m,h =>
  try dsimp only at h
  by_cases a1:o=0
  ·rw [if_pos a1] at h
   by_cases a4:(i.length:Int)=0
   ·rw [if_pos a4] at h
    obtain rfl:=Option.some.inj h
    exact pend_sound TTok mix 17 (hs:=[.c,.h [] [] [] (.tup [.d (.v (.pointer none)),.d (.sl (i.map eS)),di o]),.t false,.u (di (i.length:Int)),.t true,.c,.c,.c,.c,.c,.c,.c,.c,.c,.c,.c,.c,.c,.c]) (by kernel_rfl) (by kernel_rfl) (by kernel_rfl) (.cons (GS n p q x z a0 _ m) (.cons (nf a1) (.cons (len_ob (f:=eS) (l:=i)) (.cons (bt a4) .nil))))
   ·rw [if_neg a4] at h
    obtain ⟨a9,b3,h⟩:=bind_some h
    by_cases a6:(a9.toList == (ByteArray.mk #[46]).toList)=true
    ·rw [if_pos a6] at h
     obtain rfl:=Option.some.inj h
     exact pend_sound TTok mix 17 (hs:=[.c,.h [] [] [] (.tup [.d (.v (.pointer none)),.d (.sl (i.map eS)),di o]),.t false,.u (di (i.length:Int)),.t false,.c,.c,.u (di (i.length:Int)),.c,.c,.y (eS a9),.c,.c,.c,.t true,.c,.c,.c,.c,.c,.c,.c]) (by kernel_rfl) (by kernel_rfl) (by kernel_rfl) (.cons (GS n p q x z a0 _ m) (.cons (nf a1) (.cons (len_ob (f:=eS) (l:=i)) (.cons (bf a4) (.cons (len_ob (f:=eS) (l:=i)) (.cons (getI_ob (f:=eS) b3) (.cons a6 .nil)))))))
    ·rw [if_neg a6] at h
     obtain ⟨b4,b7,h⟩:=bind_some h
     by_cases b0:(b4.toList == (ByteArray.mk #[46,46]).toList)=true
     ·rw [if_pos b0] at h
      obtain rfl:=Option.some.inj h
      exact pend_sound TTok mix 17 (hs:=[.c,.h [] [] [] (.tup [.d (.v (.pointer none)),.d (.sl (i.map eS)),di o]),.t false,.u (di (i.length:Int)),.t false,.c,.c,.u (di (i.length:Int)),.c,.c,.y (eS a9),.c,.c,.c,.t false,.c,.c,.u (di (i.length:Int)),.c,.c,.y (eS b4),.c,.c,.c,.t true]) (by kernel_rfl) (by kernel_rfl) (by kernel_rfl) (.cons (GS n p q x z a0 _ m) (.cons (nf a1) (.cons (len_ob (f:=eS) (l:=i)) (.cons (bf a4) (.cons (len_ob (f:=eS) (l:=i)) (.cons (getI_ob (f:=eS) b3) (.cons (vf a6) (.cons (len_ob (f:=eS) (l:=i)) (.cons (getI_ob (f:=eS) b7) (.cons b0 .nil))))))))))
     ·rw [if_neg b0] at h
      obtain ⟨c5,c6,h⟩:=bind_some h
      cases h
  ·rw [if_neg a1] at h
   obtain rfl:=Option.some.inj h
   exact pend_sound TTok mix 12 (hs:=[.c,.h [] [] [] (.tup [.d (.v (.pointer none)),.d (.sl (i.map eS)),di o]),.t true]) (by kernel_rfl) (by kernel_rfl) (by kernel_rfl) (.cons (GS n p q x z a0 _ m) (.cons (nt a1) .nil))
 | (some b,i,o),m,h =>
  try dsimp only at h
  by_cases a7:o=0
  ·rw [if_pos a7] at h
   obtain ⟨b8,b9,h⟩:=bind_some h
   refine pkk_sound TTok mix hF 11 (hs:=[.c,.h [] [] [.box [.d (.ifc 24 (Gb b.ft)),.d (.sl (b.fmounts.map Ga)),di b.fc.fUser,di b.fc.fGroup,.d (.sl (b.fc.fMore.map (eI .i64))),di b.fc.fCaps,di b.fc.fLevel,di b.fc.fKind,.srf 1,di b.flinks],.row 3 1 (b.fstack.map (eI .i64))] (.tup [.ref 0 0,.d (.sl (i.map eS)),di o]),.t false]) (ts:=[]) (s:=[45,46]) (l:=[13,14]) (by kernel_rfl) (by kernel_rfl) (.cons (GS n p q x z a0 _ m) (.cons (nf a7) .nil)) (Vp hF (.s (cR (cL (cR (cR (cR (bodyOf Tryd.f5))))))::.s (cR (cR (cR (cR (bodyOf Tryd.f5)))))::[]) n i b _ b9 ?_)
   cases b8 with
   | x0 c0 b1 =>
    try dsimp only at h
    by_cases a2:c0=true
    ·rw [if_pos a2] at h
     obtain rfl:=Option.some.inj h
     exact pend_sound TTok mix 5 (hs:=[.t true]) (by kernel_rfl) (by kernel_rfl) (by kernel_rfl) (.cons a2 .nil)
    ·rw [if_neg a2] at h
     obtain ⟨a3,k,h⟩:=bind_some h
     obtain ⟨a,b2,h⟩:=bind_some h
     by_cases a5:a.1=0
     ·rw [if_pos a5] at h
      obtain ⟨j,b5,h⟩:=bind_some h
      by_cases a8:j.1=0
      ·rw [if_pos a8] at h
       obtain ⟨c1,c2,h⟩:=bind_some h
       obtain ⟨c3,c4,h⟩:=bind_some h
       obtain rfl:=Option.some.inj h
       exact pend_sound TTok mix 19 (hs:=[.t false,.u (di (i.length:Int)),.w (a3.map eS),.h [0,1] [] [.box [.d (.ifc 24 (Gb a.2.ft)),.d (.sl (a.2.fmounts.map Ga)),di a.2.fc.fUser,di a.2.fc.fGroup,.d (.sl (a.2.fc.fMore.map (eI .i64))),di a.2.fc.fCaps,di a.2.fc.fLevel,di a.2.fc.fKind,.srf 2,di a.2.flinks],.none,.row 3 1 (a.2.fstack.map (eI .i64))] (di a.1),.t false,.h [0,32] [] [.box [.d (.ifc 24 (Gb j.2.ft)),.d (.sl (j.2.fmounts.map Ga)),di j.2.fc.fUser,di j.2.fc.fGroup,.d (.sl (j.2.fc.fMore.map (eI .i64))),di j.2.fc.fCaps,di j.2.fc.fLevel,di j.2.fc.fKind,.srf 2,di j.2.flinks],.none,.row 3 1 (j.2.fstack.map (eI .i64))] (di j.1),.t false,.c,.e 97 [57,97] (.srf 97) [(97,.row 3 1 (c1.map (eI .i64)))],.u (di (i.length:Int)),.y (eS c3),.c]) (by kernel_rfl) (by kernel_rfl) (by kernel_rfl) (.cons (vf a2) (.cons (len_ob (f:=eS) (l:=i)) (.cons (sub_ob (f:=eS) (s:=1) k (fun _=>rfl)).1 (.cons (sub_ob (f:=eS) (s:=1) k (fun _=>rfl)).2.1 (.cons (sub_ob (f:=eS) (s:=1) k (fun _=>rfl)).2.2.1 (.cons (sub_ob (f:=eS) (s:=1) k (fun _=>rfl)).2.2.2.1 (.cons (sub_ob (f:=eS) (s:=1) k (fun _=>rfl)).2.2.2.2 (.cons (SA n (Ge.mk b.ft b.fmounts b.fc b1 b.flinks) a3 true _ b2) (.cons (nf a5) (.cons (GN n a.2 _ b5) (.cons (nf a8) (.cons (cwhole (P:=Tryd.prog) (T:=TT) (f:=.func 11) (args:=#[(.tmp 70)]) (tys:=#[26]) (g:=11) (l:=57) (e:=3) (s:=1) (nl:=97) (xs:=(j.2.fstack.map (eI .i64))) (SP n _ _ c2) (flat_map _ (fun _=>rfl))) (.cons (len_ob (f:=eS) (l:=i)) (.cons (getI_ob (f:=eS) c4) .nil))))))))))))))
      ·rw [if_neg a8] at h
       obtain rfl:=Option.some.inj h
       exact pend_sound TTok mix 19 (hs:=[.t false,.u (di (i.length:Int)),.w (a3.map eS),.h [0,1] [] [.box [.d (.ifc 24 (Gb a.2.ft)),.d (.sl (a.2.fmounts.map Ga)),di a.2.fc.fUser,di a.2.fc.fGroup,.d (.sl (a.2.fc.fMore.map (eI .i64))),di a.2.fc.fCaps,di a.2.fc.fLevel,di a.2.fc.fKind,.srf 2,di a.2.flinks],.none,.row 3 1 (a.2.fstack.map (eI .i64))] (di a.1),.t false,.h [0,32] [] [.box [.d (.ifc 24 (Gb j.2.ft)),.d (.sl (j.2.fmounts.map Ga)),di j.2.fc.fUser,di j.2.fc.fGroup,.d (.sl (j.2.fc.fMore.map (eI .i64))),di j.2.fc.fCaps,di j.2.fc.fLevel,di j.2.fc.fKind,.srf 2,di j.2.flinks],.none,.row 3 1 (j.2.fstack.map (eI .i64))] (di j.1),.t true]) (by kernel_rfl) (by kernel_rfl) (by kernel_rfl) (.cons (vf a2) (.cons (len_ob (f:=eS) (l:=i)) (.cons (sub_ob (f:=eS) (s:=1) k (fun _=>rfl)).1 (.cons (sub_ob (f:=eS) (s:=1) k (fun _=>rfl)).2.1 (.cons (sub_ob (f:=eS) (s:=1) k (fun _=>rfl)).2.2.1 (.cons (sub_ob (f:=eS) (s:=1) k (fun _=>rfl)).2.2.2.1 (.cons (sub_ob (f:=eS) (s:=1) k (fun _=>rfl)).2.2.2.2 (.cons (SA n (Ge.mk b.ft b.fmounts b.fc b1 b.flinks) a3 true _ b2) (.cons (nf a5) (.cons (GN n a.2 _ b5) (.cons (nt a8) .nil)))))))))))
     ·rw [if_neg a5] at h
      obtain rfl:=Option.some.inj h
      exact pend_sound TTok mix 12 (hs:=[.t false,.u (di (i.length:Int)),.w (a3.map eS),.h [0,1] [] [.box [.d (.ifc 24 (Gb a.2.ft)),.d (.sl (a.2.fmounts.map Ga)),di a.2.fc.fUser,di a.2.fc.fGroup,.d (.sl (a.2.fc.fMore.map (eI .i64))),di a.2.fc.fCaps,di a.2.fc.fLevel,di a.2.fc.fKind,.srf 2,di a.2.flinks],.none,.row 3 1 (a.2.fstack.map (eI .i64))] (di a.1),.t true]) (by kernel_rfl) (by kernel_rfl) (by kernel_rfl) (.cons (vf a2) (.cons (len_ob (f:=eS) (l:=i)) (.cons (sub_ob (f:=eS) (s:=1) k (fun _=>rfl)).1 (.cons (sub_ob (f:=eS) (s:=1) k (fun _=>rfl)).2.1 (.cons (sub_ob (f:=eS) (s:=1) k (fun _=>rfl)).2.2.1 (.cons (sub_ob (f:=eS) (s:=1) k (fun _=>rfl)).2.2.2.1 (.cons (sub_ob (f:=eS) (s:=1) k (fun _=>rfl)).2.2.2.2 (.cons (SA n (Ge.mk b.ft b.fmounts b.fc b1 b.flinks) a3 true _ b2) (.cons (nt a5) .nil)))))))))
  ·rw [if_neg a7] at h
   obtain rfl:=Option.some.inj h
   exact pend_sound TTok mix 12 (hs:=[.c,.h [] [] [.box [.d (.ifc 24 (Gb b.ft)),.d (.sl (b.fmounts.map Ga)),di b.fc.fUser,di b.fc.fGroup,.d (.sl (b.fc.fMore.map (eI .i64))),di b.fc.fCaps,di b.fc.fLevel,di b.fc.fKind,.srf 1,di b.flinks],.row 3 1 (b.fstack.map (eI .i64))] (.tup [.ref 0 0,.d (.sl (i.map eS)),di o]),.t true]) (by kernel_rfl) (by kernel_rfl) (by kernel_rfl) (.cons (GS n p q x z a0 _ m) (.cons (nt a7) .nil))
inductive G5 where
 | x0 (a:Int)
 | x1 
def ZZ:G5→Ex
 | .x0 _=>.ret
 | .x1  => .exit 0
def Z0 (b:(List (Fin 2→Int))) (c:((Fin 2→Int)→Option (Bool))) (e:FuncId) (f:(List PV)):G5→PS
 | .x0 a=>⟨(dd::dd::dd::dd::di a::(dds 14 [])),[]⟩
 | .x1  => ⟨(dds 19 []),[]⟩
def Z1 (a:(List (Fin 2→Int))) (f:((Fin 2→Int)→Option (Bool))) (b:FuncId) (c:(List PV)) (e:Int):PS:=⟨(.d (.sl (a.map (fun x=>PV.agg [.v (.int .i64 (x 0)),.v (.int .i64 (x 1))])))::.d (.clo b c)::dd::dd::dd::dd::dd::di (a.length:Int)::di e::(dds 10 [])),[]⟩
def Gt (n:Nat) (b:(List (Fin 2→Int))) (c:((Fin 2→Int)→Option (Bool))):Nat→Int→Option G5
 | 0,_=>none
 | k+1,a =>
  if a<(b.length:Int) then
   (getI b a).bind fun (d:(Fin 2→Int)) =>
   (c d).bind fun (e:(Bool)) =>
   if e=true then
    some (.x0 a)
   else
    Gt n b c k (wi .i64 (a+1))
  else
   some (.x1 )
theorem KG {Fi:Ex→PS→Prop} (hF:KC 19 Fi) (ks:List Fr) (n:Nat) (b:(List (Fin 2→Int))) (c:((Fin 2→Int)→Option (Bool))) (e:FuncId) (g:(List PV)) (m:∀ (x0:(Fin 2→Int)) (r:Bool),c x0=some r→Ret Tryd.prog e ([(fun x=>PV.agg [.v (.int .i64 (x 0)),.v (.int .i64 (x 1))]) x0]++g) (eB r)):∀ (k:Nat) (a:Int) (o:G5),Gt n b c k a=some o→RunE Tryd.prog 19 Fi ks (ZZ o) (Z0 b c e g o)→RunE Tryd.prog 19 Fi (.l k (cP (cB (cR (cL (cR (bodyOf Tryd.f48))))))::ks) .normal (Z1 b c e g a)
 | 0,a,o,h,q=>by rw [Gt] at h; cases h
 | k+1,a,o,h,q=>by
  rw [Gt] at h
  by_cases d:a<(b.length:Int)
  ·rw [if_pos d] at h
   obtain ⟨i,u,h⟩:=bind_some h
   obtain ⟨p,w,h⟩:=bind_some h
   by_cases j:p=true
   ·rw [if_pos j] at h
    cases h
    exact pkk_sound TTok mix hF 19 (hs:=[.t true,.y ((fun x=>PV.agg [.v (.int .i64 (x 0)),.v (.int .i64 (x 1))]) i),.r (eB p),.t true]) (ts:=[]) (s:=[]) (l:=[4]) (by kernel_rfl) (by kernel_rfl) (.cons (dt d) (.cons (getI_ob (f:=(fun x=>PV.agg [.v (.int .i64 (x 0)),.v (.int .i64 (x 1))])) u) (.cons (m i _ w) (.cons j .nil)))) q
   ·rw [if_neg j] at h
    exact pkk_sound TTok mix hF 16 (hs:=[.t true,.y ((fun x=>PV.agg [.v (.int .i64 (x 0)),.v (.int .i64 (x 1))]) i),.r (eB p),.t false]) (ts:=[]) (s:=[]) (l:=[0,1,7,8]) (by kernel_rfl) (by kernel_rfl) (.cons (dt d) (.cons (getI_ob (f:=(fun x=>PV.agg [.v (.int .i64 (x 0)),.v (.int .i64 (x 1))])) u) (.cons (m i _ w) (.cons (vf j) .nil)))) (KG hF ks n b c e g m k (wi .i64 (a+1)) _ h q)
  ·rw [if_neg d] at h
   cases h
   exact pkk_sound TTok mix hF 8 (hs:=[.t false]) (ts:=[]) (s:=[]) (l:=[]) (by kernel_rfl) (by kernel_rfl) (.cons (df d) .nil) q
/- slices.IndexFunc[[][2]int,[2]int] -/
def GY (n:Nat) (a:(List (Fin 2→Int))) (b:((Fin 2→Int)→Option (Bool))):Option (Int) :=
 (Gt n a b n 0).bind fun c=>match c with
 | .x0 d =>
  some d
 | .x1  =>
  some (-1)
theorem K0 (n:Nat) (a:(List (Fin 2→Int))) (e:((Fin 2→Int)→Option (Bool))) (g:FuncId) (i:List PV) (j:∀ (x0:(Fin 2→Int)) (r:Bool),e x0=some r→Ret Tryd.prog g ([(fun x=>PV.agg [.v (.int .i64 (x 0)),.v (.int .i64 (x 1))]) x0]++i) (eB r)) (r:Int) (h:GY n a e=some r):Ret Tryd.prog 48 [(eL (fun x=>PV.agg [.v (.int .i64 (x 0)),.v (.int .i64 (x 1))])) a,(.clo g i)] ((eI .i64) r):=by
 refine ret_run (n:=19) (fn:=Tryd.f48) (c:=bodyOf Tryd.f48) (by kernel_rfl) (by kernel_rfl) (by kernel_rfl) (by kernel_rfl) ?_
 have hF:KC 19 (FinR Tryd.prog Tryd.f48 ((eI .i64) r)):=FinR.kc' (by kernel_rfl)
 unfold GY at h
 obtain ⟨k,m,h⟩:=bind_some h
 refine pkk_sound TTok mix hF 7 (hs:=[.u (di (a.length:Int)),.n n]) (ts:=[]) (s:=[]) (l:=[0,1,7,8]) (by kernel_rfl) (by kernel_rfl) (.cons (len_ob (f:=(fun x=>PV.agg [.v (.int .i64 (x 0)),.v (.int .i64 (x 1))])) (l:=a)) .nil) (KG hF (.b 0::.s (cR (cR (bodyOf Tryd.f48)))::[]) n a e g i j n 0 _ m ?_)
 cases k with
 | x0 o =>
  try dsimp only at h
  obtain rfl:=Option.some.inj h
  exact pend_sound TTok mix 2 (hs:=[]) (by kernel_rfl) (by kernel_rfl) (by kernel_rfl) .nil
 | x1  =>
  try dsimp only at h
  obtain rfl:=Option.some.inj h
  exact pend_sound TTok mix 4 (hs:=[]) (by kernel_rfl) (by kernel_rfl) (by kernel_rfl) .nil
/- ringhall/ringref5.DownOf$1 -/
def Ks (n:Nat) (a:(Fin 2→Int)) (b:Int):Option (Bool) :=
 some ((a 0) == b)
theorem Ym (n:Nat) (a:(Fin 2→Int)) (b:Int) (r:Bool) (h:Ks n a b=some r):Ret Tryd.prog 49 [(fun x=>PV.agg [.v (.int .i64 (x 0)),.v (.int .i64 (x 1))]) a,.iptr [.v (.int .i64 b)] 0] (eB r):=by
 refine ret_run (n:=8) (fn:=Tryd.f49) (c:=bodyOf Tryd.f49) (by kernel_rfl) (by kernel_rfl) (by kernel_rfl) (by kernel_rfl) ?_
 have hF:KC 8 (FinR Tryd.prog Tryd.f49 (eB r)):=FinR.kc' (by kernel_rfl)
 unfold Ks at h
 obtain rfl:=Option.some.inj h
 exact pend_sound TTok mix 5 (hs:=[.c,.c]) (by kernel_rfl) (by kernel_rfl) (by kernel_rfl) (.cons (show (0:Int)≤0∧(0:Int)<2 by decide) .nil)
inductive KA where
 | x0 (a:Int)
 | x1 
def X0:KA→Ex
 | .x0 _=>.ret
 | .x1  => .exit 0
def X1 (b:(List (Fin 2→Int))):KA→PS
 | .x0 a=>⟨(dd::dd::dd::dd::di a::(dds 22 [])),[]⟩
 | .x1  => ⟨(dds 27 []),[]⟩
def X2 (a:(List (Fin 2→Int))) (b:Int) (c:(List Int)):PS:=⟨(.d (.sl (a.map (fun x=>PV.agg [.v (.int .i64 (x 0)),.v (.int .i64 (x 1))])))::dd::dd::.ref 0 0::dd::.srf 1::(dds 21 [])),[.box [di b],.row 3 1 (c.map (eI .i64))]⟩
def Sj (n:Nat) (b:(List (Fin 2→Int))):Nat→Int→(List Int)→Option KA
 | 0,_,_=>none
 | k+1,a,c =>
  (GA n c a).bind fun (e:(Bool)) =>
  if e=true then
   some (.x1 )
  else
   (app 8 c ([a])).bind fun (f:(List Int)) =>
   (GY n b (fun (y0:(Fin 2→Int))=>Ks n y0 a)).bind fun (d:(Int)) =>
   if d<0 then
    some (.x0 a)
   else
    (getI b d).bind fun (g:(Fin 2→Int)) =>
    Sj n b k (g 1) f
theorem Yd {Fi:Ex→PS→Prop} (hF:KC 27 Fi) (ks:List Fr) (n:Nat) (e:(List (Fin 2→Int)))  : ∀ (k:Nat) (a:Int) (d:(List Int)) (o:KA),Sj n e k a d=some o→RunE Tryd.prog 27 Fi ks (X0 o) (X1 e o)→RunE Tryd.prog 27 Fi (.l k (cP (cB (cL (cR (cR (bodyOf Tryd.f31))))))::ks) .normal (X2 e a d)
 | 0,a,d,o,h,q=>by rw [Sj] at h; cases h
 | k+1,a,d,o,h,q=>by
  rw [Sj] at h
  obtain ⟨i,m,h⟩:=bind_some h
  by_cases g:i=true
  ·rw [if_pos g] at h
   cases h
   exact pkk_sound TTok mix hF 8 (hs:=[.c,.c,.r (eB i),.t false]) (ts:=[]) (s:=[]) (l:=[]) (by kernel_rfl) (by kernel_rfl) (.cons (Sb n d a _ m) (.cons (bnf g) .nil)) q
  ·rw [if_neg g] at h
   obtain ⟨p,b,h⟩:=bind_some h
   obtain ⟨u,z,h⟩:=bind_some h
   by_cases j:u<0
   ·rw [if_pos j] at h
    cases h
    exact pkk_sound TTok mix hF 21 (hs:=[.c,.c,.r (eB i),.t true,.c,.bd,.w (p.map (eI .i64)),.c,.r ((eI .i64) u),.t true,.c]) (ts:=[]) (s:=[]) (l:=[4]) (by kernel_rfl) (by kernel_rfl) (.cons (Sb n d a _ m) (.cons (bnt (vf g)) (.cons (app_ob (f:=(eI .i64)) (s:=1) b (fun _=>rfl)).1 (.cons (app_ob (f:=(eI .i64)) (s:=1) b (fun _=>rfl)).2.1 (.cons (app_ob (f:=(eI .i64)) (s:=1) b (fun _=>rfl)).2.2.1 (.cons (app_ob (f:=(eI .i64)) (s:=1) b (fun _=>rfl)).2.2.2 (.cons (K0 n e (fun (y0:(Fin 2→Int))=>Ks n y0 a) 49 [.iptr [.v (.int .i64 a)] 0] (fun y0 r h=>Ym n y0 a r h) _ z) (.cons (dt j) .nil)))))))) q
   ·rw [if_neg j] at h
    obtain ⟨a0,a1,h⟩:=bind_some h
    exact pkk_sound TTok mix hF 18 (hs:=[.c,.c,.r (eB i),.t true,.c,.bd,.w (p.map (eI .i64)),.c,.r ((eI .i64) u),.t false,.y ((fun x=>PV.agg [.v (.int .i64 (x 0)),.v (.int .i64 (x 1))]) a0),.c,.c]) (ts:=[]) (s:=[0,37]) (l:=[0,3,5]) (by kernel_rfl) (by kernel_rfl) (.cons (Sb n d a _ m) (.cons (bnt (vf g)) (.cons (app_ob (f:=(eI .i64)) (s:=1) b (fun _=>rfl)).1 (.cons (app_ob (f:=(eI .i64)) (s:=1) b (fun _=>rfl)).2.1 (.cons (app_ob (f:=(eI .i64)) (s:=1) b (fun _=>rfl)).2.2.1 (.cons (app_ob (f:=(eI .i64)) (s:=1) b (fun _=>rfl)).2.2.2 (.cons (K0 n e (fun (y0:(Fin 2→Int))=>Ks n y0 a) 49 [.iptr [.v (.int .i64 a)] 0] (fun y0 r h=>Ym n y0 a r h) _ z) (.cons (df j) (.cons (getI_ob (f:=(fun x=>PV.agg [.v (.int .i64 (x 0)),.v (.int .i64 (x 1))])) a1) (.cons (show (0:Int)≤1∧(1:Int)<2 by decide) (.cons (show 0+1≤1 by decide) .nil))))))))))) (Yd hF ks n e k (a0 1) p _ h q)
/- ringhall/ringref5.DownOf -/
def SC (n:Nat) (a:(List (Fin 2→Int))) (b:Int):Option (Int) :=
 (Sj n a n b ([]:List Int)).bind fun c=>match c with
 | .x0 d =>
  some d
 | .x1  =>
  some 0
theorem ZJ (n:Nat) (a:(List (Fin 2→Int))) (d r:Int) (h:SC n a d=some r):Ret Tryd.prog 31 [(eL (fun x=>PV.agg [.v (.int .i64 (x 0)),.v (.int .i64 (x 1))])) a,(eI .i64) d] ((eI .i64) r):=by
 refine ret_run (n:=27) (fn:=Tryd.f31) (c:=bodyOf Tryd.f31) (by kernel_rfl) (by kernel_rfl) (by kernel_rfl) (by kernel_rfl) ?_
 have hF:KC 27 (FinR Tryd.prog Tryd.f31 ((eI .i64) r)):=FinR.kc' (by kernel_rfl)
 unfold SC at h
 obtain ⟨e,f,h⟩:=bind_some h
 refine pkk_sound TTok mix hF 7 (hs:=[.w (([]:List Int).map (eI .i64)),.n n]) (ts:=[]) (s:=[0,10]) (l:=[0,3,5]) (by kernel_rfl) (by kernel_rfl) (.cons (Eq.refl (([]:List Int).map (eI .i64))) .nil) (Yd hF (.b 0::.s (cR (cR (cR (bodyOf Tryd.f31))))::[]) n a n d ([]:List Int) _ f ?_)
 cases e with
 | x0 g =>
  try dsimp only at h
  obtain rfl:=Option.some.inj h
  exact pend_sound TTok mix 2 (hs:=[]) (by kernel_rfl) (by kernel_rfl) (by kernel_rfl) .nil
 | x1  =>
  try dsimp only at h
  obtain rfl:=Option.some.inj h
  exact pend_sound TTok mix 4 (hs:=[]) (by kernel_rfl) (by kernel_rfl) (by kernel_rfl) .nil
inductive S8 where
 | x0 (a:Bool)
def Xn:S8→Ex
 | .x0 _=>.normal
def Xo (a:(List (Fin 2→Int))) (b:Int) (c:(Fin 2→Int)):S8→PS
 | .x0 e=>⟨(.d (.sl (a.map (fun x=>PV.agg [.v (.int .i64 (x 0)),.v (.int .i64 (x 1))])))::dd::dd::di b::.ref 0 0::dd::dd::dd::dd::dd::dd::dd::.d (.sl (a.map (fun x=>PV.agg [.v (.int .i64 (x 0)),.v (.int .i64 (x 1))])))::di (a.length:Int)::di b::(dds 17 (.d (.v (.bool e))::(dds 27 [])))),[.box [di (c 0),di (c 1)]]⟩
def Xp (a:(List (Fin 2→Int))) (b:Int) (c:(Fin 2→Int))  : PS:=⟨(.d (.sl (a.map (fun x=>PV.agg [.v (.int .i64 (x 0)),.v (.int .i64 (x 1))])))::dd::dd::di b::.ref 0 0::dd::dd::dd::dd::dd::dd::dd::.d (.sl (a.map (fun x=>PV.agg [.v (.int .i64 (x 0)),.v (.int .i64 (x 1))])))::di (a.length:Int)::di b::(dds 45 [])),[.box [di (c 0),di (c 1)]]⟩
def SL (n:Nat) (b:(List (Fin 2→Int))) (c:Int) (a:(Fin 2→Int)):Option S8 :=
 if (minI (a 0) (a 1))<1 then
  some (.x0 true)
 else
  some (.x0 (decide ((maxI (a 0) (a 1)) > 32)))
theorem Xq {Fi:Ex→PS→Prop} (hF:KC 60 Fi) (ks:List Fr) (n:Nat) (d:(List (Fin 2→Int))) (e:Int) (a:(Fin 2→Int))  (o:S8) (h:SL n d e a=some o) (q:RunE Tryd.prog 60 Fi ks (Xn o) (Xo d e a o)):RunE Tryd.prog 60 Fi (.s (cL (cL (cR (cB (cL (cR (cR (cP (cB (cR (cL (cR (cR (bodyOf Tryd.f24))))))))))))))::ks) .normal (Xp d e a):=by
 unfold SL at h
 by_cases b:(minI (a 0) (a 1))<1
 ·rw [if_pos b] at h
  cases h
  exact pkk_sound TTok mix hF 1 (hs:=[.c,.c,.t true,.c,.c,.c,.c,.c]) (ts:=[]) (s:=[0]) (l:=[0,3,4,12,13,14,32]) (by kernel_rfl) (by kernel_rfl) (.cons (show (0:Int)≤0∧(0:Int)<2 by decide) (.cons (show (0:Int)≤1∧(1:Int)<2 by decide) (.cons (dt b) .nil))) q
 ·rw [if_neg b] at h
  cases h
  exact pkk_sound TTok mix hF 1 (hs:=[.c,.c,.t false,.c,.c,.c,.c,.c,.c,.c]) (ts:=[]) (s:=[0]) (l:=[0,3,4,12,13,14,32]) (by kernel_rfl) (by kernel_rfl) (.cons (show (0:Int)≤0∧(0:Int)<2 by decide) (.cons (show (0:Int)≤1∧(1:Int)<2 by decide) (.cons (df b) (.cons (show (0:Int)≤0∧(0:Int)<2 by decide) (.cons (show (0:Int)≤1∧(1:Int)<2 by decide) .nil))))) q
inductive S9 where
 | x0 (a:Int)
 | x1 
def Xr:S9→Ex
 | .x0 _=>.ret
 | .x1  => .exit 2
def Xs (a:(List (Fin 2→Int))) (b:Int) (e:(List (Fin 2→Int))) (f:(Fin 2→Int)):S9→PS
 | .x0 c=>⟨(dd::dd::di c::(dds 57 [])),[]⟩
 | .x1  => ⟨(.d (.sl (a.map (fun x=>PV.agg [.v (.int .i64 (x 0)),.v (.int .i64 (x 1))])))::(dds 11 (.d (.sl (a.map (fun x=>PV.agg [.v (.int .i64 (x 0)),.v (.int .i64 (x 1))])))::di (a.length:Int)::di b::(dds 45 [])))),[]⟩
def Xt (a:(List (Fin 2→Int))) (e:Int) (b:(List (Fin 2→Int))) (c:(Fin 2→Int)) (f:Int):PS:=⟨(.d (.sl (a.map (fun x=>PV.agg [.v (.int .i64 (x 0)),.v (.int .i64 (x 1))])))::dd::dd::dd::.ref 0 0::dd::dd::dd::dd::dd::dd::dd::.d (.sl (a.map (fun x=>PV.agg [.v (.int .i64 (x 0)),.v (.int .i64 (x 1))])))::di (a.length:Int)::di e::(dds 20 (.d (.sl (b.map (fun x=>PV.agg [.v (.int .i64 (x 0)),.v (.int .i64 (x 1))])))::di (b.length:Int)::di f::(dds 22 [])))),[.box [di (c 0),di (c 1)]]⟩
def GO (n:Nat) (d:(List (Fin 2→Int))) (e:Int) (a:(List (Fin 2→Int))) (c:(Fin 2→Int)):Nat→Int→Option S9
 | 0,_=>none
 | k+1,b =>
  if b<(a.length:Int) then
   (getI a b).bind fun (f:(Fin 2→Int)) =>
   if (f 0)=(c 0) then
    some (.x0 5)
   else
    GO n d e a c k (wi .i64 (b+1))
  else
   some (.x1 )
theorem ZP {Fi:Ex→PS→Prop} (hF:KC 60 Fi) (ks:List Fr) (n:Nat) (g:(List (Fin 2→Int))) (i:Int) (b:(List (Fin 2→Int))) (d:(Fin 2→Int))  : ∀ (k:Nat) (a:Int) (o:S9),GO n g i b d k a=some o→RunE Tryd.prog 60 Fi ks (Xr o) (Xs g i b d o)→RunE Tryd.prog 60 Fi (.l k (cP (cB (cR (cR (cR (cB (cL (cR (cR (cP (cB (cR (cL (cR (cR (bodyOf Tryd.f24))))))))))))))))::ks) .normal (Xt g i b d a)
 | 0,a,o,h,q=>by rw [GO] at h; cases h
 | k+1,a,o,h,q=>by
  rw [GO] at h
  by_cases e:a<(b.length:Int)
  ·rw [if_pos e] at h
   obtain ⟨m,p,h⟩:=bind_some h
   by_cases j:(m 0)=(d 0)
   ·rw [if_pos j] at h
    cases h
    exact pkk_sound TTok mix hF 19 (hs:=[.t true,.y ((fun x=>PV.agg [.v (.int .i64 (x 0)),.v (.int .i64 (x 1))]) m),.c,.c,.c,.t true]) (ts:=[]) (s:=[]) (l:=[2]) (by kernel_rfl) (by kernel_rfl) (.cons (dt e) (.cons (getI_ob (f:=(fun x=>PV.agg [.v (.int .i64 (x 0)),.v (.int .i64 (x 1))])) p) (.cons (show 0+2≤2 by decide) (.cons (show (0:Int)≤0∧(0:Int)<2 by decide) (.cons (show (0:Int)≤0∧(0:Int)<2 by decide) (.cons (bt j) .nil)))))) q
   ·rw [if_neg j] at h
    exact pkk_sound TTok mix hF 16 (hs:=[.t true,.y ((fun x=>PV.agg [.v (.int .i64 (x 0)),.v (.int .i64 (x 1))]) m),.c,.c,.c,.t false]) (ts:=[]) (s:=[0]) (l:=[0,4,12,13,14,35,36,37]) (by kernel_rfl) (by kernel_rfl) (.cons (dt e) (.cons (getI_ob (f:=(fun x=>PV.agg [.v (.int .i64 (x 0)),.v (.int .i64 (x 1))])) p) (.cons (show 0+2≤2 by decide) (.cons (show (0:Int)≤0∧(0:Int)<2 by decide) (.cons (show (0:Int)≤0∧(0:Int)<2 by decide) (.cons (bf j) .nil)))))) (ZP hF ks n g i b d k (wi .i64 (a+1)) _ h q)
  ·rw [if_neg e] at h
   cases h
   exact pkk_sound TTok mix hF 8 (hs:=[.t false]) (ts:=[]) (s:=[]) (l:=[0,12,13,14]) (by kernel_rfl) (by kernel_rfl) (.cons (df e) .nil) q
inductive Ka where
 | x0 (a:Int)
 | x1 
def Xu:Ka→Ex
 | .x0 _=>.ret
 | .x1  => .exit 0
def Xv (a:(List (Fin 2→Int))):Ka→PS
 | .x0 b=>⟨(dd::dd::di b::(dds 57 [])),[]⟩
 | .x1  => ⟨(.d (.sl (a.map (fun x=>PV.agg [.v (.int .i64 (x 0)),.v (.int .i64 (x 1))])))::(dds 59 [])),[]⟩
def Xw (a:(List (Fin 2→Int))) (b:Int):PS:=⟨(.d (.sl (a.map (fun x=>PV.agg [.v (.int .i64 (x 0)),.v (.int .i64 (x 1))])))::(dds 11 (.d (.sl (a.map (fun x=>PV.agg [.v (.int .i64 (x 0)),.v (.int .i64 (x 1))])))::di (a.length:Int)::di b::(dds 45 [])))),[]⟩
def GC (n:Nat) (a:(List (Fin 2→Int))):Nat→Int→Option Ka
 | 0,_=>none
 | k+1,b =>
  if b<(a.length:Int) then
   (getI a b).bind fun (c:(Fin 2→Int)) =>
   (SL n a b c).bind fun d=>match d with
   | .x0 e =>
    if e=true then
     some (.x0 1)
    else
     (sub a 0 b).bind fun (f:(List (Fin 2→Int))) =>
     (GO n a b f c n 0).bind fun g=>match g with
     | .x0 h =>
      some (.x0 h)
     | .x1  =>
      GC n a k (wi .i64 (b+1))
  else
   some (.x1 )
theorem ZQ {Fi:Ex→PS→Prop} (hF:KC 60 Fi) (ks:List Fr) (n:Nat) (e:(List (Fin 2→Int)))  : ∀ (k:Nat) (a:Int) (o:Ka),GC n e k a=some o→RunE Tryd.prog 60 Fi ks (Xu o) (Xv e o)→RunE Tryd.prog 60 Fi (.l k (cP (cB (cR (cL (cR (cR (bodyOf Tryd.f24)))))))::ks) .normal (Xw e a)
 | 0,a,o,h,q=>by rw [GC] at h; cases h
 | k+1,a,o,h,q=>by
  rw [GC] at h
  by_cases i:a<(e.length:Int)
  ·rw [if_pos i] at h
   obtain ⟨p,r,h⟩:=bind_some h
   obtain ⟨z,a0,h⟩:=bind_some h
   refine pkk_sound TTok mix hF 12 (hs:=[.t true,.y ((fun x=>PV.agg [.v (.int .i64 (x 0)),.v (.int .i64 (x 1))]) p),.c]) (ts:=[]) (s:=[20]) (l:=[0,3,4,12,13,14]) (by kernel_rfl) (by kernel_rfl) (.cons (dt i) (.cons (getI_ob (f:=(fun x=>PV.agg [.v (.int .i64 (x 0)),.v (.int .i64 (x 1))])) r) (.cons (show 0+2≤2 by decide) .nil))) (Xq hF (.s (cR (cL (cR (cB (cL (cR (cR (cP (cB (cR (cL (cR (cR (bodyOf Tryd.f24))))))))))))))::.s (cR (cR (cB (cL (cR (cR (cP (cB (cR (cL (cR (cR (bodyOf Tryd.f24)))))))))))))::.b 1::.s (cR (cR (cR (cP (cB (cR (cL (cR (cR (bodyOf Tryd.f24))))))))))::.l k (cP (cB (cR (cL (cR (cR (bodyOf Tryd.f24)))))))::ks) n e a p _ a0 ?_)
   cases z with
   | x0 a1 =>
    try dsimp only at h
    by_cases j:a1=true
    ·rw [if_pos j] at h
     cases h
     exact pkk_sound TTok mix hF 8 (hs:=[.t true]) (ts:=[]) (s:=[]) (l:=[2]) (by kernel_rfl) (by kernel_rfl) (.cons j .nil) q
    ·rw [if_neg j] at h
     obtain ⟨m,g,h⟩:=bind_some h
     obtain ⟨a2,a3,h⟩:=bind_some h
     refine pkk_sound TTok mix hF 6 (hs:=[.t false,.w (m.map (fun x=>PV.agg [.v (.int .i64 (x 0)),.v (.int .i64 (x 1))])),.u (di (m.length:Int)),.n n]) (ts:=[]) (s:=[0]) (l:=[0,4,12,13,14,35,36,37]) (by kernel_rfl) (by kernel_rfl) (.cons (vf j) (.cons (sub_ob (f:=(fun x=>PV.agg [.v (.int .i64 (x 0)),.v (.int .i64 (x 1))])) (s:=2) g (fun _=>rfl)).1 (.cons (sub_ob (f:=(fun x=>PV.agg [.v (.int .i64 (x 0)),.v (.int .i64 (x 1))])) (s:=2) g (fun _=>rfl)).2.1 (.cons (sub_ob (f:=(fun x=>PV.agg [.v (.int .i64 (x 0)),.v (.int .i64 (x 1))])) (s:=2) g (fun _=>rfl)).2.2.1 (.cons (sub_ob (f:=(fun x=>PV.agg [.v (.int .i64 (x 0)),.v (.int .i64 (x 1))])) (s:=2) g (fun _=>rfl)).2.2.2.1 (.cons (sub_ob (f:=(fun x=>PV.agg [.v (.int .i64 (x 0)),.v (.int .i64 (x 1))])) (s:=2) g (fun _=>rfl)).2.2.2.2 (.cons (len_ob (f:=(fun x=>PV.agg [.v (.int .i64 (x 0)),.v (.int .i64 (x 1))])) (l:=m)) .nil))))))) (ZP hF (.b 2::.b 1::.s (cR (cR (cR (cP (cB (cR (cL (cR (cR (bodyOf Tryd.f24))))))))))::.l k (cP (cB (cR (cL (cR (cR (bodyOf Tryd.f24)))))))::ks) n e a m p n 0 _ a3 ?_)
     cases a2 with
     | x0 a4 =>
      try dsimp only at h
      cases h
      exact pkk_sound TTok mix hF 4 (hs:=[]) (ts:=[]) (s:=[]) (l:=[2]) (by kernel_rfl) (by kernel_rfl) .nil q
     | x1  =>
      try dsimp only at h
      exact pkk_sound TTok mix hF 3 (hs:=[]) (ts:=[]) (s:=[]) (l:=[0,12,13,14]) (by kernel_rfl) (by kernel_rfl) .nil (ZQ hF ks n e k (wi .i64 (a+1)) _ h q)
  ·rw [if_neg i] at h
   cases h
   exact pkk_sound TTok mix hF 8 (hs:=[.t false]) (ts:=[]) (s:=[]) (l:=[0]) (by kernel_rfl) (by kernel_rfl) (.cons (df i) .nil) q
inductive Kb where
 | x0 (a:Int)
 | x1 
def Xx:Kb→Ex
 | .x0 _=>.ret
 | .x1  => .exit 4
def Xy (b:(List (Fin 2→Int))):Kb→PS
 | .x0 a=>⟨(dd::dd::di a::(dds 57 [])),[]⟩
 | .x1  => ⟨(dds 60 []),[]⟩
def Xz (a:(List (Fin 2→Int))) (b:Int):PS:=⟨(.d (.sl (a.map (fun x=>PV.agg [.v (.int .i64 (x 0)),.v (.int .i64 (x 1))])))::(dds 47 (.d (.sl (a.map (fun x=>PV.agg [.v (.int .i64 (x 0)),.v (.int .i64 (x 1))])))::di (a.length:Int)::di b::(dds 9 [])))),[]⟩
def GD (n:Nat) (a:(List (Fin 2→Int))):Nat→Int→Option Kb
 | 0,_=>none
 | k+1,b =>
  if b<(a.length:Int) then
   (getI a b).bind fun (c:(Fin 2→Int)) =>
   (SC n a (c 0)).bind fun (d:(Int)) =>
   if d=0 then
    some (.x0 14)
   else
    GD n a k (wi .i64 (b+1))
  else
   some (.x1 )
theorem ZR {Fi:Ex→PS→Prop} (hF:KC 60 Fi) (ks:List Fr) (n:Nat) (a:(List (Fin 2→Int)))  : ∀ (k:Nat) (b:Int) (o:Kb),GD n a k b=some o→RunE Tryd.prog 60 Fi ks (Xx o) (Xy a o)→RunE Tryd.prog 60 Fi (.l k (cP (cB (cR (cL (cR (cR (cR (bodyOf Tryd.f24))))))))::ks) .normal (Xz a b)
 | 0,b,o,h,q=>by rw [GD] at h; cases h
 | k+1,b,o,h,q=>by
  rw [GD] at h
  by_cases d:b<(a.length:Int)
  ·rw [if_pos d] at h
   obtain ⟨e,j,h⟩:=bind_some h
   obtain ⟨i,m,h⟩:=bind_some h
   by_cases g:i=0
   ·rw [if_pos g] at h
    cases h
    exact pkk_sound TTok mix hF 19 (hs:=[.t true,.y ((fun x=>PV.agg [.v (.int .i64 (x 0)),.v (.int .i64 (x 1))]) e),.c,.c,.r ((eI .i64) i),.t true]) (ts:=[]) (s:=[]) (l:=[2]) (by kernel_rfl) (by kernel_rfl) (.cons (dt d) (.cons (getI_ob (f:=(fun x=>PV.agg [.v (.int .i64 (x 0)),.v (.int .i64 (x 1))])) j) (.cons (show 0+2≤2 by decide) (.cons (show (0:Int)≤0∧(0:Int)<2 by decide) (.cons (ZJ n a (e 0) _ m) (.cons (bt g) .nil)))))) q
   ·rw [if_neg g] at h
    exact pkk_sound TTok mix hF 16 (hs:=[.t true,.y ((fun x=>PV.agg [.v (.int .i64 (x 0)),.v (.int .i64 (x 1))]) e),.c,.c,.r ((eI .i64) i),.t false]) (ts:=[]) (s:=[]) (l:=[0,48,49,50]) (by kernel_rfl) (by kernel_rfl) (.cons (dt d) (.cons (getI_ob (f:=(fun x=>PV.agg [.v (.int .i64 (x 0)),.v (.int .i64 (x 1))])) j) (.cons (show 0+2≤2 by decide) (.cons (show (0:Int)≤0∧(0:Int)<2 by decide) (.cons (ZJ n a (e 0) _ m) (.cons (bf g) .nil)))))) (ZR hF ks n a k (wi .i64 (b+1)) _ h q)
  ·rw [if_neg d] at h
   cases h
   exact pkk_sound TTok mix hF 8 (hs:=[.t false]) (ts:=[]) (s:=[]) (l:=[]) (by kernel_rfl) (by kernel_rfl) (.cons (df d) .nil) q
/- ringhall/ringref5.MountErr -/
def Ku (n:Nat) (a:(List (Fin 2→Int))):Option (Int) :=
 if (a.length:Int) > 8 then
  some 2
 else
  (GC n a n 0).bind fun b=>match b with
  | .x0 c =>
   some c
  | .x1  =>
   (GD n a n 0).bind fun d=>match d with
   | .x0 e =>
    some e
   | .x1  =>
    some 0
theorem KB (n:Nat) (a:(List (Fin 2→Int))) (r:Int) (h:Ku n a=some r):Ret Tryd.prog 24 [(eL (fun x=>PV.agg [.v (.int .i64 (x 0)),.v (.int .i64 (x 1))])) a] ((eI .i64) r):=by
 refine ret_run (n:=60) (fn:=Tryd.f24) (c:=bodyOf Tryd.f24) (by kernel_rfl) (by kernel_rfl) (by kernel_rfl) (by kernel_rfl) ?_
 have hF:KC 60 (FinR Tryd.prog Tryd.f24 ((eI .i64) r)):=FinR.kc' (by kernel_rfl)
 unfold Ku at h
 by_cases e:(a.length:Int) > 8
 ·rw [if_pos e] at h
  obtain rfl:=Option.some.inj h
  exact pend_sound TTok mix 10 (hs:=[.u (di (a.length:Int)),.t true]) (by kernel_rfl) (by kernel_rfl) (by kernel_rfl) (.cons (len_ob (f:=(fun x=>PV.agg [.v (.int .i64 (x 0)),.v (.int .i64 (x 1))])) (l:=a)) (.cons (dt e) .nil))
 ·rw [if_neg e] at h
  obtain ⟨g,i,h⟩:=bind_some h
  refine pkk_sound TTok mix hF 12 (hs:=[.u (di (a.length:Int)),.t false,.u (di (a.length:Int)),.n n]) (ts:=[]) (s:=[]) (l:=[0,12,13,14]) (by kernel_rfl) (by kernel_rfl) (.cons (len_ob (f:=(fun x=>PV.agg [.v (.int .i64 (x 0)),.v (.int .i64 (x 1))])) (l:=a)) (.cons (df e) (.cons (len_ob (f:=(fun x=>PV.agg [.v (.int .i64 (x 0)),.v (.int .i64 (x 1))])) (l:=a)) .nil))) (ZQ hF (.b 0::.s (cR (cR (cR (bodyOf Tryd.f24))))::[]) n a n 0 _ i ?_)
  cases g with
  | x0 m =>
   try dsimp only at h
   obtain rfl:=Option.some.inj h
   exact pend_sound TTok mix 2 (hs:=[]) (by kernel_rfl) (by kernel_rfl) (by kernel_rfl) .nil
  | x1  =>
   try dsimp only at h
   obtain ⟨j,k,h⟩:=bind_some h
   refine pkk_sound TTok mix hF 6 (hs:=[.u (di (a.length:Int)),.n n]) (ts:=[]) (s:=[]) (l:=[0,48,49,50]) (by kernel_rfl) (by kernel_rfl) (.cons (len_ob (f:=(fun x=>PV.agg [.v (.int .i64 (x 0)),.v (.int .i64 (x 1))])) (l:=a)) .nil) (ZR hF (.b 4::.s (cR (cR (cR (cR (bodyOf Tryd.f24)))))::[]) n a n 0 _ k ?_)
   cases j with
   | x0 o =>
    try dsimp only at h
    obtain rfl:=Option.some.inj h
    exact pend_sound TTok mix 2 (hs:=[]) (by kernel_rfl) (by kernel_rfl) (by kernel_rfl) .nil
   | x1  =>
    try dsimp only at h
    obtain rfl:=Option.some.inj h
    exact pend_sound TTok mix 4 (hs:=[]) (by kernel_rfl) (by kernel_rfl) (by kernel_rfl) .nil
inductive Kl where
 | x0 (a:Bool)
def XI:Kl→Ex
 | .x0 _=>.normal
def XJ (a:Gc):Kl→PS
 | .x0 b=>⟨(dd::.ref 0 0::(dds 17 (.d (.v (.bool b))::(dds 45 [])))),[.box [di a.fUser,di a.fGroup,.d (.sl (a.fMore.map (eI .i64))),di a.fCaps,di a.fLevel,di a.fKind]]⟩
def XK (a:Gc)  : PS:=⟨(dd::.ref 0 0::(dds 63 [])),[.box [di a.fUser,di a.fGroup,.d (.sl (a.fMore.map (eI .i64))),di a.fCaps,di a.fLevel,di a.fKind]]⟩
def Sc (n:Nat) (a:Gc):Option Kl :=
 if (minI a.fUser a.fGroup)<0 then
  some (.x0 true)
 else
  some (.x0 (decide ((maxI a.fUser a.fGroup) > 99)))
theorem XL {Fi:Ex→PS→Prop} (hF:KC 65 Fi) (ks:List Fr) (n:Nat) (a:Gc)  (o:Kl) (h:Sc n a=some o) (q:RunE Tryd.prog 65 Fi ks (XI o) (XJ a o)):RunE Tryd.prog 65 Fi (.s (cL (cL (cR (bodyOf Tryd.f25))))::ks) .normal (XK a):=by
 unfold Sc at h
 by_cases b:(minI a.fUser a.fGroup)<0
 ·rw [if_pos b] at h
  cases h
  exact pkk_sound TTok mix hF 1 (hs:=[.c,.c,.t true,.c,.c,.c,.c,.c]) (ts:=[]) (s:=[0]) (l:=[1,19]) (by kernel_rfl) (by kernel_rfl) (.cons (dt b) .nil) q
 ·rw [if_neg b] at h
  cases h
  exact pkk_sound TTok mix hF 1 (hs:=[.c,.c,.t false,.c,.c,.c,.c,.c,.c,.c]) (ts:=[]) (s:=[0]) (l:=[1,19]) (by kernel_rfl) (by kernel_rfl) (.cons (df b) .nil) q
inductive Km where
 | x0 (a:Int)
 | x1 
def XM:Km→Ex
 | .x0 _=>.ret
 | .x1  => .exit 0
def XN (a:Gc):Km→PS
 | .x0 b=>⟨(dd::dd::di b::(dds 62 [])),[]⟩
 | .x1  => ⟨(dd::.ref 0 0::(dds 63 [])),[.box [di a.fUser,di a.fGroup,.d (.sl (a.fMore.map (eI .i64))),di a.fCaps,di a.fLevel,di a.fKind]]⟩
def XO (a:Gc) (b c:Int):PS:=⟨(dd::.ref 0 0::dd::di b::(dds 21 (.d (.sl (a.fMore.map (eI .i64)))::di (a.fMore.length:Int)::di c::(dds 37 [])))),[.box [di a.fUser,di a.fGroup,.d (.sl (a.fMore.map (eI .i64))),di a.fCaps,di a.fLevel,di a.fKind]]⟩
def GG (n:Nat) (b:Gc):Nat→Int→Int→Option Km
 | 0,_,_=>none
 | k+1,d,c =>
  if c<(b.fMore.length:Int) then
   (getI b.fMore c).bind fun (a:Int) =>
   if a<0 then
    some (.x0 1)
   else
    if a > 99 then
     some (.x0 1)
    else
     if a≤d then
      some (.x0 3)
     else
      GG n b k a (wi .i64 (c+1))
  else
   some (.x1 )
theorem Z2 {Fi:Ex→PS→Prop} (hF:KC 65 Fi) (ks:List Fr) (n:Nat) (g:Gc)  : ∀ (k:Nat) (i d:Int) (o:Km),GG n g k i d=some o→RunE Tryd.prog 65 Fi ks (XM o) (XN g o)→RunE Tryd.prog 65 Fi (.l k (cP (cB (cR (cL (cR (cR (cR (cR (bodyOf Tryd.f25)))))))))::ks) .normal (XO g i d)
 | 0,i,d,o,h,q=>by rw [GG] at h; cases h
 | k+1,i,d,o,h,q=>by
  rw [GG] at h
  by_cases b:d<(g.fMore.length:Int)
  ·rw [if_pos b] at h
   obtain ⟨a,m,h⟩:=bind_some h
   by_cases e:a<0
   ·rw [if_pos e] at h
    cases h
    exact pkk_sound TTok mix hF 21 (hs:=[.t true,.y ((eI .i64) a),.c,.t true,.c,.c]) (ts:=[]) (s:=[]) (l:=[2]) (by kernel_rfl) (by kernel_rfl) (.cons (dt b) (.cons (getI_ob (f:=(eI .i64)) m) (.cons (dt e) .nil))) q
   ·rw [if_neg e] at h
    by_cases j:a > 99
    ·rw [if_pos j] at h
     cases h
     exact pkk_sound TTok mix hF 21 (hs:=[.t true,.y ((eI .i64) a),.c,.t false,.c,.t true]) (ts:=[]) (s:=[]) (l:=[2]) (by kernel_rfl) (by kernel_rfl) (.cons (dt b) (.cons (getI_ob (f:=(eI .i64)) m) (.cons (df e) (.cons (dt j) .nil)))) q
    ·rw [if_neg j] at h
     by_cases p:a≤i
     ·rw [if_pos p] at h
      cases h
      exact pkk_sound TTok mix hF 26 (hs:=[.t true,.y ((eI .i64) a),.c,.t false,.c,.t false,.t true]) (ts:=[]) (s:=[]) (l:=[2]) (by kernel_rfl) (by kernel_rfl) (.cons (dt b) (.cons (getI_ob (f:=(eI .i64)) m) (.cons (df e) (.cons (df j) (.cons (dt p) .nil))))) q
     ·rw [if_neg p] at h
      exact pkk_sound TTok mix hF 23 (hs:=[.t true,.y ((eI .i64) a),.c,.t false,.c,.t false,.t false]) (ts:=[]) (s:=[0]) (l:=[1,3,25,26,27]) (by kernel_rfl) (by kernel_rfl) (.cons (dt b) (.cons (getI_ob (f:=(eI .i64)) m) (.cons (df e) (.cons (df j) (.cons (df p) .nil))))) (Z2 hF ks n g k a (wi .i64 (d+1)) _ h q)
  ·rw [if_neg b] at h
   cases h
   exact pkk_sound TTok mix hF 8 (hs:=[.t false]) (ts:=[]) (s:=[0]) (l:=[1]) (by kernel_rfl) (by kernel_rfl) (.cons (df b) .nil) q
inductive Kn where
 | x0 (a:Bool)
def XP:Kn→Ex
 | .x0 _=>.normal
def XQ (b:Gc):Kn→PS
 | .x0 a=>⟨(dds 64 [.d (.v (.bool a))]),[]⟩
def XR (a:Gc)  : PS:=⟨(dd::.ref 0 0::(dds 63 [])),[.box [di a.fUser,di a.fGroup,.d (.sl (a.fMore.map (eI .i64))),di a.fCaps,di a.fLevel,di a.fKind]]⟩
def Sr (n:Nat) (a:Gc):Option Kn :=
 if (minI (minI a.fCaps a.fLevel) a.fKind)<0 then
  some (.x0 true)
 else
  if a.fCaps > 127 then
   some (.x0 true)
  else
   if a.fLevel > 7 then
    some (.x0 true)
   else
    some (.x0 (decide (a.fKind > 255)))
end Go.Proofs.YtocchemnfpnmeaaDoor.pv
