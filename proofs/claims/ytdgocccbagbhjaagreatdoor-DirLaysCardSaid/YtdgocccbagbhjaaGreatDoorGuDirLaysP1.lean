/- What the functions compute, as functions over plain data, with their contracts: written by gen.py. -/
import Derived.Test.YtdgocccbagbhjaaGreatDoorProg
import Derived.Test.YtdgocccbagbhjaaGreatDoorQr
import Derived.Test.YtdgocccbagbhjaaGreatDoorShelf
import Derived.Test.YtdgocccbagbhjaaGreatDoorSall
set_option maxRecDepth 100000
set_option linter.all false
namespace Go.Proofs.YtdgocccbagbhjaaGreatDoor.pv
open Go.RowKit
abbrev di (x:Int):FV:=.d (.v (.int .i64 x))
def dds (n:Nat) (l:List FV):List FV:=List.replicate n dd++l
def TT:List TI:=[
⟨1,0,.oth,[]⟩,
⟨1,8,.oth,[.nf]⟩,
⟨1,8,.int .i64,[.i .i64]⟩,
⟨1,8,.int .i64,[.i .i64]⟩,
⟨1,1,.bool,[.b]⟩,
⟨1,1,.int .u8,[.i .u8]⟩,
⟨1,1,.int .u8,[.i .u8]⟩,
⟨4,24,.st [(0,2),(1,3),(2,4),(3,6)],[.i .i64,.i .i64,.b,.i .u8]⟩,
⟨4,24,.st [(0,2),(1,3),(2,4),(3,6)],[.i .i64,.i .i64,.b,.i .u8]⟩,
⟨1,16,.str,[.s]⟩,
⟨1,16,.str,[.s]⟩,
⟨1,16,.str,[.s]⟩,
⟨1,8,.int .u64,[.i .u64]⟩,
⟨2,24,.st [(0,9),(1,12)],[.s,.i .u64]⟩,
⟨2,24,.st [(0,9),(1,12)],[.s,.i .u64]⟩,
⟨1,8,.ptr 154,[.np]⟩,
⟨1,8,.ptr 157,[.np]⟩,
⟨1,8,.ptr 164,[.np]⟩,
⟨1,8,.st [(0,17)],[.np]⟩,
⟨1,8,.st [(0,17)],[.np]⟩,
⟨1,16,.oth,[.ni]⟩,
⟨1,4,.int .i32,[.i .i32]⟩,
⟨1,24,.sl 25,[.sl]⟩,
⟨1,24,.sl 5,[.sl]⟩,
⟨2,24,.st [(0,9),(1,3)],[.s,.i .i64]⟩,
⟨2,24,.st [(0,9),(1,3)],[.s,.i .i64]⟩,
⟨1,8,.int .i64,[.i .i64]⟩,
⟨1,8,.oth,[.nf]⟩,
⟨1,0,.oth,[]⟩,
⟨1,8,.oth,[.nf]⟩,
⟨1,0,.oth,[]⟩,
⟨1,8,.oth,[.nf]⟩,
⟨1,8,.oth,[.nf]⟩,
⟨1,8,.oth,[.nf]⟩,
⟨1,8,.oth,[.nf]⟩,
⟨1,8,.oth,[.nf]⟩,
⟨1,8,.oth,[.nf]⟩,
⟨1,0,.oth,[]⟩,
⟨1,8,.oth,[.nf]⟩,
⟨1,8,.oth,[.nf]⟩,
⟨1,8,.oth,[.nf]⟩,
⟨1,8,.oth,[.nf]⟩,
⟨1,8,.oth,[.nf]⟩,
⟨1,8,.oth,[.nm]⟩,
⟨1,8,.oth,[.nf]⟩,
⟨1,8,.oth,[.nf]⟩,
⟨1,8,.oth,[.nf]⟩,
⟨1,8,.oth,[.nf]⟩,
⟨1,8,.oth,[.nf]⟩,
⟨1,8,.oth,[.nf]⟩,
⟨1,8,.oth,[.nf]⟩,
⟨1,8,.oth,[.nf]⟩,
⟨1,0,.oth,[]⟩,
⟨1,8,.oth,[.nf]⟩,
⟨1,8,.oth,[.nf]⟩,
⟨1,8,.oth,[.nf]⟩,
⟨1,8,.oth,[.nf]⟩,
⟨1,8,.oth,[.nf]⟩,
⟨1,8,.oth,[.nf]⟩,
⟨1,8,.oth,[.nf]⟩,
⟨1,8,.oth,[.nf]⟩,
⟨1,8,.oth,[.nf]⟩,
⟨1,8,.oth,[.nf]⟩,
⟨1,8,.oth,[.nf]⟩,
⟨1,8,.oth,[.nf]⟩,
⟨1,8,.oth,[.nf]⟩,
⟨1,8,.oth,[.nf]⟩,
⟨1,8,.oth,[.nf]⟩,
⟨1,8,.int .u64,[.i .u64]⟩,
⟨1,8,.oth,[.nf]⟩,
⟨256,256,.arr 256 4,List.replicate 256 (.b)⟩,
⟨256,256,.arr 256 4,List.replicate 256 (.b)⟩,
⟨1,0,.oth,[]⟩,
⟨1,8,.oth,[.nf]⟩,
⟨1,8,.oth,[.nf]⟩,
⟨1,8,.ptr 71,[.np]⟩,
⟨1,8,.oth,[.np]⟩,
⟨1,8,.int .u64,[.i .u64]⟩,
⟨3,24,.st [(0,17),(1,76),(2,77)],[.np,.np,.i .u64]⟩,
⟨3,24,.st [(0,17),(1,76),(2,77)],[.np,.np,.i .u64]⟩,
⟨1,8,.oth,[.nf]⟩,
⟨1,8,.oth,[.nf]⟩,
⟨1,8,.oth,[.nf]⟩,
⟨1,8,.oth,[.nf]⟩,
⟨1,8,.oth,[.nf]⟩,
⟨2,16,.st [(0,56),(1,81)],[.nf,.nf]⟩,
⟨2,16,.st [(0,56),(1,81)],[.nf,.nf]⟩,
⟨1,24,.sl 3,[.sl]⟩,
⟨1,0,.oth,[]⟩,
⟨1,8,.oth,[.nf]⟩,
⟨1,8,.ptr 92,[.np]⟩,
⟨2,32,.st [(0,90),(1,23)],[.np,.sl]⟩,
⟨2,32,.st [(0,90),(1,23)],[.np,.sl]⟩,
⟨1,16,.oth,[.ni]⟩,
⟨1,16,.oth,[.ni]⟩,
⟨1,0,.oth,[]⟩,
⟨1,8,.oth,[.nf]⟩,
⟨1,8,.oth,[.nf]⟩,
⟨1,8,.oth,[.nf]⟩,
⟨1,8,.int .i64,[.i .i64]⟩,
⟨1,0,.oth,[]⟩,
⟨1,8,.oth,[.nf]⟩,
⟨1,8,.oth,[.nf]⟩,
⟨1,8,.oth,[.nf]⟩,
⟨1,0,.oth,[]⟩,
⟨1,8,.oth,[.nf]⟩,
⟨1,8,.oth,[.nf]⟩,
⟨1,4,.int .u32,[.i .u32]⟩,
⟨1,8,.oth,[.nf]⟩,
⟨1,8,.int .u64,[.i .u64]⟩,
⟨1,8,.oth,[.nf]⟩,
⟨1,0,.oth,[]⟩,
⟨1,8,.oth,[.nf]⟩,
⟨1,8,.oth,[.nf]⟩,
⟨1,8,.st [(0,17)],[.np]⟩,
⟨1,8,.st [(0,17)],[.np]⟩,
⟨1,8,.ptr 166,[.np]⟩,
⟨1,8,.oth,[.nf]⟩,
⟨1,8,.int .i64,[.i .i64]⟩,
⟨1,0,.oth,[]⟩,
⟨1,8,.oth,[.nf]⟩,
⟨1,8,.oth,[.nf]⟩,
⟨1,8,.oth,[.nf]⟩,
⟨1,8,.oth,[.nf]⟩,
⟨1,0,.oth,[]⟩,
⟨1,8,.oth,[.nf]⟩,
⟨1,0,.oth,[]⟩,
⟨1,8,.oth,[.nf]⟩,
⟨1,8,.ptr 5,[.np]⟩,
⟨1,8,.int .u64,[.i .u64]⟩,
⟨1,8,.oth,[.nf]⟩,
⟨1,8,.oth,[.nf]⟩,
⟨1,8,.oth,[.nf]⟩,
⟨1,8,.ptr 3,[.np]⟩,
⟨1,8,.oth,[.nf]⟩,
⟨1,8,.oth,[.nf]⟩,
⟨1,8,.oth,[.nf]⟩,
⟨1,8,.int .u64,[.i .u64]⟩,
⟨1,8,.oth,[.nf]⟩,
⟨1,8,.oth,[.nf]⟩,
⟨1,8,.oth,[.nf]⟩,
⟨1,8,.oth,[.nf]⟩,
⟨1,8,.ptr 129,[.np]⟩,
⟨1,0,.oth,[]⟩,
⟨1,8,.oth,[.nf]⟩,
⟨1,8,.oth,[.nf]⟩,
⟨256,256,.arr 256 5,List.replicate 256 (.i .u8)⟩,
⟨2,2,.st [(0,5),(1,5)],[.i .u8,.i .u8]⟩,
⟨2,2,.st [(0,5),(1,5)],[.i .u8,.i .u8]⟩,
⟨32,32,.arr 16 148,List.replicate 32 (.i .u8)⟩,
⟨1,8,.oth,[.nf]⟩,
⟨1,8,.ptr 137,[.np]⟩,
⟨1,8,.oth,[.nf]⟩,
⟨4,40,.st [(0,17),(1,17),(2,17),(3,9)],[.np,.np,.np,.s]⟩,
⟨4,40,.st [(0,17),(1,17),(2,17),(3,9)],[.np,.np,.np,.s]⟩,
⟨0,0,.arr 0 16,[]⟩,
⟨0,0,.st [(0,155)],[]⟩,
⟨0,0,.st [(0,155)],[]⟩,
⟨1,1,.int .u8,[.i .u8]⟩,
⟨1,1,.int .u8,[.i .u8]⟩,
⟨1,8,.oth,[.nf]⟩,
⟨1,4,.int .i32,[.i .i32]⟩,
⟨1,4,.int .i32,[.i .i32]⟩,
⟨11,48,.st [(0,12),(1,12),(2,107),(3,158),(4,5),(5,5),(6,159),(7,160),(8,128),(9,161),(10,162)],[.i .u64,.i .u64,.i .u32,.i .u8,.i .u8,.i .u8,.i .u8,.nf,.np,.i .i32,.i .i32]⟩,
⟨11,48,.st [(0,12),(1,12),(2,107),(3,158),(4,5),(5,5),(6,159),(7,160),(8,128),(9,161),(10,162)],[.i .u64,.i .u64,.i .u32,.i .u8,.i .u8,.i .u8,.i .u8,.nf,.np,.i .i32,.i .i32]⟩,
⟨2,24,.st [(0,9),(1,159)],[.s,.i .u8]⟩,
⟨2,24,.st [(0,9),(1,159)],[.s,.i .u8]⟩]
theorem TTok:TOk Tryz.prog TT:=by unfold TOk; kernel_rfl
theorem mix:Tryz.prog.follows .mixedOrders=true:=by kernel_rfl
structure Ga where
 fName:ByteArray
 fIno:Int
instance:Inhabited Ga:=⟨⟨default,default⟩⟩
def Gb (x:Ga):PV:=.agg [.v (.string x.fName),.v (.int .i64 x.fIno)]
def Ke (x y:Ga):Bool:=((x.fName == y.fName)&&((x.fIno == y.fIno)&&true))
theorem XY (x y:Ga):EqA Tryz.prog 25 [((.string x.fName)),((.int .i64 x.fIno))] [((.string y.fName)),((.int .i64 y.fIno))] (Ke x y):=eqA_of TTok (by kernel_rfl) (by kernel_rfl) (by kernel_rfl)
/- ringhall/ringref3.within -/
def KF (n:Nat) (a b c:Int):Option (Bool) :=
 if b≤a then
  some (decide (a≤c))
 else
  some false
theorem SH (n:Nat) (b d e:Int) (r:Bool) (h:KF n b d e=some r):Ret Tryz.prog 18 [(eI .i64) b,(eI .i64) d,(eI .i64) e] (eB r):=by
 refine ret_run (n:=15) (fn:=Tryz.f18) (c:=bodyOf Tryz.f18) (by kernel_rfl) (by kernel_rfl) (by kernel_rfl) (by kernel_rfl) ?_
 have hF:KC 15 (FinR Tryz.prog Tryz.f18 (eB r)):=FinR.kc' (by kernel_rfl)
 unfold KF at h
 by_cases a:d≤b
 ·rw [if_pos a] at h
  obtain rfl:=Option.some.inj h
  exact pend_sound TTok mix 5 (hs:=[.t true,.c,.c]) (by kernel_rfl) (by kernel_rfl) (by kernel_rfl) (.cons (dt a) .nil)
 ·rw [if_neg a] at h
  obtain rfl:=Option.some.inj h
  exact pend_sound TTok mix 5 (hs:=[.t false,.c,.c]) (by kernel_rfl) (by kernel_rfl) (by kernel_rfl) (.cons (df a) .nil)
theorem one_byteIndex {c:ByteArray} (h:c.size=1):∃ x,c=⟨#[x]⟩:=by
 obtain ⟨⟨l⟩⟩:=c
 match l,h with
 | [x],_=>exact ⟨x,rfl⟩
def Xq (n:Nat) (s c:ByteArray):Option Int:=if c.size=1 then some (Lib.indexByte s.data.toList (c.data.toList.headD 0)) else none
theorem Ux (n:Nat) (s c:ByteArray) (r:Int) (h:Xq n s c=some r):Ret Tryz.prog 60 [eS s,eS c] (eI .i64 r):=by
 unfold Xq at h
 split at h
 ·rename_i q
  obtain rfl:=Option.some.inj h
  obtain ⟨x,rfl⟩:=one_byteIndex q
  refine ⟨⟨Tryz.f60,by kernel_rfl,by kernel_rfl,by kernel_rfl⟩,fun ow w vs _ hv=>?_⟩
  simp only [RT,R,eS,eI] at hv
  obtain ⟨_,_,rfl,⟨rfl,_⟩,_,_,rfl,⟨rfl,_⟩,rfl⟩:=hv
  refine (Tryz.strings_Index_one s x w).mono ?_
  rintro e w' ⟨rfl,rfl⟩
  exact ⟨_,rfl,Below.refl _ _,rfl,rfl⟩
 ·cases h
/- strings.Contains -/
def KR (n:Nat) (a b:ByteArray):Option (Bool) :=
 (Xq n a b).bind fun (c:(Int)) =>
 some (decide (c≥0))
theorem Yk (n:Nat) (a b:ByteArray) (r:Bool) (h:KR n a b=some r):Ret Tryz.prog 34 [eS a,eS b] (eB r):=by
 refine ret_run (n:=9) (fn:=Tryz.f34) (c:=bodyOf Tryz.f34) (by kernel_rfl) (by kernel_rfl) (by kernel_rfl) (by kernel_rfl) ?_
 have hF:KC 9 (FinR Tryz.prog Tryz.f34 (eB r)):=FinR.kc' (by kernel_rfl)
 unfold KR at h
 obtain ⟨d,e,h⟩:=bind_some h
 obtain rfl:=Option.some.inj h
 exact pend_sound TTok mix 5 (hs:=[.r ((eI .i64) d)]) (by kernel_rfl) (by kernel_rfl) (by kernel_rfl) (.cons (Ux n a b _ e) .nil)
inductive KP where
 | x0 (a:Bool)
def Ub:KP→Ex
 | .x0 _=>.normal
def Uc (b:ByteArray):KP→PS
 | .x0 a=>⟨(dd::dd::.d (.v (.bool a))::(dds 21 [])),[]⟩
def Ud (a:ByteArray)  : PS:=⟨(.d (.v (.string a))::(dds 23 [])),[]⟩
def Zh (n:Nat) (a:ByteArray):Option KP :=
 (KF n (a.size:Int) 1 14).bind fun (b:(Bool)) =>
 if b=true then
  if (!(a.toList == (ByteArray.mk #[46]).toList))=true then
   if (!(a.toList == (ByteArray.mk #[46,46]).toList))=true then
    (KR n a (ByteArray.mk #[47])).bind fun (c:(Bool)) =>
    if c=true then
     some (.x0 false)
    else
     (KR n a (ByteArray.mk #[0])).bind fun (d:(Bool)) =>
     some (.x0 (!d))
   else
    some (.x0 false)
  else
   some (.x0 false)
 else
  some (.x0 false)
theorem Ue {Fi:Ex→PS→Prop} (hF:KC 24 Fi) (ks:List Fr) (n:Nat) (a:ByteArray)  (o:KP) (h:Zh n a=some o) (q:RunE Tryz.prog 24 Fi ks (Ub o) (Uc a o)):RunE Tryz.prog 24 Fi (.s (cL (cR (bodyOf Tryz.f11)))::ks) .normal (Ud a):=by
 unfold Zh at h
 obtain ⟨d,f,h⟩:=bind_some h
 by_cases b:d=true
 ·rw [if_pos b] at h
  by_cases e:(!(a.toList == (ByteArray.mk #[46]).toList))=true
  ·rw [if_pos e] at h
   by_cases g:(!(a.toList == (ByteArray.mk #[46,46]).toList))=true
   ·rw [if_pos g] at h
    obtain ⟨j,k,h⟩:=bind_some h
    by_cases i:j=true
    ·rw [if_pos i] at h
     cases h
     exact pkk_sound TTok mix hF 1 (hs:=[.r (eB d),.t true,.c,.t true,.c,.t true,.c,.r (eB j),.c,.t false,.c,.c]) (ts:=[]) (s:=[]) (l:=[2]) (by kernel_rfl) (by kernel_rfl) (.cons (SH n (a.size:Int) 1 14 _ f) (.cons b (.cons e (.cons g (.cons (Yk n a (ByteArray.mk #[47]) _ k) (.cons (bnf i) .nil)))))) q
    ·rw [if_neg i] at h
     obtain ⟨m,p,h⟩:=bind_some h
     cases h
     exact pkk_sound TTok mix hF 1 (hs:=[.r (eB d),.t true,.c,.t true,.c,.t true,.c,.r (eB j),.c,.t true,.c,.r (eB m),.c]) (ts:=[]) (s:=[]) (l:=[2]) (by kernel_rfl) (by kernel_rfl) (.cons (SH n (a.size:Int) 1 14 _ f) (.cons b (.cons e (.cons g (.cons (Yk n a (ByteArray.mk #[47]) _ k) (.cons (bnt (vf i)) (.cons (Yk n a (ByteArray.mk #[0]) _ p) .nil))))))) q
   ·rw [if_neg g] at h
    cases h
    exact pkk_sound TTok mix hF 1 (hs:=[.r (eB d),.t true,.c,.t true,.c,.t false,.c,.c,.c,.c,.c]) (ts:=[]) (s:=[]) (l:=[2]) (by kernel_rfl) (by kernel_rfl) (.cons (SH n (a.size:Int) 1 14 _ f) (.cons b (.cons e (.cons (vf g) .nil)))) q
  ·rw [if_neg e] at h
   cases h
   exact pkk_sound TTok mix hF 1 (hs:=[.r (eB d),.t true,.c,.t false,.c,.c,.c,.c,.c,.c,.c]) (ts:=[]) (s:=[]) (l:=[2]) (by kernel_rfl) (by kernel_rfl) (.cons (SH n (a.size:Int) 1 14 _ f) (.cons b (.cons (vf e) .nil))) q
 ·rw [if_neg b] at h
  cases h
  exact pkk_sound TTok mix hF 1 (hs:=[.r (eB d),.t false,.c,.c,.c,.c,.c,.c,.c,.c,.c]) (ts:=[]) (s:=[]) (l:=[2]) (by kernel_rfl) (by kernel_rfl) (.cons (SH n (a.size:Int) 1 14 _ f) (.cons (vf b) .nil)) q
/- ringhall/ringref3.IsName -/
def KG (n:Nat) (a:ByteArray):Option (Bool) :=
 (Zh n a).bind fun b=>match b with
 | .x0 c =>
  some c
theorem SI (n:Nat) (a:ByteArray) (r:Bool) (h:KG n a=some r):Ret Tryz.prog 11 [eS a] (eB r):=by
 refine ret_run (n:=24) (fn:=Tryz.f11) (c:=bodyOf Tryz.f11) (by kernel_rfl) (by kernel_rfl) (by kernel_rfl) (by kernel_rfl) ?_
 have hF:KC 24 (FinR Tryz.prog Tryz.f11 (eB r)):=FinR.kc' (by kernel_rfl)
 unfold KG at h
 obtain ⟨b,d,h⟩:=bind_some h
 refine pkk_sound TTok mix hF 3 (hs:=[]) (ts:=[]) (s:=[]) (l:=[0]) (by kernel_rfl) (by kernel_rfl) .nil (Ue hF (.s (cR (cR (bodyOf Tryz.f11)))::[]) n a _ d ?_)
 cases b with
 | x0 e =>
  try dsimp only at h
  obtain rfl:=Option.some.inj h
  exact pend_sound TTok mix 1 (hs:=[]) (by kernel_rfl) (by kernel_rfl) (by kernel_rfl) .nil
inductive Kh where
 | x0 (a:Int)
 | x1 
def XM:Kh→Ex
 | .x0 _=>.ret
 | .x1  => .exit 0
def XN (b:(List Ga)):Kh→PS
 | .x0 a=>⟨(dd::dd::di a::(dds 31 [])),[]⟩
 | .x1  => ⟨(dds 34 []),[]⟩
def XO (a:(List Ga)) (b:Int) (c:(List (ByteArray×Bool))):PS:=⟨(dd::dd::dd::.srf 0::dd::dd::dd::dd::dd::dd::.d (.sl (a.map Gb))::di (a.length:Int)::di b::(dds 21 [])),[.cu (mapC Value.string Value.bool c) []]⟩
def G6 (n:Nat) (b:(List Ga)):Nat→Int→(List (ByteArray×Bool))→Option Kh
 | 0,_,_=>none
 | k+1,c,d =>
  if c<(b.length:Int) then
   (getI b c).bind fun (a:Ga) =>
   (KG n a.fName).bind fun (e:(Bool)) =>
   if e=true then
    (KF n a.fIno 1 32).bind fun (f:(Bool)) =>
    if f=true then
     if ((mget d a.fName).getD false)=true then
      some (.x0 5)
     else
      G6 n b k (wi .i64 (c+1)) (mput d a.fName true)
    else
     some (.x0 3)
   else
    some (.x0 3)
  else
   some (.x1 )
theorem ZX {Fi:Ex→PS→Prop} (hF:KC 34 Fi) (ks:List Fr) (n:Nat) (p:(List Ga))  : ∀ (k:Nat) (j:Int) (b:(List (ByteArray×Bool))) (o:Kh),G6 n p k j b=some o→RunE Tryz.prog 34 Fi ks (XM o) (XN p o)→RunE Tryz.prog 34 Fi (.l k (cP (cB (cR (cL (cR (cR (cR (bodyOf Tryz.f5))))))))::ks) .normal (XO p j b)
 | 0,j,b,o,h,q=>by rw [G6] at h; cases h
 | k+1,j,b,o,h,q=>by
  rw [G6] at h
  by_cases i:j<(p.length:Int)
  ·rw [if_pos i] at h
   obtain ⟨a,a1,h⟩:=bind_some h
   obtain ⟨u,a2,h⟩:=bind_some h
   by_cases m:u=true
   ·rw [if_pos m] at h
    obtain ⟨a3,a5,h⟩:=bind_some h
    by_cases a0:a3=true
    ·rw [if_pos a0] at h
     by_cases a4:((mget b a.fName).getD false)=true
     ·rw [if_pos a4] at h
      cases h
      exact pkk_sound TTok mix hF 26 (hs:=[.t true,.y (Gb a),.c,.c,.r (eB u),.t false,.c,.c,.c,.r (eB a3),.c,.t false,.c,.e 91 [0] (.d (.v (.bool ((mget b a.fName).getD false)))) [],.t true]) (ts:=[]) (s:=[]) (l:=[2]) (by kernel_rfl) (by kernel_rfl) (.cons (dt i) (.cons (getI_ob (f:=Gb) a1) (.cons (show 0+2≤2 by decide) (.cons (SI n a.fName _ a2) (.cons (bnf m) (.cons (SH n a.fIno 1 32 _ a5) (.cons (bnf a0) (.cons (ylook (P:=Tryz.prog) (T:=TT) (t:=43) (kt:=9) (et:=4) (l:=0) (x:=(.tmp 26)) (y:=(.tmp 28)) (f:=Value.string) (g:=Value.bool) (E:=b) (k:=a.fName) (z:=false) (kv_v _) false (by kernel_rfl) (KOk.kw (KOk.str (by kernel_rfl))) (fun w=>by kernel_rfl) (fun _=>rfl) rfl) (.cons a4 .nil))))))))) q
     ·rw [if_neg a4] at h
      exact pkk_sound TTok mix hF 23 (hs:=[.t true,.y (Gb a),.c,.c,.r (eB u),.t false,.c,.c,.c,.r (eB a3),.c,.t false,.c,.e 91 [0] (.d (.v (.bool ((mget b a.fName).getD false)))) [],.t false,.c,.e 111 [0] (dd) [(0,.cu (mapC Value.string Value.bool (mput b a.fName true)) [])]]) (ts:=[]) (s:=[0]) (l:=[3,10,11,12]) (by kernel_rfl) (by kernel_rfl) (.cons (dt i) (.cons (getI_ob (f:=Gb) a1) (.cons (show 0+2≤2 by decide) (.cons (SI n a.fName _ a2) (.cons (bnf m) (.cons (SH n a.fIno 1 32 _ a5) (.cons (bnf a0) (.cons (ylook (P:=Tryz.prog) (T:=TT) (t:=43) (kt:=9) (et:=4) (l:=0) (x:=(.tmp 26)) (y:=(.tmp 28)) (f:=Value.string) (g:=Value.bool) (E:=b) (k:=a.fName) (z:=false) (kv_v _) false (by kernel_rfl) (KOk.kw (KOk.str (by kernel_rfl))) (fun w=>by kernel_rfl) (fun _=>rfl) rfl) (.cons (vf a4) (.cons (yput (P:=Tryz.prog) (T:=TT) (t:=43) (kt:=9) (et:=4) (l:=0) (x:=(.tmp 30)) (y:=(.tmp 32)) (z:=(.const (.bool true))) (f:=Value.string) (g:=Value.bool) (E:=b) (k:=a.fName) (v:=true) (kv_v _) (by kernel_rfl) (KOk.kw (KOk.str (by kernel_rfl)))) .nil)))))))))) (ZX hF ks n p k (wi .i64 (j+1)) (mput b a.fName true) _ h q)
    ·rw [if_neg a0] at h
     cases h
     exact pkk_sound TTok mix hF 21 (hs:=[.t true,.y (Gb a),.c,.c,.r (eB u),.t false,.c,.c,.c,.r (eB a3),.c,.t true]) (ts:=[]) (s:=[]) (l:=[2]) (by kernel_rfl) (by kernel_rfl) (.cons (dt i) (.cons (getI_ob (f:=Gb) a1) (.cons (show 0+2≤2 by decide) (.cons (SI n a.fName _ a2) (.cons (bnf m) (.cons (SH n a.fIno 1 32 _ a5) (.cons (bnt (vf a0)) .nil))))))) q
   ·rw [if_neg m] at h
    cases h
    exact pkk_sound TTok mix hF 21 (hs:=[.t true,.y (Gb a),.c,.c,.r (eB u),.t true,.c,.c,.c,.c]) (ts:=[]) (s:=[]) (l:=[2]) (by kernel_rfl) (by kernel_rfl) (.cons (dt i) (.cons (getI_ob (f:=Gb) a1) (.cons (show 0+2≤2 by decide) (.cons (SI n a.fName _ a2) (.cons (bnt (vf m)) .nil))))) q
  ·rw [if_neg i] at h
   cases h
   exact pkk_sound TTok mix hF 8 (hs:=[.t false]) (ts:=[]) (s:=[]) (l:=[]) (by kernel_rfl) (by kernel_rfl) (.cons (df i) .nil) q
/- ringhall/ringref3.EntriesRight -/
def ST (n:Nat) (a:(List Ga)):Option (Int) :=
 if (a.length:Int) > 32 then
  some 2
 else
  (G6 n a n 0 ([]:(List (ByteArray×Bool)))).bind fun b=>match b with
  | .x0 c =>
   some c
  | .x1  =>
   some 0
theorem Kn (n:Nat) (a:(List Ga)) (r:Int) (h:ST n a=some r):Ret Tryz.prog 5 [(eL Gb) a] ((eI .i64) r):=by
 refine ret_run (n:=34) (fn:=Tryz.f5) (c:=bodyOf Tryz.f5) (by kernel_rfl) (by kernel_rfl) (by kernel_rfl) (by kernel_rfl) ?_
 have hF:KC 34 (FinR Tryz.prog Tryz.f5 ((eI .i64) r)):=FinR.kc' (by kernel_rfl)
 unfold ST at h
 by_cases g:(a.length:Int) > 32
 ·rw [if_pos g] at h
  obtain rfl:=Option.some.inj h
  exact pend_sound TTok mix 10 (hs:=[.u (di (a.length:Int)),.t true]) (by kernel_rfl) (by kernel_rfl) (by kernel_rfl) (.cons (len_ob (f:=Gb) (l:=a)) (.cons (dt g) .nil))
 ·rw [if_neg g] at h
  obtain ⟨i,j,h⟩:=bind_some h
  refine pkk_sound TTok mix hF 14 (hs:=[.u (di (a.length:Int)),.t false,.e 20 [20] (.srf 20) [(20,.cu (mapC Value.string Value.bool ([]:(List (ByteArray×Bool)))) [])],.u (di (a.length:Int)),.n n]) (ts:=[]) (s:=[20]) (l:=[3,10,11,12]) (by kernel_rfl) (by kernel_rfl) (.cons (len_ob (f:=Gb) (l:=a)) (.cons (df g) (.cons (ymake (P:=Tryz.prog) (T:=TT) (t:=43) (nl:=20) Value.string Value.bool) (.cons (len_ob (f:=Gb) (l:=a)) .nil)))) (ZX hF (.b 0::.s (cR (cR (cR (cR (bodyOf Tryz.f5)))))::[]) n a n 0 ([]:(List (ByteArray×Bool))) _ j ?_)
  cases i with
  | x0 k =>
   try dsimp only at h
   obtain rfl:=Option.some.inj h
   exact pend_sound TTok mix 2 (hs:=[]) (by kernel_rfl) (by kernel_rfl) (by kernel_rfl) .nil
  | x1  =>
   try dsimp only at h
   obtain rfl:=Option.some.inj h
   exact pend_sound TTok mix 4 (hs:=[]) (by kernel_rfl) (by kernel_rfl) (by kernel_rfl) .nil
def Xr (n:Nat) (s:ByteArray) (c:Int):Option Int:=some (Lib.indexByte s.data.toList c.toNat.toUInt8)
theorem Uy (n:Nat) (s:ByteArray) (c r:Int) (h:Xr n s c=some r):Ret Tryz.prog 59 [eS s,eI .u8 c] (eI .i64 r):=by
 unfold Xr at h
 obtain rfl:=Option.some.inj h
 refine ⟨⟨Tryz.f59,by kernel_rfl,by kernel_rfl,by kernel_rfl⟩,fun ow w vs _ hv=>?_⟩
 simp only [RT,R,eS,eI] at hv
 obtain ⟨_,_,rfl,⟨rfl,_⟩,_,_,rfl,⟨rfl,_⟩,rfl⟩:=hv
 refine (Tryz.stringslite_IndexByte s c w).mono ?_
 rintro e w' ⟨rfl,rfl⟩
 exact ⟨_,rfl,Below.refl _ _,rfl,rfl⟩
/- strings.IndexByte -/
def KL (n:Nat) (a:ByteArray) (b:Int):Option (Int) :=
 (Xr n a b).bind fun (c:(Int)) =>
 some c
theorem ZP (n:Nat) (a:ByteArray) (b r:Int) (h:KL n a b=some r):Ret Tryz.prog 33 [eS a,(eI .u8) b] ((eI .i64) r):=by
 refine ret_run (n:=8) (fn:=Tryz.f33) (c:=bodyOf Tryz.f33) (by kernel_rfl) (by kernel_rfl) (by kernel_rfl) (by kernel_rfl) ?_
 have hF:KC 8 (FinR Tryz.prog Tryz.f33 ((eI .i64) r)):=FinR.kc' (by kernel_rfl)
 unfold KL at h
 obtain ⟨d,e,h⟩:=bind_some h
 obtain rfl:=Option.some.inj h
 exact pend_sound TTok mix 5 (hs:=[.r ((eI .i64) d)]) (by kernel_rfl) (by kernel_rfl) (by kernel_rfl) (.cons (Uy n a b _ e) .nil)
inductive Xs where
 | x0 (a:Bool)
def UJ:Xs→Ex
 | .x0 _=>.normal
def UK (b:ByteArray):Xs→PS
 | .x0 a=>⟨(dd::dd::.d (.v (.bool a))::(dds 25 [])),[]⟩
def UL (a:ByteArray)  : PS:=⟨(.d (.v (.string a))::(dds 27 [])),[]⟩
def XC (n:Nat) (a:ByteArray):Option Xs :=
 if (!(a.toList == (ByteArray.mk #[]).toList))=true then
  if (a.size:Int)≤14 then
   if (!(a.toList == (ByteArray.mk #[46]).toList))=true then
    if (!(a.toList == (ByteArray.mk #[46,46]).toList))=true then
     (KL n a 0).bind fun (b:(Int)) =>
     if b<0 then
      (KL n a 47).bind fun (c:(Int)) =>
      some (.x0 (decide (c<0)))
     else
      some (.x0 false)
    else
     some (.x0 false)
   else
    some (.x0 false)
  else
   some (.x0 false)
 else
  some (.x0 false)
theorem UM {Fi:Ex→PS→Prop} (hF:KC 28 Fi) (ks:List Fr) (n:Nat) (a:ByteArray)  (o:Xs) (h:XC n a=some o) (q:RunE Tryz.prog 28 Fi ks (UJ o) (UK a o)):RunE Tryz.prog 28 Fi (.s (cL (cR (bodyOf Tryz.f10)))::ks) .normal (UL a):=by
 unfold XC at h
 by_cases b:(!(a.toList == (ByteArray.mk #[]).toList))=true
 ·rw [if_pos b] at h
  by_cases d:(a.size:Int)≤14
  ·rw [if_pos d] at h
   by_cases e:(!(a.toList == (ByteArray.mk #[46]).toList))=true
   ·rw [if_pos e] at h
    by_cases f:(!(a.toList == (ByteArray.mk #[46,46]).toList))=true
    ·rw [if_pos f] at h
     obtain ⟨i,j,h⟩:=bind_some h
     by_cases g:i<0
     ·rw [if_pos g] at h
      obtain ⟨k,m,h⟩:=bind_some h
      cases h
      exact pkk_sound TTok mix hF 1 (hs:=[.t true,.c,.c,.t true,.c,.t true,.c,.t true,.c,.r ((eI .i64) i),.c,.t true,.c,.r ((eI .i64) k),.c]) (ts:=[]) (s:=[]) (l:=[2]) (by kernel_rfl) (by kernel_rfl) (.cons b (.cons (dt d) (.cons e (.cons f (.cons (ZP n a 0 _ j) (.cons (dt g) (.cons (ZP n a 47 _ m) .nil))))))) q
     ·rw [if_neg g] at h
      cases h
      exact pkk_sound TTok mix hF 1 (hs:=[.t true,.c,.c,.t true,.c,.t true,.c,.t true,.c,.r ((eI .i64) i),.c,.t false,.c,.c]) (ts:=[]) (s:=[]) (l:=[2]) (by kernel_rfl) (by kernel_rfl) (.cons b (.cons (dt d) (.cons e (.cons f (.cons (ZP n a 0 _ j) (.cons (df g) .nil)))))) q
    ·rw [if_neg f] at h
     cases h
     exact pkk_sound TTok mix hF 1 (hs:=[.t true,.c,.c,.t true,.c,.t true,.c,.t false,.c,.c,.c,.c,.c]) (ts:=[]) (s:=[]) (l:=[2]) (by kernel_rfl) (by kernel_rfl) (.cons b (.cons (dt d) (.cons e (.cons (vf f) .nil)))) q
   ·rw [if_neg e] at h
    cases h
    exact pkk_sound TTok mix hF 1 (hs:=[.t true,.c,.c,.t true,.c,.t false,.c,.c,.c,.c,.c,.c,.c]) (ts:=[]) (s:=[]) (l:=[2]) (by kernel_rfl) (by kernel_rfl) (.cons b (.cons (dt d) (.cons (vf e) .nil))) q
  ·rw [if_neg d] at h
   cases h
   exact pkk_sound TTok mix hF 1 (hs:=[.t true,.c,.c,.t false,.c,.c,.c,.c,.c,.c,.c,.c,.c]) (ts:=[]) (s:=[]) (l:=[2]) (by kernel_rfl) (by kernel_rfl) (.cons b (.cons (df d) .nil)) q
 ·rw [if_neg b] at h
  cases h
  exact pkk_sound TTok mix hF 1 (hs:=[.t false,.c,.c,.c,.c,.c,.c,.c,.c,.c,.c,.c,.c]) (ts:=[]) (s:=[]) (l:=[2]) (by kernel_rfl) (by kernel_rfl) (.cons (vf b) .nil) q
/- ringhall/dir.Name -/
def Xy (n:Nat) (a:ByteArray):Option (Bool) :=
 (XC n a).bind fun b=>match b with
 | .x0 c =>
  some c
theorem Ze (n:Nat) (a:ByteArray) (r:Bool) (h:Xy n a=some r):Ret Tryz.prog 10 [eS a] (eB r):=by
 refine ret_run (n:=28) (fn:=Tryz.f10) (c:=bodyOf Tryz.f10) (by kernel_rfl) (by kernel_rfl) (by kernel_rfl) (by kernel_rfl) ?_
 have hF:KC 28 (FinR Tryz.prog Tryz.f10 (eB r)):=FinR.kc' (by kernel_rfl)
 unfold Xy at h
 obtain ⟨b,d,h⟩:=bind_some h
 refine pkk_sound TTok mix hF 3 (hs:=[]) (ts:=[]) (s:=[]) (l:=[0]) (by kernel_rfl) (by kernel_rfl) .nil (UM hF (.s (cR (cR (bodyOf Tryz.f10)))::[]) n a _ d ?_)
 cases b with
 | x0 e =>
  try dsimp only at h
  obtain rfl:=Option.some.inj h
  exact pend_sound TTok mix 1 (hs:=[]) (by kernel_rfl) (by kernel_rfl) (by kernel_rfl) .nil
inductive Sm where
 | x0 (a:Int)
 | x1 
def ZQ:Sm→Ex
 | .x0 _=>.ret
 | .x1  => .exit 0
def ZR (b:(List Ga)) (c:(Ga→Option (Bool))) (e:FuncId) (f:(List PV)):Sm→PS
 | .x0 a=>⟨(dd::dd::dd::dd::di a::(dds 14 [])),[]⟩
 | .x1  => ⟨(dds 19 []),[]⟩
def ZS (a:(List Ga)) (f:(Ga→Option (Bool))) (b:FuncId) (c:(List PV)) (e:Int):PS:=⟨(.d (.sl (a.map Gb))::.d (.clo b c)::dd::dd::dd::dd::dd::di (a.length:Int)::di e::(dds 10 [])),[]⟩
def Gj (n:Nat) (b:(List Ga)) (c:(Ga→Option (Bool))):Nat→Int→Option Sm
 | 0,_=>none
 | k+1,a =>
  if a<(b.length:Int) then
   (getI b a).bind fun (d:Ga) =>
   (c d).bind fun (e:(Bool)) =>
   if e=true then
    some (.x0 a)
   else
    Gj n b c k (wi .i64 (a+1))
  else
   some (.x1 )
theorem Kl {Fi:Ex→PS→Prop} (hF:KC 19 Fi) (ks:List Fr) (n:Nat) (b:(List Ga)) (c:(Ga→Option (Bool))) (e:FuncId) (g:(List PV)) (m:∀ (x0:Ga) (r:Bool),c x0=some r→Ret Tryz.prog e ([Gb x0]++g) (eB r)):∀ (k:Nat) (a:Int) (o:Sm),Gj n b c k a=some o→RunE Tryz.prog 19 Fi ks (ZQ o) (ZR b c e g o)→RunE Tryz.prog 19 Fi (.l k (cP (cB (cR (cL (cR (bodyOf Tryz.f40))))))::ks) .normal (ZS b c e g a)
 | 0,a,o,h,q=>by rw [Gj] at h; cases h
 | k+1,a,o,h,q=>by
  rw [Gj] at h
  by_cases d:a<(b.length:Int)
  ·rw [if_pos d] at h
   obtain ⟨i,u,h⟩:=bind_some h
   obtain ⟨p,v,h⟩:=bind_some h
   by_cases j:p=true
   ·rw [if_pos j] at h
    cases h
    exact pkk_sound TTok mix hF 19 (hs:=[.t true,.y (Gb i),.r (eB p),.t true]) (ts:=[]) (s:=[]) (l:=[4]) (by kernel_rfl) (by kernel_rfl) (.cons (dt d) (.cons (getI_ob (f:=Gb) u) (.cons (m i _ v) (.cons j .nil)))) q
   ·rw [if_neg j] at h
    exact pkk_sound TTok mix hF 16 (hs:=[.t true,.y (Gb i),.r (eB p),.t false]) (ts:=[]) (s:=[]) (l:=[0,1,7,8]) (by kernel_rfl) (by kernel_rfl) (.cons (dt d) (.cons (getI_ob (f:=Gb) u) (.cons (m i _ v) (.cons (vf j) .nil)))) (Kl hF ks n b c e g m k (wi .i64 (a+1)) _ h q)
  ·rw [if_neg d] at h
   cases h
   exact pkk_sound TTok mix hF 8 (hs:=[.t false]) (ts:=[]) (s:=[]) (l:=[]) (by kernel_rfl) (by kernel_rfl) (.cons (df d) .nil) q
/- slices.IndexFunc[[]ringhall/api.Entry,ringhall/api.Entry] -/
def Sd (n:Nat) (a:(List Ga)) (b:(Ga→Option (Bool))):Option (Int) :=
 (Gj n a b n 0).bind fun c=>match c with
 | .x0 d =>
  some d
 | .x1  =>
  some (-1)
theorem YF (n:Nat) (a:(List Ga)) (e:(Ga→Option (Bool))) (g:FuncId) (i:List PV) (j:∀ (x0:Ga) (r:Bool),e x0=some r→Ret Tryz.prog g ([Gb x0]++i) (eB r)) (r:Int) (h:Sd n a e=some r):Ret Tryz.prog 40 [(eL Gb) a,(.clo g i)] ((eI .i64) r):=by
 refine ret_run (n:=19) (fn:=Tryz.f40) (c:=bodyOf Tryz.f40) (by kernel_rfl) (by kernel_rfl) (by kernel_rfl) (by kernel_rfl) ?_
 have hF:KC 19 (FinR Tryz.prog Tryz.f40 ((eI .i64) r)):=FinR.kc' (by kernel_rfl)
 unfold Sd at h
 obtain ⟨k,m,h⟩:=bind_some h
 refine pkk_sound TTok mix hF 7 (hs:=[.u (di (a.length:Int)),.n n]) (ts:=[]) (s:=[]) (l:=[0,1,7,8]) (by kernel_rfl) (by kernel_rfl) (.cons (len_ob (f:=Gb) (l:=a)) .nil) (Kl hF (.b 0::.s (cR (cR (bodyOf Tryz.f40)))::[]) n a e g i j n 0 _ m ?_)
 cases k with
 | x0 o =>
  try dsimp only at h
  obtain rfl:=Option.some.inj h
  exact pend_sound TTok mix 2 (hs:=[]) (by kernel_rfl) (by kernel_rfl) (by kernel_rfl) .nil
 | x1  =>
  try dsimp only at h
  obtain rfl:=Option.some.inj h
  exact pend_sound TTok mix 4 (hs:=[]) (by kernel_rfl) (by kernel_rfl) (by kernel_rfl) .nil
/- slices.ContainsFunc[[]ringhall/api.Entry,ringhall/api.Entry] -/
def GT (n:Nat) (a:(List Ga)) (b:(Ga→Option (Bool))):Option (Bool) :=
 (Sd n a b).bind fun (c:(Int)) =>
 some (decide (c≥0))
theorem Km (n:Nat) (a:(List Ga)) (b:(Ga→Option (Bool))) (d:FuncId) (e:List PV) (f:∀ (x0:Ga) (r:Bool),b x0=some r→Ret Tryz.prog d ([Gb x0]++e) (eB r)) (r:Bool) (h:GT n a b=some r):Ret Tryz.prog 31 [(eL Gb) a,(.clo d e)] (eB r):=by
 refine ret_run (n:=9) (fn:=Tryz.f31) (c:=bodyOf Tryz.f31) (by kernel_rfl) (by kernel_rfl) (by kernel_rfl) (by kernel_rfl) ?_
 have hF:KC 9 (FinR Tryz.prog Tryz.f31 (eB r)):=FinR.kc' (by kernel_rfl)
 unfold GT at h
 obtain ⟨g,i,h⟩:=bind_some h
 obtain rfl:=Option.some.inj h
 exact pend_sound TTok mix 5 (hs:=[.r ((eI .i64) g)]) (by kernel_rfl) (by kernel_rfl) (by kernel_rfl) (.cons (YF n a b d e f _ i) .nil)
/- ringhall/dir.Right$1 -/
def ZK (n:Nat) (a b:Ga):Option (Bool) :=
 some (b.fName.toList == a.fName.toList)
theorem XZ (n:Nat) (b a:Ga) (r:Bool) (h:ZK n b a=some r):Ret Tryz.prog 32 [Gb b,.iptr [.v (.string a.fName),.v (.int .i64 a.fIno)] 0] (eB r):=by
 refine ret_run (n:=9) (fn:=Tryz.f32) (c:=bodyOf Tryz.f32) (by kernel_rfl) (by kernel_rfl) (by kernel_rfl) (by kernel_rfl) ?_
 have hF:KC 9 (FinR Tryz.prog Tryz.f32 (eB r)):=FinR.kc' (by kernel_rfl)
 unfold ZK at h
 obtain rfl:=Option.some.inj h
 exact pend_sound TTok mix 5 (hs:=[.c,.c]) (by kernel_rfl) (by kernel_rfl) (by kernel_rfl) .nil
inductive Xf where
 | x0 (a:Bool)
def UB:Xf→Ex
 | .x0 _=>.normal
def UC (a:(List Ga)) (b:Int) (c:Ga):Xf→PS
 | .x0 e=>⟨(.d (.sl (a.map Gb))::dd::dd::di b::.ref 0 0::dd::dd::dd::.d (.sl (a.map Gb))::di (a.length:Int)::di b::(dds 17 [.d (.v (.bool e)),dd,dd,dd,dd,dd,dd])),[.box [.d (.v (.string c.fName)),di c.fIno]]⟩
def UD (a:(List Ga)) (b:Int) (c:Ga)  : PS:=⟨(.d (.sl (a.map Gb))::dd::dd::di b::.ref 0 0::dd::dd::dd::.d (.sl (a.map Gb))::di (a.length:Int)::di b::(dds 24 [])),[.box [.d (.v (.string c.fName)),di c.fIno]]⟩
def Xz (n:Nat) (c:(List Ga)) (d:Int) (a:Ga):Option Xf :=
 (Xy n a.fName).bind fun (b:(Bool)) =>
 if b=true then
  if a.fIno<1 then
   some (.x0 true)
  else
   some (.x0 (decide (a.fIno > 32)))
 else
  some (.x0 true)
theorem UE {Fi:Ex→PS→Prop} (hF:KC 35 Fi) (ks:List Fr) (n:Nat) (f:(List Ga)) (g:Int) (a:Ga)  (o:Xf) (h:Xz n f g a=some o) (q:RunE Tryz.prog 35 Fi ks (UB o) (UC f g a o)):RunE Tryz.prog 35 Fi (.s (cL (cL (cR (cB (cL (cR (cR (cP (cB (cR (cL (cR (cR (bodyOf Tryz.f9))))))))))))))::ks) .normal (UD f g a):=by
 unfold Xz at h
 obtain ⟨d,i,h⟩:=bind_some h
 by_cases b:d=true
 ·rw [if_pos b] at h
  by_cases e:a.fIno<1
  ·rw [if_pos e] at h
   cases h
   exact pkk_sound TTok mix hF 1 (hs:=[.c,.r (eB d),.t false,.c,.c,.c,.t true,.c,.c]) (ts:=[]) (s:=[0]) (l:=[0,3,4,8,9,10,28]) (by kernel_rfl) (by kernel_rfl) (.cons (Ze n a.fName _ i) (.cons (bnf b) (.cons (dt e) .nil))) q
  ·rw [if_neg e] at h
   cases h
   exact pkk_sound TTok mix hF 1 (hs:=[.c,.r (eB d),.t false,.c,.c,.c,.t false,.c,.c,.c]) (ts:=[]) (s:=[0]) (l:=[0,3,4,8,9,10,28]) (by kernel_rfl) (by kernel_rfl) (.cons (Ze n a.fName _ i) (.cons (bnf b) (.cons (df e) .nil))) q
 ·rw [if_neg b] at h
  cases h
  exact pkk_sound TTok mix hF 1 (hs:=[.c,.r (eB d),.t true,.c,.c,.c,.c,.c]) (ts:=[]) (s:=[0]) (l:=[0,3,4,8,9,10,28]) (by kernel_rfl) (by kernel_rfl) (.cons (Ze n a.fName _ i) (.cons (bnt (vf b)) .nil)) q
inductive Xg where
 | x0 (a:Int)
 | x1 
def UF:Xg→Ex
 | .x0 _=>.ret
 | .x1  => .exit 0
def UG (b:(List Ga)):Xg→PS
 | .x0 a=>⟨(dd::dd::di a::(dds 32 [])),[]⟩
 | .x1  => ⟨(dds 35 []),[]⟩
def UH (a:(List Ga)) (b:Int):PS:=⟨(.d (.sl (a.map Gb))::dd::dd::dd::dd::dd::dd::dd::.d (.sl (a.map Gb))::di (a.length:Int)::di b::(dds 24 [])),[]⟩
def Kw (n:Nat) (a:(List Ga)):Nat→Int→Option Xg
 | 0,_=>none
 | k+1,b =>
  if b<(a.length:Int) then
   (getI a b).bind fun (c:Ga) =>
   (Xz n a b c).bind fun d=>match d with
   | .x0 e =>
    if e=true then
     some (.x0 3)
    else
     (sub a 0 b).bind fun (f:(List Ga)) =>
     (GT n f (fun (y0:Ga)=>ZK n y0 c)).bind fun (g:(Bool)) =>
     if g=true then
      some (.x0 5)
     else
      Kw n a k (wi .i64 (b+1))
  else
   some (.x1 )
theorem XV {Fi:Ex→PS→Prop} (hF:KC 35 Fi) (ks:List Fr) (n:Nat) (g:(List Ga))  : ∀ (k:Nat) (e:Int) (o:Xg),Kw n g k e=some o→RunE Tryz.prog 35 Fi ks (UF o) (UG g o)→RunE Tryz.prog 35 Fi (.l k (cP (cB (cR (cL (cR (cR (bodyOf Tryz.f9)))))))::ks) .normal (UH g e)
 | 0,e,o,h,q=>by rw [Kw] at h; cases h
 | k+1,e,o,h,q=>by
  rw [Kw] at h
  by_cases j:e<(g.length:Int)
  ·rw [if_pos j] at h
   obtain ⟨a,z,h⟩:=bind_some h
   obtain ⟨a0,a1,h⟩:=bind_some h
   refine pkk_sound TTok mix hF 12 (hs:=[.t true,.y (Gb a),.c]) (ts:=[]) (s:=[20]) (l:=[0,3,4,8,9,10]) (by kernel_rfl) (by kernel_rfl) (.cons (dt j) (.cons (getI_ob (f:=Gb) z) (.cons (show 0+2≤2 by decide) .nil))) (UE hF (.s (cR (cL (cR (cB (cL (cR (cR (cP (cB (cR (cL (cR (cR (bodyOf Tryz.f9))))))))))))))::.s (cR (cR (cB (cL (cR (cR (cP (cB (cR (cL (cR (cR (bodyOf Tryz.f9)))))))))))))::.b 1::.s (cR (cR (cR (cP (cB (cR (cL (cR (cR (bodyOf Tryz.f9))))))))))::.l k (cP (cB (cR (cL (cR (cR (bodyOf Tryz.f9)))))))::ks) n g e a _ a1 ?_)
   cases a0 with
   | x0 a2 =>
    try dsimp only at h
    by_cases i:a2=true
    ·rw [if_pos i] at h
     cases h
     exact pkk_sound TTok mix hF 8 (hs:=[.t true]) (ts:=[]) (s:=[]) (l:=[2]) (by kernel_rfl) (by kernel_rfl) (.cons i .nil) q
    ·rw [if_neg i] at h
     obtain ⟨m,d,h⟩:=bind_some h
     obtain ⟨u,x,h⟩:=bind_some h
     by_cases p:u=true
     ·rw [if_pos p] at h
      cases h
      exact pkk_sound TTok mix hF 11 (hs:=[.t false,.w (m.map Gb),.c,.r (eB u),.t true]) (ts:=[]) (s:=[]) (l:=[2]) (by kernel_rfl) (by kernel_rfl) (.cons (vf i) (.cons (sub_ob (f:=Gb) (s:=2) d (fun _=>rfl)).1 (.cons (sub_ob (f:=Gb) (s:=2) d (fun _=>rfl)).2.1 (.cons (sub_ob (f:=Gb) (s:=2) d (fun _=>rfl)).2.2.1 (.cons (sub_ob (f:=Gb) (s:=2) d (fun _=>rfl)).2.2.2.1 (.cons (sub_ob (f:=Gb) (s:=2) d (fun _=>rfl)).2.2.2.2 (.cons (Km n m (fun (y0:Ga)=>ZK n y0 a) 32 [.iptr [.v (.string a.fName),.v (.int .i64 a.fIno)] 0] (fun y0 r h=>XZ n y0 a r h) _ x) (.cons p .nil)))))))) q
     ·rw [if_neg p] at h
      exact pkk_sound TTok mix hF 8 (hs:=[.t false,.w (m.map Gb),.c,.r (eB u),.t false]) (ts:=[]) (s:=[]) (l:=[0,8,9,10]) (by kernel_rfl) (by kernel_rfl) (.cons (vf i) (.cons (sub_ob (f:=Gb) (s:=2) d (fun _=>rfl)).1 (.cons (sub_ob (f:=Gb) (s:=2) d (fun _=>rfl)).2.1 (.cons (sub_ob (f:=Gb) (s:=2) d (fun _=>rfl)).2.2.1 (.cons (sub_ob (f:=Gb) (s:=2) d (fun _=>rfl)).2.2.2.1 (.cons (sub_ob (f:=Gb) (s:=2) d (fun _=>rfl)).2.2.2.2 (.cons (Km n m (fun (y0:Ga)=>ZK n y0 a) 32 [.iptr [.v (.string a.fName),.v (.int .i64 a.fIno)] 0] (fun y0 r h=>XZ n y0 a r h) _ x) (.cons (vf p) .nil)))))))) (XV hF ks n g k (wi .i64 (e+1)) _ h q)
  ·rw [if_neg j] at h
   cases h
   exact pkk_sound TTok mix hF 8 (hs:=[.t false]) (ts:=[]) (s:=[]) (l:=[]) (by kernel_rfl) (by kernel_rfl) (.cons (df j) .nil) q
/- ringhall/dir.Right -/
def Xp (n:Nat) (a:(List Ga)):Option (Int) :=
 if (a.length:Int) > 32 then
  some 2
 else
  (Kw n a n 0).bind fun b=>match b with
  | .x0 c =>
   some c
  | .x1  =>
   some 0
theorem KN (n:Nat) (a:(List Ga)) (r:Int) (h:Xp n a=some r):Ret Tryz.prog 9 [(eL Gb) a] ((eI .i64) r):=by
 refine ret_run (n:=35) (fn:=Tryz.f9) (c:=bodyOf Tryz.f9) (by kernel_rfl) (by kernel_rfl) (by kernel_rfl) (by kernel_rfl) ?_
 have hF:KC 35 (FinR Tryz.prog Tryz.f9 ((eI .i64) r)):=FinR.kc' (by kernel_rfl)
 unfold Xp at h
 by_cases e:(a.length:Int) > 32
 ·rw [if_pos e] at h
  obtain rfl:=Option.some.inj h
  exact pend_sound TTok mix 10 (hs:=[.u (di (a.length:Int)),.t true]) (by kernel_rfl) (by kernel_rfl) (by kernel_rfl) (.cons (len_ob (f:=Gb) (l:=a)) (.cons (dt e) .nil))
 ·rw [if_neg e] at h
  obtain ⟨g,i,h⟩:=bind_some h
  refine pkk_sound TTok mix hF 12 (hs:=[.u (di (a.length:Int)),.t false,.u (di (a.length:Int)),.n n]) (ts:=[]) (s:=[]) (l:=[0,8,9,10]) (by kernel_rfl) (by kernel_rfl) (.cons (len_ob (f:=Gb) (l:=a)) (.cons (df e) (.cons (len_ob (f:=Gb) (l:=a)) .nil))) (XV hF (.b 0::.s (cR (cR (cR (bodyOf Tryz.f9))))::[]) n a n 0 _ i ?_)
  cases g with
  | x0 j =>
   try dsimp only at h
   obtain rfl:=Option.some.inj h
   exact pend_sound TTok mix 2 (hs:=[]) (by kernel_rfl) (by kernel_rfl) (by kernel_rfl) .nil
  | x1  =>
   try dsimp only at h
   obtain rfl:=Option.some.inj h
   exact pend_sound TTok mix 4 (hs:=[]) (by kernel_rfl) (by kernel_rfl) (by kernel_rfl) .nil
/- slices.Clone[[]ringhall/api.Entry,ringhall/api.Entry] -/
def S6 (n a:Nat):Option ((List Ga)) :=
 some ([]:List Ga)
theorem Xl (n a:Nat) (r:(List Ga)) (h:S6 n a=some r):RetH Tryz.prog 19 [.d (.v (.slice none 0 a))] [] (.srf 0) [.row 25 2 (r.map Gb)]:=by
 refine retH_run (n:=8) (fn:=Tryz.f19) (c:=bodyOf Tryz.f19) (by kernel_rfl) (by kernel_rfl) (by kernel_rfl) (by kernel_rfl) ?_
 have hF:KC 8 (FinH Tryz.prog Tryz.f19 [] (.srf 0) [.row 25 2 (r.map Gb)]):=FinH.kc' (by kernel_rfl)
 unfold S6 at h
 obtain rfl:=Option.some.inj h
 exact pendH_sound TTok mix 11 (hs:=[.c,.dl 4,.th 2 25 2]) [20] (by kernel_rfl) (by kernel_rfl) (by kernel_rfl) .nil
/- slices.Clone[[]ringhall/api.Entry,ringhall/api.Entry] -/
def S7 (n:Nat) (b:Addr) (c:Nat):Option ((List Ga)) :=
 (app 24 ([]:List Ga) ([]:(List Ga))).bind fun (a:(List Ga)) =>
 some a
theorem Xm (n:Nat) (b:Addr) (e:Nat) (r:(List Ga)) (h:S7 n b e=some r):RetH Tryz.prog 19 [.d (.v (.slice (some b) 0 e))] [] (.srf 0) [.row 25 2 (r.map Gb)]:=by
 refine retH_run (n:=8) (fn:=Tryz.f19) (c:=bodyOf Tryz.f19) (by kernel_rfl) (by kernel_rfl) (by kernel_rfl) (by kernel_rfl) ?_
 have hF:KC 8 (FinH Tryz.prog Tryz.f19 [] (.srf 0) [.row 25 2 (r.map Gb)]):=FinH.kc' (by kernel_rfl)
 unfold S7 at h
 obtain ⟨g,a,h⟩:=bind_some h
 obtain rfl:=Option.some.inj h
 exact pendH_sound TTok mix 10 (hs:=[.c,.w (([]:List Ga).map Gb),.w (g.map Gb)]) [25] (by kernel_rfl) (by kernel_rfl) (by kernel_rfl) (.cons (Eq.refl (([]:List Ga).map Gb)) (.cons (app_ob (f:=Gb) (s:=2) a (fun _=>rfl)).1 (.cons (app_ob (f:=Gb) (s:=2) a (fun _=>rfl)).2.1 (.cons (app_ob (f:=Gb) (s:=2) a (fun _=>rfl)).2.2.1 (.cons (app_ob (f:=Gb) (s:=2) a (fun _=>rfl)).2.2.2 .nil)))))
/- slices.Clone[[]ringhall/api.Entry,ringhall/api.Entry] -/
def S8 (n:Nat) (a:Ga) (b:(List Ga)):Option ((List Ga)) :=
 (app 24 ([]:List Ga) (a::b)).bind fun (c:(List Ga)) =>
 some c
theorem Xn (n:Nat) (b:Ga) (e r:(List Ga)) (h:S8 n b e=some r):RetH Tryz.prog 19 [.d (.sl (Gb b::e.map Gb))] [] (.srf 0) [.row 25 2 (r.map Gb)]:=by
 refine retH_run (n:=8) (fn:=Tryz.f19) (c:=bodyOf Tryz.f19) (by kernel_rfl) (by kernel_rfl) (by kernel_rfl) (by kernel_rfl) ?_
 have hF:KC 8 (FinH Tryz.prog Tryz.f19 [] (.srf 0) [.row 25 2 (r.map Gb)]):=FinH.kc' (by kernel_rfl)
 unfold S8 at h
 obtain ⟨g,a,h⟩:=bind_some h
 obtain rfl:=Option.some.inj h
 exact pendH_sound TTok mix 10 (hs:=[.c,.w (([]:List Ga).map Gb),.w (g.map Gb)]) [25] (by kernel_rfl) (by kernel_rfl) (by kernel_rfl) (.cons (Eq.refl (([]:List Ga).map Gb)) (.cons (app_ob (f:=Gb) (s:=2) a (fun _=>rfl)).1 (.cons (app_ob (f:=Gb) (s:=2) a (fun _=>rfl)).2.1 (.cons (app_ob (f:=Gb) (s:=2) a (fun _=>rfl)).2.2.1 (.cons (app_ob (f:=Gb) (s:=2) a (fun _=>rfl)).2.2.2 .nil)))))
def SM (n:Nat) (xs:(List Ga)):Option (List Ga):=app 24 [] xs
theorem Xu (n:Nat) (xs r:(List Ga)) (h:SM n xs=some r):RetH Tryz.prog 19 [.d (.sl (xs.map Gb))] [] (.srf 0) [.row 25 2 (r.map Gb)]:=by
 unfold SM at h
 have e:app 24 ([]:(List Ga)) []=some []:=by simp [app]
 cases xs with
 | nil =>
  rw [e] at h; obtain rfl:=Option.some.inj h
  exact clone_nil (fun c=>Xl n c _ (by unfold S6; rfl)) (fun a c=>Xm n a c _ (by unfold S7; rw [e]; rfl))
 | cons y ys=>exact Xn n y ys _ (by unfold S8; rw [h]; rfl)
/- cmp.isNaN[string] -/
def KS (n:Nat) (a:ByteArray):Option (Bool) :=
 some (!(a.toList == a.toList))
theorem GI (n:Nat) (a:ByteArray) (r:Bool) (h:KS n a=some r):Ret Tryz.prog 45 [eS a] (eB r):=by
 refine ret_run (n:=6) (fn:=Tryz.f45) (c:=bodyOf Tryz.f45) (by kernel_rfl) (by kernel_rfl) (by kernel_rfl) (by kernel_rfl) ?_
 have hF:KC 6 (FinR Tryz.prog Tryz.f45 (eB r)):=FinR.kc' (by kernel_rfl)
 unfold KS at h
 obtain rfl:=Option.some.inj h
 exact pend_sound TTok mix 5 (hs:=[]) (by kernel_rfl) (by kernel_rfl) (by kernel_rfl) .nil
/- cmp.Compare[string] -/
def Zi (n:Nat) (a b:ByteArray):Option (Int) :=
 (KS n a).bind fun (d:(Bool)) =>
 (KS n b).bind fun (c:(Bool)) =>
 if d=true then
  if c=true then
   some 0
  else
   some (-1)
 else
  if c=true then
   some 1
  else
   if (Op.bytesLess a.toList b.toList)=true then
    some (-1)
   else
    if (!(Op.bytesLess a.toList b.toList||(a.toList == b.toList)))=true then
     some 1
    else
     some 0
theorem Uf (n:Nat) (a b:ByteArray) (r:Int) (h:Zi n a b=some r):Ret Tryz.prog 22 [eS a,eS b] ((eI .i64) r):=by
 refine ret_run (n:=20) (fn:=Tryz.f22) (c:=bodyOf Tryz.f22) (by kernel_rfl) (by kernel_rfl) (by kernel_rfl) (by kernel_rfl) ?_
 have hF:KC 20 (FinR Tryz.prog Tryz.f22 ((eI .i64) r)):=FinR.kc' (by kernel_rfl)
 unfold Zi at h
 obtain ⟨f,g,h⟩:=bind_some h
 obtain ⟨d,i,h⟩:=bind_some h
 by_cases e:f=true
 ·rw [if_pos e] at h
  by_cases l:d=true
  ·rw [if_pos l] at h
   obtain rfl:=Option.some.inj h
   exact pend_sound TTok mix 19 (hs:=[.r (eB f),.r (eB d),.t true,.t true]) (by kernel_rfl) (by kernel_rfl) (by kernel_rfl) (.cons (GI n a _ g) (.cons (GI n b _ i) (.cons e (.cons l .nil))))
  ·rw [if_neg l] at h
   obtain rfl:=Option.some.inj h
   exact pend_sound TTok mix 19 (hs:=[.r (eB f),.r (eB d),.t true,.t false]) (by kernel_rfl) (by kernel_rfl) (by kernel_rfl) (.cons (GI n a _ g) (.cons (GI n b _ i) (.cons e (.cons (vf l) .nil))))
 ·rw [if_neg e] at h
  by_cases j:d=true
  ·rw [if_pos j] at h
   obtain rfl:=Option.some.inj h
   exact pend_sound TTok mix 19 (hs:=[.r (eB f),.r (eB d),.t false,.t true]) (by kernel_rfl) (by kernel_rfl) (by kernel_rfl) (.cons (GI n a _ g) (.cons (GI n b _ i) (.cons (vf e) (.cons j .nil))))
  ·rw [if_neg j] at h
   by_cases k:(Op.bytesLess a.toList b.toList)=true
   ·rw [if_pos k] at h
    obtain rfl:=Option.some.inj h
    exact pend_sound TTok mix 24 (hs:=[.r (eB f),.r (eB d),.t false,.t false,.t true]) (by kernel_rfl) (by kernel_rfl) (by kernel_rfl) (.cons (GI n a _ g) (.cons (GI n b _ i) (.cons (vf e) (.cons (vf j) (.cons k .nil)))))
   ·rw [if_neg k] at h
    by_cases m:(!(Op.bytesLess a.toList b.toList||(a.toList == b.toList)))=true
    ·rw [if_pos m] at h
     obtain rfl:=Option.some.inj h
     exact pend_sound TTok mix 29 (hs:=[.r (eB f),.r (eB d),.t false,.t false,.t false,.t true]) (by kernel_rfl) (by kernel_rfl) (by kernel_rfl) (.cons (GI n a _ g) (.cons (GI n b _ i) (.cons (vf e) (.cons (vf j) (.cons (vf k) (.cons m .nil))))))
    ·rw [if_neg m] at h
     obtain rfl:=Option.some.inj h
     exact pend_sound TTok mix 29 (hs:=[.r (eB f),.r (eB d),.t false,.t false,.t false,.t false]) (by kernel_rfl) (by kernel_rfl) (by kernel_rfl) (.cons (GI n a _ g) (.cons (GI n b _ i) (.cons (vf e) (.cons (vf j) (.cons (vf k) (.cons (vf m) .nil))))))
/- ringhall/dir.Lay$1 -/
def ZT (n:Nat) (a b:Ga):Option (Int) :=
 (Zi n a.fName b.fName).bind fun (c:(Int)) =>
 some c
theorem UN (n:Nat) (a b:Ga) (r:Int) (h:ZT n a b=some r):Ret Tryz.prog 21 [Gb a,Gb b] ((eI .i64) r):=by
 refine ret_run (n:=10) (fn:=Tryz.f21) (c:=bodyOf Tryz.f21) (by kernel_rfl) (by kernel_rfl) (by kernel_rfl) (by kernel_rfl) ?_
 have hF:KC 10 (FinR Tryz.prog Tryz.f21 ((eI .i64) r)):=FinR.kc' (by kernel_rfl)
 unfold ZT at h
 obtain ⟨d,e,h⟩:=bind_some h
 obtain rfl:=Option.some.inj h
 exact pend_sound TTok mix 5 (hs:=[.c,.c,.r ((eI .i64) d)]) (by kernel_rfl) (by kernel_rfl) (by kernel_rfl) (.cons (Uf n a.fName b.fName _ e) .nil)
/- math/bits.Len64 -/
def Yj (n:Nat) (a:Int):Option (Int) :=
 if a≥4294967296 then
  if (shrI .u64 a 32)≥65536 then
   if (shrI .u64 (shrI .u64 a 32) 16)≥256 then
    (getS (ByteArray.mk #[0,1,2,2,3,3,3,3,4,4,4,4,4,4,4,4,5,5,5,5,5,5,5,5,5,5,5,5,5,5,5,5,6,6,6,6,6,6,6,6,6,6,6,6,6,6,6,6,6,6,6,6,6,6,6,6,6,6,6,6,6,6,6,6,7,7,7,7,7,7,7,7,7,7,7,7,7,7,7,7,7,7,7,7,7,7,7,7,7,7,7,7,7,7,7,7,7,7,7,7,7,7,7,7,7,7,7,7,7,7,7,7,7,7,7,7,7,7,7,7,7,7,7,7,7,7,7,7,8,8,8,8,8,8,8,8,8,8,8,8,8,8,8,8,8,8,8,8,8,8,8,8,8,8,8,8,8,8,8,8,8,8,8,8,8,8,8,8,8,8,8,8,8,8,8,8,8,8,8,8,8,8,8,8,8,8,8,8,8,8,8,8,8,8,8,8,8,8,8,8,8,8,8,8,8,8,8,8,8,8,8,8,8,8,8,8,8,8,8,8,8,8,8,8,8,8,8,8,8,8,8,8,8,8,8,8,8,8,8,8,8,8,8,8,8,8,8,8,8,8,8,8,8,8,8,8]) (wi .u8 (shrI .u64 (shrI .u64 (shrI .u64 a 32) 16) 8))).bind fun (b:Int) =>
    some (wi .i64 ((wi .i64 ((wi .i64 (32+16))+8))+(wi .i64 b)))
   else
    (getS (ByteArray.mk #[0,1,2,2,3,3,3,3,4,4,4,4,4,4,4,4,5,5,5,5,5,5,5,5,5,5,5,5,5,5,5,5,6,6,6,6,6,6,6,6,6,6,6,6,6,6,6,6,6,6,6,6,6,6,6,6,6,6,6,6,6,6,6,6,7,7,7,7,7,7,7,7,7,7,7,7,7,7,7,7,7,7,7,7,7,7,7,7,7,7,7,7,7,7,7,7,7,7,7,7,7,7,7,7,7,7,7,7,7,7,7,7,7,7,7,7,7,7,7,7,7,7,7,7,7,7,7,7,8,8,8,8,8,8,8,8,8,8,8,8,8,8,8,8,8,8,8,8,8,8,8,8,8,8,8,8,8,8,8,8,8,8,8,8,8,8,8,8,8,8,8,8,8,8,8,8,8,8,8,8,8,8,8,8,8,8,8,8,8,8,8,8,8,8,8,8,8,8,8,8,8,8,8,8,8,8,8,8,8,8,8,8,8,8,8,8,8,8,8,8,8,8,8,8,8,8,8,8,8,8,8,8,8,8,8,8,8,8,8,8,8,8,8,8,8,8,8,8,8,8,8,8,8,8,8,8]) (wi .u8 (shrI .u64 (shrI .u64 a 32) 16))).bind fun (c:Int) =>
    some (wi .i64 ((wi .i64 (32+16))+(wi .i64 c)))
  else
   if (shrI .u64 a 32)≥256 then
    (getS (ByteArray.mk #[0,1,2,2,3,3,3,3,4,4,4,4,4,4,4,4,5,5,5,5,5,5,5,5,5,5,5,5,5,5,5,5,6,6,6,6,6,6,6,6,6,6,6,6,6,6,6,6,6,6,6,6,6,6,6,6,6,6,6,6,6,6,6,6,7,7,7,7,7,7,7,7,7,7,7,7,7,7,7,7,7,7,7,7,7,7,7,7,7,7,7,7,7,7,7,7,7,7,7,7,7,7,7,7,7,7,7,7,7,7,7,7,7,7,7,7,7,7,7,7,7,7,7,7,7,7,7,7,8,8,8,8,8,8,8,8,8,8,8,8,8,8,8,8,8,8,8,8,8,8,8,8,8,8,8,8,8,8,8,8,8,8,8,8,8,8,8,8,8,8,8,8,8,8,8,8,8,8,8,8,8,8,8,8,8,8,8,8,8,8,8,8,8,8,8,8,8,8,8,8,8,8,8,8,8,8,8,8,8,8,8,8,8,8,8,8,8,8,8,8,8,8,8,8,8,8,8,8,8,8,8,8,8,8,8,8,8,8,8,8,8,8,8,8,8,8,8,8,8,8,8,8,8,8,8,8]) (wi .u8 (shrI .u64 (shrI .u64 a 32) 8))).bind fun (d:Int) =>
    some (wi .i64 ((wi .i64 (32+8))+(wi .i64 d)))
   else
    (getS (ByteArray.mk #[0,1,2,2,3,3,3,3,4,4,4,4,4,4,4,4,5,5,5,5,5,5,5,5,5,5,5,5,5,5,5,5,6,6,6,6,6,6,6,6,6,6,6,6,6,6,6,6,6,6,6,6,6,6,6,6,6,6,6,6,6,6,6,6,7,7,7,7,7,7,7,7,7,7,7,7,7,7,7,7,7,7,7,7,7,7,7,7,7,7,7,7,7,7,7,7,7,7,7,7,7,7,7,7,7,7,7,7,7,7,7,7,7,7,7,7,7,7,7,7,7,7,7,7,7,7,7,7,8,8,8,8,8,8,8,8,8,8,8,8,8,8,8,8,8,8,8,8,8,8,8,8,8,8,8,8,8,8,8,8,8,8,8,8,8,8,8,8,8,8,8,8,8,8,8,8,8,8,8,8,8,8,8,8,8,8,8,8,8,8,8,8,8,8,8,8,8,8,8,8,8,8,8,8,8,8,8,8,8,8,8,8,8,8,8,8,8,8,8,8,8,8,8,8,8,8,8,8,8,8,8,8,8,8,8,8,8,8,8,8,8,8,8,8,8,8,8,8,8,8,8,8,8,8,8,8]) (wi .u8 (shrI .u64 a 32))).bind fun (e:Int) =>
    some (wi .i64 (32+(wi .i64 e)))
 else
  if a≥65536 then
   if (shrI .u64 a 16)≥256 then
    (getS (ByteArray.mk #[0,1,2,2,3,3,3,3,4,4,4,4,4,4,4,4,5,5,5,5,5,5,5,5,5,5,5,5,5,5,5,5,6,6,6,6,6,6,6,6,6,6,6,6,6,6,6,6,6,6,6,6,6,6,6,6,6,6,6,6,6,6,6,6,7,7,7,7,7,7,7,7,7,7,7,7,7,7,7,7,7,7,7,7,7,7,7,7,7,7,7,7,7,7,7,7,7,7,7,7,7,7,7,7,7,7,7,7,7,7,7,7,7,7,7,7,7,7,7,7,7,7,7,7,7,7,7,7,8,8,8,8,8,8,8,8,8,8,8,8,8,8,8,8,8,8,8,8,8,8,8,8,8,8,8,8,8,8,8,8,8,8,8,8,8,8,8,8,8,8,8,8,8,8,8,8,8,8,8,8,8,8,8,8,8,8,8,8,8,8,8,8,8,8,8,8,8,8,8,8,8,8,8,8,8,8,8,8,8,8,8,8,8,8,8,8,8,8,8,8,8,8,8,8,8,8,8,8,8,8,8,8,8,8,8,8,8,8,8,8,8,8,8,8,8,8,8,8,8,8,8,8,8,8,8,8]) (wi .u8 (shrI .u64 (shrI .u64 a 16) 8))).bind fun (f:Int) =>
    some (wi .i64 ((wi .i64 ((wi .i64 (0+16))+8))+(wi .i64 f)))
   else
    (getS (ByteArray.mk #[0,1,2,2,3,3,3,3,4,4,4,4,4,4,4,4,5,5,5,5,5,5,5,5,5,5,5,5,5,5,5,5,6,6,6,6,6,6,6,6,6,6,6,6,6,6,6,6,6,6,6,6,6,6,6,6,6,6,6,6,6,6,6,6,7,7,7,7,7,7,7,7,7,7,7,7,7,7,7,7,7,7,7,7,7,7,7,7,7,7,7,7,7,7,7,7,7,7,7,7,7,7,7,7,7,7,7,7,7,7,7,7,7,7,7,7,7,7,7,7,7,7,7,7,7,7,7,7,8,8,8,8,8,8,8,8,8,8,8,8,8,8,8,8,8,8,8,8,8,8,8,8,8,8,8,8,8,8,8,8,8,8,8,8,8,8,8,8,8,8,8,8,8,8,8,8,8,8,8,8,8,8,8,8,8,8,8,8,8,8,8,8,8,8,8,8,8,8,8,8,8,8,8,8,8,8,8,8,8,8,8,8,8,8,8,8,8,8,8,8,8,8,8,8,8,8,8,8,8,8,8,8,8,8,8,8,8,8,8,8,8,8,8,8,8,8,8,8,8,8,8,8,8,8,8,8]) (wi .u8 (shrI .u64 a 16))).bind fun (g:Int) =>
    some (wi .i64 ((wi .i64 (0+16))+(wi .i64 g)))
  else
   if a≥256 then
    (getS (ByteArray.mk #[0,1,2,2,3,3,3,3,4,4,4,4,4,4,4,4,5,5,5,5,5,5,5,5,5,5,5,5,5,5,5,5,6,6,6,6,6,6,6,6,6,6,6,6,6,6,6,6,6,6,6,6,6,6,6,6,6,6,6,6,6,6,6,6,7,7,7,7,7,7,7,7,7,7,7,7,7,7,7,7,7,7,7,7,7,7,7,7,7,7,7,7,7,7,7,7,7,7,7,7,7,7,7,7,7,7,7,7,7,7,7,7,7,7,7,7,7,7,7,7,7,7,7,7,7,7,7,7,8,8,8,8,8,8,8,8,8,8,8,8,8,8,8,8,8,8,8,8,8,8,8,8,8,8,8,8,8,8,8,8,8,8,8,8,8,8,8,8,8,8,8,8,8,8,8,8,8,8,8,8,8,8,8,8,8,8,8,8,8,8,8,8,8,8,8,8,8,8,8,8,8,8,8,8,8,8,8,8,8,8,8,8,8,8,8,8,8,8,8,8,8,8,8,8,8,8,8,8,8,8,8,8,8,8,8,8,8,8,8,8,8,8,8,8,8,8,8,8,8,8,8,8,8,8,8,8]) (wi .u8 (shrI .u64 a 8))).bind fun (h:Int) =>
    some (wi .i64 ((wi .i64 (0+8))+(wi .i64 h)))
   else
    (getS (ByteArray.mk #[0,1,2,2,3,3,3,3,4,4,4,4,4,4,4,4,5,5,5,5,5,5,5,5,5,5,5,5,5,5,5,5,6,6,6,6,6,6,6,6,6,6,6,6,6,6,6,6,6,6,6,6,6,6,6,6,6,6,6,6,6,6,6,6,7,7,7,7,7,7,7,7,7,7,7,7,7,7,7,7,7,7,7,7,7,7,7,7,7,7,7,7,7,7,7,7,7,7,7,7,7,7,7,7,7,7,7,7,7,7,7,7,7,7,7,7,7,7,7,7,7,7,7,7,7,7,7,7,8,8,8,8,8,8,8,8,8,8,8,8,8,8,8,8,8,8,8,8,8,8,8,8,8,8,8,8,8,8,8,8,8,8,8,8,8,8,8,8,8,8,8,8,8,8,8,8,8,8,8,8,8,8,8,8,8,8,8,8,8,8,8,8,8,8,8,8,8,8,8,8,8,8,8,8,8,8,8,8,8,8,8,8,8,8,8,8,8,8,8,8,8,8,8,8,8,8,8,8,8,8,8,8,8,8,8,8,8,8,8,8,8,8,8,8,8,8,8,8,8,8,8,8,8,8,8,8]) (wi .u8 a)).bind fun (i:Int) =>
    some (wi .i64 (0+(wi .i64 i)))
theorem Uq (n:Nat) (b r:Int) (h:Yj n b=some r):Ret Tryz.prog 77 [(eI .u64) b] ((eI .i64) r):=by
 refine ret_run (n:=25) (fn:=Tryz.f77) (c:=bodyOf Tryz.f77) (by kernel_rfl) (by kernel_rfl) (by kernel_rfl) (by kernel_rfl) ?_
 have hF:KC 25 (FinR Tryz.prog Tryz.f77 ((eI .i64) r)):=FinR.kc' (by kernel_rfl)
 unfold Yj at h
 by_cases a:b≥4294967296
 ·rw [if_pos a] at h
  by_cases e:(shrI .u64 b 32)≥65536
  ·rw [if_pos e] at h
   by_cases g:(shrI .u64 (shrI .u64 b 32) 16)≥256
   ·rw [if_pos g] at h
    obtain ⟨m,o,h⟩:=bind_some h
    obtain rfl:=Option.some.inj h
    exact pend_sound TTok mix 26 (hs:=[.t true,.t true,.t true,.l (.d (.v (.int .u8 m)))]) (by kernel_rfl) (by kernel_rfl) (by kernel_rfl) (.cons (dt a) (.cons (show (0:Int)≤32 by decide) (.cons (dt e) (.cons (show (0:Int)≤16 by decide) (.cons (dt g) (.cons (show (0:Int)≤8 by decide) (.cons (getS_ob o) .nil)))))))
   ·rw [if_neg g] at h
    obtain ⟨p,q,h⟩:=bind_some h
    obtain rfl:=Option.some.inj h
    exact pend_sound TTok mix 24 (hs:=[.t true,.t true,.t false,.l (.d (.v (.int .u8 p)))]) (by kernel_rfl) (by kernel_rfl) (by kernel_rfl) (.cons (dt a) (.cons (show (0:Int)≤32 by decide) (.cons (dt e) (.cons (show (0:Int)≤16 by decide) (.cons (df g) (.cons (getS_ob q) .nil))))))
  ·rw [if_neg e] at h
   by_cases i:(shrI .u64 b 32)≥256
   ·rw [if_pos i] at h
    obtain ⟨s,u,h⟩:=bind_some h
    obtain rfl:=Option.some.inj h
    exact pend_sound TTok mix 24 (hs:=[.t true,.t false,.t true,.l (.d (.v (.int .u8 s)))]) (by kernel_rfl) (by kernel_rfl) (by kernel_rfl) (.cons (dt a) (.cons (show (0:Int)≤32 by decide) (.cons (df e) (.cons (dt i) (.cons (show (0:Int)≤8 by decide) (.cons (getS_ob u) .nil))))))
   ·rw [if_neg i] at h
    obtain ⟨w,x,h⟩:=bind_some h
    obtain rfl:=Option.some.inj h
    exact pend_sound TTok mix 22 (hs:=[.t true,.t false,.t false,.l (.d (.v (.int .u8 w)))]) (by kernel_rfl) (by kernel_rfl) (by kernel_rfl) (.cons (dt a) (.cons (show (0:Int)≤32 by decide) (.cons (df e) (.cons (df i) (.cons (getS_ob x) .nil)))))
 ·rw [if_neg a] at h
  by_cases f:b≥65536
  ·rw [if_pos f] at h
   by_cases j:(shrI .u64 b 16)≥256
   ·rw [if_pos j] at h
    obtain ⟨y,z,h⟩:=bind_some h
    obtain rfl:=Option.some.inj h
    exact pend_sound TTok mix 24 (hs:=[.t false,.t true,.t true,.l (.d (.v (.int .u8 y)))]) (by kernel_rfl) (by kernel_rfl) (by kernel_rfl) (.cons (df a) (.cons (dt f) (.cons (show (0:Int)≤16 by decide) (.cons (dt j) (.cons (show (0:Int)≤8 by decide) (.cons (getS_ob z) .nil))))))
   ·rw [if_neg j] at h
    obtain ⟨a0,a1,h⟩:=bind_some h
    obtain rfl:=Option.some.inj h
    exact pend_sound TTok mix 22 (hs:=[.t false,.t true,.t false,.l (.d (.v (.int .u8 a0)))]) (by kernel_rfl) (by kernel_rfl) (by kernel_rfl) (.cons (df a) (.cons (dt f) (.cons (show (0:Int)≤16 by decide) (.cons (df j) (.cons (getS_ob a1) .nil)))))
  ·rw [if_neg f] at h
   by_cases k:b≥256
   ·rw [if_pos k] at h
    obtain ⟨a2,a3,h⟩:=bind_some h
    obtain rfl:=Option.some.inj h
    exact pend_sound TTok mix 22 (hs:=[.t false,.t false,.t true,.l (.d (.v (.int .u8 a2)))]) (by kernel_rfl) (by kernel_rfl) (by kernel_rfl) (.cons (df a) (.cons (df f) (.cons (dt k) (.cons (show (0:Int)≤8 by decide) (.cons (getS_ob a3) .nil)))))
   ·rw [if_neg k] at h
    obtain ⟨a4,a5,h⟩:=bind_some h
    obtain rfl:=Option.some.inj h
    exact pend_sound TTok mix 20 (hs:=[.t false,.t false,.t false,.l (.d (.v (.int .u8 a4)))]) (by kernel_rfl) (by kernel_rfl) (by kernel_rfl) (.cons (df a) (.cons (df f) (.cons (df k) (.cons (getS_ob a5) .nil))))
/- math/bits.Len -/
def Zc (n:Nat) (a:Int):Option (Int) :=
 (Yj n a).bind fun (b:(Int)) =>
 some b
theorem XQ (n:Nat) (a r:Int) (h:Zc n a=some r):Ret Tryz.prog 44 [(eI .u64) a] ((eI .i64) r):=by
 refine ret_run (n:=8) (fn:=Tryz.f44) (c:=bodyOf Tryz.f44) (by kernel_rfl) (by kernel_rfl) (by kernel_rfl) (by kernel_rfl) ?_
 have hF:KC 8 (FinR Tryz.prog Tryz.f44 ((eI .i64) r)):=FinR.kc' (by kernel_rfl)
 unfold Zc at h
 obtain ⟨b,d,h⟩:=bind_some h
 obtain rfl:=Option.some.inj h
 exact pend_sound TTok mix 8 (hs:=[.c,.r ((eI .i64) b)]) (by kernel_rfl) (by kernel_rfl) (by kernel_rfl) (.cons (Uq n a _ d) .nil)
inductive Sa where
 | x0 (a:(List Ga))
def Zx:Sa→Ex
 | .x0 _=>.exit 2
def Zy (a b:Int) (h:(Ga→Ga→Option (Int))) (c:Int) (e:FuncId) (f:(List PV)):Sa→PS
 | .x0 g=>⟨(.srf 1::di a::di b::.d (.clo e f)::dd::dd::dd::dd::di c::(dds 44 [])),[.gh 0 (.srf 1),.row 25 2 (g.map Gb)]⟩
def Zz (a b:Int) (i:(Ga→Ga→Option (Int))) (c:Int) (e:FuncId) (f:(List PV)) (g:Int) (h:(List Ga)):PS:=⟨(.srf 1::di a::di b::.d (.clo e f)::dd::dd::dd::dd::di c::di g::(dds 43 [])),[.gh 0 (.srf 1),.row 25 2 (h.map Gb)]⟩
def Gn (n:Nat) (d f:Int) (e:(Ga→Ga→Option (Int))) (g:Int):Nat→Int→(List Ga)→Option Sa
 | 0,_,_=>none
 | k+1,a,b =>
  if a > d then
   if 0≤a∧(a).toNat<b.length then
    (b[(a).toNat]?).bind fun (h:Ga) =>
    if 0≤(wi .i64 (a-1))∧((wi .i64 (a-1))).toNat<b.length then
     (b[((wi .i64 (a-1))).toNat]?).bind fun (i:Ga) =>
     (e h i).bind fun (j:(Int)) =>
     if j<0 then
      if 0≤(wi .i64 (a-1))∧((wi .i64 (a-1))).toNat<b.length then
       (b[((wi .i64 (a-1))).toNat]?).bind fun (c:Ga) =>
       if 0≤a∧(a).toNat<b.length then
        (b[(a).toNat]?).bind fun (l:Ga) =>
        if 0≤a∧(a).toNat<b.length then
         (b[(a).toNat]?).bind fun (m:Ga) =>
         if 0≤(wi .i64 (a-1))∧((wi .i64 (a-1))).toNat<(b.set (a).toNat c).length then
          ((b.set (a).toNat c)[((wi .i64 (a-1))).toNat]?).bind fun (o:Ga) =>
          Gn n d f e g k (wi .i64 (a-1)) ((b.set (a).toNat c).set ((wi .i64 (a-1))).toNat l)
         else none
        else none
       else none
      else none
     else
      some (.x0 b)
    else none
   else none
  else
   some (.x0 b)
theorem Kf {Fi:Ex→PS→Prop} (hF:KC 53 Fi) (ks:List Fr) (n:Nat) (g m:Int) (i:(Ga→Ga→Option (Int))) (u:Int) (x:FuncId) (a0:(List PV)) (a6:∀ (x0:Ga) (x1:Ga) (r:Int),i x0 x1=some r→Ret Tryz.prog x ([Gb x0,Gb x1]++a0) ((eI .i64) r)):∀ (k:Nat) (a:Int) (b:(List Ga)) (o:Sa),Gn n g m i u k a b=some o→RunE Tryz.prog 53 Fi ks (Zx o) (Zy g m i u x a0 o)→RunE Tryz.prog 53 Fi (.l k (cP (cB (cR (cB (cL (cR (cP (cB (cR (bodyOf Tryz.f68))))))))))::ks) .normal (Zz g m i u x a0 a b)
 | 0,a,b,o,h,q=>by rw [Gn] at h; cases h
 | k+1,a,b,o,h,q=>by
  rw [Gn] at h
  by_cases j:a > g
  ·rw [if_pos j] at h
   by_cases a1:0≤a∧(a).toNat<b.length
   ·rw [if_pos a1] at h
    obtain ⟨a2,b2,h⟩:=bind_some h
    by_cases a3:0≤(wi .i64 (a-1))∧((wi .i64 (a-1))).toNat<b.length
    ·rw [if_pos a3] at h
     obtain ⟨a4,b3,h⟩:=bind_some h
     obtain ⟨a7,b4,h⟩:=bind_some h
     by_cases a5:a7<0
     ·rw [if_pos a5] at h
      by_cases a8:0≤(wi .i64 (a-1))∧((wi .i64 (a-1))).toNat<b.length
      ·rw [if_pos a8] at h
       obtain ⟨d,b5,h⟩:=bind_some h
       by_cases a9:0≤a∧(a).toNat<b.length
       ·rw [if_pos a9] at h
        obtain ⟨e,b6,h⟩:=bind_some h
        by_cases b0:0≤a∧(a).toNat<b.length
        ·rw [if_pos b0] at h
         obtain ⟨b7,b8,h⟩:=bind_some h
         by_cases b1:0≤(wi .i64 (a-1))∧((wi .i64 (a-1))).toNat<(b.set (a).toNat d).length
         ·rw [if_pos b1] at h
          obtain ⟨b9,c0,h⟩:=bind_some h
          exact pkk_sound TTok mix hF 11 (hs:=[.t true,.c,.c,.c,.c,.y (Gb a2),.c,.c,.c,.c,.c,.y (Gb a4),.c,.r ((eI .i64) a7),.c,.t true,.y (Gb d),.y (Gb e),.w ((b.set (a).toNat d).map Gb),.y (Gb b7),.w (((b.set (a).toNat d).set ((wi .i64 (a-1))).toNat e).map Gb),.y (Gb b9)]) (ts:=[]) (s:=[0,1]) (l:=[0,1,2,3,8,9]) (by kernel_rfl) (by kernel_rfl) (.cons (dt j) (.cons (idx_ob (f:=Gb) a1) (.cons (get_ob (f:=Gb) b2) (.cons (idx_ob (f:=Gb) a3) (.cons (get_ob (f:=Gb) b3) (.cons (a6 a2 a4 _ b4) (.cons (dt a5) (.cons (idx_ob (f:=Gb) a8) (.cons (get_ob (f:=Gb) b5) (.cons (idx_ob (f:=Gb) a9) (.cons (get_ob (f:=Gb) b6) (.cons (idx_ob (f:=Gb) b0) (.cons (get_ob (f:=Gb) b8) (.cons (Eq.refl (pcells (.agg [.v (.string d.fName),.v (.int .i64 d.fIno)]))) (.cons (set_ob (f:=Gb) (l:=b) (k:=(a).toNat) (z:=d) (p:=.agg [.v (.string d.fName),.v (.int .i64 d.fIno)]) rfl) (.cons (idx_ob (f:=Gb) b1) (.cons (get_ob (f:=Gb) c0) (.cons (Eq.refl (pcells (.agg [.v (.string e.fName),.v (.int .i64 e.fIno)]))) (.cons (set_ob (f:=Gb) (l:=(b.set (a).toNat d)) (k:=((wi .i64 (a-1))).toNat) (z:=e) (p:=.agg [.v (.string e.fName),.v (.int .i64 e.fIno)]) rfl) .nil))))))))))))))))))) (Kf hF ks n g m i u x a0 a6 k (wi .i64 (a-1)) ((b.set (a).toNat d).set ((wi .i64 (a-1))).toNat e) _ h q)
         ·rw [if_neg b1] at h; cases h
        ·rw [if_neg b0] at h; cases h
       ·rw [if_neg a9] at h; cases h
      ·rw [if_neg a8] at h; cases h
     ·rw [if_neg a5] at h
      cases h
      exact pkk_sound TTok mix hF 8 (hs:=[.t true,.c,.c,.c,.c,.y (Gb a2),.c,.c,.c,.c,.c,.y (Gb a4),.c,.r ((eI .i64) a7),.c,.t false]) (ts:=[]) (s:=[0,1]) (l:=[0,1,2,3,8]) (by kernel_rfl) (by kernel_rfl) (.cons (dt j) (.cons (idx_ob (f:=Gb) a1) (.cons (get_ob (f:=Gb) b2) (.cons (idx_ob (f:=Gb) a3) (.cons (get_ob (f:=Gb) b3) (.cons (a6 a2 a4 _ b4) (.cons (df a5) .nil))))))) q
    ·rw [if_neg a3] at h; cases h
   ·rw [if_neg a1] at h; cases h
  ·rw [if_neg j] at h
   cases h
   exact pkk_sound TTok mix hF 8 (hs:=[.t false,.c,.c,.c,.c,.c,.c,.c,.c,.c,.c,.c,.c]) (ts:=[]) (s:=[0,1]) (l:=[0,1,2,3,8]) (by kernel_rfl) (by kernel_rfl) (.cons (df j) .nil) q
inductive Sb where
 | x0 (a:(List Ga))
def ZA:Sb→Ex
 | .x0 _=>.exit 0
def ZB (b c:Int) (d:(Ga→Ga→Option (Int))) (e:FuncId) (f:(List PV)):Sb→PS
 | .x0 a=>⟨(dds 53 []),[.gh 0 (.srf 1),.row 25 2 (a.map Gb)]⟩
def ZC (a b:Int) (h:(Ga→Ga→Option (Int))) (c:FuncId) (e:(List PV)) (f:Int) (g:(List Ga)):PS:=⟨(.srf 1::di a::di b::.d (.clo c e)::dd::dd::dd::dd::di f::(dds 44 [])),[.gh 0 (.srf 1),.row 25 2 (g.map Gb)]⟩
def Gp (n:Nat) (c b:Int) (d:(Ga→Ga→Option (Int))):Nat→Int→(List Ga)→Option Sb
 | 0,_,_=>none
 | k+1,a,e =>
  if a<b then
   (Gn n c b d a n a e).bind fun f=>match f with
   | .x0 g =>
    Gp n c b d k (wi .i64 (a+1)) g
  else
   some (.x0 e)
theorem Kg {Fi:Ex→PS→Prop} (hF:KC 53 Fi) (ks:List Fr) (n:Nat) (e c:Int) (d:(Ga→Ga→Option (Int))) (f:FuncId) (g:(List PV)) (m:∀ (x0:Ga) (x1:Ga) (r:Int),d x0 x1=some r→Ret Tryz.prog f ([Gb x0,Gb x1]++g) ((eI .i64) r)):∀ (k:Nat) (a:Int) (i:(List Ga)) (o:Sb),Gp n e c d k a i=some o→RunE Tryz.prog 53 Fi ks (ZA o) (ZB e c d f g o)→RunE Tryz.prog 53 Fi (.l k (cP (cB (cR (bodyOf Tryz.f68))))::ks) .normal (ZC e c d f g a i)
 | 0,a,i,o,h,q=>by rw [Gp] at h; cases h
 | k+1,a,i,o,h,q=>by
  rw [Gp] at h
  by_cases j:a<c
  ·rw [if_pos j] at h
   obtain ⟨p,u,h⟩:=bind_some h
   refine pkk_sound TTok mix hF 12 (hs:=[.t true,.n n]) (ts:=[]) (s:=[0,1]) (l:=[0,1,2,3,8,9]) (by kernel_rfl) (by kernel_rfl) (.cons (dt j) .nil) (Kf hF (.b 2::.b 1::.s (cR (cR (cP (cB (cR (bodyOf Tryz.f68))))))::.l k (cP (cB (cR (bodyOf Tryz.f68))))::ks) n e c d a f g m n a i _ u ?_)
   cases p with
   | x0 v =>
    try dsimp only at h
    exact pkk_sound TTok mix hF 3 (hs:=[]) (ts:=[]) (s:=[0,1]) (l:=[0,1,2,3,8]) (by kernel_rfl) (by kernel_rfl) .nil (Kg hF ks n e c d f g m k (wi .i64 (a+1)) v _ h q)
  ·rw [if_neg j] at h
   cases h
   exact pkk_sound TTok mix hF 8 (hs:=[.t false]) (ts:=[]) (s:=[0,1]) (l:=[]) (by kernel_rfl) (by kernel_rfl) (.cons (df j) .nil) q
/- slices.insertionSortCmpFunc[ringhall/api.Entry] -/
def GU (n:Nat) (b:(List Ga)) (a c:Int) (d:(Ga→Ga→Option (Int))):Option ((List Ga)) :=
 (Gp n a c d n (wi .i64 (a+1)) b).bind fun e=>match e with
 | .x0 f =>
  some f
theorem ZU (n:Nat) (a:(List Ga)) (e f:Int) (g:(Ga→Ga→Option (Int))) (i:FuncId) (j:List PV) (k:∀ (x0:Ga) (x1:Ga) (r:Int),g x0 x1=some r→Ret Tryz.prog i ([Gb x0,Gb x1]++j) ((eI .i64) r)) (r:(List Ga)) (h:GU n a e f g=some r):RetH Tryz.prog 68 [.srf 0,.d ((eI .i64) e),.d ((eI .i64) f),.d ((.clo i j))] [.row 25 2 (a.map Gb)] (.tup []) [.row 25 2 (r.map Gb)]:=by
 refine retH_run (n:=53) (fn:=Tryz.f68) (c:=bodyOf Tryz.f68) (by kernel_rfl) (by kernel_rfl) (by kernel_rfl) (by kernel_rfl) ?_
 have hF:KC 53 (FinH Tryz.prog Tryz.f68 [.row 25 2 (a.map Gb)] (.tup []) [.row 25 2 (r.map Gb)]):=FinH.kc' (by kernel_rfl)
 unfold GU at h
 obtain ⟨m,o,h⟩:=bind_some h
 refine pkk_sound TTok mix hF 4 (hs:=[.n n]) (ts:=[]) (s:=[1,0]) (l:=[0,1,2,3,8]) (by kernel_rfl) (by kernel_rfl) .nil (Kg hF (.b 0::[]) n e f g i j k n (wi .i64 (e+1)) a _ o ?_)
 cases m with
 | x0 p =>
  try dsimp only at h
  obtain rfl:=Option.some.inj h
  exact pendH_sound TTok mix 1 (hs:=[]) [1] (by kernel_rfl) (by kernel_rfl) (by kernel_rfl) .nil
inductive GV where
 | x0 (a:Bool) (b:(List Ga))
def Yl:GV→Ex
 | .x0 _ _=>.normal
def Ym (b c:Int) (i:(Ga→Ga→Option (Int))) (a:Int) (j:(List Ga)) (e:FuncId) (f:(List PV)):GV→PS
 | .x0 g h=>⟨(.srf 1::dd::di b::di c::.d (.clo e f)::dd::dd::dd::dd::dd::di a::di (wi .i64 ((wi .i64 (2*a))+1))::(dds 28 (.d (.v (.bool g))::(dds 41 [])))),[.gh 0 (.srf 1),.row 25 2 (h.map Gb)]⟩
def Yn (b c:Int) (h:(Ga→Ga→Option (Int))) (a:Int) (e:(List Ga)) (f:FuncId) (g:(List PV))  : PS:=⟨(.srf 1::dd::di b::di c::.d (.clo f g)::dd::dd::dd::dd::dd::di a::di (wi .i64 ((wi .i64 (2*a))+1))::(dds 70 [])),[.gh 0 (.srf 1),.row 25 2 (e.map Gb)]⟩
def G7 (n:Nat) (d b:Int) (e:(Ga→Ga→Option (Int))) (a:Int) (c:(List Ga)):Option GV :=
 if (wi .i64 ((wi .i64 ((wi .i64 (2*a))+1))+1))<d then
  if 0≤(wi .i64 (b+(wi .i64 ((wi .i64 (2*a))+1))))∧((wi .i64 (b+(wi .i64 ((wi .i64 (2*a))+1))))).toNat<c.length then
   (c[((wi .i64 (b+(wi .i64 ((wi .i64 (2*a))+1))))).toNat]?).bind fun (f:Ga) =>
   if 0≤(wi .i64 ((wi .i64 (b+(wi .i64 ((wi .i64 (2*a))+1))))+1))∧((wi .i64 ((wi .i64 (b+(wi .i64 ((wi .i64 (2*a))+1))))+1))).toNat<c.length then
    (c[((wi .i64 ((wi .i64 (b+(wi .i64 ((wi .i64 (2*a))+1))))+1))).toNat]?).bind fun (g:Ga) =>
    (e f g).bind fun (h:(Int)) =>
    some (.x0 (decide (h<0)) c)
   else none
  else none
 else
  some (.x0 false c)
theorem Yo {Fi:Ex→PS→Prop} (hF:KC 82 Fi) (ks:List Fr) (n:Nat) (e b:Int) (g:(Ga→Ga→Option (Int))) (a:Int) (d:(List Ga)) (j:FuncId) (k:(List PV)) (w:∀ (x0:Ga) (x1:Ga) (r:Int),g x0 x1=some r→Ret Tryz.prog j ([Gb x0,Gb x1]++k) ((eI .i64) r)) (o:GV) (h:G7 n e b g a d=some o) (q:RunE Tryz.prog 82 Fi ks (Yl o) (Ym e b g a d j k o)):RunE Tryz.prog 82 Fi (.s (cL (cL (cR (cR (cB (cP (cB (cR (bodyOf Tryz.f106)))))))))::ks) .normal (Yn e b g a d j k):=by
 unfold G7 at h
 by_cases i:(wi .i64 ((wi .i64 ((wi .i64 (2*a))+1))+1))<e
 ·rw [if_pos i] at h
  by_cases m:0≤(wi .i64 (b+(wi .i64 ((wi .i64 (2*a))+1))))∧((wi .i64 (b+(wi .i64 ((wi .i64 (2*a))+1))))).toNat<d.length
  ·rw [if_pos m] at h
   obtain ⟨u,x,h⟩:=bind_some h
   by_cases p:0≤(wi .i64 ((wi .i64 (b+(wi .i64 ((wi .i64 (2*a))+1))))+1))∧((wi .i64 ((wi .i64 (b+(wi .i64 ((wi .i64 (2*a))+1))))+1))).toNat<d.length
   ·rw [if_pos p] at h
    obtain ⟨v,z,h⟩:=bind_some h
    obtain ⟨a0,a1,h⟩:=bind_some h
    cases h
    exact pkk_sound TTok mix hF 1 (hs:=[.t true,.c,.c,.c,.c,.c,.c,.y (Gb u),.c,.c,.c,.c,.c,.c,.c,.y (Gb v),.c,.r ((eI .i64) a0),.c]) (ts:=[]) (s:=[0,1]) (l:=[0,2,3,4,10,11,40]) (by kernel_rfl) (by kernel_rfl) (.cons (dt i) (.cons (idx_ob (f:=Gb) m) (.cons (get_ob (f:=Gb) x) (.cons (idx_ob (f:=Gb) p) (.cons (get_ob (f:=Gb) z) (.cons (w u v _ a1) .nil)))))) q
   ·rw [if_neg p] at h; cases h
  ·rw [if_neg m] at h; cases h
 ·rw [if_neg i] at h
  cases h
  exact pkk_sound TTok mix hF 1 (hs:=[.t false,.c,.c,.c,.c,.c,.c,.c,.c,.c,.c,.c,.c,.c,.c,.c]) (ts:=[]) (s:=[0,1]) (l:=[0,2,3,4,10,11,40]) (by kernel_rfl) (by kernel_rfl) (.cons (df i) .nil) q
inductive St where
 | x0 (a:Int) (b:(List Ga))
def Yp:St→Ex
 | .x0 _ _=>.normal
def Yq (a b:Int) (i:(Ga→Ga→Option (Int))) (c:Int) (j:Bool) (k:(List Ga)) (e:FuncId) (f:(List PV)):St→PS
 | .x0 g h=>⟨(.srf 1::dd::di a::di b::.d (.clo e f)::dd::dd::dd::dd::dd::di c::di g::(dds 70 [])),[.gh 0 (.srf 1),.row 25 2 (h.map Gb)]⟩
def Yr (b c:Int) (i:(Ga→Ga→Option (Int))) (a:Int) (e:Bool) (f:(List Ga)) (g:FuncId) (h:(List PV))  : PS:=⟨(.srf 1::dd::di b::di c::.d (.clo g h)::dd::dd::dd::dd::dd::di a::di (wi .i64 ((wi .i64 (2*a))+1))::(dds 28 (.d (.v (.bool e))::(dds 41 [])))),[.gh 0 (.srf 1),.row 25 2 (f.map Gb)]⟩
def GJ (n:Nat) (d e:Int) (f:(Ga→Ga→Option (Int))) (a:Int) (c:Bool) (b:(List Ga)):Option St :=
 if c=true then
  some (.x0 (wi .i64 ((wi .i64 ((wi .i64 (2*a))+1))+1)) b)
 else
  some (.x0 (wi .i64 ((wi .i64 (2*a))+1)) b)
theorem Ys {Fi:Ex→PS→Prop} (hF:KC 82 Fi) (ks:List Fr) (n:Nat) (d e:Int) (a:(Ga→Ga→Option (Int))) (f:Int) (b:Bool) (g:(List Ga)) (i:FuncId) (j:(List PV)) (k:∀ (x0:Ga) (x1:Ga) (r:Int),a x0 x1=some r→Ret Tryz.prog i ([Gb x0,Gb x1]++j) ((eI .i64) r)) (o:St) (h:GJ n d e a f b g=some o) (q:RunE Tryz.prog 82 Fi ks (Yp o) (Yq d e a f b g i j o)):RunE Tryz.prog 82 Fi (.s (cR (cL (cR (cR (cB (cP (cB (cR (bodyOf Tryz.f106)))))))))::ks) .normal (Yr d e a f b g i j):=by
 unfold GJ at h
 by_cases c:b=true
 ·rw [if_pos c] at h
  cases h
  exact pkk_sound TTok mix hF 2 (hs:=[.t true]) (ts:=[]) (s:=[0,1]) (l:=[0,2,3,4,10,11]) (by kernel_rfl) (by kernel_rfl) (.cons c .nil) q
 ·rw [if_neg c] at h
  cases h
  exact pkk_sound TTok mix hF 2 (hs:=[.t false]) (ts:=[]) (s:=[0,1]) (l:=[0,2,3,4,10,11]) (by kernel_rfl) (by kernel_rfl) (.cons (vf c) .nil) q
inductive Su where
 | x0 (a:(List Ga))
 | x1 (b:(List Ga))
def Yt:Su→Ex
 | .x0 _=>.exit 0
 | .x1 _=>.ret
def Yu (c d:Int) (e:(Ga→Ga→Option (Int))) (f:FuncId) (g:(List PV)):Su→PS
 | .x0 a=>⟨(dds 82 []),[.gh 0 (.srf 1),.row 25 2 (a.map Gb)]⟩
 | .x1 b=>⟨(dds 82 []),[.gh 0 (.srf 1),.row 25 2 (b.map Gb)]⟩
def Yv (a b:Int) (h:(Ga→Ga→Option (Int))) (c:FuncId) (e:(List PV)) (f:Int) (g:(List Ga)):PS:=⟨(.srf 1::dd::di a::di b::.d (.clo c e)::dd::dd::dd::dd::dd::di f::(dds 71 [])),[.gh 0 (.srf 1),.row 25 2 (g.map Gb)]⟩
def GC (n:Nat) (e a:Int) (f:(Ga→Ga→Option (Int))):Nat→Int→(List Ga)→Option Su
 | 0,_,_=>none
 | k+1,b,h =>
  if (wi .i64 ((wi .i64 (2*b))+1))≥e then
   some (.x0 h)
  else
   (G7 n e a f b h).bind fun i=>match i with
   | .x0 j l =>
    (GJ n e a f b j l).bind fun m=>match m with
    | .x0 d c =>
     if 0≤(wi .i64 (a+b))∧((wi .i64 (a+b))).toNat<c.length then
      (c[((wi .i64 (a+b))).toNat]?).bind fun (o:Ga) =>
      if 0≤(wi .i64 (a+d))∧((wi .i64 (a+d))).toNat<c.length then
       (c[((wi .i64 (a+d))).toNat]?).bind fun (p:Ga) =>
       (f o p).bind fun (q:(Int)) =>
       if q<0 then
        if 0≤(wi .i64 (a+d))∧((wi .i64 (a+d))).toNat<c.length then
         (c[((wi .i64 (a+d))).toNat]?).bind fun (g:Ga) =>
         if 0≤(wi .i64 (a+b))∧((wi .i64 (a+b))).toNat<c.length then
          (c[((wi .i64 (a+b))).toNat]?).bind fun (r:Ga) =>
          if 0≤(wi .i64 (a+b))∧((wi .i64 (a+b))).toNat<c.length then
           (c[((wi .i64 (a+b))).toNat]?).bind fun (s:Ga) =>
           if 0≤(wi .i64 (a+d))∧((wi .i64 (a+d))).toNat<(c.set ((wi .i64 (a+b))).toNat g).length then
            ((c.set ((wi .i64 (a+b))).toNat g)[((wi .i64 (a+d))).toNat]?).bind fun (t:Ga) =>
            GC n e a f k d ((c.set ((wi .i64 (a+b))).toNat g).set ((wi .i64 (a+d))).toNat r)
           else none
          else none
         else none
        else none
       else
        some (.x1 c)
      else none
     else none
theorem Kx {Fi:Ex→PS→Prop} (hF:KC 82 Fi) (ks:List Fr) (n:Nat) (j a:Int) (m:(Ga→Ga→Option (Int))) (u:FuncId) (x:(List PV)) (a0:∀ (x0:Ga) (x1:Ga) (r:Int),m x0 x1=some r→Ret Tryz.prog u ([Gb x0,Gb x1]++x) ((eI .i64) r)):∀ (k:Nat) (c:Int) (a1:(List Ga)) (o:Su),GC n j a m k c a1=some o→RunE Tryz.prog 82 Fi ks (Yt o) (Yu j a m u x o)→RunE Tryz.prog 82 Fi (.l k (cP (cB (cR (bodyOf Tryz.f106))))::ks) .normal (Yv j a m u x c a1)
 | 0,c,a1,o,h,q=>by rw [GC] at h; cases h
 | k+1,c,a1,o,h,q=>by
  rw [GC] at h
  by_cases a2:(wi .i64 ((wi .i64 (2*c))+1))≥j
  ·rw [if_pos a2] at h
   cases h
   exact pkk_sound TTok mix hF 12 (hs:=[.t true]) (ts:=[]) (s:=[0,1]) (l:=[]) (by kernel_rfl) (by kernel_rfl) (.cons (dt a2) .nil) q
  ·rw [if_neg a2] at h
   obtain ⟨b6,b7,h⟩:=bind_some h
   refine pkk_sound TTok mix hF 11 (hs:=[.t false]) (ts:=[]) (s:=[0,1]) (l:=[0,2,3,4,10,11]) (by kernel_rfl) (by kernel_rfl) (.cons (df a2) .nil) (Yo hF (.s (cR (cL (cR (cR (cB (cP (cB (cR (bodyOf Tryz.f106)))))))))::.s (cR (cR (cR (cB (cP (cB (cR (bodyOf Tryz.f106))))))))::.b 1::.l k (cP (cB (cR (bodyOf Tryz.f106))))::ks) n j a m c a1 u x a0 _ b7 ?_)
   cases b6 with
   | x0 b8 b9 =>
    try dsimp only at h
    obtain ⟨c0,c1,h⟩:=bind_some h
    refine pkk_sound TTok mix hF 0 (hs:=[]) (ts:=[]) (s:=[0,1]) (l:=[0,2,3,4,10,11,40]) (by kernel_rfl) (by kernel_rfl) .nil (Ys hF (.s (cR (cR (cR (cB (cP (cB (cR (bodyOf Tryz.f106))))))))::.b 1::.l k (cP (cB (cR (bodyOf Tryz.f106))))::ks) n j a m c b8 b9 u x a0 _ c1 ?_)
    cases c0 with
    | x0 g d =>
     try dsimp only at h
     by_cases a3:0≤(wi .i64 (a+c))∧((wi .i64 (a+c))).toNat<d.length
     ·rw [if_pos a3] at h
      obtain ⟨a4,b3,h⟩:=bind_some h
      by_cases a5:0≤(wi .i64 (a+g))∧((wi .i64 (a+g))).toNat<d.length
      ·rw [if_pos a5] at h
       obtain ⟨a6,b4,h⟩:=bind_some h
       obtain ⟨a8,b5,h⟩:=bind_some h
       by_cases a7:a8<0
       ·rw [if_pos a7] at h
        by_cases a9:0≤(wi .i64 (a+g))∧((wi .i64 (a+g))).toNat<d.length
        ·rw [if_pos a9] at h
         obtain ⟨e,c2,h⟩:=bind_some h
         by_cases b0:0≤(wi .i64 (a+c))∧((wi .i64 (a+c))).toNat<d.length
         ·rw [if_pos b0] at h
          obtain ⟨i,c3,h⟩:=bind_some h
          by_cases b1:0≤(wi .i64 (a+c))∧((wi .i64 (a+c))).toNat<d.length
          ·rw [if_pos b1] at h
           obtain ⟨c4,c5,h⟩:=bind_some h
           by_cases b2:0≤(wi .i64 (a+g))∧((wi .i64 (a+g))).toNat<(d.set ((wi .i64 (a+c))).toNat e).length
           ·rw [if_pos b2] at h
            obtain ⟨c6,c7,h⟩:=bind_some h
            exact pkk_sound TTok mix hF 9 (hs:=[.y (Gb a4),.y (Gb a6),.r ((eI .i64) a8),.t false,.y (Gb e),.y (Gb i),.w ((d.set ((wi .i64 (a+c))).toNat e).map Gb),.y (Gb c4),.w (((d.set ((wi .i64 (a+c))).toNat e).set ((wi .i64 (a+g))).toNat i).map Gb),.y (Gb c6)]) (ts:=[]) (s:=[0,1]) (l:=[0,2,3,4,10]) (by kernel_rfl) (by kernel_rfl) (.cons (idx_ob (f:=Gb) a3) (.cons (get_ob (f:=Gb) b3) (.cons (idx_ob (f:=Gb) a5) (.cons (get_ob (f:=Gb) b4) (.cons (a0 a4 a6 _ b5) (.cons (bnf (dt a7)) (.cons (idx_ob (f:=Gb) a9) (.cons (get_ob (f:=Gb) c2) (.cons (idx_ob (f:=Gb) b0) (.cons (get_ob (f:=Gb) c3) (.cons (idx_ob (f:=Gb) b1) (.cons (get_ob (f:=Gb) c5) (.cons (Eq.refl (pcells (.agg [.v (.string e.fName),.v (.int .i64 e.fIno)]))) (.cons (set_ob (f:=Gb) (l:=d) (k:=((wi .i64 (a+c))).toNat) (z:=e) (p:=.agg [.v (.string e.fName),.v (.int .i64 e.fIno)]) rfl) (.cons (idx_ob (f:=Gb) b2) (.cons (get_ob (f:=Gb) c7) (.cons (Eq.refl (pcells (.agg [.v (.string i.fName),.v (.int .i64 i.fIno)]))) (.cons (set_ob (f:=Gb) (l:=(d.set ((wi .i64 (a+c))).toNat e)) (k:=((wi .i64 (a+g))).toNat) (z:=i) (p:=.agg [.v (.string i.fName),.v (.int .i64 i.fIno)]) rfl) .nil)))))))))))))))))) (Kx hF ks n j a m u x a0 k g ((d.set ((wi .i64 (a+c))).toNat e).set ((wi .i64 (a+g))).toNat i) _ h q)
           ·rw [if_neg b2] at h; cases h
          ·rw [if_neg b1] at h; cases h
         ·rw [if_neg b0] at h; cases h
        ·rw [if_neg a9] at h; cases h
       ·rw [if_neg a7] at h
        cases h
        exact pkk_sound TTok mix hF 8 (hs:=[.y (Gb a4),.y (Gb a6),.r ((eI .i64) a8),.t true]) (ts:=[]) (s:=[0,1]) (l:=[]) (by kernel_rfl) (by kernel_rfl) (.cons (idx_ob (f:=Gb) a3) (.cons (get_ob (f:=Gb) b3) (.cons (idx_ob (f:=Gb) a5) (.cons (get_ob (f:=Gb) b4) (.cons (a0 a4 a6 _ b5) (.cons (bnt (df a7)) .nil)))))) q
      ·rw [if_neg a5] at h; cases h
     ·rw [if_neg a3] at h; cases h
/- slices.siftDownCmpFunc[ringhall/api.Entry] -/
def GS (n:Nat) (a:(List Ga)) (b c d:Int) (e:(Ga→Ga→Option (Int))):Option ((List Ga)) :=
 (GC n c d e n b a).bind fun f=>match f with
 | .x0 g =>
  some g
 | .x1 h =>
  some h
theorem KH (n:Nat) (a:(List Ga)) (e f g:Int) (i:(Ga→Ga→Option (Int))) (j:FuncId) (k:List PV) (m:∀ (x0:Ga) (x1:Ga) (r:Int),i x0 x1=some r→Ret Tryz.prog j ([Gb x0,Gb x1]++k) ((eI .i64) r)) (r:(List Ga)) (h:GS n a e f g i=some r):RetH Tryz.prog 106 [.srf 0,.d ((eI .i64) e),.d ((eI .i64) f),.d ((eI .i64) g),.d ((.clo j k))] [.row 25 2 (a.map Gb)] (.tup []) [.row 25 2 (r.map Gb)]:=by
 refine retH_run (n:=82) (fn:=Tryz.f106) (c:=bodyOf Tryz.f106) (by kernel_rfl) (by kernel_rfl) (by kernel_rfl) (by kernel_rfl) ?_
 have hF:KC 82 (FinH Tryz.prog Tryz.f106 [.row 25 2 (a.map Gb)] (.tup []) [.row 25 2 (r.map Gb)]):=FinH.kc' (by kernel_rfl)
 unfold GS at h
 obtain ⟨o,p,h⟩:=bind_some h
 refine pkk_sound TTok mix hF 4 (hs:=[.n n]) (ts:=[]) (s:=[1,0]) (l:=[0,2,3,4,10]) (by kernel_rfl) (by kernel_rfl) .nil (Kx hF (.b 0::[]) n f g i j k m n e a _ p ?_)
 cases o with
 | x0 q =>
  try dsimp only at h
  obtain rfl:=Option.some.inj h
  exact pendH_sound TTok mix 1 (hs:=[]) [1] (by kernel_rfl) (by kernel_rfl) (by kernel_rfl) .nil
 | x1 t =>
  try dsimp only at h
  obtain rfl:=Option.some.inj h
  exact pendH_sound TTok mix 1 (hs:=[]) [1] (by kernel_rfl) (by kernel_rfl) (by kernel_rfl) .nil
inductive Sv where
 | x0 (a:(List Ga))
def Yw:Sv→Ex
 | .x0 _=>.exit 0
def Yx (g:(Ga→Ga→Option (Int))) (a b:Int) (c:FuncId) (e:(List PV)):Sv→PS
 | .x0 f=>⟨(.srf 1::dd::dd::.d (.clo c e)::dd::dd::dd::dd::di a::di 0::di (wi .i64 (b-a))::(dds 49 [])),[.gh 0 (.srf 1),.row 25 2 (f.map Gb)]⟩
def Yy (h:(Ga→Ga→Option (Int))) (a b:Int) (c:FuncId) (e:(List PV)) (f:Int) (g:(List Ga)):PS:=⟨(.srf 1::dd::dd::.d (.clo c e)::dd::dd::dd::dd::di a::di 0::di (wi .i64 (b-a))::di f::(dds 48 [])),[.gh 0 (.srf 1),.row 25 2 (g.map Gb)]⟩
def GD (n:Nat) (c:(Ga→Ga→Option (Int))) (a d:Int):Nat→Int→(List Ga)→Option Sv
 | 0,_,_=>none
 | k+1,b,e =>
  if b≥0 then
   (GS n e b (wi .i64 (d-a)) a c).bind fun (f:((List Ga))) =>
   GD n c a d k (wi .i64 (b-1)) f
  else
   some (.x0 e)
theorem Ky {Fi:Ex→PS→Prop} (hF:KC 60 Fi) (ks:List Fr) (n:Nat) (b:(Ga→Ga→Option (Int))) (c d:Int) (e:FuncId) (f:(List PV)) (j:∀ (x0:Ga) (x1:Ga) (r:Int),b x0 x1=some r→Ret Tryz.prog e ([Gb x0,Gb x1]++f) ((eI .i64) r)):∀ (k:Nat) (a:Int) (g:(List Ga)) (o:Sv),GD n b c d k a g=some o→RunE Tryz.prog 60 Fi ks (Yw o) (Yx b c d e f o)→RunE Tryz.prog 60 Fi (.l k (cP (cB (cR (cL (cR (cR (cR (bodyOf Tryz.f69))))))))::ks) .normal (Yy b c d e f a g)
 | 0,a,g,o,h,q=>by rw [GD] at h; cases h
 | k+1,a,g,o,h,q=>by
  rw [GD] at h
  by_cases i:a≥0
  ·rw [if_pos i] at h
   obtain ⟨m,p,h⟩:=bind_some h
   exact pkk_sound TTok mix hF 11 (hs:=[.t true,.h [1] [] [.row 25 2 (m.map Gb)] (.tup [])]) (ts:=[]) (s:=[0,1]) (l:=[0,3,8,9,10,11]) (by kernel_rfl) (by kernel_rfl) (.cons (dt i) (.cons (KH n g a (wi .i64 (d-c)) c b e f j _ p) .nil)) (Ky hF ks n b c d e f j k (wi .i64 (a-1)) m _ h q)
  ·rw [if_neg i] at h
   cases h
   exact pkk_sound TTok mix hF 8 (hs:=[.t false]) (ts:=[]) (s:=[0,1]) (l:=[0,3,8,9,10]) (by kernel_rfl) (by kernel_rfl) (.cons (df i) .nil) q
inductive Sw where
 | x0 (a:(List Ga))
def Yz:Sw→Ex
 | .x0 _=>.exit 2
def YA (b:(Ga→Ga→Option (Int))) (c:Int) (d:FuncId) (e:(List PV)):Sw→PS
 | .x0 a=>⟨(dds 60 []),[.gh 0 (.srf 1),.row 25 2 (a.map Gb)]⟩
def YB (g:(Ga→Ga→Option (Int))) (a:Int) (b:FuncId) (c:(List PV)) (e:Int) (f:(List Ga)):PS:=⟨(.srf 1::dd::dd::.d (.clo b c)::dd::dd::dd::dd::di a::di 0::dd::dd::di e::(dds 47 [])),[.gh 0 (.srf 1),.row 25 2 (f.map Gb)]⟩
def GE (n:Nat) (e:(Ga→Ga→Option (Int))) (a:Int):Nat→Int→(List Ga)→Option Sw
 | 0,_,_=>none
 | k+1,b,c =>
  if b≥0 then
   if 0≤(wi .i64 (a+b))∧((wi .i64 (a+b))).toNat<c.length then
    (c[((wi .i64 (a+b))).toNat]?).bind fun (d:Ga) =>
    if 0≤a∧(a).toNat<c.length then
     (c[(a).toNat]?).bind fun (f:Ga) =>
     if 0≤a∧(a).toNat<c.length then
      (c[(a).toNat]?).bind fun (h:Ga) =>
      if 0≤(wi .i64 (a+b))∧((wi .i64 (a+b))).toNat<(c.set (a).toNat d).length then
       ((c.set (a).toNat d)[((wi .i64 (a+b))).toNat]?).bind fun (i:Ga) =>
       (GS n ((c.set (a).toNat d).set ((wi .i64 (a+b))).toNat f) 0 b a e).bind fun (g:((List Ga))) =>
       GE n e a k (wi .i64 (b-1)) g
      else none
     else none
    else none
   else none
  else
   some (.x0 c)
theorem Kz {Fi:Ex→PS→Prop} (hF:KC 60 Fi) (ks:List Fr) (n:Nat) (g:(Ga→Ga→Option (Int))) (a:Int) (i:FuncId) (j:(List PV)) (a2:∀ (x0:Ga) (x1:Ga) (r:Int),g x0 x1=some r→Ret Tryz.prog i ([Gb x0,Gb x1]++j) ((eI .i64) r)):∀ (k:Nat) (b:Int) (c:(List Ga)) (o:Sw),GE n g a k b c=some o→RunE Tryz.prog 60 Fi ks (Yz o) (YA g a i j o)→RunE Tryz.prog 60 Fi (.l k (cP (cB (cR (cR (cR (cR (cR (bodyOf Tryz.f69))))))))::ks) .normal (YB g a i j b c)
 | 0,b,c,o,h,q=>by rw [GE] at h; cases h
 | k+1,b,c,o,h,q=>by
  rw [GE] at h
  by_cases m:b≥0
  ·rw [if_pos m] at h
   by_cases u:0≤(wi .i64 (a+b))∧((wi .i64 (a+b))).toNat<c.length
   ·rw [if_pos u] at h
    obtain ⟨d,a4,h⟩:=bind_some h
    by_cases x:0≤a∧(a).toNat<c.length
    ·rw [if_pos x] at h
     obtain ⟨e,a5,h⟩:=bind_some h
     by_cases a0:0≤a∧(a).toNat<c.length
     ·rw [if_pos a0] at h
      obtain ⟨a6,a7,h⟩:=bind_some h
      by_cases a1:0≤(wi .i64 (a+b))∧((wi .i64 (a+b))).toNat<(c.set (a).toNat d).length
      ·rw [if_pos a1] at h
       obtain ⟨a8,a9,h⟩:=bind_some h
       obtain ⟨a3,b0,h⟩:=bind_some h
       exact pkk_sound TTok mix hF 13 (hs:=[.t true,.y (Gb d),.y (Gb e),.w ((c.set (a).toNat d).map Gb),.y (Gb a6),.w (((c.set (a).toNat d).set ((wi .i64 (a+b))).toNat e).map Gb),.y (Gb a8),.h [1] [] [.row 25 2 (a3.map Gb)] (.tup [])]) (ts:=[]) (s:=[0,1]) (l:=[0,3,8,9,12]) (by kernel_rfl) (by kernel_rfl) (.cons (dt m) (.cons (idx_ob (f:=Gb) u) (.cons (get_ob (f:=Gb) a4) (.cons (idx_ob (f:=Gb) x) (.cons (get_ob (f:=Gb) a5) (.cons (idx_ob (f:=Gb) a0) (.cons (get_ob (f:=Gb) a7) (.cons (Eq.refl (pcells (.agg [.v (.string d.fName),.v (.int .i64 d.fIno)]))) (.cons (set_ob (f:=Gb) (l:=c) (k:=(a).toNat) (z:=d) (p:=.agg [.v (.string d.fName),.v (.int .i64 d.fIno)]) rfl) (.cons (idx_ob (f:=Gb) a1) (.cons (get_ob (f:=Gb) a9) (.cons (Eq.refl (pcells (.agg [.v (.string e.fName),.v (.int .i64 e.fIno)]))) (.cons (set_ob (f:=Gb) (l:=(c.set (a).toNat d)) (k:=((wi .i64 (a+b))).toNat) (z:=e) (p:=.agg [.v (.string e.fName),.v (.int .i64 e.fIno)]) rfl) (.cons (KH n ((c.set (a).toNat d).set ((wi .i64 (a+b))).toNat e) 0 b a g i j a2 _ b0) .nil)))))))))))))) (Kz hF ks n g a i j a2 k (wi .i64 (b-1)) a3 _ h q)
      ·rw [if_neg a1] at h; cases h
     ·rw [if_neg a0] at h; cases h
    ·rw [if_neg x] at h; cases h
   ·rw [if_neg u] at h; cases h
  ·rw [if_neg m] at h
   cases h
   exact pkk_sound TTok mix hF 8 (hs:=[.t false]) (ts:=[]) (s:=[0,1]) (l:=[]) (by kernel_rfl) (by kernel_rfl) (.cons (df m) .nil) q
/- slices.heapSortCmpFunc[ringhall/api.Entry] -/
def Sl (n:Nat) (d:(List Ga)) (a b:Int) (c:(Ga→Ga→Option (Int))):Option ((List Ga)) :=
 (GD n c a b n (quoI .i64 (wi .i64 ((wi .i64 (b-a))-1)) 2) d).bind fun e=>match e with
 | .x0 f =>
  (GE n c a n (wi .i64 ((wi .i64 (b-a))-1)) f).bind fun g=>match g with
  | .x0 h =>
   some h
theorem Xo (n:Nat) (f:(List Ga)) (a e:Int) (g:(Ga→Ga→Option (Int))) (i:FuncId) (j:List PV) (k:∀ (x0:Ga) (x1:Ga) (r:Int),g x0 x1=some r→Ret Tryz.prog i ([Gb x0,Gb x1]++j) ((eI .i64) r)) (r:(List Ga)) (h:Sl n f a e g=some r):RetH Tryz.prog 69 [.srf 0,.d ((eI .i64) a),.d ((eI .i64) e),.d ((.clo i j))] [.row 25 2 (f.map Gb)] (.tup []) [.row 25 2 (r.map Gb)]:=by
 refine retH_run (n:=60) (fn:=Tryz.f69) (c:=bodyOf Tryz.f69) (by kernel_rfl) (by kernel_rfl) (by kernel_rfl) (by kernel_rfl) ?_
 have hF:KC 60 (FinH Tryz.prog Tryz.f69 [.row 25 2 (f.map Gb)] (.tup []) [.row 25 2 (r.map Gb)]):=FinH.kc' (by kernel_rfl)
 unfold Sl at h
 obtain ⟨m,o,h⟩:=bind_some h
 refine pkk_sound TTok mix hF 11 (hs:=[.n n]) (ts:=[]) (s:=[1,0]) (l:=[0,3,8,9,10,11]) (by kernel_rfl) (by kernel_rfl) (.cons (show (2:Int)≠0 by decide) .nil) (Ky hF (.b 0::.s (cR (cR (cR (cR (bodyOf Tryz.f69)))))::[]) n g a e i j k n (quoI .i64 (wi .i64 ((wi .i64 (e-a))-1)) 2) f _ o ?_)
 cases m with
 | x0 p =>
  try dsimp only at h
  obtain ⟨q,t,h⟩:=bind_some h
  refine pkk_sound TTok mix hF 5 (hs:=[.n n]) (ts:=[]) (s:=[0,1]) (l:=[0,3,8,9,12]) (by kernel_rfl) (by kernel_rfl) .nil (Kz hF (.b 2::[]) n g a i j k n (wi .i64 ((wi .i64 (e-a))-1)) p _ t ?_)
  cases q with
  | x0 u =>
   try dsimp only at h
   obtain rfl:=Option.some.inj h
   exact pendH_sound TTok mix 1 (hs:=[]) [1] (by kernel_rfl) (by kernel_rfl) (by kernel_rfl) .nil
/- slices.nextPowerOfTwo -/
def Kj (n:Nat) (b:Int):Option (Int) :=
 (Zc n (wi .u64 b)).bind fun (a:(Int)) =>
 if 0≤a then
  some (shlI .u64 1 a)
 else none
theorem XT (n:Nat) (a r:Int) (h:Kj n a=some r):Ret Tryz.prog 107 [(eI .i64) a] ((eI .u64) r):=by
 refine ret_run (n:=7) (fn:=Tryz.f107) (c:=bodyOf Tryz.f107) (by kernel_rfl) (by kernel_rfl) (by kernel_rfl) (by kernel_rfl) ?_
 have hF:KC 7 (FinR Tryz.prog Tryz.f107 ((eI .u64) r)):=FinR.kc' (by kernel_rfl)
 unfold Kj at h
 obtain ⟨d,e,h⟩:=bind_some h
 by_cases b:0≤d
 ·rw [if_pos b] at h
  obtain rfl:=Option.some.inj h
  exact pend_sound TTok mix 5 (hs:=[.r ((eI .i64) d)]) (by kernel_rfl) (by kernel_rfl) (by kernel_rfl) (.cons (XQ n (wi .u64 a) _ e) (.cons b .nil))
 ·rw [if_neg b] at h; cases h
/- (*slices.xorshift).Next -/
def S9 (n:Nat) (a:Int):Option (Int×Int) :=
 some ((bits .xor .u64 (bits .xor .u64 (bits .xor .u64 a (shlI .u64 a 13)) (shrI .u64 (bits .xor .u64 a (shlI .u64 a 13)) 7)) (shlI .u64 (bits .xor .u64 (bits .xor .u64 a (shlI .u64 a 13)) (shrI .u64 (bits .xor .u64 a (shlI .u64 a 13)) 7)) 17)),(bits .xor .u64 (bits .xor .u64 (bits .xor .u64 a (shlI .u64 a 13)) (shrI .u64 (bits .xor .u64 a (shlI .u64 a 13)) 7)) (shlI .u64 (bits .xor .u64 (bits .xor .u64 a (shlI .u64 a 13)) (shrI .u64 (bits .xor .u64 a (shlI .u64 a 13)) 7)) 17)))
theorem Xc (n:Nat) (a:Int) (r:Int×Int) (h:S9 n a=some r):RetH Tryz.prog 108 [.ref 0 0] [.box [.d (.v (.int .u64 a))]] (.d ((eI .u64) r.1)) [.box [.d (.v (.int .u64 r.2))]]:=by
 refine retH_run (n:=33) (fn:=Tryz.f108) (c:=bodyOf Tryz.f108) (by kernel_rfl) (by kernel_rfl) (by kernel_rfl) (by kernel_rfl) ?_
 have hF:KC 33 (FinH Tryz.prog Tryz.f108 [.box [.d (.v (.int .u64 a))]] (.d ((eI .u64) r.1)) [.box [.d (.v (.int .u64 r.2))]]):=FinH.kc' (by kernel_rfl)
 unfold S9 at h
 obtain rfl:=Option.some.inj h
 exact pendH_sound TTok mix 11 (hs:=[.c,.c,.c,.c,.c,.c,.c,.c,.c,.c]) [0] (by kernel_rfl) (by kernel_rfl) (by kernel_rfl) (.cons (show (0:Int)≤13 by decide) (.cons (show 0+1≤1 by decide) (.cons (show (0:Int)≤7 by decide) (.cons (show 0+1≤1 by decide) (.cons (show (0:Int)≤17 by decide) (.cons (show 0+1≤1 by decide) .nil))))))
inductive Sc where
 | x0 (a:(List Ga))
def ZD:Sc→Ex
 | .x0 _=>.exit 0
def ZE (b c:Int) (d:(Int)):Sc→PS
 | .x0 a=>⟨(dds 67 []),[.gh 0 (.srf 1),.row 25 2 (a.map Gb)]⟩
def ZF (a b:Int) (c:(Int)) (e:Int) (f:(List Ga)) (g:Int):PS:=⟨(.srf 1::di a::dd::dd::dd::dd::dd::dd::di (wi .i64 (b-a))::.ref 2 0::.d (.v (.int .u64 c))::di e::(dds 55 [])),[.gh 0 (.srf 1),.row 25 2 (f.map Gb),.box [.d (.v (.int .u64 g))]]⟩
def Gd (n:Nat) (a f:Int) (d:(Int)):Nat→Int→(List Ga)→Int→Option Sc
 | 0,_,_,_=>none
 | k+1,b,c,i =>
  if b≤(wi .i64 ((wi .i64 (a+(wi .i64 ((quoI .i64 (wi .i64 (f-a)) 4)*2))))+1)) then
   (S9 n i).bind fun (e:(Int×Int)) =>
   if (wi .i64 (bits .and .u64 e.1 (wi .u64 (d-1))))≥(wi .i64 (f-a)) then
    if 0≤(wi .i64 (a+(wi .i64 ((wi .i64 (bits .and .u64 e.1 (wi .u64 (d-1))))-(wi .i64 (f-a))))))∧((wi .i64 (a+(wi .i64 ((wi .i64 (bits .and .u64 e.1 (wi .u64 (d-1))))-(wi .i64 (f-a))))))).toNat<c.length then
     (c[((wi .i64 (a+(wi .i64 ((wi .i64 (bits .and .u64 e.1 (wi .u64 (d-1))))-(wi .i64 (f-a))))))).toNat]?).bind fun (g:Ga) =>
     if 0≤b∧(b).toNat<c.length then
      (c[(b).toNat]?).bind fun (j:Ga) =>
      if 0≤b∧(b).toNat<c.length then
       (c[(b).toNat]?).bind fun (m:Ga) =>
       if 0≤(wi .i64 (a+(wi .i64 ((wi .i64 (bits .and .u64 e.1 (wi .u64 (d-1))))-(wi .i64 (f-a))))))∧((wi .i64 (a+(wi .i64 ((wi .i64 (bits .and .u64 e.1 (wi .u64 (d-1))))-(wi .i64 (f-a))))))).toNat<(c.set (b).toNat g).length then
        ((c.set (b).toNat g)[((wi .i64 (a+(wi .i64 ((wi .i64 (bits .and .u64 e.1 (wi .u64 (d-1))))-(wi .i64 (f-a))))))).toNat]?).bind fun (o:Ga) =>
        Gd n a f d k (wi .i64 (b+1)) ((c.set (b).toNat g).set ((wi .i64 (a+(wi .i64 ((wi .i64 (bits .and .u64 e.1 (wi .u64 (d-1))))-(wi .i64 (f-a))))))).toNat j) e.2
       else none
      else none
     else none
    else none
   else
    if 0≤(wi .i64 (a+(wi .i64 (bits .and .u64 e.1 (wi .u64 (d-1))))))∧((wi .i64 (a+(wi .i64 (bits .and .u64 e.1 (wi .u64 (d-1))))))).toNat<c.length then
     (c[((wi .i64 (a+(wi .i64 (bits .and .u64 e.1 (wi .u64 (d-1))))))).toNat]?).bind fun (h:Ga) =>
     if 0≤b∧(b).toNat<c.length then
      (c[(b).toNat]?).bind fun (l:Ga) =>
      if 0≤b∧(b).toNat<c.length then
       (c[(b).toNat]?).bind fun (p:Ga) =>
       if 0≤(wi .i64 (a+(wi .i64 (bits .and .u64 e.1 (wi .u64 (d-1))))))∧((wi .i64 (a+(wi .i64 (bits .and .u64 e.1 (wi .u64 (d-1))))))).toNat<(c.set (b).toNat h).length then
        ((c.set (b).toNat h)[((wi .i64 (a+(wi .i64 (bits .and .u64 e.1 (wi .u64 (d-1))))))).toNat]?).bind fun (q:Ga) =>
        Gd n a f d k (wi .i64 (b+1)) ((c.set (b).toNat h).set ((wi .i64 (a+(wi .i64 (bits .and .u64 e.1 (wi .u64 (d-1))))))).toNat l) e.2
       else none
      else none
     else none
    else none
  else
   some (.x0 c)
theorem SG {Fi:Ex→PS→Prop} (hF:KC 67 Fi) (ks:List Fr) (n:Nat) (a i:Int) (g:(Int))  : ∀ (k:Nat) (b:Int) (c:(List Ga)) (x:Int) (o:Sc),Gd n a i g k b c x=some o→RunE Tryz.prog 67 Fi ks (ZD o) (ZE a i g o)→RunE Tryz.prog 67 Fi (.l k (cP (cB (cR (cR (cR (cT (cR (cR (bodyOf Tryz.f70)))))))))::ks) .normal (ZF a i g b c x)
 | 0,b,c,x,o,h,q=>by rw [Gd] at h; cases h
 | k+1,b,c,x,o,h,q=>by
  rw [Gd] at h
  by_cases a0:b≤(wi .i64 ((wi .i64 (a+(wi .i64 ((quoI .i64 (wi .i64 (i-a)) 4)*2))))+1))
  ·rw [if_pos a0] at h
   obtain ⟨e,b0,h⟩:=bind_some h
   by_cases a1:(wi .i64 (bits .and .u64 e.1 (wi .u64 (g-1))))≥(wi .i64 (i-a))
   ·rw [if_pos a1] at h
    by_cases a2:0≤(wi .i64 (a+(wi .i64 ((wi .i64 (bits .and .u64 e.1 (wi .u64 (g-1))))-(wi .i64 (i-a))))))∧((wi .i64 (a+(wi .i64 ((wi .i64 (bits .and .u64 e.1 (wi .u64 (g-1))))-(wi .i64 (i-a))))))).toNat<c.length
    ·rw [if_pos a2] at h
     obtain ⟨j,b1,h⟩:=bind_some h
     by_cases a3:0≤b∧(b).toNat<c.length
     ·rw [if_pos a3] at h
      obtain ⟨r,b2,h⟩:=bind_some h
      by_cases a4:0≤b∧(b).toNat<c.length
      ·rw [if_pos a4] at h
       obtain ⟨b3,b4,h⟩:=bind_some h
       by_cases a5:0≤(wi .i64 (a+(wi .i64 ((wi .i64 (bits .and .u64 e.1 (wi .u64 (g-1))))-(wi .i64 (i-a))))))∧((wi .i64 (a+(wi .i64 ((wi .i64 (bits .and .u64 e.1 (wi .u64 (g-1))))-(wi .i64 (i-a))))))).toNat<(c.set (b).toNat j).length
       ·rw [if_pos a5] at h
        obtain ⟨b5,b6,h⟩:=bind_some h
        exact pkk_sound TTok mix hF 18 (hs:=[.t true,.h [2] [] [.box [.d (.v (.int .u64 e.2))]] (.d (.v (.int .u64 e.1))),.t true,.y (Gb j),.y (Gb r),.w ((c.set (b).toNat j).map Gb),.y (Gb b3),.w (((c.set (b).toNat j).set ((wi .i64 (a+(wi .i64 ((wi .i64 (bits .and .u64 e.1 (wi .u64 (g-1))))-(wi .i64 (i-a))))))).toNat r).map Gb),.y (Gb b5)]) (ts:=[]) (s:=[0,1,2]) (l:=[0,1,8,9,10,11]) (by kernel_rfl) (by kernel_rfl) (.cons (show (4:Int)≠0 by decide) (.cons (dt a0) (.cons (Xc n x _ b0) (.cons (dt a1) (.cons (idx_ob (f:=Gb) a2) (.cons (get_ob (f:=Gb) b1) (.cons (idx_ob (f:=Gb) a3) (.cons (get_ob (f:=Gb) b2) (.cons (idx_ob (f:=Gb) a4) (.cons (get_ob (f:=Gb) b4) (.cons (Eq.refl (pcells (.agg [.v (.string j.fName),.v (.int .i64 j.fIno)]))) (.cons (set_ob (f:=Gb) (l:=c) (k:=(b).toNat) (z:=j) (p:=.agg [.v (.string j.fName),.v (.int .i64 j.fIno)]) rfl) (.cons (idx_ob (f:=Gb) a5) (.cons (get_ob (f:=Gb) b6) (.cons (Eq.refl (pcells (.agg [.v (.string r.fName),.v (.int .i64 r.fIno)]))) (.cons (set_ob (f:=Gb) (l:=(c.set (b).toNat j)) (k:=((wi .i64 (a+(wi .i64 ((wi .i64 (bits .and .u64 e.1 (wi .u64 (g-1))))-(wi .i64 (i-a))))))).toNat) (z:=r) (p:=.agg [.v (.string r.fName),.v (.int .i64 r.fIno)]) rfl) .nil)))))))))))))))) (SG hF ks n a i g k (wi .i64 (b+1)) ((c.set (b).toNat j).set ((wi .i64 (a+(wi .i64 ((wi .i64 (bits .and .u64 e.1 (wi .u64 (g-1))))-(wi .i64 (i-a))))))).toNat r) e.2 _ h q)
       ·rw [if_neg a5] at h; cases h
      ·rw [if_neg a4] at h; cases h
     ·rw [if_neg a3] at h; cases h
    ·rw [if_neg a2] at h; cases h
   ·rw [if_neg a1] at h
    by_cases a6:0≤(wi .i64 (a+(wi .i64 (bits .and .u64 e.1 (wi .u64 (g-1))))))∧((wi .i64 (a+(wi .i64 (bits .and .u64 e.1 (wi .u64 (g-1))))))).toNat<c.length
    ·rw [if_pos a6] at h
     obtain ⟨m,b7,h⟩:=bind_some h
     by_cases a7:0≤b∧(b).toNat<c.length
     ·rw [if_pos a7] at h
      obtain ⟨u,b8,h⟩:=bind_some h
      by_cases a8:0≤b∧(b).toNat<c.length
      ·rw [if_pos a8] at h
       obtain ⟨b9,c0,h⟩:=bind_some h
       by_cases a9:0≤(wi .i64 (a+(wi .i64 (bits .and .u64 e.1 (wi .u64 (g-1))))))∧((wi .i64 (a+(wi .i64 (bits .and .u64 e.1 (wi .u64 (g-1))))))).toNat<(c.set (b).toNat m).length
       ·rw [if_pos a9] at h
        obtain ⟨c1,c2,h⟩:=bind_some h
        exact pkk_sound TTok mix hF 18 (hs:=[.t true,.h [2] [] [.box [.d (.v (.int .u64 e.2))]] (.d (.v (.int .u64 e.1))),.t false,.y (Gb m),.y (Gb u),.w ((c.set (b).toNat m).map Gb),.y (Gb b9),.w (((c.set (b).toNat m).set ((wi .i64 (a+(wi .i64 (bits .and .u64 e.1 (wi .u64 (g-1))))))).toNat u).map Gb),.y (Gb c1)]) (ts:=[]) (s:=[0,1,2]) (l:=[0,1,8,9,10,11]) (by kernel_rfl) (by kernel_rfl) (.cons (show (4:Int)≠0 by decide) (.cons (dt a0) (.cons (Xc n x _ b0) (.cons (df a1) (.cons (idx_ob (f:=Gb) a6) (.cons (get_ob (f:=Gb) b7) (.cons (idx_ob (f:=Gb) a7) (.cons (get_ob (f:=Gb) b8) (.cons (idx_ob (f:=Gb) a8) (.cons (get_ob (f:=Gb) c0) (.cons (Eq.refl (pcells (.agg [.v (.string m.fName),.v (.int .i64 m.fIno)]))) (.cons (set_ob (f:=Gb) (l:=c) (k:=(b).toNat) (z:=m) (p:=.agg [.v (.string m.fName),.v (.int .i64 m.fIno)]) rfl) (.cons (idx_ob (f:=Gb) a9) (.cons (get_ob (f:=Gb) c2) (.cons (Eq.refl (pcells (.agg [.v (.string u.fName),.v (.int .i64 u.fIno)]))) (.cons (set_ob (f:=Gb) (l:=(c.set (b).toNat m)) (k:=((wi .i64 (a+(wi .i64 (bits .and .u64 e.1 (wi .u64 (g-1))))))).toNat) (z:=u) (p:=.agg [.v (.string u.fName),.v (.int .i64 u.fIno)]) rfl) .nil)))))))))))))))) (SG hF ks n a i g k (wi .i64 (b+1)) ((c.set (b).toNat m).set ((wi .i64 (a+(wi .i64 (bits .and .u64 e.1 (wi .u64 (g-1))))))).toNat u) e.2 _ h q)
       ·rw [if_neg a9] at h; cases h
      ·rw [if_neg a8] at h; cases h
     ·rw [if_neg a7] at h; cases h
    ·rw [if_neg a6] at h; cases h
  ·rw [if_neg a0] at h
   cases h
   exact pkk_sound TTok mix hF 8 (hs:=[.t false]) (ts:=[]) (s:=[0,1]) (l:=[]) (by kernel_rfl) (by kernel_rfl) (.cons (show (4:Int)≠0 by decide) (.cons (df a0) .nil)) q
/- slices.breakPatternsCmpFunc[ringhall/api.Entry] -/
def GW (n:Nat) (c:(List Ga)) (a b:Int) (g:(Ga→Ga→Option (Int))):Option ((List Ga)) :=
 if (wi .i64 (b-a))≥8 then
  (Kj n (wi .i64 (b-a))).bind fun (d:(Int)) =>
  (Gd n a b d n (wi .i64 ((wi .i64 (a+(wi .i64 ((quoI .i64 (wi .i64 (b-a)) 4)*2))))-1)) c (wi .u64 (wi .i64 (b-a)))).bind fun e=>match e with
  | .x0 f =>
   some f
 else
  some c
theorem ZV (n:Nat) (f:(List Ga)) (a e:Int) (i:(Ga→Ga→Option (Int))) (j:FuncId) (k:List PV) (u:∀ (x0:Ga) (x1:Ga) (r:Int),i x0 x1=some r→Ret Tryz.prog j ([Gb x0,Gb x1]++k) ((eI .i64) r)) (r:(List Ga)) (h:GW n f a e i=some r):RetH Tryz.prog 70 [.srf 0,.d ((eI .i64) a),.d ((eI .i64) e),.d ((.clo j k))] [.row 25 2 (f.map Gb)] (.tup []) [.row 25 2 (r.map Gb)]:=by
 refine retH_run (n:=67) (fn:=Tryz.f70) (c:=bodyOf Tryz.f70) (by kernel_rfl) (by kernel_rfl) (by kernel_rfl) (by kernel_rfl) ?_
 have hF:KC 67 (FinH Tryz.prog Tryz.f70 [.row 25 2 (f.map Gb)] (.tup []) [.row 25 2 (r.map Gb)]):=FinH.kc' (by kernel_rfl)
 unfold GW at h
 by_cases g:(wi .i64 (e-a))≥8
 ·rw [if_pos g] at h
  obtain ⟨m,o,h⟩:=bind_some h
  obtain ⟨p,q,h⟩:=bind_some h
  refine pkk_sound TTok mix hF 13 (hs:=[.t true,.c,.r ((eI .u64) m),.n n]) (ts:=[]) (s:=[1,0,42]) (l:=[0,1,8,9,10,11]) (by kernel_rfl) (by kernel_rfl) (.cons (dt g) (.cons (show 0+1≤1 by decide) (.cons (XT n (wi .i64 (e-a)) _ o) (.cons (show (4:Int)≠0 by decide) .nil)))) (SG hF (.b 0::[]) n a e m n (wi .i64 ((wi .i64 (a+(wi .i64 ((quoI .i64 (wi .i64 (e-a)) 4)*2))))-1)) f (wi .u64 (wi .i64 (e-a))) _ q ?_)
  cases p with
  | x0 v =>
   try dsimp only at h
   obtain rfl:=Option.some.inj h
   exact pendH_sound TTok mix 1 (hs:=[]) [1] (by kernel_rfl) (by kernel_rfl) (by kernel_rfl) .nil
 ·rw [if_neg g] at h
  obtain rfl:=Option.some.inj h
  exact pendH_sound TTok mix 6 (hs:=[.t false]) [0] (by kernel_rfl) (by kernel_rfl) (by kernel_rfl) (.cons (df g) .nil)
/- slices.order2CmpFunc[ringhall/api.Entry] -/
def GK (n:Nat) (c:(List Ga)) (a b d:Int) (e:(Ga→Ga→Option (Int))):Option (Int×Int×Int) :=
 (getI c b).bind fun (f:Ga) =>
 (getI c a).bind fun (g:Ga) =>
 (e f g).bind fun (h:(Int)) =>
 if h<0 then
  some (b,a,(wi .i64 (d+1)))
 else
  some (a,b,d)
theorem SZ (n:Nat) (j:(List Ga)) (k l g:Int) (m:(Ga→Ga→Option (Int))) (o:FuncId) (p:List PV) (q:∀ (x0:Ga) (x1:Ga) (r:Int),m x0 x1=some r→Ret Tryz.prog o ([Gb x0,Gb x1]++p) ((eI .i64) r)) (r:Int×Int×Int) (h:GK n j k l g m=some r):RetH Tryz.prog 124 [.d ((eL Gb) j),.d ((eI .i64) k),.d ((eI .i64) l),.ref 0 0,.d ((.clo o p))] [.box [di g]] (.tup [.d ((eI .i64) r.1),.d ((eI .i64) r.2.1)]) [.box [di r.2.2]]:=by
 refine retH_run (n:=32) (fn:=Tryz.f124) (c:=bodyOf Tryz.f124) (by kernel_rfl) (by kernel_rfl) (by kernel_rfl) (by kernel_rfl) ?_
 have hF:KC 32 (FinH Tryz.prog Tryz.f124 [.box [di g]] (.tup [.d ((eI .i64) r.1),.d ((eI .i64) r.2.1)]) [.box [di r.2.2]]):=FinH.kc' (by kernel_rfl)
 unfold GK at h
 obtain ⟨a,s,h⟩:=bind_some h
 obtain ⟨b,u,h⟩:=bind_some h
 obtain ⟨i,w,h⟩:=bind_some h
 by_cases e:i<0
 ·rw [if_pos e] at h
  obtain rfl:=Option.some.inj h
  exact pendH_sound TTok mix 12 (hs:=[.y (Gb a),.y (Gb b),.r ((eI .i64) i),.t true,.c,.c]) [0] (by kernel_rfl) (by kernel_rfl) (by kernel_rfl) (.cons (getI_ob (f:=Gb) s) (.cons (getI_ob (f:=Gb) u) (.cons (q a b _ w) (.cons (dt e) (.cons (show 0+1≤1 by decide) .nil)))))
 ·rw [if_neg e] at h
  obtain rfl:=Option.some.inj h
  exact pendH_sound TTok mix 10 (hs:=[.y (Gb a),.y (Gb b),.r ((eI .i64) i),.t false]) [0] (by kernel_rfl) (by kernel_rfl) (by kernel_rfl) (.cons (getI_ob (f:=Gb) s) (.cons (getI_ob (f:=Gb) u) (.cons (q a b _ w) (.cons (df e) .nil))))
/- slices.medianCmpFunc[ringhall/api.Entry] -/
def GL (n:Nat) (a:(List Ga)) (f g h i:Int) (b:(Ga→Ga→Option (Int))):Option (Int×Int) :=
 (GK n a f g i b).bind fun (c:(Int×Int×Int)) =>
 (GK n a c.2.1 h c.2.2 b).bind fun (d:(Int×Int×Int)) =>
 (GK n a c.1 d.1 d.2.2 b).bind fun (e:(Int×Int×Int)) =>
 some (e.2.1,e.2.2)
theorem S4 (n:Nat) (b:(List Ga)) (k l m j:Int) (e:(Ga→Ga→Option (Int))) (f:FuncId) (g:List PV) (o:∀ (x0:Ga) (x1:Ga) (r:Int),e x0 x1=some r→Ret Tryz.prog f ([Gb x0,Gb x1]++g) ((eI .i64) r)) (r:Int×Int) (h:GL n b k l m j e=some r):RetH Tryz.prog 110 [.d ((eL Gb) b),.d ((eI .i64) k),.d ((eI .i64) l),.d ((eI .i64) m),.ref 0 0,.d ((.clo f g))] [.box [di j]] (.d ((eI .i64) r.1)) [.box [di r.2]]:=by
 refine retH_run (n:=41) (fn:=Tryz.f110) (c:=bodyOf Tryz.f110) (by kernel_rfl) (by kernel_rfl) (by kernel_rfl) (by kernel_rfl) ?_
 have hF:KC 41 (FinH Tryz.prog Tryz.f110 [.box [di j]] (.d ((eI .i64) r.1)) [.box [di r.2]]):=FinH.kc' (by kernel_rfl)
 unfold GL at h
 obtain ⟨a,q,h⟩:=bind_some h
 obtain ⟨i,s,h⟩:=bind_some h
 obtain ⟨p,t,h⟩:=bind_some h
 obtain rfl:=Option.some.inj h
 exact pendH_sound TTok mix 11 (hs:=[.h [0] [] [.box [di a.2.2]] (.tup [di a.1,di a.2.1]),.h [0] [] [.box [di i.2.2]] (.tup [di i.1,di i.2.1]),.h [0] [] [.box [di p.2.2]] (.tup [di p.1,di p.2.1])]) [0] (by kernel_rfl) (by kernel_rfl) (by kernel_rfl) (.cons (SZ n b k l j e f g o _ q) (.cons (SZ n b a.2.1 m a.2.2 e f g o _ s) (.cons (SZ n b a.1 i.1 i.2.2 e f g o _ t) .nil)))
/- slices.medianAdjacentCmpFunc[ringhall/api.Entry] -/
def Gr (n:Nat) (c:(List Ga)) (a d:Int) (e:(Ga→Ga→Option (Int))):Option (Int×Int) :=
 (GL n c (wi .i64 (a-1)) a (wi .i64 (a+1)) d e).bind fun (b:(Int×Int)) =>
 some (b.1,b.2)
theorem SJ (n:Nat) (e:(List Ga)) (a b:Int) (f:(Ga→Ga→Option (Int))) (g:FuncId) (i:List PV) (k:∀ (x0:Ga) (x1:Ga) (r:Int),f x0 x1=some r→Ret Tryz.prog g ([Gb x0,Gb x1]++i) ((eI .i64) r)) (r:Int×Int) (h:Gr n e a b f=some r):RetH Tryz.prog 109 [.d ((eL Gb) e),.d ((eI .i64) a),.ref 0 0,.d ((.clo g i))] [.box [di b]] (.d ((eI .i64) r.1)) [.box [di r.2]]:=by
 refine retH_run (n:=18) (fn:=Tryz.f109) (c:=bodyOf Tryz.f109) (by kernel_rfl) (by kernel_rfl) (by kernel_rfl) (by kernel_rfl) ?_
 have hF:KC 18 (FinH Tryz.prog Tryz.f109 [.box [di b]] (.d ((eI .i64) r.1)) [.box [di r.2]]):=FinH.kc' (by kernel_rfl)
 unfold Gr at h
 obtain ⟨j,l,h⟩:=bind_some h
 obtain rfl:=Option.some.inj h
 exact pendH_sound TTok mix 5 (hs:=[.h [0] [] [.box [di j.2]] (di j.1)]) [0] (by kernel_rfl) (by kernel_rfl) (by kernel_rfl) (.cons (S4 n e (wi .i64 (a-1)) a (wi .i64 (a+1)) b f g i k _ l) .nil)
inductive Sn where
 | x0 (a b:Int)
 | x1 (c:Int)
def ZY:Sn→Ex
 | .x0 _ _=>.normal
 | .x1 _=>.normal
def ZZ (e:(List Ga)) (f:(Ga→Ga→Option (Int))) (g h:Int) (i:FuncId) (j:(List PV)):Sn→PS
 | .x0 a b=>⟨(dds 11 (.ref 0 0::dd::di a::(dds 49 []))),[.box [di b]]⟩
 | .x1 c=>⟨(dds 11 (.ref 0 0::dd::di c::(dds 49 []))),[.box [di 0]]⟩
def Z0 (c:(List Ga)) (g:(Ga→Ga→Option (Int))) (b a:Int) (e:FuncId) (f:(List PV))  : PS:=⟨(.d (.sl (c.map Gb))::dd::dd::.d (.clo e f)::dd::dd::dd::dd::dd::dd::di (wi .i64 (b-a))::.ref 0 0::di (wi .i64 (a+(wi .i64 ((quoI .i64 (wi .i64 (b-a)) 4)*1))))::di (wi .i64 (a+(wi .i64 ((quoI .i64 (wi .i64 (b-a)) 4)*2))))::di (wi .i64 (a+(wi .i64 ((quoI .i64 (wi .i64 (b-a)) 4)*3))))::(dds 19 (.d (.v (.bool (decide ((wi .i64 (b-a))≥8))))::(dds 28 [])))),[.box [di 0]]⟩
def GY (n:Nat) (c:(List Ga)) (d:(Ga→Ga→Option (Int))) (b a:Int):Option Sn :=
 if (wi .i64 (b-a))≥8 then
  if (wi .i64 (b-a))≥50 then
   (Gr n c (wi .i64 (a+(wi .i64 ((quoI .i64 (wi .i64 (b-a)) 4)*1)))) 0 d).bind fun (e:(Int×Int)) =>
   (Gr n c (wi .i64 (a+(wi .i64 ((quoI .i64 (wi .i64 (b-a)) 4)*2)))) e.2 d).bind fun (f:(Int×Int)) =>
   (Gr n c (wi .i64 (a+(wi .i64 ((quoI .i64 (wi .i64 (b-a)) 4)*3)))) f.2 d).bind fun (g:(Int×Int)) =>
   (GL n c e.1 f.1 g.1 g.2 d).bind fun (h:(Int×Int)) =>
   some (.x0 h.1 h.2)
  else
   (GL n c (wi .i64 (a+(wi .i64 ((quoI .i64 (wi .i64 (b-a)) 4)*1)))) (wi .i64 (a+(wi .i64 ((quoI .i64 (wi .i64 (b-a)) 4)*2)))) (wi .i64 (a+(wi .i64 ((quoI .i64 (wi .i64 (b-a)) 4)*3)))) 0 d).bind fun (i:(Int×Int)) =>
   some (.x0 i.1 i.2)
 else
  some (.x1 (wi .i64 (a+(wi .i64 ((quoI .i64 (wi .i64 (b-a)) 4)*2)))))
theorem Z2 {Fi:Ex→PS→Prop} (hF:KC 63 Fi) (ks:List Fr) (n:Nat) (e:(List Ga)) (c:(Ga→Ga→Option (Int))) (b a:Int) (f:FuncId) (g:(List PV)) (i:∀ (x0:Ga) (x1:Ga) (r:Int),c x0 x1=some r→Ret Tryz.prog f ([Gb x0,Gb x1]++g) ((eI .i64) r)) (o:Sn) (h:GY n e c b a=some o) (q:RunE Tryz.prog 63 Fi ks (ZY o) (ZZ e c b a f g o)):RunE Tryz.prog 63 Fi (.s (cR (cL (cR (cR (cR (cR (cR (cR (bodyOf Tryz.f71)))))))))::ks) .normal (Z0 e c b a f g):=by
 unfold GY at h
 by_cases j:(wi .i64 (b-a))≥8
 ·rw [if_pos j] at h
  by_cases k:(wi .i64 (b-a))≥50
  ·rw [if_pos k] at h
   obtain ⟨m,y,h⟩:=bind_some h
   obtain ⟨p,z,h⟩:=bind_some h
   obtain ⟨u,a0,h⟩:=bind_some h
   obtain ⟨w,a1,h⟩:=bind_some h
   cases h
   exact pkk_sound TTok mix hF 11 (hs:=[.t true,.t true,.h [0] [] [.box [di m.2]] (di m.1),.h [0] [] [.box [di p.2]] (di p.1),.h [0] [] [.box [di u.2]] (di u.1),.h [0] [] [.box [di w.2]] (di w.1)]) (ts:=[]) (s:=[0]) (l:=[11,13]) (by kernel_rfl) (by kernel_rfl) (.cons (dt j) (.cons (dt k) (.cons (SJ n e (wi .i64 (a+(wi .i64 ((quoI .i64 (wi .i64 (b-a)) 4)*1)))) 0 c f g i _ y) (.cons (SJ n e (wi .i64 (a+(wi .i64 ((quoI .i64 (wi .i64 (b-a)) 4)*2)))) m.2 c f g i _ z) (.cons (SJ n e (wi .i64 (a+(wi .i64 ((quoI .i64 (wi .i64 (b-a)) 4)*3)))) p.2 c f g i _ a0) (.cons (S4 n e m.1 p.1 u.1 u.2 c f g i _ a1) .nil)))))) q
  ·rw [if_neg k] at h
   obtain ⟨x,a2,h⟩:=bind_some h
   cases h
   exact pkk_sound TTok mix hF 7 (hs:=[.t true,.t false,.h [0] [] [.box [di x.2]] (di x.1)]) (ts:=[]) (s:=[0]) (l:=[11,13]) (by kernel_rfl) (by kernel_rfl) (.cons (dt j) (.cons (df k) (.cons (S4 n e (wi .i64 (a+(wi .i64 ((quoI .i64 (wi .i64 (b-a)) 4)*1)))) (wi .i64 (a+(wi .i64 ((quoI .i64 (wi .i64 (b-a)) 4)*2)))) (wi .i64 (a+(wi .i64 ((quoI .i64 (wi .i64 (b-a)) 4)*3)))) 0 c f g i _ a2) .nil))) q
 ·rw [if_neg j] at h
  cases h
  exact pkk_sound TTok mix hF 2 (hs:=[.t false]) (ts:=[]) (s:=[0]) (l:=[11,13]) (by kernel_rfl) (by kernel_rfl) (.cons (df j) .nil) q
/- slices.choosePivotCmpFunc[ringhall/api.Entry] -/
def Sk (n:Nat) (c:(List Ga)) (d e:Int) (f:(Ga→Ga→Option (Int))):Option (Int×Int) :=
 (GY n c f e d).bind fun g=>match g with
 | .x0 a b =>
  if b=0 then
   some (a,1)
  else
   if b=12 then
    some (a,2)
   else
    some (a,0)
 | .x1 h =>
  some (h,1)
theorem Xh (n:Nat) (d:(List Ga)) (e f:Int) (g:(Ga→Ga→Option (Int))) (i:FuncId) (j:List PV) (m:∀ (x0:Ga) (x1:Ga) (r:Int),g x0 x1=some r→Ret Tryz.prog i ([Gb x0,Gb x1]++j) ((eI .i64) r)) (r:Int×Int) (h:Sk n d e f g=some r):Ret Tryz.prog 71 [(eL Gb) d,(eI .i64) e,(eI .i64) f,(.clo i j)] (.tup [(eI .i64) r.1,(eI .i64) r.2]):=by
 refine ret_run (n:=63) (fn:=Tryz.f71) (c:=bodyOf Tryz.f71) (by kernel_rfl) (by kernel_rfl) (by kernel_rfl) (by kernel_rfl) ?_
 have hF:KC 63 (FinR Tryz.prog Tryz.f71 (.tup [(eI .i64) r.1,(eI .i64) r.2])):=FinR.kc' (by kernel_rfl)
 unfold Sk at h
 obtain ⟨o,p,h⟩:=bind_some h
 refine pkk_sound TTok mix hF 15 (hs:=[]) (ts:=[]) (s:=[30]) (l:=[0,3,10,11,12,13,14,34]) (by kernel_rfl) (by kernel_rfl) (.cons (show (4:Int)≠0 by decide) (.cons (show (4:Int)≠0 by decide) (.cons (show (4:Int)≠0 by decide) .nil))) (Z2 hF (.s (cR (cR (cR (cR (cR (cR (cR (bodyOf Tryz.f71))))))))::[]) n d g f e i j m _ p ?_)
 cases o with
 | x0 q k =>
  try dsimp only at h
  by_cases a:k=0
  ·rw [if_pos a] at h
   obtain rfl:=Option.some.inj h
   exact pend_sound TTok mix 10 (hs:=[.c,.t true]) (by kernel_rfl) (by kernel_rfl) (by kernel_rfl) (.cons (bt a) .nil)
  ·rw [if_neg a] at h
   by_cases b:k=12
   ·rw [if_pos b] at h
    obtain rfl:=Option.some.inj h
    exact pend_sound TTok mix 13 (hs:=[.c,.t false,.t true]) (by kernel_rfl) (by kernel_rfl) (by kernel_rfl) (.cons (bf a) (.cons (bt b) .nil))
   ·rw [if_neg b] at h
    obtain rfl:=Option.some.inj h
    exact pend_sound TTok mix 13 (hs:=[.c,.t false,.t false]) (by kernel_rfl) (by kernel_rfl) (by kernel_rfl) (.cons (bf a) (.cons (bf b) .nil))
 | x1 u =>
  try dsimp only at h
  obtain rfl:=Option.some.inj h
  exact pend_sound TTok mix 10 (hs:=[.c,.c]) (by kernel_rfl) (by kernel_rfl) (by kernel_rfl) .nil
inductive Sj where
 | x0 (a:(List Ga))
def ZG:Sj→Ex
 | .x0 _=>.exit 0
def ZH  : Sj→PS
 | .x0 a=>⟨(dds 34 []),[.gh 0 (.srf 1),.row 25 2 (a.map Gb)]⟩
def ZI  (a b:Int) (c:(List Ga)):PS:=⟨(.srf 1::dd::dd::dd::dd::dd::dd::dd::di a::di b::(dds 24 [])),[.gh 0 (.srf 1),.row 25 2 (c.map Gb)]⟩
def Gq (n:Nat)  : Nat→Int→Int→(List Ga)→Option Sj
 | 0,_,_,_=>none
 | k+1,a,c,b =>
  if a<c then
   if 0≤c∧(c).toNat<b.length then
    (b[(c).toNat]?).bind fun (d:Ga) =>
    if 0≤a∧(a).toNat<b.length then
     (b[(a).toNat]?).bind fun (e:Ga) =>
     if 0≤a∧(a).toNat<b.length then
      (b[(a).toNat]?).bind fun (f:Ga) =>
      if 0≤c∧(c).toNat<(b.set (a).toNat d).length then
       ((b.set (a).toNat d)[(c).toNat]?).bind fun (g:Ga) =>
       Gq n  k (wi .i64 (a+1)) (wi .i64 (c-1)) ((b.set (a).toNat d).set (c).toNat e)
      else none
     else none
    else none
   else none
  else
   some (.x0 b)
theorem Kk {Fi:Ex→PS→Prop} (hF:KC 34 Fi) (ks:List Fr) (n:Nat)   : ∀ (k:Nat) (a b:Int) (c:(List Ga)) (o:Sj),Gq n  k a b c=some o→RunE Tryz.prog 34 Fi ks (ZG o) (ZH  o)→RunE Tryz.prog 34 Fi (.l k (cP (cB (cR (cR (bodyOf Tryz.f72)))))::ks) .normal (ZI  a b c)
 | 0,a,b,c,o,h,q=>by rw [Gq] at h; cases h
 | k+1,a,b,c,o,h,q=>by
  rw [Gq] at h
  by_cases g:a<b
  ·rw [if_pos g] at h
   by_cases i:0≤b∧(b).toNat<c.length
   ·rw [if_pos i] at h
    obtain ⟨d,u,h⟩:=bind_some h
    by_cases j:0≤a∧(a).toNat<c.length
    ·rw [if_pos j] at h
     obtain ⟨e,x,h⟩:=bind_some h
     by_cases m:0≤a∧(a).toNat<c.length
     ·rw [if_pos m] at h
      obtain ⟨a0,a1,h⟩:=bind_some h
      by_cases r:0≤b∧(b).toNat<(c.set (a).toNat d).length
      ·rw [if_pos r] at h
       obtain ⟨a2,a3,h⟩:=bind_some h
       exact pkk_sound TTok mix hF 13 (hs:=[.t true,.y (Gb d),.y (Gb e),.w ((c.set (a).toNat d).map Gb),.y (Gb a0),.w (((c.set (a).toNat d).set (b).toNat e).map Gb),.y (Gb a2)]) (ts:=[]) (s:=[0,1]) (l:=[0,8,9]) (by kernel_rfl) (by kernel_rfl) (.cons (dt g) (.cons (idx_ob (f:=Gb) i) (.cons (get_ob (f:=Gb) u) (.cons (idx_ob (f:=Gb) j) (.cons (get_ob (f:=Gb) x) (.cons (idx_ob (f:=Gb) m) (.cons (get_ob (f:=Gb) a1) (.cons (Eq.refl (pcells (.agg [.v (.string d.fName),.v (.int .i64 d.fIno)]))) (.cons (set_ob (f:=Gb) (l:=c) (k:=(a).toNat) (z:=d) (p:=.agg [.v (.string d.fName),.v (.int .i64 d.fIno)]) rfl) (.cons (idx_ob (f:=Gb) r) (.cons (get_ob (f:=Gb) a3) (.cons (Eq.refl (pcells (.agg [.v (.string e.fName),.v (.int .i64 e.fIno)]))) (.cons (set_ob (f:=Gb) (l:=(c.set (a).toNat d)) (k:=(b).toNat) (z:=e) (p:=.agg [.v (.string e.fName),.v (.int .i64 e.fIno)]) rfl) .nil))))))))))))) (Kk hF ks n  k (wi .i64 (a+1)) (wi .i64 (b-1)) ((c.set (a).toNat d).set (b).toNat e) _ h q)
      ·rw [if_neg r] at h; cases h
     ·rw [if_neg m] at h; cases h
    ·rw [if_neg j] at h; cases h
   ·rw [if_neg i] at h; cases h
  ·rw [if_neg g] at h
   cases h
   exact pkk_sound TTok mix hF 8 (hs:=[.t false]) (ts:=[]) (s:=[0,1]) (l:=[]) (by kernel_rfl) (by kernel_rfl) (.cons (df g) .nil) q
/- slices.reverseRangeCmpFunc[ringhall/api.Entry] -/
def GZ (n:Nat) (a:(List Ga)) (b c:Int) (f:(Ga→Ga→Option (Int))):Option ((List Ga)) :=
 (Gq n  n b (wi .i64 (c-1)) a).bind fun d=>match d with
 | .x0 e =>
  some e
theorem Z3 (n:Nat) (a:(List Ga)) (e f:Int) (g:(Ga→Ga→Option (Int))) (i:FuncId) (j:List PV) (o:∀ (x0:Ga) (x1:Ga) (r:Int),g x0 x1=some r→Ret Tryz.prog i ([Gb x0,Gb x1]++j) ((eI .i64) r)) (r:(List Ga)) (h:GZ n a e f g=some r):RetH Tryz.prog 72 [.srf 0,.d ((eI .i64) e),.d ((eI .i64) f),.d ((.clo i j))] [.row 25 2 (a.map Gb)] (.tup []) [.row 25 2 (r.map Gb)]:=by
 refine retH_run (n:=34) (fn:=Tryz.f72) (c:=bodyOf Tryz.f72) (by kernel_rfl) (by kernel_rfl) (by kernel_rfl) (by kernel_rfl) ?_
 have hF:KC 34 (FinH Tryz.prog Tryz.f72 [.row 25 2 (a.map Gb)] (.tup []) [.row 25 2 (r.map Gb)]):=FinH.kc' (by kernel_rfl)
 unfold GZ at h
 obtain ⟨k,m,h⟩:=bind_some h
 refine pkk_sound TTok mix hF 6 (hs:=[.n n]) (ts:=[]) (s:=[1,0]) (l:=[0,8,9]) (by kernel_rfl) (by kernel_rfl) .nil (Kk hF (.b 0::[]) n  n e (wi .i64 (f-1)) a _ m ?_)
 cases k with
 | x0 p =>
  try dsimp only at h
  obtain rfl:=Option.some.inj h
  exact pendH_sound TTok mix 1 (hs:=[]) [1] (by kernel_rfl) (by kernel_rfl) (by kernel_rfl) .nil
inductive GM where
 | x0 (a:Int) (b:(List Ga))
def KT:GM→Ex
 | .x0 _ _=>.exit 2
def KU (a b:Int) (i:(Ga→Ga→Option (Int))) (c:Int) (e:FuncId) (f:(List PV)):GM→PS
 | .x0 g h=>⟨(.srf 1::di a::di b::.d (.clo e f)::dd::dd::dd::dd::dd::di g::di c::(dds 130 [])),[.gh 0 (.srf 1),.row 25 2 (h.map Gb)]⟩
def KX (a b:Int) (i:(Ga→Ga→Option (Int))) (c:Int) (e:FuncId) (f:(List PV)) (g:Int) (h:(List Ga)):PS:=⟨(.srf 1::di a::di b::.d (.clo e f)::dd::dd::dd::dd::dd::di g::di c::(dds 130 [])),[.gh 0 (.srf 1),.row 25 2 (h.map Gb)]⟩
def Ge (n:Nat) (e c:Int) (d:(Ga→Ga→Option (Int))) (f:Int):Nat→Int→(List Ga)→Option GM
 | 0,_,_=>none
 | k+1,a,b =>
  if a<c then
   if 0≤a∧(a).toNat<b.length then
    (b[(a).toNat]?).bind fun (g:Ga) =>
    if 0≤(wi .i64 (a-1))∧((wi .i64 (a-1))).toNat<b.length then
     (b[((wi .i64 (a-1))).toNat]?).bind fun (h:Ga) =>
     (d g h).bind fun (i:(Int)) =>
     if i<0 then
      some (.x0 a b)
     else
      Ge n e c d f k (wi .i64 (a+1)) b
    else none
   else none
  else
   some (.x0 a b)
theorem SN {Fi:Ex→PS→Prop} (hF:KC 141 Fi) (ks:List Fr) (n:Nat) (i d:Int) (e:(Ga→Ga→Option (Int))) (j:Int) (m:FuncId) (p:(List PV)) (a0:∀ (x0:Ga) (x1:Ga) (r:Int),e x0 x1=some r→Ret Tryz.prog m ([Gb x0,Gb x1]++p) ((eI .i64) r)):∀ (k:Nat) (a:Int) (b:(List Ga)) (o:GM),Ge n i d e j k a b=some o→RunE Tryz.prog 141 Fi ks (KT o) (KU i d e j m p o)→RunE Tryz.prog 141 Fi (.l k (cP (cB (cL (cB (cL (cR (cP (cB (cR (cL (cR (cR (bodyOf Tryz.f73)))))))))))))::ks) .normal (KX i d e j m p a b)
 | 0,a,b,o,h,q=>by rw [Ge] at h; cases h
 | k+1,a,b,o,h,q=>by
  rw [Ge] at h
  by_cases g:a<d
  ·rw [if_pos g] at h
   by_cases u:0≤a∧(a).toNat<b.length
   ·rw [if_pos u] at h
    obtain ⟨v,a2,h⟩:=bind_some h
    by_cases w:0≤(wi .i64 (a-1))∧((wi .i64 (a-1))).toNat<b.length
    ·rw [if_pos w] at h
     obtain ⟨x,a3,h⟩:=bind_some h
     obtain ⟨a1,a4,h⟩:=bind_some h
     by_cases z:a1<0
     ·rw [if_pos z] at h
      cases h
      exact pkk_sound TTok mix hF 8 (hs:=[.t true,.c,.c,.c,.c,.y (Gb v),.c,.c,.c,.c,.c,.y (Gb x),.c,.r ((eI .i64) a1),.c,.c,.t false]) (ts:=[]) (s:=[0,1]) (l:=[0,1,2,3,9,10]) (by kernel_rfl) (by kernel_rfl) (.cons (dt g) (.cons (idx_ob (f:=Gb) u) (.cons (get_ob (f:=Gb) a2) (.cons (idx_ob (f:=Gb) w) (.cons (get_ob (f:=Gb) a3) (.cons (a0 v x _ a4) (.cons (bnf (dt z)) .nil))))))) q
     ·rw [if_neg z] at h
      exact pkk_sound TTok mix hF 9 (hs:=[.t true,.c,.c,.c,.c,.y (Gb v),.c,.c,.c,.c,.c,.y (Gb x),.c,.r ((eI .i64) a1),.c,.c,.t true]) (ts:=[]) (s:=[0,1]) (l:=[0,1,2,3,9,10]) (by kernel_rfl) (by kernel_rfl) (.cons (dt g) (.cons (idx_ob (f:=Gb) u) (.cons (get_ob (f:=Gb) a2) (.cons (idx_ob (f:=Gb) w) (.cons (get_ob (f:=Gb) a3) (.cons (a0 v x _ a4) (.cons (bnt (df z)) .nil))))))) (SN hF ks n i d e j m p a0 k (wi .i64 (a+1)) b _ h q)
    ·rw [if_neg w] at h; cases h
   ·rw [if_neg u] at h; cases h
  ·rw [if_neg g] at h
   cases h
   exact pkk_sound TTok mix hF 8 (hs:=[.t false,.c,.c,.c,.c,.c,.c,.c,.c,.c,.c,.c,.c,.c]) (ts:=[]) (s:=[0,1]) (l:=[0,1,2,3,9,10]) (by kernel_rfl) (by kernel_rfl) (.cons (df g) .nil) q
inductive GN where
 | x0 (a:(List Ga))
def KY:GN→Ex
 | .x0 _=>.exit 4
def KZ (a b:Int) (i:(Ga→Ga→Option (Int))) (c e:Int) (f:FuncId) (g:(List PV)):GN→PS
 | .x0 h=>⟨(.srf 1::di a::di b::.d (.clo f g)::dd::dd::dd::dd::dd::di c::di e::(dds 130 [])),[.gh 0 (.srf 1),.row 25 2 (h.map Gb)]⟩
def K0 (a b:Int) (j:(Ga→Ga→Option (Int))) (c e:Int) (f:FuncId) (g:(List PV)) (h:Int) (i:(List Ga)):PS:=⟨(.srf 1::di a::di b::.d (.clo f g)::dd::dd::dd::dd::dd::di c::di e::di h::(dds 129 [])),[.gh 0 (.srf 1),.row 25 2 (i.map Gb)]⟩
def Gf (n:Nat) (e f:Int) (d:(Ga→Ga→Option (Int))) (g h:Int):Nat→Int→(List Ga)→Option GN
 | 0,_,_=>none
 | k+1,a,b =>
  if a≥1 then
   if 0≤a∧(a).toNat<b.length then
    (b[(a).toNat]?).bind fun (i:Ga) =>
    if 0≤(wi .i64 (a-1))∧((wi .i64 (a-1))).toNat<b.length then
     (b[((wi .i64 (a-1))).toNat]?).bind fun (j:Ga) =>
     (d i j).bind fun (l:(Int)) =>
     if l<0 then
      if 0≤(wi .i64 (a-1))∧((wi .i64 (a-1))).toNat<b.length then
       (b[((wi .i64 (a-1))).toNat]?).bind fun (c:Ga) =>
       if 0≤a∧(a).toNat<b.length then
        (b[(a).toNat]?).bind fun (m:Ga) =>
        if 0≤a∧(a).toNat<b.length then
         (b[(a).toNat]?).bind fun (o:Ga) =>
         if 0≤(wi .i64 (a-1))∧((wi .i64 (a-1))).toNat<(b.set (a).toNat c).length then
          ((b.set (a).toNat c)[((wi .i64 (a-1))).toNat]?).bind fun (p:Ga) =>
          Gf n e f d g h k (wi .i64 (a-1)) ((b.set (a).toNat c).set ((wi .i64 (a-1))).toNat m)
         else none
        else none
       else none
      else none
     else
      some (.x0 b)
    else none
   else none
  else
   some (.x0 b)
theorem SP {Fi:Ex→PS→Prop} (hF:KC 141 Fi) (ks:List Fr) (n:Nat) (i j:Int) (e:(Ga→Ga→Option (Int))) (m u:Int) (x:FuncId) (a0:(List PV)) (a6:∀ (x0:Ga) (x1:Ga) (r:Int),e x0 x1=some r→Ret Tryz.prog x ([Gb x0,Gb x1]++a0) ((eI .i64) r)):∀ (k:Nat) (a:Int) (b:(List Ga)) (o:GN),Gf n i j e m u k a b=some o→RunE Tryz.prog 141 Fi ks (KY o) (KZ i j e m u x a0 o)→RunE Tryz.prog 141 Fi (.l k (cP (cB (cR (cT (cR (cL (cR (cR (cR (cR (cB (cL (cR (cP (cB (cR (cL (cR (cR (bodyOf Tryz.f73))))))))))))))))))))::ks) .normal (K0 i j e m u x a0 a b)
 | 0,a,b,o,h,q=>by rw [Gf] at h; cases h
 | k+1,a,b,o,h,q=>by
  rw [Gf] at h
  by_cases g:a≥1
  ·rw [if_pos g] at h
   by_cases a1:0≤a∧(a).toNat<b.length
   ·rw [if_pos a1] at h
    obtain ⟨a2,b2,h⟩:=bind_some h
    by_cases a3:0≤(wi .i64 (a-1))∧((wi .i64 (a-1))).toNat<b.length
    ·rw [if_pos a3] at h
     obtain ⟨a4,b3,h⟩:=bind_some h
     obtain ⟨a7,b4,h⟩:=bind_some h
     by_cases a5:a7<0
     ·rw [if_pos a5] at h
      by_cases a8:0≤(wi .i64 (a-1))∧((wi .i64 (a-1))).toNat<b.length
      ·rw [if_pos a8] at h
       obtain ⟨c,b5,h⟩:=bind_some h
       by_cases a9:0≤a∧(a).toNat<b.length
       ·rw [if_pos a9] at h
        obtain ⟨d,b6,h⟩:=bind_some h
        by_cases b0:0≤a∧(a).toNat<b.length
        ·rw [if_pos b0] at h
         obtain ⟨b7,b8,h⟩:=bind_some h
         by_cases b1:0≤(wi .i64 (a-1))∧((wi .i64 (a-1))).toNat<(b.set (a).toNat c).length
         ·rw [if_pos b1] at h
          obtain ⟨b9,c0,h⟩:=bind_some h
          exact pkk_sound TTok mix hF 16 (hs:=[.t true,.y (Gb a2),.y (Gb a4),.r ((eI .i64) a7),.t false,.y (Gb c),.y (Gb d),.w ((b.set (a).toNat c).map Gb),.y (Gb b7),.w (((b.set (a).toNat c).set ((wi .i64 (a-1))).toNat d).map Gb),.y (Gb b9)]) (ts:=[]) (s:=[0,1]) (l:=[0,1,2,3,9,10,11]) (by kernel_rfl) (by kernel_rfl) (.cons (dt g) (.cons (idx_ob (f:=Gb) a1) (.cons (get_ob (f:=Gb) b2) (.cons (idx_ob (f:=Gb) a3) (.cons (get_ob (f:=Gb) b3) (.cons (a6 a2 a4 _ b4) (.cons (bnf (dt a5)) (.cons (idx_ob (f:=Gb) a8) (.cons (get_ob (f:=Gb) b5) (.cons (idx_ob (f:=Gb) a9) (.cons (get_ob (f:=Gb) b6) (.cons (idx_ob (f:=Gb) b0) (.cons (get_ob (f:=Gb) b8) (.cons (Eq.refl (pcells (.agg [.v (.string c.fName),.v (.int .i64 c.fIno)]))) (.cons (set_ob (f:=Gb) (l:=b) (k:=(a).toNat) (z:=c) (p:=.agg [.v (.string c.fName),.v (.int .i64 c.fIno)]) rfl) (.cons (idx_ob (f:=Gb) b1) (.cons (get_ob (f:=Gb) c0) (.cons (Eq.refl (pcells (.agg [.v (.string d.fName),.v (.int .i64 d.fIno)]))) (.cons (set_ob (f:=Gb) (l:=(b.set (a).toNat c)) (k:=((wi .i64 (a-1))).toNat) (z:=d) (p:=.agg [.v (.string d.fName),.v (.int .i64 d.fIno)]) rfl) .nil))))))))))))))))))) (SP hF ks n i j e m u x a0 a6 k (wi .i64 (a-1)) ((b.set (a).toNat c).set ((wi .i64 (a-1))).toNat d) _ h q)
         ·rw [if_neg b1] at h; cases h
        ·rw [if_neg b0] at h; cases h
       ·rw [if_neg a9] at h; cases h
      ·rw [if_neg a8] at h; cases h
     ·rw [if_neg a5] at h
      cases h
      exact pkk_sound TTok mix hF 17 (hs:=[.t true,.y (Gb a2),.y (Gb a4),.r ((eI .i64) a7),.t true]) (ts:=[]) (s:=[0,1]) (l:=[0,1,2,3,9,10]) (by kernel_rfl) (by kernel_rfl) (.cons (dt g) (.cons (idx_ob (f:=Gb) a1) (.cons (get_ob (f:=Gb) b2) (.cons (idx_ob (f:=Gb) a3) (.cons (get_ob (f:=Gb) b3) (.cons (a6 a2 a4 _ b4) (.cons (bnt (df a5)) .nil))))))) q
    ·rw [if_neg a3] at h; cases h
   ·rw [if_neg a1] at h; cases h
  ·rw [if_neg g] at h
   cases h
   exact pkk_sound TTok mix hF 8 (hs:=[.t false]) (ts:=[]) (s:=[0,1]) (l:=[0,1,2,3,9,10]) (by kernel_rfl) (by kernel_rfl) (.cons (df g) .nil) q
inductive GO where
 | x0 (a:(List Ga))
def K1:GO→Ex
 | .x0 _=>.exit 6
def K2 (a b:Int) (i:(Ga→Ga→Option (Int))) (c e:Int) (f:FuncId) (g:(List PV)):GO→PS
 | .x0 h=>⟨(.srf 1::di a::di b::.d (.clo f g)::dd::dd::dd::dd::dd::di c::di e::(dds 130 [])),[.gh 0 (.srf 1),.row 25 2 (h.map Gb)]⟩
def K3 (a b:Int) (j:(Ga→Ga→Option (Int))) (c e:Int) (f:FuncId) (g:(List PV)) (h:Int) (i:(List Ga)):PS:=⟨(.srf 1::di a::di b::.d (.clo f g)::dd::dd::dd::dd::dd::di c::di e::dd::di h::(dds 128 [])),[.gh 0 (.srf 1),.row 25 2 (i.map Gb)]⟩
def Gg (n:Nat) (f d:Int) (e:(Ga→Ga→Option (Int))) (g h:Int):Nat→Int→(List Ga)→Option GO
 | 0,_,_=>none
 | k+1,a,b =>
  if a<d then
   if 0≤a∧(a).toNat<b.length then
    (b[(a).toNat]?).bind fun (i:Ga) =>
    if 0≤(wi .i64 (a-1))∧((wi .i64 (a-1))).toNat<b.length then
     (b[((wi .i64 (a-1))).toNat]?).bind fun (j:Ga) =>
     (e i j).bind fun (l:(Int)) =>
     if l<0 then
      if 0≤(wi .i64 (a-1))∧((wi .i64 (a-1))).toNat<b.length then
       (b[((wi .i64 (a-1))).toNat]?).bind fun (c:Ga) =>
       if 0≤a∧(a).toNat<b.length then
        (b[(a).toNat]?).bind fun (m:Ga) =>
        if 0≤a∧(a).toNat<b.length then
         (b[(a).toNat]?).bind fun (o:Ga) =>
         if 0≤(wi .i64 (a-1))∧((wi .i64 (a-1))).toNat<(b.set (a).toNat c).length then
          ((b.set (a).toNat c)[((wi .i64 (a-1))).toNat]?).bind fun (p:Ga) =>
          Gg n f d e g h k (wi .i64 (a+1)) ((b.set (a).toNat c).set ((wi .i64 (a-1))).toNat m)
         else none
        else none
       else none
      else none
     else
      some (.x0 b)
    else none
   else none
  else
   some (.x0 b)
theorem SQ {Fi:Ex→PS→Prop} (hF:KC 141 Fi) (ks:List Fr) (n:Nat) (j e:Int) (g:(Ga→Ga→Option (Int))) (m u:Int) (x:FuncId) (a0:(List PV)) (a6:∀ (x0:Ga) (x1:Ga) (r:Int),g x0 x1=some r→Ret Tryz.prog x ([Gb x0,Gb x1]++a0) ((eI .i64) r)):∀ (k:Nat) (a:Int) (b:(List Ga)) (o:GO),Gg n j e g m u k a b=some o→RunE Tryz.prog 141 Fi ks (K1 o) (K2 j e g m u x a0 o)→RunE Tryz.prog 141 Fi (.l k (cP (cB (cR (cT (cR (cR (cR (cR (cR (cR (cB (cL (cR (cP (cB (cR (cL (cR (cR (bodyOf Tryz.f73))))))))))))))))))))::ks) .normal (K3 j e g m u x a0 a b)
 | 0,a,b,o,h,q=>by rw [Gg] at h; cases h
 | k+1,a,b,o,h,q=>by
  rw [Gg] at h
  by_cases i:a<e
  ·rw [if_pos i] at h
   by_cases a1:0≤a∧(a).toNat<b.length
   ·rw [if_pos a1] at h
    obtain ⟨a2,b2,h⟩:=bind_some h
    by_cases a3:0≤(wi .i64 (a-1))∧((wi .i64 (a-1))).toNat<b.length
    ·rw [if_pos a3] at h
     obtain ⟨a4,b3,h⟩:=bind_some h
     obtain ⟨a7,b4,h⟩:=bind_some h
     by_cases a5:a7<0
     ·rw [if_pos a5] at h
      by_cases a8:0≤(wi .i64 (a-1))∧((wi .i64 (a-1))).toNat<b.length
      ·rw [if_pos a8] at h
       obtain ⟨c,b5,h⟩:=bind_some h
       by_cases a9:0≤a∧(a).toNat<b.length
       ·rw [if_pos a9] at h
        obtain ⟨d,b6,h⟩:=bind_some h
        by_cases b0:0≤a∧(a).toNat<b.length
        ·rw [if_pos b0] at h
         obtain ⟨b7,b8,h⟩:=bind_some h
         by_cases b1:0≤(wi .i64 (a-1))∧((wi .i64 (a-1))).toNat<(b.set (a).toNat c).length
         ·rw [if_pos b1] at h
          obtain ⟨b9,c0,h⟩:=bind_some h
          exact pkk_sound TTok mix hF 16 (hs:=[.t true,.y (Gb a2),.y (Gb a4),.r ((eI .i64) a7),.t false,.y (Gb c),.y (Gb d),.w ((b.set (a).toNat c).map Gb),.y (Gb b7),.w (((b.set (a).toNat c).set ((wi .i64 (a-1))).toNat d).map Gb),.y (Gb b9)]) (ts:=[]) (s:=[0,1]) (l:=[0,1,2,3,9,10,12]) (by kernel_rfl) (by kernel_rfl) (.cons (dt i) (.cons (idx_ob (f:=Gb) a1) (.cons (get_ob (f:=Gb) b2) (.cons (idx_ob (f:=Gb) a3) (.cons (get_ob (f:=Gb) b3) (.cons (a6 a2 a4 _ b4) (.cons (bnf (dt a5)) (.cons (idx_ob (f:=Gb) a8) (.cons (get_ob (f:=Gb) b5) (.cons (idx_ob (f:=Gb) a9) (.cons (get_ob (f:=Gb) b6) (.cons (idx_ob (f:=Gb) b0) (.cons (get_ob (f:=Gb) b8) (.cons (Eq.refl (pcells (.agg [.v (.string c.fName),.v (.int .i64 c.fIno)]))) (.cons (set_ob (f:=Gb) (l:=b) (k:=(a).toNat) (z:=c) (p:=.agg [.v (.string c.fName),.v (.int .i64 c.fIno)]) rfl) (.cons (idx_ob (f:=Gb) b1) (.cons (get_ob (f:=Gb) c0) (.cons (Eq.refl (pcells (.agg [.v (.string d.fName),.v (.int .i64 d.fIno)]))) (.cons (set_ob (f:=Gb) (l:=(b.set (a).toNat c)) (k:=((wi .i64 (a-1))).toNat) (z:=d) (p:=.agg [.v (.string d.fName),.v (.int .i64 d.fIno)]) rfl) .nil))))))))))))))))))) (SQ hF ks n j e g m u x a0 a6 k (wi .i64 (a+1)) ((b.set (a).toNat c).set ((wi .i64 (a-1))).toNat d) _ h q)
         ·rw [if_neg b1] at h; cases h
        ·rw [if_neg b0] at h; cases h
       ·rw [if_neg a9] at h; cases h
      ·rw [if_neg a8] at h; cases h
     ·rw [if_neg a5] at h
      cases h
      exact pkk_sound TTok mix hF 17 (hs:=[.t true,.y (Gb a2),.y (Gb a4),.r ((eI .i64) a7),.t true]) (ts:=[]) (s:=[0,1]) (l:=[0,1,2,3,9,10]) (by kernel_rfl) (by kernel_rfl) (.cons (dt i) (.cons (idx_ob (f:=Gb) a1) (.cons (get_ob (f:=Gb) b2) (.cons (idx_ob (f:=Gb) a3) (.cons (get_ob (f:=Gb) b3) (.cons (a6 a2 a4 _ b4) (.cons (bnt (df a5)) .nil))))))) q
    ·rw [if_neg a3] at h; cases h
   ·rw [if_neg a1] at h; cases h
  ·rw [if_neg i] at h
   cases h
   exact pkk_sound TTok mix hF 8 (hs:=[.t false]) (ts:=[]) (s:=[0,1]) (l:=[0,1,2,3,9,10]) (by kernel_rfl) (by kernel_rfl) (.cons (df i) .nil) q
inductive GP where
 | x0 (a:(List Ga))
def K4:GP→Ex
 | .x0 _=>.exit 6
def K5 (a b:Int) (i:(Ga→Ga→Option (Int))) (c e:Int) (f:FuncId) (g:(List PV)):GP→PS
 | .x0 h=>⟨(.srf 1::di a::di b::.d (.clo f g)::dd::dd::dd::dd::dd::di c::di e::(dds 130 [])),[.gh 0 (.srf 1),.row 25 2 (h.map Gb)]⟩
def K6 (a b:Int) (j:(Ga→Ga→Option (Int))) (c e:Int) (f:FuncId) (g:(List PV)) (h:Int) (i:(List Ga)):PS:=⟨(.srf 1::di a::di b::.d (.clo f g)::dd::dd::dd::dd::dd::di c::di e::dd::di h::(dds 128 [])),[.gh 0 (.srf 1),.row 25 2 (i.map Gb)]⟩
def Gh (n:Nat) (f d:Int) (e:(Ga→Ga→Option (Int))) (g h:Int):Nat→Int→(List Ga)→Option GP
 | 0,_,_=>none
 | k+1,a,b =>
  if a<d then
   if 0≤a∧(a).toNat<b.length then
    (b[(a).toNat]?).bind fun (i:Ga) =>
    if 0≤(wi .i64 (a-1))∧((wi .i64 (a-1))).toNat<b.length then
     (b[((wi .i64 (a-1))).toNat]?).bind fun (j:Ga) =>
     (e i j).bind fun (l:(Int)) =>
     if l<0 then
      if 0≤(wi .i64 (a-1))∧((wi .i64 (a-1))).toNat<b.length then
       (b[((wi .i64 (a-1))).toNat]?).bind fun (c:Ga) =>
       if 0≤a∧(a).toNat<b.length then
        (b[(a).toNat]?).bind fun (m:Ga) =>
        if 0≤a∧(a).toNat<b.length then
         (b[(a).toNat]?).bind fun (o:Ga) =>
         if 0≤(wi .i64 (a-1))∧((wi .i64 (a-1))).toNat<(b.set (a).toNat c).length then
          ((b.set (a).toNat c)[((wi .i64 (a-1))).toNat]?).bind fun (p:Ga) =>
          Gh n f d e g h k (wi .i64 (a+1)) ((b.set (a).toNat c).set ((wi .i64 (a-1))).toNat m)
         else none
        else none
       else none
      else none
     else
      some (.x0 b)
    else none
   else none
  else
   some (.x0 b)
theorem SR {Fi:Ex→PS→Prop} (hF:KC 141 Fi) (ks:List Fr) (n:Nat) (j e:Int) (g:(Ga→Ga→Option (Int))) (m u:Int) (x:FuncId) (a0:(List PV)) (a6:∀ (x0:Ga) (x1:Ga) (r:Int),g x0 x1=some r→Ret Tryz.prog x ([Gb x0,Gb x1]++a0) ((eI .i64) r)):∀ (k:Nat) (a:Int) (b:(List Ga)) (o:GP),Gh n j e g m u k a b=some o→RunE Tryz.prog 141 Fi ks (K4 o) (K5 j e g m u x a0 o)→RunE Tryz.prog 141 Fi (.l k (cP (cB (cR (cT (cR (cR (cR (cR (cR (cR (cB (cL (cR (cP (cB (cR (cL (cR (cR (bodyOf Tryz.f73))))))))))))))))))))::ks) .normal (K6 j e g m u x a0 a b)
 | 0,a,b,o,h,q=>by rw [Gh] at h; cases h
 | k+1,a,b,o,h,q=>by
  rw [Gh] at h
  by_cases i:a<e
  ·rw [if_pos i] at h
   by_cases a1:0≤a∧(a).toNat<b.length
   ·rw [if_pos a1] at h
    obtain ⟨a2,b2,h⟩:=bind_some h
    by_cases a3:0≤(wi .i64 (a-1))∧((wi .i64 (a-1))).toNat<b.length
    ·rw [if_pos a3] at h
     obtain ⟨a4,b3,h⟩:=bind_some h
     obtain ⟨a7,b4,h⟩:=bind_some h
     by_cases a5:a7<0
     ·rw [if_pos a5] at h
      by_cases a8:0≤(wi .i64 (a-1))∧((wi .i64 (a-1))).toNat<b.length
      ·rw [if_pos a8] at h
       obtain ⟨c,b5,h⟩:=bind_some h
       by_cases a9:0≤a∧(a).toNat<b.length
       ·rw [if_pos a9] at h
        obtain ⟨d,b6,h⟩:=bind_some h
        by_cases b0:0≤a∧(a).toNat<b.length
        ·rw [if_pos b0] at h
         obtain ⟨b7,b8,h⟩:=bind_some h
         by_cases b1:0≤(wi .i64 (a-1))∧((wi .i64 (a-1))).toNat<(b.set (a).toNat c).length
         ·rw [if_pos b1] at h
          obtain ⟨b9,c0,h⟩:=bind_some h
          exact pkk_sound TTok mix hF 16 (hs:=[.t true,.y (Gb a2),.y (Gb a4),.r ((eI .i64) a7),.t false,.y (Gb c),.y (Gb d),.w ((b.set (a).toNat c).map Gb),.y (Gb b7),.w (((b.set (a).toNat c).set ((wi .i64 (a-1))).toNat d).map Gb),.y (Gb b9)]) (ts:=[]) (s:=[0,1]) (l:=[0,1,2,3,9,10,12]) (by kernel_rfl) (by kernel_rfl) (.cons (dt i) (.cons (idx_ob (f:=Gb) a1) (.cons (get_ob (f:=Gb) b2) (.cons (idx_ob (f:=Gb) a3) (.cons (get_ob (f:=Gb) b3) (.cons (a6 a2 a4 _ b4) (.cons (bnf (dt a5)) (.cons (idx_ob (f:=Gb) a8) (.cons (get_ob (f:=Gb) b5) (.cons (idx_ob (f:=Gb) a9) (.cons (get_ob (f:=Gb) b6) (.cons (idx_ob (f:=Gb) b0) (.cons (get_ob (f:=Gb) b8) (.cons (Eq.refl (pcells (.agg [.v (.string c.fName),.v (.int .i64 c.fIno)]))) (.cons (set_ob (f:=Gb) (l:=b) (k:=(a).toNat) (z:=c) (p:=.agg [.v (.string c.fName),.v (.int .i64 c.fIno)]) rfl) (.cons (idx_ob (f:=Gb) b1) (.cons (get_ob (f:=Gb) c0) (.cons (Eq.refl (pcells (.agg [.v (.string d.fName),.v (.int .i64 d.fIno)]))) (.cons (set_ob (f:=Gb) (l:=(b.set (a).toNat c)) (k:=((wi .i64 (a-1))).toNat) (z:=d) (p:=.agg [.v (.string d.fName),.v (.int .i64 d.fIno)]) rfl) .nil))))))))))))))))))) (SR hF ks n j e g m u x a0 a6 k (wi .i64 (a+1)) ((b.set (a).toNat c).set ((wi .i64 (a-1))).toNat d) _ h q)
         ·rw [if_neg b1] at h; cases h
        ·rw [if_neg b0] at h; cases h
       ·rw [if_neg a9] at h; cases h
      ·rw [if_neg a8] at h; cases h
     ·rw [if_neg a5] at h
      cases h
      exact pkk_sound TTok mix hF 17 (hs:=[.t true,.y (Gb a2),.y (Gb a4),.r ((eI .i64) a7),.t true]) (ts:=[]) (s:=[0,1]) (l:=[0,1,2,3,9,10]) (by kernel_rfl) (by kernel_rfl) (.cons (dt i) (.cons (idx_ob (f:=Gb) a1) (.cons (get_ob (f:=Gb) b2) (.cons (idx_ob (f:=Gb) a3) (.cons (get_ob (f:=Gb) b3) (.cons (a6 a2 a4 _ b4) (.cons (bnt (df a5)) .nil))))))) q
    ·rw [if_neg a3] at h; cases h
   ·rw [if_neg a1] at h; cases h
  ·rw [if_neg i] at h
   cases h
   exact pkk_sound TTok mix hF 8 (hs:=[.t false]) (ts:=[]) (s:=[0,1]) (l:=[0,1,2,3,9,10]) (by kernel_rfl) (by kernel_rfl) (.cons (df i) .nil) q
inductive GQ where
 | x0 (a:Bool) (b:(List Ga))
 | x1 (c:(List Ga))
def K7:GQ→Ex
 | .x0 _ _=>.ret
 | .x1 _=>.exit 0
def K8 (e f:Int) (g:(Ga→Ga→Option (Int))) (h:FuncId) (i:(List PV)):GQ→PS
 | .x0 a b=>⟨(dds 8 (.d (.v (.bool a))::(dds 132 []))),[.gh 0 (.srf 1),.row 25 2 (b.map Gb)]⟩
 | .x1 c=>⟨(dds 141 []),[.gh 0 (.srf 1),.row 25 2 (c.map Gb)]⟩
def K9 (a b:Int) (i:(Ga→Ga→Option (Int))) (c:FuncId) (e:(List PV)) (f g:Int) (h:(List Ga)):PS:=⟨(.srf 1::di a::di b::.d (.clo c e)::dd::dd::dd::dd::dd::di f::di g::(dds 130 [])),[.gh 0 (.srf 1),.row 25 2 (h.map Gb)]⟩
def Gc (n:Nat) (d c:Int) (f:(Ga→Ga→Option (Int))):Nat→Int→Int→(List Ga)→Option GQ
 | 0,_,_,_=>none
 | k+1,l,e,i =>
  if e<5 then
   (Ge n d c f e n l i).bind fun m=>match m with
   | .x0 a b =>
    if a=c then
     some (.x0 true b)
    else
     if (wi .i64 (c-d))<50 then
      some (.x0 false b)
     else
      if 0≤(wi .i64 (a-1))∧((wi .i64 (a-1))).toNat<b.length then
       (b[((wi .i64 (a-1))).toNat]?).bind fun (g:Ga) =>
       if 0≤a∧(a).toNat<b.length then
        (b[(a).toNat]?).bind fun (h:Ga) =>
        if 0≤a∧(a).toNat<b.length then
         (b[(a).toNat]?).bind fun (t:Ga) =>
         if 0≤(wi .i64 (a-1))∧((wi .i64 (a-1))).toNat<(b.set (a).toNat g).length then
          ((b.set (a).toNat g)[((wi .i64 (a-1))).toNat]?).bind fun (u:Ga) =>
          if (wi .i64 (a-d))≥2 then
           (Gf n d c f a e n (wi .i64 (a-1)) ((b.set (a).toNat g).set ((wi .i64 (a-1))).toNat h)).bind fun o=>match o with
           | .x0 j =>
             if (wi .i64 (c-a))≥2 then
              (Gg n d c f a e n (wi .i64 (a+1)) j).bind fun p=>match p with
              | .x0 q =>
               Gc n d c f k a (wi .i64 (e+1)) q
             else
              Gc n d c f k a (wi .i64 (e+1)) j
          else
           if (wi .i64 (c-a))≥2 then
            (Gh n d c f a e n (wi .i64 (a+1)) ((b.set (a).toNat g).set ((wi .i64 (a-1))).toNat h)).bind fun r=>match r with
            | .x0 s =>
              Gc n d c f k a (wi .i64 (e+1)) s
           else
            Gc n d c f k a (wi .i64 (e+1)) ((b.set (a).toNat g).set ((wi .i64 (a-1))).toNat h)
         else none
        else none
       else none
      else none
  else
   some (.x1 i)
theorem Gu {Fi:Ex→PS→Prop} (hF:KC 141 Fi) (ks:List Fr) (n:Nat) (i g:Int) (m:(Ga→Ga→Option (Int))) (u:FuncId) (x:(List PV)) (a0:∀ (x0:Ga) (x1:Ga) (r:Int),m x0 x1=some r→Ret Tryz.prog u ([Gb x0,Gb x1]++x) ((eI .i64) r)):∀ (k:Nat) (a3 j:Int) (a4:(List Ga)) (o:GQ),Gc n i g m k a3 j a4=some o→RunE Tryz.prog 141 Fi ks (K7 o) (K8 i g m u x o)→RunE Tryz.prog 141 Fi (.l k (cP (cB (cR (cL (cR (cR (bodyOf Tryz.f73)))))))::ks) .normal (K9 i g m u x a3 j a4)
 | 0,a3,j,a4,o,h,q=>by rw [Gc] at h; cases h
 | k+1,a3,j,a4,o,h,q=>by
  rw [Gc] at h
  by_cases b0:j<5
  ·rw [if_pos b0] at h
   obtain ⟨c0,c1,h⟩:=bind_some h
   refine pkk_sound TTok mix hF 11 (hs:=[.t true,.n n]) (ts:=[]) (s:=[0,1]) (l:=[0,1,2,3,9,10]) (by kernel_rfl) (by kernel_rfl) (.cons (dt b0) .nil) (SN hF (.b 2::.s (cR (cB (cL (cR (cP (cB (cR (cL (cR (cR (bodyOf Tryz.f73)))))))))))::.b 1::.s (cR (cR (cP (cB (cR (cL (cR (cR (bodyOf Tryz.f73)))))))))::.l k (cP (cB (cR (cL (cR (cR (bodyOf Tryz.f73)))))))::ks) n i g m j u x a0 n a3 a4 _ c1 ?_)
   cases c0 with
   | x0 a e =>
    try dsimp only at h
    by_cases a1:a=g
    ·rw [if_pos a1] at h
     cases h
     exact pkk_sound TTok mix hF 12 (hs:=[.t true]) (ts:=[]) (s:=[0,1]) (l:=[8]) (by kernel_rfl) (by kernel_rfl) (.cons (bt a1) .nil) q
    ·rw [if_neg a1] at h
     by_cases a2:(wi .i64 (g-i))<50
     ·rw [if_pos a2] at h
      cases h
      exact pkk_sound TTok mix hF 17 (hs:=[.t false,.t true]) (ts:=[]) (s:=[0,1]) (l:=[8]) (by kernel_rfl) (by kernel_rfl) (.cons (bf a1) (.cons (dt a2) .nil)) q
     ·rw [if_neg a2] at h
      by_cases a5:0≤(wi .i64 (a-1))∧((wi .i64 (a-1))).toNat<e.length
      ·rw [if_pos a5] at h
       obtain ⟨c,b3,h⟩:=bind_some h
       by_cases a6:0≤a∧(a).toNat<e.length
       ·rw [if_pos a6] at h
        obtain ⟨d,b4,h⟩:=bind_some h
        by_cases a7:0≤a∧(a).toNat<e.length
        ·rw [if_pos a7] at h
         obtain ⟨b5,b6,h⟩:=bind_some h
         by_cases a8:0≤(wi .i64 (a-1))∧((wi .i64 (a-1))).toNat<(e.set (a).toNat c).length
         ·rw [if_pos a8] at h
          obtain ⟨b7,b8,h⟩:=bind_some h
          by_cases a9:(wi .i64 (a-i))≥2
          ·rw [if_pos a9] at h
           obtain ⟨c2,c3,h⟩:=bind_some h
           refine pkk_sound TTok mix hF 21 (hs:=[.t false,.t false,.y (Gb c),.y (Gb d),.w ((e.set (a).toNat c).map Gb),.y (Gb b5),.w (((e.set (a).toNat c).set ((wi .i64 (a-1))).toNat d).map Gb),.y (Gb b7),.t true,.n n]) (ts:=[]) (s:=[0,1]) (l:=[0,1,2,3,9,10,11]) (by kernel_rfl) (by kernel_rfl) (.cons (bf a1) (.cons (df a2) (.cons (idx_ob (f:=Gb) a5) (.cons (get_ob (f:=Gb) b3) (.cons (idx_ob (f:=Gb) a6) (.cons (get_ob (f:=Gb) b4) (.cons (idx_ob (f:=Gb) a7) (.cons (get_ob (f:=Gb) b6) (.cons (Eq.refl (pcells (.agg [.v (.string c.fName),.v (.int .i64 c.fIno)]))) (.cons (set_ob (f:=Gb) (l:=e) (k:=(a).toNat) (z:=c) (p:=.agg [.v (.string c.fName),.v (.int .i64 c.fIno)]) rfl) (.cons (idx_ob (f:=Gb) a8) (.cons (get_ob (f:=Gb) b8) (.cons (Eq.refl (pcells (.agg [.v (.string d.fName),.v (.int .i64 d.fIno)]))) (.cons (set_ob (f:=Gb) (l:=(e.set (a).toNat c)) (k:=((wi .i64 (a-1))).toNat) (z:=d) (p:=.agg [.v (.string d.fName),.v (.int .i64 d.fIno)]) rfl) (.cons (dt a9) .nil))))))))))))))) (SP hF (.b 4::.s (cR (cR (cR (cR (cR (cB (cL (cR (cP (cB (cR (cL (cR (cR (bodyOf Tryz.f73)))))))))))))))::.b 1::.s (cR (cR (cP (cB (cR (cL (cR (cR (bodyOf Tryz.f73)))))))))::.l k (cP (cB (cR (cL (cR (cR (bodyOf Tryz.f73)))))))::ks) n i g m a j u x a0 n (wi .i64 (a-1)) ((e.set (a).toNat c).set ((wi .i64 (a-1))).toNat d) _ c3 ?_)
           cases c2 with
           | x0 b9 =>
            try dsimp only at h
            by_cases b1:(wi .i64 (g-a))≥2
            ·rw [if_pos b1] at h
             obtain ⟨c4,c5,h⟩:=bind_some h
             refine pkk_sound TTok mix hF 8 (hs:=[.t true,.n n]) (ts:=[]) (s:=[0,1]) (l:=[0,1,2,3,9,10,12]) (by kernel_rfl) (by kernel_rfl) (.cons (dt b1) .nil) (SQ hF (.b 6::.b 1::.s (cR (cR (cP (cB (cR (cL (cR (cR (bodyOf Tryz.f73)))))))))::.l k (cP (cB (cR (cL (cR (cR (bodyOf Tryz.f73)))))))::ks) n i g m a j u x a0 n (wi .i64 (a+1)) b9 _ c5 ?_)
             cases c4 with
             | x0 c6 =>
              try dsimp only at h
              exact pkk_sound TTok mix hF 3 (hs:=[]) (ts:=[]) (s:=[0,1]) (l:=[0,1,2,3,9,10]) (by kernel_rfl) (by kernel_rfl) .nil (Gu hF ks n i g m u x a0 k a (wi .i64 (j+1)) c6 _ h q)
            ·rw [if_neg b1] at h
             exact pkk_sound TTok mix hF 7 (hs:=[.t false]) (ts:=[]) (s:=[0,1]) (l:=[0,1,2,3,9,10]) (by kernel_rfl) (by kernel_rfl) (.cons (df b1) .nil) (Gu hF ks n i g m u x a0 k a (wi .i64 (j+1)) b9 _ h q)
          ·rw [if_neg a9] at h
           by_cases b2:(wi .i64 (g-a))≥2
           ·rw [if_pos b2] at h
            obtain ⟨c7,c8,h⟩:=bind_some h
            refine pkk_sound TTok mix hF 25 (hs:=[.t false,.t false,.y (Gb c),.y (Gb d),.w ((e.set (a).toNat c).map Gb),.y (Gb b5),.w (((e.set (a).toNat c).set ((wi .i64 (a-1))).toNat d).map Gb),.y (Gb b7),.t false,.t true,.n n]) (ts:=[]) (s:=[0,1]) (l:=[0,1,2,3,9,10,12]) (by kernel_rfl) (by kernel_rfl) (.cons (bf a1) (.cons (df a2) (.cons (idx_ob (f:=Gb) a5) (.cons (get_ob (f:=Gb) b3) (.cons (idx_ob (f:=Gb) a6) (.cons (get_ob (f:=Gb) b4) (.cons (idx_ob (f:=Gb) a7) (.cons (get_ob (f:=Gb) b6) (.cons (Eq.refl (pcells (.agg [.v (.string c.fName),.v (.int .i64 c.fIno)]))) (.cons (set_ob (f:=Gb) (l:=e) (k:=(a).toNat) (z:=c) (p:=.agg [.v (.string c.fName),.v (.int .i64 c.fIno)]) rfl) (.cons (idx_ob (f:=Gb) a8) (.cons (get_ob (f:=Gb) b8) (.cons (Eq.refl (pcells (.agg [.v (.string d.fName),.v (.int .i64 d.fIno)]))) (.cons (set_ob (f:=Gb) (l:=(e.set (a).toNat c)) (k:=((wi .i64 (a-1))).toNat) (z:=d) (p:=.agg [.v (.string d.fName),.v (.int .i64 d.fIno)]) rfl) (.cons (df a9) (.cons (dt b2) .nil)))))))))))))))) (SR hF (.b 6::.b 1::.s (cR (cR (cP (cB (cR (cL (cR (cR (bodyOf Tryz.f73)))))))))::.l k (cP (cB (cR (cL (cR (cR (bodyOf Tryz.f73)))))))::ks) n i g m a j u x a0 n (wi .i64 (a+1)) ((e.set (a).toNat c).set ((wi .i64 (a-1))).toNat d) _ c8 ?_)
            cases c7 with
            | x0 c9 =>
             try dsimp only at h
             exact pkk_sound TTok mix hF 3 (hs:=[]) (ts:=[]) (s:=[0,1]) (l:=[0,1,2,3,9,10]) (by kernel_rfl) (by kernel_rfl) .nil (Gu hF ks n i g m u x a0 k a (wi .i64 (j+1)) c9 _ h q)
           ·rw [if_neg b2] at h
            exact pkk_sound TTok mix hF 24 (hs:=[.t false,.t false,.y (Gb c),.y (Gb d),.w ((e.set (a).toNat c).map Gb),.y (Gb b5),.w (((e.set (a).toNat c).set ((wi .i64 (a-1))).toNat d).map Gb),.y (Gb b7),.t false,.t false]) (ts:=[]) (s:=[0,1]) (l:=[0,1,2,3,9,10]) (by kernel_rfl) (by kernel_rfl) (.cons (bf a1) (.cons (df a2) (.cons (idx_ob (f:=Gb) a5) (.cons (get_ob (f:=Gb) b3) (.cons (idx_ob (f:=Gb) a6) (.cons (get_ob (f:=Gb) b4) (.cons (idx_ob (f:=Gb) a7) (.cons (get_ob (f:=Gb) b6) (.cons (Eq.refl (pcells (.agg [.v (.string c.fName),.v (.int .i64 c.fIno)]))) (.cons (set_ob (f:=Gb) (l:=e) (k:=(a).toNat) (z:=c) (p:=.agg [.v (.string c.fName),.v (.int .i64 c.fIno)]) rfl) (.cons (idx_ob (f:=Gb) a8) (.cons (get_ob (f:=Gb) b8) (.cons (Eq.refl (pcells (.agg [.v (.string d.fName),.v (.int .i64 d.fIno)]))) (.cons (set_ob (f:=Gb) (l:=(e.set (a).toNat c)) (k:=((wi .i64 (a-1))).toNat) (z:=d) (p:=.agg [.v (.string d.fName),.v (.int .i64 d.fIno)]) rfl) (.cons (df a9) (.cons (df b2) .nil)))))))))))))))) (Gu hF ks n i g m u x a0 k a (wi .i64 (j+1)) ((e.set (a).toNat c).set ((wi .i64 (a-1))).toNat d) _ h q)
         ·rw [if_neg a8] at h; cases h
        ·rw [if_neg a7] at h; cases h
       ·rw [if_neg a6] at h; cases h
      ·rw [if_neg a5] at h; cases h
  ·rw [if_neg b0] at h
   cases h
   exact pkk_sound TTok mix hF 8 (hs:=[.t false]) (ts:=[]) (s:=[0,1]) (l:=[]) (by kernel_rfl) (by kernel_rfl) (.cons (df b0) .nil) q
/- slices.partialInsertionSortCmpFunc[ringhall/api.Entry] -/
def GG (n:Nat) (b:(List Ga)) (a c:Int) (d:(Ga→Ga→Option (Int))):Option (Bool×(List Ga)) :=
 (Gc n a c d n (wi .i64 (a+1)) 0 b).bind fun e=>match e with
 | .x0 f g =>
  some (f,g)
 | .x1 h =>
  some (false,h)
theorem SV (n:Nat) (a:(List Ga)) (e f:Int) (g:(Ga→Ga→Option (Int))) (i:FuncId) (j:List PV) (k:∀ (x0:Ga) (x1:Ga) (r:Int),g x0 x1=some r→Ret Tryz.prog i ([Gb x0,Gb x1]++j) ((eI .i64) r)) (r:Bool×(List Ga)) (h:GG n a e f g=some r):RetH Tryz.prog 73 [.srf 0,.d ((eI .i64) e),.d ((eI .i64) f),.d ((.clo i j))] [.row 25 2 (a.map Gb)] (.d (eB r.1)) [.row 25 2 (r.2.map Gb)]:=by
 refine retH_run (n:=141) (fn:=Tryz.f73) (c:=bodyOf Tryz.f73) (by kernel_rfl) (by kernel_rfl) (by kernel_rfl) (by kernel_rfl) ?_
 have hF:KC 141 (FinH Tryz.prog Tryz.f73 [.row 25 2 (a.map Gb)] (.d (eB r.1)) [.row 25 2 (r.2.map Gb)]):=FinH.kc' (by kernel_rfl)
 unfold GG at h
 obtain ⟨m,o,h⟩:=bind_some h
 refine pkk_sound TTok mix hF 9 (hs:=[.n n]) (ts:=[]) (s:=[1,0]) (l:=[0,1,2,3,9,10]) (by kernel_rfl) (by kernel_rfl) .nil (Gu hF (.b 0::.s (cR (cR (cR (bodyOf Tryz.f73))))::[]) n e f g i j k n (wi .i64 (e+1)) 0 a _ o ?_)
 cases m with
 | x0 p q =>
  try dsimp only at h
  obtain rfl:=Option.some.inj h
  exact pendH_sound TTok mix 2 (hs:=[]) [1] (by kernel_rfl) (by kernel_rfl) (by kernel_rfl) .nil
 | x1 t =>
  try dsimp only at h
  obtain rfl:=Option.some.inj h
  exact pendH_sound TTok mix 4 (hs:=[]) [1] (by kernel_rfl) (by kernel_rfl) (by kernel_rfl) .nil
inductive G3 where
 | x0 (a:Int) (b:(List Ga))
def Zm:G3→Ex
 | .x0 _ _=>.exit 2
def Zn (a:Int) (h:(Ga→Ga→Option (Int))) (b:Int) (c:FuncId) (e:(List PV)):G3→PS
 | .x0 f g=>⟨(.srf 1::di a::dd::dd::.d (.clo c e)::dd::dd::dd::dd::dd::dd::di f::di b::(dds 77 [])),[.gh 0 (.srf 1),.row 25 2 (g.map Gb)]⟩
def Zo (a:Int) (h:(Ga→Ga→Option (Int))) (b:Int) (c:FuncId) (e:(List PV)) (f:Int) (g:(List Ga)):PS:=⟨(.srf 1::di a::dd::dd::.d (.clo c e)::dd::dd::dd::dd::dd::dd::di f::di b::(dds 77 [])),[.gh 0 (.srf 1),.row 25 2 (g.map Gb)]⟩
def Gk (n:Nat) (c:Int) (d:(Ga→Ga→Option (Int))) (e:Int):Nat→Int→(List Ga)→Option G3
 | 0,_,_=>none
 | k+1,a,b =>
  if a≤e then
   if 0≤c∧(c).toNat<b.length then
    (b[(c).toNat]?).bind fun (f:Ga) =>
    if 0≤a∧(a).toNat<b.length then
     (b[(a).toNat]?).bind fun (g:Ga) =>
     (d f g).bind fun (h:(Int)) =>
     if h<0 then
      some (.x0 a b)
     else
      Gk n c d e k (wi .i64 (a+1)) b
    else none
   else none
  else
   some (.x0 a b)
theorem Ka {Fi:Ex→PS→Prop} (hF:KC 90 Fi) (ks:List Fr) (n:Nat) (d:Int) (e:(Ga→Ga→Option (Int))) (g:Int) (j:FuncId) (m:(List PV)) (z:∀ (x0:Ga) (x1:Ga) (r:Int),e x0 x1=some r→Ret Tryz.prog j ([Gb x0,Gb x1]++m) ((eI .i64) r)):∀ (k:Nat) (a:Int) (b:(List Ga)) (o:G3),Gk n d e g k a b=some o→RunE Tryz.prog 90 Fi ks (Zm o) (Zn d e g j m o)→RunE Tryz.prog 90 Fi (.l k (cP (cB (cL (cB (cP (cB (cL (cR (cR (cR (bodyOf Tryz.f74)))))))))))::ks) .normal (Zo d e g j m a b)
 | 0,a,b,o,h,q=>by rw [Gk] at h; cases h
 | k+1,a,b,o,h,q=>by
  rw [Gk] at h
  by_cases i:a≤g
  ·rw [if_pos i] at h
   by_cases p:0≤d∧(d).toNat<b.length
   ·rw [if_pos p] at h
    obtain ⟨u,a1,h⟩:=bind_some h
    by_cases v:0≤a∧(a).toNat<b.length
    ·rw [if_pos v] at h
     obtain ⟨w,a2,h⟩:=bind_some h
     obtain ⟨a0,a3,h⟩:=bind_some h
     by_cases x:a0<0
     ·rw [if_pos x] at h
      cases h
      exact pkk_sound TTok mix hF 8 (hs:=[.t true,.c,.c,.c,.c,.y (Gb u),.c,.c,.c,.c,.y (Gb w),.c,.r ((eI .i64) a0),.c,.c,.t false]) (ts:=[]) (s:=[0,1]) (l:=[0,1,4,11,12]) (by kernel_rfl) (by kernel_rfl) (.cons (dt i) (.cons (idx_ob (f:=Gb) p) (.cons (get_ob (f:=Gb) a1) (.cons (idx_ob (f:=Gb) v) (.cons (get_ob (f:=Gb) a2) (.cons (z u w _ a3) (.cons (bnf (dt x)) .nil))))))) q
     ·rw [if_neg x] at h
      exact pkk_sound TTok mix hF 9 (hs:=[.t true,.c,.c,.c,.c,.y (Gb u),.c,.c,.c,.c,.y (Gb w),.c,.r ((eI .i64) a0),.c,.c,.t true]) (ts:=[]) (s:=[0,1]) (l:=[0,1,4,11,12]) (by kernel_rfl) (by kernel_rfl) (.cons (dt i) (.cons (idx_ob (f:=Gb) p) (.cons (get_ob (f:=Gb) a1) (.cons (idx_ob (f:=Gb) v) (.cons (get_ob (f:=Gb) a2) (.cons (z u w _ a3) (.cons (bnt (df x)) .nil))))))) (Ka hF ks n d e g j m z k (wi .i64 (a+1)) b _ h q)
    ·rw [if_neg v] at h; cases h
   ·rw [if_neg p] at h; cases h
  ·rw [if_neg i] at h
   cases h
   exact pkk_sound TTok mix hF 8 (hs:=[.t false,.c,.c,.c,.c,.c,.c,.c,.c,.c,.c,.c,.c]) (ts:=[]) (s:=[0,1]) (l:=[0,1,4,11,12]) (by kernel_rfl) (by kernel_rfl) (.cons (df i) .nil) q
inductive G4 where
 | x0 (a:Int) (b:(List Ga))
def Zp:G4→Ex
 | .x0 _ _=>.exit 4
def Zq (a:Int) (h:(Ga→Ga→Option (Int))) (b:Int) (c:FuncId) (e:(List PV)):G4→PS
 | .x0 f g=>⟨(.srf 1::di a::dd::dd::.d (.clo c e)::dd::dd::dd::dd::dd::dd::di b::di f::(dds 77 [])),[.gh 0 (.srf 1),.row 25 2 (g.map Gb)]⟩
def Zr (a:Int) (h:(Ga→Ga→Option (Int))) (b:Int) (c:FuncId) (e:(List PV)) (f:Int) (g:(List Ga)):PS:=⟨(.srf 1::di a::dd::dd::.d (.clo c e)::dd::dd::dd::dd::dd::dd::di b::di f::(dds 77 [])),[.gh 0 (.srf 1),.row 25 2 (g.map Gb)]⟩
def Gl (n:Nat) (c:Int) (d:(Ga→Ga→Option (Int))) (e:Int):Nat→Int→(List Ga)→Option G4
 | 0,_,_=>none
 | k+1,a,b =>
  if e≤a then
   if 0≤c∧(c).toNat<b.length then
    (b[(c).toNat]?).bind fun (f:Ga) =>
    if 0≤a∧(a).toNat<b.length then
     (b[(a).toNat]?).bind fun (g:Ga) =>
     (d f g).bind fun (h:(Int)) =>
     if h<0 then
      Gl n c d e k (wi .i64 (a-1)) b
     else
      some (.x0 a b)
    else none
   else none
  else
   some (.x0 a b)
theorem Kb {Fi:Ex→PS→Prop} (hF:KC 90 Fi) (ks:List Fr) (n:Nat) (d:Int) (e:(Ga→Ga→Option (Int))) (g:Int) (j:FuncId) (m:(List PV)) (z:∀ (x0:Ga) (x1:Ga) (r:Int),e x0 x1=some r→Ret Tryz.prog j ([Gb x0,Gb x1]++m) ((eI .i64) r)):∀ (k:Nat) (a:Int) (b:(List Ga)) (o:G4),Gl n d e g k a b=some o→RunE Tryz.prog 90 Fi ks (Zp o) (Zq d e g j m o)→RunE Tryz.prog 90 Fi (.l k (cP (cB (cL (cR (cB (cP (cB (cL (cR (cR (cR (bodyOf Tryz.f74))))))))))))::ks) .normal (Zr d e g j m a b)
 | 0,a,b,o,h,q=>by rw [Gl] at h; cases h
 | k+1,a,b,o,h,q=>by
  rw [Gl] at h
  by_cases i:g≤a
  ·rw [if_pos i] at h
   by_cases p:0≤d∧(d).toNat<b.length
   ·rw [if_pos p] at h
    obtain ⟨u,a1,h⟩:=bind_some h
    by_cases v:0≤a∧(a).toNat<b.length
    ·rw [if_pos v] at h
     obtain ⟨w,a2,h⟩:=bind_some h
     obtain ⟨a0,a3,h⟩:=bind_some h
     by_cases x:a0<0
     ·rw [if_pos x] at h
      exact pkk_sound TTok mix hF 9 (hs:=[.t true,.c,.c,.c,.c,.y (Gb u),.c,.c,.c,.c,.y (Gb w),.c,.r ((eI .i64) a0),.c,.t true]) (ts:=[]) (s:=[0,1]) (l:=[0,1,4,11,12]) (by kernel_rfl) (by kernel_rfl) (.cons (dt i) (.cons (idx_ob (f:=Gb) p) (.cons (get_ob (f:=Gb) a1) (.cons (idx_ob (f:=Gb) v) (.cons (get_ob (f:=Gb) a2) (.cons (z u w _ a3) (.cons (dt x) .nil))))))) (Kb hF ks n d e g j m z k (wi .i64 (a-1)) b _ h q)
     ·rw [if_neg x] at h
      cases h
      exact pkk_sound TTok mix hF 8 (hs:=[.t true,.c,.c,.c,.c,.y (Gb u),.c,.c,.c,.c,.y (Gb w),.c,.r ((eI .i64) a0),.c,.t false]) (ts:=[]) (s:=[0,1]) (l:=[0,1,4,11,12]) (by kernel_rfl) (by kernel_rfl) (.cons (dt i) (.cons (idx_ob (f:=Gb) p) (.cons (get_ob (f:=Gb) a1) (.cons (idx_ob (f:=Gb) v) (.cons (get_ob (f:=Gb) a2) (.cons (z u w _ a3) (.cons (df x) .nil))))))) q
    ·rw [if_neg v] at h; cases h
   ·rw [if_neg p] at h; cases h
  ·rw [if_neg i] at h
   cases h
   exact pkk_sound TTok mix hF 8 (hs:=[.t false,.c,.c,.c,.c,.c,.c,.c,.c,.c,.c,.c]) (ts:=[]) (s:=[0,1]) (l:=[0,1,4,11,12]) (by kernel_rfl) (by kernel_rfl) (.cons (df i) .nil) q
inductive G5 where
 | x0 (a:Int) (b:(List Ga))
def Zs:G5→Ex
 | .x0 _ _=>.exit 0
def Zt (c:Int) (e:(Ga→Ga→Option (Int))) (f:FuncId) (g:(List PV)):G5→PS
 | .x0 a b=>⟨(dds 11 (di a::(dds 78 []))),[.gh 0 (.srf 1),.row 25 2 (b.map Gb)]⟩
def Zu (a:Int) (h:(Ga→Ga→Option (Int))) (b:FuncId) (c:(List PV)) (e f:Int) (g:(List Ga)):PS:=⟨(.srf 1::di a::dd::dd::.d (.clo b c)::dd::dd::dd::dd::dd::dd::di e::di f::(dds 77 [])),[.gh 0 (.srf 1),.row 25 2 (g.map Gb)]⟩
def Gm (n:Nat) (d:Int) (e:(Ga→Ga→Option (Int))):Nat→Int→Int→(List Ga)→Option G5
 | 0,_,_,_=>none
 | k+1,h,g,i =>
  (Gk n d e g n h i).bind fun j=>match j with
  | .x0 a l =>
   (Gl n d e a n g l).bind fun m=>match m with
   | .x0 c b =>
    if a > c then
     some (.x0 a b)
    else
     if 0≤c∧(c).toNat<b.length then
      (b[(c).toNat]?).bind fun (f:Ga) =>
      if 0≤a∧(a).toNat<b.length then
       (b[(a).toNat]?).bind fun (o:Ga) =>
       if 0≤a∧(a).toNat<b.length then
        (b[(a).toNat]?).bind fun (p:Ga) =>
        if 0≤c∧(c).toNat<(b.set (a).toNat f).length then
         ((b.set (a).toNat f)[(c).toNat]?).bind fun (q:Ga) =>
         Gm n d e k (wi .i64 (a+1)) (wi .i64 (c-1)) ((b.set (a).toNat f).set (c).toNat o)
        else none
       else none
      else none
     else none
theorem Kc {Fi:Ex→PS→Prop} (hF:KC 90 Fi) (ks:List Fr) (n:Nat) (j:Int) (i:(Ga→Ga→Option (Int))) (m:FuncId) (u:(List PV)) (a3:∀ (x0:Ga) (x1:Ga) (r:Int),i x0 x1=some r→Ret Tryz.prog m ([Gb x0,Gb x1]++u) ((eI .i64) r)):∀ (k:Nat) (a0 x:Int) (a1:(List Ga)) (o:G5),Gm n j i k a0 x a1=some o→RunE Tryz.prog 90 Fi ks (Zs o) (Zt j i m u o)→RunE Tryz.prog 90 Fi (.l k (cP (cB (cL (cR (cR (cR (bodyOf Tryz.f74)))))))::ks) .normal (Zu j i m u a0 x a1)
 | 0,a0,x,a1,o,h,q=>by rw [Gm] at h; cases h
 | k+1,a0,x,a1,o,h,q=>by
  rw [Gm] at h
  obtain ⟨a8,a9,h⟩:=bind_some h
  refine pkk_sound TTok mix hF 5 (hs:=[.n n]) (ts:=[]) (s:=[0,1]) (l:=[0,1,4,11,12]) (by kernel_rfl) (by kernel_rfl) .nil (Ka hF (.b 2::.s (cR (cB (cP (cB (cL (cR (cR (cR (bodyOf Tryz.f74)))))))))::.b 1::.l k (cP (cB (cL (cR (cR (cR (bodyOf Tryz.f74)))))))::ks) n j i x m u a3 n a0 a1 _ a9 ?_)
  cases a8 with
  | x0 a b0 =>
   try dsimp only at h
   obtain ⟨b1,b2,h⟩:=bind_some h
   refine pkk_sound TTok mix hF 4 (hs:=[.n n]) (ts:=[]) (s:=[0,1]) (l:=[0,1,4,11,12]) (by kernel_rfl) (by kernel_rfl) .nil (Kb hF (.b 4::.s (cR (cR (cB (cP (cB (cL (cR (cR (cR (bodyOf Tryz.f74))))))))))::.b 1::.l k (cP (cB (cL (cR (cR (cR (bodyOf Tryz.f74)))))))::ks) n j i a m u a3 n x b0 _ b2 ?_)
   cases b1 with
   | x0 d e =>
    try dsimp only at h
    by_cases a2:a > d
    ·rw [if_pos a2] at h
     cases h
     exact pkk_sound TTok mix hF 9 (hs:=[.t true]) (ts:=[]) (s:=[0,1]) (l:=[11]) (by kernel_rfl) (by kernel_rfl) (.cons (dt a2) .nil) q
    ·rw [if_neg a2] at h
     by_cases a4:0≤d∧(d).toNat<e.length
     ·rw [if_pos a4] at h
      obtain ⟨c,b3,h⟩:=bind_some h
      by_cases a5:0≤a∧(a).toNat<e.length
      ·rw [if_pos a5] at h
       obtain ⟨g,b4,h⟩:=bind_some h
       by_cases a6:0≤a∧(a).toNat<e.length
       ·rw [if_pos a6] at h
        obtain ⟨b5,b6,h⟩:=bind_some h
        by_cases a7:0≤d∧(d).toNat<(e.set (a).toNat c).length
        ·rw [if_pos a7] at h
         obtain ⟨b7,b8,h⟩:=bind_some h
         exact pkk_sound TTok mix hF 12 (hs:=[.t false,.y (Gb c),.y (Gb g),.w ((e.set (a).toNat c).map Gb),.y (Gb b5),.w (((e.set (a).toNat c).set (d).toNat g).map Gb),.y (Gb b7)]) (ts:=[]) (s:=[0,1]) (l:=[0,1,4,11,12]) (by kernel_rfl) (by kernel_rfl) (.cons (df a2) (.cons (idx_ob (f:=Gb) a4) (.cons (get_ob (f:=Gb) b3) (.cons (idx_ob (f:=Gb) a5) (.cons (get_ob (f:=Gb) b4) (.cons (idx_ob (f:=Gb) a6) (.cons (get_ob (f:=Gb) b6) (.cons (Eq.refl (pcells (.agg [.v (.string c.fName),.v (.int .i64 c.fIno)]))) (.cons (set_ob (f:=Gb) (l:=e) (k:=(a).toNat) (z:=c) (p:=.agg [.v (.string c.fName),.v (.int .i64 c.fIno)]) rfl) (.cons (idx_ob (f:=Gb) a7) (.cons (get_ob (f:=Gb) b8) (.cons (Eq.refl (pcells (.agg [.v (.string g.fName),.v (.int .i64 g.fIno)]))) (.cons (set_ob (f:=Gb) (l:=(e.set (a).toNat c)) (k:=(d).toNat) (z:=g) (p:=.agg [.v (.string g.fName),.v (.int .i64 g.fIno)]) rfl) .nil))))))))))))) (Kc hF ks n j i m u a3 k (wi .i64 (a+1)) (wi .i64 (d-1)) ((e.set (a).toNat c).set (d).toNat g) _ h q)
        ·rw [if_neg a7] at h; cases h
       ·rw [if_neg a6] at h; cases h
      ·rw [if_neg a5] at h; cases h
     ·rw [if_neg a4] at h; cases h
/- slices.partitionEqualCmpFunc[ringhall/api.Entry] -/
def Gi (n:Nat) (b:(List Ga)) (a e c:Int) (f:(Ga→Ga→Option (Int))):Option (Int×(List Ga)) :=
 if 0≤c∧(c).toNat<b.length then
  (b[(c).toNat]?).bind fun (d:Ga) =>
  if 0≤a∧(a).toNat<b.length then
   (b[(a).toNat]?).bind fun (g:Ga) =>
   if 0≤a∧(a).toNat<b.length then
    (b[(a).toNat]?).bind fun (k:Ga) =>
    if 0≤c∧(c).toNat<(b.set (a).toNat d).length then
     ((b.set (a).toNat d)[(c).toNat]?).bind fun (l:Ga) =>
     (Gm n a f n (wi .i64 (a+1)) (wi .i64 (e-1)) ((b.set (a).toNat d).set (c).toNat g)).bind fun h=>match h with
     | .x0 i j =>
      some (i,j)
    else none
   else none
  else none
 else none
theorem SK (n:Nat) (e:(List Ga)) (a m i:Int) (o:(Ga→Ga→Option (Int))) (q:FuncId) (t:List PV) (a2:∀ (x0:Ga) (x1:Ga) (r:Int),o x0 x1=some r→Ret Tryz.prog q ([Gb x0,Gb x1]++t) ((eI .i64) r)) (r:Int×(List Ga)) (h:Gi n e a m i o=some r):RetH Tryz.prog 74 [.srf 0,.d ((eI .i64) a),.d ((eI .i64) m),.d ((eI .i64) i),.d ((.clo q t))] [.row 25 2 (e.map Gb)] (.d ((eI .i64) r.1)) [.row 25 2 (r.2.map Gb)]:=by
 refine retH_run (n:=90) (fn:=Tryz.f74) (c:=bodyOf Tryz.f74) (by kernel_rfl) (by kernel_rfl) (by kernel_rfl) (by kernel_rfl) ?_
 have hF:KC 90 (FinH Tryz.prog Tryz.f74 [.row 25 2 (e.map Gb)] (.d ((eI .i64) r.1)) [.row 25 2 (r.2.map Gb)]):=FinH.kc' (by kernel_rfl)
 unfold Gi at h
 by_cases u:0≤i∧(i).toNat<e.length
 ·rw [if_pos u] at h
  obtain ⟨g,a3,h⟩:=bind_some h
  by_cases x:0≤a∧(a).toNat<e.length
  ·rw [if_pos x] at h
   obtain ⟨j,a4,h⟩:=bind_some h
   by_cases a0:0≤a∧(a).toNat<e.length
   ·rw [if_pos a0] at h
    obtain ⟨a5,a6,h⟩:=bind_some h
    by_cases a1:0≤i∧(i).toNat<(e.set (a).toNat g).length
    ·rw [if_pos a1] at h
     obtain ⟨a7,a8,h⟩:=bind_some h
     obtain ⟨a9,b0,h⟩:=bind_some h
     refine pkk_sound TTok mix hF 9 (hs:=[.y (Gb g),.y (Gb j),.w ((e.set (a).toNat g).map Gb),.y (Gb a5),.w (((e.set (a).toNat g).set (i).toNat j).map Gb),.y (Gb a7),.n n]) (ts:=[]) (s:=[1,0]) (l:=[0,1,4,11,12]) (by kernel_rfl) (by kernel_rfl) (.cons (idx_ob (f:=Gb) u) (.cons (get_ob (f:=Gb) a3) (.cons (idx_ob (f:=Gb) x) (.cons (get_ob (f:=Gb) a4) (.cons (idx_ob (f:=Gb) a0) (.cons (get_ob (f:=Gb) a6) (.cons (Eq.refl (pcells (.agg [.v (.string g.fName),.v (.int .i64 g.fIno)]))) (.cons (set_ob (f:=Gb) (l:=e) (k:=(a).toNat) (z:=g) (p:=.agg [.v (.string g.fName),.v (.int .i64 g.fIno)]) rfl) (.cons (idx_ob (f:=Gb) a1) (.cons (get_ob (f:=Gb) a8) (.cons (Eq.refl (pcells (.agg [.v (.string j.fName),.v (.int .i64 j.fIno)]))) (.cons (set_ob (f:=Gb) (l:=(e.set (a).toNat g)) (k:=(i).toNat) (z:=j) (p:=.agg [.v (.string j.fName),.v (.int .i64 j.fIno)]) rfl) .nil)))))))))))) (Kc hF (.b 0::.s (cR (cR (cR (cR (bodyOf Tryz.f74)))))::[]) n a o q t a2 n (wi .i64 (a+1)) (wi .i64 (m-1)) ((e.set (a).toNat g).set (i).toNat j) _ b0 ?_)
     cases a9 with
     | x0 b1 b2 =>
      try dsimp only at h
      obtain rfl:=Option.some.inj h
      exact pendH_sound TTok mix 4 (hs:=[]) [1] (by kernel_rfl) (by kernel_rfl) (by kernel_rfl) .nil
    ·rw [if_neg a1] at h; cases h
   ·rw [if_neg a0] at h; cases h
  ·rw [if_neg x] at h; cases h
 ·rw [if_neg u] at h; cases h
inductive So where
 | x0 (a:Int) (b:(List Ga))
def Z4:So→Ex
 | .x0 _ _=>.exit 0
def Z5 (a:Int) (h:(Ga→Ga→Option (Int))) (b:Int) (c:FuncId) (e:(List PV)):So→PS
 | .x0 f g=>⟨(.srf 1::di a::dd::dd::.d (.clo c e)::dd::dd::dd::dd::dd::dd::dd::di f::di (wi .i64 (b-1))::(dds 164 [])),[.gh 0 (.srf 1),.row 25 2 (g.map Gb)]⟩
def Z6 (a:Int) (h:(Ga→Ga→Option (Int))) (b:Int) (c:FuncId) (e:(List PV)) (f:Int) (g:(List Ga)):PS:=⟨(.srf 1::di a::dd::dd::.d (.clo c e)::dd::dd::dd::dd::dd::dd::dd::di f::di (wi .i64 (b-1))::(dds 164 [])),[.gh 0 (.srf 1),.row 25 2 (g.map Gb)]⟩
def Gv (n:Nat) (c:Int) (d:(Ga→Ga→Option (Int))) (e:Int):Nat→Int→(List Ga)→Option So
 | 0,_,_=>none
 | k+1,a,b =>
  if a≤(wi .i64 (e-1)) then
   if 0≤a∧(a).toNat<b.length then
    (b[(a).toNat]?).bind fun (f:Ga) =>
    if 0≤c∧(c).toNat<b.length then
     (b[(c).toNat]?).bind fun (g:Ga) =>
     (d f g).bind fun (h:(Int)) =>
     if h<0 then
      Gv n c d e k (wi .i64 (a+1)) b
     else
      some (.x0 a b)
    else none
   else none
  else
   some (.x0 a b)
theorem Kq {Fi:Ex→PS→Prop} (hF:KC 178 Fi) (ks:List Fr) (n:Nat) (d:Int) (e:(Ga→Ga→Option (Int))) (g:Int) (j:FuncId) (m:(List PV)) (z:∀ (x0:Ga) (x1:Ga) (r:Int),e x0 x1=some r→Ret Tryz.prog j ([Gb x0,Gb x1]++m) ((eI .i64) r)):∀ (k:Nat) (a:Int) (b:(List Ga)) (o:So),Gv n d e g k a b=some o→RunE Tryz.prog 178 Fi ks (Z4 o) (Z5 d e g j m o)→RunE Tryz.prog 178 Fi (.l k (cP (cB (cL (cR (cR (cR (bodyOf Tryz.f75)))))))::ks) .normal (Z6 d e g j m a b)
 | 0,a,b,o,h,q=>by rw [Gv] at h; cases h
 | k+1,a,b,o,h,q=>by
  rw [Gv] at h
  by_cases i:a≤(wi .i64 (g-1))
  ·rw [if_pos i] at h
   by_cases p:0≤a∧(a).toNat<b.length
   ·rw [if_pos p] at h
    obtain ⟨u,a1,h⟩:=bind_some h
    by_cases v:0≤d∧(d).toNat<b.length
    ·rw [if_pos v] at h
     obtain ⟨w,a2,h⟩:=bind_some h
     obtain ⟨a0,a3,h⟩:=bind_some h
     by_cases x:a0<0
     ·rw [if_pos x] at h
      exact pkk_sound TTok mix hF 9 (hs:=[.t true,.c,.c,.c,.c,.y (Gb u),.c,.c,.c,.c,.y (Gb w),.c,.r ((eI .i64) a0),.c,.t true]) (ts:=[]) (s:=[0,1]) (l:=[0,1,4,12,13]) (by kernel_rfl) (by kernel_rfl) (.cons (dt i) (.cons (idx_ob (f:=Gb) p) (.cons (get_ob (f:=Gb) a1) (.cons (idx_ob (f:=Gb) v) (.cons (get_ob (f:=Gb) a2) (.cons (z u w _ a3) (.cons (dt x) .nil))))))) (Kq hF ks n d e g j m z k (wi .i64 (a+1)) b _ h q)
     ·rw [if_neg x] at h
      cases h
      exact pkk_sound TTok mix hF 8 (hs:=[.t true,.c,.c,.c,.c,.y (Gb u),.c,.c,.c,.c,.y (Gb w),.c,.r ((eI .i64) a0),.c,.t false]) (ts:=[]) (s:=[0,1]) (l:=[0,1,4,12,13]) (by kernel_rfl) (by kernel_rfl) (.cons (dt i) (.cons (idx_ob (f:=Gb) p) (.cons (get_ob (f:=Gb) a1) (.cons (idx_ob (f:=Gb) v) (.cons (get_ob (f:=Gb) a2) (.cons (z u w _ a3) (.cons (df x) .nil))))))) q
    ·rw [if_neg v] at h; cases h
   ·rw [if_neg p] at h; cases h
  ·rw [if_neg i] at h
   cases h
   exact pkk_sound TTok mix hF 8 (hs:=[.t false,.c,.c,.c,.c,.c,.c,.c,.c,.c,.c,.c]) (ts:=[]) (s:=[0,1]) (l:=[0,1,4,12,13]) (by kernel_rfl) (by kernel_rfl) (.cons (df i) .nil) q
inductive Sp where
 | x0 (a:Int) (b:(List Ga))
def Z7:Sp→Ex
 | .x0 _ _=>.exit 2
def Z8 (a:Int) (h:(Ga→Ga→Option (Int))) (b:Int) (c:FuncId) (e:(List PV)):Sp→PS
 | .x0 f g=>⟨(.srf 1::di a::dd::dd::.d (.clo c e)::dd::dd::dd::dd::dd::dd::dd::di b::di f::(dds 164 [])),[.gh 0 (.srf 1),.row 25 2 (g.map Gb)]⟩
def Z9 (a:Int) (h:(Ga→Ga→Option (Int))) (b:Int) (c:FuncId) (e:(List PV)) (f:Int) (g:(List Ga)):PS:=⟨(.srf 1::di a::dd::dd::.d (.clo c e)::dd::dd::dd::dd::dd::dd::dd::di b::di f::(dds 164 [])),[.gh 0 (.srf 1),.row 25 2 (g.map Gb)]⟩
def Gw (n:Nat) (c:Int) (d:(Ga→Ga→Option (Int))) (e:Int):Nat→Int→(List Ga)→Option Sp
 | 0,_,_=>none
 | k+1,a,b =>
  if e≤a then
   if 0≤a∧(a).toNat<b.length then
    (b[(a).toNat]?).bind fun (f:Ga) =>
    if 0≤c∧(c).toNat<b.length then
     (b[(c).toNat]?).bind fun (g:Ga) =>
     (d f g).bind fun (h:(Int)) =>
     if h<0 then
      some (.x0 a b)
     else
      Gw n c d e k (wi .i64 (a-1)) b
    else none
   else none
  else
   some (.x0 a b)
theorem Kr {Fi:Ex→PS→Prop} (hF:KC 178 Fi) (ks:List Fr) (n:Nat) (d:Int) (e:(Ga→Ga→Option (Int))) (g:Int) (j:FuncId) (m:(List PV)) (z:∀ (x0:Ga) (x1:Ga) (r:Int),e x0 x1=some r→Ret Tryz.prog j ([Gb x0,Gb x1]++m) ((eI .i64) r)):∀ (k:Nat) (a:Int) (b:(List Ga)) (o:Sp),Gw n d e g k a b=some o→RunE Tryz.prog 178 Fi ks (Z7 o) (Z8 d e g j m o)→RunE Tryz.prog 178 Fi (.l k (cP (cB (cL (cR (cR (cR (cR (bodyOf Tryz.f75))))))))::ks) .normal (Z9 d e g j m a b)
 | 0,a,b,o,h,q=>by rw [Gw] at h; cases h
 | k+1,a,b,o,h,q=>by
  rw [Gw] at h
  by_cases i:g≤a
  ·rw [if_pos i] at h
   by_cases p:0≤a∧(a).toNat<b.length
   ·rw [if_pos p] at h
    obtain ⟨u,a1,h⟩:=bind_some h
    by_cases v:0≤d∧(d).toNat<b.length
    ·rw [if_pos v] at h
     obtain ⟨w,a2,h⟩:=bind_some h
     obtain ⟨a0,a3,h⟩:=bind_some h
     by_cases x:a0<0
     ·rw [if_pos x] at h
      cases h
      exact pkk_sound TTok mix hF 8 (hs:=[.t true,.c,.c,.c,.c,.y (Gb u),.c,.c,.c,.c,.y (Gb w),.c,.r ((eI .i64) a0),.c,.c,.t false]) (ts:=[]) (s:=[0,1]) (l:=[0,1,4,12,13]) (by kernel_rfl) (by kernel_rfl) (.cons (dt i) (.cons (idx_ob (f:=Gb) p) (.cons (get_ob (f:=Gb) a1) (.cons (idx_ob (f:=Gb) v) (.cons (get_ob (f:=Gb) a2) (.cons (z u w _ a3) (.cons (bnf (dt x)) .nil))))))) q
     ·rw [if_neg x] at h
      exact pkk_sound TTok mix hF 9 (hs:=[.t true,.c,.c,.c,.c,.y (Gb u),.c,.c,.c,.c,.y (Gb w),.c,.r ((eI .i64) a0),.c,.c,.t true]) (ts:=[]) (s:=[0,1]) (l:=[0,1,4,12,13]) (by kernel_rfl) (by kernel_rfl) (.cons (dt i) (.cons (idx_ob (f:=Gb) p) (.cons (get_ob (f:=Gb) a1) (.cons (idx_ob (f:=Gb) v) (.cons (get_ob (f:=Gb) a2) (.cons (z u w _ a3) (.cons (bnt (df x)) .nil))))))) (Kr hF ks n d e g j m z k (wi .i64 (a-1)) b _ h q)
    ·rw [if_neg v] at h; cases h
   ·rw [if_neg p] at h; cases h
  ·rw [if_neg i] at h
   cases h
   exact pkk_sound TTok mix hF 8 (hs:=[.t false,.c,.c,.c,.c,.c,.c,.c,.c,.c,.c,.c,.c]) (ts:=[]) (s:=[0,1]) (l:=[0,1,4,12,13]) (by kernel_rfl) (by kernel_rfl) (.cons (df i) .nil) q
inductive Sq where
 | x0 (a:Int) (b:(List Ga))
def Ya:Sq→Ex
 | .x0 _ _=>.exit 6
def Yb (a:Int) (h:(Ga→Ga→Option (Int))) (b:Int) (c:FuncId) (e:(List PV)):Sq→PS
 | .x0 f g=>⟨(.srf 1::di a::dd::dd::.d (.clo c e)::dd::dd::dd::dd::dd::dd::dd::di f::di b::(dds 164 [])),[.gh 0 (.srf 1),.row 25 2 (g.map Gb)]⟩
def Yc (a:Int) (h:(Ga→Ga→Option (Int))) (b:Int) (c:FuncId) (e:(List PV)) (f:Int) (g:(List Ga)):PS:=⟨(.srf 1::di a::dd::dd::.d (.clo c e)::dd::dd::dd::dd::dd::dd::dd::di f::di b::(dds 164 [])),[.gh 0 (.srf 1),.row 25 2 (g.map Gb)]⟩
def Gx (n:Nat) (c:Int) (d:(Ga→Ga→Option (Int))) (e:Int):Nat→Int→(List Ga)→Option Sq
 | 0,_,_=>none
 | k+1,a,b =>
  if a≤e then
   if 0≤a∧(a).toNat<b.length then
    (b[(a).toNat]?).bind fun (f:Ga) =>
    if 0≤c∧(c).toNat<b.length then
     (b[(c).toNat]?).bind fun (g:Ga) =>
     (d f g).bind fun (h:(Int)) =>
     if h<0 then
      Gx n c d e k (wi .i64 (a+1)) b
     else
      some (.x0 a b)
    else none
   else none
  else
   some (.x0 a b)
theorem Ks {Fi:Ex→PS→Prop} (hF:KC 178 Fi) (ks:List Fr) (n:Nat) (d:Int) (e:(Ga→Ga→Option (Int))) (g:Int) (j:FuncId) (m:(List PV)) (z:∀ (x0:Ga) (x1:Ga) (r:Int),e x0 x1=some r→Ret Tryz.prog j ([Gb x0,Gb x1]++m) ((eI .i64) r)):∀ (k:Nat) (a:Int) (b:(List Ga)) (o:Sq),Gx n d e g k a b=some o→RunE Tryz.prog 178 Fi ks (Ya o) (Yb d e g j m o)→RunE Tryz.prog 178 Fi (.l k (cP (cB (cL (cB (cP (cB (cL (cR (cR (cR (cR (cR (cR (cR (cR (cR (bodyOf Tryz.f75)))))))))))))))))::ks) .normal (Yc d e g j m a b)
 | 0,a,b,o,h,q=>by rw [Gx] at h; cases h
 | k+1,a,b,o,h,q=>by
  rw [Gx] at h
  by_cases i:a≤g
  ·rw [if_pos i] at h
   by_cases p:0≤a∧(a).toNat<b.length
   ·rw [if_pos p] at h
    obtain ⟨u,a1,h⟩:=bind_some h
    by_cases v:0≤d∧(d).toNat<b.length
    ·rw [if_pos v] at h
     obtain ⟨w,a2,h⟩:=bind_some h
     obtain ⟨a0,a3,h⟩:=bind_some h
     by_cases x:a0<0
     ·rw [if_pos x] at h
      exact pkk_sound TTok mix hF 9 (hs:=[.t true,.c,.c,.c,.c,.y (Gb u),.c,.c,.c,.c,.y (Gb w),.c,.r ((eI .i64) a0),.c,.t true]) (ts:=[]) (s:=[0,1]) (l:=[0,1,4,12,13]) (by kernel_rfl) (by kernel_rfl) (.cons (dt i) (.cons (idx_ob (f:=Gb) p) (.cons (get_ob (f:=Gb) a1) (.cons (idx_ob (f:=Gb) v) (.cons (get_ob (f:=Gb) a2) (.cons (z u w _ a3) (.cons (dt x) .nil))))))) (Ks hF ks n d e g j m z k (wi .i64 (a+1)) b _ h q)
     ·rw [if_neg x] at h
      cases h
      exact pkk_sound TTok mix hF 8 (hs:=[.t true,.c,.c,.c,.c,.y (Gb u),.c,.c,.c,.c,.y (Gb w),.c,.r ((eI .i64) a0),.c,.t false]) (ts:=[]) (s:=[0,1]) (l:=[0,1,4,12,13]) (by kernel_rfl) (by kernel_rfl) (.cons (dt i) (.cons (idx_ob (f:=Gb) p) (.cons (get_ob (f:=Gb) a1) (.cons (idx_ob (f:=Gb) v) (.cons (get_ob (f:=Gb) a2) (.cons (z u w _ a3) (.cons (df x) .nil))))))) q
    ·rw [if_neg v] at h; cases h
   ·rw [if_neg p] at h; cases h
  ·rw [if_neg i] at h
   cases h
   exact pkk_sound TTok mix hF 8 (hs:=[.t false,.c,.c,.c,.c,.c,.c,.c,.c,.c,.c,.c]) (ts:=[]) (s:=[0,1]) (l:=[0,1,4,12,13]) (by kernel_rfl) (by kernel_rfl) (.cons (df i) .nil) q
inductive Sr where
 | x0 (a:Int) (b:(List Ga))
def Yd:Sr→Ex
 | .x0 _ _=>.exit 8
def Ye (a:Int) (h:(Ga→Ga→Option (Int))) (b:Int) (c:FuncId) (e:(List PV)):Sr→PS
 | .x0 f g=>⟨(.srf 1::di a::dd::dd::.d (.clo c e)::dd::dd::dd::dd::dd::dd::dd::di b::di f::(dds 164 [])),[.gh 0 (.srf 1),.row 25 2 (g.map Gb)]⟩
def Yf (a:Int) (h:(Ga→Ga→Option (Int))) (b:Int) (c:FuncId) (e:(List PV)) (f:Int) (g:(List Ga)):PS:=⟨(.srf 1::di a::dd::dd::.d (.clo c e)::dd::dd::dd::dd::dd::dd::dd::di b::di f::(dds 164 [])),[.gh 0 (.srf 1),.row 25 2 (g.map Gb)]⟩
def Gy (n:Nat) (c:Int) (d:(Ga→Ga→Option (Int))) (e:Int):Nat→Int→(List Ga)→Option Sr
 | 0,_,_=>none
 | k+1,a,b =>
  if e≤a then
   if 0≤a∧(a).toNat<b.length then
    (b[(a).toNat]?).bind fun (f:Ga) =>
    if 0≤c∧(c).toNat<b.length then
     (b[(c).toNat]?).bind fun (g:Ga) =>
     (d f g).bind fun (h:(Int)) =>
     if h<0 then
      some (.x0 a b)
     else
      Gy n c d e k (wi .i64 (a-1)) b
    else none
   else none
  else
   some (.x0 a b)
theorem Ku {Fi:Ex→PS→Prop} (hF:KC 178 Fi) (ks:List Fr) (n:Nat) (d:Int) (e:(Ga→Ga→Option (Int))) (g:Int) (j:FuncId) (m:(List PV)) (z:∀ (x0:Ga) (x1:Ga) (r:Int),e x0 x1=some r→Ret Tryz.prog j ([Gb x0,Gb x1]++m) ((eI .i64) r)):∀ (k:Nat) (a:Int) (b:(List Ga)) (o:Sr),Gy n d e g k a b=some o→RunE Tryz.prog 178 Fi ks (Yd o) (Ye d e g j m o)→RunE Tryz.prog 178 Fi (.l k (cP (cB (cL (cR (cB (cP (cB (cL (cR (cR (cR (cR (cR (cR (cR (cR (cR (bodyOf Tryz.f75))))))))))))))))))::ks) .normal (Yf d e g j m a b)
 | 0,a,b,o,h,q=>by rw [Gy] at h; cases h
 | k+1,a,b,o,h,q=>by
  rw [Gy] at h
  by_cases i:g≤a
  ·rw [if_pos i] at h
   by_cases p:0≤a∧(a).toNat<b.length
   ·rw [if_pos p] at h
    obtain ⟨u,a1,h⟩:=bind_some h
    by_cases v:0≤d∧(d).toNat<b.length
    ·rw [if_pos v] at h
     obtain ⟨w,a2,h⟩:=bind_some h
     obtain ⟨a0,a3,h⟩:=bind_some h
     by_cases x:a0<0
     ·rw [if_pos x] at h
      cases h
      exact pkk_sound TTok mix hF 8 (hs:=[.t true,.c,.c,.c,.c,.y (Gb u),.c,.c,.c,.c,.y (Gb w),.c,.r ((eI .i64) a0),.c,.c,.t false]) (ts:=[]) (s:=[0,1]) (l:=[0,1,4,12,13]) (by kernel_rfl) (by kernel_rfl) (.cons (dt i) (.cons (idx_ob (f:=Gb) p) (.cons (get_ob (f:=Gb) a1) (.cons (idx_ob (f:=Gb) v) (.cons (get_ob (f:=Gb) a2) (.cons (z u w _ a3) (.cons (bnf (dt x)) .nil))))))) q
     ·rw [if_neg x] at h
      exact pkk_sound TTok mix hF 9 (hs:=[.t true,.c,.c,.c,.c,.y (Gb u),.c,.c,.c,.c,.y (Gb w),.c,.r ((eI .i64) a0),.c,.c,.t true]) (ts:=[]) (s:=[0,1]) (l:=[0,1,4,12,13]) (by kernel_rfl) (by kernel_rfl) (.cons (dt i) (.cons (idx_ob (f:=Gb) p) (.cons (get_ob (f:=Gb) a1) (.cons (idx_ob (f:=Gb) v) (.cons (get_ob (f:=Gb) a2) (.cons (z u w _ a3) (.cons (bnt (df x)) .nil))))))) (Ku hF ks n d e g j m z k (wi .i64 (a-1)) b _ h q)
    ·rw [if_neg v] at h; cases h
   ·rw [if_neg p] at h; cases h
  ·rw [if_neg i] at h
   cases h
   exact pkk_sound TTok mix hF 8 (hs:=[.t false,.c,.c,.c,.c,.c,.c,.c,.c,.c,.c,.c,.c]) (ts:=[]) (s:=[0,1]) (l:=[0,1,4,12,13]) (by kernel_rfl) (by kernel_rfl) (.cons (df i) .nil) q
inductive Ss where
 | x0 (a:Int) (b:(List Ga))
def Yg:Ss→Ex
 | .x0 _ _=>.exit 4
def Yh (a:Int) (e:(Ga→Ga→Option (Int))) (f:FuncId) (g:(List PV)):Ss→PS
 | .x0 b c=>⟨(.srf 1::di a::(dds 11 (di b::(dds 164 [])))),[.gh 0 (.srf 1),.row 25 2 (c.map Gb)]⟩
def Yi (a:Int) (h:(Ga→Ga→Option (Int))) (b:FuncId) (c:(List PV)) (e f:Int) (g:(List Ga)):PS:=⟨(.srf 1::di a::dd::dd::.d (.clo b c)::dd::dd::dd::dd::dd::dd::dd::di e::di f::(dds 164 [])),[.gh 0 (.srf 1),.row 25 2 (g.map Gb)]⟩
def Gz (n:Nat) (d:Int) (e:(Ga→Ga→Option (Int))):Nat→Int→Int→(List Ga)→Option Ss
 | 0,_,_,_=>none
 | k+1,h,g,i =>
  (Gx n d e g n h i).bind fun j=>match j with
  | .x0 a l =>
   (Gy n d e a n g l).bind fun m=>match m with
   | .x0 b c =>
    if a > b then
     some (.x0 b c)
    else
     if 0≤b∧(b).toNat<c.length then
      (c[(b).toNat]?).bind fun (f:Ga) =>
      if 0≤a∧(a).toNat<c.length then
       (c[(a).toNat]?).bind fun (o:Ga) =>
       if 0≤a∧(a).toNat<c.length then
        (c[(a).toNat]?).bind fun (p:Ga) =>
        if 0≤b∧(b).toNat<(c.set (a).toNat f).length then
         ((c.set (a).toNat f)[(b).toNat]?).bind fun (q:Ga) =>
         Gz n d e k (wi .i64 (a+1)) (wi .i64 (b-1)) ((c.set (a).toNat f).set (b).toNat o)
        else none
       else none
      else none
     else none
theorem Kv {Fi:Ex→PS→Prop} (hF:KC 178 Fi) (ks:List Fr) (n:Nat) (j:Int) (i:(Ga→Ga→Option (Int))) (m:FuncId) (u:(List PV)) (a3:∀ (x0:Ga) (x1:Ga) (r:Int),i x0 x1=some r→Ret Tryz.prog m ([Gb x0,Gb x1]++u) ((eI .i64) r)):∀ (k:Nat) (a0 x:Int) (a1:(List Ga)) (o:Ss),Gz n j i k a0 x a1=some o→RunE Tryz.prog 178 Fi ks (Yg o) (Yh j i m u o)→RunE Tryz.prog 178 Fi (.l k (cP (cB (cL (cR (cR (cR (cR (cR (cR (cR (cR (cR (bodyOf Tryz.f75)))))))))))))::ks) .normal (Yi j i m u a0 x a1)
 | 0,a0,x,a1,o,h,q=>by rw [Gz] at h; cases h
 | k+1,a0,x,a1,o,h,q=>by
  rw [Gz] at h
  obtain ⟨a8,a9,h⟩:=bind_some h
  refine pkk_sound TTok mix hF 5 (hs:=[.n n]) (ts:=[]) (s:=[0,1]) (l:=[0,1,4,12,13]) (by kernel_rfl) (by kernel_rfl) .nil (Ks hF (.b 6::.s (cR (cB (cP (cB (cL (cR (cR (cR (cR (cR (cR (cR (cR (cR (bodyOf Tryz.f75)))))))))))))))::.b 5::.l k (cP (cB (cL (cR (cR (cR (cR (cR (cR (cR (cR (cR (bodyOf Tryz.f75)))))))))))))::ks) n j i x m u a3 n a0 a1 _ a9 ?_)
  cases a8 with
  | x0 a b0 =>
   try dsimp only at h
   obtain ⟨b1,b2,h⟩:=bind_some h
   refine pkk_sound TTok mix hF 4 (hs:=[.n n]) (ts:=[]) (s:=[0,1]) (l:=[0,1,4,12,13]) (by kernel_rfl) (by kernel_rfl) .nil (Ku hF (.b 8::.s (cR (cR (cB (cP (cB (cL (cR (cR (cR (cR (cR (cR (cR (cR (cR (bodyOf Tryz.f75))))))))))))))))::.b 5::.l k (cP (cB (cL (cR (cR (cR (cR (cR (cR (cR (cR (cR (bodyOf Tryz.f75)))))))))))))::ks) n j i a m u a3 n x b0 _ b2 ?_)
   cases b1 with
   | x0 d e =>
    try dsimp only at h
    by_cases a2:a > d
    ·rw [if_pos a2] at h
     cases h
     exact pkk_sound TTok mix hF 9 (hs:=[.t true]) (ts:=[]) (s:=[0,1]) (l:=[0,1,13]) (by kernel_rfl) (by kernel_rfl) (.cons (dt a2) .nil) q
    ·rw [if_neg a2] at h
     by_cases a4:0≤d∧(d).toNat<e.length
     ·rw [if_pos a4] at h
      obtain ⟨c,b3,h⟩:=bind_some h
      by_cases a5:0≤a∧(a).toNat<e.length
      ·rw [if_pos a5] at h
       obtain ⟨g,b4,h⟩:=bind_some h
       by_cases a6:0≤a∧(a).toNat<e.length
       ·rw [if_pos a6] at h
        obtain ⟨b5,b6,h⟩:=bind_some h
        by_cases a7:0≤d∧(d).toNat<(e.set (a).toNat c).length
        ·rw [if_pos a7] at h
         obtain ⟨b7,b8,h⟩:=bind_some h
         exact pkk_sound TTok mix hF 12 (hs:=[.t false,.y (Gb c),.y (Gb g),.w ((e.set (a).toNat c).map Gb),.y (Gb b5),.w (((e.set (a).toNat c).set (d).toNat g).map Gb),.y (Gb b7)]) (ts:=[]) (s:=[0,1]) (l:=[0,1,4,12,13]) (by kernel_rfl) (by kernel_rfl) (.cons (df a2) (.cons (idx_ob (f:=Gb) a4) (.cons (get_ob (f:=Gb) b3) (.cons (idx_ob (f:=Gb) a5) (.cons (get_ob (f:=Gb) b4) (.cons (idx_ob (f:=Gb) a6) (.cons (get_ob (f:=Gb) b6) (.cons (Eq.refl (pcells (.agg [.v (.string c.fName),.v (.int .i64 c.fIno)]))) (.cons (set_ob (f:=Gb) (l:=e) (k:=(a).toNat) (z:=c) (p:=.agg [.v (.string c.fName),.v (.int .i64 c.fIno)]) rfl) (.cons (idx_ob (f:=Gb) a7) (.cons (get_ob (f:=Gb) b8) (.cons (Eq.refl (pcells (.agg [.v (.string g.fName),.v (.int .i64 g.fIno)]))) (.cons (set_ob (f:=Gb) (l:=(e.set (a).toNat c)) (k:=(d).toNat) (z:=g) (p:=.agg [.v (.string g.fName),.v (.int .i64 g.fIno)]) rfl) .nil))))))))))))) (Kv hF ks n j i m u a3 k (wi .i64 (a+1)) (wi .i64 (d-1)) ((e.set (a).toNat c).set (d).toNat g) _ h q)
        ·rw [if_neg a7] at h; cases h
       ·rw [if_neg a6] at h; cases h
      ·rw [if_neg a5] at h; cases h
     ·rw [if_neg a4] at h; cases h
/- slices.partitionCmpFunc[ringhall/api.Entry] -/
end Go.Proofs.YtdgocccbagbhjaaGreatDoor.pv
