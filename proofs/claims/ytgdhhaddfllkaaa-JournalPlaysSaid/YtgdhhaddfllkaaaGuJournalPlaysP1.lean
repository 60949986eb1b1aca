/- What the functions compute, as functions over plain data, with their contracts: written by gen.py. -/
import Derived.Test.YtgdhhaddfllkaaaProg
import Derived.Test.YtgdhhaddfllkaaaQr
import Derived.Test.YtgdhhaddfllkaaaShelf
import Derived.Test.YtgdhhaddfllkaaaSall
set_option maxRecDepth 100000
set_option linter.all false
namespace Go.Proofs.Ytgdhhaddfllkaaa.pv
open Go.RowKit
abbrev di (x:Int):FV:=.d (.v (.int .i64 x))
def dds (n:Nat) (l:List FV):List FV:=List.replicate n dd++l
def TT:List TI:=[
⟨1,0,.oth,[]⟩,
⟨1,8,.oth,[.nf]⟩,
⟨1,8,.int .i64,[.i .i64]⟩,
⟨1,8,.int .i64,[.i .i64]⟩,
⟨1,1,.bool,[.b]⟩,
⟨1,1,.int .u8,[.i .u8]⟩,
⟨1,1,.int .u8,[.i .u8]⟩,
⟨4,24,.st [(0,2),(1,3),(2,4),(3,6)],[.i .i64,.i .i64,.b,.i .u8]⟩,
⟨4,24,.st [(0,2),(1,3),(2,4),(3,6)],[.i .i64,.i .i64,.b,.i .u8]⟩,
⟨1,16,.str,[.s]⟩,
⟨1,16,.str,[.s]⟩,
⟨1,16,.str,[.s]⟩,
⟨1,8,.int .u64,[.i .u64]⟩,
⟨2,24,.st [(0,9),(1,12)],[.s,.i .u64]⟩,
⟨2,24,.st [(0,9),(1,12)],[.s,.i .u64]⟩,
⟨1,8,.ptr 153,[.np]⟩,
⟨1,8,.ptr 156,[.np]⟩,
⟨1,8,.ptr 163,[.np]⟩,
⟨1,8,.st [(0,17)],[.np]⟩,
⟨1,8,.st [(0,17)],[.np]⟩,
⟨1,16,.oth,[.ni]⟩,
⟨1,4,.int .i32,[.i .i32]⟩,
⟨1,24,.sl 44,[.sl]⟩,
⟨1,8,.int .u64,[.i .u64]⟩,
⟨1,8,.oth,[.nf]⟩,
⟨1,8,.ptr 73,[.np]⟩,
⟨1,8,.int .i64,[.i .i64]⟩,
⟨1,0,.oth,[]⟩,
⟨1,8,.oth,[.nf]⟩,
⟨1,8,.ptr 65,[.np]⟩,
⟨1,8,.oth,[.nf]⟩,
⟨1,8,.ptr 75,[.np]⟩,
⟨1,0,.oth,[]⟩,
⟨1,8,.oth,[.nf]⟩,
⟨1,8,.ptr 62,[.np]⟩,
⟨1,0,.oth,[]⟩,
⟨1,8,.oth,[.nf]⟩,
⟨1,24,.sl 70,[.sl]⟩,
⟨1,4,.int .u32,[.i .u32]⟩,
⟨1,0,.oth,[]⟩,
⟨1,8,.oth,[.nf]⟩,
⟨1,24,.sl 4,[.sl]⟩,
⟨1,24,.sl 5,[.sl]⟩,
⟨5,88,.st [(0,3),(1,3),(2,37),(3,41),(4,42)],[.i .i64,.i .i64,.sl,.sl,.sl]⟩,
⟨5,88,.st [(0,3),(1,3),(2,37),(3,41),(4,42)],[.i .i64,.i .i64,.sl,.sl,.sl]⟩,
⟨1,8,.oth,[.nf]⟩,
⟨1,8,.oth,[.nf]⟩,
⟨1,24,.sl 57,[.sl]⟩,
⟨1,8,.oth,[.nf]⟩,
⟨1,8,.oth,[.nf]⟩,
⟨1,8,.oth,[.nf]⟩,
⟨1,8,.oth,[.nf]⟩,
⟨1,8,.oth,[.nf]⟩,
⟨1,0,.oth,[]⟩,
⟨1,8,.oth,[.nf]⟩,
⟨1,8,.oth,[.nf]⟩,
⟨2,24,.st [(0,3),(1,9)],[.i .i64,.s]⟩,
⟨2,24,.st [(0,3),(1,9)],[.i .i64,.s]⟩,
⟨1,8,.oth,[.nf]⟩,
⟨1,8,.oth,[.nf]⟩,
⟨1,8,.oth,[.nf]⟩,
⟨4,32,.st [(0,29),(1,3),(2,3),(3,38)],[.np,.i .i64,.i .i64,.i .u32]⟩,
⟨4,32,.st [(0,29),(1,3),(2,3),(3,38)],[.np,.i .i64,.i .i64,.i .u32]⟩,
⟨1,8,.oth,[.nf]⟩,
⟨4,48,.st [(0,3),(1,3),(2,3),(3,47)],[.i .i64,.i .i64,.i .i64,.sl]⟩,
⟨4,48,.st [(0,3),(1,3),(2,3),(3,47)],[.i .i64,.i .i64,.i .i64,.sl]⟩,
⟨1,8,.oth,[.nf]⟩,
⟨1,8,.oth,[.nf]⟩,
⟨1,8,.oth,[.nf]⟩,
⟨2,32,.st [(0,3),(1,42)],[.i .i64,.sl]⟩,
⟨2,32,.st [(0,3),(1,42)],[.i .i64,.sl]⟩,
⟨1,24,.sl 94,[.sl]⟩,
⟨4,80,.st [(0,42),(1,42),(2,71),(3,3)],[.sl,.sl,.sl,.i .i64]⟩,
⟨4,80,.st [(0,42),(1,42),(2,71),(3,3)],[.sl,.sl,.sl,.i .i64]⟩,
⟨4,32,.st [(0,25),(1,3),(2,3),(3,38)],[.np,.i .i64,.i .i64,.i .u32]⟩,
⟨4,32,.st [(0,25),(1,3),(2,3),(3,38)],[.np,.i .i64,.i .i64,.i .u32]⟩,
⟨1,8,.oth,[.nf]⟩,
⟨1,8,.oth,[.nf]⟩,
⟨1,8,.oth,[.nf]⟩,
⟨1,0,.oth,[]⟩,
⟨1,8,.oth,[.nf]⟩,
⟨1,8,.oth,[.nf]⟩,
⟨1,8,.oth,[.nf]⟩,
⟨1,24,.sl 86,[.sl]⟩,
⟨1,8,.oth,[.nf]⟩,
⟨3,40,.st [(0,3),(1,42),(2,4)],[.i .i64,.sl,.b]⟩,
⟨3,40,.st [(0,3),(1,42),(2,4)],[.i .i64,.sl,.b]⟩,
⟨1,8,.oth,[.nf]⟩,
⟨1,24,.sl 89,[.sl]⟩,
⟨2,24,.st [(0,3),(1,9)],[.i .i64,.s]⟩,
⟨1,8,.oth,[.nf]⟩,
⟨1,8,.oth,[.nf]⟩,
⟨1,8,.oth,[.nf]⟩,
⟨2,32,.st [(0,3),(1,42)],[.i .i64,.sl]⟩,
⟨2,32,.st [(0,3),(1,42)],[.i .i64,.sl]⟩,
⟨1,8,.oth,[.nf]⟩,
⟨1,8,.oth,[.nf]⟩,
⟨1,8,.oth,[.nf]⟩,
⟨1,8,.oth,[.nf]⟩,
⟨1,8,.int .u64,[.i .u64]⟩,
⟨1,8,.oth,[.nm]⟩,
⟨1,0,.oth,[]⟩,
⟨1,8,.oth,[.nf]⟩,
⟨1,8,.oth,[.nf]⟩,
⟨1,8,.oth,[.nf]⟩,
⟨1,8,.oth,[.nf]⟩,
⟨1,8,.oth,[.nf]⟩,
⟨1,8,.oth,[.nf]⟩,
⟨1,0,.oth,[]⟩,
⟨1,8,.oth,[.nf]⟩,
⟨1,0,.oth,[]⟩,
⟨1,8,.oth,[.nf]⟩,
⟨1,8,.ptr 114,[.np]⟩,
⟨2,32,.st [(0,112),(1,42)],[.np,.sl]⟩,
⟨2,32,.st [(0,112),(1,42)],[.np,.sl]⟩,
⟨1,16,.oth,[.ni]⟩,
⟨1,16,.oth,[.ni]⟩,
⟨1,0,.oth,[]⟩,
⟨1,8,.oth,[.nf]⟩,
⟨1,8,.oth,[.nm]⟩,
⟨1,8,.oth,[.nf]⟩,
⟨1,8,.oth,[.nf]⟩,
⟨1,8,.oth,[.nf]⟩,
⟨1,0,.oth,[]⟩,
⟨1,8,.oth,[.nf]⟩,
⟨1,0,.oth,[]⟩,
⟨1,8,.oth,[.nf]⟩,
⟨1,8,.ptr 5,[.np]⟩,
⟨1,8,.oth,[.nf]⟩,
⟨1,8,.oth,[.nf]⟩,
⟨1,8,.oth,[.np]⟩,
⟨1,8,.oth,[.nf]⟩,
⟨1,8,.oth,[.nf]⟩,
⟨1,8,.oth,[.nf]⟩,
⟨1,8,.int .i64,[.i .i64]⟩,
⟨1,0,.oth,[]⟩,
⟨1,8,.oth,[.nf]⟩,
⟨1,8,.oth,[.nf]⟩,
⟨1,8,.oth,[.nf]⟩,
⟨1,0,.oth,[]⟩,
⟨1,8,.oth,[.nf]⟩,
⟨1,8,.oth,[.nf]⟩,
⟨1,8,.oth,[.nf]⟩,
⟨1,8,.int .u64,[.i .u64]⟩,
⟨1,8,.oth,[.nf]⟩,
⟨1,8,.oth,[.nf]⟩,
⟨1,8,.oth,[.nf]⟩,
⟨1,8,.ptr 3,[.np]⟩,
⟨1,8,.oth,[.nf]⟩,
⟨1,8,.ptr 143,[.np]⟩,
⟨1,0,.oth,[]⟩,
⟨1,8,.oth,[.nf]⟩,
⟨4,40,.st [(0,17),(1,17),(2,17),(3,9)],[.np,.np,.np,.s]⟩,
⟨4,40,.st [(0,17),(1,17),(2,17),(3,9)],[.np,.np,.np,.s]⟩,
⟨0,0,.arr 0 16,[]⟩,
⟨0,0,.st [(0,154)],[]⟩,
⟨0,0,.st [(0,154)],[]⟩,
⟨1,1,.int .u8,[.i .u8]⟩,
⟨1,1,.int .u8,[.i .u8]⟩,
⟨1,8,.oth,[.nf]⟩,
⟨1,4,.int .i32,[.i .i32]⟩,
⟨1,4,.int .i32,[.i .i32]⟩,
⟨11,48,.st [(0,12),(1,12),(2,38),(3,157),(4,5),(5,5),(6,158),(7,159),(8,127),(9,160),(10,161)],[.i .u64,.i .u64,.i .u32,.i .u8,.i .u8,.i .u8,.i .u8,.nf,.np,.i .i32,.i .i32]⟩,
⟨11,48,.st [(0,12),(1,12),(2,38),(3,157),(4,5),(5,5),(6,158),(7,159),(8,127),(9,160),(10,161)],[.i .u64,.i .u64,.i .u32,.i .u8,.i .u8,.i .u8,.i .u8,.nf,.np,.i .i32,.i .i32]⟩]
theorem TTok:TOk Try.prog TT:=by unfold TOk; kernel_rfl
theorem mix:Try.prog.follows .mixedOrders=true:=by kernel_rfl
structure Gh where
 fSector:Int
 fData:(List Int)
def Gl (x:Gh):PV:=.agg [.v (.int .i64 x.fSector),.sl (x.fData.map (eI .u8))]
structure Gk where
 fKind:Int
 fN:Int
 fWrites:(List Gh)
 fKept:(List Bool)
 fRaw:(List Int)
def Gn (x:Gk):PV:=.agg [.v (.int .i64 x.fKind),.v (.int .i64 x.fN),.sl (x.fWrites.map Gl),.sl (x.fKept.map eB),.sl (x.fRaw.map (eI .u8))]
structure Gi where
 fn:Int
 fdata:(List Int)
def Ge (x:Gi):PV:=.agg [.v (.int .i64 x.fn),.sl (x.fdata.map (eI .u8))]
structure Gg where
 fsafe:(List Int)
 fnow:(List Int)
 fwait:(List Gi)
 ffuse:Int
def Gci (x:Gg):PV:=.agg [.sl (x.fsafe.map (eI .u8)),.sl (x.fnow.map (eI .u8)),.sl (x.fwait.map Ge),.v (.int .i64 x.ffuse)]
structure Gd where
 fN:Int
 fData:ByteArray
def Gc (x:Gd):PV:=.agg [.v (.int .i64 x.fN),.v (.string x.fData)]
structure Gf where
 fSectors:Int
 fMark:Int
 fFuse:Int
 fAll:(List Gd)
def Gcg (x:Gf):PV:=.agg [.v (.int .i64 x.fSectors),.v (.int .i64 x.fMark),.v (.int .i64 x.fFuse),.sl (x.fAll.map Gc)]
structure Gp where
 fd:Unit
 fat:Int
 fsize:Int
 fseq:Int
structure Gt where
 fD:Unit
 fAt:Int
 fSize:Int
 fSeq:Int
structure Ga where
 fSector:Int
 fData:(List Int)
 fBarrier:Bool
def Gb (x:Ga):PV:=.agg [.v (.int .i64 x.fSector),.sl (x.fData.map (eI .u8)),.v (.bool x.fBarrier)]
structure Gj where
 fN:Int
 fData:ByteArray
def Gm (x:Gj):PV:=.agg [.v (.int .i64 x.fN),.v (.string x.fData)]
def ZB (x y:Gd):Bool:=((x.fN == y.fN)&&((x.fData == y.fData)&&true))
theorem ME (x y:Gd):EqA Try.prog 57 [((.int .i64 x.fN)),((.string x.fData))] [((.int .i64 y.fN)),((.string y.fData))] (ZB x y):=eqA_of TTok (by kernel_rfl) (by kernel_rfl) (by kernel_rfl)
inductive XM where
 | x0 (a:Bool)
def Gbk:XM→Ex
 | .x0 _=>.normal
def Gbl (b:(List Gk)) (c:Int) (a:Gk):XM→PS
 | .x0 e=>⟨(.d (.sl (b.map Gn))::dd::dd::dd::.ref 0 0::dd::dd::.d (.sl (b.map Gn))::di (b.length:Int)::di c::(dds 18 (.d (.v (.bool e))::(dds 16 [])))),[.box [di a.fKind,di a.fN,.d (.sl (a.fWrites.map Gl)),.d (.sl (a.fKept.map eB)),.d (.sl (a.fRaw.map (eI .u8)))]]⟩
def Gbm (b:(List Gk)) (c:Int) (a:Gk)  : PS:=⟨(.d (.sl (b.map Gn))::dd::dd::dd::.ref 0 0::dd::dd::.d (.sl (b.map Gn))::di (b.length:Int)::di c::(dds 35 [])),[.box [di a.fKind,di a.fN,.d (.sl (a.fWrites.map Gl)),.d (.sl (a.fKept.map eB)),.d (.sl (a.fRaw.map (eI .u8)))]]⟩
def Uv (n:Nat) (b:(List Gk)) (c:Int) (a:Gk):Option XM :=
 if (a.fWrites.length:Int) > 12 then
  some (.x0 true)
 else
  if (a.fKept.length:Int) > 100 then
   some (.x0 true)
  else
   some (.x0 (decide ((a.fRaw.length:Int) > 100)))
theorem Gbn {Fi:Ex→PS→Prop} (hF:KC 45 Fi) (ks:List Fr) (n:Nat) (g:(List Gk)) (i:Int) (a:Gk)  (o:XM) (h:Uv n g i a=some o) (q:RunE Try.prog 45 Fi ks (Gbk o) (Gbl g i a o)):RunE Try.prog 45 Fi (.s (cL (cL (cR (cB (cL (cR (cR (cP (cB (cR (cL (cR (bodyOf Try.f4)))))))))))))::ks) .normal (Gbm g i a):=by
 unfold Uv at h
 by_cases b:(a.fWrites.length:Int) > 12
 ·rw [if_pos b] at h
  cases h
  exact pkk_sound TTok mix hF 1 (hs:=[.c,.u (di (a.fWrites.length:Int)),.t true,.c,.c,.c,.c,.c,.c,.c]) (ts:=[]) (s:=[0]) (l:=[0,4,7,8,9,28]) (by kernel_rfl) (by kernel_rfl) (.cons (len_ob (f:=Gl) (l:=a.fWrites)) (.cons (dt b) .nil)) q
 ·rw [if_neg b] at h
  by_cases e:(a.fKept.length:Int) > 100
  ·rw [if_pos e] at h
   cases h
   exact pkk_sound TTok mix hF 1 (hs:=[.c,.u (di (a.fWrites.length:Int)),.t false,.c,.c,.c,.u (di (a.fKept.length:Int)),.c,.t true,.c,.c,.c]) (ts:=[]) (s:=[0]) (l:=[0,4,7,8,9,28]) (by kernel_rfl) (by kernel_rfl) (.cons (len_ob (f:=Gl) (l:=a.fWrites)) (.cons (df b) (.cons (len_ob (f:=eB) (l:=a.fKept)) (.cons (dt e) .nil)))) q
  ·rw [if_neg e] at h
   cases h
   exact pkk_sound TTok mix hF 1 (hs:=[.c,.u (di (a.fWrites.length:Int)),.t false,.c,.c,.c,.u (di (a.fKept.length:Int)),.c,.t false,.c,.c,.c,.u (di (a.fRaw.length:Int)),.c]) (ts:=[]) (s:=[0]) (l:=[0,4,7,8,9,28]) (by kernel_rfl) (by kernel_rfl) (.cons (len_ob (f:=Gl) (l:=a.fWrites)) (.cons (df b) (.cons (len_ob (f:=eB) (l:=a.fKept)) (.cons (df e) (.cons (len_ob (f:=(eI .u8)) (l:=a.fRaw)) .nil))))) q
inductive XN where
 | x0 (a:Bool)
 | x1 
def Gbo:XN→Ex
 | .x0 _=>.ret
 | .x1  => .exit 2
def Gbp (a:(List Gk)) (b:Int) (e:Gk):XN→PS
 | .x0 c=>⟨(dd::dd::.d (.v (.bool c))::(dds 42 [])),[]⟩
 | .x1  => ⟨(.d (.sl (a.map Gn))::dd::dd::dd::dd::dd::dd::.d (.sl (a.map Gn))::di (a.length:Int)::di b::(dds 35 [])),[]⟩
def Gbq (a:(List Gk)) (c:Int) (b:Gk) (e:Int):PS:=⟨(.d (.sl (a.map Gn))::dd::dd::dd::dd::dd::dd::.d (.sl (a.map Gn))::di (a.length:Int)::di c::(dds 20 (.d (.sl (b.fWrites.map Gl))::di (b.fWrites.length:Int)::di e::(dds 12 [])))),[]⟩
def Ky (n:Nat) (c:(List Gk)) (d:Int) (a:Gk):Nat→Int→Option XN
 | 0,_=>none
 | k+1,b =>
  if b<(a.fWrites.length:Int) then
   (getI a.fWrites b).bind fun (e:Gh) =>
   if (e.fData.length:Int) > 100 then
    some (.x0 false)
   else
    Ky n c d a k (wi .i64 (b+1))
  else
   some (.x1 )
theorem Jq {Fi:Ex→PS→Prop} (hF:KC 45 Fi) (ks:List Fr) (n:Nat) (i:(List Gk)) (j:Int) (e:Gk)  : ∀ (k:Nat) (b:Int) (o:XN),Ky n i j e k b=some o→RunE Try.prog 45 Fi ks (Gbo o) (Gbp i j e o)→RunE Try.prog 45 Fi (.l k (cP (cB (cR (cR (cR (cB (cL (cR (cR (cP (cB (cR (cL (cR (bodyOf Try.f4)))))))))))))))::ks) .normal (Gbq i j e b)
 | 0,b,o,h,q=>by rw [Ky] at h; cases h
 | k+1,b,o,h,q=>by
  rw [Ky] at h
  by_cases g:b<(e.fWrites.length:Int)
  ·rw [if_pos g] at h
   obtain ⟨a,p,h⟩:=bind_some h
   by_cases m:(a.fData.length:Int) > 100
   ·rw [if_pos m] at h
    cases h
    exact pkk_sound TTok mix hF 19 (hs:=[.t true,.y (Gl a),.c,.c,.u (di (a.fData.length:Int)),.t true]) (ts:=[]) (s:=[]) (l:=[2]) (by kernel_rfl) (by kernel_rfl) (.cons (dt g) (.cons (getI_ob (f:=Gl) p) (.cons (show 0+2≤2 by decide) (.cons (len_ob (f:=(eI .u8)) (l:=a.fData)) (.cons (dt m) .nil))))) q
   ·rw [if_neg m] at h
    exact pkk_sound TTok mix hF 16 (hs:=[.t true,.y (Gl a),.c,.c,.u (di (a.fData.length:Int)),.t false]) (ts:=[]) (s:=[]) (l:=[0,7,8,9,30,31,32]) (by kernel_rfl) (by kernel_rfl) (.cons (dt g) (.cons (getI_ob (f:=Gl) p) (.cons (show 0+2≤2 by decide) (.cons (len_ob (f:=(eI .u8)) (l:=a.fData)) (.cons (df m) .nil))))) (Jq hF ks n i j e k (wi .i64 (b+1)) _ h q)
  ·rw [if_neg g] at h
   cases h
   exact pkk_sound TTok mix hF 8 (hs:=[.t false]) (ts:=[]) (s:=[]) (l:=[0,7,8,9]) (by kernel_rfl) (by kernel_rfl) (.cons (df g) .nil) q
inductive XO where
 | x0 (a:Bool)
 | x1 
def Gbr:XO→Ex
 | .x0 _=>.ret
 | .x1  => .exit 0
def Gbs (a:(List Gk)):XO→PS
 | .x0 b=>⟨(dd::dd::.d (.v (.bool b))::(dds 42 [])),[]⟩
 | .x1  => ⟨(.d (.sl (a.map Gn))::(dds 44 [])),[]⟩
def Gbt (a:(List Gk)) (b:Int):PS:=⟨(.d (.sl (a.map Gn))::dd::dd::dd::dd::dd::dd::.d (.sl (a.map Gn))::di (a.length:Int)::di b::(dds 35 [])),[]⟩
def Kz (n:Nat) (a:(List Gk)):Nat→Int→Option XO
 | 0,_=>none
 | k+1,b =>
  if b<(a.length:Int) then
   (getI a b).bind fun (c:Gk) =>
   (Uv n a b c).bind fun d=>match d with
   | .x0 e =>
    if e=true then
     some (.x0 false)
    else
     (Ky n a b c n 0).bind fun f=>match f with
     | .x0 g =>
      some (.x0 g)
     | .x1  =>
      Kz n a k (wi .i64 (b+1))
  else
   some (.x1 )
theorem Jr {Fi:Ex→PS→Prop} (hF:KC 45 Fi) (ks:List Fr) (n:Nat) (e:(List Gk))  : ∀ (k:Nat) (a:Int) (o:XO),Kz n e k a=some o→RunE Try.prog 45 Fi ks (Gbr o) (Gbs e o)→RunE Try.prog 45 Fi (.l k (cP (cB (cR (cL (cR (bodyOf Try.f4))))))::ks) .normal (Gbt e a)
 | 0,a,o,h,q=>by rw [Kz] at h; cases h
 | k+1,a,o,h,q=>by
  rw [Kz] at h
  by_cases i:a<(e.length:Int)
  ·rw [if_pos i] at h
   obtain ⟨g,m,h⟩:=bind_some h
   obtain ⟨p,r,h⟩:=bind_some h
   refine pkk_sound TTok mix hF 12 (hs:=[.t true,.y (Gn g),.c]) (ts:=[]) (s:=[15]) (l:=[0,4,7,8,9]) (by kernel_rfl) (by kernel_rfl) (.cons (dt i) (.cons (getI_ob (f:=Gn) m) (.cons (show 0+5≤5 by decide) .nil))) (Gbn hF (.s (cR (cL (cR (cB (cL (cR (cR (cP (cB (cR (cL (cR (bodyOf Try.f4)))))))))))))::.s (cR (cR (cB (cL (cR (cR (cP (cB (cR (cL (cR (bodyOf Try.f4))))))))))))::.b 1::.s (cR (cR (cR (cP (cB (cR (cL (cR (bodyOf Try.f4)))))))))::.l k (cP (cB (cR (cL (cR (bodyOf Try.f4))))))::ks) n e a g _ r ?_)
   cases p with
   | x0 w =>
    try dsimp only at h
    by_cases j:w=true
    ·rw [if_pos j] at h
     cases h
     exact pkk_sound TTok mix hF 8 (hs:=[.t true]) (ts:=[]) (s:=[]) (l:=[2]) (by kernel_rfl) (by kernel_rfl) (.cons j .nil) q
    ·rw [if_neg j] at h
     obtain ⟨x,z,h⟩:=bind_some h
     refine pkk_sound TTok mix hF 6 (hs:=[.t false,.c,.u (di (g.fWrites.length:Int)),.n n]) (ts:=[]) (s:=[]) (l:=[0,7,8,9,30,31,32]) (by kernel_rfl) (by kernel_rfl) (.cons (vf j) (.cons (len_ob (f:=Gl) (l:=g.fWrites)) .nil)) (Jq hF (.b 2::.b 1::.s (cR (cR (cR (cP (cB (cR (cL (cR (bodyOf Try.f4)))))))))::.l k (cP (cB (cR (cL (cR (bodyOf Try.f4))))))::ks) n e a g n 0 _ z ?_)
     cases x with
     | x0 a0 =>
      try dsimp only at h
      cases h
      exact pkk_sound TTok mix hF 4 (hs:=[]) (ts:=[]) (s:=[]) (l:=[2]) (by kernel_rfl) (by kernel_rfl) .nil q
     | x1  =>
      try dsimp only at h
      exact pkk_sound TTok mix hF 3 (hs:=[]) (ts:=[]) (s:=[]) (l:=[0,7,8,9]) (by kernel_rfl) (by kernel_rfl) .nil (Jr hF ks n e k (wi .i64 (a+1)) _ h q)
  ·rw [if_neg i] at h
   cases h
   exact pkk_sound TTok mix hF 8 (hs:=[.t false]) (ts:=[]) (s:=[]) (l:=[0]) (by kernel_rfl) (by kernel_rfl) (.cons (df i) .nil) q
/- ringhall/ringlaw3.few -/
def XK (n:Nat) (a:(List Gk)):Option (Bool) :=
 (Kz n a n 0).bind fun b=>match b with
 | .x0 c =>
  some c
 | .x1  =>
  some (decide ((a.length:Int)≤12))
theorem Kg (n:Nat) (a:(List Gk)) (r:Bool) (h:XK n a=some r):Ret Try.prog 4 [(eL Gn) a] (eB r):=by
 refine ret_run (n:=45) (fn:=Try.f4) (c:=bodyOf Try.f4) (by kernel_rfl) (by kernel_rfl) (by kernel_rfl) (by kernel_rfl) ?_
 have hF:KC 45 (FinR Try.prog Try.f4 (eB r)):=FinR.kc' (by kernel_rfl)
 unfold XK at h
 obtain ⟨e,g,h⟩:=bind_some h
 refine pkk_sound TTok mix hF 7 (hs:=[.u (di (a.length:Int)),.n n]) (ts:=[]) (s:=[]) (l:=[0,7,8,9]) (by kernel_rfl) (by kernel_rfl) (.cons (len_ob (f:=Gn) (l:=a)) .nil) (Jr hF (.b 0::.s (cR (cR (bodyOf Try.f4)))::[]) n a n 0 _ g ?_)
 cases e with
 | x0 i =>
  try dsimp only at h
  obtain rfl:=Option.some.inj h
  exact pend_sound TTok mix 2 (hs:=[]) (by kernel_rfl) (by kernel_rfl) (by kernel_rfl) .nil
 | x1  =>
  try dsimp only at h
  obtain rfl:=Option.some.inj h
  exact pend_sound TTok mix 4 (hs:=[.u (di (a.length:Int))]) (by kernel_rfl) (by kernel_rfl) (by kernel_rfl) (.cons (len_ob (f:=Gn) (l:=a)) .nil)
/- ringhall/disk.New -/
def Js (n:Nat) (a:Int):Option ((Option Gg)×Int) :=
 if a<16 then
  some (none,1)
 else
  if a > 256 then
   some (none,1)
  else
   (mkL 1 0 (wi .i64 (a*64))).bind fun (b:(List Int)) =>
   (mkL 1 0 (wi .i64 (a*64))).bind fun (c:(List Int)) =>
   some ((some (Gg.mk b c ([]:List Gi) (-1))),0)
theorem K0 (n:Nat) (g:Int) (r:(Option Gg)×Int) (h:Js n g=some r):RetH Try.prog 5 [.d ((eI .i64) g)] [] (.tup [(match r.1 with | none=>.d (.v (.pointer none)) | some x=>.ref 0 0),.d ((eI .i64) r.2)]) (match r.1 with | none=>[] | some x=>[.box [.srf 1,.srf 2,.srf 3,di x.ffuse],.row 5 1 (x.fsafe.map (eI .u8)),.row 5 1 (x.fnow.map (eI .u8)),.row 94 2 (x.fwait.map Ge)]):=by
 refine retH_run (n:=19) (fn:=Try.f5) (c:=bodyOf Try.f5) (by kernel_rfl) (by kernel_rfl) (by kernel_rfl) (by kernel_rfl) ?_
 have hF:KC 19 (FinH Try.prog Try.f5 [] (.tup [(match r.1 with | none=>.d (.v (.pointer none)) | some x=>.ref 0 0),.d ((eI .i64) r.2)]) (match r.1 with | none=>[] | some x=>[.box [.srf 1,.srf 2,.srf 3,di x.ffuse],.row 5 1 (x.fsafe.map (eI .u8)),.row 5 1 (x.fnow.map (eI .u8)),.row 94 2 (x.fwait.map Ge)])):=FinH.kc' (by kernel_rfl)
 unfold Js at h
 by_cases a:g<16
 ·rw [if_pos a] at h
  obtain rfl:=Option.some.inj h
  exact pendH_sound TTok mix 10 (hs:=[.t true,.c,.c]) [] (by kernel_rfl) (by kernel_rfl) (by kernel_rfl) (.cons (dt a) .nil)
 ·rw [if_neg a] at h
  by_cases i:g > 256
  ·rw [if_pos i] at h
   obtain rfl:=Option.some.inj h
   exact pendH_sound TTok mix 10 (hs:=[.t false,.c,.t true]) [] (by kernel_rfl) (by kernel_rfl) (by kernel_rfl) (.cons (df a) (.cons (dt i) .nil))
  ·rw [if_neg i] at h
   obtain ⟨j,b,h⟩:=bind_some h
   obtain ⟨k,e,h⟩:=bind_some h
   obtain rfl:=Option.some.inj h
   exact pendH_sound TTok mix 13 (hs:=[.t false,.c,.t false,.w (j.map (eI .u8)),.w (k.map (eI .u8)),.dl 1,.tb 80 2 94 2]) [80,60,70,95] (by kernel_rfl) (by kernel_rfl) (by kernel_rfl) (.cons (df a) (.cons (df i) (.cons (mkL_ob (f:=(eI .u8)) (p:=.v (.int .u8 0)) b rfl).1 (.cons (mkL_ob (f:=(eI .u8)) (p:=.v (.int .u8 0)) b rfl).2.1 (.cons (mkL_ob (f:=(eI .u8)) (p:=.v (.int .u8 0)) b rfl).2.2.1 (.cons (mkL_ob (f:=(eI .u8)) (p:=.v (.int .u8 0)) b rfl).2.2.2.1 (.cons (mkL_ob (f:=(eI .u8)) (p:=.v (.int .u8 0)) b rfl).2.2.2.2 (.cons (mkL_ob (f:=(eI .u8)) (p:=.v (.int .u8 0)) e rfl).1 (.cons (mkL_ob (f:=(eI .u8)) (p:=.v (.int .u8 0)) e rfl).2.1 (.cons (mkL_ob (f:=(eI .u8)) (p:=.v (.int .u8 0)) e rfl).2.2.1 (.cons (mkL_ob (f:=(eI .u8)) (p:=.v (.int .u8 0)) e rfl).2.2.2.1 (.cons (mkL_ob (f:=(eI .u8)) (p:=.v (.int .u8 0)) e rfl).2.2.2.2 .nil))))))))))))
/- ringhall/ringref3.NewDisk -/
def XC (n:Nat) (a:Int):Option (Gf) :=
 some (Gf.mk a 0 (-1) ([]:List Gd))
theorem KE (n:Nat) (a:Int) (r:Gf) (h:XC n a=some r):RetH Try.prog 6 [.d ((eI .i64) a)] [] (.ref 0 0) [.box [di r.fSectors,di r.fMark,di r.fFuse,.srf 1],.cu (rowF 57 2 (r.fAll.map Gc)) []]:=by
 refine retH_run (n:=6) (fn:=Try.f6) (c:=bodyOf Try.f6) (by kernel_rfl) (by kernel_rfl) (by kernel_rfl) (by kernel_rfl) ?_
 have hF:KC 6 (FinH Try.prog Try.f6 [] (.ref 0 0) [.box [di r.fSectors,di r.fMark,di r.fFuse,.srf 1],.cu (rowF 57 2 (r.fAll.map Gc)) []]):=FinH.kc' (by kernel_rfl)
 unfold XC at h
 obtain rfl:=Option.some.inj h
 exact pendH_sound TTok mix 7 (hs:=[.dl 5,.tb 15 3 57 2,.sx [25] (toF 25 57 2 (([]:List Gd).map Gc))]) [15,25] (by kernel_rfl) (by kernel_rfl) (by kernel_rfl) (.cons (row_toF (l:=25) (e:=57) (s:=2) (xs:=(([]:List Gd).map Gc))) .nil)
/- (*ringhall/disk.Disk).Size -/
def G7 (n:Nat) (a:Gg):Option (Int×Gg) :=
 some ((quoI .i64 (a.fnow.length:Int) 64),a)
theorem G2 (n:Nat) (a:Gg) (r:Int×Gg) (h:G7 n a=some r):RetH Try.prog 28 [.ref 0 0] [.box [.srf 1,.srf 2,.srf 3,di a.ffuse],.row 5 1 (a.fsafe.map (eI .u8)),.row 5 1 (a.fnow.map (eI .u8)),.row 94 2 (a.fwait.map Ge)] (.d ((eI .i64) r.1)) [.box [.srf 4,.srf 5,.srf 6,di r.2.ffuse],.none,.none,.none,.row 5 1 (r.2.fsafe.map (eI .u8)),.row 5 1 (r.2.fnow.map (eI .u8)),.row 94 2 (r.2.fwait.map Ge)]:=by
 refine retH_run (n:=9) (fn:=Try.f28) (c:=bodyOf Try.f28) (by kernel_rfl) (by kernel_rfl) (by kernel_rfl) (by kernel_rfl) ?_
 have hF:KC 9 (FinH Try.prog Try.f28 [.box [.srf 1,.srf 2,.srf 3,di a.ffuse],.row 5 1 (a.fsafe.map (eI .u8)),.row 5 1 (a.fnow.map (eI .u8)),.row 94 2 (a.fwait.map Ge)] (.d ((eI .i64) r.1)) [.box [.srf 4,.srf 5,.srf 6,di r.2.ffuse],.none,.none,.none,.row 5 1 (r.2.fsafe.map (eI .u8)),.row 5 1 (r.2.fnow.map (eI .u8)),.row 94 2 (r.2.fwait.map Ge)]):=FinH.kc' (by kernel_rfl)
 unfold G7 at h
 obtain rfl:=Option.some.inj h
 exact pendH_sound TTok mix 8 (hs:=[.c,.u (di (a.fnow.length:Int)),.dl 1,.mv 1,.mv 2,.mv 3]) [0,1,2,3,48,49,50] (by kernel_rfl) (by kernel_rfl) (by kernel_rfl) (.cons (len_ob (f:=(eI .u8)) (l:=a.fnow)) (.cons (show (64:Int)≠0 by decide) .nil))
inductive YR where
 | x0 (a:Bool) (b c:(List Int)) (d:(List Gi))
 | x1 (e:Bool) (f:Int) (g h:(List Int)) (i:(List Gi))
def Gaq:YR→Ex
 | .x0 _ _ _ _=>.normal
 | .x1 _ _ _ _ _=>.normal
def Gar (l m:Int) (a:Gg):YR→PS
 | .x0 b c e f=>⟨(dds 24 [.d (.v (.bool b))]),[.gh 0 (.ref 4 0),.gh 1 (.srf 5),.gh 2 (.srf 6),.gh 3 (.srf 7),.box [.srf 5,.srf 6,.srf 7,di a.ffuse],.row 5 1 (c.map (eI .u8)),.row 5 1 (e.map (eI .u8)),.row 94 2 (f.map Ge)]⟩
 | .x1 g h i j k=>⟨(dds 24 [.d (.v (.bool g))]),[.gh 0 (.ref 4 0),.gh 1 (.srf 8),.gh 2 (.srf 9),.gh 3 (.srf 10),.box [.srf 5,.srf 6,.srf 7,di h],.row 5 1 (i.map (eI .u8)),.row 5 1 (j.map (eI .u8)),.row 94 2 (k.map Ge),.none,.none,.none]⟩
def Gas (b c:Int) (a:Gg)  : PS:=⟨(.ref 4 0::di b::di c::(dds 22 [])),[.gh 0 (.ref 4 0),.gh 1 (.srf 5),.gh 2 (.srf 6),.gh 3 (.srf 7),.box [.srf 5,.srf 6,.srf 7,di a.ffuse],.row 5 1 (a.fsafe.map (eI .u8)),.row 5 1 (a.fnow.map (eI .u8)),.row 94 2 (a.fwait.map Ge)]⟩
def Xp (n:Nat) (d c:Int) (a:Gg):Option YR :=
 if c<3 then
  some (.x0 true a.fsafe a.fnow a.fwait)
 else
  if c > 60 then
   some (.x0 true a.fsafe a.fnow a.fwait)
  else
   if d<0 then
    some (.x0 true a.fsafe a.fnow a.fwait)
   else
    (G7 n a).bind fun (b:(Int×Gg)) =>
    some (.x1 (decide (d > (wi .i64 (b.1-c)))) b.2.ffuse b.2.fsafe b.2.fnow b.2.fwait)
theorem Gat {Fi:Ex→PS→Prop} (hF:KC 25 Fi) (ks:List Fr) (n:Nat) (g b:Int) (i:Gg)  (o:YR) (h:Xp n g b i=some o) (q:RunE Try.prog 25 Fi ks (Gaq o) (Gar g b i o)):RunE Try.prog 25 Fi (.s (cL (cL (cR (bodyOf Try.f31))))::ks) .normal (Gas g b i):=by
 unfold Xp at h
 by_cases a:b<3
 ·rw [if_pos a] at h
  cases h
  exact pkk_sound TTok mix hF 1 (hs:=[.t true,.c,.c,.c,.c,.c,.c,.c,.c,.c]) (ts:=[]) (s:=[0,1,2,3,4,5,6,7]) (l:=[24]) (by kernel_rfl) (by kernel_rfl) (.cons (dt a) .nil) q
 ·rw [if_neg a] at h
  by_cases e:b > 60
  ·rw [if_pos e] at h
   cases h
   exact pkk_sound TTok mix hF 1 (hs:=[.t false,.c,.t true,.c,.c,.c,.c,.c,.c,.c]) (ts:=[]) (s:=[0,1,2,3,4,5,6,7]) (l:=[24]) (by kernel_rfl) (by kernel_rfl) (.cons (df a) (.cons (dt e) .nil)) q
  ·rw [if_neg e] at h
   by_cases j:g<0
   ·rw [if_pos j] at h
    cases h
    exact pkk_sound TTok mix hF 1 (hs:=[.t false,.c,.t false,.c,.t true,.c,.c,.c,.c,.c]) (ts:=[]) (s:=[0,1,2,3,4,5,6,7]) (l:=[24]) (by kernel_rfl) (by kernel_rfl) (.cons (df a) (.cons (df e) (.cons (dt j) .nil))) q
   ·rw [if_neg j] at h
    obtain ⟨f,k,h⟩:=bind_some h
    cases h
    exact pkk_sound TTok mix hF 1 (hs:=[.t false,.c,.t false,.c,.t false,.c,.c,.h [4,5,6,7] [] [.box [.srf 4,.srf 5,.srf 6,di f.2.ffuse],.none,.none,.none,.row 5 1 (f.2.fsafe.map (eI .u8)),.row 5 1 (f.2.fnow.map (eI .u8)),.row 94 2 (f.2.fwait.map Ge)] (di f.1),.c,.c,.c]) (ts:=[]) (s:=[0,1,2,3,4,73,74,75,5,6,7]) (l:=[24]) (by kernel_rfl) (by kernel_rfl) (.cons (df a) (.cons (df e) (.cons (df j) (.cons (G2 n i _ k) .nil)))) q
/- ringhall/journal.region -/
def Yp (n:Nat) (a:Gg) (i j:Int):Option (Int×Gg) :=
 (Xp n i j a).bind fun k=>match k with
 | .x0 l b c d =>
  if l=true then
   some (1,(Gg.mk b c d a.ffuse))
  else
   some (0,(Gg.mk b c d a.ffuse))
 | .x1 m e f g h =>
  if m=true then
   some (1,(Gg.mk f g h e))
  else
   some (0,(Gg.mk f g h e))
theorem Jm (n:Nat) (a:Gg) (f g:Int) (r:Int×Gg) (h:Yp n a f g=some r):RetH Try.prog 31 [.ref 0 0,.d ((eI .i64) f),.d ((eI .i64) g)] [.box [.srf 1,.srf 2,.srf 3,di a.ffuse],.row 5 1 (a.fsafe.map (eI .u8)),.row 5 1 (a.fnow.map (eI .u8)),.row 94 2 (a.fwait.map Ge)] (.d ((eI .i64) r.1)) [.box [.srf 4,.srf 5,.srf 6,di r.2.ffuse],.none,.none,.none,.row 5 1 (r.2.fsafe.map (eI .u8)),.row 5 1 (r.2.fnow.map (eI .u8)),.row 94 2 (r.2.fwait.map Ge)]:=by
 refine retH_run (n:=25) (fn:=Try.f31) (c:=bodyOf Try.f31) (by kernel_rfl) (by kernel_rfl) (by kernel_rfl) (by kernel_rfl) ?_
 have hF:KC 25 (FinH Try.prog Try.f31 [.box [.srf 1,.srf 2,.srf 3,di a.ffuse],.row 5 1 (a.fsafe.map (eI .u8)),.row 5 1 (a.fnow.map (eI .u8)),.row 94 2 (a.fwait.map Ge)] (.d ((eI .i64) r.1)) [.box [.srf 4,.srf 5,.srf 6,di r.2.ffuse],.none,.none,.none,.row 5 1 (r.2.fsafe.map (eI .u8)),.row 5 1 (r.2.fnow.map (eI .u8)),.row 94 2 (r.2.fwait.map Ge)]):=FinH.kc' (by kernel_rfl)
 unfold Yp at h
 obtain ⟨i,j,h⟩:=bind_some h
 refine pkk_sound TTok mix hF 4 (hs:=[]) (ts:=[]) (s:=[4,5,6,7,0,1,2,3]) (l:=[0,1,2]) (by kernel_rfl) (by kernel_rfl) .nil (Gat hF (.s (cR (cL (cR (bodyOf Try.f31))))::.s (cR (cR (bodyOf Try.f31)))::[]) n f g a _ j ?_)
 cases i with
 | x0 k o p q =>
  try dsimp only at h
  by_cases b:k=true
  ·rw [if_pos b] at h
   obtain rfl:=Option.some.inj h
   exact pendH_sound TTok mix 8 (hs:=[.t true,.dl 4,.mv 5,.mv 6,.mv 7]) [4,5,6,7,13,14,15] (by kernel_rfl) (by kernel_rfl) (by kernel_rfl) (.cons b .nil)
  ·rw [if_neg b] at h
   obtain rfl:=Option.some.inj h
   exact pendH_sound TTok mix 8 (hs:=[.t false,.dl 4,.mv 5,.mv 6,.mv 7]) [4,5,6,7,13,14,15] (by kernel_rfl) (by kernel_rfl) (by kernel_rfl) (.cons (vf b) .nil)
 | x1 m u w x y =>
  try dsimp only at h
  by_cases e:m=true
  ·rw [if_pos e] at h
   obtain rfl:=Option.some.inj h
   exact pendH_sound TTok mix 5 (hs:=[.t true]) [4,8,9,10,5,6,7] (by kernel_rfl) (by kernel_rfl) (by kernel_rfl) (.cons e .nil)
  ·rw [if_neg e] at h
   obtain rfl:=Option.some.inj h
   exact pendH_sound TTok mix 5 (hs:=[.t false]) [4,8,9,10,5,6,7] (by kernel_rfl) (by kernel_rfl) (by kernel_rfl) (.cons (vf e) .nil)
/- slices.Clone[[]byte,byte] -/
def Xy (n a:Nat):Option ((List Int)) :=
 some ([]:List Int)
theorem JW (n a:Nat) (r:(List Int)) (h:Xy n a=some r):RetH Try.prog 37 [.d (.v (.slice none 0 a))] [] (.srf 0) [.row 5 1 (r.map (eI .u8))]:=by
 refine retH_run (n:=8) (fn:=Try.f37) (c:=bodyOf Try.f37) (by kernel_rfl) (by kernel_rfl) (by kernel_rfl) (by kernel_rfl) ?_
 have hF:KC 8 (FinH Try.prog Try.f37 [] (.srf 0) [.row 5 1 (r.map (eI .u8))]):=FinH.kc' (by kernel_rfl)
 unfold Xy at h
 obtain rfl:=Option.some.inj h
 exact pendH_sound TTok mix 11 (hs:=[.c,.dl 4,.th 2 5 1]) [20] (by kernel_rfl) (by kernel_rfl) (by kernel_rfl) .nil
/- slices.Clone[[]byte,byte] -/
def Xz (n:Nat) (b:Addr) (c:Nat):Option ((List Int)) :=
 (app 1 ([]:List Int) ([]:(List Int))).bind fun (a:(List Int)) =>
 some a
theorem JX (n:Nat) (b:Addr) (e:Nat) (r:(List Int)) (h:Xz n b e=some r):RetH Try.prog 37 [.d (.v (.slice (some b) 0 e))] [] (.srf 0) [.row 5 1 (r.map (eI .u8))]:=by
 refine retH_run (n:=8) (fn:=Try.f37) (c:=bodyOf Try.f37) (by kernel_rfl) (by kernel_rfl) (by kernel_rfl) (by kernel_rfl) ?_
 have hF:KC 8 (FinH Try.prog Try.f37 [] (.srf 0) [.row 5 1 (r.map (eI .u8))]):=FinH.kc' (by kernel_rfl)
 unfold Xz at h
 obtain ⟨g,a,h⟩:=bind_some h
 obtain rfl:=Option.some.inj h
 exact pendH_sound TTok mix 10 (hs:=[.c,.w (([]:List Int).map (eI .u8)),.w (g.map (eI .u8))]) [25] (by kernel_rfl) (by kernel_rfl) (by kernel_rfl) (.cons (Eq.refl (([]:List Int).map (eI .u8))) (.cons (app_ob (f:=(eI .u8)) (s:=1) a (fun _=>rfl)).1 (.cons (app_ob (f:=(eI .u8)) (s:=1) a (fun _=>rfl)).2.1 (.cons (app_ob (f:=(eI .u8)) (s:=1) a (fun _=>rfl)).2.2.1 (.cons (app_ob (f:=(eI .u8)) (s:=1) a (fun _=>rfl)).2.2.2 .nil)))))
/- slices.Clone[[]byte,byte] -/
def XA (n:Nat) (a:Int) (b:(List Int)):Option ((List Int)) :=
 (app 1 ([]:List Int) (a::b)).bind fun (c:(List Int)) =>
 some c
theorem JY (n:Nat) (b:Int) (e r:(List Int)) (h:XA n b e=some r):RetH Try.prog 37 [.d (.sl ((eI .u8) b::e.map (eI .u8)))] [] (.srf 0) [.row 5 1 (r.map (eI .u8))]:=by
 refine retH_run (n:=8) (fn:=Try.f37) (c:=bodyOf Try.f37) (by kernel_rfl) (by kernel_rfl) (by kernel_rfl) (by kernel_rfl) ?_
 have hF:KC 8 (FinH Try.prog Try.f37 [] (.srf 0) [.row 5 1 (r.map (eI .u8))]):=FinH.kc' (by kernel_rfl)
 unfold XA at h
 obtain ⟨g,a,h⟩:=bind_some h
 obtain rfl:=Option.some.inj h
 exact pendH_sound TTok mix 10 (hs:=[.c,.w (([]:List Int).map (eI .u8)),.w (g.map (eI .u8))]) [25] (by kernel_rfl) (by kernel_rfl) (by kernel_rfl) (.cons (Eq.refl (([]:List Int).map (eI .u8))) (.cons (app_ob (f:=(eI .u8)) (s:=1) a (fun _=>rfl)).1 (.cons (app_ob (f:=(eI .u8)) (s:=1) a (fun _=>rfl)).2.1 (.cons (app_ob (f:=(eI .u8)) (s:=1) a (fun _=>rfl)).2.2.1 (.cons (app_ob (f:=(eI .u8)) (s:=1) a (fun _=>rfl)).2.2.2 .nil)))))
def GC (n:Nat) (xs:(List Int)):Option (List Int):=app 1 [] xs
theorem Y8 (n:Nat) (xs r:(List Int)) (h:GC n xs=some r):RetH Try.prog 37 [.d (.sl (xs.map (eI .u8)))] [] (.srf 0) [.row 5 1 (r.map (eI .u8))]:=by
 unfold GC at h
 have e:app 1 ([]:(List Int)) []=some []:=by simp [app]
 cases xs with
 | nil =>
  rw [e] at h; obtain rfl:=Option.some.inj h
  exact clone_nil (fun c=>JW n c _ (by unfold Xy; rfl)) (fun a c=>JX n a c _ (by unfold Xz; rw [e]; rfl))
 | cons y ys=>exact JY n y ys _ (by unfold XA; rw [h]; rfl)
theorem ZN (n:Nat) (xs r:(List Int)) (h:GC n xs=some r):Ret Try.prog 37 [.sl (xs.map (eI .u8))] (eL (eI .u8) r):=Ret.of_H (args:=[.sl (xs.map (eI .u8))]) (Y8 n xs r h)
/- (*ringhall/disk.Disk).Read -/
def Kl (n:Nat) (c:Gg) (a:Int):Option ((List Int)×Int×Gg) :=
 if a<0 then
  some (([]:(List Int)),1,c)
 else
  (G7 n c).bind fun (b:(Int×Gg)) =>
  if a≥b.1 then
   some (([]:(List Int)),1,b.2)
  else
   if ((0:Int)≤(wi .i64 (a*64))∧(wi .i64 (a*64))≤(wi .i64 ((wi .i64 (a+1))*64))∧(wi .i64 ((wi .i64 (a+1))*64))≤(b.2.fnow.length:Int)) then
    if (wi .i64 (a*64)).toNat≤(wi .i64 ((wi .i64 (a+1))*64)).toNat∧(wi .i64 ((wi .i64 (a+1))*64)).toNat≤b.2.fnow.length then
     (GC n ((b.2.fnow.take ((wi .i64 ((wi .i64 (a+1))*64)).toNat)).drop ((wi .i64 (a*64)).toNat))).bind fun (d:(List Int)) =>
     some (d,0,b.2)
    else none
   else none
theorem UH (n:Nat) (o:Gg) (k:Int) (r:(List Int)×Int×Gg) (h:Kl n o k=some r):RetH Try.prog 32 [.ref 0 0,.d ((eI .i64) k)] [.box [.srf 1,.srf 2,.srf 3,di o.ffuse],.row 5 1 (o.fsafe.map (eI .u8)),.row 5 1 (o.fnow.map (eI .u8)),.row 94 2 (o.fwait.map Ge)] (.tup [.d ((eL (eI .u8)) r.1),.d ((eI .i64) r.2.1)]) [.box [.srf 4,.srf 5,.srf 6,di r.2.2.ffuse],.none,.none,.none,.row 5 1 (r.2.2.fsafe.map (eI .u8)),.row 5 1 (r.2.2.fnow.map (eI .u8)),.row 94 2 (r.2.2.fwait.map Ge)]:=by
 refine retH_run (n:=25) (fn:=Try.f32) (c:=bodyOf Try.f32) (by kernel_rfl) (by kernel_rfl) (by kernel_rfl) (by kernel_rfl) ?_
 have hF:KC 25 (FinH Try.prog Try.f32 [.box [.srf 1,.srf 2,.srf 3,di o.ffuse],.row 5 1 (o.fsafe.map (eI .u8)),.row 5 1 (o.fnow.map (eI .u8)),.row 94 2 (o.fwait.map Ge)] (.tup [.d ((eL (eI .u8)) r.1),.d ((eI .i64) r.2.1)]) [.box [.srf 4,.srf 5,.srf 6,di r.2.2.ffuse],.none,.none,.none,.row 5 1 (r.2.2.fsafe.map (eI .u8)),.row 5 1 (r.2.2.fnow.map (eI .u8)),.row 94 2 (r.2.2.fwait.map Ge)]):=FinH.kc' (by kernel_rfl)
 unfold Kl at h
 by_cases p:k<0
 ·rw [if_pos p] at h
  obtain rfl:=Option.some.inj h
  exact pendH_sound TTok mix 13 (hs:=[.t true,.c,.c,.c,.c,.dl 4,.mv 1,.mv 2,.mv 3]) [0,1,2,3,68,69,70] (by kernel_rfl) (by kernel_rfl) (by kernel_rfl) (.cons (dt p) .nil)
 ·rw [if_neg p] at h
  obtain ⟨m,y,h⟩:=bind_some h
  by_cases q:k≥m.1
  ·rw [if_pos q] at h
   obtain rfl:=Option.some.inj h
   exact pendH_sound TTok mix 10 (hs:=[.t false,.c,.c,.h [0,1,2,3] [] [.box [.srf 4,.srf 5,.srf 6,di m.2.ffuse],.none,.none,.none,.row 5 1 (m.2.fsafe.map (eI .u8)),.row 5 1 (m.2.fnow.map (eI .u8)),.row 94 2 (m.2.fwait.map Ge)] (di m.1),.c,.t true]) [0,1,2,3,43,44,45] (by kernel_rfl) (by kernel_rfl) (by kernel_rfl) (.cons (df p) (.cons (G2 n o _ y) (.cons (dt q) .nil)))
  ·rw [if_neg q] at h
   by_cases u:((0:Int)≤(wi .i64 (k*64))∧(wi .i64 (k*64))≤(wi .i64 ((wi .i64 (k+1))*64))∧(wi .i64 ((wi .i64 (k+1))*64))≤(m.2.fnow.length:Int))
   ·rw [if_pos u] at h
    by_cases w:(wi .i64 (k*64)).toNat≤(wi .i64 ((wi .i64 (k+1))*64)).toNat∧(wi .i64 ((wi .i64 (k+1))*64)).toNat≤m.2.fnow.length
    ·rw [if_pos w] at h
     obtain ⟨z,a0,h⟩:=bind_some h
     obtain rfl:=Option.some.inj h
     exact pendH_sound TTok mix 11 (hs:=[.t false,.c,.c,.h [0,1,2,3] [] [.box [.srf 4,.srf 5,.srf 6,di m.2.ffuse],.none,.none,.none,.row 5 1 (m.2.fsafe.map (eI .u8)),.row 5 1 (m.2.fnow.map (eI .u8)),.row 94 2 (m.2.fwait.map Ge)] (di m.1),.c,.t false,.c,.e 103 [44] (.ssl 44 ((wi .i64 (k*64)).toNat) ((wi .i64 ((wi .i64 (k+1))*64)).toNat) 1) [],.e 108 [44,108] (.srf 108) [(108,.row 5 1 (z.map (eI .u8)))],.dl 1,.fz 108]) [0,1,2,3,43,44,45] (by kernel_rfl) (by kernel_rfl) (by kernel_rfl) (.cons (df p) (.cons (G2 n o _ y) (.cons (df q) (.cons (xs11 (P:=Try.prog) (T:=TT) (f:=(eI .u8)) (t:=42) (e:=5) (s:=1) (l:=44) (L:=m.2.fnow) (x:=(.tmp 17)) (lo:=(.tmp 19)) (hi:=(.tmp 22)) (a:=(wi .i64 (k*64))) (ka:=.i64) (b:=(wi .i64 ((wi .i64 (k+1))*64))) (kb:=.i64) (by kernel_rfl) u) (.cons (cpart (P:=Try.prog) (T:=TT) (f:=.func 37) (args:=#[(.tmp 23)]) (tys:=#[42]) (g:=37) (l:=44) (e:=5) (s:=1) (i:=(wi .i64 (k*64)).toNat) (j:=(wi .i64 ((wi .i64 (k+1))*64)).toNat) (nl:=108) (xs:=(m.2.fnow.map (eI .u8))) (ys:=(((m.2.fnow.take ((wi .i64 ((wi .i64 (k+1))*64)).toNat)).drop ((wi .i64 (k*64)).toNat)).map (eI .u8))) (by simp only [List.map_drop,List.map_take]) (by rw [List.length_map]; exact w) (Y8 n _ _ a0) (flat_map _ (fun _=>rfl))) .nil)))))
    ·rw [if_neg w] at h; cases h
   ·rw [if_neg u] at h; cases h
/- ringhall/journal.read -/
def Zf (n:Nat) (a:(List Int)):Option (Int) :=
 (getI a 0).bind fun (b:Int) =>
 (getI a 1).bind fun (c:Int) =>
 (getI a 2).bind fun (d:Int) =>
 (getI a 3).bind fun (e:Int) =>
 some (bits .or .u32 (bits .or .u32 (bits .or .u32 (wi .u32 b) (shlI .u32 (wi .u32 c) 8)) (shlI .u32 (wi .u32 d) 16)) (shlI .u32 (wi .u32 e) 24))
theorem Uw (n:Nat) (a:(List Int)) (r:Int) (h:Zf n a=some r):Ret Try.prog 33 [(eL (eI .u8)) a] ((eI .u32) r):=by
 refine ret_run (n:=25) (fn:=Try.f33) (c:=bodyOf Try.f33) (by kernel_rfl) (by kernel_rfl) (by kernel_rfl) (by kernel_rfl) ?_
 have hF:KC 25 (FinR Try.prog Try.f33 ((eI .u32) r)):=FinR.kc' (by kernel_rfl)
 unfold Zf at h
 obtain ⟨b,d,h⟩:=bind_some h
 obtain ⟨e,g,h⟩:=bind_some h
 obtain ⟨i,j,h⟩:=bind_some h
 obtain ⟨k,l,h⟩:=bind_some h
 obtain rfl:=Option.some.inj h
 exact pend_sound TTok mix 5 (hs:=[.y ((eI .u8) b),.c,.y ((eI .u8) e),.c,.y ((eI .u8) i),.c,.y ((eI .u8) k),.c]) (by kernel_rfl) (by kernel_rfl) (by kernel_rfl) (.cons (getI_ob (f:=(eI .u8)) d) (.cons (getI_ob (f:=(eI .u8)) g) (.cons (show (0:Int)≤8 by decide) (.cons (getI_ob (f:=(eI .u8)) j) (.cons (show (0:Int)≤16 by decide) (.cons (getI_ob (f:=(eI .u8)) l) (.cons (show (0:Int)≤24 by decide) .nil)))))))
inductive Uf where
 | x0 (a:Int)
def GbC:Uf→Ex
 | .x0 _=>.exit 0
def GbD (b:(List Int)):Uf→PS
 | .x0 a=>⟨(.d (.v (.int .u32 a))::(dds 19 [])),[]⟩
def GbE (a:(List Int)) (b c:Int):PS:=⟨(.d (.v (.int .u32 b))::dd::dd::dd::dd::dd::dd::.d (.sl (a.map (eI .u8)))::di (a.length:Int)::di c::(dds 10 [])),[]⟩
def ZC (n:Nat) (a:(List Int)):Nat→Int→Int→Option Uf
 | 0,_,_=>none
 | k+1,c,b =>
  if b<(a.length:Int) then
   (getI a b).bind fun (d:Int) =>
   ZC n a k (wi .u32 ((bits .xor .u32 c (wi .u32 d))*16777619)) (wi .i64 (b+1))
  else
   some (.x0 c)
theorem MF {Fi:Ex→PS→Prop} (hF:KC 20 Fi) (ks:List Fr) (n:Nat) (b:(List Int))  : ∀ (k:Nat) (d a:Int) (o:Uf),ZC n b k d a=some o→RunE Try.prog 20 Fi ks (GbC o) (GbD b o)→RunE Try.prog 20 Fi (.l k (cP (cB (cR (cL (cR (bodyOf Try.f47))))))::ks) .normal (GbE b d a)
 | 0,d,a,o,h,q=>by rw [ZC] at h; cases h
 | k+1,d,a,o,h,q=>by
  rw [ZC] at h
  by_cases e:a<(b.length:Int)
  ·rw [if_pos e] at h
   obtain ⟨g,i,h⟩:=bind_some h
   exact pkk_sound TTok mix hF 13 (hs:=[.t true,.y ((eI .u8) g),.c]) (ts:=[]) (s:=[]) (l:=[0,7,8,9]) (by kernel_rfl) (by kernel_rfl) (.cons (dt e) (.cons (getI_ob (f:=(eI .u8)) i) .nil)) (MF hF ks n b k (wi .u32 ((bits .xor .u32 d (wi .u32 g))*16777619)) (wi .i64 (a+1)) _ h q)
  ·rw [if_neg e] at h
   cases h
   exact pkk_sound TTok mix hF 8 (hs:=[.t false]) (ts:=[]) (s:=[]) (l:=[0]) (by kernel_rfl) (by kernel_rfl) (.cons (df e) .nil) q
/- ringhall/journal.sum -/
def Ue (n:Nat) (a:Int) (b:(List Int)):Option (Int) :=
 (ZC n b n a 0).bind fun c=>match c with
 | .x0 d =>
  some d
theorem Gau (n:Nat) (e:Int) (a:(List Int)) (r:Int) (h:Ue n e a=some r):Ret Try.prog 47 [(eI .u32) e,(eL (eI .u8)) a] ((eI .u32) r):=by
 refine ret_run (n:=20) (fn:=Try.f47) (c:=bodyOf Try.f47) (by kernel_rfl) (by kernel_rfl) (by kernel_rfl) (by kernel_rfl) ?_
 have hF:KC 20 (FinR Try.prog Try.f47 ((eI .u32) r)):=FinR.kc' (by kernel_rfl)
 unfold Ue at h
 obtain ⟨g,i,h⟩:=bind_some h
 refine pkk_sound TTok mix hF 7 (hs:=[.u (di (a.length:Int)),.n n]) (ts:=[]) (s:=[]) (l:=[0,7,8,9]) (by kernel_rfl) (by kernel_rfl) (.cons (len_ob (f:=(eI .u8)) (l:=a)) .nil) (MF hF (.b 0::.s (cR (cR (bodyOf Try.f47)))::[]) n a n e 0 _ i ?_)
 cases g with
 | x0 j =>
  try dsimp only at h
  obtain rfl:=Option.some.inj h
  exact pend_sound TTok mix 4 (hs:=[]) (by kernel_rfl) (by kernel_rfl) (by kernel_rfl) .nil
inductive Ug where
 | x0 (a:Int)
def GbF:Ug→Ex
 | .x0 _=>.exit 0
def GbG (b:(List Gh)):Ug→PS
 | .x0 a=>⟨(dd::dd::dd::.d (.v (.int .u32 a))::(dds 20 [])),[]⟩
def GbH (a:(List Gh)) (b c:Int):PS:=⟨(dd::dd::dd::.d (.v (.int .u32 b))::dd::dd::.d (.sl (a.map Gl))::di (a.length:Int)::di c::(dds 15 [])),[]⟩
def ZD (n:Nat) (a:(List Gh)):Nat→Int→Int→Option Ug
 | 0,_,_=>none
 | k+1,c,b =>
  if b<(a.length:Int) then
   (getI a b).bind fun (d:Gh) =>
   (Ue n c ([(wi .u8 d.fSector)])).bind fun (e:(Int)) =>
   (Ue n e d.fData).bind fun (f:(Int)) =>
   ZD n a k f (wi .i64 (b+1))
  else
   some (.x0 c)
theorem MG {Fi:Ex→PS→Prop} (hF:KC 24 Fi) (ks:List Fr) (n:Nat) (b:(List Gh))  : ∀ (k:Nat) (d a:Int) (o:Ug),ZD n b k d a=some o→RunE Try.prog 24 Fi ks (GbF o) (GbG b o)→RunE Try.prog 24 Fi (.l k (cP (cB (cR (cL (cR (cR (bodyOf Try.f21)))))))::ks) .normal (GbH b d a)
 | 0,d,a,o,h,q=>by rw [ZD] at h; cases h
 | k+1,d,a,o,h,q=>by
  rw [ZD] at h
  by_cases e:a<(b.length:Int)
  ·rw [if_pos e] at h
   obtain ⟨g,m,h⟩:=bind_some h
   obtain ⟨i,p,h⟩:=bind_some h
   obtain ⟨j,u,h⟩:=bind_some h
   exact pkk_sound TTok mix hF 15 (hs:=[.t true,.y (Gl g),.c,.c,.bd,.r ((eI .u32) i),.c,.r ((eI .u32) j)]) (ts:=[]) (s:=[]) (l:=[3,6,7,8]) (by kernel_rfl) (by kernel_rfl) (.cons (dt e) (.cons (getI_ob (f:=Gl) m) (.cons (show 0+2≤2 by decide) (.cons (Gau n d ([(wi .u8 g.fSector)]) _ p) (.cons (Gau n i g.fData _ u) .nil))))) (MG hF ks n b k j (wi .i64 (a+1)) _ h q)
  ·rw [if_neg e] at h
   cases h
   exact pkk_sound TTok mix hF 8 (hs:=[.t false]) (ts:=[]) (s:=[]) (l:=[3]) (by kernel_rfl) (by kernel_rfl) (.cons (df e) .nil) q
/- ringhall/journal.Sum -/
def YO (n:Nat) (a:(List Gh)):Option (Int) :=
 (ZD n a n 2166136261 0).bind fun b=>match b with
 | .x0 c =>
  some c
theorem ZE (n:Nat) (a:(List Gh)) (r:Int) (h:YO n a=some r):Ret Try.prog 21 [(eL Gl) a] ((eI .u32) r):=by
 refine ret_run (n:=24) (fn:=Try.f21) (c:=bodyOf Try.f21) (by kernel_rfl) (by kernel_rfl) (by kernel_rfl) (by kernel_rfl) ?_
 have hF:KC 24 (FinR Try.prog Try.f21 ((eI .u32) r)):=FinR.kc' (by kernel_rfl)
 unfold YO at h
 obtain ⟨e,g,h⟩:=bind_some h
 refine pkk_sound TTok mix hF 9 (hs:=[.u (di (a.length:Int)),.n n]) (ts:=[]) (s:=[]) (l:=[3,6,7,8]) (by kernel_rfl) (by kernel_rfl) (.cons (len_ob (f:=Gl) (l:=a)) .nil) (MG hF (.b 0::.s (cR (cR (cR (bodyOf Try.f21))))::[]) n a n 2166136261 0 _ g ?_)
 cases e with
 | x0 i =>
  try dsimp only at h
  obtain rfl:=Option.some.inj h
  exact pend_sound TTok mix 4 (hs:=[]) (by kernel_rfl) (by kernel_rfl) (by kernel_rfl) .nil
inductive Xq where
 | x0 (a:Bool) (b c:(List Int)) (d:(List Gi))
def GaL:Xq→Ex
 | .x0 _ _ _ _=>.normal
def GaM (b i:Int) (a:((List Int)×Int×Gg)) (c:Int):Xq→PS
 | .x0 e f g h=>⟨(.ref 4 0::di b::(dds 9 (.d (.sl (a.1.map (eI .u8)))::dd::di (wi .i64 c)::(dds 37 (.d (.v (.bool e))::(dds 59 [])))))),[.gh 0 (.ref 4 0),.gh 1 (.srf 8),.gh 2 (.srf 9),.gh 3 (.srf 10),.box [.srf 5,.srf 6,.srf 7,di a.2.2.ffuse],.row 5 1 (f.map (eI .u8)),.row 5 1 (g.map (eI .u8)),.row 94 2 (h.map Ge),.none,.none,.none]⟩
def GaN (b c:Int) (a:((List Int)×Int×Gg)) (e:Int)  : PS:=⟨(.ref 4 0::di b::di c::(dds 8 (.d (.sl (a.1.map (eI .u8)))::dd::di (wi .i64 e)::(dds 97 [])))),[.gh 0 (.ref 4 0),.gh 1 (.srf 8),.gh 2 (.srf 9),.gh 3 (.srf 10),.box [.srf 5,.srf 6,.srf 7,di a.2.2.ffuse],.row 5 1 (a.2.2.fsafe.map (eI .u8)),.row 5 1 (a.2.2.fnow.map (eI .u8)),.row 94 2 (a.2.2.fwait.map Ge),.none,.none,.none]⟩
def XP (n:Nat) (e c:Int) (a:((List Int)×Int×Gg)) (b:Int):Option Xq :=
 (getI a.1 0).bind fun (d:Int) =>
 if d=74 then
  if (wi .i64 b)<1 then
   some (.x0 true a.2.2.fsafe a.2.2.fnow a.2.2.fwait)
  else
   some (.x0 (decide ((wi .i64 b) > (wi .i64 (c-2)))) a.2.2.fsafe a.2.2.fnow a.2.2.fwait)
 else
  some (.x0 true a.2.2.fsafe a.2.2.fnow a.2.2.fwait)
theorem GaO {Fi:Ex→PS→Prop} (hF:KC 111 Fi) (ks:List Fr) (n:Nat) (g i:Int) (j:((List Int)×Int×Gg)) (b:Int)  (o:Xq) (h:XP n g i j b=some o) (q:RunE Try.prog 111 Fi ks (GaL o) (GaM g i j b o)):RunE Try.prog 111 Fi (.s (cL (cL (cR (cR (cR (cR (bodyOf Try.f9)))))))::ks) .normal (GaN g i j b):=by
 unfold XP at h
 obtain ⟨d,k,h⟩:=bind_some h
 by_cases a:d=74
 ·rw [if_pos a] at h
  by_cases e:(wi .i64 b)<1
  ·rw [if_pos e] at h
   cases h
   exact pkk_sound TTok mix hF 1 (hs:=[.y ((eI .u8) d),.c,.t false,.c,.t true,.c,.c,.c]) (ts:=[]) (s:=[0,1,2,3,4,5,6,7,8,9,10]) (l:=[0,1,11,13,51]) (by kernel_rfl) (by kernel_rfl) (.cons (getI_ob (f:=(eI .u8)) k) (.cons (nf a) (.cons (dt e) .nil))) q
  ·rw [if_neg e] at h
   cases h
   exact pkk_sound TTok mix hF 1 (hs:=[.y ((eI .u8) d),.c,.t false,.c,.t false,.c,.c,.c]) (ts:=[]) (s:=[0,1,2,3,4,5,6,7,8,9,10]) (l:=[0,1,11,13,51]) (by kernel_rfl) (by kernel_rfl) (.cons (getI_ob (f:=(eI .u8)) k) (.cons (nf a) (.cons (df e) .nil))) q
 ·rw [if_neg a] at h
  cases h
  exact pkk_sound TTok mix hF 1 (hs:=[.y ((eI .u8) d),.c,.t true,.c,.c,.c,.c,.c]) (ts:=[]) (s:=[0,1,2,3,4,5,6,7,8,9,10]) (l:=[0,1,11,13,51]) (by kernel_rfl) (by kernel_rfl) (.cons (getI_ob (f:=(eI .u8)) k) (.cons (nt a) .nil)) q
inductive Xr where
 | x0 (a:Int) (b c:(List Int)) (d:(List Gi)) (e:(List Gh))
def GaP:Xr→Ex
 | .x0 _ _ _ _ _=>.exit 0
def GaQ (a:Int) (j:((List Int)×Int×Gg)) (b:Int) (c:(Int)):Xr→PS
 | .x0 e f g h i=>⟨(.ref 4 0::di a::(dds 11 (di (wi .i64 b)::.d (.v (.int .u32 c))::.srf 11::(dds 95 [])))),[.gh 0 (.ref 4 0),.gh 1 (.srf 8),.gh 2 (.srf 9),.gh 3 (.srf 10),.box [.srf 5,.srf 6,.srf 7,di e],.row 5 1 (f.map (eI .u8)),.row 5 1 (g.map (eI .u8)),.row 94 2 (h.map Ge),.none,.none,.none,.row 70 2 (i.map Gl)]⟩
def GaR (b:Int) (c:((List Int)×Int×Gg)) (a:Int) (e:(Int)) (f g:Int) (h i:(List Int)) (j:(List Gi)) (k:(List Gh)):PS:=⟨(.ref 4 0::di b::(dds 9 (.d (.sl (c.1.map (eI .u8)))::dd::di (wi .i64 a)::.d (.v (.int .u32 e))::.srf 11::(dds 39 (di (wi .i64 a)::di f::(dds 54 [])))))),[.gh 0 (.ref 4 0),.gh 1 (.srf 8),.gh 2 (.srf 9),.gh 3 (.srf 10),.box [.srf 5,.srf 6,.srf 7,di g],.row 5 1 (h.map (eI .u8)),.row 5 1 (i.map (eI .u8)),.row 94 2 (j.map Ge),.none,.none,.none,.row 70 2 (k.map Gl)]⟩
def KR (n:Nat) (c:Int) (d:((List Int)×Int×Gg)) (e:Int) (l:(Int)):Nat→Int→Int→(List Int)→(List Int)→(List Gi)→(List Gh)→Option Xr
 | 0,_,_,_,_,_,_=>none
 | k+1,b,f,g,h,i,j =>
  if b<(wi .i64 e) then
   (Kl n (Gg.mk g h i f) (wi .i64 ((wi .i64 (c+1))+b))).bind fun (a:((List Int)×Int×Gg)) =>
   (getI d.1 (wi .i64 (6+b))).bind fun (m:Int) =>
   (app 32 j ([(Gh.mk (wi .i64 m) a.1)])).bind fun (o:(List Gh)) =>
   KR n c d e l k (wi .i64 (b+1)) a.2.2.ffuse a.2.2.fsafe a.2.2.fnow a.2.2.fwait o
  else
   some (.x0 f g h i j)
theorem Jf {Fi:Ex→PS→Prop} (hF:KC 111 Fi) (ks:List Fr) (n:Nat) (e:Int) (r:((List Int)×Int×Gg)) (g:Int) (u:(Int))  : ∀ (k:Nat) (b i:Int) (j m:(List Int)) (p:(List Gi)) (x:(List Gh)) (o:Xr),KR n e r g u k b i j m p x=some o→RunE Try.prog 111 Fi ks (GaP o) (GaQ e r g u o)→RunE Try.prog 111 Fi (.l k (cP (cB (cR (cL (cR (cR (cR (cR (cR (cR (cR (bodyOf Try.f9))))))))))))::ks) .normal (GaR e r g u b i j m p x)
 | 0,b,i,j,m,p,x,o,h,q=>by rw [KR] at h; cases h
 | k+1,b,i,j,m,p,x,o,h,q=>by
  rw [KR] at h
  by_cases z:b<(wi .i64 g)
  ·rw [if_pos z] at h
   obtain ⟨a,a2,h⟩:=bind_some h
   obtain ⟨a3,a4,h⟩:=bind_some h
   obtain ⟨a1,a0,h⟩:=bind_some h
   exact pkk_sound TTok mix hF 15 (hs:=[.t true,.h [4,5,6,7] [] [.box [.srf 4,.srf 5,.srf 6,di a.2.2.ffuse],.none,.none,.none,.row 5 1 (a.2.2.fsafe.map (eI .u8)),.row 5 1 (a.2.2.fnow.map (eI .u8)),.row 94 2 (a.2.2.fwait.map Ge)] (.tup [.d (.sl (a.1.map (eI .u8))),di a.2.1]),.y ((eI .u8) a3),.c,.bd,.w (a1.map Gl)]) (ts:=[]) (s:=[0,1,2,3,4,52,53,54,8,9,10,132]) (l:=[0,1,11,13,14,15,55,56]) (by kernel_rfl) (by kernel_rfl) (.cons (dt z) (.cons (UH n (Gg.mk j m p i) (wi .i64 ((wi .i64 (e+1))+b)) _ a2) (.cons (getI_ob (f:=(eI .u8)) a4) (.cons (app_ob (f:=Gl) (s:=2) a0 (fun _=>rfl)).1 (.cons (app_ob (f:=Gl) (s:=2) a0 (fun _=>rfl)).2.1 (.cons (app_ob (f:=Gl) (s:=2) a0 (fun _=>rfl)).2.2.1 (.cons (app_ob (f:=Gl) (s:=2) a0 (fun _=>rfl)).2.2.2 .nil))))))) (Jf hF ks n e r g u k (wi .i64 (b+1)) a.2.2.ffuse a.2.2.fsafe a.2.2.fnow a.2.2.fwait a1 _ h q)
  ·rw [if_neg z] at h
   cases h
   exact pkk_sound TTok mix hF 8 (hs:=[.t false]) (ts:=[]) (s:=[0,1,2,3,4,5,6,7,8,9,10,11]) (l:=[0,1,13,14,15]) (by kernel_rfl) (by kernel_rfl) (.cons (df z) .nil) q
inductive Xs where
 | x0 (a:Bool) (b c:(List Int)) (d:(List Gi)) (e:(List Gh))
def GaS:Xs→Ex
 | .x0 _ _ _ _ _=>.normal
def GaT (a:(Int)) (b:((List Int)×Int×Gg)) (i:(List Gh)):Xs→PS
 | .x0 c e f g h=>⟨(dds 14 (.d (.v (.int .u32 a))::.srf 11::(dds 91 [.d (.v (.bool c)),dd,dd,dd]))),[.gh 0 (.ref 4 0),.gh 1 (.srf 8),.gh 2 (.srf 9),.gh 3 (.srf 10),.box [.srf 5,.srf 6,.srf 7,di b.2.2.ffuse],.row 5 1 (e.map (eI .u8)),.row 5 1 (f.map (eI .u8)),.row 94 2 (g.map Ge),.none,.none,.none,.row 70 2 (h.map Gl)]⟩
def GaU (b:(Int)) (a:((List Int)×Int×Gg)) (c:(List Gh))  : PS:=⟨(dds 14 (.d (.v (.int .u32 b))::.srf 11::dd::dd::dd::.d (.sl (a.1.map (eI .u8)))::(dds 91 []))),[.gh 0 (.ref 4 0),.gh 1 (.srf 8),.gh 2 (.srf 9),.gh 3 (.srf 10),.box [.srf 5,.srf 6,.srf 7,di a.2.2.ffuse],.row 5 1 (a.2.2.fsafe.map (eI .u8)),.row 5 1 (a.2.2.fnow.map (eI .u8)),.row 94 2 (a.2.2.fwait.map Ge),.none,.none,.none,.row 70 2 (c.map Gl)]⟩
def XQ (n:Nat) (c:(Int)) (a:((List Int)×Int×Gg)) (b:(List Gh)):Option Xs :=
 (getI a.1 0).bind fun (d:Int) =>
 if d=67 then
  (sub a.1 1 (a.1.length:Int)).bind fun (e:(List Int)) =>
  (Zf n e).bind fun (f:(Int)) =>
  if f=c then
   (sub a.1 5 (a.1.length:Int)).bind fun (g:(List Int)) =>
   (Zf n g).bind fun (h:(Int)) =>
   (YO n b).bind fun (i:(Int)) =>
   some (.x0 (h != i) a.2.2.fsafe a.2.2.fnow a.2.2.fwait b)
  else
   some (.x0 true a.2.2.fsafe a.2.2.fnow a.2.2.fwait b)
 else
  some (.x0 true a.2.2.fsafe a.2.2.fnow a.2.2.fwait b)
theorem GaV {Fi:Ex→PS→Prop} (hF:KC 111 Fi) (ks:List Fr) (n:Nat) (e:(Int)) (m:((List Int)×Int×Gg)) (g:(List Gh))  (o:Xs) (h:XQ n e m g=some o) (q:RunE Try.prog 111 Fi ks (GaS o) (GaT e m g o)):RunE Try.prog 111 Fi (.s (cL (cL (cR (cR (cR (cR (cR (cR (cR (cR (cR (bodyOf Try.f9))))))))))))::ks) .normal (GaU e m g):=by
 unfold XQ at h
 obtain ⟨i,p,h⟩:=bind_some h
 by_cases b:i=67
 ·rw [if_pos b] at h
  obtain ⟨j,a,h⟩:=bind_some h
  obtain ⟨u,v,h⟩:=bind_some h
  by_cases k:u=e
  ·rw [if_pos k] at h
   obtain ⟨x,d,h⟩:=bind_some h
   obtain ⟨z,a0,h⟩:=bind_some h
   obtain ⟨a1,a2,h⟩:=bind_some h
   cases h
   exact pkk_sound TTok mix hF 1 (hs:=[.y ((eI .u8) i),.c,.t false,.c,.w (j.map (eI .u8)),.c,.r ((eI .u32) u),.c,.c,.t false,.c,.w (x.map (eI .u8)),.c,.r ((eI .u32) z),.c,.c,.c,.r ((eI .u32) a1),.c]) (ts:=[]) (s:=[0,1,2,3,4,5,6,7,8,9,10,11]) (l:=[14,15,107]) (by kernel_rfl) (by kernel_rfl) (.cons (getI_ob (f:=(eI .u8)) p) (.cons (nf b) (.cons (sub_ob' (f:=(eI .u8)) (s:=1) a (fun _=>rfl)).1 (.cons (sub_ob' (f:=(eI .u8)) (s:=1) a (fun _=>rfl)).2.1 (.cons (sub_ob' (f:=(eI .u8)) (s:=1) a (fun _=>rfl)).2.2.1 (.cons (sub_ob' (f:=(eI .u8)) (s:=1) a (fun _=>rfl)).2.2.2.1 (.cons (sub_ob' (f:=(eI .u8)) (s:=1) a (fun _=>rfl)).2.2.2.2 (.cons (Uw n j _ v) (.cons (nf k) (.cons (sub_ob' (f:=(eI .u8)) (s:=1) d (fun _=>rfl)).1 (.cons (sub_ob' (f:=(eI .u8)) (s:=1) d (fun _=>rfl)).2.1 (.cons (sub_ob' (f:=(eI .u8)) (s:=1) d (fun _=>rfl)).2.2.1 (.cons (sub_ob' (f:=(eI .u8)) (s:=1) d (fun _=>rfl)).2.2.2.1 (.cons (sub_ob' (f:=(eI .u8)) (s:=1) d (fun _=>rfl)).2.2.2.2 (.cons (Uw n x _ a0) (.cons (ZE n g _ a2) .nil)))))))))))))))) q
  ·rw [if_neg k] at h
   cases h
   exact pkk_sound TTok mix hF 1 (hs:=[.y ((eI .u8) i),.c,.t false,.c,.w (j.map (eI .u8)),.c,.r ((eI .u32) u),.c,.c,.t true,.c,.c,.c,.c,.c]) (ts:=[]) (s:=[0,1,2,3,4,5,6,7,8,9,10,11]) (l:=[14,15,107]) (by kernel_rfl) (by kernel_rfl) (.cons (getI_ob (f:=(eI .u8)) p) (.cons (nf b) (.cons (sub_ob' (f:=(eI .u8)) (s:=1) a (fun _=>rfl)).1 (.cons (sub_ob' (f:=(eI .u8)) (s:=1) a (fun _=>rfl)).2.1 (.cons (sub_ob' (f:=(eI .u8)) (s:=1) a (fun _=>rfl)).2.2.1 (.cons (sub_ob' (f:=(eI .u8)) (s:=1) a (fun _=>rfl)).2.2.2.1 (.cons (sub_ob' (f:=(eI .u8)) (s:=1) a (fun _=>rfl)).2.2.2.2 (.cons (Uw n j _ v) (.cons (nt k) .nil))))))))) q
 ·rw [if_neg b] at h
  cases h
  exact pkk_sound TTok mix hF 1 (hs:=[.y ((eI .u8) i),.c,.t true,.c,.c,.c,.c,.c,.c,.c,.c,.c,.c]) (ts:=[]) (s:=[0,1,2,3,4,5,6,7,8,9,10,11]) (l:=[14,15,107]) (by kernel_rfl) (by kernel_rfl) (.cons (getI_ob (f:=(eI .u8)) p) (.cons (nt b) .nil)) q
/- ringhall/journal.Scan -/
def Ss (n:Nat) (o:Gg) (b g:Int):Option ((List Gh)×Int×Bool×Int×Gg) :=
 (Yp n o b g).bind fun (c:(Int×Gg)) =>
 if c.1=0 then
  (Kl n c.2 b).bind fun (a:((List Int)×Int×Gg)) =>
  (getI a.1 5).bind fun (e:Int) =>
  (XP n b g a e).bind fun p=>match p with
  | .x0 q h i j =>
   if q=true then
    some (([]:(List Gh)),0,false,0,(Gg.mk h i j a.2.2.ffuse))
   else
    (sub a.1 1 (a.1.length:Int)).bind fun (r:(List Int)) =>
    (Zf n r).bind fun (d:(Int)) =>
    (KR n b a e d n 0 a.2.2.ffuse h i j ([]:List Gh)).bind fun s=>match s with
    | .x0 t u v w x =>
     (Kl n (Gg.mk u v w t) (wi .i64 ((wi .i64 (b+1))+(wi .i64 e)))).bind fun (f:((List Int)×Int×Gg)) =>
     (XQ n d f x).bind fun y=>match y with
     | .x0 z k l m a0 =>
      if z=true then
       some (([]:(List Gh)),d,false,0,(Gg.mk k l m f.2.2.ffuse))
      else
       some (a0,d,true,0,(Gg.mk k l m f.2.2.ffuse))
 else
  some (([]:(List Gh)),0,false,c.1,c.2)
theorem Yb (n:Nat) (e:Gg) (i k:Int) (r:(List Gh)×Int×Bool×Int×Gg) (h:Ss n e i k=some r):RetH Try.prog 9 [.ref 0 0,.d ((eI .i64) i),.d ((eI .i64) k)] [.box [.srf 1,.srf 2,.srf 3,di e.ffuse],.row 5 1 (e.fsafe.map (eI .u8)),.row 5 1 (e.fnow.map (eI .u8)),.row 94 2 (e.fwait.map Ge)] (.tup [.d ((eL Gl) r.1),.d ((eI .u32) r.2.1),.d (eB r.2.2.1),.d ((eI .i64) r.2.2.2.1)]) [.box [.srf 4,.srf 5,.srf 6,di r.2.2.2.2.ffuse],.none,.none,.none,.row 5 1 (r.2.2.2.2.fsafe.map (eI .u8)),.row 5 1 (r.2.2.2.2.fnow.map (eI .u8)),.row 94 2 (r.2.2.2.2.fwait.map Ge)]:=by
 refine retH_run (n:=111) (fn:=Try.f9) (c:=bodyOf Try.f9) (by kernel_rfl) (by kernel_rfl) (by kernel_rfl) (by kernel_rfl) ?_
 have hF:KC 111 (FinH Try.prog Try.f9 [.box [.srf 1,.srf 2,.srf 3,di e.ffuse],.row 5 1 (e.fsafe.map (eI .u8)),.row 5 1 (e.fnow.map (eI .u8)),.row 94 2 (e.fwait.map Ge)] (.tup [.d ((eL Gl) r.1),.d ((eI .u32) r.2.1),.d (eB r.2.2.1),.d ((eI .i64) r.2.2.2.1)]) [.box [.srf 4,.srf 5,.srf 6,di r.2.2.2.2.ffuse],.none,.none,.none,.row 5 1 (r.2.2.2.2.fsafe.map (eI .u8)),.row 5 1 (r.2.2.2.2.fnow.map (eI .u8)),.row 94 2 (r.2.2.2.2.fwait.map Ge)]):=FinH.kc' (by kernel_rfl)
 unfold Ss at h
 obtain ⟨a,z,h⟩:=bind_some h
 by_cases o:a.1=0
 ·rw [if_pos o] at h
  obtain ⟨g,a1,h⟩:=bind_some h
  obtain ⟨p,a2,h⟩:=bind_some h
  obtain ⟨a3,a4,h⟩:=bind_some h
  refine pkk_sound TTok mix hF 15 (hs:=[.h [0,1,2,3] [] [.box [.srf 4,.srf 5,.srf 6,di a.2.ffuse],.none,.none,.none,.row 5 1 (a.2.fsafe.map (eI .u8)),.row 5 1 (a.2.fnow.map (eI .u8)),.row 94 2 (a.2.fwait.map Ge)] (di a.1),.t false,.h [0,43,44,45] [] [.box [.srf 4,.srf 5,.srf 6,di g.2.2.ffuse],.none,.none,.none,.row 5 1 (g.2.2.fsafe.map (eI .u8)),.row 5 1 (g.2.2.fnow.map (eI .u8)),.row 94 2 (g.2.2.fwait.map Ge)] (.tup [.d (.sl (g.1.map (eI .u8))),di g.2.1]),.y ((eI .u8) p),.c]) (ts:=[]) (s:=[4,5,6,7,0,73,74,75,1,2,3]) (l:=[0,1,2,11,13]) (by kernel_rfl) (by kernel_rfl) (.cons (Jm n e i k _ z) (.cons (nf o) (.cons (UH n a.2 i _ a1) (.cons (getI_ob (f:=(eI .u8)) a2) .nil)))) (GaO hF (.s (cR (cL (cR (cR (cR (cR (bodyOf Try.f9)))))))::.s (cR (cR (cR (cR (cR (bodyOf Try.f9))))))::[]) n i k g p _ a4 ?_)
  cases a3 with
  | x0 a5 a6 a7 a8 =>
   try dsimp only at h
   by_cases q:a5=true
   ·rw [if_pos q] at h
    obtain rfl:=Option.some.inj h
    exact pendH_sound TTok mix 5 (hs:=[.t true]) [4,8,9,10,5,6,7] (by kernel_rfl) (by kernel_rfl) (by kernel_rfl) (.cons q .nil)
   ·rw [if_neg q] at h
    obtain ⟨a0,m,h⟩:=bind_some h
    obtain ⟨x,a9,h⟩:=bind_some h
    obtain ⟨b0,b1,h⟩:=bind_some h
    refine pkk_sound TTok mix hF 11 (hs:=[.t false,.w (a0.map (eI .u8)),.r ((eI .u32) x),.n n]) (ts:=[(15,70,2)]) (s:=[0,1,2,3,4,5,6,7,8,9,10,46]) (l:=[0,1,11,13,14,15,55,56]) (by kernel_rfl) (by kernel_rfl) (.cons (vf q) (.cons (sub_ob' (f:=(eI .u8)) (s:=1) m (fun _=>rfl)).1 (.cons (sub_ob' (f:=(eI .u8)) (s:=1) m (fun _=>rfl)).2.1 (.cons (sub_ob' (f:=(eI .u8)) (s:=1) m (fun _=>rfl)).2.2.1 (.cons (sub_ob' (f:=(eI .u8)) (s:=1) m (fun _=>rfl)).2.2.2.1 (.cons (sub_ob' (f:=(eI .u8)) (s:=1) m (fun _=>rfl)).2.2.2.2 (.cons (Uw n a0 _ a9) .nil))))))) (Jf hF (.b 0::.s (cR (cR (cR (cR (cR (cR (cR (cR (bodyOf Try.f9)))))))))::[]) n i g p x n 0 g.2.2.ffuse a6 a7 a8 ([]:List Gh) _ b1 ?_)
    cases b0 with
    | x0 b2 b3 b4 b5 b6 =>
     try dsimp only at h
     obtain ⟨j,b7,h⟩:=bind_some h
     obtain ⟨b8,b9,h⟩:=bind_some h
     refine pkk_sound TTok mix hF 5 (hs:=[.h [4,5,6,7] [] [.box [.srf 4,.srf 5,.srf 6,di j.2.2.ffuse],.none,.none,.none,.row 5 1 (j.2.2.fsafe.map (eI .u8)),.row 5 1 (j.2.2.fnow.map (eI .u8)),.row 94 2 (j.2.2.fwait.map Ge)] (.tup [.d (.sl (j.1.map (eI .u8))),di j.2.1])]) (ts:=[]) (s:=[0,1,2,3,4,37,38,39,8,9,10,11]) (l:=[14,15,19]) (by kernel_rfl) (by kernel_rfl) (.cons (UH n (Gg.mk b3 b4 b5 b2) (wi .i64 ((wi .i64 (i+1))+(wi .i64 p))) _ b7) .nil) (GaV hF (.s (cR (cL (cR (cR (cR (cR (cR (cR (cR (cR (cR (bodyOf Try.f9))))))))))))::.s (cR (cR (cR (cR (cR (cR (cR (cR (cR (cR (bodyOf Try.f9)))))))))))::[]) n x j b6 _ b9 ?_)
     cases b8 with
     | x0 c0 c1 c2 c3 c4 =>
      try dsimp only at h
      by_cases u:c0=true
      ·rw [if_pos u] at h
       obtain rfl:=Option.some.inj h
       exact pendH_sound TTok mix 5 (hs:=[.t true]) [4,8,9,10,5,6,7] (by kernel_rfl) (by kernel_rfl) (by kernel_rfl) (.cons u .nil)
      ·rw [if_neg u] at h
       obtain rfl:=Option.some.inj h
       exact pendH_sound TTok mix 6 (hs:=[.t false,.dl 4,.fz 11]) [4,8,9,10,5,6,7] (by kernel_rfl) (by kernel_rfl) (by kernel_rfl) (.cons (vf u) .nil)
 ·rw [if_neg o] at h
  obtain rfl:=Option.some.inj h
  exact pendH_sound TTok mix 12 (hs:=[.h [0,1,2,3] [] [.box [.srf 4,.srf 5,.srf 6,di a.2.ffuse],.none,.none,.none,.row 5 1 (a.2.fsafe.map (eI .u8)),.row 5 1 (a.2.fnow.map (eI .u8)),.row 94 2 (a.2.fwait.map Ge)] (di a.1),.t true]) [0,1,2,3,43,44,45] (by kernel_rfl) (by kernel_rfl) (by kernel_rfl) (.cons (Jm n e i k _ z) (.cons (nt o) .nil))
/- (*ringhall/disk.Disk).goes -/
def K3 (n:Nat) (a:Gg):Option (Bool×Gg) :=
 if a.ffuse=0 then
  some (false,a)
 else
  if a.ffuse > 0 then
   some (true,(Gg.mk a.fsafe a.fnow a.fwait (wi .i64 (a.ffuse-1))))
  else
   some (true,a)
theorem Zs (n:Nat) (a:Gg) (r:Bool×Gg) (h:K3 n a=some r):RetH Try.prog 43 [.ref 0 0] [.box [.srf 1,.srf 2,.srf 3,di a.ffuse],.row 5 1 (a.fsafe.map (eI .u8)),.row 5 1 (a.fnow.map (eI .u8)),.row 94 2 (a.fwait.map Ge)] (.d (eB r.1)) [.box [.srf 4,.srf 5,.srf 6,di r.2.ffuse],.none,.none,.none,.row 5 1 (r.2.fsafe.map (eI .u8)),.row 5 1 (r.2.fnow.map (eI .u8)),.row 94 2 (r.2.fwait.map Ge)]:=by
 refine retH_run (n:=20) (fn:=Try.f43) (c:=bodyOf Try.f43) (by kernel_rfl) (by kernel_rfl) (by kernel_rfl) (by kernel_rfl) ?_
 have hF:KC 20 (FinH Try.prog Try.f43 [.box [.srf 1,.srf 2,.srf 3,di a.ffuse],.row 5 1 (a.fsafe.map (eI .u8)),.row 5 1 (a.fnow.map (eI .u8)),.row 94 2 (a.fwait.map Ge)] (.d (eB r.1)) [.box [.srf 4,.srf 5,.srf 6,di r.2.ffuse],.none,.none,.none,.row 5 1 (r.2.fsafe.map (eI .u8)),.row 5 1 (r.2.fnow.map (eI .u8)),.row 94 2 (r.2.fwait.map Ge)]):=FinH.kc' (by kernel_rfl)
 unfold K3 at h
 by_cases b:a.ffuse=0
 ·rw [if_pos b] at h
  obtain rfl:=Option.some.inj h
  exact pendH_sound TTok mix 13 (hs:=[.c,.t true,.dl 4,.mv 1,.mv 2,.mv 3]) [0,1,2,3,43,44,45] (by kernel_rfl) (by kernel_rfl) (by kernel_rfl) (.cons (bt b) .nil)
 ·rw [if_neg b] at h
  by_cases e:a.ffuse > 0
  ·rw [if_pos e] at h
   obtain rfl:=Option.some.inj h
   exact pendH_sound TTok mix 18 (hs:=[.c,.t false,.c,.t true,.c,.c,.dl 3,.mv 1,.mv 2,.mv 3]) [0,1,2,3,108,109,110] (by kernel_rfl) (by kernel_rfl) (by kernel_rfl) (.cons (bf b) (.cons (dt e) (.cons (show 3+1≤4 by decide) .nil)))
  ·rw [if_neg e] at h
   obtain rfl:=Option.some.inj h
   exact pendH_sound TTok mix 18 (hs:=[.c,.t false,.c,.t false,.dl 4,.mv 1,.mv 2,.mv 3]) [0,1,2,3,68,69,70] (by kernel_rfl) (by kernel_rfl) (by kernel_rfl) (.cons (bf b) (.cons (df e) .nil))
inductive YD where
 | x0 (a:Bool) (b c:(List Int)) (d:(List Gi))
 | x1 (e:Bool) (f:Int) (g h:(List Int)) (i:(List Gi))
def M3:YD→Ex
 | .x0 _ _ _ _=>.normal
 | .x1 _ _ _ _ _=>.normal
def M4 (a:Int) (b:(List Int)) (c:Gg):YD→PS
 | .x0 e f g h=>⟨(.ref 4 0::di a::.d (.sl (b.map (eI .u8)))::(dds 16 (.d (.v (.bool e))::(dds 24 [])))),[.gh 0 (.ref 4 0),.gh 1 (.srf 5),.gh 2 (.srf 6),.gh 3 (.srf 7),.box [.srf 5,.srf 6,.srf 7,di c.ffuse],.row 5 1 (f.map (eI .u8)),.row 5 1 (g.map (eI .u8)),.row 94 2 (h.map Ge)]⟩
 | .x1 i j k l m=>⟨(.ref 4 0::di a::.d (.sl (b.map (eI .u8)))::(dds 16 (.d (.v (.bool i))::(dds 24 [])))),[.gh 0 (.ref 4 0),.gh 1 (.srf 8),.gh 2 (.srf 9),.gh 3 (.srf 10),.box [.srf 5,.srf 6,.srf 7,di j],.row 5 1 (k.map (eI .u8)),.row 5 1 (l.map (eI .u8)),.row 94 2 (m.map Ge),.none,.none,.none]⟩
def M5 (b:Int) (c:(List Int)) (a:Gg)  : PS:=⟨(.ref 4 0::di b::.d (.sl (c.map (eI .u8)))::(dds 41 [])),[.gh 0 (.ref 4 0),.gh 1 (.srf 5),.gh 2 (.srf 6),.gh 3 (.srf 7),.box [.srf 5,.srf 6,.srf 7,di a.ffuse],.row 5 1 (a.fsafe.map (eI .u8)),.row 5 1 (a.fnow.map (eI .u8)),.row 94 2 (a.fwait.map Ge)]⟩
def YZ (n:Nat) (c:Int) (d:(List Int)) (b:Gg):Option YD :=
 if c<0 then
  some (.x0 true b.fsafe b.fnow b.fwait)
 else
  (G7 n b).bind fun (a:(Int×Gg)) =>
  if c≥a.1 then
   some (.x1 true a.2.ffuse a.2.fsafe a.2.fnow a.2.fwait)
  else
   some (.x1 ((d.length:Int) != 64) a.2.ffuse a.2.fsafe a.2.fnow a.2.fwait)
theorem M6 {Fi:Ex→PS→Prop} (hF:KC 44 Fi) (ks:List Fr) (n:Nat) (b:Int) (e:(List Int)) (g:Gg)  (o:YD) (h:YZ n b e g=some o) (q:RunE Try.prog 44 Fi ks (M3 o) (M4 b e g o)):RunE Try.prog 44 Fi (.s (cL (cL (cR (bodyOf Try.f17))))::ks) .normal (M5 b e g):=by
 unfold YZ at h
 by_cases i:b<0
 ·rw [if_pos i] at h
  cases h
  exact pkk_sound TTok mix hF 1 (hs:=[.t true,.c,.c,.c,.c,.c,.c]) (ts:=[]) (s:=[0,1,2,3,4,5,6,7]) (l:=[0,1,2,19]) (by kernel_rfl) (by kernel_rfl) (.cons (dt i) .nil) q
 ·rw [if_neg i] at h
  obtain ⟨a,k,h⟩:=bind_some h
  by_cases j:b≥a.1
  ·rw [if_pos j] at h
   cases h
   exact pkk_sound TTok mix hF 1 (hs:=[.t false,.c,.c,.h [4,5,6,7] [] [.box [.srf 4,.srf 5,.srf 6,di a.2.ffuse],.none,.none,.none,.row 5 1 (a.2.fsafe.map (eI .u8)),.row 5 1 (a.2.fnow.map (eI .u8)),.row 94 2 (a.2.fwait.map Ge)] (di a.1),.c,.t true,.c,.c]) (ts:=[]) (s:=[0,1,2,3,4,33,34,35,5,6,7]) (l:=[0,1,2,19]) (by kernel_rfl) (by kernel_rfl) (.cons (df i) (.cons (G2 n g _ k) (.cons (dt j) .nil))) q
  ·rw [if_neg j] at h
   cases h
   exact pkk_sound TTok mix hF 1 (hs:=[.t false,.c,.c,.h [4,5,6,7] [] [.box [.srf 4,.srf 5,.srf 6,di a.2.ffuse],.none,.none,.none,.row 5 1 (a.2.fsafe.map (eI .u8)),.row 5 1 (a.2.fnow.map (eI .u8)),.row 94 2 (a.2.fwait.map Ge)] (di a.1),.c,.t false,.c,.u (di (e.length:Int)),.c]) (ts:=[]) (s:=[0,1,2,3,4,33,34,35,5,6,7]) (l:=[0,1,2,19]) (by kernel_rfl) (by kernel_rfl) (.cons (df i) (.cons (G2 n g _ k) (.cons (df j) (.cons (len_ob (f:=(eI .u8)) (l:=e)) .nil)))) q
/- (*ringhall/disk.Disk).Write -/
def Gv (n:Nat) (e:Gg) (c:Int) (d:(List Int)):Option (Int×Gg) :=
 (YZ n c d e).bind fun m=>match m with
 | .x0 o f g h =>
  if o=true then
   some (1,(Gg.mk f g h e.ffuse))
  else
   (K3 n (Gg.mk f g h e.ffuse)).bind fun (a:(Bool×Gg)) =>
   if a.1=true then
    (GC n d).bind fun (p:((List Int))) =>
    (app 32 a.2.fwait ([(Gi.mk c p)])).bind fun (q:(List Gi)) =>
    if ((0:Int)≤(wi .i64 (c*64))∧(wi .i64 (c*64))≤(a.2.fnow.length:Int)) then
     if a.2.fnow.length≤a.2.fnow.length then
      some (0,(Gg.mk a.2.fsafe (cpyR a.2.fnow ((wi .i64 (c*64)).toNat) a.2.fnow.length d) q a.2.ffuse))
     else none
    else none
   else
    some (0,a.2)
 | .x1 r i j k l =>
  if r=true then
   some (1,(Gg.mk j k l i))
  else
   (K3 n (Gg.mk j k l i)).bind fun (b:(Bool×Gg)) =>
   if b.1=true then
    (GC n d).bind fun (s:((List Int))) =>
    (app 32 b.2.fwait ([(Gi.mk c s)])).bind fun (t:(List Gi)) =>
    if ((0:Int)≤(wi .i64 (c*64))∧(wi .i64 (c*64))≤(b.2.fnow.length:Int)) then
     if b.2.fnow.length≤b.2.fnow.length then
      some (0,(Gg.mk b.2.fsafe (cpyR b.2.fnow ((wi .i64 (c*64)).toNat) b.2.fnow.length d) t b.2.ffuse))
     else none
    else none
   else
    some (0,b.2)
theorem SX (n:Nat) (m:Gg) (k:Int) (o:(List Int)) (r:Int×Gg) (h:Gv n m k o=some r):RetH Try.prog 17 [.ref 0 0,.d ((eI .i64) k),.d ((eL (eI .u8)) o)] [.box [.srf 1,.srf 2,.srf 3,di m.ffuse],.row 5 1 (m.fsafe.map (eI .u8)),.row 5 1 (m.fnow.map (eI .u8)),.row 94 2 (m.fwait.map Ge)] (.d ((eI .i64) r.1)) [.box [.srf 4,.srf 5,.srf 6,di r.2.ffuse],.none,.none,.none,.row 5 1 (r.2.fsafe.map (eI .u8)),.row 5 1 (r.2.fnow.map (eI .u8)),.row 94 2 (r.2.fwait.map Ge)]:=by
 refine retH_run (n:=44) (fn:=Try.f17) (c:=bodyOf Try.f17) (by kernel_rfl) (by kernel_rfl) (by kernel_rfl) (by kernel_rfl) ?_
 have hF:KC 44 (FinH Try.prog Try.f17 [.box [.srf 1,.srf 2,.srf 3,di m.ffuse],.row 5 1 (m.fsafe.map (eI .u8)),.row 5 1 (m.fnow.map (eI .u8)),.row 94 2 (m.fwait.map Ge)] (.d ((eI .i64) r.1)) [.box [.srf 4,.srf 5,.srf 6,di r.2.ffuse],.none,.none,.none,.row 5 1 (r.2.fsafe.map (eI .u8)),.row 5 1 (r.2.fnow.map (eI .u8)),.row 94 2 (r.2.fwait.map Ge)]):=FinH.kc' (by kernel_rfl)
 unfold Gv at h
 obtain ⟨b5,b6,h⟩:=bind_some h
 refine pkk_sound TTok mix hF 4 (hs:=[]) (ts:=[]) (s:=[4,5,6,7,0,1,2,3]) (l:=[0,1,2]) (by kernel_rfl) (by kernel_rfl) .nil (M6 hF (.s (cR (cL (cR (bodyOf Try.f17))))::.s (cR (cR (bodyOf Try.f17)))::[]) n k o m _ b6 ?_)
 cases b5 with
 | x0 b7 a6 a7 a8 =>
  try dsimp only at h
  by_cases p:b7=true
  ·rw [if_pos p] at h
   obtain rfl:=Option.some.inj h
   exact pendH_sound TTok mix 8 (hs:=[.t true,.dl 4,.mv 5,.mv 6,.mv 7]) [4,5,6,7,13,14,15] (by kernel_rfl) (by kernel_rfl) (by kernel_rfl) (.cons p .nil)
  ·rw [if_neg p] at h
   obtain ⟨b,a9,h⟩:=bind_some h
   by_cases u:b.1=true
   ·rw [if_pos u] at h
    obtain ⟨b8,b9,h⟩:=bind_some h
    obtain ⟨c0,z,h⟩:=bind_some h
    by_cases a2:((0:Int)≤(wi .i64 (k*64))∧(wi .i64 (k*64))≤(b.2.fnow.length:Int))
    ·rw [if_pos a2] at h
     by_cases a3:b.2.fnow.length≤b.2.fnow.length
     ·rw [if_pos a3] at h
      obtain rfl:=Option.some.inj h
      exact pendH_sound TTok mix 12 (hs:=[.t false,.h [4,5,6,7] [] [.box [.srf 4,.srf 5,.srf 6,di b.2.ffuse],.none,.none,.none,.row 5 1 (b.2.fsafe.map (eI .u8)),.row 5 1 (b.2.fnow.map (eI .u8)),.row 94 2 (b.2.fwait.map Ge)] (.d (.v (.bool b.1))),.t true,.c,.r ((eL (eI .u8)) b8),.bd,.w (c0.map Ge),.c,.c,.e 118 [14] (.ssl 14 ((wi .i64 (k*64)).toNat) b.2.fnow.length 1) [],.e 128 [14] (di ((Nat.min o.length (b.2.fnow.length-(wi .i64 (k*64)).toNat):Nat):Int)) [(14,.row 5 1 ((cpyR b.2.fnow ((wi .i64 (k*64)).toNat) b.2.fnow.length o).map (eI .u8)))]]) [4,5,6,7,13,14,68] (by kernel_rfl) (by kernel_rfl) (by kernel_rfl) (.cons (vf p) (.cons (Zs n (Gg.mk a6 a7 a8 m.ffuse) _ a9) (.cons u (.cons (ZN n o _ b9) (.cons (app_ob (f:=Ge) (s:=2) z (fun _=>rfl)).1 (.cons (app_ob (f:=Ge) (s:=2) z (fun _=>rfl)).2.1 (.cons (app_ob (f:=Ge) (s:=2) z (fun _=>rfl)).2.2.1 (.cons (app_ob (f:=Ge) (s:=2) z (fun _=>rfl)).2.2.2 (.cons (show 2+1≤4 by decide) (.cons (xs10 (P:=Try.prog) (T:=TT) (f:=(eI .u8)) (t:=42) (e:=5) (s:=1) (l:=14) (L:=b.2.fnow) (x:=(.tmp 38)) (lo:=(.tmp 40)) (a:=(wi .i64 (k*64))) (ka:=.i64) (by kernel_rfl) a2) (.cons (xcpD (P:=Try.prog) (T:=TT) (f:=(eI .u8)) (t:=42) (t':=42) (e:=5) (s:=1) (l:=14) (x:=(.tmp 41)) (y:=(.tmp 42)) (ti:=⟨1,1,.int .u8,[.i .u8]⟩) (L:=b.2.fnow) (Y:=o) (i:=(wi .i64 (k*64)).toNat) (j:=b.2.fnow.length) (by kernel_rfl) (by kernel_rfl) a3 (fun _=>rfl)) .nil)))))))))))
     ·rw [if_neg a3] at h; cases h
    ·rw [if_neg a2] at h; cases h
   ·rw [if_neg u] at h
    obtain rfl:=Option.some.inj h
    exact pendH_sound TTok mix 10 (hs:=[.t false,.h [4,5,6,7] [] [.box [.srf 4,.srf 5,.srf 6,di b.2.ffuse],.none,.none,.none,.row 5 1 (b.2.fsafe.map (eI .u8)),.row 5 1 (b.2.fnow.map (eI .u8)),.row 94 2 (b.2.fwait.map Ge)] (.d (.v (.bool b.1))),.t false]) [4,5,6,7,13,14,15] (by kernel_rfl) (by kernel_rfl) (by kernel_rfl) (.cons (vf p) (.cons (Zs n (Gg.mk a6 a7 a8 m.ffuse) _ a9) (.cons (vf u) .nil)))
 | x1 c1 b0 b1 b2 b3 =>
  try dsimp only at h
  by_cases q:c1=true
  ·rw [if_pos q] at h
   obtain rfl:=Option.some.inj h
   exact pendH_sound TTok mix 5 (hs:=[.t true]) [4,8,9,10,5,6,7] (by kernel_rfl) (by kernel_rfl) (by kernel_rfl) (.cons q .nil)
  ·rw [if_neg q] at h
   obtain ⟨g,b4,h⟩:=bind_some h
   by_cases a0:g.1=true
   ·rw [if_pos a0] at h
    obtain ⟨c2,c3,h⟩:=bind_some h
    obtain ⟨c4,a1,h⟩:=bind_some h
    by_cases a4:((0:Int)≤(wi .i64 (k*64))∧(wi .i64 (k*64))≤(g.2.fnow.length:Int))
    ·rw [if_pos a4] at h
     by_cases a5:g.2.fnow.length≤g.2.fnow.length
     ·rw [if_pos a5] at h
      obtain rfl:=Option.some.inj h
      exact pendH_sound TTok mix 12 (hs:=[.t false,.h [4,5,6,7] [] [.box [.srf 4,.srf 5,.srf 6,di g.2.ffuse],.none,.none,.none,.row 5 1 (g.2.fsafe.map (eI .u8)),.row 5 1 (g.2.fnow.map (eI .u8)),.row 94 2 (g.2.fwait.map Ge)] (.d (.v (.bool g.1))),.t true,.c,.r ((eL (eI .u8)) c2),.bd,.w (c4.map Ge),.c,.c,.e 121 [17] (.ssl 17 ((wi .i64 (k*64)).toNat) g.2.fnow.length 1) [],.e 131 [17] (di ((Nat.min o.length (g.2.fnow.length-(wi .i64 (k*64)).toNat):Nat):Int)) [(17,.row 5 1 ((cpyR g.2.fnow ((wi .i64 (k*64)).toNat) g.2.fnow.length o).map (eI .u8)))]]) [4,8,9,10,16,17,71] (by kernel_rfl) (by kernel_rfl) (by kernel_rfl) (.cons (vf q) (.cons (Zs n (Gg.mk b1 b2 b3 b0) _ b4) (.cons a0 (.cons (ZN n o _ c3) (.cons (app_ob (f:=Ge) (s:=2) a1 (fun _=>rfl)).1 (.cons (app_ob (f:=Ge) (s:=2) a1 (fun _=>rfl)).2.1 (.cons (app_ob (f:=Ge) (s:=2) a1 (fun _=>rfl)).2.2.1 (.cons (app_ob (f:=Ge) (s:=2) a1 (fun _=>rfl)).2.2.2 (.cons (show 2+1≤4 by decide) (.cons (xs10 (P:=Try.prog) (T:=TT) (f:=(eI .u8)) (t:=42) (e:=5) (s:=1) (l:=17) (L:=g.2.fnow) (x:=(.tmp 38)) (lo:=(.tmp 40)) (a:=(wi .i64 (k*64))) (ka:=.i64) (by kernel_rfl) a4) (.cons (xcpD (P:=Try.prog) (T:=TT) (f:=(eI .u8)) (t:=42) (t':=42) (e:=5) (s:=1) (l:=17) (x:=(.tmp 41)) (y:=(.tmp 42)) (ti:=⟨1,1,.int .u8,[.i .u8]⟩) (L:=g.2.fnow) (Y:=o) (i:=(wi .i64 (k*64)).toNat) (j:=g.2.fnow.length) (by kernel_rfl) (by kernel_rfl) a5 (fun _=>rfl)) .nil)))))))))))
     ·rw [if_neg a5] at h; cases h
    ·rw [if_neg a4] at h; cases h
   ·rw [if_neg a0] at h
    obtain rfl:=Option.some.inj h
    exact pendH_sound TTok mix 10 (hs:=[.t false,.h [4,5,6,7] [] [.box [.srf 4,.srf 5,.srf 6,di g.2.ffuse],.none,.none,.none,.row 5 1 (g.2.fsafe.map (eI .u8)),.row 5 1 (g.2.fnow.map (eI .u8)),.row 94 2 (g.2.fwait.map Ge)] (.d (.v (.bool g.1))),.t false]) [4,8,9,10,16,17,18] (by kernel_rfl) (by kernel_rfl) (by kernel_rfl) (.cons (vf q) (.cons (Zs n (Gg.mk b1 b2 b3 b0) _ b4) (.cons (vf a0) .nil)))
inductive Xt where
 | x0 (a:Bool) (b:Int) (c d:(List Int)) (e:(List Gi))
def GaW:Xt→Ex
 | .x0 _ _ _ _ _=>.normal
def GaX (b c:Int) (a:((List Gh)×Int×Bool×Int×Gg)) (e k:Int) (l m:(List Int)) (n:(List Gi)) (o:Gh):Xt→PS
 | .x0 f g h i j=>⟨(.ref 4 0::di b::di c::dd::dd::dd::dd::dd::.d (.sl (a.1.map Gl))::.d (.v (.int .u32 a.2.1))::(dds 19 (.d (.sl (a.1.map Gl))::di (a.1.length:Int)::di e::(dds 21 (.d (.v (.bool f))::(dds 20 [])))))),[.gh 0 (.ref 4 0),.gh 1 (.srf 8),.gh 2 (.srf 9),.gh 3 (.srf 10),.box [.srf 5,.srf 6,.srf 7,di g],.row 5 1 (h.map (eI .u8)),.row 5 1 (i.map (eI .u8)),.row 94 2 (j.map Ge),.none,.none,.none]⟩
def GaY (c e:Int) (a:((List Gh)×Int×Bool×Int×Gg)) (f g:Int) (h i:(List Int)) (j:(List Gi)) (b:Gh)  : PS:=⟨(.ref 4 0::di c::di e::dd::dd::dd::dd::dd::.d (.sl (a.1.map Gl))::.d (.v (.int .u32 a.2.1))::dd::dd::dd::.ref 11 0::(dds 15 (.d (.sl (a.1.map Gl))::di (a.1.length:Int)::di f::(dds 42 [])))),[.gh 0 (.ref 4 0),.gh 1 (.srf 8),.gh 2 (.srf 9),.gh 3 (.srf 10),.box [.srf 5,.srf 6,.srf 7,di g],.row 5 1 (h.map (eI .u8)),.row 5 1 (i.map (eI .u8)),.row 94 2 (j.map Ge),.none,.none,.none,.box [di b.fSector,.d (.sl (b.fData.map (eI .u8)))]]⟩
def YT (n:Nat) (c d:Int) (i:((List Gh)×Int×Bool×Int×Gg)) (j e:Int) (f g:(List Int)) (h:(List Gi)) (b:Gh):Option Xt :=
 (G7 n (Gg.mk f g h e)).bind fun (a:(Int×Gg)) =>
 if b.fSector≥a.1 then
  some (.x0 true a.2.ffuse a.2.fsafe a.2.fnow a.2.fwait)
 else
  if b.fSector≥c then
   some (.x0 (decide (b.fSector<(wi .i64 (c+d)))) a.2.ffuse a.2.fsafe a.2.fnow a.2.fwait)
  else
   some (.x0 false a.2.ffuse a.2.fsafe a.2.fnow a.2.fwait)
theorem GaZ {Fi:Ex→PS→Prop} (hF:KC 74 Fi) (ks:List Fr) (n:Nat) (k p:Int) (r:((List Gh)×Int×Bool×Int×Gg)) (u b:Int) (e f:(List Int)) (g:(List Gi)) (i:Gh)  (o:Xt) (h:YT n k p r u b e f g i=some o) (q:RunE Try.prog 74 Fi ks (GaW o) (GaX k p r u b e f g i o)):RunE Try.prog 74 Fi (.s (cL (cR (cB (cL (cR (cR (cP (cB (cR (cL (cT (cR (cL (cR (cR (cR (bodyOf Try.f7)))))))))))))))))::ks) .normal (GaY k p r u b e f g i):=by
 unfold YT at h
 obtain ⟨a,w,h⟩:=bind_some h
 by_cases j:i.fSector≥a.1
 ·rw [if_pos j] at h
  cases h
  exact pkk_sound TTok mix hF 1 (hs:=[.c,.h [4,5,6,7] [] [.box [.srf 4,.srf 5,.srf 6,di a.2.ffuse],.none,.none,.none,.row 5 1 (a.2.fsafe.map (eI .u8)),.row 5 1 (a.2.fnow.map (eI .u8)),.row 94 2 (a.2.fwait.map Ge)] (di a.1),.t true,.c,.c,.c,.c,.c]) (ts:=[]) (s:=[0,1,2,3,4,27,28,29,8,9,10]) (l:=[0,1,2,8,9,29,30,31,53]) (by kernel_rfl) (by kernel_rfl) (.cons (G2 n (Gg.mk e f g b) _ w) (.cons (dt j) .nil)) q
 ·rw [if_neg j] at h
  by_cases m:i.fSector≥k
  ·rw [if_pos m] at h
   cases h
   exact pkk_sound TTok mix hF 1 (hs:=[.c,.h [4,5,6,7] [] [.box [.srf 4,.srf 5,.srf 6,di a.2.ffuse],.none,.none,.none,.row 5 1 (a.2.fsafe.map (eI .u8)),.row 5 1 (a.2.fnow.map (eI .u8)),.row 94 2 (a.2.fwait.map Ge)] (di a.1),.t false,.c,.c,.c,.c,.c,.t true,.c,.c,.c,.c,.c,.c,.c]) (ts:=[]) (s:=[0,1,2,3,4,27,28,29,8,9,10]) (l:=[0,1,2,8,9,29,30,31,53]) (by kernel_rfl) (by kernel_rfl) (.cons (G2 n (Gg.mk e f g b) _ w) (.cons (df j) (.cons (dt m) .nil))) q
  ·rw [if_neg m] at h
   cases h
   exact pkk_sound TTok mix hF 1 (hs:=[.c,.h [4,5,6,7] [] [.box [.srf 4,.srf 5,.srf 6,di a.2.ffuse],.none,.none,.none,.row 5 1 (a.2.fsafe.map (eI .u8)),.row 5 1 (a.2.fnow.map (eI .u8)),.row 94 2 (a.2.fwait.map Ge)] (di a.1),.t false,.c,.c,.c,.c,.c,.t false,.c,.c,.c,.c,.c,.c]) (ts:=[]) (s:=[0,1,2,3,4,27,28,29,8,9,10]) (l:=[0,1,2,8,9,29,30,31,53]) (by kernel_rfl) (by kernel_rfl) (.cons (G2 n (Gg.mk e f g b) _ w) (.cons (df j) (.cons (df m) .nil))) q
inductive Xu where
 | x0 (a b:Int) (c d:(List Int)) (e:(List Gi))
 | x1 (f:Int) (g h:(List Int)) (i:(List Gi))
def Ga0:Xu→Ex
 | .x0 _ _ _ _ _=>.ret
 | .x1 _ _ _ _=>.exit 0
def Ga1 (b c:Int) (a:((List Gh)×Int×Bool×Int×Gg)):Xu→PS
 | .x0 e f g h i=>⟨(dd::dd::dd::dd::dd::dd::.d (.v (.pointer none))::di e::(dds 66 [])),[.gh 0 (.ref 4 0),.gh 1 (.srf 8),.gh 2 (.srf 9),.gh 3 (.srf 10),.box [.srf 5,.srf 6,.srf 7,di f],.row 5 1 (g.map (eI .u8)),.row 5 1 (h.map (eI .u8)),.row 94 2 (i.map Ge),.none,.none,.none]⟩
 | .x1 j k l m=>⟨(.ref 4 0::di b::di c::dd::dd::dd::dd::dd::.d (.sl (a.1.map Gl))::.d (.v (.int .u32 a.2.1))::(dds 64 [])),[.gh 0 (.ref 4 0),.gh 1 (.srf 8),.gh 2 (.srf 9),.gh 3 (.srf 10),.box [.srf 5,.srf 6,.srf 7,di j],.row 5 1 (k.map (eI .u8)),.row 5 1 (l.map (eI .u8)),.row 94 2 (m.map Ge),.none,.none,.none]⟩
def Ga2 (b c:Int) (a:((List Gh)×Int×Bool×Int×Gg)) (e f:Int) (g h:(List Int)) (i:(List Gi)):PS:=⟨(.ref 4 0::di b::di c::dd::dd::dd::dd::dd::.d (.sl (a.1.map Gl))::.d (.v (.int .u32 a.2.1))::(dds 19 (.d (.sl (a.1.map Gl))::di (a.1.length:Int)::di e::(dds 42 [])))),[.gh 0 (.ref 4 0),.gh 1 (.srf 8),.gh 2 (.srf 9),.gh 3 (.srf 10),.box [.srf 5,.srf 6,.srf 7,di f],.row 5 1 (g.map (eI .u8)),.row 5 1 (h.map (eI .u8)),.row 94 2 (i.map Ge),.none,.none,.none]⟩
def KS (n:Nat) (c d:Int) (a:((List Gh)×Int×Bool×Int×Gg)):Nat→Int→Int→(List Int)→(List Int)→(List Gi)→Option Xu
 | 0,_,_,_,_,_=>none
 | k+1,b,e,f,g,h =>
  if b<(a.1.length:Int) then
   (getI a.1 b).bind fun (o:Gh) =>
   (YT n c d a b e f g h o).bind fun p=>match p with
   | .x0 q i j l m =>
    if q=true then
     some (.x0 17 i j l m)
    else
     KS n c d a k (wi .i64 (b+1)) i j l m
  else
   some (.x1 e f g h)
theorem Jg {Fi:Ex→PS→Prop} (hF:KC 74 Fi) (ks:List Fr) (n:Nat) (e g:Int) (d:((List Gh)×Int×Bool×Int×Gg))  : ∀ (k:Nat) (a i:Int) (j m:(List Int)) (p:(List Gi)) (o:Xu),KS n e g d k a i j m p=some o→RunE Try.prog 74 Fi ks (Ga0 o) (Ga1 e g d o)→RunE Try.prog 74 Fi (.l k (cP (cB (cR (cL (cT (cR (cL (cR (cR (cR (bodyOf Try.f7)))))))))))::ks) .normal (Ga2 e g d a i j m p)
 | 0,a,i,j,m,p,o,h,q=>by rw [KS] at h; cases h
 | k+1,a,i,j,m,p,o,h,q=>by
  rw [KS] at h
  by_cases r:a<(d.1.length:Int)
  ·rw [if_pos r] at h
   obtain ⟨v,w,h⟩:=bind_some h
   obtain ⟨x,z,h⟩:=bind_some h
   refine pkk_sound TTok mix hF 11 (hs:=[.t true,.y (Gl v),.c]) (ts:=[]) (s:=[0,1,2,3,4,5,6,7,8,9,10,26]) (l:=[0,1,2,8,9,13,29,30,31]) (by kernel_rfl) (by kernel_rfl) (.cons (dt r) (.cons (getI_ob (f:=Gl) w) (.cons (show 0+2≤2 by decide) .nil))) (GaZ hF (.s (cR (cR (cB (cL (cR (cR (cP (cB (cR (cL (cT (cR (cL (cR (cR (cR (bodyOf Try.f7)))))))))))))))))::.b 1::.s (cR (cR (cR (cP (cB (cR (cL (cT (cR (cL (cR (cR (cR (bodyOf Try.f7))))))))))))))::.l k (cP (cB (cR (cL (cT (cR (cL (cR (cR (cR (bodyOf Try.f7)))))))))))::ks) n e g d a i j m p v _ z ?_)
   cases x with
   | x0 a0 a1 a2 a3 a4 =>
    try dsimp only at h
    by_cases u:a0=true
    ·rw [if_pos u] at h
     cases h
     exact pkk_sound TTok mix hF 7 (hs:=[.t true]) (ts:=[]) (s:=[0,1,2,3,4,5,6,7,8,9,10]) (l:=[6,7]) (by kernel_rfl) (by kernel_rfl) (.cons u .nil) q
    ·rw [if_neg u] at h
     exact pkk_sound TTok mix hF 4 (hs:=[.t false]) (ts:=[]) (s:=[0,1,2,3,4,5,6,7,8,9,10]) (l:=[0,1,2,8,9,29,30,31]) (by kernel_rfl) (by kernel_rfl) (.cons (vf u) .nil) (Jg hF ks n e g d k (wi .i64 (a+1)) a1 a2 a3 a4 _ h q)
  ·rw [if_neg r] at h
   cases h
   exact pkk_sound TTok mix hF 8 (hs:=[.t false]) (ts:=[]) (s:=[0,1,2,3,4,5,6,7,8,9,10]) (l:=[0,1,2,8,9]) (by kernel_rfl) (by kernel_rfl) (.cons (df r) .nil) q
inductive Xv where
 | x0 (a:Int) (b c:(List Int)) (d:(List Gi))
def Ga3:Xv→Ex
 | .x0 _ _ _ _=>.exit 2
def Ga4 (a b:Int) (c:((List Gh)×Int×Bool×Int×Gg)):Xv→PS
 | .x0 e f g h=>⟨(.ref 4 0::di a::di b::dd::dd::dd::dd::dd::dd::.d (.v (.int .u32 c.2.1))::(dds 64 [])),[.gh 0 (.ref 4 0),.gh 1 (.srf 8),.gh 2 (.srf 9),.gh 3 (.srf 10),.box [.srf 5,.srf 6,.srf 7,di e],.row 5 1 (f.map (eI .u8)),.row 5 1 (g.map (eI .u8)),.row 94 2 (h.map Ge),.none,.none,.none]⟩
def Ga5 (b c:Int) (a:((List Gh)×Int×Bool×Int×Gg)) (e f:Int) (g h:(List Int)) (i:(List Gi)):PS:=⟨(.ref 4 0::di b::di c::dd::dd::dd::dd::dd::dd::.d (.v (.int .u32 a.2.1))::(dds 45 (.d (.sl (a.1.map Gl))::di (a.1.length:Int)::di e::(dds 16 [])))),[.gh 0 (.ref 4 0),.gh 1 (.srf 8),.gh 2 (.srf 9),.gh 3 (.srf 10),.box [.srf 5,.srf 6,.srf 7,di f],.row 5 1 (g.map (eI .u8)),.row 5 1 (h.map (eI .u8)),.row 94 2 (i.map Ge),.none,.none,.none]⟩
def KT (n:Nat) (i j:Int) (b:((List Gh)×Int×Bool×Int×Gg)):Nat→Int→Int→(List Int)→(List Int)→(List Gi)→Option Xv
 | 0,_,_,_,_,_=>none
 | k+1,c,d,e,f,g =>
  if c<(b.1.length:Int) then
   (getI b.1 c).bind fun (h:Gh) =>
   (Gv n (Gg.mk e f g d) h.fSector h.fData).bind fun (a:(Int×Gg)) =>
   KT n i j b k (wi .i64 (c+1)) a.2.ffuse a.2.fsafe a.2.fnow a.2.fwait
  else
   some (.x0 d e f g)
theorem Jh {Fi:Ex→PS→Prop} (hF:KC 74 Fi) (ks:List Fr) (n:Nat) (p r:Int) (e:((List Gh)×Int×Bool×Int×Gg))  : ∀ (k:Nat) (b g:Int) (i j:(List Int)) (m:(List Gi)) (o:Xv),KT n p r e k b g i j m=some o→RunE Try.prog 74 Fi ks (Ga3 o) (Ga4 p r e o)→RunE Try.prog 74 Fi (.l k (cP (cB (cR (cR (cT (cR (cL (cR (cR (cR (bodyOf Try.f7)))))))))))::ks) .normal (Ga5 p r e b g i j m)
 | 0,b,g,i,j,m,o,h,q=>by rw [KT] at h; cases h
 | k+1,b,g,i,j,m,o,h,q=>by
  rw [KT] at h
  by_cases u:b<(e.1.length:Int)
  ·rw [if_pos u] at h
   obtain ⟨w,x,h⟩:=bind_some h
   obtain ⟨a,z,h⟩:=bind_some h
   exact pkk_sound TTok mix hF 13 (hs:=[.t true,.y (Gl w),.c,.c,.c,.h [4,5,6,7] [] [.box [.srf 4,.srf 5,.srf 6,di a.2.ffuse],.none,.none,.none,.row 5 1 (a.2.fsafe.map (eI .u8)),.row 5 1 (a.2.fnow.map (eI .u8)),.row 94 2 (a.2.fwait.map Ge)] (di a.1)]) (ts:=[]) (s:=[0,1,2,3,4,61,62,63,8,9,10]) (l:=[0,1,2,9,55,56,57]) (by kernel_rfl) (by kernel_rfl) (.cons (dt u) (.cons (getI_ob (f:=Gl) x) (.cons (show 0+2≤2 by decide) (.cons (SX n (Gg.mk i j m g) w.fSector w.fData _ z) .nil)))) (Jh hF ks n p r e k (wi .i64 (b+1)) a.2.ffuse a.2.fsafe a.2.fnow a.2.fwait _ h q)
  ·rw [if_neg u] at h
   cases h
   exact pkk_sound TTok mix hF 8 (hs:=[.t false]) (ts:=[]) (s:=[0,1,2,3,4,5,6,7,8,9,10]) (l:=[0,1,2,9]) (by kernel_rfl) (by kernel_rfl) (.cons (df u) .nil) q
/- ringhall/journal.Open -/
def Yn (n:Nat) (d:Gg) (b c:Int):Option ((Option Gp)×Int×Gg) :=
 (Ss n d b c).bind fun (a:((List Gh)×Int×Bool×Int×Gg)) =>
 if a.2.2.2.1=0 then
  if a.2.2.1=true then
   (KS n b c a n 0 a.2.2.2.2.ffuse a.2.2.2.2.fsafe a.2.2.2.2.fnow a.2.2.2.2.fwait).bind fun e=>match e with
   | .x0 f g h i j =>
    some (none,f,(Gg.mk h i j g))
   | .x1 k l m o =>
    (KT n b c a n 0 k l m o).bind fun p=>match p with
    | .x0 q r s t =>
     some ((some (Gp.mk () b c a.2.1)),0,(Gg.mk r s t q))
  else
   some ((some (Gp.mk () b c a.2.1)),0,a.2.2.2.2)
 else
  some (none,a.2.2.2.1,a.2.2.2.2)
theorem SK (n:Nat) (e:Gg) (g i:Int) (r:(Option Gp)×Int×Gg) (h:Yn n e g i=some r):RetH Try.prog 7 [.ref 0 0,.d ((eI .i64) g),.d ((eI .i64) i)] [.box [.srf 1,.srf 2,.srf 3,di e.ffuse],.row 5 1 (e.fsafe.map (eI .u8)),.row 5 1 (e.fnow.map (eI .u8)),.row 94 2 (e.fwait.map Ge)] (.tup [(match r.1 with | none=>.d (.v (.pointer none)) | some x=>.ref 7 0),.d ((eI .i64) r.2.1)]) (match r.1 with | none=>[.box [.srf 4,.srf 5,.srf 6,di r.2.2.ffuse],.none,.none,.none,.row 5 1 (r.2.2.fsafe.map (eI .u8)),.row 5 1 (r.2.2.fnow.map (eI .u8)),.row 94 2 (r.2.2.fwait.map Ge)] | some x=>[.box [.srf 4,.srf 5,.srf 6,di r.2.2.ffuse],.none,.none,.none,.row 5 1 (r.2.2.fsafe.map (eI .u8)),.row 5 1 (r.2.2.fnow.map (eI .u8)),.row 94 2 (r.2.2.fwait.map Ge),.box [.ref 0 0,di x.fat,di x.fsize,.d (.v (.int .u32 x.fseq))]]):=by
 refine retH_run (n:=74) (fn:=Try.f7) (c:=bodyOf Try.f7) (by kernel_rfl) (by kernel_rfl) (by kernel_rfl) (by kernel_rfl) ?_
 have hF:KC 74 (FinH Try.prog Try.f7 [.box [.srf 1,.srf 2,.srf 3,di e.ffuse],.row 5 1 (e.fsafe.map (eI .u8)),.row 5 1 (e.fnow.map (eI .u8)),.row 94 2 (e.fwait.map Ge)] (.tup [(match r.1 with | none=>.d (.v (.pointer none)) | some x=>.ref 7 0),.d ((eI .i64) r.2.1)]) (match r.1 with | none=>[.box [.srf 4,.srf 5,.srf 6,di r.2.2.ffuse],.none,.none,.none,.row 5 1 (r.2.2.fsafe.map (eI .u8)),.row 5 1 (r.2.2.fnow.map (eI .u8)),.row 94 2 (r.2.2.fwait.map Ge)] | some x=>[.box [.srf 4,.srf 5,.srf 6,di r.2.2.ffuse],.none,.none,.none,.row 5 1 (r.2.2.fsafe.map (eI .u8)),.row 5 1 (r.2.2.fnow.map (eI .u8)),.row 94 2 (r.2.2.fwait.map Ge),.box [.ref 0 0,di x.fat,di x.fsize,.d (.v (.int .u32 x.fseq))]])):=FinH.kc' (by kernel_rfl)
 unfold Yn at h
 obtain ⟨a,m,h⟩:=bind_some h
 by_cases j:a.2.2.2.1=0
 ·rw [if_pos j] at h
  by_cases k:a.2.2.1=true
  ·rw [if_pos k] at h
   obtain ⟨o,p,h⟩:=bind_some h
   refine pkk_sound TTok mix hF 18 (hs:=[.h [0,1,2,3] [] [.box [.srf 4,.srf 5,.srf 6,di a.2.2.2.2.ffuse],.none,.none,.none,.row 5 1 (a.2.2.2.2.fsafe.map (eI .u8)),.row 5 1 (a.2.2.2.2.fnow.map (eI .u8)),.row 94 2 (a.2.2.2.2.fwait.map Ge)] (.tup [.d (.sl (a.1.map Gl)),.d (.v (.int .u32 a.2.1)),.d (.v (.bool a.2.2.1)),di a.2.2.2.1]),.t false,.t true,.u (di (a.1.length:Int)),.n n]) (ts:=[]) (s:=[4,5,6,7,0,33,34,35,1,2,3]) (l:=[0,1,2,8,9,29,30,31]) (by kernel_rfl) (by kernel_rfl) (.cons (Yb n e g i _ m) (.cons (nf j) (.cons k (.cons (len_ob (f:=Gl) (l:=a.1)) .nil)))) (Jg hF (.b 0::.s (cR (cT (cR (cL (cR (cR (cR (bodyOf Try.f7))))))))::.s (cR (cR (cR (cR (bodyOf Try.f7)))))::[]) n g i a n 0 a.2.2.2.2.ffuse a.2.2.2.2.fsafe a.2.2.2.2.fnow a.2.2.2.2.fwait _ p ?_)
   cases o with
   | x0 a2 a3 a4 a5 a6 =>
    try dsimp only at h
    obtain rfl:=Option.some.inj h
    exact pendH_sound TTok mix 3 (hs:=[]) [4,8,9,10,5,6,7] (by kernel_rfl) (by kernel_rfl) (by kernel_rfl) .nil
   | x1 q w y z =>
    try dsimp only at h
    obtain ⟨a0,a1,h⟩:=bind_some h
    refine pkk_sound TTok mix hF 5 (hs:=[.u (di (a.1.length:Int)),.n n]) (ts:=[]) (s:=[0,1,2,3,4,5,6,7,8,9,10]) (l:=[0,1,2,9,55,56,57]) (by kernel_rfl) (by kernel_rfl) (.cons (len_ob (f:=Gl) (l:=a.1)) .nil) (Jh hF (.b 2::.s (cR (cR (cR (cR (bodyOf Try.f7)))))::[]) n g i a n 0 q w y z _ a1 ?_)
    cases a0 with
    | x0 a7 a8 a9 b0 =>
     try dsimp only at h
     obtain rfl:=Option.some.inj h
     exact pendH_sound TTok mix 4 (hs:=[]) [4,8,9,10,5,6,7,36] (by kernel_rfl) (by kernel_rfl) (by kernel_rfl) .nil
  ·rw [if_neg k] at h
   obtain rfl:=Option.some.inj h
   exact pendH_sound TTok mix 17 (hs:=[.h [0,1,2,3] [] [.box [.srf 4,.srf 5,.srf 6,di a.2.2.2.2.ffuse],.none,.none,.none,.row 5 1 (a.2.2.2.2.fsafe.map (eI .u8)),.row 5 1 (a.2.2.2.2.fnow.map (eI .u8)),.row 94 2 (a.2.2.2.2.fwait.map Ge)] (.tup [.d (.sl (a.1.map Gl)),.d (.v (.int .u32 a.2.1)),.d (.v (.bool a.2.2.1)),di a.2.2.2.1]),.t false,.t false]) [0,1,2,3,33,34,35,123] (by kernel_rfl) (by kernel_rfl) (by kernel_rfl) (.cons (Yb n e g i _ m) (.cons (nf j) (.cons (vf k) .nil)))
 ·rw [if_neg j] at h
  obtain rfl:=Option.some.inj h
  exact pendH_sound TTok mix 12 (hs:=[.h [0,1,2,3] [] [.box [.srf 4,.srf 5,.srf 6,di a.2.2.2.2.ffuse],.none,.none,.none,.row 5 1 (a.2.2.2.2.fsafe.map (eI .u8)),.row 5 1 (a.2.2.2.2.fnow.map (eI .u8)),.row 94 2 (a.2.2.2.2.fwait.map Ge)] (.tup [.d (.sl (a.1.map Gl)),.d (.v (.int .u32 a.2.1)),.d (.v (.bool a.2.2.1)),di a.2.2.2.1]),.t true]) [0,1,2,3,33,34,35] (by kernel_rfl) (by kernel_rfl) (by kernel_rfl) (.cons (Yb n e g i _ m) (.cons (nt j) .nil))
inductive YE where
 | x0 (a:Bool) (b:(List Gd))
def M7:YE→Ex
 | .x0 _ _=>.normal
def M8 (e f:Int) (a:Gf):YE→PS
 | .x0 b c=>⟨(dd::dd::dd::dd::dd::dd::.d (.v (.bool b))::(dds 28 [])),[.gh 0 (.ref 2 0),.gh 1 (.srf 3),.box [di a.fSectors,di a.fMark,di a.fFuse,.srf 3],.cu (rowF 57 2 (c.map Gc)) []]⟩
def M9 (b c:Int) (a:Gf)  : PS:=⟨(.ref 2 0::di b::di c::(dds 32 [])),[.gh 0 (.ref 2 0),.gh 1 (.srf 3),.box [di a.fSectors,di a.fMark,di a.fFuse,.srf 3],.cu (rowF 57 2 (a.fAll.map Gc)) []]⟩
def Y0 (n:Nat) (b c:Int) (a:Gf):Option YE :=
 if c≥3 then
  if c≤60 then
   if b≥0 then
    if b≤a.fSectors then
     some (.x0 (decide ((wi .i64 (b+c))≤a.fSectors)) a.fAll)
    else
     some (.x0 false a.fAll)
   else
    some (.x0 false a.fAll)
  else
   some (.x0 false a.fAll)
 else
  some (.x0 false a.fAll)
theorem Gaa {Fi:Ex→PS→Prop} (hF:KC 35 Fi) (ks:List Fr) (n:Nat) (d e:Int) (g:Gf)  (o:YE) (h:Y0 n d e g=some o) (q:RunE Try.prog 35 Fi ks (M7 o) (M8 d e g o)):RunE Try.prog 35 Fi (.s (cL (cR (bodyOf Try.f29)))::ks) .normal (M9 d e g):=by
 unfold Y0 at h
 by_cases a:e≥3
 ·rw [if_pos a] at h
  by_cases b:e≤60
  ·rw [if_pos b] at h
   by_cases f:d≥0
   ·rw [if_pos f] at h
    by_cases i:d≤g.fSectors
    ·rw [if_pos i] at h
     cases h
     exact pkk_sound TTok mix hF 1 (hs:=[.t true,.c,.t true,.c,.t true,.c,.c,.c,.c,.c,.c,.t true,.c,.c,.c,.c,.c,.c,.c,.c]) (ts:=[]) (s:=[0,1,2,3]) (l:=[6]) (by kernel_rfl) (by kernel_rfl) (.cons (dt a) (.cons (dt b) (.cons (dt f) (.cons (dt i) .nil)))) q
    ·rw [if_neg i] at h
     cases h
     exact pkk_sound TTok mix hF 1 (hs:=[.t true,.c,.t true,.c,.t true,.c,.c,.c,.c,.c,.c,.t false,.c,.c,.c,.c,.c,.c,.c]) (ts:=[]) (s:=[0,1,2,3]) (l:=[6]) (by kernel_rfl) (by kernel_rfl) (.cons (dt a) (.cons (dt b) (.cons (dt f) (.cons (df i) .nil)))) q
   ·rw [if_neg f] at h
    cases h
    exact pkk_sound TTok mix hF 1 (hs:=[.t true,.c,.t true,.c,.t false,.c,.c,.c,.c,.c,.c,.c,.c,.c,.c,.c,.c,.c]) (ts:=[]) (s:=[0,1,2,3]) (l:=[6]) (by kernel_rfl) (by kernel_rfl) (.cons (dt a) (.cons (dt b) (.cons (df f) .nil))) q
  ·rw [if_neg b] at h
   cases h
   exact pkk_sound TTok mix hF 1 (hs:=[.t true,.c,.t false,.c,.c,.c,.c,.c,.c,.c,.c,.c,.c,.c,.c,.c,.c,.c]) (ts:=[]) (s:=[0,1,2,3]) (l:=[6]) (by kernel_rfl) (by kernel_rfl) (.cons (dt a) (.cons (df b) .nil)) q
 ·rw [if_neg a] at h
  cases h
  exact pkk_sound TTok mix hF 1 (hs:=[.t false,.c,.c,.c,.c,.c,.c,.c,.c,.c,.c,.c,.c,.c,.c,.c,.c,.c]) (ts:=[]) (s:=[0,1,2,3]) (l:=[6]) (by kernel_rfl) (by kernel_rfl) (.cons (df a) .nil) q
/- ringhall/ringref3.Region -/
def YU (n:Nat) (a:Gf) (b c:Int):Option (Bool×Gf) :=
 (Y0 n b c a).bind fun d=>match d with
 | .x0 e f =>
  some (e,(Gf.mk a.fSectors a.fMark a.fFuse f))
theorem Um (n:Nat) (a:Gf) (b f:Int) (r:Bool×Gf) (h:YU n a b f=some r):RetH Try.prog 29 [.ref 0 0,.d ((eI .i64) b),.d ((eI .i64) f)] [.box [di a.fSectors,di a.fMark,di a.fFuse,.srf 1],.cu (rowF 57 2 (a.fAll.map Gc)) []] (.d (eB r.1)) [.box [di r.2.fSectors,di r.2.fMark,di r.2.fFuse,.srf 2],.none,.cu (rowF 57 2 (r.2.fAll.map Gc)) []]:=by
 refine retH_run (n:=35) (fn:=Try.f29) (c:=bodyOf Try.f29) (by kernel_rfl) (by kernel_rfl) (by kernel_rfl) (by kernel_rfl) ?_
 have hF:KC 35 (FinH Try.prog Try.f29 [.box [di a.fSectors,di a.fMark,di a.fFuse,.srf 1],.cu (rowF 57 2 (a.fAll.map Gc)) []] (.d (eB r.1)) [.box [di r.2.fSectors,di r.2.fMark,di r.2.fFuse,.srf 2],.none,.cu (rowF 57 2 (r.2.fAll.map Gc)) []]):=FinH.kc' (by kernel_rfl)
 unfold YU at h
 obtain ⟨i,j,h⟩:=bind_some h
 refine pkk_sound TTok mix hF 3 (hs:=[]) (ts:=[]) (s:=[2,3,0,1]) (l:=[0,1,2]) (by kernel_rfl) (by kernel_rfl) .nil (Gaa hF (.s (cR (cR (bodyOf Try.f29)))::[]) n b f a _ j ?_)
 cases i with
 | x0 k g =>
  try dsimp only at h
  obtain rfl:=Option.some.inj h
  exact pendH_sound TTok mix 2 (hs:=[.dl 1,.sx [3] (fmvS 3 57 2 (g.map Gc))]) [2,3,4] (by kernel_rfl) (by kernel_rfl) (by kernel_rfl) (.cons (fmv (l:=3) (e:=57) (s:=2) (xs:=(g.map Gc))) .nil)
def Yo (n:Nat) (s:ByteArray) (c:Int):Option ByteArray:=if 0≤c∧c≤9223372036854775807∧s.size*c.toNat≤140737488355328 then some ⟨(Lib.repeatL s.data.toList c.toNat).toArray⟩ else none
theorem MH (n:Nat) (s:ByteArray) (c:Int) (r:ByteArray) (h:Yo n s c=some r):Ret Try.prog 50 [eS s,eI .i64 c] (eS r):=by
 unfold Yo at h
 split at h
 ·rename_i q
  obtain ⟨q1,q2,q3⟩:=q
  obtain rfl:=Option.some.inj h
  obtain ⟨c,rfl⟩:=Int.eq_ofNat_of_zero_le q1
  refine ⟨⟨Try.f50,by kernel_rfl,by kernel_rfl,by kernel_rfl⟩,fun ow w vs _ hv=>?_⟩
  simp only [RT,R,eS,eI] at hv
  obtain ⟨_,_,rfl,⟨rfl,_⟩,_,_,rfl,⟨rfl,_⟩,rfl⟩:=hv
  refine (Try.strings_Repeat s c w (by omega) (by simpa using q3)).mono ?_
  rintro e w' ⟨rfl,hb⟩
  exact ⟨_,rfl,hb,rfl,rfl⟩
 ·cases h
inductive XD where
 | x0 (a:ByteArray)
 | x1 
def Ga6:XD→Ex
 | .x0 _=>.ret
 | .x1  => .exit 0
def Ga7 (b:(List Gd)) (c:Int):XD→PS
 | .x0 a=>⟨(dd::dd::dd::dd::.d (.v (.string a))::(dds 21 [])),[]⟩
 | .x1  => ⟨(dds 26 []),[]⟩
def Ga8 (a:(List Gd)) (b c:Int):PS:=⟨(.d (.sl (a.map Gc))::di b::dd::dd::dd::di c::(dds 20 [])),[]⟩
def K4 (n:Nat) (b:(List Gd)) (c:Int):Nat→Int→Option XD
 | 0,_=>none
 | k+1,a =>
  if a≥0 then
   (getI b a).bind fun (d:Gd) =>
   if d.fN=c then
    (getI b a).bind fun (e:Gd) =>
    some (.x0 e.fData)
   else
    K4 n b c k (wi .i64 (a-1))
  else
   some (.x1 )
theorem Jn {Fi:Ex→PS→Prop} (hF:KC 26 Fi) (ks:List Fr) (n:Nat) (e:(List Gd)) (b:Int)  : ∀ (k:Nat) (a:Int) (o:XD),K4 n e b k a=some o→RunE Try.prog 26 Fi ks (Ga6 o) (Ga7 e b o)→RunE Try.prog 26 Fi (.l k (cP (cB (cR (cL (cR (bodyOf Try.f52))))))::ks) .normal (Ga8 e b a)
 | 0,a,o,h,q=>by rw [K4] at h; cases h
 | k+1,a,o,h,q=>by
  rw [K4] at h
  by_cases d:a≥0
  ·rw [if_pos d] at h
   obtain ⟨i,j,h⟩:=bind_some h
   by_cases g:i.fN=b
   ·rw [if_pos g] at h
    obtain ⟨m,p,h⟩:=bind_some h
    cases h
    exact pkk_sound TTok mix hF 17 (hs:=[.t true,.y (Gc i),.c,.t true,.y (Gc m),.c]) (ts:=[]) (s:=[]) (l:=[4]) (by kernel_rfl) (by kernel_rfl) (.cons (dt d) (.cons (getI_ob (f:=Gc) j) (.cons (bt g) (.cons (getI_ob (f:=Gc) p) .nil)))) q
   ·rw [if_neg g] at h
    exact pkk_sound TTok mix hF 14 (hs:=[.t true,.y (Gc i),.c,.t false]) (ts:=[]) (s:=[]) (l:=[0,1,5]) (by kernel_rfl) (by kernel_rfl) (.cons (dt d) (.cons (getI_ob (f:=Gc) j) (.cons (bf g) .nil))) (Jn hF ks n e b k (wi .i64 (a-1)) _ h q)
  ·rw [if_neg d] at h
   cases h
   exact pkk_sound TTok mix hF 8 (hs:=[.t false]) (ts:=[]) (s:=[]) (l:=[]) (by kernel_rfl) (by kernel_rfl) (.cons (df d) .nil) q
/- ringhall/ringref3.last -/
def Xw (n:Nat) (a:(List Gd)) (b:Int):Option (ByteArray) :=
 (K4 n a b n (wi .i64 ((a.length:Int)-1))).bind fun c=>match c with
 | .x0 d =>
  some d
 | .x1  =>
  (Yo n (ByteArray.mk #[0]) 64).bind fun (e:(ByteArray)) =>
  some e
theorem ML (n:Nat) (a:(List Gd)) (e:Int) (r:ByteArray) (h:Xw n a e=some r):Ret Try.prog 52 [(eL Gc) a,(eI .i64) e] (eS r):=by
 refine ret_run (n:=26) (fn:=Try.f52) (c:=bodyOf Try.f52) (by kernel_rfl) (by kernel_rfl) (by kernel_rfl) (by kernel_rfl) ?_
 have hF:KC 26 (FinR Try.prog Try.f52 (eS r)):=FinR.kc' (by kernel_rfl)
 unfold Xw at h
 obtain ⟨g,i,h⟩:=bind_some h
 refine pkk_sound TTok mix hF 7 (hs:=[.u (di (a.length:Int)),.n n]) (ts:=[]) (s:=[]) (l:=[0,1,5]) (by kernel_rfl) (by kernel_rfl) (.cons (len_ob (f:=Gc) (l:=a)) .nil) (Jn hF (.b 0::.s (cR (cR (bodyOf Try.f52)))::[]) n a e n (wi .i64 ((a.length:Int)-1)) _ i ?_)
 cases g with
 | x0 m =>
  try dsimp only at h
  obtain rfl:=Option.some.inj h
  exact pend_sound TTok mix 2 (hs:=[]) (by kernel_rfl) (by kernel_rfl) (by kernel_rfl) .nil
 | x1  =>
  try dsimp only at h
  obtain ⟨j,k,h⟩:=bind_some h
  obtain rfl:=Option.some.inj h
  exact pend_sound TTok mix 4 (hs:=[.r (eS j)]) (by kernel_rfl) (by kernel_rfl) (by kernel_rfl) (.cons (MH n (ByteArray.mk #[0]) 64 _ k) .nil)
/- (*ringhall/ringref3.Disk).Read -/
def Sq (n:Nat) (a:Gf) (b:Int):Option (ByteArray×Gf) :=
 (Xw n a.fAll b).bind fun (c:(ByteArray)) =>
 some (c,a)
theorem Yy (n:Nat) (a:Gf) (b:Int) (r:ByteArray×Gf) (h:Sq n a b=some r):RetH Try.prog 45 [.ref 0 0,.d ((eI .i64) b)] [.box [di a.fSectors,di a.fMark,di a.fFuse,.srf 1],.cu (rowF 57 2 (a.fAll.map Gc)) []] (.d (eS r.1)) [.box [di r.2.fSectors,di r.2.fMark,di r.2.fFuse,.srf 2],.none,.cu (rowF 57 2 (r.2.fAll.map Gc)) []]:=by
 refine retH_run (n:=11) (fn:=Try.f45) (c:=bodyOf Try.f45) (by kernel_rfl) (by kernel_rfl) (by kernel_rfl) (by kernel_rfl) ?_
 have hF:KC 11 (FinH Try.prog Try.f45 [.box [di a.fSectors,di a.fMark,di a.fFuse,.srf 1],.cu (rowF 57 2 (a.fAll.map Gc)) []] (.d (eS r.1)) [.box [di r.2.fSectors,di r.2.fMark,di r.2.fFuse,.srf 2],.none,.cu (rowF 57 2 (r.2.fAll.map Gc)) []]):=FinH.kc' (by kernel_rfl)
 unfold Sq at h
 obtain ⟨f,g,h⟩:=bind_some h
 obtain rfl:=Option.some.inj h
 exact pendH_sound TTok mix 6 (hs:=[.c,.c,.r (eS f),.dl 1,.sx [1] (fmvS 1 57 2 (a.fAll.map Gc))]) [0,1,44] (by kernel_rfl) (by kernel_rfl) (by kernel_rfl) (.cons (ML n a.fAll b _ g) (.cons (fmv (l:=1) (e:=57) (s:=2) (xs:=(a.fAll.map Gc))) .nil))
inductive XE where
 | x0 (a:ByteArray)
def Ga9:XE→Ex
 | .x0 _=>.exit 0
def Gba  : XE→PS
 | .x0 a=>⟨(dd::dd::dd::.d (.v (.string a))::(dds 13 [])),[]⟩
def Gbb  (a:Int) (b:ByteArray) (c:Int):PS:=⟨(.d (.v (.int .u32 a))::dd::dd::.d (.v (.string b))::di c::(dds 12 [])),[]⟩
def Km (n:Nat)  : Nat→Int→ByteArray→Int→Option XE
 | 0,_,_,_=>none
 | k+1,a,b,c =>
  if c<4 then
   (catS b (b2s ([(wi .u8 (remI a 256))]))).bind fun (d:ByteArray) =>
   Km n  k (quoI .u32 a 256) d (wi .i64 (c+1))
  else
   some (.x0 b)
theorem Jo {Fi:Ex→PS→Prop} (hF:KC 17 Fi) (ks:List Fr) (n:Nat)   : ∀ (k:Nat) (a:Int) (c:ByteArray) (b:Int) (o:XE),Km n  k a c b=some o→RunE Try.prog 17 Fi ks (Ga9 o) (Gba  o)→RunE Try.prog 17 Fi (.l k (cP (cB (cR (cL (cR (cR (bodyOf Try.f41)))))))::ks) .normal (Gbb  a c b)
 | 0,a,c,b,o,h,q=>by rw [Km] at h; cases h
 | k+1,a,c,b,o,h,q=>by
  rw [Km] at h
  by_cases f:b<4
  ·rw [if_pos f] at h
   obtain ⟨g,i,h⟩:=bind_some h
   exact pkk_sound TTok mix hF 13 (hs:=[.t true,.w ([(wi .u8 (remI a 256))].map (eI .u8)),.e 30 [25] (.d (.v (.string (b2s ([(wi .u8 (remI a 256))]))))) [],.e 35 [] (.d (.v (.string g))) []]) (ts:=[]) (s:=[]) (l:=[0,3,4]) (by kernel_rfl) (by kernel_rfl) (.cons (dt f) (.cons (show (256:Int)≠0 by decide) (.cons (Eq.refl ([(wi .u8 (remI a 256))].map (eI .u8))) (.cons (xb2sR (l:=25) (L:=[(wi .u8 (remI a 256))]) (P:=Try.prog) (T:=TT) (src:=42) (dst:=9) (e:=5) (s:=1) (x:=(.tmp 10)) (by kernel_rfl) (by kernel_rfl) (by kernel_rfl)) (.cons (xcatS (P:=Try.prog) (T:=TT) (t:=9) (ty':=9) (x:=(.tmp 6)) (y:=(.tmp 11)) (p:=c) (q:=(b2s ([(wi .u8 (remI a 256))]))) (r:=g) i) (.cons (show (256:Int)≠0 by decide) .nil)))))) (Jo hF ks n  k (quoI .u32 a 256) g (wi .i64 (b+1)) _ h q)
  ·rw [if_neg f] at h
   cases h
   exact pkk_sound TTok mix hF 8 (hs:=[.t false]) (ts:=[]) (s:=[]) (l:=[3]) (by kernel_rfl) (by kernel_rfl) (.cons (df f) .nil) q
/- ringhall/ringref3.four -/
def Zn (n:Nat) (a:Int):Option (ByteArray) :=
 (Km n  n a (ByteArray.mk #[]) 0).bind fun b=>match b with
 | .x0 c =>
  some c
theorem ZF (n:Nat) (a:Int) (r:ByteArray) (h:Zn n a=some r):Ret Try.prog 41 [(eI .u32) a] (eS r):=by
 refine ret_run (n:=17) (fn:=Try.f41) (c:=bodyOf Try.f41) (by kernel_rfl) (by kernel_rfl) (by kernel_rfl) (by kernel_rfl) ?_
 have hF:KC 17 (FinR Try.prog Try.f41 (eS r)):=FinR.kc' (by kernel_rfl)
 unfold Zn at h
 obtain ⟨d,e,h⟩:=bind_some h
 refine pkk_sound TTok mix hF 9 (hs:=[.n n]) (ts:=[]) (s:=[]) (l:=[0,3,4]) (by kernel_rfl) (by kernel_rfl) .nil (Jo hF (.b 0::.s (cR (cR (cR (bodyOf Try.f41))))::[]) n  n a (ByteArray.mk #[]) 0 _ e ?_)
 cases d with
 | x0 f =>
  try dsimp only at h
  obtain rfl:=Option.some.inj h
  exact pend_sound TTok mix 4 (hs:=[]) (by kernel_rfl) (by kernel_rfl) (by kernel_rfl) .nil
inductive XR where
 | x0 (a:Int)
def Gbu:XR→Ex
 | .x0 _=>.exit 2
def Gbv (a:(List Gd)) (b:Int) (e:(List Int)):XR→PS
 | .x0 c=>⟨(dd::dd::dd::.d (.v (.int .u64 c))::dd::dd::dd::dd::.d (.sl (a.map Gc))::di (a.length:Int)::di b::(dds 27 [])),[]⟩
def Gbw (a:(List Gd)) (c:Int) (b:(List Int)) (e f:Int):PS:=⟨(dd::dd::dd::.d (.v (.int .u64 e))::dd::dd::dd::dd::.d (.sl (a.map Gc))::di (a.length:Int)::di c::(dds 11 (.d (.sl (b.map (eI .u8)))::di (b.length:Int)::di f::(dds 13 [])))),[]⟩
def Zk (n:Nat) (d:(List Gd)) (e:Int) (a:(List Int)):Nat→Int→Int→Option XR
 | 0,_,_=>none
 | k+1,c,b =>
  if b<(a.length:Int) then
   (getI a b).bind fun (f:Int) =>
   Zk n d e a k (remI (wi .u64 ((bits .xor .u64 c (wi .u64 f))*16777619)) 4294967296) (wi .i64 (b+1))
  else
   some (.x0 c)
theorem Jt {Fi:Ex→PS→Prop} (hF:KC 38 Fi) (ks:List Fr) (n:Nat) (e:(List Gd)) (g:Int) (b:(List Int))  : ∀ (k:Nat) (d a:Int) (o:XR),Zk n e g b k d a=some o→RunE Try.prog 38 Fi ks (Gbu o) (Gbv e g b o)→RunE Try.prog 38 Fi (.l k (cP (cB (cR (cR (cB (cL (cR (cR (cP (cB (cR (cL (cR (cR (bodyOf Try.f22)))))))))))))))::ks) .normal (Gbw e g b d a)
 | 0,d,a,o,h,q=>by rw [Zk] at h; cases h
 | k+1,d,a,o,h,q=>by
  rw [Zk] at h
  by_cases i:a<(b.length:Int)
  ·rw [if_pos i] at h
   obtain ⟨j,m,h⟩:=bind_some h
   exact pkk_sound TTok mix hF 13 (hs:=[.t true,.y ((eI .u8) j),.c]) (ts:=[]) (s:=[]) (l:=[3,8,9,10,22,23,24]) (by kernel_rfl) (by kernel_rfl) (.cons (dt i) (.cons (getI_ob (f:=(eI .u8)) m) (.cons (show (4294967296:Int)≠0 by decide) .nil))) (Jt hF ks n e g b k (remI (wi .u64 ((bits .xor .u64 d (wi .u64 j))*16777619)) 4294967296) (wi .i64 (a+1)) _ h q)
  ·rw [if_neg i] at h
   cases h
   exact pkk_sound TTok mix hF 8 (hs:=[.t false]) (ts:=[]) (s:=[]) (l:=[3,8,9,10]) (by kernel_rfl) (by kernel_rfl) (.cons (df i) .nil) q
inductive XS where
 | x0 (a:Int)
def Gbx:XS→Ex
 | .x0 _=>.exit 0
def Gby (b:(List Gd)):XS→PS
 | .x0 a=>⟨(dd::dd::dd::.d (.v (.int .u64 a))::(dds 34 [])),[]⟩
def Gbz (a:(List Gd)) (b c:Int):PS:=⟨(dd::dd::dd::.d (.v (.int .u64 b))::dd::dd::dd::dd::.d (.sl (a.map Gc))::di (a.length:Int)::di c::(dds 27 [])),[]⟩
def Zl (n:Nat) (a:(List Gd)):Nat→Int→Int→Option XS
 | 0,_,_=>none
 | k+1,c,b =>
  if b<(a.length:Int) then
   (getI a b).bind fun (d:Gd) =>
   (catS (b2s ([(wi .u8 d.fN)])) d.fData).bind fun (e:ByteArray) =>
   (s2bO e).bind fun (f:(List Int)) =>
   (Zk n a b f n c 0).bind fun g=>match g with
   | .x0 h =>
    Zl n a k h (wi .i64 (b+1))
  else
   some (.x0 c)
theorem Ju {Fi:Ex→PS→Prop} (hF:KC 38 Fi) (ks:List Fr) (n:Nat) (i:(List Gd))  : ∀ (k:Nat) (j a:Int) (o:XS),Zl n i k j a=some o→RunE Try.prog 38 Fi ks (Gbx o) (Gby i o)→RunE Try.prog 38 Fi (.l k (cP (cB (cR (cL (cR (cR (bodyOf Try.f22)))))))::ks) .normal (Gbz i j a)
 | 0,j,a,o,h,q=>by rw [Zl] at h; cases h
 | k+1,j,a,o,h,q=>by
  rw [Zl] at h
  by_cases z:a<(i.length:Int)
  ·rw [if_pos z] at h
   obtain ⟨g,a1,h⟩:=bind_some h
   obtain ⟨a0,a2,h⟩:=bind_some h
   obtain ⟨m,a3,h⟩:=bind_some h
   obtain ⟨a4,a5,h⟩:=bind_some h
   refine pkk_sound TTok mix hF 14 (hs:=[.t true,.y (Gc g),.c,.c,.w ([(wi .u8 g.fN)].map (eI .u8)),.e 45 [40] (.d (.v (.string (b2s ([(wi .u8 g.fN)]))))) [],.c,.e 60 [] (.d (.v (.string a0))) [],.e 65 [] (.d (.sl (m.map (eI .u8)))) [],.u (di (m.length:Int)),.n n]) (ts:=[]) (s:=[]) (l:=[3,8,9,10,22,23,24]) (by kernel_rfl) (by kernel_rfl) (.cons (dt z) (.cons (getI_ob (f:=Gc) a1) (.cons (show 0+2≤2 by decide) (.cons (Eq.refl ([(wi .u8 g.fN)].map (eI .u8))) (.cons (xb2sR (l:=40) (L:=[(wi .u8 g.fN)]) (P:=Try.prog) (T:=TT) (src:=42) (dst:=9) (e:=5) (s:=1) (x:=(.tmp 17)) (by kernel_rfl) (by kernel_rfl) (by kernel_rfl)) (.cons (xcatS (P:=Try.prog) (T:=TT) (t:=9) (ty':=9) (x:=(.tmp 18)) (y:=(.tmp 20)) (p:=(b2s ([(wi .u8 g.fN)]))) (q:=g.fData) (r:=a0) a2) (.cons (xs2b (P:=Try.prog) (T:=TT) (src:=9) (dst:=42) (e:=5) (x:=(.tmp 21)) (s:=a0) (L:=m) a3 (by kernel_rfl) (by kernel_rfl) (by kernel_rfl)) (.cons (len_ob (f:=(eI .u8)) (l:=m)) .nil)))))))) (Jt hF (.b 2::.b 1::.s (cR (cR (cR (cP (cB (cR (cL (cR (cR (bodyOf Try.f22))))))))))::.l k (cP (cB (cR (cL (cR (cR (bodyOf Try.f22)))))))::ks) n i a m n j 0 _ a5 ?_)
   cases a4 with
   | x0 a6 =>
    try dsimp only at h
    exact pkk_sound TTok mix hF 3 (hs:=[]) (ts:=[]) (s:=[]) (l:=[3,8,9,10]) (by kernel_rfl) (by kernel_rfl) .nil (Ju hF ks n i k a6 (wi .i64 (a+1)) _ h q)
  ·rw [if_neg z] at h
   cases h
   exact pkk_sound TTok mix hF 8 (hs:=[.t false]) (ts:=[]) (s:=[]) (l:=[3]) (by kernel_rfl) (by kernel_rfl) (.cons (df z) .nil) q
/- ringhall/ringref3.Sum -/
def Yq (n:Nat) (a:(List Gd)):Option (Int) :=
 (Zl n a n 2166136261 0).bind fun b=>match b with
 | .x0 c =>
  some (wi .u32 c)
theorem KU (n:Nat) (a:(List Gd)) (r:Int) (h:Yq n a=some r):Ret Try.prog 22 [(eL Gc) a] ((eI .u32) r):=by
 refine ret_run (n:=38) (fn:=Try.f22) (c:=bodyOf Try.f22) (by kernel_rfl) (by kernel_rfl) (by kernel_rfl) (by kernel_rfl) ?_
 have hF:KC 38 (FinR Try.prog Try.f22 ((eI .u32) r)):=FinR.kc' (by kernel_rfl)
 unfold Yq at h
 obtain ⟨e,g,h⟩:=bind_some h
 refine pkk_sound TTok mix hF 9 (hs:=[.u (di (a.length:Int)),.n n]) (ts:=[]) (s:=[]) (l:=[3,8,9,10]) (by kernel_rfl) (by kernel_rfl) (.cons (len_ob (f:=Gc) (l:=a)) .nil) (Ju hF (.b 0::.s (cR (cR (cR (bodyOf Try.f22))))::[]) n a n 2166136261 0 _ g ?_)
 cases e with
 | x0 i =>
  try dsimp only at h
  obtain rfl:=Option.some.inj h
  exact pend_sound TTok mix 4 (hs:=[]) (by kernel_rfl) (by kernel_rfl) (by kernel_rfl) .nil
/- internal/stringslite.HasPrefix -/
def K8 (n:Nat) (b a:ByteArray):Option (Bool) :=
 if (b.size:Int)≥(a.size:Int) then
  (subS b 0 (a.size:Int)).bind fun (c:ByteArray) =>
  some (c.toList == a.toList)
 else
  some false
theorem V8 (n:Nat) (a b:ByteArray) (r:Bool) (h:K8 n a b=some r):Ret Try.prog 53 [eS a,eS b] (eB r):=by
 refine ret_run (n:=18) (fn:=Try.f53) (c:=bodyOf Try.f53) (by kernel_rfl) (by kernel_rfl) (by kernel_rfl) (by kernel_rfl) ?_
 have hF:KC 18 (FinR Try.prog Try.f53 (eB r)):=FinR.kc' (by kernel_rfl)
 unfold K8 at h
 by_cases f:(a.size:Int)≥(b.size:Int)
 ·rw [if_pos f] at h
  obtain ⟨g,i,h⟩:=bind_some h
  obtain rfl:=Option.some.inj h
  exact pend_sound TTok mix 5 (hs:=[.t true,.c,.c,.c,.e 50 [] (.d (.v (.string g))) [],.c,.c]) (by kernel_rfl) (by kernel_rfl) (by kernel_rfl) (.cons (dt f) (.cons (xsub01 (P:=Try.prog) (T:=TT) (t:=9) (x:=(.tmp 11)) (p:=a) (r:=g) (hi:=(.tmp 13)) (h:=(b.size:Int)) (kb:=.i64) (by kernel_rfl) i) .nil))
 ·rw [if_neg f] at h
  obtain rfl:=Option.some.inj h
  exact pend_sound TTok mix 5 (hs:=[.t false,.c,.c,.c,.c,.c]) (by kernel_rfl) (by kernel_rfl) (by kernel_rfl) (.cons (df f) .nil)
/- strings.HasPrefix -/
def YV (n:Nat) (a b:ByteArray):Option (Bool) :=
 (K8 n a b).bind fun (c:(Bool)) =>
 some c
theorem Ji (n:Nat) (a b:ByteArray) (r:Bool) (h:YV n a b=some r):Ret Try.prog 46 [eS a,eS b] (eB r):=by
 refine ret_run (n:=8) (fn:=Try.f46) (c:=bodyOf Try.f46) (by kernel_rfl) (by kernel_rfl) (by kernel_rfl) (by kernel_rfl) ?_
 have hF:KC 8 (FinR Try.prog Try.f46 (eB r)):=FinR.kc' (by kernel_rfl)
 unfold YV at h
 obtain ⟨d,e,h⟩:=bind_some h
 obtain rfl:=Option.some.inj h
 exact pend_sound TTok mix 5 (hs:=[.r (eB d)]) (by kernel_rfl) (by kernel_rfl) (by kernel_rfl) (.cons (V8 n a b _ e) .nil)
inductive Y1 where
 | x0 (a:Bool) (b:(List Gd))
def Gaw:Y1→Ex
 | .x0 _ _=>.normal
def Gax (b g:Int) (a:(ByteArray×Gf)) (c:Int):Y1→PS
 | .x0 e f=>⟨(.ref 2 0::di b::dd::dd::dd::dd::dd::dd::dd::.d (.v (.string a.1))::di (wi .i64 c)::(dds 21 (.d (.v (.bool e))::(dds 55 [])))),[.gh 0 (.ref 2 0),.gh 1 (.srf 4),.box [di a.2.fSectors,di a.2.fMark,di a.2.fFuse,.srf 3],.cu (rowF 57 2 (f.map Gc)) [],.none]⟩
def Gay (b c:Int) (a:(ByteArray×Gf)) (e:Int)  : PS:=⟨(.ref 2 0::di b::di c::dd::dd::dd::dd::dd::dd::.d (.v (.string a.1))::di (wi .i64 e)::(dds 77 [])),[.gh 0 (.ref 2 0),.gh 1 (.srf 4),.box [di a.2.fSectors,di a.2.fMark,di a.2.fFuse,.srf 3],.cu (rowF 57 2 (a.2.fAll.map Gc)) [],.none]⟩
def XF (n:Nat) (e c:Int) (a:(ByteArray×Gf)) (b:Int):Option Y1 :=
 (getS a.1 0).bind fun (d:Int) =>
 if d=74 then
  if (wi .i64 b)=0 then
   some (.x0 true a.2.fAll)
  else
   some (.x0 (decide ((wi .i64 b) > (wi .i64 (c-2)))) a.2.fAll)
 else
  some (.x0 true a.2.fAll)
theorem Gaz {Fi:Ex→PS→Prop} (hF:KC 88 Fi) (ks:List Fr) (n:Nat) (g i:Int) (j:(ByteArray×Gf)) (b:Int)  (o:Y1) (h:XF n g i j b=some o) (q:RunE Try.prog 88 Fi ks (Gaw o) (Gax g i j b o)):RunE Try.prog 88 Fi (.s (cL (cL (cR (cR (cR (bodyOf Try.f19))))))::ks) .normal (Gay g i j b):=by
 unfold XF at h
 obtain ⟨e,k,h⟩:=bind_some h
 by_cases a:e=74
 ·rw [if_pos a] at h
  by_cases f:(wi .i64 b)=0
  ·rw [if_pos f] at h
   cases h
   exact pkk_sound TTok mix hF 1 (hs:=[.l (.d (.v (.int .u8 e))),.t false,.c,.t true,.c,.c,.c]) (ts:=[]) (s:=[0,1,2,3,4]) (l:=[0,1,9,10,32]) (by kernel_rfl) (by kernel_rfl) (.cons (getS_ob k) (.cons (nf a) (.cons (bt f) .nil))) q
  ·rw [if_neg f] at h
   cases h
   exact pkk_sound TTok mix hF 1 (hs:=[.l (.d (.v (.int .u8 e))),.t false,.c,.t false,.c,.c,.c]) (ts:=[]) (s:=[0,1,2,3,4]) (l:=[0,1,9,10,32]) (by kernel_rfl) (by kernel_rfl) (.cons (getS_ob k) (.cons (nf a) (.cons (bf f) .nil))) q
 ·rw [if_neg a] at h
  cases h
  exact pkk_sound TTok mix hF 1 (hs:=[.l (.d (.v (.int .u8 e))),.t true,.c,.c,.c,.c,.c]) (ts:=[]) (s:=[0,1,2,3,4]) (l:=[0,1,9,10,32]) (by kernel_rfl) (by kernel_rfl) (.cons (getS_ob k) (.cons (nt a) .nil)) q
inductive Y2 where
 | x0 (a b c:Int) (d e:(List Gd))
def GaA:Y2→Ex
 | .x0 _ _ _ _ _=>.exit 0
def GaB (a:Int) (m:(ByteArray×Gf)) (b c e f g:Int):Y2→PS
 | .x0 h i j k l=>⟨(.ref 2 0::di a::(dds 8 (di (wi .i64 b)::.d (.v (.int .u32 (wi .u32 ((wi .u32 ((wi .u32 ((wi .u32 c)+(wi .u32 (256*(wi .u32 e)))))+(wi .u32 (65536*(wi .u32 f)))))+(wi .u32 (16777216*(wi .u32 g)))))))::.srf 5::(dds 75 [])))),[.gh 0 (.ref 2 0),.gh 1 (.srf 4),.box [di h,di i,di j,.srf 3],.cu (rowF 57 2 (k.map Gc)) [],.none,.row 57 2 (l.map Gc)]⟩
def GaC (a:Int) (b:(ByteArray×Gf)) (c e f g h i j k l:Int) (m n:(List Gd)):PS:=⟨(.ref 2 0::di a::dd::dd::dd::dd::dd::dd::dd::.d (.v (.string b.1))::di (wi .i64 c)::.d (.v (.int .u32 (wi .u32 ((wi .u32 ((wi .u32 ((wi .u32 e)+(wi .u32 (256*(wi .u32 f)))))+(wi .u32 (65536*(wi .u32 g)))))+(wi .u32 (16777216*(wi .u32 h)))))))::.srf 5::di i::(dds 74 [])),[.gh 0 (.ref 2 0),.gh 1 (.srf 4),.box [di j,di k,di l,.srf 3],.cu (rowF 57 2 (m.map Gc)) [],.none,.row 57 2 (n.map Gc)]⟩
def KI (n:Nat) (c:Int) (d:(ByteArray×Gf)) (e l m o p:Int):Nat→Int→Int→Int→Int→(List Gd)→(List Gd)→Option Y2
 | 0,_,_,_,_,_,_=>none
 | k+1,b,f,g,h,i,j =>
  if b≤(wi .i64 e) then
   (getS d.1 (wi .i64 (5+b))).bind fun (q:Int) =>
   (Sq n (Gf.mk f g h i) (wi .i64 (c+b))).bind fun (a:(ByteArray×Gf)) =>
   (app 24 j ([(Gd.mk (wi .i64 q) a.1)])).bind fun (r:(List Gd)) =>
   KI n c d e l m o p k (wi .i64 (b+1)) a.2.fSectors a.2.fMark a.2.fFuse a.2.fAll r
  else
   some (.x0 f g h i j)
theorem Ja {Fi:Ex→PS→Prop} (hF:KC 88 Fi) (ks:List Fr) (n:Nat) (c:Int) (p:(ByteArray×Gf)) (e r u x y:Int)  : ∀ (k:Nat) (b g i j:Int) (m z:(List Gd)) (o:Y2),KI n c p e r u x y k b g i j m z=some o→RunE Try.prog 88 Fi ks (GaA o) (GaB c p e r u x y o)→RunE Try.prog 88 Fi (.l k (cP (cB (cR (cL (cR (cR (cR (cR (cR (cR (bodyOf Try.f19)))))))))))::ks) .normal (GaC c p e r u x y b g i j m z)
 | 0,b,g,i,j,m,z,o,h,q=>by rw [KI] at h; cases h
 | k+1,b,g,i,j,m,z,o,h,q=>by
  rw [KI] at h
  by_cases a0:b≤(wi .i64 e)
  ·rw [if_pos a0] at h
   obtain ⟨a3,a4,h⟩:=bind_some h
   obtain ⟨a,a5,h⟩:=bind_some h
   obtain ⟨a2,a1,h⟩:=bind_some h
   exact pkk_sound TTok mix hF 11 (hs:=[.t true,.l (.d (.v (.int .u8 a3))),.h [2,3] [] [.box [di a.2.fSectors,di a.2.fMark,di a.2.fFuse,.srf 2],.none,.cu (rowF 57 2 (a.2.fAll.map Gc)) []] (.d (.v (.string a.1))),.bd,.w (a2.map Gc)]) (ts:=[]) (s:=[0,1,2,71,4,86]) (l:=[0,1,9,10,11,12,13]) (by kernel_rfl) (by kernel_rfl) (.cons (dt a0) (.cons (getS_ob a4) (.cons (Yy n (Gf.mk g i j m) (wi .i64 (c+b)) _ a5) (.cons (app_ob (f:=Gc) (s:=2) a1 (fun _=>rfl)).1 (.cons (app_ob (f:=Gc) (s:=2) a1 (fun _=>rfl)).2.1 (.cons (app_ob (f:=Gc) (s:=2) a1 (fun _=>rfl)).2.2.1 (.cons (app_ob (f:=Gc) (s:=2) a1 (fun _=>rfl)).2.2.2 .nil))))))) (Ja hF ks n c p e r u x y k (wi .i64 (b+1)) a.2.fSectors a.2.fMark a.2.fFuse a.2.fAll a2 _ h q)
  ·rw [if_neg a0] at h
   cases h
   exact pkk_sound TTok mix hF 8 (hs:=[.t false]) (ts:=[]) (s:=[0,1,2,3,4,5]) (l:=[0,1,10,11,12]) (by kernel_rfl) (by kernel_rfl) (.cons (df a0) .nil) q
/- ringhall/ringref3.Scan -/
def KX (n:Nat) (k:Gf) (b l:Int):Option ((List Gd)×Int×Bool×Gf) :=
 (Sq n k b).bind fun (a:(ByteArray×Gf)) =>
 (getS a.1 5).bind fun (g:Int) =>
 (XF n b l a g).bind fun m=>match m with
 | .x0 o i =>
  if o=true then
   some (([]:(List Gd)),0,false,(Gf.mk a.2.fSectors a.2.fMark a.2.fFuse i))
  else
   (getS a.1 1).bind fun (c:Int) =>
   (getS a.1 2).bind fun (d:Int) =>
   (getS a.1 3).bind fun (e:Int) =>
   (getS a.1 4).bind fun (f:Int) =>
   (KI n b a g c d e f n 1 a.2.fSectors a.2.fMark a.2.fFuse i ([]:List Gd)).bind fun p=>match p with
   | .x0 q r s t j =>
    (Sq n (Gf.mk q r s t) (wi .i64 ((wi .i64 (b+1))+(wi .i64 g)))).bind fun (h:(ByteArray×Gf)) =>
    (Zn n (wi .u32 ((wi .u32 ((wi .u32 ((wi .u32 c)+(wi .u32 (256*(wi .u32 d)))))+(wi .u32 (65536*(wi .u32 e)))))+(wi .u32 (16777216*(wi .u32 f)))))).bind fun (u:(ByteArray)) =>
    (catS (ByteArray.mk #[67]) u).bind fun (v:ByteArray) =>
    (Yq n j).bind fun (w:(Int)) =>
    (Zn n w).bind fun (x:(ByteArray)) =>
    (catS v x).bind fun (y:ByteArray) =>
    (YV n h.1 y).bind fun (z:(Bool)) =>
    if z=true then
     some (j,(wi .u32 ((wi .u32 ((wi .u32 ((wi .u32 c)+(wi .u32 (256*(wi .u32 d)))))+(wi .u32 (65536*(wi .u32 e)))))+(wi .u32 (16777216*(wi .u32 f))))),true,h.2)
    else
     some (([]:(List Gd)),(wi .u32 ((wi .u32 ((wi .u32 ((wi .u32 c)+(wi .u32 (256*(wi .u32 d)))))+(wi .u32 (65536*(wi .u32 e)))))+(wi .u32 (16777216*(wi .u32 f))))),false,h.2)
theorem XG (n:Nat) (f:Gf) (i a5:Int) (r:(List Gd)×Int×Bool×Gf) (h:KX n f i a5=some r):RetH Try.prog 19 [.ref 0 0,.d ((eI .i64) i),.d ((eI .i64) a5)] [.box [di f.fSectors,di f.fMark,di f.fFuse,.srf 1],.cu (rowF 57 2 (f.fAll.map Gc)) []] (.tup [.d ((eL Gc) r.1),.d ((eI .u32) r.2.1),.d (eB r.2.2.1)]) [.box [di r.2.2.2.fSectors,di r.2.2.2.fMark,di r.2.2.2.fFuse,.srf 2],.none,.cu (rowF 57 2 (r.2.2.2.fAll.map Gc)) []]:=by
 refine retH_run (n:=88) (fn:=Try.f19) (c:=bodyOf Try.f19) (by kernel_rfl) (by kernel_rfl) (by kernel_rfl) (by kernel_rfl) ?_
 have hF:KC 88 (FinH Try.prog Try.f19 [.box [di f.fSectors,di f.fMark,di f.fFuse,.srf 1],.cu (rowF 57 2 (f.fAll.map Gc)) []] (.tup [.d ((eL Gc) r.1),.d ((eI .u32) r.2.1),.d (eB r.2.2.1)]) [.box [di r.2.2.2.fSectors,di r.2.2.2.fMark,di r.2.2.2.fFuse,.srf 2],.none,.cu (rowF 57 2 (r.2.2.2.fAll.map Gc)) []]):=FinH.kc' (by kernel_rfl)
 unfold KX at h
 obtain ⟨g,b9,h⟩:=bind_some h
 obtain ⟨m,c0,h⟩:=bind_some h
 obtain ⟨c1,c2,h⟩:=bind_some h
 refine pkk_sound TTok mix hF 8 (hs:=[.h [0,1] [] [.box [di g.2.fSectors,di g.2.fMark,di g.2.fFuse,.srf 2],.none,.cu (rowF 57 2 (g.2.fAll.map Gc)) []] (.d (.v (.string g.1))),.l (.d (.v (.int .u8 m)))]) (ts:=[]) (s:=[2,3,0,29,1]) (l:=[0,1,2,9,10]) (by kernel_rfl) (by kernel_rfl) (.cons (Yy n f i _ b9) (.cons (getS_ob c0) .nil)) (Gaz hF (.s (cR (cL (cR (cR (cR (bodyOf Try.f19))))))::.s (cR (cR (cR (cR (bodyOf Try.f19)))))::[]) n i a5 g m _ c2 ?_)
 cases c1 with
 | x0 c3 c4 =>
  try dsimp only at h
  by_cases o:c3=true
  ·rw [if_pos o] at h
   obtain rfl:=Option.some.inj h
   exact pendH_sound TTok mix 5 (hs:=[.t true]) [2,4,3] (by kernel_rfl) (by kernel_rfl) (by kernel_rfl) (.cons o .nil)
  ·rw [if_neg o] at h
   obtain ⟨u,c5,h⟩:=bind_some h
   obtain ⟨w,c6,h⟩:=bind_some h
   obtain ⟨z,c7,h⟩:=bind_some h
   obtain ⟨a0,c8,h⟩:=bind_some h
   obtain ⟨c9,d0,h⟩:=bind_some h
   refine pkk_sound TTok mix hF 11 (hs:=[.t false,.l (.d (.v (.int .u8 u))),.l (.d (.v (.int .u8 w))),.l (.d (.v (.int .u8 z))),.l (.d (.v (.int .u8 a0))),.n n]) (ts:=[(12,57,2)]) (s:=[0,1,2,3,4,110]) (l:=[0,1,9,10,11,12,13]) (by kernel_rfl) (by kernel_rfl) (.cons (vf o) (.cons (getS_ob c5) (.cons (getS_ob c6) (.cons (getS_ob c7) (.cons (getS_ob c8) .nil))))) (Ja hF (.b 0::.s (cR (cR (cR (cR (cR (cR (cR (bodyOf Try.f19))))))))::[]) n i g m u w z a0 n 1 g.2.fSectors g.2.fMark g.2.fFuse c4 ([]:List Gd) _ d0 ?_)
   cases c9 with
   | x0 a7 a8 a9 b0 b1 =>
    try dsimp only at h
    obtain ⟨a,b2,h⟩:=bind_some h
    obtain ⟨a1,b3,h⟩:=bind_some h
    obtain ⟨j,b4,h⟩:=bind_some h
    obtain ⟨a2,b5,h⟩:=bind_some h
    obtain ⟨a3,b6,h⟩:=bind_some h
    obtain ⟨k,b7,h⟩:=bind_some h
    obtain ⟨a6,b8,h⟩:=bind_some h
    by_cases a4:a6=true
    ·rw [if_pos a4] at h
     obtain rfl:=Option.some.inj h
     exact pendH_sound TTok mix 10 (hs:=[.h [2,3] [] [.box [di a.2.fSectors,di a.2.fMark,di a.2.fFuse,.srf 2],.none,.cu (rowF 57 2 (a.2.fAll.map Gc)) []] (.d (.v (.string a.1))),.r (eS a1),.e 46 [] (.d (.v (.string j))) [],.c,.r ((eI .u32) a2),.r (eS a3),.e 66 [] (.d (.v (.string k))) [],.r (eB a6),.t false,.dl 4,.fz 5]) [2,4,31] (by kernel_rfl) (by kernel_rfl) (by kernel_rfl) (.cons (Yy n (Gf.mk a7 a8 a9 b0) (wi .i64 ((wi .i64 (i+1))+(wi .i64 m))) _ b2) (.cons (ZF n (wi .u32 ((wi .u32 ((wi .u32 ((wi .u32 u)+(wi .u32 (256*(wi .u32 w)))))+(wi .u32 (65536*(wi .u32 z)))))+(wi .u32 (16777216*(wi .u32 a0))))) _ b3) (.cons (xcatS (P:=Try.prog) (T:=TT) (t:=9) (ty':=9) (x:=(.const (.string (ByteArray.mk #[67])))) (y:=(.tmp 77)) (p:=(ByteArray.mk #[67])) (q:=a1) (r:=j) b4) (.cons (KU n b1 _ b5) (.cons (ZF n a2 _ b6) (.cons (xcatS (P:=Try.prog) (T:=TT) (t:=9) (ty':=9) (x:=(.tmp 78)) (y:=(.tmp 81)) (p:=j) (q:=a3) (r:=k) b7) (.cons (Ji n a.1 k _ b8) (.cons (bnf a4) .nil))))))))
    ·rw [if_neg a4] at h
     obtain rfl:=Option.some.inj h
     exact pendH_sound TTok mix 9 (hs:=[.h [2,3] [] [.box [di a.2.fSectors,di a.2.fMark,di a.2.fFuse,.srf 2],.none,.cu (rowF 57 2 (a.2.fAll.map Gc)) []] (.d (.v (.string a.1))),.r (eS a1),.e 46 [] (.d (.v (.string j))) [],.c,.r ((eI .u32) a2),.r (eS a3),.e 66 [] (.d (.v (.string k))) [],.r (eB a6),.t true]) [2,4,31] (by kernel_rfl) (by kernel_rfl) (by kernel_rfl) (.cons (Yy n (Gf.mk a7 a8 a9 b0) (wi .i64 ((wi .i64 (i+1))+(wi .i64 m))) _ b2) (.cons (ZF n (wi .u32 ((wi .u32 ((wi .u32 ((wi .u32 u)+(wi .u32 (256*(wi .u32 w)))))+(wi .u32 (65536*(wi .u32 z)))))+(wi .u32 (16777216*(wi .u32 a0))))) _ b3) (.cons (xcatS (P:=Try.prog) (T:=TT) (t:=9) (ty':=9) (x:=(.const (.string (ByteArray.mk #[67])))) (y:=(.tmp 77)) (p:=(ByteArray.mk #[67])) (q:=a1) (r:=j) b4) (.cons (KU n b1 _ b5) (.cons (ZF n a2 _ b6) (.cons (xcatS (P:=Try.prog) (T:=TT) (t:=9) (ty':=9) (x:=(.tmp 78)) (y:=(.tmp 81)) (p:=j) (q:=a3) (r:=k) b7) (.cons (Ji n a.1 k _ b8) (.cons (bnt (vf a4)) .nil))))))))
/- (*ringhall/ringref3.Log).mine -/
def Zt (n:Nat) (a:Gt) (b:Gf) (c:Int):Option (Bool×Gt×Gf) :=
 if c≥a.fAt then
  some ((decide (c<(wi .i64 (a.fAt+a.fSize)))),a,b)
 else
  some (false,a,b)
theorem YF (n:Nat) (b:Gt) (a:Gf) (g:Int) (r:Bool×Gt×Gf) (h:Zt n b a g=some r):RetH Try.prog 30 [.ref 0 0,.d ((eI .i64) g)] [.box [.ref 1 0,di b.fAt,di b.fSize,.d (.v (.int .u32 b.fSeq))],.box [di a.fSectors,di a.fMark,di a.fFuse,.srf 2],.cu (rowF 57 2 (a.fAll.map Gc)) []] (.d (eB r.1)) [.box [.ref 1 0,di r.2.1.fAt,di r.2.1.fSize,.d (.v (.int .u32 r.2.1.fSeq))],.box [di r.2.2.fSectors,di r.2.2.fMark,di r.2.2.fFuse,.srf 3],.none,.cu (rowF 57 2 (r.2.2.fAll.map Gc)) []]:=by
 refine retH_run (n:=24) (fn:=Try.f30) (c:=bodyOf Try.f30) (by kernel_rfl) (by kernel_rfl) (by kernel_rfl) (by kernel_rfl) ?_
 have hF:KC 24 (FinH Try.prog Try.f30 [.box [.ref 1 0,di b.fAt,di b.fSize,.d (.v (.int .u32 b.fSeq))],.box [di a.fSectors,di a.fMark,di a.fFuse,.srf 2],.cu (rowF 57 2 (a.fAll.map Gc)) []] (.d (eB r.1)) [.box [.ref 1 0,di r.2.1.fAt,di r.2.1.fSize,.d (.v (.int .u32 r.2.1.fSeq))],.box [di r.2.2.fSectors,di r.2.2.fMark,di r.2.2.fFuse,.srf 3],.none,.cu (rowF 57 2 (r.2.2.fAll.map Gc)) []]):=FinH.kc' (by kernel_rfl)
 unfold Zt at h
 by_cases f:g≥b.fAt
 ·rw [if_pos f] at h
  obtain rfl:=Option.some.inj h
  exact pendH_sound TTok mix 6 (hs:=[.c,.t true,.c,.c,.c,.c,.c,.c,.c,.c,.c,.c,.c,.c,.dl 1,.sx [2] (fmvS 2 57 2 (a.fAll.map Gc))]) [0,1,2,111] (by kernel_rfl) (by kernel_rfl) (by kernel_rfl) (.cons (dt f) (.cons (fmv (l:=2) (e:=57) (s:=2) (xs:=(a.fAll.map Gc))) .nil))
 ·rw [if_neg f] at h
  obtain rfl:=Option.some.inj h
  exact pendH_sound TTok mix 6 (hs:=[.c,.t false,.c,.c,.c,.c,.c,.c,.c,.c,.c,.c,.dl 1,.sx [2] (fmvS 2 57 2 (a.fAll.map Gc))]) [0,1,2,111] (by kernel_rfl) (by kernel_rfl) (by kernel_rfl) (.cons (df f) (.cons (fmv (l:=2) (e:=57) (s:=2) (xs:=(a.fAll.map Gc))) .nil))
/- (*ringhall/ringref3.Disk).goes -/
def KO (n:Nat) (a:Gf):Option (Bool×Gf) :=
 if a.fFuse > 0 then
  some (true,(Gf.mk a.fSectors a.fMark (wi .i64 (a.fFuse-1)) a.fAll))
 else
  some ((decide (a.fFuse<0)),a)
theorem Yz (n:Nat) (a:Gf) (r:Bool×Gf) (h:KO n a=some r):RetH Try.prog 44 [.ref 0 0] [.box [di a.fSectors,di a.fMark,di a.fFuse,.srf 1],.cu (rowF 57 2 (a.fAll.map Gc)) []] (.d (eB r.1)) [.box [di r.2.fSectors,di r.2.fMark,di r.2.fFuse,.srf 2],.none,.cu (rowF 57 2 (r.2.fAll.map Gc)) []]:=by
 refine retH_run (n:=20) (fn:=Try.f44) (c:=bodyOf Try.f44) (by kernel_rfl) (by kernel_rfl) (by kernel_rfl) (by kernel_rfl) ?_
 have hF:KC 20 (FinH Try.prog Try.f44 [.box [di a.fSectors,di a.fMark,di a.fFuse,.srf 1],.cu (rowF 57 2 (a.fAll.map Gc)) []] (.d (eB r.1)) [.box [di r.2.fSectors,di r.2.fMark,di r.2.fFuse,.srf 2],.none,.cu (rowF 57 2 (r.2.fAll.map Gc)) []]):=FinH.kc' (by kernel_rfl)
 unfold KO at h
 by_cases b:a.fFuse > 0
 ·rw [if_pos b] at h
  obtain rfl:=Option.some.inj h
  exact pendH_sound TTok mix 13 (hs:=[.c,.t true,.c,.c,.dl 4,.sx [1] (fmvS 1 57 2 (a.fAll.map Gc))]) [0,1,79] (by kernel_rfl) (by kernel_rfl) (by kernel_rfl) (.cons (dt b) (.cons (show 2+1≤4 by decide) (.cons (fmv (l:=1) (e:=57) (s:=2) (xs:=(a.fAll.map Gc))) .nil)))
 ·rw [if_neg b] at h
  obtain rfl:=Option.some.inj h
  exact pendH_sound TTok mix 11 (hs:=[.c,.t false,.c,.dl 1,.sx [1] (fmvS 1 57 2 (a.fAll.map Gc))]) [0,1,64] (by kernel_rfl) (by kernel_rfl) (by kernel_rfl) (.cons (df b) (.cons (fmv (l:=1) (e:=57) (s:=2) (xs:=(a.fAll.map Gc))) .nil))
inductive ZO where
 | x0 (a:Bool) (b:(List Gd))
def JZ:ZO→Ex
 | .x0 _ _=>.normal
def J0 (b:Int) (c:ByteArray) (a:Gf):ZO→PS
 | .x0 e f=>⟨(.ref 2 0::di b::.d (.v (.string c))::(dds 18 (.d (.v (.bool e))::(dds 14 [])))),[.gh 0 (.ref 2 0),.gh 1 (.srf 3),.box [di a.fSectors,di a.fMark,di a.fFuse,.srf 3],.cu (rowF 57 2 (f.map Gc)) []]⟩
def J1 (b:Int) (c:ByteArray) (a:Gf)  : PS:=⟨(.ref 2 0::di b::.d (.v (.string c))::(dds 33 [])),[.gh 0 (.ref 2 0),.gh 1 (.srf 3),.box [di a.fSectors,di a.fMark,di a.fFuse,.srf 3],.cu (rowF 57 2 (a.fAll.map Gc)) []]⟩
def Yf (n:Nat) (b:Int) (c:ByteArray) (a:Gf):Option ZO :=
 if b<0 then
  some (.x0 true a.fAll)
 else
  if b≥a.fSectors then
   some (.x0 true a.fAll)
  else
   some (.x0 ((c.size:Int) != 64) a.fAll)
theorem J2 {Fi:Ex→PS→Prop} (hF:KC 36 Fi) (ks:List Fr) (n:Nat) (a:Int) (f:ByteArray) (d:Gf)  (o:ZO) (h:Yf n a f d=some o) (q:RunE Try.prog 36 Fi ks (JZ o) (J0 a f d o)):RunE Try.prog 36 Fi (.s (cL (cL (cR (bodyOf Try.f18))))::ks) .normal (J1 a f d):=by
 unfold Yf at h
 by_cases b:a<0
 ·rw [if_pos b] at h
  cases h
  exact pkk_sound TTok mix hF 1 (hs:=[.t true,.c,.c,.c,.c,.c,.c,.c,.c]) (ts:=[]) (s:=[0,1,2,3]) (l:=[0,1,2,21]) (by kernel_rfl) (by kernel_rfl) (.cons (dt b) .nil) q
 ·rw [if_neg b] at h
  by_cases e:a≥d.fSectors
  ·rw [if_pos e] at h
   cases h
   exact pkk_sound TTok mix hF 1 (hs:=[.t false,.c,.c,.c,.c,.c,.c,.t true,.c,.c]) (ts:=[]) (s:=[0,1,2,3]) (l:=[0,1,2,21]) (by kernel_rfl) (by kernel_rfl) (.cons (df b) (.cons (dt e) .nil)) q
  ·rw [if_neg e] at h
   cases h
   exact pkk_sound TTok mix hF 1 (hs:=[.t false,.c,.c,.c,.c,.c,.c,.t false,.c,.c]) (ts:=[]) (s:=[0,1,2,3]) (l:=[0,1,2,21]) (by kernel_rfl) (by kernel_rfl) (.cons (df b) (.cons (df e) .nil)) q
/- (*ringhall/ringref3.Disk).Write -/
def Gs (n:Nat) (a:Gf) (c:Int) (d:ByteArray):Option (Int×Gf) :=
 (Yf n c d a).bind fun f=>match f with
 | .x0 g e =>
  if g=true then
   some (1,(Gf.mk a.fSectors a.fMark a.fFuse e))
  else
   (KO n (Gf.mk a.fSectors a.fMark a.fFuse e)).bind fun (b:(Bool×Gf)) =>
   if b.1=true then
    (app 24 b.2.fAll ([(Gd.mk c d)])).bind fun (h:(List Gd)) =>
    some (0,(Gf.mk b.2.fSectors b.2.fMark b.2.fFuse h))
   else
    some (0,b.2)
theorem Sy (n:Nat) (a:Gf) (j:Int) (k:ByteArray) (r:Int×Gf) (h:Gs n a j k=some r):RetH Try.prog 18 [.ref 0 0,.d ((eI .i64) j),.d (eS k)] [.box [di a.fSectors,di a.fMark,di a.fFuse,.srf 1],.cu (rowF 57 2 (a.fAll.map Gc)) []] (.d ((eI .i64) r.1)) [.box [di r.2.fSectors,di r.2.fMark,di r.2.fFuse,.srf 2],.none,.cu (rowF 57 2 (r.2.fAll.map Gc)) []]:=by
 refine retH_run (n:=36) (fn:=Try.f18) (c:=bodyOf Try.f18) (by kernel_rfl) (by kernel_rfl) (by kernel_rfl) (by kernel_rfl) ?_
 have hF:KC 36 (FinH Try.prog Try.f18 [.box [di a.fSectors,di a.fMark,di a.fFuse,.srf 1],.cu (rowF 57 2 (a.fAll.map Gc)) []] (.d ((eI .i64) r.1)) [.box [di r.2.fSectors,di r.2.fMark,di r.2.fFuse,.srf 2],.none,.cu (rowF 57 2 (r.2.fAll.map Gc)) []]):=FinH.kc' (by kernel_rfl)
 unfold Gs at h
 obtain ⟨w,z,h⟩:=bind_some h
 refine pkk_sound TTok mix hF 4 (hs:=[]) (ts:=[]) (s:=[2,3,0,1]) (l:=[0,1,2]) (by kernel_rfl) (by kernel_rfl) .nil (J2 hF (.s (cR (cL (cR (bodyOf Try.f18))))::.s (cR (cR (bodyOf Try.f18)))::[]) n j k a _ z ?_)
 cases w with
 | x0 a0 m =>
  try dsimp only at h
  by_cases g:a0=true
  ·rw [if_pos g] at h
   obtain rfl:=Option.some.inj h
   exact pendH_sound TTok mix 6 (hs:=[.t true,.dl 4,.sx [3] (fmvS 3 57 2 (m.map Gc))]) [2,3,9] (by kernel_rfl) (by kernel_rfl) (by kernel_rfl) (.cons g (.cons (fmv (l:=3) (e:=57) (s:=2) (xs:=(m.map Gc))) .nil))
  ·rw [if_neg g] at h
   obtain ⟨b,u,h⟩:=bind_some h
   by_cases o:b.1=true
   ·rw [if_pos o] at h
    obtain ⟨p,q,h⟩:=bind_some h
    obtain rfl:=Option.some.inj h
    exact pendH_sound TTok mix 11 (hs:=[.t false,.h [2,3] [] [.box [di b.2.fSectors,di b.2.fMark,di b.2.fFuse,.srf 2],.none,.cu (rowF 57 2 (b.2.fAll.map Gc)) []] (.d (.v (.bool b.1))),.t true,.c,.bd,.e 59 [9,59] (.srf 59) [(9,.none),(59,.row 57 2 (p.map Gc))],.c,.dl 3,.sx [59] (toF 59 57 2 (p.map Gc))]) [2,3,59] (by kernel_rfl) (by kernel_rfl) (by kernel_rfl) (.cons (vf g) (.cons (Yz n (Gf.mk a.fSectors a.fMark a.fFuse m) _ u) (.cons o (.cons (fapp (P:=Try.prog) (T:=TT) (t:=47) (e:=57) (s:=2) (nl:=59) (ti:=⟨2,24,.st [(0,3),(1,9)],[.i .i64,.s]⟩) (zs:=(p.map Gc)) (x:=(.tmp 28)) (y:=(.tmp 32)) (l:=9) (xs:=(b.2.fAll.map Gc)) (ys:=(([(Gd.mk j k)]).map Gc)) (app_ob (f:=Gc) (s:=2) q (fun _=>rfl)).2.2.2 (by kernel_rfl) (by kernel_rfl) (by kernel_rfl) (by decide) (app_ob (f:=Gc) (s:=2) q (fun _=>rfl)).1 (by simp) (app_ob (f:=Gc) (s:=2) q (fun _=>rfl)).2.1 (app_ob (f:=Gc) (s:=2) q (fun _=>rfl)).2.2.1 (by decide)) (.cons (show 3+1≤4 by decide) (.cons (row_toF (l:=59) (e:=57) (s:=2) (xs:=(p.map Gc))) .nil))))))
   ·rw [if_neg o] at h
    obtain rfl:=Option.some.inj h
    exact pendH_sound TTok mix 10 (hs:=[.t false,.h [2,3] [] [.box [di b.2.fSectors,di b.2.fMark,di b.2.fFuse,.srf 2],.none,.cu (rowF 57 2 (b.2.fAll.map Gc)) []] (.d (.v (.bool b.1))),.t false]) [2,3,9] (by kernel_rfl) (by kernel_rfl) (by kernel_rfl) (.cons (vf g) (.cons (Yz n (Gf.mk a.fSectors a.fMark a.fFuse m) _ u) (.cons (vf o) .nil)))
inductive Y3 where
 | x0 (a b c d:Int) (e:(List Gd))
 | x1 (f g h:Int) (i:(List Gd)) (j k l:Int)
def GaD:Y3→Ex
 | .x0 _ _ _ _ _=>.ret
 | .x1 _ _ _ _ _ _ _=>.exit 0
def GaE (a:((List Gd)×Int×Bool×Gf)):Y3→PS
 | .x0 b c e f g=>⟨(dd::dd::dd::dd::dd::dd::.d (.v (.pointer none))::di b::(dds 64 [])),[.gh 0 (.ref 2 0),.gh 1 (.srf 4),.box [di c,di e,di f,.srf 3],.cu (rowF 57 2 (g.map Gc)) [],.none]⟩
 | .x1 h i j k l m n=>⟨(.ref 2 0::dd::dd::dd::dd::dd::dd::dd::.d (.sl (a.1.map Gc))::dd::dd::.ref 5 0::(dds 60 [])),[.gh 0 (.ref 2 0),.gh 1 (.srf 4),.box [di h,di i,di j,.srf 3],.cu (rowF 57 2 (k.map Gc)) [],.none,.box [.ref 2 0,di l,di m,.d (.v (.int .u32 n))]]⟩
def GaF (a:((List Gd)×Int×Bool×Gf)) (b c e f:Int) (g:(List Gd)) (h i j:Int):PS:=⟨(.ref 2 0::dd::dd::dd::dd::dd::dd::dd::.d (.sl (a.1.map Gc))::dd::dd::.ref 5 0::(dds 26 (.d (.sl (a.1.map Gc))::di (a.1.length:Int)::di b::(dds 31 [])))),[.gh 0 (.ref 2 0),.gh 1 (.srf 4),.box [di c,di e,di f,.srf 3],.cu (rowF 57 2 (g.map Gc)) [],.none,.box [.ref 2 0,di h,di i,.d (.v (.int .u32 j))]]⟩
def KJ (n:Nat) (c:((List Gd)×Int×Bool×Gf)):Nat→Int→Int→Int→Int→(List Gd)→Int→Int→Int→Option Y3
 | 0,_,_,_,_,_,_,_,_=>none
 | k+1,d,b,e,f,g,h,i,j =>
  if d<(c.1.length:Int) then
   (getI c.1 d).bind fun (l:Gd) =>
   if l.fN≥b then
    some (.x0 17 b e f g)
   else
    (Zt n (Gt.mk () h i j) (Gf.mk b e f g) l.fN).bind fun (a:(Bool×Gt×Gf)) =>
    if a.1=true then
     some (.x0 17 a.2.2.fSectors a.2.2.fMark a.2.2.fFuse a.2.2.fAll)
    else
     KJ n c k (wi .i64 (d+1)) a.2.2.fSectors a.2.2.fMark a.2.2.fFuse a.2.2.fAll a.2.1.fAt a.2.1.fSize a.2.1.fSeq
  else
   some (.x1 b e f g h i j)
theorem Jb {Fi:Ex→PS→Prop} (hF:KC 72 Fi) (ks:List Fr) (n:Nat) (x:((List Gd)×Int×Bool×Gf))  : ∀ (k:Nat) (e b g i:Int) (j:(List Gd)) (m p r:Int) (o:Y3),KJ n x k e b g i j m p r=some o→RunE Try.prog 72 Fi ks (GaD o) (GaE x o)→RunE Try.prog 72 Fi (.l k (cP (cB (cR (cL (cR (cR (cR (cR (cR (bodyOf Try.f8))))))))))::ks) .normal (GaF x e b g i j m p r)
 | 0,e,b,g,i,j,m,p,r,o,h,q=>by rw [KJ] at h; cases h
 | k+1,e,b,g,i,j,m,p,r,o,h,q=>by
  rw [KJ] at h
  by_cases u:e<(x.1.length:Int)
  ·rw [if_pos u] at h
   obtain ⟨w,a1,h⟩:=bind_some h
   by_cases z:w.fN≥b
   ·rw [if_pos z] at h
    cases h
    exact pkk_sound TTok mix hF 19 (hs:=[.t true,.y (Gc w),.c,.c,.c,.t true,.c,.c,.c,.c]) (ts:=[]) (s:=[0,1,2,3,4]) (l:=[6,7]) (by kernel_rfl) (by kernel_rfl) (.cons (dt u) (.cons (getI_ob (f:=Gc) a1) (.cons (show 0+2≤2 by decide) (.cons (dt z) .nil)))) q
   ·rw [if_neg z] at h
    obtain ⟨a,a2,h⟩:=bind_some h
    by_cases a0:a.1=true
    ·rw [if_pos a0] at h
     cases h
     exact pkk_sound TTok mix hF 19 (hs:=[.t true,.y (Gc w),.c,.c,.c,.t false,.c,.c,.c,.c,.h [5,2,3] [] [.box [.ref 1 0,di a.2.1.fAt,di a.2.1.fSize,.d (.v (.int .u32 a.2.1.fSeq))],.box [di a.2.2.fSectors,di a.2.2.fMark,di a.2.2.fFuse,.srf 3],.none,.cu (rowF 57 2 (a.2.2.fAll.map Gc)) []] (.d (.v (.bool a.1))),.t true]) (ts:=[]) (s:=[0,1,2,86,4]) (l:=[6,7]) (by kernel_rfl) (by kernel_rfl) (.cons (dt u) (.cons (getI_ob (f:=Gc) a1) (.cons (show 0+2≤2 by decide) (.cons (df z) (.cons (YF n (Gt.mk () m p r) (Gf.mk b g i j) w.fN _ a2) (.cons a0 .nil)))))) q
    ·rw [if_neg a0] at h
     exact pkk_sound TTok mix hF 16 (hs:=[.t true,.y (Gc w),.c,.c,.c,.t false,.c,.c,.c,.c,.h [5,2,3] [] [.box [.ref 1 0,di a.2.1.fAt,di a.2.1.fSize,.d (.v (.int .u32 a.2.1.fSeq))],.box [di a.2.2.fSectors,di a.2.2.fMark,di a.2.2.fFuse,.srf 3],.none,.cu (rowF 57 2 (a.2.2.fAll.map Gc)) []] (.d (.v (.bool a.1))),.t false]) (ts:=[]) (s:=[0,1,2,86,4,5]) (l:=[0,8,11,38,39,40]) (by kernel_rfl) (by kernel_rfl) (.cons (dt u) (.cons (getI_ob (f:=Gc) a1) (.cons (show 0+2≤2 by decide) (.cons (df z) (.cons (YF n (Gt.mk () m p r) (Gf.mk b g i j) w.fN _ a2) (.cons (vf a0) .nil)))))) (Jb hF ks n x k (wi .i64 (e+1)) a.2.2.fSectors a.2.2.fMark a.2.2.fFuse a.2.2.fAll a.2.1.fAt a.2.1.fSize a.2.1.fSeq _ h q)
  ·rw [if_neg u] at h
   cases h
   exact pkk_sound TTok mix hF 8 (hs:=[.t false]) (ts:=[]) (s:=[0,1,2,3,4,5]) (l:=[0,8,11]) (by kernel_rfl) (by kernel_rfl) (.cons (df u) .nil) q
inductive Y4 where
 | x0 (a b c:Int) (d:(List Gd))
def GaG:Y4→Ex
 | .x0 _ _ _ _=>.exit 2
def GaH (i:((List Gd)×Int×Bool×Gf)) (a b c:Int):Y4→PS
 | .x0 e f g h=>⟨(dds 11 (.ref 5 0::(dds 60 []))),[.gh 0 (.ref 2 0),.gh 1 (.srf 4),.box [di e,di f,di g,.srf 3],.cu (rowF 57 2 (h.map Gc)) [],.none,.box [.ref 2 0,di a,di b,.d (.v (.int .u32 c))]]⟩
def GaI (a:((List Gd)×Int×Bool×Gf)) (b c e f g h i:Int) (j:(List Gd)):PS:=⟨(.ref 2 0::(dds 10 (.ref 5 0::(dds 46 (.d (.sl (a.1.map Gc))::di (a.1.length:Int)::di f::(dds 11 [])))))),[.gh 0 (.ref 2 0),.gh 1 (.srf 4),.box [di g,di h,di i,.srf 3],.cu (rowF 57 2 (j.map Gc)) [],.none,.box [.ref 2 0,di b,di c,.d (.v (.int .u32 e))]]⟩
def KK (n:Nat) (b:((List Gd)×Int×Bool×Gf)) (i j l:Int):Nat→Int→Int→Int→Int→(List Gd)→Option Y4
 | 0,_,_,_,_,_=>none
 | k+1,c,d,e,f,g =>
  if c<(b.1.length:Int) then
   (getI b.1 c).bind fun (h:Gd) =>
   (Gs n (Gf.mk d e f g) h.fN h.fData).bind fun (a:(Int×Gf)) =>
   KK n b i j l k (wi .i64 (c+1)) a.2.fSectors a.2.fMark a.2.fFuse a.2.fAll
  else
   some (.x0 d e f g)
theorem Jc {Fi:Ex→PS→Prop} (hF:KC 72 Fi) (ks:List Fr) (n:Nat) (e:((List Gd)×Int×Bool×Gf)) (p r u:Int)  : ∀ (k:Nat) (b g i j:Int) (m:(List Gd)) (o:Y4),KK n e p r u k b g i j m=some o→RunE Try.prog 72 Fi ks (GaG o) (GaH e p r u o)→RunE Try.prog 72 Fi (.l k (cP (cB (cR (cL (cR (cR (cR (cR (cR (cR (bodyOf Try.f8)))))))))))::ks) .normal (GaI e p r u b g i j m)
 | 0,b,g,i,j,m,o,h,q=>by rw [KK] at h; cases h
 | k+1,b,g,i,j,m,o,h,q=>by
  rw [KK] at h
  by_cases w:b<(e.1.length:Int)
  ·rw [if_pos w] at h
   obtain ⟨x,z,h⟩:=bind_some h
   obtain ⟨a,a0,h⟩:=bind_some h
   exact pkk_sound TTok mix hF 13 (hs:=[.t true,.y (Gc x),.c,.c,.c,.h [2,3] [] [.box [di a.2.fSectors,di a.2.fMark,di a.2.fFuse,.srf 2],.none,.cu (rowF 57 2 (a.2.fAll.map Gc)) []] (di a.1)]) (ts:=[]) (s:=[0,1,2,56,4,5]) (l:=[0,11,58,59,60]) (by kernel_rfl) (by kernel_rfl) (.cons (dt w) (.cons (getI_ob (f:=Gc) z) (.cons (show 0+2≤2 by decide) (.cons (Sy n (Gf.mk g i j m) x.fN x.fData _ a0) .nil)))) (Jc hF ks n e p r u k (wi .i64 (b+1)) a.2.fSectors a.2.fMark a.2.fFuse a.2.fAll _ h q)
  ·rw [if_neg w] at h
   cases h
   exact pkk_sound TTok mix hF 8 (hs:=[.t false]) (ts:=[]) (s:=[0,1,2,3,4,5]) (l:=[11]) (by kernel_rfl) (by kernel_rfl) (.cons (df w) .nil) q
/- ringhall/ringref3.Open -/
def KY (n:Nat) (h:Gf) (b c:Int):Option ((Option Gt)×Int×Gf) :=
 (YU n h b c).bind fun (d:(Bool×Gf)) =>
 if d.1=true then
  (KX n d.2 b c).bind fun (a:((List Gd)×Int×Bool×Gf)) =>
  if a.2.2.1=true then
   (KJ n a n 0 a.2.2.2.fSectors a.2.2.2.fMark a.2.2.2.fFuse a.2.2.2.fAll b c a.2.1).bind fun i=>match i with
   | .x0 j k l m o =>
    some (none,j,(Gf.mk k l m o))
   | .x1 p q r s e f g =>
    (KK n a e f g n 0 p q r s).bind fun t=>match t with
    | .x0 u v w x =>
     some ((some (Gt.mk () e f g)),0,(Gf.mk u v w x))
  else
   some ((some (Gt.mk () b c a.2.1)),0,a.2.2.2)
 else
  some (none,1,d.2)
theorem St (n:Nat) (g:Gf) (i j:Int) (r:(Option Gt)×Int×Gf) (h:KY n g i j=some r):RetH Try.prog 8 [.ref 0 0,.d ((eI .i64) i),.d ((eI .i64) j)] [.box [di g.fSectors,di g.fMark,di g.fFuse,.srf 1],.cu (rowF 57 2 (g.fAll.map Gc)) []] (.tup [(match r.1 with | none=>.d (.v (.pointer none)) | some x=>.ref 3 0),.d ((eI .i64) r.2.1)]) (match r.1 with | none=>[.box [di r.2.2.fSectors,di r.2.2.fMark,di r.2.2.fFuse,.srf 2],.none,.cu (rowF 57 2 (r.2.2.fAll.map Gc)) []] | some x=>[.box [di r.2.2.fSectors,di r.2.2.fMark,di r.2.2.fFuse,.srf 2],.none,.cu (rowF 57 2 (r.2.2.fAll.map Gc)) [],.box [.ref 0 0,di x.fAt,di x.fSize,.d (.v (.int .u32 x.fSeq))]]):=by
 refine retH_run (n:=72) (fn:=Try.f8) (c:=bodyOf Try.f8) (by kernel_rfl) (by kernel_rfl) (by kernel_rfl) (by kernel_rfl) ?_
 have hF:KC 72 (FinH Try.prog Try.f8 [.box [di g.fSectors,di g.fMark,di g.fFuse,.srf 1],.cu (rowF 57 2 (g.fAll.map Gc)) []] (.tup [(match r.1 with | none=>.d (.v (.pointer none)) | some x=>.ref 3 0),.d ((eI .i64) r.2.1)]) (match r.1 with | none=>[.box [di r.2.2.fSectors,di r.2.2.fMark,di r.2.2.fFuse,.srf 2],.none,.cu (rowF 57 2 (r.2.2.fAll.map Gc)) []] | some x=>[.box [di r.2.2.fSectors,di r.2.2.fMark,di r.2.2.fFuse,.srf 2],.none,.cu (rowF 57 2 (r.2.2.fAll.map Gc)) [],.box [.ref 0 0,di x.fAt,di x.fSize,.d (.v (.int .u32 x.fSeq))]])):=FinH.kc' (by kernel_rfl)
 unfold KY at h
 obtain ⟨e,o,h⟩:=bind_some h
 by_cases k:e.1=true
 ·rw [if_pos k] at h
  obtain ⟨a,p,h⟩:=bind_some h
  by_cases m:a.2.2.1=true
  ·rw [if_pos m] at h
   obtain ⟨q,w,h⟩:=bind_some h
   refine pkk_sound TTok mix hF 21 (hs:=[.h [0,1] [] [.box [di e.2.fSectors,di e.2.fMark,di e.2.fFuse,.srf 2],.none,.cu (rowF 57 2 (e.2.fAll.map Gc)) []] (.d (.v (.bool e.1))),.t false,.h [0,29] [] [.box [di a.2.2.2.fSectors,di a.2.2.2.fMark,di a.2.2.2.fFuse,.srf 2],.none,.cu (rowF 57 2 (a.2.2.2.fAll.map Gc)) []] (.tup [.d (.sl (a.1.map Gc)),.d (.v (.int .u32 a.2.1)),.d (.v (.bool a.2.2.1))]),.t false,.u (di (a.1.length:Int)),.n n]) (ts:=[]) (s:=[2,3,0,54,1,119]) (l:=[0,8,11,38,39,40]) (by kernel_rfl) (by kernel_rfl) (.cons (Um n g i j _ o) (.cons (bnf k) (.cons (XG n e.2 i j _ p) (.cons (bnf m) (.cons (len_ob (f:=Gc) (l:=a.1)) .nil))))) (Jb hF (.b 0::.s (cR (cR (cR (cR (cR (cR (bodyOf Try.f8)))))))::[]) n a n 0 a.2.2.2.fSectors a.2.2.2.fMark a.2.2.2.fFuse a.2.2.2.fAll i j a.2.1 _ w ?_)
   cases q with
   | x0 a7 a8 a9 b0 b1 =>
    try dsimp only at h
    obtain rfl:=Option.some.inj h
    exact pendH_sound TTok mix 2 (hs:=[]) [2,4,3] (by kernel_rfl) (by kernel_rfl) (by kernel_rfl) .nil
   | x1 y z a0 a1 a2 a3 a4 =>
    try dsimp only at h
    obtain ⟨a5,a6,h⟩:=bind_some h
    refine pkk_sound TTok mix hF 6 (hs:=[.u (di (a.1.length:Int)),.n n]) (ts:=[]) (s:=[0,1,2,3,4,5]) (l:=[0,11,58,59,60]) (by kernel_rfl) (by kernel_rfl) (.cons (len_ob (f:=Gc) (l:=a.1)) .nil) (Jc hF (.b 2::.s (cR (cR (cR (cR (cR (cR (cR (bodyOf Try.f8))))))))::[]) n a a2 a3 a4 n 0 y z a0 a1 _ a6 ?_)
    cases a5 with
    | x0 b2 b3 b4 b5 =>
     try dsimp only at h
     obtain rfl:=Option.some.inj h
     exact pendH_sound TTok mix 4 (hs:=[]) [2,4,3,5] (by kernel_rfl) (by kernel_rfl) (by kernel_rfl) .nil
  ·rw [if_neg m] at h
   obtain rfl:=Option.some.inj h
   exact pendH_sound TTok mix 19 (hs:=[.h [0,1] [] [.box [di e.2.fSectors,di e.2.fMark,di e.2.fFuse,.srf 2],.none,.cu (rowF 57 2 (e.2.fAll.map Gc)) []] (.d (.v (.bool e.1))),.t false,.h [0,29] [] [.box [di a.2.2.2.fSectors,di a.2.2.2.fMark,di a.2.2.2.fFuse,.srf 2],.none,.cu (rowF 57 2 (a.2.2.2.fAll.map Gc)) []] (.tup [.d (.sl (a.1.map Gc)),.d (.v (.int .u32 a.2.1)),.d (.v (.bool a.2.2.1))]),.t true]) [0,1,54,119] (by kernel_rfl) (by kernel_rfl) (by kernel_rfl) (.cons (Um n g i j _ o) (.cons (bnf k) (.cons (XG n e.2 i j _ p) (.cons (bnt (vf m)) .nil))))
 ·rw [if_neg k] at h
  obtain rfl:=Option.some.inj h
  exact pendH_sound TTok mix 10 (hs:=[.h [0,1] [] [.box [di e.2.fSectors,di e.2.fMark,di e.2.fFuse,.srf 2],.none,.cu (rowF 57 2 (e.2.fAll.map Gc)) []] (.d (.v (.bool e.1))),.t true]) [0,1,29] (by kernel_rfl) (by kernel_rfl) (by kernel_rfl) (.cons (Um n g i j _ o) (.cons (bnt (vf k)) .nil))
/- (*ringhall/journal.Log).Room -/
def KL (n:Nat) (a:Gp) (b:Gg):Option (Int×Gp×Gg) :=
 some ((wi .i64 (a.fsize-2)),a,b)
theorem YS (n:Nat) (b:Gp) (a:Gg) (r:Int×Gp×Gg) (h:KL n b a=some r):RetH Try.prog 24 [.ref 0 0] [.box [.ref 1 0,di b.fat,di b.fsize,.d (.v (.int .u32 b.fseq))],.box [.srf 2,.srf 3,.srf 4,di a.ffuse],.row 5 1 (a.fsafe.map (eI .u8)),.row 5 1 (a.fnow.map (eI .u8)),.row 94 2 (a.fwait.map Ge)] (.d ((eI .i64) r.1)) [.box [.ref 1 0,di r.2.1.fat,di r.2.1.fsize,.d (.v (.int .u32 r.2.1.fseq))],.box [.srf 5,.srf 6,.srf 7,di r.2.2.ffuse],.none,.none,.none,.row 5 1 (r.2.2.fsafe.map (eI .u8)),.row 5 1 (r.2.2.fnow.map (eI .u8)),.row 94 2 (r.2.2.fwait.map Ge)]:=by
 refine retH_run (n:=8) (fn:=Try.f24) (c:=bodyOf Try.f24) (by kernel_rfl) (by kernel_rfl) (by kernel_rfl) (by kernel_rfl) ?_
 have hF:KC 8 (FinH Try.prog Try.f24 [.box [.ref 1 0,di b.fat,di b.fsize,.d (.v (.int .u32 b.fseq))],.box [.srf 2,.srf 3,.srf 4,di a.ffuse],.row 5 1 (a.fsafe.map (eI .u8)),.row 5 1 (a.fnow.map (eI .u8)),.row 94 2 (a.fwait.map Ge)] (.d ((eI .i64) r.1)) [.box [.ref 1 0,di r.2.1.fat,di r.2.1.fsize,.d (.v (.int .u32 r.2.1.fseq))],.box [.srf 5,.srf 6,.srf 7,di r.2.2.ffuse],.none,.none,.none,.row 5 1 (r.2.2.fsafe.map (eI .u8)),.row 5 1 (r.2.2.fnow.map (eI .u8)),.row 94 2 (r.2.2.fwait.map Ge)]):=FinH.kc' (by kernel_rfl)
 unfold KL at h
 obtain rfl:=Option.some.inj h
 exact pendH_sound TTok mix 8 (hs:=[.c,.dl 1,.mv 2,.mv 3,.mv 4]) [0,1,2,3,4,45,46,47] (by kernel_rfl) (by kernel_rfl) (by kernel_rfl) .nil
inductive Yg where
 | x0 (a:Bool) (b c:(List Int)) (d:(List Gi)) (e:(List (Int×Bool)))
 | x1 (f:Bool) (g:Int) (h i:(List Int)) (j:(List Gi)) (k:(List (Int×Bool)))
def MM:Yg→Ex
 | .x0 _ _ _ _ _=>.normal
 | .x1 _ _ _ _ _ _=>.normal
def MN (b:(List Gh)) (e:Int) (a:(Int×Gp×Gg)) (f:Int) (r s:(List Int)) (t:(List Gi)) (u:(List (Int×Bool))) (c:Gh):Yg→PS
 | .x0 g h i j k=>⟨(.ref 5 0::dd::dd::dd::dd::.srf 13::dd::.ref 14 0::dd::dd::dd::dd::dd::dd::.d (.sl (b.map Gl))::di (b.length:Int)::di e::(dds 44 (.d (.v (.bool g))::(dds 8 [])))),[.gh 0 (.ref 5 0),.gh 1 (.ref 6 0),.gh 2 (.srf 10),.gh 3 (.srf 11),.gh 4 (.srf 12),.box [.ref 6 0,di a.2.1.fat,di a.2.1.fsize,.d (.v (.int .u32 a.2.1.fseq))],.box [.srf 7,.srf 8,.srf 9,di f],.row 5 1 (h.map (eI .u8)),.row 5 1 (i.map (eI .u8)),.row 94 2 (j.map Ge),.none,.none,.none,.cu (mapC (fun x:Int=>Value.int .i64 x) Value.bool k) [],.box [di c.fSector,.d (.sl (c.fData.map (eI .u8)))]]⟩
 | .x1 l m n o p q=>⟨(.ref 5 0::dd::dd::dd::dd::.srf 13::dd::.ref 14 0::dd::dd::dd::dd::dd::dd::.d (.sl (b.map Gl))::di (b.length:Int)::di e::(dds 44 (.d (.v (.bool l))::(dds 8 [])))),[.gh 0 (.ref 5 0),.gh 1 (.ref 6 0),.gh 2 (.srf 10),.gh 3 (.srf 11),.gh 4 (.srf 12),.box [.ref 6 0,di a.2.1.fat,di a.2.1.fsize,.d (.v (.int .u32 a.2.1.fseq))],.box [.srf 7,.srf 8,.srf 9,di m],.row 5 1 (n.map (eI .u8)),.row 5 1 (o.map (eI .u8)),.row 94 2 (p.map Ge),.none,.none,.none,.cu (mapC (fun x:Int=>Value.int .i64 x) Value.bool q) [],.box [di c.fSector,.d (.sl (c.fData.map (eI .u8)))]]⟩
def MO (b:(List Gh)) (e:Int) (a:(Int×Gp×Gg)) (f:Int) (g h:(List Int)) (i:(List Gi)) (j:(List (Int×Bool))) (c:Gh)  : PS:=⟨(.ref 5 0::dd::dd::dd::dd::.srf 13::dd::.ref 14 0::dd::dd::dd::dd::dd::dd::.d (.sl (b.map Gl))::di (b.length:Int)::di e::(dds 53 [])),[.gh 0 (.ref 5 0),.gh 1 (.ref 6 0),.gh 2 (.srf 10),.gh 3 (.srf 11),.gh 4 (.srf 12),.box [.ref 6 0,di a.2.1.fat,di a.2.1.fsize,.d (.v (.int .u32 a.2.1.fseq))],.box [.srf 7,.srf 8,.srf 9,di f],.row 5 1 (g.map (eI .u8)),.row 5 1 (h.map (eI .u8)),.row 94 2 (i.map Ge),.none,.none,.none,.cu (mapC (fun x:Int=>Value.int .i64 x) Value.bool j) [],.box [di c.fSector,.d (.sl (c.fData.map (eI .u8)))]]⟩
def Kw (n:Nat) (i:(List Gh)) (j:Int) (d:(Int×Gp×Gg)) (h:Int) (e f:(List Int)) (g:(List Gi)) (c:(List (Int×Bool))) (b:Gh):Option Yg :=
 if b.fSector<0 then
  some (.x0 true e f g c)
 else
  (G7 n (Gg.mk e f g h)).bind fun (a:(Int×Gg)) =>
  if b.fSector≥a.1 then
   some (.x1 true a.2.ffuse a.2.fsafe a.2.fnow a.2.fwait c)
  else
   if b.fSector≥d.2.1.fat then
    if b.fSector<(wi .i64 (d.2.1.fat+d.2.1.fsize)) then
     some (.x1 true a.2.ffuse a.2.fsafe a.2.fnow a.2.fwait c)
    else
     some (.x1 ((b.fData.length:Int) != 64) a.2.ffuse a.2.fsafe a.2.fnow a.2.fwait c)
   else
    some (.x1 ((b.fData.length:Int) != 64) a.2.ffuse a.2.fsafe a.2.fnow a.2.fwait c)
theorem MP {Fi:Ex→PS→Prop} (hF:KC 70 Fi) (ks:List Fr) (n:Nat) (y:(List Gh)) (z:Int) (m:(Int×Gp×Gg)) (e:Int) (g i:(List Int)) (j:(List Gi)) (a0:(List (Int×Bool))) (b:Gh)  (o:Yg) (h:Kw n y z m e g i j a0 b=some o) (q:RunE Try.prog 70 Fi ks (MM o) (MN y z m e g i j a0 b o)):RunE Try.prog 70 Fi (.s (cL (cL (cR (cB (cL (cR (cR (cP (cB (cR (cL (cR (cR (cR (bodyOf Try.f34)))))))))))))))::ks) .normal (MO y z m e g i j a0 b):=by
 unfold Kw at h
 by_cases k:b.fSector<0
 ·rw [if_pos k] at h
  cases h
  exact pkk_sound TTok mix hF 1 (hs:=[.c,.t true,.c,.c,.c,.c,.c,.c,.c,.c,.c,.c,.c,.c,.c,.c,.c,.c,.c,.c,.c,.c]) (ts:=[]) (s:=[0,1,2,3,4,5,6,7,8,9,10,11,12,13,14]) (l:=[0,5,7,14,15,16,61]) (by kernel_rfl) (by kernel_rfl) (.cons (dt k) .nil) q
 ·rw [if_neg k] at h
  obtain ⟨a,w,h⟩:=bind_some h
  by_cases p:b.fSector≥a.1
  ·rw [if_pos p] at h
   cases h
   exact pkk_sound TTok mix hF 1 (hs:=[.c,.t false,.c,.c,.c,.c,.c,.c,.c,.c,.h [6,7,8,9] [] [.box [.srf 4,.srf 5,.srf 6,di a.2.ffuse],.none,.none,.none,.row 5 1 (a.2.fsafe.map (eI .u8)),.row 5 1 (a.2.fnow.map (eI .u8)),.row 94 2 (a.2.fwait.map Ge)] (di a.1),.c,.t true,.c,.c,.c,.c,.c,.c,.c,.c,.c,.c,.c,.c]) (ts:=[]) (s:=[0,1,2,3,4,5,6,65,66,67,10,11,12,13,14]) (l:=[0,5,7,14,15,16,61]) (by kernel_rfl) (by kernel_rfl) (.cons (df k) (.cons (G2 n (Gg.mk g i j e) _ w) (.cons (dt p) .nil))) q
  ·rw [if_neg p] at h
   by_cases r:b.fSector≥m.2.1.fat
   ·rw [if_pos r] at h
    by_cases x:b.fSector<(wi .i64 (m.2.1.fat+m.2.1.fsize))
    ·rw [if_pos x] at h
     cases h
     exact pkk_sound TTok mix hF 1 (hs:=[.c,.t false,.c,.c,.c,.c,.c,.c,.c,.c,.h [6,7,8,9] [] [.box [.srf 4,.srf 5,.srf 6,di a.2.ffuse],.none,.none,.none,.row 5 1 (a.2.fsafe.map (eI .u8)),.row 5 1 (a.2.fnow.map (eI .u8)),.row 94 2 (a.2.fwait.map Ge)] (di a.1),.c,.t false,.c,.c,.c,.c,.c,.c,.c,.c,.c,.t true,.c,.c,.c,.c,.c,.c,.c,.c,.c,.c,.c,.c,.c,.c,.c,.t true,.c,.c,.c]) (ts:=[]) (s:=[0,1,2,3,4,5,6,65,66,67,10,11,12,13,14]) (l:=[0,5,7,14,15,16,61]) (by kernel_rfl) (by kernel_rfl) (.cons (df k) (.cons (G2 n (Gg.mk g i j e) _ w) (.cons (df p) (.cons (dt r) (.cons (dt x) .nil))))) q
    ·rw [if_neg x] at h
     cases h
     exact pkk_sound TTok mix hF 1 (hs:=[.c,.t false,.c,.c,.c,.c,.c,.c,.c,.c,.h [6,7,8,9] [] [.box [.srf 4,.srf 5,.srf 6,di a.2.ffuse],.none,.none,.none,.row 5 1 (a.2.fsafe.map (eI .u8)),.row 5 1 (a.2.fnow.map (eI .u8)),.row 94 2 (a.2.fwait.map Ge)] (di a.1),.c,.t false,.c,.c,.c,.c,.c,.c,.c,.c,.c,.t true,.c,.c,.c,.c,.c,.c,.c,.c,.c,.c,.c,.c,.c,.c,.c,.t false,.c,.c,.c,.u (di (b.fData.length:Int)),.c]) (ts:=[]) (s:=[0,1,2,3,4,5,6,65,66,67,10,11,12,13,14]) (l:=[0,5,7,14,15,16,61]) (by kernel_rfl) (by kernel_rfl) (.cons (df k) (.cons (G2 n (Gg.mk g i j e) _ w) (.cons (df p) (.cons (dt r) (.cons (df x) (.cons (len_ob (f:=(eI .u8)) (l:=b.fData)) .nil)))))) q
   ·rw [if_neg r] at h
    cases h
    exact pkk_sound TTok mix hF 1 (hs:=[.c,.t false,.c,.c,.c,.c,.c,.c,.c,.c,.h [6,7,8,9] [] [.box [.srf 4,.srf 5,.srf 6,di a.2.ffuse],.none,.none,.none,.row 5 1 (a.2.fsafe.map (eI .u8)),.row 5 1 (a.2.fnow.map (eI .u8)),.row 94 2 (a.2.fwait.map Ge)] (di a.1),.c,.t false,.c,.c,.c,.c,.c,.c,.c,.c,.c,.t false,.c,.c,.c,.c,.c,.c,.c,.c,.c,.c,.c,.c,.c,.c,.c,.c,.u (di (b.fData.length:Int)),.c]) (ts:=[]) (s:=[0,1,2,3,4,5,6,65,66,67,10,11,12,13,14]) (l:=[0,5,7,14,15,16,61]) (by kernel_rfl) (by kernel_rfl) (.cons (df k) (.cons (G2 n (Gg.mk g i j e) _ w) (.cons (df p) (.cons (df r) (.cons (len_ob (f:=(eI .u8)) (l:=b.fData)) .nil))))) q
inductive Yh where
 | x0 (a b:Int) (c d:(List Int)) (e:(List Gi))
 | x1 (f:Int) (g h:(List Int)) (i:(List Gi))
def MQ:Yh→Ex
 | .x0 _ _ _ _ _=>.ret
 | .x1 _ _ _ _=>.exit 0
def MR (l:(List Gh)) (a:(Int×Gp×Gg)):Yh→PS
 | .x0 b c e f g=>⟨(dd::dd::dd::dd::di b::(dds 65 [])),[.gh 0 (.ref 5 0),.gh 1 (.ref 6 0),.gh 2 (.srf 10),.gh 3 (.srf 11),.gh 4 (.srf 12),.box [.ref 6 0,di a.2.1.fat,di a.2.1.fsize,.d (.v (.int .u32 a.2.1.fseq))],.box [.srf 7,.srf 8,.srf 9,di c],.row 5 1 (e.map (eI .u8)),.row 5 1 (f.map (eI .u8)),.row 94 2 (g.map Ge),.none,.none,.none]⟩
 | .x1 h i j k=>⟨(dds 70 []),[.gh 0 (.ref 5 0),.gh 1 (.ref 6 0),.gh 2 (.srf 10),.gh 3 (.srf 11),.gh 4 (.srf 12),.box [.ref 6 0,di a.2.1.fat,di a.2.1.fsize,.d (.v (.int .u32 a.2.1.fseq))],.box [.srf 7,.srf 8,.srf 9,di h],.row 5 1 (i.map (eI .u8)),.row 5 1 (j.map (eI .u8)),.row 94 2 (k.map Ge),.none,.none,.none]⟩
def MS (b:(List Gh)) (a:(Int×Gp×Gg)) (c e:Int) (f g:(List Int)) (h:(List Gi)) (i:(List (Int×Bool))):PS:=⟨(.ref 5 0::dd::dd::dd::dd::.srf 13::(dds 8 (.d (.sl (b.map Gl))::di (b.length:Int)::di c::(dds 53 [])))),[.gh 0 (.ref 5 0),.gh 1 (.ref 6 0),.gh 2 (.srf 10),.gh 3 (.srf 11),.gh 4 (.srf 12),.box [.ref 6 0,di a.2.1.fat,di a.2.1.fsize,.d (.v (.int .u32 a.2.1.fseq))],.box [.srf 7,.srf 8,.srf 9,di e],.row 5 1 (f.map (eI .u8)),.row 5 1 (g.map (eI .u8)),.row 94 2 (h.map Ge),.none,.none,.none,.cu (mapC (fun x:Int=>Value.int .i64 x) Value.bool i) []]⟩
def Su (n:Nat) (a:(List Gh)) (e:(Int×Gp×Gg)):Nat→Int→Int→(List Int)→(List Int)→(List Gi)→(List (Int×Bool))→Option Yh
 | 0,_,_,_,_,_,_=>none
 | k+1,b,c,o,p,q,t =>
  if b<(a.length:Int) then
   (getI a b).bind fun (d:Gh) =>
   (Kw n a b e c o p q t d).bind fun u=>match u with
   | .x0 v f g h r =>
    if v=true then
     some (.x0 1 c f g h)
    else
     if ((mget r d.fSector).getD false)=true then
      some (.x0 5 c f g h)
     else
      Su n a e k (wi .i64 (b+1)) c f g h (mput r d.fSector true)
   | .x1 w i j l m s =>
    if w=true then
     some (.x0 1 i j l m)
    else
     if ((mget s d.fSector).getD false)=true then
      some (.x0 5 i j l m)
     else
      Su n a e k (wi .i64 (b+1)) i j l m (mput s d.fSector true)
  else
   some (.x1 c o p q)
theorem Y9 {Fi:Ex→PS→Prop} (hF:KC 70 Fi) (ks:List Fr) (n:Nat) (p:(List Gh)) (r:(Int×Gp×Gg))  : ∀ (k:Nat) (i u:Int) (a0 a1:(List Int)) (a2:(List Gi)) (a3:(List (Int×Bool))) (o:Yh),Su n p r k i u a0 a1 a2 a3=some o→RunE Try.prog 70 Fi ks (MQ o) (MR p r o)→RunE Try.prog 70 Fi (.l k (cP (cB (cR (cL (cR (cR (cR (bodyOf Try.f34))))))))::ks) .normal (MS p r i u a0 a1 a2 a3)
 | 0,i,u,a0,a1,a2,a3,o,h,q=>by rw [Su] at h; cases h
 | k+1,i,u,a0,a1,a2,a3,o,h,q=>by
  rw [Su] at h
  by_cases a6:i<(p.length:Int)
  ·rw [if_pos a6] at h
   obtain ⟨a,a9,h⟩:=bind_some h
   obtain ⟨b0,b1,h⟩:=bind_some h
   refine pkk_sound TTok mix hF 12 (hs:=[.t true,.y (Gl a),.c]) (ts:=[]) (s:=[0,1,2,3,4,5,6,7,8,9,10,11,12,13,29]) (l:=[0,5,7,14,15,16]) (by kernel_rfl) (by kernel_rfl) (.cons (dt a6) (.cons (getI_ob (f:=Gl) a9) (.cons (show 0+2≤2 by decide) .nil))) (MP hF (.s (cR (cL (cR (cB (cL (cR (cR (cP (cB (cR (cL (cR (cR (cR (bodyOf Try.f34)))))))))))))))::.s (cR (cR (cB (cL (cR (cR (cP (cB (cR (cL (cR (cR (cR (bodyOf Try.f34))))))))))))))::.b 1::.s (cR (cR (cR (cP (cB (cR (cL (cR (cR (cR (bodyOf Try.f34)))))))))))::.l k (cP (cB (cR (cL (cR (cR (cR (bodyOf Try.f34))))))))::ks) n p i r u a0 a1 a2 a3 a _ b1 ?_)
   cases b0 with
   | x0 b2 b3 b4 b5 j =>
    try dsimp only at h
    by_cases a4:b2=true
    ·rw [if_pos a4] at h
     cases h
     exact pkk_sound TTok mix hF 8 (hs:=[.t true]) (ts:=[]) (s:=[0,1,2,3,4,5,6,7,8,9,10,11,12]) (l:=[4]) (by kernel_rfl) (by kernel_rfl) (.cons a4 .nil) q
    ·rw [if_neg a4] at h
     by_cases a7:((mget j a.fSector).getD false)=true
     ·rw [if_pos a7] at h
      cases h
      exact pkk_sound TTok mix hF 13 (hs:=[.t false,.c,.e 30 [13] (.d (.v (.bool ((mget j a.fSector).getD false)))) [],.t true]) (ts:=[]) (s:=[0,1,2,3,4,5,6,7,8,9,10,11,12]) (l:=[4]) (by kernel_rfl) (by kernel_rfl) (.cons (vf a4) (.cons (ylook (P:=Try.prog) (T:=TT) (t:=100) (kt:=3) (et:=4) (l:=13) (x:=(.tmp 62)) (y:=(.tmp 64)) (f:=(fun x:Int=>Value.int .i64 x)) (g:=Value.bool) (E:=j) (k:=a.fSector) (z:=false) (kv_v _) false (by kernel_rfl) (KOk.kw (KOk.int (by kernel_rfl))) (fun w=>by kernel_rfl) (fun _=>rfl) rfl) (.cons a7 .nil))) q
     ·rw [if_neg a7] at h
      exact pkk_sound TTok mix hF 10 (hs:=[.t false,.c,.e 30 [13] (.d (.v (.bool ((mget j a.fSector).getD false)))) [],.t false,.c,.e 50 [13] (dd) [(13,.cu (mapC (fun x:Int=>Value.int .i64 x) Value.bool (mput j a.fSector true)) [])]]) (ts:=[]) (s:=[0,1,2,3,4,5,6,7,8,9,10,11,12,13]) (l:=[0,5,14,15,16]) (by kernel_rfl) (by kernel_rfl) (.cons (vf a4) (.cons (ylook (P:=Try.prog) (T:=TT) (t:=100) (kt:=3) (et:=4) (l:=13) (x:=(.tmp 62)) (y:=(.tmp 64)) (f:=(fun x:Int=>Value.int .i64 x)) (g:=Value.bool) (E:=j) (k:=a.fSector) (z:=false) (kv_v _) false (by kernel_rfl) (KOk.kw (KOk.int (by kernel_rfl))) (fun w=>by kernel_rfl) (fun _=>rfl) rfl) (.cons (vf a7) (.cons (yput (P:=Try.prog) (T:=TT) (t:=100) (kt:=3) (et:=4) (l:=13) (x:=(.tmp 66)) (y:=(.tmp 68)) (z:=(.const (.bool true))) (f:=(fun x:Int=>Value.int .i64 x)) (g:=Value.bool) (E:=j) (k:=a.fSector) (v:=true) (kv_v _) (by kernel_rfl) (KOk.kw (KOk.int (by kernel_rfl)))) .nil)))) (Y9 hF ks n p r k (wi .i64 (i+1)) u b3 b4 b5 (mput j a.fSector true) _ h q)
   | x1 b6 b7 b8 b9 c0 m =>
    try dsimp only at h
    by_cases a5:b6=true
    ·rw [if_pos a5] at h
     cases h
     exact pkk_sound TTok mix hF 8 (hs:=[.t true]) (ts:=[]) (s:=[0,1,2,3,4,5,6,7,8,9,10,11,12]) (l:=[4]) (by kernel_rfl) (by kernel_rfl) (.cons a5 .nil) q
    ·rw [if_neg a5] at h
     by_cases a8:((mget m a.fSector).getD false)=true
     ·rw [if_pos a8] at h
      cases h
      exact pkk_sound TTok mix hF 13 (hs:=[.t false,.c,.e 30 [13] (.d (.v (.bool ((mget m a.fSector).getD false)))) [],.t true]) (ts:=[]) (s:=[0,1,2,3,4,5,6,7,8,9,10,11,12]) (l:=[4]) (by kernel_rfl) (by kernel_rfl) (.cons (vf a5) (.cons (ylook (P:=Try.prog) (T:=TT) (t:=100) (kt:=3) (et:=4) (l:=13) (x:=(.tmp 62)) (y:=(.tmp 64)) (f:=(fun x:Int=>Value.int .i64 x)) (g:=Value.bool) (E:=m) (k:=a.fSector) (z:=false) (kv_v _) false (by kernel_rfl) (KOk.kw (KOk.int (by kernel_rfl))) (fun w=>by kernel_rfl) (fun _=>rfl) rfl) (.cons a8 .nil))) q
     ·rw [if_neg a8] at h
      exact pkk_sound TTok mix hF 10 (hs:=[.t false,.c,.e 30 [13] (.d (.v (.bool ((mget m a.fSector).getD false)))) [],.t false,.c,.e 50 [13] (dd) [(13,.cu (mapC (fun x:Int=>Value.int .i64 x) Value.bool (mput m a.fSector true)) [])]]) (ts:=[]) (s:=[0,1,2,3,4,5,6,7,8,9,10,11,12,13]) (l:=[0,5,14,15,16]) (by kernel_rfl) (by kernel_rfl) (.cons (vf a5) (.cons (ylook (P:=Try.prog) (T:=TT) (t:=100) (kt:=3) (et:=4) (l:=13) (x:=(.tmp 62)) (y:=(.tmp 64)) (f:=(fun x:Int=>Value.int .i64 x)) (g:=Value.bool) (E:=m) (k:=a.fSector) (z:=false) (kv_v _) false (by kernel_rfl) (KOk.kw (KOk.int (by kernel_rfl))) (fun w=>by kernel_rfl) (fun _=>rfl) rfl) (.cons (vf a8) (.cons (yput (P:=Try.prog) (T:=TT) (t:=100) (kt:=3) (et:=4) (l:=13) (x:=(.tmp 66)) (y:=(.tmp 68)) (z:=(.const (.bool true))) (f:=(fun x:Int=>Value.int .i64 x)) (g:=Value.bool) (E:=m) (k:=a.fSector) (v:=true) (kv_v _) (by kernel_rfl) (KOk.kw (KOk.int (by kernel_rfl)))) .nil)))) (Y9 hF ks n p r k (wi .i64 (i+1)) b7 b8 b9 c0 (mput m a.fSector true) _ h q)
  ·rw [if_neg a6] at h
   cases h
   exact pkk_sound TTok mix hF 8 (hs:=[.t false]) (ts:=[]) (s:=[0,1,2,3,4,5,6,7,8,9,10,11,12]) (l:=[]) (by kernel_rfl) (by kernel_rfl) (.cons (df a6) .nil) q
/- (*ringhall/journal.Log).right -/
def Yr (n:Nat) (c:Gp) (d:Gg) (b:(List Gh)):Option (Int×Gp×Gg) :=
 (KL n c d).bind fun (a:(Int×Gp×Gg)) =>
 if (b.length:Int) > a.1 then
  some (2,a.2.1,a.2.2)
 else
  (Su n b a n 0 a.2.2.ffuse a.2.2.fsafe a.2.2.fnow a.2.2.fwait ([]:(List (Int×Bool)))).bind fun e=>match e with
  | .x0 f g h i j =>
   some (f,a.2.1,(Gg.mk h i j g))
  | .x1 k l m o =>
   some (0,a.2.1,(Gg.mk l m o k))
theorem XL (n:Nat) (j:Gp) (g:Gg) (i:(List Gh)) (r:Int×Gp×Gg) (h:Yr n j g i=some r):RetH Try.prog 34 [.ref 0 0,.d ((eL Gl) i)] [.box [.ref 1 0,di j.fat,di j.fsize,.d (.v (.int .u32 j.fseq))],.box [.srf 2,.srf 3,.srf 4,di g.ffuse],.row 5 1 (g.fsafe.map (eI .u8)),.row 5 1 (g.fnow.map (eI .u8)),.row 94 2 (g.fwait.map Ge)] (.d ((eI .i64) r.1)) [.box [.ref 1 0,di r.2.1.fat,di r.2.1.fsize,.d (.v (.int .u32 r.2.1.fseq))],.box [.srf 5,.srf 6,.srf 7,di r.2.2.ffuse],.none,.none,.none,.row 5 1 (r.2.2.fsafe.map (eI .u8)),.row 5 1 (r.2.2.fnow.map (eI .u8)),.row 94 2 (r.2.2.fwait.map Ge)]:=by
 refine retH_run (n:=70) (fn:=Try.f34) (c:=bodyOf Try.f34) (by kernel_rfl) (by kernel_rfl) (by kernel_rfl) (by kernel_rfl) ?_
 have hF:KC 70 (FinH Try.prog Try.f34 [.box [.ref 1 0,di j.fat,di j.fsize,.d (.v (.int .u32 j.fseq))],.box [.srf 2,.srf 3,.srf 4,di g.ffuse],.row 5 1 (g.fsafe.map (eI .u8)),.row 5 1 (g.fnow.map (eI .u8)),.row 94 2 (g.fwait.map Ge)] (.d ((eI .i64) r.1)) [.box [.ref 1 0,di r.2.1.fat,di r.2.1.fsize,.d (.v (.int .u32 r.2.1.fseq))],.box [.srf 5,.srf 6,.srf 7,di r.2.2.ffuse],.none,.none,.none,.row 5 1 (r.2.2.fsafe.map (eI .u8)),.row 5 1 (r.2.2.fnow.map (eI .u8)),.row 94 2 (r.2.2.fwait.map Ge)]):=FinH.kc' (by kernel_rfl)
 unfold Yr at h
 obtain ⟨a,m,h⟩:=bind_some h
 by_cases k:(i.length:Int) > a.1
 ·rw [if_pos k] at h
  obtain rfl:=Option.some.inj h
  exact pendH_sound TTok mix 10 (hs:=[.u (di (i.length:Int)),.h [0,1,2,3,4] [] [.box [.ref 1 0,di a.2.1.fat,di a.2.1.fsize,.d (.v (.int .u32 a.2.1.fseq))],.box [.srf 5,.srf 6,.srf 7,di a.2.2.ffuse],.none,.none,.none,.row 5 1 (a.2.2.fsafe.map (eI .u8)),.row 5 1 (a.2.2.fnow.map (eI .u8)),.row 94 2 (a.2.2.fwait.map Ge)] (di a.1),.t true]) [0,1,2,3,4,30,31,32] (by kernel_rfl) (by kernel_rfl) (by kernel_rfl) (.cons (len_ob (f:=Gl) (l:=i)) (.cons (YS n j g _ m) (.cons (dt k) .nil)))
 ·rw [if_neg k] at h
  obtain ⟨o,p,h⟩:=bind_some h
  refine pkk_sound TTok mix hF 14 (hs:=[.u (di (i.length:Int)),.h [0,1,2,3,4] [] [.box [.ref 1 0,di a.2.1.fat,di a.2.1.fsize,.d (.v (.int .u32 a.2.1.fseq))],.box [.srf 5,.srf 6,.srf 7,di a.2.2.ffuse],.none,.none,.none,.row 5 1 (a.2.2.fsafe.map (eI .u8)),.row 5 1 (a.2.2.fnow.map (eI .u8)),.row 94 2 (a.2.2.fwait.map Ge)] (di a.1),.t false,.e 40 [40] (.srf 40) [(40,.cu (mapC (fun x:Int=>Value.int .i64 x) Value.bool ([]:(List (Int×Bool)))) [])],.u (di (i.length:Int)),.n n]) (ts:=[]) (s:=[5,6,7,8,9,0,1,30,31,32,2,3,4,40]) (l:=[0,5,14,15,16]) (by kernel_rfl) (by kernel_rfl) (.cons (len_ob (f:=Gl) (l:=i)) (.cons (YS n j g _ m) (.cons (df k) (.cons (ymake (P:=Try.prog) (T:=TT) (t:=100) (nl:=40) (fun x:Int=>Value.int .i64 x) Value.bool) (.cons (len_ob (f:=Gl) (l:=i)) .nil))))) (Y9 hF (.b 0::.s (cR (cR (cR (cR (bodyOf Try.f34)))))::[]) n i a n 0 a.2.2.ffuse a.2.2.fsafe a.2.2.fnow a.2.2.fwait ([]:(List (Int×Bool))) _ p ?_)
  cases o with
  | x0 q w y z a0 =>
   try dsimp only at h
   obtain rfl:=Option.some.inj h
   exact pendH_sound TTok mix 2 (hs:=[]) [5,6,10,11,12,7,8,9] (by kernel_rfl) (by kernel_rfl) (by kernel_rfl) .nil
  | x1 a1 a2 a3 a4 =>
   try dsimp only at h
   obtain rfl:=Option.some.inj h
   exact pendH_sound TTok mix 4 (hs:=[]) [5,6,10,11,12,7,8,9] (by kernel_rfl) (by kernel_rfl) (by kernel_rfl) .nil
/- (*ringhall/disk.Disk).Flush -/
def G3 (n:Nat) (b:Gg):Option (Gg) :=
 (K3 n b).bind fun (a:(Bool×Gg)) =>
 if a.1=true then
  some (Gg.mk (cpyR a.2.fsafe 0 a.2.fsafe.length a.2.fnow) a.2.fnow ([]:List Gi) a.2.ffuse)
 else
  some a.2
theorem Zg (n:Nat) (b r:Gg) (h:G3 n b=some r):RetH Try.prog 35 [.ref 0 0] [.box [.srf 1,.srf 2,.srf 3,di b.ffuse],.row 5 1 (b.fsafe.map (eI .u8)),.row 5 1 (b.fnow.map (eI .u8)),.row 94 2 (b.fwait.map Ge)] (.tup []) [.box [.srf 4,.srf 5,.srf 6,di r.ffuse],.none,.none,.none,.row 5 1 (r.fsafe.map (eI .u8)),.row 5 1 (r.fnow.map (eI .u8)),.row 94 2 (r.fwait.map Ge)]:=by
 refine retH_run (n:=16) (fn:=Try.f35) (c:=bodyOf Try.f35) (by kernel_rfl) (by kernel_rfl) (by kernel_rfl) (by kernel_rfl) ?_
 have hF:KC 16 (FinH Try.prog Try.f35 [.box [.srf 1,.srf 2,.srf 3,di b.ffuse],.row 5 1 (b.fsafe.map (eI .u8)),.row 5 1 (b.fnow.map (eI .u8)),.row 94 2 (b.fwait.map Ge)] (.tup []) [.box [.srf 4,.srf 5,.srf 6,di r.ffuse],.none,.none,.none,.row 5 1 (r.fsafe.map (eI .u8)),.row 5 1 (r.fnow.map (eI .u8)),.row 94 2 (r.fwait.map Ge)]):=FinH.kc' (by kernel_rfl)
 unfold G3 at h
 obtain ⟨a,j,h⟩:=bind_some h
 by_cases g:a.1=true
 ·rw [if_pos g] at h
  obtain rfl:=Option.some.inj h
  exact pendH_sound TTok mix 7 (hs:=[.h [0,1,2,3] [] [.box [.srf 4,.srf 5,.srf 6,di a.2.ffuse],.none,.none,.none,.row 5 1 (a.2.fsafe.map (eI .u8)),.row 5 1 (a.2.fnow.map (eI .u8)),.row 94 2 (a.2.fwait.map Ge)] (.d (.v (.bool a.1))),.t true,.c,.c,.e 58 [13,14] (di ((Nat.min a.2.fnow.length (a.2.fsafe.length-0):Nat):Int)) [(13,.row 5 1 ((cpyR a.2.fsafe 0 a.2.fsafe.length a.2.fnow).map (eI .u8)))],.c,.tb 0 2 94 2]) [0,1,2,3,13,14,83] (by kernel_rfl) (by kernel_rfl) (by kernel_rfl) (.cons (Zs n b _ j) (.cons g (.cons (xcpR0 (P:=Try.prog) (T:=TT) (f:=(eI .u8)) (t:=42) (t':=42) (e:=5) (s:=1) (l:=13) (x:=(.tmp 7)) (y:=(.tmp 11)) (ti:=⟨1,1,.int .u8,[.i .u8]⟩) (L:=a.2.fsafe) (Y:=a.2.fnow) (l':=14) (by kernel_rfl) (by kernel_rfl) (fun _=>rfl)) (.cons (show 2+1≤4 by decide) .nil))))
 ·rw [if_neg g] at h
  obtain rfl:=Option.some.inj h
  exact pendH_sound TTok mix 4 (hs:=[.h [0,1,2,3] [] [.box [.srf 4,.srf 5,.srf 6,di a.2.ffuse],.none,.none,.none,.row 5 1 (a.2.fsafe.map (eI .u8)),.row 5 1 (a.2.fnow.map (eI .u8)),.row 94 2 (a.2.fwait.map Ge)] (.d (.v (.bool a.1))),.t false]) [0,1,2,3,13,14,15] (by kernel_rfl) (by kernel_rfl) (by kernel_rfl) (.cons (Zs n b _ j) (.cons (vf g) .nil))
/- ringhall/journal.word -/
def YX (n:Nat) (a:Int):Option ((List Int)) :=
 some ([(wi .u8 a),(wi .u8 (shrI .u32 a 8)),(wi .u8 (shrI .u32 a 16)),(wi .u8 (shrI .u32 a 24))])
theorem Jd (n:Nat) (a:Int) (r:(List Int)) (h:YX n a=some r):Ret Try.prog 36 [(eI .u32) a] ((eL (eI .u8)) r):=by
 refine ret_run (n:=15) (fn:=Try.f36) (c:=bodyOf Try.f36) (by kernel_rfl) (by kernel_rfl) (by kernel_rfl) (by kernel_rfl) ?_
 have hF:KC 15 (FinR Try.prog Try.f36 ((eL (eI .u8)) r)):=FinR.kc' (by kernel_rfl)
 unfold YX at h
 obtain rfl:=Option.some.inj h
 exact pend_sound TTok mix 5 (hs:=[.w ([(wi .u8 a),(wi .u8 (shrI .u32 a 8)),(wi .u8 (shrI .u32 a 16)),(wi .u8 (shrI .u32 a 24))].map (eI .u8))]) (by kernel_rfl) (by kernel_rfl) (by kernel_rfl) (.cons (show (0:Int)≤8 by decide) (.cons (show (0:Int)≤16 by decide) (.cons (show (0:Int)≤24 by decide) (.cons (Eq.refl ([(wi .u8 a),(wi .u8 (shrI .u32 a 8)),(wi .u8 (shrI .u32 a 16)),(wi .u8 (shrI .u32 a 24))].map (eI .u8))) .nil))))
inductive Ux where
 | x0 (a:Bool)
def GbI:Ux→Ex
 | .x0 _=>.normal
def GbJ (a:(List Ga)) (b:Int) (e:Ga):Ux→PS
 | .x0 c=>⟨(dds 8 (.d (.sl (a.map Gb))::di (a.length:Int)::di b::(dds 21 [.d (.v (.bool c)),dd]))),[]⟩
def GbK (b:(List Ga)) (c:Int) (a:Ga)  : PS:=⟨(dd::dd::dd::dd::.ref 0 0::dd::dd::dd::.d (.sl (b.map Gb))::di (b.length:Int)::di c::(dds 23 [])),[.box [di a.fSector,.d (.sl (a.fData.map (eI .u8))),.d (.v (.bool a.fBarrier))]]⟩
def Uh (n:Nat) (b:(List Ga)) (c:Int) (a:Ga):Option Ux :=
 if a.fBarrier=true then
  some (.x0 false)
 else
  if a.fSector<0 then
   some (.x0 true)
  else
   if a.fSector≥256 then
    some (.x0 true)
   else
    some (.x0 ((a.fData.length:Int) != 64))
theorem GbL {Fi:Ex→PS→Prop} (hF:KC 34 Fi) (ks:List Fr) (n:Nat) (i:(List Ga)) (j:Int) (a:Ga)  (o:Ux) (h:Uh n i j a=some o) (q:RunE Try.prog 34 Fi ks (GbI o) (GbJ i j a o)):RunE Try.prog 34 Fi (.s (cL (cR (cB (cL (cR (cR (cP (cB (cR (cL (cR (cR (bodyOf Try.f54)))))))))))))::ks) .normal (GbK i j a):=by
 unfold Uh at h
 by_cases b:a.fBarrier=true
 ·rw [if_pos b] at h
  cases h
  exact pkk_sound TTok mix hF 1 (hs:=[.c,.t false,.c,.c,.c,.c,.c,.c]) (ts:=[]) (s:=[]) (l:=[8,9,10,32]) (by kernel_rfl) (by kernel_rfl) (.cons (bnf b) .nil) q
 ·rw [if_neg b] at h
  by_cases e:a.fSector<0
  ·rw [if_pos e] at h
   cases h
   exact pkk_sound TTok mix hF 1 (hs:=[.c,.t true,.c,.c,.c,.c,.t true,.c,.c,.c,.c,.c,.c,.c,.c,.c]) (ts:=[]) (s:=[]) (l:=[8,9,10,32]) (by kernel_rfl) (by kernel_rfl) (.cons (bnt (vf b)) (.cons (dt e) .nil)) q
  ·rw [if_neg e] at h
   by_cases g:a.fSector≥256
   ·rw [if_pos g] at h
    cases h
    exact pkk_sound TTok mix hF 1 (hs:=[.c,.t true,.c,.c,.c,.c,.t false,.c,.c,.c,.c,.c,.t true,.c,.c,.c,.c]) (ts:=[]) (s:=[]) (l:=[8,9,10,32]) (by kernel_rfl) (by kernel_rfl) (.cons (bnt (vf b)) (.cons (df e) (.cons (dt g) .nil))) q
   ·rw [if_neg g] at h
    cases h
    exact pkk_sound TTok mix hF 1 (hs:=[.c,.t true,.c,.c,.c,.c,.t false,.c,.c,.c,.c,.c,.t false,.c,.c,.c,.u (di (a.fData.length:Int)),.c,.c]) (ts:=[]) (s:=[]) (l:=[8,9,10,32]) (by kernel_rfl) (by kernel_rfl) (.cons (bnt (vf b)) (.cons (df e) (.cons (df g) (.cons (len_ob (f:=(eI .u8)) (l:=a.fData)) .nil)))) q
inductive Uy where
 | x0 (a:Int)
 | x1 
def GbM:Uy→Ex
 | .x0 _=>.ret
 | .x1  => .exit 0
def GbN (b:(List Ga)):Uy→PS
 | .x0 a=>⟨(dd::dd::di a::(dds 31 [])),[]⟩
 | .x1  => ⟨(dds 34 []),[]⟩
def GbO (a:(List Ga)) (b:Int):PS:=⟨(dds 8 (.d (.sl (a.map Gb))::di (a.length:Int)::di b::(dds 23 []))),[]⟩
def Z5 (n:Nat) (a:(List Ga)):Nat→Int→Option Uy
 | 0,_=>none
 | k+1,b =>
  if b<(a.length:Int) then
   (getI a b).bind fun (c:Ga) =>
   (Uh n a b c).bind fun d=>match d with
   | .x0 e =>
    if e=true then
     some (.x0 1)
    else
     Z5 n a k (wi .i64 (b+1))
  else
   some (.x1 )
theorem MT {Fi:Ex→PS→Prop} (hF:KC 34 Fi) (ks:List Fr) (n:Nat) (d:(List Ga))  : ∀ (k:Nat) (a:Int) (o:Uy),Z5 n d k a=some o→RunE Try.prog 34 Fi ks (GbM o) (GbN d o)→RunE Try.prog 34 Fi (.l k (cP (cB (cR (cL (cR (cR (bodyOf Try.f54)))))))::ks) .normal (GbO d a)
 | 0,a,o,h,q=>by rw [Z5] at h; cases h
 | k+1,a,o,h,q=>by
  rw [Z5] at h
  by_cases e:a<(d.length:Int)
  ·rw [if_pos e] at h
   obtain ⟨i,j,h⟩:=bind_some h
   obtain ⟨m,p,h⟩:=bind_some h
   refine pkk_sound TTok mix hF 11 (hs:=[.t true,.y (Gb i),.c]) (ts:=[]) (s:=[15]) (l:=[4,8,9,10]) (by kernel_rfl) (by kernel_rfl) (.cons (dt e) (.cons (getI_ob (f:=Gb) j) (.cons (show 0+3≤3 by decide) .nil))) (GbL hF (.s (cR (cR (cB (cL (cR (cR (cP (cB (cR (cL (cR (cR (bodyOf Try.f54)))))))))))))::.b 1::.s (cR (cR (cR (cP (cB (cR (cL (cR (cR (bodyOf Try.f54))))))))))::.l k (cP (cB (cR (cL (cR (cR (bodyOf Try.f54)))))))::ks) n d a i _ p ?_)
   cases m with
   | x0 r =>
    try dsimp only at h
    by_cases g:r=true
    ·rw [if_pos g] at h
     cases h
     exact pkk_sound TTok mix hF 7 (hs:=[.t true]) (ts:=[]) (s:=[]) (l:=[2]) (by kernel_rfl) (by kernel_rfl) (.cons g .nil) q
    ·rw [if_neg g] at h
     exact pkk_sound TTok mix hF 4 (hs:=[.t false]) (ts:=[]) (s:=[]) (l:=[8,9,10]) (by kernel_rfl) (by kernel_rfl) (.cons (vf g) .nil) (MT hF ks n d k (wi .i64 (a+1)) _ h q)
  ·rw [if_neg e] at h
   cases h
   exact pkk_sound TTok mix hF 8 (hs:=[.t false]) (ts:=[]) (s:=[]) (l:=[]) (by kernel_rfl) (by kernel_rfl) (.cons (df e) .nil) q
/- ringhall/lift.Right -/
def V3 (n:Nat) (a:(List Ga)):Option (Int) :=
 if (a.length:Int) > 100 then
  some 2
 else
  (Z5 n a n 0).bind fun b=>match b with
  | .x0 c =>
   some c
  | .x1  =>
   some 0
theorem GaJ (n:Nat) (a:(List Ga)) (r:Int) (h:V3 n a=some r):Ret Try.prog 54 [(eL Gb) a] ((eI .i64) r):=by
 refine ret_run (n:=34) (fn:=Try.f54) (c:=bodyOf Try.f54) (by kernel_rfl) (by kernel_rfl) (by kernel_rfl) (by kernel_rfl) ?_
 have hF:KC 34 (FinR Try.prog Try.f54 ((eI .i64) r)):=FinR.kc' (by kernel_rfl)
 unfold V3 at h
 by_cases e:(a.length:Int) > 100
 ·rw [if_pos e] at h
  obtain rfl:=Option.some.inj h
  exact pend_sound TTok mix 10 (hs:=[.u (di (a.length:Int)),.t true]) (by kernel_rfl) (by kernel_rfl) (by kernel_rfl) (.cons (len_ob (f:=Gb) (l:=a)) (.cons (dt e) .nil))
 ·rw [if_neg e] at h
  obtain ⟨g,i,h⟩:=bind_some h
  refine pkk_sound TTok mix hF 12 (hs:=[.u (di (a.length:Int)),.t false,.u (di (a.length:Int)),.n n]) (ts:=[]) (s:=[]) (l:=[8,9,10]) (by kernel_rfl) (by kernel_rfl) (.cons (len_ob (f:=Gb) (l:=a)) (.cons (df e) (.cons (len_ob (f:=Gb) (l:=a)) .nil))) (MT hF (.b 0::.s (cR (cR (cR (bodyOf Try.f54))))::[]) n a n 0 _ i ?_)
  cases g with
  | x0 j =>
   try dsimp only at h
   obtain rfl:=Option.some.inj h
   exact pend_sound TTok mix 2 (hs:=[]) (by kernel_rfl) (by kernel_rfl) (by kernel_rfl) .nil
  | x1  =>
   try dsimp only at h
   obtain rfl:=Option.some.inj h
   exact pend_sound TTok mix 4 (hs:=[]) (by kernel_rfl) (by kernel_rfl) (by kernel_rfl) .nil
inductive S9 where
 | x0 (a:Int)
 | x1 
def UI:S9→Ex
 | .x0 _=>.ret
 | .x1  => .exit 0
def UJ (b:(List Ga)) (c:(Ga→Option (Bool))) (e:FuncId) (f:(List PV)):S9→PS
 | .x0 a=>⟨(dd::dd::dd::dd::di a::(dds 14 [])),[]⟩
 | .x1  => ⟨(dds 19 []),[]⟩
def UK (a:(List Ga)) (f:(Ga→Option (Bool))) (b:FuncId) (c:(List PV)) (e:Int):PS:=⟨(.d (.sl (a.map Gb))::.d (.clo b c)::dd::dd::dd::dd::dd::di (a.length:Int)::di e::(dds 10 [])),[]⟩
def Gw (n:Nat) (b:(List Ga)) (c:(Ga→Option (Bool))):Nat→Int→Option S9
 | 0,_=>none
 | k+1,a =>
  if a<(b.length:Int) then
   (getI b a).bind fun (d:Ga) =>
   (c d).bind fun (e:(Bool)) =>
   if e=true then
    some (.x0 a)
   else
    Gw n b c k (wi .i64 (a+1))
  else
   some (.x1 )
theorem Ys {Fi:Ex→PS→Prop} (hF:KC 19 Fi) (ks:List Fr) (n:Nat) (b:(List Ga)) (c:(Ga→Option (Bool))) (e:FuncId) (g:(List PV)) (m:∀ (x0:Ga) (r:Bool),c x0=some r→Ret Try.prog e ([Gb x0]++g) (eB r)):∀ (k:Nat) (a:Int) (o:S9),Gw n b c k a=some o→RunE Try.prog 19 Fi ks (UI o) (UJ b c e g o)→RunE Try.prog 19 Fi (.l k (cP (cB (cR (cL (cR (bodyOf Try.f55))))))::ks) .normal (UK b c e g a)
 | 0,a,o,h,q=>by rw [Gw] at h; cases h
 | k+1,a,o,h,q=>by
  rw [Gw] at h
  by_cases d:a<(b.length:Int)
  ·rw [if_pos d] at h
   obtain ⟨i,u,h⟩:=bind_some h
   obtain ⟨p,v,h⟩:=bind_some h
   by_cases j:p=true
   ·rw [if_pos j] at h
    cases h
    exact pkk_sound TTok mix hF 19 (hs:=[.t true,.y (Gb i),.r (eB p),.t true]) (ts:=[]) (s:=[]) (l:=[4]) (by kernel_rfl) (by kernel_rfl) (.cons (dt d) (.cons (getI_ob (f:=Gb) u) (.cons (m i _ v) (.cons j .nil)))) q
   ·rw [if_neg j] at h
    exact pkk_sound TTok mix hF 16 (hs:=[.t true,.y (Gb i),.r (eB p),.t false]) (ts:=[]) (s:=[]) (l:=[0,1,7,8]) (by kernel_rfl) (by kernel_rfl) (.cons (dt d) (.cons (getI_ob (f:=Gb) u) (.cons (m i _ v) (.cons (vf j) .nil)))) (Ys hF ks n b c e g m k (wi .i64 (a+1)) _ h q)
  ·rw [if_neg d] at h
   cases h
   exact pkk_sound TTok mix hF 8 (hs:=[.t false]) (ts:=[]) (s:=[]) (l:=[]) (by kernel_rfl) (by kernel_rfl) (.cons (df d) .nil) q
/- slices.IndexFunc[[]ringhall/lift.Req,ringhall/lift.Req] -/
def KM (n:Nat) (a:(List Ga)) (b:(Ga→Option (Bool))):Option (Int) :=
 (Gw n a b n 0).bind fun c=>match c with
 | .x0 d =>
  some d
 | .x1  =>
  some (-1)
theorem VW (n:Nat) (a:(List Ga)) (e:(Ga→Option (Bool))) (g:FuncId) (i:List PV) (j:∀ (x0:Ga) (r:Bool),e x0=some r→Ret Try.prog g ([Gb x0]++i) (eB r)) (r:Int) (h:KM n a e=some r):Ret Try.prog 55 [(eL Gb) a,(.clo g i)] ((eI .i64) r):=by
 refine ret_run (n:=19) (fn:=Try.f55) (c:=bodyOf Try.f55) (by kernel_rfl) (by kernel_rfl) (by kernel_rfl) (by kernel_rfl) ?_
 have hF:KC 19 (FinR Try.prog Try.f55 ((eI .i64) r)):=FinR.kc' (by kernel_rfl)
 unfold KM at h
 obtain ⟨k,m,h⟩:=bind_some h
 refine pkk_sound TTok mix hF 7 (hs:=[.u (di (a.length:Int)),.n n]) (ts:=[]) (s:=[]) (l:=[0,1,7,8]) (by kernel_rfl) (by kernel_rfl) (.cons (len_ob (f:=Gb) (l:=a)) .nil) (Ys hF (.b 0::.s (cR (cR (bodyOf Try.f55)))::[]) n a e g i j n 0 _ m ?_)
 cases k with
 | x0 o =>
  try dsimp only at h
  obtain rfl:=Option.some.inj h
  exact pend_sound TTok mix 2 (hs:=[]) (by kernel_rfl) (by kernel_rfl) (by kernel_rfl) .nil
 | x1  =>
  try dsimp only at h
  obtain rfl:=Option.some.inj h
  exact pend_sound TTok mix 4 (hs:=[]) (by kernel_rfl) (by kernel_rfl) (by kernel_rfl) .nil
/- ringhall/lift.Order$1 -/
def Zh (n:Nat) (a:Ga):Option (Bool) :=
 some a.fBarrier
theorem Gb7 (n:Nat) (a:Ga) (r:Bool) (h:Zh n a=some r):Ret Try.prog 56 [Gb a] (eB r):=by
 refine ret_run (n:=5) (fn:=Try.f56) (c:=bodyOf Try.f56) (by kernel_rfl) (by kernel_rfl) (by kernel_rfl) (by kernel_rfl) ?_
 have hF:KC 5 (FinR Try.prog Try.f56 (eB r)):=FinR.kc' (by kernel_rfl)
 unfold Zh at h
 obtain rfl:=Option.some.inj h
 exact pend_sound TTok mix 5 (hs:=[.c]) (by kernel_rfl) (by kernel_rfl) (by kernel_rfl) .nil
/- math/bits.Len64 -/
def Uz (n:Nat) (a:Int):Option (Int) :=
 if a≥4294967296 then
  if (shrI .u64 a 32)≥65536 then
   if (shrI .u64 (shrI .u64 a 32) 16)≥256 then
    (getS (ByteArray.mk #[0,1,2,2,3,3,3,3,4,4,4,4,4,4,4,4,5,5,5,5,5,5,5,5,5,5,5,5,5,5,5,5,6,6,6,6,6,6,6,6,6,6,6,6,6,6,6,6,6,6,6,6,6,6,6,6,6,6,6,6,6,6,6,6,7,7,7,7,7,7,7,7,7,7,7,7,7,7,7,7,7,7,7,7,7,7,7,7,7,7,7,7,7,7,7,7,7,7,7,7,7,7,7,7,7,7,7,7,7,7,7,7,7,7,7,7,7,7,7,7,7,7,7,7,7,7,7,7,8,8,8,8,8,8,8,8,8,8,8,8,8,8,8,8,8,8,8,8,8,8,8,8,8,8,8,8,8,8,8,8,8,8,8,8,8,8,8,8,8,8,8,8,8,8,8,8,8,8,8,8,8,8,8,8,8,8,8,8,8,8,8,8,8,8,8,8,8,8,8,8,8,8,8,8,8,8,8,8,8,8,8,8,8,8,8,8,8,8,8,8,8,8,8,8,8,8,8,8,8,8,8,8,8,8,8,8,8,8,8,8,8,8,8,8,8,8,8,8,8,8,8,8,8,8,8,8]) (wi .u8 (shrI .u64 (shrI .u64 (shrI .u64 a 32) 16) 8))).bind fun (b:Int) =>
    some (wi .i64 ((wi .i64 ((wi .i64 (32+16))+8))+(wi .i64 b)))
   else
    (getS (ByteArray.mk #[0,1,2,2,3,3,3,3,4,4,4,4,4,4,4,4,5,5,5,5,5,5,5,5,5,5,5,5,5,5,5,5,6,6,6,6,6,6,6,6,6,6,6,6,6,6,6,6,6,6,6,6,6,6,6,6,6,6,6,6,6,6,6,6,7,7,7,7,7,7,7,7,7,7,7,7,7,7,7,7,7,7,7,7,7,7,7,7,7,7,7,7,7,7,7,7,7,7,7,7,7,7,7,7,7,7,7,7,7,7,7,7,7,7,7,7,7,7,7,7,7,7,7,7,7,7,7,7,8,8,8,8,8,8,8,8,8,8,8,8,8,8,8,8,8,8,8,8,8,8,8,8,8,8,8,8,8,8,8,8,8,8,8,8,8,8,8,8,8,8,8,8,8,8,8,8,8,8,8,8,8,8,8,8,8,8,8,8,8,8,8,8,8,8,8,8,8,8,8,8,8,8,8,8,8,8,8,8,8,8,8,8,8,8,8,8,8,8,8,8,8,8,8,8,8,8,8,8,8,8,8,8,8,8,8,8,8,8,8,8,8,8,8,8,8,8,8,8,8,8,8,8,8,8,8,8]) (wi .u8 (shrI .u64 (shrI .u64 a 32) 16))).bind fun (c:Int) =>
    some (wi .i64 ((wi .i64 (32+16))+(wi .i64 c)))
  else
   if (shrI .u64 a 32)≥256 then
    (getS (ByteArray.mk #[0,1,2,2,3,3,3,3,4,4,4,4,4,4,4,4,5,5,5,5,5,5,5,5,5,5,5,5,5,5,5,5,6,6,6,6,6,6,6,6,6,6,6,6,6,6,6,6,6,6,6,6,6,6,6,6,6,6,6,6,6,6,6,6,7,7,7,7,7,7,7,7,7,7,7,7,7,7,7,7,7,7,7,7,7,7,7,7,7,7,7,7,7,7,7,7,7,7,7,7,7,7,7,7,7,7,7,7,7,7,7,7,7,7,7,7,7,7,7,7,7,7,7,7,7,7,7,7,8,8,8,8,8,8,8,8,8,8,8,8,8,8,8,8,8,8,8,8,8,8,8,8,8,8,8,8,8,8,8,8,8,8,8,8,8,8,8,8,8,8,8,8,8,8,8,8,8,8,8,8,8,8,8,8,8,8,8,8,8,8,8,8,8,8,8,8,8,8,8,8,8,8,8,8,8,8,8,8,8,8,8,8,8,8,8,8,8,8,8,8,8,8,8,8,8,8,8,8,8,8,8,8,8,8,8,8,8,8,8,8,8,8,8,8,8,8,8,8,8,8,8,8,8,8,8,8]) (wi .u8 (shrI .u64 (shrI .u64 a 32) 8))).bind fun (d:Int) =>
    some (wi .i64 ((wi .i64 (32+8))+(wi .i64 d)))
   else
    (getS (ByteArray.mk #[0,1,2,2,3,3,3,3,4,4,4,4,4,4,4,4,5,5,5,5,5,5,5,5,5,5,5,5,5,5,5,5,6,6,6,6,6,6,6,6,6,6,6,6,6,6,6,6,6,6,6,6,6,6,6,6,6,6,6,6,6,6,6,6,7,7,7,7,7,7,7,7,7,7,7,7,7,7,7,7,7,7,7,7,7,7,7,7,7,7,7,7,7,7,7,7,7,7,7,7,7,7,7,7,7,7,7,7,7,7,7,7,7,7,7,7,7,7,7,7,7,7,7,7,7,7,7,7,8,8,8,8,8,8,8,8,8,8,8,8,8,8,8,8,8,8,8,8,8,8,8,8,8,8,8,8,8,8,8,8,8,8,8,8,8,8,8,8,8,8,8,8,8,8,8,8,8,8,8,8,8,8,8,8,8,8,8,8,8,8,8,8,8,8,8,8,8,8,8,8,8,8,8,8,8,8,8,8,8,8,8,8,8,8,8,8,8,8,8,8,8,8,8,8,8,8,8,8,8,8,8,8,8,8,8,8,8,8,8,8,8,8,8,8,8,8,8,8,8,8,8,8,8,8,8,8]) (wi .u8 (shrI .u64 a 32))).bind fun (e:Int) =>
    some (wi .i64 (32+(wi .i64 e)))
 else
  if a≥65536 then
   if (shrI .u64 a 16)≥256 then
    (getS (ByteArray.mk #[0,1,2,2,3,3,3,3,4,4,4,4,4,4,4,4,5,5,5,5,5,5,5,5,5,5,5,5,5,5,5,5,6,6,6,6,6,6,6,6,6,6,6,6,6,6,6,6,6,6,6,6,6,6,6,6,6,6,6,6,6,6,6,6,7,7,7,7,7,7,7,7,7,7,7,7,7,7,7,7,7,7,7,7,7,7,7,7,7,7,7,7,7,7,7,7,7,7,7,7,7,7,7,7,7,7,7,7,7,7,7,7,7,7,7,7,7,7,7,7,7,7,7,7,7,7,7,7,8,8,8,8,8,8,8,8,8,8,8,8,8,8,8,8,8,8,8,8,8,8,8,8,8,8,8,8,8,8,8,8,8,8,8,8,8,8,8,8,8,8,8,8,8,8,8,8,8,8,8,8,8,8,8,8,8,8,8,8,8,8,8,8,8,8,8,8,8,8,8,8,8,8,8,8,8,8,8,8,8,8,8,8,8,8,8,8,8,8,8,8,8,8,8,8,8,8,8,8,8,8,8,8,8,8,8,8,8,8,8,8,8,8,8,8,8,8,8,8,8,8,8,8,8,8,8,8]) (wi .u8 (shrI .u64 (shrI .u64 a 16) 8))).bind fun (f:Int) =>
    some (wi .i64 ((wi .i64 ((wi .i64 (0+16))+8))+(wi .i64 f)))
   else
    (getS (ByteArray.mk #[0,1,2,2,3,3,3,3,4,4,4,4,4,4,4,4,5,5,5,5,5,5,5,5,5,5,5,5,5,5,5,5,6,6,6,6,6,6,6,6,6,6,6,6,6,6,6,6,6,6,6,6,6,6,6,6,6,6,6,6,6,6,6,6,7,7,7,7,7,7,7,7,7,7,7,7,7,7,7,7,7,7,7,7,7,7,7,7,7,7,7,7,7,7,7,7,7,7,7,7,7,7,7,7,7,7,7,7,7,7,7,7,7,7,7,7,7,7,7,7,7,7,7,7,7,7,7,7,8,8,8,8,8,8,8,8,8,8,8,8,8,8,8,8,8,8,8,8,8,8,8,8,8,8,8,8,8,8,8,8,8,8,8,8,8,8,8,8,8,8,8,8,8,8,8,8,8,8,8,8,8,8,8,8,8,8,8,8,8,8,8,8,8,8,8,8,8,8,8,8,8,8,8,8,8,8,8,8,8,8,8,8,8,8,8,8,8,8,8,8,8,8,8,8,8,8,8,8,8,8,8,8,8,8,8,8,8,8,8,8,8,8,8,8,8,8,8,8,8,8,8,8,8,8,8,8]) (wi .u8 (shrI .u64 a 16))).bind fun (g:Int) =>
    some (wi .i64 ((wi .i64 (0+16))+(wi .i64 g)))
  else
   if a≥256 then
    (getS (ByteArray.mk #[0,1,2,2,3,3,3,3,4,4,4,4,4,4,4,4,5,5,5,5,5,5,5,5,5,5,5,5,5,5,5,5,6,6,6,6,6,6,6,6,6,6,6,6,6,6,6,6,6,6,6,6,6,6,6,6,6,6,6,6,6,6,6,6,7,7,7,7,7,7,7,7,7,7,7,7,7,7,7,7,7,7,7,7,7,7,7,7,7,7,7,7,7,7,7,7,7,7,7,7,7,7,7,7,7,7,7,7,7,7,7,7,7,7,7,7,7,7,7,7,7,7,7,7,7,7,7,7,8,8,8,8,8,8,8,8,8,8,8,8,8,8,8,8,8,8,8,8,8,8,8,8,8,8,8,8,8,8,8,8,8,8,8,8,8,8,8,8,8,8,8,8,8,8,8,8,8,8,8,8,8,8,8,8,8,8,8,8,8,8,8,8,8,8,8,8,8,8,8,8,8,8,8,8,8,8,8,8,8,8,8,8,8,8,8,8,8,8,8,8,8,8,8,8,8,8,8,8,8,8,8,8,8,8,8,8,8,8,8,8,8,8,8,8,8,8,8,8,8,8,8,8,8,8,8,8]) (wi .u8 (shrI .u64 a 8))).bind fun (h:Int) =>
    some (wi .i64 ((wi .i64 (0+8))+(wi .i64 h)))
   else
    (getS (ByteArray.mk #[0,1,2,2,3,3,3,3,4,4,4,4,4,4,4,4,5,5,5,5,5,5,5,5,5,5,5,5,5,5,5,5,6,6,6,6,6,6,6,6,6,6,6,6,6,6,6,6,6,6,6,6,6,6,6,6,6,6,6,6,6,6,6,6,7,7,7,7,7,7,7,7,7,7,7,7,7,7,7,7,7,7,7,7,7,7,7,7,7,7,7,7,7,7,7,7,7,7,7,7,7,7,7,7,7,7,7,7,7,7,7,7,7,7,7,7,7,7,7,7,7,7,7,7,7,7,7,7,8,8,8,8,8,8,8,8,8,8,8,8,8,8,8,8,8,8,8,8,8,8,8,8,8,8,8,8,8,8,8,8,8,8,8,8,8,8,8,8,8,8,8,8,8,8,8,8,8,8,8,8,8,8,8,8,8,8,8,8,8,8,8,8,8,8,8,8,8,8,8,8,8,8,8,8,8,8,8,8,8,8,8,8,8,8,8,8,8,8,8,8,8,8,8,8,8,8,8,8,8,8,8,8,8,8,8,8,8,8,8,8,8,8,8,8,8,8,8,8,8,8,8,8,8,8,8,8]) (wi .u8 a)).bind fun (i:Int) =>
    some (wi .i64 (0+(wi .i64 i)))
theorem GbA (n:Nat) (b r:Int) (h:Uz n b=some r):Ret Try.prog 83 [(eI .u64) b] ((eI .i64) r):=by
 refine ret_run (n:=25) (fn:=Try.f83) (c:=bodyOf Try.f83) (by kernel_rfl) (by kernel_rfl) (by kernel_rfl) (by kernel_rfl) ?_
 have hF:KC 25 (FinR Try.prog Try.f83 ((eI .i64) r)):=FinR.kc' (by kernel_rfl)
 unfold Uz at h
 by_cases a:b≥4294967296
 ·rw [if_pos a] at h
  by_cases e:(shrI .u64 b 32)≥65536
  ·rw [if_pos e] at h
   by_cases g:(shrI .u64 (shrI .u64 b 32) 16)≥256
   ·rw [if_pos g] at h
    obtain ⟨m,o,h⟩:=bind_some h
    obtain rfl:=Option.some.inj h
    exact pend_sound TTok mix 26 (hs:=[.t true,.t true,.t true,.l (.d (.v (.int .u8 m)))]) (by kernel_rfl) (by kernel_rfl) (by kernel_rfl) (.cons (dt a) (.cons (show (0:Int)≤32 by decide) (.cons (dt e) (.cons (show (0:Int)≤16 by decide) (.cons (dt g) (.cons (show (0:Int)≤8 by decide) (.cons (getS_ob o) .nil)))))))
   ·rw [if_neg g] at h
    obtain ⟨p,q,h⟩:=bind_some h
    obtain rfl:=Option.some.inj h
    exact pend_sound TTok mix 24 (hs:=[.t true,.t true,.t false,.l (.d (.v (.int .u8 p)))]) (by kernel_rfl) (by kernel_rfl) (by kernel_rfl) (.cons (dt a) (.cons (show (0:Int)≤32 by decide) (.cons (dt e) (.cons (show (0:Int)≤16 by decide) (.cons (df g) (.cons (getS_ob q) .nil))))))
  ·rw [if_neg e] at h
   by_cases i:(shrI .u64 b 32)≥256
   ·rw [if_pos i] at h
    obtain ⟨s,u,h⟩:=bind_some h
    obtain rfl:=Option.some.inj h
    exact pend_sound TTok mix 24 (hs:=[.t true,.t false,.t true,.l (.d (.v (.int .u8 s)))]) (by kernel_rfl) (by kernel_rfl) (by kernel_rfl) (.cons (dt a) (.cons (show (0:Int)≤32 by decide) (.cons (df e) (.cons (dt i) (.cons (show (0:Int)≤8 by decide) (.cons (getS_ob u) .nil))))))
   ·rw [if_neg i] at h
    obtain ⟨w,x,h⟩:=bind_some h
    obtain rfl:=Option.some.inj h
    exact pend_sound TTok mix 22 (hs:=[.t true,.t false,.t false,.l (.d (.v (.int .u8 w)))]) (by kernel_rfl) (by kernel_rfl) (by kernel_rfl) (.cons (dt a) (.cons (show (0:Int)≤32 by decide) (.cons (df e) (.cons (df i) (.cons (getS_ob x) .nil)))))
 ·rw [if_neg a] at h
  by_cases f:b≥65536
  ·rw [if_pos f] at h
   by_cases j:(shrI .u64 b 16)≥256
   ·rw [if_pos j] at h
    obtain ⟨y,z,h⟩:=bind_some h
    obtain rfl:=Option.some.inj h
    exact pend_sound TTok mix 24 (hs:=[.t false,.t true,.t true,.l (.d (.v (.int .u8 y)))]) (by kernel_rfl) (by kernel_rfl) (by kernel_rfl) (.cons (df a) (.cons (dt f) (.cons (show (0:Int)≤16 by decide) (.cons (dt j) (.cons (show (0:Int)≤8 by decide) (.cons (getS_ob z) .nil))))))
   ·rw [if_neg j] at h
    obtain ⟨a0,a1,h⟩:=bind_some h
    obtain rfl:=Option.some.inj h
    exact pend_sound TTok mix 22 (hs:=[.t false,.t true,.t false,.l (.d (.v (.int .u8 a0)))]) (by kernel_rfl) (by kernel_rfl) (by kernel_rfl) (.cons (df a) (.cons (dt f) (.cons (show (0:Int)≤16 by decide) (.cons (df j) (.cons (getS_ob a1) .nil)))))
  ·rw [if_neg f] at h
   by_cases k:b≥256
   ·rw [if_pos k] at h
    obtain ⟨a2,a3,h⟩:=bind_some h
    obtain rfl:=Option.some.inj h
    exact pend_sound TTok mix 22 (hs:=[.t false,.t false,.t true,.l (.d (.v (.int .u8 a2)))]) (by kernel_rfl) (by kernel_rfl) (by kernel_rfl) (.cons (df a) (.cons (df f) (.cons (dt k) (.cons (show (0:Int)≤8 by decide) (.cons (getS_ob a3) .nil)))))
   ·rw [if_neg k] at h
    obtain ⟨a4,a5,h⟩:=bind_some h
    obtain rfl:=Option.some.inj h
    exact pend_sound TTok mix 20 (hs:=[.t false,.t false,.t false,.l (.d (.v (.int .u8 a4)))]) (by kernel_rfl) (by kernel_rfl) (by kernel_rfl) (.cons (df a) (.cons (df f) (.cons (df k) (.cons (getS_ob a5) .nil))))
/- math/bits.Len -/
def Xx (n:Nat) (a:Int):Option (Int) :=
 (Uz n a).bind fun (b:(Int)) =>
 some b
theorem MU (n:Nat) (a r:Int) (h:Xx n a=some r):Ret Try.prog 71 [(eI .u64) a] ((eI .i64) r):=by
 refine ret_run (n:=8) (fn:=Try.f71) (c:=bodyOf Try.f71) (by kernel_rfl) (by kernel_rfl) (by kernel_rfl) (by kernel_rfl) ?_
 have hF:KC 8 (FinR Try.prog Try.f71 ((eI .i64) r)):=FinR.kc' (by kernel_rfl)
 unfold Xx at h
 obtain ⟨b,d,h⟩:=bind_some h
 obtain rfl:=Option.some.inj h
 exact pend_sound TTok mix 8 (hs:=[.c,.r ((eI .i64) b)]) (by kernel_rfl) (by kernel_rfl) (by kernel_rfl) (.cons (GbA n a _ d) .nil)
inductive SN where
 | x0 (a:(List Ga))
def X2:SN→Ex
 | .x0 _=>.exit 2
def X3 (a b:Int) (h:(Ga→Ga→Option (Int))) (c:Int) (e:FuncId) (f:(List PV)):SN→PS
 | .x0 g=>⟨(.srf 1::di a::di b::.d (.clo e f)::dd::dd::dd::dd::di c::(dds 44 [])),[.gh 0 (.srf 1),.row 86 3 (g.map Gb)]⟩
def X4 (a b:Int) (i:(Ga→Ga→Option (Int))) (c:Int) (e:FuncId) (f:(List PV)) (g:Int) (h:(List Ga)):PS:=⟨(.srf 1::di a::di b::.d (.clo e f)::dd::dd::dd::dd::di c::di g::(dds 43 [])),[.gh 0 (.srf 1),.row 86 3 (h.map Gb)]⟩
def GJ (n:Nat) (d f:Int) (e:(Ga→Ga→Option (Int))) (g:Int):Nat→Int→(List Ga)→Option SN
 | 0,_,_=>none
 | k+1,a,b =>
  if a > d then
   if 0≤a∧(a).toNat<b.length then
    (b[(a).toNat]?).bind fun (h:Ga) =>
    if 0≤(wi .i64 (a-1))∧((wi .i64 (a-1))).toNat<b.length then
     (b[((wi .i64 (a-1))).toNat]?).bind fun (i:Ga) =>
     (e h i).bind fun (j:(Int)) =>
     if j<0 then
      if 0≤(wi .i64 (a-1))∧((wi .i64 (a-1))).toNat<b.length then
       (b[((wi .i64 (a-1))).toNat]?).bind fun (c:Ga) =>
       if 0≤a∧(a).toNat<b.length then
        (b[(a).toNat]?).bind fun (l:Ga) =>
        if 0≤a∧(a).toNat<b.length then
         (b[(a).toNat]?).bind fun (m:Ga) =>
         if 0≤(wi .i64 (a-1))∧((wi .i64 (a-1))).toNat<(b.set (a).toNat c).length then
          ((b.set (a).toNat c)[((wi .i64 (a-1))).toNat]?).bind fun (o:Ga) =>
          GJ n d f e g k (wi .i64 (a-1)) ((b.set (a).toNat c).set ((wi .i64 (a-1))).toNat l)
         else none
        else none
       else none
      else none
     else
      some (.x0 b)
    else none
   else none
  else
   some (.x0 b)
theorem Z0 {Fi:Ex→PS→Prop} (hF:KC 53 Fi) (ks:List Fr) (n:Nat) (g m:Int) (i:(Ga→Ga→Option (Int))) (u:Int) (x:FuncId) (a0:(List PV)) (a6:∀ (x0:Ga) (x1:Ga) (r:Int),i x0 x1=some r→Ret Try.prog x ([Gb x0,Gb x1]++a0) ((eI .i64) r)):∀ (k:Nat) (a:Int) (b:(List Ga)) (o:SN),GJ n g m i u k a b=some o→RunE Try.prog 53 Fi ks (X2 o) (X3 g m i u x a0 o)→RunE Try.prog 53 Fi (.l k (cP (cB (cR (cB (cL (cR (cP (cB (cR (bodyOf Try.f74))))))))))::ks) .normal (X4 g m i u x a0 a b)
 | 0,a,b,o,h,q=>by rw [GJ] at h; cases h
 | k+1,a,b,o,h,q=>by
  rw [GJ] at h
  by_cases j:a > g
  ·rw [if_pos j] at h
   by_cases a1:0≤a∧(a).toNat<b.length
   ·rw [if_pos a1] at h
    obtain ⟨a2,b2,h⟩:=bind_some h
    by_cases a3:0≤(wi .i64 (a-1))∧((wi .i64 (a-1))).toNat<b.length
    ·rw [if_pos a3] at h
     obtain ⟨a4,b3,h⟩:=bind_some h
     obtain ⟨a7,b4,h⟩:=bind_some h
     by_cases a5:a7<0
     ·rw [if_pos a5] at h
      by_cases a8:0≤(wi .i64 (a-1))∧((wi .i64 (a-1))).toNat<b.length
      ·rw [if_pos a8] at h
       obtain ⟨d,b5,h⟩:=bind_some h
       by_cases a9:0≤a∧(a).toNat<b.length
       ·rw [if_pos a9] at h
        obtain ⟨e,b6,h⟩:=bind_some h
        by_cases b0:0≤a∧(a).toNat<b.length
        ·rw [if_pos b0] at h
         obtain ⟨b7,b8,h⟩:=bind_some h
         by_cases b1:0≤(wi .i64 (a-1))∧((wi .i64 (a-1))).toNat<(b.set (a).toNat d).length
         ·rw [if_pos b1] at h
          obtain ⟨b9,c0,h⟩:=bind_some h
          exact pkk_sound TTok mix hF 11 (hs:=[.t true,.c,.c,.c,.c,.y (Gb a2),.c,.c,.c,.c,.c,.y (Gb a4),.c,.r ((eI .i64) a7),.c,.t true,.y (Gb d),.y (Gb e),.w ((b.set (a).toNat d).map Gb),.y (Gb b7),.w (((b.set (a).toNat d).set ((wi .i64 (a-1))).toNat e).map Gb),.y (Gb b9)]) (ts:=[]) (s:=[0,1]) (l:=[0,1,2,3,8,9]) (by kernel_rfl) (by kernel_rfl) (.cons (dt j) (.cons (idx_ob (f:=Gb) a1) (.cons (get_ob (f:=Gb) b2) (.cons (idx_ob (f:=Gb) a3) (.cons (get_ob (f:=Gb) b3) (.cons (a6 a2 a4 _ b4) (.cons (dt a5) (.cons (idx_ob (f:=Gb) a8) (.cons (get_ob (f:=Gb) b5) (.cons (idx_ob (f:=Gb) a9) (.cons (get_ob (f:=Gb) b6) (.cons (idx_ob (f:=Gb) b0) (.cons (get_ob (f:=Gb) b8) (.cons (Eq.refl (pcells (.agg [.v (.int .i64 d.fSector),.sl (d.fData.map (eI .u8)),.v (.bool d.fBarrier)]))) (.cons (set_ob (f:=Gb) (l:=b) (k:=(a).toNat) (z:=d) (p:=.agg [.v (.int .i64 d.fSector),.sl (d.fData.map (eI .u8)),.v (.bool d.fBarrier)]) rfl) (.cons (idx_ob (f:=Gb) b1) (.cons (get_ob (f:=Gb) c0) (.cons (Eq.refl (pcells (.agg [.v (.int .i64 e.fSector),.sl (e.fData.map (eI .u8)),.v (.bool e.fBarrier)]))) (.cons (set_ob (f:=Gb) (l:=(b.set (a).toNat d)) (k:=((wi .i64 (a-1))).toNat) (z:=e) (p:=.agg [.v (.int .i64 e.fSector),.sl (e.fData.map (eI .u8)),.v (.bool e.fBarrier)]) rfl) .nil))))))))))))))))))) (Z0 hF ks n g m i u x a0 a6 k (wi .i64 (a-1)) ((b.set (a).toNat d).set ((wi .i64 (a-1))).toNat e) _ h q)
         ·rw [if_neg b1] at h; cases h
        ·rw [if_neg b0] at h; cases h
       ·rw [if_neg a9] at h; cases h
      ·rw [if_neg a8] at h; cases h
     ·rw [if_neg a5] at h
      cases h
      exact pkk_sound TTok mix hF 8 (hs:=[.t true,.c,.c,.c,.c,.y (Gb a2),.c,.c,.c,.c,.c,.y (Gb a4),.c,.r ((eI .i64) a7),.c,.t false]) (ts:=[]) (s:=[0,1]) (l:=[0,1,2,3,8]) (by kernel_rfl) (by kernel_rfl) (.cons (dt j) (.cons (idx_ob (f:=Gb) a1) (.cons (get_ob (f:=Gb) b2) (.cons (idx_ob (f:=Gb) a3) (.cons (get_ob (f:=Gb) b3) (.cons (a6 a2 a4 _ b4) (.cons (df a5) .nil))))))) q
    ·rw [if_neg a3] at h; cases h
   ·rw [if_neg a1] at h; cases h
  ·rw [if_neg j] at h
   cases h
   exact pkk_sound TTok mix hF 8 (hs:=[.t false,.c,.c,.c,.c,.c,.c,.c,.c,.c,.c,.c,.c]) (ts:=[]) (s:=[0,1]) (l:=[0,1,2,3,8]) (by kernel_rfl) (by kernel_rfl) (.cons (df j) .nil) q
inductive SP where
 | x0 (a:(List Ga))
def X5:SP→Ex
 | .x0 _=>.exit 0
def X6 (b c:Int) (d:(Ga→Ga→Option (Int))) (e:FuncId) (f:(List PV)):SP→PS
 | .x0 a=>⟨(dds 53 []),[.gh 0 (.srf 1),.row 86 3 (a.map Gb)]⟩
def X7 (a b:Int) (h:(Ga→Ga→Option (Int))) (c:FuncId) (e:(List PV)) (f:Int) (g:(List Ga)):PS:=⟨(.srf 1::di a::di b::.d (.clo c e)::dd::dd::dd::dd::di f::(dds 44 [])),[.gh 0 (.srf 1),.row 86 3 (g.map Gb)]⟩
def GK (n:Nat) (c b:Int) (d:(Ga→Ga→Option (Int))):Nat→Int→(List Ga)→Option SP
 | 0,_,_=>none
 | k+1,a,e =>
  if a<b then
   (GJ n c b d a n a e).bind fun f=>match f with
   | .x0 g =>
    GK n c b d k (wi .i64 (a+1)) g
  else
   some (.x0 e)
theorem Z1 {Fi:Ex→PS→Prop} (hF:KC 53 Fi) (ks:List Fr) (n:Nat) (e c:Int) (d:(Ga→Ga→Option (Int))) (f:FuncId) (g:(List PV)) (m:∀ (x0:Ga) (x1:Ga) (r:Int),d x0 x1=some r→Ret Try.prog f ([Gb x0,Gb x1]++g) ((eI .i64) r)):∀ (k:Nat) (a:Int) (i:(List Ga)) (o:SP),GK n e c d k a i=some o→RunE Try.prog 53 Fi ks (X5 o) (X6 e c d f g o)→RunE Try.prog 53 Fi (.l k (cP (cB (cR (bodyOf Try.f74))))::ks) .normal (X7 e c d f g a i)
 | 0,a,i,o,h,q=>by rw [GK] at h; cases h
 | k+1,a,i,o,h,q=>by
  rw [GK] at h
  by_cases j:a<c
  ·rw [if_pos j] at h
   obtain ⟨p,u,h⟩:=bind_some h
   refine pkk_sound TTok mix hF 12 (hs:=[.t true,.n n]) (ts:=[]) (s:=[0,1]) (l:=[0,1,2,3,8,9]) (by kernel_rfl) (by kernel_rfl) (.cons (dt j) .nil) (Z0 hF (.b 2::.b 1::.s (cR (cR (cP (cB (cR (bodyOf Try.f74))))))::.l k (cP (cB (cR (bodyOf Try.f74))))::ks) n e c d a f g m n a i _ u ?_)
   cases p with
   | x0 v =>
    try dsimp only at h
    exact pkk_sound TTok mix hF 3 (hs:=[]) (ts:=[]) (s:=[0,1]) (l:=[0,1,2,3,8]) (by kernel_rfl) (by kernel_rfl) .nil (Z1 hF ks n e c d f g m k (wi .i64 (a+1)) v _ h q)
  ·rw [if_neg j] at h
   cases h
   exact pkk_sound TTok mix hF 8 (hs:=[.t false]) (ts:=[]) (s:=[0,1]) (l:=[]) (by kernel_rfl) (by kernel_rfl) (.cons (df j) .nil) q
/- slices.insertionSortCmpFunc[ringhall/lift.Req] -/
def Sv (n:Nat) (b:(List Ga)) (a c:Int) (d:(Ga→Ga→Option (Int))):Option ((List Ga)) :=
 (GK n a c d n (wi .i64 (a+1)) b).bind fun e=>match e with
 | .x0 f =>
  some f
end Go.Proofs.Ytgdhhaddfllkaaa.pv
