/- What the functions compute, as functions over plain data, with their contracts: written by gen.py. -/
import Derived.Test.YtofjjaagjkbeaaaGreatProg
import Derived.Test.YtofjjaagjkbeaaaGreatQr
import Derived.Test.YtofjjaagjkbeaaaGreatShelf
import Derived.Test.YtofjjaagjkbeaaaGreatSall
set_option maxRecDepth 100000
set_option linter.all false
namespace Go.Proofs.YtofjjaagjkbeaaaGreat.pv
open Go.RowKit
abbrev di (x:Int):FV:=.d (.v (.int .i64 x))
def dds (n:Nat) (l:List FV):List FV:=List.replicate n dd++l
def TT:List TI:=[
⟨1,0,.oth,[]⟩,
⟨1,8,.oth,[.nf]⟩,
⟨1,8,.int .i64,[.i .i64]⟩,
⟨1,8,.int .i64,[.i .i64]⟩,
⟨1,1,.bool,[.b]⟩,
⟨1,1,.int .u8,[.i .u8]⟩,
⟨1,1,.int .u8,[.i .u8]⟩,
⟨4,24,.st [(0,2),(1,3),(2,4),(3,6)],[.i .i64,.i .i64,.b,.i .u8]⟩,
⟨4,24,.st [(0,2),(1,3),(2,4),(3,6)],[.i .i64,.i .i64,.b,.i .u8]⟩,
⟨1,16,.str,[.s]⟩,
⟨1,16,.str,[.s]⟩,
⟨1,16,.str,[.s]⟩,
⟨1,8,.int .u64,[.i .u64]⟩,
⟨2,24,.st [(0,9),(1,12)],[.s,.i .u64]⟩,
⟨2,24,.st [(0,9),(1,12)],[.s,.i .u64]⟩,
⟨1,8,.ptr 160,[.np]⟩,
⟨1,8,.ptr 163,[.np]⟩,
⟨1,8,.ptr 170,[.np]⟩,
⟨1,8,.st [(0,17)],[.np]⟩,
⟨1,8,.st [(0,17)],[.np]⟩,
⟨1,16,.oth,[.ni]⟩,
⟨1,4,.int .i32,[.i .i32]⟩,
⟨1,24,.sl 38,[.sl]⟩,
⟨1,8,.ptr 62,[.np]⟩,
⟨1,8,.int .i64,[.i .i64]⟩,
⟨1,0,.oth,[]⟩,
⟨1,8,.oth,[.nf]⟩,
⟨1,8,.ptr 65,[.np]⟩,
⟨1,0,.oth,[]⟩,
⟨1,8,.oth,[.nf]⟩,
⟨1,8,.oth,[.nf]⟩,
⟨1,8,.ptr 56,[.np]⟩,
⟨1,8,.oth,[.nf]⟩,
⟨1,8,.ptr 51,[.np]⟩,
⟨1,8,.oth,[.nf]⟩,
⟨1,24,.sl 5,[.sl]⟩,
⟨1,24,.sl 4,[.sl]⟩,
⟨4,64,.st [(0,3),(1,3),(2,35),(3,36)],[.i .i64,.i .i64,.sl,.sl]⟩,
⟨4,64,.st [(0,3),(1,3),(2,35),(3,36)],[.i .i64,.i .i64,.sl,.sl]⟩,
⟨1,8,.oth,[.nf]⟩,
⟨1,8,.oth,[.nf]⟩,
⟨1,0,.oth,[]⟩,
⟨1,8,.oth,[.nf]⟩,
⟨1,0,.oth,[]⟩,
⟨1,8,.oth,[.nf]⟩,
⟨1,8,.oth,[.nf]⟩,
⟨1,24,.sl 3,[.sl]⟩,
⟨1,8,.oth,[.nf]⟩,
⟨1,8,.oth,[.nf]⟩,
⟨1,24,.sl 86,[.sl]⟩,
⟨4,48,.st [(0,3),(1,3),(2,3),(3,49)],[.i .i64,.i .i64,.i .i64,.sl]⟩,
⟨4,48,.st [(0,3),(1,3),(2,3),(3,49)],[.i .i64,.i .i64,.i .i64,.sl]⟩,
⟨1,8,.oth,[.nm]⟩,
⟨1,8,.oth,[.nm]⟩,
⟨1,8,.oth,[.nm]⟩,
⟨6,48,.st [(0,33),(1,3),(2,3),(3,52),(4,53),(5,54)],[.np,.i .i64,.i .i64,.nm,.nm,.nm]⟩,
⟨6,48,.st [(0,33),(1,3),(2,3),(3,52),(4,53),(5,54)],[.np,.i .i64,.i .i64,.nm,.nm,.nm]⟩,
⟨1,8,.oth,[.nf]⟩,
⟨1,8,.oth,[.nf]⟩,
⟨1,8,.oth,[.nf]⟩,
⟨1,24,.sl 84,[.sl]⟩,
⟨4,80,.st [(0,35),(1,35),(2,60),(3,3)],[.sl,.sl,.sl,.i .i64]⟩,
⟨4,80,.st [(0,35),(1,35),(2,60),(3,3)],[.sl,.sl,.sl,.i .i64]⟩,
⟨1,24,.sl 69,[.sl]⟩,
⟨3,40,.st [(0,23),(1,3),(2,63)],[.np,.i .i64,.sl]⟩,
⟨3,40,.st [(0,23),(1,3),(2,63)],[.np,.i .i64,.sl]⟩,
⟨1,8,.oth,[.nf]⟩,
⟨1,8,.oth,[.nf]⟩,
⟨3,40,.st [(0,3),(1,35),(2,4)],[.i .i64,.sl,.b]⟩,
⟨3,40,.st [(0,3),(1,35),(2,4)],[.i .i64,.sl,.b]⟩,
⟨1,8,.oth,[.nf]⟩,
⟨1,8,.oth,[.nf]⟩,
⟨1,0,.oth,[]⟩,
⟨1,8,.oth,[.nf]⟩,
⟨1,8,.oth,[.nf]⟩,
⟨1,8,.oth,[.nf]⟩,
⟨1,8,.oth,[.nf]⟩,
⟨1,8,.oth,[.nf]⟩,
⟨1,8,.oth,[.nf]⟩,
⟨1,0,.oth,[]⟩,
⟨1,8,.oth,[.nf]⟩,
⟨1,8,.oth,[.nf]⟩,
⟨1,8,.oth,[.nf]⟩,
⟨2,32,.st [(0,3),(1,35)],[.i .i64,.sl]⟩,
⟨2,32,.st [(0,3),(1,35)],[.i .i64,.sl]⟩,
⟨2,24,.st [(0,3),(1,9)],[.i .i64,.s]⟩,
⟨2,24,.st [(0,3),(1,9)],[.i .i64,.s]⟩,
⟨1,8,.oth,[.nf]⟩,
⟨1,8,.oth,[.np]⟩,
⟨1,8,.int .u64,[.i .u64]⟩,
⟨3,24,.st [(0,17),(1,88),(2,89)],[.np,.np,.i .u64]⟩,
⟨3,24,.st [(0,17),(1,88),(2,89)],[.np,.np,.i .u64]⟩,
⟨1,8,.oth,[.nf]⟩,
⟨1,8,.oth,[.nf]⟩,
⟨1,8,.oth,[.nf]⟩,
⟨1,8,.oth,[.nf]⟩,
⟨1,8,.int .u64,[.i .u64]⟩,
⟨1,8,.oth,[.nf]⟩,
⟨2,16,.st [(0,75),(1,93)],[.nf,.nf]⟩,
⟨2,16,.st [(0,75),(1,93)],[.nf,.nf]⟩,
⟨1,8,.oth,[.nf]⟩,
⟨1,8,.oth,[.nf]⟩,
⟨1,8,.oth,[.nf]⟩,
⟨1,8,.oth,[.nf]⟩,
⟨1,8,.st [(0,17)],[.np]⟩,
⟨1,8,.st [(0,17)],[.np]⟩,
⟨1,8,.ptr 172,[.np]⟩,
⟨1,8,.oth,[.nf]⟩,
⟨1,4,.int .u32,[.i .u32]⟩,
⟨1,8,.oth,[.nf]⟩,
⟨1,8,.int .u64,[.i .u64]⟩,
⟨1,8,.oth,[.nf]⟩,
⟨1,8,.int .i64,[.i .i64]⟩,
⟨1,0,.oth,[]⟩,
⟨1,8,.oth,[.nf]⟩,
⟨1,8,.oth,[.nf]⟩,
⟨1,8,.oth,[.nf]⟩,
⟨1,8,.oth,[.nf]⟩,
⟨1,8,.oth,[.nf]⟩,
⟨1,8,.int .i64,[.i .i64]⟩,
⟨1,0,.oth,[]⟩,
⟨1,8,.oth,[.nf]⟩,
⟨1,8,.oth,[.nf]⟩,
⟨1,8,.oth,[.nf]⟩,
⟨1,8,.oth,[.nf]⟩,
⟨1,0,.oth,[]⟩,
⟨1,8,.oth,[.nf]⟩,
⟨1,8,.oth,[.nf]⟩,
⟨1,8,.ptr 130,[.np]⟩,
⟨2,32,.st [(0,128),(1,35)],[.np,.sl]⟩,
⟨2,32,.st [(0,128),(1,35)],[.np,.sl]⟩,
⟨1,8,.oth,[.nf]⟩,
⟨1,16,.oth,[.ni]⟩,
⟨1,16,.oth,[.ni]⟩,
⟨1,0,.oth,[]⟩,
⟨1,8,.oth,[.nf]⟩,
⟨1,8,.int .u64,[.i .u64]⟩,
⟨1,8,.oth,[.nf]⟩,
⟨1,8,.oth,[.nf]⟩,
⟨1,8,.oth,[.nf]⟩,
⟨1,8,.ptr 3,[.np]⟩,
⟨1,8,.oth,[.nf]⟩,
⟨1,8,.int .u64,[.i .u64]⟩,
⟨1,8,.oth,[.nf]⟩,
⟨1,8,.oth,[.nf]⟩,
⟨1,8,.oth,[.nf]⟩,
⟨1,8,.oth,[.nf]⟩,
⟨1,0,.oth,[]⟩,
⟨1,8,.oth,[.nf]⟩,
⟨1,0,.oth,[]⟩,
⟨1,8,.oth,[.nf]⟩,
⟨1,8,.ptr 5,[.np]⟩,
⟨1,8,.ptr 136,[.np]⟩,
⟨1,0,.oth,[]⟩,
⟨1,8,.oth,[.nf]⟩,
⟨1,8,.ptr 142,[.np]⟩,
⟨1,8,.oth,[.nf]⟩,
⟨1,8,.oth,[.nf]⟩,
⟨1,8,.oth,[.nf]⟩,
⟨4,40,.st [(0,17),(1,17),(2,17),(3,9)],[.np,.np,.np,.s]⟩,
⟨4,40,.st [(0,17),(1,17),(2,17),(3,9)],[.np,.np,.np,.s]⟩,
⟨0,0,.arr 0 16,[]⟩,
⟨0,0,.st [(0,161)],[]⟩,
⟨0,0,.st [(0,161)],[]⟩,
⟨1,1,.int .u8,[.i .u8]⟩,
⟨1,1,.int .u8,[.i .u8]⟩,
⟨1,8,.oth,[.nf]⟩,
⟨1,4,.int .i32,[.i .i32]⟩,
⟨1,4,.int .i32,[.i .i32]⟩,
⟨11,48,.st [(0,12),(1,12),(2,108),(3,164),(4,5),(5,5),(6,165),(7,166),(8,151),(9,167),(10,168)],[.i .u64,.i .u64,.i .u32,.i .u8,.i .u8,.i .u8,.i .u8,.nf,.np,.i .i32,.i .i32]⟩,
⟨11,48,.st [(0,12),(1,12),(2,108),(3,164),(4,5),(5,5),(6,165),(7,166),(8,151),(9,167),(10,168)],[.i .u64,.i .u64,.i .u32,.i .u8,.i .u8,.i .u8,.i .u8,.nf,.np,.i .i32,.i .i32]⟩,
⟨2,24,.st [(0,9),(1,165)],[.s,.i .u8]⟩,
⟨2,24,.st [(0,9),(1,165)],[.s,.i .u8]⟩]
theorem TTok:TOk Tryz.prog TT:=by unfold TOk; kernel_rfl
theorem mix:Tryz.prog.follows .mixedOrders=true:=by kernel_rfl
structure Gm where
 fKind:Int
 fN:Int
 fData:(List Int)
 fKept:(List Bool)
def Gw (x:Gm):PV:=.agg [.v (.int .i64 x.fKind),.v (.int .i64 x.fN),.sl (x.fData.map (eI .u8)),.sl (x.fKept.map eB)]
structure Gk where
 fn:Int
 fdata:(List Int)
def Ge (x:Gk):PV:=.agg [.v (.int .i64 x.fn),.sl (x.fdata.map (eI .u8))]
structure Gf where
 fsafe:(List Int)
 fnow:(List Int)
 fwait:(List Gk)
 ffuse:Int
def Jc (x:Gf):PV:=.agg [.sl (x.fsafe.map (eI .u8)),.sl (x.fnow.map (eI .u8)),.sl (x.fwait.map Ge),.v (.int .i64 x.ffuse)]
structure Gd where
 fn:Int
 fdata:(List Int)
 fdirty:Bool
def Ga (x:Gd):PV:=.agg [.v (.int .i64 x.fn),.sl (x.fdata.map (eI .u8)),.v (.bool x.fdirty)]
structure Gh where
 fd:Unit
 fslots:Int
 fl:(List Gd)
structure Gi where
 fN:Int
 fData:ByteArray
def Gc (x:Gi):PV:=.agg [.v (.int .i64 x.fN),.v (.string x.fData)]
structure Gb where
 fSectors:Int
 fMark:Int
 fFuse:Int
 fAll:(List Gi)
def Jb (x:Gb):PV:=.agg [.v (.int .i64 x.fSectors),.v (.int .i64 x.fMark),.v (.int .i64 x.fFuse),.sl (x.fAll.map Gc)]
structure Gg where
 fD:Unit
 fSlots:Int
 fnow:Int
 fdata:(List (Int×ByteArray))
 fused:(List (Int×Int))
 fdirty:(List (Int×Bool))
/- ringhall/disk.New -/
def Ut (n:Nat) (a:Int):Option ((Option Gf)×Int) :=
 if a<16 then
  some (none,1)
 else
  if a > 256 then
   some (none,1)
  else
   (mkL 1 0 (wi .i64 (a*64))).bind fun (b:(List Int)) =>
   (mkL 1 0 (wi .i64 (a*64))).bind fun (c:(List Int)) =>
   some ((some (Gf.mk b c ([]:List Gk) (-1))),0)
theorem GV (n:Nat) (g:Int) (r:(Option Gf)×Int) (h:Ut n g=some r):RetH Tryz.prog 4 [.d ((eI .i64) g)] [] (.tup [(match r.1 with | none=>.d (.v (.pointer none)) | some x=>.ref 0 0),.d ((eI .i64) r.2)]) (match r.1 with | none=>[] | some x=>[.box [.srf 1,.srf 2,.srf 3,di x.ffuse],.row 5 1 (x.fsafe.map (eI .u8)),.row 5 1 (x.fnow.map (eI .u8)),.row 84 2 (x.fwait.map Ge)]):=by
 refine retH_run (n:=19) (fn:=Tryz.f4) (c:=bodyOf Tryz.f4) (by kernel_rfl) (by kernel_rfl) (by kernel_rfl) (by kernel_rfl) ?_
 have hF:KC 19 (FinH Tryz.prog Tryz.f4 [] (.tup [(match r.1 with | none=>.d (.v (.pointer none)) | some x=>.ref 0 0),.d ((eI .i64) r.2)]) (match r.1 with | none=>[] | some x=>[.box [.srf 1,.srf 2,.srf 3,di x.ffuse],.row 5 1 (x.fsafe.map (eI .u8)),.row 5 1 (x.fnow.map (eI .u8)),.row 84 2 (x.fwait.map Ge)])):=FinH.kc' (by kernel_rfl)
 unfold Ut at h
 by_cases a:g<16
 ·rw [if_pos a] at h
  obtain rfl:=Option.some.inj h
  exact pendH_sound TTok mix 10 (hs:=[.t true,.c,.c]) [] (by kernel_rfl) (by kernel_rfl) (by kernel_rfl) (.cons (dt a) .nil)
 ·rw [if_neg a] at h
  by_cases i:g > 256
  ·rw [if_pos i] at h
   obtain rfl:=Option.some.inj h
   exact pendH_sound TTok mix 10 (hs:=[.t false,.c,.t true]) [] (by kernel_rfl) (by kernel_rfl) (by kernel_rfl) (.cons (df a) (.cons (dt i) .nil))
  ·rw [if_neg i] at h
   obtain ⟨j,b,h⟩:=bind_some h
   obtain ⟨k,e,h⟩:=bind_some h
   obtain rfl:=Option.some.inj h
   exact pendH_sound TTok mix 13 (hs:=[.t false,.c,.t false,.w (j.map (eI .u8)),.w (k.map (eI .u8)),.dl 1,.tb 80 2 84 2]) [80,60,70,95] (by kernel_rfl) (by kernel_rfl) (by kernel_rfl) (.cons (df a) (.cons (df i) (.cons (mkL_ob (f:=(eI .u8)) (p:=.v (.int .u8 0)) b rfl).1 (.cons (mkL_ob (f:=(eI .u8)) (p:=.v (.int .u8 0)) b rfl).2.1 (.cons (mkL_ob (f:=(eI .u8)) (p:=.v (.int .u8 0)) b rfl).2.2.1 (.cons (mkL_ob (f:=(eI .u8)) (p:=.v (.int .u8 0)) b rfl).2.2.2.1 (.cons (mkL_ob (f:=(eI .u8)) (p:=.v (.int .u8 0)) b rfl).2.2.2.2 (.cons (mkL_ob (f:=(eI .u8)) (p:=.v (.int .u8 0)) e rfl).1 (.cons (mkL_ob (f:=(eI .u8)) (p:=.v (.int .u8 0)) e rfl).2.1 (.cons (mkL_ob (f:=(eI .u8)) (p:=.v (.int .u8 0)) e rfl).2.2.1 (.cons (mkL_ob (f:=(eI .u8)) (p:=.v (.int .u8 0)) e rfl).2.2.2.1 (.cons (mkL_ob (f:=(eI .u8)) (p:=.v (.int .u8 0)) e rfl).2.2.2.2 .nil))))))))))))
/- ringhall/buffer.New -/
def XQ (n:Nat) (a:Gf) (b:Int):Option ((Option Gh)×Int×Gf) :=
 if b<1 then
  some (none,1,a)
 else
  if b > 32 then
   some (none,1,a)
  else
   some ((some (Gh.mk () b ([]:List Gd))),0,a)
theorem G2 (n:Nat) (a:Gf) (e:Int) (r:(Option Gh)×Int×Gf) (h:XQ n a e=some r):RetH Tryz.prog 5 [.ref 0 0,.d ((eI .i64) e)] [.box [.srf 1,.srf 2,.srf 3,di a.ffuse],.row 5 1 (a.fsafe.map (eI .u8)),.row 5 1 (a.fnow.map (eI .u8)),.row 84 2 (a.fwait.map Ge)] (.tup [(match r.1 with | none=>.d (.v (.pointer none)) | some x=>.ref 7 0),.d ((eI .i64) r.2.1)]) (match r.1 with | none=>[.box [.srf 4,.srf 5,.srf 6,di r.2.2.ffuse],.none,.none,.none,.row 5 1 (r.2.2.fsafe.map (eI .u8)),.row 5 1 (r.2.2.fnow.map (eI .u8)),.row 84 2 (r.2.2.fwait.map Ge)] | some x=>[.box [.srf 4,.srf 5,.srf 6,di r.2.2.ffuse],.none,.none,.none,.row 5 1 (r.2.2.fsafe.map (eI .u8)),.row 5 1 (r.2.2.fnow.map (eI .u8)),.row 84 2 (r.2.2.fwait.map Ge),.box [.ref 0 0,di x.fslots,.srf 8],.row 69 3 (x.fl.map Ga)]):=by
 refine retH_run (n:=16) (fn:=Tryz.f5) (c:=bodyOf Tryz.f5) (by kernel_rfl) (by kernel_rfl) (by kernel_rfl) (by kernel_rfl) ?_
 have hF:KC 16 (FinH Tryz.prog Tryz.f5 [.box [.srf 1,.srf 2,.srf 3,di a.ffuse],.row 5 1 (a.fsafe.map (eI .u8)),.row 5 1 (a.fnow.map (eI .u8)),.row 84 2 (a.fwait.map Ge)] (.tup [(match r.1 with | none=>.d (.v (.pointer none)) | some x=>.ref 7 0),.d ((eI .i64) r.2.1)]) (match r.1 with | none=>[.box [.srf 4,.srf 5,.srf 6,di r.2.2.ffuse],.none,.none,.none,.row 5 1 (r.2.2.fsafe.map (eI .u8)),.row 5 1 (r.2.2.fnow.map (eI .u8)),.row 84 2 (r.2.2.fwait.map Ge)] | some x=>[.box [.srf 4,.srf 5,.srf 6,di r.2.2.ffuse],.none,.none,.none,.row 5 1 (r.2.2.fsafe.map (eI .u8)),.row 5 1 (r.2.2.fnow.map (eI .u8)),.row 84 2 (r.2.2.fwait.map Ge),.box [.ref 0 0,di x.fslots,.srf 8],.row 69 3 (x.fl.map Ga)])):=FinH.kc' (by kernel_rfl)
 unfold XQ at h
 by_cases b:e<1
 ·rw [if_pos b] at h
  obtain rfl:=Option.some.inj h
  exact pendH_sound TTok mix 13 (hs:=[.t true,.c,.c,.dl 4,.mv 1,.mv 2,.mv 3]) [0,1,2,3,58,59,60] (by kernel_rfl) (by kernel_rfl) (by kernel_rfl) (.cons (dt b) .nil)
 ·rw [if_neg b] at h
  by_cases f:e > 32
  ·rw [if_pos f] at h
   obtain rfl:=Option.some.inj h
   exact pendH_sound TTok mix 13 (hs:=[.t false,.c,.t true,.dl 4,.mv 1,.mv 2,.mv 3]) [0,1,2,3,58,59,60] (by kernel_rfl) (by kernel_rfl) (by kernel_rfl) (.cons (df b) (.cons (dt f) .nil))
  ·rw [if_neg f] at h
   obtain rfl:=Option.some.inj h
   exact pendH_sound TTok mix 14 (hs:=[.t false,.c,.t false,.dl 4,.mv 1,.mv 2,.mv 3,.tb 63 2 69 3]) [0,1,2,3,78,79,80,63,81] (by kernel_rfl) (by kernel_rfl) (by kernel_rfl) (.cons (df b) (.cons (df f) .nil))
inductive ZT where
 | x0 (a:Bool)
 | x1 
def VW:ZT→Ex
 | .x0 _=>.ret
 | .x1  => .exit 0
def VX (a:(List Gm)):ZT→PS
 | .x0 b=>⟨(dd::dd::.d (.v (.bool b))::(dds 22 [])),[]⟩
 | .x1  => ⟨(.d (.sl (a.map Gw))::(dds 24 [])),[]⟩
def VY (a:(List Gm)) (b:Int):PS:=⟨(.d (.sl (a.map Gw))::dd::dd::dd::dd::.d (.sl (a.map Gw))::di (a.length:Int)::di b::(dds 17 [])),[]⟩
def Sd (n:Nat) (a:(List Gm)):Nat→Int→Option ZT
 | 0,_=>none
 | k+1,b =>
  if b<(a.length:Int) then
   (getI a b).bind fun (c:Gm) =>
   if (c.fData.length:Int) > 200 then
    some (.x0 false)
   else
    if (c.fKept.length:Int) > 200 then
     some (.x0 false)
    else
     Sd n a k (wi .i64 (b+1))
  else
   some (.x1 )
theorem Uo {Fi:Ex→PS→Prop} (hF:KC 25 Fi) (ks:List Fr) (n:Nat) (g:(List Gm))  : ∀ (k:Nat) (b:Int) (o:ZT),Sd n g k b=some o→RunE Tryz.prog 25 Fi ks (VW o) (VX g o)→RunE Tryz.prog 25 Fi (.l k (cP (cB (cR (cL (cR (bodyOf Tryz.f6))))))::ks) .normal (VY g b)
 | 0,b,o,h,q=>by rw [Sd] at h; cases h
 | k+1,b,o,h,q=>by
  rw [Sd] at h
  by_cases e:b<(g.length:Int)
  ·rw [if_pos e] at h
   obtain ⟨a,m,h⟩:=bind_some h
   by_cases i:(a.fData.length:Int) > 200
   ·rw [if_pos i] at h
    cases h
    exact pkk_sound TTok mix hF 19 (hs:=[.t true,.y (Gw a),.c,.c,.u (di (a.fData.length:Int)),.t true,.c,.c,.c,.c]) (ts:=[]) (s:=[]) (l:=[2]) (by kernel_rfl) (by kernel_rfl) (.cons (dt e) (.cons (getI_ob (f:=Gw) m) (.cons (show 0+4≤4 by decide) (.cons (len_ob (f:=(eI .u8)) (l:=a.fData)) (.cons (dt i) .nil))))) q
   ·rw [if_neg i] at h
    by_cases j:(a.fKept.length:Int) > 200
    ·rw [if_pos j] at h
     cases h
     exact pkk_sound TTok mix hF 19 (hs:=[.t true,.y (Gw a),.c,.c,.u (di (a.fData.length:Int)),.t false,.c,.c,.c,.u (di (a.fKept.length:Int)),.c,.t true]) (ts:=[]) (s:=[]) (l:=[2]) (by kernel_rfl) (by kernel_rfl) (.cons (dt e) (.cons (getI_ob (f:=Gw) m) (.cons (show 0+4≤4 by decide) (.cons (len_ob (f:=(eI .u8)) (l:=a.fData)) (.cons (df i) (.cons (len_ob (f:=eB) (l:=a.fKept)) (.cons (dt j) .nil))))))) q
    ·rw [if_neg j] at h
     exact pkk_sound TTok mix hF 16 (hs:=[.t true,.y (Gw a),.c,.c,.u (di (a.fData.length:Int)),.t false,.c,.c,.c,.u (di (a.fKept.length:Int)),.c,.t false]) (ts:=[]) (s:=[]) (l:=[0,5,6,7]) (by kernel_rfl) (by kernel_rfl) (.cons (dt e) (.cons (getI_ob (f:=Gw) m) (.cons (show 0+4≤4 by decide) (.cons (len_ob (f:=(eI .u8)) (l:=a.fData)) (.cons (df i) (.cons (len_ob (f:=eB) (l:=a.fKept)) (.cons (df j) .nil))))))) (Uo hF ks n g k (wi .i64 (b+1)) _ h q)
  ·rw [if_neg e] at h
   cases h
   exact pkk_sound TTok mix hF 8 (hs:=[.t false]) (ts:=[]) (s:=[]) (l:=[0]) (by kernel_rfl) (by kernel_rfl) (.cons (df e) .nil) q
/- ringhall/ringlaw3.light -/
def Z8 (n:Nat) (a:(List Gm)):Option (Bool) :=
 (Sd n a n 0).bind fun b=>match b with
 | .x0 c =>
  some c
 | .x1  =>
  some (decide ((a.length:Int)≤60))
theorem UL (n:Nat) (a:(List Gm)) (r:Bool) (h:Z8 n a=some r):Ret Tryz.prog 6 [(eL Gw) a] (eB r):=by
 refine ret_run (n:=25) (fn:=Tryz.f6) (c:=bodyOf Tryz.f6) (by kernel_rfl) (by kernel_rfl) (by kernel_rfl) (by kernel_rfl) ?_
 have hF:KC 25 (FinR Tryz.prog Tryz.f6 (eB r)):=FinR.kc' (by kernel_rfl)
 unfold Z8 at h
 obtain ⟨e,g,h⟩:=bind_some h
 refine pkk_sound TTok mix hF 7 (hs:=[.u (di (a.length:Int)),.n n]) (ts:=[]) (s:=[]) (l:=[0,5,6,7]) (by kernel_rfl) (by kernel_rfl) (.cons (len_ob (f:=Gw) (l:=a)) .nil) (Uo hF (.b 0::.s (cR (cR (bodyOf Tryz.f6)))::[]) n a n 0 _ g ?_)
 cases e with
 | x0 i =>
  try dsimp only at h
  obtain rfl:=Option.some.inj h
  exact pend_sound TTok mix 2 (hs:=[]) (by kernel_rfl) (by kernel_rfl) (by kernel_rfl) .nil
 | x1  =>
  try dsimp only at h
  obtain rfl:=Option.some.inj h
  exact pend_sound TTok mix 4 (hs:=[.u (di (a.length:Int))]) (by kernel_rfl) (by kernel_rfl) (by kernel_rfl) (.cons (len_ob (f:=Gw) (l:=a)) .nil)
/- ringhall/ringref3.NewDisk -/
def Z2 (n:Nat) (a:Int):Option (Gb) :=
 some (Gb.mk a 0 (-1) ([]:List Gi))
theorem VV (n:Nat) (a:Int) (r:Gb) (h:Z2 n a=some r):RetH Tryz.prog 8 [.d ((eI .i64) a)] [] (.ref 0 0) [.box [di r.fSectors,di r.fMark,di r.fFuse,.srf 1],.cu (rowF 86 2 (r.fAll.map Gc)) []]:=by
 refine retH_run (n:=6) (fn:=Tryz.f8) (c:=bodyOf Tryz.f8) (by kernel_rfl) (by kernel_rfl) (by kernel_rfl) (by kernel_rfl) ?_
 have hF:KC 6 (FinH Tryz.prog Tryz.f8 [] (.ref 0 0) [.box [di r.fSectors,di r.fMark,di r.fFuse,.srf 1],.cu (rowF 86 2 (r.fAll.map Gc)) []]):=FinH.kc' (by kernel_rfl)
 unfold Z2 at h
 obtain rfl:=Option.some.inj h
 exact pendH_sound TTok mix 7 (hs:=[.dl 5,.tb 15 3 86 2,.sx [25] (toF 25 86 2 (([]:List Gi).map Gc))]) [15,25] (by kernel_rfl) (by kernel_rfl) (by kernel_rfl) (.cons (row_toF (l:=25) (e:=86) (s:=2) (xs:=(([]:List Gi).map Gc))) .nil)
/- ringhall/ringref3.NewCache -/
def ZU (n:Nat) (a:Gb) (b:Int):Option (Gg×Gb) :=
 some ((Gg.mk () b 0 ([]:(List (Int×ByteArray))) ([]:(List (Int×Int))) ([]:(List (Int×Bool)))),a)
theorem VR (n:Nat) (a:Gb) (b:Int) (r:Gg×Gb) (h:ZU n a b=some r):RetH Tryz.prog 7 [.ref 0 0,.d ((eI .i64) b)] [.box [di a.fSectors,di a.fMark,di a.fFuse,.srf 1],.cu (rowF 86 2 (a.fAll.map Gc)) []] (.ref 2 0) [.box [di r.2.fSectors,di r.2.fMark,di r.2.fFuse,.srf 6],.none,.box [.ref 0 0,di r.1.fSlots,di r.1.fnow,.srf 3,.srf 4,.srf 5],.cu (mapC (fun x:Int=>Value.int .i64 x) Value.string r.1.fdata) [],.cu (mapC (fun x:Int=>Value.int .i64 x) (fun x:Int=>Value.int .i64 x) r.1.fused) [],.cu (mapC (fun x:Int=>Value.int .i64 x) Value.bool r.1.fdirty) [],.cu (rowF 86 2 (r.2.fAll.map Gc)) []]:=by
 refine retH_run (n:=12) (fn:=Tryz.f7) (c:=bodyOf Tryz.f7) (by kernel_rfl) (by kernel_rfl) (by kernel_rfl) (by kernel_rfl) ?_
 have hF:KC 12 (FinH Tryz.prog Tryz.f7 [.box [di a.fSectors,di a.fMark,di a.fFuse,.srf 1],.cu (rowF 86 2 (a.fAll.map Gc)) []] (.ref 2 0) [.box [di r.2.fSectors,di r.2.fMark,di r.2.fFuse,.srf 6],.none,.box [.ref 0 0,di r.1.fSlots,di r.1.fnow,.srf 3,.srf 4,.srf 5],.cu (mapC (fun x:Int=>Value.int .i64 x) Value.string r.1.fdata) [],.cu (mapC (fun x:Int=>Value.int .i64 x) (fun x:Int=>Value.int .i64 x) r.1.fused) [],.cu (mapC (fun x:Int=>Value.int .i64 x) Value.bool r.1.fdirty) [],.cu (rowF 86 2 (r.2.fAll.map Gc)) []]):=FinH.kc' (by kernel_rfl)
 unfold ZU at h
 obtain rfl:=Option.some.inj h
 exact pendH_sound TTok mix 6 (hs:=[.e 19 [19] (.srf 19) [(19,.cu (mapC (fun x:Int=>Value.int .i64 x) Value.string ([]:(List (Int×ByteArray)))) [])],.e 24 [24] (.srf 24) [(24,.cu (mapC (fun x:Int=>Value.int .i64 x) (fun x:Int=>Value.int .i64 x) ([]:(List (Int×Int)))) [])],.e 29 [29] (.srf 29) [(29,.cu (mapC (fun x:Int=>Value.int .i64 x) Value.bool ([]:(List (Int×Bool)))) [])],.dl 1,.sx [1] (fmvS 1 86 2 (a.fAll.map Gc))]) [0,1,39,19,24,29,49] (by kernel_rfl) (by kernel_rfl) (by kernel_rfl) (.cons (ymake (P:=Tryz.prog) (T:=TT) (t:=52) (nl:=19) (fun x:Int=>Value.int .i64 x) Value.string) (.cons (ymake (P:=Tryz.prog) (T:=TT) (t:=53) (nl:=24) (fun x:Int=>Value.int .i64 x) (fun x:Int=>Value.int .i64 x)) (.cons (ymake (P:=Tryz.prog) (T:=TT) (t:=54) (nl:=29) (fun x:Int=>Value.int .i64 x) Value.bool) (.cons (fmv (l:=1) (e:=86) (s:=2) (xs:=(a.fAll.map Gc))) .nil))))
/- (*ringhall/disk.Disk).Size -/
def Kg (n:Nat) (a:Gf):Option (Int×Gf) :=
 some ((quoI .i64 (a.fnow.length:Int) 64),a)
theorem KA (n:Nat) (a:Gf) (r:Int×Gf) (h:Kg n a=some r):RetH Tryz.prog 23 [.ref 0 0] [.box [.srf 1,.srf 2,.srf 3,di a.ffuse],.row 5 1 (a.fsafe.map (eI .u8)),.row 5 1 (a.fnow.map (eI .u8)),.row 84 2 (a.fwait.map Ge)] (.d ((eI .i64) r.1)) [.box [.srf 4,.srf 5,.srf 6,di r.2.ffuse],.none,.none,.none,.row 5 1 (r.2.fsafe.map (eI .u8)),.row 5 1 (r.2.fnow.map (eI .u8)),.row 84 2 (r.2.fwait.map Ge)]:=by
 refine retH_run (n:=9) (fn:=Tryz.f23) (c:=bodyOf Tryz.f23) (by kernel_rfl) (by kernel_rfl) (by kernel_rfl) (by kernel_rfl) ?_
 have hF:KC 9 (FinH Tryz.prog Tryz.f23 [.box [.srf 1,.srf 2,.srf 3,di a.ffuse],.row 5 1 (a.fsafe.map (eI .u8)),.row 5 1 (a.fnow.map (eI .u8)),.row 84 2 (a.fwait.map Ge)] (.d ((eI .i64) r.1)) [.box [.srf 4,.srf 5,.srf 6,di r.2.ffuse],.none,.none,.none,.row 5 1 (r.2.fsafe.map (eI .u8)),.row 5 1 (r.2.fnow.map (eI .u8)),.row 84 2 (r.2.fwait.map Ge)]):=FinH.kc' (by kernel_rfl)
 unfold Kg at h
 obtain rfl:=Option.some.inj h
 exact pendH_sound TTok mix 8 (hs:=[.c,.u (di (a.fnow.length:Int)),.dl 1,.mv 1,.mv 2,.mv 3]) [0,1,2,3,48,49,50] (by kernel_rfl) (by kernel_rfl) (by kernel_rfl) (.cons (len_ob (f:=(eI .u8)) (l:=a.fnow)) (.cons (show (64:Int)≠0 by decide) .nil))
/- slices.Clone[[]byte,byte] -/
def ZZ (n a:Nat):Option ((List Int)) :=
 some ([]:List Int)
theorem Ux (n a:Nat) (r:(List Int)) (h:ZZ n a=some r):RetH Tryz.prog 25 [.d (.v (.slice none 0 a))] [] (.srf 0) [.row 5 1 (r.map (eI .u8))]:=by
 refine retH_run (n:=8) (fn:=Tryz.f25) (c:=bodyOf Tryz.f25) (by kernel_rfl) (by kernel_rfl) (by kernel_rfl) (by kernel_rfl) ?_
 have hF:KC 8 (FinH Tryz.prog Tryz.f25 [] (.srf 0) [.row 5 1 (r.map (eI .u8))]):=FinH.kc' (by kernel_rfl)
 unfold ZZ at h
 obtain rfl:=Option.some.inj h
 exact pendH_sound TTok mix 11 (hs:=[.c,.dl 4,.th 2 5 1]) [20] (by kernel_rfl) (by kernel_rfl) (by kernel_rfl) .nil
/- slices.Clone[[]byte,byte] -/
def Z0 (n:Nat) (b:Addr) (c:Nat):Option ((List Int)) :=
 (app 1 ([]:List Int) ([]:(List Int))).bind fun (a:(List Int)) =>
 some a
theorem Uy (n:Nat) (b:Addr) (e:Nat) (r:(List Int)) (h:Z0 n b e=some r):RetH Tryz.prog 25 [.d (.v (.slice (some b) 0 e))] [] (.srf 0) [.row 5 1 (r.map (eI .u8))]:=by
 refine retH_run (n:=8) (fn:=Tryz.f25) (c:=bodyOf Tryz.f25) (by kernel_rfl) (by kernel_rfl) (by kernel_rfl) (by kernel_rfl) ?_
 have hF:KC 8 (FinH Tryz.prog Tryz.f25 [] (.srf 0) [.row 5 1 (r.map (eI .u8))]):=FinH.kc' (by kernel_rfl)
 unfold Z0 at h
 obtain ⟨g,a,h⟩:=bind_some h
 obtain rfl:=Option.some.inj h
 exact pendH_sound TTok mix 10 (hs:=[.c,.w (([]:List Int).map (eI .u8)),.w (g.map (eI .u8))]) [25] (by kernel_rfl) (by kernel_rfl) (by kernel_rfl) (.cons (Eq.refl (([]:List Int).map (eI .u8))) (.cons (app_ob (f:=(eI .u8)) (s:=1) a (fun _=>rfl)).1 (.cons (app_ob (f:=(eI .u8)) (s:=1) a (fun _=>rfl)).2.1 (.cons (app_ob (f:=(eI .u8)) (s:=1) a (fun _=>rfl)).2.2.1 (.cons (app_ob (f:=(eI .u8)) (s:=1) a (fun _=>rfl)).2.2.2 .nil)))))
/- slices.Clone[[]byte,byte] -/
def Z1 (n:Nat) (a:Int) (b:(List Int)):Option ((List Int)) :=
 (app 1 ([]:List Int) (a::b)).bind fun (c:(List Int)) =>
 some c
theorem Uz (n:Nat) (b:Int) (e r:(List Int)) (h:Z1 n b e=some r):RetH Tryz.prog 25 [.d (.sl ((eI .u8) b::e.map (eI .u8)))] [] (.srf 0) [.row 5 1 (r.map (eI .u8))]:=by
 refine retH_run (n:=8) (fn:=Tryz.f25) (c:=bodyOf Tryz.f25) (by kernel_rfl) (by kernel_rfl) (by kernel_rfl) (by kernel_rfl) ?_
 have hF:KC 8 (FinH Tryz.prog Tryz.f25 [] (.srf 0) [.row 5 1 (r.map (eI .u8))]):=FinH.kc' (by kernel_rfl)
 unfold Z1 at h
 obtain ⟨g,a,h⟩:=bind_some h
 obtain rfl:=Option.some.inj h
 exact pendH_sound TTok mix 10 (hs:=[.c,.w (([]:List Int).map (eI .u8)),.w (g.map (eI .u8))]) [25] (by kernel_rfl) (by kernel_rfl) (by kernel_rfl) (.cons (Eq.refl (([]:List Int).map (eI .u8))) (.cons (app_ob (f:=(eI .u8)) (s:=1) a (fun _=>rfl)).1 (.cons (app_ob (f:=(eI .u8)) (s:=1) a (fun _=>rfl)).2.1 (.cons (app_ob (f:=(eI .u8)) (s:=1) a (fun _=>rfl)).2.2.1 (.cons (app_ob (f:=(eI .u8)) (s:=1) a (fun _=>rfl)).2.2.2 .nil)))))
def Gq (n:Nat) (xs:(List Int)):Option (List Int):=app 1 [] xs
theorem Kh (n:Nat) (xs r:(List Int)) (h:Gq n xs=some r):RetH Tryz.prog 25 [.d (.sl (xs.map (eI .u8)))] [] (.srf 0) [.row 5 1 (r.map (eI .u8))]:=by
 unfold Gq at h
 have e:app 1 ([]:(List Int)) []=some []:=by simp [app]
 cases xs with
 | nil =>
  rw [e] at h; obtain rfl:=Option.some.inj h
  exact clone_nil (fun c=>Ux n c _ (by unfold ZZ; rfl)) (fun a c=>Uy n a c _ (by unfold Z0; rw [e]; rfl))
 | cons y ys=>exact Uz n y ys _ (by unfold Z1; rw [h]; rfl)
theorem KO (n:Nat) (xs r:(List Int)) (h:Gq n xs=some r):Ret Tryz.prog 25 [.sl (xs.map (eI .u8))] (eL (eI .u8) r):=Ret.of_H (args:=[.sl (xs.map (eI .u8))]) (Kh n xs r h)
inductive G4 where
 | x0 (a:Int)
 | x1 
def Z9:G4→Ex
 | .x0 _=>.ret
 | .x1  => .exit 0
def Ya (b:(List Gd)) (c:(Gd→Option (Bool))) (e:FuncId) (f:(List PV)):G4→PS
 | .x0 a=>⟨(dd::dd::dd::dd::di a::(dds 14 [])),[]⟩
 | .x1  => ⟨(dds 19 []),[]⟩
def Yb (a:(List Gd)) (f:(Gd→Option (Bool))) (b:FuncId) (c:(List PV)) (e:Int):PS:=⟨(.d (.sl (a.map Ga))::.d (.clo b c)::dd::dd::dd::dd::dd::di (a.length:Int)::di e::(dds 10 [])),[]⟩
def Gr (n:Nat) (b:(List Gd)) (c:(Gd→Option (Bool))):Nat→Int→Option G4
 | 0,_=>none
 | k+1,a =>
  if a<(b.length:Int) then
   (getI b a).bind fun (d:Gd) =>
   (c d).bind fun (e:(Bool)) =>
   if e=true then
    some (.x0 a)
   else
    Gr n b c k (wi .i64 (a+1))
  else
   some (.x1 )
theorem KG {Fi:Ex→PS→Prop} (hF:KC 19 Fi) (ks:List Fr) (n:Nat) (b:(List Gd)) (c:(Gd→Option (Bool))) (e:FuncId) (g:(List PV)) (m:∀ (x0:Gd) (r:Bool),c x0=some r→Ret Tryz.prog e ([Ga x0]++g) (eB r)):∀ (k:Nat) (a:Int) (o:G4),Gr n b c k a=some o→RunE Tryz.prog 19 Fi ks (Z9 o) (Ya b c e g o)→RunE Tryz.prog 19 Fi (.l k (cP (cB (cR (cL (cR (bodyOf Tryz.f40))))))::ks) .normal (Yb b c e g a)
 | 0,a,o,h,q=>by rw [Gr] at h; cases h
 | k+1,a,o,h,q=>by
  rw [Gr] at h
  by_cases d:a<(b.length:Int)
  ·rw [if_pos d] at h
   obtain ⟨i,u,h⟩:=bind_some h
   obtain ⟨p,v,h⟩:=bind_some h
   by_cases j:p=true
   ·rw [if_pos j] at h
    cases h
    exact pkk_sound TTok mix hF 19 (hs:=[.t true,.y (Ga i),.r (eB p),.t true]) (ts:=[]) (s:=[]) (l:=[4]) (by kernel_rfl) (by kernel_rfl) (.cons (dt d) (.cons (getI_ob (f:=Ga) u) (.cons (m i _ v) (.cons j .nil)))) q
   ·rw [if_neg j] at h
    exact pkk_sound TTok mix hF 16 (hs:=[.t true,.y (Ga i),.r (eB p),.t false]) (ts:=[]) (s:=[]) (l:=[0,1,7,8]) (by kernel_rfl) (by kernel_rfl) (.cons (dt d) (.cons (getI_ob (f:=Ga) u) (.cons (m i _ v) (.cons (vf j) .nil)))) (KG hF ks n b c e g m k (wi .i64 (a+1)) _ h q)
  ·rw [if_neg d] at h
   cases h
   exact pkk_sound TTok mix hF 8 (hs:=[.t false]) (ts:=[]) (s:=[]) (l:=[]) (by kernel_rfl) (by kernel_rfl) (.cons (df d) .nil) q
/- slices.IndexFunc[[]ringhall/buffer.slot,ringhall/buffer.slot] -/
def GW (n:Nat) (a:(List Gd)) (b:(Gd→Option (Bool))):Option (Int) :=
 (Gr n a b n 0).bind fun c=>match c with
 | .x0 d =>
  some d
 | .x1  =>
  some (-1)
theorem Yv (n:Nat) (a:(List Gd)) (e:(Gd→Option (Bool))) (g:FuncId) (i:List PV) (j:∀ (x0:Gd) (r:Bool),e x0=some r→Ret Tryz.prog g ([Ga x0]++i) (eB r)) (r:Int) (h:GW n a e=some r):Ret Tryz.prog 40 [(eL Ga) a,(.clo g i)] ((eI .i64) r):=by
 refine ret_run (n:=19) (fn:=Tryz.f40) (c:=bodyOf Tryz.f40) (by kernel_rfl) (by kernel_rfl) (by kernel_rfl) (by kernel_rfl) ?_
 have hF:KC 19 (FinR Tryz.prog Tryz.f40 ((eI .i64) r)):=FinR.kc' (by kernel_rfl)
 unfold GW at h
 obtain ⟨k,m,h⟩:=bind_some h
 refine pkk_sound TTok mix hF 7 (hs:=[.u (di (a.length:Int)),.n n]) (ts:=[]) (s:=[]) (l:=[0,1,7,8]) (by kernel_rfl) (by kernel_rfl) (.cons (len_ob (f:=Ga) (l:=a)) .nil) (KG hF (.b 0::.s (cR (cR (bodyOf Tryz.f40)))::[]) n a e g i j n 0 _ m ?_)
 cases k with
 | x0 o =>
  try dsimp only at h
  obtain rfl:=Option.some.inj h
  exact pend_sound TTok mix 2 (hs:=[]) (by kernel_rfl) (by kernel_rfl) (by kernel_rfl) .nil
 | x1  =>
  try dsimp only at h
  obtain rfl:=Option.some.inj h
  exact pend_sound TTok mix 4 (hs:=[]) (by kernel_rfl) (by kernel_rfl) (by kernel_rfl) .nil
/- (*ringhall/buffer.Cache).find$1 -/
def Zj (n:Nat) (a:Gd) (b:Int):Option (Bool) :=
 some (a.fn == b)
theorem VS (n:Nat) (a:Gd) (b:Int) (r:Bool) (h:Zj n a b=some r):Ret Tryz.prog 41 [Ga a,.iptr [.v (.int .i64 b)] 0] (eB r):=by
 refine ret_run (n:=8) (fn:=Tryz.f41) (c:=bodyOf Tryz.f41) (by kernel_rfl) (by kernel_rfl) (by kernel_rfl) (by kernel_rfl) ?_
 have hF:KC 8 (FinR Tryz.prog Tryz.f41 (eB r)):=FinR.kc' (by kernel_rfl)
 unfold Zj at h
 obtain rfl:=Option.some.inj h
 exact pend_sound TTok mix 5 (hs:=[.c,.c]) (by kernel_rfl) (by kernel_rfl) (by kernel_rfl) .nil
/- (*ringhall/buffer.Cache).find -/
def SL (n:Nat) (a:Gh) (b:Gf) (c:Int):Option (Int×Gh×Gf) :=
 (GW n a.fl (fun (y0:Gd)=>Zj n y0 c)).bind fun (d:(Int)) =>
 some (d,a,b)
theorem KH (n:Nat) (b:Gh) (a:Gf) (e:Int) (r:Int×Gh×Gf) (h:SL n b a e=some r):RetH Tryz.prog 27 [.ref 0 0,.d ((eI .i64) e)] [.box [.ref 2 0,di b.fslots,.srf 1],.row 69 3 (b.fl.map Ga),.box [.srf 3,.srf 4,.srf 5,di a.ffuse],.row 5 1 (a.fsafe.map (eI .u8)),.row 5 1 (a.fnow.map (eI .u8)),.row 84 2 (a.fwait.map Ge)] (.d ((eI .i64) r.1)) [.box [.ref 2 0,di r.2.1.fslots,.srf 6],.none,.box [.srf 7,.srf 8,.srf 9,di r.2.2.ffuse],.none,.none,.none,.row 69 3 (r.2.1.fl.map Ga),.row 5 1 (r.2.2.fsafe.map (eI .u8)),.row 5 1 (r.2.2.fnow.map (eI .u8)),.row 84 2 (r.2.2.fwait.map Ge)]:=by
 refine retH_run (n:=11) (fn:=Tryz.f27) (c:=bodyOf Tryz.f27) (by kernel_rfl) (by kernel_rfl) (by kernel_rfl) (by kernel_rfl) ?_
 have hF:KC 11 (FinH Tryz.prog Tryz.f27 [.box [.ref 2 0,di b.fslots,.srf 1],.row 69 3 (b.fl.map Ga),.box [.srf 3,.srf 4,.srf 5,di a.ffuse],.row 5 1 (a.fsafe.map (eI .u8)),.row 5 1 (a.fnow.map (eI .u8)),.row 84 2 (a.fwait.map Ge)] (.d ((eI .i64) r.1)) [.box [.ref 2 0,di r.2.1.fslots,.srf 6],.none,.box [.srf 7,.srf 8,.srf 9,di r.2.2.ffuse],.none,.none,.none,.row 69 3 (r.2.1.fl.map Ga),.row 5 1 (r.2.2.fsafe.map (eI .u8)),.row 5 1 (r.2.2.fnow.map (eI .u8)),.row 84 2 (r.2.2.fwait.map Ge)]):=FinH.kc' (by kernel_rfl)
 unfold SL at h
 obtain ⟨f,g,h⟩:=bind_some h
 obtain rfl:=Option.some.inj h
 exact pendH_sound TTok mix 9 (hs:=[.c,.c,.r ((eI .i64) f),.dl 1,.mv 1,.mv 3,.mv 4,.mv 5]) [0,1,2,3,4,5,57,58,59,60] (by kernel_rfl) (by kernel_rfl) (by kernel_rfl) (.cons (Yv n b.fl (fun (y0:Gd)=>Zj n y0 e) 41 [.iptr [.v (.int .i64 e)] 0] (fun y0 r h=>VS n y0 e r h) _ g) .nil)
/- slices.Delete[[]ringhall/buffer.slot,ringhall/buffer.slot] -/
def G0 (n:Nat) (a:(List Gd)) (c b:Int):Option ((List Gd)) :=
 if ((0:Int)≤c∧c≤b∧b≤(a.length:Int)∧(a.length:Int)≤(a.length:Int)) then
  if c=b then
   some a
  else
   if ((0:Int)≤c∧c≤(a.length:Int)) then
    if ((0:Int)≤b∧b≤(a.length:Int)) then
     if c.toNat≤b.toNat∧b.toNat≤a.length∧a.length≤a.length then
      if ((0:Int)≤(((c.toNat+(a.length-b.toNat)):Nat):Int)∧(((c.toNat+(a.length-b.toNat)):Nat):Int)≤(a.length:Int)∧(a.length:Int)≤((delR a c.toNat b.toNat a.length).length:Int)) then
       if ((c.toNat+(a.length-b.toNat)):Nat)≤a.length∧a.length≤(delR a c.toNat b.toNat a.length).length then
        if (c.toNat+(a.length-b.toNat))≤(clrR (delR a c.toNat b.toNat a.length) ((c.toNat+(a.length-b.toNat)):Nat) a.length (Gd.mk 0 [] false)).length then
         some ((clrR (delR a c.toNat b.toNat a.length) ((c.toNat+(a.length-b.toNat)):Nat) a.length (Gd.mk 0 [] false)).take (c.toNat+(a.length-b.toNat)))
        else none
       else none
      else none
     else none
    else none
   else none
 else none
theorem YA (n:Nat) (g:(List Gd)) (m k:Int) (r:(List Gd)) (h:G0 n g m k=some r):RetH Tryz.prog 38 [.srf 0,.d ((eI .i64) m),.d ((eI .i64) k)] [.row 69 3 (g.map Ga)] (.srf 1) [.none,.row 69 3 (r.map Ga)]:=by
 refine retH_run (n:=33) (fn:=Tryz.f38) (c:=bodyOf Tryz.f38) (by kernel_rfl) (by kernel_rfl) (by kernel_rfl) (by kernel_rfl) ?_
 have hF:KC 33 (FinH Tryz.prog Tryz.f38 [.row 69 3 (g.map Ga)] (.srf 1) [.none,.row 69 3 (r.map Ga)]):=FinH.kc' (by kernel_rfl)
 unfold G0 at h
 by_cases o:((0:Int)≤m∧m≤k∧k≤(g.length:Int)∧(g.length:Int)≤(g.length:Int))
 ·rw [if_pos o] at h
  by_cases w:m=k
  ·rw [if_pos w] at h
   obtain rfl:=Option.some.inj h
   exact pendH_sound TTok mix 13 (hs:=[.u (di (g.length:Int)),.e 32 [0] (dd) [],.t true,.dl 4,.mv 0]) [0,62] (by kernel_rfl) (by kernel_rfl) (by kernel_rfl) (.cons (len_ob (f:=Ga) (l:=g)) (.cons (xs111 (P:=Tryz.prog) (T:=TT) (f:=Ga) (t:=63) (e:=69) (s:=3) (l:=0) (L:=g) (x:=(.tmp 8)) (lo:=(.tmp 9)) (hi:=(.tmp 10)) (mx:=(.tmp 12)) (a:=m) (ka:=.i64) (b:=k) (kb:=.i64) (c:=(g.length:Int)) (kc:=.i64) (by kernel_rfl) o) (.cons (bt w) .nil)))
  ·rw [if_neg w] at h
   by_cases a0:((0:Int)≤m∧m≤(g.length:Int))
   ·rw [if_pos a0] at h
    by_cases a1:((0:Int)≤k∧k≤(g.length:Int))
    ·rw [if_pos a1] at h
     by_cases a2:m.toNat≤k.toNat∧k.toNat≤g.length∧g.length≤g.length
     ·rw [if_pos a2] at h
      by_cases a3:((0:Int)≤(((m.toNat+(g.length-k.toNat)):Nat):Int)∧(((m.toNat+(g.length-k.toNat)):Nat):Int)≤(g.length:Int)∧(g.length:Int)≤((delR g m.toNat k.toNat g.length).length:Int))
      ·rw [if_pos a3] at h
       by_cases a4:((m.toNat+(g.length-k.toNat)):Nat)≤g.length∧g.length≤(delR g m.toNat k.toNat g.length).length
       ·rw [if_pos a4] at h
        by_cases a5:(m.toNat+(g.length-k.toNat))≤(clrR (delR g m.toNat k.toNat g.length) ((m.toNat+(g.length-k.toNat)):Nat) g.length (Gd.mk 0 [] false)).length
        ·rw [if_pos a5] at h
         obtain rfl:=Option.some.inj h
         exact pendH_sound TTok mix 18 (hs:=[.u (di (g.length:Int)),.e 32 [0] (dd) [],.t false,.u (di (g.length:Int)),.e 77 [0] (.ssl 0 0 m.toNat 3) [],.e 92 [0] (.ssl 0 k.toNat g.length 3) [],.e 97 [0] (.ssl 0 0 (m.toNat+(g.length-k.toNat)) 3) [(0,.row 69 3 ((delR g m.toNat k.toNat g.length).map Ga))],.e 117 [] (di (((m.toNat+(g.length-k.toNat)):Nat):Int)) [],.e 127 [0] (.ssl 0 ((m.toNat+(g.length-k.toNat)):Nat) g.length 3) [],.e 132 [0] (dd) [(0,.row 69 3 ((clrR (delR g m.toNat k.toNat g.length) ((m.toNat+(g.length-k.toNat)):Nat) g.length (Gd.mk 0 [] false)).map Ga))],.e 137 [0,137] (.srf 137) [(0,.none),(137,.row 69 3 (((clrR (delR g m.toNat k.toNat g.length) ((m.toNat+(g.length-k.toNat)):Nat) g.length (Gd.mk 0 [] false)).take (m.toNat+(g.length-k.toNat))).map Ga))]]) [0,137] (by kernel_rfl) (by kernel_rfl) (by kernel_rfl) (.cons (len_ob (f:=Ga) (l:=g)) (.cons (xs111 (P:=Tryz.prog) (T:=TT) (f:=Ga) (t:=63) (e:=69) (s:=3) (l:=0) (L:=g) (x:=(.tmp 8)) (lo:=(.tmp 9)) (hi:=(.tmp 10)) (mx:=(.tmp 12)) (a:=m) (ka:=.i64) (b:=k) (kb:=.i64) (c:=(g.length:Int)) (kc:=.i64) (by kernel_rfl) o) (.cons (bf w) (.cons (len_ob (f:=Ga) (l:=g)) (.cons (xs01 (P:=Tryz.prog) (T:=TT) (f:=Ga) (t:=63) (e:=69) (s:=3) (l:=0) (L:=g) (x:=(.tmp 20)) (hi:=(.tmp 21)) (b:=m) (kb:=.i64) (by kernel_rfl) a0) (.cons (xs10 (P:=Tryz.prog) (T:=TT) (f:=Ga) (t:=63) (e:=69) (s:=3) (l:=0) (L:=g) (x:=(.tmp 23)) (lo:=(.tmp 24)) (a:=k) (ka:=.i64) (by kernel_rfl) a1) (.cons (xapp (ti:=⟨3,40,.st [(0,3),(1,35),(2,4)],[.i .i64,.sl,.b]⟩) (P:=Tryz.prog) (T:=TT) (f:=Ga) (t:=63) (e:=69) (s:=3) (l:=0) (i:=m.toNat) (j:=k.toNat) (q:=g.length) (L:=g) (x:=(.tmp 22)) (y:=(.tmp 25)) (by kernel_rfl) (by kernel_rfl) a2) (.cons (xlen (P:=Tryz.prog) (T:=TT) (t:=63) (e:=69) (s:=3) (l:=0) (i:=0) (j:=(m.toNat+(g.length-k.toNat))) (x:=(.tmp 28)) (by kernel_rfl)) (.cons (xt11 (P:=Tryz.prog) (T:=TT) (f:=Ga) (t:=63) (e:=69) (s:=3) (l:=0) (L:=(delR g m.toNat k.toNat g.length)) (x:=(.tmp 27)) (lo:=(.tmp 29)) (hi:=(.tmp 30)) (a:=(((m.toNat+(g.length-k.toNat)):Nat):Int)) (ka:=.i64) (b:=(g.length:Int)) (kb:=.i64) (i:=(m.toNat+(g.length-k.toNat))) (by kernel_rfl) a3) (.cons (xclr (ti:=⟨3,40,.st [(0,3),(1,35),(2,4)],[.i .i64,.sl,.b]⟩) (P:=Tryz.prog) (T:=TT) (f:=Ga) (t:=63) (e:=69) (s:=3) (l:=0) (i:=((m.toNat+(g.length-k.toNat)):Nat)) (j:=g.length) (z:=(Gd.mk 0 [] false)) (L:=(delR g m.toNat k.toNat g.length)) (x:=(.tmp 31)) (p:=.agg [.v (.int .i64 0),.sl [],.v (.bool false)]) (by kernel_rfl) (by kernel_rfl) (by kernel_rfl) (by kernel_rfl) (by decide) rfl a4) (.cons (xmv (P:=Tryz.prog) (T:=TT) (f:=Ga) (e:=69) (s:=3) (l:=0) (nl:=137) (L:=(clrR (delR g m.toNat k.toNat g.length) ((m.toNat+(g.length-k.toNat)):Nat) g.length (Gd.mk 0 [] false))) (i:=(m.toNat+(g.length-k.toNat))) (x:=(.tmp 0)) a5) .nil)))))))))))
        ·rw [if_neg a5] at h; cases h
       ·rw [if_neg a4] at h; cases h
      ·rw [if_neg a3] at h; cases h
     ·rw [if_neg a2] at h; cases h
    ·rw [if_neg a1] at h; cases h
   ·rw [if_neg a0] at h; cases h
 ·rw [if_neg o] at h; cases h
/- (*ringhall/disk.Disk).goes -/
def Ki (n:Nat) (a:Gf):Option (Bool×Gf) :=
 if a.ffuse=0 then
  some (false,a)
 else
  if a.ffuse > 0 then
   some (true,(Gf.mk a.fsafe a.fnow a.fwait (wi .i64 (a.ffuse-1))))
  else
   some (true,a)
theorem KB (n:Nat) (a:Gf) (r:Bool×Gf) (h:Ki n a=some r):RetH Tryz.prog 42 [.ref 0 0] [.box [.srf 1,.srf 2,.srf 3,di a.ffuse],.row 5 1 (a.fsafe.map (eI .u8)),.row 5 1 (a.fnow.map (eI .u8)),.row 84 2 (a.fwait.map Ge)] (.d (eB r.1)) [.box [.srf 4,.srf 5,.srf 6,di r.2.ffuse],.none,.none,.none,.row 5 1 (r.2.fsafe.map (eI .u8)),.row 5 1 (r.2.fnow.map (eI .u8)),.row 84 2 (r.2.fwait.map Ge)]:=by
 refine retH_run (n:=20) (fn:=Tryz.f42) (c:=bodyOf Tryz.f42) (by kernel_rfl) (by kernel_rfl) (by kernel_rfl) (by kernel_rfl) ?_
 have hF:KC 20 (FinH Tryz.prog Tryz.f42 [.box [.srf 1,.srf 2,.srf 3,di a.ffuse],.row 5 1 (a.fsafe.map (eI .u8)),.row 5 1 (a.fnow.map (eI .u8)),.row 84 2 (a.fwait.map Ge)] (.d (eB r.1)) [.box [.srf 4,.srf 5,.srf 6,di r.2.ffuse],.none,.none,.none,.row 5 1 (r.2.fsafe.map (eI .u8)),.row 5 1 (r.2.fnow.map (eI .u8)),.row 84 2 (r.2.fwait.map Ge)]):=FinH.kc' (by kernel_rfl)
 unfold Ki at h
 by_cases b:a.ffuse=0
 ·rw [if_pos b] at h
  obtain rfl:=Option.some.inj h
  exact pendH_sound TTok mix 13 (hs:=[.c,.t true,.dl 4,.mv 1,.mv 2,.mv 3]) [0,1,2,3,43,44,45] (by kernel_rfl) (by kernel_rfl) (by kernel_rfl) (.cons (bt b) .nil)
 ·rw [if_neg b] at h
  by_cases e:a.ffuse > 0
  ·rw [if_pos e] at h
   obtain rfl:=Option.some.inj h
   exact pendH_sound TTok mix 18 (hs:=[.c,.t false,.c,.t true,.c,.c,.dl 3,.mv 1,.mv 2,.mv 3]) [0,1,2,3,108,109,110] (by kernel_rfl) (by kernel_rfl) (by kernel_rfl) (.cons (bf b) (.cons (dt e) (.cons (show 3+1≤4 by decide) .nil)))
  ·rw [if_neg e] at h
   obtain rfl:=Option.some.inj h
   exact pendH_sound TTok mix 18 (hs:=[.c,.t false,.c,.t false,.dl 4,.mv 1,.mv 2,.mv 3]) [0,1,2,3,68,69,70] (by kernel_rfl) (by kernel_rfl) (by kernel_rfl) (.cons (bf b) (.cons (df e) .nil))
inductive Zz where
 | x0 (a:Bool) (b c:(List Int)) (d:(List Gk))
 | x1 (e:Bool) (f:Int) (g h:(List Int)) (i:(List Gk))
def VJ:Zz→Ex
 | .x0 _ _ _ _=>.normal
 | .x1 _ _ _ _ _=>.normal
def VK (a:Int) (b:(List Int)) (c:Gf):Zz→PS
 | .x0 e f g h=>⟨(.ref 4 0::di a::.d (.sl (b.map (eI .u8)))::(dds 16 (.d (.v (.bool e))::(dds 24 [])))),[.gh 0 (.ref 4 0),.gh 1 (.srf 5),.gh 2 (.srf 6),.gh 3 (.srf 7),.box [.srf 5,.srf 6,.srf 7,di c.ffuse],.row 5 1 (f.map (eI .u8)),.row 5 1 (g.map (eI .u8)),.row 84 2 (h.map Ge)]⟩
 | .x1 i j k l m=>⟨(.ref 4 0::di a::.d (.sl (b.map (eI .u8)))::(dds 16 (.d (.v (.bool i))::(dds 24 [])))),[.gh 0 (.ref 4 0),.gh 1 (.srf 8),.gh 2 (.srf 9),.gh 3 (.srf 10),.box [.srf 5,.srf 6,.srf 7,di j],.row 5 1 (k.map (eI .u8)),.row 5 1 (l.map (eI .u8)),.row 84 2 (m.map Ge),.none,.none,.none]⟩
def VL (b:Int) (c:(List Int)) (a:Gf)  : PS:=⟨(.ref 4 0::di b::.d (.sl (c.map (eI .u8)))::(dds 41 [])),[.gh 0 (.ref 4 0),.gh 1 (.srf 5),.gh 2 (.srf 6),.gh 3 (.srf 7),.box [.srf 5,.srf 6,.srf 7,di a.ffuse],.row 5 1 (a.fsafe.map (eI .u8)),.row 5 1 (a.fnow.map (eI .u8)),.row 84 2 (a.fwait.map Ge)]⟩
def ZN (n:Nat) (c:Int) (d:(List Int)) (b:Gf):Option Zz :=
 if c<0 then
  some (.x0 true b.fsafe b.fnow b.fwait)
 else
  (Kg n b).bind fun (a:(Int×Gf)) =>
  if c≥a.1 then
   some (.x1 true a.2.ffuse a.2.fsafe a.2.fnow a.2.fwait)
  else
   some (.x1 ((d.length:Int) != 64) a.2.ffuse a.2.fsafe a.2.fnow a.2.fwait)
theorem VM {Fi:Ex→PS→Prop} (hF:KC 44 Fi) (ks:List Fr) (n:Nat) (b:Int) (e:(List Int)) (g:Gf)  (o:Zz) (h:ZN n b e g=some o) (q:RunE Tryz.prog 44 Fi ks (VJ o) (VK b e g o)):RunE Tryz.prog 44 Fi (.s (cL (cL (cR (bodyOf Tryz.f28))))::ks) .normal (VL b e g):=by
 unfold ZN at h
 by_cases i:b<0
 ·rw [if_pos i] at h
  cases h
  exact pkk_sound TTok mix hF 1 (hs:=[.t true,.c,.c,.c,.c,.c,.c]) (ts:=[]) (s:=[0,1,2,3,4,5,6,7]) (l:=[0,1,2,19]) (by kernel_rfl) (by kernel_rfl) (.cons (dt i) .nil) q
 ·rw [if_neg i] at h
  obtain ⟨a,k,h⟩:=bind_some h
  by_cases j:b≥a.1
  ·rw [if_pos j] at h
   cases h
   exact pkk_sound TTok mix hF 1 (hs:=[.t false,.c,.c,.h [4,5,6,7] [] [.box [.srf 4,.srf 5,.srf 6,di a.2.ffuse],.none,.none,.none,.row 5 1 (a.2.fsafe.map (eI .u8)),.row 5 1 (a.2.fnow.map (eI .u8)),.row 84 2 (a.2.fwait.map Ge)] (di a.1),.c,.t true,.c,.c]) (ts:=[]) (s:=[0,1,2,3,4,33,34,35,5,6,7]) (l:=[0,1,2,19]) (by kernel_rfl) (by kernel_rfl) (.cons (df i) (.cons (KA n g _ k) (.cons (dt j) .nil))) q
  ·rw [if_neg j] at h
   cases h
   exact pkk_sound TTok mix hF 1 (hs:=[.t false,.c,.c,.h [4,5,6,7] [] [.box [.srf 4,.srf 5,.srf 6,di a.2.ffuse],.none,.none,.none,.row 5 1 (a.2.fsafe.map (eI .u8)),.row 5 1 (a.2.fnow.map (eI .u8)),.row 84 2 (a.2.fwait.map Ge)] (di a.1),.c,.t false,.c,.u (di (e.length:Int)),.c]) (ts:=[]) (s:=[0,1,2,3,4,33,34,35,5,6,7]) (l:=[0,1,2,19]) (by kernel_rfl) (by kernel_rfl) (.cons (df i) (.cons (KA n g _ k) (.cons (df j) (.cons (len_ob (f:=(eI .u8)) (l:=e)) .nil)))) q
/- (*ringhall/disk.Disk).Write -/
def S9 (n:Nat) (e:Gf) (c:Int) (d:(List Int)):Option (Int×Gf) :=
 (ZN n c d e).bind fun m=>match m with
 | .x0 o f g h =>
  if o=true then
   some (1,(Gf.mk f g h e.ffuse))
  else
   (Ki n (Gf.mk f g h e.ffuse)).bind fun (a:(Bool×Gf)) =>
   if a.1=true then
    (Gq n d).bind fun (p:((List Int))) =>
    (app 32 a.2.fwait ([(Gk.mk c p)])).bind fun (q:(List Gk)) =>
    if ((0:Int)≤(wi .i64 (c*64))∧(wi .i64 (c*64))≤(a.2.fnow.length:Int)) then
     if a.2.fnow.length≤a.2.fnow.length then
      some (0,(Gf.mk a.2.fsafe (cpyR a.2.fnow ((wi .i64 (c*64)).toNat) a.2.fnow.length d) q a.2.ffuse))
     else none
    else none
   else
    some (0,a.2)
 | .x1 r i j k l =>
  if r=true then
   some (1,(Gf.mk j k l i))
  else
   (Ki n (Gf.mk j k l i)).bind fun (b:(Bool×Gf)) =>
   if b.1=true then
    (Gq n d).bind fun (s:((List Int))) =>
    (app 32 b.2.fwait ([(Gk.mk c s)])).bind fun (t:(List Gk)) =>
    if ((0:Int)≤(wi .i64 (c*64))∧(wi .i64 (c*64))≤(b.2.fnow.length:Int)) then
     if b.2.fnow.length≤b.2.fnow.length then
      some (0,(Gf.mk b.2.fsafe (cpyR b.2.fnow ((wi .i64 (c*64)).toNat) b.2.fnow.length d) t b.2.ffuse))
     else none
    else none
   else
    some (0,b.2)
theorem Up (n:Nat) (m:Gf) (k:Int) (o:(List Int)) (r:Int×Gf) (h:S9 n m k o=some r):RetH Tryz.prog 28 [.ref 0 0,.d ((eI .i64) k),.d ((eL (eI .u8)) o)] [.box [.srf 1,.srf 2,.srf 3,di m.ffuse],.row 5 1 (m.fsafe.map (eI .u8)),.row 5 1 (m.fnow.map (eI .u8)),.row 84 2 (m.fwait.map Ge)] (.d ((eI .i64) r.1)) [.box [.srf 4,.srf 5,.srf 6,di r.2.ffuse],.none,.none,.none,.row 5 1 (r.2.fsafe.map (eI .u8)),.row 5 1 (r.2.fnow.map (eI .u8)),.row 84 2 (r.2.fwait.map Ge)]:=by
 refine retH_run (n:=44) (fn:=Tryz.f28) (c:=bodyOf Tryz.f28) (by kernel_rfl) (by kernel_rfl) (by kernel_rfl) (by kernel_rfl) ?_
 have hF:KC 44 (FinH Tryz.prog Tryz.f28 [.box [.srf 1,.srf 2,.srf 3,di m.ffuse],.row 5 1 (m.fsafe.map (eI .u8)),.row 5 1 (m.fnow.map (eI .u8)),.row 84 2 (m.fwait.map Ge)] (.d ((eI .i64) r.1)) [.box [.srf 4,.srf 5,.srf 6,di r.2.ffuse],.none,.none,.none,.row 5 1 (r.2.fsafe.map (eI .u8)),.row 5 1 (r.2.fnow.map (eI .u8)),.row 84 2 (r.2.fwait.map Ge)]):=FinH.kc' (by kernel_rfl)
 unfold S9 at h
 obtain ⟨b5,b6,h⟩:=bind_some h
 refine pkk_sound TTok mix hF 4 (hs:=[]) (ts:=[]) (s:=[4,5,6,7,0,1,2,3]) (l:=[0,1,2]) (by kernel_rfl) (by kernel_rfl) .nil (VM hF (.s (cR (cL (cR (bodyOf Tryz.f28))))::.s (cR (cR (bodyOf Tryz.f28)))::[]) n k o m _ b6 ?_)
 cases b5 with
 | x0 b7 a6 a7 a8 =>
  try dsimp only at h
  by_cases p:b7=true
  ·rw [if_pos p] at h
   obtain rfl:=Option.some.inj h
   exact pendH_sound TTok mix 8 (hs:=[.t true,.dl 4,.mv 5,.mv 6,.mv 7]) [4,5,6,7,13,14,15] (by kernel_rfl) (by kernel_rfl) (by kernel_rfl) (.cons p .nil)
  ·rw [if_neg p] at h
   obtain ⟨b,a9,h⟩:=bind_some h
   by_cases u:b.1=true
   ·rw [if_pos u] at h
    obtain ⟨b8,b9,h⟩:=bind_some h
    obtain ⟨c0,z,h⟩:=bind_some h
    by_cases a2:((0:Int)≤(wi .i64 (k*64))∧(wi .i64 (k*64))≤(b.2.fnow.length:Int))
    ·rw [if_pos a2] at h
     by_cases a3:b.2.fnow.length≤b.2.fnow.length
     ·rw [if_pos a3] at h
      obtain rfl:=Option.some.inj h
      exact pendH_sound TTok mix 12 (hs:=[.t false,.h [4,5,6,7] [] [.box [.srf 4,.srf 5,.srf 6,di b.2.ffuse],.none,.none,.none,.row 5 1 (b.2.fsafe.map (eI .u8)),.row 5 1 (b.2.fnow.map (eI .u8)),.row 84 2 (b.2.fwait.map Ge)] (.d (.v (.bool b.1))),.t true,.c,.r ((eL (eI .u8)) b8),.bd,.w (c0.map Ge),.c,.c,.e 118 [14] (.ssl 14 ((wi .i64 (k*64)).toNat) b.2.fnow.length 1) [],.e 128 [14] (di ((Nat.min o.length (b.2.fnow.length-(wi .i64 (k*64)).toNat):Nat):Int)) [(14,.row 5 1 ((cpyR b.2.fnow ((wi .i64 (k*64)).toNat) b.2.fnow.length o).map (eI .u8)))]]) [4,5,6,7,13,14,68] (by kernel_rfl) (by kernel_rfl) (by kernel_rfl) (.cons (vf p) (.cons (KB n (Gf.mk a6 a7 a8 m.ffuse) _ a9) (.cons u (.cons (KO n o _ b9) (.cons (app_ob (f:=Ge) (s:=2) z (fun _=>rfl)).1 (.cons (app_ob (f:=Ge) (s:=2) z (fun _=>rfl)).2.1 (.cons (app_ob (f:=Ge) (s:=2) z (fun _=>rfl)).2.2.1 (.cons (app_ob (f:=Ge) (s:=2) z (fun _=>rfl)).2.2.2 (.cons (show 2+1≤4 by decide) (.cons (xs10 (P:=Tryz.prog) (T:=TT) (f:=(eI .u8)) (t:=35) (e:=5) (s:=1) (l:=14) (L:=b.2.fnow) (x:=(.tmp 38)) (lo:=(.tmp 40)) (a:=(wi .i64 (k*64))) (ka:=.i64) (by kernel_rfl) a2) (.cons (xcpD (P:=Tryz.prog) (T:=TT) (f:=(eI .u8)) (t:=35) (t':=35) (e:=5) (s:=1) (l:=14) (x:=(.tmp 41)) (y:=(.tmp 42)) (ti:=⟨1,1,.int .u8,[.i .u8]⟩) (L:=b.2.fnow) (Y:=o) (i:=(wi .i64 (k*64)).toNat) (j:=b.2.fnow.length) (by kernel_rfl) (by kernel_rfl) a3 (fun _=>rfl)) .nil)))))))))))
     ·rw [if_neg a3] at h; cases h
    ·rw [if_neg a2] at h; cases h
   ·rw [if_neg u] at h
    obtain rfl:=Option.some.inj h
    exact pendH_sound TTok mix 10 (hs:=[.t false,.h [4,5,6,7] [] [.box [.srf 4,.srf 5,.srf 6,di b.2.ffuse],.none,.none,.none,.row 5 1 (b.2.fsafe.map (eI .u8)),.row 5 1 (b.2.fnow.map (eI .u8)),.row 84 2 (b.2.fwait.map Ge)] (.d (.v (.bool b.1))),.t false]) [4,5,6,7,13,14,15] (by kernel_rfl) (by kernel_rfl) (by kernel_rfl) (.cons (vf p) (.cons (KB n (Gf.mk a6 a7 a8 m.ffuse) _ a9) (.cons (vf u) .nil)))
 | x1 c1 b0 b1 b2 b3 =>
  try dsimp only at h
  by_cases q:c1=true
  ·rw [if_pos q] at h
   obtain rfl:=Option.some.inj h
   exact pendH_sound TTok mix 5 (hs:=[.t true]) [4,8,9,10,5,6,7] (by kernel_rfl) (by kernel_rfl) (by kernel_rfl) (.cons q .nil)
  ·rw [if_neg q] at h
   obtain ⟨g,b4,h⟩:=bind_some h
   by_cases a0:g.1=true
   ·rw [if_pos a0] at h
    obtain ⟨c2,c3,h⟩:=bind_some h
    obtain ⟨c4,a1,h⟩:=bind_some h
    by_cases a4:((0:Int)≤(wi .i64 (k*64))∧(wi .i64 (k*64))≤(g.2.fnow.length:Int))
    ·rw [if_pos a4] at h
     by_cases a5:g.2.fnow.length≤g.2.fnow.length
     ·rw [if_pos a5] at h
      obtain rfl:=Option.some.inj h
      exact pendH_sound TTok mix 12 (hs:=[.t false,.h [4,5,6,7] [] [.box [.srf 4,.srf 5,.srf 6,di g.2.ffuse],.none,.none,.none,.row 5 1 (g.2.fsafe.map (eI .u8)),.row 5 1 (g.2.fnow.map (eI .u8)),.row 84 2 (g.2.fwait.map Ge)] (.d (.v (.bool g.1))),.t true,.c,.r ((eL (eI .u8)) c2),.bd,.w (c4.map Ge),.c,.c,.e 121 [17] (.ssl 17 ((wi .i64 (k*64)).toNat) g.2.fnow.length 1) [],.e 131 [17] (di ((Nat.min o.length (g.2.fnow.length-(wi .i64 (k*64)).toNat):Nat):Int)) [(17,.row 5 1 ((cpyR g.2.fnow ((wi .i64 (k*64)).toNat) g.2.fnow.length o).map (eI .u8)))]]) [4,8,9,10,16,17,71] (by kernel_rfl) (by kernel_rfl) (by kernel_rfl) (.cons (vf q) (.cons (KB n (Gf.mk b1 b2 b3 b0) _ b4) (.cons a0 (.cons (KO n o _ c3) (.cons (app_ob (f:=Ge) (s:=2) a1 (fun _=>rfl)).1 (.cons (app_ob (f:=Ge) (s:=2) a1 (fun _=>rfl)).2.1 (.cons (app_ob (f:=Ge) (s:=2) a1 (fun _=>rfl)).2.2.1 (.cons (app_ob (f:=Ge) (s:=2) a1 (fun _=>rfl)).2.2.2 (.cons (show 2+1≤4 by decide) (.cons (xs10 (P:=Tryz.prog) (T:=TT) (f:=(eI .u8)) (t:=35) (e:=5) (s:=1) (l:=17) (L:=g.2.fnow) (x:=(.tmp 38)) (lo:=(.tmp 40)) (a:=(wi .i64 (k*64))) (ka:=.i64) (by kernel_rfl) a4) (.cons (xcpD (P:=Tryz.prog) (T:=TT) (f:=(eI .u8)) (t:=35) (t':=35) (e:=5) (s:=1) (l:=17) (x:=(.tmp 41)) (y:=(.tmp 42)) (ti:=⟨1,1,.int .u8,[.i .u8]⟩) (L:=g.2.fnow) (Y:=o) (i:=(wi .i64 (k*64)).toNat) (j:=g.2.fnow.length) (by kernel_rfl) (by kernel_rfl) a5 (fun _=>rfl)) .nil)))))))))))
     ·rw [if_neg a5] at h; cases h
    ·rw [if_neg a4] at h; cases h
   ·rw [if_neg a0] at h
    obtain rfl:=Option.some.inj h
    exact pendH_sound TTok mix 10 (hs:=[.t false,.h [4,5,6,7] [] [.box [.srf 4,.srf 5,.srf 6,di g.2.ffuse],.none,.none,.none,.row 5 1 (g.2.fsafe.map (eI .u8)),.row 5 1 (g.2.fnow.map (eI .u8)),.row 84 2 (g.2.fwait.map Ge)] (.d (.v (.bool g.1))),.t false]) [4,8,9,10,16,17,18] (by kernel_rfl) (by kernel_rfl) (by kernel_rfl) (.cons (vf q) (.cons (KB n (Gf.mk b1 b2 b3 b0) _ b4) (.cons (vf a0) .nil)))
/- slices.Insert[[]ringhall/buffer.slot,ringhall/buffer.slot] -/
def Sm (n d:Nat) (b:(List Gd)) (a:Int) (c:(List Gd)):Option ((List Gd)) :=
 if (0≤a∧a≤(b.length:Int))∧b.length≤d then
  if (c.length:Int)=0 then
   some b
  else
   if a=(b.length:Int) then
    (app 40 b c).bind fun (e:(List Gd)) =>
    some e
   else
    if (wi .i64 ((b.length:Int)+(c.length:Int))) > (d:Int) then
     if (0≤a∧a≤(b.length:Int))∧b.length≤d then
      if (wi .i64 ((wi .i64 ((b.length:Int)+(c.length:Int)))-a))=(((b.length+c.length-a.toNat):Nat):Int)∧a.toNat≤b.length∧0<(b.length+c.length-a.toNat)∧d<a.toNat+(b.length+c.length-a.toNat)∧a.toNat+(b.length+c.length-a.toNat)≤maxLen∧(a.toNat+(b.length+c.length-a.toNat))*40≤140737488355328 then
       if ((0:Int)≤a∧a≤((b.take a.toNat++List.replicate (b.length+c.length-a.toNat) (Gd.mk 0 [] false)).length:Int)) then
        if (b.take a.toNat++List.replicate (b.length+c.length-a.toNat) (Gd.mk 0 [] false)).length≤(b.take a.toNat++List.replicate (b.length+c.length-a.toNat) (Gd.mk 0 [] false)).length then
         if ((0:Int)≤(wi .i64 (a+(c.length:Int)))∧(wi .i64 (a+(c.length:Int)))≤((cpyR (b.take a.toNat++List.replicate (b.length+c.length-a.toNat) (Gd.mk 0 [] false)) a.toNat ((b.take a.toNat++List.replicate (b.length+c.length-a.toNat) (Gd.mk 0 [] false)).length) c).length:Int)) then
          if (0≤a∧a≤(b.length:Int))∧b.length≤d then
           if (cpyR (b.take a.toNat++List.replicate (b.length+c.length-a.toNat) (Gd.mk 0 [] false)) a.toNat ((b.take a.toNat++List.replicate (b.length+c.length-a.toNat) (Gd.mk 0 [] false)).length) c).length≤(cpyR (b.take a.toNat++List.replicate (b.length+c.length-a.toNat) (Gd.mk 0 [] false)) a.toNat ((b.take a.toNat++List.replicate (b.length+c.length-a.toNat) (Gd.mk 0 [] false)).length) c).length∧b.length≤b.length then
            some (cpyR (cpyR (b.take a.toNat++List.replicate (b.length+c.length-a.toNat) (Gd.mk 0 [] false)) a.toNat ((b.take a.toNat++List.replicate (b.length+c.length-a.toNat) (Gd.mk 0 [] false)).length) c) ((wi .i64 (a+(c.length:Int))).toNat) ((cpyR (b.take a.toNat++List.replicate (b.length+c.length-a.toNat) (Gd.mk 0 [] false)) a.toNat ((b.take a.toNat++List.replicate (b.length+c.length-a.toNat) (Gd.mk 0 [] false)).length) c).length) ((b.take b.length).drop a.toNat))
           else none
          else none
         else none
        else none
       else none
      else none
     else none
    else
     if 0<c.length∧(b.length+c.length)≤d∧(wi .i64 ((b.length:Int)+(c.length:Int)))=(((b.length+c.length):Nat):Int) then
      if (wi .i64 (a+(c.length:Int)))=(((a.toNat+c.length):Nat):Int)∧(a.toNat+c.length)≤(b.length+c.length) then
       if (wi .i64 (a+(c.length:Int)))=(((a.toNat+c.length):Nat):Int)∧(a.toNat+c.length)≤(b.length+c.length) then
        if 0≤a∧a≤(((b.length+c.length):Nat):Int) then
         if 0≤a∧a≤(((b.length+c.length):Nat):Int) then
          some ((b.take a.toNat)++c++(b.drop a.toNat))
         else none
        else none
       else none
      else none
     else none
 else none
theorem Yw (n a1:Nat) (w:(List Gd)) (o:Int) (a0 r:(List Gd)) (h:Sm n a1 w o a0=some r):RetH Tryz.prog 39 [.srf 0,.d ((eI .i64) o),.d ((eL Ga) a0)] [.cu (rowC 69 3 a1 (w.map Ga)) []] (.srf 1) [.none,.row 69 3 (r.map Ga)]:=by
 refine retH_run (n:=95) (fn:=Tryz.f39) (c:=bodyOf Tryz.f39) (by kernel_rfl) (by kernel_rfl) (by kernel_rfl) (by kernel_rfl) ?_
 have hF:KC 95 (FinH Tryz.prog Tryz.f39 [.cu (rowC 69 3 a1 (w.map Ga)) []] (.srf 1) [.none,.row 69 3 (r.map Ga)]):=FinH.kc' (by kernel_rfl)
 unfold Sm at h
 by_cases a2:(0≤o∧o≤(w.length:Int))∧w.length≤a1
 ·rw [if_pos a2] at h
  by_cases a4:(a0.length:Int)=0
  ·rw [if_pos a4] at h
   obtain rfl:=Option.some.inj h
   exact pendH_sound TTok mix 14 (hs:=[.e 17 [0] (.ssl 0 o.toNat w.length 3) [],.u (di (a0.length:Int)),.t true,.e 47 [0,47] (.srf 47) [(0,.none),(47,.row 69 3 (w.map Ga))]]) [0,47] (by kernel_rfl) (by kernel_rfl) (by kernel_rfl) (.cons (ext_same (yc10 (P:=Tryz.prog) (T:=TT) (f:=Ga) (t:=63) (e:=69) (s:=3) (l:=0) (L:=w) (x:=(.tmp 10)) (C:=a1) (lo:=(.tmp 11)) (A:=o) (ka:=.i64) (by kernel_rfl) a2.1 a2.2)) (.cons (len_ob (f:=Ga) (l:=a0)) (.cons (bt a4) (.cons (ymv (L:=w) (C:=a1) (P:=Tryz.prog) (T:=TT) (f:=Ga) (e:=69) (s:=3) (l:=0) (nl:=47) (x:=(.tmp 0)) (by decide)) .nil))))
  ·rw [if_neg a4] at h
   by_cases a5:o=(w.length:Int)
   ·rw [if_pos a5] at h
    obtain ⟨b8,b9,h⟩:=bind_some h
    obtain rfl:=Option.some.inj h
    exact pendH_sound TTok mix 21 (hs:=[.e 17 [0] (.ssl 0 o.toNat w.length 3) [],.u (di (a0.length:Int)),.t false,.e 52 [0] (di (w.length:Int)) [],.t true,.e 87 [0,87] (.srf 87) [(0,.none),(87,.row 69 3 (b8.map Ga))]]) [0,87] (by kernel_rfl) (by kernel_rfl) (by kernel_rfl) (.cons (ext_same (yc10 (P:=Tryz.prog) (T:=TT) (f:=Ga) (t:=63) (e:=69) (s:=3) (l:=0) (L:=w) (x:=(.tmp 10)) (C:=a1) (lo:=(.tmp 11)) (A:=o) (ka:=.i64) (by kernel_rfl) a2.1 a2.2)) (.cons (len_ob (f:=Ga) (l:=a0)) (.cons (bf a4) (.cons (ylen (P:=Tryz.prog) (T:=TT) (f:=Ga) (t:=63) (e:=69) (s:=3) (l:=0) (L:=w) (C:=a1) (x:=(.tmp 18)) (by kernel_rfl)) (.cons (bt a5) (.cons (yapp (P:=Tryz.prog) (T:=TT) (f:=Ga) (t:=63) (e:=69) (s:=3) (l:=0) (nl:=87) (C:=a1) (x:=(.tmp 23)) (y:=(.tmp 24)) (ti:=⟨3,40,.st [(0,3),(1,35),(2,4)],[.i .i64,.sl,.b]⟩) (by kernel_rfl) b9 (by kernel_rfl) (by kernel_rfl) (by decide) (fun _=>rfl) (by decide)) .nil))))))
   ·rw [if_neg a5] at h
    by_cases a7:(wi .i64 ((w.length:Int)+(a0.length:Int))) > (a1:Int)
    ·rw [if_pos a7] at h
     by_cases a8:(0≤o∧o≤(w.length:Int))∧w.length≤a1
     ·rw [if_pos a8] at h
      by_cases a3:(wi .i64 ((wi .i64 ((w.length:Int)+(a0.length:Int)))-o))=(((w.length+a0.length-o.toNat):Nat):Int)∧o.toNat≤w.length∧0<(w.length+a0.length-o.toNat)∧a1<o.toNat+(w.length+a0.length-o.toNat)∧o.toNat+(w.length+a0.length-o.toNat)≤maxLen∧(o.toNat+(w.length+a0.length-o.toNat))*40≤140737488355328
      ·rw [if_pos a3] at h
       by_cases b3:((0:Int)≤o∧o≤((w.take o.toNat++List.replicate (w.length+a0.length-o.toNat) (Gd.mk 0 [] false)).length:Int))
       ·rw [if_pos b3] at h
        by_cases b4:(w.take o.toNat++List.replicate (w.length+a0.length-o.toNat) (Gd.mk 0 [] false)).length≤(w.take o.toNat++List.replicate (w.length+a0.length-o.toNat) (Gd.mk 0 [] false)).length
        ·rw [if_pos b4] at h
         by_cases b5:((0:Int)≤(wi .i64 (o+(a0.length:Int)))∧(wi .i64 (o+(a0.length:Int)))≤((cpyR (w.take o.toNat++List.replicate (w.length+a0.length-o.toNat) (Gd.mk 0 [] false)) o.toNat ((w.take o.toNat++List.replicate (w.length+a0.length-o.toNat) (Gd.mk 0 [] false)).length) a0).length:Int))
         ·rw [if_pos b5] at h
          by_cases a9:(0≤o∧o≤(w.length:Int))∧w.length≤a1
          ·rw [if_pos a9] at h
           by_cases b0:(cpyR (w.take o.toNat++List.replicate (w.length+a0.length-o.toNat) (Gd.mk 0 [] false)) o.toNat ((w.take o.toNat++List.replicate (w.length+a0.length-o.toNat) (Gd.mk 0 [] false)).length) a0).length≤(cpyR (w.take o.toNat++List.replicate (w.length+a0.length-o.toNat) (Gd.mk 0 [] false)) o.toNat ((w.take o.toNat++List.replicate (w.length+a0.length-o.toNat) (Gd.mk 0 [] false)).length) a0).length∧w.length≤w.length
           ·rw [if_pos b0] at h
            obtain rfl:=Option.some.inj h
            exact pendH_sound TTok mix 32 (hs:=[.e 17 [0] (.ssl 0 o.toNat w.length 3) [],.u (di (a0.length:Int)),.t false,.e 52 [0] (di (w.length:Int)) [],.t false,.e 97 [0] (di (a1:Int)) [],.t true,.e 117 [0] (.ssl 0 0 o.toNat 3) [],.e 147 [0,147] (.srf 147) [(147,.row 69 3 ((w.take o.toNat++List.replicate (w.length+a0.length-o.toNat) (Gd.mk 0 [] false)).map Ga))],.e 167 [147] (.ssl 147 o.toNat ((w.take o.toNat++List.replicate (w.length+a0.length-o.toNat) (Gd.mk 0 [] false)).length) 3) [],.e 177 [147] (di ((Nat.min a0.length ((w.take o.toNat++List.replicate (w.length+a0.length-o.toNat) (Gd.mk 0 [] false)).length-o.toNat):Nat):Int)) [(147,.row 69 3 ((cpyR (w.take o.toNat++List.replicate (w.length+a0.length-o.toNat) (Gd.mk 0 [] false)) o.toNat ((w.take o.toNat++List.replicate (w.length+a0.length-o.toNat) (Gd.mk 0 [] false)).length) a0).map Ga))],.e 202 [147] (.ssl 147 ((wi .i64 (o+(a0.length:Int))).toNat) ((cpyR (w.take o.toNat++List.replicate (w.length+a0.length-o.toNat) (Gd.mk 0 [] false)) o.toNat ((w.take o.toNat++List.replicate (w.length+a0.length-o.toNat) (Gd.mk 0 [] false)).length) a0).length) 3) [],.e 217 [0] (.ssl 0 o.toNat w.length 3) [],.e 222 [147,0] (di ((Nat.min ((w.take w.length).drop o.toNat).length ((cpyR (w.take o.toNat++List.replicate (w.length+a0.length-o.toNat) (Gd.mk 0 [] false)) o.toNat ((w.take o.toNat++List.replicate (w.length+a0.length-o.toNat) (Gd.mk 0 [] false)).length) a0).length-(wi .i64 (o+(a0.length:Int))).toNat):Nat):Int)) [(147,.row 69 3 ((cpyR (cpyR (w.take o.toNat++List.replicate (w.length+a0.length-o.toNat) (Gd.mk 0 [] false)) o.toNat ((w.take o.toNat++List.replicate (w.length+a0.length-o.toNat) (Gd.mk 0 [] false)).length) a0) ((wi .i64 (o+(a0.length:Int))).toNat) ((cpyR (w.take o.toNat++List.replicate (w.length+a0.length-o.toNat) (Gd.mk 0 [] false)) o.toNat ((w.take o.toNat++List.replicate (w.length+a0.length-o.toNat) (Gd.mk 0 [] false)).length) a0).length) ((w.take w.length).drop o.toNat)).map Ga)),(0,.none)]]) [0,147] (by kernel_rfl) (by kernel_rfl) (by kernel_rfl) (.cons (ext_same (yc10 (P:=Tryz.prog) (T:=TT) (f:=Ga) (t:=63) (e:=69) (s:=3) (l:=0) (L:=w) (x:=(.tmp 10)) (C:=a1) (lo:=(.tmp 11)) (A:=o) (ka:=.i64) (by kernel_rfl) a2.1 a2.2)) (.cons (len_ob (f:=Ga) (l:=a0)) (.cons (bf a4) (.cons (ylen (P:=Tryz.prog) (T:=TT) (f:=Ga) (t:=63) (e:=69) (s:=3) (l:=0) (L:=w) (C:=a1) (x:=(.tmp 18)) (by kernel_rfl)) (.cons (bf a5) (.cons (ycap (P:=Tryz.prog) (T:=TT) (f:=Ga) (t:=63) (e:=69) (s:=3) (l:=0) (L:=w) (C:=a1) (x:=(.tmp 29)) (by kernel_rfl)) (.cons (dt a7) (.cons (ext_same (yc01 (P:=Tryz.prog) (T:=TT) (f:=Ga) (t:=63) (e:=69) (s:=3) (l:=0) (L:=w) (x:=(.tmp 32)) (C:=a1) (hi:=(.tmp 33)) (B:=o) (kb:=.i64) (by kernel_rfl) a8.1 a8.2)) (.cons (yapZ (P:=Tryz.prog) (T:=TT) (f:=Ga) (t:=63) (e:=69) (s:=3) (l:=0) (nl:=147) (C:=a1) (i:=o.toNat) (k:=(w.length+a0.length-o.toNat)) (L:=w) (x:=(.tmp 34)) (y:=(.tmp 39)) (ti:=⟨3,40,.st [(0,3),(1,35),(2,4)],[.i .i64,.sl,.b]⟩) (tn:=3) (kn:=.i64) (kq:=.i64) (z:=(Gd.mk 0 [] false)) (p:=.agg [.v (.int .i64 0),.sl [],.v (.bool false)]) (B:=(wi .i64 ((wi .i64 ((w.length:Int)+(a0.length:Int)))-o))) (by kernel_rfl) (by kernel_rfl) (by kernel_rfl) (by kernel_rfl) (by kernel_rfl) (by decide) rfl a3.1 a3.2.1 a3.2.2.1 a3.2.2.2.1 a3.2.2.2.2.1 a3.2.2.2.2.2 (by decide)) (.cons (xs10 (P:=Tryz.prog) (T:=TT) (f:=Ga) (t:=63) (e:=69) (s:=3) (l:=147) (L:=(w.take o.toNat++List.replicate (w.length+a0.length-o.toNat) (Gd.mk 0 [] false))) (x:=(.tmp 41)) (lo:=(.tmp 42)) (a:=o) (ka:=.i64) (by kernel_rfl) b3) (.cons (xcpD (P:=Tryz.prog) (T:=TT) (f:=Ga) (t:=63) (t':=63) (e:=69) (s:=3) (l:=147) (x:=(.tmp 43)) (y:=(.tmp 44)) (ti:=⟨3,40,.st [(0,3),(1,35),(2,4)],[.i .i64,.sl,.b]⟩) (L:=(w.take o.toNat++List.replicate (w.length+a0.length-o.toNat) (Gd.mk 0 [] false))) (Y:=a0) (i:=o.toNat) (j:=(w.take o.toNat++List.replicate (w.length+a0.length-o.toNat) (Gd.mk 0 [] false)).length) (by kernel_rfl) (by kernel_rfl) b4 (fun _=>rfl)) (.cons (xs10 (P:=Tryz.prog) (T:=TT) (f:=Ga) (t:=63) (e:=69) (s:=3) (l:=147) (L:=(cpyR (w.take o.toNat++List.replicate (w.length+a0.length-o.toNat) (Gd.mk 0 [] false)) o.toNat ((w.take o.toNat++List.replicate (w.length+a0.length-o.toNat) (Gd.mk 0 [] false)).length) a0)) (x:=(.tmp 46)) (lo:=(.tmp 49)) (a:=(wi .i64 (o+(a0.length:Int)))) (ka:=.i64) (by kernel_rfl) b5) (.cons (ext_same (yc10 (P:=Tryz.prog) (T:=TT) (f:=Ga) (t:=63) (e:=69) (s:=3) (l:=0) (L:=w) (x:=(.tmp 51)) (C:=a1) (lo:=(.tmp 52)) (A:=o) (ka:=.i64) (by kernel_rfl) a9.1 a9.2)) (.cons (ext_kill (l:=0) (ycpC (P:=Tryz.prog) (T:=TT) (f:=Ga) (t:=63) (t':=63) (e:=69) (s:=3) (l:=147) (x:=(.tmp 50)) (y:=(.tmp 53)) (ti:=⟨3,40,.st [(0,3),(1,35),(2,4)],[.i .i64,.sl,.b]⟩) (L:=(cpyR (w.take o.toNat++List.replicate (w.length+a0.length-o.toNat) (Gd.mk 0 [] false)) o.toNat ((w.take o.toNat++List.replicate (w.length+a0.length-o.toNat) (Gd.mk 0 [] false)).length) a0)) (i:=(wi .i64 (o+(a0.length:Int))).toNat) (j:=(cpyR (w.take o.toNat++List.replicate (w.length+a0.length-o.toNat) (Gd.mk 0 [] false)) o.toNat ((w.take o.toNat++List.replicate (w.length+a0.length-o.toNat) (Gd.mk 0 [] false)).length) a0).length) (p:=o.toNat) (q:=w.length) (Y:=w) (l':=0) (C:=a1) (by kernel_rfl) (by kernel_rfl) b0.1 b0.2)) .nil))))))))))))))
           ·rw [if_neg b0] at h; cases h
          ·rw [if_neg a9] at h; cases h
         ·rw [if_neg b5] at h; cases h
        ·rw [if_neg b4] at h; cases h
       ·rw [if_neg b3] at h; cases h
      ·rw [if_neg a3] at h; cases h
     ·rw [if_neg a8] at h; cases h
    ·rw [if_neg a7] at h
     by_cases a6:0<a0.length∧(w.length+a0.length)≤a1∧(wi .i64 ((w.length:Int)+(a0.length:Int)))=(((w.length+a0.length):Nat):Int)
     ·rw [if_pos a6] at h
      by_cases b1:(wi .i64 (o+(a0.length:Int)))=(((o.toNat+a0.length):Nat):Int)∧(o.toNat+a0.length)≤(w.length+a0.length)
      ·rw [if_pos b1] at h
       by_cases b2:(wi .i64 (o+(a0.length:Int)))=(((o.toNat+a0.length):Nat):Int)∧(o.toNat+a0.length)≤(w.length+a0.length)
       ·rw [if_pos b2] at h
        by_cases b6:0≤o∧o≤(((w.length+a0.length):Nat):Int)
        ·rw [if_pos b6] at h
         by_cases b7:0≤o∧o≤(((w.length+a0.length):Nat):Int)
         ·rw [if_pos b7] at h
          obtain rfl:=Option.some.inj h
          exact pendH_sound TTok mix 37 (hs:=[.e 17 [0] (.ssl 0 o.toNat w.length 3) [],.u (di (a0.length:Int)),.t false,.e 52 [0] (di (w.length:Int)) [],.t false,.e 97 [0] (di (a1:Int)) [],.t false,.e 127 [0] (.ssl 0 0 (w.length+a0.length) 3) [(0,.cu (rowH 69 3 a1 (w.map Ga) a0.length (([]:List Gd).map Ga)) [])],.e 162 [0] (.ssl 0 (o.toNat+a0.length) (w.length+a0.length) 3) [],.e 167 [0] (.d (.v (.bool false))) [],.c,.e 197 [0] (.ssl 0 (o.toNat+a0.length) (w.length+a0.length) 3) [],.e 212 [0] (.ssl 0 o.toNat (w.length+a0.length) 3) [],.e 217 [0] (di ((w.length-o.toNat:Nat):Int)) [(0,.cu (rowH 69 3 a1 ((w.take o.toNat).map Ga) a0.length ((w.drop o.toNat).map Ga)) [])],.e 232 [0] (.ssl 0 o.toNat (w.length+a0.length) 3) [],.e 242 [0] (di (a0.length:Int)) [(0,.cu (rowH 69 3 a1 (((w.take o.toNat)++a0++(w.drop o.toNat)).map Ga) 0 (([]:List Gd).map Ga)) [])],.e 247 [0,247] (.srf 247) [(0,.none),(247,.row 69 3 (((w.take o.toNat)++a0++(w.drop o.toNat)).map Ga))]]) [0,247] (by kernel_rfl) (by kernel_rfl) (by kernel_rfl) (.cons (ext_same (yc10 (P:=Tryz.prog) (T:=TT) (f:=Ga) (t:=63) (e:=69) (s:=3) (l:=0) (L:=w) (x:=(.tmp 10)) (C:=a1) (lo:=(.tmp 11)) (A:=o) (ka:=.i64) (by kernel_rfl) a2.1 a2.2)) (.cons (len_ob (f:=Ga) (l:=a0)) (.cons (bf a4) (.cons (ylen (P:=Tryz.prog) (T:=TT) (f:=Ga) (t:=63) (e:=69) (s:=3) (l:=0) (L:=w) (C:=a1) (x:=(.tmp 18)) (by kernel_rfl)) (.cons (bf a5) (.cons (ycap (P:=Tryz.prog) (T:=TT) (f:=Ga) (t:=63) (e:=69) (s:=3) (l:=0) (L:=w) (C:=a1) (x:=(.tmp 29)) (by kernel_rfl)) (.cons (df a7) (.cons (ycup (P:=Tryz.prog) (T:=TT) (f:=Ga) (t:=63) (e:=69) (s:=3) (l:=0) (L:=w) (x:=(.tmp 56)) (C:=a1) (m:=a0.length) (hi:=(.tmp 59)) (B:=(wi .i64 ((w.length:Int)+(a0.length:Int)))) (kb:=.i64) (by kernel_rfl) a6.1 a6.2.1 a6.2.2) (.cons (ext_same (yh10q (P:=Tryz.prog) (T:=TT) (f:=Ga) (t:=63) (e:=69) (s:=3) (l:=0) (L:=w) (x:=(.tmp 62)) (C:=a1) (m:=a0.length) (k:=(w.length+a0.length)) (Z:=([]:List Gd)) (q:=(o.toNat+a0.length)) (lo:=(.tmp 65)) (A:=(wi .i64 (o+(a0.length:Int)))) (ka:=.i64) (by kernel_rfl) (by simp only [List.length_take,List.length_drop,List.length_nil]; omega) b1.1 b1.2)) (.cons (yov (P:=Tryz.prog) (T:=TT) (f:=Ga) (t:=63) (e:=69) (s:=3) (l:=0) (L:=w) (Y:=a0) (Z:=([]:List Gd)) (m:=a0.length) (C:=a1) (i:=(o.toNat+a0.length)) (j:=(w.length+a0.length)) (x:=(.tmp 61)) (y:=(.tmp 66)) (g:=51) (fn:=Tryz.f51) (tR:=4) (tys:=#[63,63]) (by kernel_rfl) (by kernel_rfl) (by kernel_rfl) (by kernel_rfl) (by kernel_rfl) (by kernel_rfl) (by decide) (fun _=>rfl)) (.cons (ext_same (yh10q (P:=Tryz.prog) (T:=TT) (f:=Ga) (t:=63) (e:=69) (s:=3) (l:=0) (L:=w) (x:=(.tmp 69)) (C:=a1) (m:=a0.length) (k:=(w.length+a0.length)) (Z:=([]:List Gd)) (q:=(o.toNat+a0.length)) (lo:=(.tmp 72)) (A:=(wi .i64 (o+(a0.length:Int)))) (ka:=.i64) (by kernel_rfl) (by simp only [List.length_take,List.length_drop,List.length_nil]; omega) b2.1 b2.2)) (.cons (ext_same (yh10 (P:=Tryz.prog) (T:=TT) (f:=Ga) (t:=63) (e:=69) (s:=3) (l:=0) (L:=w) (x:=(.tmp 74)) (C:=a1) (m:=a0.length) (k:=(w.length+a0.length)) (Y:=([]:List Gd)) (lo:=(.tmp 75)) (A:=o) (ka:=.i64) (by kernel_rfl) (by simp only [List.length_take,List.length_drop,List.length_nil]; omega) b6)) (.cons (ycpS (P:=Tryz.prog) (T:=TT) (f:=Ga) (t:=63) (t':=63) (e:=69) (s:=3) (l:=0) (x:=(.tmp 73)) (y:=(.tmp 76)) (ti:=⟨3,40,.st [(0,3),(1,35),(2,4)],[.i .i64,.sl,.b]⟩) (L:=w) (i:=o.toNat) (m:=a0.length) (C:=a1) (by kernel_rfl) (by kernel_rfl) (by omega)) (.cons (ext_same (yh10 (P:=Tryz.prog) (T:=TT) (f:=Ga) (t:=63) (e:=69) (s:=3) (l:=0) (L:=(w.take o.toNat)) (x:=(.tmp 78)) (C:=a1) (m:=a0.length) (k:=(w.length+a0.length)) (Y:=(w.drop o.toNat)) (lo:=(.tmp 79)) (A:=o) (ka:=.i64) (by kernel_rfl) (by simp only [List.length_take,List.length_drop,List.length_nil]; omega) b7)) (.cons (ycpD (P:=Tryz.prog) (T:=TT) (f:=Ga) (t:=63) (t':=63) (e:=69) (s:=3) (l:=0) (x:=(.tmp 80)) (y:=(.tmp 81)) (ti:=⟨3,40,.st [(0,3),(1,35),(2,4)],[.i .i64,.sl,.b]⟩) (L:=(w.take o.toNat)) (Y:=a0) (Z:=(w.drop o.toNat)) (i:=o.toNat) (k:=(w.length+a0.length)) (m:=a0.length) (C:=a1) (by kernel_rfl) (by kernel_rfl) (by simp only [List.length_take,List.length_drop,List.length_nil]; omega) (by simp only [List.length_take,List.length_drop,List.length_nil]; omega) rfl (by omega) (fun _=>rfl)) (.cons (ymvH (L:=((w.take o.toNat)++a0++(w.drop o.toNat))) (C:=a1) (k:=(w.length+a0.length)) (P:=Tryz.prog) (T:=TT) (f:=Ga) (e:=69) (s:=3) (l:=0) (nl:=247) (x:=(.tmp 0)) (by simp only [List.length_append,List.length_take,List.length_drop]; omega)) .nil))))))))))))))))
         ·rw [if_neg b7] at h; cases h
        ·rw [if_neg b6] at h; cases h
       ·rw [if_neg b2] at h; cases h
      ·rw [if_neg b1] at h; cases h
     ·rw [if_neg a6] at h; cases h
 ·rw [if_neg a2] at h; cases h
def Gx (n:Nat) (s:(List Gd)) (i:Int) (v:(List Gd)):Option (List Gd):=insI 40 s i v
theorem Yx (C n:Nat) (s:(List Gd)) (i:Int) (v r:(List Gd)) (a:s.length≤C) (b:C≤maxLen) (h:Gx n s i v=some r):Sm n C s i v=some r:=by
 unfold Gx insI at h
 split at h
 ·rename_i c
  obtain ⟨c1,c2,c3,c4⟩:=c
  obtain rfl:=Option.some.inj h
  obtain ⟨i,rfl⟩:=Int.eq_ofNat_of_zero_le c1
  simp only [Int.toNat_natCast]
  have hi:i≤s.length:=by omega
  have w1:wi .i64 ((s.length:Int)+(v.length:Int))=((s.length+v.length:Nat):Int):=by rw [wi,IntKind.wrap_i64]; omega
  have w2:wi .i64 ((i:Int)+(v.length:Int))=((i+v.length:Nat):Int):=by rw [wi,IntKind.wrap_i64]; omega
  have w3:wi .i64 (((s.length+v.length:Nat):Int)-(i:Int))=((s.length+v.length-i:Nat):Int):=by rw [wi,IntKind.wrap_i64]; omega
  unfold Sm
  rw [if_pos ⟨⟨by omega,by omega⟩,a⟩]
  by_cases hm:(v.length:Int)=0
  ·rw [if_pos hm]
   have:v=[]:=List.eq_nil_of_length_eq_zero (by omega)
   subst this; simp
  ·rw [if_neg hm]
   by_cases he:(i:Int)=(s.length:Int)
   ·rw [if_pos he]
    have e:i=s.length:=by omega
    subst e
    unfold app
    rw [if_pos ⟨by unfold maxLen; omega,c4⟩]
    simp
   ·rw [if_neg he,w1]
    by_cases hg:((s.length+v.length:Nat):Int) > (C:Int)
    ·rw [if_pos hg,w3]
     simp only [Int.toNat_natCast]
     have hl:(s.take i++List.replicate (s.length+v.length-i) (Gd.mk 0 [] false)).length=s.length+v.length:=by simp; omega
     rw [if_pos ⟨⟨by omega,by omega⟩,a⟩,if_pos ⟨trivial,hi,by omega,by omega,by unfold maxLen; omega,by rw [show i+(s.length+v.length-i)=s.length+v.length by omega]; exact c4⟩,w2]
     simp only [Int.toNat_natCast]
     rw [if_pos ⟨by omega,by rw [hl]; omega⟩,if_pos (Nat.le_refl _)]
     have hl2:(cpyR (s.take i++List.replicate (s.length+v.length-i) (Gd.mk 0 [] false)) i (s.take i++List.replicate (s.length+v.length-i) (Gd.mk 0 [] false)).length v).length=s.length+v.length:=by
      unfold cpyR
      rw [hl]
      rcases Nat.le_total v.length (s.length+v.length-i) with h' | h'
      ·rw [show Nat.min v.length (s.length+v.length-i)=v.length from Nat.min_eq_left h']; simp; omega
      ·rw [show Nat.min v.length (s.length+v.length-i)=s.length+v.length-i from Nat.min_eq_right h']; simp; omega
     rw [if_pos ⟨by omega,by rw [hl2]; omega⟩,if_pos ⟨⟨by omega,by omega⟩,a⟩,if_pos ⟨Nat.le_refl _,Nat.le_refl _⟩]
     rw [ins_grow hi rfl]
    ·rw [if_neg hg,w2]
     simp only [Int.toNat_natCast]
     rw [if_pos ⟨by omega,by omega,trivial⟩,if_pos ⟨trivial,by omega⟩,if_pos ⟨trivial,by omega⟩,if_pos ⟨by omega,by omega⟩,if_pos ⟨by omega,by omega⟩]
 ·cases h
theorem Zd (n:Nat) (s:(List Gd)) (i:Int) (v r:(List Gd)) (h:Gx n s i v=some r):RetH Tryz.prog 39 [.srf 0,di i,.d ((eL Ga) v)] [.row 69 3 (s.map Ga)] (.srf 1) [.none,.row 69 3 (r.map Ga)] :=
 retH_cap ⟨Tryz.f39,by kernel_rfl,by kernel_rfl,by kernel_rfl⟩ (fun C a b=>Yw n C s i v r (Yx C n s i v r (by simpa using a) b h))
inductive Zn where
 | x0 (a b:(List Int)) (c:(List Gk)) (d:(List Gd))
def Vr:Zn→Ex
 | .x0 _ _ _ _=>.normal
def Vs (b:(Int×Gh×Gf)) (a:Gd):Zn→PS
 | .x0 c e f g=>⟨(.ref 6 0::dd::dd::.ref 16 0::(dds 76 [])),[.gh 0 (.ref 6 0),.gh 1 (.srf 12),.gh 2 (.ref 7 0),.gh 3 (.srf 13),.gh 4 (.srf 14),.gh 5 (.srf 15),.box [.ref 7 0,di b.2.1.fslots,.srf 11],.box [.srf 8,.srf 9,.srf 10,di b.2.2.ffuse],.row 5 1 (c.map (eI .u8)),.row 5 1 (e.map (eI .u8)),.row 84 2 (f.map Ge),.row 69 3 (g.map Ga),.none,.none,.none,.none,.box [di a.fn,.d (.sl (a.fdata.map (eI .u8))),.d (.v (.bool a.fdirty))]]⟩
def Vt (a:(Int×Gh×Gf)) (b:Gd)  : PS:=⟨(.ref 6 0::dd::dd::.ref 16 0::di a.1::dd::dd::dd::dd::dd::dd::.d (.v (.bool (decide (a.1≥0))))::(dds 68 [])),[.gh 0 (.ref 6 0),.gh 1 (.srf 12),.gh 2 (.ref 7 0),.gh 3 (.srf 13),.gh 4 (.srf 14),.gh 5 (.srf 15),.box [.ref 7 0,di a.2.1.fslots,.srf 11],.box [.srf 8,.srf 9,.srf 10,di a.2.2.ffuse],.row 5 1 (a.2.2.fsafe.map (eI .u8)),.row 5 1 (a.2.2.fnow.map (eI .u8)),.row 84 2 (a.2.2.fwait.map Ge),.row 69 3 (a.2.1.fl.map Ga),.none,.none,.none,.none,.box [di b.fn,.d (.sl (b.fdata.map (eI .u8))),.d (.v (.bool b.fdirty))]]⟩
def ZC (n:Nat) (a:(Int×Gh×Gf)) (c:Gd):Option Zn :=
 if a.1≥0 then
  (G0 n a.2.1.fl a.1 (wi .i64 (a.1+1))).bind fun (b:((List Gd))) =>
  some (.x0 a.2.2.fsafe a.2.2.fnow a.2.2.fwait b)
 else
  some (.x0 a.2.2.fsafe a.2.2.fnow a.2.2.fwait a.2.1.fl)
theorem Vu {Fi:Ex→PS→Prop} (hF:KC 80 Fi) (ks:List Fr) (n:Nat) (a:(Int×Gh×Gf)) (d:Gd)  (o:Zn) (h:ZC n a d=some o) (q:RunE Tryz.prog 80 Fi ks (Vr o) (Vs a d o)):RunE Tryz.prog 80 Fi (.s (cR (cR (cL (cR (bodyOf Tryz.f24)))))::ks) .normal (Vt a d):=by
 unfold ZC at h
 by_cases b:a.1≥0
 ·rw [if_pos b] at h
  obtain ⟨e,f,h⟩:=bind_some h
  cases h
  exact pkk_sound TTok mix hF 2 (hs:=[.t true,.c,.h [11] [] [.none,.row 69 3 (e.map Ga)] (.srf 1),.c]) (ts:=[]) (s:=[0,1,2,3,4,5,6,7,8,9,10,57,12,13,14,15,16]) (l:=[0,3]) (by kernel_rfl) (by kernel_rfl) (.cons (dt b) (.cons (YA n a.2.1.fl a.1 (wi .i64 (a.1+1)) _ f) (.cons (show 2+1≤3 by decide) .nil))) q
 ·rw [if_neg b] at h
  cases h
  exact pkk_sound TTok mix hF 2 (hs:=[.t false]) (ts:=[]) (s:=[0,1,2,3,4,5,6,7,8,9,10,11,12,13,14,15,16]) (l:=[0,3]) (by kernel_rfl) (by kernel_rfl) (.cons (df b) .nil) q
inductive Zo where
 | x0 (a:Int) (b c:(List Int)) (d:(List Gk)) (e:(List Gd))
 | x1 (f g:(List Int)) (h:(List Gk)) (i:(List Gd))
def Vv:Zo→Ex
 | .x0 _ _ _ _ _=>.normal
 | .x1 _ _ _ _=>.normal
def Vw (m:(List Gd)) (b:(Int×Gh×Gf)) (n o:(List Int)) (p:(List Gk)) (a:Gd):Zo→PS
 | .x0 c e f g h=>⟨(.ref 6 0::dd::dd::.ref 16 0::(dds 76 [])),[.gh 0 (.ref 6 0),.gh 1 (.srf 12),.gh 2 (.ref 7 0),.gh 3 (.srf 13),.gh 4 (.srf 14),.gh 5 (.srf 15),.box [.ref 7 0,di b.2.1.fslots,.srf 11],.box [.srf 8,.srf 9,.srf 10,di c],.row 5 1 (e.map (eI .u8)),.row 5 1 (f.map (eI .u8)),.row 84 2 (g.map Ge),.row 69 3 (h.map Ga),.none,.none,.none,.none,.box [di a.fn,.d (.sl (a.fdata.map (eI .u8))),.d (.v (.bool a.fdirty))]]⟩
 | .x1 i j k l=>⟨(.ref 6 0::dd::dd::.ref 16 0::(dds 76 [])),[.gh 0 (.ref 6 0),.gh 1 (.srf 12),.gh 2 (.ref 7 0),.gh 3 (.srf 13),.gh 4 (.srf 14),.gh 5 (.srf 15),.box [.ref 7 0,di b.2.1.fslots,.srf 11],.box [.srf 8,.srf 9,.srf 10,di b.2.2.ffuse],.row 5 1 (i.map (eI .u8)),.row 5 1 (j.map (eI .u8)),.row 84 2 (k.map Ge),.row 69 3 (l.map Ga),.none,.none,.none,.none,.box [di a.fn,.d (.sl (a.fdata.map (eI .u8))),.d (.v (.bool a.fdirty))]]⟩
def Vx (c:(List Gd)) (a:(Int×Gh×Gf)) (e f:(List Int)) (g:(List Gk)) (b:Gd)  : PS:=⟨(.ref 6 0::dd::dd::.ref 16 0::(dds 28 (.d (.v (.bool ((c.length:Int) == a.2.1.fslots)))::(dds 47 [])))),[.gh 0 (.ref 6 0),.gh 1 (.srf 12),.gh 2 (.ref 7 0),.gh 3 (.srf 13),.gh 4 (.srf 14),.gh 5 (.srf 15),.box [.ref 7 0,di a.2.1.fslots,.srf 11],.box [.srf 8,.srf 9,.srf 10,di a.2.2.ffuse],.row 5 1 (e.map (eI .u8)),.row 5 1 (f.map (eI .u8)),.row 84 2 (g.map Ge),.row 69 3 (c.map Ga),.none,.none,.none,.none,.box [di b.fn,.d (.sl (b.fdata.map (eI .u8))),.d (.v (.bool b.fdirty))]]⟩
def KU (n:Nat) (a:(List Gd)) (g:(Int×Gh×Gf)) (c d:(List Int)) (e:(List Gk)) (j:Gd):Option Zo :=
 if (a.length:Int)=g.2.1.fslots then
  if 0≤(wi .i64 ((a.length:Int)-1))∧((wi .i64 ((a.length:Int)-1))).toNat<a.length then
   (a[((wi .i64 ((a.length:Int)-1))).toNat]?).bind fun (f:Gd) =>
   if f.fdirty=true then
    (S9 n (Gf.mk c d e g.2.2.ffuse) f.fn f.fdata).bind fun (b:(Int×Gf)) =>
    (sub a 0 (wi .i64 ((a.length:Int)-1))).bind fun (h:(List Gd)) =>
    some (.x0 b.2.ffuse b.2.fsafe b.2.fnow b.2.fwait h)
   else
    (sub a 0 (wi .i64 ((a.length:Int)-1))).bind fun (i:(List Gd)) =>
    some (.x1 c d e i)
  else none
 else
  some (.x1 c d e a)
theorem Vy {Fi:Ex→PS→Prop} (hF:KC 80 Fi) (ks:List Fr) (n:Nat) (a:(List Gd)) (b:(Int×Gh×Gf)) (j k:(List Int)) (m:(List Gk)) (x:Gd)  (o:Zo) (h:KU n a b j k m x=some o) (q:RunE Tryz.prog 80 Fi ks (Vv o) (Vw a b j k m x o)):RunE Tryz.prog 80 Fi (.s (cR (cL (cR (cR (bodyOf Tryz.f24)))))::ks) .normal (Vx a b j k m x):=by
 unfold KU at h
 by_cases e:(a.length:Int)=b.2.1.fslots
 ·rw [if_pos e] at h
  by_cases p:0≤(wi .i64 ((a.length:Int)-1))∧((wi .i64 ((a.length:Int)-1))).toNat<a.length
  ·rw [if_pos p] at h
   obtain ⟨g,a1,h⟩:=bind_some h
   by_cases r:g.fdirty=true
   ·rw [if_pos r] at h
    obtain ⟨i,a2,h⟩:=bind_some h
    obtain ⟨a3,z,h⟩:=bind_some h
    cases h
    exact pkk_sound TTok mix hF 9 (hs:=[.t true,.c,.c,.u (di (a.length:Int)),.y (Ga g),.c,.c,.t true,.c,.c,.c,.h [7,8,9,10] [] [.box [.srf 4,.srf 5,.srf 6,di i.2.ffuse],.none,.none,.none,.row 5 1 (i.2.fsafe.map (eI .u8)),.row 5 1 (i.2.fnow.map (eI .u8)),.row 84 2 (i.2.fwait.map Ge)] (di i.1),.c,.c,.u (di (a.length:Int)),.w (a3.map Ga),.c]) (ts:=[]) (s:=[0,1,2,3,4,5,6,7,137,138,139,197,12,13,14,15,16]) (l:=[0,3]) (by kernel_rfl) (by kernel_rfl) (.cons (bt e) (.cons (len_ob (f:=Ga) (l:=a)) (.cons (idx_ob (f:=Ga) p) (.cons (get_ob (f:=Ga) a1) (.cons (show 0+3≤3 by decide) (.cons r (.cons (Up n (Gf.mk j k m b.2.2.ffuse) g.fn g.fdata _ a2) (.cons (len_ob (f:=Ga) (l:=a)) (.cons (Eq.refl (0:Int)) (.cons (subR_ob (f:=Ga) z).1 (.cons (subR_ob (f:=Ga) z).2.1 (.cons (subR_ob (f:=Ga) z).2.2 (.cons (show 2+1≤3 by decide) .nil))))))))))))) q
   ·rw [if_neg r] at h
    obtain ⟨a4,a0,h⟩:=bind_some h
    cases h
    exact pkk_sound TTok mix hF 9 (hs:=[.t true,.c,.c,.u (di (a.length:Int)),.y (Ga g),.c,.c,.t false,.c,.c,.u (di (a.length:Int)),.w (a4.map Ga),.c]) (ts:=[]) (s:=[0,1,2,3,4,5,6,7,8,9,10,152,12,13,14,15,16]) (l:=[0,3]) (by kernel_rfl) (by kernel_rfl) (.cons (bt e) (.cons (len_ob (f:=Ga) (l:=a)) (.cons (idx_ob (f:=Ga) p) (.cons (get_ob (f:=Ga) a1) (.cons (show 0+3≤3 by decide) (.cons (vf r) (.cons (len_ob (f:=Ga) (l:=a)) (.cons (Eq.refl (0:Int)) (.cons (subR_ob (f:=Ga) a0).1 (.cons (subR_ob (f:=Ga) a0).2.1 (.cons (subR_ob (f:=Ga) a0).2.2 (.cons (show 2+1≤3 by decide) .nil)))))))))))) q
  ·rw [if_neg p] at h; cases h
 ·rw [if_neg e] at h
  cases h
  exact pkk_sound TTok mix hF 2 (hs:=[.t false]) (ts:=[]) (s:=[0,1,2,3,4,5,6,7,8,9,10,11,12,13,14,15,16]) (l:=[0,3]) (by kernel_rfl) (by kernel_rfl) (.cons (bf e) .nil) q
/- (*ringhall/buffer.Cache).use -/
def Si (n:Nat) (c:Gh) (d:Gf) (a:Gd):Option (Gh×Gf) :=
 (SL n c d a.fn).bind fun (b:(Int×Gh×Gf)) =>
 (ZC n b a).bind fun e=>match e with
 | .x0 f g h i =>
  (KU n i b f g h a).bind fun j=>match j with
  | .x0 k l m o p =>
   (Gx n p 0 ([a])).bind fun (q:((List Gd))) =>
   some ((Gh.mk () b.2.1.fslots q),(Gf.mk l m o k))
  | .x1 r s t u =>
   (Gx n u 0 ([a])).bind fun (v:((List Gd))) =>
   some ((Gh.mk () b.2.1.fslots v),(Gf.mk r s t b.2.2.ffuse))
theorem ZD (n:Nat) (g:Gh) (a:Gf) (e:Gd) (r:Gh×Gf) (h:Si n g a e=some r):RetH Tryz.prog 24 [.ref 0 0,.d (Ga e)] [.box [.ref 2 0,di g.fslots,.srf 1],.row 69 3 (g.fl.map Ga),.box [.srf 3,.srf 4,.srf 5,di a.ffuse],.row 5 1 (a.fsafe.map (eI .u8)),.row 5 1 (a.fnow.map (eI .u8)),.row 84 2 (a.fwait.map Ge)] (.tup []) [.box [.ref 2 0,di r.1.fslots,.srf 6],.none,.box [.srf 7,.srf 8,.srf 9,di r.2.ffuse],.none,.none,.none,.row 69 3 (r.1.fl.map Ga),.row 5 1 (r.2.fsafe.map (eI .u8)),.row 5 1 (r.2.fnow.map (eI .u8)),.row 84 2 (r.2.fwait.map Ge)]:=by
 refine retH_run (n:=80) (fn:=Tryz.f24) (c:=bodyOf Tryz.f24) (by kernel_rfl) (by kernel_rfl) (by kernel_rfl) (by kernel_rfl) ?_
 have hF:KC 80 (FinH Tryz.prog Tryz.f24 [.box [.ref 2 0,di g.fslots,.srf 1],.row 69 3 (g.fl.map Ga),.box [.srf 3,.srf 4,.srf 5,di a.ffuse],.row 5 1 (a.fsafe.map (eI .u8)),.row 5 1 (a.fnow.map (eI .u8)),.row 84 2 (a.fwait.map Ge)] (.tup []) [.box [.ref 2 0,di r.1.fslots,.srf 6],.none,.box [.srf 7,.srf 8,.srf 9,di r.2.ffuse],.none,.none,.none,.row 69 3 (r.1.fl.map Ga),.row 5 1 (r.2.fsafe.map (eI .u8)),.row 5 1 (r.2.fnow.map (eI .u8)),.row 84 2 (r.2.fwait.map Ge)]):=FinH.kc' (by kernel_rfl)
 unfold Si at h
 obtain ⟨b,j,h⟩:=bind_some h
 obtain ⟨k,m,h⟩:=bind_some h
 refine pkk_sound TTok mix hF 7 (hs:=[.c,.h [0,1,2,3,4,5] [] [.box [.ref 2 0,di b.2.1.fslots,.srf 6],.none,.box [.srf 7,.srf 8,.srf 9,di b.2.2.ffuse],.none,.none,.none,.row 69 3 (b.2.1.fl.map Ga),.row 5 1 (b.2.2.fsafe.map (eI .u8)),.row 5 1 (b.2.2.fnow.map (eI .u8)),.row 84 2 (b.2.2.fwait.map Ge)] (di b.1)]) (ts:=[]) (s:=[6,7,8,9,10,11,0,2,33,34,35,32,1,3,4,5,12]) (l:=[0,3,4,11]) (by kernel_rfl) (by kernel_rfl) (.cons (KH n g a e.fn _ j) .nil) (Vu hF (.s (cR (cR (bodyOf Tryz.f24)))::[]) n b e _ m ?_)
 cases k with
 | x0 o p q i =>
  try dsimp only at h
  obtain ⟨t,w,h⟩:=bind_some h
  refine pkk_sound TTok mix hF 3 (hs:=[.c,.u (di (i.length:Int)),.c]) (ts:=[]) (s:=[0,1,2,3,4,5,6,7,8,9,10,11,12,13,14,15,16]) (l:=[0,3,32]) (by kernel_rfl) (by kernel_rfl) (.cons (len_ob (f:=Ga) (l:=i)) .nil) (Vy hF (.s (cR (cR (cR (bodyOf Tryz.f24))))::[]) n i b o p q e _ w ?_)
  cases t with
  | x0 a3 a4 a5 a6 x =>
   try dsimp only at h
   obtain ⟨y,z,h⟩:=bind_some h
   obtain rfl:=Option.some.inj h
   exact pendH_sound TTok mix 1 (hs:=[.c,.c,.bd,.h [11] [] [.none,.row 69 3 (y.map Ga)] (.srf 1),.c]) [6,12,7,13,14,15,52,8,9,10] (by kernel_rfl) (by kernel_rfl) (by kernel_rfl) (.cons (Zd n x 0 ([e]) _ z) (.cons (show 2+1≤3 by decide) .nil))
  | x1 a7 a8 a9 a0 =>
   try dsimp only at h
   obtain ⟨a1,a2,h⟩:=bind_some h
   obtain rfl:=Option.some.inj h
   exact pendH_sound TTok mix 1 (hs:=[.c,.c,.bd,.h [11] [] [.none,.row 69 3 (a1.map Ga)] (.srf 1),.c]) [6,12,7,13,14,15,52,8,9,10] (by kernel_rfl) (by kernel_rfl) (by kernel_rfl) (.cons (Zd n a0 0 ([e]) _ a2) (.cons (show 2+1≤3 by decide) .nil))
inductive Zp where
 | x0 (a:Bool) (b c:(List Int)) (d:(List Gk)) (e:(List Gd))
 | x1 (f:Bool) (g:Int) (h i:(List Int)) (j:(List Gk)) (k:(List Gd))
def Vz:Zp→Ex
 | .x0 _ _ _ _ _=>.normal
 | .x1 _ _ _ _ _ _=>.normal
def VA (a:Int) (b:(List Int)) (c:Gh) (e:Gf):Zp→PS
 | .x0 f g h i j=>⟨(.ref 6 0::di a::.d (.sl (b.map (eI .u8)))::(dds 19 [.d (.v (.bool f)),dd,dd,dd,dd,dd,dd])),[.gh 0 (.ref 6 0),.gh 1 (.srf 11),.gh 2 (.ref 7 0),.gh 3 (.srf 8),.gh 4 (.srf 9),.gh 5 (.srf 10),.box [.ref 7 0,di c.fslots,.srf 11],.box [.srf 8,.srf 9,.srf 10,di e.ffuse],.row 5 1 (g.map (eI .u8)),.row 5 1 (h.map (eI .u8)),.row 84 2 (i.map Ge),.row 69 3 (j.map Ga)]⟩
 | .x1 k l m n o p=>⟨(.ref 6 0::di a::.d (.sl (b.map (eI .u8)))::(dds 19 [.d (.v (.bool k)),dd,dd,dd,dd,dd,dd])),[.gh 0 (.ref 6 0),.gh 1 (.srf 11),.gh 2 (.ref 7 0),.gh 3 (.srf 12),.gh 4 (.srf 13),.gh 5 (.srf 14),.box [.ref 7 0,di c.fslots,.srf 11],.box [.srf 8,.srf 9,.srf 10,di l],.row 5 1 (m.map (eI .u8)),.row 5 1 (n.map (eI .u8)),.row 84 2 (o.map Ge),.row 69 3 (p.map Ga),.none,.none,.none]⟩
def VB (c:Int) (e:(List Int)) (b:Gh) (a:Gf)  : PS:=⟨(.ref 6 0::di c::.d (.sl (e.map (eI .u8)))::(dds 26 [])),[.gh 0 (.ref 6 0),.gh 1 (.srf 11),.gh 2 (.ref 7 0),.gh 3 (.srf 8),.gh 4 (.srf 9),.gh 5 (.srf 10),.box [.ref 7 0,di b.fslots,.srf 11],.box [.srf 8,.srf 9,.srf 10,di a.ffuse],.row 5 1 (a.fsafe.map (eI .u8)),.row 5 1 (a.fnow.map (eI .u8)),.row 84 2 (a.fwait.map Ge),.row 69 3 (b.fl.map Ga)]⟩
def ZE (n:Nat) (d:Int) (e:(List Int)) (c:Gh) (b:Gf):Option Zp :=
 if d<0 then
  some (.x0 true b.fsafe b.fnow b.fwait c.fl)
 else
  (Kg n b).bind fun (a:(Int×Gf)) =>
  if d≥a.1 then
   some (.x1 true a.2.ffuse a.2.fsafe a.2.fnow a.2.fwait c.fl)
  else
   some (.x1 ((e.length:Int) != 64) a.2.ffuse a.2.fsafe a.2.fnow a.2.fwait c.fl)
theorem VC {Fi:Ex→PS→Prop} (hF:KC 29 Fi) (ks:List Fr) (n:Nat) (b:Int) (e:(List Int)) (k:Gh) (g:Gf)  (o:Zp) (h:ZE n b e k g=some o) (q:RunE Tryz.prog 29 Fi ks (Vz o) (VA b e k g o)):RunE Tryz.prog 29 Fi (.s (cL (cL (cR (bodyOf Tryz.f9))))::ks) .normal (VB b e k g):=by
 unfold ZE at h
 by_cases i:b<0
 ·rw [if_pos i] at h
  cases h
  exact pkk_sound TTok mix hF 1 (hs:=[.t true,.c,.c,.c,.c,.c,.c,.c,.c,.c]) (ts:=[]) (s:=[0,1,2,3,4,5,6,7,8,9,10,11]) (l:=[0,1,2,22]) (by kernel_rfl) (by kernel_rfl) (.cons (dt i) .nil) q
 ·rw [if_neg i] at h
  obtain ⟨a,m,h⟩:=bind_some h
  by_cases j:b≥a.1
  ·rw [if_pos j] at h
   cases h
   exact pkk_sound TTok mix hF 1 (hs:=[.t false,.c,.c,.c,.c,.c,.c,.h [7,8,9,10] [] [.box [.srf 4,.srf 5,.srf 6,di a.2.ffuse],.none,.none,.none,.row 5 1 (a.2.fsafe.map (eI .u8)),.row 5 1 (a.2.fnow.map (eI .u8)),.row 84 2 (a.2.fwait.map Ge)] (di a.1),.c,.t true,.c,.c]) (ts:=[]) (s:=[0,1,2,3,4,5,6,7,52,53,54,11,8,9,10]) (l:=[0,1,2,22]) (by kernel_rfl) (by kernel_rfl) (.cons (df i) (.cons (KA n g _ m) (.cons (dt j) .nil))) q
  ·rw [if_neg j] at h
   cases h
   exact pkk_sound TTok mix hF 1 (hs:=[.t false,.c,.c,.c,.c,.c,.c,.h [7,8,9,10] [] [.box [.srf 4,.srf 5,.srf 6,di a.2.ffuse],.none,.none,.none,.row 5 1 (a.2.fsafe.map (eI .u8)),.row 5 1 (a.2.fnow.map (eI .u8)),.row 84 2 (a.2.fwait.map Ge)] (di a.1),.c,.t false,.c,.u (di (e.length:Int)),.c]) (ts:=[]) (s:=[0,1,2,3,4,5,6,7,52,53,54,11,8,9,10]) (l:=[0,1,2,22]) (by kernel_rfl) (by kernel_rfl) (.cons (df i) (.cons (KA n g _ m) (.cons (df j) (.cons (len_ob (f:=(eI .u8)) (l:=e)) .nil)))) q
/- (*ringhall/buffer.Cache).Put -/
def KP (n:Nat) (a:Gh) (b:Gf) (c:Int) (d:(List Int)):Option (Int×Gh×Gf) :=
 (ZE n c d a b).bind fun q=>match q with
 | .x0 r e f g h =>
  if r=true then
   some (1,(Gh.mk () a.fslots h),(Gf.mk e f g b.ffuse))
  else
   (Gq n d).bind fun (s:((List Int))) =>
   (Si n (Gh.mk () a.fslots h) (Gf.mk e f g b.ffuse) (Gd.mk c s true)).bind fun (i:(Gh×Gf)) =>
   some (0,i.1,i.2)
 | .x1 t j k l m o =>
  if t=true then
   some (1,(Gh.mk () a.fslots o),(Gf.mk k l m j))
  else
   (Gq n d).bind fun (u:((List Int))) =>
   (Si n (Gh.mk () a.fslots o) (Gf.mk k l m j) (Gd.mk c u true)).bind fun (p:(Gh×Gf)) =>
   some (0,p.1,p.2)
theorem Um (n:Nat) (b:Gh) (a:Gf) (g:Int) (i:(List Int)) (r:Int×Gh×Gf) (h:KP n b a g i=some r):RetH Tryz.prog 9 [.ref 0 0,.d ((eI .i64) g),.d ((eL (eI .u8)) i)] [.box [.ref 2 0,di b.fslots,.srf 1],.row 69 3 (b.fl.map Ga),.box [.srf 3,.srf 4,.srf 5,di a.ffuse],.row 5 1 (a.fsafe.map (eI .u8)),.row 5 1 (a.fnow.map (eI .u8)),.row 84 2 (a.fwait.map Ge)] (.d ((eI .i64) r.1)) [.box [.ref 2 0,di r.2.1.fslots,.srf 6],.none,.box [.srf 7,.srf 8,.srf 9,di r.2.2.ffuse],.none,.none,.none,.row 69 3 (r.2.1.fl.map Ga),.row 5 1 (r.2.2.fsafe.map (eI .u8)),.row 5 1 (r.2.2.fnow.map (eI .u8)),.row 84 2 (r.2.2.fwait.map Ge)]:=by
 refine retH_run (n:=29) (fn:=Tryz.f9) (c:=bodyOf Tryz.f9) (by kernel_rfl) (by kernel_rfl) (by kernel_rfl) (by kernel_rfl) ?_
 have hF:KC 29 (FinH Tryz.prog Tryz.f9 [.box [.ref 2 0,di b.fslots,.srf 1],.row 69 3 (b.fl.map Ga),.box [.srf 3,.srf 4,.srf 5,di a.ffuse],.row 5 1 (a.fsafe.map (eI .u8)),.row 5 1 (a.fnow.map (eI .u8)),.row 84 2 (a.fwait.map Ge)] (.d ((eI .i64) r.1)) [.box [.ref 2 0,di r.2.1.fslots,.srf 6],.none,.box [.srf 7,.srf 8,.srf 9,di r.2.2.ffuse],.none,.none,.none,.row 69 3 (r.2.1.fl.map Ga),.row 5 1 (r.2.2.fsafe.map (eI .u8)),.row 5 1 (r.2.2.fnow.map (eI .u8)),.row 84 2 (r.2.2.fwait.map Ge)]):=FinH.kc' (by kernel_rfl)
 unfold KP at h
 obtain ⟨p,q,h⟩:=bind_some h
 refine pkk_sound TTok mix hF 4 (hs:=[]) (ts:=[]) (s:=[6,7,8,9,10,11,0,2,3,4,5,1]) (l:=[0,1,2]) (by kernel_rfl) (by kernel_rfl) .nil (VC hF (.s (cR (cL (cR (bodyOf Tryz.f9))))::.s (cR (cR (bodyOf Tryz.f9)))::[]) n g i b a _ q ?_)
 cases p with
 | x0 u w x y z =>
  try dsimp only at h
  by_cases j:u=true
  ·rw [if_pos j] at h
   obtain rfl:=Option.some.inj h
   exact pendH_sound TTok mix 9 (hs:=[.t true,.dl 4,.mv 11,.mv 8,.mv 9,.mv 10]) [6,11,7,8,9,10,17,18,19,20] (by kernel_rfl) (by kernel_rfl) (by kernel_rfl) (.cons j .nil)
  ·rw [if_neg j] at h
   obtain ⟨m,a0,h⟩:=bind_some h
   obtain ⟨e,a1,h⟩:=bind_some h
   obtain rfl:=Option.some.inj h
   exact pendH_sound TTok mix 7 (hs:=[.t false,.r ((eL (eI .u8)) m),.h [6,11,7,8,9,10] [] [.box [.ref 2 0,di e.1.fslots,.srf 6],.none,.box [.srf 7,.srf 8,.srf 9,di e.2.ffuse],.none,.none,.none,.row 69 3 (e.1.fl.map Ga),.row 5 1 (e.2.fsafe.map (eI .u8)),.row 5 1 (e.2.fnow.map (eI .u8)),.row 84 2 (e.2.fwait.map Ge)] (.tup [])]) [6,11,7,8,9,10,37,38,39,40] (by kernel_rfl) (by kernel_rfl) (by kernel_rfl) (.cons (vf j) (.cons (KO n i _ a0) (.cons (ZD n (Gh.mk () b.fslots z) (Gf.mk w x y a.ffuse) (Gd.mk g m true) _ a1) .nil)))
 | x1 a2 a3 a4 a5 a6 a7 =>
  try dsimp only at h
  by_cases k:a2=true
  ·rw [if_pos k] at h
   obtain rfl:=Option.some.inj h
   exact pendH_sound TTok mix 6 (hs:=[.t true,.dl 4,.mv 11]) [6,11,7,12,13,14,20,8,9,10] (by kernel_rfl) (by kernel_rfl) (by kernel_rfl) (.cons k .nil)
  ·rw [if_neg k] at h
   obtain ⟨o,a8,h⟩:=bind_some h
   obtain ⟨f,a9,h⟩:=bind_some h
   obtain rfl:=Option.some.inj h
   exact pendH_sound TTok mix 7 (hs:=[.t false,.r ((eL (eI .u8)) o),.h [6,11,7,8,9,10] [] [.box [.ref 2 0,di f.1.fslots,.srf 6],.none,.box [.srf 7,.srf 8,.srf 9,di f.2.ffuse],.none,.none,.none,.row 69 3 (f.1.fl.map Ga),.row 5 1 (f.2.fsafe.map (eI .u8)),.row 5 1 (f.2.fnow.map (eI .u8)),.row 84 2 (f.2.fwait.map Ge)] (.tup [])]) [6,11,7,12,13,14,40,41,42,43] (by kernel_rfl) (by kernel_rfl) (by kernel_rfl) (.cons (vf k) (.cons (KO n i _ a8) (.cons (ZD n (Gh.mk () b.fslots a7) (Gf.mk a4 a5 a6 a3) (Gd.mk g o true) _ a9) .nil)))
inductive ZF where
 | x0 (a:(List Gi)) (b:(List (Int×ByteArray))) (c:(List (Int×Bool))) (d:(List Int))
def YC:ZF→Ex
 | .x0 _ _ _ _=>.exit 0
def YD (a:Gg) (b:Gb) (c:Gam):ZF→PS
 | .x0 e f g h=>⟨(dd::.ref 12 0::dd::.ref 13 0::(dds 19 [])),[.gh 0 (.ref 6 0),.gh 1 (.srf 9),.gh 2 (.srf 10),.gh 3 (.srf 11),.gh 4 (.ref 7 0),.gh 5 (.srf 8),.box [.ref 7 0,di a.fSlots,di a.fnow,.srf 9,.srf 10,.srf 11],.box [di b.fSectors,di b.fMark,di b.fFuse,.srf 8],.cu (rowF 86 2 (e.map Gc)) [],.cu (mapC (fun x:Int=>Value.int .i64 x) Value.string f) [],.cu (mapG c (fun x:Int=>Value.int .i64 x) (fun x:Int=>Value.int .i64 x) a.fused) [],.cu (mapC (fun x:Int=>Value.int .i64 x) Value.bool g) [],.box [.ref 6 0],.box [.srf 14],.row 3 1 (h.map (eI .i64))]⟩
def UA (a:Gg) (b:Gb) (c:Gam) (e:(List Gi)) (f:(List (Int×ByteArray))) (g:(List (Int×Bool))) (h:(List Int)) (i:(List (Int×Int))):PS:=⟨(dd::.ref 12 0::dd::.ref 13 0::dd::dd::dd::dd::dd::.ref 15 0::(dds 13 [])),[.gh 0 (.ref 6 0),.gh 1 (.srf 9),.gh 2 (.srf 10),.gh 3 (.srf 11),.gh 4 (.ref 7 0),.gh 5 (.srf 8),.box [.ref 7 0,di a.fSlots,di a.fnow,.srf 9,.srf 10,.srf 11],.box [di b.fSectors,di b.fMark,di b.fFuse,.srf 8],.cu (rowF 86 2 (e.map Gc)) [],.cu (mapC (fun x:Int=>Value.int .i64 x) Value.string f) [],.cu (mapG c (fun x:Int=>Value.int .i64 x) (fun x:Int=>Value.int .i64 x) a.fused) [],.cu (mapC (fun x:Int=>Value.int .i64 x) Value.bool g) [],.box [.ref 6 0],.box [.srf 14],.row 3 1 (h.map (eI .i64)),.cu (itK c a.fused i none) [.srf 10]]⟩
def GH (n:Nat) (e:Gg) (f:Gb):Nat→(List Gi)→(List (Int×ByteArray))→(List (Int×Bool))→(List Int)→(List (Int×Int))→Option ZF
 | 0,_,_,_,_,_=>none
 | k+1,a,b,c,d,[] =>
  some (.x0 a b c d)
 | k+1,a,b,c,d,(g,j)::h =>
  (app 8 d ([g])).bind fun (i:(List Int)) =>
  GH n e f k a b c i h
theorem YE {Fi:Ex→PS→Prop} (hF:KC 23 Fi) (ks:List Fr) (n:Nat) (a:Gg) (b:Gb) (i:Gam)  : ∀ (k:Nat) (j:(List Gi)) (m:(List (Int×ByteArray))) (r:(List (Int×Bool))) (t:(List Int)) (u:(List (Int×Int))),(∀ ord,ord.Perm u→∃ o,GH n a b k j m r t ord=some o∧RunE Tryz.prog 23 Fi ks (YC o) (YD a b i o))→RunE Tryz.prog 23 Fi (.l k (cP (cB (cR (cL (cR (cR (bodyOf Tryz.f17)))))))::ks) .normal (UA a b i j m r t u)
 | 0,j,m,r,t,u,h=>by obtain ⟨o,h,_⟩:=h _ (List.Perm.refl _); rw [GH] at h; cases h
 | k+1,j,m,r,t,u,h=>by
  refine pkk_sound TTok mix hF 2 (hs:=[]) (ts:=[]) (s:=[0,1,2,3,4,5,6,7,8,9,10,11,12,13,14,15]) (l:=[1,3,9]) (by kernel_rfl) (by kernel_rfl) .nil (nk_next (c:=cL (cP (cB (cR (cL (cR (cR (bodyOf Tryz.f17)))))))) (st:=⟨(dd::.ref 12 0::dd::.ref 13 0::dd::dd::dd::dd::dd::.ref 15 0::(dds 13 [])),[.gh 0 (.ref 6 0),.gh 1 (.srf 9),.gh 2 (.srf 10),.gh 3 (.srf 11),.gh 4 (.ref 7 0),.gh 5 (.srf 8),.box [.ref 7 0,di a.fSlots,di a.fnow,.srf 9,.srf 10,.srf 11],.box [di b.fSectors,di b.fMark,di b.fFuse,.srf 8],.cu (rowF 86 2 (j.map Gc)) [],.cu (mapC (fun x:Int=>Value.int .i64 x) Value.string m) [],.cu (mapG i (fun x:Int=>Value.int .i64 x) (fun x:Int=>Value.int .i64 x) a.fused) [],.cu (mapC (fun x:Int=>Value.int .i64 x) Value.bool r) [],.box [.ref 6 0],.box [.srf 14],.row 3 1 (t.map (eI .i64)),.cu (itK i a.fused u none) [.srf 10]]⟩) (f:=(fun x:Int=>Value.int .i64 x)) (g:=(fun x:Int=>Value.int .i64 x)) (γ:=i) (E:=a.fused) (it:=9) (d1:=10) (d2:=11) (l:=15) (lm:=10) (rest:=u) (cur:=none) (ks:=(.s (cR (cP (cB (cR (cL (cR (cR (bodyOf Tryz.f17))))))))::.l k (cP (cB (cR (cL (cR (cR (bodyOf Tryz.f17)))))))::ks)) (by kernel_rfl) (by kernel_rfl) (by kernel_rfl) (by kernel_rfl) (by kernel_rfl) (fun hr=>?_) (fun A p B hr=>?_))
  ·obtain ⟨o,h,q⟩:=h [] (by rw [hr])
   rw [GH] at h
   cases h
   exact pkk_sound TTok mix hF 5 (hs:=[.c]) (ts:=[]) (s:=[0,1,2,3,4,5,6,7,8,9,10,11,12,13,14]) (l:=[1,3]) (by kernel_rfl) (by kernel_rfl) .nil q
  ·obtain ⟨z,a1⟩:=p
   obtain ⟨a0,hvt⟩:∃ q,q=A++B:=⟨_,rfl⟩
   rw [← hvt]
   have h:∀ ord,ord.Perm a0→∃ o,GH n a b (k+1) j m r t ((z,a1)::ord)=some o∧RunE Tryz.prog 23 Fi ks (YC o) (YD a b i o):=fun ord hp=>h _ (by rw [hr]; rw [hvt] at hp; exact (List.Perm.cons _ hp).trans List.perm_middle.symm)
   simp only [GH] at h
   obtain ⟨a2,y⟩:∃ q,app 8 t ([z])=some q:=by
    obtain ⟨o,ho,_⟩:=h _ (List.Perm.refl _)
    obtain ⟨q,hq,_⟩:=bind_some ho
    exact ⟨q,hq⟩
   simp only [y,Option.bind_some] at h
   exact pkk_sound TTok mix hF 8 (hs:=[.c,.e 16 [15,10] (.d (.tup [.v (.int .i64 z),.v (.int .i64 a1)])) [(15,.cu (itK i a.fused a0 none) [.srf 10])],.c,.bd,.w (a2.map (eI .i64)),.c]) (ts:=[]) (s:=[0,1,2,3,4,5,6,7,8,9,10,11,12,13,46,15]) (l:=[1,3,9]) (by kernel_rfl) (by kernel_rfl) (.cons (kentry (P:=Tryz.prog) (T:=TT) (l:=10) (nl:=15) (x:=(.tmp 9)) (f:=(fun x:Int=>Value.int .i64 x)) (g:=(fun x:Int=>Value.int .i64 x)) (E:=a.fused) (γ:=i) (rest:=a0) (k:=z) (v:=a1) rfl rfl) (.cons (app_ob (f:=(eI .i64)) (s:=1) y (fun _=>rfl)).1 (.cons (app_ob (f:=(eI .i64)) (s:=1) y (fun _=>rfl)).2.1 (.cons (app_ob (f:=(eI .i64)) (s:=1) y (fun _=>rfl)).2.2.1 (.cons (app_ob (f:=(eI .i64)) (s:=1) y (fun _=>rfl)).2.2.2 (.cons (show 0+1≤1 by decide) .nil)))))) (YE hF ks n a b i k j m r a2 a0 h)
/- (*ringhall/ringref3.Cache).Held -/
def Zq (n:Nat) (a:Gg) (b:Gb):Option (List (Int×Int)) :=
 some a.fused
def SB (n:Nat) (a:Gg) (b:Gb) (d:(List (Int×Int))):Option ((List Int)×Gg×Gb) :=
 (GH n a b n b.fAll a.fdata a.fdirty ([]:List Int) d).bind fun e=>match e with
 | .x0 f g h c =>
  if c.length<4611686018427387904 then
   some ((sortD a.fused c),(Gg.mk () a.fSlots a.fnow g a.fused h),(Gb.mk b.fSectors b.fMark b.fFuse f))
  else none
theorem VD (n:Nat) (a:Gg) (i:Gb) (j:Gam) (E:(List (Int×Int))) (r:(List Int)×Gg×Gb) (o:Zq n a i=some E) (h:∀ ord,ord.Perm E→SB n a i ord=some r):RetH Tryz.prog 17 [.ref 0 0] [.box [.ref 4 0,di a.fSlots,di a.fnow,.srf 1,.srf 2,.srf 3],.cu (mapC (fun x:Int=>Value.int .i64 x) Value.string a.fdata) [],.cu (mapG j (fun x:Int=>Value.int .i64 x) (fun x:Int=>Value.int .i64 x) a.fused) [],.cu (mapC (fun x:Int=>Value.int .i64 x) Value.bool a.fdirty) [],.box [di i.fSectors,di i.fMark,di i.fFuse,.srf 5],.cu (rowF 86 2 (i.fAll.map Gc)) []] (.d ((eL (eI .i64)) r.1)) [.box [.ref 4 0,di r.2.1.fSlots,di r.2.1.fnow,.srf 1,.srf 2,.srf 3],.cu (mapC (fun x:Int=>Value.int .i64 x) Value.string r.2.1.fdata) [],.cu (mapG j (fun x:Int=>Value.int .i64 x) (fun x:Int=>Value.int .i64 x) r.2.1.fused) [],.cu (mapC (fun x:Int=>Value.int .i64 x) Value.bool r.2.1.fdirty) [],.box [di r.2.2.fSectors,di r.2.2.fMark,di r.2.2.fFuse,.srf 6],.none,.cu (rowF 86 2 (r.2.2.fAll.map Gc)) []]:=by
 refine retH_run (n:=23) (fn:=Tryz.f17) (c:=bodyOf Tryz.f17) (by kernel_rfl) (by kernel_rfl) (by kernel_rfl) (by kernel_rfl) ?_
 have hF:KC 23 (FinH Tryz.prog Tryz.f17 [.box [.ref 4 0,di a.fSlots,di a.fnow,.srf 1,.srf 2,.srf 3],.cu (mapC (fun x:Int=>Value.int .i64 x) Value.string a.fdata) [],.cu (mapG j (fun x:Int=>Value.int .i64 x) (fun x:Int=>Value.int .i64 x) a.fused) [],.cu (mapC (fun x:Int=>Value.int .i64 x) Value.bool a.fdirty) [],.box [di i.fSectors,di i.fMark,di i.fFuse,.srf 5],.cu (rowF 86 2 (i.fAll.map Gc)) []] (.d ((eL (eI .i64)) r.1)) [.box [.ref 4 0,di r.2.1.fSlots,di r.2.1.fnow,.srf 1,.srf 2,.srf 3],.cu (mapC (fun x:Int=>Value.int .i64 x) Value.string r.2.1.fdata) [],.cu (mapG j (fun x:Int=>Value.int .i64 x) (fun x:Int=>Value.int .i64 x) r.2.1.fused) [],.cu (mapC (fun x:Int=>Value.int .i64 x) Value.bool r.2.1.fdirty) [],.box [di r.2.2.fSectors,di r.2.2.fMark,di r.2.2.fFuse,.srf 6],.none,.cu (rowF 86 2 (r.2.2.fAll.map Gc)) []]):=FinH.kc' (by kernel_rfl)
 unfold Zq at o
 simp only [SB] at h
 obtain hE:=Option.some.inj o; subst hE
 refine pkk_sound TTok mix hF 10 (hs:=[.c,.c,.e 47 [2,47] (.ref 47 0) [(47,.cu (itK j a.fused a.fused none) [.srf 2])],.dl 1,.tb 22 0 3 1,.n n]) (ts:=[]) (s:=[6,7,8,9,10,11,0,4,5,1,2,3,12,22,52,47]) (l:=[1,3,9]) (by kernel_rfl) (by kernel_rfl) (.cons (krange (P:=Tryz.prog) (T:=TT) (t:=53) (kt:=3) (et:=3) (l:=2) (nl:=47) (x:=(.tmp 8)) (f:=(fun x:Int=>Value.int .i64 x)) (g:=(fun x:Int=>Value.int .i64 x)) (E:=a.fused) (γ:=j) (by kernel_rfl)) .nil) (YE hF (.b 0::.s (cR (cR (cR (bodyOf Tryz.f17))))::[]) n a i j n i.fAll a.fdata a.fdirty ([]:List Int) a.fused (fun ord hp=>?_))
 obtain ⟨p,u,h⟩:=bind_some (h ord hp)
 refine ⟨p,u,?_⟩
 cases p with
 | x0 q w z k =>
  try dsimp only at h
  by_cases m:k.length<4611686018427387904
  ·rw [if_pos m] at h
   obtain rfl:=Option.some.inj h
   exact pendH_sound TTok mix 8 (hs:=[.c,.e 20 [20] (.srf 20) [(20,.cu (ifC 46) [.srf 14])],.e 30 [20,14,12,13,6,10] (.d (.tup [])) [(14,.row 3 1 ((sortD a.fused k).map (eI .i64)))],.c,.dl 1,.fz 14,.sx [8] (fmvS 8 86 2 (q.map Gc))]) [6,9,10,11,7,8,45] (by kernel_rfl) (by kernel_rfl) (by kernel_rfl) (.cons (ymkS (P:=Tryz.prog) (T:=TT) (t:=46) (l:=14) (nl:=20) (e:=3) (x:=(.tmp 18)) (by kernel_rfl)) (.cons (sslice (T:=TT) (x:=(.tmp 19)) (y:=(.tmp 20)) (f:=.func 34) (tys:=#[20,75]) (I:=20) (RB:=14) (U:=10) (L0:=6) (LC:=12) (LO:=13) (e:=3) (cs:=[.ref 7 0,di a.fSlots,di a.fnow,.srf 9,.srf 10,.srf 11]) (xs:=k) (E:=a.fused) (γ:=j) rfl (by decide) m) (.cons (fmv (l:=8) (e:=86) (s:=2) (xs:=(q.map Gc))) .nil)))
  ·rw [if_neg m] at h; cases h
instance:DecidableEq Gg:=fun a b=>if h:a.fD=b.fD∧a.fSlots=b.fSlots∧a.fnow=b.fnow∧a.fdata=b.fdata∧a.fused=b.fused∧a.fdirty=b.fdirty then isTrue (by cases a; cases b; simp_all) else isFalse (fun e=>h (by subst e; simp))
instance:DecidableEq Gi:=fun a b=>if h:a.fN=b.fN∧a.fData=b.fData then isTrue (by cases a; cases b; simp_all) else isFalse (fun e=>h (by subst e; simp))
instance:DecidableEq Gb:=fun a b=>if h:a.fSectors=b.fSectors∧a.fMark=b.fMark∧a.fFuse=b.fFuse∧a.fAll=b.fAll then isTrue (by cases a; cases b; simp_all) else isFalse (fun e=>h (by subst e; simp))
def Sr (n:Nat) (a:Gg) (b:Gb):Option ((List Int)×Gg×Gb):=(Zq n a b).bind fun E=>(SB n a b E).bind fun r=>if (perms E).all (fun q=>decide (SB n a b q=some r))=true then some r else none
theorem Kq (n:Nat) (a:Gg) (b:Gb) (r:(List Int)×Gg×Gb) (h:Sr n a b=some r):RetH Tryz.prog 17 [.ref 0 0] [.box [.ref 4 0,di a.fSlots,di a.fnow,.srf 1,.srf 2,.srf 3],.cu (mapC (fun x:Int=>Value.int .i64 x) Value.string a.fdata) [],.cu (mapC (fun x:Int=>Value.int .i64 x) (fun x:Int=>Value.int .i64 x) a.fused) [],.cu (mapC (fun x:Int=>Value.int .i64 x) Value.bool a.fdirty) [],.box [di b.fSectors,di b.fMark,di b.fFuse,.srf 5],.cu (rowF 86 2 (b.fAll.map Gc)) []] (.d ((eL (eI .i64)) r.1)) [.box [.ref 4 0,di r.2.1.fSlots,di r.2.1.fnow,.srf 1,.srf 2,.srf 3],.cu (mapC (fun x:Int=>Value.int .i64 x) Value.string r.2.1.fdata) [],.cu (mapC (fun x:Int=>Value.int .i64 x) (fun x:Int=>Value.int .i64 x) r.2.1.fused) [],.cu (mapC (fun x:Int=>Value.int .i64 x) Value.bool r.2.1.fdirty) [],.box [di r.2.2.fSectors,di r.2.2.fMark,di r.2.2.fFuse,.srf 6],.none,.cu (rowF 86 2 (r.2.2.fAll.map Gc)) []]:=by
 refine retH_open (j:=2) rfl rfl (fun c=>?_)
 show RetH Tryz.prog 17 [.ref 0 0] [.box [.ref 4 0,di a.fSlots,di a.fnow,.srf 1,.srf 2,.srf 3],.cu (mapC (fun x:Int=>Value.int .i64 x) Value.string a.fdata) [],.cu (mapG c (fun x:Int=>Value.int .i64 x) (fun x:Int=>Value.int .i64 x) a.fused) [],.cu (mapC (fun x:Int=>Value.int .i64 x) Value.bool a.fdirty) [],.box [di b.fSectors,di b.fMark,di b.fFuse,.srf 5],.cu (rowF 86 2 (b.fAll.map Gc)) []] (.d ((eL (eI .i64)) r.1)) [.box [.ref 4 0,di r.2.1.fSlots,di r.2.1.fnow,.srf 1,.srf 2,.srf 3],.cu (mapC (fun x:Int=>Value.int .i64 x) Value.string r.2.1.fdata) [],.cu (mapG c (fun x:Int=>Value.int .i64 x) (fun x:Int=>Value.int .i64 x) r.2.1.fused) [],.cu (mapC (fun x:Int=>Value.int .i64 x) Value.bool r.2.1.fdirty) [],.box [di r.2.2.fSectors,di r.2.2.fMark,di r.2.2.fFuse,.srf 6],.none,.cu (rowF 86 2 (r.2.2.fAll.map Gc)) []]
 unfold Sr at h
 obtain ⟨E,f,h⟩:=bind_some h
 obtain ⟨r',g,h⟩:=bind_some h
 by_cases e:(perms E).all (fun q=>decide (SB n a b q=some r'))=true
 ·rw [if_pos e] at h
  obtain rfl:=Option.some.inj h
  exact VD n a b c E _ f (fun ord hp=>of_decide_eq_true (List.all_eq_true.1 e ord (mem_perms hp)))
 ·rw [if_neg e] at h; cases h
/- (*ringhall/ringref3.Disk).goes -/
def SW (n:Nat) (a:Gb):Option (Bool×Gb) :=
 if a.fFuse > 0 then
  some (true,(Gb.mk a.fSectors a.fMark (wi .i64 (a.fFuse-1)) a.fAll))
 else
  some ((decide (a.fFuse<0)),a)
theorem Zr (n:Nat) (a:Gb) (r:Bool×Gb) (h:SW n a=some r):RetH Tryz.prog 43 [.ref 0 0] [.box [di a.fSectors,di a.fMark,di a.fFuse,.srf 1],.cu (rowF 86 2 (a.fAll.map Gc)) []] (.d (eB r.1)) [.box [di r.2.fSectors,di r.2.fMark,di r.2.fFuse,.srf 2],.none,.cu (rowF 86 2 (r.2.fAll.map Gc)) []]:=by
 refine retH_run (n:=20) (fn:=Tryz.f43) (c:=bodyOf Tryz.f43) (by kernel_rfl) (by kernel_rfl) (by kernel_rfl) (by kernel_rfl) ?_
 have hF:KC 20 (FinH Tryz.prog Tryz.f43 [.box [di a.fSectors,di a.fMark,di a.fFuse,.srf 1],.cu (rowF 86 2 (a.fAll.map Gc)) []] (.d (eB r.1)) [.box [di r.2.fSectors,di r.2.fMark,di r.2.fFuse,.srf 2],.none,.cu (rowF 86 2 (r.2.fAll.map Gc)) []]):=FinH.kc' (by kernel_rfl)
 unfold SW at h
 by_cases b:a.fFuse > 0
 ·rw [if_pos b] at h
  obtain rfl:=Option.some.inj h
  exact pendH_sound TTok mix 13 (hs:=[.c,.t true,.c,.c,.dl 4,.sx [1] (fmvS 1 86 2 (a.fAll.map Gc))]) [0,1,79] (by kernel_rfl) (by kernel_rfl) (by kernel_rfl) (.cons (dt b) (.cons (show 2+1≤4 by decide) (.cons (fmv (l:=1) (e:=86) (s:=2) (xs:=(a.fAll.map Gc))) .nil)))
 ·rw [if_neg b] at h
  obtain rfl:=Option.some.inj h
  exact pendH_sound TTok mix 11 (hs:=[.c,.t false,.c,.dl 1,.sx [1] (fmvS 1 86 2 (a.fAll.map Gc))]) [0,1,64] (by kernel_rfl) (by kernel_rfl) (by kernel_rfl) (.cons (df b) (.cons (fmv (l:=1) (e:=86) (s:=2) (xs:=(a.fAll.map Gc))) .nil))
inductive KQ where
 | x0 (a:Bool) (b:(List Gi))
def UB:KQ→Ex
 | .x0 _ _=>.normal
def UC (b:Int) (c:ByteArray) (a:Gb):KQ→PS
 | .x0 e f=>⟨(.ref 2 0::di b::.d (.v (.string c))::(dds 18 (.d (.v (.bool e))::(dds 14 [])))),[.gh 0 (.ref 2 0),.gh 1 (.srf 3),.box [di a.fSectors,di a.fMark,di a.fFuse,.srf 3],.cu (rowF 86 2 (f.map Gc)) []]⟩
def UD (b:Int) (c:ByteArray) (a:Gb)  : PS:=⟨(.ref 2 0::di b::.d (.v (.string c))::(dds 33 [])),[.gh 0 (.ref 2 0),.gh 1 (.srf 3),.box [di a.fSectors,di a.fMark,di a.fFuse,.srf 3],.cu (rowF 86 2 (a.fAll.map Gc)) []]⟩
def Zg (n:Nat) (b:Int) (c:ByteArray) (a:Gb):Option KQ :=
 if b<0 then
  some (.x0 true a.fAll)
 else
  if b≥a.fSectors then
   some (.x0 true a.fAll)
  else
   some (.x0 ((c.size:Int) != 64) a.fAll)
theorem UE {Fi:Ex→PS→Prop} (hF:KC 36 Fi) (ks:List Fr) (n:Nat) (a:Int) (f:ByteArray) (d:Gb)  (o:KQ) (h:Zg n a f d=some o) (q:RunE Tryz.prog 36 Fi ks (UB o) (UC a f d o)):RunE Tryz.prog 36 Fi (.s (cL (cL (cR (bodyOf Tryz.f30))))::ks) .normal (UD a f d):=by
 unfold Zg at h
 by_cases b:a<0
 ·rw [if_pos b] at h
  cases h
  exact pkk_sound TTok mix hF 1 (hs:=[.t true,.c,.c,.c,.c,.c,.c,.c,.c]) (ts:=[]) (s:=[0,1,2,3]) (l:=[0,1,2,21]) (by kernel_rfl) (by kernel_rfl) (.cons (dt b) .nil) q
 ·rw [if_neg b] at h
  by_cases e:a≥d.fSectors
  ·rw [if_pos e] at h
   cases h
   exact pkk_sound TTok mix hF 1 (hs:=[.t false,.c,.c,.c,.c,.c,.c,.t true,.c,.c]) (ts:=[]) (s:=[0,1,2,3]) (l:=[0,1,2,21]) (by kernel_rfl) (by kernel_rfl) (.cons (df b) (.cons (dt e) .nil)) q
  ·rw [if_neg e] at h
   cases h
   exact pkk_sound TTok mix hF 1 (hs:=[.t false,.c,.c,.c,.c,.c,.c,.t false,.c,.c]) (ts:=[]) (s:=[0,1,2,3]) (l:=[0,1,2,21]) (by kernel_rfl) (by kernel_rfl) (.cons (df b) (.cons (df e) .nil)) q
/- (*ringhall/ringref3.Disk).Write -/
def Ss (n:Nat) (a:Gb) (c:Int) (d:ByteArray):Option (Int×Gb) :=
 (Zg n c d a).bind fun f=>match f with
 | .x0 g e =>
  if g=true then
   some (1,(Gb.mk a.fSectors a.fMark a.fFuse e))
  else
   (SW n (Gb.mk a.fSectors a.fMark a.fFuse e)).bind fun (b:(Bool×Gb)) =>
   if b.1=true then
    (app 24 b.2.fAll ([(Gi.mk c d)])).bind fun (h:(List Gi)) =>
    some (0,(Gb.mk b.2.fSectors b.2.fMark b.2.fFuse h))
   else
    some (0,b.2)
theorem Xa (n:Nat) (a:Gb) (j:Int) (k:ByteArray) (r:Int×Gb) (h:Ss n a j k=some r):RetH Tryz.prog 30 [.ref 0 0,.d ((eI .i64) j),.d (eS k)] [.box [di a.fSectors,di a.fMark,di a.fFuse,.srf 1],.cu (rowF 86 2 (a.fAll.map Gc)) []] (.d ((eI .i64) r.1)) [.box [di r.2.fSectors,di r.2.fMark,di r.2.fFuse,.srf 2],.none,.cu (rowF 86 2 (r.2.fAll.map Gc)) []]:=by
 refine retH_run (n:=36) (fn:=Tryz.f30) (c:=bodyOf Tryz.f30) (by kernel_rfl) (by kernel_rfl) (by kernel_rfl) (by kernel_rfl) ?_
 have hF:KC 36 (FinH Tryz.prog Tryz.f30 [.box [di a.fSectors,di a.fMark,di a.fFuse,.srf 1],.cu (rowF 86 2 (a.fAll.map Gc)) []] (.d ((eI .i64) r.1)) [.box [di r.2.fSectors,di r.2.fMark,di r.2.fFuse,.srf 2],.none,.cu (rowF 86 2 (r.2.fAll.map Gc)) []]):=FinH.kc' (by kernel_rfl)
 unfold Ss at h
 obtain ⟨w,z,h⟩:=bind_some h
 refine pkk_sound TTok mix hF 4 (hs:=[]) (ts:=[]) (s:=[2,3,0,1]) (l:=[0,1,2]) (by kernel_rfl) (by kernel_rfl) .nil (UE hF (.s (cR (cL (cR (bodyOf Tryz.f30))))::.s (cR (cR (bodyOf Tryz.f30)))::[]) n j k a _ z ?_)
 cases w with
 | x0 a0 m =>
  try dsimp only at h
  by_cases g:a0=true
  ·rw [if_pos g] at h
   obtain rfl:=Option.some.inj h
   exact pendH_sound TTok mix 6 (hs:=[.t true,.dl 4,.sx [3] (fmvS 3 86 2 (m.map Gc))]) [2,3,9] (by kernel_rfl) (by kernel_rfl) (by kernel_rfl) (.cons g (.cons (fmv (l:=3) (e:=86) (s:=2) (xs:=(m.map Gc))) .nil))
  ·rw [if_neg g] at h
   obtain ⟨b,u,h⟩:=bind_some h
   by_cases o:b.1=true
   ·rw [if_pos o] at h
    obtain ⟨p,q,h⟩:=bind_some h
    obtain rfl:=Option.some.inj h
    exact pendH_sound TTok mix 11 (hs:=[.t false,.h [2,3] [] [.box [di b.2.fSectors,di b.2.fMark,di b.2.fFuse,.srf 2],.none,.cu (rowF 86 2 (b.2.fAll.map Gc)) []] (.d (.v (.bool b.1))),.t true,.c,.bd,.e 59 [9,59] (.srf 59) [(9,.none),(59,.row 86 2 (p.map Gc))],.c,.dl 3,.sx [59] (toF 59 86 2 (p.map Gc))]) [2,3,59] (by kernel_rfl) (by kernel_rfl) (by kernel_rfl) (.cons (vf g) (.cons (Zr n (Gb.mk a.fSectors a.fMark a.fFuse m) _ u) (.cons o (.cons (fapp (P:=Tryz.prog) (T:=TT) (t:=49) (e:=86) (s:=2) (nl:=59) (ti:=⟨2,24,.st [(0,3),(1,9)],[.i .i64,.s]⟩) (zs:=(p.map Gc)) (x:=(.tmp 28)) (y:=(.tmp 32)) (l:=9) (xs:=(b.2.fAll.map Gc)) (ys:=(([(Gi.mk j k)]).map Gc)) (app_ob (f:=Gc) (s:=2) q (fun _=>rfl)).2.2.2 (by kernel_rfl) (by kernel_rfl) (by kernel_rfl) (by decide) (app_ob (f:=Gc) (s:=2) q (fun _=>rfl)).1 (by simp) (app_ob (f:=Gc) (s:=2) q (fun _=>rfl)).2.1 (app_ob (f:=Gc) (s:=2) q (fun _=>rfl)).2.2.1 (by decide)) (.cons (show 3+1≤4 by decide) (.cons (row_toF (l:=59) (e:=86) (s:=2) (xs:=(p.map Gc))) .nil))))))
   ·rw [if_neg o] at h
    obtain rfl:=Option.some.inj h
    exact pendH_sound TTok mix 10 (hs:=[.t false,.h [2,3] [] [.box [di b.2.fSectors,di b.2.fMark,di b.2.fFuse,.srf 2],.none,.cu (rowF 86 2 (b.2.fAll.map Gc)) []] (.d (.v (.bool b.1))),.t false]) [2,3,9] (by kernel_rfl) (by kernel_rfl) (by kernel_rfl) (.cons (vf g) (.cons (Zr n (Gb.mk a.fSectors a.fMark a.fFuse m) _ u) (.cons (vf o) .nil)))
inductive KZ where
 | x0 (a:Bool) (b:(List Gi)) (c:(List (Int×ByteArray))) (d:(List (Int×Int))) (e:(List (Int×Bool)))
def UM:KZ→Ex
 | .x0 _ _ _ _ _=>.normal
def UN (c:Int) (e:ByteArray) (f:Bool) (b:Gg) (a:Gb):KZ→PS
 | .x0 g h i j k=>⟨(.ref 6 0::di c::.d (.v (.string e))::.d (.v (.bool f))::(dds 30 (.d (.v (.bool g))::(dds 75 [])))),[.gh 0 (.ref 6 0),.gh 1 (.srf 9),.gh 2 (.srf 10),.gh 3 (.srf 11),.gh 4 (.ref 7 0),.gh 5 (.srf 8),.box [.ref 7 0,di b.fSlots,di b.fnow,.srf 9,.srf 10,.srf 11],.box [di a.fSectors,di a.fMark,di a.fFuse,.srf 8],.cu (rowF 86 2 (h.map Gc)) [],.cu (mapC (fun x:Int=>Value.int .i64 x) Value.string i) [],.cu (mapC (fun x:Int=>Value.int .i64 x) (fun x:Int=>Value.int .i64 x) j) [],.cu (mapC (fun x:Int=>Value.int .i64 x) Value.bool k) []]⟩
def UO (c:Int) (e:ByteArray) (f:Bool) (a:Gg) (b:Gb)  : PS:=⟨(.ref 6 0::di c::.d (.v (.string e))::.d (.v (.bool f))::dd::dd::dd::dd::dd::.d (.v (.bool ((mget a.fused c).isSome)))::(dds 100 [])),[.gh 0 (.ref 6 0),.gh 1 (.srf 9),.gh 2 (.srf 10),.gh 3 (.srf 11),.gh 4 (.ref 7 0),.gh 5 (.srf 8),.box [.ref 7 0,di a.fSlots,di a.fnow,.srf 9,.srf 10,.srf 11],.box [di b.fSectors,di b.fMark,di b.fFuse,.srf 8],.cu (rowF 86 2 (b.fAll.map Gc)) [],.cu (mapC (fun x:Int=>Value.int .i64 x) Value.string a.fdata) [],.cu (mapC (fun x:Int=>Value.int .i64 x) (fun x:Int=>Value.int .i64 x) a.fused) [],.cu (mapC (fun x:Int=>Value.int .i64 x) Value.bool a.fdirty) []]⟩
def Zs (n:Nat) (c:Int) (d:ByteArray) (e:Bool) (a:Gg) (b:Gb):Option KZ :=
 if (mget a.fused c).isSome=true then
  some (.x0 false b.fAll a.fdata a.fused a.fdirty)
 else
  some (.x0 ((a.fused.length:Int) == a.fSlots) b.fAll a.fdata a.fused a.fdirty)
theorem UP {Fi:Ex→PS→Prop} (hF:KC 110 Fi) (ks:List Fr) (n:Nat) (b:Int) (j:ByteArray) (k:Bool) (a:Gg) (m:Gb)  (o:KZ) (h:Zs n b j k a m=some o) (q:RunE Tryz.prog 110 Fi ks (UM o) (UN b j k a m o)):RunE Tryz.prog 110 Fi (.s (cL (cR (cL (bodyOf Tryz.f26))))::ks) .normal (UO b j k a m):=by
 unfold Zs at h
 by_cases i:(mget a.fused b).isSome=true
 ·rw [if_pos i] at h
  cases h
  exact pkk_sound TTok mix hF 1 (hs:=[.t false,.c,.c,.c,.c,.c,.c,.c,.c,.c]) (ts:=[]) (s:=[0,1,2,3,4,5,6,7,8,9,10,11]) (l:=[0,1,2,3,34]) (by kernel_rfl) (by kernel_rfl) (.cons (bnf i) .nil) q
 ·rw [if_neg i] at h
  cases h
  exact pkk_sound TTok mix hF 1 (hs:=[.t true,.c,.c,.c,.c,.c,.e 47 [10] (di (a.fused.length:Int)) [],.c,.c,.c,.c,.c,.c]) (ts:=[]) (s:=[0,1,2,3,4,5,6,7,8,9,10,11]) (l:=[0,1,2,3,34]) (by kernel_rfl) (by kernel_rfl) (.cons (bnt (vf i)) (.cons (mlen (P:=Tryz.prog) (T:=TT) (f:=(fun x:Int=>Value.int .i64 x)) (g:=(fun x:Int=>Value.int .i64 x)) (t:=53) (kt:=3) (et:=3) (l:=10) (E:=a.fused) (x:=(.tmp 27)) (by kernel_rfl)) .nil)) q
inductive K0 where
 | x0 (a b c d e:Int) (f:(List Gi)) (g:(List (Int×ByteArray))) (h:(List (Int×Int))) (i:(List (Int×Bool)))
 | x1 (j:(List Gi)) (k:(List (Int×ByteArray))) (l:(List (Int×Int))) (m:(List (Int×Bool)))
def UQ:K0→Ex
 | .x0 _ _ _ _ _ _ _ _ _=>.normal
 | .x1 _ _ _ _=>.normal
def UR (b:Int) (c:ByteArray) (e t:Bool) (f:Gg) (a:Gb) (u:(List Gi)) (w:(List (Int×ByteArray))) (y:(List (Int×Int))) (z:(List (Int×Bool))):K0→PS
 | .x0 g h i j k l m n o=>⟨(.ref 6 0::di b::.d (.v (.string c))::.d (.v (.bool e))::(dds 106 [])),[.gh 0 (.ref 6 0),.gh 1 (.srf 9),.gh 2 (.srf 10),.gh 3 (.srf 11),.gh 4 (.ref 7 0),.gh 5 (.srf 12),.box [.ref 7 0,di g,di h,.srf 9,.srf 10,.srf 11],.box [di i,di j,di k,.srf 8],.cu (rowF 86 2 (l.map Gc)) [],.cu (mapC (fun x:Int=>Value.int .i64 x) Value.string m) [],.cu (mapC (fun x:Int=>Value.int .i64 x) (fun x:Int=>Value.int .i64 x) n) [],.cu (mapC (fun x:Int=>Value.int .i64 x) Value.bool o) [],.none]⟩
 | .x1 p q r s=>⟨(.ref 6 0::di b::.d (.v (.string c))::.d (.v (.bool e))::(dds 106 [])),[.gh 0 (.ref 6 0),.gh 1 (.srf 9),.gh 2 (.srf 10),.gh 3 (.srf 11),.gh 4 (.ref 7 0),.gh 5 (.srf 8),.box [.ref 7 0,di f.fSlots,di f.fnow,.srf 9,.srf 10,.srf 11],.box [di a.fSectors,di a.fMark,di a.fFuse,.srf 8],.cu (rowF 86 2 (p.map Gc)) [],.cu (mapC (fun x:Int=>Value.int .i64 x) Value.string q) [],.cu (mapC (fun x:Int=>Value.int .i64 x) (fun x:Int=>Value.int .i64 x) r) [],.cu (mapC (fun x:Int=>Value.int .i64 x) Value.bool s) []]⟩
def US (c:Int) (e:ByteArray) (f g:Bool) (b:Gg) (a:Gb) (h:(List Gi)) (i:(List (Int×ByteArray))) (j:(List (Int×Int))) (k:(List (Int×Bool)))  : PS:=⟨(.ref 6 0::di c::.d (.v (.string e))::.d (.v (.bool f))::(dds 30 (.d (.v (.bool g))::(dds 75 [])))),[.gh 0 (.ref 6 0),.gh 1 (.srf 9),.gh 2 (.srf 10),.gh 3 (.srf 11),.gh 4 (.ref 7 0),.gh 5 (.srf 8),.box [.ref 7 0,di b.fSlots,di b.fnow,.srf 9,.srf 10,.srf 11],.box [di a.fSectors,di a.fMark,di a.fFuse,.srf 8],.cu (rowF 86 2 (h.map Gc)) [],.cu (mapC (fun x:Int=>Value.int .i64 x) Value.string i) [],.cu (mapC (fun x:Int=>Value.int .i64 x) (fun x:Int=>Value.int .i64 x) j) [],.cu (mapC (fun x:Int=>Value.int .i64 x) Value.bool k) []]⟩
def Ky (n:Nat) (k:Int) (l:ByteArray) (m j:Bool) (e:Gg) (d:Gb) (f:(List Gi)) (g:(List (Int×ByteArray))) (h:(List (Int×Int))) (i:(List (Int×Bool))):Option K0 :=
 if j=true then
  (Sr n (Gg.mk () e.fSlots e.fnow g h i) (Gb.mk d.fSectors d.fMark d.fFuse f)).bind fun (a:((List Int)×Gg×Gb)) =>
  (getI a.1 (wi .i64 ((a.1.length:Int)-1))).bind fun (b:Int) =>
  if ((mget a.2.1.fdirty b).getD false)=true then
   (Ss n a.2.2 b ((mget a.2.1.fdata b).getD (ByteArray.mk #[]))).bind fun (c:(Int×Gb)) =>
   some (.x0 a.2.1.fSlots a.2.1.fnow c.2.fSectors c.2.fMark c.2.fFuse c.2.fAll (mdel a.2.1.fdata b) (mdel a.2.1.fused b) (mdel a.2.1.fdirty b))
  else
   some (.x0 a.2.1.fSlots a.2.1.fnow a.2.2.fSectors a.2.2.fMark a.2.2.fFuse a.2.2.fAll (mdel a.2.1.fdata b) (mdel a.2.1.fused b) (mdel a.2.1.fdirty b))
 else
  some (.x1 f g h i)
theorem UT {Fi:Ex→PS→Prop} (hF:KC 110 Fi) (ks:List Fr) (n:Nat) (a5:Int) (a6:ByteArray) (a7 a3:Bool) (j:Gg) (i:Gb) (m:(List Gi)) (p:(List (Int×ByteArray))) (r:(List (Int×Int))) (a0:(List (Int×Bool)))  (o:K0) (h:Ky n a5 a6 a7 a3 j i m p r a0=some o) (q:RunE Tryz.prog 110 Fi ks (UQ o) (UR a5 a6 a7 a3 j i m p r a0 o)):RunE Tryz.prog 110 Fi (.s (cR (cR (cL (bodyOf Tryz.f26))))::ks) .normal (US a5 a6 a7 a3 j i m p r a0):=by
 unfold Ky at h
 by_cases a1:a3=true
 ·rw [if_pos a1] at h
  obtain ⟨a,a8,h⟩:=bind_some h
  obtain ⟨b,a9,h⟩:=bind_some h
  by_cases a4:((mget a.2.1.fdirty b).getD false)=true
  ·rw [if_pos a4] at h
   obtain ⟨a2,b0,h⟩:=bind_some h
   cases h
   exact pkk_sound TTok mix hF 15 (hs:=[.t true,.h [6,9,10,11,7,8] [] [.box [.ref 4 0,di a.2.1.fSlots,di a.2.1.fnow,.srf 1,.srf 2,.srf 3],.cu (mapC (fun x:Int=>Value.int .i64 x) Value.string a.2.1.fdata) [],.cu (mapC (fun x:Int=>Value.int .i64 x) (fun x:Int=>Value.int .i64 x) a.2.1.fused) [],.cu (mapC (fun x:Int=>Value.int .i64 x) Value.bool a.2.1.fdirty) [],.box [di a.2.2.fSectors,di a.2.2.fMark,di a.2.2.fFuse,.srf 6],.none,.cu (rowF 86 2 (a.2.2.fAll.map Gc)) []] (.d (.sl (a.1.map (eI .i64)))),.u (di (a.1.length:Int)),.y ((eI .i64) b),.c,.c,.e 87 [11] (.d (.v (.bool ((mget a.2.1.fdirty b).getD false)))) [],.t true,.c,.c,.e 142 [9] (.d (.v (.string ((mget a.2.1.fdata b).getD (ByteArray.mk #[]))))) [],.h [7,17] [] [.box [di a2.2.fSectors,di a2.2.fMark,di a2.2.fFuse,.srf 2],.none,.cu (rowF 86 2 (a2.2.fAll.map Gc)) []] (di a2.1),.c,.e 177 [10] (.d (.tup [])) [(10,.cu (mapC (fun x:Int=>Value.int .i64 x) (fun x:Int=>Value.int .i64 x) (mdel a.2.1.fused b)) [])],.c,.e 207 [9] (.d (.tup [])) [(9,.cu (mapC (fun x:Int=>Value.int .i64 x) Value.string (mdel a.2.1.fdata b)) [])],.c,.e 237 [11] (.d (.tup [])) [(11,.cu (mapC (fun x:Int=>Value.int .i64 x) Value.bool (mdel a.2.1.fdirty b)) [])]]) (ts:=[]) (s:=[0,1,2,3,4,5,6,7,147,9,10,11,8]) (l:=[0,1,2,3]) (by kernel_rfl) (by kernel_rfl) (.cons a1 (.cons (Kq n (Gg.mk () j.fSlots j.fnow p r a0) (Gb.mk i.fSectors i.fMark i.fFuse m) _ a8) (.cons (len_ob (f:=(eI .i64)) (l:=a.1)) (.cons (getI_ob (f:=(eI .i64)) a9) (.cons (ylook (P:=Tryz.prog) (T:=TT) (t:=54) (kt:=3) (et:=4) (l:=11) (x:=(.tmp 46)) (y:=(.tmp 47)) (f:=(fun x:Int=>Value.int .i64 x)) (g:=Value.bool) (E:=a.2.1.fdirty) (k:=b) (z:=false) (kv_v _) false (by kernel_rfl) (KOk.kw (KOk.int (by kernel_rfl))) (fun w=>by kernel_rfl) (fun _=>rfl) rfl) (.cons a4 (.cons (ylook (P:=Tryz.prog) (T:=TT) (t:=52) (kt:=3) (et:=9) (l:=9) (x:=(.tmp 57)) (y:=(.tmp 58)) (f:=(fun x:Int=>Value.int .i64 x)) (g:=Value.string) (E:=a.2.1.fdata) (k:=b) (z:=(ByteArray.mk #[])) (kv_v _) false (by kernel_rfl) (KOk.kw (KOk.int (by kernel_rfl))) (fun w=>by kernel_rfl) (fun _=>rfl) rfl) (.cons (Xa n a.2.2 b ((mget a.2.1.fdata b).getD (ByteArray.mk #[])) _ b0) (.cons (mdelete (P:=Tryz.prog) (T:=TT) (f:=(fun x:Int=>Value.int .i64 x)) (g:=(fun x:Int=>Value.int .i64 x)) (t:=53) (kt:=3) (et:=3) (t2:=3) (l:=10) (E:=a.2.1.fused) (x:=(.tmp 64)) (y:=(.tmp 65)) (k:=b) (kv_v _) (by kernel_rfl) (KOk.kw (KOk.int (by kernel_rfl)))) (.cons (mdelete (P:=Tryz.prog) (T:=TT) (f:=(fun x:Int=>Value.int .i64 x)) (g:=Value.string) (t:=52) (kt:=3) (et:=9) (t2:=3) (l:=9) (E:=a.2.1.fdata) (x:=(.tmp 69)) (y:=(.tmp 70)) (k:=b) (kv_v _) (by kernel_rfl) (KOk.kw (KOk.int (by kernel_rfl)))) (.cons (mdelete (P:=Tryz.prog) (T:=TT) (f:=(fun x:Int=>Value.int .i64 x)) (g:=Value.bool) (t:=54) (kt:=3) (et:=4) (t2:=3) (l:=11) (E:=a.2.1.fdirty) (x:=(.tmp 74)) (y:=(.tmp 75)) (k:=b) (kv_v _) (by kernel_rfl) (KOk.kw (KOk.int (by kernel_rfl)))) .nil))))))))))) q
  ·rw [if_neg a4] at h
   cases h
   exact pkk_sound TTok mix hF 15 (hs:=[.t true,.h [6,9,10,11,7,8] [] [.box [.ref 4 0,di a.2.1.fSlots,di a.2.1.fnow,.srf 1,.srf 2,.srf 3],.cu (mapC (fun x:Int=>Value.int .i64 x) Value.string a.2.1.fdata) [],.cu (mapC (fun x:Int=>Value.int .i64 x) (fun x:Int=>Value.int .i64 x) a.2.1.fused) [],.cu (mapC (fun x:Int=>Value.int .i64 x) Value.bool a.2.1.fdirty) [],.box [di a.2.2.fSectors,di a.2.2.fMark,di a.2.2.fFuse,.srf 6],.none,.cu (rowF 86 2 (a.2.2.fAll.map Gc)) []] (.d (.sl (a.1.map (eI .i64)))),.u (di (a.1.length:Int)),.y ((eI .i64) b),.c,.c,.e 87 [11] (.d (.v (.bool ((mget a.2.1.fdirty b).getD false)))) [],.t false,.c,.e 117 [10] (.d (.tup [])) [(10,.cu (mapC (fun x:Int=>Value.int .i64 x) (fun x:Int=>Value.int .i64 x) (mdel a.2.1.fused b)) [])],.c,.e 147 [9] (.d (.tup [])) [(9,.cu (mapC (fun x:Int=>Value.int .i64 x) Value.string (mdel a.2.1.fdata b)) [])],.c,.e 177 [11] (.d (.tup [])) [(11,.cu (mapC (fun x:Int=>Value.int .i64 x) Value.bool (mdel a.2.1.fdirty b)) [])]]) (ts:=[]) (s:=[0,1,2,3,4,5,6,7,17,9,10,11,8]) (l:=[0,1,2,3]) (by kernel_rfl) (by kernel_rfl) (.cons a1 (.cons (Kq n (Gg.mk () j.fSlots j.fnow p r a0) (Gb.mk i.fSectors i.fMark i.fFuse m) _ a8) (.cons (len_ob (f:=(eI .i64)) (l:=a.1)) (.cons (getI_ob (f:=(eI .i64)) a9) (.cons (ylook (P:=Tryz.prog) (T:=TT) (t:=54) (kt:=3) (et:=4) (l:=11) (x:=(.tmp 46)) (y:=(.tmp 47)) (f:=(fun x:Int=>Value.int .i64 x)) (g:=Value.bool) (E:=a.2.1.fdirty) (k:=b) (z:=false) (kv_v _) false (by kernel_rfl) (KOk.kw (KOk.int (by kernel_rfl))) (fun w=>by kernel_rfl) (fun _=>rfl) rfl) (.cons (vf a4) (.cons (mdelete (P:=Tryz.prog) (T:=TT) (f:=(fun x:Int=>Value.int .i64 x)) (g:=(fun x:Int=>Value.int .i64 x)) (t:=53) (kt:=3) (et:=3) (t2:=3) (l:=10) (E:=a.2.1.fused) (x:=(.tmp 64)) (y:=(.tmp 65)) (k:=b) (kv_v _) (by kernel_rfl) (KOk.kw (KOk.int (by kernel_rfl)))) (.cons (mdelete (P:=Tryz.prog) (T:=TT) (f:=(fun x:Int=>Value.int .i64 x)) (g:=Value.string) (t:=52) (kt:=3) (et:=9) (t2:=3) (l:=9) (E:=a.2.1.fdata) (x:=(.tmp 69)) (y:=(.tmp 70)) (k:=b) (kv_v _) (by kernel_rfl) (KOk.kw (KOk.int (by kernel_rfl)))) (.cons (mdelete (P:=Tryz.prog) (T:=TT) (f:=(fun x:Int=>Value.int .i64 x)) (g:=Value.bool) (t:=54) (kt:=3) (et:=4) (t2:=3) (l:=11) (E:=a.2.1.fdirty) (x:=(.tmp 74)) (y:=(.tmp 75)) (k:=b) (kv_v _) (by kernel_rfl) (KOk.kw (KOk.int (by kernel_rfl)))) .nil))))))))) q
 ·rw [if_neg a1] at h
  cases h
  exact pkk_sound TTok mix hF 2 (hs:=[.t false]) (ts:=[]) (s:=[0,1,2,3,4,5,6,7,8,9,10,11]) (l:=[0,1,2,3]) (by kernel_rfl) (by kernel_rfl) (.cons (vf a1) .nil) q
/- (*ringhall/ringref3.Cache).use -/
def G1 (n:Nat) (b:Gg) (c:Gb) (a:Int) (d:ByteArray) (e:Bool):Option (Gg×Gb) :=
 (Zs n a d e b c).bind fun g=>match g with
 | .x0 h i j k l =>
  (Ky n a d e h b c i j k l).bind fun m=>match m with
  | .x0 o f p q r s t u v =>
   some ((Gg.mk () o (wi .i64 (f+1)) (mput t a d) (mput u a (wi .i64 (f+1))) (mput v a e)),(Gb.mk p q r s))
  | .x1 w x y z =>
   some ((Gg.mk () b.fSlots (wi .i64 (b.fnow+1)) (mput x a d) (mput y a (wi .i64 (b.fnow+1))) (mput z a e)),(Gb.mk c.fSectors c.fMark c.fFuse w))
theorem Z3 (n:Nat) (b:Gg) (i:Gb) (a:Int) (j:ByteArray) (m:Bool) (r:Gg×Gb) (h:G1 n b i a j m=some r):RetH Tryz.prog 26 [.ref 0 0,.d ((eI .i64) a),.d (eS j),.d (eB m)] [.box [.ref 4 0,di b.fSlots,di b.fnow,.srf 1,.srf 2,.srf 3],.cu (mapC (fun x:Int=>Value.int .i64 x) Value.string b.fdata) [],.cu (mapC (fun x:Int=>Value.int .i64 x) (fun x:Int=>Value.int .i64 x) b.fused) [],.cu (mapC (fun x:Int=>Value.int .i64 x) Value.bool b.fdirty) [],.box [di i.fSectors,di i.fMark,di i.fFuse,.srf 5],.cu (rowF 86 2 (i.fAll.map Gc)) []] (.tup []) [.box [.ref 4 0,di r.1.fSlots,di r.1.fnow,.srf 1,.srf 2,.srf 3],.cu (mapC (fun x:Int=>Value.int .i64 x) Value.string r.1.fdata) [],.cu (mapC (fun x:Int=>Value.int .i64 x) (fun x:Int=>Value.int .i64 x) r.1.fused) [],.cu (mapC (fun x:Int=>Value.int .i64 x) Value.bool r.1.fdirty) [],.box [di r.2.fSectors,di r.2.fMark,di r.2.fFuse,.srf 6],.none,.cu (rowF 86 2 (r.2.fAll.map Gc)) []]:=by
 refine retH_run (n:=110) (fn:=Tryz.f26) (c:=bodyOf Tryz.f26) (by kernel_rfl) (by kernel_rfl) (by kernel_rfl) (by kernel_rfl) ?_
 have hF:KC 110 (FinH Tryz.prog Tryz.f26 [.box [.ref 4 0,di b.fSlots,di b.fnow,.srf 1,.srf 2,.srf 3],.cu (mapC (fun x:Int=>Value.int .i64 x) Value.string b.fdata) [],.cu (mapC (fun x:Int=>Value.int .i64 x) (fun x:Int=>Value.int .i64 x) b.fused) [],.cu (mapC (fun x:Int=>Value.int .i64 x) Value.bool b.fdirty) [],.box [di i.fSectors,di i.fMark,di i.fFuse,.srf 5],.cu (rowF 86 2 (i.fAll.map Gc)) []] (.tup []) [.box [.ref 4 0,di r.1.fSlots,di r.1.fnow,.srf 1,.srf 2,.srf 3],.cu (mapC (fun x:Int=>Value.int .i64 x) Value.string r.1.fdata) [],.cu (mapC (fun x:Int=>Value.int .i64 x) (fun x:Int=>Value.int .i64 x) r.1.fused) [],.cu (mapC (fun x:Int=>Value.int .i64 x) Value.bool r.1.fdirty) [],.box [di r.2.fSectors,di r.2.fMark,di r.2.fFuse,.srf 6],.none,.cu (rowF 86 2 (r.2.fAll.map Gc)) []]):=FinH.kc' (by kernel_rfl)
 unfold G1 at h
 obtain ⟨a5,a6,h⟩:=bind_some h
 refine pkk_sound TTok mix hF 4 (hs:=[.c,.e 37 [2] (.d (.tup [.v (.int .i64 ((mget b.fused a).getD 0)),.v (.bool ((mget b.fused a).isSome))])) []]) (ts:=[]) (s:=[6,7,8,9,10,11,0,4,5,1,2,3]) (l:=[0,1,2,3,9]) (by kernel_rfl) (by kernel_rfl) (.cons (ylook (P:=Tryz.prog) (T:=TT) (t:=53) (kt:=3) (et:=3) (l:=2) (x:=(.tmp 16)) (y:=(.tmp 17)) (f:=(fun x:Int=>Value.int .i64 x)) (g:=(fun x:Int=>Value.int .i64 x)) (E:=b.fused) (k:=a) (z:=0) (kv_v _) true (by kernel_rfl) (KOk.kw (KOk.int (by kernel_rfl))) (fun w=>by kernel_rfl) (fun _=>rfl) rfl) .nil) (UP hF (.s (cR (cR (cL (bodyOf Tryz.f26))))::.s (cR (bodyOf Tryz.f26))::[]) n a j m b i _ a6 ?_)
 cases a5 with
 | x0 a7 a8 a9 b0 b1 =>
  try dsimp only at h
  obtain ⟨b2,b3,h⟩:=bind_some h
  refine pkk_sound TTok mix hF 0 (hs:=[]) (ts:=[]) (s:=[0,1,2,3,4,5,6,7,8,9,10,11]) (l:=[0,1,2,3,34]) (by kernel_rfl) (by kernel_rfl) .nil (UT hF (.s (cR (bodyOf Tryz.f26))::[]) n a j m a7 b i a8 a9 b0 b1 _ b3 ?_)
  cases b2 with
  | x0 b4 a3 b5 b6 b7 b8 o p q =>
   try dsimp only at h
   obtain rfl:=Option.some.inj h
   exact pendH_sound TTok mix 3 (hs:=[.c,.c,.c,.c,.c,.c,.e 158 [10,158] (.tup [dd,.srf 158]) [(10,.cu (mapE (fun x:Int=>Value.int .i64 x) (fun x:Int=>Value.int .i64 x) p a 0) [.srf 158]),(158,.cu stampC [])],.e 168 [10] (dd) [(10,.cu (mapC (fun x:Int=>Value.int .i64 x) (fun x:Int=>Value.int .i64 x) (mput p a (wi .i64 (a3+1)))) [])],.e 173 [9,173] (.tup [dd,.srf 173]) [(9,.cu (mapE (fun x:Int=>Value.int .i64 x) Value.string o a (ByteArray.mk #[])) [.srf 173]),(173,.cu stampC [])],.e 183 [9] (dd) [(9,.cu (mapC (fun x:Int=>Value.int .i64 x) Value.string (mput o a j)) [])],.e 188 [11,188] (.tup [dd,.srf 188]) [(11,.cu (mapE (fun x:Int=>Value.int .i64 x) Value.bool q a false) [.srf 188]),(188,.cu stampC [])],.e 198 [11] (dd) [(11,.cu (mapC (fun x:Int=>Value.int .i64 x) Value.bool (mput q a m)) [])]]) [6,9,10,11,7,12,8] (by kernel_rfl) (by kernel_rfl) (by kernel_rfl) (.cons (show 2+1≤6 by decide) (.cons (mentry (P:=Tryz.prog) (T:=TT) (t:=53) (kt:=3) (et:=3) (l:=10) (nl:=158) (x:=(.tmp 86)) (y:=(.tmp 87)) (f:=(fun x:Int=>Value.int .i64 x)) (g:=(fun x:Int=>Value.int .i64 x)) (E:=p) (k:=a) (z:=0) (kv_v _) (by kernel_rfl) (KOk.kw (KOk.int (by kernel_rfl))) (fun w=>by kernel_rfl) (fun _=>rfl) (by decide)) (.cons (estore (P:=Tryz.prog) (T:=TT) (t:=53) (l:=10) (nl:=158) (x:=(.tmp 86)) (y:=(.tmp 105)) (u:=(.tmp 101)) (f:=(fun x:Int=>Value.int .i64 x)) (g:=(fun x:Int=>Value.int .i64 x)) (E:=p) (k:=a) (z:=0) (v:=(wi .i64 (a3+1)))) (.cons (mentry (P:=Tryz.prog) (T:=TT) (t:=52) (kt:=3) (et:=9) (l:=9) (nl:=173) (x:=(.tmp 91)) (y:=(.tmp 92)) (f:=(fun x:Int=>Value.int .i64 x)) (g:=Value.string) (E:=o) (k:=a) (z:=(ByteArray.mk #[])) (kv_v _) (by kernel_rfl) (KOk.kw (KOk.int (by kernel_rfl))) (fun w=>by kernel_rfl) (fun _=>rfl) (by decide)) (.cons (estore (P:=Tryz.prog) (T:=TT) (t:=52) (l:=9) (nl:=173) (x:=(.tmp 91)) (y:=(.tmp 107)) (u:=(.tmp 102)) (f:=(fun x:Int=>Value.int .i64 x)) (g:=Value.string) (E:=o) (k:=a) (z:=(ByteArray.mk #[])) (v:=j)) (.cons (mentry (P:=Tryz.prog) (T:=TT) (t:=54) (kt:=3) (et:=4) (l:=11) (nl:=188) (x:=(.tmp 96)) (y:=(.tmp 97)) (f:=(fun x:Int=>Value.int .i64 x)) (g:=Value.bool) (E:=q) (k:=a) (z:=false) (kv_v _) (by kernel_rfl) (KOk.kw (KOk.int (by kernel_rfl))) (fun w=>by kernel_rfl) (fun _=>rfl) (by decide)) (.cons (estore (P:=Tryz.prog) (T:=TT) (t:=54) (l:=11) (nl:=188) (x:=(.tmp 96)) (y:=(.tmp 109)) (u:=(.tmp 103)) (f:=(fun x:Int=>Value.int .i64 x)) (g:=Value.bool) (E:=q) (k:=a) (z:=false) (v:=m)) .nil)))))))
  | x1 a4 a0 a1 a2 =>
   try dsimp only at h
   obtain rfl:=Option.some.inj h
   exact pendH_sound TTok mix 4 (hs:=[.c,.c,.c,.c,.c,.c,.e 157 [10,157] (.tup [dd,.srf 157]) [(10,.cu (mapE (fun x:Int=>Value.int .i64 x) (fun x:Int=>Value.int .i64 x) a1 a 0) [.srf 157]),(157,.cu stampC [])],.e 167 [10] (dd) [(10,.cu (mapC (fun x:Int=>Value.int .i64 x) (fun x:Int=>Value.int .i64 x) (mput a1 a (wi .i64 (b.fnow+1)))) [])],.e 172 [9,172] (.tup [dd,.srf 172]) [(9,.cu (mapE (fun x:Int=>Value.int .i64 x) Value.string a0 a (ByteArray.mk #[])) [.srf 172]),(172,.cu stampC [])],.e 182 [9] (dd) [(9,.cu (mapC (fun x:Int=>Value.int .i64 x) Value.string (mput a0 a j)) [])],.e 187 [11,187] (.tup [dd,.srf 187]) [(11,.cu (mapE (fun x:Int=>Value.int .i64 x) Value.bool a2 a false) [.srf 187]),(187,.cu stampC [])],.e 197 [11] (dd) [(11,.cu (mapC (fun x:Int=>Value.int .i64 x) Value.bool (mput a2 a m)) [])],.sx [8] (fmvS 8 86 2 (a4.map Gc))]) [6,9,10,11,7,8,202] (by kernel_rfl) (by kernel_rfl) (by kernel_rfl) (.cons (show 2+1≤6 by decide) (.cons (mentry (P:=Tryz.prog) (T:=TT) (t:=53) (kt:=3) (et:=3) (l:=10) (nl:=157) (x:=(.tmp 86)) (y:=(.tmp 87)) (f:=(fun x:Int=>Value.int .i64 x)) (g:=(fun x:Int=>Value.int .i64 x)) (E:=a1) (k:=a) (z:=0) (kv_v _) (by kernel_rfl) (KOk.kw (KOk.int (by kernel_rfl))) (fun w=>by kernel_rfl) (fun _=>rfl) (by decide)) (.cons (estore (P:=Tryz.prog) (T:=TT) (t:=53) (l:=10) (nl:=157) (x:=(.tmp 86)) (y:=(.tmp 105)) (u:=(.tmp 101)) (f:=(fun x:Int=>Value.int .i64 x)) (g:=(fun x:Int=>Value.int .i64 x)) (E:=a1) (k:=a) (z:=0) (v:=(wi .i64 (b.fnow+1)))) (.cons (mentry (P:=Tryz.prog) (T:=TT) (t:=52) (kt:=3) (et:=9) (l:=9) (nl:=172) (x:=(.tmp 91)) (y:=(.tmp 92)) (f:=(fun x:Int=>Value.int .i64 x)) (g:=Value.string) (E:=a0) (k:=a) (z:=(ByteArray.mk #[])) (kv_v _) (by kernel_rfl) (KOk.kw (KOk.int (by kernel_rfl))) (fun w=>by kernel_rfl) (fun _=>rfl) (by decide)) (.cons (estore (P:=Tryz.prog) (T:=TT) (t:=52) (l:=9) (nl:=172) (x:=(.tmp 91)) (y:=(.tmp 107)) (u:=(.tmp 102)) (f:=(fun x:Int=>Value.int .i64 x)) (g:=Value.string) (E:=a0) (k:=a) (z:=(ByteArray.mk #[])) (v:=j)) (.cons (mentry (P:=Tryz.prog) (T:=TT) (t:=54) (kt:=3) (et:=4) (l:=11) (nl:=187) (x:=(.tmp 96)) (y:=(.tmp 97)) (f:=(fun x:Int=>Value.int .i64 x)) (g:=Value.bool) (E:=a2) (k:=a) (z:=false) (kv_v _) (by kernel_rfl) (KOk.kw (KOk.int (by kernel_rfl))) (fun w=>by kernel_rfl) (fun _=>rfl) (by decide)) (.cons (estore (P:=Tryz.prog) (T:=TT) (t:=54) (l:=11) (nl:=187) (x:=(.tmp 96)) (y:=(.tmp 109)) (u:=(.tmp 103)) (f:=(fun x:Int=>Value.int .i64 x)) (g:=Value.bool) (E:=a2) (k:=a) (z:=false) (v:=m)) (.cons (fmv (l:=8) (e:=86) (s:=2) (xs:=(a4.map Gc))) .nil))))))))
inductive K3 where
 | x0 (a:Bool) (b:(List Gi)) (c:(List (Int×ByteArray))) (d:(List (Int×Int))) (e:(List (Int×Bool)))
def UU:K3→Ex
 | .x0 _ _ _ _ _=>.normal
def UV (c:Int) (e:ByteArray) (b:Gg) (a:Gb):K3→PS
 | .x0 f g h i j=>⟨(.ref 6 0::di c::.d (.v (.string e))::(dds 21 [.d (.v (.bool f)),dd,dd,dd,dd])),[.gh 0 (.ref 6 0),.gh 1 (.srf 9),.gh 2 (.srf 10),.gh 3 (.srf 11),.gh 4 (.ref 7 0),.gh 5 (.srf 8),.box [.ref 7 0,di b.fSlots,di b.fnow,.srf 9,.srf 10,.srf 11],.box [di a.fSectors,di a.fMark,di a.fFuse,.srf 8],.cu (rowF 86 2 (g.map Gc)) [],.cu (mapC (fun x:Int=>Value.int .i64 x) Value.string h) [],.cu (mapC (fun x:Int=>Value.int .i64 x) (fun x:Int=>Value.int .i64 x) i) [],.cu (mapC (fun x:Int=>Value.int .i64 x) Value.bool j) []]⟩
def UW (c:Int) (e:ByteArray) (a:Gg) (b:Gb)  : PS:=⟨(.ref 6 0::di c::.d (.v (.string e))::(dds 26 [])),[.gh 0 (.ref 6 0),.gh 1 (.srf 9),.gh 2 (.srf 10),.gh 3 (.srf 11),.gh 4 (.ref 7 0),.gh 5 (.srf 8),.box [.ref 7 0,di a.fSlots,di a.fnow,.srf 9,.srf 10,.srf 11],.box [di b.fSectors,di b.fMark,di b.fFuse,.srf 8],.cu (rowF 86 2 (b.fAll.map Gc)) [],.cu (mapC (fun x:Int=>Value.int .i64 x) Value.string a.fdata) [],.cu (mapC (fun x:Int=>Value.int .i64 x) (fun x:Int=>Value.int .i64 x) a.fused) [],.cu (mapC (fun x:Int=>Value.int .i64 x) Value.bool a.fdirty) []]⟩
def Zt (n:Nat) (c:Int) (d:ByteArray) (a:Gg) (b:Gb):Option K3 :=
 if c<0 then
  some (.x0 true b.fAll a.fdata a.fused a.fdirty)
 else
  if c≥b.fSectors then
   some (.x0 true b.fAll a.fdata a.fused a.fdirty)
  else
   some (.x0 ((d.size:Int) != 64) b.fAll a.fdata a.fused a.fdirty)
theorem UX {Fi:Ex→PS→Prop} (hF:KC 29 Fi) (ks:List Fr) (n:Nat) (a:Int) (f:ByteArray) (g:Gg) (d:Gb)  (o:K3) (h:Zt n a f g d=some o) (q:RunE Tryz.prog 29 Fi ks (UU o) (UV a f g d o)):RunE Tryz.prog 29 Fi (.s (cL (cL (cR (bodyOf Tryz.f10))))::ks) .normal (UW a f g d):=by
 unfold Zt at h
 by_cases b:a<0
 ·rw [if_pos b] at h
  cases h
  exact pkk_sound TTok mix hF 1 (hs:=[.t true,.c,.c,.c,.c,.c,.c,.c,.c,.c,.c,.c]) (ts:=[]) (s:=[0,1,2,3,4,5,6,7,8,9,10,11]) (l:=[0,1,2,24]) (by kernel_rfl) (by kernel_rfl) (.cons (dt b) .nil) q
 ·rw [if_neg b] at h
  by_cases e:a≥d.fSectors
  ·rw [if_pos e] at h
   cases h
   exact pkk_sound TTok mix hF 1 (hs:=[.t false,.c,.c,.c,.c,.c,.c,.c,.c,.c,.c,.t true,.c,.c]) (ts:=[]) (s:=[0,1,2,3,4,5,6,7,8,9,10,11]) (l:=[0,1,2,24]) (by kernel_rfl) (by kernel_rfl) (.cons (df b) (.cons (dt e) .nil)) q
  ·rw [if_neg e] at h
   cases h
   exact pkk_sound TTok mix hF 1 (hs:=[.t false,.c,.c,.c,.c,.c,.c,.c,.c,.c,.c,.t false,.c,.c]) (ts:=[]) (s:=[0,1,2,3,4,5,6,7,8,9,10,11]) (l:=[0,1,2,24]) (by kernel_rfl) (by kernel_rfl) (.cons (df b) (.cons (df e) .nil)) q
/- (*ringhall/ringref3.Cache).Put -/
def Ku (n:Nat) (b:Gg) (a:Gb) (c:Int) (d:ByteArray):Option (Int×Gg×Gb) :=
 (Zt n c d b a).bind fun j=>match j with
 | .x0 k e f g h =>
  if k=true then
   some (1,(Gg.mk () b.fSlots b.fnow f g h),(Gb.mk a.fSectors a.fMark a.fFuse e))
  else
   (G1 n (Gg.mk () b.fSlots b.fnow f g h) (Gb.mk a.fSectors a.fMark a.fFuse e) c d true).bind fun (i:(Gg×Gb)) =>
   some (0,i.1,i.2)
theorem Xd (n:Nat) (a:Gg) (b:Gb) (g:Int) (i:ByteArray) (r:Int×Gg×Gb) (h:Ku n a b g i=some r):RetH Tryz.prog 10 [.ref 0 0,.d ((eI .i64) g),.d (eS i)] [.box [.ref 4 0,di a.fSlots,di a.fnow,.srf 1,.srf 2,.srf 3],.cu (mapC (fun x:Int=>Value.int .i64 x) Value.string a.fdata) [],.cu (mapC (fun x:Int=>Value.int .i64 x) (fun x:Int=>Value.int .i64 x) a.fused) [],.cu (mapC (fun x:Int=>Value.int .i64 x) Value.bool a.fdirty) [],.box [di b.fSectors,di b.fMark,di b.fFuse,.srf 5],.cu (rowF 86 2 (b.fAll.map Gc)) []] (.d ((eI .i64) r.1)) [.box [.ref 4 0,di r.2.1.fSlots,di r.2.1.fnow,.srf 1,.srf 2,.srf 3],.cu (mapC (fun x:Int=>Value.int .i64 x) Value.string r.2.1.fdata) [],.cu (mapC (fun x:Int=>Value.int .i64 x) (fun x:Int=>Value.int .i64 x) r.2.1.fused) [],.cu (mapC (fun x:Int=>Value.int .i64 x) Value.bool r.2.1.fdirty) [],.box [di r.2.2.fSectors,di r.2.2.fMark,di r.2.2.fFuse,.srf 6],.none,.cu (rowF 86 2 (r.2.2.fAll.map Gc)) []]:=by
 refine retH_run (n:=29) (fn:=Tryz.f10) (c:=bodyOf Tryz.f10) (by kernel_rfl) (by kernel_rfl) (by kernel_rfl) (by kernel_rfl) ?_
 have hF:KC 29 (FinH Tryz.prog Tryz.f10 [.box [.ref 4 0,di a.fSlots,di a.fnow,.srf 1,.srf 2,.srf 3],.cu (mapC (fun x:Int=>Value.int .i64 x) Value.string a.fdata) [],.cu (mapC (fun x:Int=>Value.int .i64 x) (fun x:Int=>Value.int .i64 x) a.fused) [],.cu (mapC (fun x:Int=>Value.int .i64 x) Value.bool a.fdirty) [],.box [di b.fSectors,di b.fMark,di b.fFuse,.srf 5],.cu (rowF 86 2 (b.fAll.map Gc)) []] (.d ((eI .i64) r.1)) [.box [.ref 4 0,di r.2.1.fSlots,di r.2.1.fnow,.srf 1,.srf 2,.srf 3],.cu (mapC (fun x:Int=>Value.int .i64 x) Value.string r.2.1.fdata) [],.cu (mapC (fun x:Int=>Value.int .i64 x) (fun x:Int=>Value.int .i64 x) r.2.1.fused) [],.cu (mapC (fun x:Int=>Value.int .i64 x) Value.bool r.2.1.fdirty) [],.box [di r.2.2.fSectors,di r.2.2.fMark,di r.2.2.fFuse,.srf 6],.none,.cu (rowF 86 2 (r.2.2.fAll.map Gc)) []]):=FinH.kc' (by kernel_rfl)
 unfold Ku at h
 obtain ⟨m,o,h⟩:=bind_some h
 refine pkk_sound TTok mix hF 4 (hs:=[]) (ts:=[]) (s:=[6,7,8,9,10,11,0,4,5,1,2,3]) (l:=[0,1,2]) (by kernel_rfl) (by kernel_rfl) .nil (UX hF (.s (cR (cL (cR (bodyOf Tryz.f10))))::.s (cR (cR (bodyOf Tryz.f10)))::[]) n g i a b _ o ?_)
 cases m with
 | x0 p k q u w =>
  try dsimp only at h
  by_cases j:p=true
  ·rw [if_pos j] at h
   obtain rfl:=Option.some.inj h
   exact pendH_sound TTok mix 6 (hs:=[.t true,.dl 4,.sx [8] (fmvS 8 86 2 (k.map Gc))]) [6,9,10,11,7,8,17] (by kernel_rfl) (by kernel_rfl) (by kernel_rfl) (.cons j (.cons (fmv (l:=8) (e:=86) (s:=2) (xs:=(k.map Gc))) .nil))
  ·rw [if_neg j] at h
   obtain ⟨f,y,h⟩:=bind_some h
   obtain rfl:=Option.some.inj h
   exact pendH_sound TTok mix 7 (hs:=[.t false,.h [6,9,10,11,7,8] [] [.box [.ref 4 0,di f.1.fSlots,di f.1.fnow,.srf 1,.srf 2,.srf 3],.cu (mapC (fun x:Int=>Value.int .i64 x) Value.string f.1.fdata) [],.cu (mapC (fun x:Int=>Value.int .i64 x) (fun x:Int=>Value.int .i64 x) f.1.fused) [],.cu (mapC (fun x:Int=>Value.int .i64 x) Value.bool f.1.fdirty) [],.box [di f.2.fSectors,di f.2.fMark,di f.2.fFuse,.srf 6],.none,.cu (rowF 86 2 (f.2.fAll.map Gc)) []] (.tup [])]) [6,9,10,11,7,8,27] (by kernel_rfl) (by kernel_rfl) (by kernel_rfl) (.cons (vf j) (.cons (Z3 n (Gg.mk () a.fSlots a.fnow q u w) (Gb.mk b.fSectors b.fMark b.fFuse k) g i true _ y) .nil))
/- math/bits.Len64 -/
def YH (n:Nat) (a:Int):Option (Int) :=
 if a≥4294967296 then
  if (shrI .u64 a 32)≥65536 then
   if (shrI .u64 (shrI .u64 a 32) 16)≥256 then
    (getS (ByteArray.mk #[0,1,2,2,3,3,3,3,4,4,4,4,4,4,4,4,5,5,5,5,5,5,5,5,5,5,5,5,5,5,5,5,6,6,6,6,6,6,6,6,6,6,6,6,6,6,6,6,6,6,6,6,6,6,6,6,6,6,6,6,6,6,6,6,7,7,7,7,7,7,7,7,7,7,7,7,7,7,7,7,7,7,7,7,7,7,7,7,7,7,7,7,7,7,7,7,7,7,7,7,7,7,7,7,7,7,7,7,7,7,7,7,7,7,7,7,7,7,7,7,7,7,7,7,7,7,7,7,8,8,8,8,8,8,8,8,8,8,8,8,8,8,8,8,8,8,8,8,8,8,8,8,8,8,8,8,8,8,8,8,8,8,8,8,8,8,8,8,8,8,8,8,8,8,8,8,8,8,8,8,8,8,8,8,8,8,8,8,8,8,8,8,8,8,8,8,8,8,8,8,8,8,8,8,8,8,8,8,8,8,8,8,8,8,8,8,8,8,8,8,8,8,8,8,8,8,8,8,8,8,8,8,8,8,8,8,8,8,8,8,8,8,8,8,8,8,8,8,8,8,8,8,8,8,8,8]) (wi .u8 (shrI .u64 (shrI .u64 (shrI .u64 a 32) 16) 8))).bind fun (b:Int) =>
    some (wi .i64 ((wi .i64 ((wi .i64 (32+16))+8))+(wi .i64 b)))
   else
    (getS (ByteArray.mk #[0,1,2,2,3,3,3,3,4,4,4,4,4,4,4,4,5,5,5,5,5,5,5,5,5,5,5,5,5,5,5,5,6,6,6,6,6,6,6,6,6,6,6,6,6,6,6,6,6,6,6,6,6,6,6,6,6,6,6,6,6,6,6,6,7,7,7,7,7,7,7,7,7,7,7,7,7,7,7,7,7,7,7,7,7,7,7,7,7,7,7,7,7,7,7,7,7,7,7,7,7,7,7,7,7,7,7,7,7,7,7,7,7,7,7,7,7,7,7,7,7,7,7,7,7,7,7,7,8,8,8,8,8,8,8,8,8,8,8,8,8,8,8,8,8,8,8,8,8,8,8,8,8,8,8,8,8,8,8,8,8,8,8,8,8,8,8,8,8,8,8,8,8,8,8,8,8,8,8,8,8,8,8,8,8,8,8,8,8,8,8,8,8,8,8,8,8,8,8,8,8,8,8,8,8,8,8,8,8,8,8,8,8,8,8,8,8,8,8,8,8,8,8,8,8,8,8,8,8,8,8,8,8,8,8,8,8,8,8,8,8,8,8,8,8,8,8,8,8,8,8,8,8,8,8,8]) (wi .u8 (shrI .u64 (shrI .u64 a 32) 16))).bind fun (c:Int) =>
    some (wi .i64 ((wi .i64 (32+16))+(wi .i64 c)))
  else
   if (shrI .u64 a 32)≥256 then
    (getS (ByteArray.mk #[0,1,2,2,3,3,3,3,4,4,4,4,4,4,4,4,5,5,5,5,5,5,5,5,5,5,5,5,5,5,5,5,6,6,6,6,6,6,6,6,6,6,6,6,6,6,6,6,6,6,6,6,6,6,6,6,6,6,6,6,6,6,6,6,7,7,7,7,7,7,7,7,7,7,7,7,7,7,7,7,7,7,7,7,7,7,7,7,7,7,7,7,7,7,7,7,7,7,7,7,7,7,7,7,7,7,7,7,7,7,7,7,7,7,7,7,7,7,7,7,7,7,7,7,7,7,7,7,8,8,8,8,8,8,8,8,8,8,8,8,8,8,8,8,8,8,8,8,8,8,8,8,8,8,8,8,8,8,8,8,8,8,8,8,8,8,8,8,8,8,8,8,8,8,8,8,8,8,8,8,8,8,8,8,8,8,8,8,8,8,8,8,8,8,8,8,8,8,8,8,8,8,8,8,8,8,8,8,8,8,8,8,8,8,8,8,8,8,8,8,8,8,8,8,8,8,8,8,8,8,8,8,8,8,8,8,8,8,8,8,8,8,8,8,8,8,8,8,8,8,8,8,8,8,8,8]) (wi .u8 (shrI .u64 (shrI .u64 a 32) 8))).bind fun (d:Int) =>
    some (wi .i64 ((wi .i64 (32+8))+(wi .i64 d)))
   else
    (getS (ByteArray.mk #[0,1,2,2,3,3,3,3,4,4,4,4,4,4,4,4,5,5,5,5,5,5,5,5,5,5,5,5,5,5,5,5,6,6,6,6,6,6,6,6,6,6,6,6,6,6,6,6,6,6,6,6,6,6,6,6,6,6,6,6,6,6,6,6,7,7,7,7,7,7,7,7,7,7,7,7,7,7,7,7,7,7,7,7,7,7,7,7,7,7,7,7,7,7,7,7,7,7,7,7,7,7,7,7,7,7,7,7,7,7,7,7,7,7,7,7,7,7,7,7,7,7,7,7,7,7,7,7,8,8,8,8,8,8,8,8,8,8,8,8,8,8,8,8,8,8,8,8,8,8,8,8,8,8,8,8,8,8,8,8,8,8,8,8,8,8,8,8,8,8,8,8,8,8,8,8,8,8,8,8,8,8,8,8,8,8,8,8,8,8,8,8,8,8,8,8,8,8,8,8,8,8,8,8,8,8,8,8,8,8,8,8,8,8,8,8,8,8,8,8,8,8,8,8,8,8,8,8,8,8,8,8,8,8,8,8,8,8,8,8,8,8,8,8,8,8,8,8,8,8,8,8,8,8,8,8]) (wi .u8 (shrI .u64 a 32))).bind fun (e:Int) =>
    some (wi .i64 (32+(wi .i64 e)))
 else
  if a≥65536 then
   if (shrI .u64 a 16)≥256 then
    (getS (ByteArray.mk #[0,1,2,2,3,3,3,3,4,4,4,4,4,4,4,4,5,5,5,5,5,5,5,5,5,5,5,5,5,5,5,5,6,6,6,6,6,6,6,6,6,6,6,6,6,6,6,6,6,6,6,6,6,6,6,6,6,6,6,6,6,6,6,6,7,7,7,7,7,7,7,7,7,7,7,7,7,7,7,7,7,7,7,7,7,7,7,7,7,7,7,7,7,7,7,7,7,7,7,7,7,7,7,7,7,7,7,7,7,7,7,7,7,7,7,7,7,7,7,7,7,7,7,7,7,7,7,7,8,8,8,8,8,8,8,8,8,8,8,8,8,8,8,8,8,8,8,8,8,8,8,8,8,8,8,8,8,8,8,8,8,8,8,8,8,8,8,8,8,8,8,8,8,8,8,8,8,8,8,8,8,8,8,8,8,8,8,8,8,8,8,8,8,8,8,8,8,8,8,8,8,8,8,8,8,8,8,8,8,8,8,8,8,8,8,8,8,8,8,8,8,8,8,8,8,8,8,8,8,8,8,8,8,8,8,8,8,8,8,8,8,8,8,8,8,8,8,8,8,8,8,8,8,8,8,8]) (wi .u8 (shrI .u64 (shrI .u64 a 16) 8))).bind fun (f:Int) =>
    some (wi .i64 ((wi .i64 ((wi .i64 (0+16))+8))+(wi .i64 f)))
   else
    (getS (ByteArray.mk #[0,1,2,2,3,3,3,3,4,4,4,4,4,4,4,4,5,5,5,5,5,5,5,5,5,5,5,5,5,5,5,5,6,6,6,6,6,6,6,6,6,6,6,6,6,6,6,6,6,6,6,6,6,6,6,6,6,6,6,6,6,6,6,6,7,7,7,7,7,7,7,7,7,7,7,7,7,7,7,7,7,7,7,7,7,7,7,7,7,7,7,7,7,7,7,7,7,7,7,7,7,7,7,7,7,7,7,7,7,7,7,7,7,7,7,7,7,7,7,7,7,7,7,7,7,7,7,7,8,8,8,8,8,8,8,8,8,8,8,8,8,8,8,8,8,8,8,8,8,8,8,8,8,8,8,8,8,8,8,8,8,8,8,8,8,8,8,8,8,8,8,8,8,8,8,8,8,8,8,8,8,8,8,8,8,8,8,8,8,8,8,8,8,8,8,8,8,8,8,8,8,8,8,8,8,8,8,8,8,8,8,8,8,8,8,8,8,8,8,8,8,8,8,8,8,8,8,8,8,8,8,8,8,8,8,8,8,8,8,8,8,8,8,8,8,8,8,8,8,8,8,8,8,8,8,8]) (wi .u8 (shrI .u64 a 16))).bind fun (g:Int) =>
    some (wi .i64 ((wi .i64 (0+16))+(wi .i64 g)))
  else
   if a≥256 then
    (getS (ByteArray.mk #[0,1,2,2,3,3,3,3,4,4,4,4,4,4,4,4,5,5,5,5,5,5,5,5,5,5,5,5,5,5,5,5,6,6,6,6,6,6,6,6,6,6,6,6,6,6,6,6,6,6,6,6,6,6,6,6,6,6,6,6,6,6,6,6,7,7,7,7,7,7,7,7,7,7,7,7,7,7,7,7,7,7,7,7,7,7,7,7,7,7,7,7,7,7,7,7,7,7,7,7,7,7,7,7,7,7,7,7,7,7,7,7,7,7,7,7,7,7,7,7,7,7,7,7,7,7,7,7,8,8,8,8,8,8,8,8,8,8,8,8,8,8,8,8,8,8,8,8,8,8,8,8,8,8,8,8,8,8,8,8,8,8,8,8,8,8,8,8,8,8,8,8,8,8,8,8,8,8,8,8,8,8,8,8,8,8,8,8,8,8,8,8,8,8,8,8,8,8,8,8,8,8,8,8,8,8,8,8,8,8,8,8,8,8,8,8,8,8,8,8,8,8,8,8,8,8,8,8,8,8,8,8,8,8,8,8,8,8,8,8,8,8,8,8,8,8,8,8,8,8,8,8,8,8,8,8]) (wi .u8 (shrI .u64 a 8))).bind fun (h:Int) =>
    some (wi .i64 ((wi .i64 (0+8))+(wi .i64 h)))
   else
    (getS (ByteArray.mk #[0,1,2,2,3,3,3,3,4,4,4,4,4,4,4,4,5,5,5,5,5,5,5,5,5,5,5,5,5,5,5,5,6,6,6,6,6,6,6,6,6,6,6,6,6,6,6,6,6,6,6,6,6,6,6,6,6,6,6,6,6,6,6,6,7,7,7,7,7,7,7,7,7,7,7,7,7,7,7,7,7,7,7,7,7,7,7,7,7,7,7,7,7,7,7,7,7,7,7,7,7,7,7,7,7,7,7,7,7,7,7,7,7,7,7,7,7,7,7,7,7,7,7,7,7,7,7,7,8,8,8,8,8,8,8,8,8,8,8,8,8,8,8,8,8,8,8,8,8,8,8,8,8,8,8,8,8,8,8,8,8,8,8,8,8,8,8,8,8,8,8,8,8,8,8,8,8,8,8,8,8,8,8,8,8,8,8,8,8,8,8,8,8,8,8,8,8,8,8,8,8,8,8,8,8,8,8,8,8,8,8,8,8,8,8,8,8,8,8,8,8,8,8,8,8,8,8,8,8,8,8,8,8,8,8,8,8,8,8,8,8,8,8,8,8,8,8,8,8,8,8,8,8,8,8,8]) (wi .u8 a)).bind fun (i:Int) =>
    some (wi .i64 (0+(wi .i64 i)))
theorem V4 (n:Nat) (b r:Int) (h:YH n b=some r):Ret Tryz.prog 64 [(eI .u64) b] ((eI .i64) r):=by
 refine ret_run (n:=25) (fn:=Tryz.f64) (c:=bodyOf Tryz.f64) (by kernel_rfl) (by kernel_rfl) (by kernel_rfl) (by kernel_rfl) ?_
 have hF:KC 25 (FinR Tryz.prog Tryz.f64 ((eI .i64) r)):=FinR.kc' (by kernel_rfl)
 unfold YH at h
 by_cases a:b≥4294967296
 ·rw [if_pos a] at h
  by_cases e:(shrI .u64 b 32)≥65536
  ·rw [if_pos e] at h
   by_cases g:(shrI .u64 (shrI .u64 b 32) 16)≥256
   ·rw [if_pos g] at h
    obtain ⟨m,o,h⟩:=bind_some h
    obtain rfl:=Option.some.inj h
    exact pend_sound TTok mix 26 (hs:=[.t true,.t true,.t true,.l (.d (.v (.int .u8 m)))]) (by kernel_rfl) (by kernel_rfl) (by kernel_rfl) (.cons (dt a) (.cons (show (0:Int)≤32 by decide) (.cons (dt e) (.cons (show (0:Int)≤16 by decide) (.cons (dt g) (.cons (show (0:Int)≤8 by decide) (.cons (getS_ob o) .nil)))))))
   ·rw [if_neg g] at h
    obtain ⟨p,q,h⟩:=bind_some h
    obtain rfl:=Option.some.inj h
    exact pend_sound TTok mix 24 (hs:=[.t true,.t true,.t false,.l (.d (.v (.int .u8 p)))]) (by kernel_rfl) (by kernel_rfl) (by kernel_rfl) (.cons (dt a) (.cons (show (0:Int)≤32 by decide) (.cons (dt e) (.cons (show (0:Int)≤16 by decide) (.cons (df g) (.cons (getS_ob q) .nil))))))
  ·rw [if_neg e] at h
   by_cases i:(shrI .u64 b 32)≥256
   ·rw [if_pos i] at h
    obtain ⟨s,u,h⟩:=bind_some h
    obtain rfl:=Option.some.inj h
    exact pend_sound TTok mix 24 (hs:=[.t true,.t false,.t true,.l (.d (.v (.int .u8 s)))]) (by kernel_rfl) (by kernel_rfl) (by kernel_rfl) (.cons (dt a) (.cons (show (0:Int)≤32 by decide) (.cons (df e) (.cons (dt i) (.cons (show (0:Int)≤8 by decide) (.cons (getS_ob u) .nil))))))
   ·rw [if_neg i] at h
    obtain ⟨w,x,h⟩:=bind_some h
    obtain rfl:=Option.some.inj h
    exact pend_sound TTok mix 22 (hs:=[.t true,.t false,.t false,.l (.d (.v (.int .u8 w)))]) (by kernel_rfl) (by kernel_rfl) (by kernel_rfl) (.cons (dt a) (.cons (show (0:Int)≤32 by decide) (.cons (df e) (.cons (df i) (.cons (getS_ob x) .nil)))))
 ·rw [if_neg a] at h
  by_cases f:b≥65536
  ·rw [if_pos f] at h
   by_cases j:(shrI .u64 b 16)≥256
   ·rw [if_pos j] at h
    obtain ⟨y,z,h⟩:=bind_some h
    obtain rfl:=Option.some.inj h
    exact pend_sound TTok mix 24 (hs:=[.t false,.t true,.t true,.l (.d (.v (.int .u8 y)))]) (by kernel_rfl) (by kernel_rfl) (by kernel_rfl) (.cons (df a) (.cons (dt f) (.cons (show (0:Int)≤16 by decide) (.cons (dt j) (.cons (show (0:Int)≤8 by decide) (.cons (getS_ob z) .nil))))))
   ·rw [if_neg j] at h
    obtain ⟨a0,a1,h⟩:=bind_some h
    obtain rfl:=Option.some.inj h
    exact pend_sound TTok mix 22 (hs:=[.t false,.t true,.t false,.l (.d (.v (.int .u8 a0)))]) (by kernel_rfl) (by kernel_rfl) (by kernel_rfl) (.cons (df a) (.cons (dt f) (.cons (show (0:Int)≤16 by decide) (.cons (df j) (.cons (getS_ob a1) .nil)))))
  ·rw [if_neg f] at h
   by_cases k:b≥256
   ·rw [if_pos k] at h
    obtain ⟨a2,a3,h⟩:=bind_some h
    obtain rfl:=Option.some.inj h
    exact pend_sound TTok mix 22 (hs:=[.t false,.t false,.t true,.l (.d (.v (.int .u8 a2)))]) (by kernel_rfl) (by kernel_rfl) (by kernel_rfl) (.cons (df a) (.cons (df f) (.cons (dt k) (.cons (show (0:Int)≤8 by decide) (.cons (getS_ob a3) .nil)))))
   ·rw [if_neg k] at h
    obtain ⟨a4,a5,h⟩:=bind_some h
    obtain rfl:=Option.some.inj h
    exact pend_sound TTok mix 20 (hs:=[.t false,.t false,.t false,.l (.d (.v (.int .u8 a4)))]) (by kernel_rfl) (by kernel_rfl) (by kernel_rfl) (.cons (df a) (.cons (df f) (.cons (df k) (.cons (getS_ob a5) .nil))))
/- math/bits.Len -/
def ZV (n:Nat) (a:Int):Option (Int) :=
 (YH n a).bind fun (b:(Int)) =>
 some b
theorem Vj (n:Nat) (a r:Int) (h:ZV n a=some r):Ret Tryz.prog 48 [(eI .u64) a] ((eI .i64) r):=by
 refine ret_run (n:=8) (fn:=Tryz.f48) (c:=bodyOf Tryz.f48) (by kernel_rfl) (by kernel_rfl) (by kernel_rfl) (by kernel_rfl) ?_
 have hF:KC 8 (FinR Tryz.prog Tryz.f48 ((eI .i64) r)):=FinR.kc' (by kernel_rfl)
 unfold ZV at h
 obtain ⟨b,d,h⟩:=bind_some h
 obtain rfl:=Option.some.inj h
 exact pend_sound TTok mix 8 (hs:=[.c,.r ((eI .i64) b)]) (by kernel_rfl) (by kernel_rfl) (by kernel_rfl) (.cons (V4 n a _ d) .nil)
/- cmp.isNaN[int] -/
def Yy (n:Nat) (a:Int):Option (Bool) :=
 some (a != a)
theorem ZO (n:Nat) (a:Int) (r:Bool) (h:Yy n a=some r):Ret Tryz.prog 99 [(eI .i64) a] (eB r):=by
 refine ret_run (n:=6) (fn:=Tryz.f99) (c:=bodyOf Tryz.f99) (by kernel_rfl) (by kernel_rfl) (by kernel_rfl) (by kernel_rfl) ?_
 have hF:KC 6 (FinR Tryz.prog Tryz.f99 (eB r)):=FinR.kc' (by kernel_rfl)
 unfold Yy at h
 obtain rfl:=Option.some.inj h
 exact pend_sound TTok mix 5 (hs:=[]) (by kernel_rfl) (by kernel_rfl) (by kernel_rfl) .nil
inductive Yt where
 | x0 (a:Bool)
def V5:Yt→Ex
 | .x0 _=>.normal
def V6 (b c:Int):Yt→PS
 | .x0 a=>⟨(dd::dd::dd::dd::.d (.v (.bool a))::(dds 12 [])),[]⟩
def V7 (a b:Int)  : PS:=⟨(di a::di b::(dds 15 [])),[]⟩
def YI (n:Nat) (a b:Int):Option Yt :=
 (Yy n a).bind fun (c:(Bool)) =>
 if c=true then
  (Yy n b).bind fun (d:(Bool)) =>
  if d=true then
   some (.x0 (decide (a<b)))
  else
   some (.x0 true)
 else
  some (.x0 (decide (a<b)))
theorem V8 {Fi:Ex→PS→Prop} (hF:KC 17 Fi) (ks:List Fr) (n:Nat) (a b:Int)  (o:Yt) (h:YI n a b=some o) (q:RunE Tryz.prog 17 Fi ks (V5 o) (V6 a b o)):RunE Tryz.prog 17 Fi (.s (cL (cR (bodyOf Tryz.f79)))::ks) .normal (V7 a b):=by
 unfold YI at h
 obtain ⟨e,g,h⟩:=bind_some h
 by_cases d:e=true
 ·rw [if_pos d] at h
  obtain ⟨i,j,h⟩:=bind_some h
  by_cases f:i=true
  ·rw [if_pos f] at h
   cases h
   exact pkk_sound TTok mix hF 1 (hs:=[.r (eB e),.t true,.c,.r (eB i),.c,.t false,.c,.c]) (ts:=[]) (s:=[]) (l:=[4]) (by kernel_rfl) (by kernel_rfl) (.cons (ZO n a _ g) (.cons d (.cons (ZO n b _ j) (.cons (bnf f) .nil)))) q
  ·rw [if_neg f] at h
   cases h
   exact pkk_sound TTok mix hF 1 (hs:=[.r (eB e),.t true,.c,.r (eB i),.c,.t true,.c,.c]) (ts:=[]) (s:=[]) (l:=[4]) (by kernel_rfl) (by kernel_rfl) (.cons (ZO n a _ g) (.cons d (.cons (ZO n b _ j) (.cons (bnt (vf f)) .nil)))) q
 ·rw [if_neg d] at h
  cases h
  exact pkk_sound TTok mix hF 1 (hs:=[.r (eB e),.t false,.c,.c,.c,.c,.c]) (ts:=[]) (s:=[]) (l:=[4]) (by kernel_rfl) (by kernel_rfl) (.cons (ZO n a _ g) (.cons (vf d) .nil)) q
/- cmp.Less[int] -/
def Gj (n:Nat) (a b:Int):Option (Bool) :=
 (YI n a b).bind fun c=>match c with
 | .x0 d =>
  some d
theorem Gn (n:Nat) (a b:Int) (r:Bool) (h:Gj n a b=some r):Ret Tryz.prog 79 [(eI .i64) a,(eI .i64) b] (eB r):=by
 refine ret_run (n:=17) (fn:=Tryz.f79) (c:=bodyOf Tryz.f79) (by kernel_rfl) (by kernel_rfl) (by kernel_rfl) (by kernel_rfl) ?_
 have hF:KC 17 (FinR Tryz.prog Tryz.f79 (eB r)):=FinR.kc' (by kernel_rfl)
 unfold Gj at h
 obtain ⟨d,e,h⟩:=bind_some h
 refine pkk_sound TTok mix hF 3 (hs:=[]) (ts:=[]) (s:=[]) (l:=[0,1]) (by kernel_rfl) (by kernel_rfl) .nil (V8 hF (.s (cR (cR (bodyOf Tryz.f79)))::[]) n a b _ e ?_)
 cases d with
 | x0 f =>
  try dsimp only at h
  obtain rfl:=Option.some.inj h
  exact pend_sound TTok mix 1 (hs:=[]) (by kernel_rfl) (by kernel_rfl) (by kernel_rfl) .nil
inductive SC where
 | x0 (a:(List Int))
def YU:SC→Ex
 | .x0 _=>.exit 2
def YV (a b c:Int):SC→PS
 | .x0 e=>⟨(.srf 1::di a::di b::dd::dd::dd::di c::(dds 42 [])),[.gh 0 (.srf 1),.row 3 1 (e.map (eI .i64))]⟩
def YW (a b c e:Int) (f:(List Int)):PS:=⟨(.srf 1::di a::di b::dd::dd::dd::di c::di e::(dds 41 [])),[.gh 0 (.srf 1),.row 3 1 (f.map (eI .i64))]⟩
def GC (n:Nat) (d e f:Int):Nat→Int→(List Int)→Option SC
 | 0,_,_=>none
 | k+1,a,b =>
  if a > d then
   if 0≤a∧(a).toNat<b.length then
    (b[(a).toNat]?).bind fun (g:Int) =>
    if 0≤(wi .i64 (a-1))∧((wi .i64 (a-1))).toNat<b.length then
     (b[((wi .i64 (a-1))).toNat]?).bind fun (h:Int) =>
     (Gj n g h).bind fun (i:(Bool)) =>
     if i=true then
      if 0≤(wi .i64 (a-1))∧((wi .i64 (a-1))).toNat<b.length then
       (b[((wi .i64 (a-1))).toNat]?).bind fun (c:Int) =>
       if 0≤a∧(a).toNat<b.length then
        (b[(a).toNat]?).bind fun (j:Int) =>
        if 0≤a∧(a).toNat<b.length then
         (b[(a).toNat]?).bind fun (l:Int) =>
         if 0≤(wi .i64 (a-1))∧((wi .i64 (a-1))).toNat<(b.set (a).toNat c).length then
          ((b.set (a).toNat c)[((wi .i64 (a-1))).toNat]?).bind fun (m:Int) =>
          GC n d e f k (wi .i64 (a-1)) ((b.set (a).toNat c).set ((wi .i64 (a-1))).toNat j)
         else none
        else none
       else none
      else none
     else
      some (.x0 b)
    else none
   else none
  else
   some (.x0 b)
theorem Zx {Fi:Ex→PS→Prop} (hF:KC 49 Fi) (ks:List Fr) (n:Nat) (g j m:Int)  : ∀ (k:Nat) (a:Int) (b:(List Int)) (o:SC),GC n g j m k a b=some o→RunE Tryz.prog 49 Fi ks (YU o) (YV g j m o)→RunE Tryz.prog 49 Fi (.l k (cP (cB (cR (cB (cL (cR (cP (cB (cR (bodyOf Tryz.f73))))))))))::ks) .normal (YW g j m a b)
 | 0,a,b,o,h,q=>by rw [GC] at h; cases h
 | k+1,a,b,o,h,q=>by
  rw [GC] at h
  by_cases i:a > g
  ·rw [if_pos i] at h
   by_cases u:0≤a∧(a).toNat<b.length
   ·rw [if_pos u] at h
    obtain ⟨x,a8,h⟩:=bind_some h
    by_cases a0:0≤(wi .i64 (a-1))∧((wi .i64 (a-1))).toNat<b.length
    ·rw [if_pos a0] at h
     obtain ⟨a1,a9,h⟩:=bind_some h
     obtain ⟨a3,b0,h⟩:=bind_some h
     by_cases a2:a3=true
     ·rw [if_pos a2] at h
      by_cases a4:0≤(wi .i64 (a-1))∧((wi .i64 (a-1))).toNat<b.length
      ·rw [if_pos a4] at h
       obtain ⟨d,b1,h⟩:=bind_some h
       by_cases a5:0≤a∧(a).toNat<b.length
       ·rw [if_pos a5] at h
        obtain ⟨e,b2,h⟩:=bind_some h
        by_cases a6:0≤a∧(a).toNat<b.length
        ·rw [if_pos a6] at h
         obtain ⟨b3,b4,h⟩:=bind_some h
         by_cases a7:0≤(wi .i64 (a-1))∧((wi .i64 (a-1))).toNat<(b.set (a).toNat d).length
         ·rw [if_pos a7] at h
          obtain ⟨b5,b6,h⟩:=bind_some h
          exact pkk_sound TTok mix hF 11 (hs:=[.t true,.c,.c,.c,.y ((eI .i64) x),.c,.c,.c,.c,.c,.y ((eI .i64) a1),.c,.r (eB a3),.t true,.y ((eI .i64) d),.y ((eI .i64) e),.w ((b.set (a).toNat d).map (eI .i64)),.y ((eI .i64) b3),.w (((b.set (a).toNat d).set ((wi .i64 (a-1))).toNat e).map (eI .i64)),.y ((eI .i64) b5)]) (ts:=[]) (s:=[0,1]) (l:=[0,1,2,6,7]) (by kernel_rfl) (by kernel_rfl) (.cons (dt i) (.cons (idx_ob (f:=(eI .i64)) u) (.cons (get_ob (f:=(eI .i64)) a8) (.cons (idx_ob (f:=(eI .i64)) a0) (.cons (get_ob (f:=(eI .i64)) a9) (.cons (Gn n x a1 _ b0) (.cons a2 (.cons (idx_ob (f:=(eI .i64)) a4) (.cons (get_ob (f:=(eI .i64)) b1) (.cons (idx_ob (f:=(eI .i64)) a5) (.cons (get_ob (f:=(eI .i64)) b2) (.cons (idx_ob (f:=(eI .i64)) a6) (.cons (get_ob (f:=(eI .i64)) b4) (.cons (Eq.refl (pcells (.v (.int .i64 d)))) (.cons (set_ob (f:=(eI .i64)) (l:=b) (k:=(a).toNat) (z:=d) (p:=.v (.int .i64 d)) rfl) (.cons (idx_ob (f:=(eI .i64)) a7) (.cons (get_ob (f:=(eI .i64)) b6) (.cons (Eq.refl (pcells (.v (.int .i64 e)))) (.cons (set_ob (f:=(eI .i64)) (l:=(b.set (a).toNat d)) (k:=((wi .i64 (a-1))).toNat) (z:=e) (p:=.v (.int .i64 e)) rfl) .nil))))))))))))))))))) (Zx hF ks n g j m k (wi .i64 (a-1)) ((b.set (a).toNat d).set ((wi .i64 (a-1))).toNat e) _ h q)
         ·rw [if_neg a7] at h; cases h
        ·rw [if_neg a6] at h; cases h
       ·rw [if_neg a5] at h; cases h
      ·rw [if_neg a4] at h; cases h
     ·rw [if_neg a2] at h
      cases h
      exact pkk_sound TTok mix hF 8 (hs:=[.t true,.c,.c,.c,.y ((eI .i64) x),.c,.c,.c,.c,.c,.y ((eI .i64) a1),.c,.r (eB a3),.t false]) (ts:=[]) (s:=[0,1]) (l:=[0,1,2,6]) (by kernel_rfl) (by kernel_rfl) (.cons (dt i) (.cons (idx_ob (f:=(eI .i64)) u) (.cons (get_ob (f:=(eI .i64)) a8) (.cons (idx_ob (f:=(eI .i64)) a0) (.cons (get_ob (f:=(eI .i64)) a9) (.cons (Gn n x a1 _ b0) (.cons (vf a2) .nil))))))) q
    ·rw [if_neg a0] at h; cases h
   ·rw [if_neg u] at h; cases h
  ·rw [if_neg i] at h
   cases h
   exact pkk_sound TTok mix hF 8 (hs:=[.t false,.c,.c,.c,.c,.c,.c,.c,.c,.c,.c]) (ts:=[]) (s:=[0,1]) (l:=[0,1,2,6]) (by kernel_rfl) (by kernel_rfl) (.cons (df i) .nil) q
inductive SD where
 | x0 (a:(List Int))
def YX:SD→Ex
 | .x0 _=>.exit 0
def YY (b c:Int):SD→PS
 | .x0 a=>⟨(dds 49 []),[.gh 0 (.srf 1),.row 3 1 (a.map (eI .i64))]⟩
def YZ (a b c:Int) (e:(List Int)):PS:=⟨(.srf 1::di a::di b::dd::dd::dd::di c::(dds 42 [])),[.gh 0 (.srf 1),.row 3 1 (e.map (eI .i64))]⟩
def GD (n:Nat) (c b:Int):Nat→Int→(List Int)→Option SD
 | 0,_,_=>none
 | k+1,a,d =>
  if a<b then
   (GC n c b a n a d).bind fun e=>match e with
   | .x0 f =>
    GD n c b k (wi .i64 (a+1)) f
  else
   some (.x0 d)
theorem Zy {Fi:Ex→PS→Prop} (hF:KC 49 Fi) (ks:List Fr) (n:Nat) (d c:Int)  : ∀ (k:Nat) (a:Int) (e:(List Int)) (o:SD),GD n d c k a e=some o→RunE Tryz.prog 49 Fi ks (YX o) (YY d c o)→RunE Tryz.prog 49 Fi (.l k (cP (cB (cR (bodyOf Tryz.f73))))::ks) .normal (YZ d c a e)
 | 0,a,e,o,h,q=>by rw [GD] at h; cases h
 | k+1,a,e,o,h,q=>by
  rw [GD] at h
  by_cases f:a<c
  ·rw [if_pos f] at h
   obtain ⟨g,i,h⟩:=bind_some h
   refine pkk_sound TTok mix hF 12 (hs:=[.t true,.n n]) (ts:=[]) (s:=[0,1]) (l:=[0,1,2,6,7]) (by kernel_rfl) (by kernel_rfl) (.cons (dt f) .nil) (Zx hF (.b 2::.b 1::.s (cR (cR (cP (cB (cR (bodyOf Tryz.f73))))))::.l k (cP (cB (cR (bodyOf Tryz.f73))))::ks) n d c a n a e _ i ?_)
   cases g with
   | x0 j =>
    try dsimp only at h
    exact pkk_sound TTok mix hF 3 (hs:=[]) (ts:=[]) (s:=[0,1]) (l:=[0,1,2,6]) (by kernel_rfl) (by kernel_rfl) .nil (Zy hF ks n d c k (wi .i64 (a+1)) j _ h q)
  ·rw [if_neg f] at h
   cases h
   exact pkk_sound TTok mix hF 8 (hs:=[.t false]) (ts:=[]) (s:=[0,1]) (l:=[]) (by kernel_rfl) (by kernel_rfl) (.cons (df f) .nil) q
/- slices.insertionSortOrdered[int] -/
def Sn (n:Nat) (b:(List Int)) (a c:Int):Option ((List Int)) :=
 (GD n a c n (wi .i64 (a+1)) b).bind fun d=>match d with
 | .x0 e =>
  some e
theorem Xb (n:Nat) (a:(List Int)) (e f:Int) (r:(List Int)) (h:Sn n a e f=some r):RetH Tryz.prog 73 [.srf 0,.d ((eI .i64) e),.d ((eI .i64) f)] [.row 3 1 (a.map (eI .i64))] (.tup []) [.row 3 1 (r.map (eI .i64))]:=by
 refine retH_run (n:=49) (fn:=Tryz.f73) (c:=bodyOf Tryz.f73) (by kernel_rfl) (by kernel_rfl) (by kernel_rfl) (by kernel_rfl) ?_
 have hF:KC 49 (FinH Tryz.prog Tryz.f73 [.row 3 1 (a.map (eI .i64))] (.tup []) [.row 3 1 (r.map (eI .i64))]):=FinH.kc' (by kernel_rfl)
 unfold Sn at h
 obtain ⟨g,i,h⟩:=bind_some h
 refine pkk_sound TTok mix hF 4 (hs:=[.n n]) (ts:=[]) (s:=[1,0]) (l:=[0,1,2,6]) (by kernel_rfl) (by kernel_rfl) .nil (Zy hF (.b 0::[]) n e f n (wi .i64 (e+1)) a _ i ?_)
 cases g with
 | x0 j =>
  try dsimp only at h
  obtain rfl:=Option.some.inj h
  exact pendH_sound TTok mix 1 (hs:=[]) [1] (by kernel_rfl) (by kernel_rfl) (by kernel_rfl) .nil
inductive So where
 | x0 (a:Bool) (b:(List Int))
def Xz:So→Ex
 | .x0 _ _=>.normal
def XA (b c a:Int) (g:(List Int)):So→PS
 | .x0 e f=>⟨(.srf 1::dd::di b::di c::dd::dd::dd::dd::di a::di (wi .i64 ((wi .i64 (2*a))+1))::(dds 26 (.d (.v (.bool e))::(dds 39 [])))),[.gh 0 (.srf 1),.row 3 1 (f.map (eI .i64))]⟩
def XB (b c a:Int) (e:(List Int))  : PS:=⟨(.srf 1::dd::di b::di c::dd::dd::dd::dd::di a::di (wi .i64 ((wi .i64 (2*a))+1))::(dds 66 [])),[.gh 0 (.srf 1),.row 3 1 (e.map (eI .i64))]⟩
def SF (n:Nat) (d b a:Int) (c:(List Int)):Option So :=
 if (wi .i64 ((wi .i64 ((wi .i64 (2*a))+1))+1))<d then
  if 0≤(wi .i64 (b+(wi .i64 ((wi .i64 (2*a))+1))))∧((wi .i64 (b+(wi .i64 ((wi .i64 (2*a))+1))))).toNat<c.length then
   (c[((wi .i64 (b+(wi .i64 ((wi .i64 (2*a))+1))))).toNat]?).bind fun (e:Int) =>
   if 0≤(wi .i64 ((wi .i64 (b+(wi .i64 ((wi .i64 (2*a))+1))))+1))∧((wi .i64 ((wi .i64 (b+(wi .i64 ((wi .i64 (2*a))+1))))+1))).toNat<c.length then
    (c[((wi .i64 ((wi .i64 (b+(wi .i64 ((wi .i64 (2*a))+1))))+1))).toNat]?).bind fun (f:Int) =>
    (Gj n e f).bind fun (g:(Bool)) =>
    some (.x0 g c)
   else none
  else none
 else
  some (.x0 false c)
theorem XC {Fi:Ex→PS→Prop} (hF:KC 76 Fi) (ks:List Fr) (n:Nat) (e b a:Int) (d:(List Int))  (o:So) (h:SF n e b a d=some o) (q:RunE Tryz.prog 76 Fi ks (Xz o) (XA e b a d o)):RunE Tryz.prog 76 Fi (.s (cL (cL (cR (cR (cB (cP (cB (cR (bodyOf Tryz.f94)))))))))::ks) .normal (XB e b a d):=by
 unfold SF at h
 by_cases g:(wi .i64 ((wi .i64 ((wi .i64 (2*a))+1))+1))<e
 ·rw [if_pos g] at h
  by_cases i:0≤(wi .i64 (b+(wi .i64 ((wi .i64 (2*a))+1))))∧((wi .i64 (b+(wi .i64 ((wi .i64 (2*a))+1))))).toNat<d.length
  ·rw [if_pos i] at h
   obtain ⟨k,p,h⟩:=bind_some h
   by_cases j:0≤(wi .i64 ((wi .i64 (b+(wi .i64 ((wi .i64 (2*a))+1))))+1))∧((wi .i64 ((wi .i64 (b+(wi .i64 ((wi .i64 (2*a))+1))))+1))).toNat<d.length
   ·rw [if_pos j] at h
    obtain ⟨m,u,h⟩:=bind_some h
    obtain ⟨v,w,h⟩:=bind_some h
    cases h
    exact pkk_sound TTok mix hF 1 (hs:=[.t true,.c,.c,.c,.c,.c,.y ((eI .i64) k),.c,.c,.c,.c,.c,.c,.c,.y ((eI .i64) m),.c,.r (eB v)]) (ts:=[]) (s:=[0,1]) (l:=[0,2,3,8,9,36]) (by kernel_rfl) (by kernel_rfl) (.cons (dt g) (.cons (idx_ob (f:=(eI .i64)) i) (.cons (get_ob (f:=(eI .i64)) p) (.cons (idx_ob (f:=(eI .i64)) j) (.cons (get_ob (f:=(eI .i64)) u) (.cons (Gn n k m _ w) .nil)))))) q
   ·rw [if_neg j] at h; cases h
  ·rw [if_neg i] at h; cases h
 ·rw [if_neg g] at h
  cases h
  exact pkk_sound TTok mix hF 1 (hs:=[.t false,.c,.c,.c,.c,.c,.c,.c,.c,.c,.c,.c,.c,.c]) (ts:=[]) (s:=[0,1]) (l:=[0,2,3,8,9,36]) (by kernel_rfl) (by kernel_rfl) (.cons (df g) .nil) q
inductive SZ where
 | x0 (a:Int) (b:(List Int))
def XD:SZ→Ex
 | .x0 _ _=>.normal
def XE (a b c:Int) (g:Bool) (h:(List Int)):SZ→PS
 | .x0 e f=>⟨(.srf 1::dd::di a::di b::dd::dd::dd::dd::di c::di e::(dds 66 [])),[.gh 0 (.srf 1),.row 3 1 (f.map (eI .i64))]⟩
def XF (b c a:Int) (e:Bool) (f:(List Int))  : PS:=⟨(.srf 1::dd::di b::di c::dd::dd::dd::dd::di a::di (wi .i64 ((wi .i64 (2*a))+1))::(dds 26 (.d (.v (.bool e))::(dds 39 [])))),[.gh 0 (.srf 1),.row 3 1 (f.map (eI .i64))]⟩
def Sc (n:Nat) (d e a:Int) (c:Bool) (b:(List Int)):Option SZ :=
 if c=true then
  some (.x0 (wi .i64 ((wi .i64 ((wi .i64 (2*a))+1))+1)) b)
 else
  some (.x0 (wi .i64 ((wi .i64 (2*a))+1)) b)
theorem XG {Fi:Ex→PS→Prop} (hF:KC 76 Fi) (ks:List Fr) (n:Nat) (c d e:Int) (a:Bool) (f:(List Int))  (o:SZ) (h:Sc n c d e a f=some o) (q:RunE Tryz.prog 76 Fi ks (XD o) (XE c d e a f o)):RunE Tryz.prog 76 Fi (.s (cR (cL (cR (cR (cB (cP (cB (cR (bodyOf Tryz.f94)))))))))::ks) .normal (XF c d e a f):=by
 unfold Sc at h
 by_cases b:a=true
 ·rw [if_pos b] at h
  cases h
  exact pkk_sound TTok mix hF 2 (hs:=[.t true]) (ts:=[]) (s:=[0,1]) (l:=[0,2,3,8,9]) (by kernel_rfl) (by kernel_rfl) (.cons b .nil) q
 ·rw [if_neg b] at h
  cases h
  exact pkk_sound TTok mix hF 2 (hs:=[.t false]) (ts:=[]) (s:=[0,1]) (l:=[0,2,3,8,9]) (by kernel_rfl) (by kernel_rfl) (.cons (vf b) .nil) q
inductive S4 where
 | x0 (a:(List Int))
 | x1 (b:(List Int))
def XH:S4→Ex
 | .x0 _=>.exit 0
 | .x1 _=>.ret
def XI (c d:Int):S4→PS
 | .x0 a=>⟨(dds 76 []),[.gh 0 (.srf 1),.row 3 1 (a.map (eI .i64))]⟩
 | .x1 b=>⟨(dds 76 []),[.gh 0 (.srf 1),.row 3 1 (b.map (eI .i64))]⟩
def XJ (a b c:Int) (e:(List Int)):PS:=⟨(.srf 1::dd::di a::di b::dd::dd::dd::dd::di c::(dds 67 [])),[.gh 0 (.srf 1),.row 3 1 (e.map (eI .i64))]⟩
def GQ (n:Nat) (e a:Int):Nat→Int→(List Int)→Option S4
 | 0,_,_=>none
 | k+1,b,g =>
  if (wi .i64 ((wi .i64 (2*b))+1))≥e then
   some (.x0 g)
  else
   (SF n e a b g).bind fun h=>match h with
   | .x0 i j =>
    (Sc n e a b i j).bind fun l=>match l with
    | .x0 d c =>
     if 0≤(wi .i64 (a+b))∧((wi .i64 (a+b))).toNat<c.length then
      (c[((wi .i64 (a+b))).toNat]?).bind fun (m:Int) =>
      if 0≤(wi .i64 (a+d))∧((wi .i64 (a+d))).toNat<c.length then
       (c[((wi .i64 (a+d))).toNat]?).bind fun (o:Int) =>
       (Gj n m o).bind fun (p:(Bool)) =>
       if p=true then
        if 0≤(wi .i64 (a+d))∧((wi .i64 (a+d))).toNat<c.length then
         (c[((wi .i64 (a+d))).toNat]?).bind fun (f:Int) =>
         if 0≤(wi .i64 (a+b))∧((wi .i64 (a+b))).toNat<c.length then
          (c[((wi .i64 (a+b))).toNat]?).bind fun (q:Int) =>
          if 0≤(wi .i64 (a+b))∧((wi .i64 (a+b))).toNat<c.length then
           (c[((wi .i64 (a+b))).toNat]?).bind fun (r:Int) =>
           if 0≤(wi .i64 (a+d))∧((wi .i64 (a+d))).toNat<(c.set ((wi .i64 (a+b))).toNat f).length then
            ((c.set ((wi .i64 (a+b))).toNat f)[((wi .i64 (a+d))).toNat]?).bind fun (s:Int) =>
            GQ n e a k d ((c.set ((wi .i64 (a+b))).toNat f).set ((wi .i64 (a+d))).toNat q)
           else none
          else none
         else none
        else none
       else
        some (.x1 c)
      else none
     else none
theorem ZP {Fi:Ex→PS→Prop} (hF:KC 76 Fi) (ks:List Fr) (n:Nat) (i a:Int)  : ∀ (k:Nat) (c:Int) (m:(List Int)) (o:S4),GQ n i a k c m=some o→RunE Tryz.prog 76 Fi ks (XH o) (XI i a o)→RunE Tryz.prog 76 Fi (.l k (cP (cB (cR (bodyOf Tryz.f94))))::ks) .normal (XJ i a c m)
 | 0,c,m,o,h,q=>by rw [GQ] at h; cases h
 | k+1,c,m,o,h,q=>by
  rw [GQ] at h
  by_cases u:(wi .i64 ((wi .i64 (2*c))+1))≥i
  ·rw [if_pos u] at h
   cases h
   exact pkk_sound TTok mix hF 12 (hs:=[.t true]) (ts:=[]) (s:=[0,1]) (l:=[]) (by kernel_rfl) (by kernel_rfl) (.cons (dt u) .nil) q
  ·rw [if_neg u] at h
   obtain ⟨b2,b3,h⟩:=bind_some h
   refine pkk_sound TTok mix hF 11 (hs:=[.t false]) (ts:=[]) (s:=[0,1]) (l:=[0,2,3,8,9]) (by kernel_rfl) (by kernel_rfl) (.cons (df u) .nil) (XC hF (.s (cR (cL (cR (cR (cB (cP (cB (cR (bodyOf Tryz.f94)))))))))::.s (cR (cR (cR (cB (cP (cB (cR (bodyOf Tryz.f94))))))))::.b 1::.l k (cP (cB (cR (bodyOf Tryz.f94))))::ks) n i a c m _ b3 ?_)
   cases b2 with
   | x0 b4 b5 =>
    try dsimp only at h
    obtain ⟨b6,b7,h⟩:=bind_some h
    refine pkk_sound TTok mix hF 0 (hs:=[]) (ts:=[]) (s:=[0,1]) (l:=[0,2,3,8,9,36]) (by kernel_rfl) (by kernel_rfl) .nil (XG hF (.s (cR (cR (cR (cB (cP (cB (cR (bodyOf Tryz.f94))))))))::.b 1::.l k (cP (cB (cR (bodyOf Tryz.f94))))::ks) n i a c b4 b5 _ b7 ?_)
    cases b6 with
    | x0 e d =>
     try dsimp only at h
     by_cases x:0≤(wi .i64 (a+c))∧((wi .i64 (a+c))).toNat<d.length
     ·rw [if_pos x] at h
      obtain ⟨a0,a9,h⟩:=bind_some h
      by_cases a1:0≤(wi .i64 (a+e))∧((wi .i64 (a+e))).toNat<d.length
      ·rw [if_pos a1] at h
       obtain ⟨a2,b0,h⟩:=bind_some h
       obtain ⟨a4,b1,h⟩:=bind_some h
       by_cases a3:a4=true
       ·rw [if_pos a3] at h
        by_cases a5:0≤(wi .i64 (a+e))∧((wi .i64 (a+e))).toNat<d.length
        ·rw [if_pos a5] at h
         obtain ⟨g,b8,h⟩:=bind_some h
         by_cases a6:0≤(wi .i64 (a+c))∧((wi .i64 (a+c))).toNat<d.length
         ·rw [if_pos a6] at h
          obtain ⟨j,b9,h⟩:=bind_some h
          by_cases a7:0≤(wi .i64 (a+c))∧((wi .i64 (a+c))).toNat<d.length
          ·rw [if_pos a7] at h
           obtain ⟨c0,c1,h⟩:=bind_some h
           by_cases a8:0≤(wi .i64 (a+e))∧((wi .i64 (a+e))).toNat<(d.set ((wi .i64 (a+c))).toNat g).length
           ·rw [if_pos a8] at h
            obtain ⟨c2,c3,h⟩:=bind_some h
            exact pkk_sound TTok mix hF 9 (hs:=[.y ((eI .i64) a0),.y ((eI .i64) a2),.r (eB a4),.t false,.y ((eI .i64) g),.y ((eI .i64) j),.w ((d.set ((wi .i64 (a+c))).toNat g).map (eI .i64)),.y ((eI .i64) c0),.w (((d.set ((wi .i64 (a+c))).toNat g).set ((wi .i64 (a+e))).toNat j).map (eI .i64)),.y ((eI .i64) c2)]) (ts:=[]) (s:=[0,1]) (l:=[0,2,3,8]) (by kernel_rfl) (by kernel_rfl) (.cons (idx_ob (f:=(eI .i64)) x) (.cons (get_ob (f:=(eI .i64)) a9) (.cons (idx_ob (f:=(eI .i64)) a1) (.cons (get_ob (f:=(eI .i64)) b0) (.cons (Gn n a0 a2 _ b1) (.cons (bnf a3) (.cons (idx_ob (f:=(eI .i64)) a5) (.cons (get_ob (f:=(eI .i64)) b8) (.cons (idx_ob (f:=(eI .i64)) a6) (.cons (get_ob (f:=(eI .i64)) b9) (.cons (idx_ob (f:=(eI .i64)) a7) (.cons (get_ob (f:=(eI .i64)) c1) (.cons (Eq.refl (pcells (.v (.int .i64 g)))) (.cons (set_ob (f:=(eI .i64)) (l:=d) (k:=((wi .i64 (a+c))).toNat) (z:=g) (p:=.v (.int .i64 g)) rfl) (.cons (idx_ob (f:=(eI .i64)) a8) (.cons (get_ob (f:=(eI .i64)) c3) (.cons (Eq.refl (pcells (.v (.int .i64 j)))) (.cons (set_ob (f:=(eI .i64)) (l:=(d.set ((wi .i64 (a+c))).toNat g)) (k:=((wi .i64 (a+e))).toNat) (z:=j) (p:=.v (.int .i64 j)) rfl) .nil)))))))))))))))))) (ZP hF ks n i a k e ((d.set ((wi .i64 (a+c))).toNat g).set ((wi .i64 (a+e))).toNat j) _ h q)
           ·rw [if_neg a8] at h; cases h
          ·rw [if_neg a7] at h; cases h
         ·rw [if_neg a6] at h; cases h
        ·rw [if_neg a5] at h; cases h
       ·rw [if_neg a3] at h
        cases h
        exact pkk_sound TTok mix hF 8 (hs:=[.y ((eI .i64) a0),.y ((eI .i64) a2),.r (eB a4),.t true]) (ts:=[]) (s:=[0,1]) (l:=[]) (by kernel_rfl) (by kernel_rfl) (.cons (idx_ob (f:=(eI .i64)) x) (.cons (get_ob (f:=(eI .i64)) a9) (.cons (idx_ob (f:=(eI .i64)) a1) (.cons (get_ob (f:=(eI .i64)) b0) (.cons (Gn n a0 a2 _ b1) (.cons (bnt (vf a3)) .nil)))))) q
      ·rw [if_neg a1] at h; cases h
     ·rw [if_neg x] at h; cases h
/- slices.siftDownOrdered[int] -/
def Sp (n:Nat) (a:(List Int)) (b c d:Int):Option ((List Int)) :=
 (GQ n c d n b a).bind fun e=>match e with
 | .x0 f =>
  some f
 | .x1 g =>
  some g
theorem Z7 (n:Nat) (a:(List Int)) (e f g:Int) (r:(List Int)) (h:Sp n a e f g=some r):RetH Tryz.prog 94 [.srf 0,.d ((eI .i64) e),.d ((eI .i64) f),.d ((eI .i64) g)] [.row 3 1 (a.map (eI .i64))] (.tup []) [.row 3 1 (r.map (eI .i64))]:=by
 refine retH_run (n:=76) (fn:=Tryz.f94) (c:=bodyOf Tryz.f94) (by kernel_rfl) (by kernel_rfl) (by kernel_rfl) (by kernel_rfl) ?_
 have hF:KC 76 (FinH Tryz.prog Tryz.f94 [.row 3 1 (a.map (eI .i64))] (.tup []) [.row 3 1 (r.map (eI .i64))]):=FinH.kc' (by kernel_rfl)
 unfold Sp at h
 obtain ⟨i,j,h⟩:=bind_some h
 refine pkk_sound TTok mix hF 4 (hs:=[.n n]) (ts:=[]) (s:=[1,0]) (l:=[0,2,3,8]) (by kernel_rfl) (by kernel_rfl) .nil (ZP hF (.b 0::[]) n f g n e a _ j ?_)
 cases i with
 | x0 k =>
  try dsimp only at h
  obtain rfl:=Option.some.inj h
  exact pendH_sound TTok mix 1 (hs:=[]) [1] (by kernel_rfl) (by kernel_rfl) (by kernel_rfl) .nil
 | x1 m =>
  try dsimp only at h
  obtain rfl:=Option.some.inj h
  exact pendH_sound TTok mix 1 (hs:=[]) [1] (by kernel_rfl) (by kernel_rfl) (by kernel_rfl) .nil
inductive S5 where
 | x0 (a:(List Int))
def XK:S5→Ex
 | .x0 _=>.exit 0
def XL (a b:Int):S5→PS
 | .x0 c=>⟨(.srf 1::dd::dd::dd::dd::dd::di a::di 0::di (wi .i64 (b-a))::(dds 47 [])),[.gh 0 (.srf 1),.row 3 1 (c.map (eI .i64))]⟩
def XM (a b c:Int) (e:(List Int)):PS:=⟨(.srf 1::dd::dd::dd::dd::dd::di a::di 0::di (wi .i64 (b-a))::di c::(dds 46 [])),[.gh 0 (.srf 1),.row 3 1 (e.map (eI .i64))]⟩
def GR (n:Nat) (a c:Int):Nat→Int→(List Int)→Option S5
 | 0,_,_=>none
 | k+1,b,d =>
  if b≥0 then
   (Sp n d b (wi .i64 (c-a)) a).bind fun (e:((List Int))) =>
   GR n a c k (wi .i64 (b-1)) e
  else
   some (.x0 d)
theorem ZQ {Fi:Ex→PS→Prop} (hF:KC 56 Fi) (ks:List Fr) (n:Nat) (b c:Int)  : ∀ (k:Nat) (a:Int) (d:(List Int)) (o:S5),GR n b c k a d=some o→RunE Tryz.prog 56 Fi ks (XK o) (XL b c o)→RunE Tryz.prog 56 Fi (.l k (cP (cB (cR (cL (cR (cR (cR (bodyOf Tryz.f74))))))))::ks) .normal (XM b c a d)
 | 0,a,d,o,h,q=>by rw [GR] at h; cases h
 | k+1,a,d,o,h,q=>by
  rw [GR] at h
  by_cases e:a≥0
  ·rw [if_pos e] at h
   obtain ⟨f,g,h⟩:=bind_some h
   exact pkk_sound TTok mix hF 11 (hs:=[.t true,.h [1] [] [.row 3 1 (f.map (eI .i64))] (.tup [])]) (ts:=[]) (s:=[0,1]) (l:=[0,6,7,8,9]) (by kernel_rfl) (by kernel_rfl) (.cons (dt e) (.cons (Z7 n d a (wi .i64 (c-b)) b _ g) .nil)) (ZQ hF ks n b c k (wi .i64 (a-1)) f _ h q)
  ·rw [if_neg e] at h
   cases h
   exact pkk_sound TTok mix hF 8 (hs:=[.t false]) (ts:=[]) (s:=[0,1]) (l:=[0,6,7,8]) (by kernel_rfl) (by kernel_rfl) (.cons (df e) .nil) q
inductive S6 where
 | x0 (a:(List Int))
def XN:S6→Ex
 | .x0 _=>.exit 2
def XO (b:Int):S6→PS
 | .x0 a=>⟨(dds 56 []),[.gh 0 (.srf 1),.row 3 1 (a.map (eI .i64))]⟩
def XP (a b:Int) (c:(List Int)):PS:=⟨(.srf 1::dd::dd::dd::dd::dd::di a::di 0::dd::dd::di b::(dds 45 [])),[.gh 0 (.srf 1),.row 3 1 (c.map (eI .i64))]⟩
def GS (n:Nat) (a:Int):Nat→Int→(List Int)→Option S6
 | 0,_,_=>none
 | k+1,b,c =>
  if b≥0 then
   if 0≤(wi .i64 (a+b))∧((wi .i64 (a+b))).toNat<c.length then
    (c[((wi .i64 (a+b))).toNat]?).bind fun (d:Int) =>
    if 0≤a∧(a).toNat<c.length then
     (c[(a).toNat]?).bind fun (e:Int) =>
     if 0≤a∧(a).toNat<c.length then
      (c[(a).toNat]?).bind fun (g:Int) =>
      if 0≤(wi .i64 (a+b))∧((wi .i64 (a+b))).toNat<(c.set (a).toNat d).length then
       ((c.set (a).toNat d)[((wi .i64 (a+b))).toNat]?).bind fun (h:Int) =>
       (Sp n ((c.set (a).toNat d).set ((wi .i64 (a+b))).toNat e) 0 b a).bind fun (f:((List Int))) =>
       GS n a k (wi .i64 (b-1)) f
      else none
     else none
    else none
   else none
  else
   some (.x0 c)
theorem ZR {Fi:Ex→PS→Prop} (hF:KC 56 Fi) (ks:List Fr) (n:Nat) (a:Int)  : ∀ (k:Nat) (b:Int) (c:(List Int)) (o:S6),GS n a k b c=some o→RunE Tryz.prog 56 Fi ks (XN o) (XO a o)→RunE Tryz.prog 56 Fi (.l k (cP (cB (cR (cR (cR (cR (cR (bodyOf Tryz.f74))))))))::ks) .normal (XP a b c)
 | 0,b,c,o,h,q=>by rw [GS] at h; cases h
 | k+1,b,c,o,h,q=>by
  rw [GS] at h
  by_cases g:b≥0
  ·rw [if_pos g] at h
   by_cases i:0≤(wi .i64 (a+b))∧((wi .i64 (a+b))).toNat<c.length
   ·rw [if_pos i] at h
    obtain ⟨d,x,h⟩:=bind_some h
    by_cases j:0≤a∧(a).toNat<c.length
    ·rw [if_pos j] at h
     obtain ⟨e,a0,h⟩:=bind_some h
     by_cases m:0≤a∧(a).toNat<c.length
     ·rw [if_pos m] at h
      obtain ⟨a1,a2,h⟩:=bind_some h
      by_cases r:0≤(wi .i64 (a+b))∧((wi .i64 (a+b))).toNat<(c.set (a).toNat d).length
      ·rw [if_pos r] at h
       obtain ⟨a3,a4,h⟩:=bind_some h
       obtain ⟨u,a5,h⟩:=bind_some h
       exact pkk_sound TTok mix hF 13 (hs:=[.t true,.y ((eI .i64) d),.y ((eI .i64) e),.w ((c.set (a).toNat d).map (eI .i64)),.y ((eI .i64) a1),.w (((c.set (a).toNat d).set ((wi .i64 (a+b))).toNat e).map (eI .i64)),.y ((eI .i64) a3),.h [1] [] [.row 3 1 (u.map (eI .i64))] (.tup [])]) (ts:=[]) (s:=[0,1]) (l:=[0,6,7,10]) (by kernel_rfl) (by kernel_rfl) (.cons (dt g) (.cons (idx_ob (f:=(eI .i64)) i) (.cons (get_ob (f:=(eI .i64)) x) (.cons (idx_ob (f:=(eI .i64)) j) (.cons (get_ob (f:=(eI .i64)) a0) (.cons (idx_ob (f:=(eI .i64)) m) (.cons (get_ob (f:=(eI .i64)) a2) (.cons (Eq.refl (pcells (.v (.int .i64 d)))) (.cons (set_ob (f:=(eI .i64)) (l:=c) (k:=(a).toNat) (z:=d) (p:=.v (.int .i64 d)) rfl) (.cons (idx_ob (f:=(eI .i64)) r) (.cons (get_ob (f:=(eI .i64)) a4) (.cons (Eq.refl (pcells (.v (.int .i64 e)))) (.cons (set_ob (f:=(eI .i64)) (l:=(c.set (a).toNat d)) (k:=((wi .i64 (a+b))).toNat) (z:=e) (p:=.v (.int .i64 e)) rfl) (.cons (Z7 n ((c.set (a).toNat d).set ((wi .i64 (a+b))).toNat e) 0 b a _ a5) .nil)))))))))))))) (ZR hF ks n a k (wi .i64 (b-1)) u _ h q)
      ·rw [if_neg r] at h; cases h
     ·rw [if_neg m] at h; cases h
    ·rw [if_neg j] at h; cases h
   ·rw [if_neg i] at h; cases h
  ·rw [if_neg g] at h
   cases h
   exact pkk_sound TTok mix hF 8 (hs:=[.t false]) (ts:=[]) (s:=[0,1]) (l:=[]) (by kernel_rfl) (by kernel_rfl) (.cons (df g) .nil) q
/- slices.heapSortOrdered[int] -/
def SP (n:Nat) (c:(List Int)) (a b:Int):Option ((List Int)) :=
 (GR n a b n (quoI .i64 (wi .i64 ((wi .i64 (b-a))-1)) 2) c).bind fun d=>match d with
 | .x0 e =>
  (GS n a n (wi .i64 ((wi .i64 (b-a))-1)) e).bind fun f=>match f with
  | .x0 g =>
   some g
theorem Uq (n:Nat) (f:(List Int)) (a e:Int) (r:(List Int)) (h:SP n f a e=some r):RetH Tryz.prog 74 [.srf 0,.d ((eI .i64) a),.d ((eI .i64) e)] [.row 3 1 (f.map (eI .i64))] (.tup []) [.row 3 1 (r.map (eI .i64))]:=by
 refine retH_run (n:=56) (fn:=Tryz.f74) (c:=bodyOf Tryz.f74) (by kernel_rfl) (by kernel_rfl) (by kernel_rfl) (by kernel_rfl) ?_
 have hF:KC 56 (FinH Tryz.prog Tryz.f74 [.row 3 1 (f.map (eI .i64))] (.tup []) [.row 3 1 (r.map (eI .i64))]):=FinH.kc' (by kernel_rfl)
 unfold SP at h
 obtain ⟨g,i,h⟩:=bind_some h
 refine pkk_sound TTok mix hF 11 (hs:=[.n n]) (ts:=[]) (s:=[1,0]) (l:=[0,6,7,8,9]) (by kernel_rfl) (by kernel_rfl) (.cons (show (2:Int)≠0 by decide) .nil) (ZQ hF (.b 0::.s (cR (cR (cR (cR (bodyOf Tryz.f74)))))::[]) n a e n (quoI .i64 (wi .i64 ((wi .i64 (e-a))-1)) 2) f _ i ?_)
 cases g with
 | x0 j =>
  try dsimp only at h
  obtain ⟨k,m,h⟩:=bind_some h
  refine pkk_sound TTok mix hF 5 (hs:=[.n n]) (ts:=[]) (s:=[0,1]) (l:=[0,6,7,10]) (by kernel_rfl) (by kernel_rfl) .nil (ZR hF (.b 2::[]) n a n (wi .i64 ((wi .i64 (e-a))-1)) j _ m ?_)
  cases k with
  | x0 o =>
   try dsimp only at h
   obtain rfl:=Option.some.inj h
   exact pendH_sound TTok mix 1 (hs:=[]) [1] (by kernel_rfl) (by kernel_rfl) (by kernel_rfl) .nil
/- slices.nextPowerOfTwo -/
def KX (n:Nat) (b:Int):Option (Int) :=
 (ZV n (wi .u64 b)).bind fun (a:(Int)) =>
 if 0≤a then
  some (shlI .u64 1 a)
 else none
theorem VE (n:Nat) (a r:Int) (h:KX n a=some r):Ret Tryz.prog 95 [(eI .i64) a] ((eI .u64) r):=by
 refine ret_run (n:=7) (fn:=Tryz.f95) (c:=bodyOf Tryz.f95) (by kernel_rfl) (by kernel_rfl) (by kernel_rfl) (by kernel_rfl) ?_
 have hF:KC 7 (FinR Tryz.prog Tryz.f95 ((eI .u64) r)):=FinR.kc' (by kernel_rfl)
 unfold KX at h
 obtain ⟨d,e,h⟩:=bind_some h
 by_cases b:0≤d
 ·rw [if_pos b] at h
  obtain rfl:=Option.some.inj h
  exact pend_sound TTok mix 5 (hs:=[.r ((eI .i64) d)]) (by kernel_rfl) (by kernel_rfl) (by kernel_rfl) (.cons (Vj n (wi .u64 a) _ e) (.cons b .nil))
 ·rw [if_neg b] at h; cases h
/- (*slices.xorshift).Next -/
def KI (n:Nat) (a:Int):Option (Int×Int) :=
 some ((bits .xor .u64 (bits .xor .u64 (bits .xor .u64 a (shlI .u64 a 13)) (shrI .u64 (bits .xor .u64 a (shlI .u64 a 13)) 7)) (shlI .u64 (bits .xor .u64 (bits .xor .u64 a (shlI .u64 a 13)) (shrI .u64 (bits .xor .u64 a (shlI .u64 a 13)) 7)) 17)),(bits .xor .u64 (bits .xor .u64 (bits .xor .u64 a (shlI .u64 a 13)) (shrI .u64 (bits .xor .u64 a (shlI .u64 a 13)) 7)) (shlI .u64 (bits .xor .u64 (bits .xor .u64 a (shlI .u64 a 13)) (shrI .u64 (bits .xor .u64 a (shlI .u64 a 13)) 7)) 17)))
theorem Y3 (n:Nat) (a:Int) (r:Int×Int) (h:KI n a=some r):RetH Tryz.prog 96 [.ref 0 0] [.box [.d (.v (.int .u64 a))]] (.d ((eI .u64) r.1)) [.box [.d (.v (.int .u64 r.2))]]:=by
 refine retH_run (n:=33) (fn:=Tryz.f96) (c:=bodyOf Tryz.f96) (by kernel_rfl) (by kernel_rfl) (by kernel_rfl) (by kernel_rfl) ?_
 have hF:KC 33 (FinH Tryz.prog Tryz.f96 [.box [.d (.v (.int .u64 a))]] (.d ((eI .u64) r.1)) [.box [.d (.v (.int .u64 r.2))]]):=FinH.kc' (by kernel_rfl)
 unfold KI at h
 obtain rfl:=Option.some.inj h
 exact pendH_sound TTok mix 11 (hs:=[.c,.c,.c,.c,.c,.c,.c,.c,.c,.c]) [0] (by kernel_rfl) (by kernel_rfl) (by kernel_rfl) (.cons (show (0:Int)≤13 by decide) (.cons (show 0+1≤1 by decide) (.cons (show (0:Int)≤7 by decide) (.cons (show 0+1≤1 by decide) (.cons (show (0:Int)≤17 by decide) (.cons (show 0+1≤1 by decide) .nil))))))
inductive SE where
 | x0 (a:(List Int))
def Y0:SE→Ex
 | .x0 _=>.exit 0
def Y1 (b c:Int) (d:(Int)):SE→PS
 | .x0 a=>⟨(dds 65 []),[.gh 0 (.srf 1),.row 3 1 (a.map (eI .i64))]⟩
def Y2 (a b:Int) (c:(Int)) (e:Int) (f:(List Int)) (g:Int):PS:=⟨(.srf 1::di a::dd::dd::dd::dd::di (wi .i64 (b-a))::.ref 2 0::.d (.v (.int .u64 c))::di e::(dds 55 [])),[.gh 0 (.srf 1),.row 3 1 (f.map (eI .i64)),.box [.d (.v (.int .u64 g))]]⟩
def Gp (n:Nat) (a f:Int) (d:(Int)):Nat→Int→(List Int)→Int→Option SE
 | 0,_,_,_=>none
 | k+1,b,c,i =>
  if b≤(wi .i64 ((wi .i64 (a+(wi .i64 ((quoI .i64 (wi .i64 (f-a)) 4)*2))))+1)) then
   (KI n i).bind fun (e:(Int×Int)) =>
   if (wi .i64 (bits .and .u64 e.1 (wi .u64 (d-1))))≥(wi .i64 (f-a)) then
    if 0≤(wi .i64 (a+(wi .i64 ((wi .i64 (bits .and .u64 e.1 (wi .u64 (d-1))))-(wi .i64 (f-a))))))∧((wi .i64 (a+(wi .i64 ((wi .i64 (bits .and .u64 e.1 (wi .u64 (d-1))))-(wi .i64 (f-a))))))).toNat<c.length then
     (c[((wi .i64 (a+(wi .i64 ((wi .i64 (bits .and .u64 e.1 (wi .u64 (d-1))))-(wi .i64 (f-a))))))).toNat]?).bind fun (g:Int) =>
     if 0≤b∧(b).toNat<c.length then
      (c[(b).toNat]?).bind fun (j:Int) =>
      if 0≤b∧(b).toNat<c.length then
       (c[(b).toNat]?).bind fun (m:Int) =>
       if 0≤(wi .i64 (a+(wi .i64 ((wi .i64 (bits .and .u64 e.1 (wi .u64 (d-1))))-(wi .i64 (f-a))))))∧((wi .i64 (a+(wi .i64 ((wi .i64 (bits .and .u64 e.1 (wi .u64 (d-1))))-(wi .i64 (f-a))))))).toNat<(c.set (b).toNat g).length then
        ((c.set (b).toNat g)[((wi .i64 (a+(wi .i64 ((wi .i64 (bits .and .u64 e.1 (wi .u64 (d-1))))-(wi .i64 (f-a))))))).toNat]?).bind fun (o:Int) =>
        Gp n a f d k (wi .i64 (b+1)) ((c.set (b).toNat g).set ((wi .i64 (a+(wi .i64 ((wi .i64 (bits .and .u64 e.1 (wi .u64 (d-1))))-(wi .i64 (f-a))))))).toNat j) e.2
       else none
      else none
     else none
    else none
   else
    if 0≤(wi .i64 (a+(wi .i64 (bits .and .u64 e.1 (wi .u64 (d-1))))))∧((wi .i64 (a+(wi .i64 (bits .and .u64 e.1 (wi .u64 (d-1))))))).toNat<c.length then
     (c[((wi .i64 (a+(wi .i64 (bits .and .u64 e.1 (wi .u64 (d-1))))))).toNat]?).bind fun (h:Int) =>
     if 0≤b∧(b).toNat<c.length then
      (c[(b).toNat]?).bind fun (l:Int) =>
      if 0≤b∧(b).toNat<c.length then
       (c[(b).toNat]?).bind fun (p:Int) =>
       if 0≤(wi .i64 (a+(wi .i64 (bits .and .u64 e.1 (wi .u64 (d-1))))))∧((wi .i64 (a+(wi .i64 (bits .and .u64 e.1 (wi .u64 (d-1))))))).toNat<(c.set (b).toNat h).length then
        ((c.set (b).toNat h)[((wi .i64 (a+(wi .i64 (bits .and .u64 e.1 (wi .u64 (d-1))))))).toNat]?).bind fun (q:Int) =>
        Gp n a f d k (wi .i64 (b+1)) ((c.set (b).toNat h).set ((wi .i64 (a+(wi .i64 (bits .and .u64 e.1 (wi .u64 (d-1))))))).toNat l) e.2
       else none
      else none
     else none
    else none
  else
   some (.x0 c)
theorem Kf {Fi:Ex→PS→Prop} (hF:KC 65 Fi) (ks:List Fr) (n:Nat) (a i:Int) (g:(Int))  : ∀ (k:Nat) (b:Int) (c:(List Int)) (r:Int) (o:SE),Gp n a i g k b c r=some o→RunE Tryz.prog 65 Fi ks (Y0 o) (Y1 a i g o)→RunE Tryz.prog 65 Fi (.l k (cP (cB (cR (cR (cR (cT (cR (cR (bodyOf Tryz.f75)))))))))::ks) .normal (Y2 a i g b c r)
 | 0,b,c,r,o,h,q=>by rw [Gp] at h; cases h
 | k+1,b,c,r,o,h,q=>by
  rw [Gp] at h
  by_cases a0:b≤(wi .i64 ((wi .i64 (a+(wi .i64 ((quoI .i64 (wi .i64 (i-a)) 4)*2))))+1))
  ·rw [if_pos a0] at h
   obtain ⟨e,b0,h⟩:=bind_some h
   by_cases a1:(wi .i64 (bits .and .u64 e.1 (wi .u64 (g-1))))≥(wi .i64 (i-a))
   ·rw [if_pos a1] at h
    by_cases a2:0≤(wi .i64 (a+(wi .i64 ((wi .i64 (bits .and .u64 e.1 (wi .u64 (g-1))))-(wi .i64 (i-a))))))∧((wi .i64 (a+(wi .i64 ((wi .i64 (bits .and .u64 e.1 (wi .u64 (g-1))))-(wi .i64 (i-a))))))).toNat<c.length
    ·rw [if_pos a2] at h
     obtain ⟨j,b1,h⟩:=bind_some h
     by_cases a3:0≤b∧(b).toNat<c.length
     ·rw [if_pos a3] at h
      obtain ⟨u,b2,h⟩:=bind_some h
      by_cases a4:0≤b∧(b).toNat<c.length
      ·rw [if_pos a4] at h
       obtain ⟨b3,b4,h⟩:=bind_some h
       by_cases a5:0≤(wi .i64 (a+(wi .i64 ((wi .i64 (bits .and .u64 e.1 (wi .u64 (g-1))))-(wi .i64 (i-a))))))∧((wi .i64 (a+(wi .i64 ((wi .i64 (bits .and .u64 e.1 (wi .u64 (g-1))))-(wi .i64 (i-a))))))).toNat<(c.set (b).toNat j).length
       ·rw [if_pos a5] at h
        obtain ⟨b5,b6,h⟩:=bind_some h
        exact pkk_sound TTok mix hF 18 (hs:=[.t true,.h [2] [] [.box [.d (.v (.int .u64 e.2))]] (.d (.v (.int .u64 e.1))),.t true,.y ((eI .i64) j),.y ((eI .i64) u),.w ((c.set (b).toNat j).map (eI .i64)),.y ((eI .i64) b3),.w (((c.set (b).toNat j).set ((wi .i64 (a+(wi .i64 ((wi .i64 (bits .and .u64 e.1 (wi .u64 (g-1))))-(wi .i64 (i-a))))))).toNat u).map (eI .i64)),.y ((eI .i64) b5)]) (ts:=[]) (s:=[0,1,2]) (l:=[0,1,6,7,8,9]) (by kernel_rfl) (by kernel_rfl) (.cons (show (4:Int)≠0 by decide) (.cons (dt a0) (.cons (Y3 n r _ b0) (.cons (dt a1) (.cons (idx_ob (f:=(eI .i64)) a2) (.cons (get_ob (f:=(eI .i64)) b1) (.cons (idx_ob (f:=(eI .i64)) a3) (.cons (get_ob (f:=(eI .i64)) b2) (.cons (idx_ob (f:=(eI .i64)) a4) (.cons (get_ob (f:=(eI .i64)) b4) (.cons (Eq.refl (pcells (.v (.int .i64 j)))) (.cons (set_ob (f:=(eI .i64)) (l:=c) (k:=(b).toNat) (z:=j) (p:=.v (.int .i64 j)) rfl) (.cons (idx_ob (f:=(eI .i64)) a5) (.cons (get_ob (f:=(eI .i64)) b6) (.cons (Eq.refl (pcells (.v (.int .i64 u)))) (.cons (set_ob (f:=(eI .i64)) (l:=(c.set (b).toNat j)) (k:=((wi .i64 (a+(wi .i64 ((wi .i64 (bits .and .u64 e.1 (wi .u64 (g-1))))-(wi .i64 (i-a))))))).toNat) (z:=u) (p:=.v (.int .i64 u)) rfl) .nil)))))))))))))))) (Kf hF ks n a i g k (wi .i64 (b+1)) ((c.set (b).toNat j).set ((wi .i64 (a+(wi .i64 ((wi .i64 (bits .and .u64 e.1 (wi .u64 (g-1))))-(wi .i64 (i-a))))))).toNat u) e.2 _ h q)
       ·rw [if_neg a5] at h; cases h
      ·rw [if_neg a4] at h; cases h
     ·rw [if_neg a3] at h; cases h
    ·rw [if_neg a2] at h; cases h
   ·rw [if_neg a1] at h
    by_cases a6:0≤(wi .i64 (a+(wi .i64 (bits .and .u64 e.1 (wi .u64 (g-1))))))∧((wi .i64 (a+(wi .i64 (bits .and .u64 e.1 (wi .u64 (g-1))))))).toNat<c.length
    ·rw [if_pos a6] at h
     obtain ⟨m,b7,h⟩:=bind_some h
     by_cases a7:0≤b∧(b).toNat<c.length
     ·rw [if_pos a7] at h
      obtain ⟨x,b8,h⟩:=bind_some h
      by_cases a8:0≤b∧(b).toNat<c.length
      ·rw [if_pos a8] at h
       obtain ⟨b9,c0,h⟩:=bind_some h
       by_cases a9:0≤(wi .i64 (a+(wi .i64 (bits .and .u64 e.1 (wi .u64 (g-1))))))∧((wi .i64 (a+(wi .i64 (bits .and .u64 e.1 (wi .u64 (g-1))))))).toNat<(c.set (b).toNat m).length
       ·rw [if_pos a9] at h
        obtain ⟨c1,c2,h⟩:=bind_some h
        exact pkk_sound TTok mix hF 18 (hs:=[.t true,.h [2] [] [.box [.d (.v (.int .u64 e.2))]] (.d (.v (.int .u64 e.1))),.t false,.y ((eI .i64) m),.y ((eI .i64) x),.w ((c.set (b).toNat m).map (eI .i64)),.y ((eI .i64) b9),.w (((c.set (b).toNat m).set ((wi .i64 (a+(wi .i64 (bits .and .u64 e.1 (wi .u64 (g-1))))))).toNat x).map (eI .i64)),.y ((eI .i64) c1)]) (ts:=[]) (s:=[0,1,2]) (l:=[0,1,6,7,8,9]) (by kernel_rfl) (by kernel_rfl) (.cons (show (4:Int)≠0 by decide) (.cons (dt a0) (.cons (Y3 n r _ b0) (.cons (df a1) (.cons (idx_ob (f:=(eI .i64)) a6) (.cons (get_ob (f:=(eI .i64)) b7) (.cons (idx_ob (f:=(eI .i64)) a7) (.cons (get_ob (f:=(eI .i64)) b8) (.cons (idx_ob (f:=(eI .i64)) a8) (.cons (get_ob (f:=(eI .i64)) c0) (.cons (Eq.refl (pcells (.v (.int .i64 m)))) (.cons (set_ob (f:=(eI .i64)) (l:=c) (k:=(b).toNat) (z:=m) (p:=.v (.int .i64 m)) rfl) (.cons (idx_ob (f:=(eI .i64)) a9) (.cons (get_ob (f:=(eI .i64)) c2) (.cons (Eq.refl (pcells (.v (.int .i64 x)))) (.cons (set_ob (f:=(eI .i64)) (l:=(c.set (b).toNat m)) (k:=((wi .i64 (a+(wi .i64 (bits .and .u64 e.1 (wi .u64 (g-1))))))).toNat) (z:=x) (p:=.v (.int .i64 x)) rfl) .nil)))))))))))))))) (Kf hF ks n a i g k (wi .i64 (b+1)) ((c.set (b).toNat m).set ((wi .i64 (a+(wi .i64 (bits .and .u64 e.1 (wi .u64 (g-1))))))).toNat x) e.2 _ h q)
       ·rw [if_neg a9] at h; cases h
      ·rw [if_neg a8] at h; cases h
     ·rw [if_neg a7] at h; cases h
    ·rw [if_neg a6] at h; cases h
  ·rw [if_neg a0] at h
   cases h
   exact pkk_sound TTok mix hF 8 (hs:=[.t false]) (ts:=[]) (s:=[0,1]) (l:=[]) (by kernel_rfl) (by kernel_rfl) (.cons (show (4:Int)≠0 by decide) (.cons (df a0) .nil)) q
/- slices.breakPatternsOrdered[int] -/
def Sq (n:Nat) (c:(List Int)) (a b:Int):Option ((List Int)) :=
 if (wi .i64 (b-a))≥8 then
  (KX n (wi .i64 (b-a))).bind fun (d:(Int)) =>
  (Gp n a b d n (wi .i64 ((wi .i64 (a+(wi .i64 ((quoI .i64 (wi .i64 (b-a)) 4)*2))))-1)) c (wi .u64 (wi .i64 (b-a)))).bind fun e=>match e with
  | .x0 f =>
   some f
 else
  some c
theorem Xc (n:Nat) (f:(List Int)) (a e:Int) (r:(List Int)) (h:Sq n f a e=some r):RetH Tryz.prog 75 [.srf 0,.d ((eI .i64) a),.d ((eI .i64) e)] [.row 3 1 (f.map (eI .i64))] (.tup []) [.row 3 1 (r.map (eI .i64))]:=by
 refine retH_run (n:=65) (fn:=Tryz.f75) (c:=bodyOf Tryz.f75) (by kernel_rfl) (by kernel_rfl) (by kernel_rfl) (by kernel_rfl) ?_
 have hF:KC 65 (FinH Tryz.prog Tryz.f75 [.row 3 1 (f.map (eI .i64))] (.tup []) [.row 3 1 (r.map (eI .i64))]):=FinH.kc' (by kernel_rfl)
 unfold Sq at h
 by_cases g:(wi .i64 (e-a))≥8
 ·rw [if_pos g] at h
  obtain ⟨i,j,h⟩:=bind_some h
  obtain ⟨k,m,h⟩:=bind_some h
  refine pkk_sound TTok mix hF 13 (hs:=[.t true,.c,.r ((eI .u64) i),.n n]) (ts:=[]) (s:=[1,0,42]) (l:=[0,1,6,7,8,9]) (by kernel_rfl) (by kernel_rfl) (.cons (dt g) (.cons (show 0+1≤1 by decide) (.cons (VE n (wi .i64 (e-a)) _ j) (.cons (show (4:Int)≠0 by decide) .nil)))) (Kf hF (.b 0::[]) n a e i n (wi .i64 ((wi .i64 (a+(wi .i64 ((quoI .i64 (wi .i64 (e-a)) 4)*2))))-1)) f (wi .u64 (wi .i64 (e-a))) _ m ?_)
  cases k with
  | x0 o =>
   try dsimp only at h
   obtain rfl:=Option.some.inj h
   exact pendH_sound TTok mix 1 (hs:=[]) [1] (by kernel_rfl) (by kernel_rfl) (by kernel_rfl) .nil
 ·rw [if_neg g] at h
  obtain rfl:=Option.some.inj h
  exact pendH_sound TTok mix 6 (hs:=[.t false]) [0] (by kernel_rfl) (by kernel_rfl) (by kernel_rfl) (.cons (df g) .nil)
/- slices.order2Ordered[int] -/
def Sf (n:Nat) (c:(List Int)) (a b d:Int):Option (Int×Int×Int) :=
 (getI c b).bind fun (e:Int) =>
 (getI c a).bind fun (f:Int) =>
 (Gj n e f).bind fun (g:(Bool)) =>
 if g=true then
  some (b,a,(wi .i64 (d+1)))
 else
  some (a,b,d)
theorem Zv (n:Nat) (j:(List Int)) (k l g:Int) (r:Int×Int×Int) (h:Sf n j k l g=some r):RetH Tryz.prog 107 [.d ((eL (eI .i64)) j),.d ((eI .i64) k),.d ((eI .i64) l),.ref 0 0] [.box [di g]] (.tup [.d ((eI .i64) r.1),.d ((eI .i64) r.2.1)]) [.box [di r.2.2]]:=by
 refine retH_run (n:=28) (fn:=Tryz.f107) (c:=bodyOf Tryz.f107) (by kernel_rfl) (by kernel_rfl) (by kernel_rfl) (by kernel_rfl) ?_
 have hF:KC 28 (FinH Tryz.prog Tryz.f107 [.box [di g]] (.tup [.d ((eI .i64) r.1),.d ((eI .i64) r.2.1)]) [.box [di r.2.2]]):=FinH.kc' (by kernel_rfl)
 unfold Sf at h
 obtain ⟨a,m,h⟩:=bind_some h
 obtain ⟨b,o,h⟩:=bind_some h
 obtain ⟨i,p,h⟩:=bind_some h
 by_cases e:i=true
 ·rw [if_pos e] at h
  obtain rfl:=Option.some.inj h
  exact pendH_sound TTok mix 12 (hs:=[.y ((eI .i64) a),.c,.y ((eI .i64) b),.c,.r (eB i),.t true,.c,.c]) [0] (by kernel_rfl) (by kernel_rfl) (by kernel_rfl) (.cons (getI_ob (f:=(eI .i64)) m) (.cons (getI_ob (f:=(eI .i64)) o) (.cons (Gn n a b _ p) (.cons e (.cons (show 0+1≤1 by decide) .nil)))))
 ·rw [if_neg e] at h
  obtain rfl:=Option.some.inj h
  exact pendH_sound TTok mix 10 (hs:=[.y ((eI .i64) a),.c,.y ((eI .i64) b),.c,.r (eB i),.t false]) [0] (by kernel_rfl) (by kernel_rfl) (by kernel_rfl) (.cons (getI_ob (f:=(eI .i64)) m) (.cons (getI_ob (f:=(eI .i64)) o) (.cons (Gn n a b _ p) (.cons (vf e) .nil))))
/- slices.medianOrdered[int] -/
def Sg (n:Nat) (a:(List Int)) (e f g h:Int):Option (Int×Int) :=
 (Sf n a e f h).bind fun (b:(Int×Int×Int)) =>
 (Sf n a b.2.1 g b.2.2).bind fun (c:(Int×Int×Int)) =>
 (Sf n a b.1 c.1 c.2.2).bind fun (d:(Int×Int×Int)) =>
 some (d.2.1,d.2.2)
theorem Zw (n:Nat) (b:(List Int)) (g i j f:Int) (r:Int×Int) (h:Sg n b g i j f=some r):RetH Tryz.prog 98 [.d ((eL (eI .i64)) b),.d ((eI .i64) g),.d ((eI .i64) i),.d ((eI .i64) j),.ref 0 0] [.box [di f]] (.d ((eI .i64) r.1)) [.box [di r.2]]:=by
 refine retH_run (n:=36) (fn:=Tryz.f98) (c:=bodyOf Tryz.f98) (by kernel_rfl) (by kernel_rfl) (by kernel_rfl) (by kernel_rfl) ?_
 have hF:KC 36 (FinH Tryz.prog Tryz.f98 [.box [di f]] (.d ((eI .i64) r.1)) [.box [di r.2]]):=FinH.kc' (by kernel_rfl)
 unfold Sg at h
 obtain ⟨a,l,h⟩:=bind_some h
 obtain ⟨e,m,h⟩:=bind_some h
 obtain ⟨k,o,h⟩:=bind_some h
 obtain rfl:=Option.some.inj h
 exact pendH_sound TTok mix 11 (hs:=[.h [0] [] [.box [di a.2.2]] (.tup [di a.1,di a.2.1]),.h [0] [] [.box [di e.2.2]] (.tup [di e.1,di e.2.1]),.h [0] [] [.box [di k.2.2]] (.tup [di k.1,di k.2.1])]) [0] (by kernel_rfl) (by kernel_rfl) (by kernel_rfl) (.cons (Zv n b g i f _ l) (.cons (Zv n b a.2.1 j a.2.2 _ m) (.cons (Zv n b a.1 e.1 e.2.2 _ o) .nil)))
/- slices.medianAdjacentOrdered[int] -/
def GF (n:Nat) (c:(List Int)) (a d:Int):Option (Int×Int) :=
 (Sg n c (wi .i64 (a-1)) a (wi .i64 (a+1)) d).bind fun (b:(Int×Int)) =>
 some (b.1,b.2)
theorem Kr (n:Nat) (e:(List Int)) (a b:Int) (r:Int×Int) (h:GF n e a b=some r):RetH Tryz.prog 97 [.d ((eL (eI .i64)) e),.d ((eI .i64) a),.ref 0 0] [.box [di b]] (.d ((eI .i64) r.1)) [.box [di r.2]]:=by
 refine retH_run (n:=15) (fn:=Tryz.f97) (c:=bodyOf Tryz.f97) (by kernel_rfl) (by kernel_rfl) (by kernel_rfl) (by kernel_rfl) ?_
 have hF:KC 15 (FinH Tryz.prog Tryz.f97 [.box [di b]] (.d ((eI .i64) r.1)) [.box [di r.2]]):=FinH.kc' (by kernel_rfl)
 unfold GF at h
 obtain ⟨f,g,h⟩:=bind_some h
 obtain rfl:=Option.some.inj h
 exact pendH_sound TTok mix 5 (hs:=[.h [0] [] [.box [di f.2]] (di f.1)]) [0] (by kernel_rfl) (by kernel_rfl) (by kernel_rfl) (.cons (Zw n e (wi .i64 (a-1)) a (wi .i64 (a+1)) b _ g) .nil)
inductive SQ where
 | x0 (a b:Int)
 | x1 (c:Int)
def Xf:SQ→Ex
 | .x0 _ _=>.normal
 | .x1 _=>.normal
end Go.Proofs.YtofjjaagjkbeaaaGreat.pv
