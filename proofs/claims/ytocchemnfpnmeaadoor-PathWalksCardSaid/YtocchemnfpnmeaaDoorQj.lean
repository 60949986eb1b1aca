/- The pure run as a program: it is handed hints (which way a branch goes, what an element is, what a call returns) and hands back what is owed. -/
import Derived.Test.YtocchemnfpnmeaaDoorQi
namespace Go.Proofs.YtocchemnfpnmeaaDoor.pv
set_option linter.all false
open Go.RowKit
inductive Ex where
 | normal
 | exit (id:Nat)
 | ret
def Ex.exit':Ex→Exit
 | .normal=>.normal
 | .exit id=>.exit id
 | .ret=>.ret
inductive Hn where
 | k (s ks:List Nat) (ex:Ex) (st:PS)
 | t (b:Bool)
 | y (x:PV)
 | r (x:PV)
 | l (x:FV)
 | n (j:Nat)
 | w (zs:List PV)
 | u (x:FV)
 | x (cs:List FV)
 | q (z:Bool)
 | h (s:List Nat) (bs:List Bool) (m2:List PO) (r:FV)
 | fz (l:Nat)
 | tb (l off e s:Nat)
 | fb (l:Nat)
 | th (i e s:Nat)
 | mv (l:Nat)
 | ns (i:Nat)
 | nb (l:Nat)
 | dl (k:Nat)
 | bd
 | ss
 | sx (ls:List Nat) (g:PS→PS)
 | e (k:Nat) (ls:List Nat) (r:FV) (U:List (Nat×PO))
 | c
structure Out where
 r:FV
 U:List (Nat×PO)
 F:List Nat
 ob:List Prop
 hs:List Hn
def AllP:List Prop→Prop
 | []=>True
 | p::r=>p∧AllP r
theorem AllP.app:∀ {xs ys:List Prop},AllP (xs++ys)→AllP xs∧AllP ys
 | [],ys,h=>⟨trivial,h⟩
 | x::xs,ys,h=>⟨⟨h.1,(AllP.app h.2).1⟩,(AllP.app h.2).2⟩
def val (r:FV) (hs:List Hn):Option Out:=some ⟨r,[],[],[],hs⟩
def isFree:Option PO→Bool
 | some .free=>true
 | _=>false
theorem isFree_spec {o:Option PO} (h:isFree o=true):o=some .free:=by
 unfold isFree at h; split at h <;> simp_all
def pAlloc (T:List TI) (m:List PO) (nl e:Nat) (hs:List Hn):Option Out :=
 match T[e]? with
 | some ti=>(match ti.zero with
  | []=>none
  | z::zs=>bif isFree m[nl]? then some ⟨.ref nl 0,[(nl,.box ((z::zs).map fun z=>.d z.pv))],[nl],[],hs⟩ else none)
 | none=>none
def pBox (ρ:Operand→FV) (m:List PO) (nl:Nat) (x:Operand) (hs:List Hn):Option Out :=
 match fcells (ρ x) with
 | some cs=>bif isFree m[nl]? then some ⟨.ref nl 0,[(nl,.box cs)],[nl],[],hs⟩ else none
 | none=>none
def pLoad (T:List TI) (m:List PO) (t:Nat) (x:FV) (hs:List Hn):Option Out :=
 match tagg T t,x with
 | some false,.ref l off=>(match m[l]? with
  | some (.box cs)=>(match hs with
   | .l r::hs=>some ⟨r,[],[l],[cs[off]?=some r],hs⟩
   | .c::hs=>(match cs[off]? with | some r=>some ⟨r,[],[l],[],hs⟩ | none=>none)
   | hs=>(match cs[off]? with | some r=>some ⟨r,[],[l],[],hs⟩ | none=>none))
  | _=>none)
 | some true,.ref l off=>(match m[l]?,tsz T t with
  | some (.box cs),some sz=>(match hs with
   | .l r::hs=>some ⟨r,[],[l],[mkAgg ((cs.drop off).take sz)=r∧off+sz≤cs.length],hs⟩
   | .c::hs=>bif Nat.ble (off+sz) cs.length then some ⟨mkAgg ((cs.drop off).take sz),[],[l],[],hs⟩ else none
   | hs=>bif Nat.ble (off+sz) cs.length then some ⟨mkAgg ((cs.drop off).take sz),[],[l],[],hs⟩ else none)
  | _,_=>none)
 | some false,.d (.iptr cs off)=>(match hs with
   | .l (.d r)::hs=>some ⟨.d r,[],[],[cs[off]?=some r],hs⟩
   | .c::hs=>(match cs[off]? with | some r=>val (.d r) hs | none=>none)
   | hs=>(match cs[off]? with | some r=>val (.d r) hs | none=>none))
 | some true,.d (.iptr cs off)=>(match tsz T t with
  | some sz=>(match hs with
   | .l (.d r)::hs=>some ⟨.d r,[],[],[PV.agg ((cs.drop off).take sz)=r∧off+sz≤cs.length],hs⟩
   | hs=>bif Nat.ble (off+sz) cs.length then val (.d (.agg ((cs.drop off).take sz))) hs else none)
  | none=>none)
 | some false,.ept l sz i off=>(match m[l]?,hs with
  | some (.row ty sz' xs),.y y::hs=>(match (pcells y)[off]? with
   | some r=>bif Nat.beq sz' sz&&fits sz y then some ⟨.d r,[],[l],[xs[i]?=some y],hs⟩ else none
   | none=>none)
  | _,_=>none)
 | some true,.ept l sz i off=>(match m[l]?,hs,tsz T t with
  | some (.row ty sz' xs),.y y::hs,some k=>bif Nat.beq sz' sz&&fits sz y&&Nat.ble (off+k) sz then some ⟨.d (.agg (((pcells y).drop off).take k)),[],[l],[xs[i]?=some y],hs⟩ else none
  | _,_,_=>none)
 | _,_=>none
def ySet (y:PV) (off:Nat) (z:PV):PV:=match y with
 | .agg cs=>.agg (splice cs off (pcells z))
 | _=>z
def pStore (T:List TI) (m:List PO) (t:Nat) (x z:FV) (hs:List Hn):Option Out :=
 match x with
 | .ref l off=>(match m[l]?,fcells z,tsz T t with
  | some (.box cs),some zs,some k=>bif Nat.beq k zs.length then (match hs with
   | .c::hs=>some ⟨.dead,[(l,.box (splice cs off zs))],[l],[off+zs.length≤cs.length],hs⟩
   | hs=>bif Nat.ble (off+zs.length) cs.length then some ⟨.dead,[(l,.box (splice cs off zs))],[l],[],hs⟩ else none) else none
  | _,_,_=>none)
 | .ept l sz i off=>(match m[l]?,hs,z,tsz T t with
  | some (.row ty sz' xs),.y y::hs,.d zv,some k=>bif Nat.beq sz' sz&&fits sz y&&!isTup zv&&Nat.beq k (psz zv)&&Nat.ble (off+psz zv) sz&&!isTup (ySet y off zv) then
   some ⟨.dead,[(l,.row ty sz (xs.set i (ySet y off zv)))],[l],[xs[i]?=some y,pcells (ySet y off zv)=splice (pcells y) off (pcells zv)],hs⟩ else none
  | _,_,_,_=>none)
 | _=>none
def pField (T:List TI) (s:Nat) (x:FV) (f:Nat) (hs:List Hn):Option Out :=
 match tfo T s f with
 | some (o,ft)=>(match x with
  | .ref l off=>val (.ref l (off+o)) hs
  | .ept l sz i off=>val (.ept l sz i (off+o)) hs
  | .d (.iptr cs off)=>val (.d (.iptr cs (off+o))) hs
  | _=>none)
 | none=>none
def pFieldV (T:List TI) (s:Nat) (x:FV) (f:Nat) (hs:List Hn):Option Out :=
 match tfo T s f,aggCells x with
 | some (o,ft),some cs=>(match tagg T ft,tsz T ft with
  | some false,_=>(match cs[o]? with | some r=>val r hs | none=>none)
  | some true,some sz=>bif Nat.ble (o+sz) cs.length then val (mkAgg ((cs.drop o).take sz)) hs else none
  | _,_=>none)
 | _,_=>none
def pIdx (T:List TI) (m:List PO) (t:Nat) (x i:FV) (hs:List Hn):Option Out :=
 match i with
 | .d (.v (.int ik j))=>(match x with
  | .ref l off=>(match tarr T t with
   | some (n,e,s)=>some ⟨.ref l (off+j.toNat*s),[],[],[0≤j∧j<n],hs⟩
   | none=>none)
  | .ept l sz q off=>(match tarr T t with
   | some (n,e,s)=>some ⟨.ept l sz q (off+j.toNat*s),[],[],[0≤j∧j<n],hs⟩
   | none=>none)
  | .d (.iptr cs off)=>(match tarr T t with
   | some (n,e,s)=>some ⟨.d (.iptr cs (off+j.toNat*s)),[],[],[0≤j∧j<n],hs⟩
   | none=>none)
  | .d (.sl xs)=>(match tsl T t,hs with
   | some (e,s),.y y::hs=>bif fits s y then some ⟨.d (.iptr (pcells y) 0),[],[],[0≤j∧xs[j.toNat]?=some y],hs⟩ else none
   | _,_=>none)
  | .asl l off k c s' ag=>(match tsl T t with
   | some (e,s)=>bif Nat.beq s' s then some ⟨.ref l (off+j.toNat*s),[],[],[0≤j∧j<k],hs⟩ else none
   | none=>none)
  | .srf l=>(match tsl T t,m[l]? with
   | some (e,s),some (.row e' s' xs)=>bif Nat.beq e' e&&Nat.beq s' s then some ⟨.ept l s j.toNat 0,[],[l],[0≤j∧j.toNat<xs.length],hs⟩ else none
   | _,_=>none)
  | _=>none)
 | _=>none
def pIdxV (T:List TI) (t:Nat) (x i:FV) (hs:List Hn):Option Out :=
 match i,tarr T t,aggCells x with
 | .d (.v (.int ik j)),some (n,e,s),some cs=>(match tagg T e,hs with
  | some false,.l r::hs=>some ⟨r,[],[],[0≤j∧j<n∧cs[j.toNat*s]?=some r],hs⟩
  | some true,.l r::hs=>some ⟨r,[],[],[0≤j∧j<n∧j.toNat*s+s≤cs.length∧mkAgg ((cs.drop (j.toNat*s)).take s)=r],hs⟩
  | some false,hs=>(match cs[j.toNat*s]? with | some r=>some ⟨r,[],[],[0≤j∧j<n],hs⟩ | none=>none)
  | some true,hs=>some ⟨mkAgg ((cs.drop (j.toNat*s)).take s),[],[],[0≤j∧j<n∧j.toNat*s+s≤cs.length],hs⟩
  | _,_=>none)
 | _,_,_=>none
def pIdxS (T:List TI) (t:Nat) (s:ByteArray) (i:FV) (hs:List Hn):Option Out :=
 match i,tk T t,hs with
 | .d (.v (.int ik j)),some .str,.l r::hs=>some ⟨r,[],[],[0≤j∧(s[j.toNat]?).map (fun b=>FV.d (.v (.int .u8 b.toNat)))=some r],hs⟩
 | _,_,_=>none
def pBinB (T:List TI) (op:BinOp) (t:Nat) (x y:FV) (hs:List Hn):Option Out :=
 match tk T t,x,y with
 | some .bool,.d (.v (.bool a)),.d (.v (.bool b))=>bif eqlOp op then val (.d (.v (.bool (eqRes op (a == b))))) hs else none
 | _,_,_=>none
def pBinA (P:Program) (op:BinOp) (t:Nat) (x y:FV) (z:Bool) (hs:List Hn):Option Out :=
 match x,y with
 | .d (.agg xs),.d (.agg ys)=>(match plain xs,plain ys with
  | some us,some vs=>bif eqlOp op then some ⟨.d (.v (.bool (eqRes op z))),[],[],[EqA P t us vs z],hs⟩ else none
  | _,_=>none)
 | _,_=>none
def pBinN (T:List TI) (op:BinOp) (t:Nat) (x y:FV) (hs:List Hn):Option Out :=
 match nilness x,y with
 | some z,.d (.v (.slice none 0 0))=>bif eqlOp op&&tsl? T t then val (.d (.v (.bool (eqRes op z)))) hs else none
 | _,_=>none
def pBin (op:BinOp) (x y:FV) (hs:List Hn):Option Out :=
 match op,x,y with
 | .shl,.d (.v (.int k a)),.d (.v (.int _ b))=>some ⟨.d (.v (.int k (k.wrap (a*2 ^ (min b.toNat k.bits))))),[],[],[0≤b],hs⟩
 | .shr,.d (.v (.int k a)),.d (.v (.int _ b))=>some ⟨.d (.v (.int k (a.fdiv (2 ^ (min b.toNat k.bits))))),[],[],[0≤b],hs⟩
 | .quo,.d (.v (.int k a)),.d (.v (.int k' b))=>if k'=k then some ⟨.d (.v (.int k (k.wrap (a.tdiv b)))),[],[],[b≠0],hs⟩ else none
 | .rem,.d (.v (.int k a)),.d (.v (.int k' b))=>if k'=k then some ⟨.d (.v (.int k (a.tmod b))),[],[],[b≠0],hs⟩ else none
 | op,.d (.v a),.d (.v b)=>(match pbin op a b with | some z=>val (.d (.v z)) hs | none=>none)
 | _,_,_=>none
def pEls (m:List PO):FV→Option (List PV×List Nat)
 | .d (.sl xs)=>some (xs,[])
 | .d (.v (.slice none 0 0))=>some ([],[])
 | .d (.v (.slice (some _) 0 _))=>some ([],[])
 | .srf l=>(match m[l]? with | some (.row _ _ xs)=>some (xs,[l]) | _=>none)
 | .asl l off k c sz ag=>(match frz m (.asl l off k c sz ag) with | some (.sl xs)=>some (xs,[l]) | _=>none)
 | _=>none
def pBase (m:List PO) (e s:Nat):FV→Option (List PV×List (Nat×PO)×List Nat)
 | .d (.v (.slice none 0 0))=>some ([],[],[])
 | .srf l=>(match m[l]? with | some (.row e' s' xs)=>bif Nat.beq e' e&&Nat.beq s' s then some (xs,[(l,.none)],[l]) else none | _=>none)
 | _=>none
def pAppZ (T:List TI) (m:List PO) (nl:Nat) (t t':Nat) (x y:FV) (hs:List Hn):Option Out :=
 match tsl T t,tint T t',x,y with
 | some (e,s),some _,.d (.v (.slice none 0 0)),.d (.v (.int _ j))=>(match T[e]? with
  | some ti=>(match zeroPV ti with
   | some z=>bif isFree m[nl]?&&Nat.beq ti.zero.length s&&Nat.blt 0 s then some ⟨.srf nl,[(nl,.row e s (List.replicate j.toNat z))],[nl],[0≤j,j.toNat≤maxLen,j.toNat*ti.bytes≤140737488355328],hs⟩ else none
   | none=>none)
  | none=>none)
 | _,_,_,_=>none
def pBuiltin (T:List TI) (ρ:Operand→FV) (m:List PO) (nl:Nat) (b:Builtin) (args:List Operand) (tys:List Nat) (hs:List Hn):Option Out :=
 match b,args,tys with
 | .len,[x],[t]=>(match ρ x with
  | .d (.v (.string s))=>(match tk T t with
   | some .str=>val (.d (.v (.int .i64 s.size))) hs
   | _=>none)
  | .ssl l i j s'=>(match tsl T t with
   | some (e,s)=>bif Nat.beq s' s then val (.d (.v (.int .i64 ((j-i:Nat):Int)))) hs else none
   | _=>none)
  | _=>(match tsl T t,pEls m (ρ x) with
   | some (e,s),some (xs,ls)=>some ⟨.d (.v (.int .i64 xs.length)),[],ls,[],hs⟩
   | _,_=>none))
 | .min,[x,y],[_,_]=>(match ρ x,ρ y with
  | .d (.v (.int k a)),.d (.v (.int k' b))=>if k'=k then val (.d (.v (.int k (if b<a then b else a)))) hs else none
  | _,_=>none)
 | .max,[x,y],[_,_]=>(match ρ x,ρ y with
  | .d (.v (.int k a)),.d (.v (.int k' b))=>if k'=k then val (.d (.v (.int k (if b > a then b else a)))) hs else none
  | _,_=>none)
 | .cap,[x],[t]=>(match tsl T t,ρ x with
  | some (e,s),.d (.v (.slice none 0 0))=>val (.d (.v (.int .i64 0))) hs
  | _,_=>none)
 | .append,[x,y],[t,t']=>bif (tint T t').isSome then pAppZ T m nl t t' (ρ x) (ρ y) hs else (match tsl T t with
  | some (e,s)=>(match T[e]?,pBase m e s (ρ x),pEls m (ρ y) with
   | some ti,some (xs,U,ls),some (ys,ks)=>bif Nat.beq t' t&&isFree m[nl]?&&Nat.beq ti.zero.length s&&Nat.blt 0 s then
    some ⟨.srf nl,U++[(nl,.row e s (xs++ys))],nl::ls++ks,[ys.all (fits s)=true,xs.length+ys.length≤maxLen,(xs.length+ys.length)*ti.bytes≤140737488355328],hs⟩ else none
   | _,_,_=>none)
  | none=>none)
 | _,_,_=>none
def pCall (P:Program) (m:List PO) (nl:Nat) (f:FV) (args:List FV) (hs:List Hn):Option Out :=
 match hs with
 | .h s bs m2 r::hs=>(match cloOf f with
  | some (g,cs)=>bif nodup (s++(List.range (m2.length-s.length)).map (nl+·))&&s.all (liveAt m)&&(List.range (m2.length-s.length)).all (fun k=>isFreeAt m (nl+k))&&m2.all okH&&Nat.ble s.length m2.length then
   some ⟨mapF (s++(List.range (m2.length-s.length)).map (nl+·)) r,zipO (s++(List.range (m2.length-s.length)).map (nl+·)) (s++(List.range (m2.length-s.length)).map (nl+·)) m2,s++(List.range (m2.length-s.length)).map (nl+·),
    [RetH P g (nslM bs (renL s args)++renL s cs) ((renM m s s).map nslO) r m2],hs⟩ else none
  | none=>none)
 | .r r::hs=>(match f,allD args with
  | .d (.clo g caps),some ps=>some ⟨.d r,[],[],[Ret P g (nslL ps++caps) r],hs⟩
  | _,_=>none)
 | .c::.r r::hs=>(match frz m f,frzL m args with
  | some (.clo g caps),some ps=>bif flat r then some ⟨.d r,[],locs f++locsL args,[Ret P g (nslL ps++caps) r],hs⟩ else none
  | _,_=>none)
 | _=>none
def bsParts:Nat→List (Nat×FV)→Option (List PV)
 | _,[]=>some []
 | i,(k,.d x)::r=>bif Nat.beq k i then (match bsParts (i+1) r with | some xs=>some (x::xs) | none=>none) else none
 | _,_=>none
def pBSliceD (T:List TI) (t len:Nat) (parts:List (Nat×FV)) (hs:List Hn):Option Out :=
 match tsl T t,bsParts 0 parts with
 | some (e,s),some xs=>(match T[e]? with
  | some ti=>(match ti.zero with
   | []=>none
   | _::_=>bif Nat.blt 0 s&&Nat.blt 0 xs.length&&Nat.ble (xs.length*s) 16777216&&Nat.beq len xs.length&&xs.all (fits s) then some ⟨.d (.sl (xs.map nsl)),[],[],[],hs⟩ else none)
  | none=>none)
 | _,_=>none
def pBSlice (T:List TI) (m:List PO) (nl t len:Nat) (parts:List (Nat×FV)) (hs:List Hn):Option Out :=
 match tsl T t,bsParts 0 parts with
 | some (e,s),some []=>(match T[e]? with
  | some ti=>(match ti.zero with
   | []=>none
   | _::_=>bif isFree m[nl]?&&Nat.beq len 0 then some ⟨.srf nl,[(nl,.row e s [])],[nl],[],hs⟩ else none)
  | none=>none)
 | some (e,s),some xs=>(match T[e]? with
  | some ti=>(match ti.zero with
   | []=>none
   | _::_=>bif isFree m[nl]?&&Nat.blt 0 s&&Nat.blt 0 xs.length&&Nat.ble (xs.length*s) 16777216&&Nat.beq len xs.length&&xs.all (fits s) then some ⟨.srf nl,[(nl,.row e s (xs.map nsl))],[nl],[],hs⟩ else none)
  | none=>none)
 | _,_=>none
def pMkSl (T:List TI) (m:List PO) (nl t:Nat) (x y:FV) (hs:List Hn):Option Out :=
 match tsl T t,x,y with
 | some (e,s),.d (.v (.int _ j)),.d (.v (.int _ j'))=>(match T[e]? with
  | some ti=>(match zeroPV ti with
   | some z=>bif isFree m[nl]?&&Nat.beq ti.zero.length s&&Nat.blt 0 s then some ⟨.srf nl,[(nl,.row e s (List.replicate j.toNat z))],[nl],[j'=j,0≤j,j.toNat≤maxLen,ti.bytes*j.toNat≤281474976710656],hs⟩ else none
   | none=>none)
  | none=>none)
 | _,_,_=>none
def pSlice (T:List TI) (ρ:Operand→FV) (m:List PO) (nl t:Nat) (x:FV) (lo hi mx:Option Operand) (hs:List Hn):Option Out :=
 match tsl T t,x,mx with
 | some (e,s),.d (.sl xs),none=>(match optInt ρ 0 lo,optInt ρ xs.length hi with
  | some l,some h=>some ⟨.d (.sl ((xs.take h.toNat).drop l.toNat)),[],[],[0≤l,l≤h,h≤xs.length,xs.all (fits s)=true],hs⟩
  | _,_=>none)
 | some (e,s),.srf l,none=>(match m[l]? with
  | some (.row e' s' xs)=>(match optInt ρ 0 lo,optInt ρ xs.length hi with
   | some i,some h=>bif Nat.beq e' e&&Nat.beq s' s&&isFree m[nl]? then some ⟨.srf nl,[(l,.none),(nl,.row e s (xs.take h.toNat))],[nl,l],[i=0,0≤h,h≤xs.length],hs⟩ else none
   | _,_=>none)
  | _=>none)
 | some (e,s),.d (.v (.slice none 0 0)),none=>(match optInt ρ 0 lo,optInt ρ 0 hi,hs with
  | some i,some h,.c::hs=>some ⟨.d vnil,[],[],[i=0,h=0],hs⟩
  | _,_,_=>none)
 | none,.ref l off,none=>(match tarr T t with
  | some (n,e,s)=>(match tagg T e,optInt ρ 0 lo,optInt ρ n hi,hs with
   | some ag,some i,some h,.c::hs=>bif Nat.ble n maxLen then some ⟨.asl l (off+i.toNat*s) (h.toNat-i.toNat) (n-i.toNat) s ag,[],[],[0≤i,i≤h,h≤n,i<n],hs⟩ else none
   | _,_,_,_=>none)
  | none=>none)
 | _,_,_=>none
def pSliceS (T:List TI) (ρ:Operand→FV) (m:List PO) (t:Nat) (x:FV) (lo hi mx:Option Operand) (hs:List Hn):Option Out :=
 match tsl T t,x with
 | some (e,s),.srf l=>(match m[l]? with
  | some (.row e' s' xs)=>(match optInt ρ 0 lo,optInt ρ xs.length hi with
   | some i,some h=>bif Nat.beq e' e&&Nat.beq s' s then (match mx,hi with
    | none,_=>some ⟨.ssl l i.toNat h.toNat s,[],[l],[0≤i,i≤h,h≤xs.length],hs⟩
    | some q,some _=>(match optInt ρ 0 (some q) with
     | some k=>some ⟨.dead,[],[l],[0≤i,i≤h,h≤k,k≤xs.length],hs⟩
     | none=>none)
    | _,_=>none) else none
   | _,_=>none)
  | _=>none)
 | some (e,s),.ssl l 0 k s1=>(match m[l]? with
  | some (.row e' s' xs)=>(match optInt ρ 0 lo,optInt ρ k hi,mx with
   | some i,some h,none=>bif Nat.beq e' e&&Nat.beq s' s&&Nat.beq s1 s then some ⟨.ssl l i.toNat h.toNat s,[],[l],[0≤i,i≤h,h≤xs.length],hs⟩ else none
   | _,_,_=>none)
  | _=>none)
 | _,_=>none
def pact (P:Program) (T:List TI) (ρ:Operand→FV) (m:List PO) (nl:Nat) (op:Op) (hs:List Hn):Option Out :=
 match op with
 | .move x=>(match hs with
  | .ss::hs=>(match ρ x with
   | .ssl l 0 k s=>(match m[l]? with
    | some (.row e s' xs)=>bif Nat.beq s' s&&isFree m[nl]? then some ⟨.srf nl,[(l,.none),(nl,.row e s' (xs.take k))],[nl,l],[k≤xs.length],hs⟩ else none
    | _=>none)
   | _=>none)
  | hs=>val (ρ x) hs)
 | .assign x=>val (ρ x) hs
 | .pick c a b=>(match ρ c with | .d (.v (.bool t))=>val (bif t then ρ a else ρ b) hs | _=>none)
 | .alloc e=>pAlloc T m nl e hs
 | .box _ x=>pBox ρ m nl x hs
 | .load t x=>pLoad T m t (ρ x) hs
 | .store t x z=>pStore T m t (ρ x) (ρ z) hs
 | .fieldAddr s x f=>pField T s (ρ x) f hs
 | .field s x f=>pFieldV T s (ρ x) f hs
 | .indexAddr t x i=>pIdx T m t (ρ x) (ρ i) hs
 | .index t x i=>(match ρ x with
  | .d (.v (.string s))=>pIdxS T t s (ρ i) hs
  | _=>pIdxV T t (ρ x) (ρ i) hs)
 | .extract x i=>(match tupCells (ρ x) with | some cs=>(match cs[i]? with | some r=>val r hs | none=>none) | none=>none)
 | .binOp op t x y _=>(match hs with
  | .q z::hs=>pBinA P op t (ρ x) (ρ y) z hs
  | hs=>(match ρ x with
   | .d (.v (.bool _))=>pBinB T op t (ρ x) (ρ y) hs
   | .d (.v (.slice _ _ _))=>pBinN T op t (ρ x) (ρ y) hs
   | .d (.sl _)=>pBinN T op t (ρ x) (ρ y) hs
   | _=>pBin op (ρ x) (ρ y) hs))
 | .nilCheck x=>bif ptrLike (ρ x) then val (ρ x) hs else none
 | .buildSlice t len parts=>(match hs with
  | .bd::hs=>pBSliceD T t len (parts.toList.map fun p=>(p.1,ρ p.2)) hs
  | hs=>pBSlice T m nl t len (parts.toList.map fun p=>(p.1,ρ p.2)) hs)
 | .makeSlice t x y=>pMkSl T m nl t (ρ x) (ρ y) hs
 | .slice t x lo hi mx=>(match hs with
  | .ss::hs=>pSliceS T ρ m t (ρ x) lo hi mx hs
  | hs=>pSlice T ρ m nl t (ρ x) lo hi mx hs)
 | .unOp op _ x=>(match ρ x with | .d (.v a)=>(match pun op a with | some z=>val (.d (.v z)) hs | none=>none) | _=>none)
 | .convert s t x=>(match T[s]?,tint T t,ρ x with | some _,some k',.d (.v (.int _ n))=>val (.d (.v (.int k' (k'.wrap n)))) hs | _,_,_=>none)
 | .build t parts=>(match T[t]?,tplaces T t with
  | some ti,some pl=>(match ti.zero with
   | []=>none
   | z::zs=>(match pfill pl ((z::zs).map fun z=>.d z.pv) (parts.toList.map fun p=>(p.1,ρ p.2)) with | some cs=>val (mkAgg cs) hs | none=>none))
  | _,_=>none)
 | .makeFunc (.func g) first caps=>(match first.toList with
  | []=>bif (caps.toList.map ρ).all oneFV then val (mkClo g (caps.toList.map ρ)) hs else none
  | _=>none)
 | .call ⟨.builtin b,args,tys⟩=>pBuiltin T ρ m nl b args.toList tys.toList hs
 | .call ⟨.value f,args,_⟩=>pCall P m nl (ρ f) (args.toList.map ρ) hs
 | _=>none
def reword (h:Hn) (o:Out):Option Out :=
 match h with
 | .w zs=>(match o.r,o.U with
  | .d (.sl xs),[]=>some { o with r:=.d (.sl zs),ob:=o.ob++[xs=zs] }
  | r,[(l,.row e s xs)]=>some { o with U:=[(l,.row e s zs)],ob:=o.ob++[xs=zs] }
  | r,[q,(l,.row e s xs)]=>some { o with U:=[q,(l,.row e s zs)],ob:=o.ob++[xs=zs] }
  | _,_=>none)
 | .u x=>some { o with r:=x,ob:=o.ob++[o.r=x] }
 | .x zs=>(match o.U with
  | [(l,.box cs)]=>some { o with U:=[(l,.box zs)],ob:=o.ob++[cs=zs] }
  | _=>none)
 | _=>none
def wantsU:Op→Bool
 | .call ⟨.builtin .len,_,_⟩=>true
 | _=>false
def wantsX:Op→Bool
 | .store ..=>true
 | _=>false
def wantsW:Op→Bool
 | .call ⟨.builtin .append,_,_⟩ | .store .. | .slice .. | .makeSlice .. | .buildSlice ..=>true
 | _=>false
def pickObjs (m:List PO):List Nat→Option (List (Nat×PO))
 | []=>some []
 | l::ls=>match m[l]?,pickObjs m ls with
  | some o,some r=>some ((l,o)::r)
  | _,_=>none
def pactW (P:Program) (T:List TI) (ρ:Operand→FV) (m:List PO) (nl:Nat) (op:Op) (hs:List Hn):Option Out :=
 match hs with
 | .e k ls r U::hs=>bif Nat.beq k nl then (match pickObjs m ls with
  | some m0=>bif U.all (fun q=>ls.any (Nat.beq q.1)) then some ⟨r,U,ls,[Ext P T op (op.operands.toList.map ρ) m0 r U],hs⟩ else none
  | none=>none) else pact P T ρ m nl op (.e k ls r U::hs)
 | .w zs::hs=>bif wantsW op then (match pact P T ρ m nl op hs with | some o=>reword (.w zs) o | none=>none) else pact P T ρ m nl op (.w zs::hs)
 | .x zs::hs=>bif wantsX op then (match pact P T ρ m nl op hs with | some o=>reword (.x zs) o | none=>none) else pact P T ρ m nl op (.x zs::hs)
 | .u x::hs=>bif wantsU op then (match pact P T ρ m nl op hs with | some o=>reword (.u x) o | none=>none) else pact P T ρ m nl op (.u x::hs)
 | hs=>pact P T ρ m nl op hs
end Go.Proofs.YtocchemnfpnmeaaDoor.pv
