/- Custom private objects and their acts. -/
import Derived.Test.YtocchemnfpnmeaaDoorQk
import Derived.ArgAppend
import Derived.Test.YtocchemnfpnmeaaDoorQo
import Derived.Lib.AppendZerosOnto
import Derived.Lib.Overlaps
import Derived.Laws.BytesString
import Derived.Laws.Cells
import Derived.Laws.Pointers
import Derived.Test.YtocchemnfpnmeaaDoorQp
import Derived.MapKept
import Derived.DeepKeys3
import Derived.Lib.ConvBytes
import Derived.Test.YtocchemnfpnmeaaDoorHelp
import Derived.Laws.AppendOwn
namespace Go.Proofs.YtocchemnfpnmeaaDoor.pv
set_option linter.all false
open Go.RowKit
section
variable {P:Program} {T:List TI} {n:Nat} {w0:Cx} {st:PS} {a:Act} {w:World} {ow:Nat→Bool} {hd:Nat→Value}
end
end Go.Proofs.YtocchemnfpnmeaaDoor.pv
namespace Go.Proofs.YtocchemnfpnmeaaDoor.pv
set_option linter.all false
open Go.RowKit
def delR {α:Type} (L:List α) (i j q:Nat):List α:=L.take i++(L.take q).drop j++L.drop (i+(q-j))
def clrR {α:Type} (L:List α) (i j:Nat) (z:α):List α:=L.take i++List.replicate (j-i) z++L.drop j
def cpyR {α:Type} (L:List α) (i j:Nat) (Y:List α):List α:=L.take i++Y.take (j-i)++L.drop (i+Nat.min Y.length (j-i))
section
variable {P:Program} {T:List TI}
variable {α:Type} {f:α→PV} {L Y:List α} {t e s l i j q:Nat} {a b c:Int} {ka kb kc:IntKind} {x y lo hi mx:Operand}
end
section
variable {P:Program} {T:List TI} {n:Nat} {w0:Cx} {st:PS} {a:Act} {w:World} {ow:Nat→Bool} {hd:Nat→Value}
def Src (ow:Nat→Bool) (w:World) (s:Nat) (v:Value) (ys:List PV):Prop :=
 ∃ (ad:Option Addr) (cap:Nat),v=.slice ad ys.length cap∧(ys=[]∨∃ (b off:Nat) (cells:List Value),ad=some ⟨b,off,none⟩∧w.rangeAt b off cells∧RE ow w s ys cells)
def SrcB (P:Program) (ow:Nat→Bool) (w:World) (s:Nat) (v:Value) (ys:List PV):Prop :=
 (Builtin.lenOf v).run P w=.ok ys.length w∧∀ m,m≤ys.length→∃ news:List Value,(Builtin.firstCells s m v).run P w=.ok news.toArray w∧RE ow w s (ys.take m) news
end
section
variable {P:Program} {T:List TI} {α:Type} {f:α→PV} {L Y:List α} {t t' e e' s l l' i j p q:Nat} {x y:Operand} {ti:TI}
theorem xmin3 {z:Operand} {t1 t2 t3:Nat} {k:IntKind} {a b c:Int}:Ext P T (.call ⟨.builtin .min,#[x,y,z],#[t1,t2,t3]⟩) [.d (.v (.int k a)),.d (.v (.int k b)),.d (.v (.int k c))] [] (.d (.v (.int k (minI (minI a b) c)))) []:=by
 intro n w0 st a' w o hT hS ho hn hv hm K Q hK
 obtain ⟨ow,hd,hold,S⟩:=hS
 obtain ⟨d,op,ty,pos,af,gd⟩:=o
 simp only at ho hn hK
 subst ho
 simp [Op.operands,Call.operands] at hv
 obtain ⟨e1,_⟩:=S.v hv.1
 obtain ⟨e2,_⟩:=S.v hv.2.1
 obtain ⟨e3,_⟩:=S.v hv.2.2
 have hrun:(execOp a'.eval ⟨d,.call ⟨.builtin .min,#[x,y,z],#[t1,t2,t3]⟩,ty,pos,af,gd⟩).run P w=.ok (.value (.int k (minI (minI a b) c))) w:=by
  simp [execOp,resolve,invoke,builtin,e1,e2,e3,Builtin.min_,Builtin.min2,minI] <;> rfl
 exact wp_val hrun (hK _ _ ⟨ow,hd,hold,S.put hn (x:=.d (.v _)) (by simp only [RF,R]; exact ⟨trivial,rfl⟩)⟩)
end
end Go.Proofs.YtocchemnfpnmeaaDoor.pv
namespace Go.Proofs.YtocchemnfpnmeaaDoor.pv
set_option linter.all false
open Go.RowKit
section
variable {P:Program} {T:List TI} {n:Nat} {w0:Cx} {st:PS} {a:Act} {w:World} {ow:Nat→Bool} {hd:Nat→Value}
variable {α:Type} {f:α→PV} {Y Z:List α} {t e s l' b:Nat} {ti:TI} {x y:Operand}
end
end Go.Proofs.YtocchemnfpnmeaaDoor.pv
namespace Go.Proofs.YtocchemnfpnmeaaDoor.pv
set_option linter.all false
open Go.RowKit
def capOf:Value→Nat
 | .slice _ _ c=>c
 | _=>0
def rowCI (e s C:Nat) (xs:List PV) (ow:Nat→Bool) (w:World) (h:Value):Prop:=∃ cells,w.ownsRow 0 e s h xs.length cells∧RE ow w s xs cells∧capOf h=C
def rowC (e s C:Nat) (xs:List PV):Cust where
 I:=fun ow w h _=>rowCI e s C xs ow w h
 lt:=by
  rintro ow w h vs ⟨cells,⟨_,h2⟩,_,_⟩ b hb
  rcases h2 with ⟨h2,_⟩ | ⟨g,cap,cur,h2,_,h4,_⟩
  ·rw [h2] at hb; simp [blocksOf,blockOf] at hb
  ·rw [h2] at hb; simp [blocksOf,blockOf] at hb; subst hb; exact (Array.getElem?_eq_some_iff.1 h4).1
 kp:=by
  rintro ow ow' w w' h vs k hb ⟨cells,h1,h2,h3⟩
  exact ⟨cells,ownsRow_kept h1 fun b e=>(hb b e).1,RE.mono k _ _ _ h2,h3⟩
 one:=by
  rintro ow w h vs ⟨cells,⟨_,h2⟩,_,_⟩
  rcases h2 with ⟨h2,_⟩ | ⟨g,cap,cur,h2,_,h4,_⟩
  ·rw [h2]; rfl
  ·rw [h2]; rfl
def rowHI (e s C:Nat) (xs:List PV) (m:Nat) (ys:List PV) (ow:Nat→Bool) (w:World) (h:Value):Prop :=
 ∃ (g:Nat) (cur:Array Value) (n:Nat),h=.slice (some ⟨g,0,none⟩) n C∧w.heap[g]?=some (.cells cur e (0,0))∧C≤maxLen∧cur.size=C*s∧xs.length+m+ys.length≤C ∧
  RE ow w s xs (cur.toList.take (xs.length*s))∧RE ow w s ys ((cur.toList.drop ((xs.length+m)*s)).take (ys.length*s))
def rowH (e s C:Nat) (xs:List PV) (m:Nat) (ys:List PV):Cust where
 I:=fun ow w h _=>rowHI e s C xs m ys ow w h
 lt:=by
  rintro ow w h vs ⟨g,cur,n,h1,h2,_⟩ b hb
  rw [h1] at hb; simp [blocksOf,blockOf] at hb; subst hb; exact (Array.getElem?_eq_some_iff.1 h2).1
 kp:=by
  rintro ow ow' w w' h vs k hb ⟨g,cur,n,h1,h2,h3,h4,h5,h6,h7⟩
  exact ⟨g,cur,n,h1,by rw [(hb g (by rw [h1]; first | rfl | simp [blocksOf,blockOf])).1]; exact h2,h3,h4,h5,RE.mono k _ _ _ h6,RE.mono k _ _ _ h7⟩
 one:=by
  rintro ow w h vs ⟨g,cur,n,h1,_⟩
  rw [h1]; rfl
section
variable {P:Program} {T:List TI} {n:Nat} {w0:Cx} {st:PS} {a:Act} {w:World} {ow:Nat→Bool} {hd:Nat→Value}
variable {α:Type} {f:α→PV} {L Y Z:List α} {t t' e s l nl i j k m C:Nat} {A B:Int} {ka kb:IntKind} {x y lo hi:Operand} {ti:TI}
end
end Go.Proofs.YtocchemnfpnmeaaDoor.pv
namespace Go.Proofs.YtocchemnfpnmeaaDoor.pv
set_option linter.all false
open Go.RowKit
section
variable {P:Program} {T:List TI} {n:Nat} {w0:Cx} {st:PS} {a:Act} {w:World} {ow:Nat→Bool} {hd:Nat→Value}
variable {α:Type} {f:α→PV} {L Y Z:List α} {t t' e s l nl i j k m C:Nat} {x y:Operand} {ti:TI}
end
section
variable {P:Program} {T:List TI} {α:Type} {f:α→PV} {L Y Z:List α} {t e s l i j k m C:Nat} {x y:Operand}
end
section
variable {P:Program} {T:List TI}
end
def insI {α:Type} (b:Nat) (s:List α) (i:Int) (v:List α):Option (List α) :=
 if 0≤i∧i≤(s.length:Int)∧s.length+v.length≤4611686018427387904∧(s.length+v.length)*b≤140737488355328 then some (s.take i.toNat++v++s.drop i.toNat) else none
end Go.Proofs.YtocchemnfpnmeaaDoor.pv
namespace Go.Proofs.YtocchemnfpnmeaaDoor.pv
set_option linter.all false
open Go.RowKit
section
variable {P:Program} {T:List TI}
variable {α:Type} {f:α→PV} {L Y Z:List α} {t t' e s l nl i j k m C:Nat} {A B:Int} {ka kb:IntKind} {x y lo hi:Operand} {ti:TI}
end
section
variable {P:Program} {T:List TI} {α:Type} {f:α→PV} {L Y Z:List α} {t e s l i j k m C:Nat} {x y:Operand}
end
def repI {α:Type} (b:Nat) (s:List α) (i j:Int) (v:List α):Option (List α) :=
 if 0≤i∧i<j∧j≤(s.length:Int)∧(v.length=0∨j-i≤(v.length:Int))∧s.length+v.length≤4611686018427387904∧(s.length+v.length)*b≤140737488355328 then some (s.take i.toNat++v++s.drop j.toNat) else none
end Go.Proofs.YtocchemnfpnmeaaDoor.pv
namespace Go.Proofs.YtocchemnfpnmeaaDoor.pv
set_option linter.all false
open Go.RowKit
def fl (xs:List PV):List PV:=xs.flatMap pcells
section
variable {ow:Nat→Bool} {w:World}
end
def noB:Value:=.bool false
def bagI (ct:Nat→Nat×Nat) (q:Nat→Bool) (xs:List PV) (ow:Nat→Bool) (w:World) (v:Value):Prop :=
 ∃ caps:Array Value,v=.func (.func 0) #[] caps∧caps.size=(fl xs).length ∧
  (∀ k:Nat,k<caps.size→q k=true→∃ (ys:List PV) (cs:List Value) (u:Value),(fl xs)[k]?=some (.sl ys)∧caps[k]?=some u∧w.ownsRow 0 (ct k).1 (ct k).2 u ys.length cs∧RE ow w (ct k).2 ys cs) ∧
  (∀ (k:Nat) (u:Value),caps[k]?=some u→q k=false→u=noB) ∧
  (∀ (k k':Nat) (u u':Value) (b:Nat),k≠k'→caps[k]?=some u→caps[k']?=some u'→blockOf u=some b→blockOf u'≠some b)
theorem mem_caps {caps:Array Value} {b:Nat} (h:b∈blocksOf (.func (.func 0) #[] caps)):∃ (k:Nat) (u:Value),caps[k]?=some u∧blockOf u=some b:=by
 simp only [blocksOf,List.mem_filterMap] at h
 obtain ⟨u,hu,hb⟩:=h
 obtain ⟨k,hk⟩:=List.getElem?_of_mem hu
 exact ⟨k,u,by simpa using hk,hb⟩
theorem caps_mem {caps:Array Value} {b k:Nat} {u:Value} (h:caps[k]?=some u) (hb:blockOf u=some b):b∈blocksOf (.func (.func 0) #[] caps):=by
 simp only [blocksOf,List.mem_filterMap]
 exact ⟨u,by
  have:caps.toList[k]?=some u:=by simpa using h
  exact List.mem_of_getElem? this,hb⟩
theorem owns_bo {w:World} {e s n:Nat} {u:Value} {cs:List Value} (h:w.ownsRow 0 e s u n cs) {b:Nat} (hb:b∈blocksOf u):blockOf u=some b∧b<w.heap.size:=by
 obtain ⟨_,h⟩:=h
 rcases h with ⟨rfl,_⟩ | ⟨g,cap,cur,rfl,_,h4,_⟩
 ·simp [blocksOf,blockOf] at hb
 ·simp [blocksOf,blockOf] at hb; subst hb
  exact ⟨rfl,(Array.getElem?_eq_some_iff.1 h4).1⟩
theorem owns_one {w:World} {e s n:Nat} {u:Value} {cs:List Value} (h:w.ownsRow 0 e s u n cs):u.oneCell'=true:=by
 obtain ⟨_,h⟩:=h
 rcases h with ⟨rfl,_⟩ | ⟨g,cap,cur,rfl,_,h4,_⟩ <;> rfl
def bagC (ct:Nat→Nat×Nat) (q:Nat→Bool) (xs:List PV):Cust where
 I:=fun ow w v _=>bagI ct q xs ow w v
 lt:=by
  rintro ow w v vs ⟨caps,rfl,hs,h1,h2,h3⟩ b hb
  obtain ⟨k,u,hk,hb'⟩:=mem_caps hb
  have hlt:k<caps.size:=(Array.getElem?_eq_some_iff.1 hk).1
  cases hq:q k with
  | false=>rw [h2 k u hk hq] at hb'; simp [noB,blockOf] at hb'
  | true =>
   obtain ⟨ys,cs,u',g1,g2,g3,g4⟩:=h1 k hlt hq
   rw [hk] at g2; cases g2
   exact (owns_bo g3 (mem_of_bo hb')).2
 kp:=by
  rintro ow ow' w w' v vs hk hb ⟨caps,rfl,hs,h1,h2,h3⟩
  refine ⟨caps,rfl,hs,fun k hlt hq=>?_,h2,h3⟩
  obtain ⟨ys,cs,u,g1,g2,g3,g4⟩:=h1 k hlt hq
  exact ⟨ys,cs,u,g1,g2,ownsRow_kept g3 fun b hb'=>(hb b (caps_mem g2 (owns_bo g3 hb').1)).1,RE.mono hk _ _ _ g4⟩
 one:=by
  rintro ow w v vs ⟨caps,rfl,_⟩
  rfl
def outI (ty sz:Nat) (q:Nat→Bool) (hs:List (Option Nat)) (xs:List PV) (ow:Nat→Bool) (w:World) (v:Value) (vs:List Value):Prop :=
 ∃ (cells:List Value) (caps:Array Value),w.ownsRow 0 ty sz v xs.length cells∧vs[0]?=some (.func (.func 0) #[] caps) ∧
  ∀ (k:Nat) (p:PV),(fl xs)[k]?=some p→∃ u:Value,cells[k]?=some u∧u.oneCell'=true∧(q k=true→caps[k]?=some u)∧(∀ j:Nat,hs[j]?=some (some k)→vs[j+1]?=some u) ∧
   (q k=false→(∀ j:Nat,hs[j]?≠some (some k))→R ow w p u)
def outC (ty sz:Nat) (q:Nat→Bool) (hs:List (Option Nat)) (xs:List PV):Cust where
 I:=outI ty sz q hs xs
 lt:=by
  rintro ow w v vs ⟨cells,caps,h1,_⟩ b hb
  exact (owns_bo h1 hb).2
 kp:=by
  rintro ow ow' w w' v vs hk hb ⟨cells,caps,h1,h2,h3⟩
  refine ⟨cells,caps,ownsRow_kept h1 fun b e=>(hb b e).1,h2,fun k p hp=>?_⟩
  obtain ⟨u,g1,g2,g3,g4,g5⟩:=h3 k p hp
  exact ⟨u,g1,g2,g3,g4,fun a b=>R.mono hk _ _ (g5 a b)⟩
 one:=by
  rintro ow w v vs ⟨cells,caps,h1,_⟩
  exact owns_one h1
section
variable {P:Program} {T:List TI} {n:Nat} {w0:Cx} {st:PS} {a:Act} {w:World} {ow:Nat→Bool} {hd:Nat→Value}
end
end Go.Proofs.YtocchemnfpnmeaaDoor.pv
namespace Go.Proofs.YtocchemnfpnmeaaDoor.pv
set_option linter.all false
open Go.RowKit
section
variable {P:Program} {T:List TI} {n:Nat} {w0:Cx} {st:PS} {a:Act} {w:World} {ow:Nat→Bool} {hd:Nat→Value}
theorem own_R {e s:Nat} {u:Value} {ys:List PV} {cs:List Value} {ow':Nat→Bool} (h:w.ownsRow 0 e s u ys.length cs) (hr:RE ow w s ys cs) (hk:Kp ow w ow' w) (hb:∀ b,b∈blocksOf u→ow' b=false):R ow' w (.sl ys) u:=by
 obtain ⟨h1,h1'⟩:=h
 simp only [R]
 rcases h1' with ⟨e2,e3⟩ | ⟨gb,cap,cur,e2,e3,e4,e5,e6,e7,e8⟩
 ·rw [e2]; exact ⟨none,0,by rw [e3],by omega,by simp [maxLen],.inl (List.eq_nil_of_length_eq_zero e3)⟩
 ·refine ⟨some ⟨gb,0,none⟩,cap,e2,e5,e6,.inr ⟨gb,0,s,cs,rfl,(Array.getElem?_eq_some_iff.1 e4).1,hb gb (by rw [e2]; first | rfl | simp [blocksOf,blockOf]),fun j v hv=>?_,RE.mono hk _ _ _ hr⟩⟩
  rw [← e8,List.getElem?_take] at hv
  split at hv
  ·unfold World.cell?
   simp only [e4]
   simpa using hv
  ·cases hv
def nThaw (l ty sz:Nat) (ct:Nat→Nat×Nat) (q:Nat→Bool) (hs:List (Option Nat)) (xs:List PV) (st:PS):PS :=
 ⟨st.f,st.m.set l (.cu (outC ty sz q hs xs) (.srf st.m.length::hs.map fun _=>.d (.v noB)))++[.cu (bagC ct q xs) []]⟩
def nFrz (l B ty sz:Nat) (xs:List PV) (st:PS):PS:=⟨st.f,(st.m.set B .none).set l (.row ty sz xs)⟩
end
end Go.Proofs.YtocchemnfpnmeaaDoor.pv
namespace Go.Proofs.YtocchemnfpnmeaaDoor.pv
set_option linter.all false
open Go.RowKit
section
variable {P:Program} {T:List TI}
end
end Go.Proofs.YtocchemnfpnmeaaDoor.pv
namespace Go.Proofs.YtocchemnfpnmeaaDoor.pv
set_option linter.all false
open Go.RowKit
def b2s (L:List Int):ByteArray:=L.foldl (fun r n=>r.push (UInt8.ofNat n.toNat)) ByteArray.empty
def catS (a b:ByteArray):Option ByteArray:=if a.size+b.size≤9223372036854775807 then some (a++b) else none
def subS (a:ByteArray) (l h:Int):Option ByteArray:=if 0≤l∧l≤h∧h≤a.size then some (a.extract l.toNat h.toNat) else none
theorem tstr_und {P:Program} {T:List TI} (h:TOk P T) {t:Nat} (ht:tk T t=some .str):P.underlying t=some .string:=by
 unfold tk at ht
 cases hq:T[t]? with
 | none=>simp [hq] at ht
 | some ti =>
  obtain ⟨i,d,h1,h2,h3,h4,h5,_⟩:=h.info hq
  simp [hq] at ht
  rw [ht] at h5
  cases d <;> simp [kOk] at h5
  exact h2
section
variable {P:Program} {T:List TI} {n:Nat} {w0:Cx} {st:PS} {a:Act} {w:World} {ow:Nat→Bool} {hd:Nat→Value}
theorem ext_subS {t:Nat} {x:Operand} {lo hi:Option Operand} {p r:ByteArray} {i h:Int} {vs:List FV} (ht:tk T t=some .str)
  (hq:∀ ρ:Operand→FV,(Op.slice t x lo hi none).operands.toList.map ρ=vs→ρ x=.d (.v (.string p))∧optInt ρ 0 lo=some i∧optInt ρ p.size hi=some h) (hb:subS p i h=some r) :
  Ext P T (.slice t x lo hi none) vs [] (.d (.v (.string r))) []:=by
 intro n w0 st a' w o hT hS ho hn hv hm K Q hK
 obtain ⟨ow,hd,hold,S⟩:=hS
 obtain ⟨d,op,ty,pos,af,gd⟩:=o
 simp only at ho hn hK
 subst ho
 obtain ⟨q1,h4,h5⟩:=hq _ hv
 obtain ⟨e1,_⟩:=S.v q1
 unfold subS at hb
 split at hb
 ·rename_i hc
  obtain ⟨h6,h7,h8⟩:=hc
  simp at hb; subst hb
  have hlo:(match lo.map a'.eval with | some v=>Instr.sliceBound v h.toNat .sliceB | none=>pure 0:Sem Nat).run P w=.ok i.toNat w:=by
   cases lo with
   | none=>simp [optInt] at h4; subst h4; rfl
   | some o=>exact bound_opt S h4 h6 (by omega)
  have hhi:(match hi.map a'.eval with | some v=>Instr.sliceBound v p.size .sliceAlen | none=>pure p.size:Sem Nat).run P w=.ok h.toNat w:=by
   cases hi with
   | none=>simp [optInt] at h5; subst h5; simp
   | some o=>exact bound_opt S h5 (by omega) (by omega)
  have hsb:(Instr.sliceBounds false p.size p.size (lo.map a'.eval) (hi.map a'.eval) none).run P w=.ok (i.toNat,h.toNat,p.size) w:=by
   unfold Instr.sliceBounds
   cases hl:lo.map a'.eval <;> cases hh:hi.map a'.eval <;> rw [hl] at hlo <;> rw [hh] at hhi <;> simp_all
  have hrun:(execOp a'.eval ⟨d,.slice t x lo hi none,ty,pos,af,gd⟩).run P w=.ok (.value (.string (p.extract i.toNat h.toNat))) w:=by
   simp [execOp,Instr.sliceAt,Instr.slice,run_underlying (tstr_und hT ht),e1,hsb]
  exact wp_val hrun (hK _ _ ⟨ow,hd,hold,S.put hn (x:=.d (.v _)) (by simp only [RF,R]; exact ⟨trivial,rfl⟩)⟩)
 ·cases hb
variable {t:Nat} {x lo hi:Operand} {p r:ByteArray} {i h:Int} {ka kb:IntKind}
theorem xsub10 (ht:tk T t=some .str) (hb:subS p i p.size=some r):Ext P T (.slice t x (some lo) none none) [.d (.v (.string p)),.d (.v (.int ka i))] [] (.d (.v (.string r))) [] :=
 ext_subS (i:=i) ht (fun ρ hv=>by simp [Op.operands] at hv; exact ⟨hv.1,by simp [optInt,hv.2],rfl⟩) hb
theorem xsub01 (ht:tk T t=some .str) (hb:subS p 0 h=some r):Ext P T (.slice t x none (some hi) none) [.d (.v (.string p)),.d (.v (.int kb h))] [] (.d (.v (.string r))) [] :=
 ext_subS (h:=h) ht (fun ρ hv=>by simp [Op.operands] at hv; exact ⟨hv.1,rfl,by simp [optInt,hv.2]⟩) hb
end
section
variable {β γ:Type} {n sz P0 o idx:Nat} {A:Fin n→β} {jj:Int} {x y:β} {g:β→List γ} {pre post zs:List γ} {c:γ}
end
end Go.Proofs.YtocchemnfpnmeaaDoor.pv
namespace Go.Proofs.YtocchemnfpnmeaaDoor.pv
set_option linter.all false
open Go.RowKit Go.MapKept
def Stp (es:List MapEntry) (clock:Nat):Prop:=(∀ e∈es,e.born<clock)∧es.Pairwise (fun x y=>x.born≠y.born)
section
variable {κ ν:Type} [DecidableEq κ]
def mplc:List (κ×ν)→κ→Option (Nat×ν)
 | [],_=>none
 | p::r,k=>if k=p.1 then some (0,p.2) else (mplc r k).map fun q=>(q.1+1,q.2)
def mget (E:List (κ×ν)) (k:κ):Option ν:=(mplc E k).map (·.2)
def mput (E:List (κ×ν)) (k:κ) (v:ν):List (κ×ν):=match mplc E k with | some (i,_)=>E.set i (k,v) | none=>E++[(k,v)]
end
structure KOk (P:Program) (kt:Nat) {κ:Type} [DecidableEq κ] (d:TypeDesc) (f:κ→Value):Prop where
 und:P.underlying kt=some d
 key:∀ a,IsKey d (f a)
 now:∀ a b,Instr.sameNow d (f a) (f b)=some (decide (a=b))
section
variable {κ ν:Type} [DecidableEq κ] {f:κ→Value} {g:ν→Value} {d:TypeDesc}
structure KW (P:Program) (kt:Nat) {κ:Type} [DecidableEq κ] (f:κ→Value):Prop where
 chk:∀ a b (w:World),(Instr.checkKey b 10000 kt (f a)).run P w=.ok () w
 find:∀ {ν:Type} (g:ν→Value) (k:κ) (es:List MapEntry) (E:List (κ×ν)) (w:World),es.map (fun e=>(e.key,e.val))=E.map (fun p=>(f p.1,g p.2))→(Instr.findKey kt (f k) es).run P w=.ok ((mplc E k).map fun q=>(q.1,g q.2)) w
 stay:∀ a (w:World),(Instr.keyThatStays (f a) (f a)).run P w=.ok (f a) w
def plainC:Value→Bool
 | .int _ _=>true
 | .bool _=>true
 | .string _=>true
 | _=>false
def mapC (f:κ→Value) (g:ν→Value) (E:List (κ×ν)):Cust where
 I ow w h vs:=∃ b clock es,h=.map (some b)∧w.heap[b]?=some (.map es clock)∧es.toList.map (fun e=>(e.key,e.val))=E.map (fun p=>(f p.1,g p.2))∧Stp es.toList clock
 lt:=by
  rintro ow w h vs ⟨b,clock,es,rfl,h2,_⟩ b' hb
  simp [blocksOf,blockOf] at hb
  subst hb
  exact (Array.getElem?_eq_some_iff.1 h2).1
 kp:=by
  rintro ow ow' w w' h vs k hb ⟨b,clock,es,rfl,h2,h3⟩
  exact ⟨b,clock,es,rfl,by rw [(hb b (by simp [blocksOf,blockOf])).1]; exact h2,h3⟩
 one:=by rintro ow w h vs ⟨b,clock,es,rfl,_⟩; rfl
end
section
variable {P:Program} {T:List TI} {n:Nat} {w0:Cx} {st:PS} {a:Act} {w:World} {ow:Nat→Bool} {hd:Nat→Value}
variable {κ ν:Type} [DecidableEq κ] {f:κ→Value} {g:ν→Value} {E:List (κ×ν)}
def KV (x:FV) (u:Value):Prop:=∀ (A:Nat→Bool) (hd:Nat→Value) (ow:Nat→Bool) (w:World) (v:Value),RF A hd ow w x v→v=u
instance decFin {n:Nat} {α:Type} [DecidableEq α]:DecidableEq (Fin n→α):=fun f g=>decidable_of_iff (∀ i,f i=g i) ⟨funext,fun h i=>h ▸ rfl⟩
end
end Go.Proofs.YtocchemnfpnmeaaDoor.pv
namespace Go.Proofs.YtocchemnfpnmeaaDoor.pv
set_option linter.all false
open Go.RowKit
section
variable {P:Program} {T:List TI} {n:Nat} {w0:Cx} {st:PS} {a:Act} {w:World} {ow:Nat→Bool} {hd:Nat→Value}
theorem cell_at {b k N:Nat} {cur:Array Value} {ty:TypeId} {cells:List Value} {u:Value} (hb:w.heap[b]?=some (.cells cur ty (0,0))) (hc:cur.toList.take N=cells) (hu:cells[k]?=some u):w.cell? ⟨b,k,none⟩=some u:=by
 rw [← hc,List.getElem?_take] at hu
 split at hu
 ·exact cell_of_block hb hu
 ·cases hu
def minus (q:Nat→Bool) (k:Nat):Nat→Bool:=fun i=>q i&&!decide (i=k)
end
end Go.Proofs.YtocchemnfpnmeaaDoor.pv
namespace Go.Proofs.YtocchemnfpnmeaaDoor.pv
set_option linter.all false
open Go.RowKit
section
variable {P:Program} {T:List TI} {n:Nat} {w0:Cx} {st:PS} {a:Act} {w:World} {ow:Nat→Bool} {hd:Nat→Value}
end
end Go.Proofs.YtocchemnfpnmeaaDoor.pv
namespace Go.Proofs.YtocchemnfpnmeaaDoor.pv
set_option linter.all false
open Go.RowKit
section
variable {P:Program} {T:List TI} {n:Nat} {w0:Cx} {st:PS} {a:Act} {w:World} {ow:Nat→Bool} {hd:Nat→Value}
def nClose (l B L ty sz:Nat) (ct:Nat→Nat×Nat) (q':Nat→Bool) (hs':List (Option Nat)) (xs':List PV) (fs:List FV) (j:Nat) (st:PS):PS :=
 ⟨st.f,((st.m.set B .none).set L .none).set l (.cu (outC ty sz q' hs' xs') ((fs.set 0 (.srf st.m.length)).set (j+1) (.d (.v noB))))++[.cu (bagC ct q' xs') []]⟩
def nSame (l B ty sz:Nat) (ct:Nat→Nat×Nat) (q':Nat→Bool) (hs:List (Option Nat)) (xs:List PV) (fs:List FV) (st:PS):PS:=⟨st.f,(st.m.set l (.cu (outC ty sz q' hs xs) fs)).set B (.cu (bagC ct q' xs) [])⟩
inductive Lend (m0:List (Nat×PO)):Nat→PV→Prop where
 | row (l e s:Nat) (ys:List PV):(l,.row e s ys)∈m0→Lend m0 l (.sl ys)
 | nst (l B ty sz:Nat) (ct:Nat→Nat×Nat) (q:Nat→Bool) (hs:List (Option Nat)) (xs:List PV) (fs:List FV):(l,.cu (outC ty sz q hs xs) fs)∈m0→(B,.cu (bagC ct q xs) [])∈m0→fs[0]?=some (.srf B)→xs.all (fits sz)=true →
  (∀ (j k:Nat),hs[j]?=some (some k)→∃ L e s ys,fs[j+1]?=some (.srf L)∧(L,.row e s ys)∈m0∧(fl xs)[k]?=some (.sl ys))→Lend m0 l (.sl xs)
mutual
def lendF (E:List (Nat×PV)):FV→Option PV
 | .d x=>some x
 | .agg cs=>(match lendL E cs with | some xs=>some (.agg xs) | none=>none)
 | .srf l=>(match E.find? (fun p=>Nat.beq p.1 l) with | some p=>some p.2 | none=>none)
 | .clo f cs=>(match lendL E cs with | some xs=>some (.clo f xs) | none=>none)
 | _=>none
def lendL (E:List (Nat×PV)):List FV→Option (List PV)
 | []=>some []
 | x::xs=>match lendF E x,lendL E xs with
  | some y,some ys=>some (y::ys)
  | _,_=>none
end
mutual
theorem lend_sound {E:List (Nat×PV)} (S:SimW n w0 st a w ow hd) (hE:∀ q∈E,R (fun _=>false) w q.2 (hd q.1)):∀ (x:FV) (u:Value) (y:PV),lendF E x=some y→RF (al st.m) hd ow w x u→R (fun _=>false) w y u
 | .d x,u,y,h,hr=>by
  simp [lendF] at h; subst h
  exact R.mono ⟨Nat.le_refl _,fun _ _ _=>rfl,fun _ _ _=>rfl⟩ _ _ (by simpa only [RF] using hr)
 | .agg cs,u,y,h,hr=>by
  simp only [lendF] at h
  split at h
  ·rename_i xs hx
   simp at h; subst h
   simp only [RF] at hr
   obtain ⟨vs,e,hr⟩:=hr
   simp only [R]
   exact ⟨vs,e,lendL_sound S hE cs vs xs hx hr⟩
  ·cases h
 | .clo f cs,u,y,h,hr=>by
  simp only [lendF] at h
  split at h
  ·rename_i xs hx
   simp at h; subst h
   simp only [RF] at hr
   obtain ⟨vs,e,hr⟩:=hr
   simp only [R]
   exact ⟨vs,e,lendL_sound S hE cs vs xs hx hr⟩
  ·cases h
 | .srf l,u,y,h,hr=>by
  simp only [lendF] at h
  split at h
  ·rename_i p hp
   simp at h; subst h
   have h1:=hE p (List.mem_of_find?_eq_some hp)
   have h2:=List.find?_some hp
   have h3:p.1=l:=by simpa using h2
   simp only [RF] at hr
   rw [hr.2.1,← h3]; exact h1
  ·cases h
 | .tup _,_,_,h,_=>by simp [lendF] at h
 | .ref _ _,_,_,h,_=>by simp [lendF] at h
 | .ept _ _ _ _,_,_,h,_=>by simp [lendF] at h
 | .asl _ _ _ _ _ _,_,_,h,_=>by simp [lendF] at h
 | .ssl _ _ _ _,_,_,h,_=>by simp [lendF] at h
 | .dead,_,_,h,_=>by simp [lendF] at h
theorem lendL_sound {E:List (Nat×PV)} (S:SimW n w0 st a w ow hd) (hE:∀ q∈E,R (fun _=>false) w q.2 (hd q.1)):∀ (xs:List FV) (us:List Value) (ys:List PV),lendL E xs=some ys→RFL (al st.m) hd ow w xs us→RL (fun _=>false) w ys us
 | [],us,ys,h,hr=>by simp [lendL] at h; subst h; simpa only [RFL,RL] using hr
 | x::xs,us,ys,h,hr=>by
  simp only [lendL] at h
  split at h
  ·rename_i z zs h1 h2
   simp at h; subst h
   simp only [RFL] at hr
   obtain ⟨v,r,e,g1,g2,g3⟩:=hr
   simp only [RL]
   exact ⟨v,r,e,lend_sound S hE x v z h1 g1,g2,lendL_sound S hE xs r zs h2 g3⟩
  ·cases h
theorem lendT_sound {E:List (Nat×PV)} (S:SimW n w0 st a w ow hd) (hE:∀ q∈E,R (fun _=>false) w q.2 (hd q.1)):∀ (xs:List FV) (us:List Value) (ys:List PV),lendL E xs=some ys→RFT (al st.m) hd ow w xs us→RT (fun _=>false) w ys us
 | [],us,ys,h,hr=>by simp [lendL] at h; subst h; simpa only [RFT,RT] using hr
 | x::xs,us,ys,h,hr=>by
  simp only [lendL] at h
  split at h
  ·rename_i z zs h1 h2
   simp at h; subst h
   simp only [RFT] at hr
   obtain ⟨v,r,e,g1,g3⟩:=hr
   simp only [RT]
   exact ⟨v,r,e,lend_sound S hE x v z h1 g1,lendT_sound S hE xs r zs h2 g3⟩
  ·cases h
end
end
end Go.Proofs.YtocchemnfpnmeaaDoor.pv
namespace Go.Proofs.YtocchemnfpnmeaaDoor.pv
set_option linter.all false
open Go.RowKit
def plus (q:Nat→Bool) (k:Nat):Nat→Bool:=fun i=>q i||decide (i=k)
def qpre (q:Nat→Bool) (N:Nat):Nat→Bool:=fun k=>decide (k<N)&&q k
section
variable {P:Program} {T:List TI} {n:Nat} {w0:Cx} {st:PS} {a:Act} {w:World} {ow:Nat→Bool} {hd:Nat→Value}
end
end Go.Proofs.YtocchemnfpnmeaaDoor.pv
namespace Go.Proofs.YtocchemnfpnmeaaDoor.pv
set_option linter.all false
open Go.RowKit
section
variable {P:Program} {T:List TI} {n:Nat} {w0:Cx} {st:PS} {a:Act} {w:World} {ow:Nat→Bool} {hd:Nat→Value}
def nTakeS (l B ty sz k j e s:Nat) (ct:Nat→Nat×Nat) (q:Nat→Bool) (hs:List (Option Nat)) (xs ys:List PV) (fs:List FV) (st:PS):PS :=
 ⟨st.f,updM (st.m++[.free,.free]) [(B,.none),(st.m.length,.row e s ys),(st.m.length+1,.cu (bagC ct (minus q k) xs) []),(l,.cu (outC ty sz (minus q k) (hs.set j (some k)) xs) ((fs.set 0 (.srf (st.m.length+1))).set (j+1) (.srf st.m.length)))]⟩
end
end Go.Proofs.YtocchemnfpnmeaaDoor.pv
namespace Go.Proofs.YtocchemnfpnmeaaDoor.pv
set_option linter.all false
open Go.RowKit
section
variable {P:Program} {T:List TI} {n:Nat} {w0:Cx} {st:PS} {a:Act} {w:World} {ow:Nat→Bool} {hd:Nat→Value}
end
end Go.Proofs.YtocchemnfpnmeaaDoor.pv
namespace Go.Proofs.YtocchemnfpnmeaaDoor.pv
set_option linter.all false
open Go.RowKit
section
variable {P:Program} {T:List TI} {n:Nat} {w0:Cx} {st:PS} {a:Act} {w:World} {ow:Nat→Bool} {hd:Nat→Value}
theorem row_R {A:Nat→Bool} {L e s:Nat} {xs:List PV} {u:Value} (S:SimW n w0 st a w ow hd) (hm:st.m[L]?=some (.row e s xs)) (hx:RF A hd ow w (.srf L) u):R (fun _=>false) w (.sl xs) u:=by
 have hk:Kp ow w (fun _=>false) w:=⟨Nat.le_refl _,fun _ _ _=>rfl,fun _ _ _=>rfl⟩
 simp only [RF] at hx
 obtain ⟨_,rfl,_⟩:=hx
 obtain ⟨cells,r1,_,r3⟩:=S.objs L _ hm
 have hx':=r1
 rcases r1.2 with ⟨q,q2⟩ | ⟨g,cap,cur,q,q1,q2,q3,q4,q5,q6⟩
 ·rw [q]
  simp only [R]
  refine ⟨none,0,by rw [q2],by omega,by simp [maxLen],.inl (List.eq_nil_of_length_eq_zero q2)⟩
 ·rw [q]
  simp only [R]
  refine ⟨_,cap,rfl,by omega,by unfold maxLen; unfold maxLen at *; omega,?_⟩
  right
  exact ⟨g,0,s,cells,rfl,(Array.getElem?_eq_some_iff.1 q2).1,trivial,fun k v hv=>by rw [Nat.zero_add]; exact cell_at q2 q6 hv,RE.mono hk _ _ _ r3⟩
theorem RFL.split {A:Nat→Bool} {hd:Nat→Value} {ow:Nat→Bool} {w:World}:∀ {x y:List FV} {vs:List Value},RFL A hd ow w (x++y) vs→∃ a b,vs=a++b∧RFL A hd ow w x a∧RFL A hd ow w y b
 | [],y,vs,h=>⟨[],vs,rfl,by simp only [RFL],h⟩
 | q::x,y,vs,h=>by
  simp only [List.cons_append,RFL] at h
  obtain ⟨v,r,rfl,h1,h2,h3⟩:=h
  obtain ⟨a,b,rfl,h4,h5⟩:=RFL.split h3
  exact ⟨v::a,b,rfl,by simp only [RFL]; exact ⟨v,a,rfl,h1,h2,h4⟩,h5⟩
theorem RL.join {ow:Nat→Bool} {w:World}:∀ {x y:List PV} {a b:List Value},RL ow w x a→RL ow w y b→RL ow w (x++y) (a++b)
 | [],y,a,b,h,k=>by simp only [RL] at h; subst h; exact k
 | q::x,y,a,b,h,k=>by
  simp only [RL] at h
  obtain ⟨v,r,rfl,h1,h2,h3⟩:=h
  simp only [List.cons_append,RL]
  exact ⟨v,r++b,rfl,h1,h2,RL.join h3 k⟩
theorem box_R {l L e s:Nat} {cs:List FV} {pre post xs:List PV} {u:Value} (S:SimW n w0 st a w ow hd) (hm:st.m[l]?=some (.box cs)) (hL:st.m[L]?=some (.row e s xs)) (hcs:cs=pre.map .d++.srf L::post.map .d) (hx:RF (al st.m) hd ow w (.ref l 0) u):R (fun _=>false) w (.iptr (pre++.sl xs::post) 0) u:=by
 have hk:Kp ow w (fun _=>false) w:=⟨Nat.le_refl _,fun _ _ _=>rfl,fun _ _ _=>rfl⟩
 subst hcs
 simp only [RF] at hx
 obtain ⟨_,b,x1,rfl⟩:=hx
 obtain ⟨b',vals,t,h1,h2,h3,h4,h5⟩:=S.objs l _ hm
 rw [x1] at h1
 simp at h1
 subst h1
 obtain ⟨va,vb,e1,k1,k2⟩:=RFL.split h5
 simp only [RFL] at k2
 obtain ⟨v,vc,rfl,k3,k4,k5⟩:=k2
 simp only [R]
 refine ⟨b,0,vals.toList,rfl,(Array.getElem?_eq_some_iff.1 h4).1,trivial,fun j y hv=>?_,?_⟩
 ·unfold World.cell?
  simp only [h4]
  simpa using hv
 ·rw [e1]
  refine RL.join (RL.mono hk _ _ (RFL.to_RL k1)) ?_
  simp only [RL]
  exact ⟨v,vc,rfl,row_R S hL k3,k4,RL.mono hk _ _ (RFL.to_RL k5)⟩
theorem lcall {f:Operand} {args:Array Operand} {tys:Array Nat} {g:FuncId} {l L e s:Nat} {cs:List FV} {pre post xs ds ps:List PV} {r:PV} (hcs:cs=pre.map .d++.srf L::post.map .d) (hds:pre++.sl xs::post=ds) (hr:Ret P g (.iptr ds 0::nslL ps) r) (hfl:flat r=true) :
  Ext P T (.call ⟨.value f,args,tys⟩) (.d (.clo g [])::.ref l 0::ps.map .d) [(l,.box cs),(L,.row e s xs)] (.d r) []:=by
 subst hds
 intro n w0 st a w o hT hS ho hn hvs hm K Q hK
 obtain ⟨ow,hd,hold,S⟩:=hS
 obtain ⟨d,op,tyo,pos,af,gd⟩:=o
 simp only at ho hn hK
 subst ho
 have hml:=hm (l,.box cs) (by simp)
 have hmL:=hm (L,.row e s xs) (by simp)
 simp only at hml hmL
 have hρ':ev st.f f::args.toList.map (ev st.f)=.d (.clo g [])::.ref l 0::ps.map .d:=by
  rw [← hvs]; simp [Op.operands,Call.operands]
 obtain ⟨e1,e2⟩:=List.cons.inj hρ'
 have h1:=S.eval f
 rw [e1] at h1
 simp only [RF,R] at h1
 obtain ⟨us,hc1,hc2⟩:=h1
 simp only [RL] at hc2
 subst hc2
 have hk:Kp ow w (fun _=>false) w:=⟨Nat.le_refl _,fun _ _ _=>rfl,fun _ _ _=>rfl⟩
 have h2:RT (fun _=>false) w (.iptr (pre++.sl xs::post) 0::ps) (args.toList.map a.eval):=by
  have h3:=RFT_of_eval S args.toList
  rw [e2] at h3
  simp only [RFT] at h3
  obtain ⟨v,q,h4,h5,h6⟩:=h3
  rw [h4]
  simp only [RT]
  exact ⟨v,q,rfl,box_R S hml hmL hcs h5,RT.mono hk _ _ (RFT.to_RT h6)⟩
 unfold Oper.wp
 rw [run_call hc1 hr.1]
 show Calls P g (args.map a.eval++#[]) w _
 have harr:args.map a.eval++#[]=(args.toList.map a.eval).toArray:=by
  apply Array.toList_inj.1; simp
 rw [harr]
 have h7:=RT.nsl _ _ h2
 refine (hr.2 (fun _=>false) w _ (fun _ _=>rfl) (by simpa only [nslL,nsl] using h7)).mono fun e w' ⟨v,he,hb,hr⟩=>?_
 subst he
 exact hK _ _ ⟨ow,hd,hold,(S.later hb).put hn (x:=.d r) (by simp only [RF]; exact R.flat _ _ hfl hr)⟩
end
end Go.Proofs.YtocchemnfpnmeaaDoor.pv
namespace Go.Proofs.YtocchemnfpnmeaaDoor.pv
set_option linter.all false
open Go.RowKit help
def s2b (s:ByteArray):List Int:=s.data.toList.map fun b=>(b.toNat:Int)
def s2bO (s:ByteArray):Option (List Int):=if s.size≤maxLen then some (s2b s) else none
theorem s2b_len (s:ByteArray):(s2b s).length=s.size:=by
 unfold s2b
 rw [List.length_map]
 exact Array.length_toList
theorem RE_bytes' {ow:Nat→Bool} {w:World}:∀ (L:List Int),RE ow w 1 (L.map (eI .u8)) (L.map (Value.int .u8))
 | []=>by simp only [List.map_nil,RE]
 | x::L=>by
  simp only [List.map_cons,RE,eI,R]
  exact ⟨.int .u8 x,L.map (Value.int .u8),rfl,rfl,by simp [Value.cells,Value.oneCell'],⟨rfl,rfl⟩,RE_bytes' L⟩
section
variable {P:Program} {T:List TI}
theorem xs2b {src dst e:Nat} {x:Operand} {s:ByteArray} {L:List Int} (hL:s2bO s=some L) (h1:tsl T dst=some (e,1)) (h2:tint T e=some .u8) (h3:tk T src=some .str) :
  Ext P T (.convert src dst x) [.d (.v (.string s))] [] (.d (.sl (L.map (eI .u8)))) []:=by
 unfold s2bO at hL
 by_cases hs:s.size≤maxLen
 ·rw [if_pos hs] at hL
  have hL:=Option.some.inj hL
  subst hL
  intro n w0 st a w o hT hS ho hn hv hm K Q hK
  obtain ⟨ow,hd,hold,S⟩:=hS
  obtain ⟨d,op,ty,pos,af,gd⟩:=o
  simp only at ho hn hK
  subst ho
  simp [Op.operands] at hv
  obtain ⟨ex,_⟩:=S.v hv
  have hrun:(execOp a.eval ⟨d,.convert src dst x,ty,pos,af,gd⟩).run P w=.ok (.value (.slice (some ⟨w.heap.size,0,none⟩) s.size (grownCap w s.size 0 e))) (Lib.bytesWorld w e s):=by
   simp only [execOp,ex]
   have:=Lib.run_convert_string_bytes (P:=P) w src dst e s (tstr_und hT h3) (tsl_und hT h1).1 (tint_und hT h2)
   simp only [Sem.run_bind,this,Result.andThen_ok,Sem.run_pure]
  have hbel:Below w.heap.size w (Lib.bytesWorld w e s):=⟨rfl,rfl,rfl,by rw [Lib.bytesWorld_size]; omega,fun j hj=>Lib.bytesWorld_at_old w e s j hj⟩
  unfold Oper.wp
  rw [hrun]
  refine hK _ _ ⟨ow,hd,hold,(S.later hbel).put hn (x:=.d (.sl _)) ?_⟩
  have hlen:((s2b s).map (eI .u8)).length=s.size:=by rw [List.length_map,s2b_len]
  simp only [RF,R]
  refine ⟨some ⟨w.heap.size,0,none⟩,grownCap w s.size 0 e,by rw [hlen],by rw [hlen]; exact grownCap_ge w s.size 0 e,grownCap_le_maxLen w s.size 0 e hs,.inr ⟨w.heap.size,0,1,(s2b s).map (Value.int .u8),rfl,by rw [Lib.bytesWorld_size]; omega,S.fresh _ (Nat.le_refl _),?_,RE_bytes' _⟩⟩
  intro j v hj
  have hjl:j<s.size:=by
   have:=(List.getElem?_eq_some_iff.1 hj).1
   rwa [List.length_map,s2b_len] at this
  have hc:=Lib.bytesWorld_cell w e s j hjl
  rw [Nat.zero_add,hc]
  rw [s2b,List.map_map,List.getElem?_map] at hj
  have hg:s.data.toList[j]?=some (s.data.toList.getD j 0):=by
   rw [List.getD_eq_getElem?_getD]
   have:j<s.data.toList.length:=by rw [Array.length_toList]; exact hjl
   rw [List.getElem?_eq_getElem this]; rfl
  rw [hg] at hj
  simpa using hj
 ·rw [if_neg hs] at hL; cases hL
end
end Go.Proofs.YtocchemnfpnmeaaDoor.pv
namespace Go.Proofs.YtocchemnfpnmeaaDoor.pv
set_option linter.all false
open Go.RowKit
def isSt:TypeDesc→Bool
 | .struct _=>true
 | _=>false
def methV (P:Program) (t:TypeId) (name:String):Option FuncId :=
 match P.info? t,P.underlying t with
 | some i,some u=>if isSt u then (match i.methods.find? (·.name == name) with
  | some m=>(match m.path.toList,m.func with
   | [],some (g,false)=>some g
   | _,_=>none)
  | none=>none) else none
 | _,_=>none
section
variable {P:Program} {T:List TI}
theorem run_methV {t:TypeId} {name:String} {g:FuncId} {w:World} (h:methV P t name=some g) (N:Nat) (v:Value):(_root_.Go.method (N+1) t v name).run P w=.ok (g,v) w:=by
 unfold methV at h
 split at h
 ·rename_i i u h1 h2
  split at h
  ·rename_i hu
   split at h
   ·rename_i m hm
    split at h
    ·rename_i g' hp hg
     cases h
     have hp':m.path=#[]:=by apply Array.toList_inj.1; simpa using hp
     cases u with
     | struct fs=>simp [_root_.Go.method,typeInfo,h1,hm,hp,_root_.Go.follow,hg,_root_.Go.receiverAt,run_underlying h2,_root_.Go.Place.get]
     | _=>simp [isSt] at hu
    ·cases h
   ·cases h
  ·cases h
 ·cases h
theorem run_invokeV {a:Act} {w:World} {x:Operand} {args:Array Operand} {tys:Array Nat} {name:String} {t:TypeId} {v:Value} {g:FuncId} (hx:a.eval x=.iface t v) (hm:methV P t name=some g) (hg:FnOk P g) (d:Option Nat) (ty:TypeId) (pos:String) (af:Array Edge) (gd:Option (Nat×Bool)) :
  (execOp a.eval ⟨d,.call ⟨.invoke x name,args,tys⟩,ty,pos,af,gd⟩).run P w=.ok (.enter g (#[v]++args.map a.eval)) w:=by
 obtain ⟨fn,h1,h2,h3⟩:=hg
 have hmm:∀ N:Nat,(_root_.Go.method (P.types.size+N+1) t v name).run P w=.ok (g,v) w:=fun N=>run_methV hm _ v
 have hmade:∃ N,P.types.size+Made.depth=P.types.size+N+1:=⟨Made.depth-1,by unfold Made.depth; omega⟩
 obtain ⟨N,hN⟩:=hmade
 have hm1:=hmm N
 rw [← hN] at hm1
 have e0:(#[Value.iface t v]++args.map a.eval)[0]?=some (.iface t v):=by rw [Array.getElem?_append_left (by simp)]; rfl
 simp [execOp,resolve,hx,invoke]
 rw [e0]
 simp [callMethod,hm1,callFunc,h1]
 rw [if_neg (by simpa using h2),if_neg (by cases hb:fn.body <;> simp [hb] at h3 ⊢)]
 have e1:(args.map a.eval).extract 0 args.size=args.map a.eval:=by
  apply Array.toList_inj.1
  simp only [Array.toList_extract,Array.toList_map,List.extract_eq_drop_take,List.drop_zero,Nat.sub_zero]
  exact List.take_of_length_le (by simp)
 rw [e1]
def isStT (P:Program) (t:TypeId):Bool:=match P.underlying t with | some u=>isSt u | none=>false
theorem ymkD {t:Nat} {x:Operand} {y:PV} (hu:isStT P t=true):Ext P T (.makeInterface t x) [.d y] [] (.d (.ifc t y)) []:=by
 intro n w0 st a w o hT hS ho hn hv hm K Q hK
 obtain ⟨ow,hd,hold,S⟩:=hS
 obtain ⟨d,op,tyo,pos,af,gd⟩:=o
 simp only at ho hn hK
 subst ho
 simp [Op.operands] at hv
 have hx:=S.d hv
 unfold isStT at hu
 split at hu
 ·rename_i u h2
  cases u with
  | struct fs =>
   refine wp_val (v:=.iface t (a.eval x)) (by simp [execOp,Instr.makeInterface,run_underlying h2]) (hK _ _ ⟨ow,_,hold,S.put hn (x:=.d (.ifc t y)) ?_⟩)
   simp only [RF,R]
   exact ⟨_,rfl,hx⟩
  | _=>simp [isSt] at hu
 ·cases hu
theorem icallD {x:Operand} {args:Array Operand} {tys:Array Nat} {name:String} {t:Nat} {y:PV} {ps:List PV} {r:PV} {g:FuncId} (hg:methV P t name=some g) (hret:Ret P g (nslL (y::ps)) r) :
  Ext P T (.call ⟨.invoke x name,args,tys⟩) (.d (.ifc t y)::ps.map FV.d) [] (.d r) []:=by
 intro n w0 st a w o hT hS ho hn hvs hm K Q hK
 obtain ⟨ow,hd,hold,S⟩:=hS
 obtain ⟨d,op,tyo,pos,af,gd⟩:=o
 simp only at ho hn hK
 subst ho
 have hρ':ev st.f x::args.toList.map (ev st.f)=.d (.ifc t y)::ps.map FV.d:=by
  rw [← hvs]; simp [Op.operands,Call.operands]
 obtain ⟨e1,e2⟩:=List.cons.inj hρ'
 have hx:=S.d e1
 simp only [R] at hx
 obtain ⟨v,hxv,hy⟩:=hx
 have hargs:∀ (l:List Operand) (qs:List PV),l.map (ev st.f)=qs.map FV.d→RT ow w qs (l.map a.eval):=by
  intro l
  induction l with
  | nil=>intro qs h; cases qs with
   | nil=>simp [RT]
   | cons q qs=>simp at h
  | cons z l ih=>intro qs h; cases qs with
   | nil=>simp at h
   | cons q qs =>
    simp only [List.map_cons,List.cons.injEq] at h
    simp only [List.map_cons,RT]
    exact ⟨_,_,rfl,S.d h.1,ih qs h.2⟩
 have hT2:RT ow w (y::ps) (v::args.toList.map a.eval):=by
  simp only [RT]
  exact ⟨_,_,rfl,hy,hargs _ _ e2⟩
 unfold Oper.wp
 rw [run_invokeV hxv hg hret.1]
 show Calls P g (#[v]++args.map a.eval) w _
 have harr:#[v]++args.map a.eval=(v::args.toList.map a.eval).toArray:=by
  apply Array.toList_inj.1; simp
 rw [harr]
 refine (hret.2 ow w _ S.fresh (RT.nsl _ _ hT2)).mono fun e w' ⟨u,he,hb,hr⟩=>?_
 subst he
 exact hK _ _ ⟨ow,hd,hold,(S.later hb).put hn (x:=.d r) (by simpa only [RF] using hr)⟩
def eO {α:Type} (f:α→PV):Option α→PV
 | none=>.v (.pointer none)
 | some x=>.iptr (pcells (f x)) 0
def eF {α:Type} (t:Nat) (f:α→PV):α→PV:=fun x=>.ifc t (f x)
theorem xnilO {α:Type} {f:α→PV} {v:Option α} {op:BinOp} {t ty' e:Nat} {x y:Operand} (ho:eqlOp op=true) (ht:tptr T t=some e):Ext P T (.binOp op t x y ty') [.d (eO f v),.d (.v (.pointer none))] [] (.d (.v (.bool (eqRes op v.isNone)))) []:=by
 intro n w0 st a' w o hT hS ho' hn hv hm K Q hK
 obtain ⟨ow,hd,hold,S⟩:=hS
 obtain ⟨d,op',ty,pos,af,gd⟩:=o
 simp only at ho' hn hK
 subst ho'
 simp [Op.operands] at hv
 have h1:=S.d hv.1
 obtain ⟨e2,_⟩:=S.v hv.2
 have hu:P.underlying t=some (.pointer (P.pointee t)):=by
  have:=tptr_und hT ht
  rw [this]; unfold Program.pointee; rw [this]
 have hp:∃ p,a'.eval x=.pointer p∧p.isNone=v.isNone:=by
  cases v with
  | none=>simp only [eO,R] at h1; exact ⟨none,h1.1,rfl⟩
  | some z=>simp only [eO,R] at h1; obtain ⟨b,o,cells,e,_⟩:=h1; exact ⟨_,e,rfl⟩
 obtain ⟨p,e1,hp⟩:=hp
 have heq:=run_equal_pointer_nil (P:=P) w t p hu
 have hrun:(execOp a'.eval ⟨d,.binOp op t x y ty',ty,pos,af,gd⟩).run P w=.ok (.value (.bool (eqRes op v.isNone))) w:=by
  rw [← hp]
  cases op <;> simp [eqlOp] at ho <;> cases p <;> simp [execOp,e1,e2,eqGuard,binOp,heq,eqRes]
 exact wp_val hrun (hK _ _ ⟨ow,hd,hold,S.put hn (x:=.d (.v _)) (by simp only [RF,R]; exact ⟨trivial,rfl⟩)⟩)
theorem xderO {α:Type} {f:α→PV} {v:Option α} {z:α} {x:Operand} (h:v=some z):Ext P T (.nilCheck x) [.d (eO f v)] [] (.d (.iptr (pcells (f z)) 0)) []:=by
 subst h
 intro n w0 st a w o hT hS ho hn hv hm K Q hK
 obtain ⟨ow,hd,hold,S⟩:=hS
 obtain ⟨d,op,tyo,pos,af,gd⟩:=o
 simp only at ho hn hK
 subst ho
 simp [Op.operands] at hv
 have hx:=S.d hv
 have hx':=hx
 simp only [eO,R] at hx'
 obtain ⟨b,o,cells,e,_⟩:=hx'
 exact wp_val (v:=a.eval x) (by simp [execOp,e]) (hK _ _ ⟨ow,hd,hold,S.put hn (x:=.d (.iptr (pcells (f z)) 0)) (by simp only [RF]; exact hx)⟩)
end
end Go.Proofs.YtocchemnfpnmeaaDoor.pv
namespace Go.Proofs.YtocchemnfpnmeaaDoor.pv
set_option linter.all false
open Go.RowKit
def clipI (s:Nat) (xs:List PV) (ow:Nat→Bool) (w:World) (h:Value):Prop:=∃ (b:Nat) (cells:List Value),h=.slice (some ⟨b,0,none⟩) xs.length xs.length∧xs.length≤maxLen∧b<w.heap.size∧w.rangeAt b 0 cells∧RE ow w s xs cells
def rowF (e s:Nat) (xs:List PV):Cust where
 I:=fun ow w h _=>(∃ cells,w.ownsRow 0 e s h xs.length cells∧RE ow w s xs cells)∨clipI s xs ow w h
 lt:=by
  rintro ow w h vs (⟨cells,h1,_⟩ | ⟨g,cells,rfl,_,h2,_⟩) b hb
  ·exact (owns_bo h1 hb).2
  ·simp [blocksOf,blockOf] at hb; subst hb; exact h2
 kp:=by
  rintro ow ow' w w' h vs k hb (⟨cells,h1,h2⟩ | ⟨g,cells,h1,h2,h3,h4,h5⟩)
  ·exact .inl ⟨cells,ownsRow_kept h1 fun b e=>(hb b e).1,RE.mono k _ _ _ h2⟩
  ·have:=(hb g (by rw [h1]; simp [blocksOf,blockOf])).1
   exact .inr ⟨g,cells,h1,h2,Nat.lt_of_lt_of_le h3 k.size,rangeAt_kp this h4,RE.mono k _ _ _ h5⟩
 one:=by
  rintro ow w h vs (⟨cells,h1,_⟩ | ⟨g,cells,rfl,_⟩)
  ·exact owns_one h1
  ·rfl
 dat:=some xs
 fz:=by
  rintro ow ow0 w h vs ys e hI hk hb
  cases e
  rcases hI with ⟨cells,h1,h2⟩ | ⟨g,cells,h1,h2,h3,h4,h5⟩
  ·exact own_R h1 h2 hk hb
  ·simp only [R]
   exact ⟨some ⟨g,0,none⟩,xs.length,h1,Nat.le_refl _,h2,.inr ⟨g,0,s,cells,rfl,h3,hb g (by rw [h1]; simp [blocksOf,blockOf]),h4,RE.mono hk _ _ _ h5⟩⟩
def oldI (s:Nat) (xs:List PV) (ow:Nat→Bool) (w:World) (h:Value):Prop:=(h=.slice none 0 0∧xs=[])∨∃ (b C:Nat) (cells:List Value),h=.slice (some ⟨b,0,none⟩) xs.length C∧xs.length≤C∧C≤maxLen∧b<w.heap.size∧w.rangeAt b 0 cells∧RE ow w s xs cells
theorem oldI.kp {s:Nat} {xs:List PV} {ow ow':Nat→Bool} {w w':World} {h:Value} (k:Kp ow w ow' w') (hb:∀ b,b∈blocksOf h→w'.heap[b]?=w.heap[b]?) (ho:oldI s xs ow w h):oldI s xs ow' w' h:=by
 rcases ho with ho | ⟨b,C,cells,h1,h2,h3,h4,h5,h6⟩
 ·exact .inl ho
 ·exact .inr ⟨b,C,cells,h1,h2,h3,Nat.lt_of_lt_of_le h4 k.size,rangeAt_kp (hb b (by rw [h1]; simp [blocksOf,blockOf])) h5,RE.mono k _ _ _ h6⟩
theorem oldI.lt {s:Nat} {xs:List PV} {ow:Nat→Bool} {w:World} {h:Value} (ho:oldI s xs ow w h):∀ b,b∈blocksOf h→b<w.heap.size:=by
 intro b hb
 rcases ho with ⟨rfl,_⟩ | ⟨b',C,cells,h1,h2,h3,h4,h5,h6⟩
 ·simp [blocksOf,blockOf] at hb
 ·rw [h1] at hb; simp [blocksOf,blockOf] at hb; subst hb; exact h4
def splC (e s:Nat) (xs ys:List PV):Cust where
 I:=fun ow w h vs=>∃ hL,vs=[hL]∧oldI s xs ow w hL∧((∃ cells,w.ownsRow 0 e s h ys.length cells∧RE ow w s ys cells∧∀ b,b∈blocksOf hL→ow b=false)∨(∃ (b C:Nat),hL=.slice (some ⟨b,0,none⟩) xs.length C∧h=.slice (some ⟨b,0,none⟩) ys.length ys.length∧ys=xs.take ys.length))
 lt:=by
  rintro ow w h vs ⟨hL,rfl,ho,⟨cells,h1,_⟩ | ⟨g,C,h1,h2,h3⟩⟩ b hb
  ·exact (owns_bo h1 hb).2
  ·exact ho.lt b (by rw [h1]; rw [h2] at hb; simpa [blocksOf,blockOf] using hb)
 kp:=by
  rintro ow ow' w w' h vs k hb ⟨hL,rfl,ho,⟨cells,h1,h2,h3⟩ | ⟨g,C,h1,h2,h3⟩⟩
  ·exact ⟨hL,rfl,ho.kp k fun b hb'=>k.same b (ho.lt b hb') (h3 b hb'),.inl ⟨cells,ownsRow_kept h1 fun b e=>(hb b e).1,RE.mono k _ _ _ h2,fun b hb'=>k.pub b (ho.lt b hb') (h3 b hb')⟩⟩
  ·exact ⟨hL,rfl,ho.kp k fun b hb'=>(hb b (by rw [h1] at hb'; rw [h2]; simpa [blocksOf,blockOf] using hb')).1,.inr ⟨g,C,h1,h2,h3⟩⟩
 one:=by
  rintro ow w h vs ⟨hL,rfl,ho,⟨cells,h1,_⟩ | ⟨g,C,h1,h2,h3⟩⟩
  ·exact owns_one h1
  ·rw [h2]; rfl
section
variable {P:Program} {T:List TI} {n:Nat} {w0:Cx} {st:PS} {a:Act} {w:World} {ow:Nat→Bool} {hd:Nat→Value}
def toF (l e s:Nat) (xs:List PV) (st:PS):PS:=⟨st.f,st.m.set l (.cu (rowF e s xs) [])⟩
end
end Go.Proofs.YtocchemnfpnmeaaDoor.pv
namespace Go.Proofs.YtocchemnfpnmeaaDoor.pv
set_option linter.all false
open Go.RowKit
section
variable {P:Program} {T:List TI} {n:Nat} {w0:Cx} {st:PS} {a:Act} {w:World} {ow:Nat→Bool} {hd:Nat→Value}
def fmvS (l e s:Nat) (xs:List PV) (st:PS):PS:=⟨smvL l st.m.length st.f,((st.m.map (smvO l st.m.length)).set l .none)++[.cu (rowF e s xs) []]⟩
end
end Go.Proofs.YtocchemnfpnmeaaDoor.pv
namespace Go.Proofs.YtocchemnfpnmeaaDoor.pv
set_option linter.all false
open Go.RowKit
def bagV (ct:Nat→Nat×Nat) (us:List Value) (xs:List PV):Cust where
 I:=fun ow w v _=>bagI ct (fun _=>true) xs ow w v∧v=.func (.func 0) #[] us.toArray
 lt:=fun h=>(bagC ct (fun _=>true) xs).lt (vs:=[]) h.1
 kp:=fun hk hb h=>⟨(bagC ct (fun _=>true) xs).kp (vs:=[]) hk hb h.1,h.2⟩
 one:=by
  rintro ow w v vs ⟨_,rfl⟩
  rfl
def rowV (e s:Nat) (ys:List PV) (u:Value):Cust where
 I:=fun ow w v _=>v=u∧∃ cells,w.ownsRow 0 e s v ys.length cells∧RE ow w s ys cells
 lt:=by
  rintro ow w v vs ⟨rfl,cells,h1,_⟩ b hb
  exact (owns_bo h1 hb).2
 kp:=by
  rintro ow ow' w w' v vs hk hb ⟨rfl,cells,h1,h2⟩
  exact ⟨rfl,cells,ownsRow_kept h1 fun b e=>(hb b e).1,RE.mono hk _ _ _ h2⟩
 one:=by
  rintro ow w v vs ⟨rfl,cells,h1,_⟩
  exact owns_one h1
def oneC (ty:Nat):Cust where
 I:=fun ow w v vs=>∃ u,vs=[u]∧w.ownsRow 0 ty 1 v 1 [u]
 lt:=by
  rintro ow w v vs ⟨u,rfl,h1⟩ b hb
  exact (owns_bo h1 hb).2
 kp:=by
  rintro ow ow' w w' v vs hk hb ⟨u,rfl,h1⟩
  exact ⟨u,rfl,ownsRow_kept h1 fun b e=>(hb b e).1⟩
 one:=by
  rintro ow w v vs ⟨u,rfl,h1⟩
  exact owns_one h1
section
variable {ow:Nat→Bool} {w:World}
end
section
variable {P:Program} {T:List TI} {n:Nat} {w0:Cx} {st:PS} {a:Act} {w:World} {ow:Nat→Bool} {hd:Nat→Value}
end
end Go.Proofs.YtocchemnfpnmeaaDoor.pv
namespace Go.Proofs.YtocchemnfpnmeaaDoor.pv
set_option linter.all false
open Go.RowKit
section
variable {P:Program} {T:List TI} {n:Nat} {w0:Cx} {st:PS} {a:Act} {w:World} {ow:Nat→Bool} {hd:Nat→Value}
end
end Go.Proofs.YtocchemnfpnmeaaDoor.pv
namespace Go.Proofs.YtocchemnfpnmeaaDoor.pv
set_option linter.all false
open Go.RowKit
section
variable {P:Program} {T:List TI} {n:Nat} {w0:Cx} {st:PS} {a:Act} {w:World} {ow:Nat→Bool} {hd:Nat→Value}
end
end Go.Proofs.YtocchemnfpnmeaaDoor.pv
namespace Go.Proofs.YtocchemnfpnmeaaDoor.pv
set_option linter.all false
open Go.RowKit
def flatF:FV→Bool
 | .d x=>flat x
 | .srf _=>true
 | .dead=>true
 | _=>false
def CleanO:PO→Prop
 | .none=>True
 | .row _ _ xs=>xs.all flat=true
 | .cu q fs=>fs.all flatF=true∧∀ (ow ow':Nat→Bool) (w:World) (h:Value) (vs:List Value),q.I ow w h vs→q.I ow' w h vs
 | _=>False
section
variable {w:World} {A:Nat→Bool} {hd:Nat→Value}
theorem RE_flat {ow ow':Nat→Bool} {s:Nat}:∀ {xs:List PV} {cs:List Value},xs.all flat=true→RE ow w s xs cs→RE ow' w s xs cs
 | [],cs,_,h=>by simpa only [RE] using h
 | x::xs,cs,hf,h=>by
  simp only [List.all_cons,Bool.and_eq_true] at hf
  simp only [RE] at h ⊢
  obtain ⟨u,r,e,h0,h1,h2,h3⟩:=h
  exact ⟨u,r,e,h0,h1,R.flat _ _ hf.1 h2,RE_flat hf.2 h3⟩
theorem RFL_flat {ow ow':Nat→Bool}:∀ {fs:List FV} {vs:List Value},fs.all flatF=true→RFL A hd ow w fs vs→RFL A hd ow' w fs vs
 | [],vs,_,h=>by simpa only [RFL] using h
 | f::fs,vs,hf,h=>by
  simp only [List.all_cons,Bool.and_eq_true] at hf
  simp only [RFL] at h ⊢
  obtain ⟨u,r,e,h1,h2,h3⟩:=h
  refine ⟨u,r,e,?_,h2,RFL_flat hf.2 h3⟩
  have hf1:=hf.1
  cases f with
  | d x=>simp only [RF] at h1 ⊢; exact R.flat _ _ hf1 h1
  | srf l=>simpa only [RF] using h1
  | dead=>simp only [RF]
  | agg=>simp [flatF] at hf1
  | tup=>simp [flatF] at hf1
  | ref=>simp [flatF] at hf1
  | ept=>simp [flatF] at hf1
  | asl=>simp [flatF] at hf1
  | ssl=>simp [flatF] at hf1
  | clo=>simp [flatF] at hf1
end
section
variable {P:Program} {T:List TI} {n:Nat} {w0:Cx} {st:PS} {a:Act} {w:World} {ow:Nat→Bool} {hd:Nat→Value}
theorem SimW.callN (S:SimW n w0 st a w ow hd) (hold:Keep w0 ow) {g:FuncId} {ps:List PV} {us:List Value} {τ:List Nat} {m2:List PO} {r:FV} {nl:Nat} (hx:RT (fun _=>false) w ps us)
  (h2:nodup τ=true) (h4:τ=(List.range m2.length).map (nl+·)) (h5:∀ k,k<m2.length→st.m[nl+k]?=some .free) (h6:∀ o∈m2,CleanO o) (hr0:∀ (A:Nat→Bool) (hd:Nat→Value) (ow ow':Nat→Bool) (w:World) (v:Value),RF A hd ow w r v→RF A hd ow' w r v)
  (hret:RetH P g (ps.map .d) [] r m2) :
  Calls P g us.toArray w (fun e w'=>∃ v ow' hd',e=.returned v∧Keep w0 ow'∧SimW n w0 ⟨st.f,updM st.m (zipO τ τ m2)⟩ a w' ow' hd'∧RF (al (updM st.m (zipO τ τ m2))) hd' ow' w' (mapF τ r) v):=by
 have hτl:τ.length=m2.length:=by rw [h4]; simp
 have hτn:∀ j,j<m2.length→τ[j]?=some (nl+j):=by
  intro j hj
  rw [h4,List.getElem?_map,List.getElem?_range (by omega)]
  rfl
 have hτlt:∀ x∈τ,x<st.m.length:=by
  intro x hx
  rw [h4,List.mem_map] at hx
  obtain ⟨k,hk,rfl⟩:=hx
  exact (List.getElem?_eq_some_iff.1 (h5 k (by simpa using hk))).1
 have hupd:=fun l=>updM_zipO (τ:=τ) τ m2 st.m l h2 hτl hτlt
 let c1:Cx:=⟨w,fun _=>false,fun _=>false,fun _=>undef⟩
 have S1:SimH c1 [] w (fun _=>false) hd:=⟨Kt.refl _ _,fun _ _=>rfl,fun l o h=>by simp at h,fun l l' o o' b _ h=>by simp at h⟩
 have hargs:RFT (al []) hd (fun _=>false) w (ps.map .d) us:=by
  have go:∀ (ps:List PV) (us:List Value),RT (fun _=>false) w ps us→RFT (al []) hd (fun _=>false) w (ps.map .d) us:=by
   intro ps
   induction ps with
   | nil=>intro us h; simpa only [RT,List.map_nil,RFT] using h
   | cons p ps ih =>
    intro us h
    simp only [RT] at h
    obtain ⟨v,r,e,h1,h3⟩:=h
    simp only [List.map_cons,RFT]
    exact ⟨v,r,e,by simpa only [RF] using h1,ih r h3⟩
  exact go ps us hx
 refine (hret.2 c1 hd us S1 hargs).mono fun e w2 ⟨v,ow2,hd2,he,k2,S2,_,hr⟩=>?_
 let hd3:Nat→Value:=fun l=>match idx l τ with | some j=>hd2 j | none=>hd l
 have hd3τ:∀ j l,τ[j]?=some l→hd3 l=hd2 j:=by
  intro j l hj
  obtain ⟨i,hi⟩:=idx_of_get (List.mem_of_getElem? hj)
  have:=nodup_nat h2 hj (idx_get hi)
  subst this
  show (match idx l τ with | some j=>hd2 j | none=>hd l)=hd2 j
  rw [hi]
 have hd3n:∀ l,l ∉ τ→hd3 l=hd l:=by
  intro l hl
  show (match idx l τ with | some j=>hd2 j | none=>hd l)=hd l
  cases hq:idx l τ with
  | none=>rfl
  | some j=>exact absurd (List.mem_of_getElem? (idx_get hq)) hl
 let ow3:Nat→Bool:=fun b=>if b<w.heap.size then ow b else ow2 b
 have hold3:∀ b,b<w.heap.size→ow3 b=ow b:=fun b hb=>if_pos hb
 have hblk:∀ b,b<w.heap.size→w2.heap[b]?=w.heap[b]?:=fun b hb=>S2.below.block b hb rfl
 have hKp:Kp ow w ow3 w2:=⟨S2.below.size,fun b hb h=>by rw [hold3 b hb]; exact h,fun b hb _=>hblk b hb⟩
 have hsz:=S.below.size
 have hnewb:∀ b,c1.New b→w.heap.size≤b:=by
  intro b hb
  rcases hb with hb | hb
  ·exact hb
  ·cases hb
 have hnew:∀ b,c1.New b→w0.New b:=fun b hb=>.inl (Nat.le_trans hsz (hnewb b hb))
 have how3:∀ b,w.heap.size≤b→ow3 b=ow2 b:=fun b hb=>if_neg (Nat.not_lt.2 hb)
 have hok:∀ o,CleanO o→okH o=true:=by intro o ho; cases o <;> simp_all [CleanO,okH]
 have halτ:∀ j,al m2 j=true→al (updM st.m (zipO τ τ m2)) (τ.getD j 0)=true∧hd3 (τ.getD j 0)=hd2 j:=by
  intro j hj
  unfold al at hj
  cases hq:m2[j]? with
  | none=>simp [hq] at hj
  | some o =>
   have hlt:j<τ.length:=by rw [hτl]; exact (List.getElem?_eq_some_iff.1 hq).1
   have hg:τ[j]?=some (τ.getD j 0):=by rw [List.getD_eq_getElem?_getD,List.getElem?_eq_getElem hlt]; rfl
   refine ⟨?_,hd3τ j _ hg⟩
   unfold al
   rw [(hupd _).1 j hg,hq]
   have:=hok o (h6 o (List.mem_of_getElem? hq))
   cases o <;> simp [okH] at this <;> rfl
 have ha:∀ j,al st.m j=true→al (updM st.m (zipO τ τ m2)) j=true∧hd3 j=hd j:=by
  intro j hj
  by_cases hmem:j∈τ
  ·obtain ⟨i,hi⟩:=List.mem_iff_getElem?.1 hmem
   have hilt:i<m2.length:=by rw [← hτl]; exact (List.getElem?_eq_some_iff.1 hi).1
   have:=hτn i hilt
   rw [hi] at this
   simp at this
   have hf:=h5 i hilt
   rw [← this] at hf
   simp [al,hf,PO.made] at hj
  ·refine ⟨?_,hd3n j hmem⟩
   unfold al at hj ⊢
   rw [(hupd j).2 hmem]; exact hj
 have hback:∀ (l:Nat) (o:PO),(updM st.m (zipO τ τ m2))[l]?=some o→(∃ (j:Nat) (o2:PO),τ[j]?=some l∧m2[j]?=some o2∧o=mapO τ o2)∨(l ∉ τ∧st.m[l]?=some o):=by
  intro l o hl
  by_cases hmem:l∈τ
  ·obtain ⟨i,hi⟩:=List.mem_iff_getElem?.1 hmem
   rw [(hupd l).1 i hi] at hl
   cases hq:m2[i]? with
   | none=>simp [hq] at hl
   | some o2=>simp [hq] at hl; exact .inl ⟨i,o2,hi,hq,hl.symm⟩
  ·rw [(hupd l).2 hmem] at hl
   exact .inr ⟨hmem,hl⟩
 have hlvO:∀ o:PO,(mapO τ o).live=o.live:=by intro o; cases o <;> rfl
 have hother:∀ l o b,st.m[l]?=some o→o.live=true→b∈blocksOf (hd l)→b<w.heap.size:=fun l o b ho hlv hb=>((S.objs l o ho).lt hlv b hb).1
 have hnewO:∀ j o2 b,m2[j]?=some o2→o2.live=true→b∈blocksOf (hd2 j)→w.heap.size≤b:=fun j o2 b hj hlv hb=>hnewb b ((S2.objs j o2 hj).lt hlv b hb).2.1
 have S3:SimH w0 (updM st.m (zipO τ τ m2)) w2 ow3 hd3:=by
  refine ⟨S.below.trans ⟨S2.below.os,S2.below.tape,S2.below.output,S2.below.size,fun k hk hn=>hblk k (Nat.lt_of_lt_of_le hk hsz)⟩,fun b hb=>?_,fun l o hl=>?_,?_⟩
  ·rw [how3 b (Nat.le_trans S2.below.size hb)]; exact S2.fresh b hb
  ·rcases hback l o hl with ⟨j,o2,hj,hj2,rfl⟩ | ⟨hmem,hl'⟩
   ·have ho:=S2.objs j o2 hj2
    have hcl:=h6 o2 (List.mem_of_getElem? hj2)
    rw [hd3τ j l hj]
    cases o2 with
    | none=>trivial
    | row ty sz xs =>
     obtain ⟨cells,g1,g2,g3⟩:=ho
     exact ⟨cells,g1,fun b hb=>⟨hnew b (g2 b hb).1,by rw [how3 b (hnewb b (g2 b hb).1)]; exact (g2 b hb).2⟩,RE_flat hcl g3⟩
    | cu q fs =>
     obtain ⟨g1,vs',g2,g3⟩:=ho
     exact ⟨fun b hb=>⟨hnew b (g1 b hb).1,by rw [how3 b (hnewb b (g1 b hb).1)]; exact (g1 b hb).2⟩,vs',RFL.mapF halτ _ _ (RFL_flat hcl.1 g2),hcl.2 _ _ _ _ _ g3⟩
    | free=>exact hcl.elim
    | gh=>exact hcl.elim
    | box=>exact hcl.elim
   ·rw [hd3n l hmem]
    refine (S.objs l o hl').kp hKp ha fun b hb hlv=>?_
    have q1:=hother l o b hl' hlv hb
    exact ⟨hblk b q1,hold3 b q1⟩
  ·intro l l' o o' b hne hl hl' hlv hlv' hb hb'
   rcases hback l o hl with ⟨j,o2,hj,hj2,rfl⟩ | ⟨hmem,hl1⟩
   ·rw [hd3τ j l hj] at hb
    rw [hlvO] at hlv
    rcases hback l' o' hl' with ⟨j',o2',hj',hj2',rfl⟩ | ⟨hmem',hl1'⟩
    ·rw [hd3τ j' l' hj'] at hb'
     rw [hlvO] at hlv'
     exact S2.dist j j' o2 o2' b (fun e=>by subst e; rw [hj] at hj'; cases hj'; exact hne rfl) hj2 hj2' hlv hlv' hb hb'
    ·rw [hd3n l' hmem'] at hb'
     have q1:=hother l' o' b hl1' hlv' hb'
     have q2:=hnewO j o2 b hj2 hlv hb
     omega
   ·rw [hd3n l hmem] at hb
    rcases hback l' o' hl' with ⟨j',o2',hj',hj2',rfl⟩ | ⟨hmem',hl1'⟩
    ·rw [hd3τ j' l' hj'] at hb'
     rw [hlvO] at hlv'
     have q1:=hother l o b hl1 hlv hb
     have q2:=hnewO j' o2' b hj2' hlv' hb'
     omega
    ·rw [hd3n l' hmem'] at hb'
     exact S.dist l l' o o' b hne hl1 hl1' hlv hlv' hb hb'
 exact ⟨v,ow3,hd3,he,hold.step fun b hb hn=>hold3 b (Nat.lt_of_lt_of_le hb hsz),{ S3 with defers:=S.defers,size:=S.size,slots:=fun i=>RF.mono hKp ha _ _ (S.slots i) },RF.mapF halτ _ _ (hr0 _ _ _ _ _ _ hr)⟩
end
end Go.Proofs.YtocchemnfpnmeaaDoor.pv
namespace Go.Proofs.YtocchemnfpnmeaaDoor.pv
set_option linter.all false
open Go.RowKit
section
variable {P:Program} {T:List TI} {n:Nat} {w0:Cx} {st:PS} {a:Act} {w:World} {ow:Nat→Bool} {hd:Nat→Value}
theorem copied {f:Operand} {args:Array Operand} {tys:Array Nat} {x:FV} {g:FuncId} {l e s e' s' nl:Nat} {xs ys rs:List PV} (hx:∀ (n:Nat) (w0:Cx) (st:PS) (a:Act) (w:World) (ow:Nat→Bool) (hd:Nat→Value) (u:Value),SimW n w0 st a w ow hd→st.m[l]?=some (.row e s xs)→RF (al st.m) hd ow w x u→R (fun _=>false) w (.sl ys) u)
  (hret:RetH P g [.d (.sl ys)] [] (.srf 0) [.row e' s' rs]) (hfl:rs.all flat=true):Ext P T (.call ⟨.value f,args,tys⟩) [.d (.clo g []),x] [(l,.row e s xs),(nl,.free)] (.srf nl) [(nl,.row e' s' rs)]:=by
 intro n w0 st a w o hT hS ho hn hvs hm K Q hK
 obtain ⟨ow,hd,hold,S⟩:=hS
 obtain ⟨d,op,tyo,pos,af,gd⟩:=o
 simp only at ho hn hK
 subst ho
 have hml:=hm (l,.row e s xs) (by simp)
 have hnl:=hm (nl,.free) (by simp)
 simp only at hml hnl
 have hρ':ev st.f f::args.toList.map (ev st.f)=[.d (.clo g []),x]:=by
  rw [← hvs]; simp [Op.operands,Call.operands]
 obtain ⟨e1,e2⟩:=List.cons.inj hρ'
 have h1:=S.eval f
 rw [e1] at h1
 simp only [RF,R] at h1
 obtain ⟨us,hc1,hc2⟩:=h1
 simp only [RL] at hc2
 subst hc2
 obtain ⟨y,rfl⟩:∃ y,args=#[y]:=by
  have:args.toList.length=1:=by simpa using congrArg List.length e2
  cases hq:args.toList with
  | nil=>rw [hq] at this; simp at this
  | cons y r =>
   rw [hq] at this
   have:r=[]:=by cases r with | nil=>rfl | cons _ _=>simp at this
   subst this
   exact ⟨y,by apply Array.toList_inj.1; simpa using hq⟩
 simp at e2
 have h3:RT (fun _=>false) w [.sl ys] [a.eval y]:=by
  simp only [RT]
  exact ⟨_,[],rfl,hx n w0 st a w ow hd _ S hml (by rw [← e2]; exact S.eval y),rfl⟩
 unfold Oper.wp
 rw [run_call hc1 hret.1]
 show Calls P g (#[y].map a.eval++#[]) w _
 have harr:#[y].map a.eval++#[]=[a.eval y].toArray:=by simp
 rw [harr]
 refine (S.callN (τ:=[nl]) (nl:=nl) (m2:=[.row e' s' rs]) (r:=.srf 0) hold h3 rfl (by simp) (fun k hk=>by simp at hk; subst hk; exact hnl) ?_ (fun A hd ow ow' w v h=>by simpa only [RF] using h) hret).mono fun e w' ⟨v,ow',hd',he,hold',S',hr⟩=>?_
 ·intro o ho
  simp at ho
  subst ho
  exact hfl
 subst he
 exact hK _ _ ⟨ow',hd',hold',S'.put hn hr⟩
theorem cwhole {f:Operand} {args:Array Operand} {tys:Array Nat} {g:FuncId} {l e s e' s' nl:Nat} {xs rs:List PV} (hret:RetH P g [.d (.sl xs)] [] (.srf 0) [.row e' s' rs]) (hfl:rs.all flat=true) :
  Ext P T (.call ⟨.value f,args,tys⟩) [.d (.clo g []),.srf l] [(l,.row e s xs),(nl,.free)] (.srf nl) [(nl,.row e' s' rs)] :=
 copied (fun n w0 st a w ow hd u S hm hx=>by
  simp only [RF] at hx
  obtain ⟨cells,r1,r2,r3⟩:=S.objs l _ hm
  rw [hx.2.1]
  exact own_R r1 r3 ⟨Nat.le_refl _,fun _ _ _=>rfl,fun _ _ _=>rfl⟩ fun _ _=>rfl) hret hfl
theorem flat_map {α:Type} {f:α→PV} (l:List α) (h:∀ x,flat (f x)=true):(l.map f).all flat=true:=by
 rw [List.all_eq_true]
 intro x hx
 obtain ⟨y,_,rfl⟩:=List.mem_map.1 hx
 exact h y
end
end Go.Proofs.YtocchemnfpnmeaaDoor.pv
