/- Custom private objects and their acts. -/
import Derived.Test.YtgdhhaddfllkaaaQk
import Derived.ArgAppend
import Derived.Test.YtgdhhaddfllkaaaQo
import Derived.Lib.AppendZerosOnto
import Derived.Lib.Overlaps
import Derived.Laws.BytesString
import Derived.Laws.Cells
import Derived.Laws.Pointers
import Derived.Lib.ConvBytes
import Derived.Test.YtgdhhaddfllkaaaHelp
import Derived.Laws.AppendOwn
import Derived.Test.YtgdhhaddfllkaaaQp
import Derived.MapKept
import Derived.DeepKeys3
import Derived.Maps.RangeRun
namespace Go.Proofs.Ytgdhhaddfllkaaa.pv
set_option linter.all false
open Go.RowKit
theorem addr_add0 (b k:Nat):(⟨b,0,none⟩:Addr).add k=⟨b,k,none⟩:=by unfold Addr.add; split <;> simp_all
section
variable {P:Program} {T:List TI} {n:Nat} {w0:Cx} {st:PS} {a:Act} {w:World} {ow:Nat→Bool} {hd:Nat→Value}
theorem SimW.putEls (S:SimW n w0 st a w ow hd) {l e s i b N cap:Nat} {xs ys:List PV} {news:List Value} (hm:st.m[l]?=some (.row e s xs)) (hh:hd l=.slice (some ⟨b,0,none⟩) N cap) (hi:i+ys.length≤xs.length) (hr:RE ow w s ys news) :
  w.there b (i*s) news.length∧N=xs.length∧xs.length≤cap∧(∃ cur:Array Value,w.heap[b]?=some (.cells cur e (0,0))∧cur.size=cap*s∧RE ow w s xs (cur.toList.take (xs.length*s))) ∧
   SimW n w0 ⟨st.f,st.m.set l (.row e s (xs.take i++ys++xs.drop (i+ys.length)))⟩ a (w.setCells b (i*s) news) ow hd:=by
 obtain ⟨cells,⟨g1,g2⟩,h4,h5⟩:=S.objs l _ hm
 rcases g2 with ⟨g2,_⟩ | ⟨g,cap',cur,g2,g3,g4,g5,g6,g7,g8⟩
 ·rw [hh] at g2; simp at g2
 rw [hh] at g2
 simp at g2
 obtain ⟨rfl,rfl,rfl⟩:=g2
 obtain ⟨e3,e4⟩:=h4 b (by rw [hh]; first | rfl | simp [blocksOf,blockOf])
 have hnl:=hr.length
 have hmul:i*s+ys.length*s≤xs.length*s:=by rw [← Nat.add_mul]; exact Nat.mul_le_mul_right _ hi
 have hmul2:xs.length*s≤cap*s:=Nat.mul_le_mul_right _ g5
 obtain ⟨cur',q1,q2,q3⟩:=setCells_block b e (0,0) news (i*s) w cur g4 (by omega)
 have ho:=fun j hj=>setCells_other b news (i*s) w j hj
 have hkp:Kp ow w ow (w.setCells b (i*s) news):=⟨by rw [setCells_size]; exact Nat.le_refl _,fun _ _ h=>h,fun j _ hj=>ho j (fun e=>by rw [e,e4] at hj; cases hj)⟩
 refine ⟨there_of_block g4 (by omega),rfl,g5,⟨cur,g4,g7,by rw [g8]; exact h5⟩,?_⟩
 have hlen:(xs.take i++ys++xs.drop (i+ys.length)).length=xs.length:=by simp; omega
 have hcl:cells.length=xs.length*s:=g1
 have hcur:cur.toList.length=cap*s:=by simpa using g7
 refine S.set (o':=.row e s _) hm rfl rfl (b:=b) (by rw [hh]; first | rfl | simp [blocksOf,blockOf]) ho (setCells_size b _ _ w) (Kt.of_one (setCells_below b _ (Nat.le_refl _) _ _ w) e3 ho)
  ⟨cells.take (i*s)++news++cells.drop ((i+ys.length)*s),⟨?_,.inr ⟨b,cap,cur',by rw [hh,hlen],Nat.zero_le _,q1,by rw [hlen]; exact g5,g6,by rw [q3]; exact g7,?_⟩⟩,fun b' hb'=>by rw [hh] at hb'; simp [blocksOf,blockOf] at hb'; rw [hb']; exact ⟨e3,e4⟩,RE.mono hkp _ _ _ ((RE.append (RE.append (RE.take _ h5) hr) (RE.drop _ h5)))⟩
 ·rw [hlen]
  simp only [List.length_append,List.length_take,List.length_drop,hcl,hnl,Nat.add_mul]
  omega
 ·rw [q2,hlen,hnl,← g8,Nat.add_mul]
  apply List.ext_getElem?
  intro k
  have hl1:(List.take (i*s) cur.toList).length=i*s:=by rw [List.length_take]; omega
  have hl2:(List.take (i*s) (List.take (xs.length*s) cur.toList)).length=i*s:=by rw [List.length_take,List.length_take]; omega
  rw [List.getElem?_take]
  by_cases hk:k<xs.length*s
  ·rw [if_pos hk]
   by_cases h1:k<i*s
   ·rw [List.append_assoc,List.append_assoc,List.getElem?_append_left (by omega),List.getElem?_append_left (by omega),List.getElem?_take,List.getElem?_take,List.getElem?_take,if_pos h1,if_pos h1,if_pos hk]
   ·rw [List.append_assoc,List.append_assoc,List.getElem?_append_right (l₁:=List.take (i*s) cur.toList) (by omega),List.getElem?_append_right (l₁:=List.take (i*s) (List.take (xs.length*s) cur.toList)) (by omega),hl1,hl2]
    by_cases h2:k-i*s<news.length
    ·rw [List.getElem?_append_left h2,List.getElem?_append_left h2]
    ·rw [List.getElem?_append_right (l₂:=List.drop _ cur.toList) (by omega),List.getElem?_append_right (l₂:=List.drop _ (List.take _ cur.toList)) (by omega),List.getElem?_drop,List.getElem?_drop,List.getElem?_take,if_pos (by omega)]
  ·rw [if_neg hk]
   symm
   apply List.getElem?_eq_none
   simp only [List.length_append,List.length_take,List.length_drop,hcur,hnl]
   omega
end
end Go.Proofs.Ytgdhhaddfllkaaa.pv
namespace Go.Proofs.Ytgdhhaddfllkaaa.pv
set_option linter.all false
open Go.RowKit
def delR {α:Type} (L:List α) (i j q:Nat):List α:=L.take i++(L.take q).drop j++L.drop (i+(q-j))
def clrR {α:Type} (L:List α) (i j:Nat) (z:α):List α:=L.take i++List.replicate (j-i) z++L.drop j
def cpyR {α:Type} (L:List α) (i j:Nat) (Y:List α):List α:=L.take i++Y.take (j-i)++L.drop (i+Nat.min Y.length (j-i))
section
variable {P:Program} {T:List TI}
theorem ext_of0 {op:Op} {vs:List FV} {m0 U:List (Nat×PO)} {r:FV} (h:∀ (ρ:Operand→FV) (m:List PO),op.operands.toList.map ρ=vs→(∀ q∈m0,m[q.1]?=some q.2)→∃ nl F,PAct0 P T ρ m nl op r U F):Ext P T op vs m0 r U:=by
 intro n w0 st a w o hT S ho hn hv hm K Q hK
 obtain ⟨nl,F,h0⟩:=h _ _ hv hm
 subst ho
 exact act0_wp hT S hn h0 hK
variable {α:Type} {f:α→PV} {L Y:List α} {t e s l i j q:Nat} {a b c:Int} {ka kb kc:IntKind} {x y lo hi mx:Operand}
theorem xs10 (h:tsl T t=some (e,s)) (c:0≤a∧a≤L.length):Ext P T (.slice t x (some lo) none none) [.srf l,.d (.v (.int ka a))] [(l,.row e s (L.map f))] (.ssl l a.toNat L.length s) [] :=
 ext_of0 fun ρ m hv hm=>by
  simp [Op.operands] at hv
  have:=PAct0.sliceS (P:=P) (T:=T) (ρ:=ρ) (m:=m) (nl:=0) t x (some lo) none e s l (L.map f) a L.length h hv.1 (hm (l,.row e s (L.map f)) (by simp)) (by simp [optInt,hv.2]) (by simp [optInt]) c.1 c.2 (by simp)
  exact ⟨_,_,by simpa using this⟩
theorem xs11 (h:tsl T t=some (e,s)) (c:0≤a∧a≤b∧b≤L.length):Ext P T (.slice t x (some lo) (some hi) none) [.srf l,.d (.v (.int ka a)),.d (.v (.int kb b))] [(l,.row e s (L.map f))] (.ssl l a.toNat b.toNat s) [] :=
 ext_of0 fun ρ m hv hm=>by
  simp [Op.operands] at hv
  have:=PAct0.sliceS (P:=P) (T:=T) (ρ:=ρ) (m:=m) (nl:=0) t x (some lo) (some hi) e s l (L.map f) a b h hv.1 (hm (l,.row e s (L.map f)) (by simp)) (by simp [optInt,hv.2.1]) (by simp [optInt,hv.2.2]) c.1 c.2.1 (by simpa using c.2.2)
  exact ⟨_,_,this⟩
theorem xlen (h:tsl T t=some (e,s)):Ext P T (.call ⟨.builtin .len,#[x],#[t]⟩) [.ssl l i j s] [] (.d (.v (.int .i64 ((j-i:Nat):Int)))) [] :=
 ext_of0 fun ρ m hv hm=>by
  simp [Op.operands,Call.operands] at hv
  exact ⟨0,_,.lenSS t x e s l i j h hv⟩
end
section
variable {P:Program} {T:List TI} {n:Nat} {w0:Cx} {st:PS} {a:Act} {w:World} {ow:Nat→Bool} {hd:Nat→Value}
def Src (ow:Nat→Bool) (w:World) (s:Nat) (v:Value) (ys:List PV):Prop :=
 ∃ (ad:Option Addr) (cap:Nat),v=.slice ad ys.length cap∧(ys=[]∨∃ (b off:Nat) (cells:List Value),ad=some ⟨b,off,none⟩∧w.rangeAt b off cells∧RE ow w s ys cells)
theorem addr_add (b o k:Nat):(⟨b,o,none⟩:Addr).add k=⟨b,o+k,none⟩:=by unfold Addr.add; split <;> simp_all
theorem rangeAt_take {b off k:Nat} {cells:List Value} (h:w.rangeAt b off cells):w.rangeAt b off (cells.take k):=fun j v hv=>by
 rw [List.getElem?_take] at hv
 split at hv
 ·exact h j v hv
 ·cases hv
theorem copy_core (hT:TOk P T) (S:SimW n w0 st a w ow hd) {t t' e s l i j:Nat} {ti:TI} {xs ys:List PV} {x y:Operand} (h1:tsl T t=some (e,s)) (h2:T[e]?=some ti) (hx:RF (al st.m) hd ow w (.ssl l i j s) (a.eval x)) (hml:st.m[l]?=some (.row e s xs)) (hj:j≤xs.length) (hsrc:Src ow w s (a.eval y) ys) (ty:TypeId) :
  ∃ w',(Builtin.copy_ #[t,t'] ty #[a.eval x,a.eval y]).run P w=.ok (.int .i64 (Nat.min ys.length (j-i):Nat)) w' ∧
   SimW n w0 ⟨st.f,st.m.set l (.row e s (xs.take i++ys.take (j-i)++xs.drop (i+Nat.min ys.length (j-i))))⟩ a w' ow hd:=by
 obtain ⟨i',dd,e1,e2,e3,e4,e5,e6⟩:=hT.info h2
 obtain ⟨hu,hs⟩:=tsl_und hT h1
 have hsi:=tsz_info hT hs
 rw [e1] at hsi
 simp at hsi
 simp only [RF] at hx
 obtain ⟨hA,ad,N,cap,x1,x2,x3,x4⟩:=hx
 obtain ⟨adS,capS,y1,y2⟩:=hsrc
 have hmin:Nat.min ys.length (j-i)≤ys.length:=Nat.min_le_left _ _
 have hmin2:Nat.min ys.length (j-i)≤j-i:=Nat.min_le_right _ _
 have htk:ys.take (j-i)=ys.take (Nat.min ys.length (j-i)):=by
  rcases Nat.le_total ys.length (j-i) with h | h
  ·rw [show Nat.min ys.length (j-i)=ys.length from Nat.min_eq_left h,List.take_length,List.take_of_length_le h]
  ·rw [show Nat.min ys.length (j-i)=j-i from Nat.min_eq_right h]
 have hlen:(ys.take (Nat.min ys.length (j-i))).length=Nat.min ys.length (j-i):=by rw [List.length_take]; exact Nat.min_eq_left hmin
 rw [htk]
 generalize hm:Nat.min ys.length (j-i)=m at *
 have hfc:∃ news:List Value,(∀ n' c',(Builtin.firstCells i'.size m (.slice adS n' c')).run P w=.ok news.toArray w)∧RE ow w s (ys.take m) news:=by
  rcases y2 with rfl | ⟨b,off,cells,rfl,g1,g2⟩
  ·have:m=0:=by simpa using hmin
   subst this
   refine ⟨[],fun n' c'=>?_,by simp [RE]⟩
   cases adS with
   | none=>simp [Builtin.firstCells]
   | some ad=>simpa using run_firstCells_some (P:=P) w i'.size 0 ad n' c' [] (by simp) (by simp)
  ·have g3:=RE.take m g2
   refine ⟨cells.take (m*s),fun n' c'=>run_firstCells_some (P:=P) w i'.size m _ n' c' _ (by rw [g3.length,hsi,List.length_take,Nat.min_eq_left hmin]) (fun k u hk=>?_),g3⟩
   rw [addr_add]
   exact rangeAt_take g1 k u hk
 obtain ⟨news,f1,f2⟩:=hfc
 have hnl:=f2.length
 rw [hlen] at hnl
 obtain ⟨cells,⟨g1,g2⟩,h4,h5⟩:=S.objs l _ hml
 rcases g2 with ⟨g2,g3⟩ | ⟨b,cap',cur,g2,g3,g4,g5,g6,g7,g8⟩
 ·rw [x1] at g2
  simp at g2
  obtain ⟨rfl,rfl,rfl⟩:=g2
  have hi0:i=0:=by omega
  have hj0:j=0:=by omega
  subst hi0 hj0
  have hm0:m=0:=by omega
  subst hm0
  have hn0:news=[]:=List.eq_nil_of_length_eq_zero (by simpa using hnl)
  subst hn0
  refine ⟨w,?_,?_⟩
  ·simp only [x4,y1]
   simp [Builtin.copy_,run_underlying hu,Builtin.lenOf,sizeOf,typeInfo,e1,hm,f1,goInt]
  ·have e0:st.m.set l (.row e s (xs.take 0++ys.take 0++xs.drop (0+0)))=st.m:=by
    apply List.ext_getElem?
    intro k
    rw [List.getElem?_set]
    split
    ·rename_i hk; subst hk
     rw [hml,if_pos (List.getElem?_eq_some_iff.1 hml).1]
     simp
    ·rfl
   rw [e0]
   exact S
 ·rw [x1] at g2
  simp at g2
  obtain ⟨rfl,rfl,rfl⟩:=g2
  obtain ⟨p1,p2,p3,_,S'⟩:=S.putEls (i:=i) hml x1 (by rw [hlen]; omega) f2
  rw [hlen] at S'
  have hst:=run_storeCells_cells (P:=P) b (i*s) news 0 w (fun k hk=>by rw [Nat.add_zero]; exact (p1 k hk).1) (fun k hk=>by rw [Nat.add_zero]; exact (p1 k hk).2) (RE.one f2)
  rw [Nat.add_zero] at hst
  refine ⟨_,?_,S'⟩
  by_cases hc:cap=i
  ·have hm0:m=0:=by omega
   subst hm0
   have hn0:news=[]:=List.eq_nil_of_length_eq_zero (by simpa using hnl)
   subst hn0
   have hji:j-i=0:=by omega
   simp only [x4,y1,if_pos hc]
   rw [hji] at hm ⊢
   simp [Builtin.copy_,run_underlying hu,Builtin.lenOf,sizeOf,typeInfo,e1,hm,f1,goInt,storeCells,World.setCells]
  ·simp only [x4,y1,if_neg hc,Option.map_some,addr_add0]
   simp [Builtin.copy_,run_underlying hu,Builtin.lenOf,sizeOf,typeInfo,e1,hm,f1,goInt,hst]
theorem Src.of_els {s:Nat} (S:SimW n w0 st a w ow hd) {y:Operand} {ys:List PV} {ls:List Nat} (h:Els st.m (ev st.f y) ys ls) (hf:ys.all (fits s)=true):Src ow w s (a.eval y) ys:=by
 obtain ⟨ad,cap,y1,y2⟩:=h.spec S
 refine ⟨ad,cap,y1,?_⟩
 rcases y2 with rfl | ⟨b,off,sz,cells,k1,k2,k3⟩
 ·exact .inl rfl
 ·exact .inr ⟨b,off,cells,k1,k2,RE.resize k3 hf⟩
end
section
variable {P:Program} {T:List TI} {α:Type} {f:α→PV} {L Y:List α} {t t' e e' s l l' i j p q:Nat} {x y:Operand} {ti:TI}
theorem srf_ssl {n:Nat} {w0:Cx} {st:PS} {a:Act} {w:World} {ow:Nat→Bool} {hd:Nat→Value} (S:SimW n w0 st a w ow hd) {xs:List PV} {u:Value} (hx:RF (al st.m) hd ow w (.srf l) u) (hml:st.m[l]?=some (.row e s xs)):RF (al st.m) hd ow w (.ssl l 0 xs.length s) u:=by
 simp only [RF] at hx ⊢
 obtain ⟨h1,h2,_⟩:=hx
 obtain ⟨cells,⟨g1,g2⟩,_⟩:=S.objs l _ hml
 rcases g2 with ⟨g2,g3⟩ | ⟨b,cap,cur,g2,g3,g4,g5,g6,g7,g8⟩
 ·exact ⟨h1,none,0,0,g2,Nat.zero_le _,by omega,by rw [h2,g2,g3]; rfl⟩
 ·exact ⟨h1,some ⟨b,0,none⟩,xs.length,cap,g2,Nat.zero_le _,g5,by rw [h2,g2]; simp [Addr.add]⟩
theorem ext_copy {vs:List FV} {m0:List (Nat×PO)} {xs ys:List PV} (h1:tsl T t=some (e,s)) (h2:T[e]?=some ti) (hj:j≤xs.length) (hm0:(l,.row e s xs)∈m0) (fy:FV) (hvs:vs=[.ssl l i j s,fy]∨vs=[.srf l,fy]∧i=0∧j=xs.length)
  (hs:∀ (n:Nat) (w0:Cx) (st:PS) (a:Act) (w:World) (ow:Nat→Bool) (hd:Nat→Value),SimW n w0 st a w ow hd→ev st.f y=fy→(∀ q∈m0,st.m[q.1]?=some q.2)→Src ow w s (a.eval y) ys) :
  Ext P T (.call ⟨.builtin .copy,#[x,y],#[t,t']⟩) vs m0 (.d (.v (.int .i64 (Nat.min ys.length (j-i):Nat)))) [(l,.row e s (xs.take i++ys.take (j-i)++xs.drop (i+Nat.min ys.length (j-i))))]:=by
 intro n w0 st a w o hT hS ho hn hv hm K Q hK
 obtain ⟨ow,hd,hold,S⟩:=hS
 obtain ⟨d,op,ty,pos,af,gd⟩:=o
 simp only at ho hn hK
 subst ho
 have hml:=hm _ hm0
 obtain ⟨hv1,hv2⟩:RF (al st.m) hd ow w (.ssl l i j s) (a.eval x)∧ev st.f y=fy:=by
  rcases hvs with hvs | ⟨hvs,rfl,rfl⟩
  ·subst hvs
   simp [Op.operands,Call.operands] at hv
   exact ⟨by rw [← hv.1]; exact S.eval x,hv.2⟩
  ·subst hvs
   simp [Op.operands,Call.operands] at hv
   refine ⟨srf_ssl S ?_ hml,hv.2⟩
   rw [← hv.1]; exact S.eval x
 obtain ⟨w',r1,S'⟩:=copy_core hT S (x:=x) (y:=y) (t':=t') h1 h2 hv1 hml hj (hs _ _ _ _ _ _ _ S hv2 hm) ty
 have hrun:(execOp a.eval ⟨d,.call ⟨.builtin .copy,#[x,y],#[t,t']⟩,ty,pos,af,gd⟩).run P w=.ok (.value (.int .i64 (Nat.min ys.length (j-i):Nat))) w':=by
  simp [execOp,resolve,invoke,builtin,r1]
 unfold Oper.wp
 rw [hrun]
 exact hK _ _ ⟨ow,hd,hold,S'.put hn (x:=.d (.v _)) (by simp only [RF,R]; exact ⟨trivial,rfl⟩)⟩
theorem xcpD (h1:tsl T t=some (e,s)) (h2:T[e]?=some ti) (hj:j≤L.length) (hf:∀ x,fits s (f x)=true) :
  Ext P T (.call ⟨.builtin .copy,#[x,y],#[t,t']⟩) [.ssl l i j s,.d (.sl (Y.map f))] [(l,.row e s (L.map f))] (.d (.v (.int .i64 (Nat.min Y.length (j-i):Nat)))) [(l,.row e s ((cpyR L i j Y).map f))]:=by
 have:=ext_copy (P:=P) (T:=T) (t':=t') (x:=x) (y:=y) (l:=l) (i:=i) (j:=j) (xs:=L.map f) (ys:=Y.map f) (m0:=[(l,.row e s (L.map f))]) h1 h2 (by simpa using hj) (by simp) _ (.inl rfl)
  (fun n w0 st a w ow hd S hy _=>Src.of_els S (by rw [hy]; exact .sl _) (all_fits hf))
 simpa [cpyR,List.map_take,List.map_drop] using this
theorem xcpR0 (h1:tsl T t=some (e,s)) (h2:T[e]?=some ti) (hf:∀ x,fits s (f x)=true) :
  Ext P T (.call ⟨.builtin .copy,#[x,y],#[t,t']⟩) [.srf l,.srf l'] [(l,.row e s (L.map f)),(l',.row e s (Y.map f))] (.d (.v (.int .i64 (Nat.min Y.length (L.length-0):Nat)))) [(l,.row e s ((cpyR L 0 L.length Y).map f))]:=by
 have:=ext_copy (P:=P) (T:=T) (t':=t') (x:=x) (y:=y) (l:=l) (i:=0) (j:=(L.map f).length) (xs:=L.map f) (ys:=Y.map f) (m0:=[(l,.row e s (L.map f)),(l',.row e s (Y.map f))]) h1 h2 (Nat.le_refl _) (by simp) _ (.inr ⟨rfl,rfl,rfl⟩)
  (fun n w0 st a w ow hd S hy hm=>Src.of_els S (by rw [hy]; exact .row _ _ _ _ (hm (l',.row e s (Y.map f)) (by simp))) (all_fits hf))
 simpa [cpyR,List.map_take,List.map_drop] using this
end
end Go.Proofs.Ytgdhhaddfllkaaa.pv
namespace Go.Proofs.Ytgdhhaddfllkaaa.pv
set_option linter.all false
open Go.RowKit
section
variable {P:Program} {T:List TI} {n:Nat} {w0:Cx} {st:PS} {a:Act} {w:World} {ow:Nat→Bool} {hd:Nat→Value}
variable {α:Type} {f:α→PV} {Y Z:List α} {t e s l' b:Nat} {ti:TI} {x y:Operand}
end
end Go.Proofs.Ytgdhhaddfllkaaa.pv
namespace Go.Proofs.Ytgdhhaddfllkaaa.pv
set_option linter.all false
open Go.RowKit
def capOf:Value→Nat
 | .slice _ _ c=>c
 | _=>0
def rowCI (e s C:Nat) (xs:List PV) (ow:Nat→Bool) (w:World) (h:Value):Prop:=∃ cells,w.ownsRow 0 e s h xs.length cells∧RE ow w s xs cells∧capOf h=C
def rowC (e s C:Nat) (xs:List PV):Cust where
 I:=fun ow w h _=>rowCI e s C xs ow w h
 lt:=by
  rintro ow w h vs ⟨cells,⟨_,h2⟩,_,_⟩ b hb
  rcases h2 with ⟨h2,_⟩ | ⟨g,cap,cur,h2,_,h4,_⟩
  ·rw [h2] at hb; simp [blocksOf,blockOf] at hb
  ·rw [h2] at hb; simp [blocksOf,blockOf] at hb; subst hb; exact (Array.getElem?_eq_some_iff.1 h4).1
 kp:=by
  rintro ow ow' w w' h vs k hb ⟨cells,h1,h2,h3⟩
  exact ⟨cells,ownsRow_kept h1 fun b e=>(hb b e).1,RE.mono k _ _ _ h2,h3⟩
 one:=by
  rintro ow w h vs ⟨cells,⟨_,h2⟩,_,_⟩
  rcases h2 with ⟨h2,_⟩ | ⟨g,cap,cur,h2,_,h4,_⟩
  ·rw [h2]; rfl
  ·rw [h2]; rfl
def rowHI (e s C:Nat) (xs:List PV) (m:Nat) (ys:List PV) (ow:Nat→Bool) (w:World) (h:Value):Prop :=
 ∃ (g:Nat) (cur:Array Value) (n:Nat),h=.slice (some ⟨g,0,none⟩) n C∧w.heap[g]?=some (.cells cur e (0,0))∧C≤maxLen∧cur.size=C*s∧xs.length+m+ys.length≤C ∧
  RE ow w s xs (cur.toList.take (xs.length*s))∧RE ow w s ys ((cur.toList.drop ((xs.length+m)*s)).take (ys.length*s))
def rowH (e s C:Nat) (xs:List PV) (m:Nat) (ys:List PV):Cust where
 I:=fun ow w h _=>rowHI e s C xs m ys ow w h
 lt:=by
  rintro ow w h vs ⟨g,cur,n,h1,h2,_⟩ b hb
  rw [h1] at hb; simp [blocksOf,blockOf] at hb; subst hb; exact (Array.getElem?_eq_some_iff.1 h2).1
 kp:=by
  rintro ow ow' w w' h vs k hb ⟨g,cur,n,h1,h2,h3,h4,h5,h6,h7⟩
  exact ⟨g,cur,n,h1,by rw [(hb g (by rw [h1]; first | rfl | simp [blocksOf,blockOf])).1]; exact h2,h3,h4,h5,RE.mono k _ _ _ h6,RE.mono k _ _ _ h7⟩
 one:=by
  rintro ow w h vs ⟨g,cur,n,h1,_⟩
  rw [h1]; rfl
section
variable {P:Program} {T:List TI} {n:Nat} {w0:Cx} {st:PS} {a:Act} {w:World} {ow:Nat→Bool} {hd:Nat→Value}
theorem updM_over:∀ (U:List (Nat×PO)) (m:List PO) (l:Nat) (o:PO),(∃ q∈U,q.1=l)→updM (m.set l o) U=updM m U
 | [],m,l,o,h=>by simp at h
 | (k,x)::U,m,l,o,h=>by
  simp only [updM]
  by_cases e:k=l
  ·subst e
   rw [List.set_set]
  ·rw [List.set_comm _ _ (fun h=>e h.symm)]
   refine updM_over U _ l o ?_
   obtain ⟨q,hq,rfl⟩:=h
   rcases List.mem_cons.1 hq with rfl | hq
   ·exact absurd rfl e
   ·exact ⟨q,hq,rfl⟩
variable {α:Type} {f:α→PV} {L Y Z:List α} {t t' e s l nl i j k m C:Nat} {A B:Int} {ka kb:IntKind} {x y lo hi:Operand} {ti:TI}
end
end Go.Proofs.Ytgdhhaddfllkaaa.pv
namespace Go.Proofs.Ytgdhhaddfllkaaa.pv
set_option linter.all false
open Go.RowKit
section
variable {P:Program} {T:List TI} {n:Nat} {w0:Cx} {st:PS} {a:Act} {w:World} {ow:Nat→Bool} {hd:Nat→Value}
theorem wp_val' {o:Oper} {a:Act} {w w':World} {v:Value} {K:Act→World→Prop} {Q:Exit→Act→World→Prop} (hrun:(execOp a.eval o).run P w=.ok (.value v) w') (h:K (a.put o.dst v) w'):o.wp P a w K Q:=by
 unfold Oper.wp; rw [hrun]; exact h
variable {α:Type} {f:α→PV} {L Y Z:List α} {t t' e s l nl i j k m C:Nat} {x y:Operand} {ti:TI}
end
section
variable {P:Program} {T:List TI} {α:Type} {f:α→PV} {L Y Z:List α} {t e s l i j k m C:Nat} {x y:Operand}
end
section
variable {P:Program} {T:List TI}
end
def insI {α:Type} (b:Nat) (s:List α) (i:Int) (v:List α):Option (List α) :=
 if 0≤i∧i≤(s.length:Int)∧s.length+v.length≤4611686018427387904∧(s.length+v.length)*b≤140737488355328 then some (s.take i.toNat++v++s.drop i.toNat) else none
end Go.Proofs.Ytgdhhaddfllkaaa.pv
namespace Go.Proofs.Ytgdhhaddfllkaaa.pv
set_option linter.all false
open Go.RowKit
section
variable {P:Program} {T:List TI}
end
end Go.Proofs.Ytgdhhaddfllkaaa.pv
namespace Go.Proofs.Ytgdhhaddfllkaaa.pv
set_option linter.all false
open Go.RowKit
def b2s (L:List Int):ByteArray:=L.foldl (fun r n=>r.push (UInt8.ofNat n.toNat)) ByteArray.empty
def catS (a b:ByteArray):Option ByteArray:=if a.size+b.size≤9223372036854775807 then some (a++b) else none
def subS (a:ByteArray) (l h:Int):Option ByteArray:=if 0≤l∧l≤h∧h≤a.size then some (a.extract l.toNat h.toNat) else none
theorem tstr_und {P:Program} {T:List TI} (h:TOk P T) {t:Nat} (ht:tk T t=some .str):P.underlying t=some .string:=by
 unfold tk at ht
 cases hq:T[t]? with
 | none=>simp [hq] at ht
 | some ti =>
  obtain ⟨i,d,h1,h2,h3,h4,h5,_⟩:=h.info hq
  simp [hq] at ht
  rw [ht] at h5
  cases d <;> simp [kOk] at h5
  exact h2
theorem RE_bytes {ow:Nat→Bool} {w:World}:∀ {L:List Int} {cells:List Value},RE ow w 1 (L.map (eI .u8)) cells→cells=L.map (Value.int .u8)
 | [],_,h=>by simpa only [List.map_nil,RE] using h
 | x::L,cells,h=>by
  simp only [List.map_cons,RE,eI,R] at h
  obtain ⟨u,r,e,h1,h2,⟨h3,_⟩,h4⟩:=h
  subst h3
  rw [e,RE_bytes h4]; rfl
section
variable {P:Program} {T:List TI} {n:Nat} {w0:Cx} {st:PS} {a:Act} {w:World} {ow:Nat→Bool} {hd:Nat→Value}
theorem ext_b2s {src dst e s:Nat} {x:Operand} {L:List Int} {fx:FV} {m0:List (Nat×PO)} (h1:tsl T src=some (e,s)) (h2:tint T e=some .u8) (h3:tk T dst=some .str)
  (hs:∀ (n:Nat) (w0:Cx) (st:PS) (a:Act) (w:World) (ow:Nat→Bool) (hd:Nat→Value),SimW n w0 st a w ow hd→ev st.f x=fx→(∀ q∈m0,st.m[q.1]?=some q.2)→Src ow w 1 (a.eval x) (L.map (eI .u8))) :
  Ext P T (.convert src dst x) [fx] m0 (.d (.v (.string (b2s L)))) []:=by
 intro n w0 st a w o hT hS ho hn hv hm K Q hK
 obtain ⟨ow,hd,hold,S⟩:=hS
 obtain ⟨d,op,ty,pos,af,gd⟩:=o
 simp only at ho hn hK
 subst ho
 simp [Op.operands] at hv
 obtain ⟨ad,cap,y1,y2⟩:=hs _ _ _ _ _ _ _ S hv hm
 have hu:=(tsl_und hT h1).1
 have hc:(Conv.bytesToString (.slice ad (L.map (eI .u8)).length cap)).run P w=.ok (.string (b2s L)) w:=by
  rcases y2 with hnil | ⟨b,off,cells,rfl,y3,y5⟩
  ·have:L=[]:=by simpa using hnil
   subst this
   cases ad with
   | none=>simp [Conv.bytesToString,b2s]
   | some ad =>
    have:=run_bytesToString (P:=P) w ad 0 cap [] (by simpa using run_loadCells_list (P:=P) (w:=w) ad [] (by simp))
    simpa [b2s] using this
  ·rw [RE_bytes y5] at y3
   have:=run_bytesToString (P:=P) w ⟨b,off,none⟩ (L.map (eI .u8)).length cap L (by
    have:=run_loadCells_list (P:=P) (w:=w) ⟨b,off,none⟩ (L.map (Value.int .u8)) (fun j v hj=>by rw [Addr.add_mid]; exact y3 j v hj)
    simpa using this)
   simpa [b2s] using this
 have hrun:(execOp a.eval ⟨d,.convert src dst x,ty,pos,af,gd⟩).run P w=.ok (.value (.string (b2s L))) w:=by
  simp only [execOp,y1]
  have:=run_convert_bytes_string (P:=P) w src dst e ad (L.map (eI .u8)).length cap hu (tint_und hT h2) (tstr_und hT h3)
  simp only [Sem.run_bind,this,hc,Result.andThen_ok,Sem.run_pure]
 exact wp_val hrun (hK _ _ ⟨ow,hd,hold,S.put hn (x:=.d (.v _)) (by simp only [RF,R]; exact ⟨trivial,rfl⟩)⟩)
theorem xb2sD {src dst e s:Nat} {x:Operand} {L:List Int} (h1:tsl T src=some (e,s)) (h2:tint T e=some .u8) (h3:tk T dst=some .str) :
  Ext P T (.convert src dst x) [.d (.sl (L.map (eI .u8)))] [] (.d (.v (.string (b2s L)))) [] :=
 ext_b2s h1 h2 h3 (fun n w0 st a w ow hd S hx _=>Src.of_els S (by rw [hx]; exact .sl _) (by simp [fits,eI,isTup,psz]))
theorem xb2sR {src dst e s l:Nat} {x:Operand} {L:List Int} (h1:tsl T src=some (e,s)) (h2:tint T e=some .u8) (h3:tk T dst=some .str) :
  Ext P T (.convert src dst x) [.srf l] [(l,.row e 1 (L.map (eI .u8)))] (.d (.v (.string (b2s L)))) [] :=
 ext_b2s h1 h2 h3 (fun n w0 st a w ow hd S hx hm=>Src.of_els S (by rw [hx]; exact .row _ _ _ _ (hm (l,.row e 1 (L.map (eI .u8))) (by simp))) (by simp [fits,eI,isTup,psz]))
theorem xcatS {t ty':Nat} {x y:Operand} {p q r:ByteArray} (h:catS p q=some r):Ext P T (.binOp .add t x y ty') [.d (.v (.string p)),.d (.v (.string q))] [] (.d (.v (.string r))) []:=by
 intro n w0 st a' w o hT hS ho hn hv hm K Q hK
 obtain ⟨ow,hd,hold,S⟩:=hS
 obtain ⟨d,op,ty,pos,af,gd⟩:=o
 simp only at ho hn hK
 subst ho
 simp [Op.operands] at hv
 obtain ⟨e1,_⟩:=S.v hv.1
 obtain ⟨e2,_⟩:=S.v hv.2
 unfold catS at h
 split at h
 ·rename_i hc
  simp at h; subst h
  have hrun:(execOp a'.eval ⟨d,.binOp .add t x y ty',ty,pos,af,gd⟩).run P w=.ok (.value (.string (p++q))) w:=by
   have h':¬ (((p.size+q.size:Nat):Int) > IntKind.i64.max):=by simp [IntKind.max,IntKind.bits,IntKind.signed]; omega
   simp [execOp,e1,e2,eqGuard,binOp,Op.stringOp]
   first
    | (rw [if_neg (by simpa using h')]; simp)
    | simp_all
  exact wp_val hrun (hK _ _ ⟨ow,hd,hold,S.put hn (x:=.d (.v _)) (by simp only [RF,R]; exact ⟨trivial,rfl⟩)⟩)
 ·cases h
theorem ext_subS {t:Nat} {x:Operand} {lo hi:Option Operand} {p r:ByteArray} {i h:Int} {vs:List FV} (ht:tk T t=some .str)
  (hq:∀ ρ:Operand→FV,(Op.slice t x lo hi none).operands.toList.map ρ=vs→ρ x=.d (.v (.string p))∧optInt ρ 0 lo=some i∧optInt ρ p.size hi=some h) (hb:subS p i h=some r) :
  Ext P T (.slice t x lo hi none) vs [] (.d (.v (.string r))) []:=by
 intro n w0 st a' w o hT hS ho hn hv hm K Q hK
 obtain ⟨ow,hd,hold,S⟩:=hS
 obtain ⟨d,op,ty,pos,af,gd⟩:=o
 simp only at ho hn hK
 subst ho
 obtain ⟨q1,h4,h5⟩:=hq _ hv
 obtain ⟨e1,_⟩:=S.v q1
 unfold subS at hb
 split at hb
 ·rename_i hc
  obtain ⟨h6,h7,h8⟩:=hc
  simp at hb; subst hb
  have hlo:(match lo.map a'.eval with | some v=>Instr.sliceBound v h.toNat .sliceB | none=>pure 0:Sem Nat).run P w=.ok i.toNat w:=by
   cases lo with
   | none=>simp [optInt] at h4; subst h4; rfl
   | some o=>exact bound_opt S h4 h6 (by omega)
  have hhi:(match hi.map a'.eval with | some v=>Instr.sliceBound v p.size .sliceAlen | none=>pure p.size:Sem Nat).run P w=.ok h.toNat w:=by
   cases hi with
   | none=>simp [optInt] at h5; subst h5; simp
   | some o=>exact bound_opt S h5 (by omega) (by omega)
  have hsb:(Instr.sliceBounds false p.size p.size (lo.map a'.eval) (hi.map a'.eval) none).run P w=.ok (i.toNat,h.toNat,p.size) w:=by
   unfold Instr.sliceBounds
   cases hl:lo.map a'.eval <;> cases hh:hi.map a'.eval <;> rw [hl] at hlo <;> rw [hh] at hhi <;> simp_all
  have hrun:(execOp a'.eval ⟨d,.slice t x lo hi none,ty,pos,af,gd⟩).run P w=.ok (.value (.string (p.extract i.toNat h.toNat))) w:=by
   simp [execOp,Instr.sliceAt,Instr.slice,run_underlying (tstr_und hT ht),e1,hsb]
  exact wp_val hrun (hK _ _ ⟨ow,hd,hold,S.put hn (x:=.d (.v _)) (by simp only [RF,R]; exact ⟨trivial,rfl⟩)⟩)
 ·cases hb
variable {t:Nat} {x lo hi:Operand} {p r:ByteArray} {i h:Int} {ka kb:IntKind}
theorem xsub01 (ht:tk T t=some .str) (hb:subS p 0 h=some r):Ext P T (.slice t x none (some hi) none) [.d (.v (.string p)),.d (.v (.int kb h))] [] (.d (.v (.string r))) [] :=
 ext_subS (h:=h) ht (fun ρ hv=>by simp [Op.operands] at hv; exact ⟨hv.1,rfl,by simp [optInt,hv.2]⟩) hb
theorem xnilP {op:BinOp} {t ty' e l off:Nat} {x y:Operand} (ho:eqlOp op=true) (ht:tptr T t=some e):Ext P T (.binOp op t x y ty') [.ref l off,.d (.v (.pointer none))] [] (.d (.v (.bool (eqRes op false)))) []:=by
 intro n w0 st a' w o hT hS ho' hn hv hm K Q hK
 obtain ⟨ow,hd,hold,S⟩:=hS
 obtain ⟨d,op',ty,pos,af,gd⟩:=o
 simp only at ho' hn hK
 subst ho'
 simp [Op.operands] at hv
 have q1:=S.eval x
 rw [hv.1] at q1
 simp only [RF] at q1
 obtain ⟨_,b,_,e1⟩:=q1
 obtain ⟨e2,_⟩:=S.v hv.2
 have hu:P.underlying t=some (.pointer (P.pointee t)):=by
  have:=tptr_und hT ht
  rw [this]; unfold Program.pointee; rw [this]
 have heq:=run_equal_pointer_nil (P:=P) w t (some ⟨b,off,none⟩) hu
 have hrun:(execOp a'.eval ⟨d,.binOp op t x y ty',ty,pos,af,gd⟩).run P w=.ok (.value (.bool (eqRes op false))) w:=by
  cases op <;> simp [eqlOp] at ho <;> simp [execOp,e1,e2,eqGuard,binOp,heq,eqRes]
 exact wp_val hrun (hK _ _ ⟨ow,hd,hold,S.put hn (x:=.d (.v _)) (by simp only [RF,R]; exact ⟨trivial,rfl⟩)⟩)
theorem xnilN {op:BinOp} {t ty' e:Nat} {x y:Operand} (ho:eqlOp op=true) (ht:tptr T t=some e):Ext P T (.binOp op t x y ty') [.d (.v (.pointer none)),.d (.v (.pointer none))] [] (.d (.v (.bool (eqRes op true)))) []:=by
 intro n w0 st a' w o hT hS ho' hn hv hm K Q hK
 obtain ⟨ow,hd,hold,S⟩:=hS
 obtain ⟨d,op',ty,pos,af,gd⟩:=o
 simp only at ho' hn hK
 subst ho'
 simp [Op.operands] at hv
 obtain ⟨e1,_⟩:=S.v hv.1
 obtain ⟨e2,_⟩:=S.v hv.2
 have hu:P.underlying t=some (.pointer (P.pointee t)):=by
  have:=tptr_und hT ht
  rw [this]; unfold Program.pointee; rw [this]
 have heq:=run_equal_pointer_nil (P:=P) w t none hu
 have hrun:(execOp a'.eval ⟨d,.binOp op t x y ty',ty,pos,af,gd⟩).run P w=.ok (.value (.bool (eqRes op true))) w:=by
  cases op <;> simp [eqlOp] at ho <;> simp [execOp,e1,e2,eqGuard,binOp,heq,eqRes]
 exact wp_val hrun (hK _ _ ⟨ow,hd,hold,S.put hn (x:=.d (.v _)) (by simp only [RF,R]; exact ⟨trivial,rfl⟩)⟩)
end
section
variable {β γ:Type} {n sz P0 o idx:Nat} {A:Fin n→β} {jj:Int} {x y:β} {g:β→List γ} {pre post zs:List γ} {c:γ}
end
end Go.Proofs.Ytgdhhaddfllkaaa.pv
namespace Go.Proofs.Ytgdhhaddfllkaaa.pv
set_option linter.all false
open Go.RowKit help
def s2b (s:ByteArray):List Int:=s.data.toList.map fun b=>(b.toNat:Int)
def s2bO (s:ByteArray):Option (List Int):=if s.size≤maxLen then some (s2b s) else none
theorem s2b_len (s:ByteArray):(s2b s).length=s.size:=by
 unfold s2b
 rw [List.length_map]
 exact Array.length_toList
theorem RE_bytes' {ow:Nat→Bool} {w:World}:∀ (L:List Int),RE ow w 1 (L.map (eI .u8)) (L.map (Value.int .u8))
 | []=>by simp only [List.map_nil,RE]
 | x::L=>by
  simp only [List.map_cons,RE,eI,R]
  exact ⟨.int .u8 x,L.map (Value.int .u8),rfl,rfl,by simp [Value.cells,Value.oneCell'],⟨rfl,rfl⟩,RE_bytes' L⟩
section
variable {P:Program} {T:List TI}
theorem xs2b {src dst e:Nat} {x:Operand} {s:ByteArray} {L:List Int} (hL:s2bO s=some L) (h1:tsl T dst=some (e,1)) (h2:tint T e=some .u8) (h3:tk T src=some .str) :
  Ext P T (.convert src dst x) [.d (.v (.string s))] [] (.d (.sl (L.map (eI .u8)))) []:=by
 unfold s2bO at hL
 by_cases hs:s.size≤maxLen
 ·rw [if_pos hs] at hL
  have hL:=Option.some.inj hL
  subst hL
  intro n w0 st a w o hT hS ho hn hv hm K Q hK
  obtain ⟨ow,hd,hold,S⟩:=hS
  obtain ⟨d,op,ty,pos,af,gd⟩:=o
  simp only at ho hn hK
  subst ho
  simp [Op.operands] at hv
  obtain ⟨ex,_⟩:=S.v hv
  have hrun:(execOp a.eval ⟨d,.convert src dst x,ty,pos,af,gd⟩).run P w=.ok (.value (.slice (some ⟨w.heap.size,0,none⟩) s.size (grownCap w s.size 0 e))) (Lib.bytesWorld w e s):=by
   simp only [execOp,ex]
   have:=Lib.run_convert_string_bytes (P:=P) w src dst e s (tstr_und hT h3) (tsl_und hT h1).1 (tint_und hT h2)
   simp only [Sem.run_bind,this,Result.andThen_ok,Sem.run_pure]
  have hbel:Below w.heap.size w (Lib.bytesWorld w e s):=⟨rfl,rfl,rfl,by rw [Lib.bytesWorld_size]; omega,fun j hj=>Lib.bytesWorld_at_old w e s j hj⟩
  unfold Oper.wp
  rw [hrun]
  refine hK _ _ ⟨ow,hd,hold,(S.later hbel).put hn (x:=.d (.sl _)) ?_⟩
  have hlen:((s2b s).map (eI .u8)).length=s.size:=by rw [List.length_map,s2b_len]
  simp only [RF,R]
  refine ⟨some ⟨w.heap.size,0,none⟩,grownCap w s.size 0 e,by rw [hlen],by rw [hlen]; exact grownCap_ge w s.size 0 e,grownCap_le_maxLen w s.size 0 e hs,.inr ⟨w.heap.size,0,1,(s2b s).map (Value.int .u8),rfl,by rw [Lib.bytesWorld_size]; omega,S.fresh _ (Nat.le_refl _),?_,RE_bytes' _⟩⟩
  intro j v hj
  have hjl:j<s.size:=by
   have:=(List.getElem?_eq_some_iff.1 hj).1
   rwa [List.length_map,s2b_len] at this
  have hc:=Lib.bytesWorld_cell w e s j hjl
  rw [Nat.zero_add,hc]
  rw [s2b,List.map_map,List.getElem?_map] at hj
  have hg:s.data.toList[j]?=some (s.data.toList.getD j 0):=by
   rw [List.getD_eq_getElem?_getD]
   have:j<s.data.toList.length:=by rw [Array.length_toList]; exact hjl
   rw [List.getElem?_eq_getElem this]; rfl
  rw [hg] at hj
  simpa using hj
 ·rw [if_neg hs] at hL; cases hL
end
end Go.Proofs.Ytgdhhaddfllkaaa.pv
namespace Go.Proofs.Ytgdhhaddfllkaaa.pv
set_option linter.all false
open Go.RowKit
section
variable {P:Program} {T:List TI}
variable {α:Type} {f:α→PV} {L Y Z:List α} {t t' e s l nl i j k m C:Nat} {A B:Int} {ka kb:IntKind} {x y lo hi:Operand} {ti:TI}
end
section
variable {P:Program} {T:List TI} {α:Type} {f:α→PV} {L Y Z:List α} {t e s l i j k m C:Nat} {x y:Operand}
end
def repI {α:Type} (b:Nat) (s:List α) (i j:Int) (v:List α):Option (List α) :=
 if 0≤i∧i<j∧j≤(s.length:Int)∧(v.length=0∨j-i≤(v.length:Int))∧s.length+v.length≤4611686018427387904∧(s.length+v.length)*b≤140737488355328 then some (s.take i.toNat++v++s.drop j.toNat) else none
end Go.Proofs.Ytgdhhaddfllkaaa.pv
namespace Go.Proofs.Ytgdhhaddfllkaaa.pv
set_option linter.all false
open Go.RowKit
def fl (xs:List PV):List PV:=xs.flatMap pcells
section
variable {ow:Nat→Bool} {w:World}
end
def noB:Value:=.bool false
def bagI (ct:Nat→Nat×Nat) (q:Nat→Bool) (xs:List PV) (ow:Nat→Bool) (w:World) (v:Value):Prop :=
 ∃ caps:Array Value,v=.func (.func 0) #[] caps∧caps.size=(fl xs).length ∧
  (∀ k:Nat,k<caps.size→q k=true→∃ (ys:List PV) (cs:List Value) (u:Value),(fl xs)[k]?=some (.sl ys)∧caps[k]?=some u∧w.ownsRow 0 (ct k).1 (ct k).2 u ys.length cs∧RE ow w (ct k).2 ys cs) ∧
  (∀ (k:Nat) (u:Value),caps[k]?=some u→q k=false→u=noB) ∧
  (∀ (k k':Nat) (u u':Value) (b:Nat),k≠k'→caps[k]?=some u→caps[k']?=some u'→blockOf u=some b→blockOf u'≠some b)
theorem mem_caps {caps:Array Value} {b:Nat} (h:b∈blocksOf (.func (.func 0) #[] caps)):∃ (k:Nat) (u:Value),caps[k]?=some u∧blockOf u=some b:=by
 simp only [blocksOf,List.mem_filterMap] at h
 obtain ⟨u,hu,hb⟩:=h
 obtain ⟨k,hk⟩:=List.getElem?_of_mem hu
 exact ⟨k,u,by simpa using hk,hb⟩
theorem caps_mem {caps:Array Value} {b k:Nat} {u:Value} (h:caps[k]?=some u) (hb:blockOf u=some b):b∈blocksOf (.func (.func 0) #[] caps):=by
 simp only [blocksOf,List.mem_filterMap]
 exact ⟨u,by
  have:caps.toList[k]?=some u:=by simpa using h
  exact List.mem_of_getElem? this,hb⟩
theorem owns_bo {w:World} {e s n:Nat} {u:Value} {cs:List Value} (h:w.ownsRow 0 e s u n cs) {b:Nat} (hb:b∈blocksOf u):blockOf u=some b∧b<w.heap.size:=by
 obtain ⟨_,h⟩:=h
 rcases h with ⟨rfl,_⟩ | ⟨g,cap,cur,rfl,_,h4,_⟩
 ·simp [blocksOf,blockOf] at hb
 ·simp [blocksOf,blockOf] at hb; subst hb
  exact ⟨rfl,(Array.getElem?_eq_some_iff.1 h4).1⟩
theorem owns_one {w:World} {e s n:Nat} {u:Value} {cs:List Value} (h:w.ownsRow 0 e s u n cs):u.oneCell'=true:=by
 obtain ⟨_,h⟩:=h
 rcases h with ⟨rfl,_⟩ | ⟨g,cap,cur,rfl,_,h4,_⟩ <;> rfl
def bagC (ct:Nat→Nat×Nat) (q:Nat→Bool) (xs:List PV):Cust where
 I:=fun ow w v _=>bagI ct q xs ow w v
 lt:=by
  rintro ow w v vs ⟨caps,rfl,hs,h1,h2,h3⟩ b hb
  obtain ⟨k,u,hk,hb'⟩:=mem_caps hb
  have hlt:k<caps.size:=(Array.getElem?_eq_some_iff.1 hk).1
  cases hq:q k with
  | false=>rw [h2 k u hk hq] at hb'; simp [noB,blockOf] at hb'
  | true =>
   obtain ⟨ys,cs,u',g1,g2,g3,g4⟩:=h1 k hlt hq
   rw [hk] at g2; cases g2
   exact (owns_bo g3 (mem_of_bo hb')).2
 kp:=by
  rintro ow ow' w w' v vs hk hb ⟨caps,rfl,hs,h1,h2,h3⟩
  refine ⟨caps,rfl,hs,fun k hlt hq=>?_,h2,h3⟩
  obtain ⟨ys,cs,u,g1,g2,g3,g4⟩:=h1 k hlt hq
  exact ⟨ys,cs,u,g1,g2,ownsRow_kept g3 fun b hb'=>(hb b (caps_mem g2 (owns_bo g3 hb').1)).1,RE.mono hk _ _ _ g4⟩
 one:=by
  rintro ow w v vs ⟨caps,rfl,_⟩
  rfl
def outI (ty sz:Nat) (q:Nat→Bool) (hs:List (Option Nat)) (xs:List PV) (ow:Nat→Bool) (w:World) (v:Value) (vs:List Value):Prop :=
 ∃ (cells:List Value) (caps:Array Value),w.ownsRow 0 ty sz v xs.length cells∧vs[0]?=some (.func (.func 0) #[] caps) ∧
  ∀ (k:Nat) (p:PV),(fl xs)[k]?=some p→∃ u:Value,cells[k]?=some u∧u.oneCell'=true∧(q k=true→caps[k]?=some u)∧(∀ j:Nat,hs[j]?=some (some k)→vs[j+1]?=some u) ∧
   (q k=false→(∀ j:Nat,hs[j]?≠some (some k))→R ow w p u)
def outC (ty sz:Nat) (q:Nat→Bool) (hs:List (Option Nat)) (xs:List PV):Cust where
 I:=outI ty sz q hs xs
 lt:=by
  rintro ow w v vs ⟨cells,caps,h1,_⟩ b hb
  exact (owns_bo h1 hb).2
 kp:=by
  rintro ow ow' w w' v vs hk hb ⟨cells,caps,h1,h2,h3⟩
  refine ⟨cells,caps,ownsRow_kept h1 fun b e=>(hb b e).1,h2,fun k p hp=>?_⟩
  obtain ⟨u,g1,g2,g3,g4,g5⟩:=h3 k p hp
  exact ⟨u,g1,g2,g3,g4,fun a b=>R.mono hk _ _ (g5 a b)⟩
 one:=by
  rintro ow w v vs ⟨cells,caps,h1,_⟩
  exact owns_one h1
section
variable {P:Program} {T:List TI} {n:Nat} {w0:Cx} {st:PS} {a:Act} {w:World} {ow:Nat→Bool} {hd:Nat→Value}
theorem SimW.re (S:SimW n w0 st a w ow hd) {l:Nat} {o o':PO} (hm:st.m[l]?=some o) (hl:o.live=true) (hl':o'.live=true) (h:RO (al (st.m.set l o')) hd w0 ow w (hd l) o'):SimW n w0 ⟨st.f,st.m.set l o'⟩ a w ow hd:=by
 have e:upd hd l (hd l)=hd:=by funext j; by_cases e:j=l <;> simp [upd,e]
 have:=S.obj (l:=l) (hv:=hd l) (o:=o') (Kp.refl _ _) (Kt.refl _ _) S.fresh (.inr rfl) (PO.made_of_live hl') (by rw [e]; exact h)
  (fun j oj b' hne hj hlj hb'=>⟨rfl,rfl,fun _ eb=>S.dist j l oj o b' hne hj hm hlj hl hb' eb⟩)
 rw [e] at this
 exact this
theorem SimW.add (S:SimW n w0 st a w ow hd) {l:Nat} {o:PO} {hv:Value} (hm:st.m[l]?=some .free) (ho:o.made=true) (h:RO (al (st.m.set l o)) (upd hd l hv) w0 ow w hv o)
  (hk:∀ j oj b,j≠l→st.m[j]?=some oj→oj.live=true→b∈blocksOf (hd j)→b ∉ blocksOf hv) :
  SimW n w0 ⟨st.f,st.m.set l o⟩ a w ow (upd hd l hv)∧(∀ j,al st.m j=true→al (st.m.set l o) j=true∧upd hd l hv j=hd j)∧al (st.m.set l o) l=true:=by
 have hal:al st.m l=false:=by simp [al,hm,PO.made]
 have hlt:l<st.m.length:=(List.getElem?_eq_some_iff.1 hm).1
 refine ⟨S.obj (l:=l) (hv:=hv) (o:=o) (Kp.refl _ _) (Kt.refl _ _) S.fresh (.inl hal) ho h (fun j oj b hne hj hlj hb=>⟨rfl,rfl,fun _=>hk j oj b hne hj hlj hb⟩),?_,?_⟩
 ·intro j hj
  refine ⟨al_set_mono ho j hj,?_⟩
  rw [upd_ne]
  intro e; rw [e,hal] at hj; cases hj
 ·rw [al_set_same hlt]; exact ho
theorem get_set_ne {m:List PO} {l j:Nat} {o x:PO} (h:m[j]?=some x) (hne:j≠l):(m.set l o)[j]?=some x:=by
 rw [List.getElem?_set,if_neg (fun e=>hne e.symm)]; exact h
end
end Go.Proofs.Ytgdhhaddfllkaaa.pv
namespace Go.Proofs.Ytgdhhaddfllkaaa.pv
set_option linter.all false
open Go.RowKit
section
variable {P:Program} {T:List TI} {n:Nat} {w0:Cx} {st:PS} {a:Act} {w:World} {ow:Nat→Bool} {hd:Nat→Value}
theorem SimW.publ (S:SimW n w0 st a w ow hd) (hold:Keep w0 ow) (D:Nat→Bool) (hD:∀ b,D b=true→w0.New b) (hno:∀ j oj b,st.m[j]?=some oj→oj.live=true→b∈blocksOf (hd j)→D b=false) :
  Kp ow w (fun b=>ow b&&!D b) w∧Keep w0 (fun b=>ow b&&!D b)∧SimW n w0 st a w (fun b=>ow b&&!D b) hd:=by
 have hk:Kp ow w (fun b=>ow b&&!D b) w:=⟨Nat.le_refl _,fun b _ hb=>by show (ow b&&!D b)=false; rw [hb]; rfl,fun _ _ _=>rfl⟩
 refine ⟨hk,hold.step fun b hb hn=>?_,?_⟩
 ·show (ow b&&!D b)=ow b
  cases hd':D b with
  | false=>simp
  | true =>
   rcases hD b hd' with h | h
   ·omega
   ·rw [h] at hn; cases hn
 ·refine { below:=S.below,fresh:=fun b hb=>?_,objs:=fun j oj hj=>?_,dist:=S.dist,defers:=S.defers,size:=S.size,slots:=fun i=>RF.mono hk (fun l h=>⟨h,rfl⟩) _ _ (S.slots i) }
  ·show (ow b&&!D b)=false
   rw [S.fresh b hb]; rfl
  ·exact (S.objs j oj hj).kp hk (fun l h=>⟨h,rfl⟩) fun b hb hl=>⟨rfl,by show (ow b&&!D b)=ow b; rw [hno j oj b hj hl hb]; simp⟩
theorem own_R {e s:Nat} {u:Value} {ys:List PV} {cs:List Value} {ow':Nat→Bool} (h:w.ownsRow 0 e s u ys.length cs) (hr:RE ow w s ys cs) (hk:Kp ow w ow' w) (hb:∀ b,b∈blocksOf u→ow' b=false):R ow' w (.sl ys) u:=by
 obtain ⟨h1,h1'⟩:=h
 simp only [R]
 rcases h1' with ⟨e2,e3⟩ | ⟨gb,cap,cur,e2,e3,e4,e5,e6,e7,e8⟩
 ·rw [e2]; exact ⟨none,0,by rw [e3],by omega,by simp [maxLen],.inl (List.eq_nil_of_length_eq_zero e3)⟩
 ·refine ⟨some ⟨gb,0,none⟩,cap,e2,e5,e6,.inr ⟨gb,0,s,cs,rfl,(Array.getElem?_eq_some_iff.1 e4).1,hb gb (by rw [e2]; first | rfl | simp [blocksOf,blockOf]),fun j v hv=>?_,RE.mono hk _ _ _ hr⟩⟩
  rw [← e8,List.getElem?_take] at hv
  split at hv
  ·unfold World.cell?
   simp only [e4]
   simpa using hv
  ·cases hv
def nThaw (l ty sz:Nat) (ct:Nat→Nat×Nat) (q:Nat→Bool) (hs:List (Option Nat)) (xs:List PV) (st:PS):PS :=
 ⟨st.f,st.m.set l (.cu (outC ty sz q hs xs) (.srf st.m.length::hs.map fun _=>.d (.v noB)))++[.cu (bagC ct q xs) []]⟩
def nFrz (l B ty sz:Nat) (xs:List PV) (st:PS):PS:=⟨st.f,(st.m.set B .none).set l (.row ty sz xs)⟩
end
end Go.Proofs.Ytgdhhaddfllkaaa.pv
namespace Go.Proofs.Ytgdhhaddfllkaaa.pv
set_option linter.all false
open Go.RowKit Go.MapKept
section
variable {κ ν:Type} [DecidableEq κ]
def mplc:List (κ×ν)→κ→Option (Nat×ν)
 | [],_=>none
 | p::r,k=>if k=p.1 then some (0,p.2) else (mplc r k).map fun q=>(q.1+1,q.2)
def mget (E:List (κ×ν)) (k:κ):Option ν:=(mplc E k).map (·.2)
def mput (E:List (κ×ν)) (k:κ) (v:ν):List (κ×ν):=match mplc E k with | some (i,_)=>E.set i (k,v) | none=>E++[(k,v)]
theorem mplc_some:∀ {E:List (κ×ν)} {k:κ} {i:Nat} {v:ν},mplc E k=some (i,v)→E[i]?=some (k,v)
 | p::r,k,i,v,h=>by
  unfold mplc at h
  split at h
  ·rename_i e; simp at h; obtain ⟨rfl,rfl⟩:=h; subst e; rfl
  ·cases hq:mplc r k with
   | none=>simp [hq] at h
   | some q =>
    simp [hq] at h
    obtain ⟨rfl,rfl⟩:=h
    simpa using mplc_some hq
theorem mplc_set:∀ {E:List (κ×ν)} {k:κ} {i:Nat} {v0:ν} (v:ν) (j:κ),mplc E k=some (i,v0)→mplc (E.set i (k,v)) j=if j=k then some (i,v) else mplc E j
 | p::r,k,i,v0,v,j,h=>by
  unfold mplc at h
  split at h
  ·rename_i e
   simp at h
   obtain ⟨rfl,rfl⟩:=h
   subst e
   simp only [List.set_cons_zero,mplc]
   split <;> simp_all
  ·rename_i e
   cases hq:mplc r k with
   | none=>simp [hq] at h
   | some q =>
    simp [hq] at h
    obtain ⟨rfl,rfl⟩:=h
    simp only [List.set_cons_succ,mplc]
    rw [mplc_set v j hq]
    split
    ·rename_i e1
     have:j≠k:=fun e2=>e (e2 ▸ e1)
     rw [if_neg this]
    ·split <;> rfl
theorem mplc_app:∀ {E:List (κ×ν)} {k:κ} (v:ν) (j:κ),mplc E k=none→mplc (E++[(k,v)]) j=if j=k then some (E.length,v) else mplc E j
 | [],k,v,j,h=>by simp [mplc]
 | p::r,k,v,j,h=>by
  unfold mplc at h
  split at h
  ·cases h
  ·rename_i e
   have hq:mplc r k=none:=by cases hq:mplc r k <;> simp_all
   simp only [List.cons_append,mplc,List.length_cons]
   rw [mplc_app v j hq]
   split
   ·rename_i e1
    have:j≠k:=fun e2=>e (e2 ▸ e1)
    rw [if_neg this]
   ·split <;> rfl
theorem mget_mput (E:List (κ×ν)) (k:κ) (v:ν) (j:κ):mget (mput E k v) j=if j=k then some v else mget E j:=by
 unfold mget mput
 cases h:mplc E k with
 | none=>simp only []; rw [mplc_app v j h]; split <;> rfl
 | some q=>obtain ⟨i,v0⟩:=q; simp only []; rw [mplc_set v j h]; split <;> rfl
end
theorem Ret.of_H {P:Program} {f:FuncId} {args:List PV} {e s:Nat} {xs:List PV} (h:RetH P f (args.map .d) [] (.srf 0) [.row e s xs]):Ret P f args (.sl xs):=by
 refine ⟨h.1,fun ow w vs hf hr=>?_⟩
 have S0:SimH ⟨w,fun _=>false,ow,fun _=>undef⟩ [] w ow (fun _=>undef):=⟨Kt.refl _ _,hf,fun l o hl=>by simp at hl,fun l l' o o' b _ hl=>by simp at hl⟩
 refine (h.2 ⟨w,fun _=>false,ow,fun _=>undef⟩ (fun _=>undef) vs S0 (RFT.of_RT hr)).mono ?_
 rintro e' w' ⟨v,ow',hd',rfl,hk,S,_,hv⟩
 have hkt:=S.below
 have hB:Below w.heap.size w w':=⟨hkt.os,hkt.tape,hkt.output,hkt.size,fun k hk'=>hkt.block k hk' rfl⟩
 refine ⟨v,rfl,hB,?_⟩
 have hk1:Kp ow' w' ow w':=⟨Nat.le_refl _,fun b hb h0=>?_,fun _ _ _=>rfl⟩
 ·exact frz_sound S hk1 (fun b hb=>by
   rcases hb with hb | hb
   ·exact hf b hb
   ·cases hb) (.srf 0) v (.sl xs) (by simp [frz]) hv
 ·rcases Nat.lt_or_ge b w.heap.size with hlt | hge
  ·have:=hk b hlt rfl
   rw [h0] at this; exact this.symm
  ·exact hf b hge
structure KOk (P:Program) (kt:Nat) {κ:Type} [DecidableEq κ] (d:TypeDesc) (f:κ→Value):Prop where
 und:P.underlying kt=some d
 key:∀ a,IsKey d (f a)
 now:∀ a b,Instr.sameNow d (f a) (f b)=some (decide (a=b))
theorem KOk.int {P:Program} {kt:Nat} {k:IntKind} (h:P.underlying kt=some (.int k)):KOk P kt (.int k) (fun a:Int=>Value.int k a) :=
 ⟨h,fun _=>rfl,fun a b=>by simp only [Instr.sameNow,if_true]; congr 1⟩
section
variable {κ ν:Type} [DecidableEq κ] {f:κ→Value} {g:ν→Value} {d:TypeDesc}
theorem findNow_mix (hn:∀ a b,Instr.sameNow d (f a) (f b)=some (decide (a=b))) (k:κ):∀ (es:List MapEntry) (E:List (κ×ν)) (i:Nat),es.map (fun e=>(e.key,e.val))=E.map (fun p=>(f p.1,g p.2)) →
  Instr.findNow d (f k) es i=some ((mplc E k).map fun q=>(i+q.1,g q.2))
 | [],E,i,h=>by
  have:E=[]:=by cases E with | nil=>rfl | cons _ _=>simp at h
  subst this; rfl
 | e::es,[],i,h=>by simp at h
 | e::es,p::r,i,h=>by
  simp only [List.map_cons,List.cons.injEq,Prod.mk.injEq] at h
  obtain ⟨⟨h1,h2⟩,h3⟩:=h
  unfold Instr.findNow mplc
  rw [h1,hn]
  by_cases e1:k=p.1
  ·simp [e1,h2]
  ·simp only [e1,decide_false,if_false]
   rw [findNow_mix hn k es r (i+1) h3]
   cases mplc r k <;> simp <;> omega
structure KW (P:Program) (kt:Nat) {κ:Type} [DecidableEq κ] (f:κ→Value):Prop where
 chk:∀ a b (w:World),(Instr.checkKey b 10000 kt (f a)).run P w=.ok () w
 find:∀ {ν:Type} (g:ν→Value) (k:κ) (es:List MapEntry) (E:List (κ×ν)) (w:World),es.map (fun e=>(e.key,e.val))=E.map (fun p=>(f p.1,g p.2))→(Instr.findKey kt (f k) es).run P w=.ok ((mplc E k).map fun q=>(q.1,g q.2)) w
 stay:∀ a (w:World),(Instr.keyThatStays (f a) (f a)).run P w=.ok (f a) w
theorem KOk.kw {P:Program} {kt:Nat} (h:KOk P kt d f):KW P kt f :=
 ⟨fun a b w=>run_checkKey h.und (h.key a) b 9999,fun g k es E w he=>by
  have:=run_findKey (w:=w) h.und (findNow_mix (g:=g) h.now k es E 0 he)
  simpa using this,fun a w=>run_keyThatStays (h.key a)⟩
def plainC:Value→Bool
 | .int _ _=>true
 | .bool _=>true
 | .string _=>true
 | _=>false
def mapC (f:κ→Value) (g:ν→Value) (E:List (κ×ν)):Cust where
 I ow w h vs:=∃ b clock es,h=.map (some b)∧w.heap[b]?=some (.map es clock)∧es.toList.map (fun e=>(e.key,e.val))=E.map (fun p=>(f p.1,g p.2))
 lt:=by
  rintro ow w h vs ⟨b,clock,es,rfl,h2,_⟩ b' hb
  simp [blocksOf,blockOf] at hb
  subst hb
  exact (Array.getElem?_eq_some_iff.1 h2).1
 kp:=by
  rintro ow ow' w w' h vs k hb ⟨b,clock,es,rfl,h2,h3⟩
  exact ⟨b,clock,es,rfl,by rw [(hb b (by simp [blocksOf,blockOf])).1]; exact h2,h3⟩
 one:=by rintro ow w h vs ⟨b,clock,es,rfl,_⟩; rfl
end
section
variable {P:Program} {T:List TI} {n:Nat} {w0:Cx} {st:PS} {a:Act} {w:World} {ow:Nat→Bool} {hd:Nat→Value}
variable {κ ν:Type} [DecidableEq κ] {f:κ→Value} {g:ν→Value} {E:List (κ×ν)}
theorem SimW.newMap (S:SimW n w0 st a w ow hd) {l:Nat} (hl:st.m[l]?=some .free) (f:κ→Value) (g:ν→Value) :
  ∃ ow' hd',((∀ b,b<w.heap.size→ow' b=ow b)∧∀ j,al st.m j=true→al (st.m.set l (.cu (mapC f g []) [])) j=true∧hd' j=hd j)∧SimW n w0 ⟨st.f,st.m.set l (.cu (mapC f g []) [])⟩ a (w.alloc (.map #[] 0)) ow' hd'∧RF (al (st.m.set l (.cu (mapC f g []) []))) hd' ow' (w.alloc (.map #[] 0)) (.srf l) (.map (some w.heap.size)):=by
 have hsz:(w.alloc (.map #[] 0)).heap.size=w.heap.size+1:=by simp
 have hk:Kp ow w (fun b=>if b=w.heap.size then true else ow b) (w.alloc (.map #[] 0)) :=
  ⟨by rw [hsz]; omega,fun b hb h=>by show (if b=w.heap.size then true else ow b)=false; rw [if_neg (by omega)]; exact h,fun b hb _=>Below.heap_alloc w _ b hb⟩
 have hal:al st.m l=false:=by simp [al,hl,PO.made]
 have hlt:l<st.m.length:=(List.getElem?_eq_some_iff.1 hl).1
 have ha:∀ j,al st.m j=true→al (st.m.set l (.cu (mapC f g []) [])) j=true∧upd hd l (.map (some w.heap.size)) j=hd j:=by
  intro j hj
  refine ⟨al_set_mono rfl j hj,?_⟩
  rw [upd_ne]
  intro e; rw [e,hal] at hj; cases hj
 have S':=S.obj (l:=l) (hv:=.map (some w.heap.size)) (o:=.cu (mapC f g []) []) hk (Kt.of_below ((Below.refl _ _).alloc S.below.size _) (Nat.le_refl _))
  (fun b hb=>by rw [hsz] at hb; show (if b=w.heap.size then true else ow b)=false; rw [if_neg (by omega)]; exact S.fresh b (by omega)) (.inl hal) rfl
  ⟨fun b hb=>by
    simp [blocksOf,blockOf] at hb; subst hb
    exact ⟨.inl S.below.size,by simp⟩,
   [],by simp [RFL],w.heap.size,0,#[],rfl,heap_alloc_new w _,by simp⟩
  (fun j oj b e hj hl hbk=>by
   have:=((S.objs j oj hj).lt hl b hbk).1
   refine ⟨Below.heap_alloc w _ b this,if_neg (by omega),fun _ he=>?_⟩
   simp [blocksOf,blockOf] at he
   omega)
 refine ⟨_,_,⟨?_,ha⟩,S',?_⟩
 ·intro b hb
  show (if b=w.heap.size then true else ow b)=ow b
  rw [if_neg (by omega)]
 ·simp only [RF]
  exact ⟨by rw [al_set_same hlt]; rfl,by rw [upd_same],by rw [upd_same]; rfl⟩
theorem ymake {t nl:Nat} (f:κ→Value) (g:ν→Value):Ext P T (.makeMap t none) [] [(nl,.free)] (.srf nl) [(nl,.cu (mapC f g []) [])]:=by
 intro n w0 st a w o hT hS ho hn hv hm K Q hK
 obtain ⟨ow,hd,hold,S⟩:=hS
 obtain ⟨d,op,ty,pos,af,gd⟩:=o
 simp only at ho hn hK
 subst ho
 have hml:=hm (nl,.free) (by simp)
 obtain ⟨ow',hd',⟨h1,h2⟩,S',hr⟩:=S.newMap hml f g
 have hrun:(execOp a.eval ⟨d,.makeMap t none,ty,pos,af,gd⟩).run P w=.ok (.value (.map (some w.heap.size))) (w.alloc (.map #[] 0)):=by
  have:(Instr.makeMap t none).run P w=.ok (.map (some w.heap.size)) (w.alloc (.map #[] 0)):=rfl
  simp only [execOp,Option.map_none,Sem.run_bind,this,Result.andThen_ok,Sem.run_pure]
 exact wp_val' hrun (hK _ _ ⟨ow',hd',hold.step fun b hb _=>h1 b (Nat.lt_of_lt_of_le hb S.below.size),S'.put hn hr⟩)
theorem wp_skip' {o:Oper} {a:Act} {w w':World} {K:Act→World→Prop} {Q:Exit→Act→World→Prop} (hrun:(execOp a.eval o).run P w=.ok .skip w') (h:K (a.put o.dst undef) w'):o.wp P a w K Q:=by
 unfold Oper.wp; rw [hrun]; exact h
def KV (x:FV) (u:Value):Prop:=∀ (A:Nat→Bool) (hd:Nat→Value) (ow:Nat→Bool) (w:World) (v:Value),RF A hd ow w x v→v=u
theorem kv_v (u:Value):KV (.d (.v u)) u:=fun A hd ow w v h=>by simp only [RF,R] at h; exact h.1
instance decFin {n:Nat} {α:Type} [DecidableEq α]:DecidableEq (Fin n→α):=fun f g=>decidable_of_iff (∀ i,f i=g i) ⟨funext,fun h i=>h ▸ rfl⟩
theorem ylook {t kt et l:Nat} {x y:Operand} {k:κ} {z:ν} {r:FV} {fk:FV} (hfk:KV fk (f k)) (c:Bool) (h1:P.underlying t=some (.map kt et)) (hk:KW P kt f) (hz:∀ w,(zeroValue et).run P w=.ok (g z) w) (hg:∀ v,(g v).oneCell'=true)
  (hr:r=if c then .d (.tup [.v (g ((mget E k).getD z)),.v (.bool (mget E k).isSome)]) else .d (.v (g ((mget E k).getD z)))) :
  Ext P T (.lookup t x y c) [.srf l,fk] [(l,.cu (mapC f g E) [])] r []:=by
 intro n w0 st a w o hT hS ho hn hv hm K Q hK
 obtain ⟨ow,hd,hold,S⟩:=hS
 obtain ⟨dst,op,ty,pos,af,gd⟩:=o
 simp only at ho hn hK
 subst ho
 simp [Op.operands] at hv
 obtain ⟨hv1,hv2⟩:=hv
 have hml:=hm (l,.cu (mapC f g E) []) (by simp)
 obtain ⟨g1,vs,g2,b,clock,es,q1,q2,q3⟩:=S.objs l _ hml
 have hx:=S.eval x
 rw [hv1] at hx
 simp only [RF] at hx
 obtain ⟨_,hx,_⟩:=hx
 have hy:a.eval y=f k:=by have:=S.eval y; rw [hv2] at this; exact hfk _ _ _ _ _ this
 have hf:=hk.find g k es.toList E w q3
 have hrun:(Instr.lookup t (.map (some b)) (f k) c).run P w=.ok (if c then .tuple #[g ((mget E k).getD z),.bool (mget E k).isSome] else g ((mget E k).getD z)) w:=by
  cases hq:mplc E k with
  | none =>
   rw [hq] at hf
   simp [Instr.lookup,run_underlying h1,MapKept.run_getObj_map q2,hk.chk,hf,Result.andThen,mget,hq,hz]
  | some q =>
   rw [hq] at hf
   simp [Instr.lookup,run_underlying h1,MapKept.run_getObj_map q2,hk.chk,hf,Result.andThen,mget,hq]
 have hrun':(execOp a.eval ⟨dst,.lookup t x y c,ty,pos,af,gd⟩).run P w=.ok (.value (if c then .tuple #[g ((mget E k).getD z),.bool (mget E k).isSome] else g ((mget E k).getD z))) w:=by
  simp only [execOp,hx,q1,hy,Sem.run_bind,hrun,Result.andThen_ok,Sem.run_pure]
 refine wp_val' hrun' (hK _ _ ⟨ow,hd,hold,S.put hn ?_⟩)
 rw [hr]
 cases c
 ·simp only [Bool.false_eq_true,if_false,RF,R]; exact ⟨trivial,hg _⟩
 ·simp only [if_true,RF,R,RT]
  exact ⟨_,rfl,_,_,rfl,⟨rfl,hg _⟩,_,_,rfl,⟨rfl,rfl⟩,rfl⟩
theorem yput {t kt et l:Nat} {x y z:Operand} {k:κ} {v:ν} {fk:FV} (hfk:KV fk (f k)) (h1:P.underlying t=some (.map kt et)) (hk:KW P kt f) :
  Ext P T (.mapUpdate t x y z) [.srf l,fk,.d (.v (g v))] [(l,.cu (mapC f g E) [])] .dead [(l,.cu (mapC f g (mput E k v)) [])]:=by
 intro n w0 st a w o hT hS ho hn hv hm K Q hK
 obtain ⟨ow,hd,hold,S⟩:=hS
 obtain ⟨dst,op,ty,pos,af,gd⟩:=o
 simp only at ho hn hK
 subst ho
 simp [Op.operands] at hv
 obtain ⟨hv1,hv2,hv3⟩:=hv
 have hml:=hm (l,.cu (mapC f g E) []) (by simp)
 simp only at hml
 obtain ⟨g1,vs,g2,b,clock,es,q1,q2,q3⟩:=S.objs l _ hml
 have hx:=S.eval x
 rw [hv1] at hx
 simp only [RF] at hx
 obtain ⟨_,hx,_⟩:=hx
 have hy:a.eval y=f k:=by have:=S.eval y; rw [hv2] at this; exact hfk _ _ _ _ _ this
 obtain ⟨hzz,_⟩:=S.v hv3
 have hf:=hk.find g k es.toList E w q3
 have hgo:∃ es' clock',(Instr.mapUpdate t (.map (some b)) (f k) (g v)).run P w=.ok () { w with heap:=w.heap.setIfInBounds b (.map es' clock') }∧es'.toList.map (fun e=>(e.key,e.val))=(mput E k v).map (fun p=>(f p.1,g p.2)):=by
  cases hq:mplc E k with
  | none =>
   rw [hq] at hf
   refine ⟨es.push { key:=f k,val:=g v,born:=clock },clock+1,?_,?_⟩
   ·simp [Instr.mapUpdate,run_underlying h1,MapKept.run_getObj_map q2,hk.chk,hf,run_setObj_map _ q2,Result.andThen]
   ·simp [mput,hq,q3]
  | some q =>
   obtain ⟨i,v0⟩:=q
   rw [hq] at hf
   have he:=mplc_some hq
   have hi:(es.toList.map (fun e=>(e.key,e.val)))[i]?=some (f k,g v0):=by rw [q3,List.getElem?_map,he]; rfl
   rw [List.getElem?_map] at hi
   cases hj:es.toList[i]? with
   | none=>simp [hj] at hi
   | some e =>
    simp [hj] at hi
    have hj':es[i]?=some e:=by simpa using hj
    refine ⟨es.modify i fun e=>{ e with key:=f k,val:=g v },clock,?_,?_⟩
    ·simp [Instr.mapUpdate,run_underlying h1,MapKept.run_getObj_map q2,hk.chk,hf,hj',hi.1,hk.stay,run_setObj_map _ q2,Result.andThen]
    ·simp only [mput,hq]
     apply List.ext_getElem?
     intro j
     have hjj:=congrArg (fun L=>L[j]?) q3
     simp only [List.getElem?_map,Array.toList_modify,List.getElem?_modify,List.getElem?_set] at hjj ⊢
     by_cases e1:i=j
     ·subst e1
      have hlt:i<E.length:=(List.getElem?_eq_some_iff.1 he).1
      simp [hj,hlt]
     ·simp only [e1,if_false]
      rw [← hjj]
      cases es.toList[j]? <;> rfl
 obtain ⟨es',clock',hrun,hes⟩:=hgo
 have hrun':(execOp a.eval ⟨dst,.mapUpdate t x y z,ty,pos,af,gd⟩).run P w=.ok .skip { w with heap:=w.heap.setIfInBounds b (.map es' clock') }:=by
  simp only [execOp,hx,q1,hy,hzz,Sem.run_bind,hrun,Result.andThen_ok,Sem.run_pure]
 obtain ⟨h2,h3⟩:=heap_set (o':=.map es' clock') q2
 obtain ⟨hnw,how⟩:=g1 b (by rw [q1]; first | rfl | simp [blocksOf,blockOf])
 have hbel:Below 0 w { w with heap:=w.heap.setIfInBounds b (.map es' clock') }:=⟨rfl,rfl,rfl,by simp,fun j hj=>by omega⟩
 have S':=S.set (l:=l) (b:=b) (o':=.cu (mapC f g (mput E k v)) []) hml rfl rfl (by rw [q1]; first | rfl | simp [blocksOf,blockOf]) h3 (by simp) (Kt.of_one hbel hnw h3)
  ⟨fun b' hb'=>g1 b' hb',[],by simp [RFL],b,clock',es',q1,h2,hes⟩
 exact wp_skip' hrun' (hK _ _ ⟨ow,hd,hold,by
  have:=S'.put hn (x:=.dead) (v:=undef) (by simp only [RF])
  exact this⟩)
end
end Go.Proofs.Ytgdhhaddfllkaaa.pv
namespace Go.Proofs.Ytgdhhaddfllkaaa.pv
set_option linter.all false
open Go.RowKit
section
variable {P:Program} {T:List TI} {n:Nat} {w0:Cx} {st:PS} {a:Act} {w:World} {ow:Nat→Bool} {hd:Nat→Value}
theorem cell_at {b k N:Nat} {cur:Array Value} {ty:TypeId} {cells:List Value} {u:Value} (hb:w.heap[b]?=some (.cells cur ty (0,0))) (hc:cur.toList.take N=cells) (hu:cells[k]?=some u):w.cell? ⟨b,k,none⟩=some u:=by
 rw [← hc,List.getElem?_take] at hu
 split at hu
 ·exact cell_of_block hb hu
 ·cases hu
def minus (q:Nat→Bool) (k:Nat):Nat→Bool:=fun i=>q i&&!decide (i=k)
end
end Go.Proofs.Ytgdhhaddfllkaaa.pv
namespace Go.Proofs.Ytgdhhaddfllkaaa.pv
set_option linter.all false
open Go.RowKit
section
variable {P:Program} {T:List TI} {n:Nat} {w0:Cx} {st:PS} {a:Act} {w:World} {ow:Nat→Bool} {hd:Nat→Value}
end
end Go.Proofs.Ytgdhhaddfllkaaa.pv
namespace Go.Proofs.Ytgdhhaddfllkaaa.pv
set_option linter.all false
open Go.RowKit
section
variable {P:Program} {T:List TI} {n:Nat} {w0:Cx} {st:PS} {a:Act} {w:World} {ow:Nat→Bool} {hd:Nat→Value}
def nClose (l B L ty sz:Nat) (ct:Nat→Nat×Nat) (q':Nat→Bool) (hs':List (Option Nat)) (xs':List PV) (fs:List FV) (j:Nat) (st:PS):PS :=
 ⟨st.f,((st.m.set B .none).set L .none).set l (.cu (outC ty sz q' hs' xs') ((fs.set 0 (.srf st.m.length)).set (j+1) (.d (.v noB))))++[.cu (bagC ct q' xs') []]⟩
def nSame (l B ty sz:Nat) (ct:Nat→Nat×Nat) (q':Nat→Bool) (hs:List (Option Nat)) (xs:List PV) (fs:List FV) (st:PS):PS:=⟨st.f,(st.m.set l (.cu (outC ty sz q' hs xs) fs)).set B (.cu (bagC ct q' xs) [])⟩
inductive Lend (m0:List (Nat×PO)):Nat→PV→Prop where
 | row (l e s:Nat) (ys:List PV):(l,.row e s ys)∈m0→Lend m0 l (.sl ys)
 | nst (l B ty sz:Nat) (ct:Nat→Nat×Nat) (q:Nat→Bool) (hs:List (Option Nat)) (xs:List PV) (fs:List FV):(l,.cu (outC ty sz q hs xs) fs)∈m0→(B,.cu (bagC ct q xs) [])∈m0→fs[0]?=some (.srf B)→xs.all (fits sz)=true →
  (∀ (j k:Nat),hs[j]?=some (some k)→∃ L e s ys,fs[j+1]?=some (.srf L)∧(L,.row e s ys)∈m0∧(fl xs)[k]?=some (.sl ys))→Lend m0 l (.sl xs)
mutual
def lendF (E:List (Nat×PV)):FV→Option PV
 | .d x=>some x
 | .agg cs=>(match lendL E cs with | some xs=>some (.agg xs) | none=>none)
 | .srf l=>(match E.find? (fun p=>Nat.beq p.1 l) with | some p=>some p.2 | none=>none)
 | .clo f cs=>(match lendL E cs with | some xs=>some (.clo f xs) | none=>none)
 | _=>none
def lendL (E:List (Nat×PV)):List FV→Option (List PV)
 | []=>some []
 | x::xs=>match lendF E x,lendL E xs with
  | some y,some ys=>some (y::ys)
  | _,_=>none
end
mutual
theorem lend_sound {E:List (Nat×PV)} (S:SimW n w0 st a w ow hd) (hE:∀ q∈E,R (fun _=>false) w q.2 (hd q.1)):∀ (x:FV) (u:Value) (y:PV),lendF E x=some y→RF (al st.m) hd ow w x u→R (fun _=>false) w y u
 | .d x,u,y,h,hr=>by
  simp [lendF] at h; subst h
  exact R.mono ⟨Nat.le_refl _,fun _ _ _=>rfl,fun _ _ _=>rfl⟩ _ _ (by simpa only [RF] using hr)
 | .agg cs,u,y,h,hr=>by
  simp only [lendF] at h
  split at h
  ·rename_i xs hx
   simp at h; subst h
   simp only [RF] at hr
   obtain ⟨vs,e,hr⟩:=hr
   simp only [R]
   exact ⟨vs,e,lendL_sound S hE cs vs xs hx hr⟩
  ·cases h
 | .clo f cs,u,y,h,hr=>by
  simp only [lendF] at h
  split at h
  ·rename_i xs hx
   simp at h; subst h
   simp only [RF] at hr
   obtain ⟨vs,e,hr⟩:=hr
   simp only [R]
   exact ⟨vs,e,lendL_sound S hE cs vs xs hx hr⟩
  ·cases h
 | .srf l,u,y,h,hr=>by
  simp only [lendF] at h
  split at h
  ·rename_i p hp
   simp at h; subst h
   have h1:=hE p (List.mem_of_find?_eq_some hp)
   have h2:=List.find?_some hp
   have h3:p.1=l:=by simpa using h2
   simp only [RF] at hr
   rw [hr.2.1,← h3]; exact h1
  ·cases h
 | .tup _,_,_,h,_=>by simp [lendF] at h
 | .ref _ _,_,_,h,_=>by simp [lendF] at h
 | .ept _ _ _ _,_,_,h,_=>by simp [lendF] at h
 | .asl _ _ _ _ _ _,_,_,h,_=>by simp [lendF] at h
 | .ssl _ _ _ _,_,_,h,_=>by simp [lendF] at h
 | .dead,_,_,h,_=>by simp [lendF] at h
theorem lendL_sound {E:List (Nat×PV)} (S:SimW n w0 st a w ow hd) (hE:∀ q∈E,R (fun _=>false) w q.2 (hd q.1)):∀ (xs:List FV) (us:List Value) (ys:List PV),lendL E xs=some ys→RFL (al st.m) hd ow w xs us→RL (fun _=>false) w ys us
 | [],us,ys,h,hr=>by simp [lendL] at h; subst h; simpa only [RFL,RL] using hr
 | x::xs,us,ys,h,hr=>by
  simp only [lendL] at h
  split at h
  ·rename_i z zs h1 h2
   simp at h; subst h
   simp only [RFL] at hr
   obtain ⟨v,r,e,g1,g2,g3⟩:=hr
   simp only [RL]
   exact ⟨v,r,e,lend_sound S hE x v z h1 g1,g2,lendL_sound S hE xs r zs h2 g3⟩
  ·cases h
theorem lendT_sound {E:List (Nat×PV)} (S:SimW n w0 st a w ow hd) (hE:∀ q∈E,R (fun _=>false) w q.2 (hd q.1)):∀ (xs:List FV) (us:List Value) (ys:List PV),lendL E xs=some ys→RFT (al st.m) hd ow w xs us→RT (fun _=>false) w ys us
 | [],us,ys,h,hr=>by simp [lendL] at h; subst h; simpa only [RFT,RT] using hr
 | x::xs,us,ys,h,hr=>by
  simp only [lendL] at h
  split at h
  ·rename_i z zs h1 h2
   simp at h; subst h
   simp only [RFT] at hr
   obtain ⟨v,r,e,g1,g3⟩:=hr
   simp only [RT]
   exact ⟨v,r,e,lend_sound S hE x v z h1 g1,lendT_sound S hE xs r zs h2 g3⟩
  ·cases h
end
end
end Go.Proofs.Ytgdhhaddfllkaaa.pv
namespace Go.Proofs.Ytgdhhaddfllkaaa.pv
set_option linter.all false
open Go.RowKit
def plus (q:Nat→Bool) (k:Nat):Nat→Bool:=fun i=>q i||decide (i=k)
def qpre (q:Nat→Bool) (N:Nat):Nat→Bool:=fun k=>decide (k<N)&&q k
section
variable {P:Program} {T:List TI} {n:Nat} {w0:Cx} {st:PS} {a:Act} {w:World} {ow:Nat→Bool} {hd:Nat→Value}
end
end Go.Proofs.Ytgdhhaddfllkaaa.pv
namespace Go.Proofs.Ytgdhhaddfllkaaa.pv
set_option linter.all false
open Go.RowKit
section
variable {P:Program} {T:List TI} {n:Nat} {w0:Cx} {st:PS} {a:Act} {w:World} {ow:Nat→Bool} {hd:Nat→Value}
theorem RE_drop {s:Nat}:∀ (i:Nat) {xs:List PV} {cs:List Value},RE ow w s xs cs→RE ow w s (xs.drop i) (cs.drop (i*s))
 | 0,xs,cs,h=>by simpa using h
 | i+1,[],cs,h=>by simp only [RE] at h; subst h; simp [RE]
 | i+1,x::xs,cs,h=>by
  simp only [RE] at h
  obtain ⟨u,r,rfl,h0,h1,h2,h3⟩:=h
  have e:(u.cells.toList++r).drop ((i+1)*s)=r.drop (i*s):=by
   have hl:u.cells.toList.length=s:=by simpa using h0
   rw [Nat.succ_mul,Nat.add_comm,← List.drop_drop,← hl,List.drop_left]
  rw [List.drop_succ_cons,e]
  exact RE_drop i h3
def nTakeS (l B ty sz k j e s:Nat) (ct:Nat→Nat×Nat) (q:Nat→Bool) (hs:List (Option Nat)) (xs ys:List PV) (fs:List FV) (st:PS):PS :=
 ⟨st.f,updM (st.m++[.free,.free]) [(B,.none),(st.m.length,.row e s ys),(st.m.length+1,.cu (bagC ct (minus q k) xs) []),(l,.cu (outC ty sz (minus q k) (hs.set j (some k)) xs) ((fs.set 0 (.srf (st.m.length+1))).set (j+1) (.srf st.m.length)))]⟩
end
end Go.Proofs.Ytgdhhaddfllkaaa.pv
namespace Go.Proofs.Ytgdhhaddfllkaaa.pv
set_option linter.all false
open Go.RowKit
def isU8:PV→Bool
 | .v (.int .u8 _)=>true
 | _=>false
mutual
def clean:PV→Bool
 | .v _=>true
 | .sl xs=>xs.all isU8
 | .agg cs=>cleanL cs
 | _=>false
def cleanL:List PV→Bool
 | []=>true
 | x::xs=>clean x&&cleanL xs
end
section
variable {ow:Nat→Bool} {w:World} {b:Nat} {h:Int} {t:TypeId} {z:Nat×Nat}
theorem not_here (hb:w.heap[b]?=some (.cells #[.int .i64 h] t z)) {off:Nat} {y:Int} {r:List Value} (hr:w.rangeAt b off (.int .u8 y::r)):False:=by
 have:=hr 0 _ rfl
 unfold World.cell? at this
 simp only [hb] at this
 cases off with
 | zero=>simp at this
 | succ k=>simp at this
mutual
theorem R.clean (hb:w.heap[b]?=some (.cells #[.int .i64 h] t z)):∀ (x:PV) (u:Value),pv.clean x=true→R ow w x u→R (fun j=>if j=b then true else ow j) w x u
 | .v x,u,_,hr=>by simpa only [R] using hr
 | .sl xs,u,hc,hr=>by
  simp only [R] at hr ⊢
  obtain ⟨a,cap,e,h1,h2,h3⟩:=hr
  refine ⟨a,cap,e,h1,h2,?_⟩
  rcases h3 with h3 | ⟨b',off,sz,cells,ha,hlt,ho,hrg,he⟩
  ·exact .inl h3
  ·cases xs with
   | nil=>exact .inl rfl
   | cons x0 xs =>
    right
    have hx:∀ y∈x0::xs,isU8 y=true:=by
     simp only [pv.clean] at hc
     exact List.all_eq_true.1 hc
    have hne:b'≠b:=fun e0=>by
     subst e0
     have hu:=hx x0 (by simp)
     simp only [RE] at he
     obtain ⟨u0,r,rfl,q1,q2,q3,q4⟩:=he
     unfold isU8 at hu
     split at hu
     ·simp only [R] at q3
      obtain ⟨rfl,_⟩:=q3
      exact not_here hb hrg
     ·cases hu
    refine ⟨b',off,sz,cells,ha,hlt,by rw [if_neg hne]; exact ho,hrg,?_⟩
    exact RE_u8 hx he
 | .agg cs,u,hc,hr=>by
  simp only [R] at hr ⊢
  obtain ⟨vs,e,hr⟩:=hr
  exact ⟨vs,e,RL.clean hb cs vs (by simpa only [pv.clean] using hc) hr⟩
 | .tup _,_,hc,_=>by simp [pv.clean] at hc
 | .iptr _ _,_,hc,_=>by simp [pv.clean] at hc
 | .clo _ _,_,hc,_=>by simp [pv.clean] at hc
theorem RL.clean (hb:w.heap[b]?=some (.cells #[.int .i64 h] t z)):∀ (xs:List PV) (us:List Value),pv.cleanL xs=true→RL ow w xs us→RL (fun j=>if j=b then true else ow j) w xs us
 | [],us,_,hr=>by simpa only [RL] using hr
 | x::xs,us,hc,hr=>by
  simp only [pv.cleanL,Bool.and_eq_true] at hc
  simp only [RL] at hr ⊢
  obtain ⟨v,r,e,h1,h2,h3⟩:=hr
  exact ⟨v,r,e,R.clean hb x v hc.1 h1,h2,RL.clean hb xs r hc.2 h3⟩
theorem RE_u8 {ow ow':Nat→Bool} {sz:Nat}:∀ {xs:List PV} {cells:List Value},(∀ y∈xs,isU8 y=true)→RE ow w sz xs cells→RE ow' w sz xs cells
 | [],cells,_,hr=>by simpa only [RE] using hr
 | x::xs,cells,hx,hr=>by
  simp only [RE] at hr ⊢
  obtain ⟨u,r,e,h0,h1,h2,h3⟩:=hr
  refine ⟨u,r,e,h0,h1,?_,RE_u8 (fun y hy=>hx y (by simp [hy])) h3⟩
  have hu:=hx x (by simp)
  unfold isU8 at hu
  split at hu
  ·simpa only [R] using h2
  ·cases hu
end
theorem RE.clean (hb:w.heap[b]?=some (.cells #[.int .i64 h] t z)) {sz:Nat}:∀ {xs:List PV} {cells:List Value},xs.all pv.clean=true→RE ow w sz xs cells→RE (fun j=>if j=b then true else ow j) w sz xs cells
 | [],cells,_,hr=>by simpa only [RE] using hr
 | x::xs,cells,hx,hr=>by
  simp only [List.all_cons,Bool.and_eq_true] at hx
  simp only [RE] at hr ⊢
  obtain ⟨u,r,e,h0,h1,h2,h3⟩:=hr
  exact ⟨u,r,e,h0,h1,R.clean hb x u hx.1 h2,RE.clean hb hx.2 h3⟩
end
theorem all_clean {α:Type} {f:α→PV} (hf:∀ x,clean (f x)=true) {l:List α}:(l.map f).all clean=true:=by
 rw [List.all_eq_true]
 intro y hy
 obtain ⟨x,_,rfl⟩:=List.mem_map.1 hy
 exact hf x
section
variable {P:Program} {T:List TI} {n:Nat} {w0:Cx} {st:PS} {a:Act} {w:World} {ow:Nat→Bool} {hd:Nat→Value}
theorem hlook {f x y:Operand} {tys:Array Nat} {g g2:FuncId} {l L e s:Nat} {h:Int} {xs ys:List PV} (hr:RetH P g [.srf 0,.d (.clo g2 [.iptr [.v (.int .i64 h)] 0])] [.row e s xs] (.tup []) [.row e s ys]) (hc:ys.all clean=true) (hne:l≠L) :
  Ext P T (.call ⟨.value f,#[x,y],tys⟩) [.d (.clo g []),.srf l,.clo g2 [.ref L 0]] [(l,.row e s xs),(L,.box [.d (.v (.int .i64 h))])] (.d (.tup [])) [(l,.row e s ys)]:=by
 intro n w0 st a w o hT hS ho hn hvs hm K Q hK
 obtain ⟨ow,hd,hold,S⟩:=hS
 obtain ⟨d,op,tyo,pos,af,gd⟩:=o
 simp only at ho hn hK
 subst ho
 have hml:=hm (l,.row e s xs) (by simp)
 have hmL:=hm (L,.box [.d (.v (.int .i64 h))]) (by simp)
 simp only at hml hmL
 simp [Op.operands,Call.operands] at hvs
 obtain ⟨hv1,hv2,hv3⟩:=hvs
 have h1:=S.eval f
 rw [hv1] at h1
 simp only [RF,R] at h1
 obtain ⟨us,hc1,hc2⟩:=h1
 simp only [RL] at hc2
 subst hc2
 have hx:=S.eval x
 rw [hv2] at hx
 simp only [RF] at hx
 obtain ⟨hxA,hx,hxo⟩:=hx
 have hy:=S.eval y
 rw [hv3] at hy
 simp only [RF,RFL] at hy
 obtain ⟨vs,hy,v1,r1,rfl,⟨_,bL,hbL,rfl⟩,_,hr1⟩:=hy
 subst hr1
 obtain ⟨bL',vals,tL,k1,k2,k3,k4,k5⟩:=S.objs L _ hmL
 rw [hbL] at k1
 simp at k1
 subst k1
 have hvals:vals=#[.int .i64 h]:=by
  simp only [RFL,RF,R] at k5
  obtain ⟨v,r,e1,⟨rfl,_⟩,_,rfl⟩:=k5
  apply Array.toList_inj.1
  rw [e1]
 subst hvals
 have hbLlt:bL<w.heap.size:=(Array.getElem?_eq_some_iff.1 k4).1
 obtain ⟨cells,g1,g2',g3⟩:=S.objs l _ hml
 have hneB:∀ b,b∈blocksOf (hd l)→b≠bL:=fun b hb e=>by
  subst e
  exact S.dist l L _ _ b hne hml hmL rfl rfl hb (by rw [hbL]; first | rfl | simp [blocksOf,blockOf])
 have hltB:∀ b,b∈blocksOf (hd l)→b<w.heap.size∧w0.New b∧ow b=true:=fun b hb=>(S.objs l _ hml).lt rfl b hb
 let own1:Nat→Bool:=fun b=>(blocksOf (hd l)).contains b
 let ow1:Nat→Bool:=fun b=>ow b&&!(b == bL)
 have hown:∀ b,own1 b=true↔b∈blocksOf (hd l):=fun b=>by show (blocksOf (hd l)).contains b=true↔_; simp
 have hk1:Kp ow w ow1 w:=⟨Nat.le_refl _,fun b _ hb=>by show (ow b&&_)=false; rw [hb]; rfl,fun _ _ _=>rfl⟩
 have S1:SimH ⟨w,own1,ow1,fun _=>undef⟩ [.row e s xs] w ow1 (fun _=>hd l):=by
  refine ⟨Kt.refl _ _,fun b hb=>?_,fun j o hj=>?_,fun j j' o o' b hne' hj hj'=>?_⟩
  ·show (ow b&&_)=false
   rw [S.fresh b hb]; rfl
  ·match j,hj with
   | 0,hj =>
    simp at hj; subst hj
    exact ⟨cells,g1,fun b hb=>⟨.inr ((hown b).2 hb),by show (ow b&&!(b == bL))=true; rw [(g2' b hb).2]; simpa using hneB b hb⟩,RE.mono hk1 _ _ _ g3⟩
   | j+1,hj=>simp at hj
  ·match j,j',hj,hj' with
   | 0,0,_,_=>exact absurd rfl hne'
   | j+1,_,hj,_=>simp at hj
   | 0,j'+1,_,hj'=>simp at hj'
 have hargs:RFT (al [PO.row e s xs]) (fun _=>hd l) ow1 w [.srf 0,.d (.clo g2 [.iptr [.v (.int .i64 h)] 0])] [a.eval x,a.eval y]:=by
  simp only [RFT,RF,R,RL]
  refine ⟨_,_,rfl,⟨rfl,hx,hxo⟩,_,_,rfl,⟨_,hy,_,_,rfl,⟨bL,0,[.int .i64 h],rfl,hbLlt,by show (ow bL&&!(bL == bL))=false; simp,fun j v hv=>?_,_,_,rfl,⟨rfl,rfl⟩,rfl,rfl⟩,rfl,rfl⟩,rfl⟩
  unfold World.cell?
  simp only [k4]
  simpa using hv
 unfold Oper.wp
 rw [run_call hc1 hr.1]
 show Calls P g (#[x,y].map a.eval++#[]) w _
 have harr:#[x,y].map a.eval++#[]=[a.eval x,a.eval y].toArray:=by
  apply Array.toList_inj.1; simp
 rw [harr]
 refine (hr.2 ⟨w,own1,ow1,fun _=>undef⟩ (fun _=>hd l) _ S1 hargs).mono ?_
 rintro e' w2 ⟨v,ow2,hd2,rfl,k2',S2,hid,hres⟩
 have hsz:w.heap.size≤w2.heap.size:=S2.below.size
 have hblk:=S2.below.block
 have hown0:∀ b,b ∉ blocksOf (hd l)→own1 b=false:=fun b hb=>Bool.eq_false_iff.2 fun q=>hb ((hown b).1 q)
 have hkeep:∀ b,b<w.heap.size→b ∉ blocksOf (hd l)→ow2 b=ow1 b:=fun b hb hn=>k2' b hb (hown0 b hn)
 have hbLn:bL ∉ blocksOf (hd l):=fun q=>hneB bL q rfl
 have hL2:w2.heap[bL]?=some (.cells #[.int .i64 h] tL (0,0)):=by rw [hblk bL hbLlt (hown0 _ hbLn)]; exact k4
 let ow3:Nat→Bool:=fun b=>if b=bL then true else ow2 b
 have hk3:Kp ow w ow3 w2:=by
  refine ⟨hsz,fun b hb h0=>?_,fun b hb h0=>?_⟩
  ·have hnb:b ∉ blocksOf (hd l):=fun q=>by rw [(hltB b q).2.2] at h0; cases h0
   have hnL:b≠bL:=fun q=>by rw [q,k3] at h0; cases h0
   show (if b=bL then true else ow2 b)=false
   rw [if_neg hnL,hkeep b hb hnb]
   show (ow b&&_)=false
   rw [h0]; rfl
  ·have hnb:b ∉ blocksOf (hd l):=fun q=>by rw [(hltB b q).2.2] at h0; cases h0
   exact hblk b hb (hown0 b hnb)
 have hnew:∀ b,b∈blocksOf (hd l)→w0.New b:=fun b hb=>(hltB b hb).2.1
 have hout:∀ b,b<w0.w.heap.size→w0.own b=false→b ∉ blocksOf (hd l)∧b≠bL:=fun b hb hn=>by
  have q:¬ w0.New b:=fun q=>by
   rcases q with q | q
   ·omega
   ·rw [q] at hn; cases hn
  exact ⟨fun z=>q (hnew b z),fun z=>q (by rw [z]; exact k2)⟩
 have hw0:=S.below.size
 have hold3:Keep w0 ow3:=hold.step fun b hb hn=>by
  obtain ⟨z1,z2⟩:=hout b hb hn
  show (if b=bL then true else ow2 b)=ow b
  rw [if_neg z2,hkeep b (Nat.lt_of_lt_of_le hb hw0) z1]
  show (ow b&&!(b == bL))=ow b
  have:(b == bL)=false:=by simpa using z2
  rw [this]; simp
 have hkt:Kt w0 w w2:=⟨S2.below.os,S2.below.tape,S2.below.output,hsz,fun k hk hn=>hblk k (Nat.lt_of_lt_of_le hk hw0) (hown0 k (hout k hk hn).1)⟩
 obtain ⟨cells2,p1,p2,p3⟩:=S2.objs 0 (.row e s ys) rfl
 have hid0:=(hid 0 rfl).2
 have S3:=S.obj (l:=l) (hv:=hd2 0) (o:=.row e s ys) hk3 hkt
  (fun b hb=>by
   show (if b=bL then true else ow2 b)=false
   rw [if_neg (by omega)]
   exact S2.fresh b hb)
  (.inr hid0) rfl
  ⟨cells2,p1,fun b hb=>by
   obtain ⟨q1,q2⟩:=p2 b hb
   refine ⟨?_,?_⟩
   ·rcases q1 with q1 | q1
    ·exact .inl (Nat.le_trans hw0 q1)
    ·exact hnew b ((hown b).1 q1)
   ·show (if b=bL then true else ow2 b)=true
    split
    ·rfl
    ·exact q2,RE.clean hL2 hc p3⟩
  (fun j oj b hne' hj hl hb=>by
   have hjn:b ∉ blocksOf (hd l):=fun q=>S.dist j l oj _ b hne' hj hml hl rfl hb q
   obtain ⟨z1,z2,z3⟩:=(S.objs j oj hj).lt hl b hb
   refine ⟨hblk b z1 (hown0 b hjn),?_,fun _ q=>?_⟩
   ·show (if b=bL then true else ow2 b)=ow b
    by_cases z:b=bL
    ·rw [if_pos z,z3]
    ·rw [if_neg z,hkeep b z1 hjn]
     show (ow b&&!(b == bL))=ow b
     have:(b == bL)=false:=by simpa using z
     rw [this]; simp
   ·rw [hid0] at q
    exact hjn q)
 exact hK _ _ ⟨ow3,_,hold3,S3.put hn (x:=.d (.tup [])) (by simp only [RF,RFT] at hres; simp only [RF,R,RT]; exact hres)⟩
end
end Go.Proofs.Ytgdhhaddfllkaaa.pv
namespace Go.Proofs.Ytgdhhaddfllkaaa.pv
set_option linter.all false
open Go.RowKit Go.MapKept
section
variable {κ ν:Type} [DecidableEq κ] {f:κ→Value} {g:ν→PV}
def RM (ow:Nat→Bool) (w:World) (f:κ→Value) (g:ν→PV):List (κ×ν)→List MapEntry→Prop
 | [],[]=>True
 | p::r,e::es=>e.key=f p.1∧R ow w (g p.2) e.val∧e.val.oneCell'=true∧RM ow w f g r es
 | _,_=>False
theorem RM.mono {ow ow':Nat→Bool} {w w':World} (k:Kp ow w ow' w'):∀ {E:List (κ×ν)} {es:List MapEntry},RM ow w f g E es→RM ow' w' f g E es
 | [],[],_=>trivial
 | p::r,e::es,⟨h1,h2,h3,h4⟩=>⟨h1,R.mono k _ _ h2,h3,RM.mono k h4⟩
 | [],_::_,h=>h.elim
 | _::_,[],h=>h.elim
theorem RM.app {ow:Nat→Bool} {w:World}:∀ {E:List (κ×ν)} {es:List MapEntry} {E':List (κ×ν)} {es':List MapEntry},RM ow w f g E es→RM ow w f g E' es'→RM ow w f g (E++E') (es++es')
 | [],[],_,_,_,h=>h
 | p::r,e::es,_,_,⟨h1,h2,h3,h4⟩,h=>⟨h1,h2,h3,RM.app h4 h⟩
 | [],_::_,_,_,h,_=>h.elim
 | _::_,[],_,_,h,_=>h.elim
theorem RM.len {ow:Nat→Bool} {w:World}:∀ {E:List (κ×ν)} {es:List MapEntry},RM ow w f g E es→es.length=E.length
 | [],[],_=>rfl
 | p::r,e::es,⟨_,_,_,h⟩=>by simp [RM.len h]
 | [],_::_,h=>h.elim
 | _::_,[],h=>h.elim
theorem RM.mod {ow:Nat→Bool} {w:World} {k:κ} {v:ν} {u:Value} (hr:R ow w (g v) u) (ho:u.oneCell'=true):∀ {E:List (κ×ν)} {es:List MapEntry} (i:Nat),RM ow w f g E es→RM ow w f g (E.set i (k,v)) (es.modify i fun e=>{ e with key:=f k,val:=u })
 | [],[],i,_=>by rw [List.modify_nil]; trivial
 | p::r,e::es,0,⟨_,_,_,h⟩=>⟨rfl,hr,ho,h⟩
 | p::r,e::es,i+1,⟨h1,h2,h3,h⟩=>⟨h1,h2,h3,RM.mod hr ho i h⟩
 | [],_::_,_,h=>h.elim
 | _::_,[],_,h=>h.elim
theorem RM.out {ow:Nat→Bool} {w:World}:∀ {E:List (κ×ν)} {es:List MapEntry},RM ow w f g E es→∀ (a:List MapEntry) (e:MapEntry) (b:List MapEntry),es=a++e::b→∃ A p B,E=A++p::B∧e.key=f p.1∧R ow w (g p.2) e.val∧e.val.oneCell'=true∧RM ow w f g (A++B) (a++b)
 | [],[],_,a,e,b,h=>by cases a <;> cases h
 | p::r,e0::es,⟨h1,h2,h3,h4⟩,[],e,b,h=>by
  obtain ⟨rfl,rfl⟩:=List.cons.inj h
  exact ⟨[],p,r,rfl,h1,h2,h3,h4⟩
 | p::r,e0::es,⟨h1,h2,h3,h4⟩,a0::a,e,b,h=>by
  rw [List.cons_append] at h
  obtain ⟨rfl,hh⟩:=List.cons.inj h
  obtain ⟨A,q,B,rfl,q1,q2,q3,q4⟩:=RM.out h4 a e b hh
  exact ⟨p::A,q,B,rfl,q1,q2,q3,h1,h2,h3,q4⟩
 | [],_::_,h,_,_,_,_=>h.elim
 | _::_,[],h,_,_,_,_=>h.elim
def zv:List (κ×ν)→List MapEntry→List (κ×Value)
 | p::r,e::es=>(p.1,e.val)::zv r es
 | _,_=>[]
theorem zv_ok {ow:Nat→Bool} {w:World}:∀ {E:List (κ×ν)} {es:List MapEntry},RM ow w f g E es→es.map (fun e=>(e.key,e.val))=(zv E es).map (fun p=>(f p.1,p.2))
 | [],[],_=>rfl
 | p::r,e::es,⟨h1,_,_,h⟩=>by simp [zv,h1,zv_ok h]
 | [],_::_,h=>h.elim
 | _::_,[],h=>h.elim
theorem zv_plc {ow:Nat→Bool} {w:World} {k:κ}:∀ {E:List (κ×ν)} {es:List MapEntry},RM ow w f g E es→(mplc (zv E es) k).map (·.1)=(mplc E k).map (·.1)
 | [],[],_=>rfl
 | p::r,e::es,⟨_,_,_,h⟩=>by
  have ih:=zv_plc (k:=k) h
  unfold zv mplc
  simp only
  by_cases q:k=p.1
  ·simp [q]
  ·simp only [q,if_false]
   cases h1:mplc (zv r es) k <;> cases h2:mplc r k <;> simp_all
 | [],_::_,h=>h.elim
 | _::_,[],h=>h.elim
def Stp (es:List MapEntry) (clock:Nat):Prop:=(∀ e∈es,e.born<clock)∧es.Pairwise (fun x y=>x.born≠y.born)
theorem Stp.push {es:List MapEntry} {clock:Nat} (h:Stp es clock) (k v:Value):Stp (es++[{ key:=k,val:=v,born:=clock }]) (clock+1):=by
 refine ⟨fun e he=>?_,?_⟩
 ·rcases List.mem_append.1 he with he | he
  ·have:=h.1 e he; omega
  ·rw [List.mem_singleton.1 he]; exact Nat.lt_succ_self _
 ·rw [List.pairwise_append]
  refine ⟨h.2,by simp,fun a ha b hb=>?_⟩
  rw [List.mem_singleton.1 hb]
  have:=h.1 a ha
  simp only
  omega
theorem mod_born (k v:Value):∀ (es:List MapEntry) (i:Nat),(es.modify i fun e=>{ e with key:=k,val:=v }).map (·.born)=es.map (·.born)
 | [],i=>by rw [List.modify_nil]
 | e::es,0=>rfl
 | e::es,i+1=>by simp only [List.modify_succ_cons,List.map_cons,mod_born k v es i]
theorem Stp.of_born {es es':List MapEntry} {clock:Nat} (h:Stp es clock) (e:es'.map (·.born)=es.map (·.born)):Stp es' clock:=by
 refine ⟨fun x hx=>?_,?_⟩
 ·have:x.born∈es.map (·.born):=by rw [← e]; exact List.mem_map.2 ⟨x,hx,rfl⟩
  obtain ⟨y,hy,hb⟩:=List.mem_map.1 this
  rw [← hb]; exact h.1 y hy
 ·have h2:=(List.pairwise_map (f:=fun x:MapEntry=>x.born) (R:=fun a b:Nat=>a≠b)).2 h.2
  rw [← e] at h2
  exact List.pairwise_map.1 h2
def mapR (f:κ→Value) (g:ν→PV) (E:List (κ×ν)):Cust where
 I ow w h vs:=∃ b clock es,h=.map (some b)∧w.heap[b]?=some (.map es clock)∧RM ow w f g E es.toList∧Stp es.toList clock
 lt:=by
  rintro ow w h vs ⟨b,clock,es,rfl,h2,_⟩ b' hb
  simp [blocksOf,blockOf] at hb
  subst hb
  exact (Array.getElem?_eq_some_iff.1 h2).1
 kp:=by
  rintro ow ow' w w' h vs k hb ⟨b,clock,es,rfl,h2,h3,h4⟩
  exact ⟨b,clock,es,rfl,by rw [(hb b (by simp [blocksOf,blockOf])).1]; exact h2,h3.mono k,h4⟩
 one:=by rintro ow w h vs ⟨b,clock,es,rfl,_⟩; rfl
def itR (f:κ→Value) (g:ν→PV) (rest:List (κ×ν)) (cur:Option (κ×ν)):Cust where
 I ow w h vs:=∃ r b clock es since seen c0,h=.pointer (some ⟨r,0,none⟩)∧w.heap[r]?=some (.mapIter (some b) since seen c0)∧b<w.heap.size∧ow b=false∧w.heap[b]?=some (.map es clock)∧Stp es.toList clock∧(∀ e∈es.toList,e.born<since)∧since≤c0∧since≤clock ∧
  RM ow w f g rest (leftOf es seen).toList∧(∀ p,cur=some p→∃ e∈es.toList,∃ seen':Array Nat,seen=seen'.push e.born∧c0=clock∧e.key=f p.1∧R ow w (g p.2) e.val∧e.val.oneCell'=true)
 lt:=by
  rintro ow w h vs ⟨r,b,clock,es,since,seen,c0,rfl,h2,_⟩ b' hb
  simp [blocksOf,blockOf] at hb
  subst hb
  exact (Array.getElem?_eq_some_iff.1 h2).1
 kp:=by
  rintro ow ow' w w' h vs k hb ⟨r,b,clock,es,since,seen,c0,rfl,h2,h3,h4,h5,h6,h7,h8,h9,h10,h11⟩
  refine ⟨r,b,clock,es,since,seen,c0,rfl,by rw [(hb r (by simp [blocksOf,blockOf])).1]; exact h2,Nat.lt_of_lt_of_le h3 k.size,k.pub b h3 h4,by rw [k.same b h3 h4]; exact h5,h6,h7,h8,h9,h10.mono k,fun p hp=>?_⟩
  obtain ⟨e,q1,s,q2,q3,q4,q5,q6⟩:=h11 p hp
  exact ⟨e,q1,s,q2,q3,q4,R.mono k _ _ q5,q6⟩
 one:=by rintro ow w h vs ⟨r,b,clock,es,since,seen,c0,rfl,_⟩; rfl
end
section
variable {P:Program} {T:List TI} {n:Nat} {w0:Cx} {st:PS} {a:Act} {w:World} {ow:Nat→Bool} {hd:Nat→Value}
variable {κ ν:Type} [DecidableEq κ] {f:κ→Value} {g:ν→PV} {E:List (κ×ν)}
theorem SimW.newCu (S:SimW n w0 st a w ow hd) {l:Nat} (hl:st.m[l]?=some .free) (q:Cust) (o:Obj) (hv:Value) (hbl:∀ b,b∈blocksOf hv→b=w.heap.size) (hob:hv.oneCell'=true)
  (hI:∀ ow',ow' w.heap.size=true→Kp ow w ow' (w.alloc o)→q.I ow' (w.alloc o) hv []) :
  ∃ ow' hd',((∀ b,b<w.heap.size→ow' b=ow b)∧∀ j,al st.m j=true→al (st.m.set l (.cu q [])) j=true∧hd' j=hd j)∧hd' l=hv∧SimW n w0 ⟨st.f,st.m.set l (.cu q [])⟩ a (w.alloc o) ow' hd'∧al (st.m.set l (.cu q [])) l=true:=by
 have hsz:(w.alloc o).heap.size=w.heap.size+1:=by simp
 have hk:Kp ow w (fun b=>if b=w.heap.size then true else ow b) (w.alloc o) :=
  ⟨by rw [hsz]; omega,fun b hb h=>by show (if b=w.heap.size then true else ow b)=false; rw [if_neg (by omega)]; exact h,fun b hb _=>Below.heap_alloc w _ b hb⟩
 have hal:al st.m l=false:=by simp [al,hl,PO.made]
 have hlt:l<st.m.length:=(List.getElem?_eq_some_iff.1 hl).1
 have ha:∀ j,al st.m j=true→al (st.m.set l (.cu q [])) j=true∧upd hd l hv j=hd j:=by
  intro j hj
  refine ⟨al_set_mono rfl j hj,?_⟩
  rw [upd_ne]
  intro e; rw [e,hal] at hj; cases hj
 have S':=S.obj (l:=l) (hv:=hv) (o:=.cu q []) hk (Kt.of_below ((Below.refl _ _).alloc S.below.size _) (Nat.le_refl _))
  (fun b hb=>by rw [hsz] at hb; show (if b=w.heap.size then true else ow b)=false; rw [if_neg (by omega)]; exact S.fresh b (by omega)) (.inl hal) rfl
  ⟨fun b hb=>by
    rw [hbl b hb]
    exact ⟨.inl S.below.size,by simp⟩,
   [],by simp [RFL],hI _ (by simp) hk⟩
  (fun j oj b e hj hl hbk=>by
   have:=((S.objs j oj hj).lt hl b hbk).1
   refine ⟨Below.heap_alloc w _ b this,if_neg (by omega),fun _ he=>?_⟩
   have:=hbl b he
   omega)
 refine ⟨_,_,⟨?_,ha⟩,by rw [upd_same],S',by rw [al_set_same hlt]; rfl⟩
 intro b hb
 show (if b=w.heap.size then true else ow b)=ow b
 rw [if_neg (by omega)]
theorem rmake {t nl:Nat} (f:κ→Value) (g:ν→PV):Ext P T (.makeMap t none) [] [(nl,.free)] (.srf nl) [(nl,.cu (mapR f g []) [])]:=by
 intro n w0 st a w o hT hS ho hn hv hm K Q hK
 obtain ⟨ow,hd,hold,S⟩:=hS
 obtain ⟨d,op,ty,pos,af,gd⟩:=o
 simp only at ho hn hK
 subst ho
 have hml:=hm (nl,.free) (by simp)
 obtain ⟨ow',hd',⟨h1,h2⟩,h3,S',h4⟩:=S.newCu hml (mapR f g []) (.map #[] 0) (.map (some w.heap.size)) (fun b hb=>by simp [blocksOf,blockOf] at hb; exact hb) rfl
  (fun ow' _ _=>⟨w.heap.size,0,#[],rfl,heap_alloc_new w _,trivial,by simp,by simp⟩)
 have hrun:(execOp a.eval ⟨d,.makeMap t none,ty,pos,af,gd⟩).run P w=.ok (.value (.map (some w.heap.size))) (w.alloc (.map #[] 0)):=by
  have:(Instr.makeMap t none).run P w=.ok (.map (some w.heap.size)) (w.alloc (.map #[] 0)):=rfl
  simp only [execOp,Option.map_none,Sem.run_bind,this,Result.andThen_ok,Sem.run_pure]
 exact wp_val' hrun (hK _ _ ⟨ow',hd',hold.step fun b hb _=>h1 b (Nat.lt_of_lt_of_le hb S.below.size),S'.put hn (by simp only [RF]; exact ⟨h4,h3.symm,by rw [h3]; rfl⟩)⟩)
theorem rput {t kt et l:Nat} {x y z:Operand} {k:κ} {v:ν} {fk:FV} (hfk:KV fk (f k)) (h1:P.underlying t=some (.map kt et)) (hk:KW P kt f) (hone:∀ (ow:Nat→Bool) (w:World) (u:Value),R ow w (g v) u→u.oneCell'=true) :
  Ext P T (.mapUpdate t x y z) [.srf l,fk,.d (g v)] [(l,.cu (mapR f g E) [])] .dead [(l,.cu (mapR f g (mput E k v)) [])]:=by
 intro n w0 st a w o hT hS ho hn hv hm K Q hK
 obtain ⟨ow,hd,hold,S⟩:=hS
 obtain ⟨dst,op,ty,pos,af,gd⟩:=o
 simp only at ho hn hK
 subst ho
 simp [Op.operands] at hv
 obtain ⟨hv1,hv2,hv3⟩:=hv
 have hml:=hm (l,.cu (mapR f g E) []) (by simp)
 simp only at hml
 obtain ⟨g1,vs,g2,b,clock,es,q1,q2,q3,q4⟩:=S.objs l _ hml
 have hx:=S.eval x
 rw [hv1] at hx
 simp only [RF] at hx
 obtain ⟨_,hx,_⟩:=hx
 have hy:a.eval y=f k:=by have:=S.eval y; rw [hv2] at this; exact hfk _ _ _ _ _ this
 have hz:=S.d hv3
 have hzo:=hone _ _ _ hz
 generalize hzu:a.eval z=u at hz hzo
 have q3':=zv_ok q3
 have hf:=hk.find (fun q:Value=>q) k es.toList (zv E es.toList) w q3'
 have hpl:=zv_plc (k:=k) q3
 have hgo:∃ es' clock',(Instr.mapUpdate t (.map (some b)) (f k) u).run P w=.ok () { w with heap:=w.heap.setIfInBounds b (.map es' clock') }∧RM ow w f g (mput E k v) es'.toList∧Stp es'.toList clock':=by
  cases hq:mplc (zv E es.toList) k with
  | none =>
   rw [hq] at hf hpl
   have hq':mplc E k=none:=by cases h:mplc E k with | none=>rfl | some _=>rw [h] at hpl; cases hpl
   refine ⟨es.push { key:=f k,val:=u,born:=clock },clock+1,?_,?_,?_⟩
   ·simp [Instr.mapUpdate,run_underlying h1,MapKept.run_getObj_map q2,hk.chk,hf,run_setObj_map _ q2,Result.andThen]
   ·simp only [mput,hq',Array.toList_push]
    exact q3.app ⟨rfl,hz,hzo,trivial⟩
   ·rw [Array.toList_push]; exact q4.push _ _
  | some q =>
   obtain ⟨i,v0⟩:=q
   rw [hq] at hf hpl
   have he:=mplc_some hq
   have hi:(es.toList.map (fun e=>(e.key,e.val)))[i]?=some (f k,v0):=by rw [q3',List.getElem?_map,he]; rfl
   rw [List.getElem?_map] at hi
   cases hq':mplc E k with
   | none=>rw [hq'] at hpl; cases hpl
   | some q' =>
    obtain ⟨i',v1⟩:=q'
    rw [hq'] at hpl
    simp at hpl
    subst hpl
    cases hj:es.toList[i]? with
    | none=>simp [hj] at hi
    | some e =>
     simp [hj] at hi
     have hj':es[i]?=some e:=by simpa using hj
     refine ⟨es.modify i fun e=>{ e with key:=f k,val:=u },clock,?_,?_,?_⟩
     ·simp [Instr.mapUpdate,run_underlying h1,MapKept.run_getObj_map q2,hk.chk,hf,hj',hi.1,hk.stay,run_setObj_map _ q2,Result.andThen]
     ·simp only [mput,hq',Array.toList_modify]
      exact q3.mod hz hzo i
     ·rw [Array.toList_modify]
      exact q4.of_born (mod_born _ _ _ _)
 obtain ⟨es',clock',hrun,hes,hst⟩:=hgo
 have hrun':(execOp a.eval ⟨dst,.mapUpdate t x y z,ty,pos,af,gd⟩).run P w=.ok .skip { w with heap:=w.heap.setIfInBounds b (.map es' clock') }:=by
  simp only [execOp,hx,q1,hy,hzu,Sem.run_bind,hrun,Result.andThen_ok,Sem.run_pure]
 obtain ⟨h2,h3⟩:=heap_set (o':=.map es' clock') q2
 obtain ⟨hnw,how⟩:=g1 b (by rw [q1]; first | rfl | simp [blocksOf,blockOf])
 have hbel:Below 0 w { w with heap:=w.heap.setIfInBounds b (.map es' clock') }:=⟨rfl,rfl,rfl,by simp,fun j hj=>by omega⟩
 have hkp:Kp ow w ow { w with heap:=w.heap.setIfInBounds b (.map es' clock') }:=⟨by simp,fun _ _ h=>h,fun j _ hj=>h3 j (fun e=>by rw [e,how] at hj; cases hj)⟩
 have S':=S.set (l:=l) (b:=b) (o':=.cu (mapR f g (mput E k v)) []) hml rfl rfl (by rw [q1]; first | rfl | simp [blocksOf,blockOf]) h3 (by simp) (Kt.of_one hbel hnw h3)
  ⟨fun b' hb'=>g1 b' hb',[],by simp [RFL],b,clock',es',q1,h2,hes.mono hkp,hst⟩
 exact wp_skip' hrun' (hK _ _ ⟨ow,hd,hold,by
  have:=S'.put hn (x:=.dead) (v:=undef) (by simp only [RF])
  exact this⟩)
theorem leftOf_nil (es:Array MapEntry):leftOf es #[]=es:=by
 unfold leftOf
 rw [Array.filter_eq_self]
 intro e _; simp
theorem rrange {t kt et l nl:Nat} {x:Operand} (h1:P.underlying t=some (.map kt et)) (hne:l≠nl) :
  Ext P T (.range t x) [.srf l] [(l,.cu (mapR f g E) []),(nl,.free)] (.ref nl 0) [(l,.none),(nl,.cu (itR f g E none) [])]:=by
 intro n w0 st a w o hT hS ho hn hv hm K Q hK
 obtain ⟨ow,hd,hold,S⟩:=hS
 obtain ⟨dst,op,ty,pos,af,gd⟩:=o
 simp only at ho hn hK
 subst ho
 simp [Op.operands] at hv
 have hml:=hm (l,.cu (mapR f g E) []) (by simp)
 have hmn:=hm (nl,.free) (by simp)
 simp only at hml hmn
 obtain ⟨g1,vs,g2,b,clock,es,q1,q2,q3,q4⟩:=S.objs l _ hml
 have hx:=S.eval x
 rw [hv] at hx
 simp only [RF] at hx
 obtain ⟨_,hx,_⟩:=hx
 obtain ⟨hnw,how⟩:=g1 b (by rw [q1]; first | rfl | simp [blocksOf,blockOf])
 have hbl:=(Array.getElem?_eq_some_iff.1 q2).1
 have hlt:l<st.m.length:=(List.getElem?_eq_some_iff.1 hml).1
 -- the map is nobody's any more
 have S1:=S.kill l
 obtain ⟨hk1,hold1,S2⟩:=S1.publ hold (fun j=>j == b) (fun j hj=>(show j=b by simpa using hj) ▸ hnw) (fun j oj b' hj hl hb'=>by
  by_cases e:j=l
  ·subst e
   rw [List.getElem?_set,if_pos rfl,if_pos hlt] at hj
   obtain rfl:=Option.some.inj hj
   cases hl
  ·rw [List.getElem?_set,if_neg (fun q=>e q.symm)] at hj
   by_cases q:b'=b
   ·subst q
    exact absurd hb' (S.dist l j _ oj b' (fun z=>e z.symm) hml hj rfl hl (by rw [q1]; first | rfl | simp [blocksOf,blockOf]))
   ·simpa using q)
 have hmn':(st.m.set l .none)[nl]?=some .free:=by rw [List.getElem?_set,if_neg hne]; exact hmn
 obtain ⟨ow',hd',⟨h2,h3⟩,h4,S3,h5⟩:=S2.newCu hmn' (itR f g E none) (.mapIter (some b) clock #[] clock) (.pointer (some ⟨w.heap.size,0,none⟩)) (fun b' hb'=>by simp [blocksOf,blockOf] at hb'; exact hb') rfl
  (fun ow' _ hkp=>⟨w.heap.size,b,clock,es,clock,#[],clock,rfl,heap_alloc_new w _,by simp; omega,hkp.pub b hbl (by simp),by rw [hkp.same b hbl (by simp)]; exact q2,q4,q4.1,Nat.le_refl _,Nat.le_refl _,by rw [leftOf_nil]; exact (q3.mono hk1).mono hkp,fun p hp=>by cases hp⟩)
 have hrun:(execOp a.eval ⟨dst,.range t x,ty,pos,af,gd⟩).run P w=.ok (.value (.pointer (some ⟨w.heap.size,0,none⟩))) (w.alloc (.mapIter (some b) clock #[] clock)):=by
  simp only [execOp,hx,q1,Sem.run_bind,run_range_map w t kt et b es clock h1 q2,Result.andThen_ok,Sem.run_pure]
 refine wp_val' hrun (hK _ _ ⟨ow',hd',hold1.step fun b hb _=>h2 b (Nat.lt_of_lt_of_le hb S.below.size),?_⟩)
 exact S3.put hn (by simp only [RF]; exact ⟨h5,w.heap.size,h4,rfl⟩)
theorem rentry {l:Nat} {x:Operand} {rest:List (κ×ν)} {k:κ} {v:ν} (hone:(f k).oneCell'=true) :
  Ext P T (.entry x) [.ref l 0] [(l,.cu (itR f g rest (some (k,v))) [])] (.d (.tup [.v (f k),g v])) [(l,.cu (itR f g rest none) [])]:=by
 intro n w0 st a w o hT hS ho hn hv hm K Q hK
 obtain ⟨ow,hd,hold,S⟩:=hS
 obtain ⟨dst,op,ty,pos,af,gd⟩:=o
 simp only at ho hn hK
 subst ho
 simp [Op.operands] at hv
 have hml:=hm (l,.cu (itR f g rest (some (k,v))) []) (by simp)
 simp only at hml
 obtain ⟨g1,vs,g2,r,b,clock,es,since,seen,c0,q1,q2,q3,q4,q5,q6,q7,q8,q9,q10,q11⟩:=S.objs l _ hml
 obtain ⟨e,e1,s',rfl,rfl,e4,e5,e6⟩:=q11 _ rfl
 have hx:=S.eval x
 rw [hv] at hx
 simp only [RF] at hx
 obtain ⟨_,b',hb',hx⟩:=hx
 rw [q1] at hb'
 simp at hb'
 subst hb'
 have hnd:(es.toList.map (·.born)).Nodup:=List.pairwise_map.2 q6.2
 have hrun:(execOp a.eval ⟨dst,.entry x,ty,pos,af,gd⟩).run P w=.ok (.value (.tuple #[e.key,e.val])) w:=by
  simp only [execOp,hx,Sem.run_bind,run_entry_at w r b since s' es c0 e q2 q5 e1 hnd,Result.andThen_ok,Sem.run_pure]
 obtain ⟨hnw,how⟩:=g1 r (by rw [q1]; first | rfl | simp [blocksOf,blockOf])
 have S':=S.set (l:=l) (b:=r) (o':=.cu (itR f g rest none) []) hml rfl rfl (by rw [q1]; first | rfl | simp [blocksOf,blockOf]) (fun _ _=>rfl) rfl (Kt.refl _ _)
  ⟨fun b' hb'=>g1 b' hb',[],by simp [RFL],r,b,c0,es,since,s'.push e.born,c0,q1,q2,q3,q4,q5,q6,q7,q8,q9,q10,fun p hp=>by cases hp⟩
 refine wp_val' hrun (hK _ _ ⟨ow,hd,hold,S'.put hn ?_⟩)
 simp only [RF,R,RT]
 simp only at e4 e5
 exact ⟨_,rfl,_,_,rfl,⟨e4,hone⟩,_,_,rfl,e5,rfl⟩
def ndReg:Code→Option (Nat×Nat×Nat)
 | .region _ ops false=>match ops.toList with
  | [⟨some d1,.next (.tmp it) false,_,_,_,none⟩,⟨some d2,.extract (.tmp d1') 0,_,_,_,none⟩]=>if d1=d1' then some (it,d1,d2) else none
  | _=>none
 | _=>none
theorem eval_put {a:Act} {d:Nat} {v:Value} (h:d<a.tmps.size):(a.put (some d) v).eval (.tmp d)=v:=by
 simp [Act.put,Act.eval,Array.getElem?_set,h]
theorem nd_next {κ ν:Type} [DecidableEq κ] {f:κ→Value} {g:ν→PV} {Fin:Ex→PS→Prop} {c:Code} {it d1 d2 l:Nat} {rest:List (κ×ν)} {cur:Option (κ×ν)} {ks:List Fr} (hc:ndReg c=some (it,d1,d2)) (hn:(Nat.blt d1 n&&Nat.blt d2 n)=true)
  (hit:st.f[it]?=some (.ref l 0)) (hm:st.m[l]?=some (.cu (itR f g rest cur) []))
  (done:rest=[]→RunE P n Fin ks .normal ⟨putF (putF st.f (some d1) .dead) (some d2) (.d (.v (.bool false))),st.m⟩)
  (more:∀ A p B,rest=A++p::B→RunE P n Fin ks .normal ⟨putF (putF st.f (some d1) .dead) (some d2) (.d (.v (.bool true))),st.m.set l (.cu (itR f g (A++B) (some p)) [])⟩) :
  RunE P n Fin (.s c::ks) .normal st:=by
 unfold ndReg at hc
 split at hc
 ·rename_i id ops
  split at hc
  ·rename_i d1' it' t1 p1 a1 d2' d1'' t2 p2 a2 hops
   split at hc
   ·rename_i hd
    subst hd
    simp only [Option.some.injEq,Prod.mk.injEq] at hc
    obtain ⟨rfl,rfl,rfl⟩:=hc
    simp only [Bool.and_eq_true] at hn
    have hn1:=Nat.le_of_ble_eq_true hn.1
    have hn2:=Nat.le_of_ble_eq_true hn.2
    intro w0 a w hS
    obtain ⟨ow,hd,hold,S⟩:=hS
    refine wp_region_list ?_
    rw [hops]
    obtain ⟨g1,vs,g2,r,b,clock,es,since,seen,c0,q1,q2,q3,q4,q5,q6,q7,q8,q9,q10,q11⟩:=S.objs l _ hm
    have hx:RF (al st.m) hd ow w (.ref l 0) (a.eval (.tmp it')):=by
     have:=S.slots it'
     rw [List.getD_eq_getElem?_getD,hit] at this
     exact this
    simp only [RF] at hx
    obtain ⟨_,b',hb',hx⟩:=hx
    rw [q1] at hb'
    simp at hb'
    subst hb'
    have hz1:d1'<a.tmps.size:=by rw [S.size]; exact hn1
    refine wpList_plain rfl fun K1 hK1=>?_
    rcases run_next_at (P:=P) w t1 r b since c0 seen es clock q2 q5 q7 q8 with ⟨h0,hrun⟩ | ⟨e,he,w1,hw1,hrun⟩
    ·have hr0:rest=[]:=by
      have:=q10.len
      simp at this
      exact List.eq_nil_of_length_eq_zero (by omega)
     have hrun':(execOp a.eval ⟨some d1',.next (.tmp it') false,t1,p1,a1,none⟩).run P w=.ok (.value (.tuple #[.bool false])) w:=by
      simp only [execOp,hx,Sem.run_bind,hrun,Result.andThen_ok,Sem.run_pure]
     refine wp_val' hrun' (hK1 _ _ ?_)
     refine wpList_plain rfl fun K2 hK2=>?_
     have hrun2:(execOp (a.put (some d1') (.tuple #[.bool false])).eval ⟨some d2',.extract (.tmp d1') 0,t2,p2,a2,none⟩).run P w=.ok (.value (.bool false)) w:=by
      simp [execOp,eval_put hz1,Instr.extract]
     refine wp_val' hrun2 (hK2 _ _ ?_)
     have S1:=S.put (d:=some d1') (fun k hk=>by cases hk; exact hn1) (x:=.dead) (v:=.tuple #[.bool false]) (by simp only [RF])
     have S2:=S1.put (d:=some d2') (fun k hk=>by cases hk; exact hn2) (x:=.d (.v (.bool false))) (v:=.bool false) (by simp only [RF,R]; exact ⟨trivial,rfl⟩)
     exact ⟨.normal,_,rfl,done hr0,ow,hd,hold,S2⟩
    ·obtain ⟨X,Y,hXY⟩:=List.append_of_mem he
     obtain ⟨A,p,B,hE,p1',p2',p3',p4'⟩:=q10.out X e Y hXY
     have hrun':(execOp a.eval ⟨some d1',.next (.tmp it') false,t1,p1,a1,none⟩).run P w=.ok (.value (.tuple #[.bool true,e.key,e.val])) (Go.ChangeMaps.setBlock w1 r (.mapIter (some b) since (seen.push e.born) clock)):=by
      simp only [execOp,hx,Sem.run_bind,hrun,Result.andThen_ok,Sem.run_pure]
     refine wp_val' hrun' (hK1 _ _ ?_)
     refine wpList_plain rfl fun K2 hK2=>?_
     generalize hw':Go.ChangeMaps.setBlock w1 r (.mapIter (some b) since (seen.push e.born) clock)=w'
     have hrun2:(execOp (a.put (some d1') (.tuple #[.bool true,e.key,e.val])).eval ⟨some d2',.extract (.tmp d1') 0,t2,p2,a2,none⟩).run P w'=.ok (.value (.bool true)) w':=by
      simp [execOp,eval_put hz1,Instr.extract]
     refine wp_val' hrun2 (hK2 _ _ ?_)
     obtain ⟨hnw,how⟩:=g1 r (by rw [q1]; first | rfl | simp [blocksOf,blockOf])
     have hrw:r<w.heap.size:=(Array.getElem?_eq_some_iff.1 q2).1
     have hh:w'.heap=w.heap.setIfInBounds r (.mapIter (some b) since (seen.push e.born) clock):=by
      rw [← hw']; rcases hw1 with rfl | rfl <;> rfl
     have hos:w'.os=w.os∧w'.tape=w.tape∧w'.output=w.output:=by
      rw [← hw']; rcases hw1 with rfl | rfl <;> exact ⟨rfl,rfl,rfl⟩
     have ho:∀ j,j≠r→w'.heap[j]?=w.heap[j]?:=fun j hj=>by rw [hh,Array.getElem?_setIfInBounds,if_neg (fun e=>hj e.symm)]
     have hr2:w'.heap[r]?=some (.mapIter (some b) since (seen.push e.born) clock):=by rw [hh,Array.getElem?_setIfInBounds,if_pos rfl,if_pos hrw]
     have hsz':w'.heap.size=w.heap.size:=by rw [hh]; simp
     have hkp:Kp ow w ow w':=⟨by omega,fun _ _ h=>h,fun j _ hj=>ho j (fun e=>by rw [e,how] at hj; cases hj)⟩
     have hbr:b≠r:=fun e=>by rw [e,how] at q4; cases q4
     have heE:e∈es.toList:=by
      have:=he
      unfold leftOf at this
      simp at this
      simpa using this.1
     have hleft:(leftOf es (seen.push e.born)).toList=X++Y:=by
      have e0:(leftOf es (seen.push e.born)).toList=(leftOf es seen).toList.filter (fun x=>!(x.born == e.born)):=by
       unfold leftOf
       simp only [Array.toList_filter,List.filter_filter]
       refine List.filter_congr fun x _=>?_
       rw [Array.contains_push]
       cases seen.contains x.born <;> cases h:(x.born == e.born) <;> simp_all
      rw [e0,hXY,List.filter_append,List.filter_cons]
      have hpw:(leftOf es seen).toList.Pairwise (fun x y=>x.born≠y.born):=by
       unfold leftOf
       rw [Array.toList_filter]
       exact q6.2.filter _
      rw [hXY,List.pairwise_append] at hpw
      obtain ⟨_,w2,w3⟩:=hpw
      have w4:=(List.pairwise_cons.1 w2).1
      have fX:X.filter (fun x=>!(x.born == e.born))=X:=List.filter_eq_self.2 fun x hx=>by have:=w3 x hx e (by simp); simpa using this
      have fY:Y.filter (fun x=>!(x.born == e.born))=Y:=List.filter_eq_self.2 fun x hx=>by have:=w4 x hx; simpa using fun z=>this z.symm
      rw [fX,fY]
      simp
     have S0:=S.set (l:=l) (b:=r) (o':=.cu (itR f g (A++B) (some p)) []) hm rfl rfl (by rw [q1]; first | rfl | simp [blocksOf,blockOf]) ho hsz' (Kt.of_one ⟨hos.1,hos.2.1,hos.2.2,by omega,fun j hj=>by omega⟩ hnw ho (B:=0))
      ⟨fun b' hb'=>g1 b' hb',[],by simp [RFL],r,b,clock,es,since,seen.push e.born,clock,q1,hr2,by omega,q4,by rw [ho b hbr]; exact q5,q6,q7,q9,q9,by rw [hleft]; exact p4'.mono hkp,fun p0 hp0=>by
       cases hp0
       exact ⟨e,heE,seen,rfl,rfl,p1',R.mono hkp _ _ p2',p3'⟩⟩
     have S1:=S0.put (d:=some d1') (fun k hk=>by cases hk; exact hn1) (x:=.dead) (v:=.tuple #[.bool true,e.key,e.val]) (by simp only [RF])
     have S2:=S1.put (d:=some d2') (fun k hk=>by cases hk; exact hn2) (x:=.d (.v (.bool true))) (v:=.bool true) (by simp only [RF,R]; exact ⟨trivial,rfl⟩)
     exact ⟨.normal,_,rfl,more A p B hE,ow,hd,hold,S2⟩
   ·cases hc
  ·cases hc
 ·cases hc
theorem slone {xs:List PV} (ow:Nat→Bool) (w:World) (u:Value) (h:R ow w (.sl xs) u):u.oneCell'=true:=by
 simp only [R] at h
 obtain ⟨a,c,rfl,_⟩:=h
 rfl
end
def insAll {α:Type} (x:α):List α→List (List α)
 | []=>[[x]]
 | y::l=>(x::y::l)::(insAll x l).map (y::·)
def perms {α:Type}:List α→List (List α)
 | []=>[[]]
 | x::l=>(perms l).flatMap (insAll x)
theorem mem_ins {α:Type} {x:α}:∀ {A B:List α},A++x::B∈insAll x (A++B)
 | [],[]=>by simp [insAll]
 | [],y::B=>by simp [insAll]
 | a::A,B=>by
  simp only [List.cons_append,insAll,List.mem_cons,List.mem_map]
  exact .inr ⟨_,mem_ins,rfl⟩
theorem of_ins {α:Type} {x:α}:∀ {l q:List α},q∈insAll x l→q.Perm (x::l)
 | [],q,h=>by simp [insAll] at h; subst h; exact .refl _
 | y::l,q,h=>by
  simp only [insAll,List.mem_cons,List.mem_map] at h
  rcases h with rfl | ⟨z,hz,rfl⟩
  ·exact .refl _
  ·exact (List.Perm.cons y (of_ins hz)).trans (List.Perm.swap x y l)
theorem mem_perms {α:Type}:∀ {l q:List α},q.Perm l→q∈perms l
 | [],q,h=>by rw [h.eq_nil]; simp [perms]
 | x::l,q,h=>by
  have hx:x∈q:=h.symm.subset (by simp)
  obtain ⟨A,B,rfl⟩:=List.append_of_mem hx
  have h2:(A++B).Perm l:=(List.perm_middle.symm.trans h).cons_inv
  simp only [perms,List.mem_flatMap]
  exact ⟨_,mem_perms h2,mem_ins⟩
theorem of_perms {α:Type}:∀ {l q:List α},q∈perms l→q.Perm l
 | [],q,h=>by simp [perms] at h; subst h; exact .refl _
 | x::l,q,h=>by
  simp only [perms,List.mem_flatMap] at h
  obtain ⟨z,hz,hq⟩:=h
  exact (of_ins hq).trans (List.Perm.cons x (of_perms hz))
end Go.Proofs.Ytgdhhaddfllkaaa.pv
namespace Go.Proofs.Ytgdhhaddfllkaaa.pv
set_option linter.all false
open Go.RowKit
def clipI (s:Nat) (xs:List PV) (ow:Nat→Bool) (w:World) (h:Value):Prop:=∃ (b:Nat) (cells:List Value),h=.slice (some ⟨b,0,none⟩) xs.length xs.length∧xs.length≤maxLen∧b<w.heap.size∧w.rangeAt b 0 cells∧RE ow w s xs cells
def rowF (e s:Nat) (xs:List PV):Cust where
 I:=fun ow w h _=>(∃ cells,w.ownsRow 0 e s h xs.length cells∧RE ow w s xs cells)∨clipI s xs ow w h
 lt:=by
  rintro ow w h vs (⟨cells,h1,_⟩ | ⟨g,cells,rfl,_,h2,_⟩) b hb
  ·exact (owns_bo h1 hb).2
  ·simp [blocksOf,blockOf] at hb; subst hb; exact h2
 kp:=by
  rintro ow ow' w w' h vs k hb (⟨cells,h1,h2⟩ | ⟨g,cells,h1,h2,h3,h4,h5⟩)
  ·exact .inl ⟨cells,ownsRow_kept h1 fun b e=>(hb b e).1,RE.mono k _ _ _ h2⟩
  ·have:=(hb g (by rw [h1]; simp [blocksOf,blockOf])).1
   exact .inr ⟨g,cells,h1,h2,Nat.lt_of_lt_of_le h3 k.size,rangeAt_kp this h4,RE.mono k _ _ _ h5⟩
 one:=by
  rintro ow w h vs (⟨cells,h1,_⟩ | ⟨g,cells,rfl,_⟩)
  ·exact owns_one h1
  ·rfl
 dat:=some xs
 fz:=by
  rintro ow ow0 w h vs ys e hI hk hb
  cases e
  rcases hI with ⟨cells,h1,h2⟩ | ⟨g,cells,h1,h2,h3,h4,h5⟩
  ·exact own_R h1 h2 hk hb
  ·simp only [R]
   exact ⟨some ⟨g,0,none⟩,xs.length,h1,Nat.le_refl _,h2,.inr ⟨g,0,s,cells,rfl,h3,hb g (by rw [h1]; simp [blocksOf,blockOf]),h4,RE.mono hk _ _ _ h5⟩⟩
def oldI (s:Nat) (xs:List PV) (ow:Nat→Bool) (w:World) (h:Value):Prop:=(h=.slice none 0 0∧xs=[])∨∃ (b C:Nat) (cells:List Value),h=.slice (some ⟨b,0,none⟩) xs.length C∧xs.length≤C∧C≤maxLen∧b<w.heap.size∧w.rangeAt b 0 cells∧RE ow w s xs cells
theorem oldI.kp {s:Nat} {xs:List PV} {ow ow':Nat→Bool} {w w':World} {h:Value} (k:Kp ow w ow' w') (hb:∀ b,b∈blocksOf h→w'.heap[b]?=w.heap[b]?) (ho:oldI s xs ow w h):oldI s xs ow' w' h:=by
 rcases ho with ho | ⟨b,C,cells,h1,h2,h3,h4,h5,h6⟩
 ·exact .inl ho
 ·exact .inr ⟨b,C,cells,h1,h2,h3,Nat.lt_of_lt_of_le h4 k.size,rangeAt_kp (hb b (by rw [h1]; simp [blocksOf,blockOf])) h5,RE.mono k _ _ _ h6⟩
theorem oldI.lt {s:Nat} {xs:List PV} {ow:Nat→Bool} {w:World} {h:Value} (ho:oldI s xs ow w h):∀ b,b∈blocksOf h→b<w.heap.size:=by
 intro b hb
 rcases ho with ⟨rfl,_⟩ | ⟨b',C,cells,h1,h2,h3,h4,h5,h6⟩
 ·simp [blocksOf,blockOf] at hb
 ·rw [h1] at hb; simp [blocksOf,blockOf] at hb; subst hb; exact h4
def splC (e s:Nat) (xs ys:List PV):Cust where
 I:=fun ow w h vs=>∃ hL,vs=[hL]∧oldI s xs ow w hL∧((∃ cells,w.ownsRow 0 e s h ys.length cells∧RE ow w s ys cells∧∀ b,b∈blocksOf hL→ow b=false)∨(∃ (b C:Nat),hL=.slice (some ⟨b,0,none⟩) xs.length C∧h=.slice (some ⟨b,0,none⟩) ys.length ys.length∧ys=xs.take ys.length))
 lt:=by
  rintro ow w h vs ⟨hL,rfl,ho,⟨cells,h1,_⟩ | ⟨g,C,h1,h2,h3⟩⟩ b hb
  ·exact (owns_bo h1 hb).2
  ·exact ho.lt b (by rw [h1]; rw [h2] at hb; simpa [blocksOf,blockOf] using hb)
 kp:=by
  rintro ow ow' w w' h vs k hb ⟨hL,rfl,ho,⟨cells,h1,h2,h3⟩ | ⟨g,C,h1,h2,h3⟩⟩
  ·exact ⟨hL,rfl,ho.kp k fun b hb'=>k.same b (ho.lt b hb') (h3 b hb'),.inl ⟨cells,ownsRow_kept h1 fun b e=>(hb b e).1,RE.mono k _ _ _ h2,fun b hb'=>k.pub b (ho.lt b hb') (h3 b hb')⟩⟩
  ·exact ⟨hL,rfl,ho.kp k fun b hb'=>(hb b (by rw [h1] at hb'; rw [h2]; simpa [blocksOf,blockOf] using hb')).1,.inr ⟨g,C,h1,h2,h3⟩⟩
 one:=by
  rintro ow w h vs ⟨hL,rfl,ho,⟨cells,h1,_⟩ | ⟨g,C,h1,h2,h3⟩⟩
  ·exact owns_one h1
  ·rw [h2]; rfl
section
variable {P:Program} {T:List TI} {n:Nat} {w0:Cx} {st:PS} {a:Act} {w:World} {ow:Nat→Bool} {hd:Nat→Value}
theorem rowF_hd {A:Nat→Bool} {c:Cx} {h:Value} {e s:Nat} {xs:List PV} (hr:RO A hd c ow w h (.cu (rowF e s xs) [])):∃ ad cap,h=.slice ad xs.length cap∧xs.length≤cap∧cap≤maxLen:=by
 obtain ⟨_,vs,_,⟨cells,h1,h2⟩ | ⟨g,cells,h1,h2,_⟩⟩:=hr
 ·rcases h1.2 with ⟨q1,q2⟩ | ⟨g,cap,cur,q1,_,_,q2,q3,_⟩
  ·exact ⟨none,0,by rw [q1,q2],by omega,by simp [maxLen]⟩
  ·exact ⟨_,cap,q1,q2,q3⟩
 ·exact ⟨_,_,h1,Nat.le_refl _,h2⟩
def toF (l e s:Nat) (xs:List PV) (st:PS):PS:=⟨st.f,st.m.set l (.cu (rowF e s xs) [])⟩
theorem row_toF {l e s:Nat} {xs:List PV}:SilX [(l,.row e s xs)] (toF l e s xs):=by
 intro st hm
 refine ⟨rfl,fun n w0 a w S=>?_⟩
 obtain ⟨ow,hd,hold,S⟩:=S
 have hml:=hm (l,.row e s xs) (by simp)
 simp only at hml
 obtain ⟨cells,h1,h2,h3⟩:=S.objs l _ hml
 exact ⟨ow,hd,hold,S.re hml rfl rfl ⟨h2,[],by simp [RFL],.inl ⟨cells,h1,h3⟩⟩⟩
theorem spl_toF {l L e s:Nat} {xs ys:List PV}:SilX [(l,.cu (splC e s xs ys) [.srf L])] (toF l e s ys):=by
 intro st hm
 refine ⟨rfl,fun n w0 a w S=>?_⟩
 obtain ⟨ow,hd,hold,S⟩:=S
 have hml:=hm (l,.cu (splC e s xs ys) [.srf L]) (by simp)
 simp only at hml
 obtain ⟨h1,vs,h2,hL,h3,ho,h4⟩:=S.objs l _ hml
 refine ⟨ow,hd,hold,S.re hml rfl rfl ⟨h1,[],by simp [RFL],?_⟩⟩
 rcases h4 with ⟨cells,h5,h6,_⟩ | ⟨b,C,h5,h6,h7⟩
 ·exact .inl ⟨cells,h5,h6⟩
 ·rcases ho with ⟨ho,_⟩ | ⟨b',C',cells,k1,k2,k3,k4,k5,k6⟩
  ·rw [h5] at ho; cases ho
  ·rw [h5] at k1
   simp at k1
   obtain ⟨rfl,rfl⟩:=k1
   have hy:ys.length≤xs.length:=by rw [h7]; simp; omega
   refine .inr ⟨b,cells.take (ys.length*s),h6,by omega,k4,fun j v hj=>k5 j v ?_,?_⟩
   ·rw [List.getElem?_take] at hj
    split at hj
    ·exact hj
    ·cases hj
   ·have:=RE.take ys.length k6
    rw [← h7] at this; exact this
theorem flen {t l e s:Nat} {xs:List PV} {x:Operand} (h1:tsl T t=some (e,s)):Ext P T (.call ⟨.builtin .len,#[x],#[t]⟩) [.srf l] [(l,.cu (rowF e s xs) [])] (.d (.v (.int .i64 (xs.length:Int)))) []:=by
 intro n w0 st a w oo hT hS ho hn hv hm K Q hK
 obtain ⟨ow,hd,hold,S⟩:=hS
 obtain ⟨d,op,ty,pos,af,gd⟩:=oo
 simp only at ho hn hK
 subst ho
 simp [Op.operands,Call.operands] at hv
 have hml:=hm (l,.cu (rowF e s xs) []) (by simp)
 simp only at hml
 obtain ⟨ad,cap,hh,_,_⟩:=rowF_hd (S.objs l _ hml)
 have hx:=S.eval x
 rw [hv] at hx
 simp only [RF] at hx
 have hrun:(execOp a.eval ⟨d,.call ⟨.builtin .len,#[x],#[t]⟩,ty,pos,af,gd⟩).run P w=.ok (.value (.int .i64 (xs.length:Int))) w:=by
  simp [execOp,resolve,invoke,builtin,hx.2.1,hh,Builtin.len_,run_underlying (tsl_und hT h1).1,goInt]
 exact wp_val hrun (hK _ _ ⟨ow,hd,hold,S.put hn (x:=.d (.v (.int .i64 (xs.length:Int)))) (by simp only [RF,R]; exact ⟨trivial,rfl⟩)⟩)
theorem fsl10 {t l e s:Nat} {xs:List PV} {x lo:Operand} {ka:IntKind} {i:Int} (h1:tsl T t=some (e,s)) (c:0≤i∧i≤xs.length):Ext P T (.slice t x (some lo) none none) [.srf l,.d (.v (.int ka i))] [(l,.cu (rowF e s xs) [])] (.ssl l i.toNat xs.length s) []:=by
 intro n w0 st a w oo hT hS ho hn hv hm K Q hK
 obtain ⟨ow,hd,hold,S⟩:=hS
 obtain ⟨d,op,ty,pos,af,gd⟩:=oo
 simp only at ho hn hK
 subst ho
 simp [Op.operands] at hv
 have hml:=hm (l,.cu (rowF e s xs) []) (by simp)
 simp only at hml
 obtain ⟨ad,cap,hh,hle,hcm⟩:=rowF_hd (S.objs l _ hml)
 have hx:=S.eval x
 rw [hv.1] at hx
 simp only [RF] at hx
 obtain ⟨hx0,hx1,_⟩:=hx
 obtain ⟨hu,hs⟩:=tsl_und hT h1
 have hb:=sliceBounds_opt (P:=P) (w:=w) (len:=xs.length) (cap:=cap) (lo:=some lo) (hi:=none) (i:=i) (h:=(xs.length:Int)) S (by simp [optInt,hv.2]) (by simp [optInt]) c.1 c.2 (by omega)
 simp only [Option.map_some,Option.map_none,Int.toNat_natCast] at hb
 refine wp_val (v:=.slice (if cap=i.toNat then ad else ad.map (·.add (i.toNat*s))) (xs.length-i.toNat) (cap-i.toNat)) (by simp [execOp,Instr.sliceAt,Instr.slice,run_underlying hu,hx1,hh,hb,tsz_run hT hs]) (hK _ _ ⟨ow,hd,hold,S.put hn ?_⟩)
 simp only [RF]
 exact ⟨hx0,ad,xs.length,cap,hh,by omega,hle,rfl⟩
theorem fclip {t l nl e s:Nat} {xs ys:List PV} {x hi mx:Operand} {kb kc:IntKind} {i:Int} (h1:tsl T t=some (e,s)) (c:0≤i∧i≤xs.length) (hy:ys=xs.take i.toNat) (hne:l≠nl):Ext P T (.slice t x none (some hi) (some mx)) [.srf l,.d (.v (.int kb i)),.d (.v (.int kc i))] [(l,.cu (rowF e s xs) []),(nl,.free)] (.srf nl) [(l,.none),(nl,.cu (splC e s xs ys) [.srf l])]:=by
 intro n w0 st a w oo hT hS ho hn hv hm K Q hK
 obtain ⟨ow,hd,hold,S⟩:=hS
 obtain ⟨d,op,ty,pos,af,gd⟩:=oo
 simp only at ho hn hK
 subst ho
 simp [Op.operands] at hv
 obtain ⟨hv1,hv2,hv3⟩:=hv
 have hml:=hm (l,.cu (rowF e s xs) []) (by simp)
 have hnl:=hm (nl,.free) (by simp)
 simp only at hml hnl
 have hyl:ys.length=i.toNat:=by rw [hy,List.length_take]; omega
 have hO:=S.objs l _ hml
 obtain ⟨ad,cap,hh,hle,hcm⟩:=rowF_hd hO
 obtain ⟨hO1,vs0,_,hO3⟩:=hO
 have hx:=S.eval x
 rw [hv1] at hx
 simp only [RF] at hx
 obtain ⟨hx0,hx1,hx2⟩:=hx
 obtain ⟨hu,hs⟩:=tsl_und hT h1
 have hb:=sliceBounds_opt3 (P:=P) (w:=w) (len:=xs.length) (cap:=cap) (lo:=none) (ho:=hi) (mo:=mx) (i:=0) (h:=i) (q:=i) (df:=0) (df':=0) S (by simp [optInt]) (by simp [optInt,hv2]) (by simp [optInt,hv3]) (by omega) c.1 (Int.le_refl _) (by omega)
 simp only [Option.map_some,Option.map_none,Int.toNat_zero] at hb
 have hvv:∃ v,v=Value.slice (if i.toNat=0 then ad else ad.map (·.add (0*s))) (i.toNat-0) (i.toNat-0):=⟨_,rfl⟩
 obtain ⟨v,hv⟩:=hvv
 have hve:v=.slice ad i.toNat i.toNat:=by
  rw [hv,Nat.sub_zero]
  congr 1
  split
  ·rfl
  ·cases ad with
   | none=>rfl
   | some q =>
    rw [Nat.zero_mul,Option.map_some]
    rcases hO3 with ⟨cells,q1,_⟩ | ⟨g,cells,q1,_⟩
    ·rcases q1.2 with ⟨q2,_⟩ | ⟨g,cap',cur,q2,_⟩
     ·rw [hh] at q2; cases q2
     ·rw [hh] at q2; simp at q2; rw [q2.1,Addr.add_mid]
    ·rw [hh] at q1; simp at q1; rw [q1.1,Addr.add_mid]
 have hrun:(execOp a.eval ⟨d,.slice t x none (some hi) (some mx),ty,pos,af,gd⟩).run P w=.ok (.value v) w:=by
  simp [execOp,Instr.sliceAt,Instr.slice,run_underlying hu,hx1,hh,hb,tsz_run hT hs,hv]
 have hbl:∀ b,b∈blocksOf v→b∈blocksOf (hd l):=by
  intro b hb'
  rw [hve] at hb'; rw [hh]
  cases ad <;> simpa [blocksOf,blockOf] using hb'
 -- the old row
 have hold':oldI s xs ow w (hd l)∧((∃ cells,w.ownsRow 0 e s v ys.length cells∧RE ow w s ys cells∧∀ b,b∈blocksOf (hd l)→ow b=false)∨(∃ (b C:Nat),hd l=.slice (some ⟨b,0,none⟩) xs.length C∧v=.slice (some ⟨b,0,none⟩) ys.length ys.length∧ys=xs.take ys.length)):=by
  have hyt:ys=xs.take ys.length:=by rw [hyl]; exact hy
  rcases hO3 with ⟨cells,q1,q2⟩ | ⟨g,cells,q1,q2,q3,q4,q5⟩
  ·rcases q1.2 with ⟨q3,q4⟩ | ⟨g,cap',cur,q3,_,q5,q6,q7,q8,q9⟩
   ·have hx0:xs=[]:=List.eq_nil_of_length_eq_zero q4
    have hy0:ys=[]:=by rw [hy,hx0]; simp
    refine ⟨.inl ⟨q3,hx0⟩,.inl ⟨[],?_,by rw [hy0]; simp [RE],fun b hb'=>by rw [q3] at hb'; simp [blocksOf,blockOf] at hb'⟩⟩
    have:v=.slice none 0 0:=by
     rw [q3] at hh; simp at hh
     rw [hve,← hh.1,← hyl,hy0]; rfl
    rw [this,hy0]
    exact World.ownsRow_nil w 0 e s
   ·refine ⟨.inr ⟨g,cap',cells,q3,q6,q7,(Array.getElem?_eq_some_iff.1 q5).1,fun j u hj=>?_,q2⟩,.inr ⟨g,cap',q3,?_,hyt⟩⟩
    ·rw [Nat.zero_add]; exact cell_at q5 q9 hj
    ·rw [q3] at hh; simp at hh
     rw [hve,hyl,← hh.1]
  ·refine ⟨.inr ⟨g,xs.length,cells,q1,Nat.le_refl _,q2,q3,q4,q5⟩,.inr ⟨g,xs.length,q1,?_,hyt⟩⟩
   rw [q1] at hh; simp at hh
   rw [hve,hyl,← hh.1]
 have hne':nl≠l:=Ne.symm hne
 have S1:=S.kill l
 have hnl1:(st.m.set l PO.none)[nl]?=some .free:=get_set_ne hnl hne'
 obtain ⟨S2,hal2,hal3⟩:=S1.add (o:=.cu (splC e s xs ys) [.srf l]) (hv:=v) hnl1 rfl
  ⟨fun b hb'=>hO1 b (hbl b hb'),[hd l],by
   simp only [RFL,RF]
   refine ⟨hd l,[],rfl,⟨al_set_mono rfl l (al_set_mono rfl l hx0),by rw [upd_ne _ _ hne],by rw [upd_ne _ _ hne]; exact hx2⟩,hx2,rfl⟩,hd l,rfl,hold'⟩
  (fun j oj b hne2 hj hlv hb1 hb2=>by
   obtain ⟨hj',hjl⟩:=kill_live hj hlv
   exact S.dist j l oj _ b hjl hj' hml hlv rfl hb1 (hbl b hb2))
 refine wp_val hrun (hK _ _ ⟨ow,_,hold,S2.put hn (x:=.srf nl) ?_⟩)
 simp only [RF]
 exact ⟨hal3,by rw [upd_same],by rw [upd_same,hve]; rfl⟩
end
end Go.Proofs.Ytgdhhaddfllkaaa.pv
namespace Go.Proofs.Ytgdhhaddfllkaaa.pv
set_option linter.all false
open Go.RowKit
section
variable {P:Program} {T:List TI} {n:Nat} {w0:Cx} {st:PS} {a:Act} {w:World} {ow:Nat→Bool} {hd:Nat→Value}
theorem spl_old {A:Nat→Bool} {c:Cx} {h:Value} {e s l:Nat} {xs ys:List PV} (hr:RO A hd c ow w h (.cu (splC e s xs ys) [.srf l])):A l=true∧(hd l).oneCell'=true∧oldI s xs ow w (hd l)∧((∃ cells,w.ownsRow 0 e s h ys.length cells∧RE ow w s ys cells∧∀ b,b∈blocksOf (hd l)→ow b=false)∨(∃ (b C:Nat),(hd l)=.slice (some ⟨b,0,none⟩) xs.length C∧h=.slice (some ⟨b,0,none⟩) ys.length ys.length∧ys=xs.take ys.length)):=by
 obtain ⟨_,vs,h2,hL,rfl,h3⟩:=hr
 simp only [RFL,RF] at h2
 obtain ⟨v,r,e1,⟨e2,e3,e4⟩,_⟩:=h2
 simp at e1
 obtain ⟨rfl,_⟩:=e1
 subst e3
 exact ⟨e2,e4,h3⟩
theorem sidx {t A l e s i0 N:Nat} {xs ys:List PV} {x i:Operand} {ik:IntKind} {j:Int} (h1:tsl T t=some (e,s)) (h0:0≤j) (hj:j<((N-i0:Nat):Int)) (hN:N≤xs.length) :
  Ext P T (.indexAddr t x i) [.ssl l i0 N s,.d (.v (.int ik j))] [(A,.cu (splC e s xs ys) [.srf l])] (.ept l s (i0+j.toNat) 0) []:=by
 intro n w0 st a w o hT hS ho hn hv hm K Q hK
 obtain ⟨ow,hd,hold,S⟩:=hS
 obtain ⟨d,op,tyo,pos,af,gd⟩:=o
 simp only at ho hn hK
 subst ho
 simp [Op.operands] at hv
 obtain ⟨hv1,hv2⟩:=hv
 have hml:=hm (A,.cu (splC e s xs ys) [.srf l]) (by simp)
 simp only at hml
 have hx:=S.eval x
 rw [hv1] at hx
 simp only [RF] at hx
 obtain ⟨hx0,ad,nn,c,x1,x2,x3,x4⟩:=hx
 obtain ⟨e6,_⟩:=S.v hv2
 obtain ⟨_,_,ho,_⟩:=spl_old (S.objs A _ hml)
 rcases ho with ⟨_,ho⟩ | ⟨b,C,cells,k1,k2,k3,k4,k5,k6⟩
 ·rw [ho] at hN; simp at hN; omega
 rw [x1] at k1
 simp at k1
 obtain ⟨rfl,rfl,rfl⟩:=k1
 rw [if_neg (by omega),Option.map_some,Addr.add_mid,Nat.zero_add] at x4
 refine wp_val (v:=.pointer (some ⟨b,i0*s+j.toNat*s,none⟩)) (by simp [execOp,x4,e6,run_indexAt_sl hT h1 h0 hj]) (hK _ _ ⟨ow,hd,hold,S.put hn ?_⟩)
 simp only [RF]
 exact ⟨hx0,b,_,_,x1,by rw [Nat.add_mul,Nat.add_zero]⟩
theorem sload {t A l e s i:Nat} {xs ys:List PV} {y:PV} {cs:List PV} {x:Operand} (h1:tagg T t=some true) (h2:tsz T t=some s) (hy:xs[i]?=some y) (hf:fits s y=true) (hc:pcells y=cs) :
  Ext P T (.load t x) [.ept l s i 0] [(A,.cu (splC e s xs ys) [.srf l])] (.d (.agg cs)) []:=by
 subst hc
 intro n w0 st a w o hT hS ho hn hv hm K Q hK
 obtain ⟨ow,hd,hold,S⟩:=hS
 obtain ⟨d,op,tyo,pos,af,gd⟩:=o
 simp only at ho hn hK
 subst ho
 simp [Op.operands] at hv
 have hml:=hm (A,.cu (splC e s xs ys) [.srf l]) (by simp)
 simp only at hml
 have hx:=S.eval x
 rw [hv] at hx
 simp only [RF] at hx
 obtain ⟨hx0,b,nn,c,x1,x2⟩:=hx
 obtain ⟨_,_,ho,_⟩:=spl_old (S.objs A _ hml)
 rcases ho with ⟨_,ho⟩ | ⟨b',C,cells,k1,k2,k3,k4,k5,k6⟩
 ·rw [ho] at hy; simp at hy
 rw [x1] at k1
 simp at k1
 obtain ⟨rfl,rfl,rfl⟩:=k1
 obtain ⟨u,q1,q2,q3,q4⟩:=k6.get i y hy
 have hrg:w.rangeAt b (i*s+0) u.cells.toList:=fun q v hv=>by
  have hq:q<s:=by
   have:=(List.getElem?_eq_some_iff.1 hv).1
   simpa [q1] using this
  rw [← q4 q hq] at hv
  have:=k5 (i*s+q) v hv
  rw [Nat.zero_add] at this
  rw [Nat.add_zero]; exact this
 have hr:=run_loadAt_agg hT h1 h2 hrg (by simpa using q1)
 simp only [Nat.add_zero] at hr x2
 refine wp_val (v:=.agg u.cells.toList.toArray) (by simp [execOp,x2,hr]) (hK _ _ ⟨ow,hd,hold,S.put hn (x:=.d (.agg (pcells y))) ?_⟩)
 simp only [RF,R]
 exact ⟨_,rfl,R.cells q3 (fits_spec hf).1⟩
theorem run_append_clip {t ty e:TypeId} {i:TypeInfo} {z:Value} {s:Nat} (ht:P.underlying t=some (.slice e)) (hi:P.info? e=some i) (hz:i.zero=some z) (hsize:i.size=s) (hzs:z.cells.size=s) {b N M c:Nat} {olds news:List Value} {ad:Addr}
  (hlo:olds.length=N*s) (holds:w.rangeAt b 0 olds) (hl:news.length=M*s) (hnews:∀ j u,news[j]?=some u→w.cell? (ad.add j)=some u) (hM:0<M) (h63:N+M≤maxLen) (hbytes:(N+M)*i.bytes≤140737488355328) :
  ∃ v' w',(Builtin.append_ #[t,t] ty #[.slice (some ⟨b,0,none⟩) N N,.slice (some ad) M c]).run P w=.ok v' w'∧w'.ownsRow 0 e s v' (N+M) (olds++news)∧w.grownBy w' none∧(∃ gc,v'=.slice (some ⟨w.heap.size,0,none⟩) (N+M) gc)∧w.heap.size<w'.heap.size:=by
 subst hsize
 have hsmall:N+M≤9223372036854775807:=by simp only [maxLen] at h63; omega
 have hlen:(olds++news).length=(N+M)*i.size:=by rw [List.length_append,hlo,hl,Nat.add_mul]
 have hge:=grownCap_ge w (N+M) N e
 have hcm:grownCap w (N+M) N e≤maxLen:=grownCap_le_maxLen w (N+M) N e h63
 have hr:=run_append_grow (P:=P) w t ty e i z ht hi hz ⟨b,0,none⟩ N N olds hlo (fun j v hj=>by rw [Addr.add_mid]; exact holds j v hj) ad M c news hl hnews (by omega) (by omega) (growslice_fits (by omega) hbytes)
 refine ⟨_,_,hr,⟨hlen,.inr ⟨w.heap.size,_,_,rfl,Nat.zero_le _,heap_alloc_new w.drew _,hge,hcm,?_,?_⟩⟩,⟨rfl,rfl,rfl,by simp,fun k hk _=>heap_alloc_old w.drew _ hk⟩,⟨_,rfl⟩,by simp⟩
 ·simp only [Array.size_append,List.size_toArray,size_zeroCells,hzs,hlo,hl,← Nat.add_mul]
  congr 1
  omega
 ·simp only [Array.toList_append,List.append_assoc]
  rw [← List.append_assoc,← hlen]
  exact List.take_left
theorem fapp {t e s l nl:Nat} {ti:TI} {xs ys zs:List PV} {x y:Operand} (hzs:xs++ys=zs) (h1:tsl T t=some (e,s)) (h2:T[e]?=some ti) (h3:ti.zero.length=s) (h4:0<s) (hy:ys.all (fits s)=true) (hy0:ys≠[]) (h8:xs.length+ys.length≤maxLen) (h9:(xs.length+ys.length)*ti.bytes≤140737488355328) (hne:l≠nl) :
  Ext P T (.call ⟨.builtin .append,#[x,y],#[t,t]⟩) [.srf l,.d (.sl ys)] [(l,.cu (rowF e s xs) []),(nl,.free)] (.srf nl) [(l,.none),(nl,.row e s zs)]:=by
 subst hzs
 intro n w0 st a w o hT hS ho hn hv hm K Q hK
 obtain ⟨ow,hd,hold,S⟩:=hS
 have hml:=hm (l,.cu (rowF e s xs) []) (by simp)
 have hnl:=hm (nl,.free) (by simp)
 simp only at hml hnl
 obtain ⟨hO1,vs0,_,hO3⟩:=S.objs l _ hml
 rcases hO3 with ⟨cells,q1,q2⟩ | ⟨b,cells,q1,q2,q3,q4,q5⟩
 ·have key:Ext P T (.call ⟨.builtin .append,#[x,y],#[t,t]⟩) [.srf l,.d (.sl ys)] [(l,.row e s xs),(nl,.free)] (.srf nl) [(l,.none),(nl,.row e s (xs++ys))]:=by
   refine ext_of0 fun ρ mm hv hm=>?_
   simp [Op.operands,Call.operands] at hv
   have:=PAct0.append (P:=P) (T:=T) (ρ:=ρ) (m:=mm) (nl:=nl) t x y e s ti xs ys [(l,.none)] [l] [] (hm (nl,.free) (by simp)) h1 h2 h3 h4 (by rw [hv.1]; exact .row l _ (hm (l,.row e s xs) (by simp))) (by rw [hv.2]; exact .sl _) hy h8 h9
   exact ⟨nl,_,this⟩
  have S1:=S.re (o':=.row e s xs) hml rfl rfl ⟨cells,q1,hO1,q2⟩
  refine key n w0 ⟨st.f,st.m.set l (.row e s xs)⟩ a w o hT ⟨ow,hd,hold,S1⟩ ho hn hv (fun q hq=>?_) K Q (fun a' w' h'=>hK a' w' ?_)
  ·simp at hq
   rcases hq with rfl | rfl
   ·show (st.m.set l _)[l]?=_
    rw [List.getElem?_set,if_pos rfl,if_pos (List.getElem?_eq_some_iff.1 hml).1]
   ·exact get_set_ne hnl (Ne.symm hne)
  ·simp only [PS.act] at h' ⊢
   rw [updM_over _ st.m l _ ⟨(l,.none),by simp,rfl⟩] at h'
   exact h'
 ·obtain ⟨d,op,tyo,pos,af,gd⟩:=o
  simp only at ho hn hK
  subst ho
  simp [Op.operands,Call.operands] at hv
  obtain ⟨hv1,hv2⟩:=hv
  obtain ⟨ti',dd,e1,e2,e3,e4,e5,e6⟩:=hT.info h2
  obtain ⟨hu,hs⟩:=tsl_und hT h1
  have hsi:=tsz_info hT hs
  rw [e1] at hsi
  simp at hsi
  obtain ⟨z,hz,e6⟩:=e6 (fun e=>by rw [e] at h3; simp at h3; omega)
  have hzl:z.cells.size=s:=by
   have:=congrArg List.length (zsOk_pv e6).1
   simp at this; omega
  have hx:=S.eval x
  rw [hv1] at hx
  simp only [RF] at hx
  have hyv:=S.d hv2
  simp only [R] at hyv
  obtain ⟨ya,yc,y1,y2,y3,y4⟩:=hyv
  rcases y4 with y4 | ⟨b2,off,sz,ycells,rfl,y5,y6,y7,y8⟩
  ·exact absurd y4 hy0
  have y9:=y8.resize hy
  have hM:0<ys.length:=by cases ys with | nil=>exact absurd rfl hy0 | cons _ _=>simp
  obtain ⟨v',w',r1,r2,r3,⟨gc,r4⟩,r5⟩:=run_append_clip (P:=P) (w:=w) (ty:=tyo) (c:=yc) hu e1 hz hsi hzl q5.length q4 y9.length (fun j u hj=>by rw [Addr.add_mid]; exact y7 j u hj) hM h8 (by rw [e4]; exact h9)
  have S1:=S.kill l
  have hnl1:(st.m.set l PO.none)[nl]?=some .free:=get_set_ne hnl (Ne.symm hne)
  obtain ⟨ow',hd',⟨g1,g2⟩,g3,g4⟩:=S1.newRow (e:=e) (s:=s) (xs:=xs++ys) (cells:=cells++ycells) hnl1 (v':=v') (w':=w') (by rw [List.length_append]; exact r2) r3 (fun b hb=>by rw [r4] at hb; simp [blocksOf,blockOf] at hb; subst hb; exact ⟨rfl,r5⟩) (q5.append y9) ⟨_,_,_,r4⟩
  have hrun:(execOp a.eval ⟨d,.call ⟨.builtin .append,#[x,y],#[t,t]⟩,tyo,pos,af,gd⟩).run P w=.ok (.value v') w':=by
   simp [execOp,resolve,invoke,builtin,hx.2.1,q1,y1,r1]
  refine wp_val' hrun (hK _ _ ⟨ow',hd',hold.step fun b hb hno=>g1 b (Nat.lt_of_lt_of_le hb S.below.size),g3.put hn g4⟩)
theorem SimW.splNew {f:List FV} {m:List PO} {ow1 ow':Nat→Bool} {w':World} {v':Value} {e s l nl:Nat} {xs zs:List PV} {cells:List Value} (S1:SimW n w0 ⟨f,m⟩ a w ow1 hd) (hnl:m[nl]?=some .free) (hne:l≠nl) (hal:al m l=true) (ho1:(hd l).oneCell'=true) (hkp:Kp ow1 w ow' w') (hkt:Kt w0 w w') (hfr:∀ b,w'.heap.size≤b→ow' b=false)
  (hown:w'.ownsRow 0 e s v' zs.length cells) (hre:RE ow1 w s zs cells) (hnew:∀ b,b∈blocksOf v'→w0.New b∧ow' b=true) (hpub:∀ b,b∈blocksOf (hd l)→ow1 b=false) (hold:oldI s xs ow1 w (hd l))
  (hkeep:∀ j oj b,j≠nl→m[j]?=some oj→oj.live=true→b∈blocksOf (hd j)→w'.heap[b]?=w.heap[b]?∧ow' b=ow1 b∧b ∉ blocksOf v') :
  SimW n w0 ⟨f,m.set nl (.cu (splC e s xs zs) [.srf l])⟩ a w' ow' (upd hd nl v')∧RF (al (m.set nl (.cu (splC e s xs zs) [.srf l]))) (upd hd nl v') ow' w' (.srf nl) v':=by
 have hlen:nl<m.length:=(List.getElem?_eq_some_iff.1 hnl).1
 have hl':upd hd nl v' l=hd l:=upd_ne _ _ hne
 refine ⟨S1.obj (l:=nl) (hv:=v') (o:=.cu (splC e s xs zs) [.srf l]) hkp hkt hfr (.inl (by simp [al,hnl,PO.made])) rfl ⟨hnew,[hd l],?_,hd l,rfl,hold.kp hkp (fun b hb=>hkp.same b (hold.lt b hb) (hpub b hb)),.inl ⟨cells,hown,RE.mono hkp _ _ _ hre,fun b hb=>hkp.pub b (hold.lt b hb) (hpub b hb)⟩⟩ (fun j oj b h1 h2 h3 h4=>⟨(hkeep j oj b h1 h2 h3 h4).1,(hkeep j oj b h1 h2 h3 h4).2.1,fun _=>(hkeep j oj b h1 h2 h3 h4).2.2⟩),?_⟩
 ·simp only [RFL,RF]
  exact ⟨hd l,[],rfl,⟨al_set_mono rfl l hal,hl'.symm,by rw [hl']; exact ho1⟩,ho1,rfl⟩
 ·simp only [RF]
  exact ⟨by rw [al_set_same hlen]; rfl,by rw [upd_same],by rw [upd_same]; exact owns_one hown⟩
theorem sapp {t e s A l nl:Nat} {ti:TI} {xs ys us zs:List PV} {x y:Operand} (hzs:ys++us=zs) (h1:tsl T t=some (e,s)) (h2:T[e]?=some ti) (h3:ti.zero.length=s) (h4:0<s) (hy:us.all (fits s)=true) (hy0:us≠[]) (h8:ys.length+us.length≤maxLen) (h9:(ys.length+us.length)*ti.bytes≤140737488355328) (hne:A≠nl) :
  Ext P T (.call ⟨.builtin .append,#[x,y],#[t,t]⟩) [.srf A,.d (.sl us)] [(A,.cu (splC e s xs ys) [.srf l]),(nl,.free)] (.srf nl) [(A,.none),(nl,.cu (splC e s xs zs) [.srf l])]:=by
 subst hzs
 intro n w0 st a w o hT hS ho hn hv hm K Q hK
 obtain ⟨ow,hd,hold,S⟩:=hS
 have hml:=hm (A,.cu (splC e s xs ys) [.srf l]) (by simp)
 have hnl:=hm (nl,.free) (by simp)
 simp only at hml hnl
 have hO:=S.objs A _ hml
 have hO1:=hO.1
 obtain ⟨o1,o2,o3,o4⟩:=spl_old hO
 have hl:l≠nl:=fun e=>by subst e; simp [al,hnl,PO.made] at o1
 obtain ⟨d,op,tyo,pos,af,gd⟩:=o
 simp only at ho hn hK
 subst ho
 simp [Op.operands,Call.operands] at hv
 obtain ⟨hv1,hv2⟩:=hv
 obtain ⟨ti',dd,e1,e2,e3,e4,e5,e6⟩:=hT.info h2
 obtain ⟨hu,hs⟩:=tsl_und hT h1
 have hsi:=tsz_info hT hs
 rw [e1] at hsi
 simp at hsi
 obtain ⟨z,hz,e6⟩:=e6 (fun e=>by rw [e] at h3; simp at h3; omega)
 have hzl:z.cells.size=s:=by
  have:=congrArg List.length (zsOk_pv e6).1
  simp at this; omega
 have hx:=S.eval x
 rw [hv1] at hx
 simp only [RF] at hx
 have hyv:=S.d hv2
 simp only [R] at hyv
 obtain ⟨ya,yc,y1,y2,y3,y4⟩:=hyv
 rcases y4 with y4 | ⟨b2,off,sz,ycells,rfl,y5,y6,y7,y8⟩
 ·exact absurd y4 hy0
 have y9:=y8.resize hy
 have hM:0<us.length:=by cases us with | nil=>exact absurd rfl hy0 | cons _ _=>simp
 have hbase:=S.below.size
 have hnews:∀ j u,ycells[j]?=some u→w.cell? ((⟨b2,off,none⟩:Addr).add j)=some u:=fun j u hj=>by rw [Addr.add_mid]; exact y7 j u hj
 have S1:=S.kill A
 have hnl1:(st.m.set A PO.none)[nl]?=some .free:=get_set_ne hnl (Ne.symm hne)
 have hA1:(st.m.set A PO.none)[l]?=st.m[l]?∨l=A:=by
  by_cases e:l=A
  ·exact .inr e
  ·left; rw [List.getElem?_set,if_neg (Ne.symm e)]
 have hal1:al (st.m.set A .none) l=true:=al_set_mono rfl l o1
 rcases o4 with ⟨cells,q1,q2,q3⟩ | ⟨b,C,q1,q2,q3⟩
 ·-- a row of its own
  obtain ⟨v',w',r1,r2,r3,r4⟩:=run_append_own2 (P:=P) (w:=w) 0 t tyo e ti' z s ti.bytes hu e1 hz hsi e4 hzl h4 _ _ _ q1 ⟨b2,off,none⟩ us.length yc ycells y9.length hnews y9.one h8 h9 (Nat.zero_le _)
  have hbl:(hd A).ownBlock=blockOf (hd A):=by
   rcases q1.2 with ⟨hb,_⟩ | ⟨g,cap,cur,hb,_⟩
   ·exact ownBlock_eq hb
   ·exact ownBlock_eq hb
  rw [hbl] at r3
  have hlt':∀ b,b∈blocksOf v'→w0.New b∧b<w'.heap.size:=by
   intro b hb
   refine ⟨?_,(owns_bo r2 hb).2⟩
   rcases r4 b hb with e' | e'
   ·exact (hO1 b e').1
   ·exact .inl (by rw [e']; exact hbase)
  have hkp:Kp ow w (fun b=>if b∈blocksOf v' then true else ow b) w':=by
   refine ⟨r3.size,fun b hb h=>?_,fun b hb h=>r3.block b hb (fun e=>by rw [(hO1 b (mem_of_bo e.symm)).2] at h; cases h)⟩
   show (if b∈blocksOf v' then true else ow b)=false
   rw [if_neg]
   ·exact h
   ·intro e
    rcases r4 b e with e' | e'
    ·rw [(hO1 b e').2] at h; cases h
    ·omega
  have hbel:Kt w0 w w':=⟨r3.os,r3.tape,r3.output,r3.size,fun k hk hown=>r3.block k (Nat.lt_of_lt_of_le hk hbase) (fun e=>by
   rcases (hO1 k (mem_of_bo e.symm)).1 with h' | h'
   ·omega
   ·rw [h'] at hown; cases hown)⟩
  have hrun:(execOp a.eval ⟨d,.call ⟨.builtin .append,#[x,y],#[t,t]⟩,tyo,pos,af,gd⟩).run P w=.ok (.value v') w':=by
   simp [execOp,resolve,invoke,builtin,hx.2.1,y1,r1]
  obtain ⟨S2,S3⟩:=S1.splNew (e:=e) (s:=s) (l:=l) (nl:=nl) (xs:=xs) (zs:=ys++us) (v':=v') (cells:=cells++ycells) hnl1 hl hal1 o2 hkp hbel
   (fun b hb=>by
    show (if b∈blocksOf v' then true else ow b)=false
    rw [if_neg]
    ·exact S.fresh b (Nat.le_trans r3.size hb)
    ·intro e; have:=hlt' b e; omega)
   (by rw [List.length_append]; exact r2) (q2.append y9) (fun b hb=>⟨(hlt' b hb).1,by show (if b∈blocksOf v' then true else ow b)=true; rw [if_pos hb]⟩) q3 o3
   (fun j oj b hne2 hj hlv hb=>by
    obtain ⟨hj',hjA⟩:=kill_live hj hlv
    have hbj:=((S.objs j oj hj').lt hlv b hb).1
    have hnb:b ∉ blocksOf (hd A):=fun hb'=>S.dist j A oj _ b hjA hj' hml hlv rfl hb hb'
    have hnv:b ∉ blocksOf v':=by
     intro e
     rcases r4 b e with e' | e'
     ·exact hnb e'
     ·omega
    exact ⟨r3.block b hbj (fun e=>hnb (mem_of_bo e.symm)),if_neg hnv,hnv⟩)
  refine wp_val' hrun (hK _ _ ⟨_,_,hold.step fun b hb hown=>?_,S2.put hn S3⟩)
  show (if b∈blocksOf v' then true else ow b)=ow b
  rw [if_neg]
  intro e
  rcases (hlt' b e).1 with h' | h'
  ·omega
  ·rw [h'] at hown; cases hown
 ·-- the clipped head
  have hbA:∀ c,c∈blocksOf (hd l)↔c=b:=by intro c; rw [q1]; simp [blocksOf,blockOf,eq_comm]
  have hbA2:∀ c,c∈blocksOf (hd A)↔c=b:=by intro c; rw [q2]; simp [blocksOf,blockOf,eq_comm]
  obtain ⟨k1,k2,k3⟩:=S1.publ hold (fun c=>decide (c=b)) (fun c hc=>(hO1 c ((hbA2 c).2 (by simpa using hc))).1) (fun j oj c hj hlv hc=>by
   obtain ⟨hj',hjA⟩:=kill_live hj hlv
   have:c≠b:=fun e=>S.dist j A oj _ c hjA hj' hml hlv rfl hc ((hbA2 c).2 e)
   simpa using this)
  have o3':=o3.kp k1 (fun _ _=>rfl)
  rcases o3 with ⟨o3,_⟩ | ⟨b',C',cells,j1,j2,j3,j4,j5,j6⟩
  ·rw [o3] at q1; cases q1
  rw [q1] at j1
  simp at j1
  obtain ⟨rfl,rfl⟩:=j1
  have hyl:ys.length≤xs.length:=by rw [q3]; simp; omega
  have hc1:w.rangeAt b 0 (cells.take (ys.length*s)):=fun j v hj=>j5 j v (by
   rw [List.getElem?_take] at hj
   split at hj
   ·exact hj
   ·cases hj)
  have hc2:RE ow w s ys (cells.take (ys.length*s)):=by
   have:=RE.take ys.length j6
   rw [← q3] at this; exact this
  obtain ⟨v',w',r1,r2,r3,⟨gc,r4⟩,r5⟩:=run_append_clip (P:=P) (w:=w) (ty:=tyo) (c:=yc) hu e1 hz hsi hzl hc2.length hc1 y9.length hnews hM h8 (by rw [e4]; exact h9)
  have hbv:∀ c,c∈blocksOf v'↔c=w.heap.size:=by intro c; rw [r4]; simp [blocksOf,blockOf,eq_comm]
  have hrun:(execOp a.eval ⟨d,.call ⟨.builtin .append,#[x,y],#[t,t]⟩,tyo,pos,af,gd⟩).run P w=.ok (.value v') w':=by
   simp [execOp,resolve,invoke,builtin,hx.2.1,q2,y1,r1]
  have hkp:Kp (fun c=>ow c&&!decide (c=b)) w (fun c=>if c=w.heap.size then true else (ow c&&!decide (c=b))) w':=by
   refine ⟨r3.size,fun c hc h=>?_,fun c hc h=>r3.block c hc (fun e=>by cases e)⟩
   show (if c=w.heap.size then true else (ow c&&!decide (c=b)))=false
   rw [if_neg (by omega)]; exact h
  have hbel:Kt w0 w w':=⟨r3.os,r3.tape,r3.output,r3.size,fun k hk hown=>r3.block k (Nat.lt_of_lt_of_le hk hbase) (fun e=>by cases e)⟩
  obtain ⟨S2,S3⟩:=k3.splNew (e:=e) (s:=s) (l:=l) (nl:=nl) (xs:=xs) (zs:=ys++us) (v':=v') (cells:=cells.take (ys.length*s)++ycells) hnl1 hl hal1 o2 hkp hbel
   (fun c hc=>by
    show (if c=w.heap.size then true else (ow c&&!decide (c=b)))=false
    rw [if_neg (by omega),S.fresh c (Nat.le_trans r3.size hc)]; rfl)
   (by rw [List.length_append]; exact r2) (RE.mono k1 _ _ _ (hc2.append y9)) (fun c hc=>⟨.inl (by rw [(hbv c).1 hc]; exact hbase),by show (if c=w.heap.size then true else (ow c&&!decide (c=b)))=true; rw [if_pos ((hbv c).1 hc)]⟩)
   (fun c hc=>by show (ow c&&!decide (c=b))=false; rw [(hbA c).1 hc]; simp) o3'
   (fun j oj c hne2 hj hlv hc=>by
    obtain ⟨hj',hjA⟩:=kill_live hj hlv
    have hbj:=((S.objs j oj hj').lt hlv c hc).1
    exact ⟨r3.block c hbj (fun e=>by cases e),if_neg (by omega),fun e=>by have:=(hbv c).1 e; omega⟩)
  refine wp_val' hrun (hK _ _ ⟨_,_,k2.step fun c hc hown=>?_,S2.put hn S3⟩)
  show (if c=w.heap.size then true else (ow c&&!decide (c=b)))=(ow c&&!decide (c=b))
  rw [if_neg (by omega)]
def fmvS (l e s:Nat) (xs:List PV) (st:PS):PS:=⟨smvL l st.m.length st.f,((st.m.map (smvO l st.m.length)).set l .none)++[.cu (rowF e s xs) []]⟩
theorem fmv {l e s:Nat} {xs:List PV}:SilX [(l,.cu (rowF e s xs) [])] (fmvS l e s xs):=by
 intro st hm
 refine ⟨smvL_length _ _ _,fun n w0 a w S=>?_⟩
 obtain ⟨ow,hd,hold,S⟩:=S
 have hm:=hm (l,.cu (rowF e s xs) []) (by simp)
 simp only at hm
 have S0:=S.room 1
 have hlt:l<st.m.length:=(List.getElem?_eq_some_iff.1 hm).1
 have hm0:(st.m++List.replicate 1 PO.free)[l]?=some (.cu (rowF e s xs) []):=by rw [List.getElem?_append_left hlt]; exact hm
 have hf0:(st.m++List.replicate 1 PO.free)[st.m.length]?=some .free:=by rw [List.getElem?_append_right (Nat.le_refl _)]; simp
 have hne:l≠st.m.length:=by omega
 have hO:=S0.objs l _ hm0
 obtain ⟨ad,cap,hh,_⟩:=rowF_hd hO
 have hone:(hd l).oneCell'=true:=by rw [hh]; rfl
 obtain ⟨o1,vs,o2,o3⟩:=hO
 obtain ⟨q2,q1,q3⟩:=(S0.kill l).add (o:=.cu (rowF e s xs) []) (hv:=hd l) (get_set_ne hf0 (Ne.symm hne)) rfl ⟨o1,[],by simp [RFL],o3⟩
  (fun j oj b hne2 hj hlv hb1 hb2=>by
   obtain ⟨hj',hjl⟩:=kill_live hj hlv
   exact S0.dist j l oj _ b hjl hj' hm0 hlv rfl hb1 hb2)
 have hmm:((st.m++List.replicate 1 PO.free).set l .none).set st.m.length (.cu (rowF e s xs) [])=st.m.set l .none++[.cu (rowF e s xs) []]:=by
  rw [List.set_append_left _ _ hlt,List.set_append_right _ _ (by simp)]
  simp
 simp only [] at q1 q2 q3
 rw [hmm] at q1 q2 q3
 have hkl:upd hd st.m.length (hd l) st.m.length=upd hd st.m.length (hd l) l:=by rw [upd_same,upd_ne _ _ hne]
 have q4:=q2.toSimH.smvO q3 hkl
 have hmap:(st.m.set l .none++[PO.cu (rowF e s xs) []]).map (pv.smvO l st.m.length)=((st.m.map (pv.smvO l st.m.length)).set l .none)++[.cu (rowF e s xs) []]:=by
  rw [List.map_append,List.map_set]; rfl
 have hal':al (((st.m.map (pv.smvO l st.m.length)).set l .none)++[.cu (rowF e s xs) []])=al (st.m.set l .none++[PO.cu (rowF e s xs) []]):=by
  rw [← hmap]; exact al_smvO
 simp only at q4
 rw [hmap] at q4
 refine ⟨ow,_,hold,{ q4 with defers:=q2.defers,size:=q2.size,slots:=fun i=>?_ }⟩
 show RF _ _ _ _ ((smvL l st.m.length st.f).getD i .dead) _
 rw [List.getD_eq_getElem?_getD,smvL_get]
 have hs:=q2.slots i
 rw [List.getD_eq_getElem?_getD] at hs
 cases hf:st.f[i]? with
 | none=>simp only [Option.map_none,Option.getD_none,RF]
 | some x =>
  simp only [Option.map_some,Option.getD_some]
  rw [hf] at hs
  show RF (al (((st.m.map (pv.smvO l st.m.length)).set l .none)++[.cu (rowF e s xs) []])) _ _ _ _ _
  rw [hal']
  exact RF.smv q3 hkl _ _ hs
theorem slen {t A l e s:Nat} {xs ys:List PV} {x:Operand} (h1:tsl T t=some (e,s)):Ext P T (.call ⟨.builtin .len,#[x],#[t]⟩) [.srf A] [(A,.cu (splC e s xs ys) [.srf l])] (.d (.v (.int .i64 (ys.length:Int)))) []:=by
 intro n w0 st a w oo hT hS ho hn hv hm K Q hK
 obtain ⟨ow,hd,hold,S⟩:=hS
 obtain ⟨d,op,ty,pos,af,gd⟩:=oo
 simp only at ho hn hK
 subst ho
 simp [Op.operands,Call.operands] at hv
 have hml:=hm (A,.cu (splC e s xs ys) [.srf l]) (by simp)
 simp only at hml
 have hh:∃ ad cap,hd A=.slice ad ys.length cap:=by
  obtain ⟨_,_,_,⟨cells,h1,_⟩ | ⟨b,C,_,h2,_⟩⟩:=spl_old (S.objs A _ hml)
  ·rcases h1.2 with ⟨q1,q2⟩ | ⟨g,cap,cur,q1,_⟩
   ·exact ⟨none,0,by rw [q1,q2]⟩
   ·exact ⟨_,cap,q1⟩
  ·exact ⟨_,_,h2⟩
 obtain ⟨ad,cap,hh⟩:=hh
 have hx:=S.eval x
 rw [hv] at hx
 simp only [RF] at hx
 have hrun:(execOp a.eval ⟨d,.call ⟨.builtin .len,#[x],#[t]⟩,ty,pos,af,gd⟩).run P w=.ok (.value (.int .i64 (ys.length:Int))) w:=by
  simp [execOp,resolve,invoke,builtin,hx.2.1,hh,Builtin.len_,run_underlying (tsl_und hT h1).1,goInt]
 exact wp_val hrun (hK _ _ ⟨ow,hd,hold,S.put hn (x:=.d (.v (.int .i64 (ys.length:Int)))) (by simp only [RF,R]; exact ⟨trivial,rfl⟩)⟩)
theorem lmap {α:Type} {f:α→PV} {L:List α} {op:Op} {vs:List FV} {m0 U:List (Nat×PO)} {l i s:Nat} (h:Ext P T op vs m0 (.ssl l i (L.map f).length s) U):Ext P T op vs m0 (.ssl l i L.length s) U:=by rw [List.length_map] at h; exact h
theorem lmap' {α:Type} {f:α→PV} {L:List α} {op:Op} {vs:List FV} {m0 U:List (Nat×PO)} (h:Ext P T op vs m0 (.d (.v (.int .i64 ((L.map f).length:Int)))) U):Ext P T op vs m0 (.d (.v (.int .i64 (L.length:Int)))) U:=by rw [List.length_map] at h; exact h
end
end Go.Proofs.Ytgdhhaddfllkaaa.pv
namespace Go.Proofs.Ytgdhhaddfllkaaa.pv
set_option linter.all false
open Go.RowKit
def bagV (ct:Nat→Nat×Nat) (us:List Value) (xs:List PV):Cust where
 I:=fun ow w v _=>bagI ct (fun _=>true) xs ow w v∧v=.func (.func 0) #[] us.toArray
 lt:=fun h=>(bagC ct (fun _=>true) xs).lt (vs:=[]) h.1
 kp:=fun hk hb h=>⟨(bagC ct (fun _=>true) xs).kp (vs:=[]) hk hb h.1,h.2⟩
 one:=by
  rintro ow w v vs ⟨_,rfl⟩
  rfl
def rowV (e s:Nat) (ys:List PV) (u:Value):Cust where
 I:=fun ow w v _=>v=u∧∃ cells,w.ownsRow 0 e s v ys.length cells∧RE ow w s ys cells
 lt:=by
  rintro ow w v vs ⟨rfl,cells,h1,_⟩ b hb
  exact (owns_bo h1 hb).2
 kp:=by
  rintro ow ow' w w' v vs hk hb ⟨rfl,cells,h1,h2⟩
  exact ⟨rfl,cells,ownsRow_kept h1 fun b e=>(hb b e).1,RE.mono hk _ _ _ h2⟩
 one:=by
  rintro ow w v vs ⟨rfl,cells,h1,_⟩
  exact owns_one h1
def oneC (ty:Nat):Cust where
 I:=fun ow w v vs=>∃ u,vs=[u]∧w.ownsRow 0 ty 1 v 1 [u]
 lt:=by
  rintro ow w v vs ⟨u,rfl,h1⟩ b hb
  exact (owns_bo h1 hb).2
 kp:=by
  rintro ow ow' w w' v vs hk hb ⟨u,rfl,h1⟩
  exact ⟨u,rfl,ownsRow_kept h1 fun b e=>(hb b e).1⟩
 one:=by
  rintro ow w v vs ⟨u,rfl,h1⟩
  exact owns_one h1
section
variable {ow:Nat→Bool} {w:World}
end
section
variable {P:Program} {T:List TI} {n:Nat} {w0:Cx} {st:PS} {a:Act} {w:World} {ow:Nat→Bool} {hd:Nat→Value}
end
end Go.Proofs.Ytgdhhaddfllkaaa.pv
namespace Go.Proofs.Ytgdhhaddfllkaaa.pv
set_option linter.all false
open Go.RowKit
section
variable {P:Program} {T:List TI} {n:Nat} {w0:Cx} {st:PS} {a:Act} {w:World} {ow:Nat→Bool} {hd:Nat→Value}
end
end Go.Proofs.Ytgdhhaddfllkaaa.pv
namespace Go.Proofs.Ytgdhhaddfllkaaa.pv
set_option linter.all false
open Go.RowKit
section
variable {P:Program} {T:List TI} {n:Nat} {w0:Cx} {st:PS} {a:Act} {w:World} {ow:Nat→Bool} {hd:Nat→Value}
end
end Go.Proofs.Ytgdhhaddfllkaaa.pv
namespace Go.Proofs.Ytgdhhaddfllkaaa.pv
set_option linter.all false
open Go.RowKit
def flatF:FV→Bool
 | .d x=>flat x
 | .srf _=>true
 | .dead=>true
 | _=>false
def CleanO:PO→Prop
 | .none=>True
 | .row _ _ xs=>xs.all flat=true
 | .cu q fs=>fs.all flatF=true∧∀ (ow ow':Nat→Bool) (w:World) (h:Value) (vs:List Value),q.I ow w h vs→q.I ow' w h vs
 | _=>False
section
variable {w:World} {A:Nat→Bool} {hd:Nat→Value}
theorem RE_flat {ow ow':Nat→Bool} {s:Nat}:∀ {xs:List PV} {cs:List Value},xs.all flat=true→RE ow w s xs cs→RE ow' w s xs cs
 | [],cs,_,h=>by simpa only [RE] using h
 | x::xs,cs,hf,h=>by
  simp only [List.all_cons,Bool.and_eq_true] at hf
  simp only [RE] at h ⊢
  obtain ⟨u,r,e,h0,h1,h2,h3⟩:=h
  exact ⟨u,r,e,h0,h1,R.flat _ _ hf.1 h2,RE_flat hf.2 h3⟩
theorem RFL_flat {ow ow':Nat→Bool}:∀ {fs:List FV} {vs:List Value},fs.all flatF=true→RFL A hd ow w fs vs→RFL A hd ow' w fs vs
 | [],vs,_,h=>by simpa only [RFL] using h
 | f::fs,vs,hf,h=>by
  simp only [List.all_cons,Bool.and_eq_true] at hf
  simp only [RFL] at h ⊢
  obtain ⟨u,r,e,h1,h2,h3⟩:=h
  refine ⟨u,r,e,?_,h2,RFL_flat hf.2 h3⟩
  have hf1:=hf.1
  cases f with
  | d x=>simp only [RF] at h1 ⊢; exact R.flat _ _ hf1 h1
  | srf l=>simpa only [RF] using h1
  | dead=>simp only [RF]
  | agg=>simp [flatF] at hf1
  | tup=>simp [flatF] at hf1
  | ref=>simp [flatF] at hf1
  | ept=>simp [flatF] at hf1
  | asl=>simp [flatF] at hf1
  | ssl=>simp [flatF] at hf1
  | clo=>simp [flatF] at hf1
end
section
variable {P:Program} {T:List TI} {n:Nat} {w0:Cx} {st:PS} {a:Act} {w:World} {ow:Nat→Bool} {hd:Nat→Value}
theorem SimW.callN (S:SimW n w0 st a w ow hd) (hold:Keep w0 ow) {g:FuncId} {ps:List PV} {us:List Value} {τ:List Nat} {m2:List PO} {r:FV} {nl:Nat} (hx:RT (fun _=>false) w ps us)
  (h2:nodup τ=true) (h4:τ=(List.range m2.length).map (nl+·)) (h5:∀ k,k<m2.length→st.m[nl+k]?=some .free) (h6:∀ o∈m2,CleanO o) (hr0:∀ (A:Nat→Bool) (hd:Nat→Value) (ow ow':Nat→Bool) (w:World) (v:Value),RF A hd ow w r v→RF A hd ow' w r v)
  (hret:RetH P g (ps.map .d) [] r m2) :
  Calls P g us.toArray w (fun e w'=>∃ v ow' hd',e=.returned v∧Keep w0 ow'∧SimW n w0 ⟨st.f,updM st.m (zipO τ τ m2)⟩ a w' ow' hd'∧RF (al (updM st.m (zipO τ τ m2))) hd' ow' w' (mapF τ r) v):=by
 have hτl:τ.length=m2.length:=by rw [h4]; simp
 have hτn:∀ j,j<m2.length→τ[j]?=some (nl+j):=by
  intro j hj
  rw [h4,List.getElem?_map,List.getElem?_range (by omega)]
  rfl
 have hτlt:∀ x∈τ,x<st.m.length:=by
  intro x hx
  rw [h4,List.mem_map] at hx
  obtain ⟨k,hk,rfl⟩:=hx
  exact (List.getElem?_eq_some_iff.1 (h5 k (by simpa using hk))).1
 have hupd:=fun l=>updM_zipO (τ:=τ) τ m2 st.m l h2 hτl hτlt
 let c1:Cx:=⟨w,fun _=>false,fun _=>false,fun _=>undef⟩
 have S1:SimH c1 [] w (fun _=>false) hd:=⟨Kt.refl _ _,fun _ _=>rfl,fun l o h=>by simp at h,fun l l' o o' b _ h=>by simp at h⟩
 have hargs:RFT (al []) hd (fun _=>false) w (ps.map .d) us:=by
  have go:∀ (ps:List PV) (us:List Value),RT (fun _=>false) w ps us→RFT (al []) hd (fun _=>false) w (ps.map .d) us:=by
   intro ps
   induction ps with
   | nil=>intro us h; simpa only [RT,List.map_nil,RFT] using h
   | cons p ps ih =>
    intro us h
    simp only [RT] at h
    obtain ⟨v,r,e,h1,h3⟩:=h
    simp only [List.map_cons,RFT]
    exact ⟨v,r,e,by simpa only [RF] using h1,ih r h3⟩
  exact go ps us hx
 refine (hret.2 c1 hd us S1 hargs).mono fun e w2 ⟨v,ow2,hd2,he,k2,S2,_,hr⟩=>?_
 let hd3:Nat→Value:=fun l=>match idx l τ with | some j=>hd2 j | none=>hd l
 have hd3τ:∀ j l,τ[j]?=some l→hd3 l=hd2 j:=by
  intro j l hj
  obtain ⟨i,hi⟩:=idx_of_get (List.mem_of_getElem? hj)
  have:=nodup_nat h2 hj (idx_get hi)
  subst this
  show (match idx l τ with | some j=>hd2 j | none=>hd l)=hd2 j
  rw [hi]
 have hd3n:∀ l,l ∉ τ→hd3 l=hd l:=by
  intro l hl
  show (match idx l τ with | some j=>hd2 j | none=>hd l)=hd l
  cases hq:idx l τ with
  | none=>rfl
  | some j=>exact absurd (List.mem_of_getElem? (idx_get hq)) hl
 let ow3:Nat→Bool:=fun b=>if b<w.heap.size then ow b else ow2 b
 have hold3:∀ b,b<w.heap.size→ow3 b=ow b:=fun b hb=>if_pos hb
 have hblk:∀ b,b<w.heap.size→w2.heap[b]?=w.heap[b]?:=fun b hb=>S2.below.block b hb rfl
 have hKp:Kp ow w ow3 w2:=⟨S2.below.size,fun b hb h=>by rw [hold3 b hb]; exact h,fun b hb _=>hblk b hb⟩
 have hsz:=S.below.size
 have hnewb:∀ b,c1.New b→w.heap.size≤b:=by
  intro b hb
  rcases hb with hb | hb
  ·exact hb
  ·cases hb
 have hnew:∀ b,c1.New b→w0.New b:=fun b hb=>.inl (Nat.le_trans hsz (hnewb b hb))
 have how3:∀ b,w.heap.size≤b→ow3 b=ow2 b:=fun b hb=>if_neg (Nat.not_lt.2 hb)
 have hok:∀ o,CleanO o→okH o=true:=by intro o ho; cases o <;> simp_all [CleanO,okH]
 have halτ:∀ j,al m2 j=true→al (updM st.m (zipO τ τ m2)) (τ.getD j 0)=true∧hd3 (τ.getD j 0)=hd2 j:=by
  intro j hj
  unfold al at hj
  cases hq:m2[j]? with
  | none=>simp [hq] at hj
  | some o =>
   have hlt:j<τ.length:=by rw [hτl]; exact (List.getElem?_eq_some_iff.1 hq).1
   have hg:τ[j]?=some (τ.getD j 0):=by rw [List.getD_eq_getElem?_getD,List.getElem?_eq_getElem hlt]; rfl
   refine ⟨?_,hd3τ j _ hg⟩
   unfold al
   rw [(hupd _).1 j hg,hq]
   have:=hok o (h6 o (List.mem_of_getElem? hq))
   cases o <;> simp [okH] at this <;> rfl
 have ha:∀ j,al st.m j=true→al (updM st.m (zipO τ τ m2)) j=true∧hd3 j=hd j:=by
  intro j hj
  by_cases hmem:j∈τ
  ·obtain ⟨i,hi⟩:=List.mem_iff_getElem?.1 hmem
   have hilt:i<m2.length:=by rw [← hτl]; exact (List.getElem?_eq_some_iff.1 hi).1
   have:=hτn i hilt
   rw [hi] at this
   simp at this
   have hf:=h5 i hilt
   rw [← this] at hf
   simp [al,hf,PO.made] at hj
  ·refine ⟨?_,hd3n j hmem⟩
   unfold al at hj ⊢
   rw [(hupd j).2 hmem]; exact hj
 have hback:∀ (l:Nat) (o:PO),(updM st.m (zipO τ τ m2))[l]?=some o→(∃ (j:Nat) (o2:PO),τ[j]?=some l∧m2[j]?=some o2∧o=mapO τ o2)∨(l ∉ τ∧st.m[l]?=some o):=by
  intro l o hl
  by_cases hmem:l∈τ
  ·obtain ⟨i,hi⟩:=List.mem_iff_getElem?.1 hmem
   rw [(hupd l).1 i hi] at hl
   cases hq:m2[i]? with
   | none=>simp [hq] at hl
   | some o2=>simp [hq] at hl; exact .inl ⟨i,o2,hi,hq,hl.symm⟩
  ·rw [(hupd l).2 hmem] at hl
   exact .inr ⟨hmem,hl⟩
 have hlvO:∀ o:PO,(mapO τ o).live=o.live:=by intro o; cases o <;> rfl
 have hother:∀ l o b,st.m[l]?=some o→o.live=true→b∈blocksOf (hd l)→b<w.heap.size:=fun l o b ho hlv hb=>((S.objs l o ho).lt hlv b hb).1
 have hnewO:∀ j o2 b,m2[j]?=some o2→o2.live=true→b∈blocksOf (hd2 j)→w.heap.size≤b:=fun j o2 b hj hlv hb=>hnewb b ((S2.objs j o2 hj).lt hlv b hb).2.1
 have S3:SimH w0 (updM st.m (zipO τ τ m2)) w2 ow3 hd3:=by
  refine ⟨S.below.trans ⟨S2.below.os,S2.below.tape,S2.below.output,S2.below.size,fun k hk hn=>hblk k (Nat.lt_of_lt_of_le hk hsz)⟩,fun b hb=>?_,fun l o hl=>?_,?_⟩
  ·rw [how3 b (Nat.le_trans S2.below.size hb)]; exact S2.fresh b hb
  ·rcases hback l o hl with ⟨j,o2,hj,hj2,rfl⟩ | ⟨hmem,hl'⟩
   ·have ho:=S2.objs j o2 hj2
    have hcl:=h6 o2 (List.mem_of_getElem? hj2)
    rw [hd3τ j l hj]
    cases o2 with
    | none=>trivial
    | row ty sz xs =>
     obtain ⟨cells,g1,g2,g3⟩:=ho
     exact ⟨cells,g1,fun b hb=>⟨hnew b (g2 b hb).1,by rw [how3 b (hnewb b (g2 b hb).1)]; exact (g2 b hb).2⟩,RE_flat hcl g3⟩
    | cu q fs =>
     obtain ⟨g1,vs',g2,g3⟩:=ho
     exact ⟨fun b hb=>⟨hnew b (g1 b hb).1,by rw [how3 b (hnewb b (g1 b hb).1)]; exact (g1 b hb).2⟩,vs',RFL.mapF halτ _ _ (RFL_flat hcl.1 g2),hcl.2 _ _ _ _ _ g3⟩
    | free=>exact hcl.elim
    | gh=>exact hcl.elim
    | box=>exact hcl.elim
   ·rw [hd3n l hmem]
    refine (S.objs l o hl').kp hKp ha fun b hb hlv=>?_
    have q1:=hother l o b hl' hlv hb
    exact ⟨hblk b q1,hold3 b q1⟩
  ·intro l l' o o' b hne hl hl' hlv hlv' hb hb'
   rcases hback l o hl with ⟨j,o2,hj,hj2,rfl⟩ | ⟨hmem,hl1⟩
   ·rw [hd3τ j l hj] at hb
    rw [hlvO] at hlv
    rcases hback l' o' hl' with ⟨j',o2',hj',hj2',rfl⟩ | ⟨hmem',hl1'⟩
    ·rw [hd3τ j' l' hj'] at hb'
     rw [hlvO] at hlv'
     exact S2.dist j j' o2 o2' b (fun e=>by subst e; rw [hj] at hj'; cases hj'; exact hne rfl) hj2 hj2' hlv hlv' hb hb'
    ·rw [hd3n l' hmem'] at hb'
     have q1:=hother l' o' b hl1' hlv' hb'
     have q2:=hnewO j o2 b hj2 hlv hb
     omega
   ·rw [hd3n l hmem] at hb
    rcases hback l' o' hl' with ⟨j',o2',hj',hj2',rfl⟩ | ⟨hmem',hl1'⟩
    ·rw [hd3τ j' l' hj'] at hb'
     rw [hlvO] at hlv'
     have q1:=hother l o b hl1 hlv hb
     have q2:=hnewO j' o2' b hj2' hlv' hb'
     omega
    ·rw [hd3n l' hmem'] at hb'
     exact S.dist l l' o o' b hne hl1 hl1' hlv hlv' hb hb'
 exact ⟨v,ow3,hd3,he,hold.step fun b hb hn=>hold3 b (Nat.lt_of_lt_of_le hb hsz),{ S3 with defers:=S.defers,size:=S.size,slots:=fun i=>RF.mono hKp ha _ _ (S.slots i) },RF.mapF halτ _ _ (hr0 _ _ _ _ _ _ hr)⟩
end
end Go.Proofs.Ytgdhhaddfllkaaa.pv
namespace Go.Proofs.Ytgdhhaddfllkaaa.pv
set_option linter.all false
open Go.RowKit
section
variable {P:Program} {T:List TI} {n:Nat} {w0:Cx} {st:PS} {a:Act} {w:World} {ow:Nat→Bool} {hd:Nat→Value}
theorem part_R {l e s i j:Nat} {xs:List PV} {A:Nat→Bool} {u:Value} (S:SimW n w0 st a w ow hd) (hm:st.m[l]?=some (.row e s xs)) (hx:RF A hd ow w (.ssl l i j s) u) (hij:i≤j∧j≤xs.length):R (fun _=>false) w (.sl ((xs.take j).drop i)) u:=by
 have hk:Kp ow w (fun _=>false) w:=⟨Nat.le_refl _,fun _ _ _=>rfl,fun _ _ _=>rfl⟩
 simp only [RF] at hx
 obtain ⟨_,ad,nn,c,x1,x2,x3,rfl⟩:=hx
 obtain ⟨cells,r1,r2,r3⟩:=S.objs l _ hm
 have hlen:((xs.take j).drop i).length=j-i:=by rw [List.length_drop,List.length_take]; omega
 have hcm:c≤maxLen:=by
  rcases r1.2 with ⟨q,_⟩ | ⟨g,cap,cur,q,_,_,_,q2,_⟩
  ·rw [x1] at q; simp at q; simp [maxLen,q.2.2]
  ·rw [x1] at q; simp at q; omega
 simp only [R]
 refine ⟨_,c-i,by rw [hlen],by rw [hlen]; omega,by omega,?_⟩
 by_cases h0:i=j
 ·left; apply List.eq_nil_of_length_eq_zero; rw [hlen]; omega
 ·right
  rcases r1.2 with ⟨q,q2⟩ | ⟨g,cap,cur,q,q1,q2,q3,q4,q5,q6⟩
  ·omega
  ·rw [x1] at q
   simp at q
   obtain ⟨rfl,rfl,rfl⟩:=q
   rw [if_neg (by omega),Option.map_some,Addr.add_mid,Nat.zero_add]
   have hj:=RE_drop i (RE.take j (RE.mono hk _ _ _ r3))
   refine ⟨g,i*s,s,_,rfl,(Array.getElem?_eq_some_iff.1 q2).1,trivial,fun k v hv=>?_,hj⟩
   rw [List.getElem?_drop,List.getElem?_take] at hv
   split at hv
   ·exact cell_at q2 q6 hv
   ·cases hv
theorem copied {f:Operand} {args:Array Operand} {tys:Array Nat} {x:FV} {g:FuncId} {l e s e' s' nl:Nat} {xs ys rs:List PV} (hx:∀ (n:Nat) (w0:Cx) (st:PS) (a:Act) (w:World) (ow:Nat→Bool) (hd:Nat→Value) (u:Value),SimW n w0 st a w ow hd→st.m[l]?=some (.row e s xs)→RF (al st.m) hd ow w x u→R (fun _=>false) w (.sl ys) u)
  (hret:RetH P g [.d (.sl ys)] [] (.srf 0) [.row e' s' rs]) (hfl:rs.all flat=true):Ext P T (.call ⟨.value f,args,tys⟩) [.d (.clo g []),x] [(l,.row e s xs),(nl,.free)] (.srf nl) [(nl,.row e' s' rs)]:=by
 intro n w0 st a w o hT hS ho hn hvs hm K Q hK
 obtain ⟨ow,hd,hold,S⟩:=hS
 obtain ⟨d,op,tyo,pos,af,gd⟩:=o
 simp only at ho hn hK
 subst ho
 have hml:=hm (l,.row e s xs) (by simp)
 have hnl:=hm (nl,.free) (by simp)
 simp only at hml hnl
 have hρ':ev st.f f::args.toList.map (ev st.f)=[.d (.clo g []),x]:=by
  rw [← hvs]; simp [Op.operands,Call.operands]
 obtain ⟨e1,e2⟩:=List.cons.inj hρ'
 have h1:=S.eval f
 rw [e1] at h1
 simp only [RF,R] at h1
 obtain ⟨us,hc1,hc2⟩:=h1
 simp only [RL] at hc2
 subst hc2
 obtain ⟨y,rfl⟩:∃ y,args=#[y]:=by
  have:args.toList.length=1:=by simpa using congrArg List.length e2
  cases hq:args.toList with
  | nil=>rw [hq] at this; simp at this
  | cons y r =>
   rw [hq] at this
   have:r=[]:=by cases r with | nil=>rfl | cons _ _=>simp at this
   subst this
   exact ⟨y,by apply Array.toList_inj.1; simpa using hq⟩
 simp at e2
 have h3:RT (fun _=>false) w [.sl ys] [a.eval y]:=by
  simp only [RT]
  exact ⟨_,[],rfl,hx n w0 st a w ow hd _ S hml (by rw [← e2]; exact S.eval y),rfl⟩
 unfold Oper.wp
 rw [run_call hc1 hret.1]
 show Calls P g (#[y].map a.eval++#[]) w _
 have harr:#[y].map a.eval++#[]=[a.eval y].toArray:=by simp
 rw [harr]
 refine (S.callN (τ:=[nl]) (nl:=nl) (m2:=[.row e' s' rs]) (r:=.srf 0) hold h3 rfl (by simp) (fun k hk=>by simp at hk; subst hk; exact hnl) ?_ (fun A hd ow ow' w v h=>by simpa only [RF] using h) hret).mono fun e w' ⟨v,ow',hd',he,hold',S',hr⟩=>?_
 ·intro o ho
  simp at ho
  subst ho
  exact hfl
 subst he
 exact hK _ _ ⟨ow',hd',hold',S'.put hn hr⟩
theorem cpart {f:Operand} {args:Array Operand} {tys:Array Nat} {g:FuncId} {l e s i j e' s' nl:Nat} {xs ys rs:List PV} (hy:(xs.take j).drop i=ys) (hij:i≤j∧j≤xs.length) (hret:RetH P g [.d (.sl ys)] [] (.srf 0) [.row e' s' rs]) (hfl:rs.all flat=true) :
  Ext P T (.call ⟨.value f,args,tys⟩) [.d (.clo g []),.ssl l i j s] [(l,.row e s xs),(nl,.free)] (.srf nl) [(nl,.row e' s' rs)]:=by
 subst hy
 exact copied (fun n w0 st a w ow hd u S hm hx=>part_R S hm hx hij) hret hfl
theorem cwhole {f:Operand} {args:Array Operand} {tys:Array Nat} {g:FuncId} {l e s e' s' nl:Nat} {xs rs:List PV} (hret:RetH P g [.d (.sl xs)] [] (.srf 0) [.row e' s' rs]) (hfl:rs.all flat=true) :
  Ext P T (.call ⟨.value f,args,tys⟩) [.d (.clo g []),.srf l] [(l,.row e s xs),(nl,.free)] (.srf nl) [(nl,.row e' s' rs)] :=
 copied (fun n w0 st a w ow hd u S hm hx=>by
  simp only [RF] at hx
  obtain ⟨cells,r1,r2,r3⟩:=S.objs l _ hm
  rw [hx.2.1]
  exact own_R r1 r3 ⟨Nat.le_refl _,fun _ _ _=>rfl,fun _ _ _=>rfl⟩ fun _ _=>rfl) hret hfl
theorem flat_map {α:Type} {f:α→PV} (l:List α) (h:∀ x,flat (f x)=true):(l.map f).all flat=true:=by
 rw [List.all_eq_true]
 intro x hx
 obtain ⟨y,_,rfl⟩:=List.mem_map.1 hx
 exact h y
theorem fsl01 {t l e s:Nat} {xs:List PV} {x hi:Operand} {ka:IntKind} {i:Int} (h1:tsl T t=some (e,s)) (c:0≤i∧i≤xs.length):Ext P T (.slice t x none (some hi) none) [.srf l,.d (.v (.int ka i))] [(l,.cu (rowF e s xs) [])] (.ssl l 0 i.toNat s) []:=by
 intro n w0 st a w oo hT hS ho hn hv hm K Q hK
 obtain ⟨ow,hd,hold,S⟩:=hS
 obtain ⟨d,op,ty,pos,af,gd⟩:=oo
 simp only at ho hn hK
 subst ho
 simp [Op.operands] at hv
 have hml:=hm (l,.cu (rowF e s xs) []) (by simp)
 simp only at hml
 obtain ⟨ad,cap,hh,hle,hcm⟩:=rowF_hd (S.objs l _ hml)
 have hx:=S.eval x
 rw [hv.1] at hx
 simp only [RF] at hx
 obtain ⟨hx0,hx1,_⟩:=hx
 obtain ⟨hu,hs⟩:=tsl_und hT h1
 have hb:=sliceBounds_opt (P:=P) (w:=w) (len:=xs.length) (cap:=cap) (lo:=none) (hi:=some hi) (i:=0) (h:=i) S (by simp [optInt]) (by simp [optInt,hv.2]) (by omega) c.1 (by omega)
 simp only [Option.map_some,Option.map_none,Int.toNat_zero] at hb
 refine wp_val (v:=.slice (if cap=0 then ad else ad.map (·.add (0*s))) (i.toNat-0) (cap-0)) (by simp [execOp,Instr.sliceAt,Instr.slice,run_underlying hu,hx1,hh,hb,tsz_run hT hs]) (hK _ _ ⟨ow,hd,hold,S.put hn ?_⟩)
 simp only [RF]
 exact ⟨hx0,ad,xs.length,cap,hh,by omega,by omega,rfl⟩
theorem part_RF {l e s i j:Nat} {xs:List PV} {A:Nat→Bool} {u:Value} (S:SimW n w0 st a w ow hd) (hm:st.m[l]?=some (.cu (rowF e s xs) [])) (hx:RF A hd ow w (.ssl l i j s) u) (hij:i≤j∧j≤xs.length):R (fun _=>false) w (.sl ((xs.take j).drop i)) u:=by
 have hk:Kp ow w (fun _=>false) w:=⟨Nat.le_refl _,fun _ _ _=>rfl,fun _ _ _=>rfl⟩
 simp only [RF] at hx
 obtain ⟨_,ad,nn,c,x1,x2,x3,rfl⟩:=hx
 have hO:=S.objs l _ hm
 obtain ⟨ad',cap',hh,hle,hcm'⟩:=rowF_hd hO
 have hlen:((xs.take j).drop i).length=j-i:=by rw [List.length_drop,List.length_take]; omega
 have hcm:c≤maxLen:=by rw [x1] at hh; simp at hh; omega
 simp only [R]
 refine ⟨_,c-i,by rw [hlen],by rw [hlen]; omega,by omega,?_⟩
 by_cases h0:i=j
 ·left; apply List.eq_nil_of_length_eq_zero; rw [hlen]; omega
 ·right
  have hb:∃ b cells,ad=some ⟨b,0,none⟩∧b<w.heap.size∧w.rangeAt b 0 cells∧RE ow w s xs cells:=by
   obtain ⟨_,vs,_,⟨cells,r1,r3⟩ | ⟨g,cells,q1,q2,q3,q4,q5⟩⟩:=hO
   ·rcases r1.2 with ⟨q,q2⟩ | ⟨g,cap,cur,q,q1,q2,q3,q4,q5,q6⟩
    ·omega
    ·rw [x1] at q
     simp at q
     exact ⟨g,cells,q.1,(Array.getElem?_eq_some_iff.1 q2).1,fun k v hv=>by rw [Nat.zero_add]; exact cell_at q2 q6 hv,r3⟩
   ·rw [x1] at q1
    simp at q1
    exact ⟨g,cells,q1.1,q3,q4,q5⟩
  obtain ⟨g,cells,rfl,k1,k2,k3⟩:=hb
  rw [if_neg (by omega),Option.map_some,Addr.add_mid,Nat.zero_add]
  have hj:=RE_drop i (RE.take j (RE.mono hk _ _ _ k3))
  refine ⟨g,i*s,s,_,rfl,k1,trivial,fun k v hv=>?_,hj⟩
  rw [List.getElem?_drop,List.getElem?_take] at hv
  split at hv
  ·have:=k2 _ v hv
   rw [Nat.zero_add] at this; exact this
  ·cases hv
theorem pcall {f:Operand} {args:Array Operand} {tys:Array Nat} {g:FuncId} {l e s i j:Nat} {xs ys ps:List PV} {r:PV} (hy:(xs.take j).drop i=ys) (hij:i≤j∧j≤xs.length) (hr:Ret P g (.sl ys::nslL ps) r) (hfl:flat r=true) :
  Ext P T (.call ⟨.value f,args,tys⟩) (.d (.clo g [])::.ssl l i j s::ps.map .d) [(l,.cu (rowF e s xs) [])] (.d r) []:=by
 subst hy
 intro n w0 st a w o hT hS ho hn hvs hm K Q hK
 obtain ⟨ow,hd,hold,S⟩:=hS
 obtain ⟨d,op,tyo,pos,af,gd⟩:=o
 simp only at ho hn hK
 subst ho
 have hml:=hm (l,.cu (rowF e s xs) []) (by simp)
 simp only at hml
 have hρ':ev st.f f::args.toList.map (ev st.f)=.d (.clo g [])::.ssl l i j s::ps.map .d:=by
  rw [← hvs]; simp [Op.operands,Call.operands]
 obtain ⟨e1,e2⟩:=List.cons.inj hρ'
 have h1:=S.eval f
 rw [e1] at h1
 simp only [RF,R] at h1
 obtain ⟨us,hc1,hc2⟩:=h1
 simp only [RL] at hc2
 subst hc2
 have hk:Kp ow w (fun _=>false) w:=⟨Nat.le_refl _,fun _ _ _=>rfl,fun _ _ _=>rfl⟩
 have h2:RT (fun _=>false) w (.sl ((xs.take j).drop i)::ps) (args.toList.map a.eval):=by
  have h3:=RFT_of_eval S args.toList
  rw [e2] at h3
  simp only [RFT] at h3
  obtain ⟨v,q,h4,h5,h6⟩:=h3
  rw [h4]
  simp only [RT]
  exact ⟨v,q,rfl,part_RF S hml h5 hij,RT.mono hk _ _ (RFT.to_RT h6)⟩
 unfold Oper.wp
 rw [run_call hc1 hr.1]
 show Calls P g (args.map a.eval++#[]) w _
 have harr:args.map a.eval++#[]=(args.toList.map a.eval).toArray:=by
  apply Array.toList_inj.1; simp
 rw [harr]
 have h7:=RT.nsl _ _ h2
 refine (hr.2 (fun _=>false) w _ (fun _ _=>rfl) (by simpa only [nslL,nsl] using h7)).mono fun e w' ⟨v,he,hb,hr⟩=>?_
 subst he
 exact hK _ _ ⟨ow,hd,hold,(S.later hb).put hn (x:=.d r) (by simp only [RF]; exact R.flat _ _ hfl hr)⟩
end
end Go.Proofs.Ytgdhhaddfllkaaa.pv
