/- Custom private objects and their acts. -/
import Derived.Test.YtdgocccbagbhjaaGreatDoorQk
import Derived.ArgAppend
import Derived.Test.YtdgocccbagbhjaaGreatDoorQo
import Derived.Lib.AppendZerosOnto
import Derived.Lib.Overlaps
import Derived.Laws.BytesString
import Derived.Laws.Cells
import Derived.Laws.Pointers
import Derived.Lib.ConvBytes
import Derived.Test.YtdgocccbagbhjaaGreatDoorHelp
import Derived.Laws.AppendOwn
import Derived.Test.YtdgocccbagbhjaaGreatDoorQp
import Derived.MapKept
import Derived.DeepKeys3
import Derived.Maps.RangeRun
import Derived.Shelf.GgSortFunc.Whole
import Derived.Shelf.GgSortFunc.Tiny
import Derived.Deep.QuietTactic
import Derived.WalkKit
import Derived.Test.YtdgocccbagbhjaaGreatDoorShelf
import Derived.Shelf.SlSortFuncK.WholeK
namespace Go.Proofs.YtdgocccbagbhjaaGreatDoor.pv
set_option linter.all false
open Go.RowKit
theorem addr_add0 (b k:Nat):(⟨b,0,none⟩:Addr).add k=⟨b,k,none⟩:=by unfold Addr.add; split <;> simp_all
section
variable {P:Program} {T:List TI} {n:Nat} {w0:Cx} {st:PS} {a:Act} {w:World} {ow:Nat→Bool} {hd:Nat→Value}
theorem SimW.putEls (S:SimW n w0 st a w ow hd) {l e s i b N cap:Nat} {xs ys:List PV} {news:List Value} (hm:st.m[l]?=some (.row e s xs)) (hh:hd l=.slice (some ⟨b,0,none⟩) N cap) (hi:i+ys.length≤xs.length) (hr:RE ow w s ys news) :
  w.there b (i*s) news.length∧N=xs.length∧xs.length≤cap∧(∃ cur:Array Value,w.heap[b]?=some (.cells cur e (0,0))∧cur.size=cap*s∧RE ow w s xs (cur.toList.take (xs.length*s))) ∧
   SimW n w0 ⟨st.f,st.m.set l (.row e s (xs.take i++ys++xs.drop (i+ys.length)))⟩ a (w.setCells b (i*s) news) ow hd:=by
 obtain ⟨cells,⟨g1,g2⟩,h4,h5⟩:=S.objs l _ hm
 rcases g2 with ⟨g2,_⟩ | ⟨g,cap',cur,g2,g3,g4,g5,g6,g7,g8⟩
 ·rw [hh] at g2; simp at g2
 rw [hh] at g2
 simp at g2
 obtain ⟨rfl,rfl,rfl⟩:=g2
 obtain ⟨e3,e4⟩:=h4 b (by rw [hh]; first | rfl | simp [blocksOf,blockOf])
 have hnl:=hr.length
 have hmul:i*s+ys.length*s≤xs.length*s:=by rw [← Nat.add_mul]; exact Nat.mul_le_mul_right _ hi
 have hmul2:xs.length*s≤cap*s:=Nat.mul_le_mul_right _ g5
 obtain ⟨cur',q1,q2,q3⟩:=setCells_block b e (0,0) news (i*s) w cur g4 (by omega)
 have ho:=fun j hj=>setCells_other b news (i*s) w j hj
 have hkp:Kp ow w ow (w.setCells b (i*s) news):=⟨by rw [setCells_size]; exact Nat.le_refl _,fun _ _ h=>h,fun j _ hj=>ho j (fun e=>by rw [e,e4] at hj; cases hj)⟩
 refine ⟨there_of_block g4 (by omega),rfl,g5,⟨cur,g4,g7,by rw [g8]; exact h5⟩,?_⟩
 have hlen:(xs.take i++ys++xs.drop (i+ys.length)).length=xs.length:=by simp; omega
 have hcl:cells.length=xs.length*s:=g1
 have hcur:cur.toList.length=cap*s:=by simpa using g7
 refine S.set (o':=.row e s _) hm rfl rfl (b:=b) (by rw [hh]; first | rfl | simp [blocksOf,blockOf]) ho (setCells_size b _ _ w) (Kt.of_one (setCells_below b _ (Nat.le_refl _) _ _ w) e3 ho)
  ⟨cells.take (i*s)++news++cells.drop ((i+ys.length)*s),⟨?_,.inr ⟨b,cap,cur',by rw [hh,hlen],Nat.zero_le _,q1,by rw [hlen]; exact g5,g6,by rw [q3]; exact g7,?_⟩⟩,fun b' hb'=>by rw [hh] at hb'; simp [blocksOf,blockOf] at hb'; rw [hb']; exact ⟨e3,e4⟩,RE.mono hkp _ _ _ ((RE.append (RE.append (RE.take _ h5) hr) (RE.drop _ h5)))⟩
 ·rw [hlen]
  simp only [List.length_append,List.length_take,List.length_drop,hcl,hnl,Nat.add_mul]
  omega
 ·rw [q2,hlen,hnl,← g8,Nat.add_mul]
  apply List.ext_getElem?
  intro k
  have hl1:(List.take (i*s) cur.toList).length=i*s:=by rw [List.length_take]; omega
  have hl2:(List.take (i*s) (List.take (xs.length*s) cur.toList)).length=i*s:=by rw [List.length_take,List.length_take]; omega
  rw [List.getElem?_take]
  by_cases hk:k<xs.length*s
  ·rw [if_pos hk]
   by_cases h1:k<i*s
   ·rw [List.append_assoc,List.append_assoc,List.getElem?_append_left (by omega),List.getElem?_append_left (by omega),List.getElem?_take,List.getElem?_take,List.getElem?_take,if_pos h1,if_pos h1,if_pos hk]
   ·rw [List.append_assoc,List.append_assoc,List.getElem?_append_right (l₁:=List.take (i*s) cur.toList) (by omega),List.getElem?_append_right (l₁:=List.take (i*s) (List.take (xs.length*s) cur.toList)) (by omega),hl1,hl2]
    by_cases h2:k-i*s<news.length
    ·rw [List.getElem?_append_left h2,List.getElem?_append_left h2]
    ·rw [List.getElem?_append_right (l₂:=List.drop _ cur.toList) (by omega),List.getElem?_append_right (l₂:=List.drop _ (List.take _ cur.toList)) (by omega),List.getElem?_drop,List.getElem?_drop,List.getElem?_take,if_pos (by omega)]
  ·rw [if_neg hk]
   symm
   apply List.getElem?_eq_none
   simp only [List.length_append,List.length_take,List.length_drop,hcur,hnl]
   omega
theorem ext_appendSS {t e s l i j q:Nat} {ti:TI} {xs:List PV} {x y:Operand} (h1:tsl T t=some (e,s)) (h2:T[e]?=some ti) (hij:i≤j) (hjq:j≤q) (hq:q≤xs.length) :
  Ext P T (.call ⟨.builtin .append,#[x,y],#[t,t]⟩) [.ssl l 0 i s,.ssl l j q s] [(l,.row e s xs)] (.ssl l 0 (i+(q-j)) s) [(l,.row e s (xs.take i++(xs.take q).drop j++xs.drop (i+(q-j))))]:=by
 intro n w0 st a w o hT hS ho hn hv hm K Q hK
 obtain ⟨ow,hd,hold,S⟩:=hS
 obtain ⟨d,op,ty,pos,af,gd⟩:=o
 simp only at ho hn hK
 subst ho
 simp [Op.operands,Call.operands] at hv
 obtain ⟨hv1,hv2⟩:=hv
 have hml:=hm (l,.row e s xs) (by simp)
 simp only at hml
 obtain ⟨i',dd,e1,e2,e3,e4,e5,e6⟩:=hT.info h2
 obtain ⟨hu,hs⟩:=tsl_und hT h1
 have hsi:=tsz_info hT hs
 rw [e1] at hsi
 simp at hsi
 have hx:=S.eval x
 have hy:=S.eval y
 rw [hv1] at hx
 rw [hv2] at hy
 simp only [RF] at hx hy
 obtain ⟨hA,ad,N,cap,x1,x2,x3,x4⟩:=hx
 obtain ⟨_,ad',N',cap',y1,y2,y3,y4⟩:=hy
 rw [x1] at y1
 simp at y1
 obtain ⟨rfl,rfl,rfl⟩:=y1
 obtain ⟨cells,⟨g1,g2⟩,h4,h5⟩:=S.objs l _ hml
 rcases g2 with ⟨g2,g3⟩ | ⟨b,cap',cur,g2,g3,g4,g5,g6,g7,g8⟩
 ·rw [x1] at g2
  simp at g2
  obtain ⟨rfl,rfl,rfl⟩:=g2
  have ei:i=0:=by omega
  have ej:j=0:=by omega
  have eq:q=0:=by omega
  subst ei ej eq
  have hrun:(execOp a.eval ⟨d,.call ⟨.builtin .append,#[x,y],#[t,t]⟩,ty,pos,af,gd⟩).run P w=.ok (.value (.slice none 0 0)) w:=by
   simp at x4 y4
   simp [execOp,resolve,invoke,builtin,x4,y4,Builtin.append_,run_underlying hu,sizeOf,typeInfo,e1,Builtin.lenOf,run_firstCells_none]
  have hxs:xs=[]:=List.eq_nil_of_length_eq_zero g3
  subst hxs
  refine wp_val hrun (hK _ _ ⟨ow,hd,hold,?_⟩)
  have e0:st.m.set l (.row e s (([]:List PV).take 0++(([]:List PV).take 0).drop 0++([]:List PV).drop (0+(0-0))))=st.m:=by
   apply List.ext_getElem?
   intro k
   rw [List.getElem?_set]
   split
   ·rename_i hk; subst hk
    rw [hml]
    rw [if_pos (List.getElem?_eq_some_iff.1 hml).1]
    simp
   ·rfl
  have hput:=S.put hn (x:=.ssl l 0 (0+(0-0)) s) (v:=.slice none 0 0) (by simp only [RF]; exact ⟨hA,none,0,0,x1,Nat.le_refl _,Nat.le_refl _,by simp⟩)
  simp only [PS.act,updM]
  rw [e0]
  exact hput
 ·rw [x1] at g2
  simp at g2
  obtain ⟨rfl,rfl,rfl⟩:=g2
  have hRE:=RE.drop j (RE.take q h5)
  have hyl:((xs.take q).drop j).length=q-j:=by simp; omega
  have hx4:a.eval x=.slice (some ⟨b,0,none⟩) i cap:=by
   rw [x4]; simp [Addr.add]
  obtain ⟨p1,p2,p3,⟨cur0,p4,p5,p6⟩,S'⟩:=S.putEls (i:=i) hml x1 (by rw [hyl]; omega) hRE
  rw [hyl] at S'
  have hnl:((cells.take (q*s)).drop (j*s)).length=(q-j)*i'.size:=by
   rw [hRE.length,hyl,hsi]
  have hA0:∃ A:Addr,a.eval y=.slice (some A) (q-j) (cap-j)∧∀ k u,((cells.take (q*s)).drop (j*s))[k]?=some u→w.cell? (A.add k)=some u:=by
   by_cases hc:cap=j
   ·refine ⟨⟨b,0,none⟩,by rw [y4,if_pos hc],fun k u hk=>?_⟩
    have:((cells.take (q*s)).drop (j*s)).length=0:=by rw [hnl]; rw [show q-j=0 by omega]; simp
    rw [List.eq_nil_of_length_eq_zero this] at hk
    simp at hk
   ·refine ⟨⟨b,j*s,none⟩,by rw [y4,if_neg hc,Option.map_some,addr_add0],fun k u hk=>?_⟩
    rw [List.getElem?_drop,List.getElem?_take] at hk
    split at hk
    ·rename_i hlt
     rw [← g8,List.getElem?_take] at hk
     split at hk
     ·have:(⟨b,j*s,none⟩:Addr).add k=⟨b,j*s+k,none⟩:=by simp [Addr.add]
      rw [this]
      unfold World.cell?
      simp only [g4]
      simpa using hk
     ·cases hk
    ·cases hk
  obtain ⟨A,y5,hnews⟩:=hA0
  have hroom:=run_append_room_cells (P:=P) w t ty e i' hu e1 b 0 i cap A (q-j) (cap-j) ((cells.take (q*s)).drop (j*s)) hnl hnews (RE.one hRE) (by omega)
   (fun k hk=>by rw [Nat.zero_add,hsi]; exact (p1 k hk).1) (fun k hk=>by rw [Nat.zero_add,hsi]; exact (p1 k hk).2)
  rw [Nat.zero_add,hsi] at hroom
  have hrun:(execOp a.eval ⟨d,.call ⟨.builtin .append,#[x,y],#[t,t]⟩,ty,pos,af,gd⟩).run P w=.ok (.value (.slice (some ⟨b,0,none⟩) (i+(q-j)) cap)) (w.setCells b (i*s) ((cells.take (q*s)).drop (j*s))):=by
   simp [execOp,resolve,invoke,builtin,hx4,y5,hroom]
  unfold Oper.wp
  rw [hrun]
  refine hK _ _ ⟨ow,hd,hold,S'.put hn (x:=.ssl l 0 (i+(q-j)) s) ?_⟩
  simp only [RF]
  exact ⟨al_set_mono rfl l hA,some ⟨b,0,none⟩,xs.length,cap,x1,Nat.zero_le _,by omega,by simp [Addr.add]⟩
theorem ext_clearSS {t e s l i j:Nat} {ti:TI} {z:PV} {xs:List PV} {x:Operand} (h1:tsl T t=some (e,s)) (h2:T[e]?=some ti) (hz:zeroPV ti=some z) (hs1:ti.zero.length=s) (hs0:0<s) (hij:i≤j) (hj:j≤xs.length) :
  Ext P T (.call ⟨.builtin .clear,#[x],#[t]⟩) [.ssl l i j s] [(l,.row e s xs)] .dead [(l,.row e s (xs.take i++List.replicate (j-i) z++xs.drop j))]:=by
 intro n w0 st a w o hT hS ho hn hv hm K Q hK
 obtain ⟨ow,hd,hold,S⟩:=hS
 obtain ⟨d,op,ty,pos,af,gd⟩:=o
 simp only at ho hn hK
 subst ho
 simp [Op.operands,Call.operands] at hv
 have hml:=hm (l,.row e s xs) (by simp)
 simp only at hml
 obtain ⟨i',zv,u,e1,e2,e3,e4,e5,e6,e7,e8⟩:=zeroPV_spec hT h2 hz
 obtain ⟨hu,hs⟩:=tsl_und hT h1
 have hzs:zv.cells.size=s:=by rw [e5,hs1]
 have hzc:∀ n:Nat,(Builtin.zeroCells zv.cells n).toList=(List.replicate n u.cells.toList).flatten:=by
  intro n
  have:=made_cells zv.cells (by omega) n
  rw [e6,← this]
  simp [Builtin.zeroCells,madeCells]
 have hx:=S.eval x
 rw [hv] at hx
 simp only [RF] at hx
 obtain ⟨hA,ad,N,cap,x1,x2,x3,x4⟩:=hx
 by_cases h0:j-i=0
 ·have hrun:(execOp a.eval ⟨d,.call ⟨.builtin .clear,#[x],#[t]⟩,ty,pos,af,gd⟩).run P w=.ok (.value (.tuple #[])) w:=by
   rw [h0] at x4
   have:∀ A:Option Addr,(Builtin.clear_ #[t] ty #[.slice A 0 (cap-i)]).run P w=.ok (.tuple #[]) w:=by
    intro A
    cases A <;> simp [Builtin.clear_,run_underlying hu]
   simp [execOp,resolve,invoke,builtin,x4,this]
  refine wp_val hrun (hK _ _ ⟨ow,hd,hold,?_⟩)
  have e0:st.m.set l (.row e s (xs.take i++List.replicate (j-i) z++xs.drop j))=st.m:=by
   have:xs.take i++List.replicate (j-i) z++xs.drop j=xs:=by
    rw [h0,show j=i by omega]; simp
   rw [this]
   apply List.ext_getElem?
   intro k
   rw [List.getElem?_set]
   split
   ·rename_i hk; subst hk
    rw [hml,if_pos (List.getElem?_eq_some_iff.1 hml).1]
   ·rfl
  simp only [PS.act,updM]
  rw [e0]
  exact S.put hn (x:=.dead) (by simp only [RF])
 ·obtain ⟨cells,⟨g1,g2⟩,h4,h5⟩:=S.objs l _ hml
  rcases g2 with ⟨g2,g3⟩ | ⟨b,cap',cur,g2,g3,g4,g5,g6,g7,g8⟩
  ·omega
  rw [x1] at g2
  simp at g2
  obtain ⟨rfl,rfl,rfl⟩:=g2
  have hRE:RE ow w s (List.replicate (j-i) z) (Builtin.zeroCells zv.cells (j-i)).toList:=by
   rw [hzc]; exact RE_zero (by rw [e6]; exact hzs) e7 (e8 _ _) _
  obtain ⟨p1,p2,p3,_,S'⟩:=S.putEls (i:=i) hml x1 (by rw [List.length_replicate]; omega) hRE
  rw [List.length_replicate,show i+(j-i)=j by omega] at S'
  have hst:=run_storeCells_cells (P:=P) b (i*s) (Builtin.zeroCells zv.cells (j-i)).toList 0 w (fun k hk=>by rw [Nat.add_zero]; exact (p1 k hk).1) (fun k hk=>by rw [Nat.add_zero]; exact (p1 k hk).2) (RE.one hRE)
  rw [Nat.add_zero] at hst
  have hx4:a.eval x=.slice (some ⟨b,i*s,none⟩) (j-i) (cap-i):=by
   rw [x4,if_neg (by omega),Option.map_some,addr_add0]
  have hzv:(zeroValue e).run P w=.ok zv w:=by simp [zeroValue,typeInfo,e1,e2]
  obtain ⟨m,hm'⟩:∃ m,j-i=m+1:=⟨j-i-1,by omega⟩
  rw [hm'] at hst hx4 S'
  have hrun:(execOp a.eval ⟨d,.call ⟨.builtin .clear,#[x],#[t]⟩,ty,pos,af,gd⟩).run P w=.ok (.value (.tuple #[])) (w.setCells b (i*s) (Builtin.zeroCells zv.cells (m+1)).toList):=by
   have:(Builtin.clear_ #[t] ty #[.slice (some ⟨b,i*s,none⟩) (m+1) (cap-i)]).run P w=.ok (.tuple #[]) (w.setCells b (i*s) (Builtin.zeroCells zv.cells (m+1)).toList):=by
    simp [Builtin.clear_,run_underlying hu,hzv,hst]
   simp [execOp,resolve,invoke,builtin,hx4,this]
  unfold Oper.wp
  rw [hrun]
  simp only [hm'] at hK
  exact hK _ _ ⟨ow,hd,hold,S'.put hn (x:=.dead) (by simp only [RF])⟩
end
end Go.Proofs.YtdgocccbagbhjaaGreatDoor.pv
namespace Go.Proofs.YtdgocccbagbhjaaGreatDoor.pv
set_option linter.all false
open Go.RowKit
def delR {α:Type} (L:List α) (i j q:Nat):List α:=L.take i++(L.take q).drop j++L.drop (i+(q-j))
def clrR {α:Type} (L:List α) (i j:Nat) (z:α):List α:=L.take i++List.replicate (j-i) z++L.drop j
def cpyR {α:Type} (L:List α) (i j:Nat) (Y:List α):List α:=L.take i++Y.take (j-i)++L.drop (i+Nat.min Y.length (j-i))
section
variable {P:Program} {T:List TI}
theorem ext_of0 {op:Op} {vs:List FV} {m0 U:List (Nat×PO)} {r:FV} (h:∀ (ρ:Operand→FV) (m:List PO),op.operands.toList.map ρ=vs→(∀ q∈m0,m[q.1]?=some q.2)→∃ nl F,PAct0 P T ρ m nl op r U F):Ext P T op vs m0 r U:=by
 intro n w0 st a w o hT S ho hn hv hm K Q hK
 obtain ⟨nl,F,h0⟩:=h _ _ hv hm
 subst ho
 exact act0_wp hT S hn h0 hK
variable {α:Type} {f:α→PV} {L Y:List α} {t e s l i j q:Nat} {a b c:Int} {ka kb kc:IntKind} {x y lo hi mx:Operand}
theorem xs10 (h:tsl T t=some (e,s)) (c:0≤a∧a≤L.length):Ext P T (.slice t x (some lo) none none) [.srf l,.d (.v (.int ka a))] [(l,.row e s (L.map f))] (.ssl l a.toNat L.length s) [] :=
 ext_of0 fun ρ m hv hm=>by
  simp [Op.operands] at hv
  have:=PAct0.sliceS (P:=P) (T:=T) (ρ:=ρ) (m:=m) (nl:=0) t x (some lo) none e s l (L.map f) a L.length h hv.1 (hm (l,.row e s (L.map f)) (by simp)) (by simp [optInt,hv.2]) (by simp [optInt]) c.1 c.2 (by simp)
  exact ⟨_,_,by simpa using this⟩
theorem xs01 (h:tsl T t=some (e,s)) (c:0≤b∧b≤L.length):Ext P T (.slice t x none (some hi) none) [.srf l,.d (.v (.int kb b))] [(l,.row e s (L.map f))] (.ssl l 0 b.toNat s) [] :=
 ext_of0 fun ρ m hv hm=>by
  simp [Op.operands] at hv
  have:=PAct0.sliceS (P:=P) (T:=T) (ρ:=ρ) (m:=m) (nl:=0) t x none (some hi) e s l (L.map f) 0 b h hv.1 (hm (l,.row e s (L.map f)) (by simp)) rfl (by simp [optInt,hv.2]) (by omega) c.1 (by simpa using c.2)
  exact ⟨_,_,by simpa using this⟩
theorem xs111 (h:tsl T t=some (e,s)) (d:0≤a∧a≤b∧b≤c∧c≤L.length):Ext P T (.slice t x (some lo) (some hi) (some mx)) [.srf l,.d (.v (.int ka a)),.d (.v (.int kb b)),.d (.v (.int kc c))] [(l,.row e s (L.map f))] .dead [] :=
 ext_of0 fun ρ m hv hm=>by
  simp [Op.operands] at hv
  have:=PAct0.slice3 (P:=P) (T:=T) (ρ:=ρ) (m:=m) (nl:=0) t x (some lo) (some hi) mx hi e s l (L.map f) a b c rfl h hv.1 (hm (l,.row e s (L.map f)) (by simp)) (by simp [optInt,hv.2.1]) (by simp [optInt,hv.2.2.1]) (by simp [optInt,hv.2.2.2]) d.1 d.2.1 d.2.2.1 (by simpa using d.2.2.2)
  exact ⟨_,_,this⟩
theorem xt11 (h:tsl T t=some (e,s)) (c:0≤a∧a≤b∧b≤L.length):Ext P T (.slice t x (some lo) (some hi) none) [.ssl l 0 i s,.d (.v (.int ka a)),.d (.v (.int kb b))] [(l,.row e s (L.map f))] (.ssl l a.toNat b.toNat s) [] :=
 ext_of0 fun ρ m hv hm=>by
  simp [Op.operands] at hv
  have:=PAct0.sliceSS (P:=P) (T:=T) (ρ:=ρ) (m:=m) (nl:=0) t x (some lo) (some hi) e s l i (L.map f) a b h hv.1 (hm (l,.row e s (L.map f)) (by simp)) (by simp [optInt,hv.2.1]) (by simp [optInt,hv.2.2]) c.1 c.2.1 (by simpa using c.2.2)
  exact ⟨_,_,this⟩
theorem xlen (h:tsl T t=some (e,s)):Ext P T (.call ⟨.builtin .len,#[x],#[t]⟩) [.ssl l i j s] [] (.d (.v (.int .i64 ((j-i:Nat):Int)))) [] :=
 ext_of0 fun ρ m hv hm=>by
  simp [Op.operands,Call.operands] at hv
  exact ⟨0,_,.lenSS t x e s l i j h hv⟩
theorem xmv {nl:Nat} (hk:i≤L.length):Ext P T (.move x) [.ssl l 0 i s] [(l,.row e s (L.map f)),(nl,.free)] (.srf nl) [(l,.none),(nl,.row e s ((L.take i).map f))] :=
 ext_of0 fun ρ m hv hm=>by
  simp [Op.operands] at hv
  have:=PAct0.moveC (P:=P) (T:=T) (ρ:=ρ) (m:=m) (nl:=nl) x e s l i (L.map f) (hm (nl,.free) (by simp)) hv (hm (l,.row e s (L.map f)) (by simp)) (by simpa using hk)
  exact ⟨_,_,by simpa [List.map_take] using this⟩
theorem xapp {ti:TI} (h:tsl T t=some (e,s)) (h2:T[e]?=some ti) (c:i≤j∧j≤q∧q≤L.length) :
  Ext P T (.call ⟨.builtin .append,#[x,y],#[t,t]⟩) [.ssl l 0 i s,.ssl l j q s] [(l,.row e s (L.map f))] (.ssl l 0 (i+(q-j)) s) [(l,.row e s ((delR L i j q).map f))]:=by
 have:=ext_appendSS (P:=P) (T:=T) (l:=l) (x:=x) (y:=y) (xs:=L.map f) h h2 c.1 c.2.1 (by simpa using c.2.2)
 simpa [delR,List.map_take,List.map_drop] using this
theorem xclr {ti:TI} {z:α} {p:PV} (h:tsl T t=some (e,s)) (h2:T[e]?=some ti) (hz:zeroPV ti=some p) (hs:ti.zero.length=s) (h0:0<s) (hp:p=f z) (c:i≤j∧j≤L.length) :
  Ext P T (.call ⟨.builtin .clear,#[x],#[t]⟩) [.ssl l i j s] [(l,.row e s (L.map f))] .dead [(l,.row e s ((clrR L i j z).map f))]:=by
 have:=ext_clearSS (P:=P) (T:=T) (l:=l) (x:=x) (xs:=L.map f) h h2 hz hs h0 c.1 (by simpa using c.2)
 subst hp
 simpa [clrR,List.map_take,List.map_drop] using this
end
section
variable {P:Program} {T:List TI} {n:Nat} {w0:Cx} {st:PS} {a:Act} {w:World} {ow:Nat→Bool} {hd:Nat→Value}
def Src (ow:Nat→Bool) (w:World) (s:Nat) (v:Value) (ys:List PV):Prop :=
 ∃ (ad:Option Addr) (cap:Nat),v=.slice ad ys.length cap∧(ys=[]∨∃ (b off:Nat) (cells:List Value),ad=some ⟨b,off,none⟩∧w.rangeAt b off cells∧RE ow w s ys cells)
def SrcB (P:Program) (ow:Nat→Bool) (w:World) (s:Nat) (v:Value) (ys:List PV):Prop :=
 (Builtin.lenOf v).run P w=.ok ys.length w∧∀ m,m≤ys.length→∃ news:List Value,(Builtin.firstCells s m v).run P w=.ok news.toArray w∧RE ow w s (ys.take m) news
theorem copy_core (hT:TOk P T) (S:SimW n w0 st a w ow hd) {t t' e s l i j:Nat} {ti:TI} {xs ys:List PV} {x y:Operand} (h1:tsl T t=some (e,s)) (h2:T[e]?=some ti) (hx:RF (al st.m) hd ow w (.ssl l i j s) (a.eval x)) (hml:st.m[l]?=some (.row e s xs)) (hj:j≤xs.length) (hsrc:SrcB P ow w s (a.eval y) ys) (ty:TypeId) :
  ∃ w',(Builtin.copy_ #[t,t'] ty #[a.eval x,a.eval y]).run P w=.ok (.int .i64 (Nat.min ys.length (j-i):Nat)) w' ∧
   SimW n w0 ⟨st.f,st.m.set l (.row e s (xs.take i++ys.take (j-i)++xs.drop (i+Nat.min ys.length (j-i))))⟩ a w' ow hd:=by
 obtain ⟨i',dd,e1,e2,e3,e4,e5,e6⟩:=hT.info h2
 obtain ⟨hu,hs⟩:=tsl_und hT h1
 have hsi:=tsz_info hT hs
 rw [e1] at hsi
 simp at hsi
 simp only [RF] at hx
 obtain ⟨hA,ad,N,cap,x1,x2,x3,x4⟩:=hx
 obtain ⟨y1,y2⟩:=hsrc
 have hmin:Nat.min ys.length (j-i)≤ys.length:=Nat.min_le_left _ _
 have hmin2:Nat.min ys.length (j-i)≤j-i:=Nat.min_le_right _ _
 have htk:ys.take (j-i)=ys.take (Nat.min ys.length (j-i)):=by
  rcases Nat.le_total ys.length (j-i) with h | h
  ·rw [show Nat.min ys.length (j-i)=ys.length from Nat.min_eq_left h,List.take_length,List.take_of_length_le h]
  ·rw [show Nat.min ys.length (j-i)=j-i from Nat.min_eq_right h]
 have hlen:(ys.take (Nat.min ys.length (j-i))).length=Nat.min ys.length (j-i):=by rw [List.length_take]; exact Nat.min_eq_left hmin
 rw [htk]
 generalize hm:Nat.min ys.length (j-i)=m at *
 obtain ⟨news,f1,f2⟩:=y2 m hmin
 rw [← hsi] at f1
 have hnl:=f2.length
 rw [hlen] at hnl
 obtain ⟨cells,⟨g1,g2⟩,h4,h5⟩:=S.objs l _ hml
 rcases g2 with ⟨g2,g3⟩ | ⟨b,cap',cur,g2,g3,g4,g5,g6,g7,g8⟩
 ·rw [x1] at g2
  simp at g2
  obtain ⟨rfl,rfl,rfl⟩:=g2
  have hi0:i=0:=by omega
  have hj0:j=0:=by omega
  subst hi0 hj0
  have hm0:m=0:=by omega
  subst hm0
  have hn0:news=[]:=List.eq_nil_of_length_eq_zero (by simpa using hnl)
  subst hn0
  refine ⟨w,?_,?_⟩
  ·simp only [x4]
   simp [Builtin.copy_,run_underlying hu,y1,sizeOf,typeInfo,e1,hm,f1,goInt]
  ·have e0:st.m.set l (.row e s (xs.take 0++ys.take 0++xs.drop (0+0)))=st.m:=by
    apply List.ext_getElem?
    intro k
    rw [List.getElem?_set]
    split
    ·rename_i hk; subst hk
     rw [hml,if_pos (List.getElem?_eq_some_iff.1 hml).1]
     simp
    ·rfl
   rw [e0]
   exact S
 ·rw [x1] at g2
  simp at g2
  obtain ⟨rfl,rfl,rfl⟩:=g2
  obtain ⟨p1,p2,p3,_,S'⟩:=S.putEls (i:=i) hml x1 (by rw [hlen]; omega) f2
  rw [hlen] at S'
  have hst:=run_storeCells_cells (P:=P) b (i*s) news 0 w (fun k hk=>by rw [Nat.add_zero]; exact (p1 k hk).1) (fun k hk=>by rw [Nat.add_zero]; exact (p1 k hk).2) (RE.one f2)
  rw [Nat.add_zero] at hst
  refine ⟨_,?_,S'⟩
  by_cases hc:cap=i
  ·have hm0:m=0:=by omega
   subst hm0
   have hn0:news=[]:=List.eq_nil_of_length_eq_zero (by simpa using hnl)
   subst hn0
   have hji:j-i=0:=by omega
   simp only [x4,if_pos hc]
   rw [hji] at hm ⊢
   simp [Builtin.copy_,run_underlying hu,y1,sizeOf,typeInfo,e1,hm,f1,goInt,storeCells,World.setCells]
  ·simp only [x4,if_neg hc,Option.map_some,addr_add0]
   simp [Builtin.copy_,run_underlying hu,y1,sizeOf,typeInfo,e1,hm,f1,goInt,hst]
theorem Src.of_els {s:Nat} (S:SimW n w0 st a w ow hd) {y:Operand} {ys:List PV} {ls:List Nat} (h:Els st.m (ev st.f y) ys ls) (hf:ys.all (fits s)=true):Src ow w s (a.eval y) ys:=by
 obtain ⟨ad,cap,y1,y2⟩:=h.spec S
 refine ⟨ad,cap,y1,?_⟩
 rcases y2 with rfl | ⟨b,off,sz,cells,k1,k2,k3⟩
 ·exact .inl rfl
 ·exact .inr ⟨b,off,cells,k1,k2,RE.resize k3 hf⟩
end
section
variable {P:Program} {T:List TI} {α:Type} {f:α→PV} {L Y:List α} {t t' e e' s l l' i j p q:Nat} {x y:Operand} {ti:TI}
theorem srf_ssl {n:Nat} {w0:Cx} {st:PS} {a:Act} {w:World} {ow:Nat→Bool} {hd:Nat→Value} (S:SimW n w0 st a w ow hd) {xs:List PV} {u:Value} (hx:RF (al st.m) hd ow w (.srf l) u) (hml:st.m[l]?=some (.row e s xs)):RF (al st.m) hd ow w (.ssl l 0 xs.length s) u:=by
 simp only [RF] at hx ⊢
 obtain ⟨h1,h2,_⟩:=hx
 obtain ⟨cells,⟨g1,g2⟩,_⟩:=S.objs l _ hml
 rcases g2 with ⟨g2,g3⟩ | ⟨b,cap,cur,g2,g3,g4,g5,g6,g7,g8⟩
 ·exact ⟨h1,none,0,0,g2,Nat.zero_le _,by omega,by rw [h2,g2,g3]; rfl⟩
 ·exact ⟨h1,some ⟨b,0,none⟩,xs.length,cap,g2,Nat.zero_le _,g5,by rw [h2,g2]; simp [Addr.add]⟩
theorem ext_copyB {vs:List FV} {m0:List (Nat×PO)} {xs ys:List PV} (h1:tsl T t=some (e,s)) (h2:T[e]?=some ti) (hj:j≤xs.length) (hm0:(l,.row e s xs)∈m0) (fy:FV) (hvs:vs=[.ssl l i j s,fy]∨vs=[.srf l,fy]∧i=0∧j=xs.length)
  (hs:∀ (n:Nat) (w0:Cx) (st:PS) (a:Act) (w:World) (ow:Nat→Bool) (hd:Nat→Value),SimW n w0 st a w ow hd→ev st.f y=fy→(∀ q∈m0,st.m[q.1]?=some q.2)→SrcB P ow w s (a.eval y) ys) :
  Ext P T (.call ⟨.builtin .copy,#[x,y],#[t,t']⟩) vs m0 (.d (.v (.int .i64 (Nat.min ys.length (j-i):Nat)))) [(l,.row e s (xs.take i++ys.take (j-i)++xs.drop (i+Nat.min ys.length (j-i))))]:=by
 intro n w0 st a w o hT hS ho hn hv hm K Q hK
 obtain ⟨ow,hd,hold,S⟩:=hS
 obtain ⟨d,op,ty,pos,af,gd⟩:=o
 simp only at ho hn hK
 subst ho
 have hml:=hm _ hm0
 obtain ⟨hv1,hv2⟩:RF (al st.m) hd ow w (.ssl l i j s) (a.eval x)∧ev st.f y=fy:=by
  rcases hvs with hvs | ⟨hvs,rfl,rfl⟩
  ·subst hvs
   simp [Op.operands,Call.operands] at hv
   exact ⟨by rw [← hv.1]; exact S.eval x,hv.2⟩
  ·subst hvs
   simp [Op.operands,Call.operands] at hv
   refine ⟨srf_ssl S ?_ hml,hv.2⟩
   rw [← hv.1]; exact S.eval x
 obtain ⟨w',r1,S'⟩:=copy_core hT S (x:=x) (y:=y) (t':=t') h1 h2 hv1 hml hj (hs _ _ _ _ _ _ _ S hv2 hm) ty
 have hrun:(execOp a.eval ⟨d,.call ⟨.builtin .copy,#[x,y],#[t,t']⟩,ty,pos,af,gd⟩).run P w=.ok (.value (.int .i64 (Nat.min ys.length (j-i):Nat))) w':=by
  simp [execOp,resolve,invoke,builtin,r1]
 unfold Oper.wp
 rw [hrun]
 exact hK _ _ ⟨ow,hd,hold,S'.put hn (x:=.d (.v _)) (by simp only [RF,R]; exact ⟨trivial,rfl⟩)⟩
end
end Go.Proofs.YtdgocccbagbhjaaGreatDoor.pv
namespace Go.Proofs.YtdgocccbagbhjaaGreatDoor.pv
set_option linter.all false
open Go.RowKit
section
variable {P:Program} {T:List TI} {n:Nat} {w0:Cx} {st:PS} {a:Act} {w:World} {ow:Nat→Bool} {hd:Nat→Value}
variable {α:Type} {f:α→PV} {Y Z:List α} {t e s l' b:Nat} {ti:TI} {x y:Operand}
end
end Go.Proofs.YtdgocccbagbhjaaGreatDoor.pv
namespace Go.Proofs.YtdgocccbagbhjaaGreatDoor.pv
set_option linter.all false
open Go.RowKit
def capOf:Value→Nat
 | .slice _ _ c=>c
 | _=>0
def rowCI (e s C:Nat) (xs:List PV) (ow:Nat→Bool) (w:World) (h:Value):Prop:=∃ cells,w.ownsRow 0 e s h xs.length cells∧RE ow w s xs cells∧capOf h=C
def rowC (e s C:Nat) (xs:List PV):Cust where
 I:=fun ow w h _=>rowCI e s C xs ow w h
 lt:=by
  rintro ow w h vs ⟨cells,⟨_,h2⟩,_,_⟩ b hb
  rcases h2 with ⟨h2,_⟩ | ⟨g,cap,cur,h2,_,h4,_⟩
  ·rw [h2] at hb; simp [blocksOf,blockOf] at hb
  ·rw [h2] at hb; simp [blocksOf,blockOf] at hb; subst hb; exact (Array.getElem?_eq_some_iff.1 h4).1
 kp:=by
  rintro ow ow' w w' h vs k hb ⟨cells,h1,h2,h3⟩
  exact ⟨cells,ownsRow_kept h1 fun b e=>(hb b e).1,RE.mono k _ _ _ h2,h3⟩
 one:=by
  rintro ow w h vs ⟨cells,⟨_,h2⟩,_,_⟩
  rcases h2 with ⟨h2,_⟩ | ⟨g,cap,cur,h2,_,h4,_⟩
  ·rw [h2]; rfl
  ·rw [h2]; rfl
def rowHI (e s C:Nat) (xs:List PV) (m:Nat) (ys:List PV) (ow:Nat→Bool) (w:World) (h:Value):Prop :=
 ∃ (g:Nat) (cur:Array Value) (n:Nat),h=.slice (some ⟨g,0,none⟩) n C∧w.heap[g]?=some (.cells cur e (0,0))∧C≤maxLen∧cur.size=C*s∧xs.length+m+ys.length≤C ∧
  RE ow w s xs (cur.toList.take (xs.length*s))∧RE ow w s ys ((cur.toList.drop ((xs.length+m)*s)).take (ys.length*s))
def rowH (e s C:Nat) (xs:List PV) (m:Nat) (ys:List PV):Cust where
 I:=fun ow w h _=>rowHI e s C xs m ys ow w h
 lt:=by
  rintro ow w h vs ⟨g,cur,n,h1,h2,_⟩ b hb
  rw [h1] at hb; simp [blocksOf,blockOf] at hb; subst hb; exact (Array.getElem?_eq_some_iff.1 h2).1
 kp:=by
  rintro ow ow' w w' h vs k hb ⟨g,cur,n,h1,h2,h3,h4,h5,h6,h7⟩
  exact ⟨g,cur,n,h1,by rw [(hb g (by rw [h1]; first | rfl | simp [blocksOf,blockOf])).1]; exact h2,h3,h4,h5,RE.mono k _ _ _ h6,RE.mono k _ _ _ h7⟩
 one:=by
  rintro ow w h vs ⟨g,cur,n,h1,_⟩
  rw [h1]; rfl
section
variable {P:Program} {T:List TI} {n:Nat} {w0:Cx} {st:PS} {a:Act} {w:World} {ow:Nat→Bool} {hd:Nat→Value}
variable {α:Type} {f:α→PV} {L Y Z:List α} {t t' e s l nl i j k m C:Nat} {A B:Int} {ka kb:IntKind} {x y lo hi:Operand} {ti:TI}
end
end Go.Proofs.YtdgocccbagbhjaaGreatDoor.pv
namespace Go.Proofs.YtdgocccbagbhjaaGreatDoor.pv
set_option linter.all false
open Go.RowKit
section
variable {P:Program} {T:List TI} {n:Nat} {w0:Cx} {st:PS} {a:Act} {w:World} {ow:Nat→Bool} {hd:Nat→Value}
theorem wp_val' {o:Oper} {a:Act} {w w':World} {v:Value} {K:Act→World→Prop} {Q:Exit→Act→World→Prop} (hrun:(execOp a.eval o).run P w=.ok (.value v) w') (h:K (a.put o.dst v) w'):o.wp P a w K Q:=by
 unfold Oper.wp; rw [hrun]; exact h
variable {α:Type} {f:α→PV} {L Y Z:List α} {t t' e s l nl i j k m C:Nat} {x y:Operand} {ti:TI}
end
section
variable {P:Program} {T:List TI} {α:Type} {f:α→PV} {L Y Z:List α} {t e s l i j k m C:Nat} {x y:Operand}
end
section
variable {P:Program} {T:List TI}
end
def insI {α:Type} (b:Nat) (s:List α) (i:Int) (v:List α):Option (List α) :=
 if 0≤i∧i≤(s.length:Int)∧s.length+v.length≤4611686018427387904∧(s.length+v.length)*b≤140737488355328 then some (s.take i.toNat++v++s.drop i.toNat) else none
end Go.Proofs.YtdgocccbagbhjaaGreatDoor.pv
namespace Go.Proofs.YtdgocccbagbhjaaGreatDoor.pv
set_option linter.all false
open Go.RowKit
section
variable {P:Program} {T:List TI}
end
end Go.Proofs.YtdgocccbagbhjaaGreatDoor.pv
namespace Go.Proofs.YtdgocccbagbhjaaGreatDoor.pv
set_option linter.all false
open Go.RowKit
def b2s (L:List Int):ByteArray:=L.foldl (fun r n=>r.push (UInt8.ofNat n.toNat)) ByteArray.empty
def catS (a b:ByteArray):Option ByteArray:=if a.size+b.size≤9223372036854775807 then some (a++b) else none
def subS (a:ByteArray) (l h:Int):Option ByteArray:=if 0≤l∧l≤h∧h≤a.size then some (a.extract l.toNat h.toNat) else none
theorem tstr_und {P:Program} {T:List TI} (h:TOk P T) {t:Nat} (ht:tk T t=some .str):P.underlying t=some .string:=by
 unfold tk at ht
 cases hq:T[t]? with
 | none=>simp [hq] at ht
 | some ti =>
  obtain ⟨i,d,h1,h2,h3,h4,h5,_⟩:=h.info hq
  simp [hq] at ht
  rw [ht] at h5
  cases d <;> simp [kOk] at h5
  exact h2
theorem RE_bytes {ow:Nat→Bool} {w:World}:∀ {L:List Int} {cells:List Value},RE ow w 1 (L.map (eI .u8)) cells→cells=L.map (Value.int .u8)
 | [],_,h=>by simpa only [List.map_nil,RE] using h
 | x::L,cells,h=>by
  simp only [List.map_cons,RE,eI,R] at h
  obtain ⟨u,r,e,h1,h2,⟨h3,_⟩,h4⟩:=h
  subst h3
  rw [e,RE_bytes h4]; rfl
section
variable {P:Program} {T:List TI} {n:Nat} {w0:Cx} {st:PS} {a:Act} {w:World} {ow:Nat→Bool} {hd:Nat→Value}
theorem ext_b2s {src dst e s:Nat} {x:Operand} {L:List Int} {fx:FV} {m0:List (Nat×PO)} (h1:tsl T src=some (e,s)) (h2:tint T e=some .u8) (h3:tk T dst=some .str)
  (hs:∀ (n:Nat) (w0:Cx) (st:PS) (a:Act) (w:World) (ow:Nat→Bool) (hd:Nat→Value),SimW n w0 st a w ow hd→ev st.f x=fx→(∀ q∈m0,st.m[q.1]?=some q.2)→Src ow w 1 (a.eval x) (L.map (eI .u8))) :
  Ext P T (.convert src dst x) [fx] m0 (.d (.v (.string (b2s L)))) []:=by
 intro n w0 st a w o hT hS ho hn hv hm K Q hK
 obtain ⟨ow,hd,hold,S⟩:=hS
 obtain ⟨d,op,ty,pos,af,gd⟩:=o
 simp only at ho hn hK
 subst ho
 simp [Op.operands] at hv
 obtain ⟨ad,cap,y1,y2⟩:=hs _ _ _ _ _ _ _ S hv hm
 have hu:=(tsl_und hT h1).1
 have hc:(Conv.bytesToString (.slice ad (L.map (eI .u8)).length cap)).run P w=.ok (.string (b2s L)) w:=by
  rcases y2 with hnil | ⟨b,off,cells,rfl,y3,y5⟩
  ·have:L=[]:=by simpa using hnil
   subst this
   cases ad with
   | none=>simp [Conv.bytesToString,b2s]
   | some ad =>
    have:=run_bytesToString (P:=P) w ad 0 cap [] (by simpa using run_loadCells_list (P:=P) (w:=w) ad [] (by simp))
    simpa [b2s] using this
  ·rw [RE_bytes y5] at y3
   have:=run_bytesToString (P:=P) w ⟨b,off,none⟩ (L.map (eI .u8)).length cap L (by
    have:=run_loadCells_list (P:=P) (w:=w) ⟨b,off,none⟩ (L.map (Value.int .u8)) (fun j v hj=>by rw [Addr.add_mid]; exact y3 j v hj)
    simpa using this)
   simpa [b2s] using this
 have hrun:(execOp a.eval ⟨d,.convert src dst x,ty,pos,af,gd⟩).run P w=.ok (.value (.string (b2s L))) w:=by
  simp only [execOp,y1]
  have:=run_convert_bytes_string (P:=P) w src dst e ad (L.map (eI .u8)).length cap hu (tint_und hT h2) (tstr_und hT h3)
  simp only [Sem.run_bind,this,hc,Result.andThen_ok,Sem.run_pure]
 exact wp_val hrun (hK _ _ ⟨ow,hd,hold,S.put hn (x:=.d (.v _)) (by simp only [RF,R]; exact ⟨trivial,rfl⟩)⟩)
theorem xb2sD {src dst e s:Nat} {x:Operand} {L:List Int} (h1:tsl T src=some (e,s)) (h2:tint T e=some .u8) (h3:tk T dst=some .str) :
  Ext P T (.convert src dst x) [.d (.sl (L.map (eI .u8)))] [] (.d (.v (.string (b2s L)))) [] :=
 ext_b2s h1 h2 h3 (fun n w0 st a w ow hd S hx _=>Src.of_els S (by rw [hx]; exact .sl _) (by simp [fits,eI,isTup,psz]))
theorem xb2sR {src dst e s l:Nat} {x:Operand} {L:List Int} (h1:tsl T src=some (e,s)) (h2:tint T e=some .u8) (h3:tk T dst=some .str) :
  Ext P T (.convert src dst x) [.srf l] [(l,.row e 1 (L.map (eI .u8)))] (.d (.v (.string (b2s L)))) [] :=
 ext_b2s h1 h2 h3 (fun n w0 st a w ow hd S hx hm=>Src.of_els S (by rw [hx]; exact .row _ _ _ _ (hm (l,.row e 1 (L.map (eI .u8))) (by simp))) (by simp [fits,eI,isTup,psz]))
theorem xcatS {t ty':Nat} {x y:Operand} {p q r:ByteArray} (h:catS p q=some r):Ext P T (.binOp .add t x y ty') [.d (.v (.string p)),.d (.v (.string q))] [] (.d (.v (.string r))) []:=by
 intro n w0 st a' w o hT hS ho hn hv hm K Q hK
 obtain ⟨ow,hd,hold,S⟩:=hS
 obtain ⟨d,op,ty,pos,af,gd⟩:=o
 simp only at ho hn hK
 subst ho
 simp [Op.operands] at hv
 obtain ⟨e1,_⟩:=S.v hv.1
 obtain ⟨e2,_⟩:=S.v hv.2
 unfold catS at h
 split at h
 ·rename_i hc
  simp at h; subst h
  have hrun:(execOp a'.eval ⟨d,.binOp .add t x y ty',ty,pos,af,gd⟩).run P w=.ok (.value (.string (p++q))) w:=by
   have h':¬ (((p.size+q.size:Nat):Int) > IntKind.i64.max):=by simp [IntKind.max,IntKind.bits,IntKind.signed]; omega
   simp [execOp,e1,e2,eqGuard,binOp,Op.stringOp]
   first
    | (rw [if_neg (by simpa using h')]; simp)
    | simp_all
  exact wp_val hrun (hK _ _ ⟨ow,hd,hold,S.put hn (x:=.d (.v _)) (by simp only [RF,R]; exact ⟨trivial,rfl⟩)⟩)
 ·cases h
theorem ext_subS {t:Nat} {x:Operand} {lo hi:Option Operand} {p r:ByteArray} {i h:Int} {vs:List FV} (ht:tk T t=some .str)
  (hq:∀ ρ:Operand→FV,(Op.slice t x lo hi none).operands.toList.map ρ=vs→ρ x=.d (.v (.string p))∧optInt ρ 0 lo=some i∧optInt ρ p.size hi=some h) (hb:subS p i h=some r) :
  Ext P T (.slice t x lo hi none) vs [] (.d (.v (.string r))) []:=by
 intro n w0 st a' w o hT hS ho hn hv hm K Q hK
 obtain ⟨ow,hd,hold,S⟩:=hS
 obtain ⟨d,op,ty,pos,af,gd⟩:=o
 simp only at ho hn hK
 subst ho
 obtain ⟨q1,h4,h5⟩:=hq _ hv
 obtain ⟨e1,_⟩:=S.v q1
 unfold subS at hb
 split at hb
 ·rename_i hc
  obtain ⟨h6,h7,h8⟩:=hc
  simp at hb; subst hb
  have hlo:(match lo.map a'.eval with | some v=>Instr.sliceBound v h.toNat .sliceB | none=>pure 0:Sem Nat).run P w=.ok i.toNat w:=by
   cases lo with
   | none=>simp [optInt] at h4; subst h4; rfl
   | some o=>exact bound_opt S h4 h6 (by omega)
  have hhi:(match hi.map a'.eval with | some v=>Instr.sliceBound v p.size .sliceAlen | none=>pure p.size:Sem Nat).run P w=.ok h.toNat w:=by
   cases hi with
   | none=>simp [optInt] at h5; subst h5; simp
   | some o=>exact bound_opt S h5 (by omega) (by omega)
  have hsb:(Instr.sliceBounds false p.size p.size (lo.map a'.eval) (hi.map a'.eval) none).run P w=.ok (i.toNat,h.toNat,p.size) w:=by
   unfold Instr.sliceBounds
   cases hl:lo.map a'.eval <;> cases hh:hi.map a'.eval <;> rw [hl] at hlo <;> rw [hh] at hhi <;> simp_all
  have hrun:(execOp a'.eval ⟨d,.slice t x lo hi none,ty,pos,af,gd⟩).run P w=.ok (.value (.string (p.extract i.toNat h.toNat))) w:=by
   simp [execOp,Instr.sliceAt,Instr.slice,run_underlying (tstr_und hT ht),e1,hsb]
  exact wp_val hrun (hK _ _ ⟨ow,hd,hold,S.put hn (x:=.d (.v _)) (by simp only [RF,R]; exact ⟨trivial,rfl⟩)⟩)
 ·cases hb
variable {t:Nat} {x lo hi:Operand} {p r:ByteArray} {i h:Int} {ka kb:IntKind}
theorem xsub10 (ht:tk T t=some .str) (hb:subS p i p.size=some r):Ext P T (.slice t x (some lo) none none) [.d (.v (.string p)),.d (.v (.int ka i))] [] (.d (.v (.string r))) [] :=
 ext_subS (i:=i) ht (fun ρ hv=>by simp [Op.operands] at hv; exact ⟨hv.1,by simp [optInt,hv.2],rfl⟩) hb
theorem xsub01 (ht:tk T t=some .str) (hb:subS p 0 h=some r):Ext P T (.slice t x none (some hi) none) [.d (.v (.string p)),.d (.v (.int kb h))] [] (.d (.v (.string r))) [] :=
 ext_subS (h:=h) ht (fun ρ hv=>by simp [Op.operands] at hv; exact ⟨hv.1,rfl,by simp [optInt,hv.2]⟩) hb
theorem xsub11 (ht:tk T t=some .str) (hb:subS p i h=some r):Ext P T (.slice t x (some lo) (some hi) none) [.d (.v (.string p)),.d (.v (.int ka i)),.d (.v (.int kb h))] [] (.d (.v (.string r))) [] :=
 ext_subS (i:=i) (h:=h) ht (fun ρ hv=>by simp [Op.operands] at hv; exact ⟨hv.1,by simp [optInt,hv.2.1],by simp [optInt,hv.2.2]⟩) hb
end
section
variable {β γ:Type} {n sz P0 o idx:Nat} {A:Fin n→β} {jj:Int} {x y:β} {g:β→List γ} {pre post zs:List γ} {c:γ}
end
end Go.Proofs.YtdgocccbagbhjaaGreatDoor.pv
namespace Go.Proofs.YtdgocccbagbhjaaGreatDoor.pv
set_option linter.all false
open Go.RowKit help
def s2b (s:ByteArray):List Int:=s.data.toList.map fun b=>(b.toNat:Int)
def s2bO (s:ByteArray):Option (List Int):=if s.size≤maxLen then some (s2b s) else none
theorem s2b_len (s:ByteArray):(s2b s).length=s.size:=by
 unfold s2b
 rw [List.length_map]
 exact Array.length_toList
theorem RE_bytes' {ow:Nat→Bool} {w:World}:∀ (L:List Int),RE ow w 1 (L.map (eI .u8)) (L.map (Value.int .u8))
 | []=>by simp only [List.map_nil,RE]
 | x::L=>by
  simp only [List.map_cons,RE,eI,R]
  exact ⟨.int .u8 x,L.map (Value.int .u8),rfl,rfl,by simp [Value.cells,Value.oneCell'],⟨rfl,rfl⟩,RE_bytes' L⟩
section
variable {P:Program} {T:List TI}
theorem xs2b {src dst e:Nat} {x:Operand} {s:ByteArray} {L:List Int} (hL:s2bO s=some L) (h1:tsl T dst=some (e,1)) (h2:tint T e=some .u8) (h3:tk T src=some .str) :
  Ext P T (.convert src dst x) [.d (.v (.string s))] [] (.d (.sl (L.map (eI .u8)))) []:=by
 unfold s2bO at hL
 by_cases hs:s.size≤maxLen
 ·rw [if_pos hs] at hL
  have hL:=Option.some.inj hL
  subst hL
  intro n w0 st a w o hT hS ho hn hv hm K Q hK
  obtain ⟨ow,hd,hold,S⟩:=hS
  obtain ⟨d,op,ty,pos,af,gd⟩:=o
  simp only at ho hn hK
  subst ho
  simp [Op.operands] at hv
  obtain ⟨ex,_⟩:=S.v hv
  have hrun:(execOp a.eval ⟨d,.convert src dst x,ty,pos,af,gd⟩).run P w=.ok (.value (.slice (some ⟨w.heap.size,0,none⟩) s.size (grownCap w s.size 0 e))) (Lib.bytesWorld w e s):=by
   simp only [execOp,ex]
   have:=Lib.run_convert_string_bytes (P:=P) w src dst e s (tstr_und hT h3) (tsl_und hT h1).1 (tint_und hT h2)
   simp only [Sem.run_bind,this,Result.andThen_ok,Sem.run_pure]
  have hbel:Below w.heap.size w (Lib.bytesWorld w e s):=⟨rfl,rfl,rfl,by rw [Lib.bytesWorld_size]; omega,fun j hj=>Lib.bytesWorld_at_old w e s j hj⟩
  unfold Oper.wp
  rw [hrun]
  refine hK _ _ ⟨ow,hd,hold,(S.later hbel).put hn (x:=.d (.sl _)) ?_⟩
  have hlen:((s2b s).map (eI .u8)).length=s.size:=by rw [List.length_map,s2b_len]
  simp only [RF,R]
  refine ⟨some ⟨w.heap.size,0,none⟩,grownCap w s.size 0 e,by rw [hlen],by rw [hlen]; exact grownCap_ge w s.size 0 e,grownCap_le_maxLen w s.size 0 e hs,.inr ⟨w.heap.size,0,1,(s2b s).map (Value.int .u8),rfl,by rw [Lib.bytesWorld_size]; omega,S.fresh _ (Nat.le_refl _),?_,RE_bytes' _⟩⟩
  intro j v hj
  have hjl:j<s.size:=by
   have:=(List.getElem?_eq_some_iff.1 hj).1
   rwa [List.length_map,s2b_len] at this
  have hc:=Lib.bytesWorld_cell w e s j hjl
  rw [Nat.zero_add,hc]
  rw [s2b,List.map_map,List.getElem?_map] at hj
  have hg:s.data.toList[j]?=some (s.data.toList.getD j 0):=by
   rw [List.getD_eq_getElem?_getD]
   have:j<s.data.toList.length:=by rw [Array.length_toList]; exact hjl
   rw [List.getElem?_eq_getElem this]; rfl
  rw [hg] at hj
  simpa using hj
 ·rw [if_neg hs] at hL; cases hL
end
end Go.Proofs.YtdgocccbagbhjaaGreatDoor.pv
namespace Go.Proofs.YtdgocccbagbhjaaGreatDoor.pv
set_option linter.all false
open Go.RowKit help
section
variable {P:Program} {T:List TI}
theorem xcpStr {L:List Int} {t t' e l i j:Nat} {x y:Operand} {ti:TI} {b:ByteArray} (h1:tsl T t=some (e,1)) (h2:T[e]?=some ti) (hj:j≤L.length) :
  Ext P T (.call ⟨.builtin .copy,#[x,y],#[t,t']⟩) [.ssl l i j 1,.d (.v (.string b))] [(l,.row e 1 (L.map (eI .u8)))] (.d (.v (.int .i64 (Nat.min (s2b b).length (j-i):Nat)))) [(l,.row e 1 ((cpyR L i j (s2b b)).map (eI .u8)))]:=by
 have:=ext_copyB (P:=P) (T:=T) (t':=t') (x:=x) (y:=y) (l:=l) (i:=i) (j:=j) (xs:=L.map (eI .u8)) (ys:=(s2b b).map (eI .u8)) (m0:=[(l,.row e 1 (L.map (eI .u8)))]) h1 h2 (by simpa using hj) (by simp) (.d (.v (.string b))) (.inl rfl)
  (fun n w0 st a w ow hd S hy _=>by
   obtain ⟨hv,_⟩:=S.v hy
   rw [hv]
   refine ⟨by simp [Builtin.lenOf,s2b_len],fun m hm=>⟨((s2b b).take m).map (Value.int .u8),?_,?_⟩⟩
   ·simp only [Builtin.firstCells,Sem.run_pure]
    congr 1
    apply Array.toList_inj.1
    simp [s2b,ByteArray.data_extract,List.map_take]
    rfl
   ·rw [← List.map_take]; exact RE_bytes' _)
 simpa [cpyR,List.map_take,List.map_drop] using this
end
end Go.Proofs.YtdgocccbagbhjaaGreatDoor.pv
namespace Go.Proofs.YtdgocccbagbhjaaGreatDoor.pv
set_option linter.all false
open Go.RowKit
section
variable {P:Program} {T:List TI}
variable {α:Type} {f:α→PV} {L Y Z:List α} {t t' e s l nl i j k m C:Nat} {A B:Int} {ka kb:IntKind} {x y lo hi:Operand} {ti:TI}
end
section
variable {P:Program} {T:List TI} {α:Type} {f:α→PV} {L Y Z:List α} {t e s l i j k m C:Nat} {x y:Operand}
end
def repI {α:Type} (b:Nat) (s:List α) (i j:Int) (v:List α):Option (List α) :=
 if 0≤i∧i<j∧j≤(s.length:Int)∧(v.length=0∨j-i≤(v.length:Int))∧s.length+v.length≤4611686018427387904∧(s.length+v.length)*b≤140737488355328 then some (s.take i.toNat++v++s.drop j.toNat) else none
end Go.Proofs.YtdgocccbagbhjaaGreatDoor.pv
namespace Go.Proofs.YtdgocccbagbhjaaGreatDoor.pv
set_option linter.all false
open Go.RowKit
def fl (xs:List PV):List PV:=xs.flatMap pcells
section
variable {ow:Nat→Bool} {w:World}
end
def noB:Value:=.bool false
def bagI (ct:Nat→Nat×Nat) (q:Nat→Bool) (xs:List PV) (ow:Nat→Bool) (w:World) (v:Value):Prop :=
 ∃ caps:Array Value,v=.func (.func 0) #[] caps∧caps.size=(fl xs).length ∧
  (∀ k:Nat,k<caps.size→q k=true→∃ (ys:List PV) (cs:List Value) (u:Value),(fl xs)[k]?=some (.sl ys)∧caps[k]?=some u∧w.ownsRow 0 (ct k).1 (ct k).2 u ys.length cs∧RE ow w (ct k).2 ys cs) ∧
  (∀ (k:Nat) (u:Value),caps[k]?=some u→q k=false→u=noB) ∧
  (∀ (k k':Nat) (u u':Value) (b:Nat),k≠k'→caps[k]?=some u→caps[k']?=some u'→blockOf u=some b→blockOf u'≠some b)
theorem mem_caps {caps:Array Value} {b:Nat} (h:b∈blocksOf (.func (.func 0) #[] caps)):∃ (k:Nat) (u:Value),caps[k]?=some u∧blockOf u=some b:=by
 simp only [blocksOf,List.mem_filterMap] at h
 obtain ⟨u,hu,hb⟩:=h
 obtain ⟨k,hk⟩:=List.getElem?_of_mem hu
 exact ⟨k,u,by simpa using hk,hb⟩
theorem caps_mem {caps:Array Value} {b k:Nat} {u:Value} (h:caps[k]?=some u) (hb:blockOf u=some b):b∈blocksOf (.func (.func 0) #[] caps):=by
 simp only [blocksOf,List.mem_filterMap]
 exact ⟨u,by
  have:caps.toList[k]?=some u:=by simpa using h
  exact List.mem_of_getElem? this,hb⟩
theorem owns_bo {w:World} {e s n:Nat} {u:Value} {cs:List Value} (h:w.ownsRow 0 e s u n cs) {b:Nat} (hb:b∈blocksOf u):blockOf u=some b∧b<w.heap.size:=by
 obtain ⟨_,h⟩:=h
 rcases h with ⟨rfl,_⟩ | ⟨g,cap,cur,rfl,_,h4,_⟩
 ·simp [blocksOf,blockOf] at hb
 ·simp [blocksOf,blockOf] at hb; subst hb
  exact ⟨rfl,(Array.getElem?_eq_some_iff.1 h4).1⟩
theorem owns_one {w:World} {e s n:Nat} {u:Value} {cs:List Value} (h:w.ownsRow 0 e s u n cs):u.oneCell'=true:=by
 obtain ⟨_,h⟩:=h
 rcases h with ⟨rfl,_⟩ | ⟨g,cap,cur,rfl,_,h4,_⟩ <;> rfl
def bagC (ct:Nat→Nat×Nat) (q:Nat→Bool) (xs:List PV):Cust where
 I:=fun ow w v _=>bagI ct q xs ow w v
 lt:=by
  rintro ow w v vs ⟨caps,rfl,hs,h1,h2,h3⟩ b hb
  obtain ⟨k,u,hk,hb'⟩:=mem_caps hb
  have hlt:k<caps.size:=(Array.getElem?_eq_some_iff.1 hk).1
  cases hq:q k with
  | false=>rw [h2 k u hk hq] at hb'; simp [noB,blockOf] at hb'
  | true =>
   obtain ⟨ys,cs,u',g1,g2,g3,g4⟩:=h1 k hlt hq
   rw [hk] at g2; cases g2
   exact (owns_bo g3 (mem_of_bo hb')).2
 kp:=by
  rintro ow ow' w w' v vs hk hb ⟨caps,rfl,hs,h1,h2,h3⟩
  refine ⟨caps,rfl,hs,fun k hlt hq=>?_,h2,h3⟩
  obtain ⟨ys,cs,u,g1,g2,g3,g4⟩:=h1 k hlt hq
  exact ⟨ys,cs,u,g1,g2,ownsRow_kept g3 fun b hb'=>(hb b (caps_mem g2 (owns_bo g3 hb').1)).1,RE.mono hk _ _ _ g4⟩
 one:=by
  rintro ow w v vs ⟨caps,rfl,_⟩
  rfl
def outI (ty sz:Nat) (q:Nat→Bool) (hs:List (Option Nat)) (xs:List PV) (ow:Nat→Bool) (w:World) (v:Value) (vs:List Value):Prop :=
 ∃ (cells:List Value) (caps:Array Value),w.ownsRow 0 ty sz v xs.length cells∧vs[0]?=some (.func (.func 0) #[] caps) ∧
  ∀ (k:Nat) (p:PV),(fl xs)[k]?=some p→∃ u:Value,cells[k]?=some u∧u.oneCell'=true∧(q k=true→caps[k]?=some u)∧(∀ j:Nat,hs[j]?=some (some k)→vs[j+1]?=some u) ∧
   (q k=false→(∀ j:Nat,hs[j]?≠some (some k))→R ow w p u)
def outC (ty sz:Nat) (q:Nat→Bool) (hs:List (Option Nat)) (xs:List PV):Cust where
 I:=outI ty sz q hs xs
 lt:=by
  rintro ow w v vs ⟨cells,caps,h1,_⟩ b hb
  exact (owns_bo h1 hb).2
 kp:=by
  rintro ow ow' w w' v vs hk hb ⟨cells,caps,h1,h2,h3⟩
  refine ⟨cells,caps,ownsRow_kept h1 fun b e=>(hb b e).1,h2,fun k p hp=>?_⟩
  obtain ⟨u,g1,g2,g3,g4,g5⟩:=h3 k p hp
  exact ⟨u,g1,g2,g3,g4,fun a b=>R.mono hk _ _ (g5 a b)⟩
 one:=by
  rintro ow w v vs ⟨cells,caps,h1,_⟩
  exact owns_one h1
section
variable {P:Program} {T:List TI} {n:Nat} {w0:Cx} {st:PS} {a:Act} {w:World} {ow:Nat→Bool} {hd:Nat→Value}
end
end Go.Proofs.YtdgocccbagbhjaaGreatDoor.pv
namespace Go.Proofs.YtdgocccbagbhjaaGreatDoor.pv
set_option linter.all false
open Go.RowKit
section
variable {P:Program} {T:List TI} {n:Nat} {w0:Cx} {st:PS} {a:Act} {w:World} {ow:Nat→Bool} {hd:Nat→Value}
theorem own_R {e s:Nat} {u:Value} {ys:List PV} {cs:List Value} {ow':Nat→Bool} (h:w.ownsRow 0 e s u ys.length cs) (hr:RE ow w s ys cs) (hk:Kp ow w ow' w) (hb:∀ b,b∈blocksOf u→ow' b=false):R ow' w (.sl ys) u:=by
 obtain ⟨h1,h1'⟩:=h
 simp only [R]
 rcases h1' with ⟨e2,e3⟩ | ⟨gb,cap,cur,e2,e3,e4,e5,e6,e7,e8⟩
 ·rw [e2]; exact ⟨none,0,by rw [e3],by omega,by simp [maxLen],.inl (List.eq_nil_of_length_eq_zero e3)⟩
 ·refine ⟨some ⟨gb,0,none⟩,cap,e2,e5,e6,.inr ⟨gb,0,s,cs,rfl,(Array.getElem?_eq_some_iff.1 e4).1,hb gb (by rw [e2]; first | rfl | simp [blocksOf,blockOf]),fun j v hv=>?_,RE.mono hk _ _ _ hr⟩⟩
  rw [← e8,List.getElem?_take] at hv
  split at hv
  ·unfold World.cell?
   simp only [e4]
   simpa using hv
  ·cases hv
def nThaw (l ty sz:Nat) (ct:Nat→Nat×Nat) (q:Nat→Bool) (hs:List (Option Nat)) (xs:List PV) (st:PS):PS :=
 ⟨st.f,st.m.set l (.cu (outC ty sz q hs xs) (.srf st.m.length::hs.map fun _=>.d (.v noB)))++[.cu (bagC ct q xs) []]⟩
def nFrz (l B ty sz:Nat) (xs:List PV) (st:PS):PS:=⟨st.f,(st.m.set B .none).set l (.row ty sz xs)⟩
end
end Go.Proofs.YtdgocccbagbhjaaGreatDoor.pv
namespace Go.Proofs.YtdgocccbagbhjaaGreatDoor.pv
set_option linter.all false
open Go.RowKit Go.MapKept
def Stp (es:List MapEntry) (clock:Nat):Prop:=(∀ e∈es,e.born<clock)∧es.Pairwise (fun x y=>x.born≠y.born)
theorem Stp.push {es:List MapEntry} {clock:Nat} (h:Stp es clock) (k v:Value):Stp (es++[{ key:=k,val:=v,born:=clock }]) (clock+1):=by
 refine ⟨fun e he=>?_,?_⟩
 ·rcases List.mem_append.1 he with he | he
  ·have:=h.1 e he; omega
  ·rw [List.mem_singleton.1 he]; exact Nat.lt_succ_self _
 ·rw [List.pairwise_append]
  refine ⟨h.2,by simp,fun a ha b hb=>?_⟩
  rw [List.mem_singleton.1 hb]
  have:=h.1 a ha
  simp only
  omega
theorem mod_born (k v:Value):∀ (es:List MapEntry) (i:Nat),(es.modify i fun e=>{ e with key:=k,val:=v }).map (·.born)=es.map (·.born)
 | [],i=>by rw [List.modify_nil]
 | e::es,0=>rfl
 | e::es,i+1=>by simp only [List.modify_succ_cons,List.map_cons,mod_born k v es i]
theorem Stp.of_born {es es':List MapEntry} {clock:Nat} (h:Stp es clock) (e:es'.map (·.born)=es.map (·.born)):Stp es' clock:=by
 refine ⟨fun x hx=>?_,?_⟩
 ·have:x.born∈es.map (·.born):=by rw [← e]; exact List.mem_map.2 ⟨x,hx,rfl⟩
  obtain ⟨y,hy,hb⟩:=List.mem_map.1 this
  rw [← hb]; exact h.1 y hy
 ·have h2:=(List.pairwise_map (f:=fun x:MapEntry=>x.born) (R:=fun a b:Nat=>a≠b)).2 h.2
  rw [← e] at h2
  exact List.pairwise_map.1 h2
section
variable {κ ν:Type} [DecidableEq κ]
def mplc:List (κ×ν)→κ→Option (Nat×ν)
 | [],_=>none
 | p::r,k=>if k=p.1 then some (0,p.2) else (mplc r k).map fun q=>(q.1+1,q.2)
def mget (E:List (κ×ν)) (k:κ):Option ν:=(mplc E k).map (·.2)
def mput (E:List (κ×ν)) (k:κ) (v:ν):List (κ×ν):=match mplc E k with | some (i,_)=>E.set i (k,v) | none=>E++[(k,v)]
theorem mplc_some:∀ {E:List (κ×ν)} {k:κ} {i:Nat} {v:ν},mplc E k=some (i,v)→E[i]?=some (k,v)
 | p::r,k,i,v,h=>by
  unfold mplc at h
  split at h
  ·rename_i e; simp at h; obtain ⟨rfl,rfl⟩:=h; subst e; rfl
  ·cases hq:mplc r k with
   | none=>simp [hq] at h
   | some q =>
    simp [hq] at h
    obtain ⟨rfl,rfl⟩:=h
    simpa using mplc_some hq
theorem mplc_set:∀ {E:List (κ×ν)} {k:κ} {i:Nat} {v0:ν} (v:ν) (j:κ),mplc E k=some (i,v0)→mplc (E.set i (k,v)) j=if j=k then some (i,v) else mplc E j
 | p::r,k,i,v0,v,j,h=>by
  unfold mplc at h
  split at h
  ·rename_i e
   simp at h
   obtain ⟨rfl,rfl⟩:=h
   subst e
   simp only [List.set_cons_zero,mplc]
   split <;> simp_all
  ·rename_i e
   cases hq:mplc r k with
   | none=>simp [hq] at h
   | some q =>
    simp [hq] at h
    obtain ⟨rfl,rfl⟩:=h
    simp only [List.set_cons_succ,mplc]
    rw [mplc_set v j hq]
    split
    ·rename_i e1
     have:j≠k:=fun e2=>e (e2 ▸ e1)
     rw [if_neg this]
    ·split <;> rfl
theorem mplc_app:∀ {E:List (κ×ν)} {k:κ} (v:ν) (j:κ),mplc E k=none→mplc (E++[(k,v)]) j=if j=k then some (E.length,v) else mplc E j
 | [],k,v,j,h=>by simp [mplc]
 | p::r,k,v,j,h=>by
  unfold mplc at h
  split at h
  ·cases h
  ·rename_i e
   have hq:mplc r k=none:=by cases hq:mplc r k <;> simp_all
   simp only [List.cons_append,mplc,List.length_cons]
   rw [mplc_app v j hq]
   split
   ·rename_i e1
    have:j≠k:=fun e2=>e (e2 ▸ e1)
    rw [if_neg this]
   ·split <;> rfl
theorem mget_mput (E:List (κ×ν)) (k:κ) (v:ν) (j:κ):mget (mput E k v) j=if j=k then some v else mget E j:=by
 unfold mget mput
 cases h:mplc E k with
 | none=>simp only []; rw [mplc_app v j h]; split <;> rfl
 | some q=>obtain ⟨i,v0⟩:=q; simp only []; rw [mplc_set v j h]; split <;> rfl
end
structure KOk (P:Program) (kt:Nat) {κ:Type} [DecidableEq κ] (d:TypeDesc) (f:κ→Value):Prop where
 und:P.underlying kt=some d
 key:∀ a,IsKey d (f a)
 now:∀ a b,Instr.sameNow d (f a) (f b)=some (decide (a=b))
theorem KOk.str {P:Program} {kt:Nat} (h:P.underlying kt=some .string):KOk P kt .string (fun a:ByteArray=>Value.string a) :=
 ⟨h,fun _=>trivial,fun a b=>by
  simp only [Instr.sameNow]; congr 1
  by_cases e:a=b
  ·simp [e,(bytes_beq b b).2 rfl]
  ·have:(a == b)=false:=by
    cases q:(a == b)
    ·rfl
    ·exact absurd ((bytes_beq a b).1 q) e
   simp [e,this]⟩
section
variable {κ ν:Type} [DecidableEq κ] {f:κ→Value} {g:ν→Value} {d:TypeDesc}
theorem findNow_mix (hn:∀ a b,Instr.sameNow d (f a) (f b)=some (decide (a=b))) (k:κ):∀ (es:List MapEntry) (E:List (κ×ν)) (i:Nat),es.map (fun e=>(e.key,e.val))=E.map (fun p=>(f p.1,g p.2)) →
  Instr.findNow d (f k) es i=some ((mplc E k).map fun q=>(i+q.1,g q.2))
 | [],E,i,h=>by
  have:E=[]:=by cases E with | nil=>rfl | cons _ _=>simp at h
  subst this; rfl
 | e::es,[],i,h=>by simp at h
 | e::es,p::r,i,h=>by
  simp only [List.map_cons,List.cons.injEq,Prod.mk.injEq] at h
  obtain ⟨⟨h1,h2⟩,h3⟩:=h
  unfold Instr.findNow mplc
  rw [h1,hn]
  by_cases e1:k=p.1
  ·simp [e1,h2]
  ·simp only [e1,decide_false,if_false]
   rw [findNow_mix hn k es r (i+1) h3]
   cases mplc r k <;> simp <;> omega
structure KW (P:Program) (kt:Nat) {κ:Type} [DecidableEq κ] (f:κ→Value):Prop where
 chk:∀ a b (w:World),(Instr.checkKey b 10000 kt (f a)).run P w=.ok () w
 find:∀ {ν:Type} (g:ν→Value) (k:κ) (es:List MapEntry) (E:List (κ×ν)) (w:World),es.map (fun e=>(e.key,e.val))=E.map (fun p=>(f p.1,g p.2))→(Instr.findKey kt (f k) es).run P w=.ok ((mplc E k).map fun q=>(q.1,g q.2)) w
 stay:∀ a (w:World),(Instr.keyThatStays (f a) (f a)).run P w=.ok (f a) w
theorem KOk.kw {P:Program} {kt:Nat} (h:KOk P kt d f):KW P kt f :=
 ⟨fun a b w=>run_checkKey h.und (h.key a) b 9999,fun g k es E w he=>by
  have:=run_findKey (w:=w) h.und (findNow_mix (g:=g) h.now k es E 0 he)
  simpa using this,fun a w=>run_keyThatStays (h.key a)⟩
def plainC:Value→Bool
 | .int _ _=>true
 | .bool _=>true
 | .string _=>true
 | _=>false
def mapC (f:κ→Value) (g:ν→Value) (E:List (κ×ν)):Cust where
 I ow w h vs:=∃ b clock es,h=.map (some b)∧w.heap[b]?=some (.map es clock)∧es.toList.map (fun e=>(e.key,e.val))=E.map (fun p=>(f p.1,g p.2))∧Stp es.toList clock
 lt:=by
  rintro ow w h vs ⟨b,clock,es,rfl,h2,_⟩ b' hb
  simp [blocksOf,blockOf] at hb
  subst hb
  exact (Array.getElem?_eq_some_iff.1 h2).1
 kp:=by
  rintro ow ow' w w' h vs k hb ⟨b,clock,es,rfl,h2,h3⟩
  exact ⟨b,clock,es,rfl,by rw [(hb b (by simp [blocksOf,blockOf])).1]; exact h2,h3⟩
 one:=by rintro ow w h vs ⟨b,clock,es,rfl,_⟩; rfl
end
section
variable {P:Program} {T:List TI} {n:Nat} {w0:Cx} {st:PS} {a:Act} {w:World} {ow:Nat→Bool} {hd:Nat→Value}
variable {κ ν:Type} [DecidableEq κ] {f:κ→Value} {g:ν→Value} {E:List (κ×ν)}
theorem SimW.newMap (S:SimW n w0 st a w ow hd) {l:Nat} (hl:st.m[l]?=some .free) (f:κ→Value) (g:ν→Value) :
  ∃ ow' hd',((∀ b,b<w.heap.size→ow' b=ow b)∧∀ j,al st.m j=true→al (st.m.set l (.cu (mapC f g []) [])) j=true∧hd' j=hd j)∧SimW n w0 ⟨st.f,st.m.set l (.cu (mapC f g []) [])⟩ a (w.alloc (.map #[] 0)) ow' hd'∧RF (al (st.m.set l (.cu (mapC f g []) []))) hd' ow' (w.alloc (.map #[] 0)) (.srf l) (.map (some w.heap.size)):=by
 have hsz:(w.alloc (.map #[] 0)).heap.size=w.heap.size+1:=by simp
 have hk:Kp ow w (fun b=>if b=w.heap.size then true else ow b) (w.alloc (.map #[] 0)) :=
  ⟨by rw [hsz]; omega,fun b hb h=>by show (if b=w.heap.size then true else ow b)=false; rw [if_neg (by omega)]; exact h,fun b hb _=>Below.heap_alloc w _ b hb⟩
 have hal:al st.m l=false:=by simp [al,hl,PO.made]
 have hlt:l<st.m.length:=(List.getElem?_eq_some_iff.1 hl).1
 have ha:∀ j,al st.m j=true→al (st.m.set l (.cu (mapC f g []) [])) j=true∧upd hd l (.map (some w.heap.size)) j=hd j:=by
  intro j hj
  refine ⟨al_set_mono rfl j hj,?_⟩
  rw [upd_ne]
  intro e; rw [e,hal] at hj; cases hj
 have S':=S.obj (l:=l) (hv:=.map (some w.heap.size)) (o:=.cu (mapC f g []) []) hk (Kt.of_below ((Below.refl _ _).alloc S.below.size _) (Nat.le_refl _))
  (fun b hb=>by rw [hsz] at hb; show (if b=w.heap.size then true else ow b)=false; rw [if_neg (by omega)]; exact S.fresh b (by omega)) (.inl hal) rfl
  ⟨fun b hb=>by
    simp [blocksOf,blockOf] at hb; subst hb
    exact ⟨.inl S.below.size,by simp⟩,
   [],by simp [RFL],w.heap.size,0,#[],rfl,heap_alloc_new w _,by simp,by simp,by simp⟩
  (fun j oj b e hj hl hbk=>by
   have:=((S.objs j oj hj).lt hl b hbk).1
   refine ⟨Below.heap_alloc w _ b this,if_neg (by omega),fun _ he=>?_⟩
   simp [blocksOf,blockOf] at he
   omega)
 refine ⟨_,_,⟨?_,ha⟩,S',?_⟩
 ·intro b hb
  show (if b=w.heap.size then true else ow b)=ow b
  rw [if_neg (by omega)]
 ·simp only [RF]
  exact ⟨by rw [al_set_same hlt]; rfl,by rw [upd_same],by rw [upd_same]; rfl⟩
theorem ymake {t nl:Nat} (f:κ→Value) (g:ν→Value):Ext P T (.makeMap t none) [] [(nl,.free)] (.srf nl) [(nl,.cu (mapC f g []) [])]:=by
 intro n w0 st a w o hT hS ho hn hv hm K Q hK
 obtain ⟨ow,hd,hold,S⟩:=hS
 obtain ⟨d,op,ty,pos,af,gd⟩:=o
 simp only at ho hn hK
 subst ho
 have hml:=hm (nl,.free) (by simp)
 obtain ⟨ow',hd',⟨h1,h2⟩,S',hr⟩:=S.newMap hml f g
 have hrun:(execOp a.eval ⟨d,.makeMap t none,ty,pos,af,gd⟩).run P w=.ok (.value (.map (some w.heap.size))) (w.alloc (.map #[] 0)):=by
  have:(Instr.makeMap t none).run P w=.ok (.map (some w.heap.size)) (w.alloc (.map #[] 0)):=rfl
  simp only [execOp,Option.map_none,Sem.run_bind,this,Result.andThen_ok,Sem.run_pure]
 exact wp_val' hrun (hK _ _ ⟨ow',hd',hold.step fun b hb _=>h1 b (Nat.lt_of_lt_of_le hb S.below.size),S'.put hn hr⟩)
theorem wp_skip' {o:Oper} {a:Act} {w w':World} {K:Act→World→Prop} {Q:Exit→Act→World→Prop} (hrun:(execOp a.eval o).run P w=.ok .skip w') (h:K (a.put o.dst undef) w'):o.wp P a w K Q:=by
 unfold Oper.wp; rw [hrun]; exact h
def KV (x:FV) (u:Value):Prop:=∀ (A:Nat→Bool) (hd:Nat→Value) (ow:Nat→Bool) (w:World) (v:Value),RF A hd ow w x v→v=u
theorem kv_v (u:Value):KV (.d (.v u)) u:=fun A hd ow w v h=>by simp only [RF,R] at h; exact h.1
instance decFin {n:Nat} {α:Type} [DecidableEq α]:DecidableEq (Fin n→α):=fun f g=>decidable_of_iff (∀ i,f i=g i) ⟨funext,fun h i=>h ▸ rfl⟩
theorem ylook {t kt et l:Nat} {x y:Operand} {k:κ} {z:ν} {r:FV} {fk:FV} (hfk:KV fk (f k)) (c:Bool) (h1:P.underlying t=some (.map kt et)) (hk:KW P kt f) (hz:∀ w,(zeroValue et).run P w=.ok (g z) w) (hg:∀ v,(g v).oneCell'=true)
  (hr:r=if c then .d (.tup [.v (g ((mget E k).getD z)),.v (.bool (mget E k).isSome)]) else .d (.v (g ((mget E k).getD z)))) :
  Ext P T (.lookup t x y c) [.srf l,fk] [(l,.cu (mapC f g E) [])] r []:=by
 intro n w0 st a w o hT hS ho hn hv hm K Q hK
 obtain ⟨ow,hd,hold,S⟩:=hS
 obtain ⟨dst,op,ty,pos,af,gd⟩:=o
 simp only at ho hn hK
 subst ho
 simp [Op.operands] at hv
 obtain ⟨hv1,hv2⟩:=hv
 have hml:=hm (l,.cu (mapC f g E) []) (by simp)
 obtain ⟨g1,vs,g2,b,clock,es,q1,q2,q3,q4⟩:=S.objs l _ hml
 have hx:=S.eval x
 rw [hv1] at hx
 simp only [RF] at hx
 obtain ⟨_,hx,_⟩:=hx
 have hy:a.eval y=f k:=by have:=S.eval y; rw [hv2] at this; exact hfk _ _ _ _ _ this
 have hf:=hk.find g k es.toList E w q3
 have hrun:(Instr.lookup t (.map (some b)) (f k) c).run P w=.ok (if c then .tuple #[g ((mget E k).getD z),.bool (mget E k).isSome] else g ((mget E k).getD z)) w:=by
  cases hq:mplc E k with
  | none =>
   rw [hq] at hf
   simp [Instr.lookup,run_underlying h1,MapKept.run_getObj_map q2,hk.chk,hf,Result.andThen,mget,hq,hz]
  | some q =>
   rw [hq] at hf
   simp [Instr.lookup,run_underlying h1,MapKept.run_getObj_map q2,hk.chk,hf,Result.andThen,mget,hq]
 have hrun':(execOp a.eval ⟨dst,.lookup t x y c,ty,pos,af,gd⟩).run P w=.ok (.value (if c then .tuple #[g ((mget E k).getD z),.bool (mget E k).isSome] else g ((mget E k).getD z))) w:=by
  simp only [execOp,hx,q1,hy,Sem.run_bind,hrun,Result.andThen_ok,Sem.run_pure]
 refine wp_val' hrun' (hK _ _ ⟨ow,hd,hold,S.put hn ?_⟩)
 rw [hr]
 cases c
 ·simp only [Bool.false_eq_true,if_false,RF,R]; exact ⟨trivial,hg _⟩
 ·simp only [if_true,RF,R,RT]
  exact ⟨_,rfl,_,_,rfl,⟨rfl,hg _⟩,_,_,rfl,⟨rfl,rfl⟩,rfl⟩
theorem yput {t kt et l:Nat} {x y z:Operand} {k:κ} {v:ν} {fk:FV} (hfk:KV fk (f k)) (h1:P.underlying t=some (.map kt et)) (hk:KW P kt f) :
  Ext P T (.mapUpdate t x y z) [.srf l,fk,.d (.v (g v))] [(l,.cu (mapC f g E) [])] .dead [(l,.cu (mapC f g (mput E k v)) [])]:=by
 intro n w0 st a w o hT hS ho hn hv hm K Q hK
 obtain ⟨ow,hd,hold,S⟩:=hS
 obtain ⟨dst,op,ty,pos,af,gd⟩:=o
 simp only at ho hn hK
 subst ho
 simp [Op.operands] at hv
 obtain ⟨hv1,hv2,hv3⟩:=hv
 have hml:=hm (l,.cu (mapC f g E) []) (by simp)
 simp only at hml
 obtain ⟨g1,vs,g2,b,clock,es,q1,q2,q3,q4⟩:=S.objs l _ hml
 have hx:=S.eval x
 rw [hv1] at hx
 simp only [RF] at hx
 obtain ⟨_,hx,_⟩:=hx
 have hy:a.eval y=f k:=by have:=S.eval y; rw [hv2] at this; exact hfk _ _ _ _ _ this
 obtain ⟨hzz,_⟩:=S.v hv3
 have hf:=hk.find g k es.toList E w q3
 have hgo:∃ es' clock',(Instr.mapUpdate t (.map (some b)) (f k) (g v)).run P w=.ok () { w with heap:=w.heap.setIfInBounds b (.map es' clock') }∧es'.toList.map (fun e=>(e.key,e.val))=(mput E k v).map (fun p=>(f p.1,g p.2))∧Stp es'.toList clock':=by
  cases hq:mplc E k with
  | none =>
   rw [hq] at hf
   refine ⟨es.push { key:=f k,val:=g v,born:=clock },clock+1,?_,?_,by rw [Array.toList_push]; exact q4.push _ _⟩
   ·simp [Instr.mapUpdate,run_underlying h1,MapKept.run_getObj_map q2,hk.chk,hf,run_setObj_map _ q2,Result.andThen]
   ·simp [mput,hq,q3]
  | some q =>
   obtain ⟨i,v0⟩:=q
   rw [hq] at hf
   have he:=mplc_some hq
   have hi:(es.toList.map (fun e=>(e.key,e.val)))[i]?=some (f k,g v0):=by rw [q3,List.getElem?_map,he]; rfl
   rw [List.getElem?_map] at hi
   cases hj:es.toList[i]? with
   | none=>simp [hj] at hi
   | some e =>
    simp [hj] at hi
    have hj':es[i]?=some e:=by simpa using hj
    refine ⟨es.modify i fun e=>{ e with key:=f k,val:=g v },clock,?_,?_,by rw [Array.toList_modify]; exact q4.of_born (mod_born _ _ _ _)⟩
    ·simp [Instr.mapUpdate,run_underlying h1,MapKept.run_getObj_map q2,hk.chk,hf,hj',hi.1,hk.stay,run_setObj_map _ q2,Result.andThen]
    ·simp only [mput,hq]
     apply List.ext_getElem?
     intro j
     have hjj:=congrArg (fun L=>L[j]?) q3
     simp only [List.getElem?_map,Array.toList_modify,List.getElem?_modify,List.getElem?_set] at hjj ⊢
     by_cases e1:i=j
     ·subst e1
      have hlt:i<E.length:=(List.getElem?_eq_some_iff.1 he).1
      simp [hj,hlt]
     ·simp only [e1,if_false]
      rw [← hjj]
      cases es.toList[j]? <;> rfl
 obtain ⟨es',clock',hrun,hes⟩:=hgo
 have hrun':(execOp a.eval ⟨dst,.mapUpdate t x y z,ty,pos,af,gd⟩).run P w=.ok .skip { w with heap:=w.heap.setIfInBounds b (.map es' clock') }:=by
  simp only [execOp,hx,q1,hy,hzz,Sem.run_bind,hrun,Result.andThen_ok,Sem.run_pure]
 obtain ⟨h2,h3⟩:=heap_set (o':=.map es' clock') q2
 obtain ⟨hnw,how⟩:=g1 b (by rw [q1]; first | rfl | simp [blocksOf,blockOf])
 have hbel:Below 0 w { w with heap:=w.heap.setIfInBounds b (.map es' clock') }:=⟨rfl,rfl,rfl,by simp,fun j hj=>by omega⟩
 have S':=S.set (l:=l) (b:=b) (o':=.cu (mapC f g (mput E k v)) []) hml rfl rfl (by rw [q1]; first | rfl | simp [blocksOf,blockOf]) h3 (by simp) (Kt.of_one hbel hnw h3)
  ⟨fun b' hb'=>g1 b' hb',[],by simp [RFL],b,clock',es',q1,h2,hes⟩
 exact wp_skip' hrun' (hK _ _ ⟨ow,hd,hold,by
  have:=S'.put hn (x:=.dead) (v:=undef) (by simp only [RF])
  exact this⟩)
end
end Go.Proofs.YtdgocccbagbhjaaGreatDoor.pv
namespace Go.Proofs.YtdgocccbagbhjaaGreatDoor.pv
set_option linter.all false
open Go.RowKit
section
variable {P:Program} {T:List TI} {n:Nat} {w0:Cx} {st:PS} {a:Act} {w:World} {ow:Nat→Bool} {hd:Nat→Value}
def minus (q:Nat→Bool) (k:Nat):Nat→Bool:=fun i=>q i&&!decide (i=k)
end
end Go.Proofs.YtdgocccbagbhjaaGreatDoor.pv
namespace Go.Proofs.YtdgocccbagbhjaaGreatDoor.pv
set_option linter.all false
open Go.RowKit
section
variable {P:Program} {T:List TI} {n:Nat} {w0:Cx} {st:PS} {a:Act} {w:World} {ow:Nat→Bool} {hd:Nat→Value}
end
end Go.Proofs.YtdgocccbagbhjaaGreatDoor.pv
namespace Go.Proofs.YtdgocccbagbhjaaGreatDoor.pv
set_option linter.all false
open Go.RowKit
section
variable {P:Program} {T:List TI} {n:Nat} {w0:Cx} {st:PS} {a:Act} {w:World} {ow:Nat→Bool} {hd:Nat→Value}
def nClose (l B L ty sz:Nat) (ct:Nat→Nat×Nat) (q':Nat→Bool) (hs':List (Option Nat)) (xs':List PV) (fs:List FV) (j:Nat) (st:PS):PS :=
 ⟨st.f,((st.m.set B .none).set L .none).set l (.cu (outC ty sz q' hs' xs') ((fs.set 0 (.srf st.m.length)).set (j+1) (.d (.v noB))))++[.cu (bagC ct q' xs') []]⟩
def nSame (l B ty sz:Nat) (ct:Nat→Nat×Nat) (q':Nat→Bool) (hs:List (Option Nat)) (xs:List PV) (fs:List FV) (st:PS):PS:=⟨st.f,(st.m.set l (.cu (outC ty sz q' hs xs) fs)).set B (.cu (bagC ct q' xs) [])⟩
inductive Lend (m0:List (Nat×PO)):Nat→PV→Prop where
 | row (l e s:Nat) (ys:List PV):(l,.row e s ys)∈m0→Lend m0 l (.sl ys)
 | nst (l B ty sz:Nat) (ct:Nat→Nat×Nat) (q:Nat→Bool) (hs:List (Option Nat)) (xs:List PV) (fs:List FV):(l,.cu (outC ty sz q hs xs) fs)∈m0→(B,.cu (bagC ct q xs) [])∈m0→fs[0]?=some (.srf B)→xs.all (fits sz)=true →
  (∀ (j k:Nat),hs[j]?=some (some k)→∃ L e s ys,fs[j+1]?=some (.srf L)∧(L,.row e s ys)∈m0∧(fl xs)[k]?=some (.sl ys))→Lend m0 l (.sl xs)
mutual
def lendF (E:List (Nat×PV)):FV→Option PV
 | .d x=>some x
 | .agg cs=>(match lendL E cs with | some xs=>some (.agg xs) | none=>none)
 | .srf l=>(match E.find? (fun p=>Nat.beq p.1 l) with | some p=>some p.2 | none=>none)
 | .clo f cs=>(match lendL E cs with | some xs=>some (.clo f xs) | none=>none)
 | _=>none
def lendL (E:List (Nat×PV)):List FV→Option (List PV)
 | []=>some []
 | x::xs=>match lendF E x,lendL E xs with
  | some y,some ys=>some (y::ys)
  | _,_=>none
end
mutual
theorem lend_sound {E:List (Nat×PV)} (S:SimW n w0 st a w ow hd) (hE:∀ q∈E,R (fun _=>false) w q.2 (hd q.1)):∀ (x:FV) (u:Value) (y:PV),lendF E x=some y→RF (al st.m) hd ow w x u→R (fun _=>false) w y u
 | .d x,u,y,h,hr=>by
  simp [lendF] at h; subst h
  exact R.mono ⟨Nat.le_refl _,fun _ _ _=>rfl,fun _ _ _=>rfl⟩ _ _ (by simpa only [RF] using hr)
 | .agg cs,u,y,h,hr=>by
  simp only [lendF] at h
  split at h
  ·rename_i xs hx
   simp at h; subst h
   simp only [RF] at hr
   obtain ⟨vs,e,hr⟩:=hr
   simp only [R]
   exact ⟨vs,e,lendL_sound S hE cs vs xs hx hr⟩
  ·cases h
 | .clo f cs,u,y,h,hr=>by
  simp only [lendF] at h
  split at h
  ·rename_i xs hx
   simp at h; subst h
   simp only [RF] at hr
   obtain ⟨vs,e,hr⟩:=hr
   simp only [R]
   exact ⟨vs,e,lendL_sound S hE cs vs xs hx hr⟩
  ·cases h
 | .srf l,u,y,h,hr=>by
  simp only [lendF] at h
  split at h
  ·rename_i p hp
   simp at h; subst h
   have h1:=hE p (List.mem_of_find?_eq_some hp)
   have h2:=List.find?_some hp
   have h3:p.1=l:=by simpa using h2
   simp only [RF] at hr
   rw [hr.2.1,← h3]; exact h1
  ·cases h
 | .tup _,_,_,h,_=>by simp [lendF] at h
 | .ref _ _,_,_,h,_=>by simp [lendF] at h
 | .ept _ _ _ _,_,_,h,_=>by simp [lendF] at h
 | .asl _ _ _ _ _ _,_,_,h,_=>by simp [lendF] at h
 | .ssl _ _ _ _,_,_,h,_=>by simp [lendF] at h
 | .dead,_,_,h,_=>by simp [lendF] at h
theorem lendL_sound {E:List (Nat×PV)} (S:SimW n w0 st a w ow hd) (hE:∀ q∈E,R (fun _=>false) w q.2 (hd q.1)):∀ (xs:List FV) (us:List Value) (ys:List PV),lendL E xs=some ys→RFL (al st.m) hd ow w xs us→RL (fun _=>false) w ys us
 | [],us,ys,h,hr=>by simp [lendL] at h; subst h; simpa only [RFL,RL] using hr
 | x::xs,us,ys,h,hr=>by
  simp only [lendL] at h
  split at h
  ·rename_i z zs h1 h2
   simp at h; subst h
   simp only [RFL] at hr
   obtain ⟨v,r,e,g1,g2,g3⟩:=hr
   simp only [RL]
   exact ⟨v,r,e,lend_sound S hE x v z h1 g1,g2,lendL_sound S hE xs r zs h2 g3⟩
  ·cases h
theorem lendT_sound {E:List (Nat×PV)} (S:SimW n w0 st a w ow hd) (hE:∀ q∈E,R (fun _=>false) w q.2 (hd q.1)):∀ (xs:List FV) (us:List Value) (ys:List PV),lendL E xs=some ys→RFT (al st.m) hd ow w xs us→RT (fun _=>false) w ys us
 | [],us,ys,h,hr=>by simp [lendL] at h; subst h; simpa only [RFT,RT] using hr
 | x::xs,us,ys,h,hr=>by
  simp only [lendL] at h
  split at h
  ·rename_i z zs h1 h2
   simp at h; subst h
   simp only [RFT] at hr
   obtain ⟨v,r,e,g1,g3⟩:=hr
   simp only [RT]
   exact ⟨v,r,e,lend_sound S hE x v z h1 g1,lendT_sound S hE xs r zs h2 g3⟩
  ·cases h
end
end
end Go.Proofs.YtdgocccbagbhjaaGreatDoor.pv
namespace Go.Proofs.YtdgocccbagbhjaaGreatDoor.pv
set_option linter.all false
open Go.RowKit
def plus (q:Nat→Bool) (k:Nat):Nat→Bool:=fun i=>q i||decide (i=k)
def qpre (q:Nat→Bool) (N:Nat):Nat→Bool:=fun k=>decide (k<N)&&q k
section
variable {P:Program} {T:List TI} {n:Nat} {w0:Cx} {st:PS} {a:Act} {w:World} {ow:Nat→Bool} {hd:Nat→Value}
end
end Go.Proofs.YtdgocccbagbhjaaGreatDoor.pv
namespace Go.Proofs.YtdgocccbagbhjaaGreatDoor.pv
set_option linter.all false
open Go.RowKit
section
variable {P:Program} {T:List TI} {n:Nat} {w0:Cx} {st:PS} {a:Act} {w:World} {ow:Nat→Bool} {hd:Nat→Value}
def nTakeS (l B ty sz k j e s:Nat) (ct:Nat→Nat×Nat) (q:Nat→Bool) (hs:List (Option Nat)) (xs ys:List PV) (fs:List FV) (st:PS):PS :=
 ⟨st.f,updM (st.m++[.free,.free]) [(B,.none),(st.m.length,.row e s ys),(st.m.length+1,.cu (bagC ct (minus q k) xs) []),(l,.cu (outC ty sz (minus q k) (hs.set j (some k)) xs) ((fs.set 0 (.srf (st.m.length+1))).set (j+1) (.srf st.m.length)))]⟩
end
end Go.Proofs.YtdgocccbagbhjaaGreatDoor.pv
namespace Go.Proofs.YtdgocccbagbhjaaGreatDoor.pv
set_option linter.all false
open Go.RowKit Go.MapKept
section
variable {κ ν:Type} [DecidableEq κ] {f:κ→Value} {g:ν→PV}
def RM (ow:Nat→Bool) (w:World) (f:κ→Value) (g:ν→PV):List (κ×ν)→List MapEntry→Prop
 | [],[]=>True
 | p::r,e::es=>e.key=f p.1∧R ow w (g p.2) e.val∧e.val.oneCell'=true∧RM ow w f g r es
 | _,_=>False
theorem RM.mono {ow ow':Nat→Bool} {w w':World} (k:Kp ow w ow' w'):∀ {E:List (κ×ν)} {es:List MapEntry},RM ow w f g E es→RM ow' w' f g E es
 | [],[],_=>trivial
 | p::r,e::es,⟨h1,h2,h3,h4⟩=>⟨h1,R.mono k _ _ h2,h3,RM.mono k h4⟩
 | [],_::_,h=>h.elim
 | _::_,[],h=>h.elim
def zv:List (κ×ν)→List MapEntry→List (κ×Value)
 | p::r,e::es=>(p.1,e.val)::zv r es
 | _,_=>[]
def mapR (f:κ→Value) (g:ν→PV) (E:List (κ×ν)):Cust where
 I ow w h vs:=∃ b clock es,h=.map (some b)∧w.heap[b]?=some (.map es clock)∧RM ow w f g E es.toList∧Stp es.toList clock
 lt:=by
  rintro ow w h vs ⟨b,clock,es,rfl,h2,_⟩ b' hb
  simp [blocksOf,blockOf] at hb
  subst hb
  exact (Array.getElem?_eq_some_iff.1 h2).1
 kp:=by
  rintro ow ow' w w' h vs k hb ⟨b,clock,es,rfl,h2,h3,h4⟩
  exact ⟨b,clock,es,rfl,by rw [(hb b (by simp [blocksOf,blockOf])).1]; exact h2,h3.mono k,h4⟩
 one:=by rintro ow w h vs ⟨b,clock,es,rfl,_⟩; rfl
def itR (f:κ→Value) (g:ν→PV) (rest:List (κ×ν)) (cur:Option (κ×ν)):Cust where
 I ow w h vs:=∃ r b clock es since seen c0,h=.pointer (some ⟨r,0,none⟩)∧w.heap[r]?=some (.mapIter (some b) since seen c0)∧b<w.heap.size∧ow b=false∧w.heap[b]?=some (.map es clock)∧Stp es.toList clock∧(∀ e∈es.toList,e.born<since)∧since≤c0∧since≤clock ∧
  RM ow w f g rest (leftOf es seen).toList∧(∀ p,cur=some p→∃ e∈es.toList,∃ seen':Array Nat,seen=seen'.push e.born∧c0=clock∧e.key=f p.1∧R ow w (g p.2) e.val∧e.val.oneCell'=true)
 lt:=by
  rintro ow w h vs ⟨r,b,clock,es,since,seen,c0,rfl,h2,_⟩ b' hb
  simp [blocksOf,blockOf] at hb
  subst hb
  exact (Array.getElem?_eq_some_iff.1 h2).1
 kp:=by
  rintro ow ow' w w' h vs k hb ⟨r,b,clock,es,since,seen,c0,rfl,h2,h3,h4,h5,h6,h7,h8,h9,h10,h11⟩
  refine ⟨r,b,clock,es,since,seen,c0,rfl,by rw [(hb r (by simp [blocksOf,blockOf])).1]; exact h2,Nat.lt_of_lt_of_le h3 k.size,k.pub b h3 h4,by rw [k.same b h3 h4]; exact h5,h6,h7,h8,h9,h10.mono k,fun p hp=>?_⟩
  obtain ⟨e,q1,s,q2,q3,q4,q5,q6⟩:=h11 p hp
  exact ⟨e,q1,s,q2,q3,q4,R.mono k _ _ q5,q6⟩
 one:=by rintro ow w h vs ⟨r,b,clock,es,since,seen,c0,rfl,_⟩; rfl
end
section
variable {P:Program} {T:List TI} {n:Nat} {w0:Cx} {st:PS} {a:Act} {w:World} {ow:Nat→Bool} {hd:Nat→Value}
variable {κ ν:Type} [DecidableEq κ] {f:κ→Value} {g:ν→PV} {E:List (κ×ν)}
def ndReg:Code→Option (Nat×Nat×Nat)
 | .region _ ops false=>match ops.toList with
  | [⟨some d1,.next (.tmp it) false,_,_,_,none⟩,⟨some d2,.extract (.tmp d1') 0,_,_,_,none⟩]=>if d1=d1' then some (it,d1,d2) else none
  | _=>none
 | _=>none
end
def insAll {α:Type} (x:α):List α→List (List α)
 | []=>[[x]]
 | y::l=>(x::y::l)::(insAll x l).map (y::·)
def perms {α:Type}:List α→List (List α)
 | []=>[[]]
 | x::l=>(perms l).flatMap (insAll x)
end Go.Proofs.YtdgocccbagbhjaaGreatDoor.pv
namespace Go.Proofs.YtdgocccbagbhjaaGreatDoor.pv
set_option linter.all false
open Go.RowKit Go.MapKept
structure Gam where
 b:List Nat
 c:Nat
section
variable {κ ν:Type} [DecidableEq κ] {f:κ→Value} {g:ν→Value}
def mapG (γ:Gam) (f:κ→Value) (g:ν→Value) (E:List (κ×ν)):Cust where
 I ow w h vs:=∃ b es,h=.map (some b)∧w.heap[b]?=some (.map es γ.c)∧es.toList.map (fun e=>(e.key,e.val))=E.map (fun p=>(f p.1,g p.2))∧es.toList.map (·.born)=γ.b∧Stp es.toList γ.c
 lt:=by
  rintro ow w h vs ⟨b,es,rfl,h2,_⟩ b' hb
  simp [blocksOf,blockOf] at hb
  subst hb
  exact (Array.getElem?_eq_some_iff.1 h2).1
 kp:=by
  rintro ow ow' w w' h vs k hb ⟨b,es,rfl,h2,h3⟩
  exact ⟨b,es,rfl,by rw [(hb b (by simp [blocksOf,blockOf])).1]; exact h2,h3⟩
 one:=by rintro ow w h vs ⟨b,es,rfl,_⟩; rfl
def restZ (E:List (κ×ν)) (B S:List Nat):List ((κ×ν)×Nat):=(E.zip B).filter (fun x=>!S.contains x.2)
def itP (γ:Gam) (E rest:List (κ×ν)) (cur:Option (κ×ν)) (since:Nat) (seen:Array Nat) (c0:Nat):Prop :=
 since≤c0∧since≤γ.c∧(∀ x∈γ.b,x<since)∧rest=(restZ E γ.b seen.toList).map (·.1) ∧
  (∀ p,cur=some p→∃ (i bo:Nat),E[i]?=some p∧γ.b[i]?=some bo∧(∃ seen',seen=Array.push seen' bo)∧c0=γ.c)
def itK (γ:Gam) (E rest:List (κ×ν)) (cur:Option (κ×ν)):Cust where
 I ow w h vs:=∃ (r b since:Nat) (seen:Array Nat) (c0:Nat),h=.pointer (some ⟨r,0,none⟩)∧vs=[.map (some b)]∧w.heap[r]?=some (.mapIter (some b) since seen c0)∧itP γ E rest cur since seen c0
 lt:=by
  rintro ow w h vs ⟨r,b,since,seen,c0,rfl,_,h2,_⟩ b' hb
  simp [blocksOf,blockOf] at hb
  subst hb
  exact (Array.getElem?_eq_some_iff.1 h2).1
 kp:=by
  rintro ow ow' w w' h vs k hb ⟨r,b,since,seen,c0,rfl,h1,h2,h3⟩
  exact ⟨r,b,since,seen,c0,rfl,h1,by rw [(hb r (by simp [blocksOf,blockOf])).1]; exact h2,h3⟩
 one:=by rintro ow w h vs ⟨r,b,since,seen,c0,rfl,_⟩; rfl
end
section
variable {P:Program} {T:List TI} {n:Nat} {w0:Cx} {st:PS} {a:Act} {w:World} {ow:Nat→Bool} {hd:Nat→Value}
variable {κ ν:Type} [DecidableEq κ] {f:κ→Value} {g:ν→Value} {E:List (κ×ν)} {γ:Gam}
end
end Go.Proofs.YtdgocccbagbhjaaGreatDoor.pv
namespace Go.Proofs.YtdgocccbagbhjaaGreatDoor.pv
set_option linter.all false
open Go.RowKit
def ifC (t:Nat):Cust where
 I:=fun _ _ h vs=>∃ v,vs=[v]∧h=.iface t v
 lt:=by
  rintro ow w h vs ⟨v,_,rfl⟩ b hb
  simp [blocksOf,blockOf] at hb
 kp:=fun _ _ h=>h
 one:=by
  rintro ow w h vs ⟨v,_,rfl⟩
  rfl
def methAt (P:Program) (t:TypeId) (name:String):Option FuncId :=
 match P.info? t,P.underlying t with
 | some i,some (.pointer _)=>(match i.methods.find? (·.name == name) with
  | some m=>(match m.path.toList,m.func with
   | [],some (g,true)=>some g
   | _,_=>none)
  | none=>none)
 | _,_=>none
section
variable {P:Program} {T:List TI} {n:Nat} {w0:Cx} {st:PS} {a:Act} {w:World} {ow:Nat→Bool} {hd:Nat→Value}
def mfC (name:String):Cust where
 I:=fun _ _ h vs=>∃ u,vs=[u]∧h=.func (.method name) #[u] #[]
 lt:=by
  rintro ow w h vs ⟨v,_,rfl⟩ b hb
  simp [blocksOf] at hb
 kp:=fun _ _ h=>h
 one:=by
  rintro ow w h vs ⟨v,_,rfl⟩
  rfl
end
end Go.Proofs.YtdgocccbagbhjaaGreatDoor.pv
namespace Go.Proofs.YtdgocccbagbhjaaGreatDoor.pv
set_option linter.all false
open Go.RowKit Go.MapKept Go.Lib Go.Sort Go.Shelf
section
variable {n:Nat} {w0:Cx} {st:PS} {a:Act} {w:World} {ow:Nat→Bool} {hd:Nat→Value}
theorem SimW.addI' (S:SimW n w0 st a w ow hd) {nl t:Nat} {x:FV} {v:Value} (hf:st.m[nl]?=some .free) (hx:RF (al st.m) hd ow w x v) (hone:v.oneCell'=true) :
  SimW n w0 ⟨st.f,st.m.set nl (.cu (ifC t) [x])⟩ a w ow (upd hd nl (.iface t v))∧(∀ j,al st.m j=true→al (st.m.set nl (.cu (ifC t) [x])) j=true∧upd hd nl (.iface t v) j=hd j)∧al (st.m.set nl (.cu (ifC t) [x])) nl=true:=by
 have hal0:al st.m nl=false:=by simp [al,hf,PO.made]
 have hlt:nl<st.m.length:=(List.getElem?_eq_some_iff.1 hf).1
 have hmono:∀ j,al st.m j=true→al (st.m.set nl (.cu (ifC t) [x])) j=true∧upd hd nl (.iface t v) j=hd j:=fun j hj=>⟨al_set_mono rfl j hj,by
  rw [upd_ne]
  intro e; rw [e,hal0] at hj; cases hj⟩
 refine ⟨?_,hmono,by rw [al_set_same hlt]; rfl⟩
 exact S.obj (l:=nl) (hv:=.iface t v) (o:=.cu (ifC t) [x]) (Kp.refl _ _) (Kt.refl _ _) S.fresh (.inl hal0) rfl
  ⟨fun b hb=>by simp [blocksOf,blockOf] at hb,[v],by
   simp only [RFL]
   exact ⟨_,_,rfl,RF.mono (Kp.refl _ _) hmono _ _ hx,hone,rfl⟩,v,rfl,rfl⟩
  (fun j oj b hne hj hlj hb=>⟨rfl,rfl,fun _ hb'=>by simp [blocksOf,blockOf] at hb'⟩)
theorem ymkS {P:Program} {T:List TI} {t l nl:Nat} {e:TypeId} {x:Operand} (hu:P.underlying t=some (.slice e)) :
  Ext P T (.makeInterface t x) [.srf l] [(nl,.free)] (.srf nl) [(nl,.cu (ifC t) [.srf l])]:=by
 intro n w0 st a w o hT hS ho hn hv hm K Q hK
 obtain ⟨ow,hd,hold,S⟩:=hS
 obtain ⟨d,op,tyo,pos,af,gd⟩:=o
 simp only at ho hn hK
 subst ho
 simp [Op.operands] at hv
 have hf:=hm (nl,.free) (by simp)
 simp only at hf
 have hx:=S.eval x
 rw [hv] at hx
 have hone:(a.eval x).oneCell'=true:=by
  simp only [RF] at hx
  obtain ⟨_,e2,h3⟩:=hx
  rw [e2]; exact h3
 obtain ⟨S2,ha,hal⟩:=SimW.addI' S hf (t:=t) hx hone
 refine wp_val (v:=.iface t (a.eval x)) (by simp [execOp,Instr.makeInterface,run_underlying hu]) (hK _ _ ⟨ow,_,hold,S2.put hn (x:=.srf nl) ?_⟩)
 simp only [RF]
 rw [upd_same]
 exact ⟨hal,rfl,rfl⟩
theorem heap_sort {β:Type} [Inhabited β] (w:World) (enc:β→Value) (q blk off:Nat) (d:Array β) (os:Array Obj) (hb:blk<w.heap.size) :
  (∀ k,k<w.heap.size→k≠blk→(grow (putRow enc (Sort.ahead w q) blk off d) os).heap[k]?=w.heap[k]?)∧(∀ c e fr,w.heap[blk]?=some (.cells c e fr)→(grow (putRow enc (Sort.ahead w q) blk off d) os).heap[blk]?=some (.cells (Sort.putCells enc off d c) e fr)) ∧
   w.heap.size≤(grow (putRow enc (Sort.ahead w q) blk off d) os).heap.size:=by
 refine ⟨fun k hk hne=>?_,fun c e fr h=>?_,by simp⟩
 ·rw [heap_grow_old _ _ (by simpa using hk)]
  simp only [putRow,mapBlock,heap_ahead,Array.getElem?_modify]
  rw [if_neg (fun e=>hne e.symm)]
 ·rw [heap_grow_old _ _ (by simpa using hb)]
  simp only [putRow,mapBlock,heap_ahead,Array.getElem?_modify,if_true,h]
  rfl
end
end Go.Proofs.YtdgocccbagbhjaaGreatDoor.pv
namespace Go.Proofs.YtdgocccbagbhjaaGreatDoor.pv
set_option linter.all false
open Go.RowKit Go.MapKept Go.Lib Go.Sort Go.Shelf
section
variable {α:Type} [Inhabited α]
def ltN (nf:α→ByteArray) (x y:α):Bool:=ltStr (nf x).data.toList (nf y).data.toList
theorem swo_ltN (nf:α→ByteArray):SWO (ltN nf) :=
 ⟨fun x=>swo_ltStr.irrefl _,fun x y z h1 h2=>swo_ltStr.trans _ _ _ h1 h2,fun x y z h1 h2=>swo_ltStr.ntrans _ _ _ h1 h2⟩
def sortN (nf:α→ByteArray) (xs:List α):List α:=if 2≤xs.length then (pdq (ltN nf) xs.toArray 0 xs.length (Lib.bitLen xs.length) true true).toList else xs
theorem sortN_spec (nf:α→ByteArray) (xs:List α):(sortN nf xs).Perm xs∧(sortN nf xs).Pairwise (fun x y=>ltN nf y x=false):=by
 unfold sortN
 split
 ·have h:=pdq_sorts (ltN nf) (swo_ltN nf) xs.toArray 0 xs.length (Lib.bitLen xs.length) true true (Nat.zero_le _) (by simp) (Or.inl rfl)
  obtain ⟨⟨h1,h2,h3⟩,h4⟩:=h
  generalize hq:pdq (ltN nf) xs.toArray 0 xs.length (Lib.bitLen xs.length) true true=q at h1 h2 h3 h4
  have hz:q.size=xs.length:=by simpa using h1
  have e1:q.extract 0 xs.length=q:=by rw [← hz]; simp
  have e2:xs.toArray.extract 0 xs.length=xs.toArray:=by simp
  rw [e1,e2] at h3
  refine ⟨h3,List.pairwise_iff_getElem.2 fun i j hi hj hij=>?_⟩
  have:=h4 i j (Nat.zero_le _) hij (by simp at hj; omega)
  simp at hi hj
  rw [getElem!_pos q j hj,getElem!_pos q i hi] at this
  simpa using this
 ·rename_i h
  refine ⟨List.Perm.refl _,?_⟩
  match xs,h with
  | [],_=>simp
  | [x],_=>simp
  | x::y::r,h=>simp at h
def LessN (g:FuncId):Prop:=∀ (blk c size Bo:Nat) (W:World) (G:Nat→ByteArray),W.cell? ⟨Bo,0,none⟩=some (.slice (some ⟨blk,0,none⟩) size c)→(∀ t,t<size→W.cell? ⟨blk,t*2,none⟩=some (.string (G t)))→∀ i j:Nat,i<size→j<size →
 Calls Tryz.prog g #[.int .i64 i,.int .i64 j,.pointer (some ⟨Bo,0,none⟩)] W fun e w'=>e=.returned (.bool (ltStr (G i).data.toList (G j).data.toList))∧∃ q,w'=W.drewN q
set_option maxHeartbeats 2000000 in
theorem less_A:LessN 35:=by
 intro blk c size Bo W G hs hc i j hi hj
 have ci:=hc i hi
 have cj:=hc j hj
 go_enter Tryz.func35,Tryz.ntmps35
 go_wp2
 go_quiet (fail)
 go_wp2
 go_ret
 exact ⟨by rw [bytesLess_eq,ByteArray.toList_eq,ByteArray.toList_eq]; rfl,nq,rfl⟩
set_option maxHeartbeats 2000000 in
theorem less_B:LessN 30:=by
 intro blk c size Bo W G hs hc i j hi hj
 have ci:=hc i hi
 have cj:=hc j hj
 go_enter Tryz.func30,Tryz.ntmps30
 go_wp2
 go_quiet (fail)
 go_wp2
 go_ret
 exact ⟨by rw [bytesLess_eq,ByteArray.toList_eq,ByteArray.toList_eq]; rfl,nq,rfl⟩
noncomputable def snT:TypeInfo:=(Tryz.prog.info? 22).get (by kernel_rfl)
noncomputable def snE:TypeInfo:=(Tryz.prog.info? 25).get (by kernel_rfl)
theorem snK (n:Nat) (h2:2≤n):Lib.swapperK n snE 25=9:=by
 have a:snE.hasPointers=true:=by kernel_rfl
 have b:snE.bytes=24:=by kernel_rfl
 have c:(n == 0)=false:=by simp; omega
 have d:(n == 1)=false:=by simp; omega
 simp [Lib.swapperK,a,b,c,d]
theorem snK2 (n:Nat) (h1:n≤1):∃ f,Tryz.prog.funcs.findIdx? (·.name == "internal/reflectlite" ++ ".Swapper$" ++ toString (Lib.swapperK n snE 25))=some f:=by
 have h:n=0∨n=1:=by omega
 rcases h with rfl | rfl
 ·exact ⟨83,by kernel_rfl⟩
 ·exact ⟨84,by kernel_rfl⟩
def encN (nf:α→ByteArray) (mf:α→Int) (x:α):List Value:=[.string (nf x),.int .i64 (mf x)]
theorem RE_N {nf:α→ByteArray} {mf:α→Int} {g:α→PV} (hg:∀ x,g x=.agg [.v (.string (nf x)),.v (.int .i64 (mf x))]) {ow:Nat→Bool} {w:World}:∀ (xs:List α) (cells:List Value),RE ow w 2 (xs.map g) cells↔cells=xs.flatMap (encN nf mf)
 | [],cells=>by simp [RE]
 | x::xs,cells=>by
  simp only [List.map_cons,RE,List.flatMap_cons]
  constructor
  ·rintro ⟨u,r,rfl,h0,h1,h2,h3⟩
   rw [RE_N hg xs] at h3
   rw [hg] at h2
   simp only [R,RL] at h2
   obtain ⟨vs,rfl,_,_,rfl,⟨rfl,_⟩,_,_,_,rfl,⟨rfl,_⟩,_,rfl⟩:=h2
   rw [h3]; rfl
  ·rintro rfl
   refine ⟨.agg #[.string (nf x),.int .i64 (mf x)],_,rfl,rfl,?_,?_,(RE_N hg xs _).2 rfl⟩
   ·intro v hv
    simp [Value.cells] at hv
    rcases hv with rfl | rfl <;> rfl
   ·rw [hg]
    simp only [R,RL]
    exact ⟨_,rfl,_,_,rfl,⟨rfl,rfl⟩,rfl,_,_,rfl,⟨rfl,rfl⟩,rfl,rfl⟩
theorem flat_get (nf:α→ByteArray) (mf:α→Int):∀ (xs:List α) (j:Nat),(xs.flatMap (encN nf mf))[j]?=xs[j / 2]?.map fun x=>(encN nf mf x)[j % 2]!
 | [],j=>by simp
 | x::xs,j=>by
  have ih:=flat_get nf mf xs
  rw [List.flatMap_cons]
  match j with
  | 0=>rfl
  | 1=>rfl
  | j+2 =>
   have e1:(j+2) / 2=j / 2+1:=by omega
   have e2:(j+2) % 2=j % 2:=by omega
   rw [e1,e2]
   show (xs.flatMap (encN nf mf))[j]?=_
   rw [ih]; rfl
theorem flat_len (nf:α→ByteArray) (mf:α→Int) (xs:List α):(xs.flatMap (encN nf mf)).length=xs.length*2:=by
 induction xs with
 | nil=>rfl
 | cons x xs ih=>rw [List.flatMap_cons,List.length_append,ih]; simp [encN]; omega
theorem flat_K (nf:α→ByteArray) (mf:α→Int) (xs:List α):flatK (encN nf mf) 2 xs.toArray=(xs.flatMap (encN nf mf)).toArray:=by
 refine ext_get! (by rw [size_flatK,List.size_toArray,List.size_toArray,flat_len]) fun t ht=>?_
 have ht':t<xs.toArray.size*2:=by simpa using ht
 rw [get_flatK _ _ _ _ ht']
 have hl:t<(xs.flatMap (encN nf mf)).length:=by rw [flat_len]; simpa using ht'
 have hx:t / 2<xs.length:=by simp at ht'; omega
 have h:=flat_get nf mf xs t
 rw [List.getElem?_eq_getElem hl,List.getElem?_eq_getElem hx,Option.map_some] at h
 have h:=Option.some.inj h
 rw [getElem!_pos (xs.flatMap (encN nf mf)).toArray t (by simpa using hl),getElem!_pos xs.toArray (t / 2) (by simpa using hx)]
 simp only [List.getElem_toArray]
 exact h.symm
set_option maxHeartbeats 4000000 in
set_option maxRecDepth 100000 in
theorem ssliceN {T:List TI} {x y:Operand} {f:Operand} {tys:Array Nat} {I RB LO e:Nat} {gf:FuncId} {fn:Func} {nf:α→ByteArray} {mf:α→Int} {g:α→PV} {xs:List α} (hg:∀ x,g x=.agg [.v (.string (nf x)),.v (.int .i64 (mf x))]) (hl:LessN gf) (hR:RB≠LO) (hfn1:Tryz.prog.funcs[gf]?=some fn) (hfn2:(fn.name == "runtime.NumGoroutine")=false) (hfn3:fn.body.isNone=false) (h62:xs.length<4611686018427387904) :
  Ext Tryz.prog T (.call ⟨.value f,#[x,y],tys⟩) [.d (.clo 29 []),.srf I,.clo gf [.ref LO 0]]
   [(I,.cu (ifC 22) [.srf RB]),(RB,.row e 2 (xs.map g)),(LO,.box [.srf RB])] (.d (.tup [])) [(RB,.row e 2 ((sortN nf xs).map g))]:=by
 intro n w0 st a w o hT hS ho hn hvs hm K Q hK
 obtain ⟨ow,hd,hold,S⟩:=hS
 obtain ⟨d,op,tyo,pos,af,gd⟩:=o
 simp only at ho hn hK
 subst ho
 simp [Op.operands,Call.operands] at hvs
 obtain ⟨hv1,hv2,hv3⟩:=hvs
 have hmI:=hm (I,.cu (ifC 22) [.srf RB]) (by simp)
 have hmR:=hm (RB,.row e 2 (xs.map g)) (by simp)
 have hmO:=hm (LO,.box [.srf RB]) (by simp)
 simp only at hmI hmR hmO
 clear hm
 have h1:=S.eval f
 rw [hv1] at h1
 simp only [RF,R] at h1
 obtain ⟨us,hc1,hc2⟩:=h1
 simp only [RL] at hc2
 subst hc2
 have hx:=S.eval x
 rw [hv2] at hx
 simp only [RF] at hx
 obtain ⟨_,hx,_⟩:=hx
 obtain ⟨_,vI,gI,vR,rfl,hI⟩:=S.objs I _ hmI
 simp only [RFL,RF] at gI
 obtain ⟨_,_,e0,⟨_,rfl,_⟩,_,_⟩:=gI
 simp at e0
 obtain ⟨rfl,_⟩:=e0
 have hy:=S.eval y
 rw [hv3] at hy
 simp only [RF,RFL] at hy
 obtain ⟨vs,hy,_,_,rfl,⟨_,bO,hbO,rfl⟩,_,rfl⟩:=hy
 have kO0:=hbO
 obtain ⟨bO',valO,tO,k1,kO1,kO2,kO3,kO4⟩:=S.objs LO _ hmO
 rw [hbO] at k1; simp at k1; subst k1
 simp only [RFL,RF] at kO4
 obtain ⟨_,_,eo,⟨_,rfl,_⟩,_,rfl⟩:=kO4
 obtain ⟨cells,r1,r2,r3⟩:=S.objs RB _ hmR
 rw [RE_N hg] at r3
 subst r3
 have hfn:FnOk Tryz.prog 29:=⟨_,Tryz.func29,by kernel_rfl,by kernel_rfl⟩
 have hlenx:(xs.map g).length=xs.length:=by simp
 rw [hlenx] at r1
 unfold Oper.wp
 rw [run_call hc1 hfn]
 show Calls Tryz.prog 29 (#[x,y].map a.eval++#[]) w _
 have harr:#[x,y].map a.eval++#[]=#[.iface 22 (hd RB),.func (.func gf) #[] #[.pointer (some ⟨bO,0,none⟩)]]:=by
  apply Array.toList_inj.1; simp [hx,hI,hy]
 rw [harr]
 have hsiT:Tryz.prog.info? 22=some snT:=by kernel_rfl
 have hsiE:Tryz.prog.info? 25=some snE:=by kernel_rfl
 have fin:∀ (w2:World),w2.os=w.os→w2.tape=w.tape→w2.output=w.output→w.heap.size≤w2.heap.size→(∀ b,b<w.heap.size→b ∉ blocksOf (hd RB)→w2.heap[b]?=w.heap[b]?) →
   w2.ownsRow 0 e 2 (hd RB) (sortN nf xs).length ((sortN nf xs).flatMap (encN nf mf))→K (a.put d (.tuple #[])) w2:=by
  intro w2 q1 q2 q3 q4 q5 q6
  have hkp:Kp ow w ow w2:=⟨q4,fun _ _ h=>h,fun b hb h0=>q5 b hb fun hbb=>by rw [(r2 b hbb).2] at h0; cases h0⟩
  have hkt:Kt w0 w w2:=⟨q1,q2,q3,q4,fun k hk hn=>q5 k (Nat.lt_of_lt_of_le hk S.below.size) fun hbb=>by
   rcases (r2 k hbb).1 with z | z
   ·omega
   ·rw [hn] at z; cases z⟩
  have S3:=S.obj (l:=RB) (hv:=hd RB) (o:=.row e 2 ((sortN nf xs).map g)) hkp hkt (fun b hb=>S.fresh b (Nat.le_trans q4 hb)) (.inr rfl) rfl
   ⟨_,by rw [List.length_map]; exact q6,r2,(RE_N hg _ _).2 rfl⟩
   (fun j oj b hne hj hl hb=>⟨q5 b (((S.objs j oj hj).lt hl b hb).1) fun q=>S.dist j RB oj _ b hne hj hmR hl rfl hb q,rfl,fun _ q=>S.dist j RB oj _ b hne hj hmR hl rfl hb q⟩)
  exact hK _ _ ⟨ow,_,hold,S3.put hn (x:=.d (.tup [])) (by simp only [RF,R,RT]; exact ⟨[],rfl,rfl⟩)⟩
 obtain ⟨z1,z2⟩:=r1
 by_cases h2:2≤xs.length
 ·rcases z2 with ⟨_,z2⟩ | ⟨b,cap,cur,z2,z3,z4,z5,z6,z7,z8⟩
  ·omega
  have hb:b<w.heap.size:=(Array.getElem?_eq_some_iff.1 z4).1
  have nO:bO≠b:=fun q=>by
   subst q
   exact S.dist RB LO _ _ bO hR hmR hmO rfl rfl (by rw [z2]; simp [blocksOf,blockOf]) (by rw [kO0]; simp [blocksOf,blockOf])
  have hcur:∀ j,j<xs.length*2→cur[j]?=some (flatK (encN nf mf) 2 xs.toArray)[j]! := fun j hj=>by
   have:=congrArg (fun L=>L[j]?) z8
   simp only [List.getElem?_take,hj,if_true] at this
   rw [Array.getElem?_toList] at this
   rw [this,flat_K,getElem!_pos _ j (by rw [List.size_toArray,flat_len]; omega),List.getElem?_eq_getElem (by rw [flat_len]; exact hj)]
   simp
  have hH:HoldsK (encN nf mf) 2 w b 0 xs.toArray:=fun j hj=>by
   simp only [size_flatK,List.size_toArray] at hj
   refine ⟨?_,?_⟩
   ·simp only [World.cell?,z4,Nat.zero_add]
    exact hcur j hj
   ·simp [World.frozen?,z4]
  have hls:LessReadsK Tryz.prog gf #[.pointer (some ⟨bO,0,none⟩)] (encN nf mf) 2 (ltN nf) b 0 xs.toArray.size w:=by
   intro m os dk hs i j hi hj
   obtain ⟨w1,w2,w3⟩:=heap_sort w (id:Value→Value) m b 0 (flatK (encN nf mf) 2 dk) os hb
   have hsw:sortWorldK (encN nf mf) 2 w b 0 m dk os=grow (putRow id (Sort.ahead w m) b 0 (flatK (encN nf mf) 2 dk)) os:=rfl
   refine hl b cap xs.toArray.size bO _ (fun t=>nf dk[t]!) ?_ ?_ i j hi hj
   ·rw [hsw]
    simp only [World.cell?,w1 _ (Array.getElem?_eq_some_iff.1 kO3).1 nO,kO3]
    have:valO[0]?=some (.slice (some ⟨b,0,none⟩) xs.length cap):=by rw [← Array.getElem?_toList,eo,z2]; rfl
    simpa using this
   ·intro t ht
    rw [hsw]
    simp only [World.cell?,w2 _ _ _ z4]
    simp only [List.size_toArray] at ht hs
    have hc:t*2<cur.size:=by rw [z7]; omega
    have hk:t*2<dk.size*2:=by omega
    have hfk:=get_flatK (encN nf mf) 2 dk (t*2) hk
    have e1:t*2 / 2=t:=by omega
    have e2:t*2 % 2=0:=by omega
    rw [e1,e2] at hfk
    have hin:(0:Nat)≤t*2∧t*2<0+(flatK (encN nf mf) 2 dk).size:=by simp; omega
    simp only [Sort.putCells,Array.getElem?_mapIdx,Array.getElem?_eq_getElem hc,Option.map_some]
    rw [if_pos hin,Nat.sub_zero,hfk]
    rfl
  have hS:=Any.sort_Slice_cells_eq Tryz.laysGg6 22 25 snT snE hsiT (by kernel_rfl) (by kernel_rfl) hsiE 25 (fun _=>by kernel_rfl) (encN nf mf) 2 (fun _=>rfl) (by kernel_rfl) (fun _=>by kernel_rfl)
   (fun x v hv=>by simp [encN] at hv; rcases hv with rfl | rfl <;> rfl) (ltN nf) (swo_ltN nf) gf #[.pointer (some ⟨bO,0,none⟩)]
   (by
    cases hb:fn.body with
    | none=>rw [hb] at hfn3; cases hfn3
    | some c=>exact Go.Proofs.enters_of hfn1 hfn2 hb) b 0 cap xs.toArray (by simpa using h2) (by simpa using h62) 91 (by rw [snK _ (by simpa using h2)]; kernel_rfl) false
   (fun args W=>run_callFunc_extern Tryz.func91 (by kernel_rfl) (by kernel_rfl) (by kernel_rfl) (e:=Extern.ReflectliteSwapper.swap false) (by kernel_rfl) args W) w hls hH hb
  change Calls Tryz.prog 29 _ _ _ at hS
  simp only [List.size_toArray] at hS
  rw [← z2] at hS
  refine hS.mono ?_
  rintro e' w' ⟨rfl,q,os,rfl⟩
  have hsd:sortN nf xs=(pdq (ltN nf) xs.toArray 0 xs.length (Lib.bitLen xs.length) true true).toList:=by unfold sortN; rw [if_pos h2]
  have hlen:(sortN nf xs).length=xs.length:=(sortN_spec nf xs).1.length_eq
  have hdk:pdq (ltN nf) xs.toArray 0 xs.length (Lib.bitLen xs.length) true true=(sortN nf xs).toArray:=by rw [hsd]
  rw [hdk]
  have hsw:putRowK (encN nf mf) 2 (Sort.ahead w q) b 0 (sortN nf xs).toArray=putRow id (Sort.ahead w q) b 0 (flatK (encN nf mf) 2 (sortN nf xs).toArray):=rfl
  obtain ⟨w1,w2,w3⟩:=heap_sort w (id:Value→Value) q b 0 (flatK (encN nf mf) 2 (sortN nf xs).toArray) os hb
  rw [hsw]
  refine fin _ rfl rfl rfl w3 (fun c hc hnb=>w1 c hc fun q=>hnb (by rw [z2,q]; simp [blocksOf,blockOf])) ?_
  refine ⟨by rw [flat_len],.inr ⟨b,cap,Sort.putCells id 0 (flatK (encN nf mf) 2 (sortN nf xs).toArray) cur,by rw [hlen]; exact z2,Nat.zero_le _,w2 _ _ _ z4,by rw [hlen]; exact z5,z6,by simp [Sort.putCells,z7],?_⟩⟩
  rw [hlen]
  apply List.ext_getElem?
  intro j
  simp only [List.getElem?_take,Sort.putCells,Nat.sub_zero,Array.getElem?_toList,Array.getElem?_mapIdx]
  by_cases hj:j<xs.length*2
  ·have hc:j<cur.size:=by rw [z7]; omega
   have hin:(0:Nat)≤j∧j<0+(flatK (encN nf mf) 2 (sortN nf xs).toArray).size:=by simp [hlen]; omega
   rw [if_pos hj,Array.getElem?_eq_getElem hc,Option.map_some,if_pos hin,flat_K,getElem!_pos _ j (by rw [List.size_toArray,flat_len,hlen]; omega),List.getElem?_eq_getElem (by rw [flat_len,hlen]; exact hj)]
   simp
  ·rw [if_neg hj,List.getElem?_eq_none (by rw [flat_len,hlen]; omega)]
 ·obtain ⟨f1,hf1⟩:=snK2 xs.length (by omega)
  have hsd:sortN nf xs=xs:=by unfold sortN; rw [if_neg h2]
  have hsl:∃ p c,hd RB=.slice p xs.length c:=by
   rcases z2 with ⟨z2,z3⟩ | ⟨b,cap,cur,z2,_⟩
   ·exact ⟨none,0,by rw [z2,z3]⟩
   ·exact ⟨_,_,z2⟩
  obtain ⟨p,c,hp⟩:=hsl
  have hS:=Any.sort_Slice_tiny Tryz.laysGg6 22 25 snT snE hsiT (by kernel_rfl) (by kernel_rfl) hsiE 25 (fun _=>by kernel_rfl) p xs.length c (by omega) f1 hf1 (.func gf) #[] #[.pointer (some ⟨bO,0,none⟩)] w
  change Calls Tryz.prog 29 _ _ _ at hS
  rw [← hp] at hS
  refine hS.mono ?_
  rintro e' w' ⟨rfl,os,rfl⟩
  refine fin _ rfl rfl rfl (by simp) (fun b hb _=>heap_grow_old w os hb) ?_
  rw [hsd]
  refine ⟨z1,?_⟩
  rcases z2 with z2 | ⟨b,cap,cur,z2,z3,z4,z5⟩
  ·exact .inl z2
  ·exact .inr ⟨b,cap,cur,z2,z3,by rw [heap_grow_old w os (Array.getElem?_eq_some_iff.1 z4).1]; exact z4,z5⟩
end
end Go.Proofs.YtdgocccbagbhjaaGreatDoor.pv
