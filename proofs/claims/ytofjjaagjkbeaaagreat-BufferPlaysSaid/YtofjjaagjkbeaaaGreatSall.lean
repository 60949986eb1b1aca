/- Custom private objects and their acts. -/
import Derived.Test.YtofjjaagjkbeaaaGreatQk
import Derived.ArgAppend
import Derived.Test.YtofjjaagjkbeaaaGreatQo
import Derived.Lib.AppendZerosOnto
import Derived.Lib.Overlaps
import Derived.Laws.BytesString
import Derived.Laws.Cells
import Derived.Laws.Pointers
import Derived.Test.YtofjjaagjkbeaaaGreatQp
import Derived.MapKept
import Derived.DeepKeys3
import Derived.Maps.RangeRun
import Derived.Test.YtofjjaagjkbeaaaGreatShelf
import Derived.Shelf.GgSortFunc.Tiny
import Derived.Deep.QuietTactic
import Derived.WalkKit
import Derived.Test.YtofjjaagjkbeaaaGreatHelp
namespace Go.Proofs.YtofjjaagjkbeaaaGreat.pv
set_option linter.all false
open Go.RowKit
theorem addr_add0 (b k:Nat):(⟨b,0,none⟩:Addr).add k=⟨b,k,none⟩:=by unfold Addr.add; split <;> simp_all
section
variable {P:Program} {T:List TI} {n:Nat} {w0:Cx} {st:PS} {a:Act} {w:World} {ow:Nat→Bool} {hd:Nat→Value}
theorem SimW.putEls (S:SimW n w0 st a w ow hd) {l e s i b N cap:Nat} {xs ys:List PV} {news:List Value} (hm:st.m[l]?=some (.row e s xs)) (hh:hd l=.slice (some ⟨b,0,none⟩) N cap) (hi:i+ys.length≤xs.length) (hr:RE ow w s ys news) :
  w.there b (i*s) news.length∧N=xs.length∧xs.length≤cap∧(∃ cur:Array Value,w.heap[b]?=some (.cells cur e (0,0))∧cur.size=cap*s∧RE ow w s xs (cur.toList.take (xs.length*s))) ∧
   SimW n w0 ⟨st.f,st.m.set l (.row e s (xs.take i++ys++xs.drop (i+ys.length)))⟩ a (w.setCells b (i*s) news) ow hd:=by
 obtain ⟨cells,⟨g1,g2⟩,h4,h5⟩:=S.objs l _ hm
 rcases g2 with ⟨g2,_⟩ | ⟨g,cap',cur,g2,g3,g4,g5,g6,g7,g8⟩
 ·rw [hh] at g2; simp at g2
 rw [hh] at g2
 simp at g2
 obtain ⟨rfl,rfl,rfl⟩:=g2
 obtain ⟨e3,e4⟩:=h4 b (by rw [hh]; first | rfl | simp [blocksOf,blockOf])
 have hnl:=hr.length
 have hmul:i*s+ys.length*s≤xs.length*s:=by rw [← Nat.add_mul]; exact Nat.mul_le_mul_right _ hi
 have hmul2:xs.length*s≤cap*s:=Nat.mul_le_mul_right _ g5
 obtain ⟨cur',q1,q2,q3⟩:=setCells_block b e (0,0) news (i*s) w cur g4 (by omega)
 have ho:=fun j hj=>setCells_other b news (i*s) w j hj
 have hkp:Kp ow w ow (w.setCells b (i*s) news):=⟨by rw [setCells_size]; exact Nat.le_refl _,fun _ _ h=>h,fun j _ hj=>ho j (fun e=>by rw [e,e4] at hj; cases hj)⟩
 refine ⟨there_of_block g4 (by omega),rfl,g5,⟨cur,g4,g7,by rw [g8]; exact h5⟩,?_⟩
 have hlen:(xs.take i++ys++xs.drop (i+ys.length)).length=xs.length:=by simp; omega
 have hcl:cells.length=xs.length*s:=g1
 have hcur:cur.toList.length=cap*s:=by simpa using g7
 refine S.set (o':=.row e s _) hm rfl rfl (b:=b) (by rw [hh]; first | rfl | simp [blocksOf,blockOf]) ho (setCells_size b _ _ w) (Kt.of_one (setCells_below b _ (Nat.le_refl _) _ _ w) e3 ho)
  ⟨cells.take (i*s)++news++cells.drop ((i+ys.length)*s),⟨?_,.inr ⟨b,cap,cur',by rw [hh,hlen],Nat.zero_le _,q1,by rw [hlen]; exact g5,g6,by rw [q3]; exact g7,?_⟩⟩,fun b' hb'=>by rw [hh] at hb'; simp [blocksOf,blockOf] at hb'; rw [hb']; exact ⟨e3,e4⟩,RE.mono hkp _ _ _ ((RE.append (RE.append (RE.take _ h5) hr) (RE.drop _ h5)))⟩
 ·rw [hlen]
  simp only [List.length_append,List.length_take,List.length_drop,hcl,hnl,Nat.add_mul]
  omega
 ·rw [q2,hlen,hnl,← g8,Nat.add_mul]
  apply List.ext_getElem?
  intro k
  have hl1:(List.take (i*s) cur.toList).length=i*s:=by rw [List.length_take]; omega
  have hl2:(List.take (i*s) (List.take (xs.length*s) cur.toList)).length=i*s:=by rw [List.length_take,List.length_take]; omega
  rw [List.getElem?_take]
  by_cases hk:k<xs.length*s
  ·rw [if_pos hk]
   by_cases h1:k<i*s
   ·rw [List.append_assoc,List.append_assoc,List.getElem?_append_left (by omega),List.getElem?_append_left (by omega),List.getElem?_take,List.getElem?_take,List.getElem?_take,if_pos h1,if_pos h1,if_pos hk]
   ·rw [List.append_assoc,List.append_assoc,List.getElem?_append_right (l₁:=List.take (i*s) cur.toList) (by omega),List.getElem?_append_right (l₁:=List.take (i*s) (List.take (xs.length*s) cur.toList)) (by omega),hl1,hl2]
    by_cases h2:k-i*s<news.length
    ·rw [List.getElem?_append_left h2,List.getElem?_append_left h2]
    ·rw [List.getElem?_append_right (l₂:=List.drop _ cur.toList) (by omega),List.getElem?_append_right (l₂:=List.drop _ (List.take _ cur.toList)) (by omega),List.getElem?_drop,List.getElem?_drop,List.getElem?_take,if_pos (by omega)]
  ·rw [if_neg hk]
   symm
   apply List.getElem?_eq_none
   simp only [List.length_append,List.length_take,List.length_drop,hcur,hnl]
   omega
theorem ext_appendSS {t e s l i j q:Nat} {ti:TI} {xs:List PV} {x y:Operand} (h1:tsl T t=some (e,s)) (h2:T[e]?=some ti) (hij:i≤j) (hjq:j≤q) (hq:q≤xs.length) :
  Ext P T (.call ⟨.builtin .append,#[x,y],#[t,t]⟩) [.ssl l 0 i s,.ssl l j q s] [(l,.row e s xs)] (.ssl l 0 (i+(q-j)) s) [(l,.row e s (xs.take i++(xs.take q).drop j++xs.drop (i+(q-j))))]:=by
 intro n w0 st a w o hT hS ho hn hv hm K Q hK
 obtain ⟨ow,hd,hold,S⟩:=hS
 obtain ⟨d,op,ty,pos,af,gd⟩:=o
 simp only at ho hn hK
 subst ho
 simp [Op.operands,Call.operands] at hv
 obtain ⟨hv1,hv2⟩:=hv
 have hml:=hm (l,.row e s xs) (by simp)
 simp only at hml
 obtain ⟨i',dd,e1,e2,e3,e4,e5,e6⟩:=hT.info h2
 obtain ⟨hu,hs⟩:=tsl_und hT h1
 have hsi:=tsz_info hT hs
 rw [e1] at hsi
 simp at hsi
 have hx:=S.eval x
 have hy:=S.eval y
 rw [hv1] at hx
 rw [hv2] at hy
 simp only [RF] at hx hy
 obtain ⟨hA,ad,N,cap,x1,x2,x3,x4⟩:=hx
 obtain ⟨_,ad',N',cap',y1,y2,y3,y4⟩:=hy
 rw [x1] at y1
 simp at y1
 obtain ⟨rfl,rfl,rfl⟩:=y1
 obtain ⟨cells,⟨g1,g2⟩,h4,h5⟩:=S.objs l _ hml
 rcases g2 with ⟨g2,g3⟩ | ⟨b,cap',cur,g2,g3,g4,g5,g6,g7,g8⟩
 ·rw [x1] at g2
  simp at g2
  obtain ⟨rfl,rfl,rfl⟩:=g2
  have ei:i=0:=by omega
  have ej:j=0:=by omega
  have eq:q=0:=by omega
  subst ei ej eq
  have hrun:(execOp a.eval ⟨d,.call ⟨.builtin .append,#[x,y],#[t,t]⟩,ty,pos,af,gd⟩).run P w=.ok (.value (.slice none 0 0)) w:=by
   simp at x4 y4
   simp [execOp,resolve,invoke,builtin,x4,y4,Builtin.append_,run_underlying hu,sizeOf,typeInfo,e1,Builtin.lenOf,run_firstCells_none]
  have hxs:xs=[]:=List.eq_nil_of_length_eq_zero g3
  subst hxs
  refine wp_val hrun (hK _ _ ⟨ow,hd,hold,?_⟩)
  have e0:st.m.set l (.row e s (([]:List PV).take 0++(([]:List PV).take 0).drop 0++([]:List PV).drop (0+(0-0))))=st.m:=by
   apply List.ext_getElem?
   intro k
   rw [List.getElem?_set]
   split
   ·rename_i hk; subst hk
    rw [hml]
    rw [if_pos (List.getElem?_eq_some_iff.1 hml).1]
    simp
   ·rfl
  have hput:=S.put hn (x:=.ssl l 0 (0+(0-0)) s) (v:=.slice none 0 0) (by simp only [RF]; exact ⟨hA,none,0,0,x1,Nat.le_refl _,Nat.le_refl _,by simp⟩)
  simp only [PS.act,updM]
  rw [e0]
  exact hput
 ·rw [x1] at g2
  simp at g2
  obtain ⟨rfl,rfl,rfl⟩:=g2
  have hRE:=RE.drop j (RE.take q h5)
  have hyl:((xs.take q).drop j).length=q-j:=by simp; omega
  have hx4:a.eval x=.slice (some ⟨b,0,none⟩) i cap:=by
   rw [x4]; simp [Addr.add]
  obtain ⟨p1,p2,p3,⟨cur0,p4,p5,p6⟩,S'⟩:=S.putEls (i:=i) hml x1 (by rw [hyl]; omega) hRE
  rw [hyl] at S'
  have hnl:((cells.take (q*s)).drop (j*s)).length=(q-j)*i'.size:=by
   rw [hRE.length,hyl,hsi]
  have hA0:∃ A:Addr,a.eval y=.slice (some A) (q-j) (cap-j)∧∀ k u,((cells.take (q*s)).drop (j*s))[k]?=some u→w.cell? (A.add k)=some u:=by
   by_cases hc:cap=j
   ·refine ⟨⟨b,0,none⟩,by rw [y4,if_pos hc],fun k u hk=>?_⟩
    have:((cells.take (q*s)).drop (j*s)).length=0:=by rw [hnl]; rw [show q-j=0 by omega]; simp
    rw [List.eq_nil_of_length_eq_zero this] at hk
    simp at hk
   ·refine ⟨⟨b,j*s,none⟩,by rw [y4,if_neg hc,Option.map_some,addr_add0],fun k u hk=>?_⟩
    rw [List.getElem?_drop,List.getElem?_take] at hk
    split at hk
    ·rename_i hlt
     rw [← g8,List.getElem?_take] at hk
     split at hk
     ·have:(⟨b,j*s,none⟩:Addr).add k=⟨b,j*s+k,none⟩:=by simp [Addr.add]
      rw [this]
      unfold World.cell?
      simp only [g4]
      simpa using hk
     ·cases hk
    ·cases hk
  obtain ⟨A,y5,hnews⟩:=hA0
  have hroom:=run_append_room_cells (P:=P) w t ty e i' hu e1 b 0 i cap A (q-j) (cap-j) ((cells.take (q*s)).drop (j*s)) hnl hnews (RE.one hRE) (by omega)
   (fun k hk=>by rw [Nat.zero_add,hsi]; exact (p1 k hk).1) (fun k hk=>by rw [Nat.zero_add,hsi]; exact (p1 k hk).2)
  rw [Nat.zero_add,hsi] at hroom
  have hrun:(execOp a.eval ⟨d,.call ⟨.builtin .append,#[x,y],#[t,t]⟩,ty,pos,af,gd⟩).run P w=.ok (.value (.slice (some ⟨b,0,none⟩) (i+(q-j)) cap)) (w.setCells b (i*s) ((cells.take (q*s)).drop (j*s))):=by
   simp [execOp,resolve,invoke,builtin,hx4,y5,hroom]
  unfold Oper.wp
  rw [hrun]
  refine hK _ _ ⟨ow,hd,hold,S'.put hn (x:=.ssl l 0 (i+(q-j)) s) ?_⟩
  simp only [RF]
  exact ⟨al_set_mono rfl l hA,some ⟨b,0,none⟩,xs.length,cap,x1,Nat.zero_le _,by omega,by simp [Addr.add]⟩
theorem ext_clearSS {t e s l i j:Nat} {ti:TI} {z:PV} {xs:List PV} {x:Operand} (h1:tsl T t=some (e,s)) (h2:T[e]?=some ti) (hz:zeroPV ti=some z) (hs1:ti.zero.length=s) (hs0:0<s) (hij:i≤j) (hj:j≤xs.length) :
  Ext P T (.call ⟨.builtin .clear,#[x],#[t]⟩) [.ssl l i j s] [(l,.row e s xs)] .dead [(l,.row e s (xs.take i++List.replicate (j-i) z++xs.drop j))]:=by
 intro n w0 st a w o hT hS ho hn hv hm K Q hK
 obtain ⟨ow,hd,hold,S⟩:=hS
 obtain ⟨d,op,ty,pos,af,gd⟩:=o
 simp only at ho hn hK
 subst ho
 simp [Op.operands,Call.operands] at hv
 have hml:=hm (l,.row e s xs) (by simp)
 simp only at hml
 obtain ⟨i',zv,u,e1,e2,e3,e4,e5,e6,e7,e8⟩:=zeroPV_spec hT h2 hz
 obtain ⟨hu,hs⟩:=tsl_und hT h1
 have hzs:zv.cells.size=s:=by rw [e5,hs1]
 have hzc:∀ n:Nat,(Builtin.zeroCells zv.cells n).toList=(List.replicate n u.cells.toList).flatten:=by
  intro n
  have:=made_cells zv.cells (by omega) n
  rw [e6,← this]
  simp [Builtin.zeroCells,madeCells]
 have hx:=S.eval x
 rw [hv] at hx
 simp only [RF] at hx
 obtain ⟨hA,ad,N,cap,x1,x2,x3,x4⟩:=hx
 by_cases h0:j-i=0
 ·have hrun:(execOp a.eval ⟨d,.call ⟨.builtin .clear,#[x],#[t]⟩,ty,pos,af,gd⟩).run P w=.ok (.value (.tuple #[])) w:=by
   rw [h0] at x4
   have:∀ A:Option Addr,(Builtin.clear_ #[t] ty #[.slice A 0 (cap-i)]).run P w=.ok (.tuple #[]) w:=by
    intro A
    cases A <;> simp [Builtin.clear_,run_underlying hu]
   simp [execOp,resolve,invoke,builtin,x4,this]
  refine wp_val hrun (hK _ _ ⟨ow,hd,hold,?_⟩)
  have e0:st.m.set l (.row e s (xs.take i++List.replicate (j-i) z++xs.drop j))=st.m:=by
   have:xs.take i++List.replicate (j-i) z++xs.drop j=xs:=by
    rw [h0,show j=i by omega]; simp
   rw [this]
   apply List.ext_getElem?
   intro k
   rw [List.getElem?_set]
   split
   ·rename_i hk; subst hk
    rw [hml,if_pos (List.getElem?_eq_some_iff.1 hml).1]
   ·rfl
  simp only [PS.act,updM]
  rw [e0]
  exact S.put hn (x:=.dead) (by simp only [RF])
 ·obtain ⟨cells,⟨g1,g2⟩,h4,h5⟩:=S.objs l _ hml
  rcases g2 with ⟨g2,g3⟩ | ⟨b,cap',cur,g2,g3,g4,g5,g6,g7,g8⟩
  ·omega
  rw [x1] at g2
  simp at g2
  obtain ⟨rfl,rfl,rfl⟩:=g2
  have hRE:RE ow w s (List.replicate (j-i) z) (Builtin.zeroCells zv.cells (j-i)).toList:=by
   rw [hzc]; exact RE_zero (by rw [e6]; exact hzs) e7 (e8 _ _) _
  obtain ⟨p1,p2,p3,_,S'⟩:=S.putEls (i:=i) hml x1 (by rw [List.length_replicate]; omega) hRE
  rw [List.length_replicate,show i+(j-i)=j by omega] at S'
  have hst:=run_storeCells_cells (P:=P) b (i*s) (Builtin.zeroCells zv.cells (j-i)).toList 0 w (fun k hk=>by rw [Nat.add_zero]; exact (p1 k hk).1) (fun k hk=>by rw [Nat.add_zero]; exact (p1 k hk).2) (RE.one hRE)
  rw [Nat.add_zero] at hst
  have hx4:a.eval x=.slice (some ⟨b,i*s,none⟩) (j-i) (cap-i):=by
   rw [x4,if_neg (by omega),Option.map_some,addr_add0]
  have hzv:(zeroValue e).run P w=.ok zv w:=by simp [zeroValue,typeInfo,e1,e2]
  obtain ⟨m,hm'⟩:∃ m,j-i=m+1:=⟨j-i-1,by omega⟩
  rw [hm'] at hst hx4 S'
  have hrun:(execOp a.eval ⟨d,.call ⟨.builtin .clear,#[x],#[t]⟩,ty,pos,af,gd⟩).run P w=.ok (.value (.tuple #[])) (w.setCells b (i*s) (Builtin.zeroCells zv.cells (m+1)).toList):=by
   have:(Builtin.clear_ #[t] ty #[.slice (some ⟨b,i*s,none⟩) (m+1) (cap-i)]).run P w=.ok (.tuple #[]) (w.setCells b (i*s) (Builtin.zeroCells zv.cells (m+1)).toList):=by
    simp [Builtin.clear_,run_underlying hu,hzv,hst]
   simp [execOp,resolve,invoke,builtin,hx4,this]
  unfold Oper.wp
  rw [hrun]
  simp only [hm'] at hK
  exact hK _ _ ⟨ow,hd,hold,S'.put hn (x:=.dead) (by simp only [RF])⟩
end
end Go.Proofs.YtofjjaagjkbeaaaGreat.pv
namespace Go.Proofs.YtofjjaagjkbeaaaGreat.pv
set_option linter.all false
open Go.RowKit
def delR {α:Type} (L:List α) (i j q:Nat):List α:=L.take i++(L.take q).drop j++L.drop (i+(q-j))
def clrR {α:Type} (L:List α) (i j:Nat) (z:α):List α:=L.take i++List.replicate (j-i) z++L.drop j
def cpyR {α:Type} (L:List α) (i j:Nat) (Y:List α):List α:=L.take i++Y.take (j-i)++L.drop (i+Nat.min Y.length (j-i))
section
variable {P:Program} {T:List TI}
theorem ext_of0 {op:Op} {vs:List FV} {m0 U:List (Nat×PO)} {r:FV} (h:∀ (ρ:Operand→FV) (m:List PO),op.operands.toList.map ρ=vs→(∀ q∈m0,m[q.1]?=some q.2)→∃ nl F,PAct0 P T ρ m nl op r U F):Ext P T op vs m0 r U:=by
 intro n w0 st a w o hT S ho hn hv hm K Q hK
 obtain ⟨nl,F,h0⟩:=h _ _ hv hm
 subst ho
 exact act0_wp hT S hn h0 hK
variable {α:Type} {f:α→PV} {L Y:List α} {t e s l i j q:Nat} {a b c:Int} {ka kb kc:IntKind} {x y lo hi mx:Operand}
theorem xs10 (h:tsl T t=some (e,s)) (c:0≤a∧a≤L.length):Ext P T (.slice t x (some lo) none none) [.srf l,.d (.v (.int ka a))] [(l,.row e s (L.map f))] (.ssl l a.toNat L.length s) [] :=
 ext_of0 fun ρ m hv hm=>by
  simp [Op.operands] at hv
  have:=PAct0.sliceS (P:=P) (T:=T) (ρ:=ρ) (m:=m) (nl:=0) t x (some lo) none e s l (L.map f) a L.length h hv.1 (hm (l,.row e s (L.map f)) (by simp)) (by simp [optInt,hv.2]) (by simp [optInt]) c.1 c.2 (by simp)
  exact ⟨_,_,by simpa using this⟩
theorem xs01 (h:tsl T t=some (e,s)) (c:0≤b∧b≤L.length):Ext P T (.slice t x none (some hi) none) [.srf l,.d (.v (.int kb b))] [(l,.row e s (L.map f))] (.ssl l 0 b.toNat s) [] :=
 ext_of0 fun ρ m hv hm=>by
  simp [Op.operands] at hv
  have:=PAct0.sliceS (P:=P) (T:=T) (ρ:=ρ) (m:=m) (nl:=0) t x none (some hi) e s l (L.map f) 0 b h hv.1 (hm (l,.row e s (L.map f)) (by simp)) rfl (by simp [optInt,hv.2]) (by omega) c.1 (by simpa using c.2)
  exact ⟨_,_,by simpa using this⟩
theorem xs11 (h:tsl T t=some (e,s)) (c:0≤a∧a≤b∧b≤L.length):Ext P T (.slice t x (some lo) (some hi) none) [.srf l,.d (.v (.int ka a)),.d (.v (.int kb b))] [(l,.row e s (L.map f))] (.ssl l a.toNat b.toNat s) [] :=
 ext_of0 fun ρ m hv hm=>by
  simp [Op.operands] at hv
  have:=PAct0.sliceS (P:=P) (T:=T) (ρ:=ρ) (m:=m) (nl:=0) t x (some lo) (some hi) e s l (L.map f) a b h hv.1 (hm (l,.row e s (L.map f)) (by simp)) (by simp [optInt,hv.2.1]) (by simp [optInt,hv.2.2]) c.1 c.2.1 (by simpa using c.2.2)
  exact ⟨_,_,this⟩
theorem xs111 (h:tsl T t=some (e,s)) (d:0≤a∧a≤b∧b≤c∧c≤L.length):Ext P T (.slice t x (some lo) (some hi) (some mx)) [.srf l,.d (.v (.int ka a)),.d (.v (.int kb b)),.d (.v (.int kc c))] [(l,.row e s (L.map f))] .dead [] :=
 ext_of0 fun ρ m hv hm=>by
  simp [Op.operands] at hv
  have:=PAct0.slice3 (P:=P) (T:=T) (ρ:=ρ) (m:=m) (nl:=0) t x (some lo) (some hi) mx hi e s l (L.map f) a b c rfl h hv.1 (hm (l,.row e s (L.map f)) (by simp)) (by simp [optInt,hv.2.1]) (by simp [optInt,hv.2.2.1]) (by simp [optInt,hv.2.2.2]) d.1 d.2.1 d.2.2.1 (by simpa using d.2.2.2)
  exact ⟨_,_,this⟩
theorem xt11 (h:tsl T t=some (e,s)) (c:0≤a∧a≤b∧b≤L.length):Ext P T (.slice t x (some lo) (some hi) none) [.ssl l 0 i s,.d (.v (.int ka a)),.d (.v (.int kb b))] [(l,.row e s (L.map f))] (.ssl l a.toNat b.toNat s) [] :=
 ext_of0 fun ρ m hv hm=>by
  simp [Op.operands] at hv
  have:=PAct0.sliceSS (P:=P) (T:=T) (ρ:=ρ) (m:=m) (nl:=0) t x (some lo) (some hi) e s l i (L.map f) a b h hv.1 (hm (l,.row e s (L.map f)) (by simp)) (by simp [optInt,hv.2.1]) (by simp [optInt,hv.2.2]) c.1 c.2.1 (by simpa using c.2.2)
  exact ⟨_,_,this⟩
theorem xlen (h:tsl T t=some (e,s)):Ext P T (.call ⟨.builtin .len,#[x],#[t]⟩) [.ssl l i j s] [] (.d (.v (.int .i64 ((j-i:Nat):Int)))) [] :=
 ext_of0 fun ρ m hv hm=>by
  simp [Op.operands,Call.operands] at hv
  exact ⟨0,_,.lenSS t x e s l i j h hv⟩
theorem xmv {nl:Nat} (hk:i≤L.length):Ext P T (.move x) [.ssl l 0 i s] [(l,.row e s (L.map f)),(nl,.free)] (.srf nl) [(l,.none),(nl,.row e s ((L.take i).map f))] :=
 ext_of0 fun ρ m hv hm=>by
  simp [Op.operands] at hv
  have:=PAct0.moveC (P:=P) (T:=T) (ρ:=ρ) (m:=m) (nl:=nl) x e s l i (L.map f) (hm (nl,.free) (by simp)) hv (hm (l,.row e s (L.map f)) (by simp)) (by simpa using hk)
  exact ⟨_,_,by simpa [List.map_take] using this⟩
theorem xapp {ti:TI} (h:tsl T t=some (e,s)) (h2:T[e]?=some ti) (c:i≤j∧j≤q∧q≤L.length) :
  Ext P T (.call ⟨.builtin .append,#[x,y],#[t,t]⟩) [.ssl l 0 i s,.ssl l j q s] [(l,.row e s (L.map f))] (.ssl l 0 (i+(q-j)) s) [(l,.row e s ((delR L i j q).map f))]:=by
 have:=ext_appendSS (P:=P) (T:=T) (l:=l) (x:=x) (y:=y) (xs:=L.map f) h h2 c.1 c.2.1 (by simpa using c.2.2)
 simpa [delR,List.map_take,List.map_drop] using this
theorem xclr {ti:TI} {z:α} {p:PV} (h:tsl T t=some (e,s)) (h2:T[e]?=some ti) (hz:zeroPV ti=some p) (hs:ti.zero.length=s) (h0:0<s) (hp:p=f z) (c:i≤j∧j≤L.length) :
  Ext P T (.call ⟨.builtin .clear,#[x],#[t]⟩) [.ssl l i j s] [(l,.row e s (L.map f))] .dead [(l,.row e s ((clrR L i j z).map f))]:=by
 have:=ext_clearSS (P:=P) (T:=T) (l:=l) (x:=x) (xs:=L.map f) h h2 hz hs h0 c.1 (by simpa using c.2)
 subst hp
 simpa [clrR,List.map_take,List.map_drop] using this
end
section
variable {P:Program} {T:List TI} {n:Nat} {w0:Cx} {st:PS} {a:Act} {w:World} {ow:Nat→Bool} {hd:Nat→Value}
def Src (ow:Nat→Bool) (w:World) (s:Nat) (v:Value) (ys:List PV):Prop :=
 ∃ (ad:Option Addr) (cap:Nat),v=.slice ad ys.length cap∧(ys=[]∨∃ (b off:Nat) (cells:List Value),ad=some ⟨b,off,none⟩∧w.rangeAt b off cells∧RE ow w s ys cells)
theorem addr_add (b o k:Nat):(⟨b,o,none⟩:Addr).add k=⟨b,o+k,none⟩:=by unfold Addr.add; split <;> simp_all
theorem rangeAt_take {b off k:Nat} {cells:List Value} (h:w.rangeAt b off cells):w.rangeAt b off (cells.take k):=fun j v hv=>by
 rw [List.getElem?_take] at hv
 split at hv
 ·exact h j v hv
 ·cases hv
theorem copy_core (hT:TOk P T) (S:SimW n w0 st a w ow hd) {t t' e s l i j:Nat} {ti:TI} {xs ys:List PV} {x y:Operand} (h1:tsl T t=some (e,s)) (h2:T[e]?=some ti) (hx:RF (al st.m) hd ow w (.ssl l i j s) (a.eval x)) (hml:st.m[l]?=some (.row e s xs)) (hj:j≤xs.length) (hsrc:Src ow w s (a.eval y) ys) (ty:TypeId) :
  ∃ w',(Builtin.copy_ #[t,t'] ty #[a.eval x,a.eval y]).run P w=.ok (.int .i64 (Nat.min ys.length (j-i):Nat)) w' ∧
   SimW n w0 ⟨st.f,st.m.set l (.row e s (xs.take i++ys.take (j-i)++xs.drop (i+Nat.min ys.length (j-i))))⟩ a w' ow hd:=by
 obtain ⟨i',dd,e1,e2,e3,e4,e5,e6⟩:=hT.info h2
 obtain ⟨hu,hs⟩:=tsl_und hT h1
 have hsi:=tsz_info hT hs
 rw [e1] at hsi
 simp at hsi
 simp only [RF] at hx
 obtain ⟨hA,ad,N,cap,x1,x2,x3,x4⟩:=hx
 obtain ⟨adS,capS,y1,y2⟩:=hsrc
 have hmin:Nat.min ys.length (j-i)≤ys.length:=Nat.min_le_left _ _
 have hmin2:Nat.min ys.length (j-i)≤j-i:=Nat.min_le_right _ _
 have htk:ys.take (j-i)=ys.take (Nat.min ys.length (j-i)):=by
  rcases Nat.le_total ys.length (j-i) with h | h
  ·rw [show Nat.min ys.length (j-i)=ys.length from Nat.min_eq_left h,List.take_length,List.take_of_length_le h]
  ·rw [show Nat.min ys.length (j-i)=j-i from Nat.min_eq_right h]
 have hlen:(ys.take (Nat.min ys.length (j-i))).length=Nat.min ys.length (j-i):=by rw [List.length_take]; exact Nat.min_eq_left hmin
 rw [htk]
 generalize hm:Nat.min ys.length (j-i)=m at *
 have hfc:∃ news:List Value,(∀ n' c',(Builtin.firstCells i'.size m (.slice adS n' c')).run P w=.ok news.toArray w)∧RE ow w s (ys.take m) news:=by
  rcases y2 with rfl | ⟨b,off,cells,rfl,g1,g2⟩
  ·have:m=0:=by simpa using hmin
   subst this
   refine ⟨[],fun n' c'=>?_,by simp [RE]⟩
   cases adS with
   | none=>simp [Builtin.firstCells]
   | some ad=>simpa using run_firstCells_some (P:=P) w i'.size 0 ad n' c' [] (by simp) (by simp)
  ·have g3:=RE.take m g2
   refine ⟨cells.take (m*s),fun n' c'=>run_firstCells_some (P:=P) w i'.size m _ n' c' _ (by rw [g3.length,hsi,List.length_take,Nat.min_eq_left hmin]) (fun k u hk=>?_),g3⟩
   rw [addr_add]
   exact rangeAt_take g1 k u hk
 obtain ⟨news,f1,f2⟩:=hfc
 have hnl:=f2.length
 rw [hlen] at hnl
 obtain ⟨cells,⟨g1,g2⟩,h4,h5⟩:=S.objs l _ hml
 rcases g2 with ⟨g2,g3⟩ | ⟨b,cap',cur,g2,g3,g4,g5,g6,g7,g8⟩
 ·rw [x1] at g2
  simp at g2
  obtain ⟨rfl,rfl,rfl⟩:=g2
  have hi0:i=0:=by omega
  have hj0:j=0:=by omega
  subst hi0 hj0
  have hm0:m=0:=by omega
  subst hm0
  have hn0:news=[]:=List.eq_nil_of_length_eq_zero (by simpa using hnl)
  subst hn0
  refine ⟨w,?_,?_⟩
  ·simp only [x4,y1]
   simp [Builtin.copy_,run_underlying hu,Builtin.lenOf,sizeOf,typeInfo,e1,hm,f1,goInt]
  ·have e0:st.m.set l (.row e s (xs.take 0++ys.take 0++xs.drop (0+0)))=st.m:=by
    apply List.ext_getElem?
    intro k
    rw [List.getElem?_set]
    split
    ·rename_i hk; subst hk
     rw [hml,if_pos (List.getElem?_eq_some_iff.1 hml).1]
     simp
    ·rfl
   rw [e0]
   exact S
 ·rw [x1] at g2
  simp at g2
  obtain ⟨rfl,rfl,rfl⟩:=g2
  obtain ⟨p1,p2,p3,_,S'⟩:=S.putEls (i:=i) hml x1 (by rw [hlen]; omega) f2
  rw [hlen] at S'
  have hst:=run_storeCells_cells (P:=P) b (i*s) news 0 w (fun k hk=>by rw [Nat.add_zero]; exact (p1 k hk).1) (fun k hk=>by rw [Nat.add_zero]; exact (p1 k hk).2) (RE.one f2)
  rw [Nat.add_zero] at hst
  refine ⟨_,?_,S'⟩
  by_cases hc:cap=i
  ·have hm0:m=0:=by omega
   subst hm0
   have hn0:news=[]:=List.eq_nil_of_length_eq_zero (by simpa using hnl)
   subst hn0
   have hji:j-i=0:=by omega
   simp only [x4,y1,if_pos hc]
   rw [hji] at hm ⊢
   simp [Builtin.copy_,run_underlying hu,Builtin.lenOf,sizeOf,typeInfo,e1,hm,f1,goInt,storeCells,World.setCells]
  ·simp only [x4,y1,if_neg hc,Option.map_some,addr_add0]
   simp [Builtin.copy_,run_underlying hu,Builtin.lenOf,sizeOf,typeInfo,e1,hm,f1,goInt,hst]
theorem Src.of_els {s:Nat} (S:SimW n w0 st a w ow hd) {y:Operand} {ys:List PV} {ls:List Nat} (h:Els st.m (ev st.f y) ys ls) (hf:ys.all (fits s)=true):Src ow w s (a.eval y) ys:=by
 obtain ⟨ad,cap,y1,y2⟩:=h.spec S
 refine ⟨ad,cap,y1,?_⟩
 rcases y2 with rfl | ⟨b,off,sz,cells,k1,k2,k3⟩
 ·exact .inl rfl
 ·exact .inr ⟨b,off,cells,k1,k2,RE.resize k3 hf⟩
theorem Src.of_ssl (S:SimW n w0 st a w ow hd) {y:Operand} {l e s p q:Nat} {xs:List PV} (hy:ev st.f y=.ssl l p q s) (hml:st.m[l]?=some (.row e s xs)) (hq:q≤xs.length):Src ow w s (a.eval y) ((xs.take q).drop p):=by
 have hx:=S.eval y
 rw [hy] at hx
 simp only [RF] at hx
 obtain ⟨hA,ad,N,cap,x1,x2,x3,x4⟩:=hx
 have hlen:((xs.take q).drop p).length=q-p:=by simp; omega
 refine ⟨_,_,by rw [hlen]; exact x4,?_⟩
 obtain ⟨cells,⟨g1,g2⟩,h4,h5⟩:=S.objs l _ hml
 rcases g2 with ⟨g2,g3⟩ | ⟨b,cap',cur,g2,g3,g4,g5,g6,g7,g8⟩
 ·left; apply List.eq_nil_of_length_eq_zero; rw [hlen]; omega
 ·rw [x1] at g2
  simp at g2
  obtain ⟨rfl,rfl,rfl⟩:=g2
  by_cases hc:cap=p
  ·left; apply List.eq_nil_of_length_eq_zero; rw [hlen]; omega
  ·refine .inr ⟨b,p*s,(cells.take (q*s)).drop (p*s),by rw [if_neg hc,Option.map_some,addr_add0],fun k u hk=>?_,RE.drop _ (RE.take _ h5)⟩
   rw [List.getElem?_drop,List.getElem?_take] at hk
   split at hk
   ·rw [← g8,List.getElem?_take] at hk
    split at hk
    ·unfold World.cell?
     simp only [g4]
     simpa using hk
    ·cases hk
   ·cases hk
end
section
variable {P:Program} {T:List TI} {α:Type} {f:α→PV} {L Y:List α} {t t' e e' s l l' i j p q:Nat} {x y:Operand} {ti:TI}
theorem srf_ssl {n:Nat} {w0:Cx} {st:PS} {a:Act} {w:World} {ow:Nat→Bool} {hd:Nat→Value} (S:SimW n w0 st a w ow hd) {xs:List PV} {u:Value} (hx:RF (al st.m) hd ow w (.srf l) u) (hml:st.m[l]?=some (.row e s xs)):RF (al st.m) hd ow w (.ssl l 0 xs.length s) u:=by
 simp only [RF] at hx ⊢
 obtain ⟨h1,h2,_⟩:=hx
 obtain ⟨cells,⟨g1,g2⟩,_⟩:=S.objs l _ hml
 rcases g2 with ⟨g2,g3⟩ | ⟨b,cap,cur,g2,g3,g4,g5,g6,g7,g8⟩
 ·exact ⟨h1,none,0,0,g2,Nat.zero_le _,by omega,by rw [h2,g2,g3]; rfl⟩
 ·exact ⟨h1,some ⟨b,0,none⟩,xs.length,cap,g2,Nat.zero_le _,g5,by rw [h2,g2]; simp [Addr.add]⟩
theorem ext_copy {vs:List FV} {m0:List (Nat×PO)} {xs ys:List PV} (h1:tsl T t=some (e,s)) (h2:T[e]?=some ti) (hj:j≤xs.length) (hm0:(l,.row e s xs)∈m0) (fy:FV) (hvs:vs=[.ssl l i j s,fy]∨vs=[.srf l,fy]∧i=0∧j=xs.length)
  (hs:∀ (n:Nat) (w0:Cx) (st:PS) (a:Act) (w:World) (ow:Nat→Bool) (hd:Nat→Value),SimW n w0 st a w ow hd→ev st.f y=fy→(∀ q∈m0,st.m[q.1]?=some q.2)→Src ow w s (a.eval y) ys) :
  Ext P T (.call ⟨.builtin .copy,#[x,y],#[t,t']⟩) vs m0 (.d (.v (.int .i64 (Nat.min ys.length (j-i):Nat)))) [(l,.row e s (xs.take i++ys.take (j-i)++xs.drop (i+Nat.min ys.length (j-i))))]:=by
 intro n w0 st a w o hT hS ho hn hv hm K Q hK
 obtain ⟨ow,hd,hold,S⟩:=hS
 obtain ⟨d,op,ty,pos,af,gd⟩:=o
 simp only at ho hn hK
 subst ho
 have hml:=hm _ hm0
 obtain ⟨hv1,hv2⟩:RF (al st.m) hd ow w (.ssl l i j s) (a.eval x)∧ev st.f y=fy:=by
  rcases hvs with hvs | ⟨hvs,rfl,rfl⟩
  ·subst hvs
   simp [Op.operands,Call.operands] at hv
   exact ⟨by rw [← hv.1]; exact S.eval x,hv.2⟩
  ·subst hvs
   simp [Op.operands,Call.operands] at hv
   refine ⟨srf_ssl S ?_ hml,hv.2⟩
   rw [← hv.1]; exact S.eval x
 obtain ⟨w',r1,S'⟩:=copy_core hT S (x:=x) (y:=y) (t':=t') h1 h2 hv1 hml hj (hs _ _ _ _ _ _ _ S hv2 hm) ty
 have hrun:(execOp a.eval ⟨d,.call ⟨.builtin .copy,#[x,y],#[t,t']⟩,ty,pos,af,gd⟩).run P w=.ok (.value (.int .i64 (Nat.min ys.length (j-i):Nat))) w':=by
  simp [execOp,resolve,invoke,builtin,r1]
 unfold Oper.wp
 rw [hrun]
 exact hK _ _ ⟨ow,hd,hold,S'.put hn (x:=.d (.v _)) (by simp only [RF,R]; exact ⟨trivial,rfl⟩)⟩
theorem xcpD (h1:tsl T t=some (e,s)) (h2:T[e]?=some ti) (hj:j≤L.length) (hf:∀ x,fits s (f x)=true) :
  Ext P T (.call ⟨.builtin .copy,#[x,y],#[t,t']⟩) [.ssl l i j s,.d (.sl (Y.map f))] [(l,.row e s (L.map f))] (.d (.v (.int .i64 (Nat.min Y.length (j-i):Nat)))) [(l,.row e s ((cpyR L i j Y).map f))]:=by
 have:=ext_copy (P:=P) (T:=T) (t':=t') (x:=x) (y:=y) (l:=l) (i:=i) (j:=j) (xs:=L.map f) (ys:=Y.map f) (m0:=[(l,.row e s (L.map f))]) h1 h2 (by simpa using hj) (by simp) _ (.inl rfl)
  (fun n w0 st a w ow hd S hy _=>Src.of_els S (by rw [hy]; exact .sl _) (all_fits hf))
 simpa [cpyR,List.map_take,List.map_drop] using this
theorem xcpR0 (h1:tsl T t=some (e,s)) (h2:T[e]?=some ti) (hf:∀ x,fits s (f x)=true) :
  Ext P T (.call ⟨.builtin .copy,#[x,y],#[t,t']⟩) [.srf l,.srf l'] [(l,.row e s (L.map f)),(l',.row e s (Y.map f))] (.d (.v (.int .i64 (Nat.min Y.length (L.length-0):Nat)))) [(l,.row e s ((cpyR L 0 L.length Y).map f))]:=by
 have:=ext_copy (P:=P) (T:=T) (t':=t') (x:=x) (y:=y) (l:=l) (i:=0) (j:=(L.map f).length) (xs:=L.map f) (ys:=Y.map f) (m0:=[(l,.row e s (L.map f)),(l',.row e s (Y.map f))]) h1 h2 (Nat.le_refl _) (by simp) _ (.inr ⟨rfl,rfl,rfl⟩)
  (fun n w0 st a w ow hd S hy hm=>Src.of_els S (by rw [hy]; exact .row _ _ _ _ (hm (l',.row e s (Y.map f)) (by simp))) (all_fits hf))
 simpa [cpyR,List.map_take,List.map_drop] using this
end
end Go.Proofs.YtofjjaagjkbeaaaGreat.pv
namespace Go.Proofs.YtofjjaagjkbeaaaGreat.pv
set_option linter.all false
open Go.RowKit
section
variable {P:Program} {T:List TI} {n:Nat} {w0:Cx} {st:PS} {a:Act} {w:World} {ow:Nat→Bool} {hd:Nat→Value}
variable {α:Type} {f:α→PV} {Y Z:List α} {t e s l' b:Nat} {ti:TI} {x y:Operand}
end
end Go.Proofs.YtofjjaagjkbeaaaGreat.pv
namespace Go.Proofs.YtofjjaagjkbeaaaGreat.pv
set_option linter.all false
open Go.RowKit
def capOf:Value→Nat
 | .slice _ _ c=>c
 | _=>0
def rowCI (e s C:Nat) (xs:List PV) (ow:Nat→Bool) (w:World) (h:Value):Prop:=∃ cells,w.ownsRow 0 e s h xs.length cells∧RE ow w s xs cells∧capOf h=C
def rowC (e s C:Nat) (xs:List PV):Cust where
 I:=fun ow w h _=>rowCI e s C xs ow w h
 lt:=by
  rintro ow w h vs ⟨cells,⟨_,h2⟩,_,_⟩ b hb
  rcases h2 with ⟨h2,_⟩ | ⟨g,cap,cur,h2,_,h4,_⟩
  ·rw [h2] at hb; simp [blocksOf,blockOf] at hb
  ·rw [h2] at hb; simp [blocksOf,blockOf] at hb; subst hb; exact (Array.getElem?_eq_some_iff.1 h4).1
 kp:=by
  rintro ow ow' w w' h vs k hb ⟨cells,h1,h2,h3⟩
  exact ⟨cells,ownsRow_kept h1 fun b e=>(hb b e).1,RE.mono k _ _ _ h2,h3⟩
 one:=by
  rintro ow w h vs ⟨cells,⟨_,h2⟩,_,_⟩
  rcases h2 with ⟨h2,_⟩ | ⟨g,cap,cur,h2,_,h4,_⟩
  ·rw [h2]; rfl
  ·rw [h2]; rfl
def rowHI (e s C:Nat) (xs:List PV) (m:Nat) (ys:List PV) (ow:Nat→Bool) (w:World) (h:Value):Prop :=
 ∃ (g:Nat) (cur:Array Value) (n:Nat),h=.slice (some ⟨g,0,none⟩) n C∧w.heap[g]?=some (.cells cur e (0,0))∧C≤maxLen∧cur.size=C*s∧xs.length+m+ys.length≤C ∧
  RE ow w s xs (cur.toList.take (xs.length*s))∧RE ow w s ys ((cur.toList.drop ((xs.length+m)*s)).take (ys.length*s))
def rowH (e s C:Nat) (xs:List PV) (m:Nat) (ys:List PV):Cust where
 I:=fun ow w h _=>rowHI e s C xs m ys ow w h
 lt:=by
  rintro ow w h vs ⟨g,cur,n,h1,h2,_⟩ b hb
  rw [h1] at hb; simp [blocksOf,blockOf] at hb; subst hb; exact (Array.getElem?_eq_some_iff.1 h2).1
 kp:=by
  rintro ow ow' w w' h vs k hb ⟨g,cur,n,h1,h2,h3,h4,h5,h6,h7⟩
  exact ⟨g,cur,n,h1,by rw [(hb g (by rw [h1]; first | rfl | simp [blocksOf,blockOf])).1]; exact h2,h3,h4,h5,RE.mono k _ _ _ h6,RE.mono k _ _ _ h7⟩
 one:=by
  rintro ow w h vs ⟨g,cur,n,h1,_⟩
  rw [h1]; rfl
section
variable {P:Program} {T:List TI} {n:Nat} {w0:Cx} {st:PS} {a:Act} {w:World} {ow:Nat→Bool} {hd:Nat→Value}
theorem SimW.retell (S:SimW n w0 st a w ow hd) {l:Nat} {o o':PO} (hm:st.m[l]?=some o) (hl:o.live=true) (hl':o'.live=true) (h:∀ A,RO A hd w0 ow w (hd l) o→RO A hd w0 ow w (hd l) o'):SimW n w0 ⟨st.f,st.m.set l o'⟩ a w ow hd:=by
 have hal:∀ j,al (st.m.set l o') j=al st.m j:=by
  intro j
  unfold al
  rw [List.getElem?_set]
  by_cases e:l=j
  ·subst e
   rw [if_pos rfl,if_pos (List.getElem?_eq_some_iff.1 hm).1,hm]
   simp [PO.made_of_live hl,PO.made_of_live hl']
  ·rw [if_neg e]
 have hal':al (st.m.set l o')=al st.m:=funext hal
 have back:∀ {j:Nat} {oj:PO},(st.m.set l o')[j]?=some oj→(j=l∧oj=o')∨(j≠l∧st.m[j]?=some oj):=by
  intro j oj hj
  rw [List.getElem?_set] at hj
  by_cases e:l=j
  ·subst e
   rw [if_pos rfl,if_pos (List.getElem?_eq_some_iff.1 hm).1] at hj
   exact .inl ⟨rfl,(Option.some.inj hj).symm⟩
  ·rw [if_neg e] at hj; exact .inr ⟨fun h=>e h.symm,hj⟩
 refine { below:=S.below,fresh:=S.fresh,objs:=fun j oj hj=>?_,dist:=?_,defers:=S.defers,size:=S.size,slots:=fun i=>by show RF (al (st.m.set l o')) _ _ _ _ _; rw [hal']; exact S.slots i }
 ·show RO (al (st.m.set l o')) _ _ _ _ _ _
  rw [hal']
  rcases back hj with ⟨rfl,rfl⟩ | ⟨_,hj⟩
  ·exact h _ (S.objs _ _ hm)
  ·exact S.objs _ _ hj
 ·intro j j' oj oj' b hne hj hj' hlv hlv' hb hb'
  rcases back hj with ⟨e1,e2⟩ | ⟨h1,hj1⟩
  ·rcases back hj' with ⟨e1',_⟩ | ⟨h2,hj2⟩
   ·exact hne (e1.trans e1'.symm)
   ·subst e1; subst e2
    exact S.dist _ _ _ _ b hne hm hj2 hl hlv' hb hb'
  ·rcases back hj' with ⟨e1',e2'⟩ | ⟨h2,hj2⟩
   ·subst e1'; subst e2'
    exact S.dist _ _ _ _ b hne hj1 hm hlv hl hb hb'
   ·exact S.dist _ _ _ _ b hne hj1 hj2 hlv hlv' hb hb'
theorem rowC_RO {A:Nat→Bool} {c:Cx} {h:Value} {e s C:Nat} {xs:List PV} (hr:RO A hd c ow w h (.cu (rowC e s C xs) [])):RO A hd c ow w h (.row e s xs)∧capOf h=C:=by
 obtain ⟨h1,vs,_,cells,h2,h3,h4⟩:=hr
 exact ⟨⟨cells,h2,h1,h3⟩,h4⟩
theorem row_ROC {A:Nat→Bool} {c:Cx} {h:Value} {e s:Nat} {xs:List PV} (hr:RO A hd c ow w h (.row e s xs)):RO A hd c ow w h (.cu (rowC e s (capOf h) xs) []):=by
 obtain ⟨cells,h1,h2,h3⟩:=hr
 exact ⟨h2,[],by simp [RFL],cells,h1,h3,rfl⟩
theorem rowC_cap {A:Nat→Bool} {c:Cx} {h:Value} {e s C:Nat} {xs:List PV} (hr:RO A hd c ow w h (.cu (rowC e s C xs) [])):∃ ad,h=.slice ad xs.length C∧xs.length≤C∧C≤maxLen:=by
 obtain ⟨h1,vs,_,cells,⟨h2,h2'⟩,h3,h4⟩:=hr
 rcases h2' with ⟨q1,q2⟩ | ⟨g,cap,cur,q1,q2,q3,q4,q5,_⟩
 ·subst q1
  simp [capOf] at h4; subst h4
  exact ⟨none,by rw [q2],by omega,by simp [maxLen]⟩
 ·subst q1
  simp [capOf] at h4; subst h4
  exact ⟨_,rfl,q4,q5⟩
theorem updM_over:∀ (U:List (Nat×PO)) (m:List PO) (l:Nat) (o:PO),(∃ q∈U,q.1=l)→updM (m.set l o) U=updM m U
 | [],m,l,o,h=>by simp at h
 | (k,x)::U,m,l,o,h=>by
  simp only [updM]
  by_cases e:k=l
  ·subst e
   rw [List.set_set]
  ·rw [List.set_comm _ _ (fun h=>e h.symm)]
   refine updM_over U _ l o ?_
   obtain ⟨q,hq,rfl⟩:=h
   rcases List.mem_cons.1 hq with rfl | hq
   ·exact absurd rfl e
   ·exact ⟨q,hq,rfl⟩
theorem ext_forget {op:Op} {vs:List FV} {m0 U:List (Nat×PO)} {r:FV} {l e s C:Nat} {xs:List PV} (h:Ext P T op vs ((l,.row e s xs)::m0) r U) (hU:∃ q∈U,q.1=l) (hl:∀ q∈m0,q.1≠l):Ext P T op vs ((l,.cu (rowC e s C xs) [])::m0) r U:=by
 intro n w0 st a w o hT hS ho hn hv hm K Q hK
 obtain ⟨ow,hd,hold,S⟩:=hS
 have hml:=hm (l,.cu (rowC e s C xs) []) (by simp)
 simp only at hml
 have S':=S.retell (o':=.row e s xs) hml rfl rfl (fun A h=>(rowC_RO h).1)
 refine h n w0 ⟨st.f,st.m.set l (.row e s xs)⟩ a w o hT ⟨ow,hd,hold,S'⟩ ho hn hv (fun q hq=>?_) K Q (fun a' w' h'=>hK a' w' ?_)
 ·rcases List.mem_cons.1 hq with rfl | hq
  ·show (st.m.set l _)[l]?=_
   rw [List.getElem?_set,if_pos rfl,if_pos (List.getElem?_eq_some_iff.1 hml).1]
  ·show (st.m.set l _)[q.1]?=_
   rw [List.getElem?_set,if_neg (fun e=>hl q hq e.symm)]
   exact hm q (List.mem_cons_of_mem _ hq)
 ·simp only [PS.act] at h' ⊢
  rw [updM_over U st.m l _ hU] at h'
  exact h'
theorem retH_cap {f:FuncId} {args:List FV} {e s:Nat} {xs:List PV} {r:FV} {m':List PO} (hf:FnOk P f) (h:∀ C,xs.length≤C→C≤maxLen→RetH P f args [.cu (rowC e s C xs) []] r m'):RetH P f args [.row e s xs] r m':=by
 refine ⟨hf,fun c hd vs S hv=>?_⟩
 have S':SimH c [.cu (rowC e s (capOf (hd 0)) xs) []] c.w c.ow hd:=by
  have hal:al [PO.cu (rowC e s (capOf (hd 0)) xs) []]=al [PO.row e s xs]:=by
   funext j; cases j <;> rfl
  refine ⟨S.below,S.fresh,fun j o hj=>?_,fun j j' o o' b hne hj hj'=>?_⟩
  ·rw [hal]
   cases j with
   | zero=>simp at hj; subst hj; exact row_ROC (S.objs 0 _ rfl)
   | succ j=>simp at hj
  ·cases j with
   | zero=>cases j' with
    | zero=>exact absurd rfl hne
    | succ j'=>simp at hj'
   | succ j=>simp at hj
 have hcap:=rowC_cap (S'.objs 0 _ rfl)
 obtain ⟨ad,_,h1,h2⟩:=hcap
 have:=(h (capOf (hd 0)) h1 h2).2 c hd vs S' (by
  have hal:al [PO.cu (rowC e s (capOf (hd 0)) xs) []]=al [PO.row e s xs]:=by
   funext j; cases j <;> rfl
  rw [hal]; exact hv)
 refine this.mono fun ee w' ⟨v,ow',hd',e1,e2,e3,e4,e5⟩=>⟨v,ow',hd',e1,e2,e3,fun l hl=>e4 l (by
  have hal:al [PO.cu (rowC e s (capOf (hd 0)) xs) []]=al [PO.row e s xs]:=by
   funext j; cases j <;> rfl
  rw [hal]; exact hl),e5⟩
theorem slice_core (hT:TOk P T) (S:SimW n w0 st a w ow hd) {t e s k C:Nat} {x:Operand} {lo hi:Option Operand} {ad:Option Addr} {i h:Int} (h1:tsl T t=some (e,s)) (hx:a.eval x=.slice ad k C)
  (h4:optInt (ev st.f) 0 lo=some i) (h5:optInt (ev st.f) k hi=some h) (h6:0≤i) (h7:i≤h) (h8:h≤C) (d:Option Nat) (ty:TypeId) (pos:String) (af:Array Edge) (gd:Option (Nat×Bool)) :
  (execOp a.eval ⟨d,.slice t x lo hi none,ty,pos,af,gd⟩).run P w=.ok (.value (.slice (if C=i.toNat then ad else ad.map (·.add (i.toNat*s))) (h.toNat-i.toNat) (C-i.toNat))) w:=by
 obtain ⟨hu,hs⟩:=tsl_und hT h1
 have hb:=sliceBounds_opt (P:=P) (w:=w) S h4 h5 h6 h7 h8
 simp [execOp,Instr.sliceAt,Instr.slice,run_underlying hu,hx,hb,tsz_run hT hs]
theorem ext_part {vs:List FV} {t e s l k C:Nat} {x:Operand} {lo hi:Option Operand} {o o':PO} {fx:FV} {i h:Int} (h1:tsl T t=some (e,s)) (hlive:o.live=true) (hlive':o'.live=true)
  (hx:fx=.srf l∨fx=.ssl l 0 k s) (hC:∀ (A:Nat→Bool) (hd:Nat→Value) (w0:Cx) (ow:Nat→Bool) (w:World) (v:Value),RO A hd w0 ow w v o→(∃ ad N,v=.slice ad N C∧(fx=.srf l→N=k)∧k≤C)∧RO A hd w0 ow w v o')
  (h4:∀ ρ,(Op.slice t x lo hi none).operands.toList.map ρ=vs→ρ x=fx∧optInt ρ 0 lo=some i∧optInt ρ k hi=some h) (h6:0≤i) (h7:i≤h) (h8:h≤C) :
  Ext P T (.slice t x lo hi none) vs [(l,o)] (.ssl l i.toNat h.toNat s) [(l,o')]:=by
 intro n w0 st a w oo hT hS ho hn hv hm K Q hK
 obtain ⟨ow,hd,hold,S⟩:=hS
 obtain ⟨d,op,ty,pos,af,gd⟩:=oo
 simp only at ho hn hK
 subst ho
 obtain ⟨q1,q2,q3⟩:=h4 _ hv
 have hml:=hm (l,o) (by simp)
 simp only at hml
 obtain ⟨⟨ad,N,hh,hN,hkC⟩,_⟩:=hC _ _ _ _ _ _ (S.objs l _ hml)
 have hxv:=S.eval x
 rw [q1] at hxv
 obtain ⟨hA,hxe⟩:al st.m l=true∧a.eval x=.slice ad k C:=by
  rcases hx with hx | hx
  ·rw [hx] at hxv
   simp only [RF] at hxv
   exact ⟨hxv.1,by rw [hxv.2.1,hh,hN hx]⟩
  ·rw [hx] at hxv
   simp only [RF] at hxv
   obtain ⟨r1,ad',N',c',r2,r3,r4,r5⟩:=hxv
   rw [hh] at r2
   simp at r2
   obtain ⟨rfl,rfl,rfl⟩:=r2
   refine ⟨r1,?_⟩
   rw [r5]
   have had:(if C=0 then ad else ad.map (·.add (0*s)))=ad:=by
    split
    ·rfl
    ·cases ad with
     | none=>rfl
     | some p=>simp [Addr.add]
   rw [had,Nat.sub_zero,Nat.sub_zero]
 have hrun:=slice_core hT S h1 hxe q2 q3 h6 h7 h8 d ty pos af gd
 have S':=S.retell (o':=o') hml hlive hlive' (fun A h=>(hC _ _ _ _ _ _ h).2)
 refine wp_val hrun (hK _ _ ⟨ow,hd,hold,S'.put hn (x:=.ssl l i.toNat h.toNat s) ?_⟩)
 simp only [RF]
 refine ⟨?_,ad,N,C,hh,by omega,by omega,rfl⟩
 show al (st.m.set l o') l=true
 rw [al_set_same (List.getElem?_eq_some_iff.1 hml).1]
 exact PO.made_of_live hlive'
variable {α:Type} {f:α→PV} {L Y Z:List α} {t t' e s l nl i j k m C:Nat} {A B:Int} {ka kb:IntKind} {x y lo hi:Operand} {ti:TI}
theorem yc10 (h:tsl T t=some (e,s)) (c:0≤A∧A≤L.length) (hC:L.length≤C):Ext P T (.slice t x (some lo) none none) [.srf l,.d (.v (.int ka A))] [(l,.cu (rowC e s C (L.map f)) [])] (.ssl l A.toNat L.length s) [(l,.cu (rowC e s C (L.map f)) [])]:=by
 have:=ext_part (P:=P) (T:=T) (x:=x) (lo:=some lo) (hi:=none) (vs:=[.srf l,.d (.v (.int ka A))]) (i:=A) (h:=(L.length:Int)) (o:=.cu (rowC e s C (L.map f)) []) (o':=.cu (rowC e s C (L.map f)) []) (k:=L.length) (C:=C) h rfl rfl (.inl rfl)
  (fun A hd w0 ow w v hr=>⟨by obtain ⟨ad,e,_⟩:=rowC_cap hr; exact ⟨ad,_,e,fun _=>by simp,hC⟩,hr⟩)
  (fun ρ hv=>by simp [Op.operands] at hv; exact ⟨hv.1,by simp [optInt,hv.2],by simp [optInt]⟩) c.1 c.2 (by omega)
 simpa using this
theorem yc01 (h:tsl T t=some (e,s)) (c:0≤B∧B≤L.length) (hC:L.length≤C):Ext P T (.slice t x none (some hi) none) [.srf l,.d (.v (.int kb B))] [(l,.cu (rowC e s C (L.map f)) [])] (.ssl l 0 B.toNat s) [(l,.cu (rowC e s C (L.map f)) [])]:=by
 have:=ext_part (P:=P) (T:=T) (x:=x) (lo:=none) (hi:=some hi) (vs:=[.srf l,.d (.v (.int kb B))]) (i:=0) (h:=B) (o:=.cu (rowC e s C (L.map f)) []) (o':=.cu (rowC e s C (L.map f)) []) (k:=L.length) (C:=C) h rfl rfl (.inl rfl)
  (fun A hd w0 ow w v hr=>⟨by obtain ⟨ad,e,_⟩:=rowC_cap hr; exact ⟨ad,_,e,fun _=>by simp,hC⟩,hr⟩)
  (fun ρ hv=>by simp [Op.operands] at hv; exact ⟨hv.1,rfl,by simp [optInt,hv.2]⟩) (by omega) c.1 (by omega)
 simpa using this
theorem rowC_up {A:Nat→Bool} {c:Cx} {h:Value} {xs:List PV} (hr:RO A hd c ow w h (.cu (rowC e s C xs) [])) (hm:xs.length+m≤C) (h0:0<m):RO A hd c ow w h (.cu (rowH e s C xs m []) []):=by
 obtain ⟨h1,vs,h1',cells,⟨h2,h2'⟩,h3,h4⟩:=hr
 rcases h2' with ⟨q1,q2⟩ | ⟨g,cap,cur,q1,q2,q3,q4,q5,q6,q7⟩
 ·subst q1; simp [capOf] at h4; omega
 ·subst q1
  simp [capOf] at h4; subst h4
  exact ⟨h1,vs,h1',g,cur,_,rfl,q3,q5,q6,by simpa using hm,by rw [q7]; exact h3,by simp [RE]⟩
theorem ycup (h:tsl T t=some (e,s)) (h0:0<m) (c:L.length+m≤C) (hB:B=((L.length+m:Nat):Int)):Ext P T (.slice t x none (some hi) none) [.srf l,.d (.v (.int kb B))] [(l,.cu (rowC e s C (L.map f)) [])] (.ssl l 0 (L.length+m) s) [(l,.cu (rowH e s C (L.map f) m []) [])]:=by
 have:=ext_part (P:=P) (T:=T) (x:=x) (lo:=none) (hi:=some hi) (vs:=[.srf l,.d (.v (.int kb B))]) (i:=0) (h:=B) (o:=.cu (rowC e s C (L.map f)) []) (o':=.cu (rowH e s C (L.map f) m []) []) (k:=L.length) (C:=C) h rfl rfl (.inl rfl)
  (fun A hd w0 ow w v hr=>⟨by obtain ⟨ad,e,_⟩:=rowC_cap hr; exact ⟨ad,_,e,fun _=>by simp,by omega⟩,rowC_up hr (by simpa using c) h0⟩)
  (fun ρ hv=>by simp [Op.operands] at hv; exact ⟨hv.1,rfl,by simp [optInt,hv.2]⟩) (by omega) (by omega) (by omega)
 rw [hB,Int.toNat_natCast] at this
 simpa [hB] using this
theorem rowH_cap {A:Nat→Bool} {c:Cx} {h:Value} {xs ys:List PV} (hr:RO A hd c ow w h (.cu (rowH e s C xs m ys) [])):∃ ad N,h=.slice ad N C∧xs.length+m+ys.length≤C:=by
 obtain ⟨h1,vs,h1',g,cur,N,q1,q2,q3,q4,q5,_⟩:=hr
 exact ⟨_,N,q1,q5⟩
theorem yh10 (h:tsl T t=some (e,s)) (hk:k=L.length+m+Y.length) (c:0≤A∧A≤k):Ext P T (.slice t x (some lo) none none) [.ssl l 0 k s,.d (.v (.int ka A))] [(l,.cu (rowH e s C (L.map f) m (Y.map f)) [])] (.ssl l A.toNat k s) [(l,.cu (rowH e s C (L.map f) m (Y.map f)) [])]:=by
 intro n w0 st a w oo hT hS ho hn hv hm K Q hK
 obtain ⟨ow,hd,hold,S⟩:=hS
 have hml:=hm (l,.cu (rowH e s C (L.map f) m (Y.map f)) []) (by simp)
 simp only at hml
 obtain ⟨ad,N,hh,hle⟩:=rowH_cap (S.objs l _ hml)
 simp at hle
 have:=ext_part (P:=P) (T:=T) (x:=x) (lo:=some lo) (hi:=none) (vs:=[.ssl l 0 k s,.d (.v (.int ka A))]) (i:=A) (h:=(k:Int)) (o:=.cu (rowH e s C (L.map f) m (Y.map f)) []) (o':=.cu (rowH e s C (L.map f) m (Y.map f)) []) (k:=k) (C:=C) h rfl rfl (.inr rfl)
  (fun A hd w0 ow w v hr=>⟨by obtain ⟨ad,N,e,_⟩:=rowH_cap hr; exact ⟨ad,N,e,⟨fun h=>(by cases h),by omega⟩⟩,hr⟩)
  (fun ρ hv=>by simp [Op.operands] at hv; exact ⟨hv.1,by simp [optInt,hv.2],by simp [optInt]⟩) c.1 c.2 (by omega)
 rw [Int.toNat_natCast] at this
 exact this n w0 st a w oo hT ⟨ow,hd,hold,S⟩ ho hn hv hm K Q hK
theorem ycap (h:tsl T t=some (e,s)):Ext P T (.call ⟨.builtin .cap,#[x],#[t]⟩) [.srf l] [(l,.cu (rowC e s C (L.map f)) [])] (.d (.v (.int .i64 (C:Int)))) []:=by
 intro n w0 st a w oo hT hS ho hn hv hm K Q hK
 obtain ⟨ow,hd,hold,S⟩:=hS
 obtain ⟨d,op,ty,pos,af,gd⟩:=oo
 simp only at ho hn hK
 subst ho
 simp [Op.operands,Call.operands] at hv
 have hml:=hm (l,.cu (rowC e s C (L.map f)) []) (by simp)
 simp only at hml
 obtain ⟨ad,hh,_,hC⟩:=rowC_cap (S.objs l _ hml)
 have hx:=S.eval x
 rw [hv] at hx
 simp only [RF] at hx
 have hxe:a.eval x=.slice ad (L.map f).length C:=by rw [hx.2.1,hh]
 have hrun:(execOp a.eval ⟨d,.call ⟨.builtin .cap,#[x],#[t]⟩,ty,pos,af,gd⟩).run P w=.ok (.value (.int .i64 (C:Int))) w:=by
  simp [execOp,resolve,invoke,builtin,hxe,Builtin.cap_,run_underlying (tsl_und hT h).1,goInt]
 exact wp_val hrun (hK _ _ ⟨ow,hd,hold,S.put hn (x:=.d (.v (.int .i64 (C:Int)))) (by simp only [RF,R]; exact ⟨trivial,rfl⟩)⟩)
theorem ylen (h:tsl T t=some (e,s)):Ext P T (.call ⟨.builtin .len,#[x],#[t]⟩) [.srf l] [(l,.cu (rowC e s C (L.map f)) [])] (.d (.v (.int .i64 (L.length:Int)))) []:=by
 intro n w0 st a w oo hT hS ho hn hv hm K Q hK
 obtain ⟨ow,hd,hold,S⟩:=hS
 obtain ⟨d,op,ty,pos,af,gd⟩:=oo
 simp only at ho hn hK
 subst ho
 simp [Op.operands,Call.operands] at hv
 have hml:=hm (l,.cu (rowC e s C (L.map f)) []) (by simp)
 simp only at hml
 obtain ⟨ad,hh,_,hC⟩:=rowC_cap (S.objs l _ hml)
 have hx:=S.eval x
 rw [hv] at hx
 simp only [RF] at hx
 have hxe:a.eval x=.slice ad L.length C:=by rw [hx.2.1,hh]; simp
 have hrun:(execOp a.eval ⟨d,.call ⟨.builtin .len,#[x],#[t]⟩,ty,pos,af,gd⟩).run P w=.ok (.value (.int .i64 (L.length:Int))) w:=by
  simp [execOp,resolve,invoke,builtin,hxe,Builtin.len_,run_underlying (tsl_und hT h).1,goInt]
 exact wp_val hrun (hK _ _ ⟨ow,hd,hold,S.put hn (x:=.d (.v (.int .i64 (L.length:Int)))) (by simp only [RF,R]; exact ⟨trivial,rfl⟩)⟩)
theorem ymv (hne:l≠nl):Ext P T (.move x) [.srf l] [(l,.cu (rowC e s C (L.map f)) []),(nl,.free)] (.srf nl) [(l,.none),(nl,.row e s (L.map f))]:=by
 refine ext_forget ?_ ⟨(l,.none),by simp,rfl⟩ (fun q hq=>by simp at hq; subst hq; exact fun h=>hne h.symm)
 intro n w0 st a w oo hT hS ho hn hv hm K Q hK
 obtain ⟨ow,hd,hold,S⟩:=hS
 obtain ⟨d,op,ty,pos,af,gd⟩:=oo
 simp only at ho hn hK
 subst ho
 simp [Op.operands] at hv
 have hml:=hm (l,.row e s (L.map f)) (by simp)
 have hnl:=hm (nl,.free) (by simp)
 simp only at hml hnl
 have hx:=S.eval x
 rw [hv] at hx
 simp only [RF] at hx
 obtain ⟨cells,g1,g2,g3⟩:=S.objs l _ hml
 have hsl:∃ ad n c,hd l=.slice ad n c:=by
  rcases g1.2 with ⟨q,_⟩ | ⟨g,cap,cur,q,_⟩
  ·exact ⟨_,_,_,q⟩
  ·exact ⟨_,_,_,q⟩
 obtain ⟨hd',q1,q2,q3⟩:=S.rerow hml hnl (v':=hd l) (ys:=L.map f) (cells:=cells) g1 (fun b hb=>hb) g3 hsl
 have hrun:(execOp a.eval ⟨d,.move x,ty,pos,af,gd⟩).run P w=.ok (.value (hd l)) w:=by simp [execOp,hx.2.1]
 unfold Oper.wp
 rw [hrun]
 exact hK _ _ ⟨ow,hd',hold,q2.put hn q3⟩
end
end Go.Proofs.YtofjjaagjkbeaaaGreat.pv
namespace Go.Proofs.YtofjjaagjkbeaaaGreat.pv
set_option linter.all false
open Go.RowKit
section
variable {P:Program} {T:List TI} {n:Nat} {w0:Cx} {st:PS} {a:Act} {w:World} {ow:Nat→Bool} {hd:Nat→Value}
theorem wp_val' {o:Oper} {a:Act} {w w':World} {v:Value} {K:Act→World→Prop} {Q:Exit→Act→World→Prop} (hrun:(execOp a.eval o).run P w=.ok (.value v) w') (h:K (a.put o.dst v) w'):o.wp P a w K Q:=by
 unfold Oper.wp; rw [hrun]; exact h
theorem putCells (S:SimW n w0 st a w ow hd) {l b e N C p:Nat} {o o':PO} {cur:Array Value} {news:List Value} (hm:st.m[l]?=some o) (hl:o.live=true) (hl':o'.live=true) (hh:hd l=.slice (some ⟨b,0,none⟩) N C) (hb:w.heap[b]?=some (.cells cur e (0,0))) (hp:p+news.length≤cur.size)
  (ho':∀ (cur':Array Value) (w':World),Kp ow w ow w'→w'.heap[b]?=some (.cells cur' e (0,0))→cur'.size=cur.size→cur'.toList=cur.toList.take p++news++cur.toList.drop (p+news.length)→w0.New b→ow b=true→RO (al (st.m.set l o')) hd w0 ow w' (hd l) o') :
  w.there b p news.length∧SimW n w0 ⟨st.f,st.m.set l o'⟩ a (w.setCells b p news) ow hd:=by
 obtain ⟨_,e3,e4⟩:=(S.objs l o hm).lt hl b (by rw [hh]; first | rfl | simp [blocksOf,blockOf])
 obtain ⟨cur',q1,q2,q3⟩:=setCells_block b e (0,0) news p w cur hb hp
 have ho:=fun j hj=>setCells_other b news p w j hj
 have hkp:Kp ow w ow (w.setCells b p news):=⟨by rw [setCells_size]; exact Nat.le_refl _,fun _ _ h=>h,fun j _ hj=>ho j (fun e=>by rw [e,e4] at hj; cases hj)⟩
 exact ⟨there_of_block hb hp,S.set hm hl hl' (b:=b) (by rw [hh]; first | rfl | simp [blocksOf,blockOf]) ho (setCells_size b _ _ w) (Kt.of_one (setCells_below b _ (Nat.le_refl _) _ _ w) e3 ho) (ho' cur' _ hkp q1 q3 q2 e3 e4)⟩
theorem run_copy_any {t t' e s:Nat} {i':TypeInfo} (hu:P.underlying t=some (.slice e)) (e1:P.info? e=some i') (hsi:i'.size=s) {b p dl dc m sl sc:Nat} {A:Addr} {news:List Value} (hm:Nat.min sl dl=m) (hnl:news.length=m*s)
  (hnews:∀ k u,news[k]?=some u→w.cell? (A.add k)=some u) (hth:w.there b p news.length) (h1:∀ v∈news,v.oneCell'=true) (ty:TypeId) :
  (Builtin.copy_ #[t,t'] ty #[.slice (some ⟨b,p,none⟩) dl dc,.slice (some A) sl sc]).run P w=.ok (.int .i64 (m:Nat)) (w.setCells b p news):=by
 have f1:=run_firstCells_some (P:=P) w i'.size m A sl sc news (by rw [hnl,hsi]) hnews
 have hst:=run_storeCells_cells (P:=P) b p news 0 w (fun k hk=>by rw [Nat.add_zero]; exact (hth k hk).1) (fun k hk=>by rw [Nat.add_zero]; exact (hth k hk).2) h1
 rw [Nat.add_zero] at hst
 simp [Builtin.copy_,run_underlying hu,Builtin.lenOf,sizeOf,typeInfo,e1,hm,f1,goInt,hst]
variable {α:Type} {f:α→PV} {L Y Z:List α} {t t' e s l nl i j k m C:Nat} {x y:Operand} {ti:TI}
theorem ycpS (h1:tsl T t=some (e,s)) (h2:T[e]?=some ti) (hi:i≤L.length) :
  Ext P T (.call ⟨.builtin .copy,#[x,y],#[t,t']⟩) [.ssl l (i+m) (L.length+m) s,.ssl l i (L.length+m) s] [(l,.cu (rowH e s C (L.map f) m []) [])] (.d (.v (.int .i64 ((L.length-i:Nat):Int)))) [(l,.cu (rowH e s C ((L.take i).map f) m ((L.drop i).map f)) [])]:=by
 intro n w0 st a w oo hT hS ho hn hv hm K Q hK
 obtain ⟨ow,hd,hold,S⟩:=hS
 obtain ⟨d,op,ty,pos,af,gd⟩:=oo
 simp only at ho hn hK
 subst ho
 simp [Op.operands,Call.operands] at hv
 obtain ⟨hv1,hv2⟩:=hv
 have hml:=hm (l,.cu (rowH e s C (L.map f) m []) []) (by simp)
 simp only at hml
 obtain ⟨i',dd,e1,e2,e3,e4,e5,e6⟩:=hT.info h2
 obtain ⟨hu,hs⟩:=tsl_und hT h1
 have hsi:=tsz_info hT hs
 rw [e1] at hsi
 simp at hsi
 obtain ⟨g1,vs,g1',g,cur,N,q1,q2,q3,q4,q5,q6,q7⟩:=S.objs l _ hml
 simp only [List.length_map,List.length_nil,Nat.add_zero] at q5 q6
 have hx:=S.eval x
 have hy:=S.eval y
 rw [hv1] at hx
 rw [hv2] at hy
 simp only [RF] at hx hy
 obtain ⟨hA,ad,N',C',x1,x2,x3,x4⟩:=hx
 obtain ⟨_,ad',N'',C'',y1,y2,y3,y4⟩:=hy
 rw [q1] at x1 y1
 simp at x1 y1
 obtain ⟨rfl,rfl,rfl⟩:=x1
 obtain ⟨rfl,rfl,rfl⟩:=y1
 have hmin:Nat.min (L.length+m-i) (L.length+m-(i+m))=L.length-i:=by
  rw [show L.length+m-(i+m)=L.length-i by omega]; exact Nat.min_eq_right (by omega)
 have hcl:cur.toList.length=C*s:=by simpa using q4
 have hmul:∀ p,p≤C→p*s≤C*s:=fun p hp=>Nat.mul_le_mul_right _ hp
 have hnews:RE ow w s ((L.map f).drop i) ((cur.toList.take (L.length*s)).drop (i*s)):=RE.drop i q6
 have hnl:((cur.toList.take (L.length*s)).drop (i*s)).length=(L.length-i)*s:=by rw [hnews.length]; simp
 have hcell:∀ k u,((cur.toList.take (L.length*s)).drop (i*s))[k]?=some u→w.cell? ⟨g,i*s+k,none⟩=some u:=by
  intro k u hk
  rw [List.getElem?_drop,List.getElem?_take] at hk
  split at hk
  ·unfold World.cell?
   simp only [q2]
   simpa using hk
  ·cases hk
 have hbnd:(i+m)*s+(L.length-i)*s≤C*s:=by rw [← Nat.add_mul]; exact hmul _ (by omega)
 obtain ⟨p1,S'⟩:=putCells S (o':=.cu (rowH e s C ((L.take i).map f) m ((L.drop i).map f)) []) (p:=(i+m)*s) (news:=(cur.toList.take (L.length*s)).drop (i*s)) hml rfl rfl q1 q2 (by rw [hnl,q4]; exact hbnd)
  (fun cur' w' kp b1 b2 b3 b4 b5=>by
   have e1:i*s≤(i+m)*s:=Nat.mul_le_mul_right _ (by omega)
   have hl1:(cur.toList.take ((i+m)*s)).length=(i+m)*s:=by rw [List.length_take,hcl]; exact Nat.min_eq_left (hmul _ (by omega))
   refine ⟨fun b hb=>by rw [q1] at hb; simp [blocksOf,blockOf] at hb; rw [hb]; exact ⟨b4,b5⟩,[],by simp [RFL],g,cur',N,q1,b1,q3,by rw [b2]; exact q4,by simp; omega,?_,?_⟩
   ·have:cur'.toList.take (((L.take i).map f).length*s)=(cur.toList.take (L.length*s)).take (i*s):=by
     have hli:((L.take i).map f).length=i:=by simp; omega
     rw [hli,b3,List.append_assoc,List.take_append_of_le_length (by rw [hl1]; exact e1),List.take_take,List.take_take,Nat.min_eq_left e1,Nat.min_eq_left (Nat.mul_le_mul_right _ hi)]
    rw [this]
    have:=RE.mono kp _ _ _ (RE.take i q6)
    simpa [List.map_take] using this
   ·have hli:((L.take i).map f).length=i:=by simp; omega
    have hld:((L.drop i).map f).length=L.length-i:=by simp
    rw [hli,hld,b3,List.append_assoc]
    have:((cur.toList.take ((i+m)*s)++((cur.toList.take (L.length*s)).drop (i*s)++cur.toList.drop ((i+m)*s+((cur.toList.take (L.length*s)).drop (i*s)).length))).drop ((i+m)*s)).take ((L.length-i)*s)=(cur.toList.take (L.length*s)).drop (i*s):=by
     rw [List.drop_left' hl1]
     exact List.take_left' hnl
    rw [this]
    have:=RE.mono kp _ _ _ hnews
    simpa [List.map_drop] using this)
 by_cases hz:C=i
 ·-- nothing lies there
  have hL:L.length=i:=by omega
  have hm0:m=0:=by omega
  have hxe:a.eval x=.slice (some ⟨g,0,none⟩) (L.length+m-(i+m)) (C-(i+m)):=by rw [x4,if_pos (by omega)]
  have hye:a.eval y=.slice (some ⟨g,0,none⟩) (L.length+m-i) (C-i):=by rw [y4,if_pos hz]
  have hnil:(cur.toList.take (L.length*s)).drop (i*s)=[]:=List.eq_nil_of_length_eq_zero (by rw [hnl,hL]; simp)
  have hr:=run_copy_any (P:=P) (w:=w) (t':=t') (news:=[]) hu e1 hsi (b:=g) (p:=0) (dl:=L.length+m-(i+m)) (dc:=C-(i+m)) (sl:=L.length+m-i) (sc:=C-i) (A:=⟨g,0,none⟩) hmin (by rw [hL]; simp) (by simp) (fun k hk=>by simp at hk) (by simp) ty
  have hrun:(execOp a.eval ⟨d,.call ⟨.builtin .copy,#[x,y],#[t,t']⟩,ty,pos,af,gd⟩).run P w=.ok (.value (.int .i64 ((L.length-i:Nat):Int))) w:=by
   simp [execOp,resolve,invoke,builtin,hxe,hye,hr,World.setCells]
  rw [hnil] at S'
  exact wp_val hrun (hK _ _ ⟨ow,hd,hold,S'.put hn (x:=.d (.v _)) (by simp only [RF,R]; exact ⟨trivial,rfl⟩)⟩)
 ·by_cases hz2:C=i+m
  ·have hL:L.length-i=0:=by omega
   have hxe:a.eval x=.slice (some ⟨g,0,none⟩) (L.length+m-(i+m)) (C-(i+m)):=by rw [x4,if_pos hz2]
   have hye:a.eval y=.slice (some ⟨g,i*s,none⟩) (L.length+m-i) (C-i):=by rw [y4,if_neg hz,Option.map_some,addr_add0]
   have hnil:(cur.toList.take (L.length*s)).drop (i*s)=[]:=List.eq_nil_of_length_eq_zero (by rw [hnl,hL]; simp)
   have hr:=run_copy_any (P:=P) (w:=w) (t':=t') (news:=[]) hu e1 hsi (b:=g) (p:=0) (dl:=L.length+m-(i+m)) (dc:=C-(i+m)) (sl:=L.length+m-i) (sc:=C-i) (A:=⟨g,i*s,none⟩) hmin (by rw [hL]; simp) (by simp) (fun k hk=>by simp at hk) (by simp) ty
   have hrun:(execOp a.eval ⟨d,.call ⟨.builtin .copy,#[x,y],#[t,t']⟩,ty,pos,af,gd⟩).run P w=.ok (.value (.int .i64 ((L.length-i:Nat):Int))) w:=by
    simp [execOp,resolve,invoke,builtin,hxe,hye,hr,World.setCells]
   rw [hnil] at S'
   exact wp_val hrun (hK _ _ ⟨ow,hd,hold,S'.put hn (x:=.d (.v _)) (by simp only [RF,R]; exact ⟨trivial,rfl⟩)⟩)
  ·have hxe:a.eval x=.slice (some ⟨g,(i+m)*s,none⟩) (L.length+m-(i+m)) (C-(i+m)):=by rw [x4,if_neg hz2,Option.map_some,addr_add0]
   have hye:a.eval y=.slice (some ⟨g,i*s,none⟩) (L.length+m-i) (C-i):=by rw [y4,if_neg hz,Option.map_some,addr_add0]
   have hr:=run_copy_any (P:=P) (w:=w) (t':=t') hu e1 hsi (b:=g) (p:=(i+m)*s) (dl:=L.length+m-(i+m)) (dc:=C-(i+m)) (sl:=L.length+m-i) (sc:=C-i) (A:=⟨g,i*s,none⟩) hmin hnl (fun k u hk=>by rw [addr_add]; exact hcell k u hk) p1 (RE.one hnews) ty
   have hrun:(execOp a.eval ⟨d,.call ⟨.builtin .copy,#[x,y],#[t,t']⟩,ty,pos,af,gd⟩).run P w=.ok (.value (.int .i64 ((L.length-i:Nat):Int))) (w.setCells g ((i+m)*s) ((cur.toList.take (L.length*s)).drop (i*s))):=by
    simp [execOp,resolve,invoke,builtin,hxe,hye,hr]
   exact wp_val' hrun (hK _ _ ⟨ow,hd,hold,S'.put hn (x:=.d (.v _)) (by simp only [RF,R]; exact ⟨trivial,rfl⟩)⟩)
theorem ycpD (h1:tsl T t=some (e,s)) (h2:T[e]?=some ti) (hi:i=L.length) (hk:k=L.length+m+Z.length) (hY:Y.length=m) (hm0:0<m) (hf:∀ x,fits s (f x)=true) :
  Ext P T (.call ⟨.builtin .copy,#[x,y],#[t,t']⟩) [.ssl l i k s,.d (.sl (Y.map f))] [(l,.cu (rowH e s C (L.map f) m (Z.map f)) [])] (.d (.v (.int .i64 (m:Int)))) [(l,.cu (rowH e s C ((L++Y++Z).map f) 0 []) [])]:=by
 intro n w0 st a w oo hT hS ho hn hv hm K Q hK
 obtain ⟨ow,hd,hold,S⟩:=hS
 obtain ⟨d,op,ty,pos,af,gd⟩:=oo
 simp only at ho hn hK
 subst ho
 simp [Op.operands,Call.operands] at hv
 obtain ⟨hv1,hv2⟩:=hv
 have hml:=hm (l,.cu (rowH e s C (L.map f) m (Z.map f)) []) (by simp)
 simp only at hml
 obtain ⟨i',dd,e1,e2,e3,e4,e5,e6⟩:=hT.info h2
 obtain ⟨hu,hs⟩:=tsl_und hT h1
 have hsi:=tsz_info hT hs
 rw [e1] at hsi
 simp at hsi
 obtain ⟨g1,vs,g1',g,cur,N,q1,q2,q3,q4,q5,q6,q7⟩:=S.objs l _ hml
 simp only [List.length_map] at q5 q6 q7
 have hx:=S.eval x
 rw [hv1] at hx
 simp only [RF] at hx
 obtain ⟨hA,ad,N',C',x1,x2,x3,x4⟩:=hx
 rw [q1] at x1
 simp at x1
 obtain ⟨rfl,rfl,rfl⟩:=x1
 obtain ⟨adS,capS,y1,y2⟩:=Src.of_els (s:=s) S (y:=y) (ys:=Y.map f) (by rw [hv2]; exact .sl _) (all_fits hf)
 rw [List.length_map] at y1
 rcases y2 with y2 | ⟨b,off,news,rfl,y3,y4⟩
 ·simp at y2; subst y2; simp at hY; omega
 subst hi
 have hnl:news.length=m*s:=by rw [y4.length,List.length_map,hY]
 have hmin:Nat.min Y.length (k-L.length)=m:=by rw [hY]; exact Nat.min_eq_left (by omega)
 have hcl:cur.toList.length=C*s:=by simpa using q4
 have hmul:∀ p,p≤C→p*s≤C*s:=fun p hp=>Nat.mul_le_mul_right _ hp
 have hb1:=hmul (L.length+m) (by omega)
 rw [Nat.add_mul] at hb1
 obtain ⟨p1,S'⟩:=putCells S (o':=.cu (rowH e s C ((L++Y++Z).map f) 0 []) []) (p:=L.length*s) (news:=news) hml rfl rfl q1 q2 (by rw [hnl,q4]; exact hb1)
  (fun cur' w' kp b1 b2 b3 b4 b5=>by
   have hl1:(cur.toList.take (L.length*s)).length=L.length*s:=by rw [List.length_take,hcl]; exact Nat.min_eq_left (hmul _ (by omega))
   refine ⟨fun b hb=>by rw [q1] at hb; simp [blocksOf,blockOf] at hb; rw [hb]; exact ⟨b4,b5⟩,[],by simp [RFL],g,cur',N,q1,b1,q3,by rw [b2]; exact q4,by simp; omega,?_,by simp [RE]⟩
   have hlen:((L++Y++Z).map f).length=L.length+m+Z.length:=by simp; omega
   have:cur'.toList.take (((L++Y++Z).map f).length*s)=cur.toList.take (L.length*s)++news++(cur.toList.drop ((L.length+m)*s)).take (Z.length*s):=by
    rw [hlen,b3,hnl,← Nat.add_mul,Nat.add_mul (L.length+m)]
    have:(cur.toList.take (L.length*s)++news).length=(L.length+m)*s:=by rw [List.length_append,hl1,hnl,Nat.add_mul]
    rw [List.take_append,List.take_of_length_le (by omega),this,Nat.add_sub_cancel_left]
   rw [this,List.map_append,List.map_append]
   exact RE.mono kp _ _ _ ((RE.append (RE.append q6 y4) q7)))
 have hxe:a.eval x=.slice (some ⟨g,L.length*s,none⟩) (k-L.length) (C-L.length):=by rw [x4,if_neg (by omega),Option.map_some,addr_add0]
 have hr:=run_copy_any (P:=P) (w:=w) (t':=t') hu e1 hsi (b:=g) (p:=L.length*s) (dl:=k-L.length) (dc:=C-L.length) (sl:=Y.length) (sc:=capS) (A:=⟨b,off,none⟩) hmin hnl (fun k u hk=>by rw [addr_add]; exact y3 k u hk) p1 (RE.one y4) ty
 have hrun:(execOp a.eval ⟨d,.call ⟨.builtin .copy,#[x,y],#[t,t']⟩,ty,pos,af,gd⟩).run P w=.ok (.value (.int .i64 (m:Int))) (w.setCells g (L.length*s) news):=by
  simp [execOp,resolve,invoke,builtin,hxe,y1,hr]
 exact wp_val' hrun (hK _ _ ⟨ow,hd,hold,S'.put hn (x:=.d (.v _)) (by simp only [RF,R]; exact ⟨trivial,rfl⟩)⟩)
theorem ymvH (hk:k=L.length):Ext P T (.move x) [.ssl l 0 k s] [(l,.cu (rowH e s C (L.map f) 0 []) []),(nl,.free)] (.srf nl) [(l,.none),(nl,.row e s (L.map f))]:=by
 intro n w0 st a w oo hT hS ho hn hv hm K Q hK
 obtain ⟨ow,hd,hold,S⟩:=hS
 obtain ⟨d,op,ty,pos,af,gd⟩:=oo
 simp only at ho hn hK
 subst ho hk
 simp [Op.operands] at hv
 have hml:=hm (l,.cu (rowH e s C (L.map f) 0 []) []) (by simp)
 have hnl:=hm (nl,.free) (by simp)
 simp only at hml hnl
 obtain ⟨g1,vs,g1',g,cur,N,q1,q2,q3,q4,q5,q6,q7⟩:=S.objs l _ hml
 simp only [List.length_map,List.length_nil,Nat.add_zero] at q5 q6
 have hx:=S.eval x
 rw [hv] at hx
 simp only [RF] at hx
 obtain ⟨hA,ad,N',C',x1,x2,x3,x4⟩:=hx
 rw [q1] at x1
 simp at x1
 obtain ⟨rfl,rfl,rfl⟩:=x1
 have hxe:a.eval x=.slice (some ⟨g,0,none⟩) L.length C:=by rw [x4]; simp [Addr.add]
 have hcl:cur.toList.length=C*s:=by simpa using q4
 have hown:w.ownsRow 0 e s (.slice (some ⟨g,0,none⟩) L.length C) L.length (cur.toList.take (L.length*s)):=by
  refine ⟨by rw [List.length_take,hcl]; exact Nat.min_eq_left (Nat.mul_le_mul_right _ q5),.inr ⟨g,C,cur,rfl,Nat.zero_le _,q2,q5,q3,q4,rfl⟩⟩
 have hne:nl≠l:=by intro e'; subst e'; rw [hml] at hnl; cases hnl
 -- first another account of the object,then the new handle
 have hown0:RO (al st.m) hd w0 ow w (.slice (some ⟨g,0,none⟩) L.length C) (.row e s (L.map f)):=⟨_,by rw [List.length_map]; exact hown,fun b hb=>g1 b (by rw [q1]; simpa [blocksOf,blockOf] using hb),q6⟩
 have S1:=S.kill l
 have hlen:nl<(st.m.set l PO.none).length:=by simp; exact (List.getElem?_eq_some_iff.1 hnl).1
 have hal:al (st.m.set l .none) nl=false:=by rw [al_set_ne hne]; simp [al,hnl,PO.made]
 have S2:=S1.obj (l:=nl) (hv:=.slice (some ⟨g,0,none⟩) L.length C) (o:=.row e s (L.map f)) (Kp.refl _ _) (Kt.refl _ _) S.fresh (.inl hal) rfl
  ⟨_,by rw [List.length_map]; exact hown,fun b hb=>g1 b (by rw [q1]; simpa [blocksOf,blockOf] using hb),q6⟩
  (fun j oj b hne' hj hlv hbk=>by
   obtain ⟨hj',hjl⟩:=kill_live hj hlv
   exact ⟨rfl,rfl,fun _ hb'=>S.dist j l oj _ b hjl hj' hml hlv rfl hbk (by rw [q1]; simpa [blocksOf,blockOf] using hb')⟩)
 have hrun:(execOp a.eval ⟨d,.move x,ty,pos,af,gd⟩).run P w=.ok (.value (.slice (some ⟨g,0,none⟩) L.length C)) w:=by simp [execOp,hxe]
 unfold Oper.wp
 rw [hrun]
 refine hK _ _ ⟨ow,_,hold,S2.put hn (x:=.srf nl) ?_⟩
 simp only [RF]
 exact ⟨by rw [al_set_same hlen]; rfl,by rw [upd_same],by rw [upd_same]; rfl⟩
theorem yapp (hz:ti.zero.length=s) (h:app ti.bytes L Y=some Z) (h1:tsl T t=some (e,s)) (h2:T[e]?=some ti) (hs0:0<s) (hf:∀ x,fits s (f x)=true) (hne:l≠nl) :
  Ext P T (.call ⟨.builtin .append,#[x,y],#[t,t]⟩) [.srf l,.d (.sl (Y.map f))] [(l,.cu (rowC e s C (L.map f)) []),(nl,.free)] (.srf nl) [(l,.none),(nl,.row e s (Z.map f))]:=by
 refine ext_forget ?_ ⟨(l,.none),by simp,rfl⟩ (fun q hq=>by simp at hq; subst hq; exact fun h=>hne h.symm)
 obtain ⟨c1,c2,c3,c4⟩:=app_ob (f:=f) (s:=s) h hf
 rw [← c4]
 refine ext_of0 fun ρ mm hv hm=>?_
 simp [Op.operands,Call.operands] at hv
 have:=PAct0.append (P:=P) (T:=T) (ρ:=ρ) (m:=mm) (nl:=nl) t x y e s ti (L.map f) (Y.map f) [(l,.none)] [l] [] (hm (nl,.free) (by simp)) h1 h2 hz hs0 (by rw [hv.1]; exact .row l _ (hm (l,.row e s (L.map f)) (by simp))) (by rw [hv.2]; exact .sl _) c1 c2 c3
 exact ⟨nl,_,this⟩
theorem yapZ {tn:Nat} {kn kq:IntKind} {z:α} {p:PV} {B:Int} (h1:tsl T t=some (e,s)) (htn:tint T tn=some kn) (h2:T[e]?=some ti) (hz:zeroPV ti=some p) (hzs:ti.zero.length=s) (hs0:0<s) (hp:p=f z) (hB:B=(k:Int)) (hi:i≤L.length) (h0:0<k) (hg:C<i+k) (h63:i+k≤maxLen) (hby:(i+k)*ti.bytes≤140737488355328) (hne:l≠nl) :
  Ext P T (.call ⟨.builtin .append,#[x,y],#[t,tn]⟩) [.ssl l 0 i s,.d (.v (.int kq B))] [(l,.cu (rowC e s C (L.map f)) []),(nl,.free)] (.srf nl) [(nl,.row e s ((L.take i++List.replicate k z).map f))]:=by
 intro n w0 st a w oo hT hS ho hn hv hm K Q hK
 obtain ⟨ow,hd,hold,S⟩:=hS
 obtain ⟨d,op,ty,pos,af,gd⟩:=oo
 simp only at ho hn hK
 subst ho hB
 simp [Op.operands,Call.operands] at hv
 obtain ⟨hv1,hv2⟩:=hv
 have hml:=hm (l,.cu (rowC e s C (L.map f)) []) (by simp)
 have hnl:=hm (nl,.free) (by simp)
 simp only at hml hnl
 obtain ⟨i',zv,u,e1,e2,e3,e4,e5,e6,e7,e8⟩:=zeroPV_spec hT h2 hz
 obtain ⟨hu,hs⟩:=tsl_und hT h1
 have hun:=tint_und hT htn
 have hsi:=tsz_info hT hs
 rw [e1] at hsi
 simp at hsi
 obtain ⟨ey,_⟩:=S.v hv2
 obtain ⟨ad,hh,hC1,hC2⟩:=rowC_cap (S.objs l _ hml)
 obtain ⟨cells,⟨g1,g2⟩,h4,h5⟩:=(rowC_RO (S.objs l _ hml)).1
 have hx:=S.eval x
 rw [hv1] at hx
 simp only [RF] at hx
 obtain ⟨hA,ad',N',C',x1,x2,x3,x4⟩:=hx
 rw [hh] at x1
 simp at x1
 obtain ⟨rfl,rfl,rfl⟩:=x1
 have hxe:a.eval x=.slice ad i C:=by
  rw [x4]
  have had:(if C=0 then ad else ad.map (·.add (0*s)))=ad:=by
   split
   ·rfl
   ·cases ad with
    | none=>rfl
    | some p=>simp [Addr.add]
  rw [had,Nat.sub_zero,Nat.sub_zero]
 have hzs':zv.cells.size=s:=by rw [e5,hzs]
 have hzc:∀ n:Nat,(Builtin.zeroCells zv.cells n).toList=(List.replicate n u.cells.toList).flatten:=by
  intro n
  have:=made_cells zv.cells (by omega) n
  rw [e6,← this]
  simp [Builtin.zeroCells,madeCells]
 have hRE1:=RE.take i h5
 have hRE2:RE ow w s (List.replicate k p) (Builtin.zeroCells zv.cells k).toList:=by
  rw [hzc]; exact RE_zero (by rw [e6]; exact hzs') e7 (e8 _ _) _
 have hol:(cells.take (i*s)).length=i*s:=by rw [hRE1.length,List.length_take,List.length_map,Nat.min_eq_left hi]
 have hfirst:(Builtin.firstCells i'.size i (.slice ad i C)).run P w.drew=.ok (cells.take (i*s)).toArray w.drew:=by
  rcases g2 with ⟨q1,q2⟩ | ⟨g,cap',cur,q1,q2,q3,q4,q5,q6,q7⟩
  ·rw [hh] at q1
   simp at q1
   obtain ⟨rfl,_,rfl⟩:=q1
   have:i=0:=by simp at q2; subst q2; simp at hi; omega
   subst this
   simp [Builtin.firstCells]
  ·rw [hh] at q1
   simp at q1
   obtain ⟨rfl,rfl⟩:=q1
   refine run_firstCells_some (P:=P) w.drew i'.size i ⟨g,0,none⟩ i C _ (by rw [hol,hsi]) (fun j v hj=>?_)
   rw [addr_add0]
   rw [List.getElem?_take] at hj
   split at hj
   ·rw [← q7,List.getElem?_take] at hj
    split at hj
    ·show World.cell? w.drew _=_
     unfold World.cell?
     have:w.drew.heap=w.heap:=rfl
     simp only [this,q3]
     simpa using hj
    ·cases hj
   ·cases hj
 have hfit:Builtin.nextslicecap (i+k) C*i'.bytes≤281474976710656:=growslice_fits hg (by rw [e4]; exact hby)
 have h48:k*i'.bytes≤281474976710656:=by
  rw [e4]
  have:k*ti.bytes≤(i+k)*ti.bytes:=Nat.mul_le_mul_right _ (by omega)
  omega
 have hrun0:=Lib.run_append_grow_zeros (P:=P) w t tn ty e i' zv kq kn hu hun e1 e2 ad i C (cells.take (i*s)) hfirst k h0 (by omega) hg (by unfold maxLen at h63; omega) h48 hfit
 have hge:=grownCap_ge w (i+k) C e
 have hcm:grownCap w (i+k) C e≤maxLen:=grownCap_le_maxLen w (i+k) C e h63
 have hrun:(execOp a.eval ⟨d,.call ⟨.builtin .append,#[x,y],#[t,tn]⟩,ty,pos,af,gd⟩).run P w=.ok (.value (.slice (some ⟨w.heap.size,0,none⟩) (i+k) (grownCap w (i+k) C e))) (w.drew.alloc (.cells ((cells.take (i*s)).toArray++Builtin.zeroCells zv.cells k++Builtin.zeroCells zv.cells (grownCap w (i+k) C e-(i+k))) e)):=by
  simp [execOp,resolve,invoke,builtin,hxe,ey,hrun0]
 have hzl:(Builtin.zeroCells zv.cells k).toList.length=k*s:=by rw [Array.length_toList,size_zeroCells,hzs']
 subst hp
 obtain ⟨ow',hd',f1,f2,f3⟩:=S.newRow hnl (v':=.slice (some ⟨w.heap.size,0,none⟩) (i+k) (grownCap w (i+k) C e)) (w':=w.drew.alloc (.cells ((cells.take (i*s)).toArray++Builtin.zeroCells zv.cells k++Builtin.zeroCells zv.cells (grownCap w (i+k) C e-(i+k))) e)) (e:=e) (s:=s) (xs:=(L.take i++List.replicate k z).map f) (cells:=cells.take (i*s)++(Builtin.zeroCells zv.cells k).toList)
  (by
   have hlen:((L.take i++List.replicate k z).map f).length=i+k:=by simp; omega
   rw [hlen]
   have hl2:(cells.take (i*s)++(Builtin.zeroCells zv.cells k).toList).length=(i+k)*s:=by rw [List.length_append,hol,hzl,Nat.add_mul]
   refine ⟨hl2,.inr ⟨w.heap.size,_,_,rfl,Nat.zero_le _,heap_alloc_new w.drew _,hge,hcm,?_,?_⟩⟩
   ·simp only [Array.size_append,List.size_toArray,size_zeroCells,hzs',hol,← Nat.add_mul]
    congr 1
    omega
   ·simp only [Array.toList_append]
    rw [← hl2]; exact List.take_left)
  ⟨rfl,rfl,rfl,by simp,fun k hk _=>heap_alloc_old w.drew _ hk⟩ (fun b hb=>by simp [blocksOf,blockOf] at hb; subst hb; simp) (by
   rw [List.map_append,List.map_take,List.map_replicate]
   exact RE.append hRE1 hRE2) ⟨_,_,_,rfl⟩
 unfold Oper.wp
 rw [hrun]
 exact hK _ _ ⟨ow',hd',hold.step fun b hb _=>f1.1 b (Nat.lt_of_lt_of_le hb S.below.size),f2.put hn f3⟩
theorem ycpC {l' p q:Nat} (h1:tsl T t=some (e,s)) (h2:T[e]?=some ti) (hj:j≤L.length) (hq:q≤Y.length) :
  Ext P T (.call ⟨.builtin .copy,#[x,y],#[t,t']⟩) [.ssl l i j s,.ssl l' p q s] [(l,.row e s (L.map f)),(l',.cu (rowC e s C (Y.map f)) [])] (.d (.v (.int .i64 (Nat.min ((Y.take q).drop p).length (j-i):Nat)))) [(l,.row e s ((cpyR L i j ((Y.take q).drop p)).map f))]:=by
 have:=ext_copy (P:=P) (T:=T) (t':=t') (x:=x) (y:=y) (l:=l) (i:=i) (j:=j) (xs:=L.map f) (ys:=((Y.take q).drop p).map f) (m0:=[(l,.row e s (L.map f)),(l',.cu (rowC e s C (Y.map f)) [])]) h1 h2 (by simpa using hj) (by simp) (.ssl l' p q s) (.inl rfl)
  (fun n w0 st a w ow hd S hy hm=>by
   have hml:=hm (l',.cu (rowC e s C (Y.map f)) []) (by simp)
   simp only at hml
   have S':=S.retell (o':=.row e s (Y.map f)) hml rfl rfl (fun A h=>(rowC_RO h).1)
   have:=Src.of_ssl S' (e:=e) hy (by rw [List.getElem?_set,if_pos rfl,if_pos (List.getElem?_eq_some_iff.1 hml).1]) (by simpa using hq)
   simpa [List.map_take,List.map_drop] using this)
 rw [List.length_map] at this
 simpa only [cpyR,List.map_append,List.map_take,List.map_drop] using this
theorem yh10q {q:Nat} {A:Int} {ka:IntKind} {lo:Operand} (h:tsl T t=some (e,s)) (hk:k=L.length+m+Z.length) (hA:A=(q:Int)) (c:q≤k):Ext P T (.slice t x (some lo) none none) [.ssl l 0 k s,.d (.v (.int ka A))] [(l,.cu (rowH e s C (L.map f) m (Z.map f)) [])] (.ssl l q k s) [(l,.cu (rowH e s C (L.map f) m (Z.map f)) [])]:=by
 subst hA
 have:=yh10 (P:=P) (T:=T) (x:=x) (lo:=lo) (ka:=ka) (f:=f) (L:=L) (Y:=Z) (m:=m) (C:=C) (l:=l) (A:=(q:Int)) h hk ⟨by omega,by omega⟩
 simpa using this
end
theorem run_overlaps_own {P:Program} (w:World) (tS tR e:TypeId) (ht:P.underlying tS=some (.slice e)) (size:Nat) (hz:∀ w,(Go.sizeOf e).run P w=.ok size w)
  (a b:Addr) (la ca lb cb:Nat) (hne:a.block≠b.block) (tA tB:TypeId) (kA kB:Nat) (hsa:w.shape? a.block=some (tA,kA)) (hsb:w.shape? b.block=some (tB,kB)) (hkA:kA≠0) (hfb:w.frozen? b=false) (hfe:w.frozen? { block:=b.block,off:=kB }=false) :
  (Extern.SlicesOverlaps.overlaps #[tS,tS] #[tR] #[.slice (some a) la ca,.slice (some b) lb cb]).run P w=.ok (.bool false) w:=by
 have hnb:(a.block != b.block)=true:=by simpa using hne
 have hnb':(a.block == b.block)=false:=by simpa using hne
 change Sem.run P (α:=Value) (do
  let some t:=(#[tS,tS]:Array TypeId)[0]? | stuck "slices.overlaps: no parameter types"
  let .slice elem ← underlying t | stuck "slices.overlaps: slice type expected"
  let size ← sizeOf elem
  match (some a:Option Addr),(some b:Option Addr) with
  | some a,some b =>
   if la=0∨lb=0∨size=0 then pure (Value.bool false)
   else if a.block != b.block&&(← frozen a)&&(← frozen b) then unsupported .addressObserved
   else do
    if a.block != b.block then do
     noView a; noView b
     if ← mayBeOne a b then return Value.bool ((← choose (.extern "sameAddr.stringBytes" 2)) == 1)
    pure (Value.bool (a.block == b.block&&a.off<b.off+lb*size&&b.off<a.off+la*size))
  | _,_=>pure (Value.bool false)) w=_
 by_cases h0:la=0∨lb=0∨size=0
 ·simp [run_underlying ht,hz,h0]
 ·cases kA with
  | zero=>exact absurd rfl hkA
  | succ kA =>
   cases h1:w.frozen? a with
   | true=>simp [run_underlying ht,hz,h0,hnb,hnb',frozen,noView,viewAt,mayBeOne,stringish,shape,Sem.run,hsa,hsb,hfb,hfe,h1]
   | false =>
    cases h2:w.frozen? { block:=a.block,off:=kA+1 } with
    | true=>simp [run_underlying ht,hz,h0,hnb,hnb',frozen,noView,viewAt,mayBeOne,stringish,shape,Sem.run,hsa,hsb,hfb,hfe,h1,h2]
    | false=>simp [run_underlying ht,hz,h0,hnb,hnb',frozen,noView,viewAt,mayBeOne,stringish,shape,Sem.run,hsa,hsb,hfb,hfe,h1,h2]
section
variable {P:Program} {T:List TI} {α:Type} {f:α→PV} {L Y Z:List α} {t e s l i j k m C:Nat} {x y:Operand}
theorem yov {g:FuncId} {fn:Func} {tR:TypeId} {tys:Array Nat} (hf:P.funcs[g]?=some fn) (hname:(fn.name == "runtime.NumGoroutine")=false) (hb:fn.body.isNone=true) (hnx:Extern.findNext fn=none) (he:Extern.find fn=some (Extern.SlicesOverlaps.overlaps #[t,t] #[tR])) (h1:tsl T t=some (e,s)) (hs0:0<s) (hff:∀ x,fits s (f x)=true) :
  Ext P T (.call ⟨.value (.func g),#[x,y],tys⟩) [.d (.clo g []),.d (.sl (Y.map f)),.ssl l i j s] [(l,.cu (rowH e s C (L.map f) m (Z.map f)) [])] (.d (.v (.bool false))) []:=by
 intro n w0 st a w oo hT hS ho hn hv hm K Q hK
 obtain ⟨ow,hd,hold,S⟩:=hS
 obtain ⟨d,op,ty,pos,af,gd⟩:=oo
 simp only at ho hn hK
 subst ho
 simp only [Op.operands,Call.operands] at hv
 have hv:[ev st.f (.func g),ev st.f x,ev st.f y]=_:=hv
 simp only [List.cons.injEq,and_true] at hv
 obtain ⟨_,hv1,hv2⟩:=hv
 have hml:=hm (l,.cu (rowH e s C (L.map f) m (Z.map f)) []) (by simp)
 simp only at hml
 obtain ⟨hu,hs⟩:=tsl_und hT h1
 have hsi:=tsz_info hT hs
 obtain ⟨g1,vs,g1',gb,cur,N,q1,q2,q3,q4,q5,q6,q7⟩:=S.objs l _ hml
 have hy:=S.eval y
 rw [hv2] at hy
 simp only [RF] at hy
 obtain ⟨hA,ad,N',C',x1,x2,x3,x4⟩:=hy
 rw [q1] at x1
 simp at x1
 obtain ⟨rfl,rfl,rfl⟩:=x1
 have hxd:=S.d hv1
 simp only [R] at hxd
 obtain ⟨adS,capS,y1,_,_,y2⟩:=hxd
 have hz:∀ w,(Go.sizeOf e).run P w=.ok s w:=fun w=>by
  cases hq:P.info? e with
  | none=>rw [hq] at hsi; simp at hsi
  | some i' =>
   rw [hq] at hsi
   simp at hsi
   simp [sizeOf,typeInfo,hq,hsi]
 have hov:∀ (b:Nat) (o2:Nat),b=gb→(Extern.SlicesOverlaps.overlaps #[t,t] #[tR] #[a.eval x,.slice (some ⟨b,o2,none⟩) (j-i) (C-i)]).run P w=.ok (.bool false) w:=by
  rintro b o2 rfl
  rw [y1]
  cases adS with
  | none =>
   change Sem.run P (α:=Value) (do
    let some t:=(#[t,t]:Array TypeId)[0]? | stuck "slices.overlaps: no parameter types"
    let .slice elem ← underlying t | stuck "slices.overlaps: slice type expected"
    let size ← sizeOf elem
    pure (Value.bool false)) w=_
   simp [run_underlying hu,hz]
  | some A =>
   rcases y2 with y2 | ⟨b',off,sz,cells,e1,e2,e3,e4,e5⟩
   ·simp at y2
    subst y2
    change Sem.run P (α:=Value) (do
     let some t:=(#[t,t]:Array TypeId)[0]? | stuck "slices.overlaps: no parameter types"
     let .slice elem ← underlying t | stuck "slices.overlaps: slice type expected"
     let size ← sizeOf elem
     if (([]:List α).map f).length=0∨(j-i)=0∨size=0 then pure (Value.bool false)
     else if A.block != b&&(← frozen A)&&(← frozen ⟨b,o2,none⟩) then unsupported .addressObserved
     else do
      if A.block != b then do
       noView A; noView ⟨b,o2,none⟩
       if ← mayBeOne A ⟨b,o2,none⟩ then return Value.bool ((← choose (.extern "sameAddr.stringBytes" 2)) == 1)
      pure (Value.bool (A.block == b&&A.off<o2+(j-i)*size&&o2<A.off+(([]:List α).map f).length*size))) w=_
    simp [run_underlying hu,hz]
   ·cases e1
    have hne:b'≠b:=by
     intro e'
     have:=(g1 b (by rw [q1]; first | rfl | simp [blocksOf,blockOf])).2
     rw [← e',e3] at this; cases this
    have hYs:=RE.resize e5 (all_fits (s:=s) hff)
    have hcl:=hYs.length
    cases hYc:Y with
    | nil =>
     subst hYc
     have hsa:∃ o,w.heap[b']?=some o:=⟨_,Array.getElem?_eq_getElem e2⟩
     change Sem.run P (α:=Value) (do
      let some t:=(#[t,t]:Array TypeId)[0]? | stuck "slices.overlaps: no parameter types"
      let .slice elem ← underlying t | stuck "slices.overlaps: slice type expected"
      let size ← sizeOf elem
      if (([]:List α).map f).length=0∨(j-i)=0∨size=0 then pure (Value.bool false)
      else if b' != b&&(← frozen ⟨b',off,none⟩)&&(← frozen ⟨b,o2,none⟩) then unsupported .addressObserved
      else do
       if b' != b then do
        noView ⟨b',off,none⟩; noView ⟨b,o2,none⟩
        if ← mayBeOne ⟨b',off,none⟩ ⟨b,o2,none⟩ then return Value.bool ((← choose (.extern "sameAddr.stringBytes" 2)) == 1)
       pure (Value.bool (b' == b&&off<o2+(j-i)*size&&o2<off+(([]:List α).map f).length*size))) w=_
     simp [run_underlying hu,hz]
    | cons z zs =>
     have h0:0<cells.length:=by rw [hcl,hYc,List.length_map]; exact Nat.mul_pos (by simp) hs0
     have hc0:=e4 0 _ (List.getElem?_eq_getElem h0)
     obtain ⟨kc,kt,kf,hk⟩:∃ c t fr,w.heap[b']?=some (.cells c t fr):=by
      unfold World.cell? at hc0
      split at hc0
      ·exact ⟨_,_,_,by assumption⟩
      ·cases hc0
     have hks:kc.size≠0:=by
      unfold World.cell? at hc0
      simp only [hk] at hc0
      intro hz0
      simp at hc0
      have:=(Array.getElem?_eq_some_iff.1 hc0).1
      omega
     refine run_overlaps_own w t tR e hu s hz ⟨b',off,none⟩ ⟨b,o2,none⟩ _ _ _ _ hne kt e kc.size cur.size (by simp [World.shape?,hk]) (by simp [World.shape?,q2]) hks (by simp [World.frozen?,q2]) (by simp [World.frozen?,q2])
 have hye:∃ o2,a.eval y=.slice (some ⟨gb,o2,none⟩) (j-i) (C-i):=by
  rw [x4]
  split
  ·exact ⟨_,rfl⟩
  ·exact ⟨_,by rw [Option.map_some,addr_add0]⟩
 obtain ⟨o2,hye⟩:=hye
 have hrun:(execOp a.eval ⟨d,.call ⟨.value (.func g),#[x,y],tys⟩,ty,pos,af,gd⟩).run P w=.ok (.value (.bool false)) w:=by
  have h3:=run_callFunc_extern (P:=P) hf hname hb hnx he #[a.eval x,a.eval y] w
  rw [hye,hov gb o2 rfl] at h3
  have e0:a.eval (.func g)=.func (.func g) #[] #[]:=rfl
  rw [← hye] at h3
  simp [execOp,resolve,Deferred.ofValue,invoke,e0]
  simpa [Result.andThen] using h3
 exact wp_val hrun (hK _ _ ⟨ow,hd,hold,S.put hn (x:=.d (.v (.bool false))) (by simp only [RF,R]; exact ⟨trivial,rfl⟩)⟩)
end
section
variable {P:Program} {T:List TI}
theorem ext_same {op:Op} {vs:List FV} {r:FV} {l:Nat} {o:PO} (h:Ext P T op vs [(l,o)] r [(l,o)]):Ext P T op vs [(l,o)] r []:=by
 intro n w0 st a w oo hT hS ho hn hv hm K Q hK
 refine h n w0 st a w oo hT hS ho hn hv hm K Q (fun a' w' S=>hK a' w' ?_)
 have hml:=hm (l,o) (by simp)
 simp only at hml
 have e:st.m.set l o=st.m:=by
  apply List.ext_getElem?
  intro k
  rw [List.getElem?_set]
  split
  ·rename_i hk; subst hk
   rw [hml,if_pos (List.getElem?_eq_some_iff.1 hml).1]
  ·rfl
 simp only [PS.act,updM,e] at S ⊢
 exact S
theorem ext_kill {op:Op} {vs:List FV} {m0 U:List (Nat×PO)} {r:FV} {l:Nat} (h:Ext P T op vs m0 r U):Ext P T op vs m0 r (U++[(l,.none)]):=by
 intro n w0 st a w oo hT hS ho hn hv hm K Q hK
 refine h n w0 st a w oo hT hS ho hn hv hm K Q (fun a' w' S=>hK a' w' ?_)
 obtain ⟨ow,hd,hold,S⟩:=S
 refine ⟨ow,hd,hold,?_⟩
 have:=S.kill l
 simpa only [PS.act,updM_append,updM] using this
end
def insI {α:Type} (b:Nat) (s:List α) (i:Int) (v:List α):Option (List α) :=
 if 0≤i∧i≤(s.length:Int)∧s.length+v.length≤4611686018427387904∧(s.length+v.length)*b≤140737488355328 then some (s.take i.toNat++v++s.drop i.toNat) else none
theorem ins_grow {α:Type} {s v:List α} {z:α} {i j:Nat} (hi:i≤s.length) (hj:j=i+v.length):cpyR (cpyR (s.take i++List.replicate (s.length+v.length-i) z) i (s.take i++List.replicate (s.length+v.length-i) z).length v) j (cpyR (s.take i++List.replicate (s.length+v.length-i) z) i (s.take i++List.replicate (s.length+v.length-i) z).length v).length ((s.take s.length).drop i)=s.take i++v++s.drop i:=by
 subst hj
 have hts:s.take s.length=s:=List.take_of_length_le (Nat.le_refl _)
 rw [hts]
 have hti:(s.take i).length=i:=by simp; omega
 have hl:(s.take i++List.replicate (s.length+v.length-i) z).length=s.length+v.length:=by simp; omega
 have e1:cpyR (s.take i++List.replicate (s.length+v.length-i) z) i (s.take i++List.replicate (s.length+v.length-i) z).length v=s.take i++v++List.replicate (s.length-i) z:=by
  unfold cpyR
  have a1:(s.take i++List.replicate (s.length+v.length-i) z).take i=s.take i:=List.take_left' hti
  have a2:v.take (s.length+v.length-i)=v:=List.take_of_length_le (by omega)
  have a3:Nat.min v.length (s.length+v.length-i)=v.length:=Nat.min_eq_left (by omega)
  have a4:(s.take i++List.replicate (s.length+v.length-i) z).drop (i+v.length)=List.replicate (s.length-i) z:=by
   rw [List.drop_append,hti,List.drop_of_length_le (by omega),List.nil_append,Nat.add_sub_cancel_left,List.drop_replicate]
   congr 1; omega
  rw [hl,a1,a2,a3,a4]
 rw [e1]
 have hl2:(s.take i++v).length=i+v.length:=by simp; omega
 have hl3:(s.take i++v++List.replicate (s.length-i) z).length=s.length+v.length:=by simp; omega
 unfold cpyR
 have b1:(s.take i++v++List.replicate (s.length-i) z).take (i+v.length)=s.take i++v:=List.take_left' hl2
 have b2:(s.drop i).take (s.length+v.length-(i+v.length))=s.drop i:=List.take_of_length_le (by simp; omega)
 have b3:(s.take i++v++List.replicate (s.length-i) z).drop (i+v.length+Nat.min (s.drop i).length (s.length+v.length-(i+v.length)))=[]:=by
  apply List.drop_of_length_le
  rw [hl3,List.length_drop,show Nat.min (s.length-i) (s.length+v.length-(i+v.length))=s.length-i from Nat.min_eq_left (by omega)]
  omega
 rw [hl3,b1,b2,b3,List.append_nil]
end Go.Proofs.YtofjjaagjkbeaaaGreat.pv
namespace Go.Proofs.YtofjjaagjkbeaaaGreat.pv
set_option linter.all false
open Go.RowKit
section
variable {P:Program} {T:List TI}
variable {α:Type} {f:α→PV} {L Y Z:List α} {t t' e s l nl i j k m C:Nat} {A B:Int} {ka kb:IntKind} {x y lo hi:Operand} {ti:TI}
end
section
variable {P:Program} {T:List TI} {α:Type} {f:α→PV} {L Y Z:List α} {t e s l i j k m C:Nat} {x y:Operand}
end
def repI {α:Type} (b:Nat) (s:List α) (i j:Int) (v:List α):Option (List α) :=
 if 0≤i∧i<j∧j≤(s.length:Int)∧(v.length=0∨j-i≤(v.length:Int))∧s.length+v.length≤4611686018427387904∧(s.length+v.length)*b≤140737488355328 then some (s.take i.toNat++v++s.drop j.toNat) else none
end Go.Proofs.YtofjjaagjkbeaaaGreat.pv
namespace Go.Proofs.YtofjjaagjkbeaaaGreat.pv
set_option linter.all false
open Go.RowKit
def fl (xs:List PV):List PV:=xs.flatMap pcells
section
variable {ow:Nat→Bool} {w:World}
end
def noB:Value:=.bool false
def bagI (ct:Nat→Nat×Nat) (q:Nat→Bool) (xs:List PV) (ow:Nat→Bool) (w:World) (v:Value):Prop :=
 ∃ caps:Array Value,v=.func (.func 0) #[] caps∧caps.size=(fl xs).length ∧
  (∀ k:Nat,k<caps.size→q k=true→∃ (ys:List PV) (cs:List Value) (u:Value),(fl xs)[k]?=some (.sl ys)∧caps[k]?=some u∧w.ownsRow 0 (ct k).1 (ct k).2 u ys.length cs∧RE ow w (ct k).2 ys cs) ∧
  (∀ (k:Nat) (u:Value),caps[k]?=some u→q k=false→u=noB) ∧
  (∀ (k k':Nat) (u u':Value) (b:Nat),k≠k'→caps[k]?=some u→caps[k']?=some u'→blockOf u=some b→blockOf u'≠some b)
theorem mem_caps {caps:Array Value} {b:Nat} (h:b∈blocksOf (.func (.func 0) #[] caps)):∃ (k:Nat) (u:Value),caps[k]?=some u∧blockOf u=some b:=by
 simp only [blocksOf,List.mem_filterMap] at h
 obtain ⟨u,hu,hb⟩:=h
 obtain ⟨k,hk⟩:=List.getElem?_of_mem hu
 exact ⟨k,u,by simpa using hk,hb⟩
theorem caps_mem {caps:Array Value} {b k:Nat} {u:Value} (h:caps[k]?=some u) (hb:blockOf u=some b):b∈blocksOf (.func (.func 0) #[] caps):=by
 simp only [blocksOf,List.mem_filterMap]
 exact ⟨u,by
  have:caps.toList[k]?=some u:=by simpa using h
  exact List.mem_of_getElem? this,hb⟩
theorem owns_bo {w:World} {e s n:Nat} {u:Value} {cs:List Value} (h:w.ownsRow 0 e s u n cs) {b:Nat} (hb:b∈blocksOf u):blockOf u=some b∧b<w.heap.size:=by
 obtain ⟨_,h⟩:=h
 rcases h with ⟨rfl,_⟩ | ⟨g,cap,cur,rfl,_,h4,_⟩
 ·simp [blocksOf,blockOf] at hb
 ·simp [blocksOf,blockOf] at hb; subst hb
  exact ⟨rfl,(Array.getElem?_eq_some_iff.1 h4).1⟩
theorem owns_one {w:World} {e s n:Nat} {u:Value} {cs:List Value} (h:w.ownsRow 0 e s u n cs):u.oneCell'=true:=by
 obtain ⟨_,h⟩:=h
 rcases h with ⟨rfl,_⟩ | ⟨g,cap,cur,rfl,_,h4,_⟩ <;> rfl
def bagC (ct:Nat→Nat×Nat) (q:Nat→Bool) (xs:List PV):Cust where
 I:=fun ow w v _=>bagI ct q xs ow w v
 lt:=by
  rintro ow w v vs ⟨caps,rfl,hs,h1,h2,h3⟩ b hb
  obtain ⟨k,u,hk,hb'⟩:=mem_caps hb
  have hlt:k<caps.size:=(Array.getElem?_eq_some_iff.1 hk).1
  cases hq:q k with
  | false=>rw [h2 k u hk hq] at hb'; simp [noB,blockOf] at hb'
  | true =>
   obtain ⟨ys,cs,u',g1,g2,g3,g4⟩:=h1 k hlt hq
   rw [hk] at g2; cases g2
   exact (owns_bo g3 (mem_of_bo hb')).2
 kp:=by
  rintro ow ow' w w' v vs hk hb ⟨caps,rfl,hs,h1,h2,h3⟩
  refine ⟨caps,rfl,hs,fun k hlt hq=>?_,h2,h3⟩
  obtain ⟨ys,cs,u,g1,g2,g3,g4⟩:=h1 k hlt hq
  exact ⟨ys,cs,u,g1,g2,ownsRow_kept g3 fun b hb'=>(hb b (caps_mem g2 (owns_bo g3 hb').1)).1,RE.mono hk _ _ _ g4⟩
 one:=by
  rintro ow w v vs ⟨caps,rfl,_⟩
  rfl
def outI (ty sz:Nat) (q:Nat→Bool) (hs:List (Option Nat)) (xs:List PV) (ow:Nat→Bool) (w:World) (v:Value) (vs:List Value):Prop :=
 ∃ (cells:List Value) (caps:Array Value),w.ownsRow 0 ty sz v xs.length cells∧vs[0]?=some (.func (.func 0) #[] caps) ∧
  ∀ (k:Nat) (p:PV),(fl xs)[k]?=some p→∃ u:Value,cells[k]?=some u∧u.oneCell'=true∧(q k=true→caps[k]?=some u)∧(∀ j:Nat,hs[j]?=some (some k)→vs[j+1]?=some u) ∧
   (q k=false→(∀ j:Nat,hs[j]?≠some (some k))→R ow w p u)
def outC (ty sz:Nat) (q:Nat→Bool) (hs:List (Option Nat)) (xs:List PV):Cust where
 I:=outI ty sz q hs xs
 lt:=by
  rintro ow w v vs ⟨cells,caps,h1,_⟩ b hb
  exact (owns_bo h1 hb).2
 kp:=by
  rintro ow ow' w w' v vs hk hb ⟨cells,caps,h1,h2,h3⟩
  refine ⟨cells,caps,ownsRow_kept h1 fun b e=>(hb b e).1,h2,fun k p hp=>?_⟩
  obtain ⟨u,g1,g2,g3,g4,g5⟩:=h3 k p hp
  exact ⟨u,g1,g2,g3,g4,fun a b=>R.mono hk _ _ (g5 a b)⟩
 one:=by
  rintro ow w v vs ⟨cells,caps,h1,_⟩
  exact owns_one h1
section
variable {P:Program} {T:List TI} {n:Nat} {w0:Cx} {st:PS} {a:Act} {w:World} {ow:Nat→Bool} {hd:Nat→Value}
theorem SimW.re (S:SimW n w0 st a w ow hd) {l:Nat} {o o':PO} (hm:st.m[l]?=some o) (hl:o.live=true) (hl':o'.live=true) (h:RO (al (st.m.set l o')) hd w0 ow w (hd l) o'):SimW n w0 ⟨st.f,st.m.set l o'⟩ a w ow hd:=by
 have e:upd hd l (hd l)=hd:=by funext j; by_cases e:j=l <;> simp [upd,e]
 have:=S.obj (l:=l) (hv:=hd l) (o:=o') (Kp.refl _ _) (Kt.refl _ _) S.fresh (.inr rfl) (PO.made_of_live hl') (by rw [e]; exact h)
  (fun j oj b' hne hj hlj hb'=>⟨rfl,rfl,fun _ eb=>S.dist j l oj o b' hne hj hm hlj hl hb' eb⟩)
 rw [e] at this
 exact this
theorem SimW.add (S:SimW n w0 st a w ow hd) {l:Nat} {o:PO} {hv:Value} (hm:st.m[l]?=some .free) (ho:o.made=true) (h:RO (al (st.m.set l o)) (upd hd l hv) w0 ow w hv o)
  (hk:∀ j oj b,j≠l→st.m[j]?=some oj→oj.live=true→b∈blocksOf (hd j)→b ∉ blocksOf hv) :
  SimW n w0 ⟨st.f,st.m.set l o⟩ a w ow (upd hd l hv)∧(∀ j,al st.m j=true→al (st.m.set l o) j=true∧upd hd l hv j=hd j)∧al (st.m.set l o) l=true:=by
 have hal:al st.m l=false:=by simp [al,hm,PO.made]
 have hlt:l<st.m.length:=(List.getElem?_eq_some_iff.1 hm).1
 refine ⟨S.obj (l:=l) (hv:=hv) (o:=o) (Kp.refl _ _) (Kt.refl _ _) S.fresh (.inl hal) ho h (fun j oj b hne hj hlj hb=>⟨rfl,rfl,fun _=>hk j oj b hne hj hlj hb⟩),?_,?_⟩
 ·intro j hj
  refine ⟨al_set_mono ho j hj,?_⟩
  rw [upd_ne]
  intro e; rw [e,hal] at hj; cases hj
 ·rw [al_set_same hlt]; exact ho
theorem get_set_ne {m:List PO} {l j:Nat} {o x:PO} (h:m[j]?=some x) (hne:j≠l):(m.set l o)[j]?=some x:=by
 rw [List.getElem?_set,if_neg (fun e=>hne e.symm)]; exact h
end
end Go.Proofs.YtofjjaagjkbeaaaGreat.pv
namespace Go.Proofs.YtofjjaagjkbeaaaGreat.pv
set_option linter.all false
open Go.RowKit
section
variable {P:Program} {T:List TI} {n:Nat} {w0:Cx} {st:PS} {a:Act} {w:World} {ow:Nat→Bool} {hd:Nat→Value}
theorem own_R {e s:Nat} {u:Value} {ys:List PV} {cs:List Value} {ow':Nat→Bool} (h:w.ownsRow 0 e s u ys.length cs) (hr:RE ow w s ys cs) (hk:Kp ow w ow' w) (hb:∀ b,b∈blocksOf u→ow' b=false):R ow' w (.sl ys) u:=by
 obtain ⟨h1,h1'⟩:=h
 simp only [R]
 rcases h1' with ⟨e2,e3⟩ | ⟨gb,cap,cur,e2,e3,e4,e5,e6,e7,e8⟩
 ·rw [e2]; exact ⟨none,0,by rw [e3],by omega,by simp [maxLen],.inl (List.eq_nil_of_length_eq_zero e3)⟩
 ·refine ⟨some ⟨gb,0,none⟩,cap,e2,e5,e6,.inr ⟨gb,0,s,cs,rfl,(Array.getElem?_eq_some_iff.1 e4).1,hb gb (by rw [e2]; first | rfl | simp [blocksOf,blockOf]),fun j v hv=>?_,RE.mono hk _ _ _ hr⟩⟩
  rw [← e8,List.getElem?_take] at hv
  split at hv
  ·unfold World.cell?
   simp only [e4]
   simpa using hv
  ·cases hv
def nThaw (l ty sz:Nat) (ct:Nat→Nat×Nat) (q:Nat→Bool) (hs:List (Option Nat)) (xs:List PV) (st:PS):PS :=
 ⟨st.f,st.m.set l (.cu (outC ty sz q hs xs) (.srf st.m.length::hs.map fun _=>.d (.v noB)))++[.cu (bagC ct q xs) []]⟩
def nFrz (l B ty sz:Nat) (xs:List PV) (st:PS):PS:=⟨st.f,(st.m.set B .none).set l (.row ty sz xs)⟩
end
end Go.Proofs.YtofjjaagjkbeaaaGreat.pv
namespace Go.Proofs.YtofjjaagjkbeaaaGreat.pv
set_option linter.all false
open Go.RowKit
section
variable {P:Program} {T:List TI}
end
end Go.Proofs.YtofjjaagjkbeaaaGreat.pv
namespace Go.Proofs.YtofjjaagjkbeaaaGreat.pv
set_option linter.all false
open Go.RowKit
def b2s (L:List Int):ByteArray:=L.foldl (fun r n=>r.push (UInt8.ofNat n.toNat)) ByteArray.empty
def catS (a b:ByteArray):Option ByteArray:=if a.size+b.size≤9223372036854775807 then some (a++b) else none
def subS (a:ByteArray) (l h:Int):Option ByteArray:=if 0≤l∧l≤h∧h≤a.size then some (a.extract l.toNat h.toNat) else none
theorem tstr_und {P:Program} {T:List TI} (h:TOk P T) {t:Nat} (ht:tk T t=some .str):P.underlying t=some .string:=by
 unfold tk at ht
 cases hq:T[t]? with
 | none=>simp [hq] at ht
 | some ti =>
  obtain ⟨i,d,h1,h2,h3,h4,h5,_⟩:=h.info hq
  simp [hq] at ht
  rw [ht] at h5
  cases d <;> simp [kOk] at h5
  exact h2
theorem RE_bytes {ow:Nat→Bool} {w:World}:∀ {L:List Int} {cells:List Value},RE ow w 1 (L.map (eI .u8)) cells→cells=L.map (Value.int .u8)
 | [],_,h=>by simpa only [List.map_nil,RE] using h
 | x::L,cells,h=>by
  simp only [List.map_cons,RE,eI,R] at h
  obtain ⟨u,r,e,h1,h2,⟨h3,_⟩,h4⟩:=h
  subst h3
  rw [e,RE_bytes h4]; rfl
section
variable {P:Program} {T:List TI} {n:Nat} {w0:Cx} {st:PS} {a:Act} {w:World} {ow:Nat→Bool} {hd:Nat→Value}
theorem ext_b2s {src dst e s:Nat} {x:Operand} {L:List Int} {fx:FV} {m0:List (Nat×PO)} (h1:tsl T src=some (e,s)) (h2:tint T e=some .u8) (h3:tk T dst=some .str)
  (hs:∀ (n:Nat) (w0:Cx) (st:PS) (a:Act) (w:World) (ow:Nat→Bool) (hd:Nat→Value),SimW n w0 st a w ow hd→ev st.f x=fx→(∀ q∈m0,st.m[q.1]?=some q.2)→Src ow w 1 (a.eval x) (L.map (eI .u8))) :
  Ext P T (.convert src dst x) [fx] m0 (.d (.v (.string (b2s L)))) []:=by
 intro n w0 st a w o hT hS ho hn hv hm K Q hK
 obtain ⟨ow,hd,hold,S⟩:=hS
 obtain ⟨d,op,ty,pos,af,gd⟩:=o
 simp only at ho hn hK
 subst ho
 simp [Op.operands] at hv
 obtain ⟨ad,cap,y1,y2⟩:=hs _ _ _ _ _ _ _ S hv hm
 have hu:=(tsl_und hT h1).1
 have hc:(Conv.bytesToString (.slice ad (L.map (eI .u8)).length cap)).run P w=.ok (.string (b2s L)) w:=by
  rcases y2 with hnil | ⟨b,off,cells,rfl,y3,y5⟩
  ·have:L=[]:=by simpa using hnil
   subst this
   cases ad with
   | none=>simp [Conv.bytesToString,b2s]
   | some ad =>
    have:=run_bytesToString (P:=P) w ad 0 cap [] (by simpa using run_loadCells_list (P:=P) (w:=w) ad [] (by simp))
    simpa [b2s] using this
  ·rw [RE_bytes y5] at y3
   have:=run_bytesToString (P:=P) w ⟨b,off,none⟩ (L.map (eI .u8)).length cap L (by
    have:=run_loadCells_list (P:=P) (w:=w) ⟨b,off,none⟩ (L.map (Value.int .u8)) (fun j v hj=>by rw [Addr.add_mid]; exact y3 j v hj)
    simpa using this)
   simpa [b2s] using this
 have hrun:(execOp a.eval ⟨d,.convert src dst x,ty,pos,af,gd⟩).run P w=.ok (.value (.string (b2s L))) w:=by
  simp only [execOp,y1]
  have:=run_convert_bytes_string (P:=P) w src dst e ad (L.map (eI .u8)).length cap hu (tint_und hT h2) (tstr_und hT h3)
  simp only [Sem.run_bind,this,hc,Result.andThen_ok,Sem.run_pure]
 exact wp_val hrun (hK _ _ ⟨ow,hd,hold,S.put hn (x:=.d (.v _)) (by simp only [RF,R]; exact ⟨trivial,rfl⟩)⟩)
theorem xb2sD {src dst e s:Nat} {x:Operand} {L:List Int} (h1:tsl T src=some (e,s)) (h2:tint T e=some .u8) (h3:tk T dst=some .str) :
  Ext P T (.convert src dst x) [.d (.sl (L.map (eI .u8)))] [] (.d (.v (.string (b2s L)))) [] :=
 ext_b2s h1 h2 h3 (fun n w0 st a w ow hd S hx _=>Src.of_els S (by rw [hx]; exact .sl _) (by simp [fits,eI,isTup,psz]))
theorem xcatS {t ty':Nat} {x y:Operand} {p q r:ByteArray} (h:catS p q=some r):Ext P T (.binOp .add t x y ty') [.d (.v (.string p)),.d (.v (.string q))] [] (.d (.v (.string r))) []:=by
 intro n w0 st a' w o hT hS ho hn hv hm K Q hK
 obtain ⟨ow,hd,hold,S⟩:=hS
 obtain ⟨d,op,ty,pos,af,gd⟩:=o
 simp only at ho hn hK
 subst ho
 simp [Op.operands] at hv
 obtain ⟨e1,_⟩:=S.v hv.1
 obtain ⟨e2,_⟩:=S.v hv.2
 unfold catS at h
 split at h
 ·rename_i hc
  simp at h; subst h
  have hrun:(execOp a'.eval ⟨d,.binOp .add t x y ty',ty,pos,af,gd⟩).run P w=.ok (.value (.string (p++q))) w:=by
   have h':¬ (((p.size+q.size:Nat):Int) > IntKind.i64.max):=by simp [IntKind.max,IntKind.bits,IntKind.signed]; omega
   simp [execOp,e1,e2,eqGuard,binOp,Op.stringOp]
   first
    | (rw [if_neg (by simpa using h')]; simp)
    | simp_all
  exact wp_val hrun (hK _ _ ⟨ow,hd,hold,S.put hn (x:=.d (.v _)) (by simp only [RF,R]; exact ⟨trivial,rfl⟩)⟩)
 ·cases h
variable {t:Nat} {x lo hi:Operand} {p r:ByteArray} {i h:Int} {ka kb:IntKind}
theorem xnilP {op:BinOp} {t ty' e l off:Nat} {x y:Operand} (ho:eqlOp op=true) (ht:tptr T t=some e):Ext P T (.binOp op t x y ty') [.ref l off,.d (.v (.pointer none))] [] (.d (.v (.bool (eqRes op false)))) []:=by
 intro n w0 st a' w o hT hS ho' hn hv hm K Q hK
 obtain ⟨ow,hd,hold,S⟩:=hS
 obtain ⟨d,op',ty,pos,af,gd⟩:=o
 simp only at ho' hn hK
 subst ho'
 simp [Op.operands] at hv
 have q1:=S.eval x
 rw [hv.1] at q1
 simp only [RF] at q1
 obtain ⟨_,b,_,e1⟩:=q1
 obtain ⟨e2,_⟩:=S.v hv.2
 have hu:P.underlying t=some (.pointer (P.pointee t)):=by
  have:=tptr_und hT ht
  rw [this]; unfold Program.pointee; rw [this]
 have heq:=run_equal_pointer_nil (P:=P) w t (some ⟨b,off,none⟩) hu
 have hrun:(execOp a'.eval ⟨d,.binOp op t x y ty',ty,pos,af,gd⟩).run P w=.ok (.value (.bool (eqRes op false))) w:=by
  cases op <;> simp [eqlOp] at ho <;> simp [execOp,e1,e2,eqGuard,binOp,heq,eqRes]
 exact wp_val hrun (hK _ _ ⟨ow,hd,hold,S.put hn (x:=.d (.v _)) (by simp only [RF,R]; exact ⟨trivial,rfl⟩)⟩)
theorem xnilN {op:BinOp} {t ty' e:Nat} {x y:Operand} (ho:eqlOp op=true) (ht:tptr T t=some e):Ext P T (.binOp op t x y ty') [.d (.v (.pointer none)),.d (.v (.pointer none))] [] (.d (.v (.bool (eqRes op true)))) []:=by
 intro n w0 st a' w o hT hS ho' hn hv hm K Q hK
 obtain ⟨ow,hd,hold,S⟩:=hS
 obtain ⟨d,op',ty,pos,af,gd⟩:=o
 simp only at ho' hn hK
 subst ho'
 simp [Op.operands] at hv
 obtain ⟨e1,_⟩:=S.v hv.1
 obtain ⟨e2,_⟩:=S.v hv.2
 have hu:P.underlying t=some (.pointer (P.pointee t)):=by
  have:=tptr_und hT ht
  rw [this]; unfold Program.pointee; rw [this]
 have heq:=run_equal_pointer_nil (P:=P) w t none hu
 have hrun:(execOp a'.eval ⟨d,.binOp op t x y ty',ty,pos,af,gd⟩).run P w=.ok (.value (.bool (eqRes op true))) w:=by
  cases op <;> simp [eqlOp] at ho <;> simp [execOp,e1,e2,eqGuard,binOp,heq,eqRes]
 exact wp_val hrun (hK _ _ ⟨ow,hd,hold,S.put hn (x:=.d (.v _)) (by simp only [RF,R]; exact ⟨trivial,rfl⟩)⟩)
end
section
variable {β γ:Type} {n sz P0 o idx:Nat} {A:Fin n→β} {jj:Int} {x y:β} {g:β→List γ} {pre post zs:List γ} {c:γ}
end
end Go.Proofs.YtofjjaagjkbeaaaGreat.pv
namespace Go.Proofs.YtofjjaagjkbeaaaGreat.pv
set_option linter.all false
open Go.RowKit Go.MapKept
def Stp (es:List MapEntry) (clock:Nat):Prop:=(∀ e∈es,e.born<clock)∧es.Pairwise (fun x y=>x.born≠y.born)
theorem Stp.push {es:List MapEntry} {clock:Nat} (h:Stp es clock) (k v:Value):Stp (es++[{ key:=k,val:=v,born:=clock }]) (clock+1):=by
 refine ⟨fun e he=>?_,?_⟩
 ·rcases List.mem_append.1 he with he | he
  ·have:=h.1 e he; omega
  ·rw [List.mem_singleton.1 he]; exact Nat.lt_succ_self _
 ·rw [List.pairwise_append]
  refine ⟨h.2,by simp,fun a ha b hb=>?_⟩
  rw [List.mem_singleton.1 hb]
  have:=h.1 a ha
  simp only
  omega
theorem mod_born (k v:Value):∀ (es:List MapEntry) (i:Nat),(es.modify i fun e=>{ e with key:=k,val:=v }).map (·.born)=es.map (·.born)
 | [],i=>by rw [List.modify_nil]
 | e::es,0=>rfl
 | e::es,i+1=>by simp only [List.modify_succ_cons,List.map_cons,mod_born k v es i]
theorem Stp.of_born {es es':List MapEntry} {clock:Nat} (h:Stp es clock) (e:es'.map (·.born)=es.map (·.born)):Stp es' clock:=by
 refine ⟨fun x hx=>?_,?_⟩
 ·have:x.born∈es.map (·.born):=by rw [← e]; exact List.mem_map.2 ⟨x,hx,rfl⟩
  obtain ⟨y,hy,hb⟩:=List.mem_map.1 this
  rw [← hb]; exact h.1 y hy
 ·have h2:=(List.pairwise_map (f:=fun x:MapEntry=>x.born) (R:=fun a b:Nat=>a≠b)).2 h.2
  rw [← e] at h2
  exact List.pairwise_map.1 h2
section
variable {κ ν:Type} [DecidableEq κ]
def mplc:List (κ×ν)→κ→Option (Nat×ν)
 | [],_=>none
 | p::r,k=>if k=p.1 then some (0,p.2) else (mplc r k).map fun q=>(q.1+1,q.2)
def mget (E:List (κ×ν)) (k:κ):Option ν:=(mplc E k).map (·.2)
def mput (E:List (κ×ν)) (k:κ) (v:ν):List (κ×ν):=match mplc E k with | some (i,_)=>E.set i (k,v) | none=>E++[(k,v)]
theorem mplc_some:∀ {E:List (κ×ν)} {k:κ} {i:Nat} {v:ν},mplc E k=some (i,v)→E[i]?=some (k,v)
 | p::r,k,i,v,h=>by
  unfold mplc at h
  split at h
  ·rename_i e; simp at h; obtain ⟨rfl,rfl⟩:=h; subst e; rfl
  ·cases hq:mplc r k with
   | none=>simp [hq] at h
   | some q =>
    simp [hq] at h
    obtain ⟨rfl,rfl⟩:=h
    simpa using mplc_some hq
theorem mplc_set:∀ {E:List (κ×ν)} {k:κ} {i:Nat} {v0:ν} (v:ν) (j:κ),mplc E k=some (i,v0)→mplc (E.set i (k,v)) j=if j=k then some (i,v) else mplc E j
 | p::r,k,i,v0,v,j,h=>by
  unfold mplc at h
  split at h
  ·rename_i e
   simp at h
   obtain ⟨rfl,rfl⟩:=h
   subst e
   simp only [List.set_cons_zero,mplc]
   split <;> simp_all
  ·rename_i e
   cases hq:mplc r k with
   | none=>simp [hq] at h
   | some q =>
    simp [hq] at h
    obtain ⟨rfl,rfl⟩:=h
    simp only [List.set_cons_succ,mplc]
    rw [mplc_set v j hq]
    split
    ·rename_i e1
     have:j≠k:=fun e2=>e (e2 ▸ e1)
     rw [if_neg this]
    ·split <;> rfl
theorem mplc_app:∀ {E:List (κ×ν)} {k:κ} (v:ν) (j:κ),mplc E k=none→mplc (E++[(k,v)]) j=if j=k then some (E.length,v) else mplc E j
 | [],k,v,j,h=>by simp [mplc]
 | p::r,k,v,j,h=>by
  unfold mplc at h
  split at h
  ·cases h
  ·rename_i e
   have hq:mplc r k=none:=by cases hq:mplc r k <;> simp_all
   simp only [List.cons_append,mplc,List.length_cons]
   rw [mplc_app v j hq]
   split
   ·rename_i e1
    have:j≠k:=fun e2=>e (e2 ▸ e1)
    rw [if_neg this]
   ·split <;> rfl
theorem mget_mput (E:List (κ×ν)) (k:κ) (v:ν) (j:κ):mget (mput E k v) j=if j=k then some v else mget E j:=by
 unfold mget mput
 cases h:mplc E k with
 | none=>simp only []; rw [mplc_app v j h]; split <;> rfl
 | some q=>obtain ⟨i,v0⟩:=q; simp only []; rw [mplc_set v j h]; split <;> rfl
end
theorem Ret.of_H {P:Program} {f:FuncId} {args:List PV} {e s:Nat} {xs:List PV} (h:RetH P f (args.map .d) [] (.srf 0) [.row e s xs]):Ret P f args (.sl xs):=by
 refine ⟨h.1,fun ow w vs hf hr=>?_⟩
 have S0:SimH ⟨w,fun _=>false,ow,fun _=>undef⟩ [] w ow (fun _=>undef):=⟨Kt.refl _ _,hf,fun l o hl=>by simp at hl,fun l l' o o' b _ hl=>by simp at hl⟩
 refine (h.2 ⟨w,fun _=>false,ow,fun _=>undef⟩ (fun _=>undef) vs S0 (RFT.of_RT hr)).mono ?_
 rintro e' w' ⟨v,ow',hd',rfl,hk,S,_,hv⟩
 have hkt:=S.below
 have hB:Below w.heap.size w w':=⟨hkt.os,hkt.tape,hkt.output,hkt.size,fun k hk'=>hkt.block k hk' rfl⟩
 refine ⟨v,rfl,hB,?_⟩
 have hk1:Kp ow' w' ow w':=⟨Nat.le_refl _,fun b hb h0=>?_,fun _ _ _=>rfl⟩
 ·exact frz_sound S hk1 (fun b hb=>by
   rcases hb with hb | hb
   ·exact hf b hb
   ·cases hb) (.srf 0) v (.sl xs) (by simp [frz]) hv
 ·rcases Nat.lt_or_ge b w.heap.size with hlt | hge
  ·have:=hk b hlt rfl
   rw [h0] at this; exact this.symm
  ·exact hf b hge
structure KOk (P:Program) (kt:Nat) {κ:Type} [DecidableEq κ] (d:TypeDesc) (f:κ→Value):Prop where
 und:P.underlying kt=some d
 key:∀ a,IsKey d (f a)
 now:∀ a b,Instr.sameNow d (f a) (f b)=some (decide (a=b))
theorem KOk.int {P:Program} {kt:Nat} {k:IntKind} (h:P.underlying kt=some (.int k)):KOk P kt (.int k) (fun a:Int=>Value.int k a) :=
 ⟨h,fun _=>rfl,fun a b=>by simp only [Instr.sameNow,if_true]; congr 1⟩
section
variable {κ ν:Type} [DecidableEq κ] {f:κ→Value} {g:ν→Value} {d:TypeDesc}
theorem findNow_mix (hn:∀ a b,Instr.sameNow d (f a) (f b)=some (decide (a=b))) (k:κ):∀ (es:List MapEntry) (E:List (κ×ν)) (i:Nat),es.map (fun e=>(e.key,e.val))=E.map (fun p=>(f p.1,g p.2)) →
  Instr.findNow d (f k) es i=some ((mplc E k).map fun q=>(i+q.1,g q.2))
 | [],E,i,h=>by
  have:E=[]:=by cases E with | nil=>rfl | cons _ _=>simp at h
  subst this; rfl
 | e::es,[],i,h=>by simp at h
 | e::es,p::r,i,h=>by
  simp only [List.map_cons,List.cons.injEq,Prod.mk.injEq] at h
  obtain ⟨⟨h1,h2⟩,h3⟩:=h
  unfold Instr.findNow mplc
  rw [h1,hn]
  by_cases e1:k=p.1
  ·simp [e1,h2]
  ·simp only [e1,decide_false,if_false]
   rw [findNow_mix hn k es r (i+1) h3]
   cases mplc r k <;> simp <;> omega
structure KW (P:Program) (kt:Nat) {κ:Type} [DecidableEq κ] (f:κ→Value):Prop where
 chk:∀ a b (w:World),(Instr.checkKey b 10000 kt (f a)).run P w=.ok () w
 find:∀ {ν:Type} (g:ν→Value) (k:κ) (es:List MapEntry) (E:List (κ×ν)) (w:World),es.map (fun e=>(e.key,e.val))=E.map (fun p=>(f p.1,g p.2))→(Instr.findKey kt (f k) es).run P w=.ok ((mplc E k).map fun q=>(q.1,g q.2)) w
 stay:∀ a (w:World),(Instr.keyThatStays (f a) (f a)).run P w=.ok (f a) w
theorem KOk.kw {P:Program} {kt:Nat} (h:KOk P kt d f):KW P kt f :=
 ⟨fun a b w=>run_checkKey h.und (h.key a) b 9999,fun g k es E w he=>by
  have:=run_findKey (w:=w) h.und (findNow_mix (g:=g) h.now k es E 0 he)
  simpa using this,fun a w=>run_keyThatStays (h.key a)⟩
def plainC:Value→Bool
 | .int _ _=>true
 | .bool _=>true
 | .string _=>true
 | _=>false
def mapC (f:κ→Value) (g:ν→Value) (E:List (κ×ν)):Cust where
 I ow w h vs:=∃ b clock es,h=.map (some b)∧w.heap[b]?=some (.map es clock)∧es.toList.map (fun e=>(e.key,e.val))=E.map (fun p=>(f p.1,g p.2))∧Stp es.toList clock
 lt:=by
  rintro ow w h vs ⟨b,clock,es,rfl,h2,_⟩ b' hb
  simp [blocksOf,blockOf] at hb
  subst hb
  exact (Array.getElem?_eq_some_iff.1 h2).1
 kp:=by
  rintro ow ow' w w' h vs k hb ⟨b,clock,es,rfl,h2,h3⟩
  exact ⟨b,clock,es,rfl,by rw [(hb b (by simp [blocksOf,blockOf])).1]; exact h2,h3⟩
 one:=by rintro ow w h vs ⟨b,clock,es,rfl,_⟩; rfl
end
section
variable {P:Program} {T:List TI} {n:Nat} {w0:Cx} {st:PS} {a:Act} {w:World} {ow:Nat→Bool} {hd:Nat→Value}
variable {κ ν:Type} [DecidableEq κ] {f:κ→Value} {g:ν→Value} {E:List (κ×ν)}
theorem SimW.newMap (S:SimW n w0 st a w ow hd) {l:Nat} (hl:st.m[l]?=some .free) (f:κ→Value) (g:ν→Value) :
  ∃ ow' hd',((∀ b,b<w.heap.size→ow' b=ow b)∧∀ j,al st.m j=true→al (st.m.set l (.cu (mapC f g []) [])) j=true∧hd' j=hd j)∧SimW n w0 ⟨st.f,st.m.set l (.cu (mapC f g []) [])⟩ a (w.alloc (.map #[] 0)) ow' hd'∧RF (al (st.m.set l (.cu (mapC f g []) []))) hd' ow' (w.alloc (.map #[] 0)) (.srf l) (.map (some w.heap.size)):=by
 have hsz:(w.alloc (.map #[] 0)).heap.size=w.heap.size+1:=by simp
 have hk:Kp ow w (fun b=>if b=w.heap.size then true else ow b) (w.alloc (.map #[] 0)) :=
  ⟨by rw [hsz]; omega,fun b hb h=>by show (if b=w.heap.size then true else ow b)=false; rw [if_neg (by omega)]; exact h,fun b hb _=>Below.heap_alloc w _ b hb⟩
 have hal:al st.m l=false:=by simp [al,hl,PO.made]
 have hlt:l<st.m.length:=(List.getElem?_eq_some_iff.1 hl).1
 have ha:∀ j,al st.m j=true→al (st.m.set l (.cu (mapC f g []) [])) j=true∧upd hd l (.map (some w.heap.size)) j=hd j:=by
  intro j hj
  refine ⟨al_set_mono rfl j hj,?_⟩
  rw [upd_ne]
  intro e; rw [e,hal] at hj; cases hj
 have S':=S.obj (l:=l) (hv:=.map (some w.heap.size)) (o:=.cu (mapC f g []) []) hk (Kt.of_below ((Below.refl _ _).alloc S.below.size _) (Nat.le_refl _))
  (fun b hb=>by rw [hsz] at hb; show (if b=w.heap.size then true else ow b)=false; rw [if_neg (by omega)]; exact S.fresh b (by omega)) (.inl hal) rfl
  ⟨fun b hb=>by
    simp [blocksOf,blockOf] at hb; subst hb
    exact ⟨.inl S.below.size,by simp⟩,
   [],by simp [RFL],w.heap.size,0,#[],rfl,heap_alloc_new w _,by simp,by simp,by simp⟩
  (fun j oj b e hj hl hbk=>by
   have:=((S.objs j oj hj).lt hl b hbk).1
   refine ⟨Below.heap_alloc w _ b this,if_neg (by omega),fun _ he=>?_⟩
   simp [blocksOf,blockOf] at he
   omega)
 refine ⟨_,_,⟨?_,ha⟩,S',?_⟩
 ·intro b hb
  show (if b=w.heap.size then true else ow b)=ow b
  rw [if_neg (by omega)]
 ·simp only [RF]
  exact ⟨by rw [al_set_same hlt]; rfl,by rw [upd_same],by rw [upd_same]; rfl⟩
theorem ymake {t nl:Nat} (f:κ→Value) (g:ν→Value):Ext P T (.makeMap t none) [] [(nl,.free)] (.srf nl) [(nl,.cu (mapC f g []) [])]:=by
 intro n w0 st a w o hT hS ho hn hv hm K Q hK
 obtain ⟨ow,hd,hold,S⟩:=hS
 obtain ⟨d,op,ty,pos,af,gd⟩:=o
 simp only at ho hn hK
 subst ho
 have hml:=hm (nl,.free) (by simp)
 obtain ⟨ow',hd',⟨h1,h2⟩,S',hr⟩:=S.newMap hml f g
 have hrun:(execOp a.eval ⟨d,.makeMap t none,ty,pos,af,gd⟩).run P w=.ok (.value (.map (some w.heap.size))) (w.alloc (.map #[] 0)):=by
  have:(Instr.makeMap t none).run P w=.ok (.map (some w.heap.size)) (w.alloc (.map #[] 0)):=rfl
  simp only [execOp,Option.map_none,Sem.run_bind,this,Result.andThen_ok,Sem.run_pure]
 exact wp_val' hrun (hK _ _ ⟨ow',hd',hold.step fun b hb _=>h1 b (Nat.lt_of_lt_of_le hb S.below.size),S'.put hn hr⟩)
theorem wp_skip' {o:Oper} {a:Act} {w w':World} {K:Act→World→Prop} {Q:Exit→Act→World→Prop} (hrun:(execOp a.eval o).run P w=.ok .skip w') (h:K (a.put o.dst undef) w'):o.wp P a w K Q:=by
 unfold Oper.wp; rw [hrun]; exact h
def KV (x:FV) (u:Value):Prop:=∀ (A:Nat→Bool) (hd:Nat→Value) (ow:Nat→Bool) (w:World) (v:Value),RF A hd ow w x v→v=u
theorem kv_v (u:Value):KV (.d (.v u)) u:=fun A hd ow w v h=>by simp only [RF,R] at h; exact h.1
instance decFin {n:Nat} {α:Type} [DecidableEq α]:DecidableEq (Fin n→α):=fun f g=>decidable_of_iff (∀ i,f i=g i) ⟨funext,fun h i=>h ▸ rfl⟩
theorem ylook {t kt et l:Nat} {x y:Operand} {k:κ} {z:ν} {r:FV} {fk:FV} (hfk:KV fk (f k)) (c:Bool) (h1:P.underlying t=some (.map kt et)) (hk:KW P kt f) (hz:∀ w,(zeroValue et).run P w=.ok (g z) w) (hg:∀ v,(g v).oneCell'=true)
  (hr:r=if c then .d (.tup [.v (g ((mget E k).getD z)),.v (.bool (mget E k).isSome)]) else .d (.v (g ((mget E k).getD z)))) :
  Ext P T (.lookup t x y c) [.srf l,fk] [(l,.cu (mapC f g E) [])] r []:=by
 intro n w0 st a w o hT hS ho hn hv hm K Q hK
 obtain ⟨ow,hd,hold,S⟩:=hS
 obtain ⟨dst,op,ty,pos,af,gd⟩:=o
 simp only at ho hn hK
 subst ho
 simp [Op.operands] at hv
 obtain ⟨hv1,hv2⟩:=hv
 have hml:=hm (l,.cu (mapC f g E) []) (by simp)
 obtain ⟨g1,vs,g2,b,clock,es,q1,q2,q3,q4⟩:=S.objs l _ hml
 have hx:=S.eval x
 rw [hv1] at hx
 simp only [RF] at hx
 obtain ⟨_,hx,_⟩:=hx
 have hy:a.eval y=f k:=by have:=S.eval y; rw [hv2] at this; exact hfk _ _ _ _ _ this
 have hf:=hk.find g k es.toList E w q3
 have hrun:(Instr.lookup t (.map (some b)) (f k) c).run P w=.ok (if c then .tuple #[g ((mget E k).getD z),.bool (mget E k).isSome] else g ((mget E k).getD z)) w:=by
  cases hq:mplc E k with
  | none =>
   rw [hq] at hf
   simp [Instr.lookup,run_underlying h1,MapKept.run_getObj_map q2,hk.chk,hf,Result.andThen,mget,hq,hz]
  | some q =>
   rw [hq] at hf
   simp [Instr.lookup,run_underlying h1,MapKept.run_getObj_map q2,hk.chk,hf,Result.andThen,mget,hq]
 have hrun':(execOp a.eval ⟨dst,.lookup t x y c,ty,pos,af,gd⟩).run P w=.ok (.value (if c then .tuple #[g ((mget E k).getD z),.bool (mget E k).isSome] else g ((mget E k).getD z))) w:=by
  simp only [execOp,hx,q1,hy,Sem.run_bind,hrun,Result.andThen_ok,Sem.run_pure]
 refine wp_val' hrun' (hK _ _ ⟨ow,hd,hold,S.put hn ?_⟩)
 rw [hr]
 cases c
 ·simp only [Bool.false_eq_true,if_false,RF,R]; exact ⟨trivial,hg _⟩
 ·simp only [if_true,RF,R,RT]
  exact ⟨_,rfl,_,_,rfl,⟨rfl,hg _⟩,_,_,rfl,⟨rfl,rfl⟩,rfl⟩
theorem yput {t kt et l:Nat} {x y z:Operand} {k:κ} {v:ν} {fk:FV} (hfk:KV fk (f k)) (h1:P.underlying t=some (.map kt et)) (hk:KW P kt f) :
  Ext P T (.mapUpdate t x y z) [.srf l,fk,.d (.v (g v))] [(l,.cu (mapC f g E) [])] .dead [(l,.cu (mapC f g (mput E k v)) [])]:=by
 intro n w0 st a w o hT hS ho hn hv hm K Q hK
 obtain ⟨ow,hd,hold,S⟩:=hS
 obtain ⟨dst,op,ty,pos,af,gd⟩:=o
 simp only at ho hn hK
 subst ho
 simp [Op.operands] at hv
 obtain ⟨hv1,hv2,hv3⟩:=hv
 have hml:=hm (l,.cu (mapC f g E) []) (by simp)
 simp only at hml
 obtain ⟨g1,vs,g2,b,clock,es,q1,q2,q3,q4⟩:=S.objs l _ hml
 have hx:=S.eval x
 rw [hv1] at hx
 simp only [RF] at hx
 obtain ⟨_,hx,_⟩:=hx
 have hy:a.eval y=f k:=by have:=S.eval y; rw [hv2] at this; exact hfk _ _ _ _ _ this
 obtain ⟨hzz,_⟩:=S.v hv3
 have hf:=hk.find g k es.toList E w q3
 have hgo:∃ es' clock',(Instr.mapUpdate t (.map (some b)) (f k) (g v)).run P w=.ok () { w with heap:=w.heap.setIfInBounds b (.map es' clock') }∧es'.toList.map (fun e=>(e.key,e.val))=(mput E k v).map (fun p=>(f p.1,g p.2))∧Stp es'.toList clock':=by
  cases hq:mplc E k with
  | none =>
   rw [hq] at hf
   refine ⟨es.push { key:=f k,val:=g v,born:=clock },clock+1,?_,?_,by rw [Array.toList_push]; exact q4.push _ _⟩
   ·simp [Instr.mapUpdate,run_underlying h1,MapKept.run_getObj_map q2,hk.chk,hf,run_setObj_map _ q2,Result.andThen]
   ·simp [mput,hq,q3]
  | some q =>
   obtain ⟨i,v0⟩:=q
   rw [hq] at hf
   have he:=mplc_some hq
   have hi:(es.toList.map (fun e=>(e.key,e.val)))[i]?=some (f k,g v0):=by rw [q3,List.getElem?_map,he]; rfl
   rw [List.getElem?_map] at hi
   cases hj:es.toList[i]? with
   | none=>simp [hj] at hi
   | some e =>
    simp [hj] at hi
    have hj':es[i]?=some e:=by simpa using hj
    refine ⟨es.modify i fun e=>{ e with key:=f k,val:=g v },clock,?_,?_,by rw [Array.toList_modify]; exact q4.of_born (mod_born _ _ _ _)⟩
    ·simp [Instr.mapUpdate,run_underlying h1,MapKept.run_getObj_map q2,hk.chk,hf,hj',hi.1,hk.stay,run_setObj_map _ q2,Result.andThen]
    ·simp only [mput,hq]
     apply List.ext_getElem?
     intro j
     have hjj:=congrArg (fun L=>L[j]?) q3
     simp only [List.getElem?_map,Array.toList_modify,List.getElem?_modify,List.getElem?_set] at hjj ⊢
     by_cases e1:i=j
     ·subst e1
      have hlt:i<E.length:=(List.getElem?_eq_some_iff.1 he).1
      simp [hj,hlt]
     ·simp only [e1,if_false]
      rw [← hjj]
      cases es.toList[j]? <;> rfl
 obtain ⟨es',clock',hrun,hes⟩:=hgo
 have hrun':(execOp a.eval ⟨dst,.mapUpdate t x y z,ty,pos,af,gd⟩).run P w=.ok .skip { w with heap:=w.heap.setIfInBounds b (.map es' clock') }:=by
  simp only [execOp,hx,q1,hy,hzz,Sem.run_bind,hrun,Result.andThen_ok,Sem.run_pure]
 obtain ⟨h2,h3⟩:=heap_set (o':=.map es' clock') q2
 obtain ⟨hnw,how⟩:=g1 b (by rw [q1]; first | rfl | simp [blocksOf,blockOf])
 have hbel:Below 0 w { w with heap:=w.heap.setIfInBounds b (.map es' clock') }:=⟨rfl,rfl,rfl,by simp,fun j hj=>by omega⟩
 have S':=S.set (l:=l) (b:=b) (o':=.cu (mapC f g (mput E k v)) []) hml rfl rfl (by rw [q1]; first | rfl | simp [blocksOf,blockOf]) h3 (by simp) (Kt.of_one hbel hnw h3)
  ⟨fun b' hb'=>g1 b' hb',[],by simp [RFL],b,clock',es',q1,h2,hes⟩
 exact wp_skip' hrun' (hK _ _ ⟨ow,hd,hold,by
  have:=S'.put hn (x:=.dead) (v:=undef) (by simp only [RF])
  exact this⟩)
end
end Go.Proofs.YtofjjaagjkbeaaaGreat.pv
namespace Go.Proofs.YtofjjaagjkbeaaaGreat.pv
set_option linter.all false
open Go.RowKit
section
variable {P:Program} {T:List TI} {n:Nat} {w0:Cx} {st:PS} {a:Act} {w:World} {ow:Nat→Bool} {hd:Nat→Value}
theorem cell_at {b k N:Nat} {cur:Array Value} {ty:TypeId} {cells:List Value} {u:Value} (hb:w.heap[b]?=some (.cells cur ty (0,0))) (hc:cur.toList.take N=cells) (hu:cells[k]?=some u):w.cell? ⟨b,k,none⟩=some u:=by
 rw [← hc,List.getElem?_take] at hu
 split at hu
 ·exact cell_of_block hb hu
 ·cases hu
def minus (q:Nat→Bool) (k:Nat):Nat→Bool:=fun i=>q i&&!decide (i=k)
end
end Go.Proofs.YtofjjaagjkbeaaaGreat.pv
namespace Go.Proofs.YtofjjaagjkbeaaaGreat.pv
set_option linter.all false
open Go.RowKit
section
variable {P:Program} {T:List TI} {n:Nat} {w0:Cx} {st:PS} {a:Act} {w:World} {ow:Nat→Bool} {hd:Nat→Value}
end
end Go.Proofs.YtofjjaagjkbeaaaGreat.pv
namespace Go.Proofs.YtofjjaagjkbeaaaGreat.pv
set_option linter.all false
open Go.RowKit
section
variable {P:Program} {T:List TI} {n:Nat} {w0:Cx} {st:PS} {a:Act} {w:World} {ow:Nat→Bool} {hd:Nat→Value}
def nClose (l B L ty sz:Nat) (ct:Nat→Nat×Nat) (q':Nat→Bool) (hs':List (Option Nat)) (xs':List PV) (fs:List FV) (j:Nat) (st:PS):PS :=
 ⟨st.f,((st.m.set B .none).set L .none).set l (.cu (outC ty sz q' hs' xs') ((fs.set 0 (.srf st.m.length)).set (j+1) (.d (.v noB))))++[.cu (bagC ct q' xs') []]⟩
def nSame (l B ty sz:Nat) (ct:Nat→Nat×Nat) (q':Nat→Bool) (hs:List (Option Nat)) (xs:List PV) (fs:List FV) (st:PS):PS:=⟨st.f,(st.m.set l (.cu (outC ty sz q' hs xs) fs)).set B (.cu (bagC ct q' xs) [])⟩
inductive Lend (m0:List (Nat×PO)):Nat→PV→Prop where
 | row (l e s:Nat) (ys:List PV):(l,.row e s ys)∈m0→Lend m0 l (.sl ys)
 | nst (l B ty sz:Nat) (ct:Nat→Nat×Nat) (q:Nat→Bool) (hs:List (Option Nat)) (xs:List PV) (fs:List FV):(l,.cu (outC ty sz q hs xs) fs)∈m0→(B,.cu (bagC ct q xs) [])∈m0→fs[0]?=some (.srf B)→xs.all (fits sz)=true →
  (∀ (j k:Nat),hs[j]?=some (some k)→∃ L e s ys,fs[j+1]?=some (.srf L)∧(L,.row e s ys)∈m0∧(fl xs)[k]?=some (.sl ys))→Lend m0 l (.sl xs)
mutual
def lendF (E:List (Nat×PV)):FV→Option PV
 | .d x=>some x
 | .agg cs=>(match lendL E cs with | some xs=>some (.agg xs) | none=>none)
 | .srf l=>(match E.find? (fun p=>Nat.beq p.1 l) with | some p=>some p.2 | none=>none)
 | .clo f cs=>(match lendL E cs with | some xs=>some (.clo f xs) | none=>none)
 | _=>none
def lendL (E:List (Nat×PV)):List FV→Option (List PV)
 | []=>some []
 | x::xs=>match lendF E x,lendL E xs with
  | some y,some ys=>some (y::ys)
  | _,_=>none
end
mutual
theorem lend_sound {E:List (Nat×PV)} (S:SimW n w0 st a w ow hd) (hE:∀ q∈E,R (fun _=>false) w q.2 (hd q.1)):∀ (x:FV) (u:Value) (y:PV),lendF E x=some y→RF (al st.m) hd ow w x u→R (fun _=>false) w y u
 | .d x,u,y,h,hr=>by
  simp [lendF] at h; subst h
  exact R.mono ⟨Nat.le_refl _,fun _ _ _=>rfl,fun _ _ _=>rfl⟩ _ _ (by simpa only [RF] using hr)
 | .agg cs,u,y,h,hr=>by
  simp only [lendF] at h
  split at h
  ·rename_i xs hx
   simp at h; subst h
   simp only [RF] at hr
   obtain ⟨vs,e,hr⟩:=hr
   simp only [R]
   exact ⟨vs,e,lendL_sound S hE cs vs xs hx hr⟩
  ·cases h
 | .clo f cs,u,y,h,hr=>by
  simp only [lendF] at h
  split at h
  ·rename_i xs hx
   simp at h; subst h
   simp only [RF] at hr
   obtain ⟨vs,e,hr⟩:=hr
   simp only [R]
   exact ⟨vs,e,lendL_sound S hE cs vs xs hx hr⟩
  ·cases h
 | .srf l,u,y,h,hr=>by
  simp only [lendF] at h
  split at h
  ·rename_i p hp
   simp at h; subst h
   have h1:=hE p (List.mem_of_find?_eq_some hp)
   have h2:=List.find?_some hp
   have h3:p.1=l:=by simpa using h2
   simp only [RF] at hr
   rw [hr.2.1,← h3]; exact h1
  ·cases h
 | .tup _,_,_,h,_=>by simp [lendF] at h
 | .ref _ _,_,_,h,_=>by simp [lendF] at h
 | .ept _ _ _ _,_,_,h,_=>by simp [lendF] at h
 | .asl _ _ _ _ _ _,_,_,h,_=>by simp [lendF] at h
 | .ssl _ _ _ _,_,_,h,_=>by simp [lendF] at h
 | .dead,_,_,h,_=>by simp [lendF] at h
theorem lendL_sound {E:List (Nat×PV)} (S:SimW n w0 st a w ow hd) (hE:∀ q∈E,R (fun _=>false) w q.2 (hd q.1)):∀ (xs:List FV) (us:List Value) (ys:List PV),lendL E xs=some ys→RFL (al st.m) hd ow w xs us→RL (fun _=>false) w ys us
 | [],us,ys,h,hr=>by simp [lendL] at h; subst h; simpa only [RFL,RL] using hr
 | x::xs,us,ys,h,hr=>by
  simp only [lendL] at h
  split at h
  ·rename_i z zs h1 h2
   simp at h; subst h
   simp only [RFL] at hr
   obtain ⟨v,r,e,g1,g2,g3⟩:=hr
   simp only [RL]
   exact ⟨v,r,e,lend_sound S hE x v z h1 g1,g2,lendL_sound S hE xs r zs h2 g3⟩
  ·cases h
theorem lendT_sound {E:List (Nat×PV)} (S:SimW n w0 st a w ow hd) (hE:∀ q∈E,R (fun _=>false) w q.2 (hd q.1)):∀ (xs:List FV) (us:List Value) (ys:List PV),lendL E xs=some ys→RFT (al st.m) hd ow w xs us→RT (fun _=>false) w ys us
 | [],us,ys,h,hr=>by simp [lendL] at h; subst h; simpa only [RFT,RT] using hr
 | x::xs,us,ys,h,hr=>by
  simp only [lendL] at h
  split at h
  ·rename_i z zs h1 h2
   simp at h; subst h
   simp only [RFT] at hr
   obtain ⟨v,r,e,g1,g3⟩:=hr
   simp only [RT]
   exact ⟨v,r,e,lend_sound S hE x v z h1 g1,lendT_sound S hE xs r zs h2 g3⟩
  ·cases h
end
end
end Go.Proofs.YtofjjaagjkbeaaaGreat.pv
namespace Go.Proofs.YtofjjaagjkbeaaaGreat.pv
set_option linter.all false
open Go.RowKit
def plus (q:Nat→Bool) (k:Nat):Nat→Bool:=fun i=>q i||decide (i=k)
def qpre (q:Nat→Bool) (N:Nat):Nat→Bool:=fun k=>decide (k<N)&&q k
section
variable {P:Program} {T:List TI} {n:Nat} {w0:Cx} {st:PS} {a:Act} {w:World} {ow:Nat→Bool} {hd:Nat→Value}
end
end Go.Proofs.YtofjjaagjkbeaaaGreat.pv
namespace Go.Proofs.YtofjjaagjkbeaaaGreat.pv
set_option linter.all false
open Go.RowKit
section
variable {P:Program} {T:List TI} {n:Nat} {w0:Cx} {st:PS} {a:Act} {w:World} {ow:Nat→Bool} {hd:Nat→Value}
theorem RE_drop {s:Nat}:∀ (i:Nat) {xs:List PV} {cs:List Value},RE ow w s xs cs→RE ow w s (xs.drop i) (cs.drop (i*s))
 | 0,xs,cs,h=>by simpa using h
 | i+1,[],cs,h=>by simp only [RE] at h; subst h; simp [RE]
 | i+1,x::xs,cs,h=>by
  simp only [RE] at h
  obtain ⟨u,r,rfl,h0,h1,h2,h3⟩:=h
  have e:(u.cells.toList++r).drop ((i+1)*s)=r.drop (i*s):=by
   have hl:u.cells.toList.length=s:=by simpa using h0
   rw [Nat.succ_mul,Nat.add_comm,← List.drop_drop,← hl,List.drop_left]
  rw [List.drop_succ_cons,e]
  exact RE_drop i h3
def nTakeS (l B ty sz k j e s:Nat) (ct:Nat→Nat×Nat) (q:Nat→Bool) (hs:List (Option Nat)) (xs ys:List PV) (fs:List FV) (st:PS):PS :=
 ⟨st.f,updM (st.m++[.free,.free]) [(B,.none),(st.m.length,.row e s ys),(st.m.length+1,.cu (bagC ct (minus q k) xs) []),(l,.cu (outC ty sz (minus q k) (hs.set j (some k)) xs) ((fs.set 0 (.srf (st.m.length+1))).set (j+1) (.srf st.m.length)))]⟩
end
end Go.Proofs.YtofjjaagjkbeaaaGreat.pv
namespace Go.Proofs.YtofjjaagjkbeaaaGreat.pv
set_option linter.all false
open Go.RowKit Go.MapKept
section
variable {κ ν:Type} [DecidableEq κ] {f:κ→Value} {g:ν→PV}
def RM (ow:Nat→Bool) (w:World) (f:κ→Value) (g:ν→PV):List (κ×ν)→List MapEntry→Prop
 | [],[]=>True
 | p::r,e::es=>e.key=f p.1∧R ow w (g p.2) e.val∧e.val.oneCell'=true∧RM ow w f g r es
 | _,_=>False
theorem RM.mono {ow ow':Nat→Bool} {w w':World} (k:Kp ow w ow' w'):∀ {E:List (κ×ν)} {es:List MapEntry},RM ow w f g E es→RM ow' w' f g E es
 | [],[],_=>trivial
 | p::r,e::es,⟨h1,h2,h3,h4⟩=>⟨h1,R.mono k _ _ h2,h3,RM.mono k h4⟩
 | [],_::_,h=>h.elim
 | _::_,[],h=>h.elim
def zv:List (κ×ν)→List MapEntry→List (κ×Value)
 | p::r,e::es=>(p.1,e.val)::zv r es
 | _,_=>[]
def mapR (f:κ→Value) (g:ν→PV) (E:List (κ×ν)):Cust where
 I ow w h vs:=∃ b clock es,h=.map (some b)∧w.heap[b]?=some (.map es clock)∧RM ow w f g E es.toList∧Stp es.toList clock
 lt:=by
  rintro ow w h vs ⟨b,clock,es,rfl,h2,_⟩ b' hb
  simp [blocksOf,blockOf] at hb
  subst hb
  exact (Array.getElem?_eq_some_iff.1 h2).1
 kp:=by
  rintro ow ow' w w' h vs k hb ⟨b,clock,es,rfl,h2,h3,h4⟩
  exact ⟨b,clock,es,rfl,by rw [(hb b (by simp [blocksOf,blockOf])).1]; exact h2,h3.mono k,h4⟩
 one:=by rintro ow w h vs ⟨b,clock,es,rfl,_⟩; rfl
def itR (f:κ→Value) (g:ν→PV) (rest:List (κ×ν)) (cur:Option (κ×ν)):Cust where
 I ow w h vs:=∃ r b clock es since seen c0,h=.pointer (some ⟨r,0,none⟩)∧w.heap[r]?=some (.mapIter (some b) since seen c0)∧b<w.heap.size∧ow b=false∧w.heap[b]?=some (.map es clock)∧Stp es.toList clock∧(∀ e∈es.toList,e.born<since)∧since≤c0∧since≤clock ∧
  RM ow w f g rest (leftOf es seen).toList∧(∀ p,cur=some p→∃ e∈es.toList,∃ seen':Array Nat,seen=seen'.push e.born∧c0=clock∧e.key=f p.1∧R ow w (g p.2) e.val∧e.val.oneCell'=true)
 lt:=by
  rintro ow w h vs ⟨r,b,clock,es,since,seen,c0,rfl,h2,_⟩ b' hb
  simp [blocksOf,blockOf] at hb
  subst hb
  exact (Array.getElem?_eq_some_iff.1 h2).1
 kp:=by
  rintro ow ow' w w' h vs k hb ⟨r,b,clock,es,since,seen,c0,rfl,h2,h3,h4,h5,h6,h7,h8,h9,h10,h11⟩
  refine ⟨r,b,clock,es,since,seen,c0,rfl,by rw [(hb r (by simp [blocksOf,blockOf])).1]; exact h2,Nat.lt_of_lt_of_le h3 k.size,k.pub b h3 h4,by rw [k.same b h3 h4]; exact h5,h6,h7,h8,h9,h10.mono k,fun p hp=>?_⟩
  obtain ⟨e,q1,s,q2,q3,q4,q5,q6⟩:=h11 p hp
  exact ⟨e,q1,s,q2,q3,q4,R.mono k _ _ q5,q6⟩
 one:=by rintro ow w h vs ⟨r,b,clock,es,since,seen,c0,rfl,_⟩; rfl
end
section
variable {P:Program} {T:List TI} {n:Nat} {w0:Cx} {st:PS} {a:Act} {w:World} {ow:Nat→Bool} {hd:Nat→Value}
variable {κ ν:Type} [DecidableEq κ] {f:κ→Value} {g:ν→PV} {E:List (κ×ν)}
def ndReg:Code→Option (Nat×Nat×Nat)
 | .region _ ops false=>match ops.toList with
  | [⟨some d1,.next (.tmp it) false,_,_,_,none⟩,⟨some d2,.extract (.tmp d1') 0,_,_,_,none⟩]=>if d1=d1' then some (it,d1,d2) else none
  | _=>none
 | _=>none
theorem eval_put {a:Act} {d:Nat} {v:Value} (h:d<a.tmps.size):(a.put (some d) v).eval (.tmp d)=v:=by
 simp [Act.put,Act.eval,Array.getElem?_set,h]
end
def insAll {α:Type} (x:α):List α→List (List α)
 | []=>[[x]]
 | y::l=>(x::y::l)::(insAll x l).map (y::·)
def perms {α:Type}:List α→List (List α)
 | []=>[[]]
 | x::l=>(perms l).flatMap (insAll x)
theorem mem_ins {α:Type} {x:α}:∀ {A B:List α},A++x::B∈insAll x (A++B)
 | [],[]=>by simp [insAll]
 | [],y::B=>by simp [insAll]
 | a::A,B=>by
  simp only [List.cons_append,insAll,List.mem_cons,List.mem_map]
  exact .inr ⟨_,mem_ins,rfl⟩
theorem of_ins {α:Type} {x:α}:∀ {l q:List α},q∈insAll x l→q.Perm (x::l)
 | [],q,h=>by simp [insAll] at h; subst h; exact .refl _
 | y::l,q,h=>by
  simp only [insAll,List.mem_cons,List.mem_map] at h
  rcases h with rfl | ⟨z,hz,rfl⟩
  ·exact .refl _
  ·exact (List.Perm.cons y (of_ins hz)).trans (List.Perm.swap x y l)
theorem mem_perms {α:Type}:∀ {l q:List α},q.Perm l→q∈perms l
 | [],q,h=>by rw [h.eq_nil]; simp [perms]
 | x::l,q,h=>by
  have hx:x∈q:=h.symm.subset (by simp)
  obtain ⟨A,B,rfl⟩:=List.append_of_mem hx
  have h2:(A++B).Perm l:=(List.perm_middle.symm.trans h).cons_inv
  simp only [perms,List.mem_flatMap]
  exact ⟨_,mem_perms h2,mem_ins⟩
theorem of_perms {α:Type}:∀ {l q:List α},q∈perms l→q.Perm l
 | [],q,h=>by simp [perms] at h; subst h; exact .refl _
 | x::l,q,h=>by
  simp only [perms,List.mem_flatMap] at h
  obtain ⟨z,hz,hq⟩:=h
  exact (of_ins hq).trans (List.Perm.cons x (of_perms hz))
end Go.Proofs.YtofjjaagjkbeaaaGreat.pv
namespace Go.Proofs.YtofjjaagjkbeaaaGreat.pv
set_option linter.all false
open Go.RowKit Go.MapKept
def stampC:Cust where
 I ow w h vs:=∃ s:Int,h=.int .i64 s
 lt:=by
  rintro ow w h vs ⟨s,rfl⟩ b hb
  simp [blocksOf,blockOf] at hb
 kp:=fun _ _ h=>h
 one:=by rintro ow w h vs ⟨s,rfl⟩; rfl
section
variable {κ ν:Type} [DecidableEq κ]
def entP (f:κ→Value) (g:ν→Value) (E:List (κ×ν)) (k:κ) (z:ν) (es:Array MapEntry) (i:Nat):Prop :=
 ((∃ v0,mplc E k=some (i,v0))∧es.toList.map (fun e=>(e.key,e.val))=E.map (fun p=>(f p.1,g p.2)))∨(mplc E k=none∧i=E.length∧es.toList.map (fun e=>(e.key,e.val))=(E++[(k,z)]).map (fun p=>(f p.1,g p.2)))
def mapE (f:κ→Value) (g:ν→Value) (E:List (κ×ν)) (k:κ) (z:ν):Cust where
 I ow w h vs:=∃ (b clock:Nat) (es:Array MapEntry) (i:Nat) (e:MapEntry),h=.map (some b)∧w.heap[b]?=some (.map es clock)∧Stp es.toList clock∧vs=[.int .i64 (e.born:Int)]∧es.toList[i]?=some e∧entP f g E k z es i
 lt:=by
  rintro ow w h vs ⟨b,clock,es,i,e,rfl,h2,_⟩ b' hb
  simp [blocksOf,blockOf] at hb
  subst hb
  exact (Array.getElem?_eq_some_iff.1 h2).1
 kp:=by
  rintro ow ow' w w' h vs q hb ⟨b,clock,es,i,e,rfl,h2,h3⟩
  exact ⟨b,clock,es,i,e,rfl,by rw [(hb b (by simp [blocksOf,blockOf])).1]; exact h2,h3⟩
 one:=by rintro ow w h vs ⟨b,clock,es,i,e,rfl,_⟩; rfl
end
section
variable {P:Program} {T:List TI} {n:Nat} {w0:Cx} {st:PS} {a:Act} {w:World} {ow:Nat→Bool} {hd:Nat→Value}
variable {κ ν:Type} [DecidableEq κ] {f:κ→Value} {g:ν→Value} {E:List (κ×ν)}
theorem mentry {t kt et l nl:Nat} {x y:Operand} {k:κ} {z:ν} {fk:FV} (hfk:KV fk (f k)) (h1:P.underlying t=some (.map kt et)) (hk:KW P kt f) (hz:∀ w,(zeroValue et).run P w=.ok (g z) w) (hg:∀ v,(g v).oneCell'=true) (hne:l≠nl) :
  Ext P T (.mapEntry t x y) [.srf l,fk] [(l,.cu (mapC f g E) []),(nl,.free)] (.tup [.dead,.srf nl]) [(l,.cu (mapE f g E k z) [.srf nl]),(nl,.cu stampC [])]:=by
 intro n w0 st a w o hT hS ho hn hv hm K Q hK
 obtain ⟨ow,hd,hold,S⟩:=hS
 obtain ⟨dst,op,ty,pos,af,gd⟩:=o
 simp only at ho hn hK
 subst ho
 simp [Op.operands] at hv
 obtain ⟨hv1,hv2⟩:=hv
 have hml:=hm (l,.cu (mapC f g E) []) (by simp)
 have hmn:=hm (nl,.free) (by simp)
 simp only at hml hmn
 obtain ⟨g1,vs,g2,b,clock,es,q1,q2,q3,q4⟩:=S.objs l _ hml
 have hx:=S.eval x
 rw [hv1] at hx
 simp only [RF] at hx
 obtain ⟨_,hx,_⟩:=hx
 have hy:a.eval y=f k:=by have:=S.eval y; rw [hv2] at this; exact hfk _ _ _ _ _ this
 have hf:=hk.find g k es.toList E w q3
 have hgo:∃ es' clock' i e v,(Instr.mapEntry t (.map (some b)) (f k)).run P w=.ok (.tuple #[v,.int .i64 ((e:MapEntry).born:Int)]) { w with heap:=w.heap.setIfInBounds b (.map es' clock') }∧Stp es'.toList clock'∧es'.toList[i]?=some e∧entP f g E k z es' i:=by
  cases hq:mplc E k with
  | none =>
   rw [hq] at hf
   refine ⟨es.push { key:=f k,val:=g z,born:=clock },clock+1,E.length,{ key:=f k,val:=g z,born:=clock },g z,?_,by rw [Array.toList_push]; exact q4.push _ _,?_,.inr ⟨hq,rfl,?_⟩⟩
   ·simp [Instr.mapEntry,run_underlying h1,MapKept.run_getObj_map q2,hk.chk,hf,hz,run_setObj_map _ q2,Result.andThen,goInt]
   ·have:es.size=E.length:=by have:=congrArg List.length q3; simpa using this
    rw [Array.toList_push,← this]; simp
   ·simp [q3]
  | some q =>
   obtain ⟨i,v0⟩:=q
   rw [hq] at hf
   have he:=mplc_some hq
   have hi:(es.toList.map (fun e=>(e.key,e.val)))[i]?=some (f k,g v0):=by rw [q3,List.getElem?_map,he]; rfl
   rw [List.getElem?_map] at hi
   cases hj:es.toList[i]? with
   | none=>simp [hj] at hi
   | some e =>
    simp [hj] at hi
    have hj':es[i]?=some e:=by simpa using hj
    have hee:(es.modify i fun e=>{ e with key:=f k })=es:=by
     apply Array.ext_getElem?
     intro j
     rw [Array.getElem?_modify]
     by_cases e1:i=j
     ·subst e1
      rw [if_pos rfl,hj']
      simp [← hi.1]
     ·rw [if_neg e1]
    refine ⟨es,clock,i,e,g v0,?_,q4,hj,.inl ⟨⟨v0,hq⟩,q3⟩⟩
    simp [Instr.mapEntry,run_underlying h1,MapKept.run_getObj_map q2,hk.chk,hf,hj',hi.1,hk.stay,hee,run_setObj_map _ q2,Result.andThen,goInt]
 obtain ⟨es',clock',i,e,v,hrun,hst,hei,hes⟩:=hgo
 have hrun':(execOp a.eval ⟨dst,.mapEntry t x y,ty,pos,af,gd⟩).run P w=.ok (.value (.tuple #[v,.int .i64 (e.born:Int)])) { w with heap:=w.heap.setIfInBounds b (.map es' clock') }:=by
  simp only [execOp,hx,q1,hy,Sem.run_bind,hrun,Result.andThen_ok,Sem.run_pure]
 obtain ⟨h2,h3⟩:=heap_set (o':=.map es' clock') q2
 obtain ⟨hnw,how⟩:=g1 b (by rw [q1]; first | rfl | simp [blocksOf,blockOf])
 have hbel:Below 0 w { w with heap:=w.heap.setIfInBounds b (.map es' clock') }:=⟨rfl,rfl,rfl,by simp,fun j hj=>by omega⟩
 -- the stamp
 have hal0:al st.m nl=false:=by simp [al,hmn,PO.made]
 have hnlt:nl<st.m.length:=(List.getElem?_eq_some_iff.1 hmn).1
 obtain ⟨S1,ha1⟩:SimW n w0 ⟨st.f,st.m.set nl (.cu stampC [])⟩ a w ow (upd hd nl (.int .i64 (e.born:Int)))∧(∀ j,al st.m j=true→al (st.m.set nl (.cu stampC [])) j=true∧upd hd nl (.int .i64 (e.born:Int)) j=hd j):=by
  refine ⟨S.obj (l:=nl) (hv:=.int .i64 (e.born:Int)) (o:=.cu stampC []) (Kp.refl _ _) (Kt.refl _ _) S.fresh (.inl hal0) rfl ⟨fun b hb=>by simp [blocksOf,blockOf] at hb,[],by simp [RFL],_,rfl⟩
   (fun j oj b hne hj hlj hb=>⟨rfl,rfl,fun _ hb'=>by simp [blocksOf,blockOf] at hb'⟩),fun j hj=>⟨al_set_mono rfl j hj,?_⟩⟩
  rw [upd_ne]
  intro e; rw [e,hal0] at hj; cases hj
 have hml1:(st.m.set nl (.cu stampC []))[l]?=some (.cu (mapC f g E) []):=by rw [List.getElem?_set,if_neg (Ne.symm hne)]; exact hml
 have haln:al (st.m.set nl (.cu stampC [])) nl=true:=by rw [al_set_same hnlt]; rfl
 have hup:upd hd nl (.int .i64 (e.born:Int)) l=hd l:=by rw [upd_ne]; exact hne
 have S2:=S1.set (l:=l) (b:=b) (o':=.cu (mapE f g E k z) [.srf nl]) hml1 rfl rfl (by rw [hup,q1]; first | rfl | simp [blocksOf,blockOf]) h3 (by simp) (Kt.of_one hbel hnw h3)
  ⟨fun b' hb'=>by rw [hup] at hb'; exact g1 b' hb',[.int .i64 (e.born:Int)],by
   simp only [RFL,RF]
   exact ⟨_,_,rfl,⟨al_set_mono rfl _ haln,by rw [upd_same],by rw [upd_same]; rfl⟩,rfl,rfl⟩,b,clock',es',i,e,by rw [hup]; exact q1,h2,hst,rfl,hei,hes⟩
 have hcomm:(st.m.set l (.cu (mapE f g E k z) [.srf nl])).set nl (.cu stampC [])=(st.m.set nl (.cu stampC [])).set l (.cu (mapE f g E k z) [.srf nl]):=List.set_comm _ _ hne
 have S3:=S2.put hn (x:=.tup [.dead,.srf nl]) (v:=.tuple #[v,.int .i64 (e.born:Int)]) (by
  simp only [RF,RFT]
  exact ⟨[v,.int .i64 (e.born:Int)],rfl,_,_,rfl,trivial,_,_,rfl,⟨al_set_mono rfl _ haln,by rw [upd_same],by rw [upd_same]; rfl⟩,rfl⟩)
 refine wp_val' hrun' (hK _ _ ⟨ow,upd hd nl (.int .i64 (e.born:Int)),hold,?_⟩)
 simpa only [PS.act,updM,hcomm] using S3
theorem estore {t l nl:Nat} {x y u:Operand} {k:κ} {z v:ν} :
  Ext P T (.entryStore t x y u) [.srf l,.srf nl,.d (.v (g v))] [(l,.cu (mapE f g E k z) [.srf nl])] .dead [(l,.cu (mapC f g (mput E k v)) [])]:=by
 intro n w0 st a w o hT hS ho hn hv hm K Q hK
 obtain ⟨ow,hd,hold,S⟩:=hS
 obtain ⟨dst,op,ty,pos,af,gd⟩:=o
 simp only at ho hn hK
 subst ho
 simp [Op.operands] at hv
 obtain ⟨hv1,hv2,hv3⟩:=hv
 have hml:=hm (l,.cu (mapE f g E k z) [.srf nl]) (by simp)
 simp only at hml
 obtain ⟨g1,vs,g2,b,clock,es,i,e,q1,q2,q4,rfl,hei,hes⟩:=S.objs l _ hml
 have hx:=S.eval x
 rw [hv1] at hx
 simp only [RF] at hx
 obtain ⟨_,hx,_⟩:=hx
 simp only [RFL,RF] at g2
 obtain ⟨_,_,e0,⟨_,hh,_⟩,_,_⟩:=g2
 simp at e0
 obtain ⟨e0,_⟩:=e0
 have hy:=S.eval y
 rw [hv2] at hy
 simp only [RF] at hy
 obtain ⟨_,hy,_⟩:=hy
 rw [← hh,← e0] at hy
 obtain ⟨hzz,_⟩:=S.v hv3
 have hej:es[i]?=some e:=by simpa using hei
 have hidx:es.findIdx? (fun x=>(x.born:Int) == (e.born:Int))=some i:=by
  rw [Array.findIdx?_eq_some_iff_getElem]
  have hi:=(Array.getElem?_eq_some_iff.1 hej).1
  refine ⟨hi,by rw [(Array.getElem?_eq_some_iff.1 hej).2]; simp,fun j hj=>?_⟩
  have:=List.pairwise_iff_getElem.1 q4.2 j i (by simp; omega) (by simpa using hi) hj
  simp only [Array.getElem_toList] at this
  rw [(Array.getElem?_eq_some_iff.1 hej).2] at this
  simp; omega
 have hrun:(Instr.entryStore t (.map (some b)) (.int .i64 (e.born:Int)) (g v)).run P w=.ok () { w with heap:=w.heap.setIfInBounds b (.map (es.modify i fun e=>{ e with val:=g v }) clock) }:=by
  simp [Instr.entryStore,MapKept.run_getObj_map q2,asInt,asIntOf,hidx,run_setObj_map _ q2,Result.andThen]
 have hrun':(execOp a.eval ⟨dst,.entryStore t x y u,ty,pos,af,gd⟩).run P w=.ok .skip { w with heap:=w.heap.setIfInBounds b (.map (es.modify i fun e=>{ e with val:=g v }) clock) }:=by
  simp only [execOp,hx,q1,hy,hzz,Sem.run_bind,hrun,Result.andThen_ok,Sem.run_pure]
 have hnew:(es.modify i fun e=>{ e with val:=g v }).toList.map (fun e=>(e.key,e.val))=(mput E k v).map (fun p=>(f p.1,g p.2)):=by
  have go:∀ (E':List (κ×ν)),es.toList.map (fun e=>(e.key,e.val))=E'.map (fun p=>(f p.1,g p.2))→(∃ v0,E'[i]?=some (k,v0))→(es.modify i fun e=>{ e with val:=g v }).toList.map (fun e=>(e.key,e.val))=(E'.set i (k,v)).map (fun p=>(f p.1,g p.2)):=by
   rintro E' h ⟨v0,h0⟩
   apply List.ext_getElem?
   intro j
   have hjj:=congrArg (fun L=>L[j]?) h
   simp only [List.getElem?_map,Array.toList_modify,List.getElem?_modify,List.getElem?_set] at hjj ⊢
   by_cases e1:i=j
   ·subst e1
    have hlt:i<E'.length:=(List.getElem?_eq_some_iff.1 h0).1
    rw [hei,h0] at hjj
    simp at hjj
    simp [hei,hlt,hjj.1]
   ·simp only [e1,if_false]
    rw [← hjj]
    cases es.toList[j]? <;> rfl
  rcases hes with ⟨⟨v0,hp⟩,h⟩ | ⟨hp,rfl,h⟩
  ·rw [go E h ⟨v0,mplc_some hp⟩]
   simp [mput,hp]
  ·rw [go _ h ⟨z,by simp⟩]
   simp [mput,hp]
 have hst:Stp (es.modify i fun e=>{ e with val:=g v }).toList clock:=q4.of_born (by
  rw [Array.toList_modify]
  generalize es.toList=L
  clear q4 hei hes hej hidx hrun hrun' hnew q2
  induction L generalizing i with
  | nil=>simp
  | cons y L ih=>cases i with
   | zero=>rfl
   | succ i=>simp only [List.modify_succ_cons,List.map_cons,ih])
 obtain ⟨h2,h3⟩:=heap_set (o':=.map (es.modify i fun e=>{ e with val:=g v }) clock) q2
 obtain ⟨hnw,how⟩:=g1 b (by rw [q1]; first | rfl | simp [blocksOf,blockOf])
 have hbel:Below 0 w { w with heap:=w.heap.setIfInBounds b (.map (es.modify i fun e=>{ e with val:=g v }) clock) }:=⟨rfl,rfl,rfl,by simp,fun j hj=>by omega⟩
 have S':=S.set (l:=l) (b:=b) (o':=.cu (mapC f g (mput E k v)) []) hml rfl rfl (by rw [q1]; first | rfl | simp [blocksOf,blockOf]) h3 (by simp) (Kt.of_one hbel hnw h3)
  ⟨fun b' hb'=>g1 b' hb',[],by simp [RFL],b,clock,_,q1,h2,hnew,hst⟩
 exact wp_skip' hrun' (hK _ _ ⟨ow,hd,hold,by
  have:=S'.put hn (x:=.dead) (v:=undef) (by simp only [RF])
  exact this⟩)
end
end Go.Proofs.YtofjjaagjkbeaaaGreat.pv
namespace Go.Proofs.YtofjjaagjkbeaaaGreat.pv
set_option linter.all false
open Go.RowKit Go.MapKept
structure Gam where
 b:List Nat
 c:Nat
section
variable {κ ν:Type} [DecidableEq κ] {f:κ→Value} {g:ν→Value}
def mapG (γ:Gam) (f:κ→Value) (g:ν→Value) (E:List (κ×ν)):Cust where
 I ow w h vs:=∃ b es,h=.map (some b)∧w.heap[b]?=some (.map es γ.c)∧es.toList.map (fun e=>(e.key,e.val))=E.map (fun p=>(f p.1,g p.2))∧es.toList.map (·.born)=γ.b∧Stp es.toList γ.c
 lt:=by
  rintro ow w h vs ⟨b,es,rfl,h2,_⟩ b' hb
  simp [blocksOf,blockOf] at hb
  subst hb
  exact (Array.getElem?_eq_some_iff.1 h2).1
 kp:=by
  rintro ow ow' w w' h vs k hb ⟨b,es,rfl,h2,h3⟩
  exact ⟨b,es,rfl,by rw [(hb b (by simp [blocksOf,blockOf])).1]; exact h2,h3⟩
 one:=by rintro ow w h vs ⟨b,es,rfl,_⟩; rfl
def restZ (E:List (κ×ν)) (B S:List Nat):List ((κ×ν)×Nat):=(E.zip B).filter (fun x=>!S.contains x.2)
def itP (γ:Gam) (E rest:List (κ×ν)) (cur:Option (κ×ν)) (since:Nat) (seen:Array Nat) (c0:Nat):Prop :=
 since≤c0∧since≤γ.c∧(∀ x∈γ.b,x<since)∧rest=(restZ E γ.b seen.toList).map (·.1) ∧
  (∀ p,cur=some p→∃ (i bo:Nat),E[i]?=some p∧γ.b[i]?=some bo∧(∃ seen',seen=Array.push seen' bo)∧c0=γ.c)
def itK (γ:Gam) (E rest:List (κ×ν)) (cur:Option (κ×ν)):Cust where
 I ow w h vs:=∃ (r b since:Nat) (seen:Array Nat) (c0:Nat),h=.pointer (some ⟨r,0,none⟩)∧vs=[.map (some b)]∧w.heap[r]?=some (.mapIter (some b) since seen c0)∧itP γ E rest cur since seen c0
 lt:=by
  rintro ow w h vs ⟨r,b,since,seen,c0,rfl,_,h2,_⟩ b' hb
  simp [blocksOf,blockOf] at hb
  subst hb
  exact (Array.getElem?_eq_some_iff.1 h2).1
 kp:=by
  rintro ow ow' w w' h vs k hb ⟨r,b,since,seen,c0,rfl,h1,h2,h3⟩
  exact ⟨r,b,since,seen,c0,rfl,h1,by rw [(hb r (by simp [blocksOf,blockOf])).1]; exact h2,h3⟩
 one:=by rintro ow w h vs ⟨r,b,since,seen,c0,rfl,_⟩; rfl
theorem zip3:∀ (Z:List MapEntry) (E:List (κ×ν)) (B:List Nat),Z.map (fun e=>(e.key,e.val))=E.map (fun p=>(f p.1,g p.2))→Z.map (·.born)=B→Z.map (fun e=>(e.key,e.val,e.born))=(E.zip B).map (fun x=>(f x.1.1,g x.1.2,x.2))
 | [],E,B,h1,h2=>by
  have:E=[]:=by cases E with | nil=>rfl | cons _ _=>simp at h1
  subst this; simp
 | e::Z,[],B,h1,h2=>by simp at h1
 | e::Z,p::E,[],h1,h2=>by simp at h2
 | e::Z,p::E,b::B,h1,h2=>by
  simp only [List.map_cons,List.cons.injEq,Prod.mk.injEq] at h1 h2
  simp only [List.zip_cons_cons,List.map_cons,zip3 Z E B h1.2 h2.2,h1.1.1,h1.1.2,h2.1]
theorem filt3 (S:List Nat):∀ (Z:List MapEntry) (W:List ((κ×ν)×Nat)),Z.map (fun e=>(e.key,e.val,e.born))=W.map (fun x=>(f x.1.1,g x.1.2,x.2))→(Z.filter fun e=>!S.contains e.born).map (fun e=>(e.key,e.val,e.born))=(W.filter fun x=>!S.contains x.2).map (fun x=>(f x.1.1,g x.1.2,x.2))
 | [],[],_=>rfl
 | e::Z,[],h=>by simp at h
 | [],p::W,h=>by simp at h
 | e::Z,p::W,h=>by
  simp only [List.map_cons,List.cons.injEq,Prod.mk.injEq] at h
  have ih:=filt3 S Z W h.2
  simp only [List.filter_cons,h.1.2.2]
  split
  ·simp only [List.map_cons,ih,h.1.1,h.1.2.1,h.1.2.2]
  ·exact ih
end
section
variable {P:Program} {T:List TI} {n:Nat} {w0:Cx} {st:PS} {a:Act} {w:World} {ow:Nat→Bool} {hd:Nat→Value}
variable {κ ν:Type} [DecidableEq κ] {f:κ→Value} {g:ν→Value} {E:List (κ×ν)} {γ:Gam}
theorem SimW.newCuF (S:SimW n w0 st a w ow hd) {l:Nat} (hl:st.m[l]?=some .free) (q:Cust) (fs:List FV) (us:List Value) (hfs:RFL (al st.m) hd ow w fs us) (o:Obj) (hv:Value) (hbl:∀ b,b∈blocksOf hv→b=w.heap.size) (hob:hv.oneCell'=true)
  (hI:∀ ow',ow' w.heap.size=true→Kp ow w ow' (w.alloc o)→q.I ow' (w.alloc o) hv us) :
  ∃ ow' hd',((∀ b,b<w.heap.size→ow' b=ow b)∧∀ j,al st.m j=true→al (st.m.set l (.cu q fs)) j=true∧hd' j=hd j)∧hd' l=hv∧SimW n w0 ⟨st.f,st.m.set l (.cu q fs)⟩ a (w.alloc o) ow' hd'∧al (st.m.set l (.cu q fs)) l=true:=by
 have hsz:(w.alloc o).heap.size=w.heap.size+1:=by simp
 have hk:Kp ow w (fun b=>if b=w.heap.size then true else ow b) (w.alloc o) :=
  ⟨by rw [hsz]; omega,fun b hb h=>by show (if b=w.heap.size then true else ow b)=false; rw [if_neg (by omega)]; exact h,fun b hb _=>Below.heap_alloc w _ b hb⟩
 have hal:al st.m l=false:=by simp [al,hl,PO.made]
 have hlt:l<st.m.length:=(List.getElem?_eq_some_iff.1 hl).1
 have ha:∀ j,al st.m j=true→al (st.m.set l (.cu q fs)) j=true∧upd hd l hv j=hd j:=by
  intro j hj
  refine ⟨al_set_mono rfl j hj,?_⟩
  rw [upd_ne]
  intro e; rw [e,hal] at hj; cases hj
 have S':=S.obj (l:=l) (hv:=hv) (o:=.cu q fs) hk (Kt.of_below ((Below.refl _ _).alloc S.below.size _) (Nat.le_refl _))
  (fun b hb=>by rw [hsz] at hb; show (if b=w.heap.size then true else ow b)=false; rw [if_neg (by omega)]; exact S.fresh b (by omega)) (.inl hal) rfl
  ⟨fun b hb=>by
    rw [hbl b hb]
    exact ⟨.inl S.below.size,by simp⟩,
   us,RFL.mono hk ha _ _ hfs,hI _ (by simp) hk⟩
  (fun j oj b e hj hl hbk=>by
   have:=((S.objs j oj hj).lt hl b hbk).1
   refine ⟨Below.heap_alloc w _ b this,if_neg (by omega),fun _ he=>?_⟩
   have:=hbl b he
   omega)
 refine ⟨_,_,⟨?_,ha⟩,by rw [upd_same],S',by rw [al_set_same hlt]; rfl⟩
 intro b hb
 show (if b=w.heap.size then true else ow b)=ow b
 rw [if_neg (by omega)]
theorem restZ_nil (E:List (κ×ν)) (B:List Nat) (h:B.length=E.length):(restZ E B []).map (·.1)=E:=by
 unfold restZ
 rw [List.filter_eq_self.2 (by intro x _; rfl),List.map_fst_zip (by omega)]
theorem mapG_len {ow:Nat→Bool} {h:Value} {vs:List Value} (hI:(mapG γ f g E).I ow w h vs):γ.b.length=E.length:=by
 obtain ⟨b,es,_,_,q3,q4,_⟩:=hI
 have h1:=congrArg List.length q3
 have h2:=congrArg List.length q4
 simp at h1 h2
 omega
theorem krange {t kt et l nl:Nat} {x:Operand} (h1:P.underlying t=some (.map kt et)) :
  Ext P T (.range t x) [.srf l] [(l,.cu (mapG γ f g E) []),(nl,.free)] (.ref nl 0) [(nl,.cu (itK γ E E none) [.srf l])]:=by
 intro n w0 st a w o hT hS ho hn hv hm K Q hK
 obtain ⟨ow,hd,hold,S⟩:=hS
 obtain ⟨dst,op,ty,pos,af,gd⟩:=o
 simp only at ho hn hK
 subst ho
 simp [Op.operands] at hv
 have hml:=hm (l,.cu (mapG γ f g E) []) (by simp)
 have hmn:=hm (nl,.free) (by simp)
 simp only at hml hmn
 obtain ⟨g1,vs,g2,hI⟩:=S.objs l _ hml
 have hlen:=mapG_len hI
 obtain ⟨b,es,q1,q2,q3,q4,q5⟩:=hI
 have hx:=S.eval x
 rw [hv] at hx
 have hx0:=hx
 simp only [RF] at hx
 obtain ⟨_,hx,hx1⟩:=hx
 obtain ⟨ow',hd',⟨h2,h3⟩,h4,S3,h5⟩:=S.newCuF hmn (itK γ E E none) [.srf l] [.map (some b)] (by simp only [RFL]; exact ⟨_,_,rfl,by rw [hx,q1] at hx0; exact hx0,rfl,rfl⟩) (.mapIter (some b) γ.c #[] γ.c) (.pointer (some ⟨w.heap.size,0,none⟩)) (fun b' hb'=>by simp [blocksOf,blockOf] at hb'; exact hb') rfl
  (fun ow' _ hkp=>⟨w.heap.size,b,γ.c,#[],γ.c,rfl,rfl,heap_alloc_new w _,Nat.le_refl _,Nat.le_refl _,fun y hy=>by
   rw [← q4] at hy
   obtain ⟨e,he,rfl⟩:=List.mem_map.1 hy
   exact q5.1 e he,(restZ_nil E γ.b hlen).symm,fun p hp=>by cases hp⟩)
 have hrun:(execOp a.eval ⟨dst,.range t x,ty,pos,af,gd⟩).run P w=.ok (.value (.pointer (some ⟨w.heap.size,0,none⟩))) (w.alloc (.mapIter (some b) γ.c #[] γ.c)):=by
  simp only [execOp,hx,q1,Sem.run_bind,run_range_map w t kt et b es γ.c h1 q2,Result.andThen_ok,Sem.run_pure]
 refine wp_val' hrun (hK _ _ ⟨ow',hd',hold.step fun b hb _=>h2 b (Nat.lt_of_lt_of_le hb S.below.size),?_⟩)
 exact S3.put hn (by simp only [RF]; exact ⟨h5,w.heap.size,h4,rfl⟩)
theorem kentry {l nl:Nat} {x:Operand} {rest:List (κ×ν)} {k:κ} {v:ν} (hone:(f k).oneCell'=true) (hgo:(g v).oneCell'=true) :
  Ext P T (.entry x) [.ref nl 0] [(nl,.cu (itK γ E rest (some (k,v))) [.srf l]),(l,.cu (mapG γ f g E) [])] (.d (.tup [.v (f k),.v (g v)])) [(nl,.cu (itK γ E rest none) [.srf l])]:=by
 intro n w0 st a w o hT hS ho hn hv hm K Q hK
 obtain ⟨ow,hd,hold,S⟩:=hS
 obtain ⟨dst,op,ty,pos,af,gd⟩:=o
 simp only at ho hn hK
 subst ho
 simp [Op.operands] at hv
 have hmn:=hm (nl,.cu (itK γ E rest (some (k,v))) [.srf l]) (by simp)
 have hml:=hm (l,.cu (mapG γ f g E) []) (by simp)
 simp only at hml hmn
 obtain ⟨_,_,_,b',es,k1,k2,k3,k4,k5⟩:=S.objs l _ hml
 obtain ⟨g1,vs,g2,r,b,since,seen,c0,q1,rfl,q2,q3,q4,q5,q6,q7⟩:=S.objs nl _ hmn
 have g20:=g2
 simp only [RFL,RF] at g2
 obtain ⟨_,_,e0,⟨_,hh,_⟩,_,_⟩:=g2
 rw [k1] at hh
 subst hh
 simp at e0
 obtain ⟨rfl,_⟩:=e0
 obtain ⟨i,bo,e1,e2,⟨s',rfl⟩,rfl⟩:=q7 _ rfl
 have hx:=S.eval x
 rw [hv] at hx
 simp only [RF] at hx
 obtain ⟨_,b',hb',hx⟩:=hx
 rw [q1] at hb'
 simp at hb'
 subst hb'
 rw [← k4,List.getElem?_map] at e2
 cases hz:es.toList[i]? with
 | none=>rw [hz] at e2; cases e2
 | some e =>
  rw [hz] at e2
  simp at e2
  subst e2
  have hkv:=congrArg (fun L=>L[i]?) k3
  simp only [List.getElem?_map,hz,e1,Option.map_some,Option.some.injEq,Prod.mk.injEq] at hkv
  have heE:e∈es.toList:=List.mem_of_getElem? hz
  have hnd:(es.toList.map (·.born)).Nodup:=List.pairwise_map.2 k5.2
  have hrun:(execOp a.eval ⟨dst,.entry x,ty,pos,af,gd⟩).run P w=.ok (.value (.tuple #[e.key,e.val])) w:=by
   simp only [execOp,hx,Sem.run_bind,run_entry_at w r b since s' es _ e q2 k2 heE hnd,Result.andThen_ok,Sem.run_pure]
  have S':=S.set (l:=nl) (b:=r) (o':=.cu (itK γ E rest none) [.srf l]) hmn rfl rfl (by rw [q1]; first | rfl | simp [blocksOf,blockOf]) (fun _ _=>rfl) rfl (Kt.refl _ _)
   ⟨fun b' hb'=>g1 b' hb',[.map (some b)],RFL.mono (Kp.refl _ _) (fun j hj=>⟨al_set_mono rfl j hj,rfl⟩) _ _ g20,r,b,since,s'.push e.born,_,q1,rfl,q2,q3,q4,q5,q6,fun p hp=>by cases hp⟩
  refine wp_val' hrun (hK _ _ ⟨ow,hd,hold,S'.put hn ?_⟩)
  simp only [RF,R,RT]
  exact ⟨_,rfl,_,_,rfl,⟨hkv.1,hone⟩,_,_,rfl,⟨hkv.2,hgo⟩,rfl⟩
theorem nk_next {κ ν:Type} [DecidableEq κ] {f:κ→Value} {g:ν→Value} {γ:Gam} {E:List (κ×ν)} {Fin:Ex→PS→Prop} {c:Code} {it d1 d2 l lm:Nat} {rest:List (κ×ν)} {cur:Option (κ×ν)} {ks:List Fr} (hc:ndReg c=some (it,d1,d2)) (hn:(Nat.blt d1 n&&Nat.blt d2 n)=true)
  (hit:st.f[it]?=some (.ref l 0)) (hm:st.m[l]?=some (.cu (itK γ E rest cur) [.srf lm])) (hml:st.m[lm]?=some (.cu (mapG γ f g E) []))
  (done:rest=[]→RunE P n Fin ks .normal ⟨putF (putF st.f (some d1) .dead) (some d2) (.d (.v (.bool false))),st.m⟩)
  (more:∀ A p B,rest=A++p::B→RunE P n Fin ks .normal ⟨putF (putF st.f (some d1) .dead) (some d2) (.d (.v (.bool true))),st.m.set l (.cu (itK γ E (A++B) (some p)) [.srf lm])⟩) :
  RunE P n Fin (.s c::ks) .normal st:=by
 unfold ndReg at hc
 split at hc
 ·rename_i id ops
  split at hc
  ·rename_i d1' it' t1 p1 a1 d2' d1'' t2 p2 a2 hops
   split at hc
   ·rename_i hd
    subst hd
    simp only [Option.some.injEq,Prod.mk.injEq] at hc
    obtain ⟨rfl,rfl,rfl⟩:=hc
    simp only [Bool.and_eq_true] at hn
    have hn1:=Nat.le_of_ble_eq_true hn.1
    have hn2:=Nat.le_of_ble_eq_true hn.2
    intro w0 a w hS
    obtain ⟨ow,hd,hold,S⟩:=hS
    refine wp_region_list ?_
    rw [hops]
    obtain ⟨_,_,_,b',es,k1,k2,k3,k4,k5⟩:=S.objs lm _ hml
    obtain ⟨g1,vs,g2,r,b,since,seen,c0,q1,rfl,q2,q3,q4,q5,q6,q7⟩:=S.objs l _ hm
    have g20:=g2
    simp only [RFL,RF] at g2
    obtain ⟨_,_,e0,⟨_,hh,_⟩,_,_⟩:=g2
    rw [k1] at hh
    subst hh
    simp at e0
    obtain ⟨rfl,_⟩:=e0
    have hx:RF (al st.m) hd ow w (.ref l 0) (a.eval (.tmp it')):=by
     have:=S.slots it'
     rw [List.getD_eq_getElem?_getD,hit] at this
     exact this
    simp only [RF] at hx
    obtain ⟨_,b',hb',hx⟩:=hx
    rw [q1] at hb'
    simp at hb'
    subst hb'
    have hz1:d1'<a.tmps.size:=by rw [S.size]; exact hn1
    have hbn:∀ e∈es.toList,e.born<since:=fun e he=>q5 _ (by rw [← k4]; exact List.mem_map.2 ⟨e,he,rfl⟩)
    have hZ:=filt3 (f:=f) (g:=g) seen.toList es.toList (E.zip γ.b) (zip3 es.toList E γ.b k3 k4)
    have hL:(leftOf es seen).toList=es.toList.filter fun e=>!seen.toList.contains e.born:=by
     unfold leftOf
     rw [Array.toList_filter]
     refine List.filter_congr fun x _=>?_
     simp
    rw [← hL] at hZ
    refine wpList_plain rfl fun K1 hK1=>?_
    rcases run_next_at (P:=P) w t1 r b since c0 seen es γ.c q2 k2 hbn q3 with ⟨h0,hrun⟩ | ⟨e,he,w1,hw1,hrun⟩
    ·have hr0:rest=[]:=by
      have hnil:(leftOf es seen).toList=[]:=List.eq_nil_of_length_eq_zero (by simpa using h0)
      rw [hnil] at hZ
      rw [q6]
      unfold restZ
      have:=congrArg List.length hZ
      simp only [List.length_map] at this
      rw [List.eq_nil_of_length_eq_zero this.symm]
      rfl
     have hrun':(execOp a.eval ⟨some d1',.next (.tmp it') false,t1,p1,a1,none⟩).run P w=.ok (.value (.tuple #[.bool false])) w:=by
      simp only [execOp,hx,Sem.run_bind,hrun,Result.andThen_ok,Sem.run_pure]
     refine wp_val' hrun' (hK1 _ _ ?_)
     refine wpList_plain rfl fun K2 hK2=>?_
     have hrun2:(execOp (a.put (some d1') (.tuple #[.bool false])).eval ⟨some d2',.extract (.tmp d1') 0,t2,p2,a2,none⟩).run P w=.ok (.value (.bool false)) w:=by
      simp [execOp,eval_put hz1,Instr.extract]
     refine wp_val' hrun2 (hK2 _ _ ?_)
     have S1:=S.put (d:=some d1') (fun k hk=>by cases hk; exact hn1) (x:=.dead) (v:=.tuple #[.bool false]) (by simp only [RF])
     have S2:=S1.put (d:=some d2') (fun k hk=>by cases hk; exact hn2) (x:=.d (.v (.bool false))) (v:=.bool false) (by simp only [RF,R]; exact ⟨trivial,rfl⟩)
     exact ⟨.normal,_,rfl,done hr0,ow,hd,hold,S2⟩
    ·obtain ⟨X,Y,hXY⟩:=List.append_of_mem he
     rw [hXY,List.map_append,List.map_cons] at hZ
     obtain ⟨A,x3,hA,hA1,hx3⟩:=List.map_eq_append_iff.1 hZ.symm
     obtain ⟨x,B,rfl,hx1,hB1⟩:=List.map_eq_cons_iff.1 hx3
     obtain ⟨p,bo⟩:=x
     simp only [Prod.mk.injEq] at hx1
     have hbo:bo=e.born:=hx1.2.2
     have hW:restZ E γ.b seen.toList=A++(p,bo)::B:=hA
     have hpw0:((leftOf es seen).toList.map (·.born)).Pairwise (·≠·):=by
      rw [hL]
      exact List.pairwise_map.2 (k5.2.filter _)
     have hWb:(restZ E γ.b seen.toList).map (·.2)=(leftOf es seen).toList.map (·.born):=by
      have h9:=congrArg (List.map fun z:Value×Value×Nat=>z.2.2) (filt3 (f:=f) (g:=g) seen.toList es.toList (E.zip γ.b) (zip3 es.toList E γ.b k3 k4))
      rw [← hL,List.map_map,List.map_map] at h9
      exact h9.symm
     rw [← hWb,hW,List.map_append,List.map_cons,List.pairwise_append] at hpw0
     obtain ⟨_,w2,w3⟩:=hpw0
     have w4:=(List.pairwise_cons.1 w2).1
     have hnew:restZ E γ.b (seen.push e.born).toList=A++B:=by
      have e0:restZ E γ.b (seen.push e.born).toList=(restZ E γ.b seen.toList).filter (fun x=>!(x.2 == e.born)):=by
       unfold restZ
       rw [List.filter_filter]
       refine List.filter_congr fun x _=>?_
       rw [Array.toList_push]
       by_cases h1:x.2=e.born <;> by_cases h2:x.2∈seen.toList <;> simp [h1,h2] <;> simp_all
      rw [e0,hW,List.filter_append,List.filter_cons]
      have fA:A.filter (fun x=>!(x.2 == e.born))=A:=List.filter_eq_self.2 fun x hx=>by
       have:=w3 x.2 (List.mem_map.2 ⟨x,hx,rfl⟩) bo (by simp)
       rw [hbo] at this
       simpa using this
      have fB:B.filter (fun x=>!(x.2 == e.born))=B:=List.filter_eq_self.2 fun x hx=>by
       have:=w4 x.2 (List.mem_map.2 ⟨x,hx,rfl⟩)
       rw [hbo] at this
       simpa using fun z=>this z.symm
      rw [fA,fB]
      simp [hbo]
     have hrun':(execOp a.eval ⟨some d1',.next (.tmp it') false,t1,p1,a1,none⟩).run P w=.ok (.value (.tuple #[.bool true,e.key,e.val])) (Go.ChangeMaps.setBlock w1 r (.mapIter (some b) since (seen.push e.born) γ.c)):=by
      simp only [execOp,hx,Sem.run_bind,hrun,Result.andThen_ok,Sem.run_pure]
     refine wp_val' hrun' (hK1 _ _ ?_)
     refine wpList_plain rfl fun K2 hK2=>?_
     generalize hw':Go.ChangeMaps.setBlock w1 r (.mapIter (some b) since (seen.push e.born) γ.c)=w'
     have hrun2:(execOp (a.put (some d1') (.tuple #[.bool true,e.key,e.val])).eval ⟨some d2',.extract (.tmp d1') 0,t2,p2,a2,none⟩).run P w'=.ok (.value (.bool true)) w':=by
      simp [execOp,eval_put hz1,Instr.extract]
     refine wp_val' hrun2 (hK2 _ _ ?_)
     obtain ⟨hnw,how⟩:=g1 r (by rw [q1]; first | rfl | simp [blocksOf,blockOf])
     have hrw:r<w.heap.size:=(Array.getElem?_eq_some_iff.1 q2).1
     have hh:w'.heap=w.heap.setIfInBounds r (.mapIter (some b) since (seen.push e.born) γ.c):=by
      rw [← hw']; rcases hw1 with rfl | rfl <;> rfl
     have hos:w'.os=w.os∧w'.tape=w.tape∧w'.output=w.output:=by
      rw [← hw']; rcases hw1 with rfl | rfl <;> exact ⟨rfl,rfl,rfl⟩
     have ho:∀ j,j≠r→w'.heap[j]?=w.heap[j]?:=fun j hj=>by rw [hh,Array.getElem?_setIfInBounds,if_neg (fun e=>hj e.symm)]
     have hr2:w'.heap[r]?=some (.mapIter (some b) since (seen.push e.born) γ.c):=by rw [hh,Array.getElem?_setIfInBounds,if_pos rfl,if_pos hrw]
     have hsz':w'.heap.size=w.heap.size:=by rw [hh]; simp
     have hkp:Kp ow w ow w':=⟨by omega,fun _ _ h=>h,fun j _ hj=>ho j (fun e=>by rw [e,how] at hj; cases hj)⟩
     have hpin:(p,bo)∈E.zip γ.b:=by
      have:(p,bo)∈restZ E γ.b seen.toList:=by rw [hW]; simp
      unfold restZ at this
      exact (List.mem_filter.1 this).1
     obtain ⟨i,hi⟩:=List.getElem?_of_mem hpin
     rw [List.getElem?_zip_eq_some] at hi
     have S0:=S.set (l:=l) (b:=r) (o':=.cu (itK γ E ((A++B).map (·.1)) (some p)) [.srf lm]) hm rfl rfl (by rw [q1]; first | rfl | simp [blocksOf,blockOf]) ho hsz' (Kt.of_one ⟨hos.1,hos.2.1,hos.2.2,by omega,fun j hj=>by omega⟩ hnw ho (B:=0))
      ⟨fun b' hb'=>g1 b' hb',[.map (some b)],RFL.mono hkp (fun j hj=>⟨al_set_mono rfl j hj,rfl⟩) _ _ g20,r,b,since,seen.push e.born,γ.c,q1,rfl,hr2,q4,q4,q5,by rw [hnew],fun p0 hp0=>by
       cases hp0
       exact ⟨i,bo,hi.1,hi.2,⟨seen,by rw [hbo]⟩,rfl⟩⟩
     have S1:=S0.put (d:=some d1') (fun k hk=>by cases hk; exact hn1) (x:=.dead) (v:=.tuple #[.bool true,e.key,e.val]) (by simp only [RF])
     have S2:=S1.put (d:=some d2') (fun k hk=>by cases hk; exact hn2) (x:=.d (.v (.bool true))) (v:=.bool true) (by simp only [RF,R]; exact ⟨trivial,rfl⟩)
     refine ⟨.normal,_,rfl,?_,ow,hd,hold,S2⟩
     have:=more (A.map (·.1)) p (B.map (·.1)) (by rw [q6,hW]; simp)
     rw [← List.map_append] at this
     exact this
   ·cases hc
  ·cases hc
 ·cases hc
end
theorem retH_open {κ ν:Type} [DecidableEq κ] {f:κ→Value} {g:ν→Value} {P:Program} {F:FuncId} {args:List FV} {m m':List PO} {r:FV} {j:Nat} {E E':List (κ×ν)} (hj:m[j]?=some (.cu (mapC f g E) [])) (hj':m'[j]?=some (.cu (mapC f g E') []))
  (h:∀ γ,RetH P F args (m.set j (.cu (mapG γ f g E) [])) r (m'.set j (.cu (mapG γ f g E') []))):RetH P F args m r m':=by
 refine ⟨(h ⟨[],0⟩).1,fun c hd vs S hargs=>?_⟩
 obtain ⟨g1,us,g2,b,clock,es,q1,q2,q3,q4⟩:=S.objs j _ hj
 have hlt:j<m.length:=(List.getElem?_eq_some_iff.1 hj).1
 have hlt':j<m'.length:=(List.getElem?_eq_some_iff.1 hj').1
 have hal:al m j=true:=by simp [al,hj,PO.made]
 obtain ⟨S1,ha⟩:=S.obj (l:=j) (hv:=hd j) (o:=.cu (mapG ⟨es.toList.map (·.born),clock⟩ f g E) []) (Kp.refl _ _) (Kt.refl _ _) S.fresh (.inr rfl) rfl
  ⟨g1,[],by simp [RFL],b,es,q1,q2,q3,rfl,q4⟩
  (fun i oi b' hne hi hl hb=>⟨rfl,rfl,fun _ q=>S.dist i j _ _ b' hne hi hj hl rfl hb q⟩)
 have hup:upd hd j (hd j)=hd:=by funext i; unfold upd; split <;> simp_all
 rw [hup] at S1
 refine ((h ⟨es.toList.map (·.born),clock⟩).2 c hd vs S1 (RFT.mono (Kp.refl _ _) (fun l hl=>⟨(ha l hl).1,rfl⟩) _ _ hargs)).mono ?_
 rintro e w' ⟨v,ow',hd',rfl,hk,S2,hid,hv⟩
 obtain ⟨p1,us',p2,b2,es2,p3,p4,p5,p6,p7⟩:=S2.objs j (.cu (mapG _ f g E') []) (by rw [List.getElem?_set,if_pos rfl,if_pos hlt'])
 obtain ⟨S3,ha3⟩:=S2.obj (l:=j) (hv:=hd' j) (o:=.cu (mapC f g E') []) (Kp.refl _ _) (Kt.refl _ _) S2.fresh (.inr rfl) rfl
  ⟨p1,[],by simp [RFL],b2,_,es2,p3,p4,p5,p7⟩
  (fun i oi b' hne hi hl hb=>⟨rfl,rfl,fun _ q=>S2.dist i j _ _ b' hne hi (by rw [List.getElem?_set,if_pos rfl,if_pos hlt']) hl rfl hb q⟩)
 have hup':upd hd' j (hd' j)=hd':=by funext i; unfold upd; split <;> simp_all
 have hm':(m'.set j (.cu (mapG ⟨es.toList.map (·.born),clock⟩ f g E') [])).set j (.cu (mapC f g E') [])=m':=by
  rw [List.set_set]
  refine List.ext_getElem? fun i=>?_
  by_cases e:j=i
  ·subst e; rw [List.getElem?_set_self hlt',hj']
  ·rw [List.getElem?_set_ne e]
 rw [hup',hm'] at S3
 rw [hm'] at ha3
 refine ⟨v,ow',hd',rfl,hk,S3,fun l hl=>?_,RF.mono (Kp.refl _ _) (fun l hl=>⟨(ha3 l hl).1,rfl⟩) _ _ hv⟩
 have h1:=hid l (ha l hl).1
 exact ⟨(ha3 l h1.1).1,h1.2⟩
end Go.Proofs.YtofjjaagjkbeaaaGreat.pv
namespace Go.Proofs.YtofjjaagjkbeaaaGreat.pv
set_option linter.all false
open Go.RowKit
def ifC (t:Nat):Cust where
 I:=fun _ _ h vs=>∃ v,vs=[v]∧h=.iface t v
 lt:=by
  rintro ow w h vs ⟨v,_,rfl⟩ b hb
  simp [blocksOf,blockOf] at hb
 kp:=fun _ _ h=>h
 one:=by
  rintro ow w h vs ⟨v,_,rfl⟩
  rfl
def methAt (P:Program) (t:TypeId) (name:String):Option FuncId :=
 match P.info? t,P.underlying t with
 | some i,some (.pointer _)=>(match i.methods.find? (·.name == name) with
  | some m=>(match m.path.toList,m.func with
   | [],some (g,true)=>some g
   | _,_=>none)
  | none=>none)
 | _,_=>none
section
variable {P:Program} {T:List TI} {n:Nat} {w0:Cx} {st:PS} {a:Act} {w:World} {ow:Nat→Bool} {hd:Nat→Value}
def mfC (name:String):Cust where
 I:=fun _ _ h vs=>∃ u,vs=[u]∧h=.func (.method name) #[u] #[]
 lt:=by
  rintro ow w h vs ⟨v,_,rfl⟩ b hb
  simp [blocksOf] at hb
 kp:=fun _ _ h=>h
 one:=by
  rintro ow w h vs ⟨v,_,rfl⟩
  rfl
end
end Go.Proofs.YtofjjaagjkbeaaaGreat.pv
namespace Go.Proofs.YtofjjaagjkbeaaaGreat.pv
set_option linter.all false
open Go.RowKit Go.MapKept Go.Lib Go.Sort Go.Shelf
def gtD (E:List (Int×Int)) (x y:Int):Bool:=decide ((mget E y).getD 0<(mget E x).getD 0)
theorem swo_gtD (E:List (Int×Int)):SWO (gtD E):=by
 refine ⟨fun x=>?_,fun x y z h1 h2=>?_,fun x y z h1 h2=>?_⟩ <;> simp only [gtD,decide_eq_true_eq,decide_eq_false_iff_not] at*<;> omega
def sortD (E:List (Int×Int)) (xs:List Int):List Int:=if 2≤xs.length then (pdq (gtD E) xs.toArray 0 xs.length (Lib.bitLen xs.length) true true).toList else xs
theorem sortD_spec (E:List (Int×Int)) (xs:List Int):(sortD E xs).Perm xs∧(sortD E xs).Pairwise (fun x y=>gtD E y x=false):=by
 unfold sortD
 split
 ·have h:=pdq_sorts (gtD E) (swo_gtD E) xs.toArray 0 xs.length (Lib.bitLen xs.length) true true (Nat.zero_le _) (by simp) (Or.inl rfl)
  obtain ⟨⟨h1,h2,h3⟩,h4⟩:=h
  generalize hq:pdq (gtD E) xs.toArray 0 xs.length (Lib.bitLen xs.length) true true=q at h1 h2 h3 h4
  have hz:q.size=xs.length:=by simpa using h1
  have e1:q.extract 0 xs.length=q:=by rw [← hz]; simp
  have e2:xs.toArray.extract 0 xs.length=xs.toArray:=by simp
  rw [e1,e2] at h3
  refine ⟨h3,List.pairwise_iff_getElem.2 fun i j hi hj hij=>?_⟩
  have:=h4 i j (Nat.zero_le _) hij (by simp at hj; omega)
  simp at hi hj
  rw [getElem!_pos q j hj,getElem!_pos q i hi] at this
  simpa using this
 ·rename_i h
  refine ⟨List.Perm.refl _,?_⟩
  match xs,h with
  | [],_=>simp
  | [x],_=>simp
  | x::y::r,h=>simp at h
set_option maxHeartbeats 2000000 in
theorem less_held (blk off c size Bc Bo B0 bm:Nat) (W:World) (G:Nat→Int) (V:Int→Int) (hc0:W.cell? ⟨Bc,0,none⟩=some (.pointer (some ⟨B0,0,none⟩))) (hs:W.cell? ⟨Bo,0,none⟩=some (.slice (some ⟨blk,off,none⟩) size c))
  (hu:W.cell? ⟨B0,4,none⟩=some (.map (some bm))) (hc:∀ t,t<size→W.cell? ⟨blk,off+t,none⟩=some (.int .i64 (G t)))
  (hlk:∀ (q:Nat) (k:Int),(Instr.lookup 53 (.map (some bm)) (.int .i64 k) false).run Tryz.prog (W.drewN q)=.ok (.int .i64 (V k)) (W.drewN q)) (i j:Nat) (hi:i<size) (hj:j<size) :
  Calls Tryz.prog 35 #[.int .i64 i,.int .i64 j,.pointer (some ⟨Bc,0,none⟩),.pointer (some ⟨Bo,0,none⟩)] W fun e w'=>e=.returned (.bool (decide (V (G j)<V (G i))))∧∃ q,w'=W.drewN q:=by
 have ci:=hc i hi
 have cj:=hc j hj
 go_enter Tryz.func35,Tryz.ntmps35
 go_wp2
 go_quiet (fail)
 go_wp2
 go_ret
 exact ⟨rfl,nq,rfl⟩
noncomputable def siT:TypeInfo:=(Tryz.prog.info? 46).get (by kernel_rfl)
noncomputable def siE:TypeInfo:=(Tryz.prog.info? 3).get (by kernel_rfl)
theorem siK (n:Nat) (h2:2≤n):Lib.swapperK n siE 2=5:=by
 have a:siE.hasPointers=false:=by kernel_rfl
 have b:siE.bytes=8:=by kernel_rfl
 have c:(n == 0)=false:=by simp; omega
 have d:(n == 1)=false:=by simp; omega
 simp [Lib.swapperK,a,b,c,d]
theorem siK2 (n:Nat) (h1:n≤1):∃ f,Tryz.prog.funcs.findIdx? (·.name == "internal/reflectlite" ++ ".Swapper$" ++ toString (Lib.swapperK n siE 2))=some f:=by
 have h:n=0∨n=1:=by omega
 rcases h with rfl | rfl
 ·exact ⟨54,by kernel_rfl⟩
 ·exact ⟨55,by kernel_rfl⟩
section
variable {n:Nat} {w0:Cx} {st:PS} {a:Act} {w:World} {ow:Nat→Bool} {hd:Nat→Value}
theorem SimW.addI' (S:SimW n w0 st a w ow hd) {nl t:Nat} {x:FV} {v:Value} (hf:st.m[nl]?=some .free) (hx:RF (al st.m) hd ow w x v) (hone:v.oneCell'=true) :
  SimW n w0 ⟨st.f,st.m.set nl (.cu (ifC t) [x])⟩ a w ow (upd hd nl (.iface t v))∧(∀ j,al st.m j=true→al (st.m.set nl (.cu (ifC t) [x])) j=true∧upd hd nl (.iface t v) j=hd j)∧al (st.m.set nl (.cu (ifC t) [x])) nl=true:=by
 have hal0:al st.m nl=false:=by simp [al,hf,PO.made]
 have hlt:nl<st.m.length:=(List.getElem?_eq_some_iff.1 hf).1
 have hmono:∀ j,al st.m j=true→al (st.m.set nl (.cu (ifC t) [x])) j=true∧upd hd nl (.iface t v) j=hd j:=fun j hj=>⟨al_set_mono rfl j hj,by
  rw [upd_ne]
  intro e; rw [e,hal0] at hj; cases hj⟩
 refine ⟨?_,hmono,by rw [al_set_same hlt]; rfl⟩
 exact S.obj (l:=nl) (hv:=.iface t v) (o:=.cu (ifC t) [x]) (Kp.refl _ _) (Kt.refl _ _) S.fresh (.inl hal0) rfl
  ⟨fun b hb=>by simp [blocksOf,blockOf] at hb,[v],by
   simp only [RFL]
   exact ⟨_,_,rfl,RF.mono (Kp.refl _ _) hmono _ _ hx,hone,rfl⟩,v,rfl,rfl⟩
  (fun j oj b hne hj hlj hb=>⟨rfl,rfl,fun _ hb'=>by simp [blocksOf,blockOf] at hb'⟩)
theorem ymkS {P:Program} {T:List TI} {t l nl:Nat} {e:TypeId} {x:Operand} (hu:P.underlying t=some (.slice e)) :
  Ext P T (.makeInterface t x) [.srf l] [(nl,.free)] (.srf nl) [(nl,.cu (ifC t) [.srf l])]:=by
 intro n w0 st a w o hT hS ho hn hv hm K Q hK
 obtain ⟨ow,hd,hold,S⟩:=hS
 obtain ⟨d,op,tyo,pos,af,gd⟩:=o
 simp only at ho hn hK
 subst ho
 simp [Op.operands] at hv
 have hf:=hm (nl,.free) (by simp)
 simp only at hf
 have hx:=S.eval x
 rw [hv] at hx
 have hone:(a.eval x).oneCell'=true:=by
  simp only [RF] at hx
  obtain ⟨_,e2,h3⟩:=hx
  rw [e2]; exact h3
 obtain ⟨S2,ha,hal⟩:=SimW.addI' S hf (t:=t) hx hone
 refine wp_val (v:=.iface t (a.eval x)) (by simp [execOp,Instr.makeInterface,run_underlying hu]) (hK _ _ ⟨ow,_,hold,S2.put hn (x:=.srf nl) ?_⟩)
 simp only [RF]
 rw [upd_same]
 exact ⟨hal,rfl,rfl⟩
theorem heap_sort (w:World) (enc:Int→Value) (q blk off:Nat) (d:Array Int) (os:Array Obj) (hb:blk<w.heap.size) :
  (∀ k,k<w.heap.size→k≠blk→(grow (putRow enc (Sort.ahead w q) blk off d) os).heap[k]?=w.heap[k]?)∧(∀ c e fr,w.heap[blk]?=some (.cells c e fr)→(grow (putRow enc (Sort.ahead w q) blk off d) os).heap[blk]?=some (.cells (Sort.putCells enc off d c) e fr)) ∧
   w.heap.size≤(grow (putRow enc (Sort.ahead w q) blk off d) os).heap.size:=by
 refine ⟨fun k hk hne=>?_,fun c e fr h=>?_,by simp⟩
 ·rw [heap_grow_old _ _ (by simpa using hk)]
  simp only [putRow,mapBlock,heap_ahead,Array.getElem?_modify]
  rw [if_neg (fun e=>hne e.symm)]
 ·rw [heap_grow_old _ _ (by simpa using hb)]
  simp only [putRow,mapBlock,heap_ahead,Array.getElem?_modify,if_true,h]
  rfl
theorem eI_R {ow:Nat→Bool} {w:World} (x:Int):R ow w (eI .i64 x) (.int .i64 x):=by simp only [eI,R]; exact ⟨trivial,rfl⟩
theorem RE_ints {ow:Nat→Bool} {w:World}:∀ (xs:List Int) (cells:List Value),RE ow w 1 (xs.map (eI .i64)) cells↔cells=xs.map (Value.int .i64)
 | [],cells=>by simp [RE]
 | x::xs,cells=>by
  simp only [List.map_cons,RE]
  constructor
  ·rintro ⟨u,r,rfl,h0,h1,h2,h3⟩
   rw [RE_ints xs] at h3
   simp only [eI,R] at h2
   obtain ⟨rfl,_⟩:=h2
   rw [h3]; rfl
  ·rintro rfl
   refine ⟨.int .i64 x,_,rfl,rfl,?_,eI_R x,(RE_ints xs _).2 rfl⟩
   intro v hv
   simp [Value.cells] at hv
   subst hv; rfl
set_option maxHeartbeats 4000000 in
set_option maxRecDepth 100000 in
theorem sslice {T:List TI} {x y:Operand} {f:Operand} {tys:Array Nat} {I RB U L0 LC LO e:Nat} {cs:List FV} {xs:List Int} {E:List (Int×Int)} {γ:Gam} (hcs:cs[4]?=some (.srf U)) (hR:RB≠LC∧RB≠LO∧RB≠L0∧RB≠U) (h62:xs.length<4611686018427387904) :
  Ext Tryz.prog T (.call ⟨.value f,#[x,y],tys⟩) [.d (.clo 34 []),.srf I,.clo 35 [.ref LC 0,.ref LO 0]]
   [(I,.cu (ifC 46) [.srf RB]),(RB,.row e 1 (xs.map (eI .i64))),(LC,.box [.ref L0 0]),(LO,.box [.srf RB]),(L0,.box cs),(U,.cu (mapG γ (fun a:Int=>Value.int .i64 a) (fun a:Int=>Value.int .i64 a) E) [])] (.d (.tup []))
   [(RB,.row e 1 ((sortD E xs).map (eI .i64)))]:=by
 intro n w0 st a w o hT hS ho hn hvs hm K Q hK
 obtain ⟨ow,hd,hold,S⟩:=hS
 obtain ⟨d,op,tyo,pos,af,gd⟩:=o
 simp only at ho hn hK
 subst ho
 simp [Op.operands,Call.operands] at hvs
 obtain ⟨hv1,hv2,hv3⟩:=hvs
 have hmI:=hm (I,.cu (ifC 46) [.srf RB]) (by simp)
 have hmR:=hm (RB,.row e 1 (xs.map (eI .i64))) (by simp)
 have hmC:=hm (LC,.box [.ref L0 0]) (by simp)
 have hmO:=hm (LO,.box [.srf RB]) (by simp)
 have hm0:=hm (L0,.box cs) (by simp)
 have hmU:=hm (U,.cu (mapG γ (fun a:Int=>Value.int .i64 a) (fun a:Int=>Value.int .i64 a) E) []) (by simp)
 simp only at hmI hmR hmC hmO hm0 hmU
 clear hm
 have h1:=S.eval f
 rw [hv1] at h1
 simp only [RF,R] at h1
 obtain ⟨us,hc1,hc2⟩:=h1
 simp only [RL] at hc2
 subst hc2
 have hx:=S.eval x
 rw [hv2] at hx
 simp only [RF] at hx
 obtain ⟨_,hx,_⟩:=hx
 obtain ⟨_,vI,gI,vR,rfl,hI⟩:=S.objs I _ hmI
 simp only [RFL,RF] at gI
 obtain ⟨_,_,e0,⟨_,rfl,_⟩,_,_⟩:=gI
 simp at e0
 obtain ⟨rfl,_⟩:=e0
 have hy:=S.eval y
 rw [hv3] at hy
 simp only [RF,RFL] at hy
 obtain ⟨vs,hy,_,_,rfl,⟨_,bC,hbC,rfl⟩,_,_,_,rfl,⟨_,bO,hbO,rfl⟩,_,rfl⟩:=hy
 obtain ⟨bC',valC,tC,k1,kC1,kC2,kC3,kC4⟩:=S.objs LC _ hmC
 rw [hbC] at k1; simp at k1; subst k1
 have kO0:=hbO
 obtain ⟨bO',valO,tO,k1,kO1,kO2,kO3,kO4⟩:=S.objs LO _ hmO
 rw [hbO] at k1; simp at k1; subst k1
 simp only [RFL,RF] at kC4 kO4
 obtain ⟨_,_,ev,⟨_,b0,hb0,rfl⟩,_,rfl⟩:=kC4
 obtain ⟨_,_,eo,⟨_,rfl,_⟩,_,rfl⟩:=kO4
 obtain ⟨b0',val0,t0,k1,k01,k02,k03,k04⟩:=S.objs L0 _ hm0
 rw [hb0] at k1; simp at k1; subst k1
 obtain ⟨u4,hu4,hu5,_⟩:=RFL.get k04 4 _ hcs
 simp only [RF] at hu5
 obtain ⟨_,rfl,_⟩:=hu5
 obtain ⟨_,_,_,bm,es,m1,m2,m3,m4,m5⟩:=S.objs U _ hmU
 obtain ⟨cells,r1,r2,r3⟩:=S.objs RB _ hmR
 rw [RE_ints] at r3
 subst r3
 have hfn:FnOk Tryz.prog 34:=⟨_,Tryz.func34,by kernel_rfl,by kernel_rfl⟩
 have hlenx:(xs.map (eI .i64)).length=xs.length:=by simp
 rw [hlenx] at r1
 unfold Oper.wp
 rw [run_call hc1 hfn]
 show Calls Tryz.prog 34 (#[x,y].map a.eval++#[]) w _
 have harr:#[x,y].map a.eval++#[]=#[.iface 46 (hd RB),.func (.func 35) #[] #[.pointer (some ⟨bC,0,none⟩),.pointer (some ⟨bO,0,none⟩)]]:=by
  apply Array.toList_inj.1; simp [hx,hI,hy]
 rw [harr]
 have hsiT:Tryz.prog.info? 46=some siT:=by kernel_rfl
 have hsiE:Tryz.prog.info? 3=some siE:=by kernel_rfl
 have fin:∀ (w2:World),w2.os=w.os→w2.tape=w.tape→w2.output=w.output→w.heap.size≤w2.heap.size→(∀ b,b<w.heap.size→b ∉ blocksOf (hd RB)→w2.heap[b]?=w.heap[b]?) →
   w2.ownsRow 0 e 1 (hd RB) (sortD E xs).length ((sortD E xs).map (Value.int .i64))→K (a.put d (.tuple #[])) w2:=by
  intro w2 q1 q2 q3 q4 q5 q6
  have hkp:Kp ow w ow w2:=⟨q4,fun _ _ h=>h,fun b hb h0=>q5 b hb fun hbb=>by rw [(r2 b hbb).2] at h0; cases h0⟩
  have hkt:Kt w0 w w2:=⟨q1,q2,q3,q4,fun k hk hn=>q5 k (Nat.lt_of_lt_of_le hk S.below.size) fun hbb=>by
   rcases (r2 k hbb).1 with z | z
   ·omega
   ·rw [hn] at z; cases z⟩
  have S3:=S.obj (l:=RB) (hv:=hd RB) (o:=.row e 1 ((sortD E xs).map (eI .i64))) hkp hkt (fun b hb=>S.fresh b (Nat.le_trans q4 hb)) (.inr rfl) rfl
   ⟨_,by rw [List.length_map]; exact q6,r2,(RE_ints _ _).2 rfl⟩
   (fun j oj b hne hj hl hb=>⟨q5 b (((S.objs j oj hj).lt hl b hb).1) fun q=>S.dist j RB oj _ b hne hj hmR hl rfl hb q,rfl,fun _ q=>S.dist j RB oj _ b hne hj hmR hl rfl hb q⟩)
  exact hK _ _ ⟨ow,_,hold,S3.put hn (x:=.d (.tup [])) (by simp only [RF,R,RT]; exact ⟨[],rfl,rfl⟩)⟩
 obtain ⟨z1,z2⟩:=r1
 by_cases h2:2≤xs.length
 ·rcases z2 with ⟨_,z2⟩ | ⟨g,cap,cur,z2,z3,z4,z5,z6,z7,z8⟩
  ·omega
  rw [Nat.mul_one] at z7 z8
  have hg:g<w.heap.size:=(Array.getElem?_eq_some_iff.1 z4).1
  have hblk:∀ (l:Nat) (o:PO),RB≠l→st.m[l]?=some o→o.live=true→∀ b,b∈blocksOf (hd l)→b≠g:=fun l o hne hl hlv b hb q=>by
   subst q
   exact S.dist RB l _ o b hne hmR hl rfl hlv (by rw [z2]; simp [blocksOf,blockOf]) hb
  have nC:bC≠g:=hblk LC _ hR.1 hmC rfl bC (by rw [hbC]; simp [blocksOf,blockOf])
  have nO:bO≠g:=hblk LO _ hR.2.1 hmO rfl bO (by rw [kO0]; simp [blocksOf,blockOf])
  have n0:b0≠g:=hblk L0 _ hR.2.2.1 hm0 rfl b0 (by rw [hb0]; simp [blocksOf,blockOf])
  have nM:bm≠g:=hblk U _ hR.2.2.2 hmU rfl bm (by rw [m1]; simp [blocksOf,blockOf])
  have hcur:∀ j,j<xs.length→cur[j]?=some (.int .i64 xs.toArray[j]!):=fun j hj=>by
   have:=congrArg (fun L=>L[j]?) z8
   simp only [List.getElem?_take,hj,if_true,List.getElem?_map,List.getElem?_eq_getElem hj,Option.map_some] at this
   rw [Array.getElem?_toList] at this
   simp [this,hj]
  have hH:Holds (Value.int .i64) w g 0 xs.toArray:=fun j hj=>by
   simp only [List.size_toArray] at hj
   refine ⟨?_,?_⟩
   ·simp only [World.cell?,z4,Nat.zero_add]
    exact hcur j hj
   ·simp [World.frozen?,z4]
  have hls:LessReads Tryz.prog 35 #[.pointer (some ⟨bC,0,none⟩),.pointer (some ⟨bO,0,none⟩)] (Value.int .i64) (gtD E) g 0 xs.toArray.size w:=by
   intro m os dk hs i j hi hj
   obtain ⟨w1,w2,w3⟩:=heap_sort w (Value.int .i64) m g 0 dk os hg
   have hcell:∀ (b o:Nat),b<w.heap.size→b≠g→(sortWorld (Value.int .i64) w g 0 m dk os).cell? ⟨b,o,none⟩=w.cell? ⟨b,o,none⟩:=fun b o hb hne=>by
    simp only [World.cell?,sortWorld,w1 b hb hne]
   refine less_held g 0 cap xs.toArray.size bC bO b0 bm _ (fun t=>dk[t]!) (fun k=>(mget E k).getD 0) ?_ ?_ ?_ ?_ ?_ i j hi hj
   ·rw [hcell _ _ (Array.getElem?_eq_some_iff.1 kC3).1 nC]
    simp only [World.cell?,kC3]
    have:valC[0]?=some (.pointer (some ⟨b0,0,none⟩)):=by rw [← Array.getElem?_toList,ev]; rfl
    exact this
   ·rw [hcell _ _ (Array.getElem?_eq_some_iff.1 kO3).1 nO]
    simp only [World.cell?,kO3]
    have:valO[0]?=some (.slice (some ⟨g,0,none⟩) xs.length cap):=by rw [← Array.getElem?_toList,eo,z2]; rfl
    simpa using this
   ·rw [hcell _ _ (Array.getElem?_eq_some_iff.1 k03).1 n0]
    simp only [World.cell?,k03]
    rw [m1] at hu4
    simpa using hu4
   ·intro t ht
    simp only [World.cell?,sortWorld,w2 _ _ _ z4,Nat.zero_add]
    simp only [List.size_toArray] at ht hs
    have hc:t<cur.size:=by omega
    simp [Sort.putCells,Array.getElem?_mapIdx,Array.getElem?_eq_getElem hc,hs,ht]
   ·intro q k
    have hmh:((sortWorld (Value.int .i64) w g 0 m dk os).drewN q).heap[bm]?=some (.map es γ.c):=by
     show (sortWorld (Value.int .i64) w g 0 m dk os).heap[bm]?=_
     rw [show (sortWorld (Value.int .i64) w g 0 m dk os).heap[bm]?=w.heap[bm]? from w1 bm (Array.getElem?_eq_some_iff.1 m2).1 nM]
     exact m2
    generalize (sortWorld (Value.int .i64) w g 0 m dk os).drewN q=W at hmh
    have hkw:KW Tryz.prog 3 (fun a:Int=>Value.int .i64 a):=(KOk.int (by kernel_rfl)).kw
    have hf:=hkw.find (fun a:Int=>Value.int .i64 a) k es.toList E W m3
    have hu:Tryz.prog.underlying 53=some (.map 3 3):=by kernel_rfl
    have hz:∀ w,(zeroValue 3).run Tryz.prog w=.ok (.int .i64 0) w:=fun w=>by kernel_rfl
    cases hq:mplc E k with
    | none =>
     rw [hq] at hf
     simp [Instr.lookup,run_underlying hu,MapKept.run_getObj_map hmh,hkw.chk,hf,Result.andThen,mget,hq,hz]
    | some q =>
     rw [hq] at hf
     simp [Instr.lookup,run_underlying hu,MapKept.run_getObj_map hmh,hkw.chk,hf,Result.andThen,mget,hq]
  have hS:=Any.sort_Slice_eq Tryz.laysGg6 46 3 siT siE hsiT (by kernel_rfl) (by kernel_rfl) hsiE 2 (fun _=>by kernel_rfl) (by kernel_rfl) (fun _=>by kernel_rfl) (Value.int .i64) (fun _=>rfl) (gtD E) (swo_gtD E) 35 #[.pointer (some ⟨bC,0,none⟩),.pointer (some ⟨bO,0,none⟩)]
   (enters_of Tryz.func35 (by kernel_rfl) rfl) g 0 cap xs.toArray (by simpa using h2) (by simpa using h62) 58 (by rw [siK _ (by simpa using h2)]; kernel_rfl) true
   (fun args W=>run_callFunc_extern Tryz.func58 (by kernel_rfl) (by kernel_rfl) (by kernel_rfl) (e:=Extern.ReflectliteSwapper.swap true) (by kernel_rfl) args W) w hls hH hg
  change Calls Tryz.prog 34 _ _ _ at hS
  simp only [List.size_toArray] at hS
  rw [← z2] at hS
  refine hS.mono ?_
  rintro e' w' ⟨rfl,q,os,rfl⟩
  have hsd:sortD E xs=(pdq (gtD E) xs.toArray 0 xs.length (Lib.bitLen xs.length) true true).toList:=by unfold sortD; rw [if_pos h2]
  have hlen:(sortD E xs).length=xs.length:=(sortD_spec E xs).1.length_eq
  generalize hdk:pdq (gtD E) xs.toArray 0 xs.length (Lib.bitLen xs.length) true true=dk at hsd
  obtain ⟨w1,w2,w3⟩:=heap_sort w (Value.int .i64) q g 0 dk os hg
  refine fin _ rfl rfl rfl w3 (fun b hb hnb=>w1 b hb fun q=>hnb (by rw [z2,q]; simp [blocksOf,blockOf])) ?_
  have hdl:dk.size=xs.length:=by rw [← hlen,hsd]; simp
  refine ⟨by simp,.inr ⟨g,cap,Sort.putCells (Value.int .i64) 0 dk cur,by rw [hlen]; exact z2,Nat.zero_le _,w2 _ _ _ z4,by rw [hlen]; exact z5,z6,by rw [Nat.mul_one]; simp [Sort.putCells,z7],?_⟩⟩
  rw [Nat.mul_one,hlen,hsd]
  apply List.ext_getElem?
  intro j
  simp only [List.getElem?_take,Sort.putCells,List.getElem?_map,Nat.sub_zero,Array.getElem?_toList,Array.getElem?_mapIdx]
  by_cases hj:j<xs.length
  ·have hc:j<cur.size:=by omega
   have hd':j<dk.size:=by omega
   simp [hj,Array.getElem?_eq_getElem hc,Array.getElem?_eq_getElem hd',hd']
  ·have:dk[j]?=none:=Array.getElem?_eq_none (by omega)
   simp [hj,this]
 ·obtain ⟨f1,hf1⟩:=siK2 xs.length (by omega)
  have hsd:sortD E xs=xs:=by unfold sortD; rw [if_neg h2]
  have hsl:∃ p c,hd RB=.slice p xs.length c:=by
   rcases z2 with ⟨z2,z3⟩ | ⟨g,cap,cur,z2,_⟩
   ·exact ⟨none,0,by rw [z2,z3]⟩
   ·exact ⟨_,_,z2⟩
  obtain ⟨p,c,hp⟩:=hsl
  have hS:=Any.sort_Slice_tiny Tryz.laysGg6 46 3 siT siE hsiT (by kernel_rfl) (by kernel_rfl) hsiE 2 (fun _=>by kernel_rfl) p xs.length c (by omega) f1 hf1 (.func 35) #[] #[.pointer (some ⟨bC,0,none⟩),.pointer (some ⟨bO,0,none⟩)] w
  change Calls Tryz.prog 34 _ _ _ at hS
  rw [← hp] at hS
  refine hS.mono ?_
  rintro e' w' ⟨rfl,os,rfl⟩
  refine fin _ rfl rfl rfl (by simp) (fun b hb _=>heap_grow_old w os hb) ?_
  rw [hsd]
  refine ⟨z1,?_⟩
  rcases z2 with z2 | ⟨g,cap,cur,z2,z3,z4,z5⟩
  ·exact .inl z2
  ·exact .inr ⟨g,cap,cur,z2,z3,by rw [heap_grow_old w os (Array.getElem?_eq_some_iff.1 z4).1]; exact z4,z5⟩
end
end Go.Proofs.YtofjjaagjkbeaaaGreat.pv
namespace Go.Proofs.YtofjjaagjkbeaaaGreat.pv
set_option linter.all false
open Go.RowKit
def clipI (s:Nat) (xs:List PV) (ow:Nat→Bool) (w:World) (h:Value):Prop:=∃ (b:Nat) (cells:List Value),h=.slice (some ⟨b,0,none⟩) xs.length xs.length∧xs.length≤maxLen∧b<w.heap.size∧w.rangeAt b 0 cells∧RE ow w s xs cells
def rowF (e s:Nat) (xs:List PV):Cust where
 I:=fun ow w h _=>(∃ cells,w.ownsRow 0 e s h xs.length cells∧RE ow w s xs cells)∨clipI s xs ow w h
 lt:=by
  rintro ow w h vs (⟨cells,h1,_⟩ | ⟨g,cells,rfl,_,h2,_⟩) b hb
  ·exact (owns_bo h1 hb).2
  ·simp [blocksOf,blockOf] at hb; subst hb; exact h2
 kp:=by
  rintro ow ow' w w' h vs k hb (⟨cells,h1,h2⟩ | ⟨g,cells,h1,h2,h3,h4,h5⟩)
  ·exact .inl ⟨cells,ownsRow_kept h1 fun b e=>(hb b e).1,RE.mono k _ _ _ h2⟩
  ·have:=(hb g (by rw [h1]; simp [blocksOf,blockOf])).1
   exact .inr ⟨g,cells,h1,h2,Nat.lt_of_lt_of_le h3 k.size,rangeAt_kp this h4,RE.mono k _ _ _ h5⟩
 one:=by
  rintro ow w h vs (⟨cells,h1,_⟩ | ⟨g,cells,rfl,_⟩)
  ·exact owns_one h1
  ·rfl
 dat:=some xs
 fz:=by
  rintro ow ow0 w h vs ys e hI hk hb
  cases e
  rcases hI with ⟨cells,h1,h2⟩ | ⟨g,cells,h1,h2,h3,h4,h5⟩
  ·exact own_R h1 h2 hk hb
  ·simp only [R]
   exact ⟨some ⟨g,0,none⟩,xs.length,h1,Nat.le_refl _,h2,.inr ⟨g,0,s,cells,rfl,h3,hb g (by rw [h1]; simp [blocksOf,blockOf]),h4,RE.mono hk _ _ _ h5⟩⟩
def oldI (s:Nat) (xs:List PV) (ow:Nat→Bool) (w:World) (h:Value):Prop:=(h=.slice none 0 0∧xs=[])∨∃ (b C:Nat) (cells:List Value),h=.slice (some ⟨b,0,none⟩) xs.length C∧xs.length≤C∧C≤maxLen∧b<w.heap.size∧w.rangeAt b 0 cells∧RE ow w s xs cells
theorem oldI.kp {s:Nat} {xs:List PV} {ow ow':Nat→Bool} {w w':World} {h:Value} (k:Kp ow w ow' w') (hb:∀ b,b∈blocksOf h→w'.heap[b]?=w.heap[b]?) (ho:oldI s xs ow w h):oldI s xs ow' w' h:=by
 rcases ho with ho | ⟨b,C,cells,h1,h2,h3,h4,h5,h6⟩
 ·exact .inl ho
 ·exact .inr ⟨b,C,cells,h1,h2,h3,Nat.lt_of_lt_of_le h4 k.size,rangeAt_kp (hb b (by rw [h1]; simp [blocksOf,blockOf])) h5,RE.mono k _ _ _ h6⟩
theorem oldI.lt {s:Nat} {xs:List PV} {ow:Nat→Bool} {w:World} {h:Value} (ho:oldI s xs ow w h):∀ b,b∈blocksOf h→b<w.heap.size:=by
 intro b hb
 rcases ho with ⟨rfl,_⟩ | ⟨b',C,cells,h1,h2,h3,h4,h5,h6⟩
 ·simp [blocksOf,blockOf] at hb
 ·rw [h1] at hb; simp [blocksOf,blockOf] at hb; subst hb; exact h4
def splC (e s:Nat) (xs ys:List PV):Cust where
 I:=fun ow w h vs=>∃ hL,vs=[hL]∧oldI s xs ow w hL∧((∃ cells,w.ownsRow 0 e s h ys.length cells∧RE ow w s ys cells∧∀ b,b∈blocksOf hL→ow b=false)∨(∃ (b C:Nat),hL=.slice (some ⟨b,0,none⟩) xs.length C∧h=.slice (some ⟨b,0,none⟩) ys.length ys.length∧ys=xs.take ys.length))
 lt:=by
  rintro ow w h vs ⟨hL,rfl,ho,⟨cells,h1,_⟩ | ⟨g,C,h1,h2,h3⟩⟩ b hb
  ·exact (owns_bo h1 hb).2
  ·exact ho.lt b (by rw [h1]; rw [h2] at hb; simpa [blocksOf,blockOf] using hb)
 kp:=by
  rintro ow ow' w w' h vs k hb ⟨hL,rfl,ho,⟨cells,h1,h2,h3⟩ | ⟨g,C,h1,h2,h3⟩⟩
  ·exact ⟨hL,rfl,ho.kp k fun b hb'=>k.same b (ho.lt b hb') (h3 b hb'),.inl ⟨cells,ownsRow_kept h1 fun b e=>(hb b e).1,RE.mono k _ _ _ h2,fun b hb'=>k.pub b (ho.lt b hb') (h3 b hb')⟩⟩
  ·exact ⟨hL,rfl,ho.kp k fun b hb'=>(hb b (by rw [h1] at hb'; rw [h2]; simpa [blocksOf,blockOf] using hb')).1,.inr ⟨g,C,h1,h2,h3⟩⟩
 one:=by
  rintro ow w h vs ⟨hL,rfl,ho,⟨cells,h1,_⟩ | ⟨g,C,h1,h2,h3⟩⟩
  ·exact owns_one h1
  ·rw [h2]; rfl
section
variable {P:Program} {T:List TI} {n:Nat} {w0:Cx} {st:PS} {a:Act} {w:World} {ow:Nat→Bool} {hd:Nat→Value}
theorem rowF_hd {A:Nat→Bool} {c:Cx} {h:Value} {e s:Nat} {xs:List PV} (hr:RO A hd c ow w h (.cu (rowF e s xs) [])):∃ ad cap,h=.slice ad xs.length cap∧xs.length≤cap∧cap≤maxLen:=by
 obtain ⟨_,vs,_,⟨cells,h1,h2⟩ | ⟨g,cells,h1,h2,_⟩⟩:=hr
 ·rcases h1.2 with ⟨q1,q2⟩ | ⟨g,cap,cur,q1,_,_,q2,q3,_⟩
  ·exact ⟨none,0,by rw [q1,q2],by omega,by simp [maxLen]⟩
  ·exact ⟨_,cap,q1,q2,q3⟩
 ·exact ⟨_,_,h1,Nat.le_refl _,h2⟩
def toF (l e s:Nat) (xs:List PV) (st:PS):PS:=⟨st.f,st.m.set l (.cu (rowF e s xs) [])⟩
theorem row_toF {l e s:Nat} {xs:List PV}:SilX [(l,.row e s xs)] (toF l e s xs):=by
 intro st hm
 refine ⟨rfl,fun n w0 a w S=>?_⟩
 obtain ⟨ow,hd,hold,S⟩:=S
 have hml:=hm (l,.row e s xs) (by simp)
 simp only at hml
 obtain ⟨cells,h1,h2,h3⟩:=S.objs l _ hml
 exact ⟨ow,hd,hold,S.re hml rfl rfl ⟨h2,[],by simp [RFL],.inl ⟨cells,h1,h3⟩⟩⟩
theorem flen {t l e s:Nat} {xs:List PV} {x:Operand} (h1:tsl T t=some (e,s)):Ext P T (.call ⟨.builtin .len,#[x],#[t]⟩) [.srf l] [(l,.cu (rowF e s xs) [])] (.d (.v (.int .i64 (xs.length:Int)))) []:=by
 intro n w0 st a w oo hT hS ho hn hv hm K Q hK
 obtain ⟨ow,hd,hold,S⟩:=hS
 obtain ⟨d,op,ty,pos,af,gd⟩:=oo
 simp only at ho hn hK
 subst ho
 simp [Op.operands,Call.operands] at hv
 have hml:=hm (l,.cu (rowF e s xs) []) (by simp)
 simp only at hml
 obtain ⟨ad,cap,hh,_,_⟩:=rowF_hd (S.objs l _ hml)
 have hx:=S.eval x
 rw [hv] at hx
 simp only [RF] at hx
 have hrun:(execOp a.eval ⟨d,.call ⟨.builtin .len,#[x],#[t]⟩,ty,pos,af,gd⟩).run P w=.ok (.value (.int .i64 (xs.length:Int))) w:=by
  simp [execOp,resolve,invoke,builtin,hx.2.1,hh,Builtin.len_,run_underlying (tsl_und hT h1).1,goInt]
 exact wp_val hrun (hK _ _ ⟨ow,hd,hold,S.put hn (x:=.d (.v (.int .i64 (xs.length:Int)))) (by simp only [RF,R]; exact ⟨trivial,rfl⟩)⟩)
end
end Go.Proofs.YtofjjaagjkbeaaaGreat.pv
namespace Go.Proofs.YtofjjaagjkbeaaaGreat.pv
set_option linter.all false
open Go.RowKit Go.MapKept help
section
variable {κ ν:Type} [DecidableEq κ] {f:κ→Value} {g:ν→Value} {P:Program} {T:List TI}
theorem mlen {t kt et l:Nat} {E:List (κ×ν)} {x:Operand} (h1:P.underlying t=some (.map kt et)) :
  Ext P T (.call ⟨.builtin .len,#[x],#[t]⟩) [.srf l] [(l,.cu (mapC f g E) [])] (.d (.v (.int .i64 (E.length:Int)))) []:=by
 intro n w0 st a w oo hT hS ho hn hv hm K Q hK
 obtain ⟨ow,hd,hold,S⟩:=hS
 obtain ⟨d,op,ty,pos,af,gd⟩:=oo
 simp only at ho hn hK
 subst ho
 simp [Op.operands,Call.operands] at hv
 have hml:=hm (l,.cu (mapC f g E) []) (by simp)
 simp only at hml
 obtain ⟨g1,vs,g2,b,clock,es,q1,q2,q3,q4⟩:=S.objs l _ hml
 have hlen:es.size=E.length:=by
  have:=congrArg List.length q3
  simpa using this
 have hx:=S.eval x
 rw [hv] at hx
 simp only [RF] at hx
 have hrun:(execOp a.eval ⟨d,.call ⟨.builtin .len,#[x],#[t]⟩,ty,pos,af,gd⟩).run P w=.ok (.value (.int .i64 (E.length:Int))) w:=by
  simp [execOp,resolve,invoke,builtin,hx.2.1,q1,Builtin.len_,run_underlying h1,MapKept.run_getObj_map q2,Result.andThen,goInt,hlen]
 exact wp_val hrun (hK _ _ ⟨ow,hd,hold,S.put hn (x:=.d (.v (.int .i64 (E.length:Int)))) (by simp only [RF,R]; exact ⟨trivial,rfl⟩)⟩)
theorem erase_map {α β:Type} (h:α→β):∀ (l:List α) (i:Nat),(l.eraseIdx i).map h=(l.map h).eraseIdx i
 | [],_=>rfl
 | _::_,0=>rfl
 | a::l,i+1=>by
  show h a::(l.eraseIdx i).map h=h a::(l.map h).eraseIdx i
  rw [erase_map h l i]
def mdel (E:List (κ×ν)) (k:κ):List (κ×ν):=match mplc E k with | some (i,_)=>E.eraseIdx i | none=>E
theorem mdelete {t kt et t2 l:Nat} {E:List (κ×ν)} {x y:Operand} {k:κ} {fk:FV} (hfk:KV fk (f k)) (h1:P.underlying t=some (.map kt et)) (hk:KW P kt f) :
  Ext P T (.call ⟨.builtin .delete,#[x,y],#[t,t2]⟩) [.srf l,fk] [(l,.cu (mapC f g E) [])] (.d (.tup [])) [(l,.cu (mapC f g (mdel E k)) [])]:=by
 intro n w0 st a w oo hT hS ho hn hv hm K Q hK
 obtain ⟨ow,hd,hold,S⟩:=hS
 obtain ⟨d,op,ty,pos,af,gd⟩:=oo
 simp only at ho hn hK
 subst ho
 simp [Op.operands,Call.operands] at hv
 obtain ⟨hv1,hv2⟩:=hv
 have hml:=hm (l,.cu (mapC f g E) []) (by simp)
 simp only at hml
 obtain ⟨g1,vs,g2,b,clock,es,q1,q2,q3,q4⟩:=S.objs l _ hml
 have hx:=S.eval x
 rw [hv1] at hx
 simp only [RF] at hx
 obtain ⟨_,hx,_⟩:=hx
 have hy:a.eval y=f k:=by have:=S.eval y; rw [hv2] at this; exact hfk _ _ _ _ _ this
 have hf:=hk.find g k es.toList E w q3
 have hgo:∃ es',(Builtin.delete_ #[t,t2] ty #[.map (some b),f k]).run P w=.ok (.tuple #[]) { w with heap:=w.heap.setIfInBounds b (.map es' clock) }∧es'.toList.map (fun e=>(e.key,e.val))=(mdel E k).map (fun p=>(f p.1,g p.2))∧Stp es'.toList clock:=by
  cases hq:mplc E k with
  | none =>
   rw [hq] at hf
   refine ⟨es,?_,?_,q4⟩
   ·simp [Builtin.delete_,run_underlying h1,MapKept.run_getObj_map q2,hk.chk,hf,run_setObj_map _ q2,Result.andThen]
   ·simp [mdel,hq,q3]
  | some q =>
   obtain ⟨i,v0⟩:=q
   rw [hq] at hf
   have h2:(es.eraseIdxIfInBounds i).toList=es.toList.eraseIdx i:=by
     unfold Array.eraseIdxIfInBounds
     split
     ·simp
     ·rw [List.eraseIdx_of_length_le (by simpa using Nat.le_of_not_lt ‹_›)]
   refine ⟨es.eraseIdxIfInBounds i,?_,?_,by
    rw [h2]
    exact ⟨fun e he=>q4.1 e (List.mem_of_mem_eraseIdx he),q4.2.sublist (List.eraseIdx_sublist _ _)⟩⟩
   ·simp [Builtin.delete_,run_underlying h1,MapKept.run_getObj_map q2,hk.chk,hf,run_setObj_map _ q2,Result.andThen]
   ·simp only [mdel,hq]
    rw [h2,erase_map,q3,erase_map]
 obtain ⟨es',hrun,hes⟩:=hgo
 have hrun':(execOp a.eval ⟨d,.call ⟨.builtin .delete,#[x,y],#[t,t2]⟩,ty,pos,af,gd⟩).run P w=.ok (.value (.tuple #[])) { w with heap:=w.heap.setIfInBounds b (.map es' clock) }:=by
  simp [execOp,resolve,invoke,builtin,hx,q1,hy,hrun,Result.andThen]
 obtain ⟨h2,h3⟩:=heap_set (o':=.map es' clock) q2
 obtain ⟨hnw,how⟩:=g1 b (by rw [q1]; first | rfl | simp [blocksOf,blockOf])
 have hbel:Below 0 w { w with heap:=w.heap.setIfInBounds b (.map es' clock) }:=⟨rfl,rfl,rfl,by simp,fun j hj=>by omega⟩
 have S':=S.set (l:=l) (b:=b) (o':=.cu (mapC f g (mdel E k)) []) hml rfl rfl (by rw [q1]; first | rfl | simp [blocksOf,blockOf]) h3 (by simp) (Kt.of_one hbel hnw h3)
  ⟨fun b' hb'=>g1 b' hb',[],by simp [RFL],b,clock,es',q1,h2,hes⟩
 unfold Oper.wp
 rw [hrun']
 exact hK _ _ ⟨ow,hd,hold,S'.put hn (x:=.d (.tup [])) (v:=.tuple #[]) (by simp only [RF,R,RT]; exact ⟨[],rfl,rfl⟩)⟩
end
end Go.Proofs.YtofjjaagjkbeaaaGreat.pv
namespace Go.Proofs.YtofjjaagjkbeaaaGreat.pv
set_option linter.all false
open Go.RowKit
section
variable {P:Program} {T:List TI} {n:Nat} {w0:Cx} {st:PS} {a:Act} {w:World} {ow:Nat→Bool} {hd:Nat→Value}
theorem run_append_clip {t ty e:TypeId} {i:TypeInfo} {z:Value} {s:Nat} (ht:P.underlying t=some (.slice e)) (hi:P.info? e=some i) (hz:i.zero=some z) (hsize:i.size=s) (hzs:z.cells.size=s) {b N M c:Nat} {olds news:List Value} {ad:Addr}
  (hlo:olds.length=N*s) (holds:w.rangeAt b 0 olds) (hl:news.length=M*s) (hnews:∀ j u,news[j]?=some u→w.cell? (ad.add j)=some u) (hM:0<M) (h63:N+M≤maxLen) (hbytes:(N+M)*i.bytes≤140737488355328) :
  ∃ v' w',(Builtin.append_ #[t,t] ty #[.slice (some ⟨b,0,none⟩) N N,.slice (some ad) M c]).run P w=.ok v' w'∧w'.ownsRow 0 e s v' (N+M) (olds++news)∧w.grownBy w' none∧(∃ gc,v'=.slice (some ⟨w.heap.size,0,none⟩) (N+M) gc)∧w.heap.size<w'.heap.size:=by
 subst hsize
 have hsmall:N+M≤9223372036854775807:=by simp only [maxLen] at h63; omega
 have hlen:(olds++news).length=(N+M)*i.size:=by rw [List.length_append,hlo,hl,Nat.add_mul]
 have hge:=grownCap_ge w (N+M) N e
 have hcm:grownCap w (N+M) N e≤maxLen:=grownCap_le_maxLen w (N+M) N e h63
 have hr:=run_append_grow (P:=P) w t ty e i z ht hi hz ⟨b,0,none⟩ N N olds hlo (fun j v hj=>by rw [Addr.add_mid]; exact holds j v hj) ad M c news hl hnews (by omega) (by omega) (growslice_fits (by omega) hbytes)
 refine ⟨_,_,hr,⟨hlen,.inr ⟨w.heap.size,_,_,rfl,Nat.zero_le _,heap_alloc_new w.drew _,hge,hcm,?_,?_⟩⟩,⟨rfl,rfl,rfl,by simp,fun k hk _=>heap_alloc_old w.drew _ hk⟩,⟨_,rfl⟩,by simp⟩
 ·simp only [Array.size_append,List.size_toArray,size_zeroCells,hzs,hlo,hl,← Nat.add_mul]
  congr 1
  omega
 ·simp only [Array.toList_append,List.append_assoc]
  rw [← List.append_assoc,← hlen]
  exact List.take_left
theorem fapp {t e s l nl:Nat} {ti:TI} {xs ys zs:List PV} {x y:Operand} (hzs:xs++ys=zs) (h1:tsl T t=some (e,s)) (h2:T[e]?=some ti) (h3:ti.zero.length=s) (h4:0<s) (hy:ys.all (fits s)=true) (hy0:ys≠[]) (h8:xs.length+ys.length≤maxLen) (h9:(xs.length+ys.length)*ti.bytes≤140737488355328) (hne:l≠nl) :
  Ext P T (.call ⟨.builtin .append,#[x,y],#[t,t]⟩) [.srf l,.d (.sl ys)] [(l,.cu (rowF e s xs) []),(nl,.free)] (.srf nl) [(l,.none),(nl,.row e s zs)]:=by
 subst hzs
 intro n w0 st a w o hT hS ho hn hv hm K Q hK
 obtain ⟨ow,hd,hold,S⟩:=hS
 have hml:=hm (l,.cu (rowF e s xs) []) (by simp)
 have hnl:=hm (nl,.free) (by simp)
 simp only at hml hnl
 obtain ⟨hO1,vs0,_,hO3⟩:=S.objs l _ hml
 rcases hO3 with ⟨cells,q1,q2⟩ | ⟨b,cells,q1,q2,q3,q4,q5⟩
 ·have key:Ext P T (.call ⟨.builtin .append,#[x,y],#[t,t]⟩) [.srf l,.d (.sl ys)] [(l,.row e s xs),(nl,.free)] (.srf nl) [(l,.none),(nl,.row e s (xs++ys))]:=by
   refine ext_of0 fun ρ mm hv hm=>?_
   simp [Op.operands,Call.operands] at hv
   have:=PAct0.append (P:=P) (T:=T) (ρ:=ρ) (m:=mm) (nl:=nl) t x y e s ti xs ys [(l,.none)] [l] [] (hm (nl,.free) (by simp)) h1 h2 h3 h4 (by rw [hv.1]; exact .row l _ (hm (l,.row e s xs) (by simp))) (by rw [hv.2]; exact .sl _) hy h8 h9
   exact ⟨nl,_,this⟩
  have S1:=S.re (o':=.row e s xs) hml rfl rfl ⟨cells,q1,hO1,q2⟩
  refine key n w0 ⟨st.f,st.m.set l (.row e s xs)⟩ a w o hT ⟨ow,hd,hold,S1⟩ ho hn hv (fun q hq=>?_) K Q (fun a' w' h'=>hK a' w' ?_)
  ·simp at hq
   rcases hq with rfl | rfl
   ·show (st.m.set l _)[l]?=_
    rw [List.getElem?_set,if_pos rfl,if_pos (List.getElem?_eq_some_iff.1 hml).1]
   ·exact get_set_ne hnl (Ne.symm hne)
  ·simp only [PS.act] at h' ⊢
   rw [updM_over _ st.m l _ ⟨(l,.none),by simp,rfl⟩] at h'
   exact h'
 ·obtain ⟨d,op,tyo,pos,af,gd⟩:=o
  simp only at ho hn hK
  subst ho
  simp [Op.operands,Call.operands] at hv
  obtain ⟨hv1,hv2⟩:=hv
  obtain ⟨ti',dd,e1,e2,e3,e4,e5,e6⟩:=hT.info h2
  obtain ⟨hu,hs⟩:=tsl_und hT h1
  have hsi:=tsz_info hT hs
  rw [e1] at hsi
  simp at hsi
  obtain ⟨z,hz,e6⟩:=e6 (fun e=>by rw [e] at h3; simp at h3; omega)
  have hzl:z.cells.size=s:=by
   have:=congrArg List.length (zsOk_pv e6).1
   simp at this; omega
  have hx:=S.eval x
  rw [hv1] at hx
  simp only [RF] at hx
  have hyv:=S.d hv2
  simp only [R] at hyv
  obtain ⟨ya,yc,y1,y2,y3,y4⟩:=hyv
  rcases y4 with y4 | ⟨b2,off,sz,ycells,rfl,y5,y6,y7,y8⟩
  ·exact absurd y4 hy0
  have y9:=y8.resize hy
  have hM:0<ys.length:=by cases ys with | nil=>exact absurd rfl hy0 | cons _ _=>simp
  obtain ⟨v',w',r1,r2,r3,⟨gc,r4⟩,r5⟩:=run_append_clip (P:=P) (w:=w) (ty:=tyo) (c:=yc) hu e1 hz hsi hzl q5.length q4 y9.length (fun j u hj=>by rw [Addr.add_mid]; exact y7 j u hj) hM h8 (by rw [e4]; exact h9)
  have S1:=S.kill l
  have hnl1:(st.m.set l PO.none)[nl]?=some .free:=get_set_ne hnl (Ne.symm hne)
  obtain ⟨ow',hd',⟨g1,g2⟩,g3,g4⟩:=S1.newRow (e:=e) (s:=s) (xs:=xs++ys) (cells:=cells++ycells) hnl1 (v':=v') (w':=w') (by rw [List.length_append]; exact r2) r3 (fun b hb=>by rw [r4] at hb; simp [blocksOf,blockOf] at hb; subst hb; exact ⟨rfl,r5⟩) (q5.append y9) ⟨_,_,_,r4⟩
  have hrun:(execOp a.eval ⟨d,.call ⟨.builtin .append,#[x,y],#[t,t]⟩,tyo,pos,af,gd⟩).run P w=.ok (.value v') w':=by
   simp [execOp,resolve,invoke,builtin,hx.2.1,q1,y1,r1]
  refine wp_val' hrun (hK _ _ ⟨ow',hd',hold.step fun b hb hno=>g1 b (Nat.lt_of_lt_of_le hb S.below.size),g3.put hn g4⟩)
def fmvS (l e s:Nat) (xs:List PV) (st:PS):PS:=⟨smvL l st.m.length st.f,((st.m.map (smvO l st.m.length)).set l .none)++[.cu (rowF e s xs) []]⟩
theorem fmv {l e s:Nat} {xs:List PV}:SilX [(l,.cu (rowF e s xs) [])] (fmvS l e s xs):=by
 intro st hm
 refine ⟨smvL_length _ _ _,fun n w0 a w S=>?_⟩
 obtain ⟨ow,hd,hold,S⟩:=S
 have hm:=hm (l,.cu (rowF e s xs) []) (by simp)
 simp only at hm
 have S0:=S.room 1
 have hlt:l<st.m.length:=(List.getElem?_eq_some_iff.1 hm).1
 have hm0:(st.m++List.replicate 1 PO.free)[l]?=some (.cu (rowF e s xs) []):=by rw [List.getElem?_append_left hlt]; exact hm
 have hf0:(st.m++List.replicate 1 PO.free)[st.m.length]?=some .free:=by rw [List.getElem?_append_right (Nat.le_refl _)]; simp
 have hne:l≠st.m.length:=by omega
 have hO:=S0.objs l _ hm0
 obtain ⟨ad,cap,hh,_⟩:=rowF_hd hO
 have hone:(hd l).oneCell'=true:=by rw [hh]; rfl
 obtain ⟨o1,vs,o2,o3⟩:=hO
 obtain ⟨q2,q1,q3⟩:=(S0.kill l).add (o:=.cu (rowF e s xs) []) (hv:=hd l) (get_set_ne hf0 (Ne.symm hne)) rfl ⟨o1,[],by simp [RFL],o3⟩
  (fun j oj b hne2 hj hlv hb1 hb2=>by
   obtain ⟨hj',hjl⟩:=kill_live hj hlv
   exact S0.dist j l oj _ b hjl hj' hm0 hlv rfl hb1 hb2)
 have hmm:((st.m++List.replicate 1 PO.free).set l .none).set st.m.length (.cu (rowF e s xs) [])=st.m.set l .none++[.cu (rowF e s xs) []]:=by
  rw [List.set_append_left _ _ hlt,List.set_append_right _ _ (by simp)]
  simp
 simp only [] at q1 q2 q3
 rw [hmm] at q1 q2 q3
 have hkl:upd hd st.m.length (hd l) st.m.length=upd hd st.m.length (hd l) l:=by rw [upd_same,upd_ne _ _ hne]
 have q4:=q2.toSimH.smvO q3 hkl
 have hmap:(st.m.set l .none++[PO.cu (rowF e s xs) []]).map (pv.smvO l st.m.length)=((st.m.map (pv.smvO l st.m.length)).set l .none)++[.cu (rowF e s xs) []]:=by
  rw [List.map_append,List.map_set]; rfl
 have hal':al (((st.m.map (pv.smvO l st.m.length)).set l .none)++[.cu (rowF e s xs) []])=al (st.m.set l .none++[PO.cu (rowF e s xs) []]):=by
  rw [← hmap]; exact al_smvO
 simp only at q4
 rw [hmap] at q4
 refine ⟨ow,_,hold,{ q4 with defers:=q2.defers,size:=q2.size,slots:=fun i=>?_ }⟩
 show RF _ _ _ _ ((smvL l st.m.length st.f).getD i .dead) _
 rw [List.getD_eq_getElem?_getD,smvL_get]
 have hs:=q2.slots i
 rw [List.getD_eq_getElem?_getD] at hs
 cases hf:st.f[i]? with
 | none=>simp only [Option.map_none,Option.getD_none,RF]
 | some x =>
  simp only [Option.map_some,Option.getD_some]
  rw [hf] at hs
  show RF (al (((st.m.map (pv.smvO l st.m.length)).set l .none)++[.cu (rowF e s xs) []])) _ _ _ _ _
  rw [hal']
  exact RF.smv q3 hkl _ _ hs
theorem lmap' {α:Type} {f:α→PV} {L:List α} {op:Op} {vs:List FV} {m0 U:List (Nat×PO)} (h:Ext P T op vs m0 (.d (.v (.int .i64 ((L.map f).length:Int)))) U):Ext P T op vs m0 (.d (.v (.int .i64 (L.length:Int)))) U:=by rw [List.length_map] at h; exact h
end
end Go.Proofs.YtofjjaagjkbeaaaGreat.pv
namespace Go.Proofs.YtofjjaagjkbeaaaGreat.pv
set_option linter.all false
open Go.RowKit
def bagV (ct:Nat→Nat×Nat) (us:List Value) (xs:List PV):Cust where
 I:=fun ow w v _=>bagI ct (fun _=>true) xs ow w v∧v=.func (.func 0) #[] us.toArray
 lt:=fun h=>(bagC ct (fun _=>true) xs).lt (vs:=[]) h.1
 kp:=fun hk hb h=>⟨(bagC ct (fun _=>true) xs).kp (vs:=[]) hk hb h.1,h.2⟩
 one:=by
  rintro ow w v vs ⟨_,rfl⟩
  rfl
def rowV (e s:Nat) (ys:List PV) (u:Value):Cust where
 I:=fun ow w v _=>v=u∧∃ cells,w.ownsRow 0 e s v ys.length cells∧RE ow w s ys cells
 lt:=by
  rintro ow w v vs ⟨rfl,cells,h1,_⟩ b hb
  exact (owns_bo h1 hb).2
 kp:=by
  rintro ow ow' w w' v vs hk hb ⟨rfl,cells,h1,h2⟩
  exact ⟨rfl,cells,ownsRow_kept h1 fun b e=>(hb b e).1,RE.mono hk _ _ _ h2⟩
 one:=by
  rintro ow w v vs ⟨rfl,cells,h1,_⟩
  exact owns_one h1
def oneC (ty:Nat):Cust where
 I:=fun ow w v vs=>∃ u,vs=[u]∧w.ownsRow 0 ty 1 v 1 [u]
 lt:=by
  rintro ow w v vs ⟨u,rfl,h1⟩ b hb
  exact (owns_bo h1 hb).2
 kp:=by
  rintro ow ow' w w' v vs hk hb ⟨u,rfl,h1⟩
  exact ⟨u,rfl,ownsRow_kept h1 fun b e=>(hb b e).1⟩
 one:=by
  rintro ow w v vs ⟨u,rfl,h1⟩
  exact owns_one h1
section
variable {ow:Nat→Bool} {w:World}
end
section
variable {P:Program} {T:List TI} {n:Nat} {w0:Cx} {st:PS} {a:Act} {w:World} {ow:Nat→Bool} {hd:Nat→Value}
end
end Go.Proofs.YtofjjaagjkbeaaaGreat.pv
namespace Go.Proofs.YtofjjaagjkbeaaaGreat.pv
set_option linter.all false
open Go.RowKit
section
variable {P:Program} {T:List TI} {n:Nat} {w0:Cx} {st:PS} {a:Act} {w:World} {ow:Nat→Bool} {hd:Nat→Value}
end
end Go.Proofs.YtofjjaagjkbeaaaGreat.pv
namespace Go.Proofs.YtofjjaagjkbeaaaGreat.pv
set_option linter.all false
open Go.RowKit
section
variable {P:Program} {T:List TI} {n:Nat} {w0:Cx} {st:PS} {a:Act} {w:World} {ow:Nat→Bool} {hd:Nat→Value}
end
end Go.Proofs.YtofjjaagjkbeaaaGreat.pv
namespace Go.Proofs.YtofjjaagjkbeaaaGreat.pv
set_option linter.all false
open Go.RowKit
def flatF:FV→Bool
 | .d x=>flat x
 | .srf _=>true
 | .dead=>true
 | _=>false
def CleanO:PO→Prop
 | .none=>True
 | .row _ _ xs=>xs.all flat=true
 | .cu q fs=>fs.all flatF=true∧∀ (ow ow':Nat→Bool) (w:World) (h:Value) (vs:List Value),q.I ow w h vs→q.I ow' w h vs
 | _=>False
section
variable {w:World} {A:Nat→Bool} {hd:Nat→Value}
theorem RE_flat {ow ow':Nat→Bool} {s:Nat}:∀ {xs:List PV} {cs:List Value},xs.all flat=true→RE ow w s xs cs→RE ow' w s xs cs
 | [],cs,_,h=>by simpa only [RE] using h
 | x::xs,cs,hf,h=>by
  simp only [List.all_cons,Bool.and_eq_true] at hf
  simp only [RE] at h ⊢
  obtain ⟨u,r,e,h0,h1,h2,h3⟩:=h
  exact ⟨u,r,e,h0,h1,R.flat _ _ hf.1 h2,RE_flat hf.2 h3⟩
theorem RFL_flat {ow ow':Nat→Bool}:∀ {fs:List FV} {vs:List Value},fs.all flatF=true→RFL A hd ow w fs vs→RFL A hd ow' w fs vs
 | [],vs,_,h=>by simpa only [RFL] using h
 | f::fs,vs,hf,h=>by
  simp only [List.all_cons,Bool.and_eq_true] at hf
  simp only [RFL] at h ⊢
  obtain ⟨u,r,e,h1,h2,h3⟩:=h
  refine ⟨u,r,e,?_,h2,RFL_flat hf.2 h3⟩
  have hf1:=hf.1
  cases f with
  | d x=>simp only [RF] at h1 ⊢; exact R.flat _ _ hf1 h1
  | srf l=>simpa only [RF] using h1
  | dead=>simp only [RF]
  | agg=>simp [flatF] at hf1
  | tup=>simp [flatF] at hf1
  | ref=>simp [flatF] at hf1
  | ept=>simp [flatF] at hf1
  | asl=>simp [flatF] at hf1
  | ssl=>simp [flatF] at hf1
  | clo=>simp [flatF] at hf1
end
section
variable {P:Program} {T:List TI} {n:Nat} {w0:Cx} {st:PS} {a:Act} {w:World} {ow:Nat→Bool} {hd:Nat→Value}
theorem SimW.callN (S:SimW n w0 st a w ow hd) (hold:Keep w0 ow) {g:FuncId} {ps:List PV} {us:List Value} {τ:List Nat} {m2:List PO} {r:FV} {nl:Nat} (hx:RT (fun _=>false) w ps us)
  (h2:nodup τ=true) (h4:τ=(List.range m2.length).map (nl+·)) (h5:∀ k,k<m2.length→st.m[nl+k]?=some .free) (h6:∀ o∈m2,CleanO o) (hr0:∀ (A:Nat→Bool) (hd:Nat→Value) (ow ow':Nat→Bool) (w:World) (v:Value),RF A hd ow w r v→RF A hd ow' w r v)
  (hret:RetH P g (ps.map .d) [] r m2) :
  Calls P g us.toArray w (fun e w'=>∃ v ow' hd',e=.returned v∧Keep w0 ow'∧SimW n w0 ⟨st.f,updM st.m (zipO τ τ m2)⟩ a w' ow' hd'∧RF (al (updM st.m (zipO τ τ m2))) hd' ow' w' (mapF τ r) v):=by
 have hτl:τ.length=m2.length:=by rw [h4]; simp
 have hτn:∀ j,j<m2.length→τ[j]?=some (nl+j):=by
  intro j hj
  rw [h4,List.getElem?_map,List.getElem?_range (by omega)]
  rfl
 have hτlt:∀ x∈τ,x<st.m.length:=by
  intro x hx
  rw [h4,List.mem_map] at hx
  obtain ⟨k,hk,rfl⟩:=hx
  exact (List.getElem?_eq_some_iff.1 (h5 k (by simpa using hk))).1
 have hupd:=fun l=>updM_zipO (τ:=τ) τ m2 st.m l h2 hτl hτlt
 let c1:Cx:=⟨w,fun _=>false,fun _=>false,fun _=>undef⟩
 have S1:SimH c1 [] w (fun _=>false) hd:=⟨Kt.refl _ _,fun _ _=>rfl,fun l o h=>by simp at h,fun l l' o o' b _ h=>by simp at h⟩
 have hargs:RFT (al []) hd (fun _=>false) w (ps.map .d) us:=by
  have go:∀ (ps:List PV) (us:List Value),RT (fun _=>false) w ps us→RFT (al []) hd (fun _=>false) w (ps.map .d) us:=by
   intro ps
   induction ps with
   | nil=>intro us h; simpa only [RT,List.map_nil,RFT] using h
   | cons p ps ih =>
    intro us h
    simp only [RT] at h
    obtain ⟨v,r,e,h1,h3⟩:=h
    simp only [List.map_cons,RFT]
    exact ⟨v,r,e,by simpa only [RF] using h1,ih r h3⟩
  exact go ps us hx
 refine (hret.2 c1 hd us S1 hargs).mono fun e w2 ⟨v,ow2,hd2,he,k2,S2,_,hr⟩=>?_
 let hd3:Nat→Value:=fun l=>match idx l τ with | some j=>hd2 j | none=>hd l
 have hd3τ:∀ j l,τ[j]?=some l→hd3 l=hd2 j:=by
  intro j l hj
  obtain ⟨i,hi⟩:=idx_of_get (List.mem_of_getElem? hj)
  have:=nodup_nat h2 hj (idx_get hi)
  subst this
  show (match idx l τ with | some j=>hd2 j | none=>hd l)=hd2 j
  rw [hi]
 have hd3n:∀ l,l ∉ τ→hd3 l=hd l:=by
  intro l hl
  show (match idx l τ with | some j=>hd2 j | none=>hd l)=hd l
  cases hq:idx l τ with
  | none=>rfl
  | some j=>exact absurd (List.mem_of_getElem? (idx_get hq)) hl
 let ow3:Nat→Bool:=fun b=>if b<w.heap.size then ow b else ow2 b
 have hold3:∀ b,b<w.heap.size→ow3 b=ow b:=fun b hb=>if_pos hb
 have hblk:∀ b,b<w.heap.size→w2.heap[b]?=w.heap[b]?:=fun b hb=>S2.below.block b hb rfl
 have hKp:Kp ow w ow3 w2:=⟨S2.below.size,fun b hb h=>by rw [hold3 b hb]; exact h,fun b hb _=>hblk b hb⟩
 have hsz:=S.below.size
 have hnewb:∀ b,c1.New b→w.heap.size≤b:=by
  intro b hb
  rcases hb with hb | hb
  ·exact hb
  ·cases hb
 have hnew:∀ b,c1.New b→w0.New b:=fun b hb=>.inl (Nat.le_trans hsz (hnewb b hb))
 have how3:∀ b,w.heap.size≤b→ow3 b=ow2 b:=fun b hb=>if_neg (Nat.not_lt.2 hb)
 have hok:∀ o,CleanO o→okH o=true:=by intro o ho; cases o <;> simp_all [CleanO,okH]
 have halτ:∀ j,al m2 j=true→al (updM st.m (zipO τ τ m2)) (τ.getD j 0)=true∧hd3 (τ.getD j 0)=hd2 j:=by
  intro j hj
  unfold al at hj
  cases hq:m2[j]? with
  | none=>simp [hq] at hj
  | some o =>
   have hlt:j<τ.length:=by rw [hτl]; exact (List.getElem?_eq_some_iff.1 hq).1
   have hg:τ[j]?=some (τ.getD j 0):=by rw [List.getD_eq_getElem?_getD,List.getElem?_eq_getElem hlt]; rfl
   refine ⟨?_,hd3τ j _ hg⟩
   unfold al
   rw [(hupd _).1 j hg,hq]
   have:=hok o (h6 o (List.mem_of_getElem? hq))
   cases o <;> simp [okH] at this <;> rfl
 have ha:∀ j,al st.m j=true→al (updM st.m (zipO τ τ m2)) j=true∧hd3 j=hd j:=by
  intro j hj
  by_cases hmem:j∈τ
  ·obtain ⟨i,hi⟩:=List.mem_iff_getElem?.1 hmem
   have hilt:i<m2.length:=by rw [← hτl]; exact (List.getElem?_eq_some_iff.1 hi).1
   have:=hτn i hilt
   rw [hi] at this
   simp at this
   have hf:=h5 i hilt
   rw [← this] at hf
   simp [al,hf,PO.made] at hj
  ·refine ⟨?_,hd3n j hmem⟩
   unfold al at hj ⊢
   rw [(hupd j).2 hmem]; exact hj
 have hback:∀ (l:Nat) (o:PO),(updM st.m (zipO τ τ m2))[l]?=some o→(∃ (j:Nat) (o2:PO),τ[j]?=some l∧m2[j]?=some o2∧o=mapO τ o2)∨(l ∉ τ∧st.m[l]?=some o):=by
  intro l o hl
  by_cases hmem:l∈τ
  ·obtain ⟨i,hi⟩:=List.mem_iff_getElem?.1 hmem
   rw [(hupd l).1 i hi] at hl
   cases hq:m2[i]? with
   | none=>simp [hq] at hl
   | some o2=>simp [hq] at hl; exact .inl ⟨i,o2,hi,hq,hl.symm⟩
  ·rw [(hupd l).2 hmem] at hl
   exact .inr ⟨hmem,hl⟩
 have hlvO:∀ o:PO,(mapO τ o).live=o.live:=by intro o; cases o <;> rfl
 have hother:∀ l o b,st.m[l]?=some o→o.live=true→b∈blocksOf (hd l)→b<w.heap.size:=fun l o b ho hlv hb=>((S.objs l o ho).lt hlv b hb).1
 have hnewO:∀ j o2 b,m2[j]?=some o2→o2.live=true→b∈blocksOf (hd2 j)→w.heap.size≤b:=fun j o2 b hj hlv hb=>hnewb b ((S2.objs j o2 hj).lt hlv b hb).2.1
 have S3:SimH w0 (updM st.m (zipO τ τ m2)) w2 ow3 hd3:=by
  refine ⟨S.below.trans ⟨S2.below.os,S2.below.tape,S2.below.output,S2.below.size,fun k hk hn=>hblk k (Nat.lt_of_lt_of_le hk hsz)⟩,fun b hb=>?_,fun l o hl=>?_,?_⟩
  ·rw [how3 b (Nat.le_trans S2.below.size hb)]; exact S2.fresh b hb
  ·rcases hback l o hl with ⟨j,o2,hj,hj2,rfl⟩ | ⟨hmem,hl'⟩
   ·have ho:=S2.objs j o2 hj2
    have hcl:=h6 o2 (List.mem_of_getElem? hj2)
    rw [hd3τ j l hj]
    cases o2 with
    | none=>trivial
    | row ty sz xs =>
     obtain ⟨cells,g1,g2,g3⟩:=ho
     exact ⟨cells,g1,fun b hb=>⟨hnew b (g2 b hb).1,by rw [how3 b (hnewb b (g2 b hb).1)]; exact (g2 b hb).2⟩,RE_flat hcl g3⟩
    | cu q fs =>
     obtain ⟨g1,vs',g2,g3⟩:=ho
     exact ⟨fun b hb=>⟨hnew b (g1 b hb).1,by rw [how3 b (hnewb b (g1 b hb).1)]; exact (g1 b hb).2⟩,vs',RFL.mapF halτ _ _ (RFL_flat hcl.1 g2),hcl.2 _ _ _ _ _ g3⟩
    | free=>exact hcl.elim
    | gh=>exact hcl.elim
    | box=>exact hcl.elim
   ·rw [hd3n l hmem]
    refine (S.objs l o hl').kp hKp ha fun b hb hlv=>?_
    have q1:=hother l o b hl' hlv hb
    exact ⟨hblk b q1,hold3 b q1⟩
  ·intro l l' o o' b hne hl hl' hlv hlv' hb hb'
   rcases hback l o hl with ⟨j,o2,hj,hj2,rfl⟩ | ⟨hmem,hl1⟩
   ·rw [hd3τ j l hj] at hb
    rw [hlvO] at hlv
    rcases hback l' o' hl' with ⟨j',o2',hj',hj2',rfl⟩ | ⟨hmem',hl1'⟩
    ·rw [hd3τ j' l' hj'] at hb'
     rw [hlvO] at hlv'
     exact S2.dist j j' o2 o2' b (fun e=>by subst e; rw [hj] at hj'; cases hj'; exact hne rfl) hj2 hj2' hlv hlv' hb hb'
    ·rw [hd3n l' hmem'] at hb'
     have q1:=hother l' o' b hl1' hlv' hb'
     have q2:=hnewO j o2 b hj2 hlv hb
     omega
   ·rw [hd3n l hmem] at hb
    rcases hback l' o' hl' with ⟨j',o2',hj',hj2',rfl⟩ | ⟨hmem',hl1'⟩
    ·rw [hd3τ j' l' hj'] at hb'
     rw [hlvO] at hlv'
     have q1:=hother l o b hl1 hlv hb
     have q2:=hnewO j' o2' b hj2' hlv' hb'
     omega
    ·rw [hd3n l' hmem'] at hb'
     exact S.dist l l' o o' b hne hl1 hl1' hlv hlv' hb hb'
 exact ⟨v,ow3,hd3,he,hold.step fun b hb hn=>hold3 b (Nat.lt_of_lt_of_le hb hsz),{ S3 with defers:=S.defers,size:=S.size,slots:=fun i=>RF.mono hKp ha _ _ (S.slots i) },RF.mapF halτ _ _ (hr0 _ _ _ _ _ _ hr)⟩
end
end Go.Proofs.YtofjjaagjkbeaaaGreat.pv
namespace Go.Proofs.YtofjjaagjkbeaaaGreat.pv
set_option linter.all false
open Go.RowKit
section
variable {P:Program} {T:List TI} {n:Nat} {w0:Cx} {st:PS} {a:Act} {w:World} {ow:Nat→Bool} {hd:Nat→Value}
theorem part_R {l e s i j:Nat} {xs:List PV} {A:Nat→Bool} {u:Value} (S:SimW n w0 st a w ow hd) (hm:st.m[l]?=some (.row e s xs)) (hx:RF A hd ow w (.ssl l i j s) u) (hij:i≤j∧j≤xs.length):R (fun _=>false) w (.sl ((xs.take j).drop i)) u:=by
 have hk:Kp ow w (fun _=>false) w:=⟨Nat.le_refl _,fun _ _ _=>rfl,fun _ _ _=>rfl⟩
 simp only [RF] at hx
 obtain ⟨_,ad,nn,c,x1,x2,x3,rfl⟩:=hx
 obtain ⟨cells,r1,r2,r3⟩:=S.objs l _ hm
 have hlen:((xs.take j).drop i).length=j-i:=by rw [List.length_drop,List.length_take]; omega
 have hcm:c≤maxLen:=by
  rcases r1.2 with ⟨q,_⟩ | ⟨g,cap,cur,q,_,_,_,q2,_⟩
  ·rw [x1] at q; simp at q; simp [maxLen,q.2.2]
  ·rw [x1] at q; simp at q; omega
 simp only [R]
 refine ⟨_,c-i,by rw [hlen],by rw [hlen]; omega,by omega,?_⟩
 by_cases h0:i=j
 ·left; apply List.eq_nil_of_length_eq_zero; rw [hlen]; omega
 ·right
  rcases r1.2 with ⟨q,q2⟩ | ⟨g,cap,cur,q,q1,q2,q3,q4,q5,q6⟩
  ·omega
  ·rw [x1] at q
   simp at q
   obtain ⟨rfl,rfl,rfl⟩:=q
   rw [if_neg (by omega),Option.map_some,Addr.add_mid,Nat.zero_add]
   have hj:=RE_drop i (RE.take j (RE.mono hk _ _ _ r3))
   refine ⟨g,i*s,s,_,rfl,(Array.getElem?_eq_some_iff.1 q2).1,trivial,fun k v hv=>?_,hj⟩
   rw [List.getElem?_drop,List.getElem?_take] at hv
   split at hv
   ·exact cell_at q2 q6 hv
   ·cases hv
theorem copied {f:Operand} {args:Array Operand} {tys:Array Nat} {x:FV} {g:FuncId} {l e s e' s' nl:Nat} {xs ys rs:List PV} (hx:∀ (n:Nat) (w0:Cx) (st:PS) (a:Act) (w:World) (ow:Nat→Bool) (hd:Nat→Value) (u:Value),SimW n w0 st a w ow hd→st.m[l]?=some (.row e s xs)→RF (al st.m) hd ow w x u→R (fun _=>false) w (.sl ys) u)
  (hret:RetH P g [.d (.sl ys)] [] (.srf 0) [.row e' s' rs]) (hfl:rs.all flat=true):Ext P T (.call ⟨.value f,args,tys⟩) [.d (.clo g []),x] [(l,.row e s xs),(nl,.free)] (.srf nl) [(nl,.row e' s' rs)]:=by
 intro n w0 st a w o hT hS ho hn hvs hm K Q hK
 obtain ⟨ow,hd,hold,S⟩:=hS
 obtain ⟨d,op,tyo,pos,af,gd⟩:=o
 simp only at ho hn hK
 subst ho
 have hml:=hm (l,.row e s xs) (by simp)
 have hnl:=hm (nl,.free) (by simp)
 simp only at hml hnl
 have hρ':ev st.f f::args.toList.map (ev st.f)=[.d (.clo g []),x]:=by
  rw [← hvs]; simp [Op.operands,Call.operands]
 obtain ⟨e1,e2⟩:=List.cons.inj hρ'
 have h1:=S.eval f
 rw [e1] at h1
 simp only [RF,R] at h1
 obtain ⟨us,hc1,hc2⟩:=h1
 simp only [RL] at hc2
 subst hc2
 obtain ⟨y,rfl⟩:∃ y,args=#[y]:=by
  have:args.toList.length=1:=by simpa using congrArg List.length e2
  cases hq:args.toList with
  | nil=>rw [hq] at this; simp at this
  | cons y r =>
   rw [hq] at this
   have:r=[]:=by cases r with | nil=>rfl | cons _ _=>simp at this
   subst this
   exact ⟨y,by apply Array.toList_inj.1; simpa using hq⟩
 simp at e2
 have h3:RT (fun _=>false) w [.sl ys] [a.eval y]:=by
  simp only [RT]
  exact ⟨_,[],rfl,hx n w0 st a w ow hd _ S hml (by rw [← e2]; exact S.eval y),rfl⟩
 unfold Oper.wp
 rw [run_call hc1 hret.1]
 show Calls P g (#[y].map a.eval++#[]) w _
 have harr:#[y].map a.eval++#[]=[a.eval y].toArray:=by simp
 rw [harr]
 refine (S.callN (τ:=[nl]) (nl:=nl) (m2:=[.row e' s' rs]) (r:=.srf 0) hold h3 rfl (by simp) (fun k hk=>by simp at hk; subst hk; exact hnl) ?_ (fun A hd ow ow' w v h=>by simpa only [RF] using h) hret).mono fun e w' ⟨v,ow',hd',he,hold',S',hr⟩=>?_
 ·intro o ho
  simp at ho
  subst ho
  exact hfl
 subst he
 exact hK _ _ ⟨ow',hd',hold',S'.put hn hr⟩
theorem cpart {f:Operand} {args:Array Operand} {tys:Array Nat} {g:FuncId} {l e s i j e' s' nl:Nat} {xs ys rs:List PV} (hy:(xs.take j).drop i=ys) (hij:i≤j∧j≤xs.length) (hret:RetH P g [.d (.sl ys)] [] (.srf 0) [.row e' s' rs]) (hfl:rs.all flat=true) :
  Ext P T (.call ⟨.value f,args,tys⟩) [.d (.clo g []),.ssl l i j s] [(l,.row e s xs),(nl,.free)] (.srf nl) [(nl,.row e' s' rs)]:=by
 subst hy
 exact copied (fun n w0 st a w ow hd u S hm hx=>part_R S hm hx hij) hret hfl
theorem cwhole {f:Operand} {args:Array Operand} {tys:Array Nat} {g:FuncId} {l e s e' s' nl:Nat} {xs rs:List PV} (hret:RetH P g [.d (.sl xs)] [] (.srf 0) [.row e' s' rs]) (hfl:rs.all flat=true) :
  Ext P T (.call ⟨.value f,args,tys⟩) [.d (.clo g []),.srf l] [(l,.row e s xs),(nl,.free)] (.srf nl) [(nl,.row e' s' rs)] :=
 copied (fun n w0 st a w ow hd u S hm hx=>by
  simp only [RF] at hx
  obtain ⟨cells,r1,r2,r3⟩:=S.objs l _ hm
  rw [hx.2.1]
  exact own_R r1 r3 ⟨Nat.le_refl _,fun _ _ _=>rfl,fun _ _ _=>rfl⟩ fun _ _=>rfl) hret hfl
theorem flat_map {α:Type} {f:α→PV} (l:List α) (h:∀ x,flat (f x)=true):(l.map f).all flat=true:=by
 rw [List.all_eq_true]
 intro x hx
 obtain ⟨y,_,rfl⟩:=List.mem_map.1 hx
 exact h y
theorem fsl01 {t l e s:Nat} {xs:List PV} {x hi:Operand} {ka:IntKind} {i:Int} (h1:tsl T t=some (e,s)) (c:0≤i∧i≤xs.length):Ext P T (.slice t x none (some hi) none) [.srf l,.d (.v (.int ka i))] [(l,.cu (rowF e s xs) [])] (.ssl l 0 i.toNat s) []:=by
 intro n w0 st a w oo hT hS ho hn hv hm K Q hK
 obtain ⟨ow,hd,hold,S⟩:=hS
 obtain ⟨d,op,ty,pos,af,gd⟩:=oo
 simp only at ho hn hK
 subst ho
 simp [Op.operands] at hv
 have hml:=hm (l,.cu (rowF e s xs) []) (by simp)
 simp only at hml
 obtain ⟨ad,cap,hh,hle,hcm⟩:=rowF_hd (S.objs l _ hml)
 have hx:=S.eval x
 rw [hv.1] at hx
 simp only [RF] at hx
 obtain ⟨hx0,hx1,_⟩:=hx
 obtain ⟨hu,hs⟩:=tsl_und hT h1
 have hb:=sliceBounds_opt (P:=P) (w:=w) (len:=xs.length) (cap:=cap) (lo:=none) (hi:=some hi) (i:=0) (h:=i) S (by simp [optInt]) (by simp [optInt,hv.2]) (by omega) c.1 (by omega)
 simp only [Option.map_some,Option.map_none,Int.toNat_zero] at hb
 refine wp_val (v:=.slice (if cap=0 then ad else ad.map (·.add (0*s))) (i.toNat-0) (cap-0)) (by simp [execOp,Instr.sliceAt,Instr.slice,run_underlying hu,hx1,hh,hb,tsz_run hT hs]) (hK _ _ ⟨ow,hd,hold,S.put hn ?_⟩)
 simp only [RF]
 exact ⟨hx0,ad,xs.length,cap,hh,by omega,by omega,rfl⟩
theorem part_RF {l e s i j:Nat} {xs:List PV} {A:Nat→Bool} {u:Value} (S:SimW n w0 st a w ow hd) (hm:st.m[l]?=some (.cu (rowF e s xs) [])) (hx:RF A hd ow w (.ssl l i j s) u) (hij:i≤j∧j≤xs.length):R (fun _=>false) w (.sl ((xs.take j).drop i)) u:=by
 have hk:Kp ow w (fun _=>false) w:=⟨Nat.le_refl _,fun _ _ _=>rfl,fun _ _ _=>rfl⟩
 simp only [RF] at hx
 obtain ⟨_,ad,nn,c,x1,x2,x3,rfl⟩:=hx
 have hO:=S.objs l _ hm
 obtain ⟨ad',cap',hh,hle,hcm'⟩:=rowF_hd hO
 have hlen:((xs.take j).drop i).length=j-i:=by rw [List.length_drop,List.length_take]; omega
 have hcm:c≤maxLen:=by rw [x1] at hh; simp at hh; omega
 simp only [R]
 refine ⟨_,c-i,by rw [hlen],by rw [hlen]; omega,by omega,?_⟩
 by_cases h0:i=j
 ·left; apply List.eq_nil_of_length_eq_zero; rw [hlen]; omega
 ·right
  have hb:∃ b cells,ad=some ⟨b,0,none⟩∧b<w.heap.size∧w.rangeAt b 0 cells∧RE ow w s xs cells:=by
   obtain ⟨_,vs,_,⟨cells,r1,r3⟩ | ⟨g,cells,q1,q2,q3,q4,q5⟩⟩:=hO
   ·rcases r1.2 with ⟨q,q2⟩ | ⟨g,cap,cur,q,q1,q2,q3,q4,q5,q6⟩
    ·omega
    ·rw [x1] at q
     simp at q
     exact ⟨g,cells,q.1,(Array.getElem?_eq_some_iff.1 q2).1,fun k v hv=>by rw [Nat.zero_add]; exact cell_at q2 q6 hv,r3⟩
   ·rw [x1] at q1
    simp at q1
    exact ⟨g,cells,q1.1,q3,q4,q5⟩
  obtain ⟨g,cells,rfl,k1,k2,k3⟩:=hb
  rw [if_neg (by omega),Option.map_some,Addr.add_mid,Nat.zero_add]
  have hj:=RE_drop i (RE.take j (RE.mono hk _ _ _ k3))
  refine ⟨g,i*s,s,_,rfl,k1,trivial,fun k v hv=>?_,hj⟩
  rw [List.getElem?_drop,List.getElem?_take] at hv
  split at hv
  ·have:=k2 _ v hv
   rw [Nat.zero_add] at this; exact this
  ·cases hv
theorem pcall {f:Operand} {args:Array Operand} {tys:Array Nat} {g:FuncId} {l e s i j:Nat} {xs ys ps:List PV} {r:PV} (hy:(xs.take j).drop i=ys) (hij:i≤j∧j≤xs.length) (hr:Ret P g (.sl ys::nslL ps) r) (hfl:flat r=true) :
  Ext P T (.call ⟨.value f,args,tys⟩) (.d (.clo g [])::.ssl l i j s::ps.map .d) [(l,.cu (rowF e s xs) [])] (.d r) []:=by
 subst hy
 intro n w0 st a w o hT hS ho hn hvs hm K Q hK
 obtain ⟨ow,hd,hold,S⟩:=hS
 obtain ⟨d,op,tyo,pos,af,gd⟩:=o
 simp only at ho hn hK
 subst ho
 have hml:=hm (l,.cu (rowF e s xs) []) (by simp)
 simp only at hml
 have hρ':ev st.f f::args.toList.map (ev st.f)=.d (.clo g [])::.ssl l i j s::ps.map .d:=by
  rw [← hvs]; simp [Op.operands,Call.operands]
 obtain ⟨e1,e2⟩:=List.cons.inj hρ'
 have h1:=S.eval f
 rw [e1] at h1
 simp only [RF,R] at h1
 obtain ⟨us,hc1,hc2⟩:=h1
 simp only [RL] at hc2
 subst hc2
 have hk:Kp ow w (fun _=>false) w:=⟨Nat.le_refl _,fun _ _ _=>rfl,fun _ _ _=>rfl⟩
 have h2:RT (fun _=>false) w (.sl ((xs.take j).drop i)::ps) (args.toList.map a.eval):=by
  have h3:=RFT_of_eval S args.toList
  rw [e2] at h3
  simp only [RFT] at h3
  obtain ⟨v,q,h4,h5,h6⟩:=h3
  rw [h4]
  simp only [RT]
  exact ⟨v,q,rfl,part_RF S hml h5 hij,RT.mono hk _ _ (RFT.to_RT h6)⟩
 unfold Oper.wp
 rw [run_call hc1 hr.1]
 show Calls P g (args.map a.eval++#[]) w _
 have harr:args.map a.eval++#[]=(args.toList.map a.eval).toArray:=by
  apply Array.toList_inj.1; simp
 rw [harr]
 have h7:=RT.nsl _ _ h2
 refine (hr.2 (fun _=>false) w _ (fun _ _=>rfl) (by simpa only [nslL,nsl] using h7)).mono fun e w' ⟨v,he,hb,hr⟩=>?_
 subst he
 exact hK _ _ ⟨ow,hd,hold,(S.later hb).put hn (x:=.d r) (by simp only [RF]; exact R.flat _ _ hfl hr)⟩
end
end Go.Proofs.YtofjjaagjkbeaaaGreat.pv
