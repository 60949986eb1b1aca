/- A function, run by the program: its contract. -/
import Derived.Test.YtocchemnfpnmeaaDoorQl
namespace Go.Proofs.YtocchemnfpnmeaaDoor.pv
set_option linter.all false
open Go.RowKit
def pcell (T:List TI) (m:List PO) (t:Nat) (x:FV):Option FV :=
 match x with
 | .ref l off=>(match m[l]? with
  | some (.box cs)=>(match tagg T t with
   | some false=>cs[off]?
   | some true=>(match tsz T t with
    | some sz=>bif Nat.ble (off+sz) cs.length then some (mkAgg ((cs.drop off).take sz)) else none
    | none=>none)
   | none=>none)
  | _=>none)
 | _=>none
def presL (T:List TI) (st:PS):List ResultVar→Option (List FV)
 | []=>some []
 | .tmp t::r=>(match presL T st r with | some xs=>some (st.f.getD t .dead::xs) | none=>none)
 | .cell a t::r=>(match pcell T st.m t (st.f.getD a .dead),presL T st r with | some x,some xs=>some (x::xs) | _,_=>none)
def pres (T:List TI) (st:PS) (rs:List ResultVar):Option PV :=
 match presL T st rs with
 | some [x]=>(match frz st.m x with | some y=>some (nsl y) | none=>none)
 | some xs=>bif Nat.blt xs.length 8 then (match frzL st.m xs with | some ys=>some (.tup (nslL ys)) | none=>none) else none
 | none=>none
def start (n:Nat) (args:List PV):PS:=⟨args.map FV.d++List.replicate (n-args.length) .dead,[]⟩
section
variable {P:Program} {T:List TI} {n:Nat} {w0:Cx} {st:PS} {a:Act} {w:World} {ow:Nat→Bool} {hd:Nat→Value}
def tupOf:List Value→Value
 | [x]=>x
 | xs=>.tuple xs.toArray
def resAct (tmps:Array Value):ResultVar→Sem Value
 | .tmp t=>pure (tmps.getD t undef)
 | .cell a t=>do loadVar t (← asAddr (tmps.getD a undef))
theorem run_results {fn:Func} {tmps:Array Value}:∀ (rs:List ResultVar) (vs:List Value),fn.results.toList=rs→vs.length=rs.length→(∀ (i:Nat) r v,rs[i]?=some r→vs[i]?=some v→(resAct tmps r).run P w=.ok v w)→rs.length<8→(results fn tmps).run P w=.ok (tupOf vs) w:=by
 intro rs vs h hl ha h8
 have hr:fn.results=rs.toArray:=by apply Array.toList_inj.1; simpa using h
 have hd:results fn tmps=(do let vs ← fn.results.mapM (resAct tmps); pure (if h:vs.size=1 then vs[0] else .tuple vs)):=by
  unfold results
  congr 2
 rw [hd,hr]
 clear hd hr h
 match rs,vs,hl,ha,h8 with
 | [],[],_,_,_=>simp [tupOf]
 | [a],[x],_,ha,_=>simp [tupOf,ha 0 a x rfl rfl]
 | [a,b],[x,y],_,ha,_=>simp [tupOf,ha 0 a x rfl rfl,ha 1 b y rfl rfl]
 | [a,b,c],[x,y,z],_,ha,_=>simp [tupOf,ha 0 a x rfl rfl,ha 1 b y rfl rfl,ha 2 c z rfl rfl]
 | [a,b,c,d],[x,y,z,u],_,ha,_=>simp [tupOf,ha 0 a x rfl rfl,ha 1 b y rfl rfl,ha 2 c z rfl rfl,ha 3 d u rfl rfl]
 | [a,b,c,d,e],[x,y,z,u,v],_,ha,_=>simp [tupOf,ha 0 a x rfl rfl,ha 1 b y rfl rfl,ha 2 c z rfl rfl,ha 3 d u rfl rfl,ha 4 e v rfl rfl]
 | [a,b,c,d,e,f],[x,y,z,u,v,w1],_,ha,_=>simp [tupOf,ha 0 a x rfl rfl,ha 1 b y rfl rfl,ha 2 c z rfl rfl,ha 3 d u rfl rfl,ha 4 e v rfl rfl,ha 5 f w1 rfl rfl]
 | [a,b,c,d,e,f,g],[x,y,z,u,v,w1,w2],_,ha,_=>simp [tupOf,ha 0 a x rfl rfl,ha 1 b y rfl rfl,ha 2 c z rfl rfl,ha 3 d u rfl rfl,ha 4 e v rfl rfl,ha 5 f w1 rfl rfl,ha 6 g w2 rfl rfl]
 | _::_::_::_::_::_::_::_::_,_,_,_,hl=>simp at hl; omega
theorem pcell_sound (hT:TOk P T) (S:SimW n w0 st a w ow hd) {ad t:Nat} {x:FV} (h:pcell T st.m t (st.f.getD ad .dead)=some x):∃ v,(resAct a.tmps (.cell ad t)).run P w=.ok v w∧RF (al st.m) hd ow w x v:=by
 unfold pcell at h
 split at h
 ·rename_i l off hx
  split at h
  ·rename_i cs hm
   have he:ev st.f (.tmp ad)=.ref l off:=hx
   obtain ⟨b,vals,t',e1,e2,e3,e4,e5,e6⟩:=S.box he hm
   have e2':a.tmps.getD ad undef=.pointer (some ⟨b,off,none⟩):=e2
   have hgo:∀ v,(Instr.loadAt t (.pointer (some ⟨b,off,none⟩))).run P w=.ok v w→(resAct a.tmps (.cell ad t)).run P w=.ok v w:=by
    intro v hv
    simp only [Instr.loadAt,Instr.sureAddr,Sem.run_bind,Sem.run_pure,Result.andThen_ok] at hv
    simp only [resAct,e2',asAddr,Sem.run_bind,Sem.run_pure,Result.andThen_ok]
    exact hv
   split at h
   ·rename_i ha
    obtain ⟨u,hu,hr,_⟩:=e6.get off x h
    exact ⟨u,hgo u (run_loadAt_one hT ha (cell_of_block e5 hu)),hr⟩
   ·rename_i ha
    split at h
    ·rename_i sz hs
     obtain ⟨hb,h⟩:=cond_some h
     have hb:=Nat.le_of_ble_eq_true hb
     simp only [Option.some.injEq] at h
     subst h
     have hl:=RFL.length e6
     exact ⟨_,hgo _ (run_loadAt_agg hT ha hs (range_of_block e5 off sz) (by rw [List.length_take,List.length_drop,hl]; omega)),RF.mkAgg (RFL.take sz (RFL.drop off e6))⟩
    ·cases h
   ·cases h
  ·cases h
 ·cases h
theorem presL_sound (hT:TOk P T) (S:SimW n w0 st a w ow hd):∀ (rs:List ResultVar) (xs:List FV),presL T st rs=some xs →
  ∃ vs:List Value,vs.length=rs.length∧RFT (al st.m) hd ow w xs vs∧(∀ (i:Nat) r v,rs[i]?=some r→vs[i]?=some v→(resAct a.tmps r).run P w=.ok v w)
 | [],xs,h=>by
  simp [presL] at h; subst h
  exact ⟨[],rfl,by simp only [RFT],by simp⟩
 | .tmp t::r,xs,h=>by
  simp only [presL] at h
  split at h
  ·rename_i ys hy
   simp at h; subst h
   obtain ⟨vs,h1,h2,h3⟩:=presL_sound hT S r ys hy
   refine ⟨a.tmps.getD t undef::vs,by simp [h1],?_,?_⟩
   ·simp only [RFT]; exact ⟨_,_,rfl,S.slots t,h2⟩
   ·intro i q v hq hv
    cases i with
    | zero=>simp at hq hv; subst hq hv; simp [resAct]
    | succ i=>exact h3 i q v (by simpa using hq) (by simpa using hv)
  ·cases h
 | .cell ad t::r,xs,h=>by
  simp only [presL] at h
  split at h
  ·rename_i x ys hx hy
   simp at h; subst h
   obtain ⟨vs,h1,h2,h3⟩:=presL_sound hT S r ys hy
   obtain ⟨v0,h4,h5⟩:=pcell_sound hT S hx
   refine ⟨v0::vs,by simp [h1],?_,?_⟩
   ·simp only [RFT]; exact ⟨_,_,rfl,h5,h2⟩
   ·intro i q v hq hv
    cases i with
    | zero=>simp at hq hv; subst hq hv; exact h4
    | succ i=>exact h3 i q v (by simpa using hq) (by simpa using hv)
  ·cases h
def refOf (k:Nat):PO→FV
 | .box _=>.ref k 0
 | _=>.srf k
def ghs:Nat→List PO→List PO
 | _,[]=>[]
 | k,o::r=>.gh k (refOf k o)::ghs (k+1) r
def startH (n:Nat) (args:List FV) (m:List PO):PS:=⟨args++List.replicate (n-args.length) .dead,m++ghs 0 m⟩
theorem ghs_get:∀ (k:Nat) (m:List PO) (j:Nat),(ghs k m)[j]?=(m[j]?).map fun o=>.gh (k+j) (refOf (k+j) o)
 | k,[],j=>by simp [ghs]
 | k,o::r,0=>by simp [ghs]
 | k,o::r,j+1=>by
  simp only [ghs,List.getElem?_cons_succ]
  rw [ghs_get (k+1) r j,show k+1+j=k+(j+1) by omega]
theorem start_simH {c:Cx} {hd:Nat→Value} {m:List PO} {args:List FV} {vs:List Value} (hn:args.length≤n) (S:SimH c m c.w c.ow hd) (hl:m.all PO.live=true) (h:RFT (al m) hd c.ow c.w args vs) :
  Sim n ⟨c.w,c.own,c.ow,hd⟩ (startH n args m) { tmps:=vs.toArray++Array.replicate (n-vs.toArray.size) undef,defers:=[] } c.w:=by
 have hlen:=RFT.length h
 have ha:∀ l,al m l=true→al (m++ghs 0 m) l=true∧hd l=hd l:=by
  intro l hl
  refine ⟨?_,rfl⟩
  unfold al at hl ⊢
  rcases Nat.lt_or_ge l m.length with h' | h'
  ·rw [List.getElem?_append_left h']; exact hl
  ·rw [List.getElem?_eq_none h'] at hl; cases hl
 have hnew:∀ b,Cx.New ⟨c.w,c.own,c.ow,hd⟩ b↔c.New b:=fun b=>Iff.rfl
 have back:∀ {j:Nat} {oj:PO},(m++ghs 0 m)[j]?=some oj→(m[j]?=some oj)∨(∃ k o,m[k]?=some o∧oj=.gh k (refOf k o)):=by
  intro j oj hj
  rw [List.getElem?_append] at hj
  split at hj
  ·exact .inl hj
  ·rw [ghs_get] at hj
   cases hq:m[j-m.length]? with
   | none=>simp [hq] at hj
   | some o=>simp [hq] at hj; exact .inr ⟨_,o,hq,hj.symm⟩
 refine ⟨c.ow,hd,fun _ _ _=>rfl,{ below:=Kt.refl _ _,fresh:=S.fresh,objs:=fun j oj hj=>?_,dist:=?_,defers:=rfl,size:=by simp; omega,slots:=fun i=>?_ }⟩
 ·rcases back hj with hj | ⟨k,o,ho,rfl⟩
  ·have:=(S.objs j oj hj).kp (Kp.refl _ _) ha fun b _ _=>⟨rfl,rfl⟩
   cases oj with
   | gh k x=>have:=List.all_eq_true.1 hl _ (List.mem_of_getElem? hj); simp [PO.live] at this
   | box cs=>exact this
   | row ty sz xs=>exact this
   | cu q fs=>exact this
   | free=>trivial
   | none=>trivial
  ·have hk:al m k=true:=by
    unfold al; rw [ho]
    have:=List.all_eq_true.1 hl _ (List.mem_of_getElem? ho)
    exact PO.made_of_live this
   have hob:=S.objs k o ho
   show RF _ _ _ _ (refOf k o) (hd k)
   cases o with
   | box cs =>
    obtain ⟨b,vals,t,g1,_⟩:=hob
    simp only [refOf,RF]
    exact ⟨(ha k hk).1,b,g1,g1⟩
   | row ty sz xs =>
    obtain ⟨cells,g1,_⟩:=hob
    simp only [refOf,RF]
    refine ⟨(ha k hk).1,trivial,?_⟩
    rcases g1.2 with ⟨q,_⟩ | ⟨g,cap,cur,q,_⟩
    ·rw [q]; rfl
    ·rw [q]; rfl
   | cu q fs =>
    obtain ⟨_,vs',_,g3⟩:=hob
    simp only [refOf,RF]
    exact ⟨(ha k hk).1,trivial,q.one g3⟩
   | _=>have:=List.all_eq_true.1 hl _ (List.mem_of_getElem? ho); simp [PO.live] at this
 ·intro j j' oj oj' b hne hj hj' hlv hlv'
  rcases back hj with hj | ⟨k,o,ho,rfl⟩
  ·rcases back hj' with hj' | ⟨k',o',ho',rfl⟩
   ·exact S.dist j j' oj oj' b hne hj hj' hlv hlv'
   ·simp [PO.live] at hlv'
  ·simp [PO.live] at hlv
 ·simp only [startH]
  rw [List.getD_eq_getElem?_getD,List.getElem?_append,Array.getD_eq_getD_getElem?,Array.getElem?_append]
  by_cases hi:i<args.length
  ·rw [if_pos hi,if_pos (by simp; omega)]
   obtain ⟨u,hu,hr⟩:=RFT.get h i _ (List.getElem?_eq_getElem hi)
   rw [List.getElem?_eq_getElem hi]
   simp [hu]
   exact RF.mono (Kp.refl _ _) ha _ _ hr
  ·rw [if_neg hi]
   have:((List.replicate (n-args.length) FV.dead)[i-args.length]?).getD FV.dead=.dead:=by
    rw [List.getElem?_replicate]; split <;> rfl
   rw [this]
   simp only [RF]
theorem start_sim {args:List PV} {vs:List Value} (hn:args.length≤n) (hfr:∀ b,w.heap.size≤b→ow b=false) (h:RT ow w args vs) :
  Sim n ⟨w,fun _=>false,ow,fun _=>undef⟩ (start n args) { tmps:=vs.toArray++Array.replicate (n-vs.toArray.size) undef,defers:=[] } w:=by
 have hl:=RT.length h
 refine ⟨ow,fun _=>undef,fun _ _ _=>rfl,{ below:=Kt.refl _ _,fresh:=hfr,objs:=fun l o hl=>by simp [start] at hl,dist:=fun l l' o o' b _ hl=>by simp [start] at hl,defers:=rfl,size:=by simp; omega,slots:=fun i=>?_ }⟩
 simp only [start]
 rw [List.getD_eq_getElem?_getD,List.getElem?_append,Array.getD_eq_getD_getElem?,Array.getElem?_append]
 by_cases hi:i<args.length
 ·rw [if_pos (by simpa using hi),if_pos (by simp; omega)]
  obtain ⟨u,hu,hr⟩:=RT.get h i _ (List.getElem?_eq_getElem hi)
  rw [List.getElem?_map,List.getElem?_eq_getElem hi]
  simp [hu,RF]
  exact hr
 ·rw [if_neg (by simpa using hi)]
  have:((List.replicate (n-args.length) FV.dead)[i-(args.map FV.d).length]?).getD FV.dead=.dead:=by
   rw [List.getElem?_replicate]; split <;> rfl
  rw [this]
  simp only [RF]
end
end Go.Proofs.YtocchemnfpnmeaaDoor.pv
