/- The machine of configurations: what is left to do, by frames; a run of so many steps by hints; from there to a contract. -/
import Derived.Test.YtocchemnfpnmeaaDoorQm
import Derived.LoopN
namespace Go.Proofs.YtocchemnfpnmeaaDoor.pv
set_option linter.all false
open Go.RowKit
def thaw1 (st:PS) (i e s:Nat):Option PS:=match st.f[i]? with
 | some (.d (.v (.slice none 0 0)))=>some ⟨st.f.set i (.srf st.m.length),st.m++[.row e s []]⟩
 | _=>none
section
variable {n:Nat}
theorem Sim.thaw1 {w0:Cx} {st st':PS} {a:Act} {w:World} {i e s:Nat} (S:Sim n w0 st a w) (h:pv.thaw1 st i e s=some st'):Sim n w0 st' a w:=by
 unfold pv.thaw1 at h
 split at h
 ·rename_i hi
  simp at h; subst h
  obtain ⟨ow,hd,hold,S⟩:=S
  have ha:∀ j,al st.m j=true→al (st.m++[.row e s []]) j=true∧upd hd st.m.length (.slice none 0 0) j=hd j:=by
   intro j hj
   have hlt:j<st.m.length:=by
    unfold al at hj
    rcases Nat.lt_or_ge j st.m.length with h' | h'
    ·exact h'
    ·rw [List.getElem?_eq_none h'] at hj; cases hj
   refine ⟨?_,upd_ne _ _ (by omega)⟩
   unfold al at hj ⊢
   rw [List.getElem?_append_left hlt]; exact hj
  have back:∀ {j:Nat} {oj:PO},(st.m++[PO.row e s []])[j]?=some oj→(j<st.m.length∧st.m[j]?=some oj)∨(j=st.m.length∧oj=.row e s []):=by
   intro j oj hj
   rw [List.getElem?_append] at hj
   split at hj
   ·exact .inl ⟨‹_›,hj⟩
   ·right
    rename_i hge
    cases hk:j-st.m.length with
    | zero=>rw [hk] at hj; simp at hj; exact ⟨by omega,hj.symm⟩
    | succ k=>rw [hk] at hj; simp at hj
  have hal:al (st.m++[PO.row e s []]) st.m.length=true:=by simp [al,PO.made]
  refine ⟨ow,upd hd st.m.length (.slice none 0 0),hold,{ below:=S.below,fresh:=S.fresh,objs:=fun j oj hj=>?_,dist:=?_,defers:=S.defers,size:=S.size,slots:=fun k=>?_ }⟩
  ·rcases back hj with ⟨hlt,hj⟩ | ⟨rfl,rfl⟩
   ·rw [upd_ne _ _ (by omega)]
    exact (S.objs j oj hj).kp (Kp.refl _ _) ha fun b _ _=>⟨rfl,rfl⟩
   ·rw [upd_same]
    exact ⟨[],World.ownsRow_nil _ _ _ _,fun b hb=>by simp [blocksOf,blockOf] at hb,by simp [RE]⟩
  ·intro j j' oj oj' b hne hj hj' hl hl' hb hb'
   rcases back hj with ⟨hlt,hj⟩ | ⟨rfl,rfl⟩
   ·rw [upd_ne _ _ (by omega)] at hb
    rcases back hj' with ⟨hlt',hj'⟩ | ⟨rfl,rfl⟩
    ·rw [upd_ne _ _ (by omega)] at hb'
     exact S.dist j j' oj oj' b hne hj hj' hl hl' hb hb'
    ·rw [upd_same] at hb'; simp [blocksOf,blockOf] at hb'
   ·rw [upd_same] at hb; simp [blocksOf,blockOf] at hb
  ·have hlt:i<st.f.length:=(List.getElem?_eq_some_iff.1 hi).1
   by_cases hk:k=i
   ·subst hk
    have hs:=S.slots k
    rw [List.getD_eq_getElem?_getD,hi] at hs
    simp only [Option.getD_some,RF,R] at hs
    rw [List.getD_eq_getElem?_getD,List.getElem?_set,if_pos rfl,if_pos hlt]
    simp only [Option.getD_some,RF]
    exact ⟨hal,by rw [upd_same]; exact hs.1,by rw [upd_same]; rfl⟩
   ·rw [List.getD_eq_getElem?_getD,List.getElem?_set,if_neg (fun e=>hk e.symm),← List.getD_eq_getElem?_getD]
    exact RF.mono (Kp.refl _ _) ha _ _ (S.slots k)
 ·cases h
end
mutual
def sfb (l:Nat) (xs:List PV):FV→FV
 | .agg cs=>.agg (sfbL l xs cs)
 | .tup cs=>.tup (sfbL l xs cs)
 | .ref j off=>bif Nat.beq j l then .d (.iptr xs off) else .ref j off
 | .clo f cs=>mkClo f (sfbL l xs cs)
 | x=>x
def sfbL (l:Nat) (xs:List PV):List FV→List FV
 | []=>[]
 | x::r=>sfb l xs x::sfbL l xs r
end
def sfbO (l:Nat) (xs:List PV):PO→PO
 | .box cs=>.box (sfbL l xs cs)
 | .cu q cs=>.cu q (sfbL l xs cs)
 | o=>o
theorem sfbL_get (l:Nat) (zs:List PV):∀ (xs:List FV) (i:Nat),(sfbL l zs xs)[i]?=(xs[i]?).map (sfb l zs)
 | [],i=>by simp [sfbL]
 | x::xs,i=>by
  cases i with
  | zero=>simp [sfbL]
  | succ i=>simpa [sfbL] using sfbL_get l zs xs i
theorem sfbL_length (l:Nat) (zs:List PV):∀ (xs:List FV),(sfbL l zs xs).length=xs.length
 | []=>rfl
 | x::xs=>by simp [sfbL,sfbL_length l zs xs]
section
variable {A:Nat→Bool} {hd:Nat→Value} {ow:Nat→Bool} {w:World} {l b:Nat} {xs:List PV}
mutual
theorem RF.sfb (h:∀ off,R ow w (.iptr xs off) (.pointer (some ⟨b,off,none⟩))) (hb:hd l=.pointer (some ⟨b,0,none⟩)):∀ (x:FV) (u:Value),RF A hd ow w x u→RF A hd ow w (pv.sfb l xs x) u
 | .d x,u,hr=>by simpa only [pv.sfb] using hr
 | .agg cs,u,hr=>by
  simp only [pv.sfb,RF] at hr ⊢
  obtain ⟨vs,e,hr⟩:=hr
  exact ⟨vs,e,RFL.sfb h hb cs vs hr⟩
 | .tup cs,u,hr=>by
  simp only [pv.sfb,RF] at hr ⊢
  obtain ⟨vs,e,hr⟩:=hr
  exact ⟨vs,e,RFT.sfb h hb cs vs hr⟩
 | .srf _,u,hr=>by simpa only [pv.sfb] using hr
 | .ept _ _ _ _,u,hr=>by simpa only [pv.sfb] using hr
 | .asl _ _ _ _ _ _,u,hr=>by simpa only [pv.sfb] using hr
 | .ssl _ _ _ _,u,hr=>by simpa only [pv.sfb] using hr
 | .ref j off,u,hr=>by
  simp only [pv.sfb]
  cases hc:Nat.beq j l with
  | false=>exact hr
  | true =>
   have e:=Nat.eq_of_beq_eq_true hc
   subst e
   simp only [cond_true,RF] at hr ⊢
   obtain ⟨_,b',h1,h2⟩:=hr
   rw [hb] at h1
   simp at h1
   subst h1
   rw [h2]; exact h off
 | .clo f cs,u,hr=>by
  simp only [pv.sfb,RF] at hr ⊢
  obtain ⟨vs,e,hr⟩:=hr
  rw [e]
  exact RF.mkClo (RFL.sfb h hb cs vs hr)
 | .dead,u,hr=>by simpa only [pv.sfb] using hr
theorem RFL.sfb (h:∀ off,R ow w (.iptr xs off) (.pointer (some ⟨b,off,none⟩))) (hb:hd l=.pointer (some ⟨b,0,none⟩)):∀ (ys:List FV) (us:List Value),RFL A hd ow w ys us→RFL A hd ow w (sfbL l xs ys) us
 | [],us,hr=>by simpa only [sfbL] using hr
 | y::ys,us,hr=>by
  simp only [sfbL,RFL] at hr ⊢
  obtain ⟨v,r,e,h1,h2,h3⟩:=hr
  exact ⟨v,r,e,RF.sfb h hb y v h1,h2,RFL.sfb h hb ys r h3⟩
theorem RFT.sfb (h:∀ off,R ow w (.iptr xs off) (.pointer (some ⟨b,off,none⟩))) (hb:hd l=.pointer (some ⟨b,0,none⟩)):∀ (ys:List FV) (us:List Value),RFT A hd ow w ys us→RFT A hd ow w (sfbL l xs ys) us
 | [],us,hr=>by simpa only [sfbL] using hr
 | y::ys,us,hr=>by
  simp only [sfbL,RFT] at hr ⊢
  obtain ⟨v,r,e,h1,h3⟩:=hr
  exact ⟨v,r,e,RF.sfb h hb y v h1,RFT.sfb h hb ys r h3⟩
end
end
def sfbS (st:PS) (l:Nat):Option PS:=match st.m[l]? with
 | some (.box cs)=>(match allD cs with
  | some xs=>some ⟨sfbL l xs st.f,(st.m.map (sfbO l xs)).set l .none⟩
  | none=>none)
 | _=>none
theorem al_sfb {m:List PO} {l:Nat} {xs:List PV} (j:Nat) (h:al m j=true):al ((m.map (sfbO l xs)).set l .none) j=true:=by
 have h1:al (m.map (sfbO l xs)) j=true:=by
  unfold al at h ⊢
  rw [List.getElem?_map]
  cases hq:m[j]? with
  | none=>simp [hq] at h
  | some o=>rw [hq] at h; cases o <;> simpa [sfbO,PO.made] using h
 exact al_set_mono rfl j h1
theorem Sim.sfb {n:Nat} {w0:Cx} {st st':PS} {a:Act} {w:World} {l:Nat} (S:Sim n w0 st a w) (h:sfbS st l=some st'):Sim n w0 st' a w:=by
 unfold sfbS at h
 split at h
 ·rename_i cs hm
  split at h
  ·rename_i xs hxs
   simp at h; subst h
   obtain ⟨ow,hd,hold,S⟩:=S
   have hlt:=(S.objs l _ hm).lt rfl
   obtain ⟨b,vals,t,h1,h2,h3,h4,h5⟩:=S.objs l _ hm
   have hbk:b∈blocksOf (hd l):=by rw [h1]; simp [blocksOf,blockOf]
   let ow':Nat→Bool:=fun c=>if c=b then false else ow c
   have hk:Kp ow w ow' w:=by
    refine ⟨Nat.le_refl _,fun c _ hc=>?_,fun _ _ _=>rfl⟩
    show (if c=b then false else ow c)=false
    split
    ·rfl
    ·exact hc
   have hfz:∀ off,R ow' w (.iptr xs off) (.pointer (some ⟨b,off,none⟩)):=by
    intro off
    rw [allD_eq hxs] at h5
    simp only [R]
    refine ⟨b,0,vals.toList,by simp,(Array.getElem?_eq_some_iff.1 h4).1,?_,fun j v hv=>?_,RL.mono hk _ _ (RFL.to_RL h5)⟩
    ·show (if b=b then false else ow b)=false
     rw [if_pos rfl]
    ·unfold World.cell?
     simp only [h4]
     simpa using hv
   have ha:∀ j,al st.m j=true→al ((st.m.map (sfbO l xs)).set l .none) j=true∧hd j=hd j:=fun j hj=>⟨al_sfb j hj,rfl⟩
   have back:∀ {j:Nat} {o:PO},((st.m.map (sfbO l xs)).set l .none)[j]?=some o→(j=l∧o=.none)∨(j≠l∧∃ o',st.m[j]?=some o'∧o=sfbO l xs o'):=by
    intro j o hj
    rw [List.getElem?_set] at hj
    split at hj
    ·rename_i e; subst e
     split at hj
     ·simp at hj; exact .inl ⟨rfl,hj.symm⟩
     ·cases hj
    ·rename_i e
     rw [List.getElem?_map] at hj
     cases hq:st.m[j]? with
     | none=>simp [hq] at hj
     | some o'=>simp [hq] at hj; exact .inr ⟨Ne.symm e,o',rfl,hj.symm⟩
   have hlv:∀ o:PO,(sfbO l xs o).live=o.live:=by intro o; cases o <;> rfl
   refine ⟨ow',hd,fun c hc hn=>?_,{ below:=S.below,fresh:=fun c hc=>?_,objs:=fun j o hj=>?_,dist:=?_,defers:=S.defers,size:=S.size,slots:=fun i=>?_ }⟩
   ·show (if c=b then false else ow c)=w0.ow c
    rw [if_neg]
    ·exact hold c hc hn
    ·intro e
     subst e
     rcases h2 with h' | h'
     ·omega
     ·rw [h'] at hn; cases hn
   ·show (if c=b then false else ow c)=false
    split
    ·rfl
    ·exact S.fresh c hc
   ·rcases back hj with ⟨rfl,rfl⟩ | ⟨hne,o',ho',rfl⟩
    ·trivial
    ·have ho:=(S.objs j o' ho').kp hk ha fun c hc hl=>⟨rfl,by
      show (if c=b then false else ow c)=ow c
      rw [if_neg]
      intro e; subst e
      exact S.dist j l o' _ c hne ho' hm hl rfl hc hbk⟩
     cases o' with
     | box cs =>
      obtain ⟨b',vals',t',g1,g2,g3,g4,g5⟩:=ho
      exact ⟨b',vals',t',g1,g2,g3,g4,RFL.sfb hfz h1 _ _ g5⟩
     | row ty sz xs=>exact ho
     | gh k x=>exact ho
     | cu q fs =>
      obtain ⟨g1,vs',g2,g3⟩:=ho
      exact ⟨g1,vs',RFL.sfb hfz h1 _ _ g2,g3⟩
     | free=>trivial
     | none=>trivial
   ·intro j j' o o' c hne hj hj' hl hl' hb hb'
    rcases back hj with ⟨rfl,rfl⟩ | ⟨_,p,hp,rfl⟩
    ·simp [PO.live] at hl
    ·rcases back hj' with ⟨rfl,rfl⟩ | ⟨_,p',hp',rfl⟩
     ·simp [PO.live] at hl'
     ·exact S.dist j j' p p' c hne hp hp' (by rw [← hlv]; exact hl) (by rw [← hlv]; exact hl') hb hb'
   ·show RF _ _ _ _ ((sfbL l xs st.f).getD i .dead) _
    rw [List.getD_eq_getElem?_getD,sfbL_get]
    have hsl:=RF.mono hk ha _ _ (S.slots i)
    rw [List.getD_eq_getElem?_getD] at hsl
    cases hf:st.f[i]? with
    | none=>simp only [Option.map_none,Option.getD_none,RF]
    | some x =>
     simp only [Option.map_some,Option.getD_some]
     rw [hf] at hsl
     exact RF.sfb hfz h1 _ _ hsl
  ·cases h
 ·cases h
mutual
def smv (l k:Nat):FV→FV
 | .agg cs=>.agg (smvL l k cs)
 | .tup cs=>.tup (smvL l k cs)
 | .srf j=>bif Nat.beq j l then .srf k else .srf j
 | .ept j sz i off=>.ept (bif Nat.beq j l then k else j) sz i off
 | .clo f cs=>.clo f (smvL l k cs)
 | x=>x
def smvL (l k:Nat):List FV→List FV
 | []=>[]
 | x::r=>smv l k x::smvL l k r
end
theorem smvL_get (l k:Nat):∀ (xs:List FV) (i:Nat),(smvL l k xs)[i]?=(xs[i]?).map (smv l k)
 | [],i=>by simp [smvL]
 | x::xs,i=>by
  cases i with
  | zero=>simp [smvL]
  | succ i=>simpa [smvL] using smvL_get l k xs i
theorem smvL_length (l k:Nat):∀ (xs:List FV),(smvL l k xs).length=xs.length
 | []=>rfl
 | x::xs=>by simp [smvL,smvL_length l k xs]
section
variable {A:Nat→Bool} {hd:Nat→Value} {ow:Nat→Bool} {w:World} {l k:Nat}
mutual
theorem RF.smv (ha:A k=true) (h:hd k=hd l):∀ (x:FV) (u:Value),RF A hd ow w x u→RF A hd ow w (pv.smv l k x) u
 | .d x,u,hr=>by simpa only [pv.smv] using hr
 | .agg cs,u,hr=>by
  simp only [pv.smv,RF] at hr ⊢
  obtain ⟨vs,e,hr⟩:=hr
  exact ⟨vs,e,RFL.smv ha h cs vs hr⟩
 | .tup cs,u,hr=>by
  simp only [pv.smv,RF] at hr ⊢
  obtain ⟨vs,e,hr⟩:=hr
  exact ⟨vs,e,RFT.smv ha h cs vs hr⟩
 | .ref _ _,u,hr=>by simpa only [pv.smv] using hr
 | .ept j sz i off,u,hr=>by
  simp only [pv.smv]
  cases hc:Nat.beq j l with
  | false=>exact hr
  | true =>
   have e:=Nat.eq_of_beq_eq_true hc
   subst e
   simp only [cond_true,RF] at hr ⊢
   exact ⟨ha,by rw [h]; exact hr.2⟩
 | .asl _ _ _ _ _ _,u,hr=>by simpa only [pv.smv] using hr
 | .ssl _ _ _ _,u,hr=>by simpa only [pv.smv] using hr
 | .srf j,u,hr=>by
  simp only [pv.smv]
  cases hc:Nat.beq j l with
  | false=>exact hr
  | true =>
   have e:=Nat.eq_of_beq_eq_true hc
   subst e
   simp only [cond_true,RF] at hr ⊢
   exact ⟨ha,by rw [h]; exact hr.2.1,by rw [h]; exact hr.2.2⟩
 | .clo f cs,u,hr=>by
  simp only [pv.smv,RF] at hr ⊢
  obtain ⟨vs,e,hr⟩:=hr
  exact ⟨vs,e,RFL.smv ha h cs vs hr⟩
 | .dead,u,hr=>by simpa only [pv.smv] using hr
theorem RFL.smv (ha:A k=true) (h:hd k=hd l):∀ (ys:List FV) (us:List Value),RFL A hd ow w ys us→RFL A hd ow w (smvL l k ys) us
 | [],us,hr=>by simpa only [smvL] using hr
 | y::ys,us,hr=>by
  simp only [smvL,RFL] at hr ⊢
  obtain ⟨v,r,e,h1,h2,h3⟩:=hr
  exact ⟨v,r,e,RF.smv ha h y v h1,h2,RFL.smv ha h ys r h3⟩
theorem RFT.smv (ha:A k=true) (h:hd k=hd l):∀ (ys:List FV) (us:List Value),RFT A hd ow w ys us→RFT A hd ow w (smvL l k ys) us
 | [],us,hr=>by simpa only [smvL] using hr
 | y::ys,us,hr=>by
  simp only [smvL,RFT] at hr ⊢
  obtain ⟨v,r,e,h1,h3⟩:=hr
  exact ⟨v,r,e,RF.smv ha h y v h1,RFT.smv ha h ys r h3⟩
end
end
def smvO (l k:Nat):PO→PO
 | .box cs=>.box (smvL l k cs)
 | o=>o
theorem smvO_made (l k:Nat) (o:PO):(smvO l k o).made=o.made:=by cases o <;> rfl
theorem smvO_live (l k:Nat) (o:PO):(smvO l k o).live=o.live:=by cases o <;> rfl
theorem al_smvO {m:List PO} {l k:Nat}:al (m.map (smvO l k))=al m:=by
 funext j
 unfold al
 rw [List.getElem?_map]
 cases m[j]? with
 | none=>rfl
 | some o=>exact smvO_made l k o
theorem SimH.smvO {w0:Cx} {m:List PO} {w:World} {ow:Nat→Bool} {hd:Nat→Value} {l k:Nat} (S:SimH w0 m w ow hd) (ha:al m k=true) (h:hd k=hd l):SimH w0 (m.map (pv.smvO l k)) w ow hd:=by
 have get:∀ {j:Nat} {o:PO},(m.map (pv.smvO l k))[j]?=some o→∃ o',m[j]?=some o'∧o=pv.smvO l k o':=by
  intro j o hj
  rw [List.getElem?_map] at hj
  cases hq:m[j]? with
  | none=>simp [hq] at hj
  | some o'=>simp [hq] at hj; exact ⟨o',rfl,hj.symm⟩
 refine ⟨S.below,S.fresh,fun j o hj=>?_,fun j j' o o' b hne hj hj' hl hl'=>?_⟩
 ·obtain ⟨o',ho',rfl⟩:=get hj
  have q:=S.objs j o' ho'
  rw [al_smvO]
  cases o' with
  | box cs =>
   obtain ⟨b,vals,t,h1,h2,h3,h4,h5⟩:=q
   exact ⟨b,vals,t,h1,h2,h3,h4,RFL.smv ha h _ _ h5⟩
  | free=>exact q
  | none=>exact q
  | row _ _ _=>exact q
  | gh _ _=>exact q
  | cu _ _=>exact q
 ·obtain ⟨p,hp,rfl⟩:=get hj
  obtain ⟨p',hp',rfl⟩:=get hj'
  rw [smvO_live] at hl hl'
  exact S.dist j j' p p' b hne hp hp' hl hl'
def smvS (st:PS) (l:Nat):Option PS:=match st.m[l]? with
 | some (.row e s xs)=>some ⟨smvL l st.m.length st.f,((st.m.map (smvO l st.m.length)).set l .none)++[.row e s xs]⟩
 | _=>none
theorem Sim.smv {n:Nat} {w0:Cx} {st st':PS} {a:Act} {w:World} {l:Nat} (S:Sim n w0 st a w) (h:smvS st l=some st'):Sim n w0 st' a w:=by
 unfold smvS at h
 split at h
 ·rename_i e s xs hm
  simp at h; subst h
  obtain ⟨ow,hd,hold,S⟩:=S
  have S0:=S.room 1
  have hlt:l<st.m.length:=(List.getElem?_eq_some_iff.1 hm).1
  have hm0:(st.m++List.replicate 1 PO.free)[l]?=some (.row e s xs):=by rw [List.getElem?_append_left hlt]; exact hm
  have hf0:(st.m++List.replicate 1 PO.free)[st.m.length]?=some .free:=by rw [List.getElem?_append_right (Nat.le_refl _)]; simp
  obtain ⟨cells,g1,g2,g3⟩:=S.objs l _ hm
  have hsl:∃ ad n c,hd l=.slice ad n c:=by
   rcases g1.2 with ⟨q,_⟩ | ⟨g,cap,cur,q,_⟩
   ·exact ⟨_,_,_,q⟩
   ·exact ⟨_,_,_,q⟩
  obtain ⟨hd',q1,q2,q3⟩:=S0.rerow hm0 hf0 (v':=hd l) (ys:=xs) (cells:=cells) g1 (fun b hb=>hb) g3 hsl
  have hmm:((st.m++List.replicate 1 PO.free).set l .none).set st.m.length (.row e s xs)=st.m.set l .none++[.row e s xs]:=by
   rw [List.set_append_left _ _ hlt,List.set_append_right _ _ (by simp)]
   simp
  rw [hmm] at q1 q2 q3
  have hal:al (st.m++List.replicate 1 PO.free) l=true:=by unfold al; rw [hm0]; rfl
  simp only [RF] at q3
  have hkl:hd' st.m.length=hd' l:=by rw [← q3.2.1,(q1 l hal).2]
  have q4:=q2.toSimH.smvO q3.1 hkl
  have hmap:(st.m.set l .none++[PO.row e s xs]).map (pv.smvO l st.m.length)=((st.m.map (pv.smvO l st.m.length)).set l .none)++[.row e s xs]:=by
   rw [List.map_append,List.map_set]; rfl
  have hal':al (((st.m.map (pv.smvO l st.m.length)).set l .none)++[.row e s xs])=al (st.m.set l .none++[PO.row e s xs]):=by
   rw [← hmap]; exact al_smvO
  simp only at q4
  rw [hmap] at q4
  refine ⟨ow,hd',hold,{ q4 with defers:=q2.defers,size:=q2.size,slots:=fun i=>?_ }⟩
  show RF _ _ _ _ ((smvL l st.m.length st.f).getD i .dead) _
  rw [List.getD_eq_getElem?_getD,smvL_get]
  have hs:=q2.slots i
  rw [List.getD_eq_getElem?_getD] at hs
  cases hf:st.f[i]? with
  | none=>simp only [Option.map_none,Option.getD_none,RF]
  | some x =>
   simp only [Option.map_some,Option.getD_some]
   rw [hf] at hs
   show RF (al (((st.m.map (pv.smvO l st.m.length)).set l .none)++[.row e s xs])) _ _ _ _ _
   rw [hal']
   exact RF.smv q3.1 hkl _ _ hs
 ·cases h
def nslS (st:PS) (i:Nat):PS:=⟨st.f.set i (nslF (st.f.getD i .dead)),st.m⟩
theorem Sim.nslS {n:Nat} {w0:Cx} {st:PS} {a:Act} {w:World} (i:Nat) (S:Sim n w0 st a w):Sim n w0 (pv.nslS st i) a w:=by
 obtain ⟨ow,hd,hold,S⟩:=S
 refine ⟨ow,hd,hold,{ S.toSimH with defers:=S.defers,size:=S.size,slots:=fun k=>?_ }⟩
 show RF _ _ _ _ ((st.f.set i _).getD k .dead) _
 rw [getD_set]
 split
 ·rename_i h
  rw [h.1]
  exact RF.nslF _ _ (S.slots i)
 ·exact S.slots k
def nslB (st:PS) (l:Nat):Option PS:=match st.m[l]? with
 | some (.box cs)=>some ⟨st.f,st.m.set l (.box (nslFL cs))⟩
 | _=>none
theorem Sim.nslB {n:Nat} {w0:Cx} {st st':PS} {a:Act} {w:World} {l:Nat} (S:Sim n w0 st a w) (h:pv.nslB st l=some st'):Sim n w0 st' a w:=by
 unfold pv.nslB at h
 split at h
 ·rename_i cs hm
  simp at h; subst h
  obtain ⟨ow,hd,hold,S⟩:=S
  obtain ⟨b,vals,t,h1,h2,h3,h4,h5⟩:=S.objs l _ hm
  have e:upd hd l (hd l)=hd:=by funext j; by_cases e:j=l <;> simp [upd,e]
  have:=S.obj (l:=l) (hv:=hd l) (o:=.box (nslFL cs)) (Kp.refl _ _) (Kt.refl _ _) S.fresh (.inr rfl) rfl
   (by rw [e]; exact ⟨b,vals,t,h1,h2,h3,h4,RFL.nslF _ _ (RFL.mono (Kp.refl _ _) (fun j hj=>⟨al_set_mono rfl j hj,rfl⟩) _ _ h5)⟩)
   (fun j oj b' hne hj hlv hb'=>⟨rfl,rfl,fun _ eb=>S.dist j l oj _ b' hne hj hm hlv rfl hb' eb⟩)
  rw [e] at this
  exact ⟨ow,hd,hold,this⟩
 ·cases h
inductive Fr where
 | s (c:Code)
 | b (id:Nat)
 | l (j:Nat) (c:Code)
section
variable (P:Program) (n:Nat) (Fin:Ex→PS→Prop)
def RunE:List Fr→Ex→PS→Prop
 | [],ex,st=>Fin ex st
 | .s c::ks,ex,st=>match ex with
  | .normal=>Tri P n c st (fun ex st'=>RunE ks ex st')
  | e=>RunE ks e st
 | .b id::ks,ex,st=>match ex with
  | .exit j=>RunE ks (bif Nat.beq j id then .normal else .exit j) st
  | e=>RunE ks e st
 | .l j c::ks,ex,st=>match ex with
  | .normal=>∀ (w0:Cx) (a:Act) (w:World),Sim n w0 st a w→Code.rounds P c (fun e a' w'=>∃ ex st',e=Ex.exit' ex∧RunE ks ex st'∧Sim n w0 st' a' w') j a w
  | e=>RunE ks e st
end
def SilX (m0:List (Nat×PO)) (g:PS→PS):Prop:=∀ (st:PS),(∀ q∈m0,st.m[q.1]?=some q.2)→(g st).f.length=st.f.length∧∀ (n:Nat) (w0:Cx) (a:Act) (w:World),Sim n w0 st a w→Sim n w0 (g st) a w
structure Cf where
 ks:List Fr
 ex:Ex
 st:PS
structure SO where
 cf:Cf
 ob:List Prop
 hs:List Hn
def pcode (P:Program) (T:List TI) (ks:List Fr) (st:PS) (hs:List Hn):Code→Option SO
 | .skip=>some ⟨⟨ks,.normal,st⟩,[],hs⟩
 | .label _=>some ⟨⟨ks,.normal,st⟩,[],hs⟩
 | .region _ ops draw=>(match pregion P T ops draw st hs with
  | some y=>some ⟨⟨ks,.normal,y.st⟩,y.ob,y.hs⟩
  | none=>none)
 | .seq a b=>some ⟨⟨.s a::.s b::ks,.normal,st⟩,[],hs⟩
 | .cond c a b=>(match c with
  | .tmp d=>(match st.f[d]? with
   | some (.d (.v (.bool v)))=>(match hs with
    | .t br::hs=>some ⟨⟨.s (bif br then a else b)::ks,.normal,⟨st.f.set d (.d (.v (.bool br))),st.m⟩⟩,[v=br],hs⟩
    | .c::hs=>some ⟨⟨.s (bif v then a else b)::ks,.normal,st⟩,[],hs⟩
    | _=>none)
   | _=>none)
  | .const (.bool v)=>(match hs with
   | .c::hs=>some ⟨⟨.s (bif v then a else b)::ks,.normal,st⟩,[],hs⟩
   | _=>none)
  | _=>none)
 | .block id a=>some ⟨⟨.s a::.b id::ks,.normal,st⟩,[],hs⟩
 | .exit id=>some ⟨⟨ks,.exit id,st⟩,[],hs⟩
 | .ret=>some ⟨⟨ks,.ret,st⟩,[],hs⟩
 | .loop a=>(match hs with
  | .n j::hs=>some ⟨⟨.l j a::ks,.normal,st⟩,[],hs⟩
  | _=>none)
 | _=>none
def pstep0 (P:Program) (T:List TI) (cf:Cf) (hs:List Hn):Option SO :=
 match cf with
 | ⟨[],_,_⟩=>none
 | ⟨.s c::ks,ex,st⟩=>(match ex with
  | .normal=>pcode P T ks st hs c
  | e=>some ⟨⟨ks,e,st⟩,[],hs⟩)
 | ⟨.b id::ks,ex,st⟩=>(match ex with
  | .exit j=>some ⟨⟨ks,bif Nat.beq j id then .normal else .exit j,st⟩,[],hs⟩
  | e=>some ⟨⟨ks,e,st⟩,[],hs⟩)
 | ⟨.l j c::ks,ex,st⟩=>(match ex with
  | .normal=>(match j with
   | 0=>none
   | j+1=>some ⟨⟨.s c::.l j c::ks,.normal,st⟩,[],hs⟩)
  | e=>some ⟨⟨ks,e,st⟩,[],hs⟩)
def pstep (P:Program) (T:List TI) (cf:Cf) (hs:List Hn):Option SO :=
 match hs with
 | .fz l::hs=>(match sfzS cf.st l with | some st=>some ⟨⟨cf.ks,cf.ex,st⟩,[],hs⟩ | none=>none)
 | .tb l off e s::hs=>(match thawB cf.st l off e s with | some st=>some ⟨⟨cf.ks,cf.ex,st⟩,[],hs⟩ | none=>none)
 | .fb l::hs=>(match sfbS cf.st l with | some st=>some ⟨⟨cf.ks,cf.ex,st⟩,[],hs⟩ | none=>none)
 | .th i e s::hs=>(match thaw1 cf.st i e s with | some st=>some ⟨⟨cf.ks,cf.ex,st⟩,[],hs⟩ | none=>none)
 | .mv l::hs=>(match smvS cf.st l with | some st=>some ⟨⟨cf.ks,cf.ex,st⟩,[],hs⟩ | none=>none)
 | .ns i::hs=>some ⟨⟨cf.ks,cf.ex,nslS cf.st i⟩,[],hs⟩
 | .sx ls g::hs=>(match pickObjs cf.st.m ls with | some m0=>some ⟨⟨cf.ks,cf.ex,g cf.st⟩,[SilX m0 g],hs⟩ | none=>none)
 | .nb l::hs=>(match nslB cf.st l with | some st=>some ⟨⟨cf.ks,cf.ex,st⟩,[],hs⟩ | none=>none)
 | .dl (k+1)::hs=>(match pstep0 P T cf [] with
  | some ⟨cf,ob,[]⟩=>some ⟨cf,ob,(match k with | 0=>hs | k=>.dl k::hs)⟩
  | _=>none)
 | hs=>pstep0 P T cf hs
def pk (P:Program) (T:List TI):Nat→Cf→List Hn→Option (Cf×List Prop)
 | 0,cf,hs=>(match hs with
  | []=>some (cf,[])
  | _=>none)
 | k+1,cf,hs=>(match pstep P T cf hs with
  | some ⟨cf,ob,hs⟩=>(match pk P T k cf hs with
   | some (c,ob')=>some (c,ob++ob')
   | none=>none)
  | none=>none)
section
variable {P:Program} {T:List TI} {n:Nat} {Fin:Ex→PS→Prop}
theorem pcode_sound (hT:TOk P T) (hm:P.follows .mixedOrders=true) {ks:List Fr} {st:PS} {hs:List Hn} {c:Code} {y:SO} (h:pcode P T ks st hs c=some y) (hn:st.f.length=n) (hob:AllP y.ob)
  (k:y.cf.st.f.length=n→RunE P n Fin y.cf.ks y.cf.ex y.cf.st):Tri P n c st (fun ex st'=>RunE P n Fin ks ex st'):=by
 cases c with
 | skip =>
  simp [pcode] at h; subst h
  exact fun w0 a w S=>wp_skip ⟨.normal,st,rfl,k hn,S⟩
 | label l =>
  simp [pcode] at h; subst h
  exact fun w0 a w S=>wp_label ⟨.normal,st,rfl,k hn,S⟩
 | exit id =>
  simp [pcode] at h; subst h
  exact fun w0 a w S=>wp_exit ⟨.exit id,st,rfl,k hn,S⟩
 | ret =>
  simp [pcode] at h; subst h
  exact fun w0 a w S=>wp_ret ⟨.ret,st,rfl,k hn,S⟩
 | region id ops draw =>
  simp only [pcode] at h
  split at h
  ·rename_i z hz
   simp at h; subst h
   have hr:=peval_sound (n:=n) hT hm (.region id ops draw) st hs z (by simpa only [peval] using hz) hn hob
   refine hr.2.mono ?_
   rintro ex st' ⟨rfl,rfl⟩
   have:z.ex=.normal:=by
    unfold pregion at hz
    split at hz
    ·obtain ⟨_,hz⟩:=cond_some hz
     simp at hz; rw [← hz]
    ·cases hz
   rw [this]
   exact k hr.1
  ·cases h
 | seq a b =>
  simp [pcode] at h; subst h
  refine Tri.seq ((k hn).mono ?_)
  intro ex st' h
  cases ex with
  | normal=>exact h
  | exit id=>exact h
  | ret=>exact h
 | cond c a b =>
  simp only [pcode] at h
  split at h
  ·rename_i d
   split at h
   ·rename_i v hv
    split at h
    ·rename_i br hs1
     simp at h; subst h
     obtain ⟨o1,_⟩:=hob
     subst o1
     have k:=k (by simpa using hn)
     rw [set_self hv] at k
     refine Tri.cond hv ?_
     cases v <;> exact k
    ·simp at h; subst h
     refine Tri.cond hv ?_
     cases v <;> exact k hn
    ·cases h
   ·cases h
  ·rename_i v
   split at h
   ·simp at h; subst h
    refine Tri.condC ?_
    cases v <;> exact k hn
   ·cases h
  ·cases h
 | block id a =>
  simp [pcode] at h; subst h
  refine Tri.block ((k hn).mono ?_)
  intro ex st' h
  cases ex with
  | normal=>exact h
  | exit j =>
   have h:RunE P n Fin ks (bif Nat.beq j id then .normal else .exit j) st':=h
   by_cases e:j=id
   ·subst e; simpa using h
   ·have e':Nat.beq j id=false:=by rw [← Bool.not_eq_true]; intro h; exact e (beq_eq h)
    rw [e'] at h
    simpa [e] using h
  | ret=>exact h
 | loop a =>
  simp only [pcode] at h
  split at h
  ·rename_i j hs1
   simp at h; subst h
   exact fun w0 a w S=>wp_loop_rounds j (k hn w0 a w S)
  ·cases h
 | _=>simp [pcode] at h
theorem pstep0_sound (hT:TOk P T) (hm:P.follows .mixedOrders=true) {cf:Cf} {hs:List Hn} {y:SO} (h:pstep0 P T cf hs=some y) (hn:cf.st.f.length=n) (hob:AllP y.ob)
  (k:y.cf.st.f.length=n→RunE P n Fin y.cf.ks y.cf.ex y.cf.st):RunE P n Fin cf.ks cf.ex cf.st:=by
 obtain ⟨ks,ex,st⟩:=cf
 cases ks with
 | nil=>simp [pstep0] at h
 | cons fr ks =>
  cases fr with
  | s c =>
   cases ex with
   | normal=>exact pcode_sound hT hm h hn hob k
   | exit id=>simp [pstep0] at h; subst h; exact k hn
   | ret=>simp [pstep0] at h; subst h; exact k hn
  | b id =>
   cases ex with
   | normal=>simp [pstep0] at h; subst h; exact k hn
   | exit id=>simp [pstep0] at h; subst h; exact k hn
   | ret=>simp [pstep0] at h; subst h; exact k hn
  | l j c =>
   cases ex with
   | normal =>
    cases j with
    | zero=>simp [pstep0] at h
    | succ j =>
     simp [pstep0] at h; subst h
     intro w0 a w S
     rw [rounds_succ]
     refine wp_mono (k hn w0 a w S) ?_
     rintro e a' w' ⟨ex,st',rfl,h,S'⟩
     cases ex with
     | normal=>exact h w0 a' w' S'
     | exit id=>exact ⟨.exit id,st',rfl,h,S'⟩
     | ret=>exact ⟨.ret,st',rfl,h,S'⟩
   | exit id=>simp [pstep0] at h; subst h; exact k hn
   | ret=>simp [pstep0] at h; subst h; exact k hn
def KC (n:Nat) (Fin:Ex→PS→Prop):Prop:=∀ (ex:Ex) (st st':PS),(∀ (w0:Cx) (a:Act) (w:World),Sim n w0 st a w→Sim n w0 st' a w)→Fin ex st'→Fin ex st
theorem run_weak (hF:KC n Fin) {st st':PS} (hw:∀ (w0:Cx) (a:Act) (w:World),Sim n w0 st a w→Sim n w0 st' a w):∀ (ks:List Fr) (ex:Ex),RunE P n Fin ks ex st'→RunE P n Fin ks ex st
 | [],ex,h=>hF ex st st' hw h
 | .s c::ks,ex,h=>by
  cases ex with
  | normal=>exact fun w0 a w S=>h w0 a w (hw _ _ _ S)
  | exit id=>exact run_weak hF hw ks _ h
  | ret=>exact run_weak hF hw ks _ h
 | .b id::ks,ex,h=>by
  cases ex with
  | normal=>exact run_weak hF hw ks _ h
  | exit id=>exact run_weak hF hw ks _ h
  | ret=>exact run_weak hF hw ks _ h
 | .l j c::ks,ex,h=>by
  cases ex with
  | normal=>exact fun w0 a w S=>h w0 a w (hw _ _ _ S)
  | exit id=>exact run_weak hF hw ks _ h
  | ret=>exact run_weak hF hw ks _ h
theorem sfzS_length {st st':PS} {l:Nat} (h:sfzS st l=some st'):st'.f.length=st.f.length:=by
 unfold sfzS at h
 split at h
 ·simp at h; subst h; exact sfzL_length _ _ _
 ·cases h
theorem thawB_length {st st':PS} {l off e s:Nat} (h:thawB st l off e s=some st'):st'.f.length=st.f.length:=by
 unfold thawB at h
 split at h
 ·split at h
  ·simp at h; subst h; rfl
  ·cases h
 ·cases h
theorem pstep_sound (hT:TOk P T) (hm:P.follows .mixedOrders=true) (hF:KC n Fin) {cf:Cf} {hs:List Hn} {y:SO} (h:pstep P T cf hs=some y) (hn:cf.st.f.length=n) (hob:AllP y.ob)
  (k:y.cf.st.f.length=n→RunE P n Fin y.cf.ks y.cf.ex y.cf.st):RunE P n Fin cf.ks cf.ex cf.st:=by
 unfold pstep at h
 split at h
 ·split at h
  ·rename_i st hst
   simp at h; subst h
   exact run_weak hF (fun w0 a w S=>S.sfz hst) _ _ (k (by rw [sfzS_length hst]; exact hn))
  ·cases h
 ·split at h
  ·rename_i st hst
   simp at h; subst h
   exact run_weak hF (fun w0 a w S=>S.thawB hst) _ _ (k (by rw [thawB_length hst]; exact hn))
  ·cases h
 ·split at h
  ·rename_i st hst
   simp at h; subst h
   exact run_weak hF (fun w0 a w S=>S.sfb hst) _ _ (k (by
    unfold sfbS at hst
    split at hst
    ·split at hst
     ·simp at hst; subst hst; exact (sfbL_length _ _ _).trans hn
     ·cases hst
    ·cases hst))
  ·cases h
 ·split at h
  ·rename_i st hst
   simp at h; subst h
   exact run_weak hF (fun w0 a w S=>S.thaw1 hst) _ _ (k (by
    unfold thaw1 at hst
    split at hst
    ·simp at hst; subst hst; simpa using hn
    ·cases hst))
  ·cases h
 ·split at h
  ·rename_i st hst
   simp at h; subst h
   exact run_weak hF (fun w0 a w S=>S.smv hst) _ _ (k (by
    unfold smvS at hst
    split at hst
    ·simp at hst; subst hst; exact (smvL_length _ _ _).trans hn
    ·cases hst))
  ·cases h
 ·rename_i i hs1
  simp at h; subst h
  exact run_weak hF (fun w0 a w S=>S.nslS i) _ _ (k (by simpa [nslS] using hn))
 ·split at h
  ·rename_i m0 hm0
   simp at h; subst h
   obtain ⟨h1,h2⟩:=hob.1 cf.st (pickObjs_spec hm0).2
   exact run_weak hF (fun w0 a w S=>h2 _ _ _ _ S) _ _ (k (h1.trans hn))
  ·cases h
 ·split at h
  ·rename_i st hst
   simp at h; subst h
   exact run_weak hF (fun w0 a w S=>S.nslB hst) _ _ (k (by
    unfold nslB at hst
    split at hst
    ·simp at hst; subst hst; exact hn
    ·cases hst))
  ·cases h
 ·split at h
  ·rename_i cf' ob' h1
   simp at h; subst h
   exact pstep0_sound hT hm h1 hn hob k
  ·cases h
 ·exact pstep0_sound hT hm h hn hob k
theorem pk_sound (hT:TOk P T) (hm:P.follows .mixedOrders=true) (hF:KC n Fin):∀ (k:Nat) {cf cf':Cf} {hs:List Hn} {ob:List Prop},pk P T k cf hs=some (cf',ob)→cf.st.f.length=n→AllP ob →
  (cf'.st.f.length=n→RunE P n Fin cf'.ks cf'.ex cf'.st)→RunE P n Fin cf.ks cf.ex cf.st
 | 0,cf,cf',hs,ob,h,hn,hob,q=>by
  simp only [pk] at h
  split at h
  ·simp at h; obtain ⟨rfl,rfl⟩:=h; exact q hn
  ·cases h
 | k+1,cf,cf',hs,ob,h,hn,hob,q=>by
  simp only [pk] at h
  split at h
  ·rename_i c1 ob1 hs1 h1
   split at h
   ·rename_i c2 ob2 h2
    simp at h; obtain ⟨rfl,rfl⟩:=h
    obtain ⟨o1,o2⟩:=AllP.app hob
    exact pstep_sound hT hm hF h1 hn o1 fun hn=>pk_sound hT hm hF k h2 hn o2 q
   ·cases h
  ·cases h
def thaws (st:PS):List (Nat×Nat×Nat)→Option PS
 | []=>some st
 | (i,e,s)::r=>match thaw1 st i e s with
  | some st=>thaws st r
  | none=>none
theorem Sim.thaws {w0:Cx} {a:Act} {w:World}:∀ {ts:List (Nat×Nat×Nat)} {st st':PS},Sim n w0 st a w→pv.thaws st ts=some st'→Sim n w0 st' a w
 | [],st,st',S,h=>by simp [pv.thaws] at h; subst h; exact S
 | (i,e,s)::r,st,st',S,h=>by
  simp only [pv.thaws] at h
  split at h
  ·rename_i st1 h1; exact Sim.thaws (S.thaw1 h1) h
  ·cases h
def pkk (P:Program) (T:List TI) (k:Nat) (cf:Cf) (hs:List Hn) (ts:List (Nat×Nat×Nat)) (s l:List Nat):Option (Cf×List Prop) :=
 match pk P T k cf hs with
 | some (c,ob)=>(match thaws c.st ts with
  | some st=>bif nodup s then some (⟨c.ks,c.ex,st.keep s l⟩,ob) else none
  | none=>none)
 | none=>none
theorem pkk_sound (hT:TOk P T) (hm:P.follows .mixedOrders=true) (hF:KC n Fin) (k:Nat) {ks ks':List Fr} {ex ex':Ex} {st st':PS} {ts:List (Nat×Nat×Nat)} {s l:List Nat} {hs:List Hn} {ob:List Prop} (h:pkk P T k ⟨ks,ex,st⟩ hs ts s l=some (⟨ks',ex',st'⟩,ob)) (hn:st.f.length=n) (hob:AllP ob)
  (q:RunE P n Fin ks' ex' st'):RunE P n Fin ks ex st:=by
 unfold pkk at h
 split at h
 ·rename_i c ob1 h1
  split at h
  ·rename_i st1 ht
   obtain ⟨h2,h3⟩:=cond_some h
   simp at h3
   obtain ⟨⟨rfl,rfl,rfl⟩,rfl⟩:=h3
   exact pk_sound (cf:=⟨ks,ex,st⟩) hT hm hF k h1 hn hob fun _=>run_weak hF (fun w0 a w S=>(S.thaws ht).keep s l h2) _ _ q
  ·cases h
 ·cases h
def FinR (P:Program) (fn:Func) (r:PV) (ex:Ex) (st:PS):Prop:=(∀ id,ex≠.exit id)∧∀ (w0:Cx) (a:Act) (w:World),(∀ b,w0.New b→w0.ow b=false)→Sim fn.ntmps w0 st a w→∃ v,(results fn a.tmps).run P w=.ok v w∧R w0.ow w r v
theorem FinR.kc {fn:Func} {r:PV}:KC fn.ntmps (FinR P fn r):=fun ex st st' hw h=>⟨h.1,fun w0 a w hf S=>h.2 w0 a w hf (hw _ _ _ S)⟩
theorem FinR.of (hT:TOk P T) {fn:Func} {r:PV} {ex:Ex} {st:PS} (hex:∀ id,ex≠.exit id) (hr:pres T st fn.results.toList=some r):FinR P fn r ex st:=by
 refine ⟨hex,fun w a' w' hfr ⟨ow',hd',hold,S⟩=>?_⟩
 have hk:Kp ow' w' w.ow w':=by
  refine ⟨Nat.le_refl _,fun b hb h=>?_,fun _ _ _=>rfl⟩
  rcases Nat.lt_or_ge b w.w.heap.size with h' | h'
  ·cases ho:w.own b with
   | true=>exact hfr b (.inr ho)
   | false=>rw [← hold b h' ho]; exact h
  ·exact hfr b (.inl h')
 unfold pres at hr
 split at hr
 ·rename_i x hx
  split at hr
  ·rename_i z hz
   simp at hr; subst hr
   obtain ⟨vs,h1,h2,h3⟩:=presL_sound hT S _ _ hx
   have hl:=RFT.length h2
   have hrun:=run_results (P:=P) (w:=w') (fn:=fn) (tmps:=a'.tmps) _ vs rfl h1 h3 (by simp at hl; omega)
   simp only [RFT] at h2
   obtain ⟨v,r0,hv,h4,rfl⟩:=h2
   rw [hv] at hrun
   exact ⟨v,hrun,R.nsl _ _ (frz_sound S.toSimH hk hfr _ _ _ hz h4)⟩
  ·cases hr
 ·rename_i xs hne hx
  obtain ⟨hr8,hr⟩:=cond_some hr
  split at hr
  ·rename_i zs hz
   simp at hr; subst hr
   obtain ⟨vs,h1,h2,h3⟩:=presL_sound hT S _ _ hx
   have hl:=RFT.length h2
   have hrun:=run_results (P:=P) (w:=w') (fn:=fn) (tmps:=a'.tmps) _ vs rfl h1 h3 (by rw [← h1,hl]; exact Nat.le_of_ble_eq_true hr8)
   refine ⟨.tuple vs.toArray,?_,?_⟩
   ·rw [hrun]
    congr 1
    match vs,hl with
    | [],_=>rfl
    | [t],hl =>
     exfalso
     match xs,hl,hne with
     | [x],_,hne=>exact hne x rfl
    | _::_::_,_=>rfl
   ·simp only [R]
    exact ⟨_,rfl,RT.nsl _ _ (frzT_sound S.toSimH hk hfr _ _ _ hz h2)⟩
  ·cases hr
 ·cases hr
def pend (P:Program) (T:List TI) (fn:Func) (k:Nat) (cf:Cf) (hs:List Hn):Option (PV×List Prop) :=
 match pk P T k cf hs with
 | some (⟨[],ex,st⟩,ob)=>(match ex,pres T st fn.results.toList with
  | .exit _,_=>none
  | _,some r=>some (r,ob)
  | _,none=>none)
 | _=>none
theorem pend_sound (hT:TOk P T) (hm:P.follows .mixedOrders=true) {fn:Func} (k:Nat) {ks:List Fr} {ex:Ex} {st:PS} {hs:List Hn} {ob:List Prop} {r:PV} (h:pend P T fn k ⟨ks,ex,st⟩ hs=some (r,ob)) (hnn:fn.ntmps=n) (hn:st.f.length=n) (hob:AllP ob):RunE P n (FinR P fn r) ks ex st:=by
 subst hnn
 unfold pend at h
 split at h
 ·rename_i ex' st' ob1 h1
  split at h
  ·cases h
  ·rename_i r' hne hr
   simp at h
   obtain ⟨rfl,rfl⟩:=h
   exact pk_sound (cf:=⟨ks,ex,st⟩) hT hm FinR.kc k h1 hn hob fun _=>FinR.of hT (fun id e=>hne id e) hr
  ·cases h
 ·cases h
theorem FinR.kc' {fn:Func} {r:PV} (hn:fn.ntmps=n):KC n (FinR P fn r):=hn ▸ FinR.kc
def fnOk (fn:Func) (k:Nat):Bool:=!(fn.name == "runtime.NumGoroutine")&&Nat.ble k fn.ntmps
theorem ret_run {f:FuncId} {fn:Func} {c:Code} {args:List PV} {r:PV} (hf:P.funcs[f]?=some fn) (hb:fn.body=some c) (hc:fnOk fn args.length=true) (hnn:fn.ntmps=n) (h:RunE P n (FinR P fn r) [.s c] .normal (start n args)):Ret P f args r:=by
 subst hnn
 simp only [fnOk,Bool.and_eq_true,Bool.not_eq_true'] at hc
 have hle:args.length≤fn.ntmps:=Nat.le_of_ble_eq_true hc.2
 refine ⟨⟨fn,hf,hc.1,by rw [hb]; rfl⟩,fun ow w vs hfr hargs=>?_⟩
 refine calls_of_wp hf hb (wp_mono (h ⟨w,fun _=>false,ow,fun _=>undef⟩ _ w (start_sim hle hfr hargs)) ?_)
 rintro e a' w' ⟨ex,st',rfl,⟨hex,hr⟩,ow',hd',hold,S⟩
 obtain ⟨v,f1,f2⟩:=hr ⟨w,fun _=>false,ow,fun _=>undef⟩ a' w' (fun b hb=>hb.elim (hfr b) (fun h=>by cases h)) ⟨ow',hd',hold,S⟩
 have hbel:Below w.heap.size w w':=⟨S.below.os,S.below.tape,S.below.output,S.below.size,fun k hk=>S.below.block k hk rfl⟩
 cases ex with
 | normal=>exact ⟨S.defers,v,f1,v,rfl,hbel,f2⟩
 | ret=>exact ⟨S.defers,v,f1,v,rfl,hbel,f2⟩
 | exit id=>exact absurd rfl (hex id)
def noGh:PO→Bool
 | .gh _ _=>false
 | _=>true
def FinH (P:Program) (fn:Func) (m:List PO) (r:FV) (m':List PO) (ex:Ex) (st:PS):Prop:=(∀ id,ex≠.exit id)∧m'.all noGh=true∧∀ (c:Cx) (a:Act) (w:World),Sim fn.ntmps c st a w →
 ∃ v ow' hd',(results fn a.tmps).run P w=.ok v w∧Keep c ow'∧SimH c m' w ow' hd'∧(∀ k,k<m.length→al m' k=true∧hd' k=c.gs k)∧RF (al m') hd' ow' w r v
theorem FinH.kc {fn:Func} {m m':List PO} {r:FV}:KC fn.ntmps (FinH P fn m r m'):=fun ex st st' hw h=>⟨h.1,h.2.1,fun c a w S=>h.2.2 c a w (hw _ _ _ S)⟩
theorem FinH.kc' {fn:Func} {m m':List PO} {r:FV} (hn:fn.ntmps=n):KC n (FinH P fn m r m'):=hn ▸ FinH.kc
def ghAt (s:List Nat) (k:Nat) (o:PO):PO→Bool
 | .gh j x=>Nat.beq j k&&(match o,ren s x with
  | .box _,.ref i 0=>Nat.beq i k
  | .row _ _ _,.srf i=>Nat.beq i k
  | .cu _ _,.srf i=>Nat.beq i k
  | _,_=>false)
 | _=>false
def ghOk (s:List Nat) (st:List PO):Nat→List PO→Bool
 | _,[]=>true
 | k,o::r=>st.any (ghAt s k o)&&ghOk s st (k+1) r
def presH (T:List TI) (st:PS) (rs:List ResultVar) (s:List Nat):Option FV :=
 match presL T st rs with
 | some [x]=>some (nslF (ren s x))
 | some xs=>bif Nat.blt xs.length 8 then some (nslF (ren s (.tup xs))) else none
 | none=>none
theorem ghOk_spec {s:List Nat} {M:List PO}:∀ {m:List PO} {k:Nat},ghOk s M k m=true→∀ (j:Nat) (o:PO),m[j]?=some o→∃ (l:Nat) (x:FV),M[l]?=some (PO.gh (k+j) x)∧ghAt s (k+j) o (PO.gh (k+j) x)=true
 | [],k,h,j,o,hj=>by simp at hj
 | o0::r,k,h,j,o,hj=>by
  simp only [ghOk,Bool.and_eq_true] at h
  cases j with
  | zero =>
   simp at hj; subst hj
   obtain ⟨q,hq,hg⟩:=List.any_eq_true.1 h.1
   obtain ⟨l,hl⟩:=List.mem_iff_getElem?.1 hq
   cases q with
   | gh i x =>
    have:i=k:=by
     simp only [ghAt,Bool.and_eq_true] at hg
     exact Nat.eq_of_beq_eq_true hg.1
    subst this
    exact ⟨l,x,hl,hg⟩
   | _=>simp [ghAt] at hg
  | succ j =>
   simp at hj
   have:=ghOk_spec h.2 j o hj
   rw [show k+1+j=k+(j+1) by omega] at this
   exact this
theorem FinH.of (hT:TOk P T) {fn:Func} {m:List PO} {r:FV} {m':List PO} {s:List Nat} {ex:Ex} {st:PS} (hex:∀ id,ex≠.exit id) (hs:nodup s=true) (hg:ghOk s st.m 0 m=true) (hr:presH T st fn.results.toList s=some r) (hm:(renM st.m s s).map nslO=m') (hng:m'.all noGh=true):FinH P fn m r m' ex st:=by
 refine ⟨hex,hng,fun c a w ⟨ow,hd,hold,S⟩=>?_⟩
 obtain ⟨xs,hx⟩:∃ xs,presL T st fn.results.toList=some xs:=by
  unfold presH at hr
  split at hr
  ·exact ⟨_,by assumption⟩
  ·exact ⟨_,by assumption⟩
  ·cases hr
 obtain ⟨vs,h1,h2,h3⟩:=presL_sound hT S _ _ hx
 have hl:=RFT.length h2
 have hal:∀ l,al m' l=al (renM st.m s s) l:=by intro l; rw [← hm]; exact al_nslO l
 have key:SimH c (renM st.m s s) w ow (hren hd s):=SimH.keep S.toSimH hs
 have key':SimH c m' w ow (hren hd s):=by
  rw [← hm]
  refine ⟨key.below,key.fresh,fun j o hj=>?_,?_⟩
  ·rw [List.getElem?_map] at hj
   cases hq:(renM st.m s s)[j]? with
   | none=>simp [hq] at hj
   | some o' =>
    simp [hq] at hj; subst hj
    have ho:=key.objs j o' hq
    rw [funext (al_nslO (m:=renM st.m s s))]
    cases o' with
    | box cs =>
     obtain ⟨b,vals,t,g1,g2,g3,g4,g5⟩:=ho
     exact ⟨b,vals,t,g1,g2,g3,g4,RFL.nslF _ _ g5⟩
    | cu q fs =>
     obtain ⟨g1,vs',g2,g3⟩:=ho
     exact ⟨g1,vs',RFL.nslF _ _ g2,g3⟩
    | free=>exact ho
    | none=>exact ho
    | row _ _ _=>exact ho
    | gh _ _=>exact ho
  ·intro j j' o o' b hne hj hj' hlv hlv' hb hb'
   have go:∀ {j:Nat} {o:PO},((renM st.m s s).map nslO)[j]?=some o→o.live=true→∃ o',(renM st.m s s)[j]?=some o'∧o'.live=true:=by
    intro j o hj hlv
    rw [List.getElem?_map] at hj
    cases hq:(renM st.m s s)[j]? with
    | none=>simp [hq] at hj
    | some o'=>simp [hq] at hj; subst hj; exact ⟨o',rfl,by cases o' <;> simp_all [nslO,PO.live]⟩
   obtain ⟨p,p1,p2⟩:=go hj hlv
   obtain ⟨q,q1,q2⟩:=go hj' hlv'
   exact key.dist j j' p q b hne p1 q1 p2 q2 hb hb'
 have hres:∀ (x:FV) (v:Value),RF (al st.m) hd ow w x v→RF (al m') (hren hd s) ow w (nslF (ren s x)) v:=by
  intro x v h
  rw [funext hal]
  exact RF.nslF _ _ (RF.ren _ _ h)
 have hgh:∀ k,k<m.length→al m' k=true∧hren hd s k=c.gs k:=by
  intro k hk
  obtain ⟨l,x,hl,hgx⟩:=ghOk_spec hg k _ (List.getElem?_eq_getElem hk)
  rw [Nat.zero_add] at hl hgx
  have ho:RF (al st.m) hd ow w x (c.gs k):=S.objs l _ hl
  have h4:=RF.ren (s:=s) _ _ ho
  rw [hal]
  simp only [ghAt,Bool.and_eq_true] at hgx
  obtain ⟨_,hgx⟩:=hgx
  split at hgx
  ·rename_i i h5 h6
   rw [h6] at h4
   have e:=Nat.eq_of_beq_eq_true hgx
   subst e
   simp only [RF] at h4
   obtain ⟨g1,b,g2,g3⟩:=h4
   exact ⟨g1,by rw [g2,g3]⟩
  ·rename_i i h5 h6
   rw [h6] at h4
   have e:=Nat.eq_of_beq_eq_true hgx
   subst e
   simp only [RF] at h4
   exact ⟨h4.1,h4.2.1.symm⟩
  ·rename_i i h5 h6
   rw [h6] at h4
   have e:=Nat.eq_of_beq_eq_true hgx
   subst e
   simp only [RF] at h4
   exact ⟨h4.1,h4.2.1.symm⟩
  ·cases hgx
 unfold presH at hr
 rw [hx] at hr
 split at hr
 ·rename_i x hx'
  simp at hx'; subst hx'
  simp at hr; subst hr
  have hrun:=run_results (P:=P) (w:=w) (fn:=fn) (tmps:=a.tmps) _ vs rfl h1 h3 (by simp at hl; omega)
  simp only [RFT] at h2
  obtain ⟨v,r0,hv,h4,rfl⟩:=h2
  rw [hv] at hrun
  exact ⟨v,ow,hren hd s,hrun,hold,key',hgh,hres _ _ h4⟩
 ·rename_i ys hne hx'
  simp at hx'; subst hx'
  obtain ⟨hr8,hr⟩:=cond_some hr
  simp at hr; subst hr
  have hrun:=run_results (P:=P) (w:=w) (fn:=fn) (tmps:=a.tmps) _ vs rfl h1 h3 (by rw [← h1,hl]; exact Nat.le_of_ble_eq_true hr8)
  refine ⟨.tuple vs.toArray,ow,hren hd s,?_,hold,key',hgh,hres _ _ (by simp only [RF]; exact ⟨_,rfl,h2⟩)⟩
  rw [hrun]
  congr 1
  match vs,hl with
  | [],_=>rfl
  | [t],hl =>
   exfalso
   match xs,hl,hne with
   | [x],_,hne=>exact hne x rfl
  | _::_::_,_=>rfl
 ·rename_i h; cases h
def pendH (P:Program) (T:List TI) (fn:Func) (m:List PO) (k:Nat) (cf:Cf) (hs:List Hn) (s:List Nat):Option (FV×List PO×List Prop) :=
 match pk P T k cf hs with
 | some (⟨[],ex,st⟩,ob)=>(match ex,presH T st fn.results.toList s with
  | .exit _,_=>none
  | _,some r=>bif nodup s&&ghOk s st.m 0 m&&((renM st.m s s).map nslO).all noGh then some (r,(renM st.m s s).map nslO,ob) else none
  | _,none=>none)
 | _=>none
theorem pendH_sound (hT:TOk P T) (hm:P.follows .mixedOrders=true) {fn:Func} {m:List PO} (k:Nat) {ks:List Fr} {ex:Ex} {st:PS} {hs:List Hn} (s:List Nat) {ob:List Prop} {r:FV} {m':List PO} (h:pendH P T fn m k ⟨ks,ex,st⟩ hs s=some (r,m',ob)) (hnn:fn.ntmps=n) (hn:st.f.length=n) (hob:AllP ob):RunE P n (FinH P fn m r m') ks ex st:=by
 subst hnn
 unfold pendH at h
 split at h
 ·rename_i ex' st' ob1 h1
  split at h
  ·cases h
  ·rename_i r' hne hr
   obtain ⟨hb,h⟩:=cond_some h
   simp only [Bool.and_eq_true] at hb
   simp at h
   obtain ⟨rfl,rfl,rfl⟩:=h
   exact pk_sound (cf:=⟨ks,ex,st⟩) hT hm FinH.kc k h1 hn hob fun _=>FinH.of hT (fun id e=>hne id e) hb.1.1 hb.1.2 hr rfl hb.2
  ·cases h
 ·cases h
def fnOkH (fn:Func) (k:Nat) (m:List PO):Bool:=!(fn.name == "runtime.NumGoroutine")&&Nat.ble k fn.ntmps&&m.all PO.live
theorem retH_run {f:FuncId} {fn:Func} {c:Code} {args:List FV} {m:List PO} {r:FV} {m':List PO} (hf:P.funcs[f]?=some fn) (hb:fn.body=some c) (hc:fnOkH fn args.length m=true) (hnn:fn.ntmps=n) (h:RunE P n (FinH P fn m r m') [.s c] .normal (startH n args m)):RetH P f args m r m':=by
 subst hnn
 simp only [fnOkH,Bool.and_eq_true,Bool.not_eq_true'] at hc
 have hle:args.length≤fn.ntmps:=Nat.le_of_ble_eq_true hc.1.2
 refine ⟨⟨fn,hf,hc.1.1,by rw [hb]; rfl⟩,fun cx hd vs S0 hargs=>?_⟩
 refine calls_of_wp hf hb (wp_mono (h ⟨cx.w,cx.own,cx.ow,hd⟩ _ cx.w (start_simH hle S0 hc.2 hargs)) ?_)
 rintro e a' w' ⟨ex,st',rfl,⟨hex,hgh,hr⟩,S⟩
 have hdf:a'.defers=[]:=by obtain ⟨_,_,_,S⟩:=S; exact S.defers
 obtain ⟨v,ow',hd',f1,f2,f3,f4,f5⟩:=hr ⟨cx.w,cx.own,cx.ow,hd⟩ a' w' S
 have hng:SimH cx m' w' ow' hd':=by
  refine ⟨⟨f3.below.os,f3.below.tape,f3.below.output,f3.below.size,f3.below.block⟩,f3.fresh,fun l o ho=>?_,f3.dist⟩
  have h1:=f3.objs l o ho
  have h2:=List.all_eq_true.1 hgh o (List.mem_of_getElem? ho)
  cases o with
  | gh k x=>simp [noGh] at h2
  | box cs=>exact h1
  | row ty sz xs=>exact h1
  | cu q fs=>exact h1
  | free=>trivial
  | none=>trivial
 have h6:∀ l,al m l=true→al m' l=true∧hd' l=hd l:=by
  intro l hl
  refine f4 l ?_
  unfold al at hl
  rcases Nat.lt_or_ge l m.length with h' | h'
  ·exact h'
  ·rw [List.getElem?_eq_none h'] at hl; cases hl
 cases ex with
 | normal=>exact ⟨hdf,v,f1,v,ow',hd',rfl,f2,hng,h6,f5⟩
 | ret=>exact ⟨hdf,v,f1,v,ow',hd',rfl,f2,hng,h6,f5⟩
 | exit id=>exact absurd rfl (hex id)
end
end Go.Proofs.YtocchemnfpnmeaaDoor.pv
