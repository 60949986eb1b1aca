/- From an argument of a law to plain data: what represents a value of a shape is, in pure values, some typed datum. -/
import Derived.Test.YtocchemnfpnmeaaDoorQp
import Derived.Test.YtocchemnfpnmeaaDoorRep
namespace Go.Proofs.YtocchemnfpnmeaaDoor.pv
set_option linter.all false
open Go.RowKit Go.Proofs.YtocchemnfpnmeaaDoor.rep
def Br {α:Type} (s:Sh) (g:α→List PV) (ok:α→Prop):Prop:=∀ (w:World) (x:s.T) (cs:List Value),Rep w s x cs→∃ a:α,ok a∧RL (fun _=>false) w (g a) cs
theorem br_int (k:IntKind):Br (.int k) (fun a=>[eI k a]) (fun a=>(Lit.int k a).wf=true):=by
 intro w x cs h
 obtain ⟨rfl,h2⟩:=h
 exact ⟨x,h2,by simp only [RL]; exact ⟨_,_,rfl,⟨rfl,rfl⟩,rfl,rfl⟩⟩
theorem br_bool:Br .bool (fun a=>[eB a]) (fun _=>True):=by
 intro w x cs h
 have:cs=[.bool x]:=h
 subst this
 exact ⟨x,trivial,by simp only [RL]; exact ⟨_,_,rfl,⟨rfl,rfl⟩,rfl,rfl⟩⟩
theorem br_str:Br .str (fun a=>[eS a]) (fun a=>a.size≤140737488351232):=by
 intro w x cs h
 obtain ⟨rfl,h2⟩:=h
 exact ⟨x,h2,by simp only [RL]; exact ⟨_,_,rfl,⟨rfl,rfl⟩,rfl,rfl⟩⟩
theorem br_unit:Br .unit (fun _:Unit=>[]) (fun _=>True):=by
 intro w x cs h
 have:cs=[]:=h
 subst this
 exact ⟨(),trivial,by simp [RL]⟩
theorem br_pair {α β:Type} {a b:Sh} {g:α→List PV} {g':β→List PV} {ok:α→Prop} {ok':β→Prop} (h1:Br a g ok) (h2:Br b g' ok'):Br (.pair a b) (fun p:α×β=>g p.1++g' p.2) (fun p=>ok p.1∧ok' p.2):=by
 rintro w ⟨x,y⟩ cs ⟨c1,c2,rfl,r1,r2⟩
 obtain ⟨p,o1,q1⟩:=h1 w x c1 r1
 obtain ⟨q,o2,q2⟩:=h2 w y c2 r2
 exact ⟨(p,q),⟨o1,o2⟩,q1.append q2⟩
theorem br_map {α β:Type} {s:Sh} {g:α→List PV} {g':β→List PV} {ok:α→Prop} {ok':β→Prop} (h:Br s g ok) (φ:α→β) (h':∀ a,ok a→g' (φ a)=g a∧ok' (φ a)):Br s g' ok':=by
 intro w x cs hr
 obtain ⟨a,o,q⟩:=h w x cs hr
 obtain ⟨e,o'⟩:=h' a o
 exact ⟨φ a,o',by rw [e]; exact q⟩
def okL {α:Type} (by_:Nat) (ok:α→Prop) (l:List α):Prop:=l.length*by_≤140737488351232∧∀ a∈l,ok a
theorem br_slice {α:Type} {by_:Nat} {e:Sh} {f:α→PV} {ok:α→Prop} (h:Br e (fun a=>pcells (f a)) ok) (hf:∀ a,isTup (f a)=false) (hs:0<e.size):Br (.slice by_ e) (fun l=>[eL f l]) (okL by_ ok):=by
 intro w xs cs hr
 rcases hr with ⟨rfl,rfl⟩ | ⟨b,off,cap,sp,rfl,hl,hm,hby,hsp,hi⟩
 ·refine ⟨[],⟨by simp,by simp⟩,?_⟩
  simp only [RL,eL,R]
  exact ⟨_,_,rfl,⟨none,0,rfl,by simp,by simp,.inl rfl⟩,rfl,rfl⟩
 ·have hx:∀ i,i<xs.length→∃ a:α,∃ cs':List Value,cs'.length=e.size∧(∀ j,j<cs'.length→w.cell? ⟨b,off+(i*e.size+j),none⟩=cs'[j]?)∧ok a∧RL (fun _=>false) w (pcells (f a)) cs':=by
   intro i hil
   obtain ⟨cs',h1,h2,h3⟩:=hi i hil
   obtain ⟨a,o,q⟩:=h w _ cs' h3
   exact ⟨a,cs',h1,h2,o,q⟩
  obtain ⟨l,hll,hp⟩:=exists_list xs.length _ hx
  refine ⟨l,⟨by rw [hll]; exact hby,fun a ha=>?_⟩,?_⟩
  ·obtain ⟨i,hi1,rfl⟩:=List.mem_iff_getElem.1 ha
   obtain ⟨_,_,_,o,_⟩:=hp i hi1
   exact o
  ·simp only [RL,eL,R]
   refine ⟨_,_,rfl,⟨some ⟨b,off,sp⟩,cap,by rw [List.length_map,hll],by rw [List.length_map,hll]; exact hl,hm,?_⟩,rfl,rfl⟩
   by_cases h0:l=[]
   ·left; simp [h0]
   ·right
    have hpos:0<xs.length:=by rw [← hll]; exact List.length_pos_iff.2 h0
    obtain ⟨rfl,hb⟩:=hsp hpos hs
    -- the cells,element by element
    have go:∀ (l':List α) (k:Nat),(∀ i (hi:i<l'.length),∃ cs':List Value,cs'.length=e.size∧(∀ j,j<cs'.length→w.cell? ⟨b,off+((k+i)*e.size+j),none⟩=cs'[j]?)∧ok l'[i]∧RL (fun _=>false) w (pcells (f l'[i])) cs') →
      ∃ cells:List Value,w.rangeAt b (off+k*e.size) cells∧RE (fun _=>false) w e.size (l'.map f) cells:=by
     intro l'
     induction l' with
     | nil=>intro k _; exact ⟨[],fun j v hv=>by simp at hv,by simp [RE]⟩
     | cons a l' ih =>
      intro k hp
      obtain ⟨cs',h1,h2,h3,h4⟩:=hp 0 (by simp)
      obtain ⟨cells,r1,r2⟩:=ih (k+1) (fun i hi=>by
       obtain ⟨cs',q1,q2,q3,q4⟩:=hp (i+1) (by simpa using hi)
       refine ⟨cs',q1,fun j hj=>?_,by simpa using q3,by simpa using q4⟩
       rw [show k+1+i=k+(i+1) by omega]; exact q2 j hj)
      refine ⟨cs'++cells,fun j v hv=>?_,?_⟩
      ·rw [List.getElem?_append] at hv
       split at hv
       ·rename_i hj
        have:=h2 j hj
        rw [hv] at this
        rw [← this]
        simp [Nat.add_assoc]
       ·rename_i hj
        have:=r1 (j-cs'.length) v hv
        rw [← this]
        congr 2
        rw [Nat.succ_mul]; omega
      ·simp only [List.map_cons,RE]
       simp only [List.getElem_cons_zero] at h4
       obtain ⟨u,u1,u2⟩:=R_of_cells h4 (hf a)
       refine ⟨u,cells,by rw [u1],by rw [← Array.length_toList,u1]; exact h1,by rw [u1]; exact RL.one h4,u2,r2⟩
    obtain ⟨cells,r1,r2⟩:=go l 0 (fun i hi=>by obtain ⟨cs',q⟩:=hp i hi; exact ⟨cs',by simpa using q⟩)
    exact ⟨b,off,e.size,cells,rfl,hb,trivial,by simpa using r1,r2⟩
theorem arg_one {α:Type} {s:Sh} {f:α→PV} {ok:α→Prop} {w:World} {v:Value} (h:Br s (fun a=>[f a]) ok) (hs:s.isAgg=false) (ha:Arg w s v):∃ a:α,ok a∧R (fun _=>false) w (f a) v:=by
 obtain ⟨x,cs,hr,hv⟩:=ha
 rw [hs] at hv
 simp at hv
 subst hv
 obtain ⟨a,o,q⟩:=h w x _ hr
 simp only [RL] at q
 obtain ⟨v',r,e,q,_⟩:=q
 simp at e
 obtain ⟨rfl,_⟩:=e
 exact ⟨a,o,q⟩
theorem arg_agg {α:Type} {s:Sh} {g:α→List PV} {ok:α→Prop} {w:World} {v:Value} (h:Br s g ok) (hs:s.isAgg=true) (ha:Arg w s v):∃ a:α,ok a∧R (fun _=>false) w (.agg (g a)) v:=by
 obtain ⟨x,cs,hr,hv⟩:=ha
 rw [hs] at hv
 simp at hv
 subst hv
 obtain ⟨a,o,q⟩:=h w x _ hr
 exact ⟨a,o,by simp only [R]; exact ⟨cs,rfl,q⟩⟩
theorem RT_nil {w:World}:RT (fun _=>false) w [] []:=by simp only [RT]
theorem RT_cons {w:World} {x:PV} {xs:List PV} {v:Value} {vs:List Value} (h:R (fun _=>false) w x v) (h':RT (fun _=>false) w xs vs):RT (fun _=>false) w (x::xs) (v::vs):=by simp only [RT]; exact ⟨_,_,rfl,h,h'⟩
theorem walk_of {P:Program} {f:FuncId} {args:List PV} {vs:List Value} {w:World} (h:Ret P f args (eB true)) (ha:RT (fun _=>false) w args vs):Calls P f vs.toArray w (help.Ret (.bool true) w):=by
 refine (h.2 (fun _=>false) w vs (fun _ _=>rfl) ha).mono fun e w' ⟨v,he,hb,hr⟩=>?_
 simp only [eB,R] at hr
 exact ⟨by rw [he,hr.1],hb⟩
end Go.Proofs.YtocchemnfpnmeaaDoor.pv
