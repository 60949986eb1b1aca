/- Regions and code, run by the program; what it says holds of the machine. -/
import Derived.Test.YtocchemnfpnmeaaDoorQk
namespace Go.Proofs.YtocchemnfpnmeaaDoor.pv
set_option linter.all false
open Go.RowKit
def pGuard (ops:Array Oper) (f:List FV) (o:Oper) (hs:List Hn):Option (Bool×List FV×List Prop×List Hn) :=
 match o.guard with
 | none=>some (true,f,[],hs)
 | some (j,want)=>match (ops[j]?).bind (·.dst) with
  | some d=>(match f[d]? with
   | some (.d (.v (.bool b)))=>(match hs with
    | .t br::hs=>some (br == want,f.set d (.d (.v (.bool br))),[b=br],hs)
    | .c::hs=>some (b == want,f,[],hs)
    | _=>none)
   | some (.d (.tup []))=>some (false,f,[],hs)
   | _=>none)
  | none=>none
structure POut where
 st:PS
 L:List Fp
 ob:List Prop
 hs:List Hn
def pops (P:Program) (T:List TI) (ops:Array Oper) (base:Nat):List Oper→Nat→PS→List Hn→Option POut
 | [],_,st,hs=>some ⟨st,[],[],hs⟩
 | o::r,i,st,hs=>match pGuard ops st.f o hs with
  | some (true,f,ob,hs)=>(match pactW P T (ev f) st.m (base+5*i) o.op hs with
   | some x=>(match pops P T ops base r (i+1) ⟨putF f o.dst x.r,updM st.m x.U⟩ x.hs with
    | some y=>some ⟨y.st,⟨i,true,x.r,x.U,x.F⟩::y.L,ob++(x.ob++y.ob),y.hs⟩
    | none=>none)
   | none=>none)
  | some (false,f,ob,hs)=>(match pops P T ops base r (i+1) ⟨putF f o.dst fundef,st.m⟩ hs with
    | some y=>some ⟨y.st,⟨i,false,fundef,[],[]⟩::y.L,ob++y.ob,y.hs⟩
    | none=>none)
  | none=>none
def Tri (P:Program) (n:Nat) (c:Code) (st:PS) (Q:Ex→PS→Prop):Prop :=
 ∀ (w0:Cx) (a:Act) (w:World),Sim n w0 st a w→c.wp P (fun e a' w'=>∃ ex st',e=Ex.exit' ex∧Q ex st'∧Sim n w0 st' a' w') a w
structure ROut where
 ex:Ex
 st:PS
 ob:List Prop
 hs:List Hn
def pregion (P:Program) (T:List TI) (ops:Array Oper) (draw:Bool) (st:PS) (hs:List Hn):Option ROut :=
 match pops P T ops st.m.length ops.toList 0 ⟨st.f,st.m++List.replicate (5*ops.size) .free⟩ hs with
 | some y=>bif dstOk st.f.length ops&&(!draw||(edgesOk ops&&pairs ops y.L)) then some ⟨.normal,y.st,y.ob,y.hs⟩ else none
 | none=>none
def peval (P:Program) (T:List TI):Code→PS→List Hn→Option ROut
 | .skip,st,hs=>some ⟨.normal,st,[],hs⟩
 | .region _ ops draw,st,hs=>pregion P T ops draw st hs
 | .seq a b,st,hs=>match peval P T a st hs with
  | some ⟨.normal,st,ob,hs⟩=>(match peval P T b st hs with
   | some y=>some ⟨y.ex,y.st,ob++y.ob,y.hs⟩
   | none=>none)
  | x=>x
 | .cond c a b,st,hs=>match c with
  | .tmp d=>(match st.f[d]? with
   | some (.d (.v (.bool v)))=>(match hs with
    | .t br::hs=>(match (bif br then peval P T a ⟨st.f.set d (.d (.v (.bool br))),st.m⟩ hs else peval P T b ⟨st.f.set d (.d (.v (.bool br))),st.m⟩ hs) with
     | some y=>some ⟨y.ex,y.st,(v=br)::y.ob,y.hs⟩
     | none=>none)
    | .c::hs=>(bif v then peval P T a st hs else peval P T b st hs)
    | _=>none)
   | _=>none)
  | _=>none
 | .block id a,st,hs=>match peval P T a st hs with
  | some ⟨.exit j,st,ob,hs⟩=>some ⟨bif Nat.beq j id then .normal else .exit j,st,ob,hs⟩
  | x=>x
 | .exit id,st,hs=>some ⟨.exit id,st,[],hs⟩
 | .ret,st,hs=>some ⟨.ret,st,[],hs⟩
 | .label _,st,hs=>some ⟨.normal,st,[],hs⟩
 | .loop a,st,hs=>(match hs with
  | .k s ks ex st'::hs=>bif nodup s&&Nat.beq st'.f.length st.f.length then some ⟨ex,st',[Tri P st.f.length (.loop a) (st.keep s ks) (fun e x=>e=ex∧x=st')],hs⟩ else none
  | _=>none)
 | _,_,_=>none
section
variable {P:Program} {T:List TI} {n:Nat} {w0:Cx} {st:PS} {a:Act} {w:World}
theorem set_self {f:List FV} {d:Nat} {x:FV} (h:f[d]?=some x):f.set d x=f:=by
 obtain ⟨h1,h2⟩:=List.getElem?_eq_some_iff.1 h
 rw [← h2]; exact List.set_getElem_self h1
theorem pGuard_sound {ops:Array Oper} {f f':List FV} {o:Oper} {hs hs':List Hn} {b:Bool} {ob:List Prop} (h:pGuard ops f o hs=some (b,f',ob,hs')) (hob:AllP ob):wantedP ops f o=some b∧f'=f:=by
 unfold pGuard at h
 unfold wantedP
 split at h
 ·rename_i hg
  simp at h
  obtain ⟨rfl,rfl,rfl,rfl⟩:=h
  simp only [hg]; exact ⟨trivial,trivial⟩
 ·rename_i j want hg
  simp only [hg]
  split at h
  ·rename_i d hd
   simp only [hd,List.getD_eq_getElem?_getD]
   split at h
   ·rename_i v hv
    simp only [hv,Option.getD_some]
    split at h
    ·simp at h
     obtain ⟨rfl,rfl,rfl,rfl⟩:=h
     have e:=hob.1
     subst e
     exact ⟨rfl,set_self hv⟩
    ·simp at h
     obtain ⟨rfl,rfl,rfl,rfl⟩:=h
     exact ⟨rfl,rfl⟩
    ·cases h
   ·rename_i hv
    simp only [hv,Option.getD_some]
    simp at h
    obtain ⟨rfl,rfl,rfl,rfl⟩:=h
    exact ⟨rfl,rfl⟩
   ·cases h
  ·cases h
theorem putF_length (f:List FV) (d:Option Nat) (x:FV):(putF f d x).length=f.length:=by cases d <;> simp [putF]
theorem pops_sound {ops:Array Oper} {base:Nat}:∀ (l:List Oper) (i:Nat) (st:PS) (hs:List Hn) (y:POut),pops P T ops base l i st hs=some y→(∀ j,ops[i+j]?=l[j]?)→AllP y.ob →
  PRun P T ops base st y.L y.st∧y.L.map (·.i)=List.range' i l.length∧y.st.f.length=st.f.length
 | [],i,st,hs,y,h,hl,hob=>by
  simp [pops] at h; subst h
  exact ⟨.nil _,by simp,rfl⟩
 | o::r,i,st,hs,y,h,hl,hob=>by
  have ho:ops[i]?=some o:=by have:=hl 0; simpa using this
  have hl':∀ j,ops[i+1+j]?=r[j]?:=fun j=>by have:=hl (j+1); rw [Nat.add_assoc,Nat.add_comm 1 j]; simpa using this
  simp only [pops] at h
  split at h
  ·rename_i f ob hs1 hg
   split at h
   ·rename_i x hx
    split at h
    ·rename_i z hz
     simp at h; subst h
     obtain ⟨o1,o2⟩:=AllP.app hob
     obtain ⟨o3,o4⟩:=AllP.app o2
     obtain ⟨g1,g2⟩:=pGuard_sound hg o1
     subst g2
     obtain ⟨r1,r2,r3⟩:=pops_sound r (i+1) _ _ z hz hl' o4
     refine ⟨.cons (.act st i o x.r x.U x.F ho g1 (pactW_sound hx o3)) r1,by simp [r2,List.range'],?_⟩
     rw [r3]; exact putF_length _ _ _
    ·cases h
   ·cases h
  ·rename_i f ob hs1 hg
   split at h
   ·rename_i z hz
    simp at h; subst h
    obtain ⟨o1,o2⟩:=AllP.app hob
    obtain ⟨g1,g2⟩:=pGuard_sound hg o1
    subst g2
    obtain ⟨r1,r2,r3⟩:=pops_sound r (i+1) _ _ z hz hl' o2
    refine ⟨.cons (.pass st i o ho g1) r1,by simp [r2,List.range'],?_⟩
    rw [r3]; exact putF_length _ _ _
   ·cases h
  ·cases h
theorem Tri.mono {c:Code} {Q Q':Ex→PS→Prop} (h:Tri P n c st Q) (hq:∀ ex st,Q ex st→Q' ex st):Tri P n c st Q' :=
 fun w0 a w S=>wp_mono (h w0 a w S) fun e a' w' ⟨ex,st',h1,h2,h3⟩=>⟨ex,st',h1,hq _ _ h2,h3⟩
theorem Tri.keep {c:Code} {Q:Ex→PS→Prop} {s ks:List Nat} (hs:nodup s=true) (h:Tri P n c (st.keep s ks) Q):Tri P n c st Q :=
 fun w0 a w S=>h w0 a w (S.keep s ks hs)
theorem Tri.seq {c d:Code} {Q:Ex→PS→Prop} (h:Tri P n c st (fun ex st1=>match ex with | .normal=>Tri P n d st1 Q | e=>Q e st1)):Tri P n (.seq c d) st Q:=by
 intro w0 a w S
 refine wp_seq (wp_mono (h w0 a w S) ?_)
 rintro e a' w' ⟨ex,st',rfl,h2,h3⟩
 cases ex with
 | normal=>exact h2 w0 a' w' h3
 | exit id=>exact ⟨.exit id,st',rfl,h2,h3⟩
 | ret=>exact ⟨.ret,st',rfl,h2,h3⟩
theorem Tri.block {c:Code} {id:Nat} {Q:Ex→PS→Prop} (h:Tri P n c st (fun ex st1=>match ex with | .exit j=>Q (if j=id then .normal else .exit j) st1 | e=>Q e st1)):Tri P n (.block id c) st Q:=by
 intro w0 a w S
 refine wp_block (wp_mono (h w0 a w S) ?_)
 rintro e a' w' ⟨ex,st',rfl,h2,h3⟩
 cases ex with
 | normal=>exact ⟨.normal,st',rfl,h2,h3⟩
 | exit j =>
  show Exit.inBlock id _ (.exit j) a' w'
  simp only [Exit.inBlock]
  simp only at h2
  by_cases e:j=id
  ·rw [if_pos e]
   rw [if_pos e] at h2
   exact ⟨.normal,st',rfl,h2,h3⟩
  ·rw [if_neg e]
   rw [if_neg e] at h2
   exact ⟨.exit j,st',rfl,h2,h3⟩
 | ret=>exact ⟨.ret,st',rfl,h2,h3⟩
theorem Tri.cond {c d:Code} {t:Nat} {b:Bool} {Q:Ex→PS→Prop} (hb:st.f[t]?=some (.d (.v (.bool b)))) (h:Tri P n (if b then c else d) st Q):Tri P n (.cond (.tmp t) c d) st Q:=by
 intro w0 a w S
 refine wp_cond (t:=b) ?_ (h w0 a w S)
 obtain ⟨ow,hd,_,S⟩:=S
 have:=S.eval (.tmp t)
 simp only [ev,List.getD_eq_getElem?_getD,hb,Option.getD_some,RF,R] at this
 exact this.1
theorem Tri.condC {c d:Code} {b:Bool} {Q:Ex→PS→Prop} (h:Tri P n (if b then c else d) st Q):Tri P n (.cond (.const (.bool b)) c d) st Q:=by
 intro w0 a w S
 exact wp_cond (t:=b) rfl (h w0 a w S)
theorem peval_sound (hT:TOk P T) (hm:P.follows .mixedOrders=true):∀ (c:Code) (st:PS) (hs:List Hn) (y:ROut),peval P T c st hs=some y→st.f.length=n→AllP y.ob →
  y.st.f.length=n∧Tri P n c st (fun ex st'=>ex=y.ex∧st'=y.st):=by
 intro c
 induction c with
 | skip =>
  intro st hs y h hn hob
  simp [peval] at h; subst h
  exact ⟨hn,fun w0 a w S=>wp_skip ⟨.normal,st,rfl,⟨rfl,rfl⟩,S⟩⟩
 | label l =>
  intro st hs y h hn hob
  simp [peval] at h; subst h
  exact ⟨hn,fun w0 a w S=>wp_label ⟨.normal,st,rfl,⟨rfl,rfl⟩,S⟩⟩
 | exit id =>
  intro st hs y h hn hob
  simp [peval] at h; subst h
  exact ⟨hn,fun w0 a w S=>wp_exit ⟨.exit id,st,rfl,⟨rfl,rfl⟩,S⟩⟩
 | ret =>
  intro st hs y h hn hob
  simp [peval] at h; subst h
  exact ⟨hn,fun w0 a w S=>wp_ret ⟨.ret,st,rfl,⟨rfl,rfl⟩,S⟩⟩
 | region id ops draw =>
  intro st hs y h hn hob
  simp only [peval,pregion] at h
  split at h
  ·rename_i z hz
   obtain ⟨h1,h2⟩:=cond_some h
   simp at h2; subst h2
   simp only [Bool.and_eq_true] at h1
   obtain ⟨r1,r2,r3⟩:=pops_sound _ _ _ _ z hz (fun j=>by simp) hob
   refine ⟨by rw [r3]; exact hn,fun w0 a w S=>?_⟩
   refine region_wp hT (by rw [← hn]; exact h1.1) S r1 (by rw [r2]; simp [List.range_eq_range']) (fun e=>?_) (fun a' w' S'=>⟨.normal,z.st,rfl,⟨rfl,rfl⟩,S'⟩)
   subst e
   simpa [hm] using h1.2
  ·cases h
 | seq a b iha ihb =>
  intro st hs y h hn hob
  simp only [peval] at h
  split at h
  ·rename_i st1 ob hs1 ha
   split at h
   ·rename_i z hz
    simp at h; subst h
    obtain ⟨o1,o2⟩:=AllP.app hob
    obtain ⟨l1,t1⟩:=iha st hs _ ha hn o1
    obtain ⟨l2,t2⟩:=ihb st1 _ z hz l1 o2
    refine ⟨l2,Tri.seq (t1.mono ?_)⟩
    rintro ex st' ⟨rfl,rfl⟩
    exact t2
   ·cases h
  ·rename_i hne
   obtain ⟨l1,t1⟩:=iha st hs y h hn hob
   refine ⟨l1,Tri.seq (t1.mono ?_)⟩
   rintro ex st' ⟨rfl,rfl⟩
   obtain ⟨ex,st1,ob,hs1⟩:=y
   cases ex with
   | normal=>exact absurd h (hne _ _ _)
   | exit id=>exact ⟨rfl,rfl⟩
   | ret=>exact ⟨rfl,rfl⟩
 | cond c a b iha ihb =>
  intro st hs y h hn hob
  simp only [peval] at h
  split at h
  ·rename_i d
   split at h
   ·rename_i v hv
    split at h
    ·rename_i br hs1
     split at h
     ·rename_i z hz
      simp at h; subst h
      obtain ⟨o1,o2⟩:=hob
      subst o1
      rw [set_self hv] at hz
      cases v with
      | true =>
       obtain ⟨l1,t1⟩:=iha st _ z hz hn o2
       exact ⟨l1,Tri.cond hv t1⟩
      | false =>
       obtain ⟨l1,t1⟩:=ihb st _ z hz hn o2
       exact ⟨l1,Tri.cond hv t1⟩
     ·cases h
    ·cases v with
     | true =>
      obtain ⟨l1,t1⟩:=iha st _ y h hn hob
      exact ⟨l1,Tri.cond hv t1⟩
     | false =>
      obtain ⟨l1,t1⟩:=ihb st _ y h hn hob
      exact ⟨l1,Tri.cond hv t1⟩
    ·cases h
   ·cases h
  ·cases h
 | block id a iha =>
  intro st hs y h hn hob
  simp only [peval] at h
  split at h
  ·rename_i j st1 ob hs1 ha
   simp at h; subst h
   obtain ⟨l1,t1⟩:=iha st hs _ ha hn hob
   refine ⟨l1,Tri.block (t1.mono ?_)⟩
   rintro ex st' ⟨rfl,rfl⟩
   refine ⟨?_,rfl⟩
   simp only
   by_cases e:j=id
   ·subst e; simp
   ·have:Nat.beq j id=false:=by rw [← Bool.not_eq_true]; intro h; exact e (beq_eq h)
    rw [if_neg e,this]; rfl
  ·rename_i hne
   obtain ⟨l1,t1⟩:=iha st hs y h hn hob
   refine ⟨l1,Tri.block (t1.mono ?_)⟩
   rintro ex st' ⟨rfl,rfl⟩
   obtain ⟨ex,st1,ob,hs1⟩:=y
   cases ex with
   | normal=>exact ⟨rfl,rfl⟩
   | exit id=>exact absurd h (hne _ _ _ _)
   | ret=>exact ⟨rfl,rfl⟩
 | loop a iha =>
  intro st hs y h hn hob
  simp only [peval] at h
  split at h
  ·rename_i s ks ex st' hs1
   obtain ⟨h1,h2⟩:=cond_some h
   simp at h2; subst h2
   simp only [Bool.and_eq_true] at h1
   refine ⟨by rw [beq_eq h1.2]; exact hn,Tri.keep (ks:=ks) h1.1 ?_⟩
   have:=hob.1
   rw [hn] at this
   exact this
  ·cases h
 | rangeFunc=>intro st hs y h; simp [peval] at h
 | scope=>intro st hs y h; simp [peval] at h
 | goto=>intro st hs y h; simp [peval] at h
 | refuse=>intro st hs y h; simp [peval] at h
end
end Go.Proofs.YtocchemnfpnmeaaDoor.pv
