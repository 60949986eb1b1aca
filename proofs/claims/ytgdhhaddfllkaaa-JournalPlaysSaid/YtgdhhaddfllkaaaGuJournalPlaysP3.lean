/- What the functions compute (part 3): written by gen.py. -/
import Derived.Test.YtgdhhaddfllkaaaGuJournalPlaysP2
set_option maxRecDepth 100000
set_option linter.all false
namespace Go.Proofs.Ytgdhhaddfllkaaa.pv
open Go.RowKit
theorem GbB (n:Nat) (a b r:Int) (h:V9 n a b=some r):Ret Try.prog 65 [(eI .i64) a,(eI .i64) b] ((eI .i64) r):=by
 refine ret_run (n:=11) (fn:=Try.f65) (c:=bodyOf Try.f65) (by kernel_rfl) (by kernel_rfl) (by kernel_rfl) (by kernel_rfl) ?_
 have hF:KC 11 (FinR Try.prog Try.f65 ((eI .i64) r)):=FinR.kc' (by kernel_rfl)
 unfold V9 at h
 obtain rfl:=Option.some.inj h
 exact pend_sound TTok mix 5 (hs:=[]) (by kernel_rfl) (by kernel_rfl) (by kernel_rfl) (.cons (show (256:Int)≠0 by decide) (.cons (show (256:Int)≠0 by decide) .nil))
/- ringhall/lift.part$1 -/
def YP (n:Nat) (b c:Ga) (a:Int):Option (Int) :=
 (V9 n a b.fSector).bind fun (d:(Int)) =>
 (V9 n a c.fSector).bind fun (e:(Int)) =>
 some (wi .i64 (d-e))
theorem Gav (n:Nat) (b d:Ga) (a r:Int) (h:YP n b d a=some r):Ret Try.prog 64 [Gb b,Gb d,.iptr [.v (.int .i64 a)] 0] ((eI .i64) r):=by
 refine ret_run (n:=15) (fn:=Try.f64) (c:=bodyOf Try.f64) (by kernel_rfl) (by kernel_rfl) (by kernel_rfl) (by kernel_rfl) ?_
 have hF:KC 15 (FinR Try.prog Try.f64 ((eI .i64) r)):=FinR.kc' (by kernel_rfl)
 unfold YP at h
 obtain ⟨e,f,h⟩:=bind_some h
 obtain ⟨g,i,h⟩:=bind_some h
 obtain rfl:=Option.some.inj h
 exact pend_sound TTok mix 5 (hs:=[.c,.c,.r ((eI .i64) e),.c,.c,.r ((eI .i64) g)]) (by kernel_rfl) (by kernel_rfl) (by kernel_rfl) (.cons (GbB n a b.fSector _ f) (.cons (GbB n a d.fSector _ i) .nil))
inductive VV where
 | x0 (a:(List (Int×(List Int))))
def Gb8:VV→Ex
 | .x0 _=>.exit 0
def Gb9 (c:(List Ga)) (a:Int):VV→PS
 | .x0 b=>⟨(dd::dd::dd::.ref 0 0::dd::dd::.srf 1::(dds 47 [])),[.box [di a],.cu (mapR (fun x:Int=>Value.int .i64 x) ((eL (eI .u8))) b) []]⟩
def Gca (a:(List Ga)) (b c:Int) (e:(List (Int×(List Int)))):PS:=⟨(dd::dd::dd::.ref 0 0::dd::dd::.srf 1::dd::dd::dd::dd::dd::dd::.d (.sl (a.map Gb))::di (a.length:Int)::di c::(dds 38 [])),[.box [di b],.cu (mapR (fun x:Int=>Value.int .i64 x) ((eL (eI .u8))) e) []]⟩
def Zi (n:Nat) (a:(List Ga)) (e:Int):Nat→Int→(List (Int×(List Int)))→Option VV
 | 0,_,_=>none
 | k+1,b,c =>
  if b<(a.length:Int) then
   (getI a b).bind fun (d:Ga) =>
   Zi n a e k (wi .i64 (b+1)) (mput c d.fSector d.fData)
  else
   some (.x0 c)
theorem MZ {Fi:Ex→PS→Prop} (hF:KC 54 Fi) (ks:List Fr) (n:Nat) (i:(List Ga)) (j:Int)  : ∀ (k:Nat) (d:Int) (a:(List (Int×(List Int)))) (o:VV),Zi n i j k d a=some o→RunE Try.prog 54 Fi ks (Gb8 o) (Gb9 i j o)→RunE Try.prog 54 Fi (.l k (cP (cB (cR (cL (cR (cR (bodyOf Try.f57)))))))::ks) .normal (Gca i j d a)
 | 0,d,a,o,h,q=>by rw [Zi] at h; cases h
 | k+1,d,a,o,h,q=>by
  rw [Zi] at h
  by_cases m:d<(i.length:Int)
  ·rw [if_pos m] at h
   obtain ⟨b,p,h⟩:=bind_some h
   exact pkk_sound TTok mix hF 13 (hs:=[.t true,.y (Gb b),.c,.c,.c,.e 52 [1] (dd) [(1,.cu (mapR (fun x:Int=>Value.int .i64 x) ((eL (eI .u8))) (mput a b.fSector b.fData)) [])]]) (ts:=[]) (s:=[0,1]) (l:=[3,6,13,14,15]) (by kernel_rfl) (by kernel_rfl) (.cons (dt m) (.cons (getI_ob (f:=Gb) p) (.cons (show 0+3≤3 by decide) (.cons (rput (P:=Try.prog) (T:=TT) (t:=119) (kt:=3) (et:=42) (l:=1) (x:=(.tmp 19)) (y:=(.tmp 21)) (z:=(.tmp 23)) (f:=(fun x:Int=>Value.int .i64 x)) (g:=((eL (eI .u8)))) (E:=a) (k:=b.fSector) (v:=b.fData) (kv_v _) (by kernel_rfl) (KOk.kw (KOk.int (by kernel_rfl))) (fun ow w u h=>slone ow w u h)) .nil)))) (MZ hF ks n i j k (wi .i64 (d+1)) (mput a b.fSector b.fData) _ h q)
  ·rw [if_neg m] at h
   cases h
   exact pkk_sound TTok mix hF 8 (hs:=[.t false]) (ts:=[]) (s:=[0,1]) (l:=[3,6]) (by kernel_rfl) (by kernel_rfl) (.cons (df m) .nil) q
inductive Jl where
 | x0 (a:(List Ga))
def M0:Jl→Ex
 | .x0 _=>.exit 2
def M1 (a:Int):Jl→PS
 | .x0 b=>⟨(dd::dd::dd::.ref 0 0::dd::dd::dd::dd::dd::.srf 1::(dds 44 [])),[.box [di a],.row 86 3 (b.map Gb)]⟩
def Gcb (a:Int) (b:(List Ga)) (c:(List (Int×(List Int)))):PS:=⟨(dd::dd::dd::.ref 0 0::dd::dd::dd::dd::dd::.srf 1::(dds 16 (.ref 2 0::(dds 27 [])))),[.box [di a],.row 86 3 (b.map Gb),.cu (itR (fun x:Int=>Value.int .i64 x) ((eL (eI .u8))) c none) []]⟩
def Zj (n:Nat) (b:Int):Nat→(List Ga)→(List (Int×(List Int)))→Option Jl
 | 0,_,_=>none
 | k+1,a,[] =>
  some (.x0 a)
 | k+1,a,(c,d)::e =>
  (GC n d).bind fun (f:((List Int))) =>
  (app 40 a ([(Ga.mk c f false)])).bind fun (g:(List Ga)) =>
  Zj n b k g e
theorem M2 {Fi:Ex→PS→Prop} (hF:KC 54 Fi) (ks:List Fr) (n:Nat) (a:Int)  : ∀ (k:Nat) (b:(List Ga)) (i:(List (Int×(List Int)))),(∀ ord,ord.Perm i→∃ o,Zj n a k b ord=some o∧RunE Try.prog 54 Fi ks (M0 o) (M1 a o))→RunE Try.prog 54 Fi (.l k (cP (cB (cR (cL (cR (cR (cR (cR (bodyOf Try.f57)))))))))::ks) .normal (Gcb a b i)
 | 0,b,i,h=>by obtain ⟨o,h,_⟩:=h _ (List.Perm.refl _); rw [Zj] at h; cases h
 | k+1,b,i,h=>by
  refine pkk_sound TTok mix hF 2 (hs:=[]) (ts:=[]) (s:=[0,1,2]) (l:=[3,9,26]) (by kernel_rfl) (by kernel_rfl) .nil (nd_next (c:=cL (cP (cB (cR (cL (cR (cR (cR (cR (bodyOf Try.f57)))))))))) (st:=⟨(dd::dd::dd::.ref 0 0::dd::dd::dd::dd::dd::.srf 1::(dds 16 (.ref 2 0::(dds 27 [])))),[.box [di a],.row 86 3 (b.map Gb),.cu (itR (fun x:Int=>Value.int .i64 x) ((eL (eI .u8))) i none) []]⟩) (f:=(fun x:Int=>Value.int .i64 x)) (g:=((eL (eI .u8)))) (it:=26) (d1:=27) (d2:=28) (l:=2) (rest:=i) (cur:=none) (ks:=(.s (cR (cP (cB (cR (cL (cR (cR (cR (cR (bodyOf Try.f57))))))))))::.l k (cP (cB (cR (cL (cR (cR (cR (cR (bodyOf Try.f57)))))))))::ks)) (by kernel_rfl) (by kernel_rfl) (by kernel_rfl) (by kernel_rfl) (fun hr=>?_) (fun A p B hr=>?_))
  ·obtain ⟨o,h,q⟩:=h [] (by rw [hr])
   rw [Zj] at h
   cases h
   exact pkk_sound TTok mix hF 5 (hs:=[.c]) (ts:=[]) (s:=[0,1]) (l:=[3,9]) (by kernel_rfl) (by kernel_rfl) .nil q
  ·obtain ⟨t,j⟩:=p
   obtain ⟨u,hvt⟩:∃ q,q=A++B:=⟨_,rfl⟩
   rw [← hvt]
   have h:∀ ord,ord.Perm u→∃ o,Zj n a (k+1) b ((t,j)::ord)=some o∧RunE Try.prog 54 Fi ks (M0 o) (M1 a o):=fun ord hp=>h _ (by rw [hr]; rw [hvt] at hp; exact (List.Perm.cons _ hp).trans List.perm_middle.symm)
   simp only [Zj] at h
   obtain ⟨y,z⟩:∃ q,GC n j=some q:=by
    obtain ⟨o,ho,_⟩:=h _ (List.Perm.refl _)
    obtain ⟨q,hq,_⟩:=bind_some ho
    exact ⟨q,hq⟩
   simp only [z,Option.bind_some] at h
   obtain ⟨a0,m⟩:∃ q,app 40 b ([(Ga.mk t y false)])=some q:=by
    obtain ⟨o,ho,_⟩:=h _ (List.Perm.refl _)
    obtain ⟨q,hq,_⟩:=bind_some ho
    exact ⟨q,hq⟩
   simp only [m,Option.bind_some] at h
   exact pkk_sound TTok mix hF 8 (hs:=[.c,.e 3 [2] (.d (.tup [.v (.int .i64 t),.sl (j.map (eI .u8))])) [(2,.cu (itR (fun x:Int=>Value.int .i64 x) ((eL (eI .u8))) u none) [])],.r ((eL (eI .u8)) y),.bd,.w (a0.map Gb)]) (ts:=[]) (s:=[0,58,2]) (l:=[3,9,26]) (by kernel_rfl) (by kernel_rfl) (.cons (rentry (P:=Try.prog) (T:=TT) (l:=2) (x:=(.tmp 26)) (f:=(fun x:Int=>Value.int .i64 x)) (g:=((eL (eI .u8)))) (rest:=u) (k:=t) (v:=j) rfl) (.cons (ZN n j _ z) (.cons (app_ob (f:=Gb) (s:=3) m (fun _=>rfl)).1 (.cons (app_ob (f:=Gb) (s:=3) m (fun _=>rfl)).2.1 (.cons (app_ob (f:=Gb) (s:=3) m (fun _=>rfl)).2.2.1 (.cons (app_ob (f:=Gb) (s:=3) m (fun _=>rfl)).2.2.2 .nil)))))) (M2 hF ks n a k a0 u h)
/- ringhall/lift.part -/
def VY (n:Nat) (a:(List Ga)) (b:Int):Option (List (Int×(List Int))) :=
 (Zi n a b n 0 ([]:(List (Int×(List Int))))).bind fun c=>match c with
 | .x0 d =>
  some d
def XB (n:Nat) (c:(List Ga)) (b:Int) (d:(List (Int×(List Int)))):Option ((List Ga)×Int) :=
 (Zi n c b n 0 ([]:(List (Int×(List Int))))).bind fun e=>match e with
 | .x0 i =>
  (Zj n b n ([]:List Ga) d).bind fun f=>match f with
  | .x0 g =>
   (SW n g (fun (y0 y1:Ga)=>YP n y0 y1 b)).bind fun (a:((List Ga))) =>
   if (a.length:Int) > 0 then
    if 0≤(wi .i64 ((a.length:Int)-1))∧((wi .i64 ((a.length:Int)-1))).toNat<a.length then
     (a[((wi .i64 ((a.length:Int)-1))).toNat]?).bind fun (h:Ga) =>
     some (a,h.fSector)
    else none
   else
    some (a,b)
theorem Gcf (n:Nat) (j:(List Ga)) (i:Int) (E:(List (Int×(List Int)))) (r:(List Ga)×Int) (k:VY n j i=some E) (h:∀ ord,ord.Perm E→XB n j i ord=some r):Ret Try.prog 57 [(eL Gb) j,(eI .i64) i] (.tup [(eL Gb) r.1,(eI .i64) r.2]):=by
 refine ret_run (n:=54) (fn:=Try.f57) (c:=bodyOf Try.f57) (by kernel_rfl) (by kernel_rfl) (by kernel_rfl) (by kernel_rfl) ?_
 have hF:KC 54 (FinR Try.prog Try.f57 (.tup [(eL Gb) r.1,(eI .i64) r.2])):=FinR.kc' (by kernel_rfl)
 unfold VY at k
 simp only [XB] at h
 obtain ⟨a1,w,k⟩:=bind_some k
 simp only [w,Option.bind_some] at h
 refine pkk_sound TTok mix hF 9 (hs:=[.e 15 [15] (.srf 15) [(15,.cu (mapR (fun x:Int=>Value.int .i64 x) ((eL (eI .u8))) ([]:(List (Int×(List Int))))) [])],.u (di (j.length:Int)),.n n]) (ts:=[]) (s:=[0,15]) (l:=[3,6,13,14,15]) (by kernel_rfl) (by kernel_rfl) (.cons (rmake (P:=Try.prog) (T:=TT) (t:=119) (nl:=15) (fun x:Int=>Value.int .i64 x) ((eL (eI .u8)))) (.cons (len_ob (f:=Gb) (l:=j)) .nil)) (MZ hF (.b 0::.s (cR (cR (cR (bodyOf Try.f57))))::[]) n j i n 0 ([]:(List (Int×(List Int)))) _ w ?_)
 cases a1 with
 | x0 p =>
  try dsimp only at k h
  obtain hE:=Option.some.inj k; subst hE
  refine pkk_sound TTok mix hF 8 (hs:=[.e 12 [1,12] (.ref 12 0) [(1,.none),(12,.cu (itR (fun x:Int=>Value.int .i64 x) ((eL (eI .u8))) p none) [])],.n n]) (ts:=[(9,86,3)]) (s:=[0,17,12]) (l:=[3,9,26]) (by kernel_rfl) (by kernel_rfl) (.cons (rrange (P:=Try.prog) (T:=TT) (t:=119) (kt:=3) (et:=42) (l:=1) (nl:=12) (x:=(.tmp 25)) (f:=(fun x:Int=>Value.int .i64 x)) (g:=((eL (eI .u8)))) (E:=p) (by kernel_rfl) (by decide)) .nil) (M2 hF (.b 2::.s (cR (cR (cR (cR (cR (bodyOf Try.f57))))))::[]) n i n ([]:List Ga) p (fun ord hp=>?_))
  obtain ⟨z,a2,h⟩:=bind_some (h ord hp)
  refine ⟨z,a2,?_⟩
  cases z with
  | x0 m =>
   try dsimp only at h
   obtain ⟨a,a0,h⟩:=bind_some h
   by_cases o:(a.length:Int) > 0
   ·rw [if_pos o] at h
    by_cases q:0≤(wi .i64 ((a.length:Int)-1))∧((wi .i64 ((a.length:Int)-1))).toNat<a.length
    ·rw [if_pos q] at h
     obtain ⟨a3,a4,h⟩:=bind_some h
     obtain rfl:=Option.some.inj h
     exact pend_sound TTok mix 11 (hs:=[.e 12 [1,0] (.d (.tup [])) [(1,.row 86 3 (a.map Gb))],.u (di (a.length:Int)),.t true,.u (di (a.length:Int)),.y (Gb a3),.c,.c]) (by kernel_rfl) (by kernel_rfl) (by kernel_rfl) (.cons (hlook (P:=Try.prog) (T:=TT) (f:=.func 63) (x:=(.tmp 39)) (y:=(.tmp 40)) (tys:=#[83,122]) (g:=63) (g2:=64) (l:=1) (L:=0) (e:=86) (s:=3) (h:=i) (xs:=(m.map Gb)) (ys:=(a.map Gb)) (YH n m (fun (y0 y1:Ga)=>YP n y0 y1 i) 64 [.iptr [.v (.int .i64 i)] 0] (fun y0 y1 r h=>Gav n y0 y1 i r h) _ a0) (all_clean (fun x=>by simp [clean,cleanL,isU8,eI,Gb])) (by decide)) (.cons (len_ob (f:=Gb) (l:=a)) (.cons (dt o) (.cons (len_ob (f:=Gb) (l:=a)) (.cons (idx_ob (f:=Gb) q) (.cons (get_ob (f:=Gb) a4) (.cons (show 0+1≤1 by decide) .nil)))))))
    ·rw [if_neg q] at h; cases h
   ·rw [if_neg o] at h
    obtain rfl:=Option.some.inj h
    exact pend_sound TTok mix 11 (hs:=[.e 12 [1,0] (.d (.tup [])) [(1,.row 86 3 (a.map Gb))],.u (di (a.length:Int)),.t false,.c]) (by kernel_rfl) (by kernel_rfl) (by kernel_rfl) (.cons (hlook (P:=Try.prog) (T:=TT) (f:=.func 63) (x:=(.tmp 39)) (y:=(.tmp 40)) (tys:=#[83,122]) (g:=63) (g2:=64) (l:=1) (L:=0) (e:=86) (s:=3) (h:=i) (xs:=(m.map Gb)) (ys:=(a.map Gb)) (YH n m (fun (y0 y1:Ga)=>YP n y0 y1 i) 64 [.iptr [.v (.int .i64 i)] 0] (fun y0 y1 r h=>Gav n y0 y1 i r h) _ a0) (all_clean (fun x=>by simp [clean,cleanL,isU8,eI,Gb])) (by decide)) (.cons (len_ob (f:=Gb) (l:=a)) (.cons (df o) .nil)))
instance:DecidableEq Ga:=fun a b=>if h:a.fSector=b.fSector∧a.fData=b.fData∧a.fBarrier=b.fBarrier then isTrue (by cases a; cases b; simp_all) else isFalse (fun e=>h (by subst e; simp))
def Jj (n:Nat) (a:(List Ga)) (b:Int):Option ((List Ga)×Int):=(VY n a b).bind fun E=>(XB n a b E).bind fun r=>if (perms E).all (fun q=>decide (XB n a b q=some r))=true then some r else none
theorem Gbc (n:Nat) (a:(List Ga)) (b:Int) (r:(List Ga)×Int) (h:Jj n a b=some r):Ret Try.prog 57 [(eL Gb) a,(eI .i64) b] (.tup [(eL Gb) r.1,(eI .i64) r.2]):=by
 unfold Jj at h
 obtain ⟨E,d,h⟩:=bind_some h
 obtain ⟨r',e,h⟩:=bind_some h
 by_cases c:(perms E).all (fun q=>decide (XB n a b q=some r'))=true
 ·rw [if_pos c] at h
  obtain rfl:=Option.some.inj h
  exact Gcf n a b E _ d (fun ord hp=>of_decide_eq_true (List.all_eq_true.1 c ord (mem_perms hp)))
 ·rw [if_neg c] at h; cases h
inductive UA where
 | x0 (a:Int) (b:(List Ga))
def GbP:UA→Ex
 | .x0 _ _=>.normal
def GbQ (a:(List Ga)) (b:Int) (f:(Int)) (g:(List Ga)):UA→PS
 | .x0 c e=>⟨(.d (.sl (a.map Gb))::di b::dd::dd::dd::dd::dd::.srf 0::di c::(dds 46 [])),[.row 86 3 (e.map Gb)]⟩
def GbR (b:(List Ga)) (c:Int) (a:(Int)) (e:(List Ga))  : PS:=⟨(.d (.sl (b.map Gb))::di c::dd::dd::dd::dd::dd::.srf 0::di a::(dds 18 (.d (.v (.bool (decide (a<0))))::(dds 27 [])))),[.row 86 3 (e.map Gb)]⟩
def Ul (n:Nat) (c:(List Ga)) (d:Int) (a:(Int)) (b:(List Ga)):Option UA :=
 if a<0 then
  some (.x0 (c.length:Int) b)
 else
  some (.x0 a b)
theorem GbS {Fi:Ex→PS→Prop} (hF:KC 55 Fi) (ks:List Fr) (n:Nat) (a:(List Ga)) (e:Int) (b:(Int)) (g:(List Ga))  (o:UA) (h:Ul n a e b g=some o) (q:RunE Try.prog 55 Fi ks (GbP o) (GbQ a e b g o)):RunE Try.prog 55 Fi (.s (cR (cL (cR (cB (cR (cP (cB (cL (cR (cR (cR (cR (bodyOf Try.f49)))))))))))))::ks) .normal (GbR a e b g):=by
 unfold Ul at h
 by_cases c:b<0
 ·rw [if_pos c] at h
  cases h
  exact pkk_sound TTok mix hF 2 (hs:=[.t true,.u (di (a.length:Int))]) (ts:=[]) (s:=[0]) (l:=[0,1,7,8]) (by kernel_rfl) (by kernel_rfl) (.cons (dt c) (.cons (len_ob (f:=Gb) (l:=a)) .nil)) q
 ·rw [if_neg c] at h
  cases h
  exact pkk_sound TTok mix hF 2 (hs:=[.t false]) (ts:=[]) (s:=[0]) (l:=[0,1,7,8]) (by kernel_rfl) (by kernel_rfl) (.cons (df c) .nil) q
inductive UB where
 | x0 (a:(List Ga))
def GbT:UB→Ex
 | .x0 _=>.exit 0
def GbU  : UB→PS
 | .x0 a=>⟨(dd::dd::dd::dd::dd::dd::dd::.srf 0::(dds 47 [])),[.row 86 3 (a.map Gb)]⟩
def GbV  (a:(List Ga)) (b:Int) (c:(List Ga)):PS:=⟨(.d (.sl (a.map Gb))::di b::dd::dd::dd::dd::dd::.srf 0::(dds 47 [])),[.row 86 3 (c.map Gb)]⟩
def Z7 (n:Nat)  : Nat→(List Ga)→Int→(List Ga)→Option UB
 | 0,_,_,_=>none
 | k+1,a,d,e =>
  if (a.length:Int) > 0 then
   (KM n a (fun (y0:Ga)=>Zh n y0)).bind fun (g:(Int)) =>
   (Ul n a d g e).bind fun h=>match h with
   | .x0 b i =>
    (sub a 0 b).bind fun (j:(List Ga)) =>
    (Jj n j d).bind fun (c:((List Ga)×Int)) =>
    (app 40 i c.1).bind fun (f:(List Ga)) =>
    if b<(a.length:Int) then
     (app 40 f ([(Ga.mk 0 ([]:(List Int)) true)])).bind fun (l:(List Ga)) =>
     (sub a (wi .i64 (b+1)) (a.length:Int)).bind fun (m:(List Ga)) =>
     Z7 n  k m c.2 l
    else
     (sub a b (a.length:Int)).bind fun (o:(List Ga)) =>
     Z7 n  k o c.2 f
  else
   some (.x0 e)
theorem V4 {Fi:Ex→PS→Prop} (hF:KC 55 Fi) (ks:List Fr) (n:Nat)   : ∀ (k:Nat) (a:(List Ga)) (g:Int) (j:(List Ga)) (o:UB),Z7 n  k a g j=some o→RunE Try.prog 55 Fi ks (GbT o) (GbU  o)→RunE Try.prog 55 Fi (.l k (cP (cB (cL (cR (cR (cR (cR (bodyOf Try.f49))))))))::ks) .normal (GbV  a g j)
 | 0,a,g,j,o,h,q=>by rw [Z7] at h; cases h
 | k+1,a,g,j,o,h,q=>by
  rw [Z7] at h
  by_cases x:(a.length:Int) > 0
  ·rw [if_pos x] at h
   obtain ⟨a2,a7,h⟩:=bind_some h
   obtain ⟨a8,a9,h⟩:=bind_some h
   refine pkk_sound TTok mix hF 12 (hs:=[.u (di (a.length:Int)),.t true,.r ((eI .i64) a2)]) (ts:=[]) (s:=[0]) (l:=[0,1,7,8,27]) (by kernel_rfl) (by kernel_rfl) (.cons (len_ob (f:=Gb) (l:=a)) (.cons (dt x) (.cons (VW n a (fun (y0:Ga)=>Zh n y0) 56 [] (fun y0 r h=>Gb7 n y0 r h) _ a7) .nil))) (GbS hF (.s (cR (cR (cB (cR (cP (cB (cL (cR (cR (cR (cR (bodyOf Try.f49))))))))))))::.b 1::.l k (cP (cB (cL (cR (cR (cR (cR (bodyOf Try.f49))))))))::ks) n a g a2 j _ a9 ?_)
   cases a8 with
   | x0 b0 b1 =>
    try dsimp only at h
    obtain ⟨y,c,h⟩:=bind_some h
    obtain ⟨i,a3,h⟩:=bind_some h
    obtain ⟨a1,e,h⟩:=bind_some h
    by_cases z:b0<(a.length:Int)
    ·rw [if_pos z] at h
     obtain ⟨a4,a0,h⟩:=bind_some h
     obtain ⟨a5,m,h⟩:=bind_some h
     exact pkk_sound TTok mix hF 15 (hs:=[.w (y.map Gb),.r (.tup [(eL Gb) i.1,(eI .i64) i.2]),.w (a1.map Gb),.u (di (a.length:Int)),.t true,.bd,.w (a4.map Gb),.w (a5.map Gb)]) (ts:=[]) (s:=[111]) (l:=[0,1,7]) (by kernel_rfl) (by kernel_rfl) (.cons (sub_ob (f:=Gb) (s:=3) c (fun _=>rfl)).1 (.cons (sub_ob (f:=Gb) (s:=3) c (fun _=>rfl)).2.1 (.cons (sub_ob (f:=Gb) (s:=3) c (fun _=>rfl)).2.2.1 (.cons (sub_ob (f:=Gb) (s:=3) c (fun _=>rfl)).2.2.2.1 (.cons (sub_ob (f:=Gb) (s:=3) c (fun _=>rfl)).2.2.2.2 (.cons (Gbc n y g _ a3) (.cons (app_ob (f:=Gb) (s:=3) e (fun _=>rfl)).1 (.cons (app_ob (f:=Gb) (s:=3) e (fun _=>rfl)).2.1 (.cons (app_ob (f:=Gb) (s:=3) e (fun _=>rfl)).2.2.1 (.cons (app_ob (f:=Gb) (s:=3) e (fun _=>rfl)).2.2.2 (.cons (len_ob (f:=Gb) (l:=a)) (.cons (dt z) (.cons (app_ob (f:=Gb) (s:=3) a0 (fun _=>rfl)).1 (.cons (app_ob (f:=Gb) (s:=3) a0 (fun _=>rfl)).2.1 (.cons (app_ob (f:=Gb) (s:=3) a0 (fun _=>rfl)).2.2.1 (.cons (app_ob (f:=Gb) (s:=3) a0 (fun _=>rfl)).2.2.2 (.cons (sub_ob' (f:=Gb) (s:=3) m (fun _=>rfl)).1 (.cons (sub_ob' (f:=Gb) (s:=3) m (fun _=>rfl)).2.1 (.cons (sub_ob' (f:=Gb) (s:=3) m (fun _=>rfl)).2.2.1 (.cons (sub_ob' (f:=Gb) (s:=3) m (fun _=>rfl)).2.2.2.1 (.cons (sub_ob' (f:=Gb) (s:=3) m (fun _=>rfl)).2.2.2.2 .nil))))))))))))))))))))) (V4 hF ks n  k a5 i.2 a4 _ h q)
    ·rw [if_neg z] at h
     obtain ⟨a6,p,h⟩:=bind_some h
     exact pkk_sound TTok mix hF 13 (hs:=[.w (y.map Gb),.r (.tup [(eL Gb) i.1,(eI .i64) i.2]),.w (a1.map Gb),.u (di (a.length:Int)),.t false,.w (a6.map Gb)]) (ts:=[]) (s:=[66]) (l:=[0,1,7]) (by kernel_rfl) (by kernel_rfl) (.cons (sub_ob (f:=Gb) (s:=3) c (fun _=>rfl)).1 (.cons (sub_ob (f:=Gb) (s:=3) c (fun _=>rfl)).2.1 (.cons (sub_ob (f:=Gb) (s:=3) c (fun _=>rfl)).2.2.1 (.cons (sub_ob (f:=Gb) (s:=3) c (fun _=>rfl)).2.2.2.1 (.cons (sub_ob (f:=Gb) (s:=3) c (fun _=>rfl)).2.2.2.2 (.cons (Gbc n y g _ a3) (.cons (app_ob (f:=Gb) (s:=3) e (fun _=>rfl)).1 (.cons (app_ob (f:=Gb) (s:=3) e (fun _=>rfl)).2.1 (.cons (app_ob (f:=Gb) (s:=3) e (fun _=>rfl)).2.2.1 (.cons (app_ob (f:=Gb) (s:=3) e (fun _=>rfl)).2.2.2 (.cons (len_ob (f:=Gb) (l:=a)) (.cons (df z) (.cons (sub_ob' (f:=Gb) (s:=3) p (fun _=>rfl)).1 (.cons (sub_ob' (f:=Gb) (s:=3) p (fun _=>rfl)).2.1 (.cons (sub_ob' (f:=Gb) (s:=3) p (fun _=>rfl)).2.2.1 (.cons (sub_ob' (f:=Gb) (s:=3) p (fun _=>rfl)).2.2.2.1 (.cons (sub_ob' (f:=Gb) (s:=3) p (fun _=>rfl)).2.2.2.2 .nil))))))))))))))))) (V4 hF ks n  k a6 i.2 a1 _ h q)
  ·rw [if_neg x] at h
   cases h
   exact pkk_sound TTok mix hF 8 (hs:=[.u (di (a.length:Int)),.t false]) (ts:=[]) (s:=[0]) (l:=[7]) (by kernel_rfl) (by kernel_rfl) (.cons (len_ob (f:=Gb) (l:=a)) (.cons (df x) .nil)) q
/- ringhall/lift.Order -/
def V5 (n:Nat) (b:(List Ga)) (a:Int):Option ((List Ga)×Int) :=
 if a<0 then
  some (([]:(List Ga)),1)
 else
  if a≥256 then
   some (([]:(List Ga)),1)
  else
   (V3 n b).bind fun (c:(Int)) =>
   if c=0 then
    (Z7 n  n b a ([]:List Ga)).bind fun d=>match d with
    | .x0 e =>
     some (e,0)
   else
    some (([]:(List Ga)),c)
theorem GaK (n:Nat) (d:(List Ga)) (e:Int) (r:(List Ga)×Int) (h:V5 n d e=some r):Ret Try.prog 49 [(eL Gb) d,(eI .i64) e] (.tup [(eL Gb) r.1,(eI .i64) r.2]):=by
 refine ret_run (n:=55) (fn:=Try.f49) (c:=bodyOf Try.f49) (by kernel_rfl) (by kernel_rfl) (by kernel_rfl) (by kernel_rfl) ?_
 have hF:KC 55 (FinR Try.prog Try.f49 (.tup [(eL Gb) r.1,(eI .i64) r.2])):=FinR.kc' (by kernel_rfl)
 unfold V5 at h
 by_cases a:e<0
 ·rw [if_pos a] at h
  obtain rfl:=Option.some.inj h
  exact pend_sound TTok mix 10 (hs:=[.t true,.c,.c]) (by kernel_rfl) (by kernel_rfl) (by kernel_rfl) (.cons (dt a) .nil)
 ·rw [if_neg a] at h
  by_cases f:e≥256
  ·rw [if_pos f] at h
   obtain rfl:=Option.some.inj h
   exact pend_sound TTok mix 10 (hs:=[.t false,.c,.t true]) (by kernel_rfl) (by kernel_rfl) (by kernel_rfl) (.cons (df a) (.cons (dt f) .nil))
  ·rw [if_neg f] at h
   obtain ⟨i,j,h⟩:=bind_some h
   by_cases g:i=0
   ·rw [if_pos g] at h
    obtain ⟨k,m,h⟩:=bind_some h
    refine pkk_sound TTok mix hF 19 (hs:=[.t false,.c,.t false,.r ((eI .i64) i),.t false,.n n]) (ts:=[(7,86,3)]) (s:=[70]) (l:=[0,1,7]) (by kernel_rfl) (by kernel_rfl) (.cons (df a) (.cons (df f) (.cons (GaJ n d _ j) (.cons (nf g) .nil)))) (V4 hF (.b 0::.s (cR (cR (cR (cR (cR (bodyOf Try.f49))))))::[]) n  n d e ([]:List Ga) _ m ?_)
    cases k with
    | x0 o =>
     try dsimp only at h
     obtain rfl:=Option.some.inj h
     exact pend_sound TTok mix 4 (hs:=[]) (by kernel_rfl) (by kernel_rfl) (by kernel_rfl) .nil
   ·rw [if_neg g] at h
    obtain rfl:=Option.some.inj h
    exact pend_sound TTok mix 17 (hs:=[.t false,.c,.t false,.r ((eI .i64) i),.t true]) (by kernel_rfl) (by kernel_rfl) (by kernel_rfl) (.cons (df a) (.cons (df f) (.cons (GaJ n d _ j) (.cons (nt g) .nil))))
inductive UC where
 | x0 (a:Bool) (b c:(List Int)) (d:(List Gi))
 | x1 (e:Bool) (f:Int) (g h:(List Int)) (i:(List Gi))
def GbW:UC→Ex
 | .x0 _ _ _ _=>.normal
 | .x1 _ _ _ _ _=>.normal
def GbX (a:(List Ga)) (b c:Int) (n o:(List Int)) (p:(List Gi)) (q:Ga):UC→PS
 | .x0 e f g h=>⟨(.ref 4 0::.d (.sl (a.map Gb))::(dds 10 (.d (.sl (a.map Gb))::di (a.length:Int)::di b::(dds 17 (.d (.v (.bool e))::(dds 29 [])))))),[.gh 0 (.ref 4 0),.gh 1 (.srf 8),.gh 2 (.srf 9),.gh 3 (.srf 10),.box [.srf 5,.srf 6,.srf 7,di c],.row 5 1 (f.map (eI .u8)),.row 5 1 (g.map (eI .u8)),.row 94 2 (h.map Ge),.none,.none,.none]⟩
 | .x1 i j k l m=>⟨(.ref 4 0::.d (.sl (a.map Gb))::(dds 10 (.d (.sl (a.map Gb))::di (a.length:Int)::di b::(dds 17 (.d (.v (.bool i))::(dds 29 [])))))),[.gh 0 (.ref 4 0),.gh 1 (.srf 8),.gh 2 (.srf 9),.gh 3 (.srf 10),.box [.srf 5,.srf 6,.srf 7,di j],.row 5 1 (k.map (eI .u8)),.row 5 1 (l.map (eI .u8)),.row 94 2 (m.map Ge),.none,.none,.none]⟩
def GbY (a:(List Ga)) (c e:Int) (f g:(List Int)) (h:(List Gi)) (b:Ga)  : PS:=⟨(.ref 4 0::.d (.sl (a.map Gb))::dd::dd::dd::dd::.ref 11 0::dd::dd::dd::dd::dd::.d (.sl (a.map Gb))::di (a.length:Int)::di c::(dds 47 [])),[.gh 0 (.ref 4 0),.gh 1 (.srf 8),.gh 2 (.srf 9),.gh 3 (.srf 10),.box [.srf 5,.srf 6,.srf 7,di e],.row 5 1 (f.map (eI .u8)),.row 5 1 (g.map (eI .u8)),.row 94 2 (h.map Ge),.none,.none,.none,.box [di b.fSector,.d (.sl (b.fData.map (eI .u8))),.d (.v (.bool b.fBarrier))]]⟩
def V0 (n:Nat) (g:(List Ga)) (h f:Int) (b c:(List Int)) (d:(List Gi)) (e:Ga):Option UC :=
 if e.fBarrier=true then
  some (.x0 false b c d)
 else
  if e.fSector<0 then
   some (.x0 true b c d)
  else
   (G7 n (Gg.mk b c d f)).bind fun (a:(Int×Gg)) =>
   some (.x1 (decide (e.fSector≥a.1)) a.2.ffuse a.2.fsafe a.2.fnow a.2.fwait)
theorem GbZ {Fi:Ex→PS→Prop} (hF:KC 62 Fi) (ks:List Fr) (n:Nat) (m:(List Ga)) (p f:Int) (g i:(List Int)) (j:(List Gi)) (a:Ga)  (o:UC) (h:V0 n m p f g i j a=some o) (q:RunE Try.prog 62 Fi ks (GbW o) (GbX m p f g i j a o)):RunE Try.prog 62 Fi (.s (cL (cR (cB (cL (cR (cR (cP (cB (cR (cL (cR (bodyOf Try.f38))))))))))))::ks) .normal (GbY m p f g i j a):=by
 unfold V0 at h
 by_cases b:a.fBarrier=true
 ·rw [if_pos b] at h
  cases h
  exact pkk_sound TTok mix hF 1 (hs:=[.c,.t false,.c,.c,.c,.c]) (ts:=[]) (s:=[0,1,2,3,4,5,6,7,8,9,10]) (l:=[0,1,12,13,14,32]) (by kernel_rfl) (by kernel_rfl) (.cons (bnf b) .nil) q
 ·rw [if_neg b] at h
  by_cases k:a.fSector<0
  ·rw [if_pos k] at h
   cases h
   exact pkk_sound TTok mix hF 1 (hs:=[.c,.t true,.c,.c,.c,.c,.t true,.c,.c,.c,.c,.c]) (ts:=[]) (s:=[0,1,2,3,4,5,6,7,8,9,10]) (l:=[0,1,12,13,14,32]) (by kernel_rfl) (by kernel_rfl) (.cons (bnt (vf b)) (.cons (dt k) .nil)) q
  ·rw [if_neg k] at h
   obtain ⟨e,r,h⟩:=bind_some h
   cases h
   exact pkk_sound TTok mix hF 1 (hs:=[.c,.t true,.c,.c,.c,.c,.t false,.c,.c,.c,.c,.h [4,5,6,7] [] [.box [.srf 4,.srf 5,.srf 6,di e.2.ffuse],.none,.none,.none,.row 5 1 (e.2.fsafe.map (eI .u8)),.row 5 1 (e.2.fnow.map (eI .u8)),.row 94 2 (e.2.fwait.map Ge)] (di e.1),.c,.c]) (ts:=[]) (s:=[0,1,2,3,4,67,68,69,8,9,10]) (l:=[0,1,12,13,14,32]) (by kernel_rfl) (by kernel_rfl) (.cons (bnt (vf b)) (.cons (df k) (.cons (G2 n (Gg.mk g i j f) _ r) .nil))) q
inductive UD where
 | x0 (a b:Int) (c d:(List Int)) (e:(List Gi))
 | x1 (f:Int) (g h:(List Int)) (i:(List Gi))
def Gb0:UD→Ex
 | .x0 _ _ _ _ _=>.ret
 | .x1 _ _ _ _=>.exit 0
def Gb1 (a:(List Ga)):UD→PS
 | .x0 b c e f g=>⟨(dd::dd::dd::dd::di b::(dds 57 [])),[.gh 0 (.ref 4 0),.gh 1 (.srf 8),.gh 2 (.srf 9),.gh 3 (.srf 10),.box [.srf 5,.srf 6,.srf 7,di c],.row 5 1 (e.map (eI .u8)),.row 5 1 (f.map (eI .u8)),.row 94 2 (g.map Ge),.none,.none,.none]⟩
 | .x1 h i j k=>⟨(.ref 4 0::.d (.sl (a.map Gb))::(dds 60 [])),[.gh 0 (.ref 4 0),.gh 1 (.srf 8),.gh 2 (.srf 9),.gh 3 (.srf 10),.box [.srf 5,.srf 6,.srf 7,di h],.row 5 1 (i.map (eI .u8)),.row 5 1 (j.map (eI .u8)),.row 94 2 (k.map Ge),.none,.none,.none]⟩
def Gb2 (a:(List Ga)) (b c:Int) (e f:(List Int)) (g:(List Gi)):PS:=⟨(.ref 4 0::.d (.sl (a.map Gb))::(dds 10 (.d (.sl (a.map Gb))::di (a.length:Int)::di b::(dds 47 [])))),[.gh 0 (.ref 4 0),.gh 1 (.srf 8),.gh 2 (.srf 9),.gh 3 (.srf 10),.box [.srf 5,.srf 6,.srf 7,di c],.row 5 1 (e.map (eI .u8)),.row 5 1 (f.map (eI .u8)),.row 94 2 (g.map Ge),.none,.none,.none]⟩
def Zp (n:Nat) (a:(List Ga)):Nat→Int→Int→(List Int)→(List Int)→(List Gi)→Option UD
 | 0,_,_,_,_,_=>none
 | k+1,b,c,d,e,f =>
  if b<(a.length:Int) then
   (getI a b).bind fun (p:Ga) =>
   (V0 n a b c d e f p).bind fun q=>match q with
   | .x0 r g h i =>
    if r=true then
     some (.x0 1 c g h i)
    else
     Zp n a k (wi .i64 (b+1)) c g h i
   | .x1 s j l m o =>
    if s=true then
     some (.x0 1 j l m o)
    else
     Zp n a k (wi .i64 (b+1)) j l m o
  else
   some (.x1 c d e f)
theorem V6 {Fi:Ex→PS→Prop} (hF:KC 62 Fi) (ks:List Fr) (n:Nat) (d:(List Ga))  : ∀ (k:Nat) (a e:Int) (g i:(List Int)) (j:(List Gi)) (o:UD),Zp n d k a e g i j=some o→RunE Try.prog 62 Fi ks (Gb0 o) (Gb1 d o)→RunE Try.prog 62 Fi (.l k (cP (cB (cR (cL (cR (bodyOf Try.f38))))))::ks) .normal (Gb2 d a e g i j)
 | 0,a,e,g,i,j,o,h,q=>by rw [Zp] at h; cases h
 | k+1,a,e,g,i,j,o,h,q=>by
  rw [Zp] at h
  by_cases m:a<(d.length:Int)
  ·rw [if_pos m] at h
   obtain ⟨u,v,h⟩:=bind_some h
   obtain ⟨w,x,h⟩:=bind_some h
   refine pkk_sound TTok mix hF 11 (hs:=[.t true,.y (Gb u),.c]) (ts:=[]) (s:=[0,1,2,3,4,5,6,7,8,9,10,26]) (l:=[0,1,6,12,13,14]) (by kernel_rfl) (by kernel_rfl) (.cons (dt m) (.cons (getI_ob (f:=Gb) v) (.cons (show 0+3≤3 by decide) .nil))) (GbZ hF (.s (cR (cR (cB (cL (cR (cR (cP (cB (cR (cL (cR (bodyOf Try.f38))))))))))))::.b 1::.s (cR (cR (cR (cP (cB (cR (cL (cR (bodyOf Try.f38)))))))))::.l k (cP (cB (cR (cL (cR (bodyOf Try.f38))))))::ks) n d a e g i j u _ x ?_)
   cases w with
   | x0 z a0 a1 a2 =>
    try dsimp only at h
    by_cases p:z=true
    ·rw [if_pos p] at h
     cases h
     exact pkk_sound TTok mix hF 7 (hs:=[.t true]) (ts:=[]) (s:=[0,1,2,3,4,5,6,7,8,9,10]) (l:=[4]) (by kernel_rfl) (by kernel_rfl) (.cons p .nil) q
    ·rw [if_neg p] at h
     exact pkk_sound TTok mix hF 4 (hs:=[.t false]) (ts:=[]) (s:=[0,1,2,3,4,5,6,7,8,9,10]) (l:=[0,1,12,13,14]) (by kernel_rfl) (by kernel_rfl) (.cons (vf p) .nil) (V6 hF ks n d k (wi .i64 (a+1)) e a0 a1 a2 _ h q)
   | x1 a3 a4 a5 a6 a7 =>
    try dsimp only at h
    by_cases r:a3=true
    ·rw [if_pos r] at h
     cases h
     exact pkk_sound TTok mix hF 7 (hs:=[.t true]) (ts:=[]) (s:=[0,1,2,3,4,5,6,7,8,9,10]) (l:=[4]) (by kernel_rfl) (by kernel_rfl) (.cons r .nil) q
    ·rw [if_neg r] at h
     exact pkk_sound TTok mix hF 4 (hs:=[.t false]) (ts:=[]) (s:=[0,1,2,3,4,5,6,7,8,9,10]) (l:=[0,1,12,13,14]) (by kernel_rfl) (by kernel_rfl) (.cons (vf r) .nil) (V6 hF ks n d k (wi .i64 (a+1)) a4 a5 a6 a7 _ h q)
  ·rw [if_neg m] at h
   cases h
   exact pkk_sound TTok mix hF 8 (hs:=[.t false]) (ts:=[]) (s:=[0,1,2,3,4,5,6,7,8,9,10]) (l:=[0,1]) (by kernel_rfl) (by kernel_rfl) (.cons (df m) .nil) q
inductive UE where
 | x0 (a b:Int) (c d:(List Int)) (e:(List Gi))
 | x1 (f:Int) (g h:(List Int)) (i:(List Gi))
def Gb3:UE→Ex
 | .x0 _ _ _ _ _=>.ret
 | .x1 _ _ _ _=>.exit 2
def Gb4 (k:((List Ga)×Int)):UE→PS
 | .x0 a b c e f=>⟨(dd::dd::dd::dd::di a::(dds 57 [])),[.gh 0 (.ref 4 0),.gh 1 (.srf 8),.gh 2 (.srf 9),.gh 3 (.srf 10),.box [.srf 5,.srf 6,.srf 7,di b],.row 5 1 (c.map (eI .u8)),.row 5 1 (e.map (eI .u8)),.row 94 2 (f.map Ge),.none,.none,.none]⟩
 | .x1 g h i j=>⟨(dds 62 []),[.gh 0 (.ref 4 0),.gh 1 (.srf 8),.gh 2 (.srf 9),.gh 3 (.srf 10),.box [.srf 5,.srf 6,.srf 7,di g],.row 5 1 (h.map (eI .u8)),.row 5 1 (i.map (eI .u8)),.row 94 2 (j.map Ge),.none,.none,.none]⟩
def Gb5 (a:((List Ga)×Int)) (b c:Int) (e f:(List Int)) (g:(List Gi)):PS:=⟨(.ref 4 0::(dds 41 (.d (.sl (a.1.map Gb))::di (a.1.length:Int)::di b::(dds 17 [])))),[.gh 0 (.ref 4 0),.gh 1 (.srf 8),.gh 2 (.srf 9),.gh 3 (.srf 10),.box [.srf 5,.srf 6,.srf 7,di c],.row 5 1 (e.map (eI .u8)),.row 5 1 (f.map (eI .u8)),.row 94 2 (g.map Ge),.none,.none,.none]⟩
def Zq (n:Nat) (b:((List Ga)×Int)):Nat→Int→Int→(List Int)→(List Int)→(List Gi)→Option UE
 | 0,_,_,_,_,_=>none
 | k+1,c,e,f,g,h =>
  if c<(b.1.length:Int) then
   (getI b.1 c).bind fun (i:Ga) =>
   if i.fBarrier=true then
    (G3 n (Gg.mk f g h e)).bind fun (d:(Gg)) =>
    Zq n b k (wi .i64 (c+1)) d.ffuse d.fsafe d.fnow d.fwait
   else
    (Gv n (Gg.mk f g h e) i.fSector i.fData).bind fun (a:(Int×Gg)) =>
    if a.1=0 then
     Zq n b k (wi .i64 (c+1)) a.2.ffuse a.2.fsafe a.2.fnow a.2.fwait
    else
     some (.x0 a.1 a.2.ffuse a.2.fsafe a.2.fnow a.2.fwait)
  else
   some (.x1 e f g h)
theorem V7 {Fi:Ex→PS→Prop} (hF:KC 62 Fi) (ks:List Fr) (n:Nat) (r:((List Ga)×Int))  : ∀ (k:Nat) (g i:Int) (j m:(List Int)) (p:(List Gi)) (o:UE),Zq n r k g i j m p=some o→RunE Try.prog 62 Fi ks (Gb3 o) (Gb4 r o)→RunE Try.prog 62 Fi (.l k (cP (cB (cR (cL (cR (cR (cR (cR (bodyOf Try.f38)))))))))::ks) .normal (Gb5 r g i j m p)
 | 0,g,i,j,m,p,o,h,q=>by rw [Zq] at h; cases h
 | k+1,g,i,j,m,p,o,h,q=>by
  rw [Zq] at h
  by_cases u:g<(r.1.length:Int)
  ·rw [if_pos u] at h
   obtain ⟨b,z,h⟩:=bind_some h
   by_cases w:b.fBarrier=true
   ·rw [if_pos w] at h
    obtain ⟨e,a1,h⟩:=bind_some h
    exact pkk_sound TTok mix hF 16 (hs:=[.t true,.y (Gb b),.c,.c,.t true,.h [4,5,6,7] [] [.box [.srf 4,.srf 5,.srf 6,di e.ffuse],.none,.none,.none,.row 5 1 (e.fsafe.map (eI .u8)),.row 5 1 (e.fnow.map (eI .u8)),.row 94 2 (e.fwait.map Ge)] (.tup [])]) (ts:=[]) (s:=[0,1,2,3,4,51,52,53,8,9,10]) (l:=[0,42,43,44]) (by kernel_rfl) (by kernel_rfl) (.cons (dt u) (.cons (getI_ob (f:=Gb) z) (.cons (show 0+3≤3 by decide) (.cons w (.cons (Zg n (Gg.mk j m p i) _ a1) .nil))))) (V7 hF ks n r k (wi .i64 (g+1)) e.ffuse e.fsafe e.fnow e.fwait _ h q)
   ·rw [if_neg w] at h
    obtain ⟨a,a0,h⟩:=bind_some h
    by_cases x:a.1=0
    ·rw [if_pos x] at h
     exact pkk_sound TTok mix hF 21 (hs:=[.t true,.y (Gb b),.c,.c,.t false,.c,.c,.h [4,5,6,7] [] [.box [.srf 4,.srf 5,.srf 6,di a.2.ffuse],.none,.none,.none,.row 5 1 (a.2.fsafe.map (eI .u8)),.row 5 1 (a.2.fnow.map (eI .u8)),.row 94 2 (a.2.fwait.map Ge)] (di a.1),.t false]) (ts:=[]) (s:=[0,1,2,3,4,71,72,73,8,9,10]) (l:=[0,42,43,44]) (by kernel_rfl) (by kernel_rfl) (.cons (dt u) (.cons (getI_ob (f:=Gb) z) (.cons (show 0+3≤3 by decide) (.cons (vf w) (.cons (SX n (Gg.mk j m p i) b.fSector b.fData _ a0) (.cons (nf x) .nil)))))) (V7 hF ks n r k (wi .i64 (g+1)) a.2.ffuse a.2.fsafe a.2.fnow a.2.fwait _ h q)
    ·rw [if_neg x] at h
     cases h
     exact pkk_sound TTok mix hF 24 (hs:=[.t true,.y (Gb b),.c,.c,.t false,.c,.c,.h [4,5,6,7] [] [.box [.srf 4,.srf 5,.srf 6,di a.2.ffuse],.none,.none,.none,.row 5 1 (a.2.fsafe.map (eI .u8)),.row 5 1 (a.2.fnow.map (eI .u8)),.row 94 2 (a.2.fwait.map Ge)] (di a.1),.t true]) (ts:=[]) (s:=[0,1,2,3,4,71,72,73,8,9,10]) (l:=[4]) (by kernel_rfl) (by kernel_rfl) (.cons (dt u) (.cons (getI_ob (f:=Gb) z) (.cons (show 0+3≤3 by decide) (.cons (vf w) (.cons (SX n (Gg.mk j m p i) b.fSector b.fData _ a0) (.cons (nt x) .nil)))))) q
  ·rw [if_neg u] at h
   cases h
   exact pkk_sound TTok mix hF 8 (hs:=[.t false]) (ts:=[]) (s:=[0,1,2,3,4,5,6,7,8,9,10]) (l:=[]) (by kernel_rfl) (by kernel_rfl) (.cons (df u) .nil) q
/- ringhall/lift.Run -/
def U5 (n:Nat) (a:Gg) (c:(List Ga)):Option (Int×Gg) :=
 (Zp n c n 0 a.ffuse a.fsafe a.fnow a.fwait).bind fun h=>match h with
 | .x0 i j k l m =>
  some (i,(Gg.mk k l m j))
 | .x1 d e f g =>
  (V5 n c 0).bind fun (b:((List Ga)×Int)) =>
  if b.2=0 then
   (Zq n b n 0 d e f g).bind fun o=>match o with
   | .x0 p q r s t =>
    some (p,(Gg.mk r s t q))
   | .x1 u v w x =>
    some (0,(Gg.mk v w x u))
  else
   some (b.2,(Gg.mk e f g d))
theorem Gce (n:Nat) (a:Gg) (g:(List Ga)) (r:Int×Gg) (h:U5 n a g=some r):RetH Try.prog 38 [.ref 0 0,.d ((eL Gb) g)] [.box [.srf 1,.srf 2,.srf 3,di a.ffuse],.row 5 1 (a.fsafe.map (eI .u8)),.row 5 1 (a.fnow.map (eI .u8)),.row 94 2 (a.fwait.map Ge)] (.d ((eI .i64) r.1)) [.box [.srf 4,.srf 5,.srf 6,di r.2.ffuse],.none,.none,.none,.row 5 1 (r.2.fsafe.map (eI .u8)),.row 5 1 (r.2.fnow.map (eI .u8)),.row 94 2 (r.2.fwait.map Ge)]:=by
 refine retH_run (n:=62) (fn:=Try.f38) (c:=bodyOf Try.f38) (by kernel_rfl) (by kernel_rfl) (by kernel_rfl) (by kernel_rfl) ?_
 have hF:KC 62 (FinH Try.prog Try.f38 [.box [.srf 1,.srf 2,.srf 3,di a.ffuse],.row 5 1 (a.fsafe.map (eI .u8)),.row 5 1 (a.fnow.map (eI .u8)),.row 94 2 (a.fwait.map Ge)] (.d ((eI .i64) r.1)) [.box [.srf 4,.srf 5,.srf 6,di r.2.ffuse],.none,.none,.none,.row 5 1 (r.2.fsafe.map (eI .u8)),.row 5 1 (r.2.fnow.map (eI .u8)),.row 94 2 (r.2.fwait.map Ge)]):=FinH.kc' (by kernel_rfl)
 unfold U5 at h
 obtain ⟨k,m,h⟩:=bind_some h
 refine pkk_sound TTok mix hF 10 (hs:=[.u (di (g.length:Int)),.dl 1,.mv 1,.mv 2,.mv 3,.n n]) (ts:=[]) (s:=[4,5,6,7,0,28,29,30,1,2,3]) (l:=[0,1,12,13,14]) (by kernel_rfl) (by kernel_rfl) (.cons (len_ob (f:=Gb) (l:=g)) .nil) (V6 hF (.b 0::.s (cR (cR (bodyOf Try.f38)))::[]) n g n 0 a.ffuse a.fsafe a.fnow a.fwait _ m ?_)
 cases k with
 | x0 z a0 a1 a2 a3 =>
  try dsimp only at h
  obtain rfl:=Option.some.inj h
  exact pendH_sound TTok mix 2 (hs:=[]) [4,8,9,10,5,6,7] (by kernel_rfl) (by kernel_rfl) (by kernel_rfl) .nil
 | x1 o p q w =>
  try dsimp only at h
  obtain ⟨e,j,h⟩:=bind_some h
  by_cases i:e.2=0
  ·rw [if_pos i] at h
   obtain ⟨x,y,h⟩:=bind_some h
   refine pkk_sound TTok mix hF 13 (hs:=[.r (.tup [(eL Gb) e.1,(eI .i64) e.2]),.t false,.u (di (e.1.length:Int)),.n n]) (ts:=[]) (s:=[0,1,2,3,4,5,6,7,8,9,10]) (l:=[0,42,43,44]) (by kernel_rfl) (by kernel_rfl) (.cons (GaK n g 0 _ j) (.cons (nf i) (.cons (len_ob (f:=Gb) (l:=e.1)) .nil))) (V7 hF (.b 2::.s (cR (cR (cR (cR (cR (bodyOf Try.f38))))))::[]) n e n 0 o p q w _ y ?_)
   cases x with
   | x0 a4 a5 a6 a7 a8 =>
    try dsimp only at h
    obtain rfl:=Option.some.inj h
    exact pendH_sound TTok mix 2 (hs:=[]) [4,8,9,10,5,6,7] (by kernel_rfl) (by kernel_rfl) (by kernel_rfl) .nil
   | x1 a9 b0 b1 b2 =>
    try dsimp only at h
    obtain rfl:=Option.some.inj h
    exact pendH_sound TTok mix 4 (hs:=[]) [4,8,9,10,5,6,7] (by kernel_rfl) (by kernel_rfl) (by kernel_rfl) .nil
  ·rw [if_neg i] at h
   obtain rfl:=Option.some.inj h
   exact pendH_sound TTok mix 11 (hs:=[.r (.tup [(eL Gb) e.1,(eI .i64) e.2]),.t true]) [4,8,9,10,5,6,7] (by kernel_rfl) (by kernel_rfl) (by kernel_rfl) (.cons (GaK n g 0 _ j) (.cons (nt i) .nil))
inductive Z8 where
 | x0 (a:Int) (b c:(List Int)) (d:(List Gi)) (e:(List Int)) (f:(List Ga))
def MI:Z8→Ex
 | .x0 _ _ _ _ _ _=>.exit 0
def MJ (b:(List Gh)) (c:(List Int)) (a:(Int×Gp×Gg)):Z8→PS
 | .x0 e f g h i j=>⟨(.ref 5 0::.d (.sl (b.map Gl))::dd::dd::dd::dd::.d (.sl (c.map (eI .u8)))::.srf 13::.srf 14::(dds 165 [])),[.gh 0 (.ref 5 0),.gh 1 (.ref 6 0),.gh 2 (.srf 10),.gh 3 (.srf 11),.gh 4 (.srf 12),.box [.ref 6 0,di a.2.1.fat,di a.2.1.fsize,.d (.v (.int .u32 (wi .u32 (a.2.1.fseq+1))))],.box [.srf 7,.srf 8,.srf 9,di e],.row 5 1 (f.map (eI .u8)),.row 5 1 (g.map (eI .u8)),.row 94 2 (h.map Ge),.none,.none,.none,.row 5 1 (i.map (eI .u8)),.row 86 3 (j.map Gb)]⟩
def MK (a:(List Gh)) (c:(List Int)) (b:(Int×Gp×Gg)) (e f:Int) (g h:(List Int)) (i:(List Gi)) (j:(List Int)) (k:(List Ga)):PS:=⟨(.ref 5 0::.d (.sl (a.map Gl))::dd::dd::dd::dd::.d (.sl (c.map (eI .u8)))::.srf 13::.srf 14::(dds 56 (.d (.sl (a.map Gl))::di (a.length:Int)::di e::(dds 106 [])))),[.gh 0 (.ref 5 0),.gh 1 (.ref 6 0),.gh 2 (.srf 10),.gh 3 (.srf 11),.gh 4 (.srf 12),.box [.ref 6 0,di b.2.1.fat,di b.2.1.fsize,.d (.v (.int .u32 (wi .u32 (b.2.1.fseq+1))))],.box [.srf 7,.srf 8,.srf 9,di f],.row 5 1 (g.map (eI .u8)),.row 5 1 (h.map (eI .u8)),.row 94 2 (i.map Ge),.none,.none,.none,.row 5 1 (j.map (eI .u8)),.row 86 3 (k.map Gb)]⟩
def So (n:Nat) (e:(List Gh)) (m:(List Int)) (f:(Int×Gp×Gg)):Nat→Int→Int→(List Int)→(List Int)→(List Gi)→(List Int)→(List Ga)→Option Z8
 | 0,_,_,_,_,_,_,_=>none
 | k+1,a,g,h,i,j,b,l =>
  if a<(e.length:Int) then
   (getI e a).bind fun (c:Gh) =>
   if 0≤(wi .i64 (6+a))∧((wi .i64 (6+a))).toNat<b.length then
    (b[((wi .i64 (6+a))).toNat]?).bind fun (q:Int) =>
    (Gv n (Gg.mk h i j g) (wi .i64 ((wi .i64 (f.2.1.fat+1))+a)) c.fData).bind fun (d:(Int×Gg)) =>
    (GC n c.fData).bind fun (o:((List Int))) =>
    (app 40 l ([(Ga.mk c.fSector o false)])).bind fun (p:(List Ga)) =>
    So n e m f k (wi .i64 (a+1)) d.2.ffuse d.2.fsafe d.2.fnow d.2.fwait (b.set ((wi .i64 (6+a))).toNat (wi .u8 c.fSector)) p
   else none
  else
   some (.x0 g h i j b l)
theorem U6 {Fi:Ex→PS→Prop} (hF:KC 174 Fi) (ks:List Fr) (n:Nat) (i:(List Gh)) (a1:(List Int)) (j:(Int×Gp×Gg))  : ∀ (k:Nat) (a m:Int) (u x:(List Int)) (a0:(List Gi)) (e:(List Int)) (a2:(List Ga)) (o:Z8),So n i a1 j k a m u x a0 e a2=some o→RunE Try.prog 174 Fi ks (MI o) (MJ i a1 j o)→RunE Try.prog 174 Fi (.l k (cP (cB (cR (cL (cR (cR (cR (cR (cR (cR (cR (cR (cR (cR (cR (cR (bodyOf Try.f10)))))))))))))))))::ks) .normal (MK i a1 j a m u x a0 e a2)
 | 0,a,m,u,x,a0,e,a2,o,h,q=>by rw [So] at h; cases h
 | k+1,a,m,u,x,a0,e,a2,o,h,q=>by
  rw [So] at h
  by_cases a3:a<(i.length:Int)
  ·rw [if_pos a3] at h
   obtain ⟨g,a7,h⟩:=bind_some h
   by_cases a5:0≤(wi .i64 (6+a))∧((wi .i64 (6+a))).toNat<e.length
   ·rw [if_pos a5] at h
    obtain ⟨a8,a9,h⟩:=bind_some h
    obtain ⟨b,b0,h⟩:=bind_some h
    obtain ⟨b1,b2,h⟩:=bind_some h
    obtain ⟨a6,a4,h⟩:=bind_some h
    exact pkk_sound TTok mix hF 17 (hs:=[.t true,.y (Gl g),.c,.c,.w ((e.set ((wi .i64 (6+a))).toNat (wi .u8 g.fSector)).map (eI .u8)),.y ((eI .u8) a8),.c,.c,.c,.h [6,7,8,9] [] [.box [.srf 4,.srf 5,.srf 6,di b.2.ffuse],.none,.none,.none,.row 5 1 (b.2.fsafe.map (eI .u8)),.row 5 1 (b.2.fnow.map (eI .u8)),.row 94 2 (b.2.fwait.map Ge)] (di b.1),.c,.c,.r ((eL (eI .u8)) b1),.bd,.w (a6.map Gb)]) (ts:=[]) (s:=[0,1,2,3,4,5,6,155,156,157,10,11,12,13,200]) (l:=[0,1,6,7,8,65,66,67]) (by kernel_rfl) (by kernel_rfl) (.cons (dt a3) (.cons (getI_ob (f:=Gl) a7) (.cons (show 0+2≤2 by decide) (.cons (idx_ob (f:=(eI .u8)) a5) (.cons (get_ob (f:=(eI .u8)) a9) (.cons (Eq.refl (pcells (.v (.int .u8 (wi .u8 g.fSector))))) (.cons (set_ob (f:=(eI .u8)) (l:=e) (k:=((wi .i64 (6+a))).toNat) (z:=(wi .u8 g.fSector)) (p:=.v (.int .u8 (wi .u8 g.fSector))) rfl) (.cons (SX n (Gg.mk u x a0 m) (wi .i64 ((wi .i64 (j.2.1.fat+1))+a)) g.fData _ b0) (.cons (ZN n g.fData _ b2) (.cons (app_ob (f:=Gb) (s:=3) a4 (fun _=>rfl)).1 (.cons (app_ob (f:=Gb) (s:=3) a4 (fun _=>rfl)).2.1 (.cons (app_ob (f:=Gb) (s:=3) a4 (fun _=>rfl)).2.2.1 (.cons (app_ob (f:=Gb) (s:=3) a4 (fun _=>rfl)).2.2.2 .nil))))))))))))) (U6 hF ks n i a1 j k (wi .i64 (a+1)) b.2.ffuse b.2.fsafe b.2.fnow b.2.fwait (e.set ((wi .i64 (6+a))).toNat (wi .u8 g.fSector)) a6 _ h q)
   ·rw [if_neg a5] at h; cases h
  ·rw [if_neg a3] at h
   cases h
   exact pkk_sound TTok mix hF 8 (hs:=[.t false]) (ts:=[]) (s:=[0,1,2,3,4,5,6,7,8,9,10,11,12,13,14]) (l:=[0,1,6,7,8]) (by kernel_rfl) (by kernel_rfl) (.cons (df a3) .nil) q
/- (*ringhall/journal.Log).Commit -/
def Sr (n:Nat) (j:Gp) (k:Gg) (c:(List Gh)):Option (Int×Gp×Gg) :=
 (Yr n j k c).bind fun (a:(Int×Gp×Gg)) =>
 if a.1=0 then
  (G3 n a.2.2).bind fun (h:(Gg)) =>
  if (c.length:Int)=0 then
   some (0,a.2.1,h)
  else
   (mkL 1 0 64).bind fun (g:(List Int)) =>
   (Gv n h a.2.1.fat g).bind fun (l:(Int×Gg)) =>
   (G3 n l.2).bind fun (f:(Gg)) =>
   (mkL 1 0 64).bind fun (d:(List Int)) =>
   if 0≤(0:Int)∧((0:Int)).toNat<d.length then
    (d[((0:Int)).toNat]?).bind fun (a2:Int) =>
    if 0≤(5:Int)∧((5:Int)).toNat<(d.set ((0:Int)).toNat 74).length then
     ((d.set ((0:Int)).toNat 74)[((5:Int)).toNat]?).bind fun (a3:Int) =>
     if ((0:Int)≤1∧1≤(((d.set ((0:Int)).toNat 74).set ((5:Int)).toNat (wi .u8 (c.length:Int))).length:Int)) then
      (YX n (wi .u32 (a.2.1.fseq+1))).bind fun (m:((List Int))) =>
      if ((d.set ((0:Int)).toNat 74).set ((5:Int)).toNat (wi .u8 (c.length:Int))).length≤((d.set ((0:Int)).toNat 74).set ((5:Int)).toNat (wi .u8 (c.length:Int))).length then
       (So n c g a n 0 f.ffuse f.fsafe f.fnow f.fwait (cpyR ((d.set ((0:Int)).toNat 74).set ((5:Int)).toNat (wi .u8 (c.length:Int))) 1 (((d.set ((0:Int)).toNat 74).set ((5:Int)).toNat (wi .u8 (c.length:Int))).length) m) ([]:List Ga)).bind fun o=>match o with
       | .x0 p q r s t u =>
        (Gv n (Gg.mk q r s p) (wi .i64 ((wi .i64 (a.2.1.fat+1))+(c.length:Int))) g).bind fun (v:(Int×Gg)) =>
        (G3 n v.2).bind fun (w:(Gg)) =>
        (mkL 1 0 64).bind fun (b:(List Int)) =>
        if 0≤(0:Int)∧((0:Int)).toNat<b.length then
         (b[((0:Int)).toNat]?).bind fun (a4:Int) =>
         if ((0:Int)≤1∧1≤((b.set ((0:Int)).toNat 67).length:Int)) then
          (YX n (wi .u32 (a.2.1.fseq+1))).bind fun (e:((List Int))) =>
          if (b.set ((0:Int)).toNat 67).length≤(b.set ((0:Int)).toNat 67).length then
           if ((0:Int)≤5∧5≤((cpyR (b.set ((0:Int)).toNat 67) 1 ((b.set ((0:Int)).toNat 67).length) e).length:Int)) then
            (YO n c).bind fun (x:(Int)) =>
            (YX n x).bind fun (y:((List Int))) =>
            if (cpyR (b.set ((0:Int)).toNat 67) 1 ((b.set ((0:Int)).toNat 67).length) e).length≤(cpyR (b.set ((0:Int)).toNat 67) 1 ((b.set ((0:Int)).toNat 67).length) e).length then
             (Gv n w a.2.1.fat t).bind fun (z:(Int×Gg)) =>
             (Gv n z.2 (wi .i64 ((wi .i64 (a.2.1.fat+1))+(c.length:Int))) (cpyR (cpyR (b.set ((0:Int)).toNat 67) 1 ((b.set ((0:Int)).toNat 67).length) e) 5 ((cpyR (b.set ((0:Int)).toNat 67) 1 ((b.set ((0:Int)).toNat 67).length) e).length) y)).bind fun (a0:(Int×Gg)) =>
             (G3 n a0.2).bind fun (a1:(Gg)) =>
             (U5 n a1 u).bind fun (i:(Int×Gg)) =>
             some (i.1,(Gp.mk () a.2.1.fat a.2.1.fsize (wi .u32 (a.2.1.fseq+1))),i.2)
            else none
           else none
          else none
         else none
        else none
      else none
     else none
    else none
   else none
 else
  some (a.1,a.2.1,a.2.2)
theorem Gab (n:Nat) (a2:Gp) (a1:Gg) (g:(List Gh)) (r:Int×Gp×Gg) (h:Sr n a2 a1 g=some r):RetH Try.prog 10 [.ref 0 0,.d ((eL Gl) g)] [.box [.ref 1 0,di a2.fat,di a2.fsize,.d (.v (.int .u32 a2.fseq))],.box [.srf 2,.srf 3,.srf 4,di a1.ffuse],.row 5 1 (a1.fsafe.map (eI .u8)),.row 5 1 (a1.fnow.map (eI .u8)),.row 94 2 (a1.fwait.map Ge)] (.d ((eI .i64) r.1)) [.box [.ref 1 0,di r.2.1.fat,di r.2.1.fsize,.d (.v (.int .u32 r.2.1.fseq))],.box [.srf 5,.srf 6,.srf 7,di r.2.2.ffuse],.none,.none,.none,.row 5 1 (r.2.2.fsafe.map (eI .u8)),.row 5 1 (r.2.2.fnow.map (eI .u8)),.row 94 2 (r.2.2.fwait.map Ge)]:=by
 refine retH_run (n:=174) (fn:=Try.f10) (c:=bodyOf Try.f10) (by kernel_rfl) (by kernel_rfl) (by kernel_rfl) (by kernel_rfl) ?_
 have hF:KC 174 (FinH Try.prog Try.f10 [.box [.ref 1 0,di a2.fat,di a2.fsize,.d (.v (.int .u32 a2.fseq))],.box [.srf 2,.srf 3,.srf 4,di a1.ffuse],.row 5 1 (a1.fsafe.map (eI .u8)),.row 5 1 (a1.fnow.map (eI .u8)),.row 94 2 (a1.fwait.map Ge)] (.d ((eI .i64) r.1)) [.box [.ref 1 0,di r.2.1.fat,di r.2.1.fsize,.d (.v (.int .u32 r.2.1.fseq))],.box [.srf 5,.srf 6,.srf 7,di r.2.2.ffuse],.none,.none,.none,.row 5 1 (r.2.2.fsafe.map (eI .u8)),.row 5 1 (r.2.2.fnow.map (eI .u8)),.row 94 2 (r.2.2.fwait.map Ge)]):=FinH.kc' (by kernel_rfl)
 unfold Sr at h
 obtain ⟨o,c0,h⟩:=bind_some h
 by_cases a9:o.1=0
 ·rw [if_pos a9] at h
  obtain ⟨a3,d0,h⟩:=bind_some h
  by_cases b8:(g.length:Int)=0
  ·rw [if_pos b8] at h
   obtain rfl:=Option.some.inj h
   exact pendH_sound TTok mix 19 (hs:=[.h [0,1,2,3,4] [] [.box [.ref 1 0,di o.2.1.fat,di o.2.1.fsize,.d (.v (.int .u32 o.2.1.fseq))],.box [.srf 5,.srf 6,.srf 7,di o.2.2.ffuse],.none,.none,.none,.row 5 1 (o.2.2.fsafe.map (eI .u8)),.row 5 1 (o.2.2.fnow.map (eI .u8)),.row 94 2 (o.2.2.fwait.map Ge)] (di o.1),.t false,.c,.h [1,25,26,27] [] [.box [.srf 4,.srf 5,.srf 6,di a3.ffuse],.none,.none,.none,.row 5 1 (a3.fsafe.map (eI .u8)),.row 5 1 (a3.fnow.map (eI .u8)),.row 94 2 (a3.fwait.map Ge)] (.tup []),.u (di (g.length:Int)),.t true]) [0,1,2,3,4,65,66,67] (by kernel_rfl) (by kernel_rfl) (by kernel_rfl) (.cons (XL n a2 a1 g _ c0) (.cons (nf a9) (.cons (Zg n o.2.2 _ d0) (.cons (len_ob (f:=Gl) (l:=g)) (.cons (bt b8) .nil)))))
  ·rw [if_neg b8] at h
   obtain ⟨b9,b0,h⟩:=bind_some h
   obtain ⟨a5,d2,h⟩:=bind_some h
   obtain ⟨a4,d3,h⟩:=bind_some h
   obtain ⟨q,b1,h⟩:=bind_some h
   by_cases c1:0≤(0:Int)∧((0:Int)).toNat<q.length
   ·rw [if_pos c1] at h
    obtain ⟨d4,d5,h⟩:=bind_some h
    by_cases c2:0≤(5:Int)∧((5:Int)).toNat<(q.set ((0:Int)).toNat 74).length
    ·rw [if_pos c2] at h
     obtain ⟨d6,d7,h⟩:=bind_some h
     by_cases c3:((0:Int)≤1∧1≤(((q.set ((0:Int)).toNat 74).set ((5:Int)).toNat (wi .u8 (g.length:Int))).length:Int))
     ·rw [if_pos c3] at h
      obtain ⟨b2,d8,h⟩:=bind_some h
      by_cases c4:((q.set ((0:Int)).toNat 74).set ((5:Int)).toNat (wi .u8 (g.length:Int))).length≤((q.set ((0:Int)).toNat 74).set ((5:Int)).toNat (wi .u8 (g.length:Int))).length
      ·rw [if_pos c4] at h
       obtain ⟨d9,e0,h⟩:=bind_some h
       refine pkk_sound TTok mix hF 38 (hs:=[.h [0,1,2,3,4] [] [.box [.ref 1 0,di o.2.1.fat,di o.2.1.fsize,.d (.v (.int .u32 o.2.1.fseq))],.box [.srf 5,.srf 6,.srf 7,di o.2.2.ffuse],.none,.none,.none,.row 5 1 (o.2.2.fsafe.map (eI .u8)),.row 5 1 (o.2.2.fnow.map (eI .u8)),.row 94 2 (o.2.2.fwait.map Ge)] (di o.1),.t false,.c,.h [1,25,26,27] [] [.box [.srf 4,.srf 5,.srf 6,di a3.ffuse],.none,.none,.none,.row 5 1 (a3.fsafe.map (eI .u8)),.row 5 1 (a3.fnow.map (eI .u8)),.row 94 2 (a3.fwait.map Ge)] (.tup []),.u (di (g.length:Int)),.t false,.c,.c,.w (b9.map (eI .u8)),.dl 1,.fz 125,.c,.c,.h [1,65,66,67] [] [.box [.srf 4,.srf 5,.srf 6,di a5.2.ffuse],.none,.none,.none,.row 5 1 (a5.2.fsafe.map (eI .u8)),.row 5 1 (a5.2.fnow.map (eI .u8)),.row 94 2 (a5.2.fwait.map Ge)] (di a5.1),.c,.h [1,180,181,182] [] [.box [.srf 4,.srf 5,.srf 6,di a4.ffuse],.none,.none,.none,.row 5 1 (a4.fsafe.map (eI .u8)),.row 5 1 (a4.fnow.map (eI .u8)),.row 94 2 (a4.fwait.map Ge)] (.tup []),.w (q.map (eI .u8)),.u (di (g.length:Int)),.w ((q.set ((0:Int)).toNat 74).map (eI .u8)),.y ((eI .u8) d4),.w (((q.set ((0:Int)).toNat 74).set ((5:Int)).toNat (wi .u8 (g.length:Int))).map (eI .u8)),.y ((eI .u8) d6),.e 270 [210] (.ssl 210 1 (((q.set ((0:Int)).toNat 74).set ((5:Int)).toNat (wi .u8 (g.length:Int))).length) 1) [],.c,.r ((eL (eI .u8)) b2),.e 300 [210] (di ((Nat.min b2.length (((q.set ((0:Int)).toNat 74).set ((5:Int)).toNat (wi .u8 (g.length:Int))).length-1):Nat):Int)) [(210,.row 5 1 ((cpyR ((q.set ((0:Int)).toNat 74).set ((5:Int)).toNat (wi .u8 (g.length:Int))) 1 (((q.set ((0:Int)).toNat 74).set ((5:Int)).toNat (wi .u8 (g.length:Int))).length) b2).map (eI .u8)))],.u (di (g.length:Int)),.n n]) (ts:=[(8,86,3)]) (s:=[5,6,7,8,9,0,1,205,206,207,2,3,4,210,325]) (l:=[0,1,6,7,8,65,66,67]) (by kernel_rfl) (by kernel_rfl) (.cons (XL n a2 a1 g _ c0) (.cons (nf a9) (.cons (Zg n o.2.2 _ d0) (.cons (len_ob (f:=Gl) (l:=g)) (.cons (bf b8) (.cons (show 3+1≤4 by decide) (.cons (mkL_ob (f:=(eI .u8)) (p:=.v (.int .u8 0)) b0 rfl).1 (.cons (mkL_ob (f:=(eI .u8)) (p:=.v (.int .u8 0)) b0 rfl).2.1 (.cons (mkL_ob (f:=(eI .u8)) (p:=.v (.int .u8 0)) b0 rfl).2.2.1 (.cons (mkL_ob (f:=(eI .u8)) (p:=.v (.int .u8 0)) b0 rfl).2.2.2.1 (.cons (mkL_ob (f:=(eI .u8)) (p:=.v (.int .u8 0)) b0 rfl).2.2.2.2 (.cons (SX n a3 o.2.1.fat b9 _ d2) (.cons (Zg n a5.2 _ d3) (.cons (mkL_ob (f:=(eI .u8)) (p:=.v (.int .u8 0)) b1 rfl).1 (.cons (mkL_ob (f:=(eI .u8)) (p:=.v (.int .u8 0)) b1 rfl).2.1 (.cons (mkL_ob (f:=(eI .u8)) (p:=.v (.int .u8 0)) b1 rfl).2.2.1 (.cons (mkL_ob (f:=(eI .u8)) (p:=.v (.int .u8 0)) b1 rfl).2.2.2.1 (.cons (mkL_ob (f:=(eI .u8)) (p:=.v (.int .u8 0)) b1 rfl).2.2.2.2 (.cons (len_ob (f:=Gl) (l:=g)) (.cons (idx_ob (f:=(eI .u8)) c1) (.cons (get_ob (f:=(eI .u8)) d5) (.cons (Eq.refl (pcells (.v (.int .u8 74)))) (.cons (set_ob (f:=(eI .u8)) (l:=q) (k:=((0:Int)).toNat) (z:=74) (p:=.v (.int .u8 74)) rfl) (.cons (idx_ob (f:=(eI .u8)) c2) (.cons (get_ob (f:=(eI .u8)) d7) (.cons (Eq.refl (pcells (.v (.int .u8 (wi .u8 (g.length:Int)))))) (.cons (set_ob (f:=(eI .u8)) (l:=(q.set ((0:Int)).toNat 74)) (k:=((5:Int)).toNat) (z:=(wi .u8 (g.length:Int))) (p:=.v (.int .u8 (wi .u8 (g.length:Int)))) rfl) (.cons (xs10 (P:=Try.prog) (T:=TT) (f:=(eI .u8)) (t:=42) (e:=5) (s:=1) (l:=210) (L:=((q.set ((0:Int)).toNat 74).set ((5:Int)).toNat (wi .u8 (g.length:Int)))) (x:=(.tmp 57)) (lo:=(.const (.int .i64 1))) (a:=1) (ka:=.i64) (by kernel_rfl) c3) (.cons (Jd n (wi .u32 (o.2.1.fseq+1)) _ d8) (.cons (xcpD (P:=Try.prog) (T:=TT) (f:=(eI .u8)) (t:=42) (t':=42) (e:=5) (s:=1) (l:=210) (x:=(.tmp 58)) (y:=(.tmp 63)) (ti:=⟨1,1,.int .u8,[.i .u8]⟩) (L:=((q.set ((0:Int)).toNat 74).set ((5:Int)).toNat (wi .u8 (g.length:Int)))) (Y:=b2) (i:=1) (j:=((q.set ((0:Int)).toNat 74).set ((5:Int)).toNat (wi .u8 (g.length:Int))).length) (by kernel_rfl) (by kernel_rfl) c4 (fun _=>rfl)) (.cons (len_ob (f:=Gl) (l:=g)) .nil))))))))))))))))))))))))))))))) (U6 hF (.b 0::.s (cR (cR (cR (cR (cR (cR (cR (cR (cR (cR (cR (cR (cR (bodyOf Try.f10))))))))))))))::[]) n g b9 o n 0 a4.ffuse a4.fsafe a4.fnow a4.fwait (cpyR ((q.set ((0:Int)).toNat 74).set ((5:Int)).toNat (wi .u8 (g.length:Int))) 1 (((q.set ((0:Int)).toNat 74).set ((5:Int)).toNat (wi .u8 (g.length:Int))).length) b2) ([]:List Ga) _ e0 ?_)
       cases d9 with
       | x0 e1 e2 e3 e4 e5 e6 =>
        try dsimp only at h
        obtain ⟨a6,e7,h⟩:=bind_some h
        obtain ⟨b3,e8,h⟩:=bind_some h
        obtain ⟨m,b4,h⟩:=bind_some h
        by_cases c5:0≤(0:Int)∧((0:Int)).toNat<m.length
        ·rw [if_pos c5] at h
         obtain ⟨e9,f0,h⟩:=bind_some h
         by_cases c6:((0:Int)≤1∧1≤((m.set ((0:Int)).toNat 67).length:Int))
         ·rw [if_pos c6] at h
          obtain ⟨a0,f1,h⟩:=bind_some h
          by_cases c7:(m.set ((0:Int)).toNat 67).length≤(m.set ((0:Int)).toNat 67).length
          ·rw [if_pos c7] at h
           by_cases c8:((0:Int)≤5∧5≤((cpyR (m.set ((0:Int)).toNat 67) 1 ((m.set ((0:Int)).toNat 67).length) a0).length:Int))
           ·rw [if_pos c8] at h
            obtain ⟨d1,f2,h⟩:=bind_some h
            obtain ⟨b5,f3,h⟩:=bind_some h
            by_cases c9:(cpyR (m.set ((0:Int)).toNat 67) 1 ((m.set ((0:Int)).toNat 67).length) a0).length≤(cpyR (m.set ((0:Int)).toNat 67) 1 ((m.set ((0:Int)).toNat 67).length) a0).length
            ·rw [if_pos c9] at h
             obtain ⟨a7,f4,h⟩:=bind_some h
             obtain ⟨a8,f5,h⟩:=bind_some h
             obtain ⟨b6,f6,h⟩:=bind_some h
             obtain ⟨b7,f7,h⟩:=bind_some h
             obtain rfl:=Option.some.inj h
             exact pendH_sound TTok mix 25 (hs:=[.c,.c,.u (di (g.length:Int)),.h [6,7,8,9] [] [.box [.srf 4,.srf 5,.srf 6,di a6.2.ffuse],.none,.none,.none,.row 5 1 (a6.2.fsafe.map (eI .u8)),.row 5 1 (a6.2.fnow.map (eI .u8)),.row 94 2 (a6.2.fwait.map Ge)] (di a6.1),.c,.h [6,80,81,82] [] [.box [.srf 4,.srf 5,.srf 6,di b3.ffuse],.none,.none,.none,.row 5 1 (b3.fsafe.map (eI .u8)),.row 5 1 (b3.fnow.map (eI .u8)),.row 94 2 (b3.fwait.map Ge)] (.tup []),.w (m.map (eI .u8)),.w ((m.set ((0:Int)).toNat 67).map (eI .u8)),.y ((eI .u8) e9),.e 140 [110] (.ssl 110 1 ((m.set ((0:Int)).toNat 67).length) 1) [],.c,.r ((eL (eI .u8)) a0),.e 170 [110] (di ((Nat.min a0.length ((m.set ((0:Int)).toNat 67).length-1):Nat):Int)) [(110,.row 5 1 ((cpyR (m.set ((0:Int)).toNat 67) 1 ((m.set ((0:Int)).toNat 67).length) a0).map (eI .u8)))],.e 180 [110] (.ssl 110 5 ((cpyR (m.set ((0:Int)).toNat 67) 1 ((m.set ((0:Int)).toNat 67).length) a0).length) 1) [],.r ((eI .u32) d1),.r ((eL (eI .u8)) b5),.e 200 [110] (di ((Nat.min b5.length ((cpyR (m.set ((0:Int)).toNat 67) 1 ((m.set ((0:Int)).toNat 67).length) a0).length-5):Nat):Int)) [(110,.row 5 1 ((cpyR (cpyR (m.set ((0:Int)).toNat 67) 1 ((m.set ((0:Int)).toNat 67).length) a0) 5 ((cpyR (m.set ((0:Int)).toNat 67) 1 ((m.set ((0:Int)).toNat 67).length) a0).length) b5).map (eI .u8)))],.dl 1,.fz 13,.c,.c,.h [6,105,106,107] [] [.box [.srf 4,.srf 5,.srf 6,di a7.2.ffuse],.none,.none,.none,.row 5 1 (a7.2.fsafe.map (eI .u8)),.row 5 1 (a7.2.fnow.map (eI .u8)),.row 94 2 (a7.2.fwait.map Ge)] (di a7.1),.dl 1,.fz 110,.c,.c,.u (di (g.length:Int)),.h [6,250,251,252] [] [.box [.srf 4,.srf 5,.srf 6,di a8.2.ffuse],.none,.none,.none,.row 5 1 (a8.2.fsafe.map (eI .u8)),.row 5 1 (a8.2.fnow.map (eI .u8)),.row 94 2 (a8.2.fwait.map Ge)] (di a8.1),.c,.h [6,320,321,322] [] [.box [.srf 4,.srf 5,.srf 6,di b6.ffuse],.none,.none,.none,.row 5 1 (b6.fsafe.map (eI .u8)),.row 5 1 (b6.fnow.map (eI .u8)),.row 94 2 (b6.fwait.map Ge)] (.tup []),.dl 1,.fz 14,.c,.h [6,345,346,347] [] [.box [.srf 4,.srf 5,.srf 6,di b7.2.ffuse],.none,.none,.none,.row 5 1 (b7.2.fsafe.map (eI .u8)),.row 5 1 (b7.2.fnow.map (eI .u8)),.row 94 2 (b7.2.fwait.map Ge)] (di b7.1)]) [5,6,10,11,12,375,376,377] (by kernel_rfl) (by kernel_rfl) (by kernel_rfl) (.cons (len_ob (f:=Gl) (l:=g)) (.cons (SX n (Gg.mk e2 e3 e4 e1) (wi .i64 ((wi .i64 (o.2.1.fat+1))+(g.length:Int))) b9 _ e7) (.cons (Zg n a6.2 _ e8) (.cons (mkL_ob (f:=(eI .u8)) (p:=.v (.int .u8 0)) b4 rfl).1 (.cons (mkL_ob (f:=(eI .u8)) (p:=.v (.int .u8 0)) b4 rfl).2.1 (.cons (mkL_ob (f:=(eI .u8)) (p:=.v (.int .u8 0)) b4 rfl).2.2.1 (.cons (mkL_ob (f:=(eI .u8)) (p:=.v (.int .u8 0)) b4 rfl).2.2.2.1 (.cons (mkL_ob (f:=(eI .u8)) (p:=.v (.int .u8 0)) b4 rfl).2.2.2.2 (.cons (idx_ob (f:=(eI .u8)) c5) (.cons (get_ob (f:=(eI .u8)) f0) (.cons (Eq.refl (pcells (.v (.int .u8 67)))) (.cons (set_ob (f:=(eI .u8)) (l:=m) (k:=((0:Int)).toNat) (z:=67) (p:=.v (.int .u8 67)) rfl) (.cons (xs10 (P:=Try.prog) (T:=TT) (f:=(eI .u8)) (t:=42) (e:=5) (s:=1) (l:=110) (L:=(m.set ((0:Int)).toNat 67)) (x:=(.tmp 125)) (lo:=(.const (.int .i64 1))) (a:=1) (ka:=.i64) (by kernel_rfl) c6) (.cons (Jd n (wi .u32 (o.2.1.fseq+1)) _ f1) (.cons (xcpD (P:=Try.prog) (T:=TT) (f:=(eI .u8)) (t:=42) (t':=42) (e:=5) (s:=1) (l:=110) (x:=(.tmp 126)) (y:=(.tmp 131)) (ti:=⟨1,1,.int .u8,[.i .u8]⟩) (L:=(m.set ((0:Int)).toNat 67)) (Y:=a0) (i:=1) (j:=(m.set ((0:Int)).toNat 67).length) (by kernel_rfl) (by kernel_rfl) c7 (fun _=>rfl)) (.cons (xs10 (P:=Try.prog) (T:=TT) (f:=(eI .u8)) (t:=42) (e:=5) (s:=1) (l:=110) (L:=(cpyR (m.set ((0:Int)).toNat 67) 1 ((m.set ((0:Int)).toNat 67).length) a0)) (x:=(.tmp 133)) (lo:=(.const (.int .i64 5))) (a:=5) (ka:=.i64) (by kernel_rfl) c8) (.cons (ZE n g _ f2) (.cons (Jd n d1 _ f3) (.cons (xcpD (P:=Try.prog) (T:=TT) (f:=(eI .u8)) (t:=42) (t':=42) (e:=5) (s:=1) (l:=110) (x:=(.tmp 134)) (y:=(.tmp 137)) (ti:=⟨1,1,.int .u8,[.i .u8]⟩) (L:=(cpyR (m.set ((0:Int)).toNat 67) 1 ((m.set ((0:Int)).toNat 67).length) a0)) (Y:=b5) (i:=5) (j:=(cpyR (m.set ((0:Int)).toNat 67) 1 ((m.set ((0:Int)).toNat 67).length) a0).length) (by kernel_rfl) (by kernel_rfl) c9 (fun _=>rfl)) (.cons (SX n b3 o.2.1.fat e5 _ f4) (.cons (len_ob (f:=Gl) (l:=g)) (.cons (SX n a7.2 (wi .i64 ((wi .i64 (o.2.1.fat+1))+(g.length:Int))) (cpyR (cpyR (m.set ((0:Int)).toNat 67) 1 ((m.set ((0:Int)).toNat 67).length) a0) 5 ((cpyR (m.set ((0:Int)).toNat 67) 1 ((m.set ((0:Int)).toNat 67).length) a0).length) b5) _ f5) (.cons (Zg n a8.2 _ f6) (.cons (Gce n b6 e6 _ f7) .nil))))))))))))))))))))))))
            ·rw [if_neg c9] at h; cases h
           ·rw [if_neg c8] at h; cases h
          ·rw [if_neg c7] at h; cases h
         ·rw [if_neg c6] at h; cases h
        ·rw [if_neg c5] at h; cases h
      ·rw [if_neg c4] at h; cases h
     ·rw [if_neg c3] at h; cases h
    ·rw [if_neg c2] at h; cases h
   ·rw [if_neg c1] at h; cases h
 ·rw [if_neg a9] at h
  obtain rfl:=Option.some.inj h
  exact pendH_sound TTok mix 12 (hs:=[.h [0,1,2,3,4] [] [.box [.ref 1 0,di o.2.1.fat,di o.2.1.fsize,.d (.v (.int .u32 o.2.1.fseq))],.box [.srf 5,.srf 6,.srf 7,di o.2.2.ffuse],.none,.none,.none,.row 5 1 (o.2.2.fsafe.map (eI .u8)),.row 5 1 (o.2.2.fnow.map (eI .u8)),.row 94 2 (o.2.2.fwait.map Ge)] (di o.1),.t true]) [0,1,2,3,4,25,26,27] (by kernel_rfl) (by kernel_rfl) (by kernel_rfl) (.cons (XL n a2 a1 g _ c0) (.cons (nt a9) .nil))
inductive XH where
 | x0 (a:(List Gd))
def Gbd:XH→Ex
 | .x0 _=>.exit 0
def Gbe (b:(List Gh)):XH→PS
 | .x0 a=>⟨(dd::dd::dd::.srf 0::(dds 19 [])),[.row 57 2 (a.map Gc)]⟩
def Gbf (a:(List Gh)) (b:Int) (c:(List Gd)):PS:=⟨(dd::dd::dd::.srf 0::dd::dd::.d (.sl (a.map Gl))::di (a.length:Int)::di b::(dds 14 [])),[.row 57 2 (c.map Gc)]⟩
def K5 (n:Nat) (a:(List Gh)):Nat→Int→(List Gd)→Option XH
 | 0,_,_=>none
 | k+1,b,c =>
  if b<(a.length:Int) then
   (getI a b).bind fun (d:Gh) =>
   (app 24 c ([(Gd.mk d.fSector (b2s d.fData))])).bind fun (e:(List Gd)) =>
   K5 n a k (wi .i64 (b+1)) e
  else
   some (.x0 c)
theorem Jp {Fi:Ex→PS→Prop} (hF:KC 23 Fi) (ks:List Fr) (n:Nat) (b:(List Gh))  : ∀ (k:Nat) (a:Int) (g:(List Gd)) (o:XH),K5 n b k a g=some o→RunE Try.prog 23 Fi ks (Gbd o) (Gbe b o)→RunE Try.prog 23 Fi (.l k (cP (cB (cR (cL (cR (cR (bodyOf Try.f12)))))))::ks) .normal (Gbf b a g)
 | 0,a,g,o,h,q=>by rw [K5] at h; cases h
 | k+1,a,g,o,h,q=>by
  rw [K5] at h
  by_cases i:a<(b.length:Int)
  ·rw [if_pos i] at h
   obtain ⟨m,r,h⟩:=bind_some h
   obtain ⟨p,j,h⟩:=bind_some h
   exact pkk_sound TTok mix hF 13 (hs:=[.t true,.y (Gl m),.c,.c,.c,.e 51 [] (.d (.v (.string (b2s m.fData)))) [],.bd,.w (p.map Gc)]) (ts:=[]) (s:=[66]) (l:=[3,6,7,8]) (by kernel_rfl) (by kernel_rfl) (.cons (dt i) (.cons (getI_ob (f:=Gl) r) (.cons (show 0+2≤2 by decide) (.cons (xb2sD (L:=m.fData) (P:=Try.prog) (T:=TT) (src:=42) (dst:=9) (e:=5) (s:=1) (x:=(.tmp 16)) (by kernel_rfl) (by kernel_rfl) (by kernel_rfl)) (.cons (app_ob (f:=Gc) (s:=2) j (fun _=>rfl)).1 (.cons (app_ob (f:=Gc) (s:=2) j (fun _=>rfl)).2.1 (.cons (app_ob (f:=Gc) (s:=2) j (fun _=>rfl)).2.2.1 (.cons (app_ob (f:=Gc) (s:=2) j (fun _=>rfl)).2.2.2 .nil)))))))) (Jp hF ks n b k (wi .i64 (a+1)) p _ h q)
  ·rw [if_neg i] at h
   cases h
   exact pkk_sound TTok mix hF 8 (hs:=[.t false]) (ts:=[]) (s:=[0]) (l:=[3]) (by kernel_rfl) (by kernel_rfl) (.cons (df i) .nil) q
/- ringhall/ringlaw3.puts -/
def YI (n:Nat) (a:(List Gh)):Option ((List Gd)) :=
 (K5 n a n 0 ([]:List Gd)).bind fun b=>match b with
 | .x0 c =>
  some c
theorem Sn (n:Nat) (a:(List Gh)) (r:(List Gd)) (h:YI n a=some r):Ret Try.prog 12 [(eL Gl) a] ((eL Gc) r):=by
 refine ret_run (n:=23) (fn:=Try.f12) (c:=bodyOf Try.f12) (by kernel_rfl) (by kernel_rfl) (by kernel_rfl) (by kernel_rfl) ?_
 have hF:KC 23 (FinR Try.prog Try.f12 ((eL Gc) r)):=FinR.kc' (by kernel_rfl)
 unfold YI at h
 obtain ⟨e,g,h⟩:=bind_some h
 refine pkk_sound TTok mix hF 9 (hs:=[.u (di (a.length:Int)),.n n]) (ts:=[(3,57,2)]) (s:=[25]) (l:=[3,6,7,8]) (by kernel_rfl) (by kernel_rfl) (.cons (len_ob (f:=Gl) (l:=a)) .nil) (Jp hF (.b 0::.s (cR (cR (cR (bodyOf Try.f12))))::[]) n a n 0 ([]:List Gd) _ g ?_)
 cases e with
 | x0 i =>
  try dsimp only at h
  obtain rfl:=Option.some.inj h
  exact pend_sound TTok mix 4 (hs:=[]) (by kernel_rfl) (by kernel_rfl) (by kernel_rfl) .nil
/- (*ringhall/ringref3.Disk).Flush -/
def GE (n:Nat) (b:Gf):Option (Gf) :=
 (KO n b).bind fun (a:(Bool×Gf)) =>
 if a.1=true then
  some (Gf.mk a.2.fSectors (a.2.fAll.length:Int) a.2.fFuse a.2.fAll)
 else
  some a.2
theorem Zd (n:Nat) (b r:Gf) (h:GE n b=some r):RetH Try.prog 39 [.ref 0 0] [.box [di b.fSectors,di b.fMark,di b.fFuse,.srf 1],.cu (rowF 57 2 (b.fAll.map Gc)) []] (.tup []) [.box [di r.fSectors,di r.fMark,di r.fFuse,.srf 2],.none,.cu (rowF 57 2 (r.fAll.map Gc)) []]:=by
 refine retH_run (n:=12) (fn:=Try.f39) (c:=bodyOf Try.f39) (by kernel_rfl) (by kernel_rfl) (by kernel_rfl) (by kernel_rfl) ?_
 have hF:KC 12 (FinH Try.prog Try.f39 [.box [di b.fSectors,di b.fMark,di b.fFuse,.srf 1],.cu (rowF 57 2 (b.fAll.map Gc)) []] (.tup []) [.box [di r.fSectors,di r.fMark,di r.fFuse,.srf 2],.none,.cu (rowF 57 2 (r.fAll.map Gc)) []]):=FinH.kc' (by kernel_rfl)
 unfold GE at h
 obtain ⟨a,g,h⟩:=bind_some h
 by_cases f:a.1=true
 ·rw [if_pos f] at h
  obtain rfl:=Option.some.inj h
  exact pendH_sound TTok mix 4 (hs:=[.h [0,1] [] [.box [di a.2.fSectors,di a.2.fMark,di a.2.fFuse,.srf 2],.none,.cu (rowF 57 2 (a.2.fAll.map Gc)) []] (.d (.v (.bool a.1))),.t true,.c,.e 39 [9] (di (a.2.fAll.length:Int)) [],.c]) [0,1,9] (by kernel_rfl) (by kernel_rfl) (by kernel_rfl) (.cons (Yz n b _ g) (.cons f (.cons (lmap' (flen (P:=Try.prog) (T:=TT) (t:=47) (l:=9) (e:=57) (s:=2) (xs:=(a.2.fAll.map Gc)) (x:=(.tmp 8)) (by kernel_rfl))) (.cons (show 1+1≤4 by decide) .nil))))
 ·rw [if_neg f] at h
  obtain rfl:=Option.some.inj h
  exact pendH_sound TTok mix 4 (hs:=[.h [0,1] [] [.box [di a.2.fSectors,di a.2.fMark,di a.2.fFuse,.srf 2],.none,.cu (rowF 57 2 (a.2.fAll.map Gc)) []] (.d (.v (.bool a.1))),.t false]) [0,1,9] (by kernel_rfl) (by kernel_rfl) (by kernel_rfl) (.cons (Yz n b _ g) (.cons (vf f) .nil))
/- ringhall/ringref3.pad -/
def ZP (n:Nat) (a:ByteArray):Option (ByteArray) :=
 (Yo n (ByteArray.mk #[0]) (wi .i64 (64-(a.size:Int)))).bind fun (b:(ByteArray)) =>
 (catS a b).bind fun (c:ByteArray) =>
 some c
theorem UF (n:Nat) (a r:ByteArray) (h:ZP n a=some r):Ret Try.prog 40 [eS a] (eS r):=by
 refine ret_run (n:=9) (fn:=Try.f40) (c:=bodyOf Try.f40) (by kernel_rfl) (by kernel_rfl) (by kernel_rfl) (by kernel_rfl) ?_
 have hF:KC 9 (FinR Try.prog Try.f40 (eS r)):=FinR.kc' (by kernel_rfl)
 unfold ZP at h
 obtain ⟨b,g,h⟩:=bind_some h
 obtain ⟨f,i,h⟩:=bind_some h
 obtain rfl:=Option.some.inj h
 exact pend_sound TTok mix 5 (hs:=[.r (eS b),.e 30 [] (.d (.v (.string f))) []]) (by kernel_rfl) (by kernel_rfl) (by kernel_rfl) (.cons (MH n (ByteArray.mk #[0]) (wi .i64 (64-(a.size:Int))) _ g) (.cons (xcatS (P:=Try.prog) (T:=TT) (t:=9) (ty':=9) (x:=(.tmp 3)) (y:=(.tmp 7)) (p:=a) (q:=b) (r:=f) i) .nil))
inductive YJ where
 | x0 (a b:(List Gj))
 | x1 (c d:(List Gj))
def Gac:YJ→Ex
 | .x0 _ _=>.exit 2
 | .x1 _ _=>.exit 2
def Gad (a b c:Int):YJ→PS
 | .x0 e f=>⟨(.ref 5 0::.ref 6 0::.ref 9 0::di a::dd::dd::di b::(dds 27 [])),[.gh 0 (.ref 5 0),.gh 1 (.ref 6 0),.gh 2 (.srf 8),.gh 3 (.ref 9 0),.gh 4 (.srf 11),.box [di a],.box [.srf 7],.row 89 2 (e.map Gm),.none,.box [.srf 10],.row 89 2 (f.map Gm),.none]⟩
 | .x1 g h=>⟨(.ref 5 0::.ref 6 0::.ref 9 0::di a::dd::dd::di b::(dds 27 [])),[.gh 0 (.ref 5 0),.gh 1 (.ref 6 0),.gh 2 (.srf 8),.gh 3 (.ref 9 0),.gh 4 (.srf 11),.box [di c],.box [.srf 7],.row 89 2 (g.map Gm),.none,.box [.srf 10],.row 89 2 (h.map Gm),.none]⟩
def Gae (a b c e:Int) (f g:(List Gj)):PS:=⟨(.ref 5 0::.ref 6 0::.ref 9 0::di a::di e::dd::di b::(dds 27 [])),[.gh 0 (.ref 5 0),.gh 1 (.ref 6 0),.gh 2 (.srf 8),.gh 3 (.ref 9 0),.gh 4 (.srf 11),.box [di c],.box [.srf 7],.row 89 2 (f.map Gm),.none,.box [.srf 10],.row 89 2 (g.map Gm),.none]⟩
def Kn (n:Nat) (d e f:Int):Nat→Int→(List Gj)→(List Gj)→Option YJ
 | 0,_,_,_=>none
 | k+1,a,b,c =>
  if a≥0 then
   if 0≤a∧(a).toNat<b.length then
    (b[(a).toNat]?).bind fun (g:Gj) =>
    if g.fN=d then
     if 0≤a∧(a).toNat<b.length then
      (b[(a).toNat]?).bind fun (h:Gj) =>
      (app 24 c ([h])).bind fun (i:(List Gj)) =>
      some (.x0 b i)
     else none
    else
     Kn n d e f k (wi .i64 (a-1)) b c
   else none
  else
   some (.x1 b c)
theorem V1 {Fi:Ex→PS→Prop} (hF:KC 34 Fi) (ks:List Fr) (n:Nat) (d i j:Int)  : ∀ (k:Nat) (a:Int) (b e:(List Gj)) (o:YJ),Kn n d i j k a b e=some o→RunE Try.prog 34 Fi ks (Gac o) (Gad d i j o)→RunE Try.prog 34 Fi (.l k (cP (cB (cR (cL (cB (cL (cR (cR (cP (cB (cR (cL (cR (bodyOf Try.f51))))))))))))))::ks) .normal (Gae d i j a b e)
 | 0,a,b,e,o,h,q=>by rw [Kn] at h; cases h
 | k+1,a,b,e,o,h,q=>by
  rw [Kn] at h
  by_cases g:a≥0
  ·rw [if_pos g] at h
   by_cases m:0≤a∧(a).toNat<b.length
   ·rw [if_pos m] at h
    obtain ⟨u,x,h⟩:=bind_some h
    by_cases p:u.fN=d
    ·rw [if_pos p] at h
     by_cases v:0≤a∧(a).toNat<b.length
     ·rw [if_pos v] at h
      obtain ⟨z,a0,h⟩:=bind_some h
      obtain ⟨a1,r,h⟩:=bind_some h
      cases h
      exact pkk_sound TTok mix hF 19 (hs:=[.t true,.c,.y (Gm u),.t true,.c,.c,.y (Gm z),.bd,.w (a1.map Gm),.c,.c]) (ts:=[]) (s:=[0,1,2,3,4,5,6,7,8,9,87,11]) (l:=[0,1,2,3,6]) (by kernel_rfl) (by kernel_rfl) (.cons (dt g) (.cons (idx_ob (f:=Gm) m) (.cons (get_ob (f:=Gm) x) (.cons (bt p) (.cons (idx_ob (f:=Gm) v) (.cons (get_ob (f:=Gm) a0) (.cons (app_ob (f:=Gm) (s:=2) r (fun _=>rfl)).1 (.cons (app_ob (f:=Gm) (s:=2) r (fun _=>rfl)).2.1 (.cons (app_ob (f:=Gm) (s:=2) r (fun _=>rfl)).2.2.1 (.cons (app_ob (f:=Gm) (s:=2) r (fun _=>rfl)).2.2.2 (.cons (show 0+1≤1 by decide) (.cons (show 0+1≤1 by decide) .nil)))))))))))) q
     ·rw [if_neg v] at h; cases h
    ·rw [if_neg p] at h
     exact pkk_sound TTok mix hF 14 (hs:=[.t true,.c,.y (Gm u),.t false]) (ts:=[]) (s:=[0,1,2,3,4,5,6,7,8,9,10,11]) (l:=[0,1,2,3,4,6]) (by kernel_rfl) (by kernel_rfl) (.cons (dt g) (.cons (idx_ob (f:=Gm) m) (.cons (get_ob (f:=Gm) x) (.cons (bf p) .nil)))) (V1 hF ks n d i j k (wi .i64 (a-1)) b e _ h q)
   ·rw [if_neg m] at h; cases h
  ·rw [if_neg g] at h
   cases h
   exact pkk_sound TTok mix hF 8 (hs:=[.t false]) (ts:=[]) (s:=[0,1,2,3,4,5,6,7,8,9,10,11]) (l:=[0,1,2,3,6]) (by kernel_rfl) (by kernel_rfl) (.cons (df g) .nil) q
inductive YK where
 | x0 (a:Int) (b c:(List Gj))
def Gaf:YK→Ex
 | .x0 _ _ _=>.exit 0
def Gag  : YK→PS
 | .x0 a b c=>⟨(dd::.ref 6 0::(dds 32 [])),[.gh 0 (.ref 5 0),.gh 1 (.ref 6 0),.gh 2 (.srf 8),.gh 3 (.ref 9 0),.gh 4 (.srf 11),.box [di a],.box [.srf 7],.row 89 2 (b.map Gm),.none,.box [.srf 10],.row 89 2 (c.map Gm),.none]⟩
def Gah  (a b c:Int) (e f:(List Gj)):PS:=⟨(.ref 5 0::.ref 6 0::.ref 9 0::di a::dd::dd::di b::(dds 27 [])),[.gh 0 (.ref 5 0),.gh 1 (.ref 6 0),.gh 2 (.srf 8),.gh 3 (.ref 9 0),.gh 4 (.srf 11),.box [di c],.box [.srf 7],.row 89 2 (e.map Gm),.none,.box [.srf 10],.row 89 2 (f.map Gm),.none]⟩
def SZ (n:Nat)  : Nat→Int→Int→Int→(List Gj)→(List Gj)→Option YK
 | 0,_,_,_,_,_=>none
 | k+1,a,b,c,d,e =>
  if b<256 then
   (Kn n a b c n (wi .i64 ((d.length:Int)-1)) d e).bind fun f=>match f with
   | .x0 g h =>
    SZ n  k (remI (wi .i64 (a+1)) 256) (wi .i64 (b+1)) a g h
   | .x1 i j =>
    SZ n  k (remI (wi .i64 (a+1)) 256) (wi .i64 (b+1)) c i j
  else
   some (.x0 c d e)
theorem XI {Fi:Ex→PS→Prop} (hF:KC 34 Fi) (ks:List Fr) (n:Nat)   : ∀ (k:Nat) (a e i:Int) (g j:(List Gj)) (o:YK),SZ n  k a e i g j=some o→RunE Try.prog 34 Fi ks (Gaf o) (Gag  o)→RunE Try.prog 34 Fi (.l k (cP (cB (cR (cL (cR (bodyOf Try.f51))))))::ks) .normal (Gah  a e i g j)
 | 0,a,e,i,g,j,o,h,q=>by rw [SZ] at h; cases h
 | k+1,a,e,i,g,j,o,h,q=>by
  rw [SZ] at h
  by_cases m:e<256
  ·rw [if_pos m] at h
   obtain ⟨p,r,h⟩:=bind_some h
   refine pkk_sound TTok mix hF 13 (hs:=[.t true,.c,.u (di (g.length:Int)),.n n]) (ts:=[]) (s:=[0,1,2,3,4,5,6,7,8,9,10,11]) (l:=[0,1,2,3,4,6]) (by kernel_rfl) (by kernel_rfl) (.cons (dt m) (.cons (len_ob (f:=Gm) (l:=g)) .nil)) (V1 hF (.b 2::.s (cR (cB (cL (cR (cR (cP (cB (cR (cL (cR (bodyOf Try.f51)))))))))))::.b 1::.s (cR (cR (cR (cP (cB (cR (cL (cR (bodyOf Try.f51)))))))))::.l k (cP (cB (cR (cL (cR (bodyOf Try.f51))))))::ks) n a e i n (wi .i64 ((g.length:Int)-1)) g j _ r ?_)
   cases p with
   | x0 w x =>
    try dsimp only at h
    exact pkk_sound TTok mix hF 4 (hs:=[]) (ts:=[]) (s:=[0,1,2,3,4,5,6,7,8,9,10,11]) (l:=[0,1,2,3,6]) (by kernel_rfl) (by kernel_rfl) (.cons (show (256:Int)≠0 by decide) .nil) (XI hF ks n  k (remI (wi .i64 (a+1)) 256) (wi .i64 (e+1)) a w x _ h q)
   | x1 y z =>
    try dsimp only at h
    exact pkk_sound TTok mix hF 4 (hs:=[]) (ts:=[]) (s:=[0,1,2,3,4,5,6,7,8,9,10,11]) (l:=[0,1,2,3,6]) (by kernel_rfl) (by kernel_rfl) (.cons (show (256:Int)≠0 by decide) .nil) (XI hF ks n  k (remI (wi .i64 (a+1)) 256) (wi .i64 (e+1)) i y z _ h q)
  ·rw [if_neg m] at h
   cases h
   exact pkk_sound TTok mix hF 8 (hs:=[.t false]) (ts:=[]) (s:=[0,1,2,3,4,5,6,7,8,9,10,11]) (l:=[1]) (by kernel_rfl) (by kernel_rfl) (.cons (df m) .nil) q
/- ringhall/ringref3.Lift$1 -/
def Yc (n:Nat) (a:Int) (b c:(List Gj)):Option (Int×(List Gj)×(List Gj)) :=
 (SZ n  n a 0 a b c).bind fun d=>match d with
 | .x0 e g f =>
  some (e,([]:List Gj),f)
theorem Jk (n:Nat) (a:Int) (e f:(List Gj)) (r:Int×(List Gj)×(List Gj)) (h:Yc n a e f=some r):RetH Try.prog 51 [.ref 0 0,.ref 1 0,.ref 3 0] [.box [di a],.box [.srf 2],.row 89 2 (e.map Gm),.box [.srf 4],.row 89 2 (f.map Gm)] (.tup []) [.box [di r.1],.box [.srf 5],.none,.box [.srf 6],.none,.row 89 2 (r.2.1.map Gm),.row 89 2 (r.2.2.map Gm)]:=by
 refine retH_run (n:=34) (fn:=Try.f51) (c:=bodyOf Try.f51) (by kernel_rfl) (by kernel_rfl) (by kernel_rfl) (by kernel_rfl) ?_
 have hF:KC 34 (FinH Try.prog Try.f51 [.box [di a],.box [.srf 2],.row 89 2 (e.map Gm),.box [.srf 4],.row 89 2 (f.map Gm)] (.tup []) [.box [di r.1],.box [.srf 5],.none,.box [.srf 6],.none,.row 89 2 (r.2.1.map Gm),.row 89 2 (r.2.2.map Gm)]):=FinH.kc' (by kernel_rfl)
 unfold Yc at h
 obtain ⟨g,i,h⟩:=bind_some h
 refine pkk_sound TTok mix hF 9 (hs:=[.c,.dl 4,.mv 2,.mv 4,.n n]) (ts:=[]) (s:=[5,6,7,8,9,0,1,25,2,3,26,4]) (l:=[0,1,2,3,6]) (by kernel_rfl) (by kernel_rfl) .nil (XI hF (.b 0::.s (cR (cR (bodyOf Try.f51)))::[]) n  n a 0 a e f _ i ?_)
 cases g with
 | x0 j k m =>
  try dsimp only at h
  obtain rfl:=Option.some.inj h
  exact pendH_sound TTok mix 3 (hs:=[.c,.tb 6 0 89 2]) [5,6,8,9,11,17,10] (by kernel_rfl) (by kernel_rfl) (by kernel_rfl) (.cons (show 0+1≤1 by decide) .nil)
inductive XJ where
 | x0 (a:(List Gj)) (b:Int) (c:(List Gj))
def Gbg:XJ→Ex
 | .x0 _ _ _=>.exit 0
def Gbh (e:(List Gj)):XJ→PS
 | .x0 a b c=>⟨(dd::dd::dd::dd::dd::.ref 0 0::dd::.clo 51 [.ref 2 0,.ref 3 0,.ref 0 0]::(dds 26 [])),[.box [.srf 1],.row 89 2 (a.map Gm),.box [di b],.box [.srf 4],.row 89 2 (c.map Gm)]⟩
def Gbi (a:(List Gj)) (b:Int) (c e:(List Gj)) (f:Int):PS:=⟨(dd::dd::dd::dd::dd::.ref 0 0::.ref 2 0::.clo 51 [.ref 4 0,.ref 2 0,.ref 0 0]::dd::dd::dd::.d (.sl (a.map Gm))::di (a.length:Int)::di b::(dds 20 [])),[.box [.srf 1],.row 89 2 (c.map Gm),.box [.srf 3],.row 89 2 (e.map Gm),.box [di f]]⟩
def KN (n:Nat) (a:(List Gj)):Nat→Int→(List Gj)→(List Gj)→Int→Option XJ
 | 0,_,_,_,_=>none
 | k+1,b,c,d,e =>
  if b<(a.length:Int) then
   (getI a b).bind fun (g:Gj) =>
   if g.fN<0 then
    (Yc n e d c).bind fun (f:(Int×(List Gj)×(List Gj))) =>
    (app 24 f.2.2 ([(Gj.mk (-1) (ByteArray.mk #[]))])).bind fun (h:(List Gj)) =>
    KN n a k (wi .i64 (b+1)) h f.2.1 f.1
   else
    (app 24 d ([g])).bind fun (i:(List Gj)) =>
    KN n a k (wi .i64 (b+1)) c i e
  else
   some (.x0 c e d)
theorem U7 {Fi:Ex→PS→Prop} (hF:KC 34 Fi) (ks:List Fr) (n:Nat) (b:(List Gj))  : ∀ (k:Nat) (a:Int) (e i:(List Gj)) (g:Int) (o:XJ),KN n b k a e i g=some o→RunE Try.prog 34 Fi ks (Gbg o) (Gbh b o)→RunE Try.prog 34 Fi (.l k (cP (cB (cR (cL (cR (cR (cR (bodyOf Try.f42))))))))::ks) .normal (Gbi b a e i g)
 | 0,a,e,i,g,o,h,q=>by rw [KN] at h; cases h
 | k+1,a,e,i,g,o,h,q=>by
  rw [KN] at h
  by_cases j:a<(b.length:Int)
  ·rw [if_pos j] at h
   obtain ⟨x,z,h⟩:=bind_some h
   by_cases p:x.fN<0
   ·rw [if_pos p] at h
    obtain ⟨m,a2,h⟩:=bind_some h
    obtain ⟨a0,r,h⟩:=bind_some h
    exact pkk_sound TTok mix hF 18 (hs:=[.t true,.y (Gm x),.c,.c,.t true,.h [4,2,3,0,1] [] [.box [di m.1],.box [.srf 5],.none,.box [.srf 6],.none,.row 89 2 (m.2.1.map Gm),.row 89 2 (m.2.2.map Gm)] (.tup []),.c,.bd,.w (a0.map Gm),.c]) (ts:=[]) (s:=[0,70,2,50,4]) (l:=[5,6,7,11,12,13]) (by kernel_rfl) (by kernel_rfl) (.cons (dt j) (.cons (getI_ob (f:=Gm) z) (.cons (show 0+2≤2 by decide) (.cons (dt p) (.cons (Jk n g i e _ a2) (.cons (app_ob (f:=Gm) (s:=2) r (fun _=>rfl)).1 (.cons (app_ob (f:=Gm) (s:=2) r (fun _=>rfl)).2.1 (.cons (app_ob (f:=Gm) (s:=2) r (fun _=>rfl)).2.2.1 (.cons (app_ob (f:=Gm) (s:=2) r (fun _=>rfl)).2.2.2 (.cons (show 0+1≤1 by decide) .nil)))))))))) (U7 hF ks n b k (wi .i64 (a+1)) a0 m.2.1 m.1 _ h q)
   ·rw [if_neg p] at h
    obtain ⟨a1,u,h⟩:=bind_some h
    exact pkk_sound TTok mix hF 16 (hs:=[.t true,.y (Gm x),.c,.c,.t false,.c,.c,.bd,.w (a1.map Gm),.c]) (ts:=[]) (s:=[0,1,2,60,4]) (l:=[5,6,7,11,12,13]) (by kernel_rfl) (by kernel_rfl) (.cons (dt j) (.cons (getI_ob (f:=Gm) z) (.cons (show 0+2≤2 by decide) (.cons (df p) (.cons (app_ob (f:=Gm) (s:=2) u (fun _=>rfl)).1 (.cons (app_ob (f:=Gm) (s:=2) u (fun _=>rfl)).2.1 (.cons (app_ob (f:=Gm) (s:=2) u (fun _=>rfl)).2.2.1 (.cons (app_ob (f:=Gm) (s:=2) u (fun _=>rfl)).2.2.2 (.cons (show 0+1≤1 by decide) .nil))))))))) (U7 hF ks n b k (wi .i64 (a+1)) e a1 g _ h q)
  ·rw [if_neg j] at h
   cases h
   exact pkk_sound TTok mix hF 8 (hs:=[.t false]) (ts:=[]) (s:=[0,1,4,2,3]) (l:=[5,7]) (by kernel_rfl) (by kernel_rfl) (.cons (df j) .nil) q
/- ringhall/ringref3.Lift -/
def YL (n:Nat) (a:(List Gj)) (b:Int):Option ((List Gj)) :=
 (KN n a n 0 ([]:List Gj) ([]:List Gj) b).bind fun c=>match c with
 | .x0 d e f =>
  (Yc n e f d).bind fun (g:(Int×(List Gj)×(List Gj))) =>
  some g.2.2
theorem Gb6 (n:Nat) (a:(List Gj)) (e:Int) (r:(List Gj)) (h:YL n a e=some r):Ret Try.prog 42 [(eL Gm) a,(eI .i64) e] ((eL Gm) r):=by
 refine ret_run (n:=34) (fn:=Try.f42) (c:=bodyOf Try.f42) (by kernel_rfl) (by kernel_rfl) (by kernel_rfl) (by kernel_rfl) ?_
 have hF:KC 34 (FinR Try.prog Try.f42 ((eL Gm) r)):=FinR.kc' (by kernel_rfl)
 unfold YL at h
 obtain ⟨i,j,h⟩:=bind_some h
 refine pkk_sound TTok mix hF 13 (hs:=[.u (di (a.length:Int)),.dl 1,.tb 10 0 89 2,.tb 15 0 89 2,.n n]) (ts:=[]) (s:=[10,45,15,46,0]) (l:=[5,6,7,11,12,13]) (by kernel_rfl) (by kernel_rfl) (.cons (len_ob (f:=Gm) (l:=a)) .nil) (U7 hF (.b 0::.s (cR (cR (cR (cR (bodyOf Try.f42)))))::[]) n a n 0 ([]:List Gj) ([]:List Gj) e _ j ?_)
 cases i with
 | x0 k m o =>
  try dsimp only at h
  obtain ⟨g,p,h⟩:=bind_some h
  obtain rfl:=Option.some.inj h
  exact pend_sound TTok mix 6 (hs:=[.h [2,3,4,0,1] [] [.box [di g.1],.box [.srf 5],.none,.box [.srf 6],.none,.row 89 2 (g.2.1.map Gm),.row 89 2 (g.2.2.map Gm)] (.tup []),.c]) (by kernel_rfl) (by kernel_rfl) (by kernel_rfl) (.cons (Jk n m o k _ p) .nil)
inductive ZQ where
 | x0 (a:Bool) (b:(List Gd)) (c:(List Gj))
 | x1 (d:Bool) (e f g h i j:Int) (k:(List Gd)) (l:(List Gj))
def J3:ZQ→Ex
 | .x0 _ _ _=>.normal
 | .x1 _ _ _ _ _ _ _ _ _=>.normal
def J4 (a:(List Gd)) (b e f g h i j:Int) (x:(List Gd)) (y:(List Gj)) (c:Gd):ZQ→PS
 | .x0 k l m=>⟨(.ref 3 0::.d (.sl (a.map Gc))::dd::dd::dd::.srf 7::di b::.ref 8 0::(dds 15 (.d (.sl (a.map Gc))::di (a.length:Int)::di b::(dds 30 (.d (.v (.bool k))::(dds 170 [])))))),[.gh 0 (.ref 3 0),.gh 1 (.ref 4 0),.gh 2 (.srf 6),.box [.ref 4 0,di e,di f,.d (.v (.int .u32 g))],.box [di h,di i,di j,.srf 5],.cu (rowF 57 2 (l.map Gc)) [],.none,.row 89 2 (m.map Gm),.box [di c.fN,.d (.v (.string c.fData))]]⟩
 | .x1 n o p q r s t u w=>⟨(.ref 3 0::.d (.sl (a.map Gc))::dd::dd::dd::.srf 7::di b::.ref 8 0::(dds 15 (.d (.sl (a.map Gc))::di (a.length:Int)::di b::(dds 30 (.d (.v (.bool n))::(dds 170 [])))))),[.gh 0 (.ref 3 0),.gh 1 (.ref 4 0),.gh 2 (.srf 6),.box [.ref 4 0,di o,di p,.d (.v (.int .u32 q))],.box [di r,di s,di t,.srf 5],.cu (rowF 57 2 (u.map Gc)) [],.none,.row 89 2 (w.map Gm),.box [di c.fN,.d (.v (.string c.fData))]]⟩
def J5 (a:(List Gd)) (b e f g h i j:Int) (k:(List Gd)) (l:(List Gj)) (c:Gd)  : PS:=⟨(.ref 3 0::.d (.sl (a.map Gc))::dd::dd::dd::.srf 7::di b::.ref 8 0::(dds 15 (.d (.sl (a.map Gc))::di (a.length:Int)::di b::(dds 201 [])))),[.gh 0 (.ref 3 0),.gh 1 (.ref 4 0),.gh 2 (.srf 6),.box [.ref 4 0,di e,di f,.d (.v (.int .u32 g))],.box [di h,di i,di j,.srf 5],.cu (rowF 57 2 (k.map Gc)) [],.none,.row 89 2 (l.map Gm),.box [di c.fN,.d (.v (.string c.fData))]]⟩
def Yi (n:Nat) (k:(List Gd)) (l f g h e i j:Int) (d:(List Gd)) (b:(List Gj)) (c:Gd):Option ZQ :=
 if c.fN<0 then
  some (.x0 true d b)
 else
  if c.fN≥e then
   some (.x0 true d b)
  else
   (Zt n (Gt.mk () f g h) (Gf.mk e i j d) c.fN).bind fun (a:(Bool×Gt×Gf)) =>
   if a.1=true then
    some (.x1 true a.2.1.fAt a.2.1.fSize a.2.1.fSeq a.2.2.fSectors a.2.2.fMark a.2.2.fFuse a.2.2.fAll b)
   else
    some (.x1 ((c.fData.size:Int) != 64) a.2.1.fAt a.2.1.fSize a.2.1.fSeq a.2.2.fSectors a.2.2.fMark a.2.2.fFuse a.2.2.fAll b)
theorem J6 {Fi:Ex→PS→Prop} (hF:KC 227 Fi) (ks:List Fr) (n:Nat) (w:(List Gd)) (x g i j e k m:Int) (p:(List Gd)) (y:(List Gj)) (b:Gd)  (o:ZQ) (h:Yi n w x g i j e k m p y b=some o) (q:RunE Try.prog 227 Fi ks (J3 o) (J4 w x g i j e k m p y b o)):RunE Try.prog 227 Fi (.s (cL (cL (cR (cB (cL (cR (cR (cP (cB (cR (cL (cR (cR (cR (bodyOf Try.f11)))))))))))))))::ks) .normal (J5 w x g i j e k m p y b):=by
 unfold Yi at h
 by_cases f:b.fN<0
 ·rw [if_pos f] at h
  cases h
  exact pkk_sound TTok mix hF 1 (hs:=[.c,.t true,.c,.c,.c,.c,.c,.c,.c,.c,.c,.c,.c,.c,.c,.c,.c,.c,.c]) (ts:=[]) (s:=[0,1,2,3,4,5,6,7,8]) (l:=[0,1,5,6,7,23,24,25,56]) (by kernel_rfl) (by kernel_rfl) (.cons (dt f) .nil) q
 ·rw [if_neg f] at h
  by_cases r:b.fN≥e
  ·rw [if_pos r] at h
   cases h
   exact pkk_sound TTok mix hF 1 (hs:=[.c,.t false,.c,.c,.c,.c,.c,.c,.c,.c,.c,.c,.c,.c,.t true,.c,.c,.c,.c,.c,.c,.c]) (ts:=[]) (s:=[0,1,2,3,4,5,6,7,8]) (l:=[0,1,5,6,7,23,24,25,56]) (by kernel_rfl) (by kernel_rfl) (.cons (df f) (.cons (dt r) .nil)) q
  ·rw [if_neg r] at h
   obtain ⟨a,z,h⟩:=bind_some h
   by_cases u:a.1=true
   ·rw [if_pos u] at h
    cases h
    exact pkk_sound TTok mix hF 1 (hs:=[.c,.t false,.c,.c,.c,.c,.c,.c,.c,.c,.c,.c,.c,.c,.t false,.c,.c,.c,.c,.h [3,4,5] [] [.box [.ref 1 0,di a.2.1.fAt,di a.2.1.fSize,.d (.v (.int .u32 a.2.1.fSeq))],.box [di a.2.2.fSectors,di a.2.2.fMark,di a.2.2.fFuse,.srf 3],.none,.cu (rowF 57 2 (a.2.2.fAll.map Gc)) []] (.d (.v (.bool a.1))),.t true,.c,.c,.c]) (ts:=[]) (s:=[0,1,2,3,4,104,6,7,8]) (l:=[0,1,5,6,7,23,24,25,56]) (by kernel_rfl) (by kernel_rfl) (.cons (df f) (.cons (df r) (.cons (YF n (Gt.mk () g i j) (Gf.mk e k m p) b.fN _ z) (.cons u .nil)))) q
   ·rw [if_neg u] at h
    cases h
    exact pkk_sound TTok mix hF 1 (hs:=[.c,.t false,.c,.c,.c,.c,.c,.c,.c,.c,.c,.c,.c,.c,.t false,.c,.c,.c,.c,.h [3,4,5] [] [.box [.ref 1 0,di a.2.1.fAt,di a.2.1.fSize,.d (.v (.int .u32 a.2.1.fSeq))],.box [di a.2.2.fSectors,di a.2.2.fMark,di a.2.2.fFuse,.srf 3],.none,.cu (rowF 57 2 (a.2.2.fAll.map Gc)) []] (.d (.v (.bool a.1))),.t false,.c,.c,.c,.c]) (ts:=[]) (s:=[0,1,2,3,4,104,6,7,8]) (l:=[0,1,5,6,7,23,24,25,56]) (by kernel_rfl) (by kernel_rfl) (.cons (df f) (.cons (df r) (.cons (YF n (Gt.mk () g i j) (Gf.mk e k m p) b.fN _ z) (.cons (vf u) .nil)))) q
inductive ZR where
 | x0 (a:Int) (b:(List Gd))
 | x1 (c:(List Gd)) (d:(List Gj))
def J7:ZR→Ex
 | .x0 _ _=>.ret
 | .x1 _ _=>.exit 2
def J8 (a:(List Gd)) (j:Int) (o:(List Gd)) (b c e f g h:Int) (i:Gd):ZR→PS
 | .x0 k l=>⟨(dd::dd::dd::dd::di k::(dds 222 [])),[.gh 0 (.ref 3 0),.gh 1 (.ref 4 0),.gh 2 (.srf 6),.box [.ref 4 0,di b,di c,.d (.v (.int .u32 e))],.box [di f,di g,di h,.srf 5],.cu (rowF 57 2 (l.map Gc)) [],.none]⟩
 | .x1 m n=>⟨(.ref 3 0::.d (.sl (a.map Gc))::dd::dd::dd::.srf 7::dd::.ref 8 0::(dds 15 (.d (.sl (a.map Gc))::di (a.length:Int)::di j::(dds 201 [])))),[.gh 0 (.ref 3 0),.gh 1 (.ref 4 0),.gh 2 (.srf 6),.box [.ref 4 0,di b,di c,.d (.v (.int .u32 e))],.box [di f,di g,di h,.srf 5],.cu (rowF 57 2 (m.map Gc)) [],.none,.row 89 2 (n.map Gm),.box [di i.fN,.d (.v (.string i.fData))]]⟩
def J9 (a:(List Gd)) (e:Int) (b:(List Gd)) (f g h i j k:Int) (c:Gd) (l:Int) (m:(List Gd)) (n:(List Gj)):PS:=⟨(.ref 3 0::.d (.sl (a.map Gc))::dd::dd::dd::.srf 7::dd::.ref 8 0::(dds 15 (.d (.sl (a.map Gc))::di (a.length:Int)::di e::(dds 33 (.d (.sl (b.map Gc))::di (b.length:Int)::di l::(dds 165 [])))))),[.gh 0 (.ref 3 0),.gh 1 (.ref 4 0),.gh 2 (.srf 6),.box [.ref 4 0,di f,di g,.d (.v (.int .u32 h))],.box [di i,di j,di k,.srf 5],.cu (rowF 57 2 (m.map Gc)) [],.none,.row 89 2 (n.map Gm),.box [di c.fN,.d (.v (.string c.fData))]]⟩
def Ze (n:Nat) (f:(List Gd)) (g:Int) (a:(List Gd)) (h i j l m o:Int) (d:Gd):Nat→Int→(List Gd)→(List Gj)→Option ZR
 | 0,_,_,_=>none
 | k+1,b,c,e =>
  if b<(a.length:Int) then
   (getI a b).bind fun (p:Gd) =>
   if p.fN=d.fN then
    some (.x0 5 c)
   else
    Ze n f g a h i j l m o d k (wi .i64 (b+1)) c e
  else
   some (.x1 c e)
theorem Un {Fi:Ex→PS→Prop} (hF:KC 227 Fi) (ks:List Fr) (n:Nat) (j:(List Gd)) (m:Int) (b:(List Gd)) (p r u v w x:Int) (d:Gd)  : ∀ (k:Nat) (a:Int) (e:(List Gd)) (g:(List Gj)) (o:ZR),Ze n j m b p r u v w x d k a e g=some o→RunE Try.prog 227 Fi ks (J7 o) (J8 j m b p r u v w x d o)→RunE Try.prog 227 Fi (.l k (cP (cB (cR (cL (cR (cR (cB (cL (cR (cR (cP (cB (cR (cL (cR (cR (cR (bodyOf Try.f11))))))))))))))))))::ks) .normal (J9 j m b p r u v w x d a e g)
 | 0,a,e,g,o,h,q=>by rw [Ze] at h; cases h
 | k+1,a,e,g,o,h,q=>by
  rw [Ze] at h
  by_cases i:a<(b.length:Int)
  ·rw [if_pos i] at h
   obtain ⟨a0,a1,h⟩:=bind_some h
   by_cases z:a0.fN=d.fN
   ·rw [if_pos z] at h
    cases h
    exact pkk_sound TTok mix hF 19 (hs:=[.t true,.y (Gc a0),.c,.c,.c,.t true]) (ts:=[]) (s:=[0,1,2,3,4,5,6]) (l:=[4]) (by kernel_rfl) (by kernel_rfl) (.cons (dt i) (.cons (getI_ob (f:=Gc) a1) (.cons (show 0+2≤2 by decide) (.cons (bt z) .nil)))) q
   ·rw [if_neg z] at h
    exact pkk_sound TTok mix hF 16 (hs:=[.t true,.y (Gc a0),.c,.c,.c,.t false]) (ts:=[]) (s:=[0,1,2,3,4,5,6,7,8]) (l:=[0,1,5,7,23,24,25,59,60,61]) (by kernel_rfl) (by kernel_rfl) (.cons (dt i) (.cons (getI_ob (f:=Gc) a1) (.cons (show 0+2≤2 by decide) (.cons (bf z) .nil)))) (Un hF ks n j m b p r u v w x d k (wi .i64 (a+1)) e g _ h q)
  ·rw [if_neg i] at h
   cases h
   exact pkk_sound TTok mix hF 8 (hs:=[.t false]) (ts:=[]) (s:=[0,1,2,3,4,5,6,7,8]) (l:=[0,1,5,7,23,24,25]) (by kernel_rfl) (by kernel_rfl) (.cons (df i) .nil) q
inductive ZS where
 | x0 (a:Int) (b:(List Gd))
 | x1 (c:(List Gd)) (d:(List Gj))
def Ma:ZS→Ex
 | .x0 _ _=>.ret
 | .x1 _ _=>.exit 2
def Mb (a:(List Gd)) (j:Int) (o:(List Gd)) (b c e f g h:Int) (i:Gd):ZS→PS
 | .x0 k l=>⟨(dd::dd::dd::dd::di k::(dds 222 [])),[.gh 0 (.ref 3 0),.gh 1 (.ref 4 0),.gh 2 (.srf 6),.box [.ref 4 0,di b,di c,.d (.v (.int .u32 e))],.box [di f,di g,di h,.srf 5],.cu (rowF 57 2 (l.map Gc)) [],.none]⟩
 | .x1 m n=>⟨(.ref 3 0::.d (.sl (a.map Gc))::dd::dd::dd::.srf 7::dd::.ref 8 0::(dds 15 (.d (.sl (a.map Gc))::di (a.length:Int)::di j::(dds 201 [])))),[.gh 0 (.ref 3 0),.gh 1 (.ref 4 0),.gh 2 (.srf 6),.box [.ref 4 0,di b,di c,.d (.v (.int .u32 e))],.box [di f,di g,di h,.srf 5],.cu (rowF 57 2 (m.map Gc)) [],.none,.row 89 2 (n.map Gm),.box [di i.fN,.d (.v (.string i.fData))]]⟩
def Mc (a:(List Gd)) (e:Int) (b:(List Gd)) (f g h i j k:Int) (c:Gd) (l:Int) (m:(List Gd)) (n:(List Gj)):PS:=⟨(.ref 3 0::.d (.sl (a.map Gc))::dd::dd::dd::.srf 7::dd::.ref 8 0::(dds 15 (.d (.sl (a.map Gc))::di (a.length:Int)::di e::(dds 33 (.d (.sl (b.map Gc))::di (b.length:Int)::di l::(dds 165 [])))))),[.gh 0 (.ref 3 0),.gh 1 (.ref 4 0),.gh 2 (.srf 6),.box [.ref 4 0,di f,di g,.d (.v (.int .u32 h))],.box [di i,di j,di k,.srf 5],.cu (rowF 57 2 (m.map Gc)) [],.none,.row 89 2 (n.map Gm),.box [di c.fN,.d (.v (.string c.fData))]]⟩
def Sg (n:Nat) (f:(List Gd)) (g:Int) (a:(List Gd)) (h i j l m o:Int) (d:Gd):Nat→Int→(List Gd)→(List Gj)→Option ZS
 | 0,_,_,_=>none
 | k+1,b,c,e =>
  if b<(a.length:Int) then
   (getI a b).bind fun (p:Gd) =>
   if p.fN=d.fN then
    some (.x0 5 c)
   else
    Sg n f g a h i j l m o d k (wi .i64 (b+1)) c e
  else
   some (.x1 c e)
theorem Uo {Fi:Ex→PS→Prop} (hF:KC 227 Fi) (ks:List Fr) (n:Nat) (j:(List Gd)) (m:Int) (b:(List Gd)) (p r u v w x:Int) (d:Gd)  : ∀ (k:Nat) (a:Int) (e:(List Gd)) (g:(List Gj)) (o:ZS),Sg n j m b p r u v w x d k a e g=some o→RunE Try.prog 227 Fi ks (Ma o) (Mb j m b p r u v w x d o)→RunE Try.prog 227 Fi (.l k (cP (cB (cR (cL (cR (cR (cB (cL (cR (cR (cP (cB (cR (cL (cR (cR (cR (bodyOf Try.f11))))))))))))))))))::ks) .normal (Mc j m b p r u v w x d a e g)
 | 0,a,e,g,o,h,q=>by rw [Sg] at h; cases h
 | k+1,a,e,g,o,h,q=>by
  rw [Sg] at h
  by_cases i:a<(b.length:Int)
  ·rw [if_pos i] at h
   obtain ⟨a0,a1,h⟩:=bind_some h
   by_cases z:a0.fN=d.fN
   ·rw [if_pos z] at h
    cases h
    exact pkk_sound TTok mix hF 19 (hs:=[.t true,.y (Gc a0),.c,.c,.c,.t true]) (ts:=[]) (s:=[0,1,2,3,4,5,6]) (l:=[4]) (by kernel_rfl) (by kernel_rfl) (.cons (dt i) (.cons (getI_ob (f:=Gc) a1) (.cons (show 0+2≤2 by decide) (.cons (bt z) .nil)))) q
   ·rw [if_neg z] at h
    exact pkk_sound TTok mix hF 16 (hs:=[.t true,.y (Gc a0),.c,.c,.c,.t false]) (ts:=[]) (s:=[0,1,2,3,4,5,6,7,8]) (l:=[0,1,5,7,23,24,25,59,60,61]) (by kernel_rfl) (by kernel_rfl) (.cons (dt i) (.cons (getI_ob (f:=Gc) a1) (.cons (show 0+2≤2 by decide) (.cons (bf z) .nil)))) (Uo hF ks n j m b p r u v w x d k (wi .i64 (a+1)) e g _ h q)
  ·rw [if_neg i] at h
   cases h
   exact pkk_sound TTok mix hF 8 (hs:=[.t false]) (ts:=[]) (s:=[0,1,2,3,4,5,6,7,8]) (l:=[0,1,5,7,23,24,25]) (by kernel_rfl) (by kernel_rfl) (.cons (df i) .nil) q
inductive KZ where
 | x0 (a b c d e f g:Int) (h:(List Gd))
 | x1 (i j k l m n:Int) (o:(List Gd)) (p:(List Gj))
def Md:KZ→Ex
 | .x0 _ _ _ _ _ _ _ _=>.ret
 | .x1 _ _ _ _ _ _ _ _=>.exit 0
def Me (a:(List Gd)):KZ→PS
 | .x0 b c e f g h i j=>⟨(dd::dd::dd::dd::di b::(dds 222 [])),[.gh 0 (.ref 3 0),.gh 1 (.ref 4 0),.gh 2 (.srf 6),.box [.ref 4 0,di c,di e,.d (.v (.int .u32 f))],.box [di g,di h,di i,.srf 5],.cu (rowF 57 2 (j.map Gc)) [],.none]⟩
 | .x1 k l m n o p q r=>⟨(.ref 3 0::.d (.sl (a.map Gc))::dd::dd::dd::.srf 7::(dds 221 [])),[.gh 0 (.ref 3 0),.gh 1 (.ref 4 0),.gh 2 (.srf 6),.box [.ref 4 0,di k,di l,.d (.v (.int .u32 m))],.box [di n,di o,di p,.srf 5],.cu (rowF 57 2 (q.map Gc)) [],.none,.row 89 2 (r.map Gm)]⟩
def Mf (a:(List Gd)) (b c e f g h i:Int) (j:(List Gd)) (k:(List Gj)):PS:=⟨(.ref 3 0::.d (.sl (a.map Gc))::dd::dd::dd::.srf 7::(dds 17 (.d (.sl (a.map Gc))::di (a.length:Int)::di b::(dds 201 [])))),[.gh 0 (.ref 3 0),.gh 1 (.ref 4 0),.gh 2 (.srf 6),.box [.ref 4 0,di c,di e,.d (.v (.int .u32 f))],.box [di g,di h,di i,.srf 5],.cu (rowF 57 2 (j.map Gc)) [],.none,.row 89 2 (k.map Gm)]⟩
def GV (n:Nat) (a:(List Gd)):Nat→Int→Int→Int→Int→Int→Int→Int→(List Gd)→(List Gj)→Option KZ
 | 0,_,_,_,_,_,_,_,_,_=>none
 | k+1,b,d,e,f,g,h,i,r,s =>
  if b<(a.length:Int) then
   (getI a b).bind fun (c:Gd) =>
   (Yi n a b d e f g h i r s c).bind fun v=>match v with
   | .x0 w t x =>
    if w=true then
     some (.x0 1 d e f g h i t)
    else
     (sub a 0 b).bind fun (y:(List Gd)) =>
     (Ze n a b y d e f g h i c n 0 t x).bind fun z=>match z with
     | .x0 a0 a1 =>
      some (.x0 a0 d e f g h i a1)
     | .x1 a2 a3 =>
      (app 24 a3 ([(Gj.mk c.fN c.fData)])).bind fun (a4:(List Gj)) =>
      GV n a k (wi .i64 (b+1)) d e f g h i a2 a4
   | .x1 a5 j l m o p q u a6 =>
    if a5=true then
     some (.x0 1 j l m o p q u)
    else
     (sub a 0 b).bind fun (a7:(List Gd)) =>
     (Sg n a b a7 j l m o p q c n 0 u a6).bind fun a8=>match a8 with
     | .x0 a9 b0 =>
      some (.x0 a9 j l m o p q b0)
     | .x1 b1 b2 =>
      (app 24 b2 ([(Gj.mk c.fN c.fData)])).bind fun (b3:(List Gj)) =>
      GV n a k (wi .i64 (b+1)) j l m o p q b1 b3
  else
   some (.x1 d e f g h i r s)
theorem YQ {Fi:Ex→PS→Prop} (hF:KC 227 Fi) (ks:List Fr) (n:Nat) (e:(List Gd))  : ∀ (k:Nat) (a g i j m p r:Int) (x:(List Gd)) (z:(List Gj)) (o:KZ),GV n e k a g i j m p r x z=some o→RunE Try.prog 227 Fi ks (Md o) (Me e o)→RunE Try.prog 227 Fi (.l k (cP (cB (cR (cL (cR (cR (cR (bodyOf Try.f11))))))))::ks) .normal (Mf e a g i j m p r x z)
 | 0,a,g,i,j,m,p,r,x,z,o,h,q=>by rw [GV] at h; cases h
 | k+1,a,g,i,j,m,p,r,x,z,o,h,q=>by
  rw [GV] at h
  by_cases a2:a<(e.length:Int)
  ·rw [if_pos a2] at h
   obtain ⟨a3,b8,h⟩:=bind_some h
   obtain ⟨b9,c0,h⟩:=bind_some h
   refine pkk_sound TTok mix hF 12 (hs:=[.t true,.y (Gc a3),.c]) (ts:=[]) (s:=[0,1,2,3,4,5,6,7,28]) (l:=[0,1,5,6,7,23,24,25]) (by kernel_rfl) (by kernel_rfl) (.cons (dt a2) (.cons (getI_ob (f:=Gc) b8) (.cons (show 0+2≤2 by decide) .nil))) (J6 hF (.s (cR (cL (cR (cB (cL (cR (cR (cP (cB (cR (cL (cR (cR (cR (bodyOf Try.f11)))))))))))))))::.s (cR (cR (cB (cL (cR (cR (cP (cB (cR (cL (cR (cR (cR (bodyOf Try.f11))))))))))))))::.b 1::.s (cR (cR (cR (cP (cB (cR (cL (cR (cR (cR (bodyOf Try.f11)))))))))))::.l k (cP (cB (cR (cL (cR (cR (cR (bodyOf Try.f11))))))))::ks) n e a g i j m p r x z a3 _ c0 ?_)
   cases b9 with
   | x0 c1 c2 c3 =>
    try dsimp only at h
    by_cases a4:c1=true
    ·rw [if_pos a4] at h
     cases h
     exact pkk_sound TTok mix hF 8 (hs:=[.t true]) (ts:=[]) (s:=[0,1,2,3,4,5,6]) (l:=[4]) (by kernel_rfl) (by kernel_rfl) (.cons a4 .nil) q
    ·rw [if_neg a4] at h
     obtain ⟨a5,a0,h⟩:=bind_some h
     obtain ⟨c4,c5,h⟩:=bind_some h
     refine pkk_sound TTok mix hF 7 (hs:=[.t false,.w (a5.map Gc),.u (di (a5.length:Int)),.n n]) (ts:=[]) (s:=[0,1,2,3,4,5,6,7,8]) (l:=[0,1,5,7,23,24,25,59,60,61]) (by kernel_rfl) (by kernel_rfl) (.cons (vf a4) (.cons (sub_ob (f:=Gc) (s:=2) a0 (fun _=>rfl)).1 (.cons (sub_ob (f:=Gc) (s:=2) a0 (fun _=>rfl)).2.1 (.cons (sub_ob (f:=Gc) (s:=2) a0 (fun _=>rfl)).2.2.1 (.cons (sub_ob (f:=Gc) (s:=2) a0 (fun _=>rfl)).2.2.2.1 (.cons (sub_ob (f:=Gc) (s:=2) a0 (fun _=>rfl)).2.2.2.2 (.cons (len_ob (f:=Gc) (l:=a5)) .nil))))))) (Un hF (.b 2::.s (cR (cR (cR (cB (cL (cR (cR (cP (cB (cR (cL (cR (cR (cR (bodyOf Try.f11)))))))))))))))::.b 1::.s (cR (cR (cR (cP (cB (cR (cL (cR (cR (cR (bodyOf Try.f11)))))))))))::.l k (cP (cB (cR (cL (cR (cR (cR (bodyOf Try.f11))))))))::ks) n e a a5 g i j m p r a3 n 0 c2 c3 _ c5 ?_)
     cases c4 with
     | x0 d3 d4 =>
      try dsimp only at h
      cases h
      exact pkk_sound TTok mix hF 5 (hs:=[]) (ts:=[]) (s:=[0,1,2,3,4,5,6]) (l:=[4]) (by kernel_rfl) (by kernel_rfl) .nil q
     | x1 c6 d5 =>
      try dsimp only at h
      obtain ⟨b0,a6,h⟩:=bind_some h
      exact pkk_sound TTok mix hF 4 (hs:=[.c,.c,.bd,.w (b0.map Gm)]) (ts:=[]) (s:=[0,1,2,3,4,5,6,44]) (l:=[0,1,5,23,24,25]) (by kernel_rfl) (by kernel_rfl) (.cons (app_ob (f:=Gm) (s:=2) a6 (fun _=>rfl)).1 (.cons (app_ob (f:=Gm) (s:=2) a6 (fun _=>rfl)).2.1 (.cons (app_ob (f:=Gm) (s:=2) a6 (fun _=>rfl)).2.2.1 (.cons (app_ob (f:=Gm) (s:=2) a6 (fun _=>rfl)).2.2.2 .nil)))) (YQ hF ks n e k (wi .i64 (a+1)) g i j m p r c6 b0 _ h q)
   | x1 c7 b1 b2 b3 b4 b5 b6 c8 c9 =>
    try dsimp only at h
    by_cases a7:c7=true
    ·rw [if_pos a7] at h
     cases h
     exact pkk_sound TTok mix hF 8 (hs:=[.t true]) (ts:=[]) (s:=[0,1,2,3,4,5,6]) (l:=[4]) (by kernel_rfl) (by kernel_rfl) (.cons a7 .nil) q
    ·rw [if_neg a7] at h
     obtain ⟨a8,a1,h⟩:=bind_some h
     obtain ⟨d0,d1,h⟩:=bind_some h
     refine pkk_sound TTok mix hF 7 (hs:=[.t false,.w (a8.map Gc),.u (di (a8.length:Int)),.n n]) (ts:=[]) (s:=[0,1,2,3,4,5,6,7,8]) (l:=[0,1,5,7,23,24,25,59,60,61]) (by kernel_rfl) (by kernel_rfl) (.cons (vf a7) (.cons (sub_ob (f:=Gc) (s:=2) a1 (fun _=>rfl)).1 (.cons (sub_ob (f:=Gc) (s:=2) a1 (fun _=>rfl)).2.1 (.cons (sub_ob (f:=Gc) (s:=2) a1 (fun _=>rfl)).2.2.1 (.cons (sub_ob (f:=Gc) (s:=2) a1 (fun _=>rfl)).2.2.2.1 (.cons (sub_ob (f:=Gc) (s:=2) a1 (fun _=>rfl)).2.2.2.2 (.cons (len_ob (f:=Gc) (l:=a8)) .nil))))))) (Uo hF (.b 2::.s (cR (cR (cR (cB (cL (cR (cR (cP (cB (cR (cL (cR (cR (cR (bodyOf Try.f11)))))))))))))))::.b 1::.s (cR (cR (cR (cP (cB (cR (cL (cR (cR (cR (bodyOf Try.f11)))))))))))::.l k (cP (cB (cR (cL (cR (cR (cR (bodyOf Try.f11))))))))::ks) n e a a8 b1 b2 b3 b4 b5 b6 a3 n 0 c8 c9 _ d1 ?_)
     cases d0 with
     | x0 d6 d7 =>
      try dsimp only at h
      cases h
      exact pkk_sound TTok mix hF 5 (hs:=[]) (ts:=[]) (s:=[0,1,2,3,4,5,6]) (l:=[4]) (by kernel_rfl) (by kernel_rfl) .nil q
     | x1 d2 d8 =>
      try dsimp only at h
      obtain ⟨b7,a9,h⟩:=bind_some h
      exact pkk_sound TTok mix hF 4 (hs:=[.c,.c,.bd,.w (b7.map Gm)]) (ts:=[]) (s:=[0,1,2,3,4,5,6,44]) (l:=[0,1,5,23,24,25]) (by kernel_rfl) (by kernel_rfl) (.cons (app_ob (f:=Gm) (s:=2) a9 (fun _=>rfl)).1 (.cons (app_ob (f:=Gm) (s:=2) a9 (fun _=>rfl)).2.1 (.cons (app_ob (f:=Gm) (s:=2) a9 (fun _=>rfl)).2.2.1 (.cons (app_ob (f:=Gm) (s:=2) a9 (fun _=>rfl)).2.2.2 .nil)))) (YQ hF ks n e k (wi .i64 (a+1)) b1 b2 b3 b4 b5 b6 d2 b7 _ h q)
  ·rw [if_neg a2] at h
   cases h
   exact pkk_sound TTok mix hF 8 (hs:=[.t false]) (ts:=[]) (s:=[0,1,2,3,4,5,6,7]) (l:=[0,1,5]) (by kernel_rfl) (by kernel_rfl) (.cons (df a2) .nil) q
inductive ZT where
 | x0 (a:ByteArray) (b c d:Int) (e:(List Gd)) (f:(List Gj))
def Mg:ZT→Ex
 | .x0 _ _ _ _ _ _=>.exit 4
def Mh (a:(List Gd)) (b c e:Int):ZT→PS
 | .x0 f g h i j k=>⟨(.ref 3 0::.d (.sl (a.map Gc))::dd::dd::dd::.srf 7::dd::dd::dd::dd::.d (.v (.string f))::(dds 216 [])),[.gh 0 (.ref 3 0),.gh 1 (.ref 4 0),.gh 2 (.srf 6),.box [.ref 4 0,di b,di c,.d (.v (.int .u32 (wi .u32 (e+1))))],.box [di g,di h,di i,.srf 5],.cu (rowF 57 2 (j.map Gc)) [],.none,.row 89 2 (k.map Gm)]⟩
def Mi (a:(List Gd)) (b c e:Int) (f:ByteArray) (g h i j:Int) (k:(List Gd)) (l:(List Gj)):PS:=⟨(.ref 3 0::.d (.sl (a.map Gc))::dd::dd::dd::.srf 7::dd::dd::dd::dd::.d (.v (.string f))::(dds 111 (.d (.sl (a.map Gc))::di (a.length:Int)::di g::(dds 102 [])))),[.gh 0 (.ref 3 0),.gh 1 (.ref 4 0),.gh 2 (.srf 6),.box [.ref 4 0,di b,di c,.d (.v (.int .u32 (wi .u32 (e+1))))],.box [di h,di i,di j,.srf 5],.cu (rowF 57 2 (k.map Gc)) [],.none,.row 89 2 (l.map Gm)]⟩
def Si (n:Nat) (c:(List Gd)) (d m o:Int):Nat→ByteArray→Int→Int→Int→Int→(List Gd)→(List Gj)→Option ZT
 | 0,_,_,_,_,_,_,_=>none
 | k+1,e,a,f,g,h,i,j =>
  if a<(c.length:Int) then
   (getI c a).bind fun (l:Gd) =>
   (catS e (b2s ([(wi .u8 l.fN)]))).bind fun (p:ByteArray) =>
   (Gs n (Gf.mk f g h i) (wi .i64 ((wi .i64 (d+1))+a)) l.fData).bind fun (b:(Int×Gf)) =>
   Si n c d m o k p (wi .i64 (a+1)) b.2.fSectors b.2.fMark b.2.fFuse b.2.fAll j
  else
   some (.x0 e f g h i j)
theorem Up {Fi:Ex→PS→Prop} (hF:KC 227 Fi) (ks:List Fr) (n:Nat) (i:(List Gd)) (j a3 a4:Int)  : ∀ (k:Nat) (m:ByteArray) (b u z a0:Int) (a1:(List Gd)) (a2:(List Gj)) (o:ZT),Si n i j a3 a4 k m b u z a0 a1 a2=some o→RunE Try.prog 227 Fi ks (Mg o) (Mh i j a3 a4 o)→RunE Try.prog 227 Fi (.l k (cP (cB (cR (cL (cR (cR (cR (cR (cR (cR (cR (cR (cR (cR (bodyOf Try.f11)))))))))))))))::ks) .normal (Mi i j a3 a4 m b u z a0 a1 a2)
 | 0,m,b,u,z,a0,a1,a2,o,h,q=>by rw [Si] at h; cases h
 | k+1,m,b,u,z,a0,a1,a2,o,h,q=>by
  rw [Si] at h
  by_cases a5:b<(i.length:Int)
  ·rw [if_pos a5] at h
   obtain ⟨g,a7,h⟩:=bind_some h
   obtain ⟨a6,a8,h⟩:=bind_some h
   obtain ⟨a,a9,h⟩:=bind_some h
   exact pkk_sound TTok mix hF 15 (hs:=[.t true,.y (Gc g),.c,.c,.w ([(wi .u8 g.fN)].map (eI .u8)),.e 68 [63] (.d (.v (.string (b2s ([(wi .u8 g.fN)]))))) [],.e 73 [] (.d (.v (.string a6))) [],.c,.c,.c,.h [4,5] [] [.box [di a.2.fSectors,di a.2.fMark,di a.2.fFuse,.srf 2],.none,.cu (rowF 57 2 (a.2.fAll.map Gc)) []] (di a.1)]) (ts:=[]) (s:=[0,1,2,3,4,148,6,7]) (l:=[0,1,5,10,122,123,124]) (by kernel_rfl) (by kernel_rfl) (.cons (dt a5) (.cons (getI_ob (f:=Gc) a7) (.cons (show 0+2≤2 by decide) (.cons (Eq.refl ([(wi .u8 g.fN)].map (eI .u8))) (.cons (xb2sR (l:=63) (L:=[(wi .u8 g.fN)]) (P:=Try.prog) (T:=TT) (src:=42) (dst:=9) (e:=5) (s:=1) (x:=(.tmp 133)) (by kernel_rfl) (by kernel_rfl) (by kernel_rfl)) (.cons (xcatS (P:=Try.prog) (T:=TT) (t:=9) (ty':=9) (x:=(.tmp 129)) (y:=(.tmp 134)) (p:=m) (q:=(b2s ([(wi .u8 g.fN)]))) (r:=a6) a8) (.cons (Sy n (Gf.mk u z a0 a1) (wi .i64 ((wi .i64 (j+1))+b)) g.fData _ a9) .nil))))))) (Up hF ks n i j a3 a4 k a6 (wi .i64 (b+1)) a.2.fSectors a.2.fMark a.2.fFuse a.2.fAll a2 _ h q)
  ·rw [if_neg a5] at h
   cases h
   exact pkk_sound TTok mix hF 8 (hs:=[.t false]) (ts:=[]) (s:=[0,1,2,3,4,5,6,7]) (l:=[0,1,5,10]) (by kernel_rfl) (by kernel_rfl) (.cons (df a5) .nil) q
inductive ZU where
 | x0 (a b c:Int) (d:(List Gd))
def Mj:ZU→Ex
 | .x0 _ _ _ _=>.exit 6
def Mk (i:((List Gj))) (a b c:Int):ZU→PS
 | .x0 e f g h=>⟨(dds 227 []),[.gh 0 (.ref 3 0),.gh 1 (.ref 4 0),.gh 2 (.srf 6),.box [.ref 4 0,di a,di b,.d (.v (.int .u32 (wi .u32 (c+1))))],.box [di e,di f,di g,.srf 5],.cu (rowF 57 2 (h.map Gc)) [],.none]⟩
def Ml (a:((List Gj))) (b c e f g h i:Int) (j:(List Gd)):PS:=⟨(.ref 3 0::(dds 210 (.d (.sl (a.map Gm))::di (a.length:Int)::di f::(dds 13 [])))),[.gh 0 (.ref 3 0),.gh 1 (.ref 4 0),.gh 2 (.srf 6),.box [.ref 4 0,di b,di c,.d (.v (.int .u32 (wi .u32 (e+1))))],.box [di g,di h,di i,.srf 5],.cu (rowF 57 2 (j.map Gc)) [],.none]⟩
def Sj (n:Nat) (b:((List Gj))) (i j l:Int):Nat→Int→Int→Int→Int→(List Gd)→Option ZU
 | 0,_,_,_,_,_=>none
 | k+1,c,d,e,f,g =>
  if c<(b.length:Int) then
   (getI b c).bind fun (h:Gj) =>
   (Gs n (Gf.mk d e f g) h.fN h.fData).bind fun (a:(Int×Gf)) =>
   Sj n b i j l k (wi .i64 (c+1)) a.2.fSectors a.2.fMark a.2.fFuse a.2.fAll
  else
   some (.x0 d e f g)
theorem Uq {Fi:Ex→PS→Prop} (hF:KC 227 Fi) (ks:List Fr) (n:Nat) (e:((List Gj))) (p r u:Int)  : ∀ (k:Nat) (b g i j:Int) (m:(List Gd)) (o:ZU),Sj n e p r u k b g i j m=some o→RunE Try.prog 227 Fi ks (Mj o) (Mk e p r u o)→RunE Try.prog 227 Fi (.l k (cP (cB (cR (cL (cR (cR (cR (cR (cR (cR (cR (cR (cR (cR (cR (cR (cR (cR (cR (cR (bodyOf Try.f11)))))))))))))))))))))::ks) .normal (Ml e p r u b g i j m)
 | 0,b,g,i,j,m,o,h,q=>by rw [Sj] at h; cases h
 | k+1,b,g,i,j,m,o,h,q=>by
  rw [Sj] at h
  by_cases w:b<(e.length:Int)
  ·rw [if_pos w] at h
   obtain ⟨x,z,h⟩:=bind_some h
   obtain ⟨a,a0,h⟩:=bind_some h
   exact pkk_sound TTok mix hF 13 (hs:=[.t true,.y (Gm x),.c,.c,.c,.c,.h [4,5] [] [.box [di a.2.fSectors,di a.2.fMark,di a.2.fFuse,.srf 2],.none,.cu (rowF 57 2 (a.2.fAll.map Gc)) []] (di a.1)]) (ts:=[]) (s:=[0,1,2,3,4,72,6]) (l:=[0,211,212,213]) (by kernel_rfl) (by kernel_rfl) (.cons (dt w) (.cons (getI_ob (f:=Gm) z) (.cons (show 0+2≤2 by decide) (.cons (Sy n (Gf.mk g i j m) x.fN x.fData _ a0) .nil)))) (Uq hF ks n e p r u k (wi .i64 (b+1)) a.2.fSectors a.2.fMark a.2.fFuse a.2.fAll _ h q)
  ·rw [if_neg w] at h
   cases h
   exact pkk_sound TTok mix hF 8 (hs:=[.t false]) (ts:=[]) (s:=[0,1,2,3,4,5,6]) (l:=[]) (by kernel_rfl) (by kernel_rfl) (.cons (df w) .nil) q
/- (*ringhall/ringref3.Log).Commit -/
def Sl (n:Nat) (d:Gt) (e:Gf) (a:(List Gd)):Option (Int×Gt×Gf) :=
 if (a.length:Int) > (wi .i64 (d.fSize-2)) then
  some (2,d,e)
 else
  (GV n a n 0 d.fAt d.fSize d.fSeq e.fSectors e.fMark e.fFuse e.fAll ([]:List Gj)).bind fun j=>match j with
  | .x0 k l m o p q r s =>
   some (k,(Gt.mk () l m o),(Gf.mk p q r s))
  | .x1 b f c t u v w x =>
   (GE n (Gf.mk t u v w)).bind fun (i:(Gf)) =>
   if (a.length:Int)=0 then
    some (0,(Gt.mk () b f c),i)
   else
    (ZP n (ByteArray.mk #[])).bind fun (y:(ByteArray)) =>
    (Gs n i b y).bind fun (z:(Int×Gf)) =>
    (GE n z.2).bind fun (g:(Gf)) =>
    (Zn n (wi .u32 (c+1))).bind fun (a0:(ByteArray)) =>
    (catS (ByteArray.mk #[74]) a0).bind fun (a1:ByteArray) =>
    (catS a1 (b2s ([(wi .u8 (a.length:Int))]))).bind fun (a2:ByteArray) =>
    (Si n a b f c n a2 0 g.fSectors g.fMark g.fFuse g.fAll x).bind fun a3=>match a3 with
    | .x0 a4 a5 a6 a7 a8 a9 =>
     (ZP n (ByteArray.mk #[])).bind fun (b0:(ByteArray)) =>
     (Gs n (Gf.mk a5 a6 a7 a8) (wi .i64 ((wi .i64 (b+1))+(a.length:Int))) b0).bind fun (b1:(Int×Gf)) =>
     (GE n b1.2).bind fun (b2:(Gf)) =>
     (ZP n a4).bind fun (b3:(ByteArray)) =>
     (Gs n b2 b b3).bind fun (b4:(Int×Gf)) =>
     (Zn n (wi .u32 (c+1))).bind fun (b5:(ByteArray)) =>
     (catS (ByteArray.mk #[67]) b5).bind fun (b6:ByteArray) =>
     (Yq n a).bind fun (b7:(Int)) =>
     (Zn n b7).bind fun (b8:(ByteArray)) =>
     (catS b6 b8).bind fun (b9:ByteArray) =>
     (ZP n b9).bind fun (c0:(ByteArray)) =>
     (Gs n b4.2 (wi .i64 ((wi .i64 (b+1))+(a.length:Int))) c0).bind fun (c1:(Int×Gf)) =>
     (GE n c1.2).bind fun (h:(Gf)) =>
     (YL n a9 0).bind fun (c2:((List Gj))) =>
     (Sj n c2 b f c n 0 h.fSectors h.fMark h.fFuse h.fAll).bind fun c3=>match c3 with
     | .x0 c4 c5 c6 c7 =>
      some (0,(Gt.mk () b f (wi .u32 (c+1))),(Gf.mk c4 c5 c6 c7))
theorem MW (n:Nat) (i:Gt) (g:Gf) (a:(List Gd)) (r:Int×Gt×Gf) (h:Sl n i g a=some r):RetH Try.prog 11 [.ref 0 0,.d ((eL Gc) a)] [.box [.ref 1 0,di i.fAt,di i.fSize,.d (.v (.int .u32 i.fSeq))],.box [di g.fSectors,di g.fMark,di g.fFuse,.srf 2],.cu (rowF 57 2 (g.fAll.map Gc)) []] (.d ((eI .i64) r.1)) [.box [.ref 1 0,di r.2.1.fAt,di r.2.1.fSize,.d (.v (.int .u32 r.2.1.fSeq))],.box [di r.2.2.fSectors,di r.2.2.fMark,di r.2.2.fFuse,.srf 3],.none,.cu (rowF 57 2 (r.2.2.fAll.map Gc)) []]:=by
 refine retH_run (n:=227) (fn:=Try.f11) (c:=bodyOf Try.f11) (by kernel_rfl) (by kernel_rfl) (by kernel_rfl) (by kernel_rfl) ?_
 have hF:KC 227 (FinH Try.prog Try.f11 [.box [.ref 1 0,di i.fAt,di i.fSize,.d (.v (.int .u32 i.fSeq))],.box [di g.fSectors,di g.fMark,di g.fFuse,.srf 2],.cu (rowF 57 2 (g.fAll.map Gc)) []] (.d ((eI .i64) r.1)) [.box [.ref 1 0,di r.2.1.fAt,di r.2.1.fSize,.d (.v (.int .u32 r.2.1.fSeq))],.box [di r.2.2.fSectors,di r.2.2.fMark,di r.2.2.fFuse,.srf 3],.none,.cu (rowF 57 2 (r.2.2.fAll.map Gc)) []]):=FinH.kc' (by kernel_rfl)
 unfold Sl at h
 by_cases a4:(a.length:Int) > (wi .i64 (i.fSize-2))
 ·rw [if_pos a4] at h
  obtain rfl:=Option.some.inj h
  exact pendH_sound TTok mix 11 (hs:=[.u (di (a.length:Int)),.c,.t true,.dl 4,.sx [2] (fmvS 2 57 2 (g.fAll.map Gc))]) [0,1,2,56] (by kernel_rfl) (by kernel_rfl) (by kernel_rfl) (.cons (len_ob (f:=Gc) (l:=a)) (.cons (dt a4) (.cons (fmv (l:=2) (e:=57) (s:=2) (xs:=(g.fAll.map Gc))) .nil)))
 ·rw [if_neg a4] at h
  obtain ⟨c6,c7,h⟩:=bind_some h
  refine pkk_sound TTok mix hF 15 (hs:=[.u (di (a.length:Int)),.c,.t false,.u (di (a.length:Int)),.dl 1,.sx [2] (fmvS 2 57 2 (g.fAll.map Gc)),.n n]) (ts:=[(5,89,2)]) (s:=[3,4,5,0,1,71,2,72]) (l:=[0,1,5,23,24,25]) (by kernel_rfl) (by kernel_rfl) (.cons (len_ob (f:=Gc) (l:=a)) (.cons (df a4) (.cons (len_ob (f:=Gc) (l:=a)) (.cons (fmv (l:=2) (e:=57) (s:=2) (xs:=(g.fAll.map Gc))) .nil)))) (YQ hF (.b 0::.s (cR (cR (cR (cR (bodyOf Try.f11)))))::[]) n a n 0 i.fAt i.fSize i.fSeq g.fSectors g.fMark g.fFuse g.fAll ([]:List Gj) _ c7 ?_)
  cases c6 with
  | x0 f9 g0 g1 g2 g3 g4 g5 g6 =>
   try dsimp only at h
   obtain rfl:=Option.some.inj h
   exact pendH_sound TTok mix 2 (hs:=[]) [3,4,6,5] (by kernel_rfl) (by kernel_rfl) (by kernel_rfl) .nil
  | x1 o b2 a5 b3 b4 b5 b6 c8 =>
   try dsimp only at h
   obtain ⟨j,b7,h⟩:=bind_some h
   by_cases a6:(a.length:Int)=0
   ·rw [if_pos a6] at h
    obtain rfl:=Option.some.inj h
    exact pendH_sound TTok mix 11 (hs:=[.c,.h [4,5] [] [.box [di j.fSectors,di j.fMark,di j.fFuse,.srf 2],.none,.cu (rowF 57 2 (j.fAll.map Gc)) []] (.tup []),.u (di (a.length:Int)),.t true]) [3,4,6,28] (by kernel_rfl) (by kernel_rfl) (by kernel_rfl) (.cons (Zd n (Gf.mk b3 b4 b5 b6) _ b7) (.cons (len_ob (f:=Gc) (l:=a)) (.cons (bt a6) .nil)))
   ·rw [if_neg a6] at h
    obtain ⟨b8,c9,h⟩:=bind_some h
    obtain ⟨z,d0,h⟩:=bind_some h
    obtain ⟨k,d1,h⟩:=bind_some h
    obtain ⟨b9,d2,h⟩:=bind_some h
    obtain ⟨a8,d3,h⟩:=bind_some h
    obtain ⟨a9,d4,h⟩:=bind_some h
    obtain ⟨d5,d6,h⟩:=bind_some h
    refine pkk_sound TTok mix hF 21 (hs:=[.c,.h [4,5] [] [.box [di j.fSectors,di j.fMark,di j.fFuse,.srf 2],.none,.cu (rowF 57 2 (j.fAll.map Gc)) []] (.tup []),.u (di (a.length:Int)),.t false,.c,.c,.c,.c,.r (eS b8),.h [4,28] [] [.box [di z.2.fSectors,di z.2.fMark,di z.2.fFuse,.srf 2],.none,.cu (rowF 57 2 (z.2.fAll.map Gc)) []] (di z.1),.c,.h [4,133] [] [.box [di k.fSectors,di k.fMark,di k.fFuse,.srf 2],.none,.cu (rowF 57 2 (k.fAll.map Gc)) []] (.tup []),.c,.r (eS b9),.e 188 [] (.d (.v (.string a8))) [],.u (di (a.length:Int)),.w ([(wi .u8 (a.length:Int))].map (eI .u8)),.e 213 [208] (.d (.v (.string (b2s ([(wi .u8 (a.length:Int))]))))) [],.e 218 [] (.d (.v (.string a9))) [],.u (di (a.length:Int)),.n n]) (ts:=[]) (s:=[0,1,2,3,4,158,6,7]) (l:=[0,1,5,10,122,123,124]) (by kernel_rfl) (by kernel_rfl) (.cons (Zd n (Gf.mk b3 b4 b5 b6) _ b7) (.cons (len_ob (f:=Gc) (l:=a)) (.cons (bf a6) (.cons (show 3+1≤4 by decide) (.cons (UF n (ByteArray.mk #[]) _ c9) (.cons (Sy n j o b8 _ d0) (.cons (Zd n z.2 _ d1) (.cons (ZF n (wi .u32 (a5+1)) _ d2) (.cons (xcatS (P:=Try.prog) (T:=TT) (t:=9) (ty':=9) (x:=(.const (.string (ByteArray.mk #[74])))) (y:=(.tmp 114)) (p:=(ByteArray.mk #[74])) (q:=b9) (r:=a8) d3) (.cons (len_ob (f:=Gc) (l:=a)) (.cons (Eq.refl ([(wi .u8 (a.length:Int))].map (eI .u8))) (.cons (xb2sR (l:=208) (L:=[(wi .u8 (a.length:Int))]) (P:=Try.prog) (T:=TT) (src:=42) (dst:=9) (e:=5) (s:=1) (x:=(.tmp 119)) (by kernel_rfl) (by kernel_rfl) (by kernel_rfl)) (.cons (xcatS (P:=Try.prog) (T:=TT) (t:=9) (ty':=9) (x:=(.tmp 115)) (y:=(.tmp 120)) (p:=a8) (q:=(b2s ([(wi .u8 (a.length:Int))]))) (r:=a9) d4) (.cons (len_ob (f:=Gc) (l:=a)) .nil)))))))))))))) (Up hF (.b 4::.s (cR (cR (cR (cR (cR (cR (cR (cR (cR (cR (cR (bodyOf Try.f11))))))))))))::[]) n a o b2 a5 n a9 0 k.fSectors k.fMark k.fFuse k.fAll c8 _ d6 ?_)
    cases d5 with
    | x0 d7 d8 d9 e0 e1 e2 =>
     try dsimp only at h
     obtain ⟨c0,e3,h⟩:=bind_some h
     obtain ⟨a0,e4,h⟩:=bind_some h
     obtain ⟨a3,e5,h⟩:=bind_some h
     obtain ⟨c1,e6,h⟩:=bind_some h
     obtain ⟨a1,e7,h⟩:=bind_some h
     obtain ⟨c2,e8,h⟩:=bind_some h
     obtain ⟨b0,e9,h⟩:=bind_some h
     obtain ⟨c3,f0,h⟩:=bind_some h
     obtain ⟨c4,f1,h⟩:=bind_some h
     obtain ⟨b1,f2,h⟩:=bind_some h
     obtain ⟨c5,f3,h⟩:=bind_some h
     obtain ⟨a2,f4,h⟩:=bind_some h
     obtain ⟨m,f5,h⟩:=bind_some h
     obtain ⟨a7,f6,h⟩:=bind_some h
     obtain ⟨f7,f8,h⟩:=bind_some h
     refine pkk_sound TTok mix hF 17 (hs:=[.c,.c,.u (di (a.length:Int)),.r (eS c0),.h [4,5] [] [.box [di a0.2.fSectors,di a0.2.fMark,di a0.2.fFuse,.srf 2],.none,.cu (rowF 57 2 (a0.2.fAll.map Gc)) []] (di a0.1),.c,.h [4,73] [] [.box [di a3.fSectors,di a3.fMark,di a3.fFuse,.srf 2],.none,.cu (rowF 57 2 (a3.fAll.map Gc)) []] (.tup []),.c,.c,.r (eS c1),.h [4,98] [] [.box [di a1.2.fSectors,di a1.2.fMark,di a1.2.fFuse,.srf 2],.none,.cu (rowF 57 2 (a1.2.fAll.map Gc)) []] (di a1.1),.c,.c,.u (di (a.length:Int)),.c,.r (eS c2),.e 243 [] (.d (.v (.string b0))) [],.r ((eI .u32) c3),.r (eS c4),.e 263 [] (.d (.v (.string b1))) [],.r (eS c5),.h [4,153] [] [.box [di a2.2.fSectors,di a2.2.fMark,di a2.2.fFuse,.srf 2],.none,.cu (rowF 57 2 (a2.2.fAll.map Gc)) []] (di a2.1),.c,.h [4,273] [] [.box [di m.fSectors,di m.fMark,di m.fFuse,.srf 2],.none,.cu (rowF 57 2 (m.fAll.map Gc)) []] (.tup []),.dl 2,.fz 7,.r ((eL Gm) a7),.u (di (a7.length:Int)),.n n]) (ts:=[]) (s:=[0,1,2,3,4,298,6]) (l:=[0,211,212,213]) (by kernel_rfl) (by kernel_rfl) (.cons (len_ob (f:=Gc) (l:=a)) (.cons (UF n (ByteArray.mk #[]) _ e3) (.cons (Sy n (Gf.mk d8 d9 e0 e1) (wi .i64 ((wi .i64 (o+1))+(a.length:Int))) c0 _ e4) (.cons (Zd n a0.2 _ e5) (.cons (UF n d7 _ e6) (.cons (Sy n a3 o c1 _ e7) (.cons (len_ob (f:=Gc) (l:=a)) (.cons (ZF n (wi .u32 (a5+1)) _ e8) (.cons (xcatS (P:=Try.prog) (T:=TT) (t:=9) (ty':=9) (x:=(.const (.string (ByteArray.mk #[67])))) (y:=(.tmp 197)) (p:=(ByteArray.mk #[67])) (q:=c2) (r:=b0) e9) (.cons (KU n a _ f0) (.cons (ZF n c3 _ f1) (.cons (xcatS (P:=Try.prog) (T:=TT) (t:=9) (ty':=9) (x:=(.tmp 198)) (y:=(.tmp 201)) (p:=b0) (q:=c4) (r:=b1) f2) (.cons (UF n b1 _ f3) (.cons (Sy n a1.2 (wi .i64 ((wi .i64 (o+1))+(a.length:Int))) c5 _ f4) (.cons (Zd n a2.2 _ f5) (.cons (Gb6 n e2 0 _ f6) (.cons (len_ob (f:=Gm) (l:=a7)) .nil))))))))))))))))) (Uq hF (.b 6::.s (cR (cR (cR (cR (cR (cR (cR (cR (cR (cR (cR (cR (cR (cR (cR (cR (cR (bodyOf Try.f11))))))))))))))))))::[]) n a7 o b2 a5 n 0 m.fSectors m.fMark m.fFuse m.fAll _ f8 ?_)
     cases f7 with
     | x0 g7 g8 g9 h0 =>
      try dsimp only at h
      obtain rfl:=Option.some.inj h
      exact pendH_sound TTok mix 4 (hs:=[]) [3,4,6,5] (by kernel_rfl) (by kernel_rfl) (by kernel_rfl) .nil
inductive YM where
 | x0 (a b:(List Int)) (c:(List Gi))
def Gai:YM→Ex
 | .x0 _ _ _=>.normal
def Gaj (b:(List Bool)) (a:Gg) (c:Int) (h i:(List Int)) (j:(List Gi)):YM→PS
 | .x0 e f g=>⟨(.ref 4 0::.d (.sl (b.map eB))::dd::dd::dd::dd::dd::dd::dd::.srf 7::di (a.fwait.length:Int)::di c::(dds 41 [])),[.gh 0 (.ref 4 0),.gh 1 (.srf 5),.gh 2 (.srf 6),.gh 3 (.srf 7),.box [.srf 5,.srf 6,.srf 7,di a.ffuse],.row 5 1 (e.map (eI .u8)),.row 5 1 (f.map (eI .u8)),.row 94 2 (g.map Ge)]⟩
def Gak (b:(List Bool)) (a:Gg) (c:Int) (e f:(List Int)) (g:(List Gi))  : PS:=⟨(.ref 4 0::.d (.sl (b.map eB))::dd::dd::dd::dd::dd::dd::dd::.srf 7::di (a.fwait.length:Int)::di c::(dds 41 [])),[.gh 0 (.ref 4 0),.gh 1 (.srf 5),.gh 2 (.srf 6),.gh 3 (.srf 7),.box [.srf 5,.srf 6,.srf 7,di a.ffuse],.row 5 1 (e.map (eI .u8)),.row 5 1 (f.map (eI .u8)),.row 94 2 (g.map Ge)]⟩
def Y5 (n:Nat) (f:(List Bool)) (h:Gg) (b:Int) (a e:(List Int)) (c:(List Gi)):Option YM :=
 if 0≤b∧(b).toNat<c.length then
  (c[(b).toNat]?).bind fun (d:Gi) =>
  if b<(f.length:Int) then
   (getI f b).bind fun (g:Bool) =>
   if g=true then
    if ((0:Int)≤(wi .i64 (d.fn*64))∧(wi .i64 (d.fn*64))≤(a.length:Int)) then
     if a.length≤a.length then
      some (.x0 (cpyR a ((wi .i64 (d.fn*64)).toNat) a.length d.fdata) e c)
     else none
    else none
   else
    some (.x0 a e c)
  else
   some (.x0 a e c)
 else none
theorem Gal {Fi:Ex→PS→Prop} (hF:KC 53 Fi) (ks:List Fr) (n:Nat) (k:(List Bool)) (a0:Gg) (m:Int) (b a1:(List Int)) (w:(List Gi))  (o:YM) (h:Y5 n k a0 m b a1 w=some o) (q:RunE Try.prog 53 Fi ks (Gai o) (Gaj k a0 m b a1 w o)):RunE Try.prog 53 Fi (.s (cL (cR (cR (cP (cB (cR (cL (bodyOf Try.f13))))))))::ks) .normal (Gak k a0 m b a1 w):=by
 unfold Y5 at h
 by_cases p:0≤m∧(m).toNat<w.length
 ·rw [if_pos p] at h
  obtain ⟨g,a2,h⟩:=bind_some h
  by_cases r:m<(k.length:Int)
  ·rw [if_pos r] at h
   obtain ⟨a3,a6,h⟩:=bind_some h
   by_cases z:a3=true
   ·rw [if_pos z] at h
    by_cases a4:((0:Int)≤(wi .i64 (g.fn*64))∧(wi .i64 (g.fn*64))≤(b.length:Int))
    ·rw [if_pos a4] at h
     by_cases a5:b.length≤b.length
     ·rw [if_pos a5] at h
      cases h
      exact pkk_sound TTok mix hF 8 (hs:=[.y (Ge g),.c,.u (di (k.length:Int)),.t true,.c,.c,.y (eB a3),.c,.c,.t true,.c,.c,.e 123 [5] (.ssl 5 ((wi .i64 (g.fn*64)).toNat) b.length 1) [],.c,.e 138 [5] (di ((Nat.min g.fdata.length (b.length-(wi .i64 (g.fn*64)).toNat):Nat):Int)) [(5,.row 5 1 ((cpyR b ((wi .i64 (g.fn*64)).toNat) b.length g.fdata).map (eI .u8)))]]) (ts:=[]) (s:=[0,1,2,3,4,5,6,7]) (l:=[0,1,9,10,11]) (by kernel_rfl) (by kernel_rfl) (.cons (idx_ob (f:=Ge) p) (.cons (get_ob (f:=Ge) a2) (.cons (show 0+2≤2 by decide) (.cons (len_ob (f:=eB) (l:=k)) (.cons (dt r) (.cons (getI_ob (f:=eB) a6) (.cons z (.cons (xs10 (P:=Try.prog) (T:=TT) (f:=(eI .u8)) (t:=42) (e:=5) (s:=1) (l:=5) (L:=b) (x:=(.tmp 29)) (lo:=(.tmp 32)) (a:=(wi .i64 (g.fn*64))) (ka:=.i64) (by kernel_rfl) a4) (.cons (xcpD (P:=Try.prog) (T:=TT) (f:=(eI .u8)) (t:=42) (t':=42) (e:=5) (s:=1) (l:=5) (x:=(.tmp 33)) (y:=(.tmp 35)) (ti:=⟨1,1,.int .u8,[.i .u8]⟩) (L:=b) (Y:=g.fdata) (i:=(wi .i64 (g.fn*64)).toNat) (j:=b.length) (by kernel_rfl) (by kernel_rfl) a5 (fun _=>rfl)) .nil))))))))) q
     ·rw [if_neg a5] at h; cases h
    ·rw [if_neg a4] at h; cases h
   ·rw [if_neg z] at h
    cases h
    exact pkk_sound TTok mix hF 8 (hs:=[.y (Ge g),.c,.u (di (k.length:Int)),.t true,.c,.c,.y (eB a3),.c,.c,.t false]) (ts:=[]) (s:=[0,1,2,3,4,5,6,7]) (l:=[0,1,9,10,11]) (by kernel_rfl) (by kernel_rfl) (.cons (idx_ob (f:=Ge) p) (.cons (get_ob (f:=Ge) a2) (.cons (show 0+2≤2 by decide) (.cons (len_ob (f:=eB) (l:=k)) (.cons (dt r) (.cons (getI_ob (f:=eB) a6) (.cons (vf z) .nil))))))) q
  ·rw [if_neg r] at h
   cases h
   exact pkk_sound TTok mix hF 8 (hs:=[.y (Ge g),.c,.u (di (k.length:Int)),.t false,.c,.c,.c,.c]) (ts:=[]) (s:=[0,1,2,3,4,5,6,7]) (l:=[0,1,9,10,11]) (by kernel_rfl) (by kernel_rfl) (.cons (idx_ob (f:=Ge) p) (.cons (get_ob (f:=Ge) a2) (.cons (show 0+2≤2 by decide) (.cons (len_ob (f:=eB) (l:=k)) (.cons (df r) .nil))))) q
 ·rw [if_neg p] at h; cases h
inductive YN where
 | x0 (a b:(List Int)) (c:(List Gi))
def Gam:YN→Ex
 | .x0 _ _ _=>.exit 0
def Gan (f:(List Bool)) (a:Gg):YN→PS
 | .x0 b c e=>⟨(.ref 4 0::(dds 52 [])),[.gh 0 (.ref 4 0),.gh 1 (.srf 5),.gh 2 (.srf 6),.gh 3 (.srf 7),.box [.srf 5,.srf 6,.srf 7,di a.ffuse],.row 5 1 (b.map (eI .u8)),.row 5 1 (c.map (eI .u8)),.row 94 2 (e.map Ge)]⟩
def Gao (b:(List Bool)) (a:Gg) (c:Int) (e f:(List Int)) (g:(List Gi)):PS:=⟨(.ref 4 0::.d (.sl (b.map eB))::dd::dd::dd::dd::dd::dd::dd::.srf 7::di (a.fwait.length:Int)::di c::(dds 41 [])),[.gh 0 (.ref 4 0),.gh 1 (.srf 5),.gh 2 (.srf 6),.gh 3 (.srf 7),.box [.srf 5,.srf 6,.srf 7,di a.ffuse],.row 5 1 (e.map (eI .u8)),.row 5 1 (f.map (eI .u8)),.row 94 2 (g.map Ge)]⟩
def Ko (n:Nat) (c:(List Bool)) (a:Gg):Nat→Int→(List Int)→(List Int)→(List Gi)→Option YN
 | 0,_,_,_,_=>none
 | k+1,b,d,e,f =>
  if b<(a.fwait.length:Int) then
   (Y5 n c a b d e f).bind fun g=>match g with
   | .x0 h i j =>
    Ko n c a k (wi .i64 (b+1)) h i j
  else
   some (.x0 d e f)
theorem V2 {Fi:Ex→PS→Prop} (hF:KC 53 Fi) (ks:List Fr) (n:Nat) (c:(List Bool)) (b:Gg)  : ∀ (k:Nat) (a:Int) (d e:(List Int)) (f:(List Gi)) (o:YN),Ko n c b k a d e f=some o→RunE Try.prog 53 Fi ks (Gam o) (Gan c b o)→RunE Try.prog 53 Fi (.l k (cP (cB (cR (cL (bodyOf Try.f13)))))::ks) .normal (Gao c b a d e f)
 | 0,a,d,e,f,o,h,q=>by rw [Ko] at h; cases h
 | k+1,a,d,e,f,o,h,q=>by
  rw [Ko] at h
  by_cases g:a<(b.fwait.length:Int)
  ·rw [if_pos g] at h
   obtain ⟨i,j,h⟩:=bind_some h
   refine pkk_sound TTok mix hF 7 (hs:=[.t true]) (ts:=[]) (s:=[0,1,2,3,4,5,6,7]) (l:=[0,1,9,10,11]) (by kernel_rfl) (by kernel_rfl) (.cons (dt g) .nil) (Gal hF (.s (cR (cR (cR (cP (cB (cR (cL (bodyOf Try.f13))))))))::.l k (cP (cB (cR (cL (bodyOf Try.f13)))))::ks) n c b a d e f _ j ?_)
   cases i with
   | x0 m p r =>
    try dsimp only at h
    exact pkk_sound TTok mix hF 1 (hs:=[]) (ts:=[]) (s:=[0,1,2,3,4,5,6,7]) (l:=[0,1,9,10,11]) (by kernel_rfl) (by kernel_rfl) .nil (V2 hF ks n c b k (wi .i64 (a+1)) m p r _ h q)
  ·rw [if_neg g] at h
   cases h
   exact pkk_sound TTok mix hF 8 (hs:=[.t false]) (ts:=[]) (s:=[0,1,2,3,4,5,6,7]) (l:=[0]) (by kernel_rfl) (by kernel_rfl) (.cons (df g) .nil) q
/- (*ringhall/disk.Disk).Crash -/
def Zm (n:Nat) (a:Gg) (d:(List Bool)):Option (Gg) :=
 (Ko n d a n 0 a.fsafe a.fnow a.fwait).bind fun e=>match e with
 | .x0 b c f =>
  some (Gg.mk b (cpyR c 0 c.length b) ([]:List Gi) (-1))
theorem Y6 (n:Nat) (a:Gg) (j:(List Bool)) (r:Gg) (h:Zm n a j=some r):RetH Try.prog 13 [.ref 0 0,.d ((eL eB) j)] [.box [.srf 1,.srf 2,.srf 3,di a.ffuse],.row 5 1 (a.fsafe.map (eI .u8)),.row 5 1 (a.fnow.map (eI .u8)),.row 94 2 (a.fwait.map Ge)] (.tup []) [.box [.srf 4,.srf 5,.srf 6,di r.ffuse],.none,.none,.none,.row 5 1 (r.fsafe.map (eI .u8)),.row 5 1 (r.fnow.map (eI .u8)),.row 94 2 (r.fwait.map Ge)]:=by
 refine retH_run (n:=53) (fn:=Try.f13) (c:=bodyOf Try.f13) (by kernel_rfl) (by kernel_rfl) (by kernel_rfl) (by kernel_rfl) ?_
 have hF:KC 53 (FinH Try.prog Try.f13 [.box [.srf 1,.srf 2,.srf 3,di a.ffuse],.row 5 1 (a.fsafe.map (eI .u8)),.row 5 1 (a.fnow.map (eI .u8)),.row 94 2 (a.fwait.map Ge)] (.tup []) [.box [.srf 4,.srf 5,.srf 6,di r.ffuse],.none,.none,.none,.row 5 1 (r.fsafe.map (eI .u8)),.row 5 1 (r.fnow.map (eI .u8)),.row 94 2 (r.fwait.map Ge)]):=FinH.kc' (by kernel_rfl)
 unfold Zm at h
 obtain ⟨m,o,h⟩:=bind_some h
 refine pkk_sound TTok mix hF 5 (hs:=[.c,.u (di (a.fwait.length:Int)),.n n]) (ts:=[]) (s:=[4,5,6,7,0,1,2,3]) (l:=[0,1,9,10,11]) (by kernel_rfl) (by kernel_rfl) (.cons (len_ob (f:=Ge) (l:=a.fwait)) .nil) (V2 hF (.b 0::.s (cR (bodyOf Try.f13))::[]) n j a n 0 a.fsafe a.fnow a.fwait _ o ?_)
 cases m with
 | x0 k g p =>
  try dsimp only at h
  obtain rfl:=Option.some.inj h
  exact pendH_sound TTok mix 8 (hs:=[.c,.c,.e 48 [6,5] (di ((Nat.min k.length (g.length-0):Nat):Int)) [(6,.row 5 1 ((cpyR g 0 g.length k).map (eI .u8)))],.c,.c,.mv 5,.mv 6,.tb 4 2 94 2,.fz 7]) [4,5,6,7,93,94,95] (by kernel_rfl) (by kernel_rfl) (by kernel_rfl) (.cons (xcpR0 (P:=Try.prog) (T:=TT) (f:=(eI .u8)) (t:=42) (t':=42) (e:=5) (s:=1) (l:=6) (x:=(.tmp 41)) (y:=(.tmp 45)) (ti:=⟨1,1,.int .u8,[.i .u8]⟩) (L:=g) (Y:=k) (l':=5) (by kernel_rfl) (by kernel_rfl) (fun _=>rfl)) (.cons (show 2+1≤4 by decide) (.cons (show 3+1≤4 by decide) .nil)))
inductive ZV where
 | x0 (a:(List Gd))
def Mm:ZV→Ex
 | .x0 _=>.normal
def Mn (b:(List Bool)) (a:Gf) (c:Int) (f:(List Gd)):ZV→PS
 | .x0 e=>⟨(.ref 2 0::.d (.sl (b.map eB))::(dds 30 (.ssl 4 a.fMark.toNat a.fAll.length 2::di ((a.fAll.length-a.fMark.toNat:Nat):Int)::di c::(dds 36 [])))),[.gh 0 (.ref 2 0),.gh 1 (.srf 4),.box [di a.fSectors,di a.fMark,di a.fFuse,.srf 3],.cu (splC 57 2 (a.fAll.map Gc) (e.map Gc)) [.srf 4],.none]⟩
def Mo (b:(List Bool)) (a:Gf) (c:Int) (e:(List Gd))  : PS:=⟨(.ref 2 0::.d (.sl (b.map eB))::(dds 30 (.ssl 4 a.fMark.toNat a.fAll.length 2::di ((a.fAll.length-a.fMark.toNat:Nat):Int)::di c::(dds 36 [])))),[.gh 0 (.ref 2 0),.gh 1 (.srf 4),.box [di a.fSectors,di a.fMark,di a.fFuse,.srf 3],.cu (splC 57 2 (a.fAll.map Gc) (e.map Gc)) [.srf 4],.none]⟩
def Yj (n:Nat) (d:(List Bool)) (a:Gf) (b:Int) (c:(List Gd)):Option ZV :=
 if 0≤b∧b<((a.fAll.length-a.fMark.toNat:Nat):Int)∧a.fAll.length≤a.fAll.length then
  (a.fAll[(a.fMark.toNat+(b).toNat)]?).bind fun (e:Gd) =>
  if b<(d.length:Int) then
   (getI d b).bind fun (f:Bool) =>
   if f=true then
    (app 24 c ([e])).bind fun (g:(List Gd)) =>
    some (.x0 g)
   else
    some (.x0 c)
  else
   some (.x0 c)
 else none
theorem Mp {Fi:Ex→PS→Prop} (hF:KC 71 Fi) (ks:List Fr) (n:Nat) (k:(List Bool)) (a:Gf) (b:Int) (m:(List Gd))  (o:ZV) (h:Yj n k a b m=some o) (q:RunE Try.prog 71 Fi ks (Mm o) (Mn k a b m o)):RunE Try.prog 71 Fi (.s (cL (cR (cR (cP (cB (cR (cL (cR (cR (bodyOf Try.f14))))))))))::ks) .normal (Mo k a b m):=by
 unfold Yj at h
 by_cases g:0≤b∧b<((a.fAll.length-a.fMark.toNat:Nat):Int)∧a.fAll.length≤a.fAll.length
 ·rw [if_pos g] at h
  obtain ⟨p,a0,h⟩:=bind_some h
  by_cases r:b<(k.length:Int)
  ·rw [if_pos r] at h
   obtain ⟨a1,a2,h⟩:=bind_some h
   by_cases w:a1=true
   ·rw [if_pos w] at h
    obtain ⟨a3,z,h⟩:=bind_some h
    cases h
    exact pkk_sound TTok mix hF 8 (hs:=[.e 10 [3] (.ept 4 2 (a.fMark.toNat+(b).toNat) 0) [],.e 15 [3] (.d (.agg [.v (.int .i64 p.fN),.v (.string p.fData)])) [],.c,.u (di (k.length:Int)),.t true,.c,.c,.y (eB a1),.c,.c,.t true,.c,.c,.bd,.e 120 [3,120] (.srf 120) [(3,.none),(120,.cu (splC 57 2 (a.fAll.map Gc) (a3.map Gc)) [.srf 4])],.c]) (ts:=[]) (s:=[0,1,2,120,4]) (l:=[0,1,32,33,34]) (by kernel_rfl) (by kernel_rfl) (.cons (sidx (P:=Try.prog) (T:=TT) (t:=47) (A:=3) (l:=4) (e:=57) (s:=2) (i0:=a.fMark.toNat) (N:=a.fAll.length) (xs:=(a.fAll.map Gc)) (ys:=(m.map Gc)) (x:=(.tmp 32)) (i:=(.tmp 34)) (ik:=.i64) (j:=b) (by kernel_rfl) g.1 g.2.1 (by rw [List.length_map]; exact g.2.2)) (.cons (sload (P:=Try.prog) (T:=TT) (t:=57) (A:=3) (l:=4) (e:=57) (s:=2) (i:=(a.fMark.toNat+(b).toNat)) (xs:=(a.fAll.map Gc)) (ys:=(m.map Gc)) (y:=(Gc p)) (x:=(.tmp 37)) (by kernel_rfl) (by kernel_rfl) (get_ob (f:=Gc) a0) rfl rfl) (.cons (show 0+2≤2 by decide) (.cons (len_ob (f:=eB) (l:=k)) (.cons (dt r) (.cons (getI_ob (f:=eB) a2) (.cons w (.cons (sapp (P:=Try.prog) (T:=TT) (t:=47) (e:=57) (s:=2) (nl:=120) (ti:=⟨2,24,.st [(0,3),(1,9)],[.i .i64,.s]⟩) (zs:=(a3.map Gc)) (x:=(.tmp 53)) (y:=(.tmp 55)) (A:=3) (l:=4) (xs:=(a.fAll.map Gc)) (ys:=(m.map Gc)) (us:=(([p]).map Gc)) (app_ob (f:=Gc) (s:=2) z (fun _=>rfl)).2.2.2 (by kernel_rfl) (by kernel_rfl) (by kernel_rfl) (by decide) (app_ob (f:=Gc) (s:=2) z (fun _=>rfl)).1 (by simp) (app_ob (f:=Gc) (s:=2) z (fun _=>rfl)).2.1 (app_ob (f:=Gc) (s:=2) z (fun _=>rfl)).2.2.1 (by decide)) (.cons (show 3+1≤4 by decide) .nil))))))))) q
   ·rw [if_neg w] at h
    cases h
    exact pkk_sound TTok mix hF 8 (hs:=[.e 10 [3] (.ept 4 2 (a.fMark.toNat+(b).toNat) 0) [],.e 15 [3] (.d (.agg [.v (.int .i64 p.fN),.v (.string p.fData)])) [],.c,.u (di (k.length:Int)),.t true,.c,.c,.y (eB a1),.c,.c,.t false]) (ts:=[]) (s:=[0,1,2,3,4]) (l:=[0,1,32,33,34]) (by kernel_rfl) (by kernel_rfl) (.cons (sidx (P:=Try.prog) (T:=TT) (t:=47) (A:=3) (l:=4) (e:=57) (s:=2) (i0:=a.fMark.toNat) (N:=a.fAll.length) (xs:=(a.fAll.map Gc)) (ys:=(m.map Gc)) (x:=(.tmp 32)) (i:=(.tmp 34)) (ik:=.i64) (j:=b) (by kernel_rfl) g.1 g.2.1 (by rw [List.length_map]; exact g.2.2)) (.cons (sload (P:=Try.prog) (T:=TT) (t:=57) (A:=3) (l:=4) (e:=57) (s:=2) (i:=(a.fMark.toNat+(b).toNat)) (xs:=(a.fAll.map Gc)) (ys:=(m.map Gc)) (y:=(Gc p)) (x:=(.tmp 37)) (by kernel_rfl) (by kernel_rfl) (get_ob (f:=Gc) a0) rfl rfl) (.cons (show 0+2≤2 by decide) (.cons (len_ob (f:=eB) (l:=k)) (.cons (dt r) (.cons (getI_ob (f:=eB) a2) (.cons (vf w) .nil))))))) q
  ·rw [if_neg r] at h
   cases h
   exact pkk_sound TTok mix hF 8 (hs:=[.e 10 [3] (.ept 4 2 (a.fMark.toNat+(b).toNat) 0) [],.e 15 [3] (.d (.agg [.v (.int .i64 p.fN),.v (.string p.fData)])) [],.c,.u (di (k.length:Int)),.t false,.c,.c,.c,.c]) (ts:=[]) (s:=[0,1,2,3,4]) (l:=[0,1,32,33,34]) (by kernel_rfl) (by kernel_rfl) (.cons (sidx (P:=Try.prog) (T:=TT) (t:=47) (A:=3) (l:=4) (e:=57) (s:=2) (i0:=a.fMark.toNat) (N:=a.fAll.length) (xs:=(a.fAll.map Gc)) (ys:=(m.map Gc)) (x:=(.tmp 32)) (i:=(.tmp 34)) (ik:=.i64) (j:=b) (by kernel_rfl) g.1 g.2.1 (by rw [List.length_map]; exact g.2.2)) (.cons (sload (P:=Try.prog) (T:=TT) (t:=57) (A:=3) (l:=4) (e:=57) (s:=2) (i:=(a.fMark.toNat+(b).toNat)) (xs:=(a.fAll.map Gc)) (ys:=(m.map Gc)) (y:=(Gc p)) (x:=(.tmp 37)) (by kernel_rfl) (by kernel_rfl) (get_ob (f:=Gc) a0) rfl rfl) (.cons (show 0+2≤2 by decide) (.cons (len_ob (f:=eB) (l:=k)) (.cons (df r) .nil))))) q
 ·rw [if_neg g] at h; cases h
inductive ZW where
 | x0 (a:(List Gd))
def Mq:ZW→Ex
 | .x0 _=>.exit 0
def Mr (c:(List Bool)) (a:Gf):ZW→PS
 | .x0 b=>⟨(.ref 2 0::(dds 70 [])),[.gh 0 (.ref 2 0),.gh 1 (.srf 4),.box [di a.fSectors,di a.fMark,di a.fFuse,.srf 3],.cu (splC 57 2 (a.fAll.map Gc) (b.map Gc)) [.srf 4],.none]⟩
def Ms (b:(List Bool)) (a:Gf) (c:Int) (e:(List Gd)):PS:=⟨(.ref 2 0::.d (.sl (b.map eB))::(dds 30 (.ssl 4 a.fMark.toNat a.fAll.length 2::di ((a.fAll.length-a.fMark.toNat:Nat):Int)::di c::(dds 36 [])))),[.gh 0 (.ref 2 0),.gh 1 (.srf 4),.box [di a.fSectors,di a.fMark,di a.fFuse,.srf 3],.cu (splC 57 2 (a.fAll.map Gc) (e.map Gc)) [.srf 4],.none]⟩
def SE (n:Nat) (c:(List Bool)) (a:Gf):Nat→Int→(List Gd)→Option ZW
 | 0,_,_=>none
 | k+1,b,d =>
  if b<((a.fAll.length-a.fMark.toNat:Nat):Int) then
   (Yj n c a b d).bind fun e=>match e with
   | .x0 f =>
    SE n c a k (wi .i64 (b+1)) f
  else
   some (.x0 d)
theorem Ur {Fi:Ex→PS→Prop} (hF:KC 71 Fi) (ks:List Fr) (n:Nat) (c:(List Bool)) (a:Gf)  : ∀ (k:Nat) (b:Int) (d:(List Gd)) (o:ZW),SE n c a k b d=some o→RunE Try.prog 71 Fi ks (Mq o) (Mr c a o)→RunE Try.prog 71 Fi (.l k (cP (cB (cR (cL (cR (cR (bodyOf Try.f14)))))))::ks) .normal (Ms c a b d)
 | 0,b,d,o,h,q=>by rw [SE] at h; cases h
 | k+1,b,d,o,h,q=>by
  rw [SE] at h
  by_cases e:b<((a.fAll.length-a.fMark.toNat:Nat):Int)
  ·rw [if_pos e] at h
   obtain ⟨f,g,h⟩:=bind_some h
   refine pkk_sound TTok mix hF 7 (hs:=[.t true]) (ts:=[]) (s:=[0,1,2,3,4]) (l:=[0,1,32,33,34]) (by kernel_rfl) (by kernel_rfl) (.cons (dt e) .nil) (Mp hF (.s (cR (cR (cR (cP (cB (cR (cL (cR (cR (bodyOf Try.f14))))))))))::.l k (cP (cB (cR (cL (cR (cR (bodyOf Try.f14)))))))::ks) n c a b d _ g ?_)
   cases f with
   | x0 i =>
    try dsimp only at h
    exact pkk_sound TTok mix hF 1 (hs:=[]) (ts:=[]) (s:=[0,1,2,3,4]) (l:=[0,1,32,33,34]) (by kernel_rfl) (by kernel_rfl) .nil (Ur hF ks n c a k (wi .i64 (b+1)) i _ h q)
  ·rw [if_neg e] at h
   cases h
   exact pkk_sound TTok mix hF 8 (hs:=[.t false]) (ts:=[]) (s:=[0,1,2,3,4]) (l:=[0]) (by kernel_rfl) (by kernel_rfl) (.cons (df e) .nil) q
/- (*ringhall/ringref3.Disk).Crash -/
def KG (n:Nat) (a:Gf) (c:(List Bool)):Option (Gf) :=
 if 0≤a.fMark∧a.fMark≤(a.fAll.length:Int) then
  if 0≤a.fMark∧a.fMark≤(a.fAll.length:Int) then
   (SE n c a n 0 (a.fAll.take a.fMark.toNat)).bind fun d=>match d with
   | .x0 b =>
    some (Gf.mk a.fSectors (b.length:Int) (-1) b)
  else none
 else none
theorem Yk (n:Nat) (a:Gf) (g:(List Bool)) (r:Gf) (h:KG n a g=some r):RetH Try.prog 14 [.ref 0 0,.d ((eL eB) g)] [.box [di a.fSectors,di a.fMark,di a.fFuse,.srf 1],.cu (rowF 57 2 (a.fAll.map Gc)) []] (.tup []) [.box [di r.fSectors,di r.fMark,di r.fFuse,.srf 2],.none,.cu (rowF 57 2 (r.fAll.map Gc)) []]:=by
 refine retH_run (n:=71) (fn:=Try.f14) (c:=bodyOf Try.f14) (by kernel_rfl) (by kernel_rfl) (by kernel_rfl) (by kernel_rfl) ?_
 have hF:KC 71 (FinH Try.prog Try.f14 [.box [di a.fSectors,di a.fMark,di a.fFuse,.srf 1],.cu (rowF 57 2 (a.fAll.map Gc)) []] (.tup []) [.box [di r.fSectors,di r.fMark,di r.fFuse,.srf 2],.none,.cu (rowF 57 2 (r.fAll.map Gc)) []]):=FinH.kc' (by kernel_rfl)
 unfold KG at h
 by_cases k:0≤a.fMark∧a.fMark≤(a.fAll.length:Int)
 ·rw [if_pos k] at h
  by_cases m:0≤a.fMark∧a.fMark≤(a.fAll.length:Int)
  ·rw [if_pos m] at h
   obtain ⟨o,p,h⟩:=bind_some h
   refine pkk_sound TTok mix hF 9 (hs:=[.c,.c,.e 44 [1] (.ssl 1 a.fMark.toNat a.fAll.length 2) [],.c,.c,.c,.e 119 [1,119] (.srf 119) [(1,.none),(119,.cu (splC 57 2 (a.fAll.map Gc) ((a.fAll.take a.fMark.toNat).map Gc)) [.srf 1])],.c,.e 144 [] (di ((a.fAll.length-a.fMark.toNat:Nat):Int)) [],.n n]) (ts:=[]) (s:=[2,3,0,119,1]) (l:=[0,1,32,33,34]) (by kernel_rfl) (by kernel_rfl) (.cons (lmap (fsl10 (P:=Try.prog) (T:=TT) (t:=47) (e:=57) (s:=2) (l:=1) (xs:=(a.fAll.map Gc)) (x:=(.tmp 10)) (lo:=(.tmp 14)) (ka:=.i64) (i:=a.fMark) (by kernel_rfl) (by rw [List.length_map]; exact k))) (.cons (fclip (P:=Try.prog) (T:=TT) (t:=47) (e:=57) (s:=2) (l:=1) (xs:=(a.fAll.map Gc)) (x:=(.tmp 20)) (nl:=119) (ys:=((a.fAll.take a.fMark.toNat).map Gc)) (hi:=(.tmp 24)) (mx:=(.tmp 28)) (kb:=.i64) (kc:=.i64) (i:=a.fMark) (by kernel_rfl) (by rw [List.length_map]; exact m) (by rw [List.map_take]) (by decide)) (.cons (show 3+1≤4 by decide) (.cons (xlen (P:=Try.prog) (T:=TT) (t:=47) (e:=57) (s:=2) (l:=1) (i:=a.fMark.toNat) (j:=a.fAll.length) (x:=(.tmp 32)) (by kernel_rfl)) .nil)))) (Ur hF (.b 0::.s (cR (cR (cR (bodyOf Try.f14))))::[]) n g a n 0 (a.fAll.take a.fMark.toNat) _ p ?_)
   cases o with
   | x0 f =>
    try dsimp only at h
    obtain rfl:=Option.some.inj h
    exact pendH_sound TTok mix 3 (hs:=[.c,.e 35 [3] (di (f.length:Int)) [],.c,.c,.sx [3] (toF 3 57 2 (f.map Gc))]) [2,4,3] (by kernel_rfl) (by kernel_rfl) (by kernel_rfl) (.cons (lmap' (slen (P:=Try.prog) (T:=TT) (t:=47) (A:=3) (l:=4) (e:=57) (s:=2) (xs:=(a.fAll.map Gc)) (ys:=(f.map Gc)) (x:=(.tmp 65)) (by kernel_rfl))) (.cons (show 1+1≤4 by decide) (.cons (show 2+1≤4 by decide) (.cons (spl_toF (l:=3) (L:=4) (e:=57) (s:=2) (xs:=(a.fAll.map Gc)) (ys:=(f.map Gc))) .nil))))
  ·rw [if_neg m] at h; cases h
 ·rw [if_neg k] at h; cases h
/- (*ringhall/disk.Disk).Fuse -/
def ZJ (n:Nat) (a:Gg) (b:Int):Option (Gg) :=
 if a.ffuse=0 then
  some a
 else
  some (Gg.mk a.fsafe a.fnow a.fwait (maxI (-1) b))
theorem Gbj (n:Nat) (a:Gg) (e:Int) (r:Gg) (h:ZJ n a e=some r):RetH Try.prog 15 [.ref 0 0,.d ((eI .i64) e)] [.box [.srf 1,.srf 2,.srf 3,di a.ffuse],.row 5 1 (a.fsafe.map (eI .u8)),.row 5 1 (a.fnow.map (eI .u8)),.row 94 2 (a.fwait.map Ge)] (.tup []) [.box [.srf 4,.srf 5,.srf 6,di r.ffuse],.none,.none,.none,.row 5 1 (r.fsafe.map (eI .u8)),.row 5 1 (r.fnow.map (eI .u8)),.row 94 2 (r.fwait.map Ge)]:=by
 refine retH_run (n:=14) (fn:=Try.f15) (c:=bodyOf Try.f15) (by kernel_rfl) (by kernel_rfl) (by kernel_rfl) (by kernel_rfl) ?_
 have hF:KC 14 (FinH Try.prog Try.f15 [.box [.srf 1,.srf 2,.srf 3,di a.ffuse],.row 5 1 (a.fsafe.map (eI .u8)),.row 5 1 (a.fnow.map (eI .u8)),.row 94 2 (a.fwait.map Ge)] (.tup []) [.box [.srf 4,.srf 5,.srf 6,di r.ffuse],.none,.none,.none,.row 5 1 (r.fsafe.map (eI .u8)),.row 5 1 (r.fnow.map (eI .u8)),.row 94 2 (r.fwait.map Ge)]):=FinH.kc' (by kernel_rfl)
 unfold ZJ at h
 by_cases b:a.ffuse=0
 ·rw [if_pos b] at h
  obtain rfl:=Option.some.inj h
  exact pendH_sound TTok mix 7 (hs:=[.c,.t false,.dl 1,.mv 1,.mv 2,.mv 3]) [0,1,2,3,33,34,35] (by kernel_rfl) (by kernel_rfl) (by kernel_rfl) (.cons (nf b) .nil)
 ·rw [if_neg b] at h
  obtain rfl:=Option.some.inj h
  exact pendH_sound TTok mix 7 (hs:=[.c,.t true,.c,.mv 1,.mv 2,.mv 3]) [0,1,2,3,63,64,65] (by kernel_rfl) (by kernel_rfl) (by kernel_rfl) (.cons (nt b) (.cons (show 3+1≤4 by decide) .nil))
/- (*ringhall/ringref3.Disk).Fused -/
def KH (n:Nat) (a:Gf) (b:Int):Option (Gf) :=
 if a.fFuse=0 then
  some a
 else
  some (Gf.mk a.fSectors a.fMark (maxI (-1) b) a.fAll)
theorem MX (n:Nat) (a:Gf) (f:Int) (r:Gf) (h:KH n a f=some r):RetH Try.prog 16 [.ref 0 0,.d ((eI .i64) f)] [.box [di a.fSectors,di a.fMark,di a.fFuse,.srf 1],.cu (rowF 57 2 (a.fAll.map Gc)) []] (.tup []) [.box [di r.fSectors,di r.fMark,di r.fFuse,.srf 2],.none,.cu (rowF 57 2 (r.fAll.map Gc)) []]:=by
 refine retH_run (n:=14) (fn:=Try.f16) (c:=bodyOf Try.f16) (by kernel_rfl) (by kernel_rfl) (by kernel_rfl) (by kernel_rfl) ?_
 have hF:KC 14 (FinH Try.prog Try.f16 [.box [di a.fSectors,di a.fMark,di a.fFuse,.srf 1],.cu (rowF 57 2 (a.fAll.map Gc)) []] (.tup []) [.box [di r.fSectors,di r.fMark,di r.fFuse,.srf 2],.none,.cu (rowF 57 2 (r.fAll.map Gc)) []]):=FinH.kc' (by kernel_rfl)
 unfold KH at h
 by_cases b:a.fFuse=0
 ·rw [if_pos b] at h
  obtain rfl:=Option.some.inj h
  exact pendH_sound TTok mix 5 (hs:=[.c,.t false,.dl 1,.sx [1] (fmvS 1 57 2 (a.fAll.map Gc))]) [0,1,29] (by kernel_rfl) (by kernel_rfl) (by kernel_rfl) (.cons (nf b) (.cons (fmv (l:=1) (e:=57) (s:=2) (xs:=(a.fAll.map Gc))) .nil))
 ·rw [if_neg b] at h
  obtain rfl:=Option.some.inj h
  exact pendH_sound TTok mix 5 (hs:=[.c,.t true,.c,.sx [1] (fmvS 1 57 2 (a.fAll.map Gc))]) [0,1,59] (by kernel_rfl) (by kernel_rfl) (by kernel_rfl) (.cons (nt b) (.cons (show 2+1≤4 by decide) (.cons (fmv (l:=1) (e:=57) (s:=2) (xs:=(a.fAll.map Gc))) .nil)))
inductive SR where
 | x0 (a:Bool)
 | x1 
def Ub:SR→Ex
 | .x0 _=>.ret
 | .x1  => .exit 0
def Uc (b c:(List Gd)):SR→PS
 | .x0 a=>⟨(dd::dd::dd::dd::.d (.v (.bool a))::(dds 21 [])),[]⟩
 | .x1  => ⟨(dds 26 []),[]⟩
def Ud (a b:(List Gd)) (c:Int):PS:=⟨(.d (.sl (a.map Gc))::.d (.sl (b.map Gc))::(dds 10 (di (a.length:Int)::di c::(dds 12 [])))),[]⟩
def GB (n:Nat) (b c:(List Gd)):Nat→Int→Option SR
 | 0,_=>none
 | k+1,a =>
  if a<(b.length:Int) then
   (getI b a).bind fun (d:Gd) =>
   (getI c a).bind fun (e:Gd) =>
   if (eqRes .neq (ZB d e))=true then
    some (.x0 false)
   else
    GB n b c k (wi .i64 (a+1))
  else
   some (.x1 )
theorem Z3 {Fi:Ex→PS→Prop} (hF:KC 26 Fi) (ks:List Fr) (n:Nat) (d g:(List Gd))  : ∀ (k:Nat) (c:Int) (o:SR),GB n d g k c=some o→RunE Try.prog 26 Fi ks (Ub o) (Uc d g o)→RunE Try.prog 26 Fi (.l k (cP (cB (cR (cL (cR (cR (bodyOf Try.f20)))))))::ks) .normal (Ud d g c)
 | 0,c,o,h,q=>by rw [GB] at h; cases h
 | k+1,c,o,h,q=>by
  rw [GB] at h
  by_cases e:c<(d.length:Int)
  ·rw [if_pos e] at h
   obtain ⟨a,j,h⟩:=bind_some h
   obtain ⟨b,m,h⟩:=bind_some h
   by_cases i:(eqRes .neq (ZB a b))=true
   ·rw [if_pos i] at h
    cases h
    exact pkk_sound TTok mix hF 19 (hs:=[.t true,.y (Gc a),.y (Gc b),.q (ZB a b),.t true]) (ts:=[]) (s:=[]) (l:=[4]) (by kernel_rfl) (by kernel_rfl) (.cons (dt e) (.cons (getI_ob (f:=Gc) j) (.cons (getI_ob (f:=Gc) m) (.cons (ME a b) (.cons i .nil))))) q
   ·rw [if_neg i] at h
    exact pkk_sound TTok mix hF 16 (hs:=[.t true,.y (Gc a),.y (Gc b),.q (ZB a b),.t false]) (ts:=[]) (s:=[]) (l:=[0,1,12,13]) (by kernel_rfl) (by kernel_rfl) (.cons (dt e) (.cons (getI_ob (f:=Gc) j) (.cons (getI_ob (f:=Gc) m) (.cons (ME a b) (.cons (vf i) .nil))))) (Z3 hF ks n d g k (wi .i64 (c+1)) _ h q)
  ·rw [if_neg e] at h
   cases h
   exact pkk_sound TTok mix hF 8 (hs:=[.t false]) (ts:=[]) (s:=[]) (l:=[]) (by kernel_rfl) (by kernel_rfl) (.cons (df e) .nil) q
/- slices.Equal[[]ringhall/ringref3.Put,ringhall/ringref3.Put] -/
def G5 (n:Nat) (a b:(List Gd)):Option (Bool) :=
 if (a.length:Int)=(b.length:Int) then
  (GB n a b n 0).bind fun c=>match c with
  | .x0 d =>
   some d
  | .x1  =>
   some true
 else
  some false
theorem Gr (n:Nat) (a e:(List Gd)) (r:Bool) (h:G5 n a e=some r):Ret Try.prog 20 [(eL Gc) a,(eL Gc) e] (eB r):=by
 refine ret_run (n:=26) (fn:=Try.f20) (c:=bodyOf Try.f20) (by kernel_rfl) (by kernel_rfl) (by kernel_rfl) (by kernel_rfl) ?_
 have hF:KC 26 (FinR Try.prog Try.f20 (eB r)):=FinR.kc' (by kernel_rfl)
 unfold G5 at h
 by_cases g:(a.length:Int)=(e.length:Int)
 ·rw [if_pos g] at h
  obtain ⟨i,j,h⟩:=bind_some h
  refine pkk_sound TTok mix hF 12 (hs:=[.u (di (a.length:Int)),.u (di (e.length:Int)),.t false,.u (di (a.length:Int)),.n n]) (ts:=[]) (s:=[]) (l:=[0,1,12,13]) (by kernel_rfl) (by kernel_rfl) (.cons (len_ob (f:=Gc) (l:=a)) (.cons (len_ob (f:=Gc) (l:=e)) (.cons (nf g) (.cons (len_ob (f:=Gc) (l:=a)) .nil)))) (Z3 hF (.b 0::.s (cR (cR (cR (bodyOf Try.f20))))::[]) n a e n 0 _ j ?_)
  cases i with
  | x0 k =>
   try dsimp only at h
   obtain rfl:=Option.some.inj h
   exact pend_sound TTok mix 2 (hs:=[]) (by kernel_rfl) (by kernel_rfl) (by kernel_rfl) .nil
  | x1  =>
   try dsimp only at h
   obtain rfl:=Option.some.inj h
   exact pend_sound TTok mix 4 (hs:=[]) (by kernel_rfl) (by kernel_rfl) (by kernel_rfl) .nil
 ·rw [if_neg g] at h
  obtain rfl:=Option.some.inj h
  exact pend_sound TTok mix 10 (hs:=[.u (di (a.length:Int)),.u (di (e.length:Int)),.t true]) (by kernel_rfl) (by kernel_rfl) (by kernel_rfl) (.cons (len_ob (f:=Gc) (l:=a)) (.cons (len_ob (f:=Gc) (l:=e)) (.cons (nt g) .nil)))
/- (*ringhall/journal.Log).Seq -/
def Yd (n:Nat) (a:Gp) (b:Gg):Option (Int×Gp×Gg) :=
 some (a.fseq,a,b)
theorem Y7 (n:Nat) (b:Gp) (a:Gg) (r:Int×Gp×Gg) (h:Yd n b a=some r):RetH Try.prog 23 [.ref 0 0] [.box [.ref 1 0,di b.fat,di b.fsize,.d (.v (.int .u32 b.fseq))],.box [.srf 2,.srf 3,.srf 4,di a.ffuse],.row 5 1 (a.fsafe.map (eI .u8)),.row 5 1 (a.fnow.map (eI .u8)),.row 94 2 (a.fwait.map Ge)] (.d ((eI .u32) r.1)) [.box [.ref 1 0,di r.2.1.fat,di r.2.1.fsize,.d (.v (.int .u32 r.2.1.fseq))],.box [.srf 5,.srf 6,.srf 7,di r.2.2.ffuse],.none,.none,.none,.row 5 1 (r.2.2.fsafe.map (eI .u8)),.row 5 1 (r.2.2.fnow.map (eI .u8)),.row 94 2 (r.2.2.fwait.map Ge)]:=by
 refine retH_run (n:=7) (fn:=Try.f23) (c:=bodyOf Try.f23) (by kernel_rfl) (by kernel_rfl) (by kernel_rfl) (by kernel_rfl) ?_
 have hF:KC 7 (FinH Try.prog Try.f23 [.box [.ref 1 0,di b.fat,di b.fsize,.d (.v (.int .u32 b.fseq))],.box [.srf 2,.srf 3,.srf 4,di a.ffuse],.row 5 1 (a.fsafe.map (eI .u8)),.row 5 1 (a.fnow.map (eI .u8)),.row 94 2 (a.fwait.map Ge)] (.d ((eI .u32) r.1)) [.box [.ref 1 0,di r.2.1.fat,di r.2.1.fsize,.d (.v (.int .u32 r.2.1.fseq))],.box [.srf 5,.srf 6,.srf 7,di r.2.2.ffuse],.none,.none,.none,.row 5 1 (r.2.2.fsafe.map (eI .u8)),.row 5 1 (r.2.2.fnow.map (eI .u8)),.row 94 2 (r.2.2.fwait.map Ge)]):=FinH.kc' (by kernel_rfl)
 unfold Yd at h
 obtain rfl:=Option.some.inj h
 exact pendH_sound TTok mix 8 (hs:=[.c,.dl 1,.mv 2,.mv 3,.mv 4]) [0,1,2,3,4,40,41,42] (by kernel_rfl) (by kernel_rfl) (by kernel_rfl) .nil
/- (*ringhall/disk.Disk).Waiting -/
def Kx (n:Nat) (a:Gg):Option (Int×Gg) :=
 some ((a.fwait.length:Int),a)
theorem GW (n:Nat) (a:Gg) (r:Int×Gg) (h:Kx n a=some r):RetH Try.prog 25 [.ref 0 0] [.box [.srf 1,.srf 2,.srf 3,di a.ffuse],.row 5 1 (a.fsafe.map (eI .u8)),.row 5 1 (a.fnow.map (eI .u8)),.row 94 2 (a.fwait.map Ge)] (.d ((eI .i64) r.1)) [.box [.srf 4,.srf 5,.srf 6,di r.2.ffuse],.none,.none,.none,.row 5 1 (r.2.fsafe.map (eI .u8)),.row 5 1 (r.2.fnow.map (eI .u8)),.row 94 2 (r.2.fwait.map Ge)]:=by
 refine retH_run (n:=8) (fn:=Try.f25) (c:=bodyOf Try.f25) (by kernel_rfl) (by kernel_rfl) (by kernel_rfl) (by kernel_rfl) ?_
 have hF:KC 8 (FinH Try.prog Try.f25 [.box [.srf 1,.srf 2,.srf 3,di a.ffuse],.row 5 1 (a.fsafe.map (eI .u8)),.row 5 1 (a.fnow.map (eI .u8)),.row 94 2 (a.fwait.map Ge)] (.d ((eI .i64) r.1)) [.box [.srf 4,.srf 5,.srf 6,di r.2.ffuse],.none,.none,.none,.row 5 1 (r.2.fsafe.map (eI .u8)),.row 5 1 (r.2.fnow.map (eI .u8)),.row 94 2 (r.2.fwait.map Ge)]):=FinH.kc' (by kernel_rfl)
 unfold Kx at h
 obtain rfl:=Option.some.inj h
 exact pendH_sound TTok mix 8 (hs:=[.c,.u (di (a.fwait.length:Int)),.dl 1,.mv 1,.mv 2,.mv 3]) [0,1,2,3,43,44,45] (by kernel_rfl) (by kernel_rfl) (by kernel_rfl) (.cons (len_ob (f:=Ge) (l:=a.fwait)) .nil)
/- (*ringhall/disk.Disk).Image -/
def S8 (n:Nat) (a:Gg):Option ((List Int)×Gg) :=
 (GC n a.fsafe).bind fun (b:(List Int)) =>
 some (b,a)
theorem Kq (n:Nat) (a:Gg) (r:(List Int)×Gg) (h:S8 n a=some r):RetH Try.prog 26 [.ref 0 0] [.box [.srf 1,.srf 2,.srf 3,di a.ffuse],.row 5 1 (a.fsafe.map (eI .u8)),.row 5 1 (a.fnow.map (eI .u8)),.row 94 2 (a.fwait.map Ge)] (.d ((eL (eI .u8)) r.1)) [.box [.srf 4,.srf 5,.srf 6,di r.2.ffuse],.none,.none,.none,.row 5 1 (r.2.fsafe.map (eI .u8)),.row 5 1 (r.2.fnow.map (eI .u8)),.row 94 2 (r.2.fwait.map Ge)]:=by
 refine retH_run (n:=8) (fn:=Try.f26) (c:=bodyOf Try.f26) (by kernel_rfl) (by kernel_rfl) (by kernel_rfl) (by kernel_rfl) ?_
 have hF:KC 8 (FinH Try.prog Try.f26 [.box [.srf 1,.srf 2,.srf 3,di a.ffuse],.row 5 1 (a.fsafe.map (eI .u8)),.row 5 1 (a.fnow.map (eI .u8)),.row 94 2 (a.fwait.map Ge)] (.d ((eL (eI .u8)) r.1)) [.box [.srf 4,.srf 5,.srf 6,di r.2.ffuse],.none,.none,.none,.row 5 1 (r.2.fsafe.map (eI .u8)),.row 5 1 (r.2.fnow.map (eI .u8)),.row 94 2 (r.2.fwait.map Ge)]):=FinH.kc' (by kernel_rfl)
 unfold S8 at h
 obtain ⟨b,i,h⟩:=bind_some h
 obtain rfl:=Option.some.inj h
 exact pendH_sound TTok mix 9 (hs:=[.c,.e 33 [1,33] (.srf 33) [(33,.row 5 1 (b.map (eI .u8)))],.dl 1,.fz 33,.mv 1,.mv 2,.mv 3]) [0,1,2,3,43,44,45] (by kernel_rfl) (by kernel_rfl) (by kernel_rfl) (.cons (cwhole (P:=Try.prog) (T:=TT) (f:=.func 37) (args:=#[(.tmp 6)]) (tys:=#[42]) (g:=37) (l:=1) (e:=5) (s:=1) (nl:=33) (xs:=(a.fsafe.map (eI .u8))) (Y8 n _ _ i) (flat_map _ (fun _=>rfl))) .nil)
/- (*ringhall/ringref3.Disk).Safe -/
def Ye (n:Nat) (a:Gf) (b:Int):Option (ByteArray×Gf) :=
 if 0≤a.fMark∧a.fMark≤(a.fAll.length:Int) then
  if 0≤a.fMark.toNat∧a.fMark.toNat≤a.fAll.length then
   (Xw n ((a.fAll.take a.fMark.toNat).drop 0) b).bind fun (c:(ByteArray)) =>
   some (c,a)
  else none
 else none
theorem Gap (n:Nat) (a:Gf) (b:Int) (r:ByteArray×Gf) (h:Ye n a b=some r):RetH Try.prog 48 [.ref 0 0,.d ((eI .i64) b)] [.box [di a.fSectors,di a.fMark,di a.fFuse,.srf 1],.cu (rowF 57 2 (a.fAll.map Gc)) []] (.d (eS r.1)) [.box [di r.2.fSectors,di r.2.fMark,di r.2.fFuse,.srf 2],.none,.cu (rowF 57 2 (r.2.fAll.map Gc)) []]:=by
 refine retH_run (n:=16) (fn:=Try.f48) (c:=bodyOf Try.f48) (by kernel_rfl) (by kernel_rfl) (by kernel_rfl) (by kernel_rfl) ?_
 have hF:KC 16 (FinH Try.prog Try.f48 [.box [di a.fSectors,di a.fMark,di a.fFuse,.srf 1],.cu (rowF 57 2 (a.fAll.map Gc)) []] (.d (eS r.1)) [.box [di r.2.fSectors,di r.2.fMark,di r.2.fFuse,.srf 2],.none,.cu (rowF 57 2 (r.2.fAll.map Gc)) []]):=FinH.kc' (by kernel_rfl)
 unfold Ye at h
 by_cases k:0≤a.fMark∧a.fMark≤(a.fAll.length:Int)
 ·rw [if_pos k] at h
  by_cases m:0≤a.fMark.toNat∧a.fMark.toNat≤a.fAll.length
  ·rw [if_pos m] at h
   obtain ⟨o,p,h⟩:=bind_some h
   obtain rfl:=Option.some.inj h
   exact pendH_sound TTok mix 6 (hs:=[.c,.c,.e 49 [1] (.ssl 1 0 a.fMark.toNat 2) [],.e 59 [1] (.d (.v (.string o))) [],.dl 1,.sx [1] (fmvS 1 57 2 (a.fAll.map Gc))]) [0,1,69] (by kernel_rfl) (by kernel_rfl) (by kernel_rfl) (.cons (fsl01 (P:=Try.prog) (T:=TT) (t:=47) (e:=57) (s:=2) (l:=1) (xs:=(a.fAll.map Gc)) (x:=(.tmp 8)) (hi:=(.tmp 12)) (ka:=.i64) (i:=a.fMark) (by kernel_rfl) (by rw [List.length_map]; exact k)) (.cons (pcall (P:=Try.prog) (T:=TT) (f:=.func 52) (args:=#[(.tmp 13),(.tmp 14)]) (tys:=#[47,3]) (g:=52) (l:=1) (e:=57) (s:=2) (i:=0) (j:=a.fMark.toNat) (xs:=(a.fAll.map Gc)) (ys:=(((a.fAll.take a.fMark.toNat).drop 0).map Gc)) (ps:=[.v (.int .i64 b)]) (by simp only [List.map_drop,List.map_take]) (by rw [List.length_map]; exact m) (ML n ((a.fAll.take a.fMark.toNat).drop 0) b _ p) (by rfl)) (.cons (fmv (l:=1) (e:=57) (s:=2) (xs:=(a.fAll.map Gc))) .nil)))
  ·rw [if_neg m] at h; cases h
 ·rw [if_neg k] at h; cases h
inductive ZX where
 | x0 (a:ByteArray) (b c d:Int) (e:(List Gd))
def Mt:ZX→Ex
 | .x0 _ _ _ _ _=>.exit 0
def Mu (g:Gf):ZX→PS
 | .x0 a b c e f=>⟨(dd::dd::dd::.d (.v (.string a))::(dds 15 [])),[.gh 0 (.ref 2 0),.gh 1 (.srf 4),.box [di b,di c,di e,.srf 3],.cu (rowF 57 2 (f.map Gc)) [],.none]⟩
def Mv (a:Gf) (b:ByteArray) (c e f g:Int) (h:(List Gd)):PS:=⟨(.ref 2 0::dd::dd::.d (.v (.string b))::dd::dd::dd::dd::di a.fSectors::di c::(dds 9 [])),[.gh 0 (.ref 2 0),.gh 1 (.srf 4),.box [di e,di f,di g,.srf 3],.cu (rowF 57 2 (h.map Gc)) [],.none]⟩
def SF (n:Nat) (c:Gf):Nat→ByteArray→Int→Int→Int→Int→(List Gd)→Option ZX
 | 0,_,_,_,_,_,_=>none
 | k+1,d,b,e,f,g,h =>
  if b<c.fSectors then
   (Ye n (Gf.mk e f g h) b).bind fun (a:(ByteArray×Gf)) =>
   (catS d a.1).bind fun (i:ByteArray) =>
   SF n c k i (wi .i64 (b+1)) a.2.fSectors a.2.fMark a.2.fFuse a.2.fAll
  else
   some (.x0 d e f g h)
theorem Us {Fi:Ex→PS→Prop} (hF:KC 19 Fi) (ks:List Fr) (n:Nat) (c:Gf)  : ∀ (k:Nat) (f:ByteArray) (b g i j:Int) (m:(List Gd)) (o:ZX),SF n c k f b g i j m=some o→RunE Try.prog 19 Fi ks (Mt o) (Mu c o)→RunE Try.prog 19 Fi (.l k (cP (cB (cR (cL (cR (cR (bodyOf Try.f27)))))))::ks) .normal (Mv c f b g i j m)
 | 0,f,b,g,i,j,m,o,h,q=>by rw [SF] at h; cases h
 | k+1,f,b,g,i,j,m,o,h,q=>by
  rw [SF] at h
  by_cases u:b<c.fSectors
  ·rw [if_pos u] at h
   obtain ⟨a,z,h⟩:=bind_some h
   obtain ⟨w,a0,h⟩:=bind_some h
   exact pkk_sound TTok mix hF 13 (hs:=[.t true,.h [2,3] [] [.box [di a.2.fSectors,di a.2.fMark,di a.2.fFuse,.srf 2],.none,.cu (rowF 57 2 (a.2.fAll.map Gc)) []] (.d (.v (.string a.1))),.e 40 [] (.d (.v (.string w))) []]) (ts:=[]) (s:=[0,1,2,35,4]) (l:=[0,3,8,9]) (by kernel_rfl) (by kernel_rfl) (.cons (dt u) (.cons (Gap n (Gf.mk g i j m) b _ z) (.cons (xcatS (P:=Try.prog) (T:=TT) (t:=9) (ty':=9) (x:=(.tmp 12)) (y:=(.tmp 15)) (p:=f) (q:=a.1) (r:=w) a0) .nil))) (Us hF ks n c k w (wi .i64 (b+1)) a.2.fSectors a.2.fMark a.2.fFuse a.2.fAll _ h q)
  ·rw [if_neg u] at h
   cases h
   exact pkk_sound TTok mix hF 8 (hs:=[.t false]) (ts:=[]) (s:=[0,1,2,3,4]) (l:=[3]) (by kernel_rfl) (by kernel_rfl) (.cons (df u) .nil) q
/- (*ringhall/ringref3.Disk).Image -/
def Sm (n:Nat) (a:Gf):Option (ByteArray×Gf) :=
 (SF n a n (ByteArray.mk #[]) 0 a.fSectors a.fMark a.fFuse a.fAll).bind fun b=>match b with
 | .x0 c d e f g =>
  some (c,(Gf.mk d e f g))
theorem SG (n:Nat) (a:Gf) (r:ByteArray×Gf) (h:Sm n a=some r):RetH Try.prog 27 [.ref 0 0] [.box [di a.fSectors,di a.fMark,di a.fFuse,.srf 1],.cu (rowF 57 2 (a.fAll.map Gc)) []] (.d (eS r.1)) [.box [di r.2.fSectors,di r.2.fMark,di r.2.fFuse,.srf 2],.none,.cu (rowF 57 2 (r.2.fAll.map Gc)) []]:=by
 refine retH_run (n:=19) (fn:=Try.f27) (c:=bodyOf Try.f27) (by kernel_rfl) (by kernel_rfl) (by kernel_rfl) (by kernel_rfl) ?_
 have hF:KC 19 (FinH Try.prog Try.f27 [.box [di a.fSectors,di a.fMark,di a.fFuse,.srf 1],.cu (rowF 57 2 (a.fAll.map Gc)) []] (.d (eS r.1)) [.box [di r.2.fSectors,di r.2.fMark,di r.2.fFuse,.srf 2],.none,.cu (rowF 57 2 (r.2.fAll.map Gc)) []]):=FinH.kc' (by kernel_rfl)
 unfold Sm at h
 obtain ⟨f,g,h⟩:=bind_some h
 refine pkk_sound TTok mix hF 10 (hs:=[.c,.dl 1,.sx [1] (fmvS 1 57 2 (a.fAll.map Gc)),.n n]) (ts:=[]) (s:=[2,3,0,39,1]) (l:=[0,3,8,9]) (by kernel_rfl) (by kernel_rfl) (.cons (fmv (l:=1) (e:=57) (s:=2) (xs:=(a.fAll.map Gc))) .nil) (Us hF (.b 0::.s (cR (cR (cR (bodyOf Try.f27))))::[]) n a n (ByteArray.mk #[]) 0 a.fSectors a.fMark a.fFuse a.fAll _ g ?_)
 cases f with
 | x0 i j k m o =>
  try dsimp only at h
  obtain rfl:=Option.some.inj h
  exact pendH_sound TTok mix 4 (hs:=[]) [2,4,3] (by kernel_rfl) (by kernel_rfl) (by kernel_rfl) .nil
inductive ZY where
 | x0 (a:Bool) (b c:(List Int)) (d:(List Gi)) (e:(List Gd))
def Mw:ZY→Ex
 | .x0 _ _ _ _ _=>.normal
def Mx (e f:Int) (g:(List Gk)) (n o:Int) (h:Gg) (a:Gf) (b:Gp) (c:Gt):ZY→PS
 | .x0 i j k l m=>⟨(dd::di e::di f::.d (.sl (g.map Gn))::dd::dd::dd::dd::dd::.ref 0 0::dd::.ref 4 0::.ref 6 0::.ref 7 0::(dds 59 (.d (.v (.bool i))::(dds 172 [])))),[.box [.srf 1,.srf 2,.srf 3,di h.ffuse],.row 5 1 (j.map (eI .u8)),.row 5 1 (k.map (eI .u8)),.row 94 2 (l.map Ge),.box [di a.fSectors,di a.fMark,di a.fFuse,.srf 5],.cu (rowF 57 2 (m.map Gc)) [],.box [.ref 0 0,di b.fat,di b.fsize,.d (.v (.int .u32 b.fseq))],.box [.ref 4 0,di c.fAt,di c.fSize,.d (.v (.int .u32 c.fSeq))]]⟩
def My (f g:Int) (h:(List Gk)) (i j:Int) (a:Gg) (b:Gf) (c:Gp) (e:Gt)  : PS:=⟨(dd::di f::di g::.d (.sl (h.map Gn))::dd::dd::dd::dd::dd::.ref 0 0::di i::.ref 4 0::.ref 6 0::.ref 7 0::di j::(dds 231 [])),[.box [.srf 1,.srf 2,.srf 3,di a.ffuse],.row 5 1 (a.fsafe.map (eI .u8)),.row 5 1 (a.fnow.map (eI .u8)),.row 94 2 (a.fwait.map Ge),.box [di b.fSectors,di b.fMark,di b.fFuse,.srf 5],.cu (rowF 57 2 (b.fAll.map Gc)) [],.box [.ref 0 0,di c.fat,di c.fsize,.d (.v (.int .u32 c.fseq))],.box [.ref 4 0,di e.fAt,di e.fSize,.d (.v (.int .u32 e.fSeq))]]⟩
def Yl (n:Nat) (e f:Int) (g:(List Gk)) (c d:Int) (a:Gg) (b:Gf) (h:Gp) (i:Gt):Option ZY :=
 if c=d then
  some (.x0 false a.fsafe a.fnow a.fwait b.fAll)
 else
  some (.x0 true a.fsafe a.fnow a.fwait b.fAll)
theorem Mz {Fi:Ex→PS→Prop} (hF:KC 246 Fi) (ks:List Fr) (n:Nat) (g i:Int) (j:(List Gk)) (a b:Int) (k:Gg) (m:Gf) (p:Gp) (r:Gt)  (o:ZY) (h:Yl n g i j a b k m p r=some o) (q:RunE Try.prog 246 Fi ks (Mw o) (Mx g i j a b k m p r o)):RunE Try.prog 246 Fi (.s (cL (cL (cR (cR (cR (cR (cR (cR (cR (cR (bodyOf Try.f3)))))))))))::ks) .normal (My g i j a b k m p r):=by
 unfold Yl at h
 by_cases f:a=b
 ·rw [if_pos f] at h
  cases h
  exact pkk_sound TTok mix hF 1 (hs:=[.t false,.c,.e 33 [] (.d (.v (.bool true))) [],.c,.c,.e 43 [] (.d (.v (.bool true))) [],.c]) (ts:=[]) (s:=[0,1,2,3,4,5,6,7]) (l:=[1,2,3,9,11,12,13,73]) (by kernel_rfl) (by kernel_rfl) (.cons (nf f) (.cons (xnilP (P:=Try.prog) (T:=TT) (op:=.neq) (t:=31) (e:=75) (ty':=31) (x:=(.tmp 68)) (y:=(.const (.pointer none))) (l:=6) (off:=0) rfl (by kernel_rfl)) (.cons (xnilP (P:=Try.prog) (T:=TT) (op:=.neq) (t:=34) (e:=62) (ty':=34) (x:=(.tmp 70)) (y:=(.const (.pointer none))) (l:=7) (off:=0) rfl (by kernel_rfl)) .nil))) q
 ·rw [if_neg f] at h
  cases h
  exact pkk_sound TTok mix hF 1 (hs:=[.t true,.c,.c,.c,.c]) (ts:=[]) (s:=[0,1,2,3,4,5,6,7]) (l:=[1,2,3,9,11,12,13,73]) (by kernel_rfl) (by kernel_rfl) (.cons (nt f) .nil) q
inductive ZZ where
 | x0 (a b c:Int) (d e:(List Int)) (f:(List Gi)) (g h i:Int) (j:(List Gd)) (k l m n o p:Int)
 | x1 (q r s:Int) (t u:(List Int)) (v:(List Gi)) (w x y:Int) (z:(List Gd))
 | x2 (a0 a1 a2:Int) (a3 a4:(List Int)) (a5:(List Gi)) (a6 a7 a8:Int) (a9:(List Gd)) (b0 b1 b2:Int)
 | x3 (b3 b4 b5:Int) (b6 b7:(List Int)) (b8:(List Gi)) (b9 c0 c1:Int) (c2:(List Gd)) (c3 c4 c5:Int)
 | x4 (c6 c7 c8:Int) (c9 d0:(List Int)) (d1:(List Gi)) (d2 d3 d4:Int) (d5:(List Gd))
def MA:ZZ→Ex
 | .x0 _ _ _ _ _ _ _ _ _ _ _ _ _ _ _ _=>.normal
 | .x1 _ _ _ _ _ _ _ _ _ _=>.normal
 | .x2 _ _ _ _ _ _ _ _ _ _ _ _ _=>.normal
 | .x3 _ _ _ _ _ _ _ _ _ _ _ _ _=>.normal
 | .x4 _ _ _ _ _ _ _ _ _ _=>.normal
def MB (b c:Int) (a:(List Gk)) (e:Int) (e8:Gk) (e9:Int) (f0 f1:(List Int)) (f2:(List Gi)) (f3 f4 f5:Int) (f6:(List Gd)) (f g h i j k:Int):ZZ→PS
 | .x0 l m n o p q r s t u w x y z a0 a1=>⟨(dd::di b::di c::dd::dd::dd::dd::dd::dd::.ref 0 0::dd::.ref 4 0::.ref 6 0::.ref 7 0::dd::dd::dd::dd::dd::dd::dd::di l::di m::(dds 64 (.d (.sl (a.map Gn))::di (a.length:Int)::di e::(dds 156 [])))),[.box [.srf 1,.srf 2,.srf 3,di n],.row 5 1 (o.map (eI .u8)),.row 5 1 (p.map (eI .u8)),.row 94 2 (q.map Ge),.box [di r,di s,di t,.srf 5],.cu (rowF 57 2 (u.map Gc)) [],.box [.ref 0 0,di w,di x,.d (.v (.int .u32 y))],.box [.ref 4 0,di z,di a0,.d (.v (.int .u32 a1))]]⟩
 | .x1 a2 a3 a4 a5 a6 a7 a8 a9 b0 b1=>⟨(dd::di b::di c::dd::dd::dd::dd::dd::dd::.ref 0 0::dd::.ref 4 0::.d (.v (.pointer none))::.d (.v (.pointer none))::dd::dd::dd::dd::dd::dd::dd::di a2::di a3::(dds 64 (.d (.sl (a.map Gn))::di (a.length:Int)::di e::(dds 156 [])))),[.box [.srf 1,.srf 2,.srf 3,di a4],.row 5 1 (a5.map (eI .u8)),.row 5 1 (a6.map (eI .u8)),.row 94 2 (a7.map Ge),.box [di a8,di a9,di b0,.srf 5],.cu (rowF 57 2 (b1.map Gc)) []]⟩
 | .x2 b2 b3 b4 b5 b6 b7 b8 b9 c0 c1 c2 c3 c4=>⟨(dd::di b::di c::dd::dd::dd::dd::dd::dd::.ref 0 0::dd::.ref 4 0::.d (.v (.pointer none))::.ref 6 0::dd::dd::dd::dd::dd::dd::dd::di b2::di b3::(dds 64 (.d (.sl (a.map Gn))::di (a.length:Int)::di e::(dds 156 [])))),[.box [.srf 1,.srf 2,.srf 3,di b4],.row 5 1 (b5.map (eI .u8)),.row 5 1 (b6.map (eI .u8)),.row 94 2 (b7.map Ge),.box [di b8,di b9,di c0,.srf 5],.cu (rowF 57 2 (c1.map Gc)) [],.box [.ref 4 0,di c2,di c3,.d (.v (.int .u32 c4))]]⟩
 | .x3 c5 c6 c7 c8 c9 d0 d1 d2 d3 d4 d5 d6 d7=>⟨(dd::di b::di c::dd::dd::dd::dd::dd::dd::.ref 0 0::dd::.ref 4 0::.ref 6 0::.d (.v (.pointer none))::dd::dd::dd::dd::dd::dd::dd::di c5::di c6::(dds 64 (.d (.sl (a.map Gn))::di (a.length:Int)::di e::(dds 156 [])))),[.box [.srf 1,.srf 2,.srf 3,di c7],.row 5 1 (c8.map (eI .u8)),.row 5 1 (c9.map (eI .u8)),.row 94 2 (d0.map Ge),.box [di d1,di d2,di d3,.srf 5],.cu (rowF 57 2 (d4.map Gc)) [],.box [.ref 0 0,di d5,di d6,.d (.v (.int .u32 d7))]]⟩
 | .x4 d8 d9 e0 e1 e2 e3 e4 e5 e6 e7=>⟨(dd::di b::di c::dd::dd::dd::dd::dd::dd::.ref 0 0::dd::.ref 4 0::.ref 6 0::.ref 7 0::dd::dd::dd::dd::dd::dd::dd::di d8::di d9::(dds 64 (.d (.sl (a.map Gn))::di (a.length:Int)::di e::(dds 156 [])))),[.box [.srf 1,.srf 2,.srf 3,di e0],.row 5 1 (e1.map (eI .u8)),.row 5 1 (e2.map (eI .u8)),.row 94 2 (e3.map Ge),.box [di e4,di e5,di e6,.srf 5],.cu (rowF 57 2 (e7.map Gc)) [],.box [.ref 0 0,di f,di g,.d (.v (.int .u32 h))],.box [.ref 4 0,di i,di j,.d (.v (.int .u32 k))]]⟩
def MC (c e:Int) (b:(List Gk)) (f:Int) (a:Gk) (g:Int) (h i:(List Int)) (j:(List Gi)) (k l m:Int) (n:(List Gd)) (o p q r s t:Int)  : PS:=⟨(dd::di c::di e::dd::dd::dd::dd::dd::dd::.ref 0 0::dd::.ref 4 0::.ref 6 0::.ref 7 0::dd::dd::dd::dd::dd::dd::.ref 8 0::di 0::di 0::(dds 64 (.d (.sl (b.map Gn))::di (b.length:Int)::di f::dd::dd::dd::dd::di a.fKind::(dds 13 (.d (.v (.bool (a.fKind == 0)))::(dds 137 [])))))),[.box [.srf 1,.srf 2,.srf 3,di g],.row 5 1 (h.map (eI .u8)),.row 5 1 (i.map (eI .u8)),.row 94 2 (j.map Ge),.box [di k,di l,di m,.srf 5],.cu (rowF 57 2 (n.map Gc)) [],.box [.ref 0 0,di o,di p,.d (.v (.int .u32 q))],.box [.ref 4 0,di r,di s,.d (.v (.int .u32 t))],.box [di a.fKind,di a.fN,.d (.sl (a.fWrites.map Gl)),.d (.sl (a.fKept.map eB)),.d (.sl (a.fRaw.map (eI .u8)))]]⟩
def Ym (n:Nat) (v w:Int) (b3:(List Gk)) (b4:Int) (b:Gk) (k:Int) (l m:(List Int)) (o:(List Gi)) (p q r:Int) (s:(List Gd)) (a2 a3 a4 a5 a6 a7:Int):Option ZZ :=
 if b.fKind=0 then
  (Sr n (Gp.mk () a2 a3 a4) (Gg.mk l m o k) b.fWrites).bind fun (e:(Int×Gp×Gg)) =>
  (YI n b.fWrites).bind fun (a8:((List Gd))) =>
  (Sl n (Gt.mk () a5 a6 a7) (Gf.mk p q r s) a8).bind fun (f:(Int×Gt×Gf)) =>
  some (.x0 e.1 f.1 e.2.2.ffuse e.2.2.fsafe e.2.2.fnow e.2.2.fwait f.2.2.fSectors f.2.2.fMark f.2.2.fFuse f.2.2.fAll e.2.1.fat e.2.1.fsize e.2.1.fseq f.2.1.fAt f.2.1.fSize f.2.1.fSeq)
 else
  if b.fKind=1 then
   (Zm n (Gg.mk l m o k) b.fKept).bind fun (a9:(Gg)) =>
   (KG n (Gf.mk p q r s) b.fKept).bind fun (a1:(Gf)) =>
   (Yn n a9 v w).bind fun (b0:(Option Gp)×Int×Gg)=>match b0 with
   | (none,h,a) =>
     (KY n a1 v w).bind fun (b1:(Option Gt)×Int×Gf)=>match b1 with
     | (none,x,c) =>
      some (.x1 h x a.ffuse a.fsafe a.fnow a.fwait c.fSectors c.fMark c.fFuse c.fAll)
     | (some y,x,c) =>
      some (.x2 h x a.ffuse a.fsafe a.fnow a.fwait c.fSectors c.fMark c.fFuse c.fAll y.fAt y.fSize y.fSeq)
   | (some g,h,a) =>
     (KY n a1 v w).bind fun (b2:(Option Gt)×Int×Gf)=>match b2 with
     | (none,z,d) =>
      some (.x3 h z a.ffuse a.fsafe a.fnow a.fwait d.fSectors d.fMark d.fFuse d.fAll g.fat g.fsize g.fseq)
     | (some a0,z,d) =>
      some (.x0 h z a.ffuse a.fsafe a.fnow a.fwait d.fSectors d.fMark d.fFuse d.fAll g.fat g.fsize g.fseq a0.fAt a0.fSize a0.fSeq)
  else
   if b.fKind=2 then
    (ZJ n (Gg.mk l m o k) b.fN).bind fun (t:(Gg)) =>
    (KH n (Gf.mk p q r s) b.fN).bind fun (u:(Gf)) =>
    some (.x4 0 0 t.ffuse t.fsafe t.fnow t.fwait u.fSectors u.fMark u.fFuse u.fAll)
   else
    (Gv n (Gg.mk l m o k) b.fN b.fRaw).bind fun (i:(Int×Gg)) =>
    (Gs n (Gf.mk p q r s) b.fN (b2s b.fRaw)).bind fun (j:(Int×Gf)) =>
    some (.x4 i.1 j.1 i.2.ffuse i.2.fsafe i.2.fnow i.2.fwait j.2.fSectors j.2.fMark j.2.fFuse j.2.fAll)
theorem MD {Fi:Ex→PS→Prop} (hF:KC 246 Fi) (ks:List Fr) (n:Nat) (i j:Int) (c5:(List Gk)) (c6:Int) (a:Gk) (k:Int) (m p:(List Int)) (u:(List Gi)) (w y z:Int) (a0:(List Gd)) (b4 b5 b6 b7 b8 b9:Int)  (o:ZZ) (h:Ym n i j c5 c6 a k m p u w y z a0 b4 b5 b6 b7 b8 b9=some o) (q:RunE Try.prog 246 Fi ks (MA o) (MB i j c5 c6 a k m p u w y z a0 b4 b5 b6 b7 b8 b9 o)):RunE Try.prog 246 Fi (.s (cR (cB (cR (cL (cR (cR (cB (cL (cR (cR (cP (cB (cR (cL (cR (cR (cR (cR (cR (cR (cR (cR (cR (cR (bodyOf Try.f3)))))))))))))))))))))))))::ks) .normal (MC i j c5 c6 a k m p u w y z a0 b4 b5 b6 b7 b8 b9):=by
 unfold Ym at h
 by_cases a1:a.fKind=0
 ·rw [if_pos a1] at h
  obtain ⟨a4,d2,h⟩:=bind_some h
  obtain ⟨d1,d3,h⟩:=bind_some h
  obtain ⟨a5,d4,h⟩:=bind_some h
  cases h
  exact pkk_sound TTok mix hF 2 (hs:=[.t true,.c,.h [6,0,1,2,3] [] [.box [.ref 1 0,di a4.2.1.fat,di a4.2.1.fsize,.d (.v (.int .u32 a4.2.1.fseq))],.box [.srf 5,.srf 6,.srf 7,di a4.2.2.ffuse],.none,.none,.none,.row 5 1 (a4.2.2.fsafe.map (eI .u8)),.row 5 1 (a4.2.2.fnow.map (eI .u8)),.row 94 2 (a4.2.2.fwait.map Ge)] (di a4.1),.c,.r ((eL Gc) d1),.h [7,4,5] [] [.box [.ref 1 0,di a5.2.1.fAt,di a5.2.1.fSize,.d (.v (.int .u32 a5.2.1.fSeq))],.box [di a5.2.2.fSectors,di a5.2.2.fMark,di a5.2.2.fFuse,.srf 3],.none,.cu (rowF 57 2 (a5.2.2.fAll.map Gc)) []] (di a5.1)]) (ts:=[]) (s:=[0,24,25,26,4,49,6,7]) (l:=[1,2,9,11,12,13,21,22,87,88,89]) (by kernel_rfl) (by kernel_rfl) (.cons (bt a1) (.cons (Gab n (Gp.mk () b4 b5 b6) (Gg.mk m p u k) a.fWrites _ d2) (.cons (Sn n a.fWrites _ d3) (.cons (MW n (Gt.mk () b7 b8 b9) (Gf.mk w y z a0) d1 _ d4) .nil)))) q
 ·rw [if_neg a1] at h
  by_cases a6:a.fKind=1
  ·rw [if_pos a6] at h
   obtain ⟨b,c0,h⟩:=bind_some h
   obtain ⟨f,c1,h⟩:=bind_some h
   obtain ⟨d5,a7,h⟩:=bind_some h
   match d5,a7,h with
   | (none,a9,g),a7,h =>
    try dsimp only at h
    obtain ⟨d6,b0,h⟩:=bind_some h
    match d6,b0,h with
    | (none,c7,a2),b0,h =>
     try dsimp only at h
     cases h
     exact pkk_sound TTok mix hF 11 (hs:=[.t false,.t true,.c,.h [0,1,2,3] [] [.box [.srf 4,.srf 5,.srf 6,di b.ffuse],.none,.none,.none,.row 5 1 (b.fsafe.map (eI .u8)),.row 5 1 (b.fnow.map (eI .u8)),.row 94 2 (b.fwait.map Ge)] (.tup []),.c,.h [4,5] [] [.box [di f.fSectors,di f.fMark,di f.fFuse,.srf 2],.none,.cu (rowF 57 2 (f.fAll.map Gc)) []] (.tup []),.h [0,34,35,36] [] [.box [.srf 4,.srf 5,.srf 6,di g.ffuse],.none,.none,.none,.row 5 1 (g.fsafe.map (eI .u8)),.row 5 1 (g.fnow.map (eI .u8)),.row 94 2 (g.fwait.map Ge)] (.tup [.d (.v (.pointer none)),di a9]),.h [4,54] [] [.box [di a2.fSectors,di a2.fMark,di a2.fFuse,.srf 2],.none,.cu (rowF 57 2 (a2.fAll.map Gc)) []] (.tup [.d (.v (.pointer none)),di c7])]) (ts:=[]) (s:=[0,74,75,76,4,119]) (l:=[1,2,9,11,12,13,21,22,87,88,89]) (by kernel_rfl) (by kernel_rfl) (.cons (bf a1) (.cons (bt a6) (.cons (Y6 n (Gg.mk m p u k) a.fKept _ c0) (.cons (Yk n (Gf.mk w y z a0) a.fKept _ c1) (.cons (SK n b i j _ a7) (.cons (St n f i j _ b0) .nil)))))) q
    | (some c8,c7,a2),b0,h =>
     try dsimp only at h
     cases h
     exact pkk_sound TTok mix hF 11 (hs:=[.t false,.t true,.c,.h [0,1,2,3] [] [.box [.srf 4,.srf 5,.srf 6,di b.ffuse],.none,.none,.none,.row 5 1 (b.fsafe.map (eI .u8)),.row 5 1 (b.fnow.map (eI .u8)),.row 94 2 (b.fwait.map Ge)] (.tup []),.c,.h [4,5] [] [.box [di f.fSectors,di f.fMark,di f.fFuse,.srf 2],.none,.cu (rowF 57 2 (f.fAll.map Gc)) []] (.tup []),.h [0,34,35,36] [] [.box [.srf 4,.srf 5,.srf 6,di g.ffuse],.none,.none,.none,.row 5 1 (g.fsafe.map (eI .u8)),.row 5 1 (g.fnow.map (eI .u8)),.row 94 2 (g.fwait.map Ge)] (.tup [.d (.v (.pointer none)),di a9]),.h [4,54] [] [.box [di a2.fSectors,di a2.fMark,di a2.fFuse,.srf 2],.none,.cu (rowF 57 2 (a2.fAll.map Gc)) [],.box [.ref 0 0,di c8.fAt,di c8.fSize,.d (.v (.int .u32 c8.fSeq))]] (.tup [.ref 3 0,di c7])]) (ts:=[]) (s:=[0,74,75,76,4,119,120]) (l:=[1,2,9,11,12,13,21,22,87,88,89]) (by kernel_rfl) (by kernel_rfl) (.cons (bf a1) (.cons (bt a6) (.cons (Y6 n (Gg.mk m p u k) a.fKept _ c0) (.cons (Yk n (Gf.mk w y z a0) a.fKept _ c1) (.cons (SK n b i j _ a7) (.cons (St n f i j _ b0) .nil)))))) q
   | (some a8,a9,g),a7,h =>
    try dsimp only at h
    obtain ⟨d7,b1,h⟩:=bind_some h
    match d7,b1,h with
    | (none,c9,a3),b1,h =>
     try dsimp only at h
     cases h
     exact pkk_sound TTok mix hF 11 (hs:=[.t false,.t true,.c,.h [0,1,2,3] [] [.box [.srf 4,.srf 5,.srf 6,di b.ffuse],.none,.none,.none,.row 5 1 (b.fsafe.map (eI .u8)),.row 5 1 (b.fnow.map (eI .u8)),.row 94 2 (b.fwait.map Ge)] (.tup []),.c,.h [4,5] [] [.box [di f.fSectors,di f.fMark,di f.fFuse,.srf 2],.none,.cu (rowF 57 2 (f.fAll.map Gc)) []] (.tup []),.h [0,34,35,36] [] [.box [.srf 4,.srf 5,.srf 6,di g.ffuse],.none,.none,.none,.row 5 1 (g.fsafe.map (eI .u8)),.row 5 1 (g.fnow.map (eI .u8)),.row 94 2 (g.fwait.map Ge),.box [.ref 0 0,di a8.fat,di a8.fsize,.d (.v (.int .u32 a8.fseq))]] (.tup [.ref 7 0,di a9]),.h [4,54] [] [.box [di a3.fSectors,di a3.fMark,di a3.fFuse,.srf 2],.none,.cu (rowF 57 2 (a3.fAll.map Gc)) []] (.tup [.d (.v (.pointer none)),di c9])]) (ts:=[]) (s:=[0,74,75,76,4,119,77]) (l:=[1,2,9,11,12,13,21,22,87,88,89]) (by kernel_rfl) (by kernel_rfl) (.cons (bf a1) (.cons (bt a6) (.cons (Y6 n (Gg.mk m p u k) a.fKept _ c0) (.cons (Yk n (Gf.mk w y z a0) a.fKept _ c1) (.cons (SK n b i j _ a7) (.cons (St n f i j _ b1) .nil)))))) q
    | (some d0,c9,a3),b1,h =>
     try dsimp only at h
     cases h
     exact pkk_sound TTok mix hF 11 (hs:=[.t false,.t true,.c,.h [0,1,2,3] [] [.box [.srf 4,.srf 5,.srf 6,di b.ffuse],.none,.none,.none,.row 5 1 (b.fsafe.map (eI .u8)),.row 5 1 (b.fnow.map (eI .u8)),.row 94 2 (b.fwait.map Ge)] (.tup []),.c,.h [4,5] [] [.box [di f.fSectors,di f.fMark,di f.fFuse,.srf 2],.none,.cu (rowF 57 2 (f.fAll.map Gc)) []] (.tup []),.h [0,34,35,36] [] [.box [.srf 4,.srf 5,.srf 6,di g.ffuse],.none,.none,.none,.row 5 1 (g.fsafe.map (eI .u8)),.row 5 1 (g.fnow.map (eI .u8)),.row 94 2 (g.fwait.map Ge),.box [.ref 0 0,di a8.fat,di a8.fsize,.d (.v (.int .u32 a8.fseq))]] (.tup [.ref 7 0,di a9]),.h [4,54] [] [.box [di a3.fSectors,di a3.fMark,di a3.fFuse,.srf 2],.none,.cu (rowF 57 2 (a3.fAll.map Gc)) [],.box [.ref 0 0,di d0.fAt,di d0.fSize,.d (.v (.int .u32 d0.fSeq))]] (.tup [.ref 3 0,di c9])]) (ts:=[]) (s:=[0,74,75,76,4,119,77,120]) (l:=[1,2,9,11,12,13,21,22,87,88,89]) (by kernel_rfl) (by kernel_rfl) (.cons (bf a1) (.cons (bt a6) (.cons (Y6 n (Gg.mk m p u k) a.fKept _ c0) (.cons (Yk n (Gf.mk w y z a0) a.fKept _ c1) (.cons (SK n b i j _ a7) (.cons (St n f i j _ b1) .nil)))))) q
  ·rw [if_neg a6] at h
   by_cases c2:a.fKind=2
   ·rw [if_pos c2] at h
    obtain ⟨c3,d8,h⟩:=bind_some h
    obtain ⟨c4,d9,h⟩:=bind_some h
    cases h
    exact pkk_sound TTok mix hF 10 (hs:=[.t false,.t false,.t true,.c,.h [0,1,2,3] [] [.box [.srf 4,.srf 5,.srf 6,di c3.ffuse],.none,.none,.none,.row 5 1 (c3.fsafe.map (eI .u8)),.row 5 1 (c3.fnow.map (eI .u8)),.row 94 2 (c3.fwait.map Ge)] (.tup []),.c,.h [4,5] [] [.box [di c4.fSectors,di c4.fMark,di c4.fFuse,.srf 2],.none,.cu (rowF 57 2 (c4.fAll.map Gc)) []] (.tup [])]) (ts:=[]) (s:=[0,44,45,46,4,64,6,7]) (l:=[1,2,9,11,12,13,21,22,87,88,89]) (by kernel_rfl) (by kernel_rfl) (.cons (bf a1) (.cons (bf a6) (.cons (bt c2) (.cons (Gbj n (Gg.mk m p u k) a.fN _ d8) (.cons (MX n (Gf.mk w y z a0) a.fN _ d9) .nil))))) q
   ·rw [if_neg c2] at h
    obtain ⟨b2,e0,h⟩:=bind_some h
    obtain ⟨b3,e1,h⟩:=bind_some h
    cases h
    exact pkk_sound TTok mix hF 8 (hs:=[.t false,.t false,.t false,.c,.c,.h [0,1,2,3] [] [.box [.srf 4,.srf 5,.srf 6,di b2.2.ffuse],.none,.none,.none,.row 5 1 (b2.2.fsafe.map (eI .u8)),.row 5 1 (b2.2.fnow.map (eI .u8)),.row 94 2 (b2.2.fwait.map Ge)] (di b2.1),.c,.c,.e 84 [] (.d (.v (.string (b2s a.fRaw)))) [],.h [4,5] [] [.box [di b3.2.fSectors,di b3.2.fMark,di b3.2.fFuse,.srf 2],.none,.cu (rowF 57 2 (b3.2.fAll.map Gc)) []] (di b3.1)]) (ts:=[]) (s:=[0,54,55,56,4,89,6,7]) (l:=[1,2,9,11,12,13,21,22,87,88,89]) (by kernel_rfl) (by kernel_rfl) (.cons (bf a1) (.cons (bf a6) (.cons (bf c2) (.cons (SX n (Gg.mk m p u k) a.fN a.fRaw _ e0) (.cons (xb2sD (L:=a.fRaw) (P:=Try.prog) (T:=TT) (src:=42) (dst:=9) (e:=5) (s:=1) (x:=(.tmp 105)) (by kernel_rfl) (by kernel_rfl) (by kernel_rfl)) (.cons (Sy n (Gf.mk w y z a0) a.fN (b2s a.fRaw) _ e1) .nil)))))) q
inductive Zu where
 | x0 (a b c:Int) (d e:(List Int)) (f:(List Gi)) (g h i:Int) (j:(List Gd)) (k l m n o p:Int)
 | x1 (q r s:Int) (t u:(List Int)) (v:(List Gi)) (w x y:Int) (z:(List Gd))
 | x2 (a0 a1 a2:Int) (a3 a4:(List Int)) (a5:(List Gi)) (a6 a7 a8:Int) (a9:(List Gd)) (b0 b1 b2:Int)
 | x3 (b3 b4 b5:Int) (b6 b7:(List Int)) (b8:(List Gi)) (b9 c0 c1:Int) (c2:(List Gd)) (c3 c4 c5:Int)
 | x4 (c6 c7 c8:Int) (c9 d0:(List Int)) (d1:(List Gi)) (d2 d3 d4:Int) (d5:(List Gd))
def Jv:Zu→Ex
 | .x0 _ _ _ _ _ _ _ _ _ _ _ _ _ _ _ _=>.normal
 | .x1 _ _ _ _ _ _ _ _ _ _=>.normal
 | .x2 _ _ _ _ _ _ _ _ _ _ _ _ _=>.normal
 | .x3 _ _ _ _ _ _ _ _ _ _ _ _ _=>.normal
 | .x4 _ _ _ _ _ _ _ _ _ _=>.normal
def Jw (b c:Int) (a:(List Gk)) (e:Int) (e8:Gk) (e9:Int) (f0 f1:(List Int)) (f2:(List Gi)) (f3 f4 f5:Int) (f6:(List Gd)) (f g h i j k:Int):Zu→PS
 | .x0 l m n o p q r s t u w x y z a0 a1=>⟨(dd::di b::di c::dd::dd::dd::dd::dd::dd::.ref 0 0::dd::.ref 4 0::.ref 6 0::.ref 7 0::dd::dd::dd::dd::dd::dd::dd::di l::di m::(dds 64 (.d (.sl (a.map Gn))::di (a.length:Int)::di e::(dds 156 [])))),[.box [.srf 1,.srf 2,.srf 3,di n],.row 5 1 (o.map (eI .u8)),.row 5 1 (p.map (eI .u8)),.row 94 2 (q.map Ge),.box [di r,di s,di t,.srf 5],.cu (rowF 57 2 (u.map Gc)) [],.box [.ref 0 0,di w,di x,.d (.v (.int .u32 y))],.box [.ref 4 0,di z,di a0,.d (.v (.int .u32 a1))]]⟩
 | .x1 a2 a3 a4 a5 a6 a7 a8 a9 b0 b1=>⟨(dd::di b::di c::dd::dd::dd::dd::dd::dd::.ref 0 0::dd::.ref 4 0::.d (.v (.pointer none))::.d (.v (.pointer none))::dd::dd::dd::dd::dd::dd::dd::di a2::di a3::(dds 64 (.d (.sl (a.map Gn))::di (a.length:Int)::di e::(dds 156 [])))),[.box [.srf 1,.srf 2,.srf 3,di a4],.row 5 1 (a5.map (eI .u8)),.row 5 1 (a6.map (eI .u8)),.row 94 2 (a7.map Ge),.box [di a8,di a9,di b0,.srf 5],.cu (rowF 57 2 (b1.map Gc)) []]⟩
 | .x2 b2 b3 b4 b5 b6 b7 b8 b9 c0 c1 c2 c3 c4=>⟨(dd::di b::di c::dd::dd::dd::dd::dd::dd::.ref 0 0::dd::.ref 4 0::.d (.v (.pointer none))::.ref 6 0::dd::dd::dd::dd::dd::dd::dd::di b2::di b3::(dds 64 (.d (.sl (a.map Gn))::di (a.length:Int)::di e::(dds 156 [])))),[.box [.srf 1,.srf 2,.srf 3,di b4],.row 5 1 (b5.map (eI .u8)),.row 5 1 (b6.map (eI .u8)),.row 94 2 (b7.map Ge),.box [di b8,di b9,di c0,.srf 5],.cu (rowF 57 2 (c1.map Gc)) [],.box [.ref 4 0,di c2,di c3,.d (.v (.int .u32 c4))]]⟩
 | .x3 c5 c6 c7 c8 c9 d0 d1 d2 d3 d4 d5 d6 d7=>⟨(dd::di b::di c::dd::dd::dd::dd::dd::dd::.ref 0 0::dd::.ref 4 0::.ref 6 0::.d (.v (.pointer none))::dd::dd::dd::dd::dd::dd::dd::di c5::di c6::(dds 64 (.d (.sl (a.map Gn))::di (a.length:Int)::di e::(dds 156 [])))),[.box [.srf 1,.srf 2,.srf 3,di c7],.row 5 1 (c8.map (eI .u8)),.row 5 1 (c9.map (eI .u8)),.row 94 2 (d0.map Ge),.box [di d1,di d2,di d3,.srf 5],.cu (rowF 57 2 (d4.map Gc)) [],.box [.ref 0 0,di d5,di d6,.d (.v (.int .u32 d7))]]⟩
 | .x4 d8 d9 e0 e1 e2 e3 e4 e5 e6 e7=>⟨(dd::di b::di c::dd::dd::dd::dd::dd::dd::.ref 0 0::dd::.ref 4 0::.ref 6 0::.ref 7 0::dd::dd::dd::dd::dd::dd::dd::di d8::di d9::(dds 64 (.d (.sl (a.map Gn))::di (a.length:Int)::di e::(dds 156 [])))),[.box [.srf 1,.srf 2,.srf 3,di e0],.row 5 1 (e1.map (eI .u8)),.row 5 1 (e2.map (eI .u8)),.row 94 2 (e3.map Ge),.box [di e4,di e5,di e6,.srf 5],.cu (rowF 57 2 (e7.map Gc)) [],.box [.ref 0 0,di f,di g,.d (.v (.int .u32 h))],.box [.ref 4 0,di i,di j,.d (.v (.int .u32 k))]]⟩
def Jx (c e:Int) (b:(List Gk)) (f:Int) (a:Gk) (g:Int) (h i:(List Int)) (j:(List Gi)) (k l m:Int) (n:(List Gd)) (o p q r s t:Int)  : PS:=⟨(dd::di c::di e::dd::dd::dd::dd::dd::dd::.ref 0 0::dd::.ref 4 0::.ref 6 0::.ref 7 0::dd::dd::dd::dd::dd::dd::.ref 8 0::di 0::di 0::(dds 64 (.d (.sl (b.map Gn))::di (b.length:Int)::di f::dd::dd::dd::dd::di a.fKind::(dds 151 [])))),[.box [.srf 1,.srf 2,.srf 3,di g],.row 5 1 (h.map (eI .u8)),.row 5 1 (i.map (eI .u8)),.row 94 2 (j.map Ge),.box [di k,di l,di m,.srf 5],.cu (rowF 57 2 (n.map Gc)) [],.box [.ref 0 0,di o,di p,.d (.v (.int .u32 q))],.box [.ref 4 0,di r,di s,.d (.v (.int .u32 t))],.box [di a.fKind,di a.fN,.d (.sl (a.fWrites.map Gl)),.d (.sl (a.fKept.map eB)),.d (.sl (a.fRaw.map (eI .u8)))]]⟩
def S5 (n:Nat) (a b:Int) (c:(List Gk)) (d:Int) (e:Gk) (f:Int) (g h:(List Int)) (i:(List Gi)) (j k l:Int) (m:(List Gd)) (o p q r s t:Int):Option Zu :=
 (Ym n a b c d e f g h i j k l m o p q r s t).bind fun u=>match u with
 | .x0 v w x y z a0 a1 a2 a3 a4 a5 a6 a7 a8 a9 b0 =>
  some (.x0 v w x y z a0 a1 a2 a3 a4 a5 a6 a7 a8 a9 b0)
 | .x1 b1 b2 b3 b4 b5 b6 b7 b8 b9 c0 =>
  some (.x1 b1 b2 b3 b4 b5 b6 b7 b8 b9 c0)
 | .x2 c1 c2 c3 c4 c5 c6 c7 c8 c9 d0 d1 d2 d3 =>
  some (.x2 c1 c2 c3 c4 c5 c6 c7 c8 c9 d0 d1 d2 d3)
 | .x3 d4 d5 d6 d7 d8 d9 e0 e1 e2 e3 e4 e5 e6 =>
  some (.x3 d4 d5 d6 d7 d8 d9 e0 e1 e2 e3 e4 e5 e6)
 | .x4 e7 e8 e9 f0 f1 f2 f3 f4 f5 f6 =>
  some (.x4 e7 e8 e9 f0 f1 f2 f3 f4 f5 f6)
end Go.Proofs.Ytgdhhaddfllkaaa.pv
