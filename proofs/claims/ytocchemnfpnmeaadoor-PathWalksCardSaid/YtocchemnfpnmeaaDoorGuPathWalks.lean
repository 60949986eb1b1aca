/- What the functions compute (part 2): written by gen.py. -/
import Derived.Test.YtocchemnfpnmeaaDoorGuPathWalksP1
set_option maxRecDepth 100000
set_option linter.all false
namespace Go.Proofs.YtocchemnfpnmeaaDoor.pv
open Go.RowKit
theorem XS {Fi:Ex→PS→Prop} (hF:KC 65 Fi) (ks:List Fr) (n:Nat) (f:Gc)  (o:Kn) (h:Sr n f=some o) (q:RunE Tryd.prog 65 Fi ks (XP o) (XQ f o)):RunE Tryd.prog 65 Fi (.s (cL (cL (cR (cR (cR (cR (cR (bodyOf Tryd.f25))))))))::ks) .normal (XR f):=by
 unfold Sr at h
 by_cases g:(minI (minI f.fCaps f.fLevel) f.fKind)<0
 ·rw [if_pos g] at h
  cases h
  exact pkk_sound TTok mix hF 1 (hs:=[.c,.c,.c,.e 31 [] (di (minI (minI f.fCaps f.fLevel) f.fKind)) [],.t true,.c,.c,.c,.c,.c,.c,.c,.c]) (ts:=[]) (s:=[]) (l:=[64]) (by kernel_rfl) (by kernel_rfl) (.cons (xmin3 (P:=Tryd.prog) (T:=TT) (x:=(.tmp 43)) (y:=(.tmp 45)) (z:=(.tmp 47)) (t1:=3) (t2:=3) (t3:=3) (k:=.i64) (a:=f.fCaps) (b:=f.fLevel) (c:=f.fKind)) (.cons (dt g) .nil)) q
 ·rw [if_neg g] at h
  by_cases i:f.fCaps > 127
  ·rw [if_pos i] at h
   cases h
   exact pkk_sound TTok mix hF 1 (hs:=[.c,.c,.c,.e 31 [] (di (minI (minI f.fCaps f.fLevel) f.fKind)) [],.t false,.c,.c,.c,.t true,.c,.c,.c,.c,.c]) (ts:=[]) (s:=[]) (l:=[64]) (by kernel_rfl) (by kernel_rfl) (.cons (xmin3 (P:=Tryd.prog) (T:=TT) (x:=(.tmp 43)) (y:=(.tmp 45)) (z:=(.tmp 47)) (t1:=3) (t2:=3) (t3:=3) (k:=.i64) (a:=f.fCaps) (b:=f.fLevel) (c:=f.fKind)) (.cons (df g) (.cons (dt i) .nil))) q
  ·rw [if_neg i] at h
   by_cases j:f.fLevel > 7
   ·rw [if_pos j] at h
    cases h
    exact pkk_sound TTok mix hF 1 (hs:=[.c,.c,.c,.e 31 [] (di (minI (minI f.fCaps f.fLevel) f.fKind)) [],.t false,.c,.c,.c,.t false,.c,.c,.c,.t true,.c,.c]) (ts:=[]) (s:=[]) (l:=[64]) (by kernel_rfl) (by kernel_rfl) (.cons (xmin3 (P:=Tryd.prog) (T:=TT) (x:=(.tmp 43)) (y:=(.tmp 45)) (z:=(.tmp 47)) (t1:=3) (t2:=3) (t3:=3) (k:=.i64) (a:=f.fCaps) (b:=f.fLevel) (c:=f.fKind)) (.cons (df g) (.cons (df i) (.cons (dt j) .nil)))) q
   ·rw [if_neg j] at h
    cases h
    exact pkk_sound TTok mix hF 1 (hs:=[.c,.c,.c,.e 31 [] (di (minI (minI f.fCaps f.fLevel) f.fKind)) [],.t false,.c,.c,.c,.t false,.c,.c,.c,.t false,.c,.c,.c]) (ts:=[]) (s:=[]) (l:=[64]) (by kernel_rfl) (by kernel_rfl) (.cons (xmin3 (P:=Tryd.prog) (T:=TT) (x:=(.tmp 43)) (y:=(.tmp 45)) (z:=(.tmp 47)) (t1:=3) (t2:=3) (t3:=3) (k:=.i64) (a:=f.fCaps) (b:=f.fLevel) (c:=f.fKind)) (.cons (df g) (.cons (df i) (.cons (df j) .nil)))) q
/- ringhall/ringref5.CredErr -/
def KH (n:Nat) (a:Gc):Option (Int) :=
 (Sc n a).bind fun b=>match b with
 | .x0 c =>
  if c=true then
   some 1
  else
   if (a.fMore.length:Int) > 4 then
    some 2
   else
    (GG n a n (-1) 0).bind fun d=>match d with
    | .x0 e =>
     some e
    | .x1  =>
     (Sr n a).bind fun f=>match f with
     | .x0 g =>
      if g=true then
       some 1
      else
       some 0
theorem ZD (n:Nat) (a:Gc) (r:Int) (h:KH n a=some r):Ret Tryd.prog 25 [G0 a] ((eI .i64) r):=by
 refine ret_run (n:=65) (fn:=Tryd.f25) (c:=bodyOf Tryd.f25) (by kernel_rfl) (by kernel_rfl) (by kernel_rfl) (by kernel_rfl) ?_
 have hF:KC 65 (FinR Tryd.prog Tryd.f25 ((eI .i64) r)):=FinR.kc' (by kernel_rfl)
 unfold KH at h
 obtain ⟨j,k,h⟩:=bind_some h
 refine pkk_sound TTok mix hF 4 (hs:=[]) (ts:=[]) (s:=[0]) (l:=[1]) (by kernel_rfl) (by kernel_rfl) .nil (XL hF (.s (cR (cL (cR (bodyOf Tryd.f25))))::.s (cR (cR (bodyOf Tryd.f25)))::[]) n a _ k ?_)
 cases j with
 | x0 m =>
  try dsimp only at h
  by_cases e:m=true
  ·rw [if_pos e] at h
   obtain rfl:=Option.some.inj h
   exact pend_sound TTok mix 5 (hs:=[.t true]) (by kernel_rfl) (by kernel_rfl) (by kernel_rfl) (.cons e .nil)
  ·rw [if_neg e] at h
   by_cases g:(a.fMore.length:Int) > 4
   ·rw [if_pos g] at h
    obtain rfl:=Option.some.inj h
    exact pend_sound TTok mix 10 (hs:=[.t false,.c,.u (di (a.fMore.length:Int)),.t true]) (by kernel_rfl) (by kernel_rfl) (by kernel_rfl) (.cons (vf e) (.cons (len_ob (f:=(eI .i64)) (l:=a.fMore)) (.cons (dt g) .nil)))
   ·rw [if_neg g] at h
    obtain ⟨o,p,h⟩:=bind_some h
    refine pkk_sound TTok mix hF 14 (hs:=[.t false,.c,.u (di (a.fMore.length:Int)),.t false,.c,.u (di (a.fMore.length:Int)),.n n]) (ts:=[]) (s:=[0]) (l:=[1,3,25,26,27]) (by kernel_rfl) (by kernel_rfl) (.cons (vf e) (.cons (len_ob (f:=(eI .i64)) (l:=a.fMore)) (.cons (df g) (.cons (len_ob (f:=(eI .i64)) (l:=a.fMore)) .nil)))) (Z2 hF (.b 0::.s (cR (cR (cR (cR (cR (bodyOf Tryd.f25))))))::[]) n a n (-1) 0 _ p ?_)
    cases o with
    | x0 y =>
     try dsimp only at h
     obtain rfl:=Option.some.inj h
     exact pend_sound TTok mix 2 (hs:=[]) (by kernel_rfl) (by kernel_rfl) (by kernel_rfl) .nil
    | x1  =>
     try dsimp only at h
     obtain ⟨q,w,h⟩:=bind_some h
     refine pkk_sound TTok mix hF 3 (hs:=[]) (ts:=[]) (s:=[0]) (l:=[1]) (by kernel_rfl) (by kernel_rfl) .nil (XS hF (.s (cR (cL (cR (cR (cR (cR (cR (bodyOf Tryd.f25))))))))::.s (cR (cR (cR (cR (cR (cR (bodyOf Tryd.f25)))))))::[]) n a _ w ?_)
     cases q with
     | x0 x =>
      try dsimp only at h
      by_cases i:x=true
      ·rw [if_pos i] at h
       obtain rfl:=Option.some.inj h
       exact pend_sound TTok mix 5 (hs:=[.t true]) (by kernel_rfl) (by kernel_rfl) (by kernel_rfl) (.cons i .nil)
      ·rw [if_neg i] at h
       obtain rfl:=Option.some.inj h
       exact pend_sound TTok mix 5 (hs:=[.t false]) (by kernel_rfl) (by kernel_rfl) (by kernel_rfl) (.cons (vf i) .nil)
theorem enters_fn {P:Program} {f:FuncId} {fn:Func} (b:P.funcs[f]?=some fn) (d:(fn.name == "runtime.NumGoroutine")=false) (a:fn.body.isNone=false):∀ args w,(callFunc f args).run P w=.ok (.enter f args) w:=by
 cases hb:fn.body with
 | none=>rw [hb] at a; cases a
 | some c=>exact Go.Proofs.enters_of b d hb
theorem RE_strs (ow:Nat→Bool) (w:World):∀ l:List ByteArray,RE ow w 1 (l.map eS) (l.map Value.string)
 | []=>by simp [RE]
 | s::l=>by
  simp only [List.map_cons,RE]
  exact ⟨.string s,l.map Value.string,rfl,rfl,(fun v hv=>by simp [Value.cells] at hv; subst hv; rfl),(by simp [eS,R,Value.oneCell']),RE_strs ow w l⟩
theorem row_dataS {ow:Nat→Bool} {w w':World} {l:List ByteArray} {ty:Nat} {v:Value} (hfr:∀ b,w.heap.size≤b→ow b=false) (hr:w'.ownsRow w.heap.size ty 1 v l.length (l.map Value.string)):R ow w' (eL eS l) v:=by
 simp only [eL,R]
 obtain ⟨i,a⟩:=hr
 rcases a with ⟨a,c⟩ | ⟨g,cap,cur,a,c,d,e,f,k,h⟩
 ·exact ⟨none,0,by rw [List.length_map,c]; exact a,by rw [List.length_map,c]; exact Nat.le_refl _,by simp [maxLen],.inl (by rw [List.eq_nil_of_length_eq_zero c]; rfl)⟩
 ·refine ⟨_,cap,by rw [List.length_map]; exact a,by rw [List.length_map]; exact e,f,.inr ⟨g,0,1,l.map Value.string,rfl,(Array.getElem?_eq_some_iff.1 d).1,hfr g c,fun j u hj=>?_,RE_strs ow w' l⟩⟩
  rw [← h,List.getElem?_take] at hj
  split at hj
  ·unfold World.cell?
   simp only [d]
   simpa using hj
  ·cases hj
def Kc (n:Nat) (s:ByteArray) (f:Int→Option Bool):Option (List ByteArray):=if s.size≤4294967296 then some (Lib.goFieldsP (fun k=>(f (k:Int)).getD false) s) else none
theorem X3 (n:Nat) (s:ByteArray) (f:Int→Option Bool) (f_g:FuncId) (f_c:List PV) (f_h:(∀ (x0:Int) (r:Bool),f x0=some r→Ret Tryd.prog f_g ([eI .i32 x0]++f_c) (eB r))∧f_c=[]∧∀ x0,(f x0).isSome=true) (r:List ByteArray) (h:Kc n s f=some r):Ret Tryd.prog 26 [eS s,.clo f_g f_c] (eL eS r):=by
 unfold Kc at h
 obtain ⟨fh,rfl,ft⟩:=f_h
 split at h
 ·rename_i q
  obtain rfl:=Option.some.inj h
  obtain ⟨fn0,hf1,hf2,hf3⟩:=(fh 0 _ (Option.some_get (ft 0)).symm).1
  refine ⟨⟨Tryd.f26,by kernel_rfl,by kernel_rfl,by kernel_rfl⟩,fun ow w vs hfr hv=>?_⟩
  simp only [RT,R,eS,RL] at hv
  obtain ⟨_,_,rfl,⟨rfl,_⟩,_,_,rfl,⟨cs,rfl,rfl⟩,rfl⟩:=hv
  refine (Tryd.strings_FieldsFunc_grows f_g #[] (enters_fn hf1 hf2 hf3) (fun k=>(f (k:Int)).getD false) s w q ?_).mono ?_
  ·intro W x hx hb
   obtain ⟨y,hy⟩:=Option.isSome_iff_exists.1 (ft x)
   obtain ⟨_,hc⟩:=fh x y hy
   refine (hc ow W [.int .i32 x] (fun b hb'=>hfr b (Nat.le_trans hb.size hb')) ?_).mono ?_
   ·simp only [List.append_nil,RT,R,eI]; exact ⟨_,_,rfl,⟨rfl,rfl⟩,rfl⟩
   ·rintro e w' ⟨v,rfl,hb',hr⟩
    simp only [R,eB] at hr
    obtain ⟨rfl,_⟩:=hr
    simp only [hy,Option.getD_some]; exact ⟨trivial,hb'⟩
  ·rintro e w' ⟨A,rfl,hA,ho,hb⟩
   exact ⟨_,rfl,hb,row_dataS hfr ho⟩
 ·cases h
/- ringhall/ringref5.SplitOf$1 -/
def Sk (n:Nat) (a:Int):Option (Bool) :=
 some (a == 47)
theorem X4 (n:Nat) (a:Int) (r:Bool) (h:Sk n a=some r):Ret Tryd.prog 27 [(eI .i32) a] (eB r):=by
 refine ret_run (n:=5) (fn:=Tryd.f27) (c:=bodyOf Tryd.f27) (by kernel_rfl) (by kernel_rfl) (by kernel_rfl) (by kernel_rfl) ?_
 have hF:KC 5 (FinR Tryd.prog Tryd.f27 (eB r)):=FinR.kc' (by kernel_rfl)
 unfold Sk at h
 obtain rfl:=Option.some.inj h
 exact pend_sound TTok mix 5 (hs:=[]) (by kernel_rfl) (by kernel_rfl) (by kernel_rfl) .nil
inductive Ko where
 | x0 (a:Bool) (b:Int)
 | x1 
def XT:Ko→Ex
 | .x0 _ _=>.ret
 | .x1  => .exit 0
def XU (a:ByteArray) (b:((List ByteArray))):Ko→PS
 | .x0 c e=>⟨(dd::dd::.d (.v (.bool c))::.d (vnil)::di e::(dds 25 [])),[]⟩
 | .x1  => ⟨(.d (.v (.string a))::dd::dd::dd::dd::.d (.sl (b.map eS))::(dds 24 [])),[]⟩
def XV (b:ByteArray) (a:((List ByteArray))) (c:Int):PS:=⟨(.d (.v (.string b))::dd::dd::dd::dd::.d (.sl (a.map eS))::(dds 10 (.d (.sl (a.map eS))::di (a.length:Int)::di c::(dds 11 [])))),[]⟩
def GR (n:Nat) (c:ByteArray) (a:((List ByteArray))):Nat→Int→Option Ko
 | 0,_=>none
 | k+1,b =>
  if b<(a.length:Int) then
   (getI a b).bind fun (d:ByteArray) =>
   if (d.size:Int) > 14 then
    some (.x0 false 3)
   else
    GR n c a k (wi .i64 (b+1))
  else
   some (.x1 )
theorem Z3 {Fi:Ex→PS→Prop} (hF:KC 30 Fi) (ks:List Fr) (n:Nat) (e:ByteArray) (b:((List ByteArray)))  : ∀ (k:Nat) (a:Int) (o:Ko),GR n e b k a=some o→RunE Tryd.prog 30 Fi ks (XT o) (XU e b o)→RunE Tryd.prog 30 Fi (.l k (cP (cB (cR (cL (cR (cR (cR (cR (bodyOf Tryd.f14)))))))))::ks) .normal (XV e b a)
 | 0,a,o,h,q=>by rw [GR] at h; cases h
 | k+1,a,o,h,q=>by
  rw [GR] at h
  by_cases d:a<(b.length:Int)
  ·rw [if_pos d] at h
   obtain ⟨i,j,h⟩:=bind_some h
   by_cases g:(i.size:Int) > 14
   ·rw [if_pos g] at h
    cases h
    exact pkk_sound TTok mix hF 19 (hs:=[.t true,.y (eS i),.c,.t true]) (ts:=[]) (s:=[]) (l:=[2,3,4]) (by kernel_rfl) (by kernel_rfl) (.cons (dt d) (.cons (getI_ob (f:=eS) j) (.cons (dt g) .nil))) q
   ·rw [if_neg g] at h
    exact pkk_sound TTok mix hF 16 (hs:=[.t true,.y (eS i),.c,.t false]) (ts:=[]) (s:=[]) (l:=[0,5,16,17,18]) (by kernel_rfl) (by kernel_rfl) (.cons (dt d) (.cons (getI_ob (f:=eS) j) (.cons (df g) .nil))) (Z3 hF ks n e b k (wi .i64 (a+1)) _ h q)
  ·rw [if_neg d] at h
   cases h
   exact pkk_sound TTok mix hF 8 (hs:=[.t false]) (ts:=[]) (s:=[]) (l:=[0,5]) (by kernel_rfl) (by kernel_rfl) (.cons (df d) .nil) q
/- ringhall/ringref5.SplitOf -/
def Gv (n:Nat) (a:ByteArray):Option (Bool×(List ByteArray)×Int) :=
 if (a.size:Int) > 64 then
  some (false,([]:(List ByteArray)),2)
 else
  if (a.size:Int)=0 then
   some (false,([]:(List ByteArray)),3)
  else
   (Kc n a (fun (y0:Int)=>Sk n y0)).bind fun (b:((List ByteArray))) =>
   (GR n a b n 0).bind fun c=>match c with
   | .x0 d e =>
    some (d,([]:(List ByteArray)),e)
   | .x1  =>
    (getS a 0).bind fun (f:Int) =>
    some ((f == 47),b,0)
theorem Sd (n:Nat) (a:ByteArray) (r:Bool×(List ByteArray)×Int) (h:Gv n a=some r):Ret Tryd.prog 14 [eS a] (.tup [eB r.1,(eL eS) r.2.1,(eI .i64) r.2.2]):=by
 refine ret_run (n:=30) (fn:=Tryd.f14) (c:=bodyOf Tryd.f14) (by kernel_rfl) (by kernel_rfl) (by kernel_rfl) (by kernel_rfl) ?_
 have hF:KC 30 (FinR Tryd.prog Tryd.f14 (.tup [eB r.1,(eL eS) r.2.1,(eI .i64) r.2.2])):=FinR.kc' (by kernel_rfl)
 unfold Gv at h
 by_cases e:(a.size:Int) > 64
 ·rw [if_pos e] at h
  obtain rfl:=Option.some.inj h
  exact pend_sound TTok mix 10 (hs:=[.t true]) (by kernel_rfl) (by kernel_rfl) (by kernel_rfl) (.cons (dt e) .nil)
 ·rw [if_neg e] at h
  by_cases g:(a.size:Int)=0
  ·rw [if_pos g] at h
   obtain rfl:=Option.some.inj h
   exact pend_sound TTok mix 15 (hs:=[.t false,.t true]) (by kernel_rfl) (by kernel_rfl) (by kernel_rfl) (.cons (df e) (.cons (bt g) .nil))
  ·rw [if_neg g] at h
   obtain ⟨i,j,h⟩:=bind_some h
   obtain ⟨k,m,h⟩:=bind_some h
   refine pkk_sound TTok mix hF 19 (hs:=[.t false,.t false,.r ((eL eS) i),.u (di (i.length:Int)),.n n]) (ts:=[]) (s:=[]) (l:=[0,5,16,17,18]) (by kernel_rfl) (by kernel_rfl) (.cons (df e) (.cons (bf g) (.cons (X3 n a (fun (y0:Int)=>Sk n y0) 27 [] ⟨(fun y0 r h=>X4 n y0 r h),rfl,fun _=>rfl⟩ _ j) (.cons (len_ob (f:=eS) (l:=i)) .nil)))) (Z3 hF (.b 0::.s (cR (cR (cR (cR (cR (bodyOf Tryd.f14))))))::[]) n a i n 0 _ m ?_)
   cases k with
   | x0 q w =>
    try dsimp only at h
    obtain rfl:=Option.some.inj h
    exact pend_sound TTok mix 2 (hs:=[]) (by kernel_rfl) (by kernel_rfl) (by kernel_rfl) .nil
   | x1  =>
    try dsimp only at h
    obtain ⟨o,p,h⟩:=bind_some h
    obtain rfl:=Option.some.inj h
    exact pend_sound TTok mix 4 (hs:=[.l (.d (.v (.int .u8 o)))]) (by kernel_rfl) (by kernel_rfl) (by kernel_rfl) (.cons (getS_ob p) .nil)
/- ringhall/ringref5.WayErr -/
def SD (n:Nat) (c:(List (Fin 2→Int))) (d:Gc) (e:(List Int)) (f:ByteArray):Option (Int) :=
 (Ku n c).bind fun (a:(Int)) =>
 if a=0 then
  (KH n d).bind fun (b:(Int)) =>
  if b=0 then
   if (e.length:Int)=0 then
    some 4
   else
    (Gv n f).bind fun (g:(Bool×(List ByteArray)×Int)) =>
    some g.2.2
  else
   some b
 else
  some a
theorem Kd (n:Nat) (b:(List (Fin 2→Int))) (g:Gc) (a:(List Int)) (p:ByteArray) (r:Int) (h:SD n b g a p=some r):Ret Tryd.prog 13 [(eL (fun x=>PV.agg [.v (.int .i64 (x 0)),.v (.int .i64 (x 1))])) b,G0 g,(eL (eI .i64)) a,eS p] ((eI .i64) r):=by
 refine ret_run (n:=34) (fn:=Tryd.f13) (c:=bodyOf Tryd.f13) (by kernel_rfl) (by kernel_rfl) (by kernel_rfl) (by kernel_rfl) ?_
 have hF:KC 34 (FinR Tryd.prog Tryd.f13 ((eI .i64) r)):=FinR.kc' (by kernel_rfl)
 unfold SD at h
 obtain ⟨i,k,h⟩:=bind_some h
 by_cases e:i=0
 ·rw [if_pos e] at h
  obtain ⟨m,q,h⟩:=bind_some h
  by_cases j:m=0
  ·rw [if_pos j] at h
   by_cases o:(a.length:Int)=0
   ·rw [if_pos o] at h
    obtain rfl:=Option.some.inj h
    exact pend_sound TTok mix 24 (hs:=[.r ((eI .i64) i),.t false,.c,.r ((eI .i64) m),.t false,.u (di (a.length:Int)),.t true]) (by kernel_rfl) (by kernel_rfl) (by kernel_rfl) (.cons (KB n b _ k) (.cons (nf e) (.cons (ZD n g _ q) (.cons (nf j) (.cons (len_ob (f:=(eI .i64)) (l:=a)) (.cons (bt o) .nil))))))
   ·rw [if_neg o] at h
    obtain ⟨s,w,h⟩:=bind_some h
    obtain rfl:=Option.some.inj h
    exact pend_sound TTok mix 26 (hs:=[.r ((eI .i64) i),.t false,.c,.r ((eI .i64) m),.t false,.u (di (a.length:Int)),.t false,.r (.tup [eB s.1,(eL eS) s.2.1,(eI .i64) s.2.2])]) (by kernel_rfl) (by kernel_rfl) (by kernel_rfl) (.cons (KB n b _ k) (.cons (nf e) (.cons (ZD n g _ q) (.cons (nf j) (.cons (len_ob (f:=(eI .i64)) (l:=a)) (.cons (bf o) (.cons (Sd n p _ w) .nil)))))))
  ·rw [if_neg j] at h
   obtain rfl:=Option.some.inj h
   exact pend_sound TTok mix 19 (hs:=[.r ((eI .i64) i),.t false,.c,.r ((eI .i64) m),.t true]) (by kernel_rfl) (by kernel_rfl) (by kernel_rfl) (.cons (KB n b _ k) (.cons (nf e) (.cons (ZD n g _ q) (.cons (nt j) .nil))))
 ·rw [if_neg e] at h
  obtain rfl:=Option.some.inj h
  exact pend_sound TTok mix 12 (hs:=[.r ((eI .i64) i),.t true]) (by kernel_rfl) (by kernel_rfl) (by kernel_rfl) (.cons (KB n b _ k) (.cons (nt e) .nil))
inductive Kq where
 | x0 (a:Bool)
def XW:Kq→Ex
 | .x0 _=>.normal
def XX (b:Gh):Kq→PS
 | .x0 a=>⟨(dds 26 [.d (.v (.bool a))]),[]⟩
def XY (a:Gh)  : PS:=⟨(dd::.ref 0 0::(dds 25 [])),[.box [di a.fKind,di a.fMode,di a.fUser,di a.fGroup,di a.fSize,di a.fLinks]]⟩
def KM (n:Nat) (a:Gh):Option Kq :=
 if a.fMode<0 then
  some (.x0 true)
 else
  if a.fMode > 511 then
   some (.x0 true)
  else
   if (minI a.fUser a.fGroup)<0 then
    some (.x0 true)
   else
    some (.x0 (decide ((maxI a.fUser a.fGroup) > 99)))
theorem XZ {Fi:Ex→PS→Prop} (hF:KC 27 Fi) (ks:List Fr) (n:Nat) (a:Gh)  (o:Kq) (h:KM n a=some o) (q:RunE Tryd.prog 27 Fi ks (XW o) (XX a o)):RunE Tryd.prog 27 Fi (.s (cL (cL (cR (bodyOf Tryd.f34))))::ks) .normal (XY a):=by
 unfold KM at h
 by_cases b:a.fMode<0
 ·rw [if_pos b] at h
  cases h
  exact pkk_sound TTok mix hF 1 (hs:=[.c,.t true,.c,.c,.c,.c,.c,.c,.c,.c,.c,.c,.c,.c,.c,.c]) (ts:=[]) (s:=[]) (l:=[26]) (by kernel_rfl) (by kernel_rfl) (.cons (dt b) .nil) q
 ·rw [if_neg b] at h
  by_cases d:a.fMode > 511
  ·rw [if_pos d] at h
   cases h
   exact pkk_sound TTok mix hF 1 (hs:=[.c,.t false,.c,.c,.c,.t true,.c,.c,.c,.c,.c,.c,.c,.c,.c,.c,.c]) (ts:=[]) (s:=[]) (l:=[26]) (by kernel_rfl) (by kernel_rfl) (.cons (df b) (.cons (dt d) .nil)) q
  ·rw [if_neg d] at h
   by_cases e:(minI a.fUser a.fGroup)<0
   ·rw [if_pos e] at h
    cases h
    exact pkk_sound TTok mix hF 1 (hs:=[.c,.t false,.c,.c,.c,.t false,.c,.c,.c,.c,.c,.c,.c,.t true,.c,.c,.c,.c,.c]) (ts:=[]) (s:=[]) (l:=[26]) (by kernel_rfl) (by kernel_rfl) (.cons (df b) (.cons (df d) (.cons (dt e) .nil))) q
   ·rw [if_neg e] at h
    cases h
    exact pkk_sound TTok mix hF 1 (hs:=[.c,.t false,.c,.c,.c,.t false,.c,.c,.c,.c,.c,.c,.c,.t false,.c,.c,.c,.c,.c,.c,.c]) (ts:=[]) (s:=[]) (l:=[26]) (by kernel_rfl) (by kernel_rfl) (.cons (df b) (.cons (df d) (.cons (df e) .nil))) q
/- ringhall/ringref5.StatErr -/
def SN (n:Nat) (a:Gh):Option (Int) :=
 (KM n a).bind fun b=>match b with
 | .x0 c =>
  if c=true then
   some 1
  else
   some 0
theorem ZE (n:Nat) (b:Gh) (r:Int) (h:SN n b=some r):Ret Tryd.prog 34 [GZ b] ((eI .i64) r):=by
 refine ret_run (n:=27) (fn:=Tryd.f34) (c:=bodyOf Tryd.f34) (by kernel_rfl) (by kernel_rfl) (by kernel_rfl) (by kernel_rfl) ?_
 have hF:KC 27 (FinR Tryd.prog Tryd.f34 ((eI .i64) r)):=FinR.kc' (by kernel_rfl)
 unfold SN at h
 obtain ⟨d,e,h⟩:=bind_some h
 refine pkk_sound TTok mix hF 4 (hs:=[]) (ts:=[]) (s:=[0]) (l:=[1]) (by kernel_rfl) (by kernel_rfl) .nil (XZ hF (.s (cR (cL (cR (bodyOf Tryd.f34))))::.s (cR (cR (bodyOf Tryd.f34)))::[]) n b _ e ?_)
 cases d with
 | x0 f =>
  try dsimp only at h
  by_cases a:f=true
  ·rw [if_pos a] at h
   obtain rfl:=Option.some.inj h
   exact pend_sound TTok mix 5 (hs:=[.t true]) (by kernel_rfl) (by kernel_rfl) (by kernel_rfl) (.cons a .nil)
  ·rw [if_neg a] at h
   obtain rfl:=Option.some.inj h
   exact pend_sound TTok mix 5 (hs:=[.t false]) (by kernel_rfl) (by kernel_rfl) (by kernel_rfl) (.cons (vf a) .nil)
/- ringhall/ringref5.Groups -/
def Zy (n:Nat) (a:Gc):Option ((List Int)) :=
 (app 8 ([a.fGroup]) a.fMore).bind fun (b:(List Int)) =>
 some b
theorem UJ (n:Nat) (a:Gc) (r:(List Int)) (h:Zy n a=some r):Ret Tryd.prog 51 [G0 a] ((eL (eI .i64)) r):=by
 refine ret_run (n:=9) (fn:=Tryd.f51) (c:=bodyOf Tryd.f51) (by kernel_rfl) (by kernel_rfl) (by kernel_rfl) (by kernel_rfl) ?_
 have hF:KC 9 (FinR Tryd.prog Tryd.f51 ((eL (eI .i64)) r)):=FinR.kc' (by kernel_rfl)
 unfold Zy at h
 obtain ⟨d,b,h⟩:=bind_some h
 obtain rfl:=Option.some.inj h
 exact pend_sound TTok mix 5 (hs:=[.c,.w ([a.fGroup].map (eI .i64)),.c,.w (d.map (eI .i64))]) (by kernel_rfl) (by kernel_rfl) (by kernel_rfl) (.cons (Eq.refl ([a.fGroup].map (eI .i64))) (.cons (app_ob (f:=(eI .i64)) (s:=1) b (fun _=>rfl)).1 (.cons (app_ob (f:=(eI .i64)) (s:=1) b (fun _=>rfl)).2.1 (.cons (app_ob (f:=(eI .i64)) (s:=1) b (fun _=>rfl)).2.2.1 (.cons (app_ob (f:=(eI .i64)) (s:=1) b (fun _=>rfl)).2.2.2 .nil)))))
inductive KN where
 | x0 (a:Int)
def Uo:KN→Ex
 | .x0 _=>.normal
def Up (c:Int) (a:Gh) (f:(Bool)) (b:Gc):KN→PS
 | .x0 e=>⟨(dd::dd::di c::.ref 0 0::.ref 1 0::dd::dd::di e::(dds 68 [])),[.box [di a.fKind,di a.fMode,di a.fUser,di a.fGroup,di a.fSize,di a.fLinks],.box [di b.fUser,di b.fGroup,.d (.sl (b.fMore.map (eI .i64))),di b.fCaps,di b.fLevel,di b.fKind]]⟩
def Uq (c:Int) (a:Gh) (e:(Bool)) (b:Gc)  : PS:=⟨(dd::dd::di c::.ref 0 0::.ref 1 0::dd::dd::di (remI a.fMode 8)::dd::dd::dd::dd::dd::dd::dd::.d (.v (.bool e))::(dds 60 [])),[.box [di a.fKind,di a.fMode,di a.fUser,di a.fGroup,di a.fSize,di a.fLinks],.box [di b.fUser,di b.fGroup,.d (.sl (b.fMore.map (eI .i64))),di b.fCaps,di b.fLevel,di b.fKind]]⟩
def Kv (n:Nat) (c:Int) (a:Gh) (b:(Bool)) (d:Gc):Option KN :=
 if b=true then
  some (.x0 (remI (quoI .i64 a.fMode 8) 8))
 else
  some (.x0 (remI a.fMode 8))
theorem Ur {Fi:Ex→PS→Prop} (hF:KC 76 Fi) (ks:List Fr) (n:Nat) (d:Int) (e:Gh) (a:(Bool)) (f:Gc)  (o:KN) (h:Kv n d e a f=some o) (q:RunE Tryd.prog 76 Fi ks (Uo o) (Up d e a f o)):RunE Tryd.prog 76 Fi (.s (cR (cL (cR (cR (bodyOf Tryd.f35)))))::ks) .normal (Uq d e a f):=by
 unfold Kv at h
 by_cases b:a=true
 ·rw [if_pos b] at h
  cases h
  exact pkk_sound TTok mix hF 2 (hs:=[.t true,.c]) (ts:=[]) (s:=[0,1]) (l:=[2,3,4,7]) (by kernel_rfl) (by kernel_rfl) (.cons b (.cons (show (8:Int)≠0 by decide) (.cons (show (8:Int)≠0 by decide) .nil))) q
 ·rw [if_neg b] at h
  cases h
  exact pkk_sound TTok mix hF 2 (hs:=[.t false]) (ts:=[]) (s:=[0,1]) (l:=[2,3,4,7]) (by kernel_rfl) (by kernel_rfl) (.cons (vf b) .nil) q
inductive KO where
 | x0 (a:Int)
def Us:KO→Ex
 | .x0 _=>.normal
def Ut (c f:Int) (a:Gc) (b:Gh):KO→PS
 | .x0 e=>⟨(dd::dd::di c::.ref 0 0::.ref 1 0::dd::dd::di e::(dds 68 [])),[.box [di b.fKind,di b.fMode,di b.fUser,di b.fGroup,di b.fSize,di b.fLinks],.box [di a.fUser,di a.fGroup,.d (.sl (a.fMore.map (eI .i64))),di a.fCaps,di a.fLevel,di a.fKind]]⟩
def Uu (c e:Int) (a:Gc) (b:Gh)  : PS:=⟨(dd::dd::di c::.ref 0 0::.ref 1 0::dd::dd::di e::(dds 16 (.d (.v (.bool (a.fUser == b.fUser)))::(dds 51 [])))),[.box [di b.fKind,di b.fMode,di b.fUser,di b.fGroup,di b.fSize,di b.fLinks],.box [di a.fUser,di a.fGroup,.d (.sl (a.fMore.map (eI .i64))),di a.fCaps,di a.fLevel,di a.fKind]]⟩
def Kw (n:Nat) (d b:Int) (c:Gc) (a:Gh):Option KO :=
 if c.fUser=a.fUser then
  some (.x0 (quoI .i64 a.fMode 64))
 else
  some (.x0 b)
theorem Uv {Fi:Ex→PS→Prop} (hF:KC 76 Fi) (ks:List Fr) (n:Nat) (e f:Int) (a:Gc) (b:Gh)  (o:KO) (h:Kw n e f a b=some o) (q:RunE Tryd.prog 76 Fi ks (Us o) (Ut e f a b o)):RunE Tryd.prog 76 Fi (.s (cR (cL (cR (cR (cR (bodyOf Tryd.f35))))))::ks) .normal (Uu e f a b):=by
 unfold Kw at h
 by_cases d:a.fUser=b.fUser
 ·rw [if_pos d] at h
  cases h
  exact pkk_sound TTok mix hF 2 (hs:=[.t true,.c]) (ts:=[]) (s:=[0,1]) (l:=[2,3,4,7]) (by kernel_rfl) (by kernel_rfl) (.cons (bt d) (.cons (show (64:Int)≠0 by decide) .nil)) q
 ·rw [if_neg d] at h
  cases h
  exact pkk_sound TTok mix hF 2 (hs:=[.t false]) (ts:=[]) (s:=[0,1]) (l:=[2,3,4,7]) (by kernel_rfl) (by kernel_rfl) (.cons (bf d) .nil) q
inductive KP where
 | x0 (a:Bool)
def Uw:KP→Ex
 | .x0 _=>.normal
def Ux (c e:Int) (a:Gh) (b:Gc):KP→PS
 | .x0 f=>⟨(dd::dd::di c::.ref 0 0::.ref 1 0::dd::dd::di e::(dds 32 (.d (.v (.bool f))::(dds 35 [])))),[.box [di a.fKind,di a.fMode,di a.fUser,di a.fGroup,di a.fSize,di a.fLinks],.box [di b.fUser,di b.fGroup,.d (.sl (b.fMore.map (eI .i64))),di b.fCaps,di b.fLevel,di b.fKind]]⟩
def Uy (c e:Int) (a:Gh) (b:Gc)  : PS:=⟨(dd::dd::di c::.ref 0 0::.ref 1 0::dd::dd::di e::(dds 68 [])),[.box [di a.fKind,di a.fMode,di a.fUser,di a.fGroup,di a.fSize,di a.fLinks],.box [di b.fUser,di b.fGroup,.d (.sl (b.fMore.map (eI .i64))),di b.fCaps,di b.fLevel,di b.fKind]]⟩
def Zc (n:Nat) (a b:Int) (d:Gh) (c:Gc):Option KP :=
 if (remI a 2)=1 then
  if b<4 then
   some (.x0 ((remI c.fCaps 2) == 0))
  else
   some (.x0 false)
 else
  some (.x0 false)
theorem Uz {Fi:Ex→PS→Prop} (hF:KC 76 Fi) (ks:List Fr) (n:Nat) (b d:Int) (f:Gh) (g:Gc)  (o:KP) (h:Zc n b d f g=some o) (q:RunE Tryd.prog 76 Fi ks (Uw o) (Ux b d f g o)):RunE Tryd.prog 76 Fi (.s (cL (cL (cR (cR (cR (cR (bodyOf Tryd.f35)))))))::ks) .normal (Uy b d f g):=by
 unfold Zc at h
 by_cases a:(remI b 2)=1
 ·rw [if_pos a] at h
  by_cases e:d<4
  ·rw [if_pos e] at h
   cases h
   exact pkk_sound TTok mix hF 1 (hs:=[.t true,.c,.t true,.c,.c,.c,.c]) (ts:=[]) (s:=[0,1]) (l:=[2,3,4,7,40]) (by kernel_rfl) (by kernel_rfl) (.cons (show (2:Int)≠0 by decide) (.cons (bt a) (.cons (dt e) (.cons (show (2:Int)≠0 by decide) .nil)))) q
  ·rw [if_neg e] at h
   cases h
   exact pkk_sound TTok mix hF 1 (hs:=[.t true,.c,.t false,.c,.c,.c]) (ts:=[]) (s:=[0,1]) (l:=[2,3,4,7,40]) (by kernel_rfl) (by kernel_rfl) (.cons (show (2:Int)≠0 by decide) (.cons (bt a) (.cons (df e) .nil))) q
 ·rw [if_neg a] at h
  cases h
  exact pkk_sound TTok mix hF 1 (hs:=[.t false,.c,.c,.c,.c,.c]) (ts:=[]) (s:=[0,1]) (l:=[2,3,4,7,40]) (by kernel_rfl) (by kernel_rfl) (.cons (show (2:Int)≠0 by decide) (.cons (bf a) .nil)) q
inductive KQ where
 | x0 (a:Bool)
def UA:KQ→Ex
 | .x0 _=>.normal
def UB (c e:Int) (a:Gh) (b:Gc):KQ→PS
 | .x0 f=>⟨(dd::dd::di c::.ref 0 0::.ref 1 0::dd::dd::di e::(dds 49 (.d (.v (.bool f))::(dds 18 [])))),[.box [di a.fKind,di a.fMode,di a.fUser,di a.fGroup,di a.fSize,di a.fLinks],.box [di b.fUser,di b.fGroup,.d (.sl (b.fMore.map (eI .i64))),di b.fCaps,di b.fLevel,di b.fKind]]⟩
def UC (c e:Int) (a:Gh) (b:Gc)  : PS:=⟨(dd::dd::di c::.ref 0 0::.ref 1 0::dd::dd::di e::(dds 68 [])),[.box [di a.fKind,di a.fMode,di a.fUser,di a.fGroup,di a.fSize,di a.fLinks],.box [di b.fUser,di b.fGroup,.d (.sl (b.fMore.map (eI .i64))),di b.fCaps,di b.fLevel,di b.fKind]]⟩
def Zd (n:Nat) (a b:Int) (d:Gh) (c:Gc):Option KQ :=
 if (remI (quoI .i64 a 2) 2)=1 then
  if (remI (quoI .i64 b 2) 2)=0 then
   some (.x0 ((remI (quoI .i64 c.fCaps 2) 2) == 0))
  else
   some (.x0 false)
 else
  some (.x0 false)
theorem UD {Fi:Ex→PS→Prop} (hF:KC 76 Fi) (ks:List Fr) (n:Nat) (b d:Int) (f:Gh) (g:Gc)  (o:KQ) (h:Zd n b d f g=some o) (q:RunE Tryd.prog 76 Fi ks (UA o) (UB b d f g o)):RunE Tryd.prog 76 Fi (.s (cL (cL (cR (cR (cR (cR (cR (bodyOf Tryd.f35))))))))::ks) .normal (UC b d f g):=by
 unfold Zd at h
 by_cases a:(remI (quoI .i64 b 2) 2)=1
 ·rw [if_pos a] at h
  by_cases e:(remI (quoI .i64 d 2) 2)=0
  ·rw [if_pos e] at h
   cases h
   exact pkk_sound TTok mix hF 1 (hs:=[.t true,.c,.c,.c,.t true,.c,.c,.c,.c,.c]) (ts:=[]) (s:=[0,1]) (l:=[2,3,4,7,57]) (by kernel_rfl) (by kernel_rfl) (.cons (show (2:Int)≠0 by decide) (.cons (show (2:Int)≠0 by decide) (.cons (bt a) (.cons (show (2:Int)≠0 by decide) (.cons (show (2:Int)≠0 by decide) (.cons (bt e) (.cons (show (2:Int)≠0 by decide) (.cons (show (2:Int)≠0 by decide) .nil)))))))) q
  ·rw [if_neg e] at h
   cases h
   exact pkk_sound TTok mix hF 1 (hs:=[.t true,.c,.c,.c,.t false,.c,.c,.c,.c]) (ts:=[]) (s:=[0,1]) (l:=[2,3,4,7,57]) (by kernel_rfl) (by kernel_rfl) (.cons (show (2:Int)≠0 by decide) (.cons (show (2:Int)≠0 by decide) (.cons (bt a) (.cons (show (2:Int)≠0 by decide) (.cons (show (2:Int)≠0 by decide) (.cons (bf e) .nil)))))) q
 ·rw [if_neg a] at h
  cases h
  exact pkk_sound TTok mix hF 1 (hs:=[.t false,.c,.c,.c,.c,.c,.c,.c,.c]) (ts:=[]) (s:=[0,1]) (l:=[2,3,4,7,57]) (by kernel_rfl) (by kernel_rfl) (.cons (show (2:Int)≠0 by decide) (.cons (show (2:Int)≠0 by decide) (.cons (bf a) .nil))) q
inductive KR where
 | x0 (a:Bool)
def UE:KR→Ex
 | .x0 _=>.normal
def UF (b c:Int) (e:Gh) (f:Gc):KR→PS
 | .x0 a=>⟨(dd::dd::dd::dd::dd::dd::.d (.v (.bool a))::(dds 69 [])),[]⟩
def UG (c e:Int) (a:Gh) (b:Gc)  : PS:=⟨(dd::dd::di c::.ref 0 0::.ref 1 0::dd::dd::di e::(dds 68 [])),[.box [di a.fKind,di a.fMode,di a.fUser,di a.fGroup,di a.fSize,di a.fLinks],.box [di b.fUser,di b.fGroup,.d (.sl (b.fMore.map (eI .i64))),di b.fCaps,di b.fLevel,di b.fKind]]⟩
def Ze (n:Nat) (a b:Int) (c:Gh) (d:Gc):Option KR :=
 if a<4 then
  some (.x0 true)
 else
  if (remI b 2)=1 then
   some (.x0 true)
  else
   if c.fKind=2 then
    some (.x0 ((remI d.fCaps 2) == 1))
   else
    some (.x0 false)
theorem UH {Fi:Ex→PS→Prop} (hF:KC 76 Fi) (ks:List Fr) (n:Nat) (d e:Int) (f:Gh) (i:Gc)  (o:KR) (h:Ze n d e f i=some o) (q:RunE Tryd.prog 76 Fi ks (UE o) (UF d e f i o)):RunE Tryd.prog 76 Fi (.s (cL (cR (cR (cR (cR (cR (cR (bodyOf Tryd.f35))))))))::ks) .normal (UG d e f i):=by
 unfold Ze at h
 by_cases a:d<4
 ·rw [if_pos a] at h
  cases h
  exact pkk_sound TTok mix hF 1 (hs:=[.t true,.c,.c,.c,.c,.c,.c,.c]) (ts:=[]) (s:=[]) (l:=[6]) (by kernel_rfl) (by kernel_rfl) (.cons (dt a) .nil) q
 ·rw [if_neg a] at h
  by_cases b:(remI e 2)=1
  ·rw [if_pos b] at h
   cases h
   exact pkk_sound TTok mix hF 1 (hs:=[.t false,.c,.c,.t true,.c,.c,.c,.c]) (ts:=[]) (s:=[]) (l:=[6]) (by kernel_rfl) (by kernel_rfl) (.cons (df a) (.cons (show (2:Int)≠0 by decide) (.cons (bt b) .nil))) q
  ·rw [if_neg b] at h
   by_cases g:f.fKind=2
   ·rw [if_pos g] at h
    cases h
    exact pkk_sound TTok mix hF 1 (hs:=[.t false,.c,.c,.t false,.c,.c,.c,.c,.t true,.c,.c,.c,.c,.c]) (ts:=[]) (s:=[]) (l:=[6]) (by kernel_rfl) (by kernel_rfl) (.cons (df a) (.cons (show (2:Int)≠0 by decide) (.cons (bf b) (.cons (bt g) (.cons (show (2:Int)≠0 by decide) .nil))))) q
   ·rw [if_neg g] at h
    cases h
    exact pkk_sound TTok mix hF 1 (hs:=[.t false,.c,.c,.t false,.c,.c,.c,.c,.t false,.c,.c,.c,.c]) (ts:=[]) (s:=[]) (l:=[6]) (by kernel_rfl) (by kernel_rfl) (.cons (df a) (.cons (show (2:Int)≠0 by decide) (.cons (bf b) (.cons (bf g) .nil)))) q
/- ringhall/ringref5.MayOf -/
def K8 (n:Nat) (a:Gh) (b:Gc) (c:Int):Option (Bool) :=
 (Zy n b).bind fun (e:((List Int))) =>
 (GA n e a.fGroup).bind fun (f:(Bool)) =>
 (Kv n c a f b).bind fun g=>match g with
 | .x0 h =>
  (Kw n c h b a).bind fun i=>match i with
  | .x0 d =>
   (Zc n c d a b).bind fun j=>match j with
   | .x0 k =>
    if k=true then
     some false
    else
     (Zd n c d a b).bind fun l=>match l with
     | .x0 m =>
      if m=true then
       some false
      else
       (Ze n c d a b).bind fun o=>match o with
       | .x0 p =>
        some p
theorem YD (n:Nat) (a:Gh) (b:Gc) (d:Int) (r:Bool) (h:K8 n a b d=some r):Ret Tryd.prog 35 [GZ a,G0 b,(eI .i64) d] (eB r):=by
 refine ret_run (n:=76) (fn:=Tryd.f35) (c:=bodyOf Tryd.f35) (by kernel_rfl) (by kernel_rfl) (by kernel_rfl) (by kernel_rfl) ?_
 have hF:KC 76 (FinR Tryd.prog Tryd.f35 (eB r)):=FinR.kc' (by kernel_rfl)
 unfold K8 at h
 obtain ⟨i,k,h⟩:=bind_some h
 obtain ⟨j,m,h⟩:=bind_some h
 obtain ⟨o,p,h⟩:=bind_some h
 refine pkk_sound TTok mix hF 7 (hs:=[.c,.c,.r ((eL (eI .i64)) i),.c,.r (eB j)]) (ts:=[]) (s:=[0,5]) (l:=[2,3,4,7,15]) (by kernel_rfl) (by kernel_rfl) (.cons (show (8:Int)≠0 by decide) (.cons (UJ n b _ k) (.cons (Sb n i a.fGroup _ m) .nil))) (Ur hF (.s (cR (cR (cR (bodyOf Tryd.f35))))::[]) n d a j b _ p ?_)
 cases o with
 | x0 q =>
  try dsimp only at h
  obtain ⟨u,v,h⟩:=bind_some h
  refine pkk_sound TTok mix hF 3 (hs:=[.c,.c]) (ts:=[]) (s:=[0,1]) (l:=[2,3,4,7,24]) (by kernel_rfl) (by kernel_rfl) .nil (Uv hF (.s (cR (cR (cR (cR (bodyOf Tryd.f35)))))::[]) n d q b a _ v ?_)
  cases u with
  | x0 g =>
   try dsimp only at h
   obtain ⟨w,x,h⟩:=bind_some h
   refine pkk_sound TTok mix hF 2 (hs:=[]) (ts:=[]) (s:=[0,1]) (l:=[2,3,4,7]) (by kernel_rfl) (by kernel_rfl) .nil (Uz hF (.s (cR (cL (cR (cR (cR (cR (bodyOf Tryd.f35)))))))::.s (cR (cR (cR (cR (cR (bodyOf Tryd.f35))))))::[]) n d g a b _ x ?_)
   cases w with
   | x0 y =>
    try dsimp only at h
    by_cases e:y=true
    ·rw [if_pos e] at h
     obtain rfl:=Option.some.inj h
     exact pend_sound TTok mix 5 (hs:=[.t true]) (by kernel_rfl) (by kernel_rfl) (by kernel_rfl) (.cons e .nil)
    ·rw [if_neg e] at h
     obtain ⟨z,a0,h⟩:=bind_some h
     refine pkk_sound TTok mix hF 4 (hs:=[.t false]) (ts:=[]) (s:=[0,1]) (l:=[2,3,4,7]) (by kernel_rfl) (by kernel_rfl) (.cons (vf e) .nil) (UD hF (.s (cR (cL (cR (cR (cR (cR (cR (bodyOf Tryd.f35))))))))::.s (cR (cR (cR (cR (cR (cR (bodyOf Tryd.f35)))))))::[]) n d g a b _ a0 ?_)
     cases z with
     | x0 a1 =>
      try dsimp only at h
      by_cases f:a1=true
      ·rw [if_pos f] at h
       obtain rfl:=Option.some.inj h
       exact pend_sound TTok mix 5 (hs:=[.t true]) (by kernel_rfl) (by kernel_rfl) (by kernel_rfl) (.cons f .nil)
      ·rw [if_neg f] at h
       obtain ⟨a2,a3,h⟩:=bind_some h
       refine pkk_sound TTok mix hF 3 (hs:=[.t false]) (ts:=[]) (s:=[0,1]) (l:=[2,3,4,7]) (by kernel_rfl) (by kernel_rfl) (.cons (vf f) .nil) (UH hF (.s (cR (cR (cR (cR (cR (cR (cR (bodyOf Tryd.f35))))))))::[]) n d g a b _ a3 ?_)
       cases a2 with
       | x0 a4 =>
        try dsimp only at h
        obtain rfl:=Option.some.inj h
        exact pend_sound TTok mix 1 (hs:=[]) (by kernel_rfl) (by kernel_rfl) (by kernel_rfl) .nil
/- (ringhall/ringref5.way).through -/
def So (n:Nat) (b:Gn) (c:Int):Option (Int) :=
 (GX n b.ft c).bind fun (a:(Gh×Int)) =>
 if a.2=0 then
  if a.1.fKind=2 then
   (SN n a.1).bind fun (d:(Int)) =>
   if d=0 then
    (K8 n a.1 b.fc 4).bind fun (e:(Bool)) =>
    if e=true then
     some 0
    else
     some 7
   else
    some 7
  else
   some 12
 else
  some a.2
theorem GH (n:Nat) (b:Gn) (d r:Int) (h:So n b d=some r):Ret Tryd.prog 16 [Ui b,(eI .i64) d] ((eI .i64) r):=by
 refine ret_run (n:=33) (fn:=Tryd.f16) (c:=bodyOf Tryd.f16) (by kernel_rfl) (by kernel_rfl) (by kernel_rfl) (by kernel_rfl) ?_
 have hF:KC 33 (FinR Tryd.prog Tryd.f16 ((eI .i64) r)):=FinR.kc' (by kernel_rfl)
 unfold So at h
 obtain ⟨a,g,h⟩:=bind_some h
 by_cases e:a.2=0
 ·rw [if_pos e] at h
  by_cases f:a.1.fKind=2
  ·rw [if_pos f] at h
   obtain ⟨j,l,h⟩:=bind_some h
   by_cases i:j=0
   ·rw [if_pos i] at h
    obtain ⟨m,o,h⟩:=bind_some h
    by_cases k:m=true
    ·rw [if_pos k] at h
     obtain rfl:=Option.some.inj h
     exact pend_sound TTok mix 20 (hs:=[.c,.r (.tup [GZ a.1,(eI .i64) a.2]),.c,.t false,.c,.t false,.c,.r ((eI .i64) j),.t false,.c,.c,.c,.c,.c,.r (eB m),.c,.t false]) (by kernel_rfl) (by kernel_rfl) (by kernel_rfl) (.cons (Gm n b.ft d _ g) (.cons (show 0+6≤6 by decide) (.cons (nf e) (.cons (nf f) (.cons (ZE n a.1 _ l) (.cons (nf i) (.cons (YD n a.1 b.fc 4 _ o) (.cons (bnf k) .nil))))))))
    ·rw [if_neg k] at h
     obtain rfl:=Option.some.inj h
     exact pend_sound TTok mix 20 (hs:=[.c,.r (.tup [GZ a.1,(eI .i64) a.2]),.c,.t false,.c,.t false,.c,.r ((eI .i64) j),.t false,.c,.c,.c,.c,.c,.r (eB m),.c,.t true]) (by kernel_rfl) (by kernel_rfl) (by kernel_rfl) (.cons (Gm n b.ft d _ g) (.cons (show 0+6≤6 by decide) (.cons (nf e) (.cons (nf f) (.cons (ZE n a.1 _ l) (.cons (nf i) (.cons (YD n a.1 b.fc 4 _ o) (.cons (bnt (vf k)) .nil))))))))
   ·rw [if_neg i] at h
    obtain rfl:=Option.some.inj h
    exact pend_sound TTok mix 20 (hs:=[.c,.r (.tup [GZ a.1,(eI .i64) a.2]),.c,.t false,.c,.t false,.c,.r ((eI .i64) j),.t true,.c,.c,.c,.c,.c]) (by kernel_rfl) (by kernel_rfl) (by kernel_rfl) (.cons (Gm n b.ft d _ g) (.cons (show 0+6≤6 by decide) (.cons (nf e) (.cons (nf f) (.cons (ZE n a.1 _ l) (.cons (nt i) .nil))))))
  ·rw [if_neg f] at h
   obtain rfl:=Option.some.inj h
   exact pend_sound TTok mix 17 (hs:=[.c,.r (.tup [GZ a.1,(eI .i64) a.2]),.c,.t false,.c,.t true]) (by kernel_rfl) (by kernel_rfl) (by kernel_rfl) (.cons (Gm n b.ft d _ g) (.cons (show 0+6≤6 by decide) (.cons (nf e) (.cons (nt f) .nil))))
 ·rw [if_neg e] at h
  obtain rfl:=Option.some.inj h
  exact pend_sound TTok mix 14 (hs:=[.c,.r (.tup [GZ a.1,(eI .i64) a.2]),.c,.t true]) (by kernel_rfl) (by kernel_rfl) (by kernel_rfl) (.cons (Gm n b.ft d _ g) (.cons (show 0+6≤6 by decide) (.cons (nt e) .nil)))
/- slices.Grow[[]int,int] -/
def SB (n:Nat) (a:Int):Option ((List Int)) :=
 if a<0 then
  none
 else
  if (wi .i64 (a-(wi .i64 (0-0)))) > 0 then
   (appZ 8 0 (wi .i64 (a-(wi .i64 (0-0))))).bind fun (b:(List Int)) =>
   (sub b 0 0).bind fun (c:(List Int)) =>
   some c
  else
   some ([]:List Int)
theorem Xc (n:Nat) (a:Int) (r:(List Int)) (h:SB n a=some r):RetH Tryd.prog 46 [.d vnil,.d ((eI .i64) a)] [] (.srf 0) [.row 3 1 (r.map (eI .i64))]:=by
 refine retH_run (n:=27) (fn:=Tryd.f46) (c:=bodyOf Tryd.f46) (by kernel_rfl) (by kernel_rfl) (by kernel_rfl) (by kernel_rfl) ?_
 have hF:KC 27 (FinH Tryd.prog Tryd.f46 [] (.srf 0) [.row 3 1 (r.map (eI .i64))]):=FinH.kc' (by kernel_rfl)
 unfold SB at h
 by_cases b:a<0
 ·rw [if_pos b] at h
  cases h
 ·rw [if_neg b] at h
  by_cases e:(wi .i64 (a-(wi .i64 (0-0)))) > 0
  ·rw [if_pos e] at h
   obtain ⟨j,g,h⟩:=bind_some h
   obtain ⟨k,i,h⟩:=bind_some h
   obtain rfl:=Option.some.inj h
   exact pendH_sound TTok mix 17 (hs:=[.t false,.u (di 0),.t true,.c,.w (j.map (eI .i64)),.u (di 0),.w (k.map (eI .i64))]) [105] (by kernel_rfl) (by kernel_rfl) (by kernel_rfl) (.cons (df b) (.cons (Eq.refl (di 0)) (.cons (dt e) (.cons (Eq.refl (0:Int)) (.cons (Eq.refl (0:Int)) (.cons (appZ_ob (f:=(eI .i64)) (p:=.v (.int .i64 0)) g rfl).1 (.cons (appZ_ob (f:=(eI .i64)) (p:=.v (.int .i64 0)) g rfl).2.1 (.cons (appZ_ob (f:=(eI .i64)) (p:=.v (.int .i64 0)) g rfl).2.2.1 (.cons (appZ_ob (f:=(eI .i64)) (p:=.v (.int .i64 0)) g rfl).2.2.2 (.cons (Eq.refl (di 0)) (.cons (Eq.refl (0:Int)) (.cons (subR_ob (f:=(eI .i64)) i).1 (.cons (subR_ob (f:=(eI .i64)) i).2.1 (.cons (subR_ob (f:=(eI .i64)) i).2.2 .nil))))))))))))))
  ·rw [if_neg e] at h
   obtain rfl:=Option.some.inj h
   exact pendH_sound TTok mix 18 (hs:=[.t false,.u (di 0),.t false,.dl 4,.th 4 3 1]) [75] (by kernel_rfl) (by kernel_rfl) (by kernel_rfl) (.cons (df b) (.cons (Eq.refl (di 0)) (.cons (df e) .nil)))
inductive Sw where
 | x0 (a:Int)
def Yv:Sw→Ex
 | .x0 _=>.exit 0
def Yw (a:(List (List Int))):Sw→PS
 | .x0 b=>⟨(.d (.sl (a.map (eL (eI .i64))))::dd::dd::di b::(dds 32 [])),[]⟩
def Yx (a:(List (List Int))) (b c:Int):PS:=⟨(.d (.sl (a.map (eL (eI .i64))))::dd::dd::di b::dd::dd::dd::dd::dd::.d (.sl (a.map (eL (eI .i64))))::di (a.length:Int)::di c::(dds 24 [])),[]⟩
def Gx (n:Nat) (a:(List (List Int))):Nat→Int→Int→Option Sw
 | 0,_,_=>none
 | k+1,b,c =>
  if c<(a.length:Int) then
   (getI a c).bind fun (d:(List Int)) =>
   if (wi .i64 (b+(d.length:Int)))<0 then
    none
   else
    Gx n a k (wi .i64 (b+(d.length:Int))) (wi .i64 (c+1))
  else
   some (.x0 b)
theorem Zq {Fi:Ex→PS→Prop} (hF:KC 36 Fi) (ks:List Fr) (n:Nat) (e:(List (List Int)))  : ∀ (k:Nat) (a b:Int) (o:Sw),Gx n e k a b=some o→RunE Tryd.prog 36 Fi ks (Yv o) (Yw e o)→RunE Tryd.prog 36 Fi (.l k (cP (cB (cR (cL (cR (cR (bodyOf Tryd.f30)))))))::ks) .normal (Yx e a b)
 | 0,a,b,o,h,q=>by rw [Gx] at h; cases h
 | k+1,a,b,o,h,q=>by
  rw [Gx] at h
  by_cases i:b<(e.length:Int)
  ·rw [if_pos i] at h
   obtain ⟨g,m,h⟩:=bind_some h
   by_cases j:(wi .i64 (a+(g.length:Int)))<0
   ·rw [if_pos j] at h
    cases h
   ·rw [if_neg j] at h
    exact pkk_sound TTok mix hF 18 (hs:=[.t true,.y ((eL (eI .i64)) g),.c,.u (di (g.length:Int)),.t false]) (ts:=[]) (s:=[]) (l:=[0,3,9,10,11]) (by kernel_rfl) (by kernel_rfl) (.cons (dt i) (.cons (getI_ob (f:=(eL (eI .i64))) m) (.cons (len_ob (f:=(eI .i64)) (l:=g)) (.cons (df j) .nil)))) (Zq hF ks n e k (wi .i64 (a+(g.length:Int))) (wi .i64 (b+1)) _ h q)
  ·rw [if_neg i] at h
   cases h
   exact pkk_sound TTok mix hF 8 (hs:=[.t false]) (ts:=[]) (s:=[]) (l:=[0,3]) (by kernel_rfl) (by kernel_rfl) (.cons (df i) .nil) q
inductive Sx where
 | x0 (a:(List Int))
def Yy:Sx→Ex
 | .x0 _=>.exit 2
def Yz (b:(List (List Int))):Sx→PS
 | .x0 a=>⟨(dd::dd::dd::dd::dd::dd::.srf 0::(dds 29 [])),[.row 3 1 (a.map (eI .i64))]⟩
def YA (a:(List (List Int))) (b:Int) (c:(List Int)):PS:=⟨(dd::dd::dd::dd::dd::dd::.srf 0::(dds 18 (.d (.sl (a.map (eL (eI .i64))))::di (a.length:Int)::di b::(dds 8 [])))),[.row 3 1 (c.map (eI .i64))]⟩
def Gy (n:Nat) (a:(List (List Int))):Nat→Int→(List Int)→Option Sx
 | 0,_,_=>none
 | k+1,b,c =>
  if b<(a.length:Int) then
   (getI a b).bind fun (d:(List Int)) =>
   (app 8 c d).bind fun (e:(List Int)) =>
   Gy n a k (wi .i64 (b+1)) e
  else
   some (.x0 c)
theorem Zr {Fi:Ex→PS→Prop} (hF:KC 36 Fi) (ks:List Fr) (n:Nat) (b:(List (List Int)))  : ∀ (k:Nat) (a:Int) (d:(List Int)) (o:Sx),Gy n b k a d=some o→RunE Tryd.prog 36 Fi ks (Yy o) (Yz b o)→RunE Tryd.prog 36 Fi (.l k (cP (cB (cR (cL (cR (cR (cR (cR (bodyOf Tryd.f30)))))))))::ks) .normal (YA b a d)
 | 0,a,d,o,h,q=>by rw [Gy] at h; cases h
 | k+1,a,d,o,h,q=>by
  rw [Gy] at h
  by_cases e:a<(b.length:Int)
  ·rw [if_pos e] at h
   obtain ⟨j,m,h⟩:=bind_some h
   obtain ⟨i,g,h⟩:=bind_some h
   exact pkk_sound TTok mix hF 13 (hs:=[.t true,.y ((eL (eI .i64)) j),.c,.w (i.map (eI .i64))]) (ts:=[]) (s:=[31]) (l:=[6,25,26,27]) (by kernel_rfl) (by kernel_rfl) (.cons (dt e) (.cons (getI_ob (f:=(eL (eI .i64))) m) (.cons (app_ob (f:=(eI .i64)) (s:=1) g (fun _=>rfl)).1 (.cons (app_ob (f:=(eI .i64)) (s:=1) g (fun _=>rfl)).2.1 (.cons (app_ob (f:=(eI .i64)) (s:=1) g (fun _=>rfl)).2.2.1 (.cons (app_ob (f:=(eI .i64)) (s:=1) g (fun _=>rfl)).2.2.2 .nil)))))) (Zr hF ks n b k (wi .i64 (a+1)) i _ h q)
  ·rw [if_neg e] at h
   cases h
   exact pkk_sound TTok mix hF 8 (hs:=[.t false]) (ts:=[]) (s:=[0]) (l:=[6]) (by kernel_rfl) (by kernel_rfl) (.cons (df e) .nil) q
/- slices.Concat[[]int,int] -/
def Sf (n:Nat) (a:(List (List Int))):Option ((List Int)) :=
 (Gx n a n 0 0).bind fun b=>match b with
 | .x0 c =>
  (SB n c).bind fun (d:((List Int))) =>
  (Gy n a n 0 d).bind fun e=>match e with
  | .x0 f =>
   some f
theorem Xd (n:Nat) (a:(List (List Int))) (r:(List Int)) (h:Sf n a=some r):Ret Tryd.prog 30 [(eL (eL (eI .i64))) a] ((eL (eI .i64)) r):=by
 refine ret_run (n:=36) (fn:=Tryd.f30) (c:=bodyOf Tryd.f30) (by kernel_rfl) (by kernel_rfl) (by kernel_rfl) (by kernel_rfl) ?_
 have hF:KC 36 (FinR Tryd.prog Tryd.f30 ((eL (eI .i64)) r)):=FinR.kc' (by kernel_rfl)
 unfold Sf at h
 obtain ⟨g,i,h⟩:=bind_some h
 refine pkk_sound TTok mix hF 9 (hs:=[.u (di (a.length:Int)),.n n]) (ts:=[]) (s:=[]) (l:=[0,3,9,10,11]) (by kernel_rfl) (by kernel_rfl) (.cons (len_ob (f:=(eL (eI .i64))) (l:=a)) .nil) (Zq hF (.b 0::.s (cR (cR (cR (bodyOf Tryd.f30))))::[]) n a n 0 0 _ i ?_)
 cases g with
 | x0 j =>
  try dsimp only at h
  obtain ⟨e,k,h⟩:=bind_some h
  obtain ⟨m,o,h⟩:=bind_some h
  refine pkk_sound TTok mix hF 8 (hs:=[.h [] [false] [.row 3 1 (e.map (eI .i64))] (.srf 0),.u (di (a.length:Int)),.n n]) (ts:=[]) (s:=[5]) (l:=[6,25,26,27]) (by kernel_rfl) (by kernel_rfl) (.cons (Xc n j _ k) (.cons (len_ob (f:=(eL (eI .i64))) (l:=a)) .nil)) (Zr hF (.b 2::.s (cR (cR (cR (cR (cR (bodyOf Tryd.f30))))))::[]) n a n 0 e _ o ?_)
  cases m with
  | x0 p =>
   try dsimp only at h
   obtain rfl:=Option.some.inj h
   exact pend_sound TTok mix 4 (hs:=[]) (by kernel_rfl) (by kernel_rfl) (by kernel_rfl) .nil
/- slices.Grow[[]string,string] -/
def G7 (n:Nat) (a:Int):Option ((List ByteArray)) :=
 if a<0 then
  none
 else
  if (wi .i64 (a-(wi .i64 (0-0)))) > 0 then
   (appZ 16 (ByteArray.mk #[]) (wi .i64 (a-(wi .i64 (0-0))))).bind fun (b:(List ByteArray)) =>
   (sub b 0 0).bind fun (c:(List ByteArray)) =>
   some c
  else
   some ([]:List ByteArray)
theorem Yp (n:Nat) (a:Int) (r:(List ByteArray)) (h:G7 n a=some r):RetH Tryd.prog 50 [.d vnil,.d ((eI .i64) a)] [] (.srf 0) [.row 9 1 (r.map eS)]:=by
 refine retH_run (n:=27) (fn:=Tryd.f50) (c:=bodyOf Tryd.f50) (by kernel_rfl) (by kernel_rfl) (by kernel_rfl) (by kernel_rfl) ?_
 have hF:KC 27 (FinH Tryd.prog Tryd.f50 [] (.srf 0) [.row 9 1 (r.map eS)]):=FinH.kc' (by kernel_rfl)
 unfold G7 at h
 by_cases b:a<0
 ·rw [if_pos b] at h
  cases h
 ·rw [if_neg b] at h
  by_cases e:(wi .i64 (a-(wi .i64 (0-0)))) > 0
  ·rw [if_pos e] at h
   obtain ⟨j,g,h⟩:=bind_some h
   obtain ⟨k,i,h⟩:=bind_some h
   obtain rfl:=Option.some.inj h
   exact pendH_sound TTok mix 17 (hs:=[.t false,.u (di 0),.t true,.c,.w (j.map eS),.u (di 0),.w (k.map eS)]) [105] (by kernel_rfl) (by kernel_rfl) (by kernel_rfl) (.cons (df b) (.cons (Eq.refl (di 0)) (.cons (dt e) (.cons (Eq.refl (0:Int)) (.cons (Eq.refl (0:Int)) (.cons (appZ_ob (f:=eS) (p:=.v (.string ⟨#[]⟩)) g rfl).1 (.cons (appZ_ob (f:=eS) (p:=.v (.string ⟨#[]⟩)) g rfl).2.1 (.cons (appZ_ob (f:=eS) (p:=.v (.string ⟨#[]⟩)) g rfl).2.2.1 (.cons (appZ_ob (f:=eS) (p:=.v (.string ⟨#[]⟩)) g rfl).2.2.2 (.cons (Eq.refl (di 0)) (.cons (Eq.refl (0:Int)) (.cons (subR_ob (f:=eS) i).1 (.cons (subR_ob (f:=eS) i).2.1 (.cons (subR_ob (f:=eS) i).2.2 .nil))))))))))))))
  ·rw [if_neg e] at h
   obtain rfl:=Option.some.inj h
   exact pendH_sound TTok mix 18 (hs:=[.t false,.u (di 0),.t false,.dl 4,.th 4 9 1]) [75] (by kernel_rfl) (by kernel_rfl) (by kernel_rfl) (.cons (df b) (.cons (Eq.refl (di 0)) (.cons (df e) .nil)))
inductive G8 where
 | x0 (a:Int)
def Z6:G8→Ex
 | .x0 _=>.exit 0
def Z7 (a:(List (List ByteArray))):G8→PS
 | .x0 b=>⟨(.d (.sl (a.map (eL eS)))::dd::dd::di b::(dds 32 [])),[]⟩
def Z8 (a:(List (List ByteArray))) (b c:Int):PS:=⟨(.d (.sl (a.map (eL eS)))::dd::dd::di b::dd::dd::dd::dd::dd::.d (.sl (a.map (eL eS)))::di (a.length:Int)::di c::(dds 24 [])),[]⟩
def Gp (n:Nat) (a:(List (List ByteArray))):Nat→Int→Int→Option G8
 | 0,_,_=>none
 | k+1,b,c =>
  if c<(a.length:Int) then
   (getI a c).bind fun (d:(List ByteArray)) =>
   if (wi .i64 (b+(d.length:Int)))<0 then
    none
   else
    Gp n a k (wi .i64 (b+(d.length:Int))) (wi .i64 (c+1))
  else
   some (.x0 b)
theorem KS {Fi:Ex→PS→Prop} (hF:KC 36 Fi) (ks:List Fr) (n:Nat) (e:(List (List ByteArray)))  : ∀ (k:Nat) (a b:Int) (o:G8),Gp n e k a b=some o→RunE Tryd.prog 36 Fi ks (Z6 o) (Z7 e o)→RunE Tryd.prog 36 Fi (.l k (cP (cB (cR (cL (cR (cR (bodyOf Tryd.f33)))))))::ks) .normal (Z8 e a b)
 | 0,a,b,o,h,q=>by rw [Gp] at h; cases h
 | k+1,a,b,o,h,q=>by
  rw [Gp] at h
  by_cases i:b<(e.length:Int)
  ·rw [if_pos i] at h
   obtain ⟨g,m,h⟩:=bind_some h
   by_cases j:(wi .i64 (a+(g.length:Int)))<0
   ·rw [if_pos j] at h
    cases h
   ·rw [if_neg j] at h
    exact pkk_sound TTok mix hF 18 (hs:=[.t true,.y ((eL eS) g),.c,.u (di (g.length:Int)),.t false]) (ts:=[]) (s:=[]) (l:=[0,3,9,10,11]) (by kernel_rfl) (by kernel_rfl) (.cons (dt i) (.cons (getI_ob (f:=(eL eS)) m) (.cons (len_ob (f:=eS) (l:=g)) (.cons (df j) .nil)))) (KS hF ks n e k (wi .i64 (a+(g.length:Int))) (wi .i64 (b+1)) _ h q)
  ·rw [if_neg i] at h
   cases h
   exact pkk_sound TTok mix hF 8 (hs:=[.t false]) (ts:=[]) (s:=[]) (l:=[0,3]) (by kernel_rfl) (by kernel_rfl) (.cons (df i) .nil) q
inductive G9 where
 | x0 (a:(List ByteArray))
def Z9:G9→Ex
 | .x0 _=>.exit 2
def Ya (b:(List (List ByteArray))):G9→PS
 | .x0 a=>⟨(dd::dd::dd::dd::dd::dd::.srf 0::(dds 29 [])),[.row 9 1 (a.map eS)]⟩
def Yb (a:(List (List ByteArray))) (b:Int) (c:(List ByteArray)):PS:=⟨(dd::dd::dd::dd::dd::dd::.srf 0::(dds 18 (.d (.sl (a.map (eL eS)))::di (a.length:Int)::di b::(dds 8 [])))),[.row 9 1 (c.map eS)]⟩
def Gq (n:Nat) (a:(List (List ByteArray))):Nat→Int→(List ByteArray)→Option G9
 | 0,_,_=>none
 | k+1,b,c =>
  if b<(a.length:Int) then
   (getI a b).bind fun (d:(List ByteArray)) =>
   (app 16 c d).bind fun (e:(List ByteArray)) =>
   Gq n a k (wi .i64 (b+1)) e
  else
   some (.x0 c)
theorem KT {Fi:Ex→PS→Prop} (hF:KC 36 Fi) (ks:List Fr) (n:Nat) (b:(List (List ByteArray)))  : ∀ (k:Nat) (a:Int) (d:(List ByteArray)) (o:G9),Gq n b k a d=some o→RunE Tryd.prog 36 Fi ks (Z9 o) (Ya b o)→RunE Tryd.prog 36 Fi (.l k (cP (cB (cR (cL (cR (cR (cR (cR (bodyOf Tryd.f33)))))))))::ks) .normal (Yb b a d)
 | 0,a,d,o,h,q=>by rw [Gq] at h; cases h
 | k+1,a,d,o,h,q=>by
  rw [Gq] at h
  by_cases e:a<(b.length:Int)
  ·rw [if_pos e] at h
   obtain ⟨j,m,h⟩:=bind_some h
   obtain ⟨i,g,h⟩:=bind_some h
   exact pkk_sound TTok mix hF 13 (hs:=[.t true,.y ((eL eS) j),.c,.w (i.map eS)]) (ts:=[]) (s:=[31]) (l:=[6,25,26,27]) (by kernel_rfl) (by kernel_rfl) (.cons (dt e) (.cons (getI_ob (f:=(eL eS)) m) (.cons (app_ob (f:=eS) (s:=1) g (fun _=>rfl)).1 (.cons (app_ob (f:=eS) (s:=1) g (fun _=>rfl)).2.1 (.cons (app_ob (f:=eS) (s:=1) g (fun _=>rfl)).2.2.1 (.cons (app_ob (f:=eS) (s:=1) g (fun _=>rfl)).2.2.2 .nil)))))) (KT hF ks n b k (wi .i64 (a+1)) i _ h q)
  ·rw [if_neg e] at h
   cases h
   exact pkk_sound TTok mix hF 8 (hs:=[.t false]) (ts:=[]) (s:=[0]) (l:=[6]) (by kernel_rfl) (by kernel_rfl) (.cons (df e) .nil) q
/- slices.Concat[[]string,string] -/
def Gw (n:Nat) (a:(List (List ByteArray))):Option ((List ByteArray)) :=
 (Gp n a n 0 0).bind fun b=>match b with
 | .x0 c =>
  (G7 n c).bind fun (d:((List ByteArray))) =>
  (Gq n a n 0 d).bind fun e=>match e with
  | .x0 f =>
   some f
theorem K9 (n:Nat) (a:(List (List ByteArray))) (r:(List ByteArray)) (h:Gw n a=some r):Ret Tryd.prog 33 [(eL (eL eS)) a] ((eL eS) r):=by
 refine ret_run (n:=36) (fn:=Tryd.f33) (c:=bodyOf Tryd.f33) (by kernel_rfl) (by kernel_rfl) (by kernel_rfl) (by kernel_rfl) ?_
 have hF:KC 36 (FinR Tryd.prog Tryd.f33 ((eL eS) r)):=FinR.kc' (by kernel_rfl)
 unfold Gw at h
 obtain ⟨g,i,h⟩:=bind_some h
 refine pkk_sound TTok mix hF 9 (hs:=[.u (di (a.length:Int)),.n n]) (ts:=[]) (s:=[]) (l:=[0,3,9,10,11]) (by kernel_rfl) (by kernel_rfl) (.cons (len_ob (f:=(eL eS)) (l:=a)) .nil) (KS hF (.b 0::.s (cR (cR (cR (bodyOf Tryd.f33))))::[]) n a n 0 0 _ i ?_)
 cases g with
 | x0 j =>
  try dsimp only at h
  obtain ⟨e,k,h⟩:=bind_some h
  obtain ⟨m,o,h⟩:=bind_some h
  refine pkk_sound TTok mix hF 8 (hs:=[.h [] [false] [.row 9 1 (e.map eS)] (.srf 0),.u (di (a.length:Int)),.n n]) (ts:=[]) (s:=[5]) (l:=[6,25,26,27]) (by kernel_rfl) (by kernel_rfl) (.cons (Yp n j _ k) (.cons (len_ob (f:=(eL eS)) (l:=a)) .nil)) (KT hF (.b 2::.s (cR (cR (cR (cR (cR (bodyOf Tryd.f33))))))::[]) n a n 0 e _ o ?_)
  cases m with
  | x0 p =>
   try dsimp only at h
   obtain rfl:=Option.some.inj h
   exact pend_sound TTok mix 4 (hs:=[]) (by kernel_rfl) (by kernel_rfl) (by kernel_rfl) .nil
inductive KD where
 | x0 (a:Bool)
def X5:KD→Ex
 | .x0 _=>.normal
def X6 (a:(List Int)) (b:(List ByteArray)) (c:Int) (e:(Int×Int)) (f:Gn) (h:(Gh×Int)):KD→PS
 | .x0 g=>⟨(dd::.d (.sl (a.map (eI .i64)))::.d (.sl (b.map eS))::di c::.ref 0 0::dd::dd::dd::dd::dd::dd::dd::di e.1::(dds 84 (.d (.v (.bool g))::(dds 53 [])))),[.box ((Yq f).map FV.d)]⟩
def X7 (b:(List Int)) (c:(List ByteArray)) (e:Int) (f:(Int×Int)) (g:Gn) (a:(Gh×Int))  : PS:=⟨(dd::.d (.sl (b.map (eI .i64)))::.d (.sl (c.map eS))::di e::.ref 0 0::dd::dd::dd::dd::dd::dd::dd::di f.1::dd::.ref 1 0::(dds 136 [])),[.box ((Yq g).map FV.d),.box [di a.1.fKind,di a.1.fMode,di a.1.fUser,di a.1.fGroup,di a.1.fSize,di a.1.fLinks]]⟩
def Ke (n:Nat) (d:(List Int)) (a:(List ByteArray)) (e:Int) (f:(Int×Int)) (b:Gn) (c:(Gh×Int)):Option KD :=
 if c.1.fKind=3 then
  if (a.length:Int)=1 then
   some (.x0 (!b.ffollow))
  else
   some (.x0 false)
 else
  some (.x0 true)
theorem X8 {Fi:Ex→PS→Prop} (hF:KC 151 Fi) (ks:List Fr) (n:Nat) (i:(List Int)) (a:(List ByteArray)) (j:Int) (k:(Int×Int)) (m:Gn) (e:(Gh×Int))  (o:KD) (h:Ke n i a j k m e=some o) (q:RunE Tryd.prog 151 Fi ks (X5 o) (X6 i a j k m e o)):RunE Tryd.prog 151 Fi (.s (cL (cL (cR (cR (cR (cR (cR (cR (cR (cR (cR (cR (bodyOf Tryd.f15)))))))))))))::ks) .normal (X7 i a j k m e):=by
 unfold Ke at h
 by_cases b:e.1.fKind=3
 ·rw [if_pos b] at h
  by_cases g:(a.length:Int)=1
  ·rw [if_pos g] at h
   cases h
   exact pkk_sound TTok mix hF 1 (hs:=[.c,.t false,.c,.u (di (a.length:Int)),.c,.c,.t true,.c,.c,.c,.c]) (ts:=[]) (s:=[0]) (l:=[1,2,3,4,12,97]) (by kernel_rfl) (by kernel_rfl) (.cons (nf b) (.cons (len_ob (f:=eS) (l:=a)) (.cons (bt g) .nil))) q
  ·rw [if_neg g] at h
   cases h
   exact pkk_sound TTok mix hF 1 (hs:=[.c,.t false,.c,.u (di (a.length:Int)),.c,.c,.t false,.c,.c,.c]) (ts:=[]) (s:=[0]) (l:=[1,2,3,4,12,97]) (by kernel_rfl) (by kernel_rfl) (.cons (nf b) (.cons (len_ob (f:=eS) (l:=a)) (.cons (bf g) .nil))) q
 ·rw [if_neg b] at h
  cases h
  exact pkk_sound TTok mix hF 1 (hs:=[.c,.t true,.c,.c,.c,.c]) (ts:=[]) (s:=[0]) (l:=[1,2,3,4,12,97]) (by kernel_rfl) (by kernel_rfl) (.cons (nt b) .nil) q
/- (ringhall/ringref5.way).on -/
def Gi:Nat→Gn→(List Int)→(List ByteArray)→Int→Option ((List Int)×Int)
 | 0,_,_,_,_=>none
 | n+1,b,c,a,e =>
 if (a.length:Int)=0 then
  some (c,0)
 else
  (getI c (wi .i64 ((c.length:Int)-1))).bind fun (h:Int) =>
  (So n b h).bind fun (i:(Int)) =>
  if i=0 then
   (getI a 0).bind fun (p:ByteArray) =>
   if (p.toList == (ByteArray.mk #[46]).toList)=true then
    (sub a 1 (a.length:Int)).bind fun (q:(List ByteArray)) =>
    ((Gi n) b c q e).bind fun (j:((List Int)×Int)) =>
    some (j.1,j.2)
   else
    (getI a 0).bind fun (r:ByteArray) =>
    if (r.toList == (ByteArray.mk #[46,46]).toList)=true then
     (sub c 0 (maxI 1 (wi .i64 ((c.length:Int)-1)))).bind fun (s:(List Int)) =>
     (sub a 1 (a.length:Int)).bind fun (t:(List ByteArray)) =>
     ((Gi n) b s t e).bind fun (k:((List Int)×Int)) =>
     some (k.1,k.2)
    else
     (getI a 0).bind fun (u:ByteArray) =>
     (Su n b.ft h u).bind fun (d:(Int×Int)) =>
     if d.2=0 then
      (GX n b.ft d.1).bind fun (g:(Gh×Int)) =>
      if g.2=0 then
       (Ke n c a e d b g).bind fun v=>match v with
       | .x0 w =>
        if w=true then
         if d.1<1 then
          some (([]:(List Int)),1)
         else
          if d.1 > 32 then
           some (([]:(List Int)),1)
          else
           (SC n b.fmounts d.1).bind fun (x:(Int)) =>
           (Sf n ([c,[x]])).bind fun (y:((List Int))) =>
           (sub a 1 (a.length:Int)).bind fun (z:(List ByteArray)) =>
           ((Gi n) b y z e).bind fun (l:((List Int)×Int)) =>
           some (l.1,l.2)
        else
         if e=8 then
          some (([]:(List Int)),14)
         else
          (GW n b.ft d.1).bind fun (a0:((Option Gk))) =>
          (a0).bind fun (a1:Gk) =>
          (Gv n a1.fTell).bind fun (f:(Bool×(List ByteArray)×Int)) =>
          if f.2.2=0 then
           if f.1=true then
            (sub c 0 1).bind fun (a2:(List Int)) =>
            (sub a 1 (a.length:Int)).bind fun (a3:(List ByteArray)) =>
            (Gw n ([f.2.1,a3])).bind fun (a4:((List ByteArray))) =>
            ((Gi n) b a2 a4 (wi .i64 (e+1))).bind fun (m:((List Int)×Int)) =>
            some (m.1,m.2)
           else
            (sub a 1 (a.length:Int)).bind fun (a5:(List ByteArray)) =>
            (Gw n ([f.2.1,a5])).bind fun (a6:((List ByteArray))) =>
            ((Gi n) b c a6 (wi .i64 (e+1))).bind fun (o:((List Int)×Int)) =>
            some (o.1,o.2)
          else
           some (([]:(List Int)),f.2.2)
      else
       some (([]:(List Int)),g.2)
     else
      some (([]:(List Int)),d.2)
  else
   some (([]:(List Int)),i)
theorem GJ:∀ (n:Nat) (b:Gn) (g:(List Int)) (i:(List ByteArray)) (o:Int) (r:(List Int)×Int) (h:Gi n b g i o=some r),Ret Tryd.prog 15 [Ui b,(eL (eI .i64)) g,(eL eS) i,(eI .i64) o] (.tup [(eL (eI .i64)) r.1,(eI .i64) r.2])
 | 0,b,g,i,o,r,h=>by rw [Gi] at h; cases h
 | n+1,b,g,i,o,r,h=>by
  refine ret_run (n:=151) (fn:=Tryd.f15) (c:=bodyOf Tryd.f15) (by kernel_rfl) (by kernel_rfl) (by kernel_rfl) (by kernel_rfl) ?_
  have hF:KC 151 (FinR Tryd.prog Tryd.f15 (.tup [(eL (eI .i64)) r.1,(eI .i64) r.2])):=FinR.kc' (by kernel_rfl)
  rw [Gi] at h
  by_cases p:(i.length:Int)=0
  ·rw [if_pos p] at h
   obtain rfl:=Option.some.inj h
   exact pend_sound TTok mix 10 (hs:=[.u (di (i.length:Int)),.t true]) (by kernel_rfl) (by kernel_rfl) (by kernel_rfl) (.cons (len_ob (f:=eS) (l:=i)) (.cons (bt p) .nil))
  ·rw [if_neg p] at h
   obtain ⟨k,a3,h⟩:=bind_some h
   obtain ⟨a1,a4,h⟩:=bind_some h
   by_cases a0:a1=0
   ·rw [if_pos a0] at h
    obtain ⟨a5,b1,h⟩:=bind_some h
    by_cases a2:(a5.toList == (ByteArray.mk #[46]).toList)=true
    ·rw [if_pos a2] at h
     obtain ⟨d2,b2,h⟩:=bind_some h
     obtain ⟨d3,e9,h⟩:=bind_some h
     obtain rfl:=Option.some.inj h
     exact pend_sound TTok mix 24 (hs:=[.u (di (i.length:Int)),.t false,.u (di (g.length:Int)),.y ((eI .i64) k),.c,.c,.r ((eI .i64) a1),.t false,.y (eS a5),.c,.t true,.c,.w (d2.map eS),.r (.tup [(eL (eI .i64)) d3.1,(eI .i64) d3.2])]) (by kernel_rfl) (by kernel_rfl) (by kernel_rfl) (.cons (len_ob (f:=eS) (l:=i)) (.cons (bf p) (.cons (len_ob (f:=(eI .i64)) (l:=g)) (.cons (getI_ob (f:=(eI .i64)) a3) (.cons (GH n b k _ a4) (.cons (nf a0) (.cons (getI_ob (f:=eS) b1) (.cons a2 (.cons (sub_ob' (f:=eS) (s:=1) b2 (fun _=>rfl)).1 (.cons (sub_ob' (f:=eS) (s:=1) b2 (fun _=>rfl)).2.1 (.cons (sub_ob' (f:=eS) (s:=1) b2 (fun _=>rfl)).2.2.1 (.cons (sub_ob' (f:=eS) (s:=1) b2 (fun _=>rfl)).2.2.2.1 (.cons (sub_ob' (f:=eS) (s:=1) b2 (fun _=>rfl)).2.2.2.2 (.cons ((fun x0 x1 x2 x3 r h=>GJ n x0 x1 x2 x3 r h) b g d2 o _ e9) .nil))))))))))))))
    ·rw [if_neg a2] at h
     obtain ⟨b3,c3,h⟩:=bind_some h
     by_cases a6:(b3.toList == (ByteArray.mk #[46,46]).toList)=true
     ·rw [if_pos a6] at h
      obtain ⟨d4,b4,h⟩:=bind_some h
      obtain ⟨d5,b5,h⟩:=bind_some h
      obtain ⟨d6,f0,h⟩:=bind_some h
      obtain rfl:=Option.some.inj h
      exact pend_sound TTok mix 29 (hs:=[.u (di (i.length:Int)),.t false,.u (di (g.length:Int)),.y ((eI .i64) k),.c,.c,.r ((eI .i64) a1),.t false,.y (eS a5),.c,.t false,.y (eS b3),.c,.t true,.c,.u (di (g.length:Int)),.w (d4.map (eI .i64)),.w (d5.map eS),.r (.tup [(eL (eI .i64)) d6.1,(eI .i64) d6.2])]) (by kernel_rfl) (by kernel_rfl) (by kernel_rfl) (.cons (len_ob (f:=eS) (l:=i)) (.cons (bf p) (.cons (len_ob (f:=(eI .i64)) (l:=g)) (.cons (getI_ob (f:=(eI .i64)) a3) (.cons (GH n b k _ a4) (.cons (nf a0) (.cons (getI_ob (f:=eS) b1) (.cons (vf a2) (.cons (getI_ob (f:=eS) c3) (.cons a6 (.cons (len_ob (f:=(eI .i64)) (l:=g)) (.cons (sub_ob (f:=(eI .i64)) (s:=1) b4 (fun _=>rfl)).1 (.cons (sub_ob (f:=(eI .i64)) (s:=1) b4 (fun _=>rfl)).2.1 (.cons (sub_ob (f:=(eI .i64)) (s:=1) b4 (fun _=>rfl)).2.2.1 (.cons (sub_ob (f:=(eI .i64)) (s:=1) b4 (fun _=>rfl)).2.2.2.1 (.cons (sub_ob (f:=(eI .i64)) (s:=1) b4 (fun _=>rfl)).2.2.2.2 (.cons (sub_ob' (f:=eS) (s:=1) b5 (fun _=>rfl)).1 (.cons (sub_ob' (f:=eS) (s:=1) b5 (fun _=>rfl)).2.1 (.cons (sub_ob' (f:=eS) (s:=1) b5 (fun _=>rfl)).2.2.1 (.cons (sub_ob' (f:=eS) (s:=1) b5 (fun _=>rfl)).2.2.2.1 (.cons (sub_ob' (f:=eS) (s:=1) b5 (fun _=>rfl)).2.2.2.2 (.cons ((fun x0 x1 x2 x3 r h=>GJ n x0 x1 x2 x3 r h) b d4 d5 o _ f0) .nil))))))))))))))))))))))
     ·rw [if_neg a6] at h
      obtain ⟨a7,c7,h⟩:=bind_some h
      obtain ⟨j,c8,h⟩:=bind_some h
      by_cases b6:j.2=0
      ·rw [if_pos b6] at h
       obtain ⟨a8,d7,h⟩:=bind_some h
       by_cases c4:a8.2=0
       ·rw [if_pos c4] at h
        obtain ⟨f1,f2,h⟩:=bind_some h
        refine pkk_sound TTok mix hF 42 (hs:=[.u (di (i.length:Int)),.t false,.u (di (g.length:Int)),.y ((eI .i64) k),.c,.c,.r ((eI .i64) a1),.t false,.y (eS a5),.c,.t false,.y (eS b3),.c,.t false,.c,.y (eS a7),.c,.r (.tup [(eI .i64) j.1,(eI .i64) j.2]),.t false,.c,.r (.tup [GZ a8.1,(eI .i64) a8.2]),.c,.t false]) (ts:=[]) (s:=[0,240]) (l:=[1,2,3,4,12,14]) (by kernel_rfl) (by kernel_rfl) (.cons (len_ob (f:=eS) (l:=i)) (.cons (bf p) (.cons (len_ob (f:=(eI .i64)) (l:=g)) (.cons (getI_ob (f:=(eI .i64)) a3) (.cons (GH n b k _ a4) (.cons (nf a0) (.cons (getI_ob (f:=eS) b1) (.cons (vf a2) (.cons (getI_ob (f:=eS) c3) (.cons (vf a6) (.cons (getI_ob (f:=eS) c7) (.cons (Se n b.ft k a7 _ c8) (.cons (nf b6) (.cons (Gm n b.ft j.1 _ d7) (.cons (show 0+6≤6 by decide) (.cons (nf c4) .nil)))))))))))))))) (X8 hF (.s (cR (cL (cR (cR (cR (cR (cR (cR (cR (cR (cR (cR (bodyOf Tryd.f15)))))))))))))::.s (cR (cR (cR (cR (cR (cR (cR (cR (cR (cR (cR (bodyOf Tryd.f15))))))))))))::[]) n g i o j b a8 _ f2 ?_)
        cases f1 with
        | x0 f3 =>
         try dsimp only at h
         by_cases q:f3=true
         ·rw [if_pos q] at h
          by_cases b7:j.1<1
          ·rw [if_pos b7] at h
           obtain rfl:=Option.some.inj h
           exact pend_sound TTok mix 10 (hs:=[.t true,.t true,.c,.c]) (by kernel_rfl) (by kernel_rfl) (by kernel_rfl) (.cons q (.cons (dt b7) .nil))
          ·rw [if_neg b7] at h
           by_cases c5:j.1 > 32
           ·rw [if_pos c5] at h
            obtain rfl:=Option.some.inj h
            exact pend_sound TTok mix 10 (hs:=[.t true,.t false,.c,.t true]) (by kernel_rfl) (by kernel_rfl) (by kernel_rfl) (.cons q (.cons (df b7) (.cons (dt c5) .nil)))
           ·rw [if_neg c5] at h
            obtain ⟨d8,f4,h⟩:=bind_some h
            obtain ⟨d9,f5,h⟩:=bind_some h
            obtain ⟨e0,b8,h⟩:=bind_some h
            obtain ⟨e1,f6,h⟩:=bind_some h
            obtain rfl:=Option.some.inj h
            exact pend_sound TTok mix 10 (hs:=[.t true,.t false,.c,.t false,.c,.c,.r ((eI .i64) d8),.bd,.bd,.r ((eL (eI .i64)) d9),.w (e0.map eS),.r (.tup [(eL (eI .i64)) e1.1,(eI .i64) e1.2])]) (by kernel_rfl) (by kernel_rfl) (by kernel_rfl) (.cons q (.cons (df b7) (.cons (df c5) (.cons (ZJ n b.fmounts j.1 _ f4) (.cons (Xd n ([g,[d8]]) _ f5) (.cons (sub_ob' (f:=eS) (s:=1) b8 (fun _=>rfl)).1 (.cons (sub_ob' (f:=eS) (s:=1) b8 (fun _=>rfl)).2.1 (.cons (sub_ob' (f:=eS) (s:=1) b8 (fun _=>rfl)).2.2.1 (.cons (sub_ob' (f:=eS) (s:=1) b8 (fun _=>rfl)).2.2.2.1 (.cons (sub_ob' (f:=eS) (s:=1) b8 (fun _=>rfl)).2.2.2.2 (.cons ((fun x0 x1 x2 x3 r h=>GJ n x0 x1 x2 x3 r h) b d9 e0 o _ f6) .nil)))))))))))
         ·rw [if_neg q] at h
          by_cases a9:o=8
          ·rw [if_pos a9] at h
           obtain rfl:=Option.some.inj h
           exact pend_sound TTok mix 10 (hs:=[.t false,.t true]) (by kernel_rfl) (by kernel_rfl) (by kernel_rfl) (.cons (vf q) (.cons (bt a9) .nil))
          ·rw [if_neg a9] at h
           obtain ⟨b0,c9,h⟩:=bind_some h
           obtain ⟨a,d0,h⟩:=bind_some h
           obtain ⟨m,d1,h⟩:=bind_some h
           by_cases b9:m.2.2=0
           ·rw [if_pos b9] at h
            by_cases c6:m.1=true
            ·rw [if_pos c6] at h
             obtain ⟨e2,c0,h⟩:=bind_some h
             obtain ⟨e3,c1,h⟩:=bind_some h
             obtain ⟨e4,f7,h⟩:=bind_some h
             obtain ⟨e5,f8,h⟩:=bind_some h
             obtain rfl:=Option.some.inj h
             exact pend_sound TTok mix 22 (hs:=[.t false,.t false,.c,.r ((eO Gf) b0),.e 31 [] (.d (.iptr [.v (.int .i64 a.fStat.fKind),.v (.int .i64 a.fStat.fMode),.v (.int .i64 a.fStat.fUser),.v (.int .i64 a.fStat.fGroup),.v (.int .i64 a.fStat.fSize),.v (.int .i64 a.fStat.fLinks),.sl (a.fNames.map GE),.v (.string a.fTell)] 0)) [],.c,.r (.tup [eB m.1,(eL eS) m.2.1,(eI .i64) m.2.2]),.t false,.t true,.w (e2.map (eI .i64)),.c,.w (e3.map eS),.bd,.r ((eL eS) e4),.r (.tup [(eL (eI .i64)) e5.1,(eI .i64) e5.2])]) (by kernel_rfl) (by kernel_rfl) (by kernel_rfl) (.cons (vf q) (.cons (bf a9) (.cons (Gu n b.ft j.1 _ c9) (.cons (xderO (P:=Tryd.prog) (T:=TT) (f:=Gf) (v:=b0) (z:=a) (x:=(.tmp 125)) d0) (.cons (Sd n a.fTell _ d1) (.cons (nf b9) (.cons c6 (.cons (sub_ob (f:=(eI .i64)) (s:=1) c0 (fun _=>rfl)).1 (.cons (sub_ob (f:=(eI .i64)) (s:=1) c0 (fun _=>rfl)).2.1 (.cons (sub_ob (f:=(eI .i64)) (s:=1) c0 (fun _=>rfl)).2.2.1 (.cons (sub_ob (f:=(eI .i64)) (s:=1) c0 (fun _=>rfl)).2.2.2.1 (.cons (sub_ob (f:=(eI .i64)) (s:=1) c0 (fun _=>rfl)).2.2.2.2 (.cons (sub_ob' (f:=eS) (s:=1) c1 (fun _=>rfl)).1 (.cons (sub_ob' (f:=eS) (s:=1) c1 (fun _=>rfl)).2.1 (.cons (sub_ob' (f:=eS) (s:=1) c1 (fun _=>rfl)).2.2.1 (.cons (sub_ob' (f:=eS) (s:=1) c1 (fun _=>rfl)).2.2.2.1 (.cons (sub_ob' (f:=eS) (s:=1) c1 (fun _=>rfl)).2.2.2.2 (.cons (K9 n ([m.2.1,e3]) _ f7) (.cons ((fun x0 x1 x2 x3 r h=>GJ n x0 x1 x2 x3 r h) b e2 e4 (wi .i64 (o+1)) _ f8) .nil)))))))))))))))))))
            ·rw [if_neg c6] at h
             obtain ⟨e6,c2,h⟩:=bind_some h
             obtain ⟨e7,f9,h⟩:=bind_some h
             obtain ⟨e8,g0,h⟩:=bind_some h
             obtain rfl:=Option.some.inj h
             exact pend_sound TTok mix 22 (hs:=[.t false,.t false,.c,.r ((eO Gf) b0),.e 31 [] (.d (.iptr [.v (.int .i64 a.fStat.fKind),.v (.int .i64 a.fStat.fMode),.v (.int .i64 a.fStat.fUser),.v (.int .i64 a.fStat.fGroup),.v (.int .i64 a.fStat.fSize),.v (.int .i64 a.fStat.fLinks),.sl (a.fNames.map GE),.v (.string a.fTell)] 0)) [],.c,.r (.tup [eB m.1,(eL eS) m.2.1,(eI .i64) m.2.2]),.t false,.t false,.c,.w (e6.map eS),.bd,.r ((eL eS) e7),.r (.tup [(eL (eI .i64)) e8.1,(eI .i64) e8.2])]) (by kernel_rfl) (by kernel_rfl) (by kernel_rfl) (.cons (vf q) (.cons (bf a9) (.cons (Gu n b.ft j.1 _ c9) (.cons (xderO (P:=Tryd.prog) (T:=TT) (f:=Gf) (v:=b0) (z:=a) (x:=(.tmp 125)) d0) (.cons (Sd n a.fTell _ d1) (.cons (nf b9) (.cons (vf c6) (.cons (sub_ob' (f:=eS) (s:=1) c2 (fun _=>rfl)).1 (.cons (sub_ob' (f:=eS) (s:=1) c2 (fun _=>rfl)).2.1 (.cons (sub_ob' (f:=eS) (s:=1) c2 (fun _=>rfl)).2.2.1 (.cons (sub_ob' (f:=eS) (s:=1) c2 (fun _=>rfl)).2.2.2.1 (.cons (sub_ob' (f:=eS) (s:=1) c2 (fun _=>rfl)).2.2.2.2 (.cons (K9 n ([m.2.1,e6]) _ f9) (.cons ((fun x0 x1 x2 x3 r h=>GJ n x0 x1 x2 x3 r h) b g e7 (wi .i64 (o+1)) _ g0) .nil))))))))))))))
           ·rw [if_neg b9] at h
            obtain rfl:=Option.some.inj h
            exact pend_sound TTok mix 17 (hs:=[.t false,.t false,.c,.r ((eO Gf) b0),.e 31 [] (.d (.iptr [.v (.int .i64 a.fStat.fKind),.v (.int .i64 a.fStat.fMode),.v (.int .i64 a.fStat.fUser),.v (.int .i64 a.fStat.fGroup),.v (.int .i64 a.fStat.fSize),.v (.int .i64 a.fStat.fLinks),.sl (a.fNames.map GE),.v (.string a.fTell)] 0)) [],.c,.r (.tup [eB m.1,(eL eS) m.2.1,(eI .i64) m.2.2]),.t true]) (by kernel_rfl) (by kernel_rfl) (by kernel_rfl) (.cons (vf q) (.cons (bf a9) (.cons (Gu n b.ft j.1 _ c9) (.cons (xderO (P:=Tryd.prog) (T:=TT) (f:=Gf) (v:=b0) (z:=a) (x:=(.tmp 125)) d0) (.cons (Sd n a.fTell _ d1) (.cons (nt b9) .nil))))))
       ·rw [if_neg c4] at h
        obtain rfl:=Option.some.inj h
        exact pend_sound TTok mix 43 (hs:=[.u (di (i.length:Int)),.t false,.u (di (g.length:Int)),.y ((eI .i64) k),.c,.c,.r ((eI .i64) a1),.t false,.y (eS a5),.c,.t false,.y (eS b3),.c,.t false,.c,.y (eS a7),.c,.r (.tup [(eI .i64) j.1,(eI .i64) j.2]),.t false,.c,.r (.tup [GZ a8.1,(eI .i64) a8.2]),.c,.t true]) (by kernel_rfl) (by kernel_rfl) (by kernel_rfl) (.cons (len_ob (f:=eS) (l:=i)) (.cons (bf p) (.cons (len_ob (f:=(eI .i64)) (l:=g)) (.cons (getI_ob (f:=(eI .i64)) a3) (.cons (GH n b k _ a4) (.cons (nf a0) (.cons (getI_ob (f:=eS) b1) (.cons (vf a2) (.cons (getI_ob (f:=eS) c3) (.cons (vf a6) (.cons (getI_ob (f:=eS) c7) (.cons (Se n b.ft k a7 _ c8) (.cons (nf b6) (.cons (Gm n b.ft j.1 _ d7) (.cons (show 0+6≤6 by decide) (.cons (nt c4) .nil))))))))))))))))
      ·rw [if_neg b6] at h
       obtain rfl:=Option.some.inj h
       exact pend_sound TTok mix 36 (hs:=[.u (di (i.length:Int)),.t false,.u (di (g.length:Int)),.y ((eI .i64) k),.c,.c,.r ((eI .i64) a1),.t false,.y (eS a5),.c,.t false,.y (eS b3),.c,.t false,.c,.y (eS a7),.c,.r (.tup [(eI .i64) j.1,(eI .i64) j.2]),.t true]) (by kernel_rfl) (by kernel_rfl) (by kernel_rfl) (.cons (len_ob (f:=eS) (l:=i)) (.cons (bf p) (.cons (len_ob (f:=(eI .i64)) (l:=g)) (.cons (getI_ob (f:=(eI .i64)) a3) (.cons (GH n b k _ a4) (.cons (nf a0) (.cons (getI_ob (f:=eS) b1) (.cons (vf a2) (.cons (getI_ob (f:=eS) c3) (.cons (vf a6) (.cons (getI_ob (f:=eS) c7) (.cons (Se n b.ft k a7 _ c8) (.cons (nt b6) .nil)))))))))))))
   ·rw [if_neg a0] at h
    obtain rfl:=Option.some.inj h
    exact pend_sound TTok mix 19 (hs:=[.u (di (i.length:Int)),.t false,.u (di (g.length:Int)),.y ((eI .i64) k),.c,.c,.r ((eI .i64) a1),.t true]) (by kernel_rfl) (by kernel_rfl) (by kernel_rfl) (.cons (len_ob (f:=eS) (l:=i)) (.cons (bf p) (.cons (len_ob (f:=(eI .i64)) (l:=g)) (.cons (getI_ob (f:=(eI .i64)) a3) (.cons (GH n b k _ a4) (.cons (nt a0) .nil))))))
/- ringhall/ringref5.WalkOf -/
def KY (n:Nat) (e:Gg) (a:(List (Fin 2→Int))) (b:Gc) (c:(List Int)) (f:ByteArray) (g:Bool):Option ((List Int)×Int) :=
 (SD n a b c f).bind fun (h:(Int)) =>
 if h=0 then
  (Gv n f).bind fun (d:(Bool×(List ByteArray)×Int)) =>
  if d.1=true then
   (sub c 0 1).bind fun (k:(List Int)) =>
   (Gi n (Gn.mk e a b g) k d.2.1 0).bind fun (i:((List Int)×Int)) =>
   some (i.1,i.2)
  else
   (Gi n (Gn.mk e a b g) c d.2.1 0).bind fun (j:((List Int)×Int)) =>
   some (j.1,j.2)
 else
  some (([]:(List Int)),h)
theorem UK (n:Nat) (k:Gg) (b:(List (Fin 2→Int))) (d:Gc) (g:(List Int)) (e:ByteArray) (l:Bool) (r:(List Int)×Int) (h:KY n k b d g e l=some r):Ret Tryd.prog 6 [Gb k,(eL (fun x=>PV.agg [.v (.int .i64 (x 0)),.v (.int .i64 (x 1))])) b,G0 d,(eL (eI .i64)) g,eS e,eB l] (.tup [(eL (eI .i64)) r.1,(eI .i64) r.2]):=by
 refine ret_run (n:=45) (fn:=Tryd.f6) (c:=bodyOf Tryd.f6) (by kernel_rfl) (by kernel_rfl) (by kernel_rfl) (by kernel_rfl) ?_
 have hF:KC 45 (FinR Tryd.prog Tryd.f6 (.tup [(eL (eI .i64)) r.1,(eI .i64) r.2])):=FinR.kc' (by kernel_rfl)
 unfold KY at h
 obtain ⟨m,p,h⟩:=bind_some h
 by_cases i:m=0
 ·rw [if_pos i] at h
  obtain ⟨a,q,h⟩:=bind_some h
  by_cases o:a.1=true
  ·rw [if_pos o] at h
   obtain ⟨u,j,h⟩:=bind_some h
   obtain ⟨y,a0,h⟩:=bind_some h
   obtain rfl:=Option.some.inj h
   exact pend_sound TTok mix 19 (hs:=[.c,.r ((eI .i64) m),.t false,.r (.tup [eB a.1,(eL eS) a.2.1,(eI .i64) a.2.2]),.t true,.w (u.map (eI .i64)),.c,.c,.r (.tup [(eL (eI .i64)) y.1,(eI .i64) y.2])]) (by kernel_rfl) (by kernel_rfl) (by kernel_rfl) (.cons (Kd n b d g e _ p) (.cons (nf i) (.cons (Sd n e _ q) (.cons o (.cons (sub_ob (f:=(eI .i64)) (s:=1) j (fun _=>rfl)).1 (.cons (sub_ob (f:=(eI .i64)) (s:=1) j (fun _=>rfl)).2.1 (.cons (sub_ob (f:=(eI .i64)) (s:=1) j (fun _=>rfl)).2.2.1 (.cons (sub_ob (f:=(eI .i64)) (s:=1) j (fun _=>rfl)).2.2.2.1 (.cons (sub_ob (f:=(eI .i64)) (s:=1) j (fun _=>rfl)).2.2.2.2 (.cons (GJ n (Gn.mk k b d l) u a.2.1 0 _ a0) .nil))))))))))
  ·rw [if_neg o] at h
   obtain ⟨z,a1,h⟩:=bind_some h
   obtain rfl:=Option.some.inj h
   exact pend_sound TTok mix 19 (hs:=[.c,.r ((eI .i64) m),.t false,.r (.tup [eB a.1,(eL eS) a.2.1,(eI .i64) a.2.2]),.t false,.c,.c,.r (.tup [(eL (eI .i64)) z.1,(eI .i64) z.2])]) (by kernel_rfl) (by kernel_rfl) (by kernel_rfl) (.cons (Kd n b d g e _ p) (.cons (nf i) (.cons (Sd n e _ q) (.cons (vf o) (.cons (GJ n (Gn.mk k b d l) g a.2.1 0 _ a1) .nil)))))
 ·rw [if_neg i] at h
  obtain rfl:=Option.some.inj h
  exact pend_sound TTok mix 12 (hs:=[.c,.r ((eI .i64) m),.t true]) (by kernel_rfl) (by kernel_rfl) (by kernel_rfl) (.cons (Kd n b d g e _ p) (.cons (nt i) .nil))
inductive KE where
 | x0 (a:Bool)
def X9:KE→Ex
 | .x0 _=>.normal
def Ua (c:(List (Fin 2→Int))) (e:(List Int)) (b:(Bool×(List ByteArray)×Int)) (f:Gg) (a:Gc):KE→PS
 | .x0 g=>⟨(dd::.d (.sl (c.map (fun x=>PV.agg [.v (.int .i64 (x 0)),.v (.int .i64 (x 1))])))::dd::.d (.sl (e.map (eI .i64)))::dd::.ref 0 0::dd::.ref 1 0::dd::dd::dd::dd::dd::dd::.d (.v (.bool b.1))::.d (.sl (b.2.1.map eS))::dd::di (wi .i64 ((b.2.1.length:Int)-1))::(dds 35 (.d (.v (.bool g))::(dds 34 [])))),[.box [.d (.sl (f.fNodes.map Gf))],.box [di a.fUser,di a.fGroup,.d (.sl (a.fMore.map (eI .i64))),di a.fCaps,di a.fLevel,di a.fKind]]⟩
def Ub (c:(List (Fin 2→Int))) (e:(List Int)) (b:(Bool×(List ByteArray)×Int)) (f:Gg) (a:Gc)  : PS:=⟨(dd::.d (.sl (c.map (fun x=>PV.agg [.v (.int .i64 (x 0)),.v (.int .i64 (x 1))])))::dd::.d (.sl (e.map (eI .i64)))::dd::.ref 0 0::dd::.ref 1 0::dd::dd::dd::dd::dd::dd::.d (.v (.bool b.1))::.d (.sl (b.2.1.map eS))::dd::di (wi .i64 ((b.2.1.length:Int)-1))::(dds 70 [])),[.box [.d (.sl (f.fNodes.map Gf))],.box [di a.fUser,di a.fGroup,.d (.sl (a.fMore.map (eI .i64))),di a.fCaps,di a.fLevel,di a.fKind]]⟩
def Sl (n:Nat) (d:(List (Fin 2→Int))) (e:(List Int)) (a:(Bool×(List ByteArray)×Int)) (f:Gg) (g:Gc):Option KE :=
 if (wi .i64 ((a.2.1.length:Int)-1))<0 then
  some (.x0 true)
 else
  (getI a.2.1 (wi .i64 ((a.2.1.length:Int)-1))).bind fun (b:ByteArray) =>
  if (b.toList == (ByteArray.mk #[46]).toList)=true then
   some (.x0 true)
  else
   (getI a.2.1 (wi .i64 ((a.2.1.length:Int)-1))).bind fun (c:ByteArray) =>
   some (.x0 (c.toList == (ByteArray.mk #[46,46]).toList))
theorem Uc {Fi:Ex→PS→Prop} (hF:KC 88 Fi) (ks:List Fr) (n:Nat) (e:(List (Fin 2→Int))) (g:(List Int)) (b:(Bool×(List ByteArray)×Int)) (i:Gg) (j:Gc)  (o:KE) (h:Sl n e g b i j=some o) (q:RunE Tryd.prog 88 Fi ks (X9 o) (Ua e g b i j o)):RunE Tryd.prog 88 Fi (.s (cL (cL (cR (cR (cR (cR (bodyOf Tryd.f7)))))))::ks) .normal (Ub e g b i j):=by
 unfold Sl at h
 by_cases a:(wi .i64 ((b.2.1.length:Int)-1))<0
 ·rw [if_pos a] at h
  cases h
  exact pkk_sound TTok mix hF 1 (hs:=[.t true,.c,.c,.c,.c,.c,.c,.c,.c,.c]) (ts:=[]) (s:=[0,1]) (l:=[1,3,5,7,14,15,17,53]) (by kernel_rfl) (by kernel_rfl) (.cons (dt a) .nil) q
 ·rw [if_neg a] at h
  obtain ⟨k,m,h⟩:=bind_some h
  by_cases d:(k.toList == (ByteArray.mk #[46]).toList)=true
  ·rw [if_pos d] at h
   cases h
   exact pkk_sound TTok mix hF 1 (hs:=[.t false,.c,.c,.y (eS k),.c,.c,.c,.t true,.c,.c,.c,.c]) (ts:=[]) (s:=[0,1]) (l:=[1,3,5,7,14,15,17,53]) (by kernel_rfl) (by kernel_rfl) (.cons (df a) (.cons (getI_ob (f:=eS) m) (.cons d .nil))) q
  ·rw [if_neg d] at h
   obtain ⟨p,r,h⟩:=bind_some h
   cases h
   exact pkk_sound TTok mix hF 1 (hs:=[.t false,.c,.c,.y (eS k),.c,.c,.c,.t false,.c,.c,.y (eS p),.c,.c,.c]) (ts:=[]) (s:=[0,1]) (l:=[1,3,5,7,14,15,17,53]) (by kernel_rfl) (by kernel_rfl) (.cons (df a) (.cons (getI_ob (f:=eS) m) (.cons (vf d) (.cons (getI_ob (f:=eS) r) .nil)))) q
inductive KF where
 | x0 (a:(List Int))
def Ud:KF→Ex
 | .x0 _=>.normal
def Ue (c:(List (Fin 2→Int))) (g:(List Int)) (b:(Bool×(List ByteArray)×Int)) (e:Gg) (a:Gc):KF→PS
 | .x0 f=>⟨(dd::.d (.sl (c.map (fun x=>PV.agg [.v (.int .i64 (x 0)),.v (.int .i64 (x 1))])))::dd::.d (.sl (f.map (eI .i64)))::dd::.ref 0 0::dd::.ref 1 0::dd::dd::dd::dd::dd::dd::dd::.d (.sl (b.2.1.map eS))::dd::di (wi .i64 ((b.2.1.length:Int)-1))::(dds 70 [])),[.box [.d (.sl (e.fNodes.map Gf))],.box [di a.fUser,di a.fGroup,.d (.sl (a.fMore.map (eI .i64))),di a.fCaps,di a.fLevel,di a.fKind]]⟩
def Uf (c:(List (Fin 2→Int))) (e:(List Int)) (b:(Bool×(List ByteArray)×Int)) (f:Gg) (a:Gc)  : PS:=⟨(dd::.d (.sl (c.map (fun x=>PV.agg [.v (.int .i64 (x 0)),.v (.int .i64 (x 1))])))::dd::.d (.sl (e.map (eI .i64)))::dd::.ref 0 0::dd::.ref 1 0::dd::dd::dd::dd::dd::dd::dd::.d (.sl (b.2.1.map eS))::dd::di (wi .i64 ((b.2.1.length:Int)-1))::(dds 36 (.d (.v (.bool b.1))::(dds 33 [])))),[.box [.d (.sl (f.fNodes.map Gf))],.box [di a.fUser,di a.fGroup,.d (.sl (a.fMore.map (eI .i64))),di a.fCaps,di a.fLevel,di a.fKind]]⟩
def Kf (n:Nat) (d:(List (Fin 2→Int))) (a:(List Int)) (b:(Bool×(List ByteArray)×Int)) (e:Gg) (f:Gc):Option KF :=
 if b.1=true then
  (sub a 0 1).bind fun (c:(List Int)) =>
  some (.x0 c)
 else
  some (.x0 a)
theorem Ug {Fi:Ex→PS→Prop} (hF:KC 88 Fi) (ks:List Fr) (n:Nat) (d:(List (Fin 2→Int))) (e:(List Int)) (b:(Bool×(List ByteArray)×Int)) (g:Gg) (i:Gc)  (o:KF) (h:Kf n d e b g i=some o) (q:RunE Tryd.prog 88 Fi ks (Ud o) (Ue d e b g i o)):RunE Tryd.prog 88 Fi (.s (cR (cL (cR (cR (cR (cR (cR (bodyOf Tryd.f7))))))))::ks) .normal (Uf d e b g i):=by
 unfold Kf at h
 by_cases c:b.1=true
 ·rw [if_pos c] at h
  obtain ⟨j,a,h⟩:=bind_some h
  cases h
  exact pkk_sound TTok mix hF 2 (hs:=[.t true,.w (j.map (eI .i64))]) (ts:=[]) (s:=[0,1]) (l:=[1,3,5,7,15,17]) (by kernel_rfl) (by kernel_rfl) (.cons c (.cons (sub_ob (f:=(eI .i64)) (s:=1) a (fun _=>rfl)).1 (.cons (sub_ob (f:=(eI .i64)) (s:=1) a (fun _=>rfl)).2.1 (.cons (sub_ob (f:=(eI .i64)) (s:=1) a (fun _=>rfl)).2.2.1 (.cons (sub_ob (f:=(eI .i64)) (s:=1) a (fun _=>rfl)).2.2.2.1 (.cons (sub_ob (f:=(eI .i64)) (s:=1) a (fun _=>rfl)).2.2.2.2 .nil)))))) q
 ·rw [if_neg c] at h
  cases h
  exact pkk_sound TTok mix hF 2 (hs:=[.t false]) (ts:=[]) (s:=[0,1]) (l:=[1,3,5,7,15,17]) (by kernel_rfl) (by kernel_rfl) (.cons (vf c) .nil) q
/- ringhall/ringref5.LastOf -/
def KZ (n:Nat) (e:Gg) (b:(List (Fin 2→Int))) (c:Gc) (f:(List Int)) (g:ByteArray):Option ((List Int)×ByteArray×Int) :=
 (SD n b c f g).bind fun (h:(Int)) =>
 if h=0 then
  (Gv n g).bind fun (a:(Bool×(List ByteArray)×Int)) =>
  (Sl n b f a e c).bind fun j=>match j with
  | .x0 k =>
   if k=true then
    some (([]:(List Int)),(ByteArray.mk #[]),3)
   else
    (Kf n b f a e c).bind fun l=>match l with
    | .x0 m =>
     (sub a.2.1 0 (wi .i64 ((a.2.1.length:Int)-1))).bind fun (o:(List ByteArray)) =>
     (Gi n (Gn.mk e b c true) m o 0).bind fun (d:((List Int)×Int)) =>
     if d.2=0 then
      (getI d.1 (wi .i64 ((d.1.length:Int)-1))).bind fun (p:Int) =>
      (So n (Gn.mk e b c true) p).bind fun (i:(Int)) =>
      if i=0 then
       (getI a.2.1 (wi .i64 ((a.2.1.length:Int)-1))).bind fun (q:ByteArray) =>
       some (d.1,q,0)
      else
       some (([]:(List Int)),(ByteArray.mk #[]),i)
     else
      some (([]:(List Int)),(ByteArray.mk #[]),d.2)
 else
  some (([]:(List Int)),(ByteArray.mk #[]),h)
theorem UL (n:Nat) (i:Gg) (b:(List (Fin 2→Int))) (e:Gc) (k:(List Int)) (p:ByteArray) (r:(List Int)×ByteArray×Int) (h:KZ n i b e k p=some r):Ret Tryd.prog 7 [Gb i,(eL (fun x=>PV.agg [.v (.int .i64 (x 0)),.v (.int .i64 (x 1))])) b,G0 e,(eL (eI .i64)) k,eS p] (.tup [(eL (eI .i64)) r.1,eS r.2.1,(eI .i64) r.2.2]):=by
 refine ret_run (n:=88) (fn:=Tryd.f7) (c:=bodyOf Tryd.f7) (by kernel_rfl) (by kernel_rfl) (by kernel_rfl) (by kernel_rfl) ?_
 have hF:KC 88 (FinR Tryd.prog Tryd.f7 (.tup [(eL (eI .i64)) r.1,eS r.2.1,(eI .i64) r.2.2])):=FinR.kc' (by kernel_rfl)
 unfold KZ at h
 obtain ⟨a2,a6,h⟩:=bind_some h
 by_cases q:a2=0
 ·rw [if_pos q] at h
  obtain ⟨j,a9,h⟩:=bind_some h
  obtain ⟨b0,b1,h⟩:=bind_some h
  refine pkk_sound TTok mix hF 15 (hs:=[.c,.r ((eI .i64) a2),.t false,.r (.tup [eB j.1,(eL eS) j.2.1,(eI .i64) j.2.2]),.u (di (j.2.1.length:Int))]) (ts:=[]) (s:=[0,5]) (l:=[1,3,5,7,14,15,17]) (by kernel_rfl) (by kernel_rfl) (.cons (Kd n b e k p _ a6) (.cons (nf q) (.cons (Sd n p _ a9) (.cons (len_ob (f:=eS) (l:=j.2.1)) .nil)))) (Uc hF (.s (cR (cL (cR (cR (cR (cR (bodyOf Tryd.f7)))))))::.s (cR (cR (cR (cR (cR (bodyOf Tryd.f7))))))::[]) n b k j i e _ b1 ?_)
  cases b0 with
  | x0 b2 =>
   try dsimp only at h
   by_cases z:b2=true
   ·rw [if_pos z] at h
    obtain rfl:=Option.some.inj h
    exact pend_sound TTok mix 5 (hs:=[.t true]) (by kernel_rfl) (by kernel_rfl) (by kernel_rfl) (.cons z .nil)
   ·rw [if_neg z] at h
    obtain ⟨b3,b4,h⟩:=bind_some h
    refine pkk_sound TTok mix hF 5 (hs:=[.t false]) (ts:=[]) (s:=[0,1]) (l:=[1,3,5,7,15,17,54]) (by kernel_rfl) (by kernel_rfl) (.cons (vf z) .nil) (Ug hF (.s (cR (cR (cR (cR (cR (cR (bodyOf Tryd.f7)))))))::[]) n b k j i e _ b4 ?_)
    cases b3 with
    | x0 a3 =>
     try dsimp only at h
     obtain ⟨m,a,h⟩:=bind_some h
     obtain ⟨g,a4,h⟩:=bind_some h
     by_cases o:g.2=0
     ·rw [if_pos o] at h
      obtain ⟨a0,a7,h⟩:=bind_some h
      obtain ⟨a5,a8,h⟩:=bind_some h
      by_cases a1:a5=0
      ·rw [if_pos a1] at h
       obtain ⟨b5,b6,h⟩:=bind_some h
       obtain rfl:=Option.some.inj h
       exact pend_sound TTok mix 17 (hs:=[.c,.c,.c,.c,.w (m.map eS),.r (.tup [(eL (eI .i64)) g.1,(eI .i64) g.2]),.t true,.c,.u (di (g.1.length:Int)),.y ((eI .i64) a0),.c,.r ((eI .i64) a5),.t false,.y (eS b5),.c]) (by kernel_rfl) (by kernel_rfl) (by kernel_rfl) (.cons (show 0+9≤9 by decide) (.cons (sub_ob (f:=eS) (s:=1) a (fun _=>rfl)).1 (.cons (sub_ob (f:=eS) (s:=1) a (fun _=>rfl)).2.1 (.cons (sub_ob (f:=eS) (s:=1) a (fun _=>rfl)).2.2.1 (.cons (sub_ob (f:=eS) (s:=1) a (fun _=>rfl)).2.2.2.1 (.cons (sub_ob (f:=eS) (s:=1) a (fun _=>rfl)).2.2.2.2 (.cons (GJ n (Gn.mk i b e true) a3 m 0 _ a4) (.cons (bt o) (.cons (len_ob (f:=(eI .i64)) (l:=g.1)) (.cons (getI_ob (f:=(eI .i64)) a7) (.cons (GH n (Gn.mk i b e true) a0 _ a8) (.cons (nf a1) (.cons (getI_ob (f:=eS) b6) .nil)))))))))))))
      ·rw [if_neg a1] at h
       obtain rfl:=Option.some.inj h
       exact pend_sound TTok mix 17 (hs:=[.c,.c,.c,.c,.w (m.map eS),.r (.tup [(eL (eI .i64)) g.1,(eI .i64) g.2]),.t true,.c,.u (di (g.1.length:Int)),.y ((eI .i64) a0),.c,.r ((eI .i64) a5),.t true]) (by kernel_rfl) (by kernel_rfl) (by kernel_rfl) (.cons (show 0+9≤9 by decide) (.cons (sub_ob (f:=eS) (s:=1) a (fun _=>rfl)).1 (.cons (sub_ob (f:=eS) (s:=1) a (fun _=>rfl)).2.1 (.cons (sub_ob (f:=eS) (s:=1) a (fun _=>rfl)).2.2.1 (.cons (sub_ob (f:=eS) (s:=1) a (fun _=>rfl)).2.2.2.1 (.cons (sub_ob (f:=eS) (s:=1) a (fun _=>rfl)).2.2.2.2 (.cons (GJ n (Gn.mk i b e true) a3 m 0 _ a4) (.cons (bt o) (.cons (len_ob (f:=(eI .i64)) (l:=g.1)) (.cons (getI_ob (f:=(eI .i64)) a7) (.cons (GH n (Gn.mk i b e true) a0 _ a8) (.cons (nt a1) .nil))))))))))))
     ·rw [if_neg o] at h
      obtain rfl:=Option.some.inj h
      exact pend_sound TTok mix 17 (hs:=[.c,.c,.c,.c,.w (m.map eS),.r (.tup [(eL (eI .i64)) g.1,(eI .i64) g.2]),.t false,.t true]) (by kernel_rfl) (by kernel_rfl) (by kernel_rfl) (.cons (show 0+9≤9 by decide) (.cons (sub_ob (f:=eS) (s:=1) a (fun _=>rfl)).1 (.cons (sub_ob (f:=eS) (s:=1) a (fun _=>rfl)).2.1 (.cons (sub_ob (f:=eS) (s:=1) a (fun _=>rfl)).2.2.1 (.cons (sub_ob (f:=eS) (s:=1) a (fun _=>rfl)).2.2.2.1 (.cons (sub_ob (f:=eS) (s:=1) a (fun _=>rfl)).2.2.2.2 (.cons (GJ n (Gn.mk i b e true) a3 m 0 _ a4) (.cons (bf o) (.cons (nt o) .nil)))))))))
 ·rw [if_neg q] at h
  obtain rfl:=Option.some.inj h
  exact pend_sound TTok mix 12 (hs:=[.c,.r ((eI .i64) a2),.t true]) (by kernel_rfl) (by kernel_rfl) (by kernel_rfl) (.cons (Kd n b e k p _ a6) (.cons (nt q) .nil))
inductive SG where
 | x0 (a:Bool)
 | x1 
def YH:SG→Ex
 | .x0 _=>.ret
 | .x1  => .exit 0
def YI (b c:(List Int)):SG→PS
 | .x0 a=>⟨(dd::dd::dd::dd::.d (.v (.bool a))::(dds 21 [])),[]⟩
 | .x1  => ⟨(dds 26 []),[]⟩
def YJ (a b:(List Int)) (c:Int):PS:=⟨(.d (.sl (a.map (eI .i64)))::.d (.sl (b.map (eI .i64)))::(dds 10 (di (a.length:Int)::di c::(dds 12 [])))),[]⟩
def GI (n:Nat) (b c:(List Int)):Nat→Int→Option SG
 | 0,_=>none
 | k+1,a =>
  if a<(b.length:Int) then
   (getI b a).bind fun (d:Int) =>
   (getI c a).bind fun (e:Int) =>
   if d=e then
    GI n b c k (wi .i64 (a+1))
   else
    some (.x0 false)
  else
   some (.x1 )
theorem ZF {Fi:Ex→PS→Prop} (hF:KC 26 Fi) (ks:List Fr) (n:Nat) (b e:(List Int))  : ∀ (k:Nat) (a:Int) (o:SG),GI n b e k a=some o→RunE Tryd.prog 26 Fi ks (YH o) (YI b e o)→RunE Tryd.prog 26 Fi (.l k (cP (cB (cR (cL (cR (cR (bodyOf Tryd.f8)))))))::ks) .normal (YJ b e a)
 | 0,a,o,h,q=>by rw [GI] at h; cases h
 | k+1,a,o,h,q=>by
  rw [GI] at h
  by_cases d:a<(b.length:Int)
  ·rw [if_pos d] at h
   obtain ⟨i,m,h⟩:=bind_some h
   obtain ⟨j,p,h⟩:=bind_some h
   by_cases g:i=j
   ·rw [if_pos g] at h
    exact pkk_sound TTok mix hF 16 (hs:=[.t true,.y ((eI .i64) i),.c,.y ((eI .i64) j),.c,.t false]) (ts:=[]) (s:=[]) (l:=[0,1,12,13]) (by kernel_rfl) (by kernel_rfl) (.cons (dt d) (.cons (getI_ob (f:=(eI .i64)) m) (.cons (getI_ob (f:=(eI .i64)) p) (.cons (nf g) .nil)))) (ZF hF ks n b e k (wi .i64 (a+1)) _ h q)
   ·rw [if_neg g] at h
    cases h
    exact pkk_sound TTok mix hF 19 (hs:=[.t true,.y ((eI .i64) i),.c,.y ((eI .i64) j),.c,.t true]) (ts:=[]) (s:=[]) (l:=[4]) (by kernel_rfl) (by kernel_rfl) (.cons (dt d) (.cons (getI_ob (f:=(eI .i64)) m) (.cons (getI_ob (f:=(eI .i64)) p) (.cons (nt g) .nil)))) q
  ·rw [if_neg d] at h
   cases h
   exact pkk_sound TTok mix hF 8 (hs:=[.t false]) (ts:=[]) (s:=[]) (l:=[]) (by kernel_rfl) (by kernel_rfl) (.cons (df d) .nil) q
/- slices.Equal[[]int,int] -/
def Sp (n:Nat) (a b:(List Int)):Option (Bool) :=
 if (a.length:Int)=(b.length:Int) then
  (GI n a b n 0).bind fun c=>match c with
  | .x0 d =>
   some d
  | .x1  =>
   some true
 else
  some false
theorem G6 (n:Nat) (a e:(List Int)) (r:Bool) (h:Sp n a e=some r):Ret Tryd.prog 8 [(eL (eI .i64)) a,(eL (eI .i64)) e] (eB r):=by
 refine ret_run (n:=26) (fn:=Tryd.f8) (c:=bodyOf Tryd.f8) (by kernel_rfl) (by kernel_rfl) (by kernel_rfl) (by kernel_rfl) ?_
 have hF:KC 26 (FinR Tryd.prog Tryd.f8 (eB r)):=FinR.kc' (by kernel_rfl)
 unfold Sp at h
 by_cases g:(a.length:Int)=(e.length:Int)
 ·rw [if_pos g] at h
  obtain ⟨i,j,h⟩:=bind_some h
  refine pkk_sound TTok mix hF 12 (hs:=[.u (di (a.length:Int)),.u (di (e.length:Int)),.t false,.u (di (a.length:Int)),.n n]) (ts:=[]) (s:=[]) (l:=[0,1,12,13]) (by kernel_rfl) (by kernel_rfl) (.cons (len_ob (f:=(eI .i64)) (l:=a)) (.cons (len_ob (f:=(eI .i64)) (l:=e)) (.cons (nf g) (.cons (len_ob (f:=(eI .i64)) (l:=a)) .nil)))) (ZF hF (.b 0::.s (cR (cR (cR (bodyOf Tryd.f8))))::[]) n a e n 0 _ j ?_)
  cases i with
  | x0 k =>
   try dsimp only at h
   obtain rfl:=Option.some.inj h
   exact pend_sound TTok mix 2 (hs:=[]) (by kernel_rfl) (by kernel_rfl) (by kernel_rfl) .nil
  | x1  =>
   try dsimp only at h
   obtain rfl:=Option.some.inj h
   exact pend_sound TTok mix 4 (hs:=[]) (by kernel_rfl) (by kernel_rfl) (by kernel_rfl) .nil
 ·rw [if_neg g] at h
  obtain rfl:=Option.some.inj h
  exact pend_sound TTok mix 10 (hs:=[.u (di (a.length:Int)),.u (di (e.length:Int)),.t true]) (by kernel_rfl) (by kernel_rfl) (by kernel_rfl) (.cons (len_ob (f:=(eI .i64)) (l:=a)) (.cons (len_ob (f:=(eI .i64)) (l:=e)) (.cons (nt g) .nil)))
inductive SV where
 | x0 (a:(List Gd))
def Xe:SV→Ex
 | .x0 _=>.exit 0
def Xf (b:(List (Fin 2→Int))) (c:(List Int)) (e:ByteArray) (f:Bool) (g:Gg) (a:Gc):SV→PS
 | .x0 h=>⟨(dd::.d (.sl (b.map (fun x=>PV.agg [.v (.int .i64 (x 0)),.v (.int .i64 (x 1))])))::dd::.d (.sl (c.map (eI .i64)))::.d (.v (.string e))::.d (.v (.bool f))::.ref 0 0::dd::.ref 1 0::dd::dd::dd::dd::.srf 2::(dds 92 [])),[.box [.d (.sl (g.fNodes.map Gf))],.box [di a.fUser,di a.fGroup,.d (.sl (a.fMore.map (eI .i64))),di a.fCaps,di a.fLevel,di a.fKind],.row 32 2 (h.map Ga)]⟩
def Xg (b:(List (Fin 2→Int))) (c:(List Int)) (e:ByteArray) (f:Bool) (g:Gg) (a:Gc) (h:Int) (i:(List Gd)):PS:=⟨(dd::.d (.sl (b.map (fun x=>PV.agg [.v (.int .i64 (x 0)),.v (.int .i64 (x 1))])))::dd::.d (.sl (c.map (eI .i64)))::.d (.v (.string e))::.d (.v (.bool f))::.ref 0 0::dd::.ref 1 0::dd::dd::dd::dd::.srf 2::(dds 12 (.d (.sl (b.map (fun x=>PV.agg [.v (.int .i64 (x 0)),.v (.int .i64 (x 1))])))::di (b.length:Int)::di h::(dds 77 [])))),[.box [.d (.sl (g.fNodes.map Gf))],.box [di a.fUser,di a.fGroup,.d (.sl (a.fMore.map (eI .i64))),di a.fCaps,di a.fLevel,di a.fKind],.row 32 2 (i.map Ga)]⟩
def GM (n:Nat) (a:(List (Fin 2→Int))) (e:(List Int)) (f:ByteArray) (g:Bool) (h:Gg) (i:Gc):Nat→Int→(List Gd)→Option SV
 | 0,_,_=>none
 | k+1,b,c =>
  if b<(a.length:Int) then
   (getI a b).bind fun (d:(Fin 2→Int)) =>
   (app 16 c ([(Gd.mk (d 0) (d 1))])).bind fun (j:(List Gd)) =>
   GM n a e f g h i k (wi .i64 (b+1)) j
  else
   some (.x0 c)
theorem ZL {Fi:Ex→PS→Prop} (hF:KC 106 Fi) (ks:List Fr) (n:Nat) (b:(List (Fin 2→Int))) (d:(List Int)) (e:ByteArray) (g:Bool) (i:Gg) (j:Gc)  : ∀ (k:Nat) (a:Int) (m:(List Gd)) (o:SV),GM n b d e g i j k a m=some o→RunE Tryd.prog 106 Fi ks (Xe o) (Xf b d e g i j o)→RunE Tryd.prog 106 Fi (.l k (cP (cB (cR (cL (cR (cR (bodyOf Tryd.f3)))))))::ks) .normal (Xg b d e g i j a m)
 | 0,a,m,o,h,q=>by rw [GM] at h; cases h
 | k+1,a,m,o,h,q=>by
  rw [GM] at h
  by_cases p:a<(b.length:Int)
  ·rw [if_pos p] at h
   obtain ⟨z,a0,h⟩:=bind_some h
   obtain ⟨u,r,h⟩:=bind_some h
   exact pkk_sound TTok mix hF 13 (hs:=[.t true,.y ((fun x=>PV.agg [.v (.int .i64 (x 0)),.v (.int .i64 (x 1))]) z),.c,.c,.c,.bd,.w (u.map Ga)]) (ts:=[]) (s:=[0,1,63]) (l:=[1,3,4,5,6,8,13,26,27,28]) (by kernel_rfl) (by kernel_rfl) (.cons (dt p) (.cons (getI_ob (f:=(fun x=>PV.agg [.v (.int .i64 (x 0)),.v (.int .i64 (x 1))])) a0) (.cons (show 0+2≤2 by decide) (.cons (show (0:Int)≤0∧(0:Int)<2 by decide) (.cons (show (0:Int)≤1∧(1:Int)<2 by decide) (.cons (app_ob (f:=Ga) (s:=2) r (fun _=>rfl)).1 (.cons (app_ob (f:=Ga) (s:=2) r (fun _=>rfl)).2.1 (.cons (app_ob (f:=Ga) (s:=2) r (fun _=>rfl)).2.2.1 (.cons (app_ob (f:=Ga) (s:=2) r (fun _=>rfl)).2.2.2 .nil))))))))) (ZL hF ks n b d e g i j k (wi .i64 (a+1)) u _ h q)
  ·rw [if_neg p] at h
   cases h
   exact pkk_sound TTok mix hF 8 (hs:=[.t false]) (ts:=[]) (s:=[0,1,2]) (l:=[1,3,4,5,6,8,13]) (by kernel_rfl) (by kernel_rfl) (.cons (df p) .nil) q
inductive SW where
 | x0 (a:Bool)
def Xh:SW→Ex
 | .x0 _=>.normal
def Xi (b:((List Int)×Int)) (c:((List Int)×ByteArray×Int)) (e:((List Int)×Int)) (f:((List Int)×ByteArray×Int)):SW→PS
 | .x0 a=>⟨(dds 12 (.d (.v (.bool a))::(dds 93 []))),[]⟩
def Xj (c:((List Int)×Int)) (a:((List Int)×ByteArray×Int)) (e:((List Int)×Int)) (b:((List Int)×ByteArray×Int))  : PS:=⟨(dds 16 (.d (.sl (c.1.map (eI .i64)))::di c.2::.d (.sl (a.1.map (eI .i64)))::.d (.v (.string a.2.1))::di a.2.2::.d (.sl (e.1.map (eI .i64)))::di e.2::.d (.sl (b.1.map (eI .i64)))::.d (.v (.string b.2.1))::di b.2.2::(dds 80 []))),[]⟩
def Kr (n:Nat) (c:((List Int)×Int)) (a:((List Int)×ByteArray×Int)) (d:((List Int)×Int)) (b:((List Int)×ByteArray×Int)):Option SW :=
 if c.2=d.2 then
  (Sp n c.1 d.1).bind fun (e:(Bool)) =>
  if e=true then
   if a.2.2=b.2.2 then
    (Sp n a.1 b.1).bind fun (f:(Bool)) =>
    if f=true then
     some (.x0 (a.2.1.toList == b.2.1.toList))
    else
     some (.x0 false)
   else
    some (.x0 false)
  else
   some (.x0 false)
 else
  some (.x0 false)
theorem Xk {Fi:Ex→PS→Prop} (hF:KC 106 Fi) (ks:List Fr) (n:Nat) (a:((List Int)×Int)) (e:((List Int)×ByteArray×Int)) (b:((List Int)×Int)) (f:((List Int)×ByteArray×Int))  (o:SW) (h:Kr n a e b f=some o) (q:RunE Tryd.prog 106 Fi ks (Xh o) (Xi a e b f o)):RunE Tryd.prog 106 Fi (.s (cL (cR (cR (cR (cR (cR (cR (cR (bodyOf Tryd.f3)))))))))::ks) .normal (Xj a e b f):=by
 unfold Kr at h
 by_cases d:a.2=b.2
 ·rw [if_pos d] at h
  obtain ⟨i,k,h⟩:=bind_some h
  by_cases g:i=true
  ·rw [if_pos g] at h
   by_cases j:e.2.2=f.2.2
   ·rw [if_pos j] at h
    obtain ⟨p,u,h⟩:=bind_some h
    by_cases m:p=true
    ·rw [if_pos m] at h
     cases h
     exact pkk_sound TTok mix hF 1 (hs:=[.t true,.c,.c,.r (eB i),.t true,.c,.c,.t true,.c,.c,.r (eB p),.t true,.c,.c]) (ts:=[]) (s:=[]) (l:=[12]) (by kernel_rfl) (by kernel_rfl) (.cons (bt d) (.cons (G6 n a.1 b.1 _ k) (.cons g (.cons (bt j) (.cons (G6 n e.1 f.1 _ u) (.cons m .nil)))))) q
    ·rw [if_neg m] at h
     cases h
     exact pkk_sound TTok mix hF 1 (hs:=[.t true,.c,.c,.r (eB i),.t true,.c,.c,.t true,.c,.c,.r (eB p),.t false,.c,.c]) (ts:=[]) (s:=[]) (l:=[12]) (by kernel_rfl) (by kernel_rfl) (.cons (bt d) (.cons (G6 n a.1 b.1 _ k) (.cons g (.cons (bt j) (.cons (G6 n e.1 f.1 _ u) (.cons (vf m) .nil)))))) q
   ·rw [if_neg j] at h
    cases h
    exact pkk_sound TTok mix hF 1 (hs:=[.t true,.c,.c,.r (eB i),.t true,.c,.c,.t false,.c,.c,.c,.c,.c]) (ts:=[]) (s:=[]) (l:=[12]) (by kernel_rfl) (by kernel_rfl) (.cons (bt d) (.cons (G6 n a.1 b.1 _ k) (.cons g (.cons (bf j) .nil)))) q
  ·rw [if_neg g] at h
   cases h
   exact pkk_sound TTok mix hF 1 (hs:=[.t true,.c,.c,.r (eB i),.t false,.c,.c,.c,.c,.c,.c,.c,.c]) (ts:=[]) (s:=[]) (l:=[12]) (by kernel_rfl) (by kernel_rfl) (.cons (bt d) (.cons (G6 n a.1 b.1 _ k) (.cons (vf g) .nil))) q
 ·rw [if_neg d] at h
  cases h
  exact pkk_sound TTok mix hF 1 (hs:=[.t false,.c,.c,.c,.c,.c,.c,.c,.c,.c,.c,.c]) (ts:=[]) (s:=[]) (l:=[12]) (by kernel_rfl) (by kernel_rfl) (.cons (bf d) .nil) q
/- ringhall/ringlaw5.PathWalks -/
def Kg (n:Nat) (a:Gg) (e:(List (Fin 2→Int))) (b:Gc) (c:(List Int)) (d:ByteArray) (f:Bool):Option (Bool) :=
 (GM n e c d f a b n 0 ([]:List Gd)).bind fun h=>match h with
 | .x0 g =>
  (Yk n a g b c d f).bind fun (i:((List Int)×Int)) =>
  (Yl n a g b c d).bind fun (j:((List Int)×ByteArray×Int)) =>
  (KY n a e b c d f).bind fun (k:((List Int)×Int)) =>
  (KZ n a e b c d).bind fun (l:((List Int)×ByteArray×Int)) =>
  (Kr n i j k l).bind fun m=>match m with
  | .x0 o =>
   some o
theorem Uh (n:Nat) (a:Gg) (g:(List (Fin 2→Int))) (i:Gc) (j:(List Int)) (k:ByteArray) (m r:Bool) (h:Kg n a g i j k m=some r):Ret Tryd.prog 3 [Gb a,(eL (fun x=>PV.agg [.v (.int .i64 (x 0)),.v (.int .i64 (x 1))])) g,G0 i,(eL (eI .i64)) j,eS k,eB m] (eB r):=by
 refine ret_run (n:=106) (fn:=Tryd.f3) (c:=bodyOf Tryd.f3) (by kernel_rfl) (by kernel_rfl) (by kernel_rfl) (by kernel_rfl) ?_
 have hF:KC 106 (FinR Tryd.prog Tryd.f3 (eB r)):=FinR.kc' (by kernel_rfl)
 unfold Kg at h
 obtain ⟨a0,a1,h⟩:=bind_some h
 refine pkk_sound TTok mix hF 9 (hs:=[.u (di (g.length:Int)),.n n]) (ts:=[(13,32,2)]) (s:=[0,5,35]) (l:=[1,3,4,5,6,8,13,26,27,28]) (by kernel_rfl) (by kernel_rfl) (.cons (len_ob (f:=(fun x=>PV.agg [.v (.int .i64 (x 0)),.v (.int .i64 (x 1))])) (l:=g)) .nil) (ZL hF (.b 0::.s (cR (cR (cR (bodyOf Tryd.f3))))::[]) n g j k m a i n 0 ([]:List Gd) _ a1 ?_)
 cases a0 with
 | x0 z =>
  try dsimp only at h
  obtain ⟨q,a2,h⟩:=bind_some h
  obtain ⟨o,a3,h⟩:=bind_some h
  obtain ⟨w,a4,h⟩:=bind_some h
  obtain ⟨p,a5,h⟩:=bind_some h
  obtain ⟨a6,a7,h⟩:=bind_some h
  refine pkk_sound TTok mix hF 11 (hs:=[.dl 2,.fz 2,.c,.e 8 [] (.d (.ifc 24 (Gb a))) [],.c,.r (.tup [(eL (eI .i64)) q.1,(eI .i64) q.2]),.c,.e 73 [] (.d (.ifc 24 (Gb a))) [],.c,.r (.tup [(eL (eI .i64)) o.1,eS o.2.1,(eI .i64) o.2.2]),.c,.c,.r (.tup [(eL (eI .i64)) w.1,(eI .i64) w.2]),.c,.c,.r (.tup [(eL (eI .i64)) p.1,eS p.2.1,(eI .i64) p.2.2])]) (ts:=[]) (s:=[]) (l:=[16,17,18,19,20,21,22,23,24,25]) (by kernel_rfl) (by kernel_rfl) (.cons (ymkD (P:=Tryd.prog) (T:=TT) (t:=24) (x:=(.tmp 42)) (y:=.agg [.sl (a.fNodes.map Gf)]) (by kernel_rfl)) (.cons (Vv n a z i j k m _ a2) (.cons (ymkD (P:=Tryd.prog) (T:=TT) (t:=24) (x:=(.tmp 53)) (y:=.agg [.sl (a.fNodes.map Gf)]) (by kernel_rfl)) (.cons (Vw n a z i j k _ a3) (.cons (UK n a g i j k m _ a4) (.cons (UL n a g i j k _ a5) .nil)))))) (Xk hF (.s (cR (cR (cR (cR (cR (cR (cR (cR (bodyOf Tryd.f3)))))))))::[]) n q o w p _ a7 ?_)
  cases a6 with
  | x0 a8 =>
   try dsimp only at h
   obtain rfl:=Option.some.inj h
   exact pend_sound TTok mix 1 (hs:=[]) (by kernel_rfl) (by kernel_rfl) (by kernel_rfl) .nil
def okA {n:Nat} {α:Type} (ok:α→Prop) (A:Fin n→α):Prop:=∀ i,ok (A i)
theorem br_congr {α:Type} {s:rep.Sh} {g g':α→List PV} {ok:α→Prop} (h:Br s g ok) (h':∀ a,g' a=g a):Br s g' ok:=by
 intro w x cs hr
 obtain ⟨a,o,q⟩:=h w x cs hr
 exact ⟨a,o,by rw [h' a]; exact q⟩
theorem RL_flat {α:Type} {w:World} {s:Nat} {g:α→List PV}:∀ (l:List α) (cs:List Value),cs.length=l.length*s→(∀ i (hi:i<l.length),RL (fun _=>false) w (g l[i]) ((cs.drop (i*s)).take s))→RL (fun _=>false) w (l.flatMap g) cs
 | [],cs,h,_=>by
  have:cs=[]:=by simpa using h
  subst this
  simp [RL]
 | a::l,cs,h,hp=>by
  have b:=hp 0 (by simp)
  simp only [Nat.zero_mul,List.drop_zero,List.getElem_cons_zero] at b
  have c:=RL_flat (w:=w) (s:=s) (g:=g) l (cs.drop s) (by rw [List.length_drop,h,List.length_cons,Nat.succ_mul]; omega) (fun i hi=>by
   have:=hp (i+1) (by simpa using hi)
   rw [List.getElem_cons_succ,Nat.succ_mul] at this
   rw [List.drop_drop]
   rwa [Nat.add_comm s (i*s)])
  rw [List.flatMap_cons,← List.take_append_drop s cs]
  exact b.append c
theorem br_arr {n:Nat} {α:Type} {e:rep.Sh} {g:α→List PV} {ok:α→Prop} (h:Br e g ok):Br (.arr n e) (fun A:Fin n→α=>(List.ofFn A).flatMap g) (okA ok):=by
 intro w xs cs hr
 obtain ⟨b,c,d⟩:=hr
 have hx:∀ i,i<n→∃ a:α,ok a∧RL (fun _=>false) w (g a) ((cs.drop (i*e.size)).take e.size):=fun i hi=>h w _ _ (d i (by rw [b]; exact hi))
 obtain ⟨l,hl,hp⟩:=rep.exists_list n _ hx
 subst hl
 refine ⟨fun i=>l[i.val],fun i=>(hp i.val i.isLt).1,?_⟩
 have e1:List.ofFn (fun i:Fin l.length=>l[i.val])=l:=List.ofFn_getElem
 show RL (fun _=>false) w ((List.ofFn (fun i:Fin l.length=>l[i.val])).flatMap g) cs
 rw [e1]
 exact RL_flat l cs c (fun i hi=>(hp i hi).2)
def Vf (x:Gh):Prop:=(fun a=>(Lit.int .i64 a).wf=true) x.fKind∧(fun a=>(Lit.int .i64 a).wf=true) x.fMode∧(fun a=>(Lit.int .i64 a).wf=true) x.fUser∧(fun a=>(Lit.int .i64 a).wf=true) x.fGroup∧(fun a=>(Lit.int .i64 a).wf=true) x.fSize∧(fun a=>(Lit.int .i64 a).wf=true) x.fLinks∧True
theorem Vy:Br (.pair (.int .i64) (.pair (.int .i64) (.pair (.int .i64) (.pair (.int .i64) (.pair (.int .i64) (.pair (.int .i64) .unit)))))) (fun x:Gh=>[.v (.int .i64 x.fKind),.v (.int .i64 x.fMode),.v (.int .i64 x.fUser),.v (.int .i64 x.fGroup),.v (.int .i64 x.fSize),.v (.int .i64 x.fLinks)]) Vf:=br_map (br_pair (br_int .i64) (br_pair (br_int .i64) (br_pair (br_int .i64) (br_pair (br_int .i64) (br_pair (br_int .i64) (br_pair (br_int .i64) br_unit)))))) (fun p=>Gh.mk p.1 p.2.1 p.2.2.1 p.2.2.2.1 p.2.2.2.2.1 p.2.2.2.2.2.1) (fun p h=>⟨rfl,h⟩)
def Xl (x:Zp):Prop:=(fun a=>ByteArray.size a≤140737488351232) x.fName∧(fun a=>(Lit.int .i64 a).wf=true) x.fIno∧True
theorem Vx:Br (.pair .str (.pair (.int .i64) .unit)) (fun x:Zp=>[.v (.string x.fName),.v (.int .i64 x.fIno)]) Xl:=br_map (br_pair br_str (br_pair (br_int .i64) br_unit)) (fun p=>Zp.mk p.1 p.2.1) (fun p h=>⟨rfl,h⟩)
def Zz (x:Gk):Prop:=Vf x.fStat∧(okL 24 Xl) x.fNames∧(fun a=>ByteArray.size a≤140737488351232) x.fTell∧True
theorem Vq:Br (.pair (.pair (.int .i64) (.pair (.int .i64) (.pair (.int .i64) (.pair (.int .i64) (.pair (.int .i64) (.pair (.int .i64) .unit)))))) (.pair (.slice 24 (.pair .str (.pair (.int .i64) .unit))) (.pair .str .unit))) (fun x:Gk=>[.v (.int .i64 x.fStat.fKind),.v (.int .i64 x.fStat.fMode),.v (.int .i64 x.fStat.fUser),.v (.int .i64 x.fStat.fGroup),.v (.int .i64 x.fStat.fSize),.v (.int .i64 x.fStat.fLinks),.sl (x.fNames.map GE),.v (.string x.fTell)]) Zz:=br_map (br_pair Vy (br_pair (br_slice (f:=GE) (ok:=Xl) Vx (fun _=>rfl) (by decide)) (br_pair br_str br_unit))) (fun p=>Gk.mk p.1 p.2.1 p.2.2.1) (fun p h=>⟨rfl,h⟩)
def Ye (x:Gg):Prop:=(okL 88 Zz) x.fNodes∧True
theorem Vr:Br (.pair (.slice 88 (.pair (.pair (.int .i64) (.pair (.int .i64) (.pair (.int .i64) (.pair (.int .i64) (.pair (.int .i64) (.pair (.int .i64) .unit)))))) (.pair (.slice 24 (.pair .str (.pair (.int .i64) .unit))) (.pair .str .unit)))) .unit) (fun x:Gg=>[.sl (x.fNodes.map Gf)]) Ye:=br_map (br_pair (br_slice (f:=Gf) (ok:=Zz) Vq (fun _=>rfl) (by decide)) br_unit) (fun p=>Gg.mk p.1) (fun p h=>⟨rfl,h⟩)
def Vg (x:Gc):Prop:=(fun a=>(Lit.int .i64 a).wf=true) x.fUser∧(fun a=>(Lit.int .i64 a).wf=true) x.fGroup∧(okL 8 (fun a=>(Lit.int .i64 a).wf=true)) x.fMore∧(fun a=>(Lit.int .i64 a).wf=true) x.fCaps∧(fun a=>(Lit.int .i64 a).wf=true) x.fLevel∧(fun a=>(Lit.int .i64 a).wf=true) x.fKind∧True
theorem Vz:Br (.pair (.int .i64) (.pair (.int .i64) (.pair (.slice 8 (.int .i64)) (.pair (.int .i64) (.pair (.int .i64) (.pair (.int .i64) .unit)))))) (fun x:Gc=>[.v (.int .i64 x.fUser),.v (.int .i64 x.fGroup),.sl (x.fMore.map (eI .i64)),.v (.int .i64 x.fCaps),.v (.int .i64 x.fLevel),.v (.int .i64 x.fKind)]) Vg:=br_map (br_pair (br_int .i64) (br_pair (br_int .i64) (br_pair (br_slice (f:=(eI .i64)) (ok:=(fun a=>(Lit.int .i64 a).wf=true)) (br_int .i64) (fun _=>rfl) (by decide)) (br_pair (br_int .i64) (br_pair (br_int .i64) (br_pair (br_int .i64) br_unit)))))) (fun p=>Gc.mk p.1 p.2.1 p.2.2.1 p.2.2.2.1 p.2.2.2.2.1 p.2.2.2.2.2.1) (fun p h=>⟨rfl,h⟩)
theorem PathWalks_walk (H:∀ (a0:Gg) (a1:(List (Fin 2→Int))) (a2:Gc) (a3:(List Int)) (a4:ByteArray) (a5:Bool),Ye a0→(okL 16 (okA (n:=2) (fun a=>(Lit.int .i64 a).wf=true))) a1→Vg a2→(okL 8 (fun a=>(Lit.int .i64 a).wf=true)) a3→(fun a=>ByteArray.size a≤140737488351232) a4→(fun _=>True) a5→∃ n,Kg n a0 a1 a2 a3 a4 a5=some true) (w:World) (v0 v1 v2 v3 v4 v5:Value) (b:rep.Arg w (.pair (.slice 88 (.pair (.pair (.int .i64) (.pair (.int .i64) (.pair (.int .i64) (.pair (.int .i64) (.pair (.int .i64) (.pair (.int .i64) .unit)))))) (.pair (.slice 24 (.pair .str (.pair (.int .i64) .unit))) (.pair .str .unit)))) .unit) v0) (c:rep.Arg w (.slice 16 (.arr 2 (.int .i64))) v1) (d:rep.Arg w (.pair (.int .i64) (.pair (.int .i64) (.pair (.slice 8 (.int .i64)) (.pair (.int .i64) (.pair (.int .i64) (.pair (.int .i64) .unit)))))) v2) (e:rep.Arg w (.slice 8 (.int .i64)) v3) (h:rep.Arg w .str v4) (i:rep.Arg w .bool v5):Calls Tryd.prog 3 #[v0,v1,v2,v3,v4,v5] w (help.Ret (.bool true) w):=by
 obtain ⟨a0,o0,r0⟩:=arg_agg Vr (by rfl) b
 obtain ⟨a1,o1,r1⟩:=arg_one (br_slice (f:=(fun x=>PV.agg [.v (.int .i64 (x 0)),.v (.int .i64 (x 1))])) (ok:=(okA (n:=2) (fun a=>(Lit.int .i64 a).wf=true))) (br_congr (g':=fun x:(Fin 2→Int)=>[.v (.int .i64 (x 0)),.v (.int .i64 (x 1))]) (br_arr (n:=2) (g:=fun a:Int=>[.v (.int .i64 a)]) (ok:=(fun a=>(Lit.int .i64 a).wf=true)) (br_int .i64)) (fun x=>rfl)) (fun _=>rfl) (by decide)) (by rfl) c
 obtain ⟨a2,o2,r2⟩:=arg_agg Vz (by rfl) d
 obtain ⟨a3,o3,r3⟩:=arg_one (br_slice (f:=(eI .i64)) (ok:=(fun a=>(Lit.int .i64 a).wf=true)) (br_int .i64) (fun _=>rfl) (by decide)) (by rfl) e
 obtain ⟨a4,o4,r4⟩:=arg_one br_str (by rfl) h
 obtain ⟨a5,o5,r5⟩:=arg_one br_bool (by rfl) i
 obtain ⟨n,hn⟩:=H a0 a1 a2 a3 a4 a5 o0 o1 o2 o3 o4 o5
 exact walk_of (Uh n a0 a1 a2 a3 a4 a5 true hn) (RT_cons r0 (RT_cons r1 (RT_cons r2 (RT_cons r3 (RT_cons r4 (RT_cons r5 RT_nil))))))
/- FRAME PathWalks; ringhall/ringlaw5.PathWalks; (.pair (.slice 88 (.pair (.pair (.int .i64) (.pair (.int .i64) (.pair (.int .i64) (.pair (.int .i64) (.pair (.int .i64) (.pair (.int .i64) .unit)))))) (.pair (.slice 24 (.pair .str (.pair (.int .i64) .unit))) (.pair .str .unit)))) .unit) | (.slice 16 (.arr 2 (.int .i64))) | (.pair (.int .i64) (.pair (.int .i64) (.pair (.slice 8 (.int .i64)) (.pair (.int .i64) (.pair (.int .i64) (.pair (.int .i64) .unit)))))) | (.slice 8 (.int .i64)) | .str | .bool; .agg #[.slice none 0 0] | .slice none 0 0 | .agg #[.int .i64 0, .int .i64 0, .slice none 0 0, .int .i64 0, .int .i64 0, .int .i64 0] | .slice none 0 0 | .string ⟨#[]⟩ | .bool false -/
end Go.Proofs.YtocchemnfpnmeaaDoor.pv
