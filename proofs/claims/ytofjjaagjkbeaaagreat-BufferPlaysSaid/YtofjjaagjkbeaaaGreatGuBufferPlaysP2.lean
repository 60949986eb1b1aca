/- What the functions compute (part 2): written by gen.py. -/
import Derived.Test.YtofjjaagjkbeaaaGreatGuBufferPlaysP1
set_option maxRecDepth 100000
set_option linter.all false
namespace Go.Proofs.YtofjjaagjkbeaaaGreat.pv
open Go.RowKit
def Xg (e:(List Int)) (f g:Int):SQ→PS
 | .x0 a b=>⟨(dds 9 (.ref 0 0::dd::di a::(dds 45 []))),[.box [di b]]⟩
 | .x1 c=>⟨(dds 9 (.ref 0 0::dd::di c::(dds 45 []))),[.box [di 0]]⟩
def Xh (c:(List Int)) (b a:Int)  : PS:=⟨(.d (.sl (c.map (eI .i64)))::dd::dd::dd::dd::dd::dd::dd::di (wi .i64 (b-a))::.ref 0 0::di (wi .i64 (a+(wi .i64 ((quoI .i64 (wi .i64 (b-a)) 4)*1))))::di (wi .i64 (a+(wi .i64 ((quoI .i64 (wi .i64 (b-a)) 4)*2))))::di (wi .i64 (a+(wi .i64 ((quoI .i64 (wi .i64 (b-a)) 4)*3))))::(dds 19 (.d (.v (.bool (decide ((wi .i64 (b-a))≥8))))::(dds 24 [])))),[.box [di 0]]⟩
def Sw (n:Nat) (c:(List Int)) (b a:Int):Option SQ :=
 if (wi .i64 (b-a))≥8 then
  if (wi .i64 (b-a))≥50 then
   (GF n c (wi .i64 (a+(wi .i64 ((quoI .i64 (wi .i64 (b-a)) 4)*1)))) 0).bind fun (d:(Int×Int)) =>
   (GF n c (wi .i64 (a+(wi .i64 ((quoI .i64 (wi .i64 (b-a)) 4)*2)))) d.2).bind fun (e:(Int×Int)) =>
   (GF n c (wi .i64 (a+(wi .i64 ((quoI .i64 (wi .i64 (b-a)) 4)*3)))) e.2).bind fun (f:(Int×Int)) =>
   (Sg n c d.1 e.1 f.1 f.2).bind fun (g:(Int×Int)) =>
   some (.x0 g.1 g.2)
  else
   (Sg n c (wi .i64 (a+(wi .i64 ((quoI .i64 (wi .i64 (b-a)) 4)*1)))) (wi .i64 (a+(wi .i64 ((quoI .i64 (wi .i64 (b-a)) 4)*2)))) (wi .i64 (a+(wi .i64 ((quoI .i64 (wi .i64 (b-a)) 4)*3)))) 0).bind fun (h:(Int×Int)) =>
   some (.x0 h.1 h.2)
 else
  some (.x1 (wi .i64 (a+(wi .i64 ((quoI .i64 (wi .i64 (b-a)) 4)*2)))))
theorem Xi {Fi:Ex→PS→Prop} (hF:KC 57 Fi) (ks:List Fr) (n:Nat) (c:(List Int)) (b a:Int)  (o:SQ) (h:Sw n c b a=some o) (q:RunE Tryz.prog 57 Fi ks (Xf o) (Xg c b a o)):RunE Tryz.prog 57 Fi (.s (cR (cL (cR (cR (cR (cR (cR (cR (bodyOf Tryz.f76)))))))))::ks) .normal (Xh c b a):=by
 unfold Sw at h
 by_cases e:(wi .i64 (b-a))≥8
 ·rw [if_pos e] at h
  by_cases f:(wi .i64 (b-a))≥50
  ·rw [if_pos f] at h
   obtain ⟨g,p,h⟩:=bind_some h
   obtain ⟨i,r,h⟩:=bind_some h
   obtain ⟨j,u,h⟩:=bind_some h
   obtain ⟨k,w,h⟩:=bind_some h
   cases h
   exact pkk_sound TTok mix hF 11 (hs:=[.t true,.t true,.h [0] [] [.box [di g.2]] (di g.1),.h [0] [] [.box [di i.2]] (di i.1),.h [0] [] [.box [di j.2]] (di j.1),.h [0] [] [.box [di k.2]] (di k.1)]) (ts:=[]) (s:=[0]) (l:=[9,11]) (by kernel_rfl) (by kernel_rfl) (.cons (dt e) (.cons (dt f) (.cons (Kr n c (wi .i64 (a+(wi .i64 ((quoI .i64 (wi .i64 (b-a)) 4)*1)))) 0 _ p) (.cons (Kr n c (wi .i64 (a+(wi .i64 ((quoI .i64 (wi .i64 (b-a)) 4)*2)))) g.2 _ r) (.cons (Kr n c (wi .i64 (a+(wi .i64 ((quoI .i64 (wi .i64 (b-a)) 4)*3)))) i.2 _ u) (.cons (Zw n c g.1 i.1 j.1 j.2 _ w) .nil)))))) q
  ·rw [if_neg f] at h
   obtain ⟨m,x,h⟩:=bind_some h
   cases h
   exact pkk_sound TTok mix hF 7 (hs:=[.t true,.t false,.h [0] [] [.box [di m.2]] (di m.1)]) (ts:=[]) (s:=[0]) (l:=[9,11]) (by kernel_rfl) (by kernel_rfl) (.cons (dt e) (.cons (df f) (.cons (Zw n c (wi .i64 (a+(wi .i64 ((quoI .i64 (wi .i64 (b-a)) 4)*1)))) (wi .i64 (a+(wi .i64 ((quoI .i64 (wi .i64 (b-a)) 4)*2)))) (wi .i64 (a+(wi .i64 ((quoI .i64 (wi .i64 (b-a)) 4)*3)))) 0 _ x) .nil))) q
 ·rw [if_neg e] at h
  cases h
  exact pkk_sound TTok mix hF 2 (hs:=[.t false]) (ts:=[]) (s:=[0]) (l:=[9,11]) (by kernel_rfl) (by kernel_rfl) (.cons (df e) .nil) q
/- slices.choosePivotOrdered[int] -/
def SM (n:Nat) (c:(List Int)) (d e:Int):Option (Int×Int) :=
 (Sw n c e d).bind fun f=>match f with
 | .x0 a b =>
  if b=0 then
   some (a,1)
  else
   if b=12 then
    some (a,2)
   else
    some (a,0)
 | .x1 g =>
  some (g,1)
theorem Un (n:Nat) (d:(List Int)) (e f:Int) (r:Int×Int) (h:SM n d e f=some r):Ret Tryz.prog 76 [(eL (eI .i64)) d,(eI .i64) e,(eI .i64) f] (.tup [(eI .i64) r.1,(eI .i64) r.2]):=by
 refine ret_run (n:=57) (fn:=Tryz.f76) (c:=bodyOf Tryz.f76) (by kernel_rfl) (by kernel_rfl) (by kernel_rfl) (by kernel_rfl) ?_
 have hF:KC 57 (FinR Tryz.prog Tryz.f76 (.tup [(eI .i64) r.1,(eI .i64) r.2])):=FinR.kc' (by kernel_rfl)
 unfold SM at h
 obtain ⟨i,j,h⟩:=bind_some h
 refine pkk_sound TTok mix hF 15 (hs:=[]) (ts:=[]) (s:=[30]) (l:=[0,8,9,10,11,12,32]) (by kernel_rfl) (by kernel_rfl) (.cons (show (4:Int)≠0 by decide) (.cons (show (4:Int)≠0 by decide) (.cons (show (4:Int)≠0 by decide) .nil))) (Xi hF (.s (cR (cR (cR (cR (cR (cR (cR (bodyOf Tryz.f76))))))))::[]) n d f e _ j ?_)
 cases i with
 | x0 k g =>
  try dsimp only at h
  by_cases a:g=0
  ·rw [if_pos a] at h
   obtain rfl:=Option.some.inj h
   exact pend_sound TTok mix 10 (hs:=[.c,.t true]) (by kernel_rfl) (by kernel_rfl) (by kernel_rfl) (.cons (bt a) .nil)
  ·rw [if_neg a] at h
   by_cases b:g=12
   ·rw [if_pos b] at h
    obtain rfl:=Option.some.inj h
    exact pend_sound TTok mix 13 (hs:=[.c,.t false,.t true]) (by kernel_rfl) (by kernel_rfl) (by kernel_rfl) (.cons (bf a) (.cons (bt b) .nil))
   ·rw [if_neg b] at h
    obtain rfl:=Option.some.inj h
    exact pend_sound TTok mix 13 (hs:=[.c,.t false,.t false]) (by kernel_rfl) (by kernel_rfl) (by kernel_rfl) (.cons (bf a) (.cons (bf b) .nil))
 | x1 m =>
  try dsimp only at h
  obtain rfl:=Option.some.inj h
  exact pend_sound TTok mix 10 (hs:=[.c,.c]) (by kernel_rfl) (by kernel_rfl) (by kernel_rfl) .nil
inductive SG where
 | x0 (a:(List Int))
def Y6:SG→Ex
 | .x0 _=>.exit 0
def Y7  : SG→PS
 | .x0 a=>⟨(dds 32 []),[.gh 0 (.srf 1),.row 3 1 (a.map (eI .i64))]⟩
def Y8  (a b:Int) (c:(List Int)):PS:=⟨(.srf 1::dd::dd::dd::dd::dd::di a::di b::(dds 24 [])),[.gh 0 (.srf 1),.row 3 1 (c.map (eI .i64))]⟩
def GE (n:Nat)  : Nat→Int→Int→(List Int)→Option SG
 | 0,_,_,_=>none
 | k+1,a,c,b =>
  if a<c then
   if 0≤c∧(c).toNat<b.length then
    (b[(c).toNat]?).bind fun (d:Int) =>
    if 0≤a∧(a).toNat<b.length then
     (b[(a).toNat]?).bind fun (e:Int) =>
     if 0≤a∧(a).toNat<b.length then
      (b[(a).toNat]?).bind fun (f:Int) =>
      if 0≤c∧(c).toNat<(b.set (a).toNat d).length then
       ((b.set (a).toNat d)[(c).toNat]?).bind fun (g:Int) =>
       GE n  k (wi .i64 (a+1)) (wi .i64 (c-1)) ((b.set (a).toNat d).set (c).toNat e)
      else none
     else none
    else none
   else none
  else
   some (.x0 b)
theorem ZA {Fi:Ex→PS→Prop} (hF:KC 32 Fi) (ks:List Fr) (n:Nat)   : ∀ (k:Nat) (a b:Int) (c:(List Int)) (o:SG),GE n  k a b c=some o→RunE Tryz.prog 32 Fi ks (Y6 o) (Y7  o)→RunE Tryz.prog 32 Fi (.l k (cP (cB (cR (cR (bodyOf Tryz.f77)))))::ks) .normal (Y8  a b c)
 | 0,a,b,c,o,h,q=>by rw [GE] at h; cases h
 | k+1,a,b,c,o,h,q=>by
  rw [GE] at h
  by_cases g:a<b
  ·rw [if_pos g] at h
   by_cases i:0≤b∧(b).toNat<c.length
   ·rw [if_pos i] at h
    obtain ⟨d,u,h⟩:=bind_some h
    by_cases j:0≤a∧(a).toNat<c.length
    ·rw [if_pos j] at h
     obtain ⟨e,x,h⟩:=bind_some h
     by_cases m:0≤a∧(a).toNat<c.length
     ·rw [if_pos m] at h
      obtain ⟨a0,a1,h⟩:=bind_some h
      by_cases r:0≤b∧(b).toNat<(c.set (a).toNat d).length
      ·rw [if_pos r] at h
       obtain ⟨a2,a3,h⟩:=bind_some h
       exact pkk_sound TTok mix hF 13 (hs:=[.t true,.y ((eI .i64) d),.y ((eI .i64) e),.w ((c.set (a).toNat d).map (eI .i64)),.y ((eI .i64) a0),.w (((c.set (a).toNat d).set (b).toNat e).map (eI .i64)),.y ((eI .i64) a2)]) (ts:=[]) (s:=[0,1]) (l:=[0,6,7]) (by kernel_rfl) (by kernel_rfl) (.cons (dt g) (.cons (idx_ob (f:=(eI .i64)) i) (.cons (get_ob (f:=(eI .i64)) u) (.cons (idx_ob (f:=(eI .i64)) j) (.cons (get_ob (f:=(eI .i64)) x) (.cons (idx_ob (f:=(eI .i64)) m) (.cons (get_ob (f:=(eI .i64)) a1) (.cons (Eq.refl (pcells (.v (.int .i64 d)))) (.cons (set_ob (f:=(eI .i64)) (l:=c) (k:=(a).toNat) (z:=d) (p:=.v (.int .i64 d)) rfl) (.cons (idx_ob (f:=(eI .i64)) r) (.cons (get_ob (f:=(eI .i64)) a3) (.cons (Eq.refl (pcells (.v (.int .i64 e)))) (.cons (set_ob (f:=(eI .i64)) (l:=(c.set (a).toNat d)) (k:=(b).toNat) (z:=e) (p:=.v (.int .i64 e)) rfl) .nil))))))))))))) (ZA hF ks n  k (wi .i64 (a+1)) (wi .i64 (b-1)) ((c.set (a).toNat d).set (b).toNat e) _ h q)
      ·rw [if_neg r] at h; cases h
     ·rw [if_neg m] at h; cases h
    ·rw [if_neg j] at h; cases h
   ·rw [if_neg i] at h; cases h
  ·rw [if_neg g] at h
   cases h
   exact pkk_sound TTok mix hF 8 (hs:=[.t false]) (ts:=[]) (s:=[0,1]) (l:=[]) (by kernel_rfl) (by kernel_rfl) (.cons (df g) .nil) q
/- slices.reverseRangeOrdered[int] -/
def Sx (n:Nat) (a:(List Int)) (b c:Int):Option ((List Int)) :=
 (GE n  n b (wi .i64 (c-1)) a).bind fun d=>match d with
 | .x0 e =>
  some e
theorem Xj (n:Nat) (a:(List Int)) (e f:Int) (r:(List Int)) (h:Sx n a e f=some r):RetH Tryz.prog 77 [.srf 0,.d ((eI .i64) e),.d ((eI .i64) f)] [.row 3 1 (a.map (eI .i64))] (.tup []) [.row 3 1 (r.map (eI .i64))]:=by
 refine retH_run (n:=32) (fn:=Tryz.f77) (c:=bodyOf Tryz.f77) (by kernel_rfl) (by kernel_rfl) (by kernel_rfl) (by kernel_rfl) ?_
 have hF:KC 32 (FinH Tryz.prog Tryz.f77 [.row 3 1 (a.map (eI .i64))] (.tup []) [.row 3 1 (r.map (eI .i64))]):=FinH.kc' (by kernel_rfl)
 unfold Sx at h
 obtain ⟨g,i,h⟩:=bind_some h
 refine pkk_sound TTok mix hF 6 (hs:=[.n n]) (ts:=[]) (s:=[1,0]) (l:=[0,6,7]) (by kernel_rfl) (by kernel_rfl) .nil (ZA hF (.b 0::[]) n  n e (wi .i64 (f-1)) a _ i ?_)
 cases g with
 | x0 j =>
  try dsimp only at h
  obtain rfl:=Option.some.inj h
  exact pendH_sound TTok mix 1 (hs:=[]) [1] (by kernel_rfl) (by kernel_rfl) (by kernel_rfl) .nil
inductive G5 where
 | x0 (a:Int) (b:(List Int))
def Yc:G5→Ex
 | .x0 _ _=>.exit 2
def Yd (a b c:Int):G5→PS
 | .x0 e f=>⟨(.srf 1::di a::di b::dd::dd::dd::dd::di e::di c::(dds 124 [])),[.gh 0 (.srf 1),.row 3 1 (f.map (eI .i64))]⟩
def Ye (a b c e:Int) (f:(List Int)):PS:=⟨(.srf 1::di a::di b::dd::dd::dd::dd::di e::di c::(dds 124 [])),[.gh 0 (.srf 1),.row 3 1 (f.map (eI .i64))]⟩
def Gs (n:Nat) (d c e:Int):Nat→Int→(List Int)→Option G5
 | 0,_,_=>none
 | k+1,a,b =>
  if a<c then
   if 0≤a∧(a).toNat<b.length then
    (b[(a).toNat]?).bind fun (f:Int) =>
    if 0≤(wi .i64 (a-1))∧((wi .i64 (a-1))).toNat<b.length then
     (b[((wi .i64 (a-1))).toNat]?).bind fun (g:Int) =>
     (Gj n f g).bind fun (h:(Bool)) =>
     if h=true then
      some (.x0 a b)
     else
      Gs n d c e k (wi .i64 (a+1)) b
    else none
   else none
  else
   some (.x0 a b)
theorem KJ {Fi:Ex→PS→Prop} (hF:KC 133 Fi) (ks:List Fr) (n:Nat) (g d i:Int)  : ∀ (k:Nat) (a:Int) (b:(List Int)) (o:G5),Gs n g d i k a b=some o→RunE Tryz.prog 133 Fi ks (Yc o) (Yd g d i o)→RunE Tryz.prog 133 Fi (.l k (cP (cB (cL (cB (cL (cR (cP (cB (cR (cL (cR (cR (bodyOf Tryz.f78)))))))))))))::ks) .normal (Ye g d i a b)
 | 0,a,b,o,h,q=>by rw [Gs] at h; cases h
 | k+1,a,b,o,h,q=>by
  rw [Gs] at h
  by_cases e:a<d
  ·rw [if_pos e] at h
   by_cases j:0≤a∧(a).toNat<b.length
   ·rw [if_pos j] at h
    obtain ⟨m,x,h⟩:=bind_some h
    by_cases p:0≤(wi .i64 (a-1))∧((wi .i64 (a-1))).toNat<b.length
    ·rw [if_pos p] at h
     obtain ⟨u,z,h⟩:=bind_some h
     obtain ⟨w,a0,h⟩:=bind_some h
     by_cases v:w=true
     ·rw [if_pos v] at h
      cases h
      exact pkk_sound TTok mix hF 8 (hs:=[.t true,.c,.c,.c,.y ((eI .i64) m),.c,.c,.c,.c,.c,.y ((eI .i64) u),.c,.r (eB w),.c,.t false]) (ts:=[]) (s:=[0,1]) (l:=[0,1,2,7,8]) (by kernel_rfl) (by kernel_rfl) (.cons (dt e) (.cons (idx_ob (f:=(eI .i64)) j) (.cons (get_ob (f:=(eI .i64)) x) (.cons (idx_ob (f:=(eI .i64)) p) (.cons (get_ob (f:=(eI .i64)) z) (.cons (Gn n m u _ a0) (.cons (bnf v) .nil))))))) q
     ·rw [if_neg v] at h
      exact pkk_sound TTok mix hF 9 (hs:=[.t true,.c,.c,.c,.y ((eI .i64) m),.c,.c,.c,.c,.c,.y ((eI .i64) u),.c,.r (eB w),.c,.t true]) (ts:=[]) (s:=[0,1]) (l:=[0,1,2,7,8]) (by kernel_rfl) (by kernel_rfl) (.cons (dt e) (.cons (idx_ob (f:=(eI .i64)) j) (.cons (get_ob (f:=(eI .i64)) x) (.cons (idx_ob (f:=(eI .i64)) p) (.cons (get_ob (f:=(eI .i64)) z) (.cons (Gn n m u _ a0) (.cons (bnt (vf v)) .nil))))))) (KJ hF ks n g d i k (wi .i64 (a+1)) b _ h q)
    ·rw [if_neg p] at h; cases h
   ·rw [if_neg j] at h; cases h
  ·rw [if_neg e] at h
   cases h
   exact pkk_sound TTok mix hF 8 (hs:=[.t false,.c,.c,.c,.c,.c,.c,.c,.c,.c,.c,.c]) (ts:=[]) (s:=[0,1]) (l:=[0,1,2,7,8]) (by kernel_rfl) (by kernel_rfl) (.cons (df e) .nil) q
inductive G6 where
 | x0 (a:(List Int))
def Yf:G6→Ex
 | .x0 _=>.exit 4
def Yg (a b c e:Int):G6→PS
 | .x0 f=>⟨(.srf 1::di a::di b::dd::dd::dd::dd::di c::di e::(dds 124 [])),[.gh 0 (.srf 1),.row 3 1 (f.map (eI .i64))]⟩
def Yh (a b c e f:Int) (g:(List Int)):PS:=⟨(.srf 1::di a::di b::dd::dd::dd::dd::di c::di e::di f::(dds 123 [])),[.gh 0 (.srf 1),.row 3 1 (g.map (eI .i64))]⟩
def Gt (n:Nat) (d e f g:Int):Nat→Int→(List Int)→Option G6
 | 0,_,_=>none
 | k+1,a,b =>
  if a≥1 then
   if 0≤a∧(a).toNat<b.length then
    (b[(a).toNat]?).bind fun (h:Int) =>
    if 0≤(wi .i64 (a-1))∧((wi .i64 (a-1))).toNat<b.length then
     (b[((wi .i64 (a-1))).toNat]?).bind fun (i:Int) =>
     (Gj n h i).bind fun (j:(Bool)) =>
     if j=true then
      if 0≤(wi .i64 (a-1))∧((wi .i64 (a-1))).toNat<b.length then
       (b[((wi .i64 (a-1))).toNat]?).bind fun (c:Int) =>
       if 0≤a∧(a).toNat<b.length then
        (b[(a).toNat]?).bind fun (l:Int) =>
        if 0≤a∧(a).toNat<b.length then
         (b[(a).toNat]?).bind fun (m:Int) =>
         if 0≤(wi .i64 (a-1))∧((wi .i64 (a-1))).toNat<(b.set (a).toNat c).length then
          ((b.set (a).toNat c)[((wi .i64 (a-1))).toNat]?).bind fun (o:Int) =>
          Gt n d e f g k (wi .i64 (a-1)) ((b.set (a).toNat c).set ((wi .i64 (a-1))).toNat l)
         else none
        else none
       else none
      else none
     else
      some (.x0 b)
    else none
   else none
  else
   some (.x0 b)
theorem KK {Fi:Ex→PS→Prop} (hF:KC 133 Fi) (ks:List Fr) (n:Nat) (g i j m:Int)  : ∀ (k:Nat) (a:Int) (b:(List Int)) (o:G6),Gt n g i j m k a b=some o→RunE Tryz.prog 133 Fi ks (Yf o) (Yg g i j m o)→RunE Tryz.prog 133 Fi (.l k (cP (cB (cR (cT (cR (cL (cR (cR (cR (cR (cB (cL (cR (cP (cB (cR (cL (cR (cR (bodyOf Tryz.f78))))))))))))))))))))::ks) .normal (Yh g i j m a b)
 | 0,a,b,o,h,q=>by rw [Gt] at h; cases h
 | k+1,a,b,o,h,q=>by
  rw [Gt] at h
  by_cases e:a≥1
  ·rw [if_pos e] at h
   by_cases u:0≤a∧(a).toNat<b.length
   ·rw [if_pos u] at h
    obtain ⟨x,a8,h⟩:=bind_some h
    by_cases a0:0≤(wi .i64 (a-1))∧((wi .i64 (a-1))).toNat<b.length
    ·rw [if_pos a0] at h
     obtain ⟨a1,a9,h⟩:=bind_some h
     obtain ⟨a3,b0,h⟩:=bind_some h
     by_cases a2:a3=true
     ·rw [if_pos a2] at h
      by_cases a4:0≤(wi .i64 (a-1))∧((wi .i64 (a-1))).toNat<b.length
      ·rw [if_pos a4] at h
       obtain ⟨c,b1,h⟩:=bind_some h
       by_cases a5:0≤a∧(a).toNat<b.length
       ·rw [if_pos a5] at h
        obtain ⟨d,b2,h⟩:=bind_some h
        by_cases a6:0≤a∧(a).toNat<b.length
        ·rw [if_pos a6] at h
         obtain ⟨b3,b4,h⟩:=bind_some h
         by_cases a7:0≤(wi .i64 (a-1))∧((wi .i64 (a-1))).toNat<(b.set (a).toNat c).length
         ·rw [if_pos a7] at h
          obtain ⟨b5,b6,h⟩:=bind_some h
          exact pkk_sound TTok mix hF 16 (hs:=[.t true,.y ((eI .i64) x),.y ((eI .i64) a1),.r (eB a3),.t false,.y ((eI .i64) c),.y ((eI .i64) d),.w ((b.set (a).toNat c).map (eI .i64)),.y ((eI .i64) b3),.w (((b.set (a).toNat c).set ((wi .i64 (a-1))).toNat d).map (eI .i64)),.y ((eI .i64) b5)]) (ts:=[]) (s:=[0,1]) (l:=[0,1,2,7,8,9]) (by kernel_rfl) (by kernel_rfl) (.cons (dt e) (.cons (idx_ob (f:=(eI .i64)) u) (.cons (get_ob (f:=(eI .i64)) a8) (.cons (idx_ob (f:=(eI .i64)) a0) (.cons (get_ob (f:=(eI .i64)) a9) (.cons (Gn n x a1 _ b0) (.cons (bnf a2) (.cons (idx_ob (f:=(eI .i64)) a4) (.cons (get_ob (f:=(eI .i64)) b1) (.cons (idx_ob (f:=(eI .i64)) a5) (.cons (get_ob (f:=(eI .i64)) b2) (.cons (idx_ob (f:=(eI .i64)) a6) (.cons (get_ob (f:=(eI .i64)) b4) (.cons (Eq.refl (pcells (.v (.int .i64 c)))) (.cons (set_ob (f:=(eI .i64)) (l:=b) (k:=(a).toNat) (z:=c) (p:=.v (.int .i64 c)) rfl) (.cons (idx_ob (f:=(eI .i64)) a7) (.cons (get_ob (f:=(eI .i64)) b6) (.cons (Eq.refl (pcells (.v (.int .i64 d)))) (.cons (set_ob (f:=(eI .i64)) (l:=(b.set (a).toNat c)) (k:=((wi .i64 (a-1))).toNat) (z:=d) (p:=.v (.int .i64 d)) rfl) .nil))))))))))))))))))) (KK hF ks n g i j m k (wi .i64 (a-1)) ((b.set (a).toNat c).set ((wi .i64 (a-1))).toNat d) _ h q)
         ·rw [if_neg a7] at h; cases h
        ·rw [if_neg a6] at h; cases h
       ·rw [if_neg a5] at h; cases h
      ·rw [if_neg a4] at h; cases h
     ·rw [if_neg a2] at h
      cases h
      exact pkk_sound TTok mix hF 17 (hs:=[.t true,.y ((eI .i64) x),.y ((eI .i64) a1),.r (eB a3),.t true]) (ts:=[]) (s:=[0,1]) (l:=[0,1,2,7,8]) (by kernel_rfl) (by kernel_rfl) (.cons (dt e) (.cons (idx_ob (f:=(eI .i64)) u) (.cons (get_ob (f:=(eI .i64)) a8) (.cons (idx_ob (f:=(eI .i64)) a0) (.cons (get_ob (f:=(eI .i64)) a9) (.cons (Gn n x a1 _ b0) (.cons (bnt (vf a2)) .nil))))))) q
    ·rw [if_neg a0] at h; cases h
   ·rw [if_neg u] at h; cases h
  ·rw [if_neg e] at h
   cases h
   exact pkk_sound TTok mix hF 8 (hs:=[.t false]) (ts:=[]) (s:=[0,1]) (l:=[0,1,2,7,8]) (by kernel_rfl) (by kernel_rfl) (.cons (df e) .nil) q
inductive G7 where
 | x0 (a:(List Int))
def Yi:G7→Ex
 | .x0 _=>.exit 6
def Yj (a b c e:Int):G7→PS
 | .x0 f=>⟨(.srf 1::di a::di b::dd::dd::dd::dd::di c::di e::(dds 124 [])),[.gh 0 (.srf 1),.row 3 1 (f.map (eI .i64))]⟩
def Yk (a b c e f:Int) (g:(List Int)):PS:=⟨(.srf 1::di a::di b::dd::dd::dd::dd::di c::di e::dd::di f::(dds 122 [])),[.gh 0 (.srf 1),.row 3 1 (g.map (eI .i64))]⟩
def Gu (n:Nat) (e d f g:Int):Nat→Int→(List Int)→Option G7
 | 0,_,_=>none
 | k+1,a,b =>
  if a<d then
   if 0≤a∧(a).toNat<b.length then
    (b[(a).toNat]?).bind fun (h:Int) =>
    if 0≤(wi .i64 (a-1))∧((wi .i64 (a-1))).toNat<b.length then
     (b[((wi .i64 (a-1))).toNat]?).bind fun (i:Int) =>
     (Gj n h i).bind fun (j:(Bool)) =>
     if j=true then
      if 0≤(wi .i64 (a-1))∧((wi .i64 (a-1))).toNat<b.length then
       (b[((wi .i64 (a-1))).toNat]?).bind fun (c:Int) =>
       if 0≤a∧(a).toNat<b.length then
        (b[(a).toNat]?).bind fun (l:Int) =>
        if 0≤a∧(a).toNat<b.length then
         (b[(a).toNat]?).bind fun (m:Int) =>
         if 0≤(wi .i64 (a-1))∧((wi .i64 (a-1))).toNat<(b.set (a).toNat c).length then
          ((b.set (a).toNat c)[((wi .i64 (a-1))).toNat]?).bind fun (o:Int) =>
          Gu n e d f g k (wi .i64 (a+1)) ((b.set (a).toNat c).set ((wi .i64 (a-1))).toNat l)
         else none
        else none
       else none
      else none
     else
      some (.x0 b)
    else none
   else none
  else
   some (.x0 b)
theorem KL {Fi:Ex→PS→Prop} (hF:KC 133 Fi) (ks:List Fr) (n:Nat) (i e j m:Int)  : ∀ (k:Nat) (a:Int) (b:(List Int)) (o:G7),Gu n i e j m k a b=some o→RunE Tryz.prog 133 Fi ks (Yi o) (Yj i e j m o)→RunE Tryz.prog 133 Fi (.l k (cP (cB (cR (cT (cR (cR (cR (cR (cR (cR (cB (cL (cR (cP (cB (cR (cL (cR (cR (bodyOf Tryz.f78))))))))))))))))))))::ks) .normal (Yk i e j m a b)
 | 0,a,b,o,h,q=>by rw [Gu] at h; cases h
 | k+1,a,b,o,h,q=>by
  rw [Gu] at h
  by_cases g:a<e
  ·rw [if_pos g] at h
   by_cases u:0≤a∧(a).toNat<b.length
   ·rw [if_pos u] at h
    obtain ⟨x,a8,h⟩:=bind_some h
    by_cases a0:0≤(wi .i64 (a-1))∧((wi .i64 (a-1))).toNat<b.length
    ·rw [if_pos a0] at h
     obtain ⟨a1,a9,h⟩:=bind_some h
     obtain ⟨a3,b0,h⟩:=bind_some h
     by_cases a2:a3=true
     ·rw [if_pos a2] at h
      by_cases a4:0≤(wi .i64 (a-1))∧((wi .i64 (a-1))).toNat<b.length
      ·rw [if_pos a4] at h
       obtain ⟨c,b1,h⟩:=bind_some h
       by_cases a5:0≤a∧(a).toNat<b.length
       ·rw [if_pos a5] at h
        obtain ⟨d,b2,h⟩:=bind_some h
        by_cases a6:0≤a∧(a).toNat<b.length
        ·rw [if_pos a6] at h
         obtain ⟨b3,b4,h⟩:=bind_some h
         by_cases a7:0≤(wi .i64 (a-1))∧((wi .i64 (a-1))).toNat<(b.set (a).toNat c).length
         ·rw [if_pos a7] at h
          obtain ⟨b5,b6,h⟩:=bind_some h
          exact pkk_sound TTok mix hF 16 (hs:=[.t true,.y ((eI .i64) x),.y ((eI .i64) a1),.r (eB a3),.t false,.y ((eI .i64) c),.y ((eI .i64) d),.w ((b.set (a).toNat c).map (eI .i64)),.y ((eI .i64) b3),.w (((b.set (a).toNat c).set ((wi .i64 (a-1))).toNat d).map (eI .i64)),.y ((eI .i64) b5)]) (ts:=[]) (s:=[0,1]) (l:=[0,1,2,7,8,10]) (by kernel_rfl) (by kernel_rfl) (.cons (dt g) (.cons (idx_ob (f:=(eI .i64)) u) (.cons (get_ob (f:=(eI .i64)) a8) (.cons (idx_ob (f:=(eI .i64)) a0) (.cons (get_ob (f:=(eI .i64)) a9) (.cons (Gn n x a1 _ b0) (.cons (bnf a2) (.cons (idx_ob (f:=(eI .i64)) a4) (.cons (get_ob (f:=(eI .i64)) b1) (.cons (idx_ob (f:=(eI .i64)) a5) (.cons (get_ob (f:=(eI .i64)) b2) (.cons (idx_ob (f:=(eI .i64)) a6) (.cons (get_ob (f:=(eI .i64)) b4) (.cons (Eq.refl (pcells (.v (.int .i64 c)))) (.cons (set_ob (f:=(eI .i64)) (l:=b) (k:=(a).toNat) (z:=c) (p:=.v (.int .i64 c)) rfl) (.cons (idx_ob (f:=(eI .i64)) a7) (.cons (get_ob (f:=(eI .i64)) b6) (.cons (Eq.refl (pcells (.v (.int .i64 d)))) (.cons (set_ob (f:=(eI .i64)) (l:=(b.set (a).toNat c)) (k:=((wi .i64 (a-1))).toNat) (z:=d) (p:=.v (.int .i64 d)) rfl) .nil))))))))))))))))))) (KL hF ks n i e j m k (wi .i64 (a+1)) ((b.set (a).toNat c).set ((wi .i64 (a-1))).toNat d) _ h q)
         ·rw [if_neg a7] at h; cases h
        ·rw [if_neg a6] at h; cases h
       ·rw [if_neg a5] at h; cases h
      ·rw [if_neg a4] at h; cases h
     ·rw [if_neg a2] at h
      cases h
      exact pkk_sound TTok mix hF 17 (hs:=[.t true,.y ((eI .i64) x),.y ((eI .i64) a1),.r (eB a3),.t true]) (ts:=[]) (s:=[0,1]) (l:=[0,1,2,7,8]) (by kernel_rfl) (by kernel_rfl) (.cons (dt g) (.cons (idx_ob (f:=(eI .i64)) u) (.cons (get_ob (f:=(eI .i64)) a8) (.cons (idx_ob (f:=(eI .i64)) a0) (.cons (get_ob (f:=(eI .i64)) a9) (.cons (Gn n x a1 _ b0) (.cons (bnt (vf a2)) .nil))))))) q
    ·rw [if_neg a0] at h; cases h
   ·rw [if_neg u] at h; cases h
  ·rw [if_neg g] at h
   cases h
   exact pkk_sound TTok mix hF 8 (hs:=[.t false]) (ts:=[]) (s:=[0,1]) (l:=[0,1,2,7,8]) (by kernel_rfl) (by kernel_rfl) (.cons (df g) .nil) q
inductive G8 where
 | x0 (a:(List Int))
def Yl:G8→Ex
 | .x0 _=>.exit 6
def Ym (a b c e:Int):G8→PS
 | .x0 f=>⟨(.srf 1::di a::di b::dd::dd::dd::dd::di c::di e::(dds 124 [])),[.gh 0 (.srf 1),.row 3 1 (f.map (eI .i64))]⟩
def Yn (a b c e f:Int) (g:(List Int)):PS:=⟨(.srf 1::di a::di b::dd::dd::dd::dd::di c::di e::dd::di f::(dds 122 [])),[.gh 0 (.srf 1),.row 3 1 (g.map (eI .i64))]⟩
def Gv (n:Nat) (e d f g:Int):Nat→Int→(List Int)→Option G8
 | 0,_,_=>none
 | k+1,a,b =>
  if a<d then
   if 0≤a∧(a).toNat<b.length then
    (b[(a).toNat]?).bind fun (h:Int) =>
    if 0≤(wi .i64 (a-1))∧((wi .i64 (a-1))).toNat<b.length then
     (b[((wi .i64 (a-1))).toNat]?).bind fun (i:Int) =>
     (Gj n h i).bind fun (j:(Bool)) =>
     if j=true then
      if 0≤(wi .i64 (a-1))∧((wi .i64 (a-1))).toNat<b.length then
       (b[((wi .i64 (a-1))).toNat]?).bind fun (c:Int) =>
       if 0≤a∧(a).toNat<b.length then
        (b[(a).toNat]?).bind fun (l:Int) =>
        if 0≤a∧(a).toNat<b.length then
         (b[(a).toNat]?).bind fun (m:Int) =>
         if 0≤(wi .i64 (a-1))∧((wi .i64 (a-1))).toNat<(b.set (a).toNat c).length then
          ((b.set (a).toNat c)[((wi .i64 (a-1))).toNat]?).bind fun (o:Int) =>
          Gv n e d f g k (wi .i64 (a+1)) ((b.set (a).toNat c).set ((wi .i64 (a-1))).toNat l)
         else none
        else none
       else none
      else none
     else
      some (.x0 b)
    else none
   else none
  else
   some (.x0 b)
theorem KM {Fi:Ex→PS→Prop} (hF:KC 133 Fi) (ks:List Fr) (n:Nat) (i e j m:Int)  : ∀ (k:Nat) (a:Int) (b:(List Int)) (o:G8),Gv n i e j m k a b=some o→RunE Tryz.prog 133 Fi ks (Yl o) (Ym i e j m o)→RunE Tryz.prog 133 Fi (.l k (cP (cB (cR (cT (cR (cR (cR (cR (cR (cR (cB (cL (cR (cP (cB (cR (cL (cR (cR (bodyOf Tryz.f78))))))))))))))))))))::ks) .normal (Yn i e j m a b)
 | 0,a,b,o,h,q=>by rw [Gv] at h; cases h
 | k+1,a,b,o,h,q=>by
  rw [Gv] at h
  by_cases g:a<e
  ·rw [if_pos g] at h
   by_cases u:0≤a∧(a).toNat<b.length
   ·rw [if_pos u] at h
    obtain ⟨x,a8,h⟩:=bind_some h
    by_cases a0:0≤(wi .i64 (a-1))∧((wi .i64 (a-1))).toNat<b.length
    ·rw [if_pos a0] at h
     obtain ⟨a1,a9,h⟩:=bind_some h
     obtain ⟨a3,b0,h⟩:=bind_some h
     by_cases a2:a3=true
     ·rw [if_pos a2] at h
      by_cases a4:0≤(wi .i64 (a-1))∧((wi .i64 (a-1))).toNat<b.length
      ·rw [if_pos a4] at h
       obtain ⟨c,b1,h⟩:=bind_some h
       by_cases a5:0≤a∧(a).toNat<b.length
       ·rw [if_pos a5] at h
        obtain ⟨d,b2,h⟩:=bind_some h
        by_cases a6:0≤a∧(a).toNat<b.length
        ·rw [if_pos a6] at h
         obtain ⟨b3,b4,h⟩:=bind_some h
         by_cases a7:0≤(wi .i64 (a-1))∧((wi .i64 (a-1))).toNat<(b.set (a).toNat c).length
         ·rw [if_pos a7] at h
          obtain ⟨b5,b6,h⟩:=bind_some h
          exact pkk_sound TTok mix hF 16 (hs:=[.t true,.y ((eI .i64) x),.y ((eI .i64) a1),.r (eB a3),.t false,.y ((eI .i64) c),.y ((eI .i64) d),.w ((b.set (a).toNat c).map (eI .i64)),.y ((eI .i64) b3),.w (((b.set (a).toNat c).set ((wi .i64 (a-1))).toNat d).map (eI .i64)),.y ((eI .i64) b5)]) (ts:=[]) (s:=[0,1]) (l:=[0,1,2,7,8,10]) (by kernel_rfl) (by kernel_rfl) (.cons (dt g) (.cons (idx_ob (f:=(eI .i64)) u) (.cons (get_ob (f:=(eI .i64)) a8) (.cons (idx_ob (f:=(eI .i64)) a0) (.cons (get_ob (f:=(eI .i64)) a9) (.cons (Gn n x a1 _ b0) (.cons (bnf a2) (.cons (idx_ob (f:=(eI .i64)) a4) (.cons (get_ob (f:=(eI .i64)) b1) (.cons (idx_ob (f:=(eI .i64)) a5) (.cons (get_ob (f:=(eI .i64)) b2) (.cons (idx_ob (f:=(eI .i64)) a6) (.cons (get_ob (f:=(eI .i64)) b4) (.cons (Eq.refl (pcells (.v (.int .i64 c)))) (.cons (set_ob (f:=(eI .i64)) (l:=b) (k:=(a).toNat) (z:=c) (p:=.v (.int .i64 c)) rfl) (.cons (idx_ob (f:=(eI .i64)) a7) (.cons (get_ob (f:=(eI .i64)) b6) (.cons (Eq.refl (pcells (.v (.int .i64 d)))) (.cons (set_ob (f:=(eI .i64)) (l:=(b.set (a).toNat c)) (k:=((wi .i64 (a-1))).toNat) (z:=d) (p:=.v (.int .i64 d)) rfl) .nil))))))))))))))))))) (KM hF ks n i e j m k (wi .i64 (a+1)) ((b.set (a).toNat c).set ((wi .i64 (a-1))).toNat d) _ h q)
         ·rw [if_neg a7] at h; cases h
        ·rw [if_neg a6] at h; cases h
       ·rw [if_neg a5] at h; cases h
      ·rw [if_neg a4] at h; cases h
     ·rw [if_neg a2] at h
      cases h
      exact pkk_sound TTok mix hF 17 (hs:=[.t true,.y ((eI .i64) x),.y ((eI .i64) a1),.r (eB a3),.t true]) (ts:=[]) (s:=[0,1]) (l:=[0,1,2,7,8]) (by kernel_rfl) (by kernel_rfl) (.cons (dt g) (.cons (idx_ob (f:=(eI .i64)) u) (.cons (get_ob (f:=(eI .i64)) a8) (.cons (idx_ob (f:=(eI .i64)) a0) (.cons (get_ob (f:=(eI .i64)) a9) (.cons (Gn n x a1 _ b0) (.cons (bnt (vf a2)) .nil))))))) q
    ·rw [if_neg a0] at h; cases h
   ·rw [if_neg u] at h; cases h
  ·rw [if_neg g] at h
   cases h
   exact pkk_sound TTok mix hF 8 (hs:=[.t false]) (ts:=[]) (s:=[0,1]) (l:=[0,1,2,7,8]) (by kernel_rfl) (by kernel_rfl) (.cons (df g) .nil) q
inductive G9 where
 | x0 (a:Bool) (b:(List Int))
 | x1 (c:(List Int))
def Yo:G9→Ex
 | .x0 _ _=>.ret
 | .x1 _=>.exit 0
def Yp (e f:Int):G9→PS
 | .x0 a b=>⟨(dd::dd::dd::dd::dd::dd::.d (.v (.bool a))::(dds 126 [])),[.gh 0 (.srf 1),.row 3 1 (b.map (eI .i64))]⟩
 | .x1 c=>⟨(dds 133 []),[.gh 0 (.srf 1),.row 3 1 (c.map (eI .i64))]⟩
def Yq (a b c e:Int) (f:(List Int)):PS:=⟨(.srf 1::di a::di b::dd::dd::dd::dd::di c::di e::(dds 124 [])),[.gh 0 (.srf 1),.row 3 1 (f.map (eI .i64))]⟩
def Gl (n:Nat) (d c:Int):Nat→Int→Int→(List Int)→Option G9
 | 0,_,_,_=>none
 | k+1,j,e,h =>
  if e<5 then
   (Gs n d c e n j h).bind fun l=>match l with
   | .x0 a b =>
    if a=c then
     some (.x0 true b)
    else
     if (wi .i64 (c-d))<50 then
      some (.x0 false b)
     else
      if 0≤(wi .i64 (a-1))∧((wi .i64 (a-1))).toNat<b.length then
       (b[((wi .i64 (a-1))).toNat]?).bind fun (f:Int) =>
       if 0≤a∧(a).toNat<b.length then
        (b[(a).toNat]?).bind fun (g:Int) =>
        if 0≤a∧(a).toNat<b.length then
         (b[(a).toNat]?).bind fun (s:Int) =>
         if 0≤(wi .i64 (a-1))∧((wi .i64 (a-1))).toNat<(b.set (a).toNat f).length then
          ((b.set (a).toNat f)[((wi .i64 (a-1))).toNat]?).bind fun (t:Int) =>
          if (wi .i64 (a-d))≥2 then
           (Gt n d c a e n (wi .i64 (a-1)) ((b.set (a).toNat f).set ((wi .i64 (a-1))).toNat g)).bind fun m=>match m with
           | .x0 i =>
             if (wi .i64 (c-a))≥2 then
              (Gu n d c a e n (wi .i64 (a+1)) i).bind fun o=>match o with
              | .x0 p =>
               Gl n d c k a (wi .i64 (e+1)) p
             else
              Gl n d c k a (wi .i64 (e+1)) i
          else
           if (wi .i64 (c-a))≥2 then
            (Gv n d c a e n (wi .i64 (a+1)) ((b.set (a).toNat f).set ((wi .i64 (a-1))).toNat g)).bind fun q=>match q with
            | .x0 r =>
              Gl n d c k a (wi .i64 (e+1)) r
           else
            Gl n d c k a (wi .i64 (e+1)) ((b.set (a).toNat f).set ((wi .i64 (a-1))).toNat g)
         else none
        else none
       else none
      else none
  else
   some (.x1 h)
theorem GG {Fi:Ex→PS→Prop} (hF:KC 133 Fi) (ks:List Fr) (n:Nat) (i g:Int)  : ∀ (k:Nat) (u j:Int) (x:(List Int)) (o:G9),Gl n i g k u j x=some o→RunE Tryz.prog 133 Fi ks (Yo o) (Yp i g o)→RunE Tryz.prog 133 Fi (.l k (cP (cB (cR (cL (cR (cR (bodyOf Tryz.f78)))))))::ks) .normal (Yq i g u j x)
 | 0,u,j,x,o,h,q=>by rw [Gl] at h; cases h
 | k+1,u,j,x,o,h,q=>by
  rw [Gl] at h
  by_cases a5:j<5
  ·rw [if_pos a5] at h
   obtain ⟨b5,b6,h⟩:=bind_some h
   refine pkk_sound TTok mix hF 11 (hs:=[.t true,.n n]) (ts:=[]) (s:=[0,1]) (l:=[0,1,2,7,8]) (by kernel_rfl) (by kernel_rfl) (.cons (dt a5) .nil) (KJ hF (.b 2::.s (cR (cB (cL (cR (cP (cB (cR (cL (cR (cR (bodyOf Tryz.f78)))))))))))::.b 1::.s (cR (cR (cP (cB (cR (cL (cR (cR (bodyOf Tryz.f78)))))))))::.l k (cP (cB (cR (cL (cR (cR (bodyOf Tryz.f78)))))))::ks) n i g j n u x _ b6 ?_)
   cases b5 with
   | x0 a d =>
    try dsimp only at h
    by_cases m:a=g
    ·rw [if_pos m] at h
     cases h
     exact pkk_sound TTok mix hF 12 (hs:=[.t true]) (ts:=[]) (s:=[0,1]) (l:=[6]) (by kernel_rfl) (by kernel_rfl) (.cons (bt m) .nil) q
    ·rw [if_neg m] at h
     by_cases r:(wi .i64 (g-i))<50
     ·rw [if_pos r] at h
      cases h
      exact pkk_sound TTok mix hF 17 (hs:=[.t false,.t true]) (ts:=[]) (s:=[0,1]) (l:=[6]) (by kernel_rfl) (by kernel_rfl) (.cons (bf m) (.cons (dt r) .nil)) q
     ·rw [if_neg r] at h
      by_cases a0:0≤(wi .i64 (a-1))∧((wi .i64 (a-1))).toNat<d.length
      ·rw [if_pos a0] at h
       obtain ⟨c,a8,h⟩:=bind_some h
       by_cases a1:0≤a∧(a).toNat<d.length
       ·rw [if_pos a1] at h
        obtain ⟨e,a9,h⟩:=bind_some h
        by_cases a2:0≤a∧(a).toNat<d.length
        ·rw [if_pos a2] at h
         obtain ⟨b0,b1,h⟩:=bind_some h
         by_cases a3:0≤(wi .i64 (a-1))∧((wi .i64 (a-1))).toNat<(d.set (a).toNat c).length
         ·rw [if_pos a3] at h
          obtain ⟨b2,b3,h⟩:=bind_some h
          by_cases a4:(wi .i64 (a-i))≥2
          ·rw [if_pos a4] at h
           obtain ⟨b7,b8,h⟩:=bind_some h
           refine pkk_sound TTok mix hF 21 (hs:=[.t false,.t false,.y ((eI .i64) c),.y ((eI .i64) e),.w ((d.set (a).toNat c).map (eI .i64)),.y ((eI .i64) b0),.w (((d.set (a).toNat c).set ((wi .i64 (a-1))).toNat e).map (eI .i64)),.y ((eI .i64) b2),.t true,.n n]) (ts:=[]) (s:=[0,1]) (l:=[0,1,2,7,8,9]) (by kernel_rfl) (by kernel_rfl) (.cons (bf m) (.cons (df r) (.cons (idx_ob (f:=(eI .i64)) a0) (.cons (get_ob (f:=(eI .i64)) a8) (.cons (idx_ob (f:=(eI .i64)) a1) (.cons (get_ob (f:=(eI .i64)) a9) (.cons (idx_ob (f:=(eI .i64)) a2) (.cons (get_ob (f:=(eI .i64)) b1) (.cons (Eq.refl (pcells (.v (.int .i64 c)))) (.cons (set_ob (f:=(eI .i64)) (l:=d) (k:=(a).toNat) (z:=c) (p:=.v (.int .i64 c)) rfl) (.cons (idx_ob (f:=(eI .i64)) a3) (.cons (get_ob (f:=(eI .i64)) b3) (.cons (Eq.refl (pcells (.v (.int .i64 e)))) (.cons (set_ob (f:=(eI .i64)) (l:=(d.set (a).toNat c)) (k:=((wi .i64 (a-1))).toNat) (z:=e) (p:=.v (.int .i64 e)) rfl) (.cons (dt a4) .nil))))))))))))))) (KK hF (.b 4::.s (cR (cR (cR (cR (cR (cB (cL (cR (cP (cB (cR (cL (cR (cR (bodyOf Tryz.f78)))))))))))))))::.b 1::.s (cR (cR (cP (cB (cR (cL (cR (cR (bodyOf Tryz.f78)))))))))::.l k (cP (cB (cR (cL (cR (cR (bodyOf Tryz.f78)))))))::ks) n i g a j n (wi .i64 (a-1)) ((d.set (a).toNat c).set ((wi .i64 (a-1))).toNat e) _ b8 ?_)
           cases b7 with
           | x0 b4 =>
            try dsimp only at h
            by_cases a6:(wi .i64 (g-a))≥2
            ·rw [if_pos a6] at h
             obtain ⟨b9,c0,h⟩:=bind_some h
             refine pkk_sound TTok mix hF 8 (hs:=[.t true,.n n]) (ts:=[]) (s:=[0,1]) (l:=[0,1,2,7,8,10]) (by kernel_rfl) (by kernel_rfl) (.cons (dt a6) .nil) (KL hF (.b 6::.b 1::.s (cR (cR (cP (cB (cR (cL (cR (cR (bodyOf Tryz.f78)))))))))::.l k (cP (cB (cR (cL (cR (cR (bodyOf Tryz.f78)))))))::ks) n i g a j n (wi .i64 (a+1)) b4 _ c0 ?_)
             cases b9 with
             | x0 c1 =>
              try dsimp only at h
              exact pkk_sound TTok mix hF 3 (hs:=[]) (ts:=[]) (s:=[0,1]) (l:=[0,1,2,7,8]) (by kernel_rfl) (by kernel_rfl) .nil (GG hF ks n i g k a (wi .i64 (j+1)) c1 _ h q)
            ·rw [if_neg a6] at h
             exact pkk_sound TTok mix hF 7 (hs:=[.t false]) (ts:=[]) (s:=[0,1]) (l:=[0,1,2,7,8]) (by kernel_rfl) (by kernel_rfl) (.cons (df a6) .nil) (GG hF ks n i g k a (wi .i64 (j+1)) b4 _ h q)
          ·rw [if_neg a4] at h
           by_cases a7:(wi .i64 (g-a))≥2
           ·rw [if_pos a7] at h
            obtain ⟨c2,c3,h⟩:=bind_some h
            refine pkk_sound TTok mix hF 25 (hs:=[.t false,.t false,.y ((eI .i64) c),.y ((eI .i64) e),.w ((d.set (a).toNat c).map (eI .i64)),.y ((eI .i64) b0),.w (((d.set (a).toNat c).set ((wi .i64 (a-1))).toNat e).map (eI .i64)),.y ((eI .i64) b2),.t false,.t true,.n n]) (ts:=[]) (s:=[0,1]) (l:=[0,1,2,7,8,10]) (by kernel_rfl) (by kernel_rfl) (.cons (bf m) (.cons (df r) (.cons (idx_ob (f:=(eI .i64)) a0) (.cons (get_ob (f:=(eI .i64)) a8) (.cons (idx_ob (f:=(eI .i64)) a1) (.cons (get_ob (f:=(eI .i64)) a9) (.cons (idx_ob (f:=(eI .i64)) a2) (.cons (get_ob (f:=(eI .i64)) b1) (.cons (Eq.refl (pcells (.v (.int .i64 c)))) (.cons (set_ob (f:=(eI .i64)) (l:=d) (k:=(a).toNat) (z:=c) (p:=.v (.int .i64 c)) rfl) (.cons (idx_ob (f:=(eI .i64)) a3) (.cons (get_ob (f:=(eI .i64)) b3) (.cons (Eq.refl (pcells (.v (.int .i64 e)))) (.cons (set_ob (f:=(eI .i64)) (l:=(d.set (a).toNat c)) (k:=((wi .i64 (a-1))).toNat) (z:=e) (p:=.v (.int .i64 e)) rfl) (.cons (df a4) (.cons (dt a7) .nil)))))))))))))))) (KM hF (.b 6::.b 1::.s (cR (cR (cP (cB (cR (cL (cR (cR (bodyOf Tryz.f78)))))))))::.l k (cP (cB (cR (cL (cR (cR (bodyOf Tryz.f78)))))))::ks) n i g a j n (wi .i64 (a+1)) ((d.set (a).toNat c).set ((wi .i64 (a-1))).toNat e) _ c3 ?_)
            cases c2 with
            | x0 c4 =>
             try dsimp only at h
             exact pkk_sound TTok mix hF 3 (hs:=[]) (ts:=[]) (s:=[0,1]) (l:=[0,1,2,7,8]) (by kernel_rfl) (by kernel_rfl) .nil (GG hF ks n i g k a (wi .i64 (j+1)) c4 _ h q)
           ·rw [if_neg a7] at h
            exact pkk_sound TTok mix hF 24 (hs:=[.t false,.t false,.y ((eI .i64) c),.y ((eI .i64) e),.w ((d.set (a).toNat c).map (eI .i64)),.y ((eI .i64) b0),.w (((d.set (a).toNat c).set ((wi .i64 (a-1))).toNat e).map (eI .i64)),.y ((eI .i64) b2),.t false,.t false]) (ts:=[]) (s:=[0,1]) (l:=[0,1,2,7,8]) (by kernel_rfl) (by kernel_rfl) (.cons (bf m) (.cons (df r) (.cons (idx_ob (f:=(eI .i64)) a0) (.cons (get_ob (f:=(eI .i64)) a8) (.cons (idx_ob (f:=(eI .i64)) a1) (.cons (get_ob (f:=(eI .i64)) a9) (.cons (idx_ob (f:=(eI .i64)) a2) (.cons (get_ob (f:=(eI .i64)) b1) (.cons (Eq.refl (pcells (.v (.int .i64 c)))) (.cons (set_ob (f:=(eI .i64)) (l:=d) (k:=(a).toNat) (z:=c) (p:=.v (.int .i64 c)) rfl) (.cons (idx_ob (f:=(eI .i64)) a3) (.cons (get_ob (f:=(eI .i64)) b3) (.cons (Eq.refl (pcells (.v (.int .i64 e)))) (.cons (set_ob (f:=(eI .i64)) (l:=(d.set (a).toNat c)) (k:=((wi .i64 (a-1))).toNat) (z:=e) (p:=.v (.int .i64 e)) rfl) (.cons (df a4) (.cons (df a7) .nil)))))))))))))))) (GG hF ks n i g k a (wi .i64 (j+1)) ((d.set (a).toNat c).set ((wi .i64 (a-1))).toNat e) _ h q)
         ·rw [if_neg a3] at h; cases h
        ·rw [if_neg a2] at h; cases h
       ·rw [if_neg a1] at h; cases h
      ·rw [if_neg a0] at h; cases h
  ·rw [if_neg a5] at h
   cases h
   exact pkk_sound TTok mix hF 8 (hs:=[.t false]) (ts:=[]) (s:=[0,1]) (l:=[]) (by kernel_rfl) (by kernel_rfl) (.cons (df a5) .nil) q
/- slices.partialInsertionSortOrdered[int] -/
def GX (n:Nat) (b:(List Int)) (a c:Int):Option (Bool×(List Int)) :=
 (Gl n a c n (wi .i64 (a+1)) 0 b).bind fun d=>match d with
 | .x0 e f =>
  some (e,f)
 | .x1 g =>
  some (false,g)
theorem K4 (n:Nat) (a:(List Int)) (e f:Int) (r:Bool×(List Int)) (h:GX n a e f=some r):RetH Tryz.prog 78 [.srf 0,.d ((eI .i64) e),.d ((eI .i64) f)] [.row 3 1 (a.map (eI .i64))] (.d (eB r.1)) [.row 3 1 (r.2.map (eI .i64))]:=by
 refine retH_run (n:=133) (fn:=Tryz.f78) (c:=bodyOf Tryz.f78) (by kernel_rfl) (by kernel_rfl) (by kernel_rfl) (by kernel_rfl) ?_
 have hF:KC 133 (FinH Tryz.prog Tryz.f78 [.row 3 1 (a.map (eI .i64))] (.d (eB r.1)) [.row 3 1 (r.2.map (eI .i64))]):=FinH.kc' (by kernel_rfl)
 unfold GX at h
 obtain ⟨g,i,h⟩:=bind_some h
 refine pkk_sound TTok mix hF 9 (hs:=[.n n]) (ts:=[]) (s:=[1,0]) (l:=[0,1,2,7,8]) (by kernel_rfl) (by kernel_rfl) .nil (GG hF (.b 0::.s (cR (cR (cR (bodyOf Tryz.f78))))::[]) n e f n (wi .i64 (e+1)) 0 a _ i ?_)
 cases g with
 | x0 j k =>
  try dsimp only at h
  obtain rfl:=Option.some.inj h
  exact pendH_sound TTok mix 2 (hs:=[]) [1] (by kernel_rfl) (by kernel_rfl) (by kernel_rfl) .nil
 | x1 m =>
  try dsimp only at h
  obtain rfl:=Option.some.inj h
  exact pendH_sound TTok mix 4 (hs:=[]) [1] (by kernel_rfl) (by kernel_rfl) (by kernel_rfl) .nil
inductive St where
 | x0 (a:Int) (b:(List Int))
def YJ:St→Ex
 | .x0 _ _=>.exit 2
def YK (a b:Int):St→PS
 | .x0 c e=>⟨(.srf 1::di a::dd::dd::dd::dd::dd::dd::dd::di c::di b::(dds 73 [])),[.gh 0 (.srf 1),.row 3 1 (e.map (eI .i64))]⟩
def YL (a b c:Int) (e:(List Int)):PS:=⟨(.srf 1::di a::dd::dd::dd::dd::dd::dd::dd::di c::di b::(dds 73 [])),[.gh 0 (.srf 1),.row 3 1 (e.map (eI .i64))]⟩
def Gz (n:Nat) (c d:Int):Nat→Int→(List Int)→Option St
 | 0,_,_=>none
 | k+1,a,b =>
  if a≤d then
   if 0≤c∧(c).toNat<b.length then
    (b[(c).toNat]?).bind fun (e:Int) =>
    if 0≤a∧(a).toNat<b.length then
     (b[(a).toNat]?).bind fun (f:Int) =>
     (Gj n e f).bind fun (g:(Bool)) =>
     if g=true then
      some (.x0 a b)
     else
      Gz n c d k (wi .i64 (a+1)) b
    else none
   else none
  else
   some (.x0 a b)
theorem Zk {Fi:Ex→PS→Prop} (hF:KC 84 Fi) (ks:List Fr) (n:Nat) (d e:Int)  : ∀ (k:Nat) (a:Int) (b:(List Int)) (o:St),Gz n d e k a b=some o→RunE Tryz.prog 84 Fi ks (YJ o) (YK d e o)→RunE Tryz.prog 84 Fi (.l k (cP (cB (cL (cB (cP (cB (cL (cR (cR (cR (bodyOf Tryz.f80)))))))))))::ks) .normal (YL d e a b)
 | 0,a,b,o,h,q=>by rw [Gz] at h; cases h
 | k+1,a,b,o,h,q=>by
  rw [Gz] at h
  by_cases g:a≤e
  ·rw [if_pos g] at h
   by_cases i:0≤d∧(d).toNat<b.length
   ·rw [if_pos i] at h
    obtain ⟨j,w,h⟩:=bind_some h
    by_cases m:0≤a∧(a).toNat<b.length
    ·rw [if_pos m] at h
     obtain ⟨p,x,h⟩:=bind_some h
     obtain ⟨v,z,h⟩:=bind_some h
     by_cases u:v=true
     ·rw [if_pos u] at h
      cases h
      exact pkk_sound TTok mix hF 8 (hs:=[.t true,.c,.c,.c,.y ((eI .i64) j),.c,.c,.c,.c,.y ((eI .i64) p),.c,.r (eB v),.c,.t false]) (ts:=[]) (s:=[0,1]) (l:=[0,1,9,10]) (by kernel_rfl) (by kernel_rfl) (.cons (dt g) (.cons (idx_ob (f:=(eI .i64)) i) (.cons (get_ob (f:=(eI .i64)) w) (.cons (idx_ob (f:=(eI .i64)) m) (.cons (get_ob (f:=(eI .i64)) x) (.cons (Gn n j p _ z) (.cons (bnf u) .nil))))))) q
     ·rw [if_neg u] at h
      exact pkk_sound TTok mix hF 9 (hs:=[.t true,.c,.c,.c,.y ((eI .i64) j),.c,.c,.c,.c,.y ((eI .i64) p),.c,.r (eB v),.c,.t true]) (ts:=[]) (s:=[0,1]) (l:=[0,1,9,10]) (by kernel_rfl) (by kernel_rfl) (.cons (dt g) (.cons (idx_ob (f:=(eI .i64)) i) (.cons (get_ob (f:=(eI .i64)) w) (.cons (idx_ob (f:=(eI .i64)) m) (.cons (get_ob (f:=(eI .i64)) x) (.cons (Gn n j p _ z) (.cons (bnt (vf u)) .nil))))))) (Zk hF ks n d e k (wi .i64 (a+1)) b _ h q)
    ·rw [if_neg m] at h; cases h
   ·rw [if_neg i] at h; cases h
  ·rw [if_neg g] at h
   cases h
   exact pkk_sound TTok mix hF 8 (hs:=[.t false,.c,.c,.c,.c,.c,.c,.c,.c,.c,.c]) (ts:=[]) (s:=[0,1]) (l:=[0,1,9,10]) (by kernel_rfl) (by kernel_rfl) (.cons (df g) .nil) q
inductive Su where
 | x0 (a:Int) (b:(List Int))
def YM:Su→Ex
 | .x0 _ _=>.exit 4
def YN (a b:Int):Su→PS
 | .x0 c e=>⟨(.srf 1::di a::dd::dd::dd::dd::dd::dd::dd::di b::di c::(dds 73 [])),[.gh 0 (.srf 1),.row 3 1 (e.map (eI .i64))]⟩
def YO (a b c:Int) (e:(List Int)):PS:=⟨(.srf 1::di a::dd::dd::dd::dd::dd::dd::dd::di b::di c::(dds 73 [])),[.gh 0 (.srf 1),.row 3 1 (e.map (eI .i64))]⟩
def GA (n:Nat) (c d:Int):Nat→Int→(List Int)→Option Su
 | 0,_,_=>none
 | k+1,a,b =>
  if d≤a then
   if 0≤c∧(c).toNat<b.length then
    (b[(c).toNat]?).bind fun (e:Int) =>
    if 0≤a∧(a).toNat<b.length then
     (b[(a).toNat]?).bind fun (f:Int) =>
     (Gj n e f).bind fun (g:(Bool)) =>
     if g=true then
      GA n c d k (wi .i64 (a-1)) b
     else
      some (.x0 a b)
    else none
   else none
  else
   some (.x0 a b)
theorem Zl {Fi:Ex→PS→Prop} (hF:KC 84 Fi) (ks:List Fr) (n:Nat) (d e:Int)  : ∀ (k:Nat) (a:Int) (b:(List Int)) (o:Su),GA n d e k a b=some o→RunE Tryz.prog 84 Fi ks (YM o) (YN d e o)→RunE Tryz.prog 84 Fi (.l k (cP (cB (cL (cR (cB (cP (cB (cL (cR (cR (cR (bodyOf Tryz.f80))))))))))))::ks) .normal (YO d e a b)
 | 0,a,b,o,h,q=>by rw [GA] at h; cases h
 | k+1,a,b,o,h,q=>by
  rw [GA] at h
  by_cases g:e≤a
  ·rw [if_pos g] at h
   by_cases i:0≤d∧(d).toNat<b.length
   ·rw [if_pos i] at h
    obtain ⟨j,w,h⟩:=bind_some h
    by_cases m:0≤a∧(a).toNat<b.length
    ·rw [if_pos m] at h
     obtain ⟨p,x,h⟩:=bind_some h
     obtain ⟨v,z,h⟩:=bind_some h
     by_cases u:v=true
     ·rw [if_pos u] at h
      exact pkk_sound TTok mix hF 9 (hs:=[.t true,.c,.c,.c,.y ((eI .i64) j),.c,.c,.c,.c,.y ((eI .i64) p),.c,.r (eB v),.t true]) (ts:=[]) (s:=[0,1]) (l:=[0,1,9,10]) (by kernel_rfl) (by kernel_rfl) (.cons (dt g) (.cons (idx_ob (f:=(eI .i64)) i) (.cons (get_ob (f:=(eI .i64)) w) (.cons (idx_ob (f:=(eI .i64)) m) (.cons (get_ob (f:=(eI .i64)) x) (.cons (Gn n j p _ z) (.cons u .nil))))))) (Zl hF ks n d e k (wi .i64 (a-1)) b _ h q)
     ·rw [if_neg u] at h
      cases h
      exact pkk_sound TTok mix hF 8 (hs:=[.t true,.c,.c,.c,.y ((eI .i64) j),.c,.c,.c,.c,.y ((eI .i64) p),.c,.r (eB v),.t false]) (ts:=[]) (s:=[0,1]) (l:=[0,1,9,10]) (by kernel_rfl) (by kernel_rfl) (.cons (dt g) (.cons (idx_ob (f:=(eI .i64)) i) (.cons (get_ob (f:=(eI .i64)) w) (.cons (idx_ob (f:=(eI .i64)) m) (.cons (get_ob (f:=(eI .i64)) x) (.cons (Gn n j p _ z) (.cons (vf u) .nil))))))) q
    ·rw [if_neg m] at h; cases h
   ·rw [if_neg i] at h; cases h
  ·rw [if_neg g] at h
   cases h
   exact pkk_sound TTok mix hF 8 (hs:=[.t false,.c,.c,.c,.c,.c,.c,.c,.c,.c]) (ts:=[]) (s:=[0,1]) (l:=[0,1,9,10]) (by kernel_rfl) (by kernel_rfl) (.cons (df g) .nil) q
inductive Sv where
 | x0 (a:Int) (b:(List Int))
def YP:Sv→Ex
 | .x0 _ _=>.exit 0
def YQ (c:Int):Sv→PS
 | .x0 a b=>⟨(dds 9 (di a::(dds 74 []))),[.gh 0 (.srf 1),.row 3 1 (b.map (eI .i64))]⟩
def YR (a b c:Int) (e:(List Int)):PS:=⟨(.srf 1::di a::dd::dd::dd::dd::dd::dd::dd::di b::di c::(dds 73 [])),[.gh 0 (.srf 1),.row 3 1 (e.map (eI .i64))]⟩
def GB (n:Nat) (d:Int):Nat→Int→Int→(List Int)→Option Sv
 | 0,_,_,_=>none
 | k+1,g,f,h =>
  (Gz n d f n g h).bind fun i=>match i with
  | .x0 a j =>
   (GA n d a n f j).bind fun l=>match l with
   | .x0 c b =>
    if a > c then
     some (.x0 a b)
    else
     if 0≤c∧(c).toNat<b.length then
      (b[(c).toNat]?).bind fun (e:Int) =>
      if 0≤a∧(a).toNat<b.length then
       (b[(a).toNat]?).bind fun (m:Int) =>
       if 0≤a∧(a).toNat<b.length then
        (b[(a).toNat]?).bind fun (o:Int) =>
        if 0≤c∧(c).toNat<(b.set (a).toNat e).length then
         ((b.set (a).toNat e)[(c).toNat]?).bind fun (p:Int) =>
         GB n d k (wi .i64 (a+1)) (wi .i64 (c-1)) ((b.set (a).toNat e).set (c).toNat m)
        else none
       else none
      else none
     else none
theorem Zm {Fi:Ex→PS→Prop} (hF:KC 84 Fi) (ks:List Fr) (n:Nat) (g:Int)  : ∀ (k:Nat) (m i:Int) (r:(List Int)) (o:Sv),GB n g k m i r=some o→RunE Tryz.prog 84 Fi ks (YP o) (YQ g o)→RunE Tryz.prog 84 Fi (.l k (cP (cB (cL (cR (cR (cR (bodyOf Tryz.f80)))))))::ks) .normal (YR g m i r)
 | 0,m,i,r,o,h,q=>by rw [GB] at h; cases h
 | k+1,m,i,r,o,h,q=>by
  rw [GB] at h
  obtain ⟨a3,a4,h⟩:=bind_some h
  refine pkk_sound TTok mix hF 5 (hs:=[.n n]) (ts:=[]) (s:=[0,1]) (l:=[0,1,9,10]) (by kernel_rfl) (by kernel_rfl) .nil (Zk hF (.b 2::.s (cR (cB (cP (cB (cL (cR (cR (cR (bodyOf Tryz.f80)))))))))::.b 1::.l k (cP (cB (cL (cR (cR (cR (bodyOf Tryz.f80)))))))::ks) n g i n m r _ a4 ?_)
  cases a3 with
  | x0 a a5 =>
   try dsimp only at h
   obtain ⟨a6,a7,h⟩:=bind_some h
   refine pkk_sound TTok mix hF 4 (hs:=[.n n]) (ts:=[]) (s:=[0,1]) (l:=[0,1,9,10]) (by kernel_rfl) (by kernel_rfl) .nil (Zl hF (.b 4::.s (cR (cR (cB (cP (cB (cL (cR (cR (cR (bodyOf Tryz.f80))))))))))::.b 1::.l k (cP (cB (cL (cR (cR (cR (bodyOf Tryz.f80)))))))::ks) n g a n i a5 _ a7 ?_)
   cases a6 with
   | x0 c d =>
    try dsimp only at h
    by_cases u:a > c
    ·rw [if_pos u] at h
     cases h
     exact pkk_sound TTok mix hF 9 (hs:=[.t true]) (ts:=[]) (s:=[0,1]) (l:=[9]) (by kernel_rfl) (by kernel_rfl) (.cons (dt u) .nil) q
    ·rw [if_neg u] at h
     by_cases x:0≤c∧(c).toNat<d.length
     ·rw [if_pos x] at h
      obtain ⟨e,a8,h⟩:=bind_some h
      by_cases a0:0≤a∧(a).toNat<d.length
      ·rw [if_pos a0] at h
       obtain ⟨j,a9,h⟩:=bind_some h
       by_cases a1:0≤a∧(a).toNat<d.length
       ·rw [if_pos a1] at h
        obtain ⟨b0,b1,h⟩:=bind_some h
        by_cases a2:0≤c∧(c).toNat<(d.set (a).toNat e).length
        ·rw [if_pos a2] at h
         obtain ⟨b2,b3,h⟩:=bind_some h
         exact pkk_sound TTok mix hF 12 (hs:=[.t false,.y ((eI .i64) e),.y ((eI .i64) j),.w ((d.set (a).toNat e).map (eI .i64)),.y ((eI .i64) b0),.w (((d.set (a).toNat e).set (c).toNat j).map (eI .i64)),.y ((eI .i64) b2)]) (ts:=[]) (s:=[0,1]) (l:=[0,1,9,10]) (by kernel_rfl) (by kernel_rfl) (.cons (df u) (.cons (idx_ob (f:=(eI .i64)) x) (.cons (get_ob (f:=(eI .i64)) a8) (.cons (idx_ob (f:=(eI .i64)) a0) (.cons (get_ob (f:=(eI .i64)) a9) (.cons (idx_ob (f:=(eI .i64)) a1) (.cons (get_ob (f:=(eI .i64)) b1) (.cons (Eq.refl (pcells (.v (.int .i64 e)))) (.cons (set_ob (f:=(eI .i64)) (l:=d) (k:=(a).toNat) (z:=e) (p:=.v (.int .i64 e)) rfl) (.cons (idx_ob (f:=(eI .i64)) a2) (.cons (get_ob (f:=(eI .i64)) b3) (.cons (Eq.refl (pcells (.v (.int .i64 j)))) (.cons (set_ob (f:=(eI .i64)) (l:=(d.set (a).toNat e)) (k:=(c).toNat) (z:=j) (p:=.v (.int .i64 j)) rfl) .nil))))))))))))) (Zm hF ks n g k (wi .i64 (a+1)) (wi .i64 (c-1)) ((d.set (a).toNat e).set (c).toNat j) _ h q)
        ·rw [if_neg a2] at h; cases h
       ·rw [if_neg a1] at h; cases h
      ·rw [if_neg a0] at h; cases h
     ·rw [if_neg x] at h; cases h
/- slices.partitionEqualOrdered[int] -/
def Gy (n:Nat) (b:(List Int)) (a e c:Int):Option (Int×(List Int)) :=
 if 0≤c∧(c).toNat<b.length then
  (b[(c).toNat]?).bind fun (d:Int) =>
  if 0≤a∧(a).toNat<b.length then
   (b[(a).toNat]?).bind fun (f:Int) =>
   if 0≤a∧(a).toNat<b.length then
    (b[(a).toNat]?).bind fun (j:Int) =>
    if 0≤c∧(c).toNat<(b.set (a).toNat d).length then
     ((b.set (a).toNat d)[(c).toNat]?).bind fun (k:Int) =>
     (GB n a n (wi .i64 (a+1)) (wi .i64 (e-1)) ((b.set (a).toNat d).set (c).toNat f)).bind fun g=>match g with
     | .x0 h i =>
      some (h,i)
    else none
   else none
  else none
 else none
theorem Ks (n:Nat) (e:(List Int)) (a m g:Int) (r:Int×(List Int)) (h:Gy n e a m g=some r):RetH Tryz.prog 80 [.srf 0,.d ((eI .i64) a),.d ((eI .i64) m),.d ((eI .i64) g)] [.row 3 1 (e.map (eI .i64))] (.d ((eI .i64) r.1)) [.row 3 1 (r.2.map (eI .i64))]:=by
 refine retH_run (n:=84) (fn:=Tryz.f80) (c:=bodyOf Tryz.f80) (by kernel_rfl) (by kernel_rfl) (by kernel_rfl) (by kernel_rfl) ?_
 have hF:KC 84 (FinH Tryz.prog Tryz.f80 [.row 3 1 (e.map (eI .i64))] (.d ((eI .i64) r.1)) [.row 3 1 (r.2.map (eI .i64))]):=FinH.kc' (by kernel_rfl)
 unfold Gy at h
 by_cases o:0≤g∧(g).toNat<e.length
 ·rw [if_pos o] at h
  obtain ⟨i,x,h⟩:=bind_some h
  by_cases q:0≤a∧(a).toNat<e.length
  ·rw [if_pos q] at h
   obtain ⟨j,a0,h⟩:=bind_some h
   by_cases t:0≤a∧(a).toNat<e.length
   ·rw [if_pos t] at h
    obtain ⟨a1,a2,h⟩:=bind_some h
    by_cases u:0≤g∧(g).toNat<(e.set (a).toNat i).length
    ·rw [if_pos u] at h
     obtain ⟨a3,a4,h⟩:=bind_some h
     obtain ⟨a5,a6,h⟩:=bind_some h
     refine pkk_sound TTok mix hF 9 (hs:=[.y ((eI .i64) i),.y ((eI .i64) j),.w ((e.set (a).toNat i).map (eI .i64)),.y ((eI .i64) a1),.w (((e.set (a).toNat i).set (g).toNat j).map (eI .i64)),.y ((eI .i64) a3),.n n]) (ts:=[]) (s:=[1,0]) (l:=[0,1,9,10]) (by kernel_rfl) (by kernel_rfl) (.cons (idx_ob (f:=(eI .i64)) o) (.cons (get_ob (f:=(eI .i64)) x) (.cons (idx_ob (f:=(eI .i64)) q) (.cons (get_ob (f:=(eI .i64)) a0) (.cons (idx_ob (f:=(eI .i64)) t) (.cons (get_ob (f:=(eI .i64)) a2) (.cons (Eq.refl (pcells (.v (.int .i64 i)))) (.cons (set_ob (f:=(eI .i64)) (l:=e) (k:=(a).toNat) (z:=i) (p:=.v (.int .i64 i)) rfl) (.cons (idx_ob (f:=(eI .i64)) u) (.cons (get_ob (f:=(eI .i64)) a4) (.cons (Eq.refl (pcells (.v (.int .i64 j)))) (.cons (set_ob (f:=(eI .i64)) (l:=(e.set (a).toNat i)) (k:=(g).toNat) (z:=j) (p:=.v (.int .i64 j)) rfl) .nil)))))))))))) (Zm hF (.b 0::.s (cR (cR (cR (cR (bodyOf Tryz.f80)))))::[]) n a n (wi .i64 (a+1)) (wi .i64 (m-1)) ((e.set (a).toNat i).set (g).toNat j) _ a6 ?_)
     cases a5 with
     | x0 a7 a8 =>
      try dsimp only at h
      obtain rfl:=Option.some.inj h
      exact pendH_sound TTok mix 4 (hs:=[]) [1] (by kernel_rfl) (by kernel_rfl) (by kernel_rfl) .nil
    ·rw [if_neg u] at h; cases h
   ·rw [if_neg t] at h; cases h
  ·rw [if_neg q] at h; cases h
 ·rw [if_neg o] at h; cases h
inductive SR where
 | x0 (a:Int) (b:(List Int))
def Xk:SR→Ex
 | .x0 _ _=>.exit 0
def Xl (a b:Int):SR→PS
 | .x0 c e=>⟨(.srf 1::di a::(dds 8 (di c::di (wi .i64 (b-1))::(dds 156 [])))),[.gh 0 (.srf 1),.row 3 1 (e.map (eI .i64))]⟩
def Xm (a b c:Int) (e:(List Int)):PS:=⟨(.srf 1::di a::(dds 8 (di c::di (wi .i64 (b-1))::(dds 156 [])))),[.gh 0 (.srf 1),.row 3 1 (e.map (eI .i64))]⟩
def GJ (n:Nat) (c d:Int):Nat→Int→(List Int)→Option SR
 | 0,_,_=>none
 | k+1,a,b =>
  if a≤(wi .i64 (d-1)) then
   if 0≤a∧(a).toNat<b.length then
    (b[(a).toNat]?).bind fun (e:Int) =>
    if 0≤c∧(c).toNat<b.length then
     (b[(c).toNat]?).bind fun (f:Int) =>
     (Gj n e f).bind fun (g:(Bool)) =>
     if g=true then
      GJ n c d k (wi .i64 (a+1)) b
     else
      some (.x0 a b)
    else none
   else none
  else
   some (.x0 a b)
theorem ZI {Fi:Ex→PS→Prop} (hF:KC 168 Fi) (ks:List Fr) (n:Nat) (d e:Int)  : ∀ (k:Nat) (a:Int) (b:(List Int)) (o:SR),GJ n d e k a b=some o→RunE Tryz.prog 168 Fi ks (Xk o) (Xl d e o)→RunE Tryz.prog 168 Fi (.l k (cP (cB (cL (cR (cR (cR (bodyOf Tryz.f81)))))))::ks) .normal (Xm d e a b)
 | 0,a,b,o,h,q=>by rw [GJ] at h; cases h
 | k+1,a,b,o,h,q=>by
  rw [GJ] at h
  by_cases g:a≤(wi .i64 (e-1))
  ·rw [if_pos g] at h
   by_cases i:0≤a∧(a).toNat<b.length
   ·rw [if_pos i] at h
    obtain ⟨j,w,h⟩:=bind_some h
    by_cases m:0≤d∧(d).toNat<b.length
    ·rw [if_pos m] at h
     obtain ⟨p,x,h⟩:=bind_some h
     obtain ⟨v,z,h⟩:=bind_some h
     by_cases u:v=true
     ·rw [if_pos u] at h
      exact pkk_sound TTok mix hF 9 (hs:=[.t true,.c,.c,.c,.y ((eI .i64) j),.c,.c,.c,.c,.y ((eI .i64) p),.c,.r (eB v),.t true]) (ts:=[]) (s:=[0,1]) (l:=[0,1,10,11]) (by kernel_rfl) (by kernel_rfl) (.cons (dt g) (.cons (idx_ob (f:=(eI .i64)) i) (.cons (get_ob (f:=(eI .i64)) w) (.cons (idx_ob (f:=(eI .i64)) m) (.cons (get_ob (f:=(eI .i64)) x) (.cons (Gn n j p _ z) (.cons u .nil))))))) (ZI hF ks n d e k (wi .i64 (a+1)) b _ h q)
     ·rw [if_neg u] at h
      cases h
      exact pkk_sound TTok mix hF 8 (hs:=[.t true,.c,.c,.c,.y ((eI .i64) j),.c,.c,.c,.c,.y ((eI .i64) p),.c,.r (eB v),.t false]) (ts:=[]) (s:=[0,1]) (l:=[0,1,10,11]) (by kernel_rfl) (by kernel_rfl) (.cons (dt g) (.cons (idx_ob (f:=(eI .i64)) i) (.cons (get_ob (f:=(eI .i64)) w) (.cons (idx_ob (f:=(eI .i64)) m) (.cons (get_ob (f:=(eI .i64)) x) (.cons (Gn n j p _ z) (.cons (vf u) .nil))))))) q
    ·rw [if_neg m] at h; cases h
   ·rw [if_neg i] at h; cases h
  ·rw [if_neg g] at h
   cases h
   exact pkk_sound TTok mix hF 8 (hs:=[.t false,.c,.c,.c,.c,.c,.c,.c,.c,.c]) (ts:=[]) (s:=[0,1]) (l:=[0,1,10,11]) (by kernel_rfl) (by kernel_rfl) (.cons (df g) .nil) q
inductive SS where
 | x0 (a:Int) (b:(List Int))
def Xn:SS→Ex
 | .x0 _ _=>.exit 2
def Xo (a b:Int):SS→PS
 | .x0 c e=>⟨(.srf 1::di a::(dds 8 (di b::di c::(dds 156 [])))),[.gh 0 (.srf 1),.row 3 1 (e.map (eI .i64))]⟩
def Xp (a b c:Int) (e:(List Int)):PS:=⟨(.srf 1::di a::(dds 8 (di b::di c::(dds 156 [])))),[.gh 0 (.srf 1),.row 3 1 (e.map (eI .i64))]⟩
def GK (n:Nat) (c d:Int):Nat→Int→(List Int)→Option SS
 | 0,_,_=>none
 | k+1,a,b =>
  if d≤a then
   if 0≤a∧(a).toNat<b.length then
    (b[(a).toNat]?).bind fun (e:Int) =>
    if 0≤c∧(c).toNat<b.length then
     (b[(c).toNat]?).bind fun (f:Int) =>
     (Gj n e f).bind fun (g:(Bool)) =>
     if g=true then
      some (.x0 a b)
     else
      GK n c d k (wi .i64 (a-1)) b
    else none
   else none
  else
   some (.x0 a b)
theorem ZJ {Fi:Ex→PS→Prop} (hF:KC 168 Fi) (ks:List Fr) (n:Nat) (d e:Int)  : ∀ (k:Nat) (a:Int) (b:(List Int)) (o:SS),GK n d e k a b=some o→RunE Tryz.prog 168 Fi ks (Xn o) (Xo d e o)→RunE Tryz.prog 168 Fi (.l k (cP (cB (cL (cR (cR (cR (cR (bodyOf Tryz.f81))))))))::ks) .normal (Xp d e a b)
 | 0,a,b,o,h,q=>by rw [GK] at h; cases h
 | k+1,a,b,o,h,q=>by
  rw [GK] at h
  by_cases g:e≤a
  ·rw [if_pos g] at h
   by_cases i:0≤a∧(a).toNat<b.length
   ·rw [if_pos i] at h
    obtain ⟨j,w,h⟩:=bind_some h
    by_cases m:0≤d∧(d).toNat<b.length
    ·rw [if_pos m] at h
     obtain ⟨p,x,h⟩:=bind_some h
     obtain ⟨v,z,h⟩:=bind_some h
     by_cases u:v=true
     ·rw [if_pos u] at h
      cases h
      exact pkk_sound TTok mix hF 8 (hs:=[.t true,.c,.c,.c,.y ((eI .i64) j),.c,.c,.c,.c,.y ((eI .i64) p),.c,.r (eB v),.c,.t false]) (ts:=[]) (s:=[0,1]) (l:=[0,1,10,11]) (by kernel_rfl) (by kernel_rfl) (.cons (dt g) (.cons (idx_ob (f:=(eI .i64)) i) (.cons (get_ob (f:=(eI .i64)) w) (.cons (idx_ob (f:=(eI .i64)) m) (.cons (get_ob (f:=(eI .i64)) x) (.cons (Gn n j p _ z) (.cons (bnf u) .nil))))))) q
     ·rw [if_neg u] at h
      exact pkk_sound TTok mix hF 9 (hs:=[.t true,.c,.c,.c,.y ((eI .i64) j),.c,.c,.c,.c,.y ((eI .i64) p),.c,.r (eB v),.c,.t true]) (ts:=[]) (s:=[0,1]) (l:=[0,1,10,11]) (by kernel_rfl) (by kernel_rfl) (.cons (dt g) (.cons (idx_ob (f:=(eI .i64)) i) (.cons (get_ob (f:=(eI .i64)) w) (.cons (idx_ob (f:=(eI .i64)) m) (.cons (get_ob (f:=(eI .i64)) x) (.cons (Gn n j p _ z) (.cons (bnt (vf u)) .nil))))))) (ZJ hF ks n d e k (wi .i64 (a-1)) b _ h q)
    ·rw [if_neg m] at h; cases h
   ·rw [if_neg i] at h; cases h
  ·rw [if_neg g] at h
   cases h
   exact pkk_sound TTok mix hF 8 (hs:=[.t false,.c,.c,.c,.c,.c,.c,.c,.c,.c,.c]) (ts:=[]) (s:=[0,1]) (l:=[0,1,10,11]) (by kernel_rfl) (by kernel_rfl) (.cons (df g) .nil) q
inductive ST where
 | x0 (a:Int) (b:(List Int))
def Xq:ST→Ex
 | .x0 _ _=>.exit 6
def Xr (a b:Int):ST→PS
 | .x0 c e=>⟨(.srf 1::di a::(dds 8 (di c::di b::(dds 156 [])))),[.gh 0 (.srf 1),.row 3 1 (e.map (eI .i64))]⟩
def Xs (a b c:Int) (e:(List Int)):PS:=⟨(.srf 1::di a::(dds 8 (di c::di b::(dds 156 [])))),[.gh 0 (.srf 1),.row 3 1 (e.map (eI .i64))]⟩
def GL (n:Nat) (c d:Int):Nat→Int→(List Int)→Option ST
 | 0,_,_=>none
 | k+1,a,b =>
  if a≤d then
   if 0≤a∧(a).toNat<b.length then
    (b[(a).toNat]?).bind fun (e:Int) =>
    if 0≤c∧(c).toNat<b.length then
     (b[(c).toNat]?).bind fun (f:Int) =>
     (Gj n e f).bind fun (g:(Bool)) =>
     if g=true then
      GL n c d k (wi .i64 (a+1)) b
     else
      some (.x0 a b)
    else none
   else none
  else
   some (.x0 a b)
theorem ZK {Fi:Ex→PS→Prop} (hF:KC 168 Fi) (ks:List Fr) (n:Nat) (d e:Int)  : ∀ (k:Nat) (a:Int) (b:(List Int)) (o:ST),GL n d e k a b=some o→RunE Tryz.prog 168 Fi ks (Xq o) (Xr d e o)→RunE Tryz.prog 168 Fi (.l k (cP (cB (cL (cB (cP (cB (cL (cR (cR (cR (cR (cR (cR (cR (cR (cR (bodyOf Tryz.f81)))))))))))))))))::ks) .normal (Xs d e a b)
 | 0,a,b,o,h,q=>by rw [GL] at h; cases h
 | k+1,a,b,o,h,q=>by
  rw [GL] at h
  by_cases g:a≤e
  ·rw [if_pos g] at h
   by_cases i:0≤a∧(a).toNat<b.length
   ·rw [if_pos i] at h
    obtain ⟨j,w,h⟩:=bind_some h
    by_cases m:0≤d∧(d).toNat<b.length
    ·rw [if_pos m] at h
     obtain ⟨p,x,h⟩:=bind_some h
     obtain ⟨v,z,h⟩:=bind_some h
     by_cases u:v=true
     ·rw [if_pos u] at h
      exact pkk_sound TTok mix hF 9 (hs:=[.t true,.c,.c,.c,.y ((eI .i64) j),.c,.c,.c,.c,.y ((eI .i64) p),.c,.r (eB v),.t true]) (ts:=[]) (s:=[0,1]) (l:=[0,1,10,11]) (by kernel_rfl) (by kernel_rfl) (.cons (dt g) (.cons (idx_ob (f:=(eI .i64)) i) (.cons (get_ob (f:=(eI .i64)) w) (.cons (idx_ob (f:=(eI .i64)) m) (.cons (get_ob (f:=(eI .i64)) x) (.cons (Gn n j p _ z) (.cons u .nil))))))) (ZK hF ks n d e k (wi .i64 (a+1)) b _ h q)
     ·rw [if_neg u] at h
      cases h
      exact pkk_sound TTok mix hF 8 (hs:=[.t true,.c,.c,.c,.y ((eI .i64) j),.c,.c,.c,.c,.y ((eI .i64) p),.c,.r (eB v),.t false]) (ts:=[]) (s:=[0,1]) (l:=[0,1,10,11]) (by kernel_rfl) (by kernel_rfl) (.cons (dt g) (.cons (idx_ob (f:=(eI .i64)) i) (.cons (get_ob (f:=(eI .i64)) w) (.cons (idx_ob (f:=(eI .i64)) m) (.cons (get_ob (f:=(eI .i64)) x) (.cons (Gn n j p _ z) (.cons (vf u) .nil))))))) q
    ·rw [if_neg m] at h; cases h
   ·rw [if_neg i] at h; cases h
  ·rw [if_neg g] at h
   cases h
   exact pkk_sound TTok mix hF 8 (hs:=[.t false,.c,.c,.c,.c,.c,.c,.c,.c,.c]) (ts:=[]) (s:=[0,1]) (l:=[0,1,10,11]) (by kernel_rfl) (by kernel_rfl) (.cons (df g) .nil) q
inductive SU where
 | x0 (a:Int) (b:(List Int))
def Xt:SU→Ex
 | .x0 _ _=>.exit 8
def Xu (a b:Int):SU→PS
 | .x0 c e=>⟨(.srf 1::di a::(dds 8 (di b::di c::(dds 156 [])))),[.gh 0 (.srf 1),.row 3 1 (e.map (eI .i64))]⟩
def Xv (a b c:Int) (e:(List Int)):PS:=⟨(.srf 1::di a::(dds 8 (di b::di c::(dds 156 [])))),[.gh 0 (.srf 1),.row 3 1 (e.map (eI .i64))]⟩
def GM (n:Nat) (c d:Int):Nat→Int→(List Int)→Option SU
 | 0,_,_=>none
 | k+1,a,b =>
  if d≤a then
   if 0≤a∧(a).toNat<b.length then
    (b[(a).toNat]?).bind fun (e:Int) =>
    if 0≤c∧(c).toNat<b.length then
     (b[(c).toNat]?).bind fun (f:Int) =>
     (Gj n e f).bind fun (g:(Bool)) =>
     if g=true then
      some (.x0 a b)
     else
      GM n c d k (wi .i64 (a-1)) b
    else none
   else none
  else
   some (.x0 a b)
theorem ZL {Fi:Ex→PS→Prop} (hF:KC 168 Fi) (ks:List Fr) (n:Nat) (d e:Int)  : ∀ (k:Nat) (a:Int) (b:(List Int)) (o:SU),GM n d e k a b=some o→RunE Tryz.prog 168 Fi ks (Xt o) (Xu d e o)→RunE Tryz.prog 168 Fi (.l k (cP (cB (cL (cR (cB (cP (cB (cL (cR (cR (cR (cR (cR (cR (cR (cR (cR (bodyOf Tryz.f81))))))))))))))))))::ks) .normal (Xv d e a b)
 | 0,a,b,o,h,q=>by rw [GM] at h; cases h
 | k+1,a,b,o,h,q=>by
  rw [GM] at h
  by_cases g:e≤a
  ·rw [if_pos g] at h
   by_cases i:0≤a∧(a).toNat<b.length
   ·rw [if_pos i] at h
    obtain ⟨j,w,h⟩:=bind_some h
    by_cases m:0≤d∧(d).toNat<b.length
    ·rw [if_pos m] at h
     obtain ⟨p,x,h⟩:=bind_some h
     obtain ⟨v,z,h⟩:=bind_some h
     by_cases u:v=true
     ·rw [if_pos u] at h
      cases h
      exact pkk_sound TTok mix hF 8 (hs:=[.t true,.c,.c,.c,.y ((eI .i64) j),.c,.c,.c,.c,.y ((eI .i64) p),.c,.r (eB v),.c,.t false]) (ts:=[]) (s:=[0,1]) (l:=[0,1,10,11]) (by kernel_rfl) (by kernel_rfl) (.cons (dt g) (.cons (idx_ob (f:=(eI .i64)) i) (.cons (get_ob (f:=(eI .i64)) w) (.cons (idx_ob (f:=(eI .i64)) m) (.cons (get_ob (f:=(eI .i64)) x) (.cons (Gn n j p _ z) (.cons (bnf u) .nil))))))) q
     ·rw [if_neg u] at h
      exact pkk_sound TTok mix hF 9 (hs:=[.t true,.c,.c,.c,.y ((eI .i64) j),.c,.c,.c,.c,.y ((eI .i64) p),.c,.r (eB v),.c,.t true]) (ts:=[]) (s:=[0,1]) (l:=[0,1,10,11]) (by kernel_rfl) (by kernel_rfl) (.cons (dt g) (.cons (idx_ob (f:=(eI .i64)) i) (.cons (get_ob (f:=(eI .i64)) w) (.cons (idx_ob (f:=(eI .i64)) m) (.cons (get_ob (f:=(eI .i64)) x) (.cons (Gn n j p _ z) (.cons (bnt (vf u)) .nil))))))) (ZL hF ks n d e k (wi .i64 (a-1)) b _ h q)
    ·rw [if_neg m] at h; cases h
   ·rw [if_neg i] at h; cases h
  ·rw [if_neg g] at h
   cases h
   exact pkk_sound TTok mix hF 8 (hs:=[.t false,.c,.c,.c,.c,.c,.c,.c,.c,.c,.c]) (ts:=[]) (s:=[0,1]) (l:=[0,1,10,11]) (by kernel_rfl) (by kernel_rfl) (.cons (df g) .nil) q
inductive SV where
 | x0 (a:Int) (b:(List Int))
def Xw:SV→Ex
 | .x0 _ _=>.exit 4
def Xx (a:Int):SV→PS
 | .x0 b c=>⟨(.srf 1::di a::(dds 9 (di b::(dds 156 [])))),[.gh 0 (.srf 1),.row 3 1 (c.map (eI .i64))]⟩
def Xy (a b c:Int) (e:(List Int)):PS:=⟨(.srf 1::di a::(dds 8 (di b::di c::(dds 156 [])))),[.gh 0 (.srf 1),.row 3 1 (e.map (eI .i64))]⟩
def GN (n:Nat) (d:Int):Nat→Int→Int→(List Int)→Option SV
 | 0,_,_,_=>none
 | k+1,g,f,h =>
  (GL n d f n g h).bind fun i=>match i with
  | .x0 a j =>
   (GM n d a n f j).bind fun l=>match l with
   | .x0 b c =>
    if a > b then
     some (.x0 b c)
    else
     if 0≤b∧(b).toNat<c.length then
      (c[(b).toNat]?).bind fun (e:Int) =>
      if 0≤a∧(a).toNat<c.length then
       (c[(a).toNat]?).bind fun (m:Int) =>
       if 0≤a∧(a).toNat<c.length then
        (c[(a).toNat]?).bind fun (o:Int) =>
        if 0≤b∧(b).toNat<(c.set (a).toNat e).length then
         ((c.set (a).toNat e)[(b).toNat]?).bind fun (p:Int) =>
         GN n d k (wi .i64 (a+1)) (wi .i64 (b-1)) ((c.set (a).toNat e).set (b).toNat m)
        else none
       else none
      else none
     else none
theorem ZM {Fi:Ex→PS→Prop} (hF:KC 168 Fi) (ks:List Fr) (n:Nat) (g:Int)  : ∀ (k:Nat) (m i:Int) (r:(List Int)) (o:SV),GN n g k m i r=some o→RunE Tryz.prog 168 Fi ks (Xw o) (Xx g o)→RunE Tryz.prog 168 Fi (.l k (cP (cB (cL (cR (cR (cR (cR (cR (cR (cR (cR (cR (bodyOf Tryz.f81)))))))))))))::ks) .normal (Xy g m i r)
 | 0,m,i,r,o,h,q=>by rw [GN] at h; cases h
 | k+1,m,i,r,o,h,q=>by
  rw [GN] at h
  obtain ⟨a3,a4,h⟩:=bind_some h
  refine pkk_sound TTok mix hF 5 (hs:=[.n n]) (ts:=[]) (s:=[0,1]) (l:=[0,1,10,11]) (by kernel_rfl) (by kernel_rfl) .nil (ZK hF (.b 6::.s (cR (cB (cP (cB (cL (cR (cR (cR (cR (cR (cR (cR (cR (cR (bodyOf Tryz.f81)))))))))))))))::.b 5::.l k (cP (cB (cL (cR (cR (cR (cR (cR (cR (cR (cR (cR (bodyOf Tryz.f81)))))))))))))::ks) n g i n m r _ a4 ?_)
  cases a3 with
  | x0 a a5 =>
   try dsimp only at h
   obtain ⟨a6,a7,h⟩:=bind_some h
   refine pkk_sound TTok mix hF 4 (hs:=[.n n]) (ts:=[]) (s:=[0,1]) (l:=[0,1,10,11]) (by kernel_rfl) (by kernel_rfl) .nil (ZL hF (.b 8::.s (cR (cR (cB (cP (cB (cL (cR (cR (cR (cR (cR (cR (cR (cR (cR (bodyOf Tryz.f81))))))))))))))))::.b 5::.l k (cP (cB (cL (cR (cR (cR (cR (cR (cR (cR (cR (cR (bodyOf Tryz.f81)))))))))))))::ks) n g a n i a5 _ a7 ?_)
   cases a6 with
   | x0 c d =>
    try dsimp only at h
    by_cases u:a > c
    ·rw [if_pos u] at h
     cases h
     exact pkk_sound TTok mix hF 9 (hs:=[.t true]) (ts:=[]) (s:=[0,1]) (l:=[0,1,11]) (by kernel_rfl) (by kernel_rfl) (.cons (dt u) .nil) q
    ·rw [if_neg u] at h
     by_cases x:0≤c∧(c).toNat<d.length
     ·rw [if_pos x] at h
      obtain ⟨e,a8,h⟩:=bind_some h
      by_cases a0:0≤a∧(a).toNat<d.length
      ·rw [if_pos a0] at h
       obtain ⟨j,a9,h⟩:=bind_some h
       by_cases a1:0≤a∧(a).toNat<d.length
       ·rw [if_pos a1] at h
        obtain ⟨b0,b1,h⟩:=bind_some h
        by_cases a2:0≤c∧(c).toNat<(d.set (a).toNat e).length
        ·rw [if_pos a2] at h
         obtain ⟨b2,b3,h⟩:=bind_some h
         exact pkk_sound TTok mix hF 12 (hs:=[.t false,.y ((eI .i64) e),.y ((eI .i64) j),.w ((d.set (a).toNat e).map (eI .i64)),.y ((eI .i64) b0),.w (((d.set (a).toNat e).set (c).toNat j).map (eI .i64)),.y ((eI .i64) b2)]) (ts:=[]) (s:=[0,1]) (l:=[0,1,10,11]) (by kernel_rfl) (by kernel_rfl) (.cons (df u) (.cons (idx_ob (f:=(eI .i64)) x) (.cons (get_ob (f:=(eI .i64)) a8) (.cons (idx_ob (f:=(eI .i64)) a0) (.cons (get_ob (f:=(eI .i64)) a9) (.cons (idx_ob (f:=(eI .i64)) a1) (.cons (get_ob (f:=(eI .i64)) b1) (.cons (Eq.refl (pcells (.v (.int .i64 e)))) (.cons (set_ob (f:=(eI .i64)) (l:=d) (k:=(a).toNat) (z:=e) (p:=.v (.int .i64 e)) rfl) (.cons (idx_ob (f:=(eI .i64)) a2) (.cons (get_ob (f:=(eI .i64)) b3) (.cons (Eq.refl (pcells (.v (.int .i64 j)))) (.cons (set_ob (f:=(eI .i64)) (l:=(d.set (a).toNat e)) (k:=(c).toNat) (z:=j) (p:=.v (.int .i64 j)) rfl) .nil))))))))))))) (ZM hF ks n g k (wi .i64 (a+1)) (wi .i64 (c-1)) ((d.set (a).toNat e).set (c).toNat j) _ h q)
        ·rw [if_neg a2] at h; cases h
       ·rw [if_neg a1] at h; cases h
      ·rw [if_neg a0] at h; cases h
     ·rw [if_neg x] at h; cases h
/- slices.partitionOrdered[int] -/
def GI (n:Nat) (f:(List Int)) (a m h:Int):Option (Int×Bool×(List Int)) :=
 if 0≤h∧(h).toNat<f.length then
  (f[(h).toNat]?).bind fun (i:Int) =>
  if 0≤a∧(a).toNat<f.length then
   (f[(a).toNat]?).bind fun (o:Int) =>
   if 0≤a∧(a).toNat<f.length then
    (f[(a).toNat]?).bind fun (w:Int) =>
    if 0≤h∧(h).toNat<(f.set (a).toNat i).length then
     ((f.set (a).toNat i)[(h).toNat]?).bind fun (x:Int) =>
     (GJ n a m n (wi .i64 (a+1)) ((f.set (a).toNat i).set (h).toNat o)).bind fun p=>match p with
     | .x0 d q =>
      (GK n a d n (wi .i64 (m-1)) q).bind fun r=>match r with
      | .x0 b c =>
       if d > b then
        if 0≤a∧(a).toNat<c.length then
         (c[(a).toNat]?).bind fun (j:Int) =>
         if 0≤b∧(b).toNat<c.length then
          (c[(b).toNat]?).bind fun (s:Int) =>
          if 0≤b∧(b).toNat<c.length then
           (c[(b).toNat]?).bind fun (y:Int) =>
           if 0≤a∧(a).toNat<(c.set (b).toNat j).length then
            ((c.set (b).toNat j)[(a).toNat]?).bind fun (z:Int) =>
            some (b,true,((c.set (b).toNat j).set (a).toNat s))
           else none
          else none
         else none
        else none
       else
        if 0≤b∧(b).toNat<c.length then
         (c[(b).toNat]?).bind fun (k:Int) =>
         if 0≤d∧(d).toNat<c.length then
          (c[(d).toNat]?).bind fun (t:Int) =>
          if 0≤d∧(d).toNat<c.length then
           (c[(d).toNat]?).bind fun (a0:Int) =>
           if 0≤b∧(b).toNat<(c.set (d).toNat k).length then
            ((c.set (d).toNat k)[(b).toNat]?).bind fun (a1:Int) =>
            (GN n a n (wi .i64 (d+1)) (wi .i64 (b-1)) ((c.set (d).toNat k).set (b).toNat t)).bind fun u=>match u with
            | .x0 e g =>
             if 0≤a∧(a).toNat<g.length then
              (g[(a).toNat]?).bind fun (l:Int) =>
              if 0≤e∧(e).toNat<g.length then
               (g[(e).toNat]?).bind fun (v:Int) =>
               if 0≤e∧(e).toNat<g.length then
                (g[(e).toNat]?).bind fun (a2:Int) =>
                if 0≤a∧(a).toNat<(g.set (e).toNat l).length then
                 ((g.set (e).toNat l)[(a).toNat]?).bind fun (a3:Int) =>
                 some (e,false,((g.set (e).toNat l).set (a).toNat v))
                else none
               else none
              else none
             else none
           else none
          else none
         else none
        else none
    else none
   else none
  else none
 else none
theorem G3 (n:Nat) (j:(List Int)) (a a6 m:Int) (r:Int×Bool×(List Int)) (h:GI n j a a6 m=some r):RetH Tryz.prog 81 [.srf 0,.d ((eI .i64) a),.d ((eI .i64) a6),.d ((eI .i64) m)] [.row 3 1 (j.map (eI .i64))] (.tup [.d ((eI .i64) r.1),.d (eB r.2.1)]) [.row 3 1 (r.2.2.map (eI .i64))]:=by
 refine retH_run (n:=168) (fn:=Tryz.f81) (c:=bodyOf Tryz.f81) (by kernel_rfl) (by kernel_rfl) (by kernel_rfl) (by kernel_rfl) ?_
 have hF:KC 168 (FinH Tryz.prog Tryz.f81 [.row 3 1 (j.map (eI .i64))] (.tup [.d ((eI .i64) r.1),.d (eB r.2.1)]) [.row 3 1 (r.2.2.map (eI .i64))]):=FinH.kc' (by kernel_rfl)
 unfold GI at h
 by_cases a8:0≤m∧(m).toNat<j.length
 ·rw [if_pos a8] at h
  obtain ⟨o,c4,h⟩:=bind_some h
  by_cases a9:0≤a∧(a).toNat<j.length
  ·rw [if_pos a9] at h
   obtain ⟨a2,c5,h⟩:=bind_some h
   by_cases b0:0≤a∧(a).toNat<j.length
   ·rw [if_pos b0] at h
    obtain ⟨c6,c7,h⟩:=bind_some h
    by_cases b1:0≤m∧(m).toNat<(j.set (a).toNat o).length
    ·rw [if_pos b1] at h
     obtain ⟨c8,c9,h⟩:=bind_some h
     obtain ⟨d0,d1,h⟩:=bind_some h
     refine pkk_sound TTok mix hF 9 (hs:=[.y ((eI .i64) o),.y ((eI .i64) a2),.w ((j.set (a).toNat o).map (eI .i64)),.y ((eI .i64) c6),.w (((j.set (a).toNat o).set (m).toNat a2).map (eI .i64)),.y ((eI .i64) c8),.n n]) (ts:=[]) (s:=[1,0]) (l:=[0,1,10,11]) (by kernel_rfl) (by kernel_rfl) (.cons (idx_ob (f:=(eI .i64)) a8) (.cons (get_ob (f:=(eI .i64)) c4) (.cons (idx_ob (f:=(eI .i64)) a9) (.cons (get_ob (f:=(eI .i64)) c5) (.cons (idx_ob (f:=(eI .i64)) b0) (.cons (get_ob (f:=(eI .i64)) c7) (.cons (Eq.refl (pcells (.v (.int .i64 o)))) (.cons (set_ob (f:=(eI .i64)) (l:=j) (k:=(a).toNat) (z:=o) (p:=.v (.int .i64 o)) rfl) (.cons (idx_ob (f:=(eI .i64)) b1) (.cons (get_ob (f:=(eI .i64)) c9) (.cons (Eq.refl (pcells (.v (.int .i64 a2)))) (.cons (set_ob (f:=(eI .i64)) (l:=(j.set (a).toNat o)) (k:=(m).toNat) (z:=a2) (p:=.v (.int .i64 a2)) rfl) .nil)))))))))))) (ZI hF (.b 0::.s (cR (cR (cR (cR (bodyOf Tryz.f81)))))::[]) n a a6 n (wi .i64 (a+1)) ((j.set (a).toNat o).set (m).toNat a2) _ d1 ?_)
     cases d0 with
     | x0 i d2 =>
      try dsimp only at h
      obtain ⟨d3,d4,h⟩:=bind_some h
      refine pkk_sound TTok mix hF 4 (hs:=[.n n]) (ts:=[]) (s:=[0,1]) (l:=[0,1,10,11]) (by kernel_rfl) (by kernel_rfl) .nil (ZJ hF (.b 2::.s (cR (cR (cR (cR (cR (bodyOf Tryz.f81))))))::[]) n a i n (wi .i64 (a6-1)) d2 _ d4 ?_)
      cases d3 with
      | x0 e g =>
       try dsimp only at h
       by_cases a7:i > e
       ·rw [if_pos a7] at h
        by_cases b2:0≤a∧(a).toNat<g.length
        ·rw [if_pos b2] at h
         obtain ⟨x,d5,h⟩:=bind_some h
         by_cases b3:0≤e∧(e).toNat<g.length
         ·rw [if_pos b3] at h
          obtain ⟨a4,d6,h⟩:=bind_some h
          by_cases b4:0≤e∧(e).toNat<g.length
          ·rw [if_pos b4] at h
           obtain ⟨d7,d8,h⟩:=bind_some h
           by_cases b5:0≤a∧(a).toNat<(g.set (e).toNat x).length
           ·rw [if_pos b5] at h
            obtain ⟨d9,e0,h⟩:=bind_some h
            obtain rfl:=Option.some.inj h
            exact pendH_sound TTok mix 11 (hs:=[.t true,.y ((eI .i64) x),.y ((eI .i64) a4),.w ((g.set (e).toNat x).map (eI .i64)),.y ((eI .i64) d7),.w (((g.set (e).toNat x).set (a).toNat a4).map (eI .i64)),.y ((eI .i64) d9)]) [1] (by kernel_rfl) (by kernel_rfl) (by kernel_rfl) (.cons (dt a7) (.cons (idx_ob (f:=(eI .i64)) b2) (.cons (get_ob (f:=(eI .i64)) d5) (.cons (idx_ob (f:=(eI .i64)) b3) (.cons (get_ob (f:=(eI .i64)) d6) (.cons (idx_ob (f:=(eI .i64)) b4) (.cons (get_ob (f:=(eI .i64)) d8) (.cons (Eq.refl (pcells (.v (.int .i64 x)))) (.cons (set_ob (f:=(eI .i64)) (l:=g) (k:=(e).toNat) (z:=x) (p:=.v (.int .i64 x)) rfl) (.cons (idx_ob (f:=(eI .i64)) b5) (.cons (get_ob (f:=(eI .i64)) e0) (.cons (Eq.refl (pcells (.v (.int .i64 a4)))) (.cons (set_ob (f:=(eI .i64)) (l:=(g.set (e).toNat x)) (k:=(a).toNat) (z:=a4) (p:=.v (.int .i64 a4)) rfl) .nil)))))))))))))
           ·rw [if_neg b5] at h; cases h
          ·rw [if_neg b4] at h; cases h
         ·rw [if_neg b3] at h; cases h
        ·rw [if_neg b2] at h; cases h
       ·rw [if_neg a7] at h
        by_cases b6:0≤e∧(e).toNat<g.length
        ·rw [if_pos b6] at h
         obtain ⟨q,e1,h⟩:=bind_some h
         by_cases b7:0≤i∧(i).toNat<g.length
         ·rw [if_pos b7] at h
          obtain ⟨a3,e2,h⟩:=bind_some h
          by_cases b8:0≤i∧(i).toNat<g.length
          ·rw [if_pos b8] at h
           obtain ⟨e3,e4,h⟩:=bind_some h
           by_cases b9:0≤e∧(e).toNat<(g.set (i).toNat q).length
           ·rw [if_pos b9] at h
            obtain ⟨e5,e6,h⟩:=bind_some h
            obtain ⟨e7,e8,h⟩:=bind_some h
            refine pkk_sound TTok mix hF 15 (hs:=[.t false,.y ((eI .i64) q),.y ((eI .i64) a3),.w ((g.set (i).toNat q).map (eI .i64)),.y ((eI .i64) e3),.w (((g.set (i).toNat q).set (e).toNat a3).map (eI .i64)),.y ((eI .i64) e5),.n n]) (ts:=[]) (s:=[0,1]) (l:=[0,1,10,11]) (by kernel_rfl) (by kernel_rfl) (.cons (df a7) (.cons (idx_ob (f:=(eI .i64)) b6) (.cons (get_ob (f:=(eI .i64)) e1) (.cons (idx_ob (f:=(eI .i64)) b7) (.cons (get_ob (f:=(eI .i64)) e2) (.cons (idx_ob (f:=(eI .i64)) b8) (.cons (get_ob (f:=(eI .i64)) e4) (.cons (Eq.refl (pcells (.v (.int .i64 q)))) (.cons (set_ob (f:=(eI .i64)) (l:=g) (k:=(i).toNat) (z:=q) (p:=.v (.int .i64 q)) rfl) (.cons (idx_ob (f:=(eI .i64)) b9) (.cons (get_ob (f:=(eI .i64)) e6) (.cons (Eq.refl (pcells (.v (.int .i64 a3)))) (.cons (set_ob (f:=(eI .i64)) (l:=(g.set (i).toNat q)) (k:=(e).toNat) (z:=a3) (p:=.v (.int .i64 a3)) rfl) .nil))))))))))))) (ZM hF (.b 4::.s (cR (cR (cR (cR (cR (cR (cR (cR (cR (cR (bodyOf Tryz.f81)))))))))))::[]) n a n (wi .i64 (i+1)) (wi .i64 (e-1)) ((g.set (i).toNat q).set (e).toNat a3) _ e8 ?_)
            cases e7 with
            | x0 u a0 =>
             try dsimp only at h
             by_cases c0:0≤a∧(a).toNat<a0.length
             ·rw [if_pos c0] at h
              obtain ⟨a1,e9,h⟩:=bind_some h
              by_cases c1:0≤u∧(u).toNat<a0.length
              ·rw [if_pos c1] at h
               obtain ⟨a5,f0,h⟩:=bind_some h
               by_cases c2:0≤u∧(u).toNat<a0.length
               ·rw [if_pos c2] at h
                obtain ⟨f1,f2,h⟩:=bind_some h
                by_cases c3:0≤a∧(a).toNat<(a0.set (u).toNat a1).length
                ·rw [if_pos c3] at h
                 obtain ⟨f3,f4,h⟩:=bind_some h
                 obtain rfl:=Option.some.inj h
                 exact pendH_sound TTok mix 6 (hs:=[.y ((eI .i64) a1),.y ((eI .i64) a5),.w ((a0.set (u).toNat a1).map (eI .i64)),.y ((eI .i64) f1),.w (((a0.set (u).toNat a1).set (a).toNat a5).map (eI .i64)),.y ((eI .i64) f3)]) [1] (by kernel_rfl) (by kernel_rfl) (by kernel_rfl) (.cons (idx_ob (f:=(eI .i64)) c0) (.cons (get_ob (f:=(eI .i64)) e9) (.cons (idx_ob (f:=(eI .i64)) c1) (.cons (get_ob (f:=(eI .i64)) f0) (.cons (idx_ob (f:=(eI .i64)) c2) (.cons (get_ob (f:=(eI .i64)) f2) (.cons (Eq.refl (pcells (.v (.int .i64 a1)))) (.cons (set_ob (f:=(eI .i64)) (l:=a0) (k:=(u).toNat) (z:=a1) (p:=.v (.int .i64 a1)) rfl) (.cons (idx_ob (f:=(eI .i64)) c3) (.cons (get_ob (f:=(eI .i64)) f4) (.cons (Eq.refl (pcells (.v (.int .i64 a5)))) (.cons (set_ob (f:=(eI .i64)) (l:=(a0.set (u).toNat a1)) (k:=(a).toNat) (z:=a5) (p:=.v (.int .i64 a5)) rfl) .nil))))))))))))
                ·rw [if_neg c3] at h; cases h
               ·rw [if_neg c2] at h; cases h
              ·rw [if_neg c1] at h; cases h
             ·rw [if_neg c0] at h; cases h
           ·rw [if_neg b9] at h; cases h
          ·rw [if_neg b8] at h; cases h
         ·rw [if_neg b7] at h; cases h
        ·rw [if_neg b6] at h; cases h
    ·rw [if_neg b1] at h; cases h
   ·rw [if_neg b0] at h; cases h
  ·rw [if_neg a9] at h; cases h
 ·rw [if_neg a8] at h; cases h
inductive Ka where
 | x0 (a:Int) (b:(List Int))
def XR:Ka→Ex
 | .x0 _ _=>.normal
def XS (a b h:Int) (c e:Bool) (i:(List Int)):Ka→PS
 | .x0 f g=>⟨(.srf 1::di a::di b::di f::dd::dd::dd::dd::.d (.v (.bool c))::.d (.v (.bool e))::di (wi .i64 (b-a))::(dds 123 [])),[.gh 0 (.srf 1),.row 3 1 (g.map (eI .i64))]⟩
def XT (a b e:Int) (c f:Bool) (g:(List Int))  : PS:=⟨(.srf 1::di a::di b::di e::dd::dd::dd::dd::.d (.v (.bool c))::.d (.v (.bool f))::di (wi .i64 (b-a))::(dds 24 (.d (.v (.bool (!c)))::(dds 98 [])))),[.gh 0 (.srf 1),.row 3 1 (g.map (eI .i64))]⟩
def SH (n:Nat) (c d a:Int) (e g:Bool) (b:(List Int)):Option Ka :=
 if e=true then
  some (.x0 a b)
 else
  (Sq n b c d).bind fun (f:((List Int))) =>
  some (.x0 (wi .i64 (a-1)) f)
theorem XU {Fi:Ex→PS→Prop} (hF:KC 134 Fi) (ks:List Fr) (n:Nat) (a b f:Int) (c g:Bool) (d:(List Int))  (o:Ka) (h:SH n a b f c g d=some o) (q:RunE Tryz.prog 134 Fi ks (XR o) (XS a b f c g d o)):RunE Tryz.prog 134 Fi (.s (cR (cL (cR (cR (cR (cB (cP (cB (cR (cR (bodyOf Tryz.f50)))))))))))::ks) .normal (XT a b f c g d):=by
 unfold SH at h
 by_cases e:c=true
 ·rw [if_pos e] at h
  cases h
  exact pkk_sound TTok mix hF 2 (hs:=[.t false]) (ts:=[]) (s:=[0,1]) (l:=[0,1,2,3,8,9,10]) (by kernel_rfl) (by kernel_rfl) (.cons (bnf e) .nil) q
 ·rw [if_neg e] at h
  obtain ⟨i,j,h⟩:=bind_some h
  cases h
  exact pkk_sound TTok mix hF 4 (hs:=[.t true,.h [1] [] [.row 3 1 (i.map (eI .i64))] (.tup [])]) (ts:=[]) (s:=[0,1]) (l:=[0,1,2,3,8,9,10]) (by kernel_rfl) (by kernel_rfl) (.cons (bnt (vf e)) (.cons (Xc n d a b _ j) .nil)) q
inductive Kb where
 | x0 (a b:Int) (c:(List Int))
def XV:Kb→Ex
 | .x0 _ _ _=>.normal
def XW (a b c:Int) (e f:Bool) (j:(Int×Int)) (k:(List Int)):Kb→PS
 | .x0 g h i=>⟨(.srf 1::di a::di b::di c::dd::dd::dd::dd::.d (.v (.bool e))::.d (.v (.bool f))::di (wi .i64 (b-a))::di g::di h::(dds 121 [])),[.gh 0 (.srf 1),.row 3 1 (i.map (eI .i64))]⟩
def XX (b c e:Int) (f g:Bool) (a:(Int×Int)) (h:(List Int))  : PS:=⟨(.srf 1::di b::di c::di e::dd::dd::dd::dd::.d (.v (.bool f))::.d (.v (.bool g))::di (wi .i64 (c-b))::di a.1::di a.2::(dds 37 (.d (.v (.bool (a.2 == 2)))::(dds 83 [])))),[.gh 0 (.srf 1),.row 3 1 (h.map (eI .i64))]⟩
def SI (n:Nat) (b c f:Int) (g h:Bool) (a:(Int×Int)) (d:(List Int)):Option Kb :=
 if a.2=2 then
  (Sx n d b c).bind fun (e:((List Int))) =>
  some (.x0 (wi .i64 ((wi .i64 (c-1))-(wi .i64 (a.1-b)))) 1 e)
 else
  some (.x0 a.1 a.2 d)
theorem XY {Fi:Ex→PS→Prop} (hF:KC 134 Fi) (ks:List Fr) (n:Nat) (a b f:Int) (g i:Bool) (c:(Int×Int)) (d:(List Int))  (o:Kb) (h:SI n a b f g i c d=some o) (q:RunE Tryz.prog 134 Fi ks (XV o) (XW a b f g i c d o)):RunE Tryz.prog 134 Fi (.s (cR (cL (cR (cR (cR (cR (cR (cB (cP (cB (cR (cR (bodyOf Tryz.f50)))))))))))))::ks) .normal (XX a b f g i c d):=by
 unfold SI at h
 by_cases e:c.2=2
 ·rw [if_pos e] at h
  obtain ⟨j,k,h⟩:=bind_some h
  cases h
  exact pkk_sound TTok mix hF 6 (hs:=[.t true,.h [1] [] [.row 3 1 (j.map (eI .i64))] (.tup [])]) (ts:=[]) (s:=[0,1]) (l:=[0,1,2,3,8,9,10,11,12]) (by kernel_rfl) (by kernel_rfl) (.cons (bt e) (.cons (Xj n d a b _ k) .nil)) q
 ·rw [if_neg e] at h
  cases h
  exact pkk_sound TTok mix hF 2 (hs:=[.t false]) (ts:=[]) (s:=[0,1]) (l:=[0,1,2,3,8,9,10,11,12]) (by kernel_rfl) (by kernel_rfl) (.cons (bf e) .nil) q
inductive Kc where
 | x0 (a:(List Int))
 | x1 (b:(List Int))
def XZ:Kc→Ex
 | .x0 _=>.ret
 | .x1 _=>.normal
def X0 (a b c:Int) (e f:Bool) (g j:Int) (k:(List Int)):Kc→PS
 | .x0 h=>⟨(dds 134 []),[.gh 0 (.srf 1),.row 3 1 (h.map (eI .i64))]⟩
 | .x1 i=>⟨(.srf 1::di a::di b::di c::dd::dd::dd::dd::.d (.v (.bool e))::.d (.v (.bool f))::di (wi .i64 (b-a))::di g::(dds 122 [])),[.gh 0 (.srf 1),.row 3 1 (i.map (eI .i64))]⟩
def X1 (a b c:Int) (e f:Bool) (g h:Int) (i:(List Int))  : PS:=⟨(.srf 1::di a::di b::di c::dd::dd::dd::dd::.d (.v (.bool e))::.d (.v (.bool f))::di (wi .i64 (b-a))::di g::(dds 56 (.d (.v (.bool (h == 1)))::(dds 65 [])))),[.gh 0 (.srf 1),.row 3 1 (i.map (eI .i64))]⟩
def SJ (n:Nat) (c d f:Int) (g h:Bool) (i e:Int) (b:(List Int)):Option Kc :=
 if e=1 then
  (GX n b c d).bind fun (a:(Bool×(List Int))) =>
  if a.1=true then
   some (.x0 a.2)
  else
   some (.x1 a.2)
 else
  some (.x1 b)
theorem X2 {Fi:Ex→PS→Prop} (hF:KC 134 Fi) (ks:List Fr) (n:Nat) (a b j:Int) (k m:Bool) (p g:Int) (c:(List Int))  (o:Kc) (h:SJ n a b j k m p g c=some o) (q:RunE Tryz.prog 134 Fi ks (XZ o) (X0 a b j k m p g c o)):RunE Tryz.prog 134 Fi (.s (cR (cL (cR (cR (cR (cR (cR (cR (cB (cP (cB (cR (cR (bodyOf Tryz.f50))))))))))))))::ks) .normal (X1 a b j k m p g c):=by
 unfold SJ at h
 by_cases e:g=1
 ·rw [if_pos e] at h
  obtain ⟨f,r,h⟩:=bind_some h
  by_cases i:f.1=true
  ·rw [if_pos i] at h
   cases h
   exact pkk_sound TTok mix hF 5 (hs:=[.t true,.h [1] [] [.row 3 1 (f.2.map (eI .i64))] (.d (.v (.bool f.1))),.t true]) (ts:=[]) (s:=[0,1]) (l:=[]) (by kernel_rfl) (by kernel_rfl) (.cons (bt e) (.cons (K4 n c a b _ r) (.cons i .nil))) q
  ·rw [if_neg i] at h
   cases h
   exact pkk_sound TTok mix hF 5 (hs:=[.t true,.h [1] [] [.row 3 1 (f.2.map (eI .i64))] (.d (.v (.bool f.1))),.t false]) (ts:=[]) (s:=[0,1]) (l:=[0,1,2,3,8,9,10,11]) (by kernel_rfl) (by kernel_rfl) (.cons (bt e) (.cons (K4 n c a b _ r) (.cons (vf i) .nil))) q
 ·rw [if_neg e] at h
  cases h
  exact pkk_sound TTok mix hF 2 (hs:=[.t false]) (ts:=[]) (s:=[0,1]) (l:=[0,1,2,3,8,9,10,11]) (by kernel_rfl) (by kernel_rfl) (.cons (bf e) .nil) q
inductive Sy where
 | x0 (a:Bool) (b:(List Int))
def X3:Sy→Ex
 | .x0 _ _=>.normal
def X4 (a b c:Int) (e f:Bool) (g:Int) (j:(List Int)):Sy→PS
 | .x0 h i=>⟨(.srf 1::di a::di b::di c::dd::dd::dd::dd::.d (.v (.bool e))::.d (.v (.bool f))::di (wi .i64 (b-a))::di g::(dds 75 (.d (.v (.bool h))::(dds 46 [])))),[.gh 0 (.srf 1),.row 3 1 (i.map (eI .i64))]⟩
def X5 (a b c:Int) (e f:Bool) (g:Int) (h:(List Int))  : PS:=⟨(.srf 1::di a::di b::di c::dd::dd::dd::dd::.d (.v (.bool e))::.d (.v (.bool f))::di (wi .i64 (b-a))::di g::(dds 122 [])),[.gh 0 (.srf 1),.row 3 1 (h.map (eI .i64))]⟩
def Km (n:Nat) (b g h:Int) (i j:Bool) (c:Int) (a:(List Int)):Option Sy :=
 if b > 0 then
  if 0≤(wi .i64 (b-1))∧((wi .i64 (b-1))).toNat<a.length then
   (a[((wi .i64 (b-1))).toNat]?).bind fun (d:Int) =>
   if 0≤c∧(c).toNat<a.length then
    (a[(c).toNat]?).bind fun (e:Int) =>
    (Gj n d e).bind fun (f:(Bool)) =>
    some (.x0 (!f) a)
   else none
  else none
 else
  some (.x0 false a)
theorem X6 {Fi:Ex→PS→Prop} (hF:KC 134 Fi) (ks:List Fr) (n:Nat) (a g i:Int) (j k:Bool) (b:Int) (d:(List Int))  (o:Sy) (h:Km n a g i j k b d=some o) (q:RunE Tryz.prog 134 Fi ks (X3 o) (X4 a g i j k b d o)):RunE Tryz.prog 134 Fi (.s (cL (cL (cR (cR (cR (cR (cR (cR (cR (cB (cP (cB (cR (cR (bodyOf Tryz.f50)))))))))))))))::ks) .normal (X5 a g i j k b d):=by
 unfold Km at h
 by_cases e:a > 0
 ·rw [if_pos e] at h
  by_cases m:0≤(wi .i64 (a-1))∧((wi .i64 (a-1))).toNat<d.length
  ·rw [if_pos m] at h
   obtain ⟨u,w,h⟩:=bind_some h
   by_cases p:0≤b∧(b).toNat<d.length
   ·rw [if_pos p] at h
    obtain ⟨v,x,h⟩:=bind_some h
    obtain ⟨z,a0,h⟩:=bind_some h
    cases h
    exact pkk_sound TTok mix hF 1 (hs:=[.t true,.c,.c,.c,.c,.y ((eI .i64) u),.c,.c,.c,.c,.y ((eI .i64) v),.c,.r (eB z),.c]) (ts:=[]) (s:=[0,1]) (l:=[0,1,2,3,8,9,10,11,87]) (by kernel_rfl) (by kernel_rfl) (.cons (dt e) (.cons (idx_ob (f:=(eI .i64)) m) (.cons (get_ob (f:=(eI .i64)) w) (.cons (idx_ob (f:=(eI .i64)) p) (.cons (get_ob (f:=(eI .i64)) x) (.cons (Gn n u v _ a0) .nil)))))) q
   ·rw [if_neg p] at h; cases h
  ·rw [if_neg m] at h; cases h
 ·rw [if_neg e] at h
  cases h
  exact pkk_sound TTok mix hF 1 (hs:=[.t false,.c,.c,.c,.c,.c,.c,.c,.c,.c,.c]) (ts:=[]) (s:=[0,1]) (l:=[0,1,2,3,8,9,10,11,87]) (by kernel_rfl) (by kernel_rfl) (.cons (df e) .nil) q
inductive Sz where
 | x0 (a:Bool) (b:(List Int))
def X7:Sz→Ex
 | .x0 _ _=>.normal
def X8 (a b c:Int) (e f:Bool) (g:Int) (j:(List Int)):Sz→PS
 | .x0 h i=>⟨(.srf 1::di a::di b::di c::dd::dd::dd::dd::.d (.v (.bool e))::.d (.v (.bool f))::di (wi .i64 (b-a))::di g::(dds 75 (.d (.v (.bool h))::(dds 46 [])))),[.gh 0 (.srf 1),.row 3 1 (i.map (eI .i64))]⟩
def X9 (a b c:Int) (e f:Bool) (g:Int) (h:(List Int))  : PS:=⟨(.srf 1::di a::di b::di c::dd::dd::dd::dd::.d (.v (.bool e))::.d (.v (.bool f))::di (wi .i64 (b-a))::di g::(dds 122 [])),[.gh 0 (.srf 1),.row 3 1 (h.map (eI .i64))]⟩
def Kn (n:Nat) (b g h:Int) (i j:Bool) (c:Int) (a:(List Int)):Option Sz :=
 if b > 0 then
  if 0≤(wi .i64 (b-1))∧((wi .i64 (b-1))).toNat<a.length then
   (a[((wi .i64 (b-1))).toNat]?).bind fun (d:Int) =>
   if 0≤c∧(c).toNat<a.length then
    (a[(c).toNat]?).bind fun (e:Int) =>
    (Gj n d e).bind fun (f:(Bool)) =>
    some (.x0 (!f) a)
   else none
  else none
 else
  some (.x0 false a)
theorem Ua {Fi:Ex→PS→Prop} (hF:KC 134 Fi) (ks:List Fr) (n:Nat) (a g i:Int) (j k:Bool) (b:Int) (d:(List Int))  (o:Sz) (h:Kn n a g i j k b d=some o) (q:RunE Tryz.prog 134 Fi ks (X7 o) (X8 a g i j k b d o)):RunE Tryz.prog 134 Fi (.s (cL (cL (cR (cR (cR (cR (cR (cR (cR (cB (cP (cB (cR (cR (bodyOf Tryz.f50)))))))))))))))::ks) .normal (X9 a g i j k b d):=by
 unfold Kn at h
 by_cases e:a > 0
 ·rw [if_pos e] at h
  by_cases m:0≤(wi .i64 (a-1))∧((wi .i64 (a-1))).toNat<d.length
  ·rw [if_pos m] at h
   obtain ⟨u,w,h⟩:=bind_some h
   by_cases p:0≤b∧(b).toNat<d.length
   ·rw [if_pos p] at h
    obtain ⟨v,x,h⟩:=bind_some h
    obtain ⟨z,a0,h⟩:=bind_some h
    cases h
    exact pkk_sound TTok mix hF 1 (hs:=[.t true,.c,.c,.c,.c,.y ((eI .i64) u),.c,.c,.c,.c,.y ((eI .i64) v),.c,.r (eB z),.c]) (ts:=[]) (s:=[0,1]) (l:=[0,1,2,3,8,9,10,11,87]) (by kernel_rfl) (by kernel_rfl) (.cons (dt e) (.cons (idx_ob (f:=(eI .i64)) m) (.cons (get_ob (f:=(eI .i64)) w) (.cons (idx_ob (f:=(eI .i64)) p) (.cons (get_ob (f:=(eI .i64)) x) (.cons (Gn n u v _ a0) .nil)))))) q
   ·rw [if_neg p] at h; cases h
  ·rw [if_neg m] at h; cases h
 ·rw [if_neg e] at h
  cases h
  exact pkk_sound TTok mix hF 1 (hs:=[.t false,.c,.c,.c,.c,.c,.c,.c,.c,.c,.c]) (ts:=[]) (s:=[0,1]) (l:=[0,1,2,3,8,9,10,11,87]) (by kernel_rfl) (by kernel_rfl) (.cons (df e) .nil) q
inductive SA where
 | x0 (a:Bool) (b:(List Int))
def Ub:SA→Ex
 | .x0 _ _=>.normal
def Uc (a b c:Int) (e f:Bool) (g:Int) (j:(List Int)):SA→PS
 | .x0 h i=>⟨(.srf 1::di a::di b::di c::dd::dd::dd::dd::.d (.v (.bool e))::.d (.v (.bool f))::di (wi .i64 (b-a))::di g::(dds 75 (.d (.v (.bool h))::(dds 46 [])))),[.gh 0 (.srf 1),.row 3 1 (i.map (eI .i64))]⟩
def Ud (a b c:Int) (e f:Bool) (g:Int) (h:(List Int))  : PS:=⟨(.srf 1::di a::di b::di c::dd::dd::dd::dd::.d (.v (.bool e))::.d (.v (.bool f))::di (wi .i64 (b-a))::di g::(dds 122 [])),[.gh 0 (.srf 1),.row 3 1 (h.map (eI .i64))]⟩
def Ko (n:Nat) (b g h:Int) (i j:Bool) (c:Int) (a:(List Int)):Option SA :=
 if b > 0 then
  if 0≤(wi .i64 (b-1))∧((wi .i64 (b-1))).toNat<a.length then
   (a[((wi .i64 (b-1))).toNat]?).bind fun (d:Int) =>
   if 0≤c∧(c).toNat<a.length then
    (a[(c).toNat]?).bind fun (e:Int) =>
    (Gj n d e).bind fun (f:(Bool)) =>
    some (.x0 (!f) a)
   else none
  else none
 else
  some (.x0 false a)
theorem Ue {Fi:Ex→PS→Prop} (hF:KC 134 Fi) (ks:List Fr) (n:Nat) (a g i:Int) (j k:Bool) (b:Int) (d:(List Int))  (o:SA) (h:Ko n a g i j k b d=some o) (q:RunE Tryz.prog 134 Fi ks (Ub o) (Uc a g i j k b d o)):RunE Tryz.prog 134 Fi (.s (cL (cL (cR (cR (cR (cR (cR (cR (cR (cB (cP (cB (cR (cR (bodyOf Tryz.f50)))))))))))))))::ks) .normal (Ud a g i j k b d):=by
 unfold Ko at h
 by_cases e:a > 0
 ·rw [if_pos e] at h
  by_cases m:0≤(wi .i64 (a-1))∧((wi .i64 (a-1))).toNat<d.length
  ·rw [if_pos m] at h
   obtain ⟨u,w,h⟩:=bind_some h
   by_cases p:0≤b∧(b).toNat<d.length
   ·rw [if_pos p] at h
    obtain ⟨v,x,h⟩:=bind_some h
    obtain ⟨z,a0,h⟩:=bind_some h
    cases h
    exact pkk_sound TTok mix hF 1 (hs:=[.t true,.c,.c,.c,.c,.y ((eI .i64) u),.c,.c,.c,.c,.y ((eI .i64) v),.c,.r (eB z),.c]) (ts:=[]) (s:=[0,1]) (l:=[0,1,2,3,8,9,10,11,87]) (by kernel_rfl) (by kernel_rfl) (.cons (dt e) (.cons (idx_ob (f:=(eI .i64)) m) (.cons (get_ob (f:=(eI .i64)) w) (.cons (idx_ob (f:=(eI .i64)) p) (.cons (get_ob (f:=(eI .i64)) x) (.cons (Gn n u v _ a0) .nil)))))) q
   ·rw [if_neg p] at h; cases h
  ·rw [if_neg m] at h; cases h
 ·rw [if_neg e] at h
  cases h
  exact pkk_sound TTok mix hF 1 (hs:=[.t false,.c,.c,.c,.c,.c,.c,.c,.c,.c,.c]) (ts:=[]) (s:=[0,1]) (l:=[0,1,2,3,8,9,10,11,87]) (by kernel_rfl) (by kernel_rfl) (.cons (df e) .nil) q
inductive GO where
 | x0 (a:(List Int))
 | x1 (b c d:Int) (e f:Bool) (g:(List Int))
def Uf:GO→Ex
 | .x0 _=>.ret
 | .x1 _ _ _ _ _ _=>.normal
def Ug (i j k:Int) (l m:Bool) (n:(List Int)) (o:((List Int)→Int→Int→Int→Option ((List Int)))):GO→PS
 | .x0 a=>⟨(dds 134 []),[.gh 0 (.srf 1),.row 3 1 (a.map (eI .i64))]⟩
 | .x1 b c e f g h=>⟨(.srf 1::di b::di c::di e::dd::dd::dd::dd::.d (.v (.bool f))::.d (.v (.bool g))::(dds 124 [])),[.gh 0 (.srf 1),.row 3 1 (h.map (eI .i64))]⟩
def Uh (a b c:Int) (e f:Bool) (g:(List Int)) (h:((List Int)→Int→Int→Int→Option ((List Int))))  : PS:=⟨(.srf 1::di a::di b::di c::dd::dd::dd::dd::.d (.v (.bool e))::.d (.v (.bool f))::(dds 124 [])),[.gh 0 (.srf 1),.row 3 1 (g.map (eI .i64))]⟩
def SK (n:Nat) (b a m:Int) (g h:Bool) (k:(List Int)) (j:((List Int)→Int→Int→Int→Option ((List Int)))):Option GO :=
 if (wi .i64 (a-b))≤12 then
  (Sn n k b a).bind fun (v:((List Int))) =>
  some (.x0 v)
 else
  if m=0 then
   (SP n k b a).bind fun (w:((List Int))) =>
   some (.x0 w)
  else
   (SH n b a m g h k).bind fun x=>match x with
   | .x0 c o =>
    (SM n o b a).bind fun (y:(Int×Int)) =>
    (SI n b a c g h y o).bind fun z=>match z with
    | .x0 i a0 l =>
     if g=true then
      if h=true then
       (SJ n b a c g h i a0 l).bind fun a1=>match a1 with
       | .x0 a2 =>
         some (.x0 a2)
       | .x1 a3 =>
         (Km n b a c g h i a3).bind fun a4=>match a4 with
         | .x0 a5 p =>
           if a5=true then
            (Gy n p b a i).bind fun (q:(Int×(List Int))) =>
            some (.x1 q.1 a c g h q.2)
           else
            (GI n p b a i).bind fun (d:(Int×Bool×(List Int))) =>
            if (wi .i64 (d.1-b))<(wi .i64 (a-d.1)) then
             (j d.2.2 b d.1 c).bind fun (a6:((List Int))) =>
             some (.x1 (wi .i64 (d.1+1)) a c (decide ((wi .i64 (d.1-b))≥(quoI .i64 (wi .i64 (a-b)) 8))) d.2.1 a6)
            else
             (j d.2.2 (wi .i64 (d.1+1)) a c).bind fun (a7:((List Int))) =>
             some (.x1 b d.1 c (decide ((wi .i64 (a-d.1))≥(quoI .i64 (wi .i64 (a-b)) 8))) d.2.1 a7)
      else
       (Kn n b a c g h i l).bind fun a8=>match a8 with
       | .x0 a9 r =>
         if a9=true then
          (Gy n r b a i).bind fun (s:(Int×(List Int))) =>
          some (.x1 s.1 a c g h s.2)
         else
          (GI n r b a i).bind fun (e:(Int×Bool×(List Int))) =>
          if (wi .i64 (e.1-b))<(wi .i64 (a-e.1)) then
           (j e.2.2 b e.1 c).bind fun (b0:((List Int))) =>
           some (.x1 (wi .i64 (e.1+1)) a c (decide ((wi .i64 (e.1-b))≥(quoI .i64 (wi .i64 (a-b)) 8))) e.2.1 b0)
          else
           (j e.2.2 (wi .i64 (e.1+1)) a c).bind fun (b1:((List Int))) =>
           some (.x1 b e.1 c (decide ((wi .i64 (a-e.1))≥(quoI .i64 (wi .i64 (a-b)) 8))) e.2.1 b1)
     else
      (Ko n b a c g h i l).bind fun b2=>match b2 with
      | .x0 b3 t =>
        if b3=true then
         (Gy n t b a i).bind fun (u:(Int×(List Int))) =>
         some (.x1 u.1 a c g h u.2)
        else
         (GI n t b a i).bind fun (f:(Int×Bool×(List Int))) =>
         if (wi .i64 (f.1-b))<(wi .i64 (a-f.1)) then
          (j f.2.2 b f.1 c).bind fun (b4:((List Int))) =>
          some (.x1 (wi .i64 (f.1+1)) a c (decide ((wi .i64 (f.1-b))≥(quoI .i64 (wi .i64 (a-b)) 8))) f.2.1 b4)
         else
          (j f.2.2 (wi .i64 (f.1+1)) a c).bind fun (b5:((List Int))) =>
          some (.x1 b f.1 c (decide ((wi .i64 (a-f.1))≥(quoI .i64 (wi .i64 (a-b)) 8))) f.2.1 b5)
theorem Ui {Fi:Ex→PS→Prop} (hF:KC 134 Fi) (ks:List Fr) (n:Nat) (a e x:Int) (m p:Bool) (u:(List Int)) (a3:((List Int)→Int→Int→Int→Option ((List Int)))) (w:∀ (x0:(List Int)) (x1:Int) (x2:Int) (x3:Int) (r:(List Int)),a3 x0 x1 x2 x3=some r→RetH Tryz.prog 50 [.srf 0,.d ((eI .i64) x1),.d ((eI .i64) x2),.d ((eI .i64) x3)] [.row 3 1 (x0.map (eI .i64))] (.tup []) [.row 3 1 (r.map (eI .i64))]) (o:GO) (h:SK n a e x m p u a3=some o) (q:RunE Tryz.prog 134 Fi ks (Uf o) (Ug a e x m p u a3 o)):RunE Tryz.prog 134 Fi (.s (cP (cB (cR (cR (bodyOf Tryz.f50)))))::ks) .normal (Uh a e x m p u a3):=by
 unfold SK at h
 by_cases y:(wi .i64 (e-a))≤12
 ·rw [if_pos y] at h
  obtain ⟨c1,c2,h⟩:=bind_some h
  cases h
  exact pkk_sound TTok mix hF 12 (hs:=[.t true,.h [1] [] [.row 3 1 (c1.map (eI .i64))] (.tup [])]) (ts:=[]) (s:=[0,1]) (l:=[]) (by kernel_rfl) (by kernel_rfl) (.cons (dt y) (.cons (Xb n u a e _ c2) .nil)) q
 ·rw [if_neg y] at h
  by_cases a4:x=0
  ·rw [if_pos a4] at h
   obtain ⟨c3,c4,h⟩:=bind_some h
   cases h
   exact pkk_sound TTok mix hF 17 (hs:=[.t false,.t true,.h [1] [] [.row 3 1 (c3.map (eI .i64))] (.tup [])]) (ts:=[]) (s:=[0,1]) (l:=[]) (by kernel_rfl) (by kernel_rfl) (.cons (df y) (.cons (bt a4) (.cons (Uq n u a e _ c4) .nil))) q
  ·rw [if_neg a4] at h
   obtain ⟨c5,c6,h⟩:=bind_some h
   refine pkk_sound TTok mix hF 16 (hs:=[.t false,.t false]) (ts:=[]) (s:=[0,1]) (l:=[0,1,2,3,8,9,10,35]) (by kernel_rfl) (by kernel_rfl) (.cons (df y) (.cons (bf a4) .nil)) (XU hF (.s (cR (cR (cR (cR (cB (cP (cB (cR (cR (bodyOf Tryz.f50))))))))))::.b 1::ks) n a e x m p u _ c6 ?_)
   cases c5 with
   | x0 k b4 =>
    try dsimp only at h
    obtain ⟨a9,c7,h⟩:=bind_some h
    obtain ⟨c8,c9,h⟩:=bind_some h
    refine pkk_sound TTok mix hF 5 (hs:=[.c,.r (.tup [(eI .i64) a9.1,(eI .i64) a9.2])]) (ts:=[]) (s:=[0,1]) (l:=[0,1,2,3,8,9,10,11,12,50]) (by kernel_rfl) (by kernel_rfl) (.cons (Un n b4 a e _ c7) .nil) (XY hF (.s (cR (cR (cR (cR (cR (cR (cB (cP (cB (cR (cR (bodyOf Tryz.f50))))))))))))::.b 1::ks) n a e k m p a9 b4 _ c9 ?_)
    cases c8 with
    | x0 f d0 b0 =>
     try dsimp only at h
     by_cases z:m=true
     ·rw [if_pos z] at h
      by_cases a5:p=true
      ·rw [if_pos a5] at h
       obtain ⟨d1,d2,h⟩:=bind_some h
       refine pkk_sound TTok mix hF 3 (hs:=[.t true,.t true,.c]) (ts:=[]) (s:=[0,1]) (l:=[0,1,2,3,8,9,10,11,68]) (by kernel_rfl) (by kernel_rfl) (.cons z (.cons a5 .nil)) (X2 hF (.s (cR (cR (cR (cR (cR (cR (cR (cB (cP (cB (cR (cR (bodyOf Tryz.f50)))))))))))))::.b 1::ks) n a e k m p f d0 b0 _ d2 ?_)
       cases d1 with
       | x0 f8 =>
        try dsimp only at h
        cases h
        exact pkk_sound TTok mix hF 2 (hs:=[]) (ts:=[]) (s:=[0,1]) (l:=[]) (by kernel_rfl) (by kernel_rfl) .nil q
       | x1 d3 =>
        try dsimp only at h
        obtain ⟨d4,d5,h⟩:=bind_some h
        refine pkk_sound TTok mix hF 2 (hs:=[]) (ts:=[]) (s:=[0,1]) (l:=[0,1,2,3,8,9,10,11]) (by kernel_rfl) (by kernel_rfl) .nil (X6 hF (.s (cR (cL (cR (cR (cR (cR (cR (cR (cR (cB (cP (cB (cR (cR (bodyOf Tryz.f50)))))))))))))))::.s (cR (cR (cR (cR (cR (cR (cR (cR (cB (cP (cB (cR (cR (bodyOf Tryz.f50))))))))))))))::.b 1::ks) n a e k m p f d3 _ d5 ?_)
        cases d4 with
        | x0 d6 b1 =>
         try dsimp only at h
         by_cases a0:d6=true
         ·rw [if_pos a0] at h
          obtain ⟨b5,d7,h⟩:=bind_some h
          cases h
          exact pkk_sound TTok mix hF 8 (hs:=[.t true,.h [1] [] [.row 3 1 (b5.2.map (eI .i64))] (di b5.1)]) (ts:=[]) (s:=[0,1]) (l:=[0,1,2,3,8,9]) (by kernel_rfl) (by kernel_rfl) (.cons a0 (.cons (Ks n b1 a e f _ d7) .nil)) q
         ·rw [if_neg a0] at h
          obtain ⟨g,b6,h⟩:=bind_some h
          by_cases a6:(wi .i64 (g.1-a))<(wi .i64 (e-g.1))
          ·rw [if_pos a6] at h
           obtain ⟨d8,d9,h⟩:=bind_some h
           cases h
           exact pkk_sound TTok mix hF 19 (hs:=[.t false,.h [1] [] [.row 3 1 (g.2.2.map (eI .i64))] (.tup [di g.1,.d (.v (.bool g.2.1))]),.t true,.h [1] [] [.row 3 1 (d8.map (eI .i64))] (.tup [])]) (ts:=[]) (s:=[0,1]) (l:=[0,1,2,3,8,9]) (by kernel_rfl) (by kernel_rfl) (.cons (vf a0) (.cons (G3 n b1 a e f _ b6) (.cons (show (8:Int)≠0 by decide) (.cons (dt a6) (.cons (w g.2.2 a g.1 k _ d9) .nil))))) q
          ·rw [if_neg a6] at h
           obtain ⟨e0,e1,h⟩:=bind_some h
           cases h
           exact pkk_sound TTok mix hF 19 (hs:=[.t false,.h [1] [] [.row 3 1 (g.2.2.map (eI .i64))] (.tup [di g.1,.d (.v (.bool g.2.1))]),.t false,.h [1] [] [.row 3 1 (e0.map (eI .i64))] (.tup [])]) (ts:=[]) (s:=[0,1]) (l:=[0,1,2,3,8,9]) (by kernel_rfl) (by kernel_rfl) (.cons (vf a0) (.cons (G3 n b1 a e f _ b6) (.cons (show (8:Int)≠0 by decide) (.cons (df a6) (.cons (w g.2.2 (wi .i64 (g.1+1)) e k _ e1) .nil))))) q
      ·rw [if_neg a5] at h
       obtain ⟨e2,e3,h⟩:=bind_some h
       refine pkk_sound TTok mix hF 7 (hs:=[.t true,.t false,.c,.c]) (ts:=[]) (s:=[0,1]) (l:=[0,1,2,3,8,9,10,11]) (by kernel_rfl) (by kernel_rfl) (.cons z (.cons (vf a5) .nil)) (Ua hF (.s (cR (cL (cR (cR (cR (cR (cR (cR (cR (cB (cP (cB (cR (cR (bodyOf Tryz.f50)))))))))))))))::.s (cR (cR (cR (cR (cR (cR (cR (cR (cB (cP (cB (cR (cR (bodyOf Tryz.f50))))))))))))))::.b 1::ks) n a e k m p f b0 _ e3 ?_)
       cases e2 with
       | x0 e4 b2 =>
        try dsimp only at h
        by_cases a1:e4=true
        ·rw [if_pos a1] at h
         obtain ⟨b7,e5,h⟩:=bind_some h
         cases h
         exact pkk_sound TTok mix hF 8 (hs:=[.t true,.h [1] [] [.row 3 1 (b7.2.map (eI .i64))] (di b7.1)]) (ts:=[]) (s:=[0,1]) (l:=[0,1,2,3,8,9]) (by kernel_rfl) (by kernel_rfl) (.cons a1 (.cons (Ks n b2 a e f _ e5) .nil)) q
        ·rw [if_neg a1] at h
         obtain ⟨i,b8,h⟩:=bind_some h
         by_cases a7:(wi .i64 (i.1-a))<(wi .i64 (e-i.1))
         ·rw [if_pos a7] at h
          obtain ⟨e6,e7,h⟩:=bind_some h
          cases h
          exact pkk_sound TTok mix hF 19 (hs:=[.t false,.h [1] [] [.row 3 1 (i.2.2.map (eI .i64))] (.tup [di i.1,.d (.v (.bool i.2.1))]),.t true,.h [1] [] [.row 3 1 (e6.map (eI .i64))] (.tup [])]) (ts:=[]) (s:=[0,1]) (l:=[0,1,2,3,8,9]) (by kernel_rfl) (by kernel_rfl) (.cons (vf a1) (.cons (G3 n b2 a e f _ b8) (.cons (show (8:Int)≠0 by decide) (.cons (dt a7) (.cons (w i.2.2 a i.1 k _ e7) .nil))))) q
         ·rw [if_neg a7] at h
          obtain ⟨e8,e9,h⟩:=bind_some h
          cases h
          exact pkk_sound TTok mix hF 19 (hs:=[.t false,.h [1] [] [.row 3 1 (i.2.2.map (eI .i64))] (.tup [di i.1,.d (.v (.bool i.2.1))]),.t false,.h [1] [] [.row 3 1 (e8.map (eI .i64))] (.tup [])]) (ts:=[]) (s:=[0,1]) (l:=[0,1,2,3,8,9]) (by kernel_rfl) (by kernel_rfl) (.cons (vf a1) (.cons (G3 n b2 a e f _ b8) (.cons (show (8:Int)≠0 by decide) (.cons (df a7) (.cons (w i.2.2 (wi .i64 (i.1+1)) e k _ e9) .nil))))) q
     ·rw [if_neg z] at h
      obtain ⟨f0,f1,h⟩:=bind_some h
      refine pkk_sound TTok mix hF 7 (hs:=[.t false,.c,.c,.c]) (ts:=[]) (s:=[0,1]) (l:=[0,1,2,3,8,9,10,11]) (by kernel_rfl) (by kernel_rfl) (.cons (vf z) .nil) (Ue hF (.s (cR (cL (cR (cR (cR (cR (cR (cR (cR (cB (cP (cB (cR (cR (bodyOf Tryz.f50)))))))))))))))::.s (cR (cR (cR (cR (cR (cR (cR (cR (cB (cP (cB (cR (cR (bodyOf Tryz.f50))))))))))))))::.b 1::ks) n a e k m p f b0 _ f1 ?_)
      cases f0 with
      | x0 f2 b3 =>
       try dsimp only at h
       by_cases a2:f2=true
       ·rw [if_pos a2] at h
        obtain ⟨b9,f3,h⟩:=bind_some h
        cases h
        exact pkk_sound TTok mix hF 8 (hs:=[.t true,.h [1] [] [.row 3 1 (b9.2.map (eI .i64))] (di b9.1)]) (ts:=[]) (s:=[0,1]) (l:=[0,1,2,3,8,9]) (by kernel_rfl) (by kernel_rfl) (.cons a2 (.cons (Ks n b3 a e f _ f3) .nil)) q
       ·rw [if_neg a2] at h
        obtain ⟨j,c0,h⟩:=bind_some h
        by_cases a8:(wi .i64 (j.1-a))<(wi .i64 (e-j.1))
        ·rw [if_pos a8] at h
         obtain ⟨f4,f5,h⟩:=bind_some h
         cases h
         exact pkk_sound TTok mix hF 19 (hs:=[.t false,.h [1] [] [.row 3 1 (j.2.2.map (eI .i64))] (.tup [di j.1,.d (.v (.bool j.2.1))]),.t true,.h [1] [] [.row 3 1 (f4.map (eI .i64))] (.tup [])]) (ts:=[]) (s:=[0,1]) (l:=[0,1,2,3,8,9]) (by kernel_rfl) (by kernel_rfl) (.cons (vf a2) (.cons (G3 n b3 a e f _ c0) (.cons (show (8:Int)≠0 by decide) (.cons (dt a8) (.cons (w j.2.2 a j.1 k _ f5) .nil))))) q
        ·rw [if_neg a8] at h
         obtain ⟨f6,f7,h⟩:=bind_some h
         cases h
         exact pkk_sound TTok mix hF 19 (hs:=[.t false,.h [1] [] [.row 3 1 (j.2.2.map (eI .i64))] (.tup [di j.1,.d (.v (.bool j.2.1))]),.t false,.h [1] [] [.row 3 1 (f6.map (eI .i64))] (.tup [])]) (ts:=[]) (s:=[0,1]) (l:=[0,1,2,3,8,9]) (by kernel_rfl) (by kernel_rfl) (.cons (vf a2) (.cons (G3 n b3 a e f _ c0) (.cons (show (8:Int)≠0 by decide) (.cons (df a8) (.cons (w j.2.2 (wi .i64 (j.1+1)) e k _ f7) .nil))))) q
inductive Kd where
 | x0 (a:(List Int))
def Uj:Kd→Ex
 | .x0 _=>.ret
def Uk (b:((List Int)→Int→Int→Int→Option ((List Int)))):Kd→PS
 | .x0 a=>⟨(dds 134 []),[.gh 0 (.srf 1),.row 3 1 (a.map (eI .i64))]⟩
def Ul (h:((List Int)→Int→Int→Int→Option ((List Int)))) (a b c:Int) (e f:Bool) (g:(List Int)):PS:=⟨(.srf 1::di a::di b::di c::dd::dd::dd::dd::.d (.v (.bool e))::.d (.v (.bool f))::(dds 124 [])),[.gh 0 (.srf 1),.row 3 1 (g.map (eI .i64))]⟩
def GU (n:Nat) (a:((List Int)→Int→Int→Int→Option ((List Int)))):Nat→Int→Int→Int→Bool→Bool→(List Int)→Option Kd
 | 0,_,_,_,_,_,_=>none
 | k+1,b,c,d,e,f,g =>
  (SK n b c d e f g a).bind fun h=>match h with
  | .x0 i =>
   some (.x0 i)
  | .x1 j l m o p q =>
   GU n a k j l m o p q
theorem ZW {Fi:Ex→PS→Prop} (hF:KC 134 Fi) (ks:List Fr) (n:Nat) (a:((List Int)→Int→Int→Int→Option ((List Int)))) (j:∀ (x0:(List Int)) (x1:Int) (x2:Int) (x3:Int) (r:(List Int)),a x0 x1 x2 x3=some r→RetH Tryz.prog 50 [.srf 0,.d ((eI .i64) x1),.d ((eI .i64) x2),.d ((eI .i64) x3)] [.row 3 1 (x0.map (eI .i64))] (.tup []) [.row 3 1 (r.map (eI .i64))]):∀ (k:Nat) (b c e:Int) (f g:Bool) (i:(List Int)) (o:Kd),GU n a k b c e f g i=some o→RunE Tryz.prog 134 Fi ks (Uj o) (Uk a o)→RunE Tryz.prog 134 Fi (.l k (cP (cB (cR (cR (bodyOf Tryz.f50)))))::ks) .normal (Ul a b c e f g i)
 | 0,b,c,e,f,g,i,o,h,q=>by rw [GU] at h; cases h
 | k+1,b,c,e,f,g,i,o,h,q=>by
  rw [GU] at h
  obtain ⟨m,p,h⟩:=bind_some h
  refine pkk_sound TTok mix hF 1 (hs:=[]) (ts:=[]) (s:=[0,1]) (l:=[0,1,2,3,8,9]) (by kernel_rfl) (by kernel_rfl) .nil (Ui hF (.l k (cP (cB (cR (cR (bodyOf Tryz.f50)))))::ks) n b c e f g i a j _ p ?_)
  cases m with
  | x0 z =>
   try dsimp only at h
   cases h
   exact pkk_sound TTok mix hF 1 (hs:=[]) (ts:=[]) (s:=[0,1]) (l:=[]) (by kernel_rfl) (by kernel_rfl) .nil q
  | x1 t u v w x y =>
   try dsimp only at h
   exact pkk_sound TTok mix hF 0 (hs:=[]) (ts:=[]) (s:=[0,1]) (l:=[0,1,2,3,8,9]) (by kernel_rfl) (by kernel_rfl) .nil (ZW hF ks n a j k t u v w x y _ h q)
/- slices.pdqsortOrdered[int] -/
def GT:Nat→(List Int)→Int→Int→Int→Option ((List Int))
 | 0,_,_,_,_=>none
 | n+1,a,b,c,d =>
 (GU n (fun x0 x1 x2 x3=>GT n x0 x1 x2 x3) n b c d true true a).bind fun e=>match e with
 | .x0 f =>
  some f
theorem Yr:∀ (n:Nat) (a:(List Int)) (e f g:Int) (r:(List Int)) (h:GT n a e f g=some r),RetH Tryz.prog 50 [.srf 0,.d ((eI .i64) e),.d ((eI .i64) f),.d ((eI .i64) g)] [.row 3 1 (a.map (eI .i64))] (.tup []) [.row 3 1 (r.map (eI .i64))]
 | 0,a,e,f,g,r,h=>by rw [GT] at h; cases h
 | n+1,a,e,f,g,r,h=>by
  refine retH_run (n:=134) (fn:=Tryz.f50) (c:=bodyOf Tryz.f50) (by kernel_rfl) (by kernel_rfl) (by kernel_rfl) (by kernel_rfl) ?_
  have hF:KC 134 (FinH Tryz.prog Tryz.f50 [.row 3 1 (a.map (eI .i64))] (.tup []) [.row 3 1 (r.map (eI .i64))]):=FinH.kc' (by kernel_rfl)
  rw [GT] at h
  obtain ⟨i,j,h⟩:=bind_some h
  refine pkk_sound TTok mix hF 6 (hs:=[.n n]) (ts:=[]) (s:=[1,0]) (l:=[0,1,2,3,8,9]) (by kernel_rfl) (by kernel_rfl) .nil (ZW hF (.b 0::[]) n (fun x0 x1 x2 x3=>GT n x0 x1 x2 x3) (fun x0 x1 x2 x3 r h=>Yr n x0 x1 x2 x3 r h) n e f g true true a _ j ?_)
  cases i with
  | x0 k =>
   try dsimp only at h
   obtain rfl:=Option.some.inj h
   exact pendH_sound TTok mix 1 (hs:=[]) [1] (by kernel_rfl) (by kernel_rfl) (by kernel_rfl) .nil
/- slices.Sort[[]int,int] -/
def KY (n:Nat) (a:(List Int)):Option ((List Int)) :=
 (ZV n (wi .u64 (a.length:Int))).bind fun (b:(Int)) =>
 (GT n a 0 (a.length:Int) b).bind fun (c:((List Int))) =>
 some c
theorem VF (n:Nat) (a r:(List Int)) (h:KY n a=some r):RetH Tryz.prog 36 [.srf 0] [.row 3 1 (a.map (eI .i64))] (.tup []) [.row 3 1 (r.map (eI .i64))]:=by
 refine retH_run (n:=11) (fn:=Tryz.f36) (c:=bodyOf Tryz.f36) (by kernel_rfl) (by kernel_rfl) (by kernel_rfl) (by kernel_rfl) ?_
 have hF:KC 11 (FinH Tryz.prog Tryz.f36 [.row 3 1 (a.map (eI .i64))] (.tup []) [.row 3 1 (r.map (eI .i64))]):=FinH.kc' (by kernel_rfl)
 unfold KY at h
 obtain ⟨b,e,h⟩:=bind_some h
 obtain ⟨g,i,h⟩:=bind_some h
 obtain rfl:=Option.some.inj h
 exact pendH_sound TTok mix 3 (hs:=[.u (di (a.length:Int)),.r ((eI .i64) b),.h [0] [] [.row 3 1 (g.map (eI .i64))] (.tup [])]) [0] (by kernel_rfl) (by kernel_rfl) (by kernel_rfl) (.cons (len_ob (f:=(eI .i64)) (l:=a)) (.cons (Vj n (wi .u64 (a.length:Int)) _ e) (.cons (Yr n a 0 (a.length:Int) b _ i) .nil)))
inductive K5 where
 | x0 (a b:(List Int)) (c:(List Gk)) (d:(List Gd)) (e:(List Int))
def UY:K5→Ex
 | .x0 _ _ _ _ _=>.exit 0
def UZ (a:Gh) (b:Gf):K5→PS
 | .x0 c e f g h=>⟨(dd::dd::dd::.srf 12::(dds 22 [])),[.gh 0 (.ref 6 0),.gh 1 (.srf 11),.gh 2 (.ref 7 0),.gh 3 (.srf 8),.gh 4 (.srf 9),.gh 5 (.srf 10),.box [.ref 7 0,di a.fslots,.srf 11],.box [.srf 8,.srf 9,.srf 10,di b.ffuse],.row 5 1 (c.map (eI .u8)),.row 5 1 (e.map (eI .u8)),.row 84 2 (f.map Ge),.row 69 3 (g.map Ga),.row 3 1 (h.map (eI .i64))]⟩
def U0 (a:Gh) (b:Gf) (c:Int) (e f:(List Int)) (g:(List Gk)) (h:(List Gd)) (i:(List Int)):PS:=⟨(dd::dd::dd::.srf 12::dd::dd::dd::dd::dd::.srf 11::di (a.fl.length:Int)::di c::(dds 14 [])),[.gh 0 (.ref 6 0),.gh 1 (.srf 11),.gh 2 (.ref 7 0),.gh 3 (.srf 8),.gh 4 (.srf 9),.gh 5 (.srf 10),.box [.ref 7 0,di a.fslots,.srf 11],.box [.srf 8,.srf 9,.srf 10,di b.ffuse],.row 5 1 (e.map (eI .u8)),.row 5 1 (f.map (eI .u8)),.row 84 2 (g.map Ge),.row 69 3 (h.map Ga),.row 3 1 (i.map (eI .i64))]⟩
def GY (n:Nat) (c:Gh) (h:Gf):Nat→Int→(List Int)→(List Int)→(List Gk)→(List Gd)→(List Int)→Option K5
 | 0,_,_,_,_,_,_=>none
 | k+1,a,d,e,f,b,g =>
  if a<(c.fl.length:Int) then
   if 0≤a∧(a).toNat<b.length then
    (b[(a).toNat]?).bind fun (i:Gd) =>
    if i.fdirty=true then
     (app 8 g ([i.fn])).bind fun (j:(List Int)) =>
     GY n c h k (wi .i64 (a+1)) d e f b j
    else
     GY n c h k (wi .i64 (a+1)) d e f b g
   else none
  else
   some (.x0 d e f b g)
theorem ZG {Fi:Ex→PS→Prop} (hF:KC 26 Fi) (ks:List Fr) (n:Nat) (d:Gh) (j:Gf)  : ∀ (k:Nat) (a:Int) (e g:(List Int)) (i:(List Gk)) (b:(List Gd)) (m:(List Int)) (o:K5),GY n d j k a e g i b m=some o→RunE Tryz.prog 26 Fi ks (UY o) (UZ d j o)→RunE Tryz.prog 26 Fi (.l k (cP (cB (cR (cL (cR (cR (bodyOf Tryz.f18)))))))::ks) .normal (U0 d j a e g i b m)
 | 0,a,e,g,i,b,m,o,h,q=>by rw [GY] at h; cases h
 | k+1,a,e,g,i,b,m,o,h,q=>by
  rw [GY] at h
  by_cases p:a<(d.fl.length:Int)
  ·rw [if_pos p] at h
   by_cases r:0≤a∧(a).toNat<b.length
   ·rw [if_pos r] at h
    obtain ⟨x,z,h⟩:=bind_some h
    by_cases u:x.fdirty=true
    ·rw [if_pos u] at h
     obtain ⟨a0,v,h⟩:=bind_some h
     exact pkk_sound TTok mix hF 16 (hs:=[.t true,.y (Ga x),.c,.c,.t true,.c,.bd,.w (a0.map (eI .i64))]) (ts:=[]) (s:=[0,1,2,3,4,5,6,7,8,9,10,11,68]) (l:=[3,9,10,11]) (by kernel_rfl) (by kernel_rfl) (.cons (dt p) (.cons (idx_ob (f:=Ga) r) (.cons (get_ob (f:=Ga) z) (.cons (show 0+3≤3 by decide) (.cons u (.cons (app_ob (f:=(eI .i64)) (s:=1) v (fun _=>rfl)).1 (.cons (app_ob (f:=(eI .i64)) (s:=1) v (fun _=>rfl)).2.1 (.cons (app_ob (f:=(eI .i64)) (s:=1) v (fun _=>rfl)).2.2.1 (.cons (app_ob (f:=(eI .i64)) (s:=1) v (fun _=>rfl)).2.2.2 .nil))))))))) (ZG hF ks n d j k (wi .i64 (a+1)) e g i b a0 _ h q)
    ·rw [if_neg u] at h
     exact pkk_sound TTok mix hF 16 (hs:=[.t true,.y (Ga x),.c,.c,.t false]) (ts:=[]) (s:=[0,1,2,3,4,5,6,7,8,9,10,11,12]) (l:=[3,9,10,11]) (by kernel_rfl) (by kernel_rfl) (.cons (dt p) (.cons (idx_ob (f:=Ga) r) (.cons (get_ob (f:=Ga) z) (.cons (show 0+3≤3 by decide) (.cons (vf u) .nil))))) (ZG hF ks n d j k (wi .i64 (a+1)) e g i b m _ h q)
   ·rw [if_neg r] at h; cases h
  ·rw [if_neg p] at h
   cases h
   exact pkk_sound TTok mix hF 8 (hs:=[.t false]) (ts:=[]) (s:=[0,1,2,3,4,5,6,7,8,9,10,11,12]) (l:=[3]) (by kernel_rfl) (by kernel_rfl) (.cons (df p) .nil) q
/- (*ringhall/buffer.Cache).Dirty -/
def Kv (n:Nat) (b:Gh) (a:Gf):Option ((List Int)×Gh×Gf) :=
 (GY n b a n 0 a.fsafe a.fnow a.fwait b.fl ([]:List Int)).bind fun c=>match c with
 | .x0 d e f g h =>
  (KY n h).bind fun (i:((List Int))) =>
  some (i,(Gh.mk () b.fslots g),(Gf.mk d e f a.ffuse))
theorem Z4 (n:Nat) (e:Gh) (a:Gf) (r:(List Int)×Gh×Gf) (h:Kv n e a=some r):RetH Tryz.prog 18 [.ref 0 0] [.box [.ref 2 0,di e.fslots,.srf 1],.row 69 3 (e.fl.map Ga),.box [.srf 3,.srf 4,.srf 5,di a.ffuse],.row 5 1 (a.fsafe.map (eI .u8)),.row 5 1 (a.fnow.map (eI .u8)),.row 84 2 (a.fwait.map Ge)] (.d ((eL (eI .i64)) r.1)) [.box [.ref 2 0,di r.2.1.fslots,.srf 6],.none,.box [.srf 7,.srf 8,.srf 9,di r.2.2.ffuse],.none,.none,.none,.row 69 3 (r.2.1.fl.map Ga),.row 5 1 (r.2.2.fsafe.map (eI .u8)),.row 5 1 (r.2.2.fnow.map (eI .u8)),.row 84 2 (r.2.2.fwait.map Ge)]:=by
 refine retH_run (n:=26) (fn:=Tryz.f18) (c:=bodyOf Tryz.f18) (by kernel_rfl) (by kernel_rfl) (by kernel_rfl) (by kernel_rfl) ?_
 have hF:KC 26 (FinH Tryz.prog Tryz.f18 [.box [.ref 2 0,di e.fslots,.srf 1],.row 69 3 (e.fl.map Ga),.box [.srf 3,.srf 4,.srf 5,di a.ffuse],.row 5 1 (a.fsafe.map (eI .u8)),.row 5 1 (a.fnow.map (eI .u8)),.row 84 2 (a.fwait.map Ge)] (.d ((eL (eI .i64)) r.1)) [.box [.ref 2 0,di r.2.1.fslots,.srf 6],.none,.box [.srf 7,.srf 8,.srf 9,di r.2.2.ffuse],.none,.none,.none,.row 69 3 (r.2.1.fl.map Ga),.row 5 1 (r.2.2.fsafe.map (eI .u8)),.row 5 1 (r.2.2.fnow.map (eI .u8)),.row 84 2 (r.2.2.fwait.map Ge)]):=FinH.kc' (by kernel_rfl)
 unfold Kv at h
 obtain ⟨g,i,h⟩:=bind_some h
 refine pkk_sound TTok mix hF 9 (hs:=[.c,.u (di (e.fl.length:Int)),.n n]) (ts:=[(3,3,1)]) (s:=[6,7,8,9,10,11,0,2,3,4,5,1,52]) (l:=[3,9,10,11]) (by kernel_rfl) (by kernel_rfl) (.cons (len_ob (f:=Ga) (l:=e.fl)) .nil) (ZG hF (.b 0::.s (cR (cR (cR (bodyOf Tryz.f18))))::[]) n e a n 0 a.fsafe a.fnow a.fwait e.fl ([]:List Int) _ i ?_)
 cases g with
 | x0 o p q t j =>
  try dsimp only at h
  obtain ⟨k,m,h⟩:=bind_some h
  obtain rfl:=Option.some.inj h
  exact pendH_sound TTok mix 11 (hs:=[.h [12] [] [.row 3 1 (k.map (eI .i64))] (.tup []),.dl 3,.fz 12,.mv 11,.mv 8,.mv 9,.mv 10]) [6,11,7,8,9,10,33,34,35,36] (by kernel_rfl) (by kernel_rfl) (by kernel_rfl) (.cons (VF n j _ m) .nil)
/- (*ringhall/disk.Disk).Flush -/
def Kx (n:Nat) (b:Gf):Option (Gf) :=
 (Ki n b).bind fun (a:(Bool×Gf)) =>
 if a.1=true then
  some (Gf.mk (cpyR a.2.fsafe 0 a.2.fsafe.length a.2.fnow) a.2.fnow ([]:List Gk) a.2.ffuse)
 else
  some a.2
theorem VZ (n:Nat) (b r:Gf) (h:Kx n b=some r):RetH Tryz.prog 29 [.ref 0 0] [.box [.srf 1,.srf 2,.srf 3,di b.ffuse],.row 5 1 (b.fsafe.map (eI .u8)),.row 5 1 (b.fnow.map (eI .u8)),.row 84 2 (b.fwait.map Ge)] (.tup []) [.box [.srf 4,.srf 5,.srf 6,di r.ffuse],.none,.none,.none,.row 5 1 (r.fsafe.map (eI .u8)),.row 5 1 (r.fnow.map (eI .u8)),.row 84 2 (r.fwait.map Ge)]:=by
 refine retH_run (n:=16) (fn:=Tryz.f29) (c:=bodyOf Tryz.f29) (by kernel_rfl) (by kernel_rfl) (by kernel_rfl) (by kernel_rfl) ?_
 have hF:KC 16 (FinH Tryz.prog Tryz.f29 [.box [.srf 1,.srf 2,.srf 3,di b.ffuse],.row 5 1 (b.fsafe.map (eI .u8)),.row 5 1 (b.fnow.map (eI .u8)),.row 84 2 (b.fwait.map Ge)] (.tup []) [.box [.srf 4,.srf 5,.srf 6,di r.ffuse],.none,.none,.none,.row 5 1 (r.fsafe.map (eI .u8)),.row 5 1 (r.fnow.map (eI .u8)),.row 84 2 (r.fwait.map Ge)]):=FinH.kc' (by kernel_rfl)
 unfold Kx at h
 obtain ⟨a,j,h⟩:=bind_some h
 by_cases g:a.1=true
 ·rw [if_pos g] at h
  obtain rfl:=Option.some.inj h
  exact pendH_sound TTok mix 7 (hs:=[.h [0,1,2,3] [] [.box [.srf 4,.srf 5,.srf 6,di a.2.ffuse],.none,.none,.none,.row 5 1 (a.2.fsafe.map (eI .u8)),.row 5 1 (a.2.fnow.map (eI .u8)),.row 84 2 (a.2.fwait.map Ge)] (.d (.v (.bool a.1))),.t true,.c,.c,.e 58 [13,14] (di ((Nat.min a.2.fnow.length (a.2.fsafe.length-0):Nat):Int)) [(13,.row 5 1 ((cpyR a.2.fsafe 0 a.2.fsafe.length a.2.fnow).map (eI .u8)))],.c,.tb 0 2 84 2]) [0,1,2,3,13,14,83] (by kernel_rfl) (by kernel_rfl) (by kernel_rfl) (.cons (KB n b _ j) (.cons g (.cons (xcpR0 (P:=Tryz.prog) (T:=TT) (f:=(eI .u8)) (t:=35) (t':=35) (e:=5) (s:=1) (l:=13) (x:=(.tmp 7)) (y:=(.tmp 11)) (ti:=⟨1,1,.int .u8,[.i .u8]⟩) (L:=a.2.fsafe) (Y:=a.2.fnow) (l':=14) (by kernel_rfl) (by kernel_rfl) (fun _=>rfl)) (.cons (show 2+1≤4 by decide) .nil))))
 ·rw [if_neg g] at h
  obtain rfl:=Option.some.inj h
  exact pendH_sound TTok mix 4 (hs:=[.h [0,1,2,3] [] [.box [.srf 4,.srf 5,.srf 6,di a.2.ffuse],.none,.none,.none,.row 5 1 (a.2.fsafe.map (eI .u8)),.row 5 1 (a.2.fnow.map (eI .u8)),.row 84 2 (a.2.fwait.map Ge)] (.d (.v (.bool a.1))),.t false]) [0,1,2,3,13,14,15] (by kernel_rfl) (by kernel_rfl) (by kernel_rfl) (.cons (KB n b _ j) (.cons (vf g) .nil))
inductive Zh where
 | x0 (a b:Int) (c d:(List Int)) (e:(List Gk)) (f:(List Gd))
def Vk:Zh→Ex
 | .x0 _ _ _ _ _ _=>.exit 0
def Vl (h:((List Int)×Gh×Gf)):Zh→PS
 | .x0 a b c e f g=>⟨(.ref 6 0::(dds 41 [])),[.gh 0 (.ref 6 0),.gh 1 (.srf 12),.gh 2 (.ref 7 0),.gh 3 (.srf 13),.gh 4 (.srf 14),.gh 5 (.srf 15),.box [.ref 7 0,di a,.srf 11],.box [.srf 8,.srf 9,.srf 10,di b],.row 5 1 (c.map (eI .u8)),.row 5 1 (e.map (eI .u8)),.row 84 2 (f.map Ge),.row 69 3 (g.map Ga),.none,.none,.none,.none]⟩
def Vm (a:((List Int)×Gh×Gf)) (b c e:Int) (f g:(List Int)) (h:(List Gk)) (i:(List Gd)):PS:=⟨(.ref 6 0::dd::dd::dd::dd::dd::.d (.sl (a.1.map (eI .i64)))::di (a.1.length:Int)::di b::(dds 33 [])),[.gh 0 (.ref 6 0),.gh 1 (.srf 12),.gh 2 (.ref 7 0),.gh 3 (.srf 13),.gh 4 (.srf 14),.gh 5 (.srf 15),.box [.ref 7 0,di c,.srf 11],.box [.srf 8,.srf 9,.srf 10,di e],.row 5 1 (f.map (eI .u8)),.row 5 1 (g.map (eI .u8)),.row 84 2 (h.map Ge),.row 69 3 (i.map Ga),.none,.none,.none,.none]⟩
def Sj (n:Nat) (c:((List Int)×Gh×Gf)):Nat→Int→Int→Int→(List Int)→(List Int)→(List Gk)→(List Gd)→Option Zh
 | 0,_,_,_,_,_,_,_=>none
 | k+1,d,e,f,g,h,i,j =>
  if d<(c.1.length:Int) then
   (getI c.1 d).bind fun (l:Int) =>
   (SL n (Gh.mk () e j) (Gf.mk g h i f) l).bind fun (a:(Int×Gh×Gf)) =>
   if 0≤a.1∧(a.1).toNat<a.2.1.fl.length then
    (a.2.1.fl[(a.1).toNat]?).bind fun (o:Gd) =>
    (S9 n a.2.2 l o.fdata).bind fun (b:(Int×Gf)) =>
    if 0≤a.1∧(a.1).toNat<a.2.1.fl.length then
     (a.2.1.fl[(a.1).toNat]?).bind fun (m:Gd) =>
     Sj n c k (wi .i64 (d+1)) a.2.1.fslots b.2.ffuse b.2.fsafe b.2.fnow b.2.fwait (a.2.1.fl.set (a.1).toNat (Gd.mk m.fn m.fdata false))
    else none
   else none
  else
   some (.x0 e f g h i j)
theorem Y4 {Fi:Ex→PS→Prop} (hF:KC 42 Fi) (ks:List Fr) (n:Nat) (i:((List Int)×Gh×Gf))  : ∀ (k:Nat) (g j m:Int) (r u:(List Int)) (x:(List Gk)) (a0:(List Gd)) (o:Zh),Sj n i k g j m r u x a0=some o→RunE Tryz.prog 42 Fi ks (Vk o) (Vl i o)→RunE Tryz.prog 42 Fi (.l k (cP (cB (cR (cL (bodyOf Tryz.f11)))))::ks) .normal (Vm i g j m r u x a0)
 | 0,g,j,m,r,u,x,a0,o,h,q=>by rw [Sj] at h; cases h
 | k+1,g,j,m,r,u,x,a0,o,h,q=>by
  rw [Sj] at h
  by_cases a1:g<(i.1.length:Int)
  ·rw [if_pos a1] at h
   obtain ⟨a2,a6,h⟩:=bind_some h
   obtain ⟨a,a7,h⟩:=bind_some h
   by_cases a3:0≤a.1∧(a.1).toNat<a.2.1.fl.length
   ·rw [if_pos a3] at h
    obtain ⟨a5,a8,h⟩:=bind_some h
    obtain ⟨e,a9,h⟩:=bind_some h
    by_cases a4:0≤a.1∧(a.1).toNat<a.2.1.fl.length
    ·rw [if_pos a4] at h
     obtain ⟨b,b0,h⟩:=bind_some h
     exact pkk_sound TTok mix hF 17 (hs:=[.t true,.y ((eI .i64) a2),.c,.h [6,11,7,8,9,10] [] [.box [.ref 2 0,di a.2.1.fslots,.srf 6],.none,.box [.srf 7,.srf 8,.srf 9,di a.2.2.ffuse],.none,.none,.none,.row 69 3 (a.2.1.fl.map Ga),.row 5 1 (a.2.2.fsafe.map (eI .u8)),.row 5 1 (a.2.2.fnow.map (eI .u8)),.row 84 2 (a.2.2.fwait.map Ge)] (di a.1),.c,.c,.y (Ga a5),.h [7,47,48,49] [] [.box [.srf 4,.srf 5,.srf 6,di e.2.ffuse],.none,.none,.none,.row 5 1 (e.2.fsafe.map (eI .u8)),.row 5 1 (e.2.fnow.map (eI .u8)),.row 84 2 (e.2.fwait.map Ge)] (di e.1),.c,.w ((a.2.1.fl.set (a.1).toNat (Gd.mk b.fn b.fdata false)).map Ga),.y (Ga b)]) (ts:=[]) (s:=[0,1,2,3,4,5,6,7,121,122,123,46,12,13,14,15]) (l:=[0,6,7,8]) (by kernel_rfl) (by kernel_rfl) (.cons (dt a1) (.cons (getI_ob (f:=(eI .i64)) a6) (.cons (KH n (Gh.mk () j a0) (Gf.mk r u x m) a2 _ a7) (.cons (idx_ob (f:=Ga) a3) (.cons (get_ob (f:=Ga) a8) (.cons (Up n a.2.2 a2 a5.fdata _ a9) (.cons (idx_ob (f:=Ga) a4) (.cons (get_ob (f:=Ga) b0) (.cons (Eq.refl (pcells (.agg [.v (.int .i64 b.fn),.sl (b.fdata.map (eI .u8)),.v (.bool false)]))) (.cons (set_ob (f:=Ga) (l:=a.2.1.fl) (k:=(a.1).toNat) (z:=(Gd.mk b.fn b.fdata false)) (p:=.agg [.v (.int .i64 b.fn),.sl (b.fdata.map (eI .u8)),.v (.bool false)]) rfl) .nil)))))))))) (Y4 hF ks n i k (wi .i64 (g+1)) a.2.1.fslots e.2.ffuse e.2.fsafe e.2.fnow e.2.fwait (a.2.1.fl.set (a.1).toNat (Gd.mk b.fn b.fdata false)) _ h q)
    ·rw [if_neg a4] at h; cases h
   ·rw [if_neg a3] at h; cases h
  ·rw [if_neg a1] at h
   cases h
   exact pkk_sound TTok mix hF 8 (hs:=[.t false]) (ts:=[]) (s:=[0,1,2,3,4,5,6,7,8,9,10,11,12,13,14,15]) (l:=[0]) (by kernel_rfl) (by kernel_rfl) (.cons (df a1) .nil) q
/- (*ringhall/buffer.Cache).Sync -/
def KD (n:Nat) (b:Gh) (c:Gf):Option (Gh×Gf) :=
 (Kv n b c).bind fun (a:((List Int)×Gh×Gf)) =>
 (Sj n a n 0 a.2.1.fslots a.2.2.ffuse a.2.2.fsafe a.2.2.fnow a.2.2.fwait a.2.1.fl).bind fun d=>match d with
 | .x0 e f g h i j =>
  (Kx n (Gf.mk g h i f)).bind fun (k:(Gf)) =>
  some ((Gh.mk () e j),k)
theorem VT (n:Nat) (g:Gh) (e:Gf) (r:Gh×Gf) (h:KD n g e=some r):RetH Tryz.prog 11 [.ref 0 0] [.box [.ref 2 0,di g.fslots,.srf 1],.row 69 3 (g.fl.map Ga),.box [.srf 3,.srf 4,.srf 5,di e.ffuse],.row 5 1 (e.fsafe.map (eI .u8)),.row 5 1 (e.fnow.map (eI .u8)),.row 84 2 (e.fwait.map Ge)] (.tup []) [.box [.ref 2 0,di r.1.fslots,.srf 6],.none,.box [.srf 7,.srf 8,.srf 9,di r.2.ffuse],.none,.none,.none,.row 69 3 (r.1.fl.map Ga),.row 5 1 (r.2.fsafe.map (eI .u8)),.row 5 1 (r.2.fnow.map (eI .u8)),.row 84 2 (r.2.fwait.map Ge)]:=by
 refine retH_run (n:=42) (fn:=Tryz.f11) (c:=bodyOf Tryz.f11) (by kernel_rfl) (by kernel_rfl) (by kernel_rfl) (by kernel_rfl) ?_
 have hF:KC 42 (FinH Tryz.prog Tryz.f11 [.box [.ref 2 0,di g.fslots,.srf 1],.row 69 3 (g.fl.map Ga),.box [.srf 3,.srf 4,.srf 5,di e.ffuse],.row 5 1 (e.fsafe.map (eI .u8)),.row 5 1 (e.fnow.map (eI .u8)),.row 84 2 (e.fwait.map Ge)] (.tup []) [.box [.ref 2 0,di r.1.fslots,.srf 6],.none,.box [.srf 7,.srf 8,.srf 9,di r.2.ffuse],.none,.none,.none,.row 69 3 (r.1.fl.map Ga),.row 5 1 (r.2.fsafe.map (eI .u8)),.row 5 1 (r.2.fnow.map (eI .u8)),.row 84 2 (r.2.fwait.map Ge)]):=FinH.kc' (by kernel_rfl)
 unfold KD at h
 obtain ⟨a,j,h⟩:=bind_some h
 obtain ⟨k,m,h⟩:=bind_some h
 refine pkk_sound TTok mix hF 5 (hs:=[.h [0,1,2,3,4,5] [] [.box [.ref 2 0,di a.2.1.fslots,.srf 6],.none,.box [.srf 7,.srf 8,.srf 9,di a.2.2.ffuse],.none,.none,.none,.row 69 3 (a.2.1.fl.map Ga),.row 5 1 (a.2.2.fsafe.map (eI .u8)),.row 5 1 (a.2.2.fnow.map (eI .u8)),.row 84 2 (a.2.2.fwait.map Ge)] (.d (.sl (a.1.map (eI .i64)))),.u (di (a.1.length:Int)),.n n]) (ts:=[]) (s:=[6,7,8,9,10,11,0,2,18,19,20,17,1,3,4,5]) (l:=[0,6,7,8]) (by kernel_rfl) (by kernel_rfl) (.cons (Z4 n g e _ j) (.cons (len_ob (f:=(eI .i64)) (l:=a.1)) .nil)) (Y4 hF (.b 0::.s (cR (bodyOf Tryz.f11))::[]) n a n 0 a.2.1.fslots a.2.2.ffuse a.2.2.fsafe a.2.2.fnow a.2.2.fwait a.2.1.fl _ m ?_)
 cases k with
 | x0 x o p q t y =>
  try dsimp only at h
  obtain ⟨i,w,h⟩:=bind_some h
  obtain rfl:=Option.some.inj h
  exact pendH_sound TTok mix 2 (hs:=[.c,.h [7,8,9,10] [] [.box [.srf 4,.srf 5,.srf 6,di i.ffuse],.none,.none,.none,.row 5 1 (i.fsafe.map (eI .u8)),.row 5 1 (i.fnow.map (eI .u8)),.row 84 2 (i.fwait.map Ge)] (.tup [])]) [6,12,7,13,14,15,11,36,37,38] (by kernel_rfl) (by kernel_rfl) (by kernel_rfl) (.cons (VZ n (Gf.mk p q t o) _ w) .nil)
inductive KF where
 | x0 (a:(List Gi)) (b:(List (Int×ByteArray))) (c:(List (Int×Int))) (d:(List (Int×Bool))) (e:(List Int))
def Uu:KF→Ex
 | .x0 _ _ _ _ _=>.exit 0
def Uv (a:Gb) (b:Gg):KF→PS
 | .x0 c e f g h=>⟨(dd::dd::dd::.srf 12::(dds 23 [])),[.gh 0 (.ref 6 0),.gh 1 (.srf 9),.gh 2 (.srf 10),.gh 3 (.srf 11),.gh 4 (.ref 7 0),.gh 5 (.srf 8),.box [.ref 7 0,di b.fSlots,di b.fnow,.srf 9,.srf 10,.srf 11],.box [di a.fSectors,di a.fMark,di a.fFuse,.srf 8],.cu (rowF 86 2 (c.map Gc)) [],.cu (mapC (fun x:Int=>Value.int .i64 x) Value.string e) [],.cu (mapC (fun x:Int=>Value.int .i64 x) (fun x:Int=>Value.int .i64 x) f) [],.cu (mapC (fun x:Int=>Value.int .i64 x) Value.bool g) [],.row 3 1 (h.map (eI .i64))]⟩
def Uw (a:Gb) (b:Gg) (c:Int) (e:(List Gi)) (f:(List (Int×ByteArray))) (g:(List (Int×Int))) (h:(List (Int×Bool))) (i:(List Int)):PS:=⟨(.ref 6 0::dd::dd::.srf 12::dd::dd::dd::dd::dd::dd::dd::di a.fSectors::di c::(dds 14 [])),[.gh 0 (.ref 6 0),.gh 1 (.srf 9),.gh 2 (.srf 10),.gh 3 (.srf 11),.gh 4 (.ref 7 0),.gh 5 (.srf 8),.box [.ref 7 0,di b.fSlots,di b.fnow,.srf 9,.srf 10,.srf 11],.box [di a.fSectors,di a.fMark,di a.fFuse,.srf 8],.cu (rowF 86 2 (e.map Gc)) [],.cu (mapC (fun x:Int=>Value.int .i64 x) Value.string f) [],.cu (mapC (fun x:Int=>Value.int .i64 x) (fun x:Int=>Value.int .i64 x) g) [],.cu (mapC (fun x:Int=>Value.int .i64 x) Value.bool h) [],.row 3 1 (i.map (eI .i64))]⟩
def GP (n:Nat) (c:Gb) (h:Gg):Nat→Int→(List Gi)→(List (Int×ByteArray))→(List (Int×Int))→(List (Int×Bool))→(List Int)→Option KF
 | 0,_,_,_,_,_,_=>none
 | k+1,a,d,e,f,b,g =>
  if a<c.fSectors then
   if ((mget b a).getD false)=true then
    (app 8 g ([a])).bind fun (i:(List Int)) =>
    GP n c h k (wi .i64 (a+1)) d e f b i
   else
    GP n c h k (wi .i64 (a+1)) d e f b g
  else
   some (.x0 d e f b g)
theorem ZB {Fi:Ex→PS→Prop} (hF:KC 27 Fi) (ks:List Fr) (n:Nat) (i:Gb) (r:Gg)  : ∀ (k:Nat) (a:Int) (j:(List Gi)) (m:(List (Int×ByteArray))) (p:(List (Int×Int))) (b:(List (Int×Bool))) (u:(List Int)) (o:KF),GP n i r k a j m p b u=some o→RunE Tryz.prog 27 Fi ks (Uu o) (Uv i r o)→RunE Tryz.prog 27 Fi (.l k (cP (cB (cR (cL (cR (cR (bodyOf Tryz.f19)))))))::ks) .normal (Uw i r a j m p b u)
 | 0,a,j,m,p,b,u,o,h,q=>by rw [GP] at h; cases h
 | k+1,a,j,m,p,b,u,o,h,q=>by
  rw [GP] at h
  by_cases a0:a<i.fSectors
  ·rw [if_pos a0] at h
   by_cases a1:((mget b a).getD false)=true
   ·rw [if_pos a1] at h
    obtain ⟨a3,a2,h⟩:=bind_some h
    exact pkk_sound TTok mix hF 16 (hs:=[.t true,.c,.e 53 [11] (.d (.v (.bool ((mget b a).getD false)))) [],.t true,.bd,.w (a3.map (eI .i64))]) (ts:=[]) (s:=[0,1,2,3,4,5,6,7,8,9,10,11,73]) (l:=[0,3,11,12]) (by kernel_rfl) (by kernel_rfl) (.cons (dt a0) (.cons (ylook (P:=Tryz.prog) (T:=TT) (t:=54) (kt:=3) (et:=4) (l:=11) (x:=(.tmp 18)) (y:=(.tmp 19)) (f:=(fun x:Int=>Value.int .i64 x)) (g:=Value.bool) (E:=b) (k:=a) (z:=false) (kv_v _) false (by kernel_rfl) (KOk.kw (KOk.int (by kernel_rfl))) (fun w=>by kernel_rfl) (fun _=>rfl) rfl) (.cons a1 (.cons (app_ob (f:=(eI .i64)) (s:=1) a2 (fun _=>rfl)).1 (.cons (app_ob (f:=(eI .i64)) (s:=1) a2 (fun _=>rfl)).2.1 (.cons (app_ob (f:=(eI .i64)) (s:=1) a2 (fun _=>rfl)).2.2.1 (.cons (app_ob (f:=(eI .i64)) (s:=1) a2 (fun _=>rfl)).2.2.2 .nil))))))) (ZB hF ks n i r k (wi .i64 (a+1)) j m p b a3 _ h q)
   ·rw [if_neg a1] at h
    exact pkk_sound TTok mix hF 16 (hs:=[.t true,.c,.e 53 [11] (.d (.v (.bool ((mget b a).getD false)))) [],.t false]) (ts:=[]) (s:=[0,1,2,3,4,5,6,7,8,9,10,11,12]) (l:=[0,3,11,12]) (by kernel_rfl) (by kernel_rfl) (.cons (dt a0) (.cons (ylook (P:=Tryz.prog) (T:=TT) (t:=54) (kt:=3) (et:=4) (l:=11) (x:=(.tmp 18)) (y:=(.tmp 19)) (f:=(fun x:Int=>Value.int .i64 x)) (g:=Value.bool) (E:=b) (k:=a) (z:=false) (kv_v _) false (by kernel_rfl) (KOk.kw (KOk.int (by kernel_rfl))) (fun w=>by kernel_rfl) (fun _=>rfl) rfl) (.cons (vf a1) .nil))) (ZB hF ks n i r k (wi .i64 (a+1)) j m p b u _ h q)
  ·rw [if_neg a0] at h
   cases h
   exact pkk_sound TTok mix hF 8 (hs:=[.t false]) (ts:=[]) (s:=[0,1,2,3,4,5,6,7,8,9,10,11,12]) (l:=[3]) (by kernel_rfl) (by kernel_rfl) (.cons (df a0) .nil) q
/- (*ringhall/ringref3.Cache).Dirty -/
def Ke (n:Nat) (a:Gg) (b:Gb):Option ((List Int)×Gg×Gb) :=
 (GP n b a n 0 b.fAll a.fdata a.fused a.fdirty ([]:List Int)).bind fun c=>match c with
 | .x0 d e f g h =>
  some (h,(Gg.mk () a.fSlots a.fnow e f g),(Gb.mk b.fSectors b.fMark b.fFuse d))
theorem ZS (n:Nat) (a:Gg) (f:Gb) (r:(List Int)×Gg×Gb) (h:Ke n a f=some r):RetH Tryz.prog 19 [.ref 0 0] [.box [.ref 4 0,di a.fSlots,di a.fnow,.srf 1,.srf 2,.srf 3],.cu (mapC (fun x:Int=>Value.int .i64 x) Value.string a.fdata) [],.cu (mapC (fun x:Int=>Value.int .i64 x) (fun x:Int=>Value.int .i64 x) a.fused) [],.cu (mapC (fun x:Int=>Value.int .i64 x) Value.bool a.fdirty) [],.box [di f.fSectors,di f.fMark,di f.fFuse,.srf 5],.cu (rowF 86 2 (f.fAll.map Gc)) []] (.d ((eL (eI .i64)) r.1)) [.box [.ref 4 0,di r.2.1.fSlots,di r.2.1.fnow,.srf 1,.srf 2,.srf 3],.cu (mapC (fun x:Int=>Value.int .i64 x) Value.string r.2.1.fdata) [],.cu (mapC (fun x:Int=>Value.int .i64 x) (fun x:Int=>Value.int .i64 x) r.2.1.fused) [],.cu (mapC (fun x:Int=>Value.int .i64 x) Value.bool r.2.1.fdirty) [],.box [di r.2.2.fSectors,di r.2.2.fMark,di r.2.2.fFuse,.srf 6],.none,.cu (rowF 86 2 (r.2.2.fAll.map Gc)) []]:=by
 refine retH_run (n:=27) (fn:=Tryz.f19) (c:=bodyOf Tryz.f19) (by kernel_rfl) (by kernel_rfl) (by kernel_rfl) (by kernel_rfl) ?_
 have hF:KC 27 (FinH Tryz.prog Tryz.f19 [.box [.ref 4 0,di a.fSlots,di a.fnow,.srf 1,.srf 2,.srf 3],.cu (mapC (fun x:Int=>Value.int .i64 x) Value.string a.fdata) [],.cu (mapC (fun x:Int=>Value.int .i64 x) (fun x:Int=>Value.int .i64 x) a.fused) [],.cu (mapC (fun x:Int=>Value.int .i64 x) Value.bool a.fdirty) [],.box [di f.fSectors,di f.fMark,di f.fFuse,.srf 5],.cu (rowF 86 2 (f.fAll.map Gc)) []] (.d ((eL (eI .i64)) r.1)) [.box [.ref 4 0,di r.2.1.fSlots,di r.2.1.fnow,.srf 1,.srf 2,.srf 3],.cu (mapC (fun x:Int=>Value.int .i64 x) Value.string r.2.1.fdata) [],.cu (mapC (fun x:Int=>Value.int .i64 x) (fun x:Int=>Value.int .i64 x) r.2.1.fused) [],.cu (mapC (fun x:Int=>Value.int .i64 x) Value.bool r.2.1.fdirty) [],.box [di r.2.2.fSectors,di r.2.2.fMark,di r.2.2.fFuse,.srf 6],.none,.cu (rowF 86 2 (r.2.2.fAll.map Gc)) []]):=FinH.kc' (by kernel_rfl)
 unfold Ke at h
 obtain ⟨i,j,h⟩:=bind_some h
 refine pkk_sound TTok mix hF 9 (hs:=[.c,.c,.n n]) (ts:=[(3,3,1)]) (s:=[6,7,8,9,10,11,0,4,5,1,2,3,62]) (l:=[0,3,11,12]) (by kernel_rfl) (by kernel_rfl) .nil (ZB hF (.b 0::.s (cR (cR (cR (bodyOf Tryz.f19))))::[]) n f a n 0 f.fAll a.fdata a.fused a.fdirty ([]:List Int) _ j ?_)
 cases i with
 | x0 g k m o p =>
  try dsimp only at h
  obtain rfl:=Option.some.inj h
  exact pendH_sound TTok mix 6 (hs:=[.dl 4,.fz 12,.sx [8] (fmvS 8 86 2 (g.map Gc))]) [6,9,10,11,7,8,23] (by kernel_rfl) (by kernel_rfl) (by kernel_rfl) (.cons (fmv (l:=8) (e:=86) (s:=2) (xs:=(g.map Gc))) .nil)
/- (*ringhall/ringref3.Disk).Flush -/
def SN (n:Nat) (b:Gb):Option (Gb) :=
 (SW n b).bind fun (a:(Bool×Gb)) =>
 if a.1=true then
  some (Gb.mk a.2.fSectors (a.2.fAll.length:Int) a.2.fFuse a.2.fAll)
 else
  some a.2
theorem VG (n:Nat) (b r:Gb) (h:SN n b=some r):RetH Tryz.prog 31 [.ref 0 0] [.box [di b.fSectors,di b.fMark,di b.fFuse,.srf 1],.cu (rowF 86 2 (b.fAll.map Gc)) []] (.tup []) [.box [di r.fSectors,di r.fMark,di r.fFuse,.srf 2],.none,.cu (rowF 86 2 (r.fAll.map Gc)) []]:=by
 refine retH_run (n:=12) (fn:=Tryz.f31) (c:=bodyOf Tryz.f31) (by kernel_rfl) (by kernel_rfl) (by kernel_rfl) (by kernel_rfl) ?_
 have hF:KC 12 (FinH Tryz.prog Tryz.f31 [.box [di b.fSectors,di b.fMark,di b.fFuse,.srf 1],.cu (rowF 86 2 (b.fAll.map Gc)) []] (.tup []) [.box [di r.fSectors,di r.fMark,di r.fFuse,.srf 2],.none,.cu (rowF 86 2 (r.fAll.map Gc)) []]):=FinH.kc' (by kernel_rfl)
 unfold SN at h
 obtain ⟨a,g,h⟩:=bind_some h
 by_cases f:a.1=true
 ·rw [if_pos f] at h
  obtain rfl:=Option.some.inj h
  exact pendH_sound TTok mix 4 (hs:=[.h [0,1] [] [.box [di a.2.fSectors,di a.2.fMark,di a.2.fFuse,.srf 2],.none,.cu (rowF 86 2 (a.2.fAll.map Gc)) []] (.d (.v (.bool a.1))),.t true,.c,.e 39 [9] (di (a.2.fAll.length:Int)) [],.c]) [0,1,9] (by kernel_rfl) (by kernel_rfl) (by kernel_rfl) (.cons (Zr n b _ g) (.cons f (.cons (lmap' (flen (P:=Tryz.prog) (T:=TT) (t:=49) (l:=9) (e:=86) (s:=2) (xs:=(a.2.fAll.map Gc)) (x:=(.tmp 8)) (by kernel_rfl))) (.cons (show 1+1≤4 by decide) .nil))))
 ·rw [if_neg f] at h
  obtain rfl:=Option.some.inj h
  exact pendH_sound TTok mix 4 (hs:=[.h [0,1] [] [.box [di a.2.fSectors,di a.2.fMark,di a.2.fFuse,.srf 2],.none,.cu (rowF 86 2 (a.2.fAll.map Gc)) []] (.d (.v (.bool a.1))),.t false]) [0,1,9] (by kernel_rfl) (by kernel_rfl) (by kernel_rfl) (.cons (Zr n b _ g) (.cons (vf f) .nil))
inductive KR where
 | x0 (a b c:Int) (d:(List Gi)) (e:(List (Int×ByteArray))) (f:(List (Int×Int))) (g:(List (Int×Bool)))
def UF:KR→Ex
 | .x0 _ _ _ _ _ _ _=>.exit 0
def UG (a:((List Int)×Gg×Gb)):KR→PS
 | .x0 b c e f g h i=>⟨(.ref 6 0::(dds 33 [])),[.gh 0 (.ref 6 0),.gh 1 (.srf 9),.gh 2 (.srf 10),.gh 3 (.srf 11),.gh 4 (.ref 7 0),.gh 5 (.srf 12),.box [.ref 7 0,di a.2.1.fSlots,di a.2.1.fnow,.srf 9,.srf 10,.srf 11],.box [di b,di c,di e,.srf 8],.cu (rowF 86 2 (f.map Gc)) [],.cu (mapC (fun x:Int=>Value.int .i64 x) Value.string g) [],.cu (mapC (fun x:Int=>Value.int .i64 x) (fun x:Int=>Value.int .i64 x) h) [],.cu (mapC (fun x:Int=>Value.int .i64 x) Value.bool i) [],.none]⟩
def UH (a:((List Int)×Gg×Gb)) (b c e f:Int) (g:(List Gi)) (h:(List (Int×ByteArray))) (i:(List (Int×Int))) (j:(List (Int×Bool))):PS:=⟨(.ref 6 0::dd::dd::dd::dd::.d (.sl (a.1.map (eI .i64)))::di (a.1.length:Int)::di b::(dds 26 [])),[.gh 0 (.ref 6 0),.gh 1 (.srf 9),.gh 2 (.srf 10),.gh 3 (.srf 11),.gh 4 (.ref 7 0),.gh 5 (.srf 12),.box [.ref 7 0,di a.2.1.fSlots,di a.2.1.fnow,.srf 9,.srf 10,.srf 11],.box [di c,di e,di f,.srf 8],.cu (rowF 86 2 (g.map Gc)) [],.cu (mapC (fun x:Int=>Value.int .i64 x) Value.string h) [],.cu (mapC (fun x:Int=>Value.int .i64 x) (fun x:Int=>Value.int .i64 x) i) [],.cu (mapC (fun x:Int=>Value.int .i64 x) Value.bool j) [],.none]⟩
def Sa (n:Nat) (b:((List Int)×Gg×Gb)):Nat→Int→Int→Int→Int→(List Gi)→(List (Int×ByteArray))→(List (Int×Int))→(List (Int×Bool))→Option KR
 | 0,_,_,_,_,_,_,_,_=>none
 | k+1,c,f,g,h,i,d,j,l =>
  if c<(b.1.length:Int) then
   (getI b.1 c).bind fun (e:Int) =>
   (Ss n (Gb.mk f g h i) e ((mget d e).getD (ByteArray.mk #[]))).bind fun (a:(Int×Gb)) =>
   Sa n b k (wi .i64 (c+1)) a.2.fSectors a.2.fMark a.2.fFuse a.2.fAll d j (mput l e false)
  else
   some (.x0 f g h i d j l)
theorem YF {Fi:Ex→PS→Prop} (hF:KC 34 Fi) (ks:List Fr) (n:Nat) (p:((List Int)×Gg×Gb))  : ∀ (k:Nat) (m r u a0:Int) (a1:(List Gi)) (b:(List (Int×ByteArray))) (a2:(List (Int×Int))) (j:(List (Int×Bool))) (o:KR),Sa n p k m r u a0 a1 b a2 j=some o→RunE Tryz.prog 34 Fi ks (UF o) (UG p o)→RunE Tryz.prog 34 Fi (.l k (cP (cB (cR (cL (bodyOf Tryz.f12)))))::ks) .normal (UH p m r u a0 a1 b a2 j)
 | 0,m,r,u,a0,a1,b,a2,j,o,h,q=>by rw [Sa] at h; cases h
 | k+1,m,r,u,a0,a1,b,a2,j,o,h,q=>by
  rw [Sa] at h
  by_cases a3:m<(p.1.length:Int)
  ·rw [if_pos a3] at h
   obtain ⟨i,a4,h⟩:=bind_some h
   obtain ⟨a,a5,h⟩:=bind_some h
   exact pkk_sound TTok mix hF 15 (hs:=[.t true,.y ((eI .i64) i),.c,.c,.c,.e 83 [9] (.d (.v (.string ((mget b i).getD (ByteArray.mk #[]))))) [],.h [7,8] [] [.box [di a.2.fSectors,di a.2.fMark,di a.2.fFuse,.srf 2],.none,.cu (rowF 86 2 (a.2.fAll.map Gc)) []] (di a.1),.c,.e 118 [11] (dd) [(11,.cu (mapC (fun x:Int=>Value.int .i64 x) Value.bool (mput j i false)) [])]]) (ts:=[]) (s:=[0,1,2,3,4,5,6,7,88,9,10,11,12]) (l:=[0,5,6,7]) (by kernel_rfl) (by kernel_rfl) (.cons (dt a3) (.cons (getI_ob (f:=(eI .i64)) a4) (.cons (ylook (P:=Tryz.prog) (T:=TT) (t:=52) (kt:=3) (et:=9) (l:=9) (x:=(.tmp 19)) (y:=(.tmp 20)) (f:=(fun x:Int=>Value.int .i64 x)) (g:=Value.string) (E:=b) (k:=i) (z:=(ByteArray.mk #[])) (kv_v _) false (by kernel_rfl) (KOk.kw (KOk.int (by kernel_rfl))) (fun w=>by kernel_rfl) (fun _=>rfl) rfl) (.cons (Xa n (Gb.mk r u a0 a1) i ((mget b i).getD (ByteArray.mk #[])) _ a5) (.cons (yput (P:=Tryz.prog) (T:=TT) (t:=54) (kt:=3) (et:=4) (l:=11) (x:=(.tmp 26)) (y:=(.tmp 27)) (z:=(.const (.bool false))) (f:=(fun x:Int=>Value.int .i64 x)) (g:=Value.bool) (E:=j) (k:=i) (v:=false) (kv_v _) (by kernel_rfl) (KOk.kw (KOk.int (by kernel_rfl)))) .nil))))) (YF hF ks n p k (wi .i64 (m+1)) a.2.fSectors a.2.fMark a.2.fFuse a.2.fAll b a2 (mput j i false) _ h q)
  ·rw [if_neg a3] at h
   cases h
   exact pkk_sound TTok mix hF 8 (hs:=[.t false]) (ts:=[]) (s:=[0,1,2,3,4,5,6,7,8,9,10,11,12]) (l:=[0]) (by kernel_rfl) (by kernel_rfl) (.cons (df a3) .nil) q
/- (*ringhall/ringref3.Cache).Sync -/
def Kk (n:Nat) (b:Gg) (c:Gb):Option (Gg×Gb) :=
 (Ke n b c).bind fun (a:((List Int)×Gg×Gb)) =>
 (Sa n a n 0 a.2.2.fSectors a.2.2.fMark a.2.2.fFuse a.2.2.fAll a.2.1.fdata a.2.1.fused a.2.1.fdirty).bind fun d=>match d with
 | .x0 e f g h i j k =>
  (SN n (Gb.mk e f g h)).bind fun (l:(Gb)) =>
  some ((Gg.mk () a.2.1.fSlots a.2.1.fnow i j k),l)
theorem VH (n:Nat) (e:Gg) (g:Gb) (r:Gg×Gb) (h:Kk n e g=some r):RetH Tryz.prog 12 [.ref 0 0] [.box [.ref 4 0,di e.fSlots,di e.fnow,.srf 1,.srf 2,.srf 3],.cu (mapC (fun x:Int=>Value.int .i64 x) Value.string e.fdata) [],.cu (mapC (fun x:Int=>Value.int .i64 x) (fun x:Int=>Value.int .i64 x) e.fused) [],.cu (mapC (fun x:Int=>Value.int .i64 x) Value.bool e.fdirty) [],.box [di g.fSectors,di g.fMark,di g.fFuse,.srf 5],.cu (rowF 86 2 (g.fAll.map Gc)) []] (.tup []) [.box [.ref 4 0,di r.1.fSlots,di r.1.fnow,.srf 1,.srf 2,.srf 3],.cu (mapC (fun x:Int=>Value.int .i64 x) Value.string r.1.fdata) [],.cu (mapC (fun x:Int=>Value.int .i64 x) (fun x:Int=>Value.int .i64 x) r.1.fused) [],.cu (mapC (fun x:Int=>Value.int .i64 x) Value.bool r.1.fdirty) [],.box [di r.2.fSectors,di r.2.fMark,di r.2.fFuse,.srf 6],.none,.cu (rowF 86 2 (r.2.fAll.map Gc)) []]:=by
 refine retH_run (n:=34) (fn:=Tryz.f12) (c:=bodyOf Tryz.f12) (by kernel_rfl) (by kernel_rfl) (by kernel_rfl) (by kernel_rfl) ?_
 have hF:KC 34 (FinH Tryz.prog Tryz.f12 [.box [.ref 4 0,di e.fSlots,di e.fnow,.srf 1,.srf 2,.srf 3],.cu (mapC (fun x:Int=>Value.int .i64 x) Value.string e.fdata) [],.cu (mapC (fun x:Int=>Value.int .i64 x) (fun x:Int=>Value.int .i64 x) e.fused) [],.cu (mapC (fun x:Int=>Value.int .i64 x) Value.bool e.fdirty) [],.box [di g.fSectors,di g.fMark,di g.fFuse,.srf 5],.cu (rowF 86 2 (g.fAll.map Gc)) []] (.tup []) [.box [.ref 4 0,di r.1.fSlots,di r.1.fnow,.srf 1,.srf 2,.srf 3],.cu (mapC (fun x:Int=>Value.int .i64 x) Value.string r.1.fdata) [],.cu (mapC (fun x:Int=>Value.int .i64 x) (fun x:Int=>Value.int .i64 x) r.1.fused) [],.cu (mapC (fun x:Int=>Value.int .i64 x) Value.bool r.1.fdirty) [],.box [di r.2.fSectors,di r.2.fMark,di r.2.fFuse,.srf 6],.none,.cu (rowF 86 2 (r.2.fAll.map Gc)) []]):=FinH.kc' (by kernel_rfl)
 unfold Kk at h
 obtain ⟨a,j,h⟩:=bind_some h
 obtain ⟨k,m,h⟩:=bind_some h
 refine pkk_sound TTok mix hF 5 (hs:=[.h [0,1,2,3,4,5] [] [.box [.ref 4 0,di a.2.1.fSlots,di a.2.1.fnow,.srf 1,.srf 2,.srf 3],.cu (mapC (fun x:Int=>Value.int .i64 x) Value.string a.2.1.fdata) [],.cu (mapC (fun x:Int=>Value.int .i64 x) (fun x:Int=>Value.int .i64 x) a.2.1.fused) [],.cu (mapC (fun x:Int=>Value.int .i64 x) Value.bool a.2.1.fdirty) [],.box [di a.2.2.fSectors,di a.2.2.fMark,di a.2.2.fFuse,.srf 6],.none,.cu (rowF 86 2 (a.2.2.fAll.map Gc)) []] (.d (.sl (a.1.map (eI .i64)))),.u (di (a.1.length:Int)),.n n]) (ts:=[]) (s:=[6,7,8,9,10,11,0,4,17,1,2,3,5]) (l:=[0,5,6,7]) (by kernel_rfl) (by kernel_rfl) (.cons (ZS n e g _ j) (.cons (len_ob (f:=(eI .i64)) (l:=a.1)) .nil)) (YF hF (.b 0::.s (cR (bodyOf Tryz.f12))::[]) n a n 0 a.2.2.fSectors a.2.2.fMark a.2.2.fFuse a.2.2.fAll a.2.1.fdata a.2.1.fused a.2.1.fdirty _ m ?_)
 cases k with
 | x0 o p q t y z a0 =>
  try dsimp only at h
  obtain ⟨i,w,h⟩:=bind_some h
  obtain rfl:=Option.some.inj h
  exact pendH_sound TTok mix 2 (hs:=[.c,.h [7,8] [] [.box [di i.fSectors,di i.fMark,di i.fFuse,.srf 2],.none,.cu (rowF 86 2 (i.fAll.map Gc)) []] (.tup [])]) [6,9,10,11,7,12,33] (by kernel_rfl) (by kernel_rfl) (by kernel_rfl) (.cons (VG n (Gb.mk o p q t) _ w) .nil)
/- (*ringhall/disk.Disk).Read -/
def KN (n:Nat) (c:Gf) (a:Int):Option ((List Int)×Int×Gf) :=
 if a<0 then
  some (([]:(List Int)),1,c)
 else
  (Kg n c).bind fun (b:(Int×Gf)) =>
  if a≥b.1 then
   some (([]:(List Int)),1,b.2)
  else
   if ((0:Int)≤(wi .i64 (a*64))∧(wi .i64 (a*64))≤(wi .i64 ((wi .i64 (a+1))*64))∧(wi .i64 ((wi .i64 (a+1))*64))≤(b.2.fnow.length:Int)) then
    if (wi .i64 (a*64)).toNat≤(wi .i64 ((wi .i64 (a+1))*64)).toNat∧(wi .i64 ((wi .i64 (a+1))*64)).toNat≤b.2.fnow.length then
     (Gq n ((b.2.fnow.take ((wi .i64 ((wi .i64 (a+1))*64)).toNat)).drop ((wi .i64 (a*64)).toNat))).bind fun (d:(List Int)) =>
     some (d,0,b.2)
    else none
   else none
theorem Ur (n:Nat) (o:Gf) (k:Int) (r:(List Int)×Int×Gf) (h:KN n o k=some r):RetH Tryz.prog 32 [.ref 0 0,.d ((eI .i64) k)] [.box [.srf 1,.srf 2,.srf 3,di o.ffuse],.row 5 1 (o.fsafe.map (eI .u8)),.row 5 1 (o.fnow.map (eI .u8)),.row 84 2 (o.fwait.map Ge)] (.tup [.d ((eL (eI .u8)) r.1),.d ((eI .i64) r.2.1)]) [.box [.srf 4,.srf 5,.srf 6,di r.2.2.ffuse],.none,.none,.none,.row 5 1 (r.2.2.fsafe.map (eI .u8)),.row 5 1 (r.2.2.fnow.map (eI .u8)),.row 84 2 (r.2.2.fwait.map Ge)]:=by
 refine retH_run (n:=25) (fn:=Tryz.f32) (c:=bodyOf Tryz.f32) (by kernel_rfl) (by kernel_rfl) (by kernel_rfl) (by kernel_rfl) ?_
 have hF:KC 25 (FinH Tryz.prog Tryz.f32 [.box [.srf 1,.srf 2,.srf 3,di o.ffuse],.row 5 1 (o.fsafe.map (eI .u8)),.row 5 1 (o.fnow.map (eI .u8)),.row 84 2 (o.fwait.map Ge)] (.tup [.d ((eL (eI .u8)) r.1),.d ((eI .i64) r.2.1)]) [.box [.srf 4,.srf 5,.srf 6,di r.2.2.ffuse],.none,.none,.none,.row 5 1 (r.2.2.fsafe.map (eI .u8)),.row 5 1 (r.2.2.fnow.map (eI .u8)),.row 84 2 (r.2.2.fwait.map Ge)]):=FinH.kc' (by kernel_rfl)
 unfold KN at h
 by_cases p:k<0
 ·rw [if_pos p] at h
  obtain rfl:=Option.some.inj h
  exact pendH_sound TTok mix 13 (hs:=[.t true,.c,.c,.c,.c,.dl 4,.mv 1,.mv 2,.mv 3]) [0,1,2,3,68,69,70] (by kernel_rfl) (by kernel_rfl) (by kernel_rfl) (.cons (dt p) .nil)
 ·rw [if_neg p] at h
  obtain ⟨m,y,h⟩:=bind_some h
  by_cases q:k≥m.1
  ·rw [if_pos q] at h
   obtain rfl:=Option.some.inj h
   exact pendH_sound TTok mix 10 (hs:=[.t false,.c,.c,.h [0,1,2,3] [] [.box [.srf 4,.srf 5,.srf 6,di m.2.ffuse],.none,.none,.none,.row 5 1 (m.2.fsafe.map (eI .u8)),.row 5 1 (m.2.fnow.map (eI .u8)),.row 84 2 (m.2.fwait.map Ge)] (di m.1),.c,.t true]) [0,1,2,3,43,44,45] (by kernel_rfl) (by kernel_rfl) (by kernel_rfl) (.cons (df p) (.cons (KA n o _ y) (.cons (dt q) .nil)))
  ·rw [if_neg q] at h
   by_cases u:((0:Int)≤(wi .i64 (k*64))∧(wi .i64 (k*64))≤(wi .i64 ((wi .i64 (k+1))*64))∧(wi .i64 ((wi .i64 (k+1))*64))≤(m.2.fnow.length:Int))
   ·rw [if_pos u] at h
    by_cases w:(wi .i64 (k*64)).toNat≤(wi .i64 ((wi .i64 (k+1))*64)).toNat∧(wi .i64 ((wi .i64 (k+1))*64)).toNat≤m.2.fnow.length
    ·rw [if_pos w] at h
     obtain ⟨z,a0,h⟩:=bind_some h
     obtain rfl:=Option.some.inj h
     exact pendH_sound TTok mix 11 (hs:=[.t false,.c,.c,.h [0,1,2,3] [] [.box [.srf 4,.srf 5,.srf 6,di m.2.ffuse],.none,.none,.none,.row 5 1 (m.2.fsafe.map (eI .u8)),.row 5 1 (m.2.fnow.map (eI .u8)),.row 84 2 (m.2.fwait.map Ge)] (di m.1),.c,.t false,.c,.e 103 [44] (.ssl 44 ((wi .i64 (k*64)).toNat) ((wi .i64 ((wi .i64 (k+1))*64)).toNat) 1) [],.e 108 [44,108] (.srf 108) [(108,.row 5 1 (z.map (eI .u8)))],.dl 1,.fz 108]) [0,1,2,3,43,44,45] (by kernel_rfl) (by kernel_rfl) (by kernel_rfl) (.cons (df p) (.cons (KA n o _ y) (.cons (df q) (.cons (xs11 (P:=Tryz.prog) (T:=TT) (f:=(eI .u8)) (t:=35) (e:=5) (s:=1) (l:=44) (L:=m.2.fnow) (x:=(.tmp 17)) (lo:=(.tmp 19)) (hi:=(.tmp 22)) (a:=(wi .i64 (k*64))) (ka:=.i64) (b:=(wi .i64 ((wi .i64 (k+1))*64))) (kb:=.i64) (by kernel_rfl) u) (.cons (cpart (P:=Tryz.prog) (T:=TT) (f:=.func 25) (args:=#[(.tmp 23)]) (tys:=#[35]) (g:=25) (l:=44) (e:=5) (s:=1) (i:=(wi .i64 (k*64)).toNat) (j:=(wi .i64 ((wi .i64 (k+1))*64)).toNat) (nl:=108) (xs:=(m.2.fnow.map (eI .u8))) (ys:=(((m.2.fnow.take ((wi .i64 ((wi .i64 (k+1))*64)).toNat)).drop ((wi .i64 (k*64)).toNat)).map (eI .u8))) (by simp only [List.map_drop,List.map_take]) (by rw [List.length_map]; exact w) (Kh n _ _ a0) (flat_map _ (fun _=>rfl))) .nil)))))
    ·rw [if_neg w] at h; cases h
   ·rw [if_neg u] at h; cases h
/- (*ringhall/buffer.Cache).Get -/
def KS (n:Nat) (g:Gh) (h:Gf) (c:Int):Option ((List Int)×Int×Gh×Gf) :=
 (SL n g h c).bind fun (a:(Int×Gh×Gf)) =>
 if a.1≥0 then
  if 0≤a.1∧(a.1).toNat<a.2.1.fl.length then
   (a.2.1.fl[(a.1).toNat]?).bind fun (d:Gd) =>
   (Si n a.2.1 a.2.2 d).bind fun (e:(Gh×Gf)) =>
   (Gq n d.fdata).bind fun (i:((List Int))) =>
   some (i,0,e.1,e.2)
  else none
 else
  (KN n a.2.2 c).bind fun (b:((List Int)×Int×Gf)) =>
  if b.2.1=0 then
   (Si n a.2.1 b.2.2 (Gd.mk c b.1 false)).bind fun (f:(Gh×Gf)) =>
   (Gq n b.1).bind fun (j:((List Int))) =>
   some (j,0,f.1,f.2)
  else
   some (([]:(List Int)),b.2.1,a.2.1,b.2.2)
theorem Yu (n:Nat) (g:Gh) (e:Gf) (i:Int) (r:(List Int)×Int×Gh×Gf) (h:KS n g e i=some r):RetH Tryz.prog 13 [.ref 0 0,.d ((eI .i64) i)] [.box [.ref 2 0,di g.fslots,.srf 1],.row 69 3 (g.fl.map Ga),.box [.srf 3,.srf 4,.srf 5,di e.ffuse],.row 5 1 (e.fsafe.map (eI .u8)),.row 5 1 (e.fnow.map (eI .u8)),.row 84 2 (e.fwait.map Ge)] (.tup [.d ((eL (eI .u8)) r.1),.d ((eI .i64) r.2.1)]) [.box [.ref 2 0,di r.2.2.1.fslots,.srf 6],.none,.box [.srf 7,.srf 8,.srf 9,di r.2.2.2.ffuse],.none,.none,.none,.row 69 3 (r.2.2.1.fl.map Ga),.row 5 1 (r.2.2.2.fsafe.map (eI .u8)),.row 5 1 (r.2.2.2.fnow.map (eI .u8)),.row 84 2 (r.2.2.2.fwait.map Ge)]:=by
 refine retH_run (n:=47) (fn:=Tryz.f13) (c:=bodyOf Tryz.f13) (by kernel_rfl) (by kernel_rfl) (by kernel_rfl) (by kernel_rfl) ?_
 have hF:KC 47 (FinH Tryz.prog Tryz.f13 [.box [.ref 2 0,di g.fslots,.srf 1],.row 69 3 (g.fl.map Ga),.box [.srf 3,.srf 4,.srf 5,di e.ffuse],.row 5 1 (e.fsafe.map (eI .u8)),.row 5 1 (e.fnow.map (eI .u8)),.row 84 2 (e.fwait.map Ge)] (.tup [.d ((eL (eI .u8)) r.1),.d ((eI .i64) r.2.1)]) [.box [.ref 2 0,di r.2.2.1.fslots,.srf 6],.none,.box [.srf 7,.srf 8,.srf 9,di r.2.2.2.ffuse],.none,.none,.none,.row 69 3 (r.2.2.1.fl.map Ga),.row 5 1 (r.2.2.2.fsafe.map (eI .u8)),.row 5 1 (r.2.2.2.fnow.map (eI .u8)),.row 84 2 (r.2.2.2.fwait.map Ge)]):=FinH.kc' (by kernel_rfl)
 unfold KS at h
 obtain ⟨a,o,h⟩:=bind_some h
 by_cases l:a.1≥0
 ·rw [if_pos l] at h
  by_cases p:0≤a.1∧(a.1).toNat<a.2.1.fl.length
  ·rw [if_pos p] at h
   obtain ⟨q,u,h⟩:=bind_some h
   obtain ⟨j,w,h⟩:=bind_some h
   obtain ⟨x,z,h⟩:=bind_some h
   obtain rfl:=Option.some.inj h
   exact pendH_sound TTok mix 17 (hs:=[.h [0,1,2,3,4,5] [] [.box [.ref 2 0,di a.2.1.fslots,.srf 6],.none,.box [.srf 7,.srf 8,.srf 9,di a.2.2.ffuse],.none,.none,.none,.row 69 3 (a.2.1.fl.map Ga),.row 5 1 (a.2.2.fsafe.map (eI .u8)),.row 5 1 (a.2.2.fnow.map (eI .u8)),.row 84 2 (a.2.2.fwait.map Ge)] (di a.1),.t true,.c,.y (Ga q),.c,.c,.h [0,32,2,33,34,35] [] [.box [.ref 2 0,di j.1.fslots,.srf 6],.none,.box [.srf 7,.srf 8,.srf 9,di j.2.ffuse],.none,.none,.none,.row 69 3 (j.1.fl.map Ga),.row 5 1 (j.2.fsafe.map (eI .u8)),.row 5 1 (j.2.fnow.map (eI .u8)),.row 84 2 (j.2.fwait.map Ge)] (.tup []),.c,.h [] [] [.row 5 1 (x.map (eI .u8))] (.srf 0),.dl 2,.fz 122]) [0,1,2,3,4,5,107,108,109,110] (by kernel_rfl) (by kernel_rfl) (by kernel_rfl) (.cons (KH n g e i _ o) (.cons (dt l) (.cons (idx_ob (f:=Ga) p) (.cons (get_ob (f:=Ga) u) (.cons (show 0+3≤3 by decide) (.cons (ZD n a.2.1 a.2.2 q _ w) (.cons (Kh n q.fdata _ z) .nil)))))))
  ·rw [if_neg p] at h; cases h
 ·rw [if_neg l] at h
  obtain ⟨b,s,h⟩:=bind_some h
  by_cases m:b.2.1=0
  ·rw [if_pos m] at h
   obtain ⟨k,a0,h⟩:=bind_some h
   obtain ⟨a1,a2,h⟩:=bind_some h
   obtain rfl:=Option.some.inj h
   exact pendH_sound TTok mix 22 (hs:=[.h [0,1,2,3,4,5] [] [.box [.ref 2 0,di a.2.1.fslots,.srf 6],.none,.box [.srf 7,.srf 8,.srf 9,di a.2.2.ffuse],.none,.none,.none,.row 69 3 (a.2.1.fl.map Ga),.row 5 1 (a.2.2.fsafe.map (eI .u8)),.row 5 1 (a.2.2.fnow.map (eI .u8)),.row 84 2 (a.2.2.fwait.map Ge)] (di a.1),.t false,.c,.h [2,33,34,35] [] [.box [.srf 4,.srf 5,.srf 6,di b.2.2.ffuse],.none,.none,.none,.row 5 1 (b.2.2.fsafe.map (eI .u8)),.row 5 1 (b.2.2.fnow.map (eI .u8)),.row 84 2 (b.2.2.fwait.map Ge)] (.tup [.d (.sl (b.1.map (eI .u8))),di b.2.1]),.t false,.h [0,32,2,77,78,79] [] [.box [.ref 2 0,di k.1.fslots,.srf 6],.none,.box [.srf 7,.srf 8,.srf 9,di k.2.ffuse],.none,.none,.none,.row 69 3 (k.1.fl.map Ga),.row 5 1 (k.2.fsafe.map (eI .u8)),.row 5 1 (k.2.fnow.map (eI .u8)),.row 84 2 (k.2.fwait.map Ge)] (.tup []),.h [] [] [.row 5 1 (a1.map (eI .u8))] (.srf 0),.dl 1,.fz 147]) [0,1,2,3,4,5,137,138,139,140] (by kernel_rfl) (by kernel_rfl) (by kernel_rfl) (.cons (KH n g e i _ o) (.cons (df l) (.cons (Ur n a.2.2 i _ s) (.cons (nf m) (.cons (ZD n a.2.1 b.2.2 (Gd.mk i b.1 false) _ a0) (.cons (Kh n b.1 _ a2) .nil))))))
  ·rw [if_neg m] at h
   obtain rfl:=Option.some.inj h
   exact pendH_sound TTok mix 19 (hs:=[.h [0,1,2,3,4,5] [] [.box [.ref 2 0,di a.2.1.fslots,.srf 6],.none,.box [.srf 7,.srf 8,.srf 9,di a.2.2.ffuse],.none,.none,.none,.row 69 3 (a.2.1.fl.map Ga),.row 5 1 (a.2.2.fsafe.map (eI .u8)),.row 5 1 (a.2.2.fnow.map (eI .u8)),.row 84 2 (a.2.2.fwait.map Ge)] (di a.1),.t false,.c,.h [2,33,34,35] [] [.box [.srf 4,.srf 5,.srf 6,di b.2.2.ffuse],.none,.none,.none,.row 5 1 (b.2.2.fsafe.map (eI .u8)),.row 5 1 (b.2.2.fnow.map (eI .u8)),.row 84 2 (b.2.2.fwait.map Ge)] (.tup [.d (.sl (b.1.map (eI .u8))),di b.2.1]),.t true]) [0,1,2,3,4,5,32,77,78,79] (by kernel_rfl) (by kernel_rfl) (by kernel_rfl) (.cons (KH n g e i _ o) (.cons (df l) (.cons (Ur n a.2.2 i _ s) (.cons (nt m) .nil))))
def ZH (n:Nat) (s:ByteArray) (c:Int):Option ByteArray:=if 0≤c∧c≤9223372036854775807∧s.size*c.toNat≤140737488355328 then some ⟨(Lib.repeatL s.data.toList c.toNat).toArray⟩ else none
theorem V9 (n:Nat) (s:ByteArray) (c:Int) (r:ByteArray) (h:ZH n s c=some r):Ret Tryz.prog 53 [eS s,eI .i64 c] (eS r):=by
 unfold ZH at h
 split at h
 ·rename_i q
  obtain ⟨q1,q2,q3⟩:=q
  obtain rfl:=Option.some.inj h
  obtain ⟨c,rfl⟩:=Int.eq_ofNat_of_zero_le q1
  refine ⟨⟨Tryz.f53,by kernel_rfl,by kernel_rfl,by kernel_rfl⟩,fun ow w vs _ hv=>?_⟩
  simp only [RT,R,eS,eI] at hv
  obtain ⟨_,_,rfl,⟨rfl,_⟩,_,_,rfl,⟨rfl,_⟩,rfl⟩:=hv
  refine (Tryz.strings_Repeat s c w (by omega) (by simpa using q3)).mono ?_
  rintro e w' ⟨rfl,hb⟩
  exact ⟨_,rfl,hb,rfl,rfl⟩
 ·cases h
inductive Z5 where
 | x0 (a:ByteArray)
 | x1 
def V1:Z5→Ex
 | .x0 _=>.ret
 | .x1  => .exit 0
def V2 (b:(List Gi)) (c:Int):Z5→PS
 | .x0 a=>⟨(dd::dd::dd::dd::.d (.v (.string a))::(dds 21 [])),[]⟩
 | .x1  => ⟨(dds 26 []),[]⟩
def V3 (a:(List Gi)) (b c:Int):PS:=⟨(.d (.sl (a.map Gc))::di b::dd::dd::dd::di c::(dds 20 [])),[]⟩
def Kj (n:Nat) (b:(List Gi)) (c:Int):Nat→Int→Option Z5
 | 0,_=>none
 | k+1,a =>
  if a≥0 then
   (getI b a).bind fun (d:Gi) =>
   if d.fN=c then
    (getI b a).bind fun (e:Gi) =>
    some (.x0 e.fData)
   else
    Kj n b c k (wi .i64 (a-1))
  else
   some (.x1 )
theorem Us {Fi:Ex→PS→Prop} (hF:KC 26 Fi) (ks:List Fr) (n:Nat) (e:(List Gi)) (b:Int)  : ∀ (k:Nat) (a:Int) (o:Z5),Kj n e b k a=some o→RunE Tryz.prog 26 Fi ks (V1 o) (V2 e b o)→RunE Tryz.prog 26 Fi (.l k (cP (cB (cR (cL (cR (bodyOf Tryz.f44))))))::ks) .normal (V3 e b a)
 | 0,a,o,h,q=>by rw [Kj] at h; cases h
 | k+1,a,o,h,q=>by
  rw [Kj] at h
  by_cases d:a≥0
  ·rw [if_pos d] at h
   obtain ⟨i,j,h⟩:=bind_some h
   by_cases g:i.fN=b
   ·rw [if_pos g] at h
    obtain ⟨m,p,h⟩:=bind_some h
    cases h
    exact pkk_sound TTok mix hF 17 (hs:=[.t true,.y (Gc i),.c,.t true,.y (Gc m),.c]) (ts:=[]) (s:=[]) (l:=[4]) (by kernel_rfl) (by kernel_rfl) (.cons (dt d) (.cons (getI_ob (f:=Gc) j) (.cons (bt g) (.cons (getI_ob (f:=Gc) p) .nil)))) q
   ·rw [if_neg g] at h
    exact pkk_sound TTok mix hF 14 (hs:=[.t true,.y (Gc i),.c,.t false]) (ts:=[]) (s:=[]) (l:=[0,1,5]) (by kernel_rfl) (by kernel_rfl) (.cons (dt d) (.cons (getI_ob (f:=Gc) j) (.cons (bf g) .nil))) (Us hF ks n e b k (wi .i64 (a-1)) _ h q)
  ·rw [if_neg d] at h
   cases h
   exact pkk_sound TTok mix hF 8 (hs:=[.t false]) (ts:=[]) (s:=[]) (l:=[]) (by kernel_rfl) (by kernel_rfl) (.cons (df d) .nil) q
/- ringhall/ringref3.last -/
def ZX (n:Nat) (a:(List Gi)) (b:Int):Option (ByteArray) :=
 (Kj n a b n (wi .i64 ((a.length:Int)-1))).bind fun c=>match c with
 | .x0 d =>
  some d
 | .x1  =>
  (ZH n (ByteArray.mk #[0]) 64).bind fun (e:(ByteArray)) =>
  some e
theorem Vn (n:Nat) (a:(List Gi)) (e:Int) (r:ByteArray) (h:ZX n a e=some r):Ret Tryz.prog 44 [(eL Gc) a,(eI .i64) e] (eS r):=by
 refine ret_run (n:=26) (fn:=Tryz.f44) (c:=bodyOf Tryz.f44) (by kernel_rfl) (by kernel_rfl) (by kernel_rfl) (by kernel_rfl) ?_
 have hF:KC 26 (FinR Tryz.prog Tryz.f44 (eS r)):=FinR.kc' (by kernel_rfl)
 unfold ZX at h
 obtain ⟨g,i,h⟩:=bind_some h
 refine pkk_sound TTok mix hF 7 (hs:=[.u (di (a.length:Int)),.n n]) (ts:=[]) (s:=[]) (l:=[0,1,5]) (by kernel_rfl) (by kernel_rfl) (.cons (len_ob (f:=Gc) (l:=a)) .nil) (Us hF (.b 0::.s (cR (cR (bodyOf Tryz.f44)))::[]) n a e n (wi .i64 ((a.length:Int)-1)) _ i ?_)
 cases g with
 | x0 m =>
  try dsimp only at h
  obtain rfl:=Option.some.inj h
  exact pend_sound TTok mix 2 (hs:=[]) (by kernel_rfl) (by kernel_rfl) (by kernel_rfl) .nil
 | x1  =>
  try dsimp only at h
  obtain ⟨j,k,h⟩:=bind_some h
  obtain rfl:=Option.some.inj h
  exact pend_sound TTok mix 4 (hs:=[.r (eS j)]) (by kernel_rfl) (by kernel_rfl) (by kernel_rfl) (.cons (V9 n (ByteArray.mk #[0]) 64 _ k) .nil)
/- (*ringhall/ringref3.Disk).Read -/
def SX (n:Nat) (a:Gb) (b:Int):Option (ByteArray×Gb) :=
 (ZX n a.fAll b).bind fun (c:(ByteArray)) =>
 some (c,a)
theorem VN (n:Nat) (a:Gb) (b:Int) (r:ByteArray×Gb) (h:SX n a b=some r):RetH Tryz.prog 33 [.ref 0 0,.d ((eI .i64) b)] [.box [di a.fSectors,di a.fMark,di a.fFuse,.srf 1],.cu (rowF 86 2 (a.fAll.map Gc)) []] (.d (eS r.1)) [.box [di r.2.fSectors,di r.2.fMark,di r.2.fFuse,.srf 2],.none,.cu (rowF 86 2 (r.2.fAll.map Gc)) []]:=by
 refine retH_run (n:=11) (fn:=Tryz.f33) (c:=bodyOf Tryz.f33) (by kernel_rfl) (by kernel_rfl) (by kernel_rfl) (by kernel_rfl) ?_
 have hF:KC 11 (FinH Tryz.prog Tryz.f33 [.box [di a.fSectors,di a.fMark,di a.fFuse,.srf 1],.cu (rowF 86 2 (a.fAll.map Gc)) []] (.d (eS r.1)) [.box [di r.2.fSectors,di r.2.fMark,di r.2.fFuse,.srf 2],.none,.cu (rowF 86 2 (r.2.fAll.map Gc)) []]):=FinH.kc' (by kernel_rfl)
 unfold SX at h
 obtain ⟨f,g,h⟩:=bind_some h
 obtain rfl:=Option.some.inj h
 exact pendH_sound TTok mix 6 (hs:=[.c,.c,.r (eS f),.dl 1,.sx [1] (fmvS 1 86 2 (a.fAll.map Gc))]) [0,1,44] (by kernel_rfl) (by kernel_rfl) (by kernel_rfl) (.cons (Vn n a.fAll b _ g) (.cons (fmv (l:=1) (e:=86) (s:=2) (xs:=(a.fAll.map Gc))) .nil))
inductive K6 where
 | x0 (a:Bool) (b:(List Gi)) (c:(List (Int×ByteArray))) (d:(List (Int×Int))) (e:(List (Int×Bool)))
def U1:K6→Ex
 | .x0 _ _ _ _ _=>.normal
def U2 (c:Int) (b:Gg) (a:Gb):K6→PS
 | .x0 e f g h i=>⟨(.ref 6 0::di c::(dds 18 (.d (.v (.bool e))::(dds 28 [])))),[.gh 0 (.ref 6 0),.gh 1 (.srf 9),.gh 2 (.srf 10),.gh 3 (.srf 11),.gh 4 (.ref 7 0),.gh 5 (.srf 8),.box [.ref 7 0,di b.fSlots,di b.fnow,.srf 9,.srf 10,.srf 11],.box [di a.fSectors,di a.fMark,di a.fFuse,.srf 8],.cu (rowF 86 2 (f.map Gc)) [],.cu (mapC (fun x:Int=>Value.int .i64 x) Value.string g) [],.cu (mapC (fun x:Int=>Value.int .i64 x) (fun x:Int=>Value.int .i64 x) h) [],.cu (mapC (fun x:Int=>Value.int .i64 x) Value.bool i) []]⟩
def U3 (c:Int) (a:Gg) (b:Gb)  : PS:=⟨(.ref 6 0::di c::(dds 47 [])),[.gh 0 (.ref 6 0),.gh 1 (.srf 9),.gh 2 (.srf 10),.gh 3 (.srf 11),.gh 4 (.ref 7 0),.gh 5 (.srf 8),.box [.ref 7 0,di a.fSlots,di a.fnow,.srf 9,.srf 10,.srf 11],.box [di b.fSectors,di b.fMark,di b.fFuse,.srf 8],.cu (rowF 86 2 (b.fAll.map Gc)) [],.cu (mapC (fun x:Int=>Value.int .i64 x) Value.string a.fdata) [],.cu (mapC (fun x:Int=>Value.int .i64 x) (fun x:Int=>Value.int .i64 x) a.fused) [],.cu (mapC (fun x:Int=>Value.int .i64 x) Value.bool a.fdirty) []]⟩
def Zu (n:Nat) (c:Int) (a:Gg) (b:Gb):Option K6 :=
 if c<0 then
  some (.x0 true b.fAll a.fdata a.fused a.fdirty)
 else
  some (.x0 (decide (c≥b.fSectors)) b.fAll a.fdata a.fused a.fdirty)
theorem U4 {Fi:Ex→PS→Prop} (hF:KC 49 Fi) (ks:List Fr) (n:Nat) (a:Int) (d:Gg) (e:Gb)  (o:K6) (h:Zu n a d e=some o) (q:RunE Tryz.prog 49 Fi ks (U1 o) (U2 a d e o)):RunE Tryz.prog 49 Fi (.s (cL (cL (cR (bodyOf Tryz.f14))))::ks) .normal (U3 a d e):=by
 unfold Zu at h
 by_cases b:a<0
 ·rw [if_pos b] at h
  cases h
  exact pkk_sound TTok mix hF 1 (hs:=[.t true,.c,.c,.c,.c,.c,.c,.c,.c]) (ts:=[]) (s:=[0,1,2,3,4,5,6,7,8,9,10,11]) (l:=[0,1,20]) (by kernel_rfl) (by kernel_rfl) (.cons (dt b) .nil) q
 ·rw [if_neg b] at h
  cases h
  exact pkk_sound TTok mix hF 1 (hs:=[.t false,.c,.c,.c,.c,.c,.c,.c,.c,.c,.c]) (ts:=[]) (s:=[0,1,2,3,4,5,6,7,8,9,10,11]) (l:=[0,1,20]) (by kernel_rfl) (by kernel_rfl) (.cons (df b) .nil) q
/- (*ringhall/ringref3.Cache).Get -/
def Kw (n:Nat) (c:Gg) (a:Gb) (b:Int):Option (ByteArray×Int×Gg×Gb) :=
 (Zu n b c a).bind fun k=>match k with
 | .x0 l f d g e =>
  if l=true then
   some ((ByteArray.mk #[]),1,(Gg.mk () c.fSlots c.fnow d g e),(Gb.mk a.fSectors a.fMark a.fFuse f))
  else
   if (mget d b).isSome=true then
    (G1 n (Gg.mk () c.fSlots c.fnow d g e) (Gb.mk a.fSectors a.fMark a.fFuse f) b ((mget d b).getD (ByteArray.mk #[])) ((mget e b).getD false)).bind fun (i:(Gg×Gb)) =>
    some (((mget d b).getD (ByteArray.mk #[])),0,i.1,i.2)
   else
    (SX n (Gb.mk a.fSectors a.fMark a.fFuse f) b).bind fun (h:(ByteArray×Gb)) =>
    (G1 n (Gg.mk () c.fSlots c.fnow d g e) h.2 b h.1 ((mget e b).getD false)).bind fun (j:(Gg×Gb)) =>
    some (h.1,0,j.1,j.2)
theorem Z6 (n:Nat) (b:Gg) (i:Gb) (a:Int) (r:ByteArray×Int×Gg×Gb) (h:Kw n b i a=some r):RetH Tryz.prog 14 [.ref 0 0,.d ((eI .i64) a)] [.box [.ref 4 0,di b.fSlots,di b.fnow,.srf 1,.srf 2,.srf 3],.cu (mapC (fun x:Int=>Value.int .i64 x) Value.string b.fdata) [],.cu (mapC (fun x:Int=>Value.int .i64 x) (fun x:Int=>Value.int .i64 x) b.fused) [],.cu (mapC (fun x:Int=>Value.int .i64 x) Value.bool b.fdirty) [],.box [di i.fSectors,di i.fMark,di i.fFuse,.srf 5],.cu (rowF 86 2 (i.fAll.map Gc)) []] (.tup [.d (eS r.1),.d ((eI .i64) r.2.1)]) [.box [.ref 4 0,di r.2.2.1.fSlots,di r.2.2.1.fnow,.srf 1,.srf 2,.srf 3],.cu (mapC (fun x:Int=>Value.int .i64 x) Value.string r.2.2.1.fdata) [],.cu (mapC (fun x:Int=>Value.int .i64 x) (fun x:Int=>Value.int .i64 x) r.2.2.1.fused) [],.cu (mapC (fun x:Int=>Value.int .i64 x) Value.bool r.2.2.1.fdirty) [],.box [di r.2.2.2.fSectors,di r.2.2.2.fMark,di r.2.2.2.fFuse,.srf 6],.none,.cu (rowF 86 2 (r.2.2.2.fAll.map Gc)) []]:=by
 refine retH_run (n:=49) (fn:=Tryz.f14) (c:=bodyOf Tryz.f14) (by kernel_rfl) (by kernel_rfl) (by kernel_rfl) (by kernel_rfl) ?_
 have hF:KC 49 (FinH Tryz.prog Tryz.f14 [.box [.ref 4 0,di b.fSlots,di b.fnow,.srf 1,.srf 2,.srf 3],.cu (mapC (fun x:Int=>Value.int .i64 x) Value.string b.fdata) [],.cu (mapC (fun x:Int=>Value.int .i64 x) (fun x:Int=>Value.int .i64 x) b.fused) [],.cu (mapC (fun x:Int=>Value.int .i64 x) Value.bool b.fdirty) [],.box [di i.fSectors,di i.fMark,di i.fFuse,.srf 5],.cu (rowF 86 2 (i.fAll.map Gc)) []] (.tup [.d (eS r.1),.d ((eI .i64) r.2.1)]) [.box [.ref 4 0,di r.2.2.1.fSlots,di r.2.2.1.fnow,.srf 1,.srf 2,.srf 3],.cu (mapC (fun x:Int=>Value.int .i64 x) Value.string r.2.2.1.fdata) [],.cu (mapC (fun x:Int=>Value.int .i64 x) (fun x:Int=>Value.int .i64 x) r.2.2.1.fused) [],.cu (mapC (fun x:Int=>Value.int .i64 x) Value.bool r.2.2.1.fdirty) [],.box [di r.2.2.2.fSectors,di r.2.2.2.fMark,di r.2.2.2.fFuse,.srf 6],.none,.cu (rowF 86 2 (r.2.2.2.fAll.map Gc)) []]):=FinH.kc' (by kernel_rfl)
 unfold Kw at h
 obtain ⟨a3,a4,h⟩:=bind_some h
 refine pkk_sound TTok mix hF 4 (hs:=[]) (ts:=[]) (s:=[6,7,8,9,10,11,0,4,5,1,2,3]) (l:=[0,1]) (by kernel_rfl) (by kernel_rfl) .nil (U4 hF (.s (cR (cL (cR (bodyOf Tryz.f14))))::.s (cR (cR (bodyOf Tryz.f14)))::[]) n a b i _ a4 ?_)
 cases a3 with
 | x0 a5 a0 j a2 p =>
  try dsimp only at h
  by_cases u:a5=true
  ·rw [if_pos u] at h
   obtain rfl:=Option.some.inj h
   exact pendH_sound TTok mix 6 (hs:=[.t true,.dl 4,.sx [8] (fmvS 8 86 2 (a0.map Gc))]) [6,9,10,11,7,8,22] (by kernel_rfl) (by kernel_rfl) (by kernel_rfl) (.cons u (.cons (fmv (l:=8) (e:=86) (s:=2) (xs:=(a0.map Gc))) .nil))
  ·rw [if_neg u] at h
   by_cases a1:(mget j a).isSome=true
   ·rw [if_pos a1] at h
    obtain ⟨m,a6,h⟩:=bind_some h
    obtain rfl:=Option.some.inj h
    exact pendH_sound TTok mix 14 (hs:=[.t false,.c,.e 37 [9] (.d (.tup [.v (.string ((mget j a).getD (ByteArray.mk #[]))),.v (.bool ((mget j a).isSome))])) [],.t false,.c,.e 117 [11] (.d (.v (.bool ((mget p a).getD false)))) [],.h [6,9,10,11,7,8] [] [.box [.ref 4 0,di m.1.fSlots,di m.1.fnow,.srf 1,.srf 2,.srf 3],.cu (mapC (fun x:Int=>Value.int .i64 x) Value.string m.1.fdata) [],.cu (mapC (fun x:Int=>Value.int .i64 x) (fun x:Int=>Value.int .i64 x) m.1.fused) [],.cu (mapC (fun x:Int=>Value.int .i64 x) Value.bool m.1.fdirty) [],.box [di m.2.fSectors,di m.2.fMark,di m.2.fFuse,.srf 6],.none,.cu (rowF 86 2 (m.2.fAll.map Gc)) []] (.tup [])]) [6,9,10,11,7,8,122] (by kernel_rfl) (by kernel_rfl) (by kernel_rfl) (.cons (vf u) (.cons (ylook (P:=Tryz.prog) (T:=TT) (t:=52) (kt:=3) (et:=9) (l:=9) (x:=(.tmp 25)) (y:=(.tmp 26)) (f:=(fun x:Int=>Value.int .i64 x)) (g:=Value.string) (E:=j) (k:=a) (z:=(ByteArray.mk #[])) (kv_v _) true (by kernel_rfl) (KOk.kw (KOk.int (by kernel_rfl))) (fun w=>by kernel_rfl) (fun _=>rfl) rfl) (.cons (bnf a1) (.cons (ylook (P:=Tryz.prog) (T:=TT) (t:=54) (kt:=3) (et:=4) (l:=11) (x:=(.tmp 44)) (y:=(.tmp 45)) (f:=(fun x:Int=>Value.int .i64 x)) (g:=Value.bool) (E:=p) (k:=a) (z:=false) (kv_v _) false (by kernel_rfl) (KOk.kw (KOk.int (by kernel_rfl))) (fun w=>by kernel_rfl) (fun _=>rfl) rfl) (.cons (Z3 n (Gg.mk () b.fSlots b.fnow j a2 p) (Gb.mk i.fSectors i.fMark i.fFuse a0) a ((mget j a).getD (ByteArray.mk #[])) ((mget p a).getD false) _ a6) .nil)))))
   ·rw [if_neg a1] at h
    obtain ⟨q,a7,h⟩:=bind_some h
    obtain ⟨o,a8,h⟩:=bind_some h
    obtain rfl:=Option.some.inj h
    exact pendH_sound TTok mix 14 (hs:=[.t false,.c,.e 37 [9] (.d (.tup [.v (.string ((mget j a).getD (ByteArray.mk #[]))),.v (.bool ((mget j a).isSome))])) [],.t true,.c,.h [7,8] [] [.box [di q.2.fSectors,di q.2.fMark,di q.2.fFuse,.srf 2],.none,.cu (rowF 86 2 (q.2.fAll.map Gc)) []] (.d (.v (.string q.1))),.c,.e 152 [11] (.d (.v (.bool ((mget p a).getD false)))) [],.h [6,9,10,11,7,102] [] [.box [.ref 4 0,di o.1.fSlots,di o.1.fnow,.srf 1,.srf 2,.srf 3],.cu (mapC (fun x:Int=>Value.int .i64 x) Value.string o.1.fdata) [],.cu (mapC (fun x:Int=>Value.int .i64 x) (fun x:Int=>Value.int .i64 x) o.1.fused) [],.cu (mapC (fun x:Int=>Value.int .i64 x) Value.bool o.1.fdirty) [],.box [di o.2.fSectors,di o.2.fMark,di o.2.fFuse,.srf 6],.none,.cu (rowF 86 2 (o.2.fAll.map Gc)) []] (.tup [])]) [6,9,10,11,7,8,157] (by kernel_rfl) (by kernel_rfl) (by kernel_rfl) (.cons (vf u) (.cons (ylook (P:=Tryz.prog) (T:=TT) (t:=52) (kt:=3) (et:=9) (l:=9) (x:=(.tmp 25)) (y:=(.tmp 26)) (f:=(fun x:Int=>Value.int .i64 x)) (g:=Value.string) (E:=j) (k:=a) (z:=(ByteArray.mk #[])) (kv_v _) true (by kernel_rfl) (KOk.kw (KOk.int (by kernel_rfl))) (fun w=>by kernel_rfl) (fun _=>rfl) rfl) (.cons (bnt (vf a1)) (.cons (VN n (Gb.mk i.fSectors i.fMark i.fFuse a0) a _ a7) (.cons (ylook (P:=Tryz.prog) (T:=TT) (t:=54) (kt:=3) (et:=4) (l:=11) (x:=(.tmp 44)) (y:=(.tmp 45)) (f:=(fun x:Int=>Value.int .i64 x)) (g:=Value.bool) (E:=p) (k:=a) (z:=false) (kv_v _) false (by kernel_rfl) (KOk.kw (KOk.int (by kernel_rfl))) (fun w=>by kernel_rfl) (fun _=>rfl) rfl) (.cons (Z3 n (Gg.mk () b.fSlots b.fnow j a2 p) q.2 a q.1 ((mget p a).getD false) _ a8) .nil))))))
inductive Zi where
 | x0 (a b:(List Int)) (c:(List Gk)) (d:(List Gd)) (e:(List Int))
def Vo:Zi→Ex
 | .x0 _ _ _ _ _=>.exit 0
def Vp (a:Gh) (b:Gf):Zi→PS
 | .x0 c e f g h=>⟨(dd::dd::dd::.srf 12::(dds 18 [])),[.gh 0 (.ref 6 0),.gh 1 (.srf 11),.gh 2 (.ref 7 0),.gh 3 (.srf 8),.gh 4 (.srf 9),.gh 5 (.srf 10),.box [.ref 7 0,di a.fslots,.srf 11],.box [.srf 8,.srf 9,.srf 10,di b.ffuse],.row 5 1 (c.map (eI .u8)),.row 5 1 (e.map (eI .u8)),.row 84 2 (f.map Ge),.row 69 3 (g.map Ga),.row 3 1 (h.map (eI .i64))]⟩
def Vq (a:Gh) (b:Gf) (c:Int) (e f:(List Int)) (g:(List Gk)) (h:(List Gd)) (i:(List Int)):PS:=⟨(dd::dd::dd::.srf 12::dd::dd::dd::dd::dd::.srf 11::di (a.fl.length:Int)::di c::(dds 10 [])),[.gh 0 (.ref 6 0),.gh 1 (.srf 11),.gh 2 (.ref 7 0),.gh 3 (.srf 8),.gh 4 (.srf 9),.gh 5 (.srf 10),.box [.ref 7 0,di a.fslots,.srf 11],.box [.srf 8,.srf 9,.srf 10,di b.ffuse],.row 5 1 (e.map (eI .u8)),.row 5 1 (f.map (eI .u8)),.row 84 2 (g.map Ge),.row 69 3 (h.map Ga),.row 3 1 (i.map (eI .i64))]⟩
def Sk (n:Nat) (c:Gh) (h:Gf):Nat→Int→(List Int)→(List Int)→(List Gk)→(List Gd)→(List Int)→Option Zi
 | 0,_,_,_,_,_,_=>none
 | k+1,a,d,e,f,b,g =>
  if a<(c.fl.length:Int) then
   if 0≤a∧(a).toNat<b.length then
    (b[(a).toNat]?).bind fun (i:Gd) =>
    (app 8 g ([i.fn])).bind fun (j:(List Int)) =>
    Sk n c h k (wi .i64 (a+1)) d e f b j
   else none
  else
   some (.x0 d e f b g)
theorem Y5 {Fi:Ex→PS→Prop} (hF:KC 22 Fi) (ks:List Fr) (n:Nat) (d:Gh) (j:Gf)  : ∀ (k:Nat) (a:Int) (e g:(List Int)) (i:(List Gk)) (b:(List Gd)) (m:(List Int)) (o:Zi),Sk n d j k a e g i b m=some o→RunE Tryz.prog 22 Fi ks (Vo o) (Vp d j o)→RunE Tryz.prog 22 Fi (.l k (cP (cB (cR (cL (cR (cR (bodyOf Tryz.f16)))))))::ks) .normal (Vq d j a e g i b m)
 | 0,a,e,g,i,b,m,o,h,q=>by rw [Sk] at h; cases h
 | k+1,a,e,g,i,b,m,o,h,q=>by
  rw [Sk] at h
  by_cases p:a<(d.fl.length:Int)
  ·rw [if_pos p] at h
   by_cases u:0≤a∧(a).toNat<b.length
   ·rw [if_pos u] at h
    obtain ⟨x,z,h⟩:=bind_some h
    obtain ⟨v,r,h⟩:=bind_some h
    exact pkk_sound TTok mix hF 13 (hs:=[.t true,.y (Ga x),.c,.c,.bd,.w (v.map (eI .i64))]) (ts:=[]) (s:=[0,1,2,3,4,5,6,7,8,9,10,11,58]) (l:=[3,9,10,11]) (by kernel_rfl) (by kernel_rfl) (.cons (dt p) (.cons (idx_ob (f:=Ga) u) (.cons (get_ob (f:=Ga) z) (.cons (show 0+3≤3 by decide) (.cons (app_ob (f:=(eI .i64)) (s:=1) r (fun _=>rfl)).1 (.cons (app_ob (f:=(eI .i64)) (s:=1) r (fun _=>rfl)).2.1 (.cons (app_ob (f:=(eI .i64)) (s:=1) r (fun _=>rfl)).2.2.1 (.cons (app_ob (f:=(eI .i64)) (s:=1) r (fun _=>rfl)).2.2.2 .nil)))))))) (Y5 hF ks n d j k (wi .i64 (a+1)) e g i b v _ h q)
   ·rw [if_neg u] at h; cases h
  ·rw [if_neg p] at h
   cases h
   exact pkk_sound TTok mix hF 8 (hs:=[.t false]) (ts:=[]) (s:=[0,1,2,3,4,5,6,7,8,9,10,11,12]) (l:=[3]) (by kernel_rfl) (by kernel_rfl) (.cons (df p) .nil) q
/- (*ringhall/buffer.Cache).Held -/
def KE (n:Nat) (b:Gh) (a:Gf):Option ((List Int)×Gh×Gf) :=
 (Sk n b a n 0 a.fsafe a.fnow a.fwait b.fl ([]:List Int)).bind fun c=>match c with
 | .x0 d e f g h =>
  some (h,(Gh.mk () b.fslots g),(Gf.mk d e f a.ffuse))
theorem Ys (n:Nat) (e:Gh) (a:Gf) (r:(List Int)×Gh×Gf) (h:KE n e a=some r):RetH Tryz.prog 16 [.ref 0 0] [.box [.ref 2 0,di e.fslots,.srf 1],.row 69 3 (e.fl.map Ga),.box [.srf 3,.srf 4,.srf 5,di a.ffuse],.row 5 1 (a.fsafe.map (eI .u8)),.row 5 1 (a.fnow.map (eI .u8)),.row 84 2 (a.fwait.map Ge)] (.d ((eL (eI .i64)) r.1)) [.box [.ref 2 0,di r.2.1.fslots,.srf 6],.none,.box [.srf 7,.srf 8,.srf 9,di r.2.2.ffuse],.none,.none,.none,.row 69 3 (r.2.1.fl.map Ga),.row 5 1 (r.2.2.fsafe.map (eI .u8)),.row 5 1 (r.2.2.fnow.map (eI .u8)),.row 84 2 (r.2.2.fwait.map Ge)]:=by
 refine retH_run (n:=22) (fn:=Tryz.f16) (c:=bodyOf Tryz.f16) (by kernel_rfl) (by kernel_rfl) (by kernel_rfl) (by kernel_rfl) ?_
 have hF:KC 22 (FinH Tryz.prog Tryz.f16 [.box [.ref 2 0,di e.fslots,.srf 1],.row 69 3 (e.fl.map Ga),.box [.srf 3,.srf 4,.srf 5,di a.ffuse],.row 5 1 (a.fsafe.map (eI .u8)),.row 5 1 (a.fnow.map (eI .u8)),.row 84 2 (a.fwait.map Ge)] (.d ((eL (eI .i64)) r.1)) [.box [.ref 2 0,di r.2.1.fslots,.srf 6],.none,.box [.srf 7,.srf 8,.srf 9,di r.2.2.ffuse],.none,.none,.none,.row 69 3 (r.2.1.fl.map Ga),.row 5 1 (r.2.2.fsafe.map (eI .u8)),.row 5 1 (r.2.2.fnow.map (eI .u8)),.row 84 2 (r.2.2.fwait.map Ge)]):=FinH.kc' (by kernel_rfl)
 unfold KE at h
 obtain ⟨g,i,h⟩:=bind_some h
 refine pkk_sound TTok mix hF 9 (hs:=[.c,.u (di (e.fl.length:Int)),.n n]) (ts:=[(3,3,1)]) (s:=[6,7,8,9,10,11,0,2,3,4,5,1,52]) (l:=[3,9,10,11]) (by kernel_rfl) (by kernel_rfl) (.cons (len_ob (f:=Ga) (l:=e.fl)) .nil) (Y5 hF (.b 0::.s (cR (cR (cR (bodyOf Tryz.f16))))::[]) n e a n 0 a.fsafe a.fnow a.fwait e.fl ([]:List Int) _ i ?_)
 cases g with
 | x0 j k m o p =>
  try dsimp only at h
  obtain rfl:=Option.some.inj h
  exact pendH_sound TTok mix 9 (hs:=[.dl 4,.fz 12,.mv 11,.mv 8,.mv 9,.mv 10]) [6,11,7,8,9,10,23,24,25,26] (by kernel_rfl) (by kernel_rfl) (by kernel_rfl) .nil
inductive K7 where
 | x0 (a:Bool)
 | x1 
def U5:K7→Ex
 | .x0 _=>.ret
 | .x1  => .exit 0
def U6 (b c:(List Int)):K7→PS
 | .x0 a=>⟨(dd::dd::dd::dd::.d (.v (.bool a))::(dds 21 [])),[]⟩
 | .x1  => ⟨(dds 26 []),[]⟩
def U7 (a b:(List Int)) (c:Int):PS:=⟨(.d (.sl (a.map (eI .i64)))::.d (.sl (b.map (eI .i64)))::(dds 10 (di (a.length:Int)::di c::(dds 12 [])))),[]⟩
def Se (n:Nat) (b c:(List Int)):Nat→Int→Option K7
 | 0,_=>none
 | k+1,a =>
  if a<(b.length:Int) then
   (getI b a).bind fun (d:Int) =>
   (getI c a).bind fun (e:Int) =>
   if d=e then
    Se n b c k (wi .i64 (a+1))
   else
    some (.x0 false)
  else
   some (.x1 )
theorem YS {Fi:Ex→PS→Prop} (hF:KC 26 Fi) (ks:List Fr) (n:Nat) (b e:(List Int))  : ∀ (k:Nat) (a:Int) (o:K7),Se n b e k a=some o→RunE Tryz.prog 26 Fi ks (U5 o) (U6 b e o)→RunE Tryz.prog 26 Fi (.l k (cP (cB (cR (cL (cR (cR (bodyOf Tryz.f15)))))))::ks) .normal (U7 b e a)
 | 0,a,o,h,q=>by rw [Se] at h; cases h
 | k+1,a,o,h,q=>by
  rw [Se] at h
  by_cases d:a<(b.length:Int)
  ·rw [if_pos d] at h
   obtain ⟨i,m,h⟩:=bind_some h
   obtain ⟨j,p,h⟩:=bind_some h
   by_cases g:i=j
   ·rw [if_pos g] at h
    exact pkk_sound TTok mix hF 16 (hs:=[.t true,.y ((eI .i64) i),.c,.y ((eI .i64) j),.c,.t false]) (ts:=[]) (s:=[]) (l:=[0,1,12,13]) (by kernel_rfl) (by kernel_rfl) (.cons (dt d) (.cons (getI_ob (f:=(eI .i64)) m) (.cons (getI_ob (f:=(eI .i64)) p) (.cons (nf g) .nil)))) (YS hF ks n b e k (wi .i64 (a+1)) _ h q)
   ·rw [if_neg g] at h
    cases h
    exact pkk_sound TTok mix hF 19 (hs:=[.t true,.y ((eI .i64) i),.c,.y ((eI .i64) j),.c,.t true]) (ts:=[]) (s:=[]) (l:=[4]) (by kernel_rfl) (by kernel_rfl) (.cons (dt d) (.cons (getI_ob (f:=(eI .i64)) m) (.cons (getI_ob (f:=(eI .i64)) p) (.cons (nt g) .nil)))) q
  ·rw [if_neg d] at h
   cases h
   exact pkk_sound TTok mix hF 8 (hs:=[.t false]) (ts:=[]) (s:=[]) (l:=[]) (by kernel_rfl) (by kernel_rfl) (.cons (df d) .nil) q
/- slices.Equal[[]int,int] -/
def SY (n:Nat) (a b:(List Int)):Option (Bool) :=
 if (a.length:Int)=(b.length:Int) then
  (Se n a b n 0).bind fun c=>match c with
  | .x0 d =>
   some d
  | .x1  =>
   some true
 else
  some false
theorem Kz (n:Nat) (a e:(List Int)) (r:Bool) (h:SY n a e=some r):Ret Tryz.prog 15 [(eL (eI .i64)) a,(eL (eI .i64)) e] (eB r):=by
 refine ret_run (n:=26) (fn:=Tryz.f15) (c:=bodyOf Tryz.f15) (by kernel_rfl) (by kernel_rfl) (by kernel_rfl) (by kernel_rfl) ?_
 have hF:KC 26 (FinR Tryz.prog Tryz.f15 (eB r)):=FinR.kc' (by kernel_rfl)
 unfold SY at h
 by_cases g:(a.length:Int)=(e.length:Int)
 ·rw [if_pos g] at h
  obtain ⟨i,j,h⟩:=bind_some h
  refine pkk_sound TTok mix hF 12 (hs:=[.u (di (a.length:Int)),.u (di (e.length:Int)),.t false,.u (di (a.length:Int)),.n n]) (ts:=[]) (s:=[]) (l:=[0,1,12,13]) (by kernel_rfl) (by kernel_rfl) (.cons (len_ob (f:=(eI .i64)) (l:=a)) (.cons (len_ob (f:=(eI .i64)) (l:=e)) (.cons (nf g) (.cons (len_ob (f:=(eI .i64)) (l:=a)) .nil)))) (YS hF (.b 0::.s (cR (cR (cR (bodyOf Tryz.f15))))::[]) n a e n 0 _ j ?_)
  cases i with
  | x0 k =>
   try dsimp only at h
   obtain rfl:=Option.some.inj h
   exact pend_sound TTok mix 2 (hs:=[]) (by kernel_rfl) (by kernel_rfl) (by kernel_rfl) .nil
  | x1  =>
   try dsimp only at h
   obtain rfl:=Option.some.inj h
   exact pend_sound TTok mix 4 (hs:=[]) (by kernel_rfl) (by kernel_rfl) (by kernel_rfl) .nil
 ·rw [if_neg g] at h
  obtain rfl:=Option.some.inj h
  exact pend_sound TTok mix 10 (hs:=[.u (di (a.length:Int)),.u (di (e.length:Int)),.t true]) (by kernel_rfl) (by kernel_rfl) (by kernel_rfl) (.cons (len_ob (f:=(eI .i64)) (l:=a)) (.cons (len_ob (f:=(eI .i64)) (l:=e)) (.cons (nt g) .nil)))
/- (*ringhall/disk.Disk).Waiting -/
def ZY (n:Nat) (a:Gf):Option (Int×Gf) :=
 some ((a.fwait.length:Int),a)
theorem VU (n:Nat) (a:Gf) (r:Int×Gf) (h:ZY n a=some r):RetH Tryz.prog 20 [.ref 0 0] [.box [.srf 1,.srf 2,.srf 3,di a.ffuse],.row 5 1 (a.fsafe.map (eI .u8)),.row 5 1 (a.fnow.map (eI .u8)),.row 84 2 (a.fwait.map Ge)] (.d ((eI .i64) r.1)) [.box [.srf 4,.srf 5,.srf 6,di r.2.ffuse],.none,.none,.none,.row 5 1 (r.2.fsafe.map (eI .u8)),.row 5 1 (r.2.fnow.map (eI .u8)),.row 84 2 (r.2.fwait.map Ge)]:=by
 refine retH_run (n:=8) (fn:=Tryz.f20) (c:=bodyOf Tryz.f20) (by kernel_rfl) (by kernel_rfl) (by kernel_rfl) (by kernel_rfl) ?_
 have hF:KC 8 (FinH Tryz.prog Tryz.f20 [.box [.srf 1,.srf 2,.srf 3,di a.ffuse],.row 5 1 (a.fsafe.map (eI .u8)),.row 5 1 (a.fnow.map (eI .u8)),.row 84 2 (a.fwait.map Ge)] (.d ((eI .i64) r.1)) [.box [.srf 4,.srf 5,.srf 6,di r.2.ffuse],.none,.none,.none,.row 5 1 (r.2.fsafe.map (eI .u8)),.row 5 1 (r.2.fnow.map (eI .u8)),.row 84 2 (r.2.fwait.map Ge)]):=FinH.kc' (by kernel_rfl)
 unfold ZY at h
 obtain rfl:=Option.some.inj h
 exact pendH_sound TTok mix 8 (hs:=[.c,.u (di (a.fwait.length:Int)),.dl 1,.mv 1,.mv 2,.mv 3]) [0,1,2,3,43,44,45] (by kernel_rfl) (by kernel_rfl) (by kernel_rfl) (.cons (len_ob (f:=Ge) (l:=a.fwait)) .nil)
/- (*ringhall/disk.Disk).Image -/
def Zc (n:Nat) (a:Gf):Option ((List Int)×Gf) :=
 (Gq n a.fsafe).bind fun (b:(List Int)) =>
 some (b,a)
theorem V0 (n:Nat) (a:Gf) (r:(List Int)×Gf) (h:Zc n a=some r):RetH Tryz.prog 21 [.ref 0 0] [.box [.srf 1,.srf 2,.srf 3,di a.ffuse],.row 5 1 (a.fsafe.map (eI .u8)),.row 5 1 (a.fnow.map (eI .u8)),.row 84 2 (a.fwait.map Ge)] (.d ((eL (eI .u8)) r.1)) [.box [.srf 4,.srf 5,.srf 6,di r.2.ffuse],.none,.none,.none,.row 5 1 (r.2.fsafe.map (eI .u8)),.row 5 1 (r.2.fnow.map (eI .u8)),.row 84 2 (r.2.fwait.map Ge)]:=by
 refine retH_run (n:=8) (fn:=Tryz.f21) (c:=bodyOf Tryz.f21) (by kernel_rfl) (by kernel_rfl) (by kernel_rfl) (by kernel_rfl) ?_
 have hF:KC 8 (FinH Tryz.prog Tryz.f21 [.box [.srf 1,.srf 2,.srf 3,di a.ffuse],.row 5 1 (a.fsafe.map (eI .u8)),.row 5 1 (a.fnow.map (eI .u8)),.row 84 2 (a.fwait.map Ge)] (.d ((eL (eI .u8)) r.1)) [.box [.srf 4,.srf 5,.srf 6,di r.2.ffuse],.none,.none,.none,.row 5 1 (r.2.fsafe.map (eI .u8)),.row 5 1 (r.2.fnow.map (eI .u8)),.row 84 2 (r.2.fwait.map Ge)]):=FinH.kc' (by kernel_rfl)
 unfold Zc at h
 obtain ⟨b,i,h⟩:=bind_some h
 obtain rfl:=Option.some.inj h
 exact pendH_sound TTok mix 9 (hs:=[.c,.e 33 [1,33] (.srf 33) [(33,.row 5 1 (b.map (eI .u8)))],.dl 1,.fz 33,.mv 1,.mv 2,.mv 3]) [0,1,2,3,43,44,45] (by kernel_rfl) (by kernel_rfl) (by kernel_rfl) (.cons (cwhole (P:=Tryz.prog) (T:=TT) (f:=.func 25) (args:=#[(.tmp 6)]) (tys:=#[35]) (g:=25) (l:=1) (e:=5) (s:=1) (nl:=33) (xs:=(a.fsafe.map (eI .u8))) (Kh n _ _ i) (flat_map _ (fun _=>rfl))) .nil)
/- (*ringhall/ringref3.Disk).Safe -/
def Ze (n:Nat) (a:Gb) (b:Int):Option (ByteArray×Gb) :=
 if 0≤a.fMark∧a.fMark≤(a.fAll.length:Int) then
  if 0≤a.fMark.toNat∧a.fMark.toNat≤a.fAll.length then
   (ZX n ((a.fAll.take a.fMark.toNat).drop 0) b).bind fun (c:(ByteArray)) =>
   some (c,a)
  else none
 else none
end Go.Proofs.YtofjjaagjkbeaaaGreat.pv
