/- What the functions compute (part 2): written by gen.py. -/
import Derived.Test.YtdgocccbagbhjaaGreatDoorGuDirLaysP1
set_option maxRecDepth 100000
set_option linter.all false
namespace Go.Proofs.YtdgocccbagbhjaaGreatDoor.pv
open Go.RowKit
def Gs (n:Nat) (f:(List Ga)) (a o h:Int) (i:(Ga→Ga→Option (Int))):Option (Int×Bool×(List Ga)) :=
 if 0≤h∧(h).toNat<f.length then
  (f[(h).toNat]?).bind fun (j:Ga) =>
  if 0≤a∧(a).toNat<f.length then
   (f[(a).toNat]?).bind fun (p:Ga) =>
   if 0≤a∧(a).toNat<f.length then
    (f[(a).toNat]?).bind fun (x:Ga) =>
    if 0≤h∧(h).toNat<(f.set (a).toNat j).length then
     ((f.set (a).toNat j)[(h).toNat]?).bind fun (y:Ga) =>
     (Gv n a i o n (wi .i64 (a+1)) ((f.set (a).toNat j).set (h).toNat p)).bind fun q=>match q with
     | .x0 d r =>
      (Gw n a i d n (wi .i64 (o-1)) r).bind fun s=>match s with
      | .x0 b c =>
       if d > b then
        if 0≤a∧(a).toNat<c.length then
         (c[(a).toNat]?).bind fun (k:Ga) =>
         if 0≤b∧(b).toNat<c.length then
          (c[(b).toNat]?).bind fun (t:Ga) =>
          if 0≤b∧(b).toNat<c.length then
           (c[(b).toNat]?).bind fun (z:Ga) =>
           if 0≤a∧(a).toNat<(c.set (b).toNat k).length then
            ((c.set (b).toNat k)[(a).toNat]?).bind fun (a0:Ga) =>
            some (b,true,((c.set (b).toNat k).set (a).toNat t))
           else none
          else none
         else none
        else none
       else
        if 0≤b∧(b).toNat<c.length then
         (c[(b).toNat]?).bind fun (l:Ga) =>
         if 0≤d∧(d).toNat<c.length then
          (c[(d).toNat]?).bind fun (u:Ga) =>
          if 0≤d∧(d).toNat<c.length then
           (c[(d).toNat]?).bind fun (a1:Ga) =>
           if 0≤b∧(b).toNat<(c.set (d).toNat l).length then
            ((c.set (d).toNat l)[(b).toNat]?).bind fun (a2:Ga) =>
            (Gz n a i n (wi .i64 (d+1)) (wi .i64 (b-1)) ((c.set (d).toNat l).set (b).toNat u)).bind fun v=>match v with
            | .x0 e g =>
             if 0≤a∧(a).toNat<g.length then
              (g[(a).toNat]?).bind fun (m:Ga) =>
              if 0≤e∧(e).toNat<g.length then
               (g[(e).toNat]?).bind fun (w:Ga) =>
               if 0≤e∧(e).toNat<g.length then
                (g[(e).toNat]?).bind fun (a3:Ga) =>
                if 0≤a∧(a).toNat<(g.set (e).toNat m).length then
                 ((g.set (e).toNat m)[(a).toNat]?).bind fun (a4:Ga) =>
                 some (e,false,((g.set (e).toNat m).set (a).toNat w))
                else none
               else none
              else none
             else none
           else none
          else none
         else none
        else none
    else none
   else none
  else none
 else none
theorem GH (n:Nat) (j:(List Ga)) (a a9 x:Int) (a6:(Ga→Ga→Option (Int))) (a7:FuncId) (a8:List PV) (b1:∀ (x0:Ga) (x1:Ga) (r:Int),a6 x0 x1=some r→Ret Tryz.prog a7 ([Gb x0,Gb x1]++a8) ((eI .i64) r)) (r:Int×Bool×(List Ga)) (h:Gs n j a a9 x a6=some r):RetH Tryz.prog 75 [.srf 0,.d ((eI .i64) a),.d ((eI .i64) a9),.d ((eI .i64) x),.d ((.clo a7 a8))] [.row 25 2 (j.map Gb)] (.tup [.d ((eI .i64) r.1),.d (eB r.2.1)]) [.row 25 2 (r.2.2.map Gb)]:=by
 refine retH_run (n:=178) (fn:=Tryz.f75) (c:=bodyOf Tryz.f75) (by kernel_rfl) (by kernel_rfl) (by kernel_rfl) (by kernel_rfl) ?_
 have hF:KC 178 (FinH Tryz.prog Tryz.f75 [.row 25 2 (j.map Gb)] (.tup [.d ((eI .i64) r.1),.d (eB r.2.1)]) [.row 25 2 (r.2.2.map Gb)]):=FinH.kc' (by kernel_rfl)
 unfold Gs at h
 by_cases b2:0≤x∧(x).toNat<j.length
 ·rw [if_pos b2] at h
  obtain ⟨m,c8,h⟩:=bind_some h
  by_cases b3:0≤a∧(a).toNat<j.length
  ·rw [if_pos b3] at h
   obtain ⟨a1,c9,h⟩:=bind_some h
   by_cases b4:0≤a∧(a).toNat<j.length
   ·rw [if_pos b4] at h
    obtain ⟨d0,d1,h⟩:=bind_some h
    by_cases b5:0≤x∧(x).toNat<(j.set (a).toNat m).length
    ·rw [if_pos b5] at h
     obtain ⟨d2,d3,h⟩:=bind_some h
     obtain ⟨d4,d5,h⟩:=bind_some h
     refine pkk_sound TTok mix hF 9 (hs:=[.y (Gb m),.y (Gb a1),.w ((j.set (a).toNat m).map Gb),.y (Gb d0),.w (((j.set (a).toNat m).set (x).toNat a1).map Gb),.y (Gb d2),.n n]) (ts:=[]) (s:=[1,0]) (l:=[0,1,4,12,13]) (by kernel_rfl) (by kernel_rfl) (.cons (idx_ob (f:=Gb) b2) (.cons (get_ob (f:=Gb) c8) (.cons (idx_ob (f:=Gb) b3) (.cons (get_ob (f:=Gb) c9) (.cons (idx_ob (f:=Gb) b4) (.cons (get_ob (f:=Gb) d1) (.cons (Eq.refl (pcells (.agg [.v (.string m.fName),.v (.int .i64 m.fIno)]))) (.cons (set_ob (f:=Gb) (l:=j) (k:=(a).toNat) (z:=m) (p:=.agg [.v (.string m.fName),.v (.int .i64 m.fIno)]) rfl) (.cons (idx_ob (f:=Gb) b5) (.cons (get_ob (f:=Gb) d3) (.cons (Eq.refl (pcells (.agg [.v (.string a1.fName),.v (.int .i64 a1.fIno)]))) (.cons (set_ob (f:=Gb) (l:=(j.set (a).toNat m)) (k:=(x).toNat) (z:=a1) (p:=.agg [.v (.string a1.fName),.v (.int .i64 a1.fIno)]) rfl) .nil)))))))))))) (Kq hF (.b 0::.s (cR (cR (cR (cR (bodyOf Tryz.f75)))))::[]) n a a6 a9 a7 a8 b1 n (wi .i64 (a+1)) ((j.set (a).toNat m).set (x).toNat a1) _ d5 ?_)
     cases d4 with
     | x0 i d6 =>
      try dsimp only at h
      obtain ⟨d7,d8,h⟩:=bind_some h
      refine pkk_sound TTok mix hF 4 (hs:=[.n n]) (ts:=[]) (s:=[0,1]) (l:=[0,1,4,12,13]) (by kernel_rfl) (by kernel_rfl) .nil (Kr hF (.b 2::.s (cR (cR (cR (cR (cR (bodyOf Tryz.f75))))))::[]) n a a6 i a7 a8 b1 n (wi .i64 (a9-1)) d6 _ d8 ?_)
      cases d7 with
      | x0 e g =>
       try dsimp only at h
       by_cases b0:i > e
       ·rw [if_pos b0] at h
        by_cases b6:0≤a∧(a).toNat<g.length
        ·rw [if_pos b6] at h
         obtain ⟨q,d9,h⟩:=bind_some h
         by_cases b7:0≤e∧(e).toNat<g.length
         ·rw [if_pos b7] at h
          obtain ⟨a4,e0,h⟩:=bind_some h
          by_cases b8:0≤e∧(e).toNat<g.length
          ·rw [if_pos b8] at h
           obtain ⟨e1,e2,h⟩:=bind_some h
           by_cases b9:0≤a∧(a).toNat<(g.set (e).toNat q).length
           ·rw [if_pos b9] at h
            obtain ⟨e3,e4,h⟩:=bind_some h
            obtain rfl:=Option.some.inj h
            exact pendH_sound TTok mix 11 (hs:=[.t true,.y (Gb q),.y (Gb a4),.w ((g.set (e).toNat q).map Gb),.y (Gb e1),.w (((g.set (e).toNat q).set (a).toNat a4).map Gb),.y (Gb e3)]) [1] (by kernel_rfl) (by kernel_rfl) (by kernel_rfl) (.cons (dt b0) (.cons (idx_ob (f:=Gb) b6) (.cons (get_ob (f:=Gb) d9) (.cons (idx_ob (f:=Gb) b7) (.cons (get_ob (f:=Gb) e0) (.cons (idx_ob (f:=Gb) b8) (.cons (get_ob (f:=Gb) e2) (.cons (Eq.refl (pcells (.agg [.v (.string q.fName),.v (.int .i64 q.fIno)]))) (.cons (set_ob (f:=Gb) (l:=g) (k:=(e).toNat) (z:=q) (p:=.agg [.v (.string q.fName),.v (.int .i64 q.fIno)]) rfl) (.cons (idx_ob (f:=Gb) b9) (.cons (get_ob (f:=Gb) e4) (.cons (Eq.refl (pcells (.agg [.v (.string a4.fName),.v (.int .i64 a4.fIno)]))) (.cons (set_ob (f:=Gb) (l:=(g.set (e).toNat q)) (k:=(a).toNat) (z:=a4) (p:=.agg [.v (.string a4.fName),.v (.int .i64 a4.fIno)]) rfl) .nil)))))))))))))
           ·rw [if_neg b9] at h; cases h
          ·rw [if_neg b8] at h; cases h
         ·rw [if_neg b7] at h; cases h
        ·rw [if_neg b6] at h; cases h
       ·rw [if_neg b0] at h
        by_cases c0:0≤e∧(e).toNat<g.length
        ·rw [if_pos c0] at h
         obtain ⟨o,e5,h⟩:=bind_some h
         by_cases c1:0≤i∧(i).toNat<g.length
         ·rw [if_pos c1] at h
          obtain ⟨a2,e6,h⟩:=bind_some h
          by_cases c2:0≤i∧(i).toNat<g.length
          ·rw [if_pos c2] at h
           obtain ⟨e7,e8,h⟩:=bind_some h
           by_cases c3:0≤e∧(e).toNat<(g.set (i).toNat o).length
           ·rw [if_pos c3] at h
            obtain ⟨e9,f0,h⟩:=bind_some h
            obtain ⟨f1,f2,h⟩:=bind_some h
            refine pkk_sound TTok mix hF 15 (hs:=[.t false,.y (Gb o),.y (Gb a2),.w ((g.set (i).toNat o).map Gb),.y (Gb e7),.w (((g.set (i).toNat o).set (e).toNat a2).map Gb),.y (Gb e9),.n n]) (ts:=[]) (s:=[0,1]) (l:=[0,1,4,12,13]) (by kernel_rfl) (by kernel_rfl) (.cons (df b0) (.cons (idx_ob (f:=Gb) c0) (.cons (get_ob (f:=Gb) e5) (.cons (idx_ob (f:=Gb) c1) (.cons (get_ob (f:=Gb) e6) (.cons (idx_ob (f:=Gb) c2) (.cons (get_ob (f:=Gb) e8) (.cons (Eq.refl (pcells (.agg [.v (.string o.fName),.v (.int .i64 o.fIno)]))) (.cons (set_ob (f:=Gb) (l:=g) (k:=(i).toNat) (z:=o) (p:=.agg [.v (.string o.fName),.v (.int .i64 o.fIno)]) rfl) (.cons (idx_ob (f:=Gb) c3) (.cons (get_ob (f:=Gb) f0) (.cons (Eq.refl (pcells (.agg [.v (.string a2.fName),.v (.int .i64 a2.fIno)]))) (.cons (set_ob (f:=Gb) (l:=(g.set (i).toNat o)) (k:=(e).toNat) (z:=a2) (p:=.agg [.v (.string a2.fName),.v (.int .i64 a2.fIno)]) rfl) .nil))))))))))))) (Kv hF (.b 4::.s (cR (cR (cR (cR (cR (cR (cR (cR (cR (cR (bodyOf Tryz.f75)))))))))))::[]) n a a6 a7 a8 b1 n (wi .i64 (i+1)) (wi .i64 (e-1)) ((g.set (i).toNat o).set (e).toNat a2) _ f2 ?_)
            cases f1 with
            | x0 a0 a3 =>
             try dsimp only at h
             by_cases c4:0≤a∧(a).toNat<a3.length
             ·rw [if_pos c4] at h
              obtain ⟨u,f3,h⟩:=bind_some h
              by_cases c5:0≤a0∧(a0).toNat<a3.length
              ·rw [if_pos c5] at h
               obtain ⟨a5,f4,h⟩:=bind_some h
               by_cases c6:0≤a0∧(a0).toNat<a3.length
               ·rw [if_pos c6] at h
                obtain ⟨f5,f6,h⟩:=bind_some h
                by_cases c7:0≤a∧(a).toNat<(a3.set (a0).toNat u).length
                ·rw [if_pos c7] at h
                 obtain ⟨f7,f8,h⟩:=bind_some h
                 obtain rfl:=Option.some.inj h
                 exact pendH_sound TTok mix 6 (hs:=[.y (Gb u),.y (Gb a5),.w ((a3.set (a0).toNat u).map Gb),.y (Gb f5),.w (((a3.set (a0).toNat u).set (a).toNat a5).map Gb),.y (Gb f7)]) [1] (by kernel_rfl) (by kernel_rfl) (by kernel_rfl) (.cons (idx_ob (f:=Gb) c4) (.cons (get_ob (f:=Gb) f3) (.cons (idx_ob (f:=Gb) c5) (.cons (get_ob (f:=Gb) f4) (.cons (idx_ob (f:=Gb) c6) (.cons (get_ob (f:=Gb) f6) (.cons (Eq.refl (pcells (.agg [.v (.string u.fName),.v (.int .i64 u.fIno)]))) (.cons (set_ob (f:=Gb) (l:=a3) (k:=(a0).toNat) (z:=u) (p:=.agg [.v (.string u.fName),.v (.int .i64 u.fIno)]) rfl) (.cons (idx_ob (f:=Gb) c7) (.cons (get_ob (f:=Gb) f8) (.cons (Eq.refl (pcells (.agg [.v (.string a5.fName),.v (.int .i64 a5.fIno)]))) (.cons (set_ob (f:=Gb) (l:=(a3.set (a0).toNat u)) (k:=(a).toNat) (z:=a5) (p:=.agg [.v (.string a5.fName),.v (.int .i64 a5.fIno)]) rfl) .nil))))))))))))
                ·rw [if_neg c7] at h; cases h
               ·rw [if_neg c6] at h; cases h
              ·rw [if_neg c5] at h; cases h
             ·rw [if_neg c4] at h; cases h
           ·rw [if_neg c3] at h; cases h
          ·rw [if_neg c2] at h; cases h
         ·rw [if_neg c1] at h; cases h
        ·rw [if_neg c0] at h; cases h
    ·rw [if_neg b5] at h; cases h
   ·rw [if_neg b4] at h; cases h
  ·rw [if_neg b3] at h; cases h
 ·rw [if_neg b2] at h; cases h
inductive Sy where
 | x0 (a:Int) (b:(List Ga))
def YG:Sy→Ex
 | .x0 _ _=>.normal
def YH (a b j:Int) (k:(Ga→Ga→Option (Int))) (c e:Bool) (l:(List Ga)) (f:FuncId) (g:(List PV)):Sy→PS
 | .x0 h i=>⟨(.srf 1::di a::di b::di h::.d (.clo f g)::dd::dd::dd::dd::dd::.d (.v (.bool c))::.d (.v (.bool e))::di (wi .i64 (b-a))::(dds 135 [])),[.gh 0 (.srf 1),.row 25 2 (i.map Gb)]⟩
def YI (a b e:Int) (j:(Ga→Ga→Option (Int))) (c f:Bool) (g:(List Ga)) (h:FuncId) (i:(List PV))  : PS:=⟨(.srf 1::di a::di b::di e::.d (.clo h i)::dd::dd::dd::dd::dd::.d (.v (.bool c))::.d (.v (.bool f))::di (wi .i64 (b-a))::(dds 26 (.d (.v (.bool (!c)))::(dds 108 [])))),[.gh 0 (.srf 1),.row 25 2 (g.map Gb)]⟩
def Se (n:Nat) (c d a:Int) (e:(Ga→Ga→Option (Int))) (f h:Bool) (b:(List Ga)):Option Sy :=
 if f=true then
  some (.x0 a b)
 else
  (GW n b c d e).bind fun (g:((List Ga))) =>
  some (.x0 (wi .i64 (a-1)) g)
theorem YJ {Fi:Ex→PS→Prop} (hF:KC 148 Fi) (ks:List Fr) (n:Nat) (b c j:Int) (a:(Ga→Ga→Option (Int))) (d k:Bool) (e:(List Ga)) (f:FuncId) (g:(List PV)) (m:∀ (x0:Ga) (x1:Ga) (r:Int),a x0 x1=some r→Ret Tryz.prog f ([Gb x0,Gb x1]++g) ((eI .i64) r)) (o:Sy) (h:Se n b c j a d k e=some o) (q:RunE Tryz.prog 148 Fi ks (YG o) (YH b c j a d k e f g o)):RunE Tryz.prog 148 Fi (.s (cR (cL (cR (cR (cR (cB (cP (cB (cR (cR (bodyOf Tryz.f43)))))))))))::ks) .normal (YI b c j a d k e f g):=by
 unfold Se at h
 by_cases i:d=true
 ·rw [if_pos i] at h
  cases h
  exact pkk_sound TTok mix hF 2 (hs:=[.t false]) (ts:=[]) (s:=[0,1]) (l:=[0,1,2,3,4,10,11,12]) (by kernel_rfl) (by kernel_rfl) (.cons (bnf i) .nil) q
 ·rw [if_neg i] at h
  obtain ⟨p,u,h⟩:=bind_some h
  cases h
  exact pkk_sound TTok mix hF 4 (hs:=[.t true,.h [1] [] [.row 25 2 (p.map Gb)] (.tup [])]) (ts:=[]) (s:=[0,1]) (l:=[0,1,2,3,4,10,11,12]) (by kernel_rfl) (by kernel_rfl) (.cons (bnt (vf i)) (.cons (ZV n e b c a f g m _ u) .nil)) q
inductive Sz where
 | x0 (a b:Int) (c:(List Ga))
def YK:Sz→Ex
 | .x0 _ _ _=>.normal
def YL (a b c:Int) (l:(Ga→Ga→Option (Int))) (e f:Bool) (m:(Int×Int)) (n:(List Ga)) (g:FuncId) (h:(List PV)):Sz→PS
 | .x0 i j k=>⟨(.srf 1::di a::di b::di c::.d (.clo g h)::dd::dd::dd::dd::dd::.d (.v (.bool e))::.d (.v (.bool f))::di (wi .i64 (b-a))::di i::di j::(dds 133 [])),[.gh 0 (.srf 1),.row 25 2 (k.map Gb)]⟩
def YM (b c e:Int) (k:(Ga→Ga→Option (Int))) (f g:Bool) (a:(Int×Int)) (h:(List Ga)) (i:FuncId) (j:(List PV))  : PS:=⟨(.srf 1::di b::di c::di e::.d (.clo i j)::dd::dd::dd::dd::dd::.d (.v (.bool f))::.d (.v (.bool g))::di (wi .i64 (c-b))::di a.1::di a.2::(dds 41 (.d (.v (.bool (a.2 == 2)))::(dds 91 [])))),[.gh 0 (.srf 1),.row 25 2 (h.map Gb)]⟩
def Sf (n:Nat) (b c g:Int) (e:(Ga→Ga→Option (Int))) (h i:Bool) (a:(Int×Int)) (d:(List Ga)):Option Sz :=
 if a.2=2 then
  (GZ n d b c e).bind fun (f:((List Ga))) =>
  some (.x0 (wi .i64 ((wi .i64 (c-1))-(wi .i64 (a.1-b)))) 1 f)
 else
  some (.x0 a.1 a.2 d)
theorem YN {Fi:Ex→PS→Prop} (hF:KC 148 Fi) (ks:List Fr) (n:Nat) (b c j:Int) (a:(Ga→Ga→Option (Int))) (k m:Bool) (d:(Int×Int)) (e:(List Ga)) (f:FuncId) (g:(List PV)) (p:∀ (x0:Ga) (x1:Ga) (r:Int),a x0 x1=some r→Ret Tryz.prog f ([Gb x0,Gb x1]++g) ((eI .i64) r)) (o:Sz) (h:Sf n b c j a k m d e=some o) (q:RunE Tryz.prog 148 Fi ks (YK o) (YL b c j a k m d e f g o)):RunE Tryz.prog 148 Fi (.s (cR (cL (cR (cR (cR (cR (cR (cB (cP (cB (cR (cR (bodyOf Tryz.f43)))))))))))))::ks) .normal (YM b c j a k m d e f g):=by
 unfold Sf at h
 by_cases i:d.2=2
 ·rw [if_pos i] at h
  obtain ⟨u,v,h⟩:=bind_some h
  cases h
  exact pkk_sound TTok mix hF 6 (hs:=[.t true,.h [1] [] [.row 25 2 (u.map Gb)] (.tup [])]) (ts:=[]) (s:=[0,1]) (l:=[0,1,2,3,4,10,11,12,13,14]) (by kernel_rfl) (by kernel_rfl) (.cons (bt i) (.cons (Z3 n e b c a f g p _ v) .nil)) q
 ·rw [if_neg i] at h
  cases h
  exact pkk_sound TTok mix hF 2 (hs:=[.t false]) (ts:=[]) (s:=[0,1]) (l:=[0,1,2,3,4,10,11,12,13,14]) (by kernel_rfl) (by kernel_rfl) (.cons (bf i) .nil) q
inductive SA where
 | x0 (a:(List Ga))
 | x1 (b:(List Ga))
def YO:SA→Ex
 | .x0 _=>.ret
 | .x1 _=>.normal
def YP (a b c:Int) (l:(Ga→Ga→Option (Int))) (e f:Bool) (g m:Int) (n:(List Ga)) (h:FuncId) (i:(List PV)):SA→PS
 | .x0 j=>⟨(dds 148 []),[.gh 0 (.srf 1),.row 25 2 (j.map Gb)]⟩
 | .x1 k=>⟨(.srf 1::di a::di b::di c::.d (.clo h i)::dd::dd::dd::dd::dd::.d (.v (.bool e))::.d (.v (.bool f))::di (wi .i64 (b-a))::di g::(dds 134 [])),[.gh 0 (.srf 1),.row 25 2 (k.map Gb)]⟩
def YQ (a b c:Int) (l:(Ga→Ga→Option (Int))) (e f:Bool) (g h:Int) (i:(List Ga)) (j:FuncId) (k:(List PV))  : PS:=⟨(.srf 1::di a::di b::di c::.d (.clo j k)::dd::dd::dd::dd::dd::.d (.v (.bool e))::.d (.v (.bool f))::di (wi .i64 (b-a))::di g::(dds 61 (.d (.v (.bool (h == 1)))::(dds 72 [])))),[.gh 0 (.srf 1),.row 25 2 (i.map Gb)]⟩
def Sg (n:Nat) (c d g:Int) (e:(Ga→Ga→Option (Int))) (h i:Bool) (j f:Int) (b:(List Ga)):Option SA :=
 if f=1 then
  (GG n b c d e).bind fun (a:(Bool×(List Ga))) =>
  if a.1=true then
   some (.x0 a.2)
  else
   some (.x1 a.2)
 else
  some (.x1 b)
theorem YR {Fi:Ex→PS→Prop} (hF:KC 148 Fi) (ks:List Fr) (n:Nat) (b c p:Int) (a:(Ga→Ga→Option (Int))) (u w:Bool) (x k:Int) (e:(List Ga)) (f:FuncId) (g:(List PV)) (y:∀ (x0:Ga) (x1:Ga) (r:Int),a x0 x1=some r→Ret Tryz.prog f ([Gb x0,Gb x1]++g) ((eI .i64) r)) (o:SA) (h:Sg n b c p a u w x k e=some o) (q:RunE Tryz.prog 148 Fi ks (YO o) (YP b c p a u w x k e f g o)):RunE Tryz.prog 148 Fi (.s (cR (cL (cR (cR (cR (cR (cR (cR (cB (cP (cB (cR (cR (bodyOf Tryz.f43))))))))))))))::ks) .normal (YQ b c p a u w x k e f g):=by
 unfold Sg at h
 by_cases i:k=1
 ·rw [if_pos i] at h
  obtain ⟨j,z,h⟩:=bind_some h
  by_cases m:j.1=true
  ·rw [if_pos m] at h
   cases h
   exact pkk_sound TTok mix hF 5 (hs:=[.t true,.h [1] [] [.row 25 2 (j.2.map Gb)] (.d (.v (.bool j.1))),.t true]) (ts:=[]) (s:=[0,1]) (l:=[]) (by kernel_rfl) (by kernel_rfl) (.cons (bt i) (.cons (SV n e b c a f g y _ z) (.cons m .nil))) q
  ·rw [if_neg m] at h
   cases h
   exact pkk_sound TTok mix hF 5 (hs:=[.t true,.h [1] [] [.row 25 2 (j.2.map Gb)] (.d (.v (.bool j.1))),.t false]) (ts:=[]) (s:=[0,1]) (l:=[0,1,2,3,4,10,11,12,13]) (by kernel_rfl) (by kernel_rfl) (.cons (bt i) (.cons (SV n e b c a f g y _ z) (.cons (vf m) .nil))) q
 ·rw [if_neg i] at h
  cases h
  exact pkk_sound TTok mix hF 2 (hs:=[.t false]) (ts:=[]) (s:=[0,1]) (l:=[0,1,2,3,4,10,11,12,13]) (by kernel_rfl) (by kernel_rfl) (.cons (bf i) .nil) q
inductive G0 where
 | x0 (a:Bool) (b:(List Ga))
def YS:G0→Ex
 | .x0 _ _=>.normal
def YT (a b c:Int) (l:(Ga→Ga→Option (Int))) (e f:Bool) (g:Int) (m:(List Ga)) (h:FuncId) (i:(List PV)):G0→PS
 | .x0 j k=>⟨(.srf 1::di a::di b::di c::.d (.clo h i)::dd::dd::dd::dd::dd::.d (.v (.bool e))::.d (.v (.bool f))::di (wi .i64 (b-a))::di g::(dds 83 (.d (.v (.bool j))::(dds 50 [])))),[.gh 0 (.srf 1),.row 25 2 (k.map Gb)]⟩
def YU (a b c:Int) (k:(Ga→Ga→Option (Int))) (e f:Bool) (g:Int) (h:(List Ga)) (i:FuncId) (j:(List PV))  : PS:=⟨(.srf 1::di a::di b::di c::.d (.clo i j)::dd::dd::dd::dd::dd::.d (.v (.bool e))::.d (.v (.bool f))::di (wi .i64 (b-a))::di g::(dds 134 [])),[.gh 0 (.srf 1),.row 25 2 (h.map Gb)]⟩
def SD (n:Nat) (b h i:Int) (d:(Ga→Ga→Option (Int))) (j k:Bool) (c:Int) (a:(List Ga)):Option G0 :=
 if b > 0 then
  if 0≤(wi .i64 (b-1))∧((wi .i64 (b-1))).toNat<a.length then
   (a[((wi .i64 (b-1))).toNat]?).bind fun (e:Ga) =>
   if 0≤c∧(c).toNat<a.length then
    (a[(c).toNat]?).bind fun (f:Ga) =>
    (d e f).bind fun (g:(Int)) =>
    some (.x0 (!(decide (g<0))) a)
   else none
  else none
 else
  some (.x0 false a)
theorem YV {Fi:Ex→PS→Prop} (hF:KC 148 Fi) (ks:List Fr) (n:Nat) (a i j:Int) (e:(Ga→Ga→Option (Int))) (k m:Bool) (b:Int) (d:(List Ga)) (p:FuncId) (u:(List PV)) (a0:∀ (x0:Ga) (x1:Ga) (r:Int),e x0 x1=some r→Ret Tryz.prog p ([Gb x0,Gb x1]++u) ((eI .i64) r)) (o:G0) (h:SD n a i j e k m b d=some o) (q:RunE Tryz.prog 148 Fi ks (YS o) (YT a i j e k m b d p u o)):RunE Tryz.prog 148 Fi (.s (cL (cL (cR (cR (cR (cR (cR (cR (cR (cB (cP (cB (cR (cR (bodyOf Tryz.f43)))))))))))))))::ks) .normal (YU a i j e k m b d p u):=by
 unfold SD at h
 by_cases g:a > 0
 ·rw [if_pos g] at h
  by_cases v:0≤(wi .i64 (a-1))∧((wi .i64 (a-1))).toNat<d.length
  ·rw [if_pos v] at h
   obtain ⟨x,a1,h⟩:=bind_some h
   by_cases w:0≤b∧(b).toNat<d.length
   ·rw [if_pos w] at h
    obtain ⟨z,a2,h⟩:=bind_some h
    obtain ⟨a3,a4,h⟩:=bind_some h
    cases h
    exact pkk_sound TTok mix hF 1 (hs:=[.t true,.c,.c,.c,.c,.c,.y (Gb x),.c,.c,.c,.c,.y (Gb z),.c,.r ((eI .i64) a3),.c,.c]) (ts:=[]) (s:=[0,1]) (l:=[0,1,2,3,4,10,11,12,13,97]) (by kernel_rfl) (by kernel_rfl) (.cons (dt g) (.cons (idx_ob (f:=Gb) v) (.cons (get_ob (f:=Gb) a1) (.cons (idx_ob (f:=Gb) w) (.cons (get_ob (f:=Gb) a2) (.cons (a0 x z _ a4) .nil)))))) q
   ·rw [if_neg w] at h; cases h
  ·rw [if_neg v] at h; cases h
 ·rw [if_neg g] at h
  cases h
  exact pkk_sound TTok mix hF 1 (hs:=[.t false,.c,.c,.c,.c,.c,.c,.c,.c,.c,.c,.c,.c]) (ts:=[]) (s:=[0,1]) (l:=[0,1,2,3,4,10,11,12,13,97]) (by kernel_rfl) (by kernel_rfl) (.cons (df g) .nil) q
inductive G1 where
 | x0 (a:Bool) (b:(List Ga))
def YW:G1→Ex
 | .x0 _ _=>.normal
def YX (a b c:Int) (l:(Ga→Ga→Option (Int))) (e f:Bool) (g:Int) (m:(List Ga)) (h:FuncId) (i:(List PV)):G1→PS
 | .x0 j k=>⟨(.srf 1::di a::di b::di c::.d (.clo h i)::dd::dd::dd::dd::dd::.d (.v (.bool e))::.d (.v (.bool f))::di (wi .i64 (b-a))::di g::(dds 83 (.d (.v (.bool j))::(dds 50 [])))),[.gh 0 (.srf 1),.row 25 2 (k.map Gb)]⟩
def YY (a b c:Int) (k:(Ga→Ga→Option (Int))) (e f:Bool) (g:Int) (h:(List Ga)) (i:FuncId) (j:(List PV))  : PS:=⟨(.srf 1::di a::di b::di c::.d (.clo i j)::dd::dd::dd::dd::dd::.d (.v (.bool e))::.d (.v (.bool f))::di (wi .i64 (b-a))::di g::(dds 134 [])),[.gh 0 (.srf 1),.row 25 2 (h.map Gb)]⟩
def SE (n:Nat) (b h i:Int) (d:(Ga→Ga→Option (Int))) (j k:Bool) (c:Int) (a:(List Ga)):Option G1 :=
 if b > 0 then
  if 0≤(wi .i64 (b-1))∧((wi .i64 (b-1))).toNat<a.length then
   (a[((wi .i64 (b-1))).toNat]?).bind fun (e:Ga) =>
   if 0≤c∧(c).toNat<a.length then
    (a[(c).toNat]?).bind fun (f:Ga) =>
    (d e f).bind fun (g:(Int)) =>
    some (.x0 (!(decide (g<0))) a)
   else none
  else none
 else
  some (.x0 false a)
theorem YZ {Fi:Ex→PS→Prop} (hF:KC 148 Fi) (ks:List Fr) (n:Nat) (a i j:Int) (e:(Ga→Ga→Option (Int))) (k m:Bool) (b:Int) (d:(List Ga)) (p:FuncId) (u:(List PV)) (a0:∀ (x0:Ga) (x1:Ga) (r:Int),e x0 x1=some r→Ret Tryz.prog p ([Gb x0,Gb x1]++u) ((eI .i64) r)) (o:G1) (h:SE n a i j e k m b d=some o) (q:RunE Tryz.prog 148 Fi ks (YW o) (YX a i j e k m b d p u o)):RunE Tryz.prog 148 Fi (.s (cL (cL (cR (cR (cR (cR (cR (cR (cR (cB (cP (cB (cR (cR (bodyOf Tryz.f43)))))))))))))))::ks) .normal (YY a i j e k m b d p u):=by
 unfold SE at h
 by_cases g:a > 0
 ·rw [if_pos g] at h
  by_cases v:0≤(wi .i64 (a-1))∧((wi .i64 (a-1))).toNat<d.length
  ·rw [if_pos v] at h
   obtain ⟨x,a1,h⟩:=bind_some h
   by_cases w:0≤b∧(b).toNat<d.length
   ·rw [if_pos w] at h
    obtain ⟨z,a2,h⟩:=bind_some h
    obtain ⟨a3,a4,h⟩:=bind_some h
    cases h
    exact pkk_sound TTok mix hF 1 (hs:=[.t true,.c,.c,.c,.c,.c,.y (Gb x),.c,.c,.c,.c,.y (Gb z),.c,.r ((eI .i64) a3),.c,.c]) (ts:=[]) (s:=[0,1]) (l:=[0,1,2,3,4,10,11,12,13,97]) (by kernel_rfl) (by kernel_rfl) (.cons (dt g) (.cons (idx_ob (f:=Gb) v) (.cons (get_ob (f:=Gb) a1) (.cons (idx_ob (f:=Gb) w) (.cons (get_ob (f:=Gb) a2) (.cons (a0 x z _ a4) .nil)))))) q
   ·rw [if_neg w] at h; cases h
  ·rw [if_neg v] at h; cases h
 ·rw [if_neg g] at h
  cases h
  exact pkk_sound TTok mix hF 1 (hs:=[.t false,.c,.c,.c,.c,.c,.c,.c,.c,.c,.c,.c,.c]) (ts:=[]) (s:=[0,1]) (l:=[0,1,2,3,4,10,11,12,13,97]) (by kernel_rfl) (by kernel_rfl) (.cons (df g) .nil) q
inductive G2 where
 | x0 (a:Bool) (b:(List Ga))
def Y0:G2→Ex
 | .x0 _ _=>.normal
def Y1 (a b c:Int) (l:(Ga→Ga→Option (Int))) (e f:Bool) (g:Int) (m:(List Ga)) (h:FuncId) (i:(List PV)):G2→PS
 | .x0 j k=>⟨(.srf 1::di a::di b::di c::.d (.clo h i)::dd::dd::dd::dd::dd::.d (.v (.bool e))::.d (.v (.bool f))::di (wi .i64 (b-a))::di g::(dds 83 (.d (.v (.bool j))::(dds 50 [])))),[.gh 0 (.srf 1),.row 25 2 (k.map Gb)]⟩
def Y2 (a b c:Int) (k:(Ga→Ga→Option (Int))) (e f:Bool) (g:Int) (h:(List Ga)) (i:FuncId) (j:(List PV))  : PS:=⟨(.srf 1::di a::di b::di c::.d (.clo i j)::dd::dd::dd::dd::dd::.d (.v (.bool e))::.d (.v (.bool f))::di (wi .i64 (b-a))::di g::(dds 134 [])),[.gh 0 (.srf 1),.row 25 2 (h.map Gb)]⟩
def SF (n:Nat) (b h i:Int) (d:(Ga→Ga→Option (Int))) (j k:Bool) (c:Int) (a:(List Ga)):Option G2 :=
 if b > 0 then
  if 0≤(wi .i64 (b-1))∧((wi .i64 (b-1))).toNat<a.length then
   (a[((wi .i64 (b-1))).toNat]?).bind fun (e:Ga) =>
   if 0≤c∧(c).toNat<a.length then
    (a[(c).toNat]?).bind fun (f:Ga) =>
    (d e f).bind fun (g:(Int)) =>
    some (.x0 (!(decide (g<0))) a)
   else none
  else none
 else
  some (.x0 false a)
theorem Y3 {Fi:Ex→PS→Prop} (hF:KC 148 Fi) (ks:List Fr) (n:Nat) (a i j:Int) (e:(Ga→Ga→Option (Int))) (k m:Bool) (b:Int) (d:(List Ga)) (p:FuncId) (u:(List PV)) (a0:∀ (x0:Ga) (x1:Ga) (r:Int),e x0 x1=some r→Ret Tryz.prog p ([Gb x0,Gb x1]++u) ((eI .i64) r)) (o:G2) (h:SF n a i j e k m b d=some o) (q:RunE Tryz.prog 148 Fi ks (Y0 o) (Y1 a i j e k m b d p u o)):RunE Tryz.prog 148 Fi (.s (cL (cL (cR (cR (cR (cR (cR (cR (cR (cB (cP (cB (cR (cR (bodyOf Tryz.f43)))))))))))))))::ks) .normal (Y2 a i j e k m b d p u):=by
 unfold SF at h
 by_cases g:a > 0
 ·rw [if_pos g] at h
  by_cases v:0≤(wi .i64 (a-1))∧((wi .i64 (a-1))).toNat<d.length
  ·rw [if_pos v] at h
   obtain ⟨x,a1,h⟩:=bind_some h
   by_cases w:0≤b∧(b).toNat<d.length
   ·rw [if_pos w] at h
    obtain ⟨z,a2,h⟩:=bind_some h
    obtain ⟨a3,a4,h⟩:=bind_some h
    cases h
    exact pkk_sound TTok mix hF 1 (hs:=[.t true,.c,.c,.c,.c,.c,.y (Gb x),.c,.c,.c,.c,.y (Gb z),.c,.r ((eI .i64) a3),.c,.c]) (ts:=[]) (s:=[0,1]) (l:=[0,1,2,3,4,10,11,12,13,97]) (by kernel_rfl) (by kernel_rfl) (.cons (dt g) (.cons (idx_ob (f:=Gb) v) (.cons (get_ob (f:=Gb) a1) (.cons (idx_ob (f:=Gb) w) (.cons (get_ob (f:=Gb) a2) (.cons (a0 x z _ a4) .nil)))))) q
   ·rw [if_neg w] at h; cases h
  ·rw [if_neg v] at h; cases h
 ·rw [if_neg g] at h
  cases h
  exact pkk_sound TTok mix hF 1 (hs:=[.t false,.c,.c,.c,.c,.c,.c,.c,.c,.c,.c,.c,.c]) (ts:=[]) (s:=[0,1]) (l:=[0,1,2,3,4,10,11,12,13,97]) (by kernel_rfl) (by kernel_rfl) (.cons (df g) .nil) q
inductive GA where
 | x0 (a:(List Ga))
 | x1 (b c d:Int) (e f:Bool) (g:(List Ga))
def Y4:GA→Ex
 | .x0 _=>.ret
 | .x1 _ _ _ _ _ _=>.normal
def Y5 (k l m:Int) (n:(Ga→Ga→Option (Int))) (o p:Bool) (q:(List Ga)) (r:((List Ga)→Int→Int→Int→Option ((List Ga)))) (a:FuncId) (b:(List PV)):GA→PS
 | .x0 c=>⟨(dds 148 []),[.gh 0 (.srf 1),.row 25 2 (c.map Gb)]⟩
 | .x1 e f g h i j=>⟨(.srf 1::di e::di f::di g::.d (.clo a b)::dd::dd::dd::dd::dd::.d (.v (.bool h))::.d (.v (.bool i))::(dds 136 [])),[.gh 0 (.srf 1),.row 25 2 (j.map Gb)]⟩
def Y6 (a b c:Int) (j:(Ga→Ga→Option (Int))) (e f:Bool) (g:(List Ga)) (k:((List Ga)→Int→Int→Int→Option ((List Ga)))) (h:FuncId) (i:(List PV))  : PS:=⟨(.srf 1::di a::di b::di c::.d (.clo h i)::dd::dd::dd::dd::dd::.d (.v (.bool e))::.d (.v (.bool f))::(dds 136 [])),[.gh 0 (.srf 1),.row 25 2 (g.map Gb)]⟩
def Si (n:Nat) (b a o:Int) (d:(Ga→Ga→Option (Int))) (h i:Bool) (l:(List Ga)) (k:((List Ga)→Int→Int→Int→Option ((List Ga)))):Option GA :=
 if (wi .i64 (a-b))≤12 then
  (GU n l b a d).bind fun (w:((List Ga))) =>
  some (.x0 w)
 else
  if o=0 then
   (Sl n l b a d).bind fun (x:((List Ga))) =>
   some (.x0 x)
  else
   (Se n b a o d h i l).bind fun y=>match y with
   | .x0 c p =>
    (Sk n p b a d).bind fun (z:(Int×Int)) =>
    (Sf n b a c d h i z p).bind fun a0=>match a0 with
    | .x0 j a1 m =>
     if h=true then
      if i=true then
       (Sg n b a c d h i j a1 m).bind fun a2=>match a2 with
       | .x0 a3 =>
         some (.x0 a3)
       | .x1 a4 =>
         (SD n b a c d h i j a4).bind fun a5=>match a5 with
         | .x0 a6 q =>
           if a6=true then
            (Gi n q b a j d).bind fun (r:(Int×(List Ga))) =>
            some (.x1 r.1 a c h i r.2)
           else
            (Gs n q b a j d).bind fun (e:(Int×Bool×(List Ga))) =>
            if (wi .i64 (e.1-b))<(wi .i64 (a-e.1)) then
             (k e.2.2 b e.1 c).bind fun (a7:((List Ga))) =>
             some (.x1 (wi .i64 (e.1+1)) a c (decide ((wi .i64 (e.1-b))≥(quoI .i64 (wi .i64 (a-b)) 8))) e.2.1 a7)
            else
             (k e.2.2 (wi .i64 (e.1+1)) a c).bind fun (a8:((List Ga))) =>
             some (.x1 b e.1 c (decide ((wi .i64 (a-e.1))≥(quoI .i64 (wi .i64 (a-b)) 8))) e.2.1 a8)
      else
       (SE n b a c d h i j m).bind fun a9=>match a9 with
       | .x0 b0 s =>
         if b0=true then
          (Gi n s b a j d).bind fun (t:(Int×(List Ga))) =>
          some (.x1 t.1 a c h i t.2)
         else
          (Gs n s b a j d).bind fun (f:(Int×Bool×(List Ga))) =>
          if (wi .i64 (f.1-b))<(wi .i64 (a-f.1)) then
           (k f.2.2 b f.1 c).bind fun (b1:((List Ga))) =>
           some (.x1 (wi .i64 (f.1+1)) a c (decide ((wi .i64 (f.1-b))≥(quoI .i64 (wi .i64 (a-b)) 8))) f.2.1 b1)
          else
           (k f.2.2 (wi .i64 (f.1+1)) a c).bind fun (b2:((List Ga))) =>
           some (.x1 b f.1 c (decide ((wi .i64 (a-f.1))≥(quoI .i64 (wi .i64 (a-b)) 8))) f.2.1 b2)
     else
      (SF n b a c d h i j m).bind fun b3=>match b3 with
      | .x0 b4 u =>
        if b4=true then
         (Gi n u b a j d).bind fun (v:(Int×(List Ga))) =>
         some (.x1 v.1 a c h i v.2)
        else
         (Gs n u b a j d).bind fun (g:(Int×Bool×(List Ga))) =>
         if (wi .i64 (g.1-b))<(wi .i64 (a-g.1)) then
          (k g.2.2 b g.1 c).bind fun (b5:((List Ga))) =>
          some (.x1 (wi .i64 (g.1+1)) a c (decide ((wi .i64 (g.1-b))≥(quoI .i64 (wi .i64 (a-b)) 8))) g.2.1 b5)
         else
          (k g.2.2 (wi .i64 (g.1+1)) a c).bind fun (b6:((List Ga))) =>
          some (.x1 b g.1 c (decide ((wi .i64 (a-g.1))≥(quoI .i64 (wi .i64 (a-b)) 8))) g.2.1 b6)
theorem Y7 {Fi:Ex→PS→Prop} (hF:KC 148 Fi) (ks:List Fr) (n:Nat) (a e a1:Int) (f:(Ga→Ga→Option (Int))) (x y:Bool) (z:(List Ga)) (a7:((List Ga)→Int→Int→Int→Option ((List Ga)))) (g:FuncId) (i:(List PV)) (j:∀ (x0:Ga) (x1:Ga) (r:Int),f x0 x1=some r→Ret Tryz.prog g ([Gb x0,Gb x1]++i) ((eI .i64) r)) (a0:∀ (x0:(List Ga)) (x1:Int) (x2:Int) (x3:Int) (r:(List Ga)),a7 x0 x1 x2 x3=some r→RetH Tryz.prog 43 [.srf 0,.d ((eI .i64) x1),.d ((eI .i64) x2),.d ((eI .i64) x3),.d ((.clo g i))] [.row 25 2 (x0.map Gb)] (.tup []) [.row 25 2 (r.map Gb)]) (o:GA) (h:Si n a e a1 f x y z a7=some o) (q:RunE Tryz.prog 148 Fi ks (Y4 o) (Y5 a e a1 f x y z a7 g i o)):RunE Tryz.prog 148 Fi (.s (cP (cB (cR (cR (bodyOf Tryz.f43)))))::ks) .normal (Y6 a e a1 f x y z a7 g i):=by
 unfold Si at h
 by_cases a2:(wi .i64 (e-a))≤12
 ·rw [if_pos a2] at h
  obtain ⟨c5,c6,h⟩:=bind_some h
  cases h
  exact pkk_sound TTok mix hF 12 (hs:=[.t true,.h [1] [] [.row 25 2 (c5.map Gb)] (.tup [])]) (ts:=[]) (s:=[0,1]) (l:=[]) (by kernel_rfl) (by kernel_rfl) (.cons (dt a2) (.cons (ZU n z a e f g i j _ c6) .nil)) q
 ·rw [if_neg a2] at h
  by_cases a8:a1=0
  ·rw [if_pos a8] at h
   obtain ⟨c7,c8,h⟩:=bind_some h
   cases h
   exact pkk_sound TTok mix hF 17 (hs:=[.t false,.t true,.h [1] [] [.row 25 2 (c7.map Gb)] (.tup [])]) (ts:=[]) (s:=[0,1]) (l:=[]) (by kernel_rfl) (by kernel_rfl) (.cons (df a2) (.cons (bt a8) (.cons (Xo n z a e f g i j _ c8) .nil))) q
  ·rw [if_neg a8] at h
   obtain ⟨c9,d0,h⟩:=bind_some h
   refine pkk_sound TTok mix hF 16 (hs:=[.t false,.t false]) (ts:=[]) (s:=[0,1]) (l:=[0,1,2,3,4,10,11,12,39]) (by kernel_rfl) (by kernel_rfl) (.cons (df a2) (.cons (bf a8) .nil)) (YJ hF (.s (cR (cR (cR (cR (cB (cP (cB (cR (cR (bodyOf Tryz.f43))))))))))::.b 1::ks) n a e a1 f x y z g i j _ d0 ?_)
   cases c9 with
   | x0 w b8 =>
    try dsimp only at h
    obtain ⟨b3,d1,h⟩:=bind_some h
    obtain ⟨d2,d3,h⟩:=bind_some h
    refine pkk_sound TTok mix hF 5 (hs:=[.c,.r (.tup [(eI .i64) b3.1,(eI .i64) b3.2])]) (ts:=[]) (s:=[0,1]) (l:=[0,1,2,3,4,10,11,12,13,14,56]) (by kernel_rfl) (by kernel_rfl) (.cons (Xh n b8 a e f g i j _ d1) .nil) (YN hF (.s (cR (cR (cR (cR (cR (cR (cB (cP (cB (cR (cR (bodyOf Tryz.f43))))))))))))::.b 1::ks) n a e w f x y b3 b8 g i j _ d3 ?_)
    cases d2 with
    | x0 k d4 b4 =>
     try dsimp only at h
     by_cases a3:x=true
     ·rw [if_pos a3] at h
      by_cases a9:y=true
      ·rw [if_pos a9] at h
       obtain ⟨d5,d6,h⟩:=bind_some h
       refine pkk_sound TTok mix hF 3 (hs:=[.t true,.t true,.c]) (ts:=[]) (s:=[0,1]) (l:=[0,1,2,3,4,10,11,12,13,75]) (by kernel_rfl) (by kernel_rfl) (.cons a3 (.cons a9 .nil)) (YR hF (.s (cR (cR (cR (cR (cR (cR (cR (cB (cP (cB (cR (cR (bodyOf Tryz.f43)))))))))))))::.b 1::ks) n a e w f x y k d4 b4 g i j _ d6 ?_)
       cases d5 with
       | x0 g2 =>
        try dsimp only at h
        cases h
        exact pkk_sound TTok mix hF 2 (hs:=[]) (ts:=[]) (s:=[0,1]) (l:=[]) (by kernel_rfl) (by kernel_rfl) .nil q
       | x1 d7 =>
        try dsimp only at h
        obtain ⟨d8,d9,h⟩:=bind_some h
        refine pkk_sound TTok mix hF 2 (hs:=[]) (ts:=[]) (s:=[0,1]) (l:=[0,1,2,3,4,10,11,12,13]) (by kernel_rfl) (by kernel_rfl) .nil (YV hF (.s (cR (cL (cR (cR (cR (cR (cR (cR (cR (cB (cP (cB (cR (cR (bodyOf Tryz.f43)))))))))))))))::.s (cR (cR (cR (cR (cR (cR (cR (cR (cB (cP (cB (cR (cR (bodyOf Tryz.f43))))))))))))))::.b 1::ks) n a e w f x y k d7 g i j _ d9 ?_)
        cases d8 with
        | x0 e0 b5 =>
         try dsimp only at h
         by_cases a4:e0=true
         ·rw [if_pos a4] at h
          obtain ⟨b9,e1,h⟩:=bind_some h
          cases h
          exact pkk_sound TTok mix hF 8 (hs:=[.t true,.h [1] [] [.row 25 2 (b9.2.map Gb)] (di b9.1)]) (ts:=[]) (s:=[0,1]) (l:=[0,1,2,3,4,10,11]) (by kernel_rfl) (by kernel_rfl) (.cons a4 (.cons (SK n b5 a e k f g i j _ e1) .nil)) q
         ·rw [if_neg a4] at h
          obtain ⟨m,c0,h⟩:=bind_some h
          by_cases b0:(wi .i64 (m.1-a))<(wi .i64 (e-m.1))
          ·rw [if_pos b0] at h
           obtain ⟨e2,e3,h⟩:=bind_some h
           cases h
           exact pkk_sound TTok mix hF 19 (hs:=[.t false,.h [1] [] [.row 25 2 (m.2.2.map Gb)] (.tup [di m.1,.d (.v (.bool m.2.1))]),.t true,.h [1] [] [.row 25 2 (e2.map Gb)] (.tup [])]) (ts:=[]) (s:=[0,1]) (l:=[0,1,2,3,4,10,11]) (by kernel_rfl) (by kernel_rfl) (.cons (vf a4) (.cons (GH n b5 a e k f g i j _ c0) (.cons (show (8:Int)≠0 by decide) (.cons (dt b0) (.cons (a0 m.2.2 a m.1 w _ e3) .nil))))) q
          ·rw [if_neg b0] at h
           obtain ⟨e4,e5,h⟩:=bind_some h
           cases h
           exact pkk_sound TTok mix hF 19 (hs:=[.t false,.h [1] [] [.row 25 2 (m.2.2.map Gb)] (.tup [di m.1,.d (.v (.bool m.2.1))]),.t false,.h [1] [] [.row 25 2 (e4.map Gb)] (.tup [])]) (ts:=[]) (s:=[0,1]) (l:=[0,1,2,3,4,10,11]) (by kernel_rfl) (by kernel_rfl) (.cons (vf a4) (.cons (GH n b5 a e k f g i j _ c0) (.cons (show (8:Int)≠0 by decide) (.cons (df b0) (.cons (a0 m.2.2 (wi .i64 (m.1+1)) e w _ e5) .nil))))) q
      ·rw [if_neg a9] at h
       obtain ⟨e6,e7,h⟩:=bind_some h
       refine pkk_sound TTok mix hF 7 (hs:=[.t true,.t false,.c,.c]) (ts:=[]) (s:=[0,1]) (l:=[0,1,2,3,4,10,11,12,13]) (by kernel_rfl) (by kernel_rfl) (.cons a3 (.cons (vf a9) .nil)) (YZ hF (.s (cR (cL (cR (cR (cR (cR (cR (cR (cR (cB (cP (cB (cR (cR (bodyOf Tryz.f43)))))))))))))))::.s (cR (cR (cR (cR (cR (cR (cR (cR (cB (cP (cB (cR (cR (bodyOf Tryz.f43))))))))))))))::.b 1::ks) n a e w f x y k b4 g i j _ e7 ?_)
       cases e6 with
       | x0 e8 b6 =>
        try dsimp only at h
        by_cases a5:e8=true
        ·rw [if_pos a5] at h
         obtain ⟨c1,e9,h⟩:=bind_some h
         cases h
         exact pkk_sound TTok mix hF 8 (hs:=[.t true,.h [1] [] [.row 25 2 (c1.2.map Gb)] (di c1.1)]) (ts:=[]) (s:=[0,1]) (l:=[0,1,2,3,4,10,11]) (by kernel_rfl) (by kernel_rfl) (.cons a5 (.cons (SK n b6 a e k f g i j _ e9) .nil)) q
        ·rw [if_neg a5] at h
         obtain ⟨p,c2,h⟩:=bind_some h
         by_cases b1:(wi .i64 (p.1-a))<(wi .i64 (e-p.1))
         ·rw [if_pos b1] at h
          obtain ⟨f0,f1,h⟩:=bind_some h
          cases h
          exact pkk_sound TTok mix hF 19 (hs:=[.t false,.h [1] [] [.row 25 2 (p.2.2.map Gb)] (.tup [di p.1,.d (.v (.bool p.2.1))]),.t true,.h [1] [] [.row 25 2 (f0.map Gb)] (.tup [])]) (ts:=[]) (s:=[0,1]) (l:=[0,1,2,3,4,10,11]) (by kernel_rfl) (by kernel_rfl) (.cons (vf a5) (.cons (GH n b6 a e k f g i j _ c2) (.cons (show (8:Int)≠0 by decide) (.cons (dt b1) (.cons (a0 p.2.2 a p.1 w _ f1) .nil))))) q
         ·rw [if_neg b1] at h
          obtain ⟨f2,f3,h⟩:=bind_some h
          cases h
          exact pkk_sound TTok mix hF 19 (hs:=[.t false,.h [1] [] [.row 25 2 (p.2.2.map Gb)] (.tup [di p.1,.d (.v (.bool p.2.1))]),.t false,.h [1] [] [.row 25 2 (f2.map Gb)] (.tup [])]) (ts:=[]) (s:=[0,1]) (l:=[0,1,2,3,4,10,11]) (by kernel_rfl) (by kernel_rfl) (.cons (vf a5) (.cons (GH n b6 a e k f g i j _ c2) (.cons (show (8:Int)≠0 by decide) (.cons (df b1) (.cons (a0 p.2.2 (wi .i64 (p.1+1)) e w _ f3) .nil))))) q
     ·rw [if_neg a3] at h
      obtain ⟨f4,f5,h⟩:=bind_some h
      refine pkk_sound TTok mix hF 7 (hs:=[.t false,.c,.c,.c]) (ts:=[]) (s:=[0,1]) (l:=[0,1,2,3,4,10,11,12,13]) (by kernel_rfl) (by kernel_rfl) (.cons (vf a3) .nil) (Y3 hF (.s (cR (cL (cR (cR (cR (cR (cR (cR (cR (cB (cP (cB (cR (cR (bodyOf Tryz.f43)))))))))))))))::.s (cR (cR (cR (cR (cR (cR (cR (cR (cB (cP (cB (cR (cR (bodyOf Tryz.f43))))))))))))))::.b 1::ks) n a e w f x y k b4 g i j _ f5 ?_)
      cases f4 with
      | x0 f6 b7 =>
       try dsimp only at h
       by_cases a6:f6=true
       ·rw [if_pos a6] at h
        obtain ⟨c3,f7,h⟩:=bind_some h
        cases h
        exact pkk_sound TTok mix hF 8 (hs:=[.t true,.h [1] [] [.row 25 2 (c3.2.map Gb)] (di c3.1)]) (ts:=[]) (s:=[0,1]) (l:=[0,1,2,3,4,10,11]) (by kernel_rfl) (by kernel_rfl) (.cons a6 (.cons (SK n b7 a e k f g i j _ f7) .nil)) q
       ·rw [if_neg a6] at h
        obtain ⟨u,c4,h⟩:=bind_some h
        by_cases b2:(wi .i64 (u.1-a))<(wi .i64 (e-u.1))
        ·rw [if_pos b2] at h
         obtain ⟨f8,f9,h⟩:=bind_some h
         cases h
         exact pkk_sound TTok mix hF 19 (hs:=[.t false,.h [1] [] [.row 25 2 (u.2.2.map Gb)] (.tup [di u.1,.d (.v (.bool u.2.1))]),.t true,.h [1] [] [.row 25 2 (f8.map Gb)] (.tup [])]) (ts:=[]) (s:=[0,1]) (l:=[0,1,2,3,4,10,11]) (by kernel_rfl) (by kernel_rfl) (.cons (vf a6) (.cons (GH n b7 a e k f g i j _ c4) (.cons (show (8:Int)≠0 by decide) (.cons (dt b2) (.cons (a0 u.2.2 a u.1 w _ f9) .nil))))) q
        ·rw [if_neg b2] at h
         obtain ⟨g0,g1,h⟩:=bind_some h
         cases h
         exact pkk_sound TTok mix hF 19 (hs:=[.t false,.h [1] [] [.row 25 2 (u.2.2.map Gb)] (.tup [di u.1,.d (.v (.bool u.2.1))]),.t false,.h [1] [] [.row 25 2 (g0.map Gb)] (.tup [])]) (ts:=[]) (s:=[0,1]) (l:=[0,1,2,3,4,10,11]) (by kernel_rfl) (by kernel_rfl) (.cons (vf a6) (.cons (GH n b7 a e k f g i j _ c4) (.cons (show (8:Int)≠0 by decide) (.cons (df b2) (.cons (a0 u.2.2 (wi .i64 (u.1+1)) e w _ g1) .nil))))) q
inductive SB where
 | x0 (a:(List Ga))
def Y8:SB→Ex
 | .x0 _=>.ret
def Y9 (b:(Ga→Ga→Option (Int))) (c:((List Ga)→Int→Int→Int→Option ((List Ga)))) (d:FuncId) (e:(List PV)):SB→PS
 | .x0 a=>⟨(dds 148 []),[.gh 0 (.srf 1),.row 25 2 (a.map Gb)]⟩
def Xa (j:(Ga→Ga→Option (Int))) (k:((List Ga)→Int→Int→Int→Option ((List Ga)))) (a:FuncId) (b:(List PV)) (c e f:Int) (g h:Bool) (i:(List Ga)):PS:=⟨(.srf 1::di c::di e::di f::.d (.clo a b)::dd::dd::dd::dd::dd::.d (.v (.bool g))::.d (.v (.bool h))::(dds 136 [])),[.gh 0 (.srf 1),.row 25 2 (i.map Gb)]⟩
def GF (n:Nat) (a:(Ga→Ga→Option (Int))) (b:((List Ga)→Int→Int→Int→Option ((List Ga)))):Nat→Int→Int→Int→Bool→Bool→(List Ga)→Option SB
 | 0,_,_,_,_,_,_=>none
 | k+1,c,d,e,f,g,h =>
  (Si n c d e a f g h b).bind fun i=>match i with
  | .x0 j =>
   some (.x0 j)
  | .x1 l m o p q r =>
   GF n a b k l m o p q r
theorem KB {Fi:Ex→PS→Prop} (hF:KC 148 Fi) (ks:List Fr) (n:Nat) (a:(Ga→Ga→Option (Int))) (b:((List Ga)→Int→Int→Int→Option ((List Ga)))) (c:FuncId) (e:(List PV)) (t:∀ (x0:Ga) (x1:Ga) (r:Int),a x0 x1=some r→Ret Tryz.prog c ([Gb x0,Gb x1]++e) ((eI .i64) r)) (u:∀ (x0:(List Ga)) (x1:Int) (x2:Int) (x3:Int) (r:(List Ga)),b x0 x1 x2 x3=some r→RetH Tryz.prog 43 [.srf 0,.d ((eI .i64) x1),.d ((eI .i64) x2),.d ((eI .i64) x3),.d ((.clo c e))] [.row 25 2 (x0.map Gb)] (.tup []) [.row 25 2 (r.map Gb)]):∀ (k:Nat) (f g i:Int) (j m:Bool) (p:(List Ga)) (o:SB),GF n a b k f g i j m p=some o→RunE Tryz.prog 148 Fi ks (Y8 o) (Y9 a b c e o)→RunE Tryz.prog 148 Fi (.l k (cP (cB (cR (cR (bodyOf Tryz.f43)))))::ks) .normal (Xa a b c e f g i j m p)
 | 0,f,g,i,j,m,p,o,h,q=>by rw [GF] at h; cases h
 | k+1,f,g,i,j,m,p,o,h,q=>by
  rw [GF] at h
  obtain ⟨v,w,h⟩:=bind_some h
  refine pkk_sound TTok mix hF 1 (hs:=[]) (ts:=[]) (s:=[0,1]) (l:=[0,1,2,3,4,10,11]) (by kernel_rfl) (by kernel_rfl) .nil (Y7 hF (.l k (cP (cB (cR (cR (bodyOf Tryz.f43)))))::ks) n f g i a j m p b c e t u _ w ?_)
  cases v with
  | x0 a3 =>
   try dsimp only at h
   cases h
   exact pkk_sound TTok mix hF 1 (hs:=[]) (ts:=[]) (s:=[0,1]) (l:=[]) (by kernel_rfl) (by kernel_rfl) .nil q
  | x1 x y z a0 a1 a2 =>
   try dsimp only at h
   exact pkk_sound TTok mix hF 0 (hs:=[]) (ts:=[]) (s:=[0,1]) (l:=[0,1,2,3,4,10,11]) (by kernel_rfl) (by kernel_rfl) .nil (KB hF ks n a b c e t u k x y z a0 a1 a2 _ h q)
/- slices.pdqsortCmpFunc[ringhall/api.Entry] -/
def GB:Nat→(List Ga)→Int→Int→Int→(Ga→Ga→Option (Int))→Option ((List Ga))
 | 0,_,_,_,_,_=>none
 | n+1,b,c,d,e,a =>
 (GF n a (fun x0 x1 x2 x3=>GB n x0 x1 x2 x3 a) n c d e true true b).bind fun f=>match f with
 | .x0 g =>
  some g
theorem KM:∀ (n:Nat) (e:(List Ga)) (i j k:Int) (a:(Ga→Ga→Option (Int))) (f:FuncId) (g:List PV) (m:∀ (x0:Ga) (x1:Ga) (r:Int),a x0 x1=some r→Ret Tryz.prog f ([Gb x0,Gb x1]++g) ((eI .i64) r)) (r:(List Ga)) (h:GB n e i j k a=some r),RetH Tryz.prog 43 [.srf 0,.d ((eI .i64) i),.d ((eI .i64) j),.d ((eI .i64) k),.d ((.clo f g))] [.row 25 2 (e.map Gb)] (.tup []) [.row 25 2 (r.map Gb)]
 | 0,e,i,j,k,a,f,g,m,r,h=>by rw [GB] at h; cases h
 | n+1,e,i,j,k,a,f,g,m,r,h=>by
  refine retH_run (n:=148) (fn:=Tryz.f43) (c:=bodyOf Tryz.f43) (by kernel_rfl) (by kernel_rfl) (by kernel_rfl) (by kernel_rfl) ?_
  have hF:KC 148 (FinH Tryz.prog Tryz.f43 [.row 25 2 (e.map Gb)] (.tup []) [.row 25 2 (r.map Gb)]):=FinH.kc' (by kernel_rfl)
  rw [GB] at h
  obtain ⟨o,p,h⟩:=bind_some h
  refine pkk_sound TTok mix hF 6 (hs:=[.n n]) (ts:=[]) (s:=[1,0]) (l:=[0,1,2,3,4,10,11]) (by kernel_rfl) (by kernel_rfl) .nil (KB hF (.b 0::[]) n a (fun x0 x1 x2 x3=>GB n x0 x1 x2 x3 a) f g m (fun x0 x1 x2 x3 r h=>KM n x0 x1 x2 x3 a f g m r h) n i j k true true e _ p ?_)
  cases o with
  | x0 q =>
   try dsimp only at h
   obtain rfl:=Option.some.inj h
   exact pendH_sound TTok mix 1 (hs:=[]) [1] (by kernel_rfl) (by kernel_rfl) (by kernel_rfl) .nil
/- slices.SortFunc[[]ringhall/api.Entry,ringhall/api.Entry] -/
def G8 (n:Nat) (a:(List Ga)) (b:(Ga→Ga→Option (Int))):Option ((List Ga)) :=
 (Zc n (wi .u64 (a.length:Int))).bind fun (c:(Int)) =>
 (GB n a 0 (a.length:Int) c b).bind fun (d:((List Ga))) =>
 some d
theorem YC (n:Nat) (a:(List Ga)) (b:(Ga→Ga→Option (Int))) (e:FuncId) (g:List PV) (j:∀ (x0:Ga) (x1:Ga) (r:Int),b x0 x1=some r→Ret Tryz.prog e ([Gb x0,Gb x1]++g) ((eI .i64) r)) (r:(List Ga)) (h:G8 n a b=some r):RetH Tryz.prog 20 [.srf 0,.d ((.clo e g))] [.row 25 2 (a.map Gb)] (.tup []) [.row 25 2 (r.map Gb)]:=by
 refine retH_run (n:=14) (fn:=Tryz.f20) (c:=bodyOf Tryz.f20) (by kernel_rfl) (by kernel_rfl) (by kernel_rfl) (by kernel_rfl) ?_
 have hF:KC 14 (FinH Tryz.prog Tryz.f20 [.row 25 2 (a.map Gb)] (.tup []) [.row 25 2 (r.map Gb)]):=FinH.kc' (by kernel_rfl)
 unfold G8 at h
 obtain ⟨i,k,h⟩:=bind_some h
 obtain ⟨m,o,h⟩:=bind_some h
 obtain rfl:=Option.some.inj h
 exact pendH_sound TTok mix 3 (hs:=[.u (di (a.length:Int)),.r ((eI .i64) i),.h [0] [] [.row 25 2 (m.map Gb)] (.tup [])]) [0] (by kernel_rfl) (by kernel_rfl) (by kernel_rfl) (.cons (len_ob (f:=Gb) (l:=a)) (.cons (XQ n (wi .u64 (a.length:Int)) _ k) (.cons (KM n a 0 (a.length:Int) i b e g j _ o) .nil)))
/- ringhall/dir.Lay$2 -/
def Ko:Nat→Int→(List Ga)→(List Int)→Int→Option ((List Ga)×(List Int)×Int)
 | 0,_,_,_,_=>none
 | n+1,b,c,f,g =>
 if b≥(c.length:Int) then
  some (c,f,g)
 else
  ((fun x0 x1 x2 x3=>Ko n x0 x1 x2 x3) (wi .i64 ((wi .i64 (2*b))+1)) c f g).bind fun (a:((List Ga)×(List Int)×Int)) =>
  if ((0:Int)≤(wi .i64 (16*b))∧(wi .i64 (16*b))≤(a.2.1.length:Int)) then
   if 0≤a.2.2∧(a.2.2).toNat<a.1.length then
    (a.1[(a.2.2).toNat]?).bind fun (d:Ga) =>
    if a.2.1.length≤a.2.1.length then
     if 0≤a.2.2∧(a.2.2).toNat<a.1.length then
      (a.1[(a.2.2).toNat]?).bind fun (h:Ga) =>
      if 0≤(wi .i64 ((wi .i64 (16*b))+14))∧((wi .i64 ((wi .i64 (16*b))+14))).toNat<(cpyR a.2.1 ((wi .i64 (16*b)).toNat) a.2.1.length (s2b d.fName)).length then
       ((cpyR a.2.1 ((wi .i64 (16*b)).toNat) a.2.1.length (s2b d.fName))[((wi .i64 ((wi .i64 (16*b))+14))).toNat]?).bind fun (i:Int) =>
       ((fun x0 x1 x2 x3=>Ko n x0 x1 x2 x3) (wi .i64 ((wi .i64 (2*b))+2)) a.1 ((cpyR a.2.1 ((wi .i64 (16*b)).toNat) a.2.1.length (s2b d.fName)).set ((wi .i64 ((wi .i64 (16*b))+14))).toNat (wi .u8 h.fIno)) (wi .i64 (a.2.2+1))).bind fun (e:((List Ga)×(List Int)×Int)) =>
       some (e.1,e.2.1,e.2.2)
      else none
     else none
    else none
   else none
  else none
theorem XD:∀ (n:Nat) (m:Int) (o:(List Ga)) (a0:(List Int)) (a1:Int) (r:(List Ga)×(List Int)×Int) (h:Ko n m o a0 a1=some r),RetH Tryz.prog 23 [.d ((eI .i64) m),.ref 0 0,.ref 2 0,.ref 3 0,.ref 5 0] [.box [.srf 1],.row 25 2 (o.map Gb),.box [.clo 23 [.ref 0 0,.ref 2 0,.ref 3 0,.ref 5 0]],.box [.srf 4],.row 5 1 (a0.map (eI .u8)),.box [di a1]] (.tup []) [.box [.srf 6],.none,.box [.clo 23 [.ref 0 0,.ref 2 0,.ref 3 0,.ref 5 0]],.box [.srf 7],.none,.box [di r.2.2],.row 25 2 (r.1.map Gb),.row 5 1 (r.2.1.map (eI .u8))]
 | 0,m,o,a0,a1,r,h=>by rw [Ko] at h; cases h
 | n+1,m,o,a0,a1,r,h=>by
  refine retH_run (n:=43) (fn:=Tryz.f23) (c:=bodyOf Tryz.f23) (by kernel_rfl) (by kernel_rfl) (by kernel_rfl) (by kernel_rfl) ?_
  have hF:KC 43 (FinH Tryz.prog Tryz.f23 [.box [.srf 1],.row 25 2 (o.map Gb),.box [.clo 23 [.ref 0 0,.ref 2 0,.ref 3 0,.ref 5 0]],.box [.srf 4],.row 5 1 (a0.map (eI .u8)),.box [di a1]] (.tup []) [.box [.srf 6],.none,.box [.clo 23 [.ref 0 0,.ref 2 0,.ref 3 0,.ref 5 0]],.box [.srf 7],.none,.box [di r.2.2],.row 25 2 (r.1.map Gb),.row 5 1 (r.2.1.map (eI .u8))]):=FinH.kc' (by kernel_rfl)
  rw [Ko] at h
  by_cases a3:m≥(o.length:Int)
  ·rw [if_pos a3] at h
   obtain rfl:=Option.some.inj h
   exact pendH_sound TTok mix 8 (hs:=[.c,.u (di (o.length:Int)),.t true,.dl 2,.mv 1,.mv 4]) [0,1,2,3,4,5,32,33] (by kernel_rfl) (by kernel_rfl) (by kernel_rfl) (.cons (len_ob (f:=Gb) (l:=o)) (.cons (dt a3) .nil))
  ·rw [if_neg a3] at h
   obtain ⟨g,b0,h⟩:=bind_some h
   by_cases a4:((0:Int)≤(wi .i64 (16*m))∧(wi .i64 (16*m))≤(g.2.1.length:Int))
   ·rw [if_pos a4] at h
    by_cases a5:0≤g.2.2∧(g.2.2).toNat<g.1.length
    ·rw [if_pos a5] at h
     obtain ⟨q,b1,h⟩:=bind_some h
     by_cases a6:g.2.1.length≤g.2.1.length
     ·rw [if_pos a6] at h
      by_cases a7:0≤g.2.2∧(g.2.2).toNat<g.1.length
      ·rw [if_pos a7] at h
       obtain ⟨a2,b2,h⟩:=bind_some h
       by_cases a8:0≤(wi .i64 ((wi .i64 (16*m))+14))∧((wi .i64 ((wi .i64 (16*m))+14))).toNat<(cpyR g.2.1 ((wi .i64 (16*m)).toNat) g.2.1.length (s2b q.fName)).length
       ·rw [if_pos a8] at h
        obtain ⟨b3,b4,h⟩:=bind_some h
        obtain ⟨a9,b5,h⟩:=bind_some h
        obtain rfl:=Option.some.inj h
        exact pendH_sound TTok mix 14 (hs:=[.c,.u (di (o.length:Int)),.t false,.c,.h [0,1,2,3,4,5] [] [.box [.srf 6],.none,.box [.clo 23 [.ref 0 0,.ref 2 0,.ref 3 0,.ref 5 0]],.box [.srf 7],.none,.box [di g.2.2],.row 25 2 (g.1.map Gb),.row 5 1 (g.2.1.map (eI .u8))] (.tup []),.c,.e 72 [53] (.ssl 53 ((wi .i64 (16*m)).toNat) g.2.1.length 1) [],.c,.c,.y (Gb q),.e 102 [53] (di ((Nat.min (s2b q.fName).length (g.2.1.length-(wi .i64 (16*m)).toNat):Nat):Int)) [(53,.row 5 1 ((cpyR g.2.1 ((wi .i64 (16*m)).toNat) g.2.1.length (s2b q.fName)).map (eI .u8)))],.c,.c,.c,.y (Gb a2),.w (((cpyR g.2.1 ((wi .i64 (16*m)).toNat) g.2.1.length (s2b q.fName)).set ((wi .i64 ((wi .i64 (16*m))+14))).toNat (wi .u8 a2.fIno)).map (eI .u8)),.y ((eI .u8) b3),.c,.c,.c,.h [0,52,2,3,53,5] [] [.box [.srf 6],.none,.box [.clo 23 [.ref 0 0,.ref 2 0,.ref 3 0,.ref 5 0]],.box [.srf 7],.none,.box [di a9.2.2],.row 25 2 (a9.1.map Gb),.row 5 1 (a9.2.1.map (eI .u8))] (.tup [])]) [0,1,2,3,4,5,202,203] (by kernel_rfl) (by kernel_rfl) (by kernel_rfl) (.cons (len_ob (f:=Gb) (l:=o)) (.cons (df a3) (.cons ((fun x0 x1 x2 x3 r h=>XD n x0 x1 x2 x3 r h) (wi .i64 ((wi .i64 (2*m))+1)) o a0 a1 _ b0) (.cons (xs10 (P:=Tryz.prog) (T:=TT) (f:=(eI .u8)) (t:=23) (e:=5) (s:=1) (l:=53) (L:=g.2.1) (x:=(.tmp 15)) (lo:=(.tmp 17)) (a:=(wi .i64 (16*m))) (ka:=.i64) (by kernel_rfl) a4) (.cons (idx_ob (f:=Gb) a5) (.cons (get_ob (f:=Gb) b1) (.cons (xcpStr (P:=Tryz.prog) (T:=TT) (t:=23) (t':=9) (e:=5) (l:=53) (x:=(.tmp 18)) (y:=(.tmp 23)) (ti:=⟨1,1,.int .u8,[.i .u8]⟩) (L:=g.2.1) (b:=q.fName) (i:=(wi .i64 (16*m)).toNat) (j:=g.2.1.length) (by kernel_rfl) (by kernel_rfl) a6) (.cons (idx_ob (f:=Gb) a7) (.cons (get_ob (f:=Gb) b2) (.cons (idx_ob (f:=(eI .u8)) a8) (.cons (get_ob (f:=(eI .u8)) b4) (.cons (Eq.refl (pcells (.v (.int .u8 (wi .u8 a2.fIno))))) (.cons (set_ob (f:=(eI .u8)) (l:=(cpyR g.2.1 ((wi .i64 (16*m)).toNat) g.2.1.length (s2b q.fName))) (k:=((wi .i64 ((wi .i64 (16*m))+14))).toNat) (z:=(wi .u8 a2.fIno)) (p:=.v (.int .u8 (wi .u8 a2.fIno))) rfl) (.cons (show 0+1≤1 by decide) (.cons ((fun x0 x1 x2 x3 r h=>XD n x0 x1 x2 x3 r h) (wi .i64 ((wi .i64 (2*m))+2)) g.1 ((cpyR g.2.1 ((wi .i64 (16*m)).toNat) g.2.1.length (s2b q.fName)).set ((wi .i64 ((wi .i64 (16*m))+14))).toNat (wi .u8 a2.fIno)) (wi .i64 (g.2.2+1)) _ b5) .nil)))))))))))))))
       ·rw [if_neg a8] at h; cases h
      ·rw [if_neg a7] at h; cases h
     ·rw [if_neg a6] at h; cases h
    ·rw [if_neg a5] at h; cases h
   ·rw [if_neg a4] at h; cases h
/- ringhall/dir.Lay -/
def Za (n:Nat) (a:(List Ga)):Option ((List Int)×Int) :=
 (Xp n a).bind fun (b:(Int)) =>
 if b=0 then
  (SM n a).bind fun (d:((List Ga))) =>
  (G8 n d (fun (y0 y1:Ga)=>ZT n y0 y1)).bind fun (c:((List Ga))) =>
  (mkL 1 0 (wi .i64 (16*(c.length:Int)))).bind fun (e:(List Int)) =>
  (Ko n 0 c e 0).bind fun (f:((List Ga)×(List Int)×Int)) =>
  some (f.2.1,0)
 else
  some (([]:(List Int)),b)
theorem XG (n:Nat) (a:(List Ga)) (r:(List Int)×Int) (h:Za n a=some r):Ret Tryz.prog 6 [(eL Gb) a] (.tup [(eL (eI .u8)) r.1,(eI .i64) r.2]):=by
 refine ret_run (n:=25) (fn:=Tryz.f6) (c:=bodyOf Tryz.f6) (by kernel_rfl) (by kernel_rfl) (by kernel_rfl) (by kernel_rfl) ?_
 have hF:KC 25 (FinR Tryz.prog Tryz.f6 (.tup [(eL (eI .u8)) r.1,(eI .i64) r.2])):=FinR.kc' (by kernel_rfl)
 unfold Za at h
 obtain ⟨i,k,h⟩:=bind_some h
 by_cases e:i=0
 ·rw [if_pos e] at h
  obtain ⟨m,q,h⟩:=bind_some h
  obtain ⟨g,s,h⟩:=bind_some h
  obtain ⟨o,b,h⟩:=bind_some h
  obtain ⟨j,x,h⟩:=bind_some h
  obtain rfl:=Option.some.inj h
  exact pend_sound TTok mix 26 (hs:=[.c,.r ((eI .i64) i),.t false,.c,.h [] [] [.row 25 2 (m.map Gb)] (.srf 0),.c,.c,.h [45] [] [.row 25 2 (g.map Gb)] (.tup []),.c,.u (di (g.length:Int)),.w (o.map (eI .u8)),.c,.c,.c,.c,.h [0,45,105,85,80,95] [] [.box [.srf 6],.none,.box [.clo 23 [.ref 0 0,.ref 2 0,.ref 3 0,.ref 5 0]],.box [.srf 7],.none,.box [di j.2.2],.row 25 2 (j.1.map Gb),.row 5 1 (j.2.1.map (eI .u8))] (.tup []),.c]) (by kernel_rfl) (by kernel_rfl) (by kernel_rfl) (.cons (KN n a _ k) (.cons (nf e) (.cons (Xu n a _ q) (.cons (show 0+1≤1 by decide) (.cons (YC n m (fun (y0 y1:Ga)=>ZT n y0 y1) 21 [] (fun y0 y1 r h=>UN n y0 y1 r h) _ s) (.cons (len_ob (f:=Gb) (l:=g)) (.cons (mkL_ob (f:=(eI .u8)) (p:=.v (.int .u8 0)) b rfl).1 (.cons (mkL_ob (f:=(eI .u8)) (p:=.v (.int .u8 0)) b rfl).2.1 (.cons (mkL_ob (f:=(eI .u8)) (p:=.v (.int .u8 0)) b rfl).2.2.1 (.cons (mkL_ob (f:=(eI .u8)) (p:=.v (.int .u8 0)) b rfl).2.2.2.1 (.cons (mkL_ob (f:=(eI .u8)) (p:=.v (.int .u8 0)) b rfl).2.2.2.2 (.cons (show 0+1≤1 by decide) (.cons (show 0+1≤1 by decide) (.cons (show 0+1≤1 by decide) (.cons (XD n 0 g o 0 _ x) .nil)))))))))))))))
 ·rw [if_neg e] at h
  obtain rfl:=Option.some.inj h
  exact pend_sound TTok mix 12 (hs:=[.c,.r ((eI .i64) i),.t true]) (by kernel_rfl) (by kernel_rfl) (by kernel_rfl) (.cons (KN n a _ k) (.cons (nt e) .nil))
theorem one_byteTrimRight {c:ByteArray} (h:c.size=1):∃ x,c=⟨#[x]⟩:=by
 obtain ⟨⟨l⟩⟩:=c
 match l,h with
 | [x],_=>exact ⟨x,rfl⟩
def Xt (n:Nat) (s c:ByteArray):Option ByteArray:=if c.size=1∧(c.data.toList.headD 0).toNat<128∧s.size≤9223372036854775807 then some ⟨(Lib.trimRightB s.data.toList (c.data.toList.headD 0)).toArray⟩ else none
theorem Uz (n:Nat) (s c r:ByteArray) (h:Xt n s c=some r):Ret Tryz.prog 46 [eS s,eS c] (eS r):=by
 unfold Xt at h
 split at h
 ·rename_i q
  obtain rfl:=Option.some.inj h
  obtain ⟨x,rfl⟩:=one_byteTrimRight q.1
  refine ⟨⟨Tryz.f46,by kernel_rfl,by kernel_rfl,by kernel_rfl⟩,fun ow w vs _ hv=>?_⟩
  simp only [RT,R,eS,eI] at hv
  obtain ⟨_,_,rfl,⟨rfl,_⟩,_,_,rfl,⟨rfl,_⟩,rfl⟩:=hv
  refine (Tryz.strings_TrimRight_one s x (by exact q.2.1) w q.2.2).mono ?_
  rintro e w' ⟨rfl,rfl⟩
  exact ⟨_,rfl,Below.refl _ _,rfl,rfl⟩
 ·cases h
/- ringhall/dir.row -/
def XR (n:Nat) (b:(List Int)) (a:Int):Option (Ga) :=
 (sub b (wi .i64 (16*a)) (wi .i64 ((wi .i64 (16*a))+14))).bind fun (c:(List Int)) =>
 (Xt n (b2s c) (ByteArray.mk #[0])).bind fun (d:(ByteArray)) =>
 (getI b (wi .i64 ((wi .i64 (16*a))+14))).bind fun (e:Int) =>
 some (Ga.mk d (wi .i64 e))
theorem UQ (n:Nat) (g:(List Int)) (i:Int) (r:Ga) (h:XR n g i=some r):Ret Tryz.prog 25 [(eL (eI .u8)) g,(eI .i64) i] (Gb r):=by
 refine ret_run (n:=24) (fn:=Tryz.f25) (c:=bodyOf Tryz.f25) (by kernel_rfl) (by kernel_rfl) (by kernel_rfl) (by kernel_rfl) ?_
 have hF:KC 24 (FinR Tryz.prog Tryz.f25 (Gb r)):=FinR.kc' (by kernel_rfl)
 unfold XR at h
 obtain ⟨b,a,h⟩:=bind_some h
 obtain ⟨j,k,h⟩:=bind_some h
 obtain ⟨l,m,h⟩:=bind_some h
 obtain rfl:=Option.some.inj h
 exact pend_sound TTok mix 7 (hs:=[.w (b.map (eI .u8)),.e 40 [] (.d (.v (.string (b2s b)))) [],.r (eS j),.y ((eI .u8) l),.c,.c]) (by kernel_rfl) (by kernel_rfl) (by kernel_rfl) (.cons (sub_ob (f:=(eI .u8)) (s:=1) a (fun _=>rfl)).1 (.cons (sub_ob (f:=(eI .u8)) (s:=1) a (fun _=>rfl)).2.1 (.cons (sub_ob (f:=(eI .u8)) (s:=1) a (fun _=>rfl)).2.2.1 (.cons (sub_ob (f:=(eI .u8)) (s:=1) a (fun _=>rfl)).2.2.2.1 (.cons (sub_ob (f:=(eI .u8)) (s:=1) a (fun _=>rfl)).2.2.2.2 (.cons (xb2sD (L:=b) (P:=Tryz.prog) (T:=TT) (src:=23) (dst:=9) (e:=5) (s:=1) (x:=(.tmp 12)) (by kernel_rfl) (by kernel_rfl) (by kernel_rfl)) (.cons (Uz n (b2s b) (ByteArray.mk #[0]) _ k) (.cons (getI_ob (f:=(eI .u8)) m) (.cons (show 0+2≤2 by decide) .nil)))))))))
/- ringhall/dir.List$1 -/
def Ki:Nat→Int→Int→(List Ga)→(List Int)→Option (Int×(List Ga)×(List Int))
 | 0,_,_,_,_=>none
 | n+1,a,c,e,f =>
 if a<c then
  ((fun x0 x1 x2 x3=>Ki n x0 x1 x2 x3) (wi .i64 ((wi .i64 (2*a))+1)) c e f).bind fun (b:(Int×(List Ga)×(List Int))) =>
  (XR n b.2.2 a).bind fun (g:(Ga)) =>
  (app 24 b.2.1 ([g])).bind fun (h:(List Ga)) =>
  ((fun x0 x1 x2 x3=>Ki n x0 x1 x2 x3) (wi .i64 ((wi .i64 (2*a))+2)) b.1 h b.2.2).bind fun (d:(Int×(List Ga)×(List Int))) =>
  some (d.1,d.2.1,d.2.2)
 else
  some (c,e,f)
theorem Zg:∀ (n:Nat) (a b:Int) (e:(List Ga)) (g:(List Int)) (r:Int×(List Ga)×(List Int)) (h:Ki n a b e g=some r),RetH Tryz.prog 24 [.d ((eI .i64) a),.ref 0 0,.ref 1 0,.ref 2 0,.ref 4 0] [.box [di b],.box [.clo 24 [.ref 0 0,.ref 1 0,.ref 2 0,.ref 4 0]],.box [.srf 3],.row 25 2 (e.map Gb),.box [.d (.sl (g.map (eI .u8)))]] (.tup []) [.box [di r.1],.box [.clo 24 [.ref 0 0,.ref 1 0,.ref 2 0,.ref 4 0]],.box [.srf 5],.none,.box [.d (.sl (r.2.2.map (eI .u8)))],.row 25 2 (r.2.1.map Gb)]
 | 0,a,b,e,g,r,h=>by rw [Ki] at h; cases h
 | n+1,a,b,e,g,r,h=>by
  refine retH_run (n:=25) (fn:=Tryz.f24) (c:=bodyOf Tryz.f24) (by kernel_rfl) (by kernel_rfl) (by kernel_rfl) (by kernel_rfl) ?_
  have hF:KC 25 (FinH Tryz.prog Tryz.f24 [.box [di b],.box [.clo 24 [.ref 0 0,.ref 1 0,.ref 2 0,.ref 4 0]],.box [.srf 3],.row 25 2 (e.map Gb),.box [.d (.sl (g.map (eI .u8)))]] (.tup []) [.box [di r.1],.box [.clo 24 [.ref 0 0,.ref 1 0,.ref 2 0,.ref 4 0]],.box [.srf 5],.none,.box [.d (.sl (r.2.2.map (eI .u8)))],.row 25 2 (r.2.1.map Gb)]):=FinH.kc' (by kernel_rfl)
  rw [Ki] at h
  by_cases j:a<b
  ·rw [if_pos j] at h
   obtain ⟨i,o,h⟩:=bind_some h
   obtain ⟨p,q,h⟩:=bind_some h
   obtain ⟨m,k,h⟩:=bind_some h
   obtain ⟨l,u,h⟩:=bind_some h
   obtain rfl:=Option.some.inj h
   exact pendH_sound TTok mix 8 (hs:=[.c,.t true,.c,.h [0,1,2,3,4] [] [.box [di i.1],.box [.clo 24 [.ref 0 0,.ref 1 0,.ref 2 0,.ref 4 0]],.box [.srf 5],.none,.box [.d (.sl (i.2.2.map (eI .u8)))],.row 25 2 (i.2.1.map Gb)] (.tup []),.c,.c,.r (Gb p),.bd,.w (m.map Gb),.c,.c,.h [0,1,2,75,4] [] [.box [di l.1],.box [.clo 24 [.ref 0 0,.ref 1 0,.ref 2 0,.ref 4 0]],.box [.srf 5],.none,.box [.d (.sl (l.2.2.map (eI .u8)))],.row 25 2 (l.2.1.map Gb)] (.tup [])]) [0,1,2,3,4,105] (by kernel_rfl) (by kernel_rfl) (by kernel_rfl) (.cons (dt j) (.cons ((fun x0 x1 x2 x3 r h=>Zg n x0 x1 x2 x3 r h) (wi .i64 ((wi .i64 (2*a))+1)) b e g _ o) (.cons (UQ n i.2.2 a _ q) (.cons (app_ob (f:=Gb) (s:=2) k (fun _=>rfl)).1 (.cons (app_ob (f:=Gb) (s:=2) k (fun _=>rfl)).2.1 (.cons (app_ob (f:=Gb) (s:=2) k (fun _=>rfl)).2.2.1 (.cons (app_ob (f:=Gb) (s:=2) k (fun _=>rfl)).2.2.2 (.cons (show 0+1≤1 by decide) (.cons ((fun x0 x1 x2 x3 r h=>Zg n x0 x1 x2 x3 r h) (wi .i64 ((wi .i64 (2*a))+2)) i.1 m i.2.2 _ u) .nil)))))))))
  ·rw [if_neg j] at h
   obtain rfl:=Option.some.inj h
   exact pendH_sound TTok mix 5 (hs:=[.c,.t false,.dl 1,.mv 3]) [0,1,2,3,4,25] (by kernel_rfl) (by kernel_rfl) (by kernel_rfl) (.cons (df j) .nil)
inductive S5 where
 | x0 (a:Bool)
 | x1 
def XH:S5→Ex
 | .x0 _=>.ret
 | .x1  => .exit 0
def XI (b c:(List Int)):S5→PS
 | .x0 a=>⟨(dd::dd::dd::dd::.d (.v (.bool a))::(dds 21 [])),[]⟩
 | .x1  => ⟨(dds 26 []),[]⟩
def XJ (a b:(List Int)) (c:Int):PS:=⟨(.d (.sl (a.map (eI .u8)))::.d (.sl (b.map (eI .u8)))::(dds 10 (di (a.length:Int)::di c::(dds 12 [])))),[]⟩
def GX (n:Nat) (b c:(List Int)):Nat→Int→Option S5
 | 0,_=>none
 | k+1,a =>
  if a<(b.length:Int) then
   (getI b a).bind fun (d:Int) =>
   (getI c a).bind fun (e:Int) =>
   if d=e then
    GX n b c k (wi .i64 (a+1))
   else
    some (.x0 false)
  else
   some (.x1 )
theorem ZL {Fi:Ex→PS→Prop} (hF:KC 26 Fi) (ks:List Fr) (n:Nat) (b e:(List Int))  : ∀ (k:Nat) (a:Int) (o:S5),GX n b e k a=some o→RunE Tryz.prog 26 Fi ks (XH o) (XI b e o)→RunE Tryz.prog 26 Fi (.l k (cP (cB (cR (cL (cR (cR (bodyOf Tryz.f26)))))))::ks) .normal (XJ b e a)
 | 0,a,o,h,q=>by rw [GX] at h; cases h
 | k+1,a,o,h,q=>by
  rw [GX] at h
  by_cases d:a<(b.length:Int)
  ·rw [if_pos d] at h
   obtain ⟨i,m,h⟩:=bind_some h
   obtain ⟨j,p,h⟩:=bind_some h
   by_cases g:i=j
   ·rw [if_pos g] at h
    exact pkk_sound TTok mix hF 16 (hs:=[.t true,.y ((eI .u8) i),.c,.y ((eI .u8) j),.c,.t false]) (ts:=[]) (s:=[]) (l:=[0,1,12,13]) (by kernel_rfl) (by kernel_rfl) (.cons (dt d) (.cons (getI_ob (f:=(eI .u8)) m) (.cons (getI_ob (f:=(eI .u8)) p) (.cons (nf g) .nil)))) (ZL hF ks n b e k (wi .i64 (a+1)) _ h q)
   ·rw [if_neg g] at h
    cases h
    exact pkk_sound TTok mix hF 19 (hs:=[.t true,.y ((eI .u8) i),.c,.y ((eI .u8) j),.c,.t true]) (ts:=[]) (s:=[]) (l:=[4]) (by kernel_rfl) (by kernel_rfl) (.cons (dt d) (.cons (getI_ob (f:=(eI .u8)) m) (.cons (getI_ob (f:=(eI .u8)) p) (.cons (nt g) .nil)))) q
  ·rw [if_neg d] at h
   cases h
   exact pkk_sound TTok mix hF 8 (hs:=[.t false]) (ts:=[]) (s:=[]) (l:=[]) (by kernel_rfl) (by kernel_rfl) (.cons (df d) .nil) q
/- slices.Equal[[]byte,byte] -/
def Kd (n:Nat) (a b:(List Int)):Option (Bool) :=
 if (a.length:Int)=(b.length:Int) then
  (GX n a b n 0).bind fun c=>match c with
  | .x0 d =>
   some d
  | .x1  =>
   some true
 else
  some false
theorem Xd (n:Nat) (a e:(List Int)) (r:Bool) (h:Kd n a e=some r):Ret Tryz.prog 26 [(eL (eI .u8)) a,(eL (eI .u8)) e] (eB r):=by
 refine ret_run (n:=26) (fn:=Tryz.f26) (c:=bodyOf Tryz.f26) (by kernel_rfl) (by kernel_rfl) (by kernel_rfl) (by kernel_rfl) ?_
 have hF:KC 26 (FinR Tryz.prog Tryz.f26 (eB r)):=FinR.kc' (by kernel_rfl)
 unfold Kd at h
 by_cases g:(a.length:Int)=(e.length:Int)
 ·rw [if_pos g] at h
  obtain ⟨i,j,h⟩:=bind_some h
  refine pkk_sound TTok mix hF 12 (hs:=[.u (di (a.length:Int)),.u (di (e.length:Int)),.t false,.u (di (a.length:Int)),.n n]) (ts:=[]) (s:=[]) (l:=[0,1,12,13]) (by kernel_rfl) (by kernel_rfl) (.cons (len_ob (f:=(eI .u8)) (l:=a)) (.cons (len_ob (f:=(eI .u8)) (l:=e)) (.cons (nf g) (.cons (len_ob (f:=(eI .u8)) (l:=a)) .nil)))) (ZL hF (.b 0::.s (cR (cR (cR (bodyOf Tryz.f26))))::[]) n a e n 0 _ j ?_)
  cases i with
  | x0 k =>
   try dsimp only at h
   obtain rfl:=Option.some.inj h
   exact pend_sound TTok mix 2 (hs:=[]) (by kernel_rfl) (by kernel_rfl) (by kernel_rfl) .nil
  | x1  =>
   try dsimp only at h
   obtain rfl:=Option.some.inj h
   exact pend_sound TTok mix 4 (hs:=[]) (by kernel_rfl) (by kernel_rfl) (by kernel_rfl) .nil
 ·rw [if_neg g] at h
  obtain rfl:=Option.some.inj h
  exact pend_sound TTok mix 10 (hs:=[.u (di (a.length:Int)),.u (di (e.length:Int)),.t true]) (by kernel_rfl) (by kernel_rfl) (by kernel_rfl) (.cons (len_ob (f:=(eI .u8)) (l:=a)) (.cons (len_ob (f:=(eI .u8)) (l:=e)) (.cons (nt g) .nil)))
/- ringhall/dir.List -/
def ZM (n:Nat) (a:(List Int)):Option ((List Ga)×Int) :=
 if (remI (a.length:Int) 16)=0 then
  if (a.length:Int) > 512 then
   some (([]:(List Ga)),3)
  else
   (Ki n 0 (quoI .i64 (a.length:Int) 16) ([]:List Ga) a).bind fun (b:(Int×(List Ga)×(List Int))) =>
   (Za n b.2.1).bind fun (c:((List Int)×Int)) =>
   if c.2=0 then
    (Kd n c.1 b.2.2).bind fun (d:(Bool)) =>
    if d=true then
     some (b.2.1,0)
    else
     some (([]:(List Ga)),3)
   else
    some (([]:(List Ga)),3)
 else
  some (([]:(List Ga)),3)
theorem UO (n:Nat) (a:(List Int)) (r:(List Ga)×Int) (h:ZM n a=some r):Ret Tryz.prog 7 [(eL (eI .u8)) a] (.tup [(eL Gb) r.1,(eI .i64) r.2]):=by
 refine ret_run (n:=38) (fn:=Tryz.f7) (c:=bodyOf Tryz.f7) (by kernel_rfl) (by kernel_rfl) (by kernel_rfl) (by kernel_rfl) ?_
 have hF:KC 38 (FinR Tryz.prog Tryz.f7 (.tup [(eL Gb) r.1,(eI .i64) r.2])):=FinR.kc' (by kernel_rfl)
 unfold ZM at h
 by_cases g:(remI (a.length:Int) 16)=0
 ·rw [if_pos g] at h
  by_cases i:(a.length:Int) > 512
  ·rw [if_pos i] at h
   obtain rfl:=Option.some.inj h
   exact pend_sound TTok mix 10 (hs:=[.c,.u (di (a.length:Int)),.t false,.c,.c,.u (di (a.length:Int)),.c,.t true]) (by kernel_rfl) (by kernel_rfl) (by kernel_rfl) (.cons (len_ob (f:=(eI .u8)) (l:=a)) (.cons (show (16:Int)≠0 by decide) (.cons (nf g) (.cons (len_ob (f:=(eI .u8)) (l:=a)) (.cons (dt i) .nil)))))
  ·rw [if_neg i] at h
   obtain ⟨b,m,h⟩:=bind_some h
   obtain ⟨e,o,h⟩:=bind_some h
   by_cases j:e.2=0
   ·rw [if_pos j] at h
    obtain ⟨p,q,h⟩:=bind_some h
    by_cases k:p=true
    ·rw [if_pos k] at h
     obtain rfl:=Option.some.inj h
     exact pend_sound TTok mix 29 (hs:=[.c,.u (di (a.length:Int)),.t false,.c,.c,.u (di (a.length:Int)),.c,.t false,.c,.u (di (a.length:Int)),.c,.c,.dl 1,.tb 85 0 25 2,.c,.h [75,90,85,105,0] [] [.box [di b.1],.box [.clo 24 [.ref 0 0,.ref 1 0,.ref 2 0,.ref 4 0]],.box [.srf 5],.none,.box [.d (.sl (b.2.2.map (eI .u8)))],.row 25 2 (b.2.1.map Gb)] (.tup []),.dl 1,.fz 111,.c,.r (.tup [(eL (eI .u8)) e.1,(eI .i64) e.2]),.t false,.c,.c,.c,.r (eB p),.c,.t false,.c]) (by kernel_rfl) (by kernel_rfl) (by kernel_rfl) (.cons (len_ob (f:=(eI .u8)) (l:=a)) (.cons (show (16:Int)≠0 by decide) (.cons (nf g) (.cons (len_ob (f:=(eI .u8)) (l:=a)) (.cons (df i) (.cons (len_ob (f:=(eI .u8)) (l:=a)) (.cons (show (16:Int)≠0 by decide) (.cons (show 0+1≤1 by decide) (.cons (show 0+1≤1 by decide) (.cons (Zg n 0 (quoI .i64 (a.length:Int) 16) ([]:List Ga) a _ m) (.cons (XG n b.2.1 _ o) (.cons (nf j) (.cons (Xd n e.1 b.2.2 _ q) (.cons (bnf k) .nil))))))))))))))
    ·rw [if_neg k] at h
     obtain rfl:=Option.some.inj h
     exact pend_sound TTok mix 29 (hs:=[.c,.u (di (a.length:Int)),.t false,.c,.c,.u (di (a.length:Int)),.c,.t false,.c,.u (di (a.length:Int)),.c,.c,.dl 1,.tb 85 0 25 2,.c,.h [75,90,85,105,0] [] [.box [di b.1],.box [.clo 24 [.ref 0 0,.ref 1 0,.ref 2 0,.ref 4 0]],.box [.srf 5],.none,.box [.d (.sl (b.2.2.map (eI .u8)))],.row 25 2 (b.2.1.map Gb)] (.tup []),.dl 1,.fz 111,.c,.r (.tup [(eL (eI .u8)) e.1,(eI .i64) e.2]),.t false,.c,.c,.c,.r (eB p),.c,.t true]) (by kernel_rfl) (by kernel_rfl) (by kernel_rfl) (.cons (len_ob (f:=(eI .u8)) (l:=a)) (.cons (show (16:Int)≠0 by decide) (.cons (nf g) (.cons (len_ob (f:=(eI .u8)) (l:=a)) (.cons (df i) (.cons (len_ob (f:=(eI .u8)) (l:=a)) (.cons (show (16:Int)≠0 by decide) (.cons (show 0+1≤1 by decide) (.cons (show 0+1≤1 by decide) (.cons (Zg n 0 (quoI .i64 (a.length:Int) 16) ([]:List Ga) a _ m) (.cons (XG n b.2.1 _ o) (.cons (nf j) (.cons (Xd n e.1 b.2.2 _ q) (.cons (bnt (vf k)) .nil))))))))))))))
   ·rw [if_neg j] at h
    obtain rfl:=Option.some.inj h
    exact pend_sound TTok mix 29 (hs:=[.c,.u (di (a.length:Int)),.t false,.c,.c,.u (di (a.length:Int)),.c,.t false,.c,.u (di (a.length:Int)),.c,.c,.dl 1,.tb 85 0 25 2,.c,.h [75,90,85,105,0] [] [.box [di b.1],.box [.clo 24 [.ref 0 0,.ref 1 0,.ref 2 0,.ref 4 0]],.box [.srf 5],.none,.box [.d (.sl (b.2.2.map (eI .u8)))],.row 25 2 (b.2.1.map Gb)] (.tup []),.dl 1,.fz 111,.c,.r (.tup [(eL (eI .u8)) e.1,(eI .i64) e.2]),.t true,.c,.c,.c,.c]) (by kernel_rfl) (by kernel_rfl) (by kernel_rfl) (.cons (len_ob (f:=(eI .u8)) (l:=a)) (.cons (show (16:Int)≠0 by decide) (.cons (nf g) (.cons (len_ob (f:=(eI .u8)) (l:=a)) (.cons (df i) (.cons (len_ob (f:=(eI .u8)) (l:=a)) (.cons (show (16:Int)≠0 by decide) (.cons (show 0+1≤1 by decide) (.cons (show 0+1≤1 by decide) (.cons (Zg n 0 (quoI .i64 (a.length:Int) 16) ([]:List Ga) a _ m) (.cons (XG n b.2.1 _ o) (.cons (nt j) .nil))))))))))))
 ·rw [if_neg g] at h
  obtain rfl:=Option.some.inj h
  exact pend_sound TTok mix 10 (hs:=[.c,.u (di (a.length:Int)),.t true,.c,.c,.c]) (by kernel_rfl) (by kernel_rfl) (by kernel_rfl) (.cons (len_ob (f:=(eI .u8)) (l:=a)) (.cons (show (16:Int)≠0 by decide) (.cons (nt g) .nil)))
theorem one_byteIndexOne {c:ByteArray} (h:c.size=1):∃ x,c=⟨#[x]⟩:=by
 obtain ⟨⟨l⟩⟩:=c
 match l,h with
 | [x],_=>exact ⟨x,rfl⟩
def YD (n:Nat) (s c:ByteArray):Option Int:=if c.size=1 then some (Lib.indexByte s.data.toList (c.data.toList.headD 0)) else none
theorem XW (n:Nat) (s c:ByteArray) (r:Int) (h:YD n s c=some r):Ret Tryz.prog 78 [eS s,eS c] (eI .i64 r):=by
 unfold YD at h
 split at h
 ·rename_i q
  obtain rfl:=Option.some.inj h
  obtain ⟨x,rfl⟩:=one_byteIndexOne q
  refine ⟨⟨Tryz.f78,by kernel_rfl,by kernel_rfl,by kernel_rfl⟩,fun ow w vs _ hv=>?_⟩
  simp only [RT,R,eS,eI] at hv
  obtain ⟨_,_,rfl,⟨rfl,_⟩,_,_,rfl,⟨rfl,_⟩,rfl⟩:=hv
  refine (Tryz.stringslite_Index_one s x w).mono ?_
  rintro e w' ⟨rfl,rfl⟩
  exact ⟨_,rfl,Below.refl _ _,rfl,rfl⟩
 ·cases h
/- internal/stringslite.Cut -/
def SU (n:Nat) (a c:ByteArray):Option (ByteArray×ByteArray×Bool) :=
 (YD n a c).bind fun (b:(Int)) =>
 if b≥0 then
  (subS a 0 b).bind fun (d:ByteArray) =>
  (subS a (wi .i64 (b+(c.size:Int))) (a.size:Int)).bind fun (e:ByteArray) =>
  some (d,e,true)
 else
  some (a,(ByteArray.mk #[]),false)
theorem XP (n:Nat) (a b:ByteArray) (r:ByteArray×ByteArray×Bool) (h:SU n a b=some r):Ret Tryz.prog 47 [eS a,eS b] (.tup [eS r.1,eS r.2.1,eB r.2.2]):=by
 refine ret_run (n:=23) (fn:=Tryz.f47) (c:=bodyOf Tryz.f47) (by kernel_rfl) (by kernel_rfl) (by kernel_rfl) (by kernel_rfl) ?_
 have hF:KC 23 (FinR Tryz.prog Tryz.f47 (.tup [eS r.1,eS r.2.1,eB r.2.2])):=FinR.kc' (by kernel_rfl)
 unfold SU at h
 obtain ⟨f,j,h⟩:=bind_some h
 by_cases g:f≥0
 ·rw [if_pos g] at h
  obtain ⟨k,m,h⟩:=bind_some h
  obtain ⟨l,o,h⟩:=bind_some h
  obtain rfl:=Option.some.inj h
  exact pend_sound TTok mix 12 (hs:=[.r ((eI .i64) f),.t true,.e 55 [] (.d (.v (.string k))) [],.e 85 [] (.d (.v (.string l))) []]) (by kernel_rfl) (by kernel_rfl) (by kernel_rfl) (.cons (XW n a b _ j) (.cons (dt g) (.cons (xsub01 (P:=Tryz.prog) (T:=TT) (t:=9) (x:=(.tmp 13)) (p:=a) (r:=k) (hi:=(.tmp 14)) (h:=f) (kb:=.i64) (by kernel_rfl) m) (.cons (xsub10 (P:=Tryz.prog) (T:=TT) (t:=9) (x:=(.tmp 16)) (p:=a) (r:=l) (lo:=(.tmp 20)) (i:=(wi .i64 (f+(b.size:Int)))) (ka:=.i64) (by kernel_rfl) o) .nil))))
 ·rw [if_neg g] at h
  obtain rfl:=Option.some.inj h
  exact pend_sound TTok mix 12 (hs:=[.r ((eI .i64) f),.t false]) (by kernel_rfl) (by kernel_rfl) (by kernel_rfl) (.cons (XW n a b _ j) (.cons (df g) .nil))
/- strings.Cut -/
def Zf (n:Nat) (b c:ByteArray):Option (ByteArray×ByteArray×Bool) :=
 (SU n b c).bind fun (a:(ByteArray×ByteArray×Bool)) =>
 some (a.1,a.2.1,a.2.2)
theorem XE (n:Nat) (a b:ByteArray) (r:ByteArray×ByteArray×Bool) (h:Zf n a b=some r):Ret Tryz.prog 27 [eS a,eS b] (.tup [eS r.1,eS r.2.1,eB r.2.2]):=by
 refine ret_run (n:=13) (fn:=Tryz.f27) (c:=bodyOf Tryz.f27) (by kernel_rfl) (by kernel_rfl) (by kernel_rfl) (by kernel_rfl) ?_
 have hF:KC 13 (FinR Tryz.prog Tryz.f27 (.tup [eS r.1,eS r.2.1,eB r.2.2])):=FinR.kc' (by kernel_rfl)
 unfold Zf at h
 obtain ⟨d,e,h⟩:=bind_some h
 obtain rfl:=Option.some.inj h
 exact pend_sound TTok mix 5 (hs:=[.r (.tup [eS d.1,eS d.2.1,eB d.2.2])]) (by kernel_rfl) (by kernel_rfl) (by kernel_rfl) (.cons (XP n a b _ e) .nil)
theorem one_byteTrim {c:ByteArray} (h:c.size=1):∃ x,c=⟨#[x]⟩:=by
 obtain ⟨⟨l⟩⟩:=c
 match l,h with
 | [x],_=>exact ⟨x,rfl⟩
def XK (n:Nat) (s c:ByteArray):Option ByteArray:=if c.size=1∧(c.data.toList.headD 0).toNat<128∧s.size≤9223372036854775807 then some ⟨(Lib.trimB s.data.toList (c.data.toList.headD 0)).toArray⟩ else none
theorem Uv (n:Nat) (s c r:ByteArray) (h:XK n s c=some r):Ret Tryz.prog 28 [eS s,eS c] (eS r):=by
 unfold XK at h
 split at h
 ·rename_i q
  obtain rfl:=Option.some.inj h
  obtain ⟨x,rfl⟩:=one_byteTrim q.1
  refine ⟨⟨Tryz.f28,by kernel_rfl,by kernel_rfl,by kernel_rfl⟩,fun ow w vs _ hv=>?_⟩
  simp only [RT,R,eS,eI] at hv
  obtain ⟨_,_,rfl,⟨rfl,_⟩,_,_,rfl,⟨rfl,_⟩,rfl⟩:=hv
  refine (Tryz.strings_Trim_one s x (by exact q.2.1) w q.2.2).mono ?_
  rintro e w' ⟨rfl,hw⟩
  exact ⟨_,rfl,by rcases hw with rfl | rfl <;> first | exact Below.refl _ _ | exact (Below.refl _ _).drew,rfl,rfl⟩
 ·cases h
/- ringhall/ringref3.many -/
def SY:Nat→Int→Int→Option (Int)
 | 0,_,_=>none
 | n+1,a,b =>
 if a≥b then
  some 0
 else
  ((SY n) (wi .i64 ((wi .i64 (2*a))+1)) b).bind fun (c:(Int)) =>
  ((SY n) (wi .i64 ((wi .i64 (2*a))+2)) b).bind fun (d:(Int)) =>
  some (wi .i64 ((wi .i64 (1+c))+d))
theorem ZN:∀ (n:Nat) (a b r:Int) (h:SY n a b=some r),Ret Tryz.prog 61 [(eI .i64) a,(eI .i64) b] ((eI .i64) r)
 | 0,a,b,r,h=>by rw [SY] at h; cases h
 | n+1,a,b,r,h=>by
  refine ret_run (n:=20) (fn:=Tryz.f61) (c:=bodyOf Tryz.f61) (by kernel_rfl) (by kernel_rfl) (by kernel_rfl) (by kernel_rfl) ?_
  have hF:KC 20 (FinR Tryz.prog Tryz.f61 ((eI .i64) r)):=FinR.kc' (by kernel_rfl)
  rw [SY] at h
  by_cases d:a≥b
  ·rw [if_pos d] at h
   obtain rfl:=Option.some.inj h
   exact pend_sound TTok mix 10 (hs:=[.t true]) (by kernel_rfl) (by kernel_rfl) (by kernel_rfl) (.cons (dt d) .nil)
  ·rw [if_neg d] at h
   obtain ⟨e,f,h⟩:=bind_some h
   obtain ⟨g,i,h⟩:=bind_some h
   obtain rfl:=Option.some.inj h
   exact pend_sound TTok mix 10 (hs:=[.t false,.r ((eI .i64) e),.r ((eI .i64) g)]) (by kernel_rfl) (by kernel_rfl) (by kernel_rfl) (.cons (df d) (.cons ((fun x0 x1 r h=>ZN n x0 x1 r h) (wi .i64 ((wi .i64 (2*a))+1)) b _ f) (.cons ((fun x0 x1 r h=>ZN n x0 x1 r h) (wi .i64 ((wi .i64 (2*a))+2)) b _ i) .nil)))
inductive Zj where
 | x0 (a:(List Int))
def Uj:Zj→Ex
 | .x0 _=>.exit 0
def Uk (a b:Int):Zj→PS
 | .x0 c=>⟨(di a::di b::dd::dd::dd::di 0::di 0::.srf 0::(dds 41 [])),[.row 3 1 (c.map (eI .i64))]⟩
def Ul (a b c:Int) (e:(List Int)):PS:=⟨(di a::di b::dd::dd::dd::di 0::di 0::.srf 0::di c::(dds 40 [])),[.row 3 1 (e.map (eI .i64))]⟩
def SS (n:Nat) (c d:Int):Nat→Int→(List Int)→Option Zj
 | 0,_,_=>none
 | k+1,a,b =>
  if a > 0 then
   (app 8 ([a]) b).bind fun (e:(List Int)) =>
   SS n c d k (quoI .i64 (wi .i64 (a-1)) 2) e
  else
   some (.x0 b)
theorem XF {Fi:Ex→PS→Prop} (hF:KC 49 Fi) (ks:List Fr) (n:Nat) (b c:Int)  : ∀ (k:Nat) (a:Int) (d:(List Int)) (o:Zj),SS n b c k a d=some o→RunE Tryz.prog 49 Fi ks (Uj o) (Uk b c o)→RunE Tryz.prog 49 Fi (.l k (cP (cB (cR (cL (cR (cR (cR (bodyOf Tryz.f36))))))))::ks) .normal (Ul b c a d)
 | 0,a,d,o,h,q=>by rw [SS] at h; cases h
 | k+1,a,d,o,h,q=>by
  rw [SS] at h
  by_cases e:a > 0
  ·rw [if_pos e] at h
   obtain ⟨i,g,h⟩:=bind_some h
   exact pkk_sound TTok mix hF 11 (hs:=[.t true,.w ([a].map (eI .i64)),.w (i.map (eI .i64))]) (ts:=[]) (s:=[26]) (l:=[0,1,5,6,7,8]) (by kernel_rfl) (by kernel_rfl) (.cons (dt e) (.cons (Eq.refl ([a].map (eI .i64))) (.cons (app_ob (f:=(eI .i64)) (s:=1) g (fun _=>rfl)).1 (.cons (app_ob (f:=(eI .i64)) (s:=1) g (fun _=>rfl)).2.1 (.cons (app_ob (f:=(eI .i64)) (s:=1) g (fun _=>rfl)).2.2.1 (.cons (app_ob (f:=(eI .i64)) (s:=1) g (fun _=>rfl)).2.2.2 (.cons (show (2:Int)≠0 by decide) .nil))))))) (XF hF ks n b c k (quoI .i64 (wi .i64 (a-1)) 2) i _ h q)
  ·rw [if_neg e] at h
   cases h
   exact pkk_sound TTok mix hF 8 (hs:=[.t false]) (ts:=[]) (s:=[0]) (l:=[0,1,5,6,7]) (by kernel_rfl) (by kernel_rfl) (.cons (df e) .nil) q
inductive Zk where
 | x0 (a:Int)
def Um:Zk→Ex
 | .x0 _=>.exit 2
def Un (a b:Int) (e:(List Int)):Zk→PS
 | .x0 c=>⟨(di a::di b::dd::dd::dd::dd::di c::(dds 42 [])),[]⟩
def Uo (a b:Int) (c:(List Int)) (e f g:Int) (h:(List Int)):PS:=⟨(di a::di b::dd::dd::dd::di e::di f::(dds 14 (.srf 0::di (c.length:Int)::di g::(dds 25 [])))),[.row 3 1 (h.map (eI .i64))]⟩
def SL (n:Nat) (g c:Int) (d:(List Int)):Nat→Int→Int→Int→(List Int)→Option Zk
 | 0,_,_,_,_=>none
 | k+1,h,e,a,b =>
  if a<(d.length:Int) then
   if 0≤a∧(a).toNat<b.length then
    (b[(a).toNat]?).bind fun (f:Int) =>
    if f=(wi .i64 ((wi .i64 (2*h))+2)) then
     (SY n (wi .i64 ((wi .i64 (2*h))+1)) c).bind fun (i:(Int)) =>
     SL n g c d k f (wi .i64 (e+(wi .i64 (1+i)))) (wi .i64 (a+1)) b
    else
     SL n g c d k f e (wi .i64 (a+1)) b
   else none
  else
   some (.x0 e)
theorem YE {Fi:Ex→PS→Prop} (hF:KC 49 Fi) (ks:List Fr) (n:Nat) (i c:Int) (d:(List Int))  : ∀ (k:Nat) (e g a:Int) (b:(List Int)) (o:Zk),SL n i c d k e g a b=some o→RunE Tryz.prog 49 Fi ks (Um o) (Un i c d o)→RunE Tryz.prog 49 Fi (.l k (cP (cB (cR (cL (cR (cR (cR (cR (bodyOf Tryz.f36)))))))))::ks) .normal (Uo i c d e g a b)
 | 0,e,g,a,b,o,h,q=>by rw [SL] at h; cases h
 | k+1,e,g,a,b,o,h,q=>by
  rw [SL] at h
  by_cases j:a<(d.length:Int)
  ·rw [if_pos j] at h
   by_cases p:0≤a∧(a).toNat<b.length
   ·rw [if_pos p] at h
    obtain ⟨m,v,h⟩:=bind_some h
    by_cases u:m=(wi .i64 ((wi .i64 (2*e))+2))
    ·rw [if_pos u] at h
     obtain ⟨w,x,h⟩:=bind_some h
     exact pkk_sound TTok mix hF 18 (hs:=[.t true,.y ((eI .i64) m),.t true,.r ((eI .i64) w)]) (ts:=[]) (s:=[0]) (l:=[0,1,5,6,21,22,23]) (by kernel_rfl) (by kernel_rfl) (.cons (dt j) (.cons (idx_ob (f:=(eI .i64)) p) (.cons (get_ob (f:=(eI .i64)) v) (.cons (bt u) (.cons (ZN n (wi .i64 ((wi .i64 (2*e))+1)) c _ x) .nil))))) (YE hF ks n i c d k m (wi .i64 (g+(wi .i64 (1+w)))) (wi .i64 (a+1)) b _ h q)
    ·rw [if_neg u] at h
     exact pkk_sound TTok mix hF 18 (hs:=[.t true,.y ((eI .i64) m),.t false]) (ts:=[]) (s:=[0]) (l:=[0,1,5,6,21,22,23]) (by kernel_rfl) (by kernel_rfl) (.cons (dt j) (.cons (idx_ob (f:=(eI .i64)) p) (.cons (get_ob (f:=(eI .i64)) v) (.cons (bf u) .nil)))) (YE hF ks n i c d k m g (wi .i64 (a+1)) b _ h q)
   ·rw [if_neg p] at h; cases h
  ·rw [if_neg j] at h
   cases h
   exact pkk_sound TTok mix hF 8 (hs:=[.t false]) (ts:=[]) (s:=[]) (l:=[0,1,6]) (by kernel_rfl) (by kernel_rfl) (.cons (df j) .nil) q
/- ringhall/ringref3.rank -/
def ZO (n:Nat) (a b:Int):Option (Int) :=
 (SS n a b n a ([]:List Int)).bind fun d=>match d with
 | .x0 c =>
  (SL n a b c n 0 0 0 c).bind fun e=>match e with
  | .x0 f =>
   (SY n (wi .i64 ((wi .i64 (2*a))+1)) b).bind fun (g:(Int)) =>
   some (wi .i64 (f+g))
theorem UA (n:Nat) (a e r:Int) (h:ZO n a e=some r):Ret Tryz.prog 36 [(eI .i64) a,(eI .i64) e] ((eI .i64) r):=by
 refine ret_run (n:=49) (fn:=Tryz.f36) (c:=bodyOf Tryz.f36) (by kernel_rfl) (by kernel_rfl) (by kernel_rfl) (by kernel_rfl) ?_
 have hF:KC 49 (FinR Tryz.prog Tryz.f36 ((eI .i64) r)):=FinR.kc' (by kernel_rfl)
 unfold ZO at h
 obtain ⟨i,j,h⟩:=bind_some h
 refine pkk_sound TTok mix hF 11 (hs:=[.n n]) (ts:=[(7,3,1)]) (s:=[30]) (l:=[0,1,5,6,7,8]) (by kernel_rfl) (by kernel_rfl) .nil (XF hF (.b 0::.s (cR (cR (cR (cR (bodyOf Tryz.f36)))))::[]) n a e n a ([]:List Int) _ j ?_)
 cases i with
 | x0 g =>
  try dsimp only at h
  obtain ⟨k,m,h⟩:=bind_some h
  refine pkk_sound TTok mix hF 6 (hs:=[.u (di (g.length:Int)),.n n]) (ts:=[]) (s:=[0]) (l:=[0,1,5,6,21,22,23]) (by kernel_rfl) (by kernel_rfl) (.cons (len_ob (f:=(eI .i64)) (l:=g)) .nil) (YE hF (.b 2::.s (cR (cR (cR (cR (cR (bodyOf Tryz.f36))))))::[]) n a e g n 0 0 0 g _ m ?_)
  cases k with
  | x0 q =>
   try dsimp only at h
   obtain ⟨o,p,h⟩:=bind_some h
   obtain rfl:=Option.some.inj h
   exact pend_sound TTok mix 4 (hs:=[.r ((eI .i64) o)]) (by kernel_rfl) (by kernel_rfl) (by kernel_rfl) (.cons (ZN n (wi .i64 ((wi .i64 (2*a))+1)) e _ p) .nil)
def Zv (n:Nat) (s:ByteArray) (c:Int):Option ByteArray:=if 0≤c∧c≤9223372036854775807∧s.size*c.toNat≤140737488355328 then some ⟨(Lib.repeatL s.data.toList c.toNat).toArray⟩ else none
theorem Uw (n:Nat) (s:ByteArray) (c:Int) (r:ByteArray) (h:Zv n s c=some r):Ret Tryz.prog 37 [eS s,eI .i64 c] (eS r):=by
 unfold Zv at h
 split at h
 ·rename_i q
  obtain ⟨q1,q2,q3⟩:=q
  obtain rfl:=Option.some.inj h
  obtain ⟨c,rfl⟩:=Int.eq_ofNat_of_zero_le q1
  refine ⟨⟨Tryz.f37,by kernel_rfl,by kernel_rfl,by kernel_rfl⟩,fun ow w vs _ hv=>?_⟩
  simp only [RT,R,eS,eI] at hv
  obtain ⟨_,_,rfl,⟨rfl,_⟩,_,_,rfl,⟨rfl,_⟩,rfl⟩:=hv
  refine (Tryz.strings_Repeat s c w (by omega) (by simpa using q3)).mono ?_
  rintro e w' ⟨rfl,hb⟩
  exact ⟨_,rfl,hb,rfl,rfl⟩
 ·cases h
/- ringhall/ringref3.one -/
def XA (n:Nat) (a:Int):Option (ByteArray) :=
 some (b2s ([(wi .u8 a)]))
theorem UI (n:Nat) (a:Int) (r:ByteArray) (h:XA n a=some r):Ret Tryz.prog 38 [(eI .i64) a] (eS r):=by
 refine ret_run (n:=7) (fn:=Tryz.f38) (c:=bodyOf Tryz.f38) (by kernel_rfl) (by kernel_rfl) (by kernel_rfl) (by kernel_rfl) ?_
 have hF:KC 7 (FinR Tryz.prog Tryz.f38 (eS r)):=FinR.kc' (by kernel_rfl)
 unfold XA at h
 obtain rfl:=Option.some.inj h
 exact pend_sound TTok mix 5 (hs:=[.w ([(wi .u8 a)].map (eI .u8)),.e 20 [15] (.d (.v (.string (b2s ([(wi .u8 a)]))))) []]) (by kernel_rfl) (by kernel_rfl) (by kernel_rfl) (.cons (Eq.refl ([(wi .u8 a)].map (eI .u8))) (.cons (xb2sR (l:=15) (L:=[(wi .u8 a)]) (P:=Tryz.prog) (T:=TT) (src:=23) (dst:=9) (e:=5) (s:=1) (x:=(.tmp 5)) (by kernel_rfl) (by kernel_rfl) (by kernel_rfl)) .nil))
inductive Zw where
 | x0 (a:ByteArray)
def Ur:Zw→Ex
 | .x0 _=>.exit 0
def Us (b:(List Ga)):Zw→PS
 | .x0 a=>⟨(dd::dd::dd::.d (.v (.string a))::(dds 37 [])),[]⟩
def Ut (a:(List Ga)) (b:ByteArray) (c:Int) (e:(List Ga)):PS:=⟨(dd::.ref 0 0::dd::.d (.v (.string b))::(dds 9 (di ((sortN Ga.fName a).length:Int)::di c::(dds 26 [])))),[.box [.srf 1],.row 25 2 (e.map Gb)]⟩
def SW (n:Nat) (e:(List Ga)):Nat→ByteArray→Int→(List Ga)→Option Zw
 | 0,_,_,_=>none
 | k+1,f,b,a =>
  if b<((sortN Ga.fName e).length:Int) then
   (ZO n b (a.length:Int)).bind fun (c:(Int)) =>
   if 0≤c∧(c).toNat<a.length then
    (a[(c).toNat]?).bind fun (d:Ga) =>
    (Zv n (ByteArray.mk #[0]) (wi .i64 (14-(d.fName.size:Int)))).bind fun (g:(ByteArray)) =>
    (catS d.fName g).bind fun (h:ByteArray) =>
    (XA n d.fIno).bind fun (i:(ByteArray)) =>
    (catS h i).bind fun (j:ByteArray) =>
    (catS j (ByteArray.mk #[0])).bind fun (l:ByteArray) =>
    (catS f l).bind fun (m:ByteArray) =>
    SW n e k m (wi .i64 (b+1)) a
   else none
  else
   some (.x0 f)
theorem XL {Fi:Ex→PS→Prop} (hF:KC 41 Fi) (ks:List Fr) (n:Nat) (g:(List Ga))  : ∀ (k:Nat) (i:ByteArray) (b:Int) (a:(List Ga)) (o:Zw),SW n g k i b a=some o→RunE Tryz.prog 41 Fi ks (Ur o) (Us g o)→RunE Tryz.prog 41 Fi (.l k (cP (cB (cR (cL (cR (cR (cR (cR (bodyOf Tryz.f13)))))))))::ks) .normal (Ut g i b a)
 | 0,i,b,a,o,h,q=>by rw [SW] at h; cases h
 | k+1,i,b,a,o,h,q=>by
  rw [SW] at h
  by_cases j:b<((sortN Ga.fName g).length:Int)
  ·rw [if_pos j] at h
   obtain ⟨w,a6,h⟩:=bind_some h
   by_cases z:0≤w∧(w).toNat<a.length
   ·rw [if_pos z] at h
    obtain ⟨m,a7,h⟩:=bind_some h
    obtain ⟨a4,a8,h⟩:=bind_some h
    obtain ⟨a0,a9,h⟩:=bind_some h
    obtain ⟨a5,b0,h⟩:=bind_some h
    obtain ⟨a1,b1,h⟩:=bind_some h
    obtain ⟨a2,b2,h⟩:=bind_some h
    obtain ⟨a3,b3,h⟩:=bind_some h
    exact pkk_sound TTok mix hF 15 (hs:=[.t true,.c,.c,.u (di (a.length:Int)),.r ((eI .i64) w),.y (Gb m),.c,.c,.c,.r (eS a4),.e 102 [] (.d (.v (.string a0))) [],.c,.r (eS a5),.e 122 [] (.d (.v (.string a1))) [],.e 127 [] (.d (.v (.string a2))) [],.e 132 [] (.d (.v (.string a3))) []]) (ts:=[]) (s:=[0,1]) (l:=[1,3,13,14]) (by kernel_rfl) (by kernel_rfl) (.cons (dt j) (.cons (len_ob (f:=Gb) (l:=a)) (.cons (UA n b (a.length:Int) _ a6) (.cons (idx_ob (f:=Gb) z) (.cons (get_ob (f:=Gb) a7) (.cons (show 0+2≤2 by decide) (.cons (Uw n (ByteArray.mk #[0]) (wi .i64 (14-(m.fName.size:Int))) _ a8) (.cons (xcatS (P:=Tryz.prog) (T:=TT) (t:=9) (ty':=9) (x:=(.tmp 26)) (y:=(.tmp 31)) (p:=m.fName) (q:=a4) (r:=a0) a9) (.cons (UI n m.fIno _ b0) (.cons (xcatS (P:=Tryz.prog) (T:=TT) (t:=9) (ty':=9) (x:=(.tmp 32)) (y:=(.tmp 35)) (p:=a0) (q:=a5) (r:=a1) b1) (.cons (xcatS (P:=Tryz.prog) (T:=TT) (t:=9) (ty':=9) (x:=(.tmp 36)) (y:=(.const (.string (ByteArray.mk #[0])))) (p:=a1) (q:=(ByteArray.mk #[0])) (r:=a2) b2) (.cons (xcatS (P:=Tryz.prog) (T:=TT) (t:=9) (ty':=9) (x:=(.tmp 24)) (y:=(.tmp 37)) (p:=i) (q:=a2) (r:=a3) b3) .nil)))))))))))) (XL hF ks n g k a3 (wi .i64 (b+1)) a _ h q)
   ·rw [if_neg z] at h; cases h
  ·rw [if_neg j] at h
   cases h
   exact pkk_sound TTok mix hF 8 (hs:=[.t false]) (ts:=[]) (s:=[]) (l:=[3]) (by kernel_rfl) (by kernel_rfl) (.cons (df j) .nil) q
/- ringhall/ringref3.Lay -/
def Zl (n:Nat) (b:(List Ga)):Option (ByteArray) :=
 (app 24 ([]:(List Ga)) b).bind fun (a:(List Ga)) =>
 if a.length<4611686018427387904 then
  (SW n a n (ByteArray.mk #[]) 0 (sortN Ga.fName a)).bind fun c=>match c with
  | .x0 d =>
   some d
 else none
theorem XB (n:Nat) (k:(List Ga)) (r:ByteArray) (h:Zl n k=some r):Ret Tryz.prog 13 [(eL Gb) k] (eS r):=by
 refine ret_run (n:=41) (fn:=Tryz.f13) (c:=bodyOf Tryz.f13) (by kernel_rfl) (by kernel_rfl) (by kernel_rfl) (by kernel_rfl) ?_
 have hF:KC 41 (FinR Tryz.prog Tryz.f13 (eS r)):=FinR.kc' (by kernel_rfl)
 unfold Zl at h
 obtain ⟨a,i,h⟩:=bind_some h
 by_cases j:a.length<4611686018427387904
 ·rw [if_pos j] at h
  obtain ⟨m,o,h⟩:=bind_some h
  refine pkk_sound TTok mix hF 13 (hs:=[.c,.w (a.map Gb),.c,.c,.e 30 [30] (.srf 30) [(30,.cu (ifC 22) [.srf 15])],.e 40 [30,15,0] (.d (.tup [])) [(15,.row 25 2 ((sortN Ga.fName a).map Gb))],.c,.u (di ((sortN Ga.fName a).length:Int)),.n n]) (ts:=[]) (s:=[0,15]) (l:=[1,3,13,14]) (by kernel_rfl) (by kernel_rfl) (.cons (app_ob (f:=Gb) (s:=2) i (fun _=>rfl)).1 (.cons (app_ob (f:=Gb) (s:=2) i (fun _=>rfl)).2.1 (.cons (app_ob (f:=Gb) (s:=2) i (fun _=>rfl)).2.2.1 (.cons (app_ob (f:=Gb) (s:=2) i (fun _=>rfl)).2.2.2 (.cons (show 0+1≤1 by decide) (.cons (ymkS (P:=Tryz.prog) (T:=TT) (t:=22) (l:=15) (nl:=30) (e:=25) (x:=(.tmp 8)) (by kernel_rfl)) (.cons (ssliceN (T:=TT) (x:=(.tmp 9)) (y:=(.tmp 10)) (f:=.func 29) (tys:=#[20,56]) (I:=30) (RB:=15) (LO:=0) (e:=25) (gf:=35) (fn:=Tryz.f35) (nf:=Ga.fName) (mf:=Ga.fIno) (g:=Gb) (xs:=a) (fun _=>rfl) less_A (by decide) (by kernel_rfl) (by kernel_rfl) (by kernel_rfl) j) (.cons (len_ob (f:=Gb) (l:=(sortN Ga.fName a))) .nil)))))))) (XL hF (.b 0::.s (cR (cR (cR (cR (cR (bodyOf Tryz.f13))))))::[]) n a n (ByteArray.mk #[]) 0 (sortN Ga.fName a) _ o ?_)
  cases m with
  | x0 p =>
   try dsimp only at h
   obtain rfl:=Option.some.inj h
   exact pend_sound TTok mix 4 (hs:=[]) (by kernel_rfl) (by kernel_rfl) (by kernel_rfl) .nil
 ·rw [if_neg j] at h; cases h
inductive KQ where
 | x0 (a:Int)
 | x1 (b:(List Ga))
def Ug:KQ→Ex
 | .x0 _=>.ret
 | .x1 _=>.exit 0
def Uh (a:ByteArray):KQ→PS
 | .x0 b=>⟨(dd::dd::.d (vnil)::di b::(dds 60 [])),[]⟩
 | .x1 c=>⟨(.d (.v (.string a))::dd::dd::dd::.ref 0 0::(dds 59 [])),[.box [.srf 1],.row 25 2 (c.map Gb)]⟩
def Ui (a:ByteArray) (b:Int) (c:(List Ga)):PS:=⟨(.d (.v (.string a))::dd::dd::dd::.ref 0 0::di b::(dds 58 [])),[.box [.srf 1],.row 25 2 (c.map Gb)]⟩
def GR (n:Nat) (b:ByteArray):Nat→Int→(List Ga)→Option KQ
 | 0,_,_=>none
 | k+1,a,d =>
  if a<(b.size:Int) then
   (subS b a (wi .i64 (a+14))).bind fun (e:ByteArray) =>
   (Zf n e (ByteArray.mk #[0])).bind fun (c:(ByteArray×ByteArray×Bool)) =>
   if c.2.2=true then
    (XK n c.2.1 (ByteArray.mk #[0])).bind fun (f:(ByteArray)) =>
    if (!(f.toList == (ByteArray.mk #[]).toList))=true then
     some (.x0 3)
    else
     (getS b (wi .i64 (a+14))).bind fun (g:Int) =>
     (app 24 d ([(Ga.mk c.1 (wi .i64 g))])).bind fun (h:(List Ga)) =>
     GR n b k (wi .i64 (a+16)) h
   else
    (getS b (wi .i64 (a+14))).bind fun (i:Int) =>
    (app 24 d ([(Ga.mk c.1 (wi .i64 i))])).bind fun (j:(List Ga)) =>
    GR n b k (wi .i64 (a+16)) j
  else
   some (.x1 d)
theorem ZJ {Fi:Ex→PS→Prop} (hF:KC 64 Fi) (ks:List Fr) (n:Nat) (g:ByteArray)  : ∀ (k:Nat) (a:Int) (y:(List Ga)) (o:KQ),GR n g k a y=some o→RunE Tryz.prog 64 Fi ks (Ug o) (Uh g o)→RunE Tryz.prog 64 Fi (.l k (cP (cB (cR (cL (cR (cR (cR (bodyOf Tryz.f8))))))))::ks) .normal (Ui g a y)
 | 0,a,y,o,h,q=>by rw [GR] at h; cases h
 | k+1,a,y,o,h,q=>by
  rw [GR] at h
  by_cases m:a<(g.size:Int)
  ·rw [if_pos m] at h
   obtain ⟨j,a2,h⟩:=bind_some h
   obtain ⟨b,a3,h⟩:=bind_some h
   by_cases u:b.2.2=true
   ·rw [if_pos u] at h
    obtain ⟨a4,a5,h⟩:=bind_some h
    by_cases z:(!(a4.toList == (ByteArray.mk #[]).toList))=true
    ·rw [if_pos z] at h
     cases h
     exact pkk_sound TTok mix hF 21 (hs:=[.t true,.e 42 [] (.d (.v (.string j))) [],.r (.tup [eS b.1,eS b.2.1,eB b.2.2]),.t true,.c,.r (eS a4),.c,.t true]) (ts:=[]) (s:=[]) (l:=[2,3]) (by kernel_rfl) (by kernel_rfl) (.cons (dt m) (.cons (xsub11 (P:=Tryz.prog) (T:=TT) (t:=9) (x:=(.tmp 25)) (p:=g) (r:=j) (lo:=(.tmp 26)) (hi:=(.tmp 28)) (i:=a) (ka:=.i64) (h:=(wi .i64 (a+14))) (kb:=.i64) (by kernel_rfl) a2) (.cons (XE n j (ByteArray.mk #[0]) _ a3) (.cons u (.cons (Uv n b.2.1 (ByteArray.mk #[0]) _ a5) (.cons z .nil)))))) q
    ·rw [if_neg z] at h
     obtain ⟨a8,a9,h⟩:=bind_some h
     obtain ⟨a6,a0,h⟩:=bind_some h
     exact pkk_sound TTok mix hF 18 (hs:=[.t true,.e 42 [] (.d (.v (.string j))) [],.r (.tup [eS b.1,eS b.2.1,eB b.2.2]),.t true,.c,.r (eS a4),.c,.t false,.c,.l (.d (.v (.int .u8 a8))),.bd,.w (a6.map Gb),.c]) (ts:=[]) (s:=[0,162]) (l:=[0,4,5]) (by kernel_rfl) (by kernel_rfl) (.cons (dt m) (.cons (xsub11 (P:=Tryz.prog) (T:=TT) (t:=9) (x:=(.tmp 25)) (p:=g) (r:=j) (lo:=(.tmp 26)) (hi:=(.tmp 28)) (i:=a) (ka:=.i64) (h:=(wi .i64 (a+14))) (kb:=.i64) (by kernel_rfl) a2) (.cons (XE n j (ByteArray.mk #[0]) _ a3) (.cons u (.cons (Uv n b.2.1 (ByteArray.mk #[0]) _ a5) (.cons (vf z) (.cons (getS_ob a9) (.cons (app_ob (f:=Gb) (s:=2) a0 (fun _=>rfl)).1 (.cons (app_ob (f:=Gb) (s:=2) a0 (fun _=>rfl)).2.1 (.cons (app_ob (f:=Gb) (s:=2) a0 (fun _=>rfl)).2.2.1 (.cons (app_ob (f:=Gb) (s:=2) a0 (fun _=>rfl)).2.2.2 (.cons (show 0+1≤1 by decide) .nil)))))))))))) (ZJ hF ks n g k (wi .i64 (a+16)) a6 _ h q)
   ·rw [if_neg u] at h
    obtain ⟨b0,b1,h⟩:=bind_some h
    obtain ⟨a7,a1,h⟩:=bind_some h
    exact pkk_sound TTok mix hF 18 (hs:=[.t true,.e 42 [] (.d (.v (.string j))) [],.r (.tup [eS b.1,eS b.2.1,eB b.2.2]),.t false,.c,.c,.c,.c,.l (.d (.v (.int .u8 b0))),.bd,.w (a7.map Gb),.c]) (ts:=[]) (s:=[0,162]) (l:=[0,4,5]) (by kernel_rfl) (by kernel_rfl) (.cons (dt m) (.cons (xsub11 (P:=Tryz.prog) (T:=TT) (t:=9) (x:=(.tmp 25)) (p:=g) (r:=j) (lo:=(.tmp 26)) (hi:=(.tmp 28)) (i:=a) (ka:=.i64) (h:=(wi .i64 (a+14))) (kb:=.i64) (by kernel_rfl) a2) (.cons (XE n j (ByteArray.mk #[0]) _ a3) (.cons (vf u) (.cons (getS_ob b1) (.cons (app_ob (f:=Gb) (s:=2) a1 (fun _=>rfl)).1 (.cons (app_ob (f:=Gb) (s:=2) a1 (fun _=>rfl)).2.1 (.cons (app_ob (f:=Gb) (s:=2) a1 (fun _=>rfl)).2.2.1 (.cons (app_ob (f:=Gb) (s:=2) a1 (fun _=>rfl)).2.2.2 (.cons (show 0+1≤1 by decide) .nil)))))))))) (ZJ hF ks n g k (wi .i64 (a+16)) a7 _ h q)
  ·rw [if_neg m] at h
   cases h
   exact pkk_sound TTok mix hF 8 (hs:=[.t false]) (ts:=[]) (s:=[0,1]) (l:=[0,4]) (by kernel_rfl) (by kernel_rfl) (.cons (df m) .nil) q
/- ringhall/ringref3.Listed -/
def SX (n:Nat) (a:ByteArray):Option ((List Ga)×Int) :=
 if (remI (a.size:Int) 16)=0 then
  if (a.size:Int) > 512 then
   some (([]:(List Ga)),3)
  else
   (GR n a n 0 ([]:List Ga)).bind fun c=>match c with
   | .x0 d =>
    some (([]:(List Ga)),d)
   | .x1 b =>
    (ST n b).bind fun (e:(Int)) =>
    if e=0 then
     (Zl n b).bind fun (f:(ByteArray)) =>
     if (!(f.toList == a.toList))=true then
      some (([]:(List Ga)),3)
     else
      if b.length<4611686018427387904 then
       some ((sortN Ga.fName b),0)
      else none
    else
     some (([]:(List Ga)),3)
 else
  some (([]:(List Ga)),3)
theorem Uu (n:Nat) (i:ByteArray) (r:(List Ga)×Int) (h:SX n i=some r):Ret Tryz.prog 8 [eS i] (.tup [(eL Gb) r.1,(eI .i64) r.2]):=by
 refine ret_run (n:=64) (fn:=Tryz.f8) (c:=bodyOf Tryz.f8) (by kernel_rfl) (by kernel_rfl) (by kernel_rfl) (by kernel_rfl) ?_
 have hF:KC 64 (FinR Tryz.prog Tryz.f8 (.tup [(eL Gb) r.1,(eI .i64) r.2])):=FinR.kc' (by kernel_rfl)
 unfold SX at h
 by_cases j:(remI (i.size:Int) 16)=0
 ·rw [if_pos j] at h
  by_cases m:(i.size:Int) > 512
  ·rw [if_pos m] at h
   obtain rfl:=Option.some.inj h
   exact pend_sound TTok mix 10 (hs:=[.t false,.c,.c,.t true]) (by kernel_rfl) (by kernel_rfl) (by kernel_rfl) (.cons (show (16:Int)≠0 by decide) (.cons (nf j) (.cons (dt m) .nil)))
  ·rw [if_neg m] at h
   obtain ⟨z,a0,h⟩:=bind_some h
   refine pkk_sound TTok mix hF 15 (hs:=[.t false,.c,.c,.t false,.dl 7,.tb 55 0 25 2,.n n]) (ts:=[]) (s:=[55,65]) (l:=[0,4,5]) (by kernel_rfl) (by kernel_rfl) (.cons (show (16:Int)≠0 by decide) (.cons (nf j) (.cons (df m) .nil))) (ZJ hF (.b 0::.s (cR (cR (cR (cR (bodyOf Tryz.f8)))))::[]) n i n 0 ([]:List Ga) _ a0 ?_)
   cases z with
   | x0 a1 =>
    try dsimp only at h
    obtain rfl:=Option.some.inj h
    exact pend_sound TTok mix 2 (hs:=[]) (by kernel_rfl) (by kernel_rfl) (by kernel_rfl) .nil
   | x1 a =>
    try dsimp only at h
    obtain ⟨o,q,h⟩:=bind_some h
    by_cases k:o=0
    ·rw [if_pos k] at h
     obtain ⟨u,w,h⟩:=bind_some h
     by_cases p:(!(u.toList == i.toList))=true
     ·rw [if_pos p] at h
      obtain rfl:=Option.some.inj h
      exact pend_sound TTok mix 9 (hs:=[.c,.c,.r ((eI .i64) o),.t false,.c,.c,.c,.r (eS u),.c,.c,.t true]) (by kernel_rfl) (by kernel_rfl) (by kernel_rfl) (.cons (Kn n a _ q) (.cons (nf k) (.cons (XB n a _ w) (.cons p .nil))))
     ·rw [if_neg p] at h
      by_cases v:a.length<4611686018427387904
      ·rw [if_pos v] at h
       obtain rfl:=Option.some.inj h
       exact pend_sound TTok mix 11 (hs:=[.c,.c,.r ((eI .i64) o),.t false,.c,.c,.c,.r (eS u),.c,.c,.t false,.c,.e 52 [52] (.srf 52) [(52,.cu (ifC 22) [.srf 1])],.e 62 [52,1,0] (.d (.tup [])) [(1,.row 25 2 ((sortN Ga.fName a).map Gb))],.c]) (by kernel_rfl) (by kernel_rfl) (by kernel_rfl) (.cons (Kn n a _ q) (.cons (nf k) (.cons (XB n a _ w) (.cons (vf p) (.cons (ymkS (P:=Tryz.prog) (T:=TT) (t:=22) (l:=1) (nl:=52) (e:=25) (x:=(.tmp 59)) (by kernel_rfl)) (.cons (ssliceN (T:=TT) (x:=(.tmp 60)) (y:=(.tmp 61)) (f:=.func 29) (tys:=#[20,56]) (I:=52) (RB:=1) (LO:=0) (e:=25) (gf:=30) (fn:=Tryz.f30) (nf:=Ga.fName) (mf:=Ga.fIno) (g:=Gb) (xs:=a) (fun _=>rfl) less_B (by decide) (by kernel_rfl) (by kernel_rfl) (by kernel_rfl) v) .nil))))))
      ·rw [if_neg v] at h; cases h
    ·rw [if_neg k] at h
     obtain rfl:=Option.some.inj h
     exact pend_sound TTok mix 9 (hs:=[.c,.c,.r ((eI .i64) o),.t true,.c,.c,.c,.c]) (by kernel_rfl) (by kernel_rfl) (by kernel_rfl) (.cons (Kn n a _ q) (.cons (nt k) .nil))
 ·rw [if_neg j] at h
  obtain rfl:=Option.some.inj h
  exact pend_sound TTok mix 10 (hs:=[.t true,.c,.c,.c]) (by kernel_rfl) (by kernel_rfl) (by kernel_rfl) (.cons (show (16:Int)≠0 by decide) (.cons (nt j) .nil))
inductive SC where
 | x0 (a:Bool)
 | x1 
def Xi:SC→Ex
 | .x0 _=>.ret
 | .x1  => .exit 0
def Xj (b c:(List Ga)):SC→PS
 | .x0 a=>⟨(dd::dd::dd::dd::.d (.v (.bool a))::(dds 21 [])),[]⟩
 | .x1  => ⟨(dds 26 []),[]⟩
def Xk (a b:(List Ga)) (c:Int):PS:=⟨(.d (.sl (a.map Gb))::.d (.sl (b.map Gb))::(dds 10 (di (a.length:Int)::di c::(dds 12 [])))),[]⟩
def Gt (n:Nat) (b c:(List Ga)):Nat→Int→Option SC
 | 0,_=>none
 | k+1,a =>
  if a<(b.length:Int) then
   (getI b a).bind fun (d:Ga) =>
   (getI c a).bind fun (e:Ga) =>
   if (eqRes .neq (Ke d e))=true then
    some (.x0 false)
   else
    Gt n b c k (wi .i64 (a+1))
  else
   some (.x1 )
theorem KE {Fi:Ex→PS→Prop} (hF:KC 26 Fi) (ks:List Fr) (n:Nat) (d g:(List Ga))  : ∀ (k:Nat) (c:Int) (o:SC),Gt n d g k c=some o→RunE Tryz.prog 26 Fi ks (Xi o) (Xj d g o)→RunE Tryz.prog 26 Fi (.l k (cP (cB (cR (cL (cR (cR (bodyOf Tryz.f12)))))))::ks) .normal (Xk d g c)
 | 0,c,o,h,q=>by rw [Gt] at h; cases h
 | k+1,c,o,h,q=>by
  rw [Gt] at h
  by_cases e:c<(d.length:Int)
  ·rw [if_pos e] at h
   obtain ⟨a,j,h⟩:=bind_some h
   obtain ⟨b,m,h⟩:=bind_some h
   by_cases i:(eqRes .neq (Ke a b))=true
   ·rw [if_pos i] at h
    cases h
    exact pkk_sound TTok mix hF 19 (hs:=[.t true,.y (Gb a),.y (Gb b),.q (Ke a b),.t true]) (ts:=[]) (s:=[]) (l:=[4]) (by kernel_rfl) (by kernel_rfl) (.cons (dt e) (.cons (getI_ob (f:=Gb) j) (.cons (getI_ob (f:=Gb) m) (.cons (XY a b) (.cons i .nil))))) q
   ·rw [if_neg i] at h
    exact pkk_sound TTok mix hF 16 (hs:=[.t true,.y (Gb a),.y (Gb b),.q (Ke a b),.t false]) (ts:=[]) (s:=[]) (l:=[0,1,12,13]) (by kernel_rfl) (by kernel_rfl) (.cons (dt e) (.cons (getI_ob (f:=Gb) j) (.cons (getI_ob (f:=Gb) m) (.cons (XY a b) (.cons (vf i) .nil))))) (KE hF ks n d g k (wi .i64 (c+1)) _ h q)
  ·rw [if_neg e] at h
   cases h
   exact pkk_sound TTok mix hF 8 (hs:=[.t false]) (ts:=[]) (s:=[]) (l:=[]) (by kernel_rfl) (by kernel_rfl) (.cons (df e) .nil) q
/- slices.Equal[[]ringhall/api.Entry,ringhall/api.Entry] -/
def Sx (n:Nat) (a b:(List Ga)):Option (Bool) :=
 if (a.length:Int)=(b.length:Int) then
  (Gt n a b n 0).bind fun c=>match c with
  | .x0 d =>
   some d
  | .x1  =>
   some true
 else
  some false
theorem Xv (n:Nat) (a e:(List Ga)) (r:Bool) (h:Sx n a e=some r):Ret Tryz.prog 12 [(eL Gb) a,(eL Gb) e] (eB r):=by
 refine ret_run (n:=26) (fn:=Tryz.f12) (c:=bodyOf Tryz.f12) (by kernel_rfl) (by kernel_rfl) (by kernel_rfl) (by kernel_rfl) ?_
 have hF:KC 26 (FinR Tryz.prog Tryz.f12 (eB r)):=FinR.kc' (by kernel_rfl)
 unfold Sx at h
 by_cases g:(a.length:Int)=(e.length:Int)
 ·rw [if_pos g] at h
  obtain ⟨i,j,h⟩:=bind_some h
  refine pkk_sound TTok mix hF 12 (hs:=[.u (di (a.length:Int)),.u (di (e.length:Int)),.t false,.u (di (a.length:Int)),.n n]) (ts:=[]) (s:=[]) (l:=[0,1,12,13]) (by kernel_rfl) (by kernel_rfl) (.cons (len_ob (f:=Gb) (l:=a)) (.cons (len_ob (f:=Gb) (l:=e)) (.cons (nf g) (.cons (len_ob (f:=Gb) (l:=a)) .nil)))) (KE hF (.b 0::.s (cR (cR (cR (bodyOf Tryz.f12))))::[]) n a e n 0 _ j ?_)
  cases i with
  | x0 k =>
   try dsimp only at h
   obtain rfl:=Option.some.inj h
   exact pend_sound TTok mix 2 (hs:=[]) (by kernel_rfl) (by kernel_rfl) (by kernel_rfl) .nil
  | x1  =>
   try dsimp only at h
   obtain rfl:=Option.some.inj h
   exact pend_sound TTok mix 4 (hs:=[]) (by kernel_rfl) (by kernel_rfl) (by kernel_rfl) .nil
 ·rw [if_neg g] at h
  obtain rfl:=Option.some.inj h
  exact pend_sound TTok mix 10 (hs:=[.u (di (a.length:Int)),.u (di (e.length:Int)),.t true]) (by kernel_rfl) (by kernel_rfl) (by kernel_rfl) (.cons (len_ob (f:=Gb) (l:=a)) (.cons (len_ob (f:=Gb) (l:=e)) (.cons (nt g) .nil)))
inductive KI where
 | x0 (a:Bool)
def X0:KI→Ex
 | .x0 _=>.normal
def X1 (a:(List Ga)) (b:(List Int)) (c:ByteArray):KI→PS
 | .x0 e=>⟨(.d (.sl (a.map Gb))::.d (.sl (b.map (eI .u8)))::.d (.v (.string c))::(dds 25 (.d (.v (.bool e))::(dds 66 [])))),[]⟩
def X2 (a:(List Ga)) (b:(List Int)) (c:ByteArray)  : PS:=⟨(.d (.sl (a.map Gb))::.d (.sl (b.map (eI .u8)))::.d (.v (.string c))::(dds 92 [])),[]⟩
def Zd (n:Nat) (a:(List Ga)) (b:(List Int)) (c:ByteArray):Option KI :=
 if (a.length:Int) > 40 then
  some (.x0 true)
 else
  if (b.length:Int) > 600 then
   some (.x0 true)
  else
   some (.x0 (decide ((c.size:Int) > 50)))
theorem X3 {Fi:Ex→PS→Prop} (hF:KC 95 Fi) (ks:List Fr) (n:Nat) (a:(List Ga)) (b:(List Int)) (i:ByteArray)  (o:KI) (h:Zd n a b i=some o) (q:RunE Tryz.prog 95 Fi ks (X0 o) (X1 a b i o)):RunE Tryz.prog 95 Fi (.s (cL (cL (cR (bodyOf Tryz.f3))))::ks) .normal (X2 a b i):=by
 unfold Zd at h
 by_cases e:(a.length:Int) > 40
 ·rw [if_pos e] at h
  cases h
  exact pkk_sound TTok mix hF 1 (hs:=[.u (di (a.length:Int)),.t true,.c,.c,.c,.c,.c]) (ts:=[]) (s:=[]) (l:=[0,1,2,28]) (by kernel_rfl) (by kernel_rfl) (.cons (len_ob (f:=Gb) (l:=a)) (.cons (dt e) .nil)) q
 ·rw [if_neg e] at h
  by_cases g:(b.length:Int) > 600
  ·rw [if_pos g] at h
   cases h
   exact pkk_sound TTok mix hF 1 (hs:=[.u (di (a.length:Int)),.t false,.c,.u (di (b.length:Int)),.c,.t true,.c,.c]) (ts:=[]) (s:=[]) (l:=[0,1,2,28]) (by kernel_rfl) (by kernel_rfl) (.cons (len_ob (f:=Gb) (l:=a)) (.cons (df e) (.cons (len_ob (f:=(eI .u8)) (l:=b)) (.cons (dt g) .nil)))) q
  ·rw [if_neg g] at h
   cases h
   exact pkk_sound TTok mix hF 1 (hs:=[.u (di (a.length:Int)),.t false,.c,.u (di (b.length:Int)),.c,.t false,.c,.c]) (ts:=[]) (s:=[]) (l:=[0,1,2,28]) (by kernel_rfl) (by kernel_rfl) (.cons (len_ob (f:=Gb) (l:=a)) (.cons (df e) (.cons (len_ob (f:=(eI .u8)) (l:=b)) (.cons (df g) .nil)))) q
inductive KJ where
 | x0 (a:Bool)
 | x1 
def X4:KJ→Ex
 | .x0 _=>.ret
 | .x1  => .exit 0
def X5 (a:(List Ga)) (b:(List Int)) (c:ByteArray):KJ→PS
 | .x0 e=>⟨(dd::dd::dd::dd::dd::dd::.d (.v (.bool e))::(dds 88 [])),[]⟩
 | .x1  => ⟨(.d (.sl (a.map Gb))::.d (.sl (b.map (eI .u8)))::.d (.v (.string c))::(dds 92 [])),[]⟩
def X6 (a:(List Ga)) (b:(List Int)) (c:ByteArray) (e:Int):PS:=⟨(.d (.sl (a.map Gb))::.d (.sl (b.map (eI .u8)))::.d (.v (.string c))::(dds 26 (.d (.sl (a.map Gb))::di (a.length:Int)::di e::(dds 63 [])))),[]⟩
def G9 (n:Nat) (a:(List Ga)) (c:(List Int)) (d:ByteArray):Nat→Int→Option KJ
 | 0,_=>none
 | k+1,b =>
  if b<(a.length:Int) then
   (getI a b).bind fun (e:Ga) =>
   if (e.fName.size:Int) > 50 then
    some (.x0 true)
   else
    G9 n a c d k (wi .i64 (b+1))
  else
   some (.x1 )
theorem Xx {Fi:Ex→PS→Prop} (hF:KC 95 Fi) (ks:List Fr) (n:Nat) (b:(List Ga)) (e:(List Int)) (g:ByteArray)  : ∀ (k:Nat) (a:Int) (o:KJ),G9 n b e g k a=some o→RunE Tryz.prog 95 Fi ks (X4 o) (X5 b e g o)→RunE Tryz.prog 95 Fi (.l k (cP (cB (cR (cL (cR (cR (bodyOf Tryz.f3)))))))::ks) .normal (X6 b e g a)
 | 0,a,o,h,q=>by rw [G9] at h; cases h
 | k+1,a,o,h,q=>by
  rw [G9] at h
  by_cases d:a<(b.length:Int)
  ·rw [if_pos d] at h
   obtain ⟨j,m,h⟩:=bind_some h
   by_cases i:(j.fName.size:Int) > 50
   ·rw [if_pos i] at h
    cases h
    exact pkk_sound TTok mix hF 19 (hs:=[.t true,.y (Gb j),.c,.c,.t true]) (ts:=[]) (s:=[]) (l:=[6]) (by kernel_rfl) (by kernel_rfl) (.cons (dt d) (.cons (getI_ob (f:=Gb) m) (.cons (show 0+2≤2 by decide) (.cons (dt i) .nil)))) q
   ·rw [if_neg i] at h
    exact pkk_sound TTok mix hF 16 (hs:=[.t true,.y (Gb j),.c,.c,.t false]) (ts:=[]) (s:=[]) (l:=[0,1,2,29,30,31]) (by kernel_rfl) (by kernel_rfl) (.cons (dt d) (.cons (getI_ob (f:=Gb) m) (.cons (show 0+2≤2 by decide) (.cons (df i) .nil)))) (Xx hF ks n b e g k (wi .i64 (a+1)) _ h q)
  ·rw [if_neg d] at h
   cases h
   exact pkk_sound TTok mix hF 8 (hs:=[.t false]) (ts:=[]) (s:=[]) (l:=[0,1,2]) (by kernel_rfl) (by kernel_rfl) (.cons (df d) .nil) q
inductive KK where
 | x0 (a:Bool)
def X7:KK→Ex
 | .x0 _=>.normal
def X8 (a:(List Ga)) (f:ByteArray) (b:(Int)) (c:((List Int)×Int)) (g h:((List Ga)×Int)):KK→PS
 | .x0 e=>⟨(.d (.sl (a.map Gb))::(dds 8 (di b::.d (.sl (c.1.map (eI .u8)))::(dds 73 (.d (.v (.bool e))::(dds 10 [])))))),[]⟩
def X9 (e:(List Ga)) (f:ByteArray) (g:(Int)) (a:((List Int)×Int)) (b c:((List Ga)×Int))  : PS:=⟨(.d (.sl (e.map Gb))::dd::.d (.v (.string f))::dd::dd::dd::dd::dd::dd::di g::.d (.sl (a.1.map (eI .u8)))::di a.2::.d (.sl (b.1.map Gb))::di b.2::.d (.sl (c.1.map Gb))::di c.2::(dds 79 [])),[]⟩
def KA (n:Nat) (e:(List Ga)) (a:ByteArray) (b:(Int)) (f:((List Int)×Int)) (c d:((List Ga)×Int)):Option KK :=
 (Xp n e).bind fun (g:(Int)) =>
 if g=b then
  (Xy n a).bind fun (h:(Bool)) =>
  (KG n a).bind fun (i:(Bool)) =>
  if (eqRes .neq (h == i))=true then
   some (.x0 true)
  else
   if f.2=b then
    if c.2=d.2 then
     (Sx n c.1 d.1).bind fun (j:(Bool)) =>
     some (.x0 (!j))
    else
     some (.x0 true)
   else
    some (.x0 true)
 else
  some (.x0 true)
theorem Ua {Fi:Ex→PS→Prop} (hF:KC 95 Fi) (ks:List Fr) (n:Nat) (b:(List Ga)) (a:ByteArray) (g:(Int)) (v:((List Int)×Int)) (i j:((List Ga)×Int))  (o:KK) (h:KA n b a g v i j=some o) (q:RunE Tryz.prog 95 Fi ks (X7 o) (X8 b a g v i j o)):RunE Tryz.prog 95 Fi (.s (cL (cL (cR (cR (cR (cR (cR (cR (cR (bodyOf Tryz.f3))))))))))::ks) .normal (X9 b a g v i j):=by
 unfold KA at h
 obtain ⟨e,k,h⟩:=bind_some h
 by_cases d:e=g
 ·rw [if_pos d] at h
  obtain ⟨m,w,h⟩:=bind_some h
  obtain ⟨p,x,h⟩:=bind_some h
  by_cases f:(eqRes .neq (m == p))=true
  ·rw [if_pos f] at h
   cases h
   exact pkk_sound TTok mix hF 1 (hs:=[.r ((eI .i64) e),.t false,.c,.r (eB m),.c,.c,.r (eB p),.c,.t true,.c,.c,.c,.c,.c,.c,.c,.c,.c]) (ts:=[]) (s:=[]) (l:=[0,9,10,84]) (by kernel_rfl) (by kernel_rfl) (.cons (KN n b _ k) (.cons (nf d) (.cons (Ze n a _ w) (.cons (SI n a _ x) (.cons f .nil))))) q
  ·rw [if_neg f] at h
   by_cases u:v.2=g
   ·rw [if_pos u] at h
    by_cases y:i.2=j.2
    ·rw [if_pos y] at h
     obtain ⟨z,a0,h⟩:=bind_some h
     cases h
     exact pkk_sound TTok mix hF 1 (hs:=[.r ((eI .i64) e),.t false,.c,.r (eB m),.c,.c,.r (eB p),.c,.t false,.c,.c,.t false,.c,.c,.t false,.c,.c,.r (eB z),.c]) (ts:=[]) (s:=[]) (l:=[0,9,10,84]) (by kernel_rfl) (by kernel_rfl) (.cons (KN n b _ k) (.cons (nf d) (.cons (Ze n a _ w) (.cons (SI n a _ x) (.cons (vf f) (.cons (nf u) (.cons (nf y) (.cons (Xv n i.1 j.1 _ a0) .nil)))))))) q
    ·rw [if_neg y] at h
     cases h
     exact pkk_sound TTok mix hF 1 (hs:=[.r ((eI .i64) e),.t false,.c,.r (eB m),.c,.c,.r (eB p),.c,.t false,.c,.c,.t false,.c,.c,.t true,.c,.c,.c]) (ts:=[]) (s:=[]) (l:=[0,9,10,84]) (by kernel_rfl) (by kernel_rfl) (.cons (KN n b _ k) (.cons (nf d) (.cons (Ze n a _ w) (.cons (SI n a _ x) (.cons (vf f) (.cons (nf u) (.cons (nt y) .nil))))))) q
   ·rw [if_neg u] at h
    cases h
    exact pkk_sound TTok mix hF 1 (hs:=[.r ((eI .i64) e),.t false,.c,.r (eB m),.c,.c,.r (eB p),.c,.t false,.c,.c,.t true,.c,.c,.c,.c,.c,.c]) (ts:=[]) (s:=[]) (l:=[0,9,10,84]) (by kernel_rfl) (by kernel_rfl) (.cons (KN n b _ k) (.cons (nf d) (.cons (Ze n a _ w) (.cons (SI n a _ x) (.cons (vf f) (.cons (nt u) .nil)))))) q
 ·rw [if_neg d] at h
  cases h
  exact pkk_sound TTok mix hF 1 (hs:=[.r ((eI .i64) e),.t true,.c,.c,.c,.c,.c,.c,.c,.c,.c,.c,.c,.c,.c,.c]) (ts:=[]) (s:=[]) (l:=[0,9,10,84]) (by kernel_rfl) (by kernel_rfl) (.cons (KN n b _ k) (.cons (nt d) .nil)) q
/- ringhall/ringlaw3.DirLays -/
def Zb (n:Nat) (a:(List Ga)) (b:(List Int)) (c:ByteArray):Option (Bool) :=
 (Zd n a b c).bind fun f=>match f with
 | .x0 g =>
  if g=true then
   some true
  else
   (G9 n a b c n 0).bind fun h=>match h with
   | .x0 i =>
    some i
   | .x1  =>
    (ST n a).bind fun (e:(Int)) =>
    (Za n a).bind fun (d:((List Int)×Int)) =>
    (ZM n b).bind fun (j:((List Ga)×Int)) =>
    (SX n (b2s b)).bind fun (k:((List Ga)×Int)) =>
    (KA n a c e d j k).bind fun l=>match l with
    | .x0 m =>
     if m=true then
      some false
     else
      if e=0 then
       (Zl n a).bind fun (o:(ByteArray)) =>
       some ((b2s d.1).toList == o.toList)
      else
       some ((d.1.length:Int) == 0)
theorem Up (n:Nat) (a:(List Ga)) (g:(List Int)) (j:ByteArray) (r:Bool) (h:Zb n a g j=some r):Ret Tryz.prog 3 [(eL Gb) a,(eL (eI .u8)) g,eS j] (eB r):=by
 refine ret_run (n:=95) (fn:=Tryz.f3) (c:=bodyOf Tryz.f3) (by kernel_rfl) (by kernel_rfl) (by kernel_rfl) (by kernel_rfl) ?_
 have hF:KC 95 (FinR Tryz.prog Tryz.f3 (eB r)):=FinR.kc' (by kernel_rfl)
 unfold Zb at h
 obtain ⟨y,z,h⟩:=bind_some h
 refine pkk_sound TTok mix hF 4 (hs:=[]) (ts:=[]) (s:=[]) (l:=[0,1,2]) (by kernel_rfl) (by kernel_rfl) .nil (X3 hF (.s (cR (cL (cR (bodyOf Tryz.f3))))::.s (cR (cR (bodyOf Tryz.f3)))::[]) n a g j _ z ?_)
 cases y with
 | x0 a0 =>
  try dsimp only at h
  by_cases m:a0=true
  ·rw [if_pos m] at h
   obtain rfl:=Option.some.inj h
   exact pend_sound TTok mix 5 (hs:=[.t true]) (by kernel_rfl) (by kernel_rfl) (by kernel_rfl) (.cons m .nil)
  ·rw [if_neg m] at h
   obtain ⟨a1,a2,h⟩:=bind_some h
   refine pkk_sound TTok mix hF 7 (hs:=[.t false,.u (di (a.length:Int)),.n n]) (ts:=[]) (s:=[]) (l:=[0,1,2,29,30,31]) (by kernel_rfl) (by kernel_rfl) (.cons (vf m) (.cons (len_ob (f:=Gb) (l:=a)) .nil)) (Xx hF (.b 0::.s (cR (cR (cR (bodyOf Tryz.f3))))::[]) n a g j n 0 _ a2 ?_)
   cases a1 with
   | x0 b2 =>
    try dsimp only at h
    obtain rfl:=Option.some.inj h
    exact pend_sound TTok mix 2 (hs:=[]) (by kernel_rfl) (by kernel_rfl) (by kernel_rfl) .nil
   | x1  =>
    try dsimp only at h
    obtain ⟨p,a3,h⟩:=bind_some h
    obtain ⟨i,a4,h⟩:=bind_some h
    obtain ⟨q,a5,h⟩:=bind_some h
    obtain ⟨w,a6,h⟩:=bind_some h
    obtain ⟨a7,a8,h⟩:=bind_some h
    refine pkk_sound TTok mix hF 11 (hs:=[.r ((eI .i64) p),.r (.tup [(eL (eI .u8)) i.1,(eI .i64) i.2]),.r (.tup [(eL Gb) q.1,(eI .i64) q.2]),.e 90 [] (.d (.v (.string (b2s g)))) [],.r (.tup [(eL Gb) w.1,(eI .i64) w.2])]) (ts:=[]) (s:=[]) (l:=[0,2,9,10,11,12,13,14,15]) (by kernel_rfl) (by kernel_rfl) (.cons (Kn n a _ a3) (.cons (XG n a _ a4) (.cons (UO n g _ a5) (.cons (xb2sD (L:=g) (P:=Tryz.prog) (T:=TT) (src:=23) (dst:=9) (e:=5) (s:=1) (x:=(.tmp 53)) (by kernel_rfl) (by kernel_rfl) (by kernel_rfl)) (.cons (Uu n (b2s g) _ a6) .nil))))) (Ua hF (.s (cR (cL (cR (cR (cR (cR (cR (cR (cR (bodyOf Tryz.f3))))))))))::.s (cR (cR (cR (cR (cR (cR (cR (cR (bodyOf Tryz.f3)))))))))::[]) n a j p i q w _ a8 ?_)
    cases a7 with
    | x0 a9 =>
     try dsimp only at h
     by_cases k:a9=true
     ·rw [if_pos k] at h
      obtain rfl:=Option.some.inj h
      exact pend_sound TTok mix 5 (hs:=[.t true]) (by kernel_rfl) (by kernel_rfl) (by kernel_rfl) (.cons k .nil)
     ·rw [if_neg k] at h
      by_cases o:p=0
      ·rw [if_pos o] at h
       obtain ⟨b0,b1,h⟩:=bind_some h
       obtain rfl:=Option.some.inj h
       exact pend_sound TTok mix 10 (hs:=[.t false,.t false,.e 15 [] (.d (.v (.string (b2s i.1)))) [],.r (eS b0)]) (by kernel_rfl) (by kernel_rfl) (by kernel_rfl) (.cons (vf k) (.cons (nf o) (.cons (xb2sD (L:=i.1) (P:=Tryz.prog) (T:=TT) (src:=23) (dst:=9) (e:=5) (s:=1) (x:=(.tmp 90)) (by kernel_rfl) (by kernel_rfl) (by kernel_rfl)) (.cons (XB n a _ b1) .nil))))
      ·rw [if_neg o] at h
       obtain rfl:=Option.some.inj h
       exact pend_sound TTok mix 10 (hs:=[.t false,.t true,.u (di (i.1.length:Int))]) (by kernel_rfl) (by kernel_rfl) (by kernel_rfl) (.cons (vf k) (.cons (nt o) (.cons (len_ob (f:=(eI .u8)) (l:=i.1)) .nil)))
def XU (x:Ga):Prop:=(fun a=>ByteArray.size a≤140737488351232) x.fName∧(fun a=>(Lit.int .i64 a).wf=true) x.fIno∧True
theorem UP:Br (.pair .str (.pair (.int .i64) .unit)) (fun x:Ga=>[.v (.string x.fName),.v (.int .i64 x.fIno)]) XU:=br_map (br_pair br_str (br_pair (br_int .i64) br_unit)) (fun p=>Ga.mk p.1 p.2.1) (fun p h=>⟨rfl,h⟩)
theorem DirLays_walk (H:∀ (a0:(List Ga)) (a1:(List Int)) (a2:ByteArray),(okL 24 XU) a0→(okL 1 (fun a=>(Lit.int .u8 a).wf=true)) a1→(fun a=>ByteArray.size a≤140737488351232) a2→∃ n,Zb n a0 a1 a2=some true) (w:World) (v0 v1 v2:Value) (b:rep.Arg w (.slice 24 (.pair .str (.pair (.int .i64) .unit))) v0) (c:rep.Arg w (.slice 1 (.int .u8)) v1) (d:rep.Arg w .str v2):Calls Tryz.prog 3 #[v0,v1,v2] w (help.Ret (.bool true) w):=by
 obtain ⟨a0,o0,r0⟩:=arg_one (br_slice (f:=Gb) (ok:=XU) UP (fun _=>rfl) (by decide)) (by rfl) b
 obtain ⟨a1,o1,r1⟩:=arg_one (br_slice (f:=(eI .u8)) (ok:=(fun a=>(Lit.int .u8 a).wf=true)) (br_int .u8) (fun _=>rfl) (by decide)) (by rfl) c
 obtain ⟨a2,o2,r2⟩:=arg_one br_str (by rfl) d
 obtain ⟨n,hn⟩:=H a0 a1 a2 o0 o1 o2
 exact walk_of (Up n a0 a1 a2 true hn) (RT_cons r0 (RT_cons r1 (RT_cons r2 RT_nil)))
/- FRAME DirLays; ringhall/ringlaw3.DirLays; (.slice 24 (.pair .str (.pair (.int .i64) .unit))) | (.slice 1 (.int .u8)) | .str; .slice none 0 0 | .slice none 0 0 | .string ⟨#[]⟩ -/
end Go.Proofs.YtdgocccbagbhjaaGreatDoor.pv
