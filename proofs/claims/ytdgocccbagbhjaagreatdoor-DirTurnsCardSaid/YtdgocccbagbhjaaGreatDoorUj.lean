/- Directories: DirTurns answers true. -/
import Derived.Test.YtdgocccbagbhjaaGreatDoorUi
namespace Go.Proofs.YtdgocccbagbhjaaGreatDoor.pv.dr
set_option linter.all false
open Go.RowKit help pv
theorem by_of {b:List Int} (h:okL 1 (fun a=>(Lit.int .u8 a).wf=true) b):By b:=fun x hx=>by
 have:=wf8.1 (h.2 x hx)
 omega
theorem bad_raw {n:Nat} {raw:List Int} {r:List Ga×Int} (l:List Ga) (x:Ga) (h:S6 n raw=some r):Kx n l raw r x=some .x1:=by
 unfold Kx
 by_cases h1:r.2=0
 ·rw [if_pos h1]
 ·rw [if_neg h1]
  have a1:Zd n raw x.fName=some (0,0,r.2):=by unfold Zd; rw [h,Option.bind_some,if_neg h1]
  have a2:XA n raw x=some ([],r.2):=by unfold XA; rw [h,Option.bind_some,if_neg h1]
  have a3:ZG n raw x.fName=some ([],r.2):=by unfold ZG; rw [h,Option.bind_some,if_neg h1]
  rw [a1,Option.bind_some,a2,Option.bind_some,a3,Option.bind_some]
  unfold Zf
  simp
theorem lay_T {n:Nat} (hn:5000≤n) {l:List Ga} (h:right l=0):Kq n l=some (b2s (Bt (sortN nf l))):=rlay hn h
theorem H (l:List Ga) (x:Ga) (raw:List Int) (h3:okL 1 (fun a=>(Lit.int .u8 a).wf=true) raw):∃ n,Zb n l x raw=some true:=by
 refine ⟨10000,?_⟩
 have hn:5000≤10000:=by omega
 have hn3:2000≤10000:=by omega
 generalize 10000=n at *
 have hy:=by_of h3
 unfold Zb Ze
 by_cases g1:(l.length:Int) > 40
 ·rw [if_pos g1]; rfl
 by_cases g2:(x.fName.size:Int) > 50
 ·rw [if_neg g1,if_pos g2]; rfl
 rw [if_neg g1,if_neg g2,Option.bind_some]
 simp only
 by_cases g3:(raw.length:Int) > 600
 ·rw [decide_eq_true g3,if_pos rfl]
 rw [decide_eq_false g3]
 simp only [Bool.false_eq_true,if_false]
 obtain ⟨r,r1,r2,r3⟩:=lists hn (b:=raw) (by omega) hy
 rw [r2,Option.bind_some,bad_raw l x r1,Option.bind_some]
 simp only
 rw [rright hn3 l (by omega),Option.bind_some]
 by_cases hr:right l≠0
 ·rw [if_neg hr]
 have hr:right l=0:=Classical.not_not.1 hr
 rw [if_pos hr,lay_T hn hr,Option.bind_some]
 have S:=Srt.of hr
 generalize sortN nf l=T at S
 have hT:=S.le
 have hs:s2bO (b2s (Bt T))=some (Bt T):=by
  unfold s2bO
  rw [if_pos (by rw [b2s_size,S.len]; unfold maxLen; omega),s2b_b2s (show By (Bt T) from laid_by)]
 have hL:=allL (T:=T) n (Bt T) 0 x (by omega) n 0 (by omega) (by omega) 0 [] (by simp)
 have hL:Sl n (Bt T) (T,0) x n 0 0 T []=_:=hL
 rw [hs,Option.bind_some,S.listed hn,Option.bind_some,hL,Option.bind_some]
 simp only [List.drop_zero,List.nil_append]
 obtain ⟨lk,k1,k2⟩:=found hn S.r S.s x.fName
 rcases k2 with ⟨y,hyT,hyn,k2⟩ | ⟨hno,k2⟩
 ·obtain ⟨A,C,rfl,hA,hC⟩:=uniq ((right_zero _).1 S.r).2.2 hyT
  have hyn:y.fName=x.fName:=hyn
  have hyi:=(((right_zero _).1 S.r).2.1 y hyT).2.1
  have hout:=S.out_at hn hA
  rw [hyn] at hout
  have hA':∀ z∈A,z.fName≠x.fName:=fun z hz=>hyn ▸ hA z hz
  have hC':∀ z∈C,z.fName≠x.fName:=fun z hz=>hyn ▸ hC z hz
  have hino:inoOf x.fName (A++y::C) 0=y.fIno:=by
   rw [inoOf_app,inoOf_none A 0 hA']
   unfold inoOf
   rw [if_pos hyn,inoOf_none C _ hC']
  have hoth:oth x.fName (A++y::C)=A++C:=by
   have e1:=oth_none hA'
   have e2:=oth_none hC'
   unfold oth at *
   rw [List.filter_append,e1,List.filter_cons_of_neg (by simpa using hyn),e2]
  have hAC:right (A++C)=0:=sub_right S.r (by simp)
  rw [hino,hoth,find_at S hn k2,Option.bind_some,S.put hn x,Option.bind_some,hout,Option.bind_some,wantC,Option.bind_some]
  simp only
  have hex:∃ z∈A++y::C,z.fName=x.fName:=⟨y,hyT,hyn⟩
  rw [if_pos hex]
  unfold Kz
  have hpos:y.fIno > 0:=by omega
  have hlast:(if y.fIno=0 then (S7 n (y.fIno,lk,0) (Bt (sortN nf (A++C)),0)).bind fun o=>match o with | .x0 z=>some z else (KA n (y.fIno,lk,0) (Bt (sortN nf (A++C)),0) (A++C)).bind fun o=>match o with | .x0 z=>some z)=some true:=by
   rw [if_neg (by omega)]
   unfold KA
   simp only [if_true]
   rw [lay_T hn hAC,Option.bind_some]
   simp
  by_cases ho:okE x
  ·rw [decide_eq_false (not_not_intro ho),if_neg (not_not_intro ho)]
   simp only [Bool.false_eq_true,if_false]
   rw [if_pos hpos,Option.bind_some]
   simp only
   unfold SE
   simp only [if_true]
   rw [k1,Option.bind_some,if_pos rfl,if_neg (by omega)]
   exact hlast
  ·rw [decide_eq_true ho,if_pos rfl,if_pos ho,Option.bind_some]
   simp only
   unfold SE
   simp only [if_true]
   rw [k1,Option.bind_some,if_pos rfl,if_neg (by omega)]
   exact hlast
 ·have hno:∀ z∈T,z.fName≠x.fName:=hno
  rw [inoOf_none T 0 hno,oth_none hno,find_no S hn k2,Option.bind_some,S.put hn x,Option.bind_some,S.out_no hn x.fName hno,Option.bind_some,wantC,Option.bind_some]
  simp only
  have hex:¬ ∃ z∈T,z.fName=x.fName:=fun ⟨z,hz,e⟩=>hno z hz e
  rw [if_neg hex]
  unfold Kz
  have h8:S7 n (0,lk,4) ([],4)=some (.x0 true):=by
   unfold S7; rfl
  by_cases ho:okE x
  ·rw [decide_eq_false (not_not_intro ho),if_neg (not_not_intro ho)]
   simp only [Bool.false_eq_true,if_false]
   rw [if_neg (by omega)]
   by_cases h32:T.length=32
   ·rw [if_pos (by omega),if_pos h32,Option.bind_some]
    simp only
    unfold SE
    simp only [if_true]
    rw [k1,Option.bind_some,if_pos rfl,if_neg (by omega),h8]
    rfl
   ·rw [if_neg (by omega),if_neg h32,Option.bind_some]
    simp only
    have hr2:right (T++[x])=0:=by
     obtain ⟨q1,q2,q3⟩:=(right_zero T).1 S.r
     refine (right_zero _).2 ⟨by simp; omega,fun y hy=>?_,?_⟩
     ·rcases List.mem_append.1 hy with hy | hy
      ·exact q2 y hy
      ·rw [List.mem_singleton.1 hy]; exact ho
     ·rw [List.map_append,List.nodup_append]
      refine ⟨q3,by simp,?_⟩
      intro a ha b hb
      obtain ⟨y,hy,rfl⟩:=List.mem_map.1 ha
      simp at hb
      rw [hb]
      exact fun q=>hno y hy q
    unfold SE
    simp only [if_true]
    rw [k1,Option.bind_some,if_pos rfl,app_some (by simp; omega) (by omega),Option.bind_some,lay_T hn hr2,Option.bind_some]
    have:(!((b2s (Bt (sortN nf (T++[x])))).toList == (b2s (Bt (sortN nf (T++[x])))).toList))=false:=by simp
    rw [this,h8]
    rfl
  ·rw [decide_eq_true ho,if_pos rfl,if_pos ho,Option.bind_some]
   simp only
   unfold SE
   simp only [if_true]
   rw [k1,Option.bind_some,if_pos rfl,if_neg (by omega),h8]
   rfl
end Go.Proofs.YtdgocccbagbhjaaGreatDoor.pv.dr
