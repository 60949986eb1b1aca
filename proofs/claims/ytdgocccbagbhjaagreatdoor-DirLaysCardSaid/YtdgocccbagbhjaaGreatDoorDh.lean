/- Directories: DirLays answers true. -/
import Derived.Test.YtdgocccbagbhjaaGreatDoorDg
namespace Go.Proofs.YtdgocccbagbhjaaGreatDoor.pv.dr
set_option linter.all false
open Go.RowKit help pv
theorem guardL (n:Nat) (l:List Ga) (b:List Int) (s:ByteArray) (hl:l.length≤1000):∀ (t i:Nat),l.length-i<t→i≤l.length→G9 n l b s t (i:Int)=some (.x0 true)∨G9 n l b s t (i:Int)=some .x1
 | 0,i,h,_=>by omega
 | t+1,i,h,hi=>by
  rw [G9]
  by_cases h1:i<l.length
  ·rw [if_pos (by omega),getI_nat,List.getElem?_eq_getElem h1,Option.bind_some,wi_succ (by omega)]
   by_cases h2:(l[i].fName.size:Int) > 50
   ·rw [if_pos h2]; exact .inl rfl
   ·rw [if_neg h2]; exact guardL n l b s hl t (i+1) (by omega) (by omega)
  ·rw [if_neg (by omega)]; exact .inr rfl
theorem by_of {b:List Int} (h:okL 1 (fun a=>(Lit.int .u8 a).wf=true) b):By b:=fun x hx=>by
 have:=wf8.1 (h.2 x hx)
 omega
theorem H (l:List Ga) (b:List Int) (s:ByteArray) (h2:okL 1 (fun a=>(Lit.int .u8 a).wf=true) b):∃ n,Zb n l b s=some true:=by
 refine ⟨10000,?_⟩
 have hn:5000≤10000:=by omega
 have hn3:2000≤10000:=by omega
 have hn1:1001≤10000:=by omega
 generalize 10000=n at *
 have hy:=by_of h2
 unfold Zb Zd
 by_cases g1:(l.length:Int) > 40
 ·rw [if_pos g1]; rfl
 by_cases g2:(b.length:Int) > 600
 ·rw [if_neg g1,if_pos g2]; rfl
 rw [if_neg g1,if_neg g2,Option.bind_some]
 simp only
 by_cases g3:(s.size:Int) > 50
 ·rw [decide_eq_true g3,if_pos rfl]
 rw [decide_eq_false g3]
 simp only [Bool.false_eq_true,if_false]
 have hL:G9 n l b s n 0=some (.x0 true)∨G9 n l b s n 0=some .x1:=guardL n l b s (by omega) n 0 (by omega) (by omega)
 rcases hL with hL | hL
 ·rw [hL]; rfl
 rw [hL,Option.bind_some]
 simp only
 obtain ⟨r,r1,r2,r3⟩:=lists hn (b:=b) (by omega) hy
 rw [rright hn3 l (by omega),Option.bind_some]
 have hlay:∃ q,Za n l=some (q,right l)∧(right l=0→q=(laid (sortN nf l)).flatten)∧(right l≠0→q=[]):=by
  by_cases h:right l=0
  ·exact ⟨_,by rw [play hn h,h],fun _=>rfl,fun q=>absurd h q⟩
  ·exact ⟨_,play_bad hn (by omega) h,fun q=>absurd q h,fun _=>rfl⟩
 obtain ⟨q,q1,q2,q3⟩:=hlay
 obtain ⟨e,e1,e2⟩:=Xw (n:=n) r.1 r.1 (by omega) (by omega)
 have he:e=true:=e2.2 rfl
 subst he
 have hC:KA n l s (right l) (q,right l) r r=some (.x0 false):=by
  unfold KA
  rw [pright hn3 l (by omega),Option.bind_some,if_pos rfl,pname,rname,Option.bind_some,Option.bind_some]
  have hq:eqRes .neq (decide (okN s) == decide (okN s))=false:=by
   rw [beq_self_eq_true]; rfl
  rw [hq]
  simp only [Bool.false_eq_true,if_false,if_true,e1,Option.bind_some]
  rfl
 rw [q1,Option.bind_some,r1,Option.bind_some,r2,Option.bind_some,hC,Option.bind_some]
 simp only [Bool.false_eq_true,if_false]
 by_cases h:right l=0
 ·rw [if_pos h,rlay hn h,Option.bind_some,q2 h]
  simp
 ·rw [if_neg h,q3 h]; rfl
end Go.Proofs.YtdgocccbagbhjaaGreatDoor.pv.dr
