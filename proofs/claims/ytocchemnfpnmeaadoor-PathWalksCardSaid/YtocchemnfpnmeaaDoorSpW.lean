/- What the library's functions compute, in words of plain lists: written by specs.py. -/
import Derived.Test.YtocchemnfpnmeaaDoorGuPathWalks
import Derived.Test.YtocchemnfpnmeaaDoorLib
namespace Go.Proofs.YtocchemnfpnmeaaDoor.pv
set_option linter.all false
open Go.RowKit help
theorem SH (n:Nat) (l:List Gd) (f:Gd→Option Bool) (p:Gd→Bool) (hf:∀ y∈l,f y=some (p y)) (hl:l.length<4611686018427387903):∀ (k i:Nat),l.length-i<k→i≤l.length→Gl n l f k (i:Int)=some (match (l.drop i).findIdx? p with | some j=>.x0 ((i+j:Nat):Int) | none=>.x1)
 | 0,i,h,_=>by omega
 | k+1,i,h,hi=>by
  rw [Gl]
  by_cases hlt:(i:Int)<(l.length:Int)
  ·obtain ⟨x,hx⟩:=get_lt hlt
   rw [if_pos hlt,getI_nat,hx,Option.bind_some,hf x (List.mem_of_getElem? hx),Option.bind_some,drop_cons hx,List.findIdx?_cons]
   cases hp:p x with
   | true=>simp
   | false =>
    simp only [Bool.false_eq_true,if_false]
    rw [wi_succ (by omega),SH n l f p hf hl k (i+1) (by omega) (by omega)]
    cases (l.drop (i+1)).findIdx? p with
    | none=>simp
    | some j=>simp; omega
  ·rw [if_neg hlt,drop_end hlt]; rfl
theorem Zo {n:Nat} {l:List Gd} {f:Gd→Option Bool} (p:Gd→Bool) (hf:∀ y∈l,f y=some (p y)) (hl:l.length<4611686018427387903) (hn:l.length<n):Gz n l f=some (findI p l):=by
 unfold Gz
 have h:=SH n l f p hf hl n 0 (by omega) (by omega)
 have h:Gl n l f n 0=_:=h
 rw [h,Option.bind_some,List.drop_zero,findI]
 cases l.findIdx? p <;> simp
theorem ZS (n:Nat) (l:List Int) (v:Int) (hl:l.length<4611686018427387903):∀ (k i:Nat),l.length-i<k→i≤l.length→∃ o,Gr n l v k (i:Int)=some o∧(match o with | .x0 j=>∃ q:Nat,j=((i+q:Nat):Int)∧(l.drop i)[q]?=some v∧∀ r,r<q→(l.drop i)[r]?≠some v | .x1=>v ∉ l.drop i)
 | 0,i,h,_=>by omega
 | k+1,i,h,hi=>by
  rw [Gr]
  by_cases hlt:(i:Int)<(l.length:Int)
  ·obtain ⟨x,hx⟩:=get_lt hlt
   rw [if_pos hlt,getI_nat,hx,Option.bind_some,drop_cons hx]
   by_cases e:v=x
   ·rw [if_pos (e)]
    exact ⟨_,rfl,0,by simp,by simp [e],by omega⟩
   ·rw [if_neg (e),wi_succ (by omega)]
    obtain ⟨o,h1,h2⟩:=ZS n l v hl k (i+1) (by omega) (by omega)
    refine ⟨o,h1,?_⟩
    cases o with
    | x0 j =>
     obtain ⟨q,q1,q2,q3⟩:=h2
     refine ⟨q+1,by rw [q1]; congr 1; omega,by simpa using q2,fun r hr=>?_⟩
     cases r with
     | zero=>simpa using fun h=>e h.symm
     | succ r=>simpa using q3 r (by omega)
    | x1=>simpa [e] using h2
  ·rw [if_neg hlt,drop_end hlt]
   exact ⟨_,rfl,by simp⟩
theorem XA {n:Nat} {l:List Int} (v:Int) (hl:l.length<4611686018427387903) (hn:l.length<n):(v ∉ l∧G4 n l v=some (-1))∨∃ q:Nat,G4 n l v=some (q:Int)∧l[q]?=some v∧∀ r,r<q→l[r]?≠some v:=by
 unfold G4
 obtain ⟨o,h1,h2⟩:=ZS n l v hl n 0 (by omega) (by omega)
 have h1:Gr n l v n 0=_:=h1
 rw [h1,Option.bind_some]
 cases o with
 | x0 j =>
  obtain ⟨q,rfl,q2,q3⟩:=h2
  refine .inr ⟨q,by simp,by simpa using q2,fun r hr=>by simpa using q3 r hr⟩
 | x1=>exact .inl ⟨by simpa using h2,rfl⟩
theorem YK {n:Nat} {l:List Int} (v:Int) (hl:l.length<4611686018427387903) (hn:l.length<n):∃ r,GA n l v=some r∧(r=true↔v∈l):=by
 unfold GA
 rcases XA (n:=n) v hl hn with ⟨h1,h2⟩ | ⟨q,h1,h2,_⟩
 ·rw [h2]; exact ⟨_,rfl,by simpa using h1⟩
 ·rw [h1]; exact ⟨_,rfl,by simpa using List.mem_of_getElem? h2⟩
theorem K1 (n:Nat) (l:List (Fin 2→Int)) (f:(Fin 2→Int)→Option Bool) (p:(Fin 2→Int)→Bool) (hf:∀ y∈l,f y=some (p y)) (hl:l.length<4611686018427387903):∀ (k i:Nat),l.length-i<k→i≤l.length→Gt n l f k (i:Int)=some (match (l.drop i).findIdx? p with | some j=>.x0 ((i+j:Nat):Int) | none=>.x1)
 | 0,i,h,_=>by omega
 | k+1,i,h,hi=>by
  rw [Gt]
  by_cases hlt:(i:Int)<(l.length:Int)
  ·obtain ⟨x,hx⟩:=get_lt hlt
   rw [if_pos hlt,getI_nat,hx,Option.bind_some,hf x (List.mem_of_getElem? hx),Option.bind_some,drop_cons hx,List.findIdx?_cons]
   cases hp:p x with
   | true=>simp
   | false =>
    simp only [Bool.false_eq_true,if_false]
    rw [wi_succ (by omega),K1 n l f p hf hl k (i+1) (by omega) (by omega)]
    cases (l.drop (i+1)).findIdx? p with
    | none=>simp
    | some j=>simp; omega
  ·rw [if_neg hlt,drop_end hlt]; rfl
theorem Yn {n:Nat} {l:List (Fin 2→Int)} {f:(Fin 2→Int)→Option Bool} (p:(Fin 2→Int)→Bool) (hf:∀ y∈l,f y=some (p y)) (hl:l.length<4611686018427387903) (hn:l.length<n):GY n l f=some (findI p l):=by
 unfold GY
 have h:=K1 n l f p hf hl n 0 (by omega) (by omega)
 have h:Gt n l f n 0=_:=h
 rw [h,Option.bind_some,List.drop_zero,findI]
 cases l.findIdx? p <;> simp
theorem ZT (n:Nat) (a b:List Int) (hl:a.length<4611686018427387903) (he:a.length=b.length):∀ (k i:Nat),a.length-i<k→i≤a.length→∃ o,GI n a b k (i:Int)=some o∧(match o with | .x0 r=>r=false∧a.drop i≠b.drop i | .x1=>a.drop i=b.drop i)
 | 0,i,h,_=>by omega
 | k+1,i,h,hi=>by
  rw [GI]
  by_cases hlt:(i:Int)<(a.length:Int)
  ·obtain ⟨x,hx⟩:=get_lt hlt
   obtain ⟨y,hy⟩:=get_lt (l:=b) (i:=i) (by omega)
   rw [if_pos hlt,getI_nat,hx,Option.bind_some,getI_nat,hy,Option.bind_some,drop_cons hx,drop_cons hy]
   by_cases e:x=y
   ·rw [if_pos e,wi_succ (by omega)]
    obtain ⟨o,h1,h2⟩:=ZT n a b hl he k (i+1) (by omega) (by omega)
    refine ⟨o,h1,?_⟩
    cases o with
    | x0 r=>exact ⟨h2.1,fun h=>h2.2 (by simpa [e] using h)⟩
    | x1=>simp [e,h2]
   ·rw [if_neg e]
    exact ⟨_,rfl,rfl,fun h=>e (by simpa using (List.cons.inj h).1)⟩
  ·rw [if_neg hlt,drop_end hlt,drop_end (l:=b) (by omega)]
   exact ⟨_,rfl,rfl⟩
theorem ZU {n:Nat} (a b:List Int) (hl:a.length<4611686018427387903) (hn:a.length<n):∃ r,Sp n a b=some r∧(r=true↔a=b):=by
 unfold Sp
 by_cases he:(a.length:Int)=(b.length:Int)
 ·rw [if_pos he]
  obtain ⟨o,h1,h2⟩:=ZT n a b hl (by omega) n 0 (by omega) (by omega)
  have h1:GI n a b n 0=_:=h1
  rw [h1,Option.bind_some]
  cases o with
  | x0 r=>exact ⟨_,rfl,by simpa [h2.1] using h2.2⟩
  | x1=>exact ⟨_,rfl,by simpa using h2⟩
 ·rw [if_neg he]
  exact ⟨_,rfl,by simp; intro h; exact he (by rw [h])⟩
end Go.Proofs.YtocchemnfpnmeaaDoor.pv
