/- What the library's functions compute, in words of plain lists: written by specs.py. -/
import Derived.Test.YtdgocccbagbhjaaGreatDoorGuDirTurns
import Derived.Test.YtdgocccbagbhjaaGreatDoorLib
namespace Go.Proofs.YtdgocccbagbhjaaGreatDoor.pv
set_option linter.all false
open Go.RowKit help
theorem KP (n:Nat) (l:List Ga) (f:Ga→Option Bool) (p:Ga→Bool) (hf:∀ y∈l,f y=some (p y)) (hl:l.length<4611686018427387903):∀ (k i:Nat),l.length-i<k→i≤l.length→Gj n l f k (i:Int)=some (match (l.drop i).findIdx? p with | some j=>.x0 ((i+j:Nat):Int) | none=>.x1)
 | 0,i,h,_=>by omega
 | k+1,i,h,hi=>by
  rw [Gj]
  by_cases hlt:(i:Int)<(l.length:Int)
  ·obtain ⟨x,hx⟩:=get_lt hlt
   rw [if_pos hlt,getI_nat,hx,Option.bind_some,hf x (List.mem_of_getElem? hx),Option.bind_some,drop_cons hx,List.findIdx?_cons]
   cases hp:p x with
   | true=>simp
   | false =>
    simp only [Bool.false_eq_true,if_false]
    rw [wi_succ (by omega),KP n l f p hf hl k (i+1) (by omega) (by omega)]
    cases (l.drop (i+1)).findIdx? p with
    | none=>simp
    | some j=>simp; omega
  ·rw [if_neg hlt,drop_end hlt]; rfl
theorem SR {n:Nat} {l:List Ga} {f:Ga→Option Bool} (p:Ga→Bool) (hf:∀ y∈l,f y=some (p y)) (hl:l.length<4611686018427387903) (hn:l.length<n):GN n l f=some (findI p l):=by
 unfold GN
 have h:=KP n l f p hf hl n 0 (by omega) (by omega)
 have h:Gj n l f n 0=_:=h
 rw [h,Option.bind_some,List.drop_zero,findI]
 cases l.findIdx? p <;> simp
theorem KB {n:Nat} {l:List Ga} {f:Ga→Option Bool} (p:Ga→Bool) (hf:∀ y∈l,f y=some (p y)) (hl:l.length<4611686018427387903) (hn:l.length<n):GG n l f=some (l.any p):=by
 unfold GG
 rw [SR p (fun y hy=>by first | exact hf y hy | simp [hf y hy]) hl hn]
 simp [findI_nn]
theorem XB (n:Nat) (a b:List Int) (hl:a.length<4611686018427387903) (he:a.length=b.length):∀ (k i:Nat),a.length-i<k→i≤a.length→∃ o,GY n a b k (i:Int)=some o∧(match o with | .x0 r=>r=false∧a.drop i≠b.drop i | .x1=>a.drop i=b.drop i)
 | 0,i,h,_=>by omega
 | k+1,i,h,hi=>by
  rw [GY]
  by_cases hlt:(i:Int)<(a.length:Int)
  ·obtain ⟨x,hx⟩:=get_lt hlt
   obtain ⟨y,hy⟩:=get_lt (l:=b) (i:=i) (by omega)
   rw [if_pos hlt,getI_nat,hx,Option.bind_some,getI_nat,hy,Option.bind_some,drop_cons hx,drop_cons hy]
   by_cases e:x=y
   ·rw [if_pos e,wi_succ (by omega)]
    obtain ⟨o,h1,h2⟩:=XB n a b hl he k (i+1) (by omega) (by omega)
    refine ⟨o,h1,?_⟩
    cases o with
    | x0 r=>exact ⟨h2.1,fun h=>h2.2 (by simpa [e] using h)⟩
    | x1=>simp [e,h2]
   ·rw [if_neg e]
    exact ⟨_,rfl,rfl,fun h=>e (by simpa using (List.cons.inj h).1)⟩
  ·rw [if_neg hlt,drop_end hlt,drop_end (l:=b) (by omega)]
   exact ⟨_,rfl,rfl⟩
theorem Ug {n:Nat} (a b:List Int) (hl:a.length<4611686018427387903) (hn:a.length<n):∃ r,Kl n a b=some r∧(r=true↔a=b):=by
 unfold Kl
 by_cases he:(a.length:Int)=(b.length:Int)
 ·rw [if_pos he]
  obtain ⟨o,h1,h2⟩:=XB n a b hl (by omega) n 0 (by omega) (by omega)
  have h1:GY n a b n 0=_:=h1
  rw [h1,Option.bind_some]
  cases o with
  | x0 r=>exact ⟨_,rfl,by simpa [h2.1] using h2.2⟩
  | x1=>exact ⟨_,rfl,by simpa using h2⟩
 ·rw [if_neg he]
  exact ⟨_,rfl,by simp; intro h; exact he (by rw [h])⟩
end Go.Proofs.YtdgocccbagbhjaaGreatDoor.pv
