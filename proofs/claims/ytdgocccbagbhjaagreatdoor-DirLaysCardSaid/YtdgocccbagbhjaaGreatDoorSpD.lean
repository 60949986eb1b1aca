/- What the library's functions compute, in words of plain lists: written by specs.py. -/
import Derived.Test.YtdgocccbagbhjaaGreatDoorGuDirLays
import Derived.Test.YtdgocccbagbhjaaGreatDoorLib
namespace Go.Proofs.YtdgocccbagbhjaaGreatDoor.pv
set_option linter.all false
open Go.RowKit help
theorem KD (n:Nat) (l:List Ga) (f:Ga→Option Bool) (p:Ga→Bool) (hf:∀ y∈l,f y=some (p y)) (hl:l.length<4611686018427387903):∀ (k i:Nat),l.length-i<k→i≤l.length→Gj n l f k (i:Int)=some (match (l.drop i).findIdx? p with | some j=>.x0 ((i+j:Nat):Int) | none=>.x1)
 | 0,i,h,_=>by omega
 | k+1,i,h,hi=>by
  rw [Gj]
  by_cases hlt:(i:Int)<(l.length:Int)
  ·obtain ⟨x,hx⟩:=get_lt hlt
   rw [if_pos hlt,getI_nat,hx,Option.bind_some,hf x (List.mem_of_getElem? hx),Option.bind_some,drop_cons hx,List.findIdx?_cons]
   cases hp:p x with
   | true=>simp
   | false =>
    simp only [Bool.false_eq_true,if_false]
    rw [wi_succ (by omega),KD n l f p hf hl k (i+1) (by omega) (by omega)]
    cases (l.drop (i+1)).findIdx? p with
    | none=>simp
    | some j=>simp; omega
  ·rw [if_neg hlt,drop_end hlt]; rfl
theorem Xb {n:Nat} {l:List Ga} {f:Ga→Option Bool} (p:Ga→Bool) (hf:∀ y∈l,f y=some (p y)) (hl:l.length<4611686018427387903) (hn:l.length<n):Sd n l f=some (findI p l):=by
 unfold Sd
 have h:=KD n l f p hf hl n 0 (by omega) (by omega)
 have h:Gj n l f n 0=_:=h
 rw [h,Option.bind_some,List.drop_zero,findI]
 cases l.findIdx? p <;> simp
theorem ZW {n:Nat} {l:List Ga} {f:Ga→Option Bool} (p:Ga→Bool) (hf:∀ y∈l,f y=some (p y)) (hl:l.length<4611686018427387903) (hn:l.length<n):GT n l f=some (l.any p):=by
 unfold GT
 rw [Xb p (fun y hy=>by first | exact hf y hy | simp [hf y hy]) hl hn]
 simp [findI_nn]
theorem Xe (n:Nat) (a b:List Int) (hl:a.length<4611686018427387903) (he:a.length=b.length):∀ (k i:Nat),a.length-i<k→i≤a.length→∃ o,GX n a b k (i:Int)=some o∧(match o with | .x0 r=>r=false∧a.drop i≠b.drop i | .x1=>a.drop i=b.drop i)
 | 0,i,h,_=>by omega
 | k+1,i,h,hi=>by
  rw [GX]
  by_cases hlt:(i:Int)<(a.length:Int)
  ·obtain ⟨x,hx⟩:=get_lt hlt
   obtain ⟨y,hy⟩:=get_lt (l:=b) (i:=i) (by omega)
   rw [if_pos hlt,getI_nat,hx,Option.bind_some,getI_nat,hy,Option.bind_some,drop_cons hx,drop_cons hy]
   by_cases e:x=y
   ·rw [if_pos e,wi_succ (by omega)]
    obtain ⟨o,h1,h2⟩:=Xe n a b hl he k (i+1) (by omega) (by omega)
    refine ⟨o,h1,?_⟩
    cases o with
    | x0 r=>exact ⟨h2.1,fun h=>h2.2 (by simpa [e] using h)⟩
    | x1=>simp [e,h2]
   ·rw [if_neg e]
    exact ⟨_,rfl,rfl,fun h=>e (by simpa using (List.cons.inj h).1)⟩
  ·rw [if_neg hlt,drop_end hlt,drop_end (l:=b) (by omega)]
   exact ⟨_,rfl,rfl⟩
theorem XS {n:Nat} (a b:List Int) (hl:a.length<4611686018427387903) (hn:a.length<n):∃ r,Kd n a b=some r∧(r=true↔a=b):=by
 unfold Kd
 by_cases he:(a.length:Int)=(b.length:Int)
 ·rw [if_pos he]
  obtain ⟨o,h1,h2⟩:=Xe n a b hl (by omega) n 0 (by omega) (by omega)
  have h1:GX n a b n 0=_:=h1
  rw [h1,Option.bind_some]
  cases o with
  | x0 r=>exact ⟨_,rfl,by simpa [h2.1] using h2.2⟩
  | x1=>exact ⟨_,rfl,by simpa using h2⟩
 ·rw [if_neg he]
  exact ⟨_,rfl,by simp; intro h; exact he (by rw [h])⟩
theorem XX (x y:Ga):Ke x y=true↔x=y:=by cases x; cases y; first | (simp [Ke]; done) | (simp [Ke,Go.MapKept.bytes_beq]; done) | (simp [Ke]; intro _; exact Go.MapKept.bytes_beq _ _)
theorem KO (n:Nat) (a b:List Ga) (hl:a.length<4611686018427387903) (he:a.length=b.length):∀ (k i:Nat),a.length-i<k→i≤a.length→∃ o,Gt n a b k (i:Int)=some o∧(match o with | .x0 r=>r=false∧a.drop i≠b.drop i | .x1=>a.drop i=b.drop i)
 | 0,i,h,_=>by omega
 | k+1,i,h,hi=>by
  rw [Gt]
  by_cases hlt:(i:Int)<(a.length:Int)
  ·obtain ⟨x,hx⟩:=get_lt hlt
   obtain ⟨y,hy⟩:=get_lt (l:=b) (i:=i) (by omega)
   rw [if_pos hlt,getI_nat,hx,Option.bind_some,getI_nat,hy,Option.bind_some,drop_cons hx,drop_cons hy]
   by_cases e:x=y
   ·rw [if_neg (by subst e; simp [eqRes,(XX x x).2]),wi_succ (by omega)]
    obtain ⟨o,h1,h2⟩:=KO n a b hl he k (i+1) (by omega) (by omega)
    refine ⟨o,h1,?_⟩
    cases o with
    | x0 r=>exact ⟨h2.1,fun h=>h2.2 (by simpa [e] using h)⟩
    | x1=>simp [e,h2]
   ·rw [if_pos (by cases hq:Ke x y with | true=>exact absurd ((XX x y).1 hq) e | false=>rfl)]
    exact ⟨_,rfl,rfl,fun h=>e (by simpa using (List.cons.inj h).1)⟩
  ·rw [if_neg hlt,drop_end hlt,drop_end (l:=b) (by omega)]
   exact ⟨_,rfl,rfl⟩
theorem Xw {n:Nat} (a b:List Ga) (hl:a.length<4611686018427387903) (hn:a.length<n):∃ r,Sx n a b=some r∧(r=true↔a=b):=by
 unfold Sx
 by_cases he:(a.length:Int)=(b.length:Int)
 ·rw [if_pos he]
  obtain ⟨o,h1,h2⟩:=KO n a b hl (by omega) n 0 (by omega) (by omega)
  have h1:Gt n a b n 0=_:=h1
  rw [h1,Option.bind_some]
  cases o with
  | x0 r=>exact ⟨_,rfl,by simpa [h2.1] using h2.2⟩
  | x1=>exact ⟨_,rfl,by simpa using h2⟩
 ·rw [if_neg he]
  exact ⟨_,rfl,by simp; intro h; exact he (by rw [h])⟩
end Go.Proofs.YtdgocccbagbhjaaGreatDoor.pv
