/- Directories: what entries any bytes are, on both sides. -/
import Derived.Test.YtdgocccbagbhjaaGreatDoorDd
namespace Go.Proofs.YtdgocccbagbhjaaGreatDoor.pv.dr
set_option linter.all false
open Go.RowKit help pv
theorem idx_at (c:UInt8):∀ l:List UInt8,c∈l→∃ P Q,l=P++c::Q∧c ∉ P∧Lib.indexByte l c=(P.length:Int)
 | b::l,h=>by
  unfold Lib.indexByte
  by_cases e:b=c
  ·subst e; exact ⟨[],l,rfl,by simp,by simp⟩
  ·have hb:(b == c)=false:=by simpa using e
   rw [hb]
   have hc:c∈l:=(List.mem_cons.1 h).resolve_left (fun q=>e q.symm)
   obtain ⟨P,Q,h1,h2,h3⟩:=idx_at c l hc
   have:(Lib.indexByte l c == -1)=false:=by rw [h3]; simp
   rw [this,h3]
   refine ⟨b::P,Q,by rw [h1]; rfl,?_,by simp⟩
   intro q
   rcases List.mem_cons.1 q with q | q
   ·exact e q.symm
   ·exact h2 q
theorem trim_none {l:List UInt8} (h:0 ∉ l):Lib.trimRightB l 0=l:=by
 unfold Lib.trimRightB
 have:l.reverse.dropWhile (· == 0)=l.reverse:=by
  cases hr:l.reverse with
  | nil=>rfl
  | cons x r =>
   have hx:x∈l:=by rw [← List.mem_reverse,hr]; simp
   have:(x == 0)=false:=by
    have:x≠0:=fun e=>h (e ▸ hx)
    simpa using this
   rw [List.dropWhile_cons,this]; rfl
 rw [this,List.reverse_reverse]
theorem drop_zeros:∀ (Z r:List UInt8),(∀ x∈Z,x=0)→(Z++r).dropWhile (· == 0)=r.dropWhile (· == 0)
 | [],r,_=>rfl
 | z::Z,r,h=>by
  have:z=0:=h z (by simp)
  subst this
  rw [List.cons_append,List.dropWhile_cons]
  simp only [beq_self_eq_true,if_true]
  exact drop_zeros Z r (fun x hx=>h x (by simp [hx]))
theorem trim_zeros {P Z:List UInt8} (h:0 ∉ P) (hz:∀ x∈Z,x=0):Lib.trimRightB (P++Z) 0=P:=by
 have:=trim_none h
 unfold Lib.trimRightB at this ⊢
 rw [List.reverse_append,drop_zeros _ _ (fun x hx=>hz x (List.mem_reverse.1 hx))]
 exact this
theorem dw_split:∀ (l:List UInt8),∃ Z,l=Z++l.dropWhile (· == 0)∧∀ x∈Z,x=0
 | []=>⟨[],rfl,by simp⟩
 | x::l=>by
  by_cases h:x=0
  ·subst h
   obtain ⟨Z,h1,h2⟩:=dw_split l
   refine ⟨0::Z,?_,fun y hy=>?_⟩
   ·rw [List.dropWhile_cons]; simp only [beq_self_eq_true,if_true,List.cons_append]
    rw [← h1]
   ·rcases List.mem_cons.1 hy with rfl | hy
    ·rfl
    ·exact h2 y hy
  ·have:(x == 0)=false:=by simpa using h
   refine ⟨[],?_,by simp⟩
   rw [List.dropWhile_cons,this]; rfl
theorem trim_split (l:List UInt8):∃ Z,l=Lib.trimRightB l 0++Z∧∀ x∈Z,x=0:=by
 obtain ⟨Z,h1,h2⟩:=dw_split l.reverse
 refine ⟨Z.reverse,?_,fun x hx=>h2 x (List.mem_reverse.1 hx)⟩
 unfold Lib.trimRightB
 rw [← List.reverse_append,← h1,List.reverse_reverse]
theorem trim_has {P Q:List UInt8} (h:∃ x∈Q,x≠0):0∈Lib.trimRightB (P++0::Q) 0:=by
 obtain ⟨Z,h1,h2⟩:=trim_split (P++0::Q)
 apply Classical.byContradiction
 intro hn
 obtain ⟨x,hx,hx0⟩:=h
 rcases List.append_eq_append_iff.1 h1 with ⟨A,e1,e2⟩ | ⟨A,e1,e2⟩
 ·cases A with
  | nil =>
   simp at e2
   rw [← e2] at h2
   exact hx0 (h2 x (by simp [hx]))
  | cons a A =>
   simp at e2
   rw [e1,← e2.1] at hn
   simp at hn
 ·rw [e2] at h2
  exact hx0 (h2 x (by simp [hx]))
theorem trimB_nil {Q:List UInt8}:Lib.trimB Q 0=[]↔∀ x∈Q,x=0:=by
 unfold Lib.trimB Lib.trimLeftB
 obtain ⟨Z,h1,h2⟩:=trim_split Q
 constructor
 ·intro h x hx
  obtain ⟨Y,k1,k2⟩:=dw_split (Lib.trimRightB Q 0)
  have k1:Lib.trimRightB Q 0=Y++(Lib.trimRightB Q 0).dropWhile (· == 0):=k1
  rw [h,List.append_nil] at k1
  rw [h1,List.mem_append] at hx
  rcases hx with hx | hx
  ·rw [k1] at hx; exact k2 x hx
  ·exact h2 x hx
 ·intro h
  have:Lib.trimRightB Q 0=[]:=by
   have:=trim_zeros (P:=[]) (Z:=Q) (by simp) h
   simpa using this
  rw [this]; rfl
/-! rows -/
def chk (b:List Int) (k:Nat):List Int:=(b.take (16*k+14)).drop (16*k)
def ent (b:List Int) (k:Nat):Ga:=⟨⟨(Lib.trimRightB (b2s (chk b k)).data.toList 0).toArray⟩,b.getD (16*k+14) 0⟩
theorem chk_len {b:List Int} {n k:Nat} (hb:b.length=16*n) (hk:k<n):(chk b k).length=14:=by
 unfold chk
 rw [List.length_drop,List.length_take]; omega
theorem row_is (n:Nat) {b:List Int} {N k:Nat} (hb:b.length=16*N) (hk:k<N) (hN:N≤40) (hy:By b):XR n b (k:Int)=some (ent b k):=by
 unfold XR Xt
 have e1:wi .i64 (16*(k:Int))=((16*k:Nat):Int):=by rw [wi64 (by omega) (by omega)]; omega
 have e2:wi .i64 (((16*k:Nat):Int)+14)=((16*k+14:Nat):Int):=by rw [wi64 (by omega) (by omega)]; omega
 have hs:sub b ((16*k:Nat):Int) ((16*k+14:Nat):Int)=some (chk b k):=by
  unfold sub
  rw [if_pos ⟨by omega,by omega,by omega⟩,Int.toNat_natCast,Int.toNat_natCast]; rfl
 have hg:16*k+14<b.length:=by omega
 have hl:=chk_len hb hk
 have c1:(ByteArray.mk #[0]).size=1:=rfl
 have c2:((ByteArray.mk #[0]).data.toList.headD 0).toNat<128:=by decide
 rw [e1,e2,hs,Option.bind_some,if_pos ⟨c1,c2,by rw [b2s_size,hl]; omega⟩,Option.bind_some,getI_nat,List.getElem?_eq_getElem hg,Option.bind_some]
 have hx:=hy b[16*k+14] (List.getElem_mem hg)
 rw [wi64 (by omega) (by omega)]
 unfold ent
 rw [List.getD_eq_getElem?_getD,List.getElem?_eq_getElem hg]
 rfl
theorem plistL {n N:Nat} {b:List Int} (hb:b.length=16*N) (hN:N≤40) (hy:By b):∀ (m a:Nat),N-a≤m→a≤1000→∀ (f:Nat),m+1≤f→∀ (out:List Ga),out.length+(io N a).length≤1000 →
  Ki f (a:Int) (N:Int) out b=some ((N:Int),out++(io N a).map (ent b),b)
 | m,a,hm,ha,f+1,hf,out,ho=>by
  rw [Ki]
  by_cases h1:a<N
  ·obtain ⟨m,rfl⟩:∃ z,m=z+1:=⟨m-1,by omega⟩
   have e1:wi .i64 ((wi .i64 (2*(a:Int)))+1)=((2*a+1:Nat):Int):=by rw [wi64 (x:=2*(a:Int)) (by omega) (by omega),wi64 (by omega) (by omega)]; omega
   have e2:wi .i64 ((wi .i64 (2*(a:Int)))+2)=((2*a+2:Nat):Int):=by rw [wi64 (x:=2*(a:Int)) (by omega) (by omega),wi64 (by omega) (by omega)]; omega
   have hio:=io_lt h1
   rw [hio] at ho
   simp only [List.length_append,List.length_cons] at ho
   have q1:=plistL (n:=n) hb hN hy m (2*a+1) (by omega) (by omega) f (by omega) out (by omega)
   have q2:=plistL (n:=n) hb hN hy m (2*a+2) (by omega) (by omega) f (by omega) (out++(io N (2*a+1)).map (ent b)++[ent b a]) (by simp; omega)
   rw [if_pos (by omega),e1]
   dsimp only
   rw [q1,Option.bind_some]
   dsimp only
   rw [row_is f hb h1 hN hy,Option.bind_some,app_some (by simp; omega) (by omega),Option.bind_some,e2,q2,Option.bind_some,hio]
   simp
  ·rw [if_neg (by omega),io_ge h1]; simp
def O (b:List Int) (N:Nat):List Ga:=(io N 0).map (ent b)
theorem len16 (b:List Int) (hb:b.length≤600):remI (b.length:Int) 16=0↔∃ N,b.length=16*N:=by
 rw [rem_nn (by omega)]
 constructor
 ·intro h; exact ⟨b.length / 16,by omega⟩
 ·rintro ⟨N,h⟩; omega
def good (b:List Int) (N:Nat):Prop:=right (O b N)=0∧(laid (sortN nf (O b N))).flatten=b
theorem O_len (b:List Int) (N:Nat):(O b N).length=N:=by unfold O; rw [List.length_map,io_len]
theorem plist {n N:Nat} (hn:5000≤n) {b:List Int} (hb:b.length=16*N) (hN:N≤32) (hy:By b):∃ r,ZM n b=some r∧(good b N→r=(O b N,0))∧(¬ good b N→r=([],3)):=by
 unfold ZM
 have hr:remI (b.length:Int) 16=0:=by rw [rem_nn (by omega)]; omega
 have hq:quoI .i64 (b.length:Int) 16=(N:Int):=by rw [quo_i64 (by omega) (by omega) (by omega)]; omega
 have hL:=plistL (n:=n) hb (by omega) hy N 0 (by omega) (by omega) n (by omega) [] (by rw [io_len]; simp; omega)
 have hL:Ki n 0 (N:Int) [] b=_:=hL
 rw [if_pos hr,if_neg (by omega),hq,hL,Option.bind_some]
 simp only [List.nil_append]
 have hOl:=O_len b N
 by_cases h1:right (O b N)=0
 ·have h2:=play hn h1
  have h2:Za n ((io N 0).map (ent b))=_:=h2
  rw [h2,Option.bind_some]
  simp only [if_true]
  have hsl:(laid (sortN nf (O b N))).flatten.length≤1000:=by
   rw [flat_len _ (fun z hz=>by
    obtain ⟨k,_,rfl⟩:=List.mem_map.1 hz
    rw [List.getD_eq_getElem?_getD]
    cases hq:(sortN nf (O b N))[rk (sortN nf (O b N)).length k]? with
    | none=>rfl
    | some x=>exact rowB_len (sized h1 x ((srt_perm _).mem_iff.1 (List.mem_of_getElem? hq)))),laid_len,srt_len]
   omega
  obtain ⟨e,s1,s2⟩:=XS (n:=n) (laid (sortN nf (O b N))).flatten b (by omega) (by omega)
  rw [s1,Option.bind_some]
  by_cases h3:e=true
  ·rw [if_pos h3]
   exact ⟨_,rfl,fun _=>rfl,fun q=>absurd ⟨h1,s2.1 h3⟩ q⟩
  ·rw [if_neg h3]
   exact ⟨_,rfl,fun q=>absurd (s2.2 q.2) h3,fun _=>rfl⟩
 ·have h2:=play_bad hn (by omega:(O b N).length≤1000) h1
  have h2:Za n ((io N 0).map (ent b))=_:=h2
  rw [h2,Option.bind_some]
  simp only
  rw [if_neg h1]
  exact ⟨_,rfl,fun q=>absurd q.1 h1,fun _=>rfl⟩
def bad (b:List Int) (k:Nat):Prop:=0∈(ent b k).fName.data.toList
theorem subS_b2s (L:List Int) (i j:Nat) (h:i≤j) (hj:j≤L.length):subS (b2s L) (i:Int) (j:Int)=some (b2s ((L.take j).drop i)):=by
 unfold subS
 rw [b2s_size,if_pos ⟨by omega,by omega,by omega⟩,Int.toNat_natCast,Int.toNat_natCast]
 congr 1
 apply ByteArray.ext
 rw [ByteArray.data_extract,b2s_data,b2s_data]
 apply Array.ext'
 simp [List.extract_eq_drop_take,List.map_take,List.map_drop,List.take_drop]
 rw [show i+(j-i)=j by omega]
end Go.Proofs.YtdgocccbagbhjaaGreatDoor.pv.dr
