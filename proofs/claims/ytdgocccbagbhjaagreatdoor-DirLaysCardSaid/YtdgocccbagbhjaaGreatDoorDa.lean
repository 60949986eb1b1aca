/- Directories: names, entries that are right, trees by their levels. -/
import Derived.Test.YtdgocccbagbhjaaGreatDoorGuDirLays
import Derived.Test.YtdgocccbagbhjaaGreatDoorLib
import Derived.Test.YtdgocccbagbhjaaGreatDoorMath
import Derived.Laws.Strings
import Derived.Lib.TrimByte
import Derived.Lib.Bytealg
namespace Go.Proofs.YtdgocccbagbhjaaGreatDoor.pv.dr
set_option linter.all false
open Go.RowKit help pv
/-! trees whose levels are full but for the last one -/
def io (n at_:Nat):List Nat:=if h:at_<n then io n (2*at_+1)++at_::io n (2*at_+2) else []
termination_by n-at_
theorem io_lt {n a:Nat} (h:a<n):io n a=io n (2*a+1)++a::io n (2*a+2):=by rw [io,dif_pos h]
theorem io_ge {n a:Nat} (h:¬ a<n):io n a=[]:=by rw [io,dif_neg h]
def base (n k:Nat):Nat:=if h:k=0 then 0 else if k % 2=1 then base n ((k-1) / 2) else base n ((k-1) / 2)+(io n (2*((k-1) / 2)+1)).length+1
termination_by k
theorem base_l (n a:Nat):base n (2*a+1)=base n a:=by
 rw [base,dif_neg (by omega),if_pos (by omega)]
 congr 1; omega
theorem base_r (n a:Nat):base n (2*a+2)=base n a+(io n (2*a+1)).length+1:=by
 rw [base,dif_neg (by omega),if_neg (by omega)]
 have:(2*a+2-1) / 2=a:=by omega
 rw [this]
def rk (n k:Nat):Nat:=base n k+(io n (2*k+1)).length
theorem io_rk (n:Nat):∀ (m a:Nat),n-a≤m→∀ (i k:Nat),(io n a)[i]?=some k→rk n k=base n a+i
 | m,a,hm,i,k,h=>by
  by_cases ha:a<n
  ·rw [io_lt ha] at h
   obtain ⟨m,rfl⟩:∃ q,m=q+1:=⟨m-1,by omega⟩
   by_cases h1:i<(io n (2*a+1)).length
   ·rw [List.getElem?_append_left h1] at h
    rw [io_rk n m (2*a+1) (by omega) i k h,base_l]
   ·rw [List.getElem?_append_right (by omega)] at h
    obtain ⟨j,hj⟩:∃ j,i=(io n (2*a+1)).length+j:=⟨i-(io n (2*a+1)).length,by omega⟩
    rw [hj,Nat.add_sub_cancel_left] at h
    cases j with
    | zero=>simp at h; subst h; rw [hj]; rfl
    | succ j =>
     simp at h
     rw [io_rk n m (2*a+2) (by omega) j k h,base_r,hj]; omega
  ·rw [io_ge ha] at h; simp at h
theorem io_nodup (n a:Nat):(io n a).Nodup:=by
 refine List.pairwise_iff_getElem.2 fun i j hi hj hij he=>?_
 have e1:=io_rk n n a (by omega) i _ (List.getElem?_eq_getElem hi)
 have e2:=io_rk n n a (by omega) j _ (List.getElem?_eq_getElem hj)
 rw [he] at e1
 omega
theorem io_child (n:Nat):∀ (m a:Nat),n-a≤m→∀ (p q:Nat),p∈io n a→(q=2*p+1∨q=2*p+2)→q<n→q∈io n a
 | m,a,hm,p,q,h,hq,hn=>by
  by_cases ha:a<n
  ·obtain ⟨m,rfl⟩:∃ z,m=z+1:=⟨m-1,by omega⟩
   rw [io_lt ha] at h ⊢
   rw [List.mem_append,List.mem_cons] at h ⊢
   rcases h with h | rfl | h
   ·exact .inl (io_child n m (2*a+1) (by omega) p q h hq hn)
   ·rcases hq with rfl | rfl
    ·left; rw [io_lt hn]; simp
    ·right; right; rw [io_lt hn]; simp
   ·exact .inr (.inr (io_child n m (2*a+2) (by omega) p q h hq hn))
  ·rw [io_ge ha] at h; cases h
theorem io_all (n:Nat):∀ k,k<n→k∈io n 0:=by
 intro k
 induction k using Nat.strongRecOn with
 | _ k ih =>
  intro h
  by_cases h0:k=0
  ·subst h0; rw [io_lt h]; simp
  ·exact io_child n n 0 (by omega) ((k-1) / 2) k (ih _ (by omega) (by omega)) (by omega) h
theorem io_mem (n:Nat):∀ (m a:Nat),n-a≤m→∀ k∈io n a,k<n
 | m,a,hm,k,h=>by
  by_cases ha:a<n
  ·obtain ⟨m,rfl⟩:∃ z,m=z+1:=⟨m-1,by omega⟩
   rw [io_lt ha,List.mem_append,List.mem_cons] at h
   rcases h with h | rfl | h
   ·exact io_mem n m (2*a+1) (by omega) k h
   ·exact ha
   ·exact io_mem n m (2*a+2) (by omega) k h
  ·rw [io_ge ha] at h; cases h
theorem io_perm (n:Nat):(io n 0).Perm (List.range n) :=
 (List.perm_ext_iff_of_nodup (io_nodup n 0) List.nodup_range).2 fun k=>by
  rw [List.mem_range]
  exact ⟨io_mem n n 0 (by omega) k,io_all n k⟩
theorem io_len (n:Nat):(io n 0).length=n:=by rw [(io_perm n).length_eq,List.length_range]
theorem rk_at {n k:Nat} (h:k<n):(io n 0)[rk n k]?=some k:=by
 obtain ⟨i,hi⟩:=List.getElem?_of_mem (io_all n k h)
 have hb:base n 0=0:=by rw [base]; simp
 have:=io_rk n n 0 (by omega) i k hi
 rw [hb,Nat.zero_add] at this
 rw [this]; exact hi
theorem rk_lt {n k:Nat} (h:k<n):rk n k<n:=by
 have:=(List.getElem?_eq_some_iff.1 (rk_at h)).1
 rwa [io_len] at this
def wr {β:Type}:List β→List Nat→List β→List β
 | R,k::ks,x::xs=>wr (R.set k x) ks xs
 | R,_,_=>R
theorem wr_app {β:Type}:∀ (a:List Nat) (R:List β) (b:List Nat) (xs:List β),a.length≤xs.length→wr R (a++b) xs=wr (wr R a xs) b (xs.drop a.length)
 | [],R,b,xs,_=>by cases xs <;> rfl
 | k::a,R,b,x::xs,h=>by simp only [List.cons_append,wr,List.length_cons,List.drop_succ_cons]; exact wr_app a _ b xs (by simpa using h)
 | _::_,_,_,[],h=>by simp at h
theorem wr_len {β:Type}:∀ (a:List Nat) (R xs:List β),(wr R a xs).length=R.length
 | [],R,xs=>by cases xs <;> rfl
 | k::a,R,[]=>rfl
 | k::a,R,x::xs=>by rw [wr,wr_len a]; simp
theorem wr_get {β:Type}:∀ (a:List Nat) (R xs:List β),a.Nodup→a.length≤xs.length→(∀ k∈a,k<R.length)→∀ (j:Nat),(wr R a xs)[j]?=match a.findIdx? (· == j) with | some i=>xs[i]? | none=>R[j]?
 | [],R,xs,_,_,_,j=>by cases xs <;> simp [wr]
 | k::a,R,x::xs,hn,hl,hk,j=>by
  rw [List.nodup_cons] at hn
  rw [wr,wr_get a _ xs hn.2 (by simpa using hl) (fun q hq=>by rw [List.length_set]; exact hk q (by simp [hq])) j,List.findIdx?_cons]
  by_cases e:k=j
  ·subst e
   have:a.findIdx? (· == k)=none:=by
    rw [List.findIdx?_eq_none_iff]
    intro q hq
    have:q≠k:=fun e=>hn.1 (e ▸ hq)
    simpa using this
   rw [this]
   have hkl:=hk k (by simp)
   simp [hkl]
  ·have:(k == j)=false:=by simpa using e
   rw [this]
   cases hq:a.findIdx? (· == j) with
   | none=>simp [List.getElem?_set_ne e]
   | some i=>simp
 | _::_,_,[],_,h,_,_=>by simp at h
theorem wr_other {β:Type} {a:List Nat} {R xs:List β} (hn:a.Nodup) (hl:a.length≤xs.length) (hk:∀ k∈a,k<R.length) {j:Nat} (hj:j ∉ a):(wr R a xs)[j]?=R[j]?:=by
 rw [wr_get a R xs hn hl hk]
 have:a.findIdx? (· == j)=none:=by
  rw [List.findIdx?_eq_none_iff]
  intro q hq
  have:q≠j:=fun e=>hj (e ▸ hq)
  simpa using this
 rw [this]
theorem wr_top {β:Type} {n:Nat} {R xs:List β} (hR:R.length=n) (hx:xs.length=n) {k:Nat} (hk:k<n):(wr R (io n 0) xs)[k]?=xs[rk n k]?:=by
 rw [wr_get _ _ _ (io_nodup n 0) (by rw [io_len]; omega) (fun q hq=>by rw [hR]; exact io_mem n n 0 (by omega) q hq)]
 have hr:=rk_at hk
 have hl:=(List.getElem?_eq_some_iff.1 hr).1
 have:(io n 0).findIdx? (· == k)=some (rk n k):=by
  rw [List.findIdx?_eq_some_iff_getElem]
  refine ⟨hl,by rw [(List.getElem?_eq_some_iff.1 hr).2]; simp,fun i hi=>?_⟩
  have:=List.pairwise_iff_getElem.1 (io_nodup n 0) i (rk n k) (by omega) hl hi
  rw [(List.getElem?_eq_some_iff.1 hr).2] at this
  simpa using this
 rw [this]
/-! entries as bytes -/
def rowB (x:Ga):List Int:=s2b x.fName++List.replicate (14-x.fName.size) 0++[wi .u8 x.fIno,0]
def Z16:List Int:=List.replicate 16 0
theorem rowB_len {x:Ga} (h:x.fName.size≤14):(rowB x).length=16:=by
 unfold rowB
 simp only [List.length_append,s2b_len,List.length_replicate,List.length_cons,List.length_nil]
 omega
theorem flat_len:∀ (R:List (List Int)),(∀ z∈R,z.length=16)→R.flatten.length=16*R.length
 | [],_=>rfl
 | z::R,h=>by
  rw [List.flatten_cons,List.length_append,flat_len R (fun q hq=>h q (by simp [hq])),h z (by simp),List.length_cons]; omega
theorem cpyR_mid {A Z B Y:List Int} {i:Nat} (hA:A.length=i) (hY:Y.length≤Z.length):cpyR (A++(Z++B)) i (A++(Z++B)).length Y=A++(Y++(Z.drop Y.length++B)):=by
 have hl:(A++(Z++B)).length=i+(Z.length+B.length):=by simp [hA]
 unfold cpyR
 have hm:Nat.min Y.length ((A++(Z++B)).length-i)=Y.length:=by rw [hl]; exact Nat.min_eq_left (by omega)
 rw [hm,List.take_of_length_le (l:=Y) (by rw [hl]; omega),← hA,List.take_left,List.drop_append,List.drop_of_length_le (by omega),Nat.add_sub_cancel_left,List.drop_append,List.append_assoc,List.nil_append]
 have e:Y.length-Z.length=0:=by omega
 rw [e,List.drop_zero]
theorem flat_put {R:List (List Int)} {k:Nat} {x:Ga} (hR:∀ z∈R,z.length=16) (hk:R[k]?=some Z16) (hx:x.fName.size≤14) :
  (cpyR R.flatten (16*k) R.flatten.length (s2b x.fName)).set (16*k+14) (wi .u8 x.fIno)=(R.set k (rowB x)).flatten∧16*k+14<(cpyR R.flatten (16*k) R.flatten.length (s2b x.fName)).length:=by
 have hkl:=(List.getElem?_eq_some_iff.1 hk).1
 have hkk:=(List.getElem?_eq_some_iff.1 hk).2
 have hd:R=R.take k++Z16::R.drop (k+1):=by rw [← hkk,← List.drop_eq_getElem_cons hkl,List.take_append_drop]
 have hA:(R.take k).flatten.length=16*k:=by
  rw [flat_len _ (fun z hz=>hR z (List.mem_of_mem_take hz)),List.length_take]; omega
 have hset:(R.set k (rowB x)).flatten=(R.take k).flatten++(rowB x++(R.drop (k+1)).flatten):=by
  rw [List.set_eq_take_append_cons_drop,if_pos hkl,List.flatten_append,List.flatten_cons]
 have hf:R.flatten=(R.take k).flatten++(Z16++(R.drop (k+1)).flatten):=by
  conv=>lhs; rw [hd]
  rw [List.flatten_append,List.flatten_cons]
 rw [hset,hf]
 generalize (R.take k).flatten=A at hA
 generalize (R.drop (k+1)).flatten=B
 have hs:=s2b_len x.fName
 rw [cpyR_mid hA (by rw [hs]; show _≤16; omega)]
 have hz:Z16.drop (s2b x.fName).length=List.replicate (14-x.fName.size) 0++[0,0]:=by
  unfold Z16
  rw [hs,List.drop_replicate]
  have:16-x.fName.size=(14-x.fName.size)+2:=by omega
  rw [this,← List.replicate_append_replicate]; rfl
 rw [hz]
 refine ⟨?_,?_⟩
 ·rw [List.set_append_right _ _ (by omega),hA,Nat.add_sub_cancel_left,List.set_append_right _ _ (by omega),List.append_assoc,List.set_append_right _ _ (by simp [hs])]
  have:14-(s2b x.fName).length-(List.replicate (14-x.fName.size) (0:Int)).length=0:=by simp [hs]
  rw [this]
  simp [rowB]
 ·simp [hA,hs]; omega
end Go.Proofs.YtdgocccbagbhjaaGreatDoor.pv.dr
