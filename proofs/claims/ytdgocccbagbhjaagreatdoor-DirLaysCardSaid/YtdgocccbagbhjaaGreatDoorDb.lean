/- Directories: bytes; how entries are laid, on both sides. -/
import Derived.Test.YtdgocccbagbhjaaGreatDoorDa
namespace Go.Proofs.YtdgocccbagbhjaaGreatDoor.pv.dr
set_option linter.all false
open Go.RowKit help pv
def u8 (x:Int):UInt8:=UInt8.ofNat x.toNat
theorem push_fold (L:List Int):∀ acc:ByteArray,(L.foldl (fun r n=>r.push (UInt8.ofNat n.toNat)) acc).data=acc.data++(L.map u8).toArray:=by
 induction L with
 | nil=>intro acc; simp
 | cons a L ih =>
  intro acc
  rw [List.foldl_cons,ih]
  show acc.data.push (u8 a)++(L.map u8).toArray=acc.data++((u8 a::L.map u8)).toArray
  apply Array.ext'
  simp
theorem b2s_data (L:List Int):(b2s L).data=(L.map u8).toArray:=by
 unfold b2s
 rw [push_fold]
 show (#[]:Array UInt8)++_=_
 simp
theorem b2s_app (L K:List Int):b2s L++b2s K=b2s (L++K):=by
 apply ByteArray.ext
 rw [ByteArray.data_append,b2s_data,b2s_data,b2s_data]
 simp
theorem b2s_size (L:List Int):(b2s L).size=L.length:=by
 show (b2s L).data.size=_
 rw [b2s_data]; simp
theorem cat_b2s (L K:List Int) (h:L.length+K.length≤1000000):catS (b2s L) (b2s K)=some (b2s (L++K)):=by
 unfold catS
 rw [b2s_size,b2s_size,if_pos (by omega),b2s_app]
theorem rep_zero (c:Nat):Lib.repeatL [0] c=List.replicate c (0:UInt8):=by
 induction c with
 | zero=>rfl
 | succ c ih=>rw [Lib.repeatL,ih]; rfl
theorem repeat_b2s (n c:Nat) (h:c≤100):Zv n (ByteArray.mk #[0]) (c:Int)=some (b2s (List.replicate c 0)):=by
 unfold Zv
 have hs:(ByteArray.mk #[0]).size=1:=rfl
 rw [hs,if_pos ⟨by omega,by omega,by simp; omega⟩,Int.toNat_natCast]
 congr 1
 apply ByteArray.ext
 rw [b2s_data]
 have:(ByteArray.mk #[0]).data.toList=[0]:=rfl
 rw [this,rep_zero]
 simp [u8]
def By (l:List Int):Prop:=∀ x∈l,0≤x∧x<256
theorem u8_inj {x y:Int} (hx:0≤x∧x<256) (hy:0≤y∧y<256) (h:u8 x=u8 y):x=y:=by
 have:=congrArg UInt8.toNat h
 unfold u8 at this
 rw [UInt8.toNat_ofNat_of_lt' (by show x.toNat<256; omega),UInt8.toNat_ofNat_of_lt' (by show y.toNat<256; omega)] at this
 omega
theorem map_u8_inj:∀ (L K:List Int),By L→By K→L.map u8=K.map u8→L=K
 | [],[],_,_,_=>rfl
 | [],_::_,_,_,h=>by simp at h
 | _::_,[],_,_,h=>by simp at h
 | x::L,y::K,hL,hK,h=>by
  simp only [List.map_cons,List.cons.injEq] at h
  rw [u8_inj (hL x (List.mem_cons_self ..)) (hK y (List.mem_cons_self ..)) h.1,map_u8_inj L K (fun z hz=>hL z (List.mem_cons_of_mem _ hz)) (fun z hz=>hK z (List.mem_cons_of_mem _ hz)) h.2]
theorem b2s_toList (L:List Int):(b2s L).toList=L.map u8:=by
 rw [ByteArray.toList_eq,b2s_data]
theorem str_eq (L K:List Int) (hL:By L) (hK:By K):((b2s L).toList == (b2s K).toList)=decide (L=K):=by
 rw [b2s_toList,b2s_toList]
 by_cases h:L=K
 ·subst h; simp
 ·rw [decide_eq_false h,beq_eq_false_iff_ne]
  exact fun q=>h (map_u8_inj L K hL hK q)
theorem By.app {L K:List Int} (h1:By L) (h2:By K):By (L++K):=fun x hx=>by
 rcases List.mem_append.1 hx with q | q
 ·exact h1 x q
 ·exact h2 x q
theorem By.rep (m:Nat):By (List.replicate m 0):=fun x hx=>by
 rw [List.mem_replicate] at hx; omega
theorem b2s_s2b (s:ByteArray):b2s (s2b s)=s:=by
 apply ByteArray.ext
 rw [b2s_data]
 unfold s2b
 apply Array.ext'
 simp only [List.map_map]
 have:∀ L:List UInt8,L.map (u8 ∘ fun b:UInt8=>(b.toNat:Int))=L:=by
  intro L
  induction L with
  | nil=>rfl
  | cons x L ih =>
   rw [List.map_cons,ih]
   congr 1
   show UInt8.ofNat ((x.toNat:Int)).toNat=x
   rw [Int.toNat_natCast]; exact UInt8.ofNat_toNat
 rw [this]
theorem s2b_by (s:ByteArray):By (s2b s):=fun x hx=>by
 unfold s2b at hx
 obtain ⟨b,_,rfl⟩:=List.mem_map.1 hx
 have:=b.toNat_lt
 omega
theorem s2b_b2s {L:List Int} (h:By L):s2b (b2s L)=L:=map_u8_inj _ _ (s2b_by _) h (by
 have:=congrArg (fun s:ByteArray=>s.data) (b2s_s2b (b2s L))
 simp only [b2s_data] at this
 exact Array.toList_inj.2 this |> fun h=>by simpa using h)
theorem wr_P {β:Type} {P:β→Prop}:∀ (a:List Nat) (R xs:List β),(∀ z∈R,P z)→(∀ z∈xs,P z)→∀ z∈wr R a xs,P z
 | [],R,xs,h,_=>by cases xs <;> exact h
 | k::a,R,[],h,_=>h
 | k::a,R,x::xs,h,h'=>by
  rw [wr]
  refine wr_P a _ xs (fun z hz=>?_) (fun z hz=>h' z (by simp [hz]))
  rcases List.mem_or_eq_of_mem_set hz with q | rfl
  ·exact h z q
  ·exact h' _ (by simp)
theorem lay_is {L:List Ga} (hL:L.length≤32) (hs:∀ x∈L,x.fName.size≤14):∀ (m a:Nat),L.length-a≤m→a≤100→∀ (f:Nat),m+1≤f→∀ (R:List (List Int)) (next:Nat),R.length=L.length→(∀ z∈R,z.length=16)→(∀ k∈io L.length a,R[k]?=some Z16)→next+(io L.length a).length≤L.length →
  Ko f (a:Int) L R.flatten (next:Int)=some (L,(wr R (io L.length a) ((L.map rowB).drop next)).flatten,((next+(io L.length a).length:Nat):Int))
 | m,a,hm,ha,f+1,hf,R,next,hR,h16,hz,hn=>by
  rw [Ko]
  by_cases h1:a<L.length
  ·obtain ⟨m,rfl⟩:∃ z,m=z+1:=⟨m-1,by omega⟩
   have hio:=io_lt h1
   have hnd:=io_nodup L.length a
   rw [hio] at hnd hz hn
   rw [List.nodup_append] at hnd
   obtain ⟨n1,n2,n3⟩:=hnd
   rw [List.nodup_cons] at n2
   simp only [List.length_append,List.length_cons] at hn
   have hX:((L.map rowB).drop next).length=L.length-next:=by simp
   have e1:wi .i64 ((wi .i64 (2*(a:Int)))+1)=((2*a+1:Nat):Int):=by rw [wi64 (x:=2*(a:Int)) (by omega) (by omega),wi64 (by omega) (by omega)]; omega
   have e2:wi .i64 ((wi .i64 (2*(a:Int)))+2)=((2*a+2:Nat):Int):=by rw [wi64 (x:=2*(a:Int)) (by omega) (by omega),wi64 (by omega) (by omega)]; omega
   have e3:wi .i64 (16*(a:Int))=((16*a:Nat):Int):=by rw [wi64 (by omega) (by omega)]; omega
   have e4:wi .i64 (((16*a:Nat):Int)+14)=((16*a+14:Nat):Int):=by rw [wi64 (by omega) (by omega)]; omega
   have hl:=lay_is hL hs m (2*a+1) (by omega) (by omega) f (by omega) R next hR h16 (fun k hk=>hz k (by simp [hk])) (by omega)
   generalize hl0:(io L.length (2*a+1)).length=l at hl hn
   have hkl:∀ k∈io L.length (2*a+1),k<R.length:=fun k hk=>by rw [hR]; exact io_mem L.length L.length _ (by omega) k hk
   have hxl:(io L.length (2*a+1)).length≤((L.map rowB).drop next).length:=by rw [hX,hl0]; omega
   generalize hR1:wr R (io L.length (2*a+1)) ((L.map rowB).drop next)=R1 at hl
   have hR1l:R1.length=L.length:=by rw [← hR1,wr_len]; exact hR
   have h161:∀ z∈R1,z.length=16:=by
    rw [← hR1]
    refine wr_P _ _ _ h16 fun z hz=>?_
    obtain ⟨x,hx,rfl⟩:=List.mem_map.1 (List.mem_of_mem_drop hz)
    exact rowB_len (hs x hx)
   have hoth:∀ j,j ∉ io L.length (2*a+1)→R1[j]?=R[j]?:=fun j hj=>by rw [← hR1]; exact wr_other n1 hxl hkl hj
   have hy:next+l<L.length:=by omega
   have hya:R1[a]?=some Z16:=by rw [hoth a (fun q=>n3 a q a (by simp) rfl)]; exact hz a (by simp)
   have hsz:=hs L[next+l] (List.getElem_mem hy)
   obtain ⟨p1,p2⟩:=flat_put h161 hya hsz
   have hfl:=flat_len R1 h161
   have hr:=lay_is hL hs m (2*a+2) (by omega) (by omega) f (by omega) (R1.set a (rowB L[next+l])) (next+l+1) (by rw [List.length_set]; exact hR1l) (fun z hz=>by
     rcases List.mem_or_eq_of_mem_set hz with q | rfl
     ·exact h161 z q
     ·exact rowB_len hsz) (fun k hk=>by
     have hka:a≠k:=fun e=>by subst e; exact n2.1 hk
     rw [List.getElem?_set_ne hka,hoth k (fun q=>n3 k q k (by simp [hk]) rfl)]
     exact hz k (by simp [hk])) (by omega)
   rw [if_neg (by omega),e1]
   dsimp only
   rw [hl,Option.bind_some]
   simp only
   rw [e2,e3,e4,if_pos ⟨by omega,by rw [hfl,hR1l]; omega⟩,if_pos ⟨by omega,by rw [Int.toNat_natCast]; exact hy⟩,Int.toNat_natCast,Int.toNat_natCast,Int.toNat_natCast,List.getElem?_eq_getElem hy,Option.bind_some,if_pos (Nat.le_refl _),if_pos ⟨by omega,hy⟩,Option.bind_some,if_pos ⟨by omega,p2⟩,List.getElem?_eq_getElem p2,Option.bind_some,p1]
   have e5:wi .i64 (((next+l:Nat):Int)+1)=((next+l+1:Nat):Int):=wi_succ (by omega)
   rw [e5,hr,Option.bind_some]
   have hdr:(((L.map rowB).drop next).drop l)=rowB L[next+l]::(L.map rowB).drop (next+l+1):=by
    rw [List.drop_drop,List.drop_eq_getElem_cons (by simp; exact hy)]
    simp
   have hw:wr R (io L.length a) ((L.map rowB).drop next)=wr (R1.set a (rowB L[next+l])) (io L.length (2*a+2)) ((L.map rowB).drop (next+l+1)):=by
    rw [hio,wr_app _ _ _ _ hxl,hR1,hl0,hdr,wr]
   rw [hw,hio]
   simp only [List.length_append,List.length_cons,hl0]
   congr 3
   omega
  ·rw [if_pos (by omega),io_ge h1]
   cases hq:(L.map rowB).drop next <;> rfl
theorem many_is {n:Nat} (hn:n≤1000):∀ (m a:Nat),n-a≤m→a≤10000→∀ (f:Nat),m+1≤f→SY f (a:Int) (n:Int)=some (((io n a).length:Nat):Int)∧(io n a).length≤n
 | m,a,hm,ha,f+1,hf=>by
  have hle:(io n a).length≤n:=by
   have:=(io_nodup n a).length_le_of_subset (l₂:=List.range n) fun k hk=>List.mem_range.2 (io_mem n n a (by omega) k hk)
   simpa using this
  refine ⟨?_,hle⟩
  rw [SY]
  by_cases h1:a<n
  ·obtain ⟨m,rfl⟩:∃ z,m=z+1:=⟨m-1,by omega⟩
   have e1:wi .i64 ((wi .i64 (2*(a:Int)))+1)=((2*a+1:Nat):Int):=by rw [wi64 (x:=2*(a:Int)) (by omega) (by omega),wi64 (by omega) (by omega)]; omega
   have e2:wi .i64 ((wi .i64 (2*(a:Int)))+2)=((2*a+2:Nat):Int):=by rw [wi64 (x:=2*(a:Int)) (by omega) (by omega),wi64 (by omega) (by omega)]; omega
   obtain ⟨q1,q2⟩:=many_is hn m (2*a+1) (by omega) (by omega) f (by omega)
   obtain ⟨q3,q4⟩:=many_is hn m (2*a+2) (by omega) (by omega) f (by omega)
   rw [if_neg (by omega),e1,e2,q1,Option.bind_some,q3,Option.bind_some,wi64 (x:=1+_) (by omega) (by omega),wi64 (by omega) (by omega),io_lt h1]
   simp only [List.length_append,List.length_cons]
   congr 1
   omega
  ·rw [if_pos (by omega),io_ge h1]; rfl
def path (k:Nat):List Nat:=if h:k=0 then [] else path ((k-1) / 2)++[k]
termination_by k
theorem path_pos {k:Nat} (h:k≠0):path k=path ((k-1) / 2)++[k]:=by rw [path,dif_neg h]
def stp (n:Nat) (s:Nat×Nat) (i:Nat):Nat×Nat:=(i,if i=2*s.1+2 then s.2+(1+(io n (2*s.1+1)).length) else s.2)
theorem path_base (n k:Nat):(path k).foldl (stp n) (0,0)=(k,base n k):=by
 induction k using Nat.strongRecOn with
 | _ k ih =>
  by_cases h:k=0
  ·subst h; rw [path,base]; rfl
  ·rw [path_pos h,List.foldl_append,ih _ (by omega),List.foldl_cons,List.foldl_nil]
   unfold stp
   simp only
   by_cases h2:k % 2=1
   ·rw [if_neg (by omega)]
    have:k=2*((k-1) / 2)+1:=by omega
    conv=>rhs; rw [this,base_l]
    rw [← this]
   ·have e:k=2*((k-1) / 2)+2:=by omega
    rw [if_pos e]
    conv=>rhs; rw [e,base_r]
    rw [← e]
    congr 1
    omega
theorem path_len (k:Nat):(path k).length≤k:=by
 induction k using Nat.strongRecOn with
 | _ k ih =>
  by_cases h:k=0
  ·subst h; rw [path]; simp
  ·rw [path_pos h,List.length_append]
   have:=ih ((k-1) / 2) (by omega)
   simp only [List.length_singleton]
   omega
theorem path_mem (k:Nat):∀ x∈path k,x≤k:=by
 induction k using Nat.strongRecOn with
 | _ k ih =>
  intro x hx
  by_cases h:k=0
  ·subst h; rw [path] at hx; simp at hx
  ·rw [path_pos h,List.mem_append,List.mem_singleton] at hx
   rcases hx with hx | rfl
   ·have:=ih ((k-1) / 2) (by omega) x hx; omega
   ·exact Nat.le_refl _
theorem rank_l1 (n:Nat) (K N:Int):∀ (k t:Nat),k<t→k≤1000→∀ (w:List Nat),w.length+k≤1000→SS n K N t (k:Int) (w.map fun x:Nat=>(x:Int))=some (.x0 ((path k++w).map fun x:Nat=>(x:Int)))
 | k,t+1,h,hk,w,hw=>by
  rw [SS]
  by_cases h1:k=0
  ·subst h1; rw [if_neg (by omega),path]; rfl
  ·have e:quoI .i64 (wi .i64 ((k:Int)-1)) 2=(((k-1) / 2:Nat):Int):=by
    rw [wi64 (by omega) (by omega),quo_i64 (by omega) (by omega) (by omega)]; omega
   have ea:([(k:Int)]++w.map fun x:Nat=>(x:Int))=(k::w).map fun x:Nat=>(x:Int):=rfl
   rw [if_pos (by omega),app_some (by simp; omega) (by omega),Option.bind_some,e,ea,rank_l1 n K N ((k-1) / 2) t (by omega) (by omega) (k::w) (by simp; omega),path_pos h1]
   simp
theorem rank_l2 {n N:Nat} (hN:N≤1000) (hn:2000≤n) (K:Int) (W:List Nat) (hW:∀ x∈W,x≤1000) (hl:W.length≤1000):∀ (t x a h:Nat),W.length-x<t→x≤W.length→a≤1000→h≤1001*x →
  SL n K (N:Int) (W.map fun x:Nat=>(x:Int)) t (a:Int) (h:Int) (x:Int) (W.map fun x:Nat=>(x:Int))=some (.x0 (((W.drop x).foldl (stp N) (a,h)).2:Nat))
 | 0,x,a,h,ht,_,_,_=>by omega
 | t+1,x,a,h,ht,hx,ha,hh=>by
  rw [SL,List.length_map]
  by_cases h1:x<W.length
  ·have hg:(W.map fun x:Nat=>(x:Int))[x]?=some ((W[x]:Nat):Int):=by rw [List.getElem?_map,List.getElem?_eq_getElem h1]; rfl
   have e1:wi .i64 ((wi .i64 (2*(a:Int)))+1)=((2*a+1:Nat):Int):=by rw [wi64 (x:=2*(a:Int)) (by omega) (by omega),wi64 (by omega) (by omega)]; omega
   have e2:wi .i64 ((wi .i64 (2*(a:Int)))+2)=((2*a+2:Nat):Int):=by rw [wi64 (x:=2*(a:Int)) (by omega) (by omega),wi64 (by omega) (by omega)]; omega
   have hwx:=hW W[x] (List.getElem_mem h1)
   obtain ⟨q1,q2⟩:=many_is (n:=N) hN N (2*a+1) (by omega) (by omega) n (by omega)
   rw [if_pos (by omega),if_pos ⟨by omega,by rw [Int.toNat_natCast]; exact h1⟩,Int.toNat_natCast,hg,Option.bind_some,e2,wi_succ (by omega),List.drop_eq_getElem_cons h1,List.foldl_cons]
   have hst:stp N (a,h) W[x]=(W[x],if W[x]=2*a+2 then h+(1+(io N (2*a+1)).length) else h):=rfl
   rw [hst]
   by_cases h2:W[x]=2*a+2
   ·rw [if_pos (by omega),if_pos h2,e1,q1,Option.bind_some]
    have e3:wi .i64 ((h:Int)+(wi .i64 (1+(((io N (2*a+1)).length:Nat):Int))))=((h+(1+(io N (2*a+1)).length):Nat):Int):=by
     rw [wi64 (x:=1+_) (by omega) (by omega),wi64 (by omega) (by omega)]; omega
    rw [e3,rank_l2 hN hn K W hW hl t (x+1) W[x] _ (by omega) (by omega) hwx (by omega)]
   ·rw [if_neg (by omega),if_neg h2,rank_l2 hN hn K W hW hl t (x+1) W[x] h (by omega) (by omega) hwx (by omega)]
  ·rw [if_neg (by omega),List.drop_eq_nil_of_le (by omega)]; rfl
theorem rank_is {n N k:Nat} (hN:N≤1000) (hn:2000≤n) (hk:k<N):ZO n (k:Int) (N:Int)=some ((rk N k:Nat):Int):=by
 unfold ZO
 have h1:=rank_l1 n (k:Int) (N:Int) k n (by omega) (by omega) [] (by simp; omega)
 have h1:SS n (k:Int) (N:Int) n (k:Int) []=_:=h1
 rw [h1,Option.bind_some]
 simp only [List.append_nil]
 have hpl:=path_len k
 have h2:=rank_l2 (n:=n) (N:=N) hN hn (k:Int) (path k) (fun x hx=>by have:=path_mem k x hx; omega) (by omega) n 0 0 0 (by omega) (by omega) (by omega) (by omega)
 have h2:SL n (k:Int) (N:Int) ((path k).map fun x:Nat=>(x:Int)) n 0 0 0 ((path k).map fun x:Nat=>(x:Int))=_:=h2
 rw [h2,Option.bind_some]
 simp only [List.drop_zero,path_base]
 have e1:wi .i64 ((wi .i64 (2*(k:Int)))+1)=((2*k+1:Nat):Int):=by rw [wi64 (x:=2*(k:Int)) (by omega) (by omega),wi64 (by omega) (by omega)]; omega
 obtain ⟨q1,q2⟩:=many_is (n:=N) hN N (2*k+1) (by omega) (by omega) n (by omega)
 have hr:=rk_lt hk
 unfold rk at hr
 rw [e1,q1,Option.bind_some,wi64 (by omega) (by omega)]
 unfold rk
 congr 1
end Go.Proofs.YtdgocccbagbhjaaGreatDoor.pv.dr
