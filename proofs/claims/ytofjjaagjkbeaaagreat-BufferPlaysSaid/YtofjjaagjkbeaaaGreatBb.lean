/- BufferPlays: maps, and what a cache holds beside the document's. -/
import Derived.Test.YtofjjaagjkbeaaaGreatBa
import Derived.Test.YtofjjaagjkbeaaaGreatSpB
namespace Go.Proofs.YtofjjaagjkbeaaaGreat.pv.bp
set_option linter.all false
open Go.RowKit help pv ld
section
variable {κ ν:Type} [DecidableEq κ]
theorem mplc_none:∀ {E:List (κ×ν)} {k:κ},mplc E k=none↔k ∉ E.map (·.1)
 | [],k=>by simp [mplc]
 | p::E,k=>by
  unfold mplc
  by_cases h:k=p.1
  ·simp [h]
  ·rw [if_neg h]
   have ih:=mplc_none (E:=E) (k:=k)
   simp only [Option.map_eq_none_iff,ih,List.map_cons,List.mem_cons,not_or]
   exact ⟨fun q=>⟨h,q⟩,fun q=>q.2⟩
theorem mget_none {E:List (κ×ν)} {k:κ}:mget E k=none↔k ∉ E.map (·.1):=by
 unfold mget; rw [Option.map_eq_none_iff]; exact mplc_none
theorem mget_cons (p:κ×ν) (L:List (κ×ν)) (j:κ):mget (p::L) j=if j=p.1 then some p.2 else mget L j:=by
 have e:mplc (p::L) j=if j=p.1 then some (0,p.2) else (mplc L j).map fun q=>(q.1+1,q.2):=by rw [mplc]
 unfold mget
 rw [e]
 by_cases h:j=p.1
 ·rw [if_pos h,if_pos h]; rfl
 ·rw [if_neg h,if_neg h]; cases mplc L j <;> rfl
theorem keys_mput (E:List (κ×ν)) (k:κ) (v:ν):(mput E k v).map (·.1)=if k∈E.map (·.1) then E.map (·.1) else E.map (·.1)++[k]:=by
 unfold mput
 cases h:mplc E k with
 | none=>rw [if_neg (mplc_none.1 h)]; simp
 | some q =>
  obtain ⟨i,v0⟩:=q
  have hi:=mplc_some h
  have hm:k∈E.map (·.1):=by
   have:¬ mplc E k=none:=by rw [h]; simp
   rw [mplc_none] at this
   exact Classical.not_not.1 this
  rw [if_pos hm]
  apply List.ext_getElem?
  intro j
  simp only [List.getElem?_map,List.getElem?_set]
  by_cases e:i=j
  ·subst e
   have hlt:i<E.length:=(List.getElem?_eq_some_iff.1 hi).1
   rw [if_pos rfl,if_pos hlt,hi]; rfl
  ·rw [if_neg e]
theorem keys_mdel:∀ (E:List (κ×ν)) (k:κ),(mdel E k).map (·.1)=(E.map (·.1)).erase k
 | [],k=>by simp [mdel,mplc]
 | p::E,k=>by
  have ih:=keys_mdel E k
  unfold mdel at ih ⊢
  unfold mplc
  by_cases h:k=p.1
  ·simp [h]
  ·rw [if_neg h]
   have hb:(p.1 == k)=false:=by simpa using fun e=>h e.symm
   cases hq:mplc E k with
   | none =>
    rw [hq] at ih
    simp only [Option.map_none]
    rw [List.map_cons,List.erase_cons_tail (by simpa using hb),← ih]
   | some q =>
    rw [hq] at ih
    simp only [Option.map_some]
    rw [List.map_cons,List.erase_cons_tail (by simpa using hb),← ih]
    simp
theorem mget_mdel:∀ (E:List (κ×ν)) (k:κ),(E.map (·.1)).Nodup→∀ j,mget (mdel E k) j=if j=k then none else mget E j
 | [],k,_,j=>by simp [mdel,mplc,mget]
 | p::E,k,hn,j=>by
  rw [List.map_cons,List.nodup_cons] at hn
  have ih:=mget_mdel E k hn.2 j
  unfold mdel at ih ⊢
  unfold mplc
  by_cases h:k=p.1
  ·subst h
   simp only [if_true]
   rw [List.eraseIdx_cons_zero]
   by_cases hj:j=p.1
   ·rw [if_pos hj,mget_none,hj]; exact hn.1
   ·rw [if_neg hj,mget_cons,if_neg hj]
  ·rw [if_neg h]
   cases hq:mplc E k with
   | none =>
    rw [hq] at ih
    simp only [Option.map_none] at ih ⊢
    by_cases hj:j=k
    ·subst hj
     rw [if_pos rfl,mget_cons,if_neg h]
     unfold mget
     rw [hq]; rfl
    ·rw [if_neg hj]
   | some q =>
    rw [hq] at ih
    simp only [Option.map_some] at ih ⊢
    rw [List.eraseIdx_cons_succ]
    rw [mget_cons,mget_cons,ih]
    by_cases hj:j=p.1
    ·rw [if_pos hj,if_pos hj,if_neg (fun e=>h (e.symm.trans hj))]
    ·rw [if_neg hj,if_neg hj]
theorem nd_mput {E:List (κ×ν)} (h:(E.map (·.1)).Nodup) (k:κ) (v:ν):((mput E k v).map (·.1)).Nodup:=by
 rw [keys_mput]
 split
 ·exact h
 ·rename_i hn
  rw [List.nodup_append]
  exact ⟨h,by simp,fun a ha b hb e=>hn (by rw [List.mem_singleton.1 hb] at e; rw [← e]; exact ha)⟩
theorem nd_mdel {E:List (κ×ν)} (h:(E.map (·.1)).Nodup) (k:κ):((mdel E k).map (·.1)).Nodup:=by
 rw [keys_mdel]; exact h.erase k
end
abbrev Sl:=Nat×List Int×Bool
def toS (c:Sl):Gd:=⟨(c.1:Int),c.2.1,c.2.2⟩
def nm (c:Sl):Int:=(c.1:Int)
def fnd (C:List Sl) (N:Int):Option Sl:=C.find? (fun c=>nm c == N)
theorem fnd_cons (c:Sl) (C:List Sl) (N:Int):fnd (c::C) N=if N=nm c then some c else fnd C N:=by
 unfold fnd
 rw [List.find?_cons]
 by_cases h:nm c=N
 ·rw [if_pos h.symm]; simp [h]
 ·rw [if_neg (fun e=>h e.symm)]
  have:(nm c == N)=false:=by simpa using h
  rw [this]
theorem fnd_mem {C:List Sl} (hn:(C.map nm).Nodup) {c:Sl} (h:c∈C):fnd C (nm c)=some c:=by
 induction C with
 | nil=>cases h
 | cons a C ih =>
  rw [List.map_cons,List.nodup_cons] at hn
  rw [fnd_cons]
  rcases List.mem_cons.1 h with rfl | h
  ·rw [if_pos rfl]
  ·rw [if_neg (fun e=>hn.1 (by rw [← e]; exact List.mem_map.2 ⟨c,h,rfl⟩))]; exact ih hn.2 h
theorem fnd_none {C:List Sl} {N:Int}:fnd C N=none↔N ∉ C.map nm:=by
 unfold fnd
 rw [List.find?_eq_none]
 simp only [List.mem_map,not_exists,not_and,beq_iff_eq]
theorem fnd_filter (C:List Sl) (n N:Int) (h:N≠n):fnd (C.filter fun c=>nm c != n) N=fnd C N:=by
 induction C with
 | nil=>rfl
 | cons a C ih =>
  rw [List.filter_cons]
  by_cases e:nm a=n
  ·have:(nm a != n)=false:=by simpa using e
   rw [this,fnd_cons,if_neg (fun q:N=nm a=>h (q.trans e))]
   simpa using ih
  ·have:(nm a != n)=true:=by simpa using e
   rw [if_pos this,fnd_cons,fnd_cons,ih]
structure CI (S:Nat) (C:List Sl) (u:List (Int×Int)) (da:List (Int×ByteArray)) (di:List (Int×Bool)) (now:Int) (k:Nat):Prop where
 nd:(C.map nm).Nodup
 perm:(u.map (·.1)).Perm (C.map nm)
 ord:C.Pairwise fun a b=>(mget u (nm b)).getD 0<(mget u (nm a)).getD 0
 le:∀ c∈C,(mget u (nm c)).getD 0≤now
 nda:(da.map (·.1)).Nodup
 ndi:(di.map (·.1)).Nodup
 data:∀ N,mget da N=(fnd C N).map fun c=>b2s c.2.1
 dirty:∀ N,mget di N=(fnd C N).map fun c=>c.2.2
 wf:∀ c∈C,c.1<S∧c.2.1.length=64∧By c.2.1
 now0:0≤now∧now≤(k:Int)
theorem CI.ndu {S:Nat} {C:List Sl} {u:List (Int×Int)} {da:List (Int×ByteArray)} {di:List (Int×Bool)} {now:Int} {k:Nat} (h:CI S C u da di now k):(u.map (·.1)).Nodup:=h.perm.nodup_iff.2 h.nd
theorem CI.has {S:Nat} {C:List Sl} {u:List (Int×Int)} {da:List (Int×ByteArray)} {di:List (Int×Bool)} {now:Int} {k:Nat} (h:CI S C u da di now k) (N:Int):(mget u N).isSome=(fnd C N).isSome:=by
 cases hc:fnd C N with
 | none =>
  have:mget u N=none:=by rw [mget_none,h.perm.mem_iff]; exact fnd_none.1 hc
  rw [this]; rfl
 | some c =>
  cases hq:mget u N with
  | some _=>rfl
  | none =>
   rw [mget_none,h.perm.mem_iff,← fnd_none,hc] at hq
   cases hq
theorem CI.ins {S:Nat} {C:List Sl} {u:List (Int×Int)} {da:List (Int×ByteArray)} {di:List (Int×Bool)} {now:Int} {k:Nat} (h:CI S C u da di now k) (s:Sl) (hs:s.1<S∧s.2.1.length=64∧By s.2.1) :
  CI S (s::C.filter fun c=>nm c != nm s) (mput u (nm s) (now+1)) (mput da (nm s) (b2s s.2.1)) (mput di (nm s) s.2.2) (now+1) (k+1):=by
 have hsub:∀ c∈C.filter (fun c=>nm c != nm s),c∈C∧nm c≠nm s:=fun c hc=>by
  have:=List.mem_filter.1 hc
  exact ⟨this.1,by simpa using this.2⟩
 have hnd:((C.filter fun c=>nm c != nm s).map nm).Nodup:=(List.Sublist.map nm List.filter_sublist).nodup h.nd
 have hni:nm s ∉ (C.filter fun c=>nm c != nm s).map nm:=fun hm=>by
  obtain ⟨c,hc,e⟩:=List.mem_map.1 hm
  exact (hsub c hc).2 e
 refine ⟨by rw [List.map_cons,List.nodup_cons]; exact ⟨hni,hnd⟩,?_,?_,?_,nd_mput h.nda _ _,nd_mput h.ndi _ _,?_,?_,?_,?_⟩
 ·rw [keys_mput,List.map_cons]
  have hfm:(C.filter fun c=>nm c != nm s).map nm=(C.map nm).filter fun x=>x != nm s:=by
   rw [List.filter_map]; rfl
  rw [hfm]
  split
  ·rename_i hm
   refine h.perm.trans ?_
   rw [h.perm.mem_iff] at hm
   rw [← List.Nodup.erase_eq_filter h.nd]
   exact List.perm_cons_erase hm
  ·rename_i hm
   rw [h.perm.mem_iff] at hm
   have:(C.map nm).filter (fun x=>x != nm s)=C.map nm:=List.filter_eq_self.2 fun x hx=>by
    have:x≠nm s:=fun e=>hm (by rw [← e]; exact hx)
    simpa using this
   rw [this]
   exact (h.perm.append_right _).trans List.perm_append_comm
 ·rw [List.pairwise_cons]
  refine ⟨fun c hc=>?_,?_⟩
  ·obtain ⟨h1,h2⟩:=hsub c hc
   rw [mget_mput,mget_mput,if_neg h2,if_pos rfl]
   have:=h.le c h1
   show _<now+1
   omega
  ·have hp:=h.ord.filter (fun c=>nm c != nm s)
   refine List.Pairwise.imp_of_mem (fun {a b} ha hb hab=>?_) hp
   rw [mget_mput,mget_mput,if_neg (hsub a ha).2,if_neg (hsub b hb).2]
   exact hab
 ·intro c hc
  rcases List.mem_cons.1 hc with rfl | hc
  ·rw [mget_mput,if_pos rfl]; exact Int.le_refl _
  ·obtain ⟨h1,h2⟩:=hsub c hc
   rw [mget_mput,if_neg h2]
   have:=h.le c h1
   omega
 ·intro N
  rw [mget_mput,fnd_cons]
  by_cases e:N=nm s
  ·rw [if_pos e,if_pos e]; rfl
  ·rw [if_neg e,if_neg e,fnd_filter _ _ _ e]; exact h.data N
 ·intro N
  rw [mget_mput,fnd_cons]
  by_cases e:N=nm s
  ·rw [if_pos e,if_pos e]; rfl
  ·rw [if_neg e,if_neg e,fnd_filter _ _ _ e]; exact h.dirty N
 ·intro c hc
  rcases List.mem_cons.1 hc with rfl | hc
  ·exact hs
  ·exact h.wf c (hsub c hc).1
 ·have:=h.now0; omega
theorem CI.evict {S:Nat} {C:List Sl} {c:Sl} {u:List (Int×Int)} {da:List (Int×ByteArray)} {di:List (Int×Bool)} {now:Int} {k:Nat} (h:CI S (C++[c]) u da di now k) :
  CI S C (mdel u (nm c)) (mdel da (nm c)) (mdel di (nm c)) now k:=by
 have hnd:=h.nd
 rw [List.map_append,List.nodup_append] at hnd
 obtain ⟨n1,_,n3⟩:=hnd
 have hne:∀ x∈C,nm x≠nm c:=fun x hx e=>n3 (nm x) (List.mem_map.2 ⟨x,hx,rfl⟩) (nm c) (by simp) e
 have hni:nm c ∉ C.map nm:=fun hm=>by
  obtain ⟨x,hx,e⟩:=List.mem_map.1 hm
  exact hne x hx e
 have hf:∀ N,fnd C N=if N=nm c then none else fnd (C++[c]) N:=fun N=>by
  by_cases e:N=nm c
  ·rw [if_pos e,fnd_none,e]; exact hni
  ·rw [if_neg e]
   unfold fnd
   rw [List.find?_append]
   have:([c].find? fun c=>nm c == N)=none:=by simp; exact fun q=>e q.symm
   rw [this]; simp
 refine ⟨n1,?_,?_,?_,nd_mdel h.nda _,nd_mdel h.ndi _,?_,?_,fun x hx=>h.wf x (by simp [hx]),h.now0⟩
 ·rw [keys_mdel]
  have:=(h.perm.erase (nm c))
  rw [List.map_append,List.erase_append_right _ hni] at this
  simpa using this
 ·have hp:=h.ord
  rw [List.pairwise_append] at hp
  refine List.Pairwise.imp_of_mem (fun {a b} ha hb hab=>?_) hp.1
  rw [mget_mdel _ _ h.ndu,mget_mdel _ _ h.ndu,if_neg (hne a ha),if_neg (hne b hb)]
  exact hab
 ·intro x hx
  rw [mget_mdel _ _ h.ndu,if_neg (hne x hx)]
  exact h.le x (by simp [hx])
 ·intro N
  rw [mget_mdel _ _ h.nda,hf]
  split
  ·rfl
  ·exact h.data N
 ·intro N
  rw [mget_mdel _ _ h.ndi,hf]
  split
  ·rfl
  ·exact h.dirty N
theorem CI.clean {S:Nat} {X Y:List Sl} {c:Sl} {u:List (Int×Int)} {da:List (Int×ByteArray)} {di:List (Int×Bool)} {now:Int} {k:Nat} (h:CI S (X++c::Y) u da di now k) :
  CI S (X++(c.1,c.2.1,false)::Y) u da (mput di (nm c) false) now k:=by
 have hnm:(X++(c.1,c.2.1,false)::Y).map nm=(X++c::Y).map nm:=by simp [nm]
 have hf:∀ N,fnd (X++(c.1,c.2.1,false)::Y) N=if N=nm c then some (c.1,c.2.1,false) else fnd (X++c::Y) N:=by
  intro N
  by_cases e:N=nm c
  ·rw [if_pos e,e]
   exact fnd_mem (c:=(c.1,c.2.1,false)) (by rw [hnm]; exact h.nd) (by simp)
  ·rw [if_neg e]
   unfold fnd
   rw [List.find?_append,List.find?_append,List.find?_cons,List.find?_cons]
   have h1:(nm (c.1,c.2.1,false) == N)=false:=by simpa using fun q=>e q.symm
   have h2:(nm c == N)=false:=by simpa using fun q=>e q.symm
   rw [h1,h2]
 have hmem:∀ x∈X++(c.1,c.2.1,false)::Y,∃ y∈X++c::Y,nm x=nm y∧x.1=y.1∧x.2.1=y.2.1:=fun x hx=>by
  rcases List.mem_append.1 hx with q | q
  ·exact ⟨x,by simp [q],rfl,rfl,rfl⟩
  ·rcases List.mem_cons.1 q with rfl | q
   ·exact ⟨c,by simp,rfl,rfl,rfl⟩
   ·exact ⟨x,by simp [q],rfl,rfl,rfl⟩
 refine ⟨by rw [hnm]; exact h.nd,by rw [hnm]; exact h.perm,?_,fun x hx=>?_,h.nda,nd_mput h.ndi _ _,fun N=>?_,fun N=>?_,fun x hx=>?_,h.now0⟩
 ·have hp:((X++c::Y).map nm).Pairwise fun a b=>(mget u b).getD 0<(mget u a).getD 0:=List.pairwise_map.2 h.ord
  rw [← hnm] at hp
  exact List.pairwise_map.1 hp
 ·obtain ⟨y,hy,e,_⟩:=hmem x hx
  rw [e]; exact h.le y hy
 ·rw [h.data N,hf]
  by_cases e:N=nm c
  ·rw [if_pos e,e,fnd_mem h.nd (by simp)]; rfl
  ·rw [if_neg e]
 ·rw [mget_mput,hf]
  by_cases e:N=nm c
  ·rw [if_pos e,if_pos e]; rfl
  ·rw [if_neg e,if_neg e]; exact h.dirty N
 ·obtain ⟨y,hy,_,e1,e2⟩:=hmem x hx
  rw [e1,e2]; exact h.wf y hy
theorem CI.mono {S:Nat} {C:List Sl} {u:List (Int×Int)} {da:List (Int×ByteArray)} {di:List (Int×Bool)} {now:Int} {k k':Nat} (h:CI S C u da di now k) (hk:k≤k'):CI S C u da di now k' :=
 ⟨h.nd,h.perm,h.ord,h.le,h.nda,h.ndi,h.data,h.dirty,h.wf,by have:=h.now0; omega⟩
theorem CI.len {S:Nat} {C:List Sl} {u:List (Int×Int)} {da:List (Int×ByteArray)} {di:List (Int×Bool)} {now:Int} {k:Nat} (h:CI S C u da di now k):u.length=C.length:=by
 have:=h.perm.length_eq; simpa using this
theorem CI.small {S:Nat} {C:List Sl} {u:List (Int×Int)} {da:List (Int×ByteArray)} {di:List (Int×Bool)} {now:Int} {k:Nat} (h:CI S C u da di now k):C.length≤S:=by
 have h1:(C.map (·.1)).Nodup:=by
  have:=h.nd
  unfold nm at this
  have e:C.map (fun c=>(c.1:Int))=(C.map (·.1)).map (fun n:Nat=>(n:Int)):=by simp
  rw [e] at this
  exact List.Pairwise.of_map _ (fun a b q e=>q (by rw [e])) this
 have h2:C.map (·.1) ⊆ List.range S:=fun x hx=>by
  obtain ⟨c,hc,rfl⟩:=List.mem_map.1 hx
  rw [List.mem_range]; exact (h.wf c hc).1
 have:=h1.length_le_of_subset h2
 simpa using this
end Go.Proofs.YtofjjaagjkbeaaaGreat.pv.bp
