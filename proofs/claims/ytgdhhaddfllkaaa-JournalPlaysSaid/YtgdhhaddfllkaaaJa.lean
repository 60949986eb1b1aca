/- JournalPlays: requests in order -/
import Derived.Test.YtgdhhaddfllkaaaGuJournalPlays
import Derived.Test.YtgdhhaddfllkaaaMath
import Derived.Test.YtgdhhaddfllkaaaLib
import Derived.Test.YtgdhhaddfllkaaaSall
import Derived.Test.YtgdhhaddfllkaaaSoJ
namespace Go.Proofs.Ytgdhhaddfllkaaa.pv
set_option linter.all false
open Go.RowKit help
namespace li
section
variable {κ ν:Type} [DecidableEq κ]
theorem mget_cons (p:κ×ν) (r:List (κ×ν)) (k:κ):mget (p::r) k=if k=p.1 then some p.2 else mget r k:=by
 unfold mget
 rw [mplc]
 by_cases h:k=p.1
 ·simp [h]
 ·simp only [h,if_false]
  cases mplc r k <;> rfl
theorem mget_mem:∀ {E:List (κ×ν)} {k:κ} {v:ν},mget E k=some v→(k,v)∈E
 | [],k,v,h=>by cases h
 | p::r,k,v,h=>by
  rw [mget_cons] at h
  by_cases e:k=p.1
  ·rw [if_pos e] at h
   have:=Option.some.inj h
   rw [e,← this]; simp
  ·rw [if_neg e] at h
   exact List.mem_cons_of_mem _ (mget_mem h)
theorem mem_mget:∀ {E:List (κ×ν)} {k:κ} {v:ν},(E.map (·.1)).Nodup→(k,v)∈E→mget E k=some v
 | [],k,v,_,h=>by cases h
 | p::r,k,v,hn,h=>by
  rw [mget_cons]
  simp only [List.map_cons,List.nodup_cons] at hn
  rcases List.mem_cons.1 h with rfl | h
  ·simp
  ·have:k≠p.1:=fun e=>hn.1 (by rw [← e]; exact List.mem_map.2 ⟨(k,v),h,rfl⟩)
   rw [if_neg this]
   exact mem_mget hn.2 h
theorem mplc_none_mem {E:List (κ×ν)} {k:κ} (h:mplc E k=none):k ∉ E.map (·.1):=fun hm=>by
 obtain ⟨p,hp,rfl⟩:=List.mem_map.1 hm
 have:∀ {E:List (κ×ν)},p∈E→mplc E p.1≠none:=by
  intro E
  induction E with
  | nil=>intro h; cases h
  | cons q r ih =>
   intro h h0
   rw [mplc] at h0
   by_cases e:p.1=q.1
   ·simp [e] at h0
   ·simp only [e,if_false] at h0
    rcases List.mem_cons.1 h with rfl | h
    ·exact e rfl
    ·cases hq:mplc r p.1 with
     | none=>exact ih h hq
     | some _=>rw [hq] at h0; cases h0
 exact this hp h
theorem mput_nodup {E:List (κ×ν)} {k:κ} {v:ν} (h:(E.map (·.1)).Nodup):((mput E k v).map (·.1)).Nodup:=by
 unfold mput
 cases hq:mplc E k with
 | none =>
  simp only [List.map_append,List.map_cons,List.map_nil]
  rw [List.nodup_append]
  refine ⟨h,by simp,fun a ha b hb=>?_⟩
  simp at hb
  subst hb
  exact fun e=>mplc_none_mem hq (e ▸ ha)
 | some q =>
  obtain ⟨i,v0⟩:=q
  have he:=mplc_some hq
  have:(E.set i (k,v)).map (·.1)=E.map (·.1):=by
   rw [List.map_set]
   apply List.ext_getElem?
   intro j
   rw [List.getElem?_set]
   by_cases e:i=j
   ·subst e
    rw [if_pos rfl,List.getElem?_map,he]
    have hlt:=(List.getElem?_eq_some_iff.1 he).1
    rw [if_pos (by simpa using hlt)]; rfl
   ·rw [if_neg e]
  simp only
  rw [this]; exact h
end
abbrev Rq:=Ga
abbrev Rr:=Gj
abbrev Ents:=List (Int×List Int)
def put (E:Ents) (r:Rq):Ents:=mput E r.fSector r.fData
def ent (l:List Rq):Ents:=l.foldl put []
theorem fold_nodup:∀ (l:List Rq) (E:Ents),(E.map (·.1)).Nodup→((l.foldl put E).map (·.1)).Nodup
 | [],E,h=>h
 | r::l,E,h=>fold_nodup l _ (mput_nodup h)
theorem ent_nodup (l:List Rq):((ent l).map (·.1)).Nodup:=fold_nodup l [] (by simp)
theorem fold_src:∀ (l:List Rq) (E:Ents) (k:Int) (d:List Int),mget (l.foldl put E) k=some d→(∃ r∈l,r.fSector=k∧r.fData=d)∨mget E k=some d
 | [],E,k,d,h=>.inr h
 | r::l,E,k,d,h=>by
  rcases fold_src l _ k d h with ⟨x,hx,h1⟩ | h1
  ·exact .inl ⟨x,by simp [hx],h1⟩
  ·unfold put at h1
   rw [mget_mput] at h1
   by_cases e:k=r.fSector
   ·rw [if_pos e] at h1
    exact .inl ⟨r,by simp,e.symm,Option.some.inj h1⟩
   ·rw [if_neg e] at h1; exact .inr h1
theorem ent_src {l:List Rq} {k:Int} {d:List Int} (h:mget (ent l) k=some d):∃ r∈l,r.fSector=k∧r.fData=d:=by
 rcases fold_src l [] k d h with h | h
 ·exact h
 ·cases h
theorem ent_app (l:List Rq) (r:Rq) (k:Int):mget (ent (l++[r])) k=if k=r.fSector then some r.fData else mget (ent l) k:=by
 unfold ent
 rw [List.foldl_append]
 show mget (mput _ _ _) k=_
 rw [mget_mput]
theorem part1 (n:Nat) (l:List Rq) (hd:Int) (hl:l.length<1000000):∀ (k i:Nat),l.length-i<k→i≤l.length→Zi n l hd k (i:Int) (ent (l.take i))=some (.x0 (ent l))
 | 0,i,h,_=>by omega
 | k+1,i,h,hi=>by
  unfold Zi
  by_cases h1:i<l.length
  ·have ih:=part1 n l hd hl k (i+1) (by omega) (by omega)
   rw [List.take_succ_eq_append_getElem h1] at ih
   rw [if_pos (by omega),getI_nat,List.getElem?_eq_getElem h1,Option.bind_some,wi_succ (by omega)]
   unfold ent at ih ⊢
   rw [List.foldl_append] at ih
   exact ih
  ·have:i=l.length:=by omega
   rw [if_neg (by omega),this,List.take_length]
def mk (p:Int×List Int):Rq:=⟨p.1,p.2,false⟩
theorem part2 (n:Nat) (hd:Int):∀ (ord:Ents) (k:Nat) (out:List Rq),ord.length<k→out.length+ord.length≤1000→(∀ p∈ord,p.2.length≤1000)→Zj n hd k out ord=some (.x0 (out++ord.map mk))
 | _,0,_,h,_,_=>by omega
 | [],k+1,out,_,_,_=>by rw [Zj]; simp
 | (a,b)::ord,k+1,out,h,h1,h2=>by
  simp only [List.length_cons] at h h1
  have hb:b.length≤1000:=h2 (a,b) (by simp)
  rw [Zj]
  unfold GC
  rw [app_some (by simp; omega) (by omega),Option.bind_some,List.nil_append,app_some (by simp; omega) (by omega),Option.bind_some,part2 n hd ord k _ (by omega) (by simp; omega) (fun p hp=>h2 p (by simp [hp]))]
  simp [mk]
def dist (hd s:Int):Int:=(s-hd+256) % 256
theorem far_ok (n:Nat) {hd s:Int} (h1:0≤hd∧hd<256) (h2:0≤s∧s<256):V9 n hd s=some (dist hd s):=by
 unfold V9 dist
 rw [wi64 (x:=s-hd) (by omega) (by omega)]
 have e:remI (s-hd) 256=s-hd:=by
  unfold remI
  by_cases h:0≤s-hd
  ·rw [Int.tmod_eq_emod_of_nonneg h]; omega
  ·have:s-hd = -(hd-s):=by omega
   rw [this,Int.neg_tmod,Int.tmod_eq_emod_of_nonneg (by omega)]; omega
 rw [e,wi64 (by omega) (by omega),rem_nn (by omega)]
theorem dist_inj {hd a b:Int} (h1:0≤a∧a<256) (h2:0≤b∧b<256) (h:dist hd a=dist hd b):a=b:=by
 unfold dist at h; omega
theorem dist_at {hd s:Int} (h1:0≤s∧s<256):(hd+dist hd s) % 256=s:=by unfold dist; omega
theorem dist_of {hd:Int} {k:Int} (h:0≤k∧k<256):dist hd ((hd+k) % 256)=k:=by unfold dist; omega
theorem dist_rng {hd s:Int}:0≤dist hd s∧dist hd s<256:=by unfold dist; omega
theorem cmp_ok (n:Nat) {hd:Int} {a b:Rq} (h:0≤hd∧hd<256) (ha:0≤a.fSector∧a.fSector<256) (hb:0≤b.fSector∧b.fSector<256):YP n a b hd=some (dist hd a.fSector-dist hd b.fSector):=by
 have:=@dist_rng hd a.fSector
 have:=@dist_rng hd b.fSector
 unfold YP
 rw [far_ok n h ha,Option.bind_some,far_ok n h hb,Option.bind_some,wi64 (by omega) (by omega)]
theorem eq_of_rising {α:Type} {R:α→α→Prop} (hirr:∀ a,¬ R a a) (has:∀ a b,R a b→¬ R b a):∀ {l m:List α},l.Pairwise R→m.Pairwise R→(∀ a,a∈l↔a∈m)→l=m
 | [],[],_,_,_=>rfl
 | [],b::m,_,_,h=>by have:=(h b).2 (by simp); cases this
 | a::l,[],_,_,h=>by have:=(h a).1 (by simp); cases this
 | a::l,b::m,hl,hm,h=>by
  obtain ⟨l1,l2⟩:=List.pairwise_cons.1 hl
  obtain ⟨m1,m2⟩:=List.pairwise_cons.1 hm
  have e:a=b:=by
   rcases List.mem_cons.1 ((h a).1 (by simp)) with q | q
   ·exact q
   ·rcases List.mem_cons.1 ((h b).2 (by simp)) with p | p
    ·exact p.symm
    ·exact absurd (m1 a q) (has _ _ (l1 b p))
  subst e
  rw [eq_of_rising hirr has l2 m2 (fun x=>⟨fun hx=>by
   rcases List.mem_cons.1 ((h x).1 (by simp [hx])) with q | q
   ·subst q; exact absurd (l1 x hx) (hirr x)
   ·exact q,fun hx=>by
   rcases List.mem_cons.1 ((h x).2 (by simp [hx])) with q | q
   ·subst q; exact absurd (m1 x hx) (hirr x)
   ·exact q⟩)]
def ring (hd:Int) (E:Ents):List Rq:=(List.range 256).filterMap fun (k:Nat)=>(mget E ((hd+(k:Int)) % 256)).map fun d=>⟨(hd+(k:Int)) % 256,d,false⟩
def lt (hd:Int) (x y:Rq):Bool:=decide (dist hd x.fSector<dist hd y.fSector)
theorem ring_mem {hd:Int} {E:Ents} {x:Rq}:x∈ring hd E↔∃ k:Nat,k<256∧mget E ((hd+(k:Int)) % 256)=some x.fData∧x.fSector=(hd+(k:Int)) % 256∧x.fBarrier=false:=by
 unfold ring
 rw [List.mem_filterMap]
 constructor
 ·rintro ⟨k,hk,h⟩
  rw [List.mem_range] at hk
  cases hq:mget E ((hd+(k:Int)) % 256) with
  | none=>rw [hq] at h; cases h
  | some d =>
   rw [hq] at h
   have:=Option.some.inj h
   subst this
   exact ⟨k,hk,hq,rfl,rfl⟩
 ·rintro ⟨k,hk,h1,h2,h3⟩
  refine ⟨k,List.mem_range.2 hk,?_⟩
  rw [h1]
  obtain ⟨a,b,c⟩:=x
  simp only at h2 h3
  subst h2 h3
  rfl
theorem ring_rising (hd:Int) (E:Ents):(ring hd E).Pairwise (fun x y=>lt hd x y=true):=by
 unfold ring
 rw [List.pairwise_filterMap]
 refine List.Pairwise.imp_of_mem ?_ (List.pairwise_lt_range (n:=256))
 intro a b ha hb hab x hx y hy
 rw [List.mem_range] at ha hb
 cases hq:mget E ((hd+(a:Int)) % 256) with
 | none=>rw [hq] at hx; cases hx
 | some d =>
  cases hp:mget E ((hd+(b:Int)) % 256) with
  | none=>rw [hp] at hy; cases hy
  | some c =>
   rw [hq] at hx
   rw [hp] at hy
   have e1:=Option.some.inj hx
   have e2:=Option.some.inj hy
   subst e1 e2
   unfold lt
   simp only
   rw [dist_of (by omega),dist_of (by omega)]
   exact decide_eq_true (by omega)
theorem ring_len (hd:Int) (E:Ents):(ring hd E).length≤256:=by
 unfold ring
 exact Nat.le_trans (List.length_filterMap_le _ _) (by simp)
end li
end Go.Proofs.Ytgdhhaddfllkaaa.pv
namespace Go.Proofs.Ytgdhhaddfllkaaa.pv
set_option linter.all false
open Go.RowKit help
namespace li
instance:Inhabited Rq:=⟨⟨0,[],false⟩⟩
theorem rev_ind {α:Type} {C:List α→Prop} (h0:C []) (h1:∀ l x,C l→C (l++[x])) (l:List α):C l:=by
 have:∀ m:List α,C m.reverse:=by
  intro m
  induction m with
  | nil=>exact h0
  | cons x m ih=>rw [List.reverse_cons]; exact h1 _ _ ih
 have h:=this l.reverse
 rwa [List.reverse_reverse] at h
theorem swo (hd:Int):Go.Sort.SWO (lt hd) where
 irrefl x:=by simp [lt]
 trans x y z:=by simp only [lt,decide_eq_true_eq]; omega
 ntrans x y z:=by simp only [lt,decide_eq_false_iff_not]; omega
def nh (hd:Int) (l:List Rq):Int:=match l.getLast? with | some x=>x.fSector | none=>hd
def Okr (l:List Rq):Prop:=∀ r∈l,(0≤r.fSector∧r.fSector<256)∧r.fData.length≤1000
theorem ent_ok {l:List Rq} (h:Okr l):∀ p∈ent l,(0≤p.1∧p.1<256)∧p.2.length≤1000:=fun p hp=>by
 obtain ⟨r,hr,e1,e2⟩:=ent_src (mem_mget (ent_nodup l) (k:=p.1) (v:=p.2) hp)
 rw [← e1,← e2]; exact h r hr
theorem ent_len_le:∀ (l:List Rq) (E:Ents),(l.foldl put E).length≤E.length+l.length
 | [],E=>by simp
 | r::l,E=>by
  have ih:=ent_len_le l (put E r)
  have:(put E r).length≤E.length+1:=by
   unfold put mput
   cases mplc E r.fSector with
   | none=>simp
   | some q=>obtain ⟨i,v⟩:=q; simp
  simp only [List.foldl_cons,List.length_cons]
  omega
theorem part_o (n:Nat) (hn:5000<n) (l:List Rq) (hd:Int) (hh:0≤hd∧hd<256) (hl:l.length≤1000) (ho:Okr l) (ord:Ents) (hp:ord.Perm (ent l)) :
  XB n l hd ord=some (ring hd (ent l),nh hd (ring hd (ent l))):=by
 have hent:=ent_ok ho
 have hord:∀ p∈ord,(0≤p.1∧p.1<256)∧p.2.length≤1000:=fun p h=>hent p (hp.subset h)
 have hlen:ord.length≤1000:=by
  rw [hp.length_eq]
  have:=ent_len_le l []
  unfold ent
  simp at this; omega
 have p1:=part1 n l hd (by omega) n 0 (by omega) (by omega)
 have p1:Zi n l hd n 0 []=_:=p1
 have p2:=part2 n hd ord n [] (by omega) (by simp; omega) (fun p h=>(hord p h).2)
 rw [List.nil_append] at p2
 have hQ:∀ x∈ord.map mk,0≤x.fSector∧x.fSector<256:=fun x hx=>by
  obtain ⟨p,h,rfl⟩:=List.mem_map.1 hx
  exact (hord p h).1
 obtain ⟨r,s1,s2,s3⟩:=so.sorted n (Q:=fun x:Rq=>0≤x.fSector∧x.fSector<256) (lt:=lt hd) (cmp:=fun (y0:Rq) (y1:Rq)=>YP n y0 y1 hd)
  (fun x y hx hy=>⟨_,cmp_ok n hh hx hy,decide_eq_decide.2 (by omega)⟩) (swo hd) (ord.map mk) hQ (by simp; omega) (by simp; omega)
 have hnd:(ord.map (·.1)).Nodup:=(hp.map (·.1)).nodup_iff.2 (ent_nodup l)
 -- the distances differ
 have hdis:r.Pairwise (fun x y=>dist hd x.fSector≠dist hd y.fSector):=by
  have h1:(ord.map mk).Pairwise (fun x y=>dist hd x.fSector≠dist hd y.fSector):=by
   rw [List.pairwise_map]
   have h2:ord.Pairwise (fun a b=>a.1≠b.1):=List.pairwise_map.1 hnd
   refine List.Pairwise.imp_of_mem ?_ h2
   intro a b ha hb hab e
   exact hab (dist_inj (hord a ha).1 (hord b hb).1 e)
  exact (s2.symm.pairwise_iff (fun {_ _} h e=>h e.symm)).1 h1
 have hr:r=ring hd (ent l):=by
  refine eq_of_rising (R:=fun x y=>lt hd x y=true) (fun a=>by simp [lt]) (fun a b h1 h2=>by simp only [lt,decide_eq_true_eq] at h1 h2; omega) ?_ (ring_rising hd (ent l)) (fun x=>?_)
  ·refine List.Pairwise.imp ?_ (List.Pairwise.and s3 hdis)
   intro a b ⟨h1,h2⟩
   simp only [lt,decide_eq_false_iff_not] at h1
   simp only [lt,decide_eq_true_eq]
   omega
  ·rw [s2.mem_iff,List.mem_map,ring_mem]
   constructor
   ·rintro ⟨p,hpm,rfl⟩
    have h1:=(hord p hpm).1
    have h2:=@dist_rng hd p.1
    have h3:=dist_at (hd:=hd) h1
    have hk:((dist hd p.1).toNat:Int)=dist hd p.1:=by omega
    refine ⟨(dist hd p.1).toNat,by omega,?_,?_,rfl⟩
    ·rw [hk,h3]; exact mem_mget (ent_nodup l) (hp.subset hpm)
    ·rw [hk,h3]; rfl
   ·rintro ⟨k,hk,h1,h2,h3⟩
    refine ⟨(x.fSector,x.fData),?_,?_⟩
    ·refine hp.symm.subset ?_
     rw [h2]; exact mget_mem h1
    ·obtain ⟨a,b,c⟩:=x
     simp only at h3
     subst h3
     rfl
 subst hr
 have hrl:=ring_len hd (ent l)
 unfold XB
 rw [p1,Option.bind_some]
 simp only
 rw [p2,Option.bind_some]
 simp only
 rw [s1,Option.bind_some]
 unfold nh
 by_cases h0:((ring hd (ent l)).length:Int) > 0
 ·rw [if_pos h0,wi64 (by omega) (by omega),if_pos ⟨by omega,by omega⟩]
  have e:(((ring hd (ent l)).length:Int)-1).toNat=(ring hd (ent l)).length-1:=by omega
  rw [e,List.getLast?_eq_getElem?]
  have hx:(ring hd (ent l)).length-1<(ring hd (ent l)).length:=by omega
  rw [List.getElem?_eq_getElem hx]
  rfl
 ·rw [if_neg h0]
  have:ring hd (ent l)=[]:=List.eq_nil_of_length_eq_zero (by omega)
  rw [this]; rfl
theorem part_ok (n:Nat) (hn:5000<n) (l:List Rq) (hd:Int) (hh:0≤hd∧hd<256) (hl:l.length≤1000) (ho:Okr l) :
  Jj n l hd=some (ring hd (ent l),nh hd (ring hd (ent l))):=by
 have p1:=part1 n l hd (by omega) n 0 (by omega) (by omega)
 have p1:Zi n l hd n 0 []=_:=p1
 have hE:VY n l hd=some (ent l):=by
  unfold VY
  rw [p1]; rfl
 unfold Jj
 rw [hE,Option.bind_some,part_o n hn l hd hh hl ho (ent l) (.refl _),Option.bind_some,if_pos]
 rw [List.all_eq_true]
 intro q hq
 exact decide_eq_true (part_o n hn l hd hh hl ho q (of_perms hq))
theorem nh_rng {hd:Int} (hh:0≤hd∧hd<256) (E:Ents):0≤nh hd (ring hd E)∧nh hd (ring hd E)<256:=by
 unfold nh
 cases hq:(ring hd E).getLast? with
 | none=>exact hh
 | some x =>
  have hx:=List.mem_of_getLast? hq
  obtain ⟨k,_,_,h2,_⟩:=ring_mem.1 hx
  simp only
  omega
def bar:Rr:=⟨-1,ByteArray.mk #[]⟩
def rq (r:Rq):Rr:=if r.fBarrier=true then bar else ⟨r.fSector,b2s r.fData⟩
def lastR (p:List Rr) (s:Int):Option Rr:=p.foldl (fun acc x=>if x.fN=s then some x else acc) none
theorem lastR_app (p:List Rr) (x:Rr) (s:Int):lastR (p++[x]) s=if x.fN=s then some x else lastR p s:=by
 unfold lastR
 rw [List.foldl_append]; rfl
theorem lastR_ent (s:Int):∀ (l:List Rq),(∀ r∈l,r.fBarrier=false)→lastR (l.map rq) s=(mget (ent l) s).map fun d=>(⟨s,b2s d⟩:Rr):=by
 refine rev_ind (fun _=>rfl) fun l r ih h=>?_
 ·show _
  have hr:=h r (by simp)
  rw [List.map_append,List.map_singleton,lastR_app,ent_app,ih (fun x hx=>h x (by simp [hx]))]
  have e:rq r=⟨r.fSector,b2s r.fData⟩:=by unfold rq; rw [hr]; rfl
  rw [e]
  by_cases h1:r.fSector=s
  ·subst h1
   rw [if_pos rfl,if_pos rfl]; rfl
  ·rw [if_neg h1,if_neg (fun q=>h1 q.symm)]
theorem search (n:Nat) (at_ x b:Int) (p out:List Rr) (hp:p.length≤1000) (ho:out.length≤900000):∀ (k i:Nat),i<k→i≤p.length →
  Kn n at_ x b k ((i:Int)-1) p out=some (match lastR (p.take i) at_ with | some y=>.x0 p (out++[y]) | none=>.x1 p out)
 | 0,i,h,_=>by omega
 | k+1,0,h,hi=>by
  unfold Kn
  rw [if_neg (by omega)]
  rfl
 | k+1,i+1,h,hi=>by
  unfold Kn
  have hlt:i<p.length:=by omega
  have e1:(((i+1:Nat):Int)-1).toNat=i:=by omega
  have c:0≤((i+1:Nat):Int)-1∧(((i+1:Nat):Int)-1).toNat<p.length:=⟨by omega,by omega⟩
  rw [if_pos (by omega),if_pos c,e1,List.getElem?_eq_getElem hlt,Option.bind_some,List.take_succ_eq_append_getElem hlt,lastR_app]
  by_cases h1:p[i].fN=at_
  ·rw [if_pos h1,if_pos h1,if_pos ⟨by omega,hlt⟩,Option.bind_some,app_some (by simp; omega) (by omega)]
   rfl
  ·rw [if_neg h1,if_neg h1,wi64 (by omega) (by omega)]
   have e2:((i+1:Nat):Int)-1-1=(i:Int)-1:=by omega
   rw [e2]
   exact search n at_ x b p out hp ho k i (by omega) (by omega)
def ringR (hd:Int) (p:List Rr) (k m:Nat):List Rr:=(List.range' k m).filterMap fun (j:Nat)=>lastR p ((hd+(j:Int)) % 256)
def nhR (b:Int) (l:List Rr):Int:=match l.getLast? with | some x=>x.fN | none=>b
theorem lastR_N' (s:Int):∀ (p:List Rr) (y:Rr),lastR p s=some y→y.fN=s:=by
 refine rev_ind (fun y h=>by cases h) fun p x ih y h=>?_
 rw [lastR_app] at h
 by_cases e:x.fN=s
 ·rw [if_pos e] at h
  rw [← Option.some.inj h]; exact e
 ·rw [if_neg e] at h; exact ih y h
theorem lastR_N {p:List Rr} {s:Int} {y:Rr} (h:lastR p s=some y):y.fN=s:=lastR_N' s p y h
theorem round (n:Nat) (hn:5000<n) (hd:Int) (hh:0≤hd∧hd<256) (p:List Rr) (hp:p.length≤1000):∀ (k i:Nat) (b:Int) (out:List Rr),256-i<k→i≤256→out.length+257-i≤900000 →
  SZ n k ((hd+(i:Int)) % 256) (i:Int) b p out=some (.x0 (nhR b (ringR hd p i (256-i))) p (out++ringR hd p i (256-i)))
 | 0,i,_,_,h,_,_=>by omega
 | k+1,i,b,out,h,hi,ho=>by
  unfold SZ
  by_cases h1:i<256
  ·have s:=search n ((hd+(i:Int)) % 256) (i:Int) b p out hp (by omega) n p.length (by omega) (Nat.le_refl _)
   rw [List.take_length] at s
   have e1:wi .i64 ((p.length:Int)-1)=(p.length:Int)-1:=wi64 (by omega) (by omega)
   have e2:remI (wi .i64 ((hd+(i:Int)) % 256+1)) 256=(hd+((i+1:Nat):Int)) % 256:=by
    rw [wi64 (by omega) (by omega),rem_nn (by omega)]; omega
   have e3:ringR hd p i (256-i)=(match lastR p ((hd+(i:Int)) % 256) with | some y=>[y] | none=>[])++ringR hd p (i+1) (256-(i+1)):=by
    unfold ringR
    rw [show 256-i=(256-(i+1))+1 by omega,List.range'_succ,List.filterMap_cons]
    cases lastR p ((hd+(i:Int)) % 256) <;> rfl
   rw [if_pos (by omega),e1,s,Option.bind_some,e2,wi_succ (by omega),e3]
   cases hq:lastR p ((hd+(i:Int)) % 256) with
   | none =>
    simp only [List.nil_append]
    exact round n hn hd hh p hp k (i+1) b out (by omega) (by omega) (by omega)
   | some y =>
    simp only
    rw [round n hn hd hh p hp k (i+1) _ (out++[y]) (by omega) (by omega) (by simp; omega),List.append_assoc]
    congr 2
    unfold nhR
    have hy:=lastR_N hq
    cases hr:(ringR hd p (i+1) (256-(i+1))).getLast? with
    | none =>
     have:ringR hd p (i+1) (256-(i+1))=[]:=List.getLast?_eq_none_iff.1 hr
     rw [this]; simp [hy]
    | some z=>rw [List.getLast?_append,hr]; rfl
  ·have:i=256:=by omega
   subst this
   rw [if_neg (by omega)]
   simp [ringR,nhR]
theorem end_ok (n:Nat) (hn:5000<n) (hd:Int) (hh:0≤hd∧hd<256) (l:List Rq) (hl:l.length≤1000) (hb:∀ r∈l,r.fBarrier=false) (out:List Rr) (ho:out.length≤800000) :
  Yc n hd (l.map rq) out=some (nh hd (ring hd (ent l)),[],out++(ring hd (ent l)).map rq):=by
 have r:=round n hn hd hh (l.map rq) (by simp; omega) n 0 hd out (by omega) (by omega) (by omega)
 have r:SZ n n ((hd+0) % 256) 0 hd (l.map rq) out=_:=r
 have e0:(hd+0) % 256=hd:=by omega
 rw [e0] at r
 have e1:ringR hd (l.map rq) 0 (256-0)=(ring hd (ent l)).map rq:=by
  unfold ringR ring
  rw [List.map_filterMap,List.range_eq_range']
  congr 1
  funext j
  rw [lastR_ent _ _ hb]
  cases mget (ent l) ((hd+(j:Int)) % 256) <;> rfl
 have e2:nhR hd ((ring hd (ent l)).map rq)=nh hd (ring hd (ent l)):=by
  unfold nhR nh
  rw [List.getLast?_map]
  cases hq:(ring hd (ent l)).getLast? with
  | none=>rfl
  | some x =>
   obtain ⟨_,_,_,_,h3⟩:=ring_mem.1 (List.mem_of_getLast? hq)
   simp [rq,h3]
 unfold Yc
 rw [r,e1,e2]
 rfl
end li
end Go.Proofs.Ytgdhhaddfllkaaa.pv
namespace Go.Proofs.Ytgdhhaddfllkaaa.pv
set_option linter.all false
open Go.RowKit help
namespace li
def bad (r:Rq):Bool:=if r.fBarrier=true then false else (decide (r.fSector<0)||decide (r.fSector > 255)||((r.fData.length:Int) != 64))
theorem good_ok {r:Rq} (h:bad r=false) (hb:r.fBarrier=false):(0≤r.fSector∧r.fSector<256)∧r.fData.length=64:=by
 unfold bad at h
 rw [hb] at h
 simp only [Bool.false_eq_true,if_false,Bool.or_eq_false_iff,decide_eq_false_iff_not] at h
 obtain ⟨⟨h1,h2⟩,h3⟩:=h
 have:(r.fData.length:Int)=64:=by simpa using h3
 omega
theorem right_c (n:Nat) (l:List Rq) (i:Int) (r:Rq):Uh n l i r=some (.x0 (bad r)):=by
 unfold Uh bad
 by_cases h:r.fBarrier=true
 ·rw [if_pos h,if_pos h]
 ·rw [if_neg h,if_neg h]
  by_cases h1:r.fSector<0
  ·rw [if_pos h1,decide_eq_true h1]; simp
  ·rw [if_neg h1,decide_eq_false h1]
   by_cases h2:r.fSector≥256
   ·rw [if_pos h2,decide_eq_true (by omega:r.fSector > 255)]; simp
   ·rw [if_neg h2,decide_eq_false (by omega:¬ r.fSector > 255)]; simp
theorem right_loop (n:Nat) (l:List Rq) (hl:l.length≤1000):∀ (k i:Nat),l.length-i<k→i≤l.length →
  Z5 n l k (i:Int)=some (if (l.drop i).any bad then .x0 1 else .x1)
 | 0,i,h,_=>by omega
 | k+1,i,h,hi=>by
  unfold Z5
  by_cases h1:i<l.length
  ·rw [if_pos (by omega),getI_nat,List.getElem?_eq_getElem h1,Option.bind_some,right_c,Option.bind_some,List.drop_eq_getElem_cons h1,List.any_cons]
   simp only
   by_cases h2:bad l[i]=true
   ·rw [if_pos h2,h2]; rfl
   ·rw [if_neg h2,Bool.eq_false_iff.2 h2,wi_succ (by omega),right_loop n l hl k (i+1) (by omega) (by omega)]; rfl
  ·have:i=l.length:=by omega
   rw [if_neg (by omega),this,List.drop_length]; rfl
def err (l:List Rq):Int:=if l.length > 100 then 2 else if l.any bad then 1 else 0
theorem right_ok (n:Nat) (hn:5000<n) (l:List Rq) (hl:l.length≤1000):V3 n l=some (err l):=by
 unfold V3 err
 by_cases h:l.length > 100
 ·rw [if_pos (by omega),if_pos h]
 ·have r:=right_loop n l hl n 0 (by omega) (by omega)
  rw [List.drop_zero] at r
  have r:Z5 n l n 0=_:=r
  rw [if_neg (by omega),if_neg h,r]
  by_cases h2:l.any bad=true
  ·rw [if_pos h2,if_pos h2]; rfl
  ·rw [if_neg h2,if_neg h2]; rfl
def go:List Rq→Int→List Rq→List Rq
 | seg,hd,[]=>ring hd (ent seg)
 | seg,hd,r::rest=>if r.fBarrier=true then ring hd (ent seg)++(⟨0,[],true⟩:Rq)::go [] (nh hd (ring hd (ent seg))) rest else go (seg++[r]) hd rest
theorem go_seg:∀ (q seg:List Rq) (hd:Int) (rest:List Rq),(∀ r∈q,r.fBarrier=false)→go seg hd (q++rest)=go (seg++q) hd rest
 | [],seg,hd,rest,_=>by simp
 | r::q,seg,hd,rest,h=>by
  rw [List.cons_append,go,if_neg (by rw [h r (by simp)]; simp),go_seg q _ hd rest (fun x hx=>h x (by simp [hx]))]
  simp
theorem ring_nil (hd:Int):ring hd (ent [])=[]:=by
 unfold ring
 rw [List.filterMap_eq_nil_iff]
 intro k _; rfl
theorem idx (n:Nat) (l:List Rq) (hl:l.length≤1000):∀ (k i:Nat),l.length-i<k→i≤l.length→(∀ j (h:j<l.length),j<i→l[j].fBarrier=false) →
  (Gw n l (fun (y0:Ga)=>Zh n y0) k (i:Int)=some .x1∧∀ r∈l,r.fBarrier=false) ∨
  ∃ (j:Nat) (h:j<l.length),Gw n l (fun (y0:Ga)=>Zh n y0) k (i:Int)=some (.x0 (j:Int))∧l[j].fBarrier=true∧∀ r∈l.take j,r.fBarrier=false
 | 0,i,h,_,_=>by omega
 | k+1,i,h,hi,hb=>by
  unfold Gw
  by_cases h1:i<l.length
  ·rw [if_pos (by omega),getI_nat,List.getElem?_eq_getElem h1,Option.bind_some]
   unfold Zh
   rw [Option.bind_some]
   by_cases h2:l[i].fBarrier=true
   ·rw [if_pos h2]
    refine .inr ⟨i,h1,rfl,h2,fun r hr=>?_⟩
    obtain ⟨j,hj,rfl⟩:=List.getElem_of_mem hr
    rw [List.length_take] at hj
    rw [List.getElem_take]
    exact hb j (by omega) (by omega)
   ·rw [if_neg h2,wi_succ (by omega)]
    have ih:=idx n l hl k (i+1) (by omega) (by omega) (fun j hj hj2=>by
     by_cases e:j=i
     ·subst e; exact Bool.eq_false_iff.2 h2
     ·exact hb j hj (by omega))
    unfold Zh at ih
    exact ih
  ·rw [if_neg (by omega)]
   refine .inl ⟨rfl,fun r hr=>?_⟩
   obtain ⟨j,hj,rfl⟩:=List.getElem_of_mem hr
   exact hb j hj (by omega)
theorem okr_of {l:List Rq} (h:∀ r∈l,bad r=false) {m:List Rq} (hs:∀ r∈m,r∈l) (hb:∀ r∈m,r.fBarrier=false):Okr m:=fun r hr=>by
 have:=good_ok (h r (hs r hr)) (hb r hr)
 exact ⟨this.1,by omega⟩
set_option maxRecDepth 20000 in
theorem order_loop (n:Nat) (hn:5000<n):∀ (k:Nat) (l:List Rq) (hd:Int) (out:List Rq),l.length<k→l.length≤1000→(0≤hd∧hd<256)→(∀ r∈l,bad r=false)→out.length+257*(l.length+1)≤900000 →
  Z7 n k l hd out=some (.x0 (out++go [] hd l)):=by
 intro k
 induction k with
 | zero=>intro l hd out h; omega
 | succ k ihk =>
  intro l hd out h hl hh hg ho
  unfold Z7
  by_cases h0:(l.length:Int) > 0
  ·rw [if_pos h0]
   unfold KM
   rcases idx n l hl n 0 (by omega) (by omega) (fun j _ hj=>by omega) with ⟨q1,q2⟩ | ⟨j,hj,q1,q2,q3⟩
   ·have q1:Gw n l (fun (y0:Ga)=>Zh n y0) n 0=_:=q1
    have hr:=ring_len hd (ent l)
    have hs1:sub l 0 (l.length:Int)=some l:=by unfold sub; rw [if_pos ⟨by omega,by omega,by omega⟩]; simp
    have hs2:sub l (l.length:Int) (l.length:Int)=some []:=by unfold sub; rw [if_pos ⟨by omega,by omega,by omega⟩]; simp
    rw [q1,Option.bind_some]
    simp only
    rw [Option.bind_some]
    unfold Ul
    rw [if_pos (by omega),Option.bind_some]
    simp only
    rw [hs1,Option.bind_some,part_ok n hn l hd hh hl (okr_of hg (fun r h=>h) q2),Option.bind_some]
    simp only
    rw [app_some (by omega) (by omega),Option.bind_some,if_neg (by omega),hs2,Option.bind_some]
    have e:go [] hd l=ring hd (ent l):=by
     have:=go_seg l [] hd [] q2
     rw [List.append_nil,List.nil_append] at this
     rw [this]; rfl
    have ih:=ihk [] (nh hd (ring hd (ent l))) (out++ring hd (ent l)) (by simp; omega) (by simp) (nh_rng hh _) (by simp) (by simp; omega)
    have e0:∀ hd',go [] hd' []=[]:=fun hd'=>ring_nil hd'
    rw [ih,e0,e,List.append_nil]
   ·have q1:Gw n l (fun (y0:Ga)=>Zh n y0) n 0=_:=q1
    have hr:=ring_len hd (ent (l.take j))
    have hs1:sub l 0 (j:Int)=some (l.take j):=by unfold sub; rw [if_pos ⟨by omega,by omega,by omega⟩]; simp
    have hs2:sub l ((j+1:Nat):Int) (l.length:Int)=some (l.drop (j+1)):=by
     unfold sub; rw [if_pos ⟨by omega,by omega,by omega⟩]; simp
    have hlt:(l.take j).length=j:=by rw [List.length_take]; omega
    have hmem:∀ r∈l.take j,r∈l:=fun r hr=>List.mem_of_mem_take hr
    rw [q1,Option.bind_some]
    simp only
    rw [Option.bind_some]
    unfold Ul
    rw [if_neg (by omega),Option.bind_some]
    simp only
    rw [hs1,Option.bind_some,part_ok n hn (l.take j) hd hh (by omega) (okr_of hg hmem q3),Option.bind_some]
    simp only
    rw [app_some (by omega) (by omega),Option.bind_some,if_pos (by omega),app_some (by simp only [List.length_append,List.length_cons,List.length_nil]; omega) (by omega),Option.bind_some,wi_succ (by omega),hs2,Option.bind_some]
    have hdl:(l.drop (j+1)).length=l.length-(j+1):=List.length_drop
    have hsz:(out++ring hd (ent (l.take j))++[(⟨0,[],true⟩:Rq)]).length+257*((l.drop (j+1)).length+1)≤900000:=by
     rw [List.length_append,List.length_append,hdl,List.length_singleton]
     clear q1 hs1 hs2 hg hmem q2 q3 ihk
     generalize (ring hd (ent (l.take j))).length=z at hr ⊢
     generalize out.length=y at ho ⊢
     omega
    have ih:=ihk (l.drop (j+1)) (nh hd (ring hd (ent (l.take j)))) (out++ring hd (ent (l.take j))++[⟨0,[],true⟩]) (by omega) (by omega) (nh_rng hh _) (fun r hr=>hg r (List.mem_of_mem_drop hr)) hsz
    rw [ih]
    have e:go [] hd l=ring hd (ent (l.take j))++(⟨0,[],true⟩:Rq)::go [] (nh hd (ring hd (ent (l.take j)))) (l.drop (j+1)):=by
     have hsp:l=l.take j++l[j]::l.drop (j+1):=by
      rw [← List.drop_eq_getElem_cons hj,List.take_append_drop]
     have e1:=go_seg (l.take j) [] hd (l[j]::l.drop (j+1)) q3
     rw [← hsp,List.nil_append] at e1
     rw [e1,go,if_pos q2]
    rw [e]
    simp [List.append_assoc]
  ·have:l=[]:=List.eq_nil_of_length_eq_zero (by omega)
   subst this
   rw [if_neg h0]
   have e0:go [] hd []=[]:=ring_nil hd
   rw [e0,List.append_nil]
theorem lift_loop (n:Nat) (hn:5000<n) (l:List Rq) (hl:l.length≤100) (hg:∀ r∈l,bad r=false):∀ (k i:Nat) (seg:List Rq) (hd:Int) (out:List Rr),l.length-i<k→i≤l.length→seg.length≤i→(∀ r∈seg,r∈l)→(∀ r∈seg,r.fBarrier=false)→(0≤hd∧hd<256)→out.length≤257*i →
  ∃ out' hd' seg',KN n (l.map rq) k (i:Int) out (seg.map rq) hd=some (.x0 out' hd' (seg'.map rq))∧seg'.length≤100∧(∀ r∈seg',r.fBarrier=false)∧(0≤hd'∧hd'<256)∧out'.length≤257*100∧out'++(ring hd' (ent seg')).map rq=out++(go seg hd (l.drop i)).map rq
 | 0,i,_,_,_,h,_,_,_,_,_,_=>by omega
 | k+1,i,seg,hd,out,h,hi,hs,hm,hb,hh,ho=>by
  unfold KN
  by_cases h1:i<l.length
  ·have hx:(l.map rq)[i]?=some (rq l[i]):=by rw [List.getElem?_map,List.getElem?_eq_getElem h1]; rfl
   rw [if_pos (by simp; omega),getI_nat,hx,Option.bind_some,wi_succ (by omega),List.drop_eq_getElem_cons h1,go]
   by_cases h2:l[i].fBarrier=true
   ·have e:rq l[i]=bar:=by unfold rq; rw [if_pos h2]
    have hr:=ring_len hd (ent seg)
    have en:=end_ok n hn hd hh seg (by omega) hb out (by omega)
    rw [e,if_pos (by decide),en,Option.bind_some,if_pos h2]
    simp only
    rw [app_some (by simp; omega) (by omega),Option.bind_some]
    obtain ⟨o',h',s',r1,r2,r3,r4,r5,r6⟩:=lift_loop n hn l hl hg k (i+1) [] (nh hd (ring hd (ent seg))) (out++(ring hd (ent seg)).map rq++[bar]) (by omega) (by omega) (by simp) (by simp) (by simp) (nh_rng hh _) (by simp; omega)
    refine ⟨o',h',s',r1,r2,r3,r4,r5,?_⟩
    rw [r6]
    simp [List.append_assoc,rq]
   ·have e:rq l[i]=⟨l[i].fSector,b2s l[i].fData⟩:=by unfold rq; rw [if_neg h2]
    have hgd:=good_ok (hg _ (List.getElem_mem h1)) (Bool.eq_false_iff.2 h2)
    have hneg:¬ (rq l[i]).fN<0:=by rw [e]; simp only; omega
    rw [if_neg hneg,app_some (by simp; omega) (by omega),Option.bind_some,if_neg h2]
    have e2:seg.map rq++[rq l[i]]=(seg++[l[i]]).map rq:=by simp
    rw [e2]
    exact lift_loop n hn l hl hg k (i+1) (seg++[l[i]]) hd out (by omega) (by omega) (by simp; omega) (fun r hr=>by
     rcases List.mem_append.1 hr with hr | hr
     ·exact hm r hr
     ·rw [List.mem_singleton.1 hr]; exact List.getElem_mem h1) (fun r hr=>by
     rcases List.mem_append.1 hr with hr | hr
     ·exact hb r hr
     ·rw [List.mem_singleton.1 hr]; exact Bool.eq_false_iff.2 h2) hh (by omega)
  ·have:i=l.length:=by omega
   subst this
   rw [if_neg (by simp),List.drop_length]
   exact ⟨out,hd,seg,rfl,by omega,hb,hh,by omega,rfl⟩
theorem lift_ok (n:Nat) (hn:5000<n) (l:List Rq) (hl:l.length≤100) (hg:∀ r∈l,bad r=false) (hd:Int) (hh:0≤hd∧hd<256):YL n (l.map rq) hd=some ((go [] hd l).map rq):=by
 obtain ⟨o',h',s',r1,r2,r3,r4,r5,r6⟩:=lift_loop n hn l hl hg n 0 [] hd [] (by omega) (by omega) (by simp) (by simp) (by simp) hh (by simp)
 have r1:KN n (l.map rq) n 0 [] [] hd=_:=r1
 unfold YL
 rw [r1,Option.bind_some]
 simp only
 rw [end_ok n hn h' r4 s' (by omega) r3 o' (by omega),Option.bind_some]
 simp only
 rw [r6]
 simp
theorem bad_all {l:List Rq} (h:l.any bad=false):∀ r∈l,bad r=false:=by
 rw [List.any_eq_false] at h
 intro r hr
 exact Bool.eq_false_iff.2 (h r hr)
theorem err_zero {l:List Rq} (h:err l=0):l.length≤100∧∀ r∈l,bad r=false:=by
 unfold err at h
 by_cases h1:l.length > 100
 ·rw [if_pos h1] at h; omega
 ·rw [if_neg h1] at h
  by_cases h2:l.any bad=true
  ·rw [if_pos h2] at h; omega
  ·exact ⟨by omega,bad_all (Bool.eq_false_iff.2 h2)⟩
def said (l:List Rq) (hd:Int):Int:=if hd<0∨hd > 255 then 1 else err l
theorem said_lo {l:List Rq} {hd:Int} (h:hd<0):said l hd=1:=by unfold said; rw [if_pos (.inl h)]
theorem said_hi {l:List Rq} {hd:Int} (h:hd > 255):said l hd=1:=by unfold said; rw [if_pos (.inr h)]
theorem said_mid {l:List Rq} {hd:Int} (h:¬ hd<0) (h2:¬ hd≥256):said l hd=err l:=by unfold said; rw [if_neg (by omega)]
theorem order_ok (n:Nat) (hn:5000<n) (l:List Rq) (hl:l.length≤1000) (hd:Int):V5 n l hd=some (if said l hd=0 then (go [] hd l,0) else ([],said l hd)):=by
 unfold V5
 by_cases h1:hd<0
 ·rw [if_pos h1,said_lo h1]; rfl
 ·rw [if_neg h1]
  by_cases h2:hd≥256
  ·rw [if_pos h2,said_hi (by omega)]; rfl
  ·rw [if_neg h2,said_mid h1 h2,right_ok n hn l hl,Option.bind_some]
   by_cases h3:err l=0
   ·have hz:=err_zero h3
    rw [if_pos h3,if_pos h3,order_loop n hn n l hd [] (by omega) (by omega) (by omega) hz.2 (by simp; omega)]
    rfl
   ·rw [if_neg h3,if_neg h3]
end li
end Go.Proofs.Ytgdhhaddfllkaaa.pv
