/- The sort of the library, as gen.py writes it, is the kit's plain sort (Derived.Sort): from there its law. Written by msort.py. -/
import Derived.Test.YtdgocccbagbhjaaGreatDoorGuDirLays
import Derived.Test.YtdgocccbagbhjaaGreatDoorMath
import Derived.Sort.AssemblyPlain
import Derived.Sort.Walk13a
import Derived.Sort.LotD5
import Derived.Sort.LotD4
namespace Go.Proofs.YtdgocccbagbhjaaGreatDoor.pv
set_option linter.all false
open Go.RowKit help
namespace so
open Go.Sort (swp)
theorem ld {α β:Type} [Inhabited α] (d:Array α) {I:Int} {i:Nat} (hI:I=(i:Int)) (hi:i<d.size) (K:α→Option β) :
  (if 0≤I∧I.toNat<d.toList.length then (d.toList[I.toNat]?).bind K else none)=K d[i]! := by
 subst hI
 rw [if_pos ⟨by omega,by simpa using hi⟩,Int.toNat_natCast,Array.getElem?_toList,Array.getElem?_eq_getElem hi,getElem!_pos d i hi]
 rfl
theorem ldI {α:Type} [Inhabited α] (d:Array α) {I:Int} {i:Nat} (hI:I=(i:Int)) (hi:i<d.size):getI d.toList I=some d[i]! := by
 subst hI
 rw [getI_nat,Array.getElem?_toList,Array.getElem?_eq_getElem hi,getElem!_pos d i hi]
theorem sw {α β:Type} [Inhabited α] (d:Array α) {I J:Int} {i j:Nat} (hI:I=(i:Int)) (hJ:J=(j:Int)) (hi:i<d.size) (hj:j<d.size) (K:α→α→Option β) :
  (if 0≤J∧J.toNat<d.toList.length then (d.toList[J.toNat]?).bind fun y1=>if 0≤I∧I.toNat<d.toList.length then (d.toList[I.toNat]?).bind fun y2=>if 0≤I∧I.toNat<d.toList.length then (d.toList[I.toNat]?).bind fun _=>if 0≤J∧J.toNat<(d.toList.set I.toNat y1).length then ((d.toList.set I.toNat y1)[J.toNat]?).bind fun _=>K y1 y2 else none else none else none else none)=K d[j]! d[i]! := by
 rw [ld d hJ hj]
 rw [ld d hI hi]
 rw [ld d hI hi]
 subst hI hJ
 have:j<(d.toList.set i d[j]!).length:=by simpa using hj
 rw [if_pos ⟨by omega,by simpa using this⟩,Int.toNat_natCast,Int.toNat_natCast,List.getElem?_eq_getElem this]
 rfl
theorem sw_set {α:Type} [Inhabited α] (d:Array α) {I J:Int} {i j:Nat} (hI:I=(i:Int)) (hJ:J=(j:Int)):(d.toList.set I.toNat d[j]!).set J.toNat d[i]! = (swp d i j).toList:=by
 subst hI hJ
 simp [swp]
def AQ {α:Type} [Inhabited α] (Q:α→Prop) (d:Array α):Prop:=∀ i,i<d.size→Q d[i]!
theorem aq_swp {α:Type} [Inhabited α] {Q:α→Prop} {d:Array α} {i j:Nat} (h:AQ Q d) (hi:i<d.size) (hj:j<d.size):AQ Q (swp d i j):=by
 intro k hk
 rw [Go.Sort.size_swp] at hk
 by_cases e1:k=j
 ·subst e1; rw [Go.Sort.swp_right d i k hj]; exact h i hi
 ·by_cases e2:k=i
  ·subst e2; rw [Go.Sort.swp_left d k j hi e1]; exact h j hj
  ·rw [Go.Sort.swp_other d i j k e2 e1]; exact h k hk
theorem aq_perm {α:Type} [Inhabited α] {Q:α→Prop} {d d':Array α} {a b:Nat} (h:AQ Q d) (hb:b≤d.size) (hp:Go.Sort.PermIn a b d d'):AQ Q d':=by
 intro k hk
 rw [hp.1] at hk
 by_cases e:a≤k∧k<b
 ·exact Go.Sort.permIn_all d d' a b Q hb hp (fun i _ hi=>h i (by omega)) k e.1 e.2
 ·rw [hp.2.1 k (by omega)]; exact h k hk
theorem sz {α:Type} [Inhabited α] (d:Array α) (i j:Nat):(swp d i j).size=d.size:=Go.Sort.size_swp d i j
theorem cmp_step {α β:Type} {cmp:α→α→Option Int} {lt:α→α→Bool} {Q:α→Prop} (hc:∀ x y,Q x→Q y→∃ c:Int,cmp x y=some c∧lt x y=decide (c<0)) {x y:α} (hx:Q x) (hy:Q y) (A B:Option β) :
  ((cmp x y).bind fun r=>if r<0 then A else B)=if lt x y=true then A else B:=by
 obtain ⟨c,h1,h2⟩:=hc x y hx hy
 rw [h1,h2,Option.bind_some]
 by_cases h:c<0 <;> simp [h]
theorem cmp_some {α:Type} {cmp:α→α→Option Int} {lt:α→α→Bool} {Q:α→Prop} (hc:∀ x y,Q x→Q y→∃ c:Int,cmp x y=some c∧lt x y=decide (c<0)) {x y:α} (hx:Q x) (hy:Q y) {β:Type} (K:Bool→Option β) :
  ((cmp x y).bind fun r=>K (decide (r<0)))=K (lt x y):=by
 obtain ⟨c,h1,h2⟩:=hc x y hx hy
 rw [h1,h2,Option.bind_some]
variable [Inhabited Ga]
/-! the insertion sort -/
theorem insInner (n:Nat) {Q:Ga→Prop} {cmp:Ga→Ga→Option Int} {lt:Ga→Ga→Bool} (hc:∀ x y,Q x→Q y→∃ c:Int,cmp x y=some c∧lt x y=decide (c<0)) (b ii:Int) (a:Nat):∀ (k j:Nat) (d:Array Ga),AQ Q d→j<k→j<d.size→d.size<1000000 →
  Gn n (a:Int) b cmp ii k (j:Int) d.toList=some (.x0 (Go.Sort.insInner lt a j d).toList)
 | 0,j,d,_,h,_,_=>by omega
 | k+1,j,d,hq,h,hj,hd=>by
  rw [Gn]
  cases j with
  | zero=>rw [if_neg (by omega)]; rfl
  | succ j =>
   have e:wi .i64 (((j+1:Nat):Int)-1)=(j:Int):=by rw [wi64 (by omega) (by omega)]; omega
   by_cases h1:j+1 > a
   ·rw [if_pos (by omega),ld d rfl hj,ld d e (by omega),cmp_step hc (hq (j+1) hj) (hq j (by omega))]
    by_cases h2:lt d[j+1]! d[j]! = true
    ·have e2:Go.Sort.insInner lt a (j+1) d=Go.Sort.insInner lt a j (swp d (j+1) j):=by rw [Go.Sort.insInner]; simp [h1,h2]
     rw [if_pos h2,e2,sw d rfl e hj (by omega),sw_set d rfl e,e]
     exact insInner n hc b ii a k j _ (aq_swp hq hj (by omega)) (by omega) (by rw [sz]; omega) (by rw [sz]; omega)
    ·have e2:Go.Sort.insInner lt a (j+1) d=d:=by rw [Go.Sort.insInner]; simp [h2]
     rw [if_neg h2,e2]
   ·have e2:Go.Sort.insInner lt a (j+1) d=d:=by rw [Go.Sort.insInner]; simp [h1]
    rw [if_neg (by omega),e2]
theorem insInner_size {lt:Ga→Ga→Bool} (a:Nat):∀ (j:Nat) (d:Array Ga),(Go.Sort.insInner lt a j d).size=d.size
 | 0,d=>rfl
 | j+1,d=>by
  rw [Go.Sort.insInner]
  split
  ·rw [insInner_size a j,sz]
  ·rfl
theorem insInner_aq {lt:Ga→Ga→Bool} {Q:Ga→Prop} (a:Nat):∀ (j:Nat) (d:Array Ga),AQ Q d→j<d.size→AQ Q (Go.Sort.insInner lt a j d)
 | 0,d,hq,_=>hq
 | j+1,d,hq,hj=>by
  rw [Go.Sort.insInner]
  split
  ·exact insInner_aq a j _ (aq_swp hq hj (by omega)) (by rw [sz]; omega)
  ·exact hq
theorem insOuter (n:Nat) {Q:Ga→Prop} {cmp:Ga→Ga→Option Int} {lt:Ga→Ga→Bool} (hc:∀ x y,Q x→Q y→∃ c:Int,cmp x y=some c∧lt x y=decide (c<0)) (a b:Nat):∀ (k i:Nat) (d:Array Ga),AQ Q d→b-i<k→d.size<n→b≤d.size→d.size<1000000 →
  Gp n (a:Int) (b:Int) cmp k (i:Int) d.toList=some (.x0 (Go.Sort.insOuter lt a b i d).toList)
 | 0,i,d,_,h,_,_,_=>by omega
 | k+1,i,d,hq,h,hn,hb,hd=>by
  rw [Gp,Go.Sort.insOuter]
  by_cases h1:i<b
  ·rw [if_pos (by omega),if_pos h1,insInner n hc _ _ a n i d hq (by omega) (by omega) hd,Option.bind_some]
   simp only [wi_succ (show i<4611686018427387904 by omega)]
   exact insOuter n hc a b k (i+1) _ (insInner_aq a i d hq (by omega)) (by omega) (by rw [insInner_size]; omega) (by rw [insInner_size]; omega) (by rw [insInner_size]; omega)
  ·rw [if_neg (by omega),if_neg h1]
theorem insertionSort (n:Nat) {Q:Ga→Prop} {cmp:Ga→Ga→Option Int} {lt:Ga→Ga→Bool} (hc:∀ x y,Q x→Q y→∃ c:Int,cmp x y=some c∧lt x y=decide (c<0)) (a b:Nat) (d:Array Ga) (hq:AQ Q d) (hab:a≤b) (hn:d.size<n) (hb:b≤d.size) (hd:d.size<1000000) :
  GU n d.toList (a:Int) (b:Int) cmp=some (Go.Sort.insertionSort lt d a b).toList:=by
 unfold GU Go.Sort.insertionSort
 rw [wi_succ (by omega),insOuter n hc a b n (a+1) d hq (by omega) hn hb hd]
 rfl
/-! the heap -/
theorem wiT {r:Nat} (h:r<1000000):wi .i64 (wi .i64 (2*(r:Int))+1)=((2*r+1:Nat):Int):=by rw [wi64 (x:=2*(r:Int)) (by omega) (by omega),wi64 (by omega) (by omega)]; omega
theorem wiA {a b:Nat} (h:a<1000000) (h':b<3000000):wi .i64 ((a:Int)+(b:Int))=((a+b:Nat):Int):=by rw [wi64 (by omega) (by omega)]; omega
theorem wiS {a b:Nat} (h:a<4000000) (h':b≤a):wi .i64 ((a:Int)-(b:Int))=((a-b:Nat):Int):=by rw [wi64 (by omega) (by omega)]; omega
theorem siftL (n:Nat) {Q:Ga→Prop} {cmp:Ga→Ga→Option Int} {lt:Ga→Ga→Bool} (hc:∀ x y,Q x→Q y→∃ c:Int,cmp x y=some c∧lt x y=decide (c<0)) (hi first:Nat):∀ (k root:Nat) (d:Array Ga),AQ Q d→hi-root<k→first+hi≤d.size→d.size<1000000→root<1000000 →
  ∃ o,GC n (hi:Int) (first:Int) cmp k (root:Int) d.toList=some o∧(match o with | .x0 r=>r=(Go.Sort.siftDown lt hi first root d).toList | .x1 r=>r=(Go.Sort.siftDown lt hi first root d).toList)
 | 0,root,d,_,h,_,_,_=>by omega
 | k+1,root,d,hq,h,hh,hd,hr=>by
  rw [GC,wiT hr]
  by_cases h0:2*root+1≥hi
  ·rw [if_pos (by omega)]
   have e2:Go.Sort.siftDown lt hi first root d=d:=by rw [Go.Sort.siftDown]; simp [h0]
   exact ⟨_,rfl,by rw [e2]⟩
  ·rw [if_neg (by omega)]
   have ec:wi .i64 (((2*root+1:Nat):Int)+1)=((2*root+2:Nat):Int):=wi_succ (by omega)
   have ef:wi .i64 ((first:Int)+((2*root+1:Nat):Int))=((first+(2*root+1):Nat):Int):=wiA (by omega) (by omega)
   have eg:wi .i64 (((first+(2*root+1):Nat):Int)+1)=((first+(2*root+1)+1:Nat):Int):=wi_succ (by omega)
   have c1:G7 n (hi:Int) (first:Int) cmp (root:Int) d.toList=some (.x0 (decide (2*root+2<hi)&&lt d[first+(2*root+1)]! d[first+(2*root+1)+1]!) d.toList):=by
    unfold G7
    rw [wiT hr,ec]
    by_cases h1:2*root+2<hi
    ·rw [if_pos (by omega),ef,ld d rfl (by omega),eg,ld d rfl (by omega),cmp_some hc (hq (first+(2*root+1)) (by omega)) (hq (first+(2*root+1)+1) (by omega)) (K:=fun r=>some (GV.x0 r d.toList))]
     simp [h1]
    ·rw [if_neg (by omega)]
     simp [h1]
   rw [c1,Option.bind_some]
   simp only []
   generalize hb:(decide (2*root+2<hi)&&lt d[first+(2*root+1)]! d[first+(2*root+1)+1]!)=bb
   have er:wi .i64 ((first:Int)+(root:Int))=((first+root:Nat):Int):=wiA (by omega) (by omega)
   obtain ⟨c,hc1,hc2,hc3,c2⟩:∃ c:Nat,root<c∧c<hi∧Go.Sort.siftDown lt hi first root d=(if (!lt d[first+root]! d[first+c]!)=true then d else Go.Sort.siftDown lt hi first c (swp d (first+root) (first+c)))∧GJ n (hi:Int) (first:Int) cmp (root:Int) bb d.toList=some (.x0 (c:Int) d.toList):=by
    cases bb with
    | true =>
     refine ⟨2*root+2,by omega,by simp at hb; omega,?_,?_⟩
     ·rw [Go.Sort.siftDown]
      simp at hb
      simp [h0,hb]
     ·unfold GJ
      rw [if_pos rfl,wiT hr,ec]
    | false =>
     refine ⟨2*root+1,by omega,by omega,?_,?_⟩
     ·rw [Go.Sort.siftDown]
      have hb':(decide (2*root+1+1<hi)&&lt d[first+(2*root+1)]! d[first+(2*root+1)+1]!)=false:=hb
      rw [dif_neg h0,if_neg (by rw [hb']; simp)]
     ·unfold GJ
      rw [if_neg (by simp),wiT hr]
   rw [c2,Option.bind_some]
   simp only []
   have eq:wi .i64 ((first:Int)+(c:Int))=((first+c:Nat):Int):=wiA (by omega) (by omega)
   rw [er,ld d rfl (by omega),eq,ld d rfl (by omega),cmp_step hc (hq (first+root) (by omega)) (hq (first+c) (by omega))]
   by_cases h2:lt d[first+root]! d[first+c]! = true
   ·rw [if_pos h2,sw d rfl rfl (by omega) (by omega),sw_set d rfl rfl,hc3,if_neg (by simp [h2])]
    exact siftL n hc hi first k c _ (aq_swp hq (by omega) (by omega)) (by omega) (by rw [sz]; omega) (by rw [sz]; omega) (by omega)
   ·rw [if_neg h2,hc3,if_pos (by simp [h2])]
    exact ⟨_,rfl,rfl⟩
theorem siftDown (n:Nat) {Q:Ga→Prop} {cmp:Ga→Ga→Option Int} {lt:Ga→Ga→Bool} (hc:∀ x y,Q x→Q y→∃ c:Int,cmp x y=some c∧lt x y=decide (c<0)) (lo hi first:Nat) (d:Array Ga) (hq:AQ Q d) (hn:d.size<n) (h:first+hi≤d.size) (hd:d.size<1000000) (hl:lo<1000000) :
  GS n d.toList (lo:Int) (hi:Int) (first:Int) cmp=some (Go.Sort.siftDown lt hi first lo d).toList:=by
 unfold GS
 obtain ⟨o,h1,h2⟩:=siftL n hc hi first n lo d hq (by omega) h hd hl
 rw [h1,Option.bind_some]
 cases o with
 | x0 r=>simp only at h2; subst h2; rfl
 | x1 r=>simp only at h2; subst h2; rfl
theorem siftDown_size {lt:Ga→Ga→Bool} (hi first:Nat):∀ (k root:Nat) (d:Array Ga),hi-root<k→(Go.Sort.siftDown lt hi first root d).size=d.size
 | 0,root,d,h=>by omega
 | k+1,root,d,h=>by
  rw [Go.Sort.siftDown]
  split
  ·rfl
  ·split
   ·split
    ·rfl
    ·split
     ·rw [siftDown_size hi first k _ _ (by omega),sz]
     ·rfl
   ·split
    ·rfl
    ·rw [siftDown_size hi first k _ _ (by omega),sz]
theorem sd_size {lt:Ga→Ga→Bool} (hi first root:Nat) (d:Array Ga):(Go.Sort.siftDown lt hi first root d).size=d.size:=siftDown_size hi first _ root d (Nat.lt_succ_self _)
theorem siftDown_aq {lt:Ga→Ga→Bool} {Q:Ga→Prop} (hi first:Nat):∀ (k root:Nat) (d:Array Ga),AQ Q d→hi-root<k→first+hi≤d.size→AQ Q (Go.Sort.siftDown lt hi first root d)
 | 0,root,d,_,h,_=>by omega
 | k+1,root,d,hq,h,hh=>by
  rw [Go.Sort.siftDown]
  split
  ·exact hq
  ·rename_i h0
   split
   ·split
    ·exact hq
    ·split
     ·rename_i h2
      exact siftDown_aq hi first k _ _ (aq_swp hq (by omega) (by omega)) (by omega) (by rw [sz]; exact hh)
     ·exact hq
   ·split
    ·exact hq
    ·exact siftDown_aq hi first k _ _ (aq_swp hq (by omega) (by omega)) (by omega) (by rw [sz]; exact hh)
theorem sd_aq {lt:Ga→Ga→Bool} {Q:Ga→Prop} (hi first root:Nat) (d:Array Ga) (hq:AQ Q d) (h:first+hi≤d.size):AQ Q (Go.Sort.siftDown lt hi first root d):=siftDown_aq hi first _ root d hq (Nat.lt_succ_self _) h
theorem heapBuild (n:Nat) {Q:Ga→Prop} {cmp:Ga→Ga→Option Int} {lt:Ga→Ga→Bool} (hc:∀ x y,Q x→Q y→∃ c:Int,cmp x y=some c∧lt x y=decide (c<0)) (a b:Nat) (hab:a≤b):∀ (k j:Nat) (d:Array Ga),AQ Q d→j<k→d.size<n→b≤d.size→d.size<1000000→j<1000000 →
  GD n cmp (a:Int) (b:Int) k ((j:Int)-1) d.toList=some (.x0 (Go.Sort.heapBuild lt (b-a) a j d).toList)
 | 0,j,d,_,h,_,_,_,_=>by omega
 | k+1,j,d,hq,h,hn,hb,hd,hj=>by
  rw [GD]
  cases j with
  | zero=>rw [if_neg (by omega)]; rfl
  | succ j =>
   have e:((j+1:Nat):Int)-1=(j:Int):=by omega
   rw [e,if_pos (by omega),wiS (by omega) hab,siftDown n hc j (b-a) a d hq hn (by omega) hd (by omega),Option.bind_some]
   have e3:wi .i64 ((j:Int)-1)=(j:Int)-1:=wi64 (by omega) (by omega)
   rw [e3]
   exact heapBuild n hc a b hab k j _ (sd_aq _ _ _ d hq (by omega)) (by omega) (by rw [sd_size]; omega) (by rw [sd_size]; omega) (by rw [sd_size]; omega) (by omega)
theorem heapBuild_size {lt:Ga→Ga→Bool} (hi first:Nat):∀ (j:Nat) (d:Array Ga),(Go.Sort.heapBuild lt hi first j d).size=d.size
 | 0,d=>rfl
 | j+1,d=>by rw [Go.Sort.heapBuild,heapBuild_size hi first j,sd_size]
theorem heapBuild_aq {lt:Ga→Ga→Bool} {Q:Ga→Prop} (hi first:Nat):∀ (j:Nat) (d:Array Ga),AQ Q d→first+hi≤d.size→AQ Q (Go.Sort.heapBuild lt hi first j d)
 | 0,d,hq,_=>hq
 | j+1,d,hq,h=>by rw [Go.Sort.heapBuild]; exact heapBuild_aq hi first j _ (sd_aq _ _ _ d hq h) (by rw [sd_size]; exact h)
theorem heapPop (n:Nat) {Q:Ga→Prop} {cmp:Ga→Ga→Option Int} {lt:Ga→Ga→Bool} (hc:∀ x y,Q x→Q y→∃ c:Int,cmp x y=some c∧lt x y=decide (c<0)) (a:Nat):∀ (k j:Nat) (d:Array Ga),AQ Q d→j<k→d.size<n→a+j≤d.size→d.size<1000000 →
  GE n cmp (a:Int) k ((j:Int)-1) d.toList=some (.x0 (Go.Sort.heapPop lt a j d).toList)
 | 0,j,d,_,h,_,_,_=>by omega
 | k+1,j,d,hq,h,hn,hb,hd=>by
  rw [GE]
  cases j with
  | zero=>rw [if_neg (by omega)]; rfl
  | succ j =>
   have e:((j+1:Nat):Int)-1=(j:Int):=by omega
   rw [e,if_pos (by omega),wiA (by omega) (by omega),sw d rfl rfl (by omega) (by omega),sw_set d rfl rfl]
   have e0:(0:Int)=((0:Nat):Int):=rfl
   rw [e0,siftDown n hc 0 j a _ (aq_swp hq (by omega) (by omega)) (by rw [sz]; omega) (by rw [sz]; omega) (by rw [sz]; omega) (by omega),Option.bind_some]
   have e3:wi .i64 ((j:Int)-1)=(j:Int)-1:=wi64 (by omega) (by omega)
   rw [e3]
   exact heapPop n hc a k j _ (sd_aq _ _ _ _ (aq_swp hq (by omega) (by omega)) (by rw [sz]; omega)) (by omega) (by rw [sd_size,sz]; omega) (by rw [sd_size,sz]; omega) (by rw [sd_size,sz]; omega)
theorem heapSort (n:Nat) {Q:Ga→Prop} {cmp:Ga→Ga→Option Int} {lt:Ga→Ga→Bool} (hc:∀ x y,Q x→Q y→∃ c:Int,cmp x y=some c∧lt x y=decide (c<0)) (a b:Nat) (d:Array Ga) (hq:AQ Q d) (hab:a≤b) (hn:d.size+1<n) (hb:b≤d.size) (hd:d.size<1000000) :
  Sl n d.toList (a:Int) (b:Int) cmp=some (Go.Sort.heapSort lt d a b).toList:=by
 unfold Sl Go.Sort.heapSort
 have e1:quoI .i64 (wi .i64 (wi .i64 ((b:Int)-(a:Int))-1)) 2=(((b-a-1) / 2+1:Nat):Int)-1:=by
  rw [wiS (by omega) hab,wi64 (x:=((b-a:Nat):Int)-1) (by omega) (by omega)]
  by_cases h:b-a=0
  ·rw [h]; rfl
  ·rw [quo_i64 (by omega) (by omega) (by omega)]
   omega
 have e2:wi .i64 (wi .i64 ((b:Int)-(a:Int))-1)=((b-a:Nat):Int)-1:=by
  rw [wiS (by omega) hab,wi64 (by omega) (by omega)]
 rw [e1,e2,heapBuild n hc a b hab n _ d hq (by omega) (by omega) hb hd (by omega),Option.bind_some]
 simp only []
 rw [heapPop n hc a n (b-a) _ (heapBuild_aq _ _ _ d hq (by omega)) (by omega) (by rw [heapBuild_size]; omega) (by rw [heapBuild_size]; omega) (by rw [heapBuild_size]; omega)]
 rfl
/-! the partitions -/
theorem su_yes {p:Ga→Bool} {d:Array Ga} {j i:Nat} (h1:i≤j) (h2:p d[i]! = true):Go.Sort.scanUp p d j i=Go.Sort.scanUp p d j (i+1):=by rw [Go.Sort.scanUp,if_pos (by simp [h1,h2])]
theorem su_out {p:Ga→Bool} {d:Array Ga} {j i:Nat} (h1:¬ i≤j):Go.Sort.scanUp p d j i=i:=by rw [Go.Sort.scanUp,if_neg (by simp [h1])]
theorem su_no {p:Ga→Bool} {d:Array Ga} {j i:Nat} (h2:p d[i]! = false):Go.Sort.scanUp p d j i=i:=by rw [Go.Sort.scanUp,if_neg (by simp [h2])]
theorem sd_yes {p:Ga→Bool} {d:Array Ga} {j i:Nat} (h1:i≤j+1) (h2:p d[j+1]! = true):Go.Sort.scanDown p d i (j+1)=Go.Sort.scanDown p d i j:=by rw [Go.Sort.scanDown,if_pos (by simp [h1,h2])]
theorem sd_out {p:Ga→Bool} {d:Array Ga} {i:Nat}:∀ {j:Nat} (_:¬ i≤j),Go.Sort.scanDown p d i j=j
 | 0,_=>rfl
 | j+1,h=>by rw [Go.Sort.scanDown,if_neg (by simp [h])]
theorem sd_no {p:Ga→Bool} {d:Array Ga} {i:Nat}:∀ {j:Nat} (_:p d[j]! = false),Go.Sort.scanDown p d i j=j
 | 0,_=>rfl
 | j+1,h=>by rw [Go.Sort.scanDown,if_neg (by simp [h])]
theorem pred {b:Nat} (h1:1≤b) (h:b<4000000):wi .i64 ((b:Int)-1)=((b-1:Nat):Int):=by rw [wi64 (by omega) (by omega)]; omega
theorem pL1 (n:Nat) {Q:Ga→Prop} {cmp:Ga→Ga→Option Int} {lt:Ga→Ga→Bool} (hc:∀ x y,Q x→Q y→∃ c:Int,cmp x y=some c∧lt x y=decide (c<0)) (a b:Nat) (hb1:1≤b):∀ (k i:Nat) (d:Array Ga),AQ Q d→b-i<k→a<d.size→b≤d.size→d.size<1000000 →
  Gv n (a:Int) cmp (b:Int) k (i:Int) d.toList=some (.x0 ((Go.Sort.scanUp (fun x=>lt x d[a]!) d (b-1) i:Nat):Int) d.toList)
 | 0,i,d,_,h,_,_,_=>by omega
 | k+1,i,d,hq,h,ha,hb,hd=>by
  rw [Gv,pred hb1 (by omega)]
  by_cases h1:i≤b-1
  ·rw [if_pos (by omega),ld d rfl (by omega),ld d rfl (by omega),cmp_step hc (hq i (by omega)) (hq a ha)]
   by_cases h2:lt d[i]! d[a]! = true
   ·rw [if_pos h2,wi_succ (by omega),su_yes h1 h2]
    exact pL1 n hc a b hb1 k (i+1) d hq (by omega) ha hb hd
   ·rw [if_neg h2,su_no (by simpa using h2)]
  ·rw [if_neg (by omega),su_out h1]
theorem pL3 (n:Nat) {Q:Ga→Prop} {cmp:Ga→Ga→Option Int} {lt:Ga→Ga→Bool} (hc:∀ x y,Q x→Q y→∃ c:Int,cmp x y=some c∧lt x y=decide (c<0)) (a j:Nat):∀ (k i:Nat) (d:Array Ga),AQ Q d→j+1-i<k→a<d.size→j<d.size→d.size<1000000 →
  Gx n (a:Int) cmp (j:Int) k (i:Int) d.toList=some (.x0 ((Go.Sort.scanUp (fun x=>lt x d[a]!) d j i:Nat):Int) d.toList)
 | 0,i,d,_,h,_,_,_=>by omega
 | k+1,i,d,hq,h,ha,hb,hd=>by
  rw [Gx]
  by_cases h1:i≤j
  ·rw [if_pos (by omega),ld d rfl (by omega),ld d rfl (by omega),cmp_step hc (hq i (by omega)) (hq a ha)]
   by_cases h2:lt d[i]! d[a]! = true
   ·rw [if_pos h2,wi_succ (by omega),su_yes h1 h2]
    exact pL3 n hc a j k (i+1) d hq (by omega) ha hb hd
   ·rw [if_neg h2,su_no (by simpa using h2)]
  ·rw [if_neg (by omega),su_out h1]
theorem pL2 (n:Nat) {Q:Ga→Prop} {cmp:Ga→Ga→Option Int} {lt:Ga→Ga→Bool} (hc:∀ x y,Q x→Q y→∃ c:Int,cmp x y=some c∧lt x y=decide (c<0)) (a i:Nat) (hi:1≤i):∀ (k j:Nat) (d:Array Ga),AQ Q d→j<k→a<d.size→j<d.size→d.size<1000000 →
  Gw n (a:Int) cmp (i:Int) k (j:Int) d.toList=some (.x0 ((Go.Sort.scanDown (fun x=>!lt x d[a]!) d i j:Nat):Int) d.toList)
 | 0,j,d,_,h,_,_,_=>by omega
 | k+1,j,d,hq,h,ha,hb,hd=>by
  rw [Gw]
  by_cases h1:i≤j
  ·rw [if_pos (by omega),ld d rfl (by omega),ld d rfl (by omega),cmp_step hc (hq j (by omega)) (hq a ha)]
   by_cases h2:lt d[j]! d[a]! = true
   ·rw [if_pos h2,sd_no (by simp [h2])]
   ·obtain ⟨j,rfl⟩:∃ q,j=q+1:=⟨j-1,by omega⟩
    rw [if_neg h2,pred (by omega) (by omega),sd_yes h1 (by simpa using h2)]
    exact pL2 n hc a i hi k j d hq (by omega) ha (by omega) hd
  ·rw [if_neg (by omega),sd_out h1]
theorem pL4 (n:Nat) {Q:Ga→Prop} {cmp:Ga→Ga→Option Int} {lt:Ga→Ga→Bool} (hc:∀ x y,Q x→Q y→∃ c:Int,cmp x y=some c∧lt x y=decide (c<0)) (a i:Nat) (hi:1≤i):∀ (k j:Nat) (d:Array Ga),AQ Q d→j<k→a<d.size→j<d.size→d.size<1000000 →
  Gy n (a:Int) cmp (i:Int) k (j:Int) d.toList=some (.x0 ((Go.Sort.scanDown (fun x=>!lt x d[a]!) d i j:Nat):Int) d.toList)
 | 0,j,d,_,h,_,_,_=>by omega
 | k+1,j,d,hq,h,ha,hb,hd=>by
  rw [Gy]
  by_cases h1:i≤j
  ·rw [if_pos (by omega),ld d rfl (by omega),ld d rfl (by omega),cmp_step hc (hq j (by omega)) (hq a ha)]
   by_cases h2:lt d[j]! d[a]! = true
   ·rw [if_pos h2,sd_no (by simp [h2])]
   ·obtain ⟨j,rfl⟩:∃ q,j=q+1:=⟨j-1,by omega⟩
    rw [if_neg h2,pred (by omega) (by omega),sd_yes h1 (by simpa using h2)]
    exact pL4 n hc a i hi k j d hq (by omega) ha (by omega) hd
  ·rw [if_neg (by omega),sd_out h1]
theorem pL5 (n:Nat) {Q:Ga→Prop} {cmp:Ga→Ga→Option Int} {lt:Ga→Ga→Bool} (hc:∀ x y,Q x→Q y→∃ c:Int,cmp x y=some c∧lt x y=decide (c<0)) (a:Nat):∀ (k i j:Nat) (d:Array Ga),AQ Q d→j+1-i<k→1≤i→a<d.size→j<d.size→d.size<n→d.size<1000000 →
  Gz n (a:Int) cmp k (i:Int) (j:Int) d.toList=some (.x0 (((Go.Sort.partLoop lt a i j d).1:Nat):Int) (Go.Sort.partLoop lt a i j d).2.toList)
 | 0,i,j,d,_,h,_,_,_,_,_=>by omega
 | k+1,i,j,d,hq,h,hi,ha,hj,hn,hd=>by
  have g1:=Go.Sort.scanUp_ge (fun x=>lt x d[a]!) d j i
  rw [Gz,pL3 n hc a j n i d hq (by omega) ha hj hd,Option.bind_some]
  simp only []
  rw [pL4 n hc a _ (by omega) n j d hq (by omega) ha hj hd,Option.bind_some]
  simp only []
  have g2:=Go.Sort.scanDown_le (fun x=>!lt x d[a]!) d (Go.Sort.scanUp (fun x=>lt x d[a]!) d j i) j
  rw [Go.Sort.partLoop_eq]
  generalize Go.Sort.scanDown (fun x=>!lt x d[a]!) d (Go.Sort.scanUp (fun x=>lt x d[a]!) d j i) j=J at *
  generalize Go.Sort.scanUp (fun x=>lt x d[a]!) d j i=I at *
  by_cases h1:I > J
  ·rw [if_pos (by omega),if_pos h1]
  ·rw [if_neg (by omega),if_neg h1,sw d rfl rfl (by omega) (by omega),sw_set d rfl rfl,wi_succ (by omega),pred (by omega) (by omega)]
   exact pL5 n hc a k (I+1) (J-1) _ (aq_swp hq (by omega) (by omega)) (by omega) (by omega) (by rw [sz]; omega) (by rw [sz]; omega) (by rw [sz]; omega) (by rw [sz]; omega)
theorem partLoop_size {lt:Ga→Ga→Bool} (a:Nat):∀ (k i j:Nat) (d:Array Ga),j+1-i<k→(Go.Sort.partLoop lt a i j d).2.size=d.size∧(Go.Sort.partLoop lt a i j d).1≤j
 | 0,i,j,d,h=>by omega
 | k+1,i,j,d,h=>by
  rw [Go.Sort.partLoop_eq]
  have g1:=Go.Sort.scanUp_ge (fun x=>lt x d[a]!) d j i
  have g2:=Go.Sort.scanDown_le (fun x=>!lt x d[a]!) d (Go.Sort.scanUp (fun x=>lt x d[a]!) d j i) j
  generalize Go.Sort.scanDown (fun x=>!lt x d[a]!) d (Go.Sort.scanUp (fun x=>lt x d[a]!) d j i) j=J at *
  generalize Go.Sort.scanUp (fun x=>lt x d[a]!) d j i=I at *
  by_cases h1:I > J
  ·rw [if_pos h1]; exact ⟨rfl,g2⟩
  ·rw [if_neg h1]
   by_cases h2:J=0
   ·subst h2
    have:=partLoop_size (lt:=lt) a k (I+1) (0-1) (swp d I 0) (by omega)
    rw [sz] at this
    exact ⟨this.1,by omega⟩
   ·have:=partLoop_size (lt:=lt) a k (I+1) (J-1) (swp d I J) (by omega)
    rw [sz] at this
    exact ⟨this.1,by omega⟩
theorem partition (n:Nat) {Q:Ga→Prop} {cmp:Ga→Ga→Option Int} {lt:Ga→Ga→Bool} (hc:∀ x y,Q x→Q y→∃ c:Int,cmp x y=some c∧lt x y=decide (c<0)) (a b pivot:Nat) (d:Array Ga) (hq:AQ Q d) (hab:a<b) (hp:pivot<d.size) (hn:d.size<n) (hb:b≤d.size) (hd:d.size<1000000) :
  Gs n d.toList (a:Int) (b:Int) (pivot:Int) cmp=some ((((Go.Sort.partition lt d a b pivot).1:Nat):Int),(Go.Sort.partition lt d a b pivot).2.1,(Go.Sort.partition lt d a b pivot).2.2.toList):=by
 unfold Gs Go.Sort.partition
 simp only []
 rw [sw d rfl rfl (by omega) (by omega),sw_set d rfl rfl]
 have hz:=sz d a pivot
 have hq:=aq_swp (i:=a) (j:=pivot) hq (by omega) (by omega)
 generalize swp d a pivot=e at *
 have g1:=Go.Sort.scanUp_ge (fun x=>lt x e[a]!) e (b-1) (a+1)
 rw [wi_succ (by omega),pL1 n hc a b (by omega) n _ e hq (by omega) (by omega) (by omega) (by omega),Option.bind_some]
 simp only []
 have g2:=Go.Sort.scanDown_le (fun x=>!lt x e[a]!) e (Go.Sort.scanUp (fun x=>lt x e[a]!) e (b-1) (a+1)) (b-1)
 rw [pred (by omega) (by omega),pL2 n hc a _ (by omega) n _ e hq (by omega) (by omega) (by omega) (by omega),Option.bind_some]
 simp only []
 generalize Go.Sort.scanDown (fun x=>!lt x e[a]!) e (Go.Sort.scanUp (fun x=>lt x e[a]!) e (b-1) (a+1)) (b-1)=J at *
 generalize Go.Sort.scanUp (fun x=>lt x e[a]!) e (b-1) (a+1)=I at *
 by_cases h1:I > J
 ·rw [if_pos (by omega),if_pos h1,sw e rfl rfl (by omega) (by omega),sw_set e rfl rfl]
 ·rw [if_neg (by omega),if_neg h1,sw e rfl rfl (by omega) (by omega),sw_set e rfl rfl,wi_succ (by omega),pred (by omega) (by omega)]
  have hz2:=sz e I J
  have hs:=partLoop_size (lt:=lt) a _ (I+1) (J-1) (swp e I J) (Nat.lt_succ_self _)
  rw [pL5 n hc a n (I+1) (J-1) _ (aq_swp hq (by omega) (by omega)) (by omega) (by omega) (by omega) (by omega) (by omega) (by omega),Option.bind_some]
  simp only []
  generalize Go.Sort.partLoop lt a (I+1) (J-1) (swp e I J)=r at *
  rw [sw r.2 rfl rfl (by omega) (by omega),sw_set r.2 rfl rfl]
theorem qL1 (n:Nat) {Q:Ga→Prop} {cmp:Ga→Ga→Option Int} {lt:Ga→Ga→Bool} (hc:∀ x y,Q x→Q y→∃ c:Int,cmp x y=some c∧lt x y=decide (c<0)) (a j:Nat):∀ (k i:Nat) (d:Array Ga),AQ Q d→j+1-i<k→a<d.size→j<d.size→d.size<1000000 →
  Gk n (a:Int) cmp (j:Int) k (i:Int) d.toList=some (.x0 ((Go.Sort.scanUp (fun x=>!lt d[a]! x) d j i:Nat):Int) d.toList)
 | 0,i,d,_,h,_,_,_=>by omega
 | k+1,i,d,hq,h,ha,hb,hd=>by
  rw [Gk]
  by_cases h1:i≤j
  ·rw [if_pos (by omega),ld d rfl (by omega),ld d rfl (by omega),cmp_step hc (hq a ha) (hq i (by omega))]
   by_cases h2:lt d[a]! d[i]! = true
   ·rw [if_pos h2,su_no (by simp [h2])]
   ·rw [if_neg h2,wi_succ (by omega),su_yes h1 (by simpa using h2)]
    exact qL1 n hc a j k (i+1) d hq (by omega) ha hb hd
  ·rw [if_neg (by omega),su_out h1]
theorem qL2 (n:Nat) {Q:Ga→Prop} {cmp:Ga→Ga→Option Int} {lt:Ga→Ga→Bool} (hc:∀ x y,Q x→Q y→∃ c:Int,cmp x y=some c∧lt x y=decide (c<0)) (a i:Nat) (hi:1≤i):∀ (k j:Nat) (d:Array Ga),AQ Q d→j<k→a<d.size→j<d.size→d.size<1000000 →
  Gl n (a:Int) cmp (i:Int) k (j:Int) d.toList=some (.x0 ((Go.Sort.scanDown (fun x=>lt d[a]! x) d i j:Nat):Int) d.toList)
 | 0,j,d,_,h,_,_,_=>by omega
 | k+1,j,d,hq,h,ha,hb,hd=>by
  rw [Gl]
  by_cases h1:i≤j
  ·rw [if_pos (by omega),ld d rfl (by omega),ld d rfl (by omega),cmp_step hc (hq a ha) (hq j (by omega))]
   by_cases h2:lt d[a]! d[j]! = true
   ·obtain ⟨j,rfl⟩:∃ q,j=q+1:=⟨j-1,by omega⟩
    rw [if_pos h2,pred (by omega) (by omega),sd_yes h1 (by simpa using h2)]
    exact qL2 n hc a i hi k j d hq (by omega) ha (by omega) hd
   ·rw [if_neg h2,sd_no (by simpa using h2)]
  ·rw [if_neg (by omega),sd_out h1]
theorem qL3 (n:Nat) {Q:Ga→Prop} {cmp:Ga→Ga→Option Int} {lt:Ga→Ga→Bool} (hc:∀ x y,Q x→Q y→∃ c:Int,cmp x y=some c∧lt x y=decide (c<0)) (a:Nat):∀ (k i j:Nat) (d:Array Ga),AQ Q d→j+1-i<k→1≤i→a<d.size→j<d.size→d.size<n→d.size<1000000 →
  Gm n (a:Int) cmp k (i:Int) (j:Int) d.toList=some (.x0 (((Go.Sort.partEqLoop lt a i j d).1:Nat):Int) (Go.Sort.partEqLoop lt a i j d).2.toList)
 | 0,i,j,d,_,h,_,_,_,_,_=>by omega
 | k+1,i,j,d,hq,h,hi,ha,hj,hn,hd=>by
  have g1:=Go.Sort.scanUp_ge (fun x=>!lt d[a]! x) d j i
  rw [Gm,qL1 n hc a j n i d hq (by omega) ha hj hd,Option.bind_some]
  simp only []
  rw [qL2 n hc a _ (by omega) n j d hq (by omega) ha hj hd,Option.bind_some]
  simp only []
  have g2:=Go.Sort.scanDown_le (fun x=>lt d[a]! x) d (Go.Sort.scanUp (fun x=>!lt d[a]! x) d j i) j
  rw [Go.Sort.partEqLoop_eq]
  generalize Go.Sort.scanDown (fun x=>lt d[a]! x) d (Go.Sort.scanUp (fun x=>!lt d[a]! x) d j i) j=J at *
  generalize Go.Sort.scanUp (fun x=>!lt d[a]! x) d j i=I at *
  by_cases h1:I > J
  ·rw [if_pos (by omega),if_pos h1]
  ·rw [if_neg (by omega),if_neg h1,sw d rfl rfl (by omega) (by omega),sw_set d rfl rfl,wi_succ (by omega),pred (by omega) (by omega)]
   exact qL3 n hc a k (I+1) (J-1) _ (aq_swp hq (by omega) (by omega)) (by omega) (by omega) (by rw [sz]; omega) (by rw [sz]; omega) (by rw [sz]; omega) (by rw [sz]; omega)
theorem partitionEqual (n:Nat) {Q:Ga→Prop} {cmp:Ga→Ga→Option Int} {lt:Ga→Ga→Bool} (hc:∀ x y,Q x→Q y→∃ c:Int,cmp x y=some c∧lt x y=decide (c<0)) (a b pivot:Nat) (d:Array Ga) (hq:AQ Q d) (hab:a<b) (hp:pivot<d.size) (hn:d.size<n) (hb:b≤d.size) (hd:d.size<1000000) :
  Gi n d.toList (a:Int) (b:Int) (pivot:Int) cmp=some ((((Go.Sort.partitionEqual lt d a b pivot).1:Nat):Int),(Go.Sort.partitionEqual lt d a b pivot).2.toList):=by
 unfold Gi Go.Sort.partitionEqual
 have hz:=sz d a pivot
 rw [sw d rfl rfl (by omega) (by omega),sw_set d rfl rfl,wi_succ (by omega),pred (by omega) (by omega),qL3 n hc a n _ _ _ (aq_swp hq (by omega) (by omega)) (by omega) (by omega) (by omega) (by omega) (by omega) (by omega)]
 rfl
/-! the reverse -/
theorem revL (n:Nat):∀ (k i j:Nat) (d:Array Ga),j-i<k→j<d.size→d.size<1000000 →
  Gq n k (i:Int) (j:Int) d.toList=some (.x0 (Go.Sort.reverseLoop i j d).toList)
 | 0,i,j,d,h,_,_=>by omega
 | k+1,i,j,d,h,hj,hd=>by
  rw [Gq,Go.Sort.reverseLoop]
  by_cases h1:i<j
  ·rw [if_pos (by omega),if_pos h1,sw d rfl rfl (by omega) (by omega),sw_set d rfl rfl,wi_succ (by omega),pred (by omega) (by omega)]
   exact revL n k (i+1) (j-1) _ (by omega) (by rw [sz]; omega) (by rw [sz]; omega)
  ·rw [if_neg (by omega),if_neg h1]
theorem reverseRange (n:Nat) (cmp:Ga→Ga→Option Int) (a b:Nat) (d:Array Ga) (hab:a<b) (hn:d.size<n) (hb:b≤d.size) (hd:d.size<1000000) :
  GZ n d.toList (a:Int) (b:Int) cmp=some (Go.Sort.reverseRange d a b).toList:=by
 unfold GZ Go.Sort.reverseRange
 rw [pred (by omega) (by omega),revL n n a (b-1) d (by omega) (by omega) hd]
 rfl
/-! the partial insertion sort -/
theorem ss_yes {lt:Ga→Ga→Bool} {d:Array Ga} {b i:Nat} (h1:i<b) (h2:lt d[i]! d[i-1]! = false):Go.Sort.scanSorted lt d b i=Go.Sort.scanSorted lt d b (i+1):=by rw [Go.Sort.scanSorted,if_pos (by simp [h1,h2])]
theorem ss_out {lt:Ga→Ga→Bool} {d:Array Ga} {b i:Nat} (h1:¬ i<b):Go.Sort.scanSorted lt d b i=i:=by rw [Go.Sort.scanSorted,if_neg (by simp [h1])]
theorem ss_no {lt:Ga→Ga→Bool} {d:Array Ga} {b i:Nat} (h2:lt d[i]! d[i-1]! = true):Go.Sort.scanSorted lt d b i=i:=by rw [Go.Sort.scanSorted,if_neg (by simp [h2])]
theorem iL1 (n:Nat) {Q:Ga→Prop} {cmp:Ga→Ga→Option Int} {lt:Ga→Ga→Bool} (hc:∀ x y,Q x→Q y→∃ c:Int,cmp x y=some c∧lt x y=decide (c<0)) (aa jj:Int) (b:Nat):∀ (k i:Nat) (d:Array Ga),AQ Q d→b-i<k→1≤i→b≤d.size→d.size<1000000→i≤b →
  Ge n aa (b:Int) cmp jj k (i:Int) d.toList=some (.x0 ((Go.Sort.scanSorted lt d b i:Nat):Int) d.toList)∧i≤Go.Sort.scanSorted lt d b i∧Go.Sort.scanSorted lt d b i≤b
 | 0,i,d,_,h,_,_,_,_=>by omega
 | k+1,i,d,hq,h,hi,hb,hd,hib=>by
  rw [Ge]
  by_cases h1:i<b
  ·rw [if_pos (by omega),ld d rfl (by omega),ld d (pred hi (by omega)) (by omega),cmp_step hc (hq i (by omega)) (hq (i-1) (by omega))]
   by_cases h2:lt d[i]! d[i-1]! = true
   ·rw [if_pos h2,ss_no h2]
    exact ⟨rfl,Nat.le_refl _,hib⟩
   ·rw [if_neg h2,wi_succ (by omega),ss_yes h1 (by simpa using h2)]
    obtain ⟨q1,q2,q3⟩:=iL1 n hc aa jj b k (i+1) d hq (by omega) (by omega) hb hd (by omega)
    exact ⟨q1,by omega,q3⟩
  ·rw [if_neg (by omega),ss_out h1]
   exact ⟨rfl,Nat.le_refl _,hib⟩
theorem iL2 (n:Nat) {Q:Ga→Prop} {cmp:Ga→Ga→Option Int} {lt:Ga→Ga→Bool} (hc:∀ x y,Q x→Q y→∃ c:Int,cmp x y=some c∧lt x y=decide (c<0)) (aa bb zz jj:Int):∀ (k j:Nat) (d:Array Ga),AQ Q d→j<k→j<d.size→d.size<1000000 →
  Gf n aa bb cmp zz jj k (j:Int) d.toList=some (.x0 (Go.Sort.shiftDown lt j d).toList)
 | 0,j,d,_,h,_,_=>by omega
 | k+1,j,d,hq,h,hj,hd=>by
  rw [Gf]
  cases j with
  | zero=>rw [if_neg (by omega)]; rfl
  | succ j =>
   have e:wi .i64 (((j+1:Nat):Int)-1)=(j:Int):=by rw [wi64 (by omega) (by omega)]; omega
   rw [if_pos (by omega),ld d rfl hj,ld d e (by omega),cmp_step hc (hq (j+1) hj) (hq j (by omega)),Go.Sort.shiftDown]
   by_cases h2:lt d[j+1]! d[j]! = true
   ·have g:¬ (!lt d[j+1]! d[j]!)=true:=by simp [h2]
    rw [if_pos h2,if_neg g,sw d rfl e hj (by omega),sw_set d rfl e,e]
    exact iL2 n hc aa bb zz jj k j _ (aq_swp hq hj (by omega)) (by omega) (by rw [sz]; omega) (by rw [sz]; omega)
   ·have g:(!lt d[j+1]! d[j]!)=true:=by simpa using h2
    rw [if_neg h2,if_pos g]
theorem iL3 (n:Nat) {Q:Ga→Prop} {cmp:Ga→Ga→Option Int} {lt:Ga→Ga→Bool} (hc:∀ x y,Q x→Q y→∃ c:Int,cmp x y=some c∧lt x y=decide (c<0)) (aa zz jj:Int) (b:Nat):∀ (k j:Nat) (d:Array Ga),AQ Q d→b-j<k→1≤j→b≤d.size→d.size<1000000 →
  Gg n aa (b:Int) cmp zz jj k (j:Int) d.toList=some (.x0 (Go.Sort.shiftUp lt b j d).toList)
 | 0,j,d,_,h,_,_,_=>by omega
 | k+1,j,d,hq,h,hj,hb,hd=>by
  rw [Gg,Go.Sort.shiftUp]
  by_cases h1:j<b
  ·have e:=pred hj (show j<4000000 by omega)
   rw [if_pos (by omega),if_pos h1,ld d rfl (by omega),ld d e (by omega),cmp_step hc (hq j (by omega)) (hq (j-1) (by omega))]
   by_cases h2:lt d[j]! d[j-1]! = true
   ·have g:¬ (!lt d[j]! d[j-1]!)=true:=by simp [h2]
    rw [if_pos h2,if_neg g,sw d rfl e (by omega) (by omega),sw_set d rfl e,wi_succ (by omega)]
    exact iL3 n hc aa zz jj b k (j+1) _ (aq_swp hq (by omega) (by omega)) (by omega) (by omega) (by rw [sz]; omega) (by rw [sz]; omega)
   ·have g:(!lt d[j]! d[j-1]!)=true:=by simpa using h2
    rw [if_neg h2,if_pos g]
  ·rw [if_neg (by omega),if_neg h1]
theorem iL4 (n:Nat) {Q:Ga→Prop} {cmp:Ga→Ga→Option Int} {lt:Ga→Ga→Bool} (hc:∀ x y,Q x→Q y→∃ c:Int,cmp x y=some c∧lt x y=decide (c<0)) (aa zz jj:Int) (b:Nat):∀ (k j:Nat) (d:Array Ga),AQ Q d→b-j<k→1≤j→b≤d.size→d.size<1000000 →
  Gh n aa (b:Int) cmp zz jj k (j:Int) d.toList=some (.x0 (Go.Sort.shiftUp lt b j d).toList)
 | 0,j,d,_,h,_,_,_=>by omega
 | k+1,j,d,hq,h,hj,hb,hd=>by
  rw [Gh,Go.Sort.shiftUp]
  by_cases h1:j<b
  ·have e:=pred hj (show j<4000000 by omega)
   rw [if_pos (by omega),if_pos h1,ld d rfl (by omega),ld d e (by omega),cmp_step hc (hq j (by omega)) (hq (j-1) (by omega))]
   by_cases h2:lt d[j]! d[j-1]! = true
   ·have g:¬ (!lt d[j]! d[j-1]!)=true:=by simp [h2]
    rw [if_pos h2,if_neg g,sw d rfl e (by omega) (by omega),sw_set d rfl e,wi_succ (by omega)]
    exact iL4 n hc aa zz jj b k (j+1) _ (aq_swp hq (by omega) (by omega)) (by omega) (by omega) (by rw [sz]; omega) (by rw [sz]; omega)
   ·have g:(!lt d[j]! d[j-1]!)=true:=by simpa using h2
    rw [if_neg h2,if_pos g]
  ·rw [if_neg (by omega),if_neg h1]
theorem shiftDown_size {lt:Ga→Ga→Bool}:∀ (j:Nat) (d:Array Ga),(Go.Sort.shiftDown lt j d).size=d.size
 | 0,d=>rfl
 | j+1,d=>by
  rw [Go.Sort.shiftDown]
  split
  ·rfl
  ·rw [shiftDown_size j,sz]
theorem shiftUp_size {lt:Ga→Ga→Bool} (b:Nat):∀ (k j:Nat) (d:Array Ga),b-j<k→(Go.Sort.shiftUp lt b j d).size=d.size
 | 0,j,d,h=>by omega
 | k+1,j,d,h=>by
  rw [Go.Sort.shiftUp]
  split
  ·split
   ·rfl
   ·rw [shiftUp_size b k _ _ (by omega),sz]
  ·rfl
theorem fixDown_size {lt:Ga→Ga→Bool} (a i:Nat) (d:Array Ga):(Go.Sort.fixDown lt a i d).size=d.size:=by
 unfold Go.Sort.fixDown
 split
 ·rw [shiftDown_size]
 ·rfl
theorem fixUp_size {lt:Ga→Ga→Bool} (b i:Nat) (d:Array Ga):(Go.Sort.fixUp lt b i d).size=d.size:=by
 unfold Go.Sort.fixUp
 split
 ·rw [shiftUp_size b _ _ _ (Nat.lt_succ_self _)]
 ·rfl
theorem shiftDown_aq {lt:Ga→Ga→Bool} {Q:Ga→Prop}:∀ (j:Nat) (d:Array Ga),AQ Q d→j<d.size→AQ Q (Go.Sort.shiftDown lt j d)
 | 0,d,hq,_=>hq
 | j+1,d,hq,hj=>by
  rw [Go.Sort.shiftDown]
  split
  ·exact hq
  ·exact shiftDown_aq j _ (aq_swp hq hj (by omega)) (by rw [sz]; omega)
theorem shiftUp_aq {lt:Ga→Ga→Bool} {Q:Ga→Prop} (b:Nat):∀ (k j:Nat) (d:Array Ga),AQ Q d→b-j<k→b≤d.size→1≤j→AQ Q (Go.Sort.shiftUp lt b j d)
 | 0,j,d,_,h,_,_=>by omega
 | k+1,j,d,hq,h,hb,h1=>by
  rw [Go.Sort.shiftUp]
  split
  ·split
   ·exact hq
   ·exact shiftUp_aq b k _ _ (aq_swp hq (by omega) (by omega)) (by omega) (by rw [sz]; exact hb) (by omega)
  ·exact hq
theorem fixDown_aq {lt:Ga→Ga→Bool} {Q:Ga→Prop} (a i:Nat) (d:Array Ga) (hq:AQ Q d) (h:i≤d.size) (h1:1≤i):AQ Q (Go.Sort.fixDown lt a i d):=by
 unfold Go.Sort.fixDown
 split
 ·exact shiftDown_aq _ d hq (by omega)
 ·exact hq
theorem fixUp_aq {lt:Ga→Ga→Bool} {Q:Ga→Prop} (b i:Nat) (d:Array Ga) (hq:AQ Q d) (hb:b≤d.size):AQ Q (Go.Sort.fixUp lt b i d):=by
 unfold Go.Sort.fixUp
 split
 ·exact shiftUp_aq b _ _ d hq (Nat.lt_succ_self _) hb (by omega)
 ·exact hq
theorem iL5 (n:Nat) {Q:Ga→Prop} {cmp:Ga→Ga→Option Int} {lt:Ga→Ga→Bool} (hc:∀ x y,Q x→Q y→∃ c:Int,cmp x y=some c∧lt x y=decide (c<0)) (a b:Nat) (hab:a<b):∀ (s k i j:Nat) (d:Array Ga),AQ Q d→s<k→s+j=5→a<i→i≤b→b≤d.size→d.size<n→d.size<1000000 →
  ∃ o,Gc n (a:Int) (b:Int) cmp k (i:Int) (j:Int) d.toList=some o∧(match o with | .x0 r w=>r=(Go.Sort.partialIns lt a b s i d).2∧w=(Go.Sort.partialIns lt a b s i d).1.toList | .x1 w=>(Go.Sort.partialIns lt a b s i d).2=false∧w=(Go.Sort.partialIns lt a b s i d).1.toList)
 | s,0,i,j,d,_,h,_,_,_,_,_,_=>by omega
 | 0,k+1,i,j,d,hq,h,hs,hi,hib,hb,hn,hd=>by
  rw [Gc,if_neg (by omega)]
  exact ⟨_,rfl,rfl,rfl⟩
 | s+1,k+1,i,j,d,hq,h,hs,hi,hib,hb,hn,hd=>by
  obtain ⟨q1,q2,q3⟩:=iL1 n hc (a:Int) (j:Int) b n i d hq (by omega) (by omega) hb hd hib
  rw [Gc,if_pos (by omega),q1,Option.bind_some]
  simp only []
  rw [Go.Sort.partialIns_succ]
  generalize Go.Sort.scanSorted lt d b i=I at *
  by_cases h1:I=b
  ·rw [if_pos (by omega),if_pos h1]
   exact ⟨_,rfl,rfl,rfl⟩
  ·rw [if_neg (by omega),if_neg h1,wiS (by omega) (by omega)]
   by_cases h2:b-a<50
   ·rw [if_pos (by omega),if_pos h2]
    exact ⟨_,rfl,rfl,rfl⟩
   ·have e:=pred (b:=I) (by omega) (by omega)
    rw [if_neg (by omega),if_neg h2,sw d rfl e (by omega) (by omega),sw_set d rfl e,wiS (by omega) (by omega),wiS (by omega) (by omega),e,wi_succ (i:=I) (by omega),wi_succ (i:=j) (by omega)]
    have z1:=sz d I (I-1)
    have hq:=aq_swp (i:=I) (j:=I-1) hq (by omega) (by omega)
    generalize swp d I (I-1)=e1 at *
    have z2:=fixDown_size (lt:=lt) a I e1
    have aq2:=fixDown_aq (lt:=lt) a I e1 hq (by omega) (by omega)
    have aq3:=fixUp_aq (lt:=lt) b I (Go.Sort.fixDown lt a I e1) aq2 (by omega)
    have z3:=fixUp_size (lt:=lt) b I (Go.Sort.fixDown lt a I e1)
    by_cases h3:I-a≥2
    ·rw [if_pos (by omega),iL2 n hc _ _ _ _ n (I-1) e1 hq (by omega) (by omega) (by omega),Option.bind_some]
     have fd:Go.Sort.fixDown lt a I e1=Go.Sort.shiftDown lt (I-1) e1:=if_pos h3
     rw [fd] at z2 z3 aq2 aq3 ⊢
     simp only []
     by_cases h4:b-I≥2
     ·have fu:Go.Sort.fixUp lt b I (Go.Sort.shiftDown lt (I-1) e1)=Go.Sort.shiftUp lt b (I+1) (Go.Sort.shiftDown lt (I-1) e1):=if_pos h4
      rw [if_pos (by omega),iL3 n hc _ _ _ b n (I+1) _ aq2 (by omega) (by omega) (by omega) (by omega),Option.bind_some]
      rw [fu] at z3 aq3 ⊢
      simp only []
      exact iL5 n hc a b hab s k I (j+1) _ aq3 (by omega) (by omega) (by omega) (by omega) (by omega) (by omega) (by omega)
     ·have fu:Go.Sort.fixUp lt b I (Go.Sort.shiftDown lt (I-1) e1)=Go.Sort.shiftDown lt (I-1) e1:=if_neg h4
      rw [fu] at aq3
      rw [if_neg (by omega),fu]
      exact iL5 n hc a b hab s k I (j+1) _ aq3 (by omega) (by omega) (by omega) (by omega) (by omega) (by omega) (by omega)
    ·have fd:Go.Sort.fixDown lt a I e1=e1:=if_neg h3
     rw [fd] at z2 z3 aq2 aq3 ⊢
     rw [if_neg (by omega)]
     by_cases h4:b-I≥2
     ·have fu:Go.Sort.fixUp lt b I e1=Go.Sort.shiftUp lt b (I+1) e1:=if_pos h4
      rw [if_pos (by omega),iL4 n hc _ _ _ b n (I+1) _ aq2 (by omega) (by omega) (by omega) (by omega),Option.bind_some]
      rw [fu] at z3 aq3 ⊢
      simp only []
      exact iL5 n hc a b hab s k I (j+1) _ aq3 (by omega) (by omega) (by omega) (by omega) (by omega) (by omega) (by omega)
     ·have fu:Go.Sort.fixUp lt b I e1=e1:=if_neg h4
      rw [fu] at aq3
      rw [if_neg (by omega),fu]
      exact iL5 n hc a b hab s k I (j+1) _ aq3 (by omega) (by omega) (by omega) (by omega) (by omega) (by omega) (by omega)
theorem partialInsertionSort (n:Nat) {Q:Ga→Prop} {cmp:Ga→Ga→Option Int} {lt:Ga→Ga→Bool} (hc:∀ x y,Q x→Q y→∃ c:Int,cmp x y=some c∧lt x y=decide (c<0)) (a b:Nat) (d:Array Ga) (hq:AQ Q d) (hab:a<b) (hn:d.size+6<n) (hb:b≤d.size) (hd:d.size<1000000) :
  GG n d.toList (a:Int) (b:Int) cmp=some ((Go.Sort.partialInsertionSort lt d a b).2,(Go.Sort.partialInsertionSort lt d a b).1.toList):=by
 unfold GG Go.Sort.partialInsertionSort
 obtain ⟨o,h1,h2⟩:=iL5 n hc a b hab 5 n (a+1) 0 d hq (by omega) (by omega) (by omega) (by omega) hb (by omega) hd
 rw [wi_succ (by omega),show (0:Int)=((0:Nat):Int) from rfl,h1,Option.bind_some]
 cases o with
 | x0 r w=>simp only at h2; rw [← h2.1,← h2.2]
 | x1 w=>simp only at h2; rw [h2.1,← h2.2]
/-! the pivot -/
theorem order2 (n:Nat) {Q:Ga→Prop} {cmp:Ga→Ga→Option Int} {lt:Ga→Ga→Bool} (hc:∀ x y,Q x→Q y→∃ c:Int,cmp x y=some c∧lt x y=decide (c<0)) (a b s:Nat) (d:Array Ga) (hq:AQ Q d) (ha:a<d.size) (hb:b<d.size) (hs:s<1000) :
  GK n d.toList (a:Int) (b:Int) (s:Int) cmp=some ((((Go.Sort.order2 lt d a b s).1:Nat):Int),(((Go.Sort.order2 lt d a b s).2.1:Nat):Int),(((Go.Sort.order2 lt d a b s).2.2:Nat):Int)):=by
 unfold GK Go.Sort.order2
 rw [ldI d rfl hb,Option.bind_some,ldI d rfl ha,Option.bind_some,cmp_step hc (hq b hb) (hq a ha)]
 by_cases h:lt d[b]! d[a]! = true
 ·rw [if_pos h,if_pos h,wi_succ (by omega)]
 ·rw [if_neg h,if_neg h]
theorem o2 {lt:Ga→Ga→Bool} (d:Array Ga) (a b s:Nat) (ha:a<d.size) (hb:b<d.size):(Go.Sort.order2 lt d a b s).1<d.size∧(Go.Sort.order2 lt d a b s).2.1<d.size∧(Go.Sort.order2 lt d a b s).2.2≤s+1:=by
 have h1:=Go.Sort.order2_mem lt d a b s
 have h2:=Go.Sort.order2_count lt d a b s
 omega
theorem median (n:Nat) {Q:Ga→Prop} {cmp:Ga→Ga→Option Int} {lt:Ga→Ga→Bool} (hc:∀ x y,Q x→Q y→∃ c:Int,cmp x y=some c∧lt x y=decide (c<0)) (a b c s:Nat) (d:Array Ga) (hq:AQ Q d) (ha:a<d.size) (hb:b<d.size) (hc':c<d.size) (hs:s<100) :
  GL n d.toList (a:Int) (b:Int) (c:Int) (s:Int) cmp=some ((((Go.Sort.median lt d a b c s).1:Nat):Int),(((Go.Sort.median lt d a b c s).2:Nat):Int)):=by
 unfold GL Go.Sort.median
 simp only []
 have b1:=o2 (lt:=lt) d a b s ha hb
 rw [order2 n hc a b s d hq ha hb (by omega),Option.bind_some]
 simp only []
 generalize Go.Sort.order2 lt d a b s=r1 at *
 have b2:=o2 (lt:=lt) d r1.2.1 c r1.2.2 (by omega) hc'
 rw [order2 n hc r1.2.1 c r1.2.2 d hq (by omega) hc' (by omega),Option.bind_some]
 simp only []
 generalize Go.Sort.order2 lt d r1.2.1 c r1.2.2=r2 at *
 rw [order2 n hc r1.1 r2.1 r2.2.2 d hq (by omega) (by omega) (by omega),Option.bind_some]
theorem medianAdjacent (n:Nat) {Q:Ga→Prop} {cmp:Ga→Ga→Option Int} {lt:Ga→Ga→Bool} (hc:∀ x y,Q x→Q y→∃ c:Int,cmp x y=some c∧lt x y=decide (c<0)) (a s:Nat) (d:Array Ga) (hq:AQ Q d) (h1:1≤a) (ha:a+1<d.size) (hs:s<100) (hd:d.size<1000000) :
  Gr n d.toList (a:Int) (s:Int) cmp=some ((((Go.Sort.medianAdjacent lt d a s).1:Nat):Int),(((Go.Sort.medianAdjacent lt d a s).2:Nat):Int)):=by
 unfold Gr Go.Sort.medianAdjacent
 rw [pred h1 (by omega),wi_succ (by omega),median n hc _ _ _ s d hq (by omega) (by omega) (by omega) hs,Option.bind_some]
theorem choosePivot (n:Nat) {Q:Ga→Prop} {cmp:Ga→Ga→Option Int} {lt:Ga→Ga→Bool} (hc:∀ x y,Q x→Q y→∃ c:Int,cmp x y=some c∧lt x y=decide (c<0)) (a b:Nat) (d:Array Ga) (hq:AQ Q d) (hab:8≤b-a) (hb:b≤d.size) (hd:d.size<1000000) :
  Sk n d.toList (a:Int) (b:Int) cmp=some ((((Go.Sort.choosePivot lt d a b).1:Nat):Int),Go.Sort.hintCode (Go.Sort.choosePivot lt d a b).2):=by
 have key:GY n d.toList cmp (b:Int) (a:Int)=some (.x0 (((Go.Sort.rawPivot lt d a b).1:Nat):Int) (((Go.Sort.rawPivot lt d a b).2:Nat):Int)):=by
  have q:quoI .i64 ((b-a:Nat):Int) 4=(((b-a) / 4:Nat):Int):=by rw [quo_i64 (by omega) (by omega) (by omega)]; omega
  have m1:wi .i64 ((((b-a) / 4:Nat):Int)*1)=(((b-a) / 4*1:Nat):Int):=by rw [wi64 (by omega) (by omega)]; omega
  have m2:wi .i64 ((((b-a) / 4:Nat):Int)*2)=(((b-a) / 4*2:Nat):Int):=by rw [wi64 (by omega) (by omega)]; omega
  have m3:wi .i64 ((((b-a) / 4:Nat):Int)*3)=(((b-a) / 4*3:Nat):Int):=by rw [wi64 (by omega) (by omega)]; omega
  unfold GY Go.Sort.rawPivot
  rw [wiS (by omega) (by omega),if_pos (by omega),if_pos hab,q,m1,m2,m3,wiA (a:=a) (by omega) (by omega),wiA (a:=a) (b:=(b-a) / 4*2) (by omega) (by omega),wiA (a:=a) (b:=(b-a) / 4*3) (by omega) (by omega)]
  by_cases h50:b-a≥50
  ·rw [if_pos (by omega),if_pos h50]
   have e0:(0:Int)=((0:Nat):Int):=rfl
   have c1:=Go.Sort.medianAdjacent_count lt d (a+(b-a) / 4*1) 0
   have g1:=Go.Sort.medianAdjacent_mem lt d (a+(b-a) / 4*1) 0
   rw [e0,medianAdjacent n hc _ 0 d hq (by omega) (by omega) (by omega) hd,Option.bind_some]
   simp only []
   generalize Go.Sort.medianAdjacent lt d (a+(b-a) / 4*1) 0=r1 at *
   have c2:=Go.Sort.medianAdjacent_count lt d (a+(b-a) / 4*2) r1.2
   have g2:=Go.Sort.medianAdjacent_mem lt d (a+(b-a) / 4*2) r1.2
   rw [medianAdjacent n hc _ r1.2 d hq (by omega) (by omega) (by omega) hd,Option.bind_some]
   simp only []
   generalize Go.Sort.medianAdjacent lt d (a+(b-a) / 4*2) r1.2=r2 at *
   have c3:=Go.Sort.medianAdjacent_count lt d (a+(b-a) / 4*3) r2.2
   have g3:=Go.Sort.medianAdjacent_mem lt d (a+(b-a) / 4*3) r2.2
   rw [medianAdjacent n hc _ r2.2 d hq (by omega) (by omega) (by omega) hd,Option.bind_some]
   simp only []
   generalize Go.Sort.medianAdjacent lt d (a+(b-a) / 4*3) r2.2=r3 at *
   rw [median n hc r1.1 r2.1 r3.1 r3.2 d hq (by omega) (by omega) (by omega) (by omega),Option.bind_some]
  ·rw [if_neg (by omega),if_neg h50]
   have e0:(0:Int)=((0:Nat):Int):=rfl
   rw [e0,median n hc _ _ _ 0 d hq (by omega) (by omega) (by omega) (by omega),Option.bind_some]
 unfold Sk
 rw [key,Option.bind_some,Go.Sort.choosePivot_eq]
 simp only []
 generalize Go.Sort.rawPivot lt d a b=r
 unfold Go.Sort.hintOf
 by_cases h0:r.2=0
 ·rw [if_pos (by omega),if_pos h0]; rfl
 ·rw [if_neg (by omega),if_neg h0]
  by_cases h12:r.2=12
  ·rw [if_pos (by omega),if_pos h12]; rfl
  ·rw [if_neg (by omega),if_neg h12]; rfl
/-! the patterns -/
theorem bl_add (m k:Nat) (h:2 ^ k≤m):Go.Sort.bitsLen m=Go.Sort.bitsLen (m / 2 ^ k)+k:=by
 have hp:0<2 ^ k:=Nat.pos_of_ne_zero (by simp)
 apply Nat.le_antisymm
 ·rw [Go.Sort.bitsLen_le_iff,Nat.pow_add]
  exact (Nat.div_lt_iff_lt_mul hp).1 (Go.Sort.lt_two_pow_bitsLen (m / 2 ^ k))
 ·have h1:=Go.Sort.lt_two_pow_bitsLen m
  have h2:k≤Go.Sort.bitsLen m:=by
   refine Nat.le_of_lt ?_
   have:¬ Go.Sort.bitsLen m≤k:=fun q=>by rw [Go.Sort.bitsLen_le_iff] at q; omega
   omega
  have h3:Go.Sort.bitsLen (m / 2 ^ k)≤Go.Sort.bitsLen m-k:=by
   rw [Go.Sort.bitsLen_le_iff,Nat.div_lt_iff_lt_mul hp,← Nat.pow_add,Nat.sub_add_cancel h2]
   exact h1
  omega
def tab:ByteArray:=ByteArray.mk #[0,1,2,2,3,3,3,3,4,4,4,4,4,4,4,4,5,5,5,5,5,5,5,5,5,5,5,5,5,5,5,5,6,6,6,6,6,6,6,6,6,6,6,6,6,6,6,6,6,6,6,6,6,6,6,6,6,6,6,6,6,6,6,6,7,7,7,7,7,7,7,7,7,7,7,7,7,7,7,7,7,7,7,7,7,7,7,7,7,7,7,7,7,7,7,7,7,7,7,7,7,7,7,7,7,7,7,7,7,7,7,7,7,7,7,7,7,7,7,7,7,7,7,7,7,7,7,7,8,8,8,8,8,8,8,8,8,8,8,8,8,8,8,8,8,8,8,8,8,8,8,8,8,8,8,8,8,8,8,8,8,8,8,8,8,8,8,8,8,8,8,8,8,8,8,8,8,8,8,8,8,8,8,8,8,8,8,8,8,8,8,8,8,8,8,8,8,8,8,8,8,8,8,8,8,8,8,8,8,8,8,8,8,8,8,8,8,8,8,8,8,8,8,8,8,8,8,8,8,8,8,8,8,8,8,8,8,8,8,8,8,8,8,8,8,8,8,8,8,8,8,8,8,8,8,8]
theorem tab_get (i:Nat) (h:i<256):getS tab (i:Int)=some ((Go.Sort.bitsLen i:Nat):Int):=by
 have:∀ i:Fin 256,getS tab ((i.1:Nat):Int)=some ((Go.Sort.bitsLen i.1:Nat):Int):=by decide +kernel
 exact this ⟨i,h⟩
theorem bl20 (m:Nat) (h:m<2000000):Go.Sort.bitsLen m≤21:=by rw [Go.Sort.bitsLen_le_iff]; omega
theorem shr_u64 {a:Int} (k:Nat) (hk:k≤64):shrI .u64 a (k:Int)=a / 2 ^ k:=by
 simp only [shrI,IntKind.bits,Int.toNat_natCast,Nat.min_eq_left hk]
 exact Int.fdiv_eq_ediv_of_nonneg _ (Int.le_of_lt (Int.pow_pos (by decide)))
theorem shl_u64 {a:Int} (k:Nat) (hk:k≤64):shlI .u64 a (k:Int)=(a*2 ^ k) % 18446744073709551616:=by
 simp [shlI,IntKind.bits,Nat.min_eq_left hk,IntKind.wrap_u64]
theorem wu64 {x:Int} (h1:0≤x) (h2:x<18446744073709551616):wi .u64 x=x:=by rw [wi,IntKind.wrap_u64]; omega
theorem bitsLen64 (n m:Nat) (h:m<1000000):Zc n (wi .u64 (m:Int))=some ((Go.Sort.bitsLen m:Nat):Int):=by
 have e:wi .u64 (m:Int)=(m:Int):=wu64 (by omega) (by omega)
 have s16:shrI .u64 (m:Int) 16=((m / 65536:Nat):Int):=by
  have:=shr_u64 (a:=(m:Int)) 16 (by omega)
  rw [show ((16:Nat):Int)=16 from rfl] at this
  rw [this]; omega
 have s8:shrI .u64 (m:Int) 8=((m / 256:Nat):Int):=by
  have:=shr_u64 (a:=(m:Int)) 8 (by omega)
  rw [show ((8:Nat):Int)=8 from rfl] at this
  rw [this]; omega
 have tg:∀ i:Nat,i<256→getS (ByteArray.mk #[0,1,2,2,3,3,3,3,4,4,4,4,4,4,4,4,5,5,5,5,5,5,5,5,5,5,5,5,5,5,5,5,6,6,6,6,6,6,6,6,6,6,6,6,6,6,6,6,6,6,6,6,6,6,6,6,6,6,6,6,6,6,6,6,7,7,7,7,7,7,7,7,7,7,7,7,7,7,7,7,7,7,7,7,7,7,7,7,7,7,7,7,7,7,7,7,7,7,7,7,7,7,7,7,7,7,7,7,7,7,7,7,7,7,7,7,7,7,7,7,7,7,7,7,7,7,7,7,8,8,8,8,8,8,8,8,8,8,8,8,8,8,8,8,8,8,8,8,8,8,8,8,8,8,8,8,8,8,8,8,8,8,8,8,8,8,8,8,8,8,8,8,8,8,8,8,8,8,8,8,8,8,8,8,8,8,8,8,8,8,8,8,8,8,8,8,8,8,8,8,8,8,8,8,8,8,8,8,8,8,8,8,8,8,8,8,8,8,8,8,8,8,8,8,8,8,8,8,8,8,8,8,8,8,8,8,8,8,8,8,8,8,8,8,8,8,8,8,8,8,8,8,8,8,8,8]) (i:Int)=some ((Go.Sort.bitsLen i:Nat):Int):=tab_get
 have w8:∀ i:Nat,i<256→wi .u8 (i:Int)=(i:Int):=fun i hi=>wu8 (by omega) (by omega)
 have l8:∀ i:Nat,i<256→Go.Sort.bitsLen i≤8:=fun i hi=>(Go.Sort.bitsLen_le_iff i 8).2 (by omega)
 unfold Zc Yj
 rw [e,if_neg (by omega)]
 by_cases h1:m≥65536
 ·rw [if_pos (by omega),s16,if_neg (by omega),w8 _ (by omega),tg _ (by omega),Option.bind_some,bl_add m 16 (by omega)]
  have:=l8 (m / 65536) (by omega)
  have e16:m / 2 ^ 16=m / 65536:=rfl
  rw [e16,wi64 (x:=((Go.Sort.bitsLen (m / 65536):Nat):Int)) (by omega) (by omega),wi64 (x:=(0:Int)+16) (by omega) (by omega),wi64 (by omega) (by omega),Option.bind_some]
  congr 1; omega
 ·rw [if_neg (by omega)]
  by_cases h2:m≥256
  ·rw [if_pos (by omega),s8,w8 _ (by omega),tg _ (by omega),Option.bind_some,bl_add m 8 (by omega)]
   have:=l8 (m / 256) (by omega)
   have e8:m / 2 ^ 8=m / 256:=rfl
   rw [e8,wi64 (x:=((Go.Sort.bitsLen (m / 256):Nat):Int)) (by omega) (by omega),wi64 (x:=(0:Int)+8) (by omega) (by omega),wi64 (by omega) (by omega),Option.bind_some]
   congr 1; omega
  ·rw [if_neg (by omega),w8 _ (by omega),tg _ (by omega),Option.bind_some]
   have:=l8 m (by omega)
   rw [wi64 (x:=((Go.Sort.bitsLen m:Nat):Int)) (by omega) (by omega),wi64 (by omega) (by omega),Option.bind_some]
   congr 1; omega
theorem ofI64 (a:Nat) (ha:a<18446744073709551616):(BitVec.ofInt 64 (a:Int)).toNat=a:=by
 rw [BitVec.ofInt_natCast,BitVec.toNat_ofNat]; exact Nat.mod_eq_of_lt (by omega)
theorem u64_xor_nat (a b:Nat) (ha:a<18446744073709551616) (hb:b<18446744073709551616):bits .xor .u64 (a:Int) (b:Int)=((a ^^^ b:Nat):Int):=by
 have hx:a ^^^ b<2 ^ 64:=Nat.xor_lt_two_pow (by omega) (by omega)
 show IntKind.u64.wrap ((BitVec.ofInt 64 (a:Int) ^^^ BitVec.ofInt 64 (b:Int)).toNat:Int)=_
 rw [BitVec.toNat_xor,ofI64 a ha,ofI64 b hb,IntKind.wrap_u64]
 omega
theorem u64_and_nat (a b:Nat) (ha:a<18446744073709551616) (hb:b<18446744073709551616):bits .and .u64 (a:Int) (b:Int)=((a &&& b:Nat):Int):=by
 have hx:a &&& b<2 ^ 64:=Nat.and_lt_two_pow _ (by omega)
 show IntKind.u64.wrap ((BitVec.ofInt 64 (a:Int) &&& BitVec.ofInt 64 (b:Int)).toNat:Int)=_
 rw [BitVec.toNat_and,ofI64 a ha,ofI64 b hb,IntKind.wrap_u64]
 omega
theorem xnext (n x:Nat) (hx:x<18446744073709551616):S9 n (x:Int)=some (((Go.Sort.xorNextN x:Nat):Int),((Go.Sort.xorNextN x:Nat):Int)):=by
 have p:(18446744073709551616:Nat)=2 ^ 64:=by decide
 have s13:∀ y:Nat,shlI .u64 (y:Int) 13=((y*8192 % 18446744073709551616:Nat):Int):=fun y=>by
  have:=shl_u64 (a:=(y:Int)) 13 (by omega)
  rw [show ((13:Nat):Int)=13 from rfl] at this
  rw [this]; omega
 have s17:∀ y:Nat,shlI .u64 (y:Int) 17=((y*131072 % 18446744073709551616:Nat):Int):=fun y=>by
  have:=shl_u64 (a:=(y:Int)) 17 (by omega)
  rw [show ((17:Nat):Int)=17 from rfl] at this
  rw [this]; omega
 have s7:∀ y:Nat,shrI .u64 (y:Int) 7=((y / 128:Nat):Int):=fun y=>by
  have:=shr_u64 (a:=(y:Int)) 7 (by omega)
  rw [show ((7:Nat):Int)=7 from rfl] at this
  rw [this]; omega
 have ha:x ^^^ (x*8192 % 18446744073709551616)<2 ^ 64:=Nat.xor_lt_two_pow (by omega) (by omega)
 have hb:(x ^^^ (x*8192 % 18446744073709551616)) ^^^ ((x ^^^ (x*8192 % 18446744073709551616)) / 128)<2 ^ 64:=Nat.xor_lt_two_pow ha (by omega)
 unfold S9 Go.Sort.xorNextN
 simp only []
 rw [s13,u64_xor_nat _ _ hx (by omega),s7,u64_xor_nat _ _ (by omega) (by omega),s17,u64_xor_nat _ _ (by omega) (by omega)]
theorem bround (n:Nat) (a b idx:Nat) (st:UInt64×Array Ga) (k:Nat) (h8:8≤b-a) (h1:idx≤a+(b-a) / 4*2+1) (hb:b≤st.2.size) (hd:st.2.size<1000000) :
  Gd n (a:Int) (b:Int) ((2 ^ Go.Sort.bitsLen (b-a):Nat):Int) (k+1) (idx:Int) st.2.toList ((st.1.toNat:Nat):Int)=Gd n (a:Int) (b:Int) ((2 ^ Go.Sort.bitsLen (b-a):Nat):Int) k ((idx+1:Nat):Int) (Go.Sort.breakStep a (b-a) (2 ^ Go.Sort.bitsLen (b-a)) st idx).2.toList (((Go.Sort.breakStep a (b-a) (2 ^ Go.Sort.bitsLen (b-a)) st idx).1.toNat:Nat):Int):=by
 have q:quoI .i64 ((b-a:Nat):Int) 4=(((b-a) / 4:Nat):Int):=by rw [quo_i64 (by omega) (by omega) (by omega)]; omega
 have m2:wi .i64 ((((b-a) / 4:Nat):Int)*2)=(((b-a) / 4*2:Nat):Int):=by rw [wi64 (by omega) (by omega)]; omega
 have hm:=Go.Sort.two_pow_bitsLen_le (n:=b-a) (by omega)
 have hm2:=Go.Sort.lt_two_pow_bitsLen (b-a)
 have hst:=UInt64.toNat_lt st.1
 have hl:=Go.Sort.xorNextN_lt st.1.toNat (by omega)
 rw [Gd]
 conv=>lhs; rw [wiS (by omega) (by omega),q,m2,wiA (a:=a) (by omega) (by omega),wi_succ (i:=a+(b-a) / 4*2) (by omega),if_pos (by omega),xnext n _ (by omega),Option.bind_some]
 have e1:(Go.Sort.breakStep a (b-a) (2 ^ Go.Sort.bitsLen (b-a)) st idx).1.toNat=Go.Sort.xorNextN st.1.toNat:=Go.Sort.xorNext_toNat st.1
 have e2:(Go.Sort.breakStep a (b-a) (2 ^ Go.Sort.bitsLen (b-a)) st idx).2=swp st.2 idx (a+(if Go.Sort.xorNextN st.1.toNat &&& (2 ^ Go.Sort.bitsLen (b-a)-1)≥b-a then (Go.Sort.xorNextN st.1.toNat &&& (2 ^ Go.Sort.bitsLen (b-a)-1))-(b-a) else Go.Sort.xorNextN st.1.toNat &&& (2 ^ Go.Sort.bitsLen (b-a)-1))):=by
  rw [← Go.Sort.xorNext_toNat]; rfl
 rw [e1,e2]
 have hand:Go.Sort.xorNextN st.1.toNat &&& (2 ^ Go.Sort.bitsLen (b-a)-1)≤2 ^ Go.Sort.bitsLen (b-a)-1:=Nat.and_le_right
 generalize Go.Sort.xorNextN st.1.toNat=R at *
 generalize 2 ^ Go.Sort.bitsLen (b-a)=M at *
 have em:wi .u64 ((M:Int)-1)=((M-1:Nat):Int):=by rw [wu64 (by omega) (by omega)]; omega
 have eo:wi .i64 (bits .and .u64 (R:Int) ((M-1:Nat):Int))=((R &&& (M-1):Nat):Int):=by rw [u64_and_nat _ _ (by omega) (by omega),wi64 (by omega) (by omega)]
 simp only [em,eo]
 generalize R &&& (M-1)=O at *
 by_cases ho:O≥b-a
 ·rw [if_pos (by omega),if_pos ho,wiS (a:=O) (by omega) (by omega),wiA (a:=a) (by omega) (by omega),sw st.2 rfl rfl (by omega) (by omega),sw_set st.2 rfl rfl,wi_succ (i:=idx) (by omega)]
 ·rw [if_neg (by omega),if_neg ho,wiA (a:=a) (by omega) (by omega),sw st.2 rfl rfl (by omega) (by omega),sw_set st.2 rfl rfl,wi_succ (i:=idx) (by omega)]
theorem bs_size (a length modulus:Nat) (st:UInt64×Array Ga) (idx:Nat):(Go.Sort.breakStep a length modulus st idx).2.size=st.2.size:=by
 unfold Go.Sort.breakStep
 simp only []
 rw [sz]
theorem breakPatterns (n:Nat) (cmp:Ga→Ga→Option Int) (a b:Nat) (d:Array Ga) (h8:8≤b-a) (hn:10<n) (hb:b≤d.size) (hd:d.size<1000000) :
  GW n d.toList (a:Int) (b:Int) cmp=some (Go.Sort.breakPatterns d a b).toList:=by
 have q:quoI .i64 ((b-a:Nat):Int) 4=(((b-a) / 4:Nat):Int):=by rw [quo_i64 (by omega) (by omega) (by omega)]; omega
 have m2:wi .i64 ((((b-a) / 4:Nat):Int)*2)=(((b-a) / 4*2:Nat):Int):=by rw [wi64 (by omega) (by omega)]; omega
 have hm:=Go.Sort.two_pow_bitsLen_le (n:=b-a) (by omega)
 have hp:Kj n ((b-a:Nat):Int)=some ((2 ^ Go.Sort.bitsLen (b-a):Nat):Int):=by
  unfold Kj
  have hb:=bl20 (b-a) (by omega)
  rw [bitsLen64 n (b-a) (by omega),Option.bind_some,if_pos (by omega),shl_u64 _ (by omega)]
  have hc:(1:Int)*2 ^ Go.Sort.bitsLen (b-a)=((2 ^ Go.Sort.bitsLen (b-a):Nat):Int):=by simp
  rw [hc]
  generalize 2 ^ Go.Sort.bitsLen (b-a)=M at hm ⊢
  congr 1
  omega
 unfold GW Go.Sort.breakPatterns
 simp only []
 rw [wiS (by omega) (by omega),if_pos (by omega),if_pos h8,hp,Option.bind_some,q,m2,wiA (a:=a) (by omega) (by omega),pred (b:=a+(b-a) / 4*2) (by omega) (by omega),wu64 (by omega) (by omega)]
 have e0:((b-a:Nat):Int)=(((UInt64.ofNat (b-a),d).1.toNat:Nat):Int):=by
  rw [UInt64.toNat_ofNat_of_lt' (by show b-a<2 ^ 64; omega)]
 obtain ⟨k,rfl⟩:∃ k,n=k+4:=⟨n-4,by omega⟩
 rw [e0,show d.toList=(UInt64.ofNat (b-a),d).2.toList from rfl]
 rw [Nat.shiftLeft_eq,Nat.one_mul]
 rw [bround _ a b _ _ (k+3) h8 (by omega) hb hd]
 rw [bround _ a b _ _ (k+2) h8 (by omega) (by rw [bs_size]; exact hb) (by rw [bs_size]; exact hd)]
 rw [bround _ a b _ _ (k+1) h8 (by omega) (by rw [bs_size,bs_size]; exact hb) (by rw [bs_size,bs_size]; exact hd)]
 rw [Gd,wiS (by omega) (by omega),q,m2,wiA (a:=a) (by omega) (by omega),wi_succ (i:=a+(b-a) / 4*2) (by omega),if_neg (by omega)]
 rfl
/-! the recursion -/
theorem rounded (n:Nat) {Q:Ga→Prop} {cmp:Ga→Ga→Option Int} {lt:Ga→Ga→Bool} (hc:∀ x y,Q x→Q y→∃ c:Int,cmp x y=some c∧lt x y=decide (c<0)) (hS:Go.Sort.SWO lt) (rec:List Ga→Int→Int→Int→Option (List Ga)) (S m:Nat)
  (hrec:∀ (d:Array Ga) (a b limit:Nat),AQ Q d→d.size=S→a≤b→b≤d.size→b-a<m→limit<1000→Go.Sort.Below lt a b d→rec d.toList (a:Int) (b:Int) (limit:Int)=some (Go.Sort.pdq lt d a b limit true true).toList)
  (a b limit:Nat) (wb wp:Bool) (d:Array Ga) (hq:AQ Q d) (hab:a≤b) (hb:b≤d.size) (hs:d.size=S) (hm:b-a≤m) (hn:S+12<n) (hd:S<1000000) (hlim:limit<1000) (hB:Go.Sort.Below lt a b d) :
  ∃ o,Si n (a:Int) (b:Int) (limit:Int) cmp wb wp d.toList rec=some o∧(match o with
   | .x0 r=>r=(Go.Sort.pdq lt d a b limit wb wp).toList
   | .x1 a' b' l' wb' wp' w'=>∃ (A B L:Nat) (D:Array Ga),a'=(A:Int)∧b'=(B:Int)∧l'=(L:Int)∧w'=D.toList∧AQ Q D∧Go.Sort.pdq lt D A B L wb' wp'=Go.Sort.pdq lt d a b limit wb wp∧A≤B∧B≤D.size∧D.size=S∧Go.Sort.Below lt A B D∧B-A<b-a∧L<1000):=by
 unfold Si
 rw [wiS (by omega) hab]
 by_cases h12:b-a≤12
 ·rw [if_pos (by omega),insertionSort n hc a b d hq hab (by omega) hb (by omega),Option.bind_some]
  exact ⟨_,rfl,by simp only [Go.Sort.pdq_small h12]⟩
 ·rw [if_neg (by omega)]
  by_cases hl0:limit=0
  ·subst hl0
   rw [if_pos (show ((0:Nat):Int)=0 from rfl),heapSort n hc a b d hq hab (by omega) hb (by omega),Option.bind_some]
   exact ⟨_,rfl,by simp only [Go.Sort.pdq_heap h12 rfl]⟩
  ·rw [if_neg (by omega)]
   obtain ⟨s1,B1,hc1,s2,B2,hpv,s3,B3⟩:=Go.Sort.rd_facts (limit:=limit) (wb:=wb) (wp:=wp) hS Go.Sort.partialInsertionSort_holds Go.Sort.reverseRange_holds (show a<b by omega) hb hB
   have p1:Go.Sort.PermIn a b d (Go.Sort.rd lt d a b limit wb wp).d1:=Go.Sort.step_break d hab hb ((!wb)=true)
   have aq1:=aq_perm hq hb p1
   have p2:Go.Sort.PermIn a b (Go.Sort.rd lt d a b limit wb wp).d1 (Go.Sort.rd lt d a b limit wb wp).d2:=Go.Sort.step_reverse Go.Sort.reverseRange_holds (Go.Sort.rd lt d a b limit wb wp).d1 hab (by omega) ((Go.Sort.rd lt d a b limit wb wp).c.2=.decreasing)
   have aq2:=aq_perm aq1 (by omega) p2
   have p3:Go.Sort.PermIn a b (Go.Sort.rd lt d a b limit wb wp).d2 (Go.Sort.rd lt d a b limit wb wp).pi.1:=(Go.Sort.step_partial Go.Sort.partialInsertionSort_holds hS (Go.Sort.rd lt d a b limit wb wp).d2 (by omega) (by omega) B2 ((wb&&wp&&decide ((Go.Sort.rd lt d a b limit wb wp).hint=.increasing))=true)).1
   have aq3:=aq_perm aq2 (by omega) p3
   have c1:Se n (a:Int) (b:Int) (limit:Int) cmp wb wp d.toList=some (.x0 (((Go.Sort.rd lt d a b limit wb wp).lim:Nat):Int) (Go.Sort.rd lt d a b limit wb wp).d1.toList):=by
    unfold Se
    cases wb with
    | true=>rfl
    | false =>
     rw [if_neg (show ¬ (false:Bool)=true by simp),breakPatterns n cmp a b d (by omega) (by omega) hb (by omega),Option.bind_some,pred (by omega) (by omega)]
     rfl
   have cl:(Go.Sort.rd lt d a b limit wb wp).lim<1000:=Nat.lt_of_le_of_lt Go.Sort.rd_lim_le hlim
   rw [c1,Option.bind_some]
   simp only []
   rw [choosePivot n hc a b _ aq1 (by omega) (by omega) (by omega),Option.bind_some]
   have c2:Sf n (a:Int) (b:Int) (((Go.Sort.rd lt d a b limit wb wp).lim:Nat):Int) cmp wb wp ((((Go.Sort.choosePivot lt (Go.Sort.rd lt d a b limit wb wp).d1 a b).1:Nat):Int),Go.Sort.hintCode (Go.Sort.choosePivot lt (Go.Sort.rd lt d a b limit wb wp).d1 a b).2) (Go.Sort.rd lt d a b limit wb wp).d1.toList=some (.x0 (((Go.Sort.rd lt d a b limit wb wp).pivot:Nat):Int) (Go.Sort.hintCode (Go.Sort.rd lt d a b limit wb wp).hint) (Go.Sort.rd lt d a b limit wb wp).d2.toList):=by
    unfold Sf
    by_cases hh:(Go.Sort.rd lt d a b limit wb wp).c.2=.decreasing
    ·obtain ⟨e2,epv,eht⟩:=Go.Sort.rd_dec hh
     have hcode:Go.Sort.hintCode (Go.Sort.choosePivot lt (Go.Sort.rd lt d a b limit wb wp).d1 a b).2=2:=by rw [← Go.Sort.rd_c,hh]; rfl
     rw [if_pos hcode,reverseRange n cmp a b _ (by omega) (by omega) (by omega) (by omega),Option.bind_some,pred (by omega) (by omega),e2,epv,eht,Go.Sort.rd_c]
     rw [Go.Sort.rd_c] at hc1
     simp only []
     rw [wiS (by omega) (by omega),wiS (by omega) (by omega)]
     rfl
    ·obtain ⟨e2,epv,eht⟩:=Go.Sort.rd_not hh
     have hcode:¬ Go.Sort.hintCode (Go.Sort.choosePivot lt (Go.Sort.rd lt d a b limit wb wp).d1 a b).2=2:=by
      rw [← Go.Sort.rd_c]
      intro q
      apply hh
      generalize (Go.Sort.rd lt d a b limit wb wp).c.2=x at q
      cases x <;> first | rfl | (exact absurd q (by decide))
     rw [if_neg hcode,e2,epv,eht,Go.Sort.rd_c]
   rw [c2,Option.bind_some]
   simp only []
   have hint1:(Go.Sort.hintCode (Go.Sort.rd lt d a b limit wb wp).hint=1)↔((Go.Sort.rd lt d a b limit wb wp).hint=.increasing):=by
    generalize (Go.Sort.rd lt d a b limit wb wp).hint=x
    cases x <;> simp [Go.Sort.hintCode]
   -- the tail,for whatever row it begins with
   have tail:(Go.Sort.rd lt d a b limit wb wp).pi.2=false→∀ B:Bool,B=(decide (a > 0)&&!lt (Go.Sort.rd lt d a b limit wb wp).pi.1[a-1]! (Go.Sort.rd lt d a b limit wb wp).pi.1[(Go.Sort.rd lt d a b limit wb wp).pivot]!) →
     ∃ o,(if B=true then (Gi n (Go.Sort.rd lt d a b limit wb wp).pi.1.toList (a:Int) (b:Int) (((Go.Sort.rd lt d a b limit wb wp).pivot:Nat):Int) cmp).bind fun (v_r:(Int×(List Ga)))=>some (GA.x1 v_r.1 (b:Int) (((Go.Sort.rd lt d a b limit wb wp).lim:Nat):Int) wb wp v_r.2)
      else (Gs n (Go.Sort.rd lt d a b limit wb wp).pi.1.toList (a:Int) (b:Int) (((Go.Sort.rd lt d a b limit wb wp).pivot:Nat):Int) cmp).bind fun (v_r:(Int×Bool×(List Ga))) =>
       if (wi .i64 (v_r.1-(a:Int)))<(wi .i64 ((b:Int)-v_r.1)) then
        (rec v_r.2.2 (a:Int) v_r.1 (((Go.Sort.rd lt d a b limit wb wp).lim:Nat):Int)).bind fun (v_q:((List Ga))) =>
        some (GA.x1 (wi .i64 (v_r.1+1)) (b:Int) (((Go.Sort.rd lt d a b limit wb wp).lim:Nat):Int) (decide ((wi .i64 (v_r.1-(a:Int)))≥(quoI .i64 ((b-a:Nat):Int) 8))) v_r.2.1 v_q)
       else
        (rec v_r.2.2 (wi .i64 (v_r.1+1)) (b:Int) (((Go.Sort.rd lt d a b limit wb wp).lim:Nat):Int)).bind fun (v_q:((List Ga))) =>
        some (GA.x1 (a:Int) v_r.1 (((Go.Sort.rd lt d a b limit wb wp).lim:Nat):Int) (decide ((wi .i64 ((b:Int)-v_r.1))≥(quoI .i64 ((b-a:Nat):Int) 8))) v_r.2.1 v_q))=some o∧(match o with
      | .x0 r=>r=(Go.Sort.pdq lt d a b limit wb wp).toList
      | .x1 a' b' l' wb' wp' w'=>∃ (A B L:Nat) (D:Array Ga),a'=(A:Int)∧b'=(B:Int)∧l'=(L:Int)∧w'=D.toList∧AQ Q D∧Go.Sort.pdq lt D A B L wb' wp'=Go.Sort.pdq lt d a b limit wb wp∧A≤B∧B≤D.size∧D.size=S∧Go.Sort.Below lt A B D∧B-A<b-a∧L<1000):=by
    intro hp2 B hBB
    have q8:quoI .i64 ((b-a:Nat):Int) 8=(((b-a) / 8:Nat):Int):=by rw [quo_i64 (by omega) (by omega) (by omega)]; omega
    cases h87:(decide (a > 0)&&!lt (Go.Sort.rd lt d a b limit wb wp).pi.1[a-1]! (Go.Sort.rd lt d a b limit wb wp).pi.1[(Go.Sort.rd lt d a b limit wb wp).pivot]!) with
    | true =>
     have h87':=h87
     simp only [Bool.and_eq_true,decide_eq_true_eq,Bool.not_eq_true'] at h87'
     rw [hBB,if_pos h87,partitionEqual n hc a b _ _ aq3 (by omega) (by omega) (by omega) (by omega) (by omega),Option.bind_some]
     obtain ⟨mid,d4,hx⟩:∃ mid d4,Go.Sort.partitionEqual lt (Go.Sort.rd lt d a b limit wb wp).pi.1 a b (Go.Sort.rd lt d a b limit wb wp).pivot=(mid,d4):=⟨_,_,rfl⟩
     obtain ⟨r1,r2,r3,r4,_⟩:=Go.Sort.round_eq hS (Go.Sort.partitionEqual_holds lt) h87'.1 hpv.1 hpv.2 (show b≤(Go.Sort.rd lt d a b limit wb wp).pi.1.size by omega) B3 h87'.2 hx
     have hge:∀ i,a≤i→i<b→lt (Go.Sort.rd lt d a b limit wb wp).pi.1[i]! (Go.Sort.rd lt d a b limit wb wp).pi.1[(Go.Sort.rd lt d a b limit wb wp).pivot]! = false:=fun i hi hi'=>by
      rcases B3 with h0 | hB'
      ·omega
      ·exact hS.ntrans _ _ _ (hB' i hi hi') h87'.2
     have hpp:=(Go.Sort.partitionEqual_holds lt hS _ a b _ hpv.1 hpv.2 (show b≤(Go.Sort.rd lt d a b limit wb wp).pi.1.size by omega) hge).2.2.1
     rw [hx] at hpp
     refine ⟨_,rfl,mid,b,_,d4,by rw [hx],rfl,rfl,by rw [hx],aq_perm aq3 (by omega) hpp,?_,r2,by omega,by omega,r4,by omega,cl⟩
     rw [Go.Sort.pdq_eq h12 hl0 hp2 h87 (by rw [hx]; exact ⟨r1,r2⟩),hx]
    | false =>
     rw [hBB,if_neg (by rw [h87]; simp),partition n hc a b _ _ aq3 (by omega) (by omega) (by omega) (by omega) (by omega),Option.bind_some]
     obtain ⟨mid,ap,d4,hx⟩:∃ mid ap d4,Go.Sort.partition lt (Go.Sort.rd lt d a b limit wb wp).pi.1 a b (Go.Sort.rd lt d a b limit wb wp).pivot=(mid,ap,d4):=⟨_,_,_,rfl⟩
     obtain ⟨r1,r2,r3,r4,r5,r6,r7⟩:=Go.Sort.round_part hS (Go.Sort.partition_holds lt) hpv.1 hpv.2 (show b≤(Go.Sort.rd lt d a b limit wb wp).pi.1.size by omega) B3 hx
     have hpp:=(Go.Sort.partition_holds lt hS _ a b _ hpv.1 hpv.2 (show b≤(Go.Sort.rd lt d a b limit wb wp).pi.1.size by omega)).2.2.1
     rw [hx] at hpp
     have aq4:=aq_perm aq3 (by omega) hpp
     simp only [] at aq4
     rw [hx]
     simp only []
     rw [wiS (by omega) (by omega),wiS (a:=b) (by omega) (by omega),q8,wi_succ (i:=mid) (by omega)]
     by_cases h4:mid-a<b-mid
     ·obtain ⟨pL,sL⟩:=Go.Sort.pdq_sorts lt hS d4 a mid (Go.Sort.rd lt d a b limit wb wp).lim true true (by omega) (by omega) r4
      rw [if_pos (by omega),hrec d4 a mid _ aq4 (by omega) (by omega) (by omega) (by omega) cl r4,Option.bind_some]
      refine ⟨_,rfl,mid+1,b,_,_,rfl,rfl,rfl,rfl,aq_perm aq4 (by omega) pL,?_,by omega,by rw [pL.1]; omega,by rw [pL.1]; omega,(r6 _ pL sL).1,by omega,cl⟩
      rw [Go.Sort.pdq_left h12 hl0 hp2 h87 (by rw [hx]; exact ⟨r1,r2⟩) (by rw [hx]; exact h4),hx]
      congr 1
      exact decide_eq_decide.2 (by omega)
     ·obtain ⟨pL,sL⟩:=Go.Sort.pdq_sorts lt hS d4 (mid+1) b (Go.Sort.rd lt d a b limit wb wp).lim true true (by omega) (by omega) r5
      rw [if_neg (by omega),hrec d4 (mid+1) b _ aq4 (by omega) (by omega) (by omega) (by omega) cl r5,Option.bind_some]
      refine ⟨_,rfl,a,mid,_,_,rfl,rfl,rfl,rfl,aq_perm aq4 (by omega) pL,?_,by omega,by rw [pL.1]; omega,by rw [pL.1]; omega,(r7 _ pL sL).1,by omega,cl⟩
      rw [Go.Sort.pdq_right h12 hl0 hp2 h87 (by rw [hx]; exact ⟨r1,r2⟩) (by rw [hx]; exact h4),hx]
      congr 1
      exact decide_eq_decide.2 (by omega)
   have tst:∀ D:Array Ga,AQ Q D→D.size=S→∀ {γ:Type} (K:Bool→Option γ),(if (a:Int) > 0 then (if 0≤(wi .i64 ((a:Int)-1))∧((wi .i64 ((a:Int)-1))).toNat<D.toList.length then (D.toList[((wi .i64 ((a:Int)-1))).toNat]?).bind fun (y1:Ga)=>if 0≤(((Go.Sort.rd lt d a b limit wb wp).pivot:Nat):Int)∧((((Go.Sort.rd lt d a b limit wb wp).pivot:Nat):Int)).toNat<D.toList.length then (D.toList[((((Go.Sort.rd lt d a b limit wb wp).pivot:Nat):Int)).toNat]?).bind fun (y2:Ga) =>
      (cmp y1 y2).bind fun (r:Int)=>K (!(decide (r<0)))
      else none else none) else K false)=K (decide (a > 0)&&!lt D[a-1]! D[(Go.Sort.rd lt d a b limit wb wp).pivot]!):=by
    intro D hqD hD γ K
    by_cases ha:a > 0
    ·rw [if_pos (by omega),ld D (pred ha (by omega)) (by omega),ld D rfl (by omega),cmp_some hc (hqD (a-1) (by omega)) (hqD (Go.Sort.rd lt d a b limit wb wp).pivot (by omega)) (K:=fun r=>K (!r))]
     simp [ha]
    ·rw [if_neg (by omega)]
     simp [ha]
   cases wb with
   | true =>
    rw [if_pos (show (true:Bool)=true from rfl)]
    cases wp with
    | true =>
     rw [if_pos (show (true:Bool)=true from rfl)]
     have c3:Sg n (a:Int) (b:Int) (((Go.Sort.rd lt d a b limit true true).lim:Nat):Int) cmp true true (((Go.Sort.rd lt d a b limit true true).pivot:Nat):Int) (Go.Sort.hintCode (Go.Sort.rd lt d a b limit true true).hint) (Go.Sort.rd lt d a b limit true true).d2.toList=some (if (Go.Sort.rd lt d a b limit true true).pi.2=true then .x0 (Go.Sort.rd lt d a b limit true true).pi.1.toList else .x1 (Go.Sort.rd lt d a b limit true true).pi.1.toList):=by
      unfold Sg
      by_cases hi:(Go.Sort.rd lt d a b limit true true).hint=.increasing
      ·rw [if_pos (hint1.2 hi),partialInsertionSort n hc a b _ aq2 (by omega) (by omega) (by omega) (by omega),Option.bind_some,Go.Sort.rd_pi_yes (by simp [hi])]
       simp only []
       split <;> rfl
      ·rw [if_neg (fun q=>hi (hint1.1 q)),Go.Sort.rd_pi_no (by simp [hi])]
       rfl
     rw [c3,Option.bind_some]
     by_cases hp2:(Go.Sort.rd lt d a b limit true true).pi.2=true
     ·rw [if_pos hp2]
      exact ⟨_,rfl,by simp only [Go.Sort.pdq_done h12 hl0 hp2]⟩
     ·rw [if_neg hp2]
      simp only []
      have c4:=tst (Go.Sort.rd lt d a b limit true true).pi.1 aq3 (by omega) (fun r=>some (G0.x0 r (Go.Sort.rd lt d a b limit true true).pi.1.toList))
      unfold SD
      rw [c4,Option.bind_some]
      exact tail (by simpa using hp2) _ rfl
    | false =>
     rw [if_neg (show ¬ (false:Bool)=true by simp)]
     have hno:(true&&false&&decide ((Go.Sort.rd lt d a b limit true false).hint=.increasing))=false:=rfl
     have hpi:=Go.Sort.rd_pi_no hno
     have c5:=tst (Go.Sort.rd lt d a b limit true false).d2 aq2 (by omega) (fun r=>some (G1.x0 r (Go.Sort.rd lt d a b limit true false).d2.toList))
     unfold SE
     rw [c5,Option.bind_some]
     rw [hpi] at tail
     exact tail rfl _ rfl
   | false =>
    rw [if_neg (show ¬ (false:Bool)=true by simp)]
    have hno:(false&&wp&&decide ((Go.Sort.rd lt d a b limit false wp).hint=.increasing))=false:=rfl
    have hpi:=Go.Sort.rd_pi_no hno
    have c6:=tst (Go.Sort.rd lt d a b limit false wp).d2 aq2 (by omega) (fun r=>some (G2.x0 r (Go.Sort.rd lt d a b limit false wp).d2.toList))
    unfold SF
    rw [c6,Option.bind_some]
    rw [hpi] at tail
    exact tail rfl _ rfl
theorem pdqL8 (n:Nat) {Q:Ga→Prop} {cmp:Ga→Ga→Option Int} {lt:Ga→Ga→Bool} (hc:∀ x y,Q x→Q y→∃ c:Int,cmp x y=some c∧lt x y=decide (c<0)) (hS:Go.Sort.SWO lt) (rec:List Ga→Int→Int→Int→Option (List Ga)) (S m:Nat)
  (hrec:∀ (d:Array Ga) (a b limit:Nat),AQ Q d→d.size=S→a≤b→b≤d.size→b-a<m→limit<1000→Go.Sort.Below lt a b d→rec d.toList (a:Int) (b:Int) (limit:Int)=some (Go.Sort.pdq lt d a b limit true true).toList) (hn:S+12<n) (hd:S<1000000) :
  ∀ (k a b limit:Nat) (wb wp:Bool) (d:Array Ga),AQ Q d→b-a<k→a≤b→b≤d.size→d.size=S→b-a≤m→limit<1000→Go.Sort.Below lt a b d →
  GF n cmp rec k (a:Int) (b:Int) (limit:Int) wb wp d.toList=some (.x0 (Go.Sort.pdq lt d a b limit wb wp).toList)
 | 0,a,b,limit,wb,wp,d,_,h,_,_,_,_,_,_=>by omega
 | k+1,a,b,limit,wb,wp,d,hq,h,hab,hb,hs,hm,hlim,hB=>by
  rw [GF]
  obtain ⟨o,h1,h2⟩:=rounded n hc hS rec S m hrec a b limit wb wp d hq hab hb hs hm hn hd hlim hB
  rw [h1,Option.bind_some]
  cases o with
  | x0 r=>simp only at h2; rw [h2]
  | x1 a' b' l' wb' wp' w' =>
   obtain ⟨A,B,L,D,rfl,rfl,rfl,rfl,q0,q5,q6,q7,q8,q9,q10,q11⟩:=h2
   simp only []
   rw [← q5]
   exact pdqL8 n hc hS rec S m hrec hn hd k A B L wb' wp' D q0 (by omega) q6 q7 q8 (by omega) q11 q9
theorem pdqsort {Q:Ga→Prop} {cmp:Ga→Ga→Option Int} {lt:Ga→Ga→Bool} (hc:∀ x y,Q x→Q y→∃ c:Int,cmp x y=some c∧lt x y=decide (c<0)) (hS:Go.Sort.SWO lt):∀ (n:Nat) (a b limit:Nat) (d:Array Ga),AQ Q d→d.size+(b-a)+14<n→a≤b→b≤d.size→d.size<1000000→limit<1000→Go.Sort.Below lt a b d →
  GB n d.toList (a:Int) (b:Int) (limit:Int) cmp=some (Go.Sort.pdq lt d a b limit true true).toList
 | 0,a,b,limit,d,_,h,_,_,_,_,_=>by omega
 | n+1,a,b,limit,d,hq,h,hab,hb,hd,hlim,hB=>by
  rw [GB,pdqL8 n hc hS _ d.size (b-a) (fun d' a' b' l' h0 h1 h2 h3 h4 h5 h6=>pdqsort hc hS n a' b' l' d' h0 (by omega) h2 h3 (by omega) h5 h6) (by omega) hd n a b limit true true d hq (by omega) hab hb rfl (Nat.le_refl _) hlim hB]
  rfl
theorem sorted (n:Nat) {Q:Ga→Prop} {cmp:Ga→Ga→Option Int} {lt:Ga→Ga→Bool} (hc:∀ x y,Q x→Q y→∃ c:Int,cmp x y=some c∧lt x y=decide (c<0)) (hS:Go.Sort.SWO lt) (xs:List Ga) (hx:∀ x∈xs,Q x) (hl:xs.length<1000000) (hn:2*xs.length+14<n) :
  ∃ r,G8 n xs cmp=some r∧r.Perm xs∧r.Pairwise (fun x y=>lt y x=false):=by
 have hq:AQ Q xs.toArray:=by
  intro i hi
  rw [getElem!_pos _ i hi]
  exact hx _ (by simp)
 have hz:xs.toArray.size=xs.length:=by simp
 have hz2:xs=xs.toArray.toList:=by simp
 obtain ⟨hp,hs⟩:=Go.Sort.pdq_sorts lt hS xs.toArray 0 xs.length (Go.Sort.bitsLen xs.length) true true (Nat.zero_le _) (by omega) (Or.inl rfl)
 refine ⟨(Go.Sort.pdq lt xs.toArray 0 xs.length (Go.Sort.bitsLen xs.length) true true).toList,?_,?_,?_⟩
 ·unfold G8
  rw [bitsLen64 n xs.length hl,Option.bind_some]
  have:=bl20 xs.length (by omega)
  have key:=pdqsort hc hS n 0 xs.length (Go.Sort.bitsLen xs.length) xs.toArray hq (by omega) (Nat.zero_le _) (by omega) (by omega) (by omega) (Or.inl rfl)
  rw [show ((0:Nat):Int)=0 from rfl,← hz2] at key
  rw [key]
  rfl
 ·have h3:=hp.2.2
  have e1:(xs.toArray.extract 0 xs.length).toList=xs:=by simp
  have e2:((Go.Sort.pdq lt xs.toArray 0 xs.length (Go.Sort.bitsLen xs.length) true true).extract 0 xs.length)=Go.Sort.pdq lt xs.toArray 0 xs.length (Go.Sort.bitsLen xs.length) true true:=by
   have:(Go.Sort.pdq lt xs.toArray 0 xs.length (Go.Sort.bitsLen xs.length) true true).size=xs.length:=by rw [hp.1,hz]
   generalize Go.Sort.pdq lt xs.toArray 0 xs.length (Go.Sort.bitsLen xs.length) true true=q at *
   rw [← this]
   simp
  rw [e1,e2] at h3
  exact h3
 ·rw [List.pairwise_iff_getElem]
  intro i j hi hj hij
  have hq:(Go.Sort.pdq lt xs.toArray 0 xs.length (Go.Sort.bitsLen xs.length) true true).size=xs.length:=by rw [hp.1,hz]
  rw [Array.length_toList] at hi hj
  have:=hs i j (Nat.zero_le _) hij (by omega)
  rw [getElem!_pos _ j hj,getElem!_pos _ i hi] at this
  simpa using this
end so
end Go.Proofs.YtdgocccbagbhjaaGreatDoor.pv
