/- Plain data as pure values; the functions (none: no answer) in which what a function computes is written; what they owe. -/
import Derived.Test.YtocchemnfpnmeaaDoorQn
namespace Go.Proofs.YtocchemnfpnmeaaDoor.pv
set_option linter.all false
open Go.RowKit
def eI (k:IntKind) (x:Int):PV:=.v (.int k x)
def eB (b:Bool):PV:=.v (.bool b)
def eS (s:ByteArray):PV:=.v (.string s)
def eL {α:Type} (f:α→PV) (l:List α):PV:=.sl (l.map f)
abbrev wi (k:IntKind) (x:Int):Int:=k.wrap x
def getI {α:Type} (l:List α) (i:Int):Option α:=if 0≤i then l[i.toNat]? else none
def app {α:Type} (b:Nat) (xs ys:List α):Option (List α):=if xs.length+ys.length≤maxLen∧(xs.length+ys.length)*b≤140737488355328 then some (xs++ys) else none
def sub {α:Type} (l:List α) (i j:Int):Option (List α):=if 0≤i∧i≤j∧j≤l.length then some ((l.take j.toNat).drop i.toNat) else none
def appZ {α:Type} (b:Nat) (z:α) (n:Int):Option (List α):=if 0≤n∧n.toNat≤maxLen∧n.toNat*b≤140737488355328 then some (List.replicate n.toNat z) else none
def mkL {α:Type} (b:Nat) (z:α) (n:Int):Option (List α):=if 0≤n∧n.toNat≤maxLen∧b*n.toNat≤281474976710656 then some (List.replicate n.toNat z) else none
def shlI (k:IntKind) (a b:Int):Int:=k.wrap (a*2 ^ (min b.toNat k.bits))
def shrI (k:IntKind) (a b:Int):Int:=a.fdiv (2 ^ (min b.toNat k.bits))
def quoI (k:IntKind) (a b:Int):Int:=k.wrap (a.tdiv b)
def remI (a b:Int):Int:=a.tmod b
def negI (k:IntKind) (a:Int):Int:=k.wrap (0-a)
def notI (k:IntKind) (a:Int):Int:=bits .xor k (if k.signed then -1 else k.max) a
def minI (a b:Int):Int:=if b<a then b else a
def maxI (a b:Int):Int:=if b > a then b else a
abbrev dd:FV:=.dead
def bodyOf (fn:Func):Code:=match fn.body with
 | some c=>c
 | none=>.skip
def cL:Code→Code
 | .seq a _=>a
 | c=>c
def cR:Code→Code
 | .seq _ b=>b
 | c=>c
def cT:Code→Code
 | .cond _ a _=>a
 | c=>c
def cF:Code→Code
 | .cond _ _ b=>b
 | c=>c
def cB:Code→Code
 | .block _ a=>a
 | c=>c
def cP:Code→Code
 | .loop a=>a
 | c=>c
theorem AllP.nil:AllP []:=trivial
theorem AllP.cons {p:Prop} {r:List Prop} (h:p) (hr:AllP r):AllP (p::r):=⟨h,hr⟩
section
variable {α:Type} {f:α→PV} {l X Y Z:List α} {i j:Int} {y:α} {s b:Nat}
theorem bind_some {β:Type} {o:Option α} {g:α→Option β} {r:β} (h:o.bind g=some r):∃ y,o=some y∧g y=some r:=by
 cases o with
 | none=>cases h
 | some y=>exact ⟨y,rfl,h⟩
theorem getI_ob (h:getI l i=some y):0≤i∧(l.map f)[i.toNat]?=some (f y):=by
 unfold getI at h
 split at h
 ·exact ⟨‹_›,by simp [h]⟩
 ·cases h
theorem get_ob {k:Nat} (h:l[k]?=some y):(l.map f)[k]?=some (f y):=by simp [h]
theorem len_ob:FV.d (.v (.int .i64 ((l.map f).length:Int)))=FV.d (.v (.int .i64 (l.length:Int))):=by simp
theorem idx_ob (h:0≤i∧i.toNat<l.length):0≤i∧i.toNat<(l.map f).length:=by simpa using h
theorem set_ob {k:Nat} {z:α} {p:PV} (h:p=f z):(l.map f).set k p=(l.set k z).map f:=by rw [h,List.map_set]
theorem all_fits (hf:∀ x,fits s (f x)=true):(l.map f).all (fits s)=true:=by simp [hf]
theorem app_ob (h:app b X Y=some Z) (hf:∀ x,fits s (f x)=true):(Y.map f).all (fits s)=true∧(X.map f).length+(Y.map f).length≤maxLen∧((X.map f).length+(Y.map f).length)*b≤140737488355328∧X.map f++Y.map f=Z.map f:=by
 unfold app at h
 split at h
 ·rename_i c
  simp only [Option.some.injEq] at h
  subst h
  exact ⟨all_fits hf,by simpa using c.1,by simpa using c.2,by simp⟩
 ·cases h
theorem sub_ob (h:sub l i j=some Z) (hf:∀ x,fits s (f x)=true):0≤i∧i≤j∧j≤(l.map f).length∧(l.map f).all (fits s)=true∧((l.map f).take j.toNat).drop i.toNat=Z.map f:=by
 unfold sub at h
 split at h
 ·rename_i c
  simp only [Option.some.injEq] at h
  subst h
  exact ⟨c.1,c.2.1,by simpa using c.2.2,all_fits hf,by simp [List.map_drop,List.map_take]⟩
 ·cases h
theorem sub_ob' (h:sub l i l.length=some Z) (hf:∀ x,fits s (f x)=true):0≤i∧i≤((l.map f).length:Int)∧((l.map f).length:Int)≤((l.map f).length:Int)∧(l.map f).all (fits s)=true∧((l.map f).take ((l.map f).length:Int).toNat).drop i.toNat=Z.map f:=by
 have:=sub_ob (f:=f) (s:=s) h hf
 simpa using this
theorem subR_ob (h:sub l 0 j=some Z):0≤j∧j≤((l.map f).length:Int)∧(l.map f).take j.toNat=Z.map f:=by
 unfold sub at h
 split at h
 ·rename_i c
  simp only [Option.some.injEq] at h
  subst h
  exact ⟨c.2.1,by simpa using c.2.2,by simp [List.map_take]⟩
 ·cases h
theorem appZ_ob {z:α} {p:PV} (h:appZ b z i=some Z) (hp:p=f z):0≤i∧i.toNat≤maxLen∧i.toNat*b≤140737488355328∧List.replicate i.toNat p=Z.map f:=by
 unfold appZ at h
 split at h
 ·rename_i c
  simp only [Option.some.injEq] at h
  subst h
  exact ⟨c.1,c.2.1,c.2.2,by rw [hp]; simp⟩
 ·cases h
theorem mkL_ob {z:α} {p:PV} (h:mkL b z i=some Z) (hp:p=f z):i=i∧0≤i∧i.toNat≤maxLen∧b*i.toNat≤281474976710656∧List.replicate i.toNat p=Z.map f:=by
 unfold mkL at h
 split at h
 ·rename_i c
  simp only [Option.some.injEq] at h
  subst h
  exact ⟨rfl,c.1,c.2.1,c.2.2,by rw [hp]; simp⟩
 ·cases h
def getA {n:Nat} {β:Type} (A:Fin n→β) (j:Int):Option β:=if h:0≤j∧j<n then some (A ⟨j.toNat,by omega⟩) else none
def setA {n:Nat} {β:Type} (A:Fin n→β) (j:Int) (x:β):Fin n→β:=fun i=>if i.val=j.toNat then x else A i
section
variable {n sz:Nat} {β γ:Type} {A:Fin n→β} {jj:Int} {x:β} {g:β→List γ} {pre post:List γ}
end
theorem clone_nil {P:Program} {g:FuncId} {r:FV} {m':List PO} (hA:∀ c,RetH P g [.d (.v (.slice none 0 c))] [] r m') (hB:∀ a c,RetH P g [.d (.v (.slice (some a) 0 c))] [] r m'):RetH P g [.d (.sl [])] [] r m':=by
 refine ⟨(hA 0).1,fun c hd vs S h=>?_⟩
 simp only [RFT,RF,R] at h
 obtain ⟨v,r0,rfl,⟨a,cap,rfl,h1,h2,_⟩,rfl⟩:=h
 cases a with
 | none=>exact (hA cap).2 c hd _ S (by simp only [RFT,RF,R]; exact ⟨_,_,rfl,⟨rfl,rfl⟩,rfl⟩)
 | some a=>exact (hB a cap).2 c hd _ S (by simp only [RFT,RF,R]; exact ⟨_,_,rfl,⟨rfl,rfl⟩,rfl⟩)
def getS (s:ByteArray) (j:Int):Option Int:=if 0≤j then (s[j.toNat]?).map (fun b=>(b.toNat:Int)) else none
theorem getS_ob {s:ByteArray} {j y:Int} (h:getS s j=some y):0≤j∧(s[j.toNat]?).map (fun b=>FV.d (.v (.int .u8 b.toNat)))=some (.d (.v (.int .u8 y))):=by
 unfold getS at h
 split at h
 ·rename_i h0
  cases hb:s[j.toNat]? with
  | none=>rw [hb] at h; cases h
  | some b =>
   rw [hb] at h
   have:=Option.some.inj h
   subst this
   exact ⟨h0,rfl⟩
 ·cases h
theorem dt {p:Prop} [Decidable p] (h:p):decide p=true:=decide_eq_true h
theorem df {p:Prop} [Decidable p] (h:¬ p):decide p=false:=decide_eq_false h
theorem bt {x y:Int} (h:x=y):(x == y)=true:=beq_iff_eq.2 h
theorem bf {x y:Int} (h:¬ x=y):(x == y)=false:=beq_eq_false_iff_ne.2 h
theorem nt {x y:Int} (h:¬ x=y):(x != y)=true:=by simp [bne,bf h]
theorem nf {x y:Int} (h:x=y):(x != y)=false:=by simp [h]
theorem vf {x:Bool} (h:¬ x=true):x=false:=by cases x <;> simp_all
end
end Go.Proofs.YtocchemnfpnmeaaDoor.pv
