/- Whatever is asked of and put into a few sectors at hand is told as the document's cache tells it: for any number of slots and any sequence of Put, Get and Sync the law returns true. -/
import Derived.Test.YtofjjaagjkbeaaaGreatBe
import Derived.ChangeOld
namespace Go.Proofs.YtofjjaagjkbeaaaGreat.bp
open Go.ChangeShapes Go.WideShapes Go.ChangeAt Go.RowKit help rep
set_option linter.all false
theorem walk (w:World) (v0 v1:Value) (h0:Arg w (.int .i64) v0) (h1:Arg w (.slice 64 (.pair (.int .i64) (.pair (.int .i64) (.pair (.slice 1 (.int .u8)) (.pair (.slice 1 .bool) .unit))))) v1):Calls Tryz.prog 3 #[v0,v1] w (help.Ret (.bool true) w) :=
 pv.BufferPlays_walk (fun a b _ h=>pv.bp.H a b h) w v0 v1 h0 h1
theorem own:ownKnob Tryz.prog.godebug=none:=by kernel_rfl
theorem laidOut:laidOutB Tryz.prog=true:=by kernel_rfl
set_option maxRecDepth 100000 in
theorem lifted (os:Os) (started:os.Started) (H:Type) (enc:TypeId×Value→H) :
  ReturnsInHanded {} Tryz.checked os 3 .any (Rows.bufferPlaysSpec.pre6 enc Tryz.prog Tryz.f3 Rows.bufferPlaysRow.domain false) (Rows.bufferPlaysSpec.post enc Tryz.prog Tryz.f3 false true false false):=by
 refine returnsInHanded_of_change_sized (C:=Tryz.checked) own started (by kernel_rfl) Tryz.func3
  (ChangeSpec.witness6 (enc:=enc) (C:=Tryz.checked) false ⟨#[],#[.int .i64 0,.slice none 0 0],[]⟩ 8 (by kernel_rfl) (by kernel_rfl) (by kernel_rfl) (by kernel_rfl)) ?_
 intro W base args ds gs before hval0 hW hcnd hsz _
 have hval:∀ (j:Nat) t v,Tryz.f3.params[j]?=some t→args[j]?=some v→Value.okWide Tryz.prog W .any base t v:=hval0
 have hW':=hW
 obtain ⟨p,q,hA0,hV,rfl,hfz,hnd⟩:=hW
 have hA:DataW.TrodAll enc Tryz.prog W 0 (fun _=>true) true Tryz.f3.params.toList args.toList ds p:=hA0
 rw [Tryz.params3] at hA hval
 obtain ⟨v0,vs0,d0,ds0,p0,q0,hargs,rfl,rfl,h0,r0⟩:=trodAll_cons hA
 obtain ⟨v1,vs1,d1,ds1,p1,q1,rfl,rfl,rfl,h1,r1⟩:=trodAll_cons r0
 obtain ⟨rfl,rfl,rfl⟩:=trodAll_nil r1
 obtain rfl:args=#[v0,v1]:=by cases args; simp_all
 obtain ⟨rfl,rfl⟩:=trodVars_none hV
 have hsm:∀ m∈DataW.weightsEach Tryz.prog (Tryz.f3.params.toList++_) ([d0,d1]++[]),m≤reachBytes:=fun m hm=>by have:=List.all_eq_true.1 hsz m hm; simpa using this
 have a0:=rep.arg_of (s:=(.int .i64)) (by kernel_rfl) (hval 0 _ v0 rfl rfl) h0 (rep.small_each hsm 0 _ _ rfl rfl)
 have lt0:∀ x∈p0,x.block<W.heap.size:=by obtain ⟨m,hm⟩:=h0; exact DataW.trod_lt m _ _ _ hm
 have a1:=rep.arg_of (s:=(.slice 64 (.pair (.int .i64) (.pair (.int .i64) (.pair (.slice 1 (.int .u8)) (.pair (.slice 1 .bool) .unit)))))) (by kernel_rfl) (hval 1 _ v1 rfl rfl) h1 (rep.small_each hsm 1 _ _ rfl rfl)
 have lt1:∀ x∈p1,x.block<W.heap.size:=by obtain ⟨m,hm⟩:=h1; exact DataW.trod_lt m _ _ _ hm
 clear hA0 hval0
 refine (walk W v0 v1 a0 a1).mono fun e W' ⟨he,bel⟩=>?_
 subst he
 exact ⟨_,rfl,_,_,_,[],_,[],hW',trodAll_mk1 (shut_bool Tryz.underlying4 _),(trodAll_cons_mk (Below.trod laidOut (by kernel_rfl) (of_decide_eq_true (by kernel_rfl)) h0 bel lt0) (trodAll_cons_mk (Below.trod laidOut (by kernel_rfl) (of_decide_eq_true (by kernel_rfl)) h1 bel lt1) trodAll_mk0)),rfl,bel.frame _,fun h=>by cases h⟩
end Go.Proofs.YtofjjaagjkbeaaaGreat.bp
