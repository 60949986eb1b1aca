/- Whatever the tree, the mounts, the credentials and the path, the way that is walked and the last name are what the document says: the law returns true. -/
import Derived.Test.YtocchemnfpnmeaaDoorWg
import Derived.ChangeOld
import Derived.Test.YtocchemnfpnmeaaDoorCards
import Derived.Test.YtocchemnfpnmeaaDoorTie
import Derived.SevenTiedAt
import Derived.Lay
import Derived.MakeChecks
import Derived.Handed
namespace Go.Proofs.YtocchemnfpnmeaaDoor.pwl
open Go.ChangeShapes Go.WideShapes Go.ChangeAt Go.RowKit help rep
set_option linter.all false
theorem walk (w:World) (v0 v1 v2 v3 v4 v5:Value) (h0:Arg w (.pair (.slice 88 (.pair (.pair (.int .i64) (.pair (.int .i64) (.pair (.int .i64) (.pair (.int .i64) (.pair (.int .i64) (.pair (.int .i64) .unit)))))) (.pair (.slice 24 (.pair .str (.pair (.int .i64) .unit))) (.pair .str .unit)))) .unit) v0) (h1:Arg w (.slice 16 (.arr 2 (.int .i64))) v1) (h2:Arg w (.pair (.int .i64) (.pair (.int .i64) (.pair (.slice 8 (.int .i64)) (.pair (.int .i64) (.pair (.int .i64) (.pair (.int .i64) .unit)))))) v2) (h3:Arg w (.slice 8 (.int .i64)) v3) (h4:Arg w .str v4) (h5:Arg w .bool v5):Calls Tryd.prog 3 #[v0,v1,v2,v3,v4,v5] w (help.Ret (.bool true) w) :=
 pv.PathWalks_walk (fun t ps c cwd s fol ht hp _ hw _ _=>pv.pw.H t ps c cwd s fol ht hp.1 hw.1) w v0 v1 v2 v3 v4 v5 h0 h1 h2 h3 h4 h5
theorem own:ownKnob Tryd.prog.godebug=none:=by kernel_rfl
theorem laidOut:laidOutB Tryd.prog=true:=by kernel_rfl
set_option maxRecDepth 100000 in
theorem lifted (os:Os) (started:os.Started) (H:Type) (enc:TypeId×Value→H) :
  ReturnsInHanded {} Tryd.checked os 3 .any (fun w args=>(Rows.pathWalksSpec.pre enc Tryd.prog Tryd.f3 [] false w args∧laidMetH Tryd.prog Rows.pathWalksRow.laid w)∧sizedMet enc Tryd.prog Tryd.f3 (OpenSpec.ofChange Rows.pathWalksSpec) false w args) (Rows.pathWalksSpec.post enc Tryd.prog Tryd.f3 false true false false):=by
 refine returnsInHanded_of_change_and (C:=Tryd.checked) (X:=fun w _=>laidMetH Tryd.prog Rows.pathWalksRow.laid w) (fun _ _ _ hh h=>h.of_heap hh) own started (by kernel_rfl) Tryd.func3
  (ChangeSpec.witness_shaped (enc:=enc) (C:=Tryd.checked) (os:=os) (X:=fun w _=>laidMetH Tryd.prog Rows.pathWalksRow.laid w) false (World.laidAll Tryd.prog os Rows.pathWalksRow.laid) #[.agg #[.slice none 0 0],.slice none 0 0,.agg #[.int .i64 0,.int .i64 0,.slice none 0 0,.int .i64 0,.int .i64 0,.int .i64 0],.slice none 0 0,.string ⟨#[]⟩,.bool false] 8 (World.laidAll_os _ _ _)
   (World.shaped_of_ZipB (by kernel_rfl) (by kernel_rfl)) (by kernel_rfl) (by kernel_rfl) (by kernel_rfl)
   (by rw [MakeChecks.laidMetH_plain _ _ _ (by kernel_rfl)]; exact laidMet_laidAll _ (by kernel_rfl) (by kernel_rfl))) ?_
 intro W base args ds gs before hval0 hW hcnd hsz _ _
 have hval:∀ (j:Nat) t v,Tryd.f3.params[j]?=some t→args[j]?=some v→Value.okWide Tryd.prog W .any base t v:=hval0
 have hW':=hW
 obtain ⟨p,q,hA0,hV,rfl,hfz,hnd⟩:=hW
 have hA:DataW.TrodAll enc Tryd.prog W 0 (fun _=>true) true Tryd.f3.params.toList args.toList ds p:=hA0
 rw [Tryd.params3] at hA hval
 obtain ⟨v0,vs0,d0,ds0,p0,q0,hargs,rfl,rfl,h0,r0⟩:=trodAll_cons hA
 obtain ⟨v1,vs1,d1,ds1,p1,q1,rfl,rfl,rfl,h1,r1⟩:=trodAll_cons r0
 obtain ⟨v2,vs2,d2,ds2,p2,q2,rfl,rfl,rfl,h2,r2⟩:=trodAll_cons r1
 obtain ⟨v3,vs3,d3,ds3,p3,q3,rfl,rfl,rfl,h3,r3⟩:=trodAll_cons r2
 obtain ⟨v4,vs4,d4,ds4,p4,q4,rfl,rfl,rfl,h4,r4⟩:=trodAll_cons r3
 obtain ⟨v5,vs5,d5,ds5,p5,q5,rfl,rfl,rfl,h5,r5⟩:=trodAll_cons r4
 obtain ⟨rfl,rfl,rfl⟩:=trodAll_nil r5
 obtain rfl:args=#[v0,v1,v2,v3,v4,v5]:=by cases args; simp_all
 obtain ⟨rfl,rfl⟩:=trodVars_none hV
 have hsm:∀ m∈DataW.weightsEach Tryd.prog (Tryd.f3.params.toList++_) ([d0,d1,d2,d3,d4,d5]++[]),m≤reachBytes:=fun m hm=>by have:=List.all_eq_true.1 hsz m hm; simpa using this
 have a0:=rep.arg_of (s:=(.pair (.slice 88 (.pair (.pair (.int .i64) (.pair (.int .i64) (.pair (.int .i64) (.pair (.int .i64) (.pair (.int .i64) (.pair (.int .i64) .unit)))))) (.pair (.slice 24 (.pair .str (.pair (.int .i64) .unit))) (.pair .str .unit)))) .unit)) (by kernel_rfl) (hval 0 _ v0 rfl rfl) h0 (rep.small_each hsm 0 _ _ rfl rfl)
 have lt0:∀ x∈p0,x.block<W.heap.size:=by obtain ⟨m,hm⟩:=h0; exact DataW.trod_lt m _ _ _ hm
 have a1:=rep.arg_of (s:=(.slice 16 (.arr 2 (.int .i64)))) (by kernel_rfl) (hval 1 _ v1 rfl rfl) h1 (rep.small_each hsm 1 _ _ rfl rfl)
 have lt1:∀ x∈p1,x.block<W.heap.size:=by obtain ⟨m,hm⟩:=h1; exact DataW.trod_lt m _ _ _ hm
 have a2:=rep.arg_of (s:=(.pair (.int .i64) (.pair (.int .i64) (.pair (.slice 8 (.int .i64)) (.pair (.int .i64) (.pair (.int .i64) (.pair (.int .i64) .unit))))))) (by kernel_rfl) (hval 2 _ v2 rfl rfl) h2 (rep.small_each hsm 2 _ _ rfl rfl)
 have lt2:∀ x∈p2,x.block<W.heap.size:=by obtain ⟨m,hm⟩:=h2; exact DataW.trod_lt m _ _ _ hm
 have a3:=rep.arg_of (s:=(.slice 8 (.int .i64))) (by kernel_rfl) (hval 3 _ v3 rfl rfl) h3 (rep.small_each hsm 3 _ _ rfl rfl)
 have lt3:∀ x∈p3,x.block<W.heap.size:=by obtain ⟨m,hm⟩:=h3; exact DataW.trod_lt m _ _ _ hm
 have a4:=rep.arg_of (s:=.str) (by kernel_rfl) (hval 4 _ v4 rfl rfl) h4 (rep.small_each hsm 4 _ _ rfl rfl)
 have lt4:∀ x∈p4,x.block<W.heap.size:=by obtain ⟨m,hm⟩:=h4; exact DataW.trod_lt m _ _ _ hm
 have a5:=rep.arg_of (s:=.bool) (by kernel_rfl) (hval 5 _ v5 rfl rfl) h5 (rep.small_each hsm 5 _ _ rfl rfl)
 have lt5:∀ x∈p5,x.block<W.heap.size:=by obtain ⟨m,hm⟩:=h5; exact DataW.trod_lt m _ _ _ hm
 clear hA0 hval0
 refine (walk W v0 v1 v2 v3 v4 v5 a0 a1 a2 a3 a4 a5).mono fun e W' ⟨he,bel⟩=>?_
 subst he
 exact ⟨_,rfl,_,_,_,[],_,[],hW',trodAll_mk1 (shut_bool Tryd.underlying4 _),(trodAll_cons_mk (Below.trod laidOut (by kernel_rfl) (of_decide_eq_true (by kernel_rfl)) h0 bel lt0) (trodAll_cons_mk (Below.trod laidOut (by kernel_rfl) (of_decide_eq_true (by kernel_rfl)) h1 bel lt1) (trodAll_cons_mk (Below.trod laidOut (by kernel_rfl) (of_decide_eq_true (by kernel_rfl)) h2 bel lt2) (trodAll_cons_mk (Below.trod laidOut (by kernel_rfl) (of_decide_eq_true (by kernel_rfl)) h3 bel lt3) (trodAll_cons_mk (Below.trod laidOut (by kernel_rfl) (of_decide_eq_true (by kernel_rfl)) h4 bel lt4) (trodAll_cons_mk (Below.trod laidOut (by kernel_rfl) (of_decide_eq_true (by kernel_rfl)) h5 bel lt5) trodAll_mk0)))))),rfl,bel.frame _,fun h=>by cases h⟩
end Go.Proofs.YtocchemnfpnmeaaDoor.pwl
