/- Whatever the tree, the mounts, the credentials and the path, the way that is walked and the last name are what the document says: the law returns true. -/
import Derived.Test.YtocchemnfpnmeaaDoorLPathWalksA
namespace Go.Proofs.YtocchemnfpnmeaaDoor.pwl
open Go.ChangeShapes Go.WideShapes Go.ChangeAt Go.RowKit help rep
set_option linter.all false
set_option maxHeartbeats 0 in
theorem over:Rows.pathWalksRow.holds Tryd.pinned (OpenSpec.ofChange Rows.pathWalksSpec) :=
 OpenClaim.holds_of_wide 3 Tryd.f3 rfl rfl rfl rfl rfl rfl rfl ⟨rfl,rfl,rfl,rfl,rfl⟩ rfl rfl rfl rfl rfl (by as_aux_lemma=>kernel_rfl) Tryd.func3 (by as_aux_lemma=>kernel_rfl)
  (of_decide_eq_true (by as_aux_lemma=>kernel_rfl)) (by unfold Func.isWrapper; first | (rw [if_pos (by decide +kernel)]; kernel_rfl) | (rw [if_neg (by decide +kernel)]; exact ⟨rfl,rfl⟩))
  (fun os started H enc _=>lifted os started H enc)
theorem noStandIn:(Tryd.f3.params.toList.all fun u=>!Tryd.prog.wantsStandIn u)=true:=by kernel_rfl
theorem namedSo:Tryd.prog.funcNamed Rows.pathWalksRow.func=some 3:=by kernel_rfl
theorem proved:Rows.PathWalksCardSaid :=
 Claim7.holds_tied_plain_at .later [] [.data,.pinned] true (true,"40b98fab22da33acc96227aa1a535b4a84bd8df9e3e85c50126936a610994117") false over (fun _ h=>by cases h) (by kernel_rfl) (fun _ h=>by cases h) pathWalks_row_tie rfl ⟨rfl,rfl⟩ (by kernel_rfl) rfl
  (fun f fn hf hfn=>by
   obtain rfl:f=3:=(Option.some.inj (namedSo.symm.trans hf)).symm
   obtain rfl:fn=Tryd.f3:=(Option.some.inj (Tryd.func3.symm.trans hfn)).symm
   exact ⟨by kernel_rfl,fun j t ht=>by
    have hm:t∈Tryd.f3.params.toList:=Array.mem_toList_iff.2 (Array.mem_of_getElem? ht)
    exact (show Tryd.prog.wantsStandIn t=false by simpa using List.all_eq_true.1 noStandIn t hm)⟩)
  (by kernel_rfl)
#print axioms proved
end Go.Proofs.YtocchemnfpnmeaaDoor.pwl
