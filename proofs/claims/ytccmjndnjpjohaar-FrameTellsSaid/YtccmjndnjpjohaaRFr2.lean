/- slices.Clone and slices.Equal at frames. -/
import Derived.Test.YtccmjndnjpjohaaRFr
import Derived.OwnWalk
namespace Go.Proofs.YtccmjndnjpjohaaR.fr
open Go.ChangeShapes Go.WideShapes Go.ChangeAt Go.RowKit help rep
set_option linter.all false

theorem inf : (Try.prog.info? 91).map (fun i => (i.zero, i.size, i.bytes)) = some (some (.agg #[.int .i64 0, .int .i64 0, .int .i64 0]), 3, 24) := by kernel_rfl
/-- a fresh slice that holds xs -/
def Fresh (ty : TypeId) (e : Sh) (xs : List e.T) (w : World) (en : Ending) (w' : World) : Prop :=
  ∃ v, en = .returned v ∧ w'.ownsRow w.heap.size ty e.size v xs.length (xs.flatMap e.enc) ∧ Below w.heap.size w w'
theorem enc_one (x : F) : ∀ u ∈ S3.enc x, u.oneCell' = true := by
  intro u hu
  rw [encF] at hu
  simp at hu
  rcases hu with rfl | rfl | rfl <;> rfl
set_option maxHeartbeats 1000000 in
set_option maxRecDepth 100000 in
theorem clone_some (xs : List F) (b off cap : Nat) (sp : Option Nat) (n : Nat) (w : World) (hS : Sl w S3 xs (.slice (some ⟨b, off, sp⟩) n cap)) (hw : ∀ x ∈ xs, S3.wf x) (hn : xs.length = n) (hb : n ≤ 100000) :
    Calls Try.prog 130 #[.slice (some ⟨b, off, sp⟩) n cap] w (Fresh 91 S3 xs w) := by
  obtain ⟨i0, hi, hz0, hz1, hz2⟩ := info_parts inf
  have hlen : (xs.flatMap S3.enc).length = n * 3 := by rw [flatMap_length S3.enc 3 xs (fun x hx => enc_length S3 x rfl (hw x hx)), hn]
  have hcell : ∀ j u, (xs.flatMap S3.enc)[j]? = some u → (w.alloc (.cells #[] 91)).cell? ((⟨b, off, sp⟩ : Addr).add j) = some u := by
    intro j u hu
    rcases hS with ⟨hv, _⟩ | ⟨b', off', cap', sp', hv, h1, h2, h3, h4⟩
    · cases hv
    · simp at hv
      obtain ⟨⟨rfl, rfl, rfl⟩, _, rfl⟩ := hv
      have hj : 0 < xs.length := by
        rcases xs with _ | ⟨x, r⟩
        · simp at hu
        · simp
      obtain ⟨rfl, _⟩ := h3 hj
      have h5 := h4 j u hu
      have e : (⟨b, off, none⟩ : Addr).add j = ⟨b, off + j, none⟩ := by unfold Addr.add; split <;> simp_all
      rw [e, alloc_some _ _ _ (by rw [h5]; rfl), h5]
  have H1 := Lib.hid hlen
  have H2 := Lib.hid hcell
  have H3 := Lib.hid hn
  have hE : ∀ (w : World) (a : Option Addr) (n c : Nat), (binOp .eql 81 (.slice a n c) (.slice none 0 0)).run Try.prog w = .ok (.bool a.isNone) w := fun w a n c => Lib.run_eql_slice_nil w 81 91 a n c 0 0 Try.underlying81
  clear hS hw hlen hcell hn
  go_enter Try.func130, Try.ntmps130
  have hown : (w.alloc (.cells #[] 91)).ownsRow w.heap.size 91 3 (.slice (some ⟨w.heap.size, 0, none⟩) 0 0) 0 [] :=
    ⟨rfl, .inr ⟨w.heap.size, 0, #[], rfl, Nat.le_refl _, (MapKept.heap_alloc w _).1, Nat.le_refl _, Nat.zero_le _, rfl, rfl⟩⟩
  have H4 := Lib.hid hown
  have H5 := Lib.hid (show ∀ u ∈ xs.flatMap S3.enc, u.oneCell' = true from fun u hu => by
    obtain ⟨x, _, hx⟩ := List.mem_flatMap.1 hu
    exact enc_one x u hx)
  clear hown
  go_wp2_with (at_builtin; refine wpList_append_own _ rfl (.tmp 5) (.tmp 6) 81 rfl w.heap.size 91 i0 (.agg #[.int .i64 0, .int .i64 0, .int .i64 0]) 3 24 Try.underlying81 hi hz0 hz1 hz2 rfl (by decide) (.slice (some ⟨w.heap.size, 0, none⟩) 0 0) 0 [] rfl H4.out ⟨b, off, sp⟩ n cap (xs.flatMap S3.enc) rfl H1.out H2.out H5.out ?c3 ?c4 ?c5 ?_)
  case c3 => unfold maxLen; omega
  case c4 => omega
  case c5 => simp
  intro v' w1 hown' hgrow _
  try simp only [Nat.zero_add, List.nil_append] at hown'
  have HO := Lib.hid hown'
  have hB : Below w.heap.size w w1 := (bel_alloc (Below.refl _ _) _).grown hgrow (by simp) (by intro k hk; simp [Value.ownBlock] at hk; omega)
  clear hown' hgrow
  go_wp2
  go_ret
  exact ⟨v', rfl, by rw [H3.out]; exact HO.out, hB⟩
theorem clone_nil (w : World) : Calls Try.prog 130 #[.slice none 0 0] w (Fresh 91 S3 [] w) := by
  have hE : ∀ (w : World) (a : Option Addr) (n c : Nat), (binOp .eql 81 (.slice a n c) (.slice none 0 0)).run Try.prog w = .ok (.bool a.isNone) w := fun w a n c => Lib.run_eql_slice_nil w 81 91 a n c 0 0 Try.underlying81
  go_enter Try.func130, Try.ntmps130
  go_wp2_with fail
  go_ret
  exact ⟨_, rfl, ⟨rfl, .inl ⟨rfl, rfl⟩⟩, Below.refl _ _⟩
theorem clone_any (xs : List F) (v : Value) (w : World) (hS : Sl w S3 xs v) (hw : ∀ x ∈ xs, S3.wf x) (hb : xs.length ≤ 100000) :
    Calls Try.prog 130 #[v] w (Fresh 91 S3 xs w) := by
  have hS' := hS
  rcases hS with ⟨rfl, rfl⟩ | ⟨b, off, cap, sp, rfl, _⟩
  · exact clone_nil w
  · exact clone_some xs b off cap sp _ w hS' hw rfl hb
end Go.Proofs.YtccmjndnjpjohaaR.fr
