/- slices.Clone of bytes and of numbers: what it hands back is a new row. -/
import Derived.Test.YtnkdanobhgofbaaGreatDoorWCa
import Derived.Test.YtnkdanobhgofbaaGreatDoorProg
import Derived.Test.YtnkdanobhgofbaaGreatDoorHR
import Derived.OwnWalk
namespace Go.Proofs.YtnkdanobhgofbaaGreatDoor.pv
set_option linter.all false
open Go.ChangeShapes Go.WideShapes Go.ChangeAt Go.RowKit help
theorem REk {ow : Ow} {w : World} {k : IntKind} : ∀ {L : List Int} {cells : List Value} {s : Nat}, RE ow w s (L.map (eI k)) cells → cells = L.map (Value.int k)
  | [], _, _, h => by simpa only [List.map_nil, RE] using h
  | x :: L, cells, s, h => by
    simp only [List.map_cons, RE, eI, R] at h
    obtain ⟨u, r, e, h1, h2, ⟨h3, _⟩, h4⟩ := h
    subst h3
    rw [e, REk h4]; rfl
theorem RE_ofk {ow : Ow} {w : World} (k : IntKind) : ∀ L : List Int, RE ow w 1 (L.map (eI k)) (L.map (Value.int k))
  | [] => by simp only [List.map_nil, RE]
  | x :: L => by
    simp only [List.map_cons, RE, eI, R]
    exact ⟨.int k x, L.map (Value.int k), rfl, rfl, by
      intro v hv
      have : v = .int k x := by simpa [Value.cells] using hv
      subst this; rfl, ⟨rfl, rfl⟩, RE_ofk k L⟩
/-- a fresh slice that holds zs -/
def FreshI (ty : TypeId) (k : IntKind) (zs : List Int) (w : World) (en : Ending) (w' : World) : Prop :=
  ∃ v, en = .returned v ∧ w'.ownsRow w.heap.size ty 1 v zs.length (zs.map (Value.int k)) ∧ Below w.heap.size w w'
/-- cells at a slice's place -/
def AtI (k : IntKind) (zs : List Int) (w : World) (a : Option Addr) : Prop := zs = [] ∨ ∃ b off, a = some ⟨b, off, none⟩ ∧ b < w.heap.size ∧ w.rangeAt b off (zs.map (Value.int k))
theorem clone_ret_of {P : Program} {g : FuncId} {ty : Nat} {k : IntKind} (hg : FnOk P g) {zs : List Int} (hC : ∀ (w : World) (a : Option Addr) (cap : Nat), AtI k zs w a → Calls P g #[.slice a zs.length cap] w (FreshI ty k zs w)) :
    RetH P g [.d (.sl (zs.map (eI k)))] [] (.srf 0) [.row ty 1 (zs.map (eI k))] := by
  refine ⟨hg, fun o ho g' hg' => ?_, fun c hd vs S hr => ?_⟩
  · have := List.mem_singleton.1 ho
    subst this; cases hg'
  simp only [RFT, RF, R] at hr
  obtain ⟨v, r, rfl, ⟨a, cap, rfl, hle, hcm, hz⟩, rfl⟩ := hr
  have hat : AtI k zs c.w a := by
    rcases hz with h | ⟨b, off, sz, cells, rfl, hb, _, hr, he⟩
    · left; simpa using h
    · right
      rw [REk he] at hr
      exact ⟨b, off, rfl, hb, hr⟩
  rw [List.length_map]
  refine (hC c.w a cap hat).mono fun en w' ⟨v, he, hown, hbel⟩ => ?_
  obtain ⟨hlen, hown'⟩ := hown
  have hbk : ∀ b, b ∈ blocksOf v → c.w.heap.size ≤ b ∧ b < w'.heap.size := fun b hb => by
    rcases hown' with ⟨h1, _⟩ | ⟨g1, cap1, cur, h1, h2, h3, _⟩
    · rw [h1] at hb; simp [blocksOf, blockOf] at hb
    · rw [h1] at hb
      simp [blocksOf, blockOf] at hb
      subst hb
      exact ⟨h2, (Array.getElem?_eq_some_iff.1 h3).1⟩
  have hone : v.oneCell' = true := by
    rcases hown' with ⟨h1, _⟩ | ⟨g1, cap1, cur, h1, _⟩ <;> rw [h1] <;> rfl
  have hkp : Kp c.ow c.w (c.ow.set fun b => if b ∈ blocksOf v then true else c.ow b) w' := ⟨hbel.size, fun b hlt h => by
    show (if b ∈ blocksOf v then true else c.ow b) = false
    rw [if_neg]
    · exact h
    · intro e; have := hbk b e; omega, fun b hlt h => hbel.block b hlt⟩
  have hkt : Kt c c.w w' := Kt.of_below hbel (Nat.le_refl _)
  have S2 : SimH c [.row ty 1 (zs.map (eI k))] w' (c.ow.set fun b => if b ∈ blocksOf v then true else c.ow b) (fun _ => v) := by
    refine ⟨hkt, fun b hb => ?_, fun l o hl => ?_, fun l l' o o' b hne hl hl' => ?_, ⟨fun l l' o o' g' h1 h2 h3 => ?_, fun l o g' h1 h2 => ?_⟩⟩
    · show (if b ∈ blocksOf v then true else c.ow b) = false
      rw [if_neg]
      · exact S.fresh b (Nat.le_trans hbel.size hb)
      · intro e; have := hbk b e; omega
    · cases l with
      | succ l => simp at hl
      | zero =>
        simp at hl
        subst hl
        refine ⟨zs.map (Value.int k), ⟨by simp, ?_⟩, fun b hb => ⟨.inl (hbk b hb).1, if_pos hb⟩, RE_ofk k zs⟩
        rw [List.length_map]
        rcases hown' with h1 | ⟨g1, cap1, cur, h1, h2, h3⟩
        · exact .inl h1
        · exact .inr ⟨g1, cap1, cur, h1, Nat.zero_le _, h3⟩
    · cases l with
      | succ l => simp at hl
      | zero => cases l' with
        | succ l' => simp at hl'
        | zero => exact absurd rfl hne
    · cases l with
      | succ l => simp at h1
      | zero => simp at h1; subst h1; cases h3
    · cases l with
      | succ l => simp at h1
      | zero => simp at h1; subst h1; cases h2
  refine ⟨v, c.ow.set fun b => if b ∈ blocksOf v then true else c.ow b, fun _ => v, he, ⟨Ph.set _ _, fun b hb _ => ?_, fun _ _ => rfl⟩, fun _ _ => rfl, S2, fun l hl => by simp [al] at hl, ?_⟩
  · show (if b ∈ blocksOf v then true else c.ow b) = _
    rw [if_neg]
    intro e; have := hbk b e; omega
  · simp only [RF]
    exact ⟨rfl, trivial, hone⟩
end Go.Proofs.YtnkdanobhgofbaaGreatDoor.pv
namespace Go.Proofs.YtnkdanobhgofbaaGreatDoor.pv
set_option linter.all false
open Go.ChangeShapes Go.WideShapes Go.ChangeAt Go.RowKit help
theorem infB : (Tryz.prog.info? 5).map (fun i => (i.zero, i.size, i.bytes)) = some (some (.int .u8 0), 1, 1) := by kernel_rfl
set_option maxHeartbeats 1000000 in
set_option maxRecDepth 100000 in
theorem cloneB_some (xs : List Int) (b off cap : Nat) (n : Nat) (w : World) (hS : w.rangeAt b off (xs.map (Value.int .u8))) (hn : xs.length = n) (hb : n ≤ 100000) :
    Calls Tryz.prog 64 #[.slice (some ⟨b, off, none⟩) n cap] w (FreshI 5 .u8 xs w) := by
  obtain ⟨i0, hi, hz0, hz1, hz2⟩ := info_parts infB
  have hlen : (xs.map (Value.int .u8)).length = n * 1 := by rw [List.length_map, hn, Nat.mul_one]
  have hcell : ∀ j u, (xs.map (Value.int .u8))[j]? = some u → (w.alloc (.cells #[] 5)).cell? ((⟨b, off, none⟩ : Addr).add j) = some u := by
    intro j u hu
    have h5 := hS j u hu
    have e : (⟨b, off, none⟩ : Addr).add j = ⟨b, off + j, none⟩ := by unfold Addr.add; split <;> simp_all
    rw [e, alloc_some _ _ _ (by rw [h5]; rfl), h5]
  have H1 := Lib.hid hlen
  have H2 := Lib.hid hcell
  have H3 := Lib.hid hn
  have hE : ∀ (w : World) (a : Option Addr) (n c : Nat), (binOp .eql 55 (.slice a n c) (.slice none 0 0)).run Tryz.prog w = .ok (.bool a.isNone) w := fun w a n c => Lib.run_eql_slice_nil w 55 5 a n c 0 0 Tryz.underlying55
  clear hS hlen hcell hn
  go_enter Tryz.func64, Tryz.ntmps64
  have hown : (w.alloc (.cells #[] 5)).ownsRow w.heap.size 5 1 (.slice (some ⟨w.heap.size, 0, none⟩) 0 0) 0 [] :=
    ⟨rfl, .inr ⟨w.heap.size, 0, #[], rfl, Nat.le_refl _, (MapKept.heap_alloc w _).1, Nat.le_refl _, Nat.zero_le _, rfl, rfl⟩⟩
  have H4 := Lib.hid hown
  have H5 := Lib.hid (show ∀ u ∈ xs.map (Value.int .u8), u.oneCell' = true from fun u hu => by
    obtain ⟨x, _, hx⟩ := List.mem_map.1 hu
    subst hx; rfl)
  clear hown
  go_wp2_with (at_builtin; refine wpList_append_own _ rfl (.tmp 5) (.tmp 6) 55 rfl w.heap.size 5 i0 (.int .u8 0) 1 1 Tryz.underlying55 hi hz0 hz1 hz2 rfl (by decide) (.slice (some ⟨w.heap.size, 0, none⟩) 0 0) 0 [] rfl H4.out ⟨b, off, none⟩ n cap (xs.map (Value.int .u8)) rfl H1.out H2.out H5.out ?c3 ?c4 ?c5 ?_)
  case c3 => unfold maxLen; omega
  case c4 => omega
  case c5 => simp
  intro v' w1 hown' hgrow _
  try simp only [Nat.zero_add, List.nil_append] at hown'
  have HO := Lib.hid hown'
  have hB : Below w.heap.size w w1 := (bel_alloc (Below.refl _ _) _).grown hgrow (by simp) (by intro k hk; simp [Value.ownBlock] at hk; omega)
  clear hown' hgrow
  go_wp2
  go_ret
  exact ⟨v', rfl, by rw [H3.out]; exact HO.out, hB⟩
set_option maxHeartbeats 1000000 in
set_option maxRecDepth 100000 in
theorem cloneB_z (w : World) (b off cap : Nat) (sp : Option Nat) :
    Calls Tryz.prog 64 #[.slice (some ⟨b, off, sp⟩) 0 cap] w (FreshI 5 .u8 [] w) := by
  obtain ⟨i0, hi, hz0, hz1, hz2⟩ := info_parts infB
  have hE : ∀ (w : World) (a : Option Addr) (n c : Nat), (binOp .eql 55 (.slice a n c) (.slice none 0 0)).run Tryz.prog w = .ok (.bool a.isNone) w := fun w a n c => Lib.run_eql_slice_nil w 55 5 a n c 0 0 Tryz.underlying55
  go_enter Tryz.func64, Tryz.ntmps64
  have hown : (w.alloc (.cells #[] 5)).ownsRow w.heap.size 5 1 (.slice (some ⟨w.heap.size, 0, none⟩) 0 0) 0 [] :=
    ⟨rfl, .inr ⟨w.heap.size, 0, #[], rfl, Nat.le_refl _, (MapKept.heap_alloc w _).1, Nat.le_refl _, Nat.zero_le _, rfl, rfl⟩⟩
  have H4 := Lib.hid hown
  clear hown
  go_wp2_with (at_builtin; refine wpList_append_own _ rfl (.tmp 5) (.tmp 6) 55 rfl w.heap.size 5 i0 (.int .u8 0) 1 1 Tryz.underlying55 hi hz0 hz1 hz2 rfl (by decide) (.slice (some ⟨w.heap.size, 0, none⟩) 0 0) 0 [] rfl H4.out ⟨b, off, sp⟩ 0 cap [] rfl rfl (by simp) (by simp) ?c3 ?c4 ?c5 ?_)
  case c3 => unfold maxLen; omega
  case c4 => omega
  case c5 => simp
  intro v' w1 hown' hgrow _
  try simp only [Nat.zero_add, List.nil_append] at hown'
  have HO := Lib.hid hown'
  have hB : Below w.heap.size w w1 := (bel_alloc (Below.refl _ _) _).grown hgrow (by simp) (by intro k hk; simp [Value.ownBlock] at hk; omega)
  clear hown' hgrow
  go_wp2
  go_ret
  exact ⟨v', rfl, HO.out, hB⟩
theorem cloneB_nil (w : World) (c : Nat) : Calls Tryz.prog 64 #[.slice none 0 c] w (FreshI 5 .u8 [] w) := by
  have hE : ∀ (w : World) (a : Option Addr) (n c : Nat), (binOp .eql 55 (.slice a n c) (.slice none 0 0)).run Tryz.prog w = .ok (.bool a.isNone) w := fun w a n c => Lib.run_eql_slice_nil w 55 5 a n c 0 0 Tryz.underlying55
  go_enter Tryz.func64, Tryz.ntmps64
  go_wp2_with fail
  go_ret
  exact ⟨_, rfl, ⟨rfl, .inl ⟨rfl, rfl⟩⟩, Below.refl _ _⟩
theorem cloneB_ret (zs : List Int) (hb : zs.length ≤ 100000) : RetH Tryz.prog 64 [.d (.sl (zs.map (eI .u8)))] [] (.srf 0) [.row 5 1 (zs.map (eI .u8))] := by
  refine clone_ret_of ⟨_, Tryz.func64, by kernel_rfl, by kernel_rfl⟩ fun w a cap hA => ?_
  rcases hA with rfl | ⟨b, off, rfl, _, hr⟩
  · cases a with
    | none => exact cloneB_nil w cap
    | some ad => obtain ⟨b, off, sp⟩ := ad; exact cloneB_z w b off cap sp
  · exact cloneB_some zs b off cap _ w hr rfl hb
theorem infI : (Tryz.prog.info? 3).map (fun i => (i.zero, i.size, i.bytes)) = some (some (.int .i64 0), 1, 8) := by kernel_rfl
set_option maxHeartbeats 1000000 in
set_option maxRecDepth 100000 in
theorem cloneI_some (xs : List Int) (b off cap : Nat) (n : Nat) (w : World) (hS : w.rangeAt b off (xs.map (Value.int .i64))) (hn : xs.length = n) (hb : n ≤ 100000) :
    Calls Tryz.prog 30 #[.slice (some ⟨b, off, none⟩) n cap] w (FreshI 3 .i64 xs w) := by
  obtain ⟨i0, hi, hz0, hz1, hz2⟩ := info_parts infI
  have hlen : (xs.map (Value.int .i64)).length = n * 1 := by rw [List.length_map, hn, Nat.mul_one]
  have hcell : ∀ j u, (xs.map (Value.int .i64))[j]? = some u → (w.alloc (.cells #[] 3)).cell? ((⟨b, off, none⟩ : Addr).add j) = some u := by
    intro j u hu
    have h5 := hS j u hu
    have e : (⟨b, off, none⟩ : Addr).add j = ⟨b, off + j, none⟩ := by unfold Addr.add; split <;> simp_all
    rw [e, alloc_some _ _ _ (by rw [h5]; rfl), h5]
  have H1 := Lib.hid hlen
  have H2 := Lib.hid hcell
  have H3 := Lib.hid hn
  have hE : ∀ (w : World) (a : Option Addr) (n c : Nat), (binOp .eql 30 (.slice a n c) (.slice none 0 0)).run Tryz.prog w = .ok (.bool a.isNone) w := fun w a n c => Lib.run_eql_slice_nil w 30 3 a n c 0 0 Tryz.underlying30
  clear hS hlen hcell hn
  go_enter Tryz.func30, Tryz.ntmps30
  have hown : (w.alloc (.cells #[] 3)).ownsRow w.heap.size 3 1 (.slice (some ⟨w.heap.size, 0, none⟩) 0 0) 0 [] :=
    ⟨rfl, .inr ⟨w.heap.size, 0, #[], rfl, Nat.le_refl _, (MapKept.heap_alloc w _).1, Nat.le_refl _, Nat.zero_le _, rfl, rfl⟩⟩
  have H4 := Lib.hid hown
  have H5 := Lib.hid (show ∀ u ∈ xs.map (Value.int .i64), u.oneCell' = true from fun u hu => by
    obtain ⟨x, _, hx⟩ := List.mem_map.1 hu
    subst hx; rfl)
  clear hown
  go_wp2_with (at_builtin; refine wpList_append_own _ rfl (.tmp 5) (.tmp 6) 30 rfl w.heap.size 3 i0 (.int .i64 0) 1 8 Tryz.underlying30 hi hz0 hz1 hz2 rfl (by decide) (.slice (some ⟨w.heap.size, 0, none⟩) 0 0) 0 [] rfl H4.out ⟨b, off, none⟩ n cap (xs.map (Value.int .i64)) rfl H1.out H2.out H5.out ?c3 ?c4 ?c5 ?_)
  case c3 => unfold maxLen; omega
  case c4 => omega
  case c5 => simp
  intro v' w1 hown' hgrow _
  try simp only [Nat.zero_add, List.nil_append] at hown'
  have HO := Lib.hid hown'
  have hB : Below w.heap.size w w1 := (bel_alloc (Below.refl _ _) _).grown hgrow (by simp) (by intro k hk; simp [Value.ownBlock] at hk; omega)
  clear hown' hgrow
  go_wp2
  go_ret
  exact ⟨v', rfl, by rw [H3.out]; exact HO.out, hB⟩
set_option maxHeartbeats 1000000 in
set_option maxRecDepth 100000 in
theorem cloneI_z (w : World) (b off cap : Nat) (sp : Option Nat) :
    Calls Tryz.prog 30 #[.slice (some ⟨b, off, sp⟩) 0 cap] w (FreshI 3 .i64 [] w) := by
  obtain ⟨i0, hi, hz0, hz1, hz2⟩ := info_parts infI
  have hE : ∀ (w : World) (a : Option Addr) (n c : Nat), (binOp .eql 30 (.slice a n c) (.slice none 0 0)).run Tryz.prog w = .ok (.bool a.isNone) w := fun w a n c => Lib.run_eql_slice_nil w 30 3 a n c 0 0 Tryz.underlying30
  go_enter Tryz.func30, Tryz.ntmps30
  have hown : (w.alloc (.cells #[] 3)).ownsRow w.heap.size 3 1 (.slice (some ⟨w.heap.size, 0, none⟩) 0 0) 0 [] :=
    ⟨rfl, .inr ⟨w.heap.size, 0, #[], rfl, Nat.le_refl _, (MapKept.heap_alloc w _).1, Nat.le_refl _, Nat.zero_le _, rfl, rfl⟩⟩
  have H4 := Lib.hid hown
  clear hown
  go_wp2_with (at_builtin; refine wpList_append_own _ rfl (.tmp 5) (.tmp 6) 30 rfl w.heap.size 3 i0 (.int .i64 0) 1 8 Tryz.underlying30 hi hz0 hz1 hz2 rfl (by decide) (.slice (some ⟨w.heap.size, 0, none⟩) 0 0) 0 [] rfl H4.out ⟨b, off, sp⟩ 0 cap [] rfl rfl (by simp) (by simp) ?c3 ?c4 ?c5 ?_)
  case c3 => unfold maxLen; omega
  case c4 => omega
  case c5 => simp
  intro v' w1 hown' hgrow _
  try simp only [Nat.zero_add, List.nil_append] at hown'
  have HO := Lib.hid hown'
  have hB : Below w.heap.size w w1 := (bel_alloc (Below.refl _ _) _).grown hgrow (by simp) (by intro k hk; simp [Value.ownBlock] at hk; omega)
  clear hown' hgrow
  go_wp2
  go_ret
  exact ⟨v', rfl, HO.out, hB⟩
theorem cloneI_nil (w : World) (c : Nat) : Calls Tryz.prog 30 #[.slice none 0 c] w (FreshI 3 .i64 [] w) := by
  have hE : ∀ (w : World) (a : Option Addr) (n c : Nat), (binOp .eql 30 (.slice a n c) (.slice none 0 0)).run Tryz.prog w = .ok (.bool a.isNone) w := fun w a n c => Lib.run_eql_slice_nil w 30 3 a n c 0 0 Tryz.underlying30
  go_enter Tryz.func30, Tryz.ntmps30
  go_wp2_with fail
  go_ret
  exact ⟨_, rfl, ⟨rfl, .inl ⟨rfl, rfl⟩⟩, Below.refl _ _⟩
theorem cloneI_ret (zs : List Int) (hb : zs.length ≤ 100000) : RetH Tryz.prog 30 [.d (.sl (zs.map (eI .i64)))] [] (.srf 0) [.row 3 1 (zs.map (eI .i64))] := by
  refine clone_ret_of ⟨_, Tryz.func30, by kernel_rfl, by kernel_rfl⟩ fun w a cap hA => ?_
  rcases hA with rfl | ⟨b, off, rfl, _, hr⟩
  · cases a with
    | none => exact cloneI_nil w cap
    | some ad => obtain ⟨b, off, sp⟩ := ad; exact cloneI_z w b off cap sp
  · exact cloneI_some zs b off cap _ w hr rfl hb
end Go.Proofs.YtnkdanobhgofbaaGreatDoor.pv
