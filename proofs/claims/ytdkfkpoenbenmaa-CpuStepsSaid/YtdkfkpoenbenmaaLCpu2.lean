/- The plain law of CpuSteps, second part: memory, and reckoning. -/
import Derived.Test.YtdkfkpoenbenmaaLCpu
namespace Go.Proofs.Ytdkfkpoenbenmaa.cpuSteps
open Go.RowKit help pv
set_option linter.all false
set_option maxRecDepth 100000

theorem w32 (x : Int) : wi .u32 x = x % 4294967296 := by rw [wi, IntKind.wrap_u32]
theorem w64u (x : Int) : wi .u64 x = x % 18446744073709551616 := by simp [wi, IntKind.wrap, IntKind.bits, IntKind.signed]
theorem w8 (x : Int) : wi .u8 x = x % 256 := by simp [wi, IntKind.wrap, IntKind.bits, IntKind.signed]
theorem w16 (x : Int) : wi .u16 x = x % 65536 := by simp [wi, IntKind.wrap, IntKind.bits, IntKind.signed]
theorem ofIntN (a : Nat) (ha : a < 18446744073709551616) : (BitVec.ofInt 64 (a : Int)).toNat = a := by
  rw [BitVec.ofInt_natCast, BitVec.toNat_ofNat]; exact Nat.mod_eq_of_lt (by omega)
theorem ofInt32 (a : Nat) (ha : a < 4294967296) : (BitVec.ofInt 32 (a : Int)).toNat = a := by
  rw [BitVec.ofInt_natCast, BitVec.toNat_ofNat]; exact Nat.mod_eq_of_lt (by omega)
theorem u64_and (a b : Nat) (ha : a < 4294967296) (hb : b < 4294967296) : bits .and .u64 (a : Int) (b : Int) = ((a &&& b : Nat) : Int) := by
  have hx : a &&& b < 2 ^ 32 := Nat.and_lt_two_pow _ (by omega)
  show IntKind.u64.wrap ((BitVec.ofInt 64 (a : Int) &&& BitVec.ofInt 64 (b : Int)).toNat : Int) = _
  rw [BitVec.toNat_and, ofIntN a (by omega), ofIntN b (by omega)]
  have := w64u ((a &&& b : Nat) : Int)
  unfold wi at this
  rw [this]; omega
theorem u64_or (a b : Nat) (ha : a < 4294967296) (hb : b < 4294967296) : bits .or .u64 (a : Int) (b : Int) = ((a ||| b : Nat) : Int) := by
  have hx : a ||| b < 2 ^ 32 := Nat.or_lt_two_pow (by omega) (by omega)
  show IntKind.u64.wrap ((BitVec.ofInt 64 (a : Int) ||| BitVec.ofInt 64 (b : Int)).toNat : Int) = _
  rw [BitVec.toNat_or, ofIntN a (by omega), ofIntN b (by omega)]
  have := w64u ((a ||| b : Nat) : Int)
  unfold wi at this
  rw [this]; omega
theorem u32_xor (a b : Nat) (ha : a < 4294967296) (hb : b < 4294967296) : bits .xor .u32 (a : Int) (b : Int) = ((a ^^^ b : Nat) : Int) := by
  have hx : a ^^^ b < 2 ^ 32 := Nat.xor_lt_two_pow (by omega) (by omega)
  show IntKind.u32.wrap ((BitVec.ofInt 32 (a : Int) ^^^ BitVec.ofInt 32 (b : Int)).toNat : Int) = _
  rw [BitVec.toNat_xor, ofInt32 a ha, ofInt32 b hb, IntKind.wrap_u32]
  omega
theorem or_xor_and (a b : Nat) : (a ||| b) = (a ^^^ b) + (a &&& b) := by
  have h1 : (a ^^^ b) ||| (a &&& b) = a ||| b := by
    apply Nat.eq_of_testBit_eq
    intro i
    simp only [Nat.testBit_or, Nat.testBit_xor, Nat.testBit_and]
    cases a.testBit i <;> cases b.testBit i <;> rfl
  have h2 : (a ^^^ b) &&& (a &&& b) = 0 := by
    apply Nat.eq_of_testBit_eq
    intro i
    simp only [Nat.testBit_xor, Nat.testBit_and, Nat.zero_testBit]
    cases a.testBit i <;> cases b.testBit i <;> rfl
  have h3 := or_add_and (a ^^^ b) (a &&& b)
  rw [h1, h2] at h3
  omega
def pw : Nat → Int
  | 0 => 1 | 1 => 256 | 2 => 65536 | 3 => 16777216 | _ => 4294967296
theorem four {i : Nat} (h : i ≤ 3) : i = 0 ∨ i = 1 ∨ i = 2 ∨ i = 3 := by omega
structure RoomOk (m : S_ringref5_Room) : Prop where
  b : ∀ x ∈ m.fBytes, 0 ≤ x ∧ x ≤ 255
  l : m.fBytes.length < 4611686018427387903
def ld (m : S_ringref5_Room) (at_ want : Int) : Int × Int := ((G_ringref5_Room_Load_h 0 m at_ want).map fun x => (x.1, x.2.1)).getD (0, 0)
theorem load_is (n : Nat) {m : S_ringref5_Room} (ok : RoomOk m) (at_ want : Int) : G_ringref5_Room_Load_h n m at_ want = some ((ld m at_ want).1, (ld m at_ want).2, m) ∧ ((ld m at_ want).2 = 0 → 0 ≤ (ld m at_ want).1 ∧ (ld m at_ want).1 ≤ 255) := by
  have hl := ok.l
  have h : ∃ b e, G_ringref5_Room_Load_h 0 m at_ want = some (b, e, m) ∧ (e = 0 → 0 ≤ b ∧ b ≤ 255) := by
    unfold G_ringref5_Room_Load_h
    rw [w32, w64u, w64u]
    by_cases h1 : (at_ - m.fAt) % 4294967296 % 18446744073709551616 ≥ (m.fBytes.length : Int) % 18446744073709551616
    · rw [if_pos h1]; exact ⟨_, _, rfl, fun h => by cases h⟩
    rw [if_neg h1]
    by_cases h2 : bits .andNot .i64 want m.fMay = 0
    · rw [if_pos h2]
      have hk : 0 ≤ (at_ - m.fAt) % 4294967296 ∧ ((at_ - m.fAt) % 4294967296).toNat < m.fBytes.length := by omega
      rw [if_pos hk]
      have hx := List.getElem?_eq_getElem hk.2
      rw [hx, Option.bind_some]
      exact ⟨_, _, rfl, fun _ => ok.b _ (List.getElem_mem hk.2)⟩
    · rw [if_neg h2]; exact ⟨_, _, rfl, fun h => by cases h⟩
  obtain ⟨b, e, h1, h2⟩ := h
  have hn : G_ringref5_Room_Load_h n m at_ want = some (b, e, m) := h1
  unfold ld
  rw [h1]
  exact ⟨hn, h2⟩
def rd (m : S_ringref5_Room) (at_ want : Int) : Nat → Nat → Int → Int × Option S_api_Trap
  | 0, _, w => (w, none)
  | d + 1, i, w => if (ld m (wi .u32 (at_ + (i : Int))) want).2 = 0 then rd m at_ want d (i + 1) (w + (ld m (wi .u32 (at_ + (i : Int))) want).1 * pw i) else (0, some ⟨2, wi .u32 (at_ + (i : Int))⟩)
theorem shl_pw {i : Nat} (h : i ≤ 3) {b : Int} (h0 : 0 ≤ b) (h1 : b ≤ 255) : shlI .u32 (wi .u32 b) (wi .u32 (8 * (i : Int))) = b * pw i ∧ shlI .u32 (wi .u32 b) (wi .i64 (8 * (i : Int))) = b * pw i := by
  have e1 : wi .u32 b = b := by rw [w32]; omega
  have e2 : wi .u32 (8 * (i : Int)) = ((8 * i : Nat) : Int) := by rw [w32]; omega
  have e3 : wi .i64 (8 * (i : Int)) = ((8 * i : Nat) : Int) := by rw [wi64 (by omega) (by omega)]; omega
  rw [e1, e2, e3, shl_u32 (8 * i) (by omega)]
  rcases four h with rfl | rfl | rfl | rfl
  · refine ⟨?_, ?_⟩ <;> simp [pw] <;> omega
  · refine ⟨?_, ?_⟩ <;> simp [pw] <;> omega
  · refine ⟨?_, ?_⟩ <;> simp [pw] <;> omega
  · refine ⟨?_, ?_⟩ <;> simp [pw] <;> omega
theorem pw_le {i : Nat} {w b : Int} (h : i ≤ 3) (h0 : 0 ≤ w) (h1 : w < pw i) (h2 : 0 ≤ b) (h3 : b ≤ 255) : 0 ≤ w + b * pw i ∧ w + b * pw i < pw (i + 1) ∧ w + b * pw i < 4294967296 := by
  rcases four h with rfl | rfl | rfl | rfl <;> simp only [pw] at * <;> omega
theorem or_pw {i : Nat} {w b : Int} (h : i ≤ 3) (h0 : 0 ≤ w) (h1 : w < pw i) (h2 : 0 ≤ b) (h3 : b ≤ 255) : bits .or .u32 w (b * pw i) = w + b * pw i := by
  obtain ⟨W, rfl⟩ := Int.eq_ofNat_of_zero_le h0
  obtain ⟨B, rfl⟩ := Int.eq_ofNat_of_zero_le h2
  have key : ∀ s : Nat, s ≤ 24 → (W : Int) < ((2 ^ s : Nat) : Int) → bits .or .u32 (W : Int) ((B : Int) * ((2 ^ s : Nat) : Int)) = (W : Int) + (B : Int) * ((2 ^ s : Nat) : Int) := by
    intro s hs hw
    have hp : 2 ^ s ≤ 2 ^ 24 := Nat.pow_le_pow_right (by omega) hs
    have hbs : B * 2 ^ s ≤ 255 * 2 ^ 24 := Nat.mul_le_mul (by omega) hp
    have e : (B : Int) * ((2 ^ s : Nat) : Int) = ((B * 2 ^ s : Nat) : Int) := by simp
    rw [e, u32_or_nat _ _ (by omega) (by omega), Nat.or_comm, or_add s B W (by omega)]
    omega
  rcases four h with rfl | rfl | rfl | rfl
  · exact key 0 (by omega) h1
  · exact key 8 (by omega) h1
  · exact key 16 (by omega) h1
  · exact key 24 (by omega) h1
section
variable {n : Nat} {m : S_ringref5_Room} (ok : RoomOk m) {at_ want : Int}
include ok
theorem rd_range : ∀ (d i : Nat) (w : Int), i + d = 4 → 0 ≤ w → w < pw i → ∀ v, rd m at_ want d i w = (v, none) → 0 ≤ v ∧ v < 4294967296
  | 0, i, w, hi, h0, h1, v, h => by
    have : i = 4 := by omega
    subst this
    simp only [rd, Prod.mk.injEq, and_true] at h
    subst h
    exact ⟨h0, h1⟩
  | d + 1, i, w, hi, h0, h1, v, h => by
    rw [rd] at h
    by_cases c : (ld m (wi .u32 (at_ + (i : Int))) want).2 = 0
    · rw [if_pos c] at h
      obtain ⟨b0, b1⟩ := (load_is 0 ok _ _).2 c
      obtain ⟨p1, p2, _⟩ := pw_le (show i ≤ 3 by omega) h0 h1 b0 b1
      exact rd_range d (i + 1) _ (by omega) p1 p2 v h
    · rw [if_neg c] at h; cases h
theorem fetchL : ∀ (d i k : Nat) (w : Int), i + d = 4 → d < k → 0 ≤ w → w < pw i →
    G_cpu_fetch_h_L1 n at_ want k w (i : Int) m.fAt m.fMay m.fBytes = some (match rd m at_ want d i w with | (v, none) => .x1 v m.fAt m.fMay m.fBytes | (_, some t) => .x0 0 m.fAt m.fMay m.fBytes t)
  | 0, i, k + 1, w, hi, _, _, _ => by
    rw [G_cpu_fetch_h_L1, if_neg (by omega)]
    rfl
  | d + 1, i, k + 1, w, hi, hk, h0, h1 => by
    have hl := load_is n ok (wi .u32 (at_ + (i : Int))) want
    rw [G_cpu_fetch_h_L1, if_pos (by omega)]
    have hm : G_ringref5_Room_Load_h n ⟨m.fAt, m.fBytes, m.fMay⟩ (wi .u32 (at_ + (i : Int))) want = _ := hl.1
    rw [hm, Option.bind_some, rd]
    by_cases c : (ld m (wi .u32 (at_ + (i : Int))) want).2 = 0
    · obtain ⟨b0, b1⟩ := hl.2 c
      obtain ⟨p1, p2, _⟩ := pw_le (show i ≤ 3 by omega) h0 h1 b0 b1
      have e1 : (0 : Int) ≤ wi .u32 (8 * (i : Int)) := by rw [w32]; omega
      have e2 : wi .u32 ((i : Int) + 1) = ((i + 1 : Nat) : Int) := by rw [w32]; omega
      rw [if_pos c, if_pos c, if_pos e1, (shl_pw (by omega) b0 b1).1, or_pw (by omega) h0 h1 b0 b1, e2]
      exact fetchL d (i + 1) k _ (by omega) (by omega) p1 p2
    · rw [if_neg c, if_neg c]
theorem wordL : ∀ (d i k : Nat) (w : Int), i + d = 4 → d < k → 0 ≤ w → w < pw i →
    G_ringref5_Room_word_h_L1 n at_ want k w (i : Int) m.fAt m.fMay m.fBytes = some (match rd m at_ want d i w with | (v, none) => .x1 v m.fAt m.fMay m.fBytes | (_, some t) => .x0 0 m.fAt m.fMay m.fBytes t)
  | 0, i, k + 1, w, hi, _, _, _ => by
    rw [G_ringref5_Room_word_h_L1, if_neg (by omega)]
    rfl
  | d + 1, i, k + 1, w, hi, hk, h0, h1 => by
    have hl := load_is n ok (wi .u32 (at_ + (i : Int))) want
    have e0 : wi .u32 (i : Int) = (i : Int) := by rw [w32]; omega
    rw [G_ringref5_Room_word_h_L1, if_pos (by omega), e0]
    have hm : G_ringref5_Room_Load_h n ⟨m.fAt, m.fBytes, m.fMay⟩ (wi .u32 (at_ + (i : Int))) want = _ := hl.1
    rw [hm, Option.bind_some, rd]
    by_cases c : (ld m (wi .u32 (at_ + (i : Int))) want).2 = 0
    · obtain ⟨b0, b1⟩ := hl.2 c
      obtain ⟨p1, p2, p3⟩ := pw_le (show i ≤ 3 by omega) h0 h1 b0 b1
      have e1 : (0 : Int) ≤ wi .i64 (8 * (i : Int)) := by rw [wi64 (by omega) (by omega)]; omega
      have e2 : wi .i64 ((i : Int) + 1) = ((i + 1 : Nat) : Int) := by rw [wi64 (by omega) (by omega)]; omega
      have e3 : wi .u32 (w + (ld m (wi .u32 (at_ + (i : Int))) want).1 * pw i) = w + (ld m (wi .u32 (at_ + (i : Int))) want).1 * pw i := by rw [w32 (w + _)]; omega
      rw [if_pos c, if_pos c, if_pos e1, (shl_pw (by omega) b0 b1).2, e3, e2]
      exact wordL d (i + 1) k _ (by omega) (by omega) p1 p2
    · rw [if_neg c, if_neg c]
/-- a word that is read -/
def fw (m : S_ringref5_Room) (at_ want : Int) : Int × Option S_api_Trap := if at_ % 4 = 0 then rd m at_ want 4 0 0 else (0, some ⟨2, at_⟩)
theorem fetch (hn : 100 ≤ n) (h0 : 0 ≤ at_) : G_cpu_fetch_h n m at_ want = some (match fw m at_ want with | (v, none) => (v, ⟨0, 0⟩, m) | (_, some t) => (0, t, m)) := by
  unfold G_cpu_fetch_h fw
  rw [rem_nn h0]
  by_cases c : at_ % 4 = 0
  · rw [if_pos c, if_pos c]
    have e := fetchL (n := n) ok (at_ := at_) (want := want) 4 0 n 0 rfl (by omega) (by omega) (by decide)
    have e : G_cpu_fetch_h_L1 n at_ want n 0 0 m.fAt m.fMay m.fBytes = _ := e
    rw [e, Option.bind_some]
    rcases rd m at_ want 4 0 0 with ⟨v, _ | t⟩ <;> rfl
  · rw [if_neg c, if_neg c]
theorem word (hn : 100 ≤ n) (h0 : 0 ≤ at_) : G_ringref5_Room_word_h n m at_ want = some (match fw m at_ want with | (v, none) => (v, ⟨0, 0⟩, m) | (_, some t) => (0, t, m)) := by
  unfold G_ringref5_Room_word_h fw
  rw [rem_nn h0]
  by_cases c : at_ % 4 = 0
  · rw [if_neg (by omega), if_pos c]
    have e := wordL (n := n) ok (at_ := at_) (want := want) 4 0 n 0 rfl (by omega) (by omega) (by decide)
    have e : G_ringref5_Room_word_h_L1 n at_ want n 0 0 m.fAt m.fMay m.fBytes = _ := e
    rw [e, Option.bind_some]
    rcases rd m at_ want 4 0 0 with ⟨v, _ | t⟩ <;> rfl
  · rw [if_pos (by omega), if_neg c]
theorem fw_range {v : Int} (h : fw m at_ want = (v, none)) : 0 ≤ v ∧ v ≤ 4294967295 := by
  unfold fw at h
  split at h
  · have := rd_range ok 4 0 0 rfl (by omega) (by decide) v h
    omega
  · cases h
omit ok in
theorem rd_kind : ∀ (d i : Nat) (w v : Int) (t : S_api_Trap), rd m at_ want d i w = (v, some t) → t.fKind = 2
  | 0, i, w, v, t, h => by simp [rd] at h
  | d + 1, i, w, v, t, h => by
    rw [rd] at h
    split at h
    · exact rd_kind d _ _ v t h
    · simp only [Prod.mk.injEq, Option.some.injEq] at h
      rw [← h.2]
omit ok in
theorem fw_kind {v : Int} {t : S_api_Trap} (h : fw m at_ want = (v, some t)) : t.fKind = 2 := by
  unfold fw at h
  split at h
  · exact rd_kind _ _ _ _ _ h
  · simp only [Prod.mk.injEq, Option.some.injEq] at h
    rw [← h.2]
end
def st (m : S_ringref5_Room) (at_ b : Int) : Int × S_ringref5_Room := (G_ringref5_Room_Store_h 0 m at_ b).getD (0, m)
theorem store_is (n : Nat) {m : S_ringref5_Room} (ok : RoomOk m) (at_ : Int) {b : Int} (h0 : 0 ≤ b) (h1 : b ≤ 255) : G_ringref5_Room_Store_h n m at_ b = some (st m at_ b) ∧ RoomOk (st m at_ b).2 ∧ (st m at_ b).2.fBytes.length = m.fBytes.length := by
  have hl := ok.l
  have h : ∃ e m', G_ringref5_Room_Store_h 0 m at_ b = some (e, m') ∧ RoomOk m' ∧ m'.fBytes.length = m.fBytes.length := by
    unfold G_ringref5_Room_Store_h
    rw [w32, w64u, w64u]
    by_cases c1 : (at_ - m.fAt) % 4294967296 % 18446744073709551616 ≥ (m.fBytes.length : Int) % 18446744073709551616
    · rw [if_pos c1]; exact ⟨_, _, rfl, ok, rfl⟩
    rw [if_neg c1]
    by_cases c2 : bits .and .i64 m.fMay 2 = 0
    · rw [if_pos c2]; exact ⟨_, _, rfl, ok, rfl⟩
    · rw [if_neg c2]
      have hk : 0 ≤ (at_ - m.fAt) % 4294967296 ∧ ((at_ - m.fAt) % 4294967296).toNat < m.fBytes.length := by omega
      rw [if_pos hk]
      have hx := List.getElem?_eq_getElem hk.2
      rw [hx, Option.bind_some]
      refine ⟨_, _, rfl, ⟨fun x hx => ?_, by simp only [List.length_set]; exact hl⟩, by simp only [List.length_set]⟩
      rcases List.mem_or_eq_of_mem_set hx with hx | rfl
      · exact ok.b x hx
      · exact ⟨h0, h1⟩
  obtain ⟨e, m', g1, g2, g3⟩ := h
  have hn : G_ringref5_Room_Store_h n m at_ b = some (e, m') := g1
  unfold st
  rw [g1]
  exact ⟨hn, g2, g3⟩
def wr (at_ w : Int) : Nat → Nat → S_ringref5_Room → Option S_api_Trap × S_ringref5_Room
  | 0, _, m => (none, m)
  | d + 1, i, m => if (st m (wi .u32 (at_ + (i : Int))) (w / pw i % 256)).1 = 0 then wr at_ w d (i + 1) (st m (wi .u32 (at_ + (i : Int))) (w / pw i % 256)).2 else (some ⟨2, wi .u32 (at_ + (i : Int))⟩, (st m (wi .u32 (at_ + (i : Int))) (w / pw i % 256)).2)
theorem wr_ok (at_ w : Int) : ∀ (d i : Nat) (m : S_ringref5_Room), RoomOk m → RoomOk (wr at_ w d i m).2 ∧ (wr at_ w d i m).2.fBytes.length = m.fBytes.length
  | 0, i, m, ok => ⟨ok, rfl⟩
  | d + 1, i, m, ok => by
    have hs := store_is 0 ok (wi .u32 (at_ + (i : Int))) (b := w / pw i % 256) (by omega) (by omega)
    rw [wr]
    split
    · obtain ⟨h1, h2⟩ := wr_ok at_ w d (i + 1) _ hs.2.1
      exact ⟨h1, by rw [h2, hs.2.2]⟩
    · exact ⟨hs.2.1, hs.2.2⟩
theorem wr_kind (at_ w : Int) : ∀ (d i : Nat) (m : S_ringref5_Room) (t : S_api_Trap), (wr at_ w d i m).1 = some t → t.fKind = 2
  | 0, i, m, t, h => by simp [wr] at h
  | d + 1, i, m, t, h => by
    rw [wr] at h
    split at h
    · exact wr_kind at_ w d (i + 1) _ t h
    · simp only [Option.some.injEq] at h
      rw [← h]
theorem byte_pw {i : Nat} (h : i ≤ 3) {w : Int} (h0 : 0 ≤ w) : wi .u8 (shrI .u32 w (wi .u32 (8 * (i : Int)))) = w / pw i % 256 := by
  have e2 : wi .u32 (8 * (i : Int)) = ((8 * i : Nat) : Int) := by rw [w32]; omega
  rw [e2, shr_u32 (8 * i) (by omega), w8]
  rcases four h with rfl | rfl | rfl | rfl <;> simp [pw]
theorem div_pw {i : Nat} (h : i ≤ 3) {w : Int} : w / pw i / 256 = w / pw (i + 1) := by
  rcases four h with rfl | rfl | rfl | rfl <;> simp only [pw] <;> omega
section
variable {n : Nat} {at_ w : Int} (h0 : 0 ≤ w) (h1 : w ≤ 4294967295)
include h0 h1
omit h1 in
theorem putL : ∀ (d i k : Nat) (m : S_ringref5_Room), RoomOk m → i + d = 4 → d < k →
    G_cpu_put_h_L1 n at_ w k (i : Int) m.fAt m.fMay m.fBytes = some (match wr at_ w d i m with | (none, m') => .x1 m'.fAt m'.fMay m'.fBytes | (some t, m') => .x0 m'.fAt m'.fMay m'.fBytes t)
  | 0, i, k + 1, m, ok, hi, _ => by
    rw [G_cpu_put_h_L1, if_neg (by omega)]
    rfl
  | d + 1, i, k + 1, m, ok, hi, hk => by
    have hs := store_is n ok (wi .u32 (at_ + (i : Int))) (b := w / pw i % 256) (by omega) (by omega)
    have hm : G_ringref5_Room_Store_h n ⟨m.fAt, m.fBytes, m.fMay⟩ (wi .u32 (at_ + (i : Int))) (w / pw i % 256) = _ := hs.1
    have e1 : (0 : Int) ≤ wi .u32 (8 * (i : Int)) := by rw [w32]; omega
    have e2 : wi .u32 ((i : Int) + 1) = ((i + 1 : Nat) : Int) := by rw [w32]; omega
    rw [G_cpu_put_h_L1, if_pos (by omega), if_pos e1, byte_pw (by omega) h0, hm, Option.bind_some, wr, e2]
    by_cases c : (st m (wi .u32 (at_ + (i : Int))) (w / pw i % 256)).1 = 0
    · rw [if_pos c, if_pos c]
      exact putL d (i + 1) k _ hs.2.1 (by omega) (by omega)
    · rw [if_neg c, if_neg c]
theorem layL : ∀ (d i k : Nat) (m : S_ringref5_Room), RoomOk m → i + d = 4 → d < k →
    G_ringref5_Room_lay_h_L1 n k (wi .u32 (at_ + (i : Int))) (w / pw i) (i : Int) m.fAt m.fMay m.fBytes = some (match wr at_ w d i m with | (none, m') => .x1 m'.fAt m'.fMay m'.fBytes | (some t, m') => .x0 m'.fAt m'.fMay m'.fBytes t)
  | 0, i, k + 1, m, ok, hi, _ => by
    rw [G_ringref5_Room_lay_h_L1, if_neg (by omega)]
    rfl
  | d + 1, i, k + 1, m, ok, hi, hk => by
    have hs := store_is n ok (wi .u32 (at_ + (i : Int))) (b := w / pw i % 256) (by omega) (by omega)
    have hm : G_ringref5_Room_Store_h n ⟨m.fAt, m.fBytes, m.fMay⟩ (wi .u32 (at_ + (i : Int))) (w / pw i % 256) = _ := hs.1
    have hwp : 0 ≤ w / pw i ∧ w / pw i ≤ 4294967295 := by
      rcases four (show i ≤ 3 by omega) with rfl | rfl | rfl | rfl <;> simp only [pw] <;> omega
    have e1 : wi .u8 (remI (w / pw i) 256) = w / pw i % 256 := by rw [rem_nn hwp.1, w8]; omega
    have e2 : wi .i64 ((i : Int) + 1) = ((i + 1 : Nat) : Int) := by rw [wi64 (by omega) (by omega)]; omega
    have e3 : wi .u32 (wi .u32 (at_ + (i : Int)) + 1) = wi .u32 (at_ + ((i + 1 : Nat) : Int)) := by rw [w32, w32, w32]; omega
    have e4 : quoI .u32 (w / pw i) 256 = w / pw (i + 1) := by
      rw [← div_pw (show i ≤ 3 by omega)]
      have : (w / pw i).tdiv 256 = w / pw i / 256 := Int.tdiv_eq_ediv_of_nonneg hwp.1
      unfold quoI
      rw [this]
      have := w32 (w / pw i / 256)
      unfold wi at this
      rw [this]; omega
    rw [G_ringref5_Room_lay_h_L1, if_pos (by omega), e1, hm, Option.bind_some, wr, e2, e3, e4]
    by_cases c : (st m (wi .u32 (at_ + (i : Int))) (w / pw i % 256)).1 = 0
    · rw [if_pos c, if_pos c]
      exact layL d (i + 1) k _ hs.2.1 (by omega) (by omega)
    · rw [if_neg c, if_neg c]
/-- a word that is written -/
def ww (m : S_ringref5_Room) (at_ w : Int) : Option S_api_Trap × S_ringref5_Room := if at_ % 4 = 0 then wr at_ w 4 0 m else (some ⟨2, at_⟩, m)
omit h1 in
theorem put {m : S_ringref5_Room} (ok : RoomOk m) (hn : 100 ≤ n) (ha : 0 ≤ at_) : G_cpu_put_h n m at_ w = some (match ww m at_ w with | (none, m') => (⟨0, 0⟩, m') | (some t, m') => (t, m')) := by
  unfold G_cpu_put_h ww
  rw [rem_nn ha]
  by_cases c : at_ % 4 = 0
  · rw [if_pos c, if_pos c]
    have e := putL (n := n) (at_ := at_) h0 4 0 n m ok rfl (by omega)
    have e : G_cpu_put_h_L1 n at_ w n 0 m.fAt m.fMay m.fBytes = _ := e
    rw [e, Option.bind_some]
    rcases wr at_ w 4 0 m with ⟨_ | t, m'⟩ <;> rfl
  · rw [if_neg c, if_neg c]
theorem lay {m : S_ringref5_Room} (ok : RoomOk m) (hn : 100 ≤ n) (ha : 0 ≤ at_) (ha2 : at_ ≤ 4294967295) : G_ringref5_Room_lay_h n m at_ w = some (match ww m at_ w with | (none, m') => (⟨0, 0⟩, m') | (some t, m') => (t, m')) := by
  unfold G_ringref5_Room_lay_h ww
  rw [rem_nn ha]
  by_cases c : at_ % 4 = 0
  · rw [if_neg (by omega), if_pos c]
    have e := layL (n := n) (at_ := at_) h0 h1 4 0 n m ok rfl (by omega)
    have ea : wi .u32 (at_ + ((0 : Nat) : Int)) = at_ := by rw [w32]; omega
    have ew : w / pw 0 = w := by simp [pw]
    rw [ea, ew] at e
    have e : G_ringref5_Room_lay_h_L1 n n at_ w 0 m.fAt m.fMay m.fBytes = _ := e
    rw [e, Option.bind_some]
    rcases wr at_ w 4 0 m with ⟨_ | t, m'⟩ <;> rfl
  · rw [if_pos (by omega), if_neg c]
end
theorem ww_ok {m : S_ringref5_Room} (ok : RoomOk m) (at_ w : Int) : RoomOk (ww m at_ w).2 ∧ (ww m at_ w).2.fBytes.length = m.fBytes.length := by
  unfold ww
  split
  · exact wr_ok _ _ _ _ _ ok
  · exact ⟨ok, rfl⟩
theorem ww_kind {m : S_ringref5_Room} {at_ w : Int} {t : S_api_Trap} (h : (ww m at_ w).1 = some t) : t.fKind = 2 := by
  unfold ww at h
  split at h
  · exact wr_kind _ _ _ _ _ _ h
  · simp only [Option.some.injEq] at h
    rw [← h]
end Go.Proofs.Ytdkfkpoenbenmaa.cpuSteps
