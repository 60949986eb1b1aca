/- CodeSays: the plain law. -/
import Derived.Test.YtkeikccopkjgiaaDoorLCode
namespace Go.Proofs.YtkeikccopkjgiaaDoor.codeSays
open Go.RowKit help pv
set_option linter.all false
set_option maxRecDepth 100000

theorem and_15 (x : Int) (h0 : 0 ≤ x) (h1 : x ≤ 4294967295) : bits .and .u32 x 15 = x % 16 := by
  obtain ⟨X, rfl⟩ := Int.eq_ofNat_of_zero_le h0
  rw [show (15 : Int) = ((15 : Nat) : Int) from rfl, u32_and_nat _ _ (by omega) (by omega), show (15 : Nat) = 2 ^ 4 - 1 from rfl, Nat.and_two_pow_sub_one_eq_mod]
  simp
def sg (w : Int) : Int := if w % 65536 > 32767 then w % 65536 - 65536 else w % 65536
def ins (w : Int) : S_api_Ins := ⟨w / 16777216, w / 1048576 % 16, w / 65536 % 16, sg w⟩
def dec (w : Int) : S_api_Ins × Int := if (enc (ins w)).2 = 0 then (ins w, 0) else (⟨0, 0, 0, 0⟩, 3)
theorem enc_ins {w : Int} (h0 : 0 ≤ w) (h1 : w ≤ 4294967295) (h : (enc (ins w)).2 = 0) : (enc (ins w)).1 = w := by
  unfold enc at h ⊢
  split at h
  · cases h
  · rename_i c1
    rw [if_neg c1]
    split at h
    · cases h
    · rename_i c2
      rw [if_neg c2]
      split at h
      · cases h
      · rename_i c3
        rw [if_neg c3]
        unfold val ins sg
        simp only
        split <;> omega
theorem dec_code (n : Nat) {w : Int} (h0 : 0 ≤ w) (h1 : w ≤ 4294967295) : G_code_Decode n w = some (dec w) := by
  unfold G_code_Decode
  have s24 : shrI .u32 w 24 = w / 16777216 := by
    have := shr_u32 (a := w) 24 (by omega)
    rw [show ((24 : Nat) : Int) = 24 from rfl] at this
    rw [this]; omega
  have s20 : shrI .u32 w 20 = w / 1048576 := by
    have := shr_u32 (a := w) 20 (by omega)
    rw [show ((20 : Nat) : Int) = 20 from rfl] at this
    rw [this]; omega
  have s16 : shrI .u32 w 16 = w / 65536 := by
    have := shr_u32 (a := w) 16 (by omega)
    rw [show ((16 : Nat) : Int) = 16 from rfl] at this
    rw [this]; omega
  have c : wi .i64 (wi .i16 w) = sg w := by
    have : wi .i16 w = sg w := by unfold sg; simp only [wi, IntKind.wrap, IntKind.bits, IntKind.signed]; simp; split <;> omega
    rw [this]; unfold sg; split <;> exact wi64 (by omega) (by omega)
  rw [s24, s20, s16, c, and_15 _ (by omega) (by omega), and_15 _ (by omega) (by omega), wi64 (x := w / 16777216) (by omega) (by omega), wi64 (x := w / 1048576 % 16) (by omega) (by omega), wi64 (x := w / 65536 % 16) (by omega) (by omega)]
  show (G_code_Encode n (ins w)).bind _ = _
  rw [code_any, Option.bind_some]
  unfold dec
  by_cases h : (enc (ins w)).2 = 0
  · rw [if_pos h, if_pos h, if_pos (enc_ins h0 h1 h)]; rfl
  · rw [if_neg h, if_neg h]
theorem dec_ref (n : Nat) {w : Int} (h0 : 0 ≤ w) (h1 : w ≤ 4294967295) : G_ringref5_DecodeOf n w = some (dec w) := by
  unfold G_ringref5_DecodeOf G_ringref5_DecodeOf_C1
  have q1 : quoI .u32 w 16777216 = w / 16777216 := by unfold quoI; rw [Int.tdiv_eq_ediv_of_nonneg h0]; exact wu32 (by omega) (by omega)
  have q2 : quoI .u32 w 1048576 = w / 1048576 := by unfold quoI; rw [Int.tdiv_eq_ediv_of_nonneg h0]; exact wu32 (by omega) (by omega)
  have q3 : quoI .u32 w 65536 = w / 65536 := by unfold quoI; rw [Int.tdiv_eq_ediv_of_nonneg h0]; exact wu32 (by omega) (by omega)
  rw [q1, q2, q3, rem_nn (a := w) h0, rem_nn (by omega), rem_nn (by omega), wi64 (x := w % 65536) (by omega) (by omega), wi64 (x := w / 16777216) (by omega) (by omega), wi64 (x := w / 1048576 % 16) (by omega) (by omega), wi64 (x := w / 65536 % 16) (by omega) (by omega), wi64 (x := w % 65536 - 65536) (by omega) (by omega)]
  have key : (G_ringref5_EncodeOf n (ins w)).bind (fun (r : Int × Int) => if r.2 = 0 then some (ins w, 0) else some (S_api_Ins.mk 0 0 0 0, 3)) = some (dec w) := by
    rw [ref_any, Option.bind_some]
    unfold dec
    by_cases h : (enc (ins w)).2 = 0
    · rw [if_pos h, if_pos h]
    · rw [if_neg h, if_neg h]
  by_cases h : w % 65536 > 32767
  · rw [if_pos h, Option.bind_some]
    have e : ins w = ⟨w / 16777216, w / 1048576 % 16, w / 65536 % 16, w % 65536 - 65536⟩ := by unfold ins sg; rw [if_pos h]
    rw [e] at key
    exact key
  · rw [if_neg h, Option.bind_some]
    have e : ins w = ⟨w / 16777216, w / 1048576 % 16, w / 65536 % 16, w % 65536⟩ := by unfold ins sg; rw [if_neg h]
    rw [e] at key
    exact key
theorem tail (n : Nat) (i : S_api_Ins) {w : Int} (h0 : 0 ≤ w) (h1 : w ≤ 4294967295) : G_ringlaw5_CodeSays_J1 n w i (dec w).1 (enc i).1 (enc i).2 (dec w).2 = some true := by
  unfold G_ringlaw5_CodeSays_J1
  rw [ref_any, Option.bind_some, dec_ref n h0 h1, Option.bind_some]
  unfold G_ringlaw5_CodeSays_C3
  rw [if_pos rfl, if_pos rfl]
  have : eqRes .eql (eqS_api_Ins (dec w).1 (dec w).1) = true := by simp [eqRes, eqS_api_Ins]
  rw [if_pos this]
  simp
theorem first (n : Nat) (op w : Int) (name : ByteArray) (a b c : ByteArray × Int) (x y : Int × Int) (z : S_api_Ins × Int) (i : S_api_Ins) :
    G_ringlaw5_CodeSays_C1 n op w a (match seek name 26 0 with | some j => (((j + 1 : Nat) : Int), 0) | none => (0, 4)) x y z (match seek name 26 0 with | some j => (j : Int) | none => -1) i = some (.x0 false) := by
  unfold G_ringlaw5_CodeSays_C1
  cases h : seek name 26 0 with
  | none => simp
  | some j =>
    have := seek_lt name 26 0 j h
    simp only
    rw [if_neg (by omega), if_pos (by omega), if_pos trivial, wi_succ (by omega)]
    simp
theorem law (op : Int) (name : ByteArray) (i : S_api_Ins) (w : Int) (h0 : 0 ≤ w) (h1 : w ≤ 4294967295) : G_ringlaw5_CodeSays FN op name i w = some true := by
  have hn : G_code_Number FN name = some (match seek name 26 0 with | some j => (((j + 1 : Nat) : Int), 0) | none => (0, 4)) := by rw [number_any]; cases seek name 26 0 <;> rfl
  have hx : G_slices_Index_string_string FN words name = some (match seek name 26 0 with | some j => (j : Int) | none => -1) := by rw [index_any]; cases seek name 26 0 <;> rfl
  unfold G_ringlaw5_CodeSays
  by_cases h : op < 1 ∨ 26 < op
  · rw [name_out FN h, Option.bind_some, hn, Option.bind_some, fields_out FN h, Option.bind_some, code_any, Option.bind_some, dec_code FN h0 h1, Option.bind_some, words_eq, Option.bind_some, hx, Option.bind_some, first FN op w name _ (⟨#[]⟩, 0) (⟨#[]⟩, 0), Option.bind_some]
    simp only [Bool.false_eq_true, if_false]
    by_cases h' : op < 1
    · rw [if_pos h']
      unfold G_ringlaw5_CodeSays_C2
      simp [tail FN i h0 h1]
    · rw [if_neg h']
      unfold G_ringlaw5_CodeSays_C6
      rw [if_pos (by omega)]
      unfold G_ringlaw5_CodeSays_C4
      simp [tail FN i h0 h1]
  · obtain ⟨o, ho, rfl⟩ := op_nat h
    rw [name_in FN ho, Option.bind_some, hn, Option.bind_some, fields_in FN ho, Option.bind_some, code_any, Option.bind_some, dec_code FN h0 h1, Option.bind_some, words_eq, Option.bind_some, hx, Option.bind_some, first FN _ w name _ (⟨#[]⟩, 0) (⟨#[]⟩, 0), Option.bind_some]
    simp only [Bool.false_eq_true, if_false]
    rw [if_neg (by omega)]
    unfold G_ringlaw5_CodeSays_C6
    rw [if_neg (by omega)]
    unfold G_ringlaw5_CodeSays_C5
    have hi : o < words.length := by rw [words_len]; exact ho
    have hg : words[o]? = some (words.getD o ⟨#[]⟩) := by rw [List.getD_eq_getElem?_getD, List.getElem?_eq_getElem hi]; rfl
    have hs : wi .i64 (((o + 1 : Nat) : Int) - 1) = (o : Int) := by rw [wi64 (by omega) (by omega)]; omega
    rw [if_pos rfl, words_eq, Option.bind_some, hs, getI_nat, hg, Option.bind_some]
    have hb : G_ringref5_Bits FN ((o + 1 : Nat) : Int) = some (bitsL.getD o 0) := by rw [b_n]; exact b_fin o ho
    rw [if_neg (by simp), if_pos (show (bitsL.getD o 0, (0 : Int)).2 = 0 from rfl), hb, Option.bind_some]
    simp [tail FN i h0 h1]
end Go.Proofs.YtkeikccopkjgiaaDoor.codeSays
