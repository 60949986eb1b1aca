/- The plain law of CpuSteps, first part: a word as an instruction (as for CodeSays). -/
import Derived.Test.YtdkfkpoenbenmaaGuCpuSteps
import Derived.Test.YtdkfkpoenbenmaaMath
import Derived.Test.YtdkfkpoenbenmaaLib
namespace Go.Proofs.Ytdkfkpoenbenmaa.cpuSteps
open Go.RowKit help pv
set_option linter.all false

def words : List ByteArray := [⟨#[104, 97, 108, 116]⟩, ⟨#[115, 101, 116]⟩, ⟨#[104, 105, 103, 104]⟩, ⟨#[109, 111, 118, 101]⟩, ⟨#[97, 100, 100]⟩, ⟨#[115, 117, 98]⟩, ⟨#[109, 117, 108]⟩, ⟨#[100, 105, 118]⟩, ⟨#[97, 110, 100]⟩, ⟨#[111, 114]⟩, ⟨#[120, 111, 114]⟩, ⟨#[108, 101, 102, 116]⟩, ⟨#[114, 105, 103, 104, 116]⟩, ⟨#[112, 108, 117, 115]⟩, ⟨#[108, 111, 97, 100]⟩, ⟨#[108, 111, 97, 100, 98]⟩, ⟨#[115, 116, 111, 114, 101]⟩, ⟨#[115, 116, 111, 114, 101, 98]⟩, ⟨#[106, 117, 109, 112]⟩, ⟨#[122, 101, 114, 111]⟩, ⟨#[108, 101, 115, 115]⟩, ⟨#[99, 97, 108, 108]⟩, ⟨#[98, 97, 99, 107]⟩, ⟨#[115, 121, 115]⟩, ⟨#[115, 119, 97, 112]⟩, ⟨#[104, 111, 109, 101]⟩]
def bitsL : List Int := [0, 5, 5, 3, 3, 3, 3, 3, 3, 3, 3, 3, 3, 7, 7, 7, 7, 7, 4, 5, 7, 5, 1, 0, 7, 1]
theorem row_n (n : Nat) (op : Int) : G_code_row n op = G_code_row 0 op := rfl
theorem row_fin : ∀ o, o < 26 → G_code_row 0 ((o + 1 : Nat) : Int) = some (words.getD o ⟨#[]⟩, bitsL.getD o 0) := by decide +kernel
theorem row_out (n : Nat) (op : Int) (h : op < 1 ∨ 26 < op) : G_code_row n op = some (⟨#[]⟩, 0) := by
  unfold G_code_row G_code_later
  repeat rw [if_neg (by omega)]
  rfl
theorem ne_fin : ∀ o, o < 26 → (words.getD o ⟨#[]⟩).data.toList ≠ [] := by decide +kernel
theorem op_nat {op : Int} (h : ¬ (op < 1 ∨ 26 < op)) : ∃ o : Nat, o < 26 ∧ op = ((o + 1 : Nat) : Int) := ⟨(op - 1).toNat, by omega, by omega⟩
theorem row_in (n : Nat) {o : Nat} (h : o < 26) : G_code_row n ((o + 1 : Nat) : Int) = some (words.getD o ⟨#[]⟩, bitsL.getD o 0) := by rw [row_n]; exact row_fin o h
theorem not_empty {o : Nat} (h : o < 26) : ((words.getD o ⟨#[]⟩).toList == (ByteArray.mk #[]).toList) = false := by
  rw [ByteArray.toList_eq, ByteArray.toList_eq]
  have := ne_fin o h
  simpa using this
theorem f_n (n : Nat) (op : Int) : G_ringref5_fieldsOf n op = G_ringref5_fieldsOf 0 op := rfl
def fb (b : Int) : Bool × Bool × Bool := (bits .and .i64 b 1 != 0, bits .and .i64 b 2 != 0, bits .and .i64 b 4 != 0)
theorem f_fin : ∀ o, o < 26 → G_ringref5_fieldsOf 0 ((o + 1 : Nat) : Int) = some (fb (bitsL.getD o 0)) := by decide +kernel
theorem f_in (n : Nat) {o : Nat} (h : o < 26) : G_ringref5_fieldsOf n ((o + 1 : Nat) : Int) = some (fb (bitsL.getD o 0)) := by rw [f_n]; exact f_fin o h
def bad1 (i : S_api_Ins) : Bool := decide (i.fA < 0) || decide (i.fA > 7) || decide (i.fB < 0) || decide (i.fB > 7) || decide (i.fC < -32768) || decide (i.fC > 32767)
def bad2 (f : Bool × Bool × Bool) (i : S_api_Ins) : Bool := (!f.1 && i.fA != 0) || (!f.2.1 && i.fB != 0) || (!f.2.2 && i.fC != 0)
theorem ec1 (n : Nat) (r : ByteArray × Int) (i : S_api_Ins) : G_code_Encode_C1 n r i = some (.x0 (bad1 i)) := by
  unfold G_code_Encode_C1 bad1
  have e1 : (i.fA ≥ 8) = (i.fA > 7) := by apply propext; omega
  have e2 : (i.fB ≥ 8) = (i.fB > 7) := by apply propext; omega
  simp only [e1, e2]
  by_cases h1 : i.fA < 0
  · simp [h1]
  by_cases h2 : i.fA > 7
  · simp [h1, h2]
  by_cases h3 : i.fB < 0
  · simp [h1, h2, h3]
  by_cases h4 : i.fB > 7
  · simp [h1, h2, h3, h4]
  by_cases h5 : i.fC < -32768 <;> simp [h1, h2, h3, h4, h5]
theorem rc1 (n : Nat) (i : S_api_Ins) : G_ringref5_EncodeOf_C1 n i = some (.x0 (bad1 i)) := by
  unfold G_ringref5_EncodeOf_C1 bad1
  by_cases h1 : i.fA < 0
  · simp [h1]
  by_cases h2 : i.fA > 7
  · simp [h1, h2]
  by_cases h3 : i.fB < 0
  · simp [h1, h2, h3]
  by_cases h4 : i.fB > 7
  · simp [h1, h2, h3, h4]
  by_cases h5 : i.fC < -32768 <;> simp [h1, h2, h3, h4, h5]
theorem ec2 (n : Nat) (r : ByteArray × Int) (i : S_api_Ins) : G_code_Encode_C2 n r i = some (.x0 (bad2 (fb r.2) i)) := by
  unfold G_code_Encode_C2 bad2 fb
  by_cases h1 : bits .and .i64 r.2 1 = 0 <;> by_cases h2 : bits .and .i64 r.2 2 = 0 <;> by_cases h3 : bits .and .i64 r.2 4 = 0 <;> by_cases h4 : i.fA = 0 <;> by_cases h5 : i.fB = 0 <;> simp [h1, h2, h3, h4, h5]
theorem rc2 (n : Nat) (f : Bool × Bool × Bool) (i : S_api_Ins) : G_ringref5_EncodeOf_C2 n f i = some (.x0 (bad2 f i)) := by
  obtain ⟨a, b, c⟩ := f
  unfold G_ringref5_EncodeOf_C2 bad2
  cases a <;> cases b <;> cases c <;> by_cases h4 : i.fA = 0 <;> by_cases h5 : i.fB = 0 <;> simp [h4, h5]
def val (i : S_api_Ins) : Int := i.fOp * 16777216 + i.fA * 1048576 + i.fB * 65536 + (i.fC + 65536) % 65536
theorem bad1_ok {i : S_api_Ins} (h : bad1 i = false) : 0 ≤ i.fA ∧ i.fA ≤ 7 ∧ 0 ≤ i.fB ∧ i.fB ≤ 7 ∧ -32768 ≤ i.fC ∧ i.fC ≤ 32767 := by
  simp [bad1] at h; omega
theorem or_add (i a b : Nat) (h : b < 2 ^ i) : a * 2 ^ i ||| b = a * 2 ^ i + b := by rw [← Nat.shiftLeft_eq]; exact (Nat.shiftLeft_add_eq_or_of_lt h a).symm
theorem or24 (a b : Nat) (h : b < 16777216) : a * 16777216 ||| b = a * 16777216 + b := or_add 24 a b h
theorem or20 (a b : Nat) (h : b < 1048576) : a * 1048576 ||| b = a * 1048576 + b := or_add 20 a b h
theorem or16 (a b : Nat) (h : b < 65536) : a * 65536 ||| b = a * 65536 + b := or_add 16 a b h
theorem or_1 {o A : Nat} (hA : A < 16) : o * 16777216 ||| A * 1048576 = (o * 16 + A) * 1048576 := by rw [or24 _ _ (by omega)]; omega
theorem or_2 {o A B : Nat} (hA : A < 16) (hB : B < 16) : (o * 16777216 ||| A * 1048576) ||| B * 65536 = (o * 256 + A * 16 + B) * 65536 := by rw [or_1 hA, or20 _ _ (by omega)]; omega
theorem or_val {o A B C : Nat} (hA : A < 16) (hB : B < 16) (hC : C < 65536) : ((o * 16777216 ||| A * 1048576) ||| B * 65536) ||| C = o * 16777216 + A * 1048576 + B * 65536 + C := by rw [or_2 hA hB, or16 _ _ hC]; omega
theorem code_val {o : Nat} (h : o < 26) (A B C : Int) (hb : bad1 ⟨((o + 1 : Nat) : Int), A, B, C⟩ = false) :
    bits .or .u32 (bits .or .u32 (bits .or .u32 (shlI .u32 (wi .u32 ((o + 1 : Nat) : Int)) 24) (shlI .u32 (wi .u32 A) 20)) (shlI .u32 (wi .u32 B) 16)) (wi .u32 (wi .u16 C)) = val ⟨((o + 1 : Nat) : Int), A, B, C⟩ := by
  obtain ⟨a1, a2, b1, b2, c1, c2⟩ := bad1_ok hb
  simp only at a1 a2 b1 b2 c1 c2
  obtain ⟨A, rfl⟩ := Int.eq_ofNat_of_zero_le a1
  obtain ⟨B, rfl⟩ := Int.eq_ofNat_of_zero_le b1
  obtain ⟨D, hD⟩ := Int.eq_ofNat_of_zero_le (show 0 ≤ (C + 65536) % 65536 by omega)
  have hC : wi .u32 (wi .u16 C) = (D : Int) := by
    have : wi .u16 C = (D : Int) := by rw [wi, IntKind.wrap_u16]; omega
    rw [this, wu32 (by omega) (by omega)]
  have s1 : shlI .u32 (wi .u32 ((o + 1 : Nat) : Int)) 24 = (((o + 1) * 16777216 : Nat) : Int) := by
    rw [wu32 (by omega) (by omega)]
    have := shl_u32 (a := ((o + 1 : Nat) : Int)) 24 (by omega)
    rw [show ((24 : Nat) : Int) = 24 from rfl] at this
    rw [this]; omega
  have s2 : shlI .u32 (wi .u32 (A : Int)) 20 = ((A * 1048576 : Nat) : Int) := by
    rw [wu32 (by omega) (by omega)]
    have := shl_u32 (a := (A : Int)) 20 (by omega)
    rw [show ((20 : Nat) : Int) = 20 from rfl] at this
    rw [this]; omega
  have s3 : shlI .u32 (wi .u32 (B : Int)) 16 = ((B * 65536 : Nat) : Int) := by
    rw [wu32 (by omega) (by omega)]
    have := shl_u32 (a := (B : Int)) 16 (by omega)
    rw [show ((16 : Nat) : Int) = 16 from rfl] at this
    rw [this]; omega
  have e1 := or_1 (o := o + 1) (A := A) (by omega)
  have e2 := or_2 (o := o + 1) (A := A) (B := B) (by omega) (by omega)
  rw [s1, s2, s3, hC, u32_or_nat _ _ (by omega) (by omega), u32_or_nat _ _ (by omega) (by omega), u32_or_nat _ _ (by omega) (by omega), or_val (by omega) (by omega) (by omega)]
  unfold val
  simp only
  omega
def enc (i : S_api_Ins) : Int × Int :=
  if i.fOp < 1 ∨ 26 < i.fOp then (0, 4) else if bad1 i then (0, 1) else if bad2 (fb (bitsL.getD (i.fOp - 1).toNat 0)) i then (0, 3) else (val i, 0)
theorem code_any (n : Nat) (i : S_api_Ins) : G_code_Encode n i = some (enc i) := by
  unfold G_code_Encode enc
  by_cases h : i.fOp < 1 ∨ 26 < i.fOp
  · rw [row_out n _ h, Option.bind_some, if_pos (by simp), if_pos h]
  · rw [if_neg h]
    obtain ⟨op, A, B, C⟩ := i
    obtain ⟨o, ho, rfl⟩ := op_nat h
    simp only
    rw [row_in n ho, Option.bind_some]
    simp only [not_empty ho, ec1, ec2, Option.bind_some]
    rw [if_neg (by simp), show (((o + 1 : Nat) : Int) - 1).toNat = o by omega]
    cases h1 : bad1 ⟨((o + 1 : Nat) : Int), A, B, C⟩ with
    | true => simp
    | false =>
      cases h2 : bad2 (fb (bitsL.getD o 0)) ⟨((o + 1 : Nat) : Int), A, B, C⟩ with
      | true => simp
      | false => simp only [Bool.false_eq_true, if_false]; rw [code_val ho A B C h1]
theorem ref_any (n : Nat) (i : S_api_Ins) : G_ringref5_EncodeOf n i = some (enc i) := by
  unfold G_ringref5_EncodeOf G_ringref5_EncodeOf_J1 enc
  by_cases h : i.fOp < 1 ∨ 26 < i.fOp
  · rw [if_pos h]
    by_cases h' : i.fOp < 1
    · rw [if_pos h']
    · rw [if_neg h', if_pos (by omega)]
  · rw [if_neg h, if_neg (by omega), if_neg (by omega), rc1, Option.bind_some]
    obtain ⟨op, A, B, C⟩ := i
    obtain ⟨o, ho, rfl⟩ := op_nat h
    simp only
    rw [show (((o + 1 : Nat) : Int) - 1).toNat = o by omega]
    cases h1 : bad1 ⟨((o + 1 : Nat) : Int), A, B, C⟩ with
    | true => simp
    | false =>
      rw [if_neg (by simp), f_in n ho, Option.bind_some, rc2, Option.bind_some]
      simp only [Bool.false_eq_true, if_false]
      cases h2 : bad2 (fb (bitsL.getD o 0)) ⟨((o + 1 : Nat) : Int), A, B, C⟩ with
      | true => simp
      | false =>
        obtain ⟨a1, a2, b1, b2, c1, c2⟩ := bad1_ok h1
        simp only at a1 a2 b1 b2 c1 c2
        simp only [Bool.false_eq_true, if_false]
        rw [wi64 (x := C + 65536) (by omega) (by omega), rem_nn (by omega), wi64 (x := ((o + 1 : Nat) : Int) * 16777216) (by omega) (by omega), wi64 (x := A * 1048576) (by omega) (by omega), wi64 (x := B * 65536) (by omega) (by omega),
          wi64 (x := ((o + 1 : Nat) : Int) * 16777216 + A * 1048576) (by omega) (by omega), wi64 (x := ((o + 1 : Nat) : Int) * 16777216 + A * 1048576 + B * 65536) (by omega) (by omega), wi64 (by omega) (by omega), wu32 (by omega) (by omega)]
        rfl
theorem and_15 (x : Int) (h0 : 0 ≤ x) (h1 : x ≤ 4294967295) : bits .and .u32 x 15 = x % 16 := by
  obtain ⟨X, rfl⟩ := Int.eq_ofNat_of_zero_le h0
  rw [show (15 : Int) = ((15 : Nat) : Int) from rfl, u32_and_nat _ _ (by omega) (by omega), show (15 : Nat) = 2 ^ 4 - 1 from rfl, Nat.and_two_pow_sub_one_eq_mod]
  simp
def sg (w : Int) : Int := if w % 65536 > 32767 then w % 65536 - 65536 else w % 65536
def ins (w : Int) : S_api_Ins := ⟨w / 16777216, w / 1048576 % 16, w / 65536 % 16, sg w⟩
def dec (w : Int) : S_api_Ins × Int := if (enc (ins w)).2 = 0 then (ins w, 0) else (⟨0, 0, 0, 0⟩, 3)
theorem enc_ins {w : Int} (h0 : 0 ≤ w) (h1 : w ≤ 4294967295) (h : (enc (ins w)).2 = 0) : (enc (ins w)).1 = w := by
  unfold enc at h ⊢
  split at h
  · cases h
  · rename_i c1
    rw [if_neg c1]
    split at h
    · cases h
    · rename_i c2
      rw [if_neg c2]
      split at h
      · cases h
      · rename_i c3
        rw [if_neg c3]
        unfold val ins sg
        simp only
        split <;> omega
theorem dec_code (n : Nat) {w : Int} (h0 : 0 ≤ w) (h1 : w ≤ 4294967295) : G_code_Decode n w = some (dec w) := by
  unfold G_code_Decode
  have s24 : shrI .u32 w 24 = w / 16777216 := by
    have := shr_u32 (a := w) 24 (by omega)
    rw [show ((24 : Nat) : Int) = 24 from rfl] at this
    rw [this]; omega
  have s20 : shrI .u32 w 20 = w / 1048576 := by
    have := shr_u32 (a := w) 20 (by omega)
    rw [show ((20 : Nat) : Int) = 20 from rfl] at this
    rw [this]; omega
  have s16 : shrI .u32 w 16 = w / 65536 := by
    have := shr_u32 (a := w) 16 (by omega)
    rw [show ((16 : Nat) : Int) = 16 from rfl] at this
    rw [this]; omega
  have c : wi .i64 (wi .i16 w) = sg w := by
    have : wi .i16 w = sg w := by unfold sg; simp only [wi, IntKind.wrap, IntKind.bits, IntKind.signed]; simp; split <;> omega
    rw [this]; unfold sg; split <;> exact wi64 (by omega) (by omega)
  rw [s24, s20, s16, c, and_15 _ (by omega) (by omega), and_15 _ (by omega) (by omega), wi64 (x := w / 16777216) (by omega) (by omega), wi64 (x := w / 1048576 % 16) (by omega) (by omega), wi64 (x := w / 65536 % 16) (by omega) (by omega)]
  show (G_code_Encode n (ins w)).bind _ = _
  rw [code_any, Option.bind_some]
  unfold dec
  by_cases h : (enc (ins w)).2 = 0
  · rw [if_pos h, if_pos h, if_pos (enc_ins h0 h1 h)]; rfl
  · rw [if_neg h, if_neg h]
theorem dec_ref (n : Nat) {w : Int} (h0 : 0 ≤ w) (h1 : w ≤ 4294967295) : G_ringref5_DecodeOf n w = some (dec w) := by
  unfold G_ringref5_DecodeOf G_ringref5_DecodeOf_C1
  have q1 : quoI .u32 w 16777216 = w / 16777216 := by unfold quoI; rw [Int.tdiv_eq_ediv_of_nonneg h0]; exact wu32 (by omega) (by omega)
  have q2 : quoI .u32 w 1048576 = w / 1048576 := by unfold quoI; rw [Int.tdiv_eq_ediv_of_nonneg h0]; exact wu32 (by omega) (by omega)
  have q3 : quoI .u32 w 65536 = w / 65536 := by unfold quoI; rw [Int.tdiv_eq_ediv_of_nonneg h0]; exact wu32 (by omega) (by omega)
  rw [q1, q2, q3, rem_nn (a := w) h0, rem_nn (by omega), rem_nn (by omega), wi64 (x := w % 65536) (by omega) (by omega), wi64 (x := w / 16777216) (by omega) (by omega), wi64 (x := w / 1048576 % 16) (by omega) (by omega), wi64 (x := w / 65536 % 16) (by omega) (by omega), wi64 (x := w % 65536 - 65536) (by omega) (by omega)]
  have key : (G_ringref5_EncodeOf n (ins w)).bind (fun (r : Int × Int) => if r.2 = 0 then some (ins w, 0) else some (S_api_Ins.mk 0 0 0 0, 3)) = some (dec w) := by
    rw [ref_any, Option.bind_some]
    unfold dec
    by_cases h : (enc (ins w)).2 = 0
    · rw [if_pos h, if_pos h]
    · rw [if_neg h, if_neg h]
  by_cases h : w % 65536 > 32767
  · rw [if_pos h, Option.bind_some]
    have e : ins w = ⟨w / 16777216, w / 1048576 % 16, w / 65536 % 16, w % 65536 - 65536⟩ := by unfold ins sg; rw [if_pos h]
    rw [e] at key
    exact key
  · rw [if_neg h, Option.bind_some]
    have e : ins w = ⟨w / 16777216, w / 1048576 % 16, w / 65536 % 16, w % 65536⟩ := by unfold ins sg; rw [if_neg h]
    rw [e] at key
    exact key
end Go.Proofs.Ytdkfkpoenbenmaa.cpuSteps
