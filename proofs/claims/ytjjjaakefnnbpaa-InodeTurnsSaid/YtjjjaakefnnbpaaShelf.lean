/- The kit's contract of strings.Repeat at this program: laid by the kit's own commands (lay-shelf, lay-plain; shelf.sh). -/
import Derived.Shelf.Strings.Repeat
import Derived.Test.YtjjjaakefnnbpaaProg
namespace Go.Proofs
open Go.Shelf
def Try.lays105_ren : Go.Shelf.Ren := ⟨fun | 105 => 138 | 212 => 188 | 99 => 189 | 165 => 190 | 166 => 191 | 170 => 192 | 169 => 193 | 263 => 213 | 264 => 214 | 206 => 215 | 240 => 216 | 241 => 217 | 276 => 228 | 277 => 229 | n => n, fun | 9 => 9 | 3 => 3 | 4 => 4 | 20 => 20 | 0 => 0 | 46 => 209 | 109 => 283 | 5 => 5 | 72 => 288 | 76 => 292 | 51 => 278 | 146 => 312 | 53 => 280 | 148 => 314 | 70 => 286 | 37 => 107 | 75 => 291 | 127 => 316 | 164 => 325 | 80 => 294 | n => n, fun | n => n⟩
theorem Try.lays105 : Go.Proofs.Lays.n105 Try.prog Try.lays105_ren := {
  mixed := by kernel_rfl
  f99 := Try.func189.trans (congrArg some (by kernel_rfl))
  f105 := Try.func138.trans (congrArg some (by kernel_rfl))
  f165 := Try.func190.trans (congrArg some (by kernel_rfl))
  f166 := Try.func191.trans (congrArg some (by kernel_rfl))
  f169 := Try.func193.trans (congrArg some (by kernel_rfl))
  f170 := Try.func192.trans (congrArg some (by kernel_rfl))
  f206 := Try.func215.trans (congrArg some (by kernel_rfl))
  f212 := Try.func188.trans (congrArg some (by kernel_rfl))
  f240 := Try.func216.trans (congrArg some (by kernel_rfl))
  f241 := Try.func217.trans (congrArg some (by kernel_rfl))
  f263 := Try.func213.trans (congrArg some (by kernel_rfl))
  f264 := Try.func214.trans (congrArg some (by kernel_rfl))
  f276 := Try.func228.trans (congrArg some (by kernel_rfl))
  f277 := Try.func229.trans (congrArg some (by kernel_rfl))
  t0 := Try.underlying0
  a0 := Try.isAgg0
  z0 := Try.sizeOf0
  v0 := Try.zeroValue0
  t3 := Try.underlying3
  a3 := Try.isAgg3
  z3 := Try.sizeOf3
  v3 := Try.zeroValue3
  t4 := Try.underlying4
  a4 := Try.isAgg4
  z4 := Try.sizeOf4
  v4 := Try.zeroValue4
  t5 := Try.underlying5
  a5 := Try.isAgg5
  z5 := Try.sizeOf5
  v5 := Try.zeroValue5
  t9 := Try.underlying9
  a9 := Try.isAgg9
  z9 := Try.sizeOf9
  v9 := Try.zeroValue9
  t20 := Try.underlying20
  a20 := Try.isAgg20
  z20 := Try.sizeOf20
  v20 := Try.zeroValue20
  t37 := Try.underlying107
  a37 := Try.isAgg107
  z37 := Try.sizeOf107
  v37 := Try.zeroValue107
  t46 := Try.underlying209
  a46 := Try.isAgg209
  z46 := Try.sizeOf209
  v46 := Try.zeroValue209
  t51 := Try.underlying278
  a51 := Try.isAgg278
  z51 := Try.sizeOf278
  v51 := Try.zeroValue278
  t53 := Try.underlying280
  a53 := Try.isAgg280
  z53 := Try.sizeOf280
  v53 := Try.zeroValue280
  t70 := Try.underlying286
  a70 := Try.isAgg286
  z70 := Try.sizeOf286
  v70 := Try.zeroValue286
  t72 := Try.underlying288
  a72 := Try.isAgg288
  z72 := Try.sizeOf288
  v72 := Try.zeroValue288
  t75 := Try.underlying291
  a75 := Try.isAgg291
  z75 := Try.sizeOf291
  v75 := Try.zeroValue291
  t76 := Try.underlying292
  a76 := Try.isAgg292
  z76 := Try.sizeOf292
  v76 := Try.zeroValue292
  t109 := Try.underlying283
  a109 := Try.isAgg283
  z109 := Try.sizeOf283
  v109 := Try.zeroValue283
  t127 := Try.underlying316
  a127 := Try.isAgg316
  z127 := Try.sizeOf316
  v127 := Try.zeroValue316
  t146 := Try.underlying312
  a146 := Try.isAgg312
  z146 := Try.sizeOf312
  v146 := Try.zeroValue312
  t148 := Try.underlying314
  a148 := Try.isAgg314
  z148 := Try.sizeOf314
  v148 := Try.zeroValue314
  t164 := Try.underlying325
  a164 := Try.isAgg325
  z164 := Try.sizeOf325
  v164 := Try.zeroValue325 }
theorem Try.Builder_Extra_105 : Builder.Extra Try.prog Try.lays105_ren := {
  sizeBuilder := by kernel_rfl
  liesBuilder := by kernel_rfl
  t5 := Try.underlying5
  a5 := Try.isAgg5
  z5 := Try.sizeOf5
  v5 := Try.zeroValue5
  infoByte := by kernel_rfl
  cellsByte := by kernel_rfl
  sizeByte := by kernel_rfl
  neB5 := by decide }
open Go.RowKit Go.Lib in
/-- THE MAIN CASE: at least two copies of a string that is not empty. (LAID: no walk: one application.) -/
theorem Try.strings_Repeat_main (s : ByteArray) (c : Nat) (w : World) (hc2 : 2 ≤ c) (hc : c ≤ 9223372036854775807) (hlen : s.size * c ≤ 140737488355328) (h0 : 0 < s.size) :
    Calls Try.prog 138 #[.string s, .int .i64 c] w fun e w' => e = .returned (.string ⟨(Lib.repeatL s.data.toList c).toArray⟩) ∧ Below w.heap.size w w' := Any.strings_Repeat_main Try.lays105 Try.Builder_Extra_105 s c w hc2 hc hlen h0
open Go.RowKit Go.Lib in
theorem Try.strings_Repeat_zero (s : ByteArray) (w : World) :
    Calls Try.prog 138 #[.string s, .int .i64 0] w fun e w' => e = .returned (.string ⟨#[]⟩) ∧ w' = w := Any.strings_Repeat_zero Try.lays105 s w
open Go.RowKit Go.Lib in
theorem Try.strings_Repeat_one (s : ByteArray) (w : World) :
    Calls Try.prog 138 #[.string s, .int .i64 1] w fun e w' => e = .returned (.string s) ∧ w' = w := Any.strings_Repeat_one Try.lays105 s w
open Go.RowKit Go.Lib in
/-- Copies of the empty string. (LAID: no walk: one application.) -/
theorem Try.strings_Repeat_empty (s : ByteArray) (c : Nat) (w : World) (hc2 : 2 ≤ c) (hc : c ≤ 9223372036854775807) (h0 : s.size = 0) :
    Calls Try.prog 138 #[.string s, .int .i64 c] w fun e w' => e = .returned (.string ⟨#[]⟩) ∧ w' = w := Any.strings_Repeat_empty Try.lays105 s c w hc2 hc h0
open Go.RowKit Go.Lib in
/-- count < 0: "It panics if count is negative". (LAID: no walk: one application.) -/
theorem Try.strings_Repeat_negative (s : ByteArray) (c : Int) (w : World) (hc : c < 0) :
    Calls Try.prog 138 #[.string s, .int .i64 c] w fun e w' => e = .panicked [{ v := repeatPanic Try.lays105_ren "strings: negative Repeat count", recovered := false }] ∧ w' = w := Any.strings_Repeat_negative Try.lays105 s c w hc
open Go.RowKit Go.Lib in
/-- len(s) * count is no int: ".. or if the result of (len(s) * count) overflows". (LAID: no walk: one application.) -/
theorem Try.strings_Repeat_overflow (s : ByteArray) (c : Nat) (w : World) (hc : c ≤ 9223372036854775807) (hs : s.size ≤ 9223372036854775807) (hbig : 9223372036854775807 < s.size * c) :
    Calls Try.prog 138 #[.string s, .int .i64 c] w fun e w' => e = .panicked [{ v := repeatPanic Try.lays105_ren "strings: Repeat output length overflow", recovered := false }] ∧ w' = w := Any.strings_Repeat_overflow Try.lays105 s c w hc hs hbig
open Go.RowKit Go.Lib in
/-- **strings.Repeat: count ≥ 0, the result within one allocation: count copies of s.** (LAID: no walk: one application.) -/
theorem Try.strings_Repeat (s : ByteArray) (c : Nat) (w : World) (hc : c ≤ 9223372036854775807) (hlen : s.size * c ≤ 140737488355328) :
    Calls Try.prog 138 #[.string s, .int .i64 c] w fun e w' => e = .returned (.string ⟨(Lib.repeatL s.data.toList c).toArray⟩) ∧ Below w.heap.size w w' := Any.strings_Repeat Try.lays105 Try.Builder_Extra_105 s c w hc hlen
end Go.Proofs
