/- The kit's contract of strings.Repeat at this program: laid by the kit's own commands (lay-shelf, lay-plain; shelf.sh). -/
import Derived.Shelf.Strings.Repeat
import Derived.Test.YtiaebagjcbkkgaaProg
namespace Go.Proofs
open Go.Shelf
def Try.lays105_ren : Go.Shelf.Ren := ⟨fun | 105 => 256 | 212 => 278 | 99 => 279 | 165 => 280 | 166 => 281 | 170 => 282 | 169 => 283 | 263 => 301 | 264 => 302 | 206 => 303 | 240 => 304 | 241 => 305 | 276 => 320 | 277 => 321 | n => n, fun | 9 => 9 | 3 => 3 | 4 => 4 | 20 => 20 | 0 => 0 | 46 => 313 | 109 => 396 | 5 => 5 | 72 => 401 | 76 => 404 | 51 => 37 | 146 => 424 | 53 => 394 | 148 => 426 | 70 => 399 | 37 => 48 | 75 => 403 | 127 => 428 | 164 => 440 | 80 => 230 | n => n, fun | n => n⟩
theorem Try.lays105 : Go.Proofs.Lays.n105 Try.prog Try.lays105_ren := {
  mixed := by kernel_rfl
  f99 := Try.func279.trans (congrArg some (by kernel_rfl))
  f105 := Try.func256.trans (congrArg some (by kernel_rfl))
  f165 := Try.func280.trans (congrArg some (by kernel_rfl))
  f166 := Try.func281.trans (congrArg some (by kernel_rfl))
  f169 := Try.func283.trans (congrArg some (by kernel_rfl))
  f170 := Try.func282.trans (congrArg some (by kernel_rfl))
  f206 := Try.func303.trans (congrArg some (by kernel_rfl))
  f212 := Try.func278.trans (congrArg some (by kernel_rfl))
  f240 := Try.func304.trans (congrArg some (by kernel_rfl))
  f241 := Try.func305.trans (congrArg some (by kernel_rfl))
  f263 := Try.func301.trans (congrArg some (by kernel_rfl))
  f264 := Try.func302.trans (congrArg some (by kernel_rfl))
  f276 := Try.func320.trans (congrArg some (by kernel_rfl))
  f277 := Try.func321.trans (congrArg some (by kernel_rfl))
  t0 := Try.underlying0
  a0 := Try.isAgg0
  z0 := Try.sizeOf0
  v0 := Try.zeroValue0
  t3 := Try.underlying3
  a3 := Try.isAgg3
  z3 := Try.sizeOf3
  v3 := Try.zeroValue3
  t4 := Try.underlying4
  a4 := Try.isAgg4
  z4 := Try.sizeOf4
  v4 := Try.zeroValue4
  t5 := Try.underlying5
  a5 := Try.isAgg5
  z5 := Try.sizeOf5
  v5 := Try.zeroValue5
  t9 := Try.underlying9
  a9 := Try.isAgg9
  z9 := Try.sizeOf9
  v9 := Try.zeroValue9
  t20 := Try.underlying20
  a20 := Try.isAgg20
  z20 := Try.sizeOf20
  v20 := Try.zeroValue20
  t37 := Try.underlying48
  a37 := Try.isAgg48
  z37 := Try.sizeOf48
  v37 := Try.zeroValue48
  t46 := Try.underlying313
  a46 := Try.isAgg313
  z46 := Try.sizeOf313
  v46 := Try.zeroValue313
  t51 := Try.underlying37
  a51 := Try.isAgg37
  z51 := Try.sizeOf37
  v51 := Try.zeroValue37
  t53 := Try.underlying394
  a53 := Try.isAgg394
  z53 := Try.sizeOf394
  v53 := Try.zeroValue394
  t70 := Try.underlying399
  a70 := Try.isAgg399
  z70 := Try.sizeOf399
  v70 := Try.zeroValue399
  t72 := Try.underlying401
  a72 := Try.isAgg401
  z72 := Try.sizeOf401
  v72 := Try.zeroValue401
  t75 := Try.underlying403
  a75 := Try.isAgg403
  z75 := Try.sizeOf403
  v75 := Try.zeroValue403
  t76 := Try.underlying404
  a76 := Try.isAgg404
  z76 := Try.sizeOf404
  v76 := Try.zeroValue404
  t109 := Try.underlying396
  a109 := Try.isAgg396
  z109 := Try.sizeOf396
  v109 := Try.zeroValue396
  t127 := Try.underlying428
  a127 := Try.isAgg428
  z127 := Try.sizeOf428
  v127 := Try.zeroValue428
  t146 := Try.underlying424
  a146 := Try.isAgg424
  z146 := Try.sizeOf424
  v146 := Try.zeroValue424
  t148 := Try.underlying426
  a148 := Try.isAgg426
  z148 := Try.sizeOf426
  v148 := Try.zeroValue426
  t164 := Try.underlying440
  a164 := Try.isAgg440
  z164 := Try.sizeOf440
  v164 := Try.zeroValue440 }
theorem Try.Builder_Extra_105 : Builder.Extra Try.prog Try.lays105_ren := {
  sizeBuilder := by kernel_rfl
  liesBuilder := by kernel_rfl
  t5 := Try.underlying5
  a5 := Try.isAgg5
  z5 := Try.sizeOf5
  v5 := Try.zeroValue5
  infoByte := by kernel_rfl
  cellsByte := by kernel_rfl
  sizeByte := by kernel_rfl
  neB5 := by decide }
open Go.RowKit Go.Lib in
/-- THE MAIN CASE: at least two copies of a string that is not empty. (LAID: no walk: one application.) -/
theorem Try.strings_Repeat_main (s : ByteArray) (c : Nat) (w : World) (hc2 : 2 ≤ c) (hc : c ≤ 9223372036854775807) (hlen : s.size * c ≤ 140737488355328) (h0 : 0 < s.size) :
    Calls Try.prog 256 #[.string s, .int .i64 c] w fun e w' => e = .returned (.string ⟨(Lib.repeatL s.data.toList c).toArray⟩) ∧ Below w.heap.size w w' := Any.strings_Repeat_main Try.lays105 Try.Builder_Extra_105 s c w hc2 hc hlen h0
open Go.RowKit Go.Lib in
theorem Try.strings_Repeat_zero (s : ByteArray) (w : World) :
    Calls Try.prog 256 #[.string s, .int .i64 0] w fun e w' => e = .returned (.string ⟨#[]⟩) ∧ w' = w := Any.strings_Repeat_zero Try.lays105 s w
open Go.RowKit Go.Lib in
theorem Try.strings_Repeat_one (s : ByteArray) (w : World) :
    Calls Try.prog 256 #[.string s, .int .i64 1] w fun e w' => e = .returned (.string s) ∧ w' = w := Any.strings_Repeat_one Try.lays105 s w
open Go.RowKit Go.Lib in
/-- Copies of the empty string. (LAID: no walk: one application.) -/
theorem Try.strings_Repeat_empty (s : ByteArray) (c : Nat) (w : World) (hc2 : 2 ≤ c) (hc : c ≤ 9223372036854775807) (h0 : s.size = 0) :
    Calls Try.prog 256 #[.string s, .int .i64 c] w fun e w' => e = .returned (.string ⟨#[]⟩) ∧ w' = w := Any.strings_Repeat_empty Try.lays105 s c w hc2 hc h0
open Go.RowKit Go.Lib in
/-- count < 0: "It panics if count is negative". (LAID: no walk: one application.) -/
theorem Try.strings_Repeat_negative (s : ByteArray) (c : Int) (w : World) (hc : c < 0) :
    Calls Try.prog 256 #[.string s, .int .i64 c] w fun e w' => e = .panicked [{ v := repeatPanic Try.lays105_ren "strings: negative Repeat count", recovered := false }] ∧ w' = w := Any.strings_Repeat_negative Try.lays105 s c w hc
open Go.RowKit Go.Lib in
/-- len(s) * count is no int: ".. or if the result of (len(s) * count) overflows". (LAID: no walk: one application.) -/
theorem Try.strings_Repeat_overflow (s : ByteArray) (c : Nat) (w : World) (hc : c ≤ 9223372036854775807) (hs : s.size ≤ 9223372036854775807) (hbig : 9223372036854775807 < s.size * c) :
    Calls Try.prog 256 #[.string s, .int .i64 c] w fun e w' => e = .panicked [{ v := repeatPanic Try.lays105_ren "strings: Repeat output length overflow", recovered := false }] ∧ w' = w := Any.strings_Repeat_overflow Try.lays105 s c w hc hs hbig
open Go.RowKit Go.Lib in
/-- **strings.Repeat: count ≥ 0, the result within one allocation: count copies of s.** (LAID: no walk: one application.) -/
theorem Try.strings_Repeat (s : ByteArray) (c : Nat) (w : World) (hc : c ≤ 9223372036854775807) (hlen : s.size * c ≤ 140737488355328) :
    Calls Try.prog 256 #[.string s, .int .i64 c] w fun e w' => e = .returned (.string ⟨(Lib.repeatL s.data.toList c).toArray⟩) ∧ Below w.heap.size w w' := Any.strings_Repeat Try.lays105 Try.Builder_Extra_105 s c w hc hlen
end Go.Proofs
