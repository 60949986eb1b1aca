/- What the functions compute, as functions over plain data, with their contracts: written by gen.py. -/
import Derived.Test.YtkeikccopkjgiaaDoorProg
import Derived.Test.YtkeikccopkjgiaaDoorQr
import Derived.Test.YtkeikccopkjgiaaDoorShelf
import Derived.Test.YtkeikccopkjgiaaDoorSh
set_option maxRecDepth 100000
set_option linter.all false
namespace Go.Proofs.YtkeikccopkjgiaaDoor.pv
open Go.RowKit
def TT : List TI := [
⟨1, 0, .oth, []⟩,
⟨1, 8, .oth, [.nf]⟩,
⟨1, 8, .int .i64, [.i .i64]⟩,
⟨1, 8, .int .i64, [.i .i64]⟩,
⟨1, 1, .bool, [.b]⟩,
⟨1, 1, .int .u8, [.i .u8]⟩,
⟨1, 1, .int .u8, [.i .u8]⟩,
⟨4, 24, .st [(0, 2), (1, 3), (2, 4), (3, 6)], [.i .i64, .i .i64, .b, .i .u8]⟩,
⟨4, 24, .st [(0, 2), (1, 3), (2, 4), (3, 6)], [.i .i64, .i .i64, .b, .i .u8]⟩,
⟨1, 16, .str, [.s]⟩,
⟨1, 16, .str, [.s]⟩,
⟨1, 16, .str, [.s]⟩,
⟨1, 8, .int .u64, [.i .u64]⟩,
⟨2, 24, .st [(0, 9), (1, 12)], [.s, .i .u64]⟩,
⟨2, 24, .st [(0, 9), (1, 12)], [.s, .i .u64]⟩,
⟨1, 8, .ptr 72, [.np]⟩,
⟨1, 8, .ptr 75, [.np]⟩,
⟨1, 8, .ptr 84, [.np]⟩,
⟨1, 8, .st [(0, 17)], [.np]⟩,
⟨1, 8, .st [(0, 17)], [.np]⟩,
⟨1, 16, .oth, [.ni]⟩,
⟨1, 4, .int .i32, [.i .i32]⟩,
⟨1, 24, .sl 9, [.sl]⟩,
⟨1, 8, .int .i64, [.i .i64]⟩,
⟨1, 0, .oth, []⟩,
⟨1, 8, .oth, [.nf]⟩,
⟨1, 8, .oth, [.nf]⟩,
⟨1, 8, .oth, [.nf]⟩,
⟨4, 32, .st [(0, 3), (1, 3), (2, 3), (3, 3)], [.i .i64, .i .i64, .i .i64, .i .i64]⟩,
⟨4, 32, .st [(0, 3), (1, 3), (2, 3), (3, 3)], [.i .i64, .i .i64, .i .i64, .i .i64]⟩,
⟨1, 4, .int .u32, [.i .u32]⟩,
⟨1, 0, .oth, []⟩,
⟨1, 8, .oth, [.nf]⟩,
⟨1, 0, .oth, []⟩,
⟨1, 8, .oth, [.nf]⟩,
⟨1, 8, .oth, [.nf]⟩,
⟨1, 0, .oth, []⟩,
⟨1, 8, .oth, [.nf]⟩,
⟨1, 0, .oth, []⟩,
⟨1, 8, .oth, [.nf]⟩,
⟨1, 8, .oth, [.nf]⟩,
⟨1, 8, .oth, [.nf]⟩,
⟨1, 8, .oth, [.nf]⟩,
⟨1, 8, .oth, [.nf]⟩,
⟨1, 8, .oth, [.nf]⟩,
⟨1, 8, .oth, [.nf]⟩,
⟨1, 8, .oth, [.nf]⟩,
⟨1, 0, .oth, []⟩,
⟨1, 8, .oth, [.nf]⟩,
⟨1, 8, .int .u64, [.i .u64]⟩,
⟨1, 2, .int .u16, [.i .u16]⟩,
⟨1, 2, .int .i16, [.i .i16]⟩,
⟨1, 0, .oth, []⟩,
⟨1, 8, .oth, [.nf]⟩,
⟨1, 8, .oth, [.nf]⟩,
⟨1, 24, .sl 57, [.sl]⟩,
⟨2, 16, .st [(0, 3), (1, 3)], [.i .i64, .i .i64]⟩,
⟨2, 16, .st [(0, 3), (1, 3)], [.i .i64, .i .i64]⟩,
⟨1, 8, .oth, [.nf]⟩,
⟨1, 8, .oth, [.nf]⟩,
⟨1, 8, .oth, [.nf]⟩,
⟨1, 0, .oth, []⟩,
⟨1, 8, .oth, [.nf]⟩,
⟨1, 8, .oth, [.nf]⟩,
⟨256, 256, .arr 256 5, List.replicate 256 (.i .u8)⟩,
⟨2, 2, .st [(0, 5), (1, 5)], [.i .u8, .i .u8]⟩,
⟨2, 2, .st [(0, 5), (1, 5)], [.i .u8, .i .u8]⟩,
⟨32, 32, .arr 16 66, List.replicate 32 (.i .u8)⟩,
⟨1, 0, .oth, []⟩,
⟨1, 8, .oth, [.nf]⟩,
⟨1, 8, .oth, [.nf]⟩,
⟨4, 40, .st [(0, 17), (1, 17), (2, 17), (3, 9)], [.np, .np, .np, .s]⟩,
⟨4, 40, .st [(0, 17), (1, 17), (2, 17), (3, 9)], [.np, .np, .np, .s]⟩,
⟨0, 0, .arr 0 16, []⟩,
⟨0, 0, .st [(0, 73)], []⟩,
⟨0, 0, .st [(0, 73)], []⟩,
⟨1, 8, .oth, [.nf]⟩,
⟨1, 1, .int .u8, [.i .u8]⟩,
⟨1, 1, .int .u8, [.i .u8]⟩,
⟨1, 8, .oth, [.nf]⟩,
⟨1, 8, .ptr 5, [.np]⟩,
⟨1, 4, .int .i32, [.i .i32]⟩,
⟨1, 4, .int .i32, [.i .i32]⟩,
⟨11, 48, .st [(0, 12), (1, 12), (2, 30), (3, 77), (4, 5), (5, 5), (6, 78), (7, 79), (8, 80), (9, 81), (10, 82)], [.i .u64, .i .u64, .i .u32, .i .u8, .i .u8, .i .u8, .i .u8, .nf, .np, .i .i32, .i .i32]⟩,
⟨11, 48, .st [(0, 12), (1, 12), (2, 30), (3, 77), (4, 5), (5, 5), (6, 78), (7, 79), (8, 80), (9, 81), (10, 82)], [.i .u64, .i .u64, .i .u32, .i .u8, .i .u8, .i .u8, .i .u8, .nf, .np, .i .i32, .i .i32]⟩,
⟨1, 8, .oth, [.np]⟩]
theorem TTok : TOk Tryd.prog TT := by unfold TOk; kernel_rfl
theorem mix : Tryd.prog.follows .mixedOrders = true := by kernel_rfl
structure S_api_Ins where
  fOp : Int
  fA : Int
  fB : Int
  fC : Int
def eS_api_Ins (x : S_api_Ins) : PV := .agg [.v (.int .i64 x.fOp), .v (.int .i64 x.fA), .v (.int .i64 x.fB), .v (.int .i64 x.fC)]
def eqS_api_Ins (x y : S_api_Ins) : Bool := ((x.fOp == y.fOp) && ((x.fA == y.fA) && ((x.fB == y.fB) && ((x.fC == y.fC) && true))))
theorem eqS_api_Ins_ok (x y : S_api_Ins) : EqA Tryd.prog 29 [((.int .i64 x.fOp)), ((.int .i64 x.fA)), ((.int .i64 x.fB)), ((.int .i64 x.fC))] [((.int .i64 y.fOp)), ((.int .i64 y.fA)), ((.int .i64 y.fB)), ((.int .i64 y.fC))] (eqS_api_Ins x y) := eqA_of TTok (by kernel_rfl) (by kernel_rfl) (by kernel_rfl)
/- ringhall/code.later -/
def G_code_later (n : Nat) (v_op9 : Int) : Option (ByteArray × Int) :=
  if v_op9 = 14 then
   some ((ByteArray.mk #[112, 108, 117, 115]), 7)
  else
   if v_op9 = 15 then
    some ((ByteArray.mk #[108, 111, 97, 100]), 7)
   else
    if v_op9 = 16 then
     some ((ByteArray.mk #[108, 111, 97, 100, 98]), 7)
    else
     if v_op9 = 17 then
      some ((ByteArray.mk #[115, 116, 111, 114, 101]), 7)
     else
      if v_op9 = 18 then
       some ((ByteArray.mk #[115, 116, 111, 114, 101, 98]), 7)
      else
       if v_op9 = 19 then
        some ((ByteArray.mk #[106, 117, 109, 112]), 4)
       else
        if v_op9 = 20 then
         some ((ByteArray.mk #[122, 101, 114, 111]), 5)
        else
         if v_op9 = 21 then
          some ((ByteArray.mk #[108, 101, 115, 115]), 7)
         else
          if v_op9 = 22 then
           some ((ByteArray.mk #[99, 97, 108, 108]), 5)
          else
           if v_op9 = 23 then
            some ((ByteArray.mk #[98, 97, 99, 107]), 1)
           else
            if v_op9 = 24 then
             some ((ByteArray.mk #[115, 121, 115]), 0)
            else
             if v_op9 = 25 then
              some ((ByteArray.mk #[115, 119, 97, 112]), 7)
             else
              if v_op9 = 26 then
               some ((ByteArray.mk #[104, 111, 109, 101]), 1)
              else
               some ((ByteArray.mk #[]), 0)
theorem G_code_later_ok (n : Nat) (v_op9 : Int) (r : ByteArray × Int) (h : G_code_later n v_op9 = some r) : Ret Tryd.prog 24 [(eI .i64) v_op9] (.tup [eS r.1, (eI .i64) r.2]) := by
  refine ret_run (n := 31) (fn := Tryd.f24) (c := bodyOf Tryd.f24) (by kernel_rfl) (by kernel_rfl) (by kernel_rfl) (by kernel_rfl) ?_
  have hF : KC 31 (FinR Tryd.prog Tryd.f24 (.tup [eS r.1, (eI .i64) r.2])) := FinR.kc' (by kernel_rfl)
  unfold G_code_later at h
  by_cases h323 : v_op9 = 14
  · rw [if_pos h323] at h
    obtain rfl := Option.some.inj h
    exact pend_sound TTok mix 14 (hs := [.t true]) (by kernel_rfl) (by kernel_rfl) (by kernel_rfl) (.cons (bt h323) .nil)
  · rw [if_neg h323] at h
    by_cases h336 : v_op9 = 15
    · rw [if_pos h336] at h
      obtain rfl := Option.some.inj h
      exact pend_sound TTok mix 17 (hs := [.t false, .t true]) (by kernel_rfl) (by kernel_rfl) (by kernel_rfl) (.cons (bf h323) (.cons (bt h336) .nil))
    · rw [if_neg h336] at h
      by_cases h348 : v_op9 = 16
      · rw [if_pos h348] at h
        obtain rfl := Option.some.inj h
        exact pend_sound TTok mix 20 (hs := [.t false, .t false, .t true]) (by kernel_rfl) (by kernel_rfl) (by kernel_rfl) (.cons (bf h323) (.cons (bf h336) (.cons (bt h348) .nil)))
      · rw [if_neg h348] at h
        by_cases h359 : v_op9 = 17
        · rw [if_pos h359] at h
          obtain rfl := Option.some.inj h
          exact pend_sound TTok mix 23 (hs := [.t false, .t false, .t false, .t true]) (by kernel_rfl) (by kernel_rfl) (by kernel_rfl) (.cons (bf h323) (.cons (bf h336) (.cons (bf h348) (.cons (bt h359) .nil))))
        · rw [if_neg h359] at h
          by_cases h369 : v_op9 = 18
          · rw [if_pos h369] at h
            obtain rfl := Option.some.inj h
            exact pend_sound TTok mix 26 (hs := [.t false, .t false, .t false, .t false, .t true]) (by kernel_rfl) (by kernel_rfl) (by kernel_rfl) (.cons (bf h323) (.cons (bf h336) (.cons (bf h348) (.cons (bf h359) (.cons (bt h369) .nil)))))
          · rw [if_neg h369] at h
            by_cases h378 : v_op9 = 19
            · rw [if_pos h378] at h
              obtain rfl := Option.some.inj h
              exact pend_sound TTok mix 29 (hs := [.t false, .t false, .t false, .t false, .t false, .t true]) (by kernel_rfl) (by kernel_rfl) (by kernel_rfl) (.cons (bf h323) (.cons (bf h336) (.cons (bf h348) (.cons (bf h359) (.cons (bf h369) (.cons (bt h378) .nil))))))
            · rw [if_neg h378] at h
              by_cases h386 : v_op9 = 20
              · rw [if_pos h386] at h
                obtain rfl := Option.some.inj h
                exact pend_sound TTok mix 32 (hs := [.t false, .t false, .t false, .t false, .t false, .t false, .t true]) (by kernel_rfl) (by kernel_rfl) (by kernel_rfl) (.cons (bf h323) (.cons (bf h336) (.cons (bf h348) (.cons (bf h359) (.cons (bf h369) (.cons (bf h378) (.cons (bt h386) .nil)))))))
              · rw [if_neg h386] at h
                by_cases h393 : v_op9 = 21
                · rw [if_pos h393] at h
                  obtain rfl := Option.some.inj h
                  exact pend_sound TTok mix 35 (hs := [.t false, .t false, .t false, .t false, .t false, .t false, .t false, .t true]) (by kernel_rfl) (by kernel_rfl) (by kernel_rfl) (.cons (bf h323) (.cons (bf h336) (.cons (bf h348) (.cons (bf h359) (.cons (bf h369) (.cons (bf h378) (.cons (bf h386) (.cons (bt h393) .nil))))))))
                · rw [if_neg h393] at h
                  by_cases h399 : v_op9 = 22
                  · rw [if_pos h399] at h
                    obtain rfl := Option.some.inj h
                    exact pend_sound TTok mix 38 (hs := [.t false, .t false, .t false, .t false, .t false, .t false, .t false, .t false, .t true]) (by kernel_rfl) (by kernel_rfl) (by kernel_rfl) (.cons (bf h323) (.cons (bf h336) (.cons (bf h348) (.cons (bf h359) (.cons (bf h369) (.cons (bf h378) (.cons (bf h386) (.cons (bf h393) (.cons (bt h399) .nil)))))))))
                  · rw [if_neg h399] at h
                    by_cases h404 : v_op9 = 23
                    · rw [if_pos h404] at h
                      obtain rfl := Option.some.inj h
                      exact pend_sound TTok mix 41 (hs := [.t false, .t false, .t false, .t false, .t false, .t false, .t false, .t false, .t false, .t true]) (by kernel_rfl) (by kernel_rfl) (by kernel_rfl) (.cons (bf h323) (.cons (bf h336) (.cons (bf h348) (.cons (bf h359) (.cons (bf h369) (.cons (bf h378) (.cons (bf h386) (.cons (bf h393) (.cons (bf h399) (.cons (bt h404) .nil))))))))))
                    · rw [if_neg h404] at h
                      by_cases h408 : v_op9 = 24
                      · rw [if_pos h408] at h
                        obtain rfl := Option.some.inj h
                        exact pend_sound TTok mix 44 (hs := [.t false, .t false, .t false, .t false, .t false, .t false, .t false, .t false, .t false, .t false, .t true]) (by kernel_rfl) (by kernel_rfl) (by kernel_rfl) (.cons (bf h323) (.cons (bf h336) (.cons (bf h348) (.cons (bf h359) (.cons (bf h369) (.cons (bf h378) (.cons (bf h386) (.cons (bf h393) (.cons (bf h399) (.cons (bf h404) (.cons (bt h408) .nil)))))))))))
                      · rw [if_neg h408] at h
                        by_cases h411 : v_op9 = 25
                        · rw [if_pos h411] at h
                          obtain rfl := Option.some.inj h
                          exact pend_sound TTok mix 47 (hs := [.t false, .t false, .t false, .t false, .t false, .t false, .t false, .t false, .t false, .t false, .t false, .t true]) (by kernel_rfl) (by kernel_rfl) (by kernel_rfl) (.cons (bf h323) (.cons (bf h336) (.cons (bf h348) (.cons (bf h359) (.cons (bf h369) (.cons (bf h378) (.cons (bf h386) (.cons (bf h393) (.cons (bf h399) (.cons (bf h404) (.cons (bf h408) (.cons (bt h411) .nil))))))))))))
                        · rw [if_neg h411] at h
                          by_cases h412 : v_op9 = 26
                          · rw [if_pos h412] at h
                            obtain rfl := Option.some.inj h
                            exact pend_sound TTok mix 50 (hs := [.t false, .t false, .t false, .t false, .t false, .t false, .t false, .t false, .t false, .t false, .t false, .t false, .t true]) (by kernel_rfl) (by kernel_rfl) (by kernel_rfl) (.cons (bf h323) (.cons (bf h336) (.cons (bf h348) (.cons (bf h359) (.cons (bf h369) (.cons (bf h378) (.cons (bf h386) (.cons (bf h393) (.cons (bf h399) (.cons (bf h404) (.cons (bf h408) (.cons (bf h411) (.cons (bt h412) .nil)))))))))))))
                          · rw [if_neg h412] at h
                            obtain rfl := Option.some.inj h
                            exact pend_sound TTok mix 50 (hs := [.t false, .t false, .t false, .t false, .t false, .t false, .t false, .t false, .t false, .t false, .t false, .t false, .t false]) (by kernel_rfl) (by kernel_rfl) (by kernel_rfl) (.cons (bf h323) (.cons (bf h336) (.cons (bf h348) (.cons (bf h359) (.cons (bf h369) (.cons (bf h378) (.cons (bf h386) (.cons (bf h393) (.cons (bf h399) (.cons (bf h404) (.cons (bf h408) (.cons (bf h411) (.cons (bf h412) .nil)))))))))))))
/- ringhall/code.row -/
def G_code_row (n : Nat) (v_op8 : Int) : Option (ByteArray × Int) :=
  if v_op8 = 1 then
   some ((ByteArray.mk #[104, 97, 108, 116]), 0)
  else
   if v_op8 = 2 then
    some ((ByteArray.mk #[115, 101, 116]), 5)
   else
    if v_op8 = 3 then
     some ((ByteArray.mk #[104, 105, 103, 104]), 5)
    else
     if v_op8 = 4 then
      some ((ByteArray.mk #[109, 111, 118, 101]), 3)
     else
      if v_op8 = 5 then
       some ((ByteArray.mk #[97, 100, 100]), 3)
      else
       if v_op8 = 6 then
        some ((ByteArray.mk #[115, 117, 98]), 3)
       else
        if v_op8 = 7 then
         some ((ByteArray.mk #[109, 117, 108]), 3)
        else
         if v_op8 = 8 then
          some ((ByteArray.mk #[100, 105, 118]), 3)
         else
          if v_op8 = 9 then
           some ((ByteArray.mk #[97, 110, 100]), 3)
          else
           if v_op8 = 10 then
            some ((ByteArray.mk #[111, 114]), 3)
           else
            if v_op8 = 11 then
             some ((ByteArray.mk #[120, 111, 114]), 3)
            else
             if v_op8 = 12 then
              some ((ByteArray.mk #[108, 101, 102, 116]), 3)
             else
              if v_op8 = 13 then
               some ((ByteArray.mk #[114, 105, 103, 104, 116]), 3)
              else
               (G_code_later n v_op8).bind fun (v_r10 : (ByteArray × Int)) =>
               some (v_r10.1, v_r10.2)
theorem G_code_row_ok (n : Nat) (v_op8 : Int) (r : ByteArray × Int) (h : G_code_row n v_op8 = some r) : Ret Tryd.prog 21 [(eI .i64) v_op8] (.tup [eS r.1, (eI .i64) r.2]) := by
  refine ret_run (n := 35) (fn := Tryd.f21) (c := bodyOf Tryd.f21) (by kernel_rfl) (by kernel_rfl) (by kernel_rfl) (by kernel_rfl) ?_
  have hF : KC 35 (FinR Tryd.prog Tryd.f21 (.tup [eS r.1, (eI .i64) r.2])) := FinR.kc' (by kernel_rfl)
  unfold G_code_row at h
  by_cases h117 : v_op8 = 1
  · rw [if_pos h117] at h
    obtain rfl := Option.some.inj h
    exact pend_sound TTok mix 14 (hs := [.t true]) (by kernel_rfl) (by kernel_rfl) (by kernel_rfl) (.cons (bt h117) .nil)
  · rw [if_neg h117] at h
    by_cases h130 : v_op8 = 2
    · rw [if_pos h130] at h
      obtain rfl := Option.some.inj h
      exact pend_sound TTok mix 17 (hs := [.t false, .t true]) (by kernel_rfl) (by kernel_rfl) (by kernel_rfl) (.cons (bf h117) (.cons (bt h130) .nil))
    · rw [if_neg h130] at h
      by_cases h142 : v_op8 = 3
      · rw [if_pos h142] at h
        obtain rfl := Option.some.inj h
        exact pend_sound TTok mix 20 (hs := [.t false, .t false, .t true]) (by kernel_rfl) (by kernel_rfl) (by kernel_rfl) (.cons (bf h117) (.cons (bf h130) (.cons (bt h142) .nil)))
      · rw [if_neg h142] at h
        by_cases h153 : v_op8 = 4
        · rw [if_pos h153] at h
          obtain rfl := Option.some.inj h
          exact pend_sound TTok mix 23 (hs := [.t false, .t false, .t false, .t true]) (by kernel_rfl) (by kernel_rfl) (by kernel_rfl) (.cons (bf h117) (.cons (bf h130) (.cons (bf h142) (.cons (bt h153) .nil))))
        · rw [if_neg h153] at h
          by_cases h163 : v_op8 = 5
          · rw [if_pos h163] at h
            obtain rfl := Option.some.inj h
            exact pend_sound TTok mix 26 (hs := [.t false, .t false, .t false, .t false, .t true]) (by kernel_rfl) (by kernel_rfl) (by kernel_rfl) (.cons (bf h117) (.cons (bf h130) (.cons (bf h142) (.cons (bf h153) (.cons (bt h163) .nil)))))
          · rw [if_neg h163] at h
            by_cases h172 : v_op8 = 6
            · rw [if_pos h172] at h
              obtain rfl := Option.some.inj h
              exact pend_sound TTok mix 29 (hs := [.t false, .t false, .t false, .t false, .t false, .t true]) (by kernel_rfl) (by kernel_rfl) (by kernel_rfl) (.cons (bf h117) (.cons (bf h130) (.cons (bf h142) (.cons (bf h153) (.cons (bf h163) (.cons (bt h172) .nil))))))
            · rw [if_neg h172] at h
              by_cases h180 : v_op8 = 7
              · rw [if_pos h180] at h
                obtain rfl := Option.some.inj h
                exact pend_sound TTok mix 32 (hs := [.t false, .t false, .t false, .t false, .t false, .t false, .t true]) (by kernel_rfl) (by kernel_rfl) (by kernel_rfl) (.cons (bf h117) (.cons (bf h130) (.cons (bf h142) (.cons (bf h153) (.cons (bf h163) (.cons (bf h172) (.cons (bt h180) .nil)))))))
              · rw [if_neg h180] at h
                by_cases h187 : v_op8 = 8
                · rw [if_pos h187] at h
                  obtain rfl := Option.some.inj h
                  exact pend_sound TTok mix 35 (hs := [.t false, .t false, .t false, .t false, .t false, .t false, .t false, .t true]) (by kernel_rfl) (by kernel_rfl) (by kernel_rfl) (.cons (bf h117) (.cons (bf h130) (.cons (bf h142) (.cons (bf h153) (.cons (bf h163) (.cons (bf h172) (.cons (bf h180) (.cons (bt h187) .nil))))))))
                · rw [if_neg h187] at h
                  by_cases h193 : v_op8 = 9
                  · rw [if_pos h193] at h
                    obtain rfl := Option.some.inj h
                    exact pend_sound TTok mix 38 (hs := [.t false, .t false, .t false, .t false, .t false, .t false, .t false, .t false, .t true]) (by kernel_rfl) (by kernel_rfl) (by kernel_rfl) (.cons (bf h117) (.cons (bf h130) (.cons (bf h142) (.cons (bf h153) (.cons (bf h163) (.cons (bf h172) (.cons (bf h180) (.cons (bf h187) (.cons (bt h193) .nil)))))))))
                  · rw [if_neg h193] at h
                    by_cases h198 : v_op8 = 10
                    · rw [if_pos h198] at h
                      obtain rfl := Option.some.inj h
                      exact pend_sound TTok mix 41 (hs := [.t false, .t false, .t false, .t false, .t false, .t false, .t false, .t false, .t false, .t true]) (by kernel_rfl) (by kernel_rfl) (by kernel_rfl) (.cons (bf h117) (.cons (bf h130) (.cons (bf h142) (.cons (bf h153) (.cons (bf h163) (.cons (bf h172) (.cons (bf h180) (.cons (bf h187) (.cons (bf h193) (.cons (bt h198) .nil))))))))))
                    · rw [if_neg h198] at h
                      by_cases h202 : v_op8 = 11
                      · rw [if_pos h202] at h
                        obtain rfl := Option.some.inj h
                        exact pend_sound TTok mix 44 (hs := [.t false, .t false, .t false, .t false, .t false, .t false, .t false, .t false, .t false, .t false, .t true]) (by kernel_rfl) (by kernel_rfl) (by kernel_rfl) (.cons (bf h117) (.cons (bf h130) (.cons (bf h142) (.cons (bf h153) (.cons (bf h163) (.cons (bf h172) (.cons (bf h180) (.cons (bf h187) (.cons (bf h193) (.cons (bf h198) (.cons (bt h202) .nil)))))))))))
                      · rw [if_neg h202] at h
                        by_cases h205 : v_op8 = 12
                        · rw [if_pos h205] at h
                          obtain rfl := Option.some.inj h
                          exact pend_sound TTok mix 47 (hs := [.t false, .t false, .t false, .t false, .t false, .t false, .t false, .t false, .t false, .t false, .t false, .t true]) (by kernel_rfl) (by kernel_rfl) (by kernel_rfl) (.cons (bf h117) (.cons (bf h130) (.cons (bf h142) (.cons (bf h153) (.cons (bf h163) (.cons (bf h172) (.cons (bf h180) (.cons (bf h187) (.cons (bf h193) (.cons (bf h198) (.cons (bf h202) (.cons (bt h205) .nil))))))))))))
                        · rw [if_neg h205] at h
                          by_cases h206 : v_op8 = 13
                          · rw [if_pos h206] at h
                            obtain rfl := Option.some.inj h
                            exact pend_sound TTok mix 50 (hs := [.t false, .t false, .t false, .t false, .t false, .t false, .t false, .t false, .t false, .t false, .t false, .t false, .t true]) (by kernel_rfl) (by kernel_rfl) (by kernel_rfl) (.cons (bf h117) (.cons (bf h130) (.cons (bf h142) (.cons (bf h153) (.cons (bf h163) (.cons (bf h172) (.cons (bf h180) (.cons (bf h187) (.cons (bf h193) (.cons (bf h198) (.cons (bf h202) (.cons (bf h205) (.cons (bt h206) .nil)))))))))))))
                          · rw [if_neg h206] at h
                            obtain ⟨v_r10, h413, h⟩ := bind_some h
                            obtain rfl := Option.some.inj h
                            exact pend_sound TTok mix 50 (hs := [.t false, .t false, .t false, .t false, .t false, .t false, .t false, .t false, .t false, .t false, .t false, .t false, .t false, .r (.tup [eS v_r10.1, (eI .i64) v_r10.2])]) (by kernel_rfl) (by kernel_rfl) (by kernel_rfl) (.cons (bf h117) (.cons (bf h130) (.cons (bf h142) (.cons (bf h153) (.cons (bf h163) (.cons (bf h172) (.cons (bf h180) (.cons (bf h187) (.cons (bf h193) (.cons (bf h198) (.cons (bf h202) (.cons (bf h205) (.cons (bf h206) (.cons (G_code_later_ok n v_op8 _ h413) .nil))))))))))))))
/- ringhall/code.Name -/
def G_code_Name (n : Nat) (v_op7 : Int) : Option (ByteArray × Int) :=
  (G_code_row n v_op7).bind fun (v_r11 : (ByteArray × Int)) =>
  if (v_r11.1.toList == (ByteArray.mk #[]).toList) = true then
   some ((ByteArray.mk #[]), 4)
  else
   some (v_r11.1, 0)
theorem G_code_Name_ok (n : Nat) (v_op7 : Int) (r : ByteArray × Int) (h : G_code_Name n v_op7 = some r) : Ret Tryd.prog 8 [(eI .i64) v_op7] (.tup [eS r.1, (eI .i64) r.2]) := by
  refine ret_run (n := 14) (fn := Tryd.f8) (c := bodyOf Tryd.f8) (by kernel_rfl) (by kernel_rfl) (by kernel_rfl) (by kernel_rfl) ?_
  have hF : KC 14 (FinR Tryd.prog Tryd.f8 (.tup [eS r.1, (eI .i64) r.2])) := FinR.kc' (by kernel_rfl)
  unfold G_code_Name at h
  obtain ⟨v_r11, h414, h⟩ := bind_some h
  by_cases h415 : (v_r11.1.toList == (ByteArray.mk #[]).toList) = true
  · rw [if_pos h415] at h
    obtain rfl := Option.some.inj h
    exact pend_sound TTok mix 12 (hs := [.r (.tup [eS v_r11.1, (eI .i64) v_r11.2]), .t true]) (by kernel_rfl) (by kernel_rfl) (by kernel_rfl) (.cons (G_code_row_ok n v_op7 _ h414) (.cons h415 .nil))
  · rw [if_neg h415] at h
    obtain rfl := Option.some.inj h
    exact pend_sound TTok mix 12 (hs := [.r (.tup [eS v_r11.1, (eI .i64) v_r11.2]), .t false]) (by kernel_rfl) (by kernel_rfl) (by kernel_rfl) (.cons (G_code_row_ok n v_op7 _ h414) (.cons (vf h415) .nil))
inductive G_code_Number_L1_R where
  | x0 (v_x25 : Int) (v_x26 : Int)
  | x1 
def G_code_Number_L1_ex : G_code_Number_L1_R → Ex
  | .x0 _ _ => .ret
  | .x1  => .exit 0
def G_code_Number_L1_st (v_name19 : ByteArray) : G_code_Number_L1_R → PS
  | .x0 v_x25 v_x26 => ⟨[dd, dd, .d (.v (.int .i64 v_x25)), .d (.v (.int .i64 v_x26)), dd, dd, dd, dd, dd, dd, dd, dd, dd, dd, dd, dd, dd, dd, dd, dd], []⟩
  | .x1  => ⟨[dd, dd, dd, dd, dd, dd, dd, dd, dd, dd, dd, dd, dd, dd, dd, dd, dd, dd, dd, dd], []⟩
def G_code_Number_L1_hd (v_name19 : ByteArray) (v_op22 : Int) : PS := ⟨[.d (.v (.string v_name19)), dd, dd, dd, .d (.v (.int .i64 v_op22)), dd, dd, dd, dd, dd, dd, dd, dd, dd, dd, dd, dd, dd, dd, dd], []⟩
def G_code_Number_L1 (n : Nat) (v_name19 : ByteArray) : Nat → Int → Option G_code_Number_L1_R
  | 0, _ => none
  | k + 1, v_op22 =>
    if v_op22 ≤ 26 then
     (G_code_row n v_op22).bind fun (v_r24 : (ByteArray × Int)) =>
     if (v_r24.1.toList == v_name19.toList) = true then
      some (.x0 v_op22 0)
     else
      G_code_Number_L1 n v_name19 k (wi .i64 (v_op22 + 1))
    else
     some (.x1 )
theorem G_code_Number_L1_ok {Fi : Ex → PS → Prop} (hF : KC 20 Fi) (ks : List Fr) (n : Nat) (v_name19 : ByteArray)  : ∀ (k : Nat) (v_op22 : Int) (o : G_code_Number_L1_R), G_code_Number_L1 n v_name19 k v_op22 = some o → RunE Tryd.prog 20 Fi ks (G_code_Number_L1_ex o) (G_code_Number_L1_st v_name19 o) → RunE Tryd.prog 20 Fi (.l k (cP (cB (cR (cL (cR (bodyOf Tryd.f9)))))) :: ks) .normal (G_code_Number_L1_hd v_name19 v_op22)
  | 0, v_op22, o, h, q => by rw [G_code_Number_L1] at h; cases h
  | k + 1, v_op22, o, h, q => by
    rw [G_code_Number_L1] at h
    by_cases h417 : v_op22 ≤ 26
    · rw [if_pos h417] at h
      obtain ⟨v_r24, h421, h⟩ := bind_some h
      by_cases h423 : (v_r24.1.toList == v_name19.toList) = true
      · rw [if_pos h423] at h
        cases h
        exact pkk_sound TTok mix hF 19 (hs := [.t true, .r (.tup [eS v_r24.1, (eI .i64) v_r24.2]), .t true]) (ts := []) (s := []) (l := [2, 3]) (by kernel_rfl) (by kernel_rfl) (.cons (dt h417) (.cons (G_code_row_ok n v_op22 _ h421) (.cons h423 .nil))) q
      · rw [if_neg h423] at h
        exact pkk_sound TTok mix hF 16 (hs := [.t true, .r (.tup [eS v_r24.1, (eI .i64) v_r24.2]), .t false]) (ts := []) (s := []) (l := [0, 4]) (by kernel_rfl) (by kernel_rfl) (.cons (dt h417) (.cons (G_code_row_ok n v_op22 _ h421) (.cons (vf h423) .nil))) (G_code_Number_L1_ok hF ks n v_name19 k (wi .i64 (v_op22 + 1)) _ h q)
    · rw [if_neg h417] at h
      cases h
      exact pkk_sound TTok mix hF 8 (hs := [.t false]) (ts := []) (s := []) (l := []) (by kernel_rfl) (by kernel_rfl) (.cons (df h417) .nil) q
/- ringhall/code.Number -/
def G_code_Number (n : Nat) (v_name19 : ByteArray) : Option (Int × Int) :=
  (G_code_Number_L1 n v_name19 n 1).bind fun v_o27 => match v_o27 with
  | .x0 v_z28 v_z29 =>
    some (v_z28, v_z29)
  | .x1  =>
    some (0, 4)
theorem G_code_Number_ok (n : Nat) (v_name19 : ByteArray) (r : Int × Int) (h : G_code_Number n v_name19 = some r) : Ret Tryd.prog 9 [eS v_name19] (.tup [(eI .i64) r.1, (eI .i64) r.2]) := by
  refine ret_run (n := 20) (fn := Tryd.f9) (c := bodyOf Tryd.f9) (by kernel_rfl) (by kernel_rfl) (by kernel_rfl) (by kernel_rfl) ?_
  have hF : KC 20 (FinR Tryd.prog Tryd.f9 (.tup [(eI .i64) r.1, (eI .i64) r.2])) := FinR.kc' (by kernel_rfl)
  unfold G_code_Number at h
  obtain ⟨v_o27, h424, h⟩ := bind_some h
  refine pkk_sound TTok mix hF 7 (hs := [.n n]) (ts := []) (s := []) (l := [0, 4]) (by kernel_rfl) (by kernel_rfl) .nil (G_code_Number_L1_ok hF (.b 0 :: .s (cR (cR (bodyOf Tryd.f9))) :: []) n v_name19 n 1 _ h424 ?_)
  cases v_o27 with
  | x0 v_z28 v_z29 =>
    try dsimp only at h
    obtain rfl := Option.some.inj h
    exact pend_sound TTok mix 2 (hs := []) (by kernel_rfl) (by kernel_rfl) (by kernel_rfl) .nil
  | x1  =>
    try dsimp only at h
    obtain rfl := Option.some.inj h
    exact pend_sound TTok mix 4 (hs := []) (by kernel_rfl) (by kernel_rfl) (by kernel_rfl) .nil
/- ringhall/code.Fields -/
def G_code_Fields (n : Nat) (v_op41 : Int) : Option (Int × Int) :=
  (G_code_row n v_op41).bind fun (v_r42 : (ByteArray × Int)) =>
  if (v_r42.1.toList == (ByteArray.mk #[]).toList) = true then
   some (0, 4)
  else
   some (v_r42.2, 0)
theorem G_code_Fields_ok (n : Nat) (v_op41 : Int) (r : Int × Int) (h : G_code_Fields n v_op41 = some r) : Ret Tryd.prog 10 [(eI .i64) v_op41] (.tup [(eI .i64) r.1, (eI .i64) r.2]) := by
  refine ret_run (n := 14) (fn := Tryd.f10) (c := bodyOf Tryd.f10) (by kernel_rfl) (by kernel_rfl) (by kernel_rfl) (by kernel_rfl) ?_
  have hF : KC 14 (FinR Tryd.prog Tryd.f10 (.tup [(eI .i64) r.1, (eI .i64) r.2])) := FinR.kc' (by kernel_rfl)
  unfold G_code_Fields at h
  obtain ⟨v_r42, h426, h⟩ := bind_some h
  by_cases h427 : (v_r42.1.toList == (ByteArray.mk #[]).toList) = true
  · rw [if_pos h427] at h
    obtain rfl := Option.some.inj h
    exact pend_sound TTok mix 12 (hs := [.r (.tup [eS v_r42.1, (eI .i64) v_r42.2]), .t true]) (by kernel_rfl) (by kernel_rfl) (by kernel_rfl) (.cons (G_code_row_ok n v_op41 _ h426) (.cons h427 .nil))
  · rw [if_neg h427] at h
    obtain rfl := Option.some.inj h
    exact pend_sound TTok mix 12 (hs := [.r (.tup [eS v_r42.1, (eI .i64) v_r42.2]), .t false]) (by kernel_rfl) (by kernel_rfl) (by kernel_rfl) (.cons (G_code_row_ok n v_op41 _ h426) (.cons (vf h427) .nil))
inductive G_code_Encode_C1_R where
  | x0 (v_x159 : Bool)
def G_code_Encode_C1_ex : G_code_Encode_C1_R → Ex
  | .x0 _ => .normal
def G_code_Encode_C1_st (v_r61 : (ByteArray × Int)) (v_i58 : S_api_Ins) : G_code_Encode_C1_R → PS
  | .x0 v_x159 => ⟨[dd, .ref 0 0, dd, dd, dd, .d (.v (.int .i64 v_r61.2)), dd, dd, dd, dd, dd, dd, dd, dd, dd, .d (.v (.bool v_x159)), dd, dd, dd, dd, dd, dd, dd, dd, dd, dd, dd, dd, dd, dd, dd, dd, dd, dd, dd, dd, dd, dd, dd, dd, dd, dd, dd, dd, dd, dd, dd, dd, dd, dd, dd, dd, dd, dd, dd, dd, dd, dd, dd, dd, dd, dd, dd, dd, dd, dd, dd, dd, dd, dd, dd, dd, dd, dd, dd, dd, dd, dd, dd, dd, dd, dd, dd, dd, dd, dd, dd, dd, dd, dd, dd, dd], [.box [.d (.v (.int .i64 v_i58.fOp)), .d (.v (.int .i64 v_i58.fA)), .d (.v (.int .i64 v_i58.fB)), .d (.v (.int .i64 v_i58.fC))]]⟩
def G_code_Encode_C1_hd (v_r61 : (ByteArray × Int)) (v_i58 : S_api_Ins)  : PS := ⟨[dd, .ref 0 0, dd, dd, dd, .d (.v (.int .i64 v_r61.2)), dd, dd, dd, dd, dd, dd, dd, dd, dd, dd, dd, dd, dd, dd, dd, dd, dd, dd, dd, dd, dd, dd, dd, dd, dd, dd, dd, dd, dd, dd, dd, dd, dd, dd, dd, dd, dd, dd, dd, dd, dd, dd, dd, dd, dd, dd, dd, dd, dd, dd, dd, dd, dd, dd, dd, dd, dd, dd, dd, dd, dd, dd, dd, dd, dd, dd, dd, dd, dd, dd, dd, dd, dd, dd, dd, dd, dd, dd, dd, dd, dd, dd, dd, dd, dd, dd], [.box [.d (.v (.int .i64 v_i58.fOp)), .d (.v (.int .i64 v_i58.fA)), .d (.v (.int .i64 v_i58.fB)), .d (.v (.int .i64 v_i58.fC))]]⟩
def G_code_Encode_C1 (n : Nat) (v_r61 : (ByteArray × Int)) (v_i58 : S_api_Ins) : Option G_code_Encode_C1_R :=
  if v_i58.fA < 0 then
   some (.x0 true)
  else
   if v_i58.fA ≥ 8 then
    some (.x0 true)
   else
    if v_i58.fB < 0 then
     some (.x0 true)
    else
     if v_i58.fB ≥ 8 then
      some (.x0 true)
     else
      if v_i58.fC < (-32768) then
       some (.x0 true)
      else
       some (.x0 (decide (v_i58.fC > 32767)))
theorem G_code_Encode_C1_ok {Fi : Ex → PS → Prop} (hF : KC 92 Fi) (ks : List Fr) (n : Nat) (v_r61 : (ByteArray × Int)) (v_i58 : S_api_Ins)  (o : G_code_Encode_C1_R) (h : G_code_Encode_C1 n v_r61 v_i58 = some o) (q : RunE Tryd.prog 92 Fi ks (G_code_Encode_C1_ex o) (G_code_Encode_C1_st v_r61 v_i58 o)) : RunE Tryd.prog 92 Fi (.s (cL (cF (cR (cB (cL (cR (cR (bodyOf Tryd.f11)))))))) :: ks) .normal (G_code_Encode_C1_hd v_r61 v_i58) := by
  unfold G_code_Encode_C1 at h
  by_cases h564 : v_i58.fA < 0
  · rw [if_pos h564] at h
    cases h
    exact pkk_sound TTok mix hF 1 (hs := [.c, .t true, .c, .c, .c, .c, .c, .c, .c, .c, .c, .c, .c, .c, .c, .c]) (ts := []) (s := [0]) (l := [1, 5, 15]) (by kernel_rfl) (by kernel_rfl) (.cons (dt h564) .nil) q
  · rw [if_neg h564] at h
    by_cases h565 : v_i58.fA ≥ 8
    · rw [if_pos h565] at h
      cases h
      exact pkk_sound TTok mix hF 1 (hs := [.c, .t false, .c, .c, .c, .t true, .c, .c, .c, .c, .c, .c, .c, .c, .c, .c, .c]) (ts := []) (s := [0]) (l := [1, 5, 15]) (by kernel_rfl) (by kernel_rfl) (.cons (df h564) (.cons (dt h565) .nil)) q
    · rw [if_neg h565] at h
      by_cases h566 : v_i58.fB < 0
      · rw [if_pos h566] at h
        cases h
        exact pkk_sound TTok mix hF 1 (hs := [.c, .t false, .c, .c, .c, .t false, .c, .c, .c, .t true, .c, .c, .c, .c, .c, .c, .c, .c]) (ts := []) (s := [0]) (l := [1, 5, 15]) (by kernel_rfl) (by kernel_rfl) (.cons (df h564) (.cons (df h565) (.cons (dt h566) .nil))) q
      · rw [if_neg h566] at h
        by_cases h567 : v_i58.fB ≥ 8
        · rw [if_pos h567] at h
          cases h
          exact pkk_sound TTok mix hF 1 (hs := [.c, .t false, .c, .c, .c, .t false, .c, .c, .c, .t false, .c, .c, .c, .t true, .c, .c, .c, .c, .c]) (ts := []) (s := [0]) (l := [1, 5, 15]) (by kernel_rfl) (by kernel_rfl) (.cons (df h564) (.cons (df h565) (.cons (df h566) (.cons (dt h567) .nil)))) q
        · rw [if_neg h567] at h
          by_cases h568 : v_i58.fC < (-32768)
          · rw [if_pos h568] at h
            cases h
            exact pkk_sound TTok mix hF 1 (hs := [.c, .t false, .c, .c, .c, .t false, .c, .c, .c, .t false, .c, .c, .c, .t false, .c, .c, .c, .t true, .c, .c]) (ts := []) (s := [0]) (l := [1, 5, 15]) (by kernel_rfl) (by kernel_rfl) (.cons (df h564) (.cons (df h565) (.cons (df h566) (.cons (df h567) (.cons (dt h568) .nil))))) q
          · rw [if_neg h568] at h
            cases h
            exact pkk_sound TTok mix hF 1 (hs := [.c, .t false, .c, .c, .c, .t false, .c, .c, .c, .t false, .c, .c, .c, .t false, .c, .c, .c, .t false, .c, .c, .c]) (ts := []) (s := [0]) (l := [1, 5, 15]) (by kernel_rfl) (by kernel_rfl) (.cons (df h564) (.cons (df h565) (.cons (df h566) (.cons (df h567) (.cons (df h568) .nil))))) q
inductive G_code_Encode_C2_R where
  | x0 (v_x189 : Bool)
def G_code_Encode_C2_ex : G_code_Encode_C2_R → Ex
  | .x0 _ => .normal
def G_code_Encode_C2_st (v_r61 : (ByteArray × Int)) (v_i58 : S_api_Ins) : G_code_Encode_C2_R → PS
  | .x0 v_x189 => ⟨[dd, .ref 0 0, dd, dd, dd, dd, dd, dd, dd, dd, dd, dd, dd, dd, dd, dd, dd, dd, dd, dd, dd, dd, dd, dd, dd, dd, dd, dd, dd, dd, dd, dd, dd, dd, dd, dd, dd, dd, dd, dd, dd, dd, dd, dd, .d (.v (.bool v_x189)), dd, dd, dd, dd, dd, dd, dd, dd, dd, dd, dd, dd, dd, dd, dd, dd, dd, dd, dd, dd, dd, dd, dd, dd, dd, dd, dd, dd, dd, dd, dd, dd, dd, dd, dd, dd, dd, dd, dd, dd, dd, dd, dd, dd, dd, dd, dd], [.box [.d (.v (.int .i64 v_i58.fOp)), .d (.v (.int .i64 v_i58.fA)), .d (.v (.int .i64 v_i58.fB)), .d (.v (.int .i64 v_i58.fC))]]⟩
def G_code_Encode_C2_hd (v_r61 : (ByteArray × Int)) (v_i58 : S_api_Ins)  : PS := ⟨[dd, .ref 0 0, dd, dd, dd, .d (.v (.int .i64 v_r61.2)), dd, dd, dd, dd, dd, dd, dd, dd, dd, dd, dd, dd, dd, dd, dd, dd, dd, dd, dd, dd, dd, dd, dd, dd, dd, dd, dd, dd, dd, dd, dd, dd, dd, dd, dd, dd, dd, dd, dd, dd, dd, dd, dd, dd, dd, dd, dd, dd, dd, dd, dd, dd, dd, dd, dd, dd, dd, dd, dd, dd, dd, dd, dd, dd, dd, dd, dd, dd, dd, dd, dd, dd, dd, dd, dd, dd, dd, dd, dd, dd, dd, dd, dd, dd, dd, dd], [.box [.d (.v (.int .i64 v_i58.fOp)), .d (.v (.int .i64 v_i58.fA)), .d (.v (.int .i64 v_i58.fB)), .d (.v (.int .i64 v_i58.fC))]]⟩
def G_code_Encode_C2 (n : Nat) (v_r61 : (ByteArray × Int)) (v_i58 : S_api_Ins) : Option G_code_Encode_C2_R :=
  if (bits .and .i64 v_r61.2 1) = 0 then
   if v_i58.fA = 0 then
    if (bits .and .i64 v_r61.2 2) = 0 then
     if v_i58.fB = 0 then
      if (bits .and .i64 v_r61.2 4) = 0 then
       some (.x0 (v_i58.fC != 0))
      else
       some (.x0 false)
     else
      some (.x0 true)
    else
     if (bits .and .i64 v_r61.2 4) = 0 then
      some (.x0 (v_i58.fC != 0))
     else
      some (.x0 false)
   else
    some (.x0 true)
  else
   if (bits .and .i64 v_r61.2 2) = 0 then
    if v_i58.fB = 0 then
     if (bits .and .i64 v_r61.2 4) = 0 then
      some (.x0 (v_i58.fC != 0))
     else
      some (.x0 false)
    else
     some (.x0 true)
   else
    if (bits .and .i64 v_r61.2 4) = 0 then
     some (.x0 (v_i58.fC != 0))
    else
     some (.x0 false)
theorem G_code_Encode_C2_ok {Fi : Ex → PS → Prop} (hF : KC 92 Fi) (ks : List Fr) (n : Nat) (v_r61 : (ByteArray × Int)) (v_i58 : S_api_Ins)  (o : G_code_Encode_C2_R) (h : G_code_Encode_C2 n v_r61 v_i58 = some o) (q : RunE Tryd.prog 92 Fi ks (G_code_Encode_C2_ex o) (G_code_Encode_C2_st v_r61 v_i58 o)) : RunE Tryd.prog 92 Fi (.s (cL (cF (cR (cF (cR (cB (cL (cR (cR (bodyOf Tryd.f11)))))))))) :: ks) .normal (G_code_Encode_C2_hd v_r61 v_i58) := by
  unfold G_code_Encode_C2 at h
  by_cases h604 : (bits .and .i64 v_r61.2 1) = 0
  · rw [if_pos h604] at h
    by_cases h605 : v_i58.fA = 0
    · rw [if_pos h605] at h
      by_cases h606 : (bits .and .i64 v_r61.2 2) = 0
      · rw [if_pos h606] at h
        by_cases h607 : v_i58.fB = 0
        · rw [if_pos h607] at h
          by_cases h608 : (bits .and .i64 v_r61.2 4) = 0
          · rw [if_pos h608] at h
            cases h
            exact pkk_sound TTok mix hF 1 (hs := [.t true, .c, .c, .c, .t false, .c, .c, .c, .t true, .c, .c, .c, .c, .t false, .c, .c, .c, .t true, .c, .c, .c, .c]) (ts := []) (s := [0]) (l := [1, 44]) (by kernel_rfl) (by kernel_rfl) (.cons (bt h604) (.cons (nf h605) (.cons (bt h606) (.cons (nf h607) (.cons (bt h608) .nil))))) q
          · rw [if_neg h608] at h
            cases h
            exact pkk_sound TTok mix hF 1 (hs := [.t true, .c, .c, .c, .t false, .c, .c, .c, .t true, .c, .c, .c, .c, .t false, .c, .c, .c, .t false, .c, .c, .c]) (ts := []) (s := [0]) (l := [1, 44]) (by kernel_rfl) (by kernel_rfl) (.cons (bt h604) (.cons (nf h605) (.cons (bt h606) (.cons (nf h607) (.cons (bf h608) .nil))))) q
        · rw [if_neg h607] at h
          cases h
          exact pkk_sound TTok mix hF 1 (hs := [.t true, .c, .c, .c, .t false, .c, .c, .c, .t true, .c, .c, .c, .c, .t true, .c, .c, .c, .c]) (ts := []) (s := [0]) (l := [1, 44]) (by kernel_rfl) (by kernel_rfl) (.cons (bt h604) (.cons (nf h605) (.cons (bt h606) (.cons (nt h607) .nil)))) q
      · rw [if_neg h606] at h
        by_cases h609 : (bits .and .i64 v_r61.2 4) = 0
        · rw [if_pos h609] at h
          cases h
          exact pkk_sound TTok mix hF 1 (hs := [.t true, .c, .c, .c, .t false, .c, .c, .c, .t false, .c, .c, .c, .c, .c, .c, .c, .t true, .c, .c, .c, .c]) (ts := []) (s := [0]) (l := [1, 44]) (by kernel_rfl) (by kernel_rfl) (.cons (bt h604) (.cons (nf h605) (.cons (bf h606) (.cons (bt h609) .nil)))) q
        · rw [if_neg h609] at h
          cases h
          exact pkk_sound TTok mix hF 1 (hs := [.t true, .c, .c, .c, .t false, .c, .c, .c, .t false, .c, .c, .c, .c, .c, .c, .c, .t false, .c, .c, .c]) (ts := []) (s := [0]) (l := [1, 44]) (by kernel_rfl) (by kernel_rfl) (.cons (bt h604) (.cons (nf h605) (.cons (bf h606) (.cons (bf h609) .nil)))) q
    · rw [if_neg h605] at h
      cases h
      exact pkk_sound TTok mix hF 1 (hs := [.t true, .c, .c, .c, .t true, .c, .c, .c, .c, .c, .c, .c, .c, .c]) (ts := []) (s := [0]) (l := [1, 44]) (by kernel_rfl) (by kernel_rfl) (.cons (bt h604) (.cons (nt h605) .nil)) q
  · rw [if_neg h604] at h
    by_cases h610 : (bits .and .i64 v_r61.2 2) = 0
    · rw [if_pos h610] at h
      by_cases h611 : v_i58.fB = 0
      · rw [if_pos h611] at h
        by_cases h612 : (bits .and .i64 v_r61.2 4) = 0
        · rw [if_pos h612] at h
          cases h
          exact pkk_sound TTok mix hF 1 (hs := [.t false, .c, .c, .c, .c, .c, .c, .t true, .c, .c, .c, .c, .t false, .c, .c, .c, .t true, .c, .c, .c, .c]) (ts := []) (s := [0]) (l := [1, 44]) (by kernel_rfl) (by kernel_rfl) (.cons (bf h604) (.cons (bt h610) (.cons (nf h611) (.cons (bt h612) .nil)))) q
        · rw [if_neg h612] at h
          cases h
          exact pkk_sound TTok mix hF 1 (hs := [.t false, .c, .c, .c, .c, .c, .c, .t true, .c, .c, .c, .c, .t false, .c, .c, .c, .t false, .c, .c, .c]) (ts := []) (s := [0]) (l := [1, 44]) (by kernel_rfl) (by kernel_rfl) (.cons (bf h604) (.cons (bt h610) (.cons (nf h611) (.cons (bf h612) .nil)))) q
      · rw [if_neg h611] at h
        cases h
        exact pkk_sound TTok mix hF 1 (hs := [.t false, .c, .c, .c, .c, .c, .c, .t true, .c, .c, .c, .c, .t true, .c, .c, .c, .c]) (ts := []) (s := [0]) (l := [1, 44]) (by kernel_rfl) (by kernel_rfl) (.cons (bf h604) (.cons (bt h610) (.cons (nt h611) .nil))) q
    · rw [if_neg h610] at h
      by_cases h613 : (bits .and .i64 v_r61.2 4) = 0
      · rw [if_pos h613] at h
        cases h
        exact pkk_sound TTok mix hF 1 (hs := [.t false, .c, .c, .c, .c, .c, .c, .t false, .c, .c, .c, .c, .c, .c, .c, .t true, .c, .c, .c, .c]) (ts := []) (s := [0]) (l := [1, 44]) (by kernel_rfl) (by kernel_rfl) (.cons (bf h604) (.cons (bf h610) (.cons (bt h613) .nil))) q
      · rw [if_neg h613] at h
        cases h
        exact pkk_sound TTok mix hF 1 (hs := [.t false, .c, .c, .c, .c, .c, .c, .t false, .c, .c, .c, .c, .c, .c, .c, .t false, .c, .c, .c]) (ts := []) (s := [0]) (l := [1, 44]) (by kernel_rfl) (by kernel_rfl) (.cons (bf h604) (.cons (bf h610) (.cons (bf h613) .nil))) q
/- ringhall/code.Encode -/
def G_code_Encode (n : Nat) (v_i58 : S_api_Ins) : Option (Int × Int) :=
  (G_code_row n v_i58.fOp).bind fun (v_r61 : (ByteArray × Int)) =>
  if (v_r61.1.toList == (ByteArray.mk #[]).toList) = true then
   some (0, 4)
  else
   (G_code_Encode_C1 n v_r61 v_i58).bind fun v_o165 => match v_o165 with
   | .x0 v_z166 =>
     if v_z166 = true then
      some (0, 1)
     else
      (G_code_Encode_C2 n v_r61 v_i58).bind fun v_o200 => match v_o200 with
      | .x0 v_z201 =>
        if v_z201 = true then
         some (0, 3)
        else
         some ((bits .or .u32 (bits .or .u32 (bits .or .u32 (shlI .u32 (wi .u32 v_i58.fOp) 24) (shlI .u32 (wi .u32 v_i58.fA) 20)) (shlI .u32 (wi .u32 v_i58.fB) 16)) (wi .u32 (wi .u16 v_i58.fC))), 0)
theorem G_code_Encode_ok (n : Nat) (v_i58 : S_api_Ins) (r : Int × Int) (h : G_code_Encode n v_i58 = some r) : Ret Tryd.prog 11 [eS_api_Ins v_i58] (.tup [(eI .u32) r.1, (eI .i64) r.2]) := by
  refine ret_run (n := 92) (fn := Tryd.f11) (c := bodyOf Tryd.f11) (by kernel_rfl) (by kernel_rfl) (by kernel_rfl) (by kernel_rfl) ?_
  have hF : KC 92 (FinR Tryd.prog Tryd.f11 (.tup [(eI .u32) r.1, (eI .i64) r.2])) := FinR.kc' (by kernel_rfl)
  unfold G_code_Encode at h
  obtain ⟨v_r61, h429, h⟩ := bind_some h
  by_cases h558 : (v_r61.1.toList == (ByteArray.mk #[]).toList) = true
  · rw [if_pos h558] at h
    obtain rfl := Option.some.inj h
    exact pend_sound TTok mix 14 (hs := [.c, .r (.tup [eS v_r61.1, (eI .i64) v_r61.2]), .t true]) (by kernel_rfl) (by kernel_rfl) (by kernel_rfl) (.cons (G_code_row_ok n v_i58.fOp _ h429) (.cons h558 .nil))
  · rw [if_neg h558] at h
    obtain ⟨v_o165, h569, h⟩ := bind_some h
    refine pkk_sound TTok mix hF 10 (hs := [.c, .r (.tup [eS v_r61.1, (eI .i64) v_r61.2]), .t false]) (ts := []) (s := [0]) (l := [1, 5]) (by kernel_rfl) (by kernel_rfl) (.cons (G_code_row_ok n v_i58.fOp _ h429) (.cons (vf h558) .nil)) (G_code_Encode_C1_ok hF (.s (cR (cF (cR (cB (cL (cR (cR (bodyOf Tryd.f11)))))))) :: .b 0 :: .s (cR (cR (cR (bodyOf Tryd.f11)))) :: []) n v_r61 v_i58 _ h569 ?_)
    cases v_o165 with
    | x0 v_z166 =>
      try dsimp only at h
      by_cases h593 : v_z166 = true
      · rw [if_pos h593] at h
        obtain rfl := Option.some.inj h
        exact pend_sound TTok mix 6 (hs := [.t true]) (by kernel_rfl) (by kernel_rfl) (by kernel_rfl) (.cons h593 .nil)
      · rw [if_neg h593] at h
        obtain ⟨v_o200, h614, h⟩ := bind_some h
        refine pkk_sound TTok mix hF 2 (hs := [.t false]) (ts := []) (s := [0]) (l := [1, 5]) (by kernel_rfl) (by kernel_rfl) (.cons (vf h593) .nil) (G_code_Encode_C2_ok hF (.s (cR (cF (cR (cF (cR (cB (cL (cR (cR (bodyOf Tryd.f11)))))))))) :: .b 0 :: .s (cR (cR (cR (bodyOf Tryd.f11)))) :: []) n v_r61 v_i58 _ h614 ?_)
        cases v_o200 with
        | x0 v_z201 =>
          try dsimp only at h
          by_cases h615 : v_z201 = true
          · rw [if_pos h615] at h
            obtain rfl := Option.some.inj h
            exact pend_sound TTok mix 6 (hs := [.t true]) (by kernel_rfl) (by kernel_rfl) (by kernel_rfl) (.cons h615 .nil)
          · rw [if_neg h615] at h
            obtain rfl := Option.some.inj h
            exact pend_sound TTok mix 6 (hs := [.t false, .c, .c, .c, .c]) (by kernel_rfl) (by kernel_rfl) (by kernel_rfl) (.cons (vf h615) (.cons (show (0 : Int) ≤ 24 by decide) (.cons (show (0 : Int) ≤ 20 by decide) (.cons (show (0 : Int) ≤ 16 by decide) .nil))))
/- ringhall/code.Decode -/
def G_code_Decode (n : Nat) (v_w228 : Int) : Option (S_api_Ins × Int) :=
  (G_code_Encode n (S_api_Ins.mk (wi .i64 (shrI .u32 v_w228 24)) (wi .i64 (bits .and .u32 (shrI .u32 v_w228 20) 15)) (wi .i64 (bits .and .u32 (shrI .u32 v_w228 16) 15)) (wi .i64 (wi .i16 v_w228)))).bind fun (v_r237 : (Int × Int)) =>
  if v_r237.2 = 0 then
   if v_r237.1 = v_w228 then
    some ((S_api_Ins.mk (wi .i64 (shrI .u32 v_w228 24)) (wi .i64 (bits .and .u32 (shrI .u32 v_w228 20) 15)) (wi .i64 (bits .and .u32 (shrI .u32 v_w228 16) 15)) (wi .i64 (wi .i16 v_w228))), 0)
   else
    some ((S_api_Ins.mk 0 0 0 0), 3)
  else
   some ((S_api_Ins.mk 0 0 0 0), 3)
theorem G_code_Decode_ok (n : Nat) (v_w228 : Int) (r : S_api_Ins × Int) (h : G_code_Decode n v_w228 = some r) : Ret Tryd.prog 12 [(eI .u32) v_w228] (.tup [eS_api_Ins r.1, (eI .i64) r.2]) := by
  refine ret_run (n := 36) (fn := Tryd.f12) (c := bodyOf Tryd.f12) (by kernel_rfl) (by kernel_rfl) (by kernel_rfl) (by kernel_rfl) ?_
  have hF : KC 36 (FinR Tryd.prog Tryd.f12 (.tup [eS_api_Ins r.1, (eI .i64) r.2])) := FinR.kc' (by kernel_rfl)
  unfold G_code_Decode at h
  obtain ⟨v_r237, h623, h⟩ := bind_some h
  by_cases h624 : v_r237.2 = 0
  · rw [if_pos h624] at h
    by_cases h626 : v_r237.1 = v_w228
    · rw [if_pos h626] at h
      obtain rfl := Option.some.inj h
      exact pend_sound TTok mix 14 (hs := [.c, .c, .r (.tup [(eI .u32) v_r237.1, (eI .i64) v_r237.2]), .t false, .c, .c, .t false, .c, .c]) (by kernel_rfl) (by kernel_rfl) (by kernel_rfl) (.cons (show (0 : Int) ≤ 24 by decide) (.cons (show (0 : Int) ≤ 20 by decide) (.cons (show (0 : Int) ≤ 16 by decide) (.cons (show 0 + 4 ≤ 4 by decide) (.cons (G_code_Encode_ok n (S_api_Ins.mk (wi .i64 (shrI .u32 v_w228 24)) (wi .i64 (bits .and .u32 (shrI .u32 v_w228 20) 15)) (wi .i64 (bits .and .u32 (shrI .u32 v_w228 16) 15)) (wi .i64 (wi .i16 v_w228))) _ h623) (.cons (nf h624) (.cons (nf h626) (.cons (show 0 + 4 ≤ 4 by decide) .nil))))))))
    · rw [if_neg h626] at h
      obtain rfl := Option.some.inj h
      exact pend_sound TTok mix 14 (hs := [.c, .c, .r (.tup [(eI .u32) v_r237.1, (eI .i64) v_r237.2]), .t false, .c, .c, .t true, .c]) (by kernel_rfl) (by kernel_rfl) (by kernel_rfl) (.cons (show (0 : Int) ≤ 24 by decide) (.cons (show (0 : Int) ≤ 20 by decide) (.cons (show (0 : Int) ≤ 16 by decide) (.cons (show 0 + 4 ≤ 4 by decide) (.cons (G_code_Encode_ok n (S_api_Ins.mk (wi .i64 (shrI .u32 v_w228 24)) (wi .i64 (bits .and .u32 (shrI .u32 v_w228 20) 15)) (wi .i64 (bits .and .u32 (shrI .u32 v_w228 16) 15)) (wi .i64 (wi .i16 v_w228))) _ h623) (.cons (nf h624) (.cons (nt h626) (.cons (show 0 + 4 ≤ 4 by decide) .nil))))))))
  · rw [if_neg h624] at h
    obtain rfl := Option.some.inj h
    exact pend_sound TTok mix 14 (hs := [.c, .c, .r (.tup [(eI .u32) v_r237.1, (eI .i64) v_r237.2]), .t true, .c, .c, .c, .c]) (by kernel_rfl) (by kernel_rfl) (by kernel_rfl) (.cons (show (0 : Int) ≤ 24 by decide) (.cons (show (0 : Int) ≤ 20 by decide) (.cons (show (0 : Int) ≤ 16 by decide) (.cons (show 0 + 4 ≤ 4 by decide) (.cons (G_code_Encode_ok n (S_api_Ins.mk (wi .i64 (shrI .u32 v_w228 24)) (wi .i64 (bits .and .u32 (shrI .u32 v_w228 20) 15)) (wi .i64 (bits .and .u32 (shrI .u32 v_w228 16) 15)) (wi .i64 (wi .i16 v_w228))) _ h623) (.cons (nt h624) (.cons (show 0 + 4 ≤ 4 by decide) .nil)))))))
theorem one_byteCount {c : ByteArray} (h : c.size = 1) : ∃ x, c = ⟨#[x]⟩ := by
  obtain ⟨⟨l⟩⟩ := c
  match l, h with
  | [x], _ => exact ⟨x, rfl⟩
def G_strings_Count (n : Nat) (s c : ByteArray) : Option Int := if c.size = 1 then some (((Lib.countByte s.data.toList (c.data.toList.headD 0) : Nat) : Int)) else none
theorem G_strings_Count_ok (n : Nat) (s c : ByteArray) (r : Int) (h : G_strings_Count n s c = some r) : Ret Tryd.prog 26 [eS s, eS c] (eI .i64 r) := by
  unfold G_strings_Count at h
  split at h
  · rename_i q
    obtain rfl := Option.some.inj h
    obtain ⟨x, rfl⟩ := one_byteCount q
    refine ⟨⟨Tryd.f26, by kernel_rfl, by kernel_rfl, by kernel_rfl⟩, fun ow w vs _ hv => ?_⟩
    simp only [RT, R, eS, eI] at hv
    obtain ⟨_, _, rfl, ⟨rfl, _⟩, _, _, rfl, ⟨rfl, _⟩, rfl⟩ := hv
    refine (Tryd.strings_Count_one s x w).mono ?_
    rintro e w' ⟨rfl, rfl⟩
    exact ⟨_, rfl, Below.refl _ _, rfl, rfl⟩
  · cases h
theorem one_byteIndex {c : ByteArray} (h : c.size = 1) : ∃ x, c = ⟨#[x]⟩ := by
  obtain ⟨⟨l⟩⟩ := c
  match l, h with
  | [x], _ => exact ⟨x, rfl⟩
def G_strings_Index (n : Nat) (s c : ByteArray) : Option Int := if c.size = 1 then some (Lib.indexByte s.data.toList (c.data.toList.headD 0)) else none
theorem G_strings_Index_ok (n : Nat) (s c : ByteArray) (r : Int) (h : G_strings_Index n s c = some r) : Ret Tryd.prog 27 [eS s, eS c] (eI .i64 r) := by
  unfold G_strings_Index at h
  split at h
  · rename_i q
    obtain rfl := Option.some.inj h
    obtain ⟨x, rfl⟩ := one_byteIndex q
    refine ⟨⟨Tryd.f27, by kernel_rfl, by kernel_rfl, by kernel_rfl⟩, fun ow w vs _ hv => ?_⟩
    simp only [RT, R, eS, eI] at hv
    obtain ⟨_, _, rfl, ⟨rfl, _⟩, _, _, rfl, ⟨rfl, _⟩, rfl⟩ := hv
    refine (Tryd.strings_Index_one s x w).mono ?_
    rintro e w' ⟨rfl, rfl⟩
    exact ⟨_, rfl, Below.refl _ _, rfl, rfl⟩
  · cases h
inductive G_strings_genSplit_C1_R where
  | x0 (v_n283 : Int)
def G_strings_genSplit_C1_ex : G_strings_genSplit_C1_R → Ex
  | .x0 _ => .normal
def G_strings_genSplit_C1_st (v_s271 : ByteArray) (v_sep272 : ByteArray) (v_sepSave273 : Int) (v_n274 : Int) : G_strings_genSplit_C1_R → PS
  | .x0 v_n283 => ⟨[.d (.v (.string v_s271)), .d (.v (.string v_sep272)), .d (.v (.int .i64 v_sepSave273)), .d (.v (.int .i64 v_n283)), dd, dd, dd, dd, dd, dd, dd, dd, dd, dd, dd, dd, dd, dd, dd, dd, dd, dd, dd, dd, dd, dd, dd, dd, dd, dd, dd, dd, dd, dd, dd, dd, dd, dd, dd, dd, dd, dd, dd, dd, dd, dd, dd, dd, dd, dd, dd, dd, dd, dd, dd, dd, dd, dd, dd, dd, dd, dd, dd, dd, dd, dd], []⟩
def G_strings_genSplit_C1_hd (v_s271 : ByteArray) (v_sep272 : ByteArray) (v_sepSave273 : Int) (v_n274 : Int)  : PS := ⟨[.d (.v (.string v_s271)), .d (.v (.string v_sep272)), .d (.v (.int .i64 v_sepSave273)), .d (.v (.int .i64 v_n274)), dd, dd, dd, dd, dd, dd, dd, dd, dd, dd, dd, dd, dd, dd, dd, dd, .d (.v (.bool (decide (v_n274 < 0)))), dd, dd, dd, dd, dd, dd, dd, dd, dd, dd, dd, dd, dd, dd, dd, dd, dd, dd, dd, dd, dd, dd, dd, dd, dd, dd, dd, dd, dd, dd, dd, dd, dd, dd, dd, dd, dd, dd, dd, dd, dd, dd, dd, dd, dd], []⟩
def G_strings_genSplit_C1 (n : Nat) (v_s271 : ByteArray) (v_sep272 : ByteArray) (v_sepSave273 : Int) (v_n274 : Int) : Option G_strings_genSplit_C1_R :=
  if v_n274 < 0 then
   (G_strings_Count n v_s271 v_sep272).bind fun (v_r282 : (Int)) =>
   some (.x0 (wi .i64 (v_r282 + 1)))
  else
   some (.x0 v_n274)
theorem G_strings_genSplit_C1_ok {Fi : Ex → PS → Prop} (hF : KC 66 Fi) (ks : List Fr) (n : Nat) (v_s271 : ByteArray) (v_sep272 : ByteArray) (v_sepSave273 : Int) (v_n274 : Int)  (o : G_strings_genSplit_C1_R) (h : G_strings_genSplit_C1 n v_s271 v_sep272 v_sepSave273 v_n274 = some o) (q : RunE Tryd.prog 66 Fi ks (G_strings_genSplit_C1_ex o) (G_strings_genSplit_C1_st v_s271 v_sep272 v_sepSave273 v_n274 o)) : RunE Tryd.prog 66 Fi (.s (cR (cL (cR (cR (cR (bodyOf Tryd.f23)))))) :: ks) .normal (G_strings_genSplit_C1_hd v_s271 v_sep272 v_sepSave273 v_n274) := by
  unfold G_strings_genSplit_C1 at h
  by_cases h633 : v_n274 < 0
  · rw [if_pos h633] at h
    obtain ⟨v_r282, h634, h⟩ := bind_some h
    cases h
    exact pkk_sound TTok mix hF 2 (hs := [.t true, .r ((eI .i64) v_r282)]) (ts := []) (s := []) (l := [0, 1, 2, 3]) (by kernel_rfl) (by kernel_rfl) (.cons (dt h633) (.cons (G_strings_Count_ok n v_s271 v_sep272 _ h634) .nil)) q
  · rw [if_neg h633] at h
    cases h
    exact pkk_sound TTok mix hF 2 (hs := [.t false]) (ts := []) (s := []) (l := [0, 1, 2, 3]) (by kernel_rfl) (by kernel_rfl) (.cons (df h633) .nil) q
inductive G_strings_genSplit_L2_R where
  | x0 (v_s317 : ByteArray) (v_i318 : Int) (v_w319 : (List ByteArray))
def G_strings_genSplit_L2_ex : G_strings_genSplit_L2_R → Ex
  | .x0 _ _ _ => .exit 0
def G_strings_genSplit_L2_st (v_sep272 : ByteArray) (v_sepSave273 : Int) (v_z286 : Int) (v_s271 : ByteArray) : G_strings_genSplit_L2_R → PS
  | .x0 v_s317 v_i318 v_w319 => ⟨[.d (.v (.string v_s317)), dd, dd, dd, dd, dd, dd, dd, dd, .srf 0, .d (.v (.int .i64 v_i318)), dd, dd, dd, dd, dd, dd, dd, dd, dd, dd, dd, dd, dd, dd, dd, dd, dd, dd, dd, dd, dd, dd, dd, dd, dd, dd, dd, dd, dd, dd, dd, dd, dd, dd, dd, dd, dd, dd, dd, dd, dd, dd, dd, dd, dd, dd, dd, dd, dd, dd, dd, dd, dd, dd, dd], [.row 9 1 (v_w319.map eS)]⟩
def G_strings_genSplit_L2_hd (v_sep272 : ByteArray) (v_sepSave273 : Int) (v_z286 : Int) (v_s271 : ByteArray) (v_s309 : ByteArray) (v_i310 : Int) (v_w311 : (List ByteArray)) : PS := ⟨[.d (.v (.string v_s309)), .d (.v (.string v_sep272)), .d (.v (.int .i64 v_sepSave273)), .d (.v (.int .i64 (wi .i64 ((minI v_z286 (wi .i64 ((v_s271.size : Int) + 1))) - 1)))), dd, dd, dd, dd, dd, .srf 0, .d (.v (.int .i64 v_i310)), dd, dd, dd, dd, dd, dd, dd, dd, dd, dd, dd, dd, dd, dd, dd, dd, dd, dd, dd, dd, dd, dd, dd, dd, dd, dd, dd, dd, dd, dd, dd, dd, dd, dd, dd, dd, dd, dd, dd, dd, dd, dd, dd, dd, dd, dd, dd, dd, dd, dd, dd, dd, dd, dd, dd], [.row 9 1 (v_w311.map eS)]⟩
def G_strings_genSplit_L2 (n : Nat) (v_sep272 : ByteArray) (v_sepSave273 : Int) (v_z286 : Int) (v_s271 : ByteArray) : Nat → ByteArray → Int → (List ByteArray) → Option G_strings_genSplit_L2_R
  | 0, _, _, _ => none
  | k + 1, v_s309, v_i310, v_w311 =>
    if v_i310 < (wi .i64 ((minI v_z286 (wi .i64 ((v_s271.size : Int) + 1))) - 1)) then
     (G_strings_Index n v_s309 v_sep272).bind fun (v_r316 : (Int)) =>
     if v_r316 < 0 then
      some (.x0 v_s309 v_i310 v_w311)
     else
      (subS v_s309 0 (wi .i64 (v_r316 + v_sepSave273))).bind fun (v_s320 : ByteArray) =>
      if 0 ≤ v_i310 ∧ (v_i310).toNat < v_w311.length then
       (v_w311[(v_i310).toNat]?).bind fun (v_y321 : ByteArray) =>
       (subS v_s309 (wi .i64 (v_r316 + (v_sep272.size : Int))) (v_s309.size : Int)).bind fun (v_s322 : ByteArray) =>
       G_strings_genSplit_L2 n v_sep272 v_sepSave273 v_z286 v_s271 k v_s322 (wi .i64 (v_i310 + 1)) (v_w311.set (v_i310).toNat v_s320)
      else none
    else
     some (.x0 v_s309 v_i310 v_w311)
theorem G_strings_genSplit_L2_ok {Fi : Ex → PS → Prop} (hF : KC 66 Fi) (ks : List Fr) (n : Nat) (v_sep272 : ByteArray) (v_sepSave273 : Int) (v_z286 : Int) (v_s271 : ByteArray)  : ∀ (k : Nat) (v_s309 : ByteArray) (v_i310 : Int) (v_w311 : (List ByteArray)) (o : G_strings_genSplit_L2_R), G_strings_genSplit_L2 n v_sep272 v_sepSave273 v_z286 v_s271 k v_s309 v_i310 v_w311 = some o → RunE Tryd.prog 66 Fi ks (G_strings_genSplit_L2_ex o) (G_strings_genSplit_L2_st v_sep272 v_sepSave273 v_z286 v_s271 o) → RunE Tryd.prog 66 Fi (.l k (cP (cB (cL (cR (cR (cR (cR (cR (cR (cR (cR (bodyOf Tryd.f23)))))))))))) :: ks) .normal (G_strings_genSplit_L2_hd v_sep272 v_sepSave273 v_z286 v_s271 v_s309 v_i310 v_w311)
  | 0, v_s309, v_i310, v_w311, o, h, q => by rw [G_strings_genSplit_L2] at h; cases h
  | k + 1, v_s309, v_i310, v_w311, o, h, q => by
    rw [G_strings_genSplit_L2] at h
    by_cases h637 : v_i310 < (wi .i64 ((minI v_z286 (wi .i64 ((v_s271.size : Int) + 1))) - 1))
    · rw [if_pos h637] at h
      obtain ⟨v_r316, h644, h⟩ := bind_some h
      by_cases h645 : v_r316 < 0
      · rw [if_pos h645] at h
        cases h
        exact pkk_sound TTok mix hF 17 (hs := [.t true, .r ((eI .i64) v_r316), .t true]) (ts := []) (s := [0]) (l := [0, 9, 10]) (by kernel_rfl) (by kernel_rfl) (.cons (dt h637) (.cons (G_strings_Index_ok n v_s309 v_sep272 _ h644) (.cons (dt h645) .nil))) q
      · rw [if_neg h645] at h
        obtain ⟨v_s320, h646, h⟩ := bind_some h
        by_cases h647 : 0 ≤ v_i310 ∧ (v_i310).toNat < v_w311.length
        · rw [if_pos h647] at h
          obtain ⟨v_y321, h648, h⟩ := bind_some h
          obtain ⟨v_s322, h649, h⟩ := bind_some h
          exact pkk_sound TTok mix hF 20 (hs := [.t true, .r ((eI .i64) v_r316), .t false, .e 76 [] (.d (.v (.string v_s320))) [], .w ((v_w311.set (v_i310).toNat v_s320).map eS), .y (eS v_y321), .e 116 [] (.d (.v (.string v_s322))) []]) (ts := []) (s := [0]) (l := [0, 1, 2, 3, 9, 10]) (by kernel_rfl) (by kernel_rfl) (.cons (dt h637) (.cons (G_strings_Index_ok n v_s309 v_sep272 _ h644) (.cons (df h645) (.cons (xsub01 (P := Tryd.prog) (T := TT) (t := 9) (x := (.tmp 44)) (p := v_s309) (r := v_s320) (hi := (.tmp 47)) (h := (wi .i64 (v_r316 + v_sepSave273))) (kb := .i64) (by kernel_rfl) h646) (.cons (idx_ob (f := eS) h647) (.cons (get_ob (f := eS) h648) (.cons (Eq.refl (pcells (.v (.string v_s320)))) (.cons (set_ob (f := eS) (l := v_w311) (k := (v_i310).toNat) (z := v_s320) (p := .v (.string v_s320)) rfl) (.cons (xsub10 (P := Tryd.prog) (T := TT) (t := 9) (x := (.tmp 50)) (p := v_s309) (r := v_s322) (lo := (.tmp 54)) (i := (wi .i64 (v_r316 + (v_sep272.size : Int)))) (ka := .i64) (by kernel_rfl) h649) .nil))))))))) (G_strings_genSplit_L2_ok hF ks n v_sep272 v_sepSave273 v_z286 v_s271 k v_s322 (wi .i64 (v_i310 + 1)) (v_w311.set (v_i310).toNat v_s320) _ h q)
        · rw [if_neg h647] at h; cases h
    · rw [if_neg h637] at h
      cases h
      exact pkk_sound TTok mix hF 8 (hs := [.t false]) (ts := []) (s := [0]) (l := [0, 9, 10]) (by kernel_rfl) (by kernel_rfl) (.cons (df h637) .nil) q
/- strings.genSplit -/
def G_strings_genSplit (n : Nat) (v_s271 : ByteArray) (v_sep272 : ByteArray) (v_sepSave273 : Int) (v_n274 : Int) : Option ((List ByteArray)) :=
  if v_n274 = 0 then
   some ([] : (List ByteArray))
  else
   if (v_sep272.toList == (ByteArray.mk #[]).toList) = true then
    none
   else
    (G_strings_genSplit_C1 n v_s271 v_sep272 v_sepSave273 v_n274).bind fun v_o285 => match v_o285 with
    | .x0 v_z286 =>
      (mkL 16 (ByteArray.mk #[]) (minI v_z286 (wi .i64 ((v_s271.size : Int) + 1)))).bind fun (v_m291 : (List ByteArray)) =>
      (G_strings_genSplit_L2 n v_sep272 v_sepSave273 v_z286 v_s271 n v_s271 0 v_m291).bind fun v_o326 => match v_o326 with
      | .x0 v_z327 v_z328 v_z329 =>
        if 0 ≤ v_z328 ∧ (v_z328).toNat < v_z329.length then
         (v_z329[(v_z328).toNat]?).bind fun (v_y330 : ByteArray) =>
         (sub (v_z329.set (v_z328).toNat v_z327) 0 (wi .i64 (v_z328 + 1))).bind fun (v_s331 : (List ByteArray)) =>
         some v_s331
        else none
theorem G_strings_genSplit_ok (n : Nat) (v_s271 : ByteArray) (v_sep272 : ByteArray) (v_sepSave273 : Int) (v_n274 : Int) (r : (List ByteArray)) (h : G_strings_genSplit n v_s271 v_sep272 v_sepSave273 v_n274 = some r) : Ret Tryd.prog 23 [eS v_s271, eS v_sep272, (eI .i64) v_sepSave273, (eI .i64) v_n274] ((eL eS) r) := by
  refine ret_run (n := 66) (fn := Tryd.f23) (c := bodyOf Tryd.f23) (by kernel_rfl) (by kernel_rfl) (by kernel_rfl) (by kernel_rfl) ?_
  have hF : KC 66 (FinR Tryd.prog Tryd.f23 ((eL eS) r)) := FinR.kc' (by kernel_rfl)
  unfold G_strings_genSplit at h
  by_cases h628 : v_n274 = 0
  · rw [if_pos h628] at h
    obtain rfl := Option.some.inj h
    exact pend_sound TTok mix 10 (hs := [.t true]) (by kernel_rfl) (by kernel_rfl) (by kernel_rfl) (.cons (bt h628) .nil)
  · rw [if_neg h628] at h
    by_cases h630 : (v_sep272.toList == (ByteArray.mk #[]).toList) = true
    · rw [if_pos h630] at h
      cases h
    · rw [if_neg h630] at h
      obtain ⟨v_o285, h635, h⟩ := bind_some h
      refine pkk_sound TTok mix hF 15 (hs := [.t false, .t false]) (ts := []) (s := []) (l := [0, 1, 2, 3, 20]) (by kernel_rfl) (by kernel_rfl) (.cons (bf h628) (.cons (vf h630) .nil)) (G_strings_genSplit_C1_ok hF (.s (cR (cR (cR (cR (bodyOf Tryd.f23))))) :: []) n v_s271 v_sep272 v_sepSave273 v_n274 _ h635 ?_)
      cases v_o285 with
      | x0 v_z286 =>
        try dsimp only at h
        obtain ⟨v_m291, h636, h⟩ := bind_some h
        obtain ⟨v_o326, h650, h⟩ := bind_some h
        refine pkk_sound TTok mix hF 11 (hs := [.w (v_m291.map eS), .n n]) (ts := []) (s := [35]) (l := [0, 1, 2, 3, 9, 10]) (by kernel_rfl) (by kernel_rfl) (.cons (mkL_ob (f := eS) (p := .v (.string ⟨#[]⟩)) h636 rfl).1 (.cons (mkL_ob (f := eS) (p := .v (.string ⟨#[]⟩)) h636 rfl).2.1 (.cons (mkL_ob (f := eS) (p := .v (.string ⟨#[]⟩)) h636 rfl).2.2.1 (.cons (mkL_ob (f := eS) (p := .v (.string ⟨#[]⟩)) h636 rfl).2.2.2.1 (.cons (mkL_ob (f := eS) (p := .v (.string ⟨#[]⟩)) h636 rfl).2.2.2.2 .nil))))) (G_strings_genSplit_L2_ok hF (.b 0 :: .s (cR (cR (cR (cR (cR (cR (cR (cR (cR (bodyOf Tryd.f23)))))))))) :: []) n v_sep272 v_sepSave273 v_z286 v_s271 n v_s271 0 v_m291 _ h650 ?_)
        cases v_o326 with
        | x0 v_z327 v_z328 v_z329 =>
          try dsimp only at h
          by_cases h651 : 0 ≤ v_z328 ∧ (v_z328).toNat < v_z329.length
          · rw [if_pos h651] at h
            obtain ⟨v_y330, h652, h⟩ := bind_some h
            obtain ⟨v_s331, h653, h⟩ := bind_some h
            obtain rfl := Option.some.inj h
            exact pend_sound TTok mix 6 (hs := [.w ((v_z329.set (v_z328).toNat v_z327).map eS), .y (eS v_y330), .w (v_s331.map eS)]) (by kernel_rfl) (by kernel_rfl) (by kernel_rfl) (.cons (idx_ob (f := eS) h651) (.cons (get_ob (f := eS) h652) (.cons (Eq.refl (pcells (.v (.string v_z327)))) (.cons (set_ob (f := eS) (l := v_z329) (k := (v_z328).toNat) (z := v_z327) (p := .v (.string v_z327)) rfl) (.cons (Eq.refl (0 : Int)) (.cons (subR_ob (f := eS) h653).1 (.cons (subR_ob (f := eS) h653).2.1 (.cons (subR_ob (f := eS) h653).2.2 .nil))))))))
          · rw [if_neg h651] at h; cases h
/- strings.Split -/
def G_strings_Split (n : Nat) (v_s269 : ByteArray) (v_sep270 : ByteArray) : Option ((List ByteArray)) :=
  (G_strings_genSplit n v_s269 v_sep270 0 (-1)).bind fun (v_r332 : ((List ByteArray))) =>
  some v_r332
theorem G_strings_Split_ok (n : Nat) (v_s269 : ByteArray) (v_sep270 : ByteArray) (r : (List ByteArray)) (h : G_strings_Split n v_s269 v_sep270 = some r) : Ret Tryd.prog 18 [eS v_s269, eS v_sep270] ((eL eS) r) := by
  refine ret_run (n := 8) (fn := Tryd.f18) (c := bodyOf Tryd.f18) (by kernel_rfl) (by kernel_rfl) (by kernel_rfl) (by kernel_rfl) ?_
  have hF : KC 8 (FinR Tryd.prog Tryd.f18 ((eL eS) r)) := FinR.kc' (by kernel_rfl)
  unfold G_strings_Split at h
  obtain ⟨v_r332, h654, h⟩ := bind_some h
  obtain rfl := Option.some.inj h
  exact pend_sound TTok mix 5 (hs := [.r ((eL eS) v_r332)]) (by kernel_rfl) (by kernel_rfl) (by kernel_rfl) (.cons (G_strings_genSplit_ok n v_s269 v_sep270 0 (-1) _ h654) .nil)
/- ringhall/ringref5.Words -/
def G_ringref5_Words (n : Nat)  : Option ((List ByteArray)) :=
  (G_strings_Split n (ByteArray.mk #[104, 97, 108, 116, 32, 115, 101, 116, 32, 104, 105, 103, 104, 32, 109, 111, 118, 101, 32, 97, 100, 100, 32, 115, 117, 98, 32, 109, 117, 108, 32, 100, 105, 118, 32, 97, 110, 100, 32, 111, 114, 32, 120, 111, 114, 32, 108, 101, 102, 116, 32, 114, 105, 103, 104, 116, 32, 112, 108, 117, 115, 32, 108, 111, 97, 100, 32, 108, 111, 97, 100, 98, 32, 115, 116, 111, 114, 101, 32, 115, 116, 111, 114, 101, 98, 32, 106, 117, 109, 112, 32, 122, 101, 114, 111, 32, 108, 101, 115, 115, 32, 99, 97, 108, 108, 32, 98, 97, 99, 107, 32, 115, 121, 115, 32, 115, 119, 97, 112, 32, 104, 111, 109, 101]) (ByteArray.mk #[32])).bind fun (v_r333 : ((List ByteArray))) =>
  some v_r333
theorem G_ringref5_Words_ok (n : Nat)  (r : (List ByteArray)) (h : G_ringref5_Words n  = some r) : Ret Tryd.prog 14 [] ((eL eS) r) := by
  refine ret_run (n := 2) (fn := Tryd.f14) (c := bodyOf Tryd.f14) (by kernel_rfl) (by kernel_rfl) (by kernel_rfl) (by kernel_rfl) ?_
  have hF : KC 2 (FinR Tryd.prog Tryd.f14 ((eL eS) r)) := FinR.kc' (by kernel_rfl)
  unfold G_ringref5_Words at h
  obtain ⟨v_r333, h655, h⟩ := bind_some h
  obtain rfl := Option.some.inj h
  exact pend_sound TTok mix 5 (hs := [.r ((eL eS) v_r333)]) (by kernel_rfl) (by kernel_rfl) (by kernel_rfl) (.cons (G_strings_Split_ok n (ByteArray.mk #[104, 97, 108, 116, 32, 115, 101, 116, 32, 104, 105, 103, 104, 32, 109, 111, 118, 101, 32, 97, 100, 100, 32, 115, 117, 98, 32, 109, 117, 108, 32, 100, 105, 118, 32, 97, 110, 100, 32, 111, 114, 32, 120, 111, 114, 32, 108, 101, 102, 116, 32, 114, 105, 103, 104, 116, 32, 112, 108, 117, 115, 32, 108, 111, 97, 100, 32, 108, 111, 97, 100, 98, 32, 115, 116, 111, 114, 101, 32, 115, 116, 111, 114, 101, 98, 32, 106, 117, 109, 112, 32, 122, 101, 114, 111, 32, 108, 101, 115, 115, 32, 99, 97, 108, 108, 32, 98, 97, 99, 107, 32, 115, 121, 115, 32, 115, 119, 97, 112, 32, 104, 111, 109, 101]) (ByteArray.mk #[32]) _ h655) .nil)
inductive G_slices_Index_string_string_L1_R where
  | x0 (v_x342 : Int)
  | x1 
def G_slices_Index_string_string_L1_ex : G_slices_Index_string_string_L1_R → Ex
  | .x0 _ => .ret
  | .x1  => .exit 0
def G_slices_Index_string_string_L1_st (v_s335 : (List ByteArray)) (v_v336 : ByteArray) : G_slices_Index_string_string_L1_R → PS
  | .x0 v_x342 => ⟨[dd, dd, dd, dd, .d (.v (.int .i64 v_x342)), dd, dd, dd, dd, dd, dd, dd, dd, dd, dd, dd, dd, dd, dd], []⟩
  | .x1  => ⟨[dd, dd, dd, dd, dd, dd, dd, dd, dd, dd, dd, dd, dd, dd, dd, dd, dd, dd, dd], []⟩
def G_slices_Index_string_string_L1_hd (v_s335 : (List ByteArray)) (v_v336 : ByteArray) (v_x339 : Int) : PS := ⟨[.d (.sl (v_s335.map eS)), .d (.v (.string v_v336)), dd, dd, dd, dd, dd, .d (.v (.int .i64 (v_s335.length : Int))), .d (.v (.int .i64 v_x339)), dd, dd, dd, dd, dd, dd, dd, dd, dd, dd], []⟩
def G_slices_Index_string_string_L1 (n : Nat) (v_s335 : (List ByteArray)) (v_v336 : ByteArray) : Nat → Int → Option G_slices_Index_string_string_L1_R
  | 0, _ => none
  | k + 1, v_x339 =>
    if v_x339 < (v_s335.length : Int) then
     (getI v_s335 v_x339).bind fun (v_y341 : ByteArray) =>
     if (v_v336.toList == v_y341.toList) = true then
      some (.x0 v_x339)
     else
      G_slices_Index_string_string_L1 n v_s335 v_v336 k (wi .i64 (v_x339 + 1))
    else
     some (.x1 )
theorem G_slices_Index_string_string_L1_ok {Fi : Ex → PS → Prop} (hF : KC 19 Fi) (ks : List Fr) (n : Nat) (v_s335 : (List ByteArray)) (v_v336 : ByteArray)  : ∀ (k : Nat) (v_x339 : Int) (o : G_slices_Index_string_string_L1_R), G_slices_Index_string_string_L1 n v_s335 v_v336 k v_x339 = some o → RunE Tryd.prog 19 Fi ks (G_slices_Index_string_string_L1_ex o) (G_slices_Index_string_string_L1_st v_s335 v_v336 o) → RunE Tryd.prog 19 Fi (.l k (cP (cB (cR (cL (cR (bodyOf Tryd.f13)))))) :: ks) .normal (G_slices_Index_string_string_L1_hd v_s335 v_v336 v_x339)
  | 0, v_x339, o, h, q => by rw [G_slices_Index_string_string_L1] at h; cases h
  | k + 1, v_x339, o, h, q => by
    rw [G_slices_Index_string_string_L1] at h
    by_cases h657 : v_x339 < (v_s335.length : Int)
    · rw [if_pos h657] at h
      obtain ⟨v_y341, h660, h⟩ := bind_some h
      by_cases h661 : (v_v336.toList == v_y341.toList) = true
      · rw [if_pos h661] at h
        cases h
        exact pkk_sound TTok mix hF 19 (hs := [.t true, .y (eS v_y341), .c, .t true]) (ts := []) (s := []) (l := [4]) (by kernel_rfl) (by kernel_rfl) (.cons (dt h657) (.cons (getI_ob (f := eS) h660) (.cons h661 .nil))) q
      · rw [if_neg h661] at h
        exact pkk_sound TTok mix hF 16 (hs := [.t true, .y (eS v_y341), .c, .t false]) (ts := []) (s := []) (l := [0, 1, 7, 8]) (by kernel_rfl) (by kernel_rfl) (.cons (dt h657) (.cons (getI_ob (f := eS) h660) (.cons (vf h661) .nil))) (G_slices_Index_string_string_L1_ok hF ks n v_s335 v_v336 k (wi .i64 (v_x339 + 1)) _ h q)
    · rw [if_neg h657] at h
      cases h
      exact pkk_sound TTok mix hF 8 (hs := [.t false]) (ts := []) (s := []) (l := []) (by kernel_rfl) (by kernel_rfl) (.cons (df h657) .nil) q
/- slices.Index[[]string,string] -/
def G_slices_Index_string_string (n : Nat) (v_s335 : (List ByteArray)) (v_v336 : ByteArray) : Option (Int) :=
  (G_slices_Index_string_string_L1 n v_s335 v_v336 n 0).bind fun v_o343 => match v_o343 with
  | .x0 v_z344 =>
    some v_z344
  | .x1  =>
    some (-1)
theorem G_slices_Index_string_string_ok (n : Nat) (v_s335 : (List ByteArray)) (v_v336 : ByteArray) (r : Int) (h : G_slices_Index_string_string n v_s335 v_v336 = some r) : Ret Tryd.prog 13 [(eL eS) v_s335, eS v_v336] ((eI .i64) r) := by
  refine ret_run (n := 19) (fn := Tryd.f13) (c := bodyOf Tryd.f13) (by kernel_rfl) (by kernel_rfl) (by kernel_rfl) (by kernel_rfl) ?_
  have hF : KC 19 (FinR Tryd.prog Tryd.f13 ((eI .i64) r)) := FinR.kc' (by kernel_rfl)
  unfold G_slices_Index_string_string at h
  obtain ⟨v_o343, h662, h⟩ := bind_some h
  refine pkk_sound TTok mix hF 7 (hs := [.u (.d (.v (.int .i64 (v_s335.length : Int)))), .n n]) (ts := []) (s := []) (l := [0, 1, 7, 8]) (by kernel_rfl) (by kernel_rfl) (.cons (len_ob (f := eS) (l := v_s335)) .nil) (G_slices_Index_string_string_L1_ok hF (.b 0 :: .s (cR (cR (bodyOf Tryd.f13))) :: []) n v_s335 v_v336 n 0 _ h662 ?_)
  cases v_o343 with
  | x0 v_z344 =>
    try dsimp only at h
    obtain rfl := Option.some.inj h
    exact pend_sound TTok mix 2 (hs := []) (by kernel_rfl) (by kernel_rfl) (by kernel_rfl) .nil
  | x1  =>
    try dsimp only at h
    obtain rfl := Option.some.inj h
    exact pend_sound TTok mix 4 (hs := []) (by kernel_rfl) (by kernel_rfl) (by kernel_rfl) .nil
inductive G_ringref5_fieldsOf_C1_R where
  | x0 (v_a532 : Bool)
def G_ringref5_fieldsOf_C1_ex : G_ringref5_fieldsOf_C1_R → Ex
  | .x0 _ => .normal
def G_ringref5_fieldsOf_C1_st (v_op531 : Int) : G_ringref5_fieldsOf_C1_R → PS
  | .x0 v_a532 => ⟨[.d (.v (.int .i64 v_op531)), dd, dd, dd, dd, .d (.v (.bool v_a532)), dd, dd, dd, dd, dd, dd, dd, dd, dd, dd, dd, dd, dd, dd, dd, dd, dd, dd, dd, dd, dd, dd, dd, dd, dd, dd, dd, dd, dd, dd, dd, dd, dd, dd, dd, dd, dd, dd, dd, dd, dd, dd, dd, dd, dd, dd, dd], []⟩
def G_ringref5_fieldsOf_C1_hd (v_op531 : Int)  : PS := ⟨[.d (.v (.int .i64 v_op531)), dd, dd, dd, dd, dd, dd, dd, dd, dd, dd, dd, dd, dd, dd, dd, dd, dd, dd, dd, dd, dd, dd, dd, dd, dd, dd, dd, dd, dd, dd, dd, dd, dd, dd, dd, dd, dd, dd, dd, dd, dd, dd, dd, dd, dd, dd, dd, dd, dd, dd, dd, dd], []⟩
def G_ringref5_fieldsOf_C1 (n : Nat) (v_op531 : Int) : Option G_ringref5_fieldsOf_C1_R :=
  if v_op531 > 1 then
   if v_op531 = 19 then
    some (.x0 false)
   else
    some (.x0 (v_op531 != 24))
  else
   some (.x0 false)
theorem G_ringref5_fieldsOf_C1_ok {Fi : Ex → PS → Prop} (hF : KC 53 Fi) (ks : List Fr) (n : Nat) (v_op531 : Int)  (o : G_ringref5_fieldsOf_C1_R) (h : G_ringref5_fieldsOf_C1 n v_op531 = some o) (q : RunE Tryd.prog 53 Fi ks (G_ringref5_fieldsOf_C1_ex o) (G_ringref5_fieldsOf_C1_st v_op531 o)) : RunE Tryd.prog 53 Fi (.s (cL (cR (bodyOf Tryd.f22))) :: ks) .normal (G_ringref5_fieldsOf_C1_hd v_op531) := by
  unfold G_ringref5_fieldsOf_C1 at h
  by_cases h713 : v_op531 > 1
  · rw [if_pos h713] at h
    by_cases h714 : v_op531 = 19
    · rw [if_pos h714] at h
      cases h
      exact pkk_sound TTok mix hF 1 (hs := [.t true, .c, .t false, .c]) (ts := []) (s := []) (l := [0, 5]) (by kernel_rfl) (by kernel_rfl) (.cons (dt h713) (.cons (nf h714) .nil)) q
    · rw [if_neg h714] at h
      cases h
      exact pkk_sound TTok mix hF 1 (hs := [.t true, .c, .t true, .c]) (ts := []) (s := []) (l := [0, 5]) (by kernel_rfl) (by kernel_rfl) (.cons (dt h713) (.cons (nt h714) .nil)) q
  · rw [if_neg h713] at h
    cases h
    exact pkk_sound TTok mix hF 1 (hs := [.t false, .c, .c, .c]) (ts := []) (s := []) (l := [0, 5]) (by kernel_rfl) (by kernel_rfl) (.cons (df h713) .nil) q
inductive G_ringref5_fieldsOf_C2_R where
  | x0 (v_b539 : Bool)
def G_ringref5_fieldsOf_C2_ex : G_ringref5_fieldsOf_C2_R → Ex
  | .x0 _ => .normal
def G_ringref5_fieldsOf_C2_st (v_op531 : Int) (v_z536 : Bool) : G_ringref5_fieldsOf_C2_R → PS
  | .x0 v_b539 => ⟨[.d (.v (.int .i64 v_op531)), dd, dd, dd, dd, .d (.v (.bool v_z536)), .d (.v (.bool v_b539)), dd, dd, dd, dd, dd, dd, dd, dd, dd, dd, dd, dd, dd, dd, dd, dd, dd, dd, dd, dd, dd, dd, dd, dd, dd, dd, dd, dd, dd, dd, dd, dd, dd, dd, dd, dd, dd, dd, dd, dd, dd, dd, dd, dd, dd, dd], []⟩
def G_ringref5_fieldsOf_C2_hd (v_op531 : Int) (v_z536 : Bool)  : PS := ⟨[.d (.v (.int .i64 v_op531)), dd, dd, dd, dd, .d (.v (.bool v_z536)), dd, dd, dd, dd, dd, dd, dd, dd, dd, dd, dd, dd, dd, dd, dd, dd, dd, dd, dd, dd, dd, dd, dd, dd, dd, dd, dd, dd, dd, dd, dd, dd, dd, dd, dd, dd, dd, dd, dd, dd, dd, dd, dd, dd, dd, dd, dd], []⟩
def G_ringref5_fieldsOf_C2 (n : Nat) (v_op531 : Int) (v_z536 : Bool) : Option G_ringref5_fieldsOf_C2_R :=
  if v_op531 ≥ 4 then
   if v_op531 ≤ 18 then
    some (.x0 true)
   else
    if v_op531 = 21 then
     some (.x0 true)
    else
     some (.x0 (v_op531 == 25))
  else
   if v_op531 = 21 then
    some (.x0 true)
   else
    some (.x0 (v_op531 == 25))
theorem G_ringref5_fieldsOf_C2_ok {Fi : Ex → PS → Prop} (hF : KC 53 Fi) (ks : List Fr) (n : Nat) (v_op531 : Int) (v_z536 : Bool)  (o : G_ringref5_fieldsOf_C2_R) (h : G_ringref5_fieldsOf_C2 n v_op531 v_z536 = some o) (q : RunE Tryd.prog 53 Fi ks (G_ringref5_fieldsOf_C2_ex o) (G_ringref5_fieldsOf_C2_st v_op531 v_z536 o)) : RunE Tryd.prog 53 Fi (.s (cL (cR (cR (bodyOf Tryd.f22)))) :: ks) .normal (G_ringref5_fieldsOf_C2_hd v_op531 v_z536) := by
  unfold G_ringref5_fieldsOf_C2 at h
  by_cases h720 : v_op531 ≥ 4
  · rw [if_pos h720] at h
    by_cases h721 : v_op531 ≤ 18
    · rw [if_pos h721] at h
      cases h
      exact pkk_sound TTok mix hF 1 (hs := [.t true, .c, .t true, .c, .c, .c]) (ts := []) (s := []) (l := [0, 5, 6]) (by kernel_rfl) (by kernel_rfl) (.cons (dt h720) (.cons (dt h721) .nil)) q
    · rw [if_neg h721] at h
      by_cases h722 : v_op531 = 21
      · rw [if_pos h722] at h
        cases h
        exact pkk_sound TTok mix hF 1 (hs := [.t true, .c, .t false, .c, .t true, .c]) (ts := []) (s := []) (l := [0, 5, 6]) (by kernel_rfl) (by kernel_rfl) (.cons (dt h720) (.cons (df h721) (.cons (bt h722) .nil))) q
      · rw [if_neg h722] at h
        cases h
        exact pkk_sound TTok mix hF 1 (hs := [.t true, .c, .t false, .c, .t false, .c]) (ts := []) (s := []) (l := [0, 5, 6]) (by kernel_rfl) (by kernel_rfl) (.cons (dt h720) (.cons (df h721) (.cons (bf h722) .nil))) q
  · rw [if_neg h720] at h
    by_cases h723 : v_op531 = 21
    · rw [if_pos h723] at h
      cases h
      exact pkk_sound TTok mix hF 1 (hs := [.t false, .c, .c, .c, .t true, .c]) (ts := []) (s := []) (l := [0, 5, 6]) (by kernel_rfl) (by kernel_rfl) (.cons (df h720) (.cons (bt h723) .nil)) q
    · rw [if_neg h723] at h
      cases h
      exact pkk_sound TTok mix hF 1 (hs := [.t false, .c, .c, .c, .t false, .c]) (ts := []) (s := []) (l := [0, 5, 6]) (by kernel_rfl) (by kernel_rfl) (.cons (df h720) (.cons (bf h723) .nil)) q
inductive G_ringref5_fieldsOf_C3_R where
  | x0 (v_c550 : Bool)
def G_ringref5_fieldsOf_C3_ex : G_ringref5_fieldsOf_C3_R → Ex
  | .x0 _ => .normal
def G_ringref5_fieldsOf_C3_st (v_op531 : Int) (v_z536 : Bool) (v_z545 : Bool) : G_ringref5_fieldsOf_C3_R → PS
  | .x0 v_c550 => ⟨[dd, dd, dd, dd, dd, .d (.v (.bool v_z536)), .d (.v (.bool v_z545)), .d (.v (.bool v_c550)), dd, dd, dd, dd, dd, dd, dd, dd, dd, dd, dd, dd, dd, dd, dd, dd, dd, dd, dd, dd, dd, dd, dd, dd, dd, dd, dd, dd, dd, dd, dd, dd, dd, dd, dd, dd, dd, dd, dd, dd, dd, dd, dd, dd, dd], []⟩
def G_ringref5_fieldsOf_C3_hd (v_op531 : Int) (v_z536 : Bool) (v_z545 : Bool)  : PS := ⟨[.d (.v (.int .i64 v_op531)), dd, dd, dd, dd, .d (.v (.bool v_z536)), .d (.v (.bool v_z545)), dd, dd, dd, dd, dd, dd, dd, dd, dd, dd, dd, dd, dd, dd, dd, dd, dd, dd, dd, dd, dd, dd, dd, dd, dd, dd, dd, dd, dd, dd, dd, dd, dd, dd, dd, dd, dd, dd, dd, dd, dd, dd, dd, dd, dd, dd], []⟩
def G_ringref5_fieldsOf_C3 (n : Nat) (v_op531 : Int) (v_z536 : Bool) (v_z545 : Bool) : Option G_ringref5_fieldsOf_C3_R :=
  if v_op531 = 2 then
   some (.x0 true)
  else
   if v_op531 = 3 then
    some (.x0 true)
   else
    if v_op531 ≥ 14 then
     if v_op531 ≤ 22 then
      some (.x0 true)
     else
      some (.x0 (v_op531 == 25))
    else
     some (.x0 (v_op531 == 25))
theorem G_ringref5_fieldsOf_C3_ok {Fi : Ex → PS → Prop} (hF : KC 53 Fi) (ks : List Fr) (n : Nat) (v_op531 : Int) (v_z536 : Bool) (v_z545 : Bool)  (o : G_ringref5_fieldsOf_C3_R) (h : G_ringref5_fieldsOf_C3 n v_op531 v_z536 v_z545 = some o) (q : RunE Tryd.prog 53 Fi ks (G_ringref5_fieldsOf_C3_ex o) (G_ringref5_fieldsOf_C3_st v_op531 v_z536 v_z545 o)) : RunE Tryd.prog 53 Fi (.s (cL (cR (cR (cR (bodyOf Tryd.f22))))) :: ks) .normal (G_ringref5_fieldsOf_C3_hd v_op531 v_z536 v_z545) := by
  unfold G_ringref5_fieldsOf_C3 at h
  by_cases h729 : v_op531 = 2
  · rw [if_pos h729] at h
    cases h
    exact pkk_sound TTok mix hF 1 (hs := [.t true, .c, .c, .c, .c, .c, .c, .c]) (ts := []) (s := []) (l := [5, 6, 7]) (by kernel_rfl) (by kernel_rfl) (.cons (bt h729) .nil) q
  · rw [if_neg h729] at h
    by_cases h730 : v_op531 = 3
    · rw [if_pos h730] at h
      cases h
      exact pkk_sound TTok mix hF 1 (hs := [.t false, .c, .t true, .c, .c, .c, .c, .c]) (ts := []) (s := []) (l := [5, 6, 7]) (by kernel_rfl) (by kernel_rfl) (.cons (bf h729) (.cons (bt h730) .nil)) q
    · rw [if_neg h730] at h
      by_cases h731 : v_op531 ≥ 14
      · rw [if_pos h731] at h
        by_cases h732 : v_op531 ≤ 22
        · rw [if_pos h732] at h
          cases h
          exact pkk_sound TTok mix hF 1 (hs := [.t false, .c, .t false, .c, .c, .t true, .c, .c, .t true, .c]) (ts := []) (s := []) (l := [5, 6, 7]) (by kernel_rfl) (by kernel_rfl) (.cons (bf h729) (.cons (bf h730) (.cons (dt h731) (.cons (dt h732) .nil)))) q
        · rw [if_neg h732] at h
          cases h
          exact pkk_sound TTok mix hF 1 (hs := [.t false, .c, .t false, .c, .c, .t true, .c, .c, .t false, .c]) (ts := []) (s := []) (l := [5, 6, 7]) (by kernel_rfl) (by kernel_rfl) (.cons (bf h729) (.cons (bf h730) (.cons (dt h731) (.cons (df h732) .nil)))) q
      · rw [if_neg h731] at h
        cases h
        exact pkk_sound TTok mix hF 1 (hs := [.t false, .c, .t false, .c, .c, .t false, .c, .c, .c, .c]) (ts := []) (s := []) (l := [5, 6, 7]) (by kernel_rfl) (by kernel_rfl) (.cons (bf h729) (.cons (bf h730) (.cons (df h731) .nil))) q
/- ringhall/ringref5.fieldsOf -/
def G_ringref5_fieldsOf (n : Nat) (v_op531 : Int) : Option (Bool × Bool × Bool) :=
  (G_ringref5_fieldsOf_C1 n v_op531).bind fun v_o535 => match v_o535 with
  | .x0 v_z536 =>
    (G_ringref5_fieldsOf_C2 n v_op531 v_z536).bind fun v_o544 => match v_o544 with
    | .x0 v_z545 =>
      (G_ringref5_fieldsOf_C3 n v_op531 v_z536 v_z545).bind fun v_o555 => match v_o555 with
      | .x0 v_z556 =>
        some (v_z536, v_z545, v_z556)
theorem G_ringref5_fieldsOf_ok (n : Nat) (v_op531 : Int) (r : Bool × Bool × Bool) (h : G_ringref5_fieldsOf n v_op531 = some r) : Ret Tryd.prog 22 [(eI .i64) v_op531] (.tup [eB r.1, eB r.2.1, eB r.2.2]) := by
  refine ret_run (n := 53) (fn := Tryd.f22) (c := bodyOf Tryd.f22) (by kernel_rfl) (by kernel_rfl) (by kernel_rfl) (by kernel_rfl) ?_
  have hF : KC 53 (FinR Tryd.prog Tryd.f22 (.tup [eB r.1, eB r.2.1, eB r.2.2])) := FinR.kc' (by kernel_rfl)
  unfold G_ringref5_fieldsOf at h
  obtain ⟨v_o535, h715, h⟩ := bind_some h
  refine pkk_sound TTok mix hF 3 (hs := []) (ts := []) (s := []) (l := [0]) (by kernel_rfl) (by kernel_rfl) .nil (G_ringref5_fieldsOf_C1_ok hF (.s (cR (cR (bodyOf Tryd.f22))) :: []) n v_op531 _ h715 ?_)
  cases v_o535 with
  | x0 v_z536 =>
    try dsimp only at h
    obtain ⟨v_o544, h724, h⟩ := bind_some h
    refine pkk_sound TTok mix hF 1 (hs := []) (ts := []) (s := []) (l := [0, 5]) (by kernel_rfl) (by kernel_rfl) .nil (G_ringref5_fieldsOf_C2_ok hF (.s (cR (cR (cR (bodyOf Tryd.f22)))) :: []) n v_op531 v_z536 _ h724 ?_)
    cases v_o544 with
    | x0 v_z545 =>
      try dsimp only at h
      obtain ⟨v_o555, h733, h⟩ := bind_some h
      refine pkk_sound TTok mix hF 1 (hs := []) (ts := []) (s := []) (l := [0, 5, 6]) (by kernel_rfl) (by kernel_rfl) .nil (G_ringref5_fieldsOf_C3_ok hF (.s (cR (cR (cR (cR (bodyOf Tryd.f22))))) :: []) n v_op531 v_z536 v_z545 _ h733 ?_)
      cases v_o555 with
      | x0 v_z556 =>
        try dsimp only at h
        obtain rfl := Option.some.inj h
        exact pend_sound TTok mix 3 (hs := []) (by kernel_rfl) (by kernel_rfl) (by kernel_rfl) .nil
def G_ringref5_EncodeOf_J1 (n : Nat)   : Option (Int × Int) :=
  some (0, 4)
theorem G_ringref5_EncodeOf_J1_ok (n : Nat)    (r : Int × Int) (h : G_ringref5_EncodeOf_J1 n   = some r) : RunE Tryd.prog 92 (FinR Tryd.prog Tryd.f16 (.tup [(eI .u32) r.1, (eI .i64) r.2])) (.s (cT (cR (cL (cR (bodyOf Tryd.f16))))) :: .s (cR (cR (bodyOf Tryd.f16))) :: []) .normal ⟨[dd, dd, dd, dd, dd, dd, dd, dd, dd, dd, dd, dd, dd, dd, dd, dd, dd, dd, dd, dd, dd, dd, dd, dd, dd, dd, dd, dd, dd, dd, dd, dd, dd, dd, dd, dd, dd, dd, dd, dd, dd, dd, dd, dd, dd, dd, dd, dd, dd, dd, dd, dd, dd, dd, dd, dd, dd, dd, dd, dd, dd, dd, dd, dd, dd, dd, dd, dd, dd, dd, dd, dd, dd, dd, dd, dd, dd, dd, dd, dd, dd, dd, dd, dd, dd, dd, dd, dd, dd, dd, dd, dd], []⟩ := by
  have hF : KC 92 (FinR Tryd.prog Tryd.f16 (.tup [(eI .u32) r.1, (eI .i64) r.2])) := FinR.kc' (by kernel_rfl)
  unfold G_ringref5_EncodeOf_J1 at h
  obtain rfl := Option.some.inj h
  exact pend_sound TTok mix 4 (hs := []) (by kernel_rfl) (by kernel_rfl) (by kernel_rfl) .nil
inductive G_ringref5_EncodeOf_C1_R where
  | x0 (v_x664 : Bool)
def G_ringref5_EncodeOf_C1_ex : G_ringref5_EncodeOf_C1_R → Ex
  | .x0 _ => .normal
def G_ringref5_EncodeOf_C1_st (v_i501 : S_api_Ins) : G_ringref5_EncodeOf_C1_R → PS
  | .x0 v_x664 => ⟨[dd, .ref 0 0, dd, dd, dd, dd, dd, dd, dd, dd, dd, dd, dd, dd, dd, dd, dd, dd, dd, dd, dd, dd, dd, dd, dd, dd, dd, dd, dd, dd, dd, dd, dd, dd, dd, dd, dd, dd, dd, dd, dd, dd, .d (.v (.bool v_x664)), dd, dd, dd, dd, dd, dd, dd, dd, dd, dd, dd, dd, dd, dd, dd, dd, dd, dd, dd, dd, dd, dd, dd, dd, dd, dd, dd, dd, dd, dd, dd, dd, dd, dd, dd, dd, dd, dd, dd, dd, dd, dd, dd, dd, dd, dd, dd, dd, dd], [.box [.d (.v (.int .i64 v_i501.fOp)), .d (.v (.int .i64 v_i501.fA)), .d (.v (.int .i64 v_i501.fB)), .d (.v (.int .i64 v_i501.fC))]]⟩
def G_ringref5_EncodeOf_C1_hd (v_i501 : S_api_Ins)  : PS := ⟨[dd, .ref 0 0, dd, dd, dd, dd, dd, dd, dd, dd, dd, dd, dd, dd, dd, dd, dd, dd, dd, dd, dd, dd, dd, dd, dd, dd, dd, dd, dd, dd, dd, dd, dd, dd, dd, dd, dd, dd, dd, dd, dd, dd, dd, dd, dd, dd, dd, dd, dd, dd, dd, dd, dd, dd, dd, dd, dd, dd, dd, dd, dd, dd, dd, dd, dd, dd, dd, dd, dd, dd, dd, dd, dd, dd, dd, dd, dd, dd, dd, dd, dd, dd, dd, dd, dd, dd, dd, dd, dd, dd, dd, dd], [.box [.d (.v (.int .i64 v_i501.fOp)), .d (.v (.int .i64 v_i501.fA)), .d (.v (.int .i64 v_i501.fB)), .d (.v (.int .i64 v_i501.fC))]]⟩
def G_ringref5_EncodeOf_C1 (n : Nat) (v_i501 : S_api_Ins) : Option G_ringref5_EncodeOf_C1_R :=
  if v_i501.fA < 0 then
   some (.x0 true)
  else
   if v_i501.fA > 7 then
    some (.x0 true)
   else
    if v_i501.fB < 0 then
     some (.x0 true)
    else
     if v_i501.fB > 7 then
      some (.x0 true)
     else
      if v_i501.fC < (-32768) then
       some (.x0 true)
      else
       some (.x0 (decide (v_i501.fC > 32767)))
theorem G_ringref5_EncodeOf_C1_ok {Fi : Ex → PS → Prop} (hF : KC 92 Fi) (ks : List Fr) (n : Nat) (v_i501 : S_api_Ins)  (o : G_ringref5_EncodeOf_C1_R) (h : G_ringref5_EncodeOf_C1 n v_i501 = some o) (q : RunE Tryd.prog 92 Fi ks (G_ringref5_EncodeOf_C1_ex o) (G_ringref5_EncodeOf_C1_st v_i501 o)) : RunE Tryd.prog 92 Fi (.s (cL (cL (cR (cR (bodyOf Tryd.f16))))) :: ks) .normal (G_ringref5_EncodeOf_C1_hd v_i501) := by
  unfold G_ringref5_EncodeOf_C1 at h
  by_cases h803 : v_i501.fA < 0
  · rw [if_pos h803] at h
    cases h
    exact pkk_sound TTok mix hF 1 (hs := [.c, .t true, .c, .c, .c, .c, .c, .c, .c, .c, .c, .c, .c, .c, .c, .c]) (ts := []) (s := [0]) (l := [1, 42]) (by kernel_rfl) (by kernel_rfl) (.cons (dt h803) .nil) q
  · rw [if_neg h803] at h
    by_cases h804 : v_i501.fA > 7
    · rw [if_pos h804] at h
      cases h
      exact pkk_sound TTok mix hF 1 (hs := [.c, .t false, .c, .c, .c, .t true, .c, .c, .c, .c, .c, .c, .c, .c, .c, .c, .c]) (ts := []) (s := [0]) (l := [1, 42]) (by kernel_rfl) (by kernel_rfl) (.cons (df h803) (.cons (dt h804) .nil)) q
    · rw [if_neg h804] at h
      by_cases h805 : v_i501.fB < 0
      · rw [if_pos h805] at h
        cases h
        exact pkk_sound TTok mix hF 1 (hs := [.c, .t false, .c, .c, .c, .t false, .c, .c, .c, .t true, .c, .c, .c, .c, .c, .c, .c, .c]) (ts := []) (s := [0]) (l := [1, 42]) (by kernel_rfl) (by kernel_rfl) (.cons (df h803) (.cons (df h804) (.cons (dt h805) .nil))) q
      · rw [if_neg h805] at h
        by_cases h806 : v_i501.fB > 7
        · rw [if_pos h806] at h
          cases h
          exact pkk_sound TTok mix hF 1 (hs := [.c, .t false, .c, .c, .c, .t false, .c, .c, .c, .t false, .c, .c, .c, .t true, .c, .c, .c, .c, .c]) (ts := []) (s := [0]) (l := [1, 42]) (by kernel_rfl) (by kernel_rfl) (.cons (df h803) (.cons (df h804) (.cons (df h805) (.cons (dt h806) .nil)))) q
        · rw [if_neg h806] at h
          by_cases h807 : v_i501.fC < (-32768)
          · rw [if_pos h807] at h
            cases h
            exact pkk_sound TTok mix hF 1 (hs := [.c, .t false, .c, .c, .c, .t false, .c, .c, .c, .t false, .c, .c, .c, .t false, .c, .c, .c, .t true, .c, .c]) (ts := []) (s := [0]) (l := [1, 42]) (by kernel_rfl) (by kernel_rfl) (.cons (df h803) (.cons (df h804) (.cons (df h805) (.cons (df h806) (.cons (dt h807) .nil))))) q
          · rw [if_neg h807] at h
            cases h
            exact pkk_sound TTok mix hF 1 (hs := [.c, .t false, .c, .c, .c, .t false, .c, .c, .c, .t false, .c, .c, .c, .t false, .c, .c, .c, .t false, .c, .c, .c]) (ts := []) (s := [0]) (l := [1, 42]) (by kernel_rfl) (by kernel_rfl) (.cons (df h803) (.cons (df h804) (.cons (df h805) (.cons (df h806) (.cons (df h807) .nil))))) q
inductive G_ringref5_EncodeOf_C2_R where
  | x0 (v_x692 : Bool)
def G_ringref5_EncodeOf_C2_ex : G_ringref5_EncodeOf_C2_R → Ex
  | .x0 _ => .normal
def G_ringref5_EncodeOf_C2_st (v_r679 : (Bool × Bool × Bool)) (v_i501 : S_api_Ins) : G_ringref5_EncodeOf_C2_R → PS
  | .x0 v_x692 => ⟨[dd, .ref 0 0, dd, dd, dd, dd, dd, dd, dd, dd, dd, dd, dd, dd, dd, dd, dd, dd, dd, dd, dd, dd, dd, dd, dd, dd, dd, dd, dd, dd, dd, dd, dd, dd, dd, dd, dd, dd, dd, dd, dd, dd, dd, dd, dd, dd, dd, dd, dd, dd, dd, dd, dd, dd, dd, dd, dd, dd, dd, dd, dd, dd, dd, dd, dd, dd, dd, dd, dd, dd, dd, dd, dd, dd, .d (.v (.bool v_x692)), dd, dd, dd, dd, dd, dd, dd, dd, dd, dd, dd, dd, dd, dd, dd, dd, dd], [.box [.d (.v (.int .i64 v_i501.fOp)), .d (.v (.int .i64 v_i501.fA)), .d (.v (.int .i64 v_i501.fB)), .d (.v (.int .i64 v_i501.fC))]]⟩
def G_ringref5_EncodeOf_C2_hd (v_r679 : (Bool × Bool × Bool)) (v_i501 : S_api_Ins)  : PS := ⟨[dd, .ref 0 0, dd, dd, .d (.v (.bool v_r679.1)), .d (.v (.bool v_r679.2.1)), .d (.v (.bool v_r679.2.2)), dd, dd, dd, dd, dd, dd, dd, dd, dd, dd, dd, dd, dd, dd, dd, dd, dd, dd, dd, dd, dd, dd, dd, dd, dd, dd, dd, dd, dd, dd, dd, dd, dd, dd, dd, dd, dd, dd, dd, dd, dd, dd, dd, dd, dd, dd, dd, dd, dd, dd, dd, dd, dd, dd, dd, dd, dd, dd, dd, dd, dd, dd, dd, dd, dd, dd, dd, dd, dd, dd, dd, dd, dd, dd, dd, dd, dd, dd, dd, dd, dd, dd, dd, dd, dd], [.box [.d (.v (.int .i64 v_i501.fOp)), .d (.v (.int .i64 v_i501.fA)), .d (.v (.int .i64 v_i501.fB)), .d (.v (.int .i64 v_i501.fC))]]⟩
def G_ringref5_EncodeOf_C2 (n : Nat) (v_r679 : (Bool × Bool × Bool)) (v_i501 : S_api_Ins) : Option G_ringref5_EncodeOf_C2_R :=
  if v_r679.1 = true then
   if v_r679.2.1 = true then
    if v_r679.2.2 = true then
     some (.x0 false)
    else
     some (.x0 (v_i501.fC != 0))
   else
    if v_i501.fB = 0 then
     if v_r679.2.2 = true then
      some (.x0 false)
     else
      some (.x0 (v_i501.fC != 0))
    else
     some (.x0 true)
  else
   if v_i501.fA = 0 then
    if v_r679.2.1 = true then
     if v_r679.2.2 = true then
      some (.x0 false)
     else
      some (.x0 (v_i501.fC != 0))
    else
     if v_i501.fB = 0 then
      if v_r679.2.2 = true then
       some (.x0 false)
      else
       some (.x0 (v_i501.fC != 0))
     else
      some (.x0 true)
   else
    some (.x0 true)
theorem G_ringref5_EncodeOf_C2_ok {Fi : Ex → PS → Prop} (hF : KC 92 Fi) (ks : List Fr) (n : Nat) (v_r679 : (Bool × Bool × Bool)) (v_i501 : S_api_Ins)  (o : G_ringref5_EncodeOf_C2_R) (h : G_ringref5_EncodeOf_C2 n v_r679 v_i501 = some o) (q : RunE Tryd.prog 92 Fi ks (G_ringref5_EncodeOf_C2_ex o) (G_ringref5_EncodeOf_C2_st v_r679 v_i501 o)) : RunE Tryd.prog 92 Fi (.s (cL (cL (cR (cR (cR (cR (bodyOf Tryd.f16))))))) :: ks) .normal (G_ringref5_EncodeOf_C2_hd v_r679 v_i501) := by
  unfold G_ringref5_EncodeOf_C2 at h
  by_cases h821 : v_r679.1 = true
  · rw [if_pos h821] at h
    by_cases h827 : v_r679.2.1 = true
    · rw [if_pos h827] at h
      by_cases h830 : v_r679.2.2 = true
      · rw [if_pos h830] at h
        cases h
        exact pkk_sound TTok mix hF 1 (hs := [.t false, .c, .c, .c, .c, .c, .t false, .c, .c, .c, .c, .c, .c, .t false, .c, .c, .c]) (ts := []) (s := [0]) (l := [1, 74]) (by kernel_rfl) (by kernel_rfl) (.cons (bnf h821) (.cons (bnf h827) (.cons (bnf h830) .nil))) q
      · rw [if_neg h830] at h
        cases h
        exact pkk_sound TTok mix hF 1 (hs := [.t false, .c, .c, .c, .c, .c, .t false, .c, .c, .c, .c, .c, .c, .t true, .c, .c, .c, .c]) (ts := []) (s := [0]) (l := [1, 74]) (by kernel_rfl) (by kernel_rfl) (.cons (bnf h821) (.cons (bnf h827) (.cons (bnt (vf h830)) .nil))) q
    · rw [if_neg h827] at h
      by_cases h828 : v_i501.fB = 0
      · rw [if_pos h828] at h
        by_cases h829 : v_r679.2.2 = true
        · rw [if_pos h829] at h
          cases h
          exact pkk_sound TTok mix hF 1 (hs := [.t false, .c, .c, .c, .c, .c, .t true, .c, .c, .c, .c, .t false, .c, .c, .t false, .c, .c, .c]) (ts := []) (s := [0]) (l := [1, 74]) (by kernel_rfl) (by kernel_rfl) (.cons (bnf h821) (.cons (bnt (vf h827)) (.cons (nf h828) (.cons (bnf h829) .nil)))) q
        · rw [if_neg h829] at h
          cases h
          exact pkk_sound TTok mix hF 1 (hs := [.t false, .c, .c, .c, .c, .c, .t true, .c, .c, .c, .c, .t false, .c, .c, .t true, .c, .c, .c, .c]) (ts := []) (s := [0]) (l := [1, 74]) (by kernel_rfl) (by kernel_rfl) (.cons (bnf h821) (.cons (bnt (vf h827)) (.cons (nf h828) (.cons (bnt (vf h829)) .nil)))) q
      · rw [if_neg h828] at h
        cases h
        exact pkk_sound TTok mix hF 1 (hs := [.t false, .c, .c, .c, .c, .c, .t true, .c, .c, .c, .c, .t true, .c, .c, .c]) (ts := []) (s := [0]) (l := [1, 74]) (by kernel_rfl) (by kernel_rfl) (.cons (bnf h821) (.cons (bnt (vf h827)) (.cons (nt h828) .nil))) q
  · rw [if_neg h821] at h
    by_cases h822 : v_i501.fA = 0
    · rw [if_pos h822] at h
      by_cases h823 : v_r679.2.1 = true
      · rw [if_pos h823] at h
        by_cases h826 : v_r679.2.2 = true
        · rw [if_pos h826] at h
          cases h
          exact pkk_sound TTok mix hF 1 (hs := [.t true, .c, .c, .c, .t false, .c, .c, .t false, .c, .c, .c, .c, .c, .c, .t false, .c, .c, .c]) (ts := []) (s := [0]) (l := [1, 74]) (by kernel_rfl) (by kernel_rfl) (.cons (bnt (vf h821)) (.cons (nf h822) (.cons (bnf h823) (.cons (bnf h826) .nil)))) q
        · rw [if_neg h826] at h
          cases h
          exact pkk_sound TTok mix hF 1 (hs := [.t true, .c, .c, .c, .t false, .c, .c, .t false, .c, .c, .c, .c, .c, .c, .t true, .c, .c, .c, .c]) (ts := []) (s := [0]) (l := [1, 74]) (by kernel_rfl) (by kernel_rfl) (.cons (bnt (vf h821)) (.cons (nf h822) (.cons (bnf h823) (.cons (bnt (vf h826)) .nil)))) q
      · rw [if_neg h823] at h
        by_cases h824 : v_i501.fB = 0
        · rw [if_pos h824] at h
          by_cases h825 : v_r679.2.2 = true
          · rw [if_pos h825] at h
            cases h
            exact pkk_sound TTok mix hF 1 (hs := [.t true, .c, .c, .c, .t false, .c, .c, .t true, .c, .c, .c, .c, .t false, .c, .c, .t false, .c, .c, .c]) (ts := []) (s := [0]) (l := [1, 74]) (by kernel_rfl) (by kernel_rfl) (.cons (bnt (vf h821)) (.cons (nf h822) (.cons (bnt (vf h823)) (.cons (nf h824) (.cons (bnf h825) .nil))))) q
          · rw [if_neg h825] at h
            cases h
            exact pkk_sound TTok mix hF 1 (hs := [.t true, .c, .c, .c, .t false, .c, .c, .t true, .c, .c, .c, .c, .t false, .c, .c, .t true, .c, .c, .c, .c]) (ts := []) (s := [0]) (l := [1, 74]) (by kernel_rfl) (by kernel_rfl) (.cons (bnt (vf h821)) (.cons (nf h822) (.cons (bnt (vf h823)) (.cons (nf h824) (.cons (bnt (vf h825)) .nil))))) q
        · rw [if_neg h824] at h
          cases h
          exact pkk_sound TTok mix hF 1 (hs := [.t true, .c, .c, .c, .t false, .c, .c, .t true, .c, .c, .c, .c, .t true, .c, .c, .c]) (ts := []) (s := [0]) (l := [1, 74]) (by kernel_rfl) (by kernel_rfl) (.cons (bnt (vf h821)) (.cons (nf h822) (.cons (bnt (vf h823)) (.cons (nt h824) .nil)))) q
    · rw [if_neg h822] at h
      cases h
      exact pkk_sound TTok mix hF 1 (hs := [.t true, .c, .c, .c, .t true, .c, .c, .c, .c, .c, .c, .c]) (ts := []) (s := [0]) (l := [1, 74]) (by kernel_rfl) (by kernel_rfl) (.cons (bnt (vf h821)) (.cons (nt h822) .nil)) q
/- ringhall/ringref5.EncodeOf -/
def G_ringref5_EncodeOf (n : Nat) (v_i501 : S_api_Ins) : Option (Int × Int) :=
  if v_i501.fOp < 1 then
   G_ringref5_EncodeOf_J1 n  
  else
   if v_i501.fOp > 26 then
    G_ringref5_EncodeOf_J1 n  
   else
    (G_ringref5_EncodeOf_C1 n v_i501).bind fun v_o670 => match v_o670 with
    | .x0 v_z671 =>
      if v_z671 = true then
       some (0, 1)
      else
       (G_ringref5_fieldsOf n v_i501.fOp).bind fun (v_r679 : (Bool × Bool × Bool)) =>
       (G_ringref5_EncodeOf_C2 n v_r679 v_i501).bind fun v_o703 => match v_o703 with
       | .x0 v_z704 =>
         if v_z704 = true then
          some (0, 3)
         else
          some ((wi .u32 (wi .i64 ((wi .i64 ((wi .i64 ((wi .i64 (v_i501.fOp * 16777216)) + (wi .i64 (v_i501.fA * 1048576)))) + (wi .i64 (v_i501.fB * 65536)))) + (remI (wi .i64 (v_i501.fC + 65536)) 65536)))), 0)
theorem G_ringref5_EncodeOf_ok (n : Nat) (v_i501 : S_api_Ins) (r : Int × Int) (h : G_ringref5_EncodeOf n v_i501 = some r) : Ret Tryd.prog 16 [eS_api_Ins v_i501] (.tup [(eI .u32) r.1, (eI .i64) r.2]) := by
  refine ret_run (n := 92) (fn := Tryd.f16) (c := bodyOf Tryd.f16) (by kernel_rfl) (by kernel_rfl) (by kernel_rfl) (by kernel_rfl) ?_
  have hF : KC 92 (FinR Tryd.prog Tryd.f16 (.tup [(eI .u32) r.1, (eI .i64) r.2])) := FinR.kc' (by kernel_rfl)
  unfold G_ringref5_EncodeOf at h
  by_cases h796 : v_i501.fOp < 1
  · rw [if_pos h796] at h
    exact pkk_sound TTok mix hF 6 (hs := [.c, .t true, .c, .c, .c]) (ts := []) (s := []) (l := []) (by kernel_rfl) (by kernel_rfl) (.cons (dt h796) .nil) (G_ringref5_EncodeOf_J1_ok n   _ h)
  · rw [if_neg h796] at h
    by_cases h797 : v_i501.fOp > 26
    · rw [if_pos h797] at h
      exact pkk_sound TTok mix hF 6 (hs := [.c, .t false, .c, .c, .c, .t true]) (ts := []) (s := []) (l := []) (by kernel_rfl) (by kernel_rfl) (.cons (df h796) (.cons (dt h797) .nil)) (G_ringref5_EncodeOf_J1_ok n   _ h)
    · rw [if_neg h797] at h
      obtain ⟨v_o670, h808, h⟩ := bind_some h
      refine pkk_sound TTok mix hF 9 (hs := [.c, .t false, .c, .c, .c, .t false]) (ts := []) (s := [0]) (l := [1]) (by kernel_rfl) (by kernel_rfl) (.cons (df h796) (.cons (df h797) .nil)) (G_ringref5_EncodeOf_C1_ok hF (.s (cR (cL (cR (cR (bodyOf Tryd.f16))))) :: .s (cR (cR (cR (bodyOf Tryd.f16)))) :: []) n v_i501 _ h808 ?_)
      cases v_o670 with
      | x0 v_z671 =>
        try dsimp only at h
        by_cases h809 : v_z671 = true
        · rw [if_pos h809] at h
          obtain rfl := Option.some.inj h
          exact pend_sound TTok mix 5 (hs := [.t true]) (by kernel_rfl) (by kernel_rfl) (by kernel_rfl) (.cons h809 .nil)
        · rw [if_neg h809] at h
          obtain ⟨v_r679, h810, h⟩ := bind_some h
          obtain ⟨v_o703, h831, h⟩ := bind_some h
          refine pkk_sound TTok mix hF 6 (hs := [.t false, .c, .r (.tup [eB v_r679.1, eB v_r679.2.1, eB v_r679.2.2])]) (ts := []) (s := [0]) (l := [1, 4, 5, 6]) (by kernel_rfl) (by kernel_rfl) (.cons (vf h809) (.cons (G_ringref5_fieldsOf_ok n v_i501.fOp _ h810) .nil)) (G_ringref5_EncodeOf_C2_ok hF (.s (cR (cL (cR (cR (cR (cR (bodyOf Tryd.f16))))))) :: .s (cR (cR (cR (cR (cR (bodyOf Tryd.f16)))))) :: []) n v_r679 v_i501 _ h831 ?_)
          cases v_o703 with
          | x0 v_z704 =>
            try dsimp only at h
            by_cases h832 : v_z704 = true
            · rw [if_pos h832] at h
              obtain rfl := Option.some.inj h
              exact pend_sound TTok mix 5 (hs := [.t true]) (by kernel_rfl) (by kernel_rfl) (by kernel_rfl) (.cons h832 .nil)
            · rw [if_neg h832] at h
              obtain rfl := Option.some.inj h
              exact pend_sound TTok mix 5 (hs := [.t false, .c, .c, .c, .c]) (by kernel_rfl) (by kernel_rfl) (by kernel_rfl) (.cons (vf h832) (.cons (show (65536 : Int) ≠ 0 by decide) .nil))
inductive G_ringref5_DecodeOf_C1_R where
  | x0 (v_c732 : Int)
def G_ringref5_DecodeOf_C1_ex : G_ringref5_DecodeOf_C1_R → Ex
  | .x0 _ => .normal
def G_ringref5_DecodeOf_C1_st (v_w725 : Int) : G_ringref5_DecodeOf_C1_R → PS
  | .x0 v_c732 => ⟨[.d (.v (.int .u32 v_w725)), dd, .ref 0 0, dd, .d (.v (.int .i64 v_c732)), dd, dd, dd, dd, dd, dd, dd, dd, dd, dd, dd, dd, dd, dd, dd, dd, dd, dd, dd, dd, dd, dd, dd, dd, dd, dd, dd, dd, dd, dd, dd, dd], [.box [.d (.v (.int .i64 0)), .d (.v (.int .i64 0)), .d (.v (.int .i64 0)), .d (.v (.int .i64 0))]]⟩
def G_ringref5_DecodeOf_C1_hd (v_w725 : Int)  : PS := ⟨[.d (.v (.int .u32 v_w725)), dd, .ref 0 0, dd, .d (.v (.int .i64 (wi .i64 (remI v_w725 65536)))), dd, dd, dd, dd, dd, dd, dd, .d (.v (.bool (decide ((wi .i64 (remI v_w725 65536)) > 32767)))), dd, dd, dd, dd, dd, dd, dd, dd, dd, dd, dd, dd, dd, dd, dd, dd, dd, dd, dd, dd, dd, dd, dd, dd], [.box [.d (.v (.int .i64 0)), .d (.v (.int .i64 0)), .d (.v (.int .i64 0)), .d (.v (.int .i64 0))]]⟩
def G_ringref5_DecodeOf_C1 (n : Nat) (v_w725 : Int) : Option G_ringref5_DecodeOf_C1_R :=
  if (wi .i64 (remI v_w725 65536)) > 32767 then
   some (.x0 (wi .i64 ((wi .i64 (remI v_w725 65536)) - 65536)))
  else
   some (.x0 (wi .i64 (remI v_w725 65536)))
theorem G_ringref5_DecodeOf_C1_ok {Fi : Ex → PS → Prop} (hF : KC 37 Fi) (ks : List Fr) (n : Nat) (v_w725 : Int)  (o : G_ringref5_DecodeOf_C1_R) (h : G_ringref5_DecodeOf_C1 n v_w725 = some o) (q : RunE Tryd.prog 37 Fi ks (G_ringref5_DecodeOf_C1_ex o) (G_ringref5_DecodeOf_C1_st v_w725 o)) : RunE Tryd.prog 37 Fi (.s (cR (cL (cR (cR (bodyOf Tryd.f17))))) :: ks) .normal (G_ringref5_DecodeOf_C1_hd v_w725) := by
  unfold G_ringref5_DecodeOf_C1 at h
  by_cases h837 : (wi .i64 (remI v_w725 65536)) > 32767
  · rw [if_pos h837] at h
    cases h
    exact pkk_sound TTok mix hF 2 (hs := [.t true]) (ts := []) (s := [0]) (l := [0, 2, 4]) (by kernel_rfl) (by kernel_rfl) (.cons (dt h837) .nil) q
  · rw [if_neg h837] at h
    cases h
    exact pkk_sound TTok mix hF 2 (hs := [.t false]) (ts := []) (s := [0]) (l := [0, 2, 4]) (by kernel_rfl) (by kernel_rfl) (.cons (df h837) .nil) q
/- ringhall/ringref5.DecodeOf -/
def G_ringref5_DecodeOf (n : Nat) (v_w725 : Int) : Option (S_api_Ins × Int) :=
  (G_ringref5_DecodeOf_C1 n v_w725).bind fun v_o734 => match v_o734 with
  | .x0 v_z735 =>
    (G_ringref5_EncodeOf n (S_api_Ins.mk (wi .i64 (quoI .u32 v_w725 16777216)) (wi .i64 (remI (quoI .u32 v_w725 1048576) 16)) (wi .i64 (remI (quoI .u32 v_w725 65536) 16)) v_z735)).bind fun (v_r746 : (Int × Int)) =>
    if v_r746.2 = 0 then
     some ((S_api_Ins.mk (wi .i64 (quoI .u32 v_w725 16777216)) (wi .i64 (remI (quoI .u32 v_w725 1048576) 16)) (wi .i64 (remI (quoI .u32 v_w725 65536) 16)) v_z735), 0)
    else
     some ((S_api_Ins.mk 0 0 0 0), 3)
theorem G_ringref5_DecodeOf_ok (n : Nat) (v_w725 : Int) (r : S_api_Ins × Int) (h : G_ringref5_DecodeOf n v_w725 = some r) : Ret Tryd.prog 17 [(eI .u32) v_w725] (.tup [eS_api_Ins r.1, (eI .i64) r.2]) := by
  refine ret_run (n := 37) (fn := Tryd.f17) (c := bodyOf Tryd.f17) (by kernel_rfl) (by kernel_rfl) (by kernel_rfl) (by kernel_rfl) ?_
  have hF : KC 37 (FinR Tryd.prog Tryd.f17 (.tup [eS_api_Ins r.1, (eI .i64) r.2])) := FinR.kc' (by kernel_rfl)
  unfold G_ringref5_DecodeOf at h
  obtain ⟨v_o734, h838, h⟩ := bind_some h
  refine pkk_sound TTok mix hF 7 (hs := []) (ts := []) (s := [0]) (l := [0, 2, 4, 12]) (by kernel_rfl) (by kernel_rfl) (.cons (show (65536 : Int) ≠ 0 by decide) .nil) (G_ringref5_DecodeOf_C1_ok hF (.s (cR (cR (cR (bodyOf Tryd.f17)))) :: []) n v_w725 _ h838 ?_)
  cases v_o734 with
  | x0 v_z735 =>
    try dsimp only at h
    obtain ⟨v_r746, h844, h⟩ := bind_some h
    by_cases h846 : v_r746.2 = 0
    · rw [if_pos h846] at h
      obtain rfl := Option.some.inj h
      exact pend_sound TTok mix 12 (hs := [.c, .c, .r (.tup [(eI .u32) v_r746.1, (eI .i64) v_r746.2]), .t false, .c, .c]) (by kernel_rfl) (by kernel_rfl) (by kernel_rfl) (.cons (show (16777216 : Int) ≠ 0 by decide) (.cons (show (1048576 : Int) ≠ 0 by decide) (.cons (show (16 : Int) ≠ 0 by decide) (.cons (show (65536 : Int) ≠ 0 by decide) (.cons (show (16 : Int) ≠ 0 by decide) (.cons (show 0 + 4 ≤ 4 by decide) (.cons (G_ringref5_EncodeOf_ok n (S_api_Ins.mk (wi .i64 (quoI .u32 v_w725 16777216)) (wi .i64 (remI (quoI .u32 v_w725 1048576) 16)) (wi .i64 (remI (quoI .u32 v_w725 65536) 16)) v_z735) _ h844) (.cons (nf h846) (.cons (show 0 + 4 ≤ 4 by decide) .nil)))))))))
    · rw [if_neg h846] at h
      obtain rfl := Option.some.inj h
      exact pend_sound TTok mix 12 (hs := [.c, .c, .r (.tup [(eI .u32) v_r746.1, (eI .i64) v_r746.2]), .t true, .c]) (by kernel_rfl) (by kernel_rfl) (by kernel_rfl) (.cons (show (16777216 : Int) ≠ 0 by decide) (.cons (show (1048576 : Int) ≠ 0 by decide) (.cons (show (16 : Int) ≠ 0 by decide) (.cons (show (65536 : Int) ≠ 0 by decide) (.cons (show (16 : Int) ≠ 0 by decide) (.cons (show 0 + 4 ≤ 4 by decide) (.cons (G_ringref5_EncodeOf_ok n (S_api_Ins.mk (wi .i64 (quoI .u32 v_w725 16777216)) (wi .i64 (remI (quoI .u32 v_w725 1048576) 16)) (wi .i64 (remI (quoI .u32 v_w725 65536) 16)) v_z735) _ h844) (.cons (nt h846) (.cons (show 0 + 4 ≤ 4 by decide) .nil)))))))))
def G_ringref5_Bits_J1 (n : Nat)   : Option (Int) :=
  some (-1)
theorem G_ringref5_Bits_J1_ok (n : Nat)    (r : Int) (h : G_ringref5_Bits_J1 n   = some r) : RunE Tryd.prog 29 (FinR Tryd.prog Tryd.f15 ((eI .i64) r)) (.s (cT (cR (cL (cR (bodyOf Tryd.f15))))) :: .s (cR (cR (bodyOf Tryd.f15))) :: []) .normal ⟨[dd, dd, dd, dd, dd, dd, dd, dd, dd, dd, dd, dd, dd, dd, dd, dd, dd, dd, dd, dd, dd, dd, dd, dd, dd, dd, dd, dd, dd], []⟩ := by
  have hF : KC 29 (FinR Tryd.prog Tryd.f15 ((eI .i64) r)) := FinR.kc' (by kernel_rfl)
  unfold G_ringref5_Bits_J1 at h
  obtain rfl := Option.some.inj h
  exact pend_sound TTok mix 4 (hs := []) (by kernel_rfl) (by kernel_rfl) (by kernel_rfl) .nil
def G_ringref5_Bits_J2 (n : Nat)  (v_n913 : Int) (v_b914 : Bool) (v_c915 : Bool) : Option (Int) :=
  if v_b914 = true then
   if v_c915 = true then
    some (wi .i64 ((wi .i64 (v_n913 + 2)) + 4))
   else
    some (wi .i64 (v_n913 + 2))
  else
   if v_c915 = true then
    some (wi .i64 (v_n913 + 4))
   else
    some v_n913
theorem G_ringref5_Bits_J2_ok (n : Nat)   (v_n913 : Int) (v_b914 : Bool) (v_c915 : Bool) (r : Int) (h : G_ringref5_Bits_J2 n  v_n913 v_b914 v_c915 = some r) : RunE Tryd.prog 29 (FinR Tryd.prog Tryd.f15 ((eI .i64) r)) (.s (cR (cR (cR (cR (cR (bodyOf Tryd.f15)))))) :: []) .normal ⟨[dd, dd, dd, .d (.v (.int .i64 v_n913)), dd, .d (.v (.bool v_b914)), .d (.v (.bool v_c915)), dd, dd, dd, dd, dd, dd, dd, dd, dd, dd, dd, dd, dd, dd, dd, dd, dd, dd, dd, dd, dd, dd], []⟩ := by
  have hF : KC 29 (FinR Tryd.prog Tryd.f15 ((eI .i64) r)) := FinR.kc' (by kernel_rfl)
  unfold G_ringref5_Bits_J2 at h
  by_cases h903 : v_b914 = true
  · rw [if_pos h903] at h
    by_cases h905 : v_c915 = true
    · rw [if_pos h905] at h
      obtain rfl := Option.some.inj h
      exact pend_sound TTok mix 13 (hs := [.t true, .t true]) (by kernel_rfl) (by kernel_rfl) (by kernel_rfl) (.cons h903 (.cons h905 .nil))
    · rw [if_neg h905] at h
      obtain rfl := Option.some.inj h
      exact pend_sound TTok mix 13 (hs := [.t true, .t false]) (by kernel_rfl) (by kernel_rfl) (by kernel_rfl) (.cons h903 (.cons (vf h905) .nil))
  · rw [if_neg h903] at h
    by_cases h907 : v_c915 = true
    · rw [if_pos h907] at h
      obtain rfl := Option.some.inj h
      exact pend_sound TTok mix 13 (hs := [.t false, .t true]) (by kernel_rfl) (by kernel_rfl) (by kernel_rfl) (.cons (vf h903) (.cons h907 .nil))
    · rw [if_neg h907] at h
      obtain rfl := Option.some.inj h
      exact pend_sound TTok mix 13 (hs := [.t false, .t false]) (by kernel_rfl) (by kernel_rfl) (by kernel_rfl) (.cons (vf h903) (.cons (vf h907) .nil))
/- ringhall/ringref5.Bits -/
def G_ringref5_Bits (n : Nat) (v_op787 : Int) : Option (Int) :=
  if v_op787 < 1 then
   G_ringref5_Bits_J1 n  
  else
   if v_op787 > 26 then
    G_ringref5_Bits_J1 n  
   else
    (G_ringref5_fieldsOf n v_op787).bind fun (v_r890 : (Bool × Bool × Bool)) =>
    if v_r890.1 = true then
     G_ringref5_Bits_J2 n  (wi .i64 (0 + 1)) v_r890.2.1 v_r890.2.2
    else
     G_ringref5_Bits_J2 n  0 v_r890.2.1 v_r890.2.2
theorem G_ringref5_Bits_ok (n : Nat) (v_op787 : Int) (r : Int) (h : G_ringref5_Bits n v_op787 = some r) : Ret Tryd.prog 15 [(eI .i64) v_op787] ((eI .i64) r) := by
  refine ret_run (n := 29) (fn := Tryd.f15) (c := bodyOf Tryd.f15) (by kernel_rfl) (by kernel_rfl) (by kernel_rfl) (by kernel_rfl) ?_
  have hF : KC 29 (FinR Tryd.prog Tryd.f15 ((eI .i64) r)) := FinR.kc' (by kernel_rfl)
  unfold G_ringref5_Bits at h
  by_cases h897 : v_op787 < 1
  · rw [if_pos h897] at h
    exact pkk_sound TTok mix hF 6 (hs := [.t true, .c, .c]) (ts := []) (s := []) (l := []) (by kernel_rfl) (by kernel_rfl) (.cons (dt h897) .nil) (G_ringref5_Bits_J1_ok n   _ h)
  · rw [if_neg h897] at h
    by_cases h898 : v_op787 > 26
    · rw [if_pos h898] at h
      exact pkk_sound TTok mix hF 6 (hs := [.t false, .c, .t true]) (ts := []) (s := []) (l := []) (by kernel_rfl) (by kernel_rfl) (.cons (df h897) (.cons (dt h898) .nil)) (G_ringref5_Bits_J1_ok n   _ h)
    · rw [if_neg h898] at h
      obtain ⟨v_r890, h899, h⟩ := bind_some h
      by_cases h901 : v_r890.1 = true
      · rw [if_pos h901] at h
        exact pkk_sound TTok mix hF 16 (hs := [.t false, .c, .t false, .r (.tup [eB v_r890.1, eB v_r890.2.1, eB v_r890.2.2]), .t true]) (ts := []) (s := []) (l := [3, 5, 6]) (by kernel_rfl) (by kernel_rfl) (.cons (df h897) (.cons (df h898) (.cons (G_ringref5_fieldsOf_ok n v_op787 _ h899) (.cons h901 .nil)))) (G_ringref5_Bits_J2_ok n  (wi .i64 (0 + 1)) v_r890.2.1 v_r890.2.2 _ h)
      · rw [if_neg h901] at h
        exact pkk_sound TTok mix hF 16 (hs := [.t false, .c, .t false, .r (.tup [eB v_r890.1, eB v_r890.2.1, eB v_r890.2.2]), .t false]) (ts := []) (s := []) (l := [3, 5, 6]) (by kernel_rfl) (by kernel_rfl) (.cons (df h897) (.cons (df h898) (.cons (G_ringref5_fieldsOf_ok n v_op787 _ h899) (.cons (vf h901) .nil)))) (G_ringref5_Bits_J2_ok n  0 v_r890.2.1 v_r890.2.2 _ h)
inductive G_ringlaw5_CodeSays_C1_R where
  | x0 (v_x1491 : Bool)
def G_ringlaw5_CodeSays_C1_ex : G_ringlaw5_CodeSays_C1_R → Ex
  | .x0 _ => .normal
def G_ringlaw5_CodeSays_C1_st (v_op1 : Int) (v_w4 : Int) (v_r1378 : (ByteArray × Int)) (v_r1385 : (Int × Int)) (v_r1396 : (Int × Int)) (v_r1411 : (Int × Int)) (v_r1430 : (S_api_Ins × Int)) (v_r1454 : (Int)) (v_i3 : S_api_Ins) : G_ringlaw5_CodeSays_C1_R → PS
  | .x0 v_x1491 => ⟨[.d (.v (.int .i64 v_op1)), dd, dd, .d (.v (.int .u32 v_w4)), dd, dd, .ref 0 0, dd, dd, .d (.v (.string v_r1378.1)), .d (.v (.int .i64 v_r1378.2)), dd, dd, .d (.v (.int .i64 v_r1396.1)), .d (.v (.int .i64 v_r1396.2)), .d (.v (.int .u32 v_r1411.1)), .d (.v (.int .i64 v_r1411.2)), .ref 1 0, .d (.v (.int .i64 v_r1430.2)), dd, dd, dd, dd, dd, dd, dd, dd, dd, dd, dd, dd, dd, dd, dd, dd, dd, dd, dd, dd, dd, dd, dd, dd, dd, dd, dd, dd, dd, dd, dd, dd, dd, dd, dd, dd, dd, dd, dd, dd, dd, dd, dd, dd, dd, dd, dd, dd, dd, dd, dd, dd, dd, dd, dd, dd, .d (.v (.bool v_x1491)), dd, dd, dd, dd, dd, dd, dd, dd, dd, dd, dd, dd, dd, dd, dd, dd, dd, dd, dd, dd, dd, dd, dd, dd, dd, dd, dd, dd, dd, dd, dd, dd, dd, dd, dd, dd, dd, dd, dd, dd, dd, dd, dd, dd, dd, dd, dd, dd, dd, dd, dd, dd, dd, dd, dd, dd, dd, dd, dd, dd, dd, dd, dd, dd, dd, dd, dd, dd, dd, dd], [.box [.d (.v (.int .i64 v_i3.fOp)), .d (.v (.int .i64 v_i3.fA)), .d (.v (.int .i64 v_i3.fB)), .d (.v (.int .i64 v_i3.fC))], .box [.d (.v (.int .i64 v_r1430.1.fOp)), .d (.v (.int .i64 v_r1430.1.fA)), .d (.v (.int .i64 v_r1430.1.fB)), .d (.v (.int .i64 v_r1430.1.fC))]]⟩
def G_ringlaw5_CodeSays_C1_hd (v_op1 : Int) (v_w4 : Int) (v_r1378 : (ByteArray × Int)) (v_r1385 : (Int × Int)) (v_r1396 : (Int × Int)) (v_r1411 : (Int × Int)) (v_r1430 : (S_api_Ins × Int)) (v_r1454 : (Int)) (v_i3 : S_api_Ins)  : PS := ⟨[.d (.v (.int .i64 v_op1)), dd, dd, .d (.v (.int .u32 v_w4)), dd, dd, .ref 0 0, dd, dd, .d (.v (.string v_r1378.1)), .d (.v (.int .i64 v_r1378.2)), .d (.v (.int .i64 v_r1385.1)), .d (.v (.int .i64 v_r1385.2)), .d (.v (.int .i64 v_r1396.1)), .d (.v (.int .i64 v_r1396.2)), .d (.v (.int .u32 v_r1411.1)), .d (.v (.int .i64 v_r1411.2)), .ref 1 0, .d (.v (.int .i64 v_r1430.2)), .d (.v (.int .i64 v_r1454)), dd, dd, dd, dd, dd, dd, dd, dd, dd, dd, dd, dd, dd, dd, dd, dd, dd, dd, dd, dd, dd, dd, dd, dd, dd, dd, dd, dd, dd, dd, dd, dd, dd, dd, dd, dd, dd, dd, dd, dd, dd, dd, dd, dd, dd, dd, dd, dd, dd, dd, dd, dd, dd, dd, dd, dd, dd, dd, dd, dd, dd, dd, dd, dd, dd, dd, dd, dd, dd, dd, dd, dd, dd, dd, dd, dd, dd, dd, dd, dd, dd, dd, dd, dd, dd, dd, dd, dd, dd, dd, dd, dd, dd, dd, dd, dd, dd, dd, dd, dd, dd, dd, dd, dd, dd, dd, dd, dd, dd, dd, dd, dd, dd, dd, dd, dd, dd, dd, dd, dd, dd, dd, dd, dd, dd, dd], [.box [.d (.v (.int .i64 v_i3.fOp)), .d (.v (.int .i64 v_i3.fA)), .d (.v (.int .i64 v_i3.fB)), .d (.v (.int .i64 v_i3.fC))], .box [.d (.v (.int .i64 v_r1430.1.fOp)), .d (.v (.int .i64 v_r1430.1.fA)), .d (.v (.int .i64 v_r1430.1.fB)), .d (.v (.int .i64 v_r1430.1.fC))]]⟩
def G_ringlaw5_CodeSays_C1 (n : Nat) (v_op1 : Int) (v_w4 : Int) (v_r1378 : (ByteArray × Int)) (v_r1385 : (Int × Int)) (v_r1396 : (Int × Int)) (v_r1411 : (Int × Int)) (v_r1430 : (S_api_Ins × Int)) (v_r1454 : (Int)) (v_i3 : S_api_Ins) : Option G_ringlaw5_CodeSays_C1_R :=
  if v_r1454 < 0 then
   if v_r1385.2 = 4 then
    if v_r1385.1 = 0 then
     if v_r1454 ≥ 0 then
      if v_r1385.2 = 0 then
       some (.x0 (v_r1385.1 != (wi .i64 (v_r1454 + 1))))
      else
       some (.x0 true)
     else
      some (.x0 false)
    else
     some (.x0 true)
   else
    some (.x0 true)
  else
   if v_r1454 ≥ 0 then
    if v_r1385.2 = 0 then
     some (.x0 (v_r1385.1 != (wi .i64 (v_r1454 + 1))))
    else
     some (.x0 true)
   else
    some (.x0 false)
theorem G_ringlaw5_CodeSays_C1_ok {Fi : Ex → PS → Prop} (hF : KC 146 Fi) (ks : List Fr) (n : Nat) (v_op1 : Int) (v_w4 : Int) (v_r1378 : (ByteArray × Int)) (v_r1385 : (Int × Int)) (v_r1396 : (Int × Int)) (v_r1411 : (Int × Int)) (v_r1430 : (S_api_Ins × Int)) (v_r1454 : (Int)) (v_i3 : S_api_Ins)  (o : G_ringlaw5_CodeSays_C1_R) (h : G_ringlaw5_CodeSays_C1 n v_op1 v_w4 v_r1378 v_r1385 v_r1396 v_r1411 v_r1430 v_r1454 v_i3 = some o) (q : RunE Tryd.prog 146 Fi ks (G_ringlaw5_CodeSays_C1_ex o) (G_ringlaw5_CodeSays_C1_st v_op1 v_w4 v_r1378 v_r1385 v_r1396 v_r1411 v_r1430 v_r1454 v_i3 o)) : RunE Tryd.prog 146 Fi (.s (cL (cL (cR (cR (cR (cR (cR (cR (cR (bodyOf Tryd.f4)))))))))) :: ks) .normal (G_ringlaw5_CodeSays_C1_hd v_op1 v_w4 v_r1378 v_r1385 v_r1396 v_r1411 v_r1430 v_r1454 v_i3) := by
  unfold G_ringlaw5_CodeSays_C1 at h
  by_cases h1060 : v_r1454 < 0
  · rw [if_pos h1060] at h
    by_cases h1061 : v_r1385.2 = 4
    · rw [if_pos h1061] at h
      by_cases h1062 : v_r1385.1 = 0
      · rw [if_pos h1062] at h
        by_cases h1063 : v_r1454 ≥ 0
        · rw [if_pos h1063] at h
          by_cases h1064 : v_r1385.2 = 0
          · rw [if_pos h1064] at h
            cases h
            exact pkk_sound TTok mix hF 1 (hs := [.t true, .c, .c, .t false, .c, .c, .t false, .c, .c, .t true, .c, .c, .t false, .c, .c, .c, .c, .c]) (ts := []) (s := [0, 1]) (l := [0, 3, 6, 9, 10, 13, 14, 15, 16, 17, 18, 75]) (by kernel_rfl) (by kernel_rfl) (.cons (dt h1060) (.cons (nf h1061) (.cons (nf h1062) (.cons (dt h1063) (.cons (nf h1064) .nil))))) q
          · rw [if_neg h1064] at h
            cases h
            exact pkk_sound TTok mix hF 1 (hs := [.t true, .c, .c, .t false, .c, .c, .t false, .c, .c, .t true, .c, .c, .t true, .c, .c, .c, .c, .c]) (ts := []) (s := [0, 1]) (l := [0, 3, 6, 9, 10, 13, 14, 15, 16, 17, 18, 75]) (by kernel_rfl) (by kernel_rfl) (.cons (dt h1060) (.cons (nf h1061) (.cons (nf h1062) (.cons (dt h1063) (.cons (nt h1064) .nil))))) q
        · rw [if_neg h1063] at h
          cases h
          exact pkk_sound TTok mix hF 1 (hs := [.t true, .c, .c, .t false, .c, .c, .t false, .c, .c, .t false, .c, .c, .c, .c]) (ts := []) (s := [0, 1]) (l := [0, 3, 6, 9, 10, 13, 14, 15, 16, 17, 18, 75]) (by kernel_rfl) (by kernel_rfl) (.cons (dt h1060) (.cons (nf h1061) (.cons (nf h1062) (.cons (df h1063) .nil)))) q
      · rw [if_neg h1062] at h
        cases h
        exact pkk_sound TTok mix hF 1 (hs := [.t true, .c, .c, .t false, .c, .c, .t true, .c, .c, .c]) (ts := []) (s := [0, 1]) (l := [0, 3, 6, 9, 10, 13, 14, 15, 16, 17, 18, 75]) (by kernel_rfl) (by kernel_rfl) (.cons (dt h1060) (.cons (nf h1061) (.cons (nt h1062) .nil))) q
    · rw [if_neg h1061] at h
      cases h
      exact pkk_sound TTok mix hF 1 (hs := [.t true, .c, .c, .t true, .c, .c, .c, .c, .c, .c]) (ts := []) (s := [0, 1]) (l := [0, 3, 6, 9, 10, 13, 14, 15, 16, 17, 18, 75]) (by kernel_rfl) (by kernel_rfl) (.cons (dt h1060) (.cons (nt h1061) .nil)) q
  · rw [if_neg h1060] at h
    by_cases h1065 : v_r1454 ≥ 0
    · rw [if_pos h1065] at h
      by_cases h1066 : v_r1385.2 = 0
      · rw [if_pos h1066] at h
        cases h
        exact pkk_sound TTok mix hF 1 (hs := [.t false, .c, .c, .c, .c, .c, .c, .t true, .c, .c, .t false, .c, .c, .c, .c, .c]) (ts := []) (s := [0, 1]) (l := [0, 3, 6, 9, 10, 13, 14, 15, 16, 17, 18, 75]) (by kernel_rfl) (by kernel_rfl) (.cons (df h1060) (.cons (dt h1065) (.cons (nf h1066) .nil))) q
      · rw [if_neg h1066] at h
        cases h
        exact pkk_sound TTok mix hF 1 (hs := [.t false, .c, .c, .c, .c, .c, .c, .t true, .c, .c, .t true, .c, .c, .c, .c, .c]) (ts := []) (s := [0, 1]) (l := [0, 3, 6, 9, 10, 13, 14, 15, 16, 17, 18, 75]) (by kernel_rfl) (by kernel_rfl) (.cons (df h1060) (.cons (dt h1065) (.cons (nt h1066) .nil))) q
    · rw [if_neg h1065] at h
      cases h
      exact pkk_sound TTok mix hF 1 (hs := [.t false, .c, .c, .c, .c, .c, .c, .t false, .c, .c, .c, .c]) (ts := []) (s := [0, 1]) (l := [0, 3, 6, 9, 10, 13, 14, 15, 16, 17, 18, 75]) (by kernel_rfl) (by kernel_rfl) (.cons (df h1060) (.cons (df h1065) .nil)) q
inductive G_ringlaw5_CodeSays_C2_R where
  | x0 (v_x1582 : Bool)
def G_ringlaw5_CodeSays_C2_ex : G_ringlaw5_CodeSays_C2_R → Ex
  | .x0 _ => .normal
def G_ringlaw5_CodeSays_C2_st (v_w4 : Int) (v_r1378 : (ByteArray × Int)) (v_r1396 : (Int × Int)) (v_r1411 : (Int × Int)) (v_r1430 : (S_api_Ins × Int)) (v_i3 : S_api_Ins) : G_ringlaw5_CodeSays_C2_R → PS
  | .x0 v_x1582 => ⟨[dd, dd, dd, .d (.v (.int .u32 v_w4)), dd, dd, .ref 0 0, dd, dd, dd, dd, dd, dd, dd, dd, .d (.v (.int .u32 v_r1411.1)), .d (.v (.int .i64 v_r1411.2)), .ref 1 0, .d (.v (.int .i64 v_r1430.2)), dd, dd, dd, dd, dd, dd, dd, dd, dd, dd, dd, dd, dd, dd, dd, dd, dd, dd, dd, dd, dd, dd, dd, dd, dd, dd, dd, dd, dd, dd, dd, dd, dd, dd, dd, dd, dd, dd, dd, dd, dd, dd, dd, dd, dd, dd, dd, dd, dd, dd, dd, dd, dd, dd, dd, dd, dd, dd, dd, dd, dd, dd, dd, dd, dd, dd, dd, dd, dd, dd, dd, dd, dd, dd, dd, dd, dd, .d (.v (.bool v_x1582)), dd, dd, dd, dd, dd, dd, dd, dd, dd, dd, dd, dd, dd, dd, dd, dd, dd, dd, dd, dd, dd, dd, dd, dd, dd, dd, dd, dd, dd, dd, dd, dd, dd, dd, dd, dd, dd, dd, dd, dd, dd, dd, dd, dd, dd, dd, dd, dd, dd], [.box [.d (.v (.int .i64 v_i3.fOp)), .d (.v (.int .i64 v_i3.fA)), .d (.v (.int .i64 v_i3.fB)), .d (.v (.int .i64 v_i3.fC))], .box [.d (.v (.int .i64 v_r1430.1.fOp)), .d (.v (.int .i64 v_r1430.1.fA)), .d (.v (.int .i64 v_r1430.1.fB)), .d (.v (.int .i64 v_r1430.1.fC))]]⟩
def G_ringlaw5_CodeSays_C2_hd (v_w4 : Int) (v_r1378 : (ByteArray × Int)) (v_r1396 : (Int × Int)) (v_r1411 : (Int × Int)) (v_r1430 : (S_api_Ins × Int)) (v_i3 : S_api_Ins)  : PS := ⟨[dd, dd, dd, .d (.v (.int .u32 v_w4)), dd, dd, .ref 0 0, dd, dd, .d (.v (.string v_r1378.1)), .d (.v (.int .i64 v_r1378.2)), dd, dd, .d (.v (.int .i64 v_r1396.1)), .d (.v (.int .i64 v_r1396.2)), .d (.v (.int .u32 v_r1411.1)), .d (.v (.int .i64 v_r1411.2)), .ref 1 0, .d (.v (.int .i64 v_r1430.2)), dd, dd, dd, dd, dd, dd, dd, dd, dd, dd, dd, dd, dd, dd, dd, dd, dd, dd, dd, dd, dd, dd, dd, dd, dd, dd, dd, dd, dd, dd, dd, dd, dd, dd, dd, dd, dd, dd, dd, dd, dd, dd, dd, dd, dd, dd, dd, dd, dd, dd, dd, dd, dd, dd, dd, dd, dd, dd, dd, dd, dd, dd, dd, dd, dd, dd, dd, dd, dd, dd, dd, dd, dd, dd, dd, dd, dd, dd, dd, dd, dd, dd, dd, dd, dd, dd, dd, dd, dd, dd, dd, dd, dd, dd, dd, dd, dd, dd, dd, dd, dd, dd, dd, dd, dd, dd, dd, dd, dd, dd, dd, dd, dd, dd, dd, dd, dd, dd, dd, dd, dd, dd, dd, dd, dd, dd, dd], [.box [.d (.v (.int .i64 v_i3.fOp)), .d (.v (.int .i64 v_i3.fA)), .d (.v (.int .i64 v_i3.fB)), .d (.v (.int .i64 v_i3.fC))], .box [.d (.v (.int .i64 v_r1430.1.fOp)), .d (.v (.int .i64 v_r1430.1.fA)), .d (.v (.int .i64 v_r1430.1.fB)), .d (.v (.int .i64 v_r1430.1.fC))]]⟩
def G_ringlaw5_CodeSays_C2 (n : Nat) (v_w4 : Int) (v_r1378 : (ByteArray × Int)) (v_r1396 : (Int × Int)) (v_r1411 : (Int × Int)) (v_r1430 : (S_api_Ins × Int)) (v_i3 : S_api_Ins) : Option G_ringlaw5_CodeSays_C2_R :=
  if v_r1378.2 = 4 then
   if v_r1396.2 = v_r1378.2 then
    if (!(v_r1378.1.toList == (ByteArray.mk #[]).toList)) = true then
     some (.x0 true)
    else
     some (.x0 (v_r1396.1 != 0))
   else
    some (.x0 true)
  else
   some (.x0 true)
theorem G_ringlaw5_CodeSays_C2_ok {Fi : Ex → PS → Prop} (hF : KC 146 Fi) (ks : List Fr) (n : Nat) (v_w4 : Int) (v_r1378 : (ByteArray × Int)) (v_r1396 : (Int × Int)) (v_r1411 : (Int × Int)) (v_r1430 : (S_api_Ins × Int)) (v_i3 : S_api_Ins)  (o : G_ringlaw5_CodeSays_C2_R) (h : G_ringlaw5_CodeSays_C2 n v_w4 v_r1378 v_r1396 v_r1411 v_r1430 v_i3 = some o) (q : RunE Tryd.prog 146 Fi ks (G_ringlaw5_CodeSays_C2_ex o) (G_ringlaw5_CodeSays_C2_st v_w4 v_r1378 v_r1396 v_r1411 v_r1430 v_i3 o)) : RunE Tryd.prog 146 Fi (.s (cL (cT (cR (cL (cR (cR (cR (cR (cR (cR (cR (cR (bodyOf Tryd.f4))))))))))))) :: ks) .normal (G_ringlaw5_CodeSays_C2_hd v_w4 v_r1378 v_r1396 v_r1411 v_r1430 v_i3) := by
  unfold G_ringlaw5_CodeSays_C2 at h
  by_cases h1081 : v_r1378.2 = 4
  · rw [if_pos h1081] at h
    by_cases h1082 : v_r1396.2 = v_r1378.2
    · rw [if_pos h1082] at h
      by_cases h1083 : (!(v_r1378.1.toList == (ByteArray.mk #[]).toList)) = true
      · rw [if_pos h1083] at h
        cases h
        exact pkk_sound TTok mix hF 1 (hs := [.t false, .c, .c, .t false, .c, .t true, .c]) (ts := []) (s := [0, 1]) (l := [3, 6, 15, 16, 17, 18, 96]) (by kernel_rfl) (by kernel_rfl) (.cons (nf h1081) (.cons (nf h1082) (.cons h1083 .nil))) q
      · rw [if_neg h1083] at h
        cases h
        exact pkk_sound TTok mix hF 1 (hs := [.t false, .c, .c, .t false, .c, .t false, .c]) (ts := []) (s := [0, 1]) (l := [3, 6, 15, 16, 17, 18, 96]) (by kernel_rfl) (by kernel_rfl) (.cons (nf h1081) (.cons (nf h1082) (.cons (vf h1083) .nil))) q
    · rw [if_neg h1082] at h
      cases h
      exact pkk_sound TTok mix hF 1 (hs := [.t false, .c, .c, .t true, .c, .c, .c]) (ts := []) (s := [0, 1]) (l := [3, 6, 15, 16, 17, 18, 96]) (by kernel_rfl) (by kernel_rfl) (.cons (nf h1081) (.cons (nt h1082) .nil)) q
  · rw [if_neg h1081] at h
    cases h
    exact pkk_sound TTok mix hF 1 (hs := [.t true, .c, .c, .c, .c, .c, .c]) (ts := []) (s := [0, 1]) (l := [3, 6, 15, 16, 17, 18, 96]) (by kernel_rfl) (by kernel_rfl) (.cons (nt h1081) .nil) q
inductive G_ringlaw5_CodeSays_C3_R where
  | x0 (v_x1645 : Bool)
def G_ringlaw5_CodeSays_C3_ex : G_ringlaw5_CodeSays_C3_R → Ex
  | .x0 _ => .normal
def G_ringlaw5_CodeSays_C3_st (v_x1607 : Int) (v_h1608 : Int) (v_j1609 : Int) (v_r1615 : (Int × Int)) (v_r1628 : (S_api_Ins × Int)) (v_b1606 : S_api_Ins) : G_ringlaw5_CodeSays_C3_R → PS
  | .x0 v_x1645 => ⟨[dd, dd, dd, dd, dd, dd, dd, dd, .d (.v (.bool v_x1645)), dd, dd, dd, dd, dd, dd, dd, dd, dd, dd, dd, dd, dd, dd, dd, dd, dd, dd, dd, dd, dd, dd, dd, dd, dd, dd, dd, dd, dd, dd, dd, dd, dd, dd, dd, dd, dd, dd, dd, dd, dd, dd, dd, dd, dd, dd, dd, dd, dd, dd, dd, dd, dd, dd, dd, dd, dd, dd, dd, dd, dd, dd, dd, dd, dd, dd, dd, dd, dd, dd, dd, dd, dd, dd, dd, dd, dd, dd, dd, dd, dd, dd, dd, dd, dd, dd, dd, dd, dd, dd, dd, dd, dd, dd, dd, dd, dd, dd, dd, dd, dd, dd, dd, dd, dd, dd, dd, dd, dd, dd, dd, dd, dd, dd, dd, dd, dd, dd, dd, dd, dd, dd, dd, dd, dd, dd, dd, dd, dd, dd, dd, dd, dd, dd, dd, dd, dd], []⟩
def G_ringlaw5_CodeSays_C3_hd (v_x1607 : Int) (v_h1608 : Int) (v_j1609 : Int) (v_r1615 : (Int × Int)) (v_r1628 : (S_api_Ins × Int)) (v_b1606 : S_api_Ins)  : PS := ⟨[dd, dd, dd, dd, dd, dd, dd, dd, dd, dd, dd, dd, dd, dd, dd, .d (.v (.int .u32 v_x1607)), .d (.v (.int .i64 v_h1608)), .ref 0 0, .d (.v (.int .i64 v_j1609)), dd, .d (.v (.int .u32 v_r1615.1)), .d (.v (.int .i64 v_r1615.2)), .ref 1 0, .d (.v (.int .i64 v_r1628.2)), dd, dd, dd, dd, dd, dd, dd, dd, dd, dd, dd, dd, dd, dd, dd, dd, dd, dd, dd, dd, dd, dd, dd, dd, dd, dd, dd, dd, dd, dd, dd, dd, dd, dd, dd, dd, dd, dd, dd, dd, dd, dd, dd, dd, dd, dd, dd, dd, dd, dd, dd, dd, dd, dd, dd, dd, dd, dd, dd, dd, dd, dd, dd, dd, dd, dd, dd, dd, dd, dd, dd, dd, dd, dd, dd, dd, dd, dd, dd, dd, dd, dd, dd, dd, dd, dd, dd, dd, dd, dd, dd, dd, dd, dd, dd, dd, dd, dd, dd, dd, dd, dd, dd, dd, dd, dd, dd, dd, dd, dd, dd, dd, dd, dd, dd, dd, dd, dd, dd, dd, dd, dd], [.box [.d (.v (.int .i64 v_b1606.fOp)), .d (.v (.int .i64 v_b1606.fA)), .d (.v (.int .i64 v_b1606.fB)), .d (.v (.int .i64 v_b1606.fC))], .box [.d (.v (.int .i64 v_r1628.1.fOp)), .d (.v (.int .i64 v_r1628.1.fA)), .d (.v (.int .i64 v_r1628.1.fB)), .d (.v (.int .i64 v_r1628.1.fC))]]⟩
def G_ringlaw5_CodeSays_C3 (n : Nat) (v_x1607 : Int) (v_h1608 : Int) (v_j1609 : Int) (v_r1615 : (Int × Int)) (v_r1628 : (S_api_Ins × Int)) (v_b1606 : S_api_Ins) : Option G_ringlaw5_CodeSays_C3_R :=
  if v_x1607 = v_r1615.1 then
   if v_h1608 = v_r1615.2 then
    if (eqRes .eql (eqS_api_Ins v_b1606 v_r1628.1)) = true then
     some (.x0 (v_j1609 == v_r1628.2))
    else
     some (.x0 false)
   else
    some (.x0 false)
  else
   some (.x0 false)
theorem G_ringlaw5_CodeSays_C3_ok {Fi : Ex → PS → Prop} (hF : KC 146 Fi) (ks : List Fr) (n : Nat) (v_x1607 : Int) (v_h1608 : Int) (v_j1609 : Int) (v_r1615 : (Int × Int)) (v_r1628 : (S_api_Ins × Int)) (v_b1606 : S_api_Ins)  (o : G_ringlaw5_CodeSays_C3_R) (h : G_ringlaw5_CodeSays_C3 n v_x1607 v_h1608 v_j1609 v_r1615 v_r1628 v_b1606 = some o) (q : RunE Tryd.prog 146 Fi ks (G_ringlaw5_CodeSays_C3_ex o) (G_ringlaw5_CodeSays_C3_st v_x1607 v_h1608 v_j1609 v_r1615 v_r1628 v_b1606 o)) : RunE Tryd.prog 146 Fi (.s (cL (cR (cR (cR (cR (cR (cR (cR (cR (cR (cR (cR (bodyOf Tryd.f4))))))))))))) :: ks) .normal (G_ringlaw5_CodeSays_C3_hd v_x1607 v_h1608 v_j1609 v_r1615 v_r1628 v_b1606) := by
  unfold G_ringlaw5_CodeSays_C3 at h
  by_cases h1091 : v_x1607 = v_r1615.1
  · rw [if_pos h1091] at h
    by_cases h1092 : v_h1608 = v_r1615.2
    · rw [if_pos h1092] at h
      by_cases h1093 : (eqRes .eql (eqS_api_Ins v_b1606 v_r1628.1)) = true
      · rw [if_pos h1093] at h
        cases h
        exact pkk_sound TTok mix hF 1 (hs := [.t true, .c, .c, .t true, .c, .c, .c, .c, .q (eqS_api_Ins v_b1606 v_r1628.1), .t true, .c, .c]) (ts := []) (s := []) (l := [8]) (by kernel_rfl) (by kernel_rfl) (.cons (bt h1091) (.cons (bt h1092) (.cons (eqS_api_Ins_ok v_b1606 v_r1628.1) (.cons h1093 .nil)))) q
      · rw [if_neg h1093] at h
        cases h
        exact pkk_sound TTok mix hF 1 (hs := [.t true, .c, .c, .t true, .c, .c, .c, .c, .q (eqS_api_Ins v_b1606 v_r1628.1), .t false, .c, .c]) (ts := []) (s := []) (l := [8]) (by kernel_rfl) (by kernel_rfl) (.cons (bt h1091) (.cons (bt h1092) (.cons (eqS_api_Ins_ok v_b1606 v_r1628.1) (.cons (vf h1093) .nil)))) q
    · rw [if_neg h1092] at h
      cases h
      exact pkk_sound TTok mix hF 1 (hs := [.t true, .c, .c, .t false, .c, .c, .c, .c, .c]) (ts := []) (s := []) (l := [8]) (by kernel_rfl) (by kernel_rfl) (.cons (bt h1091) (.cons (bf h1092) .nil)) q
  · rw [if_neg h1091] at h
    cases h
    exact pkk_sound TTok mix hF 1 (hs := [.t false, .c, .c, .c, .c, .c, .c, .c, .c]) (ts := []) (s := []) (l := [8]) (by kernel_rfl) (by kernel_rfl) (.cons (bf h1091) .nil) q
def G_ringlaw5_CodeSays_J1 (n : Nat) (v_w4 : Int) (v_b1605 : S_api_Ins) (v_b1606 : S_api_Ins) (v_x1607 : Int) (v_h1608 : Int) (v_j1609 : Int) : Option (Bool) :=
  (G_ringref5_EncodeOf n v_b1605).bind fun (v_r1615 : (Int × Int)) =>
  (G_ringref5_DecodeOf n v_w4).bind fun (v_r1628 : (S_api_Ins × Int)) =>
  (G_ringlaw5_CodeSays_C3 n v_x1607 v_h1608 v_j1609 v_r1615 v_r1628 v_b1606).bind fun v_o1649 => match v_o1649 with
  | .x0 v_z1650 =>
    some v_z1650
theorem G_ringlaw5_CodeSays_J1_ok (n : Nat) (v_w4 : Int)  (v_b1605 : S_api_Ins) (v_b1606 : S_api_Ins) (v_x1607 : Int) (v_h1608 : Int) (v_j1609 : Int) (r : Bool) (h : G_ringlaw5_CodeSays_J1 n v_w4 v_b1605 v_b1606 v_x1607 v_h1608 v_j1609 = some r) : RunE Tryd.prog 146 (FinR Tryd.prog Tryd.f4 (eB r)) (.s (cR (cR (cR (cR (cR (cR (cR (cR (cR (bodyOf Tryd.f4)))))))))) :: []) .normal ⟨[dd, dd, dd, .d (.v (.int .u32 v_w4)), dd, dd, .ref 0 0, dd, dd, dd, dd, dd, dd, dd, dd, .d (.v (.int .u32 v_x1607)), .d (.v (.int .i64 v_h1608)), .ref 1 0, .d (.v (.int .i64 v_j1609)), dd, dd, dd, dd, dd, dd, dd, dd, dd, dd, dd, dd, dd, dd, dd, dd, dd, dd, dd, dd, dd, dd, dd, dd, dd, dd, dd, dd, dd, dd, dd, dd, dd, dd, dd, dd, dd, dd, dd, dd, dd, dd, dd, dd, dd, dd, dd, dd, dd, dd, dd, dd, dd, dd, dd, dd, dd, dd, dd, dd, dd, dd, dd, dd, dd, dd, dd, dd, dd, dd, dd, dd, dd, dd, dd, dd, dd, dd, dd, dd, dd, dd, dd, dd, dd, dd, dd, dd, dd, dd, dd, dd, dd, dd, dd, dd, dd, dd, dd, dd, dd, dd, dd, dd, dd, dd, dd, dd, dd, dd, dd, dd, dd, dd, dd, dd, dd, dd, dd, dd, dd, dd, dd, dd, dd, dd, dd], [.box [.d (.v (.int .i64 v_b1605.fOp)), .d (.v (.int .i64 v_b1605.fA)), .d (.v (.int .i64 v_b1605.fB)), .d (.v (.int .i64 v_b1605.fC))], .box [.d (.v (.int .i64 v_b1606.fOp)), .d (.v (.int .i64 v_b1606.fA)), .d (.v (.int .i64 v_b1606.fB)), .d (.v (.int .i64 v_b1606.fC))]]⟩ := by
  have hF : KC 146 (FinR Tryd.prog Tryd.f4 (eB r)) := FinR.kc' (by kernel_rfl)
  unfold G_ringlaw5_CodeSays_J1 at h
  obtain ⟨v_r1615, h1086, h⟩ := bind_some h
  obtain ⟨v_r1628, h1087, h⟩ := bind_some h
  obtain ⟨v_o1649, h1094, h⟩ := bind_some h
  refine pkk_sound TTok mix hF 5 (hs := [.c, .r (.tup [(eI .u32) v_r1615.1, (eI .i64) v_r1615.2]), .r (.tup [eS_api_Ins v_r1628.1, (eI .i64) v_r1628.2]), .c]) (ts := []) (s := [1, 62]) (l := [15, 16, 17, 18, 20, 21, 22, 23]) (by kernel_rfl) (by kernel_rfl) (.cons (G_ringref5_EncodeOf_ok n v_b1605 _ h1086) (.cons (G_ringref5_DecodeOf_ok n v_w4 _ h1087) (.cons (show 0 + 4 ≤ 4 by decide) .nil))) (G_ringlaw5_CodeSays_C3_ok hF (.s (cR (cR (cR (cR (cR (cR (cR (cR (cR (cR (cR (cR (bodyOf Tryd.f4))))))))))))) :: []) n v_x1607 v_h1608 v_j1609 v_r1615 v_r1628 v_b1606 _ h1094 ?_)
  cases v_o1649 with
  | x0 v_z1650 =>
    try dsimp only at h
    obtain rfl := Option.some.inj h
    exact pend_sound TTok mix 1 (hs := []) (by kernel_rfl) (by kernel_rfl) (by kernel_rfl) .nil
inductive G_ringlaw5_CodeSays_C4_R where
  | x0 (v_x1678 : Bool)
def G_ringlaw5_CodeSays_C4_ex : G_ringlaw5_CodeSays_C4_R → Ex
  | .x0 _ => .normal
def G_ringlaw5_CodeSays_C4_st (v_w4 : Int) (v_r1378 : (ByteArray × Int)) (v_r1396 : (Int × Int)) (v_r1411 : (Int × Int)) (v_r1430 : (S_api_Ins × Int)) (v_i3 : S_api_Ins) : G_ringlaw5_CodeSays_C4_R → PS
  | .x0 v_x1678 => ⟨[dd, dd, dd, .d (.v (.int .u32 v_w4)), dd, dd, .ref 0 0, dd, dd, dd, dd, dd, dd, dd, dd, .d (.v (.int .u32 v_r1411.1)), .d (.v (.int .i64 v_r1411.2)), .ref 1 0, .d (.v (.int .i64 v_r1430.2)), dd, dd, dd, dd, dd, dd, dd, dd, dd, dd, dd, dd, dd, dd, dd, dd, dd, dd, dd, dd, dd, dd, dd, dd, dd, dd, dd, dd, dd, dd, dd, dd, dd, dd, dd, dd, dd, dd, dd, dd, dd, dd, dd, dd, dd, dd, dd, dd, dd, dd, dd, dd, dd, dd, dd, dd, dd, dd, dd, dd, dd, dd, dd, dd, dd, dd, dd, dd, dd, dd, dd, dd, dd, dd, dd, dd, dd, .d (.v (.bool v_x1678)), dd, dd, dd, dd, dd, dd, dd, dd, dd, dd, dd, dd, dd, dd, dd, dd, dd, dd, dd, dd, dd, dd, dd, dd, dd, dd, dd, dd, dd, dd, dd, dd, dd, dd, dd, dd, dd, dd, dd, dd, dd, dd, dd, dd, dd, dd, dd, dd, dd], [.box [.d (.v (.int .i64 v_i3.fOp)), .d (.v (.int .i64 v_i3.fA)), .d (.v (.int .i64 v_i3.fB)), .d (.v (.int .i64 v_i3.fC))], .box [.d (.v (.int .i64 v_r1430.1.fOp)), .d (.v (.int .i64 v_r1430.1.fA)), .d (.v (.int .i64 v_r1430.1.fB)), .d (.v (.int .i64 v_r1430.1.fC))]]⟩
def G_ringlaw5_CodeSays_C4_hd (v_w4 : Int) (v_r1378 : (ByteArray × Int)) (v_r1396 : (Int × Int)) (v_r1411 : (Int × Int)) (v_r1430 : (S_api_Ins × Int)) (v_i3 : S_api_Ins)  : PS := ⟨[dd, dd, dd, .d (.v (.int .u32 v_w4)), dd, dd, .ref 0 0, dd, dd, .d (.v (.string v_r1378.1)), .d (.v (.int .i64 v_r1378.2)), dd, dd, .d (.v (.int .i64 v_r1396.1)), .d (.v (.int .i64 v_r1396.2)), .d (.v (.int .u32 v_r1411.1)), .d (.v (.int .i64 v_r1411.2)), .ref 1 0, .d (.v (.int .i64 v_r1430.2)), dd, dd, dd, dd, dd, dd, dd, dd, dd, dd, dd, dd, dd, dd, dd, dd, dd, dd, dd, dd, dd, dd, dd, dd, dd, dd, dd, dd, dd, dd, dd, dd, dd, dd, dd, dd, dd, dd, dd, dd, dd, dd, dd, dd, dd, dd, dd, dd, dd, dd, dd, dd, dd, dd, dd, dd, dd, dd, dd, dd, dd, dd, dd, dd, dd, dd, dd, dd, dd, dd, dd, dd, dd, dd, dd, dd, dd, dd, dd, dd, dd, dd, dd, dd, dd, dd, dd, dd, dd, dd, dd, dd, dd, dd, dd, dd, dd, dd, dd, dd, dd, dd, dd, dd, dd, dd, dd, dd, dd, dd, dd, dd, dd, dd, dd, dd, dd, dd, dd, dd, dd, dd, dd, dd, dd, dd, dd], [.box [.d (.v (.int .i64 v_i3.fOp)), .d (.v (.int .i64 v_i3.fA)), .d (.v (.int .i64 v_i3.fB)), .d (.v (.int .i64 v_i3.fC))], .box [.d (.v (.int .i64 v_r1430.1.fOp)), .d (.v (.int .i64 v_r1430.1.fA)), .d (.v (.int .i64 v_r1430.1.fB)), .d (.v (.int .i64 v_r1430.1.fC))]]⟩
def G_ringlaw5_CodeSays_C4 (n : Nat) (v_w4 : Int) (v_r1378 : (ByteArray × Int)) (v_r1396 : (Int × Int)) (v_r1411 : (Int × Int)) (v_r1430 : (S_api_Ins × Int)) (v_i3 : S_api_Ins) : Option G_ringlaw5_CodeSays_C4_R :=
  if v_r1378.2 = 4 then
   if v_r1396.2 = v_r1378.2 then
    if (!(v_r1378.1.toList == (ByteArray.mk #[]).toList)) = true then
     some (.x0 true)
    else
     some (.x0 (v_r1396.1 != 0))
   else
    some (.x0 true)
  else
   some (.x0 true)
theorem G_ringlaw5_CodeSays_C4_ok {Fi : Ex → PS → Prop} (hF : KC 146 Fi) (ks : List Fr) (n : Nat) (v_w4 : Int) (v_r1378 : (ByteArray × Int)) (v_r1396 : (Int × Int)) (v_r1411 : (Int × Int)) (v_r1430 : (S_api_Ins × Int)) (v_i3 : S_api_Ins)  (o : G_ringlaw5_CodeSays_C4_R) (h : G_ringlaw5_CodeSays_C4 n v_w4 v_r1378 v_r1396 v_r1411 v_r1430 v_i3 = some o) (q : RunE Tryd.prog 146 Fi ks (G_ringlaw5_CodeSays_C4_ex o) (G_ringlaw5_CodeSays_C4_st v_w4 v_r1378 v_r1396 v_r1411 v_r1430 v_i3 o)) : RunE Tryd.prog 146 Fi (.s (cL (cT (cR (cL (cR (cR (cR (cR (cR (cR (cR (cR (bodyOf Tryd.f4))))))))))))) :: ks) .normal (G_ringlaw5_CodeSays_C4_hd v_w4 v_r1378 v_r1396 v_r1411 v_r1430 v_i3) := by
  unfold G_ringlaw5_CodeSays_C4 at h
  by_cases h1122 : v_r1378.2 = 4
  · rw [if_pos h1122] at h
    by_cases h1123 : v_r1396.2 = v_r1378.2
    · rw [if_pos h1123] at h
      by_cases h1124 : (!(v_r1378.1.toList == (ByteArray.mk #[]).toList)) = true
      · rw [if_pos h1124] at h
        cases h
        exact pkk_sound TTok mix hF 1 (hs := [.t false, .c, .c, .t false, .c, .t true, .c]) (ts := []) (s := [0, 1]) (l := [3, 6, 15, 16, 17, 18, 96]) (by kernel_rfl) (by kernel_rfl) (.cons (nf h1122) (.cons (nf h1123) (.cons h1124 .nil))) q
      · rw [if_neg h1124] at h
        cases h
        exact pkk_sound TTok mix hF 1 (hs := [.t false, .c, .c, .t false, .c, .t false, .c]) (ts := []) (s := [0, 1]) (l := [3, 6, 15, 16, 17, 18, 96]) (by kernel_rfl) (by kernel_rfl) (.cons (nf h1122) (.cons (nf h1123) (.cons (vf h1124) .nil))) q
    · rw [if_neg h1123] at h
      cases h
      exact pkk_sound TTok mix hF 1 (hs := [.t false, .c, .c, .t true, .c, .c, .c]) (ts := []) (s := [0, 1]) (l := [3, 6, 15, 16, 17, 18, 96]) (by kernel_rfl) (by kernel_rfl) (.cons (nf h1122) (.cons (nt h1123) .nil)) q
  · rw [if_neg h1122] at h
    cases h
    exact pkk_sound TTok mix hF 1 (hs := [.t true, .c, .c, .c, .c, .c, .c]) (ts := []) (s := [0, 1]) (l := [3, 6, 15, 16, 17, 18, 96]) (by kernel_rfl) (by kernel_rfl) (.cons (nt h1122) .nil) q
inductive G_ringlaw5_CodeSays_C5_R where
  | x0 (v_x1688 : Bool)
def G_ringlaw5_CodeSays_C5_ex : G_ringlaw5_CodeSays_C5_R → Ex
  | .x0 _ => .normal
def G_ringlaw5_CodeSays_C5_st (v_op1 : Int) (v_w4 : Int) (v_r1378 : (ByteArray × Int)) (v_r1396 : (Int × Int)) (v_r1411 : (Int × Int)) (v_r1430 : (S_api_Ins × Int)) (v_i3 : S_api_Ins) : G_ringlaw5_CodeSays_C5_R → PS
  | .x0 v_x1688 => ⟨[dd, dd, dd, .d (.v (.int .u32 v_w4)), dd, dd, .ref 0 0, dd, dd, dd, dd, dd, dd, dd, dd, .d (.v (.int .u32 v_r1411.1)), .d (.v (.int .i64 v_r1411.2)), .ref 1 0, .d (.v (.int .i64 v_r1430.2)), dd, dd, dd, dd, dd, dd, dd, dd, dd, dd, dd, dd, dd, dd, dd, dd, dd, dd, dd, dd, dd, dd, dd, dd, dd, dd, dd, dd, dd, dd, dd, dd, dd, dd, dd, dd, dd, dd, dd, dd, dd, dd, dd, dd, dd, dd, dd, dd, dd, dd, dd, dd, dd, dd, dd, dd, dd, dd, dd, dd, dd, dd, dd, dd, dd, dd, dd, dd, dd, dd, dd, dd, dd, dd, dd, dd, dd, dd, dd, dd, dd, dd, dd, dd, dd, dd, dd, dd, dd, dd, dd, dd, dd, dd, dd, dd, dd, dd, .d (.v (.bool v_x1688)), dd, dd, dd, dd, dd, dd, dd, dd, dd, dd, dd, dd, dd, dd, dd, dd, dd, dd, dd, dd, dd, dd, dd, dd, dd, dd, dd, dd], [.box [.d (.v (.int .i64 v_i3.fOp)), .d (.v (.int .i64 v_i3.fA)), .d (.v (.int .i64 v_i3.fB)), .d (.v (.int .i64 v_i3.fC))], .box [.d (.v (.int .i64 v_r1430.1.fOp)), .d (.v (.int .i64 v_r1430.1.fA)), .d (.v (.int .i64 v_r1430.1.fB)), .d (.v (.int .i64 v_r1430.1.fC))]]⟩
def G_ringlaw5_CodeSays_C5_hd (v_op1 : Int) (v_w4 : Int) (v_r1378 : (ByteArray × Int)) (v_r1396 : (Int × Int)) (v_r1411 : (Int × Int)) (v_r1430 : (S_api_Ins × Int)) (v_i3 : S_api_Ins)  : PS := ⟨[.d (.v (.int .i64 v_op1)), dd, dd, .d (.v (.int .u32 v_w4)), dd, dd, .ref 0 0, dd, dd, .d (.v (.string v_r1378.1)), .d (.v (.int .i64 v_r1378.2)), dd, dd, .d (.v (.int .i64 v_r1396.1)), .d (.v (.int .i64 v_r1396.2)), .d (.v (.int .u32 v_r1411.1)), .d (.v (.int .i64 v_r1411.2)), .ref 1 0, .d (.v (.int .i64 v_r1430.2)), dd, dd, dd, dd, dd, dd, dd, dd, dd, dd, dd, dd, dd, dd, dd, dd, dd, dd, dd, dd, dd, dd, dd, dd, dd, dd, dd, dd, dd, dd, dd, dd, dd, dd, dd, dd, dd, dd, dd, dd, dd, dd, dd, dd, dd, dd, dd, dd, dd, dd, dd, dd, dd, dd, dd, dd, dd, dd, dd, dd, dd, dd, dd, dd, dd, dd, dd, dd, dd, dd, dd, dd, dd, dd, dd, dd, dd, dd, dd, dd, dd, dd, dd, dd, dd, dd, dd, dd, dd, dd, dd, dd, dd, dd, dd, dd, dd, dd, dd, dd, dd, dd, dd, dd, dd, dd, dd, dd, dd, dd, dd, dd, dd, dd, dd, dd, dd, dd, dd, dd, dd, dd, dd, dd, dd, dd, dd], [.box [.d (.v (.int .i64 v_i3.fOp)), .d (.v (.int .i64 v_i3.fA)), .d (.v (.int .i64 v_i3.fB)), .d (.v (.int .i64 v_i3.fC))], .box [.d (.v (.int .i64 v_r1430.1.fOp)), .d (.v (.int .i64 v_r1430.1.fA)), .d (.v (.int .i64 v_r1430.1.fB)), .d (.v (.int .i64 v_r1430.1.fC))]]⟩
def G_ringlaw5_CodeSays_C5 (n : Nat) (v_op1 : Int) (v_w4 : Int) (v_r1378 : (ByteArray × Int)) (v_r1396 : (Int × Int)) (v_r1411 : (Int × Int)) (v_r1430 : (S_api_Ins × Int)) (v_i3 : S_api_Ins) : Option G_ringlaw5_CodeSays_C5_R :=
  if v_r1378.2 = 0 then
   (G_ringref5_Words n ).bind fun (v_r1689 : ((List ByteArray))) =>
   (getI v_r1689 (wi .i64 (v_op1 - 1))).bind fun (v_y1690 : ByteArray) =>
   if (!(v_r1378.1.toList == v_y1690.toList)) = true then
    some (.x0 true)
   else
    if v_r1396.2 = 0 then
     (G_ringref5_Bits n v_op1).bind fun (v_r1693 : (Int)) =>
     some (.x0 (v_r1396.1 != v_r1693))
    else
     some (.x0 true)
  else
   some (.x0 true)
theorem G_ringlaw5_CodeSays_C5_ok {Fi : Ex → PS → Prop} (hF : KC 146 Fi) (ks : List Fr) (n : Nat) (v_op1 : Int) (v_w4 : Int) (v_r1378 : (ByteArray × Int)) (v_r1396 : (Int × Int)) (v_r1411 : (Int × Int)) (v_r1430 : (S_api_Ins × Int)) (v_i3 : S_api_Ins)  (o : G_ringlaw5_CodeSays_C5_R) (h : G_ringlaw5_CodeSays_C5 n v_op1 v_w4 v_r1378 v_r1396 v_r1411 v_r1430 v_i3 = some o) (q : RunE Tryd.prog 146 Fi ks (G_ringlaw5_CodeSays_C5_ex o) (G_ringlaw5_CodeSays_C5_st v_op1 v_w4 v_r1378 v_r1396 v_r1411 v_r1430 v_i3 o)) : RunE Tryd.prog 146 Fi (.s (cL (cF (cR (cL (cR (cR (cR (cR (cR (cR (cR (cR (bodyOf Tryd.f4))))))))))))) :: ks) .normal (G_ringlaw5_CodeSays_C5_hd v_op1 v_w4 v_r1378 v_r1396 v_r1411 v_r1430 v_i3) := by
  unfold G_ringlaw5_CodeSays_C5 at h
  by_cases h1133 : v_r1378.2 = 0
  · rw [if_pos h1133] at h
    obtain ⟨v_r1689, h1134, h⟩ := bind_some h
    obtain ⟨v_y1690, h1135, h⟩ := bind_some h
    by_cases h1136 : (!(v_r1378.1.toList == v_y1690.toList)) = true
    · rw [if_pos h1136] at h
      cases h
      exact pkk_sound TTok mix hF 1 (hs := [.t false, .c, .r ((eL eS) v_r1689), .c, .c, .c, .y (eS v_y1690), .c, .c, .c, .t true, .c, .c, .c, .c, .c]) (ts := []) (s := [0, 1]) (l := [3, 6, 15, 16, 17, 18, 117]) (by kernel_rfl) (by kernel_rfl) (.cons (nf h1133) (.cons (G_ringref5_Words_ok n  _ h1134) (.cons (getI_ob (f := eS) h1135) (.cons h1136 .nil)))) q
    · rw [if_neg h1136] at h
      by_cases h1137 : v_r1396.2 = 0
      · rw [if_pos h1137] at h
        obtain ⟨v_r1693, h1138, h⟩ := bind_some h
        cases h
        exact pkk_sound TTok mix hF 1 (hs := [.t false, .c, .r ((eL eS) v_r1689), .c, .c, .c, .y (eS v_y1690), .c, .c, .c, .t false, .c, .t false, .c, .c, .r ((eI .i64) v_r1693), .c]) (ts := []) (s := [0, 1]) (l := [3, 6, 15, 16, 17, 18, 117]) (by kernel_rfl) (by kernel_rfl) (.cons (nf h1133) (.cons (G_ringref5_Words_ok n  _ h1134) (.cons (getI_ob (f := eS) h1135) (.cons (vf h1136) (.cons (nf h1137) (.cons (G_ringref5_Bits_ok n v_op1 _ h1138) .nil)))))) q
      · rw [if_neg h1137] at h
        cases h
        exact pkk_sound TTok mix hF 1 (hs := [.t false, .c, .r ((eL eS) v_r1689), .c, .c, .c, .y (eS v_y1690), .c, .c, .c, .t false, .c, .t true, .c, .c, .c]) (ts := []) (s := [0, 1]) (l := [3, 6, 15, 16, 17, 18, 117]) (by kernel_rfl) (by kernel_rfl) (.cons (nf h1133) (.cons (G_ringref5_Words_ok n  _ h1134) (.cons (getI_ob (f := eS) h1135) (.cons (vf h1136) (.cons (nt h1137) .nil))))) q
  · rw [if_neg h1133] at h
    cases h
    exact pkk_sound TTok mix hF 1 (hs := [.t true, .c, .c, .c, .c, .c, .c, .c, .c, .c, .c, .c, .c]) (ts := []) (s := [0, 1]) (l := [3, 6, 15, 16, 17, 18, 117]) (by kernel_rfl) (by kernel_rfl) (.cons (nt h1133) .nil) q
inductive G_ringlaw5_CodeSays_C6_R where
  | x0 (v_x1684 : Bool)
  | x1 
def G_ringlaw5_CodeSays_C6_ex : G_ringlaw5_CodeSays_C6_R → Ex
  | .x0 _ => .ret
  | .x1  => .normal
def G_ringlaw5_CodeSays_C6_st (v_op1 : Int) (v_w4 : Int) (v_r1378 : (ByteArray × Int)) (v_r1396 : (Int × Int)) (v_r1411 : (Int × Int)) (v_r1430 : (S_api_Ins × Int)) (v_i3 : S_api_Ins) : G_ringlaw5_CodeSays_C6_R → PS
  | .x0 v_x1684 => ⟨[dd, dd, dd, dd, dd, dd, dd, dd, .d (.v (.bool v_x1684)), dd, dd, dd, dd, dd, dd, dd, dd, dd, dd, dd, dd, dd, dd, dd, dd, dd, dd, dd, dd, dd, dd, dd, dd, dd, dd, dd, dd, dd, dd, dd, dd, dd, dd, dd, dd, dd, dd, dd, dd, dd, dd, dd, dd, dd, dd, dd, dd, dd, dd, dd, dd, dd, dd, dd, dd, dd, dd, dd, dd, dd, dd, dd, dd, dd, dd, dd, dd, dd, dd, dd, dd, dd, dd, dd, dd, dd, dd, dd, dd, dd, dd, dd, dd, dd, dd, dd, dd, dd, dd, dd, dd, dd, dd, dd, dd, dd, dd, dd, dd, dd, dd, dd, dd, dd, dd, dd, dd, dd, dd, dd, dd, dd, dd, dd, dd, dd, dd, dd, dd, dd, dd, dd, dd, dd, dd, dd, dd, dd, dd, dd, dd, dd, dd, dd, dd, dd], []⟩
  | .x1  => ⟨[dd, dd, dd, .d (.v (.int .u32 v_w4)), dd, dd, .ref 0 0, dd, dd, dd, dd, dd, dd, dd, dd, .d (.v (.int .u32 v_r1411.1)), .d (.v (.int .i64 v_r1411.2)), .ref 1 0, .d (.v (.int .i64 v_r1430.2)), dd, dd, dd, dd, dd, dd, dd, dd, dd, dd, dd, dd, dd, dd, dd, dd, dd, dd, dd, dd, dd, dd, dd, dd, dd, dd, dd, dd, dd, dd, dd, dd, dd, dd, dd, dd, dd, dd, dd, dd, dd, dd, dd, dd, dd, dd, dd, dd, dd, dd, dd, dd, dd, dd, dd, dd, dd, dd, dd, dd, dd, dd, dd, dd, dd, dd, dd, dd, dd, dd, dd, dd, dd, dd, dd, dd, dd, dd, dd, dd, dd, dd, dd, dd, dd, dd, dd, dd, dd, dd, dd, dd, dd, dd, dd, dd, dd, dd, dd, dd, dd, dd, dd, dd, dd, dd, dd, dd, dd, dd, dd, dd, dd, dd, dd, dd, dd, dd, dd, dd, dd, dd, dd, dd, dd, dd, dd], [.box [.d (.v (.int .i64 v_i3.fOp)), .d (.v (.int .i64 v_i3.fA)), .d (.v (.int .i64 v_i3.fB)), .d (.v (.int .i64 v_i3.fC))], .box [.d (.v (.int .i64 v_r1430.1.fOp)), .d (.v (.int .i64 v_r1430.1.fA)), .d (.v (.int .i64 v_r1430.1.fB)), .d (.v (.int .i64 v_r1430.1.fC))]]⟩
def G_ringlaw5_CodeSays_C6_hd (v_op1 : Int) (v_w4 : Int) (v_r1378 : (ByteArray × Int)) (v_r1396 : (Int × Int)) (v_r1411 : (Int × Int)) (v_r1430 : (S_api_Ins × Int)) (v_i3 : S_api_Ins)  : PS := ⟨[.d (.v (.int .i64 v_op1)), dd, dd, .d (.v (.int .u32 v_w4)), dd, dd, .ref 0 0, dd, dd, .d (.v (.string v_r1378.1)), .d (.v (.int .i64 v_r1378.2)), dd, dd, .d (.v (.int .i64 v_r1396.1)), .d (.v (.int .i64 v_r1396.2)), .d (.v (.int .u32 v_r1411.1)), .d (.v (.int .i64 v_r1411.2)), .ref 1 0, .d (.v (.int .i64 v_r1430.2)), dd, dd, dd, dd, dd, dd, dd, dd, dd, dd, dd, dd, dd, dd, dd, dd, dd, dd, dd, dd, dd, dd, dd, dd, dd, dd, dd, dd, dd, dd, dd, dd, dd, dd, dd, dd, dd, dd, dd, dd, dd, dd, dd, dd, dd, dd, dd, dd, dd, dd, dd, dd, dd, dd, dd, dd, dd, dd, dd, dd, dd, dd, .d (.v (.bool (decide (v_op1 > 26)))), dd, dd, dd, dd, dd, dd, dd, dd, dd, dd, dd, dd, dd, dd, dd, dd, dd, dd, dd, dd, dd, dd, dd, dd, dd, dd, dd, dd, dd, dd, dd, dd, dd, dd, dd, dd, dd, dd, dd, dd, dd, dd, dd, dd, dd, dd, dd, dd, dd, dd, dd, dd, dd, dd, dd, dd, dd, dd, dd, dd, dd, dd, dd, dd], [.box [.d (.v (.int .i64 v_i3.fOp)), .d (.v (.int .i64 v_i3.fA)), .d (.v (.int .i64 v_i3.fB)), .d (.v (.int .i64 v_i3.fC))], .box [.d (.v (.int .i64 v_r1430.1.fOp)), .d (.v (.int .i64 v_r1430.1.fA)), .d (.v (.int .i64 v_r1430.1.fB)), .d (.v (.int .i64 v_r1430.1.fC))]]⟩
def G_ringlaw5_CodeSays_C6 (n : Nat) (v_op1 : Int) (v_w4 : Int) (v_r1378 : (ByteArray × Int)) (v_r1396 : (Int × Int)) (v_r1411 : (Int × Int)) (v_r1430 : (S_api_Ins × Int)) (v_i3 : S_api_Ins) : Option G_ringlaw5_CodeSays_C6_R :=
  if v_op1 > 26 then
   (G_ringlaw5_CodeSays_C4 n v_w4 v_r1378 v_r1396 v_r1411 v_r1430 v_i3).bind fun v_o1682 => match v_o1682 with
   | .x0 v_z1683 =>
     if v_z1683 = true then
      some (.x0 false)
     else
      some (.x1 )
  else
   (G_ringlaw5_CodeSays_C5 n v_op1 v_w4 v_r1378 v_r1396 v_r1411 v_r1430 v_i3).bind fun v_o1695 => match v_o1695 with
   | .x0 v_z1696 =>
     if v_z1696 = true then
      some (.x0 false)
     else
      some (.x1 )
theorem G_ringlaw5_CodeSays_C6_ok {Fi : Ex → PS → Prop} (hF : KC 146 Fi) (ks : List Fr) (n : Nat) (v_op1 : Int) (v_w4 : Int) (v_r1378 : (ByteArray × Int)) (v_r1396 : (Int × Int)) (v_r1411 : (Int × Int)) (v_r1430 : (S_api_Ins × Int)) (v_i3 : S_api_Ins)  (o : G_ringlaw5_CodeSays_C6_R) (h : G_ringlaw5_CodeSays_C6 n v_op1 v_w4 v_r1378 v_r1396 v_r1411 v_r1430 v_i3 = some o) (q : RunE Tryd.prog 146 Fi ks (G_ringlaw5_CodeSays_C6_ex o) (G_ringlaw5_CodeSays_C6_st v_op1 v_w4 v_r1378 v_r1396 v_r1411 v_r1430 v_i3 o)) : RunE Tryd.prog 146 Fi (.s (cR (cL (cR (cR (cR (cR (cR (cR (cR (cR (bodyOf Tryd.f4))))))))))) :: ks) .normal (G_ringlaw5_CodeSays_C6_hd v_op1 v_w4 v_r1378 v_r1396 v_r1411 v_r1430 v_i3) := by
  unfold G_ringlaw5_CodeSays_C6 at h
  by_cases h1118 : v_op1 > 26
  · rw [if_pos h1118] at h
    obtain ⟨v_o1682, h1125, h⟩ := bind_some h
    refine pkk_sound TTok mix hF 2 (hs := [.t true]) (ts := []) (s := [0, 1]) (l := [3, 6, 9, 10, 13, 14, 15, 16, 17, 18]) (by kernel_rfl) (by kernel_rfl) (.cons (dt h1118) .nil) (G_ringlaw5_CodeSays_C4_ok hF (.s (cR (cT (cR (cL (cR (cR (cR (cR (cR (cR (cR (cR (bodyOf Tryd.f4))))))))))))) :: ks) n v_w4 v_r1378 v_r1396 v_r1411 v_r1430 v_i3 _ h1125 ?_)
    cases v_o1682 with
    | x0 v_z1683 =>
      try dsimp only at h
      by_cases h1126 : v_z1683 = true
      · rw [if_pos h1126] at h
        cases h
        exact pkk_sound TTok mix hF 4 (hs := [.t true]) (ts := []) (s := []) (l := [8]) (by kernel_rfl) (by kernel_rfl) (.cons h1126 .nil) q
      · rw [if_neg h1126] at h
        cases h
        exact pkk_sound TTok mix hF 2 (hs := [.t false]) (ts := []) (s := [0, 1]) (l := [3, 6, 15, 16, 17, 18]) (by kernel_rfl) (by kernel_rfl) (.cons (vf h1126) .nil) q
  · rw [if_neg h1118] at h
    obtain ⟨v_o1695, h1139, h⟩ := bind_some h
    refine pkk_sound TTok mix hF 2 (hs := [.t false]) (ts := []) (s := [0, 1]) (l := [0, 3, 6, 9, 10, 13, 14, 15, 16, 17, 18]) (by kernel_rfl) (by kernel_rfl) (.cons (df h1118) .nil) (G_ringlaw5_CodeSays_C5_ok hF (.s (cR (cF (cR (cL (cR (cR (cR (cR (cR (cR (cR (cR (bodyOf Tryd.f4))))))))))))) :: ks) n v_op1 v_w4 v_r1378 v_r1396 v_r1411 v_r1430 v_i3 _ h1139 ?_)
    cases v_o1695 with
    | x0 v_z1696 =>
      try dsimp only at h
      by_cases h1140 : v_z1696 = true
      · rw [if_pos h1140] at h
        cases h
        exact pkk_sound TTok mix hF 4 (hs := [.t true]) (ts := []) (s := []) (l := [8]) (by kernel_rfl) (by kernel_rfl) (.cons h1140 .nil) q
      · rw [if_neg h1140] at h
        cases h
        exact pkk_sound TTok mix hF 2 (hs := [.t false]) (ts := []) (s := [0, 1]) (l := [3, 6, 15, 16, 17, 18]) (by kernel_rfl) (by kernel_rfl) (.cons (vf h1140) .nil) q
/- ringhall/ringlaw5.CodeSays -/
def G_ringlaw5_CodeSays (n : Nat) (v_op1 : Int) (v_name2 : ByteArray) (v_i3 : S_api_Ins) (v_w4 : Int) : Option (Bool) :=
  (G_code_Name n v_op1).bind fun (v_r1378 : (ByteArray × Int)) =>
  (G_code_Number n v_name2).bind fun (v_r1385 : (Int × Int)) =>
  (G_code_Fields n v_op1).bind fun (v_r1396 : (Int × Int)) =>
  (G_code_Encode n v_i3).bind fun (v_r1411 : (Int × Int)) =>
  (G_code_Decode n v_w4).bind fun (v_r1430 : (S_api_Ins × Int)) =>
  (G_ringref5_Words n ).bind fun (v_r1453 : ((List ByteArray))) =>
  (G_slices_Index_string_string n v_r1453 v_name2).bind fun (v_r1454 : (Int)) =>
  (G_ringlaw5_CodeSays_C1 n v_op1 v_w4 v_r1378 v_r1385 v_r1396 v_r1411 v_r1430 v_r1454 v_i3).bind fun v_o1499 => match v_o1499 with
  | .x0 v_z1500 =>
    if v_z1500 = true then
     some false
    else
     if v_op1 < 1 then
      (G_ringlaw5_CodeSays_C2 n v_w4 v_r1378 v_r1396 v_r1411 v_r1430 v_i3).bind fun v_o1586 => match v_o1586 with
      | .x0 v_z1587 =>
        if v_z1587 = true then
         some false
        else
         G_ringlaw5_CodeSays_J1 n v_w4 v_i3 v_r1430.1 v_r1411.1 v_r1411.2 v_r1430.2
     else
      (G_ringlaw5_CodeSays_C6 n v_op1 v_w4 v_r1378 v_r1396 v_r1411 v_r1430 v_i3).bind fun v_o1698 => match v_o1698 with
      | .x0 v_z1699 =>
        some v_z1699
      | .x1  =>
        G_ringlaw5_CodeSays_J1 n v_w4 v_i3 v_r1430.1 v_r1411.1 v_r1411.2 v_r1430.2
theorem G_ringlaw5_CodeSays_ok (n : Nat) (v_op1 : Int) (v_name2 : ByteArray) (v_i3 : S_api_Ins) (v_w4 : Int) (r : Bool) (h : G_ringlaw5_CodeSays n v_op1 v_name2 v_i3 v_w4 = some r) : Ret Tryd.prog 4 [(eI .i64) v_op1, eS v_name2, eS_api_Ins v_i3, (eI .u32) v_w4] (eB r) := by
  refine ret_run (n := 146) (fn := Tryd.f4) (c := bodyOf Tryd.f4) (by kernel_rfl) (by kernel_rfl) (by kernel_rfl) (by kernel_rfl) ?_
  have hF : KC 146 (FinR Tryd.prog Tryd.f4 (eB r)) := FinR.kc' (by kernel_rfl)
  unfold G_ringlaw5_CodeSays at h
  obtain ⟨v_r1378, h1046, h⟩ := bind_some h
  obtain ⟨v_r1385, h1047, h⟩ := bind_some h
  obtain ⟨v_r1396, h1048, h⟩ := bind_some h
  obtain ⟨v_r1411, h1049, h⟩ := bind_some h
  obtain ⟨v_r1430, h1050, h⟩ := bind_some h
  obtain ⟨v_r1453, h1051, h⟩ := bind_some h
  obtain ⟨v_r1454, h1052, h⟩ := bind_some h
  obtain ⟨v_o1499, h1067, h⟩ := bind_some h
  refine pkk_sound TTok mix hF 16 (hs := [.r (.tup [eS v_r1378.1, (eI .i64) v_r1378.2]), .r (.tup [(eI .i64) v_r1385.1, (eI .i64) v_r1385.2]), .r (.tup [(eI .i64) v_r1396.1, (eI .i64) v_r1396.2]), .c, .r (.tup [(eI .u32) v_r1411.1, (eI .i64) v_r1411.2]), .r (.tup [eS_api_Ins v_r1430.1, (eI .i64) v_r1430.2]), .c, .r ((eL eS) v_r1453), .r ((eI .i64) v_r1454)]) (ts := []) (s := [0, 175]) (l := [0, 3, 6, 9, 10, 11, 12, 13, 14, 15, 16, 17, 18, 19]) (by kernel_rfl) (by kernel_rfl) (.cons (G_code_Name_ok n v_op1 _ h1046) (.cons (G_code_Number_ok n v_name2 _ h1047) (.cons (G_code_Fields_ok n v_op1 _ h1048) (.cons (G_code_Encode_ok n v_i3 _ h1049) (.cons (G_code_Decode_ok n v_w4 _ h1050) (.cons (show 0 + 4 ≤ 4 by decide) (.cons (G_ringref5_Words_ok n  _ h1051) (.cons (G_slices_Index_string_string_ok n v_r1453 v_name2 _ h1052) .nil)))))))) (G_ringlaw5_CodeSays_C1_ok hF (.s (cR (cL (cR (cR (cR (cR (cR (cR (cR (bodyOf Tryd.f4)))))))))) :: .s (cR (cR (cR (cR (cR (cR (cR (cR (bodyOf Tryd.f4))))))))) :: []) n v_op1 v_w4 v_r1378 v_r1385 v_r1396 v_r1411 v_r1430 v_r1454 v_i3 _ h1067 ?_)
  cases v_o1499 with
  | x0 v_z1500 =>
    try dsimp only at h
    by_cases h1068 : v_z1500 = true
    · rw [if_pos h1068] at h
      obtain rfl := Option.some.inj h
      exact pend_sound TTok mix 5 (hs := [.t true]) (by kernel_rfl) (by kernel_rfl) (by kernel_rfl) (.cons h1068 .nil)
    · rw [if_neg h1068] at h
      by_cases h1069 : v_op1 < 1
      · rw [if_pos h1069] at h
        obtain ⟨v_o1586, h1084, h⟩ := bind_some h
        refine pkk_sound TTok mix hF 7 (hs := [.t false, .t true, .c, .c]) (ts := []) (s := [0, 1]) (l := [3, 6, 9, 10, 13, 14, 15, 16, 17, 18]) (by kernel_rfl) (by kernel_rfl) (.cons (vf h1068) (.cons (dt h1069) .nil)) (G_ringlaw5_CodeSays_C2_ok hF (.s (cR (cT (cR (cL (cR (cR (cR (cR (cR (cR (cR (cR (bodyOf Tryd.f4))))))))))))) :: .s (cR (cR (cR (cR (cR (cR (cR (cR (cR (bodyOf Tryd.f4)))))))))) :: []) n v_w4 v_r1378 v_r1396 v_r1411 v_r1430 v_i3 _ h1084 ?_)
        cases v_o1586 with
        | x0 v_z1587 =>
          try dsimp only at h
          by_cases h1085 : v_z1587 = true
          · rw [if_pos h1085] at h
            obtain rfl := Option.some.inj h
            exact pend_sound TTok mix 5 (hs := [.t true]) (by kernel_rfl) (by kernel_rfl) (by kernel_rfl) (.cons h1085 .nil)
          · rw [if_neg h1085] at h
            exact pkk_sound TTok mix hF 2 (hs := [.t false]) (ts := []) (s := [0, 1]) (l := [3, 6, 15, 16, 17, 18]) (by kernel_rfl) (by kernel_rfl) (.cons (vf h1085) .nil) (G_ringlaw5_CodeSays_J1_ok n v_w4 v_i3 v_r1430.1 v_r1411.1 v_r1411.2 v_r1430.2 _ h)
      · rw [if_neg h1069] at h
        obtain ⟨v_o1698, h1141, h⟩ := bind_some h
        refine pkk_sound TTok mix hF 5 (hs := [.t false, .t false, .c]) (ts := []) (s := [0, 1]) (l := [0, 3, 6, 9, 10, 13, 14, 15, 16, 17, 18, 81]) (by kernel_rfl) (by kernel_rfl) (.cons (vf h1068) (.cons (df h1069) .nil)) (G_ringlaw5_CodeSays_C6_ok hF (.s (cR (cR (cR (cR (cR (cR (cR (cR (cR (bodyOf Tryd.f4)))))))))) :: []) n v_op1 v_w4 v_r1378 v_r1396 v_r1411 v_r1430 v_i3 _ h1141 ?_)
        cases v_o1698 with
        | x0 v_z1699 =>
          try dsimp only at h
          obtain rfl := Option.some.inj h
          exact pend_sound TTok mix 1 (hs := []) (by kernel_rfl) (by kernel_rfl) (by kernel_rfl) .nil
        | x1  =>
          try dsimp only at h
          exact pkk_sound TTok mix hF 0 (hs := []) (ts := []) (s := [0, 1]) (l := [3, 6, 15, 16, 17, 18]) (by kernel_rfl) (by kernel_rfl) .nil (G_ringlaw5_CodeSays_J1_ok n v_w4 v_i3 v_r1430.1 v_r1411.1 v_r1411.2 v_r1430.2 _ h)
def okS_api_Ins (x : S_api_Ins) : Prop := (fun a => (Lit.int .i64 a).wf = true) x.fOp ∧ (fun a => (Lit.int .i64 a).wf = true) x.fA ∧ (fun a => (Lit.int .i64 a).wf = true) x.fB ∧ (fun a => (Lit.int .i64 a).wf = true) x.fC ∧ True
theorem brS_api_Ins : Br (.pair (.int .i64) (.pair (.int .i64) (.pair (.int .i64) (.pair (.int .i64) .unit)))) (fun x : S_api_Ins => [.v (.int .i64 x.fOp), .v (.int .i64 x.fA), .v (.int .i64 x.fB), .v (.int .i64 x.fC)]) okS_api_Ins := br_map (br_pair (br_int .i64) (br_pair (br_int .i64) (br_pair (br_int .i64) (br_pair (br_int .i64) br_unit)))) (fun p => S_api_Ins.mk p.1 p.2.1 p.2.2.1 p.2.2.2.1) (fun p h => ⟨rfl, h⟩)
theorem CodeSays_walk (H : ∀ (a0 : Int) (a1 : ByteArray) (a2 : S_api_Ins) (a3 : Int), (fun a => (Lit.int .i64 a).wf = true) a0 → (fun a => ByteArray.size a ≤ 140737488351232) a1 → okS_api_Ins a2 → (fun a => (Lit.int .u32 a).wf = true) a3 → ∃ n, G_ringlaw5_CodeSays n a0 a1 a2 a3 = some true) (w : World) (v0 : Value) (v1 : Value) (v2 : Value) (v3 : Value) (h0 : rep.Arg w (.int .i64) v0) (h1 : rep.Arg w .str v1) (h2 : rep.Arg w (.pair (.int .i64) (.pair (.int .i64) (.pair (.int .i64) (.pair (.int .i64) .unit)))) v2) (h3 : rep.Arg w (.int .u32) v3) : Calls Tryd.prog 4 #[v0, v1, v2, v3] w (help.Ret (.bool true) w) := by
  obtain ⟨a0, o0, r0⟩ := arg_one (br_int .i64) (by rfl) h0
  obtain ⟨a1, o1, r1⟩ := arg_one br_str (by rfl) h1
  obtain ⟨a2, o2, r2⟩ := arg_agg brS_api_Ins (by rfl) h2
  obtain ⟨a3, o3, r3⟩ := arg_one (br_int .u32) (by rfl) h3
  obtain ⟨n, hn⟩ := H a0 a1 a2 a3 o0 o1 o2 o3
  exact walk_of (G_ringlaw5_CodeSays_ok n a0 a1 a2 a3 true hn) (RT_cons r0 (RT_cons r1 (RT_cons r2 (RT_cons r3 RT_nil))))
/- FRAME CodeSays; ringhall/ringlaw5.CodeSays; (.int .i64) | .str | (.pair (.int .i64) (.pair (.int .i64) (.pair (.int .i64) (.pair (.int .i64) .unit)))) | (.int .u32); .int .i64 0 | .string ⟨#[]⟩ | .agg #[.int .i64 0, .int .i64 0, .int .i64 0, .int .i64 0] | .int .u32 0 -/
end Go.Proofs.YtkeikccopkjgiaaDoor.pv
