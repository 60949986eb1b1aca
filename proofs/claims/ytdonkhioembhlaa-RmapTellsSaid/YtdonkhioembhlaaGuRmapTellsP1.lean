/- What the functions compute, as functions over plain data, with their contracts: written by gen.py. -/
import Derived.Test.YtdonkhioembhlaaProg
import Derived.Test.YtdonkhioembhlaaQr
import Derived.Test.YtdonkhioembhlaaSh
set_option maxRecDepth 100000
set_option linter.all false
namespace Go.Proofs.Ytdonkhioembhlaa.pv
open Go.RowKit
def dds (n : Nat) (l : List FV) : List FV := List.replicate n dd ++ l
def fvA_64_bool (x : Fin 64 → Bool) : List FV := [.d (.v (.bool (x 0))), .d (.v (.bool (x 1))), .d (.v (.bool (x 2))), .d (.v (.bool (x 3))), .d (.v (.bool (x 4))), .d (.v (.bool (x 5))), .d (.v (.bool (x 6))), .d (.v (.bool (x 7))), .d (.v (.bool (x 8))), .d (.v (.bool (x 9))), .d (.v (.bool (x 10))), .d (.v (.bool (x 11))), .d (.v (.bool (x 12))), .d (.v (.bool (x 13))), .d (.v (.bool (x 14))), .d (.v (.bool (x 15))), .d (.v (.bool (x 16))), .d (.v (.bool (x 17))), .d (.v (.bool (x 18))), .d (.v (.bool (x 19))), .d (.v (.bool (x 20))), .d (.v (.bool (x 21))), .d (.v (.bool (x 22))), .d (.v (.bool (x 23))), .d (.v (.bool (x 24))), .d (.v (.bool (x 25))), .d (.v (.bool (x 26))), .d (.v (.bool (x 27))), .d (.v (.bool (x 28))), .d (.v (.bool (x 29))), .d (.v (.bool (x 30))), .d (.v (.bool (x 31))), .d (.v (.bool (x 32))), .d (.v (.bool (x 33))), .d (.v (.bool (x 34))), .d (.v (.bool (x 35))), .d (.v (.bool (x 36))), .d (.v (.bool (x 37))), .d (.v (.bool (x 38))), .d (.v (.bool (x 39))), .d (.v (.bool (x 40))), .d (.v (.bool (x 41))), .d (.v (.bool (x 42))), .d (.v (.bool (x 43))), .d (.v (.bool (x 44))), .d (.v (.bool (x 45))), .d (.v (.bool (x 46))), .d (.v (.bool (x 47))), .d (.v (.bool (x 48))), .d (.v (.bool (x 49))), .d (.v (.bool (x 50))), .d (.v (.bool (x 51))), .d (.v (.bool (x 52))), .d (.v (.bool (x 53))), .d (.v (.bool (x 54))), .d (.v (.bool (x 55))), .d (.v (.bool (x 56))), .d (.v (.bool (x 57))), .d (.v (.bool (x 58))), .d (.v (.bool (x 59))), .d (.v (.bool (x 60))), .d (.v (.bool (x 61))), .d (.v (.bool (x 62))), .d (.v (.bool (x 63)))]
def fvA_64_int_i64 (x : Fin 64 → Int) : List FV := [.d (.v (.int .i64 (x 0))), .d (.v (.int .i64 (x 1))), .d (.v (.int .i64 (x 2))), .d (.v (.int .i64 (x 3))), .d (.v (.int .i64 (x 4))), .d (.v (.int .i64 (x 5))), .d (.v (.int .i64 (x 6))), .d (.v (.int .i64 (x 7))), .d (.v (.int .i64 (x 8))), .d (.v (.int .i64 (x 9))), .d (.v (.int .i64 (x 10))), .d (.v (.int .i64 (x 11))), .d (.v (.int .i64 (x 12))), .d (.v (.int .i64 (x 13))), .d (.v (.int .i64 (x 14))), .d (.v (.int .i64 (x 15))), .d (.v (.int .i64 (x 16))), .d (.v (.int .i64 (x 17))), .d (.v (.int .i64 (x 18))), .d (.v (.int .i64 (x 19))), .d (.v (.int .i64 (x 20))), .d (.v (.int .i64 (x 21))), .d (.v (.int .i64 (x 22))), .d (.v (.int .i64 (x 23))), .d (.v (.int .i64 (x 24))), .d (.v (.int .i64 (x 25))), .d (.v (.int .i64 (x 26))), .d (.v (.int .i64 (x 27))), .d (.v (.int .i64 (x 28))), .d (.v (.int .i64 (x 29))), .d (.v (.int .i64 (x 30))), .d (.v (.int .i64 (x 31))), .d (.v (.int .i64 (x 32))), .d (.v (.int .i64 (x 33))), .d (.v (.int .i64 (x 34))), .d (.v (.int .i64 (x 35))), .d (.v (.int .i64 (x 36))), .d (.v (.int .i64 (x 37))), .d (.v (.int .i64 (x 38))), .d (.v (.int .i64 (x 39))), .d (.v (.int .i64 (x 40))), .d (.v (.int .i64 (x 41))), .d (.v (.int .i64 (x 42))), .d (.v (.int .i64 (x 43))), .d (.v (.int .i64 (x 44))), .d (.v (.int .i64 (x 45))), .d (.v (.int .i64 (x 46))), .d (.v (.int .i64 (x 47))), .d (.v (.int .i64 (x 48))), .d (.v (.int .i64 (x 49))), .d (.v (.int .i64 (x 50))), .d (.v (.int .i64 (x 51))), .d (.v (.int .i64 (x 52))), .d (.v (.int .i64 (x 53))), .d (.v (.int .i64 (x 54))), .d (.v (.int .i64 (x 55))), .d (.v (.int .i64 (x 56))), .d (.v (.int .i64 (x 57))), .d (.v (.int .i64 (x 58))), .d (.v (.int .i64 (x 59))), .d (.v (.int .i64 (x 60))), .d (.v (.int .i64 (x 61))), .d (.v (.int .i64 (x 62))), .d (.v (.int .i64 (x 63)))]
def TT : List TI := [
⟨1, 0, .oth, []⟩,
⟨1, 8, .oth, [.nf]⟩,
⟨1, 8, .int .i64, [.i .i64]⟩,
⟨1, 8, .int .i64, [.i .i64]⟩,
⟨1, 1, .bool, [.b]⟩,
⟨1, 1, .int .u8, [.i .u8]⟩,
⟨1, 1, .int .u8, [.i .u8]⟩,
⟨4, 24, .st [(0, 2), (1, 3), (2, 4), (3, 6)], [.i .i64, .i .i64, .b, .i .u8]⟩,
⟨4, 24, .st [(0, 2), (1, 3), (2, 4), (3, 6)], [.i .i64, .i .i64, .b, .i .u8]⟩,
⟨1, 16, .str, [.s]⟩,
⟨1, 16, .str, [.s]⟩,
⟨1, 16, .str, [.s]⟩,
⟨1, 8, .int .u64, [.i .u64]⟩,
⟨2, 24, .st [(0, 9), (1, 12)], [.s, .i .u64]⟩,
⟨2, 24, .st [(0, 9), (1, 12)], [.s, .i .u64]⟩,
⟨1, 8, .ptr 91, [.np]⟩,
⟨1, 8, .ptr 94, [.np]⟩,
⟨1, 8, .ptr 103, [.np]⟩,
⟨1, 8, .st [(0, 17)], [.np]⟩,
⟨1, 8, .st [(0, 17)], [.np]⟩,
⟨1, 16, .oth, [.ni]⟩,
⟨1, 4, .int .i32, [.i .i32]⟩,
⟨1, 24, .sl 24, [.sl]⟩,
⟨3, 24, .st [(0, 3), (1, 3), (2, 3)], [.i .i64, .i .i64, .i .i64]⟩,
⟨3, 24, .st [(0, 3), (1, 3), (2, 3)], [.i .i64, .i .i64, .i .i64]⟩,
⟨1, 8, .int .i64, [.i .i64]⟩,
⟨1, 0, .oth, []⟩,
⟨1, 8, .oth, [.nf]⟩,
⟨1, 0, .oth, []⟩,
⟨1, 8, .oth, [.nf]⟩,
⟨1, 8, .oth, [.nf]⟩,
⟨1, 0, .oth, []⟩,
⟨1, 8, .oth, [.nf]⟩,
⟨1, 8, .oth, [.nf]⟩,
⟨64, 512, .arr 64 3, List.replicate 64 (.i .i64)⟩,
⟨1088, 8704, .arr 17 34, List.replicate 1088 (.i .i64)⟩,
⟨1088, 8704, .arr 17 34, List.replicate 1088 (.i .i64)⟩,
⟨1, 8, .oth, [.nf]⟩,
⟨1, 8, .oth, [.nf]⟩,
⟨1, 8, .oth, [.nf]⟩,
⟨1, 8, .oth, [.nf]⟩,
⟨1, 8, .oth, [.nf]⟩,
⟨1, 8, .oth, [.nf]⟩,
⟨1, 8, .oth, [.nf]⟩,
⟨1, 8, .oth, [.nf]⟩,
⟨1, 8, .oth, [.nf]⟩,
⟨1, 0, .oth, []⟩,
⟨1, 8, .oth, [.nf]⟩,
⟨1, 8, .oth, [.nf]⟩,
⟨1, 8, .oth, [.nf]⟩,
⟨1, 8, .oth, [.nf]⟩,
⟨1, 8, .oth, [.nf]⟩,
⟨1, 8, .oth, [.nf]⟩,
⟨1, 8, .oth, [.nf]⟩,
⟨64, 64, .arr 64 4, List.replicate 64 (.b)⟩,
⟨1088, 1088, .arr 17 54, List.replicate 1088 (.b)⟩,
⟨1, 8, .oth, [.nf]⟩,
⟨1, 8, .oth, [.nm]⟩,
⟨2, 16, .arr 2 3, [.i .i64, .i .i64]⟩,
⟨1, 8, .oth, [.nf]⟩,
⟨1, 8, .int .u64, [.i .u64]⟩,
⟨1, 8, .oth, [.nf]⟩,
⟨1, 8, .oth, [.nf]⟩,
⟨1, 8, .oth, [.nf]⟩,
⟨1, 8, .oth, [.nf]⟩,
⟨1, 8, .oth, [.nf]⟩,
⟨1, 24, .sl 3, [.sl]⟩,
⟨1, 8, .oth, [.nf]⟩,
⟨1, 8, .oth, [.nf]⟩,
⟨1, 8, .int .i64, [.i .i64]⟩,
⟨1, 0, .oth, []⟩,
⟨1, 8, .oth, [.nf]⟩,
⟨1, 8, .oth, [.nf]⟩,
⟨1, 8, .oth, [.nf]⟩,
⟨1, 8, .oth, [.nf]⟩,
⟨1, 8, .oth, [.nf]⟩,
⟨1, 4, .int .u32, [.i .u32]⟩,
⟨1, 8, .oth, [.nf]⟩,
⟨1, 8, .int .u64, [.i .u64]⟩,
⟨1, 8, .oth, [.nf]⟩,
⟨1, 8, .int .u64, [.i .u64]⟩,
⟨1, 8, .oth, [.nf]⟩,
⟨1, 8, .oth, [.nf]⟩,
⟨1, 8, .oth, [.nf]⟩,
⟨1, 8, .ptr 3, [.np]⟩,
⟨1, 8, .oth, [.nf]⟩,
⟨1, 8, .ptr 80, [.np]⟩,
⟨1, 0, .oth, []⟩,
⟨1, 8, .oth, [.nf]⟩,
⟨1, 8, .oth, [.nf]⟩,
⟨4, 40, .st [(0, 17), (1, 17), (2, 17), (3, 9)], [.np, .np, .np, .s]⟩,
⟨4, 40, .st [(0, 17), (1, 17), (2, 17), (3, 9)], [.np, .np, .np, .s]⟩,
⟨0, 0, .arr 0 16, []⟩,
⟨0, 0, .st [(0, 92)], []⟩,
⟨0, 0, .st [(0, 92)], []⟩,
⟨1, 8, .oth, [.nf]⟩,
⟨1, 1, .int .u8, [.i .u8]⟩,
⟨1, 1, .int .u8, [.i .u8]⟩,
⟨1, 8, .oth, [.nf]⟩,
⟨1, 8, .ptr 5, [.np]⟩,
⟨1, 4, .int .i32, [.i .i32]⟩,
⟨1, 4, .int .i32, [.i .i32]⟩,
⟨11, 48, .st [(0, 12), (1, 12), (2, 76), (3, 96), (4, 5), (5, 5), (6, 97), (7, 98), (8, 99), (9, 100), (10, 101)], [.i .u64, .i .u64, .i .u32, .i .u8, .i .u8, .i .u8, .i .u8, .nf, .np, .i .i32, .i .i32]⟩,
⟨11, 48, .st [(0, 12), (1, 12), (2, 76), (3, 96), (4, 5), (5, 5), (6, 97), (7, 98), (8, 99), (9, 100), (10, 101)], [.i .u64, .i .u64, .i .u32, .i .u8, .i .u8, .i .u8, .i .u8, .nf, .np, .i .i32, .i .i32]⟩,
⟨1, 8, .oth, [.np]⟩]
theorem TTok : TOk Try.prog TT := by unfold TOk; kernel_rfl
theorem mix : Try.prog.follows .mixedOrders = true := by kernel_rfl
structure S_rmap_Pair where
  fFrame : Int
  fSpace : Int
  fPage : Int
def eS_rmap_Pair (x : S_rmap_Pair) : PV := .agg [.v (.int .i64 x.fFrame), .v (.int .i64 x.fSpace), .v (.int .i64 x.fPage)]
def cA_t55 (x : (Fin 17 → (Fin 64 → Bool))) : List PV := (List.ofFn x).flatMap fun a => [.v (.bool (a 0)), .v (.bool (a 1)), .v (.bool (a 2)), .v (.bool (a 3)), .v (.bool (a 4)), .v (.bool (a 5)), .v (.bool (a 6)), .v (.bool (a 7)), .v (.bool (a 8)), .v (.bool (a 9)), .v (.bool (a 10)), .v (.bool (a 11)), .v (.bool (a 12)), .v (.bool (a 13)), .v (.bool (a 14)), .v (.bool (a 15)), .v (.bool (a 16)), .v (.bool (a 17)), .v (.bool (a 18)), .v (.bool (a 19)), .v (.bool (a 20)), .v (.bool (a 21)), .v (.bool (a 22)), .v (.bool (a 23)), .v (.bool (a 24)), .v (.bool (a 25)), .v (.bool (a 26)), .v (.bool (a 27)), .v (.bool (a 28)), .v (.bool (a 29)), .v (.bool (a 30)), .v (.bool (a 31)), .v (.bool (a 32)), .v (.bool (a 33)), .v (.bool (a 34)), .v (.bool (a 35)), .v (.bool (a 36)), .v (.bool (a 37)), .v (.bool (a 38)), .v (.bool (a 39)), .v (.bool (a 40)), .v (.bool (a 41)), .v (.bool (a 42)), .v (.bool (a 43)), .v (.bool (a 44)), .v (.bool (a 45)), .v (.bool (a 46)), .v (.bool (a 47)), .v (.bool (a 48)), .v (.bool (a 49)), .v (.bool (a 50)), .v (.bool (a 51)), .v (.bool (a 52)), .v (.bool (a 53)), .v (.bool (a 54)), .v (.bool (a 55)), .v (.bool (a 56)), .v (.bool (a 57)), .v (.bool (a 58)), .v (.bool (a 59)), .v (.bool (a 60)), .v (.bool (a 61)), .v (.bool (a 62)), .v (.bool (a 63))]
def cA_t36 (x : (Fin 17 → (Fin 64 → Int))) : List PV := (List.ofFn x).flatMap fun a => [.v (.int .i64 (a 0)), .v (.int .i64 (a 1)), .v (.int .i64 (a 2)), .v (.int .i64 (a 3)), .v (.int .i64 (a 4)), .v (.int .i64 (a 5)), .v (.int .i64 (a 6)), .v (.int .i64 (a 7)), .v (.int .i64 (a 8)), .v (.int .i64 (a 9)), .v (.int .i64 (a 10)), .v (.int .i64 (a 11)), .v (.int .i64 (a 12)), .v (.int .i64 (a 13)), .v (.int .i64 (a 14)), .v (.int .i64 (a 15)), .v (.int .i64 (a 16)), .v (.int .i64 (a 17)), .v (.int .i64 (a 18)), .v (.int .i64 (a 19)), .v (.int .i64 (a 20)), .v (.int .i64 (a 21)), .v (.int .i64 (a 22)), .v (.int .i64 (a 23)), .v (.int .i64 (a 24)), .v (.int .i64 (a 25)), .v (.int .i64 (a 26)), .v (.int .i64 (a 27)), .v (.int .i64 (a 28)), .v (.int .i64 (a 29)), .v (.int .i64 (a 30)), .v (.int .i64 (a 31)), .v (.int .i64 (a 32)), .v (.int .i64 (a 33)), .v (.int .i64 (a 34)), .v (.int .i64 (a 35)), .v (.int .i64 (a 36)), .v (.int .i64 (a 37)), .v (.int .i64 (a 38)), .v (.int .i64 (a 39)), .v (.int .i64 (a 40)), .v (.int .i64 (a 41)), .v (.int .i64 (a 42)), .v (.int .i64 (a 43)), .v (.int .i64 (a 44)), .v (.int .i64 (a 45)), .v (.int .i64 (a 46)), .v (.int .i64 (a 47)), .v (.int .i64 (a 48)), .v (.int .i64 (a 49)), .v (.int .i64 (a 50)), .v (.int .i64 (a 51)), .v (.int .i64 (a 52)), .v (.int .i64 (a 53)), .v (.int .i64 (a 54)), .v (.int .i64 (a 55)), .v (.int .i64 (a 56)), .v (.int .i64 (a 57)), .v (.int .i64 (a 58)), .v (.int .i64 (a 59)), .v (.int .i64 (a 60)), .v (.int .i64 (a 61)), .v (.int .i64 (a 62)), .v (.int .i64 (a 63))]
def cA_t34 (x : (Fin 64 → Int)) : List PV := (List.ofFn x).flatMap fun a => [.v (.int .i64 a)]
def eqS_rmap_Pair (x y : S_rmap_Pair) : Bool := ((x.fFrame == y.fFrame) && ((x.fSpace == y.fSpace) && ((x.fPage == y.fPage) && true)))
theorem eqS_rmap_Pair_ok (x y : S_rmap_Pair) : EqA Try.prog 24 [((.int .i64 x.fFrame)), ((.int .i64 x.fSpace)), ((.int .i64 x.fPage))] [((.int .i64 y.fFrame)), ((.int .i64 y.fSpace)), ((.int .i64 y.fPage))] (eqS_rmap_Pair x y) := eqA_of TTok (by kernel_rfl) (by kernel_rfl) (by kernel_rfl)
def kc_t58 (x : (Fin 2 → Int)) : List Value := [(.int .i64 (x 0)), (.int .i64 (x 1))]
theorem kq_t58 (x y : (Fin 2 → Int)) : ((x 0 == y 0) && ((x 1 == y 1) && true)) = decide (x = y) := by
  rw [Bool.eq_iff_iff]
  simp only [decide_eq_true_eq, Bool.and_eq_true, beq_iff_eq, and_true]
  constructor
  · intro h; funext i; obtain ⟨i, hi⟩ := i
    have : i = 0 ∨ i = 1 := by omega
    rcases this with rfl | rfl
    · exact h.1
    · exact h.2
  · rintro rfl; simp
theorem kw_t58 : KW Try.prog 58 (fun x : (Fin 2 → Int) => Value.agg (kc_t58 x).toArray) := KW.agg TTok (n := 2) (e := 3) (de := .int .i64) (by kernel_rfl) (by kernel_rfl) (by kernel_rfl) (by kernel_rfl) (by kernel_rfl) (fun _ => rfl) (fun x v hv => by
  simp only [kc_t58, List.mem_cons, List.not_mem_nil, or_false] at hv
  rcases hv with rfl | rfl <;> first | rfl | trivial) (fun x y => by rw [← kq_t58]; kernel_rfl) (fun _ => by kernel_rfl)
inductive G_rmap_right_C1_R where
  | x0 (v_x30 : Bool)
def G_rmap_right_C1_ex : G_rmap_right_C1_R → Ex
  | .x0 _ => .normal
def G_rmap_right_C1_st (v_p27 : S_rmap_Pair) : G_rmap_right_C1_R → PS
  | .x0 v_x30 => ⟨(dd :: dd :: .d (.v (.bool v_x30)) :: (dds 28 [])), []⟩
def G_rmap_right_C1_hd (v_p27 : S_rmap_Pair)  : PS := ⟨(dd :: .ref 0 0 :: (dds 29 [])), [.box [.d (.v (.int .i64 v_p27.fFrame)), .d (.v (.int .i64 v_p27.fSpace)), .d (.v (.int .i64 v_p27.fPage))]]⟩
def G_rmap_right_C1 (n : Nat) (v_p27 : S_rmap_Pair) : Option G_rmap_right_C1_R :=
  if v_p27.fFrame ≥ 0 then
   if v_p27.fFrame < 64 then
    if v_p27.fSpace ≥ 1 then
     if v_p27.fSpace ≤ 16 then
      if v_p27.fPage ≥ 0 then
       some (.x0 (decide (v_p27.fPage < 64)))
      else
       some (.x0 false)
     else
      some (.x0 false)
    else
     some (.x0 false)
   else
    some (.x0 false)
  else
   some (.x0 false)
theorem G_rmap_right_C1_ok {Fi : Ex → PS → Prop} (hF : KC 31 Fi) (ks : List Fr) (n : Nat) (v_p27 : S_rmap_Pair)  (o : G_rmap_right_C1_R) (h : G_rmap_right_C1 n v_p27 = some o) (q : RunE Try.prog 31 Fi ks (G_rmap_right_C1_ex o) (G_rmap_right_C1_st v_p27 o)) : RunE Try.prog 31 Fi (.s (cL (cR (bodyOf Try.f28))) :: ks) .normal (G_rmap_right_C1_hd v_p27) := by
  unfold G_rmap_right_C1 at h
  by_cases h9 : v_p27.fFrame ≥ 0
  · rw [if_pos h9] at h
    by_cases h10 : v_p27.fFrame < 64
    · rw [if_pos h10] at h
      by_cases h11 : v_p27.fSpace ≥ 1
      · rw [if_pos h11] at h
        by_cases h12 : v_p27.fSpace ≤ 16
        · rw [if_pos h12] at h
          by_cases h13 : v_p27.fPage ≥ 0
          · rw [if_pos h13] at h
            cases h
            exact pkk_sound TTok mix hF 1 (hs := [.c, .t true, .c, .c, .c, .t true, .c, .c, .c, .t true, .c, .c, .c, .t true, .c, .c, .c, .t true, .c, .c, .c]) (ts := []) (s := []) (l := [2]) (by kernel_rfl) (by kernel_rfl) (.cons (dt h9) (.cons (dt h10) (.cons (dt h11) (.cons (dt h12) (.cons (dt h13) .nil))))) q
          · rw [if_neg h13] at h
            cases h
            exact pkk_sound TTok mix hF 1 (hs := [.c, .t true, .c, .c, .c, .t true, .c, .c, .c, .t true, .c, .c, .c, .t true, .c, .c, .c, .t false, .c, .c]) (ts := []) (s := []) (l := [2]) (by kernel_rfl) (by kernel_rfl) (.cons (dt h9) (.cons (dt h10) (.cons (dt h11) (.cons (dt h12) (.cons (df h13) .nil))))) q
        · rw [if_neg h12] at h
          cases h
          exact pkk_sound TTok mix hF 1 (hs := [.c, .t true, .c, .c, .c, .t true, .c, .c, .c, .t true, .c, .c, .c, .t false, .c, .c, .c, .c, .c]) (ts := []) (s := []) (l := [2]) (by kernel_rfl) (by kernel_rfl) (.cons (dt h9) (.cons (dt h10) (.cons (dt h11) (.cons (df h12) .nil)))) q
      · rw [if_neg h11] at h
        cases h
        exact pkk_sound TTok mix hF 1 (hs := [.c, .t true, .c, .c, .c, .t true, .c, .c, .c, .t false, .c, .c, .c, .c, .c, .c, .c, .c]) (ts := []) (s := []) (l := [2]) (by kernel_rfl) (by kernel_rfl) (.cons (dt h9) (.cons (dt h10) (.cons (df h11) .nil))) q
    · rw [if_neg h10] at h
      cases h
      exact pkk_sound TTok mix hF 1 (hs := [.c, .t true, .c, .c, .c, .t false, .c, .c, .c, .c, .c, .c, .c, .c, .c, .c, .c]) (ts := []) (s := []) (l := [2]) (by kernel_rfl) (by kernel_rfl) (.cons (dt h9) (.cons (df h10) .nil)) q
  · rw [if_neg h9] at h
    cases h
    exact pkk_sound TTok mix hF 1 (hs := [.c, .t false, .c, .c, .c, .c, .c, .c, .c, .c, .c, .c, .c, .c, .c, .c]) (ts := []) (s := []) (l := [2]) (by kernel_rfl) (by kernel_rfl) (.cons (df h9) .nil) q
/- ringhall/rmap.right -/
def G_rmap_right (n : Nat) (v_p27 : S_rmap_Pair) : Option (Bool) :=
  (G_rmap_right_C1 n v_p27).bind fun v_o36 => match v_o36 with
  | .x0 v_z37 =>
    some v_z37
theorem G_rmap_right_ok (n : Nat) (v_p27 : S_rmap_Pair) (r : Bool) (h : G_rmap_right n v_p27 = some r) : Ret Try.prog 28 [eS_rmap_Pair v_p27] (eB r) := by
  refine ret_run (n := 31) (fn := Try.f28) (c := bodyOf Try.f28) (by kernel_rfl) (by kernel_rfl) (by kernel_rfl) (by kernel_rfl) ?_
  have hF : KC 31 (FinR Try.prog Try.f28 (eB r)) := FinR.kc' (by kernel_rfl)
  unfold G_rmap_right at h
  obtain ⟨v_o36, h14, h⟩ := bind_some h
  refine pkk_sound TTok mix hF 3 (hs := []) (ts := []) (s := [0]) (l := [1]) (by kernel_rfl) (by kernel_rfl) .nil (G_rmap_right_C1_ok hF (.s (cR (cR (bodyOf Try.f28))) :: []) n v_p27 _ h14 ?_)
  cases v_o36 with
  | x0 v_z37 =>
    try dsimp only at h
    obtain rfl := Option.some.inj h
    exact pend_sound TTok mix 1 (hs := []) (by kernel_rfl) (by kernel_rfl) (by kernel_rfl) .nil
/- cmp.isNaN[int] -/
def G_cmp_isNaN_int (n : Nat) (v_x48 : Int) : Option (Bool) :=
  some (v_x48 != v_x48)
theorem G_cmp_isNaN_int_ok (n : Nat) (v_x48 : Int) (r : Bool) (h : G_cmp_isNaN_int n v_x48 = some r) : Ret Try.prog 37 [(eI .i64) v_x48] (eB r) := by
  refine ret_run (n := 6) (fn := Try.f37) (c := bodyOf Try.f37) (by kernel_rfl) (by kernel_rfl) (by kernel_rfl) (by kernel_rfl) ?_
  have hF : KC 6 (FinR Try.prog Try.f37 (eB r)) := FinR.kc' (by kernel_rfl)
  unfold G_cmp_isNaN_int at h
  obtain rfl := Option.some.inj h
  exact pend_sound TTok mix 5 (hs := []) (by kernel_rfl) (by kernel_rfl) (by kernel_rfl) .nil
/- cmp.Compare[int] -/
def G_cmp_Compare_int (n : Nat) (v_x46 : Int) (v_y47 : Int) : Option (Int) :=
  (G_cmp_isNaN_int n v_x46).bind fun (v_r49 : (Bool)) =>
  (G_cmp_isNaN_int n v_y47).bind fun (v_r52 : (Bool)) =>
  if v_r49 = true then
   if v_r52 = true then
    some 0
   else
    some (-1)
  else
   if v_r52 = true then
    some 1
   else
    if v_x46 < v_y47 then
     some (-1)
    else
     if v_x46 > v_y47 then
      some 1
     else
      some 0
theorem G_cmp_Compare_int_ok (n : Nat) (v_x46 : Int) (v_y47 : Int) (r : Int) (h : G_cmp_Compare_int n v_x46 v_y47 = some r) : Ret Try.prog 32 [(eI .i64) v_x46, (eI .i64) v_y47] ((eI .i64) r) := by
  refine ret_run (n := 20) (fn := Try.f32) (c := bodyOf Try.f32) (by kernel_rfl) (by kernel_rfl) (by kernel_rfl) (by kernel_rfl) ?_
  have hF : KC 20 (FinR Try.prog Try.f32 ((eI .i64) r)) := FinR.kc' (by kernel_rfl)
  unfold G_cmp_Compare_int at h
  obtain ⟨v_r49, h19, h⟩ := bind_some h
  obtain ⟨v_r52, h20, h⟩ := bind_some h
  by_cases h23 : v_r49 = true
  · rw [if_pos h23] at h
    by_cases h24 : v_r52 = true
    · rw [if_pos h24] at h
      obtain rfl := Option.some.inj h
      exact pend_sound TTok mix 19 (hs := [.r (eB v_r49), .r (eB v_r52), .t true, .t true]) (by kernel_rfl) (by kernel_rfl) (by kernel_rfl) (.cons (G_cmp_isNaN_int_ok n v_x46 _ h19) (.cons (G_cmp_isNaN_int_ok n v_y47 _ h20) (.cons h23 (.cons h24 .nil))))
    · rw [if_neg h24] at h
      obtain rfl := Option.some.inj h
      exact pend_sound TTok mix 19 (hs := [.r (eB v_r49), .r (eB v_r52), .t true, .t false]) (by kernel_rfl) (by kernel_rfl) (by kernel_rfl) (.cons (G_cmp_isNaN_int_ok n v_x46 _ h19) (.cons (G_cmp_isNaN_int_ok n v_y47 _ h20) (.cons h23 (.cons (vf h24) .nil))))
  · rw [if_neg h23] at h
    by_cases h25 : v_r52 = true
    · rw [if_pos h25] at h
      obtain rfl := Option.some.inj h
      exact pend_sound TTok mix 19 (hs := [.r (eB v_r49), .r (eB v_r52), .t false, .t true]) (by kernel_rfl) (by kernel_rfl) (by kernel_rfl) (.cons (G_cmp_isNaN_int_ok n v_x46 _ h19) (.cons (G_cmp_isNaN_int_ok n v_y47 _ h20) (.cons (vf h23) (.cons h25 .nil))))
    · rw [if_neg h25] at h
      by_cases h26 : v_x46 < v_y47
      · rw [if_pos h26] at h
        obtain rfl := Option.some.inj h
        exact pend_sound TTok mix 24 (hs := [.r (eB v_r49), .r (eB v_r52), .t false, .t false, .t true]) (by kernel_rfl) (by kernel_rfl) (by kernel_rfl) (.cons (G_cmp_isNaN_int_ok n v_x46 _ h19) (.cons (G_cmp_isNaN_int_ok n v_y47 _ h20) (.cons (vf h23) (.cons (vf h25) (.cons (dt h26) .nil)))))
      · rw [if_neg h26] at h
        by_cases h27 : v_x46 > v_y47
        · rw [if_pos h27] at h
          obtain rfl := Option.some.inj h
          exact pend_sound TTok mix 29 (hs := [.r (eB v_r49), .r (eB v_r52), .t false, .t false, .t false, .t true]) (by kernel_rfl) (by kernel_rfl) (by kernel_rfl) (.cons (G_cmp_isNaN_int_ok n v_x46 _ h19) (.cons (G_cmp_isNaN_int_ok n v_y47 _ h20) (.cons (vf h23) (.cons (vf h25) (.cons (df h26) (.cons (dt h27) .nil))))))
        · rw [if_neg h27] at h
          obtain rfl := Option.some.inj h
          exact pend_sound TTok mix 29 (hs := [.r (eB v_r49), .r (eB v_r52), .t false, .t false, .t false, .t false]) (by kernel_rfl) (by kernel_rfl) (by kernel_rfl) (.cons (G_cmp_isNaN_int_ok n v_x46 _ h19) (.cons (G_cmp_isNaN_int_ok n v_y47 _ h20) (.cons (vf h23) (.cons (vf h25) (.cons (df h26) (.cons (df h27) .nil))))))
inductive G_cmp_Or_int_L1_R where
  | x0 (v_x86 : Int)
  | x1 
def G_cmp_Or_int_L1_ex : G_cmp_Or_int_L1_R → Ex
  | .x0 _ => .ret
  | .x1  => .exit 0
def G_cmp_Or_int_L1_st (v_vals75 : (List Int)) : G_cmp_Or_int_L1_R → PS
  | .x0 v_x86 => ⟨(dd :: dd :: .d (.v (.int .i64 v_x86)) :: (dds 15 [])), []⟩
  | .x1  => ⟨(dd :: dd :: dd :: .d (.v (.int .i64 0)) :: (dds 14 [])), []⟩
def G_cmp_Or_int_L1_hd (v_vals75 : (List Int)) (v_x83 : Int) : PS := ⟨(dd :: dd :: dd :: .d (.v (.int .i64 0)) :: dd :: dd :: .d (.sl (v_vals75.map (eI .i64))) :: .d (.v (.int .i64 (v_vals75.length : Int))) :: .d (.v (.int .i64 v_x83)) :: (dds 9 [])), []⟩
def G_cmp_Or_int_L1 (n : Nat) (v_vals75 : (List Int)) : Nat → Int → Option G_cmp_Or_int_L1_R
  | 0, _ => none
  | k + 1, v_x83 =>
    if v_x83 < (v_vals75.length : Int) then
     (getI v_vals75 v_x83).bind fun (v_y85 : Int) =>
     if v_y85 = 0 then
      G_cmp_Or_int_L1 n v_vals75 k (wi .i64 (v_x83 + 1))
     else
      some (.x0 v_y85)
    else
     some (.x1 )
theorem G_cmp_Or_int_L1_ok {Fi : Ex → PS → Prop} (hF : KC 18 Fi) (ks : List Fr) (n : Nat) (v_vals75 : (List Int))  : ∀ (k : Nat) (v_x83 : Int) (o : G_cmp_Or_int_L1_R), G_cmp_Or_int_L1 n v_vals75 k v_x83 = some o → RunE Try.prog 18 Fi ks (G_cmp_Or_int_L1_ex o) (G_cmp_Or_int_L1_st v_vals75 o) → RunE Try.prog 18 Fi (.l k (cP (cB (cR (cL (cR (cR (bodyOf Try.f31))))))) :: ks) .normal (G_cmp_Or_int_L1_hd v_vals75 v_x83)
  | 0, v_x83, o, h, q => by rw [G_cmp_Or_int_L1] at h; cases h
  | k + 1, v_x83, o, h, q => by
    rw [G_cmp_Or_int_L1] at h
    by_cases h31 : v_x83 < (v_vals75.length : Int)
    · rw [if_pos h31] at h
      obtain ⟨v_y85, h34, h⟩ := bind_some h
      by_cases h35 : v_y85 = 0
      · rw [if_pos h35] at h
        exact pkk_sound TTok mix hF 16 (hs := [.t true, .y ((eI .i64) v_y85), .c, .t false]) (ts := []) (s := []) (l := [3, 6, 7, 8]) (by kernel_rfl) (by kernel_rfl) (.cons (dt h31) (.cons (getI_ob (f := (eI .i64)) h34) (.cons (nf h35) .nil))) (G_cmp_Or_int_L1_ok hF ks n v_vals75 k (wi .i64 (v_x83 + 1)) _ h q)
      · rw [if_neg h35] at h
        cases h
        exact pkk_sound TTok mix hF 19 (hs := [.t true, .y ((eI .i64) v_y85), .c, .t true]) (ts := []) (s := []) (l := [2]) (by kernel_rfl) (by kernel_rfl) (.cons (dt h31) (.cons (getI_ob (f := (eI .i64)) h34) (.cons (nt h35) .nil))) q
    · rw [if_neg h31] at h
      cases h
      exact pkk_sound TTok mix hF 8 (hs := [.t false]) (ts := []) (s := []) (l := [3]) (by kernel_rfl) (by kernel_rfl) (.cons (df h31) .nil) q
/- cmp.Or[int] -/
def G_cmp_Or_int (n : Nat) (v_vals75 : (List Int)) : Option (Int) :=
  (G_cmp_Or_int_L1 n v_vals75 n 0).bind fun v_o87 => match v_o87 with
  | .x0 v_z88 =>
    some v_z88
  | .x1  =>
    some 0
theorem G_cmp_Or_int_ok (n : Nat) (v_vals75 : (List Int)) (r : Int) (h : G_cmp_Or_int n v_vals75 = some r) : Ret Try.prog 31 [(eL (eI .i64)) v_vals75] ((eI .i64) r) := by
  refine ret_run (n := 18) (fn := Try.f31) (c := bodyOf Try.f31) (by kernel_rfl) (by kernel_rfl) (by kernel_rfl) (by kernel_rfl) ?_
  have hF : KC 18 (FinR Try.prog Try.f31 ((eI .i64) r)) := FinR.kc' (by kernel_rfl)
  unfold G_cmp_Or_int at h
  obtain ⟨v_o87, h36, h⟩ := bind_some h
  refine pkk_sound TTok mix hF 9 (hs := [.u (.d (.v (.int .i64 (v_vals75.length : Int)))), .n n]) (ts := []) (s := []) (l := [3, 6, 7, 8]) (by kernel_rfl) (by kernel_rfl) (.cons (len_ob (f := (eI .i64)) (l := v_vals75)) .nil) (G_cmp_Or_int_L1_ok hF (.b 0 :: .s (cR (cR (cR (bodyOf Try.f31)))) :: []) n v_vals75 n 0 _ h36 ?_)
  cases v_o87 with
  | x0 v_z88 =>
    try dsimp only at h
    obtain rfl := Option.some.inj h
    exact pend_sound TTok mix 2 (hs := []) (by kernel_rfl) (by kernel_rfl) (by kernel_rfl) .nil
  | x1  =>
    try dsimp only at h
    obtain rfl := Option.some.inj h
    exact pend_sound TTok mix 4 (hs := []) (by kernel_rfl) (by kernel_rfl) (by kernel_rfl) .nil
/- ringhall/rmap.order -/
def G_rmap_order (n : Nat) (v_a40 : S_rmap_Pair) (v_b41 : S_rmap_Pair) : Option (Int) :=
  (G_cmp_Compare_int n v_a40.fFrame v_b41.fFrame).bind fun (v_r72 : (Int)) =>
  (G_cmp_Compare_int n v_a40.fSpace v_b41.fSpace).bind fun (v_r73 : (Int)) =>
  (G_cmp_Compare_int n v_a40.fPage v_b41.fPage).bind fun (v_r74 : (Int)) =>
  (G_cmp_Or_int n ([v_r72, v_r73, v_r74])).bind fun (v_r89 : (Int)) =>
  some v_r89
theorem G_rmap_order_ok (n : Nat) (v_a40 : S_rmap_Pair) (v_b41 : S_rmap_Pair) (r : Int) (h : G_rmap_order n v_a40 v_b41 = some r) : Ret Try.prog 20 [eS_rmap_Pair v_a40, eS_rmap_Pair v_b41] ((eI .i64) r) := by
  refine ret_run (n := 22) (fn := Try.f20) (c := bodyOf Try.f20) (by kernel_rfl) (by kernel_rfl) (by kernel_rfl) (by kernel_rfl) ?_
  have hF : KC 22 (FinR Try.prog Try.f20 ((eI .i64) r)) := FinR.kc' (by kernel_rfl)
  unfold G_rmap_order at h
  obtain ⟨v_r72, h28, h⟩ := bind_some h
  obtain ⟨v_r73, h29, h⟩ := bind_some h
  obtain ⟨v_r74, h30, h⟩ := bind_some h
  obtain ⟨v_r89, h37, h⟩ := bind_some h
  obtain rfl := Option.some.inj h
  exact pend_sound TTok mix 5 (hs := [.c, .c, .r ((eI .i64) v_r72), .c, .c, .r ((eI .i64) v_r73), .c, .c, .r ((eI .i64) v_r74), .bd, .r ((eI .i64) v_r89)]) (by kernel_rfl) (by kernel_rfl) (by kernel_rfl) (.cons (G_cmp_Compare_int_ok n v_a40.fFrame v_b41.fFrame _ h28) (.cons (G_cmp_Compare_int_ok n v_a40.fSpace v_b41.fSpace _ h29) (.cons (G_cmp_Compare_int_ok n v_a40.fPage v_b41.fPage _ h30) (.cons (G_cmp_Or_int_ok n ([v_r72, v_r73, v_r74]) _ h37) .nil))))
inductive G_rmap_Check_L1_R where
  | x0 (v_x121 : Int)
  | x1 
def G_rmap_Check_L1_ex : G_rmap_Check_L1_R → Ex
  | .x0 _ => .ret
  | .x1  => .exit 0
def G_rmap_Check_L1_st (v_l15 : (List S_rmap_Pair)) : G_rmap_Check_L1_R → PS
  | .x0 v_x121 => ⟨(dd :: dd :: .d (.v (.int .i64 v_x121)) :: (dds 44 [])), []⟩
  | .x1  => ⟨(dds 47 []), []⟩
def G_rmap_Check_L1_hd (v_l15 : (List S_rmap_Pair)) (v_x24 : Int) (v_w25 : (List ((Fin 2 → Int) × Bool))) : PS := ⟨(.d (.sl (v_l15.map eS_rmap_Pair)) :: dd :: dd :: .srf 0 :: dd :: dd :: dd :: dd :: dd :: dd :: dd :: .d (.sl (v_l15.map eS_rmap_Pair)) :: .d (.v (.int .i64 (v_l15.length : Int))) :: .d (.v (.int .i64 v_x24)) :: (dds 33 [])), [.cu (mapC (fun x : (Fin 2 → Int) => Value.agg (kc_t58 x).toArray) Value.bool v_w25) []]⟩
def G_rmap_Check_L1 (n : Nat) (v_l15 : (List S_rmap_Pair)) : Nat → Int → (List ((Fin 2 → Int) × Bool)) → Option G_rmap_Check_L1_R
  | 0, _, _ => none
  | k + 1, v_x24, v_w25 =>
    if v_x24 < (v_l15.length : Int) then
     (getI v_l15 v_x24).bind fun (v_y106 : S_rmap_Pair) =>
     (G_rmap_right n v_y106).bind fun (v_r116 : (Bool)) =>
     if v_r116 = true then
      if v_x24 > 0 then
       (getI v_l15 (wi .i64 (v_x24 - 1))).bind fun (v_y124 : S_rmap_Pair) =>
       (G_rmap_order n v_y124 v_y106).bind fun (v_r125 : (Int)) =>
       if v_r125 ≥ 0 then
        some (.x0 3)
       else
        if ((mget v_w25 (fun i : Fin 2 => [v_y106.fSpace, v_y106.fPage].get i)).getD false) = true then
         some (.x0 5)
        else
         G_rmap_Check_L1 n v_l15 k (wi .i64 (v_x24 + 1)) (mput v_w25 (fun i : Fin 2 => [v_y106.fSpace, v_y106.fPage].get i) true)
      else
       if ((mget v_w25 (fun i : Fin 2 => [v_y106.fSpace, v_y106.fPage].get i)).getD false) = true then
        some (.x0 5)
       else
        G_rmap_Check_L1 n v_l15 k (wi .i64 (v_x24 + 1)) (mput v_w25 (fun i : Fin 2 => [v_y106.fSpace, v_y106.fPage].get i) true)
     else
      some (.x0 1)
    else
     some (.x1 )
theorem G_rmap_Check_L1_ok {Fi : Ex → PS → Prop} (hF : KC 47 Fi) (ks : List Fr) (n : Nat) (v_l15 : (List S_rmap_Pair))  : ∀ (k : Nat) (v_x24 : Int) (v_w25 : (List ((Fin 2 → Int) × Bool))) (o : G_rmap_Check_L1_R), G_rmap_Check_L1 n v_l15 k v_x24 v_w25 = some o → RunE Try.prog 47 Fi ks (G_rmap_Check_L1_ex o) (G_rmap_Check_L1_st v_l15 o) → RunE Try.prog 47 Fi (.l k (cP (cB (cR (cL (cR (cR (cR (bodyOf Try.f10)))))))) :: ks) .normal (G_rmap_Check_L1_hd v_l15 v_x24 v_w25)
  | 0, v_x24, v_w25, o, h, q => by rw [G_rmap_Check_L1] at h; cases h
  | k + 1, v_x24, v_w25, o, h, q => by
    rw [G_rmap_Check_L1] at h
    by_cases h2 : v_x24 < (v_l15.length : Int)
    · rw [if_pos h2] at h
      obtain ⟨v_y106, h82, h⟩ := bind_some h
      obtain ⟨v_r116, h107, h⟩ := bind_some h
      by_cases h118 : v_r116 = true
      · rw [if_pos h118] at h
        by_cases h122 : v_x24 > 0
        · rw [if_pos h122] at h
          obtain ⟨v_y124, h123, h⟩ := bind_some h
          obtain ⟨v_r125, h124, h⟩ := bind_some h
          by_cases h127 : v_r125 ≥ 0
          · rw [if_pos h127] at h
            cases h
            exact pkk_sound TTok mix hF 28 (hs := [.t true, .y (eS_rmap_Pair v_y106), .c, .c, .c, .c, .c, .r (eB v_r116), .t false, .t true, .c, .c, .c, .y (eS_rmap_Pair v_y124), .c, .c, .c, .c, .r ((eI .i64) v_r125), .c, .t true]) (ts := []) (s := []) (l := [2]) (by kernel_rfl) (by kernel_rfl) (.cons (dt h2) (.cons (getI_ob (f := eS_rmap_Pair) h82) (.cons (show 0 + 3 ≤ 3 by decide) (.cons (show 0 + 2 ≤ 2 by decide) (.cons (G_rmap_right_ok n v_y106 _ h107) (.cons (bnf h118) (.cons (dt h122) (.cons (getI_ob (f := eS_rmap_Pair) h123) (.cons (G_rmap_order_ok n v_y124 v_y106 _ h124) (.cons (dt h127) .nil)))))))))) q
          · rw [if_neg h127] at h
            by_cases h128 : ((mget v_w25 (fun i : Fin 2 => [v_y106.fSpace, v_y106.fPage].get i)).getD false) = true
            · rw [if_pos h128] at h
              cases h
              exact pkk_sound TTok mix hF 31 (hs := [.t true, .y (eS_rmap_Pair v_y106), .c, .c, .c, .c, .c, .r (eB v_r116), .t false, .t true, .c, .c, .c, .y (eS_rmap_Pair v_y124), .c, .c, .c, .c, .r ((eI .i64) v_r125), .c, .t false, .c, .e 166 [0] (.d (.v (.bool ((mget v_w25 (fun i : Fin 2 => [v_y106.fSpace, v_y106.fPage].get i)).getD false)))) [], .t true]) (ts := []) (s := []) (l := [2]) (by kernel_rfl) (by kernel_rfl) (.cons (dt h2) (.cons (getI_ob (f := eS_rmap_Pair) h82) (.cons (show 0 + 3 ≤ 3 by decide) (.cons (show 0 + 2 ≤ 2 by decide) (.cons (G_rmap_right_ok n v_y106 _ h107) (.cons (bnf h118) (.cons (dt h122) (.cons (getI_ob (f := eS_rmap_Pair) h123) (.cons (G_rmap_order_ok n v_y124 v_y106 _ h124) (.cons (df h127) (.cons (ylook (P := Try.prog) (T := TT) (t := 57) (kt := 58) (et := 4) (l := 0) (x := (.tmp 41)) (y := (.tmp 42)) (f := (fun x : (Fin 2 → Int) => Value.agg (kc_t58 x).toArray)) (g := Value.bool) (E := v_w25) (k := (fun i : Fin 2 => [v_y106.fSpace, v_y106.fPage].get i)) (z := false) (kv_agg (kc_t58 (fun i : Fin 2 => [v_y106.fSpace, v_y106.fPage].get i))) false (by kernel_rfl) kw_t58 (fun w => by kernel_rfl) (fun _ => rfl) rfl) (.cons h128 .nil)))))))))))) q
            · rw [if_neg h128] at h
              exact pkk_sound TTok mix hF 28 (hs := [.t true, .y (eS_rmap_Pair v_y106), .c, .c, .c, .c, .c, .r (eB v_r116), .t false, .t true, .c, .c, .c, .y (eS_rmap_Pair v_y124), .c, .c, .c, .c, .r ((eI .i64) v_r125), .c, .t false, .c, .e 166 [0] (.d (.v (.bool ((mget v_w25 (fun i : Fin 2 => [v_y106.fSpace, v_y106.fPage].get i)).getD false)))) [], .t false, .c, .e 186 [0] (dd) [(0, .cu (mapC (fun x : (Fin 2 → Int) => Value.agg (kc_t58 x).toArray) Value.bool (mput v_w25 (fun i : Fin 2 => [v_y106.fSpace, v_y106.fPage].get i) true)) [])]]) (ts := []) (s := [0]) (l := [0, 3, 11, 12, 13]) (by kernel_rfl) (by kernel_rfl) (.cons (dt h2) (.cons (getI_ob (f := eS_rmap_Pair) h82) (.cons (show 0 + 3 ≤ 3 by decide) (.cons (show 0 + 2 ≤ 2 by decide) (.cons (G_rmap_right_ok n v_y106 _ h107) (.cons (bnf h118) (.cons (dt h122) (.cons (getI_ob (f := eS_rmap_Pair) h123) (.cons (G_rmap_order_ok n v_y124 v_y106 _ h124) (.cons (df h127) (.cons (ylook (P := Try.prog) (T := TT) (t := 57) (kt := 58) (et := 4) (l := 0) (x := (.tmp 41)) (y := (.tmp 42)) (f := (fun x : (Fin 2 → Int) => Value.agg (kc_t58 x).toArray)) (g := Value.bool) (E := v_w25) (k := (fun i : Fin 2 => [v_y106.fSpace, v_y106.fPage].get i)) (z := false) (kv_agg (kc_t58 (fun i : Fin 2 => [v_y106.fSpace, v_y106.fPage].get i))) false (by kernel_rfl) kw_t58 (fun w => by kernel_rfl) (fun _ => rfl) rfl) (.cons (vf h128) (.cons (yput (P := Try.prog) (T := TT) (t := 57) (kt := 58) (et := 4) (l := 0) (x := (.tmp 44)) (y := (.tmp 45)) (z := (.const (.bool true))) (f := (fun x : (Fin 2 → Int) => Value.agg (kc_t58 x).toArray)) (g := Value.bool) (E := v_w25) (k := (fun i : Fin 2 => [v_y106.fSpace, v_y106.fPage].get i)) (v := true) (kv_agg (kc_t58 (fun i : Fin 2 => [v_y106.fSpace, v_y106.fPage].get i))) (by kernel_rfl) kw_t58) .nil))))))))))))) (G_rmap_Check_L1_ok hF ks n v_l15 k (wi .i64 (v_x24 + 1)) (mput v_w25 (fun i : Fin 2 => [v_y106.fSpace, v_y106.fPage].get i) true) _ h q)
        · rw [if_neg h122] at h
          by_cases h130 : ((mget v_w25 (fun i : Fin 2 => [v_y106.fSpace, v_y106.fPage].get i)).getD false) = true
          · rw [if_pos h130] at h
            cases h
            exact pkk_sound TTok mix hF 31 (hs := [.t true, .y (eS_rmap_Pair v_y106), .c, .c, .c, .c, .c, .r (eB v_r116), .t false, .t false, .c, .c, .c, .c, .c, .c, .c, .c, .c, .e 166 [0] (.d (.v (.bool ((mget v_w25 (fun i : Fin 2 => [v_y106.fSpace, v_y106.fPage].get i)).getD false)))) [], .t true]) (ts := []) (s := []) (l := [2]) (by kernel_rfl) (by kernel_rfl) (.cons (dt h2) (.cons (getI_ob (f := eS_rmap_Pair) h82) (.cons (show 0 + 3 ≤ 3 by decide) (.cons (show 0 + 2 ≤ 2 by decide) (.cons (G_rmap_right_ok n v_y106 _ h107) (.cons (bnf h118) (.cons (df h122) (.cons (ylook (P := Try.prog) (T := TT) (t := 57) (kt := 58) (et := 4) (l := 0) (x := (.tmp 41)) (y := (.tmp 42)) (f := (fun x : (Fin 2 → Int) => Value.agg (kc_t58 x).toArray)) (g := Value.bool) (E := v_w25) (k := (fun i : Fin 2 => [v_y106.fSpace, v_y106.fPage].get i)) (z := false) (kv_agg (kc_t58 (fun i : Fin 2 => [v_y106.fSpace, v_y106.fPage].get i))) false (by kernel_rfl) kw_t58 (fun w => by kernel_rfl) (fun _ => rfl) rfl) (.cons h130 .nil))))))))) q
          · rw [if_neg h130] at h
            exact pkk_sound TTok mix hF 28 (hs := [.t true, .y (eS_rmap_Pair v_y106), .c, .c, .c, .c, .c, .r (eB v_r116), .t false, .t false, .c, .c, .c, .c, .c, .c, .c, .c, .c, .e 166 [0] (.d (.v (.bool ((mget v_w25 (fun i : Fin 2 => [v_y106.fSpace, v_y106.fPage].get i)).getD false)))) [], .t false, .c, .e 186 [0] (dd) [(0, .cu (mapC (fun x : (Fin 2 → Int) => Value.agg (kc_t58 x).toArray) Value.bool (mput v_w25 (fun i : Fin 2 => [v_y106.fSpace, v_y106.fPage].get i) true)) [])]]) (ts := []) (s := [0]) (l := [0, 3, 11, 12, 13]) (by kernel_rfl) (by kernel_rfl) (.cons (dt h2) (.cons (getI_ob (f := eS_rmap_Pair) h82) (.cons (show 0 + 3 ≤ 3 by decide) (.cons (show 0 + 2 ≤ 2 by decide) (.cons (G_rmap_right_ok n v_y106 _ h107) (.cons (bnf h118) (.cons (df h122) (.cons (ylook (P := Try.prog) (T := TT) (t := 57) (kt := 58) (et := 4) (l := 0) (x := (.tmp 41)) (y := (.tmp 42)) (f := (fun x : (Fin 2 → Int) => Value.agg (kc_t58 x).toArray)) (g := Value.bool) (E := v_w25) (k := (fun i : Fin 2 => [v_y106.fSpace, v_y106.fPage].get i)) (z := false) (kv_agg (kc_t58 (fun i : Fin 2 => [v_y106.fSpace, v_y106.fPage].get i))) false (by kernel_rfl) kw_t58 (fun w => by kernel_rfl) (fun _ => rfl) rfl) (.cons (vf h130) (.cons (yput (P := Try.prog) (T := TT) (t := 57) (kt := 58) (et := 4) (l := 0) (x := (.tmp 44)) (y := (.tmp 45)) (z := (.const (.bool true))) (f := (fun x : (Fin 2 → Int) => Value.agg (kc_t58 x).toArray)) (g := Value.bool) (E := v_w25) (k := (fun i : Fin 2 => [v_y106.fSpace, v_y106.fPage].get i)) (v := true) (kv_agg (kc_t58 (fun i : Fin 2 => [v_y106.fSpace, v_y106.fPage].get i))) (by kernel_rfl) kw_t58) .nil)))))))))) (G_rmap_Check_L1_ok hF ks n v_l15 k (wi .i64 (v_x24 + 1)) (mput v_w25 (fun i : Fin 2 => [v_y106.fSpace, v_y106.fPage].get i) true) _ h q)
      · rw [if_neg h118] at h
        cases h
        exact pkk_sound TTok mix hF 25 (hs := [.t true, .y (eS_rmap_Pair v_y106), .c, .c, .c, .c, .c, .r (eB v_r116), .t true]) (ts := []) (s := []) (l := [2]) (by kernel_rfl) (by kernel_rfl) (.cons (dt h2) (.cons (getI_ob (f := eS_rmap_Pair) h82) (.cons (show 0 + 3 ≤ 3 by decide) (.cons (show 0 + 2 ≤ 2 by decide) (.cons (G_rmap_right_ok n v_y106 _ h107) (.cons (bnt (vf h118)) .nil)))))) q
    · rw [if_neg h2] at h
      cases h
      exact pkk_sound TTok mix hF 8 (hs := [.t false]) (ts := []) (s := []) (l := []) (by kernel_rfl) (by kernel_rfl) (.cons (df h2) .nil) q
/- ringhall/rmap.Check -/
def G_rmap_Check (n : Nat) (v_l15 : (List S_rmap_Pair)) : Option (Int) :=
  if (v_l15.length : Int) > 1024 then
   some 2
  else
   (G_rmap_Check_L1 n v_l15 n 0 ([] : (List ((Fin 2 → Int) × Bool)))).bind fun v_o129 => match v_o129 with
   | .x0 v_z130 =>
     some v_z130
   | .x1  =>
     some 0
theorem G_rmap_Check_ok (n : Nat) (v_l15 : (List S_rmap_Pair)) (r : Int) (h : G_rmap_Check n v_l15 = some r) : Ret Try.prog 10 [(eL eS_rmap_Pair) v_l15] ((eI .i64) r) := by
  refine ret_run (n := 47) (fn := Try.f10) (c := bodyOf Try.f10) (by kernel_rfl) (by kernel_rfl) (by kernel_rfl) (by kernel_rfl) ?_
  have hF : KC 47 (FinR Try.prog Try.f10 ((eI .i64) r)) := FinR.kc' (by kernel_rfl)
  unfold G_rmap_Check at h
  by_cases h1 : (v_l15.length : Int) > 1024
  · rw [if_pos h1] at h
    obtain rfl := Option.some.inj h
    exact pend_sound TTok mix 10 (hs := [.u (.d (.v (.int .i64 (v_l15.length : Int)))), .t true]) (by kernel_rfl) (by kernel_rfl) (by kernel_rfl) (.cons (len_ob (f := eS_rmap_Pair) (l := v_l15)) (.cons (dt h1) .nil))
  · rw [if_neg h1] at h
    obtain ⟨v_o129, h131, h⟩ := bind_some h
    refine pkk_sound TTok mix hF 14 (hs := [.u (.d (.v (.int .i64 (v_l15.length : Int)))), .t false, .e 20 [20] (.srf 20) [(20, .cu (mapC (fun x : (Fin 2 → Int) => Value.agg (kc_t58 x).toArray) Value.bool ([] : (List ((Fin 2 → Int) × Bool)))) [])], .u (.d (.v (.int .i64 (v_l15.length : Int)))), .n n]) (ts := []) (s := [20]) (l := [0, 3, 11, 12, 13]) (by kernel_rfl) (by kernel_rfl) (.cons (len_ob (f := eS_rmap_Pair) (l := v_l15)) (.cons (df h1) (.cons (ymake (P := Try.prog) (T := TT) (t := 57) (nl := 20) (fun x : (Fin 2 → Int) => Value.agg (kc_t58 x).toArray) Value.bool) (.cons (len_ob (f := eS_rmap_Pair) (l := v_l15)) .nil)))) (G_rmap_Check_L1_ok hF (.b 0 :: .s (cR (cR (cR (cR (bodyOf Try.f10))))) :: []) n v_l15 n 0 ([] : (List ((Fin 2 → Int) × Bool))) _ h131 ?_)
    cases v_o129 with
    | x0 v_z130 =>
      try dsimp only at h
      obtain rfl := Option.some.inj h
      exact pend_sound TTok mix 2 (hs := []) (by kernel_rfl) (by kernel_rfl) (by kernel_rfl) .nil
    | x1  =>
      try dsimp only at h
      obtain rfl := Option.some.inj h
      exact pend_sound TTok mix 4 (hs := []) (by kernel_rfl) (by kernel_rfl) (by kernel_rfl) .nil
/- ringhall/rmap.check -/
def G_rmap_check (n : Nat) (v_l11 : (List S_rmap_Pair)) (v_p12 : S_rmap_Pair) : Option (Int) :=
  (G_rmap_Check n v_l11).bind fun (v_r131 : (Int)) =>
  if v_r131 = 0 then
   (G_rmap_right n v_p12).bind fun (v_r132 : (Bool)) =>
   if v_r132 = true then
    some v_r131
   else
    some 1
  else
   some v_r131
theorem G_rmap_check_ok (n : Nat) (v_l11 : (List S_rmap_Pair)) (v_p12 : S_rmap_Pair) (r : Int) (h : G_rmap_check n v_l11 v_p12 = some r) : Ret Try.prog 17 [(eL eS_rmap_Pair) v_l11, eS_rmap_Pair v_p12] ((eI .i64) r) := by
  refine ret_run (n := 16) (fn := Try.f17) (c := bodyOf Try.f17) (by kernel_rfl) (by kernel_rfl) (by kernel_rfl) (by kernel_rfl) ?_
  have hF : KC 16 (FinR Try.prog Try.f17 ((eI .i64) r)) := FinR.kc' (by kernel_rfl)
  unfold G_rmap_check at h
  obtain ⟨v_r131, h132, h⟩ := bind_some h
  by_cases h133 : v_r131 = 0
  · rw [if_pos h133] at h
    obtain ⟨v_r132, h134, h⟩ := bind_some h
    by_cases h135 : v_r132 = true
    · rw [if_pos h135] at h
      obtain rfl := Option.some.inj h
      exact pend_sound TTok mix 12 (hs := [.r ((eI .i64) v_r131), .t true, .c, .c, .r (eB v_r132), .c, .t false]) (by kernel_rfl) (by kernel_rfl) (by kernel_rfl) (.cons (G_rmap_Check_ok n v_l11 _ h132) (.cons (bt h133) (.cons (G_rmap_right_ok n v_p12 _ h134) (.cons (bnf h135) .nil))))
    · rw [if_neg h135] at h
      obtain rfl := Option.some.inj h
      exact pend_sound TTok mix 12 (hs := [.r ((eI .i64) v_r131), .t true, .c, .c, .r (eB v_r132), .c, .t true]) (by kernel_rfl) (by kernel_rfl) (by kernel_rfl) (.cons (G_rmap_Check_ok n v_l11 _ h132) (.cons (bt h133) (.cons (G_rmap_right_ok n v_p12 _ h134) (.cons (bnt (vf h135)) .nil))))
  · rw [if_neg h133] at h
    obtain rfl := Option.some.inj h
    exact pend_sound TTok mix 12 (hs := [.r ((eI .i64) v_r131), .t false, .c, .c, .c]) (by kernel_rfl) (by kernel_rfl) (by kernel_rfl) (.cons (G_rmap_Check_ok n v_l11 _ h132) (.cons (bf h133) .nil))
inductive G_slices_IndexFunc_rmap_Pair_rmap_Pair_L1_R where
  | x0 (v_x160 : Int)
  | x1 
def G_slices_IndexFunc_rmap_Pair_rmap_Pair_L1_ex : G_slices_IndexFunc_rmap_Pair_rmap_Pair_L1_R → Ex
  | .x0 _ => .ret
  | .x1  => .exit 0
def G_slices_IndexFunc_rmap_Pair_rmap_Pair_L1_st (v_s151 : (List S_rmap_Pair)) (v_f152 : (S_rmap_Pair → Option (Bool))) (v_f152_g : FuncId) (v_f152_c : (List PV)) : G_slices_IndexFunc_rmap_Pair_rmap_Pair_L1_R → PS
  | .x0 v_x160 => ⟨(dd :: dd :: dd :: dd :: .d (.v (.int .i64 v_x160)) :: (dds 14 [])), []⟩
  | .x1  => ⟨(dds 19 []), []⟩
def G_slices_IndexFunc_rmap_Pair_rmap_Pair_L1_hd (v_s151 : (List S_rmap_Pair)) (v_f152 : (S_rmap_Pair → Option (Bool))) (v_f152_g : FuncId) (v_f152_c : (List PV)) (v_x155 : Int) : PS := ⟨(.d (.sl (v_s151.map eS_rmap_Pair)) :: .d (.clo v_f152_g v_f152_c) :: dd :: dd :: dd :: dd :: dd :: .d (.v (.int .i64 (v_s151.length : Int))) :: .d (.v (.int .i64 v_x155)) :: (dds 10 [])), []⟩
def G_slices_IndexFunc_rmap_Pair_rmap_Pair_L1 (n : Nat) (v_s151 : (List S_rmap_Pair)) (v_f152 : (S_rmap_Pair → Option (Bool))) : Nat → Int → Option G_slices_IndexFunc_rmap_Pair_rmap_Pair_L1_R
  | 0, _ => none
  | k + 1, v_x155 =>
    if v_x155 < (v_s151.length : Int) then
     (getI v_s151 v_x155).bind fun (v_y158 : S_rmap_Pair) =>
     (v_f152 v_y158).bind fun (v_r159 : (Bool)) =>
     if v_r159 = true then
      some (.x0 v_x155)
     else
      G_slices_IndexFunc_rmap_Pair_rmap_Pair_L1 n v_s151 v_f152 k (wi .i64 (v_x155 + 1))
    else
     some (.x1 )
theorem G_slices_IndexFunc_rmap_Pair_rmap_Pair_L1_ok {Fi : Ex → PS → Prop} (hF : KC 19 Fi) (ks : List Fr) (n : Nat) (v_s151 : (List S_rmap_Pair)) (v_f152 : (S_rmap_Pair → Option (Bool))) (v_f152_g : FuncId) (v_f152_c : (List PV)) (v_f152_h : ∀ (x0 : S_rmap_Pair) (r : Bool), v_f152 x0 = some r → Ret Try.prog v_f152_g ([eS_rmap_Pair x0] ++ v_f152_c) (eB r)) : ∀ (k : Nat) (v_x155 : Int) (o : G_slices_IndexFunc_rmap_Pair_rmap_Pair_L1_R), G_slices_IndexFunc_rmap_Pair_rmap_Pair_L1 n v_s151 v_f152 k v_x155 = some o → RunE Try.prog 19 Fi ks (G_slices_IndexFunc_rmap_Pair_rmap_Pair_L1_ex o) (G_slices_IndexFunc_rmap_Pair_rmap_Pair_L1_st v_s151 v_f152 v_f152_g v_f152_c o) → RunE Try.prog 19 Fi (.l k (cP (cB (cR (cL (cR (bodyOf Try.f29)))))) :: ks) .normal (G_slices_IndexFunc_rmap_Pair_rmap_Pair_L1_hd v_s151 v_f152 v_f152_g v_f152_c v_x155)
  | 0, v_x155, o, h, q => by rw [G_slices_IndexFunc_rmap_Pair_rmap_Pair_L1] at h; cases h
  | k + 1, v_x155, o, h, q => by
    rw [G_slices_IndexFunc_rmap_Pair_rmap_Pair_L1] at h
    by_cases h139 : v_x155 < (v_s151.length : Int)
    · rw [if_pos h139] at h
      obtain ⟨v_y158, h143, h⟩ := bind_some h
      obtain ⟨v_r159, h144, h⟩ := bind_some h
      by_cases h145 : v_r159 = true
      · rw [if_pos h145] at h
        cases h
        exact pkk_sound TTok mix hF 19 (hs := [.t true, .y (eS_rmap_Pair v_y158), .r (eB v_r159), .t true]) (ts := []) (s := []) (l := [4]) (by kernel_rfl) (by kernel_rfl) (.cons (dt h139) (.cons (getI_ob (f := eS_rmap_Pair) h143) (.cons (v_f152_h v_y158 _ h144) (.cons h145 .nil)))) q
      · rw [if_neg h145] at h
        exact pkk_sound TTok mix hF 16 (hs := [.t true, .y (eS_rmap_Pair v_y158), .r (eB v_r159), .t false]) (ts := []) (s := []) (l := [0, 1, 7, 8]) (by kernel_rfl) (by kernel_rfl) (.cons (dt h139) (.cons (getI_ob (f := eS_rmap_Pair) h143) (.cons (v_f152_h v_y158 _ h144) (.cons (vf h145) .nil)))) (G_slices_IndexFunc_rmap_Pair_rmap_Pair_L1_ok hF ks n v_s151 v_f152 v_f152_g v_f152_c v_f152_h k (wi .i64 (v_x155 + 1)) _ h q)
    · rw [if_neg h139] at h
      cases h
      exact pkk_sound TTok mix hF 8 (hs := [.t false]) (ts := []) (s := []) (l := []) (by kernel_rfl) (by kernel_rfl) (.cons (df h139) .nil) q
/- slices.IndexFunc[[]ringhall/rmap.Pair,ringhall/rmap.Pair] -/
def G_slices_IndexFunc_rmap_Pair_rmap_Pair (n : Nat) (v_s151 : (List S_rmap_Pair)) (v_f152 : (S_rmap_Pair → Option (Bool))) : Option (Int) :=
  (G_slices_IndexFunc_rmap_Pair_rmap_Pair_L1 n v_s151 v_f152 n 0).bind fun v_o161 => match v_o161 with
  | .x0 v_z162 =>
    some v_z162
  | .x1  =>
    some (-1)
theorem G_slices_IndexFunc_rmap_Pair_rmap_Pair_ok (n : Nat) (v_s151 : (List S_rmap_Pair)) (v_f152 : (S_rmap_Pair → Option (Bool))) (v_f152_g : FuncId) (v_f152_c : List PV) (v_f152_h : ∀ (x0 : S_rmap_Pair) (r : Bool), v_f152 x0 = some r → Ret Try.prog v_f152_g ([eS_rmap_Pair x0] ++ v_f152_c) (eB r)) (r : Int) (h : G_slices_IndexFunc_rmap_Pair_rmap_Pair n v_s151 v_f152 = some r) : Ret Try.prog 29 [(eL eS_rmap_Pair) v_s151, (.clo v_f152_g v_f152_c)] ((eI .i64) r) := by
  refine ret_run (n := 19) (fn := Try.f29) (c := bodyOf Try.f29) (by kernel_rfl) (by kernel_rfl) (by kernel_rfl) (by kernel_rfl) ?_
  have hF : KC 19 (FinR Try.prog Try.f29 ((eI .i64) r)) := FinR.kc' (by kernel_rfl)
  unfold G_slices_IndexFunc_rmap_Pair_rmap_Pair at h
  obtain ⟨v_o161, h146, h⟩ := bind_some h
  refine pkk_sound TTok mix hF 7 (hs := [.u (.d (.v (.int .i64 (v_s151.length : Int)))), .n n]) (ts := []) (s := []) (l := [0, 1, 7, 8]) (by kernel_rfl) (by kernel_rfl) (.cons (len_ob (f := eS_rmap_Pair) (l := v_s151)) .nil) (G_slices_IndexFunc_rmap_Pair_rmap_Pair_L1_ok hF (.b 0 :: .s (cR (cR (bodyOf Try.f29))) :: []) n v_s151 v_f152 v_f152_g v_f152_c v_f152_h n 0 _ h146 ?_)
  cases v_o161 with
  | x0 v_z162 =>
    try dsimp only at h
    obtain rfl := Option.some.inj h
    exact pend_sound TTok mix 2 (hs := []) (by kernel_rfl) (by kernel_rfl) (by kernel_rfl) .nil
  | x1  =>
    try dsimp only at h
    obtain rfl := Option.some.inj h
    exact pend_sound TTok mix 4 (hs := []) (by kernel_rfl) (by kernel_rfl) (by kernel_rfl) .nil
/- ringhall/rmap.find$1 -/
def G_rmap_find_1 (n : Nat) (v_p163 : S_rmap_Pair) (v_c164 : Int) (v_c165 : Int) : Option (Bool) :=
  if v_p163.fSpace = v_c164 then
   some (v_p163.fPage == v_c165)
  else
   some false
theorem G_rmap_find_1_ok (n : Nat) (v_p163 : S_rmap_Pair) (v_c164 : Int) (v_c165 : Int) (r : Bool) (h : G_rmap_find_1 n v_p163 v_c164 v_c165 = some r) : Ret Try.prog 30 [eS_rmap_Pair v_p163, .iptr [.v (.int .i64 v_c164)] 0, .iptr [.v (.int .i64 v_c165)] 0] (eB r) := by
  refine ret_run (n := 15) (fn := Try.f30) (c := bodyOf Try.f30) (by kernel_rfl) (by kernel_rfl) (by kernel_rfl) (by kernel_rfl) ?_
  have hF : KC 15 (FinR Try.prog Try.f30 (eB r)) := FinR.kc' (by kernel_rfl)
  unfold G_rmap_find_1 at h
  by_cases h148 : v_p163.fSpace = v_c164
  · rw [if_pos h148] at h
    obtain rfl := Option.some.inj h
    exact pend_sound TTok mix 5 (hs := [.c, .c, .t true, .c, .c, .c, .c, .c]) (by kernel_rfl) (by kernel_rfl) (by kernel_rfl) (.cons (bt h148) .nil)
  · rw [if_neg h148] at h
    obtain rfl := Option.some.inj h
    exact pend_sound TTok mix 5 (hs := [.c, .c, .t false, .c, .c, .c]) (by kernel_rfl) (by kernel_rfl) (by kernel_rfl) (.cons (bf h148) .nil)
/- ringhall/rmap.find -/
def G_rmap_find (n : Nat) (v_l148 : (List S_rmap_Pair)) (v_space149 : Int) (v_page150 : Int) : Option (Int) :=
  (G_slices_IndexFunc_rmap_Pair_rmap_Pair n v_l148 (fun (y0 : S_rmap_Pair) => G_rmap_find_1 n y0 v_space149 v_page150)).bind fun (v_r166 : (Int)) =>
  some v_r166
theorem G_rmap_find_ok (n : Nat) (v_l148 : (List S_rmap_Pair)) (v_space149 : Int) (v_page150 : Int) (r : Int) (h : G_rmap_find n v_l148 v_space149 v_page150 = some r) : Ret Try.prog 18 [(eL eS_rmap_Pair) v_l148, (eI .i64) v_space149, (eI .i64) v_page150] ((eI .i64) r) := by
  refine ret_run (n := 10) (fn := Try.f18) (c := bodyOf Try.f18) (by kernel_rfl) (by kernel_rfl) (by kernel_rfl) (by kernel_rfl) ?_
  have hF : KC 10 (FinR Try.prog Try.f18 ((eI .i64) r)) := FinR.kc' (by kernel_rfl)
  unfold G_rmap_find at h
  obtain ⟨v_r166, h149, h⟩ := bind_some h
  obtain rfl := Option.some.inj h
  exact pend_sound TTok mix 5 (hs := [.c, .r ((eI .i64) v_r166)]) (by kernel_rfl) (by kernel_rfl) (by kernel_rfl) (.cons (G_slices_IndexFunc_rmap_Pair_rmap_Pair_ok n v_l148 (fun (y0 : S_rmap_Pair) => G_rmap_find_1 n y0 v_space149 v_page150) 30 [.iptr [.v (.int .i64 v_space149)] 0, .iptr [.v (.int .i64 v_page150)] 0] (fun y0 r h => G_rmap_find_1_ok n y0 v_space149 v_page150 r h) _ h149) .nil)
inductive G_slices_BinarySearchFunc_rmap_Pair_rmap_Pair_rmap_Pair_L1_R where
  | x0 (v_i193 : Int)
def G_slices_BinarySearchFunc_rmap_Pair_rmap_Pair_rmap_Pair_L1_ex : G_slices_BinarySearchFunc_rmap_Pair_rmap_Pair_rmap_Pair_L1_R → Ex
  | .x0 _ => .exit 0
def G_slices_BinarySearchFunc_rmap_Pair_rmap_Pair_rmap_Pair_L1_st (v_x174 : (List S_rmap_Pair)) (v_cmp176 : (S_rmap_Pair → S_rmap_Pair → Option (Int))) (v_target175 : S_rmap_Pair) (v_cmp176_g : FuncId) (v_cmp176_c : (List PV)) : G_slices_BinarySearchFunc_rmap_Pair_rmap_Pair_rmap_Pair_L1_R → PS
  | .x0 v_i193 => ⟨(.d (.sl (v_x174.map eS_rmap_Pair)) :: dd :: .d (.clo v_cmp176_g v_cmp176_c) :: dd :: .ref 0 0 :: dd :: dd :: dd :: .d (.v (.int .i64 (v_x174.length : Int))) :: .d (.v (.int .i64 v_i193)) :: (dds 39 [])), [.box [.d (.v (.int .i64 v_target175.fFrame)), .d (.v (.int .i64 v_target175.fSpace)), .d (.v (.int .i64 v_target175.fPage))]]⟩
def G_slices_BinarySearchFunc_rmap_Pair_rmap_Pair_rmap_Pair_L1_hd (v_x174 : (List S_rmap_Pair)) (v_cmp176 : (S_rmap_Pair → S_rmap_Pair → Option (Int))) (v_target175 : S_rmap_Pair) (v_cmp176_g : FuncId) (v_cmp176_c : (List PV)) (v_i187 : Int) (v_j188 : Int) : PS := ⟨(.d (.sl (v_x174.map eS_rmap_Pair)) :: dd :: .d (.clo v_cmp176_g v_cmp176_c) :: dd :: .ref 0 0 :: dd :: dd :: dd :: .d (.v (.int .i64 (v_x174.length : Int))) :: .d (.v (.int .i64 v_i187)) :: .d (.v (.int .i64 v_j188)) :: (dds 38 [])), [.box [.d (.v (.int .i64 v_target175.fFrame)), .d (.v (.int .i64 v_target175.fSpace)), .d (.v (.int .i64 v_target175.fPage))]]⟩
def G_slices_BinarySearchFunc_rmap_Pair_rmap_Pair_rmap_Pair_L1 (n : Nat) (v_x174 : (List S_rmap_Pair)) (v_cmp176 : (S_rmap_Pair → S_rmap_Pair → Option (Int))) (v_target175 : S_rmap_Pair) : Nat → Int → Int → Option G_slices_BinarySearchFunc_rmap_Pair_rmap_Pair_rmap_Pair_L1_R
  | 0, _, _ => none
  | k + 1, v_i187, v_j188 =>
    if v_i187 < v_j188 then
     (getI v_x174 (wi .i64 (shrI .u64 (wi .u64 (wi .i64 (v_i187 + v_j188))) 1))).bind fun (v_y191 : S_rmap_Pair) =>
     (v_cmp176 v_y191 v_target175).bind fun (v_r192 : (Int)) =>
     if v_r192 < 0 then
      G_slices_BinarySearchFunc_rmap_Pair_rmap_Pair_rmap_Pair_L1 n v_x174 v_cmp176 v_target175 k (wi .i64 ((wi .i64 (shrI .u64 (wi .u64 (wi .i64 (v_i187 + v_j188))) 1)) + 1)) v_j188
     else
      G_slices_BinarySearchFunc_rmap_Pair_rmap_Pair_rmap_Pair_L1 n v_x174 v_cmp176 v_target175 k v_i187 (wi .i64 (shrI .u64 (wi .u64 (wi .i64 (v_i187 + v_j188))) 1))
    else
     some (.x0 v_i187)
theorem G_slices_BinarySearchFunc_rmap_Pair_rmap_Pair_rmap_Pair_L1_ok {Fi : Ex → PS → Prop} (hF : KC 49 Fi) (ks : List Fr) (n : Nat) (v_x174 : (List S_rmap_Pair)) (v_cmp176 : (S_rmap_Pair → S_rmap_Pair → Option (Int))) (v_target175 : S_rmap_Pair) (v_cmp176_g : FuncId) (v_cmp176_c : (List PV)) (v_cmp176_h : ∀ (x0 : S_rmap_Pair) (x1 : S_rmap_Pair) (r : Int), v_cmp176 x0 x1 = some r → Ret Try.prog v_cmp176_g ([eS_rmap_Pair x0, eS_rmap_Pair x1] ++ v_cmp176_c) ((eI .i64) r)) : ∀ (k : Nat) (v_i187 : Int) (v_j188 : Int) (o : G_slices_BinarySearchFunc_rmap_Pair_rmap_Pair_rmap_Pair_L1_R), G_slices_BinarySearchFunc_rmap_Pair_rmap_Pair_rmap_Pair_L1 n v_x174 v_cmp176 v_target175 k v_i187 v_j188 = some o → RunE Try.prog 49 Fi ks (G_slices_BinarySearchFunc_rmap_Pair_rmap_Pair_rmap_Pair_L1_ex o) (G_slices_BinarySearchFunc_rmap_Pair_rmap_Pair_rmap_Pair_L1_st v_x174 v_cmp176 v_target175 v_cmp176_g v_cmp176_c o) → RunE Try.prog 49 Fi (.l k (cP (cB (cL (cR (cR (cR (bodyOf Try.f19))))))) :: ks) .normal (G_slices_BinarySearchFunc_rmap_Pair_rmap_Pair_rmap_Pair_L1_hd v_x174 v_cmp176 v_target175 v_cmp176_g v_cmp176_c v_i187 v_j188)
  | 0, v_i187, v_j188, o, h, q => by rw [G_slices_BinarySearchFunc_rmap_Pair_rmap_Pair_rmap_Pair_L1] at h; cases h
  | k + 1, v_i187, v_j188, o, h, q => by
    rw [G_slices_BinarySearchFunc_rmap_Pair_rmap_Pair_rmap_Pair_L1] at h
    by_cases h152 : v_i187 < v_j188
    · rw [if_pos h152] at h
      obtain ⟨v_y191, h159, h⟩ := bind_some h
      obtain ⟨v_r192, h160, h⟩ := bind_some h
      by_cases h162 : v_r192 < 0
      · rw [if_pos h162] at h
        exact pkk_sound TTok mix hF 14 (hs := [.t true, .y (eS_rmap_Pair v_y191), .c, .r ((eI .i64) v_r192), .t true]) (ts := []) (s := [0]) (l := [0, 2, 4, 8, 9, 10]) (by kernel_rfl) (by kernel_rfl) (.cons (dt h152) (.cons (show (0 : Int) ≤ 1 by decide) (.cons (getI_ob (f := eS_rmap_Pair) h159) (.cons (v_cmp176_h v_y191 v_target175 _ h160) (.cons (dt h162) .nil))))) (G_slices_BinarySearchFunc_rmap_Pair_rmap_Pair_rmap_Pair_L1_ok hF ks n v_x174 v_cmp176 v_target175 v_cmp176_g v_cmp176_c v_cmp176_h k (wi .i64 ((wi .i64 (shrI .u64 (wi .u64 (wi .i64 (v_i187 + v_j188))) 1)) + 1)) v_j188 _ h q)
      · rw [if_neg h162] at h
        exact pkk_sound TTok mix hF 14 (hs := [.t true, .y (eS_rmap_Pair v_y191), .c, .r ((eI .i64) v_r192), .t false]) (ts := []) (s := [0]) (l := [0, 2, 4, 8, 9, 10]) (by kernel_rfl) (by kernel_rfl) (.cons (dt h152) (.cons (show (0 : Int) ≤ 1 by decide) (.cons (getI_ob (f := eS_rmap_Pair) h159) (.cons (v_cmp176_h v_y191 v_target175 _ h160) (.cons (df h162) .nil))))) (G_slices_BinarySearchFunc_rmap_Pair_rmap_Pair_rmap_Pair_L1_ok hF ks n v_x174 v_cmp176 v_target175 v_cmp176_g v_cmp176_c v_cmp176_h k v_i187 (wi .i64 (shrI .u64 (wi .u64 (wi .i64 (v_i187 + v_j188))) 1)) _ h q)
    · rw [if_neg h152] at h
      cases h
      exact pkk_sound TTok mix hF 8 (hs := [.t false]) (ts := []) (s := [0]) (l := [0, 2, 4, 8, 9]) (by kernel_rfl) (by kernel_rfl) (.cons (df h152) .nil) q
/- slices.BinarySearchFunc[[]ringhall/rmap.Pair,ringhall/rmap.Pair,ringhall/rmap.Pair] -/
def G_slices_BinarySearchFunc_rmap_Pair_rmap_Pair_rmap_Pair (n : Nat) (v_x174 : (List S_rmap_Pair)) (v_target175 : S_rmap_Pair) (v_cmp176 : (S_rmap_Pair → S_rmap_Pair → Option (Int))) : Option (Int × Bool) :=
  (G_slices_BinarySearchFunc_rmap_Pair_rmap_Pair_rmap_Pair_L1 n v_x174 v_cmp176 v_target175 n 0 (v_x174.length : Int)).bind fun v_o194 => match v_o194 with
  | .x0 v_z195 =>
    if v_z195 < (v_x174.length : Int) then
     (getI v_x174 v_z195).bind fun (v_y202 : S_rmap_Pair) =>
     (v_cmp176 v_y202 v_target175).bind fun (v_r203 : (Int)) =>
     some (v_z195, (v_r203 == 0))
    else
     some (v_z195, false)
theorem G_slices_BinarySearchFunc_rmap_Pair_rmap_Pair_rmap_Pair_ok (n : Nat) (v_x174 : (List S_rmap_Pair)) (v_target175 : S_rmap_Pair) (v_cmp176 : (S_rmap_Pair → S_rmap_Pair → Option (Int))) (v_cmp176_g : FuncId) (v_cmp176_c : List PV) (v_cmp176_h : ∀ (x0 : S_rmap_Pair) (x1 : S_rmap_Pair) (r : Int), v_cmp176 x0 x1 = some r → Ret Try.prog v_cmp176_g ([eS_rmap_Pair x0, eS_rmap_Pair x1] ++ v_cmp176_c) ((eI .i64) r)) (r : Int × Bool) (h : G_slices_BinarySearchFunc_rmap_Pair_rmap_Pair_rmap_Pair n v_x174 v_target175 v_cmp176 = some r) : Ret Try.prog 19 [(eL eS_rmap_Pair) v_x174, eS_rmap_Pair v_target175, (.clo v_cmp176_g v_cmp176_c)] (.tup [(eI .i64) r.1, eB r.2]) := by
  refine ret_run (n := 49) (fn := Try.f19) (c := bodyOf Try.f19) (by kernel_rfl) (by kernel_rfl) (by kernel_rfl) (by kernel_rfl) ?_
  have hF : KC 49 (FinR Try.prog Try.f19 (.tup [(eI .i64) r.1, eB r.2])) := FinR.kc' (by kernel_rfl)
  unfold G_slices_BinarySearchFunc_rmap_Pair_rmap_Pair_rmap_Pair at h
  obtain ⟨v_o194, h163, h⟩ := bind_some h
  refine pkk_sound TTok mix hF 9 (hs := [.u (.d (.v (.int .i64 (v_x174.length : Int)))), .n n]) (ts := []) (s := [0]) (l := [0, 2, 4, 8, 9, 10]) (by kernel_rfl) (by kernel_rfl) (.cons (len_ob (f := eS_rmap_Pair) (l := v_x174)) .nil) (G_slices_BinarySearchFunc_rmap_Pair_rmap_Pair_rmap_Pair_L1_ok hF (.b 0 :: .s (cR (cR (cR (cR (bodyOf Try.f19))))) :: []) n v_x174 v_cmp176 v_target175 v_cmp176_g v_cmp176_c v_cmp176_h n 0 (v_x174.length : Int) _ h163 ?_)
  cases v_o194 with
  | x0 v_z195 =>
    try dsimp only at h
    by_cases h167 : v_z195 < (v_x174.length : Int)
    · rw [if_pos h167] at h
      obtain ⟨v_y202, h168, h⟩ := bind_some h
      obtain ⟨v_r203, h169, h⟩ := bind_some h
      obtain rfl := Option.some.inj h
      exact pend_sound TTok mix 4 (hs := [.t true, .c, .c, .c, .y (eS_rmap_Pair v_y202), .c, .c, .c, .c, .r ((eI .i64) v_r203), .c]) (by kernel_rfl) (by kernel_rfl) (by kernel_rfl) (.cons (dt h167) (.cons (getI_ob (f := eS_rmap_Pair) h168) (.cons (v_cmp176_h v_y202 v_target175 _ h169) .nil)))
    · rw [if_neg h167] at h
      obtain rfl := Option.some.inj h
      exact pend_sound TTok mix 4 (hs := [.t false, .c, .c, .c, .c, .c, .c, .c]) (by kernel_rfl) (by kernel_rfl) (by kernel_rfl) (.cons (df h167) .nil)
/- slices.Clone[[]ringhall/rmap.Pair,ringhall/rmap.Pair] -/
def G_slices_Clone_rmap_Pair_rmap_Pair_A (n : Nat) (v_c205 : Nat) : Option ((List S_rmap_Pair)) :=
  some ([] : List S_rmap_Pair)
theorem G_slices_Clone_rmap_Pair_rmap_Pair_A_ok (n : Nat) (v_c205 : Nat) (r : (List S_rmap_Pair)) (h : G_slices_Clone_rmap_Pair_rmap_Pair_A n v_c205 = some r) : RetH Try.prog 22 [.d (.v (.slice none 0 v_c205))] [] (.srf 0) [.row 24 3 (r.map eS_rmap_Pair)] := by
  refine retH_run (n := 8) (fn := Try.f22) (c := bodyOf Try.f22) (by kernel_rfl) (by kernel_rfl) (by kernel_rfl) (by kernel_rfl) ?_
  have hF : KC 8 (FinH Try.prog Try.f22 [] (.srf 0) [.row 24 3 (r.map eS_rmap_Pair)]) := FinH.kc' (by kernel_rfl)
  unfold G_slices_Clone_rmap_Pair_rmap_Pair_A at h
  obtain rfl := Option.some.inj h
  exact pendH_sound TTok mix 11 (hs := [.c, .dl 4, .th 2 24 3]) [20] (by kernel_rfl) (by kernel_rfl) (by kernel_rfl) .nil
/- slices.Clone[[]ringhall/rmap.Pair,ringhall/rmap.Pair] -/
def G_slices_Clone_rmap_Pair_rmap_Pair_B (n : Nat) (v_a206 : Addr) (v_c207 : Nat) : Option ((List S_rmap_Pair)) :=
  (app 24 ([] : List S_rmap_Pair) ([] : (List S_rmap_Pair))).bind fun (v_a208 : (List S_rmap_Pair)) =>
  some v_a208
theorem G_slices_Clone_rmap_Pair_rmap_Pair_B_ok (n : Nat) (v_a206 : Addr) (v_c207 : Nat) (r : (List S_rmap_Pair)) (h : G_slices_Clone_rmap_Pair_rmap_Pair_B n v_a206 v_c207 = some r) : RetH Try.prog 22 [.d (.v (.slice (some v_a206) 0 v_c207))] [] (.srf 0) [.row 24 3 (r.map eS_rmap_Pair)] := by
  refine retH_run (n := 8) (fn := Try.f22) (c := bodyOf Try.f22) (by kernel_rfl) (by kernel_rfl) (by kernel_rfl) (by kernel_rfl) ?_
  have hF : KC 8 (FinH Try.prog Try.f22 [] (.srf 0) [.row 24 3 (r.map eS_rmap_Pair)]) := FinH.kc' (by kernel_rfl)
  unfold G_slices_Clone_rmap_Pair_rmap_Pair_B at h
  obtain ⟨v_a208, h171, h⟩ := bind_some h
  obtain rfl := Option.some.inj h
  exact pendH_sound TTok mix 10 (hs := [.c, .w (([] : List S_rmap_Pair).map eS_rmap_Pair), .w (v_a208.map eS_rmap_Pair)]) [25] (by kernel_rfl) (by kernel_rfl) (by kernel_rfl) (.cons (Eq.refl (([] : List S_rmap_Pair).map eS_rmap_Pair)) (.cons (app_ob (f := eS_rmap_Pair) (s := 3) h171 (fun _ => rfl)).1 (.cons (app_ob (f := eS_rmap_Pair) (s := 3) h171 (fun _ => rfl)).2.1 (.cons (app_ob (f := eS_rmap_Pair) (s := 3) h171 (fun _ => rfl)).2.2.1 (.cons (app_ob (f := eS_rmap_Pair) (s := 3) h171 (fun _ => rfl)).2.2.2 .nil)))))
/- slices.Clone[[]ringhall/rmap.Pair,ringhall/rmap.Pair] -/
def G_slices_Clone_rmap_Pair_rmap_Pair_C (n : Nat) (v_y209 : S_rmap_Pair) (v_ys210 : (List S_rmap_Pair)) : Option ((List S_rmap_Pair)) :=
  (app 24 ([] : List S_rmap_Pair) (v_y209 :: v_ys210)).bind fun (v_a211 : (List S_rmap_Pair)) =>
  some v_a211
theorem G_slices_Clone_rmap_Pair_rmap_Pair_C_ok (n : Nat) (v_y209 : S_rmap_Pair) (v_ys210 : (List S_rmap_Pair)) (r : (List S_rmap_Pair)) (h : G_slices_Clone_rmap_Pair_rmap_Pair_C n v_y209 v_ys210 = some r) : RetH Try.prog 22 [.d (.sl (eS_rmap_Pair v_y209 :: v_ys210.map eS_rmap_Pair))] [] (.srf 0) [.row 24 3 (r.map eS_rmap_Pair)] := by
  refine retH_run (n := 8) (fn := Try.f22) (c := bodyOf Try.f22) (by kernel_rfl) (by kernel_rfl) (by kernel_rfl) (by kernel_rfl) ?_
  have hF : KC 8 (FinH Try.prog Try.f22 [] (.srf 0) [.row 24 3 (r.map eS_rmap_Pair)]) := FinH.kc' (by kernel_rfl)
  unfold G_slices_Clone_rmap_Pair_rmap_Pair_C at h
  obtain ⟨v_a211, h172, h⟩ := bind_some h
  obtain rfl := Option.some.inj h
  exact pendH_sound TTok mix 10 (hs := [.c, .w (([] : List S_rmap_Pair).map eS_rmap_Pair), .w (v_a211.map eS_rmap_Pair)]) [25] (by kernel_rfl) (by kernel_rfl) (by kernel_rfl) (.cons (Eq.refl (([] : List S_rmap_Pair).map eS_rmap_Pair)) (.cons (app_ob (f := eS_rmap_Pair) (s := 3) h172 (fun _ => rfl)).1 (.cons (app_ob (f := eS_rmap_Pair) (s := 3) h172 (fun _ => rfl)).2.1 (.cons (app_ob (f := eS_rmap_Pair) (s := 3) h172 (fun _ => rfl)).2.2.1 (.cons (app_ob (f := eS_rmap_Pair) (s := 3) h172 (fun _ => rfl)).2.2.2 .nil)))))
def G_slices_Clone_rmap_Pair_rmap_Pair (n : Nat) (xs : (List S_rmap_Pair)) : Option (List S_rmap_Pair) := app 24 [] xs
theorem G_slices_Clone_rmap_Pair_rmap_Pair_ok (n : Nat) (xs : (List S_rmap_Pair)) (r : (List S_rmap_Pair)) (h : G_slices_Clone_rmap_Pair_rmap_Pair n xs = some r) : RetH Try.prog 22 [.d (.sl (xs.map eS_rmap_Pair))] [] (.srf 0) [.row 24 3 (r.map eS_rmap_Pair)] := by
  unfold G_slices_Clone_rmap_Pair_rmap_Pair at h
  have e : app 24 ([] : (List S_rmap_Pair)) [] = some [] := by simp [app]
  cases xs with
  | nil =>
    rw [e] at h; obtain rfl := Option.some.inj h
    exact clone_nil (fun c => G_slices_Clone_rmap_Pair_rmap_Pair_A_ok n c _ (by unfold G_slices_Clone_rmap_Pair_rmap_Pair_A; rfl)) (fun a c => G_slices_Clone_rmap_Pair_rmap_Pair_B_ok n a c _ (by unfold G_slices_Clone_rmap_Pair_rmap_Pair_B; rw [e]; rfl))
  | cons y ys => exact G_slices_Clone_rmap_Pair_rmap_Pair_C_ok n y ys _ (by unfold G_slices_Clone_rmap_Pair_rmap_Pair_C; rw [h]; rfl)
/- slices.Insert[[]ringhall/rmap.Pair,ringhall/rmap.Pair] -/
def G_slices_Insert_rmap_Pair_rmap_Pair_hC (n : Nat) (v_C214 : Nat) (v_s213 : (List S_rmap_Pair)) (v_i215 : Int) (v_v216 : (List S_rmap_Pair)) : Option ((List S_rmap_Pair)) :=
  if (0 ≤ v_i215 ∧ v_i215 ≤ (v_s213.length : Int)) ∧ v_s213.length ≤ v_C214 then
   if (v_v216.length : Int) = 0 then
    some v_s213
   else
    if v_i215 = (v_s213.length : Int) then
     (app 24 v_s213 v_v216).bind fun (v_a218 : (List S_rmap_Pair)) =>
     some v_a218
    else
     if (wi .i64 ((v_s213.length : Int) + (v_v216.length : Int))) > (v_C214 : Int) then
      if (0 ≤ v_i215 ∧ v_i215 ≤ (v_s213.length : Int)) ∧ v_s213.length ≤ v_C214 then
       if (wi .i64 ((wi .i64 ((v_s213.length : Int) + (v_v216.length : Int))) - v_i215)) = (((v_s213.length + v_v216.length - v_i215.toNat) : Nat) : Int) ∧ v_i215.toNat ≤ v_s213.length ∧ 0 < (v_s213.length + v_v216.length - v_i215.toNat) ∧ v_C214 < v_i215.toNat + (v_s213.length + v_v216.length - v_i215.toNat) ∧ v_i215.toNat + (v_s213.length + v_v216.length - v_i215.toNat) ≤ maxLen ∧ (v_i215.toNat + (v_s213.length + v_v216.length - v_i215.toNat)) * 24 ≤ 140737488355328 then
        if ((0 : Int) ≤ v_i215 ∧ v_i215 ≤ ((v_s213.take v_i215.toNat ++ List.replicate (v_s213.length + v_v216.length - v_i215.toNat) (S_rmap_Pair.mk 0 0 0)).length : Int)) then
         if (v_s213.take v_i215.toNat ++ List.replicate (v_s213.length + v_v216.length - v_i215.toNat) (S_rmap_Pair.mk 0 0 0)).length ≤ (v_s213.take v_i215.toNat ++ List.replicate (v_s213.length + v_v216.length - v_i215.toNat) (S_rmap_Pair.mk 0 0 0)).length then
          if ((0 : Int) ≤ (wi .i64 (v_i215 + (v_v216.length : Int))) ∧ (wi .i64 (v_i215 + (v_v216.length : Int))) ≤ ((cpyR (v_s213.take v_i215.toNat ++ List.replicate (v_s213.length + v_v216.length - v_i215.toNat) (S_rmap_Pair.mk 0 0 0)) v_i215.toNat ((v_s213.take v_i215.toNat ++ List.replicate (v_s213.length + v_v216.length - v_i215.toNat) (S_rmap_Pair.mk 0 0 0)).length) v_v216).length : Int)) then
           if (0 ≤ v_i215 ∧ v_i215 ≤ (v_s213.length : Int)) ∧ v_s213.length ≤ v_C214 then
            if (cpyR (v_s213.take v_i215.toNat ++ List.replicate (v_s213.length + v_v216.length - v_i215.toNat) (S_rmap_Pair.mk 0 0 0)) v_i215.toNat ((v_s213.take v_i215.toNat ++ List.replicate (v_s213.length + v_v216.length - v_i215.toNat) (S_rmap_Pair.mk 0 0 0)).length) v_v216).length ≤ (cpyR (v_s213.take v_i215.toNat ++ List.replicate (v_s213.length + v_v216.length - v_i215.toNat) (S_rmap_Pair.mk 0 0 0)) v_i215.toNat ((v_s213.take v_i215.toNat ++ List.replicate (v_s213.length + v_v216.length - v_i215.toNat) (S_rmap_Pair.mk 0 0 0)).length) v_v216).length ∧ v_s213.length ≤ v_s213.length then
             some (cpyR (cpyR (v_s213.take v_i215.toNat ++ List.replicate (v_s213.length + v_v216.length - v_i215.toNat) (S_rmap_Pair.mk 0 0 0)) v_i215.toNat ((v_s213.take v_i215.toNat ++ List.replicate (v_s213.length + v_v216.length - v_i215.toNat) (S_rmap_Pair.mk 0 0 0)).length) v_v216) ((wi .i64 (v_i215 + (v_v216.length : Int))).toNat) ((cpyR (v_s213.take v_i215.toNat ++ List.replicate (v_s213.length + v_v216.length - v_i215.toNat) (S_rmap_Pair.mk 0 0 0)) v_i215.toNat ((v_s213.take v_i215.toNat ++ List.replicate (v_s213.length + v_v216.length - v_i215.toNat) (S_rmap_Pair.mk 0 0 0)).length) v_v216).length) ((v_s213.take v_s213.length).drop v_i215.toNat))
            else none
           else none
          else none
         else none
        else none
       else none
      else none
     else
      if 0 < v_v216.length ∧ (v_s213.length + v_v216.length) ≤ v_C214 ∧ (wi .i64 ((v_s213.length : Int) + (v_v216.length : Int))) = (((v_s213.length + v_v216.length) : Nat) : Int) then
       if (wi .i64 (v_i215 + (v_v216.length : Int))) = (((v_i215.toNat + v_v216.length) : Nat) : Int) ∧ (v_i215.toNat + v_v216.length) ≤ (v_s213.length + v_v216.length) then
        if (wi .i64 (v_i215 + (v_v216.length : Int))) = (((v_i215.toNat + v_v216.length) : Nat) : Int) ∧ (v_i215.toNat + v_v216.length) ≤ (v_s213.length + v_v216.length) then
         if 0 ≤ v_i215 ∧ v_i215 ≤ (((v_s213.length + v_v216.length) : Nat) : Int) then
          if 0 ≤ v_i215 ∧ v_i215 ≤ (((v_s213.length + v_v216.length) : Nat) : Int) then
           some ((v_s213.take v_i215.toNat) ++ v_v216 ++ (v_s213.drop v_i215.toNat))
          else none
         else none
        else none
       else none
      else none
  else none
theorem G_slices_Insert_rmap_Pair_rmap_Pair_hC_ok (n : Nat) (v_C214 : Nat) (v_s213 : (List S_rmap_Pair)) (v_i215 : Int) (v_v216 : (List S_rmap_Pair)) (r : (List S_rmap_Pair)) (h : G_slices_Insert_rmap_Pair_rmap_Pair_hC n v_C214 v_s213 v_i215 v_v216 = some r) : RetH Try.prog 21 [.srf 0, .d ((eI .i64) v_i215), .d ((eL eS_rmap_Pair) v_v216)] [.cu (rowC 24 3 v_C214 (v_s213.map eS_rmap_Pair)) []] (.srf 1) [.none, .row 24 3 (r.map eS_rmap_Pair)] := by
  refine retH_run (n := 95) (fn := Try.f21) (c := bodyOf Try.f21) (by kernel_rfl) (by kernel_rfl) (by kernel_rfl) (by kernel_rfl) ?_
  have hF : KC 95 (FinH Try.prog Try.f21 [.cu (rowC 24 3 v_C214 (v_s213.map eS_rmap_Pair)) []] (.srf 1) [.none, .row 24 3 (r.map eS_rmap_Pair)]) := FinH.kc' (by kernel_rfl)
  unfold G_slices_Insert_rmap_Pair_rmap_Pair_hC at h
  by_cases h174 : (0 ≤ v_i215 ∧ v_i215 ≤ (v_s213.length : Int)) ∧ v_s213.length ≤ v_C214
  · rw [if_pos h174] at h
    by_cases h175 : (v_v216.length : Int) = 0
    · rw [if_pos h175] at h
      obtain rfl := Option.some.inj h
      exact pendH_sound TTok mix 14 (hs := [.e 17 [0] (.ssl 0 v_i215.toNat v_s213.length 3) [], .u (.d (.v (.int .i64 (v_v216.length : Int)))), .t true, .e 47 [0, 47] (.srf 47) [(0, .none), (47, .row 24 3 (v_s213.map eS_rmap_Pair))]]) [0, 47] (by kernel_rfl) (by kernel_rfl) (by kernel_rfl) (.cons (ext_same (yc10 (P := Try.prog) (T := TT) (f := eS_rmap_Pair) (t := 22) (e := 24) (s := 3) (l := 0) (L := v_s213) (x := (.tmp 10)) (C := v_C214) (lo := (.tmp 11)) (A := v_i215) (ka := .i64) (by kernel_rfl) h174.1 h174.2)) (.cons (len_ob (f := eS_rmap_Pair) (l := v_v216)) (.cons (bt h175) (.cons (ymv (L := v_s213) (C := v_C214) (P := Try.prog) (T := TT) (f := eS_rmap_Pair) (e := 24) (s := 3) (l := 0) (nl := 47) (x := (.tmp 0)) (by decide)) .nil))))
    · rw [if_neg h175] at h
      by_cases h178 : v_i215 = (v_s213.length : Int)
      · rw [if_pos h178] at h
        obtain ⟨v_a218, h179, h⟩ := bind_some h
        obtain rfl := Option.some.inj h
        exact pendH_sound TTok mix 21 (hs := [.e 17 [0] (.ssl 0 v_i215.toNat v_s213.length 3) [], .u (.d (.v (.int .i64 (v_v216.length : Int)))), .t false, .e 52 [0] (.d (.v (.int .i64 (v_s213.length : Int)))) [], .t true, .e 87 [0, 87] (.srf 87) [(0, .none), (87, .row 24 3 (v_a218.map eS_rmap_Pair))]]) [0, 87] (by kernel_rfl) (by kernel_rfl) (by kernel_rfl) (.cons (ext_same (yc10 (P := Try.prog) (T := TT) (f := eS_rmap_Pair) (t := 22) (e := 24) (s := 3) (l := 0) (L := v_s213) (x := (.tmp 10)) (C := v_C214) (lo := (.tmp 11)) (A := v_i215) (ka := .i64) (by kernel_rfl) h174.1 h174.2)) (.cons (len_ob (f := eS_rmap_Pair) (l := v_v216)) (.cons (bf h175) (.cons (ylen (P := Try.prog) (T := TT) (f := eS_rmap_Pair) (t := 22) (e := 24) (s := 3) (l := 0) (L := v_s213) (C := v_C214) (x := (.tmp 18)) (by kernel_rfl)) (.cons (bt h178) (.cons (yapp (P := Try.prog) (T := TT) (f := eS_rmap_Pair) (t := 22) (e := 24) (s := 3) (l := 0) (nl := 87) (C := v_C214) (x := (.tmp 23)) (y := (.tmp 24)) (ti := ⟨3, 24, .st [(0, 3), (1, 3), (2, 3)], [.i .i64, .i .i64, .i .i64]⟩) (by kernel_rfl) h179 (by kernel_rfl) (by kernel_rfl) (by decide) (fun _ => rfl) (by decide)) .nil))))))
      · rw [if_neg h178] at h
        by_cases h188 : (wi .i64 ((v_s213.length : Int) + (v_v216.length : Int))) > (v_C214 : Int)
        · rw [if_pos h188] at h
          by_cases h189 : (0 ≤ v_i215 ∧ v_i215 ≤ (v_s213.length : Int)) ∧ v_s213.length ≤ v_C214
          · rw [if_pos h189] at h
            by_cases h190 : (wi .i64 ((wi .i64 ((v_s213.length : Int) + (v_v216.length : Int))) - v_i215)) = (((v_s213.length + v_v216.length - v_i215.toNat) : Nat) : Int) ∧ v_i215.toNat ≤ v_s213.length ∧ 0 < (v_s213.length + v_v216.length - v_i215.toNat) ∧ v_C214 < v_i215.toNat + (v_s213.length + v_v216.length - v_i215.toNat) ∧ v_i215.toNat + (v_s213.length + v_v216.length - v_i215.toNat) ≤ maxLen ∧ (v_i215.toNat + (v_s213.length + v_v216.length - v_i215.toNat)) * 24 ≤ 140737488355328
            · rw [if_pos h190] at h
              by_cases h191 : ((0 : Int) ≤ v_i215 ∧ v_i215 ≤ ((v_s213.take v_i215.toNat ++ List.replicate (v_s213.length + v_v216.length - v_i215.toNat) (S_rmap_Pair.mk 0 0 0)).length : Int))
              · rw [if_pos h191] at h
                by_cases h192 : (v_s213.take v_i215.toNat ++ List.replicate (v_s213.length + v_v216.length - v_i215.toNat) (S_rmap_Pair.mk 0 0 0)).length ≤ (v_s213.take v_i215.toNat ++ List.replicate (v_s213.length + v_v216.length - v_i215.toNat) (S_rmap_Pair.mk 0 0 0)).length
                · rw [if_pos h192] at h
                  by_cases h193 : ((0 : Int) ≤ (wi .i64 (v_i215 + (v_v216.length : Int))) ∧ (wi .i64 (v_i215 + (v_v216.length : Int))) ≤ ((cpyR (v_s213.take v_i215.toNat ++ List.replicate (v_s213.length + v_v216.length - v_i215.toNat) (S_rmap_Pair.mk 0 0 0)) v_i215.toNat ((v_s213.take v_i215.toNat ++ List.replicate (v_s213.length + v_v216.length - v_i215.toNat) (S_rmap_Pair.mk 0 0 0)).length) v_v216).length : Int))
                  · rw [if_pos h193] at h
                    by_cases h194 : (0 ≤ v_i215 ∧ v_i215 ≤ (v_s213.length : Int)) ∧ v_s213.length ≤ v_C214
                    · rw [if_pos h194] at h
                      by_cases h195 : (cpyR (v_s213.take v_i215.toNat ++ List.replicate (v_s213.length + v_v216.length - v_i215.toNat) (S_rmap_Pair.mk 0 0 0)) v_i215.toNat ((v_s213.take v_i215.toNat ++ List.replicate (v_s213.length + v_v216.length - v_i215.toNat) (S_rmap_Pair.mk 0 0 0)).length) v_v216).length ≤ (cpyR (v_s213.take v_i215.toNat ++ List.replicate (v_s213.length + v_v216.length - v_i215.toNat) (S_rmap_Pair.mk 0 0 0)) v_i215.toNat ((v_s213.take v_i215.toNat ++ List.replicate (v_s213.length + v_v216.length - v_i215.toNat) (S_rmap_Pair.mk 0 0 0)).length) v_v216).length ∧ v_s213.length ≤ v_s213.length
                      · rw [if_pos h195] at h
                        obtain rfl := Option.some.inj h
                        exact pendH_sound TTok mix 32 (hs := [.e 17 [0] (.ssl 0 v_i215.toNat v_s213.length 3) [], .u (.d (.v (.int .i64 (v_v216.length : Int)))), .t false, .e 52 [0] (.d (.v (.int .i64 (v_s213.length : Int)))) [], .t false, .e 97 [0] (.d (.v (.int .i64 (v_C214 : Int)))) [], .t true, .e 117 [0] (.ssl 0 0 v_i215.toNat 3) [], .e 147 [0, 147] (.srf 147) [(147, .row 24 3 ((v_s213.take v_i215.toNat ++ List.replicate (v_s213.length + v_v216.length - v_i215.toNat) (S_rmap_Pair.mk 0 0 0)).map eS_rmap_Pair))], .e 167 [147] (.ssl 147 v_i215.toNat ((v_s213.take v_i215.toNat ++ List.replicate (v_s213.length + v_v216.length - v_i215.toNat) (S_rmap_Pair.mk 0 0 0)).length) 3) [], .e 177 [147] (.d (.v (.int .i64 ((Nat.min v_v216.length ((v_s213.take v_i215.toNat ++ List.replicate (v_s213.length + v_v216.length - v_i215.toNat) (S_rmap_Pair.mk 0 0 0)).length - v_i215.toNat) : Nat) : Int)))) [(147, .row 24 3 ((cpyR (v_s213.take v_i215.toNat ++ List.replicate (v_s213.length + v_v216.length - v_i215.toNat) (S_rmap_Pair.mk 0 0 0)) v_i215.toNat ((v_s213.take v_i215.toNat ++ List.replicate (v_s213.length + v_v216.length - v_i215.toNat) (S_rmap_Pair.mk 0 0 0)).length) v_v216).map eS_rmap_Pair))], .e 202 [147] (.ssl 147 ((wi .i64 (v_i215 + (v_v216.length : Int))).toNat) ((cpyR (v_s213.take v_i215.toNat ++ List.replicate (v_s213.length + v_v216.length - v_i215.toNat) (S_rmap_Pair.mk 0 0 0)) v_i215.toNat ((v_s213.take v_i215.toNat ++ List.replicate (v_s213.length + v_v216.length - v_i215.toNat) (S_rmap_Pair.mk 0 0 0)).length) v_v216).length) 3) [], .e 217 [0] (.ssl 0 v_i215.toNat v_s213.length 3) [], .e 222 [147, 0] (.d (.v (.int .i64 ((Nat.min ((v_s213.take v_s213.length).drop v_i215.toNat).length ((cpyR (v_s213.take v_i215.toNat ++ List.replicate (v_s213.length + v_v216.length - v_i215.toNat) (S_rmap_Pair.mk 0 0 0)) v_i215.toNat ((v_s213.take v_i215.toNat ++ List.replicate (v_s213.length + v_v216.length - v_i215.toNat) (S_rmap_Pair.mk 0 0 0)).length) v_v216).length - (wi .i64 (v_i215 + (v_v216.length : Int))).toNat) : Nat) : Int)))) [(147, .row 24 3 ((cpyR (cpyR (v_s213.take v_i215.toNat ++ List.replicate (v_s213.length + v_v216.length - v_i215.toNat) (S_rmap_Pair.mk 0 0 0)) v_i215.toNat ((v_s213.take v_i215.toNat ++ List.replicate (v_s213.length + v_v216.length - v_i215.toNat) (S_rmap_Pair.mk 0 0 0)).length) v_v216) ((wi .i64 (v_i215 + (v_v216.length : Int))).toNat) ((cpyR (v_s213.take v_i215.toNat ++ List.replicate (v_s213.length + v_v216.length - v_i215.toNat) (S_rmap_Pair.mk 0 0 0)) v_i215.toNat ((v_s213.take v_i215.toNat ++ List.replicate (v_s213.length + v_v216.length - v_i215.toNat) (S_rmap_Pair.mk 0 0 0)).length) v_v216).length) ((v_s213.take v_s213.length).drop v_i215.toNat)).map eS_rmap_Pair)), (0, .none)]]) [0, 147] (by kernel_rfl) (by kernel_rfl) (by kernel_rfl) (.cons (ext_same (yc10 (P := Try.prog) (T := TT) (f := eS_rmap_Pair) (t := 22) (e := 24) (s := 3) (l := 0) (L := v_s213) (x := (.tmp 10)) (C := v_C214) (lo := (.tmp 11)) (A := v_i215) (ka := .i64) (by kernel_rfl) h174.1 h174.2)) (.cons (len_ob (f := eS_rmap_Pair) (l := v_v216)) (.cons (bf h175) (.cons (ylen (P := Try.prog) (T := TT) (f := eS_rmap_Pair) (t := 22) (e := 24) (s := 3) (l := 0) (L := v_s213) (C := v_C214) (x := (.tmp 18)) (by kernel_rfl)) (.cons (bf h178) (.cons (ycap (P := Try.prog) (T := TT) (f := eS_rmap_Pair) (t := 22) (e := 24) (s := 3) (l := 0) (L := v_s213) (C := v_C214) (x := (.tmp 29)) (by kernel_rfl)) (.cons (dt h188) (.cons (ext_same (yc01 (P := Try.prog) (T := TT) (f := eS_rmap_Pair) (t := 22) (e := 24) (s := 3) (l := 0) (L := v_s213) (x := (.tmp 32)) (C := v_C214) (hi := (.tmp 33)) (B := v_i215) (kb := .i64) (by kernel_rfl) h189.1 h189.2)) (.cons (yapZ (P := Try.prog) (T := TT) (f := eS_rmap_Pair) (t := 22) (e := 24) (s := 3) (l := 0) (nl := 147) (C := v_C214) (i := v_i215.toNat) (k := (v_s213.length + v_v216.length - v_i215.toNat)) (L := v_s213) (x := (.tmp 34)) (y := (.tmp 39)) (ti := ⟨3, 24, .st [(0, 3), (1, 3), (2, 3)], [.i .i64, .i .i64, .i .i64]⟩) (tn := 3) (kn := .i64) (kq := .i64) (z := (S_rmap_Pair.mk 0 0 0)) (p := .agg [.v (.int .i64 0), .v (.int .i64 0), .v (.int .i64 0)]) (B := (wi .i64 ((wi .i64 ((v_s213.length : Int) + (v_v216.length : Int))) - v_i215))) (by kernel_rfl) (by kernel_rfl) (by kernel_rfl) (by kernel_rfl) (by kernel_rfl) (by decide) rfl h190.1 h190.2.1 h190.2.2.1 h190.2.2.2.1 h190.2.2.2.2.1 h190.2.2.2.2.2 (by decide)) (.cons (xs10 (P := Try.prog) (T := TT) (f := eS_rmap_Pair) (t := 22) (e := 24) (s := 3) (l := 147) (L := (v_s213.take v_i215.toNat ++ List.replicate (v_s213.length + v_v216.length - v_i215.toNat) (S_rmap_Pair.mk 0 0 0))) (x := (.tmp 41)) (lo := (.tmp 42)) (a := v_i215) (ka := .i64) (by kernel_rfl) h191) (.cons (xcpD (P := Try.prog) (T := TT) (f := eS_rmap_Pair) (t := 22) (t' := 22) (e := 24) (s := 3) (l := 147) (x := (.tmp 43)) (y := (.tmp 44)) (ti := ⟨3, 24, .st [(0, 3), (1, 3), (2, 3)], [.i .i64, .i .i64, .i .i64]⟩) (L := (v_s213.take v_i215.toNat ++ List.replicate (v_s213.length + v_v216.length - v_i215.toNat) (S_rmap_Pair.mk 0 0 0))) (Y := v_v216) (i := v_i215.toNat) (j := (v_s213.take v_i215.toNat ++ List.replicate (v_s213.length + v_v216.length - v_i215.toNat) (S_rmap_Pair.mk 0 0 0)).length) (by kernel_rfl) (by kernel_rfl) h192 (fun _ => rfl)) (.cons (xs10 (P := Try.prog) (T := TT) (f := eS_rmap_Pair) (t := 22) (e := 24) (s := 3) (l := 147) (L := (cpyR (v_s213.take v_i215.toNat ++ List.replicate (v_s213.length + v_v216.length - v_i215.toNat) (S_rmap_Pair.mk 0 0 0)) v_i215.toNat ((v_s213.take v_i215.toNat ++ List.replicate (v_s213.length + v_v216.length - v_i215.toNat) (S_rmap_Pair.mk 0 0 0)).length) v_v216)) (x := (.tmp 46)) (lo := (.tmp 49)) (a := (wi .i64 (v_i215 + (v_v216.length : Int)))) (ka := .i64) (by kernel_rfl) h193) (.cons (ext_same (yc10 (P := Try.prog) (T := TT) (f := eS_rmap_Pair) (t := 22) (e := 24) (s := 3) (l := 0) (L := v_s213) (x := (.tmp 51)) (C := v_C214) (lo := (.tmp 52)) (A := v_i215) (ka := .i64) (by kernel_rfl) h194.1 h194.2)) (.cons (ext_kill (l := 0) (ycpC (P := Try.prog) (T := TT) (f := eS_rmap_Pair) (t := 22) (t' := 22) (e := 24) (s := 3) (l := 147) (x := (.tmp 50)) (y := (.tmp 53)) (ti := ⟨3, 24, .st [(0, 3), (1, 3), (2, 3)], [.i .i64, .i .i64, .i .i64]⟩) (L := (cpyR (v_s213.take v_i215.toNat ++ List.replicate (v_s213.length + v_v216.length - v_i215.toNat) (S_rmap_Pair.mk 0 0 0)) v_i215.toNat ((v_s213.take v_i215.toNat ++ List.replicate (v_s213.length + v_v216.length - v_i215.toNat) (S_rmap_Pair.mk 0 0 0)).length) v_v216)) (i := (wi .i64 (v_i215 + (v_v216.length : Int))).toNat) (j := (cpyR (v_s213.take v_i215.toNat ++ List.replicate (v_s213.length + v_v216.length - v_i215.toNat) (S_rmap_Pair.mk 0 0 0)) v_i215.toNat ((v_s213.take v_i215.toNat ++ List.replicate (v_s213.length + v_v216.length - v_i215.toNat) (S_rmap_Pair.mk 0 0 0)).length) v_v216).length) (p := v_i215.toNat) (q := v_s213.length) (Y := v_s213) (l' := 0) (C := v_C214) (by kernel_rfl) (by kernel_rfl) h195.1 h195.2)) .nil))))))))))))))
                      · rw [if_neg h195] at h; cases h
                    · rw [if_neg h194] at h; cases h
                  · rw [if_neg h193] at h; cases h
                · rw [if_neg h192] at h; cases h
              · rw [if_neg h191] at h; cases h
            · rw [if_neg h190] at h; cases h
          · rw [if_neg h189] at h; cases h
        · rw [if_neg h188] at h
          by_cases h196 : 0 < v_v216.length ∧ (v_s213.length + v_v216.length) ≤ v_C214 ∧ (wi .i64 ((v_s213.length : Int) + (v_v216.length : Int))) = (((v_s213.length + v_v216.length) : Nat) : Int)
          · rw [if_pos h196] at h
            by_cases h197 : (wi .i64 (v_i215 + (v_v216.length : Int))) = (((v_i215.toNat + v_v216.length) : Nat) : Int) ∧ (v_i215.toNat + v_v216.length) ≤ (v_s213.length + v_v216.length)
            · rw [if_pos h197] at h
              by_cases h201 : (wi .i64 (v_i215 + (v_v216.length : Int))) = (((v_i215.toNat + v_v216.length) : Nat) : Int) ∧ (v_i215.toNat + v_v216.length) ≤ (v_s213.length + v_v216.length)
              · rw [if_pos h201] at h
                by_cases h202 : 0 ≤ v_i215 ∧ v_i215 ≤ (((v_s213.length + v_v216.length) : Nat) : Int)
                · rw [if_pos h202] at h
                  by_cases h203 : 0 ≤ v_i215 ∧ v_i215 ≤ (((v_s213.length + v_v216.length) : Nat) : Int)
                  · rw [if_pos h203] at h
                    obtain rfl := Option.some.inj h
                    exact pendH_sound TTok mix 37 (hs := [.e 17 [0] (.ssl 0 v_i215.toNat v_s213.length 3) [], .u (.d (.v (.int .i64 (v_v216.length : Int)))), .t false, .e 52 [0] (.d (.v (.int .i64 (v_s213.length : Int)))) [], .t false, .e 97 [0] (.d (.v (.int .i64 (v_C214 : Int)))) [], .t false, .e 127 [0] (.ssl 0 0 (v_s213.length + v_v216.length) 3) [(0, .cu (rowH 24 3 v_C214 (v_s213.map eS_rmap_Pair) v_v216.length (([] : List S_rmap_Pair).map eS_rmap_Pair)) [])], .e 162 [0] (.ssl 0 (v_i215.toNat + v_v216.length) (v_s213.length + v_v216.length) 3) [], .e 167 [0] (.d (.v (.bool false))) [], .c, .e 197 [0] (.ssl 0 (v_i215.toNat + v_v216.length) (v_s213.length + v_v216.length) 3) [], .e 212 [0] (.ssl 0 v_i215.toNat (v_s213.length + v_v216.length) 3) [], .e 217 [0] (.d (.v (.int .i64 ((v_s213.length - v_i215.toNat : Nat) : Int)))) [(0, .cu (rowH 24 3 v_C214 ((v_s213.take v_i215.toNat).map eS_rmap_Pair) v_v216.length ((v_s213.drop v_i215.toNat).map eS_rmap_Pair)) [])], .e 232 [0] (.ssl 0 v_i215.toNat (v_s213.length + v_v216.length) 3) [], .e 242 [0] (.d (.v (.int .i64 (v_v216.length : Int)))) [(0, .cu (rowH 24 3 v_C214 (((v_s213.take v_i215.toNat) ++ v_v216 ++ (v_s213.drop v_i215.toNat)).map eS_rmap_Pair) 0 (([] : List S_rmap_Pair).map eS_rmap_Pair)) [])], .e 247 [0, 247] (.srf 247) [(0, .none), (247, .row 24 3 (((v_s213.take v_i215.toNat) ++ v_v216 ++ (v_s213.drop v_i215.toNat)).map eS_rmap_Pair))]]) [0, 247] (by kernel_rfl) (by kernel_rfl) (by kernel_rfl) (.cons (ext_same (yc10 (P := Try.prog) (T := TT) (f := eS_rmap_Pair) (t := 22) (e := 24) (s := 3) (l := 0) (L := v_s213) (x := (.tmp 10)) (C := v_C214) (lo := (.tmp 11)) (A := v_i215) (ka := .i64) (by kernel_rfl) h174.1 h174.2)) (.cons (len_ob (f := eS_rmap_Pair) (l := v_v216)) (.cons (bf h175) (.cons (ylen (P := Try.prog) (T := TT) (f := eS_rmap_Pair) (t := 22) (e := 24) (s := 3) (l := 0) (L := v_s213) (C := v_C214) (x := (.tmp 18)) (by kernel_rfl)) (.cons (bf h178) (.cons (ycap (P := Try.prog) (T := TT) (f := eS_rmap_Pair) (t := 22) (e := 24) (s := 3) (l := 0) (L := v_s213) (C := v_C214) (x := (.tmp 29)) (by kernel_rfl)) (.cons (df h188) (.cons (ycup (P := Try.prog) (T := TT) (f := eS_rmap_Pair) (t := 22) (e := 24) (s := 3) (l := 0) (L := v_s213) (x := (.tmp 56)) (C := v_C214) (m := v_v216.length) (hi := (.tmp 59)) (B := (wi .i64 ((v_s213.length : Int) + (v_v216.length : Int)))) (kb := .i64) (by kernel_rfl) h196.1 h196.2.1 h196.2.2) (.cons (ext_same (yh10q (P := Try.prog) (T := TT) (f := eS_rmap_Pair) (t := 22) (e := 24) (s := 3) (l := 0) (L := v_s213) (x := (.tmp 62)) (C := v_C214) (m := v_v216.length) (k := (v_s213.length + v_v216.length)) (Z := ([] : List S_rmap_Pair)) (q := (v_i215.toNat + v_v216.length)) (lo := (.tmp 65)) (A := (wi .i64 (v_i215 + (v_v216.length : Int)))) (ka := .i64) (by kernel_rfl) (by simp only [List.length_take, List.length_drop, List.length_nil]; omega) h197.1 h197.2)) (.cons (yov (P := Try.prog) (T := TT) (f := eS_rmap_Pair) (t := 22) (e := 24) (s := 3) (l := 0) (L := v_s213) (Y := v_v216) (Z := ([] : List S_rmap_Pair)) (m := v_v216.length) (C := v_C214) (i := (v_i215.toNat + v_v216.length)) (j := (v_s213.length + v_v216.length)) (x := (.tmp 61)) (y := (.tmp 66)) (g := 33) (fn := Try.f33) (tR := 4) (tys := #[22, 22]) (by kernel_rfl) (by kernel_rfl) (by kernel_rfl) (by kernel_rfl) (by kernel_rfl) (by kernel_rfl) (by decide) (fun _ => rfl)) (.cons (ext_same (yh10q (P := Try.prog) (T := TT) (f := eS_rmap_Pair) (t := 22) (e := 24) (s := 3) (l := 0) (L := v_s213) (x := (.tmp 69)) (C := v_C214) (m := v_v216.length) (k := (v_s213.length + v_v216.length)) (Z := ([] : List S_rmap_Pair)) (q := (v_i215.toNat + v_v216.length)) (lo := (.tmp 72)) (A := (wi .i64 (v_i215 + (v_v216.length : Int)))) (ka := .i64) (by kernel_rfl) (by simp only [List.length_take, List.length_drop, List.length_nil]; omega) h201.1 h201.2)) (.cons (ext_same (yh10 (P := Try.prog) (T := TT) (f := eS_rmap_Pair) (t := 22) (e := 24) (s := 3) (l := 0) (L := v_s213) (x := (.tmp 74)) (C := v_C214) (m := v_v216.length) (k := (v_s213.length + v_v216.length)) (Y := ([] : List S_rmap_Pair)) (lo := (.tmp 75)) (A := v_i215) (ka := .i64) (by kernel_rfl) (by simp only [List.length_take, List.length_drop, List.length_nil]; omega) h202)) (.cons (ycpS (P := Try.prog) (T := TT) (f := eS_rmap_Pair) (t := 22) (t' := 22) (e := 24) (s := 3) (l := 0) (x := (.tmp 73)) (y := (.tmp 76)) (ti := ⟨3, 24, .st [(0, 3), (1, 3), (2, 3)], [.i .i64, .i .i64, .i .i64]⟩) (L := v_s213) (i := v_i215.toNat) (m := v_v216.length) (C := v_C214) (by kernel_rfl) (by kernel_rfl) (by omega)) (.cons (ext_same (yh10 (P := Try.prog) (T := TT) (f := eS_rmap_Pair) (t := 22) (e := 24) (s := 3) (l := 0) (L := (v_s213.take v_i215.toNat)) (x := (.tmp 78)) (C := v_C214) (m := v_v216.length) (k := (v_s213.length + v_v216.length)) (Y := (v_s213.drop v_i215.toNat)) (lo := (.tmp 79)) (A := v_i215) (ka := .i64) (by kernel_rfl) (by simp only [List.length_take, List.length_drop, List.length_nil]; omega) h203)) (.cons (ycpD (P := Try.prog) (T := TT) (f := eS_rmap_Pair) (t := 22) (t' := 22) (e := 24) (s := 3) (l := 0) (x := (.tmp 80)) (y := (.tmp 81)) (ti := ⟨3, 24, .st [(0, 3), (1, 3), (2, 3)], [.i .i64, .i .i64, .i .i64]⟩) (L := (v_s213.take v_i215.toNat)) (Y := v_v216) (Z := (v_s213.drop v_i215.toNat)) (i := v_i215.toNat) (k := (v_s213.length + v_v216.length)) (m := v_v216.length) (C := v_C214) (by kernel_rfl) (by kernel_rfl) (by simp only [List.length_take, List.length_drop, List.length_nil]; omega) (by simp only [List.length_take, List.length_drop, List.length_nil]; omega) rfl (by omega) (fun _ => rfl)) (.cons (ymvH (L := ((v_s213.take v_i215.toNat) ++ v_v216 ++ (v_s213.drop v_i215.toNat))) (C := v_C214) (k := (v_s213.length + v_v216.length)) (P := Try.prog) (T := TT) (f := eS_rmap_Pair) (e := 24) (s := 3) (l := 0) (nl := 247) (x := (.tmp 0)) (by simp only [List.length_append, List.length_take, List.length_drop]; omega)) .nil))))))))))))))))
                  · rw [if_neg h203] at h; cases h
                · rw [if_neg h202] at h; cases h
              · rw [if_neg h201] at h; cases h
            · rw [if_neg h197] at h; cases h
          · rw [if_neg h196] at h; cases h
  · rw [if_neg h174] at h; cases h
def G_slices_Insert_rmap_Pair_rmap_Pair_h (n : Nat) (s : (List S_rmap_Pair)) (i : Int) (v : (List S_rmap_Pair)) : Option (List S_rmap_Pair) := insI 24 s i v
theorem G_slices_Insert_rmap_Pair_rmap_Pair_h_all (C n : Nat) (s : (List S_rmap_Pair)) (i : Int) (v r : (List S_rmap_Pair)) (h1 : s.length ≤ C) (h2 : C ≤ maxLen) (h : G_slices_Insert_rmap_Pair_rmap_Pair_h n s i v = some r) : G_slices_Insert_rmap_Pair_rmap_Pair_hC n C s i v = some r := by
  unfold G_slices_Insert_rmap_Pair_rmap_Pair_h insI at h
  split at h
  · rename_i c
    obtain ⟨c1, c2, c3, c4⟩ := c
    obtain rfl := Option.some.inj h
    obtain ⟨i, rfl⟩ := Int.eq_ofNat_of_zero_le c1
    simp only [Int.toNat_natCast]
    have hi : i ≤ s.length := by omega
    have w1 : wi .i64 ((s.length : Int) + (v.length : Int)) = ((s.length + v.length : Nat) : Int) := by rw [wi, IntKind.wrap_i64]; omega
    have w2 : wi .i64 ((i : Int) + (v.length : Int)) = ((i + v.length : Nat) : Int) := by rw [wi, IntKind.wrap_i64]; omega
    have w3 : wi .i64 (((s.length + v.length : Nat) : Int) - (i : Int)) = ((s.length + v.length - i : Nat) : Int) := by rw [wi, IntKind.wrap_i64]; omega
    unfold G_slices_Insert_rmap_Pair_rmap_Pair_hC
    rw [if_pos ⟨⟨by omega, by omega⟩, h1⟩]
    by_cases hm : (v.length : Int) = 0
    · rw [if_pos hm]
      have : v = [] := List.eq_nil_of_length_eq_zero (by omega)
      subst this; simp
    · rw [if_neg hm]
      by_cases he : (i : Int) = (s.length : Int)
      · rw [if_pos he]
        have e : i = s.length := by omega
        subst e
        unfold app
        rw [if_pos ⟨by unfold maxLen; omega, c4⟩]
        simp
      · rw [if_neg he, w1]
        by_cases hg : ((s.length + v.length : Nat) : Int) > (C : Int)
        · rw [if_pos hg, w3]
          simp only [Int.toNat_natCast]
          have hl : (s.take i ++ List.replicate (s.length + v.length - i) (S_rmap_Pair.mk 0 0 0)).length = s.length + v.length := by simp; omega
          rw [if_pos ⟨⟨by omega, by omega⟩, h1⟩, if_pos ⟨trivial, hi, by omega, by omega, by unfold maxLen; omega, by rw [show i + (s.length + v.length - i) = s.length + v.length by omega]; exact c4⟩, w2]
          simp only [Int.toNat_natCast]
          rw [if_pos ⟨by omega, by rw [hl]; omega⟩, if_pos (Nat.le_refl _)]
          have hl2 : (cpyR (s.take i ++ List.replicate (s.length + v.length - i) (S_rmap_Pair.mk 0 0 0)) i (s.take i ++ List.replicate (s.length + v.length - i) (S_rmap_Pair.mk 0 0 0)).length v).length = s.length + v.length := by
            unfold cpyR
            rw [hl]
            rcases Nat.le_total v.length (s.length + v.length - i) with h' | h'
            · rw [show Nat.min v.length (s.length + v.length - i) = v.length from Nat.min_eq_left h']; simp; omega
            · rw [show Nat.min v.length (s.length + v.length - i) = s.length + v.length - i from Nat.min_eq_right h']; simp; omega
          rw [if_pos ⟨by omega, by rw [hl2]; omega⟩, if_pos ⟨⟨by omega, by omega⟩, h1⟩, if_pos ⟨Nat.le_refl _, Nat.le_refl _⟩]
          rw [ins_grow hi rfl]
        · rw [if_neg hg, w2]
          simp only [Int.toNat_natCast]
          rw [if_pos ⟨by omega, by omega, trivial⟩, if_pos ⟨trivial, by omega⟩, if_pos ⟨trivial, by omega⟩, if_pos ⟨by omega, by omega⟩, if_pos ⟨by omega, by omega⟩]
  · cases h
theorem G_slices_Insert_rmap_Pair_rmap_Pair_h_ok (n : Nat) (s : (List S_rmap_Pair)) (i : Int) (v r : (List S_rmap_Pair)) (h : G_slices_Insert_rmap_Pair_rmap_Pair_h n s i v = some r) : RetH Try.prog 21 [.srf 0, .d (.v (.int .i64 i)), .d ((eL eS_rmap_Pair) v)] [.row 24 3 (s.map eS_rmap_Pair)] (.srf 1) [.none, .row 24 3 (r.map eS_rmap_Pair)] :=
  retH_cap ⟨Try.f21, by kernel_rfl, by kernel_rfl, by kernel_rfl⟩ (fun C h1 h2 => G_slices_Insert_rmap_Pair_rmap_Pair_hC_ok n C s i v r (G_slices_Insert_rmap_Pair_rmap_Pair_h_all C n s i v r (by simpa using h1) h2 h))
/- ringhall/rmap.Put -/
def G_rmap_Put (n : Nat) (v_l6 : (List S_rmap_Pair)) (v_p7 : S_rmap_Pair) : Option ((List S_rmap_Pair) × Int) :=
  (G_rmap_check n v_l6 v_p7).bind fun (v_r133 : (Int)) =>
  if v_r133 = 0 then
   (G_rmap_find n v_l6 v_p7.fSpace v_p7.fPage).bind fun (v_r167 : (Int)) =>
   if v_r167 ≥ 0 then
    some (([] : (List S_rmap_Pair)), 5)
   else
    (G_slices_BinarySearchFunc_rmap_Pair_rmap_Pair_rmap_Pair n v_l6 v_p7 (fun (y0 : S_rmap_Pair) (y1 : S_rmap_Pair) => G_rmap_order n y0 y1)).bind fun (v_r204 : (Int × Bool)) =>
    (G_slices_Clone_rmap_Pair_rmap_Pair n v_l6).bind fun (v_r212 : ((List S_rmap_Pair))) =>
    (G_slices_Insert_rmap_Pair_rmap_Pair_h n v_r212 v_r204.1 ([v_p7])).bind fun (v_r219 : ((List S_rmap_Pair))) =>
    some (v_r219, 0)
  else
   some (([] : (List S_rmap_Pair)), v_r133)
theorem G_rmap_Put_ok (n : Nat) (v_l6 : (List S_rmap_Pair)) (v_p7 : S_rmap_Pair) (r : (List S_rmap_Pair) × Int) (h : G_rmap_Put n v_l6 v_p7 = some r) : Ret Try.prog 4 [(eL eS_rmap_Pair) v_l6, eS_rmap_Pair v_p7] (.tup [(eL eS_rmap_Pair) r.1, (eI .i64) r.2]) := by
  refine ret_run (n := 34) (fn := Try.f4) (c := bodyOf Try.f4) (by kernel_rfl) (by kernel_rfl) (by kernel_rfl) (by kernel_rfl) ?_
  have hF : KC 34 (FinR Try.prog Try.f4 (.tup [(eL eS_rmap_Pair) r.1, (eI .i64) r.2])) := FinR.kc' (by kernel_rfl)
  unfold G_rmap_Put at h
  obtain ⟨v_r133, h136, h⟩ := bind_some h
  by_cases h138 : v_r133 = 0
  · rw [if_pos h138] at h
    obtain ⟨v_r167, h150, h⟩ := bind_some h
    by_cases h151 : v_r167 ≥ 0
    · rw [if_pos h151] at h
      obtain rfl := Option.some.inj h
      exact pend_sound TTok mix 17 (hs := [.c, .r ((eI .i64) v_r133), .t false, .c, .c, .r ((eI .i64) v_r167), .t true]) (by kernel_rfl) (by kernel_rfl) (by kernel_rfl) (.cons (G_rmap_check_ok n v_l6 v_p7 _ h136) (.cons (nf h138) (.cons (G_rmap_find_ok n v_l6 v_p7.fSpace v_p7.fPage _ h150) (.cons (dt h151) .nil))))
    · rw [if_neg h151] at h
      obtain ⟨v_r204, h170, h⟩ := bind_some h
      obtain ⟨v_r212, h173, h⟩ := bind_some h
      obtain ⟨v_r219, h204, h⟩ := bind_some h
      obtain rfl := Option.some.inj h
      exact pend_sound TTok mix 19 (hs := [.c, .r ((eI .i64) v_r133), .t false, .c, .c, .r ((eI .i64) v_r167), .t false, .c, .r (.tup [(eI .i64) v_r204.1, eB v_r204.2]), .h [] [] [.row 24 3 (v_r212.map eS_rmap_Pair)] (.srf 0), .c, .bd, .h [125] [] [.none, .row 24 3 (v_r219.map eS_rmap_Pair)] (.srf 1)]) (by kernel_rfl) (by kernel_rfl) (by kernel_rfl) (.cons (G_rmap_check_ok n v_l6 v_p7 _ h136) (.cons (nf h138) (.cons (G_rmap_find_ok n v_l6 v_p7.fSpace v_p7.fPage _ h150) (.cons (df h151) (.cons (G_slices_BinarySearchFunc_rmap_Pair_rmap_Pair_rmap_Pair_ok n v_l6 v_p7 (fun (y0 : S_rmap_Pair) (y1 : S_rmap_Pair) => G_rmap_order n y0 y1) 20 [] (fun y0 y1 r h => G_rmap_order_ok n y0 y1 r h) _ h170) (.cons (G_slices_Clone_rmap_Pair_rmap_Pair_ok n v_l6 _ h173) (.cons (G_slices_Insert_rmap_Pair_rmap_Pair_h_ok n v_r212 v_r204.1 ([v_p7]) _ h204) .nil)))))))
  · rw [if_neg h138] at h
    obtain rfl := Option.some.inj h
    exact pend_sound TTok mix 12 (hs := [.c, .r ((eI .i64) v_r133), .t true]) (by kernel_rfl) (by kernel_rfl) (by kernel_rfl) (.cons (G_rmap_check_ok n v_l6 v_p7 _ h136) (.cons (nt h138) .nil))
/- slices.Delete[[]ringhall/rmap.Pair,ringhall/rmap.Pair] -/
def G_slices_Delete_rmap_Pair_rmap_Pair_h (n : Nat) (v_s251 : (List S_rmap_Pair)) (v_i252 : Int) (v_j253 : Int) : Option ((List S_rmap_Pair)) :=
  if ((0 : Int) ≤ v_i252 ∧ v_i252 ≤ v_j253 ∧ v_j253 ≤ (v_s251.length : Int) ∧ (v_s251.length : Int) ≤ (v_s251.length : Int)) then
   if v_i252 = v_j253 then
    some v_s251
   else
    if ((0 : Int) ≤ v_i252 ∧ v_i252 ≤ (v_s251.length : Int)) then
     if ((0 : Int) ≤ v_j253 ∧ v_j253 ≤ (v_s251.length : Int)) then
      if v_i252.toNat ≤ v_j253.toNat ∧ v_j253.toNat ≤ v_s251.length ∧ v_s251.length ≤ v_s251.length then
       if ((0 : Int) ≤ (((v_i252.toNat + (v_s251.length - v_j253.toNat)) : Nat) : Int) ∧ (((v_i252.toNat + (v_s251.length - v_j253.toNat)) : Nat) : Int) ≤ (v_s251.length : Int) ∧ (v_s251.length : Int) ≤ ((delR v_s251 v_i252.toNat v_j253.toNat v_s251.length).length : Int)) then
        if ((v_i252.toNat + (v_s251.length - v_j253.toNat)) : Nat) ≤ v_s251.length ∧ v_s251.length ≤ (delR v_s251 v_i252.toNat v_j253.toNat v_s251.length).length then
         if (v_i252.toNat + (v_s251.length - v_j253.toNat)) ≤ (clrR (delR v_s251 v_i252.toNat v_j253.toNat v_s251.length) ((v_i252.toNat + (v_s251.length - v_j253.toNat)) : Nat) v_s251.length (S_rmap_Pair.mk 0 0 0)).length then
          some ((clrR (delR v_s251 v_i252.toNat v_j253.toNat v_s251.length) ((v_i252.toNat + (v_s251.length - v_j253.toNat)) : Nat) v_s251.length (S_rmap_Pair.mk 0 0 0)).take (v_i252.toNat + (v_s251.length - v_j253.toNat)))
         else none
        else none
       else none
      else none
     else none
    else none
  else none
theorem G_slices_Delete_rmap_Pair_rmap_Pair_h_ok (n : Nat) (v_s251 : (List S_rmap_Pair)) (v_i252 : Int) (v_j253 : Int) (r : (List S_rmap_Pair)) (h : G_slices_Delete_rmap_Pair_rmap_Pair_h n v_s251 v_i252 v_j253 = some r) : RetH Try.prog 23 [.srf 0, .d ((eI .i64) v_i252), .d ((eI .i64) v_j253)] [.row 24 3 (v_s251.map eS_rmap_Pair)] (.srf 1) [.none, .row 24 3 (r.map eS_rmap_Pair)] := by
  refine retH_run (n := 33) (fn := Try.f23) (c := bodyOf Try.f23) (by kernel_rfl) (by kernel_rfl) (by kernel_rfl) (by kernel_rfl) ?_
  have hF : KC 33 (FinH Try.prog Try.f23 [.row 24 3 (v_s251.map eS_rmap_Pair)] (.srf 1) [.none, .row 24 3 (r.map eS_rmap_Pair)]) := FinH.kc' (by kernel_rfl)
  unfold G_slices_Delete_rmap_Pair_rmap_Pair_h at h
  by_cases h213 : ((0 : Int) ≤ v_i252 ∧ v_i252 ≤ v_j253 ∧ v_j253 ≤ (v_s251.length : Int) ∧ (v_s251.length : Int) ≤ (v_s251.length : Int))
  · rw [if_pos h213] at h
    by_cases h214 : v_i252 = v_j253
    · rw [if_pos h214] at h
      obtain rfl := Option.some.inj h
      exact pendH_sound TTok mix 13 (hs := [.u (.d (.v (.int .i64 (v_s251.length : Int)))), .e 32 [0] (dd) [], .t true, .dl 4, .mv 0]) [0, 62] (by kernel_rfl) (by kernel_rfl) (by kernel_rfl) (.cons (len_ob (f := eS_rmap_Pair) (l := v_s251)) (.cons (xs111 (P := Try.prog) (T := TT) (f := eS_rmap_Pair) (t := 22) (e := 24) (s := 3) (l := 0) (L := v_s251) (x := (.tmp 8)) (lo := (.tmp 9)) (hi := (.tmp 10)) (mx := (.tmp 12)) (a := v_i252) (ka := .i64) (b := v_j253) (kb := .i64) (c := (v_s251.length : Int)) (kc := .i64) (by kernel_rfl) h213) (.cons (bt h214) .nil)))
    · rw [if_neg h214] at h
      by_cases h215 : ((0 : Int) ≤ v_i252 ∧ v_i252 ≤ (v_s251.length : Int))
      · rw [if_pos h215] at h
        by_cases h216 : ((0 : Int) ≤ v_j253 ∧ v_j253 ≤ (v_s251.length : Int))
        · rw [if_pos h216] at h
          by_cases h217 : v_i252.toNat ≤ v_j253.toNat ∧ v_j253.toNat ≤ v_s251.length ∧ v_s251.length ≤ v_s251.length
          · rw [if_pos h217] at h
            by_cases h218 : ((0 : Int) ≤ (((v_i252.toNat + (v_s251.length - v_j253.toNat)) : Nat) : Int) ∧ (((v_i252.toNat + (v_s251.length - v_j253.toNat)) : Nat) : Int) ≤ (v_s251.length : Int) ∧ (v_s251.length : Int) ≤ ((delR v_s251 v_i252.toNat v_j253.toNat v_s251.length).length : Int))
            · rw [if_pos h218] at h
              by_cases h219 : ((v_i252.toNat + (v_s251.length - v_j253.toNat)) : Nat) ≤ v_s251.length ∧ v_s251.length ≤ (delR v_s251 v_i252.toNat v_j253.toNat v_s251.length).length
              · rw [if_pos h219] at h
                by_cases h220 : (v_i252.toNat + (v_s251.length - v_j253.toNat)) ≤ (clrR (delR v_s251 v_i252.toNat v_j253.toNat v_s251.length) ((v_i252.toNat + (v_s251.length - v_j253.toNat)) : Nat) v_s251.length (S_rmap_Pair.mk 0 0 0)).length
                · rw [if_pos h220] at h
                  obtain rfl := Option.some.inj h
                  exact pendH_sound TTok mix 18 (hs := [.u (.d (.v (.int .i64 (v_s251.length : Int)))), .e 32 [0] (dd) [], .t false, .u (.d (.v (.int .i64 (v_s251.length : Int)))), .e 77 [0] (.ssl 0 0 v_i252.toNat 3) [], .e 92 [0] (.ssl 0 v_j253.toNat v_s251.length 3) [], .e 97 [0] (.ssl 0 0 (v_i252.toNat + (v_s251.length - v_j253.toNat)) 3) [(0, .row 24 3 ((delR v_s251 v_i252.toNat v_j253.toNat v_s251.length).map eS_rmap_Pair))], .e 117 [] (.d (.v (.int .i64 (((v_i252.toNat + (v_s251.length - v_j253.toNat)) : Nat) : Int)))) [], .e 127 [0] (.ssl 0 ((v_i252.toNat + (v_s251.length - v_j253.toNat)) : Nat) v_s251.length 3) [], .e 132 [0] (dd) [(0, .row 24 3 ((clrR (delR v_s251 v_i252.toNat v_j253.toNat v_s251.length) ((v_i252.toNat + (v_s251.length - v_j253.toNat)) : Nat) v_s251.length (S_rmap_Pair.mk 0 0 0)).map eS_rmap_Pair))], .e 137 [0, 137] (.srf 137) [(0, .none), (137, .row 24 3 (((clrR (delR v_s251 v_i252.toNat v_j253.toNat v_s251.length) ((v_i252.toNat + (v_s251.length - v_j253.toNat)) : Nat) v_s251.length (S_rmap_Pair.mk 0 0 0)).take (v_i252.toNat + (v_s251.length - v_j253.toNat))).map eS_rmap_Pair))]]) [0, 137] (by kernel_rfl) (by kernel_rfl) (by kernel_rfl) (.cons (len_ob (f := eS_rmap_Pair) (l := v_s251)) (.cons (xs111 (P := Try.prog) (T := TT) (f := eS_rmap_Pair) (t := 22) (e := 24) (s := 3) (l := 0) (L := v_s251) (x := (.tmp 8)) (lo := (.tmp 9)) (hi := (.tmp 10)) (mx := (.tmp 12)) (a := v_i252) (ka := .i64) (b := v_j253) (kb := .i64) (c := (v_s251.length : Int)) (kc := .i64) (by kernel_rfl) h213) (.cons (bf h214) (.cons (len_ob (f := eS_rmap_Pair) (l := v_s251)) (.cons (xs01 (P := Try.prog) (T := TT) (f := eS_rmap_Pair) (t := 22) (e := 24) (s := 3) (l := 0) (L := v_s251) (x := (.tmp 20)) (hi := (.tmp 21)) (b := v_i252) (kb := .i64) (by kernel_rfl) h215) (.cons (xs10 (P := Try.prog) (T := TT) (f := eS_rmap_Pair) (t := 22) (e := 24) (s := 3) (l := 0) (L := v_s251) (x := (.tmp 23)) (lo := (.tmp 24)) (a := v_j253) (ka := .i64) (by kernel_rfl) h216) (.cons (xapp (ti := ⟨3, 24, .st [(0, 3), (1, 3), (2, 3)], [.i .i64, .i .i64, .i .i64]⟩) (P := Try.prog) (T := TT) (f := eS_rmap_Pair) (t := 22) (e := 24) (s := 3) (l := 0) (i := v_i252.toNat) (j := v_j253.toNat) (q := v_s251.length) (L := v_s251) (x := (.tmp 22)) (y := (.tmp 25)) (by kernel_rfl) (by kernel_rfl) h217) (.cons (xlen (P := Try.prog) (T := TT) (t := 22) (e := 24) (s := 3) (l := 0) (i := 0) (j := (v_i252.toNat + (v_s251.length - v_j253.toNat))) (x := (.tmp 28)) (by kernel_rfl)) (.cons (xt11 (P := Try.prog) (T := TT) (f := eS_rmap_Pair) (t := 22) (e := 24) (s := 3) (l := 0) (L := (delR v_s251 v_i252.toNat v_j253.toNat v_s251.length)) (x := (.tmp 27)) (lo := (.tmp 29)) (hi := (.tmp 30)) (a := (((v_i252.toNat + (v_s251.length - v_j253.toNat)) : Nat) : Int)) (ka := .i64) (b := (v_s251.length : Int)) (kb := .i64) (i := (v_i252.toNat + (v_s251.length - v_j253.toNat))) (by kernel_rfl) h218) (.cons (xclr (ti := ⟨3, 24, .st [(0, 3), (1, 3), (2, 3)], [.i .i64, .i .i64, .i .i64]⟩) (P := Try.prog) (T := TT) (f := eS_rmap_Pair) (t := 22) (e := 24) (s := 3) (l := 0) (i := ((v_i252.toNat + (v_s251.length - v_j253.toNat)) : Nat)) (j := v_s251.length) (z := (S_rmap_Pair.mk 0 0 0)) (L := (delR v_s251 v_i252.toNat v_j253.toNat v_s251.length)) (x := (.tmp 31)) (p := .agg [.v (.int .i64 0), .v (.int .i64 0), .v (.int .i64 0)]) (by kernel_rfl) (by kernel_rfl) (by kernel_rfl) (by kernel_rfl) (by decide) rfl h219) (.cons (xmv (P := Try.prog) (T := TT) (f := eS_rmap_Pair) (e := 24) (s := 3) (l := 0) (nl := 137) (L := (clrR (delR v_s251 v_i252.toNat v_j253.toNat v_s251.length) ((v_i252.toNat + (v_s251.length - v_j253.toNat)) : Nat) v_s251.length (S_rmap_Pair.mk 0 0 0))) (i := (v_i252.toNat + (v_s251.length - v_j253.toNat))) (x := (.tmp 0)) h220) .nil)))))))))))
                · rw [if_neg h220] at h; cases h
              · rw [if_neg h219] at h; cases h
            · rw [if_neg h218] at h; cases h
          · rw [if_neg h217] at h; cases h
        · rw [if_neg h216] at h; cases h
      · rw [if_neg h215] at h; cases h
  · rw [if_neg h213] at h; cases h
/- ringhall/rmap.Out -/
def G_rmap_Out (n : Nat) (v_l227 : (List S_rmap_Pair)) (v_space228 : Int) (v_page229 : Int) : Option ((List S_rmap_Pair) × Int × Int) :=
  (G_rmap_check n v_l227 (S_rmap_Pair.mk 0 v_space228 v_page229)).bind fun (v_r230 : (Int)) =>
  if v_r230 = 0 then
   (G_rmap_find n v_l227 v_space228 v_page229).bind fun (v_r239 : (Int)) =>
   if v_r239 < 0 then
    some (([] : (List S_rmap_Pair)), 0, 4)
   else
    (G_slices_Clone_rmap_Pair_rmap_Pair n v_l227).bind fun (v_r250 : ((List S_rmap_Pair))) =>
    (G_slices_Delete_rmap_Pair_rmap_Pair_h n v_r250 v_r239 (wi .i64 (v_r239 + 1))).bind fun (v_r254 : ((List S_rmap_Pair))) =>
    (getI v_l227 v_r239).bind fun (v_y255 : S_rmap_Pair) =>
    some (v_r254, v_y255.fFrame, 0)
  else
   some (([] : (List S_rmap_Pair)), 0, v_r230)
theorem G_rmap_Out_ok (n : Nat) (v_l227 : (List S_rmap_Pair)) (v_space228 : Int) (v_page229 : Int) (r : (List S_rmap_Pair) × Int × Int) (h : G_rmap_Out n v_l227 v_space228 v_page229 = some r) : Ret Try.prog 5 [(eL eS_rmap_Pair) v_l227, (eI .i64) v_space228, (eI .i64) v_page229] (.tup [(eL eS_rmap_Pair) r.1, (eI .i64) r.2.1, (eI .i64) r.2.2]) := by
  refine ret_run (n := 36) (fn := Try.f5) (c := bodyOf Try.f5) (by kernel_rfl) (by kernel_rfl) (by kernel_rfl) (by kernel_rfl) ?_
  have hF : KC 36 (FinR Try.prog Try.f5 (.tup [(eL eS_rmap_Pair) r.1, (eI .i64) r.2.1, (eI .i64) r.2.2])) := FinR.kc' (by kernel_rfl)
  unfold G_rmap_Out at h
  obtain ⟨v_r230, h206, h⟩ := bind_some h
  by_cases h208 : v_r230 = 0
  · rw [if_pos h208] at h
    obtain ⟨v_r239, h209, h⟩ := bind_some h
    by_cases h211 : v_r239 < 0
    · rw [if_pos h211] at h
      obtain rfl := Option.some.inj h
      exact pend_sound TTok mix 19 (hs := [.r ((eI .i64) v_r230), .t false, .r ((eI .i64) v_r239), .t true]) (by kernel_rfl) (by kernel_rfl) (by kernel_rfl) (.cons (G_rmap_check_ok n v_l227 (S_rmap_Pair.mk 0 v_space228 v_page229) _ h206) (.cons (nf h208) (.cons (G_rmap_find_ok n v_l227 v_space228 v_page229 _ h209) (.cons (dt h211) .nil))))
    · rw [if_neg h211] at h
      obtain ⟨v_r250, h212, h⟩ := bind_some h
      obtain ⟨v_r254, h221, h⟩ := bind_some h
      obtain ⟨v_y255, h222, h⟩ := bind_some h
      obtain rfl := Option.some.inj h
      exact pend_sound TTok mix 19 (hs := [.r ((eI .i64) v_r230), .t false, .r ((eI .i64) v_r239), .t false, .h [] [] [.row 24 3 (v_r250.map eS_rmap_Pair)] (.srf 0), .h [95] [] [.none, .row 24 3 (v_r254.map eS_rmap_Pair)] (.srf 1), .y (eS_rmap_Pair v_y255), .c]) (by kernel_rfl) (by kernel_rfl) (by kernel_rfl) (.cons (G_rmap_check_ok n v_l227 (S_rmap_Pair.mk 0 v_space228 v_page229) _ h206) (.cons (nf h208) (.cons (G_rmap_find_ok n v_l227 v_space228 v_page229 _ h209) (.cons (df h211) (.cons (G_slices_Clone_rmap_Pair_rmap_Pair_ok n v_l227 _ h212) (.cons (G_slices_Delete_rmap_Pair_rmap_Pair_h_ok n v_r250 v_r239 (wi .i64 (v_r239 + 1)) _ h221) (.cons (getI_ob (f := eS_rmap_Pair) h222) .nil)))))))
  · rw [if_neg h208] at h
    obtain rfl := Option.some.inj h
    exact pend_sound TTok mix 12 (hs := [.r ((eI .i64) v_r230), .t true]) (by kernel_rfl) (by kernel_rfl) (by kernel_rfl) (.cons (G_rmap_check_ok n v_l227 (S_rmap_Pair.mk 0 v_space228 v_page229) _ h206) (.cons (nt h208) .nil))
/- ringhall/rmap.Who$1 -/
def G_rmap_Who_1 (n : Nat) (v_p281 : S_rmap_Pair) (v_c282 : Int) : Option (Bool) :=
  some (v_p281.fFrame != v_c282)
theorem G_rmap_Who_1_ok (n : Nat) (v_p281 : S_rmap_Pair) (v_c282 : Int) (r : Bool) (h : G_rmap_Who_1 n v_p281 v_c282 = some r) : Ret Try.prog 25 [eS_rmap_Pair v_p281, .iptr [.v (.int .i64 v_c282)] 0] (eB r) := by
  refine ret_run (n := 8) (fn := Try.f25) (c := bodyOf Try.f25) (by kernel_rfl) (by kernel_rfl) (by kernel_rfl) (by kernel_rfl) ?_
  have hF : KC 8 (FinR Try.prog Try.f25 (eB r)) := FinR.kc' (by kernel_rfl)
  unfold G_rmap_Who_1 at h
  obtain rfl := Option.some.inj h
  exact pend_sound TTok mix 5 (hs := [.c, .c]) (by kernel_rfl) (by kernel_rfl) (by kernel_rfl) .nil
inductive G_slices_DeleteFunc_rmap_Pair_rmap_Pair_h_L1_R where
  | x0 (v_i297 : Int) (v_w298 : (List S_rmap_Pair))
def G_slices_DeleteFunc_rmap_Pair_rmap_Pair_h_L1_ex : G_slices_DeleteFunc_rmap_Pair_rmap_Pair_h_L1_R → Ex
  | .x0 _ _ => .exit 0
def G_slices_DeleteFunc_rmap_Pair_rmap_Pair_h_L1_st (v_del284 : (S_rmap_Pair → Option (Bool))) (v_del284_g : FuncId) (v_del284_c : (List PV)) : G_slices_DeleteFunc_rmap_Pair_rmap_Pair_h_L1_R → PS
  | .x0 v_i297 v_w298 => ⟨(.srf 1 :: dd :: dd :: dd :: dd :: .d (.v (.int .i64 v_i297)) :: (dds 36 [])), [.gh 0 (.srf 1), .row 24 3 (v_w298.map eS_rmap_Pair)]⟩
def G_slices_DeleteFunc_rmap_Pair_rmap_Pair_h_L1_hd (v_del284 : (S_rmap_Pair → Option (Bool))) (v_del284_g : FuncId) (v_del284_c : (List PV)) (v_i286 : Int) (v_j287 : Int) (v_w288 : (List S_rmap_Pair)) : PS := ⟨(.srf 1 :: .d (.clo v_del284_g v_del284_c) :: dd :: dd :: dd :: .d (.v (.int .i64 v_i286)) :: .d (.v (.int .i64 v_j287)) :: (dds 35 [])), [.gh 0 (.srf 1), .row 24 3 (v_w288.map eS_rmap_Pair)]⟩
def G_slices_DeleteFunc_rmap_Pair_rmap_Pair_h_L1 (n : Nat) (v_del284 : (S_rmap_Pair → Option (Bool))) : Nat → Int → Int → (List S_rmap_Pair) → Option G_slices_DeleteFunc_rmap_Pair_rmap_Pair_h_L1_R
  | 0, _, _, _ => none
  | k + 1, v_i286, v_j287, v_w288 =>
    if v_j287 < (v_w288.length : Int) then
     if 0 ≤ v_j287 ∧ (v_j287).toNat < v_w288.length then
      (v_w288[(v_j287).toNat]?).bind fun (v_y293 : S_rmap_Pair) =>
      (v_del284 v_y293).bind fun (v_r294 : (Bool)) =>
      if v_r294 = true then
       G_slices_DeleteFunc_rmap_Pair_rmap_Pair_h_L1 n v_del284 k v_i286 (wi .i64 (v_j287 + 1)) v_w288
      else
       if 0 ≤ v_i286 ∧ (v_i286).toNat < v_w288.length then
        (v_w288[(v_i286).toNat]?).bind fun (v_y296 : S_rmap_Pair) =>
        G_slices_DeleteFunc_rmap_Pair_rmap_Pair_h_L1 n v_del284 k (wi .i64 (v_i286 + 1)) (wi .i64 (v_j287 + 1)) (v_w288.set (v_i286).toNat v_y293)
       else none
     else none
    else
     some (.x0 v_i286 v_w288)
theorem G_slices_DeleteFunc_rmap_Pair_rmap_Pair_h_L1_ok {Fi : Ex → PS → Prop} (hF : KC 42 Fi) (ks : List Fr) (n : Nat) (v_del284 : (S_rmap_Pair → Option (Bool))) (v_del284_g : FuncId) (v_del284_c : (List PV)) (v_del284_h : ∀ (x0 : S_rmap_Pair) (r : Bool), v_del284 x0 = some r → Ret Try.prog v_del284_g ([eS_rmap_Pair x0] ++ v_del284_c) (eB r)) : ∀ (k : Nat) (v_i286 : Int) (v_j287 : Int) (v_w288 : (List S_rmap_Pair)) (o : G_slices_DeleteFunc_rmap_Pair_rmap_Pair_h_L1_R), G_slices_DeleteFunc_rmap_Pair_rmap_Pair_h_L1 n v_del284 k v_i286 v_j287 v_w288 = some o → RunE Try.prog 42 Fi ks (G_slices_DeleteFunc_rmap_Pair_rmap_Pair_h_L1_ex o) (G_slices_DeleteFunc_rmap_Pair_rmap_Pair_h_L1_st v_del284 v_del284_g v_del284_c o) → RunE Try.prog 42 Fi (.l k (cP (cB (cR (cL (cR (cR (cR (bodyOf Try.f24)))))))) :: ks) .normal (G_slices_DeleteFunc_rmap_Pair_rmap_Pair_h_L1_hd v_del284 v_del284_g v_del284_c v_i286 v_j287 v_w288)
  | 0, v_i286, v_j287, v_w288, o, h, q => by rw [G_slices_DeleteFunc_rmap_Pair_rmap_Pair_h_L1] at h; cases h
  | k + 1, v_i286, v_j287, v_w288, o, h, q => by
    rw [G_slices_DeleteFunc_rmap_Pair_rmap_Pair_h_L1] at h
    by_cases h231 : v_j287 < (v_w288.length : Int)
    · rw [if_pos h231] at h
      by_cases h241 : 0 ≤ v_j287 ∧ (v_j287).toNat < v_w288.length
      · rw [if_pos h241] at h
        obtain ⟨v_y293, h242, h⟩ := bind_some h
        obtain ⟨v_r294, h243, h⟩ := bind_some h
        by_cases h247 : v_r294 = true
        · rw [if_pos h247] at h
          exact pkk_sound TTok mix hF 16 (hs := [.u (.d (.v (.int .i64 (v_w288.length : Int)))), .t true, .y (eS_rmap_Pair v_y293), .c, .c, .r (eB v_r294), .t false]) (ts := []) (s := [0, 1]) (l := [0, 1, 5, 6]) (by kernel_rfl) (by kernel_rfl) (.cons (len_ob (f := eS_rmap_Pair) (l := v_w288)) (.cons (dt h231) (.cons (idx_ob (f := eS_rmap_Pair) h241) (.cons (get_ob (f := eS_rmap_Pair) h242) (.cons (show 0 + 3 ≤ 3 by decide) (.cons (v_del284_h v_y293 _ h243) (.cons (bnf h247) .nil))))))) (G_slices_DeleteFunc_rmap_Pair_rmap_Pair_h_L1_ok hF ks n v_del284 v_del284_g v_del284_c v_del284_h k v_i286 (wi .i64 (v_j287 + 1)) v_w288 _ h q)
        · rw [if_neg h247] at h
          by_cases h248 : 0 ≤ v_i286 ∧ (v_i286).toNat < v_w288.length
          · rw [if_pos h248] at h
            obtain ⟨v_y296, h249, h⟩ := bind_some h
            exact pkk_sound TTok mix hF 18 (hs := [.u (.d (.v (.int .i64 (v_w288.length : Int)))), .t true, .y (eS_rmap_Pair v_y293), .c, .c, .r (eB v_r294), .t true, .c, .w ((v_w288.set (v_i286).toNat v_y293).map eS_rmap_Pair), .y (eS_rmap_Pair v_y296)]) (ts := []) (s := [0, 1]) (l := [0, 1, 5, 6]) (by kernel_rfl) (by kernel_rfl) (.cons (len_ob (f := eS_rmap_Pair) (l := v_w288)) (.cons (dt h231) (.cons (idx_ob (f := eS_rmap_Pair) h241) (.cons (get_ob (f := eS_rmap_Pair) h242) (.cons (show 0 + 3 ≤ 3 by decide) (.cons (v_del284_h v_y293 _ h243) (.cons (bnt (vf h247)) (.cons (idx_ob (f := eS_rmap_Pair) h248) (.cons (get_ob (f := eS_rmap_Pair) h249) (.cons (Eq.refl (pcells (.agg [.v (.int .i64 v_y293.fFrame), .v (.int .i64 v_y293.fSpace), .v (.int .i64 v_y293.fPage)]))) (.cons (set_ob (f := eS_rmap_Pair) (l := v_w288) (k := (v_i286).toNat) (z := v_y293) (p := .agg [.v (.int .i64 v_y293.fFrame), .v (.int .i64 v_y293.fSpace), .v (.int .i64 v_y293.fPage)]) rfl) .nil))))))))))) (G_slices_DeleteFunc_rmap_Pair_rmap_Pair_h_L1_ok hF ks n v_del284 v_del284_g v_del284_c v_del284_h k (wi .i64 (v_i286 + 1)) (wi .i64 (v_j287 + 1)) (v_w288.set (v_i286).toNat v_y293) _ h q)
          · rw [if_neg h248] at h; cases h
      · rw [if_neg h241] at h; cases h
    · rw [if_neg h231] at h
      cases h
      exact pkk_sound TTok mix hF 8 (hs := [.u (.d (.v (.int .i64 (v_w288.length : Int)))), .t false]) (ts := []) (s := [0, 1]) (l := [0, 5]) (by kernel_rfl) (by kernel_rfl) (.cons (len_ob (f := eS_rmap_Pair) (l := v_w288)) (.cons (df h231) .nil)) q
/- slices.DeleteFunc[[]ringhall/rmap.Pair,ringhall/rmap.Pair] -/
def G_slices_DeleteFunc_rmap_Pair_rmap_Pair_h (n : Nat) (v_s283 : (List S_rmap_Pair)) (v_del284 : (S_rmap_Pair → Option (Bool))) : Option ((List S_rmap_Pair)) :=
  (G_slices_IndexFunc_rmap_Pair_rmap_Pair n v_s283 v_del284).bind fun (v_r285 : (Int)) =>
  if v_r285 = (-1) then
   some v_s283
  else
   (G_slices_DeleteFunc_rmap_Pair_rmap_Pair_h_L1 n v_del284 n v_r285 (wi .i64 (v_r285 + 1)) v_s283).bind fun v_o299 => match v_o299 with
   | .x0 v_z300 v_z301 =>
     if ((0 : Int) ≤ v_z300 ∧ v_z300 ≤ (v_z301.length : Int)) then
      if v_z300.toNat ≤ v_z301.length ∧ v_z301.length ≤ v_z301.length then
       (sub (clrR v_z301 v_z300.toNat v_z301.length (S_rmap_Pair.mk 0 0 0)) 0 v_z300).bind fun (v_s302 : (List S_rmap_Pair)) =>
       some v_s302
      else none
     else none
theorem G_slices_DeleteFunc_rmap_Pair_rmap_Pair_h_ok (n : Nat) (v_s283 : (List S_rmap_Pair)) (v_del284 : (S_rmap_Pair → Option (Bool))) (v_del284_g : FuncId) (v_del284_c : List PV) (v_del284_h : ∀ (x0 : S_rmap_Pair) (r : Bool), v_del284 x0 = some r → Ret Try.prog v_del284_g ([eS_rmap_Pair x0] ++ v_del284_c) (eB r)) (r : (List S_rmap_Pair)) (h : G_slices_DeleteFunc_rmap_Pair_rmap_Pair_h n v_s283 v_del284 = some r) : RetH Try.prog 24 [.srf 0, .d ((.clo v_del284_g v_del284_c))] [.row 24 3 (v_s283.map eS_rmap_Pair)] (.srf 1) [.none, .row 24 3 (r.map eS_rmap_Pair)] := by
  refine retH_run (n := 42) (fn := Try.f24) (c := bodyOf Try.f24) (by kernel_rfl) (by kernel_rfl) (by kernel_rfl) (by kernel_rfl) ?_
  have hF : KC 42 (FinH Try.prog Try.f24 [.row 24 3 (v_s283.map eS_rmap_Pair)] (.srf 1) [.none, .row 24 3 (r.map eS_rmap_Pair)]) := FinH.kc' (by kernel_rfl)
  unfold G_slices_DeleteFunc_rmap_Pair_rmap_Pair_h at h
  obtain ⟨v_r285, h229, h⟩ := bind_some h
  by_cases h230 : v_r285 = (-1)
  · rw [if_pos h230] at h
    obtain rfl := Option.some.inj h
    exact pendH_sound TTok mix 13 (hs := [.c, .r ((eI .i64) v_r285), .t true, .dl 4, .mv 0]) [0, 47] (by kernel_rfl) (by kernel_rfl) (by kernel_rfl) (.cons (G_slices_IndexFunc_rmap_Pair_rmap_Pair_ok n v_s283 v_del284 v_del284_g v_del284_c v_del284_h _ h229) (.cons (bt h230) .nil))
  · rw [if_neg h230] at h
    obtain ⟨v_o299, h250, h⟩ := bind_some h
    refine pkk_sound TTok mix hF 14 (hs := [.c, .r ((eI .i64) v_r285), .t false, .n n]) (ts := []) (s := [1, 0]) (l := [0, 1, 5, 6]) (by kernel_rfl) (by kernel_rfl) (.cons (G_slices_IndexFunc_rmap_Pair_rmap_Pair_ok n v_s283 v_del284 v_del284_g v_del284_c v_del284_h _ h229) (.cons (bf h230) .nil)) (G_slices_DeleteFunc_rmap_Pair_rmap_Pair_h_L1_ok hF (.b 0 :: .s (cR (cR (cR (cR (bodyOf Try.f24))))) :: []) n v_del284 v_del284_g v_del284_c v_del284_h n v_r285 (wi .i64 (v_r285 + 1)) v_s283 _ h250 ?_)
    cases v_o299 with
    | x0 v_z300 v_z301 =>
      try dsimp only at h
      by_cases h251 : ((0 : Int) ≤ v_z300 ∧ v_z300 ≤ (v_z301.length : Int))
      · rw [if_pos h251] at h
        by_cases h252 : v_z300.toNat ≤ v_z301.length ∧ v_z301.length ≤ v_z301.length
        · rw [if_pos h252] at h
          obtain ⟨v_s302, h253, h⟩ := bind_some h
          obtain rfl := Option.some.inj h
          exact pendH_sound TTok mix 6 (hs := [.e 12 [1] (.ssl 1 v_z300.toNat v_z301.length 3) [], .e 17 [1] (dd) [(1, .row 24 3 ((clrR v_z301 v_z300.toNat v_z301.length (S_rmap_Pair.mk 0 0 0)).map eS_rmap_Pair))], .w (v_s302.map eS_rmap_Pair)]) [1, 32] (by kernel_rfl) (by kernel_rfl) (by kernel_rfl) (.cons (xs10 (P := Try.prog) (T := TT) (f := eS_rmap_Pair) (t := 22) (e := 24) (s := 3) (l := 1) (L := v_z301) (x := (.tmp 36)) (lo := (.tmp 37)) (a := v_z300) (ka := .i64) (by kernel_rfl) h251) (.cons (xclr (ti := ⟨3, 24, .st [(0, 3), (1, 3), (2, 3)], [.i .i64, .i .i64, .i .i64]⟩) (P := Try.prog) (T := TT) (f := eS_rmap_Pair) (t := 22) (e := 24) (s := 3) (l := 1) (i := v_z300.toNat) (j := v_z301.length) (z := (S_rmap_Pair.mk 0 0 0)) (L := v_z301) (x := (.tmp 38)) (p := .agg [.v (.int .i64 0), .v (.int .i64 0), .v (.int .i64 0)]) (by kernel_rfl) (by kernel_rfl) (by kernel_rfl) (by kernel_rfl) (by decide) rfl h252) (.cons (Eq.refl (0 : Int)) (.cons (subR_ob (f := eS_rmap_Pair) h253).1 (.cons (subR_ob (f := eS_rmap_Pair) h253).2.1 (.cons (subR_ob (f := eS_rmap_Pair) h253).2.2 .nil))))))
        · rw [if_neg h252] at h; cases h
      · rw [if_neg h251] at h; cases h
/- ringhall/rmap.Who -/
def G_rmap_Who (n : Nat) (v_l269 : (List S_rmap_Pair)) (v_frame270 : Int) : Option ((List S_rmap_Pair) × Int) :=
  (G_rmap_check n v_l269 (S_rmap_Pair.mk v_frame270 1 0)).bind fun (v_r274 : (Int)) =>
  if v_r274 = 0 then
   (G_slices_Clone_rmap_Pair_rmap_Pair n v_l269).bind fun (v_r280 : ((List S_rmap_Pair))) =>
   (G_slices_DeleteFunc_rmap_Pair_rmap_Pair_h n v_r280 (fun (y0 : S_rmap_Pair) => G_rmap_Who_1 n y0 v_frame270)).bind fun (v_r303 : ((List S_rmap_Pair))) =>
   some (v_r303, 0)
  else
   some (([] : (List S_rmap_Pair)), v_r274)
theorem G_rmap_Who_ok (n : Nat) (v_l269 : (List S_rmap_Pair)) (v_frame270 : Int) (r : (List S_rmap_Pair) × Int) (h : G_rmap_Who n v_l269 v_frame270 = some r) : Ret Try.prog 6 [(eL eS_rmap_Pair) v_l269, (eI .i64) v_frame270] (.tup [(eL eS_rmap_Pair) r.1, (eI .i64) r.2]) := by
  refine ret_run (n := 18) (fn := Try.f6) (c := bodyOf Try.f6) (by kernel_rfl) (by kernel_rfl) (by kernel_rfl) (by kernel_rfl) ?_
  have hF : KC 18 (FinR Try.prog Try.f6 (.tup [(eL eS_rmap_Pair) r.1, (eI .i64) r.2])) := FinR.kc' (by kernel_rfl)
  unfold G_rmap_Who at h
  obtain ⟨v_r274, h224, h⟩ := bind_some h
  by_cases h226 : v_r274 = 0
  · rw [if_pos h226] at h
    obtain ⟨v_r280, h228, h⟩ := bind_some h
    obtain ⟨v_r303, h254, h⟩ := bind_some h
    obtain rfl := Option.some.inj h
    exact pend_sound TTok mix 13 (hs := [.c, .r ((eI .i64) v_r274), .t false, .dl 2, .fb 0, .h [] [] [.row 24 3 (v_r280.map eS_rmap_Pair)] (.srf 0), .h [55] [] [.none, .row 24 3 (v_r303.map eS_rmap_Pair)] (.srf 1)]) (by kernel_rfl) (by kernel_rfl) (by kernel_rfl) (.cons (G_rmap_check_ok n v_l269 (S_rmap_Pair.mk v_frame270 1 0) _ h224) (.cons (nf h226) (.cons (G_slices_Clone_rmap_Pair_rmap_Pair_ok n v_l269 _ h228) (.cons (G_slices_DeleteFunc_rmap_Pair_rmap_Pair_h_ok n v_r280 (fun (y0 : S_rmap_Pair) => G_rmap_Who_1 n y0 v_frame270) 25 [.iptr [.v (.int .i64 v_frame270)] 0] (fun y0 r h => G_rmap_Who_1_ok n y0 v_frame270 r h) _ h254) .nil))))
  · rw [if_neg h226] at h
    obtain rfl := Option.some.inj h
    exact pend_sound TTok mix 12 (hs := [.c, .r ((eI .i64) v_r274), .t true]) (by kernel_rfl) (by kernel_rfl) (by kernel_rfl) (.cons (G_rmap_check_ok n v_l269 (S_rmap_Pair.mk v_frame270 1 0) _ h224) (.cons (nt h226) .nil))
/- ringhall/rmap.Where -/
def G_rmap_Where (n : Nat) (v_l321 : (List S_rmap_Pair)) (v_space322 : Int) (v_page323 : Int) : Option (Int × Int) :=
  (G_rmap_check n v_l321 (S_rmap_Pair.mk 0 v_space322 v_page323)).bind fun (v_r324 : (Int)) =>
  if v_r324 = 0 then
   (G_rmap_find n v_l321 v_space322 v_page323).bind fun (v_r333 : (Int)) =>
   if v_r333 ≥ 0 then
    (getI v_l321 v_r333).bind fun (v_y337 : S_rmap_Pair) =>
    some (v_y337.fFrame, 0)
   else
    some ((-1), 0)
  else
   some (0, v_r324)
theorem G_rmap_Where_ok (n : Nat) (v_l321 : (List S_rmap_Pair)) (v_space322 : Int) (v_page323 : Int) (r : Int × Int) (h : G_rmap_Where n v_l321 v_space322 v_page323 = some r) : Ret Try.prog 7 [(eL eS_rmap_Pair) v_l321, (eI .i64) v_space322, (eI .i64) v_page323] (.tup [(eI .i64) r.1, (eI .i64) r.2]) := by
  refine ret_run (n := 29) (fn := Try.f7) (c := bodyOf Try.f7) (by kernel_rfl) (by kernel_rfl) (by kernel_rfl) (by kernel_rfl) ?_
  have hF : KC 29 (FinR Try.prog Try.f7 (.tup [(eI .i64) r.1, (eI .i64) r.2])) := FinR.kc' (by kernel_rfl)
  unfold G_rmap_Where at h
  obtain ⟨v_r324, h256, h⟩ := bind_some h
  by_cases h258 : v_r324 = 0
  · rw [if_pos h258] at h
    obtain ⟨v_r333, h259, h⟩ := bind_some h
    by_cases h262 : v_r333 ≥ 0
    · rw [if_pos h262] at h
      obtain ⟨v_y337, h263, h⟩ := bind_some h
      obtain rfl := Option.some.inj h
      exact pend_sound TTok mix 19 (hs := [.r ((eI .i64) v_r324), .t false, .r ((eI .i64) v_r333), .t true, .y (eS_rmap_Pair v_y337), .c]) (by kernel_rfl) (by kernel_rfl) (by kernel_rfl) (.cons (G_rmap_check_ok n v_l321 (S_rmap_Pair.mk 0 v_space322 v_page323) _ h256) (.cons (nf h258) (.cons (G_rmap_find_ok n v_l321 v_space322 v_page323 _ h259) (.cons (dt h262) (.cons (getI_ob (f := eS_rmap_Pair) h263) .nil)))))
    · rw [if_neg h262] at h
      obtain rfl := Option.some.inj h
      exact pend_sound TTok mix 19 (hs := [.r ((eI .i64) v_r324), .t false, .r ((eI .i64) v_r333), .t false]) (by kernel_rfl) (by kernel_rfl) (by kernel_rfl) (.cons (G_rmap_check_ok n v_l321 (S_rmap_Pair.mk 0 v_space322 v_page323) _ h256) (.cons (nf h258) (.cons (G_rmap_find_ok n v_l321 v_space322 v_page323 _ h259) (.cons (df h262) .nil))))
  · rw [if_neg h258] at h
    obtain rfl := Option.some.inj h
    exact pend_sound TTok mix 12 (hs := [.r ((eI .i64) v_r324), .t true]) (by kernel_rfl) (by kernel_rfl) (by kernel_rfl) (.cons (G_rmap_check_ok n v_l321 (S_rmap_Pair.mk 0 v_space322 v_page323) _ h256) (.cons (nt h258) .nil))
/- math/bits.Len64 -/
def G_math_bits_Len64 (n : Nat) (v_x417 : Int) : Option (Int) :=
  if v_x417 ≥ 4294967296 then
   if (shrI .u64 v_x417 32) ≥ 65536 then
    if (shrI .u64 (shrI .u64 v_x417 32) 16) ≥ 256 then
     (getS (ByteArray.mk #[0, 1, 2, 2, 3, 3, 3, 3, 4, 4, 4, 4, 4, 4, 4, 4, 5, 5, 5, 5, 5, 5, 5, 5, 5, 5, 5, 5, 5, 5, 5, 5, 6, 6, 6, 6, 6, 6, 6, 6, 6, 6, 6, 6, 6, 6, 6, 6, 6, 6, 6, 6, 6, 6, 6, 6, 6, 6, 6, 6, 6, 6, 6, 6, 7, 7, 7, 7, 7, 7, 7, 7, 7, 7, 7, 7, 7, 7, 7, 7, 7, 7, 7, 7, 7, 7, 7, 7, 7, 7, 7, 7, 7, 7, 7, 7, 7, 7, 7, 7, 7, 7, 7, 7, 7, 7, 7, 7, 7, 7, 7, 7, 7, 7, 7, 7, 7, 7, 7, 7, 7, 7, 7, 7, 7, 7, 7, 7, 8, 8, 8, 8, 8, 8, 8, 8, 8, 8, 8, 8, 8, 8, 8, 8, 8, 8, 8, 8, 8, 8, 8, 8, 8, 8, 8, 8, 8, 8, 8, 8, 8, 8, 8, 8, 8, 8, 8, 8, 8, 8, 8, 8, 8, 8, 8, 8, 8, 8, 8, 8, 8, 8, 8, 8, 8, 8, 8, 8, 8, 8, 8, 8, 8, 8, 8, 8, 8, 8, 8, 8, 8, 8, 8, 8, 8, 8, 8, 8, 8, 8, 8, 8, 8, 8, 8, 8, 8, 8, 8, 8, 8, 8, 8, 8, 8, 8, 8, 8, 8, 8, 8, 8, 8, 8, 8, 8, 8, 8, 8, 8, 8, 8, 8, 8, 8, 8, 8, 8, 8, 8, 8, 8, 8, 8, 8, 8]) (wi .u8 (shrI .u64 (shrI .u64 (shrI .u64 v_x417 32) 16) 8))).bind fun (v_y435 : Int) =>
     some (wi .i64 ((wi .i64 ((wi .i64 (32 + 16)) + 8)) + (wi .i64 v_y435)))
    else
     (getS (ByteArray.mk #[0, 1, 2, 2, 3, 3, 3, 3, 4, 4, 4, 4, 4, 4, 4, 4, 5, 5, 5, 5, 5, 5, 5, 5, 5, 5, 5, 5, 5, 5, 5, 5, 6, 6, 6, 6, 6, 6, 6, 6, 6, 6, 6, 6, 6, 6, 6, 6, 6, 6, 6, 6, 6, 6, 6, 6, 6, 6, 6, 6, 6, 6, 6, 6, 7, 7, 7, 7, 7, 7, 7, 7, 7, 7, 7, 7, 7, 7, 7, 7, 7, 7, 7, 7, 7, 7, 7, 7, 7, 7, 7, 7, 7, 7, 7, 7, 7, 7, 7, 7, 7, 7, 7, 7, 7, 7, 7, 7, 7, 7, 7, 7, 7, 7, 7, 7, 7, 7, 7, 7, 7, 7, 7, 7, 7, 7, 7, 7, 8, 8, 8, 8, 8, 8, 8, 8, 8, 8, 8, 8, 8, 8, 8, 8, 8, 8, 8, 8, 8, 8, 8, 8, 8, 8, 8, 8, 8, 8, 8, 8, 8, 8, 8, 8, 8, 8, 8, 8, 8, 8, 8, 8, 8, 8, 8, 8, 8, 8, 8, 8, 8, 8, 8, 8, 8, 8, 8, 8, 8, 8, 8, 8, 8, 8, 8, 8, 8, 8, 8, 8, 8, 8, 8, 8, 8, 8, 8, 8, 8, 8, 8, 8, 8, 8, 8, 8, 8, 8, 8, 8, 8, 8, 8, 8, 8, 8, 8, 8, 8, 8, 8, 8, 8, 8, 8, 8, 8, 8, 8, 8, 8, 8, 8, 8, 8, 8, 8, 8, 8, 8, 8, 8, 8, 8, 8, 8]) (wi .u8 (shrI .u64 (shrI .u64 v_x417 32) 16))).bind fun (v_y436 : Int) =>
     some (wi .i64 ((wi .i64 (32 + 16)) + (wi .i64 v_y436)))
   else
    if (shrI .u64 v_x417 32) ≥ 256 then
     (getS (ByteArray.mk #[0, 1, 2, 2, 3, 3, 3, 3, 4, 4, 4, 4, 4, 4, 4, 4, 5, 5, 5, 5, 5, 5, 5, 5, 5, 5, 5, 5, 5, 5, 5, 5, 6, 6, 6, 6, 6, 6, 6, 6, 6, 6, 6, 6, 6, 6, 6, 6, 6, 6, 6, 6, 6, 6, 6, 6, 6, 6, 6, 6, 6, 6, 6, 6, 7, 7, 7, 7, 7, 7, 7, 7, 7, 7, 7, 7, 7, 7, 7, 7, 7, 7, 7, 7, 7, 7, 7, 7, 7, 7, 7, 7, 7, 7, 7, 7, 7, 7, 7, 7, 7, 7, 7, 7, 7, 7, 7, 7, 7, 7, 7, 7, 7, 7, 7, 7, 7, 7, 7, 7, 7, 7, 7, 7, 7, 7, 7, 7, 8, 8, 8, 8, 8, 8, 8, 8, 8, 8, 8, 8, 8, 8, 8, 8, 8, 8, 8, 8, 8, 8, 8, 8, 8, 8, 8, 8, 8, 8, 8, 8, 8, 8, 8, 8, 8, 8, 8, 8, 8, 8, 8, 8, 8, 8, 8, 8, 8, 8, 8, 8, 8, 8, 8, 8, 8, 8, 8, 8, 8, 8, 8, 8, 8, 8, 8, 8, 8, 8, 8, 8, 8, 8, 8, 8, 8, 8, 8, 8, 8, 8, 8, 8, 8, 8, 8, 8, 8, 8, 8, 8, 8, 8, 8, 8, 8, 8, 8, 8, 8, 8, 8, 8, 8, 8, 8, 8, 8, 8, 8, 8, 8, 8, 8, 8, 8, 8, 8, 8, 8, 8, 8, 8, 8, 8, 8, 8]) (wi .u8 (shrI .u64 (shrI .u64 v_x417 32) 8))).bind fun (v_y444 : Int) =>
     some (wi .i64 ((wi .i64 (32 + 8)) + (wi .i64 v_y444)))
    else
     (getS (ByteArray.mk #[0, 1, 2, 2, 3, 3, 3, 3, 4, 4, 4, 4, 4, 4, 4, 4, 5, 5, 5, 5, 5, 5, 5, 5, 5, 5, 5, 5, 5, 5, 5, 5, 6, 6, 6, 6, 6, 6, 6, 6, 6, 6, 6, 6, 6, 6, 6, 6, 6, 6, 6, 6, 6, 6, 6, 6, 6, 6, 6, 6, 6, 6, 6, 6, 7, 7, 7, 7, 7, 7, 7, 7, 7, 7, 7, 7, 7, 7, 7, 7, 7, 7, 7, 7, 7, 7, 7, 7, 7, 7, 7, 7, 7, 7, 7, 7, 7, 7, 7, 7, 7, 7, 7, 7, 7, 7, 7, 7, 7, 7, 7, 7, 7, 7, 7, 7, 7, 7, 7, 7, 7, 7, 7, 7, 7, 7, 7, 7, 8, 8, 8, 8, 8, 8, 8, 8, 8, 8, 8, 8, 8, 8, 8, 8, 8, 8, 8, 8, 8, 8, 8, 8, 8, 8, 8, 8, 8, 8, 8, 8, 8, 8, 8, 8, 8, 8, 8, 8, 8, 8, 8, 8, 8, 8, 8, 8, 8, 8, 8, 8, 8, 8, 8, 8, 8, 8, 8, 8, 8, 8, 8, 8, 8, 8, 8, 8, 8, 8, 8, 8, 8, 8, 8, 8, 8, 8, 8, 8, 8, 8, 8, 8, 8, 8, 8, 8, 8, 8, 8, 8, 8, 8, 8, 8, 8, 8, 8, 8, 8, 8, 8, 8, 8, 8, 8, 8, 8, 8, 8, 8, 8, 8, 8, 8, 8, 8, 8, 8, 8, 8, 8, 8, 8, 8, 8, 8]) (wi .u8 (shrI .u64 v_x417 32))).bind fun (v_y445 : Int) =>
     some (wi .i64 (32 + (wi .i64 v_y445)))
  else
   if v_x417 ≥ 65536 then
    if (shrI .u64 v_x417 16) ≥ 256 then
     (getS (ByteArray.mk #[0, 1, 2, 2, 3, 3, 3, 3, 4, 4, 4, 4, 4, 4, 4, 4, 5, 5, 5, 5, 5, 5, 5, 5, 5, 5, 5, 5, 5, 5, 5, 5, 6, 6, 6, 6, 6, 6, 6, 6, 6, 6, 6, 6, 6, 6, 6, 6, 6, 6, 6, 6, 6, 6, 6, 6, 6, 6, 6, 6, 6, 6, 6, 6, 7, 7, 7, 7, 7, 7, 7, 7, 7, 7, 7, 7, 7, 7, 7, 7, 7, 7, 7, 7, 7, 7, 7, 7, 7, 7, 7, 7, 7, 7, 7, 7, 7, 7, 7, 7, 7, 7, 7, 7, 7, 7, 7, 7, 7, 7, 7, 7, 7, 7, 7, 7, 7, 7, 7, 7, 7, 7, 7, 7, 7, 7, 7, 7, 8, 8, 8, 8, 8, 8, 8, 8, 8, 8, 8, 8, 8, 8, 8, 8, 8, 8, 8, 8, 8, 8, 8, 8, 8, 8, 8, 8, 8, 8, 8, 8, 8, 8, 8, 8, 8, 8, 8, 8, 8, 8, 8, 8, 8, 8, 8, 8, 8, 8, 8, 8, 8, 8, 8, 8, 8, 8, 8, 8, 8, 8, 8, 8, 8, 8, 8, 8, 8, 8, 8, 8, 8, 8, 8, 8, 8, 8, 8, 8, 8, 8, 8, 8, 8, 8, 8, 8, 8, 8, 8, 8, 8, 8, 8, 8, 8, 8, 8, 8, 8, 8, 8, 8, 8, 8, 8, 8, 8, 8, 8, 8, 8, 8, 8, 8, 8, 8, 8, 8, 8, 8, 8, 8, 8, 8, 8, 8]) (wi .u8 (shrI .u64 (shrI .u64 v_x417 16) 8))).bind fun (v_y460 : Int) =>
     some (wi .i64 ((wi .i64 ((wi .i64 (0 + 16)) + 8)) + (wi .i64 v_y460)))
    else
     (getS (ByteArray.mk #[0, 1, 2, 2, 3, 3, 3, 3, 4, 4, 4, 4, 4, 4, 4, 4, 5, 5, 5, 5, 5, 5, 5, 5, 5, 5, 5, 5, 5, 5, 5, 5, 6, 6, 6, 6, 6, 6, 6, 6, 6, 6, 6, 6, 6, 6, 6, 6, 6, 6, 6, 6, 6, 6, 6, 6, 6, 6, 6, 6, 6, 6, 6, 6, 7, 7, 7, 7, 7, 7, 7, 7, 7, 7, 7, 7, 7, 7, 7, 7, 7, 7, 7, 7, 7, 7, 7, 7, 7, 7, 7, 7, 7, 7, 7, 7, 7, 7, 7, 7, 7, 7, 7, 7, 7, 7, 7, 7, 7, 7, 7, 7, 7, 7, 7, 7, 7, 7, 7, 7, 7, 7, 7, 7, 7, 7, 7, 7, 8, 8, 8, 8, 8, 8, 8, 8, 8, 8, 8, 8, 8, 8, 8, 8, 8, 8, 8, 8, 8, 8, 8, 8, 8, 8, 8, 8, 8, 8, 8, 8, 8, 8, 8, 8, 8, 8, 8, 8, 8, 8, 8, 8, 8, 8, 8, 8, 8, 8, 8, 8, 8, 8, 8, 8, 8, 8, 8, 8, 8, 8, 8, 8, 8, 8, 8, 8, 8, 8, 8, 8, 8, 8, 8, 8, 8, 8, 8, 8, 8, 8, 8, 8, 8, 8, 8, 8, 8, 8, 8, 8, 8, 8, 8, 8, 8, 8, 8, 8, 8, 8, 8, 8, 8, 8, 8, 8, 8, 8, 8, 8, 8, 8, 8, 8, 8, 8, 8, 8, 8, 8, 8, 8, 8, 8, 8, 8]) (wi .u8 (shrI .u64 v_x417 16))).bind fun (v_y461 : Int) =>
     some (wi .i64 ((wi .i64 (0 + 16)) + (wi .i64 v_y461)))
   else
    if v_x417 ≥ 256 then
     (getS (ByteArray.mk #[0, 1, 2, 2, 3, 3, 3, 3, 4, 4, 4, 4, 4, 4, 4, 4, 5, 5, 5, 5, 5, 5, 5, 5, 5, 5, 5, 5, 5, 5, 5, 5, 6, 6, 6, 6, 6, 6, 6, 6, 6, 6, 6, 6, 6, 6, 6, 6, 6, 6, 6, 6, 6, 6, 6, 6, 6, 6, 6, 6, 6, 6, 6, 6, 7, 7, 7, 7, 7, 7, 7, 7, 7, 7, 7, 7, 7, 7, 7, 7, 7, 7, 7, 7, 7, 7, 7, 7, 7, 7, 7, 7, 7, 7, 7, 7, 7, 7, 7, 7, 7, 7, 7, 7, 7, 7, 7, 7, 7, 7, 7, 7, 7, 7, 7, 7, 7, 7, 7, 7, 7, 7, 7, 7, 7, 7, 7, 7, 8, 8, 8, 8, 8, 8, 8, 8, 8, 8, 8, 8, 8, 8, 8, 8, 8, 8, 8, 8, 8, 8, 8, 8, 8, 8, 8, 8, 8, 8, 8, 8, 8, 8, 8, 8, 8, 8, 8, 8, 8, 8, 8, 8, 8, 8, 8, 8, 8, 8, 8, 8, 8, 8, 8, 8, 8, 8, 8, 8, 8, 8, 8, 8, 8, 8, 8, 8, 8, 8, 8, 8, 8, 8, 8, 8, 8, 8, 8, 8, 8, 8, 8, 8, 8, 8, 8, 8, 8, 8, 8, 8, 8, 8, 8, 8, 8, 8, 8, 8, 8, 8, 8, 8, 8, 8, 8, 8, 8, 8, 8, 8, 8, 8, 8, 8, 8, 8, 8, 8, 8, 8, 8, 8, 8, 8, 8, 8]) (wi .u8 (shrI .u64 v_x417 8))).bind fun (v_y469 : Int) =>
     some (wi .i64 ((wi .i64 (0 + 8)) + (wi .i64 v_y469)))
    else
     (getS (ByteArray.mk #[0, 1, 2, 2, 3, 3, 3, 3, 4, 4, 4, 4, 4, 4, 4, 4, 5, 5, 5, 5, 5, 5, 5, 5, 5, 5, 5, 5, 5, 5, 5, 5, 6, 6, 6, 6, 6, 6, 6, 6, 6, 6, 6, 6, 6, 6, 6, 6, 6, 6, 6, 6, 6, 6, 6, 6, 6, 6, 6, 6, 6, 6, 6, 6, 7, 7, 7, 7, 7, 7, 7, 7, 7, 7, 7, 7, 7, 7, 7, 7, 7, 7, 7, 7, 7, 7, 7, 7, 7, 7, 7, 7, 7, 7, 7, 7, 7, 7, 7, 7, 7, 7, 7, 7, 7, 7, 7, 7, 7, 7, 7, 7, 7, 7, 7, 7, 7, 7, 7, 7, 7, 7, 7, 7, 7, 7, 7, 7, 8, 8, 8, 8, 8, 8, 8, 8, 8, 8, 8, 8, 8, 8, 8, 8, 8, 8, 8, 8, 8, 8, 8, 8, 8, 8, 8, 8, 8, 8, 8, 8, 8, 8, 8, 8, 8, 8, 8, 8, 8, 8, 8, 8, 8, 8, 8, 8, 8, 8, 8, 8, 8, 8, 8, 8, 8, 8, 8, 8, 8, 8, 8, 8, 8, 8, 8, 8, 8, 8, 8, 8, 8, 8, 8, 8, 8, 8, 8, 8, 8, 8, 8, 8, 8, 8, 8, 8, 8, 8, 8, 8, 8, 8, 8, 8, 8, 8, 8, 8, 8, 8, 8, 8, 8, 8, 8, 8, 8, 8, 8, 8, 8, 8, 8, 8, 8, 8, 8, 8, 8, 8, 8, 8, 8, 8, 8, 8]) (wi .u8 v_x417)).bind fun (v_y470 : Int) =>
     some (wi .i64 (0 + (wi .i64 v_y470)))
theorem G_math_bits_Len64_ok (n : Nat) (v_x417 : Int) (r : Int) (h : G_math_bits_Len64 n v_x417 = some r) : Ret Try.prog 48 [(eI .u64) v_x417] ((eI .i64) r) := by
  refine ret_run (n := 25) (fn := Try.f48) (c := bodyOf Try.f48) (by kernel_rfl) (by kernel_rfl) (by kernel_rfl) (by kernel_rfl) ?_
  have hF : KC 25 (FinR Try.prog Try.f48 ((eI .i64) r)) := FinR.kc' (by kernel_rfl)
  unfold G_math_bits_Len64 at h
  by_cases h294 : v_x417 ≥ 4294967296
  · rw [if_pos h294] at h
    by_cases h298 : (shrI .u64 v_x417 32) ≥ 65536
    · rw [if_pos h298] at h
      by_cases h302 : (shrI .u64 (shrI .u64 v_x417 32) 16) ≥ 256
      · rw [if_pos h302] at h
        obtain ⟨v_y435, h304, h⟩ := bind_some h
        obtain rfl := Option.some.inj h
        exact pend_sound TTok mix 26 (hs := [.t true, .t true, .t true, .l (.d (.v (.int .u8 v_y435)))]) (by kernel_rfl) (by kernel_rfl) (by kernel_rfl) (.cons (dt h294) (.cons (show (0 : Int) ≤ 32 by decide) (.cons (dt h298) (.cons (show (0 : Int) ≤ 16 by decide) (.cons (dt h302) (.cons (show (0 : Int) ≤ 8 by decide) (.cons (getS_ob h304) .nil)))))))
      · rw [if_neg h302] at h
        obtain ⟨v_y436, h305, h⟩ := bind_some h
        obtain rfl := Option.some.inj h
        exact pend_sound TTok mix 24 (hs := [.t true, .t true, .t false, .l (.d (.v (.int .u8 v_y436)))]) (by kernel_rfl) (by kernel_rfl) (by kernel_rfl) (.cons (dt h294) (.cons (show (0 : Int) ≤ 32 by decide) (.cons (dt h298) (.cons (show (0 : Int) ≤ 16 by decide) (.cons (df h302) (.cons (getS_ob h305) .nil))))))
    · rw [if_neg h298] at h
      by_cases h308 : (shrI .u64 v_x417 32) ≥ 256
      · rw [if_pos h308] at h
        obtain ⟨v_y444, h310, h⟩ := bind_some h
        obtain rfl := Option.some.inj h
        exact pend_sound TTok mix 24 (hs := [.t true, .t false, .t true, .l (.d (.v (.int .u8 v_y444)))]) (by kernel_rfl) (by kernel_rfl) (by kernel_rfl) (.cons (dt h294) (.cons (show (0 : Int) ≤ 32 by decide) (.cons (df h298) (.cons (dt h308) (.cons (show (0 : Int) ≤ 8 by decide) (.cons (getS_ob h310) .nil))))))
      · rw [if_neg h308] at h
        obtain ⟨v_y445, h311, h⟩ := bind_some h
        obtain rfl := Option.some.inj h
        exact pend_sound TTok mix 22 (hs := [.t true, .t false, .t false, .l (.d (.v (.int .u8 v_y445)))]) (by kernel_rfl) (by kernel_rfl) (by kernel_rfl) (.cons (dt h294) (.cons (show (0 : Int) ≤ 32 by decide) (.cons (df h298) (.cons (df h308) (.cons (getS_ob h311) .nil)))))
  · rw [if_neg h294] at h
    by_cases h314 : v_x417 ≥ 65536
    · rw [if_pos h314] at h
      by_cases h318 : (shrI .u64 v_x417 16) ≥ 256
      · rw [if_pos h318] at h
        obtain ⟨v_y460, h320, h⟩ := bind_some h
        obtain rfl := Option.some.inj h
        exact pend_sound TTok mix 24 (hs := [.t false, .t true, .t true, .l (.d (.v (.int .u8 v_y460)))]) (by kernel_rfl) (by kernel_rfl) (by kernel_rfl) (.cons (df h294) (.cons (dt h314) (.cons (show (0 : Int) ≤ 16 by decide) (.cons (dt h318) (.cons (show (0 : Int) ≤ 8 by decide) (.cons (getS_ob h320) .nil))))))
      · rw [if_neg h318] at h
        obtain ⟨v_y461, h321, h⟩ := bind_some h
        obtain rfl := Option.some.inj h
        exact pend_sound TTok mix 22 (hs := [.t false, .t true, .t false, .l (.d (.v (.int .u8 v_y461)))]) (by kernel_rfl) (by kernel_rfl) (by kernel_rfl) (.cons (df h294) (.cons (dt h314) (.cons (show (0 : Int) ≤ 16 by decide) (.cons (df h318) (.cons (getS_ob h321) .nil)))))
    · rw [if_neg h314] at h
      by_cases h324 : v_x417 ≥ 256
      · rw [if_pos h324] at h
        obtain ⟨v_y469, h326, h⟩ := bind_some h
        obtain rfl := Option.some.inj h
        exact pend_sound TTok mix 22 (hs := [.t false, .t false, .t true, .l (.d (.v (.int .u8 v_y469)))]) (by kernel_rfl) (by kernel_rfl) (by kernel_rfl) (.cons (df h294) (.cons (df h314) (.cons (dt h324) (.cons (show (0 : Int) ≤ 8 by decide) (.cons (getS_ob h326) .nil)))))
      · rw [if_neg h324] at h
        obtain ⟨v_y470, h327, h⟩ := bind_some h
        obtain rfl := Option.some.inj h
        exact pend_sound TTok mix 20 (hs := [.t false, .t false, .t false, .l (.d (.v (.int .u8 v_y470)))]) (by kernel_rfl) (by kernel_rfl) (by kernel_rfl) (.cons (df h294) (.cons (df h314) (.cons (df h324) (.cons (getS_ob h327) .nil))))
/- math/bits.Len -/
def G_math_bits_Len (n : Nat) (v_x416 : Int) : Option (Int) :=
  (G_math_bits_Len64 n v_x416).bind fun (v_r471 : (Int)) =>
  some v_r471
theorem G_math_bits_Len_ok (n : Nat) (v_x416 : Int) (r : Int) (h : G_math_bits_Len n v_x416 = some r) : Ret Try.prog 36 [(eI .u64) v_x416] ((eI .i64) r) := by
  refine ret_run (n := 8) (fn := Try.f36) (c := bodyOf Try.f36) (by kernel_rfl) (by kernel_rfl) (by kernel_rfl) (by kernel_rfl) ?_
  have hF : KC 8 (FinR Try.prog Try.f36 ((eI .i64) r)) := FinR.kc' (by kernel_rfl)
  unfold G_math_bits_Len at h
  obtain ⟨v_r471, h328, h⟩ := bind_some h
  obtain rfl := Option.some.inj h
  exact pend_sound TTok mix 8 (hs := [.c, .r ((eI .i64) v_r471)]) (by kernel_rfl) (by kernel_rfl) (by kernel_rfl) (.cons (G_math_bits_Len64_ok n v_x416 _ h328) .nil)
inductive G_slices_insertionSortCmpFunc_rmap_Pair_h_L1_R where
  | x0 (v_w506 : (List S_rmap_Pair))
def G_slices_insertionSortCmpFunc_rmap_Pair_h_L1_ex : G_slices_insertionSortCmpFunc_rmap_Pair_h_L1_R → Ex
  | .x0 _ => .exit 2
def G_slices_insertionSortCmpFunc_rmap_Pair_h_L1_st (v_a485 : Int) (v_b486 : Int) (v_cmp487 : (S_rmap_Pair → S_rmap_Pair → Option (Int))) (v_i488 : Int) (v_cmp487_g : FuncId) (v_cmp487_c : (List PV)) : G_slices_insertionSortCmpFunc_rmap_Pair_h_L1_R → PS
  | .x0 v_w506 => ⟨(.srf 1 :: .d (.v (.int .i64 v_a485)) :: .d (.v (.int .i64 v_b486)) :: .d (.clo v_cmp487_g v_cmp487_c) :: dd :: dd :: dd :: dd :: .d (.v (.int .i64 v_i488)) :: (dds 44 [])), [.gh 0 (.srf 1), .row 24 3 (v_w506.map eS_rmap_Pair)]⟩
def G_slices_insertionSortCmpFunc_rmap_Pair_h_L1_hd (v_a485 : Int) (v_b486 : Int) (v_cmp487 : (S_rmap_Pair → S_rmap_Pair → Option (Int))) (v_i488 : Int) (v_cmp487_g : FuncId) (v_cmp487_c : (List PV)) (v_j490 : Int) (v_w491 : (List S_rmap_Pair)) : PS := ⟨(.srf 1 :: .d (.v (.int .i64 v_a485)) :: .d (.v (.int .i64 v_b486)) :: .d (.clo v_cmp487_g v_cmp487_c) :: dd :: dd :: dd :: dd :: .d (.v (.int .i64 v_i488)) :: .d (.v (.int .i64 v_j490)) :: (dds 43 [])), [.gh 0 (.srf 1), .row 24 3 (v_w491.map eS_rmap_Pair)]⟩
def G_slices_insertionSortCmpFunc_rmap_Pair_h_L1 (n : Nat) (v_a485 : Int) (v_b486 : Int) (v_cmp487 : (S_rmap_Pair → S_rmap_Pair → Option (Int))) (v_i488 : Int) : Nat → Int → (List S_rmap_Pair) → Option G_slices_insertionSortCmpFunc_rmap_Pair_h_L1_R
  | 0, _, _ => none
  | k + 1, v_j490, v_w491 =>
    if v_j490 > v_a485 then
     if 0 ≤ v_j490 ∧ (v_j490).toNat < v_w491.length then
      (v_w491[(v_j490).toNat]?).bind fun (v_y495 : S_rmap_Pair) =>
      if 0 ≤ (wi .i64 (v_j490 - 1)) ∧ ((wi .i64 (v_j490 - 1))).toNat < v_w491.length then
       (v_w491[((wi .i64 (v_j490 - 1))).toNat]?).bind fun (v_y496 : S_rmap_Pair) =>
       (v_cmp487 v_y495 v_y496).bind fun (v_r497 : (Int)) =>
       if v_r497 < 0 then
        if 0 ≤ (wi .i64 (v_j490 - 1)) ∧ ((wi .i64 (v_j490 - 1))).toNat < v_w491.length then
         (v_w491[((wi .i64 (v_j490 - 1))).toNat]?).bind fun (v_y502 : S_rmap_Pair) =>
         if 0 ≤ v_j490 ∧ (v_j490).toNat < v_w491.length then
          (v_w491[(v_j490).toNat]?).bind fun (v_y503 : S_rmap_Pair) =>
          if 0 ≤ v_j490 ∧ (v_j490).toNat < v_w491.length then
           (v_w491[(v_j490).toNat]?).bind fun (v_y504 : S_rmap_Pair) =>
           if 0 ≤ (wi .i64 (v_j490 - 1)) ∧ ((wi .i64 (v_j490 - 1))).toNat < (v_w491.set (v_j490).toNat v_y502).length then
            ((v_w491.set (v_j490).toNat v_y502)[((wi .i64 (v_j490 - 1))).toNat]?).bind fun (v_y505 : S_rmap_Pair) =>
            G_slices_insertionSortCmpFunc_rmap_Pair_h_L1 n v_a485 v_b486 v_cmp487 v_i488 k (wi .i64 (v_j490 - 1)) ((v_w491.set (v_j490).toNat v_y502).set ((wi .i64 (v_j490 - 1))).toNat v_y503)
           else none
          else none
         else none
        else none
       else
        some (.x0 v_w491)
      else none
     else none
    else
     some (.x0 v_w491)
theorem G_slices_insertionSortCmpFunc_rmap_Pair_h_L1_ok {Fi : Ex → PS → Prop} (hF : KC 53 Fi) (ks : List Fr) (n : Nat) (v_a485 : Int) (v_b486 : Int) (v_cmp487 : (S_rmap_Pair → S_rmap_Pair → Option (Int))) (v_i488 : Int) (v_cmp487_g : FuncId) (v_cmp487_c : (List PV)) (v_cmp487_h : ∀ (x0 : S_rmap_Pair) (x1 : S_rmap_Pair) (r : Int), v_cmp487 x0 x1 = some r → Ret Try.prog v_cmp487_g ([eS_rmap_Pair x0, eS_rmap_Pair x1] ++ v_cmp487_c) ((eI .i64) r)) : ∀ (k : Nat) (v_j490 : Int) (v_w491 : (List S_rmap_Pair)) (o : G_slices_insertionSortCmpFunc_rmap_Pair_h_L1_R), G_slices_insertionSortCmpFunc_rmap_Pair_h_L1 n v_a485 v_b486 v_cmp487 v_i488 k v_j490 v_w491 = some o → RunE Try.prog 53 Fi ks (G_slices_insertionSortCmpFunc_rmap_Pair_h_L1_ex o) (G_slices_insertionSortCmpFunc_rmap_Pair_h_L1_st v_a485 v_b486 v_cmp487 v_i488 v_cmp487_g v_cmp487_c o) → RunE Try.prog 53 Fi (.l k (cP (cB (cR (cB (cL (cR (cP (cB (cR (bodyOf Try.f39)))))))))) :: ks) .normal (G_slices_insertionSortCmpFunc_rmap_Pair_h_L1_hd v_a485 v_b486 v_cmp487 v_i488 v_cmp487_g v_cmp487_c v_j490 v_w491)
  | 0, v_j490, v_w491, o, h, q => by rw [G_slices_insertionSortCmpFunc_rmap_Pair_h_L1] at h; cases h
  | k + 1, v_j490, v_w491, o, h, q => by
    rw [G_slices_insertionSortCmpFunc_rmap_Pair_h_L1] at h
    by_cases h338 : v_j490 > v_a485
    · rw [if_pos h338] at h
      by_cases h339 : 0 ≤ v_j490 ∧ (v_j490).toNat < v_w491.length
      · rw [if_pos h339] at h
        obtain ⟨v_y495, h340, h⟩ := bind_some h
        by_cases h341 : 0 ≤ (wi .i64 (v_j490 - 1)) ∧ ((wi .i64 (v_j490 - 1))).toNat < v_w491.length
        · rw [if_pos h341] at h
          obtain ⟨v_y496, h342, h⟩ := bind_some h
          obtain ⟨v_r497, h343, h⟩ := bind_some h
          by_cases h344 : v_r497 < 0
          · rw [if_pos h344] at h
            by_cases h353 : 0 ≤ (wi .i64 (v_j490 - 1)) ∧ ((wi .i64 (v_j490 - 1))).toNat < v_w491.length
            · rw [if_pos h353] at h
              obtain ⟨v_y502, h354, h⟩ := bind_some h
              by_cases h355 : 0 ≤ v_j490 ∧ (v_j490).toNat < v_w491.length
              · rw [if_pos h355] at h
                obtain ⟨v_y503, h356, h⟩ := bind_some h
                by_cases h357 : 0 ≤ v_j490 ∧ (v_j490).toNat < v_w491.length
                · rw [if_pos h357] at h
                  obtain ⟨v_y504, h358, h⟩ := bind_some h
                  by_cases h359 : 0 ≤ (wi .i64 (v_j490 - 1)) ∧ ((wi .i64 (v_j490 - 1))).toNat < (v_w491.set (v_j490).toNat v_y502).length
                  · rw [if_pos h359] at h
                    obtain ⟨v_y505, h360, h⟩ := bind_some h
                    exact pkk_sound TTok mix hF 11 (hs := [.t true, .c, .c, .c, .c, .y (eS_rmap_Pair v_y495), .c, .c, .c, .c, .c, .y (eS_rmap_Pair v_y496), .c, .r ((eI .i64) v_r497), .c, .t true, .y (eS_rmap_Pair v_y502), .y (eS_rmap_Pair v_y503), .w ((v_w491.set (v_j490).toNat v_y502).map eS_rmap_Pair), .y (eS_rmap_Pair v_y504), .w (((v_w491.set (v_j490).toNat v_y502).set ((wi .i64 (v_j490 - 1))).toNat v_y503).map eS_rmap_Pair), .y (eS_rmap_Pair v_y505)]) (ts := []) (s := [0, 1]) (l := [0, 1, 2, 3, 8, 9]) (by kernel_rfl) (by kernel_rfl) (.cons (dt h338) (.cons (idx_ob (f := eS_rmap_Pair) h339) (.cons (get_ob (f := eS_rmap_Pair) h340) (.cons (idx_ob (f := eS_rmap_Pair) h341) (.cons (get_ob (f := eS_rmap_Pair) h342) (.cons (v_cmp487_h v_y495 v_y496 _ h343) (.cons (dt h344) (.cons (idx_ob (f := eS_rmap_Pair) h353) (.cons (get_ob (f := eS_rmap_Pair) h354) (.cons (idx_ob (f := eS_rmap_Pair) h355) (.cons (get_ob (f := eS_rmap_Pair) h356) (.cons (idx_ob (f := eS_rmap_Pair) h357) (.cons (get_ob (f := eS_rmap_Pair) h358) (.cons (Eq.refl (pcells (.agg [.v (.int .i64 v_y502.fFrame), .v (.int .i64 v_y502.fSpace), .v (.int .i64 v_y502.fPage)]))) (.cons (set_ob (f := eS_rmap_Pair) (l := v_w491) (k := (v_j490).toNat) (z := v_y502) (p := .agg [.v (.int .i64 v_y502.fFrame), .v (.int .i64 v_y502.fSpace), .v (.int .i64 v_y502.fPage)]) rfl) (.cons (idx_ob (f := eS_rmap_Pair) h359) (.cons (get_ob (f := eS_rmap_Pair) h360) (.cons (Eq.refl (pcells (.agg [.v (.int .i64 v_y503.fFrame), .v (.int .i64 v_y503.fSpace), .v (.int .i64 v_y503.fPage)]))) (.cons (set_ob (f := eS_rmap_Pair) (l := (v_w491.set (v_j490).toNat v_y502)) (k := ((wi .i64 (v_j490 - 1))).toNat) (z := v_y503) (p := .agg [.v (.int .i64 v_y503.fFrame), .v (.int .i64 v_y503.fSpace), .v (.int .i64 v_y503.fPage)]) rfl) .nil))))))))))))))))))) (G_slices_insertionSortCmpFunc_rmap_Pair_h_L1_ok hF ks n v_a485 v_b486 v_cmp487 v_i488 v_cmp487_g v_cmp487_c v_cmp487_h k (wi .i64 (v_j490 - 1)) ((v_w491.set (v_j490).toNat v_y502).set ((wi .i64 (v_j490 - 1))).toNat v_y503) _ h q)
                  · rw [if_neg h359] at h; cases h
                · rw [if_neg h357] at h; cases h
              · rw [if_neg h355] at h; cases h
            · rw [if_neg h353] at h; cases h
          · rw [if_neg h344] at h
            cases h
            exact pkk_sound TTok mix hF 8 (hs := [.t true, .c, .c, .c, .c, .y (eS_rmap_Pair v_y495), .c, .c, .c, .c, .c, .y (eS_rmap_Pair v_y496), .c, .r ((eI .i64) v_r497), .c, .t false]) (ts := []) (s := [0, 1]) (l := [0, 1, 2, 3, 8]) (by kernel_rfl) (by kernel_rfl) (.cons (dt h338) (.cons (idx_ob (f := eS_rmap_Pair) h339) (.cons (get_ob (f := eS_rmap_Pair) h340) (.cons (idx_ob (f := eS_rmap_Pair) h341) (.cons (get_ob (f := eS_rmap_Pair) h342) (.cons (v_cmp487_h v_y495 v_y496 _ h343) (.cons (df h344) .nil))))))) q
        · rw [if_neg h341] at h; cases h
      · rw [if_neg h339] at h; cases h
    · rw [if_neg h338] at h
      cases h
      exact pkk_sound TTok mix hF 8 (hs := [.t false, .c, .c, .c, .c, .c, .c, .c, .c, .c, .c, .c, .c]) (ts := []) (s := [0, 1]) (l := [0, 1, 2, 3, 8]) (by kernel_rfl) (by kernel_rfl) (.cons (df h338) .nil) q
inductive G_slices_insertionSortCmpFunc_rmap_Pair_h_L2_R where
  | x0 (v_w510 : (List S_rmap_Pair))
def G_slices_insertionSortCmpFunc_rmap_Pair_h_L2_ex : G_slices_insertionSortCmpFunc_rmap_Pair_h_L2_R → Ex
  | .x0 _ => .exit 0
def G_slices_insertionSortCmpFunc_rmap_Pair_h_L2_st (v_a485 : Int) (v_b486 : Int) (v_cmp487 : (S_rmap_Pair → S_rmap_Pair → Option (Int))) (v_cmp487_g : FuncId) (v_cmp487_c : (List PV)) : G_slices_insertionSortCmpFunc_rmap_Pair_h_L2_R → PS
  | .x0 v_w510 => ⟨(dds 53 []), [.gh 0 (.srf 1), .row 24 3 (v_w510.map eS_rmap_Pair)]⟩
def G_slices_insertionSortCmpFunc_rmap_Pair_h_L2_hd (v_a485 : Int) (v_b486 : Int) (v_cmp487 : (S_rmap_Pair → S_rmap_Pair → Option (Int))) (v_cmp487_g : FuncId) (v_cmp487_c : (List PV)) (v_i488 : Int) (v_w489 : (List S_rmap_Pair)) : PS := ⟨(.srf 1 :: .d (.v (.int .i64 v_a485)) :: .d (.v (.int .i64 v_b486)) :: .d (.clo v_cmp487_g v_cmp487_c) :: dd :: dd :: dd :: dd :: .d (.v (.int .i64 v_i488)) :: (dds 44 [])), [.gh 0 (.srf 1), .row 24 3 (v_w489.map eS_rmap_Pair)]⟩
def G_slices_insertionSortCmpFunc_rmap_Pair_h_L2 (n : Nat) (v_a485 : Int) (v_b486 : Int) (v_cmp487 : (S_rmap_Pair → S_rmap_Pair → Option (Int))) : Nat → Int → (List S_rmap_Pair) → Option G_slices_insertionSortCmpFunc_rmap_Pair_h_L2_R
  | 0, _, _ => none
  | k + 1, v_i488, v_w489 =>
    if v_i488 < v_b486 then
     (G_slices_insertionSortCmpFunc_rmap_Pair_h_L1 n v_a485 v_b486 v_cmp487 v_i488 n v_i488 v_w489).bind fun v_o508 => match v_o508 with
     | .x0 v_z509 =>
       G_slices_insertionSortCmpFunc_rmap_Pair_h_L2 n v_a485 v_b486 v_cmp487 k (wi .i64 (v_i488 + 1)) v_z509
    else
     some (.x0 v_w489)
theorem G_slices_insertionSortCmpFunc_rmap_Pair_h_L2_ok {Fi : Ex → PS → Prop} (hF : KC 53 Fi) (ks : List Fr) (n : Nat) (v_a485 : Int) (v_b486 : Int) (v_cmp487 : (S_rmap_Pair → S_rmap_Pair → Option (Int))) (v_cmp487_g : FuncId) (v_cmp487_c : (List PV)) (v_cmp487_h : ∀ (x0 : S_rmap_Pair) (x1 : S_rmap_Pair) (r : Int), v_cmp487 x0 x1 = some r → Ret Try.prog v_cmp487_g ([eS_rmap_Pair x0, eS_rmap_Pair x1] ++ v_cmp487_c) ((eI .i64) r)) : ∀ (k : Nat) (v_i488 : Int) (v_w489 : (List S_rmap_Pair)) (o : G_slices_insertionSortCmpFunc_rmap_Pair_h_L2_R), G_slices_insertionSortCmpFunc_rmap_Pair_h_L2 n v_a485 v_b486 v_cmp487 k v_i488 v_w489 = some o → RunE Try.prog 53 Fi ks (G_slices_insertionSortCmpFunc_rmap_Pair_h_L2_ex o) (G_slices_insertionSortCmpFunc_rmap_Pair_h_L2_st v_a485 v_b486 v_cmp487 v_cmp487_g v_cmp487_c o) → RunE Try.prog 53 Fi (.l k (cP (cB (cR (bodyOf Try.f39)))) :: ks) .normal (G_slices_insertionSortCmpFunc_rmap_Pair_h_L2_hd v_a485 v_b486 v_cmp487 v_cmp487_g v_cmp487_c v_i488 v_w489)
  | 0, v_i488, v_w489, o, h, q => by rw [G_slices_insertionSortCmpFunc_rmap_Pair_h_L2] at h; cases h
  | k + 1, v_i488, v_w489, o, h, q => by
    rw [G_slices_insertionSortCmpFunc_rmap_Pair_h_L2] at h
    by_cases h331 : v_i488 < v_b486
    · rw [if_pos h331] at h
      obtain ⟨v_o508, h361, h⟩ := bind_some h
      refine pkk_sound TTok mix hF 12 (hs := [.t true, .n n]) (ts := []) (s := [0, 1]) (l := [0, 1, 2, 3, 8, 9]) (by kernel_rfl) (by kernel_rfl) (.cons (dt h331) .nil) (G_slices_insertionSortCmpFunc_rmap_Pair_h_L1_ok hF (.b 2 :: .b 1 :: .s (cR (cR (cP (cB (cR (bodyOf Try.f39)))))) :: .l k (cP (cB (cR (bodyOf Try.f39)))) :: ks) n v_a485 v_b486 v_cmp487 v_i488 v_cmp487_g v_cmp487_c v_cmp487_h n v_i488 v_w489 _ h361 ?_)
      cases v_o508 with
      | x0 v_z509 =>
        try dsimp only at h
        exact pkk_sound TTok mix hF 3 (hs := []) (ts := []) (s := [0, 1]) (l := [0, 1, 2, 3, 8]) (by kernel_rfl) (by kernel_rfl) .nil (G_slices_insertionSortCmpFunc_rmap_Pair_h_L2_ok hF ks n v_a485 v_b486 v_cmp487 v_cmp487_g v_cmp487_c v_cmp487_h k (wi .i64 (v_i488 + 1)) v_z509 _ h q)
    · rw [if_neg h331] at h
      cases h
      exact pkk_sound TTok mix hF 8 (hs := [.t false]) (ts := []) (s := [0, 1]) (l := []) (by kernel_rfl) (by kernel_rfl) (.cons (df h331) .nil) q
/- slices.insertionSortCmpFunc[ringhall/rmap.Pair] -/
def G_slices_insertionSortCmpFunc_rmap_Pair_h (n : Nat) (v_data484 : (List S_rmap_Pair)) (v_a485 : Int) (v_b486 : Int) (v_cmp487 : (S_rmap_Pair → S_rmap_Pair → Option (Int))) : Option ((List S_rmap_Pair)) :=
  (G_slices_insertionSortCmpFunc_rmap_Pair_h_L2 n v_a485 v_b486 v_cmp487 n (wi .i64 (v_a485 + 1)) v_data484).bind fun v_o511 => match v_o511 with
  | .x0 v_z512 =>
    some v_z512
theorem G_slices_insertionSortCmpFunc_rmap_Pair_h_ok (n : Nat) (v_data484 : (List S_rmap_Pair)) (v_a485 : Int) (v_b486 : Int) (v_cmp487 : (S_rmap_Pair → S_rmap_Pair → Option (Int))) (v_cmp487_g : FuncId) (v_cmp487_c : List PV) (v_cmp487_h : ∀ (x0 : S_rmap_Pair) (x1 : S_rmap_Pair) (r : Int), v_cmp487 x0 x1 = some r → Ret Try.prog v_cmp487_g ([eS_rmap_Pair x0, eS_rmap_Pair x1] ++ v_cmp487_c) ((eI .i64) r)) (r : (List S_rmap_Pair)) (h : G_slices_insertionSortCmpFunc_rmap_Pair_h n v_data484 v_a485 v_b486 v_cmp487 = some r) : RetH Try.prog 39 [.srf 0, .d ((eI .i64) v_a485), .d ((eI .i64) v_b486), .d ((.clo v_cmp487_g v_cmp487_c))] [.row 24 3 (v_data484.map eS_rmap_Pair)] (.tup []) [.row 24 3 (r.map eS_rmap_Pair)] := by
  refine retH_run (n := 53) (fn := Try.f39) (c := bodyOf Try.f39) (by kernel_rfl) (by kernel_rfl) (by kernel_rfl) (by kernel_rfl) ?_
  have hF : KC 53 (FinH Try.prog Try.f39 [.row 24 3 (v_data484.map eS_rmap_Pair)] (.tup []) [.row 24 3 (r.map eS_rmap_Pair)]) := FinH.kc' (by kernel_rfl)
  unfold G_slices_insertionSortCmpFunc_rmap_Pair_h at h
  obtain ⟨v_o511, h362, h⟩ := bind_some h
  refine pkk_sound TTok mix hF 4 (hs := [.n n]) (ts := []) (s := [1, 0]) (l := [0, 1, 2, 3, 8]) (by kernel_rfl) (by kernel_rfl) .nil (G_slices_insertionSortCmpFunc_rmap_Pair_h_L2_ok hF (.b 0 :: []) n v_a485 v_b486 v_cmp487 v_cmp487_g v_cmp487_c v_cmp487_h n (wi .i64 (v_a485 + 1)) v_data484 _ h362 ?_)
  cases v_o511 with
  | x0 v_z512 =>
    try dsimp only at h
    obtain rfl := Option.some.inj h
    exact pendH_sound TTok mix 1 (hs := []) [1] (by kernel_rfl) (by kernel_rfl) (by kernel_rfl) .nil
inductive G_slices_siftDownCmpFunc_rmap_Pair_h_C1_R where
  | x0 (v_x562 : Bool) (v_w563 : (List S_rmap_Pair))
def G_slices_siftDownCmpFunc_rmap_Pair_h_C1_ex : G_slices_siftDownCmpFunc_rmap_Pair_h_C1_R → Ex
  | .x0 _ _ => .normal
def G_slices_siftDownCmpFunc_rmap_Pair_h_C1_st (v_hi523 : Int) (v_first524 : Int) (v_cmp525 : (S_rmap_Pair → S_rmap_Pair → Option (Int))) (v_root526 : Int) (v_w527 : (List S_rmap_Pair)) (v_cmp525_g : FuncId) (v_cmp525_c : (List PV)) : G_slices_siftDownCmpFunc_rmap_Pair_h_C1_R → PS
  | .x0 v_x562 v_w563 => ⟨(.srf 1 :: dd :: .d (.v (.int .i64 v_hi523)) :: .d (.v (.int .i64 v_first524)) :: .d (.clo v_cmp525_g v_cmp525_c) :: dd :: dd :: dd :: dd :: dd :: .d (.v (.int .i64 v_root526)) :: .d (.v (.int .i64 (wi .i64 ((wi .i64 (2 * v_root526)) + 1)))) :: (dds 28 (.d (.v (.bool v_x562)) :: (dds 41 [])))), [.gh 0 (.srf 1), .row 24 3 (v_w563.map eS_rmap_Pair)]⟩
def G_slices_siftDownCmpFunc_rmap_Pair_h_C1_hd (v_hi523 : Int) (v_first524 : Int) (v_cmp525 : (S_rmap_Pair → S_rmap_Pair → Option (Int))) (v_root526 : Int) (v_w527 : (List S_rmap_Pair)) (v_cmp525_g : FuncId) (v_cmp525_c : (List PV))  : PS := ⟨(.srf 1 :: dd :: .d (.v (.int .i64 v_hi523)) :: .d (.v (.int .i64 v_first524)) :: .d (.clo v_cmp525_g v_cmp525_c) :: dd :: dd :: dd :: dd :: dd :: .d (.v (.int .i64 v_root526)) :: .d (.v (.int .i64 (wi .i64 ((wi .i64 (2 * v_root526)) + 1)))) :: (dds 70 [])), [.gh 0 (.srf 1), .row 24 3 (v_w527.map eS_rmap_Pair)]⟩
def G_slices_siftDownCmpFunc_rmap_Pair_h_C1 (n : Nat) (v_hi523 : Int) (v_first524 : Int) (v_cmp525 : (S_rmap_Pair → S_rmap_Pair → Option (Int))) (v_root526 : Int) (v_w527 : (List S_rmap_Pair)) : Option G_slices_siftDownCmpFunc_rmap_Pair_h_C1_R :=
  if (wi .i64 ((wi .i64 ((wi .i64 (2 * v_root526)) + 1)) + 1)) < v_hi523 then
   if 0 ≤ (wi .i64 (v_first524 + (wi .i64 ((wi .i64 (2 * v_root526)) + 1)))) ∧ ((wi .i64 (v_first524 + (wi .i64 ((wi .i64 (2 * v_root526)) + 1))))).toNat < v_w527.length then
    (v_w527[((wi .i64 (v_first524 + (wi .i64 ((wi .i64 (2 * v_root526)) + 1))))).toNat]?).bind fun (v_y559 : S_rmap_Pair) =>
    if 0 ≤ (wi .i64 ((wi .i64 (v_first524 + (wi .i64 ((wi .i64 (2 * v_root526)) + 1)))) + 1)) ∧ ((wi .i64 ((wi .i64 (v_first524 + (wi .i64 ((wi .i64 (2 * v_root526)) + 1)))) + 1))).toNat < v_w527.length then
     (v_w527[((wi .i64 ((wi .i64 (v_first524 + (wi .i64 ((wi .i64 (2 * v_root526)) + 1)))) + 1))).toNat]?).bind fun (v_y560 : S_rmap_Pair) =>
     (v_cmp525 v_y559 v_y560).bind fun (v_r561 : (Int)) =>
     some (.x0 (decide (v_r561 < 0)) v_w527)
    else none
   else none
  else
   some (.x0 false v_w527)
theorem G_slices_siftDownCmpFunc_rmap_Pair_h_C1_ok {Fi : Ex → PS → Prop} (hF : KC 82 Fi) (ks : List Fr) (n : Nat) (v_hi523 : Int) (v_first524 : Int) (v_cmp525 : (S_rmap_Pair → S_rmap_Pair → Option (Int))) (v_root526 : Int) (v_w527 : (List S_rmap_Pair)) (v_cmp525_g : FuncId) (v_cmp525_c : (List PV)) (v_cmp525_h : ∀ (x0 : S_rmap_Pair) (x1 : S_rmap_Pair) (r : Int), v_cmp525 x0 x1 = some r → Ret Try.prog v_cmp525_g ([eS_rmap_Pair x0, eS_rmap_Pair x1] ++ v_cmp525_c) ((eI .i64) r)) (o : G_slices_siftDownCmpFunc_rmap_Pair_h_C1_R) (h : G_slices_siftDownCmpFunc_rmap_Pair_h_C1 n v_hi523 v_first524 v_cmp525 v_root526 v_w527 = some o) (q : RunE Try.prog 82 Fi ks (G_slices_siftDownCmpFunc_rmap_Pair_h_C1_ex o) (G_slices_siftDownCmpFunc_rmap_Pair_h_C1_st v_hi523 v_first524 v_cmp525 v_root526 v_w527 v_cmp525_g v_cmp525_c o)) : RunE Try.prog 82 Fi (.s (cL (cL (cR (cR (cB (cP (cB (cR (bodyOf Try.f50))))))))) :: ks) .normal (G_slices_siftDownCmpFunc_rmap_Pair_h_C1_hd v_hi523 v_first524 v_cmp525 v_root526 v_w527 v_cmp525_g v_cmp525_c) := by
  unfold G_slices_siftDownCmpFunc_rmap_Pair_h_C1 at h
  by_cases h407 : (wi .i64 ((wi .i64 ((wi .i64 (2 * v_root526)) + 1)) + 1)) < v_hi523
  · rw [if_pos h407] at h
    by_cases h408 : 0 ≤ (wi .i64 (v_first524 + (wi .i64 ((wi .i64 (2 * v_root526)) + 1)))) ∧ ((wi .i64 (v_first524 + (wi .i64 ((wi .i64 (2 * v_root526)) + 1))))).toNat < v_w527.length
    · rw [if_pos h408] at h
      obtain ⟨v_y559, h409, h⟩ := bind_some h
      by_cases h410 : 0 ≤ (wi .i64 ((wi .i64 (v_first524 + (wi .i64 ((wi .i64 (2 * v_root526)) + 1)))) + 1)) ∧ ((wi .i64 ((wi .i64 (v_first524 + (wi .i64 ((wi .i64 (2 * v_root526)) + 1)))) + 1))).toNat < v_w527.length
      · rw [if_pos h410] at h
        obtain ⟨v_y560, h411, h⟩ := bind_some h
        obtain ⟨v_r561, h412, h⟩ := bind_some h
        cases h
        exact pkk_sound TTok mix hF 1 (hs := [.t true, .c, .c, .c, .c, .c, .c, .y (eS_rmap_Pair v_y559), .c, .c, .c, .c, .c, .c, .c, .y (eS_rmap_Pair v_y560), .c, .r ((eI .i64) v_r561), .c]) (ts := []) (s := [0, 1]) (l := [0, 2, 3, 4, 10, 11, 40]) (by kernel_rfl) (by kernel_rfl) (.cons (dt h407) (.cons (idx_ob (f := eS_rmap_Pair) h408) (.cons (get_ob (f := eS_rmap_Pair) h409) (.cons (idx_ob (f := eS_rmap_Pair) h410) (.cons (get_ob (f := eS_rmap_Pair) h411) (.cons (v_cmp525_h v_y559 v_y560 _ h412) .nil)))))) q
      · rw [if_neg h410] at h; cases h
    · rw [if_neg h408] at h; cases h
  · rw [if_neg h407] at h
    cases h
    exact pkk_sound TTok mix hF 1 (hs := [.t false, .c, .c, .c, .c, .c, .c, .c, .c, .c, .c, .c, .c, .c, .c, .c]) (ts := []) (s := [0, 1]) (l := [0, 2, 3, 4, 10, 11, 40]) (by kernel_rfl) (by kernel_rfl) (.cons (df h407) .nil) q
inductive G_slices_siftDownCmpFunc_rmap_Pair_h_C2_R where
  | x0 (v_child569 : Int) (v_w570 : (List S_rmap_Pair))
def G_slices_siftDownCmpFunc_rmap_Pair_h_C2_ex : G_slices_siftDownCmpFunc_rmap_Pair_h_C2_R → Ex
  | .x0 _ _ => .normal
def G_slices_siftDownCmpFunc_rmap_Pair_h_C2_st (v_hi523 : Int) (v_first524 : Int) (v_cmp525 : (S_rmap_Pair → S_rmap_Pair → Option (Int))) (v_root526 : Int) (v_z567 : Bool) (v_z568 : (List S_rmap_Pair)) (v_cmp525_g : FuncId) (v_cmp525_c : (List PV)) : G_slices_siftDownCmpFunc_rmap_Pair_h_C2_R → PS
  | .x0 v_child569 v_w570 => ⟨(.srf 1 :: dd :: .d (.v (.int .i64 v_hi523)) :: .d (.v (.int .i64 v_first524)) :: .d (.clo v_cmp525_g v_cmp525_c) :: dd :: dd :: dd :: dd :: dd :: .d (.v (.int .i64 v_root526)) :: .d (.v (.int .i64 v_child569)) :: (dds 70 [])), [.gh 0 (.srf 1), .row 24 3 (v_w570.map eS_rmap_Pair)]⟩
def G_slices_siftDownCmpFunc_rmap_Pair_h_C2_hd (v_hi523 : Int) (v_first524 : Int) (v_cmp525 : (S_rmap_Pair → S_rmap_Pair → Option (Int))) (v_root526 : Int) (v_z567 : Bool) (v_z568 : (List S_rmap_Pair)) (v_cmp525_g : FuncId) (v_cmp525_c : (List PV))  : PS := ⟨(.srf 1 :: dd :: .d (.v (.int .i64 v_hi523)) :: .d (.v (.int .i64 v_first524)) :: .d (.clo v_cmp525_g v_cmp525_c) :: dd :: dd :: dd :: dd :: dd :: .d (.v (.int .i64 v_root526)) :: .d (.v (.int .i64 (wi .i64 ((wi .i64 (2 * v_root526)) + 1)))) :: (dds 28 (.d (.v (.bool v_z567)) :: (dds 41 [])))), [.gh 0 (.srf 1), .row 24 3 (v_z568.map eS_rmap_Pair)]⟩
def G_slices_siftDownCmpFunc_rmap_Pair_h_C2 (n : Nat) (v_hi523 : Int) (v_first524 : Int) (v_cmp525 : (S_rmap_Pair → S_rmap_Pair → Option (Int))) (v_root526 : Int) (v_z567 : Bool) (v_z568 : (List S_rmap_Pair)) : Option G_slices_siftDownCmpFunc_rmap_Pair_h_C2_R :=
  if v_z567 = true then
   some (.x0 (wi .i64 ((wi .i64 ((wi .i64 (2 * v_root526)) + 1)) + 1)) v_z568)
  else
   some (.x0 (wi .i64 ((wi .i64 (2 * v_root526)) + 1)) v_z568)
theorem G_slices_siftDownCmpFunc_rmap_Pair_h_C2_ok {Fi : Ex → PS → Prop} (hF : KC 82 Fi) (ks : List Fr) (n : Nat) (v_hi523 : Int) (v_first524 : Int) (v_cmp525 : (S_rmap_Pair → S_rmap_Pair → Option (Int))) (v_root526 : Int) (v_z567 : Bool) (v_z568 : (List S_rmap_Pair)) (v_cmp525_g : FuncId) (v_cmp525_c : (List PV)) (v_cmp525_h : ∀ (x0 : S_rmap_Pair) (x1 : S_rmap_Pair) (r : Int), v_cmp525 x0 x1 = some r → Ret Try.prog v_cmp525_g ([eS_rmap_Pair x0, eS_rmap_Pair x1] ++ v_cmp525_c) ((eI .i64) r)) (o : G_slices_siftDownCmpFunc_rmap_Pair_h_C2_R) (h : G_slices_siftDownCmpFunc_rmap_Pair_h_C2 n v_hi523 v_first524 v_cmp525 v_root526 v_z567 v_z568 = some o) (q : RunE Try.prog 82 Fi ks (G_slices_siftDownCmpFunc_rmap_Pair_h_C2_ex o) (G_slices_siftDownCmpFunc_rmap_Pair_h_C2_st v_hi523 v_first524 v_cmp525 v_root526 v_z567 v_z568 v_cmp525_g v_cmp525_c o)) : RunE Try.prog 82 Fi (.s (cR (cL (cR (cR (cB (cP (cB (cR (bodyOf Try.f50))))))))) :: ks) .normal (G_slices_siftDownCmpFunc_rmap_Pair_h_C2_hd v_hi523 v_first524 v_cmp525 v_root526 v_z567 v_z568 v_cmp525_g v_cmp525_c) := by
  unfold G_slices_siftDownCmpFunc_rmap_Pair_h_C2 at h
  by_cases h415 : v_z567 = true
  · rw [if_pos h415] at h
    cases h
    exact pkk_sound TTok mix hF 2 (hs := [.t true]) (ts := []) (s := [0, 1]) (l := [0, 2, 3, 4, 10, 11]) (by kernel_rfl) (by kernel_rfl) (.cons h415 .nil) q
  · rw [if_neg h415] at h
    cases h
    exact pkk_sound TTok mix hF 2 (hs := [.t false]) (ts := []) (s := [0, 1]) (l := [0, 2, 3, 4, 10, 11]) (by kernel_rfl) (by kernel_rfl) (.cons (vf h415) .nil) q
inductive G_slices_siftDownCmpFunc_rmap_Pair_h_L3_R where
  | x0 (v_w555 : (List S_rmap_Pair))
  | x1 (v_w579 : (List S_rmap_Pair))
def G_slices_siftDownCmpFunc_rmap_Pair_h_L3_ex : G_slices_siftDownCmpFunc_rmap_Pair_h_L3_R → Ex
  | .x0 _ => .exit 0
  | .x1 _ => .ret
def G_slices_siftDownCmpFunc_rmap_Pair_h_L3_st (v_hi523 : Int) (v_first524 : Int) (v_cmp525 : (S_rmap_Pair → S_rmap_Pair → Option (Int))) (v_cmp525_g : FuncId) (v_cmp525_c : (List PV)) : G_slices_siftDownCmpFunc_rmap_Pair_h_L3_R → PS
  | .x0 v_w555 => ⟨(dds 82 []), [.gh 0 (.srf 1), .row 24 3 (v_w555.map eS_rmap_Pair)]⟩
  | .x1 v_w579 => ⟨(dds 82 []), [.gh 0 (.srf 1), .row 24 3 (v_w579.map eS_rmap_Pair)]⟩
def G_slices_siftDownCmpFunc_rmap_Pair_h_L3_hd (v_hi523 : Int) (v_first524 : Int) (v_cmp525 : (S_rmap_Pair → S_rmap_Pair → Option (Int))) (v_cmp525_g : FuncId) (v_cmp525_c : (List PV)) (v_root526 : Int) (v_w527 : (List S_rmap_Pair)) : PS := ⟨(.srf 1 :: dd :: .d (.v (.int .i64 v_hi523)) :: .d (.v (.int .i64 v_first524)) :: .d (.clo v_cmp525_g v_cmp525_c) :: dd :: dd :: dd :: dd :: dd :: .d (.v (.int .i64 v_root526)) :: (dds 71 [])), [.gh 0 (.srf 1), .row 24 3 (v_w527.map eS_rmap_Pair)]⟩
def G_slices_siftDownCmpFunc_rmap_Pair_h_L3 (n : Nat) (v_hi523 : Int) (v_first524 : Int) (v_cmp525 : (S_rmap_Pair → S_rmap_Pair → Option (Int))) : Nat → Int → (List S_rmap_Pair) → Option G_slices_siftDownCmpFunc_rmap_Pair_h_L3_R
  | 0, _, _ => none
  | k + 1, v_root526, v_w527 =>
    if (wi .i64 ((wi .i64 (2 * v_root526)) + 1)) ≥ v_hi523 then
     some (.x0 v_w527)
    else
     (G_slices_siftDownCmpFunc_rmap_Pair_h_C1 n v_hi523 v_first524 v_cmp525 v_root526 v_w527).bind fun v_o566 => match v_o566 with
     | .x0 v_z567 v_z568 =>
       (G_slices_siftDownCmpFunc_rmap_Pair_h_C2 n v_hi523 v_first524 v_cmp525 v_root526 v_z567 v_z568).bind fun v_o573 => match v_o573 with
       | .x0 v_z574 v_z575 =>
         if 0 ≤ (wi .i64 (v_first524 + v_root526)) ∧ ((wi .i64 (v_first524 + v_root526))).toNat < v_z575.length then
          (v_z575[((wi .i64 (v_first524 + v_root526))).toNat]?).bind fun (v_y576 : S_rmap_Pair) =>
          if 0 ≤ (wi .i64 (v_first524 + v_z574)) ∧ ((wi .i64 (v_first524 + v_z574))).toNat < v_z575.length then
           (v_z575[((wi .i64 (v_first524 + v_z574))).toNat]?).bind fun (v_y577 : S_rmap_Pair) =>
           (v_cmp525 v_y576 v_y577).bind fun (v_r578 : (Int)) =>
           if v_r578 < 0 then
            if 0 ≤ (wi .i64 (v_first524 + v_z574)) ∧ ((wi .i64 (v_first524 + v_z574))).toNat < v_z575.length then
             (v_z575[((wi .i64 (v_first524 + v_z574))).toNat]?).bind fun (v_y580 : S_rmap_Pair) =>
             if 0 ≤ (wi .i64 (v_first524 + v_root526)) ∧ ((wi .i64 (v_first524 + v_root526))).toNat < v_z575.length then
              (v_z575[((wi .i64 (v_first524 + v_root526))).toNat]?).bind fun (v_y581 : S_rmap_Pair) =>
              if 0 ≤ (wi .i64 (v_first524 + v_root526)) ∧ ((wi .i64 (v_first524 + v_root526))).toNat < v_z575.length then
               (v_z575[((wi .i64 (v_first524 + v_root526))).toNat]?).bind fun (v_y582 : S_rmap_Pair) =>
               if 0 ≤ (wi .i64 (v_first524 + v_z574)) ∧ ((wi .i64 (v_first524 + v_z574))).toNat < (v_z575.set ((wi .i64 (v_first524 + v_root526))).toNat v_y580).length then
                ((v_z575.set ((wi .i64 (v_first524 + v_root526))).toNat v_y580)[((wi .i64 (v_first524 + v_z574))).toNat]?).bind fun (v_y583 : S_rmap_Pair) =>
                G_slices_siftDownCmpFunc_rmap_Pair_h_L3 n v_hi523 v_first524 v_cmp525 k v_z574 ((v_z575.set ((wi .i64 (v_first524 + v_root526))).toNat v_y580).set ((wi .i64 (v_first524 + v_z574))).toNat v_y581)
               else none
              else none
             else none
            else none
           else
            some (.x1 v_z575)
          else none
         else none
theorem G_slices_siftDownCmpFunc_rmap_Pair_h_L3_ok {Fi : Ex → PS → Prop} (hF : KC 82 Fi) (ks : List Fr) (n : Nat) (v_hi523 : Int) (v_first524 : Int) (v_cmp525 : (S_rmap_Pair → S_rmap_Pair → Option (Int))) (v_cmp525_g : FuncId) (v_cmp525_c : (List PV)) (v_cmp525_h : ∀ (x0 : S_rmap_Pair) (x1 : S_rmap_Pair) (r : Int), v_cmp525 x0 x1 = some r → Ret Try.prog v_cmp525_g ([eS_rmap_Pair x0, eS_rmap_Pair x1] ++ v_cmp525_c) ((eI .i64) r)) : ∀ (k : Nat) (v_root526 : Int) (v_w527 : (List S_rmap_Pair)) (o : G_slices_siftDownCmpFunc_rmap_Pair_h_L3_R), G_slices_siftDownCmpFunc_rmap_Pair_h_L3 n v_hi523 v_first524 v_cmp525 k v_root526 v_w527 = some o → RunE Try.prog 82 Fi ks (G_slices_siftDownCmpFunc_rmap_Pair_h_L3_ex o) (G_slices_siftDownCmpFunc_rmap_Pair_h_L3_st v_hi523 v_first524 v_cmp525 v_cmp525_g v_cmp525_c o) → RunE Try.prog 82 Fi (.l k (cP (cB (cR (bodyOf Try.f50)))) :: ks) .normal (G_slices_siftDownCmpFunc_rmap_Pair_h_L3_hd v_hi523 v_first524 v_cmp525 v_cmp525_g v_cmp525_c v_root526 v_w527)
  | 0, v_root526, v_w527, o, h, q => by rw [G_slices_siftDownCmpFunc_rmap_Pair_h_L3] at h; cases h
  | k + 1, v_root526, v_w527, o, h, q => by
    rw [G_slices_siftDownCmpFunc_rmap_Pair_h_L3] at h
    by_cases h400 : (wi .i64 ((wi .i64 (2 * v_root526)) + 1)) ≥ v_hi523
    · rw [if_pos h400] at h
      cases h
      exact pkk_sound TTok mix hF 12 (hs := [.t true]) (ts := []) (s := [0, 1]) (l := []) (by kernel_rfl) (by kernel_rfl) (.cons (dt h400) .nil) q
    · rw [if_neg h400] at h
      obtain ⟨v_o566, h413, h⟩ := bind_some h
      refine pkk_sound TTok mix hF 11 (hs := [.t false]) (ts := []) (s := [0, 1]) (l := [0, 2, 3, 4, 10, 11]) (by kernel_rfl) (by kernel_rfl) (.cons (df h400) .nil) (G_slices_siftDownCmpFunc_rmap_Pair_h_C1_ok hF (.s (cR (cL (cR (cR (cB (cP (cB (cR (bodyOf Try.f50))))))))) :: .s (cR (cR (cR (cB (cP (cB (cR (bodyOf Try.f50)))))))) :: .b 1 :: .l k (cP (cB (cR (bodyOf Try.f50)))) :: ks) n v_hi523 v_first524 v_cmp525 v_root526 v_w527 v_cmp525_g v_cmp525_c v_cmp525_h _ h413 ?_)
      cases v_o566 with
      | x0 v_z567 v_z568 =>
        try dsimp only at h
        obtain ⟨v_o573, h416, h⟩ := bind_some h
        refine pkk_sound TTok mix hF 0 (hs := []) (ts := []) (s := [0, 1]) (l := [0, 2, 3, 4, 10, 11, 40]) (by kernel_rfl) (by kernel_rfl) .nil (G_slices_siftDownCmpFunc_rmap_Pair_h_C2_ok hF (.s (cR (cR (cR (cB (cP (cB (cR (bodyOf Try.f50)))))))) :: .b 1 :: .l k (cP (cB (cR (bodyOf Try.f50)))) :: ks) n v_hi523 v_first524 v_cmp525 v_root526 v_z567 v_z568 v_cmp525_g v_cmp525_c v_cmp525_h _ h416 ?_)
        cases v_o573 with
        | x0 v_z574 v_z575 =>
          try dsimp only at h
          by_cases h417 : 0 ≤ (wi .i64 (v_first524 + v_root526)) ∧ ((wi .i64 (v_first524 + v_root526))).toNat < v_z575.length
          · rw [if_pos h417] at h
            obtain ⟨v_y576, h418, h⟩ := bind_some h
            by_cases h419 : 0 ≤ (wi .i64 (v_first524 + v_z574)) ∧ ((wi .i64 (v_first524 + v_z574))).toNat < v_z575.length
            · rw [if_pos h419] at h
              obtain ⟨v_y577, h420, h⟩ := bind_some h
              obtain ⟨v_r578, h421, h⟩ := bind_some h
              by_cases h422 : v_r578 < 0
              · rw [if_pos h422] at h
                by_cases h423 : 0 ≤ (wi .i64 (v_first524 + v_z574)) ∧ ((wi .i64 (v_first524 + v_z574))).toNat < v_z575.length
                · rw [if_pos h423] at h
                  obtain ⟨v_y580, h424, h⟩ := bind_some h
                  by_cases h425 : 0 ≤ (wi .i64 (v_first524 + v_root526)) ∧ ((wi .i64 (v_first524 + v_root526))).toNat < v_z575.length
                  · rw [if_pos h425] at h
                    obtain ⟨v_y581, h426, h⟩ := bind_some h
                    by_cases h427 : 0 ≤ (wi .i64 (v_first524 + v_root526)) ∧ ((wi .i64 (v_first524 + v_root526))).toNat < v_z575.length
                    · rw [if_pos h427] at h
                      obtain ⟨v_y582, h428, h⟩ := bind_some h
                      by_cases h429 : 0 ≤ (wi .i64 (v_first524 + v_z574)) ∧ ((wi .i64 (v_first524 + v_z574))).toNat < (v_z575.set ((wi .i64 (v_first524 + v_root526))).toNat v_y580).length
                      · rw [if_pos h429] at h
                        obtain ⟨v_y583, h430, h⟩ := bind_some h
                        exact pkk_sound TTok mix hF 9 (hs := [.y (eS_rmap_Pair v_y576), .y (eS_rmap_Pair v_y577), .r ((eI .i64) v_r578), .t false, .y (eS_rmap_Pair v_y580), .y (eS_rmap_Pair v_y581), .w ((v_z575.set ((wi .i64 (v_first524 + v_root526))).toNat v_y580).map eS_rmap_Pair), .y (eS_rmap_Pair v_y582), .w (((v_z575.set ((wi .i64 (v_first524 + v_root526))).toNat v_y580).set ((wi .i64 (v_first524 + v_z574))).toNat v_y581).map eS_rmap_Pair), .y (eS_rmap_Pair v_y583)]) (ts := []) (s := [0, 1]) (l := [0, 2, 3, 4, 10]) (by kernel_rfl) (by kernel_rfl) (.cons (idx_ob (f := eS_rmap_Pair) h417) (.cons (get_ob (f := eS_rmap_Pair) h418) (.cons (idx_ob (f := eS_rmap_Pair) h419) (.cons (get_ob (f := eS_rmap_Pair) h420) (.cons (v_cmp525_h v_y576 v_y577 _ h421) (.cons (bnf (dt h422)) (.cons (idx_ob (f := eS_rmap_Pair) h423) (.cons (get_ob (f := eS_rmap_Pair) h424) (.cons (idx_ob (f := eS_rmap_Pair) h425) (.cons (get_ob (f := eS_rmap_Pair) h426) (.cons (idx_ob (f := eS_rmap_Pair) h427) (.cons (get_ob (f := eS_rmap_Pair) h428) (.cons (Eq.refl (pcells (.agg [.v (.int .i64 v_y580.fFrame), .v (.int .i64 v_y580.fSpace), .v (.int .i64 v_y580.fPage)]))) (.cons (set_ob (f := eS_rmap_Pair) (l := v_z575) (k := ((wi .i64 (v_first524 + v_root526))).toNat) (z := v_y580) (p := .agg [.v (.int .i64 v_y580.fFrame), .v (.int .i64 v_y580.fSpace), .v (.int .i64 v_y580.fPage)]) rfl) (.cons (idx_ob (f := eS_rmap_Pair) h429) (.cons (get_ob (f := eS_rmap_Pair) h430) (.cons (Eq.refl (pcells (.agg [.v (.int .i64 v_y581.fFrame), .v (.int .i64 v_y581.fSpace), .v (.int .i64 v_y581.fPage)]))) (.cons (set_ob (f := eS_rmap_Pair) (l := (v_z575.set ((wi .i64 (v_first524 + v_root526))).toNat v_y580)) (k := ((wi .i64 (v_first524 + v_z574))).toNat) (z := v_y581) (p := .agg [.v (.int .i64 v_y581.fFrame), .v (.int .i64 v_y581.fSpace), .v (.int .i64 v_y581.fPage)]) rfl) .nil)))))))))))))))))) (G_slices_siftDownCmpFunc_rmap_Pair_h_L3_ok hF ks n v_hi523 v_first524 v_cmp525 v_cmp525_g v_cmp525_c v_cmp525_h k v_z574 ((v_z575.set ((wi .i64 (v_first524 + v_root526))).toNat v_y580).set ((wi .i64 (v_first524 + v_z574))).toNat v_y581) _ h q)
                      · rw [if_neg h429] at h; cases h
                    · rw [if_neg h427] at h; cases h
                  · rw [if_neg h425] at h; cases h
                · rw [if_neg h423] at h; cases h
              · rw [if_neg h422] at h
                cases h
                exact pkk_sound TTok mix hF 8 (hs := [.y (eS_rmap_Pair v_y576), .y (eS_rmap_Pair v_y577), .r ((eI .i64) v_r578), .t true]) (ts := []) (s := [0, 1]) (l := []) (by kernel_rfl) (by kernel_rfl) (.cons (idx_ob (f := eS_rmap_Pair) h417) (.cons (get_ob (f := eS_rmap_Pair) h418) (.cons (idx_ob (f := eS_rmap_Pair) h419) (.cons (get_ob (f := eS_rmap_Pair) h420) (.cons (v_cmp525_h v_y576 v_y577 _ h421) (.cons (bnt (df h422)) .nil)))))) q
            · rw [if_neg h419] at h; cases h
          · rw [if_neg h417] at h; cases h
/- slices.siftDownCmpFunc[ringhall/rmap.Pair] -/
def G_slices_siftDownCmpFunc_rmap_Pair_h (n : Nat) (v_data521 : (List S_rmap_Pair)) (v_lo522 : Int) (v_hi523 : Int) (v_first524 : Int) (v_cmp525 : (S_rmap_Pair → S_rmap_Pair → Option (Int))) : Option ((List S_rmap_Pair)) :=
  (G_slices_siftDownCmpFunc_rmap_Pair_h_L3 n v_hi523 v_first524 v_cmp525 n v_lo522 v_data521).bind fun v_o584 => match v_o584 with
  | .x0 v_z585 =>
    some v_z585
  | .x1 v_z586 =>
    some v_z586
theorem G_slices_siftDownCmpFunc_rmap_Pair_h_ok (n : Nat) (v_data521 : (List S_rmap_Pair)) (v_lo522 : Int) (v_hi523 : Int) (v_first524 : Int) (v_cmp525 : (S_rmap_Pair → S_rmap_Pair → Option (Int))) (v_cmp525_g : FuncId) (v_cmp525_c : List PV) (v_cmp525_h : ∀ (x0 : S_rmap_Pair) (x1 : S_rmap_Pair) (r : Int), v_cmp525 x0 x1 = some r → Ret Try.prog v_cmp525_g ([eS_rmap_Pair x0, eS_rmap_Pair x1] ++ v_cmp525_c) ((eI .i64) r)) (r : (List S_rmap_Pair)) (h : G_slices_siftDownCmpFunc_rmap_Pair_h n v_data521 v_lo522 v_hi523 v_first524 v_cmp525 = some r) : RetH Try.prog 50 [.srf 0, .d ((eI .i64) v_lo522), .d ((eI .i64) v_hi523), .d ((eI .i64) v_first524), .d ((.clo v_cmp525_g v_cmp525_c))] [.row 24 3 (v_data521.map eS_rmap_Pair)] (.tup []) [.row 24 3 (r.map eS_rmap_Pair)] := by
  refine retH_run (n := 82) (fn := Try.f50) (c := bodyOf Try.f50) (by kernel_rfl) (by kernel_rfl) (by kernel_rfl) (by kernel_rfl) ?_
  have hF : KC 82 (FinH Try.prog Try.f50 [.row 24 3 (v_data521.map eS_rmap_Pair)] (.tup []) [.row 24 3 (r.map eS_rmap_Pair)]) := FinH.kc' (by kernel_rfl)
  unfold G_slices_siftDownCmpFunc_rmap_Pair_h at h
  obtain ⟨v_o584, h431, h⟩ := bind_some h
  refine pkk_sound TTok mix hF 4 (hs := [.n n]) (ts := []) (s := [1, 0]) (l := [0, 2, 3, 4, 10]) (by kernel_rfl) (by kernel_rfl) .nil (G_slices_siftDownCmpFunc_rmap_Pair_h_L3_ok hF (.b 0 :: []) n v_hi523 v_first524 v_cmp525 v_cmp525_g v_cmp525_c v_cmp525_h n v_lo522 v_data521 _ h431 ?_)
  cases v_o584 with
  | x0 v_z585 =>
    try dsimp only at h
    obtain rfl := Option.some.inj h
    exact pendH_sound TTok mix 1 (hs := []) [1] (by kernel_rfl) (by kernel_rfl) (by kernel_rfl) .nil
  | x1 v_z586 =>
    try dsimp only at h
    obtain rfl := Option.some.inj h
    exact pendH_sound TTok mix 1 (hs := []) [1] (by kernel_rfl) (by kernel_rfl) (by kernel_rfl) .nil
inductive G_slices_heapSortCmpFunc_rmap_Pair_h_L1_R where
  | x0 (v_w589 : (List S_rmap_Pair))
def G_slices_heapSortCmpFunc_rmap_Pair_h_L1_ex : G_slices_heapSortCmpFunc_rmap_Pair_h_L1_R → Ex
  | .x0 _ => .exit 0
def G_slices_heapSortCmpFunc_rmap_Pair_h_L1_st (v_cmp518 : (S_rmap_Pair → S_rmap_Pair → Option (Int))) (v_a516 : Int) (v_b517 : Int) (v_cmp518_g : FuncId) (v_cmp518_c : (List PV)) : G_slices_heapSortCmpFunc_rmap_Pair_h_L1_R → PS
  | .x0 v_w589 => ⟨(.srf 1 :: dd :: dd :: .d (.clo v_cmp518_g v_cmp518_c) :: dd :: dd :: dd :: dd :: .d (.v (.int .i64 v_a516)) :: .d (.v (.int .i64 0)) :: .d (.v (.int .i64 (wi .i64 (v_b517 - v_a516)))) :: (dds 49 [])), [.gh 0 (.srf 1), .row 24 3 (v_w589.map eS_rmap_Pair)]⟩
def G_slices_heapSortCmpFunc_rmap_Pair_h_L1_hd (v_cmp518 : (S_rmap_Pair → S_rmap_Pair → Option (Int))) (v_a516 : Int) (v_b517 : Int) (v_cmp518_g : FuncId) (v_cmp518_c : (List PV)) (v_i519 : Int) (v_w520 : (List S_rmap_Pair)) : PS := ⟨(.srf 1 :: dd :: dd :: .d (.clo v_cmp518_g v_cmp518_c) :: dd :: dd :: dd :: dd :: .d (.v (.int .i64 v_a516)) :: .d (.v (.int .i64 0)) :: .d (.v (.int .i64 (wi .i64 (v_b517 - v_a516)))) :: .d (.v (.int .i64 v_i519)) :: (dds 48 [])), [.gh 0 (.srf 1), .row 24 3 (v_w520.map eS_rmap_Pair)]⟩
def G_slices_heapSortCmpFunc_rmap_Pair_h_L1 (n : Nat) (v_cmp518 : (S_rmap_Pair → S_rmap_Pair → Option (Int))) (v_a516 : Int) (v_b517 : Int) : Nat → Int → (List S_rmap_Pair) → Option G_slices_heapSortCmpFunc_rmap_Pair_h_L1_R
  | 0, _, _ => none
  | k + 1, v_i519, v_w520 =>
    if v_i519 ≥ 0 then
     (G_slices_siftDownCmpFunc_rmap_Pair_h n v_w520 v_i519 (wi .i64 (v_b517 - v_a516)) v_a516 v_cmp518).bind fun (v_r588 : ((List S_rmap_Pair))) =>
     G_slices_heapSortCmpFunc_rmap_Pair_h_L1 n v_cmp518 v_a516 v_b517 k (wi .i64 (v_i519 - 1)) v_r588
    else
     some (.x0 v_w520)
theorem G_slices_heapSortCmpFunc_rmap_Pair_h_L1_ok {Fi : Ex → PS → Prop} (hF : KC 60 Fi) (ks : List Fr) (n : Nat) (v_cmp518 : (S_rmap_Pair → S_rmap_Pair → Option (Int))) (v_a516 : Int) (v_b517 : Int) (v_cmp518_g : FuncId) (v_cmp518_c : (List PV)) (v_cmp518_h : ∀ (x0 : S_rmap_Pair) (x1 : S_rmap_Pair) (r : Int), v_cmp518 x0 x1 = some r → Ret Try.prog v_cmp518_g ([eS_rmap_Pair x0, eS_rmap_Pair x1] ++ v_cmp518_c) ((eI .i64) r)) : ∀ (k : Nat) (v_i519 : Int) (v_w520 : (List S_rmap_Pair)) (o : G_slices_heapSortCmpFunc_rmap_Pair_h_L1_R), G_slices_heapSortCmpFunc_rmap_Pair_h_L1 n v_cmp518 v_a516 v_b517 k v_i519 v_w520 = some o → RunE Try.prog 60 Fi ks (G_slices_heapSortCmpFunc_rmap_Pair_h_L1_ex o) (G_slices_heapSortCmpFunc_rmap_Pair_h_L1_st v_cmp518 v_a516 v_b517 v_cmp518_g v_cmp518_c o) → RunE Try.prog 60 Fi (.l k (cP (cB (cR (cL (cR (cR (cR (bodyOf Try.f40)))))))) :: ks) .normal (G_slices_heapSortCmpFunc_rmap_Pair_h_L1_hd v_cmp518 v_a516 v_b517 v_cmp518_g v_cmp518_c v_i519 v_w520)
  | 0, v_i519, v_w520, o, h, q => by rw [G_slices_heapSortCmpFunc_rmap_Pair_h_L1] at h; cases h
  | k + 1, v_i519, v_w520, o, h, q => by
    rw [G_slices_heapSortCmpFunc_rmap_Pair_h_L1] at h
    by_cases h368 : v_i519 ≥ 0
    · rw [if_pos h368] at h
      obtain ⟨v_r588, h433, h⟩ := bind_some h
      exact pkk_sound TTok mix hF 11 (hs := [.t true, .h [1] [] [.row 24 3 (v_r588.map eS_rmap_Pair)] (.tup [])]) (ts := []) (s := [0, 1]) (l := [0, 3, 8, 9, 10, 11]) (by kernel_rfl) (by kernel_rfl) (.cons (dt h368) (.cons (G_slices_siftDownCmpFunc_rmap_Pair_h_ok n v_w520 v_i519 (wi .i64 (v_b517 - v_a516)) v_a516 v_cmp518 v_cmp518_g v_cmp518_c v_cmp518_h _ h433) .nil)) (G_slices_heapSortCmpFunc_rmap_Pair_h_L1_ok hF ks n v_cmp518 v_a516 v_b517 v_cmp518_g v_cmp518_c v_cmp518_h k (wi .i64 (v_i519 - 1)) v_r588 _ h q)
    · rw [if_neg h368] at h
      cases h
      exact pkk_sound TTok mix hF 8 (hs := [.t false]) (ts := []) (s := [0, 1]) (l := [0, 3, 8, 9, 10]) (by kernel_rfl) (by kernel_rfl) (.cons (df h368) .nil) q
inductive G_slices_heapSortCmpFunc_rmap_Pair_h_L2_R where
  | x0 (v_w604 : (List S_rmap_Pair))
def G_slices_heapSortCmpFunc_rmap_Pair_h_L2_ex : G_slices_heapSortCmpFunc_rmap_Pair_h_L2_R → Ex
  | .x0 _ => .exit 2
def G_slices_heapSortCmpFunc_rmap_Pair_h_L2_st (v_cmp518 : (S_rmap_Pair → S_rmap_Pair → Option (Int))) (v_a516 : Int) (v_cmp518_g : FuncId) (v_cmp518_c : (List PV)) : G_slices_heapSortCmpFunc_rmap_Pair_h_L2_R → PS
  | .x0 v_w604 => ⟨(dds 60 []), [.gh 0 (.srf 1), .row 24 3 (v_w604.map eS_rmap_Pair)]⟩
def G_slices_heapSortCmpFunc_rmap_Pair_h_L2_hd (v_cmp518 : (S_rmap_Pair → S_rmap_Pair → Option (Int))) (v_a516 : Int) (v_cmp518_g : FuncId) (v_cmp518_c : (List PV)) (v_i592 : Int) (v_w593 : (List S_rmap_Pair)) : PS := ⟨(.srf 1 :: dd :: dd :: .d (.clo v_cmp518_g v_cmp518_c) :: dd :: dd :: dd :: dd :: .d (.v (.int .i64 v_a516)) :: .d (.v (.int .i64 0)) :: dd :: dd :: .d (.v (.int .i64 v_i592)) :: (dds 47 [])), [.gh 0 (.srf 1), .row 24 3 (v_w593.map eS_rmap_Pair)]⟩
def G_slices_heapSortCmpFunc_rmap_Pair_h_L2 (n : Nat) (v_cmp518 : (S_rmap_Pair → S_rmap_Pair → Option (Int))) (v_a516 : Int) : Nat → Int → (List S_rmap_Pair) → Option G_slices_heapSortCmpFunc_rmap_Pair_h_L2_R
  | 0, _, _ => none
  | k + 1, v_i592, v_w593 =>
    if v_i592 ≥ 0 then
     if 0 ≤ (wi .i64 (v_a516 + v_i592)) ∧ ((wi .i64 (v_a516 + v_i592))).toNat < v_w593.length then
      (v_w593[((wi .i64 (v_a516 + v_i592))).toNat]?).bind fun (v_y599 : S_rmap_Pair) =>
      if 0 ≤ v_a516 ∧ (v_a516).toNat < v_w593.length then
       (v_w593[(v_a516).toNat]?).bind fun (v_y600 : S_rmap_Pair) =>
       if 0 ≤ v_a516 ∧ (v_a516).toNat < v_w593.length then
        (v_w593[(v_a516).toNat]?).bind fun (v_y601 : S_rmap_Pair) =>
        if 0 ≤ (wi .i64 (v_a516 + v_i592)) ∧ ((wi .i64 (v_a516 + v_i592))).toNat < (v_w593.set (v_a516).toNat v_y599).length then
         ((v_w593.set (v_a516).toNat v_y599)[((wi .i64 (v_a516 + v_i592))).toNat]?).bind fun (v_y602 : S_rmap_Pair) =>
         (G_slices_siftDownCmpFunc_rmap_Pair_h n ((v_w593.set (v_a516).toNat v_y599).set ((wi .i64 (v_a516 + v_i592))).toNat v_y600) 0 v_i592 v_a516 v_cmp518).bind fun (v_r603 : ((List S_rmap_Pair))) =>
         G_slices_heapSortCmpFunc_rmap_Pair_h_L2 n v_cmp518 v_a516 k (wi .i64 (v_i592 - 1)) v_r603
        else none
       else none
      else none
     else none
    else
     some (.x0 v_w593)
theorem G_slices_heapSortCmpFunc_rmap_Pair_h_L2_ok {Fi : Ex → PS → Prop} (hF : KC 60 Fi) (ks : List Fr) (n : Nat) (v_cmp518 : (S_rmap_Pair → S_rmap_Pair → Option (Int))) (v_a516 : Int) (v_cmp518_g : FuncId) (v_cmp518_c : (List PV)) (v_cmp518_h : ∀ (x0 : S_rmap_Pair) (x1 : S_rmap_Pair) (r : Int), v_cmp518 x0 x1 = some r → Ret Try.prog v_cmp518_g ([eS_rmap_Pair x0, eS_rmap_Pair x1] ++ v_cmp518_c) ((eI .i64) r)) : ∀ (k : Nat) (v_i592 : Int) (v_w593 : (List S_rmap_Pair)) (o : G_slices_heapSortCmpFunc_rmap_Pair_h_L2_R), G_slices_heapSortCmpFunc_rmap_Pair_h_L2 n v_cmp518 v_a516 k v_i592 v_w593 = some o → RunE Try.prog 60 Fi ks (G_slices_heapSortCmpFunc_rmap_Pair_h_L2_ex o) (G_slices_heapSortCmpFunc_rmap_Pair_h_L2_st v_cmp518 v_a516 v_cmp518_g v_cmp518_c o) → RunE Try.prog 60 Fi (.l k (cP (cB (cR (cR (cR (cR (cR (bodyOf Try.f40)))))))) :: ks) .normal (G_slices_heapSortCmpFunc_rmap_Pair_h_L2_hd v_cmp518 v_a516 v_cmp518_g v_cmp518_c v_i592 v_w593)
  | 0, v_i592, v_w593, o, h, q => by rw [G_slices_heapSortCmpFunc_rmap_Pair_h_L2] at h; cases h
  | k + 1, v_i592, v_w593, o, h, q => by
    rw [G_slices_heapSortCmpFunc_rmap_Pair_h_L2] at h
    by_cases h435 : v_i592 ≥ 0
    · rw [if_pos h435] at h
      by_cases h445 : 0 ≤ (wi .i64 (v_a516 + v_i592)) ∧ ((wi .i64 (v_a516 + v_i592))).toNat < v_w593.length
      · rw [if_pos h445] at h
        obtain ⟨v_y599, h446, h⟩ := bind_some h
        by_cases h447 : 0 ≤ v_a516 ∧ (v_a516).toNat < v_w593.length
        · rw [if_pos h447] at h
          obtain ⟨v_y600, h448, h⟩ := bind_some h
          by_cases h449 : 0 ≤ v_a516 ∧ (v_a516).toNat < v_w593.length
          · rw [if_pos h449] at h
            obtain ⟨v_y601, h450, h⟩ := bind_some h
            by_cases h451 : 0 ≤ (wi .i64 (v_a516 + v_i592)) ∧ ((wi .i64 (v_a516 + v_i592))).toNat < (v_w593.set (v_a516).toNat v_y599).length
            · rw [if_pos h451] at h
              obtain ⟨v_y602, h452, h⟩ := bind_some h
              obtain ⟨v_r603, h453, h⟩ := bind_some h
              exact pkk_sound TTok mix hF 13 (hs := [.t true, .y (eS_rmap_Pair v_y599), .y (eS_rmap_Pair v_y600), .w ((v_w593.set (v_a516).toNat v_y599).map eS_rmap_Pair), .y (eS_rmap_Pair v_y601), .w (((v_w593.set (v_a516).toNat v_y599).set ((wi .i64 (v_a516 + v_i592))).toNat v_y600).map eS_rmap_Pair), .y (eS_rmap_Pair v_y602), .h [1] [] [.row 24 3 (v_r603.map eS_rmap_Pair)] (.tup [])]) (ts := []) (s := [0, 1]) (l := [0, 3, 8, 9, 12]) (by kernel_rfl) (by kernel_rfl) (.cons (dt h435) (.cons (idx_ob (f := eS_rmap_Pair) h445) (.cons (get_ob (f := eS_rmap_Pair) h446) (.cons (idx_ob (f := eS_rmap_Pair) h447) (.cons (get_ob (f := eS_rmap_Pair) h448) (.cons (idx_ob (f := eS_rmap_Pair) h449) (.cons (get_ob (f := eS_rmap_Pair) h450) (.cons (Eq.refl (pcells (.agg [.v (.int .i64 v_y599.fFrame), .v (.int .i64 v_y599.fSpace), .v (.int .i64 v_y599.fPage)]))) (.cons (set_ob (f := eS_rmap_Pair) (l := v_w593) (k := (v_a516).toNat) (z := v_y599) (p := .agg [.v (.int .i64 v_y599.fFrame), .v (.int .i64 v_y599.fSpace), .v (.int .i64 v_y599.fPage)]) rfl) (.cons (idx_ob (f := eS_rmap_Pair) h451) (.cons (get_ob (f := eS_rmap_Pair) h452) (.cons (Eq.refl (pcells (.agg [.v (.int .i64 v_y600.fFrame), .v (.int .i64 v_y600.fSpace), .v (.int .i64 v_y600.fPage)]))) (.cons (set_ob (f := eS_rmap_Pair) (l := (v_w593.set (v_a516).toNat v_y599)) (k := ((wi .i64 (v_a516 + v_i592))).toNat) (z := v_y600) (p := .agg [.v (.int .i64 v_y600.fFrame), .v (.int .i64 v_y600.fSpace), .v (.int .i64 v_y600.fPage)]) rfl) (.cons (G_slices_siftDownCmpFunc_rmap_Pair_h_ok n ((v_w593.set (v_a516).toNat v_y599).set ((wi .i64 (v_a516 + v_i592))).toNat v_y600) 0 v_i592 v_a516 v_cmp518 v_cmp518_g v_cmp518_c v_cmp518_h _ h453) .nil)))))))))))))) (G_slices_heapSortCmpFunc_rmap_Pair_h_L2_ok hF ks n v_cmp518 v_a516 v_cmp518_g v_cmp518_c v_cmp518_h k (wi .i64 (v_i592 - 1)) v_r603 _ h q)
            · rw [if_neg h451] at h; cases h
          · rw [if_neg h449] at h; cases h
        · rw [if_neg h447] at h; cases h
      · rw [if_neg h445] at h; cases h
    · rw [if_neg h435] at h
      cases h
      exact pkk_sound TTok mix hF 8 (hs := [.t false]) (ts := []) (s := [0, 1]) (l := []) (by kernel_rfl) (by kernel_rfl) (.cons (df h435) .nil) q
/- slices.heapSortCmpFunc[ringhall/rmap.Pair] -/
def G_slices_heapSortCmpFunc_rmap_Pair_h (n : Nat) (v_data515 : (List S_rmap_Pair)) (v_a516 : Int) (v_b517 : Int) (v_cmp518 : (S_rmap_Pair → S_rmap_Pair → Option (Int))) : Option ((List S_rmap_Pair)) :=
  (G_slices_heapSortCmpFunc_rmap_Pair_h_L1 n v_cmp518 v_a516 v_b517 n (quoI .i64 (wi .i64 ((wi .i64 (v_b517 - v_a516)) - 1)) 2) v_data515).bind fun v_o590 => match v_o590 with
  | .x0 v_z591 =>
    (G_slices_heapSortCmpFunc_rmap_Pair_h_L2 n v_cmp518 v_a516 n (wi .i64 ((wi .i64 (v_b517 - v_a516)) - 1)) v_z591).bind fun v_o605 => match v_o605 with
    | .x0 v_z606 =>
      some v_z606
theorem G_slices_heapSortCmpFunc_rmap_Pair_h_ok (n : Nat) (v_data515 : (List S_rmap_Pair)) (v_a516 : Int) (v_b517 : Int) (v_cmp518 : (S_rmap_Pair → S_rmap_Pair → Option (Int))) (v_cmp518_g : FuncId) (v_cmp518_c : List PV) (v_cmp518_h : ∀ (x0 : S_rmap_Pair) (x1 : S_rmap_Pair) (r : Int), v_cmp518 x0 x1 = some r → Ret Try.prog v_cmp518_g ([eS_rmap_Pair x0, eS_rmap_Pair x1] ++ v_cmp518_c) ((eI .i64) r)) (r : (List S_rmap_Pair)) (h : G_slices_heapSortCmpFunc_rmap_Pair_h n v_data515 v_a516 v_b517 v_cmp518 = some r) : RetH Try.prog 40 [.srf 0, .d ((eI .i64) v_a516), .d ((eI .i64) v_b517), .d ((.clo v_cmp518_g v_cmp518_c))] [.row 24 3 (v_data515.map eS_rmap_Pair)] (.tup []) [.row 24 3 (r.map eS_rmap_Pair)] := by
  refine retH_run (n := 60) (fn := Try.f40) (c := bodyOf Try.f40) (by kernel_rfl) (by kernel_rfl) (by kernel_rfl) (by kernel_rfl) ?_
  have hF : KC 60 (FinH Try.prog Try.f40 [.row 24 3 (v_data515.map eS_rmap_Pair)] (.tup []) [.row 24 3 (r.map eS_rmap_Pair)]) := FinH.kc' (by kernel_rfl)
  unfold G_slices_heapSortCmpFunc_rmap_Pair_h at h
  obtain ⟨v_o590, h434, h⟩ := bind_some h
  refine pkk_sound TTok mix hF 11 (hs := [.n n]) (ts := []) (s := [1, 0]) (l := [0, 3, 8, 9, 10, 11]) (by kernel_rfl) (by kernel_rfl) (.cons (show (2 : Int) ≠ 0 by decide) .nil) (G_slices_heapSortCmpFunc_rmap_Pair_h_L1_ok hF (.b 0 :: .s (cR (cR (cR (cR (bodyOf Try.f40))))) :: []) n v_cmp518 v_a516 v_b517 v_cmp518_g v_cmp518_c v_cmp518_h n (quoI .i64 (wi .i64 ((wi .i64 (v_b517 - v_a516)) - 1)) 2) v_data515 _ h434 ?_)
  cases v_o590 with
  | x0 v_z591 =>
    try dsimp only at h
    obtain ⟨v_o605, h454, h⟩ := bind_some h
    refine pkk_sound TTok mix hF 5 (hs := [.n n]) (ts := []) (s := [0, 1]) (l := [0, 3, 8, 9, 12]) (by kernel_rfl) (by kernel_rfl) .nil (G_slices_heapSortCmpFunc_rmap_Pair_h_L2_ok hF (.b 2 :: []) n v_cmp518 v_a516 v_cmp518_g v_cmp518_c v_cmp518_h n (wi .i64 ((wi .i64 (v_b517 - v_a516)) - 1)) v_z591 _ h454 ?_)
    cases v_o605 with
    | x0 v_z606 =>
      try dsimp only at h
      obtain rfl := Option.some.inj h
      exact pendH_sound TTok mix 1 (hs := []) [1] (by kernel_rfl) (by kernel_rfl) (by kernel_rfl) .nil
/- slices.nextPowerOfTwo -/
def G_slices_nextPowerOfTwo (n : Nat) (v_length613 : Int) : Option (Int) :=
  (G_math_bits_Len n (wi .u64 v_length613)).bind fun (v_r614 : (Int)) =>
  if 0 ≤ v_r614 then
   some (shlI .u64 1 v_r614)
  else none
theorem G_slices_nextPowerOfTwo_ok (n : Nat) (v_length613 : Int) (r : Int) (h : G_slices_nextPowerOfTwo n v_length613 = some r) : Ret Try.prog 51 [(eI .i64) v_length613] ((eI .u64) r) := by
  refine ret_run (n := 7) (fn := Try.f51) (c := bodyOf Try.f51) (by kernel_rfl) (by kernel_rfl) (by kernel_rfl) (by kernel_rfl) ?_
  have hF : KC 7 (FinR Try.prog Try.f51 ((eI .u64) r)) := FinR.kc' (by kernel_rfl)
  unfold G_slices_nextPowerOfTwo at h
  obtain ⟨v_r614, h460, h⟩ := bind_some h
  by_cases h461 : 0 ≤ v_r614
  · rw [if_pos h461] at h
    obtain rfl := Option.some.inj h
    exact pend_sound TTok mix 5 (hs := [.r ((eI .i64) v_r614)]) (by kernel_rfl) (by kernel_rfl) (by kernel_rfl) (.cons (G_math_bits_Len_ok n (wi .u64 v_length613) _ h460) (.cons h461 .nil))
  · rw [if_neg h461] at h; cases h
/- (*slices.xorshift).Next -/
def G_slices_xorshift_Next_h (n : Nat) (v_r618 : Int) : Option (Int × Int) :=
  some ((bits .xor .u64 (bits .xor .u64 (bits .xor .u64 v_r618 (shlI .u64 v_r618 13)) (shrI .u64 (bits .xor .u64 v_r618 (shlI .u64 v_r618 13)) 7)) (shlI .u64 (bits .xor .u64 (bits .xor .u64 v_r618 (shlI .u64 v_r618 13)) (shrI .u64 (bits .xor .u64 v_r618 (shlI .u64 v_r618 13)) 7)) 17)), (bits .xor .u64 (bits .xor .u64 (bits .xor .u64 v_r618 (shlI .u64 v_r618 13)) (shrI .u64 (bits .xor .u64 v_r618 (shlI .u64 v_r618 13)) 7)) (shlI .u64 (bits .xor .u64 (bits .xor .u64 v_r618 (shlI .u64 v_r618 13)) (shrI .u64 (bits .xor .u64 v_r618 (shlI .u64 v_r618 13)) 7)) 17)))
theorem G_slices_xorshift_Next_h_ok (n : Nat) (v_r618 : Int) (r : Int × Int) (h : G_slices_xorshift_Next_h n v_r618 = some r) : RetH Try.prog 52 [.ref 0 0] [.box [.d (.v (.int .u64 v_r618))]] (.d ((eI .u64) r.1)) [.box [.d (.v (.int .u64 r.2))]] := by
  refine retH_run (n := 33) (fn := Try.f52) (c := bodyOf Try.f52) (by kernel_rfl) (by kernel_rfl) (by kernel_rfl) (by kernel_rfl) ?_
  have hF : KC 33 (FinH Try.prog Try.f52 [.box [.d (.v (.int .u64 v_r618))]] (.d ((eI .u64) r.1)) [.box [.d (.v (.int .u64 r.2))]]) := FinH.kc' (by kernel_rfl)
  unfold G_slices_xorshift_Next_h at h
  obtain rfl := Option.some.inj h
  exact pendH_sound TTok mix 11 (hs := [.c, .c, .c, .c, .c, .c, .c, .c, .c, .c]) [0] (by kernel_rfl) (by kernel_rfl) (by kernel_rfl) (.cons (show (0 : Int) ≤ 13 by decide) (.cons (show 0 + 1 ≤ 1 by decide) (.cons (show (0 : Int) ≤ 7 by decide) (.cons (show 0 + 1 ≤ 1 by decide) (.cons (show (0 : Int) ≤ 17 by decide) (.cons (show 0 + 1 ≤ 1 by decide) .nil))))))
inductive G_slices_breakPatternsCmpFunc_rmap_Pair_h_L1_R where
  | x0 (v_w654 : (List S_rmap_Pair))
def G_slices_breakPatternsCmpFunc_rmap_Pair_h_L1_ex : G_slices_breakPatternsCmpFunc_rmap_Pair_h_L1_R → Ex
  | .x0 _ => .exit 0
def G_slices_breakPatternsCmpFunc_rmap_Pair_h_L1_st (v_a610 : Int) (v_b611 : Int) (v_r615 : (Int)) : G_slices_breakPatternsCmpFunc_rmap_Pair_h_L1_R → PS
  | .x0 v_w654 => ⟨(dds 67 []), [.gh 0 (.srf 1), .row 24 3 (v_w654.map eS_rmap_Pair)]⟩
def G_slices_breakPatternsCmpFunc_rmap_Pair_h_L1_hd (v_a610 : Int) (v_b611 : Int) (v_r615 : (Int)) (v_idx633 : Int) (v_w634 : (List S_rmap_Pair)) (v_b635 : Int) : PS := ⟨(.srf 1 :: .d (.v (.int .i64 v_a610)) :: dd :: dd :: dd :: dd :: dd :: dd :: .d (.v (.int .i64 (wi .i64 (v_b611 - v_a610)))) :: .ref 2 0 :: .d (.v (.int .u64 v_r615)) :: .d (.v (.int .i64 v_idx633)) :: (dds 55 [])), [.gh 0 (.srf 1), .row 24 3 (v_w634.map eS_rmap_Pair), .box [.d (.v (.int .u64 v_b635))]]⟩
def G_slices_breakPatternsCmpFunc_rmap_Pair_h_L1 (n : Nat) (v_a610 : Int) (v_b611 : Int) (v_r615 : (Int)) : Nat → Int → (List S_rmap_Pair) → Int → Option G_slices_breakPatternsCmpFunc_rmap_Pair_h_L1_R
  | 0, _, _, _ => none
  | k + 1, v_idx633, v_w634, v_b635 =>
    if v_idx633 ≤ (wi .i64 ((wi .i64 (v_a610 + (wi .i64 ((quoI .i64 (wi .i64 (v_b611 - v_a610)) 4) * 2)))) + 1)) then
     (G_slices_xorshift_Next_h n v_b635).bind fun (v_r645 : (Int × Int)) =>
     if (wi .i64 (bits .and .u64 v_r645.1 (wi .u64 (v_r615 - 1)))) ≥ (wi .i64 (v_b611 - v_a610)) then
      if 0 ≤ (wi .i64 (v_a610 + (wi .i64 ((wi .i64 (bits .and .u64 v_r645.1 (wi .u64 (v_r615 - 1)))) - (wi .i64 (v_b611 - v_a610)))))) ∧ ((wi .i64 (v_a610 + (wi .i64 ((wi .i64 (bits .and .u64 v_r645.1 (wi .u64 (v_r615 - 1)))) - (wi .i64 (v_b611 - v_a610))))))).toNat < v_w634.length then
       (v_w634[((wi .i64 (v_a610 + (wi .i64 ((wi .i64 (bits .and .u64 v_r645.1 (wi .u64 (v_r615 - 1)))) - (wi .i64 (v_b611 - v_a610))))))).toNat]?).bind fun (v_y646 : S_rmap_Pair) =>
       if 0 ≤ v_idx633 ∧ (v_idx633).toNat < v_w634.length then
        (v_w634[(v_idx633).toNat]?).bind fun (v_y647 : S_rmap_Pair) =>
        if 0 ≤ v_idx633 ∧ (v_idx633).toNat < v_w634.length then
         (v_w634[(v_idx633).toNat]?).bind fun (v_y648 : S_rmap_Pair) =>
         if 0 ≤ (wi .i64 (v_a610 + (wi .i64 ((wi .i64 (bits .and .u64 v_r645.1 (wi .u64 (v_r615 - 1)))) - (wi .i64 (v_b611 - v_a610)))))) ∧ ((wi .i64 (v_a610 + (wi .i64 ((wi .i64 (bits .and .u64 v_r645.1 (wi .u64 (v_r615 - 1)))) - (wi .i64 (v_b611 - v_a610))))))).toNat < (v_w634.set (v_idx633).toNat v_y646).length then
          ((v_w634.set (v_idx633).toNat v_y646)[((wi .i64 (v_a610 + (wi .i64 ((wi .i64 (bits .and .u64 v_r645.1 (wi .u64 (v_r615 - 1)))) - (wi .i64 (v_b611 - v_a610))))))).toNat]?).bind fun (v_y649 : S_rmap_Pair) =>
          G_slices_breakPatternsCmpFunc_rmap_Pair_h_L1 n v_a610 v_b611 v_r615 k (wi .i64 (v_idx633 + 1)) ((v_w634.set (v_idx633).toNat v_y646).set ((wi .i64 (v_a610 + (wi .i64 ((wi .i64 (bits .and .u64 v_r645.1 (wi .u64 (v_r615 - 1)))) - (wi .i64 (v_b611 - v_a610))))))).toNat v_y647) v_r645.2
         else none
        else none
       else none
      else none
     else
      if 0 ≤ (wi .i64 (v_a610 + (wi .i64 (bits .and .u64 v_r645.1 (wi .u64 (v_r615 - 1)))))) ∧ ((wi .i64 (v_a610 + (wi .i64 (bits .and .u64 v_r645.1 (wi .u64 (v_r615 - 1))))))).toNat < v_w634.length then
       (v_w634[((wi .i64 (v_a610 + (wi .i64 (bits .and .u64 v_r645.1 (wi .u64 (v_r615 - 1))))))).toNat]?).bind fun (v_y650 : S_rmap_Pair) =>
       if 0 ≤ v_idx633 ∧ (v_idx633).toNat < v_w634.length then
        (v_w634[(v_idx633).toNat]?).bind fun (v_y651 : S_rmap_Pair) =>
        if 0 ≤ v_idx633 ∧ (v_idx633).toNat < v_w634.length then
         (v_w634[(v_idx633).toNat]?).bind fun (v_y652 : S_rmap_Pair) =>
         if 0 ≤ (wi .i64 (v_a610 + (wi .i64 (bits .and .u64 v_r645.1 (wi .u64 (v_r615 - 1)))))) ∧ ((wi .i64 (v_a610 + (wi .i64 (bits .and .u64 v_r645.1 (wi .u64 (v_r615 - 1))))))).toNat < (v_w634.set (v_idx633).toNat v_y650).length then
          ((v_w634.set (v_idx633).toNat v_y650)[((wi .i64 (v_a610 + (wi .i64 (bits .and .u64 v_r645.1 (wi .u64 (v_r615 - 1))))))).toNat]?).bind fun (v_y653 : S_rmap_Pair) =>
          G_slices_breakPatternsCmpFunc_rmap_Pair_h_L1 n v_a610 v_b611 v_r615 k (wi .i64 (v_idx633 + 1)) ((v_w634.set (v_idx633).toNat v_y650).set ((wi .i64 (v_a610 + (wi .i64 (bits .and .u64 v_r645.1 (wi .u64 (v_r615 - 1))))))).toNat v_y651) v_r645.2
         else none
        else none
       else none
      else none
    else
     some (.x0 v_w634)
theorem G_slices_breakPatternsCmpFunc_rmap_Pair_h_L1_ok {Fi : Ex → PS → Prop} (hF : KC 67 Fi) (ks : List Fr) (n : Nat) (v_a610 : Int) (v_b611 : Int) (v_r615 : (Int))  : ∀ (k : Nat) (v_idx633 : Int) (v_w634 : (List S_rmap_Pair)) (v_b635 : Int) (o : G_slices_breakPatternsCmpFunc_rmap_Pair_h_L1_R), G_slices_breakPatternsCmpFunc_rmap_Pair_h_L1 n v_a610 v_b611 v_r615 k v_idx633 v_w634 v_b635 = some o → RunE Try.prog 67 Fi ks (G_slices_breakPatternsCmpFunc_rmap_Pair_h_L1_ex o) (G_slices_breakPatternsCmpFunc_rmap_Pair_h_L1_st v_a610 v_b611 v_r615 o) → RunE Try.prog 67 Fi (.l k (cP (cB (cR (cR (cR (cT (cR (cR (bodyOf Try.f41))))))))) :: ks) .normal (G_slices_breakPatternsCmpFunc_rmap_Pair_h_L1_hd v_a610 v_b611 v_r615 v_idx633 v_w634 v_b635)
  | 0, v_idx633, v_w634, v_b635, o, h, q => by rw [G_slices_breakPatternsCmpFunc_rmap_Pair_h_L1] at h; cases h
  | k + 1, v_idx633, v_w634, v_b635, o, h, q => by
    rw [G_slices_breakPatternsCmpFunc_rmap_Pair_h_L1] at h
    by_cases h500 : v_idx633 ≤ (wi .i64 ((wi .i64 (v_a610 + (wi .i64 ((quoI .i64 (wi .i64 (v_b611 - v_a610)) 4) * 2)))) + 1))
    · rw [if_pos h500] at h
      obtain ⟨v_r645, h520, h⟩ := bind_some h
      by_cases h522 : (wi .i64 (bits .and .u64 v_r645.1 (wi .u64 (v_r615 - 1)))) ≥ (wi .i64 (v_b611 - v_a610))
      · rw [if_pos h522] at h
        by_cases h523 : 0 ≤ (wi .i64 (v_a610 + (wi .i64 ((wi .i64 (bits .and .u64 v_r645.1 (wi .u64 (v_r615 - 1)))) - (wi .i64 (v_b611 - v_a610)))))) ∧ ((wi .i64 (v_a610 + (wi .i64 ((wi .i64 (bits .and .u64 v_r645.1 (wi .u64 (v_r615 - 1)))) - (wi .i64 (v_b611 - v_a610))))))).toNat < v_w634.length
        · rw [if_pos h523] at h
          obtain ⟨v_y646, h524, h⟩ := bind_some h
          by_cases h525 : 0 ≤ v_idx633 ∧ (v_idx633).toNat < v_w634.length
          · rw [if_pos h525] at h
            obtain ⟨v_y647, h526, h⟩ := bind_some h
            by_cases h527 : 0 ≤ v_idx633 ∧ (v_idx633).toNat < v_w634.length
            · rw [if_pos h527] at h
              obtain ⟨v_y648, h528, h⟩ := bind_some h
              by_cases h529 : 0 ≤ (wi .i64 (v_a610 + (wi .i64 ((wi .i64 (bits .and .u64 v_r645.1 (wi .u64 (v_r615 - 1)))) - (wi .i64 (v_b611 - v_a610)))))) ∧ ((wi .i64 (v_a610 + (wi .i64 ((wi .i64 (bits .and .u64 v_r645.1 (wi .u64 (v_r615 - 1)))) - (wi .i64 (v_b611 - v_a610))))))).toNat < (v_w634.set (v_idx633).toNat v_y646).length
              · rw [if_pos h529] at h
                obtain ⟨v_y649, h530, h⟩ := bind_some h
                exact pkk_sound TTok mix hF 18 (hs := [.t true, .h [2] [] [.box [.d (.v (.int .u64 v_r645.2))]] (.d (.v (.int .u64 v_r645.1))), .t true, .y (eS_rmap_Pair v_y646), .y (eS_rmap_Pair v_y647), .w ((v_w634.set (v_idx633).toNat v_y646).map eS_rmap_Pair), .y (eS_rmap_Pair v_y648), .w (((v_w634.set (v_idx633).toNat v_y646).set ((wi .i64 (v_a610 + (wi .i64 ((wi .i64 (bits .and .u64 v_r645.1 (wi .u64 (v_r615 - 1)))) - (wi .i64 (v_b611 - v_a610))))))).toNat v_y647).map eS_rmap_Pair), .y (eS_rmap_Pair v_y649)]) (ts := []) (s := [0, 1, 2]) (l := [0, 1, 8, 9, 10, 11]) (by kernel_rfl) (by kernel_rfl) (.cons (show (4 : Int) ≠ 0 by decide) (.cons (dt h500) (.cons (G_slices_xorshift_Next_h_ok n v_b635 _ h520) (.cons (dt h522) (.cons (idx_ob (f := eS_rmap_Pair) h523) (.cons (get_ob (f := eS_rmap_Pair) h524) (.cons (idx_ob (f := eS_rmap_Pair) h525) (.cons (get_ob (f := eS_rmap_Pair) h526) (.cons (idx_ob (f := eS_rmap_Pair) h527) (.cons (get_ob (f := eS_rmap_Pair) h528) (.cons (Eq.refl (pcells (.agg [.v (.int .i64 v_y646.fFrame), .v (.int .i64 v_y646.fSpace), .v (.int .i64 v_y646.fPage)]))) (.cons (set_ob (f := eS_rmap_Pair) (l := v_w634) (k := (v_idx633).toNat) (z := v_y646) (p := .agg [.v (.int .i64 v_y646.fFrame), .v (.int .i64 v_y646.fSpace), .v (.int .i64 v_y646.fPage)]) rfl) (.cons (idx_ob (f := eS_rmap_Pair) h529) (.cons (get_ob (f := eS_rmap_Pair) h530) (.cons (Eq.refl (pcells (.agg [.v (.int .i64 v_y647.fFrame), .v (.int .i64 v_y647.fSpace), .v (.int .i64 v_y647.fPage)]))) (.cons (set_ob (f := eS_rmap_Pair) (l := (v_w634.set (v_idx633).toNat v_y646)) (k := ((wi .i64 (v_a610 + (wi .i64 ((wi .i64 (bits .and .u64 v_r645.1 (wi .u64 (v_r615 - 1)))) - (wi .i64 (v_b611 - v_a610))))))).toNat) (z := v_y647) (p := .agg [.v (.int .i64 v_y647.fFrame), .v (.int .i64 v_y647.fSpace), .v (.int .i64 v_y647.fPage)]) rfl) .nil)))))))))))))))) (G_slices_breakPatternsCmpFunc_rmap_Pair_h_L1_ok hF ks n v_a610 v_b611 v_r615 k (wi .i64 (v_idx633 + 1)) ((v_w634.set (v_idx633).toNat v_y646).set ((wi .i64 (v_a610 + (wi .i64 ((wi .i64 (bits .and .u64 v_r645.1 (wi .u64 (v_r615 - 1)))) - (wi .i64 (v_b611 - v_a610))))))).toNat v_y647) v_r645.2 _ h q)
              · rw [if_neg h529] at h; cases h
            · rw [if_neg h527] at h; cases h
          · rw [if_neg h525] at h; cases h
        · rw [if_neg h523] at h; cases h
      · rw [if_neg h522] at h
        by_cases h531 : 0 ≤ (wi .i64 (v_a610 + (wi .i64 (bits .and .u64 v_r645.1 (wi .u64 (v_r615 - 1)))))) ∧ ((wi .i64 (v_a610 + (wi .i64 (bits .and .u64 v_r645.1 (wi .u64 (v_r615 - 1))))))).toNat < v_w634.length
        · rw [if_pos h531] at h
          obtain ⟨v_y650, h532, h⟩ := bind_some h
          by_cases h533 : 0 ≤ v_idx633 ∧ (v_idx633).toNat < v_w634.length
          · rw [if_pos h533] at h
            obtain ⟨v_y651, h534, h⟩ := bind_some h
            by_cases h535 : 0 ≤ v_idx633 ∧ (v_idx633).toNat < v_w634.length
            · rw [if_pos h535] at h
              obtain ⟨v_y652, h536, h⟩ := bind_some h
              by_cases h537 : 0 ≤ (wi .i64 (v_a610 + (wi .i64 (bits .and .u64 v_r645.1 (wi .u64 (v_r615 - 1)))))) ∧ ((wi .i64 (v_a610 + (wi .i64 (bits .and .u64 v_r645.1 (wi .u64 (v_r615 - 1))))))).toNat < (v_w634.set (v_idx633).toNat v_y650).length
              · rw [if_pos h537] at h
                obtain ⟨v_y653, h538, h⟩ := bind_some h
                exact pkk_sound TTok mix hF 18 (hs := [.t true, .h [2] [] [.box [.d (.v (.int .u64 v_r645.2))]] (.d (.v (.int .u64 v_r645.1))), .t false, .y (eS_rmap_Pair v_y650), .y (eS_rmap_Pair v_y651), .w ((v_w634.set (v_idx633).toNat v_y650).map eS_rmap_Pair), .y (eS_rmap_Pair v_y652), .w (((v_w634.set (v_idx633).toNat v_y650).set ((wi .i64 (v_a610 + (wi .i64 (bits .and .u64 v_r645.1 (wi .u64 (v_r615 - 1))))))).toNat v_y651).map eS_rmap_Pair), .y (eS_rmap_Pair v_y653)]) (ts := []) (s := [0, 1, 2]) (l := [0, 1, 8, 9, 10, 11]) (by kernel_rfl) (by kernel_rfl) (.cons (show (4 : Int) ≠ 0 by decide) (.cons (dt h500) (.cons (G_slices_xorshift_Next_h_ok n v_b635 _ h520) (.cons (df h522) (.cons (idx_ob (f := eS_rmap_Pair) h531) (.cons (get_ob (f := eS_rmap_Pair) h532) (.cons (idx_ob (f := eS_rmap_Pair) h533) (.cons (get_ob (f := eS_rmap_Pair) h534) (.cons (idx_ob (f := eS_rmap_Pair) h535) (.cons (get_ob (f := eS_rmap_Pair) h536) (.cons (Eq.refl (pcells (.agg [.v (.int .i64 v_y650.fFrame), .v (.int .i64 v_y650.fSpace), .v (.int .i64 v_y650.fPage)]))) (.cons (set_ob (f := eS_rmap_Pair) (l := v_w634) (k := (v_idx633).toNat) (z := v_y650) (p := .agg [.v (.int .i64 v_y650.fFrame), .v (.int .i64 v_y650.fSpace), .v (.int .i64 v_y650.fPage)]) rfl) (.cons (idx_ob (f := eS_rmap_Pair) h537) (.cons (get_ob (f := eS_rmap_Pair) h538) (.cons (Eq.refl (pcells (.agg [.v (.int .i64 v_y651.fFrame), .v (.int .i64 v_y651.fSpace), .v (.int .i64 v_y651.fPage)]))) (.cons (set_ob (f := eS_rmap_Pair) (l := (v_w634.set (v_idx633).toNat v_y650)) (k := ((wi .i64 (v_a610 + (wi .i64 (bits .and .u64 v_r645.1 (wi .u64 (v_r615 - 1))))))).toNat) (z := v_y651) (p := .agg [.v (.int .i64 v_y651.fFrame), .v (.int .i64 v_y651.fSpace), .v (.int .i64 v_y651.fPage)]) rfl) .nil)))))))))))))))) (G_slices_breakPatternsCmpFunc_rmap_Pair_h_L1_ok hF ks n v_a610 v_b611 v_r615 k (wi .i64 (v_idx633 + 1)) ((v_w634.set (v_idx633).toNat v_y650).set ((wi .i64 (v_a610 + (wi .i64 (bits .and .u64 v_r645.1 (wi .u64 (v_r615 - 1))))))).toNat v_y651) v_r645.2 _ h q)
              · rw [if_neg h537] at h; cases h
            · rw [if_neg h535] at h; cases h
          · rw [if_neg h533] at h; cases h
        · rw [if_neg h531] at h; cases h
    · rw [if_neg h500] at h
      cases h
      exact pkk_sound TTok mix hF 8 (hs := [.t false]) (ts := []) (s := [0, 1]) (l := []) (by kernel_rfl) (by kernel_rfl) (.cons (show (4 : Int) ≠ 0 by decide) (.cons (df h500) .nil)) q
/- slices.breakPatternsCmpFunc[ringhall/rmap.Pair] -/
def G_slices_breakPatternsCmpFunc_rmap_Pair_h (n : Nat) (v_data609 : (List S_rmap_Pair)) (v_a610 : Int) (v_b611 : Int) (v_cmp612 : (S_rmap_Pair → S_rmap_Pair → Option (Int))) : Option ((List S_rmap_Pair)) :=
  if (wi .i64 (v_b611 - v_a610)) ≥ 8 then
   (G_slices_nextPowerOfTwo n (wi .i64 (v_b611 - v_a610))).bind fun (v_r615 : (Int)) =>
   (G_slices_breakPatternsCmpFunc_rmap_Pair_h_L1 n v_a610 v_b611 v_r615 n (wi .i64 ((wi .i64 (v_a610 + (wi .i64 ((quoI .i64 (wi .i64 (v_b611 - v_a610)) 4) * 2)))) - 1)) v_data609 (wi .u64 (wi .i64 (v_b611 - v_a610)))).bind fun v_o655 => match v_o655 with
   | .x0 v_z656 =>
     some v_z656
  else
   some v_data609
theorem G_slices_breakPatternsCmpFunc_rmap_Pair_h_ok (n : Nat) (v_data609 : (List S_rmap_Pair)) (v_a610 : Int) (v_b611 : Int) (v_cmp612 : (S_rmap_Pair → S_rmap_Pair → Option (Int))) (v_cmp612_g : FuncId) (v_cmp612_c : List PV) (v_cmp612_h : ∀ (x0 : S_rmap_Pair) (x1 : S_rmap_Pair) (r : Int), v_cmp612 x0 x1 = some r → Ret Try.prog v_cmp612_g ([eS_rmap_Pair x0, eS_rmap_Pair x1] ++ v_cmp612_c) ((eI .i64) r)) (r : (List S_rmap_Pair)) (h : G_slices_breakPatternsCmpFunc_rmap_Pair_h n v_data609 v_a610 v_b611 v_cmp612 = some r) : RetH Try.prog 41 [.srf 0, .d ((eI .i64) v_a610), .d ((eI .i64) v_b611), .d ((.clo v_cmp612_g v_cmp612_c))] [.row 24 3 (v_data609.map eS_rmap_Pair)] (.tup []) [.row 24 3 (r.map eS_rmap_Pair)] := by
  refine retH_run (n := 67) (fn := Try.f41) (c := bodyOf Try.f41) (by kernel_rfl) (by kernel_rfl) (by kernel_rfl) (by kernel_rfl) ?_
  have hF : KC 67 (FinH Try.prog Try.f41 [.row 24 3 (v_data609.map eS_rmap_Pair)] (.tup []) [.row 24 3 (r.map eS_rmap_Pair)]) := FinH.kc' (by kernel_rfl)
  unfold G_slices_breakPatternsCmpFunc_rmap_Pair_h at h
  by_cases h459 : (wi .i64 (v_b611 - v_a610)) ≥ 8
  · rw [if_pos h459] at h
    obtain ⟨v_r615, h462, h⟩ := bind_some h
    obtain ⟨v_o655, h539, h⟩ := bind_some h
    refine pkk_sound TTok mix hF 13 (hs := [.t true, .c, .r ((eI .u64) v_r615), .n n]) (ts := []) (s := [1, 0, 42]) (l := [0, 1, 8, 9, 10, 11]) (by kernel_rfl) (by kernel_rfl) (.cons (dt h459) (.cons (show 0 + 1 ≤ 1 by decide) (.cons (G_slices_nextPowerOfTwo_ok n (wi .i64 (v_b611 - v_a610)) _ h462) (.cons (show (4 : Int) ≠ 0 by decide) .nil)))) (G_slices_breakPatternsCmpFunc_rmap_Pair_h_L1_ok hF (.b 0 :: []) n v_a610 v_b611 v_r615 n (wi .i64 ((wi .i64 (v_a610 + (wi .i64 ((quoI .i64 (wi .i64 (v_b611 - v_a610)) 4) * 2)))) - 1)) v_data609 (wi .u64 (wi .i64 (v_b611 - v_a610))) _ h539 ?_)
    cases v_o655 with
    | x0 v_z656 =>
      try dsimp only at h
      obtain rfl := Option.some.inj h
      exact pendH_sound TTok mix 1 (hs := []) [1] (by kernel_rfl) (by kernel_rfl) (by kernel_rfl) .nil
  · rw [if_neg h459] at h
    obtain rfl := Option.some.inj h
    exact pendH_sound TTok mix 6 (hs := [.t false]) [0] (by kernel_rfl) (by kernel_rfl) (by kernel_rfl) (.cons (df h459) .nil)
/- slices.order2CmpFunc[ringhall/rmap.Pair] -/
def G_slices_order2CmpFunc_rmap_Pair_h (n : Nat) (v_data690 : (List S_rmap_Pair)) (v_a691 : Int) (v_b692 : Int) (v_swaps693 : Int) (v_cmp694 : (S_rmap_Pair → S_rmap_Pair → Option (Int))) : Option (Int × Int × Int) :=
  (getI v_data690 v_b692).bind fun (v_y695 : S_rmap_Pair) =>
  (getI v_data690 v_a691).bind fun (v_y696 : S_rmap_Pair) =>
  (v_cmp694 v_y695 v_y696).bind fun (v_r697 : (Int)) =>
  if v_r697 < 0 then
   some (v_b692, v_a691, (wi .i64 (v_swaps693 + 1)))
  else
   some (v_a691, v_b692, v_swaps693)
theorem G_slices_order2CmpFunc_rmap_Pair_h_ok (n : Nat) (v_data690 : (List S_rmap_Pair)) (v_a691 : Int) (v_b692 : Int) (v_swaps693 : Int) (v_cmp694 : (S_rmap_Pair → S_rmap_Pair → Option (Int))) (v_cmp694_g : FuncId) (v_cmp694_c : List PV) (v_cmp694_h : ∀ (x0 : S_rmap_Pair) (x1 : S_rmap_Pair) (r : Int), v_cmp694 x0 x1 = some r → Ret Try.prog v_cmp694_g ([eS_rmap_Pair x0, eS_rmap_Pair x1] ++ v_cmp694_c) ((eI .i64) r)) (r : Int × Int × Int) (h : G_slices_order2CmpFunc_rmap_Pair_h n v_data690 v_a691 v_b692 v_swaps693 v_cmp694 = some r) : RetH Try.prog 55 [.d ((eL eS_rmap_Pair) v_data690), .d ((eI .i64) v_a691), .d ((eI .i64) v_b692), .ref 0 0, .d ((.clo v_cmp694_g v_cmp694_c))] [.box [.d (.v (.int .i64 v_swaps693))]] (.tup [.d ((eI .i64) r.1), .d ((eI .i64) r.2.1)]) [.box [.d (.v (.int .i64 r.2.2))]] := by
  refine retH_run (n := 32) (fn := Try.f55) (c := bodyOf Try.f55) (by kernel_rfl) (by kernel_rfl) (by kernel_rfl) (by kernel_rfl) ?_
  have hF : KC 32 (FinH Try.prog Try.f55 [.box [.d (.v (.int .i64 v_swaps693))]] (.tup [.d ((eI .i64) r.1), .d ((eI .i64) r.2.1)]) [.box [.d (.v (.int .i64 r.2.2))]]) := FinH.kc' (by kernel_rfl)
  unfold G_slices_order2CmpFunc_rmap_Pair_h at h
  obtain ⟨v_y695, h549, h⟩ := bind_some h
  obtain ⟨v_y696, h550, h⟩ := bind_some h
  obtain ⟨v_r697, h551, h⟩ := bind_some h
  by_cases h553 : v_r697 < 0
  · rw [if_pos h553] at h
    obtain rfl := Option.some.inj h
    exact pendH_sound TTok mix 12 (hs := [.y (eS_rmap_Pair v_y695), .y (eS_rmap_Pair v_y696), .r ((eI .i64) v_r697), .t true, .c, .c]) [0] (by kernel_rfl) (by kernel_rfl) (by kernel_rfl) (.cons (getI_ob (f := eS_rmap_Pair) h549) (.cons (getI_ob (f := eS_rmap_Pair) h550) (.cons (v_cmp694_h v_y695 v_y696 _ h551) (.cons (dt h553) (.cons (show 0 + 1 ≤ 1 by decide) .nil)))))
  · rw [if_neg h553] at h
    obtain rfl := Option.some.inj h
    exact pendH_sound TTok mix 10 (hs := [.y (eS_rmap_Pair v_y695), .y (eS_rmap_Pair v_y696), .r ((eI .i64) v_r697), .t false]) [0] (by kernel_rfl) (by kernel_rfl) (by kernel_rfl) (.cons (getI_ob (f := eS_rmap_Pair) h549) (.cons (getI_ob (f := eS_rmap_Pair) h550) (.cons (v_cmp694_h v_y695 v_y696 _ h551) (.cons (df h553) .nil))))
/- slices.medianCmpFunc[ringhall/rmap.Pair] -/
def G_slices_medianCmpFunc_rmap_Pair_h (n : Nat) (v_data684 : (List S_rmap_Pair)) (v_a685 : Int) (v_b686 : Int) (v_c687 : Int) (v_swaps688 : Int) (v_cmp689 : (S_rmap_Pair → S_rmap_Pair → Option (Int))) : Option (Int × Int) :=
  (G_slices_order2CmpFunc_rmap_Pair_h n v_data684 v_a685 v_b686 v_swaps688 v_cmp689).bind fun (v_r698 : (Int × Int × Int)) =>
  (G_slices_order2CmpFunc_rmap_Pair_h n v_data684 v_r698.2.1 v_c687 v_r698.2.2 v_cmp689).bind fun (v_r699 : (Int × Int × Int)) =>
  (G_slices_order2CmpFunc_rmap_Pair_h n v_data684 v_r698.1 v_r699.1 v_r699.2.2 v_cmp689).bind fun (v_r700 : (Int × Int × Int)) =>
  some (v_r700.2.1, v_r700.2.2)
theorem G_slices_medianCmpFunc_rmap_Pair_h_ok (n : Nat) (v_data684 : (List S_rmap_Pair)) (v_a685 : Int) (v_b686 : Int) (v_c687 : Int) (v_swaps688 : Int) (v_cmp689 : (S_rmap_Pair → S_rmap_Pair → Option (Int))) (v_cmp689_g : FuncId) (v_cmp689_c : List PV) (v_cmp689_h : ∀ (x0 : S_rmap_Pair) (x1 : S_rmap_Pair) (r : Int), v_cmp689 x0 x1 = some r → Ret Try.prog v_cmp689_g ([eS_rmap_Pair x0, eS_rmap_Pair x1] ++ v_cmp689_c) ((eI .i64) r)) (r : Int × Int) (h : G_slices_medianCmpFunc_rmap_Pair_h n v_data684 v_a685 v_b686 v_c687 v_swaps688 v_cmp689 = some r) : RetH Try.prog 54 [.d ((eL eS_rmap_Pair) v_data684), .d ((eI .i64) v_a685), .d ((eI .i64) v_b686), .d ((eI .i64) v_c687), .ref 0 0, .d ((.clo v_cmp689_g v_cmp689_c))] [.box [.d (.v (.int .i64 v_swaps688))]] (.d ((eI .i64) r.1)) [.box [.d (.v (.int .i64 r.2))]] := by
  refine retH_run (n := 41) (fn := Try.f54) (c := bodyOf Try.f54) (by kernel_rfl) (by kernel_rfl) (by kernel_rfl) (by kernel_rfl) ?_
  have hF : KC 41 (FinH Try.prog Try.f54 [.box [.d (.v (.int .i64 v_swaps688))]] (.d ((eI .i64) r.1)) [.box [.d (.v (.int .i64 r.2))]]) := FinH.kc' (by kernel_rfl)
  unfold G_slices_medianCmpFunc_rmap_Pair_h at h
  obtain ⟨v_r698, h554, h⟩ := bind_some h
  obtain ⟨v_r699, h555, h⟩ := bind_some h
  obtain ⟨v_r700, h556, h⟩ := bind_some h
  obtain rfl := Option.some.inj h
  exact pendH_sound TTok mix 11 (hs := [.h [0] [] [.box [.d (.v (.int .i64 v_r698.2.2))]] (.tup [.d (.v (.int .i64 v_r698.1)), .d (.v (.int .i64 v_r698.2.1))]), .h [0] [] [.box [.d (.v (.int .i64 v_r699.2.2))]] (.tup [.d (.v (.int .i64 v_r699.1)), .d (.v (.int .i64 v_r699.2.1))]), .h [0] [] [.box [.d (.v (.int .i64 v_r700.2.2))]] (.tup [.d (.v (.int .i64 v_r700.1)), .d (.v (.int .i64 v_r700.2.1))])]) [0] (by kernel_rfl) (by kernel_rfl) (by kernel_rfl) (.cons (G_slices_order2CmpFunc_rmap_Pair_h_ok n v_data684 v_a685 v_b686 v_swaps688 v_cmp689 v_cmp689_g v_cmp689_c v_cmp689_h _ h554) (.cons (G_slices_order2CmpFunc_rmap_Pair_h_ok n v_data684 v_r698.2.1 v_c687 v_r698.2.2 v_cmp689 v_cmp689_g v_cmp689_c v_cmp689_h _ h555) (.cons (G_slices_order2CmpFunc_rmap_Pair_h_ok n v_data684 v_r698.1 v_r699.1 v_r699.2.2 v_cmp689 v_cmp689_g v_cmp689_c v_cmp689_h _ h556) .nil)))
/- slices.medianAdjacentCmpFunc[ringhall/rmap.Pair] -/
def G_slices_medianAdjacentCmpFunc_rmap_Pair_h (n : Nat) (v_data680 : (List S_rmap_Pair)) (v_a681 : Int) (v_swaps682 : Int) (v_cmp683 : (S_rmap_Pair → S_rmap_Pair → Option (Int))) : Option (Int × Int) :=
  (G_slices_medianCmpFunc_rmap_Pair_h n v_data680 (wi .i64 (v_a681 - 1)) v_a681 (wi .i64 (v_a681 + 1)) v_swaps682 v_cmp683).bind fun (v_r701 : (Int × Int)) =>
  some (v_r701.1, v_r701.2)
theorem G_slices_medianAdjacentCmpFunc_rmap_Pair_h_ok (n : Nat) (v_data680 : (List S_rmap_Pair)) (v_a681 : Int) (v_swaps682 : Int) (v_cmp683 : (S_rmap_Pair → S_rmap_Pair → Option (Int))) (v_cmp683_g : FuncId) (v_cmp683_c : List PV) (v_cmp683_h : ∀ (x0 : S_rmap_Pair) (x1 : S_rmap_Pair) (r : Int), v_cmp683 x0 x1 = some r → Ret Try.prog v_cmp683_g ([eS_rmap_Pair x0, eS_rmap_Pair x1] ++ v_cmp683_c) ((eI .i64) r)) (r : Int × Int) (h : G_slices_medianAdjacentCmpFunc_rmap_Pair_h n v_data680 v_a681 v_swaps682 v_cmp683 = some r) : RetH Try.prog 53 [.d ((eL eS_rmap_Pair) v_data680), .d ((eI .i64) v_a681), .ref 0 0, .d ((.clo v_cmp683_g v_cmp683_c))] [.box [.d (.v (.int .i64 v_swaps682))]] (.d ((eI .i64) r.1)) [.box [.d (.v (.int .i64 r.2))]] := by
  refine retH_run (n := 18) (fn := Try.f53) (c := bodyOf Try.f53) (by kernel_rfl) (by kernel_rfl) (by kernel_rfl) (by kernel_rfl) ?_
  have hF : KC 18 (FinH Try.prog Try.f53 [.box [.d (.v (.int .i64 v_swaps682))]] (.d ((eI .i64) r.1)) [.box [.d (.v (.int .i64 r.2))]]) := FinH.kc' (by kernel_rfl)
  unfold G_slices_medianAdjacentCmpFunc_rmap_Pair_h at h
  obtain ⟨v_r701, h557, h⟩ := bind_some h
  obtain rfl := Option.some.inj h
  exact pendH_sound TTok mix 5 (hs := [.h [0] [] [.box [.d (.v (.int .i64 v_r701.2))]] (.d (.v (.int .i64 v_r701.1)))]) [0] (by kernel_rfl) (by kernel_rfl) (by kernel_rfl) (.cons (G_slices_medianCmpFunc_rmap_Pair_h_ok n v_data680 (wi .i64 (v_a681 - 1)) v_a681 (wi .i64 (v_a681 + 1)) v_swaps682 v_cmp683 v_cmp683_g v_cmp683_c v_cmp683_h _ h557) .nil)
inductive G_slices_choosePivotCmpFunc_rmap_Pair_C1_R where
  | x0 (v_j843 : Int) (v_b844 : Int)
  | x1 (v_j848 : Int)
def G_slices_choosePivotCmpFunc_rmap_Pair_C1_ex : G_slices_choosePivotCmpFunc_rmap_Pair_C1_R → Ex
  | .x0 _ _ => .normal
  | .x1 _ => .normal
def G_slices_choosePivotCmpFunc_rmap_Pair_C1_st (v_data666 : (List S_rmap_Pair)) (v_cmp669 : (S_rmap_Pair → S_rmap_Pair → Option (Int))) (v_b668 : Int) (v_a667 : Int) (v_cmp669_g : FuncId) (v_cmp669_c : (List PV)) : G_slices_choosePivotCmpFunc_rmap_Pair_C1_R → PS
  | .x0 v_j843 v_b844 => ⟨(dds 11 (.ref 0 0 :: dd :: .d (.v (.int .i64 v_j843)) :: (dds 49 []))), [.box [.d (.v (.int .i64 v_b844))]]⟩
  | .x1 v_j848 => ⟨(dds 11 (.ref 0 0 :: dd :: .d (.v (.int .i64 v_j848)) :: (dds 49 []))), [.box [.d (.v (.int .i64 0))]]⟩
def G_slices_choosePivotCmpFunc_rmap_Pair_C1_hd (v_data666 : (List S_rmap_Pair)) (v_cmp669 : (S_rmap_Pair → S_rmap_Pair → Option (Int))) (v_b668 : Int) (v_a667 : Int) (v_cmp669_g : FuncId) (v_cmp669_c : (List PV))  : PS := ⟨(.d (.sl (v_data666.map eS_rmap_Pair)) :: dd :: dd :: .d (.clo v_cmp669_g v_cmp669_c) :: dd :: dd :: dd :: dd :: dd :: dd :: .d (.v (.int .i64 (wi .i64 (v_b668 - v_a667)))) :: .ref 0 0 :: .d (.v (.int .i64 (wi .i64 (v_a667 + (wi .i64 ((quoI .i64 (wi .i64 (v_b668 - v_a667)) 4) * 1)))))) :: .d (.v (.int .i64 (wi .i64 (v_a667 + (wi .i64 ((quoI .i64 (wi .i64 (v_b668 - v_a667)) 4) * 2)))))) :: .d (.v (.int .i64 (wi .i64 (v_a667 + (wi .i64 ((quoI .i64 (wi .i64 (v_b668 - v_a667)) 4) * 3)))))) :: (dds 19 (.d (.v (.bool (decide ((wi .i64 (v_b668 - v_a667)) ≥ 8)))) :: (dds 28 [])))), [.box [.d (.v (.int .i64 0))]]⟩
def G_slices_choosePivotCmpFunc_rmap_Pair_C1 (n : Nat) (v_data666 : (List S_rmap_Pair)) (v_cmp669 : (S_rmap_Pair → S_rmap_Pair → Option (Int))) (v_b668 : Int) (v_a667 : Int) : Option G_slices_choosePivotCmpFunc_rmap_Pair_C1_R :=
  if (wi .i64 (v_b668 - v_a667)) ≥ 8 then
   if (wi .i64 (v_b668 - v_a667)) ≥ 50 then
    (G_slices_medianAdjacentCmpFunc_rmap_Pair_h n v_data666 (wi .i64 (v_a667 + (wi .i64 ((quoI .i64 (wi .i64 (v_b668 - v_a667)) 4) * 1)))) 0 v_cmp669).bind fun (v_r839 : (Int × Int)) =>
    (G_slices_medianAdjacentCmpFunc_rmap_Pair_h n v_data666 (wi .i64 (v_a667 + (wi .i64 ((quoI .i64 (wi .i64 (v_b668 - v_a667)) 4) * 2)))) v_r839.2 v_cmp669).bind fun (v_r840 : (Int × Int)) =>
    (G_slices_medianAdjacentCmpFunc_rmap_Pair_h n v_data666 (wi .i64 (v_a667 + (wi .i64 ((quoI .i64 (wi .i64 (v_b668 - v_a667)) 4) * 3)))) v_r840.2 v_cmp669).bind fun (v_r841 : (Int × Int)) =>
    (G_slices_medianCmpFunc_rmap_Pair_h n v_data666 v_r839.1 v_r840.1 v_r841.1 v_r841.2 v_cmp669).bind fun (v_r842 : (Int × Int)) =>
    some (.x0 v_r842.1 v_r842.2)
   else
    (G_slices_medianCmpFunc_rmap_Pair_h n v_data666 (wi .i64 (v_a667 + (wi .i64 ((quoI .i64 (wi .i64 (v_b668 - v_a667)) 4) * 1)))) (wi .i64 (v_a667 + (wi .i64 ((quoI .i64 (wi .i64 (v_b668 - v_a667)) 4) * 2)))) (wi .i64 (v_a667 + (wi .i64 ((quoI .i64 (wi .i64 (v_b668 - v_a667)) 4) * 3)))) 0 v_cmp669).bind fun (v_r845 : (Int × Int)) =>
    some (.x0 v_r845.1 v_r845.2)
  else
   some (.x1 (wi .i64 (v_a667 + (wi .i64 ((quoI .i64 (wi .i64 (v_b668 - v_a667)) 4) * 2)))))
theorem G_slices_choosePivotCmpFunc_rmap_Pair_C1_ok {Fi : Ex → PS → Prop} (hF : KC 63 Fi) (ks : List Fr) (n : Nat) (v_data666 : (List S_rmap_Pair)) (v_cmp669 : (S_rmap_Pair → S_rmap_Pair → Option (Int))) (v_b668 : Int) (v_a667 : Int) (v_cmp669_g : FuncId) (v_cmp669_c : (List PV)) (v_cmp669_h : ∀ (x0 : S_rmap_Pair) (x1 : S_rmap_Pair) (r : Int), v_cmp669 x0 x1 = some r → Ret Try.prog v_cmp669_g ([eS_rmap_Pair x0, eS_rmap_Pair x1] ++ v_cmp669_c) ((eI .i64) r)) (o : G_slices_choosePivotCmpFunc_rmap_Pair_C1_R) (h : G_slices_choosePivotCmpFunc_rmap_Pair_C1 n v_data666 v_cmp669 v_b668 v_a667 = some o) (q : RunE Try.prog 63 Fi ks (G_slices_choosePivotCmpFunc_rmap_Pair_C1_ex o) (G_slices_choosePivotCmpFunc_rmap_Pair_C1_st v_data666 v_cmp669 v_b668 v_a667 v_cmp669_g v_cmp669_c o)) : RunE Try.prog 63 Fi (.s (cR (cL (cR (cR (cR (cR (cR (cR (bodyOf Try.f42))))))))) :: ks) .normal (G_slices_choosePivotCmpFunc_rmap_Pair_C1_hd v_data666 v_cmp669 v_b668 v_a667 v_cmp669_g v_cmp669_c) := by
  unfold G_slices_choosePivotCmpFunc_rmap_Pair_C1 at h
  by_cases h629 : (wi .i64 (v_b668 - v_a667)) ≥ 8
  · rw [if_pos h629] at h
    by_cases h634 : (wi .i64 (v_b668 - v_a667)) ≥ 50
    · rw [if_pos h634] at h
      obtain ⟨v_r839, h635, h⟩ := bind_some h
      obtain ⟨v_r840, h636, h⟩ := bind_some h
      obtain ⟨v_r841, h637, h⟩ := bind_some h
      obtain ⟨v_r842, h638, h⟩ := bind_some h
      cases h
      exact pkk_sound TTok mix hF 11 (hs := [.t true, .t true, .h [0] [] [.box [.d (.v (.int .i64 v_r839.2))]] (.d (.v (.int .i64 v_r839.1))), .h [0] [] [.box [.d (.v (.int .i64 v_r840.2))]] (.d (.v (.int .i64 v_r840.1))), .h [0] [] [.box [.d (.v (.int .i64 v_r841.2))]] (.d (.v (.int .i64 v_r841.1))), .h [0] [] [.box [.d (.v (.int .i64 v_r842.2))]] (.d (.v (.int .i64 v_r842.1)))]) (ts := []) (s := [0]) (l := [11, 13]) (by kernel_rfl) (by kernel_rfl) (.cons (dt h629) (.cons (dt h634) (.cons (G_slices_medianAdjacentCmpFunc_rmap_Pair_h_ok n v_data666 (wi .i64 (v_a667 + (wi .i64 ((quoI .i64 (wi .i64 (v_b668 - v_a667)) 4) * 1)))) 0 v_cmp669 v_cmp669_g v_cmp669_c v_cmp669_h _ h635) (.cons (G_slices_medianAdjacentCmpFunc_rmap_Pair_h_ok n v_data666 (wi .i64 (v_a667 + (wi .i64 ((quoI .i64 (wi .i64 (v_b668 - v_a667)) 4) * 2)))) v_r839.2 v_cmp669 v_cmp669_g v_cmp669_c v_cmp669_h _ h636) (.cons (G_slices_medianAdjacentCmpFunc_rmap_Pair_h_ok n v_data666 (wi .i64 (v_a667 + (wi .i64 ((quoI .i64 (wi .i64 (v_b668 - v_a667)) 4) * 3)))) v_r840.2 v_cmp669 v_cmp669_g v_cmp669_c v_cmp669_h _ h637) (.cons (G_slices_medianCmpFunc_rmap_Pair_h_ok n v_data666 v_r839.1 v_r840.1 v_r841.1 v_r841.2 v_cmp669 v_cmp669_g v_cmp669_c v_cmp669_h _ h638) .nil)))))) q
    · rw [if_neg h634] at h
      obtain ⟨v_r845, h639, h⟩ := bind_some h
      cases h
      exact pkk_sound TTok mix hF 7 (hs := [.t true, .t false, .h [0] [] [.box [.d (.v (.int .i64 v_r845.2))]] (.d (.v (.int .i64 v_r845.1)))]) (ts := []) (s := [0]) (l := [11, 13]) (by kernel_rfl) (by kernel_rfl) (.cons (dt h629) (.cons (df h634) (.cons (G_slices_medianCmpFunc_rmap_Pair_h_ok n v_data666 (wi .i64 (v_a667 + (wi .i64 ((quoI .i64 (wi .i64 (v_b668 - v_a667)) 4) * 1)))) (wi .i64 (v_a667 + (wi .i64 ((quoI .i64 (wi .i64 (v_b668 - v_a667)) 4) * 2)))) (wi .i64 (v_a667 + (wi .i64 ((quoI .i64 (wi .i64 (v_b668 - v_a667)) 4) * 3)))) 0 v_cmp669 v_cmp669_g v_cmp669_c v_cmp669_h _ h639) .nil))) q
  · rw [if_neg h629] at h
    cases h
    exact pkk_sound TTok mix hF 2 (hs := [.t false]) (ts := []) (s := [0]) (l := [11, 13]) (by kernel_rfl) (by kernel_rfl) (.cons (df h629) .nil) q
def G_slices_choosePivotCmpFunc_rmap_Pair_J1 (n : Nat)  (v_b854 : Int) (v_j855 : Int) : Option (Int × Int) :=
  if v_b854 = 0 then
   some (v_j855, 1)
  else
   if v_b854 = 12 then
    some (v_j855, 2)
   else
    some (v_j855, 0)
theorem G_slices_choosePivotCmpFunc_rmap_Pair_J1_ok (n : Nat)   (v_b854 : Int) (v_j855 : Int) (r : Int × Int) (h : G_slices_choosePivotCmpFunc_rmap_Pair_J1 n  v_b854 v_j855 = some r) : RunE Try.prog 63 (FinR Try.prog Try.f42 (.tup [(eI .i64) r.1, (eI .i64) r.2])) (.s (cR (cR (cR (cR (cR (cR (cR (bodyOf Try.f42)))))))) :: []) .normal ⟨(dds 11 (.ref 0 0 :: dd :: .d (.v (.int .i64 v_j855)) :: (dds 49 []))), [.box [.d (.v (.int .i64 v_b854))]]⟩ := by
  have hF : KC 63 (FinR Try.prog Try.f42 (.tup [(eI .i64) r.1, (eI .i64) r.2])) := FinR.kc' (by kernel_rfl)
  unfold G_slices_choosePivotCmpFunc_rmap_Pair_J1 at h
  by_cases h643 : v_b854 = 0
  · rw [if_pos h643] at h
    obtain rfl := Option.some.inj h
    exact pend_sound TTok mix 10 (hs := [.c, .t true]) (by kernel_rfl) (by kernel_rfl) (by kernel_rfl) (.cons (bt h643) .nil)
  · rw [if_neg h643] at h
    by_cases h645 : v_b854 = 12
    · rw [if_pos h645] at h
      obtain rfl := Option.some.inj h
      exact pend_sound TTok mix 13 (hs := [.c, .t false, .t true]) (by kernel_rfl) (by kernel_rfl) (by kernel_rfl) (.cons (bf h643) (.cons (bt h645) .nil))
    · rw [if_neg h645] at h
      obtain rfl := Option.some.inj h
      exact pend_sound TTok mix 13 (hs := [.c, .t false, .t false]) (by kernel_rfl) (by kernel_rfl) (by kernel_rfl) (.cons (bf h643) (.cons (bf h645) .nil))
/- slices.choosePivotCmpFunc[ringhall/rmap.Pair] -/
def G_slices_choosePivotCmpFunc_rmap_Pair (n : Nat) (v_data666 : (List S_rmap_Pair)) (v_a667 : Int) (v_b668 : Int) (v_cmp669 : (S_rmap_Pair → S_rmap_Pair → Option (Int))) : Option (Int × Int) :=
  (G_slices_choosePivotCmpFunc_rmap_Pair_C1 n v_data666 v_cmp669 v_b668 v_a667).bind fun v_o849 => match v_o849 with
  | .x0 v_z850 v_z851 =>
    G_slices_choosePivotCmpFunc_rmap_Pair_J1 n  v_z851 v_z850
  | .x1 v_z867 =>
    G_slices_choosePivotCmpFunc_rmap_Pair_J1 n  0 v_z867
theorem G_slices_choosePivotCmpFunc_rmap_Pair_ok (n : Nat) (v_data666 : (List S_rmap_Pair)) (v_a667 : Int) (v_b668 : Int) (v_cmp669 : (S_rmap_Pair → S_rmap_Pair → Option (Int))) (v_cmp669_g : FuncId) (v_cmp669_c : List PV) (v_cmp669_h : ∀ (x0 : S_rmap_Pair) (x1 : S_rmap_Pair) (r : Int), v_cmp669 x0 x1 = some r → Ret Try.prog v_cmp669_g ([eS_rmap_Pair x0, eS_rmap_Pair x1] ++ v_cmp669_c) ((eI .i64) r)) (r : Int × Int) (h : G_slices_choosePivotCmpFunc_rmap_Pair n v_data666 v_a667 v_b668 v_cmp669 = some r) : Ret Try.prog 42 [(eL eS_rmap_Pair) v_data666, (eI .i64) v_a667, (eI .i64) v_b668, (.clo v_cmp669_g v_cmp669_c)] (.tup [(eI .i64) r.1, (eI .i64) r.2]) := by
  refine ret_run (n := 63) (fn := Try.f42) (c := bodyOf Try.f42) (by kernel_rfl) (by kernel_rfl) (by kernel_rfl) (by kernel_rfl) ?_
  have hF : KC 63 (FinR Try.prog Try.f42 (.tup [(eI .i64) r.1, (eI .i64) r.2])) := FinR.kc' (by kernel_rfl)
  unfold G_slices_choosePivotCmpFunc_rmap_Pair at h
  obtain ⟨v_o849, h640, h⟩ := bind_some h
  refine pkk_sound TTok mix hF 15 (hs := []) (ts := []) (s := [30]) (l := [0, 3, 10, 11, 12, 13, 14, 34]) (by kernel_rfl) (by kernel_rfl) (.cons (show (4 : Int) ≠ 0 by decide) (.cons (show (4 : Int) ≠ 0 by decide) (.cons (show (4 : Int) ≠ 0 by decide) .nil))) (G_slices_choosePivotCmpFunc_rmap_Pair_C1_ok hF (.s (cR (cR (cR (cR (cR (cR (cR (bodyOf Try.f42)))))))) :: []) n v_data666 v_cmp669 v_b668 v_a667 v_cmp669_g v_cmp669_c v_cmp669_h _ h640 ?_)
  cases v_o849 with
  | x0 v_z850 v_z851 =>
    try dsimp only at h
    exact pkk_sound TTok mix hF 0 (hs := []) (ts := []) (s := [0]) (l := [11, 13]) (by kernel_rfl) (by kernel_rfl) .nil (G_slices_choosePivotCmpFunc_rmap_Pair_J1_ok n  v_z851 v_z850 _ h)
  | x1 v_z867 =>
    try dsimp only at h
    exact pkk_sound TTok mix hF 0 (hs := []) (ts := []) (s := [0]) (l := [11, 13]) (by kernel_rfl) (by kernel_rfl) .nil (G_slices_choosePivotCmpFunc_rmap_Pair_J1_ok n  0 v_z867 _ h)
inductive G_slices_reverseRangeCmpFunc_rmap_Pair_h_L1_R where
  | x0 (v_w888 : (List S_rmap_Pair))
def G_slices_reverseRangeCmpFunc_rmap_Pair_h_L1_ex : G_slices_reverseRangeCmpFunc_rmap_Pair_h_L1_R → Ex
  | .x0 _ => .exit 0
def G_slices_reverseRangeCmpFunc_rmap_Pair_h_L1_st  : G_slices_reverseRangeCmpFunc_rmap_Pair_h_L1_R → PS
  | .x0 v_w888 => ⟨(dds 34 []), [.gh 0 (.srf 1), .row 24 3 (v_w888.map eS_rmap_Pair)]⟩
def G_slices_reverseRangeCmpFunc_rmap_Pair_h_L1_hd  (v_i877 : Int) (v_j878 : Int) (v_w879 : (List S_rmap_Pair)) : PS := ⟨(.srf 1 :: dd :: dd :: dd :: dd :: dd :: dd :: dd :: .d (.v (.int .i64 v_i877)) :: .d (.v (.int .i64 v_j878)) :: (dds 24 [])), [.gh 0 (.srf 1), .row 24 3 (v_w879.map eS_rmap_Pair)]⟩
def G_slices_reverseRangeCmpFunc_rmap_Pair_h_L1 (n : Nat)  : Nat → Int → Int → (List S_rmap_Pair) → Option G_slices_reverseRangeCmpFunc_rmap_Pair_h_L1_R
  | 0, _, _, _ => none
  | k + 1, v_i877, v_j878, v_w879 =>
    if v_i877 < v_j878 then
     if 0 ≤ v_j878 ∧ (v_j878).toNat < v_w879.length then
      (v_w879[(v_j878).toNat]?).bind fun (v_y884 : S_rmap_Pair) =>
      if 0 ≤ v_i877 ∧ (v_i877).toNat < v_w879.length then
       (v_w879[(v_i877).toNat]?).bind fun (v_y885 : S_rmap_Pair) =>
       if 0 ≤ v_i877 ∧ (v_i877).toNat < v_w879.length then
        (v_w879[(v_i877).toNat]?).bind fun (v_y886 : S_rmap_Pair) =>
        if 0 ≤ v_j878 ∧ (v_j878).toNat < (v_w879.set (v_i877).toNat v_y884).length then
         ((v_w879.set (v_i877).toNat v_y884)[(v_j878).toNat]?).bind fun (v_y887 : S_rmap_Pair) =>
         G_slices_reverseRangeCmpFunc_rmap_Pair_h_L1 n  k (wi .i64 (v_i877 + 1)) (wi .i64 (v_j878 - 1)) ((v_w879.set (v_i877).toNat v_y884).set (v_j878).toNat v_y885)
        else none
       else none
      else none
     else none
    else
     some (.x0 v_w879)
theorem G_slices_reverseRangeCmpFunc_rmap_Pair_h_L1_ok {Fi : Ex → PS → Prop} (hF : KC 34 Fi) (ks : List Fr) (n : Nat)   : ∀ (k : Nat) (v_i877 : Int) (v_j878 : Int) (v_w879 : (List S_rmap_Pair)) (o : G_slices_reverseRangeCmpFunc_rmap_Pair_h_L1_R), G_slices_reverseRangeCmpFunc_rmap_Pair_h_L1 n  k v_i877 v_j878 v_w879 = some o → RunE Try.prog 34 Fi ks (G_slices_reverseRangeCmpFunc_rmap_Pair_h_L1_ex o) (G_slices_reverseRangeCmpFunc_rmap_Pair_h_L1_st  o) → RunE Try.prog 34 Fi (.l k (cP (cB (cR (cR (bodyOf Try.f43))))) :: ks) .normal (G_slices_reverseRangeCmpFunc_rmap_Pair_h_L1_hd  v_i877 v_j878 v_w879)
  | 0, v_i877, v_j878, v_w879, o, h, q => by rw [G_slices_reverseRangeCmpFunc_rmap_Pair_h_L1] at h; cases h
  | k + 1, v_i877, v_j878, v_w879, o, h, q => by
    rw [G_slices_reverseRangeCmpFunc_rmap_Pair_h_L1] at h
    by_cases h648 : v_i877 < v_j878
    · rw [if_pos h648] at h
      by_cases h657 : 0 ≤ v_j878 ∧ (v_j878).toNat < v_w879.length
      · rw [if_pos h657] at h
        obtain ⟨v_y884, h658, h⟩ := bind_some h
        by_cases h659 : 0 ≤ v_i877 ∧ (v_i877).toNat < v_w879.length
        · rw [if_pos h659] at h
          obtain ⟨v_y885, h660, h⟩ := bind_some h
          by_cases h661 : 0 ≤ v_i877 ∧ (v_i877).toNat < v_w879.length
          · rw [if_pos h661] at h
            obtain ⟨v_y886, h662, h⟩ := bind_some h
            by_cases h663 : 0 ≤ v_j878 ∧ (v_j878).toNat < (v_w879.set (v_i877).toNat v_y884).length
            · rw [if_pos h663] at h
              obtain ⟨v_y887, h664, h⟩ := bind_some h
              exact pkk_sound TTok mix hF 13 (hs := [.t true, .y (eS_rmap_Pair v_y884), .y (eS_rmap_Pair v_y885), .w ((v_w879.set (v_i877).toNat v_y884).map eS_rmap_Pair), .y (eS_rmap_Pair v_y886), .w (((v_w879.set (v_i877).toNat v_y884).set (v_j878).toNat v_y885).map eS_rmap_Pair), .y (eS_rmap_Pair v_y887)]) (ts := []) (s := [0, 1]) (l := [0, 8, 9]) (by kernel_rfl) (by kernel_rfl) (.cons (dt h648) (.cons (idx_ob (f := eS_rmap_Pair) h657) (.cons (get_ob (f := eS_rmap_Pair) h658) (.cons (idx_ob (f := eS_rmap_Pair) h659) (.cons (get_ob (f := eS_rmap_Pair) h660) (.cons (idx_ob (f := eS_rmap_Pair) h661) (.cons (get_ob (f := eS_rmap_Pair) h662) (.cons (Eq.refl (pcells (.agg [.v (.int .i64 v_y884.fFrame), .v (.int .i64 v_y884.fSpace), .v (.int .i64 v_y884.fPage)]))) (.cons (set_ob (f := eS_rmap_Pair) (l := v_w879) (k := (v_i877).toNat) (z := v_y884) (p := .agg [.v (.int .i64 v_y884.fFrame), .v (.int .i64 v_y884.fSpace), .v (.int .i64 v_y884.fPage)]) rfl) (.cons (idx_ob (f := eS_rmap_Pair) h663) (.cons (get_ob (f := eS_rmap_Pair) h664) (.cons (Eq.refl (pcells (.agg [.v (.int .i64 v_y885.fFrame), .v (.int .i64 v_y885.fSpace), .v (.int .i64 v_y885.fPage)]))) (.cons (set_ob (f := eS_rmap_Pair) (l := (v_w879.set (v_i877).toNat v_y884)) (k := (v_j878).toNat) (z := v_y885) (p := .agg [.v (.int .i64 v_y885.fFrame), .v (.int .i64 v_y885.fSpace), .v (.int .i64 v_y885.fPage)]) rfl) .nil))))))))))))) (G_slices_reverseRangeCmpFunc_rmap_Pair_h_L1_ok hF ks n  k (wi .i64 (v_i877 + 1)) (wi .i64 (v_j878 - 1)) ((v_w879.set (v_i877).toNat v_y884).set (v_j878).toNat v_y885) _ h q)
            · rw [if_neg h663] at h; cases h
          · rw [if_neg h661] at h; cases h
        · rw [if_neg h659] at h; cases h
      · rw [if_neg h657] at h; cases h
    · rw [if_neg h648] at h
      cases h
      exact pkk_sound TTok mix hF 8 (hs := [.t false]) (ts := []) (s := [0, 1]) (l := []) (by kernel_rfl) (by kernel_rfl) (.cons (df h648) .nil) q
/- slices.reverseRangeCmpFunc[ringhall/rmap.Pair] -/
def G_slices_reverseRangeCmpFunc_rmap_Pair_h (n : Nat) (v_data873 : (List S_rmap_Pair)) (v_a874 : Int) (v_b875 : Int) (v_cmp876 : (S_rmap_Pair → S_rmap_Pair → Option (Int))) : Option ((List S_rmap_Pair)) :=
  (G_slices_reverseRangeCmpFunc_rmap_Pair_h_L1 n  n v_a874 (wi .i64 (v_b875 - 1)) v_data873).bind fun v_o889 => match v_o889 with
  | .x0 v_z890 =>
    some v_z890
theorem G_slices_reverseRangeCmpFunc_rmap_Pair_h_ok (n : Nat) (v_data873 : (List S_rmap_Pair)) (v_a874 : Int) (v_b875 : Int) (v_cmp876 : (S_rmap_Pair → S_rmap_Pair → Option (Int))) (v_cmp876_g : FuncId) (v_cmp876_c : List PV) (v_cmp876_h : ∀ (x0 : S_rmap_Pair) (x1 : S_rmap_Pair) (r : Int), v_cmp876 x0 x1 = some r → Ret Try.prog v_cmp876_g ([eS_rmap_Pair x0, eS_rmap_Pair x1] ++ v_cmp876_c) ((eI .i64) r)) (r : (List S_rmap_Pair)) (h : G_slices_reverseRangeCmpFunc_rmap_Pair_h n v_data873 v_a874 v_b875 v_cmp876 = some r) : RetH Try.prog 43 [.srf 0, .d ((eI .i64) v_a874), .d ((eI .i64) v_b875), .d ((.clo v_cmp876_g v_cmp876_c))] [.row 24 3 (v_data873.map eS_rmap_Pair)] (.tup []) [.row 24 3 (r.map eS_rmap_Pair)] := by
  refine retH_run (n := 34) (fn := Try.f43) (c := bodyOf Try.f43) (by kernel_rfl) (by kernel_rfl) (by kernel_rfl) (by kernel_rfl) ?_
  have hF : KC 34 (FinH Try.prog Try.f43 [.row 24 3 (v_data873.map eS_rmap_Pair)] (.tup []) [.row 24 3 (r.map eS_rmap_Pair)]) := FinH.kc' (by kernel_rfl)
  unfold G_slices_reverseRangeCmpFunc_rmap_Pair_h at h
  obtain ⟨v_o889, h665, h⟩ := bind_some h
  refine pkk_sound TTok mix hF 6 (hs := [.n n]) (ts := []) (s := [1, 0]) (l := [0, 8, 9]) (by kernel_rfl) (by kernel_rfl) .nil (G_slices_reverseRangeCmpFunc_rmap_Pair_h_L1_ok hF (.b 0 :: []) n  n v_a874 (wi .i64 (v_b875 - 1)) v_data873 _ h665 ?_)
  cases v_o889 with
  | x0 v_z890 =>
    try dsimp only at h
    obtain rfl := Option.some.inj h
    exact pendH_sound TTok mix 1 (hs := []) [1] (by kernel_rfl) (by kernel_rfl) (by kernel_rfl) .nil
inductive G_slices_partialInsertionSortCmpFunc_rmap_Pair_h_L1_R where
  | x0 (v_i918 : Int) (v_w919 : (List S_rmap_Pair))
def G_slices_partialInsertionSortCmpFunc_rmap_Pair_h_L1_ex : G_slices_partialInsertionSortCmpFunc_rmap_Pair_h_L1_R → Ex
  | .x0 _ _ => .exit 2
def G_slices_partialInsertionSortCmpFunc_rmap_Pair_h_L1_st (v_a904 : Int) (v_b905 : Int) (v_cmp906 : (S_rmap_Pair → S_rmap_Pair → Option (Int))) (v_j908 : Int) (v_cmp906_g : FuncId) (v_cmp906_c : (List PV)) : G_slices_partialInsertionSortCmpFunc_rmap_Pair_h_L1_R → PS
  | .x0 v_i918 v_w919 => ⟨(.srf 1 :: .d (.v (.int .i64 v_a904)) :: .d (.v (.int .i64 v_b905)) :: .d (.clo v_cmp906_g v_cmp906_c) :: dd :: dd :: dd :: dd :: dd :: .d (.v (.int .i64 v_i918)) :: .d (.v (.int .i64 v_j908)) :: (dds 130 [])), [.gh 0 (.srf 1), .row 24 3 (v_w919.map eS_rmap_Pair)]⟩
def G_slices_partialInsertionSortCmpFunc_rmap_Pair_h_L1_hd (v_a904 : Int) (v_b905 : Int) (v_cmp906 : (S_rmap_Pair → S_rmap_Pair → Option (Int))) (v_j908 : Int) (v_cmp906_g : FuncId) (v_cmp906_c : (List PV)) (v_i910 : Int) (v_w911 : (List S_rmap_Pair)) : PS := ⟨(.srf 1 :: .d (.v (.int .i64 v_a904)) :: .d (.v (.int .i64 v_b905)) :: .d (.clo v_cmp906_g v_cmp906_c) :: dd :: dd :: dd :: dd :: dd :: .d (.v (.int .i64 v_i910)) :: .d (.v (.int .i64 v_j908)) :: (dds 130 [])), [.gh 0 (.srf 1), .row 24 3 (v_w911.map eS_rmap_Pair)]⟩
def G_slices_partialInsertionSortCmpFunc_rmap_Pair_h_L1 (n : Nat) (v_a904 : Int) (v_b905 : Int) (v_cmp906 : (S_rmap_Pair → S_rmap_Pair → Option (Int))) (v_j908 : Int) : Nat → Int → (List S_rmap_Pair) → Option G_slices_partialInsertionSortCmpFunc_rmap_Pair_h_L1_R
  | 0, _, _ => none
  | k + 1, v_i910, v_w911 =>
    if v_i910 < v_b905 then
     if 0 ≤ v_i910 ∧ (v_i910).toNat < v_w911.length then
      (v_w911[(v_i910).toNat]?).bind fun (v_y915 : S_rmap_Pair) =>
      if 0 ≤ (wi .i64 (v_i910 - 1)) ∧ ((wi .i64 (v_i910 - 1))).toNat < v_w911.length then
       (v_w911[((wi .i64 (v_i910 - 1))).toNat]?).bind fun (v_y916 : S_rmap_Pair) =>
       (v_cmp906 v_y915 v_y916).bind fun (v_r917 : (Int)) =>
       if v_r917 < 0 then
        some (.x0 v_i910 v_w911)
       else
        G_slices_partialInsertionSortCmpFunc_rmap_Pair_h_L1 n v_a904 v_b905 v_cmp906 v_j908 k (wi .i64 (v_i910 + 1)) v_w911
      else none
     else none
    else
     some (.x0 v_i910 v_w911)
theorem G_slices_partialInsertionSortCmpFunc_rmap_Pair_h_L1_ok {Fi : Ex → PS → Prop} (hF : KC 141 Fi) (ks : List Fr) (n : Nat) (v_a904 : Int) (v_b905 : Int) (v_cmp906 : (S_rmap_Pair → S_rmap_Pair → Option (Int))) (v_j908 : Int) (v_cmp906_g : FuncId) (v_cmp906_c : (List PV)) (v_cmp906_h : ∀ (x0 : S_rmap_Pair) (x1 : S_rmap_Pair) (r : Int), v_cmp906 x0 x1 = some r → Ret Try.prog v_cmp906_g ([eS_rmap_Pair x0, eS_rmap_Pair x1] ++ v_cmp906_c) ((eI .i64) r)) : ∀ (k : Nat) (v_i910 : Int) (v_w911 : (List S_rmap_Pair)) (o : G_slices_partialInsertionSortCmpFunc_rmap_Pair_h_L1_R), G_slices_partialInsertionSortCmpFunc_rmap_Pair_h_L1 n v_a904 v_b905 v_cmp906 v_j908 k v_i910 v_w911 = some o → RunE Try.prog 141 Fi ks (G_slices_partialInsertionSortCmpFunc_rmap_Pair_h_L1_ex o) (G_slices_partialInsertionSortCmpFunc_rmap_Pair_h_L1_st v_a904 v_b905 v_cmp906 v_j908 v_cmp906_g v_cmp906_c o) → RunE Try.prog 141 Fi (.l k (cP (cB (cL (cB (cL (cR (cP (cB (cR (cL (cR (cR (bodyOf Try.f44))))))))))))) :: ks) .normal (G_slices_partialInsertionSortCmpFunc_rmap_Pair_h_L1_hd v_a904 v_b905 v_cmp906 v_j908 v_cmp906_g v_cmp906_c v_i910 v_w911)
  | 0, v_i910, v_w911, o, h, q => by rw [G_slices_partialInsertionSortCmpFunc_rmap_Pair_h_L1] at h; cases h
  | k + 1, v_i910, v_w911, o, h, q => by
    rw [G_slices_partialInsertionSortCmpFunc_rmap_Pair_h_L1] at h
    by_cases h680 : v_i910 < v_b905
    · rw [if_pos h680] at h
      by_cases h681 : 0 ≤ v_i910 ∧ (v_i910).toNat < v_w911.length
      · rw [if_pos h681] at h
        obtain ⟨v_y915, h682, h⟩ := bind_some h
        by_cases h683 : 0 ≤ (wi .i64 (v_i910 - 1)) ∧ ((wi .i64 (v_i910 - 1))).toNat < v_w911.length
        · rw [if_pos h683] at h
          obtain ⟨v_y916, h684, h⟩ := bind_some h
          obtain ⟨v_r917, h685, h⟩ := bind_some h
          by_cases h686 : v_r917 < 0
          · rw [if_pos h686] at h
            cases h
            exact pkk_sound TTok mix hF 8 (hs := [.t true, .c, .c, .c, .c, .y (eS_rmap_Pair v_y915), .c, .c, .c, .c, .c, .y (eS_rmap_Pair v_y916), .c, .r ((eI .i64) v_r917), .c, .c, .t false]) (ts := []) (s := [0, 1]) (l := [0, 1, 2, 3, 9, 10]) (by kernel_rfl) (by kernel_rfl) (.cons (dt h680) (.cons (idx_ob (f := eS_rmap_Pair) h681) (.cons (get_ob (f := eS_rmap_Pair) h682) (.cons (idx_ob (f := eS_rmap_Pair) h683) (.cons (get_ob (f := eS_rmap_Pair) h684) (.cons (v_cmp906_h v_y915 v_y916 _ h685) (.cons (bnf (dt h686)) .nil))))))) q
          · rw [if_neg h686] at h
            exact pkk_sound TTok mix hF 9 (hs := [.t true, .c, .c, .c, .c, .y (eS_rmap_Pair v_y915), .c, .c, .c, .c, .c, .y (eS_rmap_Pair v_y916), .c, .r ((eI .i64) v_r917), .c, .c, .t true]) (ts := []) (s := [0, 1]) (l := [0, 1, 2, 3, 9, 10]) (by kernel_rfl) (by kernel_rfl) (.cons (dt h680) (.cons (idx_ob (f := eS_rmap_Pair) h681) (.cons (get_ob (f := eS_rmap_Pair) h682) (.cons (idx_ob (f := eS_rmap_Pair) h683) (.cons (get_ob (f := eS_rmap_Pair) h684) (.cons (v_cmp906_h v_y915 v_y916 _ h685) (.cons (bnt (df h686)) .nil))))))) (G_slices_partialInsertionSortCmpFunc_rmap_Pair_h_L1_ok hF ks n v_a904 v_b905 v_cmp906 v_j908 v_cmp906_g v_cmp906_c v_cmp906_h k (wi .i64 (v_i910 + 1)) v_w911 _ h q)
        · rw [if_neg h683] at h; cases h
      · rw [if_neg h681] at h; cases h
    · rw [if_neg h680] at h
      cases h
      exact pkk_sound TTok mix hF 8 (hs := [.t false, .c, .c, .c, .c, .c, .c, .c, .c, .c, .c, .c, .c, .c]) (ts := []) (s := [0, 1]) (l := [0, 1, 2, 3, 9, 10]) (by kernel_rfl) (by kernel_rfl) (.cons (df h680) .nil) q
inductive G_slices_partialInsertionSortCmpFunc_rmap_Pair_h_L2_R where
  | x0 (v_w945 : (List S_rmap_Pair))
def G_slices_partialInsertionSortCmpFunc_rmap_Pair_h_L2_ex : G_slices_partialInsertionSortCmpFunc_rmap_Pair_h_L2_R → Ex
  | .x0 _ => .exit 4
def G_slices_partialInsertionSortCmpFunc_rmap_Pair_h_L2_st (v_a904 : Int) (v_b905 : Int) (v_cmp906 : (S_rmap_Pair → S_rmap_Pair → Option (Int))) (v_z923 : Int) (v_j908 : Int) (v_cmp906_g : FuncId) (v_cmp906_c : (List PV)) : G_slices_partialInsertionSortCmpFunc_rmap_Pair_h_L2_R → PS
  | .x0 v_w945 => ⟨(.srf 1 :: .d (.v (.int .i64 v_a904)) :: .d (.v (.int .i64 v_b905)) :: .d (.clo v_cmp906_g v_cmp906_c) :: dd :: dd :: dd :: dd :: dd :: .d (.v (.int .i64 v_z923)) :: .d (.v (.int .i64 v_j908)) :: (dds 130 [])), [.gh 0 (.srf 1), .row 24 3 (v_w945.map eS_rmap_Pair)]⟩
def G_slices_partialInsertionSortCmpFunc_rmap_Pair_h_L2_hd (v_a904 : Int) (v_b905 : Int) (v_cmp906 : (S_rmap_Pair → S_rmap_Pair → Option (Int))) (v_z923 : Int) (v_j908 : Int) (v_cmp906_g : FuncId) (v_cmp906_c : (List PV)) (v_j933 : Int) (v_w934 : (List S_rmap_Pair)) : PS := ⟨(.srf 1 :: .d (.v (.int .i64 v_a904)) :: .d (.v (.int .i64 v_b905)) :: .d (.clo v_cmp906_g v_cmp906_c) :: dd :: dd :: dd :: dd :: dd :: .d (.v (.int .i64 v_z923)) :: .d (.v (.int .i64 v_j908)) :: .d (.v (.int .i64 v_j933)) :: (dds 129 [])), [.gh 0 (.srf 1), .row 24 3 (v_w934.map eS_rmap_Pair)]⟩
def G_slices_partialInsertionSortCmpFunc_rmap_Pair_h_L2 (n : Nat) (v_a904 : Int) (v_b905 : Int) (v_cmp906 : (S_rmap_Pair → S_rmap_Pair → Option (Int))) (v_z923 : Int) (v_j908 : Int) : Nat → Int → (List S_rmap_Pair) → Option G_slices_partialInsertionSortCmpFunc_rmap_Pair_h_L2_R
  | 0, _, _ => none
  | k + 1, v_j933, v_w934 =>
    if v_j933 ≥ 1 then
     if 0 ≤ v_j933 ∧ (v_j933).toNat < v_w934.length then
      (v_w934[(v_j933).toNat]?).bind fun (v_y942 : S_rmap_Pair) =>
      if 0 ≤ (wi .i64 (v_j933 - 1)) ∧ ((wi .i64 (v_j933 - 1))).toNat < v_w934.length then
       (v_w934[((wi .i64 (v_j933 - 1))).toNat]?).bind fun (v_y943 : S_rmap_Pair) =>
       (v_cmp906 v_y942 v_y943).bind fun (v_r944 : (Int)) =>
       if v_r944 < 0 then
        if 0 ≤ (wi .i64 (v_j933 - 1)) ∧ ((wi .i64 (v_j933 - 1))).toNat < v_w934.length then
         (v_w934[((wi .i64 (v_j933 - 1))).toNat]?).bind fun (v_y946 : S_rmap_Pair) =>
         if 0 ≤ v_j933 ∧ (v_j933).toNat < v_w934.length then
          (v_w934[(v_j933).toNat]?).bind fun (v_y947 : S_rmap_Pair) =>
          if 0 ≤ v_j933 ∧ (v_j933).toNat < v_w934.length then
           (v_w934[(v_j933).toNat]?).bind fun (v_y948 : S_rmap_Pair) =>
           if 0 ≤ (wi .i64 (v_j933 - 1)) ∧ ((wi .i64 (v_j933 - 1))).toNat < (v_w934.set (v_j933).toNat v_y946).length then
            ((v_w934.set (v_j933).toNat v_y946)[((wi .i64 (v_j933 - 1))).toNat]?).bind fun (v_y949 : S_rmap_Pair) =>
            G_slices_partialInsertionSortCmpFunc_rmap_Pair_h_L2 n v_a904 v_b905 v_cmp906 v_z923 v_j908 k (wi .i64 (v_j933 - 1)) ((v_w934.set (v_j933).toNat v_y946).set ((wi .i64 (v_j933 - 1))).toNat v_y947)
           else none
          else none
         else none
        else none
       else
        some (.x0 v_w934)
      else none
     else none
    else
     some (.x0 v_w934)
theorem G_slices_partialInsertionSortCmpFunc_rmap_Pair_h_L2_ok {Fi : Ex → PS → Prop} (hF : KC 141 Fi) (ks : List Fr) (n : Nat) (v_a904 : Int) (v_b905 : Int) (v_cmp906 : (S_rmap_Pair → S_rmap_Pair → Option (Int))) (v_z923 : Int) (v_j908 : Int) (v_cmp906_g : FuncId) (v_cmp906_c : (List PV)) (v_cmp906_h : ∀ (x0 : S_rmap_Pair) (x1 : S_rmap_Pair) (r : Int), v_cmp906 x0 x1 = some r → Ret Try.prog v_cmp906_g ([eS_rmap_Pair x0, eS_rmap_Pair x1] ++ v_cmp906_c) ((eI .i64) r)) : ∀ (k : Nat) (v_j933 : Int) (v_w934 : (List S_rmap_Pair)) (o : G_slices_partialInsertionSortCmpFunc_rmap_Pair_h_L2_R), G_slices_partialInsertionSortCmpFunc_rmap_Pair_h_L2 n v_a904 v_b905 v_cmp906 v_z923 v_j908 k v_j933 v_w934 = some o → RunE Try.prog 141 Fi ks (G_slices_partialInsertionSortCmpFunc_rmap_Pair_h_L2_ex o) (G_slices_partialInsertionSortCmpFunc_rmap_Pair_h_L2_st v_a904 v_b905 v_cmp906 v_z923 v_j908 v_cmp906_g v_cmp906_c o) → RunE Try.prog 141 Fi (.l k (cP (cB (cR (cT (cR (cL (cR (cR (cR (cR (cB (cL (cR (cP (cB (cR (cL (cR (cR (bodyOf Try.f44)))))))))))))))))))) :: ks) .normal (G_slices_partialInsertionSortCmpFunc_rmap_Pair_h_L2_hd v_a904 v_b905 v_cmp906 v_z923 v_j908 v_cmp906_g v_cmp906_c v_j933 v_w934)
  | 0, v_j933, v_w934, o, h, q => by rw [G_slices_partialInsertionSortCmpFunc_rmap_Pair_h_L2] at h; cases h
  | k + 1, v_j933, v_w934, o, h, q => by
    rw [G_slices_partialInsertionSortCmpFunc_rmap_Pair_h_L2] at h
    by_cases h699 : v_j933 ≥ 1
    · rw [if_pos h699] at h
      by_cases h714 : 0 ≤ v_j933 ∧ (v_j933).toNat < v_w934.length
      · rw [if_pos h714] at h
        obtain ⟨v_y942, h715, h⟩ := bind_some h
        by_cases h716 : 0 ≤ (wi .i64 (v_j933 - 1)) ∧ ((wi .i64 (v_j933 - 1))).toNat < v_w934.length
        · rw [if_pos h716] at h
          obtain ⟨v_y943, h717, h⟩ := bind_some h
          obtain ⟨v_r944, h718, h⟩ := bind_some h
          by_cases h719 : v_r944 < 0
          · rw [if_pos h719] at h
            by_cases h720 : 0 ≤ (wi .i64 (v_j933 - 1)) ∧ ((wi .i64 (v_j933 - 1))).toNat < v_w934.length
            · rw [if_pos h720] at h
              obtain ⟨v_y946, h721, h⟩ := bind_some h
              by_cases h722 : 0 ≤ v_j933 ∧ (v_j933).toNat < v_w934.length
              · rw [if_pos h722] at h
                obtain ⟨v_y947, h723, h⟩ := bind_some h
                by_cases h724 : 0 ≤ v_j933 ∧ (v_j933).toNat < v_w934.length
                · rw [if_pos h724] at h
                  obtain ⟨v_y948, h725, h⟩ := bind_some h
                  by_cases h726 : 0 ≤ (wi .i64 (v_j933 - 1)) ∧ ((wi .i64 (v_j933 - 1))).toNat < (v_w934.set (v_j933).toNat v_y946).length
                  · rw [if_pos h726] at h
                    obtain ⟨v_y949, h727, h⟩ := bind_some h
                    exact pkk_sound TTok mix hF 16 (hs := [.t true, .y (eS_rmap_Pair v_y942), .y (eS_rmap_Pair v_y943), .r ((eI .i64) v_r944), .t false, .y (eS_rmap_Pair v_y946), .y (eS_rmap_Pair v_y947), .w ((v_w934.set (v_j933).toNat v_y946).map eS_rmap_Pair), .y (eS_rmap_Pair v_y948), .w (((v_w934.set (v_j933).toNat v_y946).set ((wi .i64 (v_j933 - 1))).toNat v_y947).map eS_rmap_Pair), .y (eS_rmap_Pair v_y949)]) (ts := []) (s := [0, 1]) (l := [0, 1, 2, 3, 9, 10, 11]) (by kernel_rfl) (by kernel_rfl) (.cons (dt h699) (.cons (idx_ob (f := eS_rmap_Pair) h714) (.cons (get_ob (f := eS_rmap_Pair) h715) (.cons (idx_ob (f := eS_rmap_Pair) h716) (.cons (get_ob (f := eS_rmap_Pair) h717) (.cons (v_cmp906_h v_y942 v_y943 _ h718) (.cons (bnf (dt h719)) (.cons (idx_ob (f := eS_rmap_Pair) h720) (.cons (get_ob (f := eS_rmap_Pair) h721) (.cons (idx_ob (f := eS_rmap_Pair) h722) (.cons (get_ob (f := eS_rmap_Pair) h723) (.cons (idx_ob (f := eS_rmap_Pair) h724) (.cons (get_ob (f := eS_rmap_Pair) h725) (.cons (Eq.refl (pcells (.agg [.v (.int .i64 v_y946.fFrame), .v (.int .i64 v_y946.fSpace), .v (.int .i64 v_y946.fPage)]))) (.cons (set_ob (f := eS_rmap_Pair) (l := v_w934) (k := (v_j933).toNat) (z := v_y946) (p := .agg [.v (.int .i64 v_y946.fFrame), .v (.int .i64 v_y946.fSpace), .v (.int .i64 v_y946.fPage)]) rfl) (.cons (idx_ob (f := eS_rmap_Pair) h726) (.cons (get_ob (f := eS_rmap_Pair) h727) (.cons (Eq.refl (pcells (.agg [.v (.int .i64 v_y947.fFrame), .v (.int .i64 v_y947.fSpace), .v (.int .i64 v_y947.fPage)]))) (.cons (set_ob (f := eS_rmap_Pair) (l := (v_w934.set (v_j933).toNat v_y946)) (k := ((wi .i64 (v_j933 - 1))).toNat) (z := v_y947) (p := .agg [.v (.int .i64 v_y947.fFrame), .v (.int .i64 v_y947.fSpace), .v (.int .i64 v_y947.fPage)]) rfl) .nil))))))))))))))))))) (G_slices_partialInsertionSortCmpFunc_rmap_Pair_h_L2_ok hF ks n v_a904 v_b905 v_cmp906 v_z923 v_j908 v_cmp906_g v_cmp906_c v_cmp906_h k (wi .i64 (v_j933 - 1)) ((v_w934.set (v_j933).toNat v_y946).set ((wi .i64 (v_j933 - 1))).toNat v_y947) _ h q)
                  · rw [if_neg h726] at h; cases h
                · rw [if_neg h724] at h; cases h
              · rw [if_neg h722] at h; cases h
            · rw [if_neg h720] at h; cases h
          · rw [if_neg h719] at h
            cases h
            exact pkk_sound TTok mix hF 17 (hs := [.t true, .y (eS_rmap_Pair v_y942), .y (eS_rmap_Pair v_y943), .r ((eI .i64) v_r944), .t true]) (ts := []) (s := [0, 1]) (l := [0, 1, 2, 3, 9, 10]) (by kernel_rfl) (by kernel_rfl) (.cons (dt h699) (.cons (idx_ob (f := eS_rmap_Pair) h714) (.cons (get_ob (f := eS_rmap_Pair) h715) (.cons (idx_ob (f := eS_rmap_Pair) h716) (.cons (get_ob (f := eS_rmap_Pair) h717) (.cons (v_cmp906_h v_y942 v_y943 _ h718) (.cons (bnt (df h719)) .nil))))))) q
        · rw [if_neg h716] at h; cases h
      · rw [if_neg h714] at h; cases h
    · rw [if_neg h699] at h
      cases h
      exact pkk_sound TTok mix hF 8 (hs := [.t false]) (ts := []) (s := [0, 1]) (l := [0, 1, 2, 3, 9, 10]) (by kernel_rfl) (by kernel_rfl) (.cons (df h699) .nil) q
inductive G_slices_partialInsertionSortCmpFunc_rmap_Pair_h_L3_R where
  | x0 (v_w965 : (List S_rmap_Pair))
def G_slices_partialInsertionSortCmpFunc_rmap_Pair_h_L3_ex : G_slices_partialInsertionSortCmpFunc_rmap_Pair_h_L3_R → Ex
  | .x0 _ => .exit 6
def G_slices_partialInsertionSortCmpFunc_rmap_Pair_h_L3_st (v_a904 : Int) (v_b905 : Int) (v_cmp906 : (S_rmap_Pair → S_rmap_Pair → Option (Int))) (v_z923 : Int) (v_j908 : Int) (v_cmp906_g : FuncId) (v_cmp906_c : (List PV)) : G_slices_partialInsertionSortCmpFunc_rmap_Pair_h_L3_R → PS
  | .x0 v_w965 => ⟨(.srf 1 :: .d (.v (.int .i64 v_a904)) :: .d (.v (.int .i64 v_b905)) :: .d (.clo v_cmp906_g v_cmp906_c) :: dd :: dd :: dd :: dd :: dd :: .d (.v (.int .i64 v_z923)) :: .d (.v (.int .i64 v_j908)) :: (dds 130 [])), [.gh 0 (.srf 1), .row 24 3 (v_w965.map eS_rmap_Pair)]⟩
def G_slices_partialInsertionSortCmpFunc_rmap_Pair_h_L3_hd (v_a904 : Int) (v_b905 : Int) (v_cmp906 : (S_rmap_Pair → S_rmap_Pair → Option (Int))) (v_z923 : Int) (v_j908 : Int) (v_cmp906_g : FuncId) (v_cmp906_c : (List PV)) (v_j953 : Int) (v_w954 : (List S_rmap_Pair)) : PS := ⟨(.srf 1 :: .d (.v (.int .i64 v_a904)) :: .d (.v (.int .i64 v_b905)) :: .d (.clo v_cmp906_g v_cmp906_c) :: dd :: dd :: dd :: dd :: dd :: .d (.v (.int .i64 v_z923)) :: .d (.v (.int .i64 v_j908)) :: dd :: .d (.v (.int .i64 v_j953)) :: (dds 128 [])), [.gh 0 (.srf 1), .row 24 3 (v_w954.map eS_rmap_Pair)]⟩
def G_slices_partialInsertionSortCmpFunc_rmap_Pair_h_L3 (n : Nat) (v_a904 : Int) (v_b905 : Int) (v_cmp906 : (S_rmap_Pair → S_rmap_Pair → Option (Int))) (v_z923 : Int) (v_j908 : Int) : Nat → Int → (List S_rmap_Pair) → Option G_slices_partialInsertionSortCmpFunc_rmap_Pair_h_L3_R
  | 0, _, _ => none
  | k + 1, v_j953, v_w954 =>
    if v_j953 < v_b905 then
     if 0 ≤ v_j953 ∧ (v_j953).toNat < v_w954.length then
      (v_w954[(v_j953).toNat]?).bind fun (v_y962 : S_rmap_Pair) =>
      if 0 ≤ (wi .i64 (v_j953 - 1)) ∧ ((wi .i64 (v_j953 - 1))).toNat < v_w954.length then
       (v_w954[((wi .i64 (v_j953 - 1))).toNat]?).bind fun (v_y963 : S_rmap_Pair) =>
       (v_cmp906 v_y962 v_y963).bind fun (v_r964 : (Int)) =>
       if v_r964 < 0 then
        if 0 ≤ (wi .i64 (v_j953 - 1)) ∧ ((wi .i64 (v_j953 - 1))).toNat < v_w954.length then
         (v_w954[((wi .i64 (v_j953 - 1))).toNat]?).bind fun (v_y966 : S_rmap_Pair) =>
         if 0 ≤ v_j953 ∧ (v_j953).toNat < v_w954.length then
          (v_w954[(v_j953).toNat]?).bind fun (v_y967 : S_rmap_Pair) =>
          if 0 ≤ v_j953 ∧ (v_j953).toNat < v_w954.length then
           (v_w954[(v_j953).toNat]?).bind fun (v_y968 : S_rmap_Pair) =>
           if 0 ≤ (wi .i64 (v_j953 - 1)) ∧ ((wi .i64 (v_j953 - 1))).toNat < (v_w954.set (v_j953).toNat v_y966).length then
            ((v_w954.set (v_j953).toNat v_y966)[((wi .i64 (v_j953 - 1))).toNat]?).bind fun (v_y969 : S_rmap_Pair) =>
            G_slices_partialInsertionSortCmpFunc_rmap_Pair_h_L3 n v_a904 v_b905 v_cmp906 v_z923 v_j908 k (wi .i64 (v_j953 + 1)) ((v_w954.set (v_j953).toNat v_y966).set ((wi .i64 (v_j953 - 1))).toNat v_y967)
           else none
          else none
         else none
        else none
       else
        some (.x0 v_w954)
      else none
     else none
    else
     some (.x0 v_w954)
theorem G_slices_partialInsertionSortCmpFunc_rmap_Pair_h_L3_ok {Fi : Ex → PS → Prop} (hF : KC 141 Fi) (ks : List Fr) (n : Nat) (v_a904 : Int) (v_b905 : Int) (v_cmp906 : (S_rmap_Pair → S_rmap_Pair → Option (Int))) (v_z923 : Int) (v_j908 : Int) (v_cmp906_g : FuncId) (v_cmp906_c : (List PV)) (v_cmp906_h : ∀ (x0 : S_rmap_Pair) (x1 : S_rmap_Pair) (r : Int), v_cmp906 x0 x1 = some r → Ret Try.prog v_cmp906_g ([eS_rmap_Pair x0, eS_rmap_Pair x1] ++ v_cmp906_c) ((eI .i64) r)) : ∀ (k : Nat) (v_j953 : Int) (v_w954 : (List S_rmap_Pair)) (o : G_slices_partialInsertionSortCmpFunc_rmap_Pair_h_L3_R), G_slices_partialInsertionSortCmpFunc_rmap_Pair_h_L3 n v_a904 v_b905 v_cmp906 v_z923 v_j908 k v_j953 v_w954 = some o → RunE Try.prog 141 Fi ks (G_slices_partialInsertionSortCmpFunc_rmap_Pair_h_L3_ex o) (G_slices_partialInsertionSortCmpFunc_rmap_Pair_h_L3_st v_a904 v_b905 v_cmp906 v_z923 v_j908 v_cmp906_g v_cmp906_c o) → RunE Try.prog 141 Fi (.l k (cP (cB (cR (cT (cR (cR (cR (cR (cR (cR (cB (cL (cR (cP (cB (cR (cL (cR (cR (bodyOf Try.f44)))))))))))))))))))) :: ks) .normal (G_slices_partialInsertionSortCmpFunc_rmap_Pair_h_L3_hd v_a904 v_b905 v_cmp906 v_z923 v_j908 v_cmp906_g v_cmp906_c v_j953 v_w954)
  | 0, v_j953, v_w954, o, h, q => by rw [G_slices_partialInsertionSortCmpFunc_rmap_Pair_h_L3] at h; cases h
  | k + 1, v_j953, v_w954, o, h, q => by
    rw [G_slices_partialInsertionSortCmpFunc_rmap_Pair_h_L3] at h
    by_cases h730 : v_j953 < v_b905
    · rw [if_pos h730] at h
      by_cases h745 : 0 ≤ v_j953 ∧ (v_j953).toNat < v_w954.length
      · rw [if_pos h745] at h
        obtain ⟨v_y962, h746, h⟩ := bind_some h
        by_cases h747 : 0 ≤ (wi .i64 (v_j953 - 1)) ∧ ((wi .i64 (v_j953 - 1))).toNat < v_w954.length
        · rw [if_pos h747] at h
          obtain ⟨v_y963, h748, h⟩ := bind_some h
          obtain ⟨v_r964, h749, h⟩ := bind_some h
          by_cases h750 : v_r964 < 0
          · rw [if_pos h750] at h
            by_cases h751 : 0 ≤ (wi .i64 (v_j953 - 1)) ∧ ((wi .i64 (v_j953 - 1))).toNat < v_w954.length
            · rw [if_pos h751] at h
              obtain ⟨v_y966, h752, h⟩ := bind_some h
              by_cases h753 : 0 ≤ v_j953 ∧ (v_j953).toNat < v_w954.length
              · rw [if_pos h753] at h
                obtain ⟨v_y967, h754, h⟩ := bind_some h
                by_cases h755 : 0 ≤ v_j953 ∧ (v_j953).toNat < v_w954.length
                · rw [if_pos h755] at h
                  obtain ⟨v_y968, h756, h⟩ := bind_some h
                  by_cases h757 : 0 ≤ (wi .i64 (v_j953 - 1)) ∧ ((wi .i64 (v_j953 - 1))).toNat < (v_w954.set (v_j953).toNat v_y966).length
                  · rw [if_pos h757] at h
                    obtain ⟨v_y969, h758, h⟩ := bind_some h
                    exact pkk_sound TTok mix hF 16 (hs := [.t true, .y (eS_rmap_Pair v_y962), .y (eS_rmap_Pair v_y963), .r ((eI .i64) v_r964), .t false, .y (eS_rmap_Pair v_y966), .y (eS_rmap_Pair v_y967), .w ((v_w954.set (v_j953).toNat v_y966).map eS_rmap_Pair), .y (eS_rmap_Pair v_y968), .w (((v_w954.set (v_j953).toNat v_y966).set ((wi .i64 (v_j953 - 1))).toNat v_y967).map eS_rmap_Pair), .y (eS_rmap_Pair v_y969)]) (ts := []) (s := [0, 1]) (l := [0, 1, 2, 3, 9, 10, 12]) (by kernel_rfl) (by kernel_rfl) (.cons (dt h730) (.cons (idx_ob (f := eS_rmap_Pair) h745) (.cons (get_ob (f := eS_rmap_Pair) h746) (.cons (idx_ob (f := eS_rmap_Pair) h747) (.cons (get_ob (f := eS_rmap_Pair) h748) (.cons (v_cmp906_h v_y962 v_y963 _ h749) (.cons (bnf (dt h750)) (.cons (idx_ob (f := eS_rmap_Pair) h751) (.cons (get_ob (f := eS_rmap_Pair) h752) (.cons (idx_ob (f := eS_rmap_Pair) h753) (.cons (get_ob (f := eS_rmap_Pair) h754) (.cons (idx_ob (f := eS_rmap_Pair) h755) (.cons (get_ob (f := eS_rmap_Pair) h756) (.cons (Eq.refl (pcells (.agg [.v (.int .i64 v_y966.fFrame), .v (.int .i64 v_y966.fSpace), .v (.int .i64 v_y966.fPage)]))) (.cons (set_ob (f := eS_rmap_Pair) (l := v_w954) (k := (v_j953).toNat) (z := v_y966) (p := .agg [.v (.int .i64 v_y966.fFrame), .v (.int .i64 v_y966.fSpace), .v (.int .i64 v_y966.fPage)]) rfl) (.cons (idx_ob (f := eS_rmap_Pair) h757) (.cons (get_ob (f := eS_rmap_Pair) h758) (.cons (Eq.refl (pcells (.agg [.v (.int .i64 v_y967.fFrame), .v (.int .i64 v_y967.fSpace), .v (.int .i64 v_y967.fPage)]))) (.cons (set_ob (f := eS_rmap_Pair) (l := (v_w954.set (v_j953).toNat v_y966)) (k := ((wi .i64 (v_j953 - 1))).toNat) (z := v_y967) (p := .agg [.v (.int .i64 v_y967.fFrame), .v (.int .i64 v_y967.fSpace), .v (.int .i64 v_y967.fPage)]) rfl) .nil))))))))))))))))))) (G_slices_partialInsertionSortCmpFunc_rmap_Pair_h_L3_ok hF ks n v_a904 v_b905 v_cmp906 v_z923 v_j908 v_cmp906_g v_cmp906_c v_cmp906_h k (wi .i64 (v_j953 + 1)) ((v_w954.set (v_j953).toNat v_y966).set ((wi .i64 (v_j953 - 1))).toNat v_y967) _ h q)
                  · rw [if_neg h757] at h; cases h
                · rw [if_neg h755] at h; cases h
              · rw [if_neg h753] at h; cases h
            · rw [if_neg h751] at h; cases h
          · rw [if_neg h750] at h
            cases h
            exact pkk_sound TTok mix hF 17 (hs := [.t true, .y (eS_rmap_Pair v_y962), .y (eS_rmap_Pair v_y963), .r ((eI .i64) v_r964), .t true]) (ts := []) (s := [0, 1]) (l := [0, 1, 2, 3, 9, 10]) (by kernel_rfl) (by kernel_rfl) (.cons (dt h730) (.cons (idx_ob (f := eS_rmap_Pair) h745) (.cons (get_ob (f := eS_rmap_Pair) h746) (.cons (idx_ob (f := eS_rmap_Pair) h747) (.cons (get_ob (f := eS_rmap_Pair) h748) (.cons (v_cmp906_h v_y962 v_y963 _ h749) (.cons (bnt (df h750)) .nil))))))) q
        · rw [if_neg h747] at h; cases h
      · rw [if_neg h745] at h; cases h
    · rw [if_neg h730] at h
      cases h
      exact pkk_sound TTok mix hF 8 (hs := [.t false]) (ts := []) (s := [0, 1]) (l := [0, 1, 2, 3, 9, 10]) (by kernel_rfl) (by kernel_rfl) (.cons (df h730) .nil) q
inductive G_slices_partialInsertionSortCmpFunc_rmap_Pair_h_L4_R where
  | x0 (v_w985 : (List S_rmap_Pair))
def G_slices_partialInsertionSortCmpFunc_rmap_Pair_h_L4_ex : G_slices_partialInsertionSortCmpFunc_rmap_Pair_h_L4_R → Ex
  | .x0 _ => .exit 6
def G_slices_partialInsertionSortCmpFunc_rmap_Pair_h_L4_st (v_a904 : Int) (v_b905 : Int) (v_cmp906 : (S_rmap_Pair → S_rmap_Pair → Option (Int))) (v_z923 : Int) (v_j908 : Int) (v_cmp906_g : FuncId) (v_cmp906_c : (List PV)) : G_slices_partialInsertionSortCmpFunc_rmap_Pair_h_L4_R → PS
  | .x0 v_w985 => ⟨(.srf 1 :: .d (.v (.int .i64 v_a904)) :: .d (.v (.int .i64 v_b905)) :: .d (.clo v_cmp906_g v_cmp906_c) :: dd :: dd :: dd :: dd :: dd :: .d (.v (.int .i64 v_z923)) :: .d (.v (.int .i64 v_j908)) :: (dds 130 [])), [.gh 0 (.srf 1), .row 24 3 (v_w985.map eS_rmap_Pair)]⟩
def G_slices_partialInsertionSortCmpFunc_rmap_Pair_h_L4_hd (v_a904 : Int) (v_b905 : Int) (v_cmp906 : (S_rmap_Pair → S_rmap_Pair → Option (Int))) (v_z923 : Int) (v_j908 : Int) (v_cmp906_g : FuncId) (v_cmp906_c : (List PV)) (v_j973 : Int) (v_w974 : (List S_rmap_Pair)) : PS := ⟨(.srf 1 :: .d (.v (.int .i64 v_a904)) :: .d (.v (.int .i64 v_b905)) :: .d (.clo v_cmp906_g v_cmp906_c) :: dd :: dd :: dd :: dd :: dd :: .d (.v (.int .i64 v_z923)) :: .d (.v (.int .i64 v_j908)) :: dd :: .d (.v (.int .i64 v_j973)) :: (dds 128 [])), [.gh 0 (.srf 1), .row 24 3 (v_w974.map eS_rmap_Pair)]⟩
def G_slices_partialInsertionSortCmpFunc_rmap_Pair_h_L4 (n : Nat) (v_a904 : Int) (v_b905 : Int) (v_cmp906 : (S_rmap_Pair → S_rmap_Pair → Option (Int))) (v_z923 : Int) (v_j908 : Int) : Nat → Int → (List S_rmap_Pair) → Option G_slices_partialInsertionSortCmpFunc_rmap_Pair_h_L4_R
  | 0, _, _ => none
  | k + 1, v_j973, v_w974 =>
    if v_j973 < v_b905 then
     if 0 ≤ v_j973 ∧ (v_j973).toNat < v_w974.length then
      (v_w974[(v_j973).toNat]?).bind fun (v_y982 : S_rmap_Pair) =>
      if 0 ≤ (wi .i64 (v_j973 - 1)) ∧ ((wi .i64 (v_j973 - 1))).toNat < v_w974.length then
       (v_w974[((wi .i64 (v_j973 - 1))).toNat]?).bind fun (v_y983 : S_rmap_Pair) =>
       (v_cmp906 v_y982 v_y983).bind fun (v_r984 : (Int)) =>
       if v_r984 < 0 then
        if 0 ≤ (wi .i64 (v_j973 - 1)) ∧ ((wi .i64 (v_j973 - 1))).toNat < v_w974.length then
         (v_w974[((wi .i64 (v_j973 - 1))).toNat]?).bind fun (v_y986 : S_rmap_Pair) =>
         if 0 ≤ v_j973 ∧ (v_j973).toNat < v_w974.length then
          (v_w974[(v_j973).toNat]?).bind fun (v_y987 : S_rmap_Pair) =>
          if 0 ≤ v_j973 ∧ (v_j973).toNat < v_w974.length then
           (v_w974[(v_j973).toNat]?).bind fun (v_y988 : S_rmap_Pair) =>
           if 0 ≤ (wi .i64 (v_j973 - 1)) ∧ ((wi .i64 (v_j973 - 1))).toNat < (v_w974.set (v_j973).toNat v_y986).length then
            ((v_w974.set (v_j973).toNat v_y986)[((wi .i64 (v_j973 - 1))).toNat]?).bind fun (v_y989 : S_rmap_Pair) =>
            G_slices_partialInsertionSortCmpFunc_rmap_Pair_h_L4 n v_a904 v_b905 v_cmp906 v_z923 v_j908 k (wi .i64 (v_j973 + 1)) ((v_w974.set (v_j973).toNat v_y986).set ((wi .i64 (v_j973 - 1))).toNat v_y987)
           else none
          else none
         else none
        else none
       else
        some (.x0 v_w974)
      else none
     else none
    else
     some (.x0 v_w974)
theorem G_slices_partialInsertionSortCmpFunc_rmap_Pair_h_L4_ok {Fi : Ex → PS → Prop} (hF : KC 141 Fi) (ks : List Fr) (n : Nat) (v_a904 : Int) (v_b905 : Int) (v_cmp906 : (S_rmap_Pair → S_rmap_Pair → Option (Int))) (v_z923 : Int) (v_j908 : Int) (v_cmp906_g : FuncId) (v_cmp906_c : (List PV)) (v_cmp906_h : ∀ (x0 : S_rmap_Pair) (x1 : S_rmap_Pair) (r : Int), v_cmp906 x0 x1 = some r → Ret Try.prog v_cmp906_g ([eS_rmap_Pair x0, eS_rmap_Pair x1] ++ v_cmp906_c) ((eI .i64) r)) : ∀ (k : Nat) (v_j973 : Int) (v_w974 : (List S_rmap_Pair)) (o : G_slices_partialInsertionSortCmpFunc_rmap_Pair_h_L4_R), G_slices_partialInsertionSortCmpFunc_rmap_Pair_h_L4 n v_a904 v_b905 v_cmp906 v_z923 v_j908 k v_j973 v_w974 = some o → RunE Try.prog 141 Fi ks (G_slices_partialInsertionSortCmpFunc_rmap_Pair_h_L4_ex o) (G_slices_partialInsertionSortCmpFunc_rmap_Pair_h_L4_st v_a904 v_b905 v_cmp906 v_z923 v_j908 v_cmp906_g v_cmp906_c o) → RunE Try.prog 141 Fi (.l k (cP (cB (cR (cT (cR (cR (cR (cR (cR (cR (cB (cL (cR (cP (cB (cR (cL (cR (cR (bodyOf Try.f44)))))))))))))))))))) :: ks) .normal (G_slices_partialInsertionSortCmpFunc_rmap_Pair_h_L4_hd v_a904 v_b905 v_cmp906 v_z923 v_j908 v_cmp906_g v_cmp906_c v_j973 v_w974)
  | 0, v_j973, v_w974, o, h, q => by rw [G_slices_partialInsertionSortCmpFunc_rmap_Pair_h_L4] at h; cases h
  | k + 1, v_j973, v_w974, o, h, q => by
    rw [G_slices_partialInsertionSortCmpFunc_rmap_Pair_h_L4] at h
    by_cases h761 : v_j973 < v_b905
    · rw [if_pos h761] at h
      by_cases h776 : 0 ≤ v_j973 ∧ (v_j973).toNat < v_w974.length
      · rw [if_pos h776] at h
        obtain ⟨v_y982, h777, h⟩ := bind_some h
        by_cases h778 : 0 ≤ (wi .i64 (v_j973 - 1)) ∧ ((wi .i64 (v_j973 - 1))).toNat < v_w974.length
        · rw [if_pos h778] at h
          obtain ⟨v_y983, h779, h⟩ := bind_some h
          obtain ⟨v_r984, h780, h⟩ := bind_some h
          by_cases h781 : v_r984 < 0
          · rw [if_pos h781] at h
            by_cases h782 : 0 ≤ (wi .i64 (v_j973 - 1)) ∧ ((wi .i64 (v_j973 - 1))).toNat < v_w974.length
            · rw [if_pos h782] at h
              obtain ⟨v_y986, h783, h⟩ := bind_some h
              by_cases h784 : 0 ≤ v_j973 ∧ (v_j973).toNat < v_w974.length
              · rw [if_pos h784] at h
                obtain ⟨v_y987, h785, h⟩ := bind_some h
                by_cases h786 : 0 ≤ v_j973 ∧ (v_j973).toNat < v_w974.length
                · rw [if_pos h786] at h
                  obtain ⟨v_y988, h787, h⟩ := bind_some h
                  by_cases h788 : 0 ≤ (wi .i64 (v_j973 - 1)) ∧ ((wi .i64 (v_j973 - 1))).toNat < (v_w974.set (v_j973).toNat v_y986).length
                  · rw [if_pos h788] at h
                    obtain ⟨v_y989, h789, h⟩ := bind_some h
                    exact pkk_sound TTok mix hF 16 (hs := [.t true, .y (eS_rmap_Pair v_y982), .y (eS_rmap_Pair v_y983), .r ((eI .i64) v_r984), .t false, .y (eS_rmap_Pair v_y986), .y (eS_rmap_Pair v_y987), .w ((v_w974.set (v_j973).toNat v_y986).map eS_rmap_Pair), .y (eS_rmap_Pair v_y988), .w (((v_w974.set (v_j973).toNat v_y986).set ((wi .i64 (v_j973 - 1))).toNat v_y987).map eS_rmap_Pair), .y (eS_rmap_Pair v_y989)]) (ts := []) (s := [0, 1]) (l := [0, 1, 2, 3, 9, 10, 12]) (by kernel_rfl) (by kernel_rfl) (.cons (dt h761) (.cons (idx_ob (f := eS_rmap_Pair) h776) (.cons (get_ob (f := eS_rmap_Pair) h777) (.cons (idx_ob (f := eS_rmap_Pair) h778) (.cons (get_ob (f := eS_rmap_Pair) h779) (.cons (v_cmp906_h v_y982 v_y983 _ h780) (.cons (bnf (dt h781)) (.cons (idx_ob (f := eS_rmap_Pair) h782) (.cons (get_ob (f := eS_rmap_Pair) h783) (.cons (idx_ob (f := eS_rmap_Pair) h784) (.cons (get_ob (f := eS_rmap_Pair) h785) (.cons (idx_ob (f := eS_rmap_Pair) h786) (.cons (get_ob (f := eS_rmap_Pair) h787) (.cons (Eq.refl (pcells (.agg [.v (.int .i64 v_y986.fFrame), .v (.int .i64 v_y986.fSpace), .v (.int .i64 v_y986.fPage)]))) (.cons (set_ob (f := eS_rmap_Pair) (l := v_w974) (k := (v_j973).toNat) (z := v_y986) (p := .agg [.v (.int .i64 v_y986.fFrame), .v (.int .i64 v_y986.fSpace), .v (.int .i64 v_y986.fPage)]) rfl) (.cons (idx_ob (f := eS_rmap_Pair) h788) (.cons (get_ob (f := eS_rmap_Pair) h789) (.cons (Eq.refl (pcells (.agg [.v (.int .i64 v_y987.fFrame), .v (.int .i64 v_y987.fSpace), .v (.int .i64 v_y987.fPage)]))) (.cons (set_ob (f := eS_rmap_Pair) (l := (v_w974.set (v_j973).toNat v_y986)) (k := ((wi .i64 (v_j973 - 1))).toNat) (z := v_y987) (p := .agg [.v (.int .i64 v_y987.fFrame), .v (.int .i64 v_y987.fSpace), .v (.int .i64 v_y987.fPage)]) rfl) .nil))))))))))))))))))) (G_slices_partialInsertionSortCmpFunc_rmap_Pair_h_L4_ok hF ks n v_a904 v_b905 v_cmp906 v_z923 v_j908 v_cmp906_g v_cmp906_c v_cmp906_h k (wi .i64 (v_j973 + 1)) ((v_w974.set (v_j973).toNat v_y986).set ((wi .i64 (v_j973 - 1))).toNat v_y987) _ h q)
                  · rw [if_neg h788] at h; cases h
                · rw [if_neg h786] at h; cases h
              · rw [if_neg h784] at h; cases h
            · rw [if_neg h782] at h; cases h
          · rw [if_neg h781] at h
            cases h
            exact pkk_sound TTok mix hF 17 (hs := [.t true, .y (eS_rmap_Pair v_y982), .y (eS_rmap_Pair v_y983), .r ((eI .i64) v_r984), .t true]) (ts := []) (s := [0, 1]) (l := [0, 1, 2, 3, 9, 10]) (by kernel_rfl) (by kernel_rfl) (.cons (dt h761) (.cons (idx_ob (f := eS_rmap_Pair) h776) (.cons (get_ob (f := eS_rmap_Pair) h777) (.cons (idx_ob (f := eS_rmap_Pair) h778) (.cons (get_ob (f := eS_rmap_Pair) h779) (.cons (v_cmp906_h v_y982 v_y983 _ h780) (.cons (bnt (df h781)) .nil))))))) q
        · rw [if_neg h778] at h; cases h
      · rw [if_neg h776] at h; cases h
    · rw [if_neg h761] at h
      cases h
      exact pkk_sound TTok mix hF 8 (hs := [.t false]) (ts := []) (s := [0, 1]) (l := [0, 1, 2, 3, 9, 10]) (by kernel_rfl) (by kernel_rfl) (.cons (df h761) .nil) q
inductive G_slices_partialInsertionSortCmpFunc_rmap_Pair_h_L5_R where
  | x0 (v_x925 : Bool) (v_w926 : (List S_rmap_Pair))
  | x1 (v_w993 : (List S_rmap_Pair))
def G_slices_partialInsertionSortCmpFunc_rmap_Pair_h_L5_ex : G_slices_partialInsertionSortCmpFunc_rmap_Pair_h_L5_R → Ex
  | .x0 _ _ => .ret
  | .x1 _ => .exit 0
def G_slices_partialInsertionSortCmpFunc_rmap_Pair_h_L5_st (v_a904 : Int) (v_b905 : Int) (v_cmp906 : (S_rmap_Pair → S_rmap_Pair → Option (Int))) (v_cmp906_g : FuncId) (v_cmp906_c : (List PV)) : G_slices_partialInsertionSortCmpFunc_rmap_Pair_h_L5_R → PS
  | .x0 v_x925 v_w926 => ⟨(dds 8 (.d (.v (.bool v_x925)) :: (dds 132 []))), [.gh 0 (.srf 1), .row 24 3 (v_w926.map eS_rmap_Pair)]⟩
  | .x1 v_w993 => ⟨(dds 141 []), [.gh 0 (.srf 1), .row 24 3 (v_w993.map eS_rmap_Pair)]⟩
def G_slices_partialInsertionSortCmpFunc_rmap_Pair_h_L5_hd (v_a904 : Int) (v_b905 : Int) (v_cmp906 : (S_rmap_Pair → S_rmap_Pair → Option (Int))) (v_cmp906_g : FuncId) (v_cmp906_c : (List PV)) (v_i907 : Int) (v_j908 : Int) (v_w909 : (List S_rmap_Pair)) : PS := ⟨(.srf 1 :: .d (.v (.int .i64 v_a904)) :: .d (.v (.int .i64 v_b905)) :: .d (.clo v_cmp906_g v_cmp906_c) :: dd :: dd :: dd :: dd :: dd :: .d (.v (.int .i64 v_i907)) :: .d (.v (.int .i64 v_j908)) :: (dds 130 [])), [.gh 0 (.srf 1), .row 24 3 (v_w909.map eS_rmap_Pair)]⟩
def G_slices_partialInsertionSortCmpFunc_rmap_Pair_h_L5 (n : Nat) (v_a904 : Int) (v_b905 : Int) (v_cmp906 : (S_rmap_Pair → S_rmap_Pair → Option (Int))) : Nat → Int → Int → (List S_rmap_Pair) → Option G_slices_partialInsertionSortCmpFunc_rmap_Pair_h_L5_R
  | 0, _, _, _ => none
  | k + 1, v_i907, v_j908, v_w909 =>
    if v_j908 < 5 then
     (G_slices_partialInsertionSortCmpFunc_rmap_Pair_h_L1 n v_a904 v_b905 v_cmp906 v_j908 n v_i907 v_w909).bind fun v_o922 => match v_o922 with
     | .x0 v_z923 v_z924 =>
       if v_z923 = v_b905 then
        some (.x0 true v_z924)
       else
        if (wi .i64 (v_b905 - v_a904)) < 50 then
         some (.x0 false v_z924)
        else
         if 0 ≤ (wi .i64 (v_z923 - 1)) ∧ ((wi .i64 (v_z923 - 1))).toNat < v_z924.length then
          (v_z924[((wi .i64 (v_z923 - 1))).toNat]?).bind fun (v_y929 : S_rmap_Pair) =>
          if 0 ≤ v_z923 ∧ (v_z923).toNat < v_z924.length then
           (v_z924[(v_z923).toNat]?).bind fun (v_y930 : S_rmap_Pair) =>
           if 0 ≤ v_z923 ∧ (v_z923).toNat < v_z924.length then
            (v_z924[(v_z923).toNat]?).bind fun (v_y931 : S_rmap_Pair) =>
            if 0 ≤ (wi .i64 (v_z923 - 1)) ∧ ((wi .i64 (v_z923 - 1))).toNat < (v_z924.set (v_z923).toNat v_y929).length then
             ((v_z924.set (v_z923).toNat v_y929)[((wi .i64 (v_z923 - 1))).toNat]?).bind fun (v_y932 : S_rmap_Pair) =>
             if (wi .i64 (v_z923 - v_a904)) ≥ 2 then
              (G_slices_partialInsertionSortCmpFunc_rmap_Pair_h_L2 n v_a904 v_b905 v_cmp906 v_z923 v_j908 n (wi .i64 (v_z923 - 1)) ((v_z924.set (v_z923).toNat v_y929).set ((wi .i64 (v_z923 - 1))).toNat v_y930)).bind fun v_o951 => match v_o951 with
              | .x0 v_z952 =>
                if (wi .i64 (v_b905 - v_z923)) ≥ 2 then
                 (G_slices_partialInsertionSortCmpFunc_rmap_Pair_h_L3 n v_a904 v_b905 v_cmp906 v_z923 v_j908 n (wi .i64 (v_z923 + 1)) v_z952).bind fun v_o971 => match v_o971 with
                 | .x0 v_z972 =>
                   G_slices_partialInsertionSortCmpFunc_rmap_Pair_h_L5 n v_a904 v_b905 v_cmp906 k v_z923 (wi .i64 (v_j908 + 1)) v_z972
                else
                 G_slices_partialInsertionSortCmpFunc_rmap_Pair_h_L5 n v_a904 v_b905 v_cmp906 k v_z923 (wi .i64 (v_j908 + 1)) v_z952
             else
              if (wi .i64 (v_b905 - v_z923)) ≥ 2 then
               (G_slices_partialInsertionSortCmpFunc_rmap_Pair_h_L4 n v_a904 v_b905 v_cmp906 v_z923 v_j908 n (wi .i64 (v_z923 + 1)) ((v_z924.set (v_z923).toNat v_y929).set ((wi .i64 (v_z923 - 1))).toNat v_y930)).bind fun v_o991 => match v_o991 with
               | .x0 v_z992 =>
                 G_slices_partialInsertionSortCmpFunc_rmap_Pair_h_L5 n v_a904 v_b905 v_cmp906 k v_z923 (wi .i64 (v_j908 + 1)) v_z992
              else
               G_slices_partialInsertionSortCmpFunc_rmap_Pair_h_L5 n v_a904 v_b905 v_cmp906 k v_z923 (wi .i64 (v_j908 + 1)) ((v_z924.set (v_z923).toNat v_y929).set ((wi .i64 (v_z923 - 1))).toNat v_y930)
            else none
           else none
          else none
         else none
    else
     some (.x1 v_w909)

end Go.Proofs.Ytdonkhioembhlaa.pv
