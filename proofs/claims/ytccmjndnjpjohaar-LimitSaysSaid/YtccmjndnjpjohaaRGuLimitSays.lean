/- What the functions compute, as functions over plain data, with their contracts: written by gen.py. -/
import Derived.Test.YtccmjndnjpjohaaRProg
import Derived.Test.YtccmjndnjpjohaaRQr
set_option maxRecDepth 100000
set_option linter.all false
namespace Go.Proofs.YtccmjndnjpjohaaR.pv
open Go.RowKit
def TT : List TI := [
⟨1, 0, .oth, []⟩,
⟨1, 8, .oth, [.nf]⟩,
⟨1, 8, .int .i64, [.i .i64]⟩,
⟨1, 8, .int .i64, [.i .i64]⟩,
⟨1, 1, .bool, [.b]⟩,
⟨1, 1, .int .u8, [.i .u8]⟩,
⟨1, 1, .int .u8, [.i .u8]⟩,
⟨4, 24, .st [(0, 2), (1, 3), (2, 4), (3, 6)], [.i .i64, .i .i64, .b, .i .u8]⟩,
⟨4, 24, .st [(0, 2), (1, 3), (2, 4), (3, 6)], [.i .i64, .i .i64, .b, .i .u8]⟩,
⟨1, 16, .str, [.s]⟩,
⟨1, 16, .str, [.s]⟩,
⟨1, 16, .str, [.s]⟩,
⟨1, 8, .int .u64, [.i .u64]⟩,
⟨2, 24, .st [(0, 9), (1, 12)], [.s, .i .u64]⟩,
⟨2, 24, .st [(0, 9), (1, 12)], [.s, .i .u64]⟩,
⟨1, 8, .oth, [.np]⟩,
⟨1, 8, .oth, [.np]⟩,
⟨1, 8, .oth, [.np]⟩,
⟨1, 8, .st [(0, 17)], [.np]⟩,
⟨1, 8, .st [(0, 17)], [.np]⟩,
⟨1, 16, .oth, [.ni]⟩,
⟨1, 4, .int .i32, [.i .i32]⟩,
⟨4, 32, .st [(0, 3), (1, 3), (2, 3), (3, 3)], [.i .i64, .i .i64, .i .i64, .i .i64]⟩,
⟨4, 32, .st [(0, 3), (1, 3), (2, 3), (3, 3)], [.i .i64, .i .i64, .i .i64, .i .i64]⟩,
⟨1, 8, .int .i64, [.i .i64]⟩,
⟨1, 0, .oth, []⟩,
⟨1, 8, .oth, [.nf]⟩,
⟨1, 0, .oth, []⟩,
⟨1, 8, .oth, [.nf]⟩,
⟨1, 0, .oth, []⟩,
⟨1, 8, .oth, [.nf]⟩,
⟨1, 8, .oth, [.nf]⟩,
⟨1, 8, .oth, [.nf]⟩,
⟨4, 4, .st [(0, 4), (1, 4), (2, 4), (3, 4)], [.b, .b, .b, .b]⟩,
⟨4, 4, .st [(0, 4), (1, 4), (2, 4), (3, 4)], [.b, .b, .b, .b]⟩,
⟨32, 32, .arr 8 34, List.replicate 32 (.b)⟩,
⟨1, 8, .oth, [.nf]⟩,
⟨1, 8, .oth, [.nf]⟩,
⟨1, 24, .sl 34, [.sl]⟩,
⟨1, 8, .oth, [.nf]⟩,
⟨1, 8, .oth, [.nf]⟩,
⟨1, 8, .oth, [.nf]⟩,
⟨1, 24, .sl 3, [.sl]⟩,
⟨1, 8, .oth, [.nf]⟩,
⟨1, 8, .oth, [.nf]⟩,
⟨1, 8, .oth, [.nf]⟩,
⟨1, 8, .oth, [.nf]⟩,
⟨1, 8, .oth, [.nf]⟩,
⟨1, 24, .sl 64, [.sl]⟩,
⟨16, 16, .arr 16 5, List.replicate 16 (.i .u8)⟩,
⟨1, 0, .oth, []⟩,
⟨1, 8, .oth, [.nf]⟩,
⟨1, 0, .oth, []⟩,
⟨1, 8, .oth, [.nf]⟩,
⟨1, 0, .oth, []⟩,
⟨1, 8, .oth, [.nf]⟩,
⟨1, 0, .oth, []⟩,
⟨1, 8, .oth, [.nf]⟩,
⟨1, 0, .oth, []⟩,
⟨1, 8, .oth, [.nf]⟩,
⟨1, 8, .oth, [.nf]⟩,
⟨1, 8, .oth, [.nf]⟩,
⟨1, 8, .oth, [.nf]⟩,
⟨17, 24, .st [(0, 3), (1, 49)], List.replicate 1 (.i .i64) ++ List.replicate 16 (.i .u8)⟩,
⟨17, 24, .st [(0, 3), (1, 49)], List.replicate 1 (.i .i64) ++ List.replicate 16 (.i .u8)⟩,
⟨1, 8, .oth, [.nf]⟩,
⟨1, 8, .oth, [.nf]⟩,
⟨1, 24, .sl 79, [.sl]⟩,
⟨1, 24, .sl 70, [.sl]⟩,
⟨1, 24, .sl 71, [.sl]⟩,
⟨1, 24, .sl 73, [.sl]⟩,
⟨1, 24, .sl 74, [.sl]⟩,
⟨3, 24, .st [(0, 3), (1, 3), (2, 3)], [.i .i64, .i .i64, .i .i64]⟩,
⟨3, 24, .st [(0, 3), (1, 3), (2, 3)], [.i .i64, .i .i64, .i .i64]⟩,
⟨3, 24, .st [(0, 3), (1, 3), (2, 3)], [.i .i64, .i .i64, .i .i64]⟩,
⟨1, 0, .oth, []⟩,
⟨1, 8, .oth, [.nf]⟩,
⟨1, 8, .oth, [.nf]⟩,
⟨1, 8, .oth, [.nf]⟩,
⟨1, 4, .int .u32, [.i .u32]⟩,
⟨1, 8, .oth, [.nf]⟩,
⟨1, 24, .sl 91, [.sl]⟩,
⟨1, 0, .oth, []⟩,
⟨1, 8, .oth, [.nf]⟩,
⟨1, 8, .oth, [.nf]⟩,
⟨1, 0, .oth, []⟩,
⟨1, 8, .oth, [.nf]⟩,
⟨1, 0, .oth, []⟩,
⟨1, 8, .oth, [.nf]⟩,
⟨1, 8, .oth, [.nf]⟩,
⟨3, 24, .st [(0, 3), (1, 3), (2, 3)], [.i .i64, .i .i64, .i .i64]⟩,
⟨3, 24, .st [(0, 3), (1, 3), (2, 3)], [.i .i64, .i .i64, .i .i64]⟩,
⟨1, 8, .oth, [.nf]⟩,
⟨1, 8, .oth, [.nf]⟩,
⟨1, 8, .oth, [.nf]⟩,
⟨1, 8, .oth, [.nf]⟩,
⟨7, 32, .st [(0, 4), (1, 4), (2, 3), (3, 3), (4, 4), (5, 4), (6, 4)], [.b, .b, .i .i64, .i .i64, .b, .b, .b]⟩,
⟨7, 32, .st [(0, 4), (1, 4), (2, 3), (3, 3), (4, 4), (5, 4), (6, 4)], [.b, .b, .i .i64, .i .i64, .b, .b, .b]⟩,
⟨10, 56, .st [(0, 3), (1, 97), (8, 3), (9, 3)], [.i .i64, .b, .b, .i .i64, .i .i64, .b, .b, .b, .i .i64, .i .i64]⟩,
⟨10, 56, .st [(0, 3), (1, 97), (8, 3), (9, 3)], [.i .i64, .b, .b, .i .i64, .i .i64, .b, .b, .b, .i .i64, .i .i64]⟩,
⟨1, 8, .oth, [.nf]⟩,
⟨1, 0, .oth, []⟩,
⟨1, 8, .oth, [.nf]⟩,
⟨1, 0, .oth, []⟩,
⟨1, 8, .oth, [.nf]⟩,
⟨1, 8, .oth, [.nf]⟩,
⟨1, 8, .oth, [.nf]⟩,
⟨1, 8, .oth, [.nf]⟩,
⟨1, 8, .oth, [.nf]⟩,
⟨1, 8, .oth, [.nf]⟩,
⟨1, 8, .oth, [.nf]⟩,
⟨1, 8, .oth, [.nf]⟩,
⟨1, 8, .oth, [.nf]⟩,
⟨1, 8, .oth, [.nf]⟩,
⟨1, 8, .oth, [.nf]⟩,
⟨1, 8, .oth, [.nf]⟩,
⟨1, 24, .sl 122, [.sl]⟩,
⟨1, 0, .oth, []⟩,
⟨1, 8, .oth, [.nf]⟩,
⟨1, 8, .oth, [.nf]⟩,
⟨1, 24, .sl 123, [.sl]⟩,
⟨3, 24, .st [(0, 3), (1, 3), (2, 3)], [.i .i64, .i .i64, .i .i64]⟩,
⟨3, 24, .st [(0, 3), (1, 3), (2, 3)], [.i .i64, .i .i64, .i .i64]⟩,
⟨3, 24, .arr 3 3, [.i .i64, .i .i64, .i .i64]⟩,
⟨1, 8, .oth, [.nf]⟩,
⟨1, 8, .oth, [.nf]⟩,
⟨1, 8, .oth, [.nf]⟩,
⟨1, 8, .oth, [.nf]⟩,
⟨1, 8, .oth, [.nf]⟩,
⟨1, 8, .oth, [.nf]⟩,
⟨1, 8, .oth, [.nf]⟩,
⟨6, 48, .st [(0, 3), (1, 3), (2, 3), (3, 3), (4, 3), (5, 3)], [.i .i64, .i .i64, .i .i64, .i .i64, .i .i64, .i .i64]⟩,
⟨6, 48, .st [(0, 3), (1, 3), (2, 3), (3, 3), (4, 3), (5, 3)], [.i .i64, .i .i64, .i .i64, .i .i64, .i .i64, .i .i64]⟩,
⟨1, 24, .sl 140, [.sl]⟩,
⟨6, 64, .st [(0, 3), (1, 3), (2, 42), (3, 3), (4, 3), (5, 3)], [.i .i64, .i .i64, .sl, .i .i64, .i .i64, .i .i64]⟩,
⟨6, 64, .st [(0, 3), (1, 3), (2, 42), (3, 3), (4, 3), (5, 3)], [.i .i64, .i .i64, .sl, .i .i64, .i .i64, .i .i64]⟩,
⟨1, 0, .oth, []⟩,
⟨1, 8, .oth, [.nf]⟩,
⟨1, 8, .oth, [.nf]⟩,
⟨3, 24, .st [(0, 4), (1, 3), (2, 3)], [.b, .i .i64, .i .i64]⟩,
⟨3, 24, .st [(0, 4), (1, 3), (2, 3)], [.b, .i .i64, .i .i64]⟩,
⟨1, 8, .oth, [.nf]⟩,
⟨1, 8, .oth, [.nf]⟩,
⟨1, 8, .oth, [.nf]⟩,
⟨1, 24, .sl 4, [.sl]⟩,
⟨1, 8, .oth, [.nf]⟩,
⟨1, 8, .oth, [.nf]⟩,
⟨1, 0, .oth, []⟩,
⟨1, 8, .oth, [.nf]⟩,
⟨1, 8, .oth, [.nf]⟩,
⟨1, 8, .oth, [.nf]⟩,
⟨1, 8, .oth, [.nf]⟩,
⟨1, 8, .oth, [.nf]⟩,
⟨1, 8, .oth, [.nf]⟩,
⟨1, 8, .oth, [.nf]⟩,
⟨1, 8, .oth, [.nf]⟩,
⟨1, 8, .oth, [.nf]⟩,
⟨1, 8, .oth, [.nf]⟩,
⟨1, 8, .oth, [.nf]⟩,
⟨1, 8, .oth, [.nf]⟩,
⟨1, 8, .oth, [.nf]⟩,
⟨1, 8, .oth, [.nf]⟩,
⟨1, 8, .oth, [.np]⟩,
⟨1, 8, .oth, [.nf]⟩,
⟨1, 8, .oth, [.nf]⟩,
⟨1, 8, .oth, [.nf]⟩,
⟨1, 8, .oth, [.nf]⟩,
⟨1, 8, .oth, [.nf]⟩,
⟨1, 8, .oth, [.np]⟩,
⟨1, 8, .oth, [.nf]⟩,
⟨1, 8, .oth, [.nf]⟩,
⟨7, 7, .arr 7 4, [.b, .b, .b, .b, .b, .b, .b]⟩,
⟨1, 8, .oth, [.nf]⟩,
⟨1, 8, .oth, [.nf]⟩,
⟨4, 32, .arr 4 3, [.i .i64, .i .i64, .i .i64, .i .i64]⟩,
⟨1, 8, .oth, [.nf]⟩,
⟨1, 8, .oth, [.nf]⟩,
⟨1, 8, .oth, [.nf]⟩,
⟨1, 8, .oth, [.nf]⟩,
⟨1, 8, .oth, [.nf]⟩,
⟨1, 8, .oth, [.nf]⟩,
⟨1, 8, .oth, [.nf]⟩,
⟨1, 24, .sl 42, [.sl]⟩,
⟨1, 8, .oth, [.nf]⟩,
⟨1, 8, .oth, [.nf]⟩,
⟨1, 8, .oth, [.nf]⟩,
⟨1, 8, .oth, [.nf]⟩,
⟨1, 8, .oth, [.nm]⟩,
⟨1, 8, .oth, [.nf]⟩,
⟨1, 8, .int .u64, [.i .u64]⟩,
⟨1, 8, .oth, [.nf]⟩,
⟨4, 40, .st [(0, 17), (1, 17), (2, 17), (3, 9)], [.np, .np, .np, .s]⟩,
⟨4, 40, .st [(0, 17), (1, 17), (2, 17), (3, 9)], [.np, .np, .np, .s]⟩,
⟨0, 0, .arr 0 16, []⟩,
⟨0, 0, .st [(0, 193)], []⟩,
⟨0, 0, .st [(0, 193)], []⟩,
⟨1, 8, .oth, [.nf]⟩,
⟨1, 1, .int .u8, [.i .u8]⟩,
⟨1, 1, .int .u8, [.i .u8]⟩,
⟨1, 8, .oth, [.nf]⟩,
⟨1, 8, .oth, [.np]⟩,
⟨1, 4, .int .i32, [.i .i32]⟩,
⟨1, 4, .int .i32, [.i .i32]⟩,
⟨11, 48, .st [(0, 12), (1, 12), (2, 79), (3, 197), (4, 5), (5, 5), (6, 198), (7, 199), (8, 200), (9, 201), (10, 202)], [.i .u64, .i .u64, .i .u32, .i .u8, .i .u8, .i .u8, .i .u8, .nf, .np, .i .i32, .i .i32]⟩,
⟨11, 48, .st [(0, 12), (1, 12), (2, 79), (3, 197), (4, 5), (5, 5), (6, 198), (7, 199), (8, 200), (9, 201), (10, 202)], [.i .u64, .i .u64, .i .u32, .i .u8, .i .u8, .i .u8, .i .u8, .nf, .np, .i .i32, .i .i32]⟩,
⟨1, 8, .oth, [.np]⟩]
theorem TTok : TOk Try.prog TT := by unfold TOk; kernel_rfl
theorem mix : Try.prog.follows .mixedOrders = true := by kernel_rfl
structure S_limit_Box where
  fUp : Int
  fHave : Int
  fMost : Int
def eS_limit_Box (x : S_limit_Box) : PV := .agg [.v (.int .i64 x.fUp), .v (.int .i64 x.fHave), .v (.int .i64 x.fMost)]
def eqS_limit_Box (x y : S_limit_Box) : Bool := ((x.fUp == y.fUp) && ((x.fHave == y.fHave) && ((x.fMost == y.fMost) && true)))
theorem eqS_limit_Box_ok (x y : S_limit_Box) : EqA Try.prog 122 [((.int .i64 x.fUp)), ((.int .i64 x.fHave)), ((.int .i64 x.fMost))] [((.int .i64 y.fUp)), ((.int .i64 y.fHave)), ((.int .i64 y.fMost))] (eqS_limit_Box x y) := eqA_of TTok (by kernel_rfl) (by kernel_rfl) (by kernel_rfl)
inductive G_limit_kids_L1_R where
  | x0 (v_sum38 : Int)
def G_limit_kids_L1_ex : G_limit_kids_L1_R → Ex
  | .x0 _ => .exit 0
def G_limit_kids_L1_st (v_k33 : Int) (v_l32 : (List S_limit_Box)) : G_limit_kids_L1_R → PS
  | .x0 v_sum38 => ⟨[dd, dd, dd, dd, dd, .d (.v (.int .i64 v_sum38)), dd, dd, dd, dd, dd, dd, dd, dd, dd, dd, dd, dd, dd, dd, dd, dd, dd, dd], []⟩
def G_limit_kids_L1_hd (v_k33 : Int) (v_l32 : (List S_limit_Box)) (v_sum34 : Int) (v_x35 : Int) : PS := ⟨[dd, .d (.v (.int .i64 v_k33)), dd, dd, dd, .d (.v (.int .i64 v_sum34)), dd, dd, .d (.sl (v_l32.map eS_limit_Box)), .d (.v (.int .i64 (v_l32.length : Int))), .d (.v (.int .i64 v_x35)), dd, dd, dd, dd, dd, dd, dd, dd, dd, dd, dd, dd, dd], []⟩
def G_limit_kids_L1 (n : Nat) (v_k33 : Int) (v_l32 : (List S_limit_Box)) : Nat → Int → Int → Option G_limit_kids_L1_R
  | 0, _, _ => none
  | k + 1, v_sum34, v_x35 =>
    if v_x35 < (v_l32.length : Int) then
     (getI v_l32 v_x35).bind fun (v_y37 : S_limit_Box) =>
     if v_y37.fUp = v_k33 then
      G_limit_kids_L1 n v_k33 v_l32 k (wi .i64 (v_sum34 + v_y37.fHave)) (wi .i64 (v_x35 + 1))
     else
      G_limit_kids_L1 n v_k33 v_l32 k v_sum34 (wi .i64 (v_x35 + 1))
    else
     some (.x0 v_sum34)
theorem G_limit_kids_L1_ok {Fi : Ex → PS → Prop} (hF : KC 24 Fi) (ks : List Fr) (n : Nat) (v_k33 : Int) (v_l32 : (List S_limit_Box))  : ∀ (k : Nat) (v_sum34 : Int) (v_x35 : Int) (o : G_limit_kids_L1_R), G_limit_kids_L1 n v_k33 v_l32 k v_sum34 v_x35 = some o → RunE Try.prog 24 Fi ks (G_limit_kids_L1_ex o) (G_limit_kids_L1_st v_k33 v_l32 o) → RunE Try.prog 24 Fi (.l k (cP (cB (cR (cL (cR (cR (bodyOf Try.f118))))))) :: ks) .normal (G_limit_kids_L1_hd v_k33 v_l32 v_sum34 v_x35)
  | 0, v_sum34, v_x35, o, h, q => by rw [G_limit_kids_L1] at h; cases h
  | k + 1, v_sum34, v_x35, o, h, q => by
    rw [G_limit_kids_L1] at h
    by_cases h30 : v_x35 < (v_l32.length : Int)
    · rw [if_pos h30] at h
      obtain ⟨v_y37, h34, h⟩ := bind_some h
      by_cases h36 : v_y37.fUp = v_k33
      · rw [if_pos h36] at h
        exact pkk_sound TTok mix hF 16 (hs := [.t true, .y (eS_limit_Box v_y37), .c, .c, .t true, .c]) (ts := []) (s := []) (l := [1, 5, 8, 9, 10]) (by kernel_rfl) (by kernel_rfl) (.cons (dt h30) (.cons (getI_ob (f := eS_limit_Box) h34) (.cons (show 0 + 3 ≤ 3 by decide) (.cons (bt h36) .nil)))) (G_limit_kids_L1_ok hF ks n v_k33 v_l32 k (wi .i64 (v_sum34 + v_y37.fHave)) (wi .i64 (v_x35 + 1)) _ h q)
      · rw [if_neg h36] at h
        exact pkk_sound TTok mix hF 16 (hs := [.t true, .y (eS_limit_Box v_y37), .c, .c, .t false]) (ts := []) (s := []) (l := [1, 5, 8, 9, 10]) (by kernel_rfl) (by kernel_rfl) (.cons (dt h30) (.cons (getI_ob (f := eS_limit_Box) h34) (.cons (show 0 + 3 ≤ 3 by decide) (.cons (bf h36) .nil)))) (G_limit_kids_L1_ok hF ks n v_k33 v_l32 k v_sum34 (wi .i64 (v_x35 + 1)) _ h q)
    · rw [if_neg h30] at h
      cases h
      exact pkk_sound TTok mix hF 8 (hs := [.t false]) (ts := []) (s := []) (l := [5]) (by kernel_rfl) (by kernel_rfl) (.cons (df h30) .nil) q
/- ringhall/limit.kids -/
def G_limit_kids (n : Nat) (v_l32 : (List S_limit_Box)) (v_k33 : Int) : Option (Int) :=
  (G_limit_kids_L1 n v_k33 v_l32 n 0 0).bind fun v_o39 => match v_o39 with
  | .x0 v_z40 =>
    some v_z40
theorem G_limit_kids_ok (n : Nat) (v_l32 : (List S_limit_Box)) (v_k33 : Int) (r : Int) (h : G_limit_kids n v_l32 v_k33 = some r) : Ret Try.prog 118 [(eL eS_limit_Box) v_l32, (eI .i64) v_k33] ((eI .i64) r) := by
  refine ret_run (n := 24) (fn := Try.f118) (c := bodyOf Try.f118) (by kernel_rfl) (by kernel_rfl) (by kernel_rfl) (by kernel_rfl) ?_
  have hF : KC 24 (FinR Try.prog Try.f118 ((eI .i64) r)) := FinR.kc' (by kernel_rfl)
  unfold G_limit_kids at h
  obtain ⟨v_o39, h37, h⟩ := bind_some h
  refine pkk_sound TTok mix hF 9 (hs := [.u (.d (.v (.int .i64 (v_l32.length : Int)))), .n n]) (ts := []) (s := []) (l := [1, 5, 8, 9, 10]) (by kernel_rfl) (by kernel_rfl) (.cons (len_ob (f := eS_limit_Box) (l := v_l32)) .nil) (G_limit_kids_L1_ok hF (.b 0 :: .s (cR (cR (cR (bodyOf Try.f118)))) :: []) n v_k33 v_l32 n 0 0 _ h37 ?_)
  cases v_o39 with
  | x0 v_z40 =>
    dsimp only at h
    obtain rfl := Option.some.inj h
    exact pend_sound TTok mix 4 (hs := []) (by kernel_rfl) (by kernel_rfl) (by kernel_rfl) .nil
inductive G_limit_Check_C1_R where
  | x0 (v_x17 : Bool)
def G_limit_Check_C1_ex : G_limit_Check_C1_R → Ex
  | .x0 _ => .normal
def G_limit_Check_C1_st (v_l7 : (List S_limit_Box)) (v_x8 : Int) (v_y16 : S_limit_Box) : G_limit_Check_C1_R → PS
  | .x0 v_x17 => ⟨[.d (.sl (v_l7.map eS_limit_Box)), dd, dd, dd, .ref 0 0, dd, dd, dd, dd, .d (.sl (v_l7.map eS_limit_Box)), .d (.v (.int .i64 (v_l7.length : Int))), .d (.v (.int .i64 v_x8)), dd, dd, dd, dd, dd, dd, dd, dd, dd, dd, dd, dd, .d (.v (.bool v_x17)), dd, dd, dd, dd, dd, dd, dd, dd, dd, dd, dd, dd, dd, dd, dd, dd, dd, dd, dd, dd, dd, dd, dd, dd, dd, dd, dd, dd, dd, dd, dd, dd, dd, dd, dd, dd], [.box [.d (.v (.int .i64 v_y16.fUp)), .d (.v (.int .i64 v_y16.fHave)), .d (.v (.int .i64 v_y16.fMost))]]⟩
def G_limit_Check_C1_hd (v_l7 : (List S_limit_Box)) (v_x8 : Int) (v_y16 : S_limit_Box)  : PS := ⟨[.d (.sl (v_l7.map eS_limit_Box)), dd, dd, .d (.v (.int .i64 v_x8)), .ref 0 0, dd, dd, dd, dd, .d (.sl (v_l7.map eS_limit_Box)), .d (.v (.int .i64 (v_l7.length : Int))), .d (.v (.int .i64 v_x8)), dd, dd, dd, dd, dd, dd, dd, dd, dd, dd, dd, dd, dd, dd, dd, dd, dd, dd, dd, dd, dd, dd, dd, dd, dd, dd, dd, dd, dd, dd, dd, dd, dd, dd, dd, dd, dd, dd, dd, dd, dd, dd, dd, dd, dd, dd, dd, dd, dd], [.box [.d (.v (.int .i64 v_y16.fUp)), .d (.v (.int .i64 v_y16.fHave)), .d (.v (.int .i64 v_y16.fMost))]]⟩
def G_limit_Check_C1 (n : Nat) (v_l7 : (List S_limit_Box)) (v_x8 : Int) (v_y16 : S_limit_Box) : Option G_limit_Check_C1_R :=
  if v_y16.fUp < (-1) then
   some (.x0 true)
  else
   some (.x0 (decide (v_y16.fUp ≥ v_x8)))
theorem G_limit_Check_C1_ok {Fi : Ex → PS → Prop} (hF : KC 61 Fi) (ks : List Fr) (n : Nat) (v_l7 : (List S_limit_Box)) (v_x8 : Int) (v_y16 : S_limit_Box)  (o : G_limit_Check_C1_R) (h : G_limit_Check_C1 n v_l7 v_x8 v_y16 = some o) (q : RunE Try.prog 61 Fi ks (G_limit_Check_C1_ex o) (G_limit_Check_C1_st v_l7 v_x8 v_y16 o)) : RunE Try.prog 61 Fi (.s (cL (cL (cR (cB (cL (cR (cR (cP (cB (cR (cL (cR (cR (bodyOf Try.f72)))))))))))))) :: ks) .normal (G_limit_Check_C1_hd v_l7 v_x8 v_y16) := by
  unfold G_limit_Check_C1 at h
  by_cases h17 : v_y16.fUp < (-1)
  · rw [if_pos h17] at h
    cases h
    exact pkk_sound TTok mix hF 1 (hs := [.c, .t true, .c, .c, .c]) (ts := []) (s := [0]) (l := [0, 4, 9, 10, 11, 24]) (by kernel_rfl) (by kernel_rfl) (.cons (dt h17) .nil) q
  · rw [if_neg h17] at h
    cases h
    exact pkk_sound TTok mix hF 1 (hs := [.c, .t false, .c, .c, .c, .c]) (ts := []) (s := [0]) (l := [0, 4, 9, 10, 11, 24]) (by kernel_rfl) (by kernel_rfl) (.cons (df h17) .nil) q
inductive G_limit_Check_C2_R where
  | x0 (v_x22 : Bool)
def G_limit_Check_C2_ex : G_limit_Check_C2_R → Ex
  | .x0 _ => .normal
def G_limit_Check_C2_st (v_l7 : (List S_limit_Box)) (v_x8 : Int) (v_y16 : S_limit_Box) : G_limit_Check_C2_R → PS
  | .x0 v_x22 => ⟨[.d (.sl (v_l7.map eS_limit_Box)), dd, dd, dd, dd, dd, dd, dd, dd, .d (.sl (v_l7.map eS_limit_Box)), .d (.v (.int .i64 (v_l7.length : Int))), .d (.v (.int .i64 v_x8)), dd, dd, dd, dd, dd, dd, dd, dd, dd, dd, dd, dd, dd, dd, dd, dd, dd, dd, dd, dd, dd, dd, dd, dd, dd, dd, dd, dd, dd, dd, dd, dd, .d (.v (.bool v_x22)), dd, dd, dd, dd, dd, dd, dd, dd, dd, dd, dd, dd, dd, dd, dd, dd], []⟩
def G_limit_Check_C2_hd (v_l7 : (List S_limit_Box)) (v_x8 : Int) (v_y16 : S_limit_Box)  : PS := ⟨[.d (.sl (v_l7.map eS_limit_Box)), dd, dd, dd, .ref 0 0, dd, dd, dd, dd, .d (.sl (v_l7.map eS_limit_Box)), .d (.v (.int .i64 (v_l7.length : Int))), .d (.v (.int .i64 v_x8)), dd, dd, dd, dd, dd, dd, dd, dd, dd, dd, dd, dd, dd, dd, dd, dd, dd, dd, dd, dd, dd, dd, dd, dd, dd, dd, dd, dd, dd, dd, dd, dd, dd, dd, dd, dd, dd, dd, dd, dd, dd, dd, dd, dd, dd, dd, dd, dd, dd], [.box [.d (.v (.int .i64 v_y16.fUp)), .d (.v (.int .i64 v_y16.fHave)), .d (.v (.int .i64 v_y16.fMost))]]⟩
def G_limit_Check_C2 (n : Nat) (v_l7 : (List S_limit_Box)) (v_x8 : Int) (v_y16 : S_limit_Box) : Option G_limit_Check_C2_R :=
  if v_y16.fMost < 0 then
   some (.x0 true)
  else
   if v_y16.fMost > 1000000 then
    some (.x0 true)
   else
    if v_y16.fHave < 0 then
     some (.x0 true)
    else
     some (.x0 (decide (v_y16.fHave > v_y16.fMost)))
theorem G_limit_Check_C2_ok {Fi : Ex → PS → Prop} (hF : KC 61 Fi) (ks : List Fr) (n : Nat) (v_l7 : (List S_limit_Box)) (v_x8 : Int) (v_y16 : S_limit_Box)  (o : G_limit_Check_C2_R) (h : G_limit_Check_C2 n v_l7 v_x8 v_y16 = some o) (q : RunE Try.prog 61 Fi ks (G_limit_Check_C2_ex o) (G_limit_Check_C2_st v_l7 v_x8 v_y16 o)) : RunE Try.prog 61 Fi (.s (cL (cR (cR (cB (cL (cR (cR (cP (cB (cR (cL (cR (cR (bodyOf Try.f72)))))))))))))) :: ks) .normal (G_limit_Check_C2_hd v_l7 v_x8 v_y16) := by
  unfold G_limit_Check_C2 at h
  by_cases h23 : v_y16.fMost < 0
  · rw [if_pos h23] at h
    cases h
    exact pkk_sound TTok mix hF 1 (hs := [.c, .t true, .c, .c, .c, .c, .c, .c, .c, .c, .c, .c]) (ts := []) (s := []) (l := [0, 9, 10, 11, 44]) (by kernel_rfl) (by kernel_rfl) (.cons (dt h23) .nil) q
  · rw [if_neg h23] at h
    by_cases h24 : v_y16.fMost > 1000000
    · rw [if_pos h24] at h
      cases h
      exact pkk_sound TTok mix hF 1 (hs := [.c, .t false, .c, .c, .c, .t true, .c, .c, .c, .c, .c, .c, .c]) (ts := []) (s := []) (l := [0, 9, 10, 11, 44]) (by kernel_rfl) (by kernel_rfl) (.cons (df h23) (.cons (dt h24) .nil)) q
    · rw [if_neg h24] at h
      by_cases h25 : v_y16.fHave < 0
      · rw [if_pos h25] at h
        cases h
        exact pkk_sound TTok mix hF 1 (hs := [.c, .t false, .c, .c, .c, .t false, .c, .c, .c, .t true, .c, .c, .c, .c]) (ts := []) (s := []) (l := [0, 9, 10, 11, 44]) (by kernel_rfl) (by kernel_rfl) (.cons (df h23) (.cons (df h24) (.cons (dt h25) .nil))) q
      · rw [if_neg h25] at h
        cases h
        exact pkk_sound TTok mix hF 1 (hs := [.c, .t false, .c, .c, .c, .t false, .c, .c, .c, .t false, .c, .c, .c, .c, .c, .c]) (ts := []) (s := []) (l := [0, 9, 10, 11, 44]) (by kernel_rfl) (by kernel_rfl) (.cons (df h23) (.cons (df h24) (.cons (df h25) .nil))) q
inductive G_limit_Check_L3_R where
  | x0 (v_x21 : Int)
  | x1 
def G_limit_Check_L3_ex : G_limit_Check_L3_R → Ex
  | .x0 _ => .ret
  | .x1  => .exit 0
def G_limit_Check_L3_st (v_l7 : (List S_limit_Box)) : G_limit_Check_L3_R → PS
  | .x0 v_x21 => ⟨[dd, dd, .d (.v (.int .i64 v_x21)), dd, dd, dd, dd, dd, dd, dd, dd, dd, dd, dd, dd, dd, dd, dd, dd, dd, dd, dd, dd, dd, dd, dd, dd, dd, dd, dd, dd, dd, dd, dd, dd, dd, dd, dd, dd, dd, dd, dd, dd, dd, dd, dd, dd, dd, dd, dd, dd, dd, dd, dd, dd, dd, dd, dd, dd, dd, dd], []⟩
  | .x1  => ⟨[.d (.sl (v_l7.map eS_limit_Box)), dd, dd, dd, dd, dd, dd, dd, dd, dd, dd, dd, dd, dd, dd, dd, dd, dd, dd, dd, dd, dd, dd, dd, dd, dd, dd, dd, dd, dd, dd, dd, dd, dd, dd, dd, dd, dd, dd, dd, dd, dd, dd, dd, dd, dd, dd, dd, dd, dd, dd, dd, dd, dd, dd, dd, dd, dd, dd, dd, dd], []⟩
def G_limit_Check_L3_hd (v_l7 : (List S_limit_Box)) (v_x8 : Int) : PS := ⟨[.d (.sl (v_l7.map eS_limit_Box)), dd, dd, dd, dd, dd, dd, dd, dd, .d (.sl (v_l7.map eS_limit_Box)), .d (.v (.int .i64 (v_l7.length : Int))), .d (.v (.int .i64 v_x8)), dd, dd, dd, dd, dd, dd, dd, dd, dd, dd, dd, dd, dd, dd, dd, dd, dd, dd, dd, dd, dd, dd, dd, dd, dd, dd, dd, dd, dd, dd, dd, dd, dd, dd, dd, dd, dd, dd, dd, dd, dd, dd, dd, dd, dd, dd, dd, dd, dd], []⟩
def G_limit_Check_L3 (n : Nat) (v_l7 : (List S_limit_Box)) : Nat → Int → Option G_limit_Check_L3_R
  | 0, _ => none
  | k + 1, v_x8 =>
    if v_x8 < (v_l7.length : Int) then
     (getI v_l7 v_x8).bind fun (v_y16 : S_limit_Box) =>
     (G_limit_Check_C1 n v_l7 v_x8 v_y16).bind fun v_o19 => match v_o19 with
     | .x0 v_z20 =>
       if v_z20 = true then
        some (.x0 3)
       else
        (G_limit_Check_C2 n v_l7 v_x8 v_y16).bind fun v_o26 => match v_o26 with
        | .x0 v_z27 =>
          if v_z27 = true then
           some (.x0 1)
          else
           G_limit_Check_L3 n v_l7 k (wi .i64 (v_x8 + 1))
    else
     some (.x1 )
theorem G_limit_Check_L3_ok {Fi : Ex → PS → Prop} (hF : KC 61 Fi) (ks : List Fr) (n : Nat) (v_l7 : (List S_limit_Box))  : ∀ (k : Nat) (v_x8 : Int) (o : G_limit_Check_L3_R), G_limit_Check_L3 n v_l7 k v_x8 = some o → RunE Try.prog 61 Fi ks (G_limit_Check_L3_ex o) (G_limit_Check_L3_st v_l7 o) → RunE Try.prog 61 Fi (.l k (cP (cB (cR (cL (cR (cR (bodyOf Try.f72))))))) :: ks) .normal (G_limit_Check_L3_hd v_l7 v_x8)
  | 0, v_x8, o, h, q => by rw [G_limit_Check_L3] at h; cases h
  | k + 1, v_x8, o, h, q => by
    rw [G_limit_Check_L3] at h
    by_cases h2 : v_x8 < (v_l7.length : Int)
    · rw [if_pos h2] at h
      obtain ⟨v_y16, h15, h⟩ := bind_some h
      obtain ⟨v_o19, h18, h⟩ := bind_some h
      refine pkk_sound TTok mix hF 12 (hs := [.t true, .y (eS_limit_Box v_y16), .c]) (ts := []) (s := [12]) (l := [0, 3, 4, 9, 10, 11]) (by kernel_rfl) (by kernel_rfl) (.cons (dt h2) (.cons (getI_ob (f := eS_limit_Box) h15) (.cons (show 0 + 3 ≤ 3 by decide) .nil))) (G_limit_Check_C1_ok hF (.s (cR (cL (cR (cB (cL (cR (cR (cP (cB (cR (cL (cR (cR (bodyOf Try.f72)))))))))))))) :: .s (cR (cR (cB (cL (cR (cR (cP (cB (cR (cL (cR (cR (bodyOf Try.f72))))))))))))) :: .b 1 :: .s (cR (cR (cR (cP (cB (cR (cL (cR (cR (bodyOf Try.f72)))))))))) :: .l k (cP (cB (cR (cL (cR (cR (bodyOf Try.f72))))))) :: ks) n v_l7 v_x8 v_y16 _ h18 ?_)
      cases v_o19 with
      | x0 v_z20 =>
        dsimp only at h
        by_cases h19 : v_z20 = true
        · rw [if_pos h19] at h
          cases h
          exact pkk_sound TTok mix hF 8 (hs := [.t true]) (ts := []) (s := []) (l := [2]) (by kernel_rfl) (by kernel_rfl) (.cons h19 .nil) q
        · rw [if_neg h19] at h
          obtain ⟨v_o26, h26, h⟩ := bind_some h
          refine pkk_sound TTok mix hF 3 (hs := [.t false]) (ts := []) (s := [0]) (l := [0, 4, 9, 10, 11]) (by kernel_rfl) (by kernel_rfl) (.cons (vf h19) .nil) (G_limit_Check_C2_ok hF (.s (cR (cR (cR (cB (cL (cR (cR (cP (cB (cR (cL (cR (cR (bodyOf Try.f72)))))))))))))) :: .b 1 :: .s (cR (cR (cR (cP (cB (cR (cL (cR (cR (bodyOf Try.f72)))))))))) :: .l k (cP (cB (cR (cL (cR (cR (bodyOf Try.f72))))))) :: ks) n v_l7 v_x8 v_y16 _ h26 ?_)
          cases v_o26 with
          | x0 v_z27 =>
            dsimp only at h
            by_cases h27 : v_z27 = true
            · rw [if_pos h27] at h
              cases h
              exact pkk_sound TTok mix hF 7 (hs := [.t true]) (ts := []) (s := []) (l := [2]) (by kernel_rfl) (by kernel_rfl) (.cons h27 .nil) q
            · rw [if_neg h27] at h
              exact pkk_sound TTok mix hF 4 (hs := [.t false]) (ts := []) (s := []) (l := [0, 9, 10, 11]) (by kernel_rfl) (by kernel_rfl) (.cons (vf h27) .nil) (G_limit_Check_L3_ok hF ks n v_l7 k (wi .i64 (v_x8 + 1)) _ h q)
    · rw [if_neg h2] at h
      cases h
      exact pkk_sound TTok mix hF 8 (hs := [.t false]) (ts := []) (s := []) (l := [0]) (by kernel_rfl) (by kernel_rfl) (.cons (df h2) .nil) q
inductive G_limit_Check_L4_R where
  | x0 (v_x45 : Int)
  | x1 
def G_limit_Check_L4_ex : G_limit_Check_L4_R → Ex
  | .x0 _ => .ret
  | .x1  => .exit 2
def G_limit_Check_L4_st (v_l7 : (List S_limit_Box)) : G_limit_Check_L4_R → PS
  | .x0 v_x45 => ⟨[dd, dd, .d (.v (.int .i64 v_x45)), dd, dd, dd, dd, dd, dd, dd, dd, dd, dd, dd, dd, dd, dd, dd, dd, dd, dd, dd, dd, dd, dd, dd, dd, dd, dd, dd, dd, dd, dd, dd, dd, dd, dd, dd, dd, dd, dd, dd, dd, dd, dd, dd, dd, dd, dd, dd, dd, dd, dd, dd, dd, dd, dd, dd, dd, dd, dd], []⟩
  | .x1  => ⟨[dd, dd, dd, dd, dd, dd, dd, dd, dd, dd, dd, dd, dd, dd, dd, dd, dd, dd, dd, dd, dd, dd, dd, dd, dd, dd, dd, dd, dd, dd, dd, dd, dd, dd, dd, dd, dd, dd, dd, dd, dd, dd, dd, dd, dd, dd, dd, dd, dd, dd, dd, dd, dd, dd, dd, dd, dd, dd, dd, dd, dd], []⟩
def G_limit_Check_L4_hd (v_l7 : (List S_limit_Box)) (v_x31 : Int) : PS := ⟨[.d (.sl (v_l7.map eS_limit_Box)), dd, dd, dd, dd, dd, dd, dd, dd, dd, dd, dd, dd, dd, dd, dd, dd, dd, dd, dd, dd, dd, dd, dd, dd, dd, dd, dd, dd, dd, dd, dd, dd, dd, dd, dd, dd, dd, dd, dd, dd, dd, dd, dd, dd, dd, dd, .d (.v (.int .i64 (v_l7.length : Int))), .d (.v (.int .i64 v_x31)), dd, dd, dd, dd, dd, dd, dd, dd, dd, dd, dd, dd], []⟩
def G_limit_Check_L4 (n : Nat) (v_l7 : (List S_limit_Box)) : Nat → Int → Option G_limit_Check_L4_R
  | 0, _ => none
  | k + 1, v_x31 =>
    if v_x31 < (v_l7.length : Int) then
     (G_limit_kids n v_l7 v_x31).bind fun (v_r43 : (Int)) =>
     (getI v_l7 v_x31).bind fun (v_y44 : S_limit_Box) =>
     if v_r43 > v_y44.fHave then
      some (.x0 20)
     else
      G_limit_Check_L4 n v_l7 k (wi .i64 (v_x31 + 1))
    else
     some (.x1 )
theorem G_limit_Check_L4_ok {Fi : Ex → PS → Prop} (hF : KC 61 Fi) (ks : List Fr) (n : Nat) (v_l7 : (List S_limit_Box))  : ∀ (k : Nat) (v_x31 : Int) (o : G_limit_Check_L4_R), G_limit_Check_L4 n v_l7 k v_x31 = some o → RunE Try.prog 61 Fi ks (G_limit_Check_L4_ex o) (G_limit_Check_L4_st v_l7 o) → RunE Try.prog 61 Fi (.l k (cP (cB (cR (cL (cR (cR (cR (bodyOf Try.f72)))))))) :: ks) .normal (G_limit_Check_L4_hd v_l7 v_x31)
  | 0, v_x31, o, h, q => by rw [G_limit_Check_L4] at h; cases h
  | k + 1, v_x31, o, h, q => by
    rw [G_limit_Check_L4] at h
    by_cases h29 : v_x31 < (v_l7.length : Int)
    · rw [if_pos h29] at h
      obtain ⟨v_r43, h41, h⟩ := bind_some h
      obtain ⟨v_y44, h42, h⟩ := bind_some h
      by_cases h43 : v_r43 > v_y44.fHave
      · rw [if_pos h43] at h
        cases h
        exact pkk_sound TTok mix hF 19 (hs := [.t true, .r ((eI .i64) v_r43), .y (eS_limit_Box v_y44), .c, .t true]) (ts := []) (s := []) (l := [2]) (by kernel_rfl) (by kernel_rfl) (.cons (dt h29) (.cons (G_limit_kids_ok n v_l7 v_x31 _ h41) (.cons (getI_ob (f := eS_limit_Box) h42) (.cons (dt h43) .nil)))) q
      · rw [if_neg h43] at h
        exact pkk_sound TTok mix hF 16 (hs := [.t true, .r ((eI .i64) v_r43), .y (eS_limit_Box v_y44), .c, .t false]) (ts := []) (s := []) (l := [0, 47, 48]) (by kernel_rfl) (by kernel_rfl) (.cons (dt h29) (.cons (G_limit_kids_ok n v_l7 v_x31 _ h41) (.cons (getI_ob (f := eS_limit_Box) h42) (.cons (df h43) .nil)))) (G_limit_Check_L4_ok hF ks n v_l7 k (wi .i64 (v_x31 + 1)) _ h q)
    · rw [if_neg h29] at h
      cases h
      exact pkk_sound TTok mix hF 8 (hs := [.t false]) (ts := []) (s := []) (l := []) (by kernel_rfl) (by kernel_rfl) (.cons (df h29) .nil) q
/- ringhall/limit.Check -/
def G_limit_Check (n : Nat) (v_l7 : (List S_limit_Box)) : Option (Int) :=
  if (v_l7.length : Int) > 12 then
   some 2
  else
   (G_limit_Check_L3 n v_l7 n 0).bind fun v_o29 => match v_o29 with
   | .x0 v_z30 =>
     some v_z30
   | .x1  =>
     (G_limit_Check_L4 n v_l7 n 0).bind fun v_o46 => match v_o46 with
     | .x0 v_z47 =>
       some v_z47
     | .x1  =>
       some 0
theorem G_limit_Check_ok (n : Nat) (v_l7 : (List S_limit_Box)) (r : Int) (h : G_limit_Check n v_l7 = some r) : Ret Try.prog 72 [(eL eS_limit_Box) v_l7] ((eI .i64) r) := by
  refine ret_run (n := 61) (fn := Try.f72) (c := bodyOf Try.f72) (by kernel_rfl) (by kernel_rfl) (by kernel_rfl) (by kernel_rfl) ?_
  have hF : KC 61 (FinR Try.prog Try.f72 ((eI .i64) r)) := FinR.kc' (by kernel_rfl)
  unfold G_limit_Check at h
  by_cases h1 : (v_l7.length : Int) > 12
  · rw [if_pos h1] at h
    obtain rfl := Option.some.inj h
    exact pend_sound TTok mix 10 (hs := [.u (.d (.v (.int .i64 (v_l7.length : Int)))), .t true]) (by kernel_rfl) (by kernel_rfl) (by kernel_rfl) (.cons (len_ob (f := eS_limit_Box) (l := v_l7)) (.cons (dt h1) .nil))
  · rw [if_neg h1] at h
    obtain ⟨v_o29, h28, h⟩ := bind_some h
    refine pkk_sound TTok mix hF 12 (hs := [.u (.d (.v (.int .i64 (v_l7.length : Int)))), .t false, .u (.d (.v (.int .i64 (v_l7.length : Int)))), .n n]) (ts := []) (s := []) (l := [0, 9, 10, 11]) (by kernel_rfl) (by kernel_rfl) (.cons (len_ob (f := eS_limit_Box) (l := v_l7)) (.cons (df h1) (.cons (len_ob (f := eS_limit_Box) (l := v_l7)) .nil))) (G_limit_Check_L3_ok hF (.b 0 :: .s (cR (cR (cR (bodyOf Try.f72)))) :: []) n v_l7 n 0 _ h28 ?_)
    cases v_o29 with
    | x0 v_z30 =>
      dsimp only at h
      obtain rfl := Option.some.inj h
      exact pend_sound TTok mix 2 (hs := []) (by kernel_rfl) (by kernel_rfl) (by kernel_rfl) .nil
    | x1  =>
      dsimp only at h
      obtain ⟨v_o46, h44, h⟩ := bind_some h
      refine pkk_sound TTok mix hF 6 (hs := [.u (.d (.v (.int .i64 (v_l7.length : Int)))), .n n]) (ts := []) (s := []) (l := [0, 47, 48]) (by kernel_rfl) (by kernel_rfl) (.cons (len_ob (f := eS_limit_Box) (l := v_l7)) .nil) (G_limit_Check_L4_ok hF (.b 2 :: .s (cR (cR (cR (cR (bodyOf Try.f72))))) :: []) n v_l7 n 0 _ h44 ?_)
      cases v_o46 with
      | x0 v_z47 =>
        dsimp only at h
        obtain rfl := Option.some.inj h
        exact pend_sound TTok mix 2 (hs := []) (by kernel_rfl) (by kernel_rfl) (by kernel_rfl) .nil
      | x1  =>
        dsimp only at h
        obtain rfl := Option.some.inj h
        exact pend_sound TTok mix 4 (hs := []) (by kernel_rfl) (by kernel_rfl) (by kernel_rfl) .nil
/- slices.Clone[[]ringhall/limit.Box,ringhall/limit.Box] -/
def G_slices_Clone_limit_Box_limit_Box_A (n : Nat) (v_c55 : Nat) : Option ((List S_limit_Box)) :=
  some ([] : List S_limit_Box)
theorem G_slices_Clone_limit_Box_limit_Box_A_ok (n : Nat) (v_c55 : Nat) (r : (List S_limit_Box)) (h : G_slices_Clone_limit_Box_limit_Box_A n v_c55 = some r) : RetH Try.prog 73 [.d (.v (.slice none 0 v_c55))] [] (.srf 0) [.row 122 3 (r.map eS_limit_Box)] := by
  refine retH_run (n := 8) (fn := Try.f73) (c := bodyOf Try.f73) (by kernel_rfl) (by kernel_rfl) (by kernel_rfl) (by kernel_rfl) ?_
  have hF : KC 8 (FinH Try.prog Try.f73 [] (.srf 0) [.row 122 3 (r.map eS_limit_Box)]) := FinH.kc' (by kernel_rfl)
  unfold G_slices_Clone_limit_Box_limit_Box_A at h
  obtain rfl := Option.some.inj h
  exact pendH_sound TTok mix 11 (hs := [.c, .dl 4, .th 2 122 3]) [12] (by kernel_rfl) (by kernel_rfl) (by kernel_rfl) .nil
/- slices.Clone[[]ringhall/limit.Box,ringhall/limit.Box] -/
def G_slices_Clone_limit_Box_limit_Box_B (n : Nat) (v_a56 : Addr) (v_c57 : Nat) : Option ((List S_limit_Box)) :=
  (app 24 ([] : List S_limit_Box) ([] : (List S_limit_Box))).bind fun (v_a58 : (List S_limit_Box)) =>
  some v_a58
theorem G_slices_Clone_limit_Box_limit_Box_B_ok (n : Nat) (v_a56 : Addr) (v_c57 : Nat) (r : (List S_limit_Box)) (h : G_slices_Clone_limit_Box_limit_Box_B n v_a56 v_c57 = some r) : RetH Try.prog 73 [.d (.v (.slice (some v_a56) 0 v_c57))] [] (.srf 0) [.row 122 3 (r.map eS_limit_Box)] := by
  refine retH_run (n := 8) (fn := Try.f73) (c := bodyOf Try.f73) (by kernel_rfl) (by kernel_rfl) (by kernel_rfl) (by kernel_rfl) ?_
  have hF : KC 8 (FinH Try.prog Try.f73 [] (.srf 0) [.row 122 3 (r.map eS_limit_Box)]) := FinH.kc' (by kernel_rfl)
  unfold G_slices_Clone_limit_Box_limit_Box_B at h
  obtain ⟨v_a58, h56, h⟩ := bind_some h
  obtain rfl := Option.some.inj h
  exact pendH_sound TTok mix 10 (hs := [.c, .w (([] : List S_limit_Box).map eS_limit_Box), .w (v_a58.map eS_limit_Box)]) [15] (by kernel_rfl) (by kernel_rfl) (by kernel_rfl) (.cons (Eq.refl (([] : List S_limit_Box).map eS_limit_Box)) (.cons (app_ob (f := eS_limit_Box) (s := 3) h56 (fun _ => rfl)).1 (.cons (app_ob (f := eS_limit_Box) (s := 3) h56 (fun _ => rfl)).2.1 (.cons (app_ob (f := eS_limit_Box) (s := 3) h56 (fun _ => rfl)).2.2.1 (.cons (app_ob (f := eS_limit_Box) (s := 3) h56 (fun _ => rfl)).2.2.2 .nil)))))
/- slices.Clone[[]ringhall/limit.Box,ringhall/limit.Box] -/
def G_slices_Clone_limit_Box_limit_Box_C (n : Nat) (v_y59 : S_limit_Box) (v_ys60 : (List S_limit_Box)) : Option ((List S_limit_Box)) :=
  (app 24 ([] : List S_limit_Box) (v_y59 :: v_ys60)).bind fun (v_a61 : (List S_limit_Box)) =>
  some v_a61
theorem G_slices_Clone_limit_Box_limit_Box_C_ok (n : Nat) (v_y59 : S_limit_Box) (v_ys60 : (List S_limit_Box)) (r : (List S_limit_Box)) (h : G_slices_Clone_limit_Box_limit_Box_C n v_y59 v_ys60 = some r) : RetH Try.prog 73 [.d (.sl (eS_limit_Box v_y59 :: v_ys60.map eS_limit_Box))] [] (.srf 0) [.row 122 3 (r.map eS_limit_Box)] := by
  refine retH_run (n := 8) (fn := Try.f73) (c := bodyOf Try.f73) (by kernel_rfl) (by kernel_rfl) (by kernel_rfl) (by kernel_rfl) ?_
  have hF : KC 8 (FinH Try.prog Try.f73 [] (.srf 0) [.row 122 3 (r.map eS_limit_Box)]) := FinH.kc' (by kernel_rfl)
  unfold G_slices_Clone_limit_Box_limit_Box_C at h
  obtain ⟨v_a61, h57, h⟩ := bind_some h
  obtain rfl := Option.some.inj h
  exact pendH_sound TTok mix 10 (hs := [.c, .w (([] : List S_limit_Box).map eS_limit_Box), .w (v_a61.map eS_limit_Box)]) [15] (by kernel_rfl) (by kernel_rfl) (by kernel_rfl) (.cons (Eq.refl (([] : List S_limit_Box).map eS_limit_Box)) (.cons (app_ob (f := eS_limit_Box) (s := 3) h57 (fun _ => rfl)).1 (.cons (app_ob (f := eS_limit_Box) (s := 3) h57 (fun _ => rfl)).2.1 (.cons (app_ob (f := eS_limit_Box) (s := 3) h57 (fun _ => rfl)).2.2.1 (.cons (app_ob (f := eS_limit_Box) (s := 3) h57 (fun _ => rfl)).2.2.2 .nil)))))
def G_slices_Clone_limit_Box_limit_Box (n : Nat) (xs : (List S_limit_Box)) : Option (List S_limit_Box) := app 24 [] xs
theorem G_slices_Clone_limit_Box_limit_Box_ok (n : Nat) (xs : (List S_limit_Box)) (r : (List S_limit_Box)) (h : G_slices_Clone_limit_Box_limit_Box n xs = some r) : RetH Try.prog 73 [.d (.sl (xs.map eS_limit_Box))] [] (.srf 0) [.row 122 3 (r.map eS_limit_Box)] := by
  unfold G_slices_Clone_limit_Box_limit_Box at h
  have e : app 24 ([] : (List S_limit_Box)) [] = some [] := by simp [app]
  cases xs with
  | nil =>
    rw [e] at h; obtain rfl := Option.some.inj h
    exact clone_nil (fun c => G_slices_Clone_limit_Box_limit_Box_A_ok n c _ (by unfold G_slices_Clone_limit_Box_limit_Box_A; rfl)) (fun a c => G_slices_Clone_limit_Box_limit_Box_B_ok n a c _ (by unfold G_slices_Clone_limit_Box_limit_Box_B; rw [e]; rfl))
  | cons y ys => exact G_slices_Clone_limit_Box_limit_Box_C_ok n y ys _ (by unfold G_slices_Clone_limit_Box_limit_Box_C; rw [h]; rfl)
inductive G_limit_Take_C1_R where
  | x0 (v_x49 : Bool)
def G_limit_Take_C1_ex : G_limit_Take_C1_R → Ex
  | .x0 _ => .normal
def G_limit_Take_C1_st (v_l4 : (List S_limit_Box)) (v_k5 : Int) (v_n6 : Int) : G_limit_Take_C1_R → PS
  | .x0 v_x49 => ⟨[.d (.sl (v_l4.map eS_limit_Box)), .d (.v (.int .i64 v_k5)), .d (.v (.int .i64 v_n6)), dd, dd, dd, dd, dd, dd, dd, dd, dd, dd, dd, dd, dd, dd, dd, dd, dd, dd, dd, dd, dd, dd, dd, dd, dd, dd, dd, dd, .d (.v (.bool v_x49)), dd, dd, dd, dd, dd, dd, dd, dd, dd, dd, dd, dd, dd, dd, dd, dd, dd, dd, dd, dd, dd, dd, dd, dd, dd, dd, dd, dd, dd, dd, dd, dd, dd], []⟩
def G_limit_Take_C1_hd (v_l4 : (List S_limit_Box)) (v_k5 : Int) (v_n6 : Int)  : PS := ⟨[.d (.sl (v_l4.map eS_limit_Box)), .d (.v (.int .i64 v_k5)), .d (.v (.int .i64 v_n6)), dd, dd, dd, dd, dd, dd, dd, dd, dd, dd, dd, dd, dd, dd, dd, dd, dd, dd, dd, dd, dd, dd, dd, dd, dd, dd, dd, dd, dd, dd, dd, dd, dd, dd, dd, dd, dd, dd, dd, dd, dd, dd, dd, dd, dd, dd, dd, dd, dd, dd, dd, dd, dd, dd, dd, dd, dd, dd, dd, dd, dd, dd], []⟩
def G_limit_Take_C1 (n : Nat) (v_l4 : (List S_limit_Box)) (v_k5 : Int) (v_n6 : Int) : Option G_limit_Take_C1_R :=
  if v_k5 < 0 then
   some (.x0 true)
  else
   if v_k5 ≥ (v_l4.length : Int) then
    some (.x0 true)
   else
    if v_n6 < 0 then
     some (.x0 true)
    else
     some (.x0 (decide (v_n6 > 1000000)))
theorem G_limit_Take_C1_ok {Fi : Ex → PS → Prop} (hF : KC 65 Fi) (ks : List Fr) (n : Nat) (v_l4 : (List S_limit_Box)) (v_k5 : Int) (v_n6 : Int)  (o : G_limit_Take_C1_R) (h : G_limit_Take_C1 n v_l4 v_k5 v_n6 = some o) (q : RunE Try.prog 65 Fi ks (G_limit_Take_C1_ex o) (G_limit_Take_C1_st v_l4 v_k5 v_n6 o)) : RunE Try.prog 65 Fi (.s (cL (cL (cR (cR (bodyOf Try.f67))))) :: ks) .normal (G_limit_Take_C1_hd v_l4 v_k5 v_n6) := by
  unfold G_limit_Take_C1 at h
  by_cases h51 : v_k5 < 0
  · rw [if_pos h51] at h
    cases h
    exact pkk_sound TTok mix hF 1 (hs := [.t true, .c, .c, .c, .c, .c, .c, .c]) (ts := []) (s := []) (l := [0, 1, 2, 31]) (by kernel_rfl) (by kernel_rfl) (.cons (dt h51) .nil) q
  · rw [if_neg h51] at h
    by_cases h52 : v_k5 ≥ (v_l4.length : Int)
    · rw [if_pos h52] at h
      cases h
      exact pkk_sound TTok mix hF 1 (hs := [.t false, .c, .c, .u (.d (.v (.int .i64 (v_l4.length : Int)))), .c, .t true, .c, .c, .c]) (ts := []) (s := []) (l := [0, 1, 2, 31]) (by kernel_rfl) (by kernel_rfl) (.cons (df h51) (.cons (len_ob (f := eS_limit_Box) (l := v_l4)) (.cons (dt h52) .nil))) q
    · rw [if_neg h52] at h
      by_cases h53 : v_n6 < 0
      · rw [if_pos h53] at h
        cases h
        exact pkk_sound TTok mix hF 1 (hs := [.t false, .c, .c, .u (.d (.v (.int .i64 (v_l4.length : Int)))), .c, .t false, .c, .t true, .c]) (ts := []) (s := []) (l := [0, 1, 2, 31]) (by kernel_rfl) (by kernel_rfl) (.cons (df h51) (.cons (len_ob (f := eS_limit_Box) (l := v_l4)) (.cons (df h52) (.cons (dt h53) .nil)))) q
      · rw [if_neg h53] at h
        cases h
        exact pkk_sound TTok mix hF 1 (hs := [.t false, .c, .c, .u (.d (.v (.int .i64 (v_l4.length : Int)))), .c, .t false, .c, .t false, .c]) (ts := []) (s := []) (l := [0, 1, 2, 31]) (by kernel_rfl) (by kernel_rfl) (.cons (df h51) (.cons (len_ob (f := eS_limit_Box) (l := v_l4)) (.cons (df h52) (.cons (df h53) .nil)))) q
inductive G_limit_Take_L2_R where
  | x0 (v_x71 : Int)
  | x1 (v_w75 : (List S_limit_Box))
def G_limit_Take_L2_ex : G_limit_Take_L2_R → Ex
  | .x0 _ => .ret
  | .x1 _ => .exit 0
def G_limit_Take_L2_st (v_n6 : Int) : G_limit_Take_L2_R → PS
  | .x0 v_x71 => ⟨[dd, dd, dd, dd, dd, dd, .d (vnil), .d (.v (.int .i64 v_x71)), dd, dd, dd, dd, dd, dd, dd, dd, dd, dd, dd, dd, dd, dd, dd, dd, dd, dd, dd, dd, dd, dd, dd, dd, dd, dd, dd, dd, dd, dd, dd, dd, dd, dd, dd, dd, dd, dd, dd, dd, dd, dd, dd, dd, dd, dd, dd, dd, dd, dd, dd, dd, dd, dd, dd, dd, dd], []⟩
  | .x1 v_w75 => ⟨[dd, dd, dd, dd, dd, dd, dd, dd, dd, .srf 0, dd, dd, dd, dd, dd, dd, dd, dd, dd, dd, dd, dd, dd, dd, dd, dd, dd, dd, dd, dd, dd, dd, dd, dd, dd, dd, dd, dd, dd, dd, dd, dd, dd, dd, dd, dd, dd, dd, dd, dd, dd, dd, dd, dd, dd, dd, dd, dd, dd, dd, dd, dd, dd, dd, dd], [.row 122 3 (v_w75.map eS_limit_Box)]⟩
def G_limit_Take_L2_hd (v_n6 : Int) (v_at63 : Int) (v_w64 : (List S_limit_Box)) : PS := ⟨[dd, dd, .d (.v (.int .i64 v_n6)), dd, dd, dd, dd, dd, dd, .srf 0, .d (.v (.int .i64 v_at63)), dd, dd, dd, dd, dd, dd, dd, dd, dd, dd, dd, dd, dd, dd, dd, dd, dd, dd, dd, dd, dd, dd, dd, dd, dd, dd, dd, dd, dd, dd, dd, dd, dd, dd, dd, dd, dd, dd, dd, dd, dd, dd, dd, dd, dd, dd, dd, dd, dd, dd, dd, dd, dd, dd], [.row 122 3 (v_w64.map eS_limit_Box)]⟩
def G_limit_Take_L2 (n : Nat) (v_n6 : Int) : Nat → Int → (List S_limit_Box) → Option G_limit_Take_L2_R
  | 0, _, _ => none
  | k + 1, v_at63, v_w64 =>
    if v_at63 ≥ 0 then
     if 0 ≤ v_at63 ∧ (v_at63).toNat < v_w64.length then
      (v_w64[(v_at63).toNat]?).bind fun (v_y69 : S_limit_Box) =>
      if 0 ≤ v_at63 ∧ (v_at63).toNat < v_w64.length then
       (v_w64[(v_at63).toNat]?).bind fun (v_y70 : S_limit_Box) =>
       if (wi .i64 (v_y69.fHave + v_n6)) > v_y70.fMost then
        some (.x0 16)
       else
        if 0 ≤ v_at63 ∧ (v_at63).toNat < v_w64.length then
         (v_w64[(v_at63).toNat]?).bind fun (v_y72 : S_limit_Box) =>
         if 0 ≤ v_at63 ∧ (v_at63).toNat < v_w64.length then
          (v_w64[(v_at63).toNat]?).bind fun (v_y73 : S_limit_Box) =>
          if 0 ≤ v_at63 ∧ (v_at63).toNat < (v_w64.set (v_at63).toNat (S_limit_Box.mk v_y73.fUp (wi .i64 (v_y72.fHave + v_n6)) v_y73.fMost)).length then
           ((v_w64.set (v_at63).toNat (S_limit_Box.mk v_y73.fUp (wi .i64 (v_y72.fHave + v_n6)) v_y73.fMost))[(v_at63).toNat]?).bind fun (v_y74 : S_limit_Box) =>
           G_limit_Take_L2 n v_n6 k v_y74.fUp (v_w64.set (v_at63).toNat (S_limit_Box.mk v_y73.fUp (wi .i64 (v_y72.fHave + v_n6)) v_y73.fMost))
          else none
         else none
        else none
      else none
     else none
    else
     some (.x1 v_w64)
theorem G_limit_Take_L2_ok {Fi : Ex → PS → Prop} (hF : KC 65 Fi) (ks : List Fr) (n : Nat) (v_n6 : Int)  : ∀ (k : Nat) (v_at63 : Int) (v_w64 : (List S_limit_Box)) (o : G_limit_Take_L2_R), G_limit_Take_L2 n v_n6 k v_at63 v_w64 = some o → RunE Try.prog 65 Fi ks (G_limit_Take_L2_ex o) (G_limit_Take_L2_st v_n6 o) → RunE Try.prog 65 Fi (.l k (cP (cB (cR (cL (cR (cR (cR (cR (bodyOf Try.f67))))))))) :: ks) .normal (G_limit_Take_L2_hd v_n6 v_at63 v_w64)
  | 0, v_at63, v_w64, o, h, q => by rw [G_limit_Take_L2] at h; cases h
  | k + 1, v_at63, v_w64, o, h, q => by
    rw [G_limit_Take_L2] at h
    by_cases h59 : v_at63 ≥ 0
    · rw [if_pos h59] at h
      by_cases h69 : 0 ≤ v_at63 ∧ (v_at63).toNat < v_w64.length
      · rw [if_pos h69] at h
        obtain ⟨v_y69, h70, h⟩ := bind_some h
        by_cases h71 : 0 ≤ v_at63 ∧ (v_at63).toNat < v_w64.length
        · rw [if_pos h71] at h
          obtain ⟨v_y70, h72, h⟩ := bind_some h
          by_cases h73 : (wi .i64 (v_y69.fHave + v_n6)) > v_y70.fMost
          · rw [if_pos h73] at h
            cases h
            exact pkk_sound TTok mix hF 19 (hs := [.t true, .y (eS_limit_Box v_y69), .y (eS_limit_Box v_y70), .t true]) (ts := []) (s := []) (l := [6, 7]) (by kernel_rfl) (by kernel_rfl) (.cons (dt h59) (.cons (idx_ob (f := eS_limit_Box) h69) (.cons (get_ob (f := eS_limit_Box) h70) (.cons (idx_ob (f := eS_limit_Box) h71) (.cons (get_ob (f := eS_limit_Box) h72) (.cons (dt h73) .nil)))))) q
          · rw [if_neg h73] at h
            by_cases h74 : 0 ≤ v_at63 ∧ (v_at63).toNat < v_w64.length
            · rw [if_pos h74] at h
              obtain ⟨v_y72, h75, h⟩ := bind_some h
              by_cases h76 : 0 ≤ v_at63 ∧ (v_at63).toNat < v_w64.length
              · rw [if_pos h76] at h
                obtain ⟨v_y73, h77, h⟩ := bind_some h
                by_cases h78 : 0 ≤ v_at63 ∧ (v_at63).toNat < (v_w64.set (v_at63).toNat (S_limit_Box.mk v_y73.fUp (wi .i64 (v_y72.fHave + v_n6)) v_y73.fMost)).length
                · rw [if_pos h78] at h
                  obtain ⟨v_y74, h79, h⟩ := bind_some h
                  exact pkk_sound TTok mix hF 16 (hs := [.t true, .y (eS_limit_Box v_y69), .y (eS_limit_Box v_y70), .t false, .y (eS_limit_Box v_y72), .w ((v_w64.set (v_at63).toNat (S_limit_Box.mk v_y73.fUp (wi .i64 (v_y72.fHave + v_n6)) v_y73.fMost)).map eS_limit_Box), .y (eS_limit_Box v_y73), .y (eS_limit_Box v_y74)]) (ts := []) (s := [0]) (l := [2, 9, 10]) (by kernel_rfl) (by kernel_rfl) (.cons (dt h59) (.cons (idx_ob (f := eS_limit_Box) h69) (.cons (get_ob (f := eS_limit_Box) h70) (.cons (idx_ob (f := eS_limit_Box) h71) (.cons (get_ob (f := eS_limit_Box) h72) (.cons (df h73) (.cons (idx_ob (f := eS_limit_Box) h74) (.cons (get_ob (f := eS_limit_Box) h75) (.cons (idx_ob (f := eS_limit_Box) h76) (.cons (get_ob (f := eS_limit_Box) h77) (.cons (Eq.refl (pcells (.agg [.v (.int .i64 v_y73.fUp), .v (.int .i64 (wi .i64 (v_y72.fHave + v_n6))), .v (.int .i64 v_y73.fMost)]))) (.cons (set_ob (f := eS_limit_Box) (l := v_w64) (k := (v_at63).toNat) (z := (S_limit_Box.mk v_y73.fUp (wi .i64 (v_y72.fHave + v_n6)) v_y73.fMost)) (p := .agg [.v (.int .i64 v_y73.fUp), .v (.int .i64 (wi .i64 (v_y72.fHave + v_n6))), .v (.int .i64 v_y73.fMost)]) rfl) (.cons (idx_ob (f := eS_limit_Box) h78) (.cons (get_ob (f := eS_limit_Box) h79) .nil)))))))))))))) (G_limit_Take_L2_ok hF ks n v_n6 k v_y74.fUp (v_w64.set (v_at63).toNat (S_limit_Box.mk v_y73.fUp (wi .i64 (v_y72.fHave + v_n6)) v_y73.fMost)) _ h q)
                · rw [if_neg h78] at h; cases h
              · rw [if_neg h76] at h; cases h
            · rw [if_neg h74] at h; cases h
        · rw [if_neg h71] at h; cases h
      · rw [if_neg h69] at h; cases h
    · rw [if_neg h59] at h
      cases h
      exact pkk_sound TTok mix hF 8 (hs := [.t false]) (ts := []) (s := [0]) (l := [9]) (by kernel_rfl) (by kernel_rfl) (.cons (df h59) .nil) q
/- ringhall/limit.Take -/
def G_limit_Take (n : Nat) (v_l4 : (List S_limit_Box)) (v_k5 : Int) (v_n6 : Int) : Option ((List S_limit_Box) × Int) :=
  (G_limit_Check n v_l4).bind fun (v_r48 : (Int)) =>
  if v_r48 = 0 then
   (G_limit_Take_C1 n v_l4 v_k5 v_n6).bind fun v_o53 => match v_o53 with
   | .x0 v_z54 =>
     if v_z54 = true then
      some (([] : (List S_limit_Box)), 1)
     else
      (G_slices_Clone_limit_Box_limit_Box n v_l4).bind fun (v_r62 : ((List S_limit_Box))) =>
      (G_limit_Take_L2 n v_n6 n v_k5 v_r62).bind fun v_o76 => match v_o76 with
      | .x0 v_z77 =>
        some (([] : (List S_limit_Box)), v_z77)
      | .x1 v_z78 =>
        some (v_z78, 0)
  else
   some (([] : (List S_limit_Box)), v_r48)
theorem G_limit_Take_ok (n : Nat) (v_l4 : (List S_limit_Box)) (v_k5 : Int) (v_n6 : Int) (r : (List S_limit_Box) × Int) (h : G_limit_Take n v_l4 v_k5 v_n6 = some r) : Ret Try.prog 67 [(eL eS_limit_Box) v_l4, (eI .i64) v_k5, (eI .i64) v_n6] (.tup [(eL eS_limit_Box) r.1, (eI .i64) r.2]) := by
  refine ret_run (n := 65) (fn := Try.f67) (c := bodyOf Try.f67) (by kernel_rfl) (by kernel_rfl) (by kernel_rfl) (by kernel_rfl) ?_
  have hF : KC 65 (FinR Try.prog Try.f67 (.tup [(eL eS_limit_Box) r.1, (eI .i64) r.2])) := FinR.kc' (by kernel_rfl)
  unfold G_limit_Take at h
  obtain ⟨v_r48, h45, h⟩ := bind_some h
  by_cases h47 : v_r48 = 0
  · rw [if_pos h47] at h
    obtain ⟨v_o53, h54, h⟩ := bind_some h
    refine pkk_sound TTok mix hF 11 (hs := [.r ((eI .i64) v_r48), .t false]) (ts := []) (s := []) (l := [0, 1, 2]) (by kernel_rfl) (by kernel_rfl) (.cons (G_limit_Check_ok n v_l4 _ h45) (.cons (nf h47) .nil)) (G_limit_Take_C1_ok hF (.s (cR (cL (cR (cR (bodyOf Try.f67))))) :: .s (cR (cR (cR (bodyOf Try.f67)))) :: []) n v_l4 v_k5 v_n6 _ h54 ?_)
    cases v_o53 with
    | x0 v_z54 =>
      dsimp only at h
      by_cases h55 : v_z54 = true
      · rw [if_pos h55] at h
        obtain rfl := Option.some.inj h
        exact pend_sound TTok mix 5 (hs := [.t true]) (by kernel_rfl) (by kernel_rfl) (by kernel_rfl) (.cons h55 .nil)
      · rw [if_neg h55] at h
        obtain ⟨v_r62, h58, h⟩ := bind_some h
        obtain ⟨v_o76, h80, h⟩ := bind_some h
        refine pkk_sound TTok mix hF 9 (hs := [.t false, .h [] [] [.row 122 3 (v_r62.map eS_limit_Box)] (.srf 0), .n n]) (ts := []) (s := [3]) (l := [2, 9, 10]) (by kernel_rfl) (by kernel_rfl) (.cons (vf h55) (.cons (G_slices_Clone_limit_Box_limit_Box_ok n v_l4 _ h58) .nil)) (G_limit_Take_L2_ok hF (.b 0 :: .s (cR (cR (cR (cR (cR (bodyOf Try.f67)))))) :: []) n v_n6 n v_k5 v_r62 _ h80 ?_)
        cases v_o76 with
        | x0 v_z77 =>
          dsimp only at h
          obtain rfl := Option.some.inj h
          exact pend_sound TTok mix 2 (hs := []) (by kernel_rfl) (by kernel_rfl) (by kernel_rfl) .nil
        | x1 v_z78 =>
          dsimp only at h
          obtain rfl := Option.some.inj h
          exact pend_sound TTok mix 4 (hs := []) (by kernel_rfl) (by kernel_rfl) (by kernel_rfl) .nil
  · rw [if_neg h47] at h
    obtain rfl := Option.some.inj h
    exact pend_sound TTok mix 12 (hs := [.r ((eI .i64) v_r48), .t true]) (by kernel_rfl) (by kernel_rfl) (by kernel_rfl) (.cons (G_limit_Check_ok n v_l4 _ h45) (.cons (nt h47) .nil))
inductive G_limit_Give_C1_R where
  | x0 (v_x84 : Bool)
def G_limit_Give_C1_ex : G_limit_Give_C1_R → Ex
  | .x0 _ => .normal
def G_limit_Give_C1_st (v_l80 : (List S_limit_Box)) (v_k81 : Int) (v_n82 : Int) : G_limit_Give_C1_R → PS
  | .x0 v_x84 => ⟨[.d (.sl (v_l80.map eS_limit_Box)), .d (.v (.int .i64 v_k81)), .d (.v (.int .i64 v_n82)), dd, dd, dd, dd, dd, dd, dd, dd, dd, dd, dd, dd, dd, dd, dd, dd, dd, dd, dd, dd, dd, dd, dd, dd, dd, dd, dd, dd, .d (.v (.bool v_x84)), dd, dd, dd, dd, dd, dd, dd, dd, dd, dd, dd, dd, dd, dd, dd, dd, dd, dd, dd, dd, dd, dd, dd, dd, dd, dd, dd, dd, dd, dd, dd], []⟩
def G_limit_Give_C1_hd (v_l80 : (List S_limit_Box)) (v_k81 : Int) (v_n82 : Int)  : PS := ⟨[.d (.sl (v_l80.map eS_limit_Box)), .d (.v (.int .i64 v_k81)), .d (.v (.int .i64 v_n82)), dd, dd, dd, dd, dd, dd, dd, dd, dd, dd, dd, dd, dd, dd, dd, dd, dd, dd, dd, dd, dd, dd, dd, dd, dd, dd, dd, dd, dd, dd, dd, dd, dd, dd, dd, dd, dd, dd, dd, dd, dd, dd, dd, dd, dd, dd, dd, dd, dd, dd, dd, dd, dd, dd, dd, dd, dd, dd, dd, dd], []⟩
def G_limit_Give_C1 (n : Nat) (v_l80 : (List S_limit_Box)) (v_k81 : Int) (v_n82 : Int) : Option G_limit_Give_C1_R :=
  if v_k81 < 0 then
   some (.x0 true)
  else
   if v_k81 ≥ (v_l80.length : Int) then
    some (.x0 true)
   else
    if v_n82 < 0 then
     some (.x0 true)
    else
     some (.x0 (decide (v_n82 > 1000000)))
theorem G_limit_Give_C1_ok {Fi : Ex → PS → Prop} (hF : KC 63 Fi) (ks : List Fr) (n : Nat) (v_l80 : (List S_limit_Box)) (v_k81 : Int) (v_n82 : Int)  (o : G_limit_Give_C1_R) (h : G_limit_Give_C1 n v_l80 v_k81 v_n82 = some o) (q : RunE Try.prog 63 Fi ks (G_limit_Give_C1_ex o) (G_limit_Give_C1_st v_l80 v_k81 v_n82 o)) : RunE Try.prog 63 Fi (.s (cL (cL (cR (cR (bodyOf Try.f68))))) :: ks) .normal (G_limit_Give_C1_hd v_l80 v_k81 v_n82) := by
  unfold G_limit_Give_C1 at h
  by_cases h88 : v_k81 < 0
  · rw [if_pos h88] at h
    cases h
    exact pkk_sound TTok mix hF 1 (hs := [.t true, .c, .c, .c, .c, .c, .c, .c]) (ts := []) (s := []) (l := [0, 1, 2, 31]) (by kernel_rfl) (by kernel_rfl) (.cons (dt h88) .nil) q
  · rw [if_neg h88] at h
    by_cases h89 : v_k81 ≥ (v_l80.length : Int)
    · rw [if_pos h89] at h
      cases h
      exact pkk_sound TTok mix hF 1 (hs := [.t false, .c, .c, .u (.d (.v (.int .i64 (v_l80.length : Int)))), .c, .t true, .c, .c, .c]) (ts := []) (s := []) (l := [0, 1, 2, 31]) (by kernel_rfl) (by kernel_rfl) (.cons (df h88) (.cons (len_ob (f := eS_limit_Box) (l := v_l80)) (.cons (dt h89) .nil))) q
    · rw [if_neg h89] at h
      by_cases h90 : v_n82 < 0
      · rw [if_pos h90] at h
        cases h
        exact pkk_sound TTok mix hF 1 (hs := [.t false, .c, .c, .u (.d (.v (.int .i64 (v_l80.length : Int)))), .c, .t false, .c, .t true, .c]) (ts := []) (s := []) (l := [0, 1, 2, 31]) (by kernel_rfl) (by kernel_rfl) (.cons (df h88) (.cons (len_ob (f := eS_limit_Box) (l := v_l80)) (.cons (df h89) (.cons (dt h90) .nil)))) q
      · rw [if_neg h90] at h
        cases h
        exact pkk_sound TTok mix hF 1 (hs := [.t false, .c, .c, .u (.d (.v (.int .i64 (v_l80.length : Int)))), .c, .t false, .c, .t false, .c]) (ts := []) (s := []) (l := [0, 1, 2, 31]) (by kernel_rfl) (by kernel_rfl) (.cons (df h88) (.cons (len_ob (f := eS_limit_Box) (l := v_l80)) (.cons (df h89) (.cons (df h90) .nil)))) q
inductive G_limit_Give_L2_R where
  | x0 (v_w100 : (List S_limit_Box))
def G_limit_Give_L2_ex : G_limit_Give_L2_R → Ex
  | .x0 _ => .exit 0
def G_limit_Give_L2_st (v_n82 : Int) : G_limit_Give_L2_R → PS
  | .x0 v_w100 => ⟨[dd, dd, dd, dd, dd, dd, dd, dd, dd, .srf 0, dd, dd, dd, dd, dd, dd, dd, dd, dd, dd, dd, dd, dd, dd, dd, dd, dd, dd, dd, dd, dd, dd, dd, dd, dd, dd, dd, dd, dd, dd, dd, dd, dd, dd, dd, dd, dd, dd, dd, dd, dd, dd, dd, dd, dd, dd, dd, dd, dd, dd, dd, dd, dd], [.row 122 3 (v_w100.map eS_limit_Box)]⟩
def G_limit_Give_L2_hd (v_n82 : Int) (v_at93 : Int) (v_w94 : (List S_limit_Box)) : PS := ⟨[dd, dd, .d (.v (.int .i64 v_n82)), dd, dd, dd, dd, dd, dd, .srf 0, .d (.v (.int .i64 v_at93)), dd, dd, dd, dd, dd, dd, dd, dd, dd, dd, dd, dd, dd, dd, dd, dd, dd, dd, dd, dd, dd, dd, dd, dd, dd, dd, dd, dd, dd, dd, dd, dd, dd, dd, dd, dd, dd, dd, dd, dd, dd, dd, dd, dd, dd, dd, dd, dd, dd, dd, dd, dd], [.row 122 3 (v_w94.map eS_limit_Box)]⟩
def G_limit_Give_L2 (n : Nat) (v_n82 : Int) : Nat → Int → (List S_limit_Box) → Option G_limit_Give_L2_R
  | 0, _, _ => none
  | k + 1, v_at93, v_w94 =>
    if v_at93 ≥ 0 then
     if 0 ≤ v_at93 ∧ (v_at93).toNat < v_w94.length then
      (v_w94[(v_at93).toNat]?).bind fun (v_y97 : S_limit_Box) =>
      if 0 ≤ v_at93 ∧ (v_at93).toNat < v_w94.length then
       (v_w94[(v_at93).toNat]?).bind fun (v_y98 : S_limit_Box) =>
       if 0 ≤ v_at93 ∧ (v_at93).toNat < (v_w94.set (v_at93).toNat (S_limit_Box.mk v_y98.fUp (wi .i64 (v_y97.fHave - v_n82)) v_y98.fMost)).length then
        ((v_w94.set (v_at93).toNat (S_limit_Box.mk v_y98.fUp (wi .i64 (v_y97.fHave - v_n82)) v_y98.fMost))[(v_at93).toNat]?).bind fun (v_y99 : S_limit_Box) =>
        G_limit_Give_L2 n v_n82 k v_y99.fUp (v_w94.set (v_at93).toNat (S_limit_Box.mk v_y98.fUp (wi .i64 (v_y97.fHave - v_n82)) v_y98.fMost))
       else none
      else none
     else none
    else
     some (.x0 v_w94)
theorem G_limit_Give_L2_ok {Fi : Ex → PS → Prop} (hF : KC 63 Fi) (ks : List Fr) (n : Nat) (v_n82 : Int)  : ∀ (k : Nat) (v_at93 : Int) (v_w94 : (List S_limit_Box)) (o : G_limit_Give_L2_R), G_limit_Give_L2 n v_n82 k v_at93 v_w94 = some o → RunE Try.prog 63 Fi ks (G_limit_Give_L2_ex o) (G_limit_Give_L2_st v_n82 o) → RunE Try.prog 63 Fi (.l k (cP (cB (cR (cL (cR (cR (cR (cR (cR (bodyOf Try.f68)))))))))) :: ks) .normal (G_limit_Give_L2_hd v_n82 v_at93 v_w94)
  | 0, v_at93, v_w94, o, h, q => by rw [G_limit_Give_L2] at h; cases h
  | k + 1, v_at93, v_w94, o, h, q => by
    rw [G_limit_Give_L2] at h
    by_cases h97 : v_at93 ≥ 0
    · rw [if_pos h97] at h
      by_cases h102 : 0 ≤ v_at93 ∧ (v_at93).toNat < v_w94.length
      · rw [if_pos h102] at h
        obtain ⟨v_y97, h103, h⟩ := bind_some h
        by_cases h104 : 0 ≤ v_at93 ∧ (v_at93).toNat < v_w94.length
        · rw [if_pos h104] at h
          obtain ⟨v_y98, h105, h⟩ := bind_some h
          by_cases h106 : 0 ≤ v_at93 ∧ (v_at93).toNat < (v_w94.set (v_at93).toNat (S_limit_Box.mk v_y98.fUp (wi .i64 (v_y97.fHave - v_n82)) v_y98.fMost)).length
          · rw [if_pos h106] at h
            obtain ⟨v_y99, h107, h⟩ := bind_some h
            exact pkk_sound TTok mix hF 11 (hs := [.t true, .y (eS_limit_Box v_y97), .w ((v_w94.set (v_at93).toNat (S_limit_Box.mk v_y98.fUp (wi .i64 (v_y97.fHave - v_n82)) v_y98.fMost)).map eS_limit_Box), .y (eS_limit_Box v_y98), .y (eS_limit_Box v_y99)]) (ts := []) (s := [0]) (l := [2, 9, 10]) (by kernel_rfl) (by kernel_rfl) (.cons (dt h97) (.cons (idx_ob (f := eS_limit_Box) h102) (.cons (get_ob (f := eS_limit_Box) h103) (.cons (idx_ob (f := eS_limit_Box) h104) (.cons (get_ob (f := eS_limit_Box) h105) (.cons (Eq.refl (pcells (.agg [.v (.int .i64 v_y98.fUp), .v (.int .i64 (wi .i64 (v_y97.fHave - v_n82))), .v (.int .i64 v_y98.fMost)]))) (.cons (set_ob (f := eS_limit_Box) (l := v_w94) (k := (v_at93).toNat) (z := (S_limit_Box.mk v_y98.fUp (wi .i64 (v_y97.fHave - v_n82)) v_y98.fMost)) (p := .agg [.v (.int .i64 v_y98.fUp), .v (.int .i64 (wi .i64 (v_y97.fHave - v_n82))), .v (.int .i64 v_y98.fMost)]) rfl) (.cons (idx_ob (f := eS_limit_Box) h106) (.cons (get_ob (f := eS_limit_Box) h107) .nil))))))))) (G_limit_Give_L2_ok hF ks n v_n82 k v_y99.fUp (v_w94.set (v_at93).toNat (S_limit_Box.mk v_y98.fUp (wi .i64 (v_y97.fHave - v_n82)) v_y98.fMost)) _ h q)
          · rw [if_neg h106] at h; cases h
        · rw [if_neg h104] at h; cases h
      · rw [if_neg h102] at h; cases h
    · rw [if_neg h97] at h
      cases h
      exact pkk_sound TTok mix hF 8 (hs := [.t false]) (ts := []) (s := [0]) (l := [9]) (by kernel_rfl) (by kernel_rfl) (.cons (df h97) .nil) q
/- ringhall/limit.Give -/
def G_limit_Give (n : Nat) (v_l80 : (List S_limit_Box)) (v_k81 : Int) (v_n82 : Int) : Option ((List S_limit_Box) × Int) :=
  (G_limit_Check n v_l80).bind fun (v_r83 : (Int)) =>
  if v_r83 = 0 then
   (G_limit_Give_C1 n v_l80 v_k81 v_n82).bind fun v_o88 => match v_o88 with
   | .x0 v_z89 =>
     if v_z89 = true then
      some (([] : (List S_limit_Box)), 1)
     else
      (getI v_l80 v_k81).bind fun (v_y90 : S_limit_Box) =>
      (G_limit_kids n v_l80 v_k81).bind fun (v_r91 : (Int)) =>
      if v_n82 > (wi .i64 (v_y90.fHave - v_r91)) then
       some (([] : (List S_limit_Box)), 4)
      else
       (G_slices_Clone_limit_Box_limit_Box n v_l80).bind fun (v_r92 : ((List S_limit_Box))) =>
       (G_limit_Give_L2 n v_n82 n v_k81 v_r92).bind fun v_o101 => match v_o101 with
       | .x0 v_z102 =>
         some (v_z102, 0)
  else
   some (([] : (List S_limit_Box)), v_r83)
theorem G_limit_Give_ok (n : Nat) (v_l80 : (List S_limit_Box)) (v_k81 : Int) (v_n82 : Int) (r : (List S_limit_Box) × Int) (h : G_limit_Give n v_l80 v_k81 v_n82 = some r) : Ret Try.prog 68 [(eL eS_limit_Box) v_l80, (eI .i64) v_k81, (eI .i64) v_n82] (.tup [(eL eS_limit_Box) r.1, (eI .i64) r.2]) := by
  refine ret_run (n := 63) (fn := Try.f68) (c := bodyOf Try.f68) (by kernel_rfl) (by kernel_rfl) (by kernel_rfl) (by kernel_rfl) ?_
  have hF : KC 63 (FinR Try.prog Try.f68 (.tup [(eL eS_limit_Box) r.1, (eI .i64) r.2])) := FinR.kc' (by kernel_rfl)
  unfold G_limit_Give at h
  obtain ⟨v_r83, h82, h⟩ := bind_some h
  by_cases h84 : v_r83 = 0
  · rw [if_pos h84] at h
    obtain ⟨v_o88, h91, h⟩ := bind_some h
    refine pkk_sound TTok mix hF 11 (hs := [.r ((eI .i64) v_r83), .t false]) (ts := []) (s := []) (l := [0, 1, 2]) (by kernel_rfl) (by kernel_rfl) (.cons (G_limit_Check_ok n v_l80 _ h82) (.cons (nf h84) .nil)) (G_limit_Give_C1_ok hF (.s (cR (cL (cR (cR (bodyOf Try.f68))))) :: .s (cR (cR (cR (bodyOf Try.f68)))) :: []) n v_l80 v_k81 v_n82 _ h91 ?_)
    cases v_o88 with
    | x0 v_z89 =>
      dsimp only at h
      by_cases h92 : v_z89 = true
      · rw [if_pos h92] at h
        obtain rfl := Option.some.inj h
        exact pend_sound TTok mix 5 (hs := [.t true]) (by kernel_rfl) (by kernel_rfl) (by kernel_rfl) (.cons h92 .nil)
      · rw [if_neg h92] at h
        obtain ⟨v_y90, h93, h⟩ := bind_some h
        obtain ⟨v_r91, h94, h⟩ := bind_some h
        by_cases h95 : v_n82 > (wi .i64 (v_y90.fHave - v_r91))
        · rw [if_pos h95] at h
          obtain rfl := Option.some.inj h
          exact pend_sound TTok mix 10 (hs := [.t false, .y (eS_limit_Box v_y90), .c, .r ((eI .i64) v_r91), .t true]) (by kernel_rfl) (by kernel_rfl) (by kernel_rfl) (.cons (vf h92) (.cons (getI_ob (f := eS_limit_Box) h93) (.cons (G_limit_kids_ok n v_l80 v_k81 _ h94) (.cons (dt h95) .nil))))
        · rw [if_neg h95] at h
          obtain ⟨v_r92, h96, h⟩ := bind_some h
          obtain ⟨v_o101, h108, h⟩ := bind_some h
          refine pkk_sound TTok mix hF 14 (hs := [.t false, .y (eS_limit_Box v_y90), .c, .r ((eI .i64) v_r91), .t false, .h [] [] [.row 122 3 (v_r92.map eS_limit_Box)] (.srf 0), .n n]) (ts := []) (s := [36]) (l := [2, 9, 10]) (by kernel_rfl) (by kernel_rfl) (.cons (vf h92) (.cons (getI_ob (f := eS_limit_Box) h93) (.cons (G_limit_kids_ok n v_l80 v_k81 _ h94) (.cons (df h95) (.cons (G_slices_Clone_limit_Box_limit_Box_ok n v_l80 _ h96) .nil))))) (G_limit_Give_L2_ok hF (.b 0 :: .s (cR (cR (cR (cR (cR (cR (bodyOf Try.f68))))))) :: []) n v_n82 n v_k81 v_r92 _ h108 ?_)
          cases v_o101 with
          | x0 v_z102 =>
            dsimp only at h
            obtain rfl := Option.some.inj h
            exact pend_sound TTok mix 4 (hs := []) (by kernel_rfl) (by kernel_rfl) (by kernel_rfl) .nil
  · rw [if_neg h84] at h
    obtain rfl := Option.some.inj h
    exact pend_sound TTok mix 12 (hs := [.r ((eI .i64) v_r83), .t true]) (by kernel_rfl) (by kernel_rfl) (by kernel_rfl) (.cons (G_limit_Check_ok n v_l80 _ h82) (.cons (nt h84) .nil))
inductive G_limit_Room_C1_R where
  | x0 (v_x107 : Bool)
def G_limit_Room_C1_ex : G_limit_Room_C1_R → Ex
  | .x0 _ => .normal
def G_limit_Room_C1_st (v_l104 : (List S_limit_Box)) (v_k105 : Int) : G_limit_Room_C1_R → PS
  | .x0 v_x107 => ⟨[.d (.sl (v_l104.map eS_limit_Box)), .d (.v (.int .i64 v_k105)), dd, dd, dd, dd, dd, dd, dd, dd, dd, dd, dd, dd, dd, dd, dd, dd, dd, dd, dd, .d (.v (.bool v_x107)), dd, dd, dd, dd, dd, dd, dd, dd, dd, dd, dd, dd, dd, dd, dd, dd, dd, dd, dd, dd, dd, dd], []⟩
def G_limit_Room_C1_hd (v_l104 : (List S_limit_Box)) (v_k105 : Int)  : PS := ⟨[.d (.sl (v_l104.map eS_limit_Box)), .d (.v (.int .i64 v_k105)), dd, dd, dd, dd, dd, dd, dd, dd, dd, dd, dd, dd, dd, dd, dd, dd, dd, dd, dd, dd, dd, dd, dd, dd, dd, dd, dd, dd, dd, dd, dd, dd, dd, dd, dd, dd, dd, dd, dd, dd, dd, dd], []⟩
def G_limit_Room_C1 (n : Nat) (v_l104 : (List S_limit_Box)) (v_k105 : Int) : Option G_limit_Room_C1_R :=
  if v_k105 < 0 then
   some (.x0 true)
  else
   some (.x0 (decide (v_k105 ≥ (v_l104.length : Int))))
theorem G_limit_Room_C1_ok {Fi : Ex → PS → Prop} (hF : KC 44 Fi) (ks : List Fr) (n : Nat) (v_l104 : (List S_limit_Box)) (v_k105 : Int)  (o : G_limit_Room_C1_R) (h : G_limit_Room_C1 n v_l104 v_k105 = some o) (q : RunE Try.prog 44 Fi ks (G_limit_Room_C1_ex o) (G_limit_Room_C1_st v_l104 v_k105 o)) : RunE Try.prog 44 Fi (.s (cL (cL (cR (cR (bodyOf Try.f69))))) :: ks) .normal (G_limit_Room_C1_hd v_l104 v_k105) := by
  unfold G_limit_Room_C1 at h
  by_cases h114 : v_k105 < 0
  · rw [if_pos h114] at h
    cases h
    exact pkk_sound TTok mix hF 1 (hs := [.t true, .c, .c, .c]) (ts := []) (s := []) (l := [0, 1, 21]) (by kernel_rfl) (by kernel_rfl) (.cons (dt h114) .nil) q
  · rw [if_neg h114] at h
    cases h
    exact pkk_sound TTok mix hF 1 (hs := [.t false, .c, .c, .u (.d (.v (.int .i64 (v_l104.length : Int)))), .c]) (ts := []) (s := []) (l := [0, 1, 21]) (by kernel_rfl) (by kernel_rfl) (.cons (df h114) (.cons (len_ob (f := eS_limit_Box) (l := v_l104)) .nil)) q
inductive G_limit_Room_L2_R where
  | x0 (v_room118 : Int)
def G_limit_Room_L2_ex : G_limit_Room_L2_R → Ex
  | .x0 _ => .exit 0
def G_limit_Room_L2_st (v_l104 : (List S_limit_Box)) : G_limit_Room_L2_R → PS
  | .x0 v_room118 => ⟨[dd, dd, dd, dd, dd, dd, dd, .d (.v (.int .i64 v_room118)), dd, dd, dd, dd, dd, dd, dd, dd, dd, dd, dd, dd, dd, dd, dd, dd, dd, dd, dd, dd, dd, dd, dd, dd, dd, dd, dd, dd, dd, dd, dd, dd, dd, dd, dd, dd], []⟩
def G_limit_Room_L2_hd (v_l104 : (List S_limit_Box)) (v_room111 : Int) (v_at112 : Int) : PS := ⟨[.d (.sl (v_l104.map eS_limit_Box)), dd, dd, dd, dd, dd, dd, .d (.v (.int .i64 v_room111)), .d (.v (.int .i64 v_at112)), dd, dd, dd, dd, dd, dd, dd, dd, dd, dd, dd, dd, dd, dd, dd, dd, dd, dd, dd, dd, dd, dd, dd, dd, dd, dd, dd, dd, dd, dd, dd, dd, dd, dd, dd], []⟩
def G_limit_Room_L2 (n : Nat) (v_l104 : (List S_limit_Box)) : Nat → Int → Int → Option G_limit_Room_L2_R
  | 0, _, _ => none
  | k + 1, v_room111, v_at112 =>
    if v_at112 ≥ 0 then
     (getI v_l104 v_at112).bind fun (v_y115 : S_limit_Box) =>
     (getI v_l104 v_at112).bind fun (v_y116 : S_limit_Box) =>
     (getI v_l104 v_at112).bind fun (v_y117 : S_limit_Box) =>
     G_limit_Room_L2 n v_l104 k (minI v_room111 (wi .i64 (v_y115.fMost - v_y116.fHave))) v_y117.fUp
    else
     some (.x0 v_room111)
theorem G_limit_Room_L2_ok {Fi : Ex → PS → Prop} (hF : KC 44 Fi) (ks : List Fr) (n : Nat) (v_l104 : (List S_limit_Box))  : ∀ (k : Nat) (v_room111 : Int) (v_at112 : Int) (o : G_limit_Room_L2_R), G_limit_Room_L2 n v_l104 k v_room111 v_at112 = some o → RunE Try.prog 44 Fi ks (G_limit_Room_L2_ex o) (G_limit_Room_L2_st v_l104 o) → RunE Try.prog 44 Fi (.l k (cP (cB (cR (cL (cR (cR (cR (cR (bodyOf Try.f69))))))))) :: ks) .normal (G_limit_Room_L2_hd v_l104 v_room111 v_at112)
  | 0, v_room111, v_at112, o, h, q => by rw [G_limit_Room_L2] at h; cases h
  | k + 1, v_room111, v_at112, o, h, q => by
    rw [G_limit_Room_L2] at h
    by_cases h117 : v_at112 ≥ 0
    · rw [if_pos h117] at h
      obtain ⟨v_y115, h120, h⟩ := bind_some h
      obtain ⟨v_y116, h121, h⟩ := bind_some h
      obtain ⟨v_y117, h122, h⟩ := bind_some h
      exact pkk_sound TTok mix hF 11 (hs := [.t true, .y (eS_limit_Box v_y115), .c, .y (eS_limit_Box v_y116), .c, .y (eS_limit_Box v_y117), .c]) (ts := []) (s := []) (l := [0, 7, 8]) (by kernel_rfl) (by kernel_rfl) (.cons (dt h117) (.cons (getI_ob (f := eS_limit_Box) h120) (.cons (getI_ob (f := eS_limit_Box) h121) (.cons (getI_ob (f := eS_limit_Box) h122) .nil)))) (G_limit_Room_L2_ok hF ks n v_l104 k (minI v_room111 (wi .i64 (v_y115.fMost - v_y116.fHave))) v_y117.fUp _ h q)
    · rw [if_neg h117] at h
      cases h
      exact pkk_sound TTok mix hF 8 (hs := [.t false]) (ts := []) (s := []) (l := [7]) (by kernel_rfl) (by kernel_rfl) (.cons (df h117) .nil) q
/- ringhall/limit.Room -/
def G_limit_Room (n : Nat) (v_l104 : (List S_limit_Box)) (v_k105 : Int) : Option (Int × Int) :=
  (G_limit_Check n v_l104).bind fun (v_r106 : (Int)) =>
  if v_r106 = 0 then
   (G_limit_Room_C1 n v_l104 v_k105).bind fun v_o109 => match v_o109 with
   | .x0 v_z110 =>
     if v_z110 = true then
      some (0, 1)
     else
      (G_limit_Room_L2 n v_l104 n 1000000 v_k105).bind fun v_o119 => match v_o119 with
      | .x0 v_z120 =>
        some (v_z120, 0)
  else
   some (0, v_r106)
theorem G_limit_Room_ok (n : Nat) (v_l104 : (List S_limit_Box)) (v_k105 : Int) (r : Int × Int) (h : G_limit_Room n v_l104 v_k105 = some r) : Ret Try.prog 69 [(eL eS_limit_Box) v_l104, (eI .i64) v_k105] (.tup [(eI .i64) r.1, (eI .i64) r.2]) := by
  refine ret_run (n := 44) (fn := Try.f69) (c := bodyOf Try.f69) (by kernel_rfl) (by kernel_rfl) (by kernel_rfl) (by kernel_rfl) ?_
  have hF : KC 44 (FinR Try.prog Try.f69 (.tup [(eI .i64) r.1, (eI .i64) r.2])) := FinR.kc' (by kernel_rfl)
  unfold G_limit_Room at h
  obtain ⟨v_r106, h110, h⟩ := bind_some h
  by_cases h112 : v_r106 = 0
  · rw [if_pos h112] at h
    obtain ⟨v_o109, h115, h⟩ := bind_some h
    refine pkk_sound TTok mix hF 11 (hs := [.r ((eI .i64) v_r106), .t false]) (ts := []) (s := []) (l := [0, 1]) (by kernel_rfl) (by kernel_rfl) (.cons (G_limit_Check_ok n v_l104 _ h110) (.cons (nf h112) .nil)) (G_limit_Room_C1_ok hF (.s (cR (cL (cR (cR (bodyOf Try.f69))))) :: .s (cR (cR (cR (bodyOf Try.f69)))) :: []) n v_l104 v_k105 _ h115 ?_)
    cases v_o109 with
    | x0 v_z110 =>
      dsimp only at h
      by_cases h116 : v_z110 = true
      · rw [if_pos h116] at h
        obtain rfl := Option.some.inj h
        exact pend_sound TTok mix 5 (hs := [.t true]) (by kernel_rfl) (by kernel_rfl) (by kernel_rfl) (.cons h116 .nil)
      · rw [if_neg h116] at h
        obtain ⟨v_o119, h123, h⟩ := bind_some h
        refine pkk_sound TTok mix hF 9 (hs := [.t false, .n n]) (ts := []) (s := []) (l := [0, 7, 8]) (by kernel_rfl) (by kernel_rfl) (.cons (vf h116) .nil) (G_limit_Room_L2_ok hF (.b 0 :: .s (cR (cR (cR (cR (cR (bodyOf Try.f69)))))) :: []) n v_l104 n 1000000 v_k105 _ h123 ?_)
        cases v_o119 with
        | x0 v_z120 =>
          dsimp only at h
          obtain rfl := Option.some.inj h
          exact pend_sound TTok mix 4 (hs := []) (by kernel_rfl) (by kernel_rfl) (by kernel_rfl) .nil
  · rw [if_neg h112] at h
    obtain rfl := Option.some.inj h
    exact pend_sound TTok mix 12 (hs := [.r ((eI .i64) v_r106), .t true]) (by kernel_rfl) (by kernel_rfl) (by kernel_rfl) (.cons (G_limit_Check_ok n v_l104 _ h110) (.cons (nt h112) .nil))
/- ringhall/limit.Turn -/
def G_limit_Turn (n : Nat) (v_l122 : (List S_limit_Box)) (v_k123 : Int) (v_most124 : Int) : Option ((List S_limit_Box) × Int) :=
  (G_limit_Room n v_l122 v_k123).bind fun (v_r125 : (Int × Int)) =>
  if v_r125.2 = 0 then
   if v_most124 < 0 then
    some (([] : (List S_limit_Box)), 1)
   else
    if v_most124 > 1000000 then
     some (([] : (List S_limit_Box)), 1)
    else
     (getI v_l122 v_k123).bind fun (v_y126 : S_limit_Box) =>
     if v_most124 < v_y126.fHave then
      some (([] : (List S_limit_Box)), 8)
     else
      (G_slices_Clone_limit_Box_limit_Box n v_l122).bind fun (v_r127 : ((List S_limit_Box))) =>
      if 0 ≤ v_k123 ∧ (v_k123).toNat < v_r127.length then
       (v_r127[(v_k123).toNat]?).bind fun (v_y128 : S_limit_Box) =>
       some ((v_r127.set (v_k123).toNat (S_limit_Box.mk v_y128.fUp v_y128.fHave v_most124)), 0)
      else none
  else
   some (([] : (List S_limit_Box)), v_r125.2)
theorem G_limit_Turn_ok (n : Nat) (v_l122 : (List S_limit_Box)) (v_k123 : Int) (v_most124 : Int) (r : (List S_limit_Box) × Int) (h : G_limit_Turn n v_l122 v_k123 v_most124 = some r) : Ret Try.prog 70 [(eL eS_limit_Box) v_l122, (eI .i64) v_k123, (eI .i64) v_most124] (.tup [(eL eS_limit_Box) r.1, (eI .i64) r.2]) := by
  refine ret_run (n := 41) (fn := Try.f70) (c := bodyOf Try.f70) (by kernel_rfl) (by kernel_rfl) (by kernel_rfl) (by kernel_rfl) ?_
  have hF : KC 41 (FinR Try.prog Try.f70 (.tup [(eL eS_limit_Box) r.1, (eI .i64) r.2])) := FinR.kc' (by kernel_rfl)
  unfold G_limit_Turn at h
  obtain ⟨v_r125, h125, h⟩ := bind_some h
  by_cases h127 : v_r125.2 = 0
  · rw [if_pos h127] at h
    by_cases h128 : v_most124 < 0
    · rw [if_pos h128] at h
      obtain rfl := Option.some.inj h
      exact pend_sound TTok mix 17 (hs := [.r (.tup [(eI .i64) v_r125.1, (eI .i64) v_r125.2]), .t false, .t true, .c, .c]) (by kernel_rfl) (by kernel_rfl) (by kernel_rfl) (.cons (G_limit_Room_ok n v_l122 v_k123 _ h125) (.cons (nf h127) (.cons (dt h128) .nil)))
    · rw [if_neg h128] at h
      by_cases h129 : v_most124 > 1000000
      · rw [if_pos h129] at h
        obtain rfl := Option.some.inj h
        exact pend_sound TTok mix 17 (hs := [.r (.tup [(eI .i64) v_r125.1, (eI .i64) v_r125.2]), .t false, .t false, .c, .t true]) (by kernel_rfl) (by kernel_rfl) (by kernel_rfl) (.cons (G_limit_Room_ok n v_l122 v_k123 _ h125) (.cons (nf h127) (.cons (df h128) (.cons (dt h129) .nil))))
      · rw [if_neg h129] at h
        obtain ⟨v_y126, h130, h⟩ := bind_some h
        by_cases h131 : v_most124 < v_y126.fHave
        · rw [if_pos h131] at h
          obtain rfl := Option.some.inj h
          exact pend_sound TTok mix 22 (hs := [.r (.tup [(eI .i64) v_r125.1, (eI .i64) v_r125.2]), .t false, .t false, .c, .t false, .y (eS_limit_Box v_y126), .c, .t true]) (by kernel_rfl) (by kernel_rfl) (by kernel_rfl) (.cons (G_limit_Room_ok n v_l122 v_k123 _ h125) (.cons (nf h127) (.cons (df h128) (.cons (df h129) (.cons (getI_ob (f := eS_limit_Box) h130) (.cons (dt h131) .nil))))))
        · rw [if_neg h131] at h
          obtain ⟨v_r127, h132, h⟩ := bind_some h
          by_cases h133 : 0 ≤ v_k123 ∧ (v_k123).toNat < v_r127.length
          · rw [if_pos h133] at h
            obtain ⟨v_y128, h134, h⟩ := bind_some h
            obtain rfl := Option.some.inj h
            exact pend_sound TTok mix 26 (hs := [.r (.tup [(eI .i64) v_r125.1, (eI .i64) v_r125.2]), .t false, .t false, .c, .t false, .y (eS_limit_Box v_y126), .c, .t false, .h [] [] [.row 122 3 (v_r127.map eS_limit_Box)] (.srf 0), .w ((v_r127.set (v_k123).toNat (S_limit_Box.mk v_y128.fUp v_y128.fHave v_most124)).map eS_limit_Box), .y (eS_limit_Box v_y128)]) (by kernel_rfl) (by kernel_rfl) (by kernel_rfl) (.cons (G_limit_Room_ok n v_l122 v_k123 _ h125) (.cons (nf h127) (.cons (df h128) (.cons (df h129) (.cons (getI_ob (f := eS_limit_Box) h130) (.cons (df h131) (.cons (G_slices_Clone_limit_Box_limit_Box_ok n v_l122 _ h132) (.cons (idx_ob (f := eS_limit_Box) h133) (.cons (get_ob (f := eS_limit_Box) h134) (.cons (Eq.refl (pcells (.agg [.v (.int .i64 v_y128.fUp), .v (.int .i64 v_y128.fHave), .v (.int .i64 v_most124)]))) (.cons (set_ob (f := eS_limit_Box) (l := v_r127) (k := (v_k123).toNat) (z := (S_limit_Box.mk v_y128.fUp v_y128.fHave v_most124)) (p := .agg [.v (.int .i64 v_y128.fUp), .v (.int .i64 v_y128.fHave), .v (.int .i64 v_most124)]) rfl) .nil)))))))))))
          · rw [if_neg h133] at h; cases h
  · rw [if_neg h127] at h
    obtain rfl := Option.some.inj h
    exact pend_sound TTok mix 12 (hs := [.r (.tup [(eI .i64) v_r125.1, (eI .i64) v_r125.2]), .t true]) (by kernel_rfl) (by kernel_rfl) (by kernel_rfl) (.cons (G_limit_Room_ok n v_l122 v_k123 _ h125) (.cons (nt h127) .nil))
inductive G_ringref5_BoxesErr_C1_R where
  | x0 (v_x149 : Bool)
def G_ringref5_BoxesErr_C1_ex : G_ringref5_BoxesErr_C1_R → Ex
  | .x0 _ => .normal
def G_ringref5_BoxesErr_C1_st (v_l139 : (List (Fin 3 → Int))) (v_x140 : Int) (v_y148 : (Fin 3 → Int)) : G_ringref5_BoxesErr_C1_R → PS
  | .x0 v_x149 => ⟨[.d (.sl (v_l139.map (fun x => PV.agg [.v (.int .i64 (x 0)), .v (.int .i64 (x 1)), .v (.int .i64 (x 2))]))), dd, dd, dd, .ref 0 0, dd, dd, dd, dd, dd, dd, dd, .d (.sl (v_l139.map (fun x => PV.agg [.v (.int .i64 (x 0)), .v (.int .i64 (x 1)), .v (.int .i64 (x 2))]))), .d (.v (.int .i64 (v_l139.length : Int))), .d (.v (.int .i64 v_x140)), dd, dd, dd, dd, dd, dd, dd, dd, dd, dd, dd, dd, .d (.v (.bool v_x149)), dd, dd, dd, dd, dd, dd, dd, dd, dd, dd, dd, dd, dd, dd, dd, dd, dd, dd, dd, dd, dd, dd, dd, dd, dd, dd, dd, dd, dd, dd, dd, dd, dd, dd, dd, dd, dd, dd, dd, dd, dd, dd, dd, dd, dd, dd, dd, dd, dd], [.box [.d (.v (.int .i64 (v_y148 0))), .d (.v (.int .i64 (v_y148 1))), .d (.v (.int .i64 (v_y148 2)))]]⟩
def G_ringref5_BoxesErr_C1_hd (v_l139 : (List (Fin 3 → Int))) (v_x140 : Int) (v_y148 : (Fin 3 → Int))  : PS := ⟨[.d (.sl (v_l139.map (fun x => PV.agg [.v (.int .i64 (x 0)), .v (.int .i64 (x 1)), .v (.int .i64 (x 2))]))), dd, dd, .d (.v (.int .i64 v_x140)), .ref 0 0, dd, dd, dd, dd, dd, dd, dd, .d (.sl (v_l139.map (fun x => PV.agg [.v (.int .i64 (x 0)), .v (.int .i64 (x 1)), .v (.int .i64 (x 2))]))), .d (.v (.int .i64 (v_l139.length : Int))), .d (.v (.int .i64 v_x140)), dd, dd, dd, dd, dd, dd, dd, dd, dd, dd, dd, dd, dd, dd, dd, dd, dd, dd, dd, dd, dd, dd, dd, dd, dd, dd, dd, dd, dd, dd, dd, dd, dd, dd, dd, dd, dd, dd, dd, dd, dd, dd, dd, dd, dd, dd, dd, dd, dd, dd, dd, dd, dd, dd, dd, dd, dd, dd, dd, dd, dd, dd], [.box [.d (.v (.int .i64 (v_y148 0))), .d (.v (.int .i64 (v_y148 1))), .d (.v (.int .i64 (v_y148 2)))]]⟩
def G_ringref5_BoxesErr_C1 (n : Nat) (v_l139 : (List (Fin 3 → Int))) (v_x140 : Int) (v_y148 : (Fin 3 → Int)) : Option G_ringref5_BoxesErr_C1_R :=
  if (v_y148 0) < (-1) then
   some (.x0 true)
  else
   some (.x0 (decide ((v_y148 0) ≥ v_x140)))
theorem G_ringref5_BoxesErr_C1_ok {Fi : Ex → PS → Prop} (hF : KC 77 Fi) (ks : List Fr) (n : Nat) (v_l139 : (List (Fin 3 → Int))) (v_x140 : Int) (v_y148 : (Fin 3 → Int))  (o : G_ringref5_BoxesErr_C1_R) (h : G_ringref5_BoxesErr_C1 n v_l139 v_x140 v_y148 = some o) (q : RunE Try.prog 77 Fi ks (G_ringref5_BoxesErr_C1_ex o) (G_ringref5_BoxesErr_C1_st v_l139 v_x140 v_y148 o)) : RunE Try.prog 77 Fi (.s (cL (cL (cR (cB (cL (cR (cR (cP (cB (cR (cL (cR (cR (bodyOf Try.f71)))))))))))))) :: ks) .normal (G_ringref5_BoxesErr_C1_hd v_l139 v_x140 v_y148) := by
  unfold G_ringref5_BoxesErr_C1 at h
  by_cases h158 : (v_y148 0) < (-1)
  · rw [if_pos h158] at h
    cases h
    exact pkk_sound TTok mix hF 1 (hs := [.c, .t true, .c, .c, .c]) (ts := []) (s := [0]) (l := [0, 4, 12, 13, 14, 27]) (by kernel_rfl) (by kernel_rfl) (.cons (show (0 : Int) ≤ 0 ∧ (0 : Int) < 3 by decide) (.cons (dt h158) .nil)) q
  · rw [if_neg h158] at h
    cases h
    exact pkk_sound TTok mix hF 1 (hs := [.c, .t false, .c, .c, .c, .c]) (ts := []) (s := [0]) (l := [0, 4, 12, 13, 14, 27]) (by kernel_rfl) (by kernel_rfl) (.cons (show (0 : Int) ≤ 0 ∧ (0 : Int) < 3 by decide) (.cons (df h158) (.cons (show (0 : Int) ≤ 0 ∧ (0 : Int) < 3 by decide) .nil))) q
inductive G_ringref5_BoxesErr_C2_R where
  | x0 (v_x154 : Bool)
def G_ringref5_BoxesErr_C2_ex : G_ringref5_BoxesErr_C2_R → Ex
  | .x0 _ => .normal
def G_ringref5_BoxesErr_C2_st (v_l139 : (List (Fin 3 → Int))) (v_x140 : Int) (v_y148 : (Fin 3 → Int)) : G_ringref5_BoxesErr_C2_R → PS
  | .x0 v_x154 => ⟨[.d (.sl (v_l139.map (fun x => PV.agg [.v (.int .i64 (x 0)), .v (.int .i64 (x 1)), .v (.int .i64 (x 2))]))), dd, dd, dd, dd, dd, dd, dd, dd, dd, dd, dd, .d (.sl (v_l139.map (fun x => PV.agg [.v (.int .i64 (x 0)), .v (.int .i64 (x 1)), .v (.int .i64 (x 2))]))), .d (.v (.int .i64 (v_l139.length : Int))), .d (.v (.int .i64 v_x140)), dd, dd, dd, dd, dd, dd, dd, dd, dd, dd, dd, dd, dd, dd, dd, dd, dd, dd, dd, dd, dd, dd, dd, dd, dd, dd, dd, dd, dd, dd, dd, dd, .d (.v (.bool v_x154)), dd, dd, dd, dd, dd, dd, dd, dd, dd, dd, dd, dd, dd, dd, dd, dd, dd, dd, dd, dd, dd, dd, dd, dd, dd, dd, dd, dd, dd], []⟩
def G_ringref5_BoxesErr_C2_hd (v_l139 : (List (Fin 3 → Int))) (v_x140 : Int) (v_y148 : (Fin 3 → Int))  : PS := ⟨[.d (.sl (v_l139.map (fun x => PV.agg [.v (.int .i64 (x 0)), .v (.int .i64 (x 1)), .v (.int .i64 (x 2))]))), dd, dd, dd, .ref 0 0, dd, dd, dd, dd, dd, dd, dd, .d (.sl (v_l139.map (fun x => PV.agg [.v (.int .i64 (x 0)), .v (.int .i64 (x 1)), .v (.int .i64 (x 2))]))), .d (.v (.int .i64 (v_l139.length : Int))), .d (.v (.int .i64 v_x140)), dd, dd, dd, dd, dd, dd, dd, dd, dd, dd, dd, dd, dd, dd, dd, dd, dd, dd, dd, dd, dd, dd, dd, dd, dd, dd, dd, dd, dd, dd, dd, dd, dd, dd, dd, dd, dd, dd, dd, dd, dd, dd, dd, dd, dd, dd, dd, dd, dd, dd, dd, dd, dd, dd, dd, dd, dd, dd, dd, dd, dd, dd], [.box [.d (.v (.int .i64 (v_y148 0))), .d (.v (.int .i64 (v_y148 1))), .d (.v (.int .i64 (v_y148 2)))]]⟩
def G_ringref5_BoxesErr_C2 (n : Nat) (v_l139 : (List (Fin 3 → Int))) (v_x140 : Int) (v_y148 : (Fin 3 → Int)) : Option G_ringref5_BoxesErr_C2_R :=
  if (v_y148 2) < 0 then
   some (.x0 true)
  else
   if (v_y148 2) > 1000000 then
    some (.x0 true)
   else
    if (v_y148 1) < 0 then
     some (.x0 true)
    else
     some (.x0 (decide ((v_y148 1) > (v_y148 2))))
theorem G_ringref5_BoxesErr_C2_ok {Fi : Ex → PS → Prop} (hF : KC 77 Fi) (ks : List Fr) (n : Nat) (v_l139 : (List (Fin 3 → Int))) (v_x140 : Int) (v_y148 : (Fin 3 → Int))  (o : G_ringref5_BoxesErr_C2_R) (h : G_ringref5_BoxesErr_C2 n v_l139 v_x140 v_y148 = some o) (q : RunE Try.prog 77 Fi ks (G_ringref5_BoxesErr_C2_ex o) (G_ringref5_BoxesErr_C2_st v_l139 v_x140 v_y148 o)) : RunE Try.prog 77 Fi (.s (cL (cR (cR (cB (cL (cR (cR (cP (cB (cR (cL (cR (cR (bodyOf Try.f71)))))))))))))) :: ks) .normal (G_ringref5_BoxesErr_C2_hd v_l139 v_x140 v_y148) := by
  unfold G_ringref5_BoxesErr_C2 at h
  by_cases h164 : (v_y148 2) < 0
  · rw [if_pos h164] at h
    cases h
    exact pkk_sound TTok mix hF 1 (hs := [.c, .t true, .c, .c, .c, .c, .c, .c, .c, .c, .c, .c]) (ts := []) (s := []) (l := [0, 12, 13, 14, 47]) (by kernel_rfl) (by kernel_rfl) (.cons (show (0 : Int) ≤ 2 ∧ (2 : Int) < 3 by decide) (.cons (dt h164) .nil)) q
  · rw [if_neg h164] at h
    by_cases h165 : (v_y148 2) > 1000000
    · rw [if_pos h165] at h
      cases h
      exact pkk_sound TTok mix hF 1 (hs := [.c, .t false, .c, .c, .c, .t true, .c, .c, .c, .c, .c, .c, .c]) (ts := []) (s := []) (l := [0, 12, 13, 14, 47]) (by kernel_rfl) (by kernel_rfl) (.cons (show (0 : Int) ≤ 2 ∧ (2 : Int) < 3 by decide) (.cons (df h164) (.cons (show (0 : Int) ≤ 2 ∧ (2 : Int) < 3 by decide) (.cons (dt h165) .nil)))) q
    · rw [if_neg h165] at h
      by_cases h166 : (v_y148 1) < 0
      · rw [if_pos h166] at h
        cases h
        exact pkk_sound TTok mix hF 1 (hs := [.c, .t false, .c, .c, .c, .t false, .c, .c, .c, .t true, .c, .c, .c, .c]) (ts := []) (s := []) (l := [0, 12, 13, 14, 47]) (by kernel_rfl) (by kernel_rfl) (.cons (show (0 : Int) ≤ 2 ∧ (2 : Int) < 3 by decide) (.cons (df h164) (.cons (show (0 : Int) ≤ 2 ∧ (2 : Int) < 3 by decide) (.cons (df h165) (.cons (show (0 : Int) ≤ 1 ∧ (1 : Int) < 3 by decide) (.cons (dt h166) .nil)))))) q
      · rw [if_neg h166] at h
        cases h
        exact pkk_sound TTok mix hF 1 (hs := [.c, .t false, .c, .c, .c, .t false, .c, .c, .c, .t false, .c, .c, .c, .c, .c, .c]) (ts := []) (s := []) (l := [0, 12, 13, 14, 47]) (by kernel_rfl) (by kernel_rfl) (.cons (show (0 : Int) ≤ 2 ∧ (2 : Int) < 3 by decide) (.cons (df h164) (.cons (show (0 : Int) ≤ 2 ∧ (2 : Int) < 3 by decide) (.cons (df h165) (.cons (show (0 : Int) ≤ 1 ∧ (1 : Int) < 3 by decide) (.cons (df h166) (.cons (show (0 : Int) ≤ 1 ∧ (1 : Int) < 3 by decide) (.cons (show (0 : Int) ≤ 2 ∧ (2 : Int) < 3 by decide) .nil)))))))) q
inductive G_ringref5_BoxesErr_L3_R where
  | x0 (v_x153 : Int)
  | x1 
def G_ringref5_BoxesErr_L3_ex : G_ringref5_BoxesErr_L3_R → Ex
  | .x0 _ => .ret
  | .x1  => .exit 0
def G_ringref5_BoxesErr_L3_st (v_l139 : (List (Fin 3 → Int))) : G_ringref5_BoxesErr_L3_R → PS
  | .x0 v_x153 => ⟨[dd, dd, .d (.v (.int .i64 v_x153)), dd, dd, dd, dd, dd, dd, dd, dd, dd, dd, dd, dd, dd, dd, dd, dd, dd, dd, dd, dd, dd, dd, dd, dd, dd, dd, dd, dd, dd, dd, dd, dd, dd, dd, dd, dd, dd, dd, dd, dd, dd, dd, dd, dd, dd, dd, dd, dd, dd, dd, dd, dd, dd, dd, dd, dd, dd, dd, dd, dd, dd, dd, dd, dd, dd, dd, dd, dd, dd, dd, dd, dd, dd, dd], []⟩
  | .x1  => ⟨[.d (.sl (v_l139.map (fun x => PV.agg [.v (.int .i64 (x 0)), .v (.int .i64 (x 1)), .v (.int .i64 (x 2))]))), dd, dd, dd, dd, dd, dd, dd, dd, dd, dd, dd, dd, dd, dd, dd, dd, dd, dd, dd, dd, dd, dd, dd, dd, dd, dd, dd, dd, dd, dd, dd, dd, dd, dd, dd, dd, dd, dd, dd, dd, dd, dd, dd, dd, dd, dd, dd, dd, dd, dd, dd, dd, dd, dd, dd, dd, dd, dd, dd, dd, dd, dd, dd, dd, dd, dd, dd, dd, dd, dd, dd, dd, dd, dd, dd, dd], []⟩
def G_ringref5_BoxesErr_L3_hd (v_l139 : (List (Fin 3 → Int))) (v_x140 : Int) : PS := ⟨[.d (.sl (v_l139.map (fun x => PV.agg [.v (.int .i64 (x 0)), .v (.int .i64 (x 1)), .v (.int .i64 (x 2))]))), dd, dd, dd, dd, dd, dd, dd, dd, dd, dd, dd, .d (.sl (v_l139.map (fun x => PV.agg [.v (.int .i64 (x 0)), .v (.int .i64 (x 1)), .v (.int .i64 (x 2))]))), .d (.v (.int .i64 (v_l139.length : Int))), .d (.v (.int .i64 v_x140)), dd, dd, dd, dd, dd, dd, dd, dd, dd, dd, dd, dd, dd, dd, dd, dd, dd, dd, dd, dd, dd, dd, dd, dd, dd, dd, dd, dd, dd, dd, dd, dd, dd, dd, dd, dd, dd, dd, dd, dd, dd, dd, dd, dd, dd, dd, dd, dd, dd, dd, dd, dd, dd, dd, dd, dd, dd, dd, dd, dd, dd, dd], []⟩
def G_ringref5_BoxesErr_L3 (n : Nat) (v_l139 : (List (Fin 3 → Int))) : Nat → Int → Option G_ringref5_BoxesErr_L3_R
  | 0, _ => none
  | k + 1, v_x140 =>
    if v_x140 < (v_l139.length : Int) then
     (getI v_l139 v_x140).bind fun (v_y148 : (Fin 3 → Int)) =>
     (G_ringref5_BoxesErr_C1 n v_l139 v_x140 v_y148).bind fun v_o151 => match v_o151 with
     | .x0 v_z152 =>
       if v_z152 = true then
        some (.x0 3)
       else
        (G_ringref5_BoxesErr_C2 n v_l139 v_x140 v_y148).bind fun v_o158 => match v_o158 with
        | .x0 v_z159 =>
          if v_z159 = true then
           some (.x0 1)
          else
           G_ringref5_BoxesErr_L3 n v_l139 k (wi .i64 (v_x140 + 1))
    else
     some (.x1 )
theorem G_ringref5_BoxesErr_L3_ok {Fi : Ex → PS → Prop} (hF : KC 77 Fi) (ks : List Fr) (n : Nat) (v_l139 : (List (Fin 3 → Int)))  : ∀ (k : Nat) (v_x140 : Int) (o : G_ringref5_BoxesErr_L3_R), G_ringref5_BoxesErr_L3 n v_l139 k v_x140 = some o → RunE Try.prog 77 Fi ks (G_ringref5_BoxesErr_L3_ex o) (G_ringref5_BoxesErr_L3_st v_l139 o) → RunE Try.prog 77 Fi (.l k (cP (cB (cR (cL (cR (cR (bodyOf Try.f71))))))) :: ks) .normal (G_ringref5_BoxesErr_L3_hd v_l139 v_x140)
  | 0, v_x140, o, h, q => by rw [G_ringref5_BoxesErr_L3] at h; cases h
  | k + 1, v_x140, o, h, q => by
    rw [G_ringref5_BoxesErr_L3] at h
    by_cases h143 : v_x140 < (v_l139.length : Int)
    · rw [if_pos h143] at h
      obtain ⟨v_y148, h156, h⟩ := bind_some h
      obtain ⟨v_o151, h159, h⟩ := bind_some h
      refine pkk_sound TTok mix hF 12 (hs := [.t true, .y ((fun x => PV.agg [.v (.int .i64 (x 0)), .v (.int .i64 (x 1)), .v (.int .i64 (x 2))]) v_y148), .c]) (ts := []) (s := [12]) (l := [0, 3, 4, 12, 13, 14]) (by kernel_rfl) (by kernel_rfl) (.cons (dt h143) (.cons (getI_ob (f := (fun x => PV.agg [.v (.int .i64 (x 0)), .v (.int .i64 (x 1)), .v (.int .i64 (x 2))])) h156) (.cons (show 0 + 3 ≤ 3 by decide) .nil))) (G_ringref5_BoxesErr_C1_ok hF (.s (cR (cL (cR (cB (cL (cR (cR (cP (cB (cR (cL (cR (cR (bodyOf Try.f71)))))))))))))) :: .s (cR (cR (cB (cL (cR (cR (cP (cB (cR (cL (cR (cR (bodyOf Try.f71))))))))))))) :: .b 1 :: .s (cR (cR (cR (cP (cB (cR (cL (cR (cR (bodyOf Try.f71)))))))))) :: .l k (cP (cB (cR (cL (cR (cR (bodyOf Try.f71))))))) :: ks) n v_l139 v_x140 v_y148 _ h159 ?_)
      cases v_o151 with
      | x0 v_z152 =>
        dsimp only at h
        by_cases h160 : v_z152 = true
        · rw [if_pos h160] at h
          cases h
          exact pkk_sound TTok mix hF 8 (hs := [.t true]) (ts := []) (s := []) (l := [2]) (by kernel_rfl) (by kernel_rfl) (.cons h160 .nil) q
        · rw [if_neg h160] at h
          obtain ⟨v_o158, h167, h⟩ := bind_some h
          refine pkk_sound TTok mix hF 3 (hs := [.t false]) (ts := []) (s := [0]) (l := [0, 4, 12, 13, 14]) (by kernel_rfl) (by kernel_rfl) (.cons (vf h160) .nil) (G_ringref5_BoxesErr_C2_ok hF (.s (cR (cR (cR (cB (cL (cR (cR (cP (cB (cR (cL (cR (cR (bodyOf Try.f71)))))))))))))) :: .b 1 :: .s (cR (cR (cR (cP (cB (cR (cL (cR (cR (bodyOf Try.f71)))))))))) :: .l k (cP (cB (cR (cL (cR (cR (bodyOf Try.f71))))))) :: ks) n v_l139 v_x140 v_y148 _ h167 ?_)
          cases v_o158 with
          | x0 v_z159 =>
            dsimp only at h
            by_cases h168 : v_z159 = true
            · rw [if_pos h168] at h
              cases h
              exact pkk_sound TTok mix hF 7 (hs := [.t true]) (ts := []) (s := []) (l := [2]) (by kernel_rfl) (by kernel_rfl) (.cons h168 .nil) q
            · rw [if_neg h168] at h
              exact pkk_sound TTok mix hF 4 (hs := [.t false]) (ts := []) (s := []) (l := [0, 12, 13, 14]) (by kernel_rfl) (by kernel_rfl) (.cons (vf h168) .nil) (G_ringref5_BoxesErr_L3_ok hF ks n v_l139 k (wi .i64 (v_x140 + 1)) _ h q)
    · rw [if_neg h143] at h
      cases h
      exact pkk_sound TTok mix hF 8 (hs := [.t false]) (ts := []) (s := []) (l := [0]) (by kernel_rfl) (by kernel_rfl) (.cons (df h143) .nil) q
inductive G_ringref5_BoxesErr_L4_R where
  | x0 (v_b172 : (Fin 3 → Int))
def G_ringref5_BoxesErr_L4_ex : G_ringref5_BoxesErr_L4_R → Ex
  | .x0 _ => .exit 4
def G_ringref5_BoxesErr_L4_st (v_l139 : (List (Fin 3 → Int))) (v_x163 : Int) : G_ringref5_BoxesErr_L4_R → PS
  | .x0 v_b172 => ⟨[.d (.sl (v_l139.map (fun x => PV.agg [.v (.int .i64 (x 0)), .v (.int .i64 (x 1)), .v (.int .i64 (x 2))]))), dd, dd, dd, dd, dd, .ref 0 0, dd, dd, dd, dd, dd, dd, dd, dd, dd, dd, dd, dd, dd, dd, dd, dd, dd, dd, dd, dd, dd, dd, dd, dd, dd, dd, dd, dd, dd, dd, dd, dd, dd, dd, dd, dd, dd, dd, dd, dd, dd, dd, .d (.sl (v_l139.map (fun x => PV.agg [.v (.int .i64 (x 0)), .v (.int .i64 (x 1)), .v (.int .i64 (x 2))]))), .d (.v (.int .i64 (v_l139.length : Int))), .d (.v (.int .i64 v_x163)), dd, dd, dd, dd, dd, dd, dd, dd, dd, dd, dd, dd, dd, dd, dd, dd, dd, dd, dd, dd, dd, dd, dd, dd, dd], [.box [.d (.v (.int .i64 (v_b172 0))), .d (.v (.int .i64 (v_b172 1))), .d (.v (.int .i64 (v_b172 2)))]]⟩
def G_ringref5_BoxesErr_L4_hd (v_l139 : (List (Fin 3 → Int))) (v_x163 : Int) (v_x168 : Int) (v_b169 : (Fin 3 → Int)) : PS := ⟨[.d (.sl (v_l139.map (fun x => PV.agg [.v (.int .i64 (x 0)), .v (.int .i64 (x 1)), .v (.int .i64 (x 2))]))), dd, dd, dd, dd, .d (.v (.int .i64 v_x163)), .ref 0 0, dd, dd, dd, dd, dd, dd, dd, dd, dd, dd, dd, dd, dd, dd, dd, dd, dd, dd, dd, dd, dd, dd, dd, dd, dd, dd, dd, dd, dd, dd, dd, dd, dd, dd, dd, dd, dd, dd, dd, dd, dd, dd, .d (.sl (v_l139.map (fun x => PV.agg [.v (.int .i64 (x 0)), .v (.int .i64 (x 1)), .v (.int .i64 (x 2))]))), .d (.v (.int .i64 (v_l139.length : Int))), .d (.v (.int .i64 v_x163)), dd, dd, dd, dd, .d (.sl (v_l139.map (fun x => PV.agg [.v (.int .i64 (x 0)), .v (.int .i64 (x 1)), .v (.int .i64 (x 2))]))), .d (.v (.int .i64 (v_l139.length : Int))), .d (.v (.int .i64 v_x168)), dd, dd, dd, dd, dd, dd, dd, dd, dd, dd, dd, dd, dd, dd, dd, dd, dd, dd], [.box [.d (.v (.int .i64 (v_b169 0))), .d (.v (.int .i64 (v_b169 1))), .d (.v (.int .i64 (v_b169 2)))]]⟩
def G_ringref5_BoxesErr_L4 (n : Nat) (v_l139 : (List (Fin 3 → Int))) (v_x163 : Int) : Nat → Int → (Fin 3 → Int) → Option G_ringref5_BoxesErr_L4_R
  | 0, _, _ => none
  | k + 1, v_x168, v_b169 =>
    if v_x168 < (v_l139.length : Int) then
     (getI v_l139 v_x168).bind fun (v_y171 : (Fin 3 → Int)) =>
     if (v_y171 0) = v_x163 then
      G_ringref5_BoxesErr_L4 n v_l139 v_x163 k (wi .i64 (v_x168 + 1)) (fun i : Fin 3 => [(v_b169 0), (wi .i64 ((v_b169 1) - (v_y171 1))), (v_b169 2)].get i)
     else
      G_ringref5_BoxesErr_L4 n v_l139 v_x163 k (wi .i64 (v_x168 + 1)) v_b169
    else
     some (.x0 v_b169)
theorem G_ringref5_BoxesErr_L4_ok {Fi : Ex → PS → Prop} (hF : KC 77 Fi) (ks : List Fr) (n : Nat) (v_l139 : (List (Fin 3 → Int))) (v_x163 : Int)  : ∀ (k : Nat) (v_x168 : Int) (v_b169 : (Fin 3 → Int)) (o : G_ringref5_BoxesErr_L4_R), G_ringref5_BoxesErr_L4 n v_l139 v_x163 k v_x168 v_b169 = some o → RunE Try.prog 77 Fi ks (G_ringref5_BoxesErr_L4_ex o) (G_ringref5_BoxesErr_L4_st v_l139 v_x163 o) → RunE Try.prog 77 Fi (.l k (cP (cB (cR (cL (cR (cB (cL (cR (cR (cP (cB (cR (cL (cR (cR (cR (bodyOf Try.f71))))))))))))))))) :: ks) .normal (G_ringref5_BoxesErr_L4_hd v_l139 v_x163 v_x168 v_b169)
  | 0, v_x168, v_b169, o, h, q => by rw [G_ringref5_BoxesErr_L4] at h; cases h
  | k + 1, v_x168, v_b169, o, h, q => by
    rw [G_ringref5_BoxesErr_L4] at h
    by_cases h179 : v_x168 < (v_l139.length : Int)
    · rw [if_pos h179] at h
      obtain ⟨v_y171, h183, h⟩ := bind_some h
      by_cases h185 : (v_y171 0) = v_x163
      · rw [if_pos h185] at h
        exact pkk_sound TTok mix hF 16 (hs := [.t true, .y ((fun x => PV.agg [.v (.int .i64 (x 0)), .v (.int .i64 (x 1)), .v (.int .i64 (x 2))]) v_y171), .c, .c, .t true, .c, .c, .c]) (ts := []) (s := [0]) (l := [0, 5, 6, 49, 50, 51, 56, 57, 58]) (by kernel_rfl) (by kernel_rfl) (.cons (dt h179) (.cons (getI_ob (f := (fun x => PV.agg [.v (.int .i64 (x 0)), .v (.int .i64 (x 1)), .v (.int .i64 (x 2))])) h183) (.cons (show 0 + 3 ≤ 3 by decide) (.cons (show (0 : Int) ≤ 0 ∧ (0 : Int) < 3 by decide) (.cons (bt h185) (.cons (show (0 : Int) ≤ 1 ∧ (1 : Int) < 3 by decide) (.cons (show (0 : Int) ≤ 1 ∧ (1 : Int) < 3 by decide) (.cons (show (0 : Int) ≤ 1 ∧ (1 : Int) < 3 by decide) (.cons (show 1 + 1 ≤ 3 by decide) .nil))))))))) (G_ringref5_BoxesErr_L4_ok hF ks n v_l139 v_x163 k (wi .i64 (v_x168 + 1)) (fun i : Fin 3 => [(v_b169 0), (wi .i64 ((v_b169 1) - (v_y171 1))), (v_b169 2)].get i) _ h q)
      · rw [if_neg h185] at h
        exact pkk_sound TTok mix hF 16 (hs := [.t true, .y ((fun x => PV.agg [.v (.int .i64 (x 0)), .v (.int .i64 (x 1)), .v (.int .i64 (x 2))]) v_y171), .c, .c, .t false]) (ts := []) (s := [0]) (l := [0, 5, 6, 49, 50, 51, 56, 57, 58]) (by kernel_rfl) (by kernel_rfl) (.cons (dt h179) (.cons (getI_ob (f := (fun x => PV.agg [.v (.int .i64 (x 0)), .v (.int .i64 (x 1)), .v (.int .i64 (x 2))])) h183) (.cons (show 0 + 3 ≤ 3 by decide) (.cons (show (0 : Int) ≤ 0 ∧ (0 : Int) < 3 by decide) (.cons (bf h185) .nil))))) (G_ringref5_BoxesErr_L4_ok hF ks n v_l139 v_x163 k (wi .i64 (v_x168 + 1)) v_b169 _ h q)
    · rw [if_neg h179] at h
      cases h
      exact pkk_sound TTok mix hF 8 (hs := [.t false]) (ts := []) (s := [0]) (l := [0, 6, 49, 50, 51]) (by kernel_rfl) (by kernel_rfl) (.cons (df h179) .nil) q
inductive G_ringref5_BoxesErr_L5_R where
  | x0 (v_x175 : Int)
  | x1 
def G_ringref5_BoxesErr_L5_ex : G_ringref5_BoxesErr_L5_R → Ex
  | .x0 _ => .ret
  | .x1  => .exit 2
def G_ringref5_BoxesErr_L5_st (v_l139 : (List (Fin 3 → Int))) : G_ringref5_BoxesErr_L5_R → PS
  | .x0 v_x175 => ⟨[dd, dd, .d (.v (.int .i64 v_x175)), dd, dd, dd, dd, dd, dd, dd, dd, dd, dd, dd, dd, dd, dd, dd, dd, dd, dd, dd, dd, dd, dd, dd, dd, dd, dd, dd, dd, dd, dd, dd, dd, dd, dd, dd, dd, dd, dd, dd, dd, dd, dd, dd, dd, dd, dd, dd, dd, dd, dd, dd, dd, dd, dd, dd, dd, dd, dd, dd, dd, dd, dd, dd, dd, dd, dd, dd, dd, dd, dd, dd, dd, dd, dd], []⟩
  | .x1  => ⟨[dd, dd, dd, dd, dd, dd, dd, dd, dd, dd, dd, dd, dd, dd, dd, dd, dd, dd, dd, dd, dd, dd, dd, dd, dd, dd, dd, dd, dd, dd, dd, dd, dd, dd, dd, dd, dd, dd, dd, dd, dd, dd, dd, dd, dd, dd, dd, dd, dd, dd, dd, dd, dd, dd, dd, dd, dd, dd, dd, dd, dd, dd, dd, dd, dd, dd, dd, dd, dd, dd, dd, dd, dd, dd, dd, dd, dd], []⟩
def G_ringref5_BoxesErr_L5_hd (v_l139 : (List (Fin 3 → Int))) (v_x163 : Int) : PS := ⟨[.d (.sl (v_l139.map (fun x => PV.agg [.v (.int .i64 (x 0)), .v (.int .i64 (x 1)), .v (.int .i64 (x 2))]))), dd, dd, dd, dd, dd, dd, dd, dd, dd, dd, dd, dd, dd, dd, dd, dd, dd, dd, dd, dd, dd, dd, dd, dd, dd, dd, dd, dd, dd, dd, dd, dd, dd, dd, dd, dd, dd, dd, dd, dd, dd, dd, dd, dd, dd, dd, dd, dd, .d (.sl (v_l139.map (fun x => PV.agg [.v (.int .i64 (x 0)), .v (.int .i64 (x 1)), .v (.int .i64 (x 2))]))), .d (.v (.int .i64 (v_l139.length : Int))), .d (.v (.int .i64 v_x163)), dd, dd, dd, dd, dd, dd, dd, dd, dd, dd, dd, dd, dd, dd, dd, dd, dd, dd, dd, dd, dd, dd, dd, dd, dd], []⟩
def G_ringref5_BoxesErr_L5 (n : Nat) (v_l139 : (List (Fin 3 → Int))) : Nat → Int → Option G_ringref5_BoxesErr_L5_R
  | 0, _ => none
  | k + 1, v_x163 =>
    if v_x163 < (v_l139.length : Int) then
     (getI v_l139 v_x163).bind fun (v_y164 : (Fin 3 → Int)) =>
     (G_ringref5_BoxesErr_L4 n v_l139 v_x163 n 0 v_y164).bind fun v_o173 => match v_o173 with
     | .x0 v_z174 =>
       if (v_z174 1) < 0 then
        some (.x0 20)
       else
        G_ringref5_BoxesErr_L5 n v_l139 k (wi .i64 (v_x163 + 1))
    else
     some (.x1 )
theorem G_ringref5_BoxesErr_L5_ok {Fi : Ex → PS → Prop} (hF : KC 77 Fi) (ks : List Fr) (n : Nat) (v_l139 : (List (Fin 3 → Int)))  : ∀ (k : Nat) (v_x163 : Int) (o : G_ringref5_BoxesErr_L5_R), G_ringref5_BoxesErr_L5 n v_l139 k v_x163 = some o → RunE Try.prog 77 Fi ks (G_ringref5_BoxesErr_L5_ex o) (G_ringref5_BoxesErr_L5_st v_l139 o) → RunE Try.prog 77 Fi (.l k (cP (cB (cR (cL (cR (cR (cR (bodyOf Try.f71)))))))) :: ks) .normal (G_ringref5_BoxesErr_L5_hd v_l139 v_x163)
  | 0, v_x163, o, h, q => by rw [G_ringref5_BoxesErr_L5] at h; cases h
  | k + 1, v_x163, o, h, q => by
    rw [G_ringref5_BoxesErr_L5] at h
    by_cases h170 : v_x163 < (v_l139.length : Int)
    · rw [if_pos h170] at h
      obtain ⟨v_y164, h171, h⟩ := bind_some h
      obtain ⟨v_o173, h186, h⟩ := bind_some h
      refine pkk_sound TTok mix hF 15 (hs := [.t true, .y ((fun x => PV.agg [.v (.int .i64 (x 0)), .v (.int .i64 (x 1)), .v (.int .i64 (x 2))]) v_y164), .c, .u (.d (.v (.int .i64 (v_l139.length : Int)))), .n n]) (ts := []) (s := [12]) (l := [0, 5, 6, 49, 50, 51, 56, 57, 58]) (by kernel_rfl) (by kernel_rfl) (.cons (dt h170) (.cons (getI_ob (f := (fun x => PV.agg [.v (.int .i64 (x 0)), .v (.int .i64 (x 1)), .v (.int .i64 (x 2))])) h171) (.cons (show 0 + 3 ≤ 3 by decide) (.cons (len_ob (f := (fun x => PV.agg [.v (.int .i64 (x 0)), .v (.int .i64 (x 1)), .v (.int .i64 (x 2))])) (l := v_l139)) .nil)))) (G_ringref5_BoxesErr_L4_ok hF (.b 4 :: .s (cR (cR (cB (cL (cR (cR (cP (cB (cR (cL (cR (cR (cR (bodyOf Try.f71)))))))))))))) :: .b 3 :: .s (cR (cR (cR (cP (cB (cR (cL (cR (cR (cR (bodyOf Try.f71))))))))))) :: .l k (cP (cB (cR (cL (cR (cR (cR (bodyOf Try.f71)))))))) :: ks) n v_l139 v_x163 n 0 v_y164 _ h186 ?_)
      cases v_o173 with
      | x0 v_z174 =>
        dsimp only at h
        by_cases h187 : (v_z174 1) < 0
        · rw [if_pos h187] at h
          cases h
          exact pkk_sound TTok mix hF 10 (hs := [.c, .t true]) (ts := []) (s := []) (l := [2]) (by kernel_rfl) (by kernel_rfl) (.cons (show (0 : Int) ≤ 1 ∧ (1 : Int) < 3 by decide) (.cons (dt h187) .nil)) q
        · rw [if_neg h187] at h
          exact pkk_sound TTok mix hF 7 (hs := [.c, .t false]) (ts := []) (s := []) (l := [0, 49, 50, 51]) (by kernel_rfl) (by kernel_rfl) (.cons (show (0 : Int) ≤ 1 ∧ (1 : Int) < 3 by decide) (.cons (df h187) .nil)) (G_ringref5_BoxesErr_L5_ok hF ks n v_l139 k (wi .i64 (v_x163 + 1)) _ h q)
    · rw [if_neg h170] at h
      cases h
      exact pkk_sound TTok mix hF 8 (hs := [.t false]) (ts := []) (s := []) (l := []) (by kernel_rfl) (by kernel_rfl) (.cons (df h170) .nil) q
/- ringhall/ringref5.BoxesErr -/
def G_ringref5_BoxesErr (n : Nat) (v_l139 : (List (Fin 3 → Int))) : Option (Int) :=
  if (v_l139.length : Int) > 12 then
   some 2
  else
   (G_ringref5_BoxesErr_L3 n v_l139 n 0).bind fun v_o161 => match v_o161 with
   | .x0 v_z162 =>
     some v_z162
   | .x1  =>
     (G_ringref5_BoxesErr_L5 n v_l139 n 0).bind fun v_o176 => match v_o176 with
     | .x0 v_z177 =>
       some v_z177
     | .x1  =>
       some 0
theorem G_ringref5_BoxesErr_ok (n : Nat) (v_l139 : (List (Fin 3 → Int))) (r : Int) (h : G_ringref5_BoxesErr n v_l139 = some r) : Ret Try.prog 71 [(eL (fun x => PV.agg [.v (.int .i64 (x 0)), .v (.int .i64 (x 1)), .v (.int .i64 (x 2))])) v_l139] ((eI .i64) r) := by
  refine ret_run (n := 77) (fn := Try.f71) (c := bodyOf Try.f71) (by kernel_rfl) (by kernel_rfl) (by kernel_rfl) (by kernel_rfl) ?_
  have hF : KC 77 (FinR Try.prog Try.f71 ((eI .i64) r)) := FinR.kc' (by kernel_rfl)
  unfold G_ringref5_BoxesErr at h
  by_cases h142 : (v_l139.length : Int) > 12
  · rw [if_pos h142] at h
    obtain rfl := Option.some.inj h
    exact pend_sound TTok mix 10 (hs := [.u (.d (.v (.int .i64 (v_l139.length : Int)))), .t true]) (by kernel_rfl) (by kernel_rfl) (by kernel_rfl) (.cons (len_ob (f := (fun x => PV.agg [.v (.int .i64 (x 0)), .v (.int .i64 (x 1)), .v (.int .i64 (x 2))])) (l := v_l139)) (.cons (dt h142) .nil))
  · rw [if_neg h142] at h
    obtain ⟨v_o161, h169, h⟩ := bind_some h
    refine pkk_sound TTok mix hF 12 (hs := [.u (.d (.v (.int .i64 (v_l139.length : Int)))), .t false, .u (.d (.v (.int .i64 (v_l139.length : Int)))), .n n]) (ts := []) (s := []) (l := [0, 12, 13, 14]) (by kernel_rfl) (by kernel_rfl) (.cons (len_ob (f := (fun x => PV.agg [.v (.int .i64 (x 0)), .v (.int .i64 (x 1)), .v (.int .i64 (x 2))])) (l := v_l139)) (.cons (df h142) (.cons (len_ob (f := (fun x => PV.agg [.v (.int .i64 (x 0)), .v (.int .i64 (x 1)), .v (.int .i64 (x 2))])) (l := v_l139)) .nil))) (G_ringref5_BoxesErr_L3_ok hF (.b 0 :: .s (cR (cR (cR (bodyOf Try.f71)))) :: []) n v_l139 n 0 _ h169 ?_)
    cases v_o161 with
    | x0 v_z162 =>
      dsimp only at h
      obtain rfl := Option.some.inj h
      exact pend_sound TTok mix 2 (hs := []) (by kernel_rfl) (by kernel_rfl) (by kernel_rfl) .nil
    | x1  =>
      dsimp only at h
      obtain ⟨v_o176, h188, h⟩ := bind_some h
      refine pkk_sound TTok mix hF 6 (hs := [.u (.d (.v (.int .i64 (v_l139.length : Int)))), .n n]) (ts := []) (s := []) (l := [0, 49, 50, 51]) (by kernel_rfl) (by kernel_rfl) (.cons (len_ob (f := (fun x => PV.agg [.v (.int .i64 (x 0)), .v (.int .i64 (x 1)), .v (.int .i64 (x 2))])) (l := v_l139)) .nil) (G_ringref5_BoxesErr_L5_ok hF (.b 2 :: .s (cR (cR (cR (cR (bodyOf Try.f71))))) :: []) n v_l139 n 0 _ h188 ?_)
      cases v_o176 with
      | x0 v_z177 =>
        dsimp only at h
        obtain rfl := Option.some.inj h
        exact pend_sound TTok mix 2 (hs := []) (by kernel_rfl) (by kernel_rfl) (by kernel_rfl) .nil
      | x1  =>
        dsimp only at h
        obtain rfl := Option.some.inj h
        exact pend_sound TTok mix 4 (hs := []) (by kernel_rfl) (by kernel_rfl) (by kernel_rfl) .nil
/- ringhall/ringref5.Above -/
def G_ringref5_Above : Nat → (List (Fin 3 → Int)) → Int → Option ((List Int))
  | 0, _, _ => none
  | n + 1, v_l223, v_k224 =>
  if v_k224 < 0 then
   some ([] : (List Int))
  else
   (getI v_l223 v_k224).bind fun (v_y225 : (Fin 3 → Int)) =>
   ((G_ringref5_Above n) v_l223 (v_y225 0)).bind fun (v_r227 : ((List Int))) =>
   (app 8 ([v_k224]) v_r227).bind fun (v_a228 : (List Int)) =>
   some v_a228
theorem G_ringref5_Above_ok : ∀ (n : Nat) (v_l223 : (List (Fin 3 → Int))) (v_k224 : Int) (r : (List Int)) (h : G_ringref5_Above n v_l223 v_k224 = some r), Ret Try.prog 74 [(eL (fun x => PV.agg [.v (.int .i64 (x 0)), .v (.int .i64 (x 1)), .v (.int .i64 (x 2))])) v_l223, (eI .i64) v_k224] ((eL (eI .i64)) r)
  | 0, v_l223, v_k224, r, h => by rw [G_ringref5_Above] at h; cases h
  | n + 1, v_l223, v_k224, r, h => by
    refine ret_run (n := 17) (fn := Try.f74) (c := bodyOf Try.f74) (by kernel_rfl) (by kernel_rfl) (by kernel_rfl) (by kernel_rfl) ?_
    have hF : KC 17 (FinR Try.prog Try.f74 ((eL (eI .i64)) r)) := FinR.kc' (by kernel_rfl)
    rw [G_ringref5_Above] at h
    by_cases h246 : v_k224 < 0
    · rw [if_pos h246] at h
      obtain rfl := Option.some.inj h
      exact pend_sound TTok mix 10 (hs := [.t true]) (by kernel_rfl) (by kernel_rfl) (by kernel_rfl) (.cons (dt h246) .nil)
    · rw [if_neg h246] at h
      obtain ⟨v_y225, h247, h⟩ := bind_some h
      obtain ⟨v_r227, h248, h⟩ := bind_some h
      obtain ⟨v_a228, h249, h⟩ := bind_some h
      obtain rfl := Option.some.inj h
      exact pend_sound TTok mix 10 (hs := [.t false, .w ([v_k224].map (eI .i64)), .y ((fun x => PV.agg [.v (.int .i64 (x 0)), .v (.int .i64 (x 1)), .v (.int .i64 (x 2))]) v_y225), .c, .r ((eL (eI .i64)) v_r227), .w (v_a228.map (eI .i64))]) (by kernel_rfl) (by kernel_rfl) (by kernel_rfl) (.cons (df h246) (.cons (Eq.refl ([v_k224].map (eI .i64))) (.cons (getI_ob (f := (fun x => PV.agg [.v (.int .i64 (x 0)), .v (.int .i64 (x 1)), .v (.int .i64 (x 2))])) h247) (.cons (show (0 : Int) ≤ 0 ∧ (0 : Int) < 3 by decide) (.cons ((fun x0 x1 r h => G_ringref5_Above_ok n x0 x1 r h) v_l223 (v_y225 0) _ h248) (.cons (app_ob (f := (eI .i64)) (s := 1) h249 (fun _ => rfl)).1 (.cons (app_ob (f := (eI .i64)) (s := 1) h249 (fun _ => rfl)).2.1 (.cons (app_ob (f := (eI .i64)) (s := 1) h249 (fun _ => rfl)).2.2.1 (.cons (app_ob (f := (eI .i64)) (s := 1) h249 (fun _ => rfl)).2.2.2 .nil)))))))))
inductive G_slices_Equal_limit_Box_limit_Box_L1_R where
  | x0 (v_x309 : Bool)
  | x1 
def G_slices_Equal_limit_Box_limit_Box_L1_ex : G_slices_Equal_limit_Box_limit_Box_L1_R → Ex
  | .x0 _ => .ret
  | .x1  => .exit 0
def G_slices_Equal_limit_Box_limit_Box_L1_st (v_s302 : (List S_limit_Box)) (v_s303 : (List S_limit_Box)) : G_slices_Equal_limit_Box_limit_Box_L1_R → PS
  | .x0 v_x309 => ⟨[dd, dd, dd, dd, .d (.v (.bool v_x309)), dd, dd, dd, dd, dd, dd, dd, dd, dd, dd, dd, dd, dd, dd, dd, dd, dd, dd, dd, dd, dd], []⟩
  | .x1  => ⟨[dd, dd, dd, dd, dd, dd, dd, dd, dd, dd, dd, dd, dd, dd, dd, dd, dd, dd, dd, dd, dd, dd, dd, dd, dd, dd], []⟩
def G_slices_Equal_limit_Box_limit_Box_L1_hd (v_s302 : (List S_limit_Box)) (v_s303 : (List S_limit_Box)) (v_x304 : Int) : PS := ⟨[.d (.sl (v_s302.map eS_limit_Box)), .d (.sl (v_s303.map eS_limit_Box)), dd, dd, dd, dd, dd, dd, dd, dd, dd, dd, .d (.v (.int .i64 (v_s302.length : Int))), .d (.v (.int .i64 v_x304)), dd, dd, dd, dd, dd, dd, dd, dd, dd, dd, dd, dd], []⟩
def G_slices_Equal_limit_Box_limit_Box_L1 (n : Nat) (v_s302 : (List S_limit_Box)) (v_s303 : (List S_limit_Box)) : Nat → Int → Option G_slices_Equal_limit_Box_limit_Box_L1_R
  | 0, _ => none
  | k + 1, v_x304 =>
    if v_x304 < (v_s302.length : Int) then
     (getI v_s302 v_x304).bind fun (v_y307 : S_limit_Box) =>
     (getI v_s303 v_x304).bind fun (v_y308 : S_limit_Box) =>
     if (eqRes .neq (eqS_limit_Box v_y307 v_y308)) = true then
      some (.x0 false)
     else
      G_slices_Equal_limit_Box_limit_Box_L1 n v_s302 v_s303 k (wi .i64 (v_x304 + 1))
    else
     some (.x1 )
theorem G_slices_Equal_limit_Box_limit_Box_L1_ok {Fi : Ex → PS → Prop} (hF : KC 26 Fi) (ks : List Fr) (n : Nat) (v_s302 : (List S_limit_Box)) (v_s303 : (List S_limit_Box))  : ∀ (k : Nat) (v_x304 : Int) (o : G_slices_Equal_limit_Box_limit_Box_L1_R), G_slices_Equal_limit_Box_limit_Box_L1 n v_s302 v_s303 k v_x304 = some o → RunE Try.prog 26 Fi ks (G_slices_Equal_limit_Box_limit_Box_L1_ex o) (G_slices_Equal_limit_Box_limit_Box_L1_st v_s302 v_s303 o) → RunE Try.prog 26 Fi (.l k (cP (cB (cR (cL (cR (cR (bodyOf Try.f75))))))) :: ks) .normal (G_slices_Equal_limit_Box_limit_Box_L1_hd v_s302 v_s303 v_x304)
  | 0, v_x304, o, h, q => by rw [G_slices_Equal_limit_Box_limit_Box_L1] at h; cases h
  | k + 1, v_x304, o, h, q => by
    rw [G_slices_Equal_limit_Box_limit_Box_L1] at h
    by_cases h340 : v_x304 < (v_s302.length : Int)
    · rw [if_pos h340] at h
      obtain ⟨v_y307, h344, h⟩ := bind_some h
      obtain ⟨v_y308, h345, h⟩ := bind_some h
      by_cases h346 : (eqRes .neq (eqS_limit_Box v_y307 v_y308)) = true
      · rw [if_pos h346] at h
        cases h
        exact pkk_sound TTok mix hF 19 (hs := [.t true, .y (eS_limit_Box v_y307), .y (eS_limit_Box v_y308), .q (eqS_limit_Box v_y307 v_y308), .t true]) (ts := []) (s := []) (l := [4]) (by kernel_rfl) (by kernel_rfl) (.cons (dt h340) (.cons (getI_ob (f := eS_limit_Box) h344) (.cons (getI_ob (f := eS_limit_Box) h345) (.cons (eqS_limit_Box_ok v_y307 v_y308) (.cons h346 .nil))))) q
      · rw [if_neg h346] at h
        exact pkk_sound TTok mix hF 16 (hs := [.t true, .y (eS_limit_Box v_y307), .y (eS_limit_Box v_y308), .q (eqS_limit_Box v_y307 v_y308), .t false]) (ts := []) (s := []) (l := [0, 1, 12, 13]) (by kernel_rfl) (by kernel_rfl) (.cons (dt h340) (.cons (getI_ob (f := eS_limit_Box) h344) (.cons (getI_ob (f := eS_limit_Box) h345) (.cons (eqS_limit_Box_ok v_y307 v_y308) (.cons (vf h346) .nil))))) (G_slices_Equal_limit_Box_limit_Box_L1_ok hF ks n v_s302 v_s303 k (wi .i64 (v_x304 + 1)) _ h q)
    · rw [if_neg h340] at h
      cases h
      exact pkk_sound TTok mix hF 8 (hs := [.t false]) (ts := []) (s := []) (l := []) (by kernel_rfl) (by kernel_rfl) (.cons (df h340) .nil) q
/- slices.Equal[[]ringhall/limit.Box,ringhall/limit.Box] -/
def G_slices_Equal_limit_Box_limit_Box (n : Nat) (v_s302 : (List S_limit_Box)) (v_s303 : (List S_limit_Box)) : Option (Bool) :=
  if (v_s302.length : Int) = (v_s303.length : Int) then
   (G_slices_Equal_limit_Box_limit_Box_L1 n v_s302 v_s303 n 0).bind fun v_o310 => match v_o310 with
   | .x0 v_z311 =>
     some v_z311
   | .x1  =>
     some true
  else
   some false
theorem G_slices_Equal_limit_Box_limit_Box_ok (n : Nat) (v_s302 : (List S_limit_Box)) (v_s303 : (List S_limit_Box)) (r : Bool) (h : G_slices_Equal_limit_Box_limit_Box n v_s302 v_s303 = some r) : Ret Try.prog 75 [(eL eS_limit_Box) v_s302, (eL eS_limit_Box) v_s303] (eB r) := by
  refine ret_run (n := 26) (fn := Try.f75) (c := bodyOf Try.f75) (by kernel_rfl) (by kernel_rfl) (by kernel_rfl) (by kernel_rfl) ?_
  have hF : KC 26 (FinR Try.prog Try.f75 (eB r)) := FinR.kc' (by kernel_rfl)
  unfold G_slices_Equal_limit_Box_limit_Box at h
  by_cases h339 : (v_s302.length : Int) = (v_s303.length : Int)
  · rw [if_pos h339] at h
    obtain ⟨v_o310, h347, h⟩ := bind_some h
    refine pkk_sound TTok mix hF 12 (hs := [.u (.d (.v (.int .i64 (v_s302.length : Int)))), .u (.d (.v (.int .i64 (v_s303.length : Int)))), .t false, .u (.d (.v (.int .i64 (v_s302.length : Int)))), .n n]) (ts := []) (s := []) (l := [0, 1, 12, 13]) (by kernel_rfl) (by kernel_rfl) (.cons (len_ob (f := eS_limit_Box) (l := v_s302)) (.cons (len_ob (f := eS_limit_Box) (l := v_s303)) (.cons (nf h339) (.cons (len_ob (f := eS_limit_Box) (l := v_s302)) .nil)))) (G_slices_Equal_limit_Box_limit_Box_L1_ok hF (.b 0 :: .s (cR (cR (cR (bodyOf Try.f75)))) :: []) n v_s302 v_s303 n 0 _ h347 ?_)
    cases v_o310 with
    | x0 v_z311 =>
      dsimp only at h
      obtain rfl := Option.some.inj h
      exact pend_sound TTok mix 2 (hs := []) (by kernel_rfl) (by kernel_rfl) (by kernel_rfl) .nil
    | x1  =>
      dsimp only at h
      obtain rfl := Option.some.inj h
      exact pend_sound TTok mix 4 (hs := []) (by kernel_rfl) (by kernel_rfl) (by kernel_rfl) .nil
  · rw [if_neg h339] at h
    obtain rfl := Option.some.inj h
    exact pend_sound TTok mix 10 (hs := [.u (.d (.v (.int .i64 (v_s302.length : Int)))), .u (.d (.v (.int .i64 (v_s303.length : Int)))), .t true]) (by kernel_rfl) (by kernel_rfl) (by kernel_rfl) (.cons (len_ob (f := eS_limit_Box) (l := v_s302)) (.cons (len_ob (f := eS_limit_Box) (l := v_s303)) (.cons (nt h339) .nil)))
inductive G_ringref5_Own_L1_R where
  | x0 (v_n359 : Int)
def G_ringref5_Own_L1_ex : G_ringref5_Own_L1_R → Ex
  | .x0 _ => .exit 0
def G_ringref5_Own_L1_st (v_k353 : Int) (v_l352 : (List (Fin 3 → Int))) : G_ringref5_Own_L1_R → PS
  | .x0 v_n359 => ⟨[dd, dd, dd, dd, dd, .d (.v (.int .i64 v_n359)), dd, dd, dd, dd, dd, dd, dd, dd, dd, dd, dd, dd, dd, dd, dd, dd, dd, dd, dd, dd, dd, dd, dd], []⟩
def G_ringref5_Own_L1_hd (v_k353 : Int) (v_l352 : (List (Fin 3 → Int))) (v_n355 : Int) (v_x356 : Int) : PS := ⟨[dd, .d (.v (.int .i64 v_k353)), dd, dd, dd, .d (.v (.int .i64 v_n355)), dd, dd, dd, dd, dd, dd, dd, .d (.sl (v_l352.map (fun x => PV.agg [.v (.int .i64 (x 0)), .v (.int .i64 (x 1)), .v (.int .i64 (x 2))]))), .d (.v (.int .i64 (v_l352.length : Int))), .d (.v (.int .i64 v_x356)), dd, dd, dd, dd, dd, dd, dd, dd, dd, dd, dd, dd, dd], []⟩
def G_ringref5_Own_L1 (n : Nat) (v_k353 : Int) (v_l352 : (List (Fin 3 → Int))) : Nat → Int → Int → Option G_ringref5_Own_L1_R
  | 0, _, _ => none
  | k + 1, v_n355, v_x356 =>
    if v_x356 < (v_l352.length : Int) then
     (getI v_l352 v_x356).bind fun (v_y358 : (Fin 3 → Int)) =>
     if (v_y358 0) = v_k353 then
      G_ringref5_Own_L1 n v_k353 v_l352 k (wi .i64 (v_n355 - (v_y358 1))) (wi .i64 (v_x356 + 1))
     else
      G_ringref5_Own_L1 n v_k353 v_l352 k v_n355 (wi .i64 (v_x356 + 1))
    else
     some (.x0 v_n355)
theorem G_ringref5_Own_L1_ok {Fi : Ex → PS → Prop} (hF : KC 29 Fi) (ks : List Fr) (n : Nat) (v_k353 : Int) (v_l352 : (List (Fin 3 → Int)))  : ∀ (k : Nat) (v_n355 : Int) (v_x356 : Int) (o : G_ringref5_Own_L1_R), G_ringref5_Own_L1 n v_k353 v_l352 k v_n355 v_x356 = some o → RunE Try.prog 29 Fi ks (G_ringref5_Own_L1_ex o) (G_ringref5_Own_L1_st v_k353 v_l352 o) → RunE Try.prog 29 Fi (.l k (cP (cB (cR (cL (cR (cR (bodyOf Try.f76))))))) :: ks) .normal (G_ringref5_Own_L1_hd v_k353 v_l352 v_n355 v_x356)
  | 0, v_n355, v_x356, o, h, q => by rw [G_ringref5_Own_L1] at h; cases h
  | k + 1, v_n355, v_x356, o, h, q => by
    rw [G_ringref5_Own_L1] at h
    by_cases h370 : v_x356 < (v_l352.length : Int)
    · rw [if_pos h370] at h
      obtain ⟨v_y358, h374, h⟩ := bind_some h
      by_cases h376 : (v_y358 0) = v_k353
      · rw [if_pos h376] at h
        exact pkk_sound TTok mix hF 16 (hs := [.t true, .y ((fun x => PV.agg [.v (.int .i64 (x 0)), .v (.int .i64 (x 1)), .v (.int .i64 (x 2))]) v_y358), .c, .c, .t true, .c]) (ts := []) (s := []) (l := [1, 5, 13, 14, 15]) (by kernel_rfl) (by kernel_rfl) (.cons (dt h370) (.cons (getI_ob (f := (fun x => PV.agg [.v (.int .i64 (x 0)), .v (.int .i64 (x 1)), .v (.int .i64 (x 2))])) h374) (.cons (show 0 + 3 ≤ 3 by decide) (.cons (show (0 : Int) ≤ 0 ∧ (0 : Int) < 3 by decide) (.cons (bt h376) (.cons (show (0 : Int) ≤ 1 ∧ (1 : Int) < 3 by decide) .nil)))))) (G_ringref5_Own_L1_ok hF ks n v_k353 v_l352 k (wi .i64 (v_n355 - (v_y358 1))) (wi .i64 (v_x356 + 1)) _ h q)
      · rw [if_neg h376] at h
        exact pkk_sound TTok mix hF 16 (hs := [.t true, .y ((fun x => PV.agg [.v (.int .i64 (x 0)), .v (.int .i64 (x 1)), .v (.int .i64 (x 2))]) v_y358), .c, .c, .t false]) (ts := []) (s := []) (l := [1, 5, 13, 14, 15]) (by kernel_rfl) (by kernel_rfl) (.cons (dt h370) (.cons (getI_ob (f := (fun x => PV.agg [.v (.int .i64 (x 0)), .v (.int .i64 (x 1)), .v (.int .i64 (x 2))])) h374) (.cons (show 0 + 3 ≤ 3 by decide) (.cons (show (0 : Int) ≤ 0 ∧ (0 : Int) < 3 by decide) (.cons (bf h376) .nil))))) (G_ringref5_Own_L1_ok hF ks n v_k353 v_l352 k v_n355 (wi .i64 (v_x356 + 1)) _ h q)
    · rw [if_neg h370] at h
      cases h
      exact pkk_sound TTok mix hF 8 (hs := [.t false]) (ts := []) (s := []) (l := [5]) (by kernel_rfl) (by kernel_rfl) (.cons (df h370) .nil) q
/- ringhall/ringref5.Own -/
def G_ringref5_Own (n : Nat) (v_l352 : (List (Fin 3 → Int))) (v_k353 : Int) : Option (Int) :=
  (getI v_l352 v_k353).bind fun (v_y354 : (Fin 3 → Int)) =>
  (G_ringref5_Own_L1 n v_k353 v_l352 n (v_y354 1) 0).bind fun v_o360 => match v_o360 with
  | .x0 v_z361 =>
    some v_z361
theorem G_ringref5_Own_ok (n : Nat) (v_l352 : (List (Fin 3 → Int))) (v_k353 : Int) (r : Int) (h : G_ringref5_Own n v_l352 v_k353 = some r) : Ret Try.prog 76 [(eL (fun x => PV.agg [.v (.int .i64 (x 0)), .v (.int .i64 (x 1)), .v (.int .i64 (x 2))])) v_l352, (eI .i64) v_k353] ((eI .i64) r) := by
  refine ret_run (n := 29) (fn := Try.f76) (c := bodyOf Try.f76) (by kernel_rfl) (by kernel_rfl) (by kernel_rfl) (by kernel_rfl) ?_
  have hF : KC 29 (FinR Try.prog Try.f76 ((eI .i64) r)) := FinR.kc' (by kernel_rfl)
  unfold G_ringref5_Own at h
  obtain ⟨v_y354, h369, h⟩ := bind_some h
  obtain ⟨v_o360, h377, h⟩ := bind_some h
  refine pkk_sound TTok mix hF 9 (hs := [.y ((fun x => PV.agg [.v (.int .i64 (x 0)), .v (.int .i64 (x 1)), .v (.int .i64 (x 2))]) v_y354), .c, .u (.d (.v (.int .i64 (v_l352.length : Int)))), .n n]) (ts := []) (s := []) (l := [1, 5, 13, 14, 15]) (by kernel_rfl) (by kernel_rfl) (.cons (getI_ob (f := (fun x => PV.agg [.v (.int .i64 (x 0)), .v (.int .i64 (x 1)), .v (.int .i64 (x 2))])) h369) (.cons (show (0 : Int) ≤ 1 ∧ (1 : Int) < 3 by decide) (.cons (len_ob (f := (fun x => PV.agg [.v (.int .i64 (x 0)), .v (.int .i64 (x 1)), .v (.int .i64 (x 2))])) (l := v_l352)) .nil))) (G_ringref5_Own_L1_ok hF (.b 0 :: .s (cR (cR (cR (bodyOf Try.f76)))) :: []) n v_k353 v_l352 n (v_y354 1) 0 _ h377 ?_)
  cases v_o360 with
  | x0 v_z361 =>
    dsimp only at h
    obtain rfl := Option.some.inj h
    exact pend_sound TTok mix 4 (hs := []) (by kernel_rfl) (by kernel_rfl) (by kernel_rfl) .nil
inductive G_ringlaw5_LimitSays_L1_R where
  | x0 (v_w136 : (List (Fin 3 → Int)))
def G_ringlaw5_LimitSays_L1_ex : G_ringlaw5_LimitSays_L1_R → Ex
  | .x0 _ => .exit 0
def G_ringlaw5_LimitSays_L1_st (v_l1 : (List S_limit_Box)) (v_k2 : Int) (v_n3 : Int) (v_r79 : ((List S_limit_Box) × Int)) (v_r103 : ((List S_limit_Box) × Int)) (v_r121 : (Int × Int)) (v_r129 : ((List S_limit_Box) × Int)) : G_ringlaw5_LimitSays_L1_R → PS
  | .x0 v_w136 => ⟨[.d (.sl (v_l1.map eS_limit_Box)), .d (.v (.int .i64 v_k2)), .d (.v (.int .i64 v_n3)), dd, dd, dd, dd, .d (.sl (v_r79.1.map eS_limit_Box)), .d (.v (.int .i64 v_r79.2)), .d (.sl (v_r103.1.map eS_limit_Box)), .d (.v (.int .i64 v_r103.2)), .d (.v (.int .i64 v_r121.1)), .d (.v (.int .i64 v_r121.2)), .d (.sl (v_r129.1.map eS_limit_Box)), .d (.v (.int .i64 v_r129.2)), .srf 0, dd, dd, dd, dd, dd, dd, dd, dd, dd, dd, dd, dd, dd, dd, dd, dd, dd, dd, dd, dd, dd, dd, dd, dd, dd, dd, dd, dd, dd, dd, dd, dd, dd, dd, dd, dd, dd, dd, dd, dd, dd, dd, dd, dd, dd, dd, dd, dd, dd, dd, dd, dd, dd, dd, dd, dd, dd, dd, dd, dd, dd, dd, dd, dd, dd, dd, dd, dd, dd, dd, dd, dd, dd, dd, dd, dd, dd, dd, dd, dd, dd, dd, dd, dd, dd, dd, dd, dd, dd, dd, dd, dd, dd, dd, dd, dd, dd, dd, dd, dd, dd, dd, dd, dd, dd, dd, dd, dd, dd, dd, dd, dd, dd, dd, dd, dd, dd, dd, dd, dd, dd, dd, dd, dd, dd, dd, dd, dd, dd, dd, dd, dd, dd, dd, dd, dd, dd, dd, dd, dd, dd, dd, dd, dd, dd, dd, dd, dd, dd, dd, dd, dd, dd, dd, dd, dd, dd, dd, dd, dd, dd, dd, dd, dd, dd, dd, dd, dd, dd, dd, dd, dd, dd, dd, dd, dd, dd, dd, dd, dd, dd, dd, dd, dd, dd, dd, dd, dd, dd, dd, dd, dd, dd, dd, dd, dd, dd, dd, dd, dd, dd, dd, dd, dd, dd, dd, dd, dd, dd, dd, dd, dd, dd, dd, dd, dd, dd, dd, dd, dd, dd, dd, dd, dd, dd, dd, dd, dd, dd, dd, dd, dd, dd, dd, dd, dd, dd, dd, dd, dd, dd, dd, dd, dd, dd, dd, dd, dd, dd, dd, dd, dd, dd, dd, dd, dd, dd, dd, dd, dd, dd, dd, dd, dd, dd, dd, dd, dd, dd, dd, dd, dd, dd, dd, dd, dd, dd, dd, dd, dd, dd, dd, dd, dd, dd, dd, dd, dd, dd, dd, dd, dd, dd, dd, dd, dd], [.row 123 3 (v_w136.map (fun x => PV.agg [.v (.int .i64 (x 0)), .v (.int .i64 (x 1)), .v (.int .i64 (x 2))]))]⟩
def G_ringlaw5_LimitSays_L1_hd (v_l1 : (List S_limit_Box)) (v_k2 : Int) (v_n3 : Int) (v_r79 : ((List S_limit_Box) × Int)) (v_r103 : ((List S_limit_Box) × Int)) (v_r121 : (Int × Int)) (v_r129 : ((List S_limit_Box) × Int)) (v_x130 : Int) (v_w131 : (List (Fin 3 → Int))) : PS := ⟨[.d (.sl (v_l1.map eS_limit_Box)), .d (.v (.int .i64 v_k2)), .d (.v (.int .i64 v_n3)), dd, dd, dd, dd, .d (.sl (v_r79.1.map eS_limit_Box)), .d (.v (.int .i64 v_r79.2)), .d (.sl (v_r103.1.map eS_limit_Box)), .d (.v (.int .i64 v_r103.2)), .d (.v (.int .i64 v_r121.1)), .d (.v (.int .i64 v_r121.2)), .d (.sl (v_r129.1.map eS_limit_Box)), .d (.v (.int .i64 v_r129.2)), .srf 0, dd, dd, dd, dd, dd, dd, dd, dd, dd, dd, dd, dd, dd, dd, dd, dd, dd, dd, dd, dd, dd, dd, dd, dd, dd, dd, dd, dd, dd, dd, dd, dd, dd, dd, dd, dd, dd, .d (.sl (v_l1.map eS_limit_Box)), .d (.v (.int .i64 (v_l1.length : Int))), .d (.v (.int .i64 v_x130)), dd, dd, dd, dd, dd, dd, dd, dd, dd, dd, dd, dd, dd, dd, dd, dd, dd, dd, dd, dd, dd, dd, dd, dd, dd, dd, dd, dd, dd, dd, dd, dd, dd, dd, dd, dd, dd, dd, dd, dd, dd, dd, dd, dd, dd, dd, dd, dd, dd, dd, dd, dd, dd, dd, dd, dd, dd, dd, dd, dd, dd, dd, dd, dd, dd, dd, dd, dd, dd, dd, dd, dd, dd, dd, dd, dd, dd, dd, dd, dd, dd, dd, dd, dd, dd, dd, dd, dd, dd, dd, dd, dd, dd, dd, dd, dd, dd, dd, dd, dd, dd, dd, dd, dd, dd, dd, dd, dd, dd, dd, dd, dd, dd, dd, dd, dd, dd, dd, dd, dd, dd, dd, dd, dd, dd, dd, dd, dd, dd, dd, dd, dd, dd, dd, dd, dd, dd, dd, dd, dd, dd, dd, dd, dd, dd, dd, dd, dd, dd, dd, dd, dd, dd, dd, dd, dd, dd, dd, dd, dd, dd, dd, dd, dd, dd, dd, dd, dd, dd, dd, dd, dd, dd, dd, dd, dd, dd, dd, dd, dd, dd, dd, dd, dd, dd, dd, dd, dd, dd, dd, dd, dd, dd, dd, dd, dd, dd, dd, dd, dd, dd, dd, dd, dd, dd, dd, dd, dd, dd, dd, dd, dd, dd, dd, dd, dd, dd, dd, dd, dd, dd, dd, dd, dd, dd, dd, dd, dd, dd, dd, dd, dd, dd, dd, dd, dd, dd, dd, dd, dd, dd, dd, dd, dd, dd, dd, dd, dd, dd, dd, dd, dd, dd, dd, dd, dd], [.row 123 3 (v_w131.map (fun x => PV.agg [.v (.int .i64 (x 0)), .v (.int .i64 (x 1)), .v (.int .i64 (x 2))]))]⟩
def G_ringlaw5_LimitSays_L1 (n : Nat) (v_l1 : (List S_limit_Box)) (v_k2 : Int) (v_n3 : Int) (v_r79 : ((List S_limit_Box) × Int)) (v_r103 : ((List S_limit_Box) × Int)) (v_r121 : (Int × Int)) (v_r129 : ((List S_limit_Box) × Int)) : Nat → Int → (List (Fin 3 → Int)) → Option G_ringlaw5_LimitSays_L1_R
  | 0, _, _ => none
  | k + 1, v_x130, v_w131 =>
    if v_x130 < (v_l1.length : Int) then
     (getI v_l1 v_x130).bind fun (v_y134 : S_limit_Box) =>
     (app 24 v_w131 ([(fun i : Fin 3 => [v_y134.fUp, v_y134.fHave, v_y134.fMost].get i)])).bind fun (v_a135 : (List (Fin 3 → Int))) =>
     G_ringlaw5_LimitSays_L1 n v_l1 v_k2 v_n3 v_r79 v_r103 v_r121 v_r129 k (wi .i64 (v_x130 + 1)) v_a135
    else
     some (.x0 v_w131)
theorem G_ringlaw5_LimitSays_L1_ok {Fi : Ex → PS → Prop} (hF : KC 312 Fi) (ks : List Fr) (n : Nat) (v_l1 : (List S_limit_Box)) (v_k2 : Int) (v_n3 : Int) (v_r79 : ((List S_limit_Box) × Int)) (v_r103 : ((List S_limit_Box) × Int)) (v_r121 : (Int × Int)) (v_r129 : ((List S_limit_Box) × Int))  : ∀ (k : Nat) (v_x130 : Int) (v_w131 : (List (Fin 3 → Int))) (o : G_ringlaw5_LimitSays_L1_R), G_ringlaw5_LimitSays_L1 n v_l1 v_k2 v_n3 v_r79 v_r103 v_r121 v_r129 k v_x130 v_w131 = some o → RunE Try.prog 312 Fi ks (G_ringlaw5_LimitSays_L1_ex o) (G_ringlaw5_LimitSays_L1_st v_l1 v_k2 v_n3 v_r79 v_r103 v_r121 v_r129 o) → RunE Try.prog 312 Fi (.l k (cP (cB (cR (cL (cR (cR (cR (cR (cR (cR (bodyOf Try.f10))))))))))) :: ks) .normal (G_ringlaw5_LimitSays_L1_hd v_l1 v_k2 v_n3 v_r79 v_r103 v_r121 v_r129 v_x130 v_w131)
  | 0, v_x130, v_w131, o, h, q => by rw [G_ringlaw5_LimitSays_L1] at h; cases h
  | k + 1, v_x130, v_w131, o, h, q => by
    rw [G_ringlaw5_LimitSays_L1] at h
    by_cases h136 : v_x130 < (v_l1.length : Int)
    · rw [if_pos h136] at h
      obtain ⟨v_y134, h139, h⟩ := bind_some h
      obtain ⟨v_a135, h140, h⟩ := bind_some h
      exact pkk_sound TTok mix hF 13 (hs := [.t true, .y (eS_limit_Box v_y134), .c, .c, .c, .c, .bd, .w (v_a135.map (fun x => PV.agg [.v (.int .i64 (x 0)), .v (.int .i64 (x 1)), .v (.int .i64 (x 2))]))]) (ts := []) (s := [43]) (l := [0, 1, 2, 7, 8, 9, 10, 11, 12, 13, 14, 15, 53, 54, 55]) (by kernel_rfl) (by kernel_rfl) (.cons (dt h136) (.cons (getI_ob (f := eS_limit_Box) h139) (.cons (show 0 + 3 ≤ 3 by decide) (.cons (app_ob (f := (fun x => PV.agg [.v (.int .i64 (x 0)), .v (.int .i64 (x 1)), .v (.int .i64 (x 2))])) (s := 3) h140 (fun _ => rfl)).1 (.cons (app_ob (f := (fun x => PV.agg [.v (.int .i64 (x 0)), .v (.int .i64 (x 1)), .v (.int .i64 (x 2))])) (s := 3) h140 (fun _ => rfl)).2.1 (.cons (app_ob (f := (fun x => PV.agg [.v (.int .i64 (x 0)), .v (.int .i64 (x 1)), .v (.int .i64 (x 2))])) (s := 3) h140 (fun _ => rfl)).2.2.1 (.cons (app_ob (f := (fun x => PV.agg [.v (.int .i64 (x 0)), .v (.int .i64 (x 1)), .v (.int .i64 (x 2))])) (s := 3) h140 (fun _ => rfl)).2.2.2 .nil))))))) (G_ringlaw5_LimitSays_L1_ok hF ks n v_l1 v_k2 v_n3 v_r79 v_r103 v_r121 v_r129 k (wi .i64 (v_x130 + 1)) v_a135 _ h q)
    · rw [if_neg h136] at h
      cases h
      exact pkk_sound TTok mix hF 8 (hs := [.t false]) (ts := []) (s := [0]) (l := [0, 1, 2, 7, 8, 9, 10, 11, 12, 13, 14, 15]) (by kernel_rfl) (by kernel_rfl) (.cons (df h136) .nil) q
inductive G_ringlaw5_LimitSays_C2_R where
  | x0 (v_x180 : Bool) (v_w181 : (List (Fin 3 → Int)))
def G_ringlaw5_LimitSays_C2_ex : G_ringlaw5_LimitSays_C2_R → Ex
  | .x0 _ _ => .normal
def G_ringlaw5_LimitSays_C2_st (v_l1 : (List S_limit_Box)) (v_k2 : Int) (v_n3 : Int) (v_r79 : ((List S_limit_Box) × Int)) (v_r103 : ((List S_limit_Box) × Int)) (v_r121 : (Int × Int)) (v_r129 : ((List S_limit_Box) × Int)) (v_r178 : (Int)) (v_z138 : (List (Fin 3 → Int))) : G_ringlaw5_LimitSays_C2_R → PS
  | .x0 v_x180 v_w181 => ⟨[.d (.sl (v_l1.map eS_limit_Box)), .d (.v (.int .i64 v_k2)), .d (.v (.int .i64 v_n3)), dd, dd, dd, dd, .d (.sl (v_r79.1.map eS_limit_Box)), .d (.v (.int .i64 v_r79.2)), .d (.sl (v_r103.1.map eS_limit_Box)), .d (.v (.int .i64 v_r103.2)), .d (.v (.int .i64 v_r121.1)), .d (.v (.int .i64 v_r121.2)), .d (.sl (v_r129.1.map eS_limit_Box)), .d (.v (.int .i64 v_r129.2)), .srf 0, dd, dd, .d (.v (.int .i64 v_r178)), dd, dd, dd, dd, dd, dd, dd, dd, dd, dd, dd, dd, dd, dd, dd, dd, dd, dd, dd, dd, dd, dd, dd, dd, dd, dd, dd, dd, dd, dd, dd, dd, dd, dd, dd, dd, dd, dd, dd, dd, dd, dd, dd, dd, dd, dd, dd, dd, dd, dd, dd, dd, dd, dd, dd, dd, dd, dd, dd, dd, dd, dd, dd, dd, dd, dd, dd, dd, .d (.v (.bool v_x180)), dd, dd, dd, dd, dd, dd, dd, dd, dd, dd, dd, dd, dd, dd, dd, dd, dd, dd, dd, dd, dd, dd, dd, dd, dd, dd, dd, dd, dd, dd, dd, dd, dd, dd, dd, dd, dd, dd, dd, dd, dd, dd, dd, dd, dd, dd, dd, dd, dd, dd, dd, dd, dd, dd, dd, dd, dd, dd, dd, dd, dd, dd, dd, dd, dd, dd, dd, dd, dd, dd, dd, dd, dd, dd, dd, dd, dd, dd, dd, dd, dd, dd, dd, dd, dd, dd, dd, dd, dd, dd, dd, dd, dd, dd, dd, dd, dd, dd, dd, dd, dd, dd, dd, dd, dd, dd, dd, dd, dd, dd, dd, dd, dd, dd, dd, dd, dd, dd, dd, dd, dd, dd, dd, dd, dd, dd, dd, dd, dd, dd, dd, dd, dd, dd, dd, dd, dd, dd, dd, dd, dd, dd, dd, dd, dd, dd, dd, dd, dd, dd, dd, dd, dd, dd, dd, dd, dd, dd, dd, dd, dd, dd, dd, dd, dd, dd, dd, dd, dd, dd, dd, dd, dd, dd, dd, dd, dd, dd, dd, dd, dd, dd, dd, dd, dd, dd, dd, dd, dd, dd, dd, dd, dd, dd, dd, dd, dd, dd, dd, dd, dd, dd, dd, dd, dd, dd, dd, dd, dd, dd, dd, dd, dd, dd, dd, dd, dd, dd, dd, dd, dd, dd, dd, dd], [.row 123 3 (v_w181.map (fun x => PV.agg [.v (.int .i64 (x 0)), .v (.int .i64 (x 1)), .v (.int .i64 (x 2))]))]⟩
def G_ringlaw5_LimitSays_C2_hd (v_l1 : (List S_limit_Box)) (v_k2 : Int) (v_n3 : Int) (v_r79 : ((List S_limit_Box) × Int)) (v_r103 : ((List S_limit_Box) × Int)) (v_r121 : (Int × Int)) (v_r129 : ((List S_limit_Box) × Int)) (v_r178 : (Int)) (v_z138 : (List (Fin 3 → Int)))  : PS := ⟨[.d (.sl (v_l1.map eS_limit_Box)), .d (.v (.int .i64 v_k2)), .d (.v (.int .i64 v_n3)), dd, dd, dd, dd, .d (.sl (v_r79.1.map eS_limit_Box)), .d (.v (.int .i64 v_r79.2)), .d (.sl (v_r103.1.map eS_limit_Box)), .d (.v (.int .i64 v_r103.2)), .d (.v (.int .i64 v_r121.1)), .d (.v (.int .i64 v_r121.2)), .d (.sl (v_r129.1.map eS_limit_Box)), .d (.v (.int .i64 v_r129.2)), .srf 0, dd, dd, .d (.v (.int .i64 v_r178)), dd, dd, dd, dd, dd, dd, dd, dd, dd, dd, dd, dd, dd, dd, dd, dd, dd, dd, dd, dd, dd, dd, dd, dd, dd, dd, dd, dd, dd, dd, dd, dd, dd, dd, dd, dd, dd, dd, dd, dd, dd, dd, dd, dd, dd, dd, dd, dd, dd, dd, dd, dd, dd, dd, dd, dd, dd, dd, dd, dd, dd, dd, dd, dd, dd, dd, dd, dd, dd, dd, dd, dd, dd, dd, dd, dd, dd, dd, dd, dd, dd, dd, dd, dd, dd, dd, dd, dd, dd, dd, dd, dd, dd, dd, dd, dd, dd, dd, dd, dd, dd, dd, dd, dd, dd, dd, dd, dd, dd, dd, dd, dd, dd, dd, dd, dd, dd, dd, dd, dd, dd, dd, dd, dd, dd, dd, dd, dd, dd, dd, dd, dd, dd, dd, dd, dd, dd, dd, dd, dd, dd, dd, dd, dd, dd, dd, dd, dd, dd, dd, dd, dd, dd, dd, dd, dd, dd, dd, dd, dd, dd, dd, dd, dd, dd, dd, dd, dd, dd, dd, dd, dd, dd, dd, dd, dd, dd, dd, dd, dd, dd, dd, dd, dd, dd, dd, dd, dd, dd, dd, dd, dd, dd, dd, dd, dd, dd, dd, dd, dd, dd, dd, dd, dd, dd, dd, dd, dd, dd, dd, dd, dd, dd, dd, dd, dd, dd, dd, dd, dd, dd, dd, dd, dd, dd, dd, dd, dd, dd, dd, dd, dd, dd, dd, dd, dd, dd, dd, dd, dd, dd, dd, dd, dd, dd, dd, dd, dd, dd, dd, dd, dd, dd, dd, dd, dd, dd, dd, dd, dd, dd, dd, dd, dd, dd, dd, dd, dd, dd, dd, dd, dd, dd, dd, dd, dd, dd, dd, dd, dd, dd, dd, dd, dd, dd, dd, dd, dd, dd, dd, dd, dd, dd], [.row 123 3 (v_z138.map (fun x => PV.agg [.v (.int .i64 (x 0)), .v (.int .i64 (x 1)), .v (.int .i64 (x 2))]))]⟩
def G_ringlaw5_LimitSays_C2 (n : Nat) (v_l1 : (List S_limit_Box)) (v_k2 : Int) (v_n3 : Int) (v_r79 : ((List S_limit_Box) × Int)) (v_r103 : ((List S_limit_Box) × Int)) (v_r121 : (Int × Int)) (v_r129 : ((List S_limit_Box) × Int)) (v_r178 : (Int)) (v_z138 : (List (Fin 3 → Int))) : Option G_ringlaw5_LimitSays_C2_R :=
  if v_r178 = 0 then
   if v_k2 < 0 then
    some (.x0 true v_z138)
   else
    some (.x0 (decide (v_k2 ≥ (v_l1.length : Int))) v_z138)
  else
   some (.x0 false v_z138)
theorem G_ringlaw5_LimitSays_C2_ok {Fi : Ex → PS → Prop} (hF : KC 312 Fi) (ks : List Fr) (n : Nat) (v_l1 : (List S_limit_Box)) (v_k2 : Int) (v_n3 : Int) (v_r79 : ((List S_limit_Box) × Int)) (v_r103 : ((List S_limit_Box) × Int)) (v_r121 : (Int × Int)) (v_r129 : ((List S_limit_Box) × Int)) (v_r178 : (Int)) (v_z138 : (List (Fin 3 → Int)))  (o : G_ringlaw5_LimitSays_C2_R) (h : G_ringlaw5_LimitSays_C2 n v_l1 v_k2 v_n3 v_r79 v_r103 v_r121 v_r129 v_r178 v_z138 = some o) (q : RunE Try.prog 312 Fi ks (G_ringlaw5_LimitSays_C2_ex o) (G_ringlaw5_LimitSays_C2_st v_l1 v_k2 v_n3 v_r79 v_r103 v_r121 v_r129 v_r178 v_z138 o)) : RunE Try.prog 312 Fi (.s (cL (cL (cR (cR (cR (cR (cR (cR (cR (cR (cR (bodyOf Try.f10)))))))))))) :: ks) .normal (G_ringlaw5_LimitSays_C2_hd v_l1 v_k2 v_n3 v_r79 v_r103 v_r121 v_r129 v_r178 v_z138) := by
  unfold G_ringlaw5_LimitSays_C2 at h
  by_cases h194 : v_r178 = 0
  · rw [if_pos h194] at h
    by_cases h195 : v_k2 < 0
    · rw [if_pos h195] at h
      cases h
      exact pkk_sound TTok mix hF 1 (hs := [.t true, .c, .c, .t true, .c, .c, .c, .c]) (ts := []) (s := [0]) (l := [0, 1, 2, 7, 8, 9, 10, 11, 12, 13, 14, 15, 18, 87]) (by kernel_rfl) (by kernel_rfl) (.cons (bt h194) (.cons (dt h195) .nil)) q
    · rw [if_neg h195] at h
      cases h
      exact pkk_sound TTok mix hF 1 (hs := [.t true, .c, .c, .t false, .c, .c, .u (.d (.v (.int .i64 (v_l1.length : Int)))), .c, .c]) (ts := []) (s := [0]) (l := [0, 1, 2, 7, 8, 9, 10, 11, 12, 13, 14, 15, 18, 87]) (by kernel_rfl) (by kernel_rfl) (.cons (bt h194) (.cons (df h195) (.cons (len_ob (f := eS_limit_Box) (l := v_l1)) .nil))) q
  · rw [if_neg h194] at h
    cases h
    exact pkk_sound TTok mix hF 1 (hs := [.t false, .c, .c, .c]) (ts := []) (s := [0]) (l := [0, 1, 2, 7, 8, 9, 10, 11, 12, 13, 14, 15, 18, 87]) (by kernel_rfl) (by kernel_rfl) (.cons (bf h194) .nil) q
inductive G_ringlaw5_LimitSays_C3_R where
  | x0 (v_x197 : Bool)
def G_ringlaw5_LimitSays_C3_ex : G_ringlaw5_LimitSays_C3_R → Ex
  | .x0 _ => .normal
def G_ringlaw5_LimitSays_C3_st (v_r79 : ((List S_limit_Box) × Int)) (v_r103 : ((List S_limit_Box) × Int)) (v_r121 : (Int × Int)) (v_r129 : ((List S_limit_Box) × Int)) : G_ringlaw5_LimitSays_C3_R → PS
  | .x0 v_x197 => ⟨[dd, dd, dd, dd, dd, dd, .d (.v (.bool v_x197)), dd, dd, dd, dd, dd, dd, dd, dd, dd, dd, dd, dd, dd, dd, dd, dd, dd, dd, dd, dd, dd, dd, dd, dd, dd, dd, dd, dd, dd, dd, dd, dd, dd, dd, dd, dd, dd, dd, dd, dd, dd, dd, dd, dd, dd, dd, dd, dd, dd, dd, dd, dd, dd, dd, dd, dd, dd, dd, dd, dd, dd, dd, dd, dd, dd, dd, dd, dd, dd, dd, dd, dd, dd, dd, dd, dd, dd, dd, dd, dd, dd, dd, dd, dd, dd, dd, dd, dd, dd, dd, dd, dd, dd, dd, dd, dd, dd, dd, dd, dd, dd, dd, dd, dd, dd, dd, dd, dd, dd, dd, dd, dd, dd, dd, dd, dd, dd, dd, dd, dd, dd, dd, dd, dd, dd, dd, dd, dd, dd, dd, dd, dd, dd, dd, dd, dd, dd, dd, dd, dd, dd, dd, dd, dd, dd, dd, dd, dd, dd, dd, dd, dd, dd, dd, dd, dd, dd, dd, dd, dd, dd, dd, dd, dd, dd, dd, dd, dd, dd, dd, dd, dd, dd, dd, dd, dd, dd, dd, dd, dd, dd, dd, dd, dd, dd, dd, dd, dd, dd, dd, dd, dd, dd, dd, dd, dd, dd, dd, dd, dd, dd, dd, dd, dd, dd, dd, dd, dd, dd, dd, dd, dd, dd, dd, dd, dd, dd, dd, dd, dd, dd, dd, dd, dd, dd, dd, dd, dd, dd, dd, dd, dd, dd, dd, dd, dd, dd, dd, dd, dd, dd, dd, dd, dd, dd, dd, dd, dd, dd, dd, dd, dd, dd, dd, dd, dd, dd, dd, dd, dd, dd, dd, dd, dd, dd, dd, dd, dd, dd, dd, dd, dd, dd, dd, dd, dd, dd, dd, dd, dd, dd, dd, dd, dd, dd, dd, dd, dd, dd, dd, dd, dd, dd, dd, dd, dd, dd, dd, dd, dd, dd, dd, dd, dd, dd], []⟩
def G_ringlaw5_LimitSays_C3_hd (v_r79 : ((List S_limit_Box) × Int)) (v_r103 : ((List S_limit_Box) × Int)) (v_r121 : (Int × Int)) (v_r129 : ((List S_limit_Box) × Int))  : PS := ⟨[dd, dd, dd, dd, dd, dd, dd, .d (.sl (v_r79.1.map eS_limit_Box)), .d (.v (.int .i64 v_r79.2)), .d (.sl (v_r103.1.map eS_limit_Box)), .d (.v (.int .i64 v_r103.2)), .d (.v (.int .i64 v_r121.1)), .d (.v (.int .i64 v_r121.2)), .d (.sl (v_r129.1.map eS_limit_Box)), .d (.v (.int .i64 v_r129.2)), dd, dd, dd, .d (.v (.int .i64 1)), dd, dd, dd, dd, dd, dd, dd, dd, dd, dd, dd, dd, dd, dd, dd, dd, dd, dd, dd, dd, dd, dd, dd, dd, dd, dd, dd, dd, dd, dd, dd, dd, dd, dd, dd, dd, dd, dd, dd, dd, dd, dd, dd, dd, dd, dd, dd, dd, dd, dd, dd, dd, dd, dd, dd, dd, dd, dd, dd, dd, dd, dd, dd, dd, dd, dd, dd, dd, dd, dd, dd, dd, dd, dd, dd, dd, dd, dd, dd, dd, dd, dd, dd, dd, dd, dd, dd, dd, dd, dd, dd, dd, dd, dd, dd, dd, dd, dd, dd, dd, dd, dd, dd, dd, dd, dd, dd, dd, dd, dd, dd, dd, dd, dd, dd, dd, dd, dd, dd, dd, dd, dd, dd, dd, dd, dd, dd, dd, dd, dd, dd, dd, dd, dd, dd, dd, dd, dd, dd, dd, dd, dd, dd, dd, dd, dd, dd, dd, dd, dd, dd, dd, dd, dd, dd, dd, dd, dd, dd, dd, dd, dd, dd, dd, dd, dd, dd, dd, dd, dd, dd, dd, dd, dd, dd, dd, dd, dd, dd, dd, dd, dd, dd, dd, dd, dd, dd, dd, dd, dd, dd, dd, dd, dd, dd, dd, dd, dd, dd, dd, dd, dd, dd, dd, dd, dd, dd, dd, dd, dd, dd, dd, dd, dd, dd, dd, dd, dd, dd, dd, dd, dd, dd, dd, dd, dd, dd, dd, dd, dd, dd, dd, dd, dd, dd, dd, dd, dd, dd, dd, dd, dd, dd, dd, dd, dd, dd, dd, dd, dd, dd, dd, dd, dd, dd, dd, dd, dd, dd, dd, dd, dd, dd, dd, dd, dd, dd, dd, dd, dd, dd, dd, dd, dd, dd, dd, dd, dd, dd, dd, dd, dd, dd, dd, dd, dd, dd, dd, dd, dd, dd, dd, dd], []⟩
def G_ringlaw5_LimitSays_C3 (n : Nat) (v_r79 : ((List S_limit_Box) × Int)) (v_r103 : ((List S_limit_Box) × Int)) (v_r121 : (Int × Int)) (v_r129 : ((List S_limit_Box) × Int)) : Option G_ringlaw5_LimitSays_C3_R :=
  if v_r79.2 = 1 then
   if v_r103.2 = 1 then
    if v_r121.2 = 1 then
     if v_r129.2 = 1 then
      if (wi .i64 ((wi .i64 ((v_r79.1.length : Int) + (v_r103.1.length : Int))) + (v_r129.1.length : Int))) = 0 then
       some (.x0 (v_r121.1 == 0))
      else
       some (.x0 false)
     else
      some (.x0 false)
    else
     some (.x0 false)
   else
    some (.x0 false)
  else
   some (.x0 false)
theorem G_ringlaw5_LimitSays_C3_ok {Fi : Ex → PS → Prop} (hF : KC 312 Fi) (ks : List Fr) (n : Nat) (v_r79 : ((List S_limit_Box) × Int)) (v_r103 : ((List S_limit_Box) × Int)) (v_r121 : (Int × Int)) (v_r129 : ((List S_limit_Box) × Int))  (o : G_ringlaw5_LimitSays_C3_R) (h : G_ringlaw5_LimitSays_C3 n v_r79 v_r103 v_r121 v_r129 = some o) (q : RunE Try.prog 312 Fi ks (G_ringlaw5_LimitSays_C3_ex o) (G_ringlaw5_LimitSays_C3_st v_r79 v_r103 v_r121 v_r129 o)) : RunE Try.prog 312 Fi (.s (cL (cT (cR (cL (cR (cR (cR (cR (cR (cR (cR (cR (cR (cR (bodyOf Try.f10))))))))))))))) :: ks) .normal (G_ringlaw5_LimitSays_C3_hd v_r79 v_r103 v_r121 v_r129) := by
  unfold G_ringlaw5_LimitSays_C3 at h
  by_cases h214 : v_r79.2 = 1
  · rw [if_pos h214] at h
    by_cases h215 : v_r103.2 = 1
    · rw [if_pos h215] at h
      by_cases h216 : v_r121.2 = 1
      · rw [if_pos h216] at h
        by_cases h217 : v_r129.2 = 1
        · rw [if_pos h217] at h
          by_cases h218 : (wi .i64 ((wi .i64 ((v_r79.1.length : Int) + (v_r103.1.length : Int))) + (v_r129.1.length : Int))) = 0
          · rw [if_pos h218] at h
            cases h
            exact pkk_sound TTok mix hF 1 (hs := [.t true, .c, .c, .t true, .c, .c, .t true, .c, .c, .t true, .c, .u (.d (.v (.int .i64 (v_r79.1.length : Int)))), .c, .c, .u (.d (.v (.int .i64 (v_r103.1.length : Int)))), .c, .c, .c, .u (.d (.v (.int .i64 (v_r129.1.length : Int)))), .c, .c, .t true, .c]) (ts := []) (s := []) (l := [6]) (by kernel_rfl) (by kernel_rfl) (.cons (bt h214) (.cons (bt h215) (.cons (bt h216) (.cons (bt h217) (.cons (len_ob (f := eS_limit_Box) (l := v_r79.1)) (.cons (len_ob (f := eS_limit_Box) (l := v_r103.1)) (.cons (len_ob (f := eS_limit_Box) (l := v_r129.1)) (.cons (bt h218) .nil)))))))) q
          · rw [if_neg h218] at h
            cases h
            exact pkk_sound TTok mix hF 1 (hs := [.t true, .c, .c, .t true, .c, .c, .t true, .c, .c, .t true, .c, .u (.d (.v (.int .i64 (v_r79.1.length : Int)))), .c, .c, .u (.d (.v (.int .i64 (v_r103.1.length : Int)))), .c, .c, .c, .u (.d (.v (.int .i64 (v_r129.1.length : Int)))), .c, .c, .t false, .c]) (ts := []) (s := []) (l := [6]) (by kernel_rfl) (by kernel_rfl) (.cons (bt h214) (.cons (bt h215) (.cons (bt h216) (.cons (bt h217) (.cons (len_ob (f := eS_limit_Box) (l := v_r79.1)) (.cons (len_ob (f := eS_limit_Box) (l := v_r103.1)) (.cons (len_ob (f := eS_limit_Box) (l := v_r129.1)) (.cons (bf h218) .nil)))))))) q
        · rw [if_neg h217] at h
          cases h
          exact pkk_sound TTok mix hF 1 (hs := [.t true, .c, .c, .t true, .c, .c, .t true, .c, .c, .t false, .c, .c, .c, .c, .c, .c, .c, .c, .c, .c]) (ts := []) (s := []) (l := [6]) (by kernel_rfl) (by kernel_rfl) (.cons (bt h214) (.cons (bt h215) (.cons (bt h216) (.cons (bf h217) .nil)))) q
      · rw [if_neg h216] at h
        cases h
        exact pkk_sound TTok mix hF 1 (hs := [.t true, .c, .c, .t true, .c, .c, .t false, .c, .c, .c, .c, .c, .c, .c, .c, .c, .c, .c, .c, .c]) (ts := []) (s := []) (l := [6]) (by kernel_rfl) (by kernel_rfl) (.cons (bt h214) (.cons (bt h215) (.cons (bf h216) .nil))) q
    · rw [if_neg h215] at h
      cases h
      exact pkk_sound TTok mix hF 1 (hs := [.t true, .c, .c, .t false, .c, .c, .c, .c, .c, .c, .c, .c, .c, .c, .c, .c, .c, .c, .c, .c]) (ts := []) (s := []) (l := [6]) (by kernel_rfl) (by kernel_rfl) (.cons (bt h214) (.cons (bf h215) .nil)) q
  · rw [if_neg h214] at h
    cases h
    exact pkk_sound TTok mix hF 1 (hs := [.t false, .c, .c, .c, .c, .c, .c, .c, .c, .c, .c, .c, .c, .c, .c, .c, .c, .c, .c, .c]) (ts := []) (s := []) (l := [6]) (by kernel_rfl) (by kernel_rfl) (.cons (bf h214) .nil) q
inductive G_ringlaw5_LimitSays_C4_R where
  | x0 (v_x213 : Bool)
def G_ringlaw5_LimitSays_C4_ex : G_ringlaw5_LimitSays_C4_R → Ex
  | .x0 _ => .normal
def G_ringlaw5_LimitSays_C4_st (v_r79 : ((List S_limit_Box) × Int)) (v_r103 : ((List S_limit_Box) × Int)) (v_r121 : (Int × Int)) (v_r129 : ((List S_limit_Box) × Int)) (v_r178 : (Int)) : G_ringlaw5_LimitSays_C4_R → PS
  | .x0 v_x213 => ⟨[dd, dd, dd, dd, dd, dd, .d (.v (.bool v_x213)), dd, dd, dd, dd, dd, dd, dd, dd, dd, dd, dd, dd, dd, dd, dd, dd, dd, dd, dd, dd, dd, dd, dd, dd, dd, dd, dd, dd, dd, dd, dd, dd, dd, dd, dd, dd, dd, dd, dd, dd, dd, dd, dd, dd, dd, dd, dd, dd, dd, dd, dd, dd, dd, dd, dd, dd, dd, dd, dd, dd, dd, dd, dd, dd, dd, dd, dd, dd, dd, dd, dd, dd, dd, dd, dd, dd, dd, dd, dd, dd, dd, dd, dd, dd, dd, dd, dd, dd, dd, dd, dd, dd, dd, dd, dd, dd, dd, dd, dd, dd, dd, dd, dd, dd, dd, dd, dd, dd, dd, dd, dd, dd, dd, dd, dd, dd, dd, dd, dd, dd, dd, dd, dd, dd, dd, dd, dd, dd, dd, dd, dd, dd, dd, dd, dd, dd, dd, dd, dd, dd, dd, dd, dd, dd, dd, dd, dd, dd, dd, dd, dd, dd, dd, dd, dd, dd, dd, dd, dd, dd, dd, dd, dd, dd, dd, dd, dd, dd, dd, dd, dd, dd, dd, dd, dd, dd, dd, dd, dd, dd, dd, dd, dd, dd, dd, dd, dd, dd, dd, dd, dd, dd, dd, dd, dd, dd, dd, dd, dd, dd, dd, dd, dd, dd, dd, dd, dd, dd, dd, dd, dd, dd, dd, dd, dd, dd, dd, dd, dd, dd, dd, dd, dd, dd, dd, dd, dd, dd, dd, dd, dd, dd, dd, dd, dd, dd, dd, dd, dd, dd, dd, dd, dd, dd, dd, dd, dd, dd, dd, dd, dd, dd, dd, dd, dd, dd, dd, dd, dd, dd, dd, dd, dd, dd, dd, dd, dd, dd, dd, dd, dd, dd, dd, dd, dd, dd, dd, dd, dd, dd, dd, dd, dd, dd, dd, dd, dd, dd, dd, dd, dd, dd, dd, dd, dd, dd, dd, dd, dd, dd, dd, dd, dd, dd, dd], []⟩
def G_ringlaw5_LimitSays_C4_hd (v_r79 : ((List S_limit_Box) × Int)) (v_r103 : ((List S_limit_Box) × Int)) (v_r121 : (Int × Int)) (v_r129 : ((List S_limit_Box) × Int)) (v_r178 : (Int))  : PS := ⟨[dd, dd, dd, dd, dd, dd, dd, .d (.sl (v_r79.1.map eS_limit_Box)), .d (.v (.int .i64 v_r79.2)), .d (.sl (v_r103.1.map eS_limit_Box)), .d (.v (.int .i64 v_r103.2)), .d (.v (.int .i64 v_r121.1)), .d (.v (.int .i64 v_r121.2)), .d (.sl (v_r129.1.map eS_limit_Box)), .d (.v (.int .i64 v_r129.2)), dd, dd, dd, .d (.v (.int .i64 v_r178)), dd, dd, dd, dd, dd, dd, dd, dd, dd, dd, dd, dd, dd, dd, dd, dd, dd, dd, dd, dd, dd, dd, dd, dd, dd, dd, dd, dd, dd, dd, dd, dd, dd, dd, dd, dd, dd, dd, dd, dd, dd, dd, dd, dd, dd, dd, dd, dd, dd, dd, dd, dd, dd, dd, dd, dd, dd, dd, dd, dd, dd, dd, dd, dd, dd, dd, dd, dd, dd, dd, dd, dd, dd, dd, dd, dd, dd, dd, dd, dd, dd, dd, dd, dd, dd, dd, dd, dd, dd, dd, dd, dd, dd, dd, dd, dd, dd, dd, dd, dd, dd, dd, dd, dd, dd, dd, dd, dd, dd, dd, dd, dd, dd, dd, dd, dd, dd, dd, dd, dd, dd, dd, dd, dd, dd, dd, dd, dd, dd, dd, dd, dd, dd, dd, dd, dd, dd, dd, dd, dd, dd, dd, dd, dd, dd, dd, dd, dd, dd, dd, dd, dd, dd, dd, dd, dd, dd, dd, dd, dd, dd, dd, dd, dd, dd, dd, dd, dd, dd, dd, dd, dd, dd, dd, dd, dd, dd, dd, dd, dd, dd, dd, dd, dd, dd, dd, dd, dd, dd, dd, dd, dd, dd, dd, dd, dd, dd, dd, dd, dd, dd, dd, dd, dd, dd, dd, dd, dd, dd, dd, dd, dd, dd, dd, dd, dd, dd, dd, dd, dd, dd, dd, dd, dd, dd, dd, dd, dd, dd, dd, dd, dd, dd, dd, dd, dd, dd, dd, dd, dd, dd, dd, dd, dd, dd, dd, dd, dd, dd, dd, dd, dd, dd, dd, dd, dd, dd, dd, dd, dd, dd, dd, dd, dd, dd, dd, dd, dd, dd, dd, dd, dd, dd, dd, dd, dd, dd, dd, dd, dd, dd, dd, dd, dd, dd, dd, dd, dd, dd, dd, dd, dd, dd], []⟩
def G_ringlaw5_LimitSays_C4 (n : Nat) (v_r79 : ((List S_limit_Box) × Int)) (v_r103 : ((List S_limit_Box) × Int)) (v_r121 : (Int × Int)) (v_r129 : ((List S_limit_Box) × Int)) (v_r178 : (Int)) : Option G_ringlaw5_LimitSays_C4_R :=
  if v_r79.2 = v_r178 then
   if v_r103.2 = v_r178 then
    if v_r121.2 = v_r178 then
     if v_r129.2 = v_r178 then
      if (wi .i64 ((wi .i64 ((v_r79.1.length : Int) + (v_r103.1.length : Int))) + (v_r129.1.length : Int))) = 0 then
       some (.x0 (v_r121.1 == 0))
      else
       some (.x0 false)
     else
      some (.x0 false)
    else
     some (.x0 false)
   else
    some (.x0 false)
  else
   some (.x0 false)
theorem G_ringlaw5_LimitSays_C4_ok {Fi : Ex → PS → Prop} (hF : KC 312 Fi) (ks : List Fr) (n : Nat) (v_r79 : ((List S_limit_Box) × Int)) (v_r103 : ((List S_limit_Box) × Int)) (v_r121 : (Int × Int)) (v_r129 : ((List S_limit_Box) × Int)) (v_r178 : (Int))  (o : G_ringlaw5_LimitSays_C4_R) (h : G_ringlaw5_LimitSays_C4 n v_r79 v_r103 v_r121 v_r129 v_r178 = some o) (q : RunE Try.prog 312 Fi ks (G_ringlaw5_LimitSays_C4_ex o) (G_ringlaw5_LimitSays_C4_st v_r79 v_r103 v_r121 v_r129 v_r178 o)) : RunE Try.prog 312 Fi (.s (cL (cT (cR (cL (cR (cR (cR (cR (cR (cR (cR (cR (cR (cR (bodyOf Try.f10))))))))))))))) :: ks) .normal (G_ringlaw5_LimitSays_C4_hd v_r79 v_r103 v_r121 v_r129 v_r178) := by
  unfold G_ringlaw5_LimitSays_C4 at h
  by_cases h238 : v_r79.2 = v_r178
  · rw [if_pos h238] at h
    by_cases h239 : v_r103.2 = v_r178
    · rw [if_pos h239] at h
      by_cases h240 : v_r121.2 = v_r178
      · rw [if_pos h240] at h
        by_cases h241 : v_r129.2 = v_r178
        · rw [if_pos h241] at h
          by_cases h242 : (wi .i64 ((wi .i64 ((v_r79.1.length : Int) + (v_r103.1.length : Int))) + (v_r129.1.length : Int))) = 0
          · rw [if_pos h242] at h
            cases h
            exact pkk_sound TTok mix hF 1 (hs := [.t true, .c, .c, .t true, .c, .c, .t true, .c, .c, .t true, .c, .u (.d (.v (.int .i64 (v_r79.1.length : Int)))), .c, .c, .u (.d (.v (.int .i64 (v_r103.1.length : Int)))), .c, .c, .c, .u (.d (.v (.int .i64 (v_r129.1.length : Int)))), .c, .c, .t true, .c]) (ts := []) (s := []) (l := [6]) (by kernel_rfl) (by kernel_rfl) (.cons (bt h238) (.cons (bt h239) (.cons (bt h240) (.cons (bt h241) (.cons (len_ob (f := eS_limit_Box) (l := v_r79.1)) (.cons (len_ob (f := eS_limit_Box) (l := v_r103.1)) (.cons (len_ob (f := eS_limit_Box) (l := v_r129.1)) (.cons (bt h242) .nil)))))))) q
          · rw [if_neg h242] at h
            cases h
            exact pkk_sound TTok mix hF 1 (hs := [.t true, .c, .c, .t true, .c, .c, .t true, .c, .c, .t true, .c, .u (.d (.v (.int .i64 (v_r79.1.length : Int)))), .c, .c, .u (.d (.v (.int .i64 (v_r103.1.length : Int)))), .c, .c, .c, .u (.d (.v (.int .i64 (v_r129.1.length : Int)))), .c, .c, .t false, .c]) (ts := []) (s := []) (l := [6]) (by kernel_rfl) (by kernel_rfl) (.cons (bt h238) (.cons (bt h239) (.cons (bt h240) (.cons (bt h241) (.cons (len_ob (f := eS_limit_Box) (l := v_r79.1)) (.cons (len_ob (f := eS_limit_Box) (l := v_r103.1)) (.cons (len_ob (f := eS_limit_Box) (l := v_r129.1)) (.cons (bf h242) .nil)))))))) q
        · rw [if_neg h241] at h
          cases h
          exact pkk_sound TTok mix hF 1 (hs := [.t true, .c, .c, .t true, .c, .c, .t true, .c, .c, .t false, .c, .c, .c, .c, .c, .c, .c, .c, .c, .c]) (ts := []) (s := []) (l := [6]) (by kernel_rfl) (by kernel_rfl) (.cons (bt h238) (.cons (bt h239) (.cons (bt h240) (.cons (bf h241) .nil)))) q
      · rw [if_neg h240] at h
        cases h
        exact pkk_sound TTok mix hF 1 (hs := [.t true, .c, .c, .t true, .c, .c, .t false, .c, .c, .c, .c, .c, .c, .c, .c, .c, .c, .c, .c, .c]) (ts := []) (s := []) (l := [6]) (by kernel_rfl) (by kernel_rfl) (.cons (bt h238) (.cons (bt h239) (.cons (bf h240) .nil))) q
    · rw [if_neg h239] at h
      cases h
      exact pkk_sound TTok mix hF 1 (hs := [.t true, .c, .c, .t false, .c, .c, .c, .c, .c, .c, .c, .c, .c, .c, .c, .c, .c, .c, .c, .c]) (ts := []) (s := []) (l := [6]) (by kernel_rfl) (by kernel_rfl) (.cons (bt h238) (.cons (bf h239) .nil)) q
  · rw [if_neg h238] at h
    cases h
    exact pkk_sound TTok mix hF 1 (hs := [.t false, .c, .c, .c, .c, .c, .c, .c, .c, .c, .c, .c, .c, .c, .c, .c, .c, .c, .c, .c]) (ts := []) (s := []) (l := [6]) (by kernel_rfl) (by kernel_rfl) (.cons (bf h238) .nil) q
inductive G_ringlaw5_LimitSays_C5_R where
  | x0 (v_room256 : Int) (v_w257 : (List S_limit_Box)) (v_w258 : (List S_limit_Box))
def G_ringlaw5_LimitSays_C5_ex : G_ringlaw5_LimitSays_C5_R → Ex
  | .x0 _ _ _ => .normal
def G_ringlaw5_LimitSays_C5_st (v_l1 : (List S_limit_Box)) (v_k2 : Int) (v_n3 : Int) (v_r79 : ((List S_limit_Box) × Int)) (v_r103 : ((List S_limit_Box) × Int)) (v_r121 : (Int × Int)) (v_r129 : ((List S_limit_Box) × Int)) (v_z188 : (List (Fin 3 → Int))) (v_room230 : Int) (v_r229 : ((List Int))) (v_x231 : Int) (v_w232 : (List S_limit_Box)) (v_w233 : (List S_limit_Box)) : G_ringlaw5_LimitSays_C5_R → PS
  | .x0 v_room256 v_w257 v_w258 => ⟨[.d (.sl (v_l1.map eS_limit_Box)), .d (.v (.int .i64 v_k2)), .d (.v (.int .i64 v_n3)), dd, dd, dd, dd, .d (.sl (v_r79.1.map eS_limit_Box)), .d (.v (.int .i64 v_r79.2)), .d (.sl (v_r103.1.map eS_limit_Box)), .d (.v (.int .i64 v_r103.2)), .d (.v (.int .i64 v_r121.1)), .d (.v (.int .i64 v_r121.2)), .d (.sl (v_r129.1.map eS_limit_Box)), .d (.v (.int .i64 v_r129.2)), .d (.sl (v_z188.map (fun x => PV.agg [.v (.int .i64 (x 0)), .v (.int .i64 (x 1)), .v (.int .i64 (x 2))]))), dd, dd, dd, .d (.v (.int .i64 v_room256)), .srf 0, .srf 1, dd, dd, dd, dd, dd, dd, dd, dd, dd, dd, dd, dd, dd, dd, dd, dd, dd, dd, dd, dd, dd, dd, dd, dd, dd, dd, dd, dd, dd, dd, dd, dd, dd, dd, dd, dd, dd, dd, dd, dd, dd, dd, dd, dd, dd, dd, dd, dd, dd, dd, dd, dd, dd, dd, dd, dd, dd, dd, dd, dd, dd, dd, dd, dd, dd, dd, dd, dd, dd, dd, dd, dd, dd, dd, dd, dd, dd, dd, dd, dd, dd, dd, dd, dd, dd, dd, dd, dd, dd, dd, dd, dd, dd, dd, dd, dd, dd, dd, dd, dd, dd, dd, dd, dd, dd, dd, dd, .d (.sl (v_r229.map (eI .i64))), .d (.v (.int .i64 (v_r229.length : Int))), .d (.v (.int .i64 v_x231)), dd, dd, dd, dd, dd, dd, dd, dd, dd, dd, dd, dd, dd, dd, dd, dd, dd, dd, dd, dd, dd, dd, dd, dd, dd, dd, dd, dd, dd, dd, dd, dd, dd, dd, dd, dd, dd, dd, dd, dd, dd, dd, dd, dd, dd, dd, dd, dd, dd, dd, dd, dd, dd, dd, dd, dd, dd, dd, dd, dd, dd, dd, dd, dd, dd, dd, dd, dd, dd, dd, dd, dd, dd, dd, dd, dd, dd, dd, dd, dd, dd, dd, dd, dd, dd, dd, dd, dd, dd, dd, dd, dd, dd, dd, dd, dd, dd, dd, dd, dd, dd, dd, dd, dd, dd, dd, dd, dd, dd, dd, dd, dd, dd, dd, dd, dd, dd, dd, dd, dd, dd, dd, dd, dd, dd, dd, dd, dd, dd, dd, dd, dd, dd, dd, dd, dd, dd, dd, dd, dd, dd, dd, dd, dd, dd, dd, dd, dd, dd, dd, dd, dd, dd, dd, dd, dd, dd, dd, dd, dd, dd, dd, dd, dd, dd, dd, dd, dd, dd, dd, dd, dd, dd, dd, dd, dd, dd, dd, dd, dd], [.row 122 3 (v_w257.map eS_limit_Box), .row 122 3 (v_w258.map eS_limit_Box)]⟩
def G_ringlaw5_LimitSays_C5_hd (v_l1 : (List S_limit_Box)) (v_k2 : Int) (v_n3 : Int) (v_r79 : ((List S_limit_Box) × Int)) (v_r103 : ((List S_limit_Box) × Int)) (v_r121 : (Int × Int)) (v_r129 : ((List S_limit_Box) × Int)) (v_z188 : (List (Fin 3 → Int))) (v_room230 : Int) (v_r229 : ((List Int))) (v_x231 : Int) (v_w232 : (List S_limit_Box)) (v_w233 : (List S_limit_Box))  : PS := ⟨[.d (.sl (v_l1.map eS_limit_Box)), .d (.v (.int .i64 v_k2)), .d (.v (.int .i64 v_n3)), dd, dd, dd, dd, .d (.sl (v_r79.1.map eS_limit_Box)), .d (.v (.int .i64 v_r79.2)), .d (.sl (v_r103.1.map eS_limit_Box)), .d (.v (.int .i64 v_r103.2)), .d (.v (.int .i64 v_r121.1)), .d (.v (.int .i64 v_r121.2)), .d (.sl (v_r129.1.map eS_limit_Box)), .d (.v (.int .i64 v_r129.2)), .d (.sl (v_z188.map (fun x => PV.agg [.v (.int .i64 (x 0)), .v (.int .i64 (x 1)), .v (.int .i64 (x 2))]))), dd, dd, dd, .d (.v (.int .i64 v_room230)), .srf 0, .srf 1, dd, dd, dd, dd, dd, dd, dd, dd, dd, dd, dd, dd, dd, dd, dd, dd, dd, dd, dd, dd, dd, dd, dd, dd, dd, dd, dd, dd, dd, dd, dd, dd, dd, dd, dd, dd, dd, dd, dd, dd, dd, dd, dd, dd, dd, dd, dd, dd, dd, dd, dd, dd, dd, dd, dd, dd, dd, dd, dd, dd, dd, dd, dd, dd, dd, dd, dd, dd, dd, dd, dd, dd, dd, dd, dd, dd, dd, dd, dd, dd, dd, dd, dd, dd, dd, dd, dd, dd, dd, dd, dd, dd, dd, dd, dd, dd, dd, dd, dd, dd, dd, dd, dd, dd, dd, dd, dd, .d (.sl (v_r229.map (eI .i64))), .d (.v (.int .i64 (v_r229.length : Int))), .d (.v (.int .i64 v_x231)), dd, dd, dd, dd, dd, dd, dd, dd, dd, dd, dd, dd, dd, dd, dd, dd, dd, dd, dd, dd, dd, dd, dd, dd, dd, dd, dd, dd, dd, dd, dd, dd, dd, dd, dd, dd, dd, dd, dd, dd, dd, dd, dd, dd, dd, dd, dd, dd, dd, dd, dd, dd, dd, dd, dd, dd, dd, dd, dd, dd, dd, dd, dd, dd, dd, dd, dd, dd, dd, dd, dd, dd, dd, dd, dd, dd, dd, dd, dd, dd, dd, dd, dd, dd, dd, dd, dd, dd, dd, dd, dd, dd, dd, dd, dd, dd, dd, dd, dd, dd, dd, dd, dd, dd, dd, dd, dd, dd, dd, dd, dd, dd, dd, dd, dd, dd, dd, dd, dd, dd, dd, dd, dd, dd, dd, dd, dd, dd, dd, dd, dd, dd, dd, dd, dd, dd, dd, dd, dd, dd, dd, dd, dd, dd, dd, dd, dd, dd, dd, dd, dd, dd, dd, dd, dd, dd, dd, dd, dd, dd, dd, dd, dd, dd, dd, dd, dd, dd, dd, dd, dd, dd, dd, dd, dd, dd, dd, dd, dd, dd], [.row 122 3 (v_w232.map eS_limit_Box), .row 122 3 (v_w233.map eS_limit_Box)]⟩
def G_ringlaw5_LimitSays_C5 (n : Nat) (v_l1 : (List S_limit_Box)) (v_k2 : Int) (v_n3 : Int) (v_r79 : ((List S_limit_Box) × Int)) (v_r103 : ((List S_limit_Box) × Int)) (v_r121 : (Int × Int)) (v_r129 : ((List S_limit_Box) × Int)) (v_z188 : (List (Fin 3 → Int))) (v_room230 : Int) (v_r229 : ((List Int))) (v_x231 : Int) (v_w232 : (List S_limit_Box)) (v_w233 : (List S_limit_Box)) : Option G_ringlaw5_LimitSays_C5_R :=
  (getI v_r229 v_x231).bind fun (v_y245 : Int) =>
  (getI v_l1 v_y245).bind fun (v_y246 : S_limit_Box) =>
  (getI v_l1 v_y245).bind fun (v_y247 : S_limit_Box) =>
  if v_n3 ≥ 0 then
   if v_n3 ≤ 1000000 then
    if 0 ≤ v_y245 ∧ (v_y245).toNat < v_w232.length then
     (v_w232[(v_y245).toNat]?).bind fun (v_y252 : S_limit_Box) =>
     if 0 ≤ v_y245 ∧ (v_y245).toNat < v_w232.length then
      (v_w232[(v_y245).toNat]?).bind fun (v_y253 : S_limit_Box) =>
      if 0 ≤ v_y245 ∧ (v_y245).toNat < v_w233.length then
       (v_w233[(v_y245).toNat]?).bind fun (v_y254 : S_limit_Box) =>
       if 0 ≤ v_y245 ∧ (v_y245).toNat < v_w233.length then
        (v_w233[(v_y245).toNat]?).bind fun (v_y255 : S_limit_Box) =>
        some (.x0 (minI v_room230 (wi .i64 (v_y246.fMost - v_y247.fHave))) (v_w232.set (v_y245).toNat (S_limit_Box.mk v_y253.fUp (wi .i64 (v_y252.fHave + v_n3)) v_y253.fMost)) (v_w233.set (v_y245).toNat (S_limit_Box.mk v_y255.fUp (wi .i64 (v_y254.fHave - v_n3)) v_y255.fMost)))
       else none
      else none
     else none
    else none
   else
    some (.x0 (minI v_room230 (wi .i64 (v_y246.fMost - v_y247.fHave))) v_w232 v_w233)
  else
   some (.x0 (minI v_room230 (wi .i64 (v_y246.fMost - v_y247.fHave))) v_w232 v_w233)
theorem G_ringlaw5_LimitSays_C5_ok {Fi : Ex → PS → Prop} (hF : KC 312 Fi) (ks : List Fr) (n : Nat) (v_l1 : (List S_limit_Box)) (v_k2 : Int) (v_n3 : Int) (v_r79 : ((List S_limit_Box) × Int)) (v_r103 : ((List S_limit_Box) × Int)) (v_r121 : (Int × Int)) (v_r129 : ((List S_limit_Box) × Int)) (v_z188 : (List (Fin 3 → Int))) (v_room230 : Int) (v_r229 : ((List Int))) (v_x231 : Int) (v_w232 : (List S_limit_Box)) (v_w233 : (List S_limit_Box))  (o : G_ringlaw5_LimitSays_C5_R) (h : G_ringlaw5_LimitSays_C5 n v_l1 v_k2 v_n3 v_r79 v_r103 v_r121 v_r129 v_z188 v_room230 v_r229 v_x231 v_w232 v_w233 = some o) (q : RunE Try.prog 312 Fi ks (G_ringlaw5_LimitSays_C5_ex o) (G_ringlaw5_LimitSays_C5_st v_l1 v_k2 v_n3 v_r79 v_r103 v_r121 v_r129 v_z188 v_room230 v_r229 v_x231 v_w232 v_w233 o)) : RunE Try.prog 312 Fi (.s (cL (cR (cR (cP (cB (cR (cL (cR (cR (cR (cR (cR (cR (cR (cR (cR (cR (cR (cR (cR (bodyOf Try.f10))))))))))))))))))))) :: ks) .normal (G_ringlaw5_LimitSays_C5_hd v_l1 v_k2 v_n3 v_r79 v_r103 v_r121 v_r129 v_z188 v_room230 v_r229 v_x231 v_w232 v_w233) := by
  unfold G_ringlaw5_LimitSays_C5 at h
  obtain ⟨v_y245, h274, h⟩ := bind_some h
  obtain ⟨v_y246, h275, h⟩ := bind_some h
  obtain ⟨v_y247, h276, h⟩ := bind_some h
  by_cases h277 : v_n3 ≥ 0
  · rw [if_pos h277] at h
    by_cases h287 : v_n3 ≤ 1000000
    · rw [if_pos h287] at h
      by_cases h288 : 0 ≤ v_y245 ∧ (v_y245).toNat < v_w232.length
      · rw [if_pos h288] at h
        obtain ⟨v_y252, h289, h⟩ := bind_some h
        by_cases h290 : 0 ≤ v_y245 ∧ (v_y245).toNat < v_w232.length
        · rw [if_pos h290] at h
          obtain ⟨v_y253, h291, h⟩ := bind_some h
          by_cases h292 : 0 ≤ v_y245 ∧ (v_y245).toNat < v_w233.length
          · rw [if_pos h292] at h
            obtain ⟨v_y254, h293, h⟩ := bind_some h
            by_cases h294 : 0 ≤ v_y245 ∧ (v_y245).toNat < v_w233.length
            · rw [if_pos h294] at h
              obtain ⟨v_y255, h295, h⟩ := bind_some h
              cases h
              exact pkk_sound TTok mix hF 12 (hs := [.y ((eI .i64) v_y245), .c, .y (eS_limit_Box v_y246), .c, .y (eS_limit_Box v_y247), .c, .t true, .c, .t true, .y (eS_limit_Box v_y252), .w ((v_w232.set (v_y245).toNat (S_limit_Box.mk v_y253.fUp (wi .i64 (v_y252.fHave + v_n3)) v_y253.fMost)).map eS_limit_Box), .y (eS_limit_Box v_y253), .y (eS_limit_Box v_y254), .w ((v_w233.set (v_y245).toNat (S_limit_Box.mk v_y255.fUp (wi .i64 (v_y254.fHave - v_n3)) v_y255.fMost)).map eS_limit_Box), .y (eS_limit_Box v_y255)]) (ts := []) (s := [0, 1]) (l := [0, 1, 2, 7, 8, 9, 10, 11, 12, 13, 14, 15, 19, 20, 21, 129, 130, 131]) (by kernel_rfl) (by kernel_rfl) (.cons (getI_ob (f := (eI .i64)) h274) (.cons (getI_ob (f := eS_limit_Box) h275) (.cons (getI_ob (f := eS_limit_Box) h276) (.cons (dt h277) (.cons (dt h287) (.cons (idx_ob (f := eS_limit_Box) h288) (.cons (get_ob (f := eS_limit_Box) h289) (.cons (idx_ob (f := eS_limit_Box) h290) (.cons (get_ob (f := eS_limit_Box) h291) (.cons (Eq.refl (pcells (.agg [.v (.int .i64 v_y253.fUp), .v (.int .i64 (wi .i64 (v_y252.fHave + v_n3))), .v (.int .i64 v_y253.fMost)]))) (.cons (set_ob (f := eS_limit_Box) (l := v_w232) (k := (v_y245).toNat) (z := (S_limit_Box.mk v_y253.fUp (wi .i64 (v_y252.fHave + v_n3)) v_y253.fMost)) (p := .agg [.v (.int .i64 v_y253.fUp), .v (.int .i64 (wi .i64 (v_y252.fHave + v_n3))), .v (.int .i64 v_y253.fMost)]) rfl) (.cons (idx_ob (f := eS_limit_Box) h292) (.cons (get_ob (f := eS_limit_Box) h293) (.cons (idx_ob (f := eS_limit_Box) h294) (.cons (get_ob (f := eS_limit_Box) h295) (.cons (Eq.refl (pcells (.agg [.v (.int .i64 v_y255.fUp), .v (.int .i64 (wi .i64 (v_y254.fHave - v_n3))), .v (.int .i64 v_y255.fMost)]))) (.cons (set_ob (f := eS_limit_Box) (l := v_w233) (k := (v_y245).toNat) (z := (S_limit_Box.mk v_y255.fUp (wi .i64 (v_y254.fHave - v_n3)) v_y255.fMost)) (p := .agg [.v (.int .i64 v_y255.fUp), .v (.int .i64 (wi .i64 (v_y254.fHave - v_n3))), .v (.int .i64 v_y255.fMost)]) rfl) .nil))))))))))))))))) q
            · rw [if_neg h294] at h; cases h
          · rw [if_neg h292] at h; cases h
        · rw [if_neg h290] at h; cases h
      · rw [if_neg h288] at h; cases h
    · rw [if_neg h287] at h
      cases h
      exact pkk_sound TTok mix hF 10 (hs := [.y ((eI .i64) v_y245), .c, .y (eS_limit_Box v_y246), .c, .y (eS_limit_Box v_y247), .c, .t true, .c, .t false]) (ts := []) (s := [0, 1]) (l := [0, 1, 2, 7, 8, 9, 10, 11, 12, 13, 14, 15, 19, 20, 21, 129, 130, 131]) (by kernel_rfl) (by kernel_rfl) (.cons (getI_ob (f := (eI .i64)) h274) (.cons (getI_ob (f := eS_limit_Box) h275) (.cons (getI_ob (f := eS_limit_Box) h276) (.cons (dt h277) (.cons (df h287) .nil))))) q
  · rw [if_neg h277] at h
    cases h
    exact pkk_sound TTok mix hF 10 (hs := [.y ((eI .i64) v_y245), .c, .y (eS_limit_Box v_y246), .c, .y (eS_limit_Box v_y247), .c, .t false, .c, .c]) (ts := []) (s := [0, 1]) (l := [0, 1, 2, 7, 8, 9, 10, 11, 12, 13, 14, 15, 19, 20, 21, 129, 130, 131]) (by kernel_rfl) (by kernel_rfl) (.cons (getI_ob (f := (eI .i64)) h274) (.cons (getI_ob (f := eS_limit_Box) h275) (.cons (getI_ob (f := eS_limit_Box) h276) (.cons (df h277) .nil)))) q
inductive G_ringlaw5_LimitSays_L6_R where
  | x0 (v_room269 : Int) (v_w270 : (List S_limit_Box)) (v_w271 : (List S_limit_Box))
def G_ringlaw5_LimitSays_L6_ex : G_ringlaw5_LimitSays_L6_R → Ex
  | .x0 _ _ _ => .exit 2
def G_ringlaw5_LimitSays_L6_st (v_l1 : (List S_limit_Box)) (v_k2 : Int) (v_n3 : Int) (v_r79 : ((List S_limit_Box) × Int)) (v_r103 : ((List S_limit_Box) × Int)) (v_r121 : (Int × Int)) (v_r129 : ((List S_limit_Box) × Int)) (v_z188 : (List (Fin 3 → Int))) (v_r229 : ((List Int))) : G_ringlaw5_LimitSays_L6_R → PS
  | .x0 v_room269 v_w270 v_w271 => ⟨[.d (.sl (v_l1.map eS_limit_Box)), .d (.v (.int .i64 v_k2)), .d (.v (.int .i64 v_n3)), dd, dd, dd, dd, .d (.sl (v_r79.1.map eS_limit_Box)), .d (.v (.int .i64 v_r79.2)), .d (.sl (v_r103.1.map eS_limit_Box)), .d (.v (.int .i64 v_r103.2)), .d (.v (.int .i64 v_r121.1)), .d (.v (.int .i64 v_r121.2)), .d (.sl (v_r129.1.map eS_limit_Box)), .d (.v (.int .i64 v_r129.2)), .d (.sl (v_z188.map (fun x => PV.agg [.v (.int .i64 (x 0)), .v (.int .i64 (x 1)), .v (.int .i64 (x 2))]))), dd, dd, dd, .d (.v (.int .i64 v_room269)), .srf 0, .srf 1, dd, dd, dd, dd, dd, dd, dd, dd, dd, dd, dd, dd, dd, dd, dd, dd, dd, dd, dd, dd, dd, dd, dd, dd, dd, dd, dd, dd, dd, dd, dd, dd, dd, dd, dd, dd, dd, dd, dd, dd, dd, dd, dd, dd, dd, dd, dd, dd, dd, dd, dd, dd, dd, dd, dd, dd, dd, dd, dd, dd, dd, dd, dd, dd, dd, dd, dd, dd, dd, dd, dd, dd, dd, dd, dd, dd, dd, dd, dd, dd, dd, dd, dd, dd, dd, dd, dd, dd, dd, dd, dd, dd, dd, dd, dd, dd, dd, dd, dd, dd, dd, dd, dd, dd, dd, dd, dd, dd, dd, dd, dd, dd, dd, dd, dd, dd, dd, dd, dd, dd, dd, dd, dd, dd, dd, dd, dd, dd, dd, dd, dd, dd, dd, dd, dd, dd, dd, dd, dd, dd, dd, dd, dd, dd, dd, dd, dd, dd, dd, dd, dd, dd, dd, dd, dd, dd, dd, dd, dd, dd, dd, dd, dd, dd, dd, dd, dd, dd, dd, dd, dd, dd, dd, dd, dd, dd, dd, dd, dd, dd, dd, dd, dd, dd, dd, dd, dd, dd, dd, dd, dd, dd, dd, dd, dd, dd, dd, dd, dd, dd, dd, dd, dd, dd, dd, dd, dd, dd, dd, dd, dd, dd, dd, dd, dd, dd, dd, dd, dd, dd, dd, dd, dd, dd, dd, dd, dd, dd, dd, dd, dd, dd, dd, dd, dd, dd, dd, dd, dd, dd, dd, dd, dd, dd, dd, dd, dd, dd, dd, dd, dd, dd, dd, dd, dd, dd, dd, dd, dd, dd, dd, dd, dd, dd, dd, dd, dd, dd, dd, dd, dd, dd, dd, dd, dd, dd, dd, dd, dd, dd, dd, dd, dd, dd, dd, dd, dd, dd, dd, dd], [.row 122 3 (v_w270.map eS_limit_Box), .row 122 3 (v_w271.map eS_limit_Box)]⟩
def G_ringlaw5_LimitSays_L6_hd (v_l1 : (List S_limit_Box)) (v_k2 : Int) (v_n3 : Int) (v_r79 : ((List S_limit_Box) × Int)) (v_r103 : ((List S_limit_Box) × Int)) (v_r121 : (Int × Int)) (v_r129 : ((List S_limit_Box) × Int)) (v_z188 : (List (Fin 3 → Int))) (v_r229 : ((List Int))) (v_room230 : Int) (v_x231 : Int) (v_w232 : (List S_limit_Box)) (v_w233 : (List S_limit_Box)) : PS := ⟨[.d (.sl (v_l1.map eS_limit_Box)), .d (.v (.int .i64 v_k2)), .d (.v (.int .i64 v_n3)), dd, dd, dd, dd, .d (.sl (v_r79.1.map eS_limit_Box)), .d (.v (.int .i64 v_r79.2)), .d (.sl (v_r103.1.map eS_limit_Box)), .d (.v (.int .i64 v_r103.2)), .d (.v (.int .i64 v_r121.1)), .d (.v (.int .i64 v_r121.2)), .d (.sl (v_r129.1.map eS_limit_Box)), .d (.v (.int .i64 v_r129.2)), .d (.sl (v_z188.map (fun x => PV.agg [.v (.int .i64 (x 0)), .v (.int .i64 (x 1)), .v (.int .i64 (x 2))]))), dd, dd, dd, .d (.v (.int .i64 v_room230)), .srf 0, .srf 1, dd, dd, dd, dd, dd, dd, dd, dd, dd, dd, dd, dd, dd, dd, dd, dd, dd, dd, dd, dd, dd, dd, dd, dd, dd, dd, dd, dd, dd, dd, dd, dd, dd, dd, dd, dd, dd, dd, dd, dd, dd, dd, dd, dd, dd, dd, dd, dd, dd, dd, dd, dd, dd, dd, dd, dd, dd, dd, dd, dd, dd, dd, dd, dd, dd, dd, dd, dd, dd, dd, dd, dd, dd, dd, dd, dd, dd, dd, dd, dd, dd, dd, dd, dd, dd, dd, dd, dd, dd, dd, dd, dd, dd, dd, dd, dd, dd, dd, dd, dd, dd, dd, dd, dd, dd, dd, dd, .d (.sl (v_r229.map (eI .i64))), .d (.v (.int .i64 (v_r229.length : Int))), .d (.v (.int .i64 v_x231)), dd, dd, dd, dd, dd, dd, dd, dd, dd, dd, dd, dd, dd, dd, dd, dd, dd, dd, dd, dd, dd, dd, dd, dd, dd, dd, dd, dd, dd, dd, dd, dd, dd, dd, dd, dd, dd, dd, dd, dd, dd, dd, dd, dd, dd, dd, dd, dd, dd, dd, dd, dd, dd, dd, dd, dd, dd, dd, dd, dd, dd, dd, dd, dd, dd, dd, dd, dd, dd, dd, dd, dd, dd, dd, dd, dd, dd, dd, dd, dd, dd, dd, dd, dd, dd, dd, dd, dd, dd, dd, dd, dd, dd, dd, dd, dd, dd, dd, dd, dd, dd, dd, dd, dd, dd, dd, dd, dd, dd, dd, dd, dd, dd, dd, dd, dd, dd, dd, dd, dd, dd, dd, dd, dd, dd, dd, dd, dd, dd, dd, dd, dd, dd, dd, dd, dd, dd, dd, dd, dd, dd, dd, dd, dd, dd, dd, dd, dd, dd, dd, dd, dd, dd, dd, dd, dd, dd, dd, dd, dd, dd, dd, dd, dd, dd, dd, dd, dd, dd, dd, dd, dd, dd, dd, dd, dd, dd, dd, dd, dd], [.row 122 3 (v_w232.map eS_limit_Box), .row 122 3 (v_w233.map eS_limit_Box)]⟩
def G_ringlaw5_LimitSays_L6 (n : Nat) (v_l1 : (List S_limit_Box)) (v_k2 : Int) (v_n3 : Int) (v_r79 : ((List S_limit_Box) × Int)) (v_r103 : ((List S_limit_Box) × Int)) (v_r121 : (Int × Int)) (v_r129 : ((List S_limit_Box) × Int)) (v_z188 : (List (Fin 3 → Int))) (v_r229 : ((List Int))) : Nat → Int → Int → (List S_limit_Box) → (List S_limit_Box) → Option G_ringlaw5_LimitSays_L6_R
  | 0, _, _, _, _ => none
  | k + 1, v_room230, v_x231, v_w232, v_w233 =>
    if v_x231 < (v_r229.length : Int) then
     (G_ringlaw5_LimitSays_C5 n v_l1 v_k2 v_n3 v_r79 v_r103 v_r121 v_r129 v_z188 v_room230 v_r229 v_x231 v_w232 v_w233).bind fun v_o265 => match v_o265 with
     | .x0 v_z266 v_z267 v_z268 =>
       G_ringlaw5_LimitSays_L6 n v_l1 v_k2 v_n3 v_r79 v_r103 v_r121 v_r129 v_z188 v_r229 k v_z266 (wi .i64 (v_x231 + 1)) v_z267 v_z268
    else
     some (.x0 v_room230 v_w232 v_w233)
theorem G_ringlaw5_LimitSays_L6_ok {Fi : Ex → PS → Prop} (hF : KC 312 Fi) (ks : List Fr) (n : Nat) (v_l1 : (List S_limit_Box)) (v_k2 : Int) (v_n3 : Int) (v_r79 : ((List S_limit_Box) × Int)) (v_r103 : ((List S_limit_Box) × Int)) (v_r121 : (Int × Int)) (v_r129 : ((List S_limit_Box) × Int)) (v_z188 : (List (Fin 3 → Int))) (v_r229 : ((List Int)))  : ∀ (k : Nat) (v_room230 : Int) (v_x231 : Int) (v_w232 : (List S_limit_Box)) (v_w233 : (List S_limit_Box)) (o : G_ringlaw5_LimitSays_L6_R), G_ringlaw5_LimitSays_L6 n v_l1 v_k2 v_n3 v_r79 v_r103 v_r121 v_r129 v_z188 v_r229 k v_room230 v_x231 v_w232 v_w233 = some o → RunE Try.prog 312 Fi ks (G_ringlaw5_LimitSays_L6_ex o) (G_ringlaw5_LimitSays_L6_st v_l1 v_k2 v_n3 v_r79 v_r103 v_r121 v_r129 v_z188 v_r229 o) → RunE Try.prog 312 Fi (.l k (cP (cB (cR (cL (cR (cR (cR (cR (cR (cR (cR (cR (cR (cR (cR (cR (cR (bodyOf Try.f10)))))))))))))))))) :: ks) .normal (G_ringlaw5_LimitSays_L6_hd v_l1 v_k2 v_n3 v_r79 v_r103 v_r121 v_r129 v_z188 v_r229 v_room230 v_x231 v_w232 v_w233)
  | 0, v_room230, v_x231, v_w232, v_w233, o, h, q => by rw [G_ringlaw5_LimitSays_L6] at h; cases h
  | k + 1, v_room230, v_x231, v_w232, v_w233, o, h, q => by
    rw [G_ringlaw5_LimitSays_L6] at h
    by_cases h251 : v_x231 < (v_r229.length : Int)
    · rw [if_pos h251] at h
      obtain ⟨v_o265, h296, h⟩ := bind_some h
      refine pkk_sound TTok mix hF 7 (hs := [.t true]) (ts := []) (s := [0, 1]) (l := [0, 1, 2, 7, 8, 9, 10, 11, 12, 13, 14, 15, 19, 20, 21, 129, 130, 131]) (by kernel_rfl) (by kernel_rfl) (.cons (dt h251) .nil) (G_ringlaw5_LimitSays_C5_ok hF (.s (cR (cR (cR (cP (cB (cR (cL (cR (cR (cR (cR (cR (cR (cR (cR (cR (cR (cR (cR (cR (bodyOf Try.f10))))))))))))))))))))) :: .l k (cP (cB (cR (cL (cR (cR (cR (cR (cR (cR (cR (cR (cR (cR (cR (cR (cR (bodyOf Try.f10)))))))))))))))))) :: ks) n v_l1 v_k2 v_n3 v_r79 v_r103 v_r121 v_r129 v_z188 v_room230 v_r229 v_x231 v_w232 v_w233 _ h296 ?_)
      cases v_o265 with
      | x0 v_z266 v_z267 v_z268 =>
        dsimp only at h
        exact pkk_sound TTok mix hF 1 (hs := []) (ts := []) (s := [0, 1]) (l := [0, 1, 2, 7, 8, 9, 10, 11, 12, 13, 14, 15, 19, 20, 21, 129, 130, 131]) (by kernel_rfl) (by kernel_rfl) .nil (G_ringlaw5_LimitSays_L6_ok hF ks n v_l1 v_k2 v_n3 v_r79 v_r103 v_r121 v_r129 v_z188 v_r229 k v_z266 (wi .i64 (v_x231 + 1)) v_z267 v_z268 _ h q)
    · rw [if_neg h251] at h
      cases h
      exact pkk_sound TTok mix hF 8 (hs := [.t false]) (ts := []) (s := [0, 1]) (l := [0, 1, 2, 7, 8, 9, 10, 11, 12, 13, 14, 15, 19, 20, 21]) (by kernel_rfl) (by kernel_rfl) (.cons (df h251) .nil) q
inductive G_ringlaw5_LimitSays_C7_R where
  | x0 (v_x282 : Bool)
def G_ringlaw5_LimitSays_C7_ex : G_ringlaw5_LimitSays_C7_R → Ex
  | .x0 _ => .normal
def G_ringlaw5_LimitSays_C7_st (v_r79 : ((List S_limit_Box) × Int)) (v_r103 : ((List S_limit_Box) × Int)) (v_r129 : ((List S_limit_Box) × Int)) : G_ringlaw5_LimitSays_C7_R → PS
  | .x0 v_x282 => ⟨[dd, dd, dd, dd, dd, dd, .d (.v (.bool v_x282)), dd, dd, dd, dd, dd, dd, dd, dd, dd, dd, dd, dd, dd, dd, dd, dd, dd, dd, dd, dd, dd, dd, dd, dd, dd, dd, dd, dd, dd, dd, dd, dd, dd, dd, dd, dd, dd, dd, dd, dd, dd, dd, dd, dd, dd, dd, dd, dd, dd, dd, dd, dd, dd, dd, dd, dd, dd, dd, dd, dd, dd, dd, dd, dd, dd, dd, dd, dd, dd, dd, dd, dd, dd, dd, dd, dd, dd, dd, dd, dd, dd, dd, dd, dd, dd, dd, dd, dd, dd, dd, dd, dd, dd, dd, dd, dd, dd, dd, dd, dd, dd, dd, dd, dd, dd, dd, dd, dd, dd, dd, dd, dd, dd, dd, dd, dd, dd, dd, dd, dd, dd, dd, dd, dd, dd, dd, dd, dd, dd, dd, dd, dd, dd, dd, dd, dd, dd, dd, dd, dd, dd, dd, dd, dd, dd, dd, dd, dd, dd, dd, dd, dd, dd, dd, dd, dd, dd, dd, dd, dd, dd, dd, dd, dd, dd, dd, dd, dd, dd, dd, dd, dd, dd, dd, dd, dd, dd, dd, dd, dd, dd, dd, dd, dd, dd, dd, dd, dd, dd, dd, dd, dd, dd, dd, dd, dd, dd, dd, dd, dd, dd, dd, dd, dd, dd, dd, dd, dd, dd, dd, dd, dd, dd, dd, dd, dd, dd, dd, dd, dd, dd, dd, dd, dd, dd, dd, dd, dd, dd, dd, dd, dd, dd, dd, dd, dd, dd, dd, dd, dd, dd, dd, dd, dd, dd, dd, dd, dd, dd, dd, dd, dd, dd, dd, dd, dd, dd, dd, dd, dd, dd, dd, dd, dd, dd, dd, dd, dd, dd, dd, dd, dd, dd, dd, dd, dd, dd, dd, dd, dd, dd, dd, dd, dd, dd, dd, dd, dd, dd, dd, dd, dd, dd, dd, dd, dd, dd, dd, dd, dd, dd, dd, dd, dd, dd], []⟩
def G_ringlaw5_LimitSays_C7_hd (v_r79 : ((List S_limit_Box) × Int)) (v_r103 : ((List S_limit_Box) × Int)) (v_r129 : ((List S_limit_Box) × Int))  : PS := ⟨[dd, dd, dd, dd, dd, dd, dd, .d (.sl (v_r79.1.map eS_limit_Box)), .d (.v (.int .i64 v_r79.2)), .d (.sl (v_r103.1.map eS_limit_Box)), .d (.v (.int .i64 v_r103.2)), dd, dd, .d (.sl (v_r129.1.map eS_limit_Box)), .d (.v (.int .i64 v_r129.2)), dd, dd, dd, dd, dd, dd, dd, dd, dd, dd, dd, dd, dd, dd, dd, dd, dd, dd, dd, dd, dd, dd, dd, dd, dd, dd, dd, dd, dd, dd, dd, dd, dd, dd, dd, dd, dd, dd, dd, dd, dd, dd, dd, dd, dd, dd, dd, dd, dd, dd, dd, dd, dd, dd, dd, dd, dd, dd, dd, dd, dd, dd, dd, dd, dd, dd, dd, dd, dd, dd, dd, dd, dd, dd, dd, dd, dd, dd, dd, dd, dd, dd, dd, dd, dd, dd, dd, dd, dd, dd, dd, dd, dd, dd, dd, dd, dd, dd, dd, dd, dd, dd, dd, dd, dd, dd, dd, dd, dd, dd, dd, dd, dd, dd, dd, dd, dd, dd, dd, dd, dd, dd, dd, dd, dd, dd, dd, dd, dd, dd, dd, dd, dd, dd, dd, dd, dd, dd, dd, dd, dd, dd, dd, dd, dd, dd, dd, dd, dd, dd, dd, dd, dd, dd, dd, dd, dd, dd, dd, dd, dd, dd, dd, dd, dd, dd, dd, dd, dd, dd, dd, dd, dd, dd, dd, dd, dd, dd, dd, dd, dd, dd, dd, dd, dd, dd, dd, dd, dd, dd, dd, dd, dd, dd, dd, dd, dd, dd, dd, dd, dd, dd, dd, dd, dd, dd, dd, dd, dd, dd, dd, dd, dd, dd, dd, dd, dd, dd, dd, dd, dd, dd, dd, dd, dd, dd, dd, dd, dd, dd, dd, dd, dd, dd, dd, dd, dd, dd, dd, dd, dd, dd, dd, dd, dd, dd, dd, dd, dd, dd, dd, dd, dd, dd, dd, dd, dd, dd, dd, dd, dd, dd, dd, dd, dd, dd, dd, dd, dd, dd, dd, dd, dd, dd, dd, dd, dd, dd, dd, dd, dd, dd, dd, dd, dd, dd, dd, dd, dd, dd, dd, dd, dd, dd, dd, dd, dd], []⟩
def G_ringlaw5_LimitSays_C7 (n : Nat) (v_r79 : ((List S_limit_Box) × Int)) (v_r103 : ((List S_limit_Box) × Int)) (v_r129 : ((List S_limit_Box) × Int)) : Option G_ringlaw5_LimitSays_C7_R :=
  if v_r79.2 = 1 then
   if v_r103.2 = v_r79.2 then
    if v_r129.2 = v_r79.2 then
     some (.x0 ((wi .i64 ((wi .i64 ((v_r79.1.length : Int) + (v_r103.1.length : Int))) + (v_r129.1.length : Int))) == 0))
    else
     some (.x0 false)
   else
    some (.x0 false)
  else
   some (.x0 false)
theorem G_ringlaw5_LimitSays_C7_ok {Fi : Ex → PS → Prop} (hF : KC 312 Fi) (ks : List Fr) (n : Nat) (v_r79 : ((List S_limit_Box) × Int)) (v_r103 : ((List S_limit_Box) × Int)) (v_r129 : ((List S_limit_Box) × Int))  (o : G_ringlaw5_LimitSays_C7_R) (h : G_ringlaw5_LimitSays_C7 n v_r79 v_r103 v_r129 = some o) (q : RunE Try.prog 312 Fi ks (G_ringlaw5_LimitSays_C7_ex o) (G_ringlaw5_LimitSays_C7_st v_r79 v_r103 v_r129 o)) : RunE Try.prog 312 Fi (.s (cL (cT (cR (cL (cR (cR (cR (cR (cR (cR (cR (cR (cR (cR (cR (cR (cR (cR (cR (bodyOf Try.f10)))))))))))))))))))) :: ks) .normal (G_ringlaw5_LimitSays_C7_hd v_r79 v_r103 v_r129) := by
  unfold G_ringlaw5_LimitSays_C7 at h
  by_cases h311 : v_r79.2 = 1
  · rw [if_pos h311] at h
    by_cases h312 : v_r103.2 = v_r79.2
    · rw [if_pos h312] at h
      by_cases h313 : v_r129.2 = v_r79.2
      · rw [if_pos h313] at h
        cases h
        exact pkk_sound TTok mix hF 1 (hs := [.t true, .c, .c, .t true, .c, .c, .t true, .c, .u (.d (.v (.int .i64 (v_r79.1.length : Int)))), .c, .c, .u (.d (.v (.int .i64 (v_r103.1.length : Int)))), .c, .c, .c, .u (.d (.v (.int .i64 (v_r129.1.length : Int)))), .c, .c]) (ts := []) (s := []) (l := [6]) (by kernel_rfl) (by kernel_rfl) (.cons (bt h311) (.cons (bt h312) (.cons (bt h313) (.cons (len_ob (f := eS_limit_Box) (l := v_r79.1)) (.cons (len_ob (f := eS_limit_Box) (l := v_r103.1)) (.cons (len_ob (f := eS_limit_Box) (l := v_r129.1)) .nil)))))) q
      · rw [if_neg h313] at h
        cases h
        exact pkk_sound TTok mix hF 1 (hs := [.t true, .c, .c, .t true, .c, .c, .t false, .c, .c, .c, .c, .c, .c, .c, .c]) (ts := []) (s := []) (l := [6]) (by kernel_rfl) (by kernel_rfl) (.cons (bt h311) (.cons (bt h312) (.cons (bf h313) .nil))) q
    · rw [if_neg h312] at h
      cases h
      exact pkk_sound TTok mix hF 1 (hs := [.t true, .c, .c, .t false, .c, .c, .c, .c, .c, .c, .c, .c, .c, .c, .c]) (ts := []) (s := []) (l := [6]) (by kernel_rfl) (by kernel_rfl) (.cons (bt h311) (.cons (bf h312) .nil)) q
  · rw [if_neg h311] at h
    cases h
    exact pkk_sound TTok mix hF 1 (hs := [.t false, .c, .c, .c, .c, .c, .c, .c, .c, .c, .c, .c, .c, .c, .c]) (ts := []) (s := []) (l := [6]) (by kernel_rfl) (by kernel_rfl) (.cons (bf h311) .nil) q
inductive G_ringlaw5_LimitSays_C8_R where
  | x0 (v_x294 : Bool)
def G_ringlaw5_LimitSays_C8_ex : G_ringlaw5_LimitSays_C8_R → Ex
  | .x0 _ => .normal
def G_ringlaw5_LimitSays_C8_st (v_r79 : ((List S_limit_Box) × Int)) (v_r103 : ((List S_limit_Box) × Int)) (v_r129 : ((List S_limit_Box) × Int)) : G_ringlaw5_LimitSays_C8_R → PS
  | .x0 v_x294 => ⟨[dd, dd, dd, dd, dd, dd, .d (.v (.bool v_x294)), dd, dd, dd, dd, dd, dd, dd, dd, dd, dd, dd, dd, dd, dd, dd, dd, dd, dd, dd, dd, dd, dd, dd, dd, dd, dd, dd, dd, dd, dd, dd, dd, dd, dd, dd, dd, dd, dd, dd, dd, dd, dd, dd, dd, dd, dd, dd, dd, dd, dd, dd, dd, dd, dd, dd, dd, dd, dd, dd, dd, dd, dd, dd, dd, dd, dd, dd, dd, dd, dd, dd, dd, dd, dd, dd, dd, dd, dd, dd, dd, dd, dd, dd, dd, dd, dd, dd, dd, dd, dd, dd, dd, dd, dd, dd, dd, dd, dd, dd, dd, dd, dd, dd, dd, dd, dd, dd, dd, dd, dd, dd, dd, dd, dd, dd, dd, dd, dd, dd, dd, dd, dd, dd, dd, dd, dd, dd, dd, dd, dd, dd, dd, dd, dd, dd, dd, dd, dd, dd, dd, dd, dd, dd, dd, dd, dd, dd, dd, dd, dd, dd, dd, dd, dd, dd, dd, dd, dd, dd, dd, dd, dd, dd, dd, dd, dd, dd, dd, dd, dd, dd, dd, dd, dd, dd, dd, dd, dd, dd, dd, dd, dd, dd, dd, dd, dd, dd, dd, dd, dd, dd, dd, dd, dd, dd, dd, dd, dd, dd, dd, dd, dd, dd, dd, dd, dd, dd, dd, dd, dd, dd, dd, dd, dd, dd, dd, dd, dd, dd, dd, dd, dd, dd, dd, dd, dd, dd, dd, dd, dd, dd, dd, dd, dd, dd, dd, dd, dd, dd, dd, dd, dd, dd, dd, dd, dd, dd, dd, dd, dd, dd, dd, dd, dd, dd, dd, dd, dd, dd, dd, dd, dd, dd, dd, dd, dd, dd, dd, dd, dd, dd, dd, dd, dd, dd, dd, dd, dd, dd, dd, dd, dd, dd, dd, dd, dd, dd, dd, dd, dd, dd, dd, dd, dd, dd, dd, dd, dd, dd, dd, dd, dd, dd, dd, dd], []⟩
def G_ringlaw5_LimitSays_C8_hd (v_r79 : ((List S_limit_Box) × Int)) (v_r103 : ((List S_limit_Box) × Int)) (v_r129 : ((List S_limit_Box) × Int))  : PS := ⟨[dd, dd, dd, dd, dd, dd, dd, .d (.sl (v_r79.1.map eS_limit_Box)), .d (.v (.int .i64 v_r79.2)), .d (.sl (v_r103.1.map eS_limit_Box)), .d (.v (.int .i64 v_r103.2)), dd, dd, .d (.sl (v_r129.1.map eS_limit_Box)), .d (.v (.int .i64 v_r129.2)), dd, dd, dd, dd, dd, dd, dd, dd, dd, dd, dd, dd, dd, dd, dd, dd, dd, dd, dd, dd, dd, dd, dd, dd, dd, dd, dd, dd, dd, dd, dd, dd, dd, dd, dd, dd, dd, dd, dd, dd, dd, dd, dd, dd, dd, dd, dd, dd, dd, dd, dd, dd, dd, dd, dd, dd, dd, dd, dd, dd, dd, dd, dd, dd, dd, dd, dd, dd, dd, dd, dd, dd, dd, dd, dd, dd, dd, dd, dd, dd, dd, dd, dd, dd, dd, dd, dd, dd, dd, dd, dd, dd, dd, dd, dd, dd, dd, dd, dd, dd, dd, dd, dd, dd, dd, dd, dd, dd, dd, dd, dd, dd, dd, dd, dd, dd, dd, dd, dd, dd, dd, dd, dd, dd, dd, dd, dd, dd, dd, dd, dd, dd, dd, dd, dd, dd, dd, dd, dd, dd, dd, dd, dd, dd, dd, dd, dd, dd, dd, dd, dd, dd, dd, dd, dd, dd, dd, dd, dd, dd, dd, dd, dd, dd, dd, dd, dd, dd, dd, dd, dd, dd, dd, dd, dd, dd, dd, dd, dd, dd, dd, dd, dd, dd, dd, dd, dd, dd, dd, dd, dd, dd, dd, dd, dd, dd, dd, dd, dd, dd, dd, dd, dd, dd, dd, dd, dd, dd, dd, dd, dd, dd, dd, dd, dd, dd, dd, dd, dd, dd, dd, dd, dd, dd, dd, dd, dd, dd, dd, dd, dd, dd, dd, dd, dd, dd, dd, dd, dd, dd, dd, dd, dd, dd, dd, dd, dd, dd, dd, dd, dd, dd, dd, dd, dd, dd, dd, dd, dd, dd, dd, dd, dd, dd, dd, dd, dd, dd, dd, dd, dd, dd, dd, dd, dd, dd, dd, dd, dd, dd, dd, dd, dd, dd, dd, dd, dd, dd, dd, dd, dd, dd, dd, dd, dd, dd, dd], []⟩
def G_ringlaw5_LimitSays_C8 (n : Nat) (v_r79 : ((List S_limit_Box) × Int)) (v_r103 : ((List S_limit_Box) × Int)) (v_r129 : ((List S_limit_Box) × Int)) : Option G_ringlaw5_LimitSays_C8_R :=
  if v_r79.2 = 1 then
   if v_r103.2 = v_r79.2 then
    if v_r129.2 = v_r79.2 then
     some (.x0 ((wi .i64 ((wi .i64 ((v_r79.1.length : Int) + (v_r103.1.length : Int))) + (v_r129.1.length : Int))) == 0))
    else
     some (.x0 false)
   else
    some (.x0 false)
  else
   some (.x0 false)
theorem G_ringlaw5_LimitSays_C8_ok {Fi : Ex → PS → Prop} (hF : KC 312 Fi) (ks : List Fr) (n : Nat) (v_r79 : ((List S_limit_Box) × Int)) (v_r103 : ((List S_limit_Box) × Int)) (v_r129 : ((List S_limit_Box) × Int))  (o : G_ringlaw5_LimitSays_C8_R) (h : G_ringlaw5_LimitSays_C8 n v_r79 v_r103 v_r129 = some o) (q : RunE Try.prog 312 Fi ks (G_ringlaw5_LimitSays_C8_ex o) (G_ringlaw5_LimitSays_C8_st v_r79 v_r103 v_r129 o)) : RunE Try.prog 312 Fi (.s (cL (cT (cR (cL (cR (cR (cR (cR (cR (cR (cR (cR (cR (cR (cR (cR (cR (cR (cR (bodyOf Try.f10)))))))))))))))))))) :: ks) .normal (G_ringlaw5_LimitSays_C8_hd v_r79 v_r103 v_r129) := by
  unfold G_ringlaw5_LimitSays_C8 at h
  by_cases h327 : v_r79.2 = 1
  · rw [if_pos h327] at h
    by_cases h328 : v_r103.2 = v_r79.2
    · rw [if_pos h328] at h
      by_cases h329 : v_r129.2 = v_r79.2
      · rw [if_pos h329] at h
        cases h
        exact pkk_sound TTok mix hF 1 (hs := [.t true, .c, .c, .t true, .c, .c, .t true, .c, .u (.d (.v (.int .i64 (v_r79.1.length : Int)))), .c, .c, .u (.d (.v (.int .i64 (v_r103.1.length : Int)))), .c, .c, .c, .u (.d (.v (.int .i64 (v_r129.1.length : Int)))), .c, .c]) (ts := []) (s := []) (l := [6]) (by kernel_rfl) (by kernel_rfl) (.cons (bt h327) (.cons (bt h328) (.cons (bt h329) (.cons (len_ob (f := eS_limit_Box) (l := v_r79.1)) (.cons (len_ob (f := eS_limit_Box) (l := v_r103.1)) (.cons (len_ob (f := eS_limit_Box) (l := v_r129.1)) .nil)))))) q
      · rw [if_neg h329] at h
        cases h
        exact pkk_sound TTok mix hF 1 (hs := [.t true, .c, .c, .t true, .c, .c, .t false, .c, .c, .c, .c, .c, .c, .c, .c]) (ts := []) (s := []) (l := [6]) (by kernel_rfl) (by kernel_rfl) (.cons (bt h327) (.cons (bt h328) (.cons (bf h329) .nil))) q
    · rw [if_neg h328] at h
      cases h
      exact pkk_sound TTok mix hF 1 (hs := [.t true, .c, .c, .t false, .c, .c, .c, .c, .c, .c, .c, .c, .c, .c, .c]) (ts := []) (s := []) (l := [6]) (by kernel_rfl) (by kernel_rfl) (.cons (bt h327) (.cons (bf h328) .nil)) q
  · rw [if_neg h327] at h
    cases h
    exact pkk_sound TTok mix hF 1 (hs := [.t false, .c, .c, .c, .c, .c, .c, .c, .c, .c, .c, .c, .c, .c, .c]) (ts := []) (s := []) (l := [6]) (by kernel_rfl) (by kernel_rfl) (.cons (bf h327) .nil) q
inductive G_ringlaw5_LimitSays_C9_R where
  | x0 (v_ok315 : Bool) (v_w316 : (List S_limit_Box)) (v_w317 : (List S_limit_Box))
def G_ringlaw5_LimitSays_C9_ex : G_ringlaw5_LimitSays_C9_R → Ex
  | .x0 _ _ _ => .normal
def G_ringlaw5_LimitSays_C9_st (v_l1 : (List S_limit_Box)) (v_k2 : Int) (v_n3 : Int) (v_r79 : ((List S_limit_Box) × Int)) (v_r103 : ((List S_limit_Box) × Int)) (v_r129 : ((List S_limit_Box) × Int)) (v_z188 : (List (Fin 3 → Int))) (v_z273 : Int) (v_z274 : (List S_limit_Box)) (v_z275 : (List S_limit_Box)) (v_r300 : ((List S_limit_Box))) (v_y301 : S_limit_Box) : G_ringlaw5_LimitSays_C9_R → PS
  | .x0 v_ok315 v_w316 v_w317 => ⟨[.d (.sl (v_l1.map eS_limit_Box)), .d (.v (.int .i64 v_k2)), .d (.v (.int .i64 v_n3)), dd, dd, dd, dd, dd, dd, .d (.sl (v_r103.1.map eS_limit_Box)), .d (.v (.int .i64 v_r103.2)), dd, dd, .d (.sl (v_r129.1.map eS_limit_Box)), .d (.v (.int .i64 v_r129.2)), .d (.sl (v_z188.map (fun x => PV.agg [.v (.int .i64 (x 0)), .v (.int .i64 (x 1)), .v (.int .i64 (x 2))]))), dd, dd, dd, dd, dd, .srf 0, dd, dd, .srf 1, .d (.v (.bool v_ok315)), dd, dd, dd, dd, dd, dd, dd, dd, dd, dd, dd, dd, dd, dd, dd, dd, dd, dd, dd, dd, dd, dd, dd, dd, dd, dd, dd, dd, dd, dd, dd, dd, dd, dd, dd, dd, dd, dd, dd, dd, dd, dd, dd, dd, dd, dd, dd, dd, dd, dd, dd, dd, dd, dd, dd, dd, dd, dd, dd, dd, dd, dd, dd, dd, dd, dd, dd, dd, dd, dd, dd, dd, dd, dd, dd, dd, dd, dd, dd, dd, dd, dd, dd, dd, dd, dd, dd, dd, dd, dd, dd, dd, dd, dd, dd, dd, dd, dd, dd, dd, dd, dd, dd, dd, dd, dd, dd, dd, dd, dd, dd, dd, dd, dd, dd, dd, dd, dd, dd, dd, dd, dd, dd, dd, dd, dd, dd, dd, dd, dd, dd, dd, dd, dd, dd, dd, dd, dd, dd, dd, dd, dd, dd, dd, dd, dd, dd, dd, dd, dd, dd, dd, dd, dd, dd, dd, dd, dd, dd, dd, dd, dd, dd, dd, dd, dd, dd, dd, dd, dd, dd, dd, dd, dd, dd, dd, dd, dd, dd, dd, dd, dd, dd, dd, dd, dd, dd, dd, dd, dd, dd, dd, dd, dd, dd, dd, dd, dd, dd, dd, dd, dd, dd, dd, dd, dd, dd, dd, dd, dd, dd, dd, dd, dd, dd, dd, dd, dd, dd, dd, dd, dd, dd, dd, dd, dd, dd, dd, dd, dd, dd, dd, dd, dd, dd, dd, dd, dd, dd, dd, dd, dd, dd, dd, dd, dd, dd, dd, dd, dd, dd, dd, dd, dd, dd, dd, dd, dd, dd, dd, dd, dd, dd, dd, dd, dd, dd, dd, dd, dd, dd, dd, dd, dd, dd, dd, dd, dd, dd, dd, dd, dd, dd, dd, dd, dd], [.row 122 3 (v_w316.map eS_limit_Box), .row 122 3 (v_w317.map eS_limit_Box)]⟩
def G_ringlaw5_LimitSays_C9_hd (v_l1 : (List S_limit_Box)) (v_k2 : Int) (v_n3 : Int) (v_r79 : ((List S_limit_Box) × Int)) (v_r103 : ((List S_limit_Box) × Int)) (v_r129 : ((List S_limit_Box) × Int)) (v_z188 : (List (Fin 3 → Int))) (v_z273 : Int) (v_z274 : (List S_limit_Box)) (v_z275 : (List S_limit_Box)) (v_r300 : ((List S_limit_Box))) (v_y301 : S_limit_Box)  : PS := ⟨[.d (.sl (v_l1.map eS_limit_Box)), .d (.v (.int .i64 v_k2)), .d (.v (.int .i64 v_n3)), dd, dd, dd, dd, .d (.sl (v_r79.1.map eS_limit_Box)), .d (.v (.int .i64 v_r79.2)), .d (.sl (v_r103.1.map eS_limit_Box)), .d (.v (.int .i64 v_r103.2)), dd, dd, .d (.sl (v_r129.1.map eS_limit_Box)), .d (.v (.int .i64 v_r129.2)), .d (.sl (v_z188.map (fun x => PV.agg [.v (.int .i64 (x 0)), .v (.int .i64 (x 1)), .v (.int .i64 (x 2))]))), dd, dd, dd, .d (.v (.int .i64 v_z273)), .srf 0, .srf 1, dd, dd, .srf 2, dd, dd, dd, dd, dd, dd, dd, dd, dd, dd, dd, dd, dd, dd, dd, dd, dd, dd, dd, dd, dd, dd, dd, dd, dd, dd, dd, dd, dd, dd, dd, dd, dd, dd, dd, dd, dd, dd, dd, dd, dd, dd, dd, dd, dd, dd, dd, dd, dd, dd, dd, dd, dd, dd, dd, dd, dd, dd, dd, dd, dd, dd, dd, dd, dd, dd, dd, dd, dd, dd, dd, dd, dd, dd, dd, dd, dd, dd, dd, dd, dd, dd, dd, dd, dd, dd, dd, dd, dd, dd, dd, dd, dd, dd, dd, dd, dd, dd, dd, dd, dd, dd, dd, dd, dd, dd, dd, dd, dd, dd, dd, dd, dd, dd, dd, dd, dd, dd, dd, dd, dd, dd, dd, dd, dd, dd, dd, dd, dd, dd, dd, dd, dd, dd, dd, dd, dd, dd, dd, dd, dd, dd, dd, dd, dd, dd, dd, dd, dd, dd, dd, dd, dd, dd, dd, dd, dd, dd, dd, dd, dd, dd, dd, dd, dd, dd, dd, dd, dd, dd, dd, dd, dd, dd, dd, dd, dd, dd, dd, dd, dd, dd, dd, dd, dd, dd, dd, dd, dd, dd, dd, dd, dd, dd, dd, dd, dd, dd, dd, dd, dd, dd, dd, dd, dd, dd, dd, dd, dd, dd, dd, dd, dd, dd, dd, dd, dd, dd, dd, dd, dd, dd, dd, dd, dd, dd, dd, dd, dd, dd, dd, dd, dd, dd, dd, dd, dd, dd, dd, dd, dd, dd, dd, dd, dd, dd, dd, dd, dd, dd, dd, dd, dd, dd, dd, dd, dd, dd, dd, dd, dd, dd, dd, dd, dd, dd, dd, dd, dd, dd, dd, dd, dd, dd, dd, dd, dd, dd, dd, dd, dd, dd, dd, dd, dd, dd, dd], [.row 122 3 (v_z274.map eS_limit_Box), .row 122 3 (v_z275.map eS_limit_Box), .row 122 3 ((v_r300.set (v_k2).toNat (S_limit_Box.mk v_y301.fUp v_y301.fHave v_n3)).map eS_limit_Box)]⟩
def G_ringlaw5_LimitSays_C9 (n : Nat) (v_l1 : (List S_limit_Box)) (v_k2 : Int) (v_n3 : Int) (v_r79 : ((List S_limit_Box) × Int)) (v_r103 : ((List S_limit_Box) × Int)) (v_r129 : ((List S_limit_Box) × Int)) (v_z188 : (List (Fin 3 → Int))) (v_z273 : Int) (v_z274 : (List S_limit_Box)) (v_z275 : (List S_limit_Box)) (v_r300 : ((List S_limit_Box))) (v_y301 : S_limit_Box) : Option G_ringlaw5_LimitSays_C9_R :=
  if v_n3 > v_z273 then
   if v_r79.2 = 16 then
    if (v_r79.1.length : Int) = 0 then
     some (.x0 true v_z275 (v_r300.set (v_k2).toNat (S_limit_Box.mk v_y301.fUp v_y301.fHave v_n3)))
    else
     if v_n3 ≤ v_z273 then
      if v_r79.2 = 0 then
       (G_slices_Equal_limit_Box_limit_Box n v_r79.1 v_z274).bind fun (v_r318 : (Bool)) =>
       some (.x0 v_r318 v_z275 (v_r300.set (v_k2).toNat (S_limit_Box.mk v_y301.fUp v_y301.fHave v_n3)))
      else
       some (.x0 false v_z275 (v_r300.set (v_k2).toNat (S_limit_Box.mk v_y301.fUp v_y301.fHave v_n3)))
     else
      some (.x0 false v_z275 (v_r300.set (v_k2).toNat (S_limit_Box.mk v_y301.fUp v_y301.fHave v_n3)))
   else
    if v_n3 ≤ v_z273 then
     if v_r79.2 = 0 then
      (G_slices_Equal_limit_Box_limit_Box n v_r79.1 v_z274).bind fun (v_r328 : (Bool)) =>
      some (.x0 v_r328 v_z275 (v_r300.set (v_k2).toNat (S_limit_Box.mk v_y301.fUp v_y301.fHave v_n3)))
     else
      some (.x0 false v_z275 (v_r300.set (v_k2).toNat (S_limit_Box.mk v_y301.fUp v_y301.fHave v_n3)))
    else
     some (.x0 false v_z275 (v_r300.set (v_k2).toNat (S_limit_Box.mk v_y301.fUp v_y301.fHave v_n3)))
  else
   if v_n3 ≤ v_z273 then
    if v_r79.2 = 0 then
     (G_slices_Equal_limit_Box_limit_Box n v_r79.1 v_z274).bind fun (v_r338 : (Bool)) =>
     some (.x0 v_r338 v_z275 (v_r300.set (v_k2).toNat (S_limit_Box.mk v_y301.fUp v_y301.fHave v_n3)))
    else
     some (.x0 false v_z275 (v_r300.set (v_k2).toNat (S_limit_Box.mk v_y301.fUp v_y301.fHave v_n3)))
   else
    some (.x0 false v_z275 (v_r300.set (v_k2).toNat (S_limit_Box.mk v_y301.fUp v_y301.fHave v_n3)))
theorem G_ringlaw5_LimitSays_C9_ok {Fi : Ex → PS → Prop} (hF : KC 312 Fi) (ks : List Fr) (n : Nat) (v_l1 : (List S_limit_Box)) (v_k2 : Int) (v_n3 : Int) (v_r79 : ((List S_limit_Box) × Int)) (v_r103 : ((List S_limit_Box) × Int)) (v_r129 : ((List S_limit_Box) × Int)) (v_z188 : (List (Fin 3 → Int))) (v_z273 : Int) (v_z274 : (List S_limit_Box)) (v_z275 : (List S_limit_Box)) (v_r300 : ((List S_limit_Box))) (v_y301 : S_limit_Box)  (o : G_ringlaw5_LimitSays_C9_R) (h : G_ringlaw5_LimitSays_C9 n v_l1 v_k2 v_n3 v_r79 v_r103 v_r129 v_z188 v_z273 v_z274 v_z275 v_r300 v_y301 = some o) (q : RunE Try.prog 312 Fi ks (G_ringlaw5_LimitSays_C9_ex o) (G_ringlaw5_LimitSays_C9_st v_l1 v_k2 v_n3 v_r79 v_r103 v_r129 v_z188 v_z273 v_z274 v_z275 v_r300 v_y301 o)) : RunE Try.prog 312 Fi (.s (cL (cR (cR (cR (cR (cR (cR (cR (cR (cR (cR (cR (cR (cR (cR (cR (cR (cR (cR (bodyOf Try.f10)))))))))))))))))))) :: ks) .normal (G_ringlaw5_LimitSays_C9_hd v_l1 v_k2 v_n3 v_r79 v_r103 v_r129 v_z188 v_z273 v_z274 v_z275 v_r300 v_y301) := by
  unfold G_ringlaw5_LimitSays_C9 at h
  by_cases h355 : v_n3 > v_z273
  · rw [if_pos h355] at h
    by_cases h356 : v_r79.2 = 16
    · rw [if_pos h356] at h
      by_cases h357 : (v_r79.1.length : Int) = 0
      · rw [if_pos h357] at h
        cases h
        exact pkk_sound TTok mix hF 1 (hs := [.t true, .c, .t true, .c, .u (.d (.v (.int .i64 (v_r79.1.length : Int)))), .c, .t true, .c, .c, .c, .c, .c, .c]) (ts := []) (s := [1, 2]) (l := [0, 1, 2, 9, 10, 13, 14, 15, 21, 24, 25]) (by kernel_rfl) (by kernel_rfl) (.cons (dt h355) (.cons (bt h356) (.cons (len_ob (f := eS_limit_Box) (l := v_r79.1)) (.cons (bt h357) .nil)))) q
      · rw [if_neg h357] at h
        by_cases h358 : v_n3 ≤ v_z273
        · rw [if_pos h358] at h
          by_cases h359 : v_r79.2 = 0
          · rw [if_pos h359] at h
            obtain ⟨v_r318, h360, h⟩ := bind_some h
            cases h
            exact pkk_sound TTok mix hF 1 (hs := [.t true, .c, .t true, .c, .u (.d (.v (.int .i64 (v_r79.1.length : Int)))), .c, .t false, .c, .c, .c, .t true, .c, .c, .c, .t true, .c, .c, .c, .r (eB v_r318), .c]) (ts := []) (s := [1, 2]) (l := [0, 1, 2, 9, 10, 13, 14, 15, 21, 24, 25]) (by kernel_rfl) (by kernel_rfl) (.cons (dt h355) (.cons (bt h356) (.cons (len_ob (f := eS_limit_Box) (l := v_r79.1)) (.cons (bf h357) (.cons (dt h358) (.cons (bt h359) (.cons (G_slices_Equal_limit_Box_limit_Box_ok n v_r79.1 v_z274 _ h360) .nil))))))) q
          · rw [if_neg h359] at h
            cases h
            exact pkk_sound TTok mix hF 1 (hs := [.t true, .c, .t true, .c, .u (.d (.v (.int .i64 (v_r79.1.length : Int)))), .c, .t false, .c, .c, .c, .t true, .c, .c, .c, .t false, .c, .c, .c]) (ts := []) (s := [1, 2]) (l := [0, 1, 2, 9, 10, 13, 14, 15, 21, 24, 25]) (by kernel_rfl) (by kernel_rfl) (.cons (dt h355) (.cons (bt h356) (.cons (len_ob (f := eS_limit_Box) (l := v_r79.1)) (.cons (bf h357) (.cons (dt h358) (.cons (bf h359) .nil)))))) q
        · rw [if_neg h358] at h
          cases h
          exact pkk_sound TTok mix hF 1 (hs := [.t true, .c, .t true, .c, .u (.d (.v (.int .i64 (v_r79.1.length : Int)))), .c, .t false, .c, .c, .c, .t false, .c, .c, .c, .c, .c, .c, .c]) (ts := []) (s := [1, 2]) (l := [0, 1, 2, 9, 10, 13, 14, 15, 21, 24, 25]) (by kernel_rfl) (by kernel_rfl) (.cons (dt h355) (.cons (bt h356) (.cons (len_ob (f := eS_limit_Box) (l := v_r79.1)) (.cons (bf h357) (.cons (df h358) .nil))))) q
    · rw [if_neg h356] at h
      by_cases h361 : v_n3 ≤ v_z273
      · rw [if_pos h361] at h
        by_cases h362 : v_r79.2 = 0
        · rw [if_pos h362] at h
          obtain ⟨v_r328, h363, h⟩ := bind_some h
          cases h
          exact pkk_sound TTok mix hF 1 (hs := [.t true, .c, .t false, .c, .c, .c, .c, .c, .c, .t true, .c, .c, .c, .t true, .c, .c, .c, .r (eB v_r328), .c]) (ts := []) (s := [1, 2]) (l := [0, 1, 2, 9, 10, 13, 14, 15, 21, 24, 25]) (by kernel_rfl) (by kernel_rfl) (.cons (dt h355) (.cons (bf h356) (.cons (dt h361) (.cons (bt h362) (.cons (G_slices_Equal_limit_Box_limit_Box_ok n v_r79.1 v_z274 _ h363) .nil))))) q
        · rw [if_neg h362] at h
          cases h
          exact pkk_sound TTok mix hF 1 (hs := [.t true, .c, .t false, .c, .c, .c, .c, .c, .c, .t true, .c, .c, .c, .t false, .c, .c, .c]) (ts := []) (s := [1, 2]) (l := [0, 1, 2, 9, 10, 13, 14, 15, 21, 24, 25]) (by kernel_rfl) (by kernel_rfl) (.cons (dt h355) (.cons (bf h356) (.cons (dt h361) (.cons (bf h362) .nil)))) q
      · rw [if_neg h361] at h
        cases h
        exact pkk_sound TTok mix hF 1 (hs := [.t true, .c, .t false, .c, .c, .c, .c, .c, .c, .t false, .c, .c, .c, .c, .c, .c, .c]) (ts := []) (s := [1, 2]) (l := [0, 1, 2, 9, 10, 13, 14, 15, 21, 24, 25]) (by kernel_rfl) (by kernel_rfl) (.cons (dt h355) (.cons (bf h356) (.cons (df h361) .nil))) q
  · rw [if_neg h355] at h
    by_cases h364 : v_n3 ≤ v_z273
    · rw [if_pos h364] at h
      by_cases h365 : v_r79.2 = 0
      · rw [if_pos h365] at h
        obtain ⟨v_r338, h366, h⟩ := bind_some h
        cases h
        exact pkk_sound TTok mix hF 1 (hs := [.t false, .c, .c, .c, .c, .c, .c, .c, .c, .t true, .c, .c, .c, .t true, .c, .c, .c, .r (eB v_r338), .c]) (ts := []) (s := [1, 2]) (l := [0, 1, 2, 9, 10, 13, 14, 15, 21, 24, 25]) (by kernel_rfl) (by kernel_rfl) (.cons (df h355) (.cons (dt h364) (.cons (bt h365) (.cons (G_slices_Equal_limit_Box_limit_Box_ok n v_r79.1 v_z274 _ h366) .nil)))) q
      · rw [if_neg h365] at h
        cases h
        exact pkk_sound TTok mix hF 1 (hs := [.t false, .c, .c, .c, .c, .c, .c, .c, .c, .t true, .c, .c, .c, .t false, .c, .c, .c]) (ts := []) (s := [1, 2]) (l := [0, 1, 2, 9, 10, 13, 14, 15, 21, 24, 25]) (by kernel_rfl) (by kernel_rfl) (.cons (df h355) (.cons (dt h364) (.cons (bf h365) .nil))) q
    · rw [if_neg h364] at h
      cases h
      exact pkk_sound TTok mix hF 1 (hs := [.t false, .c, .c, .c, .c, .c, .c, .c, .c, .t false, .c, .c, .c, .c, .c, .c, .c]) (ts := []) (s := [1, 2]) (l := [0, 1, 2, 9, 10, 13, 14, 15, 21, 24, 25]) (by kernel_rfl) (by kernel_rfl) (.cons (df h355) (.cons (df h364) .nil)) q
inductive G_ringlaw5_LimitSays_C10_R where
  | x0 (v_ok370 : Bool) (v_w371 : (List S_limit_Box))
def G_ringlaw5_LimitSays_C10_ex : G_ringlaw5_LimitSays_C10_R → Ex
  | .x0 _ _ => .normal
def G_ringlaw5_LimitSays_C10_st (v_l1 : (List S_limit_Box)) (v_k2 : Int) (v_n3 : Int) (v_r103 : ((List S_limit_Box) × Int)) (v_r129 : ((List S_limit_Box) × Int)) (v_z188 : (List (Fin 3 → Int))) (v_z349 : Bool) (v_z350 : (List S_limit_Box)) (v_z351 : (List S_limit_Box)) : G_ringlaw5_LimitSays_C10_R → PS
  | .x0 v_ok370 v_w371 => ⟨[.d (.sl (v_l1.map eS_limit_Box)), .d (.v (.int .i64 v_k2)), .d (.v (.int .i64 v_n3)), dd, dd, dd, dd, dd, dd, dd, dd, dd, dd, .d (.sl (v_r129.1.map eS_limit_Box)), .d (.v (.int .i64 v_r129.2)), dd, dd, dd, dd, dd, dd, dd, dd, dd, .srf 0, .d (.v (.bool v_ok370)), dd, dd, dd, dd, dd, dd, dd, dd, dd, dd, dd, dd, dd, dd, dd, dd, dd, dd, dd, dd, dd, dd, dd, dd, dd, dd, dd, dd, dd, dd, dd, dd, dd, dd, dd, dd, dd, dd, dd, dd, dd, dd, dd, dd, dd, dd, dd, dd, dd, dd, dd, dd, dd, dd, dd, dd, dd, dd, dd, dd, dd, dd, dd, dd, dd, dd, dd, dd, dd, dd, dd, dd, dd, dd, dd, dd, dd, dd, dd, dd, dd, dd, dd, dd, dd, dd, dd, dd, dd, dd, dd, dd, dd, dd, dd, dd, dd, dd, dd, dd, dd, dd, dd, dd, dd, dd, dd, dd, dd, dd, dd, dd, dd, dd, dd, dd, dd, dd, dd, dd, dd, dd, dd, dd, dd, dd, dd, dd, dd, dd, dd, dd, dd, dd, dd, dd, dd, dd, dd, dd, dd, dd, dd, dd, dd, dd, dd, dd, dd, dd, dd, dd, dd, dd, dd, dd, dd, dd, dd, dd, dd, dd, dd, dd, dd, dd, dd, dd, dd, dd, dd, dd, dd, dd, dd, dd, dd, dd, dd, dd, dd, dd, dd, dd, dd, dd, dd, dd, dd, dd, dd, dd, dd, dd, dd, dd, dd, dd, dd, dd, dd, dd, dd, dd, dd, dd, dd, dd, dd, dd, dd, dd, dd, dd, dd, dd, dd, dd, dd, dd, dd, dd, dd, dd, dd, dd, dd, dd, dd, dd, dd, dd, dd, dd, dd, dd, dd, dd, dd, dd, dd, dd, dd, dd, dd, dd, dd, dd, dd, dd, dd, dd, dd, dd, dd, dd, dd, dd, dd, dd, dd, dd, dd, dd, dd, dd, dd, dd, dd, dd, dd, dd, dd, dd, dd, dd, dd, dd, dd, dd, dd, dd, dd, dd, dd, dd], [.row 122 3 (v_w371.map eS_limit_Box)]⟩
def G_ringlaw5_LimitSays_C10_hd (v_l1 : (List S_limit_Box)) (v_k2 : Int) (v_n3 : Int) (v_r103 : ((List S_limit_Box) × Int)) (v_r129 : ((List S_limit_Box) × Int)) (v_z188 : (List (Fin 3 → Int))) (v_z349 : Bool) (v_z350 : (List S_limit_Box)) (v_z351 : (List S_limit_Box))  : PS := ⟨[.d (.sl (v_l1.map eS_limit_Box)), .d (.v (.int .i64 v_k2)), .d (.v (.int .i64 v_n3)), dd, dd, dd, dd, dd, dd, .d (.sl (v_r103.1.map eS_limit_Box)), .d (.v (.int .i64 v_r103.2)), dd, dd, .d (.sl (v_r129.1.map eS_limit_Box)), .d (.v (.int .i64 v_r129.2)), .d (.sl (v_z188.map (fun x => PV.agg [.v (.int .i64 (x 0)), .v (.int .i64 (x 1)), .v (.int .i64 (x 2))]))), dd, dd, dd, dd, dd, .srf 0, dd, dd, .srf 1, .d (.v (.bool v_z349)), dd, dd, dd, dd, dd, dd, dd, dd, dd, dd, dd, dd, dd, dd, dd, dd, dd, dd, dd, dd, dd, dd, dd, dd, dd, dd, dd, dd, dd, dd, dd, dd, dd, dd, dd, dd, dd, dd, dd, dd, dd, dd, dd, dd, dd, dd, dd, dd, dd, dd, dd, dd, dd, dd, dd, dd, dd, dd, dd, dd, dd, dd, dd, dd, dd, dd, dd, dd, dd, dd, dd, dd, dd, dd, dd, dd, dd, dd, dd, dd, dd, dd, dd, dd, dd, dd, dd, dd, dd, dd, dd, dd, dd, dd, dd, dd, dd, dd, dd, dd, dd, dd, dd, dd, dd, dd, dd, dd, dd, dd, dd, dd, dd, dd, dd, dd, dd, dd, dd, dd, dd, dd, dd, dd, dd, dd, dd, dd, dd, dd, dd, dd, dd, dd, dd, dd, dd, dd, dd, dd, dd, dd, dd, dd, dd, dd, dd, dd, dd, dd, dd, dd, dd, dd, dd, dd, dd, dd, dd, dd, dd, dd, dd, dd, dd, dd, dd, dd, dd, dd, dd, dd, dd, dd, dd, dd, dd, dd, dd, dd, dd, dd, dd, dd, dd, dd, dd, dd, dd, dd, dd, dd, dd, dd, dd, dd, dd, dd, dd, dd, dd, dd, dd, dd, dd, dd, dd, dd, dd, dd, dd, dd, dd, dd, dd, dd, dd, dd, dd, dd, dd, dd, dd, dd, dd, dd, dd, dd, dd, dd, dd, dd, dd, dd, dd, dd, dd, dd, dd, dd, dd, dd, dd, dd, dd, dd, dd, dd, dd, dd, dd, dd, dd, dd, dd, dd, dd, dd, dd, dd, dd, dd, dd, dd, dd, dd, dd, dd, dd, dd, dd, dd, dd, dd, dd, dd, dd, dd, dd, dd, dd, dd, dd, dd, dd, dd], [.row 122 3 (v_z350.map eS_limit_Box), .row 122 3 (v_z351.map eS_limit_Box)]⟩
def G_ringlaw5_LimitSays_C10 (n : Nat) (v_l1 : (List S_limit_Box)) (v_k2 : Int) (v_n3 : Int) (v_r103 : ((List S_limit_Box) × Int)) (v_r129 : ((List S_limit_Box) × Int)) (v_z188 : (List (Fin 3 → Int))) (v_z349 : Bool) (v_z350 : (List S_limit_Box)) (v_z351 : (List S_limit_Box)) : Option G_ringlaw5_LimitSays_C10_R :=
  if v_z349 = true then
   (G_ringref5_Own n v_z188 v_k2).bind fun (v_r369 : (Int)) =>
   if v_n3 > v_r369 then
    if v_r103.2 = 4 then
     if (v_r103.1.length : Int) = 0 then
      some (.x0 true v_z351)
     else
      (G_ringref5_Own n v_z188 v_k2).bind fun (v_r372 : (Int)) =>
      if v_n3 ≤ v_r372 then
       if v_r103.2 = 0 then
        (G_slices_Equal_limit_Box_limit_Box n v_r103.1 v_z350).bind fun (v_r373 : (Bool)) =>
        some (.x0 v_r373 v_z351)
       else
        some (.x0 false v_z351)
      else
       some (.x0 false v_z351)
    else
     (G_ringref5_Own n v_z188 v_k2).bind fun (v_r380 : (Int)) =>
     if v_n3 ≤ v_r380 then
      if v_r103.2 = 0 then
       (G_slices_Equal_limit_Box_limit_Box n v_r103.1 v_z350).bind fun (v_r381 : (Bool)) =>
       some (.x0 v_r381 v_z351)
      else
       some (.x0 false v_z351)
     else
      some (.x0 false v_z351)
   else
    (G_ringref5_Own n v_z188 v_k2).bind fun (v_r388 : (Int)) =>
    if v_n3 ≤ v_r388 then
     if v_r103.2 = 0 then
      (G_slices_Equal_limit_Box_limit_Box n v_r103.1 v_z350).bind fun (v_r389 : (Bool)) =>
      some (.x0 v_r389 v_z351)
     else
      some (.x0 false v_z351)
    else
     some (.x0 false v_z351)
  else
   some (.x0 false v_z351)
theorem G_ringlaw5_LimitSays_C10_ok {Fi : Ex → PS → Prop} (hF : KC 312 Fi) (ks : List Fr) (n : Nat) (v_l1 : (List S_limit_Box)) (v_k2 : Int) (v_n3 : Int) (v_r103 : ((List S_limit_Box) × Int)) (v_r129 : ((List S_limit_Box) × Int)) (v_z188 : (List (Fin 3 → Int))) (v_z349 : Bool) (v_z350 : (List S_limit_Box)) (v_z351 : (List S_limit_Box))  (o : G_ringlaw5_LimitSays_C10_R) (h : G_ringlaw5_LimitSays_C10 n v_l1 v_k2 v_n3 v_r103 v_r129 v_z188 v_z349 v_z350 v_z351 = some o) (q : RunE Try.prog 312 Fi ks (G_ringlaw5_LimitSays_C10_ex o) (G_ringlaw5_LimitSays_C10_st v_l1 v_k2 v_n3 v_r103 v_r129 v_z188 v_z349 v_z350 v_z351 o)) : RunE Try.prog 312 Fi (.s (cL (cR (cR (cR (cR (cR (cR (cR (cR (cR (cR (cR (cR (cR (cR (cR (cR (cR (cR (cR (bodyOf Try.f10))))))))))))))))))))) :: ks) .normal (G_ringlaw5_LimitSays_C10_hd v_l1 v_k2 v_n3 v_r103 v_r129 v_z188 v_z349 v_z350 v_z351) := by
  unfold G_ringlaw5_LimitSays_C10 at h
  by_cases h394 : v_z349 = true
  · rw [if_pos h394] at h
    obtain ⟨v_r369, h395, h⟩ := bind_some h
    by_cases h396 : v_n3 > v_r369
    · rw [if_pos h396] at h
      by_cases h397 : v_r103.2 = 4
      · rw [if_pos h397] at h
        by_cases h398 : (v_r103.1.length : Int) = 0
        · rw [if_pos h398] at h
          cases h
          exact pkk_sound TTok mix hF 1 (hs := [.t true, .c, .c, .c, .r ((eI .i64) v_r369), .c, .c, .t true, .c, .c, .c, .t true, .c, .u (.d (.v (.int .i64 (v_r103.1.length : Int)))), .c, .c, .c, .t true, .c, .c, .c, .c, .c, .c, .c, .c, .c]) (ts := []) (s := [1]) (l := [0, 1, 2, 13, 14, 24, 25]) (by kernel_rfl) (by kernel_rfl) (.cons h394 (.cons (G_ringref5_Own_ok n v_z188 v_k2 _ h395) (.cons (dt h396) (.cons (bt h397) (.cons (len_ob (f := eS_limit_Box) (l := v_r103.1)) (.cons (bt h398) .nil)))))) q
        · rw [if_neg h398] at h
          obtain ⟨v_r372, h399, h⟩ := bind_some h
          by_cases h400 : v_n3 ≤ v_r372
          · rw [if_pos h400] at h
            by_cases h401 : v_r103.2 = 0
            · rw [if_pos h401] at h
              obtain ⟨v_r373, h402, h⟩ := bind_some h
              cases h
              exact pkk_sound TTok mix hF 1 (hs := [.t true, .c, .c, .c, .r ((eI .i64) v_r369), .c, .c, .t true, .c, .c, .c, .t true, .c, .u (.d (.v (.int .i64 (v_r103.1.length : Int)))), .c, .c, .c, .t false, .c, .c, .c, .r ((eI .i64) v_r372), .c, .c, .t true, .c, .c, .c, .t true, .c, .c, .c, .r (eB v_r373), .c, .c]) (ts := []) (s := [1]) (l := [0, 1, 2, 13, 14, 24, 25]) (by kernel_rfl) (by kernel_rfl) (.cons h394 (.cons (G_ringref5_Own_ok n v_z188 v_k2 _ h395) (.cons (dt h396) (.cons (bt h397) (.cons (len_ob (f := eS_limit_Box) (l := v_r103.1)) (.cons (bf h398) (.cons (G_ringref5_Own_ok n v_z188 v_k2 _ h399) (.cons (dt h400) (.cons (bt h401) (.cons (G_slices_Equal_limit_Box_limit_Box_ok n v_r103.1 v_z350 _ h402) .nil)))))))))) q
            · rw [if_neg h401] at h
              cases h
              exact pkk_sound TTok mix hF 1 (hs := [.t true, .c, .c, .c, .r ((eI .i64) v_r369), .c, .c, .t true, .c, .c, .c, .t true, .c, .u (.d (.v (.int .i64 (v_r103.1.length : Int)))), .c, .c, .c, .t false, .c, .c, .c, .r ((eI .i64) v_r372), .c, .c, .t true, .c, .c, .c, .t false, .c, .c, .c, .c]) (ts := []) (s := [1]) (l := [0, 1, 2, 13, 14, 24, 25]) (by kernel_rfl) (by kernel_rfl) (.cons h394 (.cons (G_ringref5_Own_ok n v_z188 v_k2 _ h395) (.cons (dt h396) (.cons (bt h397) (.cons (len_ob (f := eS_limit_Box) (l := v_r103.1)) (.cons (bf h398) (.cons (G_ringref5_Own_ok n v_z188 v_k2 _ h399) (.cons (dt h400) (.cons (bf h401) .nil))))))))) q
          · rw [if_neg h400] at h
            cases h
            exact pkk_sound TTok mix hF 1 (hs := [.t true, .c, .c, .c, .r ((eI .i64) v_r369), .c, .c, .t true, .c, .c, .c, .t true, .c, .u (.d (.v (.int .i64 (v_r103.1.length : Int)))), .c, .c, .c, .t false, .c, .c, .c, .r ((eI .i64) v_r372), .c, .c, .t false, .c, .c, .c, .c, .c, .c, .c, .c]) (ts := []) (s := [1]) (l := [0, 1, 2, 13, 14, 24, 25]) (by kernel_rfl) (by kernel_rfl) (.cons h394 (.cons (G_ringref5_Own_ok n v_z188 v_k2 _ h395) (.cons (dt h396) (.cons (bt h397) (.cons (len_ob (f := eS_limit_Box) (l := v_r103.1)) (.cons (bf h398) (.cons (G_ringref5_Own_ok n v_z188 v_k2 _ h399) (.cons (df h400) .nil)))))))) q
      · rw [if_neg h397] at h
        obtain ⟨v_r380, h403, h⟩ := bind_some h
        by_cases h404 : v_n3 ≤ v_r380
        · rw [if_pos h404] at h
          by_cases h405 : v_r103.2 = 0
          · rw [if_pos h405] at h
            obtain ⟨v_r381, h406, h⟩ := bind_some h
            cases h
            exact pkk_sound TTok mix hF 1 (hs := [.t true, .c, .c, .c, .r ((eI .i64) v_r369), .c, .c, .t true, .c, .c, .c, .t false, .c, .c, .c, .c, .c, .c, .c, .c, .r ((eI .i64) v_r380), .c, .c, .t true, .c, .c, .c, .t true, .c, .c, .c, .r (eB v_r381), .c, .c]) (ts := []) (s := [1]) (l := [0, 1, 2, 13, 14, 24, 25]) (by kernel_rfl) (by kernel_rfl) (.cons h394 (.cons (G_ringref5_Own_ok n v_z188 v_k2 _ h395) (.cons (dt h396) (.cons (bf h397) (.cons (G_ringref5_Own_ok n v_z188 v_k2 _ h403) (.cons (dt h404) (.cons (bt h405) (.cons (G_slices_Equal_limit_Box_limit_Box_ok n v_r103.1 v_z350 _ h406) .nil)))))))) q
          · rw [if_neg h405] at h
            cases h
            exact pkk_sound TTok mix hF 1 (hs := [.t true, .c, .c, .c, .r ((eI .i64) v_r369), .c, .c, .t true, .c, .c, .c, .t false, .c, .c, .c, .c, .c, .c, .c, .c, .r ((eI .i64) v_r380), .c, .c, .t true, .c, .c, .c, .t false, .c, .c, .c, .c]) (ts := []) (s := [1]) (l := [0, 1, 2, 13, 14, 24, 25]) (by kernel_rfl) (by kernel_rfl) (.cons h394 (.cons (G_ringref5_Own_ok n v_z188 v_k2 _ h395) (.cons (dt h396) (.cons (bf h397) (.cons (G_ringref5_Own_ok n v_z188 v_k2 _ h403) (.cons (dt h404) (.cons (bf h405) .nil))))))) q
        · rw [if_neg h404] at h
          cases h
          exact pkk_sound TTok mix hF 1 (hs := [.t true, .c, .c, .c, .r ((eI .i64) v_r369), .c, .c, .t true, .c, .c, .c, .t false, .c, .c, .c, .c, .c, .c, .c, .c, .r ((eI .i64) v_r380), .c, .c, .t false, .c, .c, .c, .c, .c, .c, .c, .c]) (ts := []) (s := [1]) (l := [0, 1, 2, 13, 14, 24, 25]) (by kernel_rfl) (by kernel_rfl) (.cons h394 (.cons (G_ringref5_Own_ok n v_z188 v_k2 _ h395) (.cons (dt h396) (.cons (bf h397) (.cons (G_ringref5_Own_ok n v_z188 v_k2 _ h403) (.cons (df h404) .nil)))))) q
    · rw [if_neg h396] at h
      obtain ⟨v_r388, h407, h⟩ := bind_some h
      by_cases h408 : v_n3 ≤ v_r388
      · rw [if_pos h408] at h
        by_cases h409 : v_r103.2 = 0
        · rw [if_pos h409] at h
          obtain ⟨v_r389, h410, h⟩ := bind_some h
          cases h
          exact pkk_sound TTok mix hF 1 (hs := [.t true, .c, .c, .c, .r ((eI .i64) v_r369), .c, .c, .t false, .c, .c, .c, .c, .c, .c, .c, .c, .c, .c, .c, .c, .r ((eI .i64) v_r388), .c, .c, .t true, .c, .c, .c, .t true, .c, .c, .c, .r (eB v_r389), .c, .c]) (ts := []) (s := [1]) (l := [0, 1, 2, 13, 14, 24, 25]) (by kernel_rfl) (by kernel_rfl) (.cons h394 (.cons (G_ringref5_Own_ok n v_z188 v_k2 _ h395) (.cons (df h396) (.cons (G_ringref5_Own_ok n v_z188 v_k2 _ h407) (.cons (dt h408) (.cons (bt h409) (.cons (G_slices_Equal_limit_Box_limit_Box_ok n v_r103.1 v_z350 _ h410) .nil))))))) q
        · rw [if_neg h409] at h
          cases h
          exact pkk_sound TTok mix hF 1 (hs := [.t true, .c, .c, .c, .r ((eI .i64) v_r369), .c, .c, .t false, .c, .c, .c, .c, .c, .c, .c, .c, .c, .c, .c, .c, .r ((eI .i64) v_r388), .c, .c, .t true, .c, .c, .c, .t false, .c, .c, .c, .c]) (ts := []) (s := [1]) (l := [0, 1, 2, 13, 14, 24, 25]) (by kernel_rfl) (by kernel_rfl) (.cons h394 (.cons (G_ringref5_Own_ok n v_z188 v_k2 _ h395) (.cons (df h396) (.cons (G_ringref5_Own_ok n v_z188 v_k2 _ h407) (.cons (dt h408) (.cons (bf h409) .nil)))))) q
      · rw [if_neg h408] at h
        cases h
        exact pkk_sound TTok mix hF 1 (hs := [.t true, .c, .c, .c, .r ((eI .i64) v_r369), .c, .c, .t false, .c, .c, .c, .c, .c, .c, .c, .c, .c, .c, .c, .c, .r ((eI .i64) v_r388), .c, .c, .t false, .c, .c, .c, .c, .c, .c, .c, .c]) (ts := []) (s := [1]) (l := [0, 1, 2, 13, 14, 24, 25]) (by kernel_rfl) (by kernel_rfl) (.cons h394 (.cons (G_ringref5_Own_ok n v_z188 v_k2 _ h395) (.cons (df h396) (.cons (G_ringref5_Own_ok n v_z188 v_k2 _ h407) (.cons (df h408) .nil))))) q
  · rw [if_neg h394] at h
    cases h
    exact pkk_sound TTok mix hF 1 (hs := [.t false, .c, .c, .c, .c, .c, .c, .c, .c, .c, .c]) (ts := []) (s := [1]) (l := [0, 1, 2, 13, 14, 24, 25]) (by kernel_rfl) (by kernel_rfl) (.cons (vf h394) .nil) q
inductive G_ringlaw5_LimitSays_C11_R where
  | x0 (v_x409 : Bool)
def G_ringlaw5_LimitSays_C11_ex : G_ringlaw5_LimitSays_C11_R → Ex
  | .x0 _ => .normal
def G_ringlaw5_LimitSays_C11_st (v_l1 : (List S_limit_Box)) (v_k2 : Int) (v_n3 : Int) (v_r129 : ((List S_limit_Box) × Int)) (v_z399 : Bool) (v_z400 : (List S_limit_Box)) : G_ringlaw5_LimitSays_C11_R → PS
  | .x0 v_x409 => ⟨[dd, dd, dd, dd, dd, dd, .d (.v (.bool v_x409)), dd, dd, dd, dd, dd, dd, dd, dd, dd, dd, dd, dd, dd, dd, dd, dd, dd, dd, dd, dd, dd, dd, dd, dd, dd, dd, dd, dd, dd, dd, dd, dd, dd, dd, dd, dd, dd, dd, dd, dd, dd, dd, dd, dd, dd, dd, dd, dd, dd, dd, dd, dd, dd, dd, dd, dd, dd, dd, dd, dd, dd, dd, dd, dd, dd, dd, dd, dd, dd, dd, dd, dd, dd, dd, dd, dd, dd, dd, dd, dd, dd, dd, dd, dd, dd, dd, dd, dd, dd, dd, dd, dd, dd, dd, dd, dd, dd, dd, dd, dd, dd, dd, dd, dd, dd, dd, dd, dd, dd, dd, dd, dd, dd, dd, dd, dd, dd, dd, dd, dd, dd, dd, dd, dd, dd, dd, dd, dd, dd, dd, dd, dd, dd, dd, dd, dd, dd, dd, dd, dd, dd, dd, dd, dd, dd, dd, dd, dd, dd, dd, dd, dd, dd, dd, dd, dd, dd, dd, dd, dd, dd, dd, dd, dd, dd, dd, dd, dd, dd, dd, dd, dd, dd, dd, dd, dd, dd, dd, dd, dd, dd, dd, dd, dd, dd, dd, dd, dd, dd, dd, dd, dd, dd, dd, dd, dd, dd, dd, dd, dd, dd, dd, dd, dd, dd, dd, dd, dd, dd, dd, dd, dd, dd, dd, dd, dd, dd, dd, dd, dd, dd, dd, dd, dd, dd, dd, dd, dd, dd, dd, dd, dd, dd, dd, dd, dd, dd, dd, dd, dd, dd, dd, dd, dd, dd, dd, dd, dd, dd, dd, dd, dd, dd, dd, dd, dd, dd, dd, dd, dd, dd, dd, dd, dd, dd, dd, dd, dd, dd, dd, dd, dd, dd, dd, dd, dd, dd, dd, dd, dd, dd, dd, dd, dd, dd, dd, dd, dd, dd, dd, dd, dd, dd, dd, dd, dd, dd, dd, dd, dd, dd, dd, dd, dd, dd], []⟩
def G_ringlaw5_LimitSays_C11_hd (v_l1 : (List S_limit_Box)) (v_k2 : Int) (v_n3 : Int) (v_r129 : ((List S_limit_Box) × Int)) (v_z399 : Bool) (v_z400 : (List S_limit_Box))  : PS := ⟨[.d (.sl (v_l1.map eS_limit_Box)), .d (.v (.int .i64 v_k2)), .d (.v (.int .i64 v_n3)), dd, dd, dd, dd, dd, dd, dd, dd, dd, dd, .d (.sl (v_r129.1.map eS_limit_Box)), .d (.v (.int .i64 v_r129.2)), dd, dd, dd, dd, dd, dd, dd, dd, dd, .srf 0, .d (.v (.bool v_z399)), dd, dd, dd, dd, dd, dd, dd, dd, dd, dd, dd, dd, dd, dd, dd, dd, dd, dd, dd, dd, dd, dd, dd, dd, dd, dd, dd, dd, dd, dd, dd, dd, dd, dd, dd, dd, dd, dd, dd, dd, dd, dd, dd, dd, dd, dd, dd, dd, dd, dd, dd, dd, dd, dd, dd, dd, dd, dd, dd, dd, dd, dd, dd, dd, dd, dd, dd, dd, dd, dd, dd, dd, dd, dd, dd, dd, dd, dd, dd, dd, dd, dd, dd, dd, dd, dd, dd, dd, dd, dd, dd, dd, dd, dd, dd, dd, dd, dd, dd, dd, dd, dd, dd, dd, dd, dd, dd, dd, dd, dd, dd, dd, dd, dd, dd, dd, dd, dd, dd, dd, dd, dd, dd, dd, dd, dd, dd, dd, dd, dd, dd, dd, dd, dd, dd, dd, dd, dd, dd, dd, dd, dd, dd, dd, dd, dd, dd, dd, dd, dd, dd, dd, dd, dd, dd, dd, dd, dd, dd, dd, dd, dd, dd, dd, dd, dd, dd, dd, dd, dd, dd, dd, dd, dd, dd, dd, dd, dd, dd, dd, dd, dd, dd, dd, dd, dd, dd, dd, dd, dd, dd, dd, dd, dd, dd, dd, dd, dd, dd, dd, dd, dd, dd, dd, dd, dd, dd, dd, dd, dd, dd, dd, dd, dd, dd, dd, dd, dd, dd, dd, dd, dd, dd, dd, dd, dd, dd, dd, dd, dd, dd, dd, dd, dd, dd, dd, dd, dd, dd, dd, dd, dd, dd, dd, dd, dd, dd, dd, dd, dd, dd, dd, dd, dd, dd, dd, dd, dd, dd, dd, dd, dd, dd, dd, dd, dd, dd, dd, dd, dd, dd, dd, dd, dd, dd, dd, dd, dd, dd, dd, dd, dd, dd, dd, dd, dd], [.row 122 3 (v_z400.map eS_limit_Box)]⟩
def G_ringlaw5_LimitSays_C11 (n : Nat) (v_l1 : (List S_limit_Box)) (v_k2 : Int) (v_n3 : Int) (v_r129 : ((List S_limit_Box) × Int)) (v_z399 : Bool) (v_z400 : (List S_limit_Box)) : Option G_ringlaw5_LimitSays_C11_R :=
  if v_z399 = true then
   (getI v_l1 v_k2).bind fun (v_y408 : S_limit_Box) =>
   if v_n3 < v_y408.fHave then
    if v_r129.2 = 8 then
     if (v_r129.1.length : Int) = 0 then
      some (.x0 true)
     else
      (getI v_l1 v_k2).bind fun (v_y410 : S_limit_Box) =>
      if v_n3 ≥ v_y410.fHave then
       if v_r129.2 = 0 then
        (G_slices_Equal_limit_Box_limit_Box n v_r129.1 v_z400).bind fun (v_r411 : (Bool)) =>
        some (.x0 v_r411)
       else
        some (.x0 false)
      else
       some (.x0 false)
    else
     (getI v_l1 v_k2).bind fun (v_y415 : S_limit_Box) =>
     if v_n3 ≥ v_y415.fHave then
      if v_r129.2 = 0 then
       (G_slices_Equal_limit_Box_limit_Box n v_r129.1 v_z400).bind fun (v_r416 : (Bool)) =>
       some (.x0 v_r416)
      else
       some (.x0 false)
     else
      some (.x0 false)
   else
    (getI v_l1 v_k2).bind fun (v_y420 : S_limit_Box) =>
    if v_n3 ≥ v_y420.fHave then
     if v_r129.2 = 0 then
      (G_slices_Equal_limit_Box_limit_Box n v_r129.1 v_z400).bind fun (v_r421 : (Bool)) =>
      some (.x0 v_r421)
     else
      some (.x0 false)
    else
     some (.x0 false)
  else
   some (.x0 false)
theorem G_ringlaw5_LimitSays_C11_ok {Fi : Ex → PS → Prop} (hF : KC 312 Fi) (ks : List Fr) (n : Nat) (v_l1 : (List S_limit_Box)) (v_k2 : Int) (v_n3 : Int) (v_r129 : ((List S_limit_Box) × Int)) (v_z399 : Bool) (v_z400 : (List S_limit_Box))  (o : G_ringlaw5_LimitSays_C11_R) (h : G_ringlaw5_LimitSays_C11 n v_l1 v_k2 v_n3 v_r129 v_z399 v_z400 = some o) (q : RunE Try.prog 312 Fi ks (G_ringlaw5_LimitSays_C11_ex o) (G_ringlaw5_LimitSays_C11_st v_l1 v_k2 v_n3 v_r129 v_z399 v_z400 o)) : RunE Try.prog 312 Fi (.s (cL (cR (cR (cR (cR (cR (cR (cR (cR (cR (cR (cR (cR (cR (cR (cR (cR (cR (cR (cR (cR (bodyOf Try.f10)))))))))))))))))))))) :: ks) .normal (G_ringlaw5_LimitSays_C11_hd v_l1 v_k2 v_n3 v_r129 v_z399 v_z400) := by
  unfold G_ringlaw5_LimitSays_C11 at h
  by_cases h429 : v_z399 = true
  · rw [if_pos h429] at h
    obtain ⟨v_y408, h430, h⟩ := bind_some h
    by_cases h431 : v_n3 < v_y408.fHave
    · rw [if_pos h431] at h
      by_cases h432 : v_r129.2 = 8
      · rw [if_pos h432] at h
        by_cases h433 : (v_r129.1.length : Int) = 0
        · rw [if_pos h433] at h
          cases h
          exact pkk_sound TTok mix hF 1 (hs := [.t true, .c, .c, .c, .y (eS_limit_Box v_y408), .c, .c, .c, .c, .c, .t true, .c, .c, .c, .t true, .c, .u (.d (.v (.int .i64 (v_r129.1.length : Int)))), .c, .c, .c, .t true, .c, .c, .c, .c, .c, .c, .c, .c, .c, .c, .c]) (ts := []) (s := []) (l := [6]) (by kernel_rfl) (by kernel_rfl) (.cons h429 (.cons (getI_ob (f := eS_limit_Box) h430) (.cons (dt h431) (.cons (bt h432) (.cons (len_ob (f := eS_limit_Box) (l := v_r129.1)) (.cons (bt h433) .nil)))))) q
        · rw [if_neg h433] at h
          obtain ⟨v_y410, h434, h⟩ := bind_some h
          by_cases h435 : v_n3 ≥ v_y410.fHave
          · rw [if_pos h435] at h
            by_cases h436 : v_r129.2 = 0
            · rw [if_pos h436] at h
              obtain ⟨v_r411, h437, h⟩ := bind_some h
              cases h
              exact pkk_sound TTok mix hF 1 (hs := [.t true, .c, .c, .c, .y (eS_limit_Box v_y408), .c, .c, .c, .c, .c, .t true, .c, .c, .c, .t true, .c, .u (.d (.v (.int .i64 (v_r129.1.length : Int)))), .c, .c, .c, .t false, .c, .c, .c, .y (eS_limit_Box v_y410), .c, .c, .c, .c, .c, .t true, .c, .c, .c, .t true, .c, .c, .c, .r (eB v_r411), .c, .c]) (ts := []) (s := []) (l := [6]) (by kernel_rfl) (by kernel_rfl) (.cons h429 (.cons (getI_ob (f := eS_limit_Box) h430) (.cons (dt h431) (.cons (bt h432) (.cons (len_ob (f := eS_limit_Box) (l := v_r129.1)) (.cons (bf h433) (.cons (getI_ob (f := eS_limit_Box) h434) (.cons (dt h435) (.cons (bt h436) (.cons (G_slices_Equal_limit_Box_limit_Box_ok n v_r129.1 v_z400 _ h437) .nil)))))))))) q
            · rw [if_neg h436] at h
              cases h
              exact pkk_sound TTok mix hF 1 (hs := [.t true, .c, .c, .c, .y (eS_limit_Box v_y408), .c, .c, .c, .c, .c, .t true, .c, .c, .c, .t true, .c, .u (.d (.v (.int .i64 (v_r129.1.length : Int)))), .c, .c, .c, .t false, .c, .c, .c, .y (eS_limit_Box v_y410), .c, .c, .c, .c, .c, .t true, .c, .c, .c, .t false, .c, .c, .c, .c]) (ts := []) (s := []) (l := [6]) (by kernel_rfl) (by kernel_rfl) (.cons h429 (.cons (getI_ob (f := eS_limit_Box) h430) (.cons (dt h431) (.cons (bt h432) (.cons (len_ob (f := eS_limit_Box) (l := v_r129.1)) (.cons (bf h433) (.cons (getI_ob (f := eS_limit_Box) h434) (.cons (dt h435) (.cons (bf h436) .nil))))))))) q
          · rw [if_neg h435] at h
            cases h
            exact pkk_sound TTok mix hF 1 (hs := [.t true, .c, .c, .c, .y (eS_limit_Box v_y408), .c, .c, .c, .c, .c, .t true, .c, .c, .c, .t true, .c, .u (.d (.v (.int .i64 (v_r129.1.length : Int)))), .c, .c, .c, .t false, .c, .c, .c, .y (eS_limit_Box v_y410), .c, .c, .c, .c, .c, .t false, .c, .c, .c, .c, .c, .c, .c, .c]) (ts := []) (s := []) (l := [6]) (by kernel_rfl) (by kernel_rfl) (.cons h429 (.cons (getI_ob (f := eS_limit_Box) h430) (.cons (dt h431) (.cons (bt h432) (.cons (len_ob (f := eS_limit_Box) (l := v_r129.1)) (.cons (bf h433) (.cons (getI_ob (f := eS_limit_Box) h434) (.cons (df h435) .nil)))))))) q
      · rw [if_neg h432] at h
        obtain ⟨v_y415, h438, h⟩ := bind_some h
        by_cases h439 : v_n3 ≥ v_y415.fHave
        · rw [if_pos h439] at h
          by_cases h440 : v_r129.2 = 0
          · rw [if_pos h440] at h
            obtain ⟨v_r416, h441, h⟩ := bind_some h
            cases h
            exact pkk_sound TTok mix hF 1 (hs := [.t true, .c, .c, .c, .y (eS_limit_Box v_y408), .c, .c, .c, .c, .c, .t true, .c, .c, .c, .t false, .c, .c, .c, .c, .c, .c, .c, .c, .y (eS_limit_Box v_y415), .c, .c, .c, .c, .c, .t true, .c, .c, .c, .t true, .c, .c, .c, .r (eB v_r416), .c, .c]) (ts := []) (s := []) (l := [6]) (by kernel_rfl) (by kernel_rfl) (.cons h429 (.cons (getI_ob (f := eS_limit_Box) h430) (.cons (dt h431) (.cons (bf h432) (.cons (getI_ob (f := eS_limit_Box) h438) (.cons (dt h439) (.cons (bt h440) (.cons (G_slices_Equal_limit_Box_limit_Box_ok n v_r129.1 v_z400 _ h441) .nil)))))))) q
          · rw [if_neg h440] at h
            cases h
            exact pkk_sound TTok mix hF 1 (hs := [.t true, .c, .c, .c, .y (eS_limit_Box v_y408), .c, .c, .c, .c, .c, .t true, .c, .c, .c, .t false, .c, .c, .c, .c, .c, .c, .c, .c, .y (eS_limit_Box v_y415), .c, .c, .c, .c, .c, .t true, .c, .c, .c, .t false, .c, .c, .c, .c]) (ts := []) (s := []) (l := [6]) (by kernel_rfl) (by kernel_rfl) (.cons h429 (.cons (getI_ob (f := eS_limit_Box) h430) (.cons (dt h431) (.cons (bf h432) (.cons (getI_ob (f := eS_limit_Box) h438) (.cons (dt h439) (.cons (bf h440) .nil))))))) q
        · rw [if_neg h439] at h
          cases h
          exact pkk_sound TTok mix hF 1 (hs := [.t true, .c, .c, .c, .y (eS_limit_Box v_y408), .c, .c, .c, .c, .c, .t true, .c, .c, .c, .t false, .c, .c, .c, .c, .c, .c, .c, .c, .y (eS_limit_Box v_y415), .c, .c, .c, .c, .c, .t false, .c, .c, .c, .c, .c, .c, .c, .c]) (ts := []) (s := []) (l := [6]) (by kernel_rfl) (by kernel_rfl) (.cons h429 (.cons (getI_ob (f := eS_limit_Box) h430) (.cons (dt h431) (.cons (bf h432) (.cons (getI_ob (f := eS_limit_Box) h438) (.cons (df h439) .nil)))))) q
    · rw [if_neg h431] at h
      obtain ⟨v_y420, h442, h⟩ := bind_some h
      by_cases h443 : v_n3 ≥ v_y420.fHave
      · rw [if_pos h443] at h
        by_cases h444 : v_r129.2 = 0
        · rw [if_pos h444] at h
          obtain ⟨v_r421, h445, h⟩ := bind_some h
          cases h
          exact pkk_sound TTok mix hF 1 (hs := [.t true, .c, .c, .c, .y (eS_limit_Box v_y408), .c, .c, .c, .c, .c, .t false, .c, .c, .c, .c, .c, .c, .c, .c, .c, .c, .c, .c, .y (eS_limit_Box v_y420), .c, .c, .c, .c, .c, .t true, .c, .c, .c, .t true, .c, .c, .c, .r (eB v_r421), .c, .c]) (ts := []) (s := []) (l := [6]) (by kernel_rfl) (by kernel_rfl) (.cons h429 (.cons (getI_ob (f := eS_limit_Box) h430) (.cons (df h431) (.cons (getI_ob (f := eS_limit_Box) h442) (.cons (dt h443) (.cons (bt h444) (.cons (G_slices_Equal_limit_Box_limit_Box_ok n v_r129.1 v_z400 _ h445) .nil))))))) q
        · rw [if_neg h444] at h
          cases h
          exact pkk_sound TTok mix hF 1 (hs := [.t true, .c, .c, .c, .y (eS_limit_Box v_y408), .c, .c, .c, .c, .c, .t false, .c, .c, .c, .c, .c, .c, .c, .c, .c, .c, .c, .c, .y (eS_limit_Box v_y420), .c, .c, .c, .c, .c, .t true, .c, .c, .c, .t false, .c, .c, .c, .c]) (ts := []) (s := []) (l := [6]) (by kernel_rfl) (by kernel_rfl) (.cons h429 (.cons (getI_ob (f := eS_limit_Box) h430) (.cons (df h431) (.cons (getI_ob (f := eS_limit_Box) h442) (.cons (dt h443) (.cons (bf h444) .nil)))))) q
      · rw [if_neg h443] at h
        cases h
        exact pkk_sound TTok mix hF 1 (hs := [.t true, .c, .c, .c, .y (eS_limit_Box v_y408), .c, .c, .c, .c, .c, .t false, .c, .c, .c, .c, .c, .c, .c, .c, .c, .c, .c, .c, .y (eS_limit_Box v_y420), .c, .c, .c, .c, .c, .t false, .c, .c, .c, .c, .c, .c, .c, .c]) (ts := []) (s := []) (l := [6]) (by kernel_rfl) (by kernel_rfl) (.cons h429 (.cons (getI_ob (f := eS_limit_Box) h430) (.cons (df h431) (.cons (getI_ob (f := eS_limit_Box) h442) (.cons (df h443) .nil))))) q
  · rw [if_neg h429] at h
    cases h
    exact pkk_sound TTok mix hF 1 (hs := [.t false, .c, .c, .c, .c, .c, .c, .c, .c, .c, .c, .c, .c]) (ts := []) (s := []) (l := [6]) (by kernel_rfl) (by kernel_rfl) (.cons (vf h429) .nil) q
/- ringhall/ringlaw5.LimitSays -/
def G_ringlaw5_LimitSays (n : Nat) (v_l1 : (List S_limit_Box)) (v_k2 : Int) (v_n3 : Int) : Option (Bool) :=
  (G_limit_Take n v_l1 v_k2 v_n3).bind fun (v_r79 : ((List S_limit_Box) × Int)) =>
  (G_limit_Give n v_l1 v_k2 v_n3).bind fun (v_r103 : ((List S_limit_Box) × Int)) =>
  (G_limit_Room n v_l1 v_k2).bind fun (v_r121 : (Int × Int)) =>
  (G_limit_Turn n v_l1 v_k2 v_n3).bind fun (v_r129 : ((List S_limit_Box) × Int)) =>
  (G_ringlaw5_LimitSays_L1 n v_l1 v_k2 v_n3 v_r79 v_r103 v_r121 v_r129 n 0 ([] : List (Fin 3 → Int))).bind fun v_o137 => match v_o137 with
  | .x0 v_z138 =>
    (G_ringref5_BoxesErr n v_z138).bind fun (v_r178 : (Int)) =>
    (G_limit_Check n v_l1).bind fun (v_r179 : (Int)) =>
    if v_r179 = v_r178 then
     (G_ringlaw5_LimitSays_C2 n v_l1 v_k2 v_n3 v_r79 v_r103 v_r121 v_r129 v_r178 v_z138).bind fun v_o186 => match v_o186 with
     | .x0 v_z187 v_z188 =>
       if v_z187 = true then
        (G_ringlaw5_LimitSays_C3 n v_r79 v_r103 v_r121 v_r129).bind fun v_o203 => match v_o203 with
        | .x0 v_z204 =>
          some v_z204
       else
        if v_r178 = 0 then
         (G_slices_Clone_limit_Box_limit_Box n v_l1).bind fun (v_r221 : ((List S_limit_Box))) =>
         (G_slices_Clone_limit_Box_limit_Box n v_l1).bind fun (v_r222 : ((List S_limit_Box))) =>
         (G_ringref5_Above n v_z188 v_k2).bind fun (v_r229 : ((List Int))) =>
         (G_ringlaw5_LimitSays_L6 n v_l1 v_k2 v_n3 v_r79 v_r103 v_r121 v_r129 v_z188 v_r229 n 1000000 0 v_r221 v_r222).bind fun v_o272 => match v_o272 with
         | .x0 v_z273 v_z274 v_z275 =>
           if v_r121.2 = 0 then
            if v_r121.1 = v_z273 then
             if v_n3 < 0 then
              (G_ringlaw5_LimitSays_C7 n v_r79 v_r103 v_r129).bind fun v_o286 => match v_o286 with
              | .x0 v_z287 =>
                some v_z287
             else
              if v_n3 > 1000000 then
               (G_ringlaw5_LimitSays_C8 n v_r79 v_r103 v_r129).bind fun v_o298 => match v_o298 with
               | .x0 v_z299 =>
                 some v_z299
              else
               (G_slices_Clone_limit_Box_limit_Box n v_l1).bind fun (v_r300 : ((List S_limit_Box))) =>
               if 0 ≤ v_k2 ∧ (v_k2).toNat < v_r300.length then
                (v_r300[(v_k2).toNat]?).bind fun (v_y301 : S_limit_Box) =>
                (G_ringlaw5_LimitSays_C9 n v_l1 v_k2 v_n3 v_r79 v_r103 v_r129 v_z188 v_z273 v_z274 v_z275 v_r300 v_y301).bind fun v_o348 => match v_o348 with
                | .x0 v_z349 v_z350 v_z351 =>
                  (G_ringlaw5_LimitSays_C10 n v_l1 v_k2 v_n3 v_r103 v_r129 v_z188 v_z349 v_z350 v_z351).bind fun v_o398 => match v_o398 with
                  | .x0 v_z399 v_z400 =>
                    (G_ringlaw5_LimitSays_C11 n v_l1 v_k2 v_n3 v_r129 v_z399 v_z400).bind fun v_o426 => match v_o426 with
                    | .x0 v_z427 =>
                      some v_z427
               else none
            else
             some false
           else
            some false
        else
         (G_ringlaw5_LimitSays_C4 n v_r79 v_r103 v_r121 v_r129 v_r178).bind fun v_o219 => match v_o219 with
         | .x0 v_z220 =>
           some v_z220
    else
     some false
theorem G_ringlaw5_LimitSays_ok (n : Nat) (v_l1 : (List S_limit_Box)) (v_k2 : Int) (v_n3 : Int) (r : Bool) (h : G_ringlaw5_LimitSays n v_l1 v_k2 v_n3 = some r) : Ret Try.prog 10 [(eL eS_limit_Box) v_l1, (eI .i64) v_k2, (eI .i64) v_n3] (eB r) := by
  refine ret_run (n := 312) (fn := Try.f10) (c := bodyOf Try.f10) (by kernel_rfl) (by kernel_rfl) (by kernel_rfl) (by kernel_rfl) ?_
  have hF : KC 312 (FinR Try.prog Try.f10 (eB r)) := FinR.kc' (by kernel_rfl)
  unfold G_ringlaw5_LimitSays at h
  obtain ⟨v_r79, h81, h⟩ := bind_some h
  obtain ⟨v_r103, h109, h⟩ := bind_some h
  obtain ⟨v_r121, h124, h⟩ := bind_some h
  obtain ⟨v_r129, h135, h⟩ := bind_some h
  obtain ⟨v_o137, h141, h⟩ := bind_some h
  refine pkk_sound TTok mix hF 17 (hs := [.r (.tup [(eL eS_limit_Box) v_r79.1, (eI .i64) v_r79.2]), .r (.tup [(eL eS_limit_Box) v_r103.1, (eI .i64) v_r103.2]), .r (.tup [(eI .i64) v_r121.1, (eI .i64) v_r121.2]), .r (.tup [(eL eS_limit_Box) v_r129.1, (eI .i64) v_r129.2]), .u (.d (.v (.int .i64 (v_l1.length : Int)))), .n n]) (ts := [(15, 123, 3)]) (s := [120]) (l := [0, 1, 2, 7, 8, 9, 10, 11, 12, 13, 14, 15, 53, 54, 55]) (by kernel_rfl) (by kernel_rfl) (.cons (G_limit_Take_ok n v_l1 v_k2 v_n3 _ h81) (.cons (G_limit_Give_ok n v_l1 v_k2 v_n3 _ h109) (.cons (G_limit_Room_ok n v_l1 v_k2 _ h124) (.cons (G_limit_Turn_ok n v_l1 v_k2 v_n3 _ h135) (.cons (len_ob (f := eS_limit_Box) (l := v_l1)) .nil))))) (G_ringlaw5_LimitSays_L1_ok hF (.b 0 :: .s (cR (cR (cR (cR (cR (cR (cR (bodyOf Try.f10)))))))) :: []) n v_l1 v_k2 v_n3 v_r79 v_r103 v_r121 v_r129 n 0 ([] : List (Fin 3 → Int)) _ h141 ?_)
  cases v_o137 with
  | x0 v_z138 =>
    dsimp only at h
    obtain ⟨v_r178, h189, h⟩ := bind_some h
    obtain ⟨v_r179, h190, h⟩ := bind_some h
    by_cases h191 : v_r179 = v_r178
    · rw [if_pos h191] at h
      obtain ⟨v_o186, h196, h⟩ := bind_some h
      refine pkk_sound TTok mix hF 10 (hs := [.c, .r ((eI .i64) v_r178), .r ((eI .i64) v_r179), .t false]) (ts := []) (s := [0]) (l := [0, 1, 2, 7, 8, 9, 10, 11, 12, 13, 14, 15, 18]) (by kernel_rfl) (by kernel_rfl) (.cons (G_ringref5_BoxesErr_ok n v_z138 _ h189) (.cons (G_limit_Check_ok n v_l1 _ h190) (.cons (nf h191) .nil))) (G_ringlaw5_LimitSays_C2_ok hF (.s (cR (cL (cR (cR (cR (cR (cR (cR (cR (cR (cR (bodyOf Try.f10)))))))))))) :: .s (cR (cR (cR (cR (cR (cR (cR (cR (cR (cR (bodyOf Try.f10))))))))))) :: []) n v_l1 v_k2 v_n3 v_r79 v_r103 v_r121 v_r129 v_r178 v_z138 _ h196 ?_)
      cases v_o186 with
      | x0 v_z187 v_z188 =>
        dsimp only at h
        by_cases h197 : v_z187 = true
        · rw [if_pos h197] at h
          obtain ⟨v_o203, h219, h⟩ := bind_some h
          refine pkk_sound TTok mix hF 7 (hs := [.t true, .c]) (ts := []) (s := []) (l := [7, 8, 9, 10, 11, 12, 13, 14, 18]) (by kernel_rfl) (by kernel_rfl) (.cons h197 .nil) (G_ringlaw5_LimitSays_C3_ok hF (.s (cR (cT (cR (cL (cR (cR (cR (cR (cR (cR (cR (cR (cR (cR (bodyOf Try.f10))))))))))))))) :: .s (cR (cR (cR (cR (cR (cR (cR (cR (cR (cR (cR (bodyOf Try.f10)))))))))))) :: []) n v_r79 v_r103 v_r121 v_r129 _ h219 ?_)
          cases v_o203 with
          | x0 v_z204 =>
            dsimp only at h
            obtain rfl := Option.some.inj h
            exact pend_sound TTok mix 2 (hs := []) (by kernel_rfl) (by kernel_rfl) (by kernel_rfl) .nil
        · rw [if_neg h197] at h
          by_cases h232 : v_r178 = 0
          · rw [if_pos h232] at h
            obtain ⟨v_r221, h244, h⟩ := bind_some h
            obtain ⟨v_r222, h245, h⟩ := bind_some h
            obtain ⟨v_r229, h250, h⟩ := bind_some h
            obtain ⟨v_o272, h297, h⟩ := bind_some h
            refine pkk_sound TTok mix hF 17 (hs := [.t false, .t false, .h [] [] [.row 122 3 (v_r221.map eS_limit_Box)] (.srf 0), .h [] [] [.row 122 3 (v_r222.map eS_limit_Box)] (.srf 0), .dl 2, .fz 0, .r ((eL (eI .i64)) v_r229), .u (.d (.v (.int .i64 (v_r229.length : Int)))), .n n]) (ts := []) (s := [13, 19]) (l := [0, 1, 2, 7, 8, 9, 10, 11, 12, 13, 14, 15, 19, 20, 21, 129, 130, 131]) (by kernel_rfl) (by kernel_rfl) (.cons (vf h197) (.cons (nf h232) (.cons (G_slices_Clone_limit_Box_limit_Box_ok n v_l1 _ h244) (.cons (G_slices_Clone_limit_Box_limit_Box_ok n v_l1 _ h245) (.cons (G_ringref5_Above_ok n v_z188 v_k2 _ h250) (.cons (len_ob (f := (eI .i64)) (l := v_r229)) .nil)))))) (G_ringlaw5_LimitSays_L6_ok hF (.b 2 :: .s (cR (cR (cR (cR (cR (cR (cR (cR (cR (cR (cR (cR (cR (cR (bodyOf Try.f10))))))))))))))) :: []) n v_l1 v_k2 v_n3 v_r79 v_r103 v_r121 v_r129 v_z188 v_r229 n 1000000 0 v_r221 v_r222 _ h297 ?_)
            cases v_o272 with
            | x0 v_z273 v_z274 v_z275 =>
              dsimp only at h
              by_cases h298 : v_r121.2 = 0
              · rw [if_pos h298] at h
                by_cases h299 : v_r121.1 = v_z273
                · rw [if_pos h299] at h
                  by_cases h300 : v_n3 < 0
                  · rw [if_pos h300] at h
                    obtain ⟨v_o286, h314, h⟩ := bind_some h
                    refine pkk_sound TTok mix hF 11 (hs := [.t false, .c, .c, .t false, .t true, .c, .c]) (ts := []) (s := []) (l := [7, 8, 9, 10, 13, 14]) (by kernel_rfl) (by kernel_rfl) (.cons (nf h298) (.cons (nf h299) (.cons (dt h300) .nil))) (G_ringlaw5_LimitSays_C7_ok hF (.s (cR (cT (cR (cL (cR (cR (cR (cR (cR (cR (cR (cR (cR (cR (cR (cR (cR (cR (cR (bodyOf Try.f10)))))))))))))))))))) :: .s (cR (cR (cR (cR (cR (cR (cR (cR (cR (cR (cR (cR (cR (cR (cR (cR (bodyOf Try.f10))))))))))))))))) :: []) n v_r79 v_r103 v_r129 _ h314 ?_)
                    cases v_o286 with
                    | x0 v_z287 =>
                      dsimp only at h
                      obtain rfl := Option.some.inj h
                      exact pend_sound TTok mix 2 (hs := []) (by kernel_rfl) (by kernel_rfl) (by kernel_rfl) .nil
                  · rw [if_neg h300] at h
                    by_cases h323 : v_n3 > 1000000
                    · rw [if_pos h323] at h
                      obtain ⟨v_o298, h330, h⟩ := bind_some h
                      refine pkk_sound TTok mix hF 11 (hs := [.t false, .c, .c, .t false, .t false, .c, .t true]) (ts := []) (s := []) (l := [7, 8, 9, 10, 13, 14]) (by kernel_rfl) (by kernel_rfl) (.cons (nf h298) (.cons (nf h299) (.cons (df h300) (.cons (dt h323) .nil)))) (G_ringlaw5_LimitSays_C8_ok hF (.s (cR (cT (cR (cL (cR (cR (cR (cR (cR (cR (cR (cR (cR (cR (cR (cR (cR (cR (cR (bodyOf Try.f10)))))))))))))))))))) :: .s (cR (cR (cR (cR (cR (cR (cR (cR (cR (cR (cR (cR (cR (cR (cR (cR (bodyOf Try.f10))))))))))))))))) :: []) n v_r79 v_r103 v_r129 _ h330 ?_)
                      cases v_o298 with
                      | x0 v_z299 =>
                        dsimp only at h
                        obtain rfl := Option.some.inj h
                        exact pend_sound TTok mix 2 (hs := []) (by kernel_rfl) (by kernel_rfl) (by kernel_rfl) .nil
                    · rw [if_neg h323] at h
                      obtain ⟨v_r300, h331, h⟩ := bind_some h
                      by_cases h332 : 0 ≤ v_k2 ∧ (v_k2).toNat < v_r300.length
                      · rw [if_pos h332] at h
                        obtain ⟨v_y301, h333, h⟩ := bind_some h
                        obtain ⟨v_o348, h367, h⟩ := bind_some h
                        refine pkk_sound TTok mix hF 16 (hs := [.t false, .c, .c, .t false, .t false, .c, .t false, .h [] [] [.row 122 3 (v_r300.map eS_limit_Box)] (.srf 0), .w ((v_r300.set (v_k2).toNat (S_limit_Box.mk v_y301.fUp v_y301.fHave v_n3)).map eS_limit_Box), .y (eS_limit_Box v_y301)]) (ts := []) (s := [0, 1, 44]) (l := [0, 1, 2, 7, 8, 9, 10, 13, 14, 15, 19, 20, 21, 24]) (by kernel_rfl) (by kernel_rfl) (.cons (nf h298) (.cons (nf h299) (.cons (df h300) (.cons (df h323) (.cons (G_slices_Clone_limit_Box_limit_Box_ok n v_l1 _ h331) (.cons (idx_ob (f := eS_limit_Box) h332) (.cons (get_ob (f := eS_limit_Box) h333) (.cons (Eq.refl (pcells (.agg [.v (.int .i64 v_y301.fUp), .v (.int .i64 v_y301.fHave), .v (.int .i64 v_n3)]))) (.cons (set_ob (f := eS_limit_Box) (l := v_r300) (k := (v_k2).toNat) (z := (S_limit_Box.mk v_y301.fUp v_y301.fHave v_n3)) (p := .agg [.v (.int .i64 v_y301.fUp), .v (.int .i64 v_y301.fHave), .v (.int .i64 v_n3)]) rfl) .nil))))))))) (G_ringlaw5_LimitSays_C9_ok hF (.s (cR (cR (cR (cR (cR (cR (cR (cR (cR (cR (cR (cR (cR (cR (cR (cR (cR (cR (cR (bodyOf Try.f10)))))))))))))))))))) :: []) n v_l1 v_k2 v_n3 v_r79 v_r103 v_r129 v_z188 v_z273 v_z274 v_z275 v_r300 v_y301 _ h367 ?_)
                        cases v_o348 with
                        | x0 v_z349 v_z350 v_z351 =>
                          dsimp only at h
                          obtain ⟨v_o398, h411, h⟩ := bind_some h
                          refine pkk_sound TTok mix hF 1 (hs := []) (ts := []) (s := [0, 1]) (l := [0, 1, 2, 9, 10, 13, 14, 15, 21, 24, 25]) (by kernel_rfl) (by kernel_rfl) .nil (G_ringlaw5_LimitSays_C10_ok hF (.s (cR (cR (cR (cR (cR (cR (cR (cR (cR (cR (cR (cR (cR (cR (cR (cR (cR (cR (cR (cR (bodyOf Try.f10))))))))))))))))))))) :: []) n v_l1 v_k2 v_n3 v_r103 v_r129 v_z188 v_z349 v_z350 v_z351 _ h411 ?_)
                          cases v_o398 with
                          | x0 v_z399 v_z400 =>
                            dsimp only at h
                            obtain ⟨v_o426, h446, h⟩ := bind_some h
                            refine pkk_sound TTok mix hF 1 (hs := []) (ts := []) (s := [0]) (l := [0, 1, 2, 13, 14, 24, 25]) (by kernel_rfl) (by kernel_rfl) .nil (G_ringlaw5_LimitSays_C11_ok hF (.s (cR (cR (cR (cR (cR (cR (cR (cR (cR (cR (cR (cR (cR (cR (cR (cR (cR (cR (cR (cR (cR (bodyOf Try.f10)))))))))))))))))))))) :: []) n v_l1 v_k2 v_n3 v_r129 v_z399 v_z400 _ h446 ?_)
                            cases v_o426 with
                            | x0 v_z427 =>
                              dsimp only at h
                              obtain rfl := Option.some.inj h
                              exact pend_sound TTok mix 1 (hs := []) (by kernel_rfl) (by kernel_rfl) (by kernel_rfl) .nil
                      · rw [if_neg h332] at h; cases h
                · rw [if_neg h299] at h
                  obtain rfl := Option.some.inj h
                  exact pend_sound TTok mix 9 (hs := [.t false, .c, .c, .t true]) (by kernel_rfl) (by kernel_rfl) (by kernel_rfl) (.cons (nf h298) (.cons (nt h299) .nil))
              · rw [if_neg h298] at h
                obtain rfl := Option.some.inj h
                exact pend_sound TTok mix 9 (hs := [.t true, .c, .c, .c]) (by kernel_rfl) (by kernel_rfl) (by kernel_rfl) (.cons (nt h298) .nil)
          · rw [if_neg h232] at h
            obtain ⟨v_o219, h243, h⟩ := bind_some h
            refine pkk_sound TTok mix hF 7 (hs := [.t false, .t true]) (ts := []) (s := []) (l := [7, 8, 9, 10, 11, 12, 13, 14, 18]) (by kernel_rfl) (by kernel_rfl) (.cons (vf h197) (.cons (nt h232) .nil)) (G_ringlaw5_LimitSays_C4_ok hF (.s (cR (cT (cR (cL (cR (cR (cR (cR (cR (cR (cR (cR (cR (cR (bodyOf Try.f10))))))))))))))) :: .s (cR (cR (cR (cR (cR (cR (cR (cR (cR (cR (cR (bodyOf Try.f10)))))))))))) :: []) n v_r79 v_r103 v_r121 v_r129 v_r178 _ h243 ?_)
            cases v_o219 with
            | x0 v_z220 =>
              dsimp only at h
              obtain rfl := Option.some.inj h
              exact pend_sound TTok mix 2 (hs := []) (by kernel_rfl) (by kernel_rfl) (by kernel_rfl) .nil
    · rw [if_neg h191] at h
      obtain rfl := Option.some.inj h
      exact pend_sound TTok mix 11 (hs := [.c, .r ((eI .i64) v_r178), .r ((eI .i64) v_r179), .t true]) (by kernel_rfl) (by kernel_rfl) (by kernel_rfl) (.cons (G_ringref5_BoxesErr_ok n v_z138 _ h189) (.cons (G_limit_Check_ok n v_l1 _ h190) (.cons (nt h191) .nil)))
def okS_limit_Box (x : S_limit_Box) : Prop := (fun a => (Lit.int .i64 a).wf = true) x.fUp ∧ (fun a => (Lit.int .i64 a).wf = true) x.fHave ∧ (fun a => (Lit.int .i64 a).wf = true) x.fMost ∧ True
theorem brS_limit_Box : Br (.pair (.int .i64) (.pair (.int .i64) (.pair (.int .i64) .unit))) (fun x : S_limit_Box => [.v (.int .i64 x.fUp), .v (.int .i64 x.fHave), .v (.int .i64 x.fMost)]) okS_limit_Box := br_map (br_pair (br_int .i64) (br_pair (br_int .i64) (br_pair (br_int .i64) br_unit))) (fun p => S_limit_Box.mk p.1 p.2.1 p.2.2.1) (fun p h => ⟨rfl, h⟩)
theorem LimitSays_walk (H : ∀ (a0 : (List S_limit_Box)) (a1 : Int) (a2 : Int), (okL 24 okS_limit_Box) a0 → (fun a => (Lit.int .i64 a).wf = true) a1 → (fun a => (Lit.int .i64 a).wf = true) a2 → ∃ n, G_ringlaw5_LimitSays n a0 a1 a2 = some true) (w : World) (v0 : Value) (v1 : Value) (v2 : Value) (h0 : rep.Arg w (.slice 24 (.pair (.int .i64) (.pair (.int .i64) (.pair (.int .i64) .unit)))) v0) (h1 : rep.Arg w (.int .i64) v1) (h2 : rep.Arg w (.int .i64) v2) : Calls Try.prog 10 #[v0, v1, v2] w (help.Ret (.bool true) w) := by
  obtain ⟨a0, o0, r0⟩ := arg_one (br_slice (f := eS_limit_Box) (ok := okS_limit_Box) brS_limit_Box (fun _ => rfl) (by decide)) (by rfl) h0
  obtain ⟨a1, o1, r1⟩ := arg_one (br_int .i64) (by rfl) h1
  obtain ⟨a2, o2, r2⟩ := arg_one (br_int .i64) (by rfl) h2
  obtain ⟨n, hn⟩ := H a0 a1 a2 o0 o1 o2
  exact walk_of (G_ringlaw5_LimitSays_ok n a0 a1 a2 true hn) (RT_cons r0 (RT_cons r1 (RT_cons r2 RT_nil)))
/- FRAME LimitSays; ringhall/ringlaw5.LimitSays; (.slice 24 (.pair (.int .i64) (.pair (.int .i64) (.pair (.int .i64) .unit)))) | (.int .i64) | (.int .i64); .slice none 0 0 | .int .i64 0 | .int .i64 0 -/
end Go.Proofs.YtccmjndnjpjohaaR.pv
