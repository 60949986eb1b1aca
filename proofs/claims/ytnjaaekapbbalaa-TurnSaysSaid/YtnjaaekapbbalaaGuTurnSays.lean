/- What the functions compute, as functions over plain data, with their contracts: written by gen.py. -/
import Derived.Test.YtnjaaekapbbalaaProg
import Derived.Test.YtnjaaekapbbalaaQr
import Derived.Test.YtnjaaekapbbalaaTg
import Derived.Test.YtnjaaekapbbalaaSh
import Derived.Test.YtnjaaekapbbalaaSi
set_option maxRecDepth 100000
set_option linter.all false
namespace Go.Proofs.Ytnjaaekapbbalaa.pv
open Go.RowKit
def dds (n : Nat) (l : List FV) : List FV := List.replicate n dd ++ l
def TT : List TI := [
⟨1, 0, .oth, []⟩,
⟨1, 8, .oth, [.nf]⟩,
⟨1, 8, .int .i64, [.i .i64]⟩,
⟨1, 8, .int .i64, [.i .i64]⟩,
⟨1, 1, .bool, [.b]⟩,
⟨1, 1, .int .u8, [.i .u8]⟩,
⟨1, 1, .int .u8, [.i .u8]⟩,
⟨4, 24, .st [(0, 2), (1, 3), (2, 4), (3, 6)], [.i .i64, .i .i64, .b, .i .u8]⟩,
⟨4, 24, .st [(0, 2), (1, 3), (2, 4), (3, 6)], [.i .i64, .i .i64, .b, .i .u8]⟩,
⟨1, 16, .str, [.s]⟩,
⟨1, 16, .str, [.s]⟩,
⟨1, 16, .str, [.s]⟩,
⟨1, 8, .int .u64, [.i .u64]⟩,
⟨2, 24, .st [(0, 9), (1, 12)], [.s, .i .u64]⟩,
⟨2, 24, .st [(0, 9), (1, 12)], [.s, .i .u64]⟩,
⟨1, 8, .ptr 42, [.np]⟩,
⟨1, 8, .ptr 45, [.np]⟩,
⟨1, 8, .ptr 55, [.np]⟩,
⟨1, 8, .st [(0, 17)], [.np]⟩,
⟨1, 8, .st [(0, 17)], [.np]⟩,
⟨1, 16, .oth, [.ni]⟩,
⟨1, 4, .int .i32, [.i .i32]⟩,
⟨1, 24, .sl 3, [.sl]⟩,
⟨1, 8, .int .i64, [.i .i64]⟩,
⟨1, 0, .oth, []⟩,
⟨1, 8, .oth, [.nf]⟩,
⟨1, 0, .oth, []⟩,
⟨1, 8, .oth, [.nf]⟩,
⟨1, 8, .oth, [.nf]⟩,
⟨1, 8, .oth, [.nf]⟩,
⟨1, 8, .oth, [.nf]⟩,
⟨1, 8, .oth, [.nf]⟩,
⟨1, 8, .oth, [.nf]⟩,
⟨1, 8, .oth, [.nf]⟩,
⟨1, 8, .oth, [.nf]⟩,
⟨4, 32, .arr 4 3, [.i .i64, .i .i64, .i .i64, .i .i64]⟩,
⟨1, 8, .oth, [.nf]⟩,
⟨1, 8, .oth, [.nf]⟩,
⟨1, 8, .oth, [.nm]⟩,
⟨1, 8, .oth, [.nf]⟩,
⟨1, 8, .oth, [.nf]⟩,
⟨4, 40, .st [(0, 17), (1, 17), (2, 17), (3, 9)], [.np, .np, .np, .s]⟩,
⟨4, 40, .st [(0, 17), (1, 17), (2, 17), (3, 9)], [.np, .np, .np, .s]⟩,
⟨0, 0, .arr 0 16, []⟩,
⟨0, 0, .st [(0, 43)], []⟩,
⟨0, 0, .st [(0, 43)], []⟩,
⟨1, 8, .oth, [.nf]⟩,
⟨1, 4, .int .u32, [.i .u32]⟩,
⟨1, 1, .int .u8, [.i .u8]⟩,
⟨1, 1, .int .u8, [.i .u8]⟩,
⟨1, 8, .oth, [.nf]⟩,
⟨1, 8, .ptr 5, [.np]⟩,
⟨1, 4, .int .i32, [.i .i32]⟩,
⟨1, 4, .int .i32, [.i .i32]⟩,
⟨11, 48, .st [(0, 12), (1, 12), (2, 47), (3, 48), (4, 5), (5, 5), (6, 49), (7, 50), (8, 51), (9, 52), (10, 53)], [.i .u64, .i .u64, .i .u32, .i .u8, .i .u8, .i .u8, .i .u8, .nf, .np, .i .i32, .i .i32]⟩,
⟨11, 48, .st [(0, 12), (1, 12), (2, 47), (3, 48), (4, 5), (5, 5), (6, 49), (7, 50), (8, 51), (9, 52), (10, 53)], [.i .u64, .i .u64, .i .u32, .i .u8, .i .u8, .i .u8, .i .u8, .nf, .np, .i .i32, .i .i32]⟩,
⟨1, 8, .oth, [.np]⟩]
theorem TTok : TOk Try.prog TT := by unfold TOk; kernel_rfl
theorem mix : Try.prog.follows .mixedOrders = true := by kernel_rfl

def eqA_4_int (x y : (Fin 4 → Int)) : Bool := (((x 0) == (y 0)) && (((x 1) == (y 1)) && (((x 2) == (y 2)) && (((x 3) == (y 3)) && true))))
theorem eqA_4_int_ok (x y : (Fin 4 → Int)) : EqA Try.prog 35 [((.int .i64 (x 0))), ((.int .i64 (x 1))), ((.int .i64 (x 2))), ((.int .i64 (x 3)))] [((.int .i64 (y 0))), ((.int .i64 (y 1))), ((.int .i64 (y 2))), ((.int .i64 (y 3)))] (eqA_4_int x y) := eqA_of TTok (by kernel_rfl) (by kernel_rfl) (by kernel_rfl)
def kc_t35 (x : (Fin 4 → Int)) : List Value := [(.int .i64 (x 0)), (.int .i64 (x 1)), (.int .i64 (x 2)), (.int .i64 (x 3))]
theorem kq_t35 (x y : (Fin 4 → Int)) : ((x 0 == y 0) && ((x 1 == y 1) && ((x 2 == y 2) && ((x 3 == y 3) && true)))) = decide (x = y) := by
  rw [Bool.eq_iff_iff]
  simp only [decide_eq_true_eq, Bool.and_eq_true, beq_iff_eq, and_true]
  constructor
  · intro h; funext i; obtain ⟨i, hi⟩ := i
    have : i = 0 ∨ i = 1 ∨ i = 2 ∨ i = 3 := by omega
    rcases this with rfl | rfl | rfl | rfl
    · exact h.1
    · exact h.2.1
    · exact h.2.2.1
    · exact h.2.2.2
  · rintro rfl; simp
theorem kw_t35 : KW Try.prog 35 (fun x : (Fin 4 → Int) => Value.agg (kc_t35 x).toArray) := KW.agg TTok (n := 4) (e := 3) (de := .int .i64) (by kernel_rfl) (by kernel_rfl) (by kernel_rfl) (by kernel_rfl) (by kernel_rfl) (fun _ => rfl) (fun x v hv => by
  simp only [kc_t35, List.mem_cons, List.not_mem_nil, or_false] at hv
  rcases hv with rfl | rfl | rfl | rfl <;> first | rfl | trivial) (fun x y => by rw [← kq_t35]; kernel_rfl) (fun _ => by kernel_rfl)
inductive G_turn_Check_L1_R where
  | x0 (v_x19 : Int)
  | x1 
def G_turn_Check_L1_ex : G_turn_Check_L1_R → Ex
  | .x0 _ => .ret
  | .x1  => .exit 0
def G_turn_Check_L1_st (v_lens5 : (List Int)) : G_turn_Check_L1_R → PS
  | .x0 v_x19 => ⟨(dd :: dd :: .d (.v (.int .i64 v_x19)) :: (dds 24 [])), []⟩
  | .x1  => ⟨(dds 27 []), []⟩
def G_turn_Check_L1_hd (v_lens5 : (List Int)) (v_sum14 : Int) (v_x15 : Int) : PS := ⟨(dd :: dd :: dd :: .d (.v (.int .i64 v_sum14)) :: dd :: dd :: dd :: dd :: dd :: .d (.sl (v_lens5.map (eI .i64))) :: .d (.v (.int .i64 (v_lens5.length : Int))) :: .d (.v (.int .i64 v_x15)) :: (dds 15 [])), []⟩
def G_turn_Check_L1 (n : Nat) (v_lens5 : (List Int)) : Nat → Int → Int → Option G_turn_Check_L1_R
  | 0, _, _ => none
  | k + 1, v_sum14, v_x15 =>
    if v_x15 < (v_lens5.length : Int) then
     (getI v_lens5 v_x15).bind fun (v_y18 : Int) =>
     if v_y18 < 0 then
      some (.x0 1)
     else
      if v_y18 > 12 then
       some (.x0 1)
      else
       if (wi .i64 (v_sum14 + v_y18)) > 12 then
        some (.x0 2)
       else
        G_turn_Check_L1 n v_lens5 k (wi .i64 (v_sum14 + v_y18)) (wi .i64 (v_x15 + 1))
    else
     some (.x1 )
theorem G_turn_Check_L1_ok {Fi : Ex → PS → Prop} (hF : KC 27 Fi) (ks : List Fr) (n : Nat) (v_lens5 : (List Int))  : ∀ (k : Nat) (v_sum14 : Int) (v_x15 : Int) (o : G_turn_Check_L1_R), G_turn_Check_L1 n v_lens5 k v_sum14 v_x15 = some o → RunE Try.prog 27 Fi ks (G_turn_Check_L1_ex o) (G_turn_Check_L1_st v_lens5 o) → RunE Try.prog 27 Fi (.l k (cP (cB (cR (cL (cR (cR (cR (bodyOf Try.f11)))))))) :: ks) .normal (G_turn_Check_L1_hd v_lens5 v_sum14 v_x15)
  | 0, v_sum14, v_x15, o, h, q => by rw [G_turn_Check_L1] at h; cases h
  | k + 1, v_sum14, v_x15, o, h, q => by
    rw [G_turn_Check_L1] at h
    by_cases h2 : v_x15 < (v_lens5.length : Int)
    · rw [if_pos h2] at h
      obtain ⟨v_y18, h7, h⟩ := bind_some h
      by_cases h8 : v_y18 < 0
      · rw [if_pos h8] at h
        cases h
        exact pkk_sound TTok mix hF 21 (hs := [.t true, .y ((eI .i64) v_y18), .c, .t true, .c, .c]) (ts := []) (s := []) (l := [2]) (by kernel_rfl) (by kernel_rfl) (.cons (dt h2) (.cons (getI_ob (f := (eI .i64)) h7) (.cons (dt h8) .nil))) q
      · rw [if_neg h8] at h
        by_cases h9 : v_y18 > 12
        · rw [if_pos h9] at h
          cases h
          exact pkk_sound TTok mix hF 21 (hs := [.t true, .y ((eI .i64) v_y18), .c, .t false, .c, .t true]) (ts := []) (s := []) (l := [2]) (by kernel_rfl) (by kernel_rfl) (.cons (dt h2) (.cons (getI_ob (f := (eI .i64)) h7) (.cons (df h8) (.cons (dt h9) .nil)))) q
        · rw [if_neg h9] at h
          by_cases h10 : (wi .i64 (v_sum14 + v_y18)) > 12
          · rw [if_pos h10] at h
            cases h
            exact pkk_sound TTok mix hF 26 (hs := [.t true, .y ((eI .i64) v_y18), .c, .t false, .c, .t false, .t true]) (ts := []) (s := []) (l := [2]) (by kernel_rfl) (by kernel_rfl) (.cons (dt h2) (.cons (getI_ob (f := (eI .i64)) h7) (.cons (df h8) (.cons (df h9) (.cons (dt h10) .nil))))) q
          · rw [if_neg h10] at h
            exact pkk_sound TTok mix hF 23 (hs := [.t true, .y ((eI .i64) v_y18), .c, .t false, .c, .t false, .t false]) (ts := []) (s := []) (l := [3, 9, 10, 11]) (by kernel_rfl) (by kernel_rfl) (.cons (dt h2) (.cons (getI_ob (f := (eI .i64)) h7) (.cons (df h8) (.cons (df h9) (.cons (df h10) .nil))))) (G_turn_Check_L1_ok hF ks n v_lens5 k (wi .i64 (v_sum14 + v_y18)) (wi .i64 (v_x15 + 1)) _ h q)
    · rw [if_neg h2] at h
      cases h
      exact pkk_sound TTok mix hF 8 (hs := [.t false]) (ts := []) (s := []) (l := []) (by kernel_rfl) (by kernel_rfl) (.cons (df h2) .nil) q
/- ringhall/turn.Check -/
def G_turn_Check (n : Nat) (v_lens5 : (List Int)) : Option (Int) :=
  if (v_lens5.length : Int) > 4 then
   some 2
  else
   (G_turn_Check_L1 n v_lens5 n 0 0).bind fun v_o22 => match v_o22 with
   | .x0 v_z23 =>
     some v_z23
   | .x1  =>
     some 0
theorem G_turn_Check_ok (n : Nat) (v_lens5 : (List Int)) (r : Int) (h : G_turn_Check n v_lens5 = some r) : Ret Try.prog 11 [(eL (eI .i64)) v_lens5] ((eI .i64) r) := by
  refine ret_run (n := 27) (fn := Try.f11) (c := bodyOf Try.f11) (by kernel_rfl) (by kernel_rfl) (by kernel_rfl) (by kernel_rfl) ?_
  have hF : KC 27 (FinR Try.prog Try.f11 ((eI .i64) r)) := FinR.kc' (by kernel_rfl)
  unfold G_turn_Check at h
  by_cases h1 : (v_lens5.length : Int) > 4
  · rw [if_pos h1] at h
    obtain rfl := Option.some.inj h
    exact pend_sound TTok mix 10 (hs := [.u (.d (.v (.int .i64 (v_lens5.length : Int)))), .t true]) (by kernel_rfl) (by kernel_rfl) (by kernel_rfl) (.cons (len_ob (f := (eI .i64)) (l := v_lens5)) (.cons (dt h1) .nil))
  · rw [if_neg h1] at h
    obtain ⟨v_o22, h11, h⟩ := bind_some h
    refine pkk_sound TTok mix hF 14 (hs := [.u (.d (.v (.int .i64 (v_lens5.length : Int)))), .t false, .u (.d (.v (.int .i64 (v_lens5.length : Int)))), .n n]) (ts := []) (s := []) (l := [3, 9, 10, 11]) (by kernel_rfl) (by kernel_rfl) (.cons (len_ob (f := (eI .i64)) (l := v_lens5)) (.cons (df h1) (.cons (len_ob (f := (eI .i64)) (l := v_lens5)) .nil))) (G_turn_Check_L1_ok hF (.b 0 :: .s (cR (cR (cR (cR (bodyOf Try.f11))))) :: []) n v_lens5 n 0 0 _ h11 ?_)
    cases v_o22 with
    | x0 v_z23 =>
      try dsimp only at h
      obtain rfl := Option.some.inj h
      exact pend_sound TTok mix 2 (hs := []) (by kernel_rfl) (by kernel_rfl) (by kernel_rfl) .nil
    | x1  =>
      try dsimp only at h
      obtain rfl := Option.some.inj h
      exact pend_sound TTok mix 4 (hs := []) (by kernel_rfl) (by kernel_rfl) (by kernel_rfl) .nil
inductive G_turn_count_L1_R where
  | x0 (v_out47 : Int) (v_all48 : Int)
def G_turn_count_L1_ex : G_turn_count_L1_R → Ex
  | .x0 _ _ => .exit 2
def G_turn_count_L1_st (v_y42 : Int) (v_lens25 : (List Int)) (v_x40 : Int) : G_turn_count_L1_R → PS
  | .x0 v_out47 v_all48 => ⟨(dd :: dd :: dd :: .d (.v (.int .i64 v_out47)) :: .d (.v (.int .i64 v_all48)) :: dd :: dd :: dd :: .d (.sl (v_lens25.map (eI .i64))) :: .d (.v (.int .i64 (v_lens25.length : Int))) :: .d (.v (.int .i64 v_x40)) :: (dds 17 [])), []⟩
def G_turn_count_L1_hd (v_y42 : Int) (v_lens25 : (List Int)) (v_x40 : Int) (v_out43 : Int) (v_all44 : Int) (v_k45 : Int) : PS := ⟨(dd :: dd :: dd :: .d (.v (.int .i64 v_out43)) :: .d (.v (.int .i64 v_all44)) :: dd :: .d (.v (.int .i64 v_y42)) :: .d (.v (.int .i64 v_k45)) :: .d (.sl (v_lens25.map (eI .i64))) :: .d (.v (.int .i64 (v_lens25.length : Int))) :: .d (.v (.int .i64 v_x40)) :: (dds 17 [])), []⟩
def G_turn_count_L1 (n : Nat) (v_y42 : Int) (v_lens25 : (List Int)) (v_x40 : Int) : Nat → Int → Int → Int → Option G_turn_count_L1_R
  | 0, _, _, _ => none
  | k + 1, v_out43, v_all44, v_k45 =>
    if v_k45 ≤ v_y42 then
     if v_k45 ≠ 0 then
      G_turn_count_L1 n v_y42 v_lens25 v_x40 k (quoI .i64 (wi .i64 (v_out43 * (wi .i64 (v_all44 + 1)))) v_k45) (wi .i64 (v_all44 + 1)) (wi .i64 (v_k45 + 1))
     else none
    else
     some (.x0 v_out43 v_all44)
theorem G_turn_count_L1_ok {Fi : Ex → PS → Prop} (hF : KC 28 Fi) (ks : List Fr) (n : Nat) (v_y42 : Int) (v_lens25 : (List Int)) (v_x40 : Int)  : ∀ (k : Nat) (v_out43 : Int) (v_all44 : Int) (v_k45 : Int) (o : G_turn_count_L1_R), G_turn_count_L1 n v_y42 v_lens25 v_x40 k v_out43 v_all44 v_k45 = some o → RunE Try.prog 28 Fi ks (G_turn_count_L1_ex o) (G_turn_count_L1_st v_y42 v_lens25 v_x40 o) → RunE Try.prog 28 Fi (.l k (cP (cB (cR (cR (cB (cL (cR (cR (cP (cB (cR (cL (cR (cR (bodyOf Try.f13))))))))))))))) :: ks) .normal (G_turn_count_L1_hd v_y42 v_lens25 v_x40 v_out43 v_all44 v_k45)
  | 0, v_out43, v_all44, v_k45, o, h, q => by rw [G_turn_count_L1] at h; cases h
  | k + 1, v_out43, v_all44, v_k45, o, h, q => by
    rw [G_turn_count_L1] at h
    by_cases h17 : v_k45 ≤ v_y42
    · rw [if_pos h17] at h
      by_cases h19 : v_k45 ≠ 0
      · rw [if_pos h19] at h
        exact pkk_sound TTok mix hF 13 (hs := [.t true]) (ts := []) (s := []) (l := [3, 4, 6, 7, 8, 9, 10]) (by kernel_rfl) (by kernel_rfl) (.cons (dt h17) (.cons h19 .nil)) (G_turn_count_L1_ok hF ks n v_y42 v_lens25 v_x40 k (quoI .i64 (wi .i64 (v_out43 * (wi .i64 (v_all44 + 1)))) v_k45) (wi .i64 (v_all44 + 1)) (wi .i64 (v_k45 + 1)) _ h q)
      · rw [if_neg h19] at h; cases h
    · rw [if_neg h17] at h
      cases h
      exact pkk_sound TTok mix hF 8 (hs := [.t false]) (ts := []) (s := []) (l := [3, 4, 8, 9, 10]) (by kernel_rfl) (by kernel_rfl) (.cons (df h17) .nil) q
inductive G_turn_count_L2_R where
  | x0 (v_out52 : Int)
def G_turn_count_L2_ex : G_turn_count_L2_R → Ex
  | .x0 _ => .exit 0
def G_turn_count_L2_st (v_lens25 : (List Int)) : G_turn_count_L2_R → PS
  | .x0 v_out52 => ⟨(dd :: dd :: dd :: .d (.v (.int .i64 v_out52)) :: (dds 24 [])), []⟩
def G_turn_count_L2_hd (v_lens25 : (List Int)) (v_out38 : Int) (v_all39 : Int) (v_x40 : Int) : PS := ⟨(dd :: dd :: dd :: .d (.v (.int .i64 v_out38)) :: .d (.v (.int .i64 v_all39)) :: dd :: dd :: dd :: .d (.sl (v_lens25.map (eI .i64))) :: .d (.v (.int .i64 (v_lens25.length : Int))) :: .d (.v (.int .i64 v_x40)) :: (dds 17 [])), []⟩
def G_turn_count_L2 (n : Nat) (v_lens25 : (List Int)) : Nat → Int → Int → Int → Option G_turn_count_L2_R
  | 0, _, _, _ => none
  | k + 1, v_out38, v_all39, v_x40 =>
    if v_x40 < (v_lens25.length : Int) then
     (getI v_lens25 v_x40).bind fun (v_y42 : Int) =>
     (G_turn_count_L1 n v_y42 v_lens25 v_x40 n v_out38 v_all39 1).bind fun v_o49 => match v_o49 with
     | .x0 v_z50 v_z51 =>
       G_turn_count_L2 n v_lens25 k v_z50 v_z51 (wi .i64 (v_x40 + 1))
    else
     some (.x0 v_out38)
theorem G_turn_count_L2_ok {Fi : Ex → PS → Prop} (hF : KC 28 Fi) (ks : List Fr) (n : Nat) (v_lens25 : (List Int))  : ∀ (k : Nat) (v_out38 : Int) (v_all39 : Int) (v_x40 : Int) (o : G_turn_count_L2_R), G_turn_count_L2 n v_lens25 k v_out38 v_all39 v_x40 = some o → RunE Try.prog 28 Fi ks (G_turn_count_L2_ex o) (G_turn_count_L2_st v_lens25 o) → RunE Try.prog 28 Fi (.l k (cP (cB (cR (cL (cR (cR (bodyOf Try.f13))))))) :: ks) .normal (G_turn_count_L2_hd v_lens25 v_out38 v_all39 v_x40)
  | 0, v_out38, v_all39, v_x40, o, h, q => by rw [G_turn_count_L2] at h; cases h
  | k + 1, v_out38, v_all39, v_x40, o, h, q => by
    rw [G_turn_count_L2] at h
    by_cases h15 : v_x40 < (v_lens25.length : Int)
    · rw [if_pos h15] at h
      obtain ⟨v_y42, h16, h⟩ := bind_some h
      obtain ⟨v_o49, h20, h⟩ := bind_some h
      refine pkk_sound TTok mix hF 14 (hs := [.t true, .y ((eI .i64) v_y42), .c, .n n]) (ts := []) (s := []) (l := [3, 4, 6, 7, 8, 9, 10]) (by kernel_rfl) (by kernel_rfl) (.cons (dt h15) (.cons (getI_ob (f := (eI .i64)) h16) .nil)) (G_turn_count_L1_ok hF (.b 2 :: .b 1 :: .s (cR (cR (cR (cP (cB (cR (cL (cR (cR (bodyOf Try.f13)))))))))) :: .l k (cP (cB (cR (cL (cR (cR (bodyOf Try.f13))))))) :: ks) n v_y42 v_lens25 v_x40 n v_out38 v_all39 1 _ h20 ?_)
      cases v_o49 with
      | x0 v_z50 v_z51 =>
        try dsimp only at h
        exact pkk_sound TTok mix hF 3 (hs := []) (ts := []) (s := []) (l := [3, 4, 8, 9, 10]) (by kernel_rfl) (by kernel_rfl) .nil (G_turn_count_L2_ok hF ks n v_lens25 k v_z50 v_z51 (wi .i64 (v_x40 + 1)) _ h q)
    · rw [if_neg h15] at h
      cases h
      exact pkk_sound TTok mix hF 8 (hs := [.t false]) (ts := []) (s := []) (l := [3]) (by kernel_rfl) (by kernel_rfl) (.cons (df h15) .nil) q
/- ringhall/turn.count -/
def G_turn_count (n : Nat) (v_lens25 : (List Int)) : Option (Int) :=
  (G_turn_count_L2 n v_lens25 n 1 0 0).bind fun v_o53 => match v_o53 with
  | .x0 v_z54 =>
    some v_z54
theorem G_turn_count_ok (n : Nat) (v_lens25 : (List Int)) (r : Int) (h : G_turn_count n v_lens25 = some r) : Ret Try.prog 13 [(eL (eI .i64)) v_lens25] ((eI .i64) r) := by
  refine ret_run (n := 28) (fn := Try.f13) (c := bodyOf Try.f13) (by kernel_rfl) (by kernel_rfl) (by kernel_rfl) (by kernel_rfl) ?_
  have hF : KC 28 (FinR Try.prog Try.f13 ((eI .i64) r)) := FinR.kc' (by kernel_rfl)
  unfold G_turn_count at h
  obtain ⟨v_o53, h21, h⟩ := bind_some h
  refine pkk_sound TTok mix hF 9 (hs := [.u (.d (.v (.int .i64 (v_lens25.length : Int)))), .n n]) (ts := []) (s := []) (l := [3, 4, 8, 9, 10]) (by kernel_rfl) (by kernel_rfl) (.cons (len_ob (f := (eI .i64)) (l := v_lens25)) .nil) (G_turn_count_L2_ok hF (.b 0 :: .s (cR (cR (cR (bodyOf Try.f13)))) :: []) n v_lens25 n 1 0 0 _ h21 ?_)
  cases v_o53 with
  | x0 v_z54 =>
    try dsimp only at h
    obtain rfl := Option.some.inj h
    exact pend_sound TTok mix 4 (hs := []) (by kernel_rfl) (by kernel_rfl) (by kernel_rfl) .nil
/- ringhall/turn.Count -/
def G_turn_Count (n : Nat) (v_lens4 : (List Int)) : Option (Int × Int) :=
  (G_turn_Check n v_lens4).bind fun (v_r24 : (Int)) =>
  if v_r24 = 0 then
   (G_turn_count n v_lens4).bind fun (v_r55 : (Int)) =>
   some (v_r55, 0)
  else
   some (0, v_r24)
theorem G_turn_Count_ok (n : Nat) (v_lens4 : (List Int)) (r : Int × Int) (h : G_turn_Count n v_lens4 = some r) : Ret Try.prog 4 [(eL (eI .i64)) v_lens4] (.tup [(eI .i64) r.1, (eI .i64) r.2]) := by
  refine ret_run (n := 12) (fn := Try.f4) (c := bodyOf Try.f4) (by kernel_rfl) (by kernel_rfl) (by kernel_rfl) (by kernel_rfl) ?_
  have hF : KC 12 (FinR Try.prog Try.f4 (.tup [(eI .i64) r.1, (eI .i64) r.2])) := FinR.kc' (by kernel_rfl)
  unfold G_turn_Count at h
  obtain ⟨v_r24, h12, h⟩ := bind_some h
  by_cases h14 : v_r24 = 0
  · rw [if_pos h14] at h
    obtain ⟨v_r55, h22, h⟩ := bind_some h
    obtain rfl := Option.some.inj h
    exact pend_sound TTok mix 12 (hs := [.r ((eI .i64) v_r24), .t false, .r ((eI .i64) v_r55)]) (by kernel_rfl) (by kernel_rfl) (by kernel_rfl) (.cons (G_turn_Check_ok n v_lens4 _ h12) (.cons (nf h14) (.cons (G_turn_count_ok n v_lens4 _ h22) .nil)))
  · rw [if_neg h14] at h
    obtain rfl := Option.some.inj h
    exact pend_sound TTok mix 12 (hs := [.r ((eI .i64) v_r24), .t true]) (by kernel_rfl) (by kernel_rfl) (by kernel_rfl) (.cons (G_turn_Check_ok n v_lens4 _ h12) (.cons (nt h14) .nil))
/- slices.Clone[[]int,int] -/
def G_slices_Clone_int_int_A (n : Nat) (v_c84 : Nat) : Option ((List Int)) :=
  some ([] : List Int)
theorem G_slices_Clone_int_int_A_ok (n : Nat) (v_c84 : Nat) (r : (List Int)) (h : G_slices_Clone_int_int_A n v_c84 = some r) : RetH Try.prog 14 [.d (.v (.slice none 0 v_c84))] [] (.srf 0) [.row 3 1 (r.map (eI .i64))] := by
  refine retH_run (n := 8) (fn := Try.f14) (c := bodyOf Try.f14) (by kernel_rfl) (by kernel_rfl) (by kernel_rfl) (by kernel_rfl) ?_
  have hF : KC 8 (FinH Try.prog Try.f14 [] (.srf 0) [.row 3 1 (r.map (eI .i64))]) := FinH.kc' (by kernel_rfl)
  unfold G_slices_Clone_int_int_A at h
  obtain rfl := Option.some.inj h
  exact pendH_sound TTok mix 11 (hs := [.c, .dl 4, .th 2 3 1]) [20] (by kernel_rfl) (by kernel_rfl) (by kernel_rfl) .nil
/- slices.Clone[[]int,int] -/
def G_slices_Clone_int_int_B (n : Nat) (v_a85 : Addr) (v_c86 : Nat) : Option ((List Int)) :=
  (app 8 ([] : List Int) ([] : (List Int))).bind fun (v_a87 : (List Int)) =>
  some v_a87
theorem G_slices_Clone_int_int_B_ok (n : Nat) (v_a85 : Addr) (v_c86 : Nat) (r : (List Int)) (h : G_slices_Clone_int_int_B n v_a85 v_c86 = some r) : RetH Try.prog 14 [.d (.v (.slice (some v_a85) 0 v_c86))] [] (.srf 0) [.row 3 1 (r.map (eI .i64))] := by
  refine retH_run (n := 8) (fn := Try.f14) (c := bodyOf Try.f14) (by kernel_rfl) (by kernel_rfl) (by kernel_rfl) (by kernel_rfl) ?_
  have hF : KC 8 (FinH Try.prog Try.f14 [] (.srf 0) [.row 3 1 (r.map (eI .i64))]) := FinH.kc' (by kernel_rfl)
  unfold G_slices_Clone_int_int_B at h
  obtain ⟨v_a87, h29, h⟩ := bind_some h
  obtain rfl := Option.some.inj h
  exact pendH_sound TTok mix 10 (hs := [.c, .w (([] : List Int).map (eI .i64)), .w (v_a87.map (eI .i64))]) [25] (by kernel_rfl) (by kernel_rfl) (by kernel_rfl) (.cons (Eq.refl (([] : List Int).map (eI .i64))) (.cons (app_ob (f := (eI .i64)) (s := 1) h29 (fun _ => rfl)).1 (.cons (app_ob (f := (eI .i64)) (s := 1) h29 (fun _ => rfl)).2.1 (.cons (app_ob (f := (eI .i64)) (s := 1) h29 (fun _ => rfl)).2.2.1 (.cons (app_ob (f := (eI .i64)) (s := 1) h29 (fun _ => rfl)).2.2.2 .nil)))))
/- slices.Clone[[]int,int] -/
def G_slices_Clone_int_int_C (n : Nat) (v_y88 : Int) (v_ys89 : (List Int)) : Option ((List Int)) :=
  (app 8 ([] : List Int) (v_y88 :: v_ys89)).bind fun (v_a90 : (List Int)) =>
  some v_a90
theorem G_slices_Clone_int_int_C_ok (n : Nat) (v_y88 : Int) (v_ys89 : (List Int)) (r : (List Int)) (h : G_slices_Clone_int_int_C n v_y88 v_ys89 = some r) : RetH Try.prog 14 [.d (.sl ((eI .i64) v_y88 :: v_ys89.map (eI .i64)))] [] (.srf 0) [.row 3 1 (r.map (eI .i64))] := by
  refine retH_run (n := 8) (fn := Try.f14) (c := bodyOf Try.f14) (by kernel_rfl) (by kernel_rfl) (by kernel_rfl) (by kernel_rfl) ?_
  have hF : KC 8 (FinH Try.prog Try.f14 [] (.srf 0) [.row 3 1 (r.map (eI .i64))]) := FinH.kc' (by kernel_rfl)
  unfold G_slices_Clone_int_int_C at h
  obtain ⟨v_a90, h30, h⟩ := bind_some h
  obtain rfl := Option.some.inj h
  exact pendH_sound TTok mix 10 (hs := [.c, .w (([] : List Int).map (eI .i64)), .w (v_a90.map (eI .i64))]) [25] (by kernel_rfl) (by kernel_rfl) (by kernel_rfl) (.cons (Eq.refl (([] : List Int).map (eI .i64))) (.cons (app_ob (f := (eI .i64)) (s := 1) h30 (fun _ => rfl)).1 (.cons (app_ob (f := (eI .i64)) (s := 1) h30 (fun _ => rfl)).2.1 (.cons (app_ob (f := (eI .i64)) (s := 1) h30 (fun _ => rfl)).2.2.1 (.cons (app_ob (f := (eI .i64)) (s := 1) h30 (fun _ => rfl)).2.2.2 .nil)))))
def G_slices_Clone_int_int (n : Nat) (xs : (List Int)) : Option (List Int) := app 8 [] xs
theorem G_slices_Clone_int_int_ok (n : Nat) (xs : (List Int)) (r : (List Int)) (h : G_slices_Clone_int_int n xs = some r) : RetH Try.prog 14 [.d (.sl (xs.map (eI .i64)))] [] (.srf 0) [.row 3 1 (r.map (eI .i64))] := by
  unfold G_slices_Clone_int_int at h
  have e : app 8 ([] : (List Int)) [] = some [] := by simp [app]
  cases xs with
  | nil =>
    rw [e] at h; obtain rfl := Option.some.inj h
    exact clone_nil (fun c => G_slices_Clone_int_int_A_ok n c _ (by unfold G_slices_Clone_int_int_A; rfl)) (fun a c => G_slices_Clone_int_int_B_ok n a c _ (by unfold G_slices_Clone_int_int_B; rw [e]; rfl))
  | cons y ys => exact G_slices_Clone_int_int_C_ok n y ys _ (by unfold G_slices_Clone_int_int_C; rw [h]; rfl)
inductive G_turn_At_L1_R where
  | x0 (v_k265 : Int) (v_who266 : Int) (v_w267 : (List Int)) (v_w268 : (List Int))
def G_turn_At_L1_ex : G_turn_At_L1_R → Ex
  | .x0 _ _ _ _ => .exit 2
def G_turn_At_L1_st (v_w240 : (List Int)) : G_turn_At_L1_R → PS
  | .x0 v_k265 v_who266 v_w267 v_w268 => ⟨(dd :: .d (.v (.int .i64 v_k265)) :: dd :: dd :: dd :: dd :: dd :: dd :: .srf 0 :: .srf 1 :: .d (.v (.int .i64 v_who266)) :: (dds 58 [])), [.row 3 1 (v_w267.map (eI .i64)), .row 3 1 (v_w268.map (eI .i64))]⟩
def G_turn_At_L1_hd (v_w240 : (List Int)) (v_k243 : Int) (v_who244 : Int) (v_x245 : Int) (v_w246 : (List Int)) (v_w247 : (List Int)) : PS := ⟨(dd :: .d (.v (.int .i64 v_k243)) :: dd :: dd :: dd :: dd :: dd :: dd :: .srf 0 :: .srf 1 :: .d (.v (.int .i64 v_who244)) :: (dds 20 (.d (.v (.int .i64 (v_w240.length : Int))) :: .d (.v (.int .i64 v_x245)) :: (dds 36 [])))), [.row 3 1 (v_w246.map (eI .i64)), .row 3 1 (v_w247.map (eI .i64))]⟩
def G_turn_At_L1 (n : Nat) (v_w240 : (List Int)) : Nat → Int → Int → Int → (List Int) → (List Int) → Option G_turn_At_L1_R
  | 0, _, _, _, _, _ => none
  | k + 1, v_k243, v_who244, v_x245, v_w246, v_w247 =>
    if v_x245 < (v_w240.length : Int) then
     if 0 ≤ v_x245 ∧ (v_x245).toNat < v_w246.length then
      (v_w246[(v_x245).toNat]?).bind fun (v_y257 : Int) =>
      if v_y257 = 0 then
       G_turn_At_L1 n v_w240 k v_k243 v_who244 (wi .i64 (v_x245 + 1)) v_w246 v_w247
      else
       if 0 ≤ v_x245 ∧ (v_x245).toNat < v_w246.length then
        (v_w246[(v_x245).toNat]?).bind fun (v_y258 : Int) =>
        if 0 ≤ v_x245 ∧ (v_x245).toNat < v_w246.length then
         (v_w246[(v_x245).toNat]?).bind fun (v_y259 : Int) =>
         (G_turn_count n (v_w246.set (v_x245).toNat (wi .i64 (v_y258 - 1)))).bind fun (v_r260 : (Int)) =>
         if v_k243 ≥ v_r260 then
          if 0 ≤ v_x245 ∧ (v_x245).toNat < (v_w246.set (v_x245).toNat (wi .i64 (v_y258 - 1))).length then
           ((v_w246.set (v_x245).toNat (wi .i64 (v_y258 - 1)))[(v_x245).toNat]?).bind fun (v_y263 : Int) =>
           if 0 ≤ v_x245 ∧ (v_x245).toNat < (v_w246.set (v_x245).toNat (wi .i64 (v_y258 - 1))).length then
            ((v_w246.set (v_x245).toNat (wi .i64 (v_y258 - 1)))[(v_x245).toNat]?).bind fun (v_y264 : Int) =>
            G_turn_At_L1 n v_w240 k (wi .i64 (v_k243 - v_r260)) v_who244 (wi .i64 (v_x245 + 1)) ((v_w246.set (v_x245).toNat (wi .i64 (v_y258 - 1))).set (v_x245).toNat (wi .i64 (v_y263 + 1))) v_w247
           else none
          else none
         else
          some (.x0 v_k243 v_x245 (v_w246.set (v_x245).toNat (wi .i64 (v_y258 - 1))) v_w247)
        else none
       else none
     else none
    else
     some (.x0 v_k243 v_who244 v_w246 v_w247)
theorem G_turn_At_L1_ok {Fi : Ex → PS → Prop} (hF : KC 69 Fi) (ks : List Fr) (n : Nat) (v_w240 : (List Int))  : ∀ (k : Nat) (v_k243 : Int) (v_who244 : Int) (v_x245 : Int) (v_w246 : (List Int)) (v_w247 : (List Int)) (o : G_turn_At_L1_R), G_turn_At_L1 n v_w240 k v_k243 v_who244 v_x245 v_w246 v_w247 = some o → RunE Try.prog 69 Fi ks (G_turn_At_L1_ex o) (G_turn_At_L1_st v_w240 o) → RunE Try.prog 69 Fi (.l k (cP (cB (cR (cL (cR (cB (cP (cB (cR (cR (cR (cR (cR (cR (bodyOf Try.f5))))))))))))))) :: ks) .normal (G_turn_At_L1_hd v_w240 v_k243 v_who244 v_x245 v_w246 v_w247)
  | 0, v_k243, v_who244, v_x245, v_w246, v_w247, o, h, q => by rw [G_turn_At_L1] at h; cases h
  | k + 1, v_k243, v_who244, v_x245, v_w246, v_w247, o, h, q => by
    rw [G_turn_At_L1] at h
    by_cases h128 : v_x245 < (v_w240.length : Int)
    · rw [if_pos h128] at h
      by_cases h147 : 0 ≤ v_x245 ∧ (v_x245).toNat < v_w246.length
      · rw [if_pos h147] at h
        obtain ⟨v_y257, h148, h⟩ := bind_some h
        by_cases h149 : v_y257 = 0
        · rw [if_pos h149] at h
          exact pkk_sound TTok mix hF 18 (hs := [.t true, .y ((eI .i64) v_y257), .t true]) (ts := []) (s := [0, 1]) (l := [1, 8, 9, 10, 31, 32]) (by kernel_rfl) (by kernel_rfl) (.cons (dt h128) (.cons (idx_ob (f := (eI .i64)) h147) (.cons (get_ob (f := (eI .i64)) h148) (.cons (bt h149) .nil)))) (G_turn_At_L1_ok hF ks n v_w240 k v_k243 v_who244 (wi .i64 (v_x245 + 1)) v_w246 v_w247 _ h q)
        · rw [if_neg h149] at h
          by_cases h150 : 0 ≤ v_x245 ∧ (v_x245).toNat < v_w246.length
          · rw [if_pos h150] at h
            obtain ⟨v_y258, h151, h⟩ := bind_some h
            by_cases h152 : 0 ≤ v_x245 ∧ (v_x245).toNat < v_w246.length
            · rw [if_pos h152] at h
              obtain ⟨v_y259, h153, h⟩ := bind_some h
              obtain ⟨v_r260, h154, h⟩ := bind_some h
              by_cases h160 : v_k243 ≥ v_r260
              · rw [if_pos h160] at h
                by_cases h161 : 0 ≤ v_x245 ∧ (v_x245).toNat < (v_w246.set (v_x245).toNat (wi .i64 (v_y258 - 1))).length
                · rw [if_pos h161] at h
                  obtain ⟨v_y263, h162, h⟩ := bind_some h
                  by_cases h163 : 0 ≤ v_x245 ∧ (v_x245).toNat < (v_w246.set (v_x245).toNat (wi .i64 (v_y258 - 1))).length
                  · rw [if_pos h163] at h
                    obtain ⟨v_y264, h164, h⟩ := bind_some h
                    exact pkk_sound TTok mix hF 31 (hs := [.t true, .y ((eI .i64) v_y257), .t false, .y ((eI .i64) v_y258), .w ((v_w246.set (v_x245).toNat (wi .i64 (v_y258 - 1))).map (eI .i64)), .y ((eI .i64) v_y259), .c, .r ((eI .i64) v_r260), .t true, .y ((eI .i64) v_y263), .w (((v_w246.set (v_x245).toNat (wi .i64 (v_y258 - 1))).set (v_x245).toNat (wi .i64 (v_y263 + 1))).map (eI .i64)), .y ((eI .i64) v_y264)]) (ts := []) (s := [0, 1]) (l := [1, 8, 9, 10, 31, 32]) (by kernel_rfl) (by kernel_rfl) (.cons (dt h128) (.cons (idx_ob (f := (eI .i64)) h147) (.cons (get_ob (f := (eI .i64)) h148) (.cons (bf h149) (.cons (idx_ob (f := (eI .i64)) h150) (.cons (get_ob (f := (eI .i64)) h151) (.cons (idx_ob (f := (eI .i64)) h152) (.cons (get_ob (f := (eI .i64)) h153) (.cons (Eq.refl (pcells (.v (.int .i64 (wi .i64 (v_y258 - 1)))))) (.cons (set_ob (f := (eI .i64)) (l := v_w246) (k := (v_x245).toNat) (z := (wi .i64 (v_y258 - 1))) (p := .v (.int .i64 (wi .i64 (v_y258 - 1)))) rfl) (.cons (G_turn_count_ok n (v_w246.set (v_x245).toNat (wi .i64 (v_y258 - 1))) _ h154) (.cons (dt h160) (.cons (idx_ob (f := (eI .i64)) h161) (.cons (get_ob (f := (eI .i64)) h162) (.cons (idx_ob (f := (eI .i64)) h163) (.cons (get_ob (f := (eI .i64)) h164) (.cons (Eq.refl (pcells (.v (.int .i64 (wi .i64 (v_y263 + 1)))))) (.cons (set_ob (f := (eI .i64)) (l := (v_w246.set (v_x245).toNat (wi .i64 (v_y258 - 1)))) (k := (v_x245).toNat) (z := (wi .i64 (v_y263 + 1))) (p := .v (.int .i64 (wi .i64 (v_y263 + 1)))) rfl) .nil)))))))))))))))))) (G_turn_At_L1_ok hF ks n v_w240 k (wi .i64 (v_k243 - v_r260)) v_who244 (wi .i64 (v_x245 + 1)) ((v_w246.set (v_x245).toNat (wi .i64 (v_y258 - 1))).set (v_x245).toNat (wi .i64 (v_y263 + 1))) v_w247 _ h q)
                  · rw [if_neg h163] at h; cases h
                · rw [if_neg h161] at h; cases h
              · rw [if_neg h160] at h
                cases h
                exact pkk_sound TTok mix hF 30 (hs := [.t true, .y ((eI .i64) v_y257), .t false, .y ((eI .i64) v_y258), .w ((v_w246.set (v_x245).toNat (wi .i64 (v_y258 - 1))).map (eI .i64)), .y ((eI .i64) v_y259), .c, .r ((eI .i64) v_r260), .t false]) (ts := []) (s := [0, 1]) (l := [1, 8, 9, 10]) (by kernel_rfl) (by kernel_rfl) (.cons (dt h128) (.cons (idx_ob (f := (eI .i64)) h147) (.cons (get_ob (f := (eI .i64)) h148) (.cons (bf h149) (.cons (idx_ob (f := (eI .i64)) h150) (.cons (get_ob (f := (eI .i64)) h151) (.cons (idx_ob (f := (eI .i64)) h152) (.cons (get_ob (f := (eI .i64)) h153) (.cons (Eq.refl (pcells (.v (.int .i64 (wi .i64 (v_y258 - 1)))))) (.cons (set_ob (f := (eI .i64)) (l := v_w246) (k := (v_x245).toNat) (z := (wi .i64 (v_y258 - 1))) (p := .v (.int .i64 (wi .i64 (v_y258 - 1)))) rfl) (.cons (G_turn_count_ok n (v_w246.set (v_x245).toNat (wi .i64 (v_y258 - 1))) _ h154) (.cons (df h160) .nil)))))))))))) q
            · rw [if_neg h152] at h; cases h
          · rw [if_neg h150] at h; cases h
      · rw [if_neg h147] at h; cases h
    · rw [if_neg h128] at h
      cases h
      exact pkk_sound TTok mix hF 8 (hs := [.t false]) (ts := []) (s := [0, 1]) (l := [1, 8, 9, 10]) (by kernel_rfl) (by kernel_rfl) (.cons (df h128) .nil) q
inductive G_turn_At_L2_R where
  | x0 (v_x278 : Int) (v_w279 : (List Int))
def G_turn_At_L2_ex : G_turn_At_L2_R → Ex
  | .x0 _ _ => .ret
def G_turn_At_L2_st  : G_turn_At_L2_R → PS
  | .x0 v_x278 v_w279 => ⟨(dd :: dd :: dd :: dd :: .srf 0 :: .d (.v (.int .i64 v_x278)) :: (dds 63 [])), [.row 3 1 (v_w279.map (eI .i64))]⟩
def G_turn_At_L2_hd  (v_k239 : Int) (v_w240 : (List Int)) (v_w241 : (List Int)) : PS := ⟨(dd :: .d (.v (.int .i64 v_k239)) :: dd :: dd :: dd :: dd :: dd :: dd :: .srf 0 :: .srf 1 :: (dds 59 [])), [.row 3 1 (v_w240.map (eI .i64)), .row 3 1 (v_w241.map (eI .i64))]⟩
def G_turn_At_L2 (n : Nat)  : Nat → Int → (List Int) → (List Int) → Option G_turn_At_L2_R
  | 0, _, _, _ => none
  | k + 1, v_k239, v_w240, v_w241 =>
    (G_turn_At_L1 n v_w240 n v_k239 (-1) 0 v_w240 v_w241).bind fun v_o273 => match v_o273 with
    | .x0 v_z274 v_z275 v_z276 v_z277 =>
      if v_z275 < 0 then
       some (.x0 0 v_z277)
      else
       (app 8 v_z277 ([v_z275])).bind fun (v_a280 : (List Int)) =>
       G_turn_At_L2 n  k v_z274 v_z276 v_a280
theorem G_turn_At_L2_ok {Fi : Ex → PS → Prop} (hF : KC 69 Fi) (ks : List Fr) (n : Nat)   : ∀ (k : Nat) (v_k239 : Int) (v_w240 : (List Int)) (v_w241 : (List Int)) (o : G_turn_At_L2_R), G_turn_At_L2 n  k v_k239 v_w240 v_w241 = some o → RunE Try.prog 69 Fi ks (G_turn_At_L2_ex o) (G_turn_At_L2_st  o) → RunE Try.prog 69 Fi (.l k (cP (cB (cR (cR (cR (cR (cR (cR (bodyOf Try.f5))))))))) :: ks) .normal (G_turn_At_L2_hd  v_k239 v_w240 v_w241)
  | 0, v_k239, v_w240, v_w241, o, h, q => by rw [G_turn_At_L2] at h; cases h
  | k + 1, v_k239, v_w240, v_w241, o, h, q => by
    rw [G_turn_At_L2] at h
    obtain ⟨v_o273, h165, h⟩ := bind_some h
    refine pkk_sound TTok mix hF 9 (hs := [.u (.d (.v (.int .i64 (v_w240.length : Int)))), .n n]) (ts := []) (s := [0, 1]) (l := [1, 8, 9, 10, 31, 32]) (by kernel_rfl) (by kernel_rfl) (.cons (len_ob (f := (eI .i64)) (l := v_w240)) .nil) (G_turn_At_L1_ok hF (.b 2 :: .s (cR (cR (cB (cP (cB (cR (cR (cR (cR (cR (cR (bodyOf Try.f5)))))))))))) :: .b 1 :: .l k (cP (cB (cR (cR (cR (cR (cR (cR (bodyOf Try.f5))))))))) :: ks) n v_w240 n v_k239 (-1) 0 v_w240 v_w241 _ h165 ?_)
    cases v_o273 with
    | x0 v_z274 v_z275 v_z276 v_z277 =>
      try dsimp only at h
      by_cases h167 : v_z275 < 0
      · rw [if_pos h167] at h
        cases h
        exact pkk_sound TTok mix hF 11 (hs := [.t true]) (ts := []) (s := [1]) (l := [4, 5]) (by kernel_rfl) (by kernel_rfl) (.cons (dt h167) .nil) q
      · rw [if_neg h167] at h
        obtain ⟨v_a280, h168, h⟩ := bind_some h
        exact pkk_sound TTok mix hF 8 (hs := [.t false, .bd, .w (v_a280.map (eI .i64))]) (ts := []) (s := [0, 27]) (l := [1, 8, 9]) (by kernel_rfl) (by kernel_rfl) (.cons (df h167) (.cons (app_ob (f := (eI .i64)) (s := 1) h168 (fun _ => rfl)).1 (.cons (app_ob (f := (eI .i64)) (s := 1) h168 (fun _ => rfl)).2.1 (.cons (app_ob (f := (eI .i64)) (s := 1) h168 (fun _ => rfl)).2.2.1 (.cons (app_ob (f := (eI .i64)) (s := 1) h168 (fun _ => rfl)).2.2.2 .nil))))) (G_turn_At_L2_ok hF ks n  k v_z274 v_z276 v_a280 _ h q)
def G_turn_At_J1 (n : Nat) (v_lens61 : (List Int)) (v_k62 : Int) (v_x232 : Bool) : Option ((List Int) × Int) :=
  if v_x232 = true then
   some (([] : (List Int)), 1)
  else
   (G_slices_Clone_int_int n v_lens61).bind fun (v_r234 : ((List Int))) =>
   (G_turn_At_L2 n  n v_k62 v_r234 ([] : List Int)).bind fun v_o281 => match v_o281 with
   | .x0 v_z282 v_z283 =>
     some (v_z283, v_z282)
theorem G_turn_At_J1_ok (n : Nat) (v_lens61 : (List Int)) (v_k62 : Int)  (v_x232 : Bool) (r : (List Int) × Int) (h : G_turn_At_J1 n v_lens61 v_k62 v_x232 = some r) : RunE Try.prog 69 (FinR Try.prog Try.f5 (.tup [(eL (eI .i64)) r.1, (eI .i64) r.2])) (.s (cR (cL (cR (cR (cR (bodyOf Try.f5)))))) :: .s (cR (cR (cR (cR (bodyOf Try.f5))))) :: []) .normal ⟨(.d (.sl (v_lens61.map (eI .i64))) :: .d (.v (.int .i64 v_k62)) :: (dds 25 (.d (.v (.bool v_x232)) :: (dds 41 [])))), []⟩ := by
  have hF : KC 69 (FinR Try.prog Try.f5 (.tup [(eL (eI .i64)) r.1, (eI .i64) r.2])) := FinR.kc' (by kernel_rfl)
  unfold G_turn_At_J1 at h
  by_cases h126 : v_x232 = true
  · rw [if_pos h126] at h
    obtain rfl := Option.some.inj h
    exact pend_sound TTok mix 5 (hs := [.t true]) (by kernel_rfl) (by kernel_rfl) (by kernel_rfl) (.cons h126 .nil)
  · rw [if_neg h126] at h
    obtain ⟨v_r234, h127, h⟩ := bind_some h
    obtain ⟨v_o281, h169, h⟩ := bind_some h
    refine pkk_sound TTok mix hF 8 (hs := [.t false, .h [] [] [.row 3 1 (v_r234.map (eI .i64))] (.srf 0), .n n]) (ts := [(9, 3, 1)]) (s := [5, 20]) (l := [1, 8, 9]) (by kernel_rfl) (by kernel_rfl) (.cons (vf h126) (.cons (G_slices_Clone_int_int_ok n v_lens61 _ h127) .nil)) (G_turn_At_L2_ok hF (.b 0 :: []) n  n v_k62 v_r234 ([] : List Int) _ h169 ?_)
    cases v_o281 with
    | x0 v_z282 v_z283 =>
      try dsimp only at h
      obtain rfl := Option.some.inj h
      exact pend_sound TTok mix 1 (hs := []) (by kernel_rfl) (by kernel_rfl) (by kernel_rfl) .nil
/- ringhall/turn.At -/
def G_turn_At (n : Nat) (v_lens61 : (List Int)) (v_k62 : Int) : Option ((List Int) × Int) :=
  (G_turn_Count n v_lens61).bind fun (v_r214 : (Int × Int)) =>
  if v_r214.2 = 0 then
   if v_k62 < 0 then
    G_turn_At_J1 n v_lens61 v_k62 true
   else
    G_turn_At_J1 n v_lens61 v_k62 (decide (v_k62 ≥ v_r214.1))
  else
   some (([] : (List Int)), v_r214.2)
theorem G_turn_At_ok (n : Nat) (v_lens61 : (List Int)) (v_k62 : Int) (r : (List Int) × Int) (h : G_turn_At n v_lens61 v_k62 = some r) : Ret Try.prog 5 [(eL (eI .i64)) v_lens61, (eI .i64) v_k62] (.tup [(eL (eI .i64)) r.1, (eI .i64) r.2]) := by
  refine ret_run (n := 69) (fn := Try.f5) (c := bodyOf Try.f5) (by kernel_rfl) (by kernel_rfl) (by kernel_rfl) (by kernel_rfl) ?_
  have hF : KC 69 (FinR Try.prog Try.f5 (.tup [(eL (eI .i64)) r.1, (eI .i64) r.2])) := FinR.kc' (by kernel_rfl)
  unfold G_turn_At at h
  obtain ⟨v_r214, h122, h⟩ := bind_some h
  by_cases h124 : v_r214.2 = 0
  · rw [if_pos h124] at h
    by_cases h125 : v_k62 < 0
    · rw [if_pos h125] at h
      exact pkk_sound TTok mix hF 12 (hs := [.r (.tup [(eI .i64) v_r214.1, (eI .i64) v_r214.2]), .t false, .t true, .c, .c]) (ts := []) (s := []) (l := [0, 1, 27]) (by kernel_rfl) (by kernel_rfl) (.cons (G_turn_Count_ok n v_lens61 _ h122) (.cons (nf h124) (.cons (dt h125) .nil))) (G_turn_At_J1_ok n v_lens61 v_k62 true _ h)
    · rw [if_neg h125] at h
      exact pkk_sound TTok mix hF 12 (hs := [.r (.tup [(eI .i64) v_r214.1, (eI .i64) v_r214.2]), .t false, .t false, .c, .c]) (ts := []) (s := []) (l := [0, 1, 27]) (by kernel_rfl) (by kernel_rfl) (.cons (G_turn_Count_ok n v_lens61 _ h122) (.cons (nf h124) (.cons (df h125) .nil))) (G_turn_At_J1_ok n v_lens61 v_k62 (decide (v_k62 ≥ v_r214.1)) _ h)
  · rw [if_neg h124] at h
    obtain rfl := Option.some.inj h
    exact pend_sound TTok mix 12 (hs := [.r (.tup [(eI .i64) v_r214.1, (eI .i64) v_r214.2]), .t true]) (by kernel_rfl) (by kernel_rfl) (by kernel_rfl) (.cons (G_turn_Count_ok n v_lens61 _ h122) (.cons (nt h124) .nil))
inductive G_turn_Of_L1_R where
  | x0 (v_x313 : Int) (v_x314 : Int)
  | x1 (v_w319 : (List Int))
def G_turn_Of_L1_ex : G_turn_Of_L1_R → Ex
  | .x0 _ _ => .ret
  | .x1 _ => .exit 0
def G_turn_Of_L1_st (v_order295 : (List Int)) : G_turn_Of_L1_R → PS
  | .x0 v_x313 v_x314 => ⟨(dd :: dd :: .d (.v (.int .i64 v_x313)) :: .d (.v (.int .i64 v_x314)) :: (dds 70 [])), []⟩
  | .x1 v_w319 => ⟨(.d (.sl (v_order295.map (eI .i64))) :: dd :: dd :: dd :: .srf 0 :: (dds 69 [])), [.row 3 1 (v_w319.map (eI .i64))]⟩
def G_turn_Of_L1_hd (v_order295 : (List Int)) (v_x306 : Int) (v_w307 : (List Int)) : PS := ⟨(.d (.sl (v_order295.map (eI .i64))) :: dd :: dd :: dd :: .srf 0 :: (dds 10 (.d (.sl (v_order295.map (eI .i64))) :: .d (.v (.int .i64 (v_order295.length : Int))) :: .d (.v (.int .i64 v_x306)) :: (dds 56 [])))), [.row 3 1 (v_w307.map (eI .i64))]⟩
def G_turn_Of_L1 (n : Nat) (v_order295 : (List Int)) : Nat → Int → (List Int) → Option G_turn_Of_L1_R
  | 0, _, _ => none
  | k + 1, v_x306, v_w307 =>
    if v_x306 < (v_order295.length : Int) then
     (getI v_order295 v_x306).bind fun (v_y312 : Int) =>
     if v_y312 < 0 then
      some (.x0 0 1)
     else
      if v_y312 ≥ 4 then
       some (.x0 0 1)
      else
       if 0 ≤ v_y312 ∧ (v_y312).toNat < v_w307.length then
        (v_w307[(v_y312).toNat]?).bind fun (v_y317 : Int) =>
        if 0 ≤ v_y312 ∧ (v_y312).toNat < v_w307.length then
         (v_w307[(v_y312).toNat]?).bind fun (v_y318 : Int) =>
         G_turn_Of_L1 n v_order295 k (wi .i64 (v_x306 + 1)) (v_w307.set (v_y312).toNat (wi .i64 (v_y317 + 1)))
        else none
       else none
    else
     some (.x1 v_w307)
theorem G_turn_Of_L1_ok {Fi : Ex → PS → Prop} (hF : KC 74 Fi) (ks : List Fr) (n : Nat) (v_order295 : (List Int))  : ∀ (k : Nat) (v_x306 : Int) (v_w307 : (List Int)) (o : G_turn_Of_L1_R), G_turn_Of_L1 n v_order295 k v_x306 v_w307 = some o → RunE Try.prog 74 Fi ks (G_turn_Of_L1_ex o) (G_turn_Of_L1_st v_order295 o) → RunE Try.prog 74 Fi (.l k (cP (cB (cR (cL (cR (cR (cR (bodyOf Try.f6)))))))) :: ks) .normal (G_turn_Of_L1_hd v_order295 v_x306 v_w307)
  | 0, v_x306, v_w307, o, h, q => by rw [G_turn_Of_L1] at h; cases h
  | k + 1, v_x306, v_w307, o, h, q => by
    rw [G_turn_Of_L1] at h
    by_cases h173 : v_x306 < (v_order295.length : Int)
    · rw [if_pos h173] at h
      obtain ⟨v_y312, h181, h⟩ := bind_some h
      by_cases h182 : v_y312 < 0
      · rw [if_pos h182] at h
        cases h
        exact pkk_sound TTok mix hF 21 (hs := [.t true, .y ((eI .i64) v_y312), .c, .t true, .c, .c]) (ts := []) (s := []) (l := [2, 3]) (by kernel_rfl) (by kernel_rfl) (.cons (dt h173) (.cons (getI_ob (f := (eI .i64)) h181) (.cons (dt h182) .nil))) q
      · rw [if_neg h182] at h
        by_cases h183 : v_y312 ≥ 4
        · rw [if_pos h183] at h
          cases h
          exact pkk_sound TTok mix hF 21 (hs := [.t true, .y ((eI .i64) v_y312), .c, .t false, .c, .t true]) (ts := []) (s := []) (l := [2, 3]) (by kernel_rfl) (by kernel_rfl) (.cons (dt h173) (.cons (getI_ob (f := (eI .i64)) h181) (.cons (df h182) (.cons (dt h183) .nil)))) q
        · rw [if_neg h183] at h
          by_cases h184 : 0 ≤ v_y312 ∧ (v_y312).toNat < v_w307.length
          · rw [if_pos h184] at h
            obtain ⟨v_y317, h185, h⟩ := bind_some h
            by_cases h186 : 0 ≤ v_y312 ∧ (v_y312).toNat < v_w307.length
            · rw [if_pos h186] at h
              obtain ⟨v_y318, h187, h⟩ := bind_some h
              exact pkk_sound TTok mix hF 18 (hs := [.t true, .y ((eI .i64) v_y312), .c, .t false, .c, .t false, .y ((eI .i64) v_y317), .w ((v_w307.set (v_y312).toNat (wi .i64 (v_y317 + 1))).map (eI .i64)), .y ((eI .i64) v_y318)]) (ts := []) (s := [0]) (l := [0, 4, 15, 16, 17]) (by kernel_rfl) (by kernel_rfl) (.cons (dt h173) (.cons (getI_ob (f := (eI .i64)) h181) (.cons (df h182) (.cons (df h183) (.cons (idx_ob (f := (eI .i64)) h184) (.cons (get_ob (f := (eI .i64)) h185) (.cons (idx_ob (f := (eI .i64)) h186) (.cons (get_ob (f := (eI .i64)) h187) (.cons (Eq.refl (pcells (.v (.int .i64 (wi .i64 (v_y317 + 1)))))) (.cons (set_ob (f := (eI .i64)) (l := v_w307) (k := (v_y312).toNat) (z := (wi .i64 (v_y317 + 1))) (p := .v (.int .i64 (wi .i64 (v_y317 + 1)))) rfl) .nil)))))))))) (G_turn_Of_L1_ok hF ks n v_order295 k (wi .i64 (v_x306 + 1)) (v_w307.set (v_y312).toNat (wi .i64 (v_y317 + 1))) _ h q)
            · rw [if_neg h186] at h; cases h
          · rw [if_neg h184] at h; cases h
    · rw [if_neg h173] at h
      cases h
      exact pkk_sound TTok mix hF 8 (hs := [.t false]) (ts := []) (s := [0]) (l := [0, 4]) (by kernel_rfl) (by kernel_rfl) (.cons (df h173) .nil) q
inductive G_turn_Of_L2_R where
  | x0 (v_k369 : Int) (v_w370 : (List Int))
def G_turn_Of_L2_ex : G_turn_Of_L2_R → Ex
  | .x0 _ _ => .exit 4
def G_turn_Of_L2_st (v_y342 : Int) (v_order295 : (List Int)) (v_x339 : Int) : G_turn_Of_L2_R → PS
  | .x0 v_k369 v_w370 => ⟨(dd :: dd :: dd :: dd :: .srf 0 :: dd :: dd :: .d (.v (.int .i64 v_k369)) :: dd :: .d (.v (.int .i64 v_y342)) :: (dds 24 (.d (.sl (v_order295.map (eI .i64))) :: .d (.v (.int .i64 (v_order295.length : Int))) :: .d (.v (.int .i64 v_x339)) :: (dds 37 [])))), [.row 3 1 (v_w370.map (eI .i64))]⟩
def G_turn_Of_L2_hd (v_y342 : Int) (v_order295 : (List Int)) (v_x339 : Int) (v_k343 : Int) (v_x344 : Int) (v_w345 : (List Int)) : PS := ⟨(dd :: dd :: dd :: dd :: .srf 0 :: dd :: dd :: .d (.v (.int .i64 v_k343)) :: dd :: .d (.v (.int .i64 v_y342)) :: (dds 24 (.d (.sl (v_order295.map (eI .i64))) :: .d (.v (.int .i64 (v_order295.length : Int))) :: .d (.v (.int .i64 v_x339)) :: dd :: dd :: dd :: .d (.v (.int .i64 v_y342)) :: .d (.v (.int .i64 v_x344)) :: (dds 32 [])))), [.row 3 1 (v_w345.map (eI .i64))]⟩
def G_turn_Of_L2 (n : Nat) (v_y342 : Int) (v_order295 : (List Int)) (v_x339 : Int) : Nat → Int → Int → (List Int) → Option G_turn_Of_L2_R
  | 0, _, _, _ => none
  | k + 1, v_k343, v_x344, v_w345 =>
    if v_x344 < v_y342 then
     if 0 ≤ v_x344 ∧ (v_x344).toNat < v_w345.length then
      (v_w345[(v_x344).toNat]?).bind fun (v_y358 : Int) =>
      if v_y358 > 0 then
       if 0 ≤ v_x344 ∧ (v_x344).toNat < v_w345.length then
        (v_w345[(v_x344).toNat]?).bind fun (v_y364 : Int) =>
        if 0 ≤ v_x344 ∧ (v_x344).toNat < v_w345.length then
         (v_w345[(v_x344).toNat]?).bind fun (v_y365 : Int) =>
         (G_turn_count n (v_w345.set (v_x344).toNat (wi .i64 (v_y364 - 1)))).bind fun (v_r366 : (Int)) =>
         if 0 ≤ v_x344 ∧ (v_x344).toNat < (v_w345.set (v_x344).toNat (wi .i64 (v_y364 - 1))).length then
          ((v_w345.set (v_x344).toNat (wi .i64 (v_y364 - 1)))[(v_x344).toNat]?).bind fun (v_y367 : Int) =>
          if 0 ≤ v_x344 ∧ (v_x344).toNat < (v_w345.set (v_x344).toNat (wi .i64 (v_y364 - 1))).length then
           ((v_w345.set (v_x344).toNat (wi .i64 (v_y364 - 1)))[(v_x344).toNat]?).bind fun (v_y368 : Int) =>
           G_turn_Of_L2 n v_y342 v_order295 v_x339 k (wi .i64 (v_k343 + v_r366)) (wi .i64 (v_x344 + 1)) ((v_w345.set (v_x344).toNat (wi .i64 (v_y364 - 1))).set (v_x344).toNat (wi .i64 (v_y367 + 1)))
          else none
         else none
        else none
       else none
      else
       G_turn_Of_L2 n v_y342 v_order295 v_x339 k v_k343 (wi .i64 (v_x344 + 1)) v_w345
     else none
    else
     some (.x0 v_k343 v_w345)
theorem G_turn_Of_L2_ok {Fi : Ex → PS → Prop} (hF : KC 74 Fi) (ks : List Fr) (n : Nat) (v_y342 : Int) (v_order295 : (List Int)) (v_x339 : Int)  : ∀ (k : Nat) (v_k343 : Int) (v_x344 : Int) (v_w345 : (List Int)) (o : G_turn_Of_L2_R), G_turn_Of_L2 n v_y342 v_order295 v_x339 k v_k343 v_x344 v_w345 = some o → RunE Try.prog 74 Fi ks (G_turn_Of_L2_ex o) (G_turn_Of_L2_st v_y342 v_order295 v_x339 o) → RunE Try.prog 74 Fi (.l k (cP (cB (cR (cL (cR (cB (cL (cR (cR (cP (cB (cR (cL (cR (cR (cR (cR (cR (bodyOf Try.f6))))))))))))))))))) :: ks) .normal (G_turn_Of_L2_hd v_y342 v_order295 v_x339 v_k343 v_x344 v_w345)
  | 0, v_k343, v_x344, v_w345, o, h, q => by rw [G_turn_Of_L2] at h; cases h
  | k + 1, v_k343, v_x344, v_w345, o, h, q => by
    rw [G_turn_Of_L2] at h
    by_cases h191 : v_x344 < v_y342
    · rw [if_pos h191] at h
      by_cases h214 : 0 ≤ v_x344 ∧ (v_x344).toNat < v_w345.length
      · rw [if_pos h214] at h
        obtain ⟨v_y358, h215, h⟩ := bind_some h
        by_cases h226 : v_y358 > 0
        · rw [if_pos h226] at h
          by_cases h227 : 0 ≤ v_x344 ∧ (v_x344).toNat < v_w345.length
          · rw [if_pos h227] at h
            obtain ⟨v_y364, h228, h⟩ := bind_some h
            by_cases h229 : 0 ≤ v_x344 ∧ (v_x344).toNat < v_w345.length
            · rw [if_pos h229] at h
              obtain ⟨v_y365, h230, h⟩ := bind_some h
              obtain ⟨v_r366, h231, h⟩ := bind_some h
              by_cases h232 : 0 ≤ v_x344 ∧ (v_x344).toNat < (v_w345.set (v_x344).toNat (wi .i64 (v_y364 - 1))).length
              · rw [if_pos h232] at h
                obtain ⟨v_y367, h233, h⟩ := bind_some h
                by_cases h234 : 0 ≤ v_x344 ∧ (v_x344).toNat < (v_w345.set (v_x344).toNat (wi .i64 (v_y364 - 1))).length
                · rw [if_pos h234] at h
                  obtain ⟨v_y368, h235, h⟩ := bind_some h
                  exact pkk_sound TTok mix hF 20 (hs := [.t true, .y ((eI .i64) v_y358), .t true, .y ((eI .i64) v_y364), .w ((v_w345.set (v_x344).toNat (wi .i64 (v_y364 - 1))).map (eI .i64)), .y ((eI .i64) v_y365), .c, .r ((eI .i64) v_r366), .y ((eI .i64) v_y367), .w (((v_w345.set (v_x344).toNat (wi .i64 (v_y364 - 1))).set (v_x344).toNat (wi .i64 (v_y367 + 1))).map (eI .i64)), .y ((eI .i64) v_y368)]) (ts := []) (s := [0]) (l := [4, 7, 9, 34, 35, 36, 40, 41]) (by kernel_rfl) (by kernel_rfl) (.cons (dt h191) (.cons (idx_ob (f := (eI .i64)) h214) (.cons (get_ob (f := (eI .i64)) h215) (.cons (dt h226) (.cons (idx_ob (f := (eI .i64)) h227) (.cons (get_ob (f := (eI .i64)) h228) (.cons (idx_ob (f := (eI .i64)) h229) (.cons (get_ob (f := (eI .i64)) h230) (.cons (Eq.refl (pcells (.v (.int .i64 (wi .i64 (v_y364 - 1)))))) (.cons (set_ob (f := (eI .i64)) (l := v_w345) (k := (v_x344).toNat) (z := (wi .i64 (v_y364 - 1))) (p := .v (.int .i64 (wi .i64 (v_y364 - 1)))) rfl) (.cons (G_turn_count_ok n (v_w345.set (v_x344).toNat (wi .i64 (v_y364 - 1))) _ h231) (.cons (idx_ob (f := (eI .i64)) h232) (.cons (get_ob (f := (eI .i64)) h233) (.cons (idx_ob (f := (eI .i64)) h234) (.cons (get_ob (f := (eI .i64)) h235) (.cons (Eq.refl (pcells (.v (.int .i64 (wi .i64 (v_y367 + 1)))))) (.cons (set_ob (f := (eI .i64)) (l := (v_w345.set (v_x344).toNat (wi .i64 (v_y364 - 1)))) (k := (v_x344).toNat) (z := (wi .i64 (v_y367 + 1))) (p := .v (.int .i64 (wi .i64 (v_y367 + 1)))) rfl) .nil))))))))))))))))) (G_turn_Of_L2_ok hF ks n v_y342 v_order295 v_x339 k (wi .i64 (v_k343 + v_r366)) (wi .i64 (v_x344 + 1)) ((v_w345.set (v_x344).toNat (wi .i64 (v_y364 - 1))).set (v_x344).toNat (wi .i64 (v_y367 + 1))) _ h q)
                · rw [if_neg h234] at h; cases h
              · rw [if_neg h232] at h; cases h
            · rw [if_neg h229] at h; cases h
          · rw [if_neg h227] at h; cases h
        · rw [if_neg h226] at h
          exact pkk_sound TTok mix hF 16 (hs := [.t true, .y ((eI .i64) v_y358), .t false]) (ts := []) (s := [0]) (l := [4, 7, 9, 34, 35, 36, 40, 41]) (by kernel_rfl) (by kernel_rfl) (.cons (dt h191) (.cons (idx_ob (f := (eI .i64)) h214) (.cons (get_ob (f := (eI .i64)) h215) (.cons (df h226) .nil)))) (G_turn_Of_L2_ok hF ks n v_y342 v_order295 v_x339 k v_k343 (wi .i64 (v_x344 + 1)) v_w345 _ h q)
      · rw [if_neg h214] at h; cases h
    · rw [if_neg h191] at h
      cases h
      exact pkk_sound TTok mix hF 8 (hs := [.t false]) (ts := []) (s := [0]) (l := [4, 7, 9, 34, 35, 36]) (by kernel_rfl) (by kernel_rfl) (.cons (df h191) .nil) q
inductive G_turn_Of_L3_R where
  | x0 (v_k376 : Int)
def G_turn_Of_L3_ex : G_turn_Of_L3_R → Ex
  | .x0 _ => .exit 2
def G_turn_Of_L3_st (v_order295 : (List Int)) : G_turn_Of_L3_R → PS
  | .x0 v_k376 => ⟨(dd :: dd :: dd :: dd :: dd :: dd :: dd :: .d (.v (.int .i64 v_k376)) :: (dds 66 [])), []⟩
def G_turn_Of_L3_hd (v_order295 : (List Int)) (v_k338 : Int) (v_x339 : Int) (v_w340 : (List Int)) : PS := ⟨(dd :: dd :: dd :: dd :: .srf 0 :: dd :: dd :: .d (.v (.int .i64 v_k338)) :: (dds 26 (.d (.sl (v_order295.map (eI .i64))) :: .d (.v (.int .i64 (v_order295.length : Int))) :: .d (.v (.int .i64 v_x339)) :: (dds 37 [])))), [.row 3 1 (v_w340.map (eI .i64))]⟩
def G_turn_Of_L3 (n : Nat) (v_order295 : (List Int)) : Nat → Int → Int → (List Int) → Option G_turn_Of_L3_R
  | 0, _, _, _ => none
  | k + 1, v_k338, v_x339, v_w340 =>
    if v_x339 < (v_order295.length : Int) then
     (getI v_order295 v_x339).bind fun (v_y342 : Int) =>
     (G_turn_Of_L2 n v_y342 v_order295 v_x339 n v_k338 0 v_w340).bind fun v_o371 => match v_o371 with
     | .x0 v_z372 v_z373 =>
       if 0 ≤ v_y342 ∧ (v_y342).toNat < v_z373.length then
        (v_z373[(v_y342).toNat]?).bind fun (v_y374 : Int) =>
        if 0 ≤ v_y342 ∧ (v_y342).toNat < v_z373.length then
         (v_z373[(v_y342).toNat]?).bind fun (v_y375 : Int) =>
         G_turn_Of_L3 n v_order295 k v_z372 (wi .i64 (v_x339 + 1)) (v_z373.set (v_y342).toNat (wi .i64 (v_y374 - 1)))
        else none
       else none
    else
     some (.x0 v_k338)
theorem G_turn_Of_L3_ok {Fi : Ex → PS → Prop} (hF : KC 74 Fi) (ks : List Fr) (n : Nat) (v_order295 : (List Int))  : ∀ (k : Nat) (v_k338 : Int) (v_x339 : Int) (v_w340 : (List Int)) (o : G_turn_Of_L3_R), G_turn_Of_L3 n v_order295 k v_k338 v_x339 v_w340 = some o → RunE Try.prog 74 Fi ks (G_turn_Of_L3_ex o) (G_turn_Of_L3_st v_order295 o) → RunE Try.prog 74 Fi (.l k (cP (cB (cR (cL (cR (cR (cR (cR (cR (bodyOf Try.f6)))))))))) :: ks) .normal (G_turn_Of_L3_hd v_order295 v_k338 v_x339 v_w340)
  | 0, v_k338, v_x339, v_w340, o, h, q => by rw [G_turn_Of_L3] at h; cases h
  | k + 1, v_k338, v_x339, v_w340, o, h, q => by
    rw [G_turn_Of_L3] at h
    by_cases h189 : v_x339 < (v_order295.length : Int)
    · rw [if_pos h189] at h
      obtain ⟨v_y342, h190, h⟩ := bind_some h
      obtain ⟨v_o371, h236, h⟩ := bind_some h
      refine pkk_sound TTok mix hF 15 (hs := [.t true, .y ((eI .i64) v_y342), .c, .n n]) (ts := []) (s := [0]) (l := [4, 7, 9, 34, 35, 36, 40, 41]) (by kernel_rfl) (by kernel_rfl) (.cons (dt h189) (.cons (getI_ob (f := (eI .i64)) h190) .nil)) (G_turn_Of_L2_ok hF (.b 4 :: .s (cR (cR (cB (cL (cR (cR (cP (cB (cR (cL (cR (cR (cR (cR (cR (bodyOf Try.f6)))))))))))))))) :: .b 3 :: .s (cR (cR (cR (cP (cB (cR (cL (cR (cR (cR (cR (cR (bodyOf Try.f6))))))))))))) :: .l k (cP (cB (cR (cL (cR (cR (cR (cR (cR (bodyOf Try.f6)))))))))) :: ks) n v_y342 v_order295 v_x339 n v_k338 0 v_w340 _ h236 ?_)
      cases v_o371 with
      | x0 v_z372 v_z373 =>
        try dsimp only at h
        by_cases h237 : 0 ≤ v_y342 ∧ (v_y342).toNat < v_z373.length
        · rw [if_pos h237] at h
          obtain ⟨v_y374, h238, h⟩ := bind_some h
          by_cases h239 : 0 ≤ v_y342 ∧ (v_y342).toNat < v_z373.length
          · rw [if_pos h239] at h
            obtain ⟨v_y375, h240, h⟩ := bind_some h
            exact pkk_sound TTok mix hF 4 (hs := [.y ((eI .i64) v_y374), .w ((v_z373.set (v_y342).toNat (wi .i64 (v_y374 - 1))).map (eI .i64)), .y ((eI .i64) v_y375)]) (ts := []) (s := [0]) (l := [4, 7, 34, 35, 36]) (by kernel_rfl) (by kernel_rfl) (.cons (idx_ob (f := (eI .i64)) h237) (.cons (get_ob (f := (eI .i64)) h238) (.cons (idx_ob (f := (eI .i64)) h239) (.cons (get_ob (f := (eI .i64)) h240) (.cons (Eq.refl (pcells (.v (.int .i64 (wi .i64 (v_y374 - 1)))))) (.cons (set_ob (f := (eI .i64)) (l := v_z373) (k := (v_y342).toNat) (z := (wi .i64 (v_y374 - 1))) (p := .v (.int .i64 (wi .i64 (v_y374 - 1)))) rfl) .nil)))))) (G_turn_Of_L3_ok hF ks n v_order295 k v_z372 (wi .i64 (v_x339 + 1)) (v_z373.set (v_y342).toNat (wi .i64 (v_y374 - 1))) _ h q)
          · rw [if_neg h239] at h; cases h
        · rw [if_neg h237] at h; cases h
    · rw [if_neg h189] at h
      cases h
      exact pkk_sound TTok mix hF 8 (hs := [.t false]) (ts := []) (s := []) (l := [7]) (by kernel_rfl) (by kernel_rfl) (.cons (df h189) .nil) q
/- ringhall/turn.Of -/
def G_turn_Of (n : Nat) (v_order295 : (List Int)) : Option (Int × Int) :=
  if (v_order295.length : Int) > 12 then
   some (0, 2)
  else
   (mkL 8 0 4).bind fun (v_m298 : (List Int)) =>
   (G_turn_Of_L1 n v_order295 n 0 v_m298).bind fun v_o320 => match v_o320 with
   | .x0 v_z321 v_z322 =>
     some (v_z321, v_z322)
   | .x1 v_z323 =>
     (G_turn_Of_L3 n v_order295 n 0 0 v_z323).bind fun v_o377 => match v_o377 with
     | .x0 v_z378 =>
       some (v_z378, 0)
theorem G_turn_Of_ok (n : Nat) (v_order295 : (List Int)) (r : Int × Int) (h : G_turn_Of n v_order295 = some r) : Ret Try.prog 6 [(eL (eI .i64)) v_order295] (.tup [(eI .i64) r.1, (eI .i64) r.2]) := by
  refine ret_run (n := 74) (fn := Try.f6) (c := bodyOf Try.f6) (by kernel_rfl) (by kernel_rfl) (by kernel_rfl) (by kernel_rfl) ?_
  have hF : KC 74 (FinR Try.prog Try.f6 (.tup [(eI .i64) r.1, (eI .i64) r.2])) := FinR.kc' (by kernel_rfl)
  unfold G_turn_Of at h
  by_cases h171 : (v_order295.length : Int) > 12
  · rw [if_pos h171] at h
    obtain rfl := Option.some.inj h
    exact pend_sound TTok mix 10 (hs := [.u (.d (.v (.int .i64 (v_order295.length : Int)))), .t true]) (by kernel_rfl) (by kernel_rfl) (by kernel_rfl) (.cons (len_ob (f := (eI .i64)) (l := v_order295)) (.cons (dt h171) .nil))
  · rw [if_neg h171] at h
    obtain ⟨v_m298, h172, h⟩ := bind_some h
    obtain ⟨v_o320, h188, h⟩ := bind_some h
    refine pkk_sound TTok mix hF 14 (hs := [.u (.d (.v (.int .i64 (v_order295.length : Int)))), .t false, .w (v_m298.map (eI .i64)), .u (.d (.v (.int .i64 (v_order295.length : Int)))), .n n]) (ts := []) (s := [25]) (l := [0, 4, 15, 16, 17]) (by kernel_rfl) (by kernel_rfl) (.cons (len_ob (f := (eI .i64)) (l := v_order295)) (.cons (df h171) (.cons (mkL_ob (f := (eI .i64)) (p := .v (.int .i64 0)) h172 rfl).1 (.cons (mkL_ob (f := (eI .i64)) (p := .v (.int .i64 0)) h172 rfl).2.1 (.cons (mkL_ob (f := (eI .i64)) (p := .v (.int .i64 0)) h172 rfl).2.2.1 (.cons (mkL_ob (f := (eI .i64)) (p := .v (.int .i64 0)) h172 rfl).2.2.2.1 (.cons (mkL_ob (f := (eI .i64)) (p := .v (.int .i64 0)) h172 rfl).2.2.2.2 (.cons (len_ob (f := (eI .i64)) (l := v_order295)) .nil)))))))) (G_turn_Of_L1_ok hF (.b 0 :: .s (cR (cR (cR (cR (bodyOf Try.f6))))) :: []) n v_order295 n 0 v_m298 _ h188 ?_)
    cases v_o320 with
    | x0 v_z321 v_z322 =>
      try dsimp only at h
      obtain rfl := Option.some.inj h
      exact pend_sound TTok mix 2 (hs := []) (by kernel_rfl) (by kernel_rfl) (by kernel_rfl) .nil
    | x1 v_z323 =>
      try dsimp only at h
      obtain ⟨v_o377, h241, h⟩ := bind_some h
      refine pkk_sound TTok mix hF 8 (hs := [.u (.d (.v (.int .i64 (v_order295.length : Int)))), .n n]) (ts := []) (s := [0]) (l := [4, 7, 34, 35, 36]) (by kernel_rfl) (by kernel_rfl) (.cons (len_ob (f := (eI .i64)) (l := v_order295)) .nil) (G_turn_Of_L3_ok hF (.b 2 :: .s (cR (cR (cR (cR (cR (cR (bodyOf Try.f6))))))) :: []) n v_order295 n 0 0 v_z323 _ h241 ?_)
      cases v_o377 with
      | x0 v_z378 =>
        try dsimp only at h
        obtain rfl := Option.some.inj h
        exact pend_sound TTok mix 4 (hs := []) (by kernel_rfl) (by kernel_rfl) (by kernel_rfl) .nil
inductive G_slices_IndexFunc_int_int_L1_R where
  | x0 (v_x432 : Int)
  | x1 
def G_slices_IndexFunc_int_int_L1_ex : G_slices_IndexFunc_int_int_L1_R → Ex
  | .x0 _ => .ret
  | .x1  => .exit 0
def G_slices_IndexFunc_int_int_L1_st (v_s422 : (List Int)) (v_f423 : (Int → Option (Bool))) (v_f423_g : FuncId) (v_f423_c : (List PV)) : G_slices_IndexFunc_int_int_L1_R → PS
  | .x0 v_x432 => ⟨(dd :: dd :: dd :: dd :: .d (.v (.int .i64 v_x432)) :: (dds 14 [])), []⟩
  | .x1  => ⟨(dds 19 []), []⟩
def G_slices_IndexFunc_int_int_L1_hd (v_s422 : (List Int)) (v_f423 : (Int → Option (Bool))) (v_f423_g : FuncId) (v_f423_c : (List PV)) (v_x426 : Int) : PS := ⟨(.d (.sl (v_s422.map (eI .i64))) :: .d (.clo v_f423_g v_f423_c) :: dd :: dd :: dd :: dd :: dd :: .d (.v (.int .i64 (v_s422.length : Int))) :: .d (.v (.int .i64 v_x426)) :: (dds 10 [])), []⟩
def G_slices_IndexFunc_int_int_L1 (n : Nat) (v_s422 : (List Int)) (v_f423 : (Int → Option (Bool))) : Nat → Int → Option G_slices_IndexFunc_int_int_L1_R
  | 0, _ => none
  | k + 1, v_x426 =>
    if v_x426 < (v_s422.length : Int) then
     (getI v_s422 v_x426).bind fun (v_y430 : Int) =>
     (v_f423 v_y430).bind fun (v_r431 : (Bool)) =>
     if v_r431 = true then
      some (.x0 v_x426)
     else
      G_slices_IndexFunc_int_int_L1 n v_s422 v_f423 k (wi .i64 (v_x426 + 1))
    else
     some (.x1 )
theorem G_slices_IndexFunc_int_int_L1_ok {Fi : Ex → PS → Prop} (hF : KC 19 Fi) (ks : List Fr) (n : Nat) (v_s422 : (List Int)) (v_f423 : (Int → Option (Bool))) (v_f423_g : FuncId) (v_f423_c : (List PV)) (v_f423_h : ∀ (x0 : Int) (r : Bool), v_f423 x0 = some r → Ret Try.prog v_f423_g ([(eI .i64) x0] ++ v_f423_c) (eB r)) : ∀ (k : Nat) (v_x426 : Int) (o : G_slices_IndexFunc_int_int_L1_R), G_slices_IndexFunc_int_int_L1 n v_s422 v_f423 k v_x426 = some o → RunE Try.prog 19 Fi ks (G_slices_IndexFunc_int_int_L1_ex o) (G_slices_IndexFunc_int_int_L1_st v_s422 v_f423 v_f423_g v_f423_c o) → RunE Try.prog 19 Fi (.l k (cP (cB (cR (cL (cR (bodyOf Try.f15)))))) :: ks) .normal (G_slices_IndexFunc_int_int_L1_hd v_s422 v_f423 v_f423_g v_f423_c v_x426)
  | 0, v_x426, o, h, q => by rw [G_slices_IndexFunc_int_int_L1] at h; cases h
  | k + 1, v_x426, o, h, q => by
    rw [G_slices_IndexFunc_int_int_L1] at h
    by_cases h244 : v_x426 < (v_s422.length : Int)
    · rw [if_pos h244] at h
      obtain ⟨v_y430, h248, h⟩ := bind_some h
      obtain ⟨v_r431, h249, h⟩ := bind_some h
      by_cases h250 : v_r431 = true
      · rw [if_pos h250] at h
        cases h
        exact pkk_sound TTok mix hF 19 (hs := [.t true, .y ((eI .i64) v_y430), .c, .r (eB v_r431), .t true]) (ts := []) (s := []) (l := [4]) (by kernel_rfl) (by kernel_rfl) (.cons (dt h244) (.cons (getI_ob (f := (eI .i64)) h248) (.cons (v_f423_h v_y430 _ h249) (.cons h250 .nil)))) q
      · rw [if_neg h250] at h
        exact pkk_sound TTok mix hF 16 (hs := [.t true, .y ((eI .i64) v_y430), .c, .r (eB v_r431), .t false]) (ts := []) (s := []) (l := [0, 1, 7, 8]) (by kernel_rfl) (by kernel_rfl) (.cons (dt h244) (.cons (getI_ob (f := (eI .i64)) h248) (.cons (v_f423_h v_y430 _ h249) (.cons (vf h250) .nil)))) (G_slices_IndexFunc_int_int_L1_ok hF ks n v_s422 v_f423 v_f423_g v_f423_c v_f423_h k (wi .i64 (v_x426 + 1)) _ h q)
    · rw [if_neg h244] at h
      cases h
      exact pkk_sound TTok mix hF 8 (hs := [.t false]) (ts := []) (s := []) (l := []) (by kernel_rfl) (by kernel_rfl) (.cons (df h244) .nil) q
/- slices.IndexFunc[[]int,int] -/
def G_slices_IndexFunc_int_int (n : Nat) (v_s422 : (List Int)) (v_f423 : (Int → Option (Bool))) : Option (Int) :=
  (G_slices_IndexFunc_int_int_L1 n v_s422 v_f423 n 0).bind fun v_o433 => match v_o433 with
  | .x0 v_z434 =>
    some v_z434
  | .x1  =>
    some (-1)
theorem G_slices_IndexFunc_int_int_ok (n : Nat) (v_s422 : (List Int)) (v_f423 : (Int → Option (Bool))) (v_f423_g : FuncId) (v_f423_c : List PV) (v_f423_h : ∀ (x0 : Int) (r : Bool), v_f423 x0 = some r → Ret Try.prog v_f423_g ([(eI .i64) x0] ++ v_f423_c) (eB r)) (r : Int) (h : G_slices_IndexFunc_int_int n v_s422 v_f423 = some r) : Ret Try.prog 15 [(eL (eI .i64)) v_s422, (.clo v_f423_g v_f423_c)] ((eI .i64) r) := by
  refine ret_run (n := 19) (fn := Try.f15) (c := bodyOf Try.f15) (by kernel_rfl) (by kernel_rfl) (by kernel_rfl) (by kernel_rfl) ?_
  have hF : KC 19 (FinR Try.prog Try.f15 ((eI .i64) r)) := FinR.kc' (by kernel_rfl)
  unfold G_slices_IndexFunc_int_int at h
  obtain ⟨v_o433, h251, h⟩ := bind_some h
  refine pkk_sound TTok mix hF 7 (hs := [.u (.d (.v (.int .i64 (v_s422.length : Int)))), .n n]) (ts := []) (s := []) (l := [0, 1, 7, 8]) (by kernel_rfl) (by kernel_rfl) (.cons (len_ob (f := (eI .i64)) (l := v_s422)) .nil) (G_slices_IndexFunc_int_int_L1_ok hF (.b 0 :: .s (cR (cR (bodyOf Try.f15))) :: []) n v_s422 v_f423 v_f423_g v_f423_c v_f423_h n 0 _ h251 ?_)
  cases v_o433 with
  | x0 v_z434 =>
    try dsimp only at h
    obtain rfl := Option.some.inj h
    exact pend_sound TTok mix 2 (hs := []) (by kernel_rfl) (by kernel_rfl) (by kernel_rfl) .nil
  | x1  =>
    try dsimp only at h
    obtain rfl := Option.some.inj h
    exact pend_sound TTok mix 4 (hs := []) (by kernel_rfl) (by kernel_rfl) (by kernel_rfl) .nil
/- slices.ContainsFunc[[]int,int] -/
def G_slices_ContainsFunc_int_int (n : Nat) (v_s420 : (List Int)) (v_f421 : (Int → Option (Bool))) : Option (Bool) :=
  (G_slices_IndexFunc_int_int n v_s420 v_f421).bind fun (v_r435 : (Int)) =>
  some (decide (v_r435 ≥ 0))
theorem G_slices_ContainsFunc_int_int_ok (n : Nat) (v_s420 : (List Int)) (v_f421 : (Int → Option (Bool))) (v_f421_g : FuncId) (v_f421_c : List PV) (v_f421_h : ∀ (x0 : Int) (r : Bool), v_f421 x0 = some r → Ret Try.prog v_f421_g ([(eI .i64) x0] ++ v_f421_c) (eB r)) (r : Bool) (h : G_slices_ContainsFunc_int_int n v_s420 v_f421 = some r) : Ret Try.prog 7 [(eL (eI .i64)) v_s420, (.clo v_f421_g v_f421_c)] (eB r) := by
  refine ret_run (n := 9) (fn := Try.f7) (c := bodyOf Try.f7) (by kernel_rfl) (by kernel_rfl) (by kernel_rfl) (by kernel_rfl) ?_
  have hF : KC 9 (FinR Try.prog Try.f7 (eB r)) := FinR.kc' (by kernel_rfl)
  unfold G_slices_ContainsFunc_int_int at h
  obtain ⟨v_r435, h252, h⟩ := bind_some h
  obtain rfl := Option.some.inj h
  exact pend_sound TTok mix 5 (hs := [.r ((eI .i64) v_r435)]) (by kernel_rfl) (by kernel_rfl) (by kernel_rfl) (.cons (G_slices_IndexFunc_int_int_ok n v_s420 v_f421 v_f421_g v_f421_c v_f421_h _ h252) .nil)
/- ringhall/ringlaw5.TurnSays$1 -/
def G_ringlaw5_TurnSays_1 (n : Nat) (v_i436 : Int) : Option (Bool) :=
  if v_i436 < 0 then
   some true
  else
   some (decide (v_i436 > 3))
theorem G_ringlaw5_TurnSays_1_ok (n : Nat) (v_i436 : Int) (r : Bool) (h : G_ringlaw5_TurnSays_1 n v_i436 = some r) : Ret Try.prog 8 [(eI .i64) v_i436] (eB r) := by
  refine ret_run (n := 9) (fn := Try.f8) (c := bodyOf Try.f8) (by kernel_rfl) (by kernel_rfl) (by kernel_rfl) (by kernel_rfl) ?_
  have hF : KC 9 (FinR Try.prog Try.f8 (eB r)) := FinR.kc' (by kernel_rfl)
  unfold G_ringlaw5_TurnSays_1 at h
  by_cases h253 : v_i436 < 0
  · rw [if_pos h253] at h
    obtain rfl := Option.some.inj h
    exact pend_sound TTok mix 5 (hs := [.t true, .c]) (by kernel_rfl) (by kernel_rfl) (by kernel_rfl) (.cons (dt h253) .nil)
  · rw [if_neg h253] at h
    obtain rfl := Option.some.inj h
    exact pend_sound TTok mix 5 (hs := [.t false, .c]) (by kernel_rfl) (by kernel_rfl) (by kernel_rfl) (.cons (df h253) .nil)
inductive G_ringref5_Orders_1_h_L1_R where
  | x0 (v_n543 : Int) (v_w544 : (List ((Fin 4 → Int) × Int)))
def G_ringref5_Orders_1_h_L1_ex : G_ringref5_Orders_1_h_L1_R → Ex
  | .x0 _ _ => .exit 0
def G_ringref5_Orders_1_h_L1_st (v_l522 : (Fin 4 → Int)) (v_rec531 : ((Fin 4 → Int) → (List ((Fin 4 → Int) × Int)) → Option (Int × (List ((Fin 4 → Int) × Int))))) : G_ringref5_Orders_1_h_L1_R → PS
  | .x0 v_n543 v_w544 => ⟨(dd :: .ref 3 0 :: dd :: .ref 6 0 :: dd :: .d (.v (.int .i64 v_n543)) :: (dds 35 [])), [.gh 0 (.ref 3 0), .gh 1 (.ref 5 0), .gh 2 (.srf 4), .box [.srf 4], .cu (mapC (fun x : (Fin 4 → Int) => Value.agg (kc_t35 x).toArray) (fun x : Int => Value.int .i64 x) v_w544) [], .box [.clo 18 [.ref 3 0, .ref 5 0]], .box [.d (.v (.int .i64 (v_l522 0))), .d (.v (.int .i64 (v_l522 1))), .d (.v (.int .i64 (v_l522 2))), .d (.v (.int .i64 (v_l522 3)))]]⟩
def G_ringref5_Orders_1_h_L1_hd (v_l522 : (Fin 4 → Int)) (v_rec531 : ((Fin 4 → Int) → (List ((Fin 4 → Int) × Int)) → Option (Int × (List ((Fin 4 → Int) × Int))))) (v_n524 : Int) (v_x525 : Int) (v_w526 : (List ((Fin 4 → Int) × Int))) : PS := ⟨(dd :: .ref 3 0 :: .ref 5 0 :: .ref 6 0 :: dd :: .d (.v (.int .i64 v_n524)) :: (dds 12 (.d (.v (.int .i64 v_x525)) :: (dds 22 [])))), [.gh 0 (.ref 3 0), .gh 1 (.ref 5 0), .gh 2 (.srf 4), .box [.srf 4], .cu (mapC (fun x : (Fin 4 → Int) => Value.agg (kc_t35 x).toArray) (fun x : Int => Value.int .i64 x) v_w526) [], .box [.clo 18 [.ref 3 0, .ref 5 0]], .box [.d (.v (.int .i64 (v_l522 0))), .d (.v (.int .i64 (v_l522 1))), .d (.v (.int .i64 (v_l522 2))), .d (.v (.int .i64 (v_l522 3)))]]⟩
def G_ringref5_Orders_1_h_L1 (n : Nat) (v_l522 : (Fin 4 → Int)) (v_rec531 : ((Fin 4 → Int) → (List ((Fin 4 → Int) × Int)) → Option (Int × (List ((Fin 4 → Int) × Int))))) : Nat → Int → Int → (List ((Fin 4 → Int) × Int)) → Option G_ringref5_Orders_1_h_L1_R
  | 0, _, _, _ => none
  | k + 1, v_n524, v_x525, v_w526 =>
    if v_x525 < 4 then
     if 0 ≤ v_x525 ∧ v_x525 < (4 : Int) then
      (getA v_l522 v_x525).bind fun (v_y536 : Int) =>
      if v_y536 > 0 then
       if 0 ≤ v_x525 ∧ v_x525 < (4 : Int) then
        (getA v_l522 v_x525).bind fun (v_y540 : Int) =>
        if 0 ≤ v_x525 ∧ v_x525 < (4 : Int) then
         (getA v_l522 v_x525).bind fun (v_y541 : Int) =>
         (v_rec531 (setA v_l522 v_x525 (wi .i64 (v_y540 - 1))) v_w526).bind fun (v_r542 : (Int × (List ((Fin 4 → Int) × Int)))) =>
         G_ringref5_Orders_1_h_L1 n v_l522 v_rec531 k (wi .i64 (v_n524 + v_r542.1)) (wi .i64 (v_x525 + 1)) v_r542.2
        else none
       else none
      else
       G_ringref5_Orders_1_h_L1 n v_l522 v_rec531 k v_n524 (wi .i64 (v_x525 + 1)) v_w526
     else none
    else
     some (.x0 v_n524 v_w526)
theorem G_ringref5_Orders_1_h_L1_ok {Fi : Ex → PS → Prop} (hF : KC 41 Fi) (ks : List Fr) (n : Nat) (v_l522 : (Fin 4 → Int)) (v_rec531 : ((Fin 4 → Int) → (List ((Fin 4 → Int) × Int)) → Option (Int × (List ((Fin 4 → Int) × Int))))) (v_rec531_h : ∀ (x0 : (Fin 4 → Int)) (x1 : (List ((Fin 4 → Int) × Int))) (r : Int × (List ((Fin 4 → Int) × Int))), v_rec531 x0 x1 = some r → RetH Try.prog 18 [.d ((fun x => PV.agg [.v (.int .i64 (x 0)), .v (.int .i64 (x 1)), .v (.int .i64 (x 2)), .v (.int .i64 (x 3))]) x0), .ref 0 0, .ref 1 0] [.box [.srf 2], .box [.clo 18 [.ref 0 0, .ref 1 0]], .cu (mapC (fun x : (Fin 4 → Int) => Value.agg (kc_t35 x).toArray) (fun x : Int => Value.int .i64 x) x1) []] (.d ((eI .i64) r.1)) [.box [.srf 2], .box [.clo 18 [.ref 0 0, .ref 1 0]], .cu (mapC (fun x : (Fin 4 → Int) => Value.agg (kc_t35 x).toArray) (fun x : Int => Value.int .i64 x) r.2) []]) : ∀ (k : Nat) (v_n524 : Int) (v_x525 : Int) (v_w526 : (List ((Fin 4 → Int) × Int))) (o : G_ringref5_Orders_1_h_L1_R), G_ringref5_Orders_1_h_L1 n v_l522 v_rec531 k v_n524 v_x525 v_w526 = some o → RunE Try.prog 41 Fi ks (G_ringref5_Orders_1_h_L1_ex o) (G_ringref5_Orders_1_h_L1_st v_l522 v_rec531 o) → RunE Try.prog 41 Fi (.l k (cP (cB (cR (cL (cR (cR (cR (cR (bodyOf Try.f18))))))))) :: ks) .normal (G_ringref5_Orders_1_h_L1_hd v_l522 v_rec531 v_n524 v_x525 v_w526)
  | 0, v_n524, v_x525, v_w526, o, h, q => by rw [G_ringref5_Orders_1_h_L1] at h; cases h
  | k + 1, v_n524, v_x525, v_w526, o, h, q => by
    rw [G_ringref5_Orders_1_h_L1] at h
    by_cases h299 : v_x525 < 4
    · rw [if_pos h299] at h
      by_cases h314 : 0 ≤ v_x525 ∧ v_x525 < (4 : Int)
      · rw [if_pos h314] at h
        obtain ⟨v_y536, h315, h⟩ := bind_some h
        by_cases h322 : v_y536 > 0
        · rw [if_pos h322] at h
          by_cases h323 : 0 ≤ v_x525 ∧ v_x525 < (4 : Int)
          · rw [if_pos h323] at h
            obtain ⟨v_y540, h324, h⟩ := bind_some h
            by_cases h325 : 0 ≤ v_x525 ∧ v_x525 < (4 : Int)
            · rw [if_pos h325] at h
              obtain ⟨v_y541, h326, h⟩ := bind_some h
              obtain ⟨v_r542, h327, h⟩ := bind_some h
              exact pkk_sound TTok mix hF 20 (hs := [.t true, .l (.d (.v (.int .i64 v_y536))), .t true, .c, .c, .l (.d (.v (.int .i64 v_y540))), .x [.d (.v (.int .i64 ((setA v_l522 v_x525 (wi .i64 (v_y540 - 1))) 0))), .d (.v (.int .i64 ((setA v_l522 v_x525 (wi .i64 (v_y540 - 1))) 1))), .d (.v (.int .i64 ((setA v_l522 v_x525 (wi .i64 (v_y540 - 1))) 2))), .d (.v (.int .i64 ((setA v_l522 v_x525 (wi .i64 (v_y540 - 1))) 3)))], .c, .c, .c, .h [3, 5, 4] [] [.box [.srf 2], .box [.clo 18 [.ref 0 0, .ref 1 0]], .cu (mapC (fun x : (Fin 4 → Int) => Value.agg (kc_t35 x).toArray) (fun x : Int => Value.int .i64 x) v_r542.2) []] (.d (.v (.int .i64 v_r542.1)))]) (ts := []) (s := [0, 1, 2, 3, 4, 5, 6]) (l := [1, 2, 3, 5, 18]) (by kernel_rfl) (by kernel_rfl) (.cons (dt h299) (.cons h314 (.cons (arr_cell (γ := FV) (sz := 1) (g := (fun x => [.d (.v (.int .i64 x))])) (pre := []) (post := []) (o := 0) (fun _ => rfl) h315 rfl) (.cons (dt h322) (.cons (show 0 + 4 ≤ 4 by decide) (.cons h323 (.cons (arr_cell (γ := FV) (sz := 1) (g := (fun x => [.d (.v (.int .i64 x))])) (pre := []) (post := []) (o := 0) (fun _ => rfl) h324 rfl) (.cons h325 (.cons (arr_store (γ := FV) (sz := 1) (g := (fun x => [.d (.v (.int .i64 x))])) (pre := []) (post := []) (o := 0) (y := (wi .i64 (v_y540 - 1))) (zs := [.d (.v (.int .i64 (wi .i64 (v_y540 - 1))))]) (fun _ => rfl) h326 rfl (Nat.le_of_ble_eq_true rfl)).1 (.cons (arr_store (γ := FV) (sz := 1) (g := (fun x => [.d (.v (.int .i64 x))])) (pre := []) (post := []) (o := 0) (y := (wi .i64 (v_y540 - 1))) (zs := [.d (.v (.int .i64 (wi .i64 (v_y540 - 1))))]) (fun _ => rfl) h326 rfl (Nat.le_of_ble_eq_true rfl)).2 (.cons (v_rec531_h (setA v_l522 v_x525 (wi .i64 (v_y540 - 1))) v_w526 _ h327) .nil))))))))))) (G_ringref5_Orders_1_h_L1_ok hF ks n v_l522 v_rec531 v_rec531_h k (wi .i64 (v_n524 + v_r542.1)) (wi .i64 (v_x525 + 1)) v_r542.2 _ h q)
            · rw [if_neg h325] at h; cases h
          · rw [if_neg h323] at h; cases h
        · rw [if_neg h322] at h
          exact pkk_sound TTok mix hF 16 (hs := [.t true, .l (.d (.v (.int .i64 v_y536))), .t false]) (ts := []) (s := [0, 1, 2, 3, 4, 5, 6]) (l := [1, 2, 3, 5, 18]) (by kernel_rfl) (by kernel_rfl) (.cons (dt h299) (.cons h314 (.cons (arr_cell (γ := FV) (sz := 1) (g := (fun x => [.d (.v (.int .i64 x))])) (pre := []) (post := []) (o := 0) (fun _ => rfl) h315 rfl) (.cons (df h322) .nil)))) (G_ringref5_Orders_1_h_L1_ok hF ks n v_l522 v_rec531 v_rec531_h k v_n524 (wi .i64 (v_x525 + 1)) v_w526 _ h q)
      · rw [if_neg h314] at h; cases h
    · rw [if_neg h299] at h
      cases h
      exact pkk_sound TTok mix hF 8 (hs := [.t false]) (ts := []) (s := [0, 1, 2, 3, 4, 5, 6]) (l := [1, 3, 5]) (by kernel_rfl) (by kernel_rfl) (.cons (df h299) .nil) q
/- ringhall/ringref5.Orders$1 -/
def G_ringref5_Orders_1_h : Nat → (Fin 4 → Int) → (List ((Fin 4 → Int) × Int)) → Option (Int × (List ((Fin 4 → Int) × Int)))
  | 0, _, _ => none
  | n + 1, v_l522, v_D523 =>
  if (eqRes .eql (eqA_4_int v_l522 (fun i : Fin 4 => [0, 0, 0, 0].get i))) = true then
   some (1, v_D523)
  else
   if ((mget v_D523 v_l522).getD 0) > 0 then
    some (((mget v_D523 v_l522).getD 0), v_D523)
   else
    (G_ringref5_Orders_1_h_L1 n v_l522 (fun x0 x1 => G_ringref5_Orders_1_h n x0 x1) n 0 0 v_D523).bind fun v_o545 => match v_o545 with
    | .x0 v_z546 v_z547 =>
      some (v_z546, (mput v_z547 v_l522 v_z546))
theorem G_ringref5_Orders_1_h_ok : ∀ (n : Nat) (v_l522 : (Fin 4 → Int)) (v_D523 : (List ((Fin 4 → Int) × Int))) (r : Int × (List ((Fin 4 → Int) × Int))) (h : G_ringref5_Orders_1_h n v_l522 v_D523 = some r), RetH Try.prog 18 [.d ((fun x => PV.agg [.v (.int .i64 (x 0)), .v (.int .i64 (x 1)), .v (.int .i64 (x 2)), .v (.int .i64 (x 3))]) v_l522), .ref 0 0, .ref 1 0] [.box [.srf 2], .box [.clo 18 [.ref 0 0, .ref 1 0]], .cu (mapC (fun x : (Fin 4 → Int) => Value.agg (kc_t35 x).toArray) (fun x : Int => Value.int .i64 x) v_D523) []] (.d ((eI .i64) r.1)) [.box [.srf 2], .box [.clo 18 [.ref 0 0, .ref 1 0]], .cu (mapC (fun x : (Fin 4 → Int) => Value.agg (kc_t35 x).toArray) (fun x : Int => Value.int .i64 x) r.2) []]
  | 0, v_l522, v_D523, r, h => by rw [G_ringref5_Orders_1_h] at h; cases h
  | n + 1, v_l522, v_D523, r, h => by
    refine retH_run (n := 41) (fn := Try.f18) (c := bodyOf Try.f18) (by kernel_rfl) (by kernel_rfl) (by kernel_rfl) (by kernel_rfl) ?_
    have hF : KC 41 (FinH Try.prog Try.f18 [.box [.srf 2], .box [.clo 18 [.ref 0 0, .ref 1 0]], .cu (mapC (fun x : (Fin 4 → Int) => Value.agg (kc_t35 x).toArray) (fun x : Int => Value.int .i64 x) v_D523) []] (.d ((eI .i64) r.1)) [.box [.srf 2], .box [.clo 18 [.ref 0 0, .ref 1 0]], .cu (mapC (fun x : (Fin 4 → Int) => Value.agg (kc_t35 x).toArray) (fun x : Int => Value.int .i64 x) r.2) []]) := FinH.kc' (by kernel_rfl)
    rw [G_ringref5_Orders_1_h] at h
    by_cases h296 : (eqRes .eql (eqA_4_int v_l522 (fun i : Fin 4 => [0, 0, 0, 0].get i))) = true
    · rw [if_pos h296] at h
      obtain rfl := Option.some.inj h
      exact pendH_sound TTok mix 10 (hs := [.c, .q (eqA_4_int v_l522 (fun i : Fin 4 => [0, 0, 0, 0].get i)), .t true]) [0, 1, 2] (by kernel_rfl) (by kernel_rfl) (by kernel_rfl) (.cons (eqA_4_int_ok v_l522 (fun i : Fin 4 => [0, 0, 0, 0].get i)) (.cons h296 .nil))
    · rw [if_neg h296] at h
      by_cases h298 : ((mget v_D523 v_l522).getD 0) > 0
      · rw [if_pos h298] at h
        obtain rfl := Option.some.inj h
        exact pendH_sound TTok mix 15 (hs := [.c, .q (eqA_4_int v_l522 (fun i : Fin 4 => [0, 0, 0, 0].get i)), .t false, .c, .c, .e 41 [2] (.d (.v (.int .i64 ((mget v_D523 v_l522).getD 0)))) [], .t true, .c, .c, .e 61 [2] (.d (.v (.int .i64 ((mget v_D523 v_l522).getD 0)))) []]) [0, 1, 2] (by kernel_rfl) (by kernel_rfl) (by kernel_rfl) (.cons (eqA_4_int_ok v_l522 (fun i : Fin 4 => [0, 0, 0, 0].get i)) (.cons (vf h296) (.cons (ylook (P := Try.prog) (T := TT) (t := 38) (kt := 35) (et := 3) (l := 2) (x := (.tmp 11)) (y := (.tmp 12)) (f := (fun x : (Fin 4 → Int) => Value.agg (kc_t35 x).toArray)) (g := (fun x : Int => Value.int .i64 x)) (E := v_D523) (k := v_l522) (z := 0) (kv_agg (kc_t35 v_l522)) false (by kernel_rfl) kw_t35 (fun w => by kernel_rfl) (fun _ => rfl) rfl) (.cons (dt h298) (.cons (ylook (P := Try.prog) (T := TT) (t := 38) (kt := 35) (et := 3) (l := 2) (x := (.tmp 15)) (y := (.tmp 16)) (f := (fun x : (Fin 4 → Int) => Value.agg (kc_t35 x).toArray)) (g := (fun x : Int => Value.int .i64 x)) (E := v_D523) (k := v_l522) (z := 0) (kv_agg (kc_t35 v_l522)) false (by kernel_rfl) kw_t35 (fun w => by kernel_rfl) (fun _ => rfl) rfl) .nil)))))
      · rw [if_neg h298] at h
        obtain ⟨v_o545, h328, h⟩ := bind_some h
        refine pkk_sound TTok mix hF 19 (hs := [.c, .q (eqA_4_int v_l522 (fun i : Fin 4 => [0, 0, 0, 0].get i)), .t false, .c, .c, .e 41 [2] (.d (.v (.int .i64 ((mget v_D523 v_l522).getD 0)))) [], .t false, .n n]) (ts := []) (s := [3, 4, 5, 0, 2, 1, 6]) (l := [1, 2, 3, 5, 18]) (by kernel_rfl) (by kernel_rfl) (.cons (eqA_4_int_ok v_l522 (fun i : Fin 4 => [0, 0, 0, 0].get i)) (.cons (vf h296) (.cons (ylook (P := Try.prog) (T := TT) (t := 38) (kt := 35) (et := 3) (l := 2) (x := (.tmp 11)) (y := (.tmp 12)) (f := (fun x : (Fin 4 → Int) => Value.agg (kc_t35 x).toArray)) (g := (fun x : Int => Value.int .i64 x)) (E := v_D523) (k := v_l522) (z := 0) (kv_agg (kc_t35 v_l522)) false (by kernel_rfl) kw_t35 (fun w => by kernel_rfl) (fun _ => rfl) rfl) (.cons (df h298) .nil)))) (G_ringref5_Orders_1_h_L1_ok hF (.b 0 :: .s (cR (cR (cR (cR (cR (bodyOf Try.f18)))))) :: []) n v_l522 (fun x0 x1 => G_ringref5_Orders_1_h n x0 x1) (fun x0 x1 r h => G_ringref5_Orders_1_h_ok n x0 x1 r h) n 0 0 v_D523 _ h328 ?_)
        cases v_o545 with
        | x0 v_z546 v_z547 =>
          try dsimp only at h
          obtain rfl := Option.some.inj h
          exact pendH_sound TTok mix 6 (hs := [.c, .c, .e 22 [4] (dd) [(4, .cu (mapC (fun x : (Fin 4 → Int) => Value.agg (kc_t35 x).toArray) (fun x : Int => Value.int .i64 x) (mput v_z547 v_l522 v_z546)) [])]]) [3, 5, 4] (by kernel_rfl) (by kernel_rfl) (by kernel_rfl) (.cons (yput (P := Try.prog) (T := TT) (t := 38) (kt := 35) (et := 3) (l := 4) (x := (.tmp 37)) (y := (.tmp 38)) (z := (.tmp 39)) (f := (fun x : (Fin 4 → Int) => Value.agg (kc_t35 x).toArray)) (g := (fun x : Int => Value.int .i64 x)) (E := v_z547) (k := v_l522) (v := v_z546) (kv_agg (kc_t35 v_l522)) (by kernel_rfl) kw_t35) .nil)
/- ringhall/ringref5.Orders -/
def G_ringref5_Orders (n : Nat) (v_a518 : Int) (v_b519 : Int) (v_c520 : Int) (v_d521 : Int) : Option (Int) :=
  (G_ringref5_Orders_1_h n (fun i : Fin 4 => [v_a518, v_b519, v_c520, v_d521].get i) ([] : (List ((Fin 4 → Int) × Int)))).bind fun (v_r548 : (Int × (List ((Fin 4 → Int) × Int)))) =>
  some v_r548.1
theorem G_ringref5_Orders_ok (n : Nat) (v_a518 : Int) (v_b519 : Int) (v_c520 : Int) (v_d521 : Int) (r : Int) (h : G_ringref5_Orders n v_a518 v_b519 v_c520 v_d521 = some r) : Ret Try.prog 16 [(eI .i64) v_a518, (eI .i64) v_b519, (eI .i64) v_c520, (eI .i64) v_d521] ((eI .i64) r) := by
  refine ret_run (n := 20) (fn := Try.f16) (c := bodyOf Try.f16) (by kernel_rfl) (by kernel_rfl) (by kernel_rfl) (by kernel_rfl) ?_
  have hF : KC 20 (FinR Try.prog Try.f16 ((eI .i64) r)) := FinR.kc' (by kernel_rfl)
  unfold G_ringref5_Orders at h
  obtain ⟨v_r548, h329, h⟩ := bind_some h
  obtain rfl := Option.some.inj h
  exact pend_sound TTok mix 11 (hs := [.e 5 [5] (.srf 5) [(5, .cu (mapC (fun x : (Fin 4 → Int) => Value.agg (kc_t35 x).toArray) (fun x : Int => Value.int .i64 x) ([] : (List ((Fin 4 → Int) × Int)))) [])], .c, .c, .c, .h [10, 20, 5] [] [.box [.srf 2], .box [.clo 18 [.ref 0 0, .ref 1 0]], .cu (mapC (fun x : (Fin 4 → Int) => Value.agg (kc_t35 x).toArray) (fun x : Int => Value.int .i64 x) v_r548.2) []] (.d (.v (.int .i64 v_r548.1)))]) (by kernel_rfl) (by kernel_rfl) (by kernel_rfl) (.cons (ymake (P := Try.prog) (T := TT) (t := 38) (nl := 5) (fun x : (Fin 4 → Int) => Value.agg (kc_t35 x).toArray) (fun x : Int => Value.int .i64 x)) (.cons (show 0 + 1 ≤ 1 by decide) (.cons (show 0 + 1 ≤ 1 by decide) (.cons (G_ringref5_Orders_1_h_ok n (fun i : Fin 4 => [v_a518, v_b519, v_c520, v_d521].get i) ([] : (List ((Fin 4 → Int) × Int))) _ h329) .nil))))
inductive G_ringref5_OrderRank_L1_R where
  | x0 (v_b492 : (Fin 4 → Int))
def G_ringref5_OrderRank_L1_ex : G_ringref5_OrderRank_L1_R → Ex
  | .x0 _ => .exit 0
def G_ringref5_OrderRank_L1_st (v_order466 : (List Int)) : G_ringref5_OrderRank_L1_R → PS
  | .x0 v_b492 => ⟨(.d (.sl (v_order466.map (eI .i64))) :: dd :: dd :: .ref 0 0 :: (dds 53 [])), [.box [.d (.v (.int .i64 (v_b492 0))), .d (.v (.int .i64 (v_b492 1))), .d (.v (.int .i64 (v_b492 2))), .d (.v (.int .i64 (v_b492 3)))]]⟩
def G_ringref5_OrderRank_L1_hd (v_order466 : (List Int)) (v_x483 : Int) (v_b484 : (Fin 4 → Int)) : PS := ⟨(.d (.sl (v_order466.map (eI .i64))) :: dd :: dd :: .ref 0 0 :: (dds 8 (.d (.sl (v_order466.map (eI .i64))) :: .d (.v (.int .i64 (v_order466.length : Int))) :: .d (.v (.int .i64 v_x483)) :: (dds 42 [])))), [.box [.d (.v (.int .i64 (v_b484 0))), .d (.v (.int .i64 (v_b484 1))), .d (.v (.int .i64 (v_b484 2))), .d (.v (.int .i64 (v_b484 3)))]]⟩
def G_ringref5_OrderRank_L1 (n : Nat) (v_order466 : (List Int)) : Nat → Int → (Fin 4 → Int) → Option G_ringref5_OrderRank_L1_R
  | 0, _, _ => none
  | k + 1, v_x483, v_b484 =>
    if v_x483 < (v_order466.length : Int) then
     (getI v_order466 v_x483).bind fun (v_y489 : Int) =>
     if 0 ≤ v_y489 ∧ v_y489 < (4 : Int) then
      (getA v_b484 v_y489).bind fun (v_y490 : Int) =>
      if 0 ≤ v_y489 ∧ v_y489 < (4 : Int) then
       (getA v_b484 v_y489).bind fun (v_y491 : Int) =>
       G_ringref5_OrderRank_L1 n v_order466 k (wi .i64 (v_x483 + 1)) (setA v_b484 v_y489 (wi .i64 (v_y490 + 1)))
      else none
     else none
    else
     some (.x0 v_b484)
theorem G_ringref5_OrderRank_L1_ok {Fi : Ex → PS → Prop} (hF : KC 57 Fi) (ks : List Fr) (n : Nat) (v_order466 : (List Int))  : ∀ (k : Nat) (v_x483 : Int) (v_b484 : (Fin 4 → Int)) (o : G_ringref5_OrderRank_L1_R), G_ringref5_OrderRank_L1 n v_order466 k v_x483 v_b484 = some o → RunE Try.prog 57 Fi ks (G_ringref5_OrderRank_L1_ex o) (G_ringref5_OrderRank_L1_st v_order466 o) → RunE Try.prog 57 Fi (.l k (cP (cB (cR (cL (cR (cR (cR (bodyOf Try.f9)))))))) :: ks) .normal (G_ringref5_OrderRank_L1_hd v_order466 v_x483 v_b484)
  | 0, v_x483, v_b484, o, h, q => by rw [G_ringref5_OrderRank_L1] at h; cases h
  | k + 1, v_x483, v_b484, o, h, q => by
    rw [G_ringref5_OrderRank_L1] at h
    by_cases h275 : v_x483 < (v_order466.length : Int)
    · rw [if_pos h275] at h
      obtain ⟨v_y489, h281, h⟩ := bind_some h
      by_cases h282 : 0 ≤ v_y489 ∧ v_y489 < (4 : Int)
      · rw [if_pos h282] at h
        obtain ⟨v_y490, h283, h⟩ := bind_some h
        by_cases h284 : 0 ≤ v_y489 ∧ v_y489 < (4 : Int)
        · rw [if_pos h284] at h
          obtain ⟨v_y491, h285, h⟩ := bind_some h
          exact pkk_sound TTok mix hF 13 (hs := [.t true, .y ((eI .i64) v_y489), .c, .l (.d (.v (.int .i64 v_y490))), .x [.d (.v (.int .i64 ((setA v_b484 v_y489 (wi .i64 (v_y490 + 1))) 0))), .d (.v (.int .i64 ((setA v_b484 v_y489 (wi .i64 (v_y490 + 1))) 1))), .d (.v (.int .i64 ((setA v_b484 v_y489 (wi .i64 (v_y490 + 1))) 2))), .d (.v (.int .i64 ((setA v_b484 v_y489 (wi .i64 (v_y490 + 1))) 3)))], .c]) (ts := []) (s := [0]) (l := [0, 3, 12, 13, 14]) (by kernel_rfl) (by kernel_rfl) (.cons (dt h275) (.cons (getI_ob (f := (eI .i64)) h281) (.cons h282 (.cons (arr_cell (γ := FV) (sz := 1) (g := (fun x => [.d (.v (.int .i64 x))])) (pre := []) (post := []) (o := 0) (fun _ => rfl) h283 rfl) (.cons h284 (.cons (arr_store (γ := FV) (sz := 1) (g := (fun x => [.d (.v (.int .i64 x))])) (pre := []) (post := []) (o := 0) (y := (wi .i64 (v_y490 + 1))) (zs := [.d (.v (.int .i64 (wi .i64 (v_y490 + 1))))]) (fun _ => rfl) h285 rfl (Nat.le_of_ble_eq_true rfl)).1 (.cons (arr_store (γ := FV) (sz := 1) (g := (fun x => [.d (.v (.int .i64 x))])) (pre := []) (post := []) (o := 0) (y := (wi .i64 (v_y490 + 1))) (zs := [.d (.v (.int .i64 (wi .i64 (v_y490 + 1))))]) (fun _ => rfl) h285 rfl (Nat.le_of_ble_eq_true rfl)).2 .nil))))))) (G_ringref5_OrderRank_L1_ok hF ks n v_order466 k (wi .i64 (v_x483 + 1)) (setA v_b484 v_y489 (wi .i64 (v_y490 + 1))) _ h q)
        · rw [if_neg h284] at h; cases h
      · rw [if_neg h282] at h; cases h
    · rw [if_neg h275] at h
      cases h
      exact pkk_sound TTok mix hF 8 (hs := [.t false]) (ts := []) (s := [0]) (l := [0, 3]) (by kernel_rfl) (by kernel_rfl) (.cons (df h275) .nil) q
inductive G_ringref5_OrderRank_L2_R where
  | x0 (v_n560 : Int)
def G_ringref5_OrderRank_L2_ex : G_ringref5_OrderRank_L2_R → Ex
  | .x0 _ => .exit 2
def G_ringref5_OrderRank_L2_st (v_order466 : (List Int)) (v_y503 : Int) (v_z494 : (Fin 4 → Int)) : G_ringref5_OrderRank_L2_R → PS
  | .x0 v_n560 => ⟨(.d (.sl (v_order466.map (eI .i64))) :: dd :: dd :: dd :: dd :: dd :: .d (.v (.int .i64 v_n560)) :: (dds 50 [])), []⟩
def G_ringref5_OrderRank_L2_hd (v_order466 : (List Int)) (v_y503 : Int) (v_z494 : (Fin 4 → Int)) (v_n512 : Int) (v_x513 : Int) : PS := ⟨(.d (.sl (v_order466.map (eI .i64))) :: dd :: dd :: .ref 0 0 :: dd :: dd :: .d (.v (.int .i64 v_n512)) :: (dds 19 (.d (.v (.int .i64 v_y503)) :: .d (.v (.int .i64 v_x513)) :: (dds 29 [])))), [.box [.d (.v (.int .i64 (v_z494 0))), .d (.v (.int .i64 (v_z494 1))), .d (.v (.int .i64 (v_z494 2))), .d (.v (.int .i64 (v_z494 3)))]]⟩
def G_ringref5_OrderRank_L2 (n : Nat) (v_order466 : (List Int)) (v_y503 : Int) (v_z494 : (Fin 4 → Int)) : Nat → Int → Int → Option G_ringref5_OrderRank_L2_R
  | 0, _, _ => none
  | k + 1, v_n512, v_x513 =>
    if v_x513 < v_y503 then
     if 0 ≤ v_x513 ∧ v_x513 < (4 : Int) then
      (getA v_z494 v_x513).bind fun (v_y553 : Int) =>
      if v_y553 > 0 then
       if 0 ≤ v_x513 ∧ v_x513 < (4 : Int) then
        (getA v_z494 v_x513).bind fun (v_y557 : Int) =>
        if 0 ≤ v_x513 ∧ v_x513 < (4 : Int) then
         (getA v_z494 v_x513).bind fun (v_y558 : Int) =>
         (G_ringref5_Orders n ((setA v_z494 v_x513 (wi .i64 (v_y557 - 1))) 0) ((setA v_z494 v_x513 (wi .i64 (v_y557 - 1))) 1) ((setA v_z494 v_x513 (wi .i64 (v_y557 - 1))) 2) ((setA v_z494 v_x513 (wi .i64 (v_y557 - 1))) 3)).bind fun (v_r559 : (Int)) =>
         G_ringref5_OrderRank_L2 n v_order466 v_y503 v_z494 k (wi .i64 (v_n512 + v_r559)) (wi .i64 (v_x513 + 1))
        else none
       else none
      else
       G_ringref5_OrderRank_L2 n v_order466 v_y503 v_z494 k v_n512 (wi .i64 (v_x513 + 1))
     else none
    else
     some (.x0 v_n512)
theorem G_ringref5_OrderRank_L2_ok {Fi : Ex → PS → Prop} (hF : KC 57 Fi) (ks : List Fr) (n : Nat) (v_order466 : (List Int)) (v_y503 : Int) (v_z494 : (Fin 4 → Int))  : ∀ (k : Nat) (v_n512 : Int) (v_x513 : Int) (o : G_ringref5_OrderRank_L2_R), G_ringref5_OrderRank_L2 n v_order466 v_y503 v_z494 k v_n512 v_x513 = some o → RunE Try.prog 57 Fi ks (G_ringref5_OrderRank_L2_ex o) (G_ringref5_OrderRank_L2_st v_order466 v_y503 v_z494 o) → RunE Try.prog 57 Fi (.l k (cP (cB (cR (cL (cR (cR (cR (cR (cR (bodyOf Try.f9)))))))))) :: ks) .normal (G_ringref5_OrderRank_L2_hd v_order466 v_y503 v_z494 v_n512 v_x513)
  | 0, v_n512, v_x513, o, h, q => by rw [G_ringref5_OrderRank_L2] at h; cases h
  | k + 1, v_n512, v_x513, o, h, q => by
    rw [G_ringref5_OrderRank_L2] at h
    by_cases h288 : v_x513 < v_y503
    · rw [if_pos h288] at h
      by_cases h337 : 0 ≤ v_x513 ∧ v_x513 < (4 : Int)
      · rw [if_pos h337] at h
        obtain ⟨v_y553, h338, h⟩ := bind_some h
        by_cases h345 : v_y553 > 0
        · rw [if_pos h345] at h
          by_cases h346 : 0 ≤ v_x513 ∧ v_x513 < (4 : Int)
          · rw [if_pos h346] at h
            obtain ⟨v_y557, h347, h⟩ := bind_some h
            by_cases h348 : 0 ≤ v_x513 ∧ v_x513 < (4 : Int)
            · rw [if_pos h348] at h
              obtain ⟨v_y558, h349, h⟩ := bind_some h
              obtain ⟨v_r559, h350, h⟩ := bind_some h
              exact pkk_sound TTok mix hF 20 (hs := [.t true, .l (.d (.v (.int .i64 v_y553))), .t true, .c, .c, .l (.d (.v (.int .i64 v_y557))), .x [.d (.v (.int .i64 ((setA v_z494 v_x513 (wi .i64 (v_y557 - 1))) 0))), .d (.v (.int .i64 ((setA v_z494 v_x513 (wi .i64 (v_y557 - 1))) 1))), .d (.v (.int .i64 ((setA v_z494 v_x513 (wi .i64 (v_y557 - 1))) 2))), .d (.v (.int .i64 ((setA v_z494 v_x513 (wi .i64 (v_y557 - 1))) 3)))], .c, .c, .c, .c, .c, .r ((eI .i64) v_r559)]) (ts := []) (s := [0]) (l := [0, 3, 6, 26, 27]) (by kernel_rfl) (by kernel_rfl) (.cons (dt h288) (.cons h337 (.cons (arr_cell (γ := FV) (sz := 1) (g := (fun x => [.d (.v (.int .i64 x))])) (pre := []) (post := []) (o := 0) (fun _ => rfl) h338 rfl) (.cons (dt h345) (.cons (show 0 + 4 ≤ 4 by decide) (.cons h346 (.cons (arr_cell (γ := FV) (sz := 1) (g := (fun x => [.d (.v (.int .i64 x))])) (pre := []) (post := []) (o := 0) (fun _ => rfl) h347 rfl) (.cons h348 (.cons (arr_store (γ := FV) (sz := 1) (g := (fun x => [.d (.v (.int .i64 x))])) (pre := []) (post := []) (o := 0) (y := (wi .i64 (v_y557 - 1))) (zs := [.d (.v (.int .i64 (wi .i64 (v_y557 - 1))))]) (fun _ => rfl) h349 rfl (Nat.le_of_ble_eq_true rfl)).1 (.cons (arr_store (γ := FV) (sz := 1) (g := (fun x => [.d (.v (.int .i64 x))])) (pre := []) (post := []) (o := 0) (y := (wi .i64 (v_y557 - 1))) (zs := [.d (.v (.int .i64 (wi .i64 (v_y557 - 1))))]) (fun _ => rfl) h349 rfl (Nat.le_of_ble_eq_true rfl)).2 (.cons (show (0 : Int) ≤ 0 ∧ (0 : Int) < 4 by decide) (.cons (show (0 : Int) ≤ 1 ∧ (1 : Int) < 4 by decide) (.cons (show (0 : Int) ≤ 2 ∧ (2 : Int) < 4 by decide) (.cons (show (0 : Int) ≤ 3 ∧ (3 : Int) < 4 by decide) (.cons (G_ringref5_Orders_ok n ((setA v_z494 v_x513 (wi .i64 (v_y557 - 1))) 0) ((setA v_z494 v_x513 (wi .i64 (v_y557 - 1))) 1) ((setA v_z494 v_x513 (wi .i64 (v_y557 - 1))) 2) ((setA v_z494 v_x513 (wi .i64 (v_y557 - 1))) 3) _ h350) .nil))))))))))))))) (G_ringref5_OrderRank_L2_ok hF ks n v_order466 v_y503 v_z494 k (wi .i64 (v_n512 + v_r559)) (wi .i64 (v_x513 + 1)) _ h q)
            · rw [if_neg h348] at h; cases h
          · rw [if_neg h346] at h; cases h
        · rw [if_neg h345] at h
          exact pkk_sound TTok mix hF 16 (hs := [.t true, .l (.d (.v (.int .i64 v_y553))), .t false]) (ts := []) (s := [0]) (l := [0, 3, 6, 26, 27]) (by kernel_rfl) (by kernel_rfl) (.cons (dt h288) (.cons h337 (.cons (arr_cell (γ := FV) (sz := 1) (g := (fun x => [.d (.v (.int .i64 x))])) (pre := []) (post := []) (o := 0) (fun _ => rfl) h338 rfl) (.cons (df h345) .nil)))) (G_ringref5_OrderRank_L2_ok hF ks n v_order466 v_y503 v_z494 k v_n512 (wi .i64 (v_x513 + 1)) _ h q)
      · rw [if_neg h337] at h; cases h
    · rw [if_neg h288] at h
      cases h
      exact pkk_sound TTok mix hF 8 (hs := [.t false]) (ts := []) (s := []) (l := [0, 6]) (by kernel_rfl) (by kernel_rfl) (.cons (df h288) .nil) q
/- ringhall/ringref5.OrderRank -/
def G_ringref5_OrderRank : Nat → (List Int) → Option (Int)
  | 0, _ => none
  | n + 1, v_order466 =>
  if (v_order466.length : Int) = 0 then
   some 0
  else
   (G_ringref5_OrderRank_L1 n v_order466 n 0 (fun i : Fin 4 => [0, 0, 0, 0].get i)).bind fun v_o493 => match v_o493 with
   | .x0 v_z494 =>
     (getI v_order466 0).bind fun (v_y503 : Int) =>
     (G_ringref5_OrderRank_L2 n v_order466 v_y503 v_z494 n 0 0).bind fun v_o561 => match v_o561 with
     | .x0 v_z562 =>
       (sub v_order466 1 (v_order466.length : Int)).bind fun (v_s563 : (List Int)) =>
       ((G_ringref5_OrderRank n) v_s563).bind fun (v_r565 : (Int)) =>
       some (wi .i64 (v_z562 + v_r565))
theorem G_ringref5_OrderRank_ok : ∀ (n : Nat) (v_order466 : (List Int)) (r : Int) (h : G_ringref5_OrderRank n v_order466 = some r), Ret Try.prog 9 [(eL (eI .i64)) v_order466] ((eI .i64) r)
  | 0, v_order466, r, h => by rw [G_ringref5_OrderRank] at h; cases h
  | n + 1, v_order466, r, h => by
    refine ret_run (n := 57) (fn := Try.f9) (c := bodyOf Try.f9) (by kernel_rfl) (by kernel_rfl) (by kernel_rfl) (by kernel_rfl) ?_
    have hF : KC 57 (FinR Try.prog Try.f9 ((eI .i64) r)) := FinR.kc' (by kernel_rfl)
    rw [G_ringref5_OrderRank] at h
    by_cases h263 : (v_order466.length : Int) = 0
    · rw [if_pos h263] at h
      obtain rfl := Option.some.inj h
      exact pend_sound TTok mix 10 (hs := [.u (.d (.v (.int .i64 (v_order466.length : Int)))), .t true]) (by kernel_rfl) (by kernel_rfl) (by kernel_rfl) (.cons (len_ob (f := (eI .i64)) (l := v_order466)) (.cons (bt h263) .nil))
    · rw [if_neg h263] at h
      obtain ⟨v_o493, h286, h⟩ := bind_some h
      refine pkk_sound TTok mix hF 14 (hs := [.u (.d (.v (.int .i64 (v_order466.length : Int)))), .t false, .u (.d (.v (.int .i64 (v_order466.length : Int)))), .n n]) (ts := []) (s := [20]) (l := [0, 3, 12, 13, 14]) (by kernel_rfl) (by kernel_rfl) (.cons (len_ob (f := (eI .i64)) (l := v_order466)) (.cons (bf h263) (.cons (len_ob (f := (eI .i64)) (l := v_order466)) .nil))) (G_ringref5_OrderRank_L1_ok hF (.b 0 :: .s (cR (cR (cR (cR (bodyOf Try.f9))))) :: []) n v_order466 n 0 (fun i : Fin 4 => [0, 0, 0, 0].get i) _ h286 ?_)
      cases v_o493 with
      | x0 v_z494 =>
        try dsimp only at h
        obtain ⟨v_y503, h287, h⟩ := bind_some h
        obtain ⟨v_o561, h351, h⟩ := bind_some h
        refine pkk_sound TTok mix hF 8 (hs := [.y ((eI .i64) v_y503), .c, .n n]) (ts := []) (s := [0]) (l := [0, 3, 6, 26, 27]) (by kernel_rfl) (by kernel_rfl) (.cons (getI_ob (f := (eI .i64)) h287) .nil) (G_ringref5_OrderRank_L2_ok hF (.b 2 :: .s (cR (cR (cR (cR (cR (cR (bodyOf Try.f9))))))) :: []) n v_order466 v_y503 v_z494 n 0 0 _ h351 ?_)
        cases v_o561 with
        | x0 v_z562 =>
          try dsimp only at h
          obtain ⟨v_s563, h352, h⟩ := bind_some h
          obtain ⟨v_r565, h353, h⟩ := bind_some h
          obtain rfl := Option.some.inj h
          exact pend_sound TTok mix 4 (hs := [.w (v_s563.map (eI .i64)), .r ((eI .i64) v_r565)]) (by kernel_rfl) (by kernel_rfl) (by kernel_rfl) (.cons (sub_ob' (f := (eI .i64)) (s := 1) h352 (fun _ => rfl)).1 (.cons (sub_ob' (f := (eI .i64)) (s := 1) h352 (fun _ => rfl)).2.1 (.cons (sub_ob' (f := (eI .i64)) (s := 1) h352 (fun _ => rfl)).2.2.1 (.cons (sub_ob' (f := (eI .i64)) (s := 1) h352 (fun _ => rfl)).2.2.2.1 (.cons (sub_ob' (f := (eI .i64)) (s := 1) h352 (fun _ => rfl)).2.2.2.2 (.cons ((fun x0 r h => G_ringref5_OrderRank_ok n x0 r h) v_s563 _ h353) .nil))))))
inductive G_ringref5_TurnErr_L1_R where
  | x0 (v_x607 : Int)
  | x1 
def G_ringref5_TurnErr_L1_ex : G_ringref5_TurnErr_L1_R → Ex
  | .x0 _ => .ret
  | .x1  => .exit 0
def G_ringref5_TurnErr_L1_st (v_lens593 : (List Int)) : G_ringref5_TurnErr_L1_R → PS
  | .x0 v_x607 => ⟨(dd :: dd :: .d (.v (.int .i64 v_x607)) :: (dds 24 [])), []⟩
  | .x1  => ⟨(dds 27 []), []⟩
def G_ringref5_TurnErr_L1_hd (v_lens593 : (List Int)) (v_sum602 : Int) (v_x603 : Int) : PS := ⟨(dd :: dd :: dd :: .d (.v (.int .i64 v_sum602)) :: dd :: dd :: dd :: dd :: dd :: .d (.sl (v_lens593.map (eI .i64))) :: .d (.v (.int .i64 (v_lens593.length : Int))) :: .d (.v (.int .i64 v_x603)) :: (dds 15 [])), []⟩
def G_ringref5_TurnErr_L1 (n : Nat) (v_lens593 : (List Int)) : Nat → Int → Int → Option G_ringref5_TurnErr_L1_R
  | 0, _, _ => none
  | k + 1, v_sum602, v_x603 =>
    if v_x603 < (v_lens593.length : Int) then
     (getI v_lens593 v_x603).bind fun (v_y606 : Int) =>
     if v_y606 < 0 then
      some (.x0 1)
     else
      if v_y606 > 12 then
       some (.x0 1)
      else
       if (wi .i64 (v_sum602 + v_y606)) > 12 then
        some (.x0 2)
       else
        G_ringref5_TurnErr_L1 n v_lens593 k (wi .i64 (v_sum602 + v_y606)) (wi .i64 (v_x603 + 1))
    else
     some (.x1 )
theorem G_ringref5_TurnErr_L1_ok {Fi : Ex → PS → Prop} (hF : KC 27 Fi) (ks : List Fr) (n : Nat) (v_lens593 : (List Int))  : ∀ (k : Nat) (v_sum602 : Int) (v_x603 : Int) (o : G_ringref5_TurnErr_L1_R), G_ringref5_TurnErr_L1 n v_lens593 k v_sum602 v_x603 = some o → RunE Try.prog 27 Fi ks (G_ringref5_TurnErr_L1_ex o) (G_ringref5_TurnErr_L1_st v_lens593 o) → RunE Try.prog 27 Fi (.l k (cP (cB (cR (cL (cR (cR (cR (bodyOf Try.f10)))))))) :: ks) .normal (G_ringref5_TurnErr_L1_hd v_lens593 v_sum602 v_x603)
  | 0, v_sum602, v_x603, o, h, q => by rw [G_ringref5_TurnErr_L1] at h; cases h
  | k + 1, v_sum602, v_x603, o, h, q => by
    rw [G_ringref5_TurnErr_L1] at h
    by_cases h362 : v_x603 < (v_lens593.length : Int)
    · rw [if_pos h362] at h
      obtain ⟨v_y606, h367, h⟩ := bind_some h
      by_cases h368 : v_y606 < 0
      · rw [if_pos h368] at h
        cases h
        exact pkk_sound TTok mix hF 21 (hs := [.t true, .y ((eI .i64) v_y606), .c, .t true, .c, .c]) (ts := []) (s := []) (l := [2]) (by kernel_rfl) (by kernel_rfl) (.cons (dt h362) (.cons (getI_ob (f := (eI .i64)) h367) (.cons (dt h368) .nil))) q
      · rw [if_neg h368] at h
        by_cases h369 : v_y606 > 12
        · rw [if_pos h369] at h
          cases h
          exact pkk_sound TTok mix hF 21 (hs := [.t true, .y ((eI .i64) v_y606), .c, .t false, .c, .t true]) (ts := []) (s := []) (l := [2]) (by kernel_rfl) (by kernel_rfl) (.cons (dt h362) (.cons (getI_ob (f := (eI .i64)) h367) (.cons (df h368) (.cons (dt h369) .nil)))) q
        · rw [if_neg h369] at h
          by_cases h370 : (wi .i64 (v_sum602 + v_y606)) > 12
          · rw [if_pos h370] at h
            cases h
            exact pkk_sound TTok mix hF 26 (hs := [.t true, .y ((eI .i64) v_y606), .c, .t false, .c, .t false, .t true]) (ts := []) (s := []) (l := [2]) (by kernel_rfl) (by kernel_rfl) (.cons (dt h362) (.cons (getI_ob (f := (eI .i64)) h367) (.cons (df h368) (.cons (df h369) (.cons (dt h370) .nil))))) q
          · rw [if_neg h370] at h
            exact pkk_sound TTok mix hF 23 (hs := [.t true, .y ((eI .i64) v_y606), .c, .t false, .c, .t false, .t false]) (ts := []) (s := []) (l := [3, 9, 10, 11]) (by kernel_rfl) (by kernel_rfl) (.cons (dt h362) (.cons (getI_ob (f := (eI .i64)) h367) (.cons (df h368) (.cons (df h369) (.cons (df h370) .nil))))) (G_ringref5_TurnErr_L1_ok hF ks n v_lens593 k (wi .i64 (v_sum602 + v_y606)) (wi .i64 (v_x603 + 1)) _ h q)
    · rw [if_neg h362] at h
      cases h
      exact pkk_sound TTok mix hF 8 (hs := [.t false]) (ts := []) (s := []) (l := []) (by kernel_rfl) (by kernel_rfl) (.cons (df h362) .nil) q
/- ringhall/ringref5.TurnErr -/
def G_ringref5_TurnErr (n : Nat) (v_lens593 : (List Int)) : Option (Int) :=
  if (v_lens593.length : Int) > 4 then
   some 2
  else
   (G_ringref5_TurnErr_L1 n v_lens593 n 0 0).bind fun v_o610 => match v_o610 with
   | .x0 v_z611 =>
     some v_z611
   | .x1  =>
     some 0
theorem G_ringref5_TurnErr_ok (n : Nat) (v_lens593 : (List Int)) (r : Int) (h : G_ringref5_TurnErr n v_lens593 = some r) : Ret Try.prog 10 [(eL (eI .i64)) v_lens593] ((eI .i64) r) := by
  refine ret_run (n := 27) (fn := Try.f10) (c := bodyOf Try.f10) (by kernel_rfl) (by kernel_rfl) (by kernel_rfl) (by kernel_rfl) ?_
  have hF : KC 27 (FinR Try.prog Try.f10 ((eI .i64) r)) := FinR.kc' (by kernel_rfl)
  unfold G_ringref5_TurnErr at h
  by_cases h361 : (v_lens593.length : Int) > 4
  · rw [if_pos h361] at h
    obtain rfl := Option.some.inj h
    exact pend_sound TTok mix 10 (hs := [.u (.d (.v (.int .i64 (v_lens593.length : Int)))), .t true]) (by kernel_rfl) (by kernel_rfl) (by kernel_rfl) (.cons (len_ob (f := (eI .i64)) (l := v_lens593)) (.cons (dt h361) .nil))
  · rw [if_neg h361] at h
    obtain ⟨v_o610, h371, h⟩ := bind_some h
    refine pkk_sound TTok mix hF 14 (hs := [.u (.d (.v (.int .i64 (v_lens593.length : Int)))), .t false, .u (.d (.v (.int .i64 (v_lens593.length : Int)))), .n n]) (ts := []) (s := []) (l := [3, 9, 10, 11]) (by kernel_rfl) (by kernel_rfl) (.cons (len_ob (f := (eI .i64)) (l := v_lens593)) (.cons (df h361) (.cons (len_ob (f := (eI .i64)) (l := v_lens593)) .nil))) (G_ringref5_TurnErr_L1_ok hF (.b 0 :: .s (cR (cR (cR (cR (bodyOf Try.f10))))) :: []) n v_lens593 n 0 0 _ h371 ?_)
    cases v_o610 with
    | x0 v_z611 =>
      try dsimp only at h
      obtain rfl := Option.some.inj h
      exact pend_sound TTok mix 2 (hs := []) (by kernel_rfl) (by kernel_rfl) (by kernel_rfl) .nil
    | x1  =>
      try dsimp only at h
      obtain rfl := Option.some.inj h
      exact pend_sound TTok mix 4 (hs := []) (by kernel_rfl) (by kernel_rfl) (by kernel_rfl) .nil
/- ringhall/ringref5.four -/
def G_ringref5_four (n : Nat) (v_l704 : (List Int)) : Option ((Fin 4 → Int)) :=
  some (cpA (fun i : Fin 4 => [0, 0, 0, 0].get i) v_l704)
theorem G_ringref5_four_ok (n : Nat) (v_l704 : (List Int)) (r : (Fin 4 → Int)) (h : G_ringref5_four n v_l704 = some r) : Ret Try.prog 17 [(eL (eI .i64)) v_l704] ((fun x => PV.agg [.v (.int .i64 (x 0)), .v (.int .i64 (x 1)), .v (.int .i64 (x 2)), .v (.int .i64 (x 3))]) r) := by
  refine ret_run (n := 8) (fn := Try.f17) (c := bodyOf Try.f17) (by kernel_rfl) (by kernel_rfl) (by kernel_rfl) (by kernel_rfl) ?_
  have hF : KC 8 (FinR Try.prog Try.f17 ((fun x => PV.agg [.v (.int .i64 (x 0)), .v (.int .i64 (x 1)), .v (.int .i64 (x 2)), .v (.int .i64 (x 3))]) r)) := FinR.kc' (by kernel_rfl)
  unfold G_ringref5_four at h
  obtain rfl := Option.some.inj h
  exact pend_sound TTok mix 9 (hs := [.c, .e 20 [5] (.d (.v (.int .i64 ((Nat.min (v_l704.map (eI .i64)).length 4 : Nat) : Int)))) [(5, .box [.d (.v (.int .i64 ((cpA (fun i : Fin 4 => [0, 0, 0, 0].get i) v_l704) 0))), .d (.v (.int .i64 ((cpA (fun i : Fin 4 => [0, 0, 0, 0].get i) v_l704) 1))), .d (.v (.int .i64 ((cpA (fun i : Fin 4 => [0, 0, 0, 0].get i) v_l704) 2))), .d (.v (.int .i64 ((cpA (fun i : Fin 4 => [0, 0, 0, 0].get i) v_l704) 3)))])], .c, .c]) (by kernel_rfl) (by kernel_rfl) (by kernel_rfl) (.cons (show (0 : Int) ≤ 0 by decide) (.cons (show (0 : Int) ≤ 4 by decide) (.cons (show (4 : Int) ≤ 4 by decide) (.cons (show (0 : Int) < 4 by decide) (.cons (xcpA (P := Try.prog) (T := TT) (t := 22) (t' := 22) (e := 3) (l := 5) (k := 4) (c := 4) (ti := ⟨1, 8, .int .i64, [.i .i64]⟩) (cs := [.d (.v (.int .i64 0)), .d (.v (.int .i64 0)), .d (.v (.int .i64 0)), .d (.v (.int .i64 0))]) (cs' := [.d (.v (.int .i64 ((cpA (fun i : Fin 4 => [0, 0, 0, 0].get i) v_l704) 0))), .d (.v (.int .i64 ((cpA (fun i : Fin 4 => [0, 0, 0, 0].get i) v_l704) 1))), .d (.v (.int .i64 ((cpA (fun i : Fin 4 => [0, 0, 0, 0].get i) v_l704) 2))), .d (.v (.int .i64 ((cpA (fun i : Fin 4 => [0, 0, 0, 0].get i) v_l704) 3)))]) (ys := (v_l704.map (eI .i64))) (x := (.tmp 4)) (y := (.tmp 5)) (by kernel_rfl) (by kernel_rfl) (by rfl) (all_isV (fun _ => rfl)) (all_fits (fun _ => rfl)) (cpA_ob (A := (fun i : Fin 4 => [0, 0, 0, 0].get i)) (Y := v_l704) (eI .i64))) (.cons (show 0 + 4 ≤ 4 by decide) .nil))))))
/- ringhall/ringref5.OrdersOf -/
def G_ringref5_OrdersOf (n : Nat) (v_lens703 : (List Int)) : Option (Int) :=
  (G_ringref5_four n v_lens703).bind fun (v_r705 : ((Fin 4 → Int))) =>
  (G_ringref5_Orders n (v_r705 0) (v_r705 1) (v_r705 2) (v_r705 3)).bind fun (v_r706 : (Int)) =>
  some v_r706
theorem G_ringref5_OrdersOf_ok (n : Nat) (v_lens703 : (List Int)) (r : Int) (h : G_ringref5_OrdersOf n v_lens703 = some r) : Ret Try.prog 12 [(eL (eI .i64)) v_lens703] ((eI .i64) r) := by
  refine ret_run (n := 15) (fn := Try.f12) (c := bodyOf Try.f12) (by kernel_rfl) (by kernel_rfl) (by kernel_rfl) (by kernel_rfl) ?_
  have hF : KC 15 (FinR Try.prog Try.f12 ((eI .i64) r)) := FinR.kc' (by kernel_rfl)
  unfold G_ringref5_OrdersOf at h
  obtain ⟨v_r705, h392, h⟩ := bind_some h
  obtain ⟨v_r706, h393, h⟩ := bind_some h
  obtain rfl := Option.some.inj h
  exact pend_sound TTok mix 7 (hs := [.r ((fun x => PV.agg [.v (.int .i64 (x 0)), .v (.int .i64 (x 1)), .v (.int .i64 (x 2)), .v (.int .i64 (x 3))]) v_r705), .c, .c, .c, .c, .c, .r ((eI .i64) v_r706)]) (by kernel_rfl) (by kernel_rfl) (by kernel_rfl) (.cons (G_ringref5_four_ok n v_lens703 _ h392) (.cons (show 0 + 4 ≤ 4 by decide) (.cons (show (0 : Int) ≤ 0 ∧ (0 : Int) < 4 by decide) (.cons (show (0 : Int) ≤ 1 ∧ (1 : Int) < 4 by decide) (.cons (show (0 : Int) ≤ 2 ∧ (2 : Int) < 4 by decide) (.cons (show (0 : Int) ≤ 3 ∧ (3 : Int) < 4 by decide) (.cons (G_ringref5_Orders_ok n (v_r705 0) (v_r705 1) (v_r705 2) (v_r705 3) _ h393) .nil)))))))
inductive G_ringlaw5_TurnSays_C1_R where
  | x0 (v_want1198 : Int)
def G_ringlaw5_TurnSays_C1_ex : G_ringlaw5_TurnSays_C1_R → Ex
  | .x0 _ => .normal
def G_ringlaw5_TurnSays_C1_st (v_lens1 : (List Int)) (v_k2 : Int) (v_order3 : (List Int)) (v_r1141 : (Int × Int)) (v_r1146 : ((List Int) × Int)) (v_r1155 : (Int × Int)) : G_ringlaw5_TurnSays_C1_R → PS
  | .x0 v_want1198 => ⟨(.d (.sl (v_lens1.map (eI .i64))) :: .d (.v (.int .i64 v_k2)) :: .d (.sl (v_order3.map (eI .i64))) :: dd :: dd :: dd :: dd :: .d (.v (.int .i64 v_r1141.1)) :: .d (.v (.int .i64 v_r1141.2)) :: .d (.sl (v_r1146.1.map (eI .i64))) :: .d (.v (.int .i64 v_r1146.2)) :: .d (.v (.int .i64 v_r1155.1)) :: .d (.v (.int .i64 v_r1155.2)) :: .d (.v (.int .i64 v_want1198)) :: (dds 144 [])), []⟩
def G_ringlaw5_TurnSays_C1_hd (v_lens1 : (List Int)) (v_k2 : Int) (v_order3 : (List Int)) (v_r1141 : (Int × Int)) (v_r1146 : ((List Int) × Int)) (v_r1155 : (Int × Int))  : PS := ⟨(.d (.sl (v_lens1.map (eI .i64))) :: .d (.v (.int .i64 v_k2)) :: .d (.sl (v_order3.map (eI .i64))) :: dd :: dd :: dd :: dd :: .d (.v (.int .i64 v_r1141.1)) :: .d (.v (.int .i64 v_r1141.2)) :: .d (.sl (v_r1146.1.map (eI .i64))) :: .d (.v (.int .i64 v_r1146.2)) :: .d (.v (.int .i64 v_r1155.1)) :: .d (.v (.int .i64 v_r1155.2)) :: .d (.v (.int .i64 0)) :: (dds 26 (.d (.v (.bool (decide ((v_order3.length : Int) > 12)))) :: (dds 117 [])))), []⟩
def G_ringlaw5_TurnSays_C1 (n : Nat) (v_lens1 : (List Int)) (v_k2 : Int) (v_order3 : (List Int)) (v_r1141 : (Int × Int)) (v_r1146 : ((List Int) × Int)) (v_r1155 : (Int × Int)) : Option G_ringlaw5_TurnSays_C1_R :=
  if (v_order3.length : Int) > 12 then
   some (.x0 2)
  else
   (G_slices_ContainsFunc_int_int n v_order3 (fun (y0 : Int) => G_ringlaw5_TurnSays_1 n y0)).bind fun (v_r1199 : (Bool)) =>
   if v_r1199 = true then
    some (.x0 1)
   else
    some (.x0 0)
theorem G_ringlaw5_TurnSays_C1_ok {Fi : Ex → PS → Prop} (hF : KC 158 Fi) (ks : List Fr) (n : Nat) (v_lens1 : (List Int)) (v_k2 : Int) (v_order3 : (List Int)) (v_r1141 : (Int × Int)) (v_r1146 : ((List Int) × Int)) (v_r1155 : (Int × Int))  (o : G_ringlaw5_TurnSays_C1_R) (h : G_ringlaw5_TurnSays_C1 n v_lens1 v_k2 v_order3 v_r1141 v_r1146 v_r1155 = some o) (q : RunE Try.prog 158 Fi ks (G_ringlaw5_TurnSays_C1_ex o) (G_ringlaw5_TurnSays_C1_st v_lens1 v_k2 v_order3 v_r1141 v_r1146 v_r1155 o)) : RunE Try.prog 158 Fi (.s (cR (cL (cR (cR (cR (cR (cR (bodyOf Try.f3)))))))) :: ks) .normal (G_ringlaw5_TurnSays_C1_hd v_lens1 v_k2 v_order3 v_r1141 v_r1146 v_r1155) := by
  unfold G_ringlaw5_TurnSays_C1 at h
  by_cases h508 : (v_order3.length : Int) > 12
  · rw [if_pos h508] at h
    cases h
    exact pkk_sound TTok mix hF 2 (hs := [.t true]) (ts := []) (s := []) (l := [0, 1, 2, 7, 8, 9, 10, 11, 12, 13]) (by kernel_rfl) (by kernel_rfl) (.cons (dt h508) .nil) q
  · rw [if_neg h508] at h
    obtain ⟨v_r1199, h509, h⟩ := bind_some h
    by_cases h510 : v_r1199 = true
    · rw [if_pos h510] at h
      cases h
      exact pkk_sound TTok mix hF 5 (hs := [.t false, .r (eB v_r1199), .t true]) (ts := []) (s := []) (l := [0, 1, 2, 7, 8, 9, 10, 11, 12, 13]) (by kernel_rfl) (by kernel_rfl) (.cons (df h508) (.cons (G_slices_ContainsFunc_int_int_ok n v_order3 (fun (y0 : Int) => G_ringlaw5_TurnSays_1 n y0) 8 [] (fun y0 r h => G_ringlaw5_TurnSays_1_ok n y0 r h) _ h509) (.cons h510 .nil))) q
    · rw [if_neg h510] at h
      cases h
      exact pkk_sound TTok mix hF 5 (hs := [.t false, .r (eB v_r1199), .t false]) (ts := []) (s := []) (l := [0, 1, 2, 7, 8, 9, 10, 11, 12, 13]) (by kernel_rfl) (by kernel_rfl) (.cons (df h508) (.cons (G_slices_ContainsFunc_int_int_ok n v_order3 (fun (y0 : Int) => G_ringlaw5_TurnSays_1 n y0) 8 [] (fun y0 r h => G_ringlaw5_TurnSays_1_ok n y0 r h) _ h509) (.cons (vf h510) .nil))) q
inductive G_ringlaw5_TurnSays_C2_R where
  | x0 (v_x1227 : Bool)
def G_ringlaw5_TurnSays_C2_ex : G_ringlaw5_TurnSays_C2_R → Ex
  | .x0 _ => .normal
def G_ringlaw5_TurnSays_C2_st (v_lens1 : (List Int)) (v_k2 : Int) (v_order3 : (List Int)) (v_r1141 : (Int × Int)) (v_r1146 : ((List Int) × Int)) (v_r1155 : (Int × Int)) (v_z1203 : Int) : G_ringlaw5_TurnSays_C2_R → PS
  | .x0 v_x1227 => ⟨(.d (.sl (v_lens1.map (eI .i64))) :: .d (.v (.int .i64 v_k2)) :: dd :: dd :: dd :: dd :: dd :: .d (.v (.int .i64 v_r1141.1)) :: .d (.v (.int .i64 v_r1141.2)) :: .d (.sl (v_r1146.1.map (eI .i64))) :: .d (.v (.int .i64 v_r1146.2)) :: (dds 52 (.d (.v (.bool v_x1227)) :: (dds 94 [])))), []⟩
def G_ringlaw5_TurnSays_C2_hd (v_lens1 : (List Int)) (v_k2 : Int) (v_order3 : (List Int)) (v_r1141 : (Int × Int)) (v_r1146 : ((List Int) × Int)) (v_r1155 : (Int × Int)) (v_z1203 : Int)  : PS := ⟨(.d (.sl (v_lens1.map (eI .i64))) :: .d (.v (.int .i64 v_k2)) :: .d (.sl (v_order3.map (eI .i64))) :: dd :: dd :: dd :: dd :: .d (.v (.int .i64 v_r1141.1)) :: .d (.v (.int .i64 v_r1141.2)) :: .d (.sl (v_r1146.1.map (eI .i64))) :: .d (.v (.int .i64 v_r1146.2)) :: .d (.v (.int .i64 v_r1155.1)) :: .d (.v (.int .i64 v_r1155.2)) :: .d (.v (.int .i64 v_z1203)) :: (dds 144 [])), []⟩
def G_ringlaw5_TurnSays_C2 (n : Nat) (v_lens1 : (List Int)) (v_k2 : Int) (v_order3 : (List Int)) (v_r1141 : (Int × Int)) (v_r1146 : ((List Int) × Int)) (v_r1155 : (Int × Int)) (v_z1203 : Int) : Option G_ringlaw5_TurnSays_C2_R :=
  if v_r1155.2 = v_z1203 then
   if v_z1203 = 0 then
    (G_ringref5_OrderRank n v_order3).bind fun (v_r1230 : (Int)) =>
    some (.x0 (v_r1155.1 != v_r1230))
   else
    if v_r1155.1 = 0 then
     some (.x0 false)
    else
     some (.x0 true)
  else
   some (.x0 true)
theorem G_ringlaw5_TurnSays_C2_ok {Fi : Ex → PS → Prop} (hF : KC 158 Fi) (ks : List Fr) (n : Nat) (v_lens1 : (List Int)) (v_k2 : Int) (v_order3 : (List Int)) (v_r1141 : (Int × Int)) (v_r1146 : ((List Int) × Int)) (v_r1155 : (Int × Int)) (v_z1203 : Int)  (o : G_ringlaw5_TurnSays_C2_R) (h : G_ringlaw5_TurnSays_C2 n v_lens1 v_k2 v_order3 v_r1141 v_r1146 v_r1155 v_z1203 = some o) (q : RunE Try.prog 158 Fi ks (G_ringlaw5_TurnSays_C2_ex o) (G_ringlaw5_TurnSays_C2_st v_lens1 v_k2 v_order3 v_r1141 v_r1146 v_r1155 v_z1203 o)) : RunE Try.prog 158 Fi (.s (cL (cL (cR (cR (cR (cR (cR (cR (bodyOf Try.f3))))))))) :: ks) .normal (G_ringlaw5_TurnSays_C2_hd v_lens1 v_k2 v_order3 v_r1141 v_r1146 v_r1155 v_z1203) := by
  unfold G_ringlaw5_TurnSays_C2 at h
  by_cases h516 : v_r1155.2 = v_z1203
  · rw [if_pos h516] at h
    by_cases h517 : v_z1203 = 0
    · rw [if_pos h517] at h
      obtain ⟨v_r1230, h519, h⟩ := bind_some h
      cases h
      exact pkk_sound TTok mix hF 1 (hs := [.t false, .c, .c, .t false, .c, .c, .c, .c, .c, .t true, .c, .c, .r ((eI .i64) v_r1230), .c, .c]) (ts := []) (s := []) (l := [0, 1, 7, 8, 9, 10, 63]) (by kernel_rfl) (by kernel_rfl) (.cons (nf h516) (.cons (nf h517) (.cons (bt h517) (.cons (G_ringref5_OrderRank_ok n v_order3 _ h519) .nil)))) q
    · rw [if_neg h517] at h
      by_cases h518 : v_r1155.1 = 0
      · rw [if_pos h518] at h
        cases h
        exact pkk_sound TTok mix hF 1 (hs := [.t false, .c, .c, .t true, .c, .c, .t false, .c, .c, .t false, .c, .c, .c, .c]) (ts := []) (s := []) (l := [0, 1, 7, 8, 9, 10, 63]) (by kernel_rfl) (by kernel_rfl) (.cons (nf h516) (.cons (nt h517) (.cons (nf h518) (.cons (bf h517) .nil)))) q
      · rw [if_neg h518] at h
        cases h
        exact pkk_sound TTok mix hF 1 (hs := [.t false, .c, .c, .t true, .c, .c, .t true, .c, .c, .c]) (ts := []) (s := []) (l := [0, 1, 7, 8, 9, 10, 63]) (by kernel_rfl) (by kernel_rfl) (.cons (nf h516) (.cons (nt h517) (.cons (nt h518) .nil))) q
  · rw [if_neg h516] at h
    cases h
    exact pkk_sound TTok mix hF 1 (hs := [.t true, .c, .c, .c, .c, .c, .c, .c]) (ts := []) (s := []) (l := [0, 1, 7, 8, 9, 10, 63]) (by kernel_rfl) (by kernel_rfl) (.cons (nt h516) .nil) q
inductive G_ringlaw5_TurnSays_C3_R where
  | x0 (v_x1320 : Bool)
def G_ringlaw5_TurnSays_C3_ex : G_ringlaw5_TurnSays_C3_R → Ex
  | .x0 _ => .normal
def G_ringlaw5_TurnSays_C3_st (v_r1141 : (Int × Int)) (v_r1146 : ((List Int) × Int)) (v_r1252 : (Int)) : G_ringlaw5_TurnSays_C3_R → PS
  | .x0 v_x1320 => ⟨(dd :: dd :: dd :: dd :: dd :: dd :: .d (.v (.bool v_x1320)) :: (dds 151 [])), []⟩
def G_ringlaw5_TurnSays_C3_hd (v_r1141 : (Int × Int)) (v_r1146 : ((List Int) × Int)) (v_r1252 : (Int))  : PS := ⟨(dd :: dd :: dd :: dd :: dd :: dd :: dd :: .d (.v (.int .i64 v_r1141.1)) :: .d (.v (.int .i64 v_r1141.2)) :: .d (.sl (v_r1146.1.map (eI .i64))) :: .d (.v (.int .i64 v_r1146.2)) :: dd :: dd :: .d (.v (.int .i64 v_r1252)) :: (dds 144 [])), []⟩
def G_ringlaw5_TurnSays_C3 (n : Nat) (v_r1141 : (Int × Int)) (v_r1146 : ((List Int) × Int)) (v_r1252 : (Int)) : Option G_ringlaw5_TurnSays_C3_R :=
  if v_r1141.2 = v_r1252 then
   if v_r1146.2 = v_r1252 then
    if v_r1141.1 = 0 then
     some (.x0 ((v_r1146.1.length : Int) == 0))
    else
     some (.x0 false)
   else
    some (.x0 false)
  else
   some (.x0 false)
theorem G_ringlaw5_TurnSays_C3_ok {Fi : Ex → PS → Prop} (hF : KC 158 Fi) (ks : List Fr) (n : Nat) (v_r1141 : (Int × Int)) (v_r1146 : ((List Int) × Int)) (v_r1252 : (Int))  (o : G_ringlaw5_TurnSays_C3_R) (h : G_ringlaw5_TurnSays_C3 n v_r1141 v_r1146 v_r1252 = some o) (q : RunE Try.prog 158 Fi ks (G_ringlaw5_TurnSays_C3_ex o) (G_ringlaw5_TurnSays_C3_st v_r1141 v_r1146 v_r1252 o)) : RunE Try.prog 158 Fi (.s (cL (cT (cR (cL (cR (cR (cR (cR (cR (cR (cR (cR (cR (bodyOf Try.f3)))))))))))))) :: ks) .normal (G_ringlaw5_TurnSays_C3_hd v_r1141 v_r1146 v_r1252) := by
  unfold G_ringlaw5_TurnSays_C3 at h
  by_cases h537 : v_r1141.2 = v_r1252
  · rw [if_pos h537] at h
    by_cases h538 : v_r1146.2 = v_r1252
    · rw [if_pos h538] at h
      by_cases h539 : v_r1141.1 = 0
      · rw [if_pos h539] at h
        cases h
        exact pkk_sound TTok mix hF 1 (hs := [.t true, .c, .c, .t true, .c, .t true, .c, .u (.d (.v (.int .i64 (v_r1146.1.length : Int)))), .c]) (ts := []) (s := []) (l := [6]) (by kernel_rfl) (by kernel_rfl) (.cons (bt h537) (.cons (bt h538) (.cons (bt h539) (.cons (len_ob (f := (eI .i64)) (l := v_r1146.1)) .nil)))) q
      · rw [if_neg h539] at h
        cases h
        exact pkk_sound TTok mix hF 1 (hs := [.t true, .c, .c, .t true, .c, .t false, .c, .c]) (ts := []) (s := []) (l := [6]) (by kernel_rfl) (by kernel_rfl) (.cons (bt h537) (.cons (bt h538) (.cons (bf h539) .nil))) q
    · rw [if_neg h538] at h
      cases h
      exact pkk_sound TTok mix hF 1 (hs := [.t true, .c, .c, .t false, .c, .c, .c, .c]) (ts := []) (s := []) (l := [6]) (by kernel_rfl) (by kernel_rfl) (.cons (bt h537) (.cons (bf h538) .nil)) q
  · rw [if_neg h537] at h
    cases h
    exact pkk_sound TTok mix hF 1 (hs := [.t false, .c, .c, .c, .c, .c, .c, .c]) (ts := []) (s := []) (l := [6]) (by kernel_rfl) (by kernel_rfl) (.cons (bf h537) .nil) q
inductive G_ringlaw5_TurnSays_C4_R where
  | x0 (v_x1345 : Bool)
def G_ringlaw5_TurnSays_C4_ex : G_ringlaw5_TurnSays_C4_R → Ex
  | .x0 _ => .normal
def G_ringlaw5_TurnSays_C4_st (v_lens1 : (List Int)) (v_k2 : Int) (v_r1141 : (Int × Int)) (v_r1146 : ((List Int) × Int)) : G_ringlaw5_TurnSays_C4_R → PS
  | .x0 v_x1345 => ⟨(.d (.sl (v_lens1.map (eI .i64))) :: .d (.v (.int .i64 v_k2)) :: dd :: dd :: dd :: dd :: dd :: .d (.v (.int .i64 v_r1141.1)) :: dd :: .d (.sl (v_r1146.1.map (eI .i64))) :: .d (.v (.int .i64 v_r1146.2)) :: (dds 85 (.d (.v (.bool v_x1345)) :: (dds 61 [])))), []⟩
def G_ringlaw5_TurnSays_C4_hd (v_lens1 : (List Int)) (v_k2 : Int) (v_r1141 : (Int × Int)) (v_r1146 : ((List Int) × Int))  : PS := ⟨(.d (.sl (v_lens1.map (eI .i64))) :: .d (.v (.int .i64 v_k2)) :: dd :: dd :: dd :: dd :: dd :: .d (.v (.int .i64 v_r1141.1)) :: .d (.v (.int .i64 v_r1141.2)) :: .d (.sl (v_r1146.1.map (eI .i64))) :: .d (.v (.int .i64 v_r1146.2)) :: (dds 147 [])), []⟩
def G_ringlaw5_TurnSays_C4 (n : Nat) (v_lens1 : (List Int)) (v_k2 : Int) (v_r1141 : (Int × Int)) (v_r1146 : ((List Int) × Int)) : Option G_ringlaw5_TurnSays_C4_R :=
  if v_r1141.2 = 0 then
   (G_ringref5_OrdersOf n v_lens1).bind fun (v_r1346 : (Int)) =>
   some (.x0 (v_r1141.1 != v_r1346))
  else
   some (.x0 true)
theorem G_ringlaw5_TurnSays_C4_ok {Fi : Ex → PS → Prop} (hF : KC 158 Fi) (ks : List Fr) (n : Nat) (v_lens1 : (List Int)) (v_k2 : Int) (v_r1141 : (Int × Int)) (v_r1146 : ((List Int) × Int))  (o : G_ringlaw5_TurnSays_C4_R) (h : G_ringlaw5_TurnSays_C4 n v_lens1 v_k2 v_r1141 v_r1146 = some o) (q : RunE Try.prog 158 Fi ks (G_ringlaw5_TurnSays_C4_ex o) (G_ringlaw5_TurnSays_C4_st v_lens1 v_k2 v_r1141 v_r1146 o)) : RunE Try.prog 158 Fi (.s (cL (cL (cR (cR (cR (cR (cR (cR (cR (cR (cR (cR (bodyOf Try.f3))))))))))))) :: ks) .normal (G_ringlaw5_TurnSays_C4_hd v_lens1 v_k2 v_r1141 v_r1146) := by
  unfold G_ringlaw5_TurnSays_C4 at h
  by_cases h543 : v_r1141.2 = 0
  · rw [if_pos h543] at h
    obtain ⟨v_r1346, h544, h⟩ := bind_some h
    cases h
    exact pkk_sound TTok mix hF 1 (hs := [.t false, .c, .c, .r ((eI .i64) v_r1346), .c]) (ts := []) (s := []) (l := [0, 1, 7, 9, 10, 96]) (by kernel_rfl) (by kernel_rfl) (.cons (nf h543) (.cons (G_ringref5_OrdersOf_ok n v_lens1 _ h544) .nil)) q
  · rw [if_neg h543] at h
    cases h
    exact pkk_sound TTok mix hF 1 (hs := [.t true, .c, .c, .c]) (ts := []) (s := []) (l := [0, 1, 7, 9, 10, 96]) (by kernel_rfl) (by kernel_rfl) (.cons (nt h543) .nil) q
def G_ringlaw5_TurnSays_J1 (n : Nat)  (v_x1378 : Bool) : Option (Bool) :=
  some v_x1378
theorem G_ringlaw5_TurnSays_J1_ok (n : Nat)   (v_x1378 : Bool) (r : Bool) (h : G_ringlaw5_TurnSays_J1 n  v_x1378 = some r) : RunE Try.prog 158 (FinR Try.prog Try.f3 (eB r)) (.s (cR (cT (cR (cL (cR (cR (cR (cR (cR (cR (cR (cR (cR (cR (cR (bodyOf Try.f3)))))))))))))))) :: .s (cR (cR (cR (cR (cR (cR (cR (cR (cR (cR (cR (cR (bodyOf Try.f3))))))))))))) :: []) .normal ⟨(dd :: dd :: dd :: dd :: dd :: dd :: .d (.v (.bool v_x1378)) :: (dds 151 [])), []⟩ := by
  have hF : KC 158 (FinR Try.prog Try.f3 (eB r)) := FinR.kc' (by kernel_rfl)
  unfold G_ringlaw5_TurnSays_J1 at h
  obtain rfl := Option.some.inj h
  exact pend_sound TTok mix 2 (hs := []) (by kernel_rfl) (by kernel_rfl) (by kernel_rfl) .nil
inductive G_ringlaw5_TurnSays_L5_R where
  | x0 (v_y1403 : Int)
def G_ringlaw5_TurnSays_L5_ex : G_ringlaw5_TurnSays_L5_R → Ex
  | .x0 _ => .exit 2
def G_ringlaw5_TurnSays_L5_st (v_lens1 : (List Int)) (v_k2 : Int) (v_l1370 : (List Int)) (v_f1371 : Int) (v_x1395 : Int) (v_y1397 : Int) : G_ringlaw5_TurnSays_L5_R → PS
  | .x0 v_y1403 => ⟨(.d (.sl (v_lens1.map (eI .i64))) :: .d (.v (.int .i64 v_k2)) :: dd :: dd :: dd :: dd :: dd :: dd :: dd :: .d (.sl (v_l1370.map (eI .i64))) :: .d (.v (.int .i64 v_f1371)) :: dd :: dd :: dd :: dd :: .d (.v (.int .i64 v_y1397)) :: .d (.v (.int .i64 v_y1403)) :: (dds 94 (.d (.sl (v_lens1.map (eI .i64))) :: .d (.v (.int .i64 (v_lens1.length : Int))) :: .d (.v (.int .i64 v_x1395)) :: (dds 44 [])))), []⟩
def G_ringlaw5_TurnSays_L5_hd (v_lens1 : (List Int)) (v_k2 : Int) (v_l1370 : (List Int)) (v_f1371 : Int) (v_x1395 : Int) (v_y1397 : Int) (v_y1398 : Int) (v_x1399 : Int) : PS := ⟨(.d (.sl (v_lens1.map (eI .i64))) :: .d (.v (.int .i64 v_k2)) :: dd :: dd :: dd :: dd :: dd :: dd :: dd :: .d (.sl (v_l1370.map (eI .i64))) :: .d (.v (.int .i64 v_f1371)) :: dd :: dd :: dd :: .d (.v (.int .i64 v_x1395)) :: .d (.v (.int .i64 v_y1397)) :: .d (.v (.int .i64 v_y1398)) :: (dds 94 (.d (.sl (v_lens1.map (eI .i64))) :: .d (.v (.int .i64 (v_lens1.length : Int))) :: .d (.v (.int .i64 v_x1395)) :: dd :: dd :: dd :: dd :: .d (.sl (v_l1370.map (eI .i64))) :: .d (.v (.int .i64 (v_l1370.length : Int))) :: .d (.v (.int .i64 v_x1399)) :: (dds 37 [])))), []⟩
def G_ringlaw5_TurnSays_L5 (n : Nat) (v_lens1 : (List Int)) (v_k2 : Int) (v_l1370 : (List Int)) (v_f1371 : Int) (v_x1395 : Int) (v_y1397 : Int) : Nat → Int → Int → Option G_ringlaw5_TurnSays_L5_R
  | 0, _, _ => none
  | k + 1, v_y1398, v_x1399 =>
    if v_x1399 < (v_l1370.length : Int) then
     (getI v_l1370 v_x1399).bind fun (v_y1402 : Int) =>
     if v_y1402 = v_x1395 then
      G_ringlaw5_TurnSays_L5 n v_lens1 v_k2 v_l1370 v_f1371 v_x1395 v_y1397 k (wi .i64 (v_y1398 + 1)) (wi .i64 (v_x1399 + 1))
     else
      G_ringlaw5_TurnSays_L5 n v_lens1 v_k2 v_l1370 v_f1371 v_x1395 v_y1397 k v_y1398 (wi .i64 (v_x1399 + 1))
    else
     some (.x0 v_y1398)
theorem G_ringlaw5_TurnSays_L5_ok {Fi : Ex → PS → Prop} (hF : KC 158 Fi) (ks : List Fr) (n : Nat) (v_lens1 : (List Int)) (v_k2 : Int) (v_l1370 : (List Int)) (v_f1371 : Int) (v_x1395 : Int) (v_y1397 : Int)  : ∀ (k : Nat) (v_y1398 : Int) (v_x1399 : Int) (o : G_ringlaw5_TurnSays_L5_R), G_ringlaw5_TurnSays_L5 n v_lens1 v_k2 v_l1370 v_f1371 v_x1395 v_y1397 k v_y1398 v_x1399 = some o → RunE Try.prog 158 Fi ks (G_ringlaw5_TurnSays_L5_ex o) (G_ringlaw5_TurnSays_L5_st v_lens1 v_k2 v_l1370 v_f1371 v_x1395 v_y1397 o) → RunE Try.prog 158 Fi (.l k (cP (cB (cR (cL (cR (cR (cB (cL (cR (cR (cP (cB (cR (cL (cR (cR (cR (cR (cR (cR (cR (cR (cR (cR (cR (cR (bodyOf Try.f3))))))))))))))))))))))))))) :: ks) .normal (G_ringlaw5_TurnSays_L5_hd v_lens1 v_k2 v_l1370 v_f1371 v_x1395 v_y1397 v_y1398 v_x1399)
  | 0, v_y1398, v_x1399, o, h, q => by rw [G_ringlaw5_TurnSays_L5] at h; cases h
  | k + 1, v_y1398, v_x1399, o, h, q => by
    rw [G_ringlaw5_TurnSays_L5] at h
    by_cases h554 : v_x1399 < (v_l1370.length : Int)
    · rw [if_pos h554] at h
      obtain ⟨v_y1402, h558, h⟩ := bind_some h
      by_cases h560 : v_y1402 = v_x1395
      · rw [if_pos h560] at h
        exact pkk_sound TTok mix hF 16 (hs := [.t true, .y ((eI .i64) v_y1402), .c, .t true]) (ts := []) (s := []) (l := [0, 1, 9, 10, 14, 15, 16, 111, 112, 113, 118, 119, 120]) (by kernel_rfl) (by kernel_rfl) (.cons (dt h554) (.cons (getI_ob (f := (eI .i64)) h558) (.cons (bt h560) .nil))) (G_ringlaw5_TurnSays_L5_ok hF ks n v_lens1 v_k2 v_l1370 v_f1371 v_x1395 v_y1397 k (wi .i64 (v_y1398 + 1)) (wi .i64 (v_x1399 + 1)) _ h q)
      · rw [if_neg h560] at h
        exact pkk_sound TTok mix hF 16 (hs := [.t true, .y ((eI .i64) v_y1402), .c, .t false]) (ts := []) (s := []) (l := [0, 1, 9, 10, 14, 15, 16, 111, 112, 113, 118, 119, 120]) (by kernel_rfl) (by kernel_rfl) (.cons (dt h554) (.cons (getI_ob (f := (eI .i64)) h558) (.cons (bf h560) .nil))) (G_ringlaw5_TurnSays_L5_ok hF ks n v_lens1 v_k2 v_l1370 v_f1371 v_x1395 v_y1397 k v_y1398 (wi .i64 (v_x1399 + 1)) _ h q)
    · rw [if_neg h554] at h
      cases h
      exact pkk_sound TTok mix hF 8 (hs := [.t false]) (ts := []) (s := []) (l := [0, 1, 9, 10, 15, 16, 111, 112, 113]) (by kernel_rfl) (by kernel_rfl) (.cons (df h554) .nil) q
inductive G_ringlaw5_TurnSays_L6_R where
  | x0 (v_x1406 : Bool)
  | x1 
def G_ringlaw5_TurnSays_L6_ex : G_ringlaw5_TurnSays_L6_R → Ex
  | .x0 _ => .ret
  | .x1  => .exit 0
def G_ringlaw5_TurnSays_L6_st (v_lens1 : (List Int)) (v_k2 : Int) (v_l1370 : (List Int)) (v_f1371 : Int) : G_ringlaw5_TurnSays_L6_R → PS
  | .x0 v_x1406 => ⟨(dd :: dd :: dd :: dd :: dd :: dd :: .d (.v (.bool v_x1406)) :: (dds 151 [])), []⟩
  | .x1  => ⟨(.d (.sl (v_lens1.map (eI .i64))) :: .d (.v (.int .i64 v_k2)) :: dd :: dd :: dd :: dd :: dd :: dd :: dd :: .d (.sl (v_l1370.map (eI .i64))) :: .d (.v (.int .i64 v_f1371)) :: (dds 147 [])), []⟩
def G_ringlaw5_TurnSays_L6_hd (v_lens1 : (List Int)) (v_k2 : Int) (v_l1370 : (List Int)) (v_f1371 : Int) (v_x1395 : Int) : PS := ⟨(.d (.sl (v_lens1.map (eI .i64))) :: .d (.v (.int .i64 v_k2)) :: dd :: dd :: dd :: dd :: dd :: dd :: dd :: .d (.sl (v_l1370.map (eI .i64))) :: .d (.v (.int .i64 v_f1371)) :: (dds 100 (.d (.sl (v_lens1.map (eI .i64))) :: .d (.v (.int .i64 (v_lens1.length : Int))) :: .d (.v (.int .i64 v_x1395)) :: (dds 44 [])))), []⟩
def G_ringlaw5_TurnSays_L6 (n : Nat) (v_lens1 : (List Int)) (v_k2 : Int) (v_l1370 : (List Int)) (v_f1371 : Int) : Nat → Int → Option G_ringlaw5_TurnSays_L6_R
  | 0, _ => none
  | k + 1, v_x1395 =>
    if v_x1395 < (v_lens1.length : Int) then
     (getI v_lens1 v_x1395).bind fun (v_y1397 : Int) =>
     (G_ringlaw5_TurnSays_L5 n v_lens1 v_k2 v_l1370 v_f1371 v_x1395 v_y1397 n 0 0).bind fun v_o1404 => match v_o1404 with
     | .x0 v_z1405 =>
       if v_y1397 = v_z1405 then
        G_ringlaw5_TurnSays_L6 n v_lens1 v_k2 v_l1370 v_f1371 k (wi .i64 (v_x1395 + 1))
       else
        some (.x0 false)
    else
     some (.x1 )
theorem G_ringlaw5_TurnSays_L6_ok {Fi : Ex → PS → Prop} (hF : KC 158 Fi) (ks : List Fr) (n : Nat) (v_lens1 : (List Int)) (v_k2 : Int) (v_l1370 : (List Int)) (v_f1371 : Int)  : ∀ (k : Nat) (v_x1395 : Int) (o : G_ringlaw5_TurnSays_L6_R), G_ringlaw5_TurnSays_L6 n v_lens1 v_k2 v_l1370 v_f1371 k v_x1395 = some o → RunE Try.prog 158 Fi ks (G_ringlaw5_TurnSays_L6_ex o) (G_ringlaw5_TurnSays_L6_st v_lens1 v_k2 v_l1370 v_f1371 o) → RunE Try.prog 158 Fi (.l k (cP (cB (cR (cL (cR (cR (cR (cR (cR (cR (cR (cR (cR (cR (cR (cR (bodyOf Try.f3))))))))))))))))) :: ks) .normal (G_ringlaw5_TurnSays_L6_hd v_lens1 v_k2 v_l1370 v_f1371 v_x1395)
  | 0, v_x1395, o, h, q => by rw [G_ringlaw5_TurnSays_L6] at h; cases h
  | k + 1, v_x1395, o, h, q => by
    rw [G_ringlaw5_TurnSays_L6] at h
    by_cases h552 : v_x1395 < (v_lens1.length : Int)
    · rw [if_pos h552] at h
      obtain ⟨v_y1397, h553, h⟩ := bind_some h
      obtain ⟨v_o1404, h561, h⟩ := bind_some h
      refine pkk_sound TTok mix hF 17 (hs := [.t true, .y ((eI .i64) v_y1397), .c, .u (.d (.v (.int .i64 (v_l1370.length : Int)))), .n n]) (ts := []) (s := []) (l := [0, 1, 9, 10, 14, 15, 16, 111, 112, 113, 118, 119, 120]) (by kernel_rfl) (by kernel_rfl) (.cons (dt h552) (.cons (getI_ob (f := (eI .i64)) h553) (.cons (len_ob (f := (eI .i64)) (l := v_l1370)) .nil))) (G_ringlaw5_TurnSays_L5_ok hF (.b 2 :: .s (cR (cR (cR (cB (cL (cR (cR (cP (cB (cR (cL (cR (cR (cR (cR (cR (cR (cR (cR (cR (cR (cR (cR (bodyOf Try.f3)))))))))))))))))))))))) :: .b 1 :: .s (cR (cR (cR (cP (cB (cR (cL (cR (cR (cR (cR (cR (cR (cR (cR (cR (cR (cR (cR (bodyOf Try.f3)))))))))))))))))))) :: .l k (cP (cB (cR (cL (cR (cR (cR (cR (cR (cR (cR (cR (cR (cR (cR (cR (bodyOf Try.f3))))))))))))))))) :: ks) n v_lens1 v_k2 v_l1370 v_f1371 v_x1395 v_y1397 n 0 0 _ h561 ?_)
      cases v_o1404 with
      | x0 v_z1405 =>
        try dsimp only at h
        by_cases h562 : v_y1397 = v_z1405
        · rw [if_pos h562] at h
          exact pkk_sound TTok mix hF 7 (hs := [.t false]) (ts := []) (s := []) (l := [0, 1, 9, 10, 111, 112, 113]) (by kernel_rfl) (by kernel_rfl) (.cons (nf h562) .nil) (G_ringlaw5_TurnSays_L6_ok hF ks n v_lens1 v_k2 v_l1370 v_f1371 k (wi .i64 (v_x1395 + 1)) _ h q)
        · rw [if_neg h562] at h
          cases h
          exact pkk_sound TTok mix hF 10 (hs := [.t true]) (ts := []) (s := []) (l := [6]) (by kernel_rfl) (by kernel_rfl) (.cons (nt h562) .nil) q
    · rw [if_neg h552] at h
      cases h
      exact pkk_sound TTok mix hF 8 (hs := [.t false]) (ts := []) (s := []) (l := [0, 1, 9, 10]) (by kernel_rfl) (by kernel_rfl) (.cons (df h552) .nil) q
inductive G_ringlaw5_TurnSays_L7_R where
  | x0 (v_sum1435 : Int)
def G_ringlaw5_TurnSays_L7_ex : G_ringlaw5_TurnSays_L7_R → Ex
  | .x0 _ => .exit 4
def G_ringlaw5_TurnSays_L7_st (v_k2 : Int) (v_l1370 : (List Int)) (v_f1371 : Int) (v_lens1 : (List Int)) : G_ringlaw5_TurnSays_L7_R → PS
  | .x0 v_sum1435 => ⟨(dd :: .d (.v (.int .i64 v_k2)) :: dd :: dd :: dd :: dd :: dd :: dd :: dd :: .d (.sl (v_l1370.map (eI .i64))) :: .d (.v (.int .i64 v_f1371)) :: (dds 8 (.d (.v (.int .i64 v_sum1435)) :: (dds 138 [])))), []⟩
def G_ringlaw5_TurnSays_L7_hd (v_k2 : Int) (v_l1370 : (List Int)) (v_f1371 : Int) (v_lens1 : (List Int)) (v_sum1430 : Int) (v_x1431 : Int) : PS := ⟨(dd :: .d (.v (.int .i64 v_k2)) :: dd :: dd :: dd :: dd :: dd :: dd :: dd :: .d (.sl (v_l1370.map (eI .i64))) :: .d (.v (.int .i64 v_f1371)) :: (dds 8 (.d (.v (.int .i64 v_sum1430)) :: (dds 114 (.d (.sl (v_lens1.map (eI .i64))) :: .d (.v (.int .i64 (v_lens1.length : Int))) :: .d (.v (.int .i64 v_x1431)) :: (dds 21 [])))))), []⟩
def G_ringlaw5_TurnSays_L7 (n : Nat) (v_k2 : Int) (v_l1370 : (List Int)) (v_f1371 : Int) (v_lens1 : (List Int)) : Nat → Int → Int → Option G_ringlaw5_TurnSays_L7_R
  | 0, _, _ => none
  | k + 1, v_sum1430, v_x1431 =>
    if v_x1431 < (v_lens1.length : Int) then
     (getI v_lens1 v_x1431).bind fun (v_y1434 : Int) =>
     G_ringlaw5_TurnSays_L7 n v_k2 v_l1370 v_f1371 v_lens1 k (wi .i64 (v_sum1430 + v_y1434)) (wi .i64 (v_x1431 + 1))
    else
     some (.x0 v_sum1430)
theorem G_ringlaw5_TurnSays_L7_ok {Fi : Ex → PS → Prop} (hF : KC 158 Fi) (ks : List Fr) (n : Nat) (v_k2 : Int) (v_l1370 : (List Int)) (v_f1371 : Int) (v_lens1 : (List Int))  : ∀ (k : Nat) (v_sum1430 : Int) (v_x1431 : Int) (o : G_ringlaw5_TurnSays_L7_R), G_ringlaw5_TurnSays_L7 n v_k2 v_l1370 v_f1371 v_lens1 k v_sum1430 v_x1431 = some o → RunE Try.prog 158 Fi ks (G_ringlaw5_TurnSays_L7_ex o) (G_ringlaw5_TurnSays_L7_st v_k2 v_l1370 v_f1371 v_lens1 o) → RunE Try.prog 158 Fi (.l k (cP (cB (cR (cL (cR (cR (cR (cR (cR (cR (cR (cR (cR (cR (cR (cR (cR (cR (bodyOf Try.f3))))))))))))))))))) :: ks) .normal (G_ringlaw5_TurnSays_L7_hd v_k2 v_l1370 v_f1371 v_lens1 v_sum1430 v_x1431)
  | 0, v_sum1430, v_x1431, o, h, q => by rw [G_ringlaw5_TurnSays_L7] at h; cases h
  | k + 1, v_sum1430, v_x1431, o, h, q => by
    rw [G_ringlaw5_TurnSays_L7] at h
    by_cases h564 : v_x1431 < (v_lens1.length : Int)
    · rw [if_pos h564] at h
      obtain ⟨v_y1434, h566, h⟩ := bind_some h
      exact pkk_sound TTok mix hF 13 (hs := [.t true, .y ((eI .i64) v_y1434), .c]) (ts := []) (s := []) (l := [1, 9, 10, 19, 134, 135, 136]) (by kernel_rfl) (by kernel_rfl) (.cons (dt h564) (.cons (getI_ob (f := (eI .i64)) h566) .nil)) (G_ringlaw5_TurnSays_L7_ok hF ks n v_k2 v_l1370 v_f1371 v_lens1 k (wi .i64 (v_sum1430 + v_y1434)) (wi .i64 (v_x1431 + 1)) _ h q)
    · rw [if_neg h564] at h
      cases h
      exact pkk_sound TTok mix hF 8 (hs := [.t false]) (ts := []) (s := []) (l := [1, 9, 10, 19]) (by kernel_rfl) (by kernel_rfl) (.cons (df h564) .nil) q
inductive G_ringlaw5_TurnSays_C8_R where
  | x0 (v_x1447 : Bool)
def G_ringlaw5_TurnSays_C8_ex : G_ringlaw5_TurnSays_C8_R → Ex
  | .x0 _ => .normal
def G_ringlaw5_TurnSays_C8_st (v_k2 : Int) (v_l1370 : (List Int)) (v_f1371 : Int) (v_z1437 : Int) : G_ringlaw5_TurnSays_C8_R → PS
  | .x0 v_x1447 => ⟨(dd :: dd :: dd :: dd :: dd :: dd :: .d (.v (.bool v_x1447)) :: (dds 151 [])), []⟩
def G_ringlaw5_TurnSays_C8_hd (v_k2 : Int) (v_l1370 : (List Int)) (v_f1371 : Int) (v_z1437 : Int)  : PS := ⟨(dd :: .d (.v (.int .i64 v_k2)) :: dd :: dd :: dd :: dd :: dd :: dd :: dd :: .d (.sl (v_l1370.map (eI .i64))) :: .d (.v (.int .i64 v_f1371)) :: (dds 8 (.d (.v (.int .i64 v_z1437)) :: (dds 138 [])))), []⟩
def G_ringlaw5_TurnSays_C8 (n : Nat) (v_k2 : Int) (v_l1370 : (List Int)) (v_f1371 : Int) (v_z1437 : Int) : Option G_ringlaw5_TurnSays_C8_R :=
  if v_f1371 = 0 then
   if (v_l1370.length : Int) = v_z1437 then
    (G_ringref5_OrderRank n v_l1370).bind fun (v_r1446 : (Int)) =>
    some (.x0 (v_r1446 == v_k2))
   else
    some (.x0 false)
  else
   some (.x0 false)
theorem G_ringlaw5_TurnSays_C8_ok {Fi : Ex → PS → Prop} (hF : KC 158 Fi) (ks : List Fr) (n : Nat) (v_k2 : Int) (v_l1370 : (List Int)) (v_f1371 : Int) (v_z1437 : Int)  (o : G_ringlaw5_TurnSays_C8_R) (h : G_ringlaw5_TurnSays_C8 n v_k2 v_l1370 v_f1371 v_z1437 = some o) (q : RunE Try.prog 158 Fi ks (G_ringlaw5_TurnSays_C8_ex o) (G_ringlaw5_TurnSays_C8_st v_k2 v_l1370 v_f1371 v_z1437 o)) : RunE Try.prog 158 Fi (.s (cL (cR (cR (cR (cR (cR (cR (cR (cR (cR (cR (cR (cR (cR (cR (cR (bodyOf Try.f3))))))))))))))))) :: ks) .normal (G_ringlaw5_TurnSays_C8_hd v_k2 v_l1370 v_f1371 v_z1437) := by
  unfold G_ringlaw5_TurnSays_C8 at h
  by_cases h571 : v_f1371 = 0
  · rw [if_pos h571] at h
    by_cases h572 : (v_l1370.length : Int) = v_z1437
    · rw [if_pos h572] at h
      obtain ⟨v_r1446, h573, h⟩ := bind_some h
      cases h
      exact pkk_sound TTok mix hF 1 (hs := [.t true, .c, .u (.d (.v (.int .i64 (v_l1370.length : Int)))), .c, .c, .t true, .c, .r ((eI .i64) v_r1446), .c, .c]) (ts := []) (s := []) (l := [6]) (by kernel_rfl) (by kernel_rfl) (.cons (bt h571) (.cons (len_ob (f := (eI .i64)) (l := v_l1370)) (.cons (bt h572) (.cons (G_ringref5_OrderRank_ok n v_l1370 _ h573) .nil)))) q
    · rw [if_neg h572] at h
      cases h
      exact pkk_sound TTok mix hF 1 (hs := [.t true, .c, .u (.d (.v (.int .i64 (v_l1370.length : Int)))), .c, .c, .t false, .c, .c, .c]) (ts := []) (s := []) (l := [6]) (by kernel_rfl) (by kernel_rfl) (.cons (bt h571) (.cons (len_ob (f := (eI .i64)) (l := v_l1370)) (.cons (bf h572) .nil))) q
  · rw [if_neg h571] at h
    cases h
    exact pkk_sound TTok mix hF 1 (hs := [.t false, .c, .c, .c, .c, .c, .c, .c]) (ts := []) (s := []) (l := [6]) (by kernel_rfl) (by kernel_rfl) (.cons (bf h571) .nil) q
def G_ringlaw5_TurnSays_J2 (n : Nat) (v_lens1 : (List Int)) (v_k2 : Int) (v_l1370 : (List Int)) (v_f1371 : Int) (v_x1372 : Bool) : Option (Bool) :=
  if v_x1372 = true then
   if v_f1371 = 1 then
    G_ringlaw5_TurnSays_J1 n  ((v_l1370.length : Int) == 0)
   else
    G_ringlaw5_TurnSays_J1 n  false
  else
   (G_ringlaw5_TurnSays_L6 n v_lens1 v_k2 v_l1370 v_f1371 n 0).bind fun v_o1407 => match v_o1407 with
   | .x0 v_z1408 =>
     some v_z1408
   | .x1  =>
     (G_ringlaw5_TurnSays_L7 n v_k2 v_l1370 v_f1371 v_lens1 n 0 0).bind fun v_o1436 => match v_o1436 with
     | .x0 v_z1437 =>
       (G_ringlaw5_TurnSays_C8 n v_k2 v_l1370 v_f1371 v_z1437).bind fun v_o1450 => match v_o1450 with
       | .x0 v_z1451 =>
         some v_z1451
theorem G_ringlaw5_TurnSays_J2_ok (n : Nat) (v_lens1 : (List Int)) (v_k2 : Int)  (v_l1370 : (List Int)) (v_f1371 : Int) (v_x1372 : Bool) (r : Bool) (h : G_ringlaw5_TurnSays_J2 n v_lens1 v_k2 v_l1370 v_f1371 v_x1372 = some r) : RunE Try.prog 158 (FinR Try.prog Try.f3 (eB r)) (.s (cR (cL (cR (cR (cR (cR (cR (cR (cR (cR (cR (cR (cR (bodyOf Try.f3)))))))))))))) :: .s (cR (cR (cR (cR (cR (cR (cR (cR (cR (cR (cR (cR (bodyOf Try.f3))))))))))))) :: []) .normal ⟨(.d (.sl (v_lens1.map (eI .i64))) :: .d (.v (.int .i64 v_k2)) :: dd :: dd :: dd :: dd :: dd :: dd :: dd :: .d (.sl (v_l1370.map (eI .i64))) :: .d (.v (.int .i64 v_f1371)) :: (dds 92 (.d (.v (.bool v_x1372)) :: (dds 54 [])))), []⟩ := by
  have hF : KC 158 (FinR Try.prog Try.f3 (eB r)) := FinR.kc' (by kernel_rfl)
  unfold G_ringlaw5_TurnSays_J2 at h
  by_cases h550 : v_x1372 = true
  · rw [if_pos h550] at h
    by_cases h551 : v_f1371 = 1
    · rw [if_pos h551] at h
      exact pkk_sound TTok mix hF 3 (hs := [.t true, .t true, .c, .u (.d (.v (.int .i64 (v_l1370.length : Int)))), .c]) (ts := []) (s := []) (l := [6]) (by kernel_rfl) (by kernel_rfl) (.cons h550 (.cons (bt h551) (.cons (len_ob (f := (eI .i64)) (l := v_l1370)) .nil))) (G_ringlaw5_TurnSays_J1_ok n  ((v_l1370.length : Int) == 0) _ h)
    · rw [if_neg h551] at h
      exact pkk_sound TTok mix hF 3 (hs := [.t true, .t false, .c, .c]) (ts := []) (s := []) (l := [6]) (by kernel_rfl) (by kernel_rfl) (.cons h550 (.cons (bf h551) .nil)) (G_ringlaw5_TurnSays_J1_ok n  false _ h)
  · rw [if_neg h550] at h
    obtain ⟨v_o1407, h563, h⟩ := bind_some h
    refine pkk_sound TTok mix hF 7 (hs := [.t false, .u (.d (.v (.int .i64 (v_lens1.length : Int)))), .n n]) (ts := []) (s := []) (l := [0, 1, 9, 10, 111, 112, 113]) (by kernel_rfl) (by kernel_rfl) (.cons (vf h550) (.cons (len_ob (f := (eI .i64)) (l := v_lens1)) .nil)) (G_ringlaw5_TurnSays_L6_ok hF (.b 0 :: .s (cR (cR (cR (cR (cR (cR (cR (cR (cR (cR (cR (cR (cR (bodyOf Try.f3)))))))))))))) :: []) n v_lens1 v_k2 v_l1370 v_f1371 n 0 _ h563 ?_)
    cases v_o1407 with
    | x0 v_z1408 =>
      try dsimp only at h
      obtain rfl := Option.some.inj h
      exact pend_sound TTok mix 2 (hs := []) (by kernel_rfl) (by kernel_rfl) (by kernel_rfl) .nil
    | x1  =>
      try dsimp only at h
      obtain ⟨v_o1436, h567, h⟩ := bind_some h
      refine pkk_sound TTok mix hF 8 (hs := [.u (.d (.v (.int .i64 (v_lens1.length : Int)))), .n n]) (ts := []) (s := []) (l := [1, 9, 10, 19, 134, 135, 136]) (by kernel_rfl) (by kernel_rfl) (.cons (len_ob (f := (eI .i64)) (l := v_lens1)) .nil) (G_ringlaw5_TurnSays_L7_ok hF (.b 4 :: .s (cR (cR (cR (cR (cR (cR (cR (cR (cR (cR (cR (cR (cR (cR (cR (bodyOf Try.f3)))))))))))))))) :: []) n v_k2 v_l1370 v_f1371 v_lens1 n 0 0 _ h567 ?_)
      cases v_o1436 with
      | x0 v_z1437 =>
        try dsimp only at h
        obtain ⟨v_o1450, h574, h⟩ := bind_some h
        refine pkk_sound TTok mix hF 2 (hs := []) (ts := []) (s := []) (l := [1, 9, 10, 19]) (by kernel_rfl) (by kernel_rfl) .nil (G_ringlaw5_TurnSays_C8_ok hF (.s (cR (cR (cR (cR (cR (cR (cR (cR (cR (cR (cR (cR (cR (cR (cR (cR (bodyOf Try.f3))))))))))))))))) :: []) n v_k2 v_l1370 v_f1371 v_z1437 _ h574 ?_)
        cases v_o1450 with
        | x0 v_z1451 =>
          try dsimp only at h
          obtain rfl := Option.some.inj h
          exact pend_sound TTok mix 1 (hs := []) (by kernel_rfl) (by kernel_rfl) (by kernel_rfl) .nil
/- ringhall/ringlaw5.TurnSays -/
def G_ringlaw5_TurnSays (n : Nat) (v_lens1 : (List Int)) (v_k2 : Int) (v_order3 : (List Int)) : Option (Bool) :=
  (G_turn_Count n v_lens1).bind fun (v_r1141 : (Int × Int)) =>
  (G_turn_At n v_lens1 v_k2).bind fun (v_r1146 : ((List Int) × Int)) =>
  (G_turn_Of n v_order3).bind fun (v_r1155 : (Int × Int)) =>
  (G_ringlaw5_TurnSays_C1 n v_lens1 v_k2 v_order3 v_r1141 v_r1146 v_r1155).bind fun v_o1202 => match v_o1202 with
  | .x0 v_z1203 =>
    (G_ringlaw5_TurnSays_C2 n v_lens1 v_k2 v_order3 v_r1141 v_r1146 v_r1155 v_z1203).bind fun v_o1232 => match v_o1232 with
    | .x0 v_z1233 =>
      if v_z1233 = true then
       some false
      else
       (G_ringref5_TurnErr n v_lens1).bind fun (v_r1252 : (Int)) =>
       (G_turn_Check n v_lens1).bind fun (v_r1268 : (Int)) =>
       if v_r1268 = v_r1252 then
        if v_r1252 = 0 then
         (G_ringlaw5_TurnSays_C4 n v_lens1 v_k2 v_r1141 v_r1146).bind fun v_o1348 => match v_o1348 with
         | .x0 v_z1349 =>
           if v_z1349 = true then
            some false
           else
            if v_k2 < 0 then
             G_ringlaw5_TurnSays_J2 n v_lens1 v_k2 v_r1146.1 v_r1146.2 true
            else
             G_ringlaw5_TurnSays_J2 n v_lens1 v_k2 v_r1146.1 v_r1146.2 (decide (v_k2 ≥ v_r1141.1))
        else
         (G_ringlaw5_TurnSays_C3 n v_r1141 v_r1146 v_r1252).bind fun v_o1324 => match v_o1324 with
         | .x0 v_z1325 =>
           some v_z1325
       else
        some false
theorem G_ringlaw5_TurnSays_ok (n : Nat) (v_lens1 : (List Int)) (v_k2 : Int) (v_order3 : (List Int)) (r : Bool) (h : G_ringlaw5_TurnSays n v_lens1 v_k2 v_order3 = some r) : Ret Try.prog 3 [(eL (eI .i64)) v_lens1, (eI .i64) v_k2, (eL (eI .i64)) v_order3] (eB r) := by
  refine ret_run (n := 158) (fn := Try.f3) (c := bodyOf Try.f3) (by kernel_rfl) (by kernel_rfl) (by kernel_rfl) (by kernel_rfl) ?_
  have hF : KC 158 (FinR Try.prog Try.f3 (eB r)) := FinR.kc' (by kernel_rfl)
  unfold G_ringlaw5_TurnSays at h
  obtain ⟨v_r1141, h502, h⟩ := bind_some h
  obtain ⟨v_r1146, h503, h⟩ := bind_some h
  obtain ⟨v_r1155, h504, h⟩ := bind_some h
  obtain ⟨v_o1202, h511, h⟩ := bind_some h
  refine pkk_sound TTok mix hF 13 (hs := [.r (.tup [(eI .i64) v_r1141.1, (eI .i64) v_r1141.2]), .r (.tup [(eL (eI .i64)) v_r1146.1, (eI .i64) v_r1146.2]), .r (.tup [(eI .i64) v_r1155.1, (eI .i64) v_r1155.2]), .u (.d (.v (.int .i64 (v_order3.length : Int))))]) (ts := []) (s := []) (l := [0, 1, 2, 7, 8, 9, 10, 11, 12, 13, 40]) (by kernel_rfl) (by kernel_rfl) (.cons (G_turn_Count_ok n v_lens1 _ h502) (.cons (G_turn_At_ok n v_lens1 v_k2 _ h503) (.cons (G_turn_Of_ok n v_order3 _ h504) (.cons (len_ob (f := (eI .i64)) (l := v_order3)) .nil)))) (G_ringlaw5_TurnSays_C1_ok hF (.s (cR (cR (cR (cR (cR (cR (bodyOf Try.f3))))))) :: []) n v_lens1 v_k2 v_order3 v_r1141 v_r1146 v_r1155 _ h511 ?_)
  cases v_o1202 with
  | x0 v_z1203 =>
    try dsimp only at h
    obtain ⟨v_o1232, h520, h⟩ := bind_some h
    refine pkk_sound TTok mix hF 2 (hs := []) (ts := []) (s := []) (l := [0, 1, 2, 7, 8, 9, 10, 11, 12, 13]) (by kernel_rfl) (by kernel_rfl) .nil (G_ringlaw5_TurnSays_C2_ok hF (.s (cR (cL (cR (cR (cR (cR (cR (cR (bodyOf Try.f3))))))))) :: .s (cR (cR (cR (cR (cR (cR (cR (bodyOf Try.f3)))))))) :: []) n v_lens1 v_k2 v_order3 v_r1141 v_r1146 v_r1155 v_z1203 _ h520 ?_)
    cases v_o1232 with
    | x0 v_z1233 =>
      try dsimp only at h
      by_cases h521 : v_z1233 = true
      · rw [if_pos h521] at h
        obtain rfl := Option.some.inj h
        exact pend_sound TTok mix 5 (hs := [.t true]) (by kernel_rfl) (by kernel_rfl) (by kernel_rfl) (.cons h521 .nil)
      · rw [if_neg h521] at h
        obtain ⟨v_r1252, h522, h⟩ := bind_some h
        obtain ⟨v_r1268, h523, h⟩ := bind_some h
        by_cases h524 : v_r1268 = v_r1252
        · rw [if_pos h524] at h
          by_cases h533 : v_r1252 = 0
          · rw [if_pos h533] at h
            obtain ⟨v_o1348, h545, h⟩ := bind_some h
            refine pkk_sound TTok mix hF 16 (hs := [.t false, .r ((eI .i64) v_r1252), .r ((eI .i64) v_r1268), .t false, .t false]) (ts := []) (s := []) (l := [0, 1, 7, 8, 9, 10]) (by kernel_rfl) (by kernel_rfl) (.cons (vf h521) (.cons (G_ringref5_TurnErr_ok n v_lens1 _ h522) (.cons (G_turn_Check_ok n v_lens1 _ h523) (.cons (nf h524) (.cons (nf h533) .nil))))) (G_ringlaw5_TurnSays_C4_ok hF (.s (cR (cL (cR (cR (cR (cR (cR (cR (cR (cR (cR (cR (bodyOf Try.f3))))))))))))) :: .s (cR (cR (cR (cR (cR (cR (cR (cR (cR (cR (cR (bodyOf Try.f3)))))))))))) :: []) n v_lens1 v_k2 v_r1141 v_r1146 _ h545 ?_)
            cases v_o1348 with
            | x0 v_z1349 =>
              try dsimp only at h
              by_cases h546 : v_z1349 = true
              · rw [if_pos h546] at h
                obtain rfl := Option.some.inj h
                exact pend_sound TTok mix 5 (hs := [.t true]) (by kernel_rfl) (by kernel_rfl) (by kernel_rfl) (.cons h546 .nil)
              · rw [if_neg h546] at h
                by_cases h547 : v_k2 < 0
                · rw [if_pos h547] at h
                  exact pkk_sound TTok mix hF 5 (hs := [.t false, .t true, .c, .c]) (ts := []) (s := []) (l := [0, 1, 9, 10, 103]) (by kernel_rfl) (by kernel_rfl) (.cons (vf h546) (.cons (dt h547) .nil)) (G_ringlaw5_TurnSays_J2_ok n v_lens1 v_k2 v_r1146.1 v_r1146.2 true _ h)
                · rw [if_neg h547] at h
                  exact pkk_sound TTok mix hF 5 (hs := [.t false, .t false, .c, .c]) (ts := []) (s := []) (l := [0, 1, 9, 10, 103]) (by kernel_rfl) (by kernel_rfl) (.cons (vf h546) (.cons (df h547) .nil)) (G_ringlaw5_TurnSays_J2_ok n v_lens1 v_k2 v_r1146.1 v_r1146.2 (decide (v_k2 ≥ v_r1141.1)) _ h)
          · rw [if_neg h533] at h
            obtain ⟨v_o1324, h540, h⟩ := bind_some h
            refine pkk_sound TTok mix hF 14 (hs := [.t false, .r ((eI .i64) v_r1252), .r ((eI .i64) v_r1268), .t false, .t true]) (ts := []) (s := []) (l := [7, 8, 9, 10, 13]) (by kernel_rfl) (by kernel_rfl) (.cons (vf h521) (.cons (G_ringref5_TurnErr_ok n v_lens1 _ h522) (.cons (G_turn_Check_ok n v_lens1 _ h523) (.cons (nf h524) (.cons (nt h533) .nil))))) (G_ringlaw5_TurnSays_C3_ok hF (.s (cR (cT (cR (cL (cR (cR (cR (cR (cR (cR (cR (cR (cR (bodyOf Try.f3)))))))))))))) :: .s (cR (cR (cR (cR (cR (cR (cR (cR (cR (cR (bodyOf Try.f3))))))))))) :: []) n v_r1141 v_r1146 v_r1252 _ h540 ?_)
            cases v_o1324 with
            | x0 v_z1325 =>
              try dsimp only at h
              obtain rfl := Option.some.inj h
              exact pend_sound TTok mix 2 (hs := []) (by kernel_rfl) (by kernel_rfl) (by kernel_rfl) .nil
        · rw [if_neg h524] at h
          obtain rfl := Option.some.inj h
          exact pend_sound TTok mix 12 (hs := [.t false, .r ((eI .i64) v_r1252), .r ((eI .i64) v_r1268), .t true]) (by kernel_rfl) (by kernel_rfl) (by kernel_rfl) (.cons (vf h521) (.cons (G_ringref5_TurnErr_ok n v_lens1 _ h522) (.cons (G_turn_Check_ok n v_lens1 _ h523) (.cons (nt h524) .nil))))
theorem TurnSays_walk (H : ∀ (a0 : (List Int)) (a1 : Int) (a2 : (List Int)), (okL 8 (fun a => (Lit.int .i64 a).wf = true)) a0 → (fun a => (Lit.int .i64 a).wf = true) a1 → (okL 8 (fun a => (Lit.int .i64 a).wf = true)) a2 → ∃ n, G_ringlaw5_TurnSays n a0 a1 a2 = some true) (w : World) (v0 : Value) (v1 : Value) (v2 : Value) (h0 : rep.Arg w (.slice 8 (.int .i64)) v0) (h1 : rep.Arg w (.int .i64) v1) (h2 : rep.Arg w (.slice 8 (.int .i64)) v2) : Calls Try.prog 3 #[v0, v1, v2] w (help.Ret (.bool true) w) := by
  obtain ⟨a0, o0, r0⟩ := arg_one (br_slice (f := (eI .i64)) (ok := (fun a => (Lit.int .i64 a).wf = true)) (br_int .i64) (fun _ => rfl) (by decide)) (by rfl) h0
  obtain ⟨a1, o1, r1⟩ := arg_one (br_int .i64) (by rfl) h1
  obtain ⟨a2, o2, r2⟩ := arg_one (br_slice (f := (eI .i64)) (ok := (fun a => (Lit.int .i64 a).wf = true)) (br_int .i64) (fun _ => rfl) (by decide)) (by rfl) h2
  obtain ⟨n, hn⟩ := H a0 a1 a2 o0 o1 o2
  exact walk_of (G_ringlaw5_TurnSays_ok n a0 a1 a2 true hn) (RT_cons r0 (RT_cons r1 (RT_cons r2 RT_nil)))
/- FRAME TurnSays; ringhall/ringlaw5.TurnSays; (.slice 8 (.int .i64)) | (.int .i64) | (.slice 8 (.int .i64)); .slice none 0 0 | .int .i64 0 | .slice none 0 0 -/
end Go.Proofs.Ytnjaaekapbbalaa.pv
