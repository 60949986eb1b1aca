/- Contracts of package label's functions. -/
import Derived.Test.YtiajagahghgclaaHelp
import Derived.WalkKit
import Derived.ProofKit
import Derived.OpenShut
import Derived.Below
import Derived.Outline
import Derived.Lib.Hide
import Derived.Deep.QuietTactic
import Derived.BigQuiet
import Derived.WalkSpells
namespace Go.Proofs.Ytiajagahghgclaa.lab
open Go.ChangeShapes Go.WideShapes Go.ChangeAt Go.RowKit help
set_option linter.unusedVariables false

def chk (l k : Int) : Int := if l < 0 ∨ 7 < l ∨ k < 0 ∨ 255 < k then 1 else 0

theorem check_any (l k : Int) (w : World) :
    Calls Try.prog 10 #[.agg #[.int .i64 l, .int .i64 k]] w (Ret (.int .i64 (chk l k)) w) := by
  go_enter Try.func10, Try.ntmps10
  go_wp2
  all_goals go_ret
  all_goals refine ⟨ret_int ?_, (by repeat' (first | exact Below.refl _ _ | assumption | apply Below.drew | apply bel_drewN | (refine Below.alloc ?_ (by first | omega | (simp; done) | (simp; omega) | (simp at *; omega)) _) | (refine Below.setCell ?_ (by first | omega | (simp; done) | (simp; omega) | (simp at *; omega)) _)))⟩
  all_goals unfold chk
  all_goals first | rw [if_pos (by omega)] | rw [if_neg (by omega)]

def both (l k l' k' : Int) : Int := if chk l k = 0 then chk l' k' else 1
theorem chk01 (l k : Int) : chk l k = 0 ∨ chk l k = 1 := by unfold chk; split <;> simp

theorem both_any (l k l' k' : Int) (w : World) :
    Calls Try.prog 40 #[.agg #[.int .i64 l, .int .i64 k], .agg #[.int .i64 l', .int .i64 k']] w (Ret (.int .i64 (both l k l' k')) w) := by
  have h01 := chk01 l k
  go_enter Try.func40, Try.ntmps40
  go_wp2_with fail
  refine (check_any _ _ _).mono ?_
  rintro e w1 ⟨rfl, hb1⟩
  obtain ⟨hc, hf⟩ := bcell hb1
  have hB : Below w.heap.size w w1 := Below.trans (by repeat' (first | exact Below.refl _ _ | assumption | apply Below.drew | apply bel_drewN | (refine Below.alloc ?_ (by first | omega | (simp; done) | (simp; omega) | (simp at *; omega)) _) | (refine Below.setCell ?_ (by first | omega | (simp; done) | (simp; omega) | (simp at *; omega)) _))) (hb1.mono (by first | omega | (simp; done) | (simp; omega) | (simp at *; omega)))
  go_wp2_with fail
  · go_ret
    refine ⟨ret_int ?_, hB⟩
    have : chk l k ≠ 0 := by simpa using ‹(chk l k != 0) = true›
    unfold both; rw [if_neg this]; omega
  · refine (check_any _ _ _).mono ?_
    rintro e w2 ⟨rfl, hb2⟩
    go_wp2_with fail
    go_ret
    refine ⟨ret_int ?_, hB.trans (hb2.mono hB.size)⟩
    have : chk l k = 0 := by simpa using ‹(chk l k != 0) = false›
    unfold both; rw [if_pos this]

theorem both01 (l k l' k' : Int) : both l k l' k' = 0 ∨ both l k l' k' = 1 := by have := chk01 l' k'; unfold both; split <;> simp_all

def flows (l k l' k' : Int) : Bool := if both l k l' k' = 0 then decide (l ≤ l') && (bits .andNot .i64 k k' == 0) else false
theorem flows_any (l k l' k' : Int) (w : World) :
    Calls Try.prog 7 #[.agg #[.int .i64 l, .int .i64 k], .agg #[.int .i64 l', .int .i64 k']] w
      (Ret (.tuple #[.bool (flows l k l' k'), .int .i64 (both l k l' k')]) w) := by
  go_enter Try.func7, Try.ntmps7
  go_wp2_with fail
  refine (both_any _ _ _ _ _).mono ?_
  rintro e w1 ⟨rfl, hb1⟩
  obtain ⟨hc, hf⟩ := bcell hb1
  have hB : Below w.heap.size w w1 := Below.trans (by repeat' (first | exact Below.refl _ _ | assumption | apply Below.drew | apply bel_drewN | (refine Below.alloc ?_ (by first | omega | (simp; done) | (simp; omega) | (simp at *; omega)) _) | (refine Below.setCell ?_ (by first | omega | (simp; done) | (simp; omega) | (simp at *; omega)) _))) (hb1.mono (by first | omega | (simp; done) | (simp; omega) | (simp at *; omega)))
  by_cases h0 : both l k l' k' = 0
  · have H0 := Lib.hid h0
    have h1 : (both l k l' k' != 0) = false := by simp [h0]
    clear h0
    go_wp2_with fail
    all_goals go_ret2
    all_goals refine ⟨ret_two (v_bool ?_) (v_int H0.out.symm), hB⟩
    all_goals unfold flows
    all_goals rw [if_pos H0.out]
    all_goals first | (simp [*]; done) | (simp [*]; omega)
  · have H0 := Lib.hid h0
    have h1 : (both l k l' k' != 0) = true := by simp [h0]
    clear h0
    go_wp2_with fail
    go_ret2
    refine ⟨ret_two (v_bool ?_) rfl, hB⟩
    unfold flows
    rw [if_neg H0.out]

def joinL (l k l' k' : Int) : Int := if both l k l' k' = 0 then max l l' else 0
def joinK (l k l' k' : Int) : Int := if both l k l' k' = 0 then bits .or .i64 k k' else 0
def meetL (l k l' k' : Int) : Int := if both l k l' k' = 0 then min l l' else 0
def meetK (l k l' k' : Int) : Int := if both l k l' k' = 0 then bits .and .i64 k k' else 0
theorem join_any (l k l' k' : Int) (w : World) :
    Calls Try.prog 8 #[.agg #[.int .i64 l, .int .i64 k], .agg #[.int .i64 l', .int .i64 k']] w
      (Ret (.tuple #[.agg #[.int .i64 (joinL l k l' k'), .int .i64 (joinK l k l' k')], .int .i64 (both l k l' k')]) w) := by
  go_enter Try.func8, Try.ntmps8
  go_wp2_with fail
  refine (both_any _ _ _ _ _).mono ?_
  rintro e w1 ⟨rfl, hb1⟩
  obtain ⟨hc, hf⟩ := bcell hb1
  have hz : w.heap.size + 2 < w1.heap.size := by have := hb1.size; simp at this; omega
  have hB : Below w.heap.size w w1 := Below.trans (by repeat' (first | exact Below.refl _ _ | assumption | apply Below.drew | apply bel_drewN | (refine Below.alloc ?_ (by first | omega | (simp; done) | (simp; omega) | (simp at *; omega)) _) | (refine Below.setCell ?_ (by first | omega | (simp; done) | (simp; omega) | (simp at *; omega)) _))) (hb1.mono (by first | omega | (simp; done) | (simp; omega) | (simp at *; omega)))
  by_cases h0 : both l k l' k' = 0
  · have H0 := Lib.hid h0
    have h1 : (both l k l' k' != 0) = false := by simp [h0]
    clear h0
    have eL : Hid (joinL l k l' k' = _) := if_pos H0.out
    have eK : Hid (joinK l k l' k' = _) := if_pos H0.out
    go_wp2_with fail
    all_goals refine bodyPost_ret (v := .tuple #[.agg #[.int .i64 (max l l'), .int .i64 (bits .or .i64 k k')], .int .i64 0]) (by (simp [results, Try.results8, go_sem, hc, hf, hz]) <;> omega) rfl ⟨ret_two (by rw [eL.out, eK.out]) (v_int H0.out.symm), ?_⟩
    all_goals exact (hB.setCell (by first | omega | (simp; done) | (simp; omega) | (simp at *; omega)) _).setCell (by first | omega | (simp; done) | (simp; omega) | (simp at *; omega)) _
  · have H0 := Lib.hid h0
    have h1 : (both l k l' k' != 0) = true := by simp [h0]
    clear h0
    have eL : Hid (joinL l k l' k' = _) := if_neg H0.out
    have eK : Hid (joinK l k l' k' = _) := if_neg H0.out
    go_wp2_with fail
    refine bodyPost_ret (v := .tuple #[.agg #[.int .i64 0, .int .i64 0]  , .int .i64 (both l k l' k')]) (by (simp [results, Try.results8, go_sem, hc, hf, hz]) <;> omega) rfl ⟨ret_two (by rw [eL.out, eK.out]) rfl, ?_⟩
    exact (hB.setCell (by first | omega | (simp; done) | (simp; omega) | (simp at *; omega)) _).setCell (by first | omega | (simp; done) | (simp; omega) | (simp at *; omega)) _
theorem meet_any (l k l' k' : Int) (w : World) :
    Calls Try.prog 9 #[.agg #[.int .i64 l, .int .i64 k], .agg #[.int .i64 l', .int .i64 k']] w
      (Ret (.tuple #[.agg #[.int .i64 (meetL l k l' k'), .int .i64 (meetK l k l' k')], .int .i64 (both l k l' k')]) w) := by
  go_enter Try.func9, Try.ntmps9
  go_wp2_with fail
  refine (both_any _ _ _ _ _).mono ?_
  rintro e w1 ⟨rfl, hb1⟩
  obtain ⟨hc, hf⟩ := bcell hb1
  have hz : w.heap.size + 2 < w1.heap.size := by have := hb1.size; simp at this; omega
  have hB : Below w.heap.size w w1 := Below.trans (by repeat' (first | exact Below.refl _ _ | assumption | apply Below.drew | apply bel_drewN | (refine Below.alloc ?_ (by first | omega | (simp; done) | (simp; omega) | (simp at *; omega)) _) | (refine Below.setCell ?_ (by first | omega | (simp; done) | (simp; omega) | (simp at *; omega)) _))) (hb1.mono (by first | omega | (simp; done) | (simp; omega) | (simp at *; omega)))
  by_cases h0 : both l k l' k' = 0
  · have H0 := Lib.hid h0
    have h1 : (both l k l' k' != 0) = false := by simp [h0]
    clear h0
    have eL : Hid (meetL l k l' k' = _) := if_pos H0.out
    have eK : Hid (meetK l k l' k' = _) := if_pos H0.out
    go_wp2_with fail
    all_goals refine bodyPost_ret (v := .tuple #[.agg #[.int .i64 (min l l'), .int .i64 (bits .and .i64 k k')], .int .i64 0]) (by (simp [results, Try.results9, go_sem, hc, hf, hz]) <;> omega) rfl ⟨ret_two (by rw [eL.out, eK.out]) (v_int H0.out.symm), ?_⟩
    all_goals exact (hB.setCell (by first | omega | (simp; done) | (simp; omega) | (simp at *; omega)) _).setCell (by first | omega | (simp; done) | (simp; omega) | (simp at *; omega)) _
  · have H0 := Lib.hid h0
    have h1 : (both l k l' k' != 0) = true := by simp [h0]
    clear h0
    have eL : Hid (meetL l k l' k' = _) := if_neg H0.out
    have eK : Hid (meetK l k l' k' = _) := if_neg H0.out
    go_wp2_with fail
    refine bodyPost_ret (v := .tuple #[.agg #[.int .i64 0, .int .i64 0]  , .int .i64 (both l k l' k')]) (by (simp [results, Try.results9, go_sem, hc, hf, hz]) <;> omega) rfl ⟨ret_two (by rw [eL.out, eK.out]) rfl, ?_⟩
    exact (hB.setCell (by first | omega | (simp; done) | (simp; omega) | (simp at *; omega)) _).setCell (by first | omega | (simp; done) | (simp; omega) | (simp at *; omega)) _

/-- FlowsOf's answer: no bit of k below 8 that k' lacks -/
def lacks (k k' : Int) (i : Nat) : Bool := (bits .and .i64 (k / 2 ^ i) 1 == 1) && (bits .and .i64 (k' / 2 ^ i) 1 == 0)
def fo (l k l' k' : Int) : Bool := if (List.range 8).any (lacks k k') then false else decide (l ≤ l')
theorem fo_yes {l k l' k' : Int} {n : Nat} (h : n < 8) (hn : lacks k k' n = true) : fo l k l' k' = false := by
  unfold fo; rw [if_pos]; simp; exact ⟨n, h, hn⟩
theorem fo_no {l k l' k' : Int} (hn : ∀ n, n < 8 → lacks k k' n = false) : fo l k l' k' = decide (l ≤ l') := by
  unfold fo; rw [if_neg]; simp; exact hn
theorem flowsOf_any (l k l' k' : Int) (w : World) (hk : 0 ≤ k) (hk' : 0 ≤ k') :
    Calls Try.prog 11 #[.int .i64 l, .int .i64 k, .int .i64 l', .int .i64 k'] w fun e w' => e = .returned (.bool (fo l k l' k')) ∧ w = w' := by
  go_enter Try.func11, Try.ntmps11
  go_wp2_with fail
  go_loop [10] (fun i => ∃ n : Nat, n ≤ 8 ∧ i = .int .i64 n ∧ ∀ j, j < n → lacks k k' j = false) (fun i => 8 - (intOf i).toNat)
  case atStart => exact ⟨0, by omega, rfl, by omega⟩
  case round =>
    obtain ⟨n, hn, rfl, hj⟩ := hrel
    have HJ := Lib.hid hj
    clear hj
    go_wp2_with fail
    · go_ret
      refine ⟨ret_bool ?_, rfl⟩
      exact (fo_yes (n := n) (by omega) (by simp [lacks, *])).symm
    · go_round
      case rel => exact ⟨n + 1, by omega, by go_num, fun j hj => if e : j = n then by subst e; simp [lacks, *] else HJ.out j (by omega)⟩
      case measure => simp [intOf]; omega
    · go_round
      case rel => exact ⟨n + 1, by omega, by go_num, fun j hj => if e : j = n then by subst e; simp [lacks, *] else HJ.out j (by omega)⟩
      case measure => simp [intOf]; omega
    · go_ret
      refine ⟨ret_bool ?_, rfl⟩
      exact (fo_no (fun j hj => HJ.out j (by omega))).symm
end Go.Proofs.Ytiajagahghgclaa.lab
