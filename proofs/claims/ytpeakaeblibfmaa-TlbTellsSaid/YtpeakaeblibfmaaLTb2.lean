/- The plain law of TlbTells, second part: what the program's functions answer. -/
import Derived.Test.YtpeakaeblibfmaaLTb
namespace Go.Proofs.Ytpeakaeblibfmaa.tlbTells
open Go.RowKit help pv
set_option linter.all false

def fgP (o : S_tlb_Order) (x : S_tlb_Line) : Bool := decide (x.fSpace = o.fSpace) && (decide (o.fPage < 0) || decide (x.fPage = o.fPage))
def fgL (o : S_tlb_Order) (x : S_tlb_Line) : Bool := decide (x.fSpace = o.fSpace) && (decide (o.fPage = -1) || decide (x.fPage = o.fPage))
theorem fg_eq {o : S_tlb_Order} (h : ordB o = true) : fgP o = fgL o := by
  unfold ordB at h
  simp only [decide_eq_true_eq] at h
  funext x
  unfold fgP fgL
  rw [show decide (o.fPage < 0) = decide (o.fPage = -1) by rw [decide_eq_decide]; omega]
theorem forget1 (n : Nat) (x : S_tlb_Line) (o : S_tlb_Order) : G_tlb_forget_1 n x o = some (fgP o x) := by
  unfold G_tlb_forget_1 G_tlb_forget_1_C1 fgP
  by_cases h : x.fSpace = o.fSpace
  · rw [if_pos h]
    by_cases h2 : o.fPage < 0
    · rw [if_pos h2, Option.bind_some]; simp [h, h2]
    · rw [if_neg h2, Option.bind_some]; simp [h, h2]; rfl
  · rw [if_neg h, Option.bind_some]; simp [h]
theorem forget {n : Nat} {l : List S_tlb_Line} {o : S_tlb_Order} (hl : l.length < 1000000) (hn : l.length < n) : G_tlb_forget_h n l o = some (l.filter (fun x => !fgP o x)) := by
  unfold G_tlb_forget_h
  rw [G_slices_DeleteFunc_tlb_Line_tlb_Line_h_sp n _ (fgP o) l (fun y _ => forget1 n y o) hl hn]
  rfl
theorem forgetL {n : Nat} {l : List S_tlb_Line} {o : S_tlb_Order} (hl : l.length < 1000) : ∀ (k i : Nat) (acc : List S_tlb_Line), l.length - i < k → i ≤ l.length → acc.length ≤ i →
    G_ringref2_TlbForget_L2 n l o k (i : Int) acc = some (.x0 (acc ++ (l.drop i).filter (fun x => !fgL o x)))
  | 0, i, _, h, _, _ => by omega
  | k + 1, i, acc, hk, hi, ha => by
    rw [G_ringref2_TlbForget_L2]
    by_cases hlt : (i : Int) < (l.length : Int)
    · obtain ⟨x, hx⟩ := get_lt hlt
      have e : G_ringref2_TlbForget_C1 n l (i : Int) o acc x = some (.x0 (!fgL o x) acc) := by
        unfold G_ringref2_TlbForget_C1 fgL
        by_cases h : x.fSpace = o.fSpace
        · rw [if_pos h]
          by_cases h2 : o.fPage = -1
          · rw [if_pos h2]; simp [h, h2]
          · rw [if_neg h2]; simp [h, h2]; rfl
        · rw [if_neg h]; simp [h]
      rw [if_pos hlt, getI_nat, hx, Option.bind_some, e, Option.bind_some, drop_cons hx, List.filter_cons, wi_succ (by omega)]
      cases hc : fgL o x with
      | true =>
        simp only [Bool.not_true, Bool.false_eq_true, if_false]
        exact forgetL hl k (i + 1) acc (by omega) (by omega) (by omega)
      | false =>
        simp only [Bool.not_false, if_true]
        rw [app_le (m := 2000) (by simp; omega) (by decide) (by decide), Option.bind_some, forgetL hl k (i + 1) (acc ++ [x]) (by omega) (by omega) (by simp; omega)]
        simp
    · rw [if_neg hlt, drop_end hlt]; simp
theorem forgetR {n : Nat} {l : List S_tlb_Line} {o : S_tlb_Order} (hl : l.length < 1000) (hn : l.length < n) : G_ringref2_TlbForget n l o = some (l.filter (fun x => !fgL o x)) := by
  unfold G_ringref2_TlbForget
  have e := forgetL (n := n) (o := o) hl n 0 [] (by omega) (by omega) (by simp)
  have e : G_ringref2_TlbForget_L2 n l o n 0 [] = _ := e
  rw [e, Option.bind_some]; simp
theorem cloneC {n : Nat} {l : List S_tlb_Cpu} (h : l.length ≤ 1000) : G_slices_Clone_tlb_Cpu_tlb_Cpu n l = some l := by
  unfold G_slices_Clone_tlb_Cpu_tlb_Cpu
  rw [app_le (m := 1000) (by simpa using h) (by decide) (by decide)]; rfl
theorem cloneL {n : Nat} {l : List S_tlb_Line} (h : l.length ≤ 1000) : G_slices_Clone_tlb_Line_tlb_Line n l = some l := by
  unfold G_slices_Clone_tlb_Line_tlb_Line
  rw [app_le (m := 1000) (by simpa using h) (by decide) (by decide)]; rfl
theorem cloneO {n : Nat} {l : List S_tlb_Order} (h : l.length ≤ 1000) : G_slices_Clone_tlb_Order_tlb_Order n l = some l := by
  unfold G_slices_Clone_tlb_Order_tlb_Order
  rw [app_le (m := 1000) (by simpa using h) (by decide) (by decide)]; rfl
theorem with_ {n : Nat} {l : List S_tlb_Cpu} {i : Nat} {x : S_tlb_Cpu} (h : l.length ≤ 1000) (hi : i < l.length) : G_ringref2_TlbWith n l (i : Int) x = some (l.set i x) := by
  obtain ⟨y, hy⟩ : ∃ y, l[i]? = some y := ⟨_, List.getElem?_eq_getElem hi⟩
  unfold G_ringref2_TlbWith
  rw [app_le (m := 1000) (by simpa using h) (by decide) (by decide), Option.bind_some, List.nil_append, if_pos ⟨by omega, by simpa using hi⟩]
  simp only [Int.toNat_natCast]
  rw [hy]; rfl
section
variable {n : Nat} {l : List S_tlb_Cpu} (ok : Ok n l) (hb : bad l = 0)
include ok hb
theorem copiedL : ∀ (k i : Nat), l.length - i < k → i ≤ l.length → G_tlb_copied_h_L1 n l k (i : Int) l = some (.x0 l)
  | 0, i, h, _ => by omega
  | k + 1, i, hk, hi => by
    obtain ⟨h4, hc⟩ := bad_0 hb
    rw [G_tlb_copied_h_L1]
    by_cases hlt : (i : Int) < (l.length : Int)
    · obtain ⟨x, hx⟩ := get_lt hlt
      obtain ⟨c1, c2, _⟩ := hc x (List.mem_of_getElem? hx)
      have hil : i < l.length := by omega
      have e0 : wi .i64 ((i : Int) + 1) = ((i + 1 : Nat) : Int) := wi_succ (by omega)
      rw [if_pos hlt]
      simp only [e0, Int.toNat_natCast]
      rw [if_pos ⟨by omega, hil⟩, hx, Option.bind_some, cloneL (by omega), Option.bind_some, if_pos ⟨by omega, hil⟩, Option.bind_some, cloneO (by omega), Option.bind_some, if_pos ⟨by omega, hil⟩, if_pos hil, if_pos ⟨by omega, hil⟩, if_pos hil, Option.bind_some]
      rw [if_pos trivial, set_own (x := x) hx, set_own (x := x) hx]
      exact copiedL k (i + 1) (by omega) (by omega)
    · rw [if_neg hlt, if_pos (by omega)]
theorem copied : G_tlb_copied_h n l = some l := by
  have hm := ok.m
  obtain ⟨h4, hc⟩ := bad_0 hb
  unfold G_tlb_copied_h
  rw [cloneC (by omega), Option.bind_some]
  have e := copiedL ok hb n 0 (by omega) (by omega)
  have e : G_tlb_copied_h_L1 n l n 0 l = _ := e
  rw [e]; rfl
end
/-- the lines of a processor that was filled -/
def fillL (s p w : Int) (c : List S_tlb_Line) : List S_tlb_Line :=
  let r := c.filter (fun x => !sm s p x)
  if r.length = 8 then r.drop 1 ++ [⟨s, p, w⟩] else r ++ [⟨s, p, w⟩]
def full (by_ : Nat) : Nat → List S_tlb_Cpu → Bool
  | _, [] => false
  | i, c :: r => (decide (i ≠ by_) && decide (c.fOrders.length = 4)) || full by_ (i + 1) r
def shot (by_ : Nat) (f : S_tlb_Line → Bool) (o : S_tlb_Order) : Nat → List S_tlb_Cpu → List S_tlb_Cpu
  | _, [] => []
  | i, c :: r => (if i = by_ then ⟨c.fLines.filter (fun x => !f x), c.fOrders⟩ else ⟨c.fLines, c.fOrders ++ [o]⟩) :: shot by_ f o (i + 1) r
theorem set_mid {α : Type} {P r : List α} {i : Nat} {x y : α} (hP : P.length = i) : (P ++ x :: r).set i y = P ++ [y] ++ r := by
  subst hP; simp
theorem get_mid {α : Type} {P r : List α} {i : Nat} {x : α} (hP : P.length = i) : (P ++ x :: r)[i]? = some x := by
  subst hP; simp
section
variable {n : Nat} {l : List S_tlb_Cpu} (ok : Ok n l)
include ok
theorem fillG (s p w : Int) {i : Nat} {c : S_tlb_Cpu} (hb : bad l = 0) (hi : l[i]? = some c) : G_tlb_Fill n l (i : Int) s p w = some (if pgB s p = true then (l.set i ⟨fillL s p w c.fLines, c.fOrders⟩, 0) else ([], 1)) := by
  have hm := ok.m
  obtain ⟨h4, hc⟩ := bad_0 hb
  obtain ⟨c1, c2, _⟩ := hc c (List.mem_of_getElem? hi)
  have hil : i < l.length := (List.getElem?_eq_some_iff.1 hi).1
  have hk : chk l (i : Int) = 0 := by unfold chk; rw [if_neg (by omega), hb]
  unfold G_tlb_Fill
  rw [chkG ok, Option.bind_some, if_pos hk, rightG, Option.bind_some]
  cases hp : pgB s p with
  | false => rfl
  | true =>
    rw [if_pos rfl, if_pos rfl, copied ok hb, Option.bind_some]
    simp only [Int.toNat_natCast]
    have hd : G_slices_DeleteFunc_tlb_Line_tlb_Line_h n c.fLines (fun (y0 : S_tlb_Line) => G_tlb_Fill_1 n y0 s p) = some (c.fLines.filter (fun x => !sm s p x)) := G_slices_DeleteFunc_tlb_Line_tlb_Line_h_sp n _ (sm s p) c.fLines (fun y _ => fill1 n y s p) (by omega) (by omega)
    rw [if_pos ⟨by omega, hil⟩, hi, Option.bind_some, hd, Option.bind_some, Option.bind_some]
    have hle : (c.fLines.filter (fun x => !sm s p x)).length ≤ 8 := Nat.le_trans (List.length_filter_le _ _) c1
    unfold fillL
    by_cases h8 : (c.fLines.filter (fun x => !sm s p x)).length = 8
    · rw [if_pos (by omega), if_pos (by omega), if_pos (by unfold maxLen; simp only [List.length_cons, List.length_nil]; omega), if_pos ⟨by omega, hil⟩]
      simp only [h8, if_true]
    · rw [if_neg (by omega), app_le (m := 1000) (by simp; omega) (by decide) (by decide), Option.bind_some, if_pos ⟨by omega, hil⟩, if_pos hil]
      simp only [h8, if_false]
theorem lookG (s p : Int) {i : Nat} {c : S_tlb_Cpu} (hb : bad l = 0) (hi : l[i]? = some c) : ∃ w is, G_tlb_Look n l (i : Int) s p = some (w, is, 0) ∧ (∀ x ∈ c.fLines, sm s p x = true → w = x.fWord) ∧ is = decide ((c.fLines.filter (fun x => !sm s p x)).length < c.fLines.length) ∧ (is = false → w = 0) := by
  have hm := ok.m
  obtain ⟨h4, hc⟩ := bad_0 hb
  obtain ⟨c1, c2, c3, _⟩ := hc c (List.mem_of_getElem? hi)
  have hil : i < l.length := (List.getElem?_eq_some_iff.1 hi).1
  have hk : chk l (i : Int) = 0 := by unfold chk; rw [if_neg (by omega), hb]
  unfold G_tlb_Look
  rw [chkG ok, Option.bind_some, if_pos hk]
  simp only [getI_nat]
  rw [hi, Option.bind_some, find (by omega) (by omega), Option.bind_some]
  rcases findI_cases (sm s p) c.fLines with ⟨e, h⟩ | ⟨j, x, e, h1, h2, h3⟩
  · rw [e, if_pos (by decide)]
    refine ⟨0, false, rfl, fun x hx hx2 => absurd hx2 (by rw [h x hx]; decide), ?_, fun _ => rfl⟩
    symm; rw [decide_eq_false_iff_not, List.length_filter_lt_length_iff_exists]
    rintro ⟨x, hx, hx2⟩
    rw [h x hx] at hx2; exact hx2 rfl
  · rw [e, if_neg (by omega), Option.bind_some, getI_nat, h1, Option.bind_some]
    refine ⟨_, _, rfl, fun y hy hy2 => ?_, ?_, fun h => by cases h⟩
    · obtain ⟨q, hq, rfl⟩ := List.mem_iff_getElem.1 hy
      obtain ⟨hj, rfl⟩ := List.getElem?_eq_some_iff.1 h1
      have pw := List.pairwise_iff_getElem.1 c3
      simp only [sm, Bool.and_eq_true, decide_eq_true_eq] at h2 hy2
      by_cases hjq : j = q
      · subst hjq; rfl
      · exfalso
        rcases Nat.lt_or_gt_of_ne hjq with g | g
        · have := pw j q hj hq g
          simp [sm, h2, hy2] at this
        · have := pw q j hq hj g
          simp [sm, h2, hy2] at this
    · symm; rw [decide_eq_true_eq, List.length_filter_lt_length_iff_exists]
      exact ⟨x, List.mem_of_getElem? h1, by simp [h2]⟩
theorem serveG {i : Nat} {c : S_tlb_Cpu} (hb : bad l = 0) (hi : l[i]? = some c) : G_tlb_Serve n l (i : Int) = some (match c.fOrders with | [] => (l, false, 0) | o :: r => (l.set i ⟨c.fLines.filter (fun x => !fgP o x), r⟩, true, 0)) := by
  have hm := ok.m
  obtain ⟨h4, hc⟩ := bad_0 hb
  obtain ⟨c1, c2, c3, _⟩ := hc c (List.mem_of_getElem? hi)
  have hil : i < l.length := (List.getElem?_eq_some_iff.1 hi).1
  have hk : chk l (i : Int) = 0 := by unfold chk; rw [if_neg (by omega), hb]
  unfold G_tlb_Serve
  rw [chkG ok, Option.bind_some, if_pos hk, copied ok hb, Option.bind_some]
  simp only [Int.toNat_natCast]
  rw [if_pos ⟨by omega, hil⟩, hi, Option.bind_some]
  cases ho : c.fOrders with
  | nil => rfl
  | cons o r =>
    rw [if_neg (by simp; omega), Option.bind_some, if_pos hil, if_pos hil, if_pos (by simp), show ((0 : Int)).toNat = 0 from rfl, List.getElem?_cons_zero, Option.bind_some, forget (by omega) (by omega), Option.bind_some, if_pos hil, if_pos hil]
    have e := G_slices_Delete_tlb_Order_tlb_Order_h_sp (n := n) (i := 0) (j := 1) (l := o :: r) (by omega) (by simp)
    have e : G_slices_Delete_tlb_Order_tlb_Order_h n (o :: r) 0 1 = _ := e
    rw [e, Option.bind_some, if_pos hil, List.set_set]
    rfl
theorem shootL {by_ : Nat} {o : S_tlb_Order} (hb : bad l = 0) : ∀ (k i : Nat) (P : List S_tlb_Cpu), l.length - i < k → i ≤ l.length → P.length = i →
    G_tlb_Shoot_L1 n (by_ : Int) l o k (i : Int) (P ++ l.drop i) = some (if full by_ i (l.drop i) = true then .x0 9 else .x1 (P ++ shot by_ (fgP o) o i (l.drop i)))
  | 0, i, _, h, _, _ => by omega
  | k + 1, i, P, hk, hi, hP => by
    have hm := ok.m
    obtain ⟨h4, hc⟩ := bad_0 hb
    rw [G_tlb_Shoot_L1]
    by_cases hlt : (i : Int) < (l.length : Int)
    · obtain ⟨x, hx⟩ := get_lt hlt
      obtain ⟨c1, c2, _⟩ := hc x (List.mem_of_getElem? hx)
      have hil : i < l.length := by omega
      rw [if_pos hlt, drop_cons hx]
      have hlen : i < (P ++ x :: l.drop (i + 1)).length := by simp; omega
      simp only [Int.toNat_natCast]
      rw [get_mid hP, wi_succ (by omega), full, shot]
      by_cases e : i = by_
      · rw [if_pos (by omega), Option.bind_some, if_pos ⟨by omega, hlen⟩, if_pos hlen, forget (by omega) (by omega), Option.bind_some, if_pos ⟨by omega, hlen⟩, if_pos hlen, set_mid hP, shootL hb k (i + 1) _ (by omega) (by omega) (by simp; omega)]
        simp [e]
      · rw [if_neg (by omega), if_pos ⟨by omega, hlen⟩, Option.bind_some]
        by_cases h : x.fOrders.length = 4
        · rw [if_pos (by omega)]
          simp [e, h]
        · rw [if_neg (by omega), if_pos ⟨by omega, hlen⟩, if_pos hlen, app_le (m := 1000) (by simp; omega) (by decide) (by decide), Option.bind_some, if_pos ⟨by omega, hlen⟩, if_pos hlen, set_mid hP, shootL hb k (i + 1) _ (by omega) (by omega) (by simp; omega)]
          simp [e, h]
    · rw [if_neg hlt, drop_end hlt]; simp [full, shot]
theorem shootG (o : S_tlb_Order) {i : Nat} {c : S_tlb_Cpu} (hb : bad l = 0) (hi : l[i]? = some c) : G_tlb_Shoot n l (i : Int) o = some (if ordB o = true then (if full i 0 l = true then ([], 9) else (shot i (fgP o) o 0 l, 0)) else ([], 1)) := by
  have hm := ok.m
  obtain ⟨h4, hc⟩ := bad_0 hb
  have hil : i < l.length := (List.getElem?_eq_some_iff.1 hi).1
  have hk : chk l (i : Int) = 0 := by unfold chk; rw [if_neg (by omega), hb]
  unfold G_tlb_Shoot G_tlb_Shoot_J1
  rw [chkG ok, Option.bind_some, if_pos hk, rightG, Option.bind_some, ordB_right]
  cases hp : pgB o.fSpace (maxI o.fPage 0) with
  | false => rfl
  | true =>
    rw [if_pos rfl]
    by_cases h : o.fPage < -1
    · rw [if_pos h]; simp [h]
    · rw [if_neg h, copied ok hb, Option.bind_some]
      have e := shootL ok (by_ := i) (o := o) hb n 0 [] (by omega) (by omega) rfl
      have e : G_tlb_Shoot_L1 n (i : Int) l o n 0 l = _ := e
      rw [e, Option.bind_some, List.drop_zero]
      simp only [h, decide_false, Bool.not_false, Bool.and_true, if_true]
      cases full i 0 l <;> rfl
def hasO (n : Nat) (o : S_tlb_Order) (c : S_tlb_Cpu) : Bool := (G_slices_Contains_tlb_Order_tlb_Order n c.fOrders o).getD false
omit ok in
theorem hasO_is {n : Nat} {o : S_tlb_Order} {c : S_tlb_Cpu} (h : c.fOrders.length < 4611686018427387903) (hn : c.fOrders.length + 20000 < n) : G_slices_Contains_tlb_Order_tlb_Order n c.fOrders o = some (hasO n o c) := by
  obtain ⟨r, hr, _⟩ := G_slices_Contains_tlb_Order_tlb_Order_sp (n := n) (l := c.fOrders) o h (by omega)
  unfold hasO
  rw [hr]; rfl
theorem doneG (o : S_tlb_Order) : G_tlb_Done n l o = some (decide (bad l = 0) && !(l.any (hasO n o)), bad l) := by
  have hm := ok.m
  have hk := ok.k
  unfold G_tlb_Done
  rw [check ok, Option.bind_some]
  by_cases h : bad l = 0
  · rw [if_pos h, G_slices_ContainsFunc_tlb_Cpu_tlb_Cpu_sp (hasO n o) (fun y hy => by
      unfold G_tlb_Done_1
      obtain ⟨_, u1, u2⟩ := ok.u y hy
      rw [hasO_is u1 u2]; rfl) hk (by omega), Option.bind_some, h]
    rfl
  · rw [if_neg h, decide_eq_false h]; rfl
theorem bads (o : S_tlb_Order) (s p w cpu : Int) (hk : chk l cpu ≠ 0) : G_tlb_Fill n l cpu s p w = some ([], chk l cpu) ∧ G_tlb_Look n l cpu s p = some (0, false, chk l cpu) ∧ G_tlb_Shoot n l cpu o = some ([], chk l cpu) ∧ G_tlb_Serve n l cpu = some ([], false, chk l cpu) := by
  unfold G_tlb_Fill G_tlb_Look G_tlb_Shoot G_tlb_Serve
  rw [chkG ok]
  simp only [Option.bind_some]
  rw [if_neg hk, if_neg hk, if_neg hk, if_neg hk]
  exact ⟨rfl, rfl, rfl, rfl⟩
end
theorem eqLn (x : S_tlb_Line) : (eqRes .neq (eqS_tlb_Line x x)) = false := by simp [eqRes, eqS_tlb_Line]
theorem eqOd (x : S_tlb_Order) : (eqRes .neq (eqS_tlb_Order x x)) = false := by simp [eqRes, eqS_tlb_Order]
section
variable {n : Nat} {a : List S_tlb_Cpu} (hl : a.length < 1000) (hn : 2000 < n) (hc : ∀ c ∈ a, c.fLines.length < 1000 ∧ c.fOrders.length < 1000)
include hl hn hc
omit hn in
theorem sameL2 {i : Nat} {c : S_tlb_Cpu} (hi : a[i]? = some c) : ∀ (k j : Nat), c.fLines.length - j < k → j ≤ c.fLines.length → G_ringref2_TlbSame_L2 n a a (i : Int) c k (j : Int) = some .x1
  | 0, j, h, _ => by omega
  | k + 1, j, hk, hj => by
    have := hc c (List.mem_of_getElem? hi)
    rw [G_ringref2_TlbSame_L2]
    by_cases hlt : (j : Int) < (c.fLines.length : Int)
    · obtain ⟨x, hx⟩ := get_lt hlt
      simp only [getI_nat]
      rw [if_pos hlt]
      simp only [hi, hx, Option.bind_some]
      rw [eqLn, if_neg (by decide), wi_succ (by omega)]
      exact sameL2 hi k (j + 1) (by omega) (by omega)
    · rw [if_neg hlt]
omit hn in
theorem sameL3 {i : Nat} {c : S_tlb_Cpu} (hi : a[i]? = some c) : ∀ (k j : Nat), c.fOrders.length - j < k → j ≤ c.fOrders.length → G_ringref2_TlbSame_L3 n a a (i : Int) c k (j : Int) = some .x1
  | 0, j, h, _ => by omega
  | k + 1, j, hk, hj => by
    have := hc c (List.mem_of_getElem? hi)
    rw [G_ringref2_TlbSame_L3]
    by_cases hlt : (j : Int) < (c.fOrders.length : Int)
    · obtain ⟨x, hx⟩ := get_lt hlt
      simp only [getI_nat]
      rw [if_pos hlt]
      simp only [hi, hx, Option.bind_some]
      rw [eqOd, if_neg (by decide), wi_succ (by omega)]
      exact sameL3 hi k (j + 1) (by omega) (by omega)
    · rw [if_neg hlt]
theorem sameL4 : ∀ (k i : Nat), a.length - i < k → i ≤ a.length → G_ringref2_TlbSame_L4 n a a k (i : Int) = some .x1
  | 0, j, h, _ => by omega
  | k + 1, i, hk, hi => by
    rw [G_ringref2_TlbSame_L4]
    by_cases hlt : (i : Int) < (a.length : Int)
    · obtain ⟨c, hx⟩ := get_lt hlt
      have hc2 := hc c (List.mem_of_getElem? hx)
      have e1 : G_ringref2_TlbSame_C1 n a a (i : Int) = some (.x0 false) := by
        unfold G_ringref2_TlbSame_C1
        simp only [getI_nat, hx, Option.bind_some]
        simp
      have e2 := sameL2 (n := n) hl hc hx n 0 (by omega) (by omega)
      have e2 : G_ringref2_TlbSame_L2 n a a (i : Int) c n 0 = _ := e2
      have e3 := sameL3 (n := n) hl hc hx n 0 (by omega) (by omega)
      have e3 : G_ringref2_TlbSame_L3 n a a (i : Int) c n 0 = _ := e3
      rw [if_pos hlt, e1, Option.bind_some]
      simp only [getI_nat, hx, Option.bind_some, Bool.false_eq_true, if_false, e2, e3]
      rw [wi_succ (by omega)]
      exact sameL4 k (i + 1) (by omega) (by omega)
    · rw [if_neg hlt]
theorem same : G_ringref2_TlbSame n a a = some true := by
  unfold G_ringref2_TlbSame
  have e := sameL4 hl hn hc n 0 (by omega) (by omega)
  have e : G_ringref2_TlbSame_L4 n a a n 0 = _ := e
  rw [if_pos rfl, e]; rfl
end
end Go.Proofs.Ytpeakaeblibfmaa.tlbTells
