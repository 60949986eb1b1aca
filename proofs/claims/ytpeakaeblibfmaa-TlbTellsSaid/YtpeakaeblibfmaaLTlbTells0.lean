/- The plain law of TlbTells: all of it. -/
import Derived.Test.YtpeakaeblibfmaaLTb2
namespace Go.Proofs.Ytpeakaeblibfmaa.tlbTells
open Go.RowKit help pv
set_option linter.all false

theorem lawL2 {n : Nat} {l : List S_tlb_Cpu} (ok : Ok n l) {cpu sp pg wd : Int} {a b c : List S_tlb_Cpu} {e w e1 e2 e3 bd : Int} {is did done : Bool} (o : S_tlb_Order) : ∀ (k i : Nat) (ord : Bool), l.length - i < k → i ≤ l.length →
    G_ringlaw2_TlbTells_L2 n l cpu sp pg wd a e w is e1 b e2 c did e3 done bd o k ord (i : Int) = some (.x0 (ord || (l.drop i).any (hasO n o)))
  | 0, i, _, h, _ => by omega
  | k + 1, i, ord, hk, hi => by
    have hl := ok.k
    rw [G_ringlaw2_TlbTells_L2]
    by_cases hlt : (i : Int) < (l.length : Int)
    · obtain ⟨x, hx⟩ := get_lt hlt
      obtain ⟨_, u1, u2⟩ := ok.u x (List.mem_of_getElem? hx)
      rw [if_pos hlt, getI_nat, hx, Option.bind_some, drop_cons hx, List.any_cons, wi_succ (by omega)]
      cases ord with
      | true => rw [if_pos rfl, lawL2 ok o k (i + 1) true (by omega) (by omega)]; simp
      | false =>
        rw [if_neg (by decide), hasO_is u1 u2, Option.bind_some, lawL2 ok o k (i + 1) _ (by omega) (by omega)]
        simp
    · rw [if_neg hlt, drop_end hlt]; simp
theorem lawL6 {n : Nat} {l : List S_tlb_Cpu} {cpu sp pg wd : Int} {a b c : List S_tlb_Cpu} {e w e1 e2 e3 : Int} {is did : Bool} {y : S_tlb_Cpu} {o : S_tlb_Order} (hl : y.fLines.length ≤ 8) (hw : ∀ x ∈ y.fLines, sm sp pg x = true → w = x.fWord) : ∀ (k i : Nat) (acc : List S_tlb_Line), y.fLines.length - i < k → i ≤ y.fLines.length → acc.length ≤ i →
    G_ringlaw2_TlbTells_L6 n l cpu sp pg wd a e w is e1 b e2 c did e3 y o k (i : Int) acc = some (.x1 (acc ++ (y.fLines.drop i).filter (fun x => !sm sp pg x)))
  | 0, i, _, h, _, _ => by omega
  | k + 1, i, acc, hk, hi, ha => by
    rw [G_ringlaw2_TlbTells_L6]
    by_cases hlt : (i : Int) < (y.fLines.length : Int)
    · obtain ⟨x, hx⟩ := get_lt hlt
      have hww := hw x (List.mem_of_getElem? hx)
      have e0 : G_ringlaw2_TlbTells_C5 n l cpu sp pg wd a e w is e1 b e2 c did e3 y (i : Int) o acc = some (.x0 (if sm sp pg x = true then acc else acc ++ [x])) := by
        unfold G_ringlaw2_TlbTells_C5
        rw [getI_nat, hx, Option.bind_some]
        by_cases h1 : x.fSpace = sp
        · rw [if_pos h1]
          by_cases h2 : x.fPage = pg
          · have h3 : sm sp pg x = true := by simp [sm, h1, h2]
            rw [if_pos h2, if_pos (hww h3), if_pos h3]
          · have h3 : ¬ sm sp pg x = true := by simp [sm, h1, h2]
            rw [if_neg h2, app_le (m := 1000) (by simp; omega) (by decide) (by decide), Option.bind_some, if_neg h3]
        · have h3 : ¬ sm sp pg x = true := by simp [sm, h1]
          rw [if_neg h1, app_le (m := 1000) (by simp; omega) (by decide) (by decide), Option.bind_some, if_neg h3]
      rw [if_pos hlt, e0, Option.bind_some, drop_cons hx, List.filter_cons, wi_succ (by omega)]
      simp only []
      cases hc : sm sp pg x with
      | true =>
        simp only [if_true, Bool.not_true, Bool.false_eq_true, if_false]
        exact lawL6 hl hw k (i + 1) acc (by omega) (by omega) (by omega)
      | false =>
        simp only [Bool.false_eq_true, if_false, Bool.not_false, if_true]
        rw [lawL6 hl hw k (i + 1) (acc ++ [x]) (by omega) (by omega) (by simp; omega)]
        simp
    · rw [if_neg hlt, drop_end hlt]; simp
theorem lawL12 {n : Nat} {l : List S_tlb_Cpu} (ok : Ok n l) (hb : bad l = 0) {by_ : Nat} {b : List S_tlb_Cpu} {e : Int} {o : S_tlb_Order} : ∀ (k i : Nat) (fl : Bool) (P : List S_tlb_Cpu), l.length - i < k → i ≤ l.length → P.length = i →
    G_ringlaw2_TlbTells_L12 n (by_ : Int) b e l o k fl (P ++ l.drop i) (i : Int) = some (.x0 (fl || full by_ i (l.drop i)) (P ++ shot by_ (fgL o) o i (l.drop i)))
  | 0, i, _, _, h, _, _ => by omega
  | k + 1, i, fl, P, hk, hi, hP => by
    have hm := ok.m
    obtain ⟨h4, hc⟩ := bad_0 hb
    rw [G_ringlaw2_TlbTells_L12]
    by_cases hlt : (i : Int) < (l.length : Int)
    · obtain ⟨x, hx⟩ := get_lt hlt
      obtain ⟨c1, c2, _⟩ := hc x (List.mem_of_getElem? hx)
      have hlen : i < (P ++ x :: l.drop (i + 1)).length := by simp; omega
      have hlen2 : (P ++ x :: l.drop (i + 1)).length ≤ 1000 := by simp; omega
      have e0 : G_ringlaw2_TlbTells_C11 n (by_ : Int) b e fl (P ++ x :: l.drop (i + 1)) l (i : Int) o = some (.x0 (fl || (decide (i ≠ by_) && decide (x.fOrders.length = 4))) (P ++ [(if i = by_ then ⟨x.fLines.filter (fun x => !fgL o x), x.fOrders⟩ else ⟨x.fLines, x.fOrders ++ [o]⟩)] ++ l.drop (i + 1))) := by
        unfold G_ringlaw2_TlbTells_C11
        rw [getI_nat, hx, Option.bind_some]
        by_cases h : i = by_
        · rw [if_pos (by omega), forgetR (by omega) (by omega), Option.bind_some, with_ hlen2 hlen, Option.bind_some, set_mid hP]
          simp [h]
        · rw [if_neg (by omega)]
          cases fl with
          | true =>
            rw [if_pos rfl, cloneO (by omega), Option.bind_some, app_le (m := 1000) (by simp; omega) (by decide) (by decide), Option.bind_some, with_ hlen2 hlen, Option.bind_some, set_mid hP]
            simp [h]
          | false =>
            rw [if_neg (by decide), cloneO (by omega), Option.bind_some, app_le (m := 1000) (by simp; omega) (by decide) (by decide), Option.bind_some, with_ hlen2 hlen, Option.bind_some, set_mid hP]
            have : ((x.fOrders.length : Int) == 4) = decide (x.fOrders.length = 4) := by
              rw [Bool.eq_iff_iff, beq_iff_eq, decide_eq_true_eq]; omega
            simp [h, this]
      rw [if_pos hlt, drop_cons hx, e0, Option.bind_some]
      simp only []
      rw [wi_succ (by omega), full, shot, lawL12 ok hb k (i + 1) _ _ (by omega) (by omega) (by simp; omega)]
      rw [Bool.or_assoc]
      simp
    · rw [if_neg hlt, drop_end hlt]; simp [full, shot]
theorem small_set {l : List S_tlb_Cpu} {i : Nat} {x : S_tlb_Cpu} (hc : ∀ c ∈ l, c.fLines.length < 1000 ∧ c.fOrders.length < 1000) (hx : x.fLines.length < 1000 ∧ x.fOrders.length < 1000) : ∀ c ∈ l.set i x, c.fLines.length < 1000 ∧ c.fOrders.length < 1000 := by
  intro c h
  rcases List.mem_or_eq_of_mem_set h with h | rfl
  · exact hc c h
  · exact hx
theorem shot_len (b : Nat) (f : S_tlb_Line → Bool) (o : S_tlb_Order) : ∀ (l : List S_tlb_Cpu) (i : Nat), (shot b f o i l).length = l.length
  | [], _ => rfl
  | c :: l, i => by simp [shot, shot_len b f o l (i + 1)]
theorem small_shot (b : Nat) (f : S_tlb_Line → Bool) (o : S_tlb_Order) : ∀ (l : List S_tlb_Cpu) (i : Nat), (∀ c ∈ l, c.fLines.length ≤ 8 ∧ c.fOrders.length ≤ 4) → ∀ c ∈ shot b f o i l, c.fLines.length < 1000 ∧ c.fOrders.length < 1000
  | [], _, _, c, h => by cases h
  | d :: l, i, hc, c, h => by
    have hd := hc d (List.mem_cons_self ..)
    have hf := List.length_filter_le (fun x => !f x) d.fLines
    rcases List.mem_cons.1 h with rfl | h
    · split
      · constructor
        · simp only; omega
        · simp only; omega
      · simp; omega
    · exact small_shot b f o l (i + 1) (fun c h => hc c (List.mem_cons_of_mem _ h)) c h
section
variable {n : Nat} {l : List S_tlb_Cpu} (ok : Ok n l)
include ok
theorem lawJ1 {i : Nat} {y : S_tlb_Cpu} (hb : bad l = 0) (hi : l[i]? = some y) (sp pg wd : Int) (o : S_tlb_Order) {w : Int} {is : Bool} (h1 : ∀ x ∈ y.fLines, sm sp pg x = true → w = x.fWord) (h2 : is = decide ((y.fLines.filter (fun x => !sm sp pg x)).length < y.fLines.length)) (h3 : is = false → w = 0)
    {a b c : List S_tlb_Cpu} {e2 e4 e5 : Int} {did : Bool} (ha : (a, e2) = (if pgB sp pg = true then (l.set i ⟨fillL sp pg wd y.fLines, y.fOrders⟩, 0) else ([], 1)))
    (hbb : (b, e4) = (if ordB o = true then (if full i 0 l = true then ([], 9) else (shot i (fgP o) o 0 l, 0)) else ([], 1)))
    (hcc : (c, did, e5) = (match y.fOrders with | [] => (l, false, 0) | o :: r => (l.set i ⟨y.fLines.filter (fun x => !fgP o x), r⟩, true, 0))) :
    G_ringlaw2_TlbTells_J1 n l (i : Int) sp pg wd o a e2 w is 0 b e4 c did e5 0 = some true := by
  have hm := ok.m
  obtain ⟨h4, hc⟩ := bad_0 hb
  obtain ⟨c1, c2, c3, c4⟩ := hc y (List.mem_of_getElem? hi)
  have hil : i < l.length := (List.getElem?_eq_some_iff.1 hi).1
  have hsm : ∀ c ∈ l, c.fLines.length < 1000 ∧ c.fOrders.length < 1000 := fun c hcl => by have := hc c hcl; omega
  have hsm8 : ∀ c ∈ l, c.fLines.length ≤ 8 ∧ c.fOrders.length ≤ 4 := fun c hcl => ⟨(hc c hcl).1, (hc c hcl).2.1⟩
  have hlf : (y.fLines.filter (fun x => !sm sp pg x)).length ≤ y.fLines.length := List.length_filter_le _ _
  unfold G_ringlaw2_TlbTells_J1
  have e6 := lawL6 (n := n) (l := l) (cpu := (i : Int)) (wd := wd) (a := a) (b := b) (c := c) (e := e2) (e1 := 0) (e2 := e4) (e3 := e5) (is := is) (did := did) (o := o) c1 h1 n 0 [] (by omega) (by omega) (by simp)
  have e6 : G_ringlaw2_TlbTells_L6 n l (i : Int) sp pg wd a e2 w is 0 b e4 c did e5 y o n 0 [] = _ := e6
  rw [if_pos rfl, getI_nat, hi, Option.bind_some, e6, Option.bind_some]
  simp only [List.drop_zero, List.nil_append]
  have e7 : G_ringlaw2_TlbTells_C7 n l (i : Int) sp pg wd a e2 w is 0 b e4 c did e5 o y (y.fLines.filter (fun x => !sm sp pg x)) = some (.x0 false (y.fLines.filter (fun x => !sm sp pg x))) := by
    unfold G_ringlaw2_TlbTells_C7
    have : decide (((y.fLines.filter (fun x => !sm sp pg x)).length : Int) < (y.fLines.length : Int)) = is := by rw [h2, decide_eq_decide]; omega
    rw [this]
    rw [if_neg (by simp [eqRes])]
    cases his : is with
    | true => rfl
    | false => rw [if_neg (by decide), if_pos (h3 his)]; rfl
  rw [e7, Option.bind_some]
  simp only []
  rw [if_neg (by decide), pageG, Option.bind_some]
  have e8 : G_ringlaw2_TlbTells_C8 n l (i : Int) sp pg wd a e2 b e4 c did e5 (pgB sp pg) o y (y.fLines.filter (fun x => !sm sp pg x)) = some .x1 := by
    unfold G_ringlaw2_TlbTells_C8
    cases hp : pgB sp pg with
    | false =>
      rw [hp, if_neg (by decide)] at ha; cases ha
      rw [if_neg (by decide), if_neg (by decide), if_pos rfl]
    | true =>
      rw [hp, if_pos rfl] at ha; cases ha
      rw [if_pos rfl, app_le (m := 1000) (by simp only [List.length_cons, List.length_nil]; omega) (by decide) (by decide), Option.bind_some]
      have hs := same (n := n) (a := l.set i ⟨fillL sp pg wd y.fLines, y.fOrders⟩) (by rw [List.length_set]; omega) (by omega) (small_set hsm ⟨by
        simp only; unfold fillL
        simp only []
        split
        · simp; omega
        · simp only [List.length_append, List.length_cons, List.length_nil]; omega, by simp only; omega⟩)
      by_cases h8 : (y.fLines.filter (fun x => !sm sp pg x)).length = 8
      · have hf : fillL sp pg wd y.fLines = (y.fLines.filter (fun x => !sm sp pg x)).drop 1 ++ [⟨sp, pg, wd⟩] := by
          unfold fillL; simp only [h8, if_true]
        have hd : ((y.fLines.filter (fun x => !sm sp pg x)) ++ [(⟨sp, pg, wd⟩ : S_tlb_Line)]).drop 1 = fillL sp pg wd y.fLines := by
          rw [hf, List.drop_append_of_le_length (by rw [h8]; omega)]
        have e := sub_from (l := (y.fLines.filter (fun x => !sm sp pg x)) ++ [⟨sp, pg, wd⟩]) (j := 1) (by simp)
        rw [hd] at e
        have e : sub ((y.fLines.filter (fun x => !sm sp pg x)) ++ [⟨sp, pg, wd⟩]) 1 _ = _ := e
        rw [if_pos (by simp only [List.length_append, List.length_cons, List.length_nil]; omega), e, Option.bind_some, with_ (by omega) hil, Option.bind_some, hs, Option.bind_some, if_pos rfl, if_pos rfl]
      · have hf : fillL sp pg wd y.fLines = (y.fLines.filter (fun x => !sm sp pg x)) ++ [⟨sp, pg, wd⟩] := by
          unfold fillL; simp only [h8, if_false]
        rw [if_neg (by simp only [List.length_append, List.length_cons, List.length_nil]; omega), ← hf, with_ (by omega) hil, Option.bind_some, hs, Option.bind_some, if_pos rfl, if_pos rfl]
  rw [e8, Option.bind_some]
  simp only []
  have e9 : G_ringlaw2_TlbTells_C9 n l (i : Int) b e4 c did e5 y o = some (.x0 c) ∧ G_ringlaw2_TlbTells_C10 n l (i : Int) b e4 c did e5 c o y = some (.x0 false) := by
    unfold G_ringlaw2_TlbTells_C9 G_ringlaw2_TlbTells_C10
    cases ho : y.fOrders with
    | nil =>
      rw [ho] at hcc; cases hcc
      rw [if_neg (by simp), same (by omega) (by omega) hsm, Option.bind_some]
      exact ⟨rfl, by simp [eqRes]⟩
    | cons q r =>
      rw [ho] at hcc; cases hcc
      have hq : ordB q = true := c4 q (by rw [ho]; exact List.mem_cons_self ..)
      have hfl : (y.fLines.filter (fun x => !fgL q x)).length ≤ y.fLines.length := List.length_filter_le _ _
      have hr : r.length + 1 ≤ 4 := by rw [ho] at c2; simpa using c2
      rw [fg_eq hq]
      have hs := same (n := n) (a := l.set i ⟨y.fLines.filter (fun x => !fgL q x), r⟩) (by rw [List.length_set]; omega) (by omega) (small_set hsm ⟨by simp only; omega, by simp only; omega⟩)
      have e := sub_from (l := q :: r) (j := 1) (by simp)
      have e : sub (q :: r) 1 ((q :: r).length : Int) = some r := e
      have e0 : getI (q :: r) 0 = some q := rfl
      rw [if_pos (by simp), e0, Option.bind_some, forgetR (by omega) (by omega), Option.bind_some, e, Option.bind_some, with_ (by omega) hil, Option.bind_some, hs, Option.bind_some]
      exact ⟨rfl, by simp [eqRes]⟩
  rw [e9.1, Option.bind_some]
  simp only []
  rw [e9.2, Option.bind_some]
  simp only []
  rw [if_neg (by decide)]
  have e12 := lawL12 ok hb (by_ := i) (b := b) (e := e4) (o := o) n 0 false [] (by omega) (by omega) rfl
  have e12 : G_ringlaw2_TlbTells_L12 n (i : Int) b e4 l o n false l 0 = _ := e12
  rw [e12, Option.bind_some]
  simp only [List.drop_zero, List.nil_append, Bool.false_or]
  rw [orderG, Option.bind_some]
  cases hp : ordB o with
  | false =>
    rw [hp, if_neg (by decide)] at hbb; cases hbb
    rfl
  | true =>
    rw [hp, if_pos rfl] at hbb
    cases hf : full i 0 l with
    | true =>
      rw [hf, if_pos rfl] at hbb; cases hbb
      rfl
    | false =>
      rw [hf, if_neg (by decide), fg_eq hp] at hbb; cases hbb
      rw [if_pos rfl, if_neg (by decide), same (by rw [shot_len]; omega) (by omega) (small_shot i _ o l 0 hsm8), Option.bind_some]
      rfl
theorem lawC1 (cpus : Int) {cpu sp pg wd : Int} {x : List S_tlb_Cpu × Int} {x1 : List S_tlb_Cpu × Int} {x2 : Int × Bool × Int} {x3 : List S_tlb_Cpu × Int} {x4 : List S_tlb_Cpu × Bool × Int} {x5 : Bool × Int} {o : S_tlb_Order} (hx : G_tlb_New n cpus = some x) :
    G_ringlaw2_TlbTells_C1 n l cpus cpu sp pg wd x x1 x2 x3 x4 x5 o = some (.x0 false) := by
  have hm := ok.m
  rw [newG] at hx
  unfold G_ringlaw2_TlbTells_C1
  rw [inG, Option.bind_some]
  by_cases c : 1 ≤ cpus ∧ cpus ≤ 4
  · rw [if_pos c] at hx; cases hx
    have hs := same (n := n) (a := List.replicate cpus.toNat (⟨[], []⟩ : S_tlb_Cpu)) (by rw [List.length_replicate]; omega) (by omega) (fun c hc => by rw [List.eq_of_mem_replicate hc]; simp)
    rw [if_pos (by simpa using c), Option.bind_some, if_pos (by simpa using c), mkL, if_pos (by unfold maxLen; omega), Option.bind_some, hs, Option.bind_some, if_pos rfl]
    rfl
  · rw [if_neg c] at hx; cases hx
    rw [if_neg (by simpa using c), if_neg (by simp), if_pos rfl, Option.bind_some, if_neg (by simpa using c)]
theorem law_at (cpus cpu sp pg wd : Int) (o : S_tlb_Order) : G_ringlaw2_TlbTells n l cpus cpu sp pg wd o = some true := by
  have hm := ok.m
  have hkk := ok.k
  obtain ⟨x, hx⟩ : ∃ x, G_tlb_New n cpus = some x := ⟨_, newG n cpus⟩
  unfold G_ringlaw2_TlbTells
  rw [hx, Option.bind_some]
  -- from J3 on, for any results whose last part is right
  have rest : ∀ (a b c : List S_tlb_Cpu) (e2 w e3 e4 e5 : Int) (is did : Bool), G_ringlaw2_TlbTells_J1 n l cpu sp pg wd o a e2 w is e3 b e4 c did e5 (chk l cpu) = some true →
      G_ringlaw2_TlbTells_J3 n l cpu sp pg wd o a e2 w is e3 b e4 c did e5 (decide (bad l = 0) && !(l.any (hasO n o))) (bad l) (bad l != bad l) = some true := by
    intro a b c e2 w e3 e4 e5 is did hJ
    unfold G_ringlaw2_TlbTells_J3
    have el := lawL2 ok (cpu := cpu) (sp := sp) (pg := pg) (wd := wd) (a := a) (b := b) (c := c) (e := e2) (w := w) (e1 := e3) (e2 := e4) (e3 := e5) (bd := bad l) (is := is) (did := did) (done := (decide (bad l = 0) && !(l.any (hasO n o)))) o n 0 false (by omega) (by omega)
    have el : G_ringlaw2_TlbTells_L2 n l cpu sp pg wd a e2 w is e3 b e4 c did e5 (decide (bad l = 0) && !(l.any (hasO n o))) (bad l) o n false 0 = _ := el
    have e3' : G_ringlaw2_TlbTells_C3 n l cpu sp pg wd a e2 w is e3 b e4 c did e5 (bad l) o = some (.x0 (decide (bad l = 0 ∧ ¬ (0 ≤ cpu ∧ cpu < l.length)))) := by
      unfold G_ringlaw2_TlbTells_C3
      by_cases h : bad l = 0
      · have := (bad_0 h).1
        rw [if_pos h, wi64 (by omega) (by omega), inG, Option.bind_some]
        congr 2
        rw [Bool.eq_iff_iff]
        simp only [Bool.not_eq_true', decide_eq_false_iff_not, decide_eq_true_eq]
        omega
      · rw [if_neg h, decide_eq_false (fun hh => h hh.1)]
    have j2 : G_ringlaw2_TlbTells_J2 n l cpu sp pg wd o a e2 w is e3 b e4 c did e5 (bad l) false = some true := by
      unfold G_ringlaw2_TlbTells_J2
      rw [if_neg (by decide), e3', Option.bind_some]
      simp only []
      unfold chk at hJ
      by_cases h : bad l = 0 ∧ ¬ (0 ≤ cpu ∧ cpu < l.length)
      · rw [if_pos h] at hJ
        rw [if_pos (decide_eq_true h)]; exact hJ
      · rw [if_neg h] at hJ
        rw [if_neg (by rw [decide_eq_false h]; decide)]; exact hJ
    rw [bne_self_eq_false, if_neg (by decide), el, Option.bind_some]
    simp only [List.drop_zero, Bool.false_or]
    by_cases h : bad l = 0
    · have : eqRes .neq ((decide (bad l = 0) && !(l.any (hasO n o))) == (!(l.any (hasO n o)))) = false := by simp [eqRes, h]
      rw [if_pos h, this]; exact j2
    · have : eqRes .neq ((decide (bad l = 0) && !(l.any (hasO n o))) == false) = false := by simp [eqRes, h]
      rw [if_neg h, this]; exact j2
  by_cases h : chk l cpu = 0
  · obtain ⟨hb, i, c, rfl, hi, hil⟩ := chk_0 h
    obtain ⟨w, is, hl, l1, l2, l3⟩ := lookG ok sp pg hb hi
    rw [fillG ok sp pg wd hb hi, Option.bind_some, hl, Option.bind_some, shootG ok o hb hi, Option.bind_some, serveG ok hb hi, Option.bind_some, doneG ok, Option.bind_some, lawC1 ok cpus hx, Option.bind_some]
    simp only []
    rw [if_neg (by decide), tlbs ok, Option.bind_some, check ok, Option.bind_some, if_pos rfl]
    exact rest _ _ _ _ _ _ _ _ _ _ (by rw [h]; exact lawJ1 ok hb hi sp pg wd o l1 l2 l3 rfl rfl rfl)
  · obtain ⟨b1, b2, b3, b4⟩ := bads ok o sp pg wd cpu h
    rw [b1, Option.bind_some, b2, Option.bind_some, b3, Option.bind_some, b4, Option.bind_some, doneG ok, Option.bind_some, lawC1 ok cpus hx, Option.bind_some]
    simp only []
    rw [if_neg (by decide), tlbs ok, Option.bind_some, check ok, Option.bind_some, if_pos rfl]
    refine rest _ _ _ _ _ _ _ _ _ _ ?_
    unfold G_ringlaw2_TlbTells_J1 G_ringlaw2_TlbTells_C4
    rw [if_neg h, if_pos (by decide), if_pos rfl, if_neg (by decide), if_neg (by decide), if_pos rfl, if_pos rfl, if_pos rfl, Option.bind_some]
    simp
end
def tot (l : List S_tlb_Cpu) : Nat := (l.map fun c => c.fLines.length + c.fOrders.length).sum
theorem sum_ge {l : List S_tlb_Cpu} {b : S_tlb_Cpu} (h : b ∈ l) : b.fLines.length + b.fOrders.length ≤ tot l := by
  unfold tot
  induction l with
  | nil => cases h
  | cons x l ih =>
    simp only [List.map_cons, List.sum_cons]
    rcases List.mem_cons.1 h with rfl | h
    · omega
    · have := ih h; omega
theorem law (l : List S_tlb_Cpu) (cpus cpu sp pg wd : Int) (o : S_tlb_Order) (h : okL 48 okS_tlb_Cpu l) : ∃ n, G_ringlaw2_TlbTells n l cpus cpu sp pg wd o = some true := by
  have hl := h.1
  refine ⟨l.length + tot l + 20001, law_at ⟨by omega, by omega, fun b hb => ?_⟩ cpus cpu sp pg wd o⟩
  have h1 := (h.2 b hb).1.1
  have h2 := (h.2 b hb).2.1.1
  have := sum_ge hb
  exact ⟨⟨by omega, by omega⟩, by omega, by omega⟩
end Go.Proofs.Ytpeakaeblibfmaa.tlbTells
