/- PagesTells: what the operations answer. -/
import Derived.Test.YthcdcpcffdongaaLPg
namespace Go.Proofs.Ythcdcpcffdongaa.pv
set_option linter.all false
open Go.RowKit help
namespace pg
abbrev E0 : Ca := ⟨[], 0⟩
abbrev Z16 : Fin 16 → Int := fun _ => 0
abbrev P0 : Pg := ⟨0, 0, 0, 0, fun _ => 0⟩
theorem eqA_refl (x : Fin 16 → Int) : eqA_16_uint8 x x = true := by simp [eqA_16_uint8]
theorem eqP_refl (x : Pg) : eqS_pages_Page x x = true := by simp [eqS_pages_Page]
theorem same_loop (n : Nat) (a : Ca) (hl : a.fPages.length < 4611686018427387903) : ∀ (k i : Nat), a.fPages.length - i < k → i ≤ a.fPages.length → G_ringref2_CacheSame_L2 n a a k (i : Int) = some .x1
  | 0, i, h, _ => by omega
  | k + 1, i, h, hi => by
    rw [G_ringref2_CacheSame_L2]
    by_cases h1 : i < a.fPages.length
    · rw [if_pos (by omega), getI_nat, List.getElem?_eq_getElem h1, Option.bind_some, Option.bind_some, eqP_refl, if_neg (by simp [eqRes]), wi_succ (by omega)]
      exact same_loop n a hl k (i + 1) (by omega) (by omega)
    · rw [if_neg (by omega)]
theorem same_refl (n : Nat) (a : Ca) (hl : a.fPages.length < 4611686018427387903) (hn : a.fPages.length < n) : G_ringref2_CacheSame n a a = some true := by
  unfold G_ringref2_CacheSame G_ringref2_CacheSame_C1
  have h := same_loop n a hl n 0 (by omega) (by omega)
  have h : G_ringref2_CacheSame_L2 n a a n 0 = _ := h
  rw [if_pos rfl, Option.bind_some]
  simp only [bne_self_eq_false, Bool.false_eq_true, if_false]
  rw [h]; rfl
theorem same0 (n : Nat) (hn : 200 < n) : G_ringref2_CacheSame n E0 E0 = some true := same_refl n E0 (by simp) (by simp; omega)
theorem same64 (n : Nat) (hn : 200 < n) (a : Ca) (hl : a.fPages.length ≤ 65) : G_ringref2_CacheSame n a a = some true := same_refl n a (by omega) (by omega)
/-! rows that are put together -/
def len2 : List (List Pg) → Nat
  | [] => 0
  | p :: l => p.length + len2 l
theorem len2_app : ∀ a b : List (List Pg), len2 (a ++ b) = len2 a + len2 b
  | [], b => by simp [len2]
  | p :: a, b => by rw [List.cons_append, len2, len2, len2_app a b]; omega
theorem len2_flat : ∀ l : List (List Pg), l.flatten.length = len2 l
  | [] => rfl
  | p :: l => by rw [List.flatten_cons, List.length_append, len2_flat l]; rfl
theorem len2_take (l : List (List Pg)) (i : Nat) : len2 (l.take i) ≤ len2 l := by
  have := len2_app (l.take i) (l.drop i)
  rw [List.take_append_drop] at this
  omega
theorem app48 {xs ys : List Pg} (h : xs.length + ys.length ≤ 1000) : app 48 xs ys = some (xs ++ ys) := app_le h (by omega) (by omega)
theorem size_loop (n : Nat) (l : List (List Pg)) (hl : l.length ≤ 4) (ht : len2 l ≤ 1000) : ∀ (k i : Nat), l.length - i < k → i ≤ l.length →
    G_slices_Concat_pages_Page_pages_Page_h_L1 n l k ((len2 (l.take i) : Nat) : Int) (i : Int) = some (.x0 ((len2 l : Nat) : Int))
  | 0, i, h, _ => by omega
  | k + 1, i, h, hi => by
    rw [G_slices_Concat_pages_Page_pages_Page_h_L1]
    by_cases h1 : i < l.length
    · have e : len2 (l.take (i + 1)) = len2 (l.take i) + l[i].length := by rw [List.take_succ_eq_append_getElem h1, len2_app]; simp [len2]
      have hb := len2_take l (i + 1)
      have w : wi .i64 (((len2 (l.take i) : Nat) : Int) + (l[i].length : Int)) = ((len2 (l.take (i + 1)) : Nat) : Int) := by rw [wi64 (by omega) (by omega)]; omega
      rw [if_pos (by omega), getI_nat, List.getElem?_eq_getElem h1, Option.bind_some, w, if_neg (by omega), wi_succ (by omega)]
      exact size_loop n l hl ht k (i + 1) (by omega) (by omega)
    · rw [if_neg (by omega), List.take_of_length_le (by omega)]
theorem cats_loop (n : Nat) (l : List (List Pg)) (hl : l.length ≤ 4) (ht : len2 l ≤ 1000) : ∀ (k i : Nat), l.length - i < k → i ≤ l.length →
    G_slices_Concat_pages_Page_pages_Page_h_L2 n l k (i : Int) (l.take i).flatten = some (.x0 l.flatten)
  | 0, i, h, _ => by omega
  | k + 1, i, h, hi => by
    rw [G_slices_Concat_pages_Page_pages_Page_h_L2]
    by_cases h1 : i < l.length
    · have hb := len2_take l (i + 1)
      have e : (l.take i).flatten ++ l[i] = (l.take (i + 1)).flatten := by rw [List.take_succ_eq_append_getElem h1, List.flatten_append]; simp
      have el : (l.take i).flatten.length + l[i].length = len2 (l.take (i + 1)) := by rw [← len2_flat, ← e, List.length_append]
      rw [if_pos (by omega), getI_nat, List.getElem?_eq_getElem h1, Option.bind_some, app48 (by omega), Option.bind_some, wi_succ (by omega), e]
      exact cats_loop n l hl ht k (i + 1) (by omega) (by omega)
    · rw [if_neg (by omega), List.take_of_length_le (by omega)]
theorem grow_any (n m : Nat) (hm : m ≤ 1000) : G_slices_Grow_pages_Page_pages_Page_h n (m : Int) = some [] := by
  unfold G_slices_Grow_pages_Page_pages_Page_h
  have w : wi .i64 ((m : Int) - wi .i64 (0 - 0)) = (m : Int) := by
    have : wi .i64 (0 - 0) = 0 := rfl
    rw [this, wi64 (by omega) (by omega)]; omega
  rw [if_neg (by omega), w]
  by_cases h0 : (m : Int) > 0
  · rw [if_pos h0]
    have : appZ 48 P0 (m : Int) = some (List.replicate m P0) := by
      unfold appZ maxLen
      rw [if_pos ⟨by omega, by omega, by omega⟩]
      simp
    rw [this, Option.bind_some]
    have : sub (List.replicate m P0) 0 0 = some [] := by unfold sub; rw [if_pos ⟨by omega, by omega, by omega⟩]; simp
    rw [this]; rfl
  · rw [if_neg h0]
theorem concat_any (n : Nat) (hn : 200 < n) (l : List (List Pg)) (hl : l.length ≤ 4) (ht : len2 l ≤ 1000) : G_slices_Concat_pages_Page_pages_Page_h n l = some l.flatten := by
  unfold G_slices_Concat_pages_Page_pages_Page_h
  have h1 := size_loop n l hl ht n 0 (by omega) (by omega)
  have h1 : G_slices_Concat_pages_Page_pages_Page_h_L1 n l n 0 0 = _ := h1
  have h2 := cats_loop n l hl ht n 0 (by omega) (by omega)
  have h2 : G_slices_Concat_pages_Page_pages_Page_h_L2 n l n 0 [] = _ := h2
  rw [h1, Option.bind_some]
  simp only
  rw [grow_any n _ ht, Option.bind_some, h2]; rfl
/-! one page changed -/
theorem clone_any (n : Nat) (l : List Pg) (hl : l.length ≤ 64) : G_slices_Clone_pages_Page_pages_Page n l = some l := by
  unfold G_slices_Clone_pages_Page_pages_Page
  rw [app48 (by simp; omega)]; rfl
theorem with_any (n : Nat) (l : List Pg) (clk : Int) (i : Nat) (p : Pg) (hl : l.length ≤ 64) (hi : i < l.length) : G_pages_with n ⟨l, clk⟩ (i : Int) p = some ⟨l.set i p, clk⟩ := by
  unfold G_pages_with
  simp only [clone_any n l hl, Option.bind_some]
  rw [if_pos ⟨by omega, by simpa using hi⟩, Int.toNat_natCast, List.getElem?_eq_getElem hi]; rfl
theorem cwith_any (n : Nat) (l : List Pg) (clk : Int) (i : Nat) (p : Pg) (hl : l.length ≤ 64) (hi : i < l.length) : G_ringref2_CacheWith n ⟨l, clk⟩ (i : Int) p = some ⟨l.set i p, clk⟩ := by
  unfold G_ringref2_CacheWith
  have ha : app 48 ([] : List Pg) l = some l := by rw [app48 (by simp; omega)]; rfl
  simp only [ha, Option.bind_some]
  rw [if_pos ⟨by omega, by simpa using hi⟩, Int.toNat_natCast, List.getElem?_eq_getElem hi]; rfl
theorem ins48 (l : List Pg) (i : Nat) (x : Pg) (hi : i ≤ l.length) (hl : l.length ≤ 64) : insI 48 l (i : Int) [x] = some (l.take i ++ [x] ++ l.drop i) := by
  unfold insI
  rw [if_pos ⟨by omega, by omega, by simp; omega, by simp; omega⟩, Int.toNat_natCast]
/-! the answers, where the page is not to be had -/
/-- what at says -/
theorem at_bad (n : Nat) (c : Ca) (f q e : Int) (he : e ≠ 0) (h : G_pages_Check n c = some e) : G_pages_at n c f q = some (0, false, e) := by
  unfold G_pages_at
  rw [h, Option.bind_some, if_neg he]
theorem at_wrong (n : Nat) (c : Ca) (f q : Int) (h : G_pages_Check n c = some 0) (hr : ¬ rgt f q) : G_pages_at n c f q = some (0, false, 1) := by
  unfold G_pages_at
  rw [h, Option.bind_some, if_pos rfl, right_any, Option.bind_some, decide_eq_false hr, if_neg (by simp)]
theorem at_ok (n : Nat) (hn : 200 < n) (c : Ca) (f q : Int) (h : G_pages_Check n c = some 0) (hc : okC c) (hr : rgt f q) (i0 : Nat) (A : At c.fPages (tg f q) i0) : G_pages_at n c f q = some ((i0 : Int), isAt c.fPages f q i0, 0) := by
  have hb := bs_any n hn c.fPages f q i0 A hc.1
  unfold tg at hb
  unfold G_pages_at
  rw [h, Option.bind_some, if_pos rfl, right_any, Option.bind_some, decide_eq_true hr, if_pos rfl, hb]; rfl
theorem bring_bad (n : Nat) (c : Ca) (f q e i : Int) (s : Bool) (d : Fin 16 → Int) (he : e ≠ 0) (h : G_pages_at n c f q = some (i, s, e)) : G_pages_Bring n c f q d = some (E0, e) := by
  unfold G_pages_Bring
  rw [h, Option.bind_some]
  simp only
  rw [if_neg he]
theorem there_bad (n : Nat) (c : Ca) (f q e i : Int) (s : Bool) (he : e ≠ 0) (h : G_pages_at n c f q = some (i, s, e)) : G_pages_there n c f q = some (i, e) := by
  unfold G_pages_there
  rw [h, Option.bind_some]
  simp only
  rw [if_neg he]
theorem there_no (n : Nat) (c : Ca) (f q i : Int) (h : G_pages_at n c f q = some (i, false, 0)) : G_pages_there n c f q = some (i, 4) := by
  unfold G_pages_there
  rw [h, Option.bind_some]
  simp
theorem there_yes (n : Nat) (c : Ca) (f q i : Int) (h : G_pages_at n c f q = some (i, true, 0)) : G_pages_there n c f q = some (i, 0) := by
  unfold G_pages_there
  rw [h, Option.bind_some]
  simp
theorem get_bad (n : Nat) (c : Ca) (f q i b : Int) (hb : b ≠ 0) (h : G_pages_there n c f q = some (i, b)) : G_pages_Get n c f q = some (Z16, b) := by
  unfold G_pages_Get
  rw [h, Option.bind_some]
  simp only
  rw [if_neg hb]
theorem set_bad (n : Nat) (c : Ca) (f q i b k y : Int) (hb : b ≠ 0) (h : G_pages_there n c f q = some (i, b)) : G_pages_Set n c f q k y = some (E0, b) := by
  unfold G_pages_Set
  rw [h, Option.bind_some]
  simp only
  rw [if_neg hb]
theorem map_bad (n : Nat) (c : Ca) (f q i b m : Int) (hb : b ≠ 0) (h : G_pages_there n c f q = some (i, b)) : G_pages_Map n c f q m = some (E0, b) := by
  unfold G_pages_Map G_pages_Map_C1
  rw [h, Option.bind_some]
  simp only
  rw [if_neg hb]; rfl
theorem out_bad (n : Nat) (c : Ca) (f q i b : Int) (hb : b ≠ 0) (h : G_pages_there n c f q = some (i, b)) : G_pages_Out n c f q = some (E0, b) := by
  unfold G_pages_Out
  rw [h, Option.bind_some]
  simp only
  rw [if_neg hb]
/-! the answers, where the page is there -/
theorem get_ok (n : Nat) (c : Ca) (f q : Int) (i : Nat) (p : Pg) (hp : c.fPages[i]? = some p) (h : G_pages_there n c f q = some ((i : Int), 0)) : G_pages_Get n c f q = some (p.fData, 0) := by
  unfold G_pages_Get
  rw [h, Option.bind_some]
  simp only
  rw [if_pos trivial, getI_nat, hp]; rfl
abbrev in16 (k : Int) : Prop := 0 ≤ k ∧ k < 16
/-- what Set answers -/
def setE (c : Ca) (k : Int) : Int := if in16 k then (if c.fClock = 1073741824 then 6 else 0) else 1
def setC (c : Ca) (i : Nat) (p : Pg) (k y : Int) : Ca :=
  if setE c k = 0 then (if p.fDirty = 0 then ⟨c.fPages.set i ⟨p.fFile, p.fN, p.fMaps, c.fClock, setA p.fData k y⟩, wi .i64 (c.fClock + 1)⟩ else ⟨c.fPages.set i ⟨p.fFile, p.fN, p.fMaps, p.fDirty, setA p.fData k y⟩, c.fClock⟩) else E0
theorem set_ok (n : Nat) (c : Ca) (f q k y : Int) (i : Nat) (p : Pg) (hl : c.fPages.length ≤ 64) (hp : c.fPages[i]? = some p) (h : G_pages_there n c f q = some ((i : Int), 0)) : G_pages_Set n c f q k y = some (setC c i p k y, setE c k) := by
  have hi : i < c.fPages.length := (List.getElem?_eq_some_iff.1 hp).1
  unfold G_pages_Set G_pages_Set_J1 setC
  rw [h, Option.bind_some]
  simp only
  rw [if_pos trivial]
  unfold setE
  by_cases a1 : k < 0
  · rw [if_pos a1, if_neg (show ¬ in16 k by unfold in16; omega), if_neg (by decide)]
  rw [if_neg a1]
  by_cases a2 : k ≥ 16
  · rw [if_pos a2, if_neg (show ¬ in16 k by unfold in16; omega), if_neg (by decide)]
  have hk : in16 k := by unfold in16; omega
  rw [if_neg a2, if_pos hk]
  by_cases a3 : c.fClock = 1073741824
  · rw [if_pos a3, if_pos a3, if_neg (by decide)]
  rw [if_neg a3, if_neg a3, if_pos rfl, getI_nat, hp, Option.bind_some, if_pos hk]
  have hg : getA p.fData k = some (p.fData ⟨k.toNat, by unfold in16 at hk; omega⟩) := by
    unfold getA; rw [dif_pos (by unfold in16 at hk; omega)]
  rw [hg, Option.bind_some]
  by_cases a4 : p.fDirty = 0
  · rw [if_pos a4, if_pos a4, with_any n _ _ i _ hl hi]; rfl
  · rw [if_neg a4, if_neg a4]
    have : G_pages_with n c (i : Int) ⟨p.fFile, p.fN, p.fMaps, p.fDirty, setA p.fData k y⟩ = _ := with_any n c.fPages c.fClock i _ hl hi
    rw [this]; rfl
def mapE (p : Pg) (m : Int) : Int := if m = 1 ∨ m = -1 then (if 0 ≤ wi .i64 (p.fMaps + m) ∧ wi .i64 (p.fMaps + m) ≤ 64 then 0 else 8) else 1
def mapC (c : Ca) (i : Nat) (p : Pg) (m : Int) : Ca := if mapE p m = 0 then ⟨c.fPages.set i ⟨p.fFile, p.fN, wi .i64 (p.fMaps + m), p.fDirty, p.fData⟩, c.fClock⟩ else E0
theorem map_ok (n : Nat) (c : Ca) (f q m : Int) (i : Nat) (p : Pg) (hl : c.fPages.length ≤ 64) (hp : c.fPages[i]? = some p) (h : G_pages_there n c f q = some ((i : Int), 0)) : G_pages_Map n c f q m = some (mapC c i p m, mapE p m) := by
  have hi : i < c.fPages.length := (List.getElem?_eq_some_iff.1 hp).1
  unfold G_pages_Map G_pages_Map_C1 mapC
  rw [h, Option.bind_some]
  simp only
  rw [if_pos trivial]
  have key : m = 1 ∨ m = -1 → ((getI c.fPages (i : Int)).bind fun (y : Pg) => if (wi .i64 (y.fMaps + m)) < 0 then some (E0, (8 : Int)) else if (wi .i64 (y.fMaps + m)) > 64 then some (E0, 8) else (G_pages_with n c (i : Int) ⟨y.fFile, y.fN, (wi .i64 (y.fMaps + m)), y.fDirty, y.fData⟩).bind fun (r : Ca) => some (r, 0)) = some (if mapE p m = 0 then (⟨c.fPages.set i ⟨p.fFile, p.fN, wi .i64 (p.fMaps + m), p.fDirty, p.fData⟩, c.fClock⟩ : Ca) else E0, mapE p m) := by
    intro hm
    unfold mapE
    rw [if_pos hm, getI_nat, hp, Option.bind_some]
    by_cases b1 : wi .i64 (p.fMaps + m) < 0
    · rw [if_pos b1, if_neg (show ¬ (0 ≤ wi .i64 (p.fMaps + m) ∧ wi .i64 (p.fMaps + m) ≤ 64) by omega), if_neg (by decide)]
    by_cases b2 : wi .i64 (p.fMaps + m) > 64
    · rw [if_neg b1, if_pos b2, if_neg (show ¬ (0 ≤ wi .i64 (p.fMaps + m) ∧ wi .i64 (p.fMaps + m) ≤ 64) by omega), if_neg (by decide)]
    rw [if_neg b1, if_neg b2, if_pos (show (0 ≤ wi .i64 (p.fMaps + m) ∧ wi .i64 (p.fMaps + m) ≤ 64) by omega), if_pos rfl]
    have : G_pages_with n c (i : Int) ⟨p.fFile, p.fN, (wi .i64 (p.fMaps + m)), p.fDirty, p.fData⟩ = _ := with_any n c.fPages c.fClock i _ hl hi
    rw [this]; rfl
  by_cases a1 : m = 1
  · rw [if_pos a1, Option.bind_some]; exact key (.inl a1)
  by_cases a2 : m = -1
  · rw [if_neg a1, if_pos a2, Option.bind_some]; exact key (.inr a2)
  rw [if_neg a1, if_neg a2, Option.bind_some]
  unfold mapE
  rw [if_neg (show ¬ (m = 1 ∨ m = -1) by omega), if_neg (by decide)]
def outE (p : Pg) : Int := if p.fMaps > 0 ∨ p.fDirty > 0 then 8 else 0
def outC (c : Ca) (i : Nat) (p : Pg) : Ca := if outE p = 0 then ⟨c.fPages.take i ++ c.fPages.drop (i + 1), c.fClock⟩ else E0
theorem out_ok (n : Nat) (c : Ca) (f q : Int) (i : Nat) (p : Pg) (hl : c.fPages.length ≤ 64) (hp : c.fPages[i]? = some p) (h : G_pages_there n c f q = some ((i : Int), 0)) : G_pages_Out n c f q = some (outC c i p, outE p) := by
  have hi : i < c.fPages.length := (List.getElem?_eq_some_iff.1 hp).1
  unfold G_pages_Out G_pages_Out_J1 outC
  rw [h, Option.bind_some]
  simp only
  rw [if_pos trivial, getI_nat, hp, Option.bind_some]
  unfold outE
  by_cases a1 : p.fMaps > 0
  · rw [if_pos a1, if_pos trivial, if_pos (show p.fMaps > 0 ∨ p.fDirty > 0 from .inl a1), if_neg (by decide)]
  rw [if_neg a1, Option.bind_some]
  by_cases a2 : p.fDirty > 0
  · rw [decide_eq_true a2, if_pos rfl, if_pos (show p.fMaps > 0 ∨ p.fDirty > 0 from .inr a2), if_neg (by decide)]
  rw [decide_eq_false a2, if_neg (by simp), if_neg (show ¬ (p.fMaps > 0 ∨ p.fDirty > 0) by omega), if_pos rfl, clone_any n _ hl, Option.bind_some, wi_succ (by omega), G_slices_Delete_pages_Page_pages_Page_h_sp (by omega) (by omega)]
  rfl
/-! what the law says of them -/
theorem j4_bad (n : Nat) (hn : 200 < n) (k y m : Int) (c : Ca) (b at_ : Int) (hb : b ≠ 0) : G_ringlaw2_PagesTells_J4 n k y m c Z16 E0 E0 E0 0 b b b b at_ b = some true := by
  unfold G_ringlaw2_PagesTells_J4 G_ringlaw2_PagesTells_C8
  rw [if_neg hb, eqA_refl, if_pos (by rfl), if_pos rfl, same0 n hn, Option.bind_some, if_pos rfl, if_pos rfl]
  simp
theorem j5_bad (n : Nat) (hn : 200 < n) (f q k y m : Int) (c : Ca) (d : Fin 16 → Int) (b : Int) (hb : b ≠ 0) (hl : c.fPages.length < 4611686018427387903) (hcn : c.fPages.length < n) : G_ringlaw2_PagesTells_J5 n f q k y m c d E0 Z16 E0 E0 E0 0 b b b b b b = some true := by
  unfold G_ringlaw2_PagesTells_J5 G_ringlaw2_PagesTells_C4 G_ringlaw2_PagesTells_C5
  obtain ⟨z, hz⟩ := cat_some n c f q hl hcn
  rw [hz, Option.bind_some, if_neg hb, Option.bind_some]
  simp only
  rw [if_pos trivial, if_neg hb, same0 n hn, Option.bind_some, Option.bind_some]
  simp only [Bool.not_true, Bool.false_eq_true, if_false]
  rw [if_neg hb]
  exact j4_bad n hn k y m c b z hb
theorem j6_bad (n : Nat) (hn : 200 < n) (f q k y m : Int) (c : Ca) (d : Fin 16 → Int) (b : Int) (hb : b ≠ 0) (hl : c.fPages.length < 4611686018427387903) (hcn : c.fPages.length < n) : G_ringlaw2_PagesTells_J6 n f q k y m c d E0 Z16 E0 E0 E0 0 b b b b b b = some true := by
  unfold G_ringlaw2_PagesTells_J6 G_ringlaw2_PagesTells_C2
  rw [if_neg hb, Option.bind_some]
  simp only [Bool.false_eq_true, if_false]
  exact j5_bad n hn f q k y m c d b hb hl hcn
theorem j6_wrong (n : Nat) (hn : 200 < n) (f q k y m : Int) (c : Ca) (d : Fin 16 → Int) (hr : ¬ rgt f q) (hl : c.fPages.length < 4611686018427387903) (hcn : c.fPages.length < n) : G_ringlaw2_PagesTells_J6 n f q k y m c d E0 Z16 E0 E0 E0 0 1 1 1 1 1 0 = some true := by
  unfold G_ringlaw2_PagesTells_J6 G_ringlaw2_PagesTells_C2
  rw [if_pos rfl, file_any, Option.bind_some, decide_eq_false hr, Option.bind_some]
  simp only [Bool.not_false, if_true]
  exact j5_bad n hn f q k y m c d 1 (by decide) hl hcn
theorem l7_loop (n : Nat) (f q k y m : Int) (c : Ca) (d : Fin 16 → Int) (b1 : Ca) (g : Fin 16 → Int) (b2 b3 b4 : Ca) (b5 : Int) (e1 e2 e3 e4 r z : Int) (i0 : Nat) (hl : c.fPages.length ≤ 64) (A : At c.fPages (tg f q) i0) : ∀ (K i : Nat), i0 - i < K → i ≤ i0 →
    G_ringlaw2_PagesTells_L7 n f q k y m e1 e2 e3 e4 r z c d b1 g b2 b3 b4 b5 K (i : Int) = some (.x0 (i0 : Int))
  | 0, i, h, _ => by omega
  | K + 1, i, h, hi => by
    have hle := A.le
    have c6 : G_ringlaw2_PagesTells_C6 n f q k y m e1 e2 e3 e4 r z (i : Int) c d b1 g b2 b3 b4 b5 = some (.x0 (decide (i < i0))) := by
      unfold G_ringlaw2_PagesTells_C6
      by_cases h1 : i < c.fPages.length
      · rw [if_pos (by omega), getI_nat, List.getElem?_eq_getElem h1, Option.bind_some]
        have key : ltP c.fPages[i] (tg f q) ↔ i < i0 := by
          constructor
          · intro h
            rcases Nat.lt_or_ge i i0 with h' | h'
            · exact h'
            · exact absurd h (A.hi i h1 h')
          · exact A.lo i h1
        unfold ltP tg at key
        simp only at key
        by_cases a1 : c.fPages[i].fFile < f
        · rw [if_pos a1, decide_eq_true (key.1 (.inl a1))]
        rw [if_neg a1, Option.bind_some]
        by_cases a2 : c.fPages[i].fFile = f
        · rw [if_pos a2, Option.bind_some]
          congr 2
          rw [Bool.eq_iff_iff]; simp only [decide_eq_true_eq]
          rw [← key]; omega
        · rw [if_neg a2, decide_eq_false (by rw [← key]; omega)]
      · rw [if_neg (by omega), decide_eq_false (by omega)]
    rw [G_ringlaw2_PagesTells_L7, c6, Option.bind_some]
    simp only
    by_cases h1 : i < i0
    · rw [decide_eq_true h1, if_pos rfl, wi_succ (by omega)]
      exact l7_loop n f q k y m c d b1 g b2 b3 b4 b5 e1 e2 e3 e4 r z i0 hl A K (i + 1) (by omega) (by omega)
    · rw [decide_eq_false h1, if_neg (by simp)]
      have : i = i0 := by omega
      rw [this]
end pg
end Go.Proofs.Ythcdcpcffdongaa.pv
