/- EdgeSays, the plain law: a memory with a few pages, none of which is ever put into a slot. -/
import Derived.Test.YtmjkechkdfobgaaX
import Derived.Test.YtmjkechkdfobgaaWLa
namespace Go.Proofs.Ytmjkechkdfobgaa.pv.ed
set_option linter.all false
open Go.RowKit

abbrev S5 : Type := Int × Int × Int × Unit × Unit × Unit
abbrev Mem : Type := Ar 64 S_ringref5_Page
abbrev Mn : Type := (Int × Int × Unit × Int × Int × Int × Unit) × Unit × Unit × (Unit × Unit × Ar 16 Int × Unit) × Bool × Int × Mem × Unit
/-- the same bytes, the same users -/
def Same (ab ab' : List S_space_page) : Prop := ab'.length = ab.length ∧ ∀ (i : Nat) (e : S_space_page), ab[i]? = some e → ∃ e', ab'[i]? = some e' ∧ e'.1 = e.1 ∧ e'.2.1 = e.2.1
theorem Same.refl (ab : List S_space_page) : Same ab ab := ⟨rfl, fun i e h => ⟨e, h, rfl, rfl⟩⟩
theorem Same.trans {a b c : List S_space_page} (h : Same a b) (k : Same b c) : Same a c := by
  refine ⟨k.1.trans h.1, fun i e he => ?_⟩
  obtain ⟨e1, h1, h2, h3⟩ := h.2 i e he
  obtain ⟨e2, k1, k2, k3⟩ := k.2 i e1 h1
  exact ⟨e2, k1, k2.trans h2, k3.trans h3⟩
theorem Same.set {ab : List S_space_page} {i : Nat} {y y' : S_space_page} (h : ab[i]? = some y) (h1 : y'.1 = y.1) (h2 : y'.2.1 = y.2.1) : Same ab (lset ab i y') := by
  refine ⟨lset_len _ _ _, fun j e he => ?_⟩
  by_cases hij : i = j
  · subst hij
    rw [h] at he
    cases he
    refine ⟨y', ?_, h1, h2⟩
    unfold lset
    rw [List.getElem?_set_self (List.getElem?_eq_some_iff.1 h).1]
  · exact ⟨e, by unfold lset; rw [List.getElem?_set_ne hij]; exact he, rfl, rfl⟩
def RowsOk (rows : List (Option Nat)) (ab : List S_space_page) : Prop := ∀ x ∈ rows, ∃ i, x = some i ∧ i < ab.length
theorem RowsOk.same {rows : List (Option Nat)} {ab ab' : List S_space_page} (h : RowsOk rows ab) (hs : ab'.length = ab.length) : RowsOk rows ab' := fun x hx => by
  obtain ⟨i, e, hi⟩ := h x hx
  exact ⟨i, e, by omega⟩
section
variable {P : Program} (hP : P = Try.prog) {N d : Nat}
include hP
theorem here_L3 {s : S5} {rows : List (Option Nat)} {mp : List (Int × Option Nat)} {ab : List S_space_page} (hr : RowsOk rows ab) (hl : rows.length ≤ 1000) :
    ∀ (m t k : Nat) (n : Int), t + m = rows.length → m < k → 0 ≤ n → n + m ≤ 100000 → ∃ n', G_space_Memory_here_L3 P N d k n (rows.length : Int) (t : Int) s rows mp ab = some (n', ()) ∧ 0 ≤ n' ∧ n' ≤ n + m
  | 0, t, k, n, ht, hk, h0, hn => by
    obtain ⟨k, rfl⟩ : ∃ q, k = q + 1 := ⟨k - 1, by omega⟩
    rw [G_space_Memory_here_L3_eq hP, show decide ((t : Int) < (rows.length : Int)) = false by rw [decide_eq_false_iff_not]; omega, cond_false]
    exact ⟨n, rfl, h0, by omega⟩
  | m + 1, t, k, n, ht, hk, h0, hn => by
    obtain ⟨k, rfl⟩ : ∃ q, k = q + 1 := ⟨k - 1, by omega⟩
    rw [G_space_Memory_here_L3_eq hP, show decide ((t : Int) < (rows.length : Int)) = true by rw [decide_eq_true_iff]; omega, cond_true, inb_true (by omega) (by omega), cond_true, Int.toNat_natCast, lget_lt (show t < rows.length by omega), Option.bind_some]
    obtain ⟨i, hi, hil⟩ := hr _ (List.getElem_mem (show t < rows.length by omega))
    rw [hi, Option.bind_some, lget_lt hil, Option.bind_some, wi_nat (by omega)]
    cases hb : (ab[i]).2.2.1 with
    | true =>
      rw [cond_true, wi64 (by omega) (by omega)]
      obtain ⟨n', e, h1, h2⟩ := here_L3 hr hl m (t + 1) k (n + 1) (by omega) (by omega) (by omega) (by omega)
      exact ⟨n', e, h1, by omega⟩
    | false =>
      rw [cond_false]
      obtain ⟨n', e, h1, h2⟩ := here_L3 hr hl m (t + 1) k n (by omega) (by omega) (by omega) (by omega)
      exact ⟨n', e, h1, by omega⟩
theorem here_spec (hN : 1001 ≤ N) (hd : 1 ≤ d) {s : S5} {rows : List (Option Nat)} {mp : List (Int × Option Nat)} {ab : List S_space_page} (hr : RowsOk rows ab) (hl : rows.length ≤ 1000) :
    ∃ n', G_space_Memory_here P N d s rows mp ab = some (n', ()) ∧ 0 ≤ n' ∧ n' ≤ rows.length := by
  obtain ⟨d, rfl⟩ : ∃ q, d = q + 1 := ⟨d - 1, by omega⟩
  rw [G_space_Memory_here_eq hP]
  obtain ⟨n', e, h1, h2⟩ := here_L3 hP hr hl rows.length 0 N 0 (by omega) (by omega) (by omega) (by omega) (N := N) (d := d) (s := s) (mp := mp)
  exact ⟨n', e, h1, by omega⟩
theorem ask_spec (hN : 1001 ≤ N) (hd : 2 ≤ d) {i : Nat} {s : S5} {rows : List (Option Nat)} {mp : List (Int × Option Nat)} {ab : List S_space_page} (hi : i < ab.length) (hr : RowsOk rows ab) (hl : rows.length ≤ 63) (hs : s.1 = 64) :
    ∃ (s' : S5) (ab' : List S_space_page), G_space_Memory_ask P N d (some i) s rows mp ab = some ((), s', ab', ()) ∧ s'.1 = s.1 ∧ s'.2.1 = s.2.1 ∧ Same ab ab' := by
  obtain ⟨d, rfl⟩ : ∃ q, d = q + 1 := ⟨d - 1, by omega⟩
  have e0 : ab[i]? = some ab[i] := List.getElem?_eq_getElem hi
  have S1 : Same ab (lset ab i (u3 ab[i] (wi .i64 (s.2.2.1 + 1)))) := Same.set e0 rfl rfl
  have e1 : lget (lset ab i (u3 ab[i] (wi .i64 (s.2.2.1 + 1)))) i = some (u3 ab[i] (wi .i64 (s.2.2.1 + 1))) := by rw [lget_lset, if_pos ⟨rfl, hi⟩]
  rw [G_space_Memory_ask_eq hP, Option.bind_some, lget_lt hi, Option.bind_some, Option.bind_some, e1, Option.bind_some]
  cases hb : (u3 ab[i] (wi .i64 (s.2.2.1 + 1))).2.2.1 with
  | true => rw [cond_true]; exact ⟨_, _, rfl, rfl, rfl, S1⟩
  | false =>
    obtain ⟨n', e, h1, h2⟩ := here_spec hP hN (show 1 ≤ d by omega) (s := u2 s (wi .i64 (s.2.2.1 + 1))) (mp := mp) (hr.same S1.1) (show rows.length ≤ 1000 by omega)
    rw [cond_false, e, Option.bind_some, show ((n', ()).1 == s.1) = false by rw [hs]; simp; omega, cond_false, Option.bind_some, e1, Option.bind_some]
    exact ⟨_, _, rfl, rfl, rfl, S1.trans (Same.set e1 rfl rfl)⟩
end
/-- the byte at an address, if there is one -/
def bt (mem : Mem) (a : Int) : Option Int := if h : inb (a / 16) 64 = true then (bif (gA mem ⟨(a / 16).toNat, inb_lt h⟩).1 then some (gA (gA mem ⟨(a / 16).toNat, inb_lt h⟩).2.2.1 ⟨(a % 16).toNat, by omega⟩) else none) else none
theorem bt_eq {mem : Mem} {j : Fin 64} {k : Fin 16} {a : Int} (hj : (j.1 : Int) = a / 16) (hk : (k.1 : Int) = a % 16) : bt mem a = bif (gA mem j).1 then some (gA (gA mem j).2.2.1 k) else none := by
  have h : inb (a / 16) 64 = true := inb_true (by omega) (by have := j.2; omega)
  unfold bt
  rw [dif_pos h]
  have e1 : (⟨(a / 16).toNat, inb_lt h⟩ : Fin 64) = j := Fin.ext (by show (a / 16).toNat = j.1; omega)
  have e2 : (⟨(a % 16).toNat, by omega⟩ : Fin 16) = k := Fin.ext (by show (a % 16).toNat = k.1; omega)
  rw [e1, e2]
theorem bt_out {mem : Mem} {a : Int} (h : a < 0 ∨ 1024 ≤ a) : bt mem a = none := by
  unfold bt
  rw [dif_neg]
  intro hi
  have := inb_le hi
  omega
theorem split16 {a : Int} (h0 : 0 ≤ a) (h1 : a < 1024) : ∃ (j : Fin 64) (k : Fin 16), (j.1 : Int) = a / 16 ∧ (k.1 : Int) = a % 16 :=
  ⟨⟨(a / 16).toNat, by omega⟩, ⟨(a % 16).toNat, by omega⟩, by simp; omega, by simp; omega⟩
theorem bt_some {mem : Mem} {a : Int} (h : (bt mem a).isSome = true) : ∃ (j : Fin 64) (k : Fin 16), 0 ≤ a ∧ a < 1024 ∧ (j.1 : Int) = a / 16 ∧ (k.1 : Int) = a % 16 ∧ (gA mem j).1 = true ∧ bt mem a = some (gA (gA mem j).2.2.1 k) := by
  rcases Int.lt_or_le a 0 with h0 | h0
  · rw [bt_out (.inl h0)] at h; cases h
  rcases Int.lt_or_le a 1024 with h1 | h1
  · obtain ⟨j, k, hj, hk⟩ := split16 h0 h1
    have e := bt_eq (mem := mem) hj hk
    cases hb : (gA mem j).1 with
    | true => rw [hb, cond_true] at e; exact ⟨j, k, h0, h1, hj, hk, hb, e⟩
    | false => rw [hb, cond_false] at e; rw [e] at h; cases h
  · rw [bt_out (.inr h1)] at h; cases h
def thr (mem : Mem) (x : Int) : Bool := if h : inb x 64 = true then (gA mem ⟨x.toNat, inb_lt h⟩).1 else false
theorem thr_eq {mem : Mem} {j : Fin 64} {x : Int} (hj : (j.1 : Int) = x) : thr mem x = (gA mem j).1 := by
  unfold thr
  rw [dif_pos (inb_true (by omega) (by have := j.2; omega))]
  rw [show (⟨x.toNat, inb_lt (inb_true (by omega) (by have := j.2; omega))⟩ : Fin 64) = j from Fin.ext (by show x.toNat = j.1; omega)]
theorem bt_thr (mem : Mem) (a : Int) : (bt mem a).isSome = thr mem (a / 16) := by
  rcases Int.lt_or_le a 0 with h0 | h0
  · rw [bt_out (.inl h0)]
    unfold thr
    rw [dif_neg (fun h => by have := inb_le h; omega)]; rfl
  rcases Int.lt_or_le a 1024 with h1 | h1
  · obtain ⟨j, k, hj, hk⟩ := split16 h0 h1
    rw [bt_eq hj hk, thr_eq hj]
    cases (gA mem j).1 <;> rfl
  · rw [bt_out (.inr h1)]
    unfold thr
    rw [dif_neg (fun h => by have := inb_le h; omega)]; rfl
/-- the memory has these pages, at these places -/
structure Inv (mem : Mem) (s : S5) (rows : List (Option Nat)) (mp : List (Int × Option Nat)) (ab : List S_space_page) (D : List (Int × S_space_entry)) : Prop where
  f : s.1 = 64
  o : s.2.1 = 0
  n : rows.length ≤ 60
  r : RowsOk rows ab
  m : mlI mp 1 = some (some 0)
  t : ∀ j : Fin 64, (gA mem j).1 = true → ∃ i e, mlI D (j.1 : Int) = some (some i, 3, ()) ∧ ab[i]? = some e ∧ e.1 = (gA mem j).2.2.1 ∧ e.2.1 = 1 ∧ (gA mem j).2.1 = 3
  u : ∀ j : Fin 64, (gA mem j).1 = false → mlI D (j.1 : Int) = none
  q : ∀ (j j' : Int) (i : Nat) (e e' : Int × Unit), mlI D j = some (some i, e) → mlI D j' = some (some i, e') → j = j'
  b : ∀ (j : Int) (i : Nat) (e : Int × Unit), mlI D j = some (some i, e) → i < ab.length
theorem Inv.same {mem : Mem} {s s' : S5} {rows : List (Option Nat)} {mp : List (Int × Option Nat)} {ab ab' : List S_space_page} {D : List (Int × S_space_entry)} (h : Inv mem s rows mp ab D) (hs : Same ab ab') (h1 : s'.1 = s.1) (h2 : s'.2.1 = s.2.1) : Inv mem s' rows mp ab' D where
  f := h1.trans h.f
  o := h2.trans h.o
  n := h.n
  r := h.r.same hs.1
  m := h.m
  t j hj := by
    obtain ⟨i, e, a1, a2, a3, a4, a5⟩ := h.t j hj
    obtain ⟨e', b1, b2, b3⟩ := hs.2 i e a2
    exact ⟨i, e', a1, b1, b2.trans a3, b3.trans a4, a5⟩
  u := h.u
  q := h.q
  b j i e he := by have := h.b j i e he; have := hs.1; omega
section
variable {P : Program} (hP : P = Try.prog) {N d : Nat}
variable {mem : Mem} {s : S5} {rows : List (Option Nat)} {mp : List (Int × Option Nat)} {ab : List S_space_page} {D : List (Int × S_space_entry)}
include hP
theorem may_L6 (I : Inv mem s rows mp ab D) {addr n want last : Int} (hw : want = 1 ∨ want = 2) (h0 : 0 ≤ addr) (h1 : 1 ≤ n) (h2 : addr ≤ 1024 - n) (hl : last = (addr + n - 1) / 16) :
    ∀ (m : Nat) (p : Int) (k : Nat), 0 ≤ p → p + m = last + 1 → m < k → ∃ b, G_space_Memory_may_L6 P N d k 1 addr n want p s rows mp [D] = some (b, ()) ∧ (b = true ↔ ∀ x : Int, p ≤ x → x ≤ last → thr mem x = true) := by
  have e1 : wi .i64 ((wi .i64 ((wi .i64 (addr + n)) - 1)).tdiv 16) = last := by
    rw [wi64 (x := addr + n) (by omega) (by omega), wi64 (x := addr + n - 1) (by omega) (by omega), Int.tdiv_eq_ediv_of_nonneg (by omega), wi64 (by omega) (by omega), hl]
  intro m
  induction m with
  | zero =>
    intro p k hp he hk
    obtain ⟨k, rfl⟩ : ∃ q, k = q + 1 := ⟨k - 1, by omega⟩
    rw [G_space_Memory_may_L6_eq hP, e1, show decide (p ≤ last) = false by rw [decide_eq_false_iff_not]; omega, cond_false]
    exact ⟨true, rfl, fun _ x hx hx' => by omega, fun _ => rfl⟩
  | succ m ih =>
    intro p k hp he hk
    obtain ⟨k, rfl⟩ : ∃ q, k = q + 1 := ⟨k - 1, by omega⟩
    rw [G_space_Memory_may_L6_eq hP, e1, show decide (p ≤ last) = true by rw [decide_eq_true_iff]; omega, cond_true, I.m, Option.getD_some, oc_some, lget_cons0, Option.bind_some]
    have e2 : ∀ b x y, G_space_Memory_may_J9 P N d k 1 addr n want p b s rows mp x y = _ := fun b x y => G_space_Memory_may_J9_eq hP N d k 1 addr n want p b s rows mp x y
    rw [e2]
    have hpl : p < 64 := by omega
    have hj : ((⟨p.toNat, by omega⟩ : Fin 64).1 : Int) = p := by show (p.toNat : Int) = p; omega
    cases ht : thr mem p with
    | false =>
      have := I.u ⟨p.toNat, by omega⟩ (by rw [← thr_eq hj]; exact ht)
      rw [hj] at this
      rw [this]
      exact ⟨false, rfl, (fun h => by cases h), fun h => by rw [h p (by omega) (by omega)] at ht; cases ht⟩
    | true =>
      obtain ⟨i, e, a1, _⟩ := I.t ⟨p.toNat, by omega⟩ (by rw [← thr_eq hj]; exact ht)
      rw [hj] at a1
      rw [a1]
      have eb : (bits .and .i64 3 want != want) = false := by rcases hw with rfl | rfl <;> decide
      simp only [Option.isSome_some, Bool.not_true, cond_false, Option.getD_some, Option.bind_some, eb]
      rw [wi64 (by omega) (by omega)]
      obtain ⟨b, h3, h4⟩ := ih (p + 1) k (by omega) (by omega) (by omega)
      refine ⟨b, h3, h4.trans ⟨fun h x hx hx' => ?_, fun h x hx hx' => h x (by omega) hx'⟩⟩
      rcases Int.lt_or_eq_of_le hx with hx | rfl
      · exact h x (by omega) hx'
      · exact ht
theorem may_spec (hN : 1001 ≤ N) (hd : 1 ≤ d) (I : Inv mem s rows mp ab D) {addr n want : Int} (hw : want = 1 ∨ want = 2) (hn0 : 0 ≤ n) (hn : n ≤ 1000) (ha : -10000000000 ≤ addr) (ha' : addr ≤ 10000000000) :
    ∃ b, G_space_Memory_may P N d 1 addr n want s rows mp [D] = some (b, ()) ∧ (b = true ↔ ∀ j : Int, 0 ≤ j → j < n → (bt mem (addr + j)).isSome = true) := by
  obtain ⟨d, rfl⟩ : ∃ q, d = q + 1 := ⟨d - 1, by omega⟩
  rw [G_space_Memory_may_eq hP]
  by_cases hz : n = 0
  · subst hz
    exact ⟨true, rfl, fun _ j h0 h1 => by omega, fun _ => rfl⟩
  rw [show (n == 0) = false by simp [hz], cond_false, wi64 (x := 1024 - n) (by omega) (by omega)]
  by_cases h0 : addr < 0
  · rw [show decide (addr < 0) = true by simp [h0], cond_true, Option.bind_some, cond_true]
    refine ⟨false, rfl, (fun h => by cases h), fun h => ?_⟩
    have := h 0 (by omega) (by omega)
    rw [bt_out (.inl (by omega))] at this; cases this
  rw [show decide (addr < 0) = false by simp; omega, cond_false, Option.bind_some]
  by_cases h1 : addr > 1024 - n
  · rw [show decide (addr > 1024 - n) = true by simp [h1], cond_true]
    refine ⟨false, rfl, (fun h => by cases h), fun h => ?_⟩
    have := h (n - 1) (by omega) (by omega)
    rw [bt_out (.inr (by omega))] at this; cases this
  rw [show decide (addr > 1024 - n) = false by rw [decide_eq_false_iff_not]; exact h1, cond_false, Int.tdiv_eq_ediv_of_nonneg (by omega), wi64 (x := addr / 16) (by omega) (by omega)]
  obtain ⟨b, h2, h3⟩ := may_L6 hP I hw (by omega) (by omega) (by omega) rfl ((addr + n - 1) / 16 + 1 - addr / 16).toNat (addr / 16) N (by omega) (by omega) (by omega) (d := d) (N := N) (addr := addr) (n := n)
  refine ⟨b, h2, h3.trans ⟨fun h j hj hj' => ?_, fun h x hx hx' => ?_⟩⟩
  · rw [bt_thr]; exact h _ (by omega) (by omega)
  · by_cases hc : 16 * x ≤ addr
    · have := h 0 (by omega) (by omega)
      rw [bt_thr] at this
      rw [show x = (addr + 0) / 16 by omega]; exact this
    · have := h (16 * x - addr) (by omega) (by omega)
      rw [bt_thr] at this
      rw [show x = (addr + (16 * x - addr)) / 16 by omega]; exact this
theorem fetch_L3 (hN : 1001 ≤ N) (hd : 2 ≤ d) {addr n : Int} (hn : n ≤ 1000) (h : ∀ j : Int, 0 ≤ j → j < n → (bt mem (addr + j)).isSome = true) :
    ∀ (m k : Nat) (s : S5) (ab : List S_space_page) (L : List Int), Inv mem s rows mp ab D → (L.length : Int) + m = n → m < k → (∀ (j : Nat) (x : Int), L[j]? = some x → bt mem (addr + j) = some x) → (m = 0 → 0 ≤ addr ∧ addr ≤ 1024) →
    ∃ (s' : S5) (ab' : List S_space_page) (L' : List Int), G_space_Memory_fetch_L3 P N d k 1 addr n (addr + L.length) s rows mp ab [D] L = some (L', s', ab', ()) ∧ (L'.length : Int) = n ∧ (∀ (j : Nat) (x : Int), L'[j]? = some x → bt mem (addr + j) = some x) ∧ Inv mem s' rows mp ab' D := by
  intro m
  induction m with
  | zero =>
    intro k s ab L I hL hk hb hz
    have hz := hz rfl
    obtain ⟨k, rfl⟩ : ∃ q, k = q + 1 := ⟨k - 1, by omega⟩
    rw [G_space_Memory_fetch_L3_eq hP, wi64 (x := addr + n) (by omega) (by omega), dF (by omega), cond_false]
    exact ⟨s, ab, L, rfl, by omega, hb, I⟩
  | succ m ih =>
    intro k s ab L I hL hk hb _
    obtain ⟨k, rfl⟩ : ∃ q, k = q + 1 := ⟨k - 1, by omega⟩
    obtain ⟨j, kk, h0, h1, hj, hkk, hth, hbt⟩ := bt_some (h L.length (by omega) (by omega))
    obtain ⟨_, _, ha0, ha1, _⟩ := bt_some (h 0 (by omega) (by omega))
    rw [G_space_Memory_fetch_L3_eq hP, wi64 (x := addr + n) (by omega) (by omega), dT (by omega), cond_true, I.m, Option.getD_some, oc_some, lget_cons0, Option.bind_some, Int.tdiv_eq_ediv_of_nonneg h0, wi64 (x := (addr + (L.length : Int)) / 16) (by omega) (by omega)]
    obtain ⟨i, e, a1, a2, a3, a4, a5⟩ := I.t j hth
    rw [← hj, a1, Option.getD_some, G_space_Memory_fetch_J6_eq hP]
    obtain ⟨s1, ab1, e1, e2, e3, e4⟩ := ask_spec hP hN hd (s := s) (mp := mp) (I.b _ _ _ a1) I.r (by have := I.n; omega) I.f
    rw [e1, Option.bind_some, Option.bind_some]
    have hm : inb ((addr + (L.length : Int)).tmod 16) 16 = true := by rw [Int.tmod_eq_emod_of_nonneg h0]; exact inb_true (by omega) (by omega)
    rw [dif_pos hm]
    obtain ⟨e', b1, b2, b3⟩ := e4.2 i e a2
    rw [lget_of b1, Option.bind_some]
    have hx : gA e'.1 ⟨((addr + (L.length : Int)).tmod 16).toNat, inb_lt hm⟩ = gA (gA mem j).2.2.1 kk := by
      rw [b2, a3]
      congr 1
      apply Fin.ext
      show ((addr + (L.length : Int)).tmod 16).toNat = kk.1
      rw [Int.tmod_eq_emod_of_nonneg h0]; omega
    rw [hx, lenOk_true (by simp; omega) (by omega), cond_true, wi64 (x := addr + (L.length : Int) + 1) (by omega) (by omega)]
    have I1 : Inv mem s1 rows mp ab1 D := I.same e4 e2 e3
    have hLl : ((L ++ [gA (gA mem j).2.2.1 kk]).length : Int) = L.length + 1 := by simp
    obtain ⟨s', ab', L', c1, c2, c3, c4⟩ := ih k s1 ab1 (L ++ [gA (gA mem j).2.2.1 kk]) I1 (by rw [hLl]; omega) (by omega) (fun q x hq => by
      rw [List.getElem?_append] at hq
      split at hq
      · exact hb q x hq
      · rename_i hq2
        have : q = L.length := by
          rcases Nat.lt_or_ge (q - L.length) 1 with hh | hh
          · omega
          · rw [List.getElem?_eq_none (by simpa using hh)] at hq; cases hq
        subst this
        simp at hq
        rw [hbt, hq]) (fun hm0 => by omega)
    rw [hLl, ← Int.add_assoc] at c1
    exact ⟨s', ab', L', c1, c2, c3, c4⟩
theorem fetch_spec (hN : 1001 ≤ N) (hd : 3 ≤ d) (I : Inv mem s rows mp ab D) {addr n : Int} (hn0 : 0 ≤ n) (hn : n ≤ 1000) (h : ∀ j : Int, 0 ≤ j → j < n → (bt mem (addr + j)).isSome = true) (hz : n = 0 → -10000000000 ≤ addr ∧ addr ≤ 10000000000) :
    ∃ (s' : S5) (ab' : List S_space_page) (L' : List Int), G_space_Memory_fetch P N d 1 addr n s rows mp ab [D] = some (L', s', ab', ()) ∧ (L'.length : Int) = n ∧ (∀ (j : Nat) (x : Int), L'[j]? = some x → bt mem (addr + j) = some x) ∧ Inv mem s' rows mp ab' D := by
  obtain ⟨d, rfl⟩ : ∃ q, d = q + 1 := ⟨d - 1, by omega⟩
  rw [G_space_Memory_fetch_eq hP]
  by_cases h0 : n = 0
  · subst h0
    have := hz rfl
    obtain ⟨q, rfl⟩ : ∃ q, N = q + 1 := ⟨N - 1, by omega⟩
    rw [G_space_Memory_fetch_L3_eq hP, wi64 (x := addr + 0) (by omega) (by omega), dF (by omega), cond_false]
    exact ⟨s, ab, [], rfl, rfl, fun j x hx => by simp at hx, I⟩
  · obtain ⟨s', ab', L', c1, c2⟩ := fetch_L3 hP hN (show 2 ≤ d by omega) hn h n.toNat N s ab [] I (by simp; omega) (by omega) (fun j x hx => by simp at hx) (fun hh => by omega)
    simp only [List.length_nil, Int.natCast_zero, Int.add_zero] at c1
    exact ⟨s', ab', L', c1, c2⟩
theorem load_spec (hN : 1001 ≤ N) (hd : 4 ≤ d) (I : Inv mem s rows mp ab D) {addr : Int} (h0 : 0 ≤ addr) (h1 : addr ≤ 4294967295) :
    ∃ (s' : S5) (ab' : List S_space_page), Inv mem s' rows mp ab' D ∧ G_space_Memory_Load P N d 1 addr 1 s rows mp ab [D] = some (match bt mem addr with | some b => ((b, 0, ()), s', ab', ()) | none => ((0, 11, ()), s', ab', ())) := by
  obtain ⟨d, rfl⟩ : ∃ q, d = q + 1 := ⟨d - 1, by omega⟩
  obtain ⟨b, e1, e2⟩ := may_spec hP hN (show 1 ≤ d by omega) I (.inl rfl) (addr := addr) (n := 1) (by omega) (by omega) (by omega) (by omega)
  rw [G_space_Memory_Load_eq hP, I.m, Option.getD_some, Option.isNone_some, cond_false, dF (by omega), cond_false, dF (by omega), Option.bind_some, cond_false, wi64 (by omega) (by omega), e1, Option.bind_some]
  cases hb : bt mem addr with
  | none =>
    have : b = false := by
      cases b with
      | false => rfl
      | true =>
        have := e2.1 rfl 0 (by omega) (by omega)
        rw [Int.add_zero, hb] at this; cases this
    subst this
    exact ⟨s, ab, I, rfl⟩
  | some x =>
    have hall : ∀ j : Int, 0 ≤ j → j < 1 → (bt mem (addr + j)).isSome = true := fun j h0 h1 => by
      rw [show addr + j = addr by omega, hb]; rfl
    have : b = true := e2.2 hall
    subst this
    obtain ⟨s', ab', L', c1, c2, c3, c4⟩ := fetch_spec hP hN (show 3 ≤ d by omega) I (by omega) (by omega) hall (by omega)
    rw [Bool.not_true, cond_false, c1, Option.bind_some]
    obtain ⟨y, rfl⟩ : ∃ y, L' = [y] := List.length_eq_one_iff.1 (by omega)
    have := c3 0 y rfl
    rw [show addr + ((0 : Nat) : Int) = addr by omega, hb] at this
    cases this
    exact ⟨s', ab', c4, rfl⟩
end
end Go.Proofs.Ytmjkechkdfobgaa.pv.ed
namespace Go.Proofs.Ytmjkechkdfobgaa.pv.ed
set_option linter.all false
open Go.RowKit
abbrev mm (man : Mn) : Mem := man.2.2.2.2.2.2.1
section
variable {P : Program} (hP : P = Try.prog) {N d : Nat}
include hP
theorem byte_spec (hd : 1 ≤ d) {man : Mn} (hm : ∀ j : Fin 64, (gA (mm man) j).1 = true → (gA (mm man) j).2.1 = 3) {a want : Int} (hw : want = 1 ∨ want = 2) (ha : -10000000000 ≤ a) (ha' : a ≤ 10000000000) :
    G_ringref5_Man_Byte P N d a want man = some (match bt (mm man) a with | some b => ((b, true, ()), ()) | none => ((0, false, ()), ())) := by
  obtain ⟨d, rfl⟩ : ∃ q, d = q + 1 := ⟨d - 1, by omega⟩
  rw [G_ringref5_Man_Byte_eq hP]
  by_cases h0 : a < 0
  · rw [dT h0, cond_true, Option.bind_some, cond_true, bt_out (.inl h0)]
  by_cases h1 : a > 1023
  · rw [dF h0, cond_false, dT h1, cond_true, Option.bind_some, cond_true, bt_out (.inr (by omega))]
  obtain ⟨j, k, hj, hk⟩ := split16 (a := a) (by omega) (by omega)
  have e0 : wi .i64 (a.tdiv 16) = (j.1 : Int) := by rw [Int.tdiv_eq_ediv_of_nonneg (by omega), wi64 (by omega) (by omega), hj]
  have e1 : inb (wi .i64 (a.tdiv 16)) 64 = true := by rw [e0]; exact inb_true (by omega) (by have := j.2; omega)
  have e2 : (⟨(wi .i64 (a.tdiv 16)).toNat, inb_lt e1⟩ : Fin 64) = j := Fin.ext (by show (wi .i64 (a.tdiv 16)).toNat = j.1; rw [e0]; simp)
  have e3 : inb (a.tmod 16) 16 = true := by rw [Int.tmod_eq_emod_of_nonneg (by omega)]; exact inb_true (by omega) (by omega)
  have e4 : (⟨(a.tmod 16).toNat, inb_lt e3⟩ : Fin 16) = k := Fin.ext (by show (a.tmod 16).toNat = k.1; rw [Int.tmod_eq_emod_of_nonneg (by omega)]; omega)
  rw [dF h0, cond_false, dF h1, cond_false, dif_pos e1, dif_pos e1, dif_pos e1, dif_pos e3, e2, e4, bt_eq hj hk]
  cases hb : (gA (mm man) j).1 with
  | false => rfl
  | true =>
    have h3 := hm j hb
    have eb : (bits .andNot .i64 want 3 != 0) = false := by rcases hw with rfl | rfl <;> decide
    rw [Bool.not_true, cond_false, h3, eb, Option.bind_some, cond_false, cond_true]
/-- what the two texts are -/
theorem text_L3 (hN : 1001 ≤ N) (hd : 4 ≤ d) {man : Mn} {rows : List (Option Nat)} {mp : List (Int × Option Nat)} {D : List (Int × S_space_entry)} {at_ : Int} (h0 : 0 ≤ at_) (h1 : at_ ≤ 4294967295) (hm : ∀ j : Fin 64, (gA (mm man) j).1 = true → (gA (mm man) j).2.1 = 3) :
    ∀ (m t k k' : Nat) (L : List Int) (s : S5) (ab : List S_space_page), Inv (mm man) s rows mp ab D → t + m = 65 → m < k → m < k' → L.length = t → ∃ x e s' ab',
      G_edge_Text_L3 P N d k 1 at_ (t : Int) s rows mp ab [D] L = some ((x, e, ()), s', ab', ()) ∧ G_ringref5_Man_Text_L3 P N d k' at_ (u8i L) (t : Int) man = some ((x, e, ()), ()) ∧ Inv (mm man) s' rows mp ab' D := by
  intro m
  induction m with
  | zero =>
    intro t k k' L s ab I ht hk hk' hL
    obtain ⟨k, rfl⟩ : ∃ q, k = q + 1 := ⟨k - 1, by omega⟩
    obtain ⟨k', rfl⟩ : ∃ q, k' = q + 1 := ⟨k' - 1, by omega⟩
    rw [G_edge_Text_L3_eq hP, G_ringref5_Man_Text_L3_eq hP, dF (by omega), cond_false, cond_false]
    exact ⟨_, _, _, _, rfl, rfl, I⟩
  | succ m ih =>
    intro t k k' L s ab I ht hk hk' hL
    obtain ⟨k, rfl⟩ : ∃ q, k = q + 1 := ⟨k - 1, by omega⟩
    obtain ⟨k', rfl⟩ : ∃ q, k' = q + 1 := ⟨k' - 1, by omega⟩
    have hr := wu32_nn (at_ + (t : Int))
    obtain ⟨s1, ab1, I1, e1⟩ := load_spec hP hN hd I (addr := wi .u32 (at_ + (t : Int))) hr.1 hr.2
    rw [G_edge_Text_L3_eq hP, G_ringref5_Man_Text_L3_eq hP, dT (by omega), cond_true, cond_true, e1, Option.bind_some, wi64 (by omega) (by omega), byte_spec hP (by omega) hm (.inl rfl) (by omega) (by omega), Option.bind_some]
    cases hb : bt (mm man) (wi .u32 (at_ + (t : Int))) with
    | none => exact ⟨_, _, _, _, rfl, rfl, I1⟩
    | some b =>
      by_cases hz : b = 0
      · subst hz
        exact ⟨_, _, _, _, rfl, rfl, I1⟩
      · have e2 : Nat.ble ((u8i L).length + (u8i [b]).length) 9223372036854775807 = true := by
          apply Nat.ble_eq_true_of_le
          simp [u8i]; omega
        simp only [bF hz, bne_self_eq_false, cond_false, Bool.not_true]
        rw [lenOk_true (by simp; omega) (by omega), cond_true, e2, cond_true, wu32 (x := (t : Int) + 1) (by omega) (by omega), show (t : Int) + 1 = ((t + 1 : Nat) : Int) by simp, show List.append (u8i L) (u8i [b]) = u8i (L ++ [b]) by simp [u8i]]
        exact ih (t + 1) k k' (L ++ [b]) s1 ab1 I1 (by omega) (by omega) (by omega) (by simp [hL])
theorem text_spec (hN : 1001 ≤ N) (hd : 5 ≤ d) {man : Mn} {rows : List (Option Nat)} {mp : List (Int × Option Nat)} {D : List (Int × S_space_entry)} {at_ : Int} (h0 : 0 ≤ at_) (h1 : at_ ≤ 4294967295) (hm : ∀ j : Fin 64, (gA (mm man) j).1 = true → (gA (mm man) j).2.1 = 3)
    {s : S5} {ab : List S_space_page} (I : Inv (mm man) s rows mp ab D) : ∃ x e s' ab',
      G_edge_Text P N d 1 at_ s rows mp ab [D] = some ((x, e, ()), s', ab', ()) ∧ G_ringref5_Man_Text P N d at_ man = some ((x, e, ()), ()) ∧ Inv (mm man) s' rows mp ab' D := by
  obtain ⟨d, rfl⟩ : ∃ q, d = q + 1 := ⟨d - 1, by omega⟩
  rw [G_edge_Text_eq hP, G_ringref5_Man_Text_eq hP]
  exact text_L3 hP hN (by omega) h0 h1 hm 65 0 N N [] s ab I (by omega) (by omega) (by omega) rfl
end
theorem Inv.may {mem : Mem} {s : S5} {rows : List (Option Nat)} {mp : List (Int × Option Nat)} {ab : List S_space_page} {D : List (Int × S_space_entry)} (I : Inv mem s rows mp ab D) : ∀ j : Fin 64, (gA mem j).1 = true → (gA mem j).2.1 = 3 := fun j hj => by
  obtain ⟨_, _, _, _, _, _, h⟩ := I.t j hj
  exact h
end Go.Proofs.Ytmjkechkdfobgaa.pv.ed
namespace Go.Proofs.Ytmjkechkdfobgaa.pv.ed
set_option linter.all false
set_option maxRecDepth 10000
open Go.RowKit
def sg (x : Int) : Int := wi .i64 (wi .i32 x)
theorem sg_eq {x : Int} (h0 : 0 ≤ x) (h1 : x ≤ 4294967295) : sg x = if x < 2147483648 then x else x - 4294967296 := by
  have e : wi .i32 x = if x < 2147483648 then x else x - 4294967296 := by
    rw [wi, IntKind.wrap_i32]
    split <;> omega
  unfold sg
  rw [e]
  split <;> exact wi64 (by omega) (by omega)
theorem sg_r {x : Int} (h0 : 0 ≤ x) (h1 : x ≤ 4294967295) : -2147483648 ≤ sg x ∧ sg x ≤ 2147483647 := by
  rw [sg_eq h0 h1]
  split <;> omega
def cls (z : Int) : Nat := if z = 14 ∨ z = 15 ∨ z = 16 ∨ z = 27 then 2 else if z = 3 ∨ z = 5 ∨ z = 12 ∨ z = 13 ∨ z = 17 ∨ z = 18 ∨ z = 19 ∨ z = 28 ∨ z = 29 ∨ z = 32 ∨ z = 33 then 1 else 0
theorem cls_cases (z : Int) : z = 14 ∨ z = 15 ∨ z = 16 ∨ z = 27 ∨ z = 3 ∨ z = 5 ∨ z = 12 ∨ z = 13 ∨ z = 17 ∨ z = 18 ∨ z = 19 ∨ z = 28 ∨ z = 29 ∨ z = 32 ∨ z = 33 ∨ (z ≠ 14 ∧ z ≠ 15 ∧ z ≠ 16 ∧ z ≠ 27 ∧ z ≠ 3 ∧ z ≠ 5 ∧ z ≠ 12 ∧ z ≠ 13 ∧ z ≠ 17 ∧ z ≠ 18 ∧ z ≠ 19 ∧ z ≠ 28 ∧ z ≠ 29 ∧ z ≠ 32 ∧ z ≠ 33) := by omega
theorem cls_le (z : Int) : cls z ≤ 2 := by
  unfold cls
  split
  · omega
  · split <;> omega
def oneE (z : Int) : Option Bool :=
(bif (z == 3) then
some true
else
bif (z == 5) then
some true
else
bif (decide (z ≥ 12)) then
bif (decide (z ≤ 19)) then
some true
else
bif (decide (z ≥ 27)) then
bif (decide (z ≤ 29)) then
some true
else
bif (z == 32) then
some true
else
some (z == 33)
else
bif (z == 32) then
some true
else
some (z == 33)
else
bif (decide (z ≥ 27)) then
bif (decide (z ≤ 29)) then
some true
else
bif (z == 32) then
some true
else
some (z == 33)
else
bif (z == 32) then
some true
else
some (z == 33))
theorem cls0 {z : Int} (h : z ≠ 14 ∧ z ≠ 15 ∧ z ≠ 16 ∧ z ≠ 27 ∧ z ≠ 3 ∧ z ≠ 5 ∧ z ≠ 12 ∧ z ≠ 13 ∧ z ≠ 17 ∧ z ≠ 18 ∧ z ≠ 19 ∧ z ≠ 28 ∧ z ≠ 29 ∧ z ≠ 32 ∧ z ≠ 33) : cls z = 0 := by
  unfold cls
  rw [if_neg (by omega), if_neg (by omega)]
theorem oneE_eq (z : Int) : oneE z = some (decide (1 ≤ cls z)) := by
  rcases cls_cases z with rfl | rfl | rfl | rfl | rfl | rfl | rfl | rfl | rfl | rfl | rfl | rfl | rfl | rfl | rfl | h
  any_goals decide
  rw [cls0 h]
  unfold oneE
  rw [bF h.2.2.2.2.1, cond_false, bF h.2.2.2.2.2.1, cond_false, bF (show z ≠ 32 by omega), cond_false, bF (show z ≠ 33 by omega)]
  by_cases h1 : z ≥ 12
  · rw [dT h1, cond_true, dF (show ¬ z ≤ 19 by omega), cond_false]
    by_cases h2 : z ≥ 27
    · rw [dT h2, cond_true, dF (show ¬ z ≤ 29 by omega), cond_false]; rfl
    · rw [dF h2, cond_false]; rfl
  · rw [dF h1, cond_false, dF (show ¬ z ≥ 27 by omega), cond_false]; rfl
def twoE (z : Int) : Option Bool :=
(bif (decide (z ≥ 14)) then
bif (decide (z ≤ 16)) then
some true
else
some (z == 27)
else
some (z == 27))
theorem twoE_eq (z : Int) : twoE z = some (decide (2 ≤ cls z)) := by
  rcases cls_cases z with rfl | rfl | rfl | rfl | rfl | rfl | rfl | rfl | rfl | rfl | rfl | rfl | rfl | rfl | rfl | h
  any_goals decide
  rw [cls0 h]
  unfold twoE
  rw [bF (show z ≠ 27 by omega)]
  by_cases h1 : z ≥ 14
  · rw [dT h1, cond_true, dF (show ¬ z ≤ 16 by omega), cond_false]; rfl
  · rw [dF h1, cond_false]; rfl
section
variable {P : Program} (hP : P = Try.prog) {N d : Nat}
include hP
theorem signed_spec (hd : 1 ≤ d) {x : Int} (h0 : 0 ≤ x) (h1 : x ≤ 4294967295) : G_ringref5_signed P N d x = some (sg x, ()) := by
  obtain ⟨d, rfl⟩ : ∃ q, d = q + 1 := ⟨d - 1, by omega⟩
  rw [G_ringref5_signed_eq hP, sg_eq h0 h1, wi64 (x := x) (by omega) (by omega)]
  by_cases h : x < 2147483648
  · rw [dT h, cond_true, if_pos h]
  · rw [dF h, cond_false, if_neg h, wi64 (by omega) (by omega)]
theorem texts_spec (hd : 1 ≤ d) (z : Int) : G_edge_texts P N d z = some ((cls z : Int), ()) := by
  obtain ⟨d, rfl⟩ : ∃ q, d = q + 1 := ⟨d - 1, by omega⟩
  rw [G_edge_texts_eq hP]
  rcases cls_cases z with rfl | rfl | rfl | rfl | rfl | rfl | rfl | rfl | rfl | rfl | rfl | rfl | rfl | rfl | rfl | h
  any_goals rfl
  rw [cls0 h]
  obtain ⟨h1, h2, h3, h4, h5, h6, h7, h8, h9, h10, h11, h12, h13, h14, h15⟩ := h
  rw [bF h1, bF h2, bF h3, bF h4, bF h5, bF h6, bF h7, bF h8, bF h9, bF h10, bF h11, bF h12, bF h13, bF h14, bF h15]
  rfl
variable {rows : List (Option Nat)} {mp : List (Int × Option Nat)} {D : List (Int × S_space_entry)} {s : S5} {ab : List S_space_page}
theorem read_spec (hN : 1001 ≤ N) (hd : 4 ≤ d) {mem : Mem} (I : Inv mem s rows mp ab D) {addr n : Int} (hn0 : 0 ≤ n) (hn : n ≤ 256) (ha : -10000000000 ≤ addr) (ha' : addr ≤ 10000000000) :
    ((∀ j : Int, 0 ≤ j → j < n → (bt mem (addr + j)).isSome = true) ∧ ∃ s' ab' L, G_space_Memory_Read P N d 1 addr n s rows mp ab [D] = some ((L, 0, ()), s', ab', ()) ∧ Inv mem s' rows mp ab' D ∧ (L.length : Int) = n ∧ (∀ (j : Nat) (x : Int), L[j]? = some x → bt mem (addr + j) = some x)) ∨
    ((¬ ∀ j : Int, 0 ≤ j → j < n → (bt mem (addr + j)).isSome = true) ∧ G_space_Memory_Read P N d 1 addr n s rows mp ab [D] = some (([], 11, ()), s, ab, ())) := by
  obtain ⟨d, rfl⟩ : ∃ q, d = q + 1 := ⟨d - 1, by omega⟩
  obtain ⟨b, e1, e2⟩ := may_spec hP hN (show 1 ≤ d by omega) I (.inl rfl) hn0 (by omega) ha ha'
  rw [G_space_Memory_Read_eq hP, I.m, Option.getD_some, Option.isNone_some, cond_false, dF (show ¬ n < 0 by omega), cond_false, dF (show ¬ n > 256 by omega), Option.bind_some, cond_false, e1, Option.bind_some]
  cases b with
  | false => exact .inr ⟨(fun h => by have := e2.2 h; cases this), rfl⟩
  | true =>
    have h := e2.1 rfl
    obtain ⟨s', ab', L', c1, c2, c3, c4⟩ := fetch_spec hP hN (show 3 ≤ d by omega) I hn0 (by omega) h (fun _ => ⟨ha, ha'⟩)
    rw [Bool.not_true, cond_false, c1, Option.bind_some]
    exact .inl ⟨h, s', ab', L', rfl, c4, c2, c3⟩
theorem taken_L21 (hd : 1 ≤ d) {man : Mn} (hm : ∀ j : Fin 64, (gA (mm man) j).1 = true → (gA (mm man) j).2.1 = 3) {z A B C : Int} {nm ot : List UInt8} {s0 : Int × Int × Int × Int × List UInt8 × List UInt8 × Unit × Unit} (hC : C ≤ 256) (hB : -10000000000 ≤ B) (hB' : B ≤ 9000000000) :
    ∀ (m t k : Nat) (L : List Int), (t : Int) + m = C → m < k → L.length = t → (∀ (j : Nat) (x : Int), L[j]? = some x → bt (mm man) (B + j) = some x) →
    ((∀ j : Int, t ≤ j → j < C → (bt (mm man) (B + j)).isSome = true) ∧ ∃ L', G_ringref5_Man_Taken_L21 P N d k C (t : Int) man s0 (z, A, B, C, nm, ot, (), ()) L = some (.inr (((z, A, B, C, nm, ot, (), ()), 0, ()), L', ())) ∧ (L'.length : Int) = C ∧ (∀ (j : Nat) (x : Int), L'[j]? = some x → bt (mm man) (B + j) = some x)) ∨
    ((¬ ∀ j : Int, t ≤ j → j < C → (bt (mm man) (B + j)).isSome = true) ∧ G_ringref5_Man_Taken_L21 P N d k C (t : Int) man s0 (z, A, B, C, nm, ot, (), ()) L = some (.inl (((0, 0, 0, 0, [], [], [], ()), 11, ()), ()))) := by
  intro m
  induction m with
  | zero =>
    intro t k L ht hk hL hb
    obtain ⟨k, rfl⟩ : ∃ q, k = q + 1 := ⟨k - 1, by omega⟩
    rw [G_ringref5_Man_Taken_L21_eq hP, dF (by omega), cond_false]
    exact .inl ⟨fun j h1 h2 => by omega, L, rfl, by omega, hb⟩
  | succ m ih =>
    intro t k L ht hk hL hb
    obtain ⟨k, rfl⟩ : ∃ q, k = q + 1 := ⟨k - 1, by omega⟩
    rw [G_ringref5_Man_Taken_L21_eq hP, dT (by omega), cond_true]
    show (_ ∧ ∃ L', (G_ringref5_Man_Byte P N d (wi .i64 (B + (t : Int))) 1 man).bind _ = _ ∧ _) ∨ _ ∧ (G_ringref5_Man_Byte P N d (wi .i64 (B + (t : Int))) 1 man).bind _ = _
    rw [wi64 (x := B + (t : Int)) (by omega) (by omega), byte_spec hP hd hm (.inl rfl) (by omega) (by omega)]
    cases hb2 : bt (mm man) (B + (t : Int)) with
    | none =>
      exact .inr ⟨(fun h => by have := h t (by omega) (by omega); rw [hb2] at this; cases this), rfl⟩
    | some b =>
      simp only [Option.bind_some, Bool.not_true, cond_false]
      rw [lenOk_true (by simp; omega) (by omega), cond_true, wi64 (x := (t : Int) + 1) (by omega) (by omega), show (t : Int) + 1 = ((t + 1 : Nat) : Int) by simp]
      have hb' : ∀ (j : Nat) (x : Int), (L ++ [b])[j]? = some x → bt (mm man) (B + j) = some x := fun q x hq => by
        rw [List.getElem?_append] at hq
        split at hq
        · exact hb q x hq
        · rename_i hq2
          have : q = L.length := by
            rcases Nat.lt_or_ge (q - L.length) 1 with hh | hh
            · omega
            · rw [List.getElem?_eq_none (by simpa using hh)] at hq; cases hq
          subst this
          simp at hq
          rw [hL, hb2, hq]
      rcases ih (t + 1) k (L ++ [b]) (by omega) (by omega) (by simp [hL]) hb' with ⟨h1, L', h2, h3⟩ | ⟨h1, h2⟩
      · refine .inl ⟨fun j hj hj' => ?_, L', h2, h3⟩
        rcases Int.lt_or_eq_of_le hj with hj | rfl
        · exact h1 j (by omega) hj'
        · rw [hb2]; rfl
      · exact .inr ⟨fun h => h1 fun j hj hj' => h j (by omega) hj', h2⟩
theorem list_by {mem : Mem} {B : Int} {L L' : List Int} (hl : (L.length : Int) = L'.length) (h : ∀ (j : Nat) (x : Int), L[j]? = some x → bt mem (B + j) = some x) (h' : ∀ (j : Nat) (x : Int), L'[j]? = some x → bt mem (B + j) = some x) : L = L' := by
  apply List.ext_getElem (by omega)
  intro j h1 h2
  have a := h j _ (List.getElem?_eq_getElem h1)
  have b := h' j _ (List.getElem?_eq_getElem h2)
  rw [a] at b
  exact Option.some.inj b
abbrev C7 : Type := Int × Int × Int × Int × List UInt8 × List UInt8 × Unit × Unit
/-- the same call, taken by both -/
def Both (man : Mn) (rows : List (Option Nat)) (mp : List (Int × Option Nat)) (D : List (Int × S_space_entry)) (x : Option ((S_api_Call × Int × Unit) × S5 × List S_space_page × Unit)) (y : Option (((S_api_Call × Int × Unit) × Unit) ⊕ ((C7 × Int × Unit) × List Int × Unit))) : Prop :=
  ∃ (c : S_api_Call) (e : Int) (s' : S5) (ab' : List S_space_page), x = some ((c, e, ()), s', ab', ()) ∧ Inv (mm man) s' rows mp ab' D ∧ (-2147483648 ≤ c.2.2.1 ∧ c.2.2.1 ≤ 2147483647) ∧ c.2.2.2.2.2.2.1.length ≤ 256 ∧
    (y = some (.inl ((c, e, ()), ())) ∨ ∃ (c' : C7) (data : List Int), y = some (.inr ((c', e, ()), data, ())) ∧ c = (c'.1, c'.2.1, c'.2.2.1, c'.2.2.2.1, c'.2.2.2.2.1, c'.2.2.2.2.2.1, data, ()))
theorem take_end (hN : 1001 ≤ N) (hd : 4 ≤ d) {man : Mn} (I : Inv (mm man) s rows mp ab D) {r : S_api_Regs} (hr : ∀ j, 0 ≤ gA r.1 j ∧ gA r.1 j ≤ 4294967295) {n : Int} (h0 : 0 ≤ n) (h2 : n ≤ 2) {k : Nat} {s1 s2 c : C7} :
    Both man rows mp D (G_edge_Take_L4 P N d (k + 1) 1 n n n s rows mp ab [D] r s1 c) (G_ringref5_Man_Taken_J15 P N d (1 + n) man r s2 c) := by
  have i1 : inb (1 + n) 8 = true := inb_true (by omega) (by omega)
  have i2 : inb (2 + n) 8 = true := inb_true (by omega) (by omega)
  have i3 : inb (3 + n) 8 = true := inb_true (by omega) (by omega)
  have r1 := hr ⟨(1 + n).toNat, inb_lt i1⟩
  have r2 := hr ⟨(2 + n).toNat, inb_lt i2⟩
  have r3 := hr ⟨(3 + n).toNat, inb_lt i3⟩
  have w1 : wi .i64 (1 + n) = 1 + n := wi64 (by omega) (by omega)
  have w2 : wi .i64 (2 + n) = 2 + n := wi64 (by omega) (by omega)
  have w3 : wi .i64 (3 + n) = 3 + n := wi64 (by omega) (by omega)
  have w4 : wi .i64 (1 + n + 1) = 2 + n := by rw [wi64 (by omega) (by omega)]; omega
  have w5 : wi .i64 (1 + n + 2) = 3 + n := by rw [wi64 (by omega) (by omega)]; omega
  rw [G_edge_Take_L4_eq hP, G_ringref5_Man_Taken_J15_eq hP, dF (by omega), cond_false]
  simp only [w1, w2, w3, w4, w5]
  rw [dif_pos i1, dif_pos i2, dif_pos i3, dif_pos i1, signed_spec hP (by omega) r1.1 r1.2, Option.bind_some, dif_pos i2, signed_spec hP (by omega) r2.1 r2.2, Option.bind_some, dif_pos i3, signed_spec hP (by omega) r3.1 r3.2, Option.bind_some]
  generalize hA : gA r.1 ⟨(1 + n).toNat, inb_lt i1⟩ = rA at *
  generalize hB : gA r.1 ⟨(2 + n).toNat, inb_lt i2⟩ = rB at *
  generalize hC : gA r.1 ⟨(3 + n).toNat, inb_lt i3⟩ = rC at *
  change Both man rows mp D (bif c.1 == 8 then (bif decide (sg rC < 0) then some true else some (decide (sg rC > 256))).bind fun b319 => bif b319 then _ else (G_space_Memory_Read P N d 1 (sg rB) (sg rC) s rows mp ab [D]).bind fun x331 => bif (x331.1.2.1 != 0) then some (((0, 0, 0, 0, [], [], [], ()), x331.1.2.1, ()), x331.2.1, x331.2.2.1, ()) else some (((c.1, sg rA, sg rB, sg rC, c.2.2.2.2.1, c.2.2.2.2.2.1, x331.1.1, ()), 0, ()), x331.2.1, x331.2.2.1, ()) else some (((c.1, sg rA, sg rB, sg rC, c.2.2.2.2.1, c.2.2.2.2.2.1, [], ()), 0, ()), s, ab, ())) _
  by_cases hz : c.1 = 8
  · rw [bT hz, cond_true, neF hz, cond_false]
    by_cases h3 : sg rC < 0
    · simp only [dT h3, cond_true, Option.bind_some]
      exact ⟨_, _, _, _, rfl, I, ⟨by decide, by decide⟩, by decide, .inl rfl⟩
    by_cases h4 : sg rC > 256
    · simp only [dF h3, dT h4, cond_true, cond_false, Option.bind_some]
      exact ⟨_, _, _, _, rfl, I, ⟨by decide, by decide⟩, by decide, .inl rfl⟩
    simp only [dF h3, dF h4, cond_false, Option.bind_some]
    have q2 := sg_r r2.1 r2.2
    have q3 := sg_r r3.1 r3.2
    have t1 := read_spec hP hN hd I (addr := sg rB) (n := sg rC) (by omega) (by omega) (by omega) (by omega)
    have t2 := taken_L21 hP (N := N) (d := d) (by omega) I.may (z := c.1) (A := sg rA) (B := sg rB) (C := sg rC) (nm := c.2.2.2.2.1) (ot := c.2.2.2.2.2.1) (s0 := s2) (by omega) (by omega) (by omega) (sg rC).toNat 0 N [] (by omega) (by omega) rfl (fun j x hx => by simp at hx)
    rcases t1 with ⟨a1, s', ab', L, a2, a3, a4, a5⟩ | ⟨a1, a2⟩
    · rcases t2 with ⟨b1, L', b2, b3, b4⟩ | ⟨b1, b2⟩
      · rw [a2, show G_ringref5_Man_Taken_L21 P N d N (sg rC) 0 man s2 (c.1, sg rA, sg rB, sg rC, c.2.2.2.2.1, c.2.2.2.2.2.1, (), ()) [] = _ from b2]
        have := list_by hP (by omega) a5 b4
        subst this
        exact ⟨_, _, _, _, rfl, a3, q2, (by show L.length ≤ 256; omega), .inr ⟨_, _, rfl, rfl⟩⟩
      · exact absurd (fun j h1 h2 => a1 j h1 h2) b1
    · rcases t2 with ⟨b1, L', b2, b3, b4⟩ | ⟨b1, b2⟩
      · exact absurd (fun j h1 h2 => b1 j h1 h2) a1
      · rw [a2, show G_ringref5_Man_Taken_L21 P N d N (sg rC) 0 man s2 (c.1, sg rA, sg rB, sg rC, c.2.2.2.2.1, c.2.2.2.2.2.1, (), ()) [] = _ from b2]
        exact ⟨_, _, _, _, rfl, I, ⟨by decide, by decide⟩, by decide, .inl rfl⟩
  · rw [bF hz, cond_false, neT hz, cond_true]
    exact ⟨_, _, _, _, rfl, I, sg_r r2.1 r2.2, Nat.zero_le _, .inl rfl⟩
end
end Go.Proofs.Ytmjkechkdfobgaa.pv.ed
namespace Go.Proofs.Ytmjkechkdfobgaa.pv.ed
set_option linter.all false
set_option maxRecDepth 10000
open Go.RowKit
section
variable {P : Program} (hP : P = Try.prog) {N d : Nat}
include hP
variable {rows : List (Option Nat)} {mp : List (Int × Option Nat)} {D : List (Int × S_space_entry)} {s : S5} {ab : List S_space_page}
theorem taken_eq (r : S_api_Regs) (man : Mn) : G_ringref5_Man_Taken P N (d + 1) r man =
  (G_ringref5_signed P N d (gA r.1 ⟨0, by decide⟩)).bind fun x336 =>
  (oneE x336.1).bind fun b337 =>
  bif b337 then
  (G_ringref5_Man_Text P N d (gA r.1 ⟨1, by decide⟩) man).bind fun x338 =>
  bif (x338.1.2.1 != 0) then
  some (Sum.inl (((0, 0, 0, 0, [], [], [], ()), x338.1.2.1, ()), ()))
  else
  G_ringref5_Man_Taken_J10 P N d 2 man r (0, 0, 0, 0, [], [], (), ()) (x336.1, 0, 0, 0, x338.1.1, [], (), ())
  else
  G_ringref5_Man_Taken_J10 P N d 1 man r (0, 0, 0, 0, [], [], (), ()) (x336.1, 0, 0, 0, [], [], (), ()) := G_ringref5_Man_Taken_eq hP N d r man
theorem j10_eq (at_ : Int) (man : Mn) (r : S_api_Regs) (s2 c : C7) : G_ringref5_Man_Taken_J10 P N d at_ man r s2 c =
  (twoE c.1).bind fun b344 =>
  bif b344 then
  if h345 : inb at_ 8 = true then
  (G_ringref5_Man_Text P N d (gA r.1 ⟨at_.toNat, inb_lt h345⟩) man).bind fun x346 =>
  bif (x346.1.2.1 != 0) then
  some (Sum.inl (((0, 0, 0, 0, [], [], [], ()), x346.1.2.1, ()), ()))
  else
  G_ringref5_Man_Taken_J15 P N d (wi .i64 (at_ + 1)) man r s2 (u5 c x346.1.1)
  else none
  else
  G_ringref5_Man_Taken_J15 P N d at_ man r s2 c := G_ringref5_Man_Taken_J10_eq hP N d at_ man r s2 c
theorem take_spec (hN : 1001 ≤ N) (hd : 6 ≤ d) {man : Mn} (I : Inv (mm man) s rows mp ab D) {r : S_api_Regs} (hr : ∀ j, 0 ≤ gA r.1 j ∧ gA r.1 j ≤ 4294967295) :
    Both man rows mp D (G_edge_Take P N d 1 r s rows mp ab [D]) (G_ringref5_Man_Taken P N d r man) := by
  obtain ⟨d, rfl⟩ : ∃ q, d = q + 1 := ⟨d - 1, by omega⟩
  obtain ⟨M, hM⟩ : ∃ q, N = q + 3 := ⟨N - 3, by omega⟩
  have hr0 := hr ⟨0, by decide⟩
  rw [G_edge_Take_eq hP, taken_eq hP, texts_spec hP (by omega), signed_spec hP (by omega) hr0.1 hr0.2, Option.bind_some, Option.bind_some]
  show Both man rows mp D (G_edge_Take_L4 P N d N 1 (cls (sg _) : Int) (cls (sg _) : Int) 0 s rows mp ab [D] r _ (sg _, _)) _
  generalize sg (gA r.1 ⟨0, by decide⟩) = z
  rw [oneE_eq, Option.bind_some]
  have w0 : wi .i64 (1 + 0) = 1 := wi64 (by omega) (by omega)
  have w1 : wi .i64 (1 + 1) = 2 := wi64 (by omega) (by omega)
  have w2 : wi .i64 (0 + 1) = 1 := wi64 (by omega) (by omega)
  have w3 : wi .i64 (2 + 1) = 3 := wi64 (by omega) (by omega)
  have i1 : inb 1 8 = true := inb_true (by omega) (by omega)
  have i2 : inb 2 8 = true := inb_true (by omega) (by omega)
  have hc := cls_le z
  have hc : cls z = 0 ∨ cls z = 1 ∨ cls z = 2 := by omega
  rcases hc with hc | hc | hc
  · rw [hc, dF (by omega), cond_false, j10_eq hP, twoE_eq, hc, dF (by omega), Option.bind_some, cond_false]
    have h := take_end hP hN (show 4 ≤ d by omega) I hr (n := 0) (by omega) (by omega) (k := M + 2) (s1 := (0, 0, 0, 0, [], [], (), ())) (s2 := (0, 0, 0, 0, [], [], (), ())) (c := (z, 0, 0, 0, [], [], (), ()))
    rw [show M + 2 + 1 = N by omega] at h
    exact h
  · rw [hc, dT (by omega), cond_true]
    have hr1 := hr ⟨1, by decide⟩
    obtain ⟨x, e, s', ab', e1, e2, I1⟩ := text_spec hP hN (show 5 ≤ d by omega) hr1.1 hr1.2 I.may I
    rw [show N = M + 2 + 1 by omega] at e1 e2 ⊢
    rw [G_edge_Take_L4_eq hP, dT (by decide), cond_true]
    simp only [w0]
    rw [dif_pos i1]
    show Both man rows mp D ((G_edge_Text P (M + 2 + 1) d 1 (gA r.1 ⟨1, by decide⟩) s rows mp ab [D]).bind _) _
    rw [e1, e2, Option.bind_some, Option.bind_some]
    by_cases he : e = 0
    · subst he
      simp only [bne_self_eq_false, cond_false, w2]
      rw [bT rfl, cond_true, j10_eq hP, twoE_eq, hc, dF (by omega), Option.bind_some, cond_false]
      exact take_end hP (by omega) (show 4 ≤ d by omega) I1 hr (n := 1) (by omega) (by omega)
    · simp only [neT he, cond_true]
      exact ⟨_, _, _, _, rfl, I1, ⟨by decide, by decide⟩, by decide, .inl rfl⟩
  · rw [hc, dT (by omega), cond_true]
    have hr1 := hr ⟨1, by decide⟩
    have hr2 := hr ⟨2, by decide⟩
    obtain ⟨x, e, s', ab', e1, e2, I1⟩ := text_spec hP hN (show 5 ≤ d by omega) hr1.1 hr1.2 I.may I
    obtain ⟨x', e', s'', ab'', e3, e4, I2⟩ := text_spec hP hN (show 5 ≤ d by omega) hr2.1 hr2.2 I1.may I1
    rw [show N = M + 2 + 1 by omega] at e1 e2 e3 e4 ⊢
    rw [G_edge_Take_L4_eq hP, dT (by decide), cond_true]
    simp only [w0]
    rw [dif_pos i1]
    show Both man rows mp D ((G_edge_Text P (M + 2 + 1) d 1 (gA r.1 ⟨1, by decide⟩) s rows mp ab [D]).bind _) _
    rw [e1, e2, Option.bind_some, Option.bind_some]
    by_cases he : e = 0
    · subst he
      simp only [bne_self_eq_false, cond_false, w2]
      rw [bT rfl, cond_true, j10_eq hP, twoE_eq, hc, dT (by omega), Option.bind_some, cond_true, G_edge_Take_L4_eq hP, dT (by decide), cond_true]
      simp only [w1]
      rw [dif_pos i2, dif_pos i2]
      show Both man rows mp D ((G_edge_Text P (M + 2 + 1) d 1 (gA r.1 ⟨2, by decide⟩) s' rows mp ab' [D]).bind _) ((G_ringref5_Man_Text P (M + 2 + 1) d (gA r.1 ⟨2, by decide⟩) man).bind _)
      rw [e3, e4, Option.bind_some, Option.bind_some]
      by_cases he : e' = 0
      · subst he
        simp only [bne_self_eq_false, cond_false, w1, w3]
        rw [bF (by decide), cond_false]
        exact take_end hP (by omega) (show 4 ≤ d by omega) I2 hr (n := 2) (by omega) (by omega)
      · simp only [neT he, cond_true]
        exact ⟨_, _, _, _, rfl, I2, ⟨by decide, by decide⟩, by decide, .inl rfl⟩
    · simp only [neT he, cond_true]
      exact ⟨_, _, _, _, rfl, I1, ⟨by decide, by decide⟩, by decide, .inl rfl⟩
end
end Go.Proofs.Ytmjkechkdfobgaa.pv.ed
namespace Go.Proofs.Ytmjkechkdfobgaa.pv.ed
set_option linter.all false
set_option maxRecDepth 10000
open Go.RowKit
/-- a byte put -/
abbrev setB (mem : Mem) (j : Fin 64) (k : Fin 16) (b : Int) : Mem := sA mem j (u2 (gA mem j) (sA (gA mem j).2.2.1 k b))
theorem setB_there (mem : Mem) (j : Fin 64) (k : Fin 16) (b : Int) (i : Fin 64) : (gA (setB mem j k b) i).1 = (gA mem i).1 := by
  rw [gA_sA]
  split
  · rename_i h; rw [h]; rfl
  · rfl
theorem thr_same {mem mem' : Mem} (h : ∀ i, (gA mem' i).1 = (gA mem i).1) (x : Int) : thr mem' x = thr mem x := by
  unfold thr
  split
  · exact h _
  · rfl
theorem bt_same {mem mem' : Mem} (h : ∀ i, (gA mem' i).1 = (gA mem i).1) (a : Int) : (bt mem' a).isSome = (bt mem a).isSome := by
  rw [bt_thr, bt_thr, thr_same h]
theorem Inv.put {mem : Mem} {s : S5} {rows : List (Option Nat)} {mp : List (Int × Option Nat)} {ab : List S_space_page} {D : List (Int × S_space_entry)} (I : Inv mem s rows mp ab D) {j : Fin 64} (k : Fin 16) (b : Int) (hj : (gA mem j).1 = true)
    {i : Nat} {e : S_space_page} (h1 : mlI D (j.1 : Int) = some (some i, 3, ())) (h2 : ab[i]? = some e) : Inv (setB mem j k b) s rows mp (lset ab i (u0 e (sA e.1 k b))) D where
  f := I.f
  o := I.o
  n := I.n
  r := I.r.same (lset_len _ _ _)
  m := I.m
  t j' hj' := by
    rw [setB_there] at hj'
    obtain ⟨i', e', a1, a2, a3, a4, a5⟩ := I.t j' hj'
    by_cases hjj : j = j'
    · subst hjj
      rw [h1] at a1
      cases a1
      rw [h2] at a2
      cases a2
      refine ⟨i, u0 e (sA e.1 k b), h1, by unfold lset; exact List.getElem?_set_self (List.getElem?_eq_some_iff.1 h2).1, ?_, a4, ?_⟩
      · rw [gA_sA, if_pos rfl, ← a3]; rfl
      · rw [gA_sA, if_pos rfl]; exact a5
    · have hne : i ≠ i' := fun hh => by
        subst hh
        have := I.q _ _ _ _ _ h1 a1
        exact hjj (Fin.ext (by omega))
      refine ⟨i', e', a1, by unfold lset; rw [List.getElem?_set_ne hne]; exact a2, ?_, a4, ?_⟩
      · rw [gA_sA, if_neg hjj]; exact a3
      · rw [gA_sA, if_neg hjj]; exact a5
  u j' hj' := by rw [setB_there] at hj'; exact I.u j' hj'
  q := I.q
  b j' i' e' h := by rw [lset_len]; exact I.b j' i' e' h
section
variable {P : Program} (hP : P = Try.prog) {N d : Nat}
include hP
variable {rows : List (Option Nat)} {mp : List (Int × Option Nat)} {D : List (Int × S_space_entry)} {s : S5} {ab : List S_space_page}
theorem mput_spec (hd : 2 ≤ d) {man : Mn} (hm : ∀ j : Fin 64, (gA (mm man) j).1 = true → (gA (mm man) j).2.1 = 3) {a b : Int} {j : Fin 64} {k : Fin 16} (h0 : 0 ≤ a) (h1 : a < 1024) (hj : (j.1 : Int) = a / 16) (hk : (k.1 : Int) = a % 16) (ht : (gA (mm man) j).1 = true) :
    G_ringref5_Man_Put P N d a b man = some (true, u6 man (setB (mm man) j k b), ()) := by
  obtain ⟨d, rfl⟩ : ∃ q, d = q + 1 := ⟨d - 1, by omega⟩
  have e0 : wi .i64 (a.tdiv 16) = (j.1 : Int) := by rw [Int.tdiv_eq_ediv_of_nonneg (by omega), wi64 (by omega) (by omega), hj]
  have e1 : inb (wi .i64 (a.tdiv 16)) 64 = true := by rw [e0]; exact inb_true (by omega) (by have := j.2; omega)
  have e2 : (⟨(wi .i64 (a.tdiv 16)).toNat, inb_lt e1⟩ : Fin 64) = j := Fin.ext (by show (wi .i64 (a.tdiv 16)).toNat = j.1; rw [e0]; simp)
  have e3 : inb (a.tmod 16) 16 = true := by rw [Int.tmod_eq_emod_of_nonneg (by omega)]; exact inb_true (by omega) (by omega)
  have e4 : (⟨(a.tmod 16).toNat, inb_lt e3⟩ : Fin 16) = k := Fin.ext (by show (a.tmod 16).toNat = k.1; rw [Int.tmod_eq_emod_of_nonneg (by omega)]; omega)
  rw [G_ringref5_Man_Put_eq hP, byte_spec hP (by omega) hm (.inr rfl) (by omega) (by omega), bt_eq hj hk, ht, cond_true, Option.bind_some]
  simp only [Bool.not_true, cond_false]
  rw [dif_pos e1, dif_pos e3, e2, e4]
theorem shared_L3 {man : Mn} (I : Inv (mm man) s rows mp ab D) {addr n last : Int} (h0 : 0 ≤ addr) (h1 : 1 ≤ n) (h2 : addr + n ≤ 1024) (hl : last = (addr + n - 1) / 16) (ha : ∀ x : Int, addr / 16 ≤ x → x ≤ last → thr (mm man) x = true) :
    ∀ (m : Nat) (p : Int) (k : Nat), addr / 16 ≤ p → p + m = last + 1 → m < k → G_space_Memory_shared_L3 P N d k 1 addr n 0 p s rows mp ab [D] = some (0, ()) := by
  have e1 : wi .i64 ((wi .i64 ((wi .i64 (addr + n)) - 1)).tdiv 16) = last := by
    rw [wi64 (x := addr + n) (by omega) (by omega), wi64 (x := addr + n - 1) (by omega) (by omega), Int.tdiv_eq_ediv_of_nonneg (by omega), wi64 (by omega) (by omega), hl]
  intro m
  induction m with
  | zero =>
    intro p k hp he hk
    obtain ⟨k, rfl⟩ : ∃ q, k = q + 1 := ⟨k - 1, by omega⟩
    rw [G_space_Memory_shared_L3_eq hP, e1, dT (by omega), cond_true, dF (by omega), Option.bind_some, cond_false]
  | succ m ih =>
    intro p k hp he hk
    obtain ⟨k, rfl⟩ : ∃ q, k = q + 1 := ⟨k - 1, by omega⟩
    rw [G_space_Memory_shared_L3_eq hP, e1, dT (by omega), cond_true, dT (by omega), Option.bind_some, cond_true, I.m, Option.getD_some, oc_some, lget_cons0, Option.bind_some]
    have hj : ((⟨p.toNat, by omega⟩ : Fin 64).1 : Int) = p := by show (p.toNat : Int) = p; omega
    obtain ⟨i, e, a1, a2, _, a4, _⟩ := I.t ⟨p.toNat, by omega⟩ (by rw [← thr_eq hj]; exact ha p hp (by omega))
    rw [hj] at a1
    rw [a1, Option.getD_some, Option.bind_some, lget_of a2, Option.bind_some, a4, dF (by omega), cond_false, wi64 (by omega) (by omega)]
    exact ih (p + 1) k (by omega) (by omega) (by omega)
theorem lay_L4 (hN : 1001 ≤ N) (hd : 3 ≤ d) {d' : Nat} (hd' : 2 ≤ d') {data : List Int} {addr : Int} (hl : data.length ≤ 256) {r : S_api_Regs} {c : S_api_Call} {a : S_api_Answer} {x : S_api_Regs} (hc : c.2.2.1 = addr) :
    ∀ (m t k k' : Nat) (man : Mn) (s : S5) (ab : List S_space_page), Inv (mm man) s rows mp ab D → (∀ j : Int, 0 ≤ j → j < data.length → (bt (mm man) (addr + j)).isSome = true) → t + m = data.length → m < k → m < k' →
    ∃ s' ab' man', G_space_Memory_lay_L4 P N d k 1 addr data (data.length : Int) (t : Int) s mp ab [D] rows = some (0, s', ab', [D], rows, ()) ∧
      G_ringref5_Man_Given_L10 P N d' k' data (data.length : Int) (t : Int) man r c a x = G_ringref5_Man_Given_J14 P N d' man' r a x ∧ Inv (mm man') s' rows mp ab' D ∧ ∀ i, (gA (mm man') i).1 = (gA (mm man) i).1 := by
  intro m
  induction m with
  | zero =>
    intro t k k' man s ab I h ht hk hk'
    obtain ⟨k, rfl⟩ : ∃ q, k = q + 1 := ⟨k - 1, by omega⟩
    obtain ⟨k', rfl⟩ : ∃ q, k' = q + 1 := ⟨k' - 1, by omega⟩
    rw [G_space_Memory_lay_L4_eq hP, G_ringref5_Man_Given_L10_eq hP, dF (by omega), cond_false, cond_false]
    exact ⟨_, _, man, rfl, rfl, I, fun _ => rfl⟩
  | succ m ih =>
    intro t k k' man s ab I h ht hk hk'
    obtain ⟨k, rfl⟩ : ∃ q, k = q + 1 := ⟨k - 1, by omega⟩
    obtain ⟨k', rfl⟩ : ∃ q, k' = q + 1 := ⟨k' - 1, by omega⟩
    obtain ⟨j, kk, h0, h1, hj, hkk, hth, _⟩ := bt_some (h t (by omega) (by omega))
    obtain ⟨i, e, a1, a2, a3, a4, a5⟩ := I.t j hth
    rw [G_space_Memory_lay_L4_eq hP, G_ringref5_Man_Given_L10_eq hP, dT (by omega), cond_true, cond_true, dT (by omega), cond_true, cond_true, Int.toNat_natCast, lget_lt (show t < data.length by omega), Option.bind_some, Option.bind_some, I.m, Option.getD_some, oc_some, lget_cons0, Option.bind_some, hc]
    rw [wi64 (x := addr + (t : Int)) (by omega) (by omega), Int.tdiv_eq_ediv_of_nonneg h0, wi64 (x := (addr + (t : Int)) / 16) (by omega) (by omega), ← hj, a1, Option.getD_some, G_space_Memory_lay_J8_eq hP, Option.bind_some, lget_of a2, Option.bind_some, a4, dF (by omega), cond_false, G_space_Memory_lay_J12_eq hP]
    obtain ⟨s1, ab1, e1, e2, e3, e4⟩ := ask_spec hP hN (show 2 ≤ d by omega) (s := s) (mp := mp) (I.b _ _ _ a1) I.r (by have := I.n; omega) I.f
    have hm : inb ((addr + (t : Int)).tmod 16) 16 = true := by rw [Int.tmod_eq_emod_of_nonneg h0]; exact inb_true (by omega) (by omega)
    have hm2 : (⟨((addr + (t : Int)).tmod 16).toNat, inb_lt hm⟩ : Fin 16) = kk := Fin.ext (by show ((addr + (t : Int)).tmod 16).toNat = kk.1; rw [Int.tmod_eq_emod_of_nonneg h0]; omega)
    obtain ⟨e', b1, b2, b3⟩ := e4.2 i e a2
    rw [e1, Option.bind_some, Option.bind_some]
    simp only [wi64 (x := addr + (t : Int)) (by omega) (by omega)]
    rw [dif_pos hm, lget_of b1, Option.bind_some, hm2, wi64 (x := (t : Int) + 1) (by omega) (by omega), show (t : Int) + 1 = ((t + 1 : Nat) : Int) by simp, mput_spec hP (by omega) I.may h0 h1 hj hkk hth, Option.bind_some]
    have I1 : Inv (mm man) s1 rows mp ab1 D := I.same e4 e2 e3
    have I2 := I1.put kk data[t] hth a1 b1
    obtain ⟨s', ab', man', c1, c2, c3, c4⟩ := ih (t + 1) k k' (u6 man (setB (mm man) j kk data[t])) s1 (lset ab1 i (u0 e' (sA e'.1 kk data[t]))) I2 (fun q hq hq' => by
      rw [show mm (u6 man (setB (mm man) j kk data[t])) = setB (mm man) j kk data[t] from rfl, bt_same (setB_there _ _ _ _)]; exact h q hq hq') (by omega) (by omega) (by omega)
    exact ⟨s', ab', man', c1, c2, c3, fun i => (c4 i).trans (setB_there _ _ _ _ i)⟩
end
end Go.Proofs.Ytmjkechkdfobgaa.pv.ed
namespace Go.Proofs.Ytmjkechkdfobgaa.pv.ed
set_option linter.all false
set_option maxRecDepth 10000
open Go.RowKit
section
variable {P : Program} (hP : P = Try.prog) {N d : Nat}
include hP
variable {rows : List (Option Nat)} {mp : List (Int × Option Nat)} {D : List (Int × S_space_entry)} {s : S5} {ab : List S_space_page}
theorem write_spec (hN : 1001 ≤ N) (hd : 5 ≤ d) {d' : Nat} (hd' : 2 ≤ d') {man : Mn} (I : Inv (mm man) s rows mp ab D) {data : List Int} {addr : Int} (hl : data.length ≤ 256) (hl0 : 0 < data.length) {r : S_api_Regs} {c : S_api_Call} {a : S_api_Answer} {x : S_api_Regs} (hc : c.2.2.1 = addr) (hr : -2147483648 ≤ addr ∧ addr ≤ 2147483647) :
    ((∀ j : Int, 0 ≤ j → j < data.length → (bt (mm man) (addr + j)).isSome = true) ∧ ∃ s' ab' man', G_space_Memory_Write P N d 1 addr data s rows mp ab [D] = some (0, s', ab', [D], rows, ()) ∧
      G_ringref5_Man_Given_L10 P N d' N data (data.length : Int) 0 man r c a x = G_ringref5_Man_Given_J14 P N d' man' r a x ∧ Inv (mm man') s' rows mp ab' D ∧ ∀ i, (gA (mm man') i).1 = (gA (mm man) i).1) ∨
    ((¬ ∀ j : Int, 0 ≤ j → j < data.length → (bt (mm man) (addr + j)).isSome = true) ∧ G_space_Memory_Write P N d 1 addr data s rows mp ab [D] = some (11, s, ab, [D], rows, ())) := by
  obtain ⟨d, rfl⟩ : ∃ q, d = q + 2 := ⟨d - 2, by omega⟩
  obtain ⟨b, e1, e2⟩ := may_spec hP hN (show 1 ≤ d + 1 by omega) I (.inr rfl) (addr := addr) (n := data.length) (by omega) (by omega) (by omega) (by omega)
  rw [show d + 2 = d + 1 + 1 from rfl, G_space_Memory_Write_eq hP, I.m, Option.getD_some, Option.isNone_some, cond_false, dF (by omega), cond_false, e1, Option.bind_some]
  cases b with
  | false => exact .inr ⟨(fun h => by have := e2.2 h; cases this), rfl⟩
  | true =>
    have h := e2.1 rfl
    obtain ⟨_, _, h0, _⟩ := bt_some (h 0 (by omega) (by omega))
    obtain ⟨_, _, _, h1, _⟩ := bt_some (h (data.length - 1) (by omega) (by omega))
    have hs : G_space_Memory_shared P N d 1 addr (data.length : Int) s rows mp ab [D] = some (0, ()) := by
      obtain ⟨d, rfl⟩ : ∃ q, d = q + 1 := ⟨d - 1, by omega⟩
      rw [G_space_Memory_shared_eq hP, Int.tdiv_eq_ediv_of_nonneg (by omega), wi64 (by omega) (by omega)]
      refine shared_L3 hP I (n := data.length) (by omega) (by omega) (by omega) rfl (fun y hy hy' => ?_) ((addr + data.length - 1) / 16 + 1 - addr / 16).toNat (addr / 16) N (by omega) (by omega) (by omega)
      by_cases hc : 16 * y ≤ addr
      · have := h 0 (by omega) (by omega)
        rw [bt_thr] at this
        rw [show y = (addr + 0) / 16 by omega]; exact this
      · have := h (16 * y - addr) (by omega) (by omega)
        rw [bt_thr] at this
        rw [show y = (addr + (16 * y - addr)) / 16 by omega]; exact this
    have hrm : G_space_Memory_room P N d 0 s rows mp = some (true, ()) := by
      obtain ⟨d, rfl⟩ : ∃ q, d = q + 1 := ⟨d - 1, by omega⟩
      have := I.n
      rw [G_space_Memory_room_eq hP, I.f, I.o, wi64 (x := 64 + 0) (by omega) (by omega), wi64 (by omega) (by omega), dT (by omega)]
    rw [Bool.not_true, cond_false, G_space_Memory_lay_eq hP, hs, Option.bind_some, hrm, Option.bind_some, Bool.not_true, cond_false]
    obtain ⟨s', ab', man', c1, c2, c3, c4⟩ := lay_L4 hP hN (show 3 ≤ d by omega) hd' hl (r := r) (a := a) (x := x) hc data.length 0 N N man s ab I h (by omega) (by omega) (by omega)
    rw [show G_space_Memory_lay_L4 P N d N 1 addr data (data.length : Int) 0 s mp ab [D] rows = _ from c1]
    exact .inl ⟨h, s', ab', man', rfl, c2, c3, c4⟩
theorem given_L3 (hN : 1001 ≤ N) {d' : Nat} (hd' : 1 ≤ d') {man : Mn} (hm : ∀ j : Fin 64, (gA (mm man) j).1 = true → (gA (mm man) j).2.1 = 3) {n : Int} {r x : S_api_Regs} {c : S_api_Call} {a : S_api_Answer} (hr : -2147483648 ≤ c.2.2.1 ∧ c.2.2.1 ≤ 2147483647) (hn : n ≤ 256) :
    ∀ (m t k : Nat), (t : Int) + m = n → m < k →
    ((∀ j : Int, t ≤ j → j < n → (bt (mm man) (c.2.2.1 + j)).isSome = true) → G_ringref5_Man_Given_L3 P N d' k n (t : Int) man r c a x = G_ringref5_Man_Given_J9 P N d' man r c a x) ∧
    ((¬ ∀ j : Int, t ≤ j → j < n → (bt (mm man) (c.2.2.1 + j)).isSome = true) → G_ringref5_Man_Given_L3 P N d' k n (t : Int) man r c a x = G_ringref5_Man_Given_J9 P N d' man r c (11, 0, 0, [], [], (0, 0, 0, 0, 0, 0, ()), ()) x) := by
  intro m
  induction m with
  | zero =>
    intro t k ht hk
    obtain ⟨k, rfl⟩ : ∃ q, k = q + 1 := ⟨k - 1, by omega⟩
    rw [G_ringref5_Man_Given_L3_eq hP, dF (by omega), cond_false]
    exact ⟨fun _ => rfl, fun h => absurd (fun j h1 h2 => by omega) h⟩
  | succ m ih =>
    intro t k ht hk
    obtain ⟨k, rfl⟩ : ∃ q, k = q + 1 := ⟨k - 1, by omega⟩
    rw [G_ringref5_Man_Given_L3_eq hP, dT (by omega), cond_true, wi64 (x := c.2.2.1 + (t : Int)) (by omega) (by omega), byte_spec hP hd' hm (.inr rfl) (by omega) (by omega), Option.bind_some]
    cases hb : bt (mm man) (c.2.2.1 + (t : Int)) with
    | none =>
      refine ⟨fun h => ?_, fun _ => rfl⟩
      have := h t (by omega) (by omega)
      rw [hb] at this; cases this
    | some b =>
      simp only [Bool.not_true, cond_false]
      rw [wi64 (x := (t : Int) + 1) (by omega) (by omega), show (t : Int) + 1 = ((t + 1 : Nat) : Int) by simp]
      have := ih (t + 1) k (by omega) (by omega)
      refine ⟨fun h => this.1 fun j hj hj' => h j (by omega) hj', fun h => this.2 fun h' => h fun j hj hj' => ?_⟩
      rcases Int.lt_or_eq_of_le hj with hj | rfl
      · exact h' j (by omega) hj'
      · rw [hb]; rfl
def regs (r : S_api_Regs) (a : S_api_Answer) : S_api_Regs := u0 r (sA (sA (sA r.1 ⟨0, by decide⟩ (wi .u32 (a.2.1))) ⟨1, by decide⟩ (wi .u32 (a.1))) ⟨2, by decide⟩ (wi .u32 (a.2.2.1)))
theorem give_spec (hN : 1001 ≤ N) (hd : 6 ≤ d) {man : Mn} (I : Inv (mm man) s rows mp ab D) {r : S_api_Regs} {c : S_api_Call} {a : S_api_Answer} (hl : a.2.2.2.1.length ≤ 256) (hr : -2147483648 ≤ c.2.2.1 ∧ c.2.2.1 ≤ 2147483647) :
    ∃ (x : S_api_Regs) (s' : S5) (ab' : List S_space_page) (man' : Mn), G_edge_Give P N d 1 r c a s rows mp ab [D] = some (x, s', ab', [D], rows, ()) ∧ G_ringref5_Man_Given P N d r c a man = some (x, man', ()) ∧ Inv (mm man') s' rows mp ab' D ∧ ∀ i, (gA (mm man') i).1 = (gA (mm man) i).1 := by
  obtain ⟨d, rfl⟩ : ∃ q, d = q + 1 := ⟨d - 1, by omega⟩
  obtain ⟨M, hM⟩ : ∃ q, N = q + 1 := ⟨N - 1, by omega⟩
  rw [G_edge_Give_eq hP, G_ringref5_Man_Given_eq hP]
  by_cases h1 : a.1 = 0
  · rw [bT h1, cond_true, cond_true]
    by_cases h2 : c.1 = 7
    · rw [bT h2, cond_true, Option.bind_some, Option.bind_some, cond_true]
      by_cases h3 : 0 < a.2.2.2.1.length
      · rw [dT (show (a.2.2.2.1.length : Int) > 0 by omega), cond_true]
        have g := given_L3 hP hN (show 1 ≤ d by omega) I.may (n := a.2.2.2.1.length) (r := r) (x := ((nA 8 0), 0, 0, ())) (a := a) hr (by omega) a.2.2.2.1.length 0 N (by omega) (by omega)
        rcases write_spec hP hN (show 5 ≤ d by omega) (show 2 ≤ d by omega) I hl h3 (r := r) (c := c) (a := a) (x := ((nA 8 0), 0, 0, ())) rfl hr with ⟨w1, s', ab', man', w2, w3, w4, w5⟩ | ⟨w1, w2⟩
        · rw [w2, Option.bind_some, neF rfl, cond_false, show G_ringref5_Man_Given_L3 P N d N (a.2.2.2.1.length : Int) 0 man r c a ((nA 8 0), 0, 0, ()) = _ from g.1 (fun j hj hj' => w1 j (by omega) hj'), G_ringref5_Man_Given_J9_eq hP, w3]
          exact ⟨regs r a, s', ab', man', G_edge_Give_J5_eq hP .., G_ringref5_Man_Given_J14_eq hP .., w4, w5⟩
        · rw [w2, Option.bind_some, neT (show (11 : Int) ≠ 0 by decide), cond_true, show G_ringref5_Man_Given_L3 P N d N (a.2.2.2.1.length : Int) 0 man r c a ((nA 8 0), 0, 0, ()) = _ from g.2 (fun hh => w1 fun j hj hj' => hh j (by omega) hj'), G_ringref5_Man_Given_J9_eq hP]
          have e : G_ringref5_Man_Given_L10 P N d N [] 0 0 man r c (11, 0, 0, [], [], (0, 0, 0, 0, 0, 0, ()), ()) ((nA 8 0), 0, 0, ()) = G_ringref5_Man_Given_J14 P N d man r (11, 0, 0, [], [], (0, 0, 0, 0, 0, 0, ()), ()) ((nA 8 0), 0, 0, ()) := by
            rw [hM, G_ringref5_Man_Given_L10_eq hP, dF (by omega), cond_false]
          exact ⟨regs r (11, 0, 0, [], [], (0, 0, 0, 0, 0, 0, ()), ()), s, ab, man, G_edge_Give_J5_eq hP .., e.trans (G_ringref5_Man_Given_J14_eq hP ..), I, fun _ => rfl⟩
      · rw [dF (show ¬ (a.2.2.2.1.length : Int) > 0 by omega), cond_false]
        have h0 : a.2.2.2.1 = [] := List.length_eq_zero_iff.1 (by omega)
        have e : G_ringref5_Man_Given_L3 P N d N (a.2.2.2.1.length : Int) 0 man r c a ((nA 8 0), 0, 0, ()) = G_ringref5_Man_Given_J14 P N d man r a ((nA 8 0), 0, 0, ()) := by
          rw [hM, G_ringref5_Man_Given_L3_eq hP, dF (by omega), cond_false, G_ringref5_Man_Given_J9_eq hP, G_ringref5_Man_Given_L10_eq hP, dF (by omega), cond_false]
        rw [e]
        exact ⟨regs r a, s, ab, man, G_edge_Give_J5_eq hP .., G_ringref5_Man_Given_J14_eq hP .., I, fun _ => rfl⟩
    · rw [bF h2, cond_false, Option.bind_some, Option.bind_some, cond_false, cond_false]
      exact ⟨regs r a, s, ab, man, G_edge_Give_J5_eq hP .., G_ringref5_Man_Given_J14_eq hP .., I, fun _ => rfl⟩
  · rw [bF h1, cond_false, cond_false, Option.bind_some, Option.bind_some, cond_false, cond_false]
    exact ⟨regs r a, s, ab, man, G_edge_Give_J5_eq hP .., G_ringref5_Man_Given_J14_eq hP .., I, fun _ => rfl⟩
end
end Go.Proofs.Ytmjkechkdfobgaa.pv.ed
namespace Go.Proofs.Ytmjkechkdfobgaa.pv.ed
set_option linter.all false
set_option maxRecDepth 10000
open Go.RowKit
abbrev newPg (dt : Ar 16 Int) (h : Bool) (q : Int) : S_space_page := (dt, 1, h, q, ())
abbrev pgOf (data : List Int) (hc : (cpyR (nA 16 (0 : Int)).1 0 16 data).length = 16) : Ar 16 Int := ⟨cpyR (nA 16 0).1 0 16 data, hc⟩
/-- one page more -/
theorem Inv.more {mem mem' : Mem} {s s' : S5} {rows : List (Option Nat)} {mp : List (Int × Option Nat)} {ab ab' : List S_space_page} {D : List (Int × S_space_entry)} (I : Inv mem s rows mp ab D) {j : Fin 64} {dt : Ar 16 Int} {h : Bool} {q : Int}
    (hj : (gA mem j).1 = false) (hn : rows.length < 60) (h1 : gA mem' j = (true, 3, dt, ())) (h2 : ∀ i, i ≠ j → gA mem' i = gA mem i) (hs : Same (ab ++ [newPg dt h q]) ab') (e1 : s'.1 = s.1) (e2 : s'.2.1 = s.2.1) :
    Inv mem' s' (rows ++ [some ab.length]) mp ab' (mpI D (j.1 : Int) (some ab.length, 3, ())) where
  f := e1.trans I.f
  o := e2.trans I.o
  n := by simp; omega
  r := by
    intro x hx
    have hl := hs.1
    simp at hl
    rcases List.mem_append.1 hx with hx | hx
    · obtain ⟨i, e, hi⟩ := I.r x hx
      exact ⟨i, e, by omega⟩
    · simp at hx
      exact ⟨_, hx, by omega⟩
  m := I.m
  t i hi := by
    by_cases hij : i = j
    · subst hij
      obtain ⟨e', b1, b2, b3⟩ := hs.2 ab.length (newPg dt h q) (by rw [List.getElem?_append_right (Nat.le_refl _)]; simp)
      refine ⟨ab.length, e', by rw [mlI_put, if_pos rfl], b1, ?_, b3, ?_⟩
      · rw [b2, h1]
      · rw [h1]
    · rw [h2 i hij] at hi ⊢
      obtain ⟨k, e, a1, a2, a3, a4, a5⟩ := I.t i hi
      have hk := (List.getElem?_eq_some_iff.1 a2).1
      obtain ⟨e', b1, b2, b3⟩ := hs.2 k e (by rw [List.getElem?_append_left hk]; exact a2)
      refine ⟨k, e', ?_, b1, b2.trans a3, b3.trans a4, a5⟩
      rw [mlI_put, if_neg (fun hh => hij (Fin.ext (by omega)))]; exact a1
  u i hi := by
    by_cases hij : i = j
    · subst hij
      rw [h1] at hi; cases hi
    · rw [h2 i hij] at hi
      rw [mlI_put, if_neg (fun hh => hij (Fin.ext (by omega)))]; exact I.u i hi
  q a b i e e' ha hb := by
    rw [mlI_put] at ha hb
    split at ha
    · rename_i h3
      split at hb
      · rename_i h4; omega
      · cases ha
        have := I.b _ _ _ hb
        omega
    · split at hb
      · cases hb
        have := I.b _ _ _ ha
        omega
      · exact I.q a b i e e' ha hb
  b a i e ha := by
    have hl := hs.1
    simp at hl
    rw [mlI_put] at ha
    split at ha
    · cases ha; omega
    · have := I.b a i e ha; omega
section
variable {P : Program} (hP : P = Try.prog) {N d : Nat}
include hP
variable {rows : List (Option Nat)} {mp : List (Int × Option Nat)} {D : List (Int × S_space_entry)} {s : S5} {ab : List S_space_page}
theorem put_spec (hN : 1001 ≤ N) (hd : 5 ≤ d) {mem : Mem} (I : Inv mem s rows mp ab D) {j : Fin 64} {data : List Int} (hj : (gA mem j).1 = false) (hn : rows.length < 60) (hl : data.length ≤ 16) (hc : (cpyR (nA 16 (0 : Int)).1 0 16 data).length = 16) :
    ∃ (s' : S5) (ab' : List S_space_page) (h : Bool) (q : Int), G_space_Memory_Put P N d 1 (j.1 : Int) 3 data s rows mp ab [D] = some (0, s', ab', [mpI D (j.1 : Int) (some ab.length, 3, ())], rows ++ [some ab.length], ()) ∧
      Same (ab ++ [newPg (pgOf data hc) h q]) ab' ∧ s'.1 = s.1 ∧ s'.2.1 = s.2.1 := by
  obtain ⟨d, rfl⟩ : ∃ q, d = q + 2 := ⟨d - 2, by omega⟩
  have hj2 := j.2
  have hsp : G_space_Memory_span P N (d + 1) 1 (j.1 : Int) 1 3 s rows mp = some (0, ()) := by
    rw [G_space_Memory_span_eq hP, I.m, Option.getD_some, Option.isNone_some, cond_false, dF (show ¬ (j.1 : Int) < 0 by omega), cond_false, dF (show ¬ (j.1 : Int) ≥ 64 by omega), cond_false, dF (show ¬ (1 : Int) < 1 by omega), cond_false, wi64 (by omega) (by omega), dF (show ¬ (1 : Int) > 64 - (j.1 : Int) by omega), cond_false, dF (show ¬ (3 : Int) < 0 by omega), cond_false, dF (show ¬ (3 : Int) > 7 by omega), Option.bind_some, cond_false]
  have hrm : G_space_Memory_room P N (d + 1) 1 s rows mp = some (true, ()) := by
    rw [G_space_Memory_room_eq hP, I.f, I.o, wi64 (x := 64 + 0) (by omega) (by omega), wi64 (by omega) (by omega), dT (by omega)]
  have hr1 : RowsOk (rows ++ [some ab.length]) (ab ++ [newPg (pgOf data hc) false 0]) := by
    intro x hx
    rcases List.mem_append.1 hx with hx | hx
    · obtain ⟨i, e, hi⟩ := I.r x hx
      exact ⟨i, e, by simp; omega⟩
    · simp at hx
      exact ⟨_, hx, by simp⟩
  obtain ⟨s1, ab1, e1, e2, e3, e4⟩ := ask_spec hP hN (show 2 ≤ d by omega) (i := ab.length) (s := (s.1, s.2.1, s.2.2.1, (), (), ())) (mp := mp) (ab := ab ++ [newPg (pgOf data hc) false 0]) (by simp) hr1 (by simp; omega) I.f
  have hadd : G_space_Memory_add P N (d + 1) (pgOf data hc) s rows mp ab = some (some ab.length, s1, ab1, rows ++ [some ab.length], ()) := by
    rw [G_space_Memory_add_eq hP, lenOk_true (by simp; omega) (by omega), cond_true, e1, Option.bind_some]
  rw [show d + 2 = d + 1 + 1 from rfl, G_space_Memory_Put_eq hP, hsp, Option.bind_some, neF rfl, cond_false, dF (by omega), cond_false, I.m, Option.getD_some, oc_some, lget_cons0, Option.bind_some, I.u j hj, Option.isSome_none, G_space_Memory_Put_J7_eq hP, cond_false, hrm, Option.bind_some, Bool.not_true, cond_false, dif_pos hc, hadd, Option.bind_some, I.m, Option.getD_some, oc_some, lget_cons0, Option.bind_some, lset_cons0]
  exact ⟨s1, ab1, false, 0, rfl, e4, e2, e3⟩
theorem equal_L4 {L : List Int} (hl : L.length ≤ 1000) : ∀ (m t k : Nat), t + m = L.length → m < k → G_slices_Equal_L4 P N d k L L (L.length : Int) (t : Int) = some (true, ()) := by
  intro m
  induction m with
  | zero =>
    intro t k ht hk
    obtain ⟨k, rfl⟩ : ∃ q, k = q + 1 := ⟨k - 1, by omega⟩
    rw [G_slices_Equal_L4_eq hP, dF (by omega), cond_false]
  | succ m ih =>
    intro t k ht hk
    obtain ⟨k, rfl⟩ : ∃ q, k = q + 1 := ⟨k - 1, by omega⟩
    rw [G_slices_Equal_L4_eq hP, dT (by omega), cond_true, dT (by omega), cond_true, Int.toNat_natCast, lget_lt (show t < L.length by omega), Option.bind_some, cond_true, Option.bind_some, neF rfl, cond_false, wi_nat (by omega)]
    exact ih (t + 1) k (by omega) (by omega)
theorem same_spec (hN : 1001 ≤ N) (hd : 2 ≤ d) {c : S_api_Call} (hl : c.2.2.2.2.2.2.1.length ≤ 256) : G_ringlaw5_sameCall P N d c c = some (true, ()) := by
  obtain ⟨d, rfl⟩ : ∃ q, d = q + 2 := ⟨d - 2, by omega⟩
  have e : G_slices_Equal P N (d + 1) c.2.2.2.2.2.2.1 c.2.2.2.2.2.2.1 = some (true, ()) := by
    rw [G_slices_Equal_eq hP, neF rfl, cond_false]
    exact equal_L4 hP (by omega) c.2.2.2.2.2.2.1.length 0 N (by omega) (by omega)
  rw [show d + 2 = d + 1 + 1 from rfl, G_ringlaw5_sameCall_eq hP, bT rfl, cond_true, bT rfl, cond_true, bT rfl, cond_true, bT rfl, cond_true, beq_self_eq_true, cond_true, beq_self_eq_true, cond_true, e, Option.bind_some, Option.bind_some]
theorem end_L33 {man : Mn} {am : List (List (Int × S_space_entry))} {page : Int} {L : List Int} (h0 : 0 ≤ page) (h1 : page < 60) (hl : L.length = 64) (hb : ∀ (j : Nat) (x : Int), L[j]? = some x → bt (mm man) (16 * page + j) = some x) :
    ∀ (m t k : Nat), t + m = 64 → m < k → G_ringlaw5_EdgeSays_L33 P N d k page L (L.length : Int) (t : Int) ab am man = some (true, ab, am, ()) := by
  intro m
  induction m with
  | zero =>
    intro t k ht hk
    obtain ⟨k, rfl⟩ : ∃ q, k = q + 1 := ⟨k - 1, by omega⟩
    rw [G_ringlaw5_EdgeSays_L33_eq hP, dF (by omega), cond_false]
  | succ m ih =>
    intro t k ht hk
    obtain ⟨k, rfl⟩ : ∃ q, k = q + 1 := ⟨k - 1, by omega⟩
    have hx := hb t _ (List.getElem?_eq_getElem (show t < L.length by omega))
    obtain ⟨j, kk, _, _, hj, hkk, ht, hbt⟩ := bt_some (mem := mm man) (a := 16 * page + t) (by rw [hx]; rfl)
    have e0 : wi .i64 (page + (wi .i64 ((t : Int).tdiv 16))) = (j.1 : Int) := by rw [Int.tdiv_eq_ediv_of_nonneg (by omega), wi64 (x := (t : Int) / 16) (by omega) (by omega), wi64 (by omega) (by omega), hj]; omega
    have e1 : inb (wi .i64 (page + (wi .i64 ((t : Int).tdiv 16)))) 64 = true := by rw [e0]; exact inb_true (by omega) (by have := j.2; omega)
    have e2 : (⟨(wi .i64 (page + (wi .i64 ((t : Int).tdiv 16)))).toNat, inb_lt e1⟩ : Fin 64) = j := Fin.ext (by show (wi .i64 (page + (wi .i64 ((t : Int).tdiv 16)))).toNat = j.1; rw [e0]; simp)
    have e3 : inb ((t : Int).tmod 16) 16 = true := by rw [Int.tmod_eq_emod_of_nonneg (by omega)]; exact inb_true (by omega) (by omega)
    have e4 : (⟨((t : Int).tmod 16).toNat, inb_lt e3⟩ : Fin 16) = kk := Fin.ext (by show ((t : Int).tmod 16).toNat = kk.1; rw [Int.tmod_eq_emod_of_nonneg (by omega)]; omega)
    rw [hx] at hbt
    rw [G_ringlaw5_EdgeSays_L33_eq hP, dT (by omega), cond_true, dT (by omega), cond_true, Int.toNat_natCast, lget_lt (show t < L.length by omega), Option.bind_some, dif_pos e1, dif_pos e3, e2, e4, neF (Option.some.inj hbt), cond_false, wi_nat (by omega)]
    exact ih (t + 1) k (by omega) (by omega)
theorem law_end (hN : 1001 ≤ N) (hd : 6 ≤ d) {man : Mn} (I : Inv (mm man) s rows mp ab D) {page : Int} (h0 : 0 ≤ page) (h1 : page < 60) (ht : ∀ i : Fin 64, page ≤ (i.1 : Int) → (i.1 : Int) < page + 4 → (gA (mm man) i).1 = true) {r : S_api_Regs} {a : S_api_Answer} {c : S_api_Call} (hl : a.2.2.2.1.length ≤ 256) (hc : -2147483648 ≤ c.2.2.1 ∧ c.2.2.1 ≤ 2147483647) :
    ∃ ab', G_ringlaw5_EdgeSays_J27 P N d page 1 ab [D] r a s rows mp man c c = some (true, ab', [D], ()) := by
  obtain ⟨x, s1, ab1, man1, e1, e2, I1, e3⟩ := give_spec hP hN hd I (r := r) (a := a) (c := c) hl hc
  have hall : ∀ j : Int, 0 ≤ j → j < 64 → (bt (mm man1) (16 * page + j)).isSome = true := fun j h2 h3 => by
    rw [bt_thr, thr_same e3]
    have hb : (16 * page + j) / 16 < 64 := by omega
    have hj : ((⟨((16 * page + j) / 16).toNat, by omega⟩ : Fin 64).1 : Int) = (16 * page + j) / 16 := by show (((16 * page + j) / 16).toNat : Int) = _; omega
    rw [thr_eq hj]
    exact ht _ (by rw [hj]; omega) (by rw [hj]; omega)
  rcases read_spec hP hN (show 4 ≤ d by omega) I1 (addr := 16 * page) (n := 64) (by omega) (by omega) (by omega) (by omega) with ⟨_, s2, ab2, L, e4, I2, hL, hb⟩ | ⟨h, _⟩
  · rw [G_ringlaw5_EdgeSays_J27_eq hP, e1, Option.bind_some, e2, Option.bind_some, wi64 (by omega) (by omega), e4, Option.bind_some, show eqT c_api_Regs (x, s1, ab1, [D], rows, ()).1 (x, man1, ()).1 = true from eqT_refl c_api_Regs rfl x, Bool.not_true, cond_false, neF rfl, Option.bind_some, cond_false]
    exact ⟨ab2, end_L33 hP h0 h1 (by omega) hb 64 0 N (by omega) (by omega)⟩
  · exact absurd hall h
theorem law_J23 (hN : 1001 ≤ N) (hd : 6 ≤ d) {man : Mn} (I : Inv (mm man) s rows mp ab D) {page : Int} (h0 : 0 ≤ page) (h1 : page < 60) (ht : ∀ i : Fin 64, page ≤ (i.1 : Int) → (i.1 : Int) < page + 4 → (gA (mm man) i).1 = true) {r : S_api_Regs} {a : S_api_Answer} {c : S_api_Call} (hc : -2147483648 ≤ c.2.2.1 ∧ c.2.2.1 ≤ 2147483647) :
    ∃ ab', (bif (decide ((a.2.2.2.1.length : Int) > 256)) then
      bif slOk 0 256 a.2.2.2.1.length then
      G_ringlaw5_EdgeSays_J27 P N d page 1 ab [D] r (u3 a ((List.take (256 : Int).toNat a.2.2.2.1).drop (0 : Int).toNat)) s rows mp man c c
      else none
      else
      G_ringlaw5_EdgeSays_J27 P N d page 1 ab [D] r a s rows mp man c c) = some (true, ab', [D], ()) := by
  by_cases h : (a.2.2.2.1.length : Int) > 256
  · rw [dT h, cond_true, show slOk 0 256 a.2.2.2.1.length = true by unfold slOk; simp; omega, cond_true]
    exact law_end hP hN hd I h0 h1 ht (by simp [u3]; omega) hc
  · rw [dF h, cond_false]
    exact law_end hP hN hd I h0 h1 ht (by omega) hc
theorem law_L8 (hN : 1001 ≤ N) (hd : 8 ≤ d) {bytes : List Int} {page : Int} (h0 : 0 ≤ page) (h1 : page < 60) {r : S_api_Regs} (hr : ∀ j, 0 ≤ gA r.1 j ∧ gA r.1 j ≤ 4294967295) {a : S_api_Answer} :
    ∀ (m t k : Nat) (s : S5) (rows : List (Option Nat)) (ab : List S_space_page) (D : List (Int × S_space_entry)) (man : Mn), Inv (mm man) s rows mp ab D → rows.length = t → t + m = 4 → m < k → (∀ i : Fin 64, (gA (mm man) i).1 = decide (page ≤ (i.1 : Int) ∧ (i.1 : Int) < page + t)) →
    ∃ ab' D', G_ringlaw5_EdgeSays_L8 P N d k bytes page 0 1 (t : Int) ab [D] r a s rows mp man = some (true, ab', [D'], ()) := by
  intro m
  induction m with
  | zero =>
    intro t k s rows ab D man I hrl ht hk hth
    obtain ⟨k, rfl⟩ : ∃ q, k = q + 1 := ⟨k - 1, by omega⟩
    have hr1 := hr ⟨1, by decide⟩
    rw [G_ringlaw5_EdgeSays_L8_eq hP, dF (by omega), cond_false]
    obtain ⟨x, e, s1, ab1, e1, e2, I1⟩ := text_spec hP hN (show 5 ≤ d by omega) hr1.1 hr1.2 I.may I
    obtain ⟨c, e', s2, ab2, e3, I2, hB, hL, e4⟩ := take_spec hP hN (show 6 ≤ d by omega) I1 hr
    have ht4 : ∀ i : Fin 64, page ≤ (i.1 : Int) → (i.1 : Int) < page + 4 → (gA (mm man) i).1 = true := fun i h2 h3 => by rw [hth]; exact dT (by omega)
    have hs := same_spec hP hN (show 2 ≤ d by omega) hL
    obtain ⟨ab', hf⟩ := law_J23 hP hN (show 6 ≤ d by omega) I2 h0 h1 ht4 (r := r) (a := a) hB
    rw [e1, Option.bind_some, e2, Option.bind_some, e3, Option.bind_some]
    rcases e4 with e4 | ⟨c', data, e4, e5⟩
    · rw [e4, Option.bind_some]
      refine ⟨ab', D, ?_⟩
      show G_ringlaw5_EdgeSays_J23 P N d page 1 x e x e e' e' ab2 [D] r a s2 rows mp man c c = _
      rw [G_ringlaw5_EdgeSays_J23_eq hP, beq_self_eq_true, Bool.not_true, cond_false, neF rfl, cond_false, neF rfl, cond_false, hs, Option.bind_some, Bool.not_true, Option.bind_some, cond_false]
      exact hf
    · rw [e4, Option.bind_some]
      refine ⟨ab', D, ?_⟩
      show G_ringlaw5_EdgeSays_J23_1 P N d page 1 x e x e e' e' ab2 [D] r a s2 rows mp man c c' data = _
      rw [G_ringlaw5_EdgeSays_J23_1_eq hP, beq_self_eq_true, Bool.not_true, cond_false, neF rfl, cond_false, neF rfl, cond_false, ← e5, hs, Option.bind_some, Bool.not_true, Option.bind_some, cond_false]
      exact hf
  | succ m ih =>
    intro t k s rows ab D man I hrl ht hk hth
    obtain ⟨k, rfl⟩ : ∃ q, k = q + 1 := ⟨k - 1, by omega⟩
    have key : ∀ b : List Int, b.length ≤ 16 → ∃ ab' D', G_ringlaw5_EdgeSays_J13 P N d k bytes page 0 1 (t : Int) b (t : Int) ab [D] r a s rows mp man = some (true, ab', [D'], ()) := by
      intro b hb
      let j : Fin 64 := ⟨(page + t).toNat, by omega⟩
      have hj : (j.1 : Int) = page + t := by show ((page + t).toNat : Int) = _; omega
      have e0 : wi .i64 (page + (t : Int)) = (j.1 : Int) := by rw [wi64 (by omega) (by omega), hj]
      have e1 : inb (wi .i64 (page + (t : Int))) 64 = true := by rw [e0]; exact inb_true (by omega) (by have := j.2; omega)
      have e2 : (⟨(wi .i64 (page + (t : Int))).toNat, inb_lt e1⟩ : Fin 64) = j := Fin.ext (by show (wi .i64 (page + (t : Int))).toNat = j.1; rw [e0]; simp)
      have hc : (cpyR (nA 16 (0 : Int)).1 0 16 b).length = 16 := by rw [cpyR_len (by omega) (by rw [(nA 16 (0 : Int)).2]; omega)]; exact (nA 16 (0 : Int)).2
      have hjf : (gA (mm man) j).1 = false := by rw [hth, dF (by omega)]
      obtain ⟨s1, ab1, h, q, p1, p2, p3, p4⟩ := put_spec hP hN (show 5 ≤ d by omega) I hjf (by omega) hb hc
      rw [G_ringlaw5_EdgeSays_J13_eq hP]
      rw [show G_space_Memory_Put P N d 1 (wi .i64 (page + (t : Int))) 3 b s rows mp ab [D] = some (0, s1, ab1, [mpI D (j.1 : Int) (some ab.length, 3, ())], rows ++ [some ab.length], ()) from by rw [e0]; exact p1, Option.bind_some, neF rfl, cond_false, Option.bind_some, cond_false, dif_pos e1, dif_pos e1, e2, gA_sA, if_pos rfl, dif_pos hc, wi_nat (by omega)]
      have g1 : gA (mm (u6 man (sA (sA (mm man) j (true, 3, nA 16 0, ())) j (u2 ((true, 3, nA 16 0, ()) : S_ringref5_Page) (pgOf b hc))))) j = (true, 3, pgOf b hc, ()) := by
        show gA (sA _ j _) j = _
        rw [gA_sA, if_pos rfl]; rfl
      have g2 : ∀ i, i ≠ j → gA (mm (u6 man (sA (sA (mm man) j (true, 3, nA 16 0, ())) j (u2 ((true, 3, nA 16 0, ()) : S_ringref5_Page) (pgOf b hc))))) i = gA (mm man) i := fun i hi => by
        show gA (sA (sA _ j _) j _) i = _
        rw [gA_sA, if_neg (Ne.symm hi), gA_sA, if_neg (Ne.symm hi)]
      refine ih (t + 1) k s1 (rows ++ [some ab.length]) ab1 (mpI D (j.1 : Int) (some ab.length, 3, ())) _ (I.more hjf (by omega) g1 g2 p2 p3 p4) (by simp [hrl]) (by omega) (by omega) (fun i => ?_)
      by_cases hi : i = j
      · subst hi
        rw [g1]
        exact (dT (by omega)).symm
      · rw [g2 i hi, hth i]
        have : ¬ (i.1 : Int) = page + t := fun hh => hi (Fin.ext (by omega))
        by_cases hx : page ≤ (i.1 : Int) ∧ (i.1 : Int) < page + t
        · rw [dT hx, dT (by omega)]
        · rw [dF hx, dF (by omega)]
    rw [G_ringlaw5_EdgeSays_L8_eq hP, dT (by omega), cond_true, wi64 (x := 16 * (t : Int)) (by omega) (by omega), wi64 (x := 16 * (t : Int) + 16) (by omega) (by omega)]
    by_cases hb : 16 * (t : Int) < (bytes.length : Int)
    · have hm : minI (bytes.length : Int) (16 * (t : Int) + 16) ≤ 16 * (t : Int) + 16 ∧ 16 * (t : Int) ≤ minI (bytes.length : Int) (16 * (t : Int) + 16) ∧ minI (bytes.length : Int) (16 * (t : Int) + 16) ≤ bytes.length := by
        unfold minI
        split <;> omega
      rw [dT hb, cond_true, show slOk (16 * (t : Int)) (minI (bytes.length : Int) (16 * (t : Int) + 16)) bytes.length = true by unfold slOk; simp; omega, cond_true]
      exact key _ (by rw [List.length_drop, List.length_take]; omega)
    · rw [dF hb, cond_false]
      exact key [] (by simp)
theorem rest_spec (hd : 1 ≤ d) (n : Int) : ∃ x, G_ringref5_Rest P N d n 60 = some (x, ()) ∧ 0 ≤ x ∧ x < 60 := by
  obtain ⟨d, rfl⟩ : ∃ q, d = q + 1 := ⟨d - 1, by omega⟩
  rw [G_ringref5_Rest_eq hP, neT (by decide), cond_true]
  have h1 := Int.tmod_lt_of_pos n (show (0 : Int) < 60 by decide)
  have h2 := Int.lt_tmod_of_pos n (show (0 : Int) < 60 by decide)
  by_cases h : n.tmod 60 < 0
  · rw [dT h, cond_true, wi64 (by omega) (by omega)]
    exact ⟨_, rfl, by omega, by omega⟩
  · rw [dF h, cond_false]
    exact ⟨_, rfl, by omega, by omega⟩
theorem law (hN : 1001 ≤ N) (hd : 10 ≤ d) (bytes : List Int) (pg : Int) (r : S_api_Regs) (hr : ∀ j, 0 ≤ gA r.1 j ∧ gA r.1 j ≤ 4294967295) (a : S_api_Answer) : ∃ s s', G_ringlaw5_EdgeSays P N d bytes pg r a [] [] = some (true, s, s', ()) := by
  obtain ⟨d, rfl⟩ : ∃ q, d = q + 1 := ⟨d - 1, by omega⟩
  obtain ⟨e, he⟩ : ∃ q, d = q + 1 := ⟨d - 1, by omega⟩
  obtain ⟨M, hM⟩ : ∃ q, N = q + 1 := ⟨N - 1, by omega⟩
  have hnew : G_space_New P N d 64 0 = some (Sum.inr (((), 0, ()), (64, 0, 0, (), (), ()), [], [], ())) := by
    rw [he, G_space_New_eq hP]; rfl
  have hmake : G_space_Memory_Make P N d (64, 0, 0, (), (), ()) [] [] [] = some ((1, 0, ()), (64, 0, 0, (), (), ()), [[]], [(1, some 0)], ()) := by
    rw [he, G_space_Memory_Make_eq hP, hM, G_space_Memory_Make_L2_eq hP]; rfl
  obtain ⟨x, hx, h0, h1⟩ := rest_spec hP (N := N) (show 1 ≤ d by omega) pg
  rw [G_ringlaw5_EdgeSays_eq hP, hnew, Option.bind_some]
  show ∃ s s', G_ringlaw5_EdgeSays_J2_1 P N d bytes pg 0 [] [] r a (64, 0, 0, (), (), ()) [] [] = _
  rw [G_ringlaw5_EdgeSays_J2_1_eq hP, neF rfl, cond_false, hmake, Option.bind_some, hx, Option.bind_some]
  have I : Inv (mm ((0, 0, (), 0, 0, 0, ()), (), (), ((), (), (nA 16 0), ()), false, 0, (nA 64 (false, 0, (nA 16 0), ())), ())) (64, 0, 0, (), (), ()) [] [(1, some 0)] [] [] := {
    f := rfl
    o := rfl
    n := Nat.zero_le _
    r := fun x hx => by cases hx
    m := by rw [mlI_cons, if_pos rfl]
    t := fun j hj => by rw [gA_nA] at hj; cases hj
    u := fun j _ => mlI_nil _
    q := fun j j' i e e' h => by cases h
    b := fun j i e h => by cases h }
  obtain ⟨ab', D', hf⟩ := law_L8 hP hN (show 8 ≤ d by omega) h0 h1 hr (bytes := bytes) (a := a) 4 0 N (64, 0, 0, (), (), ()) [] [] [] _ I rfl (by omega) (by omega) (fun i => by rw [gA_nA]; exact (dF (by omega)).symm)
  exact ⟨ab', [D'], hf⟩
end
end Go.Proofs.Ytmjkechkdfobgaa.pv.ed
