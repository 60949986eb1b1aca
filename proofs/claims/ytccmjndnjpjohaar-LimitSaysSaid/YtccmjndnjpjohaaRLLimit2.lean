/- LimitSays returns true for every list of boxes and every two numbers, and leaves its arguments alone. No condition. -/
import Derived.Test.YtccmjndnjpjohaaRLLimit
namespace Go.Proofs.YtccmjndnjpjohaaR.limitSays
open Go.ChangeShapes Go.WideShapes Go.ChangeAt Go.RowKit help rep pv
set_option linter.all false

theorem clone_any (n : Nat) (l : List S_limit_Box) (hb : l.length * 24 ≤ 140737488351232) : G_slices_Clone_limit_Box_limit_Box n l = some l := by
  unfold G_slices_Clone_limit_Box_limit_Box
  rw [app_bytes (by simpa using hb)]; simp
section
variable (n : Nat) (l : List S_limit_Box) (k t : Int) (r79 r103 : List S_limit_Box × Int) (r121 : Int × Int) (r129 : List S_limit_Box × Int)
theorem l1 (hb : l.length * 24 ≤ 140737488351232) : ∀ (f i : Nat) (w : List (Fin 3 → Int)), l.length - i < f → i ≤ l.length → w = (l.take i).map tri → G_ringlaw5_LimitSays_L1 n l k t r79 r103 r121 r129 f (i : Int) w = some (.x0 (l.map tri))
  | 0, i, w, h, _, _ => by omega
  | f + 1, i, w, h, hi, hw => by
    rw [G_ringlaw5_LimitSays_L1]
    by_cases hlt : (i : Int) < (l.length : Int)
    · obtain ⟨x, hx⟩ := get_lt hlt
      have hwl : w.length = i := by rw [hw]; simp; omega
      rw [if_pos hlt, getI_nat, hx, Option.bind_some, show (fun i : Fin 3 => [x.fUp, x.fHave, x.fMost].get i) = tri x from rfl, app_bytes (by rw [hwl]; simp; omega), Option.bind_some, wi_succ (by omega)]
      exact l1 hb f (i + 1) _ (by omega) (by omega) (by rw [List.take_add_one, hx, hw]; simp)
    · rw [if_neg hlt]
      have : l.take i = l := List.take_of_length_le (by omega)
      rw [hw, this]
variable (z : List (Fin 3 → Int))
theorem c5 (room : Int) (c : List Int) (i : Nat) (A : Nat) (w1 w2 : List S_limit_Box) (hc : c[i]? = some (A : Int)) (hA : A < l.length) (h1 : w1.length = l.length) (h2 : w2.length = l.length) :
    G_ringlaw5_LimitSays_C5 n l k t r79 r103 r121 r129 z room c (i : Int) w1 w2 = some (if 0 ≤ t ∧ t ≤ 1000000 then .x0 (minI room (rv l A)) (up1 (gT t) A w1) (up1 (gG t) A w2) else .x0 (minI room (rv l A)) w1 w2) := by
  obtain ⟨y, hy⟩ : ∃ y, l[A]? = some y := ⟨_, List.getElem?_eq_getElem hA⟩
  obtain ⟨y1, hy1⟩ : ∃ y, w1[A]? = some y := ⟨_, List.getElem?_eq_getElem (by omega)⟩
  obtain ⟨y2, hy2⟩ : ∃ y, w2[A]? = some y := ⟨_, List.getElem?_eq_getElem (by omega)⟩
  have hr : rv l (A : Int) = wi .i64 (y.fMost - y.fHave) := by unfold rv; rw [Int.toNat_natCast, hy]
  have hu1 : up1 (gT t) (A : Int) w1 = w1.set A (gT t y1) := by unfold up1; rw [Int.toNat_natCast, hy1]
  have hu2 : up1 (gG t) (A : Int) w2 = w2.set A (gG t y2) := by unfold up1; rw [Int.toNat_natCast, hy2]
  have q1 : 0 ≤ (A : Int) ∧ A < w1.length := ⟨by omega, by omega⟩
  have q2 : 0 ≤ (A : Int) ∧ A < w2.length := ⟨by omega, by omega⟩
  unfold G_ringlaw5_LimitSays_C5
  simp only [getI_nat, hc, Option.bind_some, hy, Int.toNat_natCast, if_pos q1, if_pos q2, hy1, hy2]
  rw [hr, hu1, hu2]
  by_cases t0 : t ≥ 0
  · by_cases t1 : t ≤ 1000000
    · rw [if_pos t0, if_pos t1, if_pos ⟨t0, t1⟩]; rfl
    · rw [if_pos t0, if_neg t1, if_neg (fun h => t1 h.2)]
  · rw [if_neg t0, if_neg (fun h => t0 h.1)]
theorem l6 (c : List Int) (hc : ∀ a ∈ c, ∃ j : Nat, a = (j : Int) ∧ j < l.length) (hlen : c.length < 1000000) : ∀ (f i : Nat) (room : Int) (w1 w2 : List S_limit_Box), c.length - i < f → i ≤ c.length → w1.length = l.length → w2.length = l.length →
    G_ringlaw5_LimitSays_L6 n l k t r79 r103 r121 r129 z c f room (i : Int) w1 w2 = some (if 0 ≤ t ∧ t ≤ 1000000 then .x0 (rm l (c.drop i) room) (upd (gT t) (c.drop i) w1) (upd (gG t) (c.drop i) w2) else .x0 (rm l (c.drop i) room) w1 w2)
  | 0, i, room, w1, w2, h, _, _, _ => by omega
  | f + 1, i, room, w1, w2, h, hi, h1, h2 => by
    rw [G_ringlaw5_LimitSays_L6]
    by_cases hlt : (i : Int) < (c.length : Int)
    · obtain ⟨a, ha⟩ := get_lt hlt
      obtain ⟨A, rfl, hA⟩ := hc a (List.mem_of_getElem? ha)
      rw [if_pos hlt, c5 n l k t r79 r103 r121 r129 z room c i A w1 w2 ha hA h1 h2, drop_cons ha, rm, upd, upd]
      by_cases ht : 0 ≤ t ∧ t ≤ 1000000
      · simp only [if_pos ht, Option.bind_some]
        rw [wi_succ (by omega), l6 c hc hlen f (i + 1) _ _ _ (by omega) (by omega) (by rw [up1_len, h1]) (by rw [up1_len, h2]), if_pos ht]
      · simp only [if_neg ht, Option.bind_some]
        rw [wi_succ (by omega), l6 c hc hlen f (i + 1) _ _ _ (by omega) (by omega) h1 h2, if_neg ht]
    · rw [if_neg hlt, drop_end hlt]
      by_cases ht : 0 ≤ t ∧ t ≤ 1000000
      · rw [if_pos ht]; rfl
      · rw [if_neg ht]; rfl
end
def badt (t : Int) : Bool := decide (t < 0) || decide (t > 1000000)
def badk (l : List S_limit_Box) (k : Int) : Bool := decide (k < 0) || decide (k ≥ (l.length : Int))
theorem tc1 (n : Nat) (l : List S_limit_Box) (k t : Int) : G_limit_Take_C1 n l k t = some (.x0 (badk l k || badt t)) := by
  unfold G_limit_Take_C1 badk badt
  by_cases h1 : k < 0
  · simp [h1]
  by_cases h2 : k ≥ (l.length : Int)
  · simp [h1, h2]
  by_cases h3 : t < 0
  · simp [h1, h2, h3]
  simp [h1, h2, h3]
theorem gc1 (n : Nat) (l : List S_limit_Box) (k t : Int) : G_limit_Give_C1 n l k t = some (.x0 (badk l k || badt t)) := by
  unfold G_limit_Give_C1 badk badt
  by_cases h1 : k < 0
  · simp [h1]
  by_cases h2 : k ≥ (l.length : Int)
  · simp [h1, h2]
  by_cases h3 : t < 0
  · simp [h1, h2, h3]
  simp [h1, h2, h3]
theorem oc1 (n : Nat) (l : List S_limit_Box) (k : Int) : G_limit_Room_C1 n l k = some (.x0 (badk l k)) := by
  unfold G_limit_Room_C1 badk
  by_cases h1 : k < 0 <;> simp [h1]
theorem fails (n : Nat) (l : List S_limit_Box) (k t r : Int) (hr : r ≠ 0) (hc : G_limit_Check n l = some r) : G_limit_Take n l k t = some ([], r) ∧ G_limit_Give n l k t = some ([], r) ∧ G_limit_Room n l k = some (0, r) ∧ G_limit_Turn n l k t = some ([], r) := by
  have ho : G_limit_Room n l k = some (0, r) := by unfold G_limit_Room; rw [hc, Option.bind_some, if_neg hr]
  refine ⟨?_, ?_, ho, ?_⟩
  · unfold G_limit_Take; rw [hc, Option.bind_some, if_neg hr]
  · unfold G_limit_Give; rw [hc, Option.bind_some, if_neg hr]
  · unfold G_limit_Turn; rw [ho, Option.bind_some, if_neg hr]
theorem wrong (n : Nat) (l : List S_limit_Box) (k t : Int) (hc : G_limit_Check n l = some 0) (hk : badk l k = true) : G_limit_Take n l k t = some ([], 1) ∧ G_limit_Give n l k t = some ([], 1) ∧ G_limit_Room n l k = some (0, 1) ∧ G_limit_Turn n l k t = some ([], 1) := by
  have ho : G_limit_Room n l k = some (0, 1) := by unfold G_limit_Room; rw [hc, Option.bind_some, if_pos rfl, oc1, hk]; rfl
  refine ⟨?_, ?_, ho, ?_⟩
  · unfold G_limit_Take; rw [hc, Option.bind_some, if_pos rfl, tc1, hk]; rfl
  · unfold G_limit_Give; rw [hc, Option.bind_some, if_pos rfl, gc1, hk]; rfl
  · unfold G_limit_Turn; rw [ho, Option.bind_some, if_neg (by decide)]
section
variable (n : Nat) {l : List S_limit_Box} (g : Good l) (hb : l.length * 24 ≤ 140737488351232) (hn : l.length + 50 ≤ n) (hc : G_limit_Check n l = some 0) {K : Nat} {y : S_limit_Box} (hy : l[K]? = some y) (t : Int)
include g hb hn hc hy
theorem k_ok : badk l (K : Int) = false := by
  have := (List.getElem?_eq_some_iff.1 hy).1
  simp [badk]; omega
theorem take_ok : G_limit_Take n l (K : Int) t = if badt t = true then some ([], 1) else if t ≤ rm l (ab l n K) 1000000 then some (upd (gT t) (ab l n K) l, 0) else some ([], 16) := by
  have hK := (List.getElem?_eq_some_iff.1 hy).1
  unfold G_limit_Take
  rw [hc, Option.bind_some, if_pos rfl, tc1, k_ok n g hb hn hc hy, Bool.false_or, Option.bind_some]
  cases ht : badt t with
  | true => rfl
  | false =>
    simp only [badt, Bool.or_eq_false_iff, decide_eq_false_iff_not] at ht
    simp only [Bool.false_eq_true, if_false]
    rw [clone_any n l hb, Option.bind_some, take_loop g n t (by omega) (by omega) n K l (by omega) (by omega) (by omega) (fun _ _ => rfl) rfl]
    have := rm_le (l := l) (t := t) (c := ab l n K) (r := 1000000)
    by_cases h : (ab l n K).all (fun a => decide (t ≤ rv l a)) = true
    · rw [if_pos h, if_pos (this.2 ⟨by omega, h⟩)]; rfl
    · rw [if_neg h, if_neg (fun q => h (this.1 q).2)]; rfl
theorem give_ok : G_limit_Give n l (K : Int) t = if badt t = true then some ([], 1) else if t > y.fHave - kd K l then some ([], 4) else some (upd (gG t) (ab l n K) l, 0) := by
  have hK := (List.getElem?_eq_some_iff.1 hy).1
  have hbx := g.box K y hy
  have hkd := kd_bd (k := (K : Int)) g.bd
  have hgl := g.len
  unfold G_limit_Give
  rw [hc, Option.bind_some, if_pos rfl, gc1, k_ok n g hb hn hc hy, Bool.false_or, Option.bind_some]
  cases ht : badt t with
  | true => rfl
  | false =>
    simp only [Bool.false_eq_true, if_false]
    rw [getI_nat, hy, Option.bind_some, kids_any n g.bd g.len _ (by omega), Option.bind_some, wi64 (by omega) (by omega)]
    by_cases h : t > y.fHave - kd K l
    · rw [if_pos h, if_pos h]
    · rw [if_neg h, if_neg h, clone_any n l hb, Option.bind_some, give_loop g n t n K l (by omega) (by omega) (by omega) (fun _ _ => rfl) rfl]
      rfl
theorem room_ok : G_limit_Room n l (K : Int) = some (rm l (ab l n K) 1000000, 0) := by
  have hK := (List.getElem?_eq_some_iff.1 hy).1
  unfold G_limit_Room
  rw [hc, Option.bind_some, if_pos rfl, oc1, k_ok n g hb hn hc hy, Option.bind_some]
  simp only [Bool.false_eq_true, if_false]
  rw [room_loop g n n K 1000000 (by omega) (by omega) (by omega)]
  rfl
theorem turn_ok : G_limit_Turn n l (K : Int) t = if badt t = true then some ([], 1) else if t < y.fHave then some ([], 8) else some (l.set K (S_limit_Box.mk y.fUp y.fHave t), 0) := by
  have hK := (List.getElem?_eq_some_iff.1 hy).1
  unfold G_limit_Turn
  rw [room_ok n g hb hn hc hy, Option.bind_some, if_pos rfl]
  unfold badt
  by_cases h1 : t < 0
  · simp [h1]
  by_cases h2 : t > 1000000
  · simp [h1, h2]
  rw [if_neg h1, if_neg h2, getI_nat, hy, Option.bind_some]
  by_cases h3 : t < y.fHave
  · simp [h1, h2, h3]
  have q : 0 ≤ (K : Int) ∧ K < l.length := ⟨by omega, hK⟩
  rw [if_neg h3, clone_any n l hb, Option.bind_some]
  simp only [Int.toNat_natCast, if_pos q, hy, Option.bind_some]
  simp [h1, h2, h3]
theorem law_in : G_ringlaw5_LimitSays n l (K : Int) t = some true := by
  have hK := (List.getElem?_eq_some_iff.1 hy).1
  have hgl := g.len
  obtain ⟨r, p1, p2, p3⟩ := checks n l (by omega)
  rw [hc] at p1
  obtain rfl := Option.some.inj p1
  have hl1 := fun a b c d => l1 n l (K : Int) t a b c d hb n 0 [] (by omega) (by omega) (by simp)
  have hl1 : ∀ a b c d, G_ringlaw5_LimitSays_L1 n l (K : Int) t a b c d n 0 [] = some (.x0 (l.map tri)) := hl1
  have hlen := ab_len g n K (by omega) (by omega)
  have hl6 := fun a b c d => l6 n l (K : Int) t a b c d (l.map tri) (ab l n K) (fun _ h => ab_mem h) (by omega) n 0 1000000 l l (by omega) (by omega) rfl rfl
  have hl6 : ∀ a b c d, G_ringlaw5_LimitSays_L6 n l (K : Int) t a b c d (l.map tri) (ab l n K) n 1000000 0 l l = some (if 0 ≤ t ∧ t ≤ 1000000 then .x0 (rm l (ab l n K) 1000000) (upd (gT t) (ab l n K) l) (upd (gG t) (ab l n K) l) else .x0 (rm l (ab l n K) 1000000) l l) := hl6
  have hbad := k_ok n g hb hn hc hy
  have hab := above_any g n K (by omega) (by omega) (by omega)
  have hown := own_any n g.bd g.len hy (show l.length < n by omega)
  have q : 0 ≤ (K : Int) ∧ K < l.length := ⟨by omega, hK⟩
  have c2 : ∀ a b c d, G_ringlaw5_LimitSays_C2 n l (K : Int) t a b c d 0 (l.map tri) = some (.x0 false (l.map tri)) := by
    intro a b c d
    unfold G_ringlaw5_LimitSays_C2
    rw [if_pos rfl, if_neg (by omega)]
    have : ¬ ((K : Int) ≥ (l.length : Int)) := by omega
    rw [decide_eq_false this]
  have e1 := equal_self n (upd (gT t) (ab l n K) l) (by rw [upd_len]; omega) (by rw [upd_len]; omega)
  have e2 := equal_self n (upd (gG t) (ab l n K) l) (by rw [upd_len]; omega) (by rw [upd_len]; omega)
  have e3 := equal_self n (l.set K (S_limit_Box.mk y.fUp y.fHave t)) (by simp; omega) (by simp; omega)
  have z0 : wi .i64 (0 : Int) = 0 := rfl
  unfold G_ringlaw5_LimitSays
  rw [take_ok n g hb hn hc hy t, give_ok n g hb hn hc hy t, room_ok n g hb hn hc hy, turn_ok n g hb hn hc hy t]
  generalize hR : rm l (ab l n K) 1000000 = R at *
  generalize upd (gT t) (ab l n K) l = T at *
  generalize upd (gG t) (ab l n K) l = G at *
  cases ht : badt t with
  | true =>
    simp only [badt, Bool.or_eq_true, decide_eq_true_eq] at ht
    have hin : ¬ (0 ≤ t ∧ t ≤ 1000000) := by omega
    simp only [if_true, Option.bind_some, hl1, p2, hc, c2, Bool.false_eq_true, if_false, clone_any n l hb, hab, hl6, if_neg hin]
    by_cases h0 : t < 0
    · rw [if_pos h0]
      unfold G_ringlaw5_LimitSays_C7
      simp [z0]
    · rw [if_neg h0, if_pos (by omega)]
      unfold G_ringlaw5_LimitSays_C8
      simp [z0]
  | false =>
    simp only [badt, Bool.or_eq_false_iff, decide_eq_false_iff_not] at ht
    have hin : 0 ≤ t ∧ t ≤ 1000000 := by omega
    simp only [Bool.false_eq_true, if_false]
    generalize hX : (if t ≤ R then some (T, 0) else some ([], 16) : Option (List S_limit_Box × Int)) = X
    generalize hY : (if t > y.fHave - kd K l then some ([], 4) else some (G, 0) : Option (List S_limit_Box × Int)) = Y
    generalize hZ : (if t < y.fHave then some ([], 8) else some (l.set K (S_limit_Box.mk y.fUp y.fHave t), 0) : Option (List S_limit_Box × Int)) = Z
    have key : ∀ X0 Y0 Z0, X = some X0 → Y = some Y0 → Z = some Z0 → G_ringlaw5_LimitSays_C9 n l K t X0 Y0 Z0 (l.map tri) R T G l y = some (.x0 true G (l.set K (S_limit_Box.mk y.fUp y.fHave t))) ∧ G_ringlaw5_LimitSays_C10 n l K t Y0 Z0 (l.map tri) true G (l.set K (S_limit_Box.mk y.fUp y.fHave t)) = some (.x0 true (l.set K (S_limit_Box.mk y.fUp y.fHave t))) ∧ G_ringlaw5_LimitSays_C11 n l K t Z0 true (l.set K (S_limit_Box.mk y.fUp y.fHave t)) = some (.x0 true) := by
      intro X0 Y0 Z0 h1 h2 h3
      refine ⟨?_, ?_, ?_⟩
      · unfold G_ringlaw5_LimitSays_C9
        rw [← hX] at h1
        by_cases h : t ≤ R
        · rw [if_pos h] at h1
          obtain rfl := Option.some.inj h1
          rw [if_neg (by omega), if_pos h]
          simp [e1]
        · rw [if_neg h] at h1
          obtain rfl := Option.some.inj h1
          rw [if_pos (by omega)]
          simp
      · unfold G_ringlaw5_LimitSays_C10
        rw [← hY] at h2
        simp only [if_true, hown, Option.bind_some]
        by_cases h : t > y.fHave - kd K l
        · rw [if_pos h] at h2
          obtain rfl := Option.some.inj h2
          rw [if_pos h]
          simp
        · rw [if_neg h] at h2
          obtain rfl := Option.some.inj h2
          rw [if_neg h, if_pos (by omega)]
          simp [e2]
      · unfold G_ringlaw5_LimitSays_C11
        rw [← hZ] at h3
        simp only [if_true, getI_nat, hy, Option.bind_some]
        by_cases h : t < y.fHave
        · rw [if_pos h] at h3
          obtain rfl := Option.some.inj h3
          rw [if_pos h]
          simp
        · rw [if_neg h] at h3
          obtain rfl := Option.some.inj h3
          rw [if_neg h, if_pos (by omega)]
          simp [e3]
    obtain ⟨X0, hX0⟩ : ∃ X0, X = some X0 := by rw [← hX]; split <;> exact ⟨_, rfl⟩
    obtain ⟨Y0, hY0⟩ : ∃ X0, Y = some X0 := by rw [← hY]; split <;> exact ⟨_, rfl⟩
    obtain ⟨Z0, hZ0⟩ : ∃ X0, Z = some X0 := by rw [← hZ]; split <;> exact ⟨_, rfl⟩
    obtain ⟨k1, k2, k3⟩ := key X0 Y0 Z0 hX0 hY0 hZ0
    rw [hX0, hY0, hZ0]
    simp only [if_true, Option.bind_some, hl1, p2, hc, c2, Bool.false_eq_true, if_false, clone_any n l hb, hab, hl6, if_pos hin, if_neg ht.1, if_neg ht.2, Int.toNat_natCast, if_pos q, hy, k1, k2, k3]
end
theorem law (l : List S_limit_Box) (k t : Int) (ho : okL 24 okS_limit_Box l) : ∃ n, G_ringlaw5_LimitSays n l k t = some true := by
  have hb := ho.1
  refine ⟨l.length + 50, ?_⟩
  obtain ⟨r, p1, p2, p3⟩ := checks (l.length + 50) l (by omega)
  have hl1 := fun a b c d => l1 (l.length + 50) l k t a b c d hb (l.length + 50) 0 [] (by omega) (by omega) (by simp)
  have hl1 : ∀ a b c d, G_ringlaw5_LimitSays_L1 (l.length + 50) l k t a b c d (l.length + 50) 0 [] = some (.x0 (l.map tri)) := hl1
  have z0 : wi .i64 (0 : Int) = 0 := rfl
  by_cases hr : r = 0
  · subst hr
    have g := p3 rfl
    cases hk : badk l k with
    | true =>
      obtain ⟨h1, h2, h3, h4⟩ := wrong (l.length + 50) l k t p1 hk
      unfold G_ringlaw5_LimitSays
      rw [h1, h2, h3, h4]
      simp only [Option.bind_some, hl1, p1, p2, if_true]
      have c2 : G_ringlaw5_LimitSays_C2 (l.length + 50) l k t ([], 1) ([], 1) (0, 1) ([], 1) 0 (l.map tri) = some (.x0 true (l.map tri)) := by
        unfold G_ringlaw5_LimitSays_C2
        rw [if_pos rfl]
        simp only [badk, Bool.or_eq_true, decide_eq_true_eq] at hk
        by_cases h : k < 0
        · rw [if_pos h]
        · rw [if_neg h]
          congr 2; simp; omega
      simp only [c2, Option.bind_some, if_true]
      unfold G_ringlaw5_LimitSays_C3
      simp [z0]
    | false =>
      simp only [badk, Bool.or_eq_false_iff, decide_eq_false_iff_not] at hk
      obtain ⟨K, rfl⟩ := Int.eq_ofNat_of_zero_le (show 0 ≤ k by omega)
      obtain ⟨y, hy⟩ := get_lt (l := l) (i := K) (by omega)
      exact law_in _ g hb (by omega) p1 hy t
  · obtain ⟨h1, h2, h3, h4⟩ := fails (l.length + 50) l k t r hr p1
    unfold G_ringlaw5_LimitSays
    rw [h1, h2, h3, h4]
    simp only [Option.bind_some, hl1, p1, p2, if_true]
    unfold G_ringlaw5_LimitSays_C2 G_ringlaw5_LimitSays_C4
    simp [hr, z0]
end Go.Proofs.YtccmjndnjpjohaaR.limitSays
