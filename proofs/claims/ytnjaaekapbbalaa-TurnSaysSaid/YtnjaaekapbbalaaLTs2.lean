/- TurnSays: the document's count of orders, and the rank of an order. -/
import Derived.Test.YtnjaaekapbbalaaLTs
namespace Go.Proofs.Ytnjaaekapbbalaa.pv
set_option linter.all false
open Go.RowKit help
namespace ts

def F (x : Nat → Nat) : Fin 4 → Int := fun i => (x i.val : Int)
theorem F_list (x : Nat → Nat) : (fun i : Fin 4 => [(x 0 : Int), (x 1 : Int), (x 2 : Int), (x 3 : Int)].get i) = F x := by
  funext i
  match i with
  | 0 => rfl
  | 1 => rfl
  | 2 => rfl
  | 3 => rfl
theorem F_inj {x y : Nat → Nat} (h : F x = F y) : N x = N y := by
  have g : ∀ i : Fin 4, x i.val = y i.val := fun i => by
    have := congrFun h i
    simp only [F] at this
    omega
  have g0 : x 0 = y 0 := g 0
  have g1 : x 1 = y 1 := g 1
  have g2 : x 2 = y 2 := g 2
  have g3 : x 3 = y 3 := g 3
  rw [N_eq, N_eq, g0, g1, g2, g3]
theorem S4 (x : Nat → Nat) : S x 4 = x 0 + x 1 + x 2 + x 3 := by simp only [S, Nat.zero_add]
theorem F_zero {x : Nat → Nat} : eqA_4_int (F x) (fun i : Fin 4 => [0, 0, 0, 0].get i) = true ↔ S x 4 = 0 := by
  rw [S4]
  unfold eqA_4_int
  show ((x 0 : Int) == 0 && ((x 1 : Int) == 0 && ((x 2 : Int) == 0 && ((x 3 : Int) == 0 && true)))) = true ↔ _
  simp only [Bool.and_eq_true, beq_iff_eq, and_true]
  omega
theorem F_get {x : Nat → Nat} {i : Nat} (h : i < 4) : getA (F x) (i : Int) = some (x i : Int) := by
  unfold getA
  rw [dif_pos ⟨by omega, by omega⟩]
  rfl
theorem F_dec {x : Nat → Nat} {i : Nat} (h : 0 < x i) (hb : x i < 1000000) : setA (F x) (i : Int) (wi .i64 ((x i : Int) - 1)) = F (dec x i) := by
  funext j
  unfold setA F dec
  rw [wi64 (by omega) (by omega)]
  simp only [Int.toNat_natCast]
  by_cases e : j.val = i
  · rw [if_pos e, if_pos e, e]; omega
  · rw [if_neg e, if_neg e]
def Dok (D : List ((Fin 4 → Int) × Int)) : Prop := ∀ x r, mget D (F x) = some r → r = (N x : Int)
theorem x_le {x : Nat → Nat} {i : Nat} (h : i < 4) : x i ≤ S x 4 := by
  rw [S4]
  match i, h with
  | 0, _ => omega
  | 1, _ => omega
  | 2, _ => omega
  | 3, _ => omega
theorem orders_loop (n : Nat) (x : Nat → Nat) (h : S x 4 ≤ 12) (rec : (Fin 4 → Int) → List ((Fin 4 → Int) × Int) → Option (Int × List ((Fin 4 → Int) × Int)))
    (hrec : ∀ y D, S y 4 + 1 = S x 4 → Dok D → ∃ D', rec (F y) D = some ((N y : Int), D') ∧ Dok D') : ∀ (k i : Nat) (D : List ((Fin 4 → Int) × Int)), 4 - i < k → i ≤ 4 → Dok D →
    ∃ D', G_ringref5_Orders_1_h_L1 n (F x) rec k (Tt x i : Int) (i : Int) D = some (.x0 (Tt x 4 : Int) D') ∧ Dok D'
  | 0, i, D, hk, _, _ => by omega
  | k + 1, i, D, hk, hi, hD => by
    unfold G_ringref5_Orders_1_h_L1
    by_cases h1 : i < 4
    · have hxi := x_le (x := x) h1
      have e : Tt x (i + 1) = Tt x i + t x i := rfl
      rw [if_pos (by omega), if_pos ⟨by omega, by omega⟩, F_get h1, Option.bind_some, wi_succ (by omega)]
      by_cases h2 : 0 < x i
      · have hd := dec_S h2 4
        rw [if_pos h1] at hd
        obtain ⟨D', r1, r2⟩ := hrec (dec x i) D hd hD
        have b1 := Tt_le h i
        have b2 := t_le (i := i) h
        have et : t x i = N (dec x i) := by unfold t; rw [if_pos h2]
        have bi : i * 23298085122481 ≤ 3 * 23298085122481 := Nat.mul_le_mul_right _ (by omega)
        rw [if_pos (show (x i : Int) > 0 by omega), if_pos ⟨by omega, by omega⟩, Option.bind_some, if_pos ⟨by omega, by omega⟩, Option.bind_some, F_dec h2 (by omega), r1, Option.bind_some, wi64 (x := (Tt x i : Int) + (N (dec x i) : Int)) (by omega) (by omega)]
        have ih := orders_loop n x h rec hrec k (i + 1) D' (by omega) (by omega) r2
        rw [e, et, Int.natCast_add] at ih
        exact ih
      · have et : t x i = 0 := by unfold t; rw [if_neg h2]
        rw [if_neg (show ¬ (x i : Int) > 0 by omega)]
        have ih := orders_loop n x h rec hrec k (i + 1) D (by omega) (by omega) hD
        rw [e, et] at ih
        exact ih
    · have : i = 4 := by omega
      subst this
      rw [if_neg (by omega)]
      exact ⟨D, rfl, hD⟩
theorem orders1 : ∀ (n : Nat) (x : Nat → Nat) (D : List ((Fin 4 → Int) × Int)), S x 4 + 6 ≤ n → S x 4 ≤ 12 → Dok D →
    ∃ D', G_ringref5_Orders_1_h n (F x) D = some ((N x : Int), D') ∧ Dok D'
  | 0, x, D, h, _, _ => by omega
  | n + 1, x, D, h, hs, hD => by
    rw [G_ringref5_Orders_1_h]
    by_cases h0 : S x 4 = 0
    · have e := F_zero.2 h0
      rw [e, if_pos (show eqRes .eql true = true from rfl)]
      refine ⟨D, ?_, hD⟩
      have h0' := h0
      rw [S4] at h0'
      rw [N_eq, show x 0 = 0 by omega, show x 1 = 0 by omega, show x 2 = 0 by omega, show x 3 = 0 by omega]
      rfl
    · have e : eqA_4_int (F x) (fun i : Fin 4 => [0, 0, 0, 0].get i) = false := Bool.eq_false_iff.2 fun q => h0 (F_zero.1 q)
      rw [e, if_neg (by decide)]
      by_cases h1 : (mget D (F x)).getD 0 > 0
      · rw [if_pos h1]
        cases hm : mget D (F x) with
        | none => rw [hm] at h1; exact absurd h1 (by decide)
        | some r =>
          have := hD x r hm
          subst this
          exact ⟨D, rfl, hD⟩
      · rw [if_neg h1]
        obtain ⟨D', r1, r2⟩ := orders_loop n x hs (fun x0 x1 => G_ringref5_Orders_1_h n x0 x1) (fun y D hy hD => orders1 n y D (by omega) (by omega) hD) n 0 D (by omega) (by omega) hD
        have r1 : G_ringref5_Orders_1_h_L1 n (F x) (fun x0 x1 => G_ringref5_Orders_1_h n x0 x1) n 0 0 D = _ := r1
        rw [r1, Option.bind_some, ← N_rec x hs (by omega)]
        refine ⟨_, rfl, fun y r hr => ?_⟩
        rw [mget_mput] at hr
        by_cases q : F y = F x
        · rw [if_pos q] at hr
          rw [F_inj q]
          exact (Option.some.inj hr).symm
        · rw [if_neg q] at hr
          exact r2 y r hr
theorem orders_ok (n : Nat) (hn : 20 < n) (x : Nat → Nat) (hs : S x 4 ≤ 12) : G_ringref5_Orders n (x 0 : Int) (x 1 : Int) (x 2 : Int) (x 3 : Int) = some (N x : Int) := by
  unfold G_ringref5_Orders
  obtain ⟨D', r1, _⟩ := orders1 n x [] (by omega) hs (fun y r h => by rw [mget_nil] at h; cases h)
  rw [F_list, r1]
  rfl
/-- how often each one stands in an order -/
def cn (ol : List Nat) : Nat → Nat := fun i => ol.count i
def rank : List Nat → Nat
  | [] => 0
  | w :: r => Tt (cn (w :: r)) w + rank r
def il (ol : List Nat) : List Int := ol.map fun (w : Nat) => (w : Int)
theorem il_len {ol : List Nat} : (il ol).length = ol.length := by simp [il]
theorem il_get {ol : List Nat} {i w : Nat} (h : ol[i]? = some w) : (il ol)[i]? = some (w : Int) := by simp [il, h]
theorem cn_cons (w : Nat) (r : List Nat) : cn (w :: r) = fun j => if j = w then cn r j + 1 else cn r j := by
  funext j
  unfold cn
  rw [List.count_cons]
  by_cases e : j = w
  · subst e; simp
  · have : (w == j) = false := by simpa using fun q => e q.symm
    rw [this, if_neg e]; simp
theorem cn_dec (w : Nat) (r : List Nat) : dec (cn (w :: r)) w = cn r := by
  funext j
  unfold dec
  rw [cn_cons]
  by_cases e : j = w
  · simp [e]
  · simp [e]
theorem cn_pos (w : Nat) (r : List Nat) : 0 < cn (w :: r) w := by rw [cn_cons]; simp
theorem cn_S : ∀ {ol : List Nat}, (∀ w ∈ ol, w < 4) → S (cn ol) 4 = ol.length
  | [], _ => by rw [S4]; rfl
  | w :: r, h => by
    have ih := cn_S (ol := r) (fun x hx => h x (by simp [hx]))
    have := dec_S (cn_pos w r) 4
    rw [cn_dec, if_pos (h w (by simp))] at this
    rw [List.length_cons]
    omega
theorem rank_le : ∀ {ol : List Nat}, (∀ w ∈ ol, w < 4) → ol.length ≤ 12 → rank ol ≤ ol.length * 69894255367443
  | [], _, _ => by simp [rank]
  | w :: r, h, hl => by
    have ih := rank_le (ol := r) (fun x hx => h x (by simp [hx])) (by simp at hl; omega)
    have hs := cn_S h
    have b := Tt_le (x := cn (w :: r)) (by omega) w
    have bw : w * 23298085122481 ≤ 3 * 23298085122481 := Nat.mul_le_mul_right _ (by have := h w (by simp); omega)
    rw [rank, List.length_cons]
    omega
theorem rank_loop1 (n : Nat) (ol : List Nat) (h : ∀ w ∈ ol, w < 4) (hl : ol.length ≤ 12) : ∀ (k i : Nat), ol.length - i < k → i ≤ ol.length →
    G_ringref5_OrderRank_L1 n (il ol) k (i : Int) (F (cn (ol.take i))) = some (.x0 (F (cn ol)))
  | 0, i, hk, _ => by omega
  | k + 1, i, hk, hi => by
    unfold G_ringref5_OrderRank_L1
    by_cases h1 : i < ol.length
    · have hw := h ol[i] (List.getElem_mem h1)
      have ht : ol.take (i + 1) = ol.take i ++ [ol[i]] := List.take_succ_eq_append_getElem h1
      have hc : (cn (ol.take i)) ol[i] ≤ ol.length := Nat.le_trans List.count_le_length (by simp; omega)
      rw [if_pos (by rw [il_len]; omega), getI_nat, il_get (List.getElem?_eq_getElem h1), Option.bind_some, if_pos ⟨by omega, by omega⟩, F_get hw, Option.bind_some, if_pos ⟨by omega, by omega⟩, Option.bind_some, wi_succ (by omega), wi_succ (by omega)]
      have e : setA (F (cn (ol.take i))) (ol[i] : Int) (((cn (ol.take i)) ol[i] + 1 : Nat) : Int) = F (cn (ol.take (i + 1))) := by
        funext j
        unfold setA F cn
        rw [ht]
        simp only [Int.toNat_natCast, List.count_append]
        by_cases q : j.val = ol[i]
        · rw [if_pos q, q]; simp
        · have : (ol[i] == j.val) = false := by simpa using fun z => q z.symm
          rw [if_neg q, List.count_cons, this]; simp
      rw [e]
      exact rank_loop1 n ol h hl k (i + 1) (by omega) (by omega)
    · have : i = ol.length := by omega
      rw [if_neg (by rw [il_len]; omega), this, List.take_length]
theorem rank_loop2 (n : Nat) (hn : 20 < n) (o : List Int) (x : Nat → Nat) (hs : S x 4 ≤ 12) (w : Nat) (hw : w < 4) : ∀ (k i : Nat), w - i < k → i ≤ w →
    G_ringref5_OrderRank_L2 n o (w : Int) (F x) k (Tt x i : Int) (i : Int) = some (.x0 (Tt x w : Int))
  | 0, i, hk, _ => by omega
  | k + 1, i, hk, hi => by
    unfold G_ringref5_OrderRank_L2
    by_cases h1 : i < w
    · have hxi := x_le (x := x) (show i < 4 by omega)
      have e : Tt x (i + 1) = Tt x i + t x i := rfl
      rw [if_pos (by omega), if_pos ⟨by omega, by omega⟩, F_get (by omega), Option.bind_some, wi_succ (by omega)]
      have ih := rank_loop2 n hn o x hs w hw k (i + 1) (by omega) (by omega)
      by_cases h2 : 0 < x i
      · have hd := dec_S h2 4
        have b1 := Tt_le hs i
        have b2 := t_le (i := i) hs
        have et : t x i = N (dec x i) := by unfold t; rw [if_pos h2]
        have bi : i * 23298085122481 ≤ 3 * 23298085122481 := Nat.mul_le_mul_right _ (by omega)
        have ho : G_ringref5_Orders n (F (dec x i) 0) (F (dec x i) 1) (F (dec x i) 2) (F (dec x i) 3) = some (N (dec x i) : Int) := orders_ok n hn (dec x i) (by omega)
        rw [if_pos (show (x i : Int) > 0 by omega), if_pos ⟨by omega, by omega⟩, Option.bind_some, if_pos ⟨by omega, by omega⟩, Option.bind_some, F_dec h2 (by omega), ho, Option.bind_some, wi64 (x := (Tt x i : Int) + (N (dec x i) : Int)) (by omega) (by omega)]
        rw [e, et, Int.natCast_add] at ih
        exact ih
      · have et : t x i = 0 := by unfold t; rw [if_neg h2]
        rw [if_neg (show ¬ (x i : Int) > 0 by omega)]
        rw [e, et] at ih
        exact ih
    · have : i = w := by omega
      subst this
      rw [if_neg (by omega)]
theorem rank_ok : ∀ (n : Nat) (ol : List Nat), (∀ w ∈ ol, w < 4) → ol.length ≤ 12 → ol.length + 30 ≤ n → G_ringref5_OrderRank n (il ol) = some (rank ol : Int)
  | 0, ol, _, _, hn => by omega
  | n + 1, [], _, _, _ => by rw [G_ringref5_OrderRank]; rfl
  | n + 1, w :: r, h, hl, hn => by
    rw [G_ringref5_OrderRank]
    have hlen : ((il (w :: r)).length : Int) = (r.length : Int) + 1 := by rw [il_len]; simp
    have l1 := rank_loop1 n (w :: r) h hl n 0 (by omega) (by omega)
    have l1 : G_ringref5_OrderRank_L1 n (il (w :: r)) n 0 (F (cn [])) = _ := l1
    have e0 : (fun i : Fin 4 => [0, 0, 0, 0].get i) = F (cn []) := F_list (cn [])
    have hw := h w (by simp)
    have hs := cn_S h
    have l2 := rank_loop2 n (by simp at hl hn; omega) (il (w :: r)) (cn (w :: r)) (by omega) w hw n 0 (by omega) (by omega)
    have l2 : G_ringref5_OrderRank_L2 n (il (w :: r)) (w : Int) (F (cn (w :: r))) n 0 0 = _ := l2
    have hg : getI (il (w :: r)) 0 = some (w : Int) := rfl
    have hsub : sub (il (w :: r)) 1 ((il (w :: r)).length : Int) = some (il r) := by
      unfold sub
      rw [if_pos ⟨by omega, by omega, by omega⟩, hlen]
      simp [il]
      exact List.take_of_length_le (by simp)
    simp only [List.length_cons] at hl hn
    have h' : ∀ x ∈ r, x < 4 := fun x hx => h x (by simp [hx])
    have ih := rank_ok n r h' (by omega) (by omega)
    have b1 := Tt_le (x := cn (w :: r)) (by rw [hs]; simp; omega) w
    have bw : w * 23298085122481 ≤ 3 * 23298085122481 := Nat.mul_le_mul_right _ (by omega)
    have b2 := rank_le h' (by omega)
    rw [if_neg (by omega), e0, l1, Option.bind_some]
    simp only
    rw [hg, Option.bind_some, l2, Option.bind_some]
    simp only
    rw [hsub, Option.bind_some, ih, Option.bind_some, wi64 (by omega) (by omega), rank, Int.natCast_add]
end ts
end Go.Proofs.Ytnjaaekapbbalaa.pv
