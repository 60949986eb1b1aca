/- The plain law of TwinTells, second part: what is wrong with a twin, in the program's words and in the reference's. -/
import Derived.Test.YtpeakaeblibfmaaLTw
namespace Go.Proofs.Ytpeakaeblibfmaa.twinTells
open Go.RowKit help pv
set_option linter.all false

theorem powL (n K : Nat) (hK : K ≤ 6) : ∀ (k i : Nat), K - i < k → i ≤ K → G_ringref2_Power_L1 n (K : Int) k ((2 ^ i : Nat) : Int) (i : Int) = some (.x0 ((2 ^ K : Nat) : Int))
  | 0, i, h, _ => by omega
  | k + 1, i, h, hi => by
    rw [G_ringref2_Power_L1]
    by_cases hlt : (i : Int) < (K : Int)
    · have hb : 2 ^ i ≤ 2 ^ 6 := Nat.pow_le_pow_right (by omega) (by omega)
      have hw : wi .i64 (((2 ^ i : Nat) : Int) * 2) = ((2 ^ (i + 1) : Nat) : Int) := by
        rw [Nat.pow_succ]
        generalize 2 ^ i = g at *
        rw [wi64 (by omega) (by omega)]
        omega
      rw [if_pos hlt, wi_succ (by omega), hw]
      exact powL n K hK k (i + 1) (by omega) (by omega)
    · rw [if_neg hlt, show i = K by omega]
theorem power {n : Nat} {k : Int} (h0 : 0 ≤ k) (h6 : k ≤ 6) (hn : 7 < n) : G_ringref2_Power n k = some (pw k) := by
  obtain ⟨K, rfl⟩ := Int.eq_ofNat_of_zero_le h0
  unfold G_ringref2_Power
  have h := powL n K (by omega) n 0 (by omega) (by omega)
  have h : G_ringref2_Power_L1 n (K : Int) n 1 0 = _ := h
  rw [h, Option.bind_some]
  simp [pw]
theorem inG (n : Nat) (a b c : Int) : G_ringref2_In n a b c = some (decide (b ≤ a ∧ a ≤ c)) := by
  unfold G_ringref2_In
  split
  · simp; omega
  · simp; omega
theorem roomIs {n : Nat} {r : R} {o : Int} (h0 : 0 ≤ o) (h6 : o ≤ 6) (hn : 7 < n) : G_ringref2_RoomIs n r o = some (decide (VR o r)) := by
  unfold G_ringref2_RoomIs G_ringref2_RoomIs_C1
  rw [inG, Option.bind_some]
  by_cases c : 0 ≤ r.fOrder ∧ r.fOrder ≤ o
  · have p0 := pw_pos r.fOrder
    have p1 := pw_pos o
    have p2 := pw6 h6
    have p3 := pw_le c.2
    rw [if_pos (by simpa using c), power h0 h6 hn, Option.bind_some, power c.1 (by omega) hn, Option.bind_some, wi64 (by omega) (by omega), inG, Option.bind_some]
    by_cases d : 0 ≤ r.fAt ∧ r.fAt ≤ pw o - pw r.fOrder
    · rw [if_pos (by simpa using d), Option.bind_some, if_pos (by omega), rem_nn d.1]
      simp [VR, c, d, BEq.beq]
    · rw [if_neg (by simpa using d)]
      simp only [Option.bind_some, Option.some.injEq]
      symm
      rw [decide_eq_false_iff_not]
      intro h; exact d ⟨h.2.2.1, h.2.2.2.1⟩
  · rw [if_neg (by simpa using c)]
    simp only [Option.bind_some, Option.some.injEq]
    symm
    rw [decide_eq_false_iff_not]
    intro h; exact c ⟨h.1, h.2.1⟩
theorem eqR (r : R) : (eqRes .neq (eqS_twin_Room r r)) = false := by simp [eqRes, eqS_twin_Room]
theorem neR {r q : R} (h : r ≠ q) : (eqRes .neq (eqS_twin_Room r q)) = true := by
  simp only [eqRes, eqS_twin_Room, Bool.and_true]
  have : (r.fAt == q.fAt && r.fOrder == q.fOrder) = false := by
    rw [Bool.eq_false_iff]
    intro e
    simp at e
    apply h
    cases r; cases q
    simp_all
  rw [this]; rfl
theorem sameL (n : Nat) (a : S_twin_Twin) (hl : a.fFree.length < 4611686018427387903) : ∀ (k i : Nat), a.fFree.length - i < k → i ≤ a.fFree.length → G_ringref2_TwinSame_L2 n a a k (i : Int) = some .x1
  | 0, i, h, _ => by omega
  | k + 1, i, h, hi => by
    rw [G_ringref2_TwinSame_L2]
    by_cases hlt : (i : Int) < (a.fFree.length : Int)
    · obtain ⟨x, hx⟩ := get_lt hlt
      rw [if_pos hlt, getI_nat, hx, Option.bind_some, Option.bind_some, eqR, if_neg (by decide), wi_succ (by omega)]
      exact sameL n a hl k (i + 1) (by omega) (by omega)
    · rw [if_neg hlt]
theorem same {n : Nat} (a : S_twin_Twin) (hl : a.fFree.length < 4611686018427387903) (hn : a.fFree.length < n) : G_ringref2_TwinSame n a a = some true := by
  unfold G_ringref2_TwinSame G_ringref2_TwinSame_C1
  rw [if_pos rfl, Option.bind_some]
  have h := sameL n a hl n 0 (by omega) (by omega)
  have h : G_ringref2_TwinSame_L2 n a a n 0 = _ := h
  simp [h]

def okp (o : Int) (p : Option R) (r : R) : Bool := match p with | none => true | some q => !decide (bud o q r)
/-- are the rooms right, behind the frame e and the room p? -/
def chk (o : Int) : Int → Option R → List R → Bool
  | _, _, [] => true
  | e, p, r :: l => (decide (VR o r) && decide (e ≤ r.fAt) && okp o p r) && chk o (r.fAt + pw r.fOrder) (some r) l
/-- the room ahead of the i-th -/
def Prv (o : Int) (l : List R) (p : Option R) (i : Nat) (e last : Int) : Prop := (p = none ∧ i = 0 ∧ last = -1 ∧ e = 0) ∨ ∃ q j, p = some q ∧ VR o q ∧ i = j + 1 ∧ l[j]? = some q ∧ e = q.fAt + pw q.fOrder ∧ last = q.fAt
theorem Prv.le {o e last : Int} {l : List R} {p : Option R} {i : Nat} (h : Prv o l p i e last) (h6 : o ≤ 6) : 0 ≤ e ∧ e ≤ 64 ∧ -1 ≤ last ∧ last < e := by
  rcases h with ⟨_, _, h3, h4⟩ | ⟨q, j, _, ⟨v0, v1, v2, v3, v4⟩, _, _, h5, h6'⟩
  · omega
  · have := pw6 h6
    have := pw_pos q.fOrder
    omega
theorem checkC {n : Nat} {t : S_twin_Twin} (h0 : 0 ≤ t.fOrder) (h6 : t.fOrder ≤ 6) {p : Option R} {i : Nat} {e last : Int} {y : R} (hi : i < 4611686018427387903) (hp : Prv t.fOrder t.fFree p i e last) :
    G_twin_Check_C1 n e (i : Int) t y = some (.x0 (!(decide (VR t.fOrder y) && decide (e ≤ y.fAt) && okp t.fOrder p y))) := by
  have hle := hp.le h6
  unfold G_twin_Check_C1
  by_cases c1 : y.fOrder < 0
  · rw [if_pos c1]
    have : ¬ VR t.fOrder y := fun h => by have := h.1; omega
    simp [this]
  rw [if_neg c1]
  by_cases c2 : y.fOrder > t.fOrder
  · rw [if_pos c2]
    have : ¬ VR t.fOrder y := fun h => by have := h.2.1; omega
    simp [this]
  rw [if_neg c2]
  by_cases c3 : y.fAt < e
  · rw [if_pos c3]
    have : ¬ e ≤ y.fAt := by omega
    simp [this]
  rw [if_neg c3, if_pos h0, if_pos (by omega), shl1 h0 h6, shl1 (by omega) (by omega)]
  have p0 := pw_pos y.fOrder
  have p1 := pw_pos t.fOrder
  have p2 := pw6 h6
  have p3 := pw_le (show y.fOrder ≤ t.fOrder by omega)
  rw [wi64 (by omega) (by omega)]
  by_cases c4 : y.fAt > pw t.fOrder - pw y.fOrder
  · rw [if_pos c4]
    have : ¬ VR t.fOrder y := fun h => by have := h.2.2.2.1; omega
    simp [this]
  rw [if_neg c4, if_pos (by omega), if_pos (by omega), rem_nn (by omega)]
  by_cases c5 : y.fAt % pw y.fOrder = 0
  · rw [if_pos c5]
    have hv : VR t.fOrder y := ⟨by omega, by omega, by omega, by omega, c5⟩
    rcases hp with ⟨rfl, rfl, _, _⟩ | ⟨q, j, rfl, vq, rfl, hj, _, _⟩
    · rw [if_neg (by omega)]
      simp [hv, okp]; omega
    · rw [if_pos (by omega), show wi .i64 (((j + 1 : Nat) : Int) - 1) = (j : Int) by rw [wi64 (by omega) (by omega)]; omega, getI_nat, hj, Option.bind_some, buddies h6 vq hv, Option.bind_some]
      have : e ≤ y.fAt := by omega
      simp [hv, okp, this]
  · rw [if_neg c5]
    have : ¬ VR t.fOrder y := fun h => c5 h.2.2.2.2
    simp [this]
theorem checkL {n : Nat} {t : S_twin_Twin} (h0 : 0 ≤ t.fOrder) (h6 : t.fOrder ≤ 6) (hl : t.fFree.length < 4611686018427387903) : ∀ (k i : Nat) (e last : Int) (p : Option R), t.fFree.length - i < k → i ≤ t.fFree.length → Prv t.fOrder t.fFree p i e last →
    G_twin_Check_L2 n t k e (i : Int) = some (if chk t.fOrder e p (t.fFree.drop i) = true then .x1 else .x0 3)
  | 0, i, e, last, p, h, _, _ => by omega
  | k + 1, i, e, last, p, h, hi, hp => by
    rw [G_twin_Check_L2]
    by_cases hlt : (i : Int) < (t.fFree.length : Int)
    · obtain ⟨x, hx⟩ := get_lt hlt
      rw [if_pos hlt, getI_nat, hx, Option.bind_some, checkC h0 h6 (by omega) hp, Option.bind_some, drop_cons hx, chk]
      cases hc : (decide (VR t.fOrder x) && decide (e ≤ x.fAt) && okp t.fOrder p x) with
      | false => simp
      | true =>
        simp only [Bool.and_eq_true, decide_eq_true_eq] at hc
        obtain ⟨⟨hv, he⟩, ho⟩ := hc
        have hle := hp.le h6
        have := pw_pos x.fOrder
        have := pw6 h6
        have a1 := hv.2.2.2.1
        simp only [Bool.not_true, Bool.false_eq_true, if_false, Bool.true_and]
        rw [if_pos hv.1, shl1 hv.1 (by have := hv.2.1; omega), wi64 (by omega) (by omega), wi_succ (by omega)]
        exact checkL h0 h6 hl k (i + 1) _ x.fAt (some x) (by omega) (by omega) (.inr ⟨x, i, rfl, hv, rfl, hx, rfl, rfl⟩)
    · rw [if_neg hlt, drop_end hlt]; simp [chk]
/-- what is wrong -/
def bad (t : S_twin_Twin) : Int := if 0 ≤ t.fOrder ∧ t.fOrder ≤ 6 then (if chk t.fOrder 0 none t.fFree = true then 0 else 3) else 1
theorem check {n : Nat} {t : S_twin_Twin} (hl : t.fFree.length < 4611686018427387903) (hn : t.fFree.length < n) : G_twin_Check n t = some (bad t) := by
  unfold G_twin_Check bad
  by_cases c1 : t.fOrder < 0
  · rw [if_pos c1, if_neg (by omega)]; rfl
  rw [if_neg c1]
  by_cases c2 : t.fOrder > 6
  · rw [if_pos c2, if_neg (by omega)]; rfl
  rw [if_neg c2, if_pos (by omega)]
  have h := checkL (n := n) (t := t) (by omega) (by omega) hl n 0 0 (-1) none (by omega) (by omega) (.inl ⟨rfl, rfl, rfl, rfl⟩)
  have h : G_twin_Check_L2 n t n 0 0 = _ := h
  rw [h, List.drop_zero, Option.bind_some]
  cases chk t.fOrder 0 none t.fFree <;> rfl

/-- does a room hold a frame? -/
def cvr (r : R) (j : Int) : Bool := decide (r.fAt ≤ j ∧ j < r.fAt + pw r.fOrder)
theorem getA_fin {b : Fin 64 → Bool} {j : Int} (h0 : 0 ≤ j) (h : j < 64) : getA b j = some (b ⟨j.toNat, by omega⟩) := by
  unfold getA
  rw [dif_pos ⟨h0, h⟩]
theorem setA_or {b : Fin 64 → Bool} {a P : Int} (h0 : 0 ≤ a) (h : a < P) : (fun i : Fin 64 => setA b a true i || decide (a + 1 ≤ (i.val : Int) ∧ (i.val : Int) < P)) = (fun i : Fin 64 => b i || decide (a ≤ (i.val : Int) ∧ (i.val : Int) < P)) := by
  funext i
  unfold setA
  by_cases c : i.val = a.toNat
  · rw [if_pos c]
    have : a ≤ (i.val : Int) ∧ (i.val : Int) < P := by omega
    simp [this]
  · rw [if_neg c]
    congr 1
    rw [decide_eq_decide]
    omega
theorem or_none {b : Fin 64 → Bool} {a P : Int} (h : ¬ a < P) : (fun i : Fin 64 => b i || decide (a ≤ (i.val : Int) ∧ (i.val : Int) < P)) = b := by
  funext i
  have : ¬ (a ≤ (i.val : Int) ∧ (i.val : Int) < P) := by omega
  simp [this]
theorem fillL {n : Nat} {x : Int} {t : S_twin_Twin} {P : Nat} {y : R} (h0 : 0 ≤ y.fAt) (h64 : y.fAt + P ≤ 64) : ∀ (k i : Nat) (b : Fin 64 → Bool), P - i < k → i ≤ P → (∀ j : Fin 64, y.fAt + i ≤ (j.val : Int) → b j = false) →
    G_ringref2_Twins_L5 n x t (P : Int) y k (i : Int) b = some (.x1 (fun j => b j || decide (y.fAt + i ≤ (j.val : Int) ∧ (j.val : Int) < y.fAt + P)))
  | 0, i, b, h, _, _ => by omega
  | k + 1, i, b, h, hi, hb => by
    rw [G_ringref2_Twins_L5]
    by_cases hlt : (i : Int) < (P : Int)
    · rw [if_pos hlt, wi64 (by omega) (by omega), if_pos (by omega), getA_fin (by omega) (by omega), Option.bind_some, hb _ (by simp; omega), if_neg (by decide), if_pos (by omega), Option.bind_some, wi_succ (by omega)]
      rw [fillL h0 h64 k (i + 1) _ (by omega) (by omega) (by
        intro j hj
        unfold setA
        rw [if_neg (by omega)]
        exact hb j (by omega))]
      have e : y.fAt + ((i + 1 : Nat) : Int) = (y.fAt + i) + 1 := by omega
      rw [e, setA_or (by omega) (by omega)]
    · rw [if_neg hlt, or_none (by omega)]
theorem freeL {n : Nat} {x : Int} {t : S_twin_Twin} {P : Nat} {y : R} (h0 : 0 ≤ y.fAt) (h64 : y.fAt + P ≤ 64) : ∀ (k i : Nat) (b : Fin 64 → Bool), P - i < k → i ≤ P →
    G_ringref2_TwinFree_L2 n t x (P : Int) y k (i : Int) b = some (.x0 (fun j => b j || decide (y.fAt + i ≤ (j.val : Int) ∧ (j.val : Int) < y.fAt + P)))
  | 0, i, b, h, _ => by omega
  | k + 1, i, b, h, hi => by
    rw [G_ringref2_TwinFree_L2]
    by_cases hlt : (i : Int) < (P : Int)
    · rw [if_pos hlt, wi64 (by omega) (by omega), if_pos (by omega), getA_fin (by omega) (by omega), Option.bind_some, wi_succ (by omega)]
      rw [freeL h0 h64 k (i + 1) _ (by omega) (by omega)]
      have e : y.fAt + ((i + 1 : Nat) : Int) = (y.fAt + i) + 1 := by omega
      rw [e, setA_or (by omega) (by omega)]
    · rw [if_neg hlt, or_none (by omega)]
theorem twinsC4 {n : Nat} {t : S_twin_Twin} {last i : Int} {b : Fin 64 → Bool} {y : R} (h0 : 0 ≤ t.fOrder) (h6 : t.fOrder ≤ 6) (hn : 7 < n) : G_ringref2_Twins_C4 n last i t b y = some (.x0 (!(decide (VR t.fOrder y) && decide (last < y.fAt)))) := by
  unfold G_ringref2_Twins_C4
  rw [roomIs h0 h6 hn, Option.bind_some]
  by_cases c : VR t.fOrder y
  · rw [if_pos (by simpa using c)]
    simp only [c, decide_true, Bool.true_and, Option.some.injEq, G_ringref2_Twins_C4_R.x0.injEq]
    rw [← decide_not, decide_eq_decide]; omega
  · rw [if_neg (by simpa using c)]
    simp [c]
theorem twinsC6 {n : Nat} {t : S_twin_Twin} {i : Nat} {e last : Int} {b : Fin 64 → Bool} {y : R} {p : Option R} (h0 : 0 ≤ t.fOrder) (h6 : t.fOrder ≤ 6) (hn : 7 < n) (hi : i < 4611686018427387903) (hp : Prv t.fOrder t.fFree p i e last) (hv : VR t.fOrder y) (he : e ≤ y.fAt) :
    G_ringref2_Twins_C6 n y (i : Int) t b = some (.x0 (!okp t.fOrder p y)) := by
  unfold G_ringref2_Twins_C6
  obtain ⟨y0, y1, y2, y3, y4⟩ := hv
  rcases hp with ⟨rfl, rfl, _, _⟩ | ⟨q, j, rfl, vq, rfl, hj, h5, _⟩
  · rw [if_neg (by omega)]; simp [okp]
  · obtain ⟨q0, q1, q2, q3, q4⟩ := vq
    have p0 := pw_pos y.fOrder
    have p1 := pw_pos q.fOrder
    have p2 := pw6 h6
    have ej : wi .i64 (((j + 1 : Nat) : Int) - 1) = (j : Int) := by rw [wi64 (by omega) (by omega)]; omega
    rw [if_pos (by omega), ej, getI_nat, hj, Option.bind_some]
    by_cases c : q.fOrder = y.fOrder
    · rw [if_pos c, Option.bind_some, roomIs h0 h6 hn, Option.bind_some, wi64 (by omega) (by omega)]
      have hmin : minI q.fAt y.fAt = q.fAt := minI_le (by omega)
      by_cases d : VR t.fOrder ⟨q.fAt, y.fOrder + 1⟩
      · rw [if_pos (by simpa using d), Option.bind_some, power y0 (by omega) hn, Option.bind_some]
        have p3 := pw_le y1
        rw [wi64 (by omega) (by omega)]
        simp only [okp, Bool.not_not, Option.some.injEq, G_ringref2_Twins_C6_R.x0.injEq]
        rw [show (q.fAt + pw y.fOrder == y.fAt) = decide (q.fAt + pw y.fOrder = y.fAt) by simp [BEq.beq], decide_eq_decide]
        unfold bud
        rw [hmin]
        constructor
        · intro h; exact ⟨c, .inr h.symm, d⟩
        · rintro ⟨_, h | h, _⟩ <;> omega
      · rw [if_neg (by simpa using d)]
        simp only [okp, Bool.not_not, Option.some.injEq, G_ringref2_Twins_C6_R.x0.injEq]
        symm
        rw [decide_eq_false_iff_not]
        unfold bud
        rw [hmin]
        exact fun h => d h.2.2
    · rw [if_neg c]
      simp [okp, bud, c]
/-- the frames told so far -/
structure Inv (b : Fin 64 → Bool) (last e : Int) : Prop where
  off : ∀ j : Fin 64, e ≤ (j.val : Int) → b j = false
  on : ∀ j : Fin 64, last ≤ (j.val : Int) → (j.val : Int) < e → b j = true
theorem twinsL {n : Nat} {t : S_twin_Twin} (h0 : 0 ≤ t.fOrder) (h6 : t.fOrder ≤ 6) (hn : 100 < n) (hl : t.fFree.length < 4611686018427387903) : ∀ (k i : Nat) (e last : Int) (p : Option R) (b : Fin 64 → Bool), t.fFree.length - i < k → i ≤ t.fFree.length → Prv t.fOrder t.fFree p i e last → Inv b last e →
    G_ringref2_Twins_L7 n t k last (i : Int) b = some (if chk t.fOrder e p (t.fFree.drop i) = true then .x1 else .x0 3)
  | 0, i, e, last, p, b, h, _, _, _ => by omega
  | k + 1, i, e, last, p, b, h, hi, hp, hb => by
    rw [G_ringref2_Twins_L7]
    by_cases hlt : (i : Int) < (t.fFree.length : Int)
    · obtain ⟨x, hx⟩ := get_lt hlt
      have hle := hp.le h6
      rw [if_pos hlt, getI_nat, hx, Option.bind_some, twinsC4 h0 h6 (by omega), Option.bind_some, drop_cons hx, chk]
      cases hc : (decide (VR t.fOrder x) && decide (last < x.fAt)) with
      | false =>
        have : (decide (VR t.fOrder x) && decide (e ≤ x.fAt)) = false := by
          rw [Bool.and_eq_false_iff] at hc ⊢
          rcases hc with hc | hc
          · exact .inl hc
          · rw [decide_eq_false_iff_not] at hc
            right; rw [decide_eq_false_iff_not]; omega
        simp [this]
      | true =>
        simp only [Bool.and_eq_true, decide_eq_true_eq] at hc
        obtain ⟨hv, hlast⟩ := hc
        obtain ⟨x0, x1, x2, x3, x4⟩ := hv
        have p0 := pw_pos x.fOrder
        have p2 := pw6 h6
        simp only [Bool.not_true, Bool.false_eq_true, if_false]
        rw [power x0 (by omega) (by omega), Option.bind_some]
        by_cases he : e ≤ x.fAt
        · have hP : pw x.fOrder = ((2 ^ x.fOrder.toNat : Nat) : Int) := rfl
          have hf := fillL (n := n) (x := (i : Int)) (t := t) (P := 2 ^ x.fOrder.toNat) (y := x) x2 (by omega) n 0 b (by omega) (by omega) (fun j hj => hb.off j (by omega))
          rw [← hP] at hf
          have hf : G_ringref2_Twins_L5 n (i : Int) t (pw x.fOrder) x n 0 b = _ := hf
          rw [hf, Option.bind_some]
          simp only []
          rw [twinsC6 h0 h6 (by omega) (by omega) hp ⟨x0, x1, x2, x3, x4⟩ he, Option.bind_some]
          simp only [VR, x0, x1, x2, x3, x4, he, decide_true, and_true, Bool.true_and]
          cases okp t.fOrder p x with
          | false => simp
          | true =>
            simp only [Bool.not_true, Bool.false_eq_true, if_false, Bool.true_and]
            rw [wi_succ (by omega)]
            refine twinsL h0 h6 hn hl k (i + 1) _ x.fAt (some x) _ (by omega) (by omega) (.inr ⟨x, i, rfl, ⟨x0, x1, x2, x3, x4⟩, rfl, hx, rfl, rfl⟩) ⟨?_, ?_⟩
            · intro j hj
              have : ¬ ((x.fAt + ((0 : Nat) : Int)) ≤ (j.val : Int) ∧ (j.val : Int) < x.fAt + pw x.fOrder) := by omega
              simp only [this, decide_false, Bool.or_false]
              exact hb.off j (by omega)
            · intro j hj1 hj2
              have : ((x.fAt + ((0 : Nat) : Int)) ≤ (j.val : Int) ∧ (j.val : Int) < x.fAt + pw x.fOrder) := by omega
              simp only [this, decide_true, and_self, Bool.or_true]
        · obtain ⟨m, rfl⟩ : ∃ m, n = m + 1 := ⟨n - 1, by omega⟩
          rw [G_ringref2_Twins_L5, if_pos (by omega), wi64 (by omega) (by omega), if_pos (by omega), getA_fin (by omega) (by omega), Option.bind_some, hb.on _ (by simp; omega) (by simp; omega), if_pos rfl]
          simp [he]
    · rw [if_neg hlt, drop_end hlt]; simp [chk]
theorem twins {n : Nat} {t : S_twin_Twin} (hl : t.fFree.length < 4611686018427387903) (hn : t.fFree.length + 100 < n) : G_ringref2_Twins n t = some (bad t) := by
  unfold G_ringref2_Twins bad
  rw [inG, Option.bind_some]
  by_cases c : 0 ≤ t.fOrder ∧ t.fOrder ≤ 6
  · rw [if_pos (by simpa using c), if_pos c]
    have h := twinsL (n := n) (t := t) c.1 c.2 (by omega) hl n 0 0 (-1) none (fun _ => false) (by omega) (by omega) (.inl ⟨rfl, rfl, rfl, rfl⟩) ⟨fun _ _ => rfl, fun j h1 h2 => by omega⟩
    have h : G_ringref2_Twins_L7 n t n (-1) 0 (fun _ => false) = _ := h
    rw [h, List.drop_zero, Option.bind_some]
    cases chk t.fOrder 0 none t.fFree <;> rfl
  · rw [if_neg (by simpa using c), if_neg c]
end Go.Proofs.Ytpeakaeblibfmaa.twinTells
