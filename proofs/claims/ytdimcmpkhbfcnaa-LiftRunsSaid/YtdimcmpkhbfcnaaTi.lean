/- A call that changes a row of one's own and looks at a number in a variable that a function holds. -/
import Derived.Test.YtdimcmpkhbfcnaaSv
import Derived.Test.YtdimcmpkhbfcnaaSk
namespace Go.Proofs.Ytdimcmpkhbfcnaa.pv
set_option linter.all false
open Go.RowKit
def isU8 : PV → Bool
  | .v (.int .u8 _) => true
  | _ => false
mutual
/-- data that has no number of 64 bits in memory -/
def clean : PV → Bool
  | .v _ => true
  | .sl xs => xs.all isU8
  | .agg cs => cleanL cs
  | _ => false
def cleanL : List PV → Bool
  | [] => true
  | x :: xs => clean x && cleanL xs
end
section
variable {ow : Nat → Bool} {w : World} {b : Nat} {h : Int} {t : TypeId} {z : Nat × Nat}
theorem not_here (hb : w.heap[b]? = some (.cells #[.int .i64 h] t z)) {off : Nat} {y : Int} {r : List Value} (hr : w.rangeAt b off (.int .u8 y :: r)) : False := by
  have := hr 0 _ rfl
  unfold World.cell? at this
  simp only [hb] at this
  cases off with
  | zero => simp at this
  | succ k => simp at this
mutual
theorem R.clean (hb : w.heap[b]? = some (.cells #[.int .i64 h] t z)) : ∀ (x : PV) (u : Value), pv.clean x = true → R ow w x u → R (fun j => if j = b then true else ow j) w x u
  | .v x, u, _, hr => by simpa only [R] using hr
  | .sl xs, u, hc, hr => by
    simp only [R] at hr ⊢
    obtain ⟨a, cap, e, h1, h2, h3⟩ := hr
    refine ⟨a, cap, e, h1, h2, ?_⟩
    rcases h3 with h3 | ⟨b', off, sz, cells, ha, hlt, ho, hrg, he⟩
    · exact .inl h3
    · cases xs with
      | nil => exact .inl rfl
      | cons x0 xs =>
        right
        have hx : ∀ y ∈ x0 :: xs, isU8 y = true := by
          simp only [pv.clean] at hc
          exact List.all_eq_true.1 hc
        have hne : b' ≠ b := fun e0 => by
          subst e0
          have hu := hx x0 (by simp)
          simp only [RE] at he
          obtain ⟨u0, r, rfl, q1, q2, q3, q4⟩ := he
          unfold isU8 at hu
          split at hu
          · simp only [R] at q3
            obtain ⟨rfl, _⟩ := q3
            exact not_here hb hrg
          · cases hu
        refine ⟨b', off, sz, cells, ha, hlt, by rw [if_neg hne]; exact ho, hrg, ?_⟩
        exact RE_u8 hx he
  | .agg cs, u, hc, hr => by
    simp only [R] at hr ⊢
    obtain ⟨vs, e, hr⟩ := hr
    exact ⟨vs, e, RL.clean hb cs vs (by simpa only [pv.clean] using hc) hr⟩
  | .tup _, _, hc, _ => by simp [pv.clean] at hc
  | .iptr _ _, _, hc, _ => by simp [pv.clean] at hc
  | .clo _ _, _, hc, _ => by simp [pv.clean] at hc
theorem RL.clean (hb : w.heap[b]? = some (.cells #[.int .i64 h] t z)) : ∀ (xs : List PV) (us : List Value), pv.cleanL xs = true → RL ow w xs us → RL (fun j => if j = b then true else ow j) w xs us
  | [], us, _, hr => by simpa only [RL] using hr
  | x :: xs, us, hc, hr => by
    simp only [pv.cleanL, Bool.and_eq_true] at hc
    simp only [RL] at hr ⊢
    obtain ⟨v, r, e, h1, h2, h3⟩ := hr
    exact ⟨v, r, e, R.clean hb x v hc.1 h1, h2, RL.clean hb xs r hc.2 h3⟩
theorem RE_u8 {ow ow' : Nat → Bool} {sz : Nat} : ∀ {xs : List PV} {cells : List Value}, (∀ y ∈ xs, isU8 y = true) → RE ow w sz xs cells → RE ow' w sz xs cells
  | [], cells, _, hr => by simpa only [RE] using hr
  | x :: xs, cells, hx, hr => by
    simp only [RE] at hr ⊢
    obtain ⟨u, r, e, h0, h1, h2, h3⟩ := hr
    refine ⟨u, r, e, h0, h1, ?_, RE_u8 (fun y hy => hx y (by simp [hy])) h3⟩
    have hu := hx x (by simp)
    unfold isU8 at hu
    split at hu
    · simpa only [R] using h2
    · cases hu
end
theorem RE.clean (hb : w.heap[b]? = some (.cells #[.int .i64 h] t z)) {sz : Nat} : ∀ {xs : List PV} {cells : List Value}, xs.all pv.clean = true → RE ow w sz xs cells → RE (fun j => if j = b then true else ow j) w sz xs cells
  | [], cells, _, hr => by simpa only [RE] using hr
  | x :: xs, cells, hx, hr => by
    simp only [List.all_cons, Bool.and_eq_true] at hx
    simp only [RE] at hr ⊢
    obtain ⟨u, r, e, h0, h1, h2, h3⟩ := hr
    exact ⟨u, r, e, h0, h1, R.clean hb x u hx.1 h2, RE.clean hb hx.2 h3⟩
end
theorem all_clean {α : Type} {f : α → PV} (hf : ∀ x, clean (f x) = true) {l : List α} : (l.map f).all clean = true := by
  rw [List.all_eq_true]
  intro y hy
  obtain ⟨x, _, rfl⟩ := List.mem_map.1 hy
  exact hf x
section
variable {P : Program} {T : List TI} {n : Nat} {w0 : Cx} {st : PS} {a : Act} {w : World} {ow : Nat → Bool} {hd : Nat → Value}
theorem hlook {f x y : Operand} {tys : Array Nat} {g g2 : FuncId} {l L e s : Nat} {h : Int} {xs ys : List PV} (hr : RetH P g [.srf 0, .d (.clo g2 [.iptr [.v (.int .i64 h)] 0])] [.row e s xs] (.tup []) [.row e s ys]) (hc : ys.all clean = true) (hne : l ≠ L) :
    Ext P T (.call ⟨.value f, #[x, y], tys⟩) [.d (.clo g []), .srf l, .clo g2 [.ref L 0]] [(l, .row e s xs), (L, .box [.d (.v (.int .i64 h))])] (.d (.tup [])) [(l, .row e s ys)] := by
  intro n w0 st a w o hT hS ho hn hvs hm K Q hK
  obtain ⟨ow, hd, hold, S⟩ := hS
  obtain ⟨d, op, tyo, pos, af, gd⟩ := o
  simp only at ho hn hK
  subst ho
  have hml := hm (l, .row e s xs) (by simp)
  have hmL := hm (L, .box [.d (.v (.int .i64 h))]) (by simp)
  simp only at hml hmL
  simp [Op.operands, Call.operands] at hvs
  obtain ⟨hv1, hv2, hv3⟩ := hvs
  have h1 := S.eval f
  rw [hv1] at h1
  simp only [RF, R] at h1
  obtain ⟨us, hc1, hc2⟩ := h1
  simp only [RL] at hc2
  subst hc2
  have hx := S.eval x
  rw [hv2] at hx
  simp only [RF] at hx
  obtain ⟨hxA, hx, hxo⟩ := hx
  have hy := S.eval y
  rw [hv3] at hy
  simp only [RF, RFL] at hy
  obtain ⟨vs, hy, v1, r1, rfl, ⟨_, bL, hbL, rfl⟩, _, hr1⟩ := hy
  subst hr1
  obtain ⟨bL', vals, tL, k1, k2, k3, k4, k5⟩ := S.objs L _ hmL
  rw [hbL] at k1
  simp at k1
  subst k1
  have hvals : vals = #[.int .i64 h] := by
    simp only [RFL, RF, R] at k5
    obtain ⟨v, r, e1, ⟨rfl, _⟩, _, rfl⟩ := k5
    apply Array.toList_inj.1
    rw [e1]
  subst hvals
  have hbLlt : bL < w.heap.size := (Array.getElem?_eq_some_iff.1 k4).1
  obtain ⟨cells, g1, g2', g3⟩ := S.objs l _ hml
  have hneB : ∀ b, b ∈ blocksOf (hd l) → b ≠ bL := fun b hb e => by
    subst e
    exact S.dist l L _ _ b hne hml hmL rfl rfl hb (by rw [hbL]; first | rfl | simp [blocksOf, blockOf])
  have hltB : ∀ b, b ∈ blocksOf (hd l) → b < w.heap.size ∧ w0.New b ∧ ow b = true := fun b hb => (S.objs l _ hml).lt rfl b hb
  let own1 : Nat → Bool := fun b => (blocksOf (hd l)).contains b
  let ow1 : Nat → Bool := fun b => ow b && !(b == bL)
  have hown : ∀ b, own1 b = true ↔ b ∈ blocksOf (hd l) := fun b => by show (blocksOf (hd l)).contains b = true ↔ _; simp
  have hk1 : Kp ow w ow1 w := ⟨Nat.le_refl _, fun b _ hb => by show (ow b && _) = false; rw [hb]; rfl, fun _ _ _ => rfl⟩
  have S1 : SimH ⟨w, own1, ow1, fun _ => undef⟩ [.row e s xs] w ow1 (fun _ => hd l) := by
    refine ⟨Kt.refl _ _, fun b hb => ?_, fun j o hj => ?_, fun j j' o o' b hne' hj hj' => ?_⟩
    · show (ow b && _) = false
      rw [S.fresh b hb]; rfl
    · match j, hj with
      | 0, hj =>
        simp at hj; subst hj
        exact ⟨cells, g1, fun b hb => ⟨.inr ((hown b).2 hb), by show (ow b && !(b == bL)) = true; rw [(g2' b hb).2]; simpa using hneB b hb⟩, RE.mono hk1 _ _ _ g3⟩
      | j + 1, hj => simp at hj
    · match j, j', hj, hj' with
      | 0, 0, _, _ => exact absurd rfl hne'
      | j + 1, _, hj, _ => simp at hj
      | 0, j' + 1, _, hj' => simp at hj'
  have hargs : RFT (al [PO.row e s xs]) (fun _ => hd l) ow1 w [.srf 0, .d (.clo g2 [.iptr [.v (.int .i64 h)] 0])] [a.eval x, a.eval y] := by
    simp only [RFT, RF, R, RL]
    refine ⟨_, _, rfl, ⟨rfl, hx, hxo⟩, _, _, rfl, ⟨_, hy, _, _, rfl, ⟨bL, 0, [.int .i64 h], rfl, hbLlt, by show (ow bL && !(bL == bL)) = false; simp, fun j v hv => ?_, _, _, rfl, ⟨rfl, rfl⟩, rfl, rfl⟩, rfl, rfl⟩, rfl⟩
    unfold World.cell?
    simp only [k4]
    simpa using hv
  unfold Oper.wp
  rw [run_call hc1 hr.1]
  show Calls P g (#[x, y].map a.eval ++ #[]) w _
  have harr : #[x, y].map a.eval ++ #[] = [a.eval x, a.eval y].toArray := by
    apply Array.toList_inj.1; simp
  rw [harr]
  refine (hr.2 ⟨w, own1, ow1, fun _ => undef⟩ (fun _ => hd l) _ S1 hargs).mono ?_
  rintro e' w2 ⟨v, ow2, hd2, rfl, k2', S2, hid, hres⟩
  have hsz : w.heap.size ≤ w2.heap.size := S2.below.size
  have hblk := S2.below.block
  have hown0 : ∀ b, b ∉ blocksOf (hd l) → own1 b = false := fun b hb => Bool.eq_false_iff.2 fun q => hb ((hown b).1 q)
  have hkeep : ∀ b, b < w.heap.size → b ∉ blocksOf (hd l) → ow2 b = ow1 b := fun b hb hn => k2' b hb (hown0 b hn)
  have hbLn : bL ∉ blocksOf (hd l) := fun q => hneB bL q rfl
  have hL2 : w2.heap[bL]? = some (.cells #[.int .i64 h] tL (0, 0)) := by rw [hblk bL hbLlt (hown0 _ hbLn)]; exact k4
  let ow3 : Nat → Bool := fun b => if b = bL then true else ow2 b
  have hk3 : Kp ow w ow3 w2 := by
    refine ⟨hsz, fun b hb h0 => ?_, fun b hb h0 => ?_⟩
    · have hnb : b ∉ blocksOf (hd l) := fun q => by rw [(hltB b q).2.2] at h0; cases h0
      have hnL : b ≠ bL := fun q => by rw [q, k3] at h0; cases h0
      show (if b = bL then true else ow2 b) = false
      rw [if_neg hnL, hkeep b hb hnb]
      show (ow b && _) = false
      rw [h0]; rfl
    · have hnb : b ∉ blocksOf (hd l) := fun q => by rw [(hltB b q).2.2] at h0; cases h0
      exact hblk b hb (hown0 b hnb)
  have hnew : ∀ b, b ∈ blocksOf (hd l) → w0.New b := fun b hb => (hltB b hb).2.1
  have hout : ∀ b, b < w0.w.heap.size → w0.own b = false → b ∉ blocksOf (hd l) ∧ b ≠ bL := fun b hb hn => by
    have q : ¬ w0.New b := fun q => by
      rcases q with q | q
      · omega
      · rw [q] at hn; cases hn
    exact ⟨fun z => q (hnew b z), fun z => q (by rw [z]; exact k2)⟩
  have hw0 := S.below.size
  have hold3 : Keep w0 ow3 := hold.step fun b hb hn => by
    obtain ⟨z1, z2⟩ := hout b hb hn
    show (if b = bL then true else ow2 b) = ow b
    rw [if_neg z2, hkeep b (Nat.lt_of_lt_of_le hb hw0) z1]
    show (ow b && !(b == bL)) = ow b
    have : (b == bL) = false := by simpa using z2
    rw [this]; simp
  have hkt : Kt w0 w w2 := ⟨S2.below.os, S2.below.tape, S2.below.output, hsz, fun k hk hn => hblk k (Nat.lt_of_lt_of_le hk hw0) (hown0 k (hout k hk hn).1)⟩
  obtain ⟨cells2, p1, p2, p3⟩ := S2.objs 0 (.row e s ys) rfl
  have hid0 := (hid 0 rfl).2
  have S3 := S.obj (l := l) (hv := hd2 0) (o := .row e s ys) hk3 hkt
    (fun b hb => by
      show (if b = bL then true else ow2 b) = false
      rw [if_neg (by omega)]
      exact S2.fresh b hb)
    (.inr hid0) rfl
    ⟨cells2, p1, fun b hb => by
      obtain ⟨q1, q2⟩ := p2 b hb
      refine ⟨?_, ?_⟩
      · rcases q1 with q1 | q1
        · exact .inl (Nat.le_trans hw0 q1)
        · exact hnew b ((hown b).1 q1)
      · show (if b = bL then true else ow2 b) = true
        split
        · rfl
        · exact q2, RE.clean hL2 hc p3⟩
    (fun j oj b hne' hj hl hb => by
      have hjn : b ∉ blocksOf (hd l) := fun q => S.dist j l oj _ b hne' hj hml hl rfl hb q
      obtain ⟨z1, z2, z3⟩ := (S.objs j oj hj).lt hl b hb
      refine ⟨hblk b z1 (hown0 b hjn), ?_, fun _ q => ?_⟩
      · show (if b = bL then true else ow2 b) = ow b
        by_cases z : b = bL
        · rw [if_pos z, z3]
        · rw [if_neg z, hkeep b z1 hjn]
          show (ow b && !(b == bL)) = ow b
          have : (b == bL) = false := by simpa using z
          rw [this]; simp
      · rw [hid0] at q
        exact hjn q)
  exact hK _ _ ⟨ow3, _, hold3, S3.put hn (x := .d (.tup [])) (by simp only [RF, RFT] at hres; simp only [RF, R, RT]; exact hres)⟩
end
end Go.Proofs.Ytdimcmpkhbfcnaa.pv
