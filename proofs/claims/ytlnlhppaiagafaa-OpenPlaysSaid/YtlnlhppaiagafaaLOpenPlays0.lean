/- OpenPlays: the law in plain terms. -/
import Derived.Test.YtlnlhppaiagafaaLOp6
namespace Go.Proofs.Ytlnlhppaiagafaa.pv
set_option linter.all false
open Go.RowKit help
namespace op

def F0 : FD := fun _ => fun _ => 0
def t0 : Tb := S_open_Table.mk (fun _ => S_open_file.mk (S_open_Thing.mk 0 0 0 false 0) 0) F0
def o0 : Op := S_ringref5_Open.mk [] F0
theorem gt0 (i : Nat) : gt F0 i = 0 := by
  unfold gt row F0
  split <;> rfl
theorem num0 {f : Nat → Int} (h : ∀ i, i < 136 → f i = 0) (v : Int) (hv : v ≠ 0) : num f 136 v = 0 := by
  rcases Nat.eq_zero_or_pos (num f 136 v) with e | e
  · exact e
  · obtain ⟨i, h1, h2⟩ := cnt_pos.1 e
    rw [h i h1] at h2
    simp at h2; exact absurd h2.symm hv
theorem Rel.zero {t : Tb} {o : Op} (h1 : ∀ i, i < 136 → gt t.ffds i = 0) (h2 : ∀ i, i < 136 → gt o.fFds i = 0) (h3 : ∀ k, k < 32 → (fl t k).fn = 0) : Rel t o where
  z i hi := by rw [h1 i hi, h2 i hi]
  tb i hi := by rw [h1 i hi]; omega
  ob i hi := by rw [h2 i hi]; omega
  eq i j hi hj := by rw [h1 i hi, h2 i hi, h1 j hj, h2 j hj]
  th i hi hne := absurd (h1 i hi) hne
  n k hk := by rw [h3 k hk, num0 h1 _ (by omega)]; rfl
theorem R0 : Rel t0 o0 := .zero (fun i _ => gt0 i) (fun i _ => gt0 i) (fun k hk => by unfold fl t0; rw [dif_pos hk])
theorem acts (n : Nat) (l : List S_ringlaw5_Act) (hl : l.length < 2000000000000) (hn : l.length + 400 < n) : ∀ (m i : Nat) (t : Tb) (o : Op), l.length - i < m → i ≤ l.length → Rel t o → o.fThings.length ≤ i →
    G_ringlaw5_OpenPlays_L1 n l m (i : Int) t o.fFds o.fThings = some .x1
  | 0, i, _, _, h, _, _, _ => by omega
  | m + 1, i, t, o, h, hi, R, hT => by
    unfold G_ringlaw5_OpenPlays_L1
    by_cases h1 : i < l.length
    · obtain ⟨t', o', w1, w2, w3⟩ := opened_ok n (o := o) (by omega) (by omega) R l[i]
      have w1 : G_ringlaw5_opened_h n t (S_ringref5_Open.mk o.fThings o.fFds) l[i] = _ := w1
      rw [if_pos (by omega), getI_nat, List.getElem?_eq_getElem h1, Option.bind_some, w1, Option.bind_some, wi_succ (by omega)]
      simp only
      rw [if_pos trivial]
      exact acts n l hl hn m (i + 1) t' o' (by omega) (by omega) w2 (by omega)
    · rw [if_neg (by omega)]
def x1 : Oth := ⟨1, 0, 0, false, 0⟩
def t1 : Tb := S_open_Table.mk (setA t0.ffiles ((0 : Nat) : Int) ⟨x1, 1⟩) (setA t0.ffds ((16 : Nat) : Int) (setA (row t0.ffds 16) ((0 : Nat) : Int) 1))
def t2 : Tb := S_open_Table.mk (setA t1.ffiles ((0 : Nat) : Int) ⟨x1, 0⟩) (setA t1.ffds ((16 : Nat) : Int) (setA (row t1.ffds 16) ((0 : Nat) : Int) 0))
theorem first (m : Nat) : G_open_Table_Open_h (m + 401) t0 16 (S_open_Thing.mk 1 0 0 false 0) = some (0, 0, t1) := by kernel_rfl
theorem second (m : Nat) : G_open_Table_Drop_h (m + 401) t1 16 = some ([x1], 0, t2) := by kernel_rfl
theorem R2 : Rel t2 o0 := by
  refine .zero (fun i hi => ?_) (fun i _ => gt0 i) (fun k hk => ?_)
  · have a : gt t2.ffds i = upd (gt t1.ffds) (8 * 16 + 0) 0 i := gt_set (by omega) hi
    have b : gt t1.ffds i = upd (gt F0) (8 * 16 + 0) 1 i := gt_set (by omega) hi
    rw [a]; unfold upd at *
    split
    · rfl
    · rename_i e
      rw [b, if_neg e]; exact gt0 i
  · have a : fl t2 k = if k = 0 then ⟨x1, 0⟩ else fl t1 k := fl_set hk
    have b : fl t1 k = if k = 0 then ⟨x1, 1⟩ else fl t0 k := fl_set hk
    rw [a, b]
    split
    · rfl
    · unfold fl t0; rw [dif_pos hk]
theorem H (l : List S_ringlaw5_Act) (hl : l.length * 72 ≤ 140737488351232) : ∃ n, G_ringlaw5_OpenPlays n l = some true := by
  refine ⟨l.length + 401, ?_⟩
  have g := acts (l.length + 401) l (by omega) (by omega) (l.length + 401) 0 t2 o0 (by omega) (by omega) R2 (by show 0 ≤ 0; omega)
  have g : G_ringlaw5_OpenPlays_L1 (l.length + 401) l (l.length + 401) 0 t2 (fun (_ : Fin 17) => (fun (_ : Fin 8) => 0)) [] = some .x1 := g
  unfold G_ringlaw5_OpenPlays
  have hnew : G_open_New_h (l.length + 401) = some t0 := rfl
  rw [hnew, Option.bind_some, first, Option.bind_some]
  simp only
  rw [if_pos trivial]
  unfold G_ringlaw5_OpenPlays_J2
  rw [if_neg (by decide), second, Option.bind_some]
  simp only
  rw [if_pos trivial]
  unfold G_ringlaw5_OpenPlays_J1
  rw [if_neg (by decide), g]
  rfl
end op
end Go.Proofs.Ytlnlhppaiagafaa.pv
