/- ProcPlays: what changes a table. -/
import Derived.Test.YtjjjaakefnnbpaaLProc
namespace Go.Proofs.Ytjjjaakefnnbpaa.pv
set_option linter.all false
open Go.RowKit help
namespace pp

instance : Inhabited Pr := ⟨⟨0, 0, 0, 0, false⟩⟩
theorem range_c {i m : Nat} (h : i < m) : List.range' i (m - i) = i :: List.range' (i + 1) (m - (i + 1)) := by
  rw [show m - i = (m - (i + 1)) + 1 by omega, List.range'_succ]
theorem fork_loop (n : Nat) (t : Tb) (e : Int) (p : Nat) (hp : p < 17) : ∀ (k i : Nat), 17 - i < k → i ≤ 17 →
    G_proc_Table_Fork_h_L1 n (p : Int) (e, t) k (i : Int) = some (match (List.range' i (17 - i)).find? (fun k => !up t k) with | some j => .x0 (j : Int) 0 (upd t j ⟨1, (p : Int), (en t p).fgroup, 0⟩) | none => .x1)
  | 0, i, h, _ => by omega
  | k + 1, i, h, hi => by
    rw [G_proc_Table_Fork_h_L1]
    by_cases h1 : i < 17
    · simp only
      rw [if_pos (by omega), if_pos ⟨by omega, by omega⟩, getT h1, Option.bind_some, range_c h1, List.find?_cons]
      by_cases hu : up t i = true
      · have hne : ¬ (en t i).fstate = 0 := by simpa [up] using hu
        rw [if_neg hne, wi_succ (by omega), hu, fork_loop n t e p hp k (i + 1) (by omega) (by omega)]
        rfl
      · have hz : (en t i).fstate = 0 := by simpa [up] using hu
        have hu' : up t i = false := by simpa using hu
        rw [if_pos hz, if_pos ⟨by omega, by omega⟩, getT hp, Option.bind_some, if_pos ⟨by omega, by omega⟩, Option.bind_some, hu']
        rfl
    · have : 17 - i = 0 := by omega
      rw [if_neg (by omega), this]
      rfl
def byId (x y : Pr) : Bool := decide (x.fId < y.fId)
theorem swoId : Go.Sort.SWO byId where
  irrefl x := by simp [byId]
  trans x y z := by simp only [byId, decide_eq_true_eq]; omega
  ntrans x y z := by simp only [byId, decide_eq_false_iff_not]; omega
theorem procs_sorted (t : Tb) : (procs t).Pairwise (fun x y => byId y x = false) := by
  unfold procs part
  rw [List.pairwise_map]
  refine List.Pairwise.imp ?_ (List.Pairwise.filter _ (List.pairwise_lt_range' (s := 1) (n := 16)))
  intro a b h
  have h : a < b := h
  show decide ((b : Int) < (a : Int)) = false
  rw [decide_eq_false (by omega)]
theorem new_perm (t : Tb) (j : Nat) (e : S_proc_entry) (h1 : 1 ≤ j) (h2 : j ≤ 16) (h : ¬ up t j = true) (he : ¬ e.fstate = 0) :
    (procs (upd t j e)).Perm (procs t ++ [⟨(j : Int), e.fparent, e.fgroup, e.fstatus, decide (e.fstate = 2)⟩]) := by
  obtain ⟨q1, q2⟩ := upd_parts t j e h2
  rw [split_up (upd t j e) j h1 h2 (by rw [up_upd t j e h2]; simp [he]), split_down t j h1 h2 h, q1, q2, mkp_upd t j e h2]
  exact List.perm_middle.trans (List.perm_append_comm (l₁ := [_]) (l₂ := part t 1 (j - 1) ++ part t (j + 1) (16 - j)))
theorem sort_new (n : Nat) (hn : 60 < n) (t : Tb) (j : Nat) (e : S_proc_entry) (h1 : 1 ≤ j) (h2 : j ≤ 16) (h : ¬ up t j = true) (he : ¬ e.fstate = 0) :
    G_slices_SortFunc_ringref5_Procs_ringref5_Proc_h n (procs t ++ [⟨(j : Int), e.fparent, e.fgroup, e.fstatus, decide (e.fstate = 2)⟩]) (fun (y0 : S_ringref5_Proc) (y1 : S_ringref5_Proc) => G_ringref5_Procs_Forked_1 n y0 y1) = some (procs (upd t j e)) := by
  have hl := procs_len t
  obtain ⟨r, r1, r2, r3⟩ := so.sorted n (Q := fun x => 0 ≤ x.fId ∧ x.fId ≤ 16) (lt := byId) (cmp := fun (y0 : S_ringref5_Proc) (y1 : S_ringref5_Proc) => G_ringref5_Procs_Forked_1 n y0 y1)
    (fun x y hx hy => ⟨_, rfl, by
      have : wi .i64 (x.fId - y.fId) = x.fId - y.fId := wi64 (by omega) (by omega)
      simp only [byId, this]
      exact decide_eq_decide.2 (by omega)⟩) swoId (procs t ++ [⟨(j : Int), e.fparent, e.fgroup, e.fstatus, decide (e.fstate = 2)⟩])
    (fun x hx => by
      rw [List.mem_append, List.mem_singleton] at hx
      rcases hx with hx | rfl
      · obtain ⟨k, k1, k2, _, rfl⟩ := part_mem.1 hx
        simp only [mkp]; omega
      · simp only; omega) (by simp; omega) (by simp; omega)
  rw [r1]
  congr 1
  refine List.Perm.eq_of_pairwise (fun a b ha hb q1 q2 => ?_) r3 (procs_sorted (upd t j e)) (r2.trans (new_perm t j e h1 h2 h he).symm)
  have hb' := hb
  have ha' := ((r2.trans (new_perm t j e h1 h2 h he).symm).mem_iff).1 ha
  obtain ⟨ka, _, _, _, rfl⟩ := part_mem.1 ha'
  obtain ⟨kb, _, _, _, rfl⟩ := part_mem.1 hb'
  have q1 : decide ((kb : Int) < (ka : Int)) = false := q1
  have q2 : decide ((ka : Int) < (kb : Int)) = false := q2
  rw [decide_eq_false_iff_not] at q1 q2
  have : ka = kb := by omega
  rw [this]
theorem forked_loop (n : Nat) (hn : 60 < n) (t : Tb) (p : Nat) (h1 : 1 ≤ p) (h2 : p ≤ 16) (hu : up t p = true) : ∀ (k i : Nat), 17 - i < k → 1 ≤ i → i ≤ 17 →
    G_ringref5_Procs_Forked_h_L1 n (p : Int) k (i : Int) (procs t) = some (match (List.range' i (17 - i)).find? (fun k => !up t k) with | some j => .x0 (j : Int) (procs (upd t j ⟨1, (p : Int), (en t p).fgroup, 0⟩)) | none => .x1 (procs t))
  | 0, i, h, _, _ => by omega
  | k + 1, i, h, hi1, hi => by
    rw [G_ringref5_Procs_Forked_h_L1]
    have hl := procs_len t
    by_cases hlt : i < 17
    · rw [if_pos (by omega), range_c hlt, List.find?_cons]
      by_cases hq : up t i = true
      · obtain ⟨f1, _, _⟩ := find_yes n t i (by omega) hi1 (by omega) hq
        rw [f1, Option.bind_some, if_neg (by omega), wi_succ (by omega), hq, forked_loop n hn t p h1 h2 hu k (i + 1) (by omega) (by omega) (by omega)]
        rfl
      · have hq' : up t i = false := by simpa using hq
        obtain ⟨f1, f2, _⟩ := find_yes n t p (by omega) h1 h2 hu
        rw [find_no n t (i : Int) (by omega) (fun j _ _ hj e => by
          have : j = i := by omega
          subst this; exact hq hj), Option.bind_some, if_pos (by omega)]
        unfold G_slices_Clone_ringref5_Procs_ringref5_Proc
        rw [app_arg (by omega) (by omega), Option.bind_some, f1, Option.bind_some, getI_nat, f2, Option.bind_some, app_some (by simp; omega) (by omega), Option.bind_some]
        have hs := sort_new n hn t i ⟨1, (p : Int), (en t p).fgroup, 0⟩ hi1 (by omega) hq (by simp)
        have e2 : (mkp t p).fGroup = (en t p).fgroup := rfl
        rw [e2]
        have hs' : G_slices_SortFunc_ringref5_Procs_ringref5_Proc_h n (procs t ++ [S_ringref5_Proc.mk (i : Int) (p : Int) (en t p).fgroup 0 false]) (fun (y0 : S_ringref5_Proc) (y1 : S_ringref5_Proc) => G_ringref5_Procs_Forked_1 n y0 y1) = _ := hs
        rw [hs', Option.bind_some, hq']
        rfl
    · have : 17 - i = 0 := by omega
      rw [if_neg (by omega), this]
      rfl
theorem inv_upd {t : Tb} (hi : Inv t) (p : Nat) (e : S_proc_entry) (h1 : 1 ≤ p) (h2 : p ≤ 16) (he : e.fstate = 0 ∨ e.fstate = 1 ∨ e.fstate = 2) (h : p = 1 → e.fstate = 1) : Inv (upd t p e) where
  z := by rw [en_upd t p e (by omega), if_neg (by omega)]; exact hi.z
  st k := by
    rw [en_upd t p e (by omega)]
    by_cases q : k = p
    · rw [if_pos q]; exact he
    · rw [if_neg q]; exact hi.st k
  one := by
    rw [en_upd t p e (by omega)]
    by_cases q : 1 = p
    · rw [if_pos q]; exact h q.symm
    · rw [if_neg q]; exact hi.one
theorem fork_any (n : Nat) (hn : 60 < n) (t : Tb) (p : Nat) (hi : Inv t) (h1 : 1 ≤ p) (h2 : p ≤ 16) (hs : (en t p).fstate = 1) (he : err t (p : Int) = 0) :
    ∃ (m : Nat) (t' : Tb), G_proc_Table_Fork_h n t (p : Int) = some ((m : Int), if m = 0 then 6 else 0, t') ∧ G_ringref5_Procs_Forked_h n (procs t) (p : Int) = some (procs t', (m : Int)) ∧ Inv t' := by
  unfold G_proc_Table_Fork_h G_ringref5_Procs_Forked_h
  have f1 := fork_loop n t 0 p (by omega) n 1 (by omega) (by omega)
  have f2 := forked_loop n hn t p h1 h2 (up1 hs) n 1 (by omega) (by omega) (by omega)
  have f1 : G_proc_Table_Fork_h_L1 n (p : Int) (0, t) n 1 = _ := f1
  have f2 : G_ringref5_Procs_Forked_h_L1 n (p : Int) n 1 (procs t) = _ := f2
  rw [err_tab, he, Option.bind_some]
  simp only [if_true]
  rw [f1, f2, Option.bind_some, Option.bind_some]
  cases hf : (List.range' 1 (17 - 1)).find? (fun k => !up t k) with
  | none => exact ⟨0, t, rfl, rfl, hi⟩
  | some j =>
    have hm := List.mem_of_find?_eq_some hf
    have hd := List.find?_some hf
    rw [List.mem_range'_1] at hm
    refine ⟨j, _, by rw [if_neg (by omega)], rfl, inv_upd hi j _ hm.1 (by omega) (.inr (.inl rfl)) (fun _ => rfl)⟩
/-! the end of a process -/
def ex (t : Tb) (p : Int) (i : Nat) : Tb := ⟨fun k => if k.1 < i ∧ ¬ (t.fl k).fstate = 0 ∧ (t.fl k).fparent = p then ⟨(t.fl k).fstate, 1, (t.fl k).fgroup, (t.fl k).fstatus⟩ else t.fl k⟩
theorem en_ex (t : Tb) (p : Int) (i k : Nat) : en (ex t p i) k = if k < 17 ∧ k < i ∧ ¬ (en t k).fstate = 0 ∧ (en t k).fparent = p then ⟨(en t k).fstate, 1, (en t k).fgroup, (en t k).fstatus⟩ else en t k := by
  unfold en ex
  by_cases h : k < 17
  · simp only [dif_pos h]
    by_cases q : k < i ∧ ¬ (t.fl ⟨k, h⟩).fstate = 0 ∧ (t.fl ⟨k, h⟩).fparent = p
    · rw [if_pos q, if_pos ⟨h, q⟩]
    · rw [if_neg q, if_neg (fun r => q r.2)]
  · simp only [dif_neg h]
    rw [if_neg (fun r => h r.1)]
theorem tb_ext {t t' : Tb} (h : ∀ k, k < 17 → en t k = en t' k) : t = t' := by
  obtain ⟨f⟩ := t
  obtain ⟨g⟩ := t'
  congr 1
  funext k
  have := h k.1 k.2
  unfold en at this
  rw [dif_pos k.2, dif_pos k.2] at this
  exact this
theorem ex_step (t : Tb) (p : Int) (i : Nat) (h : i < 17) (h0 : ¬ (en t i).fstate = 0) (hp : (en t i).fparent = p) : upd (ex t p i) i ⟨(en t i).fstate, 1, (en t i).fgroup, (en t i).fstatus⟩ = ex t p (i + 1) := by
  refine tb_ext (fun k hk => ?_)
  rw [en_upd _ _ _ h, en_ex, en_ex]
  by_cases e : k = i
  · subst e
    rw [if_pos rfl, if_pos ⟨hk, by omega, h0, hp⟩]
  · rw [if_neg e]
    by_cases q : k < 17 ∧ k < i ∧ ¬ (en t k).fstate = 0 ∧ (en t k).fparent = p
    · rw [if_pos q, if_pos ⟨q.1, by omega, q.2.2⟩]
    · rw [if_neg q, if_neg (fun r => q ⟨r.1, by omega, r.2.2⟩)]
theorem ex_skip (t : Tb) (p : Int) (i : Nat) (h : i < 17) (h0 : (en t i).fstate = 0 ∨ ¬ (en t i).fparent = p) : ex t p i = ex t p (i + 1) := by
  refine tb_ext (fun k hk => ?_)
  rw [en_ex, en_ex]
  by_cases e : k = i
  · subst e
    rw [if_neg (fun r => by omega), if_neg (fun r => by
      rcases h0 with q | q
      · exact r.2.2.1 q
      · exact q r.2.2.2)]
  · by_cases q : k < 17 ∧ k < i ∧ ¬ (en t k).fstate = 0 ∧ (en t k).fparent = p
    · rw [if_pos q, if_pos ⟨q.1, by omega, q.2.2⟩]
    · rw [if_neg q, if_neg (fun r => q ⟨r.1, by omega, r.2.2⟩)]
theorem en_ex_at (t : Tb) (p : Int) (i : Nat) : en (ex t p i) i = en t i := by rw [en_ex, if_neg (fun r => by omega)]
theorem exit_loop (n : Nat) (t : Tb) (p st : Int) : ∀ (k i : Nat), 17 - i < k → i ≤ 17 → G_proc_Table_Exit_h_L3 n p st k (i : Int) (ex t p i) = some (.x0 (ex t p 17))
  | 0, i, h, _ => by omega
  | k + 1, i, h, hi => by
    rw [G_proc_Table_Exit_h_L3]
    by_cases h1 : i < 17
    · have hg : getA (ex t p i).fl (i : Int) = some (en t i) := by rw [getT h1, en_ex_at]
      rw [if_pos (by omega), wi_succ (by omega)]
      unfold G_proc_Table_Exit_h_C2
      rw [if_pos ⟨by omega, by omega⟩, hg, Option.bind_some]
      by_cases h0 : (en t i).fstate = 0
      · rw [if_pos h0, Option.bind_some, ex_skip t p i h1 (.inl h0)]
        exact exit_loop n t p st k (i + 1) (by omega) (by omega)
      · rw [if_neg h0, if_pos ⟨by omega, by omega⟩, Option.bind_some]
        by_cases hp : (en t i).fparent = p
        · rw [if_pos hp, if_pos ⟨by omega, by omega⟩, Option.bind_some, Option.bind_some]
          have := ex_step t p i h1 h0 hp
          unfold upd at this
          simp only
          rw [this]
          exact exit_loop n t p st k (i + 1) (by omega) (by omega)
        · rw [if_neg hp, Option.bind_some, ex_skip t p i h1 (.inr hp)]
          exact exit_loop n t p st k (i + 1) (by omega) (by omega)
    · have : i = 17 := by omega
      subst this
      rw [if_neg (by omega)]
theorem ex0 (t : Tb) (p : Int) : ex t p 0 = t := tb_ext (fun k _ => by rw [en_ex, if_neg (fun r => by omega)])
def fk (p : Int) (x : Pr) : Pr := if x.fUp = p then ⟨x.fId, 1, x.fGroup, x.fStatus, x.fEnded⟩ else x
theorem procs_ex (t : Tb) (p : Int) : procs (ex t p 17) = (procs t).map (fk p) := by
  unfold procs part
  have e : (List.range' 1 16).filter (up (ex t p 17)) = (List.range' 1 16).filter (up t) := List.filter_congr (fun k hk => by
    unfold up
    rw [en_ex]
    split <;> rfl)
  rw [e, List.map_map]
  refine List.map_congr_left (fun k hk => ?_)
  have h1 := List.mem_filter.1 hk
  rw [List.mem_range'_1] at h1
  have hne : ¬ (en t k).fstate = 0 := by simpa [up] using h1.2
  show mkp (ex t p 17) k = fk p (mkp t k)
  unfold mkp fk
  rw [en_ex]
  by_cases q : (en t k).fparent = p
  · rw [if_pos ⟨by omega, by omega, hne, q⟩]
    simp only [q, if_true]
  · rw [if_neg (fun r => q r.2.2.2)]
    simp only [q, if_false]
theorem exited_loop (n : Nat) (p st : Int) (L : List Pr) (hl : L.length ≤ 100) : ∀ (k i : Nat), L.length - i < k → i ≤ L.length →
    G_ringref5_Procs_Exited_h_L1 n p st L k (i : Int) ((L.take i).map (fk p) ++ L.drop i) = some (.x0 (L.map (fk p)))
  | 0, i, h, _ => by omega
  | k + 1, i, h, hi => by
    rw [G_ringref5_Procs_Exited_h_L1]
    by_cases h1 : i < L.length
    · have hlen : ((L.take i).map (fk p)).length = i := by simp; omega
      have hd : L.drop i = L[i] :: L.drop (i + 1) := List.drop_eq_getElem_cons h1
      have hg : ((L.take i).map (fk p) ++ L.drop i)[i]? = some L[i] := by
        rw [List.getElem?_append_right (by omega), hlen, Nat.sub_self, hd]; rfl
      have hlen2 : i < ((L.take i).map (fk p) ++ L.drop i).length := by simp; omega
      have hnext : (L.take (i + 1)).map (fk p) ++ L.drop (i + 1) = (L.take i).map (fk p) ++ fk p L[i] :: L.drop (i + 1) := by
        rw [List.take_succ_eq_append_getElem h1, List.map_append, List.append_assoc]; rfl
      rw [if_pos (by omega), if_pos ⟨by omega, by simpa using hlen2⟩, Int.toNat_natCast, hg, Option.bind_some, wi_succ (by omega)]
      by_cases q : L[i].fUp = p
      · rw [if_pos q, if_pos ⟨by omega, hlen2⟩, Option.bind_some]
        have hset : ((L.take i).map (fk p) ++ L.drop i).set i (S_ringref5_Proc.mk L[i].fId 1 L[i].fGroup L[i].fStatus L[i].fEnded) = (L.take (i + 1)).map (fk p) ++ L.drop (i + 1) := by
          rw [hnext, List.set_append_right _ _ (by omega), hlen, Nat.sub_self, hd, List.set_cons_zero]
          unfold fk
          rw [if_pos q]
        rw [hset]
        exact exited_loop n p st L hl k (i + 1) (by omega) (by omega)
      · rw [if_neg q]
        have hsame : (L.take i).map (fk p) ++ L.drop i = (L.take (i + 1)).map (fk p) ++ L.drop (i + 1) := by
          rw [hnext, hd]
          unfold fk
          rw [if_neg q]
        rw [hsame]
        exact exited_loop n p st L hl k (i + 1) (by omega) (by omega)
    · rw [if_neg (by omega), List.drop_eq_nil_of_le (by omega), List.take_of_length_le (by omega), List.append_nil]
theorem and255 (s : Int) : bits .and .i64 s 255 = s % 256 := by
  have e : bits .and .i64 s 255 = IntKind.i64.wrap (((BitVec.ofInt 64 s).toNat &&& 255 : Nat) : Int) := by
    show IntKind.i64.wrap ((BitVec.ofInt 64 s &&& BitVec.ofInt 64 255).toNat : Int) = _
    rw [BitVec.toNat_and]
    rfl
  have hv : ((BitVec.ofInt 64 s).toNat : Int) = s % 18446744073709551616 := by
    rw [BitVec.toNat_ofInt]
    have : (0 : Int) ≤ s % ((2 ^ 64 : Nat) : Int) := Int.emod_nonneg _ (by decide)
    rw [Int.toNat_of_nonneg this]; rfl
  have ha := Nat.and_two_pow_sub_one_eq_mod (BitVec.ofInt 64 s).toNat 8
  rw [show (2 : Nat) ^ 8 - 1 = 255 by decide, show (2 : Nat) ^ 8 = 256 by decide] at ha
  rw [e, ha, IntKind.wrap_i64]
  generalize (BitVec.ofInt 64 s).toNat = X at *
  omega
theorem rest_any (n : Nat) (s m : Int) (h : 0 < m) (hm : m < 1000) : G_ringref5_Rest n s m = some (s % m) := by
  unfold G_ringref5_Rest remI
  rw [if_pos (by omega)]
  have h1 := Int.tmod_lt_of_pos s h
  have h2 : - m < s.tmod m := by
    by_cases q : 0 ≤ s
    · rw [Int.tmod_eq_emod_of_nonneg q]
      have := Int.emod_nonneg s (show m ≠ 0 by omega)
      omega
    · have e : s = -(-s) := by omega
      rw [e, Int.neg_tmod, Int.tmod_eq_emod_of_nonneg (show 0 ≤ -s by omega)]
      have := Int.emod_lt_of_pos (-s) h
      omega
  have h3 := Int.emod_emod_of_dvd s (Int.dvd_refl m)
  have hb := Int.emod_nonneg s (show m ≠ 0 by omega)
  have hc := Int.emod_lt_of_pos s h
  have h4 : s % m = if s.tmod m < 0 then s.tmod m + m else s.tmod m := by
    have q1 := Int.tmod_add_mul_tdiv s m
    have q2 := Int.emod_add_mul_ediv s m
    split
    · rename_i q
      have : s % m = (s.tmod m + m) % m := by
        have : s = s.tmod m + m * (s.tdiv m) := q1.symm
        conv => lhs; rw [this]
        rw [Int.add_mul_emod_self_left, Int.add_emod_right]
      rw [this]
      exact Int.emod_eq_of_lt (by omega) (by omega)
    · rename_i q
      have : s % m = (s.tmod m) % m := by
        have : s = s.tmod m + m * (s.tdiv m) := q1.symm
        conv => lhs; rw [this]
        rw [Int.add_mul_emod_self_left]
      rw [this]
      exact Int.emod_eq_of_lt (by omega) (by omega)
  rw [h4]
  split
  · rw [wi64 (by omega) (by omega)]
  · rfl
theorem upd_upd (t : Tb) (p : Nat) (a b : S_proc_entry) (hp : p < 17) : upd (upd t p a) p b = upd t p b := tb_ext (fun k hk => by
  rw [en_upd _ _ _ hp, en_upd _ _ _ hp, en_upd _ _ _ hp]
  split <;> rfl)
theorem exit_any (n : Nat) (hn : 60 < n) (t : Tb) (p : Nat) (st : Int) (hi : Inv t) (h1 : 2 ≤ p) (h2 : p ≤ 16) (hs : (en t p).fstate = 1) (he : err t (p : Int) = 0) :
    ∃ (m : Int) (t' : Tb), G_proc_Table_Exit_h n t (p : Int) st = some (m, 0, t') ∧ G_ringref5_Procs_Exited_h n (procs t) (p : Int) st = some (procs t', m) ∧ Inv t' := by
  have hp : p < 17 := by omega
  have hl := procs_len t
  have hus : (en (ex t (p : Int) 17) p).fstate = 1 := by rw [en_ex]; split <;> simpa using hs
  generalize hz : ex t (p : Int) 17 = z at *
  have hlz := procs_len z
  have hpz : procs z = (procs t).map (fk (p : Int)) := by rw [← hz]; exact procs_ex t (p : Int)
  refine ⟨(en z p).fparent, upd z p ⟨2, (en z p).fparent, (en z p).fgroup, st % 256⟩, ?_, ?_, ?_⟩
  · unfold G_proc_Table_Exit_h
    have hx := exit_loop n t (p : Int) st n 0 (by omega) (by omega)
    rw [ex0, hz] at hx
    have hx : G_proc_Table_Exit_h_L3 n (p : Int) st n 0 t = _ := hx
    rw [err_tab, he, Option.bind_some]
    simp only [if_true]
    rw [if_neg (by omega), hx, Option.bind_some]
    simp only
    rw [if_pos ⟨by omega, by omega⟩, getT hp, Option.bind_some, if_pos ⟨by omega, by omega⟩]
    have g1 : getA (setA z.fl (p : Int) (S_proc_entry.mk 2 (en z p).fparent (en z p).fgroup (en z p).fstatus)) (p : Int) = some ⟨2, (en z p).fparent, (en z p).fgroup, (en z p).fstatus⟩ := by
      have := getT (t := upd z p ⟨2, (en z p).fparent, (en z p).fgroup, (en z p).fstatus⟩) hp
      rw [en_upd z p _ hp, if_pos rfl] at this
      exact this
    rw [g1, Option.bind_some, if_pos ⟨by omega, by omega⟩]
    simp only
    have g2 : getA (setA (setA z.fl (p : Int) (S_proc_entry.mk 2 (en z p).fparent (en z p).fgroup (en z p).fstatus)) (p : Int) (S_proc_entry.mk 2 (en z p).fparent (en z p).fgroup (bits .and .i64 st 255))) (p : Int) = some ⟨2, (en z p).fparent, (en z p).fgroup, bits .and .i64 st 255⟩ := by
      have := getT (t := upd (upd z p ⟨2, (en z p).fparent, (en z p).fgroup, (en z p).fstatus⟩) p ⟨2, (en z p).fparent, (en z p).fgroup, bits .and .i64 st 255⟩) hp
      rw [en_upd _ p _ hp, if_pos rfl] at this
      exact this
    rw [g2, Option.bind_some]
    have g3 : (S_proc_Table.mk (setA (setA z.fl (p : Int) (S_proc_entry.mk 2 (en z p).fparent (en z p).fgroup (en z p).fstatus)) (p : Int) (S_proc_entry.mk 2 (en z p).fparent (en z p).fgroup (bits .and .i64 st 255)))) = upd z p ⟨2, (en z p).fparent, (en z p).fgroup, st % 256⟩ := by
      rw [← and255 st]
      exact upd_upd z p _ _ hp
    rw [g3]
  · unfold G_ringref5_Procs_Exited_h G_slices_Clone_ringref5_Procs_ringref5_Proc
    have hx := exited_loop n (p : Int) st (procs t) (by omega) n 0 (by omega) (by omega)
    rw [List.take_zero, List.map_nil, List.nil_append, List.drop_zero, ← hpz] at hx
    have hx : G_ringref5_Procs_Exited_h_L1 n (p : Int) st (procs t) n 0 (procs t) = _ := hx
    obtain ⟨f1, f2, f3⟩ := find_yes n z p (by omega) (by omega) h2 (up1 hus)
    rw [app_arg (by omega) (by omega), Option.bind_some, hx, Option.bind_some]
    simp only
    rw [f1, Option.bind_some, rest_any n st 256 (by omega) (by omega), Option.bind_some, if_pos ⟨by omega, by simpa using f3⟩, Int.toNat_natCast, f2, Option.bind_some]
    have hps := procs_set z p ⟨2, (en z p).fparent, (en z p).fgroup, st % 256⟩ (by omega) h2 (up1 hus) (by simp)
    generalize (part z 1 (p - 1)).length = q at *
    have l1 : q < ((procs z).set q (S_ringref5_Proc.mk (mkp z p).fId (mkp z p).fUp (mkp z p).fGroup (mkp z p).fStatus true)).length := by simpa using f3
    rw [if_pos ⟨by omega, l1⟩, List.getElem?_set_self f3, Option.bind_some]
    simp only
    rw [List.set_set, if_pos ⟨by omega, by simpa using f3⟩, List.getElem?_set_self f3, Option.bind_some, hps]
    rfl
  · have hiz : Inv z := by
      rw [← hz]
      refine ⟨?_, fun k => ?_, ?_⟩
      · rw [en_ex, if_neg (fun r => r.2.2.1 hi.z)]; exact hi.z
      · rw [en_ex]; split <;> exact hi.st k
      · rw [en_ex]; split <;> exact hi.one
    exact inv_upd hiz p _ (by omega) h2 (.inr (.inr rfl)) (fun q => by omega)
end pp
end Go.Proofs.Ytjjjaakefnnbpaa.pv
