/- Slices of flat elements: one element set anew; a block read as such a slice. -/
import Derived.Test.YtccmjndnjpjohaaRSl
namespace Go.Proofs.YtccmjndnjpjohaaR.rep
open Go.ChangeShapes Go.WideShapes Go.Deep Go.RowKit help
set_option linter.all false

theorem flat_set (e : Sh) (hf : e.flat = true) (xs : List e.T) (hw : ∀ x ∈ xs, e.wf x) (n : Nat) (f : e.T) (hwf : e.wf f) (hn : n < xs.length) (j : Nat) :
    ((xs.set n f).flatMap e.enc)[j]? = if n * e.size ≤ j ∧ j < n * e.size + e.size then (e.enc f)[j - n * e.size]? else (xs.flatMap e.enc)[j]? := by
  have hl : ∀ x ∈ xs, (e.enc x).length = e.size := fun x hx => enc_length e x hf (hw x hx)
  have hl' : ∀ x ∈ xs.set n f, (e.enc x).length = e.size := fun x hx => by
    rcases List.mem_or_eq_of_mem_set hx with h | h
    · exact hl x h
    · subst h; exact enc_length e _ hf hwf
  generalize hsz : e.size = sz at *
  by_cases hj : j < xs.length * sz
  · have hz : 0 < sz := by
      rcases Nat.eq_zero_or_pos sz with h | h
      · subst h; simp at hj
      · exact h
    have hi : j / sz < xs.length := Nat.div_lt_of_lt_mul (by rw [Nat.mul_comm]; exact hj)
    have hr : j % sz < sz := Nat.mod_lt _ hz
    have e1 : j = j / sz * sz + j % sz := by rw [Nat.mul_comm]; exact (Nat.div_add_mod j sz).symm
    have h1 := flatMap_get e.enc sz xs hl (j / sz) (j % sz) hi hr
    have h2 := flatMap_get e.enc sz (xs.set n f) hl' (j / sz) (j % sz) (by simpa using hi) hr
    rw [← e1] at h1 h2
    rw [h1, h2]
    by_cases hc : n = j / sz
    · rw [if_pos (by rw [hc]; omega)]
      have e2 : j - n * sz = j % sz := by rw [hc]; omega
      rw [e2]
      simp [hc]
    · rw [if_neg, List.getElem_set_ne hc]
      rintro ⟨h3, h4⟩
      apply hc
      have : n = j / sz := by
        rw [eq_comm, Nat.div_eq_iff hz]
        omega
      exact this
  · rw [List.getElem?_eq_none (by rw [flatMap_length e.enc sz _ hl']; simp; omega), List.getElem?_eq_none (l := List.flatMap e.enc xs) (by rw [flatMap_length e.enc sz _ hl]; omega), if_neg]
    rintro ⟨h3, h4⟩
    have : (n + 1) * sz ≤ xs.length * sz := Nat.mul_le_mul_right _ hn
    rw [Nat.succ_mul] at this
    omega
/-- a block that begins with the cells of xs is a slice of xs -/
theorem sl_of_blk {w : World} {e : Sh} {xs : List e.T} {g cap : Nat} {cur : Array Value} (h : Blk w g cur) (hl : xs.length ≤ cap) (hm : cap ≤ maxLen) (hc : ∀ (j : Nat) (u : Value), (xs.flatMap e.enc)[j]? = some u → cur[j]? = some u) :
    Sl w e xs (.slice (some ⟨g, 0, none⟩) xs.length cap) :=
  .inr ⟨g, 0, cap, none, rfl, hl, hm, fun _ => ⟨rfl, h.lt⟩, fun j u hu => by rw [Nat.zero_add, h.cells]; exact hc j u hu⟩
/-- what a fresh row of at least one element is -/
theorem owns_open {w : World} {base ty : Nat} {sz : Nat} {v : Value} {n : Nat} {cells : List Value} (h : w.ownsRow base ty sz v n cells) (hn : 0 < n) :
    ∃ g cap cur, v = .slice (some ⟨g, 0, none⟩) n cap ∧ base ≤ g ∧ Blk w g cur ∧ n ≤ cap ∧ cap ≤ maxLen ∧ cur.size = cap * sz ∧ ∀ j, j < n * sz → cur[j]? = cells[j]? := by
  obtain ⟨hlen, h⟩ := h
  rcases h with ⟨rfl, h0⟩ | ⟨g, cap, cur, rfl, hb, hg, hl, hm, hs, ht⟩
  · omega
  · refine ⟨g, cap, cur, rfl, hb, ⟨_, hg⟩, hl, hm, hs, fun j hj => ?_⟩
    rw [← ht, List.getElem?_take, if_pos hj]
    simp
theorem new_row (w : World) (cs : List Value) (t : TypeId) (n : Nat) (hn : n = w.heap.size) : ∀ j u, cs[j]? = some u → (w.alloc (.cells cs.toArray t)).cell? ((⟨n, 0, none⟩ : Addr).add j) = some u := by
  intro j u hu
  have e : (⟨n, 0, none⟩ : Addr).add j = ⟨n, j, none⟩ := by unfold Addr.add; split <;> simp_all
  rw [e, World.cell?_alloc_at _ t n j hn]
  simpa using hu
theorem owns_base {w : World} {base ty sz n : Nat} {v : Value} {cs : List Value} (h : w.ownsRow base ty sz v n cs) : ∀ k, v.ownBlock = some k → base ≤ k := by
  intro k hk
  rcases h.2 with ⟨rfl, _⟩ | ⟨g, cap, cur, rfl, hb, _⟩
  · simp [Value.ownBlock] at hk
  · simp [Value.ownBlock] at hk; omega
theorem blk_below {B : Nat} {w w' : World} {b : Nat} {cs : Array Value} (hb : Below B w w') (h : b < B) (k : Blk w b cs) : Blk w' b cs := by
  obtain ⟨t, k⟩ := k
  exact ⟨t, by rw [hb.block b h, k]⟩
/-- what an append to an owned row leaves as it was -/
theorem grown_below {W w1 : World} {base ty sz n : Nat} {v : Value} {cs : List Value} (h : W.ownsRow base ty sz v n cs) (hg : W.grownBy w1 v.ownBlock) (hB : base ≤ W.heap.size) : Below base W w1 :=
  (Below.refl _ _).grown hg hB (owns_base h)
end Go.Proofs.YtccmjndnjpjohaaR.rep
