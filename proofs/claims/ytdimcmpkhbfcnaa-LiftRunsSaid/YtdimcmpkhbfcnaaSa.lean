/- Acts told by what they do: parts of a private row moved and cleared in place. -/
import Derived.Test.YtdimcmpkhbfcnaaQk
import Derived.ArgAppend
namespace Go.Proofs.Ytdimcmpkhbfcnaa.pv
set_option linter.all false
open Go.RowKit
theorem addr_add0 (b k : Nat) : (⟨b, 0, none⟩ : Addr).add k = ⟨b, k, none⟩ := by unfold Addr.add; split <;> simp_all
section
variable {P : Program} {T : List TI} {n : Nat} {w0 : Cx} {st : PS} {a : Act} {w : World} {ow : Nat → Bool} {hd : Nat → Value}
/-- elements of a private row, written anew -/
theorem SimW.putEls (S : SimW n w0 st a w ow hd) {l e s i b N cap : Nat} {xs ys : List PV} {news : List Value} (hm : st.m[l]? = some (.row e s xs)) (hh : hd l = .slice (some ⟨b, 0, none⟩) N cap) (hi : i + ys.length ≤ xs.length) (hr : RE ow w s ys news) :
    w.there b (i * s) news.length ∧ N = xs.length ∧ xs.length ≤ cap ∧ (∃ cur : Array Value, w.heap[b]? = some (.cells cur e (0, 0)) ∧ cur.size = cap * s ∧ RE ow w s xs (cur.toList.take (xs.length * s))) ∧
      SimW n w0 ⟨st.f, st.m.set l (.row e s (xs.take i ++ ys ++ xs.drop (i + ys.length)))⟩ a (w.setCells b (i * s) news) ow hd := by
  obtain ⟨cells, ⟨g1, g2⟩, h4, h5⟩ := S.objs l _ hm
  rcases g2 with ⟨g2, _⟩ | ⟨g, cap', cur, g2, g3, g4, g5, g6, g7, g8⟩
  · rw [hh] at g2; simp at g2
  rw [hh] at g2
  simp at g2
  obtain ⟨rfl, rfl, rfl⟩ := g2
  obtain ⟨e3, e4⟩ := h4 b (by rw [hh]; first | rfl | simp [blocksOf, blockOf])
  have hnl := hr.length
  have hmul : i * s + ys.length * s ≤ xs.length * s := by rw [← Nat.add_mul]; exact Nat.mul_le_mul_right _ hi
  have hmul2 : xs.length * s ≤ cap * s := Nat.mul_le_mul_right _ g5
  obtain ⟨cur', q1, q2, q3⟩ := setCells_block b e (0, 0) news (i * s) w cur g4 (by omega)
  have ho := fun j hj => setCells_other b news (i * s) w j hj
  have hkp : Kp ow w ow (w.setCells b (i * s) news) := ⟨by rw [setCells_size]; exact Nat.le_refl _, fun _ _ h => h, fun j _ hj => ho j (fun e => by rw [e, e4] at hj; cases hj)⟩
  refine ⟨there_of_block g4 (by omega), rfl, g5, ⟨cur, g4, g7, by rw [g8]; exact h5⟩, ?_⟩
  have hlen : (xs.take i ++ ys ++ xs.drop (i + ys.length)).length = xs.length := by simp; omega
  have hcl : cells.length = xs.length * s := g1
  have hcur : cur.toList.length = cap * s := by simpa using g7
  refine S.set (o' := .row e s _) hm rfl rfl (b := b) (by rw [hh]; first | rfl | simp [blocksOf, blockOf]) ho (setCells_size b _ _ w) (Kt.of_one (setCells_below b _ (Nat.le_refl _) _ _ w) e3 ho)
    ⟨cells.take (i * s) ++ news ++ cells.drop ((i + ys.length) * s), ⟨?_, .inr ⟨b, cap, cur', by rw [hh, hlen], Nat.zero_le _, q1, by rw [hlen]; exact g5, g6, by rw [q3]; exact g7, ?_⟩⟩, fun b' hb' => by rw [hh] at hb'; simp [blocksOf, blockOf] at hb'; rw [hb']; exact ⟨e3, e4⟩, RE.mono hkp _ _ _ ((RE.append (RE.append (RE.take _ h5) hr) (RE.drop _ h5)))⟩
  · rw [hlen]
    simp only [List.length_append, List.length_take, List.length_drop, hcl, hnl, Nat.add_mul]
    omega
  · rw [q2, hlen, hnl, ← g8, Nat.add_mul]
    apply List.ext_getElem?
    intro k
    have hl1 : (List.take (i * s) cur.toList).length = i * s := by rw [List.length_take]; omega
    have hl2 : (List.take (i * s) (List.take (xs.length * s) cur.toList)).length = i * s := by rw [List.length_take, List.length_take]; omega
    rw [List.getElem?_take]
    by_cases hk : k < xs.length * s
    · rw [if_pos hk]
      by_cases h1 : k < i * s
      · rw [List.append_assoc, List.append_assoc, List.getElem?_append_left (by omega), List.getElem?_append_left (by omega), List.getElem?_take, List.getElem?_take, List.getElem?_take, if_pos h1, if_pos h1, if_pos hk]
      · rw [List.append_assoc, List.append_assoc, List.getElem?_append_right (l₁ := List.take (i * s) cur.toList) (by omega), List.getElem?_append_right (l₁ := List.take (i * s) (List.take (xs.length * s) cur.toList)) (by omega), hl1, hl2]
        by_cases h2 : k - i * s < news.length
        · rw [List.getElem?_append_left h2, List.getElem?_append_left h2]
        · rw [List.getElem?_append_right (l₂ := List.drop _ cur.toList) (by omega), List.getElem?_append_right (l₂ := List.drop _ (List.take _ cur.toList)) (by omega), List.getElem?_drop, List.getElem?_drop, List.getElem?_take, if_pos (by omega)]
    · rw [if_neg hk]
      symm
      apply List.getElem?_eq_none
      simp only [List.length_append, List.length_take, List.length_drop, hcur, hnl]
      omega
end
end Go.Proofs.Ytdimcmpkhbfcnaa.pv
