/- append(nil, ..) whose result is data at once. -/
import Derived.Test.YtdimcmpkhbfcnaaSb
namespace Go.Proofs.Ytdimcmpkhbfcnaa.pv
set_option linter.all false
open Go.RowKit

section
variable {P : Program} {T : List TI} {n : Nat} {w0 : Cx} {st : PS} {a : Act} {w : World} {ow : Nat → Bool} {hd : Nat → Value}
theorem append_nil_run (hT : TOk P T) {t e s : Nat} {ti : TI} {u v : Value} {ys : List PV} (h1 : tsl T t = some (e, s)) (h2 : T[e]? = some ti) (h3 : ti.zero.length = s) (h4 : 0 < s) (hu : u = .slice none 0 0) (hsrc : Src ow w s v ys)
    (h8 : ys.length ≤ maxLen) (h9 : ys.length * ti.bytes ≤ 140737488355328) (ty : TypeId) :
    ∃ v' w' news, (Builtin.append_ #[t, t] ty #[u, v]).run P w = .ok v' w' ∧ w'.ownsRow 0 e s v' ys.length news ∧ w.grownBy w' none ∧ (∀ b, b ∈ blocksOf v' → b = w.heap.size) ∧ RE ow w s ys news := by
  obtain ⟨i, dd, e1, e2, e3, e4, e5, e6⟩ := hT.info h2
  obtain ⟨hun, hs⟩ := tsl_und hT h1
  have hsi := tsz_info hT hs
  rw [e1] at hsi
  simp at hsi
  obtain ⟨z, hz, e6⟩ := e6 (fun e => by rw [e] at h3; simp at h3; omega)
  have hzl : z.cells.size = s := by
    have := congrArg List.length (zsOk_pv e6).1
    simp at this; omega
  have b1 : w.ownsRow 0 e s u 0 [] := by rw [hu]; exact World.ownsRow_nil _ _ _ _
  have hbl : u.ownBlock = none := by rw [hu]; rfl
  have hb0 : blocksOf u = [] := by rw [hu]; simp [blocksOf, blockOf]
  obtain ⟨ad, cap, y1, y2⟩ := hsrc
  rw [y1]
  rcases y2 with rfl | ⟨b, off, ycells, rfl, y3, y5⟩
  · cases ad with
    | none => exact ⟨_, w, [], run_append_none 0 t ty e i s cap hun e1 _ _ _ b1, by simpa using b1, grownBy_refl _ _, fun (b : Nat) (hb : b ∈ blocksOf u) => (by rw [hb0] at hb; cases hb), by simp only [RE]⟩
    | some ad =>
      obtain ⟨v', w', g1, g2, g3, g4⟩ := run_append_own2 (P := P) (w := w) 0 t ty e i z s ti.bytes hun e1 hz hsi e4 hzl h4 _ _ _ b1 ad 0 cap [] (by simp) (by simp) (by simp) (by simpa using h8) (by simpa using h9) (Nat.zero_le _)
      rw [hbl] at g3
      exact ⟨v', w', [], g1, by simpa using g2, g3, fun b hb => (g4 b hb).elim (fun h => by rw [hb0] at h; cases h) id, by simp only [RE]⟩
  · obtain ⟨v', w', g1, g2, g3, g4⟩ := run_append_own2 (P := P) (w := w) 0 t ty e i z s ti.bytes hun e1 hz hsi e4 hzl h4 _ _ _ b1 ⟨b, off, none⟩ ys.length cap ycells y5.length (fun j u hj => by rw [Addr.add_mid]; exact y3 j u hj) y5.one (by simpa using h8) (by simpa using h9) (Nat.zero_le _)
    rw [hbl] at g3
    exact ⟨v', w', ycells, g1, by simpa using g2, g3, fun b hb => (g4 b hb).elim (fun h => by rw [hb0] at h; cases h) id, y5⟩
/-- a new row as data -/
theorem row_data {w' : World} {e s k : Nat} {v : Value} {ys : List PV} {news : List Value} (hg : w.grownBy w' none) (hr : w'.ownsRow 0 e s v ys.length news) (hb : ∀ b, b ∈ blocksOf v → b = w.heap.size) (hf : ∀ b, w.heap.size ≤ b → ow b = false) (he : RE ow w s ys news) : R ow w' (.sl ys) v := by
  have k : Kp ow w ow w' := ⟨hg.size, fun _ _ h => h, fun b hb _ => hg.block b hb (fun e => by cases e)⟩
  simp only [R]
  obtain ⟨h1, h2⟩ := hr
  rcases h2 with ⟨h2, h3⟩ | ⟨g, cap, cur, h2, h3, h4, h5, h6, h7, h8⟩
  · exact ⟨none, 0, by rw [h3]; exact h2, by omega, by simp [maxLen], .inl (List.eq_nil_of_length_eq_zero h3)⟩
  · refine ⟨_, cap, h2, h5, h6, .inr ⟨g, 0, s, news, rfl, (Array.getElem?_eq_some_iff.1 h4).1, ?_, fun j u hj => ?_, RE.mono k _ _ _ he⟩⟩
    · have := hb g (by rw [h2]; first | rfl | simp [blocksOf, blockOf])
      exact hf g (by omega)
    · rw [← h8, List.getElem?_take] at hj
      split at hj
      · unfold World.cell?
        simp only [h4]
        simpa using hj
      · cases hj
theorem ext_apd {t e s : Nat} {ti : TI} {x y : Operand} {ys : List PV} {fy : FV} {m0 : List (Nat × PO)} (h1 : tsl T t = some (e, s)) (h2 : T[e]? = some ti) (h3 : ti.zero.length = s) (h4 : 0 < s) (h8 : ys.length ≤ maxLen) (h9 : ys.length * ti.bytes ≤ 140737488355328)
    (hs : ∀ (n : Nat) (w0 : Cx) (st : PS) (a : Act) (w : World) (ow : Nat → Bool) (hd : Nat → Value), SimW n w0 st a w ow hd → ev st.f y = fy → (∀ q ∈ m0, st.m[q.1]? = some q.2) → Src ow w s (a.eval y) ys) :
    Ext P T (.call ⟨.builtin .append, #[x, y], #[t, t]⟩) [.d vnil, fy] m0 (.d (.sl ys)) [] := by
  intro n w0 st a w o hT hS ho hn hv hm K Q hK
  obtain ⟨ow, hd, hold, S⟩ := hS
  obtain ⟨d, op, ty, pos, af, gd⟩ := o
  simp only at ho hn hK
  subst ho
  simp [Op.operands, Call.operands] at hv
  obtain ⟨hv1, hv2⟩ := hv
  have hu := (S.v hv1).1
  obtain ⟨v', w', news, r1, r2, r3, r4, r5⟩ := append_nil_run hT h1 h2 h3 h4 hu (hs _ _ _ _ _ _ _ S hv2 hm) h8 h9 ty
  have hrun : (execOp a.eval ⟨d, .call ⟨.builtin .append, #[x, y], #[t, t]⟩, ty, pos, af, gd⟩).run P w = .ok (.value v') w' := by
    simp only [execOp, resolve, invoke, builtin, Sem.run_bind, Sem.run_pure, Result.andThen_ok, List.map_toArray, List.map_cons, List.map_nil, r1]
  have hbel : Below w.heap.size w w' := ⟨r3.os, r3.tape, r3.output, r3.size, fun k hk => r3.block k hk (fun e => by cases e)⟩
  unfold Oper.wp
  rw [hrun]
  refine hK _ _ ⟨ow, hd, hold, (S.later hbel).put hn (x := .d (.sl ys)) ?_⟩
  simp only [RF]
  exact row_data (k := 0) r3 r2 r4 S.fresh r5
variable {α : Type} {f : α → PV} {Y Z : List α} {t e s l' b : Nat} {ti : TI} {x y : Operand}
theorem xapdD (h : app ti.bytes ([] : List α) Y = some Z) (h1 : tsl T t = some (e, s)) (h2 : T[e]? = some ti) (h3 : ti.zero.length = s) (h4 : 0 < s) (hf : ∀ x, fits s (f x) = true) :
    Ext P T (.call ⟨.builtin .append, #[x, y], #[t, t]⟩) [.d vnil, .d (.sl (Y.map f))] [] (.d (.sl (Z.map f))) [] := by
  obtain ⟨c1, c2, c3, c4⟩ := app_ob (f := f) (s := s) h hf
  simp only [List.map_nil, List.nil_append] at c4
  rw [← c4]
  simp only [List.map_nil, List.length_nil, Nat.zero_add] at c2 c3
  exact ext_apd h1 h2 h3 h4 c2 c3 (fun n w0 st a w ow hd S hy _ => Src.of_els S (by rw [hy]; exact .sl _) c1)
theorem xapdR (h : app ti.bytes ([] : List α) Y = some Z) (h1 : tsl T t = some (e, s)) (h2 : T[e]? = some ti) (h3 : ti.zero.length = s) (h4 : 0 < s) (hf : ∀ x, fits s (f x) = true) :
    Ext P T (.call ⟨.builtin .append, #[x, y], #[t, t]⟩) [.d vnil, .srf l'] [(l', .row e s (Y.map f))] (.d (.sl (Z.map f))) [] := by
  obtain ⟨c1, c2, c3, c4⟩ := app_ob (f := f) (s := s) h hf
  simp only [List.map_nil, List.nil_append] at c4
  rw [← c4]
  simp only [List.map_nil, List.length_nil, Nat.zero_add] at c2 c3
  exact ext_apd h1 h2 h3 h4 c2 c3 (fun n w0 st a w ow hd S hy hm => Src.of_els S (by rw [hy]; exact .row _ _ _ _ (hm (l', .row e s (Y.map f)) (by simp))) c1)
end
end Go.Proofs.Ytdimcmpkhbfcnaa.pv
