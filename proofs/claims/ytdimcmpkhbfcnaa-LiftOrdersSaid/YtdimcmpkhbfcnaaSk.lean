/- Rows of rows: silent steps and acts. -/
import Derived.Test.YtdimcmpkhbfcnaaSj
namespace Go.Proofs.Ytdimcmpkhbfcnaa.pv
set_option linter.all false
open Go.RowKit

section
variable {P : Program} {T : List TI} {n : Nat} {w0 : Cx} {st : PS} {a : Act} {w : World} {ow : Nat → Bool} {hd : Nat → Value}
theorem set_len {m : List PO} {o : PO} : (m ++ [PO.free]).set m.length o = m ++ [o] := by
  rw [List.set_append_right _ _ (Nat.le_refl _), Nat.sub_self]; rfl
theorem set_app {m : List PO} {l : Nat} {o x : PO} (h : l < m.length) : (m ++ [x]).set l o = m.set l o ++ [x] := List.set_append_left _ _ h
theorem get_app {m : List PO} {l : Nat} {o x : PO} (h : m[l]? = some o) : (m ++ [x])[l]? = some o := by
  rw [List.getElem?_append_left (List.getElem?_eq_some_iff.1 h).1]; exact h
theorem get_end {m : List PO} {x : PO} : (m ++ [x])[m.length]? = some x := by simp
/-- blocks that no object has become public -/
theorem SimW.publ (S : SimW n w0 st a w ow hd) (hold : Keep w0 ow) (D : Nat → Bool) (hD : ∀ b, D b = true → w0.New b) (hno : ∀ j oj b, st.m[j]? = some oj → oj.live = true → b ∈ blocksOf (hd j) → D b = false) :
    Kp ow w (fun b => ow b && !D b) w ∧ Keep w0 (fun b => ow b && !D b) ∧ SimW n w0 st a w (fun b => ow b && !D b) hd := by
  have hk : Kp ow w (fun b => ow b && !D b) w := ⟨Nat.le_refl _, fun b _ hb => by show (ow b && !D b) = false; rw [hb]; rfl, fun _ _ _ => rfl⟩
  refine ⟨hk, hold.step fun b hb hn => ?_, ?_⟩
  · show (ow b && !D b) = ow b
    cases hd' : D b with
    | false => simp
    | true =>
      rcases hD b hd' with h | h
      · omega
      · rw [h] at hn; cases hn
  · refine { below := S.below, fresh := fun b hb => ?_, objs := fun j oj hj => ?_, dist := S.dist, defers := S.defers, size := S.size, slots := fun i => RF.mono hk (fun l h => ⟨h, rfl⟩) _ _ (S.slots i) }
    · show (ow b && !D b) = false
      rw [S.fresh b hb]; rfl
    · exact (S.objs j oj hj).kp hk (fun l h => ⟨h, rfl⟩) fun b hb hl => ⟨rfl, by show (ow b && !D b) = ow b; rw [hno j oj b hj hl hb]; simp⟩
/-- an own row as data, once its block is public -/
theorem own_R {e s : Nat} {u : Value} {ys : List PV} {cs : List Value} {ow' : Nat → Bool} (h : w.ownsRow 0 e s u ys.length cs) (hr : RE ow w s ys cs) (hk : Kp ow w ow' w) (hb : ∀ b, b ∈ blocksOf u → ow' b = false) : R ow' w (.sl ys) u := by
  obtain ⟨h1, h1'⟩ := h
  simp only [R]
  rcases h1' with ⟨e2, e3⟩ | ⟨gb, cap, cur, e2, e3, e4, e5, e6, e7, e8⟩
  · rw [e2]; exact ⟨none, 0, by rw [e3], by omega, by simp [maxLen], .inl (List.eq_nil_of_length_eq_zero e3)⟩
  · refine ⟨some ⟨gb, 0, none⟩, cap, e2, e5, e6, .inr ⟨gb, 0, s, cs, rfl, (Array.getElem?_eq_some_iff.1 e4).1, hb gb (by rw [e2]; first | rfl | simp [blocksOf, blockOf]), fun j v hv => ?_, RE.mono hk _ _ _ hr⟩⟩
    rw [← e8, List.getElem?_take] at hv
    split at hv
    · unfold World.cell?
      simp only [e4]
      simpa using hv
    · cases hv
theorem RFL_noB (A : Nat → Bool) : ∀ (hs : List (Option Nat)), RFL A hd ow w (hs.map fun _ => FV.d (.v noB)) (hs.map fun _ => noB)
  | [] => by simp [RFL]
  | _ :: hs => by
    simp only [List.map_cons, RFL]
    exact ⟨_, _, rfl, by simp only [RF, R]; exact ⟨trivial, rfl⟩, rfl, RFL_noB A hs⟩
theorem RFL.set' {A : Nat → Bool} : ∀ {fs : List FV} {vs : List Value} (j : Nat) (x : FV) (u : Value), RFL A hd ow w fs vs → RF A hd ow w x u → u.oneCell' = true → RFL A hd ow w (fs.set j x) (vs.set j u)
  | [], vs, j, x, u, h, _, _ => by simp only [RFL] at h; subst h; simp [RFL]
  | y :: fs, vs, 0, x, u, h, hx, ho => by
    simp only [RFL] at h
    obtain ⟨v, r, rfl, h1, h2, h3⟩ := h
    simp only [List.set_cons_zero, RFL]
    exact ⟨u, r, rfl, hx, ho, h3⟩
  | y :: fs, vs, j + 1, x, u, h, hx, ho => by
    simp only [RFL] at h
    obtain ⟨v, r, rfl, h1, h2, h3⟩ := h
    simp only [List.set_cons_succ, RFL]
    exact ⟨v, r.set j u, rfl, h1, h2, RFL.set' j x u h3 hx ho⟩
theorem bag_empty {ct : Nat → Nat × Nat} {q : Nat → Bool} {xs : List PV} (hq : ∀ k, k < (fl xs).length → q k = false) : bagI ct q xs ow w (.func (.func 0) #[] (Array.replicate (fl xs).length noB)) := by
  have hz : ∀ (k : Nat) (u : Value), (Array.replicate (fl xs).length noB)[k]? = some u → u = noB := by
    intro k u h
    rw [Array.getElem?_replicate] at h
    split at h
    · cases h; rfl
    · cases h
  refine ⟨_, rfl, by simp, fun k hk h => ?_, fun k u h _ => hz k u h, fun k k' u u' b hne h h' hb => ?_⟩
  · rw [hq k (by simpa using hk)] at h; cases h
  · rw [hz k u h] at hb; simp [noB, blockOf] at hb

/-- a row of data as a row of rows, none of which is one's own yet -/
def nThaw (l ty sz : Nat) (ct : Nat → Nat × Nat) (q : Nat → Bool) (hs : List (Option Nat)) (xs : List PV) (st : PS) : PS :=
  ⟨st.f, st.m.set l (.cu (outC ty sz q hs xs) (.srf st.m.length :: hs.map fun _ => .d (.v noB))) ++ [.cu (bagC ct q xs) []]⟩
theorem nthaw {l ty sz : Nat} {ct : Nat → Nat × Nat} {q : Nat → Bool} {hs : List (Option Nat)} {xs : List PV} (hf : xs.all (fits sz) = true) (hh : ∀ (j k : Nat), hs[j]? ≠ some (some k)) (hq : ∀ k, k < xs.length * sz → q k = false) :
    SilX [(l, .row ty sz xs)] (nThaw l ty sz ct q hs xs) := by
  intro st hm
  refine ⟨rfl, fun n w0 a w S => ?_⟩
  obtain ⟨ow, hd, hold, S⟩ := S
  have hml := hm (l, .row ty sz xs) (by simp)
  simp only at hml
  have hlt := (List.getElem?_eq_some_iff.1 hml).1
  have hq' : ∀ k, k < (fl xs).length → q k = false := fun k hk => hq k (by rw [fl_len hf] at hk; exact hk)
  have S1 := S.room 1
  have e1 : st.m ++ List.replicate 1 PO.free = st.m ++ [.free] := rfl
  rw [e1] at S1
  have hbag : bagI ct q xs ow w (.func (.func 0) #[] (Array.replicate (fl xs).length noB)) := bag_empty hq'
  have hnb : ∀ b, b ∉ blocksOf (.func (.func 0) #[] (Array.replicate (fl xs).length noB)) := by
    intro b hb
    obtain ⟨k, u, hk, hb⟩ := mem_caps hb
    rw [Array.getElem?_replicate] at hk
    split at hk
    · cases hk; simp [noB, blockOf] at hb
    · cases hk
  obtain ⟨S2, ha, hal⟩ := S1.add (l := st.m.length) (o := .cu (bagC ct q xs) []) (hv := .func (.func 0) #[] (Array.replicate (fl xs).length noB)) get_end rfl
    ⟨fun b hb => absurd hb (hnb b), [], by simp [RFL], hbag⟩ (fun j oj b _ _ _ _ => hnb b)
  rw [set_len] at S2 ha hal
  have hne : l ≠ st.m.length := by omega
  have hl2 : (upd hd st.m.length (.func (.func 0) #[] (Array.replicate (fl xs).length noB))) l = hd l := upd_ne _ _ hne
  have S3 := S2.re (l := l) (o := .row ty sz xs) (o' := .cu (outC ty sz q hs xs) (.srf st.m.length :: hs.map fun _ => .d (.v noB))) (get_app hml) rfl rfl (by
    rw [hl2]
    obtain ⟨cells, g1, g2, g3⟩ := S.objs l _ hml
    refine ⟨g2, .func (.func 0) #[] (Array.replicate (fl xs).length noB) :: hs.map fun _ => noB, ?_, cells, _, g1, rfl, fun k p hp => ?_⟩
    · simp only [RFL]
      refine ⟨_, _, rfl, ?_, rfl, RFL_noB _ hs⟩
      simp only [RF]
      rw [upd_same]
      exact ⟨al_set_mono rfl _ hal, rfl, rfl⟩
    · obtain ⟨u, k1, k2, k3⟩ := RL_get (RE_RL hf g3) k p hp
      have hk := (List.getElem?_eq_some_iff.1 hp).1
      exact ⟨u, k1, k2, (fun h => by rw [hq' k hk] at h; cases h), fun j h => absurd h (hh j k), fun _ _ => k3⟩)
  exact ⟨ow, _, hold, by
    have := S3
    rw [set_app hlt] at this
    exact this⟩

/-- all of it is given up: a row of data -/
def nFrz (l B ty sz : Nat) (xs : List PV) (st : PS) : PS := ⟨st.f, (st.m.set B .none).set l (.row ty sz xs)⟩
theorem nfrz {l B ty sz : Nat} {ct : Nat → Nat × Nat} {q : Nat → Bool} {hs : List (Option Nat)} {xs : List PV} {fs : List FV} (hne : l ≠ B) (hf : xs.all (fits sz) = true) (hh : ∀ (j k : Nat), hs[j]? ≠ some (some k)) (h0 : fs[0]? = some (.srf B)) :
    SilX [(l, .cu (outC ty sz q hs xs) fs), (B, .cu (bagC ct q xs) [])] (nFrz l B ty sz xs) := by
  intro st hm
  refine ⟨rfl, fun n w0 a w S => ?_⟩
  obtain ⟨ow, hd, hold, S⟩ := S
  have hml := hm (l, .cu (outC ty sz q hs xs) fs) (by simp)
  have hmb := hm (B, .cu (bagC ct q xs) []) (by simp)
  simp only at hml hmb
  obtain ⟨b1, vs, b2, cells, caps, b3, b4, b5⟩ := S.objs l _ hml
  obtain ⟨c1, cvs, c2, caps', c3, c4, c5, c6, c7⟩ := S.objs B _ hmb
  have hcc : caps' = caps := by
    obtain ⟨u, hu, hr, _⟩ := b2.get 0 _ h0
    rw [b4] at hu; cases hu
    simp only [RF] at hr
    rw [c3] at hr
    have := hr.2.1
    simp only [Value.func.injEq] at this
    exact this.2.2.symm
  subst hcc
  have S1 := S.kill B
  let D : Nat → Bool := fun b => decide (b ∈ blocksOf (hd B))
  obtain ⟨hk, hold2, S2⟩ := S1.publ hold D (fun b hb => (c1 b (by simpa [D] using hb)).1) (fun j oj b hj hl hb => by
    obtain ⟨hj', hne'⟩ := kill_live hj hl
    have := S.dist j B oj _ b hne' hj' hmb hl rfl hb
    simpa [D] using this)
  refine ⟨_, hd, hold2, S2.re (l := l) (o := .cu (outC ty sz q hs xs) fs) (o' := .row ty sz xs) (get_set_ne hml hne) rfl rfl ⟨cells, b3, ?_, ?_⟩⟩
  · intro b hb
    refine ⟨(b1 b hb).1, ?_⟩
    show (ow b && !D b) = true
    have hd1 : b ∉ blocksOf (hd B) := S.dist l B _ _ b hne hml hmb rfl rfl hb
    rw [(b1 b hb).2]
    simp [D, hd1]
  · refine RL_RE hf (RL_of_get (by rw [b3.1, fl_len hf]) fun k p hp => ?_)
    obtain ⟨u, k1, k2, k3, k4, k5⟩ := b5 k p hp
    refine ⟨u, k1, k2, ?_⟩
    cases hq : q k with
    | false => exact R.mono hk _ _ (k5 hq (fun j => hh j k))
    | true =>
      have hkl : k < caps'.size := by rw [c4]; exact (List.getElem?_eq_some_iff.1 hp).1
      obtain ⟨ys, cs, u', d1, d2, d3, d4⟩ := c5 k hkl hq
      have hu := k3 hq
      rw [d2] at hu; cases hu
      rw [hp] at d1; cases d1
      refine own_R d3 d4 hk fun b hb => ?_
      show (ow b && !D b) = false
      have : b ∈ blocksOf (hd B) := by rw [c3]; exact caps_mem d2 (owns_bo d3 hb).1
      simp [D, this]
end
end Go.Proofs.Ytdimcmpkhbfcnaa.pv
