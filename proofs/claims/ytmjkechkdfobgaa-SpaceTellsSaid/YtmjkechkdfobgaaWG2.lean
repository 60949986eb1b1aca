/- SpaceTells: Make. -/
import Derived.Test.YtmjkechkdfobgaaWG1
namespace Go.Proofs.Ytmjkechkdfobgaa.pv
set_option linter.all false
open Go.RowKit
namespace sp
section
variable {F S : Int} {st : St} {smap : SM} {π : Nat → Int} {L : List Nat} {mp : MP} {pg : List Pg} {R : Ref}
variable {P : Program} (hP : P = Try.prog)
include hP
/-- a new space, or none free -/
theorem make_eq {N d d' : Nat} (hN : 1001 ≤ N) (h : Rel F S st L smap mp pg R π) (row : List (Option Nat)) :
    (∃ (r : Nat) (hr : r < 17), 1 ≤ r ∧ ix smap r = none ∧ Gm_Make P N (d + 1) st row smap mp = some (((r : Int), 0, ()), st, mp ++ [[]], mpI smap r (some mp.length), ()) ∧ Gr_Make P N (d' + 1) R = some (((r : Int), 0, ()), mkR R r hr, ()) ∧ Rel F S st L (mpI smap r (some mp.length)) (mp ++ [[]]) pg (mkR R r hr) π) ∨
    (Gm_Make P N (d + 1) st row smap mp = some ((0, 6, ()), st, mp, smap, ()) ∧ Gr_Make P N (d' + 1) R = some ((0, 6, ()), R, ())) := by
  rw [Gm_Make_eq hP, Gr_Make_eq hP]
  rcases make_loop hP N d d' h row N 1 (by omega) (by omega) (by omega) with ⟨r, hr, a, b, c, e⟩ | ⟨c, e⟩
  · exact .inl ⟨r, hr, a, b, c, e, (h.make hr a b).1⟩
  · exact .inr ⟨c, e⟩
end
end sp
end Go.Proofs.Ytmjkechkdfobgaa.pv
namespace Go.Proofs.Ytmjkechkdfobgaa.pv
set_option linter.all false
open Go.RowKit
namespace sp
section
variable {F S : Int} {st : St} {smap : SM} {π : Nat → Int} {L : List Nat} {mp : MP} {pg : List Pg} {R : Ref}
/-- an entry's rights changed -/
theorem Rel.prot (h : Rel F S st L smap mp pg R π) {s : Fin 17} {k : Fin 64} {i : Nat} {e0 : Ent} (hi : ix smap s.1 = some i) (he0 : mlI (ent smap mp s.1) k.1 = some e0) {r : Int} (hr : 0 ≤ r ∧ r ≤ 7)
    {R' : Ref} (r1 : R'.1 = R.1) (r2 : R'.2.1 = R.2.1) (r3 : R'.2.2.1 = R.2.2.1) (r4 : ∀ i' k', cl R' i' k' = if s = i' ∧ k = k' then u1 (cl R s k) r else cl R i' k') :
    Rel F S st L smap (lset mp i (mpI (ent smap mp s.1) k.1 (e0.1, r, ()))) pg R' π := by
  have hsp := h.sp
  have hent : ∀ s' k', mlI (ent smap (lset mp i (mpI (ent smap mp s.1) k.1 (e0.1, r, ()))) s') k' = if s' = (s.1 : Int) ∧ (k.1 : Int) = k' then some (e0.1, r, ()) else mlI (ent smap mp s') k' := fun s' k' => by
    rw [hsp.ent_set hi]
    by_cases e : s' = (s.1 : Int)
    · rw [if_pos e, mlI_put]
      by_cases e2 : (k.1 : Int) = k'
      · rw [if_pos e2, if_pos ⟨e, e2⟩]
      · rw [if_neg e2, if_neg (fun h => e2 h.2), e]
    · rw [if_neg e, if_neg (fun h => e h.1)]
  have hcnt : ∀ x, cnt R' x = cnt R x := fun x => by
    have := cnt_setA (R := R) (R' := R') r4 x
    have e : hit x (u1 (cl R s k) r) = hit x (cl R s k) := rfl
    rw [e] at this
    omega
  have h0 := h.ents _ _ _ he0
  refine ⟨h.f, h.s, h.fr, h.sr, r1.trans h.room, h.clk, h.nd, h.lt, h.here, h.slot, hsp.set hi ((hsp.ms _).put _ _), fun j => by rw [r3]; exact h.isr j, fun a b => ?_, fun s' k' e he => ?_, h.inj, fun p hp => by rw [r2]; exact h.parts p hp, by rw [r2]; exact h.pn, fun p hp => by rw [hcnt]; exact h.us p hp, fun s' a b e e' he he' hee => ?_⟩
  · rw [r4, hent]
    by_cases e : s = a ∧ k = b
    · obtain ⟨rfl, rfl⟩ := e
      rw [if_pos ⟨rfl, rfl⟩, if_pos ⟨rfl, rfl⟩, h.cells, he0]
      rfl
    · rw [if_neg e, if_neg (fun e' => e ⟨(Fin.ext (by have := e'.1; omega)).symm, Fin.ext (by have := e'.2; omega)⟩), h.cells]
  · rw [hent] at he
    split at he
    · rename_i e2
      cases he
      exact ⟨by omega, by omega, h0.2.2.1, hr.1, hr.2⟩
    · exact h.ents _ _ _ he
  · have hback : ∀ {c : Int} {en : Ent}, (if s' = (s.1 : Int) ∧ (k.1 : Int) = c then some ((e0.1, r, ()) : Ent) else mlI (ent smap mp s') c) = some en → ∃ en', mlI (ent smap mp s') c = some en' ∧ en'.1 = en.1 := fun {c en} hx => by
      split at hx
      · rename_i e2
        cases hx
        exact ⟨e0, by rw [e2.1, ← e2.2]; exact he0, rfl⟩
      · exact ⟨en, hx, rfl⟩
    rw [hent] at he he'
    obtain ⟨x, hx, hx2⟩ := hback he
    obtain ⟨y, hy, hy2⟩ := hback he'
    exact h.one s' a b x y hx hy (by rw [hx2, hy2]; exact hee)
end
end sp
end Go.Proofs.Ytmjkechkdfobgaa.pv
namespace Go.Proofs.Ytmjkechkdfobgaa.pv
set_option linter.all false
open Go.RowKit
namespace sp
section
variable {F S : Int} {st : St} {smap : SM} {π : Nat → Int} {L : List Nat} {pg : List Pg}
variable {P : Program} (hP : P = Try.prog)
include hP
/-- the rights are set, page by page -/
theorem prot_set (N d d' : Nat) {i : Nat} {s first n r : Int} (row : List (Option Nat)) (hi : ix smap s = some i) (h0 : 0 ≤ first) (h64 : first + n ≤ 64) (h1 : 1 ≤ n) (hr : 0 ≤ r ∧ r ≤ 7) : ∀ (m f g t : Nat) (mp : MP) (R : Ref), Rel F S st L smap mp pg R π → (∀ k : Int, first ≤ k → k < first + n → (mlI (ent smap mp s) k).isSome = true) → (t : Int) + m = n → m < f → m < g →
    ∃ (mp' : MP) (R' : Ref), Gm_Protect_L12 P N d f s first r n (t : Int) st row smap mp = some (0, mp', ()) ∧ Gr_Protect_L11 P N d' g s first r n (t : Int) R = some (0, R', ()) ∧ Rel F S st L smap mp' pg R' π ∧ R'.2.1 = R.2.1
  | m, 0, _, _, _, _, _, _, _, h, _ => by omega
  | m, _, 0, _, _, _, _, _, _, _, h => by omega
  | 0, f + 1, g + 1, t, mp, R, hR, hall, ht, _, _ => by
    rw [Gm_Protect_L12_eq hP, Gr_Protect_L11_eq hP, dF (by omega), cond_false, cond_false]
    exact ⟨mp, R, rfl, rfl, hR, rfl⟩
  | m + 1, f + 1, g + 1, t, mp, R, hR, hall, ht, hf, hg => by
    have hsp := hR.sp
    have hix := hsp.ix_some hi
    have hin : inb s 17 = true := inb_true (by omega) (by omega)
    have hk : inb (first + (t : Int)) 64 = true := inb_true (by omega) (by omega)
    have hmg : (mlI smap s).getD none = some i := hi
    obtain ⟨e, he⟩ := Option.isSome_iff_exists.1 (hall (first + t) (by omega) (by omega))
    rw [Gm_Protect_L12_eq hP, Gr_Protect_L11_eq hP, dT (p := (t : Int) < n) (by omega), cond_true, cond_true, dif_pos hin, wi64 (x := first + (t : Int)) (by omega) (by omega), dif_pos hk, hmg, oc_some, ent_at hi hix.2.2.2, Option.bind_some, oc_some, ent_at hi hix.2.2.2, Option.bind_some, wi_nat (by omega), he, Option.getD_some]
    have hsE : ((⟨s.toNat, inb_lt hin⟩ : Fin 17).1 : Int) = s := Int.toNat_of_nonneg (by omega)
    have hkE : ((⟨(first + (t : Int)).toNat, inb_lt hk⟩ : Fin 64).1 : Int) = first + t := Int.toNat_of_nonneg (by omega)
    have hnew := hR.prot (s := ⟨s.toNat, inb_lt hin⟩) (k := ⟨(first + (t : Int)).toNat, inb_lt hk⟩) (e0 := e) (by rw [hsE]; exact hi) (by rw [hsE, hkE]; exact he) hr
      (R' := u3 R (sA R.2.2.2.1 ⟨s.toNat, inb_lt hin⟩ (sA (gA R.2.2.2.1 ⟨s.toNat, inb_lt hin⟩) ⟨(first + (t : Int)).toNat, inb_lt hk⟩ (u1 (gA (gA R.2.2.2.1 ⟨s.toNat, inb_lt hin⟩) ⟨(first + (t : Int)).toNat, inb_lt hk⟩) r)))) rfl rfl rfl (fun i' k' => cl_setA R _ i' _ k' _)
    rw [hsE, hkE] at hnew
    obtain ⟨mp', R', a1, a2, a3, a4⟩ := prot_set N d d' row hi h0 h64 h1 hr m f g (t + 1) _ _ hnew (fun k a b => by
      rw [hsp.ent_set hi, if_pos rfl, mlI_put]
      split
      · rfl
      · exact hall k a b) (by omega) (by omega) (by omega)
    exact ⟨mp', R', a1, a2, a3, a4⟩
end
end sp
end Go.Proofs.Ytmjkechkdfobgaa.pv
namespace Go.Proofs.Ytmjkechkdfobgaa.pv
set_option linter.all false
open Go.RowKit
namespace sp
section
variable {F S : Int} {st : St} {smap : SM} {π : Nat → Int} {L : List Nat} {mp : MP} {pg : List Pg} {R : Ref}
variable {P : Program} (hP : P = Try.prog)
include hP
theorem prot_loop (N d d' : Nat) (hN : 1001 ≤ N) (hR : Rel F S st L smap mp pg R π) {i : Nat} {s first n r : Int} (row : List (Option Nat)) (hi : ix smap s = some i) (h0 : 0 ≤ first) (h64 : first + n ≤ 64) (h1 : 1 ≤ n) (hr : 0 ≤ r ∧ r ≤ 7) : ∀ (m f g t : Nat), (∀ k : Int, first ≤ k → k < first + t → (mlI (ent smap mp s) k).isSome = true) → (t : Int) + m = n → m < f → m < g →
    ∃ (e : Int) (mp' : MP) (R' : Ref), Gm_Protect_L5 P N d f s first n r n (t : Int) st row smap mp = some (e, mp', ()) ∧ Gr_Protect_L5 P N d' g s first n r n (t : Int) R = some (e, R', ()) ∧ Rel F S st L smap mp' pg R' π ∧ R'.2.1 = R.2.1
  | m, 0, _, _, _, _, h, _ => by omega
  | m, _, 0, _, _, _, _, h => by omega
  | 0, f + 1, g + 1, t, hall, ht, _, _ => by
    rw [Gm_Protect_L5_eq hP, Gr_Protect_L5_eq hP, dF (by omega), cond_false, cond_false]
    obtain ⟨mp', R', e1, e2, e3, e4⟩ := prot_set hP N d d' row hi h0 h64 h1 hr n.toNat N N 0 mp R hR (fun k a b => hall k a (by omega)) (by omega) (by omega) (by omega)
    exact ⟨0, mp', R', e1, e2, e3, e4⟩
  | m + 1, f + 1, g + 1, t, hall, ht, hf, hg => by
    have hsp := hR.sp
    have hix := hsp.ix_some hi
    have hin : inb s 17 = true := inb_true (by omega) (by omega)
    have hk : inb (first + (t : Int)) 64 = true := inb_true (by omega) (by omega)
    have hmg : (mlI smap s).getD none = some i := hi
    have hsE : ((⟨s.toNat, inb_lt hin⟩ : Fin 17).1 : Int) = s := Int.toNat_of_nonneg (by omega)
    have hkE : ((⟨(first + (t : Int)).toNat, inb_lt hk⟩ : Fin 64).1 : Int) = first + t := Int.toNat_of_nonneg (by omega)
    have hc : (gA (gA R.2.2.2.1 ⟨s.toNat, inb_lt hin⟩) ⟨(first + (t : Int)).toNat, inb_lt hk⟩).1 = (mlI (ent smap mp s) (first + t)).isSome := by
      show (cl R _ _).1 = _
      rw [hR.cells, hsE, hkE]
      cases mlI (ent smap mp s) (first + (t : Int)) <;> rfl
    rw [Gm_Protect_L5_eq hP, Gr_Protect_L5_eq hP, dT (p := (t : Int) < n) (by omega), cond_true, cond_true, dif_pos hin, wi64 (x := first + (t : Int)) (by omega) (by omega), dif_pos hk, hmg, oc_some, ent_at hi hix.2.2.2, Option.bind_some, wi_nat (by omega), hc, Gm_Protect_J8_eq hP]
    cases he : (mlI (ent smap mp s) (first + (t : Int))).isSome with
    | false => exact ⟨11, mp, R, rfl, rfl, hR, rfl⟩
    | true =>
      simp only [Bool.not_true, cond_false]
      rw [wi_nat (by omega)]
      refine prot_loop N d d' hN hR row hi h0 h64 h1 hr m f g (t + 1) (fun k a b => ?_) (by omega) (by omega) (by omega)
      by_cases e : k = first + t
      · rw [e]; exact he
      · exact hall k a (by omega)
theorem protect_eq {N d d' : Nat} (hN : 1001 ≤ N) (h : Rel F S st L smap mp pg R π) (row : List (Option Nat)) (s first n r : Int) :
    ∃ (e : Int) (mp' : MP) (R' : Ref), Gm_Protect P N (d + 2) s first n r st row smap mp = some (e, mp', ()) ∧ Gr_Protect P N (d' + 4) s first n r R = some (e, R', ()) ∧ Rel F S st L smap mp' pg R' π ∧ R'.2.1 = R.2.1 := by
  rw [Gm_Protect_eq hP, Gr_Protect_eq hP, rspan_eq hP, h.isS, span_eq hP, Option.bind_some, Option.bind_some]
  cases hx : ix smap s with
  | none => exact ⟨4, mp, R, rfl, rfl, h, rfl⟩
  | some i =>
    simp only [Option.isSome_some, if_true]
    by_cases h1 : 0 ≤ first ∧ first ≤ 63 ∧ 1 ≤ n ∧ n ≤ 64 - first ∧ (0 : Int) ≤ r ∧ r ≤ 7
    · rw [if_pos h1, neF rfl, cond_false, cond_false]
      exact prot_loop hP N (d + 1) (d' + 3) hN h row hx h1.1 (by omega) h1.2.2.1 h1.2.2.2.2 n.toNat N N 0 (fun k a b => by omega) (by omega) (by omega) (by omega)
    · rw [if_neg h1, neT (by omega), cond_true, cond_true]
      exact ⟨1, mp, R, rfl, rfl, h, rfl⟩
end
end sp
end Go.Proofs.Ytmjkechkdfobgaa.pv
namespace Go.Proofs.Ytmjkechkdfobgaa.pv
set_option linter.all false
open Go.RowKit
namespace sp
section
variable {F S : Int} {smap : SM}
variable {P : Program} (hP : P = Try.prog)
include hP
theorem map_set (N d d' : Nat) (hN : 1001 ≤ N) {i : Nat} {s first n r : Int} (hi : ix smap s = some i) (h0 : 0 ≤ first) (h64 : first + n ≤ 64) (h1 : 1 ≤ n) (hr : 0 ≤ r ∧ r ≤ 7) : ∀ (m f g t : Nat) (st : St) (L : List Nat) (mp : MP) (pg : List Pg) (R : Ref) (π : Nat → Int), Rel F S st L smap mp pg R π → (∀ k : Int, first + t ≤ k → k < first + n → mlI (ent smap mp s) k = none) → (t : Int) + m = n → m < f → m < g → (L.length : Int) + m ≤ F + S → st.2.2.1 + m ≤ 1000000 → R.2.1 + m ≤ 1000000 →
    ∃ (st' : St) (L' : List Nat) (mp' : MP) (pg' : List Pg) (R' : Ref) (π' : Nat → Int), Gm_Map_L14 P N (d + 3) f s first r n (t : Int) st smap pg mp (L.map some) = some (0, st', pg', mp', L'.map some, ()) ∧ Gr_Map_L15 P N d' g s first r [] n (t : Int) R = some (0, R', ()) ∧
      Rel F S st' L' smap mp' pg' R' π' ∧ L'.length = L.length + m ∧ st'.2.2.1 = st.2.2.1 + m ∧ R'.2.1 = R.2.1 + m ∧ (hereC pg' L' : Int) = min F (hereC pg L + m)
  | m, 0, _, _, _, _, _, _, _, _, _, _, _, h, _, _, _, _ => by omega
  | m, _, 0, _, _, _, _, _, _, _, _, _, _, _, h, _, _, _ => by omega
  | 0, f + 1, g + 1, t, st, L, mp, pg, R, π, hR, _, ht, _, _, _, _, _ => by
    have h5 := hR.here
    rw [Gm_Map_L14_eq hP, Gr_Map_L15_eq hP, dF (by omega), cond_false, cond_false]
    exact ⟨st, L, mp, pg, R, π, rfl, rfl, hR, rfl, by omega, by omega, by omega⟩
  | m + 1, f + 1, g + 1, t, st, L, mp, pg, R, π, hR, hno, ht, hf, hg, hroom, hclk, hpt => by
    have hsp := hR.sp
    have hix := hsp.ix_some hi
    have hin : inb s 17 = true := inb_true (by omega) (by omega)
    have hk : inb (first + (t : Int)) 64 = true := inb_true (by omega) (by omega)
    have hmg : (mlI smap s).getD none = some i := hi
    have hpn := hR.pn
    have hf0 := hR.f
    have hsE : ((⟨s.toNat, inb_lt hin⟩ : Fin 17).1 : Int) = s := Int.toNat_of_nonneg (by omega)
    have hkE : ((⟨(first + (t : Int)).toNat, inb_lt hk⟩ : Fin 64).1 : Int) = first + t := Int.toNat_of_nonneg (by omega)
    obtain ⟨pg1, e1, e2, e3, e4, e5⟩ := hR.add hP hN (d := d) (nA 16 0) (by omega)
    have h428 : (cpyR (nA 16 (0 : Int)).1 0 16 []).length = 16 := by decide
    have hz : (⟨cpyR (nA 16 (0 : Int)).1 0 16 [], h428⟩ : Ar 16 Int) = nA 16 0 := Subtype.ext rfl
    have hsame : Gr_Map_L15 P N d' (g + 1) s first r [] n (t : Int) R = Gr_Map_L15 P N d' g s first r [] n ((t + 1 : Nat) : Int) (u3 (u1 R (R.2.1 + 1)) (setA R.2.2.2.1 ⟨s.toNat, inb_lt hin⟩ ⟨(first + (t : Int)).toNat, inb_lt hk⟩ (true, r, nA 16 0, R.2.1 + 1, ()))) := by
      rw [Gr_Map_L15_eq hP, dT (p := (t : Int) < n) (by omega), cond_true, wi64 (x := first + (t : Int)) (by omega) (by omega), wi_nat (by omega), wi64 (x := R.2.1 + 1) (by omega) (by omega)]
      by_cases h2 : (t : Int) = 0
      · rw [bT h2, cond_true, dif_pos h428, dif_pos hin, dif_pos hk, hz]; rfl
      · rw [bF h2, cond_false, dif_pos hin, dif_pos hk]; rfl
    have hnew := hR.addp (s := ⟨s.toNat, inb_lt hin⟩) (k := ⟨(first + (t : Int)).toNat, inb_lt hk⟩) (i := i) (by rw [hsE]; exact hi) (by rw [hsE, hkE]; exact hno _ (by omega) (by omega)) hr (D := nA 16 0) e2 e3 e4 e5 (by omega)
      (R' := u3 (u1 R (R.2.1 + 1)) (setA R.2.2.2.1 ⟨s.toNat, inb_lt hin⟩ ⟨(first + (t : Int)).toNat, inb_lt hk⟩ (true, r, nA 16 0, R.2.1 + 1, ()))) rfl rfl rfl (fun i' k' => gA_setA _ _ i' _ k' _)
    rw [hsE, hkE] at hnew
    rw [hsame, Gm_Map_L14_eq hP, dT (p := (t : Int) < n) (by omega), cond_true, e1, Option.bind_some, hmg, oc_some, ent_at hi hix.2.2.2, Option.bind_some, wi_nat (by omega), wi64 (x := first + (t : Int)) (by omega) (by omega)]
    obtain ⟨st', L', mp', pg', R', π', a1, a2, a3, a4, a5, a6, a7⟩ := map_set N d d' hN hi h0 h64 h1 hr m f g (t + 1) _ _ _ _ _ _ hnew (fun k a b => by
      rw [hsp.ent_set hi, if_pos rfl, mlI_put, if_neg (by omega)]
      exact hno k (by omega) b) (by omega) (by omega) (by omega) (by rw [List.length_append, List.length_singleton]; omega) (by show st.2.2.1 + 1 + m ≤ 1000000; omega) (by show R.2.1 + 1 + m ≤ 1000000; omega)
    refine ⟨st', L', mp', pg', R', π', a1, a2, a3, by rw [a4, List.length_append, List.length_singleton]; omega, by rw [a5]; show st.2.2.1 + 1 + (m : Int) = _; omega, by rw [a6]; show R.2.1 + 1 + (m : Int) = _; omega, ?_⟩
    rw [a7, e5, hf0]
    omega
end
end sp
end Go.Proofs.Ytmjkechkdfobgaa.pv
namespace Go.Proofs.Ytmjkechkdfobgaa.pv
set_option linter.all false
open Go.RowKit
namespace sp
section
variable {F S : Int} {st : St} {smap : SM} {π : Nat → Int} {L : List Nat} {mp : MP} {pg : List Pg} {R : Ref}
variable {P : Program} (hP : P = Try.prog)
include hP
theorem map_loop (N d d' : Nat) (hN : 1001 ≤ N) (hR : Rel F S st L smap mp pg R π) (hclk : st.2.2.1 ≤ 900000) (hpt : R.2.1 ≤ 900000) {i : Nat} {s first n r : Int} (hi : ix smap s = some i) (h0 : 0 ≤ first) (h64 : first + n ≤ 64) (h1 : 1 ≤ n) (hr : 0 ≤ r ∧ r ≤ 7) : ∀ (m f g t : Nat), (∀ k : Int, first ≤ k → k < first + t → mlI (ent smap mp s) k = none) → (t : Int) + m = n → m < f → m < g →
    ∃ (e : Int) (st' : St) (L' : List Nat) (mp' : MP) (pg' : List Pg) (R' : Ref) (π' : Nat → Int), Gm_Map_L5 P N (d + 3) f s first n r n (t : Int) st smap pg mp (L.map some) = some (e, st', pg', mp', L'.map some, ()) ∧ Gr_Map_L7 P N (d' + 1) g s first n r [] n (t : Int) R = some (e, R', ()) ∧
      Rel F S st' L' smap mp' pg' R' π' ∧ Fr F pg L pg' L' ∧ st'.2.2.1 ≤ st.2.2.1 + 64 ∧ R'.2.1 ≤ R.2.1 + 64
  | m, 0, _, _, _, _, h, _ => by omega
  | m, _, 0, _, _, _, _, h => by omega
  | 0, f + 1, g + 1, t, hall, ht, _, _ => by
    have h2 := hR.fr; have h3 := hR.sr; have h4 := hR.len; have h5 := hR.room
    rw [Gm_Map_L5_eq hP, Gr_Map_L7_eq hP, dF (by omega), cond_false, cond_false, room_eq hP n hR, hR.live hP hN, Option.bind_some, Option.bind_some, wi64 (by simp only; omega) (by simp only; omega), h5]
    by_cases hro : n ≤ F + S - (L.length : Int)
    · rw [dT hro, dF (by simp only; omega), cond_false]
      simp only [Bool.not_true, cond_false]
      obtain ⟨st', L', mp', pg', R', π', a1, a2, a3, a4, a5, a6, a7⟩ := map_set hP N d (d' + 1) hN hi h0 h64 h1 hr n.toNat N N 0 st L mp pg R π hR (fun k a b => hall k (by omega) (by omega)) (by omega) (by omega) (by omega) (by omega) (by omega) (by omega)
      refine ⟨0, st', L', mp', pg', R', π', a1, a2, a3, fun _ => ?_, by omega, by omega⟩
      rw [a7, a4]
      omega
    · rw [dF hro, dT (by simp only; omega), cond_true]
      exact ⟨6, st, L, mp, pg, R, π, rfl, rfl, hR, Fr.refl _ _ _, by omega, by omega⟩
  | m + 1, f + 1, g + 1, t, hall, ht, hf, hg => by
    have hsp := hR.sp
    have hix := hsp.ix_some hi
    have hin : inb s 17 = true := inb_true (by omega) (by omega)
    have hk : inb (first + (t : Int)) 64 = true := inb_true (by omega) (by omega)
    have hmg : (mlI smap s).getD none = some i := hi
    have hsE : ((⟨s.toNat, inb_lt hin⟩ : Fin 17).1 : Int) = s := Int.toNat_of_nonneg (by omega)
    have hkE : ((⟨(first + (t : Int)).toNat, inb_lt hk⟩ : Fin 64).1 : Int) = first + t := Int.toNat_of_nonneg (by omega)
    have hc : (gA (gA R.2.2.2.1 ⟨s.toNat, inb_lt hin⟩) ⟨(first + (t : Int)).toNat, inb_lt hk⟩).1 = (mlI (ent smap mp s) (first + t)).isSome := by
      show (cl R _ _).1 = _
      rw [hR.cells, hsE, hkE]
      cases mlI (ent smap mp s) (first + (t : Int)) <;> rfl
    rw [Gm_Map_L5_eq hP, Gr_Map_L7_eq hP, dT (p := (t : Int) < n) (by omega), cond_true, cond_true, dif_pos hin, wi64 (x := first + (t : Int)) (by omega) (by omega), dif_pos hk, hmg, oc_some, ent_at hi hix.2.2.2, Option.bind_some, wi_nat (by omega), hc, Gm_Map_J8_eq hP]
    cases he : (mlI (ent smap mp s) (first + (t : Int))).isSome with
    | true => exact ⟨5, st, L, mp, pg, R, π, rfl, rfl, hR, Fr.refl _ _ _, by omega, by omega⟩
    | false =>
      simp only [cond_false]
      rw [wi_nat (by omega)]
      refine map_loop N d d' hN hR hclk hpt hi h0 h64 h1 hr m f g (t + 1) (fun k a b => ?_) (by omega) (by omega) (by omega)
      by_cases e : k = first + t
      · rw [e]; simpa using he
      · exact hall k a (by omega)
end
end sp
end Go.Proofs.Ytmjkechkdfobgaa.pv
namespace Go.Proofs.Ytmjkechkdfobgaa.pv
set_option linter.all false
open Go.RowKit
namespace sp
section
variable {F S : Int} {st : St} {smap : SM} {π : Nat → Int} {L : List Nat} {mp : MP} {pg : List Pg} {R : Ref}
variable {P : Program} (hP : P = Try.prog)
include hP
theorem map_eq {N d d' : Nat} (hN : 1001 ≤ N) (h : Rel F S st L smap mp pg R π) (hclk : st.2.2.1 ≤ 900000) (hpt : R.2.1 ≤ 900000) (s first n r : Int) :
    ∃ (e : Int) (st' : St) (L' : List Nat) (mp' : MP) (pg' : List Pg) (R' : Ref) (π' : Nat → Int), Gm_Map P N (d + 4) s first n r st (L.map some) smap pg mp = some (e, st', pg', mp', L'.map some, ()) ∧ Gr_Map P N (d' + 4) s first n r [] R = some (e, R', ()) ∧
      Rel F S st' L' smap mp' pg' R' π' ∧ Fr F pg L pg' L' ∧ st'.2.2.1 ≤ st.2.2.1 + 64 ∧ R'.2.1 ≤ R.2.1 + 64 := by
  rw [Gm_Map_eq hP, Gr_Map_eq hP, rspan_eq hP, h.isS, span_eq hP, Option.bind_some, Option.bind_some]
  cases hx : ix smap s with
  | none => exact ⟨4, st, L, mp, pg, R, π, rfl, rfl, h, Fr.refl _ _ _, by omega, by omega⟩
  | some i =>
    simp only [Option.isSome_some, if_true]
    by_cases h1 : 0 ≤ first ∧ first ≤ 63 ∧ 1 ≤ n ∧ n ≤ 64 - first ∧ (0 : Int) ≤ r ∧ r ≤ 7
    · rw [if_pos h1, neF rfl, cond_false, cond_false, dF (by simp), cond_false]
      exact map_loop hP N d (d' + 2) hN h hclk hpt hx h1.1 (by omega) h1.2.2.1 h1.2.2.2.2 n.toNat N N 0 (fun k a b => by omega) (by omega) (by omega) (by omega)
    · rw [if_neg h1, neT (by omega), cond_true, cond_true]
      exact ⟨1, st, L, mp, pg, R, π, rfl, rfl, h, Fr.refl _ _ _, by omega, by omega⟩
end
end sp
end Go.Proofs.Ytmjkechkdfobgaa.pv
namespace Go.Proofs.Ytmjkechkdfobgaa.pv
set_option linter.all false
open Go.RowKit
namespace sp
theorem cnt_one {R : Ref} {x : Int} (h : cnt R x ≤ 1) {i i' : Fin 17} {k k' : Fin 64} (h1 : hit x (cl R i k) = true) (h2 : hit x (cl R i' k') = true) : i = i' ∧ k = k' := by
  by_cases e : i = i' ∧ k = k'
  · exact e
  · exfalso
    have hc := cnt_setA (R := R) (R' := u3 R (setA R.2.2.2.1 i k zc)) (fun a b => cl_setA R i a k b zc) x
    rw [h1, show hit x zc = false from rfl] at hc
    simp only [Bool.toNat_true, Bool.toNat_false] at hc
    have : 0 < cnt (u3 R (setA R.2.2.2.1 i k zc)) x := cnt_pos.2 ⟨i', k', by rw [cl_setA, if_neg e]; exact h2⟩
    omega
theorem mpI_mdI {ν : Type} {D : List (Int × ν)} (h : SrtI D) (k : Int) (v : ν) : mpI (mdI D k) k v = mpI D k v := by
  refine srtI_ext ((h.del k).put k v) (h.put k v) fun j => ?_
  rw [mlI_put, mlI_put, mlI_del h]
  split
  · rfl
  · rfl
theorem lset_lset {α : Type} (l : List α) (i : Nat) (a b : α) : lset (lset l i a) i b = lset l i b := List.set_set ..
section
variable {F S : Int} {st : St} {smap : SM} {π : Nat → Int} {L : List Nat} {mp : MP} {pg : List Pg} {R : Ref}
/-- a page that one entry alone names: its data changed -/
theorem Rel.wr (h : Rel F S st L smap mp pg R π) {s : Fin 17} {k : Fin 64} {e0 : Ent} (he0 : mlI (ent smap mp s.1) k.1 = some e0) {p : Nat} (hp0 : e0.1 = some p) (hu : usr pg p = 1) {D : Ar 16 Int} {pg' : List Pg}
    (h1 : pg'.length = pg.length) (h2 : ∀ j, usr pg' j = usr pg j) (h3 : ∀ j, dat pg' j = if j = p then D else dat pg j) (h4 : ∀ j, hr pg' j = hr pg j)
    {R' : Ref} (r1 : R'.1 = R.1) (r2 : R'.2.1 = R.2.1) (r3 : R'.2.2.1 = R.2.2.1) (r4 : ∀ i' k', cl R' i' k' = if s = i' ∧ k = k' then u2 (cl R s k) D else cl R i' k') :
    Rel F S st L smap mp pg' R' π := by
  obtain ⟨_, _, ⟨p', hp', hpL⟩, _⟩ := h.ents _ _ _ he0
  rw [hp0] at hp'
  cases hp'
  have hC : hereC pg' L = hereC pg L := cnt_same fun j _ => (h4 j).symm
  have hcnt : ∀ x, cnt R' x = cnt R x := fun x => by
    have := cnt_setA (R := R) (R' := R') r4 x
    have e : hit x (u2 (cl R s k) D) = hit x (cl R s k) := rfl
    rw [e] at this
    omega
  have hone := h.us p hpL
  refine ⟨h.f, h.s, h.fr, h.sr, r1.trans h.room, h.clk, h.nd, fun q hq => by rw [h1]; exact h.lt q hq, by rw [hC]; exact h.here, by rw [hC]; exact h.slot, h.sp, fun j => by rw [r3]; exact h.isr j, fun a b => ?_, h.ents, h.inj, fun q hq => by rw [r2]; exact h.parts q hq, by rw [r2]; exact h.pn, fun q hq => by rw [hcnt, h2]; exact h.us q hq, h.one⟩
  rw [r4]
  by_cases e : s = a ∧ k = b
  · obtain ⟨rfl, rfl⟩ := e
    rw [if_pos ⟨rfl, rfl⟩, h.cells, he0]
    simp [cellOf, hp0, h3, u2]
  · rw [if_neg e, h.cells]
    refine (cellOf_same (fun en q he hq => ⟨?_, rfl⟩) (fun en he => ?_)).symm
    · rw [h3, if_neg]
      intro hqp
      subst hqp
      have a1 : hit (π q) (cl R s k) = true := h.hit_iff.2 ⟨e0, q, he0, hp0, hpL, rfl⟩
      have a2 : hit (π q) (cl R a b) = true := h.hit_iff.2 ⟨en, q, he, hq, hpL, rfl⟩
      exact e (cnt_one (by omega) a1 a2)
    · obtain ⟨_, _, ⟨q, hq, _⟩, _⟩ := h.ents _ _ _ he
      exact ⟨q, hq⟩
variable {P : Program} (hP : P = Try.prog)
include hP
/-- a page that others name, too: a copy of it for one entry -/
theorem Rel.copy (h : Rel F S st L smap mp pg R π) {N d : Nat} (hN : 1001 ≤ N) {s : Fin 17} {k : Fin 64} {i : Nat} (hi : ix smap s.1 = some i) {e0 : Ent} (he0 : mlI (ent smap mp s.1) k.1 = some e0) {p : Nat} (hp0 : e0.1 = some p) (hu : usr pg p ≠ 1) {pg1 : List Pg}
    (h1 : pg1.length = pg.length) (h2 : ∀ j, usr pg1 j = if j = p then usr pg p - 1 else usr pg j) (h3 : ∀ j, dat pg1 j = dat pg j) (h4 : ∀ j, hr pg1 j = hr pg j) (hroom : (L.length : Int) + 1 ≤ F + S) (hc : st.2.2.1 ≤ 1000000) (D : Ar 16 Int)
    {R' : Ref} (r1 : R'.1 = R.1) (r2 : R'.2.1 = R.2.1 + 1) (r3 : R'.2.2.1 = R.2.2.1) (r4 : ∀ i' k', cl R' i' k' = if s = i' ∧ k = k' then (true, e0.2.1, D, R.2.1 + 1, ()) else cl R i' k') :
    ∃ pg', Gm_add P N (d + 3) D st (L.map some) smap pg1 = some (some pg.length, u2 st (st.2.2.1 + 1), pg', (L ++ [pg.length]).map some, ()) ∧ pg'.length = pg.length + 1 ∧
      (∀ j, usr pg' j = if j = pg.length then 1 else if j = p then usr pg p - 1 else usr pg j) ∧ (hereC pg' (L ++ [pg.length]) : Int) = min F (hereC pg L + 1) ∧
      Rel F S (u2 st (st.2.2.1 + 1)) (L ++ [pg.length]) smap (lset mp i (mpI (ent smap mp s.1) k.1 (some pg.length, e0.2.1, ()))) pg' R' (fun q => if q = pg.length then R.2.1 + 1 else π q) := by
  have hsp := h.sp
  have hr0 := h.ents _ _ _ he0
  have hd := h.delp hi he0 hp0 h1 h2 h3 h4 (R' := u3 R (setA R.2.2.2.1 s k zc)) rfl rfl rfl (fun a b => cl_setA R s a k b zc)
  rw [if_neg hu] at hd
  obtain ⟨pg', e1, e2, e3, e4, e5⟩ := hd.add hP hN (d := d) D hc
  have hn : mlI (ent smap (lset mp i (mdI (ent smap mp s.1) k.1)) s.1) k.1 = none := by
    rw [hsp.ent_set hi, if_pos rfl, mlI_del (hsp.ms _), if_pos rfl]
  have hC : hereC pg1 L = hereC pg L := cnt_same fun j _ => (h4 j).symm
  have ha := hd.addp hi hn (r := e0.2.1) ⟨hr0.2.2.2.1, hr0.2.2.2.2⟩ e2 e3 e4 e5 hroom (R' := R') r1 r2 r3 (fun a b => by
    rw [r4]
    by_cases e : s = a ∧ k = b
    · rw [if_pos e, if_pos e]; rfl
    · rw [if_neg e, if_neg e, cl_setA, if_neg e])
  rw [hsp.ent_set hi, if_pos rfl, mpI_mdI (hsp.ms _), lset_lset] at ha
  rw [h1] at e1 e2 e3 e4 e5 ha
  refine ⟨pg', e1, e2, fun j => by rw [e3, h2], by rw [e5, hC, h.f], ha⟩
end
end sp
end Go.Proofs.Ytmjkechkdfobgaa.pv
namespace Go.Proofs.Ytmjkechkdfobgaa.pv
set_option linter.all false
open Go.RowKit
namespace sp
section
variable {F S : Int} {st : St} {smap : SM} {π : Nat → Int} {L : List Nat} {mp : MP} {pg : List Pg} {R : Ref}
variable {P : Program} (hP : P = Try.prog)
include hP
theorem put_eq {N d d' : Nat} (hN : 1001 ≤ N) (h : Rel F S st L smap mp pg R π) (hclk : st.2.2.1 ≤ 900000) (hpt : R.2.1 ≤ 900000) (s k r : Int) (data : List Int) :
    ∃ (e : Int) (st' : St) (L' : List Nat) (mp' : MP) (pg' : List Pg) (R' : Ref) (π' : Nat → Int), Gm_Put P N (d + 4) s k r data st (L.map some) smap pg mp = some (e, st', pg', mp', L'.map some, ()) ∧ Gr_Map P N (d' + 4) s k 1 r data R = some (e, R', ()) ∧
      Rel F S st' L' smap mp' pg' R' π' ∧ Fr F pg L pg' L' ∧ st'.2.2.1 ≤ st.2.2.1 + 64 ∧ R'.2.1 ≤ R.2.1 + 64 := by
  rw [Gm_Put_eq hP, Gr_Map_eq hP, rspan_eq hP, h.isS, span_eq hP, Option.bind_some, Option.bind_some]
  cases hx : ix smap s with
  | none => exact ⟨4, st, L, mp, pg, R, π, rfl, rfl, h, Fr.refl _ _ _, by omega, by omega⟩
  | some i =>
    simp only [Option.isSome_some, if_true]
    by_cases h1 : 0 ≤ k ∧ k ≤ 63 ∧ (1 : Int) ≤ 1 ∧ 1 ≤ 64 - k ∧ (0 : Int) ≤ r ∧ r ≤ 7
    · rw [if_pos h1, neF rfl, cond_false, cond_false]
      by_cases hd : (data.length : Int) > 16
      · rw [dT hd, cond_true, cond_true]
        exact ⟨1, st, L, mp, pg, R, π, rfl, rfl, h, Fr.refl _ _ _, by omega, by omega⟩
      · rw [dF hd, cond_false, cond_false]
        have hsp := h.sp
        have hix := hsp.ix_some hx
        have hin : inb s 17 = true := inb_true (by omega) (by omega)
        have hk : inb k 64 = true := inb_true (by omega) (by omega)
        have hmg : (mlI smap s).getD none = some i := hx
        have hsE : ((⟨s.toNat, inb_lt hin⟩ : Fin 17).1 : Int) = s := Int.toNat_of_nonneg (by omega)
        have hkE : ((⟨k.toNat, inb_lt hk⟩ : Fin 64).1 : Int) = k := Int.toNat_of_nonneg (by omega)
        have hc : (gA (gA R.2.2.2.1 ⟨s.toNat, inb_lt hin⟩) ⟨k.toNat, inb_lt hk⟩).1 = (mlI (ent smap mp s) k).isSome := by
          show (cl R _ _).1 = _
          rw [h.cells, hsE, hkE]
          cases mlI (ent smap mp s) k <;> rfl
        have hk0 : k + 0 = k := by omega
        have hw0 : wi .i64 k = k := wi64 (by omega) (by omega)
        obtain ⟨M, rfl⟩ : ∃ M, N = M + 2 := ⟨N - 2, by omega⟩
        rw [hmg, oc_some, ent_at hx hix.2.2.2, Option.bind_some, Gm_Put_J7_eq hP, Gr_Map_L7_eq hP, dT (p := (0 : Int) < 1) (by omega), cond_true, dif_pos hin]
        simp only [hk0, hw0]
        rw [dif_pos hk, hc]
        cases he : mlI (ent smap mp s) k with
        | some en =>
          simp only [Option.isSome_some, cond_true]
          exact ⟨5, st, L, mp, pg, R, π, rfl, rfl, h, Fr.refl _ _ _, by omega, by omega⟩
        | none =>
          simp only [Option.isSome_none, cond_false]
          have h2 := h.fr; have h3 := h.sr; have h4 := h.len; have h5 := h.room; have hpn := h.pn; have hf0 := h.f
          rw [Gr_Map_L7_eq hP, show wi .i64 ((0 : Int) + 1) = 1 from rfl, dF (p := (1 : Int) < 1) (by omega), cond_false, room_eq hP 1 h, h.live hP hN, Option.bind_some, Option.bind_some, wi64 (by simp only; omega) (by simp only; omega), h5]
          by_cases hro : 1 ≤ F + S - (L.length : Int)
          · rw [dT hro, dF (by simp only; omega), cond_false]
            simp only [Bool.not_true, cond_false]
            have h583 : (cpyR (nA 16 (0 : Int)).1 0 16 data).length = 16 := by
              rw [cpyR_len (by omega) (by rw [(nA 16 (0 : Int)).2]; omega)]
              exact (nA 16 (0 : Int)).2
            obtain ⟨pg1, e1, e2, e3, e4, e5⟩ := h.add hP hN (d := d) (⟨cpyR (nA 16 (0 : Int)).1 0 16 data, h583⟩ : Ar 16 Int) (by omega)
            have hnew := h.addp (s := ⟨s.toNat, inb_lt hin⟩) (k := ⟨k.toNat, inb_lt hk⟩) (i := i) (by rw [hsE]; exact hx) (by rw [hsE, hkE]; exact he) ⟨h1.2.2.2.2.1, h1.2.2.2.2.2⟩ (D := ⟨cpyR (nA 16 (0 : Int)).1 0 16 data, h583⟩) e2 e3 e4 e5 (by omega)
              (R' := u3 (u1 R (R.2.1 + 1)) (setA R.2.2.2.1 ⟨s.toNat, inb_lt hin⟩ ⟨k.toNat, inb_lt hk⟩ (true, r, ⟨cpyR (nA 16 (0 : Int)).1 0 16 data, h583⟩, R.2.1 + 1, ()))) rfl rfl rfl (fun i' k' => gA_setA _ _ i' _ k' _)
            rw [hsE, hkE] at hnew
            rw [dif_pos h583, e1, Option.bind_some, hmg, oc_some, ent_at hx hix.2.2.2, Option.bind_some, Gr_Map_L15_eq hP, dT (p := (0 : Int) < 1) (by omega), cond_true, bT (a := (0 : Int)) rfl, cond_true, dif_pos h583, dif_pos hin]
            simp only [hk0, hw0]
            rw [dif_pos hk, wi64 (x := R.2.1 + 1) (by omega) (by omega), Gr_Map_L15_eq hP, show wi .i64 ((0 : Int) + 1) = 1 from rfl, dF (p := (1 : Int) < 1) (by omega), cond_false]
            refine ⟨0, _, _, _, _, _, _, rfl, rfl, hnew, fun _ => ?_, by show st.2.2.1 + 1 ≤ _; omega, by show R.2.1 + 1 ≤ _; omega⟩
            rw [e5, List.length_append, List.length_singleton]
            omega
          · rw [dF hro, dT (by simp only; omega), cond_true]
            exact ⟨6, st, L, mp, pg, R, π, rfl, rfl, h, Fr.refl _ _ _, by omega, by omega⟩
    · rw [if_neg h1, neT (by omega), cond_true, cond_true]
      exact ⟨1, st, L, mp, pg, R, π, rfl, rfl, h, Fr.refl _ _ _, by omega, by omega⟩
end
end sp
end Go.Proofs.Ytmjkechkdfobgaa.pv
namespace Go.Proofs.Ytmjkechkdfobgaa.pv
set_option linter.all false
open Go.RowKit
namespace sp
/-- a page's entry allows so much -/
def okP (smap : SM) (mp : MP) (s want k : Int) : Bool := match mlI (ent smap mp s) k with
  | some e => bits .and .i64 e.2.1 want == want
  | none => false
theorem tdiv16 {a : Int} (h : 0 ≤ a) : a.tdiv 16 = a / 16 := Int.tdiv_eq_ediv_of_nonneg h
theorem tmod16 {a : Int} (h : 0 ≤ a) : a.tmod 16 = a % 16 := Int.tmod_eq_emod_of_nonneg h
section
variable {F S : Int} {st : St} {smap : SM} {π : Nat → Int} {L : List Nat} {mp : MP} {pg : List Pg} {R : Ref}
variable {P : Program} (hP : P = Try.prog)
include hP
theorem may_loop (N d : Nat) (row : List (Option Nat)) {s addr n want last : Int} {i : Nat} (hi : ix smap s = some i) (hil : i < mp.length) (hl : wi .i64 ((wi .i64 ((wi .i64 (addr + n)) - 1)).tdiv 16) = last) (hlt : last ≤ 64) : ∀ (m f : Nat) (k : Int), 0 ≤ k → k + m = last + 1 → m < f →
    ∃ b, Gm_may_L6 P N d f s addr n want k st row smap mp = some (b, ()) ∧ (b = true ↔ ∀ j : Int, k ≤ j → j ≤ last → okP smap mp s want j = true)
  | m, 0, _, _, _, h => by omega
  | 0, f + 1, k, h0, hk, _ => by
    rw [Gm_may_L6_eq hP, hl, dF (by omega), cond_false]
    exact ⟨true, rfl, fun _ j a b => by omega, fun _ => rfl⟩
  | m + 1, f + 1, k, h0, hk, hf => by
    have hmg : (mlI smap s).getD none = some i := hi
    rw [Gm_may_L6_eq hP, hl, dT (by omega), cond_true, hmg, oc_some, ent_at hi hil, Option.bind_some, Gm_may_J9_eq hP]
    have ih := may_loop N d row (n := n) (addr := addr) (want := want) hi hil hl hlt m f (k + 1) (by omega) (by omega) (by omega)
    cases he : mlI (ent smap mp s) k with
    | none =>
      have e : okP smap mp s want k = false := by unfold okP; rw [he]
      simp only [Option.isSome_none, Bool.not_false, cond_true, Option.bind_some]
      exact ⟨false, rfl, fun h => (by cases h), fun h => by have := h k (by omega) (by omega); rw [e] at this; cases this⟩
    | some en =>
      have e : okP smap mp s want k = (bits .and .i64 en.2.1 want == want) := by unfold okP; rw [he]
      simp only [Option.isSome_some, Bool.not_true, cond_false, Option.bind_some, Option.getD_some, bne]
      cases hb : (bits .and .i64 en.2.1 want == want) with
      | false =>
        rw [hb] at e
        simp only [Bool.not_false, cond_true]
        exact ⟨false, rfl, fun h => (by cases h), fun h => by have := h k (by omega) (by omega); rw [e] at this; cases this⟩
      | true =>
        rw [hb] at e
        simp only [Bool.not_true, cond_false]
        rw [wi64 (by omega) (by omega)]
        obtain ⟨b, f1, f2⟩ := ih
        refine ⟨b, f1, f2.trans ⟨fun h j a c => ?_, fun h j a c => h j (by omega) c⟩⟩
        by_cases hj : j = k
        · rw [hj]; exact e
        · exact h j (by omega) c
theorem rmay_loop {N d : Nat} (hN : 1001 ≤ N) (h : Rel F S st L smap mp pg R π) {s addr want n : Int} {i : Nat} (hi : ix smap s = some i) (hw : 1 ≤ want ∧ want ≤ 7) (hn : n ≤ 256) : ∀ (m f t : Nat), (t : Int) + m = n → m < f →
    ∃ b, Gr_May_L2 P N (d + 1) f s addr want n (t : Int) R = some (b, ()) ∧ (b = true ↔ ∀ u : Int, t ≤ u → u < n → 0 ≤ addr ∧ addr + u ≤ 1023 ∧ okP smap mp s want ((addr + u) / 16) = true)
  | m, 0, _, _, h => by omega
  | 0, f + 1, t, hk, _ => by
    rw [Gr_May_L2_eq hP, dF (by omega), cond_false]
    exact ⟨true, rfl, fun _ j a b => by omega, fun _ => rfl⟩
  | m + 1, f + 1, t, hk, hf => by
    have hsp := h.sp
    have hix := hsp.ix_some hi
    have hin : inb s 17 = true := inb_true (by omega) (by omega)
    have hsE : ((⟨s.toNat, inb_lt hin⟩ : Fin 17).1 : Int) = s := Int.toNat_of_nonneg (by omega)
    rw [Gr_May_L2_eq hP, dT (by omega), cond_true]
    by_cases h1 : addr < 0
    · rw [dT h1]
      simp only [cond_true, Option.bind_some]
      exact ⟨false, rfl, fun h => (by cases h), fun h => by have := (h t (by omega) (by omega)).1; omega⟩
    rw [dF h1, cond_false, wi64 (x := 1023 - (t : Int)) (by omega) (by omega), Option.bind_some]
    by_cases h2 : addr > 1023 - (t : Int)
    · rw [dT h2, cond_true]
      exact ⟨false, rfl, fun h => (by cases h), fun h => by have := (h t (by omega) (by omega)).2.1; omega⟩
    rw [dF h2, cond_false]
    have hq : wi .i64 ((wi .i64 (addr + (t : Int))).tdiv 16) = (addr + t) / 16 := by
      rw [wi64 (x := addr + (t : Int)) (by omega) (by omega), tdiv16 (by omega), wi64 (by omega) (by omega)]
    have hkk : inb ((addr + (t : Int)) / 16) 64 = true := inb_true (by omega) (by omega)
    have hkE : ((⟨((addr + (t : Int)) / 16).toNat, inb_lt hkk⟩ : Fin 64).1 : Int) = (addr + t) / 16 := Int.toNat_of_nonneg (by omega)
    have ih := rmay_loop hN h (d := d) (addr := addr) (n := n) hi hw hn m f (t + 1) (by omega) (by omega)
    simp only [hq]
    rw [dif_pos hin, dif_pos hkk]
    have hcell := h.cells ⟨s.toNat, inb_lt hin⟩ ⟨((addr + (t : Int)) / 16).toNat, inb_lt hkk⟩
    rw [hsE, hkE] at hcell
    have hcell : gA (gA R.2.2.2.1 ⟨s.toNat, inb_lt hin⟩) ⟨((addr + (t : Int)) / 16).toNat, inb_lt hkk⟩ = cellOf pg π (mlI (ent smap mp s) ((addr + t) / 16)) := hcell
    rw [hcell]
    cases he : mlI (ent smap mp s) ((addr + (t : Int)) / 16) with
    | none =>
      have e : okP smap mp s want ((addr + (t : Int)) / 16) = false := by unfold okP; rw [he]
      simp only [cellOf, zc, Bool.not_false, cond_true, Option.bind_some]
      exact ⟨false, rfl, fun h => (by cases h), fun h => by have := (h t (by omega) (by omega)).2.2; rw [e] at this; cases this⟩
    | some en =>
      have e : okP smap mp s want ((addr + (t : Int)) / 16) = (bits .and .i64 en.2.1 want == want) := by unfold okP; rw [he]
      have hr := (h.ents _ _ _ he).2.2.2
      simp only [cellOf, Bool.not_true, cond_false]
      rw [has_eq hP hN en.2.1 want hr ⟨by omega, hw.2⟩, Option.bind_some, Option.bind_some]
      cases hb : (bits .and .i64 en.2.1 want == want) with
      | false =>
        rw [hb] at e
        simp only [Bool.not_false, cond_true]
        exact ⟨false, rfl, fun h => (by cases h), fun h => by have := (h t (by omega) (by omega)).2.2; rw [e] at this; cases this⟩
      | true =>
        rw [hb] at e
        simp only [Bool.not_true, cond_false]
        rw [wi_nat (by omega)]
        obtain ⟨b, f1, f2⟩ := ih
        refine ⟨b, f1, f2.trans ⟨fun h j a c => ?_, fun h j a c => h j (by omega) c⟩⟩
        by_cases hj : j = t
        · rw [hj]; exact ⟨by omega, by omega, e⟩
        · exact h j (by omega) c
theorem may_eq {N d d' : Nat} (hN : 1001 ≤ N) (h : Rel F S st L smap mp pg R π) (row : List (Option Nat)) {s : Int} {i : Nat} (hi : ix smap s = some i) (addr n want : Int) (hn : 0 ≤ n ∧ n ≤ 256) (hw : 1 ≤ want ∧ want ≤ 7) :
    ∃ b, Gm_may P N (d + 1) s addr n want st row smap mp = some (b, ()) ∧ Gr_May P N (d' + 2) s addr n want R = some (b, ()) ∧
      (b = true → 0 < n → 0 ≤ addr ∧ addr + n ≤ 1024 ∧ ∀ j : Int, addr / 16 ≤ j → j ≤ (addr + n - 1) / 16 → (mlI (ent smap mp s) j).isSome = true) := by
  rw [Gm_may_eq hP, Gr_May_eq hP]
  obtain ⟨b, e1, e2⟩ := rmay_loop hP hN h (d := d') (addr := addr) (n := n) hi hw hn.2 n.toNat N 0 (by omega) (by omega)
  rw [show ((0 : Nat) : Int) = 0 from rfl] at e1
  by_cases h0 : n = 0
  · have hb : b = true := e2.2 fun u a c => by omega
    subst hb
    rw [bT h0, cond_true]
    exact ⟨true, rfl, e1, fun _ h => by omega⟩
  have hkey : (∀ u : Int, ((0 : Nat) : Int) ≤ u → u < n → 0 ≤ addr ∧ addr + u ≤ 1023 ∧ okP smap mp s want ((addr + u) / 16) = true) ↔ (0 ≤ addr ∧ addr ≤ 1024 - n ∧ ∀ j : Int, addr / 16 ≤ j → j ≤ (addr + n - 1) / 16 → okP smap mp s want j = true) := by
    constructor
    · intro h
      have a := h 0 (by omega) (by omega)
      have c := h (n - 1) (by omega) (by omega)
      refine ⟨a.1, by omega, fun j j1 j2 => ?_⟩
      by_cases hj : j = addr / 16
      · have := a.2.2
        rw [show addr + 0 = addr by omega] at this
        rw [hj]; exact this
      · have := (h (16 * j - addr) (by omega) (by omega)).2.2
        rw [show (addr + (16 * j - addr)) / 16 = j by omega] at this
        exact this
    · rintro ⟨a1, a2, a3⟩ u u1 u2
      exact ⟨a1, by omega, a3 _ (by omega) (by omega)⟩
  rw [bF h0, cond_false]
  by_cases h1 : addr < 0
  · have hb : b = false := by
      cases hb : b with
      | false => rfl
      | true => have := (hkey.1 (e2.1 hb)).1; omega
    subst hb
    rw [dT h1]
    simp only [cond_true, Option.bind_some]
    exact ⟨false, rfl, e1, fun h => (by cases h)⟩
  rw [dF h1, cond_false, Option.bind_some, wi64 (x := 1024 - n) (by omega) (by omega)]
  by_cases h2 : addr > 1024 - n
  · have hb : b = false := by
      cases hb : b with
      | false => rfl
      | true => have := (hkey.1 (e2.1 hb)).2.1; omega
    subst hb
    rw [dT h2, cond_true]
    exact ⟨false, rfl, e1, fun h => (by cases h)⟩
  rw [dF h2, cond_false]
  have hsp := h.sp
  have hix := hsp.ix_some hi
  have hlast : wi .i64 ((wi .i64 ((wi .i64 (addr + n)) - 1)).tdiv 16) = (addr + n - 1) / 16 := by
    rw [wi64 (x := addr + n) (by omega) (by omega), wi64 (x := addr + n - 1) (by omega) (by omega), tdiv16 (by omega), wi64 (by omega) (by omega)]
  have hk0 : wi .i64 (addr.tdiv 16) = addr / 16 := by rw [tdiv16 (by omega), wi64 (by omega) (by omega)]
  obtain ⟨b', f1, f2⟩ := may_loop hP N d row (st := st) (want := want) hi hix.2.2.2 hlast (by omega) ((addr + n - 1) / 16 - addr / 16 + 1).toNat N (addr / 16) (by omega) (by omega) (by omega)
  rw [hk0, f1]
  have hbb : b' = b := by
    apply Bool.eq_iff_iff.2
    rw [f2, e2, hkey]
    exact ⟨fun h => ⟨by omega, by omega, h⟩, fun h => h.2.2⟩
  subst hbb
  refine ⟨b', rfl, e1, fun hb _ => ⟨by omega, by omega, fun j j1 j2 => ?_⟩⟩
  have := f2.1 hb j j1 j2
  unfold okP at this
  cases he : mlI (ent smap mp s) j with
  | none => rw [he] at this; cases this
  | some e => rfl
end
end sp
end Go.Proofs.Ytmjkechkdfobgaa.pv
namespace Go.Proofs.Ytmjkechkdfobgaa.pv
set_option linter.all false
open Go.RowKit
namespace sp
section
variable {F S : Int} {smap : SM} {π : Nat → Int} {L : List Nat} {mp : MP} {R : Ref}
variable {P : Program} (hP : P = Try.prog)
include hP
theorem fetch_loop (N d d' : Nat) (hN : 1001 ≤ N) {s addr n : Int} {i : Nat} (hi : ix smap s = some i) (h0 : 0 ≤ addr) (h1024 : addr + n ≤ 1024) (hn : n ≤ 256) (hall : ∀ j : Int, addr / 16 ≤ j → j ≤ (addr + n - 1) / 16 → (mlI (ent smap mp s) j).isSome = true) : ∀ (m f g t : Nat) (st : St) (pg : List Pg) (out : List Int), Rel F S st L smap mp pg R π → (t : Int) + m = n → m < f → m < g → st.2.2.1 + m ≤ 1000000 → out.length ≤ t →
    ∃ (st' : St) (pg' : List Pg) (out' : List Int), Gm_fetch_L3 P N (d + 2) f s addr n (addr + t) st (L.map some) smap pg mp out = some (out', st', pg', ()) ∧ Gr_Read_L9 P N d' g s addr n (t : Int) R out = some ((out', 0, ()), ()) ∧
      Rel F S st' L smap mp pg' R π ∧ hereC pg L ≤ hereC pg' L ∧ st'.2.2.1 = st.2.2.1 + m ∧ out'.length = out.length + m
  | m, 0, _, _, _, _, _, _, _, h, _, _, _ => by omega
  | m, _, 0, _, _, _, _, _, _, _, h, _, _ => by omega
  | 0, f + 1, g + 1, t, st, pg, out, hR, ht, _, _, _, _ => by
    rw [Gm_fetch_L3_eq hP, Gr_Read_L9_eq hP, wi64 (x := addr + n) (by omega) (by omega), dF (by omega), cond_false, dF (by omega), cond_false]
    exact ⟨st, pg, out, rfl, rfl, hR, Nat.le_refl _, by omega, rfl⟩
  | m + 1, f + 1, g + 1, t, st, pg, out, hR, ht, hf, hg, hclk, hout => by
    have hsp := hR.sp
    have hix := hsp.ix_some hi
    have hin : inb s 17 = true := inb_true (by omega) (by omega)
    have hmg : (mlI smap s).getD none = some i := hi
    have hsE : ((⟨s.toNat, inb_lt hin⟩ : Fin 17).1 : Int) = s := Int.toNat_of_nonneg (by omega)
    have hkk : inb ((addr + (t : Int)) / 16) 64 = true := inb_true (by omega) (by omega)
    have hkE : ((⟨((addr + (t : Int)) / 16).toNat, inb_lt hkk⟩ : Fin 64).1 : Int) = (addr + t) / 16 := Int.toNat_of_nonneg (by omega)
    have hjj : inb ((addr + (t : Int)) % 16) 16 = true := inb_true (by omega) (by omega)
    have hw : wi .i64 (addr + (t : Int)) = addr + t := wi64 (by omega) (by omega)
    have hq : wi .i64 ((addr + (t : Int)).tdiv 16) = (addr + t) / 16 := by rw [tdiv16 (by omega), wi64 (by omega) (by omega)]
    have hm : (addr + (t : Int)).tmod 16 = (addr + t) % 16 := tmod16 (by omega)
    obtain ⟨en, he⟩ := Option.isSome_iff_exists.1 (hall ((addr + (t : Int)) / 16) (by omega) (by omega))
    obtain ⟨_, _, ⟨p, hp, hpL⟩, _⟩ := hR.ents _ _ _ he
    have hcell := hR.cells ⟨s.toNat, inb_lt hin⟩ ⟨((addr + (t : Int)) / 16).toNat, inb_lt hkk⟩
    rw [hsE, hkE, he] at hcell
    have hcell : (gA (gA R.2.2.2.1 ⟨s.toNat, inb_lt hin⟩) ⟨((addr + (t : Int)) / 16).toNat, inb_lt hkk⟩).2.2.1 = dat pg p := by
      show (cl R _ _).2.2.1 = _
      rw [hcell]
      simp [cellOf, hp]
    obtain ⟨pg1, e1, A, e2, e3⟩ := hR.ask hP hN (d := d) hpL (by omega)
    have hpl : p < pg1.length := e3.lt p hpL
    have hdat : (pg1[p]).1 = dat pg p := by rw [← dat_at hpl, A.dat]
    have hlen : ∀ x : Int, lenOk (out.length + ([x] : List Int).length) 1 = true := fun x => lenOk_true (by rw [List.length_singleton]; omega) (by omega)
    obtain ⟨st', pg', out', a1, a2, a3, a4, a5, a6⟩ := fetch_loop N d d' hN hi h0 h1024 hn hall m f g (t + 1) _ pg1 (out ++ [gA (dat pg p) ⟨((addr + (t : Int)) % 16).toNat, inb_lt hjj⟩]) e3 (by omega) (by omega) (by omega) (by show st.2.2.1 + 1 + m ≤ 1000000; omega) (by rw [List.length_append, List.length_singleton]; omega)
    rw [Gm_fetch_L3_eq hP, Gr_Read_L9_eq hP, wi64 (x := addr + n) (by omega) (by omega), dT (p := addr + (t : Int) < addr + n) (by omega), cond_true, dT (p := (t : Int) < n) (by omega), cond_true, hmg, oc_some, ent_at hi hix.2.2.2, Option.bind_some, Gm_fetch_J6_eq hP]
    simp only [hw, hq, hm]
    rw [dif_pos hin, dif_pos hkk, dif_pos hjj, he, Option.getD_some, hp, e1, Option.bind_some, Option.bind_some, dif_pos hjj, lget_lt hpl, Option.bind_some, hdat, hcell, hlen, cond_true, cond_true, wi_nat (by omega), wi64 (x := addr + (t : Int) + 1) (by omega) (by omega), show addr + (t : Int) + 1 = addr + ((t + 1 : Nat) : Int) by omega]
    refine ⟨st', pg', out', a1, a2, a3, by omega, by rw [a5]; show st.2.2.1 + 1 + (m : Int) = _; omega, by rw [a6, List.length_append, List.length_singleton]; omega⟩
end
section
variable {F S : Int} {st : St} {smap : SM} {π : Nat → Int} {L : List Nat} {mp : MP} {pg : List Pg} {R : Ref}
variable {P : Program} (hP : P = Try.prog)
include hP
theorem fetch_eq (N d d' : Nat) (hN : 1001 ≤ N) (h : Rel F S st L smap mp pg R π) (hclk : st.2.2.1 ≤ 900000) {s addr n : Int} {i : Nat} (hi : ix smap s = some i) (hn : 0 ≤ n ∧ n ≤ 256) (hall : 0 < n → 0 ≤ addr ∧ addr + n ≤ 1024 ∧ ∀ j : Int, addr / 16 ≤ j → j ≤ (addr + n - 1) / 16 → (mlI (ent smap mp s) j).isSome = true) (ha : -9223372036854775808 ≤ addr ∧ addr ≤ 9223372036854775807) :
    ∃ (st' : St) (pg' : List Pg) (out' : List Int), Gm_fetch P N (d + 3) s addr n st (L.map some) smap pg mp = some (out', st', pg', ()) ∧ Gr_Read_L9 P N d' N s addr n 0 R [] = some ((out', 0, ()), ()) ∧
      Rel F S st' L smap mp pg' R π ∧ hereC pg L ≤ hereC pg' L ∧ st'.2.2.1 ≤ st.2.2.1 + 256 ∧ (out'.length : Int) = n := by
  rw [Gm_fetch_eq hP]
  by_cases h0 : n = 0
  · subst h0
    obtain ⟨N, rfl⟩ : ∃ M, N = M + 1 := ⟨N - 1, by omega⟩
    rw [Gm_fetch_L3_eq hP, Gr_Read_L9_eq hP, show addr + 0 = addr by omega, wi64 ha.1 ha.2, dF (by omega), cond_false, dF (by omega), cond_false]
    exact ⟨st, pg, [], rfl, rfl, h, Nat.le_refl _, by omega, rfl⟩
  · have h1 := hall (by omega)
    obtain ⟨st', pg', out', a1, a2, a3, a4, a5, a6⟩ := fetch_loop hP N d d' hN hi h1.1 h1.2.1 hn.2 h1.2.2 n.toNat N N 0 st pg [] h (by omega) (by omega) (by omega) (by omega) (Nat.le_refl _)
    rw [show addr + ((0 : Nat) : Int) = addr by omega] at a1
    exact ⟨st', pg', out', a1, a2, a3, a4, by omega, by rw [a6, List.length_nil]; omega⟩
omit hP in
theorem Fr.ask {F : Int} {L : List Nat} {pg pg' : List Pg} (h : hereC pg L ≤ hereC pg' L) : Fr F pg L pg' L := fun _ => by omega
theorem read_eq {N d d' : Nat} (hN : 1001 ≤ N) (h : Rel F S st L smap mp pg R π) (hclk : st.2.2.1 ≤ 900000) (s addr n : Int) (ha : -9223372036854775808 ≤ addr ∧ addr ≤ 9223372036854775807) :
    ∃ (o : List Int) (e : Int) (st' : St) (pg' : List Pg), Gm_Read P N (d + 4) s addr n st (L.map some) smap pg mp = some ((o, e, ()), st', pg', ()) ∧ Gr_Read P N (d' + 3) s addr n 1 R = some ((o, e, ()), ()) ∧
      Rel F S st' L smap mp pg' R π ∧ Fr F pg L pg' L ∧ st'.2.2.1 ≤ st.2.2.1 + 256 ∧ o.length ≤ 256 := by
  rw [Gm_Read_eq hP, Gr_Read_eq hP, there_eq hP, h.isS, Option.bind_some]
  have e0 : ((mlI smap s).getD none).isNone = !(ix smap s).isSome := by unfold ix; cases ((mlI smap s).getD none) <;> rfl
  rw [e0]
  cases hx : ix smap s with
  | none =>
    simp only [Option.isSome_none, Bool.not_false, cond_true]
    exact ⟨[], 4, st, pg, rfl, rfl, h, Fr.refl _ _ _, by omega, by simp⟩
  | some i =>
    simp only [Option.isSome_some, Bool.not_true, cond_false]
    rw [in_eq hP, Option.bind_some]
    by_cases hn : 0 ≤ n ∧ n ≤ 256
    · rw [dF (by omega), cond_false, dF (by omega), Option.bind_some, cond_false, dT hn]
      simp only [Bool.not_true, cond_false]
      rw [in_eq hP, Option.bind_some, dT (by omega)]
      simp only [Bool.not_true, Option.bind_some, cond_false]
      obtain ⟨b, b1, b2, b3⟩ := may_eq hP hN (d := d + 2) (d' := d') h (L.map some) hx addr n 1 hn (by omega)
      rw [b1, b2, Option.bind_some, Option.bind_some]
      cases b with
      | false => exact ⟨[], 11, st, pg, rfl, rfl, h, Fr.refl _ _ _, by omega, by simp⟩
      | true =>
        obtain ⟨st', pg', o, a1, a2, a3, a4, a5, a6⟩ := fetch_eq hP N d (d' + 2) hN h hclk hx hn (b3 rfl) ha
        simp only [Bool.not_true, cond_false]
        rw [a1, Option.bind_some, a2]
        exact ⟨o, 0, st', pg', rfl, rfl, a3, Fr.ask a4, a5, by omega⟩
    · have hb : (bif decide (n < 0) then some true else some (decide (n > 256))) = some true := by
        by_cases h1 : n < 0
        · rw [dT h1]; rfl
        · rw [dF h1, cond_false, dT (by omega)]
      rw [hb, Option.bind_some, cond_true, dF hn]
      simp only [Bool.not_false, cond_true, Option.bind_some]
      exact ⟨[], 1, st, pg, rfl, rfl, h, Fr.refl _ _ _, by omega, by simp⟩
/-- one byte -/
theorem load_eq {N d d' : Nat} (hN : 1001 ≤ N) (h : Rel F S st L smap mp pg R π) (hclk : st.2.2.1 ≤ 900000) (s addr want : Int) (ha : 0 ≤ addr ∧ addr ≤ 4294967295) :
    ∃ (x : Int) (o : List Int) (e : Int) (st' : St) (pg' : List Pg), Gm_Load P N (d + 4) s addr want st (L.map some) smap pg mp = some ((x, e, ()), st', pg', ()) ∧ Gr_Read P N (d' + 3) s (wi .i64 addr) 1 want R = some ((o, e, ()), ()) ∧
      Rel F S st' L smap mp pg' R π ∧ Fr F pg L pg' L ∧ st'.2.2.1 ≤ st.2.2.1 + 256 ∧ (e = 0 → lget o 0 = some x) ∧ (e ≠ 0 → x = 0) := by
  rw [Gm_Load_eq hP, Gr_Read_eq hP, there_eq hP, h.isS, Option.bind_some, wi64 (x := addr) (by omega) (by omega)]
  have e0 : ((mlI smap s).getD none).isNone = !(ix smap s).isSome := by unfold ix; cases ((mlI smap s).getD none) <;> rfl
  rw [e0]
  cases hx : ix smap s with
  | none =>
    simp only [Option.isSome_none, Bool.not_false, cond_true]
    exact ⟨0, [], 4, st, pg, rfl, rfl, h, Fr.refl _ _ _, by omega, by omega, fun _ => rfl⟩
  | some i =>
    simp only [Option.isSome_some, Bool.not_true, cond_false]
    rw [in_eq hP, Option.bind_some, dT (p := (0 : Int) ≤ 1 ∧ (1 : Int) ≤ 256) (by omega)]
    simp only [Bool.not_true, cond_false]
    rw [in_eq hP, Option.bind_some, Option.bind_some]
    by_cases hw : 1 ≤ want ∧ want ≤ 7
    · rw [dF (by omega), cond_false, dF (by omega), Option.bind_some, cond_false, dT hw]
      simp only [Bool.not_true, cond_false]
      obtain ⟨b, b1, b2, b3⟩ := may_eq hP hN (d := d + 2) (d' := d') h (L.map some) hx addr 1 want (by omega) hw
      rw [b1, b2, Option.bind_some, Option.bind_some]
      cases b with
      | false => exact ⟨0, [], 11, st, pg, rfl, rfl, h, Fr.refl _ _ _, by omega, by omega, fun _ => rfl⟩
      | true =>
        obtain ⟨st', pg', o, a1, a2, a3, a4, a5, a6⟩ := fetch_eq hP N d (d' + 2) hN h hclk hx (n := 1) (by omega) (b3 rfl) (by omega)
        simp only [Bool.not_true, cond_false]
        rw [a1, Option.bind_some, a2]
        have h1 : 0 < o.length := by omega
        rw [show ((0 : Int).toNat) = 0 from rfl, lget_lt h1, Option.bind_some]
        exact ⟨o[0], o, 0, st', pg', rfl, rfl, a3, Fr.ask a4, a5, fun _ => lget_lt h1, by omega⟩
    · have hb : (bif decide (want < 1) then some true else some (decide (want > 7))) = some true := by
        by_cases h1 : want < 1
        · rw [dT h1]; rfl
        · rw [dF h1, cond_false, dT (by omega)]
      rw [hb, Option.bind_some, cond_true, dF hw]
      simp only [Bool.not_false, cond_true]
      exact ⟨0, [], 1, st, pg, rfl, rfl, h, Fr.refl _ _ _, by omega, by omega, fun _ => rfl⟩
end
end sp
end Go.Proofs.Ytmjkechkdfobgaa.pv
namespace Go.Proofs.Ytmjkechkdfobgaa.pv
set_option linter.all false
open Go.RowKit
namespace sp
/-- others have a page, too -/
def shK (smap : SM) (mp : MP) (pg : List Pg) (s k : Int) : Bool := match mlI (ent smap mp s) k with
  | some e => (match e.1 with
    | some p => decide (1 < usr pg p)
    | none => false)
  | none => false
def shN (f : Int → Bool) : Int → Nat → Nat
  | _, 0 => 0
  | k, m + 1 => (f k).toNat + shN f (k + 1) m
theorem shN_le (f : Int → Bool) : ∀ (m : Nat) (k : Int), shN f k m ≤ m
  | 0, _ => Nat.le_refl _
  | m + 1, k => by
    have := shN_le f m (k + 1)
    have := Bool.toNat_le (f k)
    unfold shN
    omega
theorem shN_congr {f g : Int → Bool} : ∀ (m : Nat) (k : Int), (∀ j, k ≤ j → f j = g j) → shN f k m = shN g k m
  | 0, _, _ => rfl
  | m + 1, k, h => by
    unfold shN
    rw [h k (by omega), shN_congr m (k + 1) fun j hj => h j (by omega)]
theorem shK_at {smap : SM} {mp : MP} {pg : List Pg} {s k : Int} {e : Ent} {p : Nat} (he : mlI (ent smap mp s) k = some e) (hp : e.1 = some p) : shK smap mp pg s k = decide (1 < usr pg p) := by
  unfold shK
  rw [he]
  simp only
  rw [hp]
section
variable {F S : Int} {st : St} {smap : SM} {π : Nat → Int} {L : List Nat} {mp : MP} {pg : List Pg} {R : Ref}
variable {P : Program} (hP : P = Try.prog)
include hP
theorem shared_loop (N d : Nat) (h : Rel F S st L smap mp pg R π) {s addr n last : Int} {i : Nat} (hi : ix smap s = some i) (h0 : 0 < n) (hl : wi .i64 ((wi .i64 ((wi .i64 (addr + n)) - 1)).tdiv 16) = last) (hlt : last ≤ 64) : ∀ (m f c : Nat) (k : Int), 0 ≤ k → k + m = last + 1 → m < f → c + m ≤ 1000 → (∀ j : Int, k ≤ j → j ≤ last → (mlI (ent smap mp s) j).isSome = true) →
    Gm_shared_L3 P N d f s addr n (c : Int) k st (L.map some) smap pg mp = some (((c + shN (shK smap mp pg s) k m : Nat) : Int), ())
  | m, 0, _, _, _, _, h, _, _ => by omega
  | 0, f + 1, c, k, hk0, hk, _, _, _ => by
    rw [Gm_shared_L3_eq hP, dT h0, cond_true, Option.bind_some, hl, dF (by omega), cond_false]
    rfl
  | m + 1, f + 1, c, k, hk0, hk, hf, hc, hall => by
    have hsp := h.sp
    have hix := hsp.ix_some hi
    have hmg : (mlI smap s).getD none = some i := hi
    obtain ⟨en, he⟩ := Option.isSome_iff_exists.1 (hall k (by omega) (by omega))
    obtain ⟨_, _, ⟨p, hp, hpL⟩, _⟩ := h.ents _ _ _ he
    have hpl := h.lt p hpL
    have ih := fun c hc => shared_loop N d h (addr := addr) hi h0 hl hlt m f c (k + 1) (by omega) (by omega) (by omega) hc fun j a b => hall j (by omega) b
    have hs := shK_at (pg := pg) he hp
    rw [Gm_shared_L3_eq hP, dT h0, cond_true, Option.bind_some, hl, dT (by omega), cond_true, hmg, oc_some, ent_at hi hix.2.2.2, Option.bind_some, he, Option.getD_some, hp, Option.bind_some, lget_lt hpl, Option.bind_some, wi64 (x := k + 1) (by omega) (by omega)]
    rw [usr_at hpl] at hs
    unfold shN
    rw [hs]
    show (bif decide ((pg[p]).2.1 > 1) then _ else _) = _
    by_cases hu : 1 < (pg[p]).2.1
    · have e1 : decide ((pg[p]).2.1 > 1) = true := dT hu
      rw [e1, cond_true, wi_nat (by omega), ih (c + 1) (by omega), Bool.toNat_true, show c + 1 + shN (shK smap mp pg s) (k + 1) m = c + (1 + shN (shK smap mp pg s) (k + 1) m) by omega]
    · have e1 : decide ((pg[p]).2.1 > 1) = false := dF hu
      rw [e1, cond_false, ih c (by omega), Bool.toNat_false, Nat.zero_add]
/-- a byte set in a page of one's own -/
theorem lay_put {N d : Nat} (hN : 1001 ≤ N) (h : Rel F S st L smap mp pg R π) {s : Fin 17} {k : Fin 64} {e0 : Ent} (he0 : mlI (ent smap mp s.1) k.1 = some e0) {p : Nat} (hp0 : e0.1 = some p) (hu : usr pg p = 1) (hc : st.2.2.1 ≤ 1000000) (j : Fin 16) (b : Int) :
    ∃ (pg1 : List Pg) (hpl : p < pg1.length), Gm_ask P N (d + 2) (some p) st (L.map some) smap pg = some ((), u2 st (st.2.2.1 + 1), pg1, ()) ∧
      Rel F S (u2 st (st.2.2.1 + 1)) L smap mp (lset pg1 p (u0 (pg1[p]) (sA (pg1[p]).1 j b))) (u3 R (setA R.2.2.2.1 s k (u2 (cl R s k) (sA (cl R s k).2.2.1 j b)))) π ∧
      (∀ q, usr (lset pg1 p (u0 (pg1[p]) (sA (pg1[p]).1 j b))) q = usr pg q) ∧ hereC pg L ≤ hereC (lset pg1 p (u0 (pg1[p]) (sA (pg1[p]).1 j b))) L := by
  obtain ⟨_, _, ⟨p', hp', hpL⟩, _⟩ := h.ents _ _ _ he0
  rw [hp0] at hp'
  cases hp'
  obtain ⟨pg1, e1, A, e2, e3⟩ := h.ask hP hN (d := d) hpL hc
  have hpl : p < pg1.length := e3.lt p hpL
  have hcell : (cl R s k).2.2.1 = (pg1[p]).1 := by
    rw [h.cells, he0, ← dat_at hpl, A.dat]
    simp [cellOf, hp0]
  have hus : ∀ q, usr (lset pg1 p (u0 (pg1[p]) (sA (pg1[p]).1 j b))) q = usr pg1 q := fun q => by
    rw [usr_lset]
    split
    · rename_i e
      rw [← e.1, usr_at hpl]
      rfl
    · rfl
  have hhr : ∀ q, hr (lset pg1 p (u0 (pg1[p]) (sA (pg1[p]).1 j b))) q = hr pg1 q := fun q => by
    rw [hr_lset]
    split
    · rename_i e
      rw [← e.1, hr_at hpl]
      rfl
    · rfl
  have hC : hereC (lset pg1 p (u0 (pg1[p]) (sA (pg1[p]).1 j b))) L = hereC pg1 L := cnt_same fun q _ => (hhr q).symm
  refine ⟨pg1, hpl, e1, ?_, fun q => by rw [hus, A.usr], by rw [hC]; exact e2⟩
  refine e3.wr he0 hp0 (by rw [A.usr]; exact hu) (D := sA (pg1[p]).1 j b) (lset_len ..) hus (fun q => ?_) hhr rfl rfl rfl (fun a c => ?_)
  · rw [dat_lset]
    by_cases e : q = p
    · rw [if_pos ⟨e.symm, hpl⟩, if_pos e]
      rfl
    · rw [if_neg (fun h => e h.1.symm), if_neg e]
  · rw [cl_setA, hcell]
end
end sp
end Go.Proofs.Ytmjkechkdfobgaa.pv
namespace Go.Proofs.Ytmjkechkdfobgaa.pv
set_option linter.all false
open Go.RowKit
namespace sp
/-- how many pages are still to be copied -/
def rm (f : Int → Bool) (addr n : Int) (t : Nat) : Nat := if (t : Int) = n then 0 else shN f ((addr + t) / 16) ((addr + n - 1) / 16 + 1 - (addr + t) / 16).toNat
theorem rm_step {f f' : Int → Bool} {addr n : Int} {t : Nat} (ht : (t : Int) < n) (hk : f' ((addr + t) / 16) = false) (hs : ∀ j, j ≠ (addr + t) / 16 → f' j = f j) : rm f' addr n (t + 1) + (f ((addr + t) / 16)).toNat = rm f addr n t := by
  obtain ⟨M, hM⟩ : ∃ M, ((addr + n - 1) / 16 + 1 - (addr + t) / 16).toNat = M + 1 := ⟨((addr + n - 1) / 16 + 1 - (addr + t) / 16).toNat - 1, by omega⟩
  have hr : rm f addr n t = (f ((addr + t) / 16)).toNat + shN f ((addr + t) / 16 + 1) M := by
    unfold rm
    rw [if_neg (by omega), hM]
    rfl
  have hc : shN f' ((addr + t) / 16 + 1) M = shN f ((addr + t) / 16 + 1) M := shN_congr M _ fun j hj => hs j (by omega)
  rw [hr, ← hc]
  unfold rm
  by_cases h1 : ((t + 1 : Nat) : Int) = n
  · have hM0 : M = 0 := by omega
    subst hM0
    rw [if_pos h1]
    show 0 + _ = _ + 0
    omega
  · rw [if_neg h1]
    by_cases h2 : (addr + ((t + 1 : Nat) : Int)) / 16 = (addr + t) / 16
    · rw [h2, hM]
      show (f' ((addr + t) / 16)).toNat + shN f' ((addr + t) / 16 + 1) M + _ = _
      rw [hk, Bool.toNat_false]
      omega
    · have h3 : (addr + ((t + 1 : Nat) : Int)) / 16 = (addr + t) / 16 + 1 := by omega
      rw [h3, show ((addr + n - 1) / 16 + 1 - ((addr + t) / 16 + 1)).toNat = M by omega]
      omega
section
variable {F S : Int} {smap : SM}
variable {P : Program} (hP : P = Try.prog)
include hP
theorem oth_z {st : St} {L : List Nat} {mp : MP} {pg : List Pg} {R : Ref} {π : Nat → Int} {Z : Int} {N d : Nat} (hN : 1001 ≤ N) (h : Rel F S st L smap mp pg (u0 R Z) π) (i : Fin 17) (k : Fin 64) {e : Ent} {p : Nat} (he : mlI (ent smap mp i.1) k.1 = some e) (hp : e.1 = some p) :
    Gr_Others P N (d + 1) (i.1 : Int) (k.1 : Int) R = some (decide (1 < usr pg p), ()) :=
  ((others_eq hP hN (d := d) i.1 k.1 i.2 k.2 R).trans (others_eq hP hN (d := d) i.1 k.1 i.2 k.2 (u0 R Z)).symm).trans (h.others hP hN i k he hp)
theorem lay_loop (N d d' : Nat) (hN : 1001 ≤ N) {s addr n : Int} {i : Nat} (hi : ix smap s = some i) (h0 : 0 ≤ addr) (h1024 : addr + n ≤ 1024) (hn : n ≤ 256) (data : List Int) (hdl : (data.length : Int) = n) (W : Ref) (Z : Int) : ∀ (m f g t : Nat) (st : St) (L : List Nat) (mp : MP) (pg : List Pg) (R : Ref) (π : Nat → Int), Rel F S st L smap mp pg (u0 R Z) π → (t : Int) + m = n → m < f → m < g →
    (∀ j : Int, addr / 16 ≤ j → j ≤ (addr + n - 1) / 16 → (mlI (ent smap mp s) j).isSome = true) → st.2.2.1 + 2 * m ≤ 1000000 → R.2.1 + m ≤ 1000000 → ((L.length + rm (shK smap mp pg s) addr n t : Nat) : Int) ≤ F + S →
    ∃ (st' : St) (L' : List Nat) (mp' : MP) (pg' : List Pg) (R' : Ref) (π' : Nat → Int), Gm_lay_L4 P N (d + 3) f s addr data n (t : Int) st smap pg mp (L.map some) = some (0, st', pg', mp', L'.map some, ()) ∧
      Gr_Write_L9 P N (d' + 1) g s addr data n (t : Int) R W = (bif decide ((L'.length : Int) > R.1) then some (6, W, ()) else some (0, R', ())) ∧
      Rel F S st' L' smap mp' pg' (u0 R' Z) π' ∧ R'.1 = R.1 ∧ L'.length = L.length + rm (shK smap mp pg s) addr n t ∧ min F ((hereC pg L : Int) + rm (shK smap mp pg s) addr n t) ≤ hereC pg' L' ∧ st'.2.2.1 ≤ st.2.2.1 + 2 * m ∧ R'.2.1 ≤ R.2.1 + m
  | m, 0, _, _, _, _, _, _, _, _, _, _, h, _, _, _, _, _ => by omega
  | m, _, 0, _, _, _, _, _, _, _, _, _, _, h, _, _, _, _ => by omega
  | 0, f + 1, g + 1, t, st, L, mp, pg, R, π, hR, ht, _, _, _, _, _, _ => by
    have hl : Gr_Live P N (d' + 1) R = some ((L.length : Int), ()) := by
      rw [live_eq hP hN R (L.map π) hR.parts_nodup hR.parts_iff, List.length_map]
    have hrm : rm (shK smap mp pg s) addr n t = 0 := by
      unfold rm
      rw [if_pos (by omega)]
    rw [Gm_lay_L4_eq hP, Gr_Write_L9_eq hP, dF (by omega), cond_false, cond_false, hl, Option.bind_some, hrm]
    exact ⟨st, L, mp, pg, R, π, rfl, rfl, hR, rfl, rfl, by omega, by omega, by omega⟩
  | m + 1, f + 1, g + 1, t, st, L, mp, pg, R, π, hR, ht, hf, hg, hall, hclk, hpt, hroom => by
    have hsp := hR.sp
    have hix := hsp.ix_some hi
    have hin : inb s 17 = true := inb_true (by omega) (by omega)
    have hmg : (mlI smap s).getD none = some i := hi
    have hsE : ((⟨s.toNat, inb_lt hin⟩ : Fin 17).1 : Int) = s := Int.toNat_of_nonneg (by omega)
    have hkk : inb ((addr + (t : Int)) / 16) 64 = true := inb_true (by omega) (by omega)
    have hkE : ((⟨((addr + (t : Int)) / 16).toNat, inb_lt hkk⟩ : Fin 64).1 : Int) = (addr + t) / 16 := Int.toNat_of_nonneg (by omega)
    have hjj : inb ((addr + (t : Int)) % 16) 16 = true := inb_true (by omega) (by omega)
    have hw : wi .i64 (addr + (t : Int)) = addr + t := wi64 (by omega) (by omega)
    have hq : wi .i64 ((addr + (t : Int)).tdiv 16) = (addr + t) / 16 := by rw [tdiv16 (by omega), wi64 (by omega) (by omega)]
    have hm : (addr + (t : Int)).tmod 16 = (addr + t) % 16 := tmod16 (by omega)
    have hpn : 0 ≤ R.2.1 := hR.pn
    have hwp : wi .i64 (R.2.1 + 1) = R.2.1 + 1 := wi64 (by omega) (by omega)
    have htl : t < data.length := by omega
    obtain ⟨en, he⟩ := Option.isSome_iff_exists.1 (hall ((addr + (t : Int)) / 16) (by omega) (by omega))
    obtain ⟨_, _, ⟨p, hp, hpL⟩, hrr⟩ := hR.ents _ _ _ he
    have hpl : p < pg.length := hR.lt p hpL
    have hup := hR.us p hpL
    have hoth := oth_z hP hN (d := d') hR ⟨s.toNat, inb_lt hin⟩ ⟨((addr + (t : Int)) / 16).toNat, inb_lt hkk⟩ (by rw [hsE, hkE]; exact he) hp
    rw [hsE, hkE] at hoth
    have hcell := hR.cells ⟨s.toNat, inb_lt hin⟩ ⟨((addr + (t : Int)) / 16).toNat, inb_lt hkk⟩
    rw [hsE, hkE, he] at hcell
    have hcell : gA (gA R.2.2.2.1 ⟨s.toNat, inb_lt hin⟩) ⟨((addr + (t : Int)) / 16).toNat, inb_lt hkk⟩ = (true, en.2.1, dat pg p, π p, ()) := by
      show cl (u0 R Z) _ _ = _
      rw [hcell]
      simp [cellOf, hp]
    have hsk := shK_at (pg := pg) he hp
    by_cases hu : 1 < usr pg p
    · have hu1 : usr pg p ≠ 1 := by omega
      have hsk1 : (shK smap mp pg s ((addr + t) / 16)).toNat = 1 := by rw [hsk, dT hu]; rfl
      have hrmp : 1 ≤ rm (shK smap mp pg s) addr n t := by
        unfold rm
        rw [if_neg (by omega)]
        obtain ⟨M, hM⟩ : ∃ M, ((addr + n - 1) / 16 + 1 - (addr + t) / 16).toNat = M + 1 := ⟨((addr + n - 1) / 16 + 1 - (addr + t) / 16).toNat - 1, by omega⟩
        rw [hM]
        unfold shN
        omega
      have hupg : (pg[p]).2.1 = usr pg p := (usr_at hpl).symm
      have hdpg : (pg[p]).1 = dat pg p := (dat_at hpl).symm
      have hcn : usr pg p ≤ 1088 := by
        have h8 : cnt (u0 R Z) (π p) ≤ 17 * 64 := by
          unfold cnt cntD
          have : ∀ l : List (Fin 17), (l.map fun i => rowD (π p) (gA (u0 R Z).2.2.2.1 i) 0).sum ≤ l.length * 64 := by
            intro l
            induction l with
            | nil => simp
            | cons a l ih =>
              have := rowD_le (π p) (gA (u0 R Z).2.2.2.1 a) 0
              rw [List.map_cons, List.sum_cons, List.length_cons]
              omega
          have := this ((List.finRange 17).drop 0)
          simpa using this
        omega
      have hwu : wi .i64 ((pg[p]).2.1 - 1) = usr pg p - 1 := by rw [hupg]; exact wi64 (by omega) (by omega)
      obtain ⟨pg2, e1, e2, e3, e4, e5⟩ := hR.copy hP hN (d := d) (s := ⟨s.toNat, inb_lt hin⟩) (k := ⟨((addr + (t : Int)) / 16).toNat, inb_lt hkk⟩) (i := i) (by rw [hsE]; exact hi) (by rw [hsE, hkE]; exact he) hp hu1 (pg1 := lset pg p (u1 (pg[p]) (usr pg p - 1))) (lset_len ..)
        (fun j => by
          rw [usr_lset]
          by_cases e : j = p
          · rw [if_pos ⟨e.symm, hpl⟩, if_pos e]; rfl
          · rw [if_neg (fun h => e h.1.symm), if_neg e])
        (fun j => by
          rw [dat_lset]
          split
          · rename_i e; rw [← e.1, dat_at hpl]; rfl
          · rfl)
        (fun j => by
          rw [hr_lset]
          split
          · rename_i e; rw [← e.1, hr_at hpl]; rfl
          · rfl) (by omega) (by omega) (dat pg p)
        (R' := u0 (u3 (u1 R (R.2.1 + 1)) (setA R.2.2.2.1 ⟨s.toNat, inb_lt hin⟩ ⟨((addr + (t : Int)) / 16).toNat, inb_lt hkk⟩ (true, en.2.1, dat pg p, R.2.1 + 1, ()))) Z) rfl rfl rfl (fun i' k' => gA_setA _ _ i' _ k' _)
      rw [hsE, hkE] at e5
      generalize hR1 : u3 (u1 R (R.2.1 + 1)) (setA R.2.2.2.1 ⟨s.toNat, inb_lt hin⟩ ⟨((addr + (t : Int)) / 16).toNat, inb_lt hkk⟩ (true, en.2.1, dat pg p, R.2.1 + 1, ())) = R1 at e5
      have hent2 : ∀ k', mlI (ent smap (lset mp i (mpI (ent smap mp s) ((addr + t) / 16) (some pg.length, en.2.1, ()))) s) k' = if (addr + t) / 16 = k' then some (some pg.length, en.2.1, ()) else mlI (ent smap mp s) k' := fun k' => by
        rw [hsp.ent_set hi, if_pos rfl, mlI_put]
      obtain ⟨pg3, hpl3, f1, f2, f3, f4⟩ := lay_put hP hN (d := d + 1) e5 (s := ⟨s.toNat, inb_lt hin⟩) (k := ⟨((addr + (t : Int)) / 16).toNat, inb_lt hkk⟩) (e0 := (some pg.length, en.2.1, ())) (by rw [hsE, hkE, hent2, if_pos rfl]) (p := pg.length) rfl (by rw [e3, if_pos rfl]) (by show st.2.2.1 + 1 ≤ 1000000; omega) ⟨((addr + (t : Int)) % 16).toNat, inb_lt hjj⟩ (data[t])
      have hsame : ∀ j, j ≠ (addr + t) / 16 → shK smap (lset mp i (mpI (ent smap mp s) ((addr + t) / 16) (some pg.length, en.2.1, ()))) (lset pg3 pg.length (u0 (pg3[pg.length]) (sA (pg3[pg.length]).1 ⟨((addr + (t : Int)) % 16).toNat, inb_lt hjj⟩ (data[t])))) s j = shK smap mp pg s j := fun j hj => by
        unfold shK
        rw [hent2, if_neg (fun e => hj e.symm)]
        cases he' : mlI (ent smap mp s) j with
        | none => rfl
        | some e' =>
          obtain ⟨_, _, ⟨p', hp', hpL'⟩, _⟩ := hR.ents _ _ _ he'
          simp only
          rw [hp']
          simp only
          have hne : p' ≠ p := fun e => hj (hR.one s j ((addr + t) / 16) e' en he' he (by rw [hp', hp, e]))
          have hlt := hR.lt p' hpL'
          rw [f3, e3, if_neg (by omega), if_neg hne]
      have hrs := rm_step (f := shK smap mp pg s) (addr := addr) (t := t) (n := n) (by omega) (by
        rw [shK_at (e := (some pg.length, en.2.1, ())) (by rw [hent2, if_pos rfl]) rfl, f3, e3, if_pos rfl]; rfl) hsame
      rw [hsk1] at hrs
      obtain ⟨st', L', mp', pg', R', π', a1, a2, a3, a4, a5, a6, a7, a8⟩ := lay_loop N d d' hN hi h0 h1024 hn data hdl W Z m f g (t + 1) _ _ _ _
        (u3 R1 (setA R1.2.2.2.1 ⟨s.toNat, inb_lt hin⟩ ⟨((addr + (t : Int)) / 16).toNat, inb_lt hkk⟩ (u2 (cl R1 ⟨s.toNat, inb_lt hin⟩ ⟨((addr + (t : Int)) / 16).toNat, inb_lt hkk⟩) (sA (cl R1 ⟨s.toNat, inb_lt hin⟩ ⟨((addr + (t : Int)) / 16).toNat, inb_lt hkk⟩).2.2.1 ⟨((addr + (t : Int)) % 16).toNat, inb_lt hjj⟩ (data[t]))))) _ f2
        (by omega) (by omega) (by omega) (fun j j1 j2 => by
          rw [hent2]
          split
          · rfl
          · exact hall j j1 j2) (by show st.2.2.1 + 1 + 1 + 2 * (m : Int) ≤ 1000000; omega) (by rw [← hR1]; show R.2.1 + 1 + (m : Int) ≤ 1000000; omega) (by rw [List.length_append, List.length_singleton]; omega)
      have hcM : Gm_lay_L4 P N (d + 3) (f + 1) s addr data n (t : Int) st smap pg mp (L.map some) = some (0, st', pg', mp', L'.map some, ()) := by
        rw [Gm_lay_L4_eq hP, dT (p := (t : Int) < n) (by omega), cond_true, dT (p := 0 ≤ (t : Int)) (by omega), cond_true, Int.toNat_natCast, lget_lt htl, Option.bind_some, hmg, oc_some, ent_at hi hix.2.2.2, Option.bind_some, hw, hq, he, Option.getD_some, Gm_lay_J8_eq hP, hp, Option.bind_some, lget_lt hpl, Option.bind_some]
        rw [dT (p := (pg[p]).2.1 > 1) (by omega), cond_true]
        simp only [Option.bind_some, lget_lt hpl, hwu]
        rw [lget_lset, if_pos ⟨rfl, hpl⟩, Option.bind_some]
        have : (u1 (pg[p]) (usr pg p - 1)).1 = dat pg p := hdpg
        rw [this, e1, Option.bind_some, hmg, oc_some, ent_at hi hix.2.2.2, Option.bind_some, Gm_lay_J12_eq hP]
        show ((Gm_ask P N (d + 3) (some pg.length) (u2 st (st.2.2.1 + 1)) ((L ++ [pg.length]).map some) smap pg2).bind _) = _
        rw [f1, Option.bind_some]
        simp only [hw, hm]
        show (if h : inb ((addr + (t : Int)) % 16) 16 = true then _ else _) = _
        rw [dif_pos hjj, lget_lt hpl3, Option.bind_some, wi_nat (by omega)]
        exact a1
      have hcR : Gr_Write_L9 P N (d' + 1) (g + 1) s addr data n (t : Int) R W = (bif decide ((L'.length : Int) > R.1) then some (6, W, ()) else some (0, R', ())) := by
        rw [Gr_Write_L9_eq hP, dT (p := (t : Int) < n) (by omega), cond_true, dT (p := 0 ≤ (t : Int)) (by omega), cond_true, Int.toNat_natCast, lget_lt htl, Option.bind_some]
        simp only [hw, hq, hm]
        rw [hoth, Option.bind_some, dT hu]
        simp only [cond_true]
        rw [dif_pos hin, dif_pos hkk, dif_pos hin, dif_pos hkk, dif_pos hjj, hwp, hcell, wi_nat (by omega)]
        rw [← hR1] at a2
        exact a2
      rw [← hR1] at a8
      have b7 : st'.2.2.1 ≤ st.2.2.1 + 1 + 1 + 2 * (m : Int) := a7
      have b8 : R'.2.1 ≤ R.2.1 + 1 + (m : Int) := a8
      have b0 := hR.f
      exact ⟨st', L', mp', pg', R', π', hcM, hcR, a3, by rw [a4, ← hR1]; rfl, by rw [a5, List.length_append, List.length_singleton]; omega, by omega, by omega, by omega⟩
    · have hu1 : usr pg p = 1 := by omega
      have hsk1 : (shK smap mp pg s ((addr + t) / 16)).toNat = 0 := by rw [hsk, dF hu]; rfl
      obtain ⟨pg3, hpl3, f1, f2, f3, f4⟩ := lay_put hP hN (d := d + 1) hR (s := ⟨s.toNat, inb_lt hin⟩) (k := ⟨((addr + (t : Int)) / 16).toNat, inb_lt hkk⟩) (e0 := en) (by rw [hsE, hkE]; exact he) hp hu1 (by omega) ⟨((addr + (t : Int)) % 16).toNat, inb_lt hjj⟩ (data[t])
      have hsame : ∀ j, shK smap mp (lset pg3 p (u0 (pg3[p]) (sA (pg3[p]).1 ⟨((addr + (t : Int)) % 16).toNat, inb_lt hjj⟩ (data[t])))) s j = shK smap mp pg s j := fun j => by
        unfold shK
        simp only [f3]
      have hrs := rm_step (f := shK smap mp pg s) (addr := addr) (t := t) (n := n) (by omega) (by rw [hsame, hsk, dF hu]) (fun j _ => hsame j)
      rw [hsk1] at hrs
      obtain ⟨st', L', mp', pg', R', π', a1, a2, a3, a4, a5, a6, a7, a8⟩ := lay_loop N d d' hN hi h0 h1024 hn data hdl W Z m f g (t + 1) _ _ _ _
        (u3 R (setA R.2.2.2.1 ⟨s.toNat, inb_lt hin⟩ ⟨((addr + (t : Int)) / 16).toNat, inb_lt hkk⟩ (u2 (cl R ⟨s.toNat, inb_lt hin⟩ ⟨((addr + (t : Int)) / 16).toNat, inb_lt hkk⟩) (sA (cl R ⟨s.toNat, inb_lt hin⟩ ⟨((addr + (t : Int)) / 16).toNat, inb_lt hkk⟩).2.2.1 ⟨((addr + (t : Int)) % 16).toNat, inb_lt hjj⟩ (data[t]))))) _ f2
        (by omega) (by omega) (by omega) hall (by show st.2.2.1 + 1 + 2 * (m : Int) ≤ 1000000; omega) (by show R.2.1 + (m : Int) ≤ 1000000; omega) (by omega)
      have hcM : Gm_lay_L4 P N (d + 3) (f + 1) s addr data n (t : Int) st smap pg mp (L.map some) = some (0, st', pg', mp', L'.map some, ()) := by
        rw [Gm_lay_L4_eq hP, dT (p := (t : Int) < n) (by omega), cond_true, dT (p := 0 ≤ (t : Int)) (by omega), cond_true, Int.toNat_natCast, lget_lt htl, Option.bind_some, hmg, oc_some, ent_at hi hix.2.2.2, Option.bind_some, hw, hq, he, Option.getD_some, Gm_lay_J8_eq hP, hp, Option.bind_some, lget_lt hpl, Option.bind_some]
        have hupg : (pg[p]).2.1 = usr pg p := (usr_at hpl).symm
        rw [dF (p := (pg[p]).2.1 > 1) (by omega), cond_false, Gm_lay_J12_eq hP, hp, f1, Option.bind_some]
        simp only [hw, hm]
        rw [Option.bind_some, dif_pos hjj, lget_lt hpl3, Option.bind_some, wi_nat (by omega)]
        exact a1
      have hcR : Gr_Write_L9 P N (d' + 1) (g + 1) s addr data n (t : Int) R W = (bif decide ((L'.length : Int) > R.1) then some (6, W, ()) else some (0, R', ())) := by
        rw [Gr_Write_L9_eq hP, dT (p := (t : Int) < n) (by omega), cond_true, dT (p := 0 ≤ (t : Int)) (by omega), cond_true, Int.toNat_natCast, lget_lt htl, Option.bind_some]
        simp only [hw, hq, hm]
        rw [hoth, Option.bind_some, dF hu]
        simp only [cond_false]
        rw [dif_pos hin, dif_pos hkk, dif_pos hjj, wi_nat (by omega)]
        exact a2
      refine ⟨st', L', mp', pg', R', π', hcM, hcR, a3, by rw [a4]; rfl, by omega, by omega, by have : st'.2.2.1 ≤ st.2.2.1 + 1 + 2 * (m : Int) := a7; omega, by have : R'.2.1 ≤ R.2.1 + (m : Int) := a8; omega⟩
end
end sp
end Go.Proofs.Ytmjkechkdfobgaa.pv
namespace Go.Proofs.Ytmjkechkdfobgaa.pv
set_option linter.all false
open Go.RowKit
namespace sp
section
variable {F S : Int} {st : St} {smap : SM} {π : Nat → Int} {L : List Nat} {mp : MP} {pg : List Pg} {R : Ref}
/-- as if there were more slots -/
theorem Rel.ghost (h : Rel F S st L smap mp pg R π) {x : Int} (hx : 0 ≤ x) (hS : S + x ≤ 100) : Rel F (S + x) (u1 st (S + x)) L smap mp pg (u0 R (F + (S + x))) π :=
  ⟨h.f, rfl, h.fr, ⟨by have := h.sr; omega, hS⟩, rfl, h.clk, h.nd, h.lt, h.here, by have := h.slot; omega, h.sp, h.isr, h.cells, h.ents, h.inj, h.parts, h.pn, h.us, h.one⟩
variable {P : Program} (hP : P = Try.prog)
include hP
theorem write_eq {N d d' : Nat} (hN : 1001 ≤ N) (h : Rel F S st L smap mp pg R π) (hS : S ≤ 64) (hclk : st.2.2.1 ≤ 900000) (hpt : R.2.1 ≤ 900000) (s addr : Int) (data : List Int) :
    ∃ (e : Int) (st' : St) (L' : List Nat) (mp' : MP) (pg' : List Pg) (R' : Ref) (π' : Nat → Int), Gm_Write P N (d + 5) s addr data st (L.map some) smap pg mp = some (e, st', pg', mp', L'.map some, ()) ∧ Gr_Write P N (d' + 3) s addr data R = some (e, R', ()) ∧
      Rel F S st' L' smap mp' pg' R' π' ∧ Fr F pg L pg' L' ∧ st'.2.2.1 ≤ st.2.2.1 + 512 ∧ R'.2.1 ≤ R.2.1 + 256 := by
  rw [Gm_Write_eq hP, Gr_Write_eq hP, there_eq hP, h.isS, Option.bind_some]
  have e0 : ((mlI smap s).getD none).isNone = !(ix smap s).isSome := by unfold ix; cases ((mlI smap s).getD none) <;> rfl
  rw [e0]
  cases hx : ix smap s with
  | none =>
    simp only [Option.isSome_none, Bool.not_false, cond_true]
    exact ⟨4, st, L, mp, pg, R, π, rfl, rfl, h, Fr.refl _ _ _, by omega, by omega⟩
  | some i =>
    simp only [Option.isSome_some, Bool.not_true, cond_false]
    by_cases hd : (data.length : Int) > 256
    · rw [dT hd, cond_true, cond_true]
      exact ⟨1, st, L, mp, pg, R, π, rfl, rfl, h, Fr.refl _ _ _, by omega, by omega⟩
    rw [dF hd, cond_false, cond_false]
    obtain ⟨b, b1, b2, b3⟩ := may_eq hP hN (d := d + 3) (d' := d') h (L.map some) hx addr (data.length : Int) 2 (by omega) (by omega)
    rw [b1, b2, Option.bind_some, Option.bind_some]
    cases b with
    | false => exact ⟨11, st, L, mp, pg, R, π, rfl, rfl, h, Fr.refl _ _ _, by omega, by omega⟩
    | true =>
      have h2 := h.fr; have h3 := h.sr; have h4 := h.len; have h5 := h.room; have hf0 := h.f; have hpn := h.pn
      simp only [Bool.not_true, cond_false]
      rw [Gm_lay_eq hP, Gm_shared_eq hP]
      by_cases h0 : data.length = 0
      · obtain ⟨M, rfl⟩ : ∃ M, N = M + 1 := ⟨N - 1, by omega⟩
        rw [h0, show (((0 : Nat) : Int)) = 0 from rfl, Gm_shared_L3_eq hP, dF (p := (0 : Int) > 0) (by omega), cond_false, Option.bind_some, cond_false, Option.bind_some, room_eq hP 0 h, Option.bind_some, dT (p := 0 ≤ F + S - (L.length : Int)) (by omega)]
        simp only [Bool.not_true, cond_false]
        rw [Gm_lay_L4_eq hP, dF (p := (0 : Int) < 0) (by omega), cond_false, Gr_Write_L9_eq hP, dF (p := (0 : Int) < 0) (by omega), cond_false, h.live hP hN, Option.bind_some, Option.bind_some, dF (by simp only; omega), cond_false]
        exact ⟨0, st, L, mp, pg, R, π, rfl, rfl, h, Fr.refl _ _ _, by omega, by omega⟩
      · have hb := b3 rfl (by omega)
        have hix := h.sp.ix_some hx
        generalize hn : (data.length : Int) = n at hb hd
        have hlast : wi .i64 ((wi .i64 ((wi .i64 (addr + n)) - 1)).tdiv 16) = (addr + n - 1) / 16 := by
          rw [wi64 (x := addr + n) (by omega) (by omega), wi64 (x := addr + n - 1) (by omega) (by omega), tdiv16 (by omega), wi64 (by omega) (by omega)]
        have hk0 : wi .i64 (addr.tdiv 16) = addr / 16 := by rw [tdiv16 (by omega), wi64 (by omega) (by omega)]
        have hsh := shared_loop hP N (d + 2) h hx (addr := addr) (n := n) (by omega) hlast (by omega) ((addr + n - 1) / 16 - addr / 16 + 1).toNat N 0 (addr / 16) (by omega) (by omega) (by omega) (by omega) hb.2.2
        rw [show (((0 : Nat) : Int)) = 0 from rfl, Nat.zero_add] at hsh
        generalize hc : shN (shK smap mp pg s) (addr / 16) ((addr + n - 1) / 16 - addr / 16 + 1).toNat = c at hsh
        have hc17 : c ≤ 17 := by
          rw [← hc]
          exact Nat.le_trans (shN_le _ _ _) (by omega)
        have hrm : rm (shK smap mp pg s) addr n 0 = c := by
          unfold rm
          rw [if_neg (by omega), show addr + ((0 : Nat) : Int) = addr by omega, show (addr + n - 1) / 16 + 1 - addr / 16 = (addr + n - 1) / 16 - addr / 16 + 1 by omega]
          exact hc
        rw [hk0, hsh, Option.bind_some, room_eq hP _ h, Option.bind_some]
        by_cases hro : (c : Int) ≤ F + S - (L.length : Int)
        · have hR0 : Rel F S st L smap mp pg (u0 R (F + S)) π := by rw [← h5]; exact h
          obtain ⟨st', L', mp', pg', R', π', a1, a2, a3, a4, a5, a6, a7, a8⟩ := lay_loop hP N d (d' + 1) hN hx hb.1 hb.2.1 (by omega) data hn R (F + S) n.toNat N N 0 st L mp pg R π hR0 (by omega) (by omega) (by omega) hb.2.2 (by omega) (by omega) (by rw [hrm]; omega)
          rw [show (((0 : Nat) : Int)) = 0 from rfl] at a1 a2
          have hle := a3.len
          rw [dT hro]
          simp only [Bool.not_true, cond_false]
          rw [a1, Option.bind_some, a2, dF (by omega), cond_false]
          have hr1 : R'.1 = F + S := a4.trans h5
          have hR2 : Rel F S st' L' smap mp' pg' R' π' := by rw [← hr1] at a3; exact a3
          refine ⟨0, st', L', mp', pg', R', π', rfl, rfl, hR2, fun _ => ?_, by omega, by omega⟩
          omega
        · have hG := h.ghost (x := 17) (by omega) (by omega)
          obtain ⟨st', L', mp', pg', R', π', a1, a2, a3, a4, a5, a6, a7, a8⟩ := lay_loop hP N d (d' + 1) hN hx hb.1 hb.2.1 (by omega) data hn R (F + (S + 17)) n.toNat N N 0 (u1 st (S + 17)) L mp pg R π hG (by omega) (by omega) (by omega) hb.2.2 (by show st.2.2.1 + _ ≤ _; omega) (by omega) (by rw [hrm]; omega)
          rw [show (((0 : Nat) : Int)) = 0 from rfl] at a2
          rw [dF hro]
          simp only [Bool.not_false, cond_true]
          rw [a2, dT (by omega), cond_true, Option.bind_some]
          exact ⟨6, st, L, mp, pg, R, π, rfl, rfl, h, Fr.refl _ _ _, by omega, by omega⟩
theorem store_eq {N d d' : Nat} (hN : 1001 ≤ N) (h : Rel F S st L smap mp pg R π) (hS : S ≤ 64) (hclk : st.2.2.1 ≤ 900000) (hpt : R.2.1 ≤ 900000) (s addr b : Int) :
    ∃ (e : Int) (st' : St) (L' : List Nat) (mp' : MP) (pg' : List Pg) (R' : Ref) (π' : Nat → Int), Gm_Store P N (d + 6) s addr b st (L.map some) smap pg mp = some (e, st', pg', mp', L'.map some, ()) ∧ Gr_Write P N (d' + 3) s (wi .i64 addr) [b] R = some (e, R', ()) ∧
      Rel F S st' L' smap mp' pg' R' π' ∧ Fr F pg L pg' L' ∧ st'.2.2.1 ≤ st.2.2.1 + 512 ∧ R'.2.1 ≤ R.2.1 + 256 := by
  obtain ⟨e, st', L', mp', pg', R', π', a1, a2, a3⟩ := write_eq hP hN (d := d) (d' := d') h hS hclk hpt s (wi .i64 addr) [b]
  rw [Gm_Store_eq hP, a1, Option.bind_some]
  exact ⟨e, st', L', mp', pg', R', π', rfl, a2, a3⟩
end
end sp
end Go.Proofs.Ytmjkechkdfobgaa.pv
namespace Go.Proofs.Ytmjkechkdfobgaa.pv
set_option linter.all false
open Go.RowKit
namespace sp
/-- one name of a page less, or more -/
def dec (x : Int) (pg : List Pg) (p : Nat) : List Pg := match pg[p]? with
  | some y => lset pg p (u1 y (y.2.1 + x))
  | none => pg
theorem dec_get (x : Int) (pg : List Pg) (p j : Nat) : (dec x pg p)[j]? = if j = p then (pg[p]?).map (fun y => u1 y (y.2.1 + x)) else pg[j]? := by
  unfold dec
  cases e : pg[p]? with
  | none =>
    simp only
    by_cases h : j = p
    · rw [if_pos h, h, e]; rfl
    · rw [if_neg h]
  | some y =>
    have hp : p < pg.length := by
      rw [List.getElem?_eq_some_iff] at e
      exact e.1
    simp only
    rw [get_lset]
    by_cases h : j = p
    · rw [if_pos ⟨h.symm, hp⟩, if_pos h]; rfl
    · rw [if_neg (fun h' => h h'.1.symm), if_neg h]
theorem dec_comm (x : Int) (pg : List Pg) (p q : Nat) : dec x (dec x pg p) q = dec x (dec x pg q) p := by
  by_cases h : p = q
  · rw [h]
  refine List.ext_getElem? fun j => ?_
  simp only [dec_get]
  by_cases h1 : j = q <;> by_cases h2 : j = p
  · exact absurd (h2.symm.trans h1) h
  · subst h1; simp [h2, h, fun e : j = p => h e.symm]
  · subst h2; simp [h1, h]
  · simp only [if_neg h1, if_neg h2]
theorem dec_at {x : Int} {pg : List Pg} {p : Nat} (h : p < pg.length) : dec x pg p = lset pg p (u1 (pg[p]) (usr pg p + x)) := by
  unfold dec
  rw [List.getElem?_eq_getElem h, usr_at h]
theorem dec_len (x : Int) (pg : List Pg) (p : Nat) : (dec x pg p).length = pg.length := by
  unfold dec
  split
  · exact lset_len ..
  · rfl
theorem usr_dec {x : Int} {pg : List Pg} {p : Nat} (h : p < pg.length) (j : Nat) : usr (dec x pg p) j = if j = p then usr pg p + x else usr pg j := by
  rw [dec_at h, usr_lset]
  by_cases e : j = p
  · rw [if_pos e, if_pos ⟨e.symm, h⟩]; rfl
  · rw [if_neg e, if_neg (fun h => e h.1.symm)]
theorem usr_dec_ne {x : Int} {pg : List Pg} {p j : Nat} (h : j ≠ p) : usr (dec x pg p) j = usr pg j := by
  unfold usr
  rw [dec_get, if_neg h]
theorem dat_dec (x : Int) (pg : List Pg) (p j : Nat) : dat (dec x pg p) j = dat pg j := by
  unfold dat
  rw [dec_get]
  by_cases e : j = p
  · rw [if_pos e, e]
    cases pg[p]? <;> rfl
  · rw [if_neg e]
theorem hr_dec (x : Int) (pg : List Pg) (p j : Nat) : hr (dec x pg p) j = hr pg j := by
  unfold hr
  rw [dec_get]
  by_cases e : j = p
  · rw [if_pos e, e]
    cases pg[p]? <;> rfl
  · rw [if_neg e]
/-- a page let go -/
def stepL (z : List Pg × List Nat) (p : Nat) : List Pg × List Nat := (dec (-1) z.1 p, if usr z.1 p = 1 then z.2.filter (fun q => !(q == p)) else z.2)
theorem stepL_comm (z : List Pg × List Nat) (p q : Nat) : stepL (stepL z p) q = stepL (stepL z q) p := by
  by_cases h : q = p
  · rw [h]
  · unfold stepL
    simp only
    rw [dec_comm, usr_dec_ne h, usr_dec_ne (fun e => h e.symm)]
    congr 1
    by_cases h1 : usr z.1 p = 1 <;> by_cases h2 : usr z.1 q = 1
    · rw [if_pos h1, if_pos h2, List.filter_filter, if_pos h2, if_pos h1, List.filter_filter]
      congr 1
      funext a
      rw [Bool.and_comm]
    · rw [if_pos h1, if_neg h2, if_neg h2, if_pos h1]
    · rw [if_neg h1, if_pos h2, if_neg h1]
    · rw [if_neg h1, if_neg h2, if_neg h1]
section
variable {F S : Int} {st : St} {smap : SM} {π : Nat → Int} {L : List Nat} {mp : MP} {pg : List Pg} {R : Ref}
theorem Rel.ub (h : Rel F S st L smap mp pg R π) {p : Nat} (hp : p ∈ L) : 1 ≤ usr pg p ∧ usr pg p ≤ 1088 := by
  have h7 := h.us p hp
  have h8 : cnt R (π p) ≤ 17 * 64 := by
    unfold cnt cntD
    have : ∀ l : List (Fin 17), (l.map fun i => rowD (π p) (gA R.2.2.2.1 i) 0).sum ≤ l.length * 64 := by
      intro l
      induction l with
      | nil => simp
      | cons a l ih =>
        have := rowD_le (π p) (gA R.2.2.2.1 a) 0
        rw [List.map_cons, List.sum_cons, List.length_cons]
        omega
    have := this ((List.finRange 17).drop 0)
    simpa using this
  omega
/-- a space that has no pages is taken away -/
theorem Rel.unmake (h : Rel F S st L smap mp pg R π) {s : Fin 17} {i : Nat} (hi : ix smap s.1 = some i) (hn : ∀ k, mlI (ent smap mp s.1) k = none) {R' : Ref} (r1 : R'.1 = R.1) (r2 : R'.2.1 = R.2.1) (r3 : ∀ j, gA R'.2.2.1 j = if s = j then false else gA R.2.2.1 j) (r4 : ∀ i' k', cl R' i' k' = cl R i' k') :
    Rel F S st L (mdI smap s.1) mp pg R' π := by
  have hsp := h.sp
  have hix : ∀ s', ix (mdI smap s.1) s' = if (s.1 : Int) = s' then none else ix smap s' := fun s' => by
    unfold ix
    rw [mlI_del hsp.srt]
    split <;> rfl
  have hent : ∀ s' k, mlI (ent (mdI smap s.1) mp s') k = mlI (ent smap mp s') k := fun s' k => by
    by_cases e : (s.1 : Int) = s'
    · rw [← e, hn]
      unfold ent
      rw [hix, if_pos rfl]
      rfl
    · unfold ent
      rw [hix, if_neg e]
  have hent2 : ∀ s', ent (mdI smap s.1) mp s' = [] ∨ ent (mdI smap s.1) mp s' = ent smap mp s' := fun s' => by
    by_cases e : (s.1 : Int) = s'
    · left
      unfold ent
      rw [hix, if_pos e]
    · right
      unfold ent
      rw [hix, if_neg e]
  refine ⟨h.f, h.s, h.fr, h.sr, r1.trans h.room, h.clk, h.nd, h.lt, h.here, h.slot, ⟨hsp.srt.del _, fun s' o ho => ?_, fun a b j ha hb => ?_, fun s' => ?_⟩, fun j => ?_, fun a b => by rw [r4, hent]; exact h.cells a b, fun s' k' e he => ?_, h.inj, fun p hp => by rw [r2]; exact h.parts p hp, by rw [r2]; exact h.pn, fun p hp => by rw [cnt_congr r4]; exact h.us p hp, fun s' a b e e' he he' hee => ?_⟩
  · rw [mlI_del hsp.srt] at ho
    split at ho
    · cases ho
    · exact hsp.key s' o ho
  · rw [hix] at ha hb
    split at ha
    · cases ha
    · split at hb
      · cases hb
      · exact hsp.inj a b j ha hb
  · rcases hent2 s' with e | e
    · rw [e]; exact SrtI.nil
    · rw [e]; exact hsp.ms s'
  · rw [r3, hix]
    by_cases e : s = j
    · rw [if_pos e, if_pos (by rw [e])]; rfl
    · rw [if_neg e, if_neg (fun e' => e (Fin.ext (by omega))), h.isr]
  · rw [hent] at he
    exact h.ents _ _ _ he
  · rw [hent] at he he'
    exact h.one s' a b e e' he he' hee
variable {P : Program} (hP : P = Try.prog)
include hP
theorem Rel.letc (h : Rel F S st L smap mp pg R π) {N d : Nat} (hN : 1001 ≤ N) {s k : Int} {e : Ent} (he : mlI (ent smap mp s) k = some e) :
    ∃ p, e.1 = some p ∧ p ∈ L ∧ Gm_let P N (d + 4) e st (L.map some) smap pg = some ((), st, (stepL (pg, L) p).1, (stepL (pg, L) p).2.map some, ()) := by
  obtain ⟨_, _, ⟨p, hp, hpL⟩, _⟩ := h.ents _ _ _ he
  obtain ⟨e1, e2, ⟨⟩⟩ := e
  have hp : e1 = some p := hp
  subst hp
  have h6 := h.len
  have hpl := h.lt p hpL
  have hub := h.ub hpL
  have hup := usr_at hpl
  refine ⟨p, rfl, hpL, ?_⟩
  rw [Gm_let_eq hP]
  simp only [Option.bind_some, lget_lt hpl]
  rw [lget_lset, if_pos ⟨rfl, hpl⟩, Option.bind_some, ← hup, wi64 (by omega) (by omega)]
  have hd : lset pg p (u1 (pg[p]) (usr pg p - 1)) = dec (-1) pg p := by
    rw [dec_at hpl]
    rfl
  unfold stepL
  simp only
  rw [hd]
  show (bif (usr pg p - 1 == 0) then _ else _) = _
  by_cases h1 : usr pg p = 1
  · rw [bT (by omega), cond_true, delf_eq hP hN _ _ _ (by rw [List.length_map]; omega), Option.bind_some, if_pos h1]
    have : (L.map some).filter (fun y => !(y == (some p : Option Nat))) = (L.filter (fun q => !(q == p))).map some := by
      rw [List.filter_map]; rfl
    simp only [this]
  · rw [bF (by omega), cond_false, if_neg h1]
end
end sp
end Go.Proofs.Ytmjkechkdfobgaa.pv
namespace Go.Proofs.Ytmjkechkdfobgaa.pv
set_option linter.all false
open Go.RowKit
namespace sp
def pgOf (x : Int × Ent) : Nat := x.2.1.getD 0
noncomputable def dstep (P : Program) (N d : Nat) (smap : SM) (p : Int × Ent) (z : St × List Pg × List (Option Nat)) : Option (St × List Pg × List (Option Nat)) :=
  (Gm_let P N d p.2 z.1 z.2.2 smap z.2.1).bind fun x => some (x.2.1, x.2.2.1, x.2.2.2.1)
section
variable {F S : Int} {st : St} {smap : SM} {κ : Nat → Int}
theorem Rel.congM {L : List Nat} {mp mp' : MP} {pg : List Pg} {R : Ref} (h : Rel F S st L smap mp pg R κ) (hl : mp'.length = mp.length) (he : ∀ s, ent smap mp' s = ent smap mp s) : Rel F S st L smap mp' pg R κ :=
  ⟨h.f, h.s, h.fr, h.sr, h.room, h.clk, h.nd, h.lt, h.here, h.slot, ⟨h.sp.srt, fun s o ho => by
    obtain ⟨a, b, i, c, d⟩ := h.sp.key s o ho
    exact ⟨a, b, i, c, by rw [hl]; exact d⟩, h.sp.inj, fun s => by rw [he]; exact h.sp.ms s⟩, h.isr, fun i k => by rw [he]; exact h.cells i k, fun s k e h1 => h.ents s k e (by rw [← he]; exact h1), h.inj, h.parts, h.pn, h.us, fun s k k' e e' h1 h2 => h.one s k k' e e' (by rw [← he]; exact h1) (by rw [← he]; exact h2)⟩
variable {P : Program} (hP : P = Try.prog)
include hP
theorem drop_fold (N d : Nat) (hN : 1001 ≤ N) {s : Fin 17} {i : Nat} (hi : ix smap s.1 = some i) : ∀ (D : List (Int × Ent)) (L : List Nat) (mp : MP) (pg : List Pg) (R : Ref), Rel F S st L smap mp pg R κ → (D.map (·.1)).Nodup → (∀ x ∈ D, mlI (ent smap mp s.1) x.1 = some x.2) →
    foldS (dstep P N (d + 4) smap) D (st, pg, L.map some) = some (st, ((D.map pgOf).foldl stepL (pg, L)).1, ((D.map pgOf).foldl stepL (pg, L)).2.map some) ∧
      ∃ (mp' : MP) (R' : Ref), Rel F S st ((D.map pgOf).foldl stepL (pg, L)).2 smap mp' ((D.map pgOf).foldl stepL (pg, L)).1 R' κ ∧ mp'.length = mp.length ∧ (∀ k, mlI (ent smap mp' s.1) k = if k ∈ D.map (·.1) then none else mlI (ent smap mp s.1) k) ∧ (∀ s', s' ≠ (s.1 : Int) → ent smap mp' s' = ent smap mp s') ∧
        R'.1 = R.1 ∧ R'.2.1 = R.2.1 ∧ R'.2.2.1 = R.2.2.1 ∧ (∀ i' k', cl R' i' k' = if s = i' ∧ (k'.1 : Int) ∈ D.map (·.1) then zc else cl R i' k') ∧
        ((D.map pgOf).foldl stepL (pg, L)).2.length ≤ L.length ∧ (((D.map pgOf).foldl stepL (pg, L)).2.length = L.length → hereC ((D.map pgOf).foldl stepL (pg, L)).1 ((D.map pgOf).foldl stepL (pg, L)).2 = hereC pg L)
  | [], L, mp, pg, R, hR, _, _ => ⟨rfl, mp, R, hR, rfl, fun k => by simp, fun _ _ => rfl, rfl, rfl, rfl, fun _ _ => by simp, Nat.le_refl _, fun _ => rfl⟩
  | (k, e) :: D, L, mp, pg, R, hR, hnd, hmem => by
    have hsp := hR.sp
    rw [List.map_cons, List.nodup_cons] at hnd
    have he : mlI (ent smap mp s.1) k = some e := hmem (k, e) (List.mem_cons_self ..)
    obtain ⟨p, hp, hpL, f1⟩ := hR.letc hP hN (d := d) he
    have hke := hR.ents _ _ _ he
    have hpl := hR.lt p hpL
    have hpo : pgOf (k, e) = p := by
      unfold pgOf
      rw [show (k, e).2.1 = e.1 from rfl, hp]; rfl
    have hkE : ((⟨k.toNat, by omega⟩ : Fin 64).1 : Int) = k := Int.toNat_of_nonneg hke.1
    have hnew := hR.delp (s := s) (k := ⟨k.toNat, by omega⟩) hi (by rw [hkE]; exact he) hp (pg' := dec (-1) pg p) (dec_len ..) (fun j => by rw [usr_dec hpl]; rfl) (dat_dec _ _ _) (hr_dec _ _ _) (R' := u3 R (setA R.2.2.2.1 s ⟨k.toNat, by omega⟩ zc)) rfl rfl rfl (fun a b => cl_setA R s a _ b zc)
    rw [hkE] at hnew
    have hent : ∀ k', mlI (ent smap (lset mp i (mdI (ent smap mp s.1) k)) s.1) k' = if k = k' then none else mlI (ent smap mp s.1) k' := fun k' => by
      rw [hsp.ent_set hi, if_pos rfl, mlI_del (hsp.ms _)]
    have hkD : ∀ x ∈ D, k ≠ x.1 := fun x hx e => hnd.1 (List.mem_map.2 ⟨x, hx, e.symm⟩)
    obtain ⟨g1, mp', R', g2, g3, g4, g5, g6, g7, g8, g9, g10, g11⟩ := drop_fold N d hN hi D _ _ _ _ hnew hnd.2 (fun x hx => by
      rw [hent, if_neg (hkD x hx)]
      exact hmem x (List.mem_cons_of_mem _ hx))
    have hfl : ((D.map pgOf).foldl stepL (dec (-1) pg p, if usr pg p = 1 then L.filter (fun q => !(q == p)) else L)) = (((k, e) :: D).map pgOf).foldl stepL (pg, L) := by
      rw [List.map_cons, List.foldl_cons, hpo]
      rfl
    rw [hfl] at g1 g2 g10 g11
    have hlen : (if usr pg p = 1 then L.filter (fun q => !(q == p)) else L).length ≤ L.length := by
      split
      · exact List.length_filter_le ..
      · exact Nat.le_refl _
    refine ⟨?_, mp', R', g2, by rw [g3, lset_len], fun k' => ?_, fun s' hs' => ?_, g6, g7, g8, fun a b => ?_, by omega, fun e2 => ?_⟩
    · simp only [foldS]
      unfold dstep at g1 ⊢
      simp only
      rw [f1, Option.bind_some, Option.bind_some]
      exact g1
    · rw [g4, hent, List.map_cons]
      by_cases h1 : k' ∈ D.map (·.1)
      · rw [if_pos h1, if_pos (List.mem_cons_of_mem _ h1)]
      · rw [if_neg h1]
        by_cases h2 : k = k'
        · rw [if_pos h2, if_pos (by rw [← h2]; exact List.mem_cons_self ..)]
        · rw [if_neg h2, if_neg (fun h => (List.mem_cons.1 h).elim (fun e => h2 e.symm) h1)]
    · rw [g5 s' hs', hsp.ent_set hi, if_neg hs']
    · rw [g9, List.map_cons]
      by_cases h1 : s = a ∧ (b.1 : Int) ∈ D.map (·.1)
      · rw [if_pos h1, if_pos ⟨h1.1, List.mem_cons_of_mem _ h1.2⟩]
      · rw [if_neg h1, cl_setA]
        by_cases h2 : s = a ∧ (⟨k.toNat, by omega⟩ : Fin 64) = b
        · rw [if_pos h2, if_pos ⟨h2.1, by rw [← h2.2, hkE]; exact List.mem_cons_self ..⟩]
        · rw [if_neg h2, if_neg (fun h => (List.mem_cons.1 h.2).elim (fun e => h2 ⟨h.1, Fin.ext (by show k.toNat = b.1; omega)⟩) fun e => h1 ⟨h.1, e⟩)]
    · have h6 := g11 (by omega)
      rw [h6]
      by_cases hu : usr pg p = 1
      · have h7 := len_drop hR.nd hpL
        rw [if_pos hu] at g10
        omega
      · rw [if_neg hu]
        exact cnt_same fun j _ => (hr_dec _ _ _ _).symm
end
end sp
end Go.Proofs.Ytmjkechkdfobgaa.pv
namespace Go.Proofs.Ytmjkechkdfobgaa.pv
set_option linter.all false
open Go.RowKit
namespace sp
theorem srtI_keys {ν : Type} {D : List (Int × ν)} (h : SrtI D) : (D.map (·.1)).Nodup := List.Pairwise.imp (fun {a b} (h : a < b) e => by omega) (List.pairwise_map.2 h)
theorem perm_mem {D : List (Int × Ent)} (h : SrtI D) {ρ : List (Int × Ent)} (hp : ρ.Perm D) : (ρ.map (·.1)).Nodup ∧ ∀ x ∈ ρ, mlI D x.1 = some x.2 :=
  ⟨(hp.map _).nodup_iff.2 (srtI_keys h), fun x hx => (mlI_mem h x.1 x.2).2 (hp.mem_iff.1 hx)⟩
theorem perm_fold {z : List Pg × List Nat} {D ρ : List Nat} (hp : ρ.Perm D) : ρ.foldl stepL z = D.foldl stepL z :=
  hp.foldl_eq' (fun x _ y _ z => stepL_comm z x y) z
section
variable {F S : Int} {st : St} {smap : SM} {π : Nat → Int} {L : List Nat} {mp : MP} {pg : List Pg} {R : Ref}
variable {P : Program} (hP : P = Try.prog)
include hP
theorem drop_run (N d : Nat) (hN : 1001 ≤ N) (h : Rel F S st L smap mp pg R π) {s : Fin 17} {i : Nat} (hi : ix smap s.1 = some i) :
    Gm_Drop_R4 P N (d + 4) s.1 st pg i mp (L.map some) smap (ent smap mp s.1) = some (0, st, (((ent smap mp s.1).map pgOf).foldl stepL (pg, L)).1, mp, (((ent smap mp s.1).map pgOf).foldl stepL (pg, L)).2.map some, mdI smap s.1, ()) := by
  refine rr4_eq (E := EE P) (prim := prims) (sm := sums) (N := N) (d := d + 4) (g := 42) (r := 4) (ks := []) (os := [(.bx (.pr cI (.pr cI (.pr cI (.pr (.sr 5) (.pr (.sr 6) .un)))))), .no, .no, (.ab 1 c_space_page), (.am 2 cI c_space_entry)]) (it := 20) (a := cI) (b := c_space_entry) (σ := St × List Pg × List (Option Nat)) (li := 13) (u := ()) (own := false) (l := 2) (lg := 12) (fun cur z ρ => Gm_Drop_R4_X cur s.1 z.1 z.2.1 i mp z.2.2 smap ρ)
    (fun e z ρ => planX (Gm_Drop_R4_X none s.1 z.1 z.2.1 i mp z.2.2 smap ρ) 13 (.it cI c_space_entry false 2 12 ρ none (some e))) (fun _ _ _ => rfl) (fun _ _ _ => rfl) (fun _ _ _ _ => rfl)
    (fun p z => dstep P N (d + 4) smap p z) (fun p z ρ => ?_)
    (fun z => some ((0 : Int), z.1, z.2.1, mp, z.2.2, mdI smap s.1, ())) (fun z ρ => ?_) (st, pg, L.map some) (ent smap mp s.1) _ (fun ρ hρ => ?_)
  · refine (Gm_Drop_R4_S_eq hP N (d + 4) p s.1 z.1 z.2.1 i mp z.2.2 smap ρ).trans ?_
    show _ = ((Gm_let P N (d + 4) p.2 z.1 z.2.2 smap z.2.1).bind fun x => some (x.2.1, x.2.2.1, x.2.2.2.1)).bind _
    cases Gm_let P N (d + 4) p.2 z.1 z.2.2 smap z.2.1 <;> rfl
  · exact Gm_Drop_R4_E_eq hP N (d + 4) s.1 z.1 z.2.1 i mp z.2.2 smap ρ
  · have hρ' : List.Perm (α := Int × Ent) ρ (ent smap mp s.1) := hρ
    obtain ⟨h1, h2⟩ := perm_mem (h.sp.ms s.1) hρ'
    obtain ⟨f1, _⟩ := drop_fold hP N d hN hi (D := ρ) L mp pg R h h1 h2
    refine ⟨_, f1, ?_⟩
    rw [perm_fold (hρ'.map pgOf)]
    rfl
theorem drop_eq {N d d' : Nat} (hN : 1001 ≤ N) (h : Rel F S st L smap mp pg R π) (s : Int) :
    ∃ (e : Int) (L' : List Nat) (smap' : SM) (mp' : MP) (pg' : List Pg) (R' : Ref), Gm_Drop P N (d + 5) s st (L.map some) smap pg mp = some (e, st, pg', mp', L'.map some, smap', ()) ∧ Gr_Drop P N (d' + 3) s R = some (e, R', ()) ∧
      Rel F S st L' smap' mp' pg' R' π ∧ Fr F pg L pg' L' ∧ R'.2.1 = R.2.1 := by
  rw [Gm_Drop_eq hP, Gr_Drop_eq hP, there_eq hP, h.isS, Option.bind_some]
  have e0 : ((mlI smap s).getD none).isNone = !(ix smap s).isSome := by unfold ix; cases ((mlI smap s).getD none) <;> rfl
  rw [e0]
  cases hx : ix smap s with
  | none =>
    simp only [Option.isSome_none, Bool.not_false, cond_true]
    exact ⟨4, L, smap, mp, pg, R, rfl, rfl, h, Fr.refl _ _ _, rfl⟩
  | some i =>
    simp only [Option.isSome_some, Bool.not_true, cond_false]
    have hsp := h.sp
    have hix := hsp.ix_some hx
    have hin : inb s 17 = true := inb_true (by omega) (by omega)
    have hmg : (mlI smap s).getD none = some i := hx
    have hsE : ((⟨s.toNat, inb_lt hin⟩ : Fin 17).1 : Int) = s := Int.toNat_of_nonneg (by omega)
    have hi : ix smap (⟨s.toNat, inb_lt hin⟩ : Fin 17).1 = some i := by rw [hsE]; exact hx
    have hrun := drop_run hP N d hN h hi
    rw [hsE] at hrun
    rw [hmg, Option.bind_some, ent_at hx hix.2.2.2, Option.bind_some, hrun, dif_pos hin, dif_pos hin]
    obtain ⟨h1, h2⟩ := perm_mem (hsp.ms s) (List.Perm.refl _)
    obtain ⟨_, mp', R1, g2, g3, g4, g5, g6, g7, g8, g9, g10, g11⟩ := drop_fold hP N d hN hi (D := ent smap mp s) L mp pg R h h1 (fun x hx => by rw [hsE]; exact h2 x hx)
    have hnone : ∀ k, mlI (ent smap mp' (⟨s.toNat, inb_lt hin⟩ : Fin 17).1) k = none := fun k => by
      rw [g4, hsE]
      by_cases hk : k ∈ (ent smap mp s).map (·.1)
      · rw [if_pos hk]
      · rw [if_neg hk]
        cases he : mlI (ent smap mp s) k with
        | none => rfl
        | some e => exact absurd (List.mem_map.2 ⟨(k, e), (mlI_mem (hsp.ms s) k e).1 he, rfl⟩) hk
    have hun := g2.unmake (s := ⟨s.toNat, inb_lt hin⟩) hi hnone (R' := u3 (u2 R (sA R.2.2.1 ⟨s.toNat, inb_lt hin⟩ false)) (sA R.2.2.2.1 ⟨s.toNat, inb_lt hin⟩ (nA 64 zc))) g6.symm g7.symm (fun j => by
      show gA (sA R.2.2.1 ⟨s.toNat, inb_lt hin⟩ false) j = _
      rw [gA_sA, g8]) (fun a b => by
      show gA (gA (sA R.2.2.2.1 ⟨s.toNat, inb_lt hin⟩ (nA 64 zc)) a) b = _
      rw [gA_sA, g9]
      by_cases ha : (⟨s.toNat, inb_lt hin⟩ : Fin 17) = a
      · rw [if_pos ha, gA_nA]
        by_cases hb : (b.1 : Int) ∈ (ent smap mp s).map (·.1)
        · rw [if_pos ⟨ha, hb⟩]
        · rw [if_neg (fun h => hb h.2), h.cells, ← ha, hsE]
          cases he : mlI (ent smap mp s) b.1 with
          | none => rfl
          | some e => exact absurd (List.mem_map.2 ⟨((b.1 : Int), e), (mlI_mem (hsp.ms s) _ e).1 he, rfl⟩) hb
      · rw [if_neg ha, if_neg (fun h => ha h.1)]; rfl)
    rw [hsE] at hun
    have hix2 : ∀ s', ix (mdI smap s) s' = if s = s' then none else ix smap s' := fun s' => by
      unfold ix
      rw [mlI_del hsp.srt]
      split <;> rfl
    have hfin := hun.congM (mp' := mp) g3.symm (fun s' => by
      by_cases e : s = s'
      · unfold ent
        rw [hix2, if_pos e]
      · have := g5 s' (fun e' => e (by rw [e', hsE]))
        unfold ent at this ⊢
        rw [hix2, if_neg e]
        exact this.symm)
    refine ⟨0, _, _, _, _, _, rfl, rfl, hfin, fun hl => ?_, rfl⟩
    rw [g11 (by omega)]
    omega
end
end sp
end Go.Proofs.Ytmjkechkdfobgaa.pv
namespace Go.Proofs.Ytmjkechkdfobgaa.pv
set_option linter.all false
open Go.RowKit
namespace sp
theorem put_all : ∀ (ρ : List (Int × Ent)) (m : List (Int × Ent)), SrtI m → (ρ.map (·.1)).Nodup → SrtI (ρ.foldl (fun m x => mpI m x.1 x.2) m) ∧ (∀ x ∈ ρ, mlI (ρ.foldl (fun m x => mpI m x.1 x.2) m) x.1 = some x.2) ∧ ∀ j, j ∉ ρ.map (·.1) → mlI (ρ.foldl (fun m x => mpI m x.1 x.2) m) j = mlI m j
  | [], m, h, _ => ⟨h, (fun _ hx => by cases hx), fun _ _ => rfl⟩
  | x :: ρ, m, h, hn => by
    rw [List.map_cons, List.nodup_cons] at hn
    obtain ⟨a, b, c⟩ := put_all ρ (mpI m x.1 x.2) (h.put _ _) hn.2
    rw [List.foldl_cons]
    refine ⟨a, fun y hy => ?_, fun j hj => ?_⟩
    · rcases List.mem_cons.1 hy with e | hy
      · rw [e, c _ hn.1, mlI_put, if_pos rfl]
      · exact b y hy
    · rw [List.map_cons, List.mem_cons] at hj
      rw [c j (fun h => hj (.inr h)), mlI_put, if_neg (fun e => hj (.inl e.symm))]
theorem put_perm {D ρ : List (Int × Ent)} (h : SrtI D) (hp : ρ.Perm D) : ρ.foldl (fun m x => mpI m x.1 x.2) [] = D := by
  obtain ⟨h1, h2⟩ := perm_mem h hp
  obtain ⟨a, b, c⟩ := put_all ρ [] SrtI.nil h1
  refine srtI_ext a h fun j => ?_
  by_cases hj : j ∈ ρ.map (·.1)
  · obtain ⟨x, hx, rfl⟩ := List.mem_map.1 hj
    rw [b x hx, h2 x hx]
  · rw [c j hj, mlI_nil]
    cases e : mlI D j with
    | none => rfl
    | some v => exact absurd (List.mem_map.2 ⟨(j, v), hp.mem_iff.2 ((mlI_mem h j v).1 e), rfl⟩) hj
theorem inc_perm {pg : List Pg} {D ρ : List Nat} (hp : ρ.Perm D) : ρ.foldl (dec 1) pg = D.foldl (dec 1) pg :=
  hp.foldl_eq' (fun x _ y _ z => dec_comm 1 z x y) pg
def fstep (smap : SM) (to : Int) (i : Nat) (p : Int × Ent) (z : List Pg × MP) : Option (List Pg × MP) :=
  p.2.1.bind fun i220 => (lget z.1 i220).bind fun y221 => p.2.1.bind fun i222 => (lget z.1 i222).bind fun y223 =>
    oc ((mlI smap to).getD none) none fun i224 => bif Nat.beq i224 i then none else (lget z.2 i224).bind fun d225 => some (lset z.1 i222 (u1 y223 (wi .i64 (y221.2.1 + 1))), lset z.2 i224 (mpI d225 p.1 p.2))
section
variable {F S : Int} {st : St} {smap : SM} {L : List Nat} {κ : Nat → Int}
/-- a page of another space, too -/
theorem Rel.shr {mp : MP} {pg : List Pg} {R : Ref} (h : Rel F S st L smap mp pg R κ) {s : Fin 17} {k : Fin 64} {i p : Nat} (hi : ix smap s.1 = some i) (hn : mlI (ent smap mp s.1) k.1 = none) (hp : p ∈ L) {r : Int} (hrr : 0 ≤ r ∧ r ≤ 7) (hone : ∀ k' e', mlI (ent smap mp s.1) k' = some e' → e'.1 ≠ some p) {pg' : List Pg}
    (h1 : pg'.length = pg.length) (h2 : ∀ j, usr pg' j = if j = p then usr pg p + 1 else usr pg j) (h3 : ∀ j, dat pg' j = dat pg j) (h4 : ∀ j, hr pg' j = hr pg j)
    {R' : Ref} (r1 : R'.1 = R.1) (r2 : R'.2.1 = R.2.1) (r3 : R'.2.2.1 = R.2.2.1) (r4 : ∀ i' k', cl R' i' k' = if s = i' ∧ k = k' then (true, r, dat pg p, κ p, ()) else cl R i' k') :
    Rel F S st L smap (lset mp i (mpI (ent smap mp s.1) k.1 (some p, r, ()))) pg' R' κ := by
  have hsp := h.sp
  have hcell : cl R s k = zc := by rw [h.cells, hn]; rfl
  have hcnt := cnt_setA (R := R) (R' := R') r4
  have hC : hereC pg' L = hereC pg L := cnt_same fun j _ => (h4 j).symm
  have hent : ∀ s' k', mlI (ent smap (lset mp i (mpI (ent smap mp s.1) k.1 (some p, r, ()))) s') k' = if s' = (s.1 : Int) ∧ (k.1 : Int) = k' then some (some p, r, ()) else mlI (ent smap mp s') k' := fun s' k' => by
    rw [hsp.ent_set hi]
    by_cases e : s' = (s.1 : Int)
    · rw [if_pos e, mlI_put]
      by_cases e2 : (k.1 : Int) = k'
      · rw [if_pos e2, if_pos ⟨e, e2⟩]
      · rw [if_neg e2, if_neg (fun h => e2 h.2), e]
    · rw [if_neg e, if_neg (fun h => e h.1)]
  refine ⟨h.f, h.s, h.fr, h.sr, r1.trans h.room, h.clk, h.nd, fun q hq => by rw [h1]; exact h.lt q hq, by rw [hC]; exact h.here, by rw [hC]; exact h.slot, hsp.set hi ((hsp.ms _).put _ _), fun j => by rw [r3]; exact h.isr j, fun a b => ?_, fun s' k' e he => ?_, h.inj, fun q hq => by rw [r2]; exact h.parts q hq, by rw [r2]; exact h.pn, fun q hq => ?_, fun s' a b e e' he he' hee => ?_⟩
  · rw [r4, hent]
    by_cases e : s = a ∧ k = b
    · obtain ⟨rfl, rfl⟩ := e
      rw [if_pos ⟨rfl, rfl⟩, if_pos ⟨rfl, rfl⟩]
      simp [cellOf, h3]
    · rw [if_neg e, if_neg (fun e' => e ⟨(Fin.ext (by have := e'.1; omega)).symm, Fin.ext (by have := e'.2; omega)⟩), h.cells]
      refine (cellOf_same (fun en q he hq => ⟨h3 q, rfl⟩) (fun en he => ?_)).symm
      obtain ⟨_, _, ⟨q, hq, _⟩, _⟩ := h.ents _ _ _ he
      exact ⟨q, hq⟩
  · rw [hent] at he
    split at he
    · rename_i e2
      cases he
      exact ⟨by omega, by omega, ⟨_, rfl, hp⟩, hrr.1, hrr.2⟩
    · exact h.ents _ _ _ he
  · have h8 := hcnt (κ q)
    have h10 := h.us q hq
    rw [hcell, show hit (κ q) zc = false from rfl] at h8
    rw [h2]
    by_cases e : q = p
    · rw [show hit (κ q) ((true, r, dat pg p, κ p, ()) : Cell) = true by unfold hit; simp [e]] at h8
      rw [if_pos e]
      subst e
      simp only [Bool.toNat_false, Bool.toNat_true] at h8
      exact ⟨by omega, by omega⟩
    · have hne : κ p ≠ κ q := fun e' => e (h.inj p hp q hq e').symm
      rw [show hit (κ q) ((true, r, dat pg p, κ p, ()) : Cell) = false by unfold hit; simp [hne]] at h8
      rw [if_neg e]
      simp only [Bool.toNat_false] at h8
      exact ⟨by omega, by omega⟩
  · rw [hent] at he he'
    split at he <;> split at he'
    · omega
    · rename_i e1 _
      cases he
      rw [e1.1] at he'
      exact absurd hee.symm (hone _ _ he')
    · rename_i _ e1
      cases he'
      rw [e1.1] at he
      exact absurd hee (hone _ _ he)
    · exact h.one s' a b e e' he he' hee
end
end sp
end Go.Proofs.Ytmjkechkdfobgaa.pv
namespace Go.Proofs.Ytmjkechkdfobgaa.pv
set_option linter.all false
open Go.RowKit
namespace sp
section
variable {F S : Int} {st : St} {smap : SM} {L : List Nat} {κ : Nat → Int}
theorem fork_fold {s to : Fin 17} {i n : Nat} (hs : ix smap s.1 = some i) (hto : ix smap to.1 = some n) (hne : (s.1 : Int) ≠ to.1) : ∀ (D : List (Int × Ent)) (mp : MP) (pg : List Pg) (R : Ref), Rel F S st L smap mp pg R κ → (D.map (·.1)).Nodup → (∀ x ∈ D, mlI (ent smap mp s.1) x.1 = some x.2) → (∀ k e, mlI (ent smap mp to.1) k = some e → mlI (ent smap mp s.1) k = some e ∧ k ∉ D.map (·.1)) →
    foldS (fstep smap to.1 i) D (pg, mp) = some ((D.map pgOf).foldl (dec 1) pg, lset mp n (D.foldl (fun m x => mpI m x.1 x.2) (ent smap mp to.1))) ∧
      ∃ R' : Ref, Rel F S st L smap (lset mp n (D.foldl (fun m x => mpI m x.1 x.2) (ent smap mp to.1))) ((D.map pgOf).foldl (dec 1) pg) R' κ ∧ R'.1 = R.1 ∧ R'.2.1 = R.2.1 ∧ R'.2.2.1 = R.2.2.1 ∧ (∀ i' k', cl R' i' k' = if to = i' ∧ (k'.1 : Int) ∈ D.map (·.1) then cl R s k' else cl R i' k') ∧ hereC ((D.map pgOf).foldl (dec 1) pg) L = hereC pg L
  | [], mp, pg, R, hR, _, _, _ => by
    have hsp := hR.sp
    have e : lset mp n (ent smap mp to.1) = mp := by
      refine List.ext_getElem? fun j => ?_
      rw [get_lset]
      split
      · rename_i e
        have := ent_at hto e.2
        rw [← e.1]
        exact this.symm
      · rfl
    rw [List.foldl_nil, e]
    exact ⟨rfl, R, hR, rfl, rfl, rfl, fun _ _ => by simp, rfl⟩
  | (k, e) :: D, mp, pg, R, hR, hnd, hmem, hsub => by
    have hsp := hR.sp
    have hix := hsp.ix_some hto
    rw [List.map_cons, List.nodup_cons] at hnd
    have he : mlI (ent smap mp s.1) k = some e := hmem (k, e) (List.mem_cons_self ..)
    have hke := hR.ents _ _ _ he
    obtain ⟨_, _, ⟨p, hp, hpL⟩, hrr⟩ := hR.ents _ _ _ he
    have hpl := hR.lt p hpL
    have hub := hR.ub hpL
    have hpo : pgOf (k, e) = p := by
      unfold pgOf
      rw [show (k, e).2.1 = e.1 from rfl, hp]; rfl
    have hkE : ((⟨k.toNat, by omega⟩ : Fin 64).1 : Int) = k := Int.toNat_of_nonneg hke.1
    have hnt : mlI (ent smap mp to.1) k = none := by
      cases h : mlI (ent smap mp to.1) k with
      | none => rfl
      | some e' => exact absurd (List.mem_cons_self ..) (hsub k e' h).2
    have hee : (some p, e.2.1, ()) = e := by
      obtain ⟨e1, e2, ⟨⟩⟩ := e
      have hp : e1 = some p := hp
      rw [hp]
    have hcs : cl R s ⟨k.toNat, by omega⟩ = (true, e.2.1, dat pg p, κ p, ()) := by
      rw [hR.cells, hkE, he]
      simp [cellOf, hp]
    have hnew := hR.shr (s := to) (k := ⟨k.toNat, by omega⟩) hto (by rw [hkE]; exact hnt) hpL (r := e.2.1) hrr (fun k' e' h' hpe => by
      obtain ⟨a, b⟩ := hsub k' e' h'
      have := hR.one s.1 k' k e' e a he (by rw [hpe, hp])
      exact b (by rw [this]; exact List.mem_cons_self ..)) (pg' := dec 1 pg p) (dec_len ..) (fun j => usr_dec hpl j) (dat_dec _ _ _) (hr_dec _ _ _) (R' := u3 R (setA R.2.2.2.1 to ⟨k.toNat, by omega⟩ (true, e.2.1, dat pg p, κ p, ()))) rfl rfl rfl (fun a b => cl_setA R to a _ b _)
    rw [hkE, hee] at hnew
    have hent : ∀ s' k', mlI (ent smap (lset mp n (mpI (ent smap mp to.1) k e)) s') k' = if s' = (to.1 : Int) then (if k = k' then some e else mlI (ent smap mp to.1) k') else mlI (ent smap mp s') k' := fun s' k' => by
      rw [hsp.ent_set hto]
      by_cases e : s' = (to.1 : Int)
      · rw [if_pos e, if_pos e, mlI_put]
      · rw [if_neg e, if_neg e]
    have hkD : ∀ x ∈ D, k ≠ x.1 := fun x hx e => hnd.1 (List.mem_map.2 ⟨x, hx, e.symm⟩)
    obtain ⟨g1, R', g2, g3, g4, g5, g6, g7⟩ := fork_fold hs hto hne D _ _ _ hnew hnd.2 (fun x hx => by
      rw [hent, if_neg hne]
      exact hmem x (List.mem_cons_of_mem _ hx)) (fun k' e' h' => by
      rw [hent, if_pos rfl] at h'
      rw [hent, if_neg hne]
      split at h'
      · rename_i e2
        cases h'
        exact ⟨by rw [← e2]; exact he, by rw [← e2]; exact hnd.1⟩
      · obtain ⟨a, b⟩ := hsub k' e' h'
        exact ⟨a, fun h => b (List.mem_cons_of_mem _ h)⟩)
    have hE : ent smap (lset mp n (mpI (ent smap mp to.1) k e)) to.1 = mpI (ent smap mp to.1) k e := by rw [hsp.ent_set hto, if_pos rfl]
    rw [hE, lset_lset] at g1 g2
    refine ⟨?_, R', ?_, g3, g4, g5, fun a b => ?_, ?_⟩
    · simp only [foldS]
      have hst : fstep smap to.1 i (k, e) (pg, mp) = some (dec 1 pg p, lset mp n (mpI (ent smap mp to.1) k e)) := by
        unfold fstep
        have hmg : (mlI smap (to.1 : Int)).getD none = some n := hto
        have hni : Nat.beq n i = false := by
          cases h : Nat.beq n i with
          | false => rfl
          | true =>
            have : n = i := Nat.eq_of_beq_eq_true h
            subst this
            exact absurd (hsp.inj _ _ _ hs hto) hne
        have hup := usr_at hpl
        simp only [hp, Option.bind_some, lget_lt hpl]
        rw [hmg, oc_some, hni, cond_false, ent_at hto hix.2.2.2, Option.bind_some, ← hup, wi64 (by omega) (by omega), dec_at hpl]
      rw [hst, Option.bind_some, List.map_cons, List.foldl_cons, hpo, List.foldl_cons]
      exact g1
    · rw [List.map_cons, List.foldl_cons, hpo, List.foldl_cons]
      exact g2
    · rw [g6, List.map_cons]
      by_cases h1 : to = a ∧ (b.1 : Int) ∈ D.map (·.1)
      · rw [if_pos h1, if_pos ⟨h1.1, List.mem_cons_of_mem _ h1.2⟩, cl_setA, if_neg (fun h => hne (by rw [h.1]))]
      · rw [if_neg h1, cl_setA]
        by_cases h2 : to = a ∧ (⟨k.toNat, by omega⟩ : Fin 64) = b
        · rw [if_pos h2, if_pos ⟨h2.1, by rw [← h2.2, hkE]; exact List.mem_cons_self ..⟩, ← h2.2, hcs]
        · rw [if_neg h2, if_neg (fun h => (List.mem_cons.1 h.2).elim (fun e => h2 ⟨h.1, Fin.ext (by show k.toNat = b.1; omega)⟩) fun e => h1 ⟨h.1, e⟩)]
    · rw [List.map_cons, List.foldl_cons, hpo, g7]
      exact cnt_same fun j _ => (hr_dec _ _ _ _).symm
end
section
variable {F S : Int} {st : St} {smap : SM} {π : Nat → Int} {L : List Nat} {mp : MP} {pg : List Pg} {R : Ref}
variable {P : Program} (hP : P = Try.prog)
include hP
theorem fork_run (N d : Nat) (row : List (Option Nat)) (h : Rel F S st L smap mp pg R π) {s to : Fin 17} {i n : Nat} (hs : ix smap s.1 = some i) (hto : ix smap to.1 = some n) (hne : (s.1 : Int) ≠ to.1) (hemp : ent smap mp to.1 = []) :
    Gm_Fork_R7 P N d to.1 st row pg i mp smap (ent smap mp s.1) = some (((to.1 : Int), 0, ()), st, ((ent smap mp s.1).map pgOf).foldl (dec 1) pg, lset mp n (ent smap mp s.1), smap, ()) := by
  refine rr4_eq (E := EE P) (prim := prims) (sm := sums) (N := N) (d := d) (g := 40) (r := 7) (ks := []) (os := [(.bx (.pr cI (.pr cI (.pr cI (.pr (.sr 1) (.pr (.sr 5) .un)))))), (.rw 93 1 (.vp 1)), .no, (.ab 1 c_space_page), (.am 2 cI c_space_entry)]) (it := 31) (a := cI) (b := c_space_entry) (σ := List Pg × MP) (li := 12) (u := ()) (own := false) (l := 2) (lg := 11) (fun cur z ρ => Gm_Fork_R7_X cur to.1 st row z.1 i z.2 smap ρ)
    (fun e z ρ => planX (Gm_Fork_R7_X none to.1 st row z.1 i z.2 smap ρ) 12 (.it cI c_space_entry false 2 11 ρ none (some e))) (fun _ _ _ => rfl) (fun _ _ _ => rfl) (fun _ _ _ _ => rfl)
    (fun p z => fstep smap to.1 i p z) (fun p z ρ => ?_)
    (fun z => some (((to.1 : Int), (0 : Int), ()), st, z.1, z.2, smap, ())) (fun z ρ => ?_) (pg, mp) (ent smap mp s.1) _ (fun ρ hρ => ?_)
  · refine (Gm_Fork_R7_S_eq hP N d p to.1 st row z.1 i z.2 smap ρ).trans ?_
    unfold fstep
    obtain ⟨p1, p2, p3, ⟨⟩⟩ := p
    cases p2 with
    | none => rfl
    | some q =>
      show ((lget z.1 q).bind _) = Option.bind ((lget z.1 q).bind _) _
      cases hy : lget z.1 q with
      | none => rfl
      | some y =>
        simp only [Option.bind_some, hy]
        show (oc ((mlI smap (to.1 : Int)).getD none) none _) = Option.bind (oc ((mlI smap (to.1 : Int)).getD none) none _) _
        cases (mlI smap (to.1 : Int)).getD none with
        | none => rfl
        | some j =>
          show (bif Nat.beq j i then none else _) = Option.bind (bif Nat.beq j i then none else _) _
          cases Nat.beq j i with
          | true => rfl
          | false =>
            show ((lget z.2 j).bind _) = Option.bind ((lget z.2 j).bind _) _
            cases lget z.2 j <;> rfl
  · exact Gm_Fork_R7_E_eq hP N d to.1 st row z.1 i z.2 smap ρ
  · have hρ' : List.Perm (α := Int × Ent) ρ (ent smap mp s.1) := hρ
    obtain ⟨h1, h2⟩ := perm_mem (h.sp.ms s.1) hρ'
    obtain ⟨f1, _⟩ := fork_fold hs hto hne ρ mp pg R h h1 h2 (fun k e h' => by rw [hemp, mlI_nil] at h'; cases h')
    refine ⟨_, f1, ?_⟩
    rw [inc_perm (hρ'.map pgOf), hemp, put_perm (h.sp.ms s.1) hρ']
    rfl
theorem fork_eq {N d d' : Nat} (hN : 1001 ≤ N) (h : Rel F S st L smap mp pg R π) (row : List (Option Nat)) (s : Int) :
    ∃ (t e : Int) (smap' : SM) (mp' : MP) (pg' : List Pg) (R' : Ref), Gm_Fork P N (d + 2) s st row smap pg mp = some ((t, e, ()), st, pg', mp', smap', ()) ∧ Gr_Fork P N (d' + 3) s R = some ((t, e, ()), R', ()) ∧
      Rel F S st L smap' mp' pg' R' π ∧ Fr F pg L pg' L ∧ R'.2.1 = R.2.1 := by
  rw [Gm_Fork_eq hP, Gr_Fork_eq hP, there_eq hP, h.isS, Option.bind_some]
  have e0 : ((mlI smap s).getD none).isNone = !(ix smap s).isSome := by unfold ix; cases ((mlI smap s).getD none) <;> rfl
  rw [e0]
  cases hx : ix smap s with
  | none =>
    simp only [Option.isSome_none, Bool.not_false, cond_true]
    exact ⟨0, 4, smap, mp, pg, R, rfl, rfl, h, Fr.refl _ _ _, rfl⟩
  | some i =>
    simp only [Option.isSome_some, Bool.not_true, cond_false]
    have hsp := h.sp
    have hix := hsp.ix_some hx
    have hin : inb s 17 = true := inb_true (by omega) (by omega)
    have hsE : ((⟨s.toNat, inb_lt hin⟩ : Fin 17).1 : Int) = s := Int.toNat_of_nonneg (by omega)
    rcases make_eq hP hN (d := d) (d' := d' + 1) h row with ⟨r, hr, h1, h2, f1, f2, hM⟩ | ⟨f1, f2⟩
    · obtain ⟨_, m1, m2⟩ := h.make hr h1 h2
      have hne : s ≠ (r : Int) := fun e => by rw [e, h2] at hx; cases hx
      have hx' : ix (mpI smap r (some mp.length)) s = some i := by rw [ix_put, if_neg (fun e => hne e.symm), hx]
      have hxr : ix (mpI smap r (some mp.length)) (r : Int) = some mp.length := by rw [ix_put, if_pos rfl]
      have hi' : i < (mp ++ [[]]).length := (hM.sp.ix_some hx').2.2.2
      have hrn : inb (r : Int) 17 = true := inb_true (by omega) (by omega)
      have hrE : ((⟨(r : Int).toNat, inb_lt hrn⟩ : Fin 17).1 : Int) = (r : Int) := Int.toNat_of_nonneg (Int.natCast_nonneg r)
      have hsx : ix (mpI smap r (some mp.length)) (⟨s.toNat, inb_lt hin⟩ : Fin 17).1 = some i := by rw [hsE]; exact hx'
      have htx : ix (mpI smap r (some mp.length)) (⟨(r : Int).toNat, inb_lt hrn⟩ : Fin 17).1 = some mp.length := by rw [hrE]; exact hxr
      have hnee : ((⟨s.toNat, inb_lt hin⟩ : Fin 17).1 : Int) ≠ (⟨(r : Int).toNat, inb_lt hrn⟩ : Fin 17).1 := by rw [hsE, hrE]; exact hne
      have hrun := fork_run hP N (d + 1) row hM hsx htx hnee (by rw [hrE]; exact m1)
      rw [hsE, hrE] at hrun
      have hmg : (mlI (mpI smap r (some mp.length)) s).getD none = some i := hx'
      rw [f1, f2, Option.bind_some, Option.bind_some, neF rfl, cond_false, bT rfl, cond_true, hmg, Option.bind_some, ent_at hx' hi', Option.bind_some, hrun, dif_pos hin, dif_pos hrn]
      obtain ⟨k1, k2⟩ := perm_mem (hM.sp.ms s) (List.Perm.refl _)
      obtain ⟨_, R1, g2, g3, g4, g5, g6, g7⟩ := fork_fold hsx htx hnee (ent (mpI smap r (some mp.length)) (mp ++ [[]]) s) _ _ _ hM k1 (fun x hx => by rw [hsE]; exact k2 x hx) (fun k e h' => by rw [hrE, m1, mlI_nil] at h'; cases h')
      rw [hrE, m1, put_perm (hM.sp.ms s) (List.Perm.refl _)] at g2
      have hfin := g2.congR (R' := u3 (mkR R r hr) (sA (mkR R r hr).2.2.2.1 ⟨(r : Int).toNat, inb_lt hrn⟩ (gA (mkR R r hr).2.2.2.1 ⟨s.toNat, inb_lt hin⟩))) g3.symm g4.symm g5.symm (fun a b => by
        show gA (gA (sA (mkR R r hr).2.2.2.1 ⟨(r : Int).toNat, inb_lt hrn⟩ (gA (mkR R r hr).2.2.2.1 ⟨s.toNat, inb_lt hin⟩)) a) b = _
        rw [gA_sA, g6]
        by_cases ha : (⟨(r : Int).toNat, inb_lt hrn⟩ : Fin 17) = a
        · rw [if_pos ha]
          by_cases hb : (b.1 : Int) ∈ (ent (mpI smap r (some mp.length)) (mp ++ [[]]) s).map (·.1)
          · rw [if_pos ⟨ha, hb⟩]; rfl
          · rw [if_neg (fun h => hb h.2)]
            show cl (mkR R r hr) ⟨s.toNat, inb_lt hin⟩ b = _
            rw [hM.cells, hM.cells, hsE, ← ha, hrE, m1, mlI_nil]
            cases he : mlI (ent (mpI smap r (some mp.length)) (mp ++ [[]]) s) b.1 with
            | none => rfl
            | some e => exact absurd (List.mem_map.2 ⟨((b.1 : Int), e), (mlI_mem (hM.sp.ms s) _ e).1 he, rfl⟩) hb
        · rw [if_neg ha, if_neg (fun h => ha h.1)]; rfl)
      refine ⟨r, 0, _, _, _, _, rfl, rfl, hfin, fun hl => ?_, rfl⟩
      rw [g7]
      omega
    · rw [f1, f2, Option.bind_some, Option.bind_some, neT (by simp only; omega), cond_true, bF (by simp only; omega), cond_false]
      exact ⟨0, 6, smap, mp, pg, R, rfl, rfl, h, Fr.refl _ _ _, rfl⟩
end
end sp
end Go.Proofs.Ytmjkechkdfobgaa.pv
namespace Go.Proofs.Ytmjkechkdfobgaa.pv
set_option linter.all false
open Go.RowKit
namespace sp
section
variable {F S : Int} {st : St} {smap : SM} {π : Nat → Int} {L : List Nat} {mp : MP} {pg : List Pg} {R : Ref}
variable {P : Program} (hP : P = Try.prog)
include hP
theorem askByte_eq {N d : Nat} (hN : 1001 ≤ N) (h : Rel F S st L smap mp pg R π) (hS : S ≤ 64) (hclk : st.2.2.1 ≤ 900000) (hpt : R.2.1 ≤ 900000) (q : S_ringlaw2_Ask) :
    ∃ (st' : St) (L' : List Nat) (mp' : MP) (pg' : List Pg) (R' : Ref) (π' : Nat → Int), G_ringlaw2_askByte P N (d + 7) q st (L.map some) smap R pg mp = some (true, st', R', pg', mp', L'.map some, ()) ∧
      Rel F S st' L' smap mp' pg' R' π' ∧ Fr F pg L pg' L' ∧ st'.2.2.1 ≤ st.2.2.1 + 600 ∧ R'.2.1 ≤ R.2.1 + 600 := by
  rw [G_ringlaw2_askByte_eq hP]
  have hu := wu32_nn q.2.2.2.2.2.1
  by_cases h1 : q.1 = 10
  · obtain ⟨x, o, e, st', pg', a1, a2, a3, a4, a5, a6, a7⟩ := load_eq hP hN (d := d + 2) (d' := d + 3) h hclk q.2.1 (wi .u32 q.2.2.2.2.2.1) q.2.2.2.2.1 hu
    rw [bT h1, cond_true, a1, Option.bind_some, a2, Option.bind_some]
    refine ⟨st', L, mp, pg', R, π, ?_, a3, a4, by omega, by omega⟩
    simp only [bT (a := e) rfl, cond_true]
    by_cases he : e = 0
    · rw [bT he, cond_true, show ((0 : Int).toNat) = 0 from rfl, a6 he, Option.bind_some, bT (a := x) rfl, cond_true, Option.bind_some]
    · rw [bF he, cond_false, neT he, cond_true, a7 he]
      rfl
  · rw [bF h1, cond_false]
    by_cases h2 : q.1 = 11
    · obtain ⟨e, st', L', mp', pg', R', π', a1, a2, a3, a4, a5, a6⟩ := store_eq hP hN (d := d) (d' := d + 3) h hS hclk hpt q.2.1 (wi .u32 q.2.2.2.2.2.1) (wi .u8 q.2.2.2.1)
      rw [bT h2, cond_true, show ((0 : Int).toNat) = 0 from rfl, lget_cons0, Option.bind_some, a1, Option.bind_some, a2, Option.bind_some]
      refine ⟨st', L', mp', pg', R', π', ?_, a3, a4, by omega, by omega⟩
      simp only [bT (a := e) rfl]
    · rw [bF h2, cond_false]
      exact ⟨st, L, mp, pg, R, π, rfl, h, Fr.refl _ _ _, by omega, by omega⟩
theorem askBoth_eq {N d : Nat} (hN : 1001 ≤ N) (h : Rel F S st L smap mp pg R π) (hS : S ≤ 64) (hclk : st.2.2.1 ≤ 900000) (hpt : R.2.1 ≤ 900000) (q : S_ringlaw2_Ask) (ha : -9223372036854775808 ≤ q.2.2.2.2.2.1 ∧ q.2.2.2.2.2.1 ≤ 9223372036854775807) :
    ∃ (st' : St) (L' : List Nat) (smap' : SM) (mp' : MP) (pg' : List Pg) (R' : Ref) (π' : Nat → Int), G_ringlaw2_askBoth P N (d + 8) q st (L.map some) smap R pg mp = some (true, st', R', pg', mp', L'.map some, smap', ()) ∧
      Rel F S st' L' smap' mp' pg' R' π' ∧ Fr F pg L pg' L' ∧ st'.2.2.1 ≤ st.2.2.1 + 600 ∧ R'.2.1 ≤ R.2.1 + 600 := by
  rw [G_ringlaw2_askBoth_eq hP]
  by_cases h1 : q.1 = 1
  · rw [bT h1, cond_true]
    rcases make_eq hP hN (d := d + 6) (d' := d + 6) h (L.map some) with ⟨r, hr, h1, h2, f1, f2, hM⟩ | ⟨f1, f2⟩
    · rw [f1, f2, Option.bind_some, Option.bind_some]
      refine ⟨st, L, _, _, pg, _, π, ?_, hM, Fr.refl _ _ _, by omega, by show R.2.1 ≤ _; omega⟩
      simp only [bT (a := (r : Int)) rfl, bT (a := (0 : Int)) rfl, cond_true, Option.bind_some]
    · rw [f1, f2, Option.bind_some, Option.bind_some]
      exact ⟨st, L, smap, mp, pg, R, π, rfl, h, Fr.refl _ _ _, by omega, by omega⟩
  rw [bF h1, cond_false]
  by_cases h1 : q.1 = 2
  · obtain ⟨t, e, smap', mp', pg', R', a1, a2, a3, a4, a5⟩ := fork_eq hP hN (d := d + 5) (d' := d + 4) h (L.map some) q.2.1
    rw [bT h1, cond_true, a1, Option.bind_some, a2, Option.bind_some]
    refine ⟨st, L, smap', mp', pg', R', π, ?_, a3, a4, by omega, by omega⟩
    simp only [bT (a := t) rfl, bT (a := e) rfl, cond_true, Option.bind_some]
  rw [bF h1, cond_false]
  by_cases h1 : q.1 = 3
  · obtain ⟨e, L', smap', mp', pg', R', a1, a2, a3, a4, a5⟩ := drop_eq hP hN (d := d + 2) (d' := d + 4) h q.2.1
    rw [bT h1, cond_true, a1, Option.bind_some, a2, Option.bind_some]
    refine ⟨st, L', smap', mp', pg', R', π, ?_, a3, a4, by omega, by omega⟩
    simp only [bT (a := e) rfl]
  rw [bF h1, cond_false]
  by_cases h1 : q.1 = 4
  · obtain ⟨e, st', L', mp', pg', R', π', a1, a2, a3, a4, a5, a6⟩ := map_eq hP hN (d := d + 3) (d' := d + 3) h hclk hpt q.2.1 q.2.2.1 q.2.2.2.1 q.2.2.2.2.1
    rw [bT h1, cond_true, a1, Option.bind_some, a2, Option.bind_some]
    refine ⟨st', L', smap, mp', pg', R', π', ?_, a3, a4, by omega, by omega⟩
    simp only [bT (a := e) rfl]
  rw [bF h1, cond_false]
  by_cases h1 : q.1 = 5
  · obtain ⟨e, L', mp', pg', R', a1, a2, a3, a4, a5⟩ := unmap_eq hP hN (d := d + 2) (d' := d + 3) h q.2.1 q.2.2.1 q.2.2.2.1
    rw [bT h1, cond_true, a1, Option.bind_some, a2, Option.bind_some]
    refine ⟨st, L', smap, mp', pg', R', π, ?_, a3, a4, by omega, ?_⟩
    · simp only [bT (a := e) rfl]
    · omega
  rw [bF h1, cond_false]
  by_cases h1 : q.1 = 6
  · obtain ⟨e, mp', R', a1, a2, a3, a4⟩ := protect_eq hP hN (d := d + 5) (d' := d + 3) h (L.map some) q.2.1 q.2.2.1 q.2.2.2.1 q.2.2.2.2.1
    rw [bT h1, cond_true, a1, Option.bind_some, a2, Option.bind_some]
    refine ⟨st, L, smap, mp', pg, R', π, ?_, a3, Fr.refl _ _ _, by omega, ?_⟩
    · simp only [bT (a := e) rfl]
    · omega
  rw [bF h1, cond_false]
  by_cases h1 : q.1 = 7
  · obtain ⟨e, st', L', mp', pg', R', π', a1, a2, a3, a4, a5, a6⟩ := put_eq hP hN (d := d + 3) (d' := d + 3) h hclk hpt q.2.1 q.2.2.1 q.2.2.2.2.1 q.2.2.2.2.2.2.1
    rw [bT h1, cond_true, a1, Option.bind_some, a2, Option.bind_some]
    refine ⟨st', L', smap, mp', pg', R', π', ?_, a3, a4, by omega, by omega⟩
    simp only [bT (a := e) rfl]
  rw [bF h1, cond_false]
  by_cases h1 : q.1 = 8
  · obtain ⟨o, e, st', pg', a1, a2, a3, a4, a5, a6⟩ := read_eq hP hN (d := d + 3) (d' := d + 4) h hclk q.2.1 q.2.2.2.2.2.1 q.2.2.2.1 ha
    rw [bT h1, cond_true, a1, Option.bind_some, a2, Option.bind_some, equal_self2 hP hN o (by omega), Option.bind_some]
    refine ⟨st', L, smap, mp, pg', R, π, ?_, a3, a4, by omega, by omega⟩
    simp only [cond_true, bT (a := e) rfl, Option.bind_some]
  rw [bF h1, cond_false]
  by_cases h1 : q.1 = 9
  · obtain ⟨e, st', L', mp', pg', R', π', a1, a2, a3, a4, a5, a6⟩ := write_eq hP hN (d := d + 2) (d' := d + 4) h hS hclk hpt q.2.1 q.2.2.2.2.2.1 q.2.2.2.2.2.2.1
    rw [bT h1, cond_true, a1, Option.bind_some, a2, Option.bind_some]
    refine ⟨st', L', smap, mp', pg', R', π', ?_, a3, a4, by omega, by omega⟩
    simp only [bT (a := e) rfl]
  rw [bF h1, cond_false]
  obtain ⟨st', L', mp', pg', R', π', a1, a2⟩ := askByte_eq hP hN (d := d) h hS hclk hpt q
  rw [a1, Option.bind_some]
  exact ⟨st', L', smap, mp', pg', R', π', rfl, a2⟩
end
end sp
end Go.Proofs.Ytmjkechkdfobgaa.pv
namespace Go.Proofs.Ytmjkechkdfobgaa.pv
set_option linter.all false
open Go.RowKit
namespace sp
section
variable {F S : Int}
variable {P : Program} (hP : P = Try.prog)
include hP
theorem j24_eq {st : St} {smap : SM} {π : Nat → Int} {L : List Nat} {mp : MP} {pg : List Pg} {R : Ref} {N d k : Nat} (hN : 1001 ≤ N) (h : Rel F S st L smap mp pg R π) (was parts : Int) (l : List S_ringlaw2_Ask) (n : Int) (t : Nat) (ht : t ≤ 1000) (q : S_ringlaw2_Ask) (hp : 0 ≤ parts ∧ parts ≤ 1000) (hw : -1000 ≤ was ∧ was ≤ 1000)
    (hq : q.1 = 12 ∨ (parts ≤ (L.length : Int) → F - hereC pg L ≤ max 1 (was - ((L.length : Int) - parts)))) :
    G_ringlaw2_SpaceTells_J24 P N (d + 8) k F S was parts l n (t : Int) pg mp st (L.map some) smap R q = G_ringlaw2_SpaceTells_L8 P N (d + 8) k F S l n ((t + 1 : Nat) : Int) pg mp st (L.map some) smap R := by
  have h1 := h.fr; have h2 := h.sr; have h3 := h.len; have h4 := h.here; have h5 := h.slot
  have h6 := hereC_le pg L
  rw [G_ringlaw2_SpaceTells_J24_eq hP, h.free hP hN, Option.bind_some]
  simp only
  rw [dF (p := F - (hereC pg L : Int) < 0) (by omega), cond_false, dF (p := F - (hereC pg L : Int) > F) (by omega), cond_false, dF (p := S - ((L.length : Int) - hereC pg L) < 0) (by omega), cond_false, dF (p := S - ((L.length : Int) - hereC pg L) > S) (by omega), cond_false, h.live hP hN]
  simp only [Option.bind_some]
  rw [wi64 (x := F - (hereC pg L : Int) + (S - ((L.length : Int) - hereC pg L))) (by omega) (by omega), wi64 (x := F + S) (by omega) (by omega), wi64 (x := F + S - (L.length : Int)) (by omega) (by omega), neF (by omega), cond_false, wi64 (x := (L.length : Int) - parts) (by omega) (by omega), wi64 (x := was - ((L.length : Int) - parts)) (by omega) (by omega)]
  have hb : (bif decide ((L.length : Int) - parts ≥ 0) then bif q.1 != 12 then some (decide (F - (hereC pg L : Int) > maxI 1 (was - ((L.length : Int) - parts)))) else some false else some false) = some false := by
    by_cases h7 : (L.length : Int) - parts ≥ 0
    · rw [dT h7, cond_true]
      rcases hq with hq | hq
      · rw [neF hq, cond_false]
      · have h8 := hq (by omega)
        cases q.1 != 12 with
        | false => rfl
        | true =>
          rw [cond_true, dF]
          unfold maxI
          split <;> omega
    · rw [dF h7, cond_false]
  rw [hb, Option.bind_some, cond_false, spaces_eq hP st (L.map some) smap h.sp.srt (by have := h.smlen; omega), Option.bind_some, rspaces_eq hP hN, Option.bind_some, ← h.spaces, equal_self hP hN _ (by rw [List.length_map]; have := h.smlen; omega), Option.bind_some]
  simp only [Bool.not_true, cond_false]
  rw [wi_nat (by omega)]
theorem loop (hS : S ≤ 64) {N d : Nat} (hN : 1001 ≤ N) (l : List S_ringlaw2_Ask) (ha : ∀ q ∈ l, -9223372036854775808 ≤ q.2.2.2.2.2.1 ∧ q.2.2.2.2.2.1 ≤ 9223372036854775807) : ∀ (f t : Nat) (st : St) (smap : SM) (π : Nat → Int) (L : List Nat) (mp : MP) (pg : List Pg) (R : Ref), Rel F S st L smap mp pg R π → t ≤ 60 → 60 - t < f → st.2.2.1 ≤ 600 * t → R.2.1 ≤ 600 * t →
    ∃ s1 s2, G_ringlaw2_SpaceTells_L8 P N (d + 8) f F S l (l.length : Int) (t : Int) pg mp st (L.map some) smap R = some (true, s1, s2, ())
  | 0, t, _, _, _, _, _, _, _, _, _, h, _, _ => by omega
  | f + 1, t, st, smap, π, L, mp, pg, R, h, ht, hf, hc, hp => by
    rw [G_ringlaw2_SpaceTells_L8_eq hP]
    by_cases h0 : t < l.length
    · have h1 := h.fr; have h2 := h.sr; have h3 := h.len; have h4 := h.here; have h5 := h.slot; have hst := h.s
      have h6 := hereC_le pg L
      rw [dT (p := (t : Int) < (l.length : Int)) (by omega), cond_true, dT (p := 0 ≤ (t : Int)) (by omega), cond_true, Int.toNat_natCast, lget_lt h0, Option.bind_some]
      by_cases h60 : t = 60
      · rw [dT (by omega), cond_true]
        exact ⟨pg, mp, rfl⟩
      · rw [dF (by omega), cond_false, h.free hP hN, Option.bind_some, h.live hP hN, Option.bind_some]
        simp only
        by_cases hk : (l[t]).1 = 12
        · obtain ⟨pg', m, e1, e2, e3, e4⟩ := recl_eq hP hN (d := d + 6) (l[t]).2.2.2.1 st smap L pg h.nd h.lt (by omega) (by omega) (by omega)
          rw [hst] at e4
          have hR' : Rel F S st L smap mp pg' R π := h.alk rfl rfl h.clk e2 (by omega) (by omega)
          have hm : minI (minI (maxI (l[t]).2.2.2.1 0) (wi .i64 (F - (F - (hereC pg L : Int))))) (S - ((L.length : Int) - hereC pg L)) = (m : Int) := by
            rw [wi64 (by omega) (by omega), e4]
            unfold minI maxI
            split <;> split <;> split <;> omega
          have h7 := hereC_le pg' L
          rw [bT hk, cond_true, e1, Option.bind_some]
          simp only [hm]
          rw [neF rfl, cond_false, hR'.free hP hN, Option.bind_some]
          simp only
          rw [wi64 (x := F - (hereC pg L : Int) + m) (by omega) (by omega), neF (by omega), cond_false, wi64 (x := S - ((L.length : Int) - hereC pg L) - m) (by omega) (by omega), neF (by omega), Option.bind_some, cond_false]
          rw [j24_eq hP hN hR' _ _ l _ t (by omega) _ (by omega) (by omega) (.inl hk)]
          exact loop hS hN l ha f (t + 1) st smap π L mp pg' R hR' (by omega) (by omega) (by omega) (by omega)
        · rw [bF hk, cond_false]
          obtain ⟨st', L', smap', mp', pg', R', π', e1, e2, e3, e4, e5⟩ := askBoth_eq hP hN (d := d) h hS (by omega) (by omega) (l[t]) (ha _ (List.getElem_mem _))
          rw [e1, Option.bind_some]
          simp only [Bool.not_true, cond_false]
          rw [j24_eq hP hN e2 _ _ l _ t (by omega) _ (by omega) (by omega) (.inr fun hle => e3 (by omega))]
          exact loop hS hN l ha f (t + 1) st' smap' π' L' mp' pg' R' e2 (by omega) (by omega) (by omega) (by omega)
    · rw [dF (by omega), cond_false]
      exact ⟨pg, mp, rfl⟩
theorem law {N d : Nat} (hN : 1001 ≤ N) (F S : Int) (l : List S_ringlaw2_Ask) (ha : ∀ q ∈ l, -9223372036854775808 ≤ q.2.2.2.2.2.1 ∧ q.2.2.2.2.2.1 ≤ 9223372036854775807) :
    ∃ s1 s2, G_ringlaw2_SpaceTells P N (d + 9) F S l [] [] = some (true, s1, s2, ()) := by
  rw [G_ringlaw2_SpaceTells_eq hP, G_space_New_eq hP]
  have hin : ∀ x : Int, x = 1 → G_ringlaw2_SpaceTells_J2 P N (d + 8) F S l x [] [] = (if (4 ≤ F ∧ F ≤ 64) ∧ (0 ≤ S ∧ S ≤ 64) then some (false, [], [], ()) else some (true, [], [], ())) := fun x hx => by
    rw [G_ringlaw2_SpaceTells_J2_eq hP, in_eq hP, Option.bind_some]
    by_cases h1 : 4 ≤ F ∧ F ≤ 64
    · rw [dT h1]
      simp only [Bool.not_true, cond_false]
      rw [in_eq hP, Option.bind_some, Option.bind_some]
      by_cases h2 : 0 ≤ S ∧ S ≤ 64
      · rw [dT h2, if_pos ⟨h1, h2⟩]; rfl
      · rw [dF h2, if_neg (fun h => h2 h.2), bT hx]; rfl
    · rw [dF h1, if_neg (fun h => h1 h.1), bT hx]; rfl
  by_cases h1 : F < 4
  · rw [dT h1]
    simp only [cond_true, Option.bind_some]
    rw [hin 1 rfl, if_neg (by omega)]
    exact ⟨_, _, rfl⟩
  by_cases h2 : F > 64
  · rw [dF h1, dT h2]
    simp only [cond_true, cond_false, Option.bind_some]
    rw [hin 1 rfl, if_neg (by omega)]
    exact ⟨_, _, rfl⟩
  by_cases h3 : S < 0
  · rw [dF h1, dF h2, dT h3]
    simp only [cond_true, cond_false, Option.bind_some]
    rw [hin 1 rfl, if_neg (by omega)]
    exact ⟨_, _, rfl⟩
  by_cases h4 : S > 64
  · rw [dF h1, dF h2, dF h3, dT h4]
    simp only [cond_true, cond_false, Option.bind_some]
    rw [hin 1 rfl, if_neg (by omega)]
    exact ⟨_, _, rfl⟩
  rw [dF h1, dF h2, dF h3, dF h4]
  simp only [cond_false, Option.bind_some]
  rw [G_ringlaw2_SpaceTells_J2_1_eq hP, in_eq hP, Option.bind_some, dT (p := 4 ≤ F ∧ F ≤ 64) (by omega)]
  simp only [Bool.not_true, cond_false]
  rw [in_eq hP, Option.bind_some, Option.bind_some, dT (p := 0 ≤ S ∧ S ≤ 64) (by omega)]
  simp only [Bool.not_true, cond_false]
  rw [neF rfl, cond_false]
  exact loop hP (by omega) hN l ha N 0 _ [] _ [] [] [] _ (rel_init (F := F) (S := S) (by omega) (by omega)) (by omega) (by omega) (by show (0 : Int) ≤ _; omega) (by show (0 : Int) ≤ _; omega)
end
end sp
end Go.Proofs.Ytmjkechkdfobgaa.pv
