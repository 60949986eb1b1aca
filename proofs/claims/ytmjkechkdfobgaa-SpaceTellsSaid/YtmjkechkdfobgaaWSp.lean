/- slices.Sort at []int: the kit's contract, as the interpreter's word. -/
import Derived.Test.YtmjkechkdfobgaaWCa
import Derived.Test.YtmjkechkdfobgaaShelf
namespace Go.Proofs.Ytmjkechkdfobgaa.pv
set_option linter.all false
open Go.RowKit Go.Sort
theorem RE_ints {ow : Ow} {w : World} : ∀ {L : List Int} {cells : List Value}, RE ow w 1 (L.map (eI .i64)) cells → cells = L.map (Value.int .i64)
  | [], _, h => by simpa only [List.map_nil, RE] using h
  | x :: L, cells, h => by
    simp only [List.map_cons, RE, eI, R] at h
    obtain ⟨u, r, e, h1, h2, ⟨h3, _⟩, h4⟩ := h
    subst h3
    rw [e, RE_ints h4]; rfl
theorem RE_ofInts {ow : Ow} {w : World} : ∀ L : List Int, RE ow w 1 (L.map (eI .i64)) (L.map (Value.int .i64))
  | [] => by simp only [List.map_nil, RE]
  | x :: L => by
    simp only [List.map_cons, RE, eI, R]
    exact ⟨.int .i64 x, L.map (Value.int .i64), rfl, rfl, by
      intro v hv
      have : v = .int .i64 x := by simpa [Value.cells] using hv
      subst this; rfl, ⟨rfl, rfl⟩, RE_ofInts L⟩
/-- in order -/
def srtL (l : List Int) : List Int := l.mergeSort fun x y => decide (x ≤ y)
theorem srtL_len (l : List Int) : (srtL l).length = l.length := List.length_mergeSort l
theorem sort_ret (zs : List Int) (hz : zs.length < 1000000) : RetH Try.prog 53 [.srf 0] [.row 3 1 (zs.map (eI .i64))] (.tup []) [.row 3 1 ((srtL zs).map (eI .i64))] := by
  refine ⟨⟨_, Try.func53, by kernel_rfl, by kernel_rfl⟩, fun o ho g hg => ?_, fun c hd vs S hr => ?_⟩
  · have := List.mem_singleton.1 ho
    subst this; cases hg
  simp only [RFT, RF] at hr
  obtain ⟨v, r, rfl, ⟨ha, rfl, h1c⟩, rfl⟩ := hr
  obtain ⟨cells, hown, hbs, hre⟩ := S.objs 0 _ rfl
  have hcells := RE_ints hre
  subst hcells
  rw [List.length_map] at hown
  obtain ⟨_, hown⟩ := hown
  rcases hown with ⟨hh, hn⟩ | ⟨g, cap, cur, hh, hbase, hg, hcap, hmax, hsz, htk⟩
  · have hnil : zs = [] := List.length_eq_zero_iff.1 hn
    subst hnil
    rw [hh]
    refine (Try.slices_Sort_int_none none 0 c.w).mono fun e w' h => ?_
    obtain ⟨rfl, rfl⟩ := h
    rw [show srtL [] = [] from by simp [srtL]]
    refine ⟨_, c.ow, hd, rfl, Keep.refl c, fun _ _ => rfl, ?_, fun l h => ⟨h, rfl⟩, ?_⟩
    · exact S
    · simp only [RF]; exact ⟨[], rfl, by simp only [RFT]⟩
  · rw [hh]
    have hblk : g < c.w.heap.size := (Array.getElem?_eq_some_iff.1 hg).1
    have hcur : ∀ j, j < zs.length → cur[j]? = some (Value.int .i64 zs[j]!) := by
      intro j hj
      have : (cur.toList.take (zs.length * 1))[j]? = some (Value.int .i64 zs[j]!) := by
        rw [htk, List.getElem?_map, List.getElem?_eq_getElem hj, getElem!_pos zs j hj]; rfl
      rw [List.getElem?_take] at this
      split at this
      · simpa using this
      · cases this
    have hH : Holds (Value.int .i64) c.w g 0 zs.toArray := by
      intro j hj
      have hj' : j < zs.length := by simpa using hj
      refine ⟨?_, ?_⟩
      · have := hcur j hj'
        simp only [World.cell?, hg, Nat.zero_add]
        simpa using this
      · simp [World.frozen?, hg]
    have hsz2 := srtL_len zs
    refine (Try.slices_Sort_int g 0 cap zs c.w hH hblk (by omega)).mono fun e w' h => ?_
    obtain ⟨rfl, n, os, hw0⟩ := h
    have hw' : grow (putRow (Value.int .i64) (Sort.ahead c.w n) g 0 (srtL zs).toArray) os = w' := hw0.symm
    have hW : ∀ k, k < c.w.heap.size → k ≠ g → (grow (putRow (Value.int .i64) (Sort.ahead c.w n) g 0 (srtL zs).toArray) os).heap[k]? = c.w.heap[k]? := by
      intro k hk hne
      rw [heap_grow_old _ _ (by simpa using hk)]
      simp [putRow, mapBlock, Array.getElem?_modify, Ne.symm hne]
    have hG : (grow (putRow (Value.int .i64) (Sort.ahead c.w n) g 0 (srtL zs).toArray) os).heap[g]? = some (.cells (putCells (Value.int .i64) 0 (srtL zs).toArray cur) 3 (0, 0)) := by
      rw [heap_grow_old _ _ (by simpa using hblk)]
      simp [putRow, mapBlock, Array.getElem?_modify, hg, onCells]
    have hS : (grow (putRow (Value.int .i64) (Sort.ahead c.w n) g 0 (srtL zs).toArray) os).heap.size = c.w.heap.size + os.size := by simp
    have hT : (putCells (Value.int .i64) 0 (srtL zs).toArray cur).toList.take ((srtL zs).length * 1) = (srtL zs).map (Value.int .i64) := by
      apply List.ext_getElem?
      intro k
      rw [List.getElem?_take, List.getElem?_map]
      by_cases hk : k < (srtL zs).length
      · rw [if_pos (by omega), Array.getElem?_toList, putCells, Array.getElem?_mapIdx, Array.getElem?_eq_getElem (by omega), Option.map_some, if_pos ⟨by omega, by simp; omega⟩, List.getElem?_eq_getElem hk]
        simp [hk]
      · rw [if_neg (by omega), List.getElem?_eq_none (by omega)]; rfl
    have hown := hbs g (by rw [hh]; simp [blocksOf, blockOf])
    rw [hw'] at hW hG hS
    have hos : w'.os = c.w.os ∧ w'.tape = c.w.tape ∧ w'.output = c.w.output := by rw [← hw']; exact ⟨rfl, rfl, rfl⟩
    have hk : Kp c.ow c.w c.ow w' := ⟨by omega, fun _ _ h => h, fun b hb h => hW b hb fun e => by rw [e, hown.2] at h; cases h⟩
    have hkt : Kt c c.w w' := ⟨hos.1, hos.2.1, hos.2.2, by omega, fun k hk hown' => hW k hk fun e => by
      have := hown.1
      subst e
      simp only [Cx.New] at this
      rcases this with this | this
      · omega
      · rw [this] at hown'; cases hown'⟩
    have hob := S.obj (l := 0) (hv := hd 0) (o := .row 3 1 ((srtL zs).map (eI .i64))) hk hkt (fun b hb => S.fresh b (by omega)) (.inr rfl) (.inr rfl)
      ⟨(srtL zs).map (Value.int .i64), ⟨by simp, .inr ⟨g, cap, _, by rw [hh, List.length_map, hsz2], hbase, hG, by rw [List.length_map, hsz2]; exact hcap, hmax, by simp [putCells]; omega, by rw [List.length_map]; exact hT⟩⟩, hbs, RE_ofInts _⟩
      (fun j oj b hj hm => by
        cases j with
        | zero => exact absurd rfl hj
        | succ j => cases hm)
    refine ⟨_, c.ow, _, rfl, Keep.refl c, fun _ _ => rfl, hob.1, hob.2, ?_⟩
    simp only [RF]; exact ⟨[], rfl, by simp only [RFT]⟩
end Go.Proofs.Ytmjkechkdfobgaa.pv
