/-
  'slices.Sort' of texts: the library's contract, read in the frame.
-/
import Derived.Test.YthhgcklidfilfaaUt
import Derived.Test.YthhgcklidfilfaaSm
import Derived.Shelf.Sort.Plain
import Derived.Shelf.Slices.In.SortNone
namespace Go.Proofs.Ythhgcklidfilfaa.BX
set_option linter.unusedSectionVars false
set_option linter.unusedSimpArgs false
set_option linter.unusedVariables false
open Go Go.RowKit Go.Shelf Go.Sort
set_option maxRecDepth 20000
set_option maxHeartbeats 400000
/-- texts sorted -/
def srt (l : List (List UInt8)) : List (List UInt8) := l.mergeSort fun x y => decide (x ≤ y)
theorem srt_perm {l : List (List UInt8)} : List.Perm (srt l) l := List.mergeSort_perm ..
section
variable [Bd]
theorem foot_texts {w : World} : ∀ {l : List (List UInt8)} {vs : List Value} {L : List Nat}, footTs w (l.map T.s) vs L → vs = l.map encStr ∧ ∀ x ∈ l, x.length < Bd.B
  | [], vs, L, h => by simp only [List.map_nil, footTs] at h; exact ⟨h.1, by simp⟩
  | e :: l, vs, L, h => by
    simp only [List.map_cons, footTs, footT] at h
    obtain ⟨v, vs', L1, L2, rfl, _, ⟨rfl, _, h1⟩, h2⟩ := h
    obtain ⟨rfl, h3⟩ := foot_texts h2
    exact ⟨rfl, by simpa using ⟨h1, h3⟩⟩
theorem texts_foot {w : World} : ∀ {l : List (List UInt8)}, (∀ x ∈ l, x.length < Bd.B) → footTs w (l.map T.s) (l.map encStr) []
  | [], _ => by simp [footTs]
  | x :: l, h => by
    simp only [List.map_cons, footTs, footT]
    exact ⟨_, _, [], [], rfl, rfl, ⟨rfl, rfl, h x (by simp)⟩, texts_foot fun y hy => h y (by simp [hy])⟩
theorem cellsL_texts {l : List (List UInt8)} : cellsL (l.map encStr) = l.map encStr := by
  induction l with
  | nil => rfl
  | cons x l ih => simp only [cellsL, List.map_cons, List.flatMap_cons] at ih ⊢; rw [ih]; rfl
theorem sortS (l : List (List UInt8)) (hB : Bd.B ≤ 4611686018427387904) : ConM P0 174 [.sr 0] [.arr 9 1 (.own .leaf) (l.map T.s)] (.tp []) [.arr 9 1 (.own .leaf) ((srt l).map T.s)] := by
  refine ⟨⟨_, Try.func174, rfl, rfl⟩, ?_⟩
  intro w L M vals hv S F hr
  have hsz : vals.length = 1 := by simpa using hr.size
  obtain ⟨v, rfl⟩ : ∃ v, vals = [v] := List.length_eq_one_iff.1 hsz
  obtain ⟨L0, h0, _⟩ := hr.tm 0
  have e0 : v = hv 0 := by
    have : v = hv 0 ∧ L0 = [] := by simpa [numA, getL, footA] using h0
    exact this.1
  subst e0
  obtain ⟨vs, hrow, ⟨L2, hown, _⟩, hvsz, hlen, hones⟩ := hr.ob 0 _ rfl
  obtain ⟨L3, hfoot, _⟩ := ownEs_foot _ _ hown
  obtain ⟨rfl, hbl⟩ := foot_texts hfoot
  rw [cellsL_texts] at hrow
  rcases hrow.2 with ⟨hnil, hn0⟩ | ⟨g, cap, cur, hvg, hbg, hheap, hnc, hcm, hcs, htake⟩
  · have hls : l = [] := List.eq_nil_of_length_eq_zero (by simpa using hn0)
    subst hls
    have hcall := Any.slices_Sort_string_none Try.sortS none 0 w
    change Calls P0 174 _ _ _ at hcall
    have hvn : hv 0 = .slice none 0 0 := hnil
    rw [hvn]
    refine hcall.mono fun e w' ⟨he, hw⟩ => ?_
    subst hw
    have hs : srt [] = [] := by simp [srt]
    rw [hs]
    exact ⟨.tuple #[], hv, S, F, [], he, hr.no_tmp, by simp [footA, footAs], by simp, rfl⟩
  · have hn3 : (l.map T.s).length = l.length := by simp
    rw [hn3] at hnc htake hvg
    have hcn : l.length ≤ cur.size := by rw [hcs]; omega
    have hH : Go.Sort.Holds encStr w g 0 l.toArray := by
      intro j hj
      have hj' : j < l.length := by simpa using hj
      have hcur : cur[j]? = some (encStr l[j]) := by
        have h : (cur.toList.take (l.length * 1))[j]? = (l.map encStr)[j]? := by rw [htake]
        rw [List.getElem?_take_of_lt (by omega), List.getElem?_map, List.getElem?_eq_getElem hj'] at h
        simpa using h
      refine ⟨?_, ?_⟩
      · simp only [World.cell?, hheap, Nat.zero_add, id]
        simpa [hj'] using hcur
      · simp [World.frozen?, hheap]
    have hsmall : l.length < Bd.B := by rw [hn3] at hlen; exact hlen
    have hhi := Bd.hi
    have hcall := Any.slices_Sort_string Try.sortS g 0 cap l w hH (heap_lt hheap) (by omega)
    change Calls P0 174 _ _ _ at hcall
    rw [hvg]
    refine hcall.mono fun e w' ⟨he, n, os, hw⟩ => ?_
    change w' = grow (putRow encStr (Sort.ahead w n) g 0 (srt l).toArray) os at hw
    have hd : (srt l).length = l.length := srt_perm.length_eq
    obtain ⟨w1, hw1⟩ : ∃ w1, putRow encStr (Sort.ahead w n) g 0 (srt l).toArray = w1 := ⟨_, rfl⟩
    have hh1 : w1.heap = w.heap.modify g (onCells (putCells encStr 0 (srt l).toArray)) := by rw [← hw1]; rfl
    have hg1 : w1.heap[g]? = some (.cells (putCells encStr 0 (srt l).toArray cur) 9 (0, 0)) := by
      rw [hh1, Array.getElem?_modify, if_pos rfl, hheap]; rfl
    have ho1 : ∀ k, k ≠ g → w1.heap[k]? = w.heap[k]? := fun k hk => by
      rw [hh1, Array.getElem?_modify, if_neg (fun e => hk e.symm)]
    have htk : (putCells encStr 0 (srt l).toArray cur).toList.take (l.length * 1) = (srt l).map encStr := by
      apply List.ext_getElem?
      intro j
      by_cases hj : j < l.length
      · rw [List.getElem?_take_of_lt (by omega)]
        have hjc : j < cur.size := by omega
        have hjs : j < (srt l).length := by omega
        simp [putCells, Array.getElem?_toList, Array.getElem?_mapIdx, Array.getElem?_eq_getElem hjc, hd, hj, List.getElem?_eq_getElem hjs]
      · rw [List.getElem?_eq_none (by rw [List.length_take]; omega), List.getElem?_eq_none (by rw [List.length_map]; omega)]
    have hbs : ∀ x ∈ srt l, x.length < Bd.B := fun x hx => hbl x (srt_perm.mem_iff.1 hx)
    have hroot : blkOf (hv 0) = some g := by rw [hvg]; rfl
    have hr1 := hr.write (id := 0) (o' := .arr 9 1 (.own .leaf) ((srt l).map T.s)) rfl (by simp) (w' := w1) (fun k hk => ho1 k (fun e => hk (by rw [hroot, e]))) (by rw [hh1]; simp) (by rw [← hw1]; rfl) (by rw [← hw1]; rfl) (by rw [← hw1]; rfl) (by rw [← hw1]; exact Nat.le_add_right _ _) rfl
      (by
        refine ⟨(srt l).map encStr, ⟨?_, .inr ⟨g, cap, _, ?_, hbg, hg1, ?_, hcm, ?_, ?_⟩⟩, ⟨[], fitsAll_own (fitsAll_map fun _ => rfl) (texts_foot hbs), by simp, by simp⟩, ?_, ?_, ?_⟩
        · rw [cellsL_texts]; simp
        · rw [hvg]; simp [hd]
        · simp [hd]; exact hnc
        · simp [putCells, hcs]
        · rw [cellsL_texts, List.length_map, hd]; exact htk
        · intro v hv
          obtain ⟨x, _, rfl⟩ := List.mem_map.1 hv
          rfl
        · simp only [List.length_map, hd]; exact hsmall
        · intro u hu
          rw [cellsL_texts] at hu
          obtain ⟨x, _, rfl⟩ := List.mem_map.1 hu
          rfl) (fun _ => rfl)
    have hgrew : Grew w1 (grow w1 os) := ⟨rfl, rfl, rfl, by simp [grow], fun k hk => by simp only [grow]; rw [Array.getElem?_append_left hk], Nat.le_refl _⟩
    have hr2 := hr1.grow hgrew
    have hwe : w' = grow w1 os := by rw [hw, ← hw1]
    subst hwe
    exact ⟨.tuple #[], _, _, _, [], he, hr2.no_tmp, by simp [footA, footAs], by simp, rfl⟩
end
end Go.Proofs.Ythhgcklidfilfaa.BX
