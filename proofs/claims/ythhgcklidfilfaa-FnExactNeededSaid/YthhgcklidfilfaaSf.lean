/-
  'slices.SortFunc' of entries by their slots: the library's contract, read in the frame.
-/
import Derived.Test.YthhgcklidfilfaaPl
import Derived.Test.YthhgcklidfilfaaSl
import Derived.Shelf.SlSortCmp.NoneTotal
namespace Go.Proofs.Ythhgcklidfilfaa.BX
set_option linter.unusedSectionVars false
set_option linter.unusedSimpArgs false
set_option linter.unusedVariables false
open Go Go.RowKit Go.Shelf Go.Sort
set_option maxRecDepth 20000
set_option maxHeartbeats 400000

/-- a list in order, under another order -/
theorem order_one {l s : List Entry} (hp : List.Perm l s) (ho : Ordered s) (h : l.Pairwise fun a b => before b a = false) : l = s := by
  have hn : (s.map Entry.slot).Nodup := by
    have := ordered_keys ho
    rwa [List.map_map] at this
  have one : ∀ {s : List Entry}, (s.map Entry.slot).Nodup → ∀ a b, a ∈ s → b ∈ s → a.slot = b.slot → a = b := by
    intro s
    induction s with
    | nil => intro _ a b ha; cases ha
    | cons x s ih =>
      intro hn a b ha hb hab
      simp only [List.map_cons, List.nodup_cons] at hn
      rcases List.mem_cons.1 ha with h1 | h1 <;> rcases List.mem_cons.1 hb with h2 | h2
      · rw [h1, h2]
      · exact absurd (h1 ▸ hab ▸ List.mem_map_of_mem h2) hn.1
      · exact absurd (h2 ▸ hab ▸ List.mem_map_of_mem h1) hn.1
      · exact ih hn.2 a b h1 h2 hab
  refine List.Perm.eq_of_pairwise (le := fun a b => before b a = false) ?_ h ?_ hp
  · intro a b ha hb h1 h2
    refine one hn a b (hp.mem_iff.1 ha) hb ?_
    rcases before_total h2 with h | h
    · exact h
    · rw [h] at h1; cases h1
  · exact ho.imp fun hab => before_asymm hab

section
variable [Bd]
/-- an entry whose texts are no longer than texts can be -/
def Small (e : Entry) : Prop := e.typ.length < Bd.B ∧ e.key.length < Bd.B ∧ e.id.length < Bd.B
abbrev ES : Type := { e : Entry // Small e }
instance : Inhabited ES := ⟨⟨⟨[], [], []⟩, by have := Bd.lo; unfold Small; simp; omega⟩⟩
def encE (x : ES) : List Value := [.string ⟨x.1.typ.toArray⟩, .string ⟨x.1.key.toArray⟩, .string ⟨x.1.id.toArray⟩]
def cfE (x y : ES) : Int := cmpE x.1 y.1
theorem ltE (x y : ES) : ltOf cfE x y = before x.1 y.1 := by
  unfold ltOf cfE
  cases hb : before x.1 y.1 with
  | false => exact decide_eq_false (by have := cmpE_neg.2 hb; omega)
  | true => exact decide_eq_true (by
      by_cases h : 0 ≤ cmpE x.1 y.1
      · rw [cmpE_neg.1 h] at hb; cases hb
      · omega)
theorem swoE : SWO (ltOf cfE) where
  irrefl x := by
    rw [ltE]
    cases h : before x.1 x.1 with
    | false => rfl
    | true => exact absurd rfl (before_slot h)
  trans x y z h1 h2 := by rw [ltE] at *; exact before_trans h1 h2
  ntrans x y z h1 h2 := by
    rw [ltE] at *
    cases h : before x.1 z.1 with
    | false => rfl
    | true =>
      rcases before_total h1 with e | e
      · rw [(before_same (c := z.1) e).1] at h; rw [h] at h2; cases h2
      · rw [before_trans e h] at h2; cases h2

theorem grown_of {W w' : World} (h : But (fun _ => False) W.heap.size W w') : ∃ q os', w' = grow (W.drewN q) os' := by
  refine ⟨w'.drawn - W.drawn, w'.heap.extract W.heap.size w'.heap.size, ?_⟩
  have hh : w'.heap = W.heap ++ w'.heap.extract W.heap.size w'.heap.size := by
    apply Array.ext_getElem?
    intro k
    rw [Array.getElem?_append]
    split
    · rename_i hk
      exact h.block k hk (fun h => h)
    · rename_i hk
      rw [Array.getElem?_extract]
      split
      · congr 1; omega
      · rename_i h2
        rw [Array.getElem?_eq_none (by omega)]
  have hd := h.drawn
  obtain ⟨h1, h2, h3, h4, h5, h6⟩ := h
  cases w'
  cases W
  simp only [grow, World.drewN] at *
  subst h1; subst h2; subst h3
  congr 1
  omega

theorem foot_entry {w : World} {e : Entry} {v : Value} {L : List Nat} (h : footT w (eEntry e) v L) : Small e ∧ v = .agg #[.string ⟨e.typ.toArray⟩, .string ⟨e.key.toArray⟩, .string ⟨e.id.toArray⟩] ∧ L = [] := by
  simp only [eEntry, footT, footTs] at h
  obtain ⟨vs, rfl, v1, vs1, L1, L2, rfl, rfl, ⟨rfl, rfl, q1⟩, v2, vs2, L3, L4, rfl, rfl, ⟨rfl, rfl, q2⟩, v3, vs3, L5, L6, rfl, rfl, ⟨rfl, rfl, q3⟩, rfl, rfl⟩ := h
  exact ⟨⟨q1, q2, q3⟩, rfl, rfl⟩
theorem entry_foot {w : World} {e : Entry} (h : Small e) : footT w (eEntry e) (.agg #[.string ⟨e.typ.toArray⟩, .string ⟨e.key.toArray⟩, .string ⟨e.id.toArray⟩]) [] := by
  simp only [eEntry, footT, footTs]
  exact ⟨_, rfl, _, _, [], [], rfl, rfl, ⟨rfl, rfl, h.1⟩, _, _, [], [], rfl, rfl, ⟨rfl, rfl, h.2.1⟩, _, _, [], [], rfl, rfl, ⟨rfl, rfl, h.2.2⟩, rfl, rfl⟩

theorem cmpLaysE (blk off size : Nat) (w : World) : CmpLays P0 131 #[] encE 3 cfE blk off size w := by
  intro m os dk hs x y
  have hf : footTs (sortWorldK encE 3 w blk off m dk os) [eEntry x.1, eEntry y.1] [.agg (encE x).toArray, .agg (encE y).toArray] [] := by
    simp only [footTs]
    exact ⟨_, _, [], [], rfl, rfl, entry_foot x.2, _, _, [], [], rfl, rfl, entry_foot y.2, rfl, rfl⟩
  refine ((compareEntries x.1 y.1).run hf (by simp) (fun _ => False)).mono fun e w' hh => ?_
  obtain ⟨v, hv, S, F, L', rfl, hr, hx, _, _⟩ := hh
  simp only [footA, footT] at hx
  obtain ⟨rfl, _⟩ := hx
  exact ⟨rfl, grown_of hr.below⟩

theorem foot_entries {w : World} : ∀ {l : List Entry} {vs : List Value} {L : List Nat}, footTs w (l.map eEntry) vs L → ∃ ls : List ES, ls.map (·.1) = l ∧ vs = ls.map fun x => .agg (encE x).toArray
  | [], vs, L, h => by simp only [List.map_nil, footTs] at h; exact ⟨[], rfl, h.1⟩
  | e :: l, vs, L, h => by
    simp only [List.map_cons, footTs] at h
    obtain ⟨v, vs', L1, L2, rfl, _, h1, h2⟩ := h
    obtain ⟨ls, rfl, rfl⟩ := foot_entries h2
    obtain ⟨hs, rfl, _⟩ := foot_entry h1
    exact ⟨⟨e, hs⟩ :: ls, rfl, rfl⟩
theorem entries_foot {w : World} : ∀ {ls : List ES}, footTs w ((ls.map (·.1)).map eEntry) (ls.map fun x => .agg (encE x).toArray) []
  | [] => by simp [footTs]
  | x :: ls => by
    simp only [List.map_cons, footTs]
    exact ⟨_, _, [], [], rfl, rfl, entry_foot x.2, entries_foot⟩
theorem encE_size {x : ES} {ls : List ES} : ∀ v ∈ (ls.map fun x => Value.agg (encE x).toArray), v.cells.size = 3 := by
  intro v hv
  obtain ⟨x, _, rfl⟩ := List.mem_map.1 hv
  rfl
/-- the row's cells, one by one -/
theorem cells_flat {ls : List ES} {j : Nat} (hj : j < ls.length * 3) : (cellsL (ls.map fun x => Value.agg (encE x).toArray))[j]? = some (flatK encE 3 ls.toArray)[j]! := by
  have hi : j / 3 < ls.length := by omega
  have h := cellsL_get (m := 3) (vs := ls.map fun x => Value.agg (encE x).toArray) (encE_size (x := default)) (i := j / 3) (v := .agg (encE (ls[j / 3])).toArray) (by rw [List.getElem?_map, List.getElem?_eq_getElem hi]; rfl) (j := j % 3) (by omega)
  rw [show j / 3 * 3 + j % 3 = j by omega] at h
  rw [h, get_flatK _ _ _ _ (by simpa using hj)]
  have hd : (ls.toArray)[j / 3]! = ls[j / 3] := by rw [getElem!_pos _ _ (by simpa using hi)]; simp
  rw [hd]
  have h3 : j % 3 < (encE ls[j / 3]).length := by show j % 3 < 3; omega
  rw [getElem!_pos (encE ls[j / 3]) (j % 3) h3]
  show (Value.cells (.agg (encE ls[j / 3]).toArray))[j % 3]? = _
  rw [show Value.cells (.agg (encE ls[j / 3]).toArray) = (encE ls[j / 3]).toArray from rfl, List.getElem?_toArray, List.getElem?_eq_getElem h3]

theorem sortE (l s : List Entry) (hB : Bd.B ≤ 2147483648) (hp : List.Perm l s) (ho : Ordered s) : ConM P0 130 [.sr 0, .fn 131 []] [.arr 32 3 (.own (.ag [.leaf, .leaf, .leaf])) (l.map eEntry)] (.tp []) [.arr 32 3 (.own (.ag [.leaf, .leaf, .leaf])) (s.map eEntry)] := by
  refine ⟨⟨_, Try.func130, rfl, rfl⟩, ?_⟩
  intro w L M vals hv S F hr
  have hsz : vals.length = 2 := by simpa using hr.size
  obtain ⟨v, fv, rfl⟩ : ∃ v fv, vals = [v, fv] := by
    match vals, hsz with
    | [a, b], _ => exact ⟨a, b, rfl⟩
  obtain ⟨L0, h0, _⟩ := hr.tm 0
  have e0 : v = hv 0 := by
    have : v = hv 0 ∧ L0 = [] := by simpa [numA, getL, footA] using h0
    exact this.1
  obtain ⟨L1, h1, _⟩ := hr.tm 1
  have e1 : fv = .func (.func 131) #[] #[] := by
    have : ∃ vs : List Value, fv = .func (.func 131) #[] vs.toArray ∧ footAs hv w [] vs L1 := by simpa [numA, getL, footA] using h1
    obtain ⟨vs, q1, q2⟩ := this
    simp only [footAs] at q2
    rw [q1, q2.1]
  subst e0; subst e1
  obtain ⟨vs, hrow, ⟨L2, hown, _⟩, hvsz, hlen, hones⟩ := hr.ob 0 _ rfl
  obtain ⟨L3, hfoot, _⟩ := ownEs_foot _ _ hown
  obtain ⟨ls, rfl, rfl⟩ := foot_entries hfoot
  have done0 : ls = [] → s = [] := by
    intro h; subst h
    exact hp.nil_eq.symm
  rcases hrow.2 with ⟨hnil, hn0⟩ | ⟨g, cap, cur, hvg, hbg, hheap, hnc, hcm, hcs, htake⟩
  · have hls : ls = [] := List.eq_nil_of_length_eq_zero (by simpa using hn0)
    have hs := done0 hls
    subst hls; subst hs
    have hcall := AnyF.slices_SortFunc_none Try.sortL none 0 (.func (.func 131) #[] #[]) w
    change Calls P0 130 _ _ _ at hcall
    have hvn : hv 0 = .slice none 0 0 := hnil
    rw [hvn]
    refine hcall.mono fun e w' ⟨he, hw⟩ => ?_
    subst hw
    exact ⟨.tuple #[], hv, S, F, [], he, hr.no_tmp, by simp [footA, footAs], by simp, rfl⟩
  · have hn3 : ((ls.map (·.1)).map eEntry).length = ls.length := by simp
    rw [hn3] at hnc htake
    have hvg' : hv 0 = .slice (some ⟨g, 0, none⟩) ls.length cap := by rw [← hn3]; exact hvg
    have hcn : ls.length * 3 ≤ cur.size := by rw [hcs]; omega
    have hH : HoldsK encE 3 w g 0 ls.toArray := by
      intro j hj
      have hj' : j < ls.length * 3 := by simpa using hj
      have hcur : cur[j]? = some (flatK encE 3 ls.toArray)[j]! := by
        have h := cells_flat hj'
        rw [← htake, List.getElem?_take_of_lt hj'] at h
        simpa using h
      refine ⟨?_, ?_⟩
      · simp only [World.cell?, hheap, Nat.zero_add, id]
        simpa using hcur
      · simp [World.frozen?, hheap]
    have eg : ∀ args w, (callFunc 131 args).run P0 w = .ok (.enter 131 args) w := enters_of Try.func131 (by kernel_rfl) rfl
    have hsmall : ls.length < Bd.B := by rw [hn3] at hlen; exact hlen
    have hhi := Bd.hi
    have hcall := AnyQ.slices_SortFunc Try.sortL 3 Try.isAgg32 Try.sizeOf32 encE (fun _ => rfl) (fun x v hv => by simp [encE] at hv; rcases hv with rfl | rfl | rfl <;> rfl) cfE swoE 131 #[] g 0 cap ls.toArray w eg (cmpLaysE _ _ _ _) hH (heap_lt hheap) (by simp; omega)
    change Calls P0 130 _ _ _ at hcall
    rw [hvg']
    refine hcall.mono fun e w' ⟨he, d', n, os, hperm, hsort, hw⟩ => ?_
    obtain ⟨hps, _, hpp⟩ := hperm
    have hd : d'.size = ls.length := by simpa using hps
    have hpl : List.Perm d'.toList ls := by
      rw [show ls.toArray.size = d'.size by rw [hd]; simp, Array.extract_size] at hpp
      rw [show d'.size = ls.toArray.size by rw [hd]; simp, Array.extract_size] at hpp
      simpa using hpp
    have hs : d'.toList.map (·.1) = s := by
      refine order_one ((hpl.map _).trans hp) ho (List.pairwise_iff_getElem.2 fun i j hi hj hij => ?_)
      have hi' : i < d'.size := by simpa using hi
      have hj' : j < d'.size := by simpa using hj
      have := hsort i j (Nat.zero_le _) hij (by rw [show ls.toArray.size = d'.size by rw [hd]; simp]; exact hj')
      rw [ltE, getElem!_pos d' j hj', getElem!_pos d' i hi'] at this
      simpa using this
    subst hs
    have hF : (flatK encE 3 d').size = ls.length * 3 := by simp [hd]
    obtain ⟨w1, hw1⟩ : ∃ w1, putRowK encE 3 (Sort.ahead w n) g 0 d' = w1 := ⟨_, rfl⟩
    have hh1 : w1.heap = w.heap.modify g (onCells (putCells id 0 (flatK encE 3 d'))) := by rw [← hw1]; rfl
    have hg1 : w1.heap[g]? = some (.cells (putCells id 0 (flatK encE 3 d') cur) 32 (0, 0)) := by
      rw [hh1, Array.getElem?_modify, if_pos rfl, hheap]; rfl
    have ho1 : ∀ k, k ≠ g → w1.heap[k]? = w.heap[k]? := fun k hk => by
      rw [hh1, Array.getElem?_modify, if_neg (fun e => hk e.symm)]
    have hd' : d'.toList.length = ls.length := by simpa using hd
    have htk : (putCells id 0 (flatK encE 3 d') cur).toList.take (ls.length * 3) = cellsL (d'.toList.map fun x => .agg (encE x).toArray) := by
      apply List.ext_getElem?
      intro j
      by_cases hj : j < ls.length * 3
      · rw [List.getElem?_take_of_lt hj, cells_flat (ls := d'.toList) (by rw [hd']; exact hj), Array.toArray_toList]
        have hjc : j < cur.size := by omega
        simp only [putCells, Array.getElem?_toList, Array.getElem?_mapIdx, Array.getElem?_eq_getElem hjc, Option.map_some, Nat.zero_le, true_and, Nat.zero_add, hF, hj, if_true, Nat.sub_zero, id]
      · have hl := cellsL_length (m := 3) (d'.toList.map fun x => Value.agg (encE x).toArray) (encE_size (x := default))
        rw [List.length_map, hd'] at hl
        rw [List.getElem?_eq_none (by rw [List.length_take]; omega), List.getElem?_eq_none (by omega)]
    have hroot : blkOf (hv 0) = some g := by rw [hvg']; rfl
    have hr1 := hr.write (id := 0) (o' := .arr 32 3 (.own (.ag [.leaf, .leaf, .leaf])) ((d'.toList.map (·.1)).map eEntry)) rfl (by simp) (w' := w1) (fun k hk => ho1 k (fun e => hk (by rw [hroot, e]))) (by rw [hh1]; simp) (by rw [← hw1]; rfl) (by rw [← hw1]; rfl) (by rw [← hw1]; rfl) (by rw [← hw1]; exact Nat.le_add_right _ _) rfl
      (by
        refine ⟨d'.toList.map fun x => .agg (encE x).toArray, ⟨?_, .inr ⟨g, cap, _, ?_, hbg, hg1, ?_, hcm, ?_, ?_⟩⟩, ⟨[], fitsAll_own (fitsAll_map fun _ => eEntry_fits) entries_foot, by simp, by simp⟩, encE_size (x := default), ?_, ?_⟩
        · rw [cellsL_length (m := 3) _ (encE_size (x := default))]; simp
        · rw [hvg']; simp [hd]
        · simp [hd]; exact hnc
        · simp [putCells, hcs]
        · simp only [List.length_map, hd']; exact htk
        · simp only [List.length_map, hd']; exact hsmall
        · intro u hu
          simp only [cellsL, List.mem_flatMap, List.mem_map] at hu
          obtain ⟨v, ⟨x, _, rfl⟩, hu⟩ := hu
          have : u ∈ encE x := by simpa [Value.cells] using hu
          simp [encE] at this
          rcases this with rfl | rfl | rfl <;> rfl) (fun _ => rfl)
    have hgrew : Grew w1 (grow w1 os) := ⟨rfl, rfl, rfl, by simp [grow], fun k hk => by simp only [grow]; rw [Array.getElem?_append_left hk], Nat.le_refl _⟩
    have hr2 := hr1.grow hgrew
    have hwe : w' = grow w1 os := by rw [hw, ← hw1]; rfl
    subst hwe
    exact ⟨.tuple #[], _, _, _, [], he, hr2.no_tmp, by simp [footA, footAs], by simp, rfl⟩

end
end Go.Proofs.Ythhgcklidfilfaa.BX
