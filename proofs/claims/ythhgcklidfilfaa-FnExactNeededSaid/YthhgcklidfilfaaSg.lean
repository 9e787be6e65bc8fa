/-
  'slices.SortFunc' of slots: the library's contract, read in the frame.
-/
import Derived.Test.YthhgcklidfilfaaSf
import Derived.Test.YthhgcklidfilfaaSj
namespace Go.Proofs.Ythhgcklidfilfaa.BX
set_option linter.unusedSectionVars false
set_option linter.unusedSimpArgs false
set_option linter.unusedVariables false
open Go Go.RowKit Go.Shelf Go.Sort
set_option maxRecDepth 20000
set_option maxHeartbeats 400000

/-- a slot, as an entry without Id -/
def Slot.e (x : Slot) : Entry := ⟨x.typ, x.key, []⟩
theorem Slot.e_inj {x y : Slot} (h : x.e = y.e) : x = y := by
  cases x; cases y
  simp only [Slot.e, Entry.mk.injEq] at h
  rw [h.1, h.2.1]
/-- in order, the same ones beside each other -/
def OrdT (s : List Slot) : Prop := s.Pairwise fun a b => before b.e a.e = false
theorem order_oneT {l s : List Slot} (hp : List.Perm l s) (ho : OrdT s) (h : OrdT l) : l = s := by
  refine List.Perm.eq_of_pairwise (le := fun a b : Slot => before b.e a.e = false) ?_ (show l.Pairwise fun a b => before b.e a.e = false from h) (show s.Pairwise fun a b => before b.e a.e = false from ho) hp
  intro a b _ _ h1 h2
  rcases before_total h1 with h | h
  · cases a; cases b
    simp only [Slot.e, Entry.slot, Prod.mk.injEq] at h
    rw [h.1, h.2]
  · rw [h] at h2; cases h2

section
variable [Bd]
/-- an entry whose texts are no longer than texts can be -/
def SmallT (e : Slot) : Prop := e.typ.length < Bd.B ∧ e.key.length < Bd.B
abbrev SLT : Type := { e : Slot // SmallT e }
instance : Inhabited SLT := ⟨⟨⟨[], []⟩, by have := Bd.lo; unfold SmallT; simp; omega⟩⟩
def encT (x : SLT) : List Value := [.string ⟨x.1.typ.toArray⟩, .string ⟨x.1.key.toArray⟩]
def cfT (x y : SLT) : Int := cmpE x.1.e y.1.e
theorem ltT (x y : SLT) : ltOf cfT x y = before x.1.e y.1.e := by
  unfold ltOf cfT
  cases hb : before x.1.e y.1.e with
  | false => exact decide_eq_false (by have := cmpE_neg.2 hb; omega)
  | true => exact decide_eq_true (by
      by_cases h : 0 ≤ cmpE x.1.e y.1.e
      · rw [cmpE_neg.1 h] at hb; cases hb
      · omega)
theorem swoT : SWO (ltOf cfT) where
  irrefl x := by
    rw [ltT]
    cases h : before x.1.e x.1.e with
    | false => rfl
    | true => exact absurd rfl (before_slot h)
  trans x y z h1 h2 := by rw [ltT] at *; exact before_trans h1 h2
  ntrans x y z h1 h2 := by
    rw [ltT] at *
    cases h : before x.1.e z.1.e with
    | false => rfl
    | true =>
      rcases before_total h1 with e | e
      · rw [(before_same (c := z.1.e) e).1] at h; rw [h] at h2; cases h2
      · rw [before_trans e h] at h2; cases h2

theorem foot_slot {w : World} {e : Slot} {v : Value} {L : List Nat} (h : footT w (eSlot e) v L) : SmallT e ∧ v = .agg #[.string ⟨e.typ.toArray⟩, .string ⟨e.key.toArray⟩] ∧ L = [] := by
  simp only [eSlot, footT, footTs] at h
  obtain ⟨vs, rfl, v1, vs1, L1, L2, rfl, rfl, ⟨rfl, rfl, q1⟩, v2, vs2, L3, L4, rfl, rfl, ⟨rfl, rfl, q2⟩, rfl, rfl⟩ := h
  exact ⟨⟨q1, q2⟩, rfl, rfl⟩
theorem slot_foot {w : World} {e : Slot} (h : SmallT e) : footT w (eSlot e) (.agg #[.string ⟨e.typ.toArray⟩, .string ⟨e.key.toArray⟩]) [] := by
  simp only [eSlot, footT, footTs]
  exact ⟨_, rfl, _, _, [], [], rfl, rfl, ⟨rfl, rfl, h.1⟩, _, _, [], [], rfl, rfl, ⟨rfl, rfl, h.2⟩, rfl, rfl⟩

theorem compareSlots (a b : Slot) : Con P0 122 [eSlot a, eSlot b] (.t (.i .i64 (cmpE a.e b.e))) [] := by
  refine Con.intro (fn := Try.f122) [.tmp 4] (fun i => if i = 1 then (10, []) else (0, [])) mixed (by kernel_rfl) rfl (by decide) rfl (by rfl) (by kernel_rfl) ?_
  simp -implicitDefEqProofs (maxSteps := 2000000) only [push_cast, Nat.reduceEqDiff, Nat.reduceLT, Nat.reduceLeDiff, Nat.reduceAdd, Nat.reduceMul, Nat.reduceSub, Nat.reduceBEq, ↓reduceIte, reduceCtorEq, eSlot]
  refine CallV.t (compareS _ _) (.inl rfl) ?_
  simp -implicitDefEqProofs (maxSteps := 2000000) only [push_cast, Nat.reduceEqDiff, Nat.reduceLT, Nat.reduceLeDiff, Nat.reduceAdd, Nat.reduceMul, Nat.reduceSub, Nat.reduceBEq, ↓reduceIte, reduceCtorEq, eSlot]
  refine CallV.t (compareS _ _) (.inl rfl) ?_
  simp -implicitDefEqProofs (maxSteps := 2000000) only [push_cast, Nat.reduceEqDiff, Nat.reduceLT, Nat.reduceLeDiff, Nat.reduceAdd, Nat.reduceMul, Nat.reduceSub, Nat.reduceBEq, ↓reduceIte, reduceCtorEq, eSlot]
  refine ⟨rfl, by have := Bd.lo; omega, ?_⟩
  refine Callx.closed (cmpOr [cmpS a.typ b.typ, cmpS a.key b.key]) rfl rfl (.inr ⟨rfl, rfl⟩) ?_
  simp -implicitDefEqProofs (maxSteps := 2000000) only [push_cast, Nat.reduceEqDiff, Nat.reduceLT, Nat.reduceLeDiff, Nat.reduceAdd, Nat.reduceMul, Nat.reduceSub, Nat.reduceBEq, ↓reduceIte, reduceCtorEq, eSlot]
  refine congrArg (T.i .i64) ?_
  show _ = cmpE a.e b.e
  unfold cmpE firstNz firstNz firstNz
  show (if cmpS a.typ b.typ ≠ 0 then _ else if _ then _ else _) = if cmpS a.typ b.typ ≠ 0 then cmpS a.typ b.typ else cmpS a.key b.key
  split
  · rfl
  · split
    · rfl
    · omega
theorem cmpLaysT (blk off size : Nat) (w : World) : CmpLays P0 122 #[] encT 2 cfT blk off size w := by
  intro m os dk hs x y
  have hf : footTs (sortWorldK encT 2 w blk off m dk os) [eSlot x.1, eSlot y.1] [.agg (encT x).toArray, .agg (encT y).toArray] [] := by
    simp only [footTs]
    exact ⟨_, _, [], [], rfl, rfl, slot_foot x.2, _, _, [], [], rfl, rfl, slot_foot y.2, rfl, rfl⟩
  refine ((compareSlots x.1 y.1).run hf (by simp) (fun _ => False)).mono fun e w' hh => ?_
  obtain ⟨v, hv, S, F, L', rfl, hr, hx, _, _⟩ := hh
  simp only [footA, footT] at hx
  obtain ⟨rfl, _⟩ := hx
  exact ⟨rfl, grown_of hr.below⟩

theorem foot_slots {w : World} : ∀ {l : List Slot} {vs : List Value} {L : List Nat}, footTs w (l.map eSlot) vs L → ∃ ls : List SLT, ls.map (·.1) = l ∧ vs = ls.map fun x => .agg (encT x).toArray
  | [], vs, L, h => by simp only [List.map_nil, footTs] at h; exact ⟨[], rfl, h.1⟩
  | e :: l, vs, L, h => by
    simp only [List.map_cons, footTs] at h
    obtain ⟨v, vs', L1, L2, rfl, _, h1, h2⟩ := h
    obtain ⟨ls, rfl, rfl⟩ := foot_slots h2
    obtain ⟨hs, rfl, _⟩ := foot_slot h1
    exact ⟨⟨e, hs⟩ :: ls, rfl, rfl⟩
theorem slots_foot {w : World} : ∀ {ls : List SLT}, footTs w ((ls.map (·.1)).map eSlot) (ls.map fun x => .agg (encT x).toArray) []
  | [] => by simp [footTs]
  | x :: ls => by
    simp only [List.map_cons, footTs]
    exact ⟨_, _, [], [], rfl, rfl, slot_foot x.2, slots_foot⟩
theorem encT_size {x : SLT} {ls : List SLT} : ∀ v ∈ (ls.map fun x => Value.agg (encT x).toArray), v.cells.size = 2 := by
  intro v hv
  obtain ⟨x, _, rfl⟩ := List.mem_map.1 hv
  rfl
/-- the row's cells, one by one -/
theorem cells_flatT {ls : List SLT} {j : Nat} (hj : j < ls.length * 2) : (cellsL (ls.map fun x => Value.agg (encT x).toArray))[j]? = some (flatK encT 2 ls.toArray)[j]! := by
  have hi : j / 2 < ls.length := by omega
  have h := cellsL_get (m := 2) (vs := ls.map fun x => Value.agg (encT x).toArray) (encT_size (x := default)) (i := j / 2) (v := .agg (encT (ls[j / 2])).toArray) (by rw [List.getElem?_map, List.getElem?_eq_getElem hi]; rfl) (j := j % 2) (by omega)
  rw [show j / 2 * 2 + j % 2 = j by omega] at h
  rw [h, get_flatK _ _ _ _ (by simpa using hj)]
  have hd : (ls.toArray)[j / 2]! = ls[j / 2] := by rw [getElem!_pos _ _ (by simpa using hi)]; simp
  rw [hd]
  have h3 : j % 2 < (encT ls[j / 2]).length := by show j % 2 < 2; omega
  rw [getElem!_pos (encT ls[j / 2]) (j % 2) h3]
  show (Value.cells (.agg (encT ls[j / 2]).toArray))[j % 2]? = _
  rw [show Value.cells (.agg (encT ls[j / 2]).toArray) = (encT ls[j / 2]).toArray from rfl, List.getElem?_toArray, List.getElem?_eq_getElem h3]

theorem sortT (l s : List Slot) (hB : Bd.B ≤ 2147483648) (hp : List.Perm l s) (ho : OrdT s) : ConM P0 121 [.sr 0, .fn 122 []] [.arr 164 2 (.own (.ag [.leaf, .leaf])) (l.map eSlot)] (.tp []) [.arr 164 2 (.own (.ag [.leaf, .leaf])) (s.map eSlot)] := by
  refine ⟨⟨_, Try.func121, rfl, rfl⟩, ?_⟩
  intro w L M vals hv S F hr
  have hsz : vals.length = 2 := by simpa using hr.size
  obtain ⟨v, fv, rfl⟩ : ∃ v fv, vals = [v, fv] := by
    match vals, hsz with
    | [a, b], _ => exact ⟨a, b, rfl⟩
  obtain ⟨L0, h0, _⟩ := hr.tm 0
  have e0 : v = hv 0 := by
    have : v = hv 0 ∧ L0 = [] := by simpa [numA, getL, footA] using h0
    exact this.1
  obtain ⟨L1, h1, _⟩ := hr.tm 1
  have e1 : fv = .func (.func 122) #[] #[] := by
    have : ∃ vs : List Value, fv = .func (.func 122) #[] vs.toArray ∧ footAs hv w [] vs L1 := by simpa [numA, getL, footA] using h1
    obtain ⟨vs, q1, q2⟩ := this
    simp only [footAs] at q2
    rw [q1, q2.1]
  subst e0; subst e1
  obtain ⟨vs, hrow, ⟨L2, hown, _⟩, hvsz, hlen, hones⟩ := hr.ob 0 _ rfl
  obtain ⟨L3, hfoot, _⟩ := ownEs_foot _ _ hown
  obtain ⟨ls, rfl, rfl⟩ := foot_slots hfoot
  have done0 : ls = [] → s = [] := by
    intro h; subst h
    exact hp.nil_eq.symm
  rcases hrow.2 with ⟨hnil, hn0⟩ | ⟨g, cap, cur, hvg, hbg, hheap, hnc, hcm, hcs, htake⟩
  · have hls : ls = [] := List.eq_nil_of_length_eq_zero (by simpa using hn0)
    have hs := done0 hls
    subst hls; subst hs
    have hcall := AnyF.slices_SortFunc_none Try.sortJ none 0 (.func (.func 122) #[] #[]) w
    change Calls P0 121 _ _ _ at hcall
    have hvn : hv 0 = .slice none 0 0 := hnil
    rw [hvn]
    refine hcall.mono fun e w' ⟨he, hw⟩ => ?_
    subst hw
    exact ⟨.tuple #[], hv, S, F, [], he, hr.no_tmp, by simp [footA, footAs], by simp, rfl⟩
  · have hn3 : ((ls.map (·.1)).map eSlot).length = ls.length := by simp
    rw [hn3] at hnc htake
    have hvg' : hv 0 = .slice (some ⟨g, 0, none⟩) ls.length cap := by rw [← hn3]; exact hvg
    have hcn : ls.length * 2 ≤ cur.size := by rw [hcs]; omega
    have hH : HoldsK encT 2 w g 0 ls.toArray := by
      intro j hj
      have hj' : j < ls.length * 2 := by simpa using hj
      have hcur : cur[j]? = some (flatK encT 2 ls.toArray)[j]! := by
        have h := cells_flatT hj'
        rw [← htake, List.getElem?_take_of_lt hj'] at h
        simpa using h
      refine ⟨?_, ?_⟩
      · simp only [World.cell?, hheap, Nat.zero_add, id]
        simpa using hcur
      · simp [World.frozen?, hheap]
    have eg : ∀ args w, (callFunc 122 args).run P0 w = .ok (.enter 122 args) w := enters_of Try.func122 (by kernel_rfl) rfl
    have hsmall : ls.length < Bd.B := by rw [hn3] at hlen; exact hlen
    have hhi := Bd.hi
    have hcall := AnyQ.slices_SortFunc Try.sortJ 2 Try.isAgg164 Try.sizeOf164 encT (fun _ => rfl) (fun x v hv => by simp [encT] at hv; rcases hv with rfl | rfl | rfl <;> rfl) cfT swoT 122 #[] g 0 cap ls.toArray w eg (cmpLaysT _ _ _ _) hH (heap_lt hheap) (by simp; omega)
    change Calls P0 121 _ _ _ at hcall
    rw [hvg']
    refine hcall.mono fun e w' ⟨he, d', n, os, hperm, hsort, hw⟩ => ?_
    obtain ⟨hps, _, hpp⟩ := hperm
    have hd : d'.size = ls.length := by simpa using hps
    have hpl : List.Perm d'.toList ls := by
      rw [show ls.toArray.size = d'.size by rw [hd]; simp, Array.extract_size] at hpp
      rw [show d'.size = ls.toArray.size by rw [hd]; simp, Array.extract_size] at hpp
      simpa using hpp
    have hs : d'.toList.map (·.1) = s := by
      refine order_oneT ((hpl.map _).trans hp) ho (List.pairwise_iff_getElem.2 fun i j hi hj hij => ?_)
      have hi' : i < d'.size := by simpa using hi
      have hj' : j < d'.size := by simpa using hj
      have := hsort i j (Nat.zero_le _) hij (by rw [show ls.toArray.size = d'.size by rw [hd]; simp]; exact hj')
      rw [ltT, getElem!_pos d' j hj', getElem!_pos d' i hi'] at this
      simpa using this
    subst hs
    have hF : (flatK encT 2 d').size = ls.length * 2 := by simp [hd]
    obtain ⟨w1, hw1⟩ : ∃ w1, putRowK encT 2 (Sort.ahead w n) g 0 d' = w1 := ⟨_, rfl⟩
    have hh1 : w1.heap = w.heap.modify g (onCells (putCells id 0 (flatK encT 2 d'))) := by rw [← hw1]; rfl
    have hg1 : w1.heap[g]? = some (.cells (putCells id 0 (flatK encT 2 d') cur) 164 (0, 0)) := by
      rw [hh1, Array.getElem?_modify, if_pos rfl, hheap]; rfl
    have ho1 : ∀ k, k ≠ g → w1.heap[k]? = w.heap[k]? := fun k hk => by
      rw [hh1, Array.getElem?_modify, if_neg (fun e => hk e.symm)]
    have hd' : d'.toList.length = ls.length := by simpa using hd
    have htk : (putCells id 0 (flatK encT 2 d') cur).toList.take (ls.length * 2) = cellsL (d'.toList.map fun x => .agg (encT x).toArray) := by
      apply List.ext_getElem?
      intro j
      by_cases hj : j < ls.length * 2
      · rw [List.getElem?_take_of_lt hj, cells_flatT (ls := d'.toList) (by rw [hd']; exact hj), Array.toArray_toList]
        have hjc : j < cur.size := by omega
        simp only [putCells, Array.getElem?_toList, Array.getElem?_mapIdx, Array.getElem?_eq_getElem hjc, Option.map_some, Nat.zero_le, true_and, Nat.zero_add, hF, hj, if_true, Nat.sub_zero, id]
      · have hl := cellsL_length (m := 2) (d'.toList.map fun x => Value.agg (encT x).toArray) (encT_size (x := default))
        rw [List.length_map, hd'] at hl
        rw [List.getElem?_eq_none (by rw [List.length_take]; omega), List.getElem?_eq_none (by omega)]
    have hroot : blkOf (hv 0) = some g := by rw [hvg']; rfl
    have hr1 := hr.write (id := 0) (o' := .arr 164 2 (.own (.ag [.leaf, .leaf])) ((d'.toList.map (·.1)).map eSlot)) rfl (by simp) (w' := w1) (fun k hk => ho1 k (fun e => hk (by rw [hroot, e]))) (by rw [hh1]; simp) (by rw [← hw1]; rfl) (by rw [← hw1]; rfl) (by rw [← hw1]; rfl) (by rw [← hw1]; exact Nat.le_add_right _ _) rfl
      (by
        refine ⟨d'.toList.map fun x => .agg (encT x).toArray, ⟨?_, .inr ⟨g, cap, _, ?_, hbg, hg1, ?_, hcm, ?_, ?_⟩⟩, ⟨[], fitsAll_own (fitsAll_map fun _ => eSlot_fits) slots_foot, by simp, by simp⟩, encT_size (x := default), ?_, ?_⟩
        · rw [cellsL_length (m := 2) _ (encT_size (x := default))]; simp
        · rw [hvg']; simp [hd]
        · simp [hd]; exact hnc
        · simp [putCells, hcs]
        · simp only [List.length_map, hd']; exact htk
        · simp only [List.length_map, hd']; exact hsmall
        · intro u hu
          simp only [cellsL, List.mem_flatMap, List.mem_map] at hu
          obtain ⟨v, ⟨x, _, rfl⟩, hu⟩ := hu
          have : u ∈ encT x := by simpa [Value.cells] using hu
          simp [encT] at this
          rcases this with rfl | rfl | rfl <;> rfl) (fun _ => rfl)
    have hgrew : Grew w1 (grow w1 os) := ⟨rfl, rfl, rfl, by simp [grow], fun k hk => by simp only [grow]; rw [Array.getElem?_append_left hk], Nat.le_refl _⟩
    have hr2 := hr1.grow hgrew
    have hwe : w' = grow w1 os := by rw [hw, ← hw1]; rfl
    subst hwe
    exact ⟨.tuple #[], _, _, _, [], he, hr2.no_tmp, by simp [footA, footAs], by simp, rfl⟩

end
end Go.Proofs.Ythhgcklidfilfaa.BX
