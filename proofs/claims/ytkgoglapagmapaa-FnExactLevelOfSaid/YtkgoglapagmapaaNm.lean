/-
  The program's 'named': the ids of the events that a test lets pass, in order.
-/
import Derived.Test.YtkgoglapagmapaaNd
namespace Go.Proofs.Ytkgoglapagmapaa.BX
set_option linter.unusedSectionVars false
set_option linter.unusedSimpArgs false
set_option linter.unusedVariables false
open Go Go.RowKit
set_option maxRecDepth 20000
set_option maxHeartbeats 400000

/-- the ids of the first n events that pass -/
def idsN (es : List Event) (p : Nat → Bool) (n : Nat) : List (List UInt8) := (List.range n).filterMap fun i => if p i = true then (es[i]?).map (·.id) else none
theorem idsN_snoc {es : List Event} {p : Nat → Bool} {i : Nat} {e : Event} (h : es[i]? = some e) : idsN es p (i + 1) = idsN es p i ++ (if p i = true then [e.id] else []) := by
  unfold idsN
  rw [List.range_succ, List.filterMap_append]
  congr 1
  rw [List.filterMap_cons, List.filterMap_nil, h]
  split <;> simp_all
theorem idsN_mem {es : List Event} {p : Nat → Bool} {n : Nat} {x : List UInt8} : x ∈ idsN es p n ↔ ∃ i e, i < n ∧ es[i]? = some e ∧ p i = true ∧ e.id = x := by
  unfold idsN
  rw [List.mem_filterMap]
  constructor
  · rintro ⟨i, hi, h⟩
    split at h
    · rename_i hp
      rw [Option.map_eq_some_iff] at h
      obtain ⟨e, he, hx⟩ := h
      exact ⟨i, e, List.mem_range.1 hi, he, hp, hx⟩
    · cases h
  · rintro ⟨i, e, hi, he, hp, hx⟩
    exact ⟨i, List.mem_range.2 hi, by rw [if_pos hp, he]; exact congrArg some hx⟩
theorem idsN_len {es : List Event} {p : Nat → Bool} {n : Nat} : (idsN es p n).length ≤ n := by
  have := List.length_filterMap_le (fun i => if p i = true then (es[i]?).map (·.id) else none) (List.range n)
  simpa [idsN] using this
/-- each id stands once -/
def Once (es : List Event) : Prop := (es.map (·.id)).Nodup
theorem once_at {es : List Event} (h : Once es) {i j : Nat} {a b : Event} (ha : es[i]? = some a) (hb : es[j]? = some b) (hab : a.id = b.id) : i = j := by
  obtain ⟨hi, rfl⟩ := List.getElem?_eq_some_iff.1 ha
  obtain ⟨hj, rfl⟩ := List.getElem?_eq_some_iff.1 hb
  have h := List.pairwise_iff_getElem.1 h
  rcases Nat.lt_trichotomy i j with hlt | rfl | hlt
  · have q := h i j (by simpa using hi) (by simpa using hj) hlt
    rw [List.getElem_map, List.getElem_map] at q
    exact absurd hab q
  · rfl
  · have q := h j i (by simpa using hj) (by simpa using hi) hlt
    rw [List.getElem_map, List.getElem_map] at q
    exact absurd hab.symm q
theorem idsN_nodup {es : List Event} (h : Once es) {p : Nat → Bool} {n : Nat} : (idsN es p n).Nodup := by
  unfold idsN
  refine List.pairwise_filterMap.2 (List.nodup_range.imp fun {i j} hij a ha b hb => ?_)
  rintro rfl
  by_cases h1 : p i = true
  case neg => rw [if_neg h1] at ha; cases ha
  by_cases h2 : p j = true
  case neg => rw [if_neg h2] at hb; cases hb
  rw [if_pos h1] at ha
  rw [if_pos h2] at hb
  rw [Option.map_eq_some_iff] at ha hb
  obtain ⟨x, hx, rfl⟩ := ha
  obtain ⟨y, hy, hxy⟩ := hb
  exact hij (once_at h hx hy hxy.symm)
variable [Bd]
theorem sees_map {ob : List Ob} {n : Nat} : ∀ {c : List T}, seesW (AV.see ob (n + 1)) (c.map AV.t) = some c
  | [] => rfl
  | x :: c => by
    have h := sees_map (ob := ob) (n := n) (c := c)
    have h1 : AV.see ob (n + 1) (.t x) = some x := by simp only [AV.see]
    simp only [List.map_cons, seesW, h1, h] <;> rfl
theorem shuts_map : ∀ {c : List T}, shuts (c.map AV.t) = some c
  | [] => rfl
  | x :: c => by
    have h := shuts_map (c := c)
    simp only [List.map_cons, shuts, AV.shut, h] <;> rfl
theorem graphNamed (es : List Event) (f : FuncId) (c : List T) (p : Nat → Bool) (hf : hasBody P0 f) (hp : ∀ i, i < es.length → Con P0 f (.i .i64 i :: c) (.t (.b (p i))) []) (hB : Bd.B ≤ 2147483648) : Con P0 78 [gT es, .fn f c] (.sr 0) [.arr 9 1 (.own .leaf) ((srt (idsN es p es.length)).map T.s)] := by
  refine Con.intro (fn := Try.f78) [.tmp 4] (fun _ => (0, [])) mixed (by kernel_rfl) rfl (by decide) rfl (by rfl) (by kernel_rfl) ?_
  simp -implicitDefEqProofs (maxSteps := 2000000) only [push_cast, Nat.reduceEqDiff, Nat.reduceLT, Nat.reduceLeDiff, Nat.reduceAdd, Nat.reduceMul, Nat.reduceSub, Nat.reduceBEq, ↓reduceIte, reduceCtorEq, gT]
  have := Bd.lo
  refine ⟨rfl, by omega, fun hlen => ?_⟩
  refine WL.loop (ι := Nat) (D := (fun _ => (0, []))) (fun i => i ≤ es.length) (fun i => ⟨31, [(14, .t (.i .i64 i)), (13, .t (.i .i64 es.length)), (12, .t (eEventS es)), (5, .sr 0), (0, .t (gT es)), (1, .t (.fn f c))], [.arr 9 1 (.own .leaf) ((idsN es p i).map T.s)]⟩) (fun i => es.length - i) mixed (by kernel_rfl) 0 (by omega) (Keep.wk (ids := [some 0]) ?_) ?_
  · simp only [push_cast, Nat.reduceEqDiff, Nat.reduceLT, Nat.reduceLeDiff, Nat.reduceAdd, Nat.reduceMul, Nat.reduceSub, Nat.reduceBEq, ↓reduceIte, reduceCtorEq, gT, idsN, List.range_zero, List.filterMap_nil] <;> rfl
  · intro i hi
    simp -implicitDefEqProofs (maxSteps := 2000000) only [push_cast, Nat.reduceEqDiff, Nat.reduceLT, Nat.reduceLeDiff, Nat.reduceAdd, Nat.reduceMul, Nat.reduceSub, Nat.reduceBEq, ↓reduceIte, reduceCtorEq, gT, eEvent]
    have hhi := Bd.hi
    refine iteI (fun h => ?_) (fun h => ?_)
    · refine ⟨by omega, fun a ha => ?_⟩
      rw [Int.toNat_natCast] at ha
      refine Callx.closed (hp i (by omega)) (by rw [sees_map]; rfl) rfl (.inl (by rw [shuts_map]; rfl)) ?_
      simp -implicitDefEqProofs (maxSteps := 2000000) only [push_cast, Nat.reduceEqDiff, Nat.reduceLT, Nat.reduceLeDiff, Nat.reduceAdd, Nat.reduceMul, Nat.reduceSub, Nat.reduceBEq, ↓reduceIte, reduceCtorEq, gT, eEvent]
      have hsn := idsN_snoc (p := p) ha
      have hil := idsN_len (es := es) (p := p) (n := i)
      refine iteI (fun h1 => ?_) (fun h1 => ?_)
      · rw [if_pos h1] at hsn
        refine ⟨rfl, by omega, rfl, by omega, by omega, by unfold inI64; omega, i + 1, by omega, by omega, Keep.wk (ids := [some 3]) ?_⟩
        rw [hsn]
        simp only [push_cast, Nat.reduceEqDiff, Nat.reduceLT, Nat.reduceLeDiff, Nat.reduceAdd, Nat.reduceMul, Nat.reduceSub, Nat.reduceBEq, ↓reduceIte, reduceCtorEq, gT, List.map_append] <;> rfl
      · rw [if_neg h1, List.append_nil] at hsn
        refine ⟨by unfold inI64; omega, i + 1, by omega, by omega, Keep.wk (ids := [some 0]) ?_⟩
        rw [hsn]
        simp only [push_cast, Nat.reduceEqDiff, Nat.reduceLT, Nat.reduceLeDiff, Nat.reduceAdd, Nat.reduceMul, Nat.reduceSub, Nat.reduceBEq, ↓reduceIte, reduceCtorEq, gT] <;> rfl
    · rw [show i = es.length by omega]
      refine Callx.hand [0] (sortS (idsN es p es.length) (by omega)) (by decide) (by simp only [push_cast, Nat.reduceEqDiff, Nat.reduceLT, Nat.reduceLeDiff, Nat.reduceAdd, Nat.reduceMul, Nat.reduceSub, Nat.reduceBEq, ↓reduceIte, reduceCtorEq]) rfl rfl (by simp only [push_cast, Nat.reduceEqDiff, Nat.reduceLT, Nat.reduceLeDiff, Nat.reduceAdd, Nat.reduceMul, Nat.reduceSub, Nat.reduceBEq, ↓reduceIte, reduceCtorEq] <;> rfl) rfl (.inr ⟨rfl, by simp only [push_cast, Nat.reduceEqDiff, Nat.reduceLT, Nat.reduceLeDiff, Nat.reduceAdd, Nat.reduceMul, Nat.reduceSub, Nat.reduceBEq, ↓reduceIte, reduceCtorEq] <;> rfl⟩) ?_
      simp -implicitDefEqProofs (maxSteps := 2000000) only [push_cast, Nat.reduceEqDiff, Nat.reduceLT, Nat.reduceLeDiff, Nat.reduceAdd, Nat.reduceMul, Nat.reduceSub, Nat.reduceBEq, ↓reduceIte, reduceCtorEq, gT, eEvent]
      exact Close.of [some 0] rfl rfl rfl rfl (by simp only [push_cast, Nat.reduceEqDiff, Nat.reduceLT, Nat.reduceLeDiff, Nat.reduceAdd, Nat.reduceMul, Nat.reduceSub, Nat.reduceBEq, ↓reduceIte, reduceCtorEq] <;> rfl)
end Go.Proofs.Ytkgoglapagmapaa.BX
