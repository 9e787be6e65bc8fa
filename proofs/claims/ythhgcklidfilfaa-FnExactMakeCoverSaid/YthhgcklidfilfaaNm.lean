/-
  The program's 'named': the ids of the events that a test lets pass, in order.
-/
import Derived.Test.YthhgcklidfilfaaNd
namespace Go.Proofs.Ythhgcklidfilfaa.BX
set_option linter.unusedSectionVars false
set_option linter.unusedSimpArgs false
set_option linter.unusedVariables false
open Go Go.RowKit
set_option maxRecDepth 20000
set_option maxHeartbeats 400000

/-- the ids of the first n events that pass -/
def idsN (es : List Event) (p : Nat → Bool) (n : Nat) : List (List UInt8) := (List.range n).filterMap fun i => if p i = true then (es[i]?).map (·.id) else none
theorem idsN_snoc {es : List Event} {p : Nat → Bool} {i : Nat} {e : Event} (h : es[i]? = some e) : idsN es p (i + 1) = idsN es p i ++ (if p i = true then [e.id] else []) := by
  unfold idsN
  rw [List.range_succ, List.filterMap_append]
  congr 1
  rw [List.filterMap_cons, List.filterMap_nil, h]
  split <;> simp_all
theorem idsN_mem {es : List Event} {p : Nat → Bool} {n : Nat} {x : List UInt8} : x ∈ idsN es p n ↔ ∃ i e, i < n ∧ es[i]? = some e ∧ p i = true ∧ e.id = x := by
  unfold idsN
  rw [List.mem_filterMap]
  constructor
  · rintro ⟨i, hi, h⟩
    split at h
    · rename_i hp
      rw [Option.map_eq_some_iff] at h
      obtain ⟨e, he, hx⟩ := h
      exact ⟨i, e, List.mem_range.1 hi, he, hp, hx⟩
    · cases h
  · rintro ⟨i, e, hi, he, hp, hx⟩
    exact ⟨i, List.mem_range.2 hi, by rw [if_pos hp, he]; exact congrArg some hx⟩
theorem idsN_len {es : List Event} {p : Nat → Bool} {n : Nat} : (idsN es p n).length ≤ n := by
  have := List.length_filterMap_le (fun i => if p i = true then (es[i]?).map (·.id) else none) (List.range n)
  simpa [idsN] using this
/-- each id stands once -/
def Once (es : List Event) : Prop := (es.map (·.id)).Nodup
theorem once_at {es : List Event} (h : Once es) {i j : Nat} {a b : Event} (ha : es[i]? = some a) (hb : es[j]? = some b) (hab : a.id = b.id) : i = j := by
  obtain ⟨hi, rfl⟩ := List.getElem?_eq_some_iff.1 ha
  obtain ⟨hj, rfl⟩ := List.getElem?_eq_some_iff.1 hb
  have h := List.pairwise_iff_getElem.1 h
  rcases Nat.lt_trichotomy i j with hlt | rfl | hlt
  · have q := h i j (by simpa using hi) (by simpa using hj) hlt
    rw [List.getElem_map, List.getElem_map] at q
    exact absurd hab q
  · rfl
  · have q := h j i (by simpa using hj) (by simpa using hi) hlt
    rw [List.getElem_map, List.getElem_map] at q
    exact absurd hab.symm q
theorem idsN_nodup {es : List Event} (h : Once es) {p : Nat → Bool} {n : Nat} : (idsN es p n).Nodup := by
  unfold idsN
  refine List.pairwise_filterMap.2 (List.nodup_range.imp fun {i j} hij a ha b hb => ?_)
  rintro rfl
  by_cases h1 : p i = true
  case neg => rw [if_neg h1] at ha; cases ha
  by_cases h2 : p j = true
  case neg => rw [if_neg h2] at hb; cases hb
  rw [if_pos h1] at ha
  rw [if_pos h2] at hb
  rw [Option.map_eq_some_iff] at ha hb
  obtain ⟨x, hx, rfl⟩ := ha
  obtain ⟨y, hy, hxy⟩ := hb
  exact hij (once_at h hx hy hxy.symm)
variable [Bd]
theorem sees_map {ob : List Ob} {n : Nat} : ∀ {c : List T}, seesW (AV.see ob (n + 1)) (c.map AV.t) = some c
  | [] => rfl
  | x :: c => by
    have h := sees_map (ob := ob) (n := n) (c := c)
    have h1 : AV.see ob (n + 1) (.t x) = some x := by simp only [AV.see]
    simp only [List.map_cons, seesW, h1, h] <;> rfl
theorem shuts_map : ∀ {c : List T}, shuts (c.map AV.t) = some c
  | [] => rfl
  | x :: c => by
    have h := shuts_map (c := c)
    simp only [List.map_cons, shuts, AV.shut, h] <;> rfl
end Go.Proofs.Ythhgcklidfilfaa.BX
