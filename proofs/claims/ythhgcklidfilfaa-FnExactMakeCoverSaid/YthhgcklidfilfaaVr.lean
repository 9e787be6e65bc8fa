/-
  What holds in a valid room.
-/
import Derived.Test.YthhgcklidfilfaaNm
namespace Go.Proofs.Ythhgcklidfilfaa.BX
set_option linter.unusedSectionVars false
set_option linter.unusedSimpArgs false
set_option linter.unusedVariables false
open Go Go.RowKit
set_option maxRecDepth 20000
set_option maxHeartbeats 400000

/-- an event that may be added -/
structure Good (es : List Event) (e : Event) : Prop where
  ok : evOk e = 0
  new : posOf e.id es = none
  prev : ∀ id ∈ e.prev, (posOf id es).isSome = true
  auth : ∀ id ∈ e.auth, (posOf id es).isSome = true
  first : es.length = 0 ↔ e.typ = sCreate
  hasPrev : es.length ≠ 0 → e.prev.length ≠ 0
  hasAuth : es.length ≠ 0 → e.auth.length ≠ 0
  room : es.length < 300
theorem good_of {es : List Event} {e : Event} (h : codeE es e = 0) : Good es e := by
  unfold codeE at h
  split at h
  · rename_i h1; exact absurd h h1
  rename_i h1
  have h1 := Classical.not_not.1 h1
  unfold cd2 at h
  split at h
  · cases h
  rename_i h2
  unfold cd3 at h
  split at h
  · cases h
  rename_i h3
  have h3 := Classical.not_not.1 h3
  unfold cd4 at h
  split at h
  · cases h
  rename_i h4
  unfold cd5 at h
  split at h
  · cases h
  rename_i h5
  have ha : ∀ {ids : List (List UInt8)}, allIn es ids = true → ∀ id ∈ ids, (posOf id es).isSome = true := fun h => by
    unfold allIn at h; exact of_decide_eq_true h
  simp only [not_or, not_and, Classical.not_not] at h4
  refine ⟨h1, by simpa using h2, ha h3.1, ha h3.2, ⟨fun hh => h4.1 (by omega), fun hh => Classical.byContradiction fun hn => ?_⟩, fun hn hh => ?_, fun hn hh => ?_, by omega⟩
  · exact (h4.2 (by omega)).1 hh
  · exact (h4.2 (by omega)).2.1 (by omega)
  · exact (h4.2 (by omega)).2.2 (by omega)
theorem Valid.good {es : List Event} (h : Valid es) {i : Nat} {e : Event} (he : es[i]? = some e) : Good (es.take i) e := good_of (h i e he)
theorem posOf_take {k : List UInt8} {es : List Event} {n i : Nat} (h : posOf k (es.take n) = some i) : posOf k es = some i := by
  obtain ⟨e, h1, h2, h3⟩ := posOf_some.1 h
  have hi := posOf_lt h
  rw [List.length_take] at hi
  refine posOf_some.2 ⟨e, ?_, h2, ?_⟩
  · rwa [List.getElem?_take_of_lt (by omega)] at h1
  · rwa [List.take_take, Nat.min_eq_left (by omega)] at h3
theorem Valid.once {es : List Event} (h : Valid es) : Once es := by
  refine List.pairwise_iff_getElem.2 fun i j hi hj hij => ?_
  rw [List.getElem_map, List.getElem_map]
  have hj' : j < es.length := by simpa using hj
  have g := (h.good (List.getElem?_eq_getElem hj')).new
  rw [posOf_none] at g
  exact g _ (List.mem_take_iff_getElem.2 ⟨i, by omega, rfl⟩)
/-- a reference leads to an earlier event -/
theorem pos_ref {es : List Event} {n : Nat} {id : List UInt8} (h : (posOf id (es.take n)).isSome = true) : ∃ k a, k < n ∧ es[k]? = some a ∧ a.id = id ∧ posOf id es = some k := by
  obtain ⟨k, hk⟩ := Option.isSome_iff_exists.1 h
  have hp := posOf_take hk
  have hl := posOf_lt hk
  rw [List.length_take] at hl
  obtain ⟨a, h1, h2, _⟩ := posOf_some.1 hp
  exact ⟨k, a, by omega, h1, h2, hp⟩
theorem Valid.pos {es : List Event} (h : Valid es) {i : Nat} {e : Event} (he : es[i]? = some e) : posOf e.id es = some i := by
  obtain ⟨hi, rfl⟩ := List.getElem?_eq_some_iff.1 he
  refine posOf_some.2 ⟨es[i], he, rfl, fun x hx => ?_⟩
  exact (posOf_none.1 (h.good he).new) x hx
theorem Valid.len {es : List Event} (h : Valid es) : es.length ≤ 300 := by
  rcases Nat.eq_zero_or_pos es.length with h0 | h0
  · omega
  have := (h.good (List.getElem?_eq_getElem (i := es.length - 1) (by omega))).room
  rw [List.length_take] at this
  omega
theorem Valid.take {es : List Event} (h : Valid es) {n : Nat} : Valid (es.take n) := by
  intro i e he
  have hi := (List.getElem?_eq_some_iff.1 he).1
  rw [List.length_take] at hi
  rw [List.getElem?_take_of_lt (by omega)] at he
  rw [List.take_take, Nat.min_eq_left (by omega)]
  exact h i e he
theorem room_valid {es : List Event} (h : roomB es = true) : Valid es := @of_decide_eq_true _ (Classical.propDecidable _) h
end Go.Proofs.Ythhgcklidfilfaa.BX
