/-
  A frame for proofs over whole functions, second make: an empty row of one's own may hold closed values from now on.
-/
import Derived.Test.YthhgcklidfilfaaBxS
namespace Go.Proofs.Ythhgcklidfilfaa.BX
set_option linter.unusedSectionVars false
set_option linter.unusedSimpArgs false
set_option linter.unusedVariables false
open Go Go.RowKit
variable [Bd]

theorem Wk.clo0 {N : Nat} {σ : St} {id : Nat} {e : TypeId} {m : Nat} {s : Sh} (hid : σ.ob[id]? = some (.arr e m (.own s) [])) :
    Wk N σ { σ with ob := σ.ob.set id (.arr e m .clo []) } := by
  intro w0 hv S F a w _ hr
  have hlt : id < σ.ob.length := (List.getElem?_eq_some_iff.1 hid).1
  have get : ∀ {i : Nat} {o : Ob}, (σ.ob.set id (.arr e m .clo []))[i]? = some o → (i = id ∧ o = .arr e m .clo []) ∨ (i ≠ id ∧ σ.ob[i]? = some o) := by
    intro i o h
    by_cases hi : i = id
    · subst hi
      rw [List.getElem?_set_self hlt] at h
      cases h
      exact .inl ⟨rfl, rfl⟩
    · rw [List.getElem?_set_ne (fun h => hi h.symm)] at h
      exact .inr ⟨hi, h⟩
  refine ⟨hv, S, F, ?_⟩
  refine { hr with utm := fun t => ?_, ob := fun i o h => ?_, uob := fun i o h => ?_, root := fun i o h hd => ?_, sep := fun i j oi oj hij hi hj hdi hdj => ?_, fown := fun i o h ho => ?_, fsep := fun i j oi oj hij hi hj hoi hoj => ?_, an := ?_ }
  · rw [List.length_set]; exact hr.utm t
  · rcases get h with ⟨rfl, rfl⟩ | ⟨_, h⟩
    · obtain ⟨vs, h1, ⟨L, h2, _⟩, h3, h4⟩ := hr.ob _ _ hid
      simp only [ownEs] at h2
      obtain ⟨rfl, _⟩ := h2
      exact ⟨[], h1, ⟨[], by simp only [footTs]; exact ⟨trivial, trivial⟩, by simp⟩, h3, h4⟩
    · exact hr.ob i o h
  · rw [List.length_set]
    rcases get h with ⟨rfl, rfl⟩ | ⟨_, h⟩
    · rfl
    · exact hr.uob i o h
  · rcases get h with ⟨rfl, rfl⟩ | ⟨_, h⟩
    · exact hr.root _ _ hid (by simp)
    · exact hr.root i o h hd
  · have hi' : ∃ oi', σ.ob[i]? = some oi' ∧ oi' ≠ .dead := by
      rcases get hi with ⟨rfl, rfl⟩ | ⟨_, h⟩
      · exact ⟨_, hid, by simp⟩
      · exact ⟨_, h, hdi⟩
    have hj' : ∃ oj', σ.ob[j]? = some oj' ∧ oj' ≠ .dead := by
      rcases get hj with ⟨rfl, rfl⟩ | ⟨_, h⟩
      · exact ⟨_, hid, by simp⟩
      · exact ⟨_, h, hdj⟩
    obtain ⟨oi', a1, a2⟩ := hi'
    obtain ⟨oj', b1, b2⟩ := hj'
    exact hr.sep i j oi' oj' hij a1 b1 a2 b2
  · rcases get h with ⟨rfl, rfl⟩ | ⟨_, h⟩
    · cases ho
    · exact hr.fown i o h ho
  · rcases get hi with ⟨rfl, rfl⟩ | ⟨_, h1⟩
    · cases hoi
    · rcases get hj with ⟨rfl, rfl⟩ | ⟨_, h2⟩
      · cases hoj
      · exact hr.fsep i j oi oj hij h1 h2 hoi hoj
  · rw [List.length_set]; exact hr.an

end Go.Proofs.Ythhgcklidfilfaa.BX
