/-
  The map of a state, written out in order.
-/
import Derived.Test.YthhgcklidfilfaaSf
import Derived.Test.YthhgcklidfilfaaSn
namespace Go.Proofs.Ythhgcklidfilfaa.BX
set_option linter.unusedSectionVars false
set_option linter.unusedSimpArgs false
set_option linter.unusedVariables false
open Go Go.RowKit
set_option maxRecDepth 20000
set_option maxHeartbeats 400000

def ofPair (p : SlotK × List UInt8) : Entry := ⟨p.1.1, p.1.2, p.2⟩
theorem ofPair_pair (e : Entry) : ofPair e.pair = e := rfl
theorem pair_ofPair (p : SlotK × List UInt8) : (ofPair p).pair = p := rfl
theorem permE_pairs {l s : List Entry} (h : List.Perm (l.map Entry.pair) (s.map Entry.pair)) : List.Perm l s := by
  have := h.map ofPair
  rw [List.map_map, List.map_map] at this
  have e : (ofPair ∘ Entry.pair) = id := rfl
  rwa [e, List.map_id, List.map_id] at this
def lvP (p : SlotK × List UInt8) : T × T := (eK p.1, T.s p.2)
theorem lv_zip {m : List (SlotK × List UInt8)} : (m.map fun p => eK p.1).zip (m.map fun p => T.s p.2) = m.map lvP := by
  induction m with
  | nil => rfl
  | cons p m ih => simp only [List.map_cons, List.zip_cons_cons, ih]; rfl
theorem eraseE_map {α β : Type} {f : α → β} : ∀ {l : List α} {i : Nat}, (l.map f).eraseIdx i = (l.eraseIdx i).map f
  | [], _ => rfl
  | _ :: _, 0 => rfl
  | x :: l, i + 1 => by simp only [List.map_cons, List.eraseIdx_cons_succ, eraseE_map]
theorem erase_pick {α : Type} : ∀ {l : List α} {i : Nat} {x : α}, l[i]? = some x → List.Perm l (x :: l.eraseIdx i)
  | [], _, _, h => by simp at h
  | y :: l, 0, x, h => by simp at h; subst h; simp
  | y :: l, i + 1, x, h => by
    simp only [List.getElem?_cons_succ] at h
    simp only [List.eraseIdx_cons_succ]
    exact ((erase_pick h).cons y).trans (List.Perm.swap ..)

variable [Bd]

theorem liveList (m : List (SlotK × List UInt8)) (s : List Entry) (hB : Bd.B ≤ 2147483648) (hm : m.length < 1048576) (hi : Is m s) : Con P0 72 [lvT m] (.sr 0) [.arr 32 3 (.own (.ag [.leaf, .leaf, .leaf])) (s.map eEntry)] := by
  refine Con.intro (fn := Try.f72) [.tmp 2] (fun _ => (0, [])) mixed (by kernel_rfl) rfl (by decide) rfl (by rfl) (by kernel_rfl) ?_
  simp -implicitDefEqProofs (maxSteps := 2000000) only [push_cast, Nat.reduceEqDiff, Nat.reduceLT, Nat.reduceLeDiff, Nat.reduceAdd, Nat.reduceMul, Nat.reduceSub, Nat.reduceBEq, ↓reduceIte, reduceCtorEq, lvT]
  have := Bd.lo
  refine ⟨rfl, by omega, ?_⟩
  rw [lv_zip]
  refine WL.loop (ι := List Entry × List (SlotK × List UInt8)) (D := (fun _ => (0, []))) (fun x => List.Perm (x.1.map Entry.pair ++ x.2) m) (fun x => ⟨26, [(3, .sr 0), (8, .it 1)], [.arr 32 3 (.own (.ag [.leaf, .leaf, .leaf])) (x.1.map eEntry), .iter none (x.2.map lvP)]⟩) (fun x => x.2.length) mixed (by kernel_rfl) ([], m) (by simp) (Keep.wk (ids := [some 0, some 1]) ?_) ?_
  · simp only [push_cast, Nat.reduceEqDiff, Nat.reduceLT, Nat.reduceLeDiff, Nat.reduceAdd, Nat.reduceMul, Nat.reduceSub, Nat.reduceBEq, ↓reduceIte, reduceCtorEq, List.map_nil] <;> trivial
  · rintro ⟨l, r⟩ hp
    dsimp only at hp ⊢
    simp -implicitDefEqProofs (maxSteps := 2000000) only [push_cast, Nat.reduceEqDiff, Nat.reduceLT, Nat.reduceLeDiff, Nat.reduceAdd, Nat.reduceMul, Nat.reduceSub, Nat.reduceBEq, ↓reduceIte, reduceCtorEq]
    have hlen := hp.length_eq
    rw [List.length_append, List.length_map] at hlen
    refine ⟨fun h0 => ?_, fun i p hip => ?_⟩
    · have hr : r = [] := by simpa using h0
      subst hr
      rw [List.append_nil] at hp
      refine Callx.hand [0] (sortE l s hB (permE_pairs (hp.trans hi.1)) hi.2) (by decide) (by simp only [push_cast, Nat.reduceEqDiff, Nat.reduceLT, Nat.reduceLeDiff, Nat.reduceAdd, Nat.reduceMul, Nat.reduceSub, Nat.reduceBEq, ↓reduceIte, reduceCtorEq]) rfl rfl (by simp only [push_cast, Nat.reduceEqDiff, Nat.reduceLT, Nat.reduceLeDiff, Nat.reduceAdd, Nat.reduceMul, Nat.reduceSub, Nat.reduceBEq, ↓reduceIte, reduceCtorEq] <;> rfl) rfl (.inr ⟨rfl, by simp only [push_cast, Nat.reduceEqDiff, Nat.reduceLT, Nat.reduceLeDiff, Nat.reduceAdd, Nat.reduceMul, Nat.reduceSub, Nat.reduceBEq, ↓reduceIte, reduceCtorEq]⟩) ?_
      simp -implicitDefEqProofs (maxSteps := 2000000) only [push_cast, Nat.reduceEqDiff, Nat.reduceLT, Nat.reduceLeDiff, Nat.reduceAdd, Nat.reduceMul, Nat.reduceSub, Nat.reduceBEq, ↓reduceIte, reduceCtorEq]
      exact Close.of [some 0] rfl rfl rfl rfl (by simp only [push_cast, Nat.reduceEqDiff, Nat.reduceLT, Nat.reduceLeDiff, Nat.reduceAdd, Nat.reduceMul, Nat.reduceSub, Nat.reduceBEq, ↓reduceIte, reduceCtorEq] <;> rfl)
    · rw [List.getElem?_map, Option.map_eq_some_iff] at hip
      obtain ⟨q, hq, rfl⟩ := hip
      simp -implicitDefEqProofs (maxSteps := 2000000) only [push_cast, Nat.reduceEqDiff, Nat.reduceLT, Nat.reduceLeDiff, Nat.reduceAdd, Nat.reduceMul, Nat.reduceSub, Nat.reduceBEq, ↓reduceIte, reduceCtorEq, lvP, eK]
      have hil := (List.getElem?_eq_some_iff.1 hq).1
      have hpl := erase_pick hq
      refine ⟨rfl, by omega, rfl, by omega, by omega, (l ++ [ofPair q], r.eraseIdx i), ?_, by dsimp only; rw [List.length_eraseIdx, if_pos hil]; omega, Keep.wk (ids := [some 4, some 1]) ?_⟩
      · dsimp only
        rw [List.map_append, List.append_assoc]
        exact ((hpl.symm).append_left _).trans hp
      · simp only [push_cast, Nat.reduceEqDiff, Nat.reduceLT, Nat.reduceLeDiff, Nat.reduceAdd, Nat.reduceMul, Nat.reduceSub, Nat.reduceBEq, ↓reduceIte, reduceCtorEq, List.map_append, eraseE_map] <;> exact ⟨rfl, rfl⟩

end Go.Proofs.Ythhgcklidfilfaa.BX
