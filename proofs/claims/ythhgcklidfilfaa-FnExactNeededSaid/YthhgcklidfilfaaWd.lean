/-
  Words, the document's and the program's.
-/
import Derived.Test.YthhgcklidfilfaaEq
import Derived.Test.YthhgcklidfilfaaLb
namespace Go.Proofs.Ythhgcklidfilfaa.BX
set_option linter.unusedSectionVars false
set_option linter.unusedSimpArgs false
set_option linter.unusedVariables false
open Go Go.RowKit
set_option maxRecDepth 20000
set_option maxHeartbeats 400000

/-- a byte that may stand in a word -/
def wordB (c : UInt8) : Bool :=
  (decide ((97 : Int) ≤ c.toNat) && decide ((c.toNat : Int) ≤ 122)) || (decide ((65 : Int) ≤ c.toNat) && decide ((c.toNat : Int) ≤ 90)) || (decide ((48 : Int) ≤ c.toNat) && decide ((c.toNat : Int) ≤ 57)) ||
    (decide ((c.toNat : Int) = 95) || decide ((c.toNat : Int) = 46) || decide ((c.toNat : Int) = 64) || decide ((c.toNat : Int) = 36) || decide ((c.toNat : Int) = 47) || decide ((c.toNat : Int) = 43))
theorem wordB_iff {c : UInt8} : wordB c = true ↔ ((97 : Int) ≤ c.toNat ∧ (c.toNat : Int) ≤ 122) ∨ ((65 : Int) ≤ c.toNat ∧ (c.toNat : Int) ≤ 90) ∨ ((48 : Int) ≤ c.toNat ∧ (c.toNat : Int) ≤ 57) ∨
    ((c.toNat : Int) = 95 ∨ (c.toNat : Int) = 46 ∨ (c.toNat : Int) = 64 ∨ (c.toNat : Int) = 36 ∨ (c.toNat : Int) = 47 ∨ (c.toNat : Int) = 43) := by
  simp only [wordB, Bool.or_eq_true, Bool.and_eq_true, decide_eq_true_eq, or_assoc]
theorem wordB_no {c : UInt8} (h : ¬ (((97 : Int) ≤ c.toNat ∧ (c.toNat : Int) ≤ 122) ∨ ((65 : Int) ≤ c.toNat ∧ (c.toNat : Int) ≤ 90) ∨ ((48 : Int) ≤ c.toNat ∧ (c.toNat : Int) ≤ 57) ∨
    ((c.toNat : Int) = 95 ∨ (c.toNat : Int) = 46 ∨ (c.toNat : Int) = 64 ∨ (c.toNat : Int) = 36 ∨ (c.toNat : Int) = 47 ∨ (c.toNat : Int) = 43))) : wordB c = false := by
  cases hw : wordB c with
  | false => rfl
  | true => exact absurd (wordB_iff.1 hw) h
def isW (s : List UInt8) : Bool := decide (1 ≤ (s.length : Int)) && decide ((s.length : Int) ≤ 40) && s.all wordB
theorem byteEq {a b : UInt8} : (a == b) = decide ((b.toNat : Int) = a.toNat) := by
  rw [Bool.eq_iff_iff]
  simp only [beq_iff_eq, decide_eq_true_eq]
  refine ⟨fun h => by rw [h], fun h => UInt8.toNat_inj.1 (by omega)⟩
variable [Bd]
theorem l1WordByte (c : UInt8) : Con P0 180 [.i .u8 c.toNat] (.t (.b (wordB c))) [] := by
  refine Con.intro (fn := Try.f180) [.tmp 2] (fun _ => (0, [])) mixed (by kernel_rfl) rfl (by decide) rfl (by rfl) (by kernel_rfl) ?_
  simp -implicitDefEqProofs (maxSteps := 2000000) only [push_cast, Nat.reduceEqDiff, Nat.reduceLT, Nat.reduceLeDiff, Nat.reduceAdd, Nat.reduceMul, Nat.reduceSub, Nat.reduceBEq, ↓reduceIte, reduceCtorEq]
  repeat' refine iteI (fun _ => ?_) (fun _ => ?_)
  all_goals first
    | exact congrArg T.b (wordB_iff.2 (by omega)).symm
    | exact congrArg T.b (Bool.eq_iff_iff.2 (by rw [wordB_iff, decide_eq_true_eq]; omega))
/-- the bytes of a word that are no letters and no digits -/
def oddB : List UInt8 := [95, 46, 64, 36, 47, 43]
theorem oddB_any {c : UInt8} : (oddB.any (· == c)) = true ↔ ((c.toNat : Int) = 95 ∨ (c.toNat : Int) = 46 ∨ (c.toNat : Int) = 64 ∨ (c.toNat : Int) = 36 ∨ (c.toNat : Int) = 47 ∨ (c.toNat : Int) = 43) := by
  simp only [oddB, List.any_cons, List.any_nil, byteEq, Bool.or_eq_true, decide_eq_true_eq, Bool.or_false]
  exact Iff.rfl
theorem isW_all {s : List UInt8} {i : Nat} (hi : s.length ≤ i) (hc : ∀ c ∈ s.take i, wordB c = true) : s.all wordB = true := by
  rw [List.take_of_length_le hi] at hc
  exact List.all_eq_true.2 hc
theorem isW_no {s : List UInt8} {i : Nat} {a : UInt8} (ha : s[i]? = some a) (h : wordB a = false) : isW s = false := by
  unfold isW
  rw [Bool.and_eq_false_iff]
  refine .inr (List.all_eq_false.2 ⟨a, List.mem_of_getElem? ha, by simp [h]⟩)
theorem take_snoc {α : Type} {p : α → Prop} {s : List α} {i : Nat} {a : α} (ha : s[i]? = some a) (hc : ∀ c ∈ s.take i, p c) (h : p a) : ∀ c ∈ s.take (i + 1), p c := by
  intro e he
  rw [List.take_add_one, ha] at he
  rcases List.mem_append.1 he with he | he
  · exact hc e he
  · simp at he; subst he; exact h
theorem l1Word (s : List UInt8) : Con P0 160 [.s s] (.t (.b (isW s))) [] := by
  refine Con.intro (fn := Try.f160) [.tmp 2] (fun _ => (0, [])) mixed (by kernel_rfl) rfl (by decide) rfl (by rfl) (by kernel_rfl) ?_
  simp -implicitDefEqProofs (maxSteps := 2000000) only [push_cast, Nat.reduceEqDiff, Nat.reduceLT, Nat.reduceLeDiff, Nat.reduceAdd, Nat.reduceMul, Nat.reduceSub, Nat.reduceBEq, ↓reduceIte, reduceCtorEq]
  refine WL.loop (ι := Nat) (D := (fun _ => (0, []))) (fun i => i ≤ s.length ∧ ∀ c ∈ s.take i, wordB c = true) (fun i => ⟨23, [(0, .t (.s s)), (3, .t (.i .i64 i))], []⟩) (fun i => s.length - i) mixed (by kernel_rfl) 0 ⟨by omega, by simp⟩ (Keep.wk (ids := []) ?_) ?_
  · simp only [push_cast, Nat.reduceEqDiff, Nat.reduceLT, Nat.reduceLeDiff, Nat.reduceAdd, Nat.reduceMul, Nat.reduceSub, Nat.reduceBEq, ↓reduceIte, reduceCtorEq] <;> rfl
  · rintro i ⟨hi, hc⟩
    simp -implicitDefEqProofs (maxSteps := 2000000) only [push_cast, Nat.reduceEqDiff, Nat.reduceLT, Nat.reduceLeDiff, Nat.reduceAdd, Nat.reduceMul, Nat.reduceSub, Nat.reduceBEq, ↓reduceIte, reduceCtorEq]
    intro _
    have := Bd.hi
    split
    · rename_i h
      refine ⟨by omega, fun a ha => ?_⟩
      rw [Int.toNat_natCast] at ha
      simp -implicitDefEqProofs (maxSteps := 2000000) only [push_cast, Nat.reduceEqDiff, Nat.reduceLT, Nat.reduceLeDiff, Nat.reduceAdd, Nat.reduceMul, Nat.reduceSub, Nat.reduceBEq, ↓reduceIte, reduceCtorEq]
      refine Callx.closed (l1WordByte a) rfl rfl (.inl rfl) ?_
      simp -implicitDefEqProofs (maxSteps := 2000000) only [push_cast, Nat.reduceEqDiff, Nat.reduceLT, Nat.reduceLeDiff, Nat.reduceAdd, Nat.reduceMul, Nat.reduceSub, Nat.reduceBEq, ↓reduceIte, reduceCtorEq]
      cases hw : wordB a with
      | false => exact congrArg T.b (isW_no ha hw).symm
      | true =>
        simp -implicitDefEqProofs (maxSteps := 2000000) only [push_cast, Nat.reduceEqDiff, Nat.reduceLT, Nat.reduceLeDiff, Nat.reduceAdd, Nat.reduceMul, Nat.reduceSub, Nat.reduceBEq, ↓reduceIte, reduceCtorEq]
        refine ⟨by unfold inI64; omega, i + 1, ⟨by omega, take_snoc ha hc hw⟩, by omega, Keep.wk (ids := []) ?_⟩
        simp only [push_cast, Nat.reduceEqDiff, Nat.reduceLT, Nat.reduceLeDiff, Nat.reduceAdd, Nat.reduceMul, Nat.reduceSub, Nat.reduceBEq, ↓reduceIte, reduceCtorEq] <;> rfl
    · have ha := isW_all (by omega) hc
      unfold isW
      rw [ha]
      intro _
      rw [Bool.and_true]
      split
      · rename_i h1
        exact fun _ => congrArg T.b (by rw [decide_eq_true h1, Bool.true_and])
      · rename_i h1
        exact congrArg T.b (by rw [decide_eq_false h1, Bool.false_and])
theorem isWord (s : List UInt8) : Con P0 165 [.s s] (.t (.b (isW s))) [] := by
  refine Con.intro (fn := Try.f165) [.tmp 2] (fun _ => (0, [])) mixed (by kernel_rfl) rfl (by decide) rfl (by rfl) (by kernel_rfl) ?_
  simp -implicitDefEqProofs (maxSteps := 2000000) only [push_cast, Nat.reduceEqDiff, Nat.reduceLT, Nat.reduceLeDiff, Nat.reduceAdd, Nat.reduceMul, Nat.reduceSub, Nat.reduceBEq, ↓reduceIte, reduceCtorEq]
  intro _
  split
  · rename_i h
    unfold isW
    rw [decide_eq_false (by omega)]; rfl
  intro _
  split
  · rename_i h
    unfold isW
    rw [decide_eq_false (p := ((s.length : Int) ≤ 40)) (by omega)]; simp
  intro _
  refine WL.loop (ι := Nat) (D := (fun _ => (0, []))) (fun i => i ≤ s.length ∧ ∀ c ∈ s.take i, wordB c = true) (fun i => ⟨44, [(0, .t (.s s)), (14, .t (.i .i64 s.length)), (15, .t (.i .i64 i))], []⟩) (fun i => s.length - i) mixed (by kernel_rfl) 0 ⟨by omega, by simp⟩ (Keep.wk (ids := []) ?_) ?_
  · simp only [push_cast, Nat.reduceEqDiff, Nat.reduceLT, Nat.reduceLeDiff, Nat.reduceAdd, Nat.reduceMul, Nat.reduceSub, Nat.reduceBEq, ↓reduceIte, reduceCtorEq] <;> rfl
  · rintro i ⟨hi, hc⟩
    simp -implicitDefEqProofs (maxSteps := 2000000) only [push_cast, Nat.reduceEqDiff, Nat.reduceLT, Nat.reduceLeDiff, Nat.reduceAdd, Nat.reduceMul, Nat.reduceSub, Nat.reduceBEq, ↓reduceIte, reduceCtorEq]
    have := Bd.hi
    split
    · rename_i h
      refine ⟨by omega, fun a ha => ?_⟩
      rw [Int.toNat_natCast] at ha
      simp -implicitDefEqProofs (maxSteps := 2000000) only [push_cast, Nat.reduceEqDiff, Nat.reduceLT, Nat.reduceLeDiff, Nat.reduceAdd, Nat.reduceMul, Nat.reduceSub, Nat.reduceBEq, ↓reduceIte, reduceCtorEq]
      have yes : wordB a = true → inI64 (i + 1) ∧ ∀ j, j = i + 1 → (j ≤ s.length ∧ ∀ c ∈ s.take j, wordB c = true) ∧ s.length - j < s.length - i := fun hw => ⟨by unfold inI64; omega, fun j hj => by subst hj; exact ⟨⟨by omega, take_snoc ha hc hw⟩, by omega⟩⟩
      repeat' refine iteI (fun _ => ?_) (fun _ => ?_)
      all_goals first
        | (exfalso; omega)
        | (refine ⟨(yes (wordB_iff.2 (by omega))).1, i + 1, ((yes (wordB_iff.2 (by omega))).2 _ rfl).1, ((yes (wordB_iff.2 (by omega))).2 _ rfl).2, Keep.wk (ids := []) ?_⟩
           simp only [push_cast, Nat.reduceEqDiff, Nat.reduceLT, Nat.reduceLeDiff, Nat.reduceAdd, Nat.reduceMul, Nat.reduceSub, Nat.reduceBEq, ↓reduceIte, reduceCtorEq] <;> rfl)
        | (refine Callx.closed (indexByte a oddB) rfl rfl (.inl rfl) ?_
           simp -implicitDefEqProofs (maxSteps := 2000000) only [push_cast, Nat.reduceEqDiff, Nat.reduceLT, Nat.reduceLeDiff, Nat.reduceAdd, Nat.reduceMul, Nat.reduceSub, Nat.reduceBEq, ↓reduceIte, reduceCtorEq]
           have ho := idxOf_nn (c := a) (xs := oddB)
           refine iteI (fun h1 => ?_) (fun h1 => ?_)
           · rw [decide_eq_true h1] at ho
             have hw := oddB_any.1 ho.symm
             refine ⟨(yes (wordB_iff.2 (by omega))).1, i + 1, ((yes (wordB_iff.2 (by omega))).2 _ rfl).1, ((yes (wordB_iff.2 (by omega))).2 _ rfl).2, Keep.wk (ids := []) ?_⟩
             simp only [push_cast, Nat.reduceEqDiff, Nat.reduceLT, Nat.reduceLeDiff, Nat.reduceAdd, Nat.reduceMul, Nat.reduceSub, Nat.reduceBEq, ↓reduceIte, reduceCtorEq] <;> rfl
           · rw [decide_eq_false h1] at ho
             refine congrArg T.b (isW_no ha (wordB_no fun hh => ?_)).symm
             have := oddB_any (c := a)
             rw [← ho] at this
             simp only [Bool.false_eq_true, false_iff] at this
             omega)
    · have ha := isW_all (by omega) hc
      refine congrArg T.b ?_
      unfold isW
      rw [ha, decide_eq_true (by omega), decide_eq_true (by omega)]; rfl
end Go.Proofs.Ythhgcklidfilfaa.BX
