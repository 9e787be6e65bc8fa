/-
  The functions 'laws.held..' of covers.
-/
import Derived.Test.YthhgcklidfilfaaMa
namespace Go.Proofs.Ythhgcklidfilfaa.BX
set_option linter.unusedSectionVars false
set_option linter.unusedSimpArgs false
set_option linter.unusedVariables false
open Go Go.RowKit
set_option maxRecDepth 20000
set_option maxHeartbeats 400000
theorem markSS_get : ∀ {xs : List (List Int)} {k : Int} {i : Nat} {x : List Int}, xs[i]? = some x → (markSS xs k)[i]? = some (marked x.length (k + tot (xs.take i)))
  | [], _, _, _, h => by simp at h
  | y :: r, k, 0, x, h => by
    simp only [List.getElem?_cons_zero, Option.some.injEq] at h
    subst h
    simp [markSS, tot]
  | y :: r, k, i + 1, x, h => by
    simp only [List.getElem?_cons_succ] at h
    simp only [markSS, List.getElem?_cons_succ, markSS_get h, List.take_succ_cons, tot]
    rw [show k + (y.length : Int) + (tot (r.take i) : Int) = k + ((y.length + tot (r.take i) : Nat) : Int) by push_cast; omega]
theorem markedSp_get {n i : Nat} {k : Int} (h : i < n) : (markedSp n k)[i]? = some ⟨k + 2 * (i : Nat), k + 2 * (i : Nat) + 1⟩ := by simp [markedSp, h]
variable [Bd]
theorem heldSpotS (n : Nat) (k : Int) (h0 : 0 ≤ k) (hk : k + 2 * n ≤ 4611686018427387904) : Con P0 112 [eSpotS (markedSp n k), .i .i64 k] (.t (.i .i64 (k + 2 * n))) [] := by
  refine Con.intro (fn := Try.f112) [.tmp 4] (fun _ => (0, [])) mixed (by kernel_rfl) rfl (by decide) rfl (by rfl) (by kernel_rfl) ?_
  simp -implicitDefEqProofs (maxSteps := 2000000) only [push_cast, Nat.reduceEqDiff, Nat.reduceLT, Nat.reduceLeDiff, Nat.reduceAdd, Nat.reduceMul, Nat.reduceSub, Nat.reduceBEq, ↓reduceIte, reduceCtorEq]
  refine WL.loop (ι := Nat) (D := (fun _ => (0, []))) (fun i => i ≤ n) (fun i => ⟨31, [(0, .t (eSpotS (markedSp n k))), (1, .t (.i .i64 (k + 2 * i))), (5, .t (.i .i64 i))], []⟩) (fun i => n - i) mixed (by kernel_rfl) 0 (by omega) (Keep.wk (ids := []) ?_) ?_
  · simp only [push_cast, Nat.reduceEqDiff, Nat.reduceLT, Nat.reduceLeDiff, Nat.reduceAdd, Nat.reduceMul, Nat.reduceSub, Nat.reduceBEq, ↓reduceIte, reduceCtorEq, Int.mul_zero, Int.add_zero, Int.cast_ofNat_Int] <;> trivial
  · intro i hi
    simp -implicitDefEqProofs (maxSteps := 2000000) only [push_cast, Nat.reduceEqDiff, Nat.reduceLT, Nat.reduceLeDiff, Nat.reduceAdd, Nat.reduceMul, Nat.reduceSub, Nat.reduceBEq, ↓reduceIte, reduceCtorEq, eSpot]
    intro _
    have hml : (markedSp n k).length = n := markedSp_len
    rw [hml]
    split
    · rename_i h
      refine ⟨by omega, fun a ha => ?_⟩
      rw [Int.toNat_natCast, markedSp_get (by omega)] at ha
      cases ha
      rw [if_neg (fun h => h rfl)]
      refine ⟨by unfold inI64; omega, by omega, fun a ha => ?_⟩
      rw [Int.toNat_natCast, markedSp_get (by omega)] at ha
      cases ha
      rw [if_neg (fun h => h rfl)]
      refine ⟨by unfold inI64; omega, by unfold inI64; omega, i + 1, by omega, by omega, Keep.wk (ids := []) ?_⟩
      simp only [push_cast, Nat.reduceEqDiff, Nat.reduceLT, Nat.reduceLeDiff, Nat.reduceAdd, Nat.reduceMul, Nat.reduceSub, Nat.reduceBEq, ↓reduceIte, reduceCtorEq, T.i.injEq, AV.t.injEq] <;> omega
    · have hi : i = n := by omega
      subst hi
      rfl

theorem heldIntSS (xs : List (List Int)) (k : Int) (h0 : 0 ≤ k) (hk : k + tot xs ≤ 4611686018427387904) : Con P0 113 [eIntSS (markSS xs k), .i .i64 k] (.t (.i .i64 (k + tot xs))) [] := by
  refine Con.intro (fn := Try.f113) [.tmp 4] (fun _ => (0, [])) mixed (by kernel_rfl) rfl (by decide) rfl (by rfl) (by kernel_rfl) ?_
  simp -implicitDefEqProofs (maxSteps := 2000000) only [push_cast, Nat.reduceEqDiff, Nat.reduceLT, Nat.reduceLeDiff, Nat.reduceAdd, Nat.reduceMul, Nat.reduceSub, Nat.reduceBEq, ↓reduceIte, reduceCtorEq]
  refine WL.loop (ι := Nat) (D := (fun _ => (0, []))) (fun i => i ≤ xs.length) (fun i => ⟨21, [(0, .t (eIntSS (markSS xs k))), (1, .t (.i .i64 (k + tot (xs.take i)))), (5, .t (.i .i64 i))], []⟩) (fun i => xs.length - i) mixed (by kernel_rfl) 0 (by omega) (Keep.wk (ids := []) ?_) ?_
  · simp only [push_cast, Nat.reduceEqDiff, Nat.reduceLT, Nat.reduceLeDiff, Nat.reduceAdd, Nat.reduceMul, Nat.reduceSub, Nat.reduceBEq, ↓reduceIte, reduceCtorEq, List.take_zero, tot, Int.add_zero, Int.cast_ofNat_Int] <;> trivial
  · intro i hi
    simp -implicitDefEqProofs (maxSteps := 2000000) only [push_cast, Nat.reduceEqDiff, Nat.reduceLT, Nat.reduceLeDiff, Nat.reduceAdd, Nat.reduceMul, Nat.reduceSub, Nat.reduceBEq, ↓reduceIte, reduceCtorEq]
    intro hBl
    have := Bd.hi
    have hml : (markSS xs k).length = xs.length := markSS_len
    rw [hml] at hBl ⊢
    split
    · rename_i h
      refine ⟨by omega, fun a ha => ?_⟩
      obtain ⟨x, hx⟩ : ∃ x, xs[i]? = some x := ⟨xs[i], List.getElem?_eq_getElem (by omega)⟩
      rw [Int.toNat_natCast, markSS_get hx] at ha
      cases ha
      have ht := tot_take hx
      have hl := tot_le (xs := xs) (i := i + 1)
      have hml2 : (marked x.length (k + tot (xs.take i))).length = x.length := marked_len
      have hcon := heldIntS (marked x.length (k + tot (xs.take i))) (k + tot (xs.take i)) (by omega) (by rw [hml2]; omega)
      rw [hml2, if_pos rfl] at hcon
      refine Callx.closed hcon rfl rfl (.inl rfl) ?_
      simp -implicitDefEqProofs (maxSteps := 2000000) only [push_cast, Nat.reduceEqDiff, Nat.reduceLT, Nat.reduceLeDiff, Nat.reduceAdd, Nat.reduceMul, Nat.reduceSub, Nat.reduceBEq, ↓reduceIte, reduceCtorEq]
      rw [if_neg (by omega)]
      refine ⟨by unfold inI64; omega, i + 1, by omega, by omega, Keep.wk (ids := []) ?_⟩
      simp only [push_cast, Nat.reduceEqDiff, Nat.reduceLT, Nat.reduceLeDiff, Nat.reduceAdd, Nat.reduceMul, Nat.reduceSub, Nat.reduceBEq, ↓reduceIte, reduceCtorEq, T.i.injEq, AV.t.injEq] <;> omega
    · have hi : i = xs.length := by omega
      subst hi
      rw [List.take_length]

theorem heldCover (c : Cover) (k : Int) (h0 : 0 ≤ k) (hk : k + 2 * c.spots.length + tot c.reach ≤ 4611686018427387904) : Con P0 42 [eCover ⟨markedSp c.spots.length k, markSS c.reach (k + 2 * c.spots.length)⟩, .i .i64 k] (.t (.i .i64 (k + 2 * c.spots.length + tot c.reach))) [] := by
  refine Con.intro (fn := Try.f42) [.tmp 4] (fun _ => (0, [])) mixed (by kernel_rfl) rfl (by decide) rfl (by rfl) (by kernel_rfl) ?_
  simp -implicitDefEqProofs (maxSteps := 2000000) only [push_cast, Nat.reduceEqDiff, Nat.reduceLT, Nat.reduceLeDiff, Nat.reduceAdd, Nat.reduceMul, Nat.reduceSub, Nat.reduceBEq, ↓reduceIte, reduceCtorEq, eCover]
  refine Callx.closed (heldSpotS c.spots.length k h0 (by omega)) rfl rfl (.inl rfl) ?_
  simp -implicitDefEqProofs (maxSteps := 2000000) only [push_cast, Nat.reduceEqDiff, Nat.reduceLT, Nat.reduceLeDiff, Nat.reduceAdd, Nat.reduceMul, Nat.reduceSub, Nat.reduceBEq, ↓reduceIte, reduceCtorEq, eCover]
  rw [if_neg (by omega)]
  refine Callx.closed (heldIntSS c.reach (k + 2 * c.spots.length) (by omega) (by omega)) rfl rfl (.inl rfl) ?_
  simp -implicitDefEqProofs (maxSteps := 2000000) only [push_cast, Nat.reduceEqDiff, Nat.reduceLT, Nat.reduceLeDiff, Nat.reduceAdd, Nat.reduceMul, Nat.reduceSub, Nat.reduceBEq, ↓reduceIte, reduceCtorEq, eCover]
  rw [if_neg (by omega)]
  trivial
end Go.Proofs.Ythhgcklidfilfaa.BX
