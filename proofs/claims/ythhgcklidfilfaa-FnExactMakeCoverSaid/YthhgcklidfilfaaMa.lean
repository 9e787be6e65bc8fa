/-
  The functions 'laws.mark..' and 'laws.held..': they write into a value all over, and read it so.
-/
import Derived.Test.YthhgcklidfilfaaDa
namespace Go.Proofs.Ythhgcklidfilfaa.BX
set_option linter.unusedSectionVars false
set_option linter.unusedSimpArgs false
set_option linter.unusedVariables false
open Go Go.RowKit
set_option maxRecDepth 20000
set_option maxHeartbeats 400000

/-! ### the plain law -/
def marked (n : Nat) (k : Int) : List Int := (List.range n).map fun i => k + (i : Nat)
theorem marked_len {n : Nat} {k : Int} : (marked n k).length = n := by simp [marked]
theorem marked_succ {n : Nat} {k : Int} : marked (n + 1) k = marked n k ++ [k + n] := by simp [marked, List.range_succ]
theorem marked_get {n i : Nat} {k : Int} (h : i < n) : (marked n k)[i]? = some (k + i) := by simp [marked, h]
/-- the first i are marked -/
def markedTo (xs : List Int) (k : Int) (i : Nat) : List Int := marked i k ++ xs.drop i
theorem markedTo_len {xs : List Int} {k : Int} {i : Nat} (h : i ≤ xs.length) : (markedTo xs k i).length = xs.length := by simp [markedTo, marked_len]; omega
theorem markedTo_zero {xs : List Int} {k : Int} : markedTo xs k 0 = xs := by simp [markedTo, marked]
theorem markedTo_all {xs : List Int} {k : Int} : markedTo xs k xs.length = marked xs.length k := by simp [markedTo]
theorem markedTo_set {xs : List Int} {k : Int} {i : Nat} (h : i < xs.length) : (markedTo xs k i).set i (k + i) = markedTo xs k (i + 1) := by
  unfold markedTo
  rw [List.set_append_right _ _ (by rw [marked_len]; omega), marked_len, Nat.sub_self, marked_succ]
  have : xs.drop i = xs[i] :: xs.drop (i + 1) := List.drop_eq_getElem_cons h
  rw [this, List.set_cons_zero]
  simp
theorem map_set_i {xs : List Int} {i : Nat} {z : Int} : (xs.map (T.i .i64)).set i (.i .i64 z) = (xs.set i z).map (T.i .i64) := by rw [List.map_set]
def tot : List (List Int) → Nat
  | [] => 0
  | x :: r => x.length + tot r
theorem tot_append : ∀ (a b : List (List Int)), tot (a ++ b) = tot a + tot b
  | [], b => by simp [tot]
  | x :: a, b => by simp only [List.cons_append, tot, tot_append a b]; omega
def markSS : List (List Int) → Int → List (List Int)
  | [], _ => []
  | x :: r, k => marked x.length k :: markSS r (k + x.length)
theorem markSS_len : ∀ {xs : List (List Int)} {k : Int}, (markSS xs k).length = xs.length
  | [], _ => rfl
  | _ :: r, _ => by simp [markSS, markSS_len (xs := r)]
theorem markSS_snoc : ∀ {xs : List (List Int)} {k : Int} {x : List Int}, markSS (xs ++ [x]) k = markSS xs k ++ [marked x.length (k + tot xs)]
  | [], k, x => by simp [markSS, tot]
  | y :: r, k, x => by
    simp only [List.cons_append, markSS, markSS_snoc (xs := r), tot]
    rw [show k + (y.length : Int) + (tot r : Int) = k + ((y.length + tot r : Nat) : Int) by push_cast; omega]
def markSSTo (xs : List (List Int)) (k : Int) (i : Nat) : List (List Int) := markSS (xs.take i) k ++ xs.drop i
theorem markSSTo_len {xs : List (List Int)} {k : Int} {i : Nat} (h : i ≤ xs.length) : (markSSTo xs k i).length = xs.length := by simp [markSSTo, markSS_len]; omega
theorem markSSTo_get {xs : List (List Int)} {k : Int} {i : Nat} {x : List Int} (h : xs[i]? = some x) : (markSSTo xs k i)[i]? = some x := by
  have hl := (List.getElem?_eq_some_iff.1 h).1
  unfold markSSTo
  rw [List.getElem?_append_right (by rw [markSS_len, List.length_take]; omega), markSS_len, List.length_take, List.getElem?_drop]
  rw [show i + (i - min i xs.length) = i by omega]
  exact h
theorem markSSTo_set {xs : List (List Int)} {k : Int} {i : Nat} {x : List Int} (h : xs[i]? = some x) : (markSSTo xs k i).set i (marked x.length (k + tot (xs.take i))) = markSSTo xs k (i + 1) := by
  have hl := (List.getElem?_eq_some_iff.1 h).1
  unfold markSSTo
  have hm : (markSS (xs.take i) k).length = i := by rw [markSS_len, List.length_take]; omega
  rw [List.set_append_right _ _ (by omega), hm, Nat.sub_self, List.take_add_one, h, Option.toList_some, markSS_snoc]
  have hx : xs[i] = x := (List.getElem?_eq_some_iff.1 h).2
  have : xs.drop i = x :: xs.drop (i + 1) := by rw [List.drop_eq_getElem_cons hl, hx]
  rw [this, List.set_cons_zero]
  simp
theorem tot_take {xs : List (List Int)} {i : Nat} {x : List Int} (h : xs[i]? = some x) : tot (xs.take (i + 1)) = tot (xs.take i) + x.length := by
  rw [List.take_add_one, h, tot_append]; simp [tot]
theorem tot_le {xs : List (List Int)} {i : Nat} : tot (xs.take i) ≤ tot xs := by
  conv => rhs; rw [← List.take_append_drop i xs, tot_append]
  omega

variable [Bd]

theorem markIntS (xs : List Int) (k : Int) (h0 : 0 ≤ k) (hk : k + xs.length ≤ 4611686018427387904) : ConM P0 157 [.sr 0, .t (.i .i64 k)] [.arr 3 1 (.own .leaf) (xs.map (T.i .i64))] (.t (.i .i64 (k + xs.length))) [.arr 3 1 (.own .leaf) ((marked xs.length k).map (T.i .i64))] := by
  refine ConM.intro (fn := Try.f157) [.tmp 4] (fun _ => (0, [])) mixed (by kernel_rfl) rfl (by decide) rfl (by rfl) (by kernel_rfl) ?_
  simp -implicitDefEqProofs (maxSteps := 2000000) only [push_cast, Nat.reduceEqDiff, Nat.reduceLT, Nat.reduceLeDiff, Nat.reduceAdd, Nat.reduceMul, Nat.reduceSub, Nat.reduceBEq, ↓reduceIte, reduceCtorEq]
  refine WL.loop (ι := Nat) (D := (fun _ => (0, []))) (fun i => i ≤ xs.length) (fun i => ⟨19, [(0, .sr 0), (1, .t (.i .i64 (k + i))), (5, .t (.i .i64 i))], [.arr 3 1 (.own .leaf) ((markedTo xs k i).map (T.i .i64))]⟩) (fun i => xs.length - i) mixed (by kernel_rfl) 0 (by omega) (Keep.wk (ids := [some 0]) ?_) ?_
  · simp only [push_cast, Nat.reduceEqDiff, Nat.reduceLT, Nat.reduceLeDiff, Nat.reduceAdd, Nat.reduceMul, Nat.reduceSub, Nat.reduceBEq, ↓reduceIte, reduceCtorEq, markedTo_zero, Int.add_zero, Int.cast_ofNat_Int] <;> trivial
  · intro i hi
    simp -implicitDefEqProofs (maxSteps := 2000000) only [push_cast, Nat.reduceEqDiff, Nat.reduceLT, Nat.reduceLeDiff, Nat.reduceAdd, Nat.reduceMul, Nat.reduceSub, Nat.reduceBEq, ↓reduceIte, reduceCtorEq]
    intro _
    have := Bd.hi
    rw [markedTo_len hi, Int.toNat_natCast]
    split
    · rename_i h
      refine ⟨by omega, by omega, fun a ha => ⟨by unfold inI64; omega, by unfold inI64; omega, i + 1, by omega, by omega, Keep.wk (ids := [some 0]) ?_⟩⟩
      have hset := markedTo_set (xs := xs) (k := k) (i := i) (by omega)
      rw [map_set_i, hset]
      simp only [push_cast, Nat.reduceEqDiff, Nat.reduceLT, Nat.reduceLeDiff, Nat.reduceAdd, Nat.reduceMul, Nat.reduceSub, Nat.reduceBEq, ↓reduceIte, reduceCtorEq, T.i.injEq, AV.t.injEq] <;> omega
    · have hi : i = xs.length := by omega
      subst hi
      rw [markedTo_all]
      exact ⟨rfl, Rest.of [some 0] rfl rfl (by simp only [push_cast, Nat.reduceEqDiff, Nat.reduceLT, Nat.reduceLeDiff, Nat.reduceAdd, Nat.reduceMul, Nat.reduceSub, Nat.reduceBEq, ↓reduceIte, reduceCtorEq] <;> rfl)⟩

theorem heldIntS (xs : List Int) (k : Int) (h0 : 0 ≤ k) (hk : k + xs.length ≤ 4611686018427387904) : Con P0 158 [eIntS xs, .i .i64 k] (.t (.i .i64 (if xs = marked xs.length k then k + xs.length else -1))) [] := by
  refine Con.intro (fn := Try.f158) [.tmp 4] (fun _ => (0, [])) mixed (by kernel_rfl) rfl (by decide) rfl (by rfl) (by kernel_rfl) ?_
  simp -implicitDefEqProofs (maxSteps := 2000000) only [push_cast, Nat.reduceEqDiff, Nat.reduceLT, Nat.reduceLeDiff, Nat.reduceAdd, Nat.reduceMul, Nat.reduceSub, Nat.reduceBEq, ↓reduceIte, reduceCtorEq]
  refine WL.loop (ι := Nat) (D := (fun _ => (0, []))) (fun i => i ≤ xs.length ∧ xs.take i = marked i k) (fun i => ⟨21, [(0, .t (eIntS xs)), (1, .t (.i .i64 (k + i))), (5, .t (.i .i64 i))], []⟩) (fun i => xs.length - i) mixed (by kernel_rfl) 0 ⟨by omega, by simp [marked]⟩ (Keep.wk (ids := []) ?_) ?_
  · simp only [push_cast, Nat.reduceEqDiff, Nat.reduceLT, Nat.reduceLeDiff, Nat.reduceAdd, Nat.reduceMul, Nat.reduceSub, Nat.reduceBEq, ↓reduceIte, reduceCtorEq, Int.add_zero, Int.cast_ofNat_Int] <;> trivial
  · rintro i ⟨hi, hc⟩
    simp -implicitDefEqProofs (maxSteps := 2000000) only [push_cast, Nat.reduceEqDiff, Nat.reduceLT, Nat.reduceLeDiff, Nat.reduceAdd, Nat.reduceMul, Nat.reduceSub, Nat.reduceBEq, ↓reduceIte, reduceCtorEq]
    intro _
    have := Bd.hi
    split
    · rename_i h
      refine ⟨by omega, fun a ha => ?_⟩
      rw [Int.toNat_natCast] at ha
      split
      · rename_i hne
        refine congrArg (T.i .i64) (if_neg fun e => hne ?_).symm
        have : xs[i]? = some (k + i) := by rw [e]; exact marked_get (by omega)
        rw [ha] at this
        exact Option.some.inj this
      · rename_i he
        refine ⟨by unfold inI64; omega, by unfold inI64; omega, i + 1, ⟨by omega, ?_⟩, by omega, Keep.wk (ids := []) ?_⟩
        · rw [List.take_add_one, ha, hc, marked_succ, show a = k + i by omega]; rfl
        · simp only [push_cast, Nat.reduceEqDiff, Nat.reduceLT, Nat.reduceLeDiff, Nat.reduceAdd, Nat.reduceMul, Nat.reduceSub, Nat.reduceBEq, ↓reduceIte, reduceCtorEq, T.i.injEq, AV.t.injEq] <;> omega
    · have hi : i = xs.length := by omega
      subst hi
      rw [List.take_length] at hc
      exact congrArg (T.i .i64) (if_pos hc).symm

theorem markIntSS (xs : List (List Int)) (k : Int) (h0 : 0 ≤ k) (hk : k + tot xs ≤ 4611686018427387904) : ConM P0 111 [.sr 0, .t (.i .i64 k)] [.arr 150 1 (.own (.sl 3 1 .leaf)) (xs.map eIntS)] (.t (.i .i64 (k + tot xs))) [.arr 150 1 (.own (.sl 3 1 .leaf)) ((markSS xs k).map eIntS)] := by
  refine ConM.intro (fn := Try.f111) [.tmp 4] (fun _ => (0, [])) mixed (by kernel_rfl) rfl (by decide) rfl (by rfl) (by kernel_rfl) ?_
  simp -implicitDefEqProofs (maxSteps := 2000000) only [push_cast, Nat.reduceEqDiff, Nat.reduceLT, Nat.reduceLeDiff, Nat.reduceAdd, Nat.reduceMul, Nat.reduceSub, Nat.reduceBEq, ↓reduceIte, reduceCtorEq]
  refine WL.loop (ι := Nat) (D := (fun _ => (0, []))) (fun i => i ≤ xs.length) (fun i => ⟨19, [(0, .sr 0), (1, .t (.i .i64 (k + tot (xs.take i)))), (5, .t (.i .i64 i))], [.arr 150 1 (.own (.sl 3 1 .leaf)) ((markSSTo xs k i).map eIntS)]⟩) (fun i => xs.length - i) mixed (by kernel_rfl) 0 (by omega) (Keep.wk (ids := [some 0]) ?_) ?_
  · simp only [push_cast, Nat.reduceEqDiff, Nat.reduceLT, Nat.reduceLeDiff, Nat.reduceAdd, Nat.reduceMul, Nat.reduceSub, Nat.reduceBEq, ↓reduceIte, reduceCtorEq, markSSTo, markSS, List.take_zero, List.drop_zero, tot, Int.add_zero, Int.cast_ofNat_Int] <;> trivial
  · intro i hi
    simp -implicitDefEqProofs (maxSteps := 2000000) only [push_cast, Nat.reduceEqDiff, Nat.reduceLT, Nat.reduceLeDiff, Nat.reduceAdd, Nat.reduceMul, Nat.reduceSub, Nat.reduceBEq, ↓reduceIte, reduceCtorEq]
    intro hB
    have := Bd.hi
    rw [markSSTo_len hi] at hB
    rw [markSSTo_len hi, Int.toNat_natCast]
    split
    · rename_i h
      refine ⟨by omega, .inr ⟨by omega, fun a ha => ?_⟩⟩
      obtain ⟨x, hx⟩ : ∃ x, xs[i]? = some x := ⟨xs[i], List.getElem?_eq_getElem (by omega)⟩
      rw [markSSTo_get hx] at ha
      cases ha
      have ht := tot_take hx
      have hl := tot_le (xs := xs) (i := i + 1)
      refine Callx.hand [1] (markIntS a (k + tot (xs.take i)) (by omega) (by omega)) (by decide) ?_ rfl rfl ?_ rfl ?_ ?_
      · simp only [push_cast, Nat.reduceEqDiff, Nat.reduceLT, Nat.reduceLeDiff, Nat.reduceAdd, Nat.reduceMul, Nat.reduceSub, Nat.reduceBEq, ↓reduceIte, reduceCtorEq]
      · simp only [push_cast, Nat.reduceEqDiff, Nat.reduceLT, Nat.reduceLeDiff, Nat.reduceAdd, Nat.reduceMul, Nat.reduceSub, Nat.reduceBEq, ↓reduceIte, reduceCtorEq] <;> rfl
      · exact .inr ⟨rfl, by simp only [push_cast, Nat.reduceEqDiff, Nat.reduceLT, Nat.reduceLeDiff, Nat.reduceAdd, Nat.reduceMul, Nat.reduceSub, Nat.reduceBEq, ↓reduceIte, reduceCtorEq]⟩
      simp -implicitDefEqProofs (maxSteps := 2000000) only [push_cast, Nat.reduceEqDiff, Nat.reduceLT, Nat.reduceLeDiff, Nat.reduceAdd, Nat.reduceMul, Nat.reduceSub, Nat.reduceBEq, ↓reduceIte, reduceCtorEq]
      have hg : ((markSSTo xs k i).map eIntS)[i]? = some (eIntS a) := by rw [List.getElem?_map, markSSTo_get hx]; rfl
      refine ⟨by unfold inI64; omega, i + 1, by omega, by omega, Wk.trans (Wk.close (id := 0) (n := 1) rfl rfl rfl hg) (Keep.wk (ids := [some 0]) ?_)⟩
      have hs : ((markSSTo xs k i).map eIntS).set i ((eIntS a).setCell 0 (.sl ((marked a.length (k + tot (xs.take i))).map (T.i .i64)))) = (markSSTo xs k (i + 1)).map eIntS := by
        rw [← markSSTo_set hx, List.map_set]; rfl
      simp only [push_cast, Nat.reduceEqDiff, Nat.reduceLT, Nat.reduceLeDiff, Nat.reduceAdd, Nat.reduceMul, Nat.reduceSub, Nat.reduceBEq, ↓reduceIte, reduceCtorEq, hs, T.i.injEq, AV.t.injEq] <;> omega
    · have hi : i = xs.length := by omega
      subst hi
      have hm : markSSTo xs k xs.length = markSS xs k := by simp [markSSTo]
      rw [hm, List.take_length]
      exact ⟨rfl, Rest.of [some 0] rfl rfl (by simp only [push_cast, Nat.reduceEqDiff, Nat.reduceLT, Nat.reduceLeDiff, Nat.reduceAdd, Nat.reduceMul, Nat.reduceSub, Nat.reduceBEq, ↓reduceIte, reduceCtorEq] <;> rfl)⟩

def markedSp (n : Nat) (k : Int) : List Spot := (List.range n).map fun i => ⟨k + 2 * (i : Nat), k + 2 * (i : Nat) + 1⟩
def markedSpTo (xs : List Spot) (k : Int) (i : Nat) : List Spot := markedSp i k ++ xs.drop i
theorem markedSp_len {n : Nat} {k : Int} : (markedSp n k).length = n := by simp [markedSp]
theorem markedSpTo_len {xs : List Spot} {k : Int} {i : Nat} (h : i ≤ xs.length) : (markedSpTo xs k i).length = xs.length := by simp [markedSpTo, markedSp_len]; omega
theorem markedSpTo_set {xs : List Spot} {k : Int} {i : Nat} (h : i < xs.length) : (markedSpTo xs k i).set i ⟨k + 2 * (i : Nat), k + 2 * (i : Nat) + 1⟩ = markedSpTo xs k (i + 1) := by
  unfold markedSpTo
  rw [List.set_append_right _ _ (by rw [markedSp_len]; omega), markedSp_len, Nat.sub_self]
  have : xs.drop i = xs[i] :: xs.drop (i + 1) := List.drop_eq_getElem_cons h
  rw [this, List.set_cons_zero]
  simp [markedSp, List.range_succ]

theorem markSpotS (xs : List Spot) (k : Int) (h0 : 0 ≤ k) (hk : k + 2 * xs.length ≤ 4611686018427387904) : ConM P0 110 [.sr 0, .t (.i .i64 k)] [.arr 146 2 (.own (.ag [.leaf, .leaf])) (xs.map eSpot)] (.t (.i .i64 (k + 2 * xs.length))) [.arr 146 2 (.own (.ag [.leaf, .leaf])) ((markedSp xs.length k).map eSpot)] := by
  refine ConM.intro (fn := Try.f110) [.tmp 4] (fun _ => (0, [])) mixed (by kernel_rfl) rfl (by decide) rfl (by rfl) (by kernel_rfl) ?_
  simp -implicitDefEqProofs (maxSteps := 2000000) only [push_cast, Nat.reduceEqDiff, Nat.reduceLT, Nat.reduceLeDiff, Nat.reduceAdd, Nat.reduceMul, Nat.reduceSub, Nat.reduceBEq, ↓reduceIte, reduceCtorEq]
  refine WL.loop (ι := Nat) (D := (fun _ => (0, []))) (fun i => i ≤ xs.length) (fun i => ⟨27, [(0, .sr 0), (1, .t (.i .i64 (k + 2 * i))), (5, .t (.i .i64 i))], [.arr 146 2 (.own (.ag [.leaf, .leaf])) ((markedSpTo xs k i).map eSpot)]⟩) (fun i => xs.length - i) mixed (by kernel_rfl) 0 (by omega) (Keep.wk (ids := [some 0]) ?_) ?_
  · simp only [push_cast, Nat.reduceEqDiff, Nat.reduceLT, Nat.reduceLeDiff, Nat.reduceAdd, Nat.reduceMul, Nat.reduceSub, Nat.reduceBEq, ↓reduceIte, reduceCtorEq, markedSpTo, markedSp, List.range_zero, Int.mul_zero, Int.add_zero, Int.cast_ofNat_Int] <;> trivial
  · intro i hi
    simp -implicitDefEqProofs (maxSteps := 2000000) only [push_cast, Nat.reduceEqDiff, Nat.reduceLT, Nat.reduceLeDiff, Nat.reduceAdd, Nat.reduceMul, Nat.reduceSub, Nat.reduceBEq, ↓reduceIte, reduceCtorEq, eSpot]
    intro hB
    have := Bd.hi
    rw [markedSpTo_len hi] at hB
    rw [markedSpTo_len hi, Int.toNat_natCast]
    split
    · rename_i h
      refine ⟨by omega, by omega, fun a ha => ⟨by unfold inI64; omega, by omega, by omega, fun _ => ?_⟩⟩
      have hs : ((markedSpTo xs k i).map eSpot).set i (T.ag [T.i .i64 (k + 2 * i), T.i .i64 (k + 2 * i + 1)]) = (markedSpTo xs k (i + 1)).map eSpot := by
        rw [← markedSpTo_set (by omega), List.map_set]; rfl
      rw [hs]
      refine ⟨by unfold inI64; omega, by unfold inI64; omega, i + 1, by omega, by omega, Keep.wk (ids := [some 0]) ?_⟩
      simp only [push_cast, Nat.reduceEqDiff, Nat.reduceLT, Nat.reduceLeDiff, Nat.reduceAdd, Nat.reduceMul, Nat.reduceSub, Nat.reduceBEq, ↓reduceIte, reduceCtorEq, T.i.injEq, AV.t.injEq] <;> omega
    · have hi : i = xs.length := by omega
      subst hi
      have hm : markedSpTo xs k xs.length = markedSp xs.length k := by simp [markedSpTo]
      rw [hm]
      exact ⟨rfl, Rest.of [some 0] rfl rfl (by simp only [push_cast, Nat.reduceEqDiff, Nat.reduceLT, Nat.reduceLeDiff, Nat.reduceAdd, Nat.reduceMul, Nat.reduceSub, Nat.reduceBEq, ↓reduceIte, reduceCtorEq] <;> rfl)⟩

theorem markCover (c : Cover) (k : Int) (h0 : 0 ≤ k) (hk : k + 2 * c.spots.length + tot c.reach ≤ 4611686018427387904) : ConM P0 41 [.ag [.sr 0, .sr 1], .t (.i .i64 k)] [.arr 146 2 (.own (.ag [.leaf, .leaf])) (c.spots.map eSpot), .arr 150 1 (.own (.sl 3 1 .leaf)) (c.reach.map eIntS)]
    (.t (.i .i64 (k + 2 * c.spots.length + tot c.reach))) [.arr 146 2 (.own (.ag [.leaf, .leaf])) ((markedSp c.spots.length k).map eSpot), .arr 150 1 (.own (.sl 3 1 .leaf)) ((markSS c.reach (k + 2 * c.spots.length)).map eIntS)] := by
  refine ConM.intro (fn := Try.f41) [.tmp 4] (fun _ => (0, [])) mixed (by kernel_rfl) rfl (by decide) rfl (by rfl) (by kernel_rfl) ?_
  simp -implicitDefEqProofs (maxSteps := 2000000) only [push_cast, Nat.reduceEqDiff, Nat.reduceLT, Nat.reduceLeDiff, Nat.reduceAdd, Nat.reduceMul, Nat.reduceSub, Nat.reduceBEq, ↓reduceIte, reduceCtorEq]
  refine Callx.hand [0] (markSpotS c.spots k h0 (by omega)) (by decide) (by simp only [push_cast, Nat.reduceEqDiff, Nat.reduceLT, Nat.reduceLeDiff, Nat.reduceAdd, Nat.reduceMul, Nat.reduceSub, Nat.reduceBEq, ↓reduceIte, reduceCtorEq]) rfl rfl (by simp only [push_cast, Nat.reduceEqDiff, Nat.reduceLT, Nat.reduceLeDiff, Nat.reduceAdd, Nat.reduceMul, Nat.reduceSub, Nat.reduceBEq, ↓reduceIte, reduceCtorEq] <;> rfl) rfl (.inr ⟨rfl, by simp only [push_cast, Nat.reduceEqDiff, Nat.reduceLT, Nat.reduceLeDiff, Nat.reduceAdd, Nat.reduceMul, Nat.reduceSub, Nat.reduceBEq, ↓reduceIte, reduceCtorEq]⟩) ?_
  simp -implicitDefEqProofs (maxSteps := 2000000) only [push_cast, Nat.reduceEqDiff, Nat.reduceLT, Nat.reduceLeDiff, Nat.reduceAdd, Nat.reduceMul, Nat.reduceSub, Nat.reduceBEq, ↓reduceIte, reduceCtorEq]
  refine Callx.hand [1] (markIntSS c.reach (k + 2 * c.spots.length) (by omega) (by omega)) (by decide) (by simp only [push_cast, Nat.reduceEqDiff, Nat.reduceLT, Nat.reduceLeDiff, Nat.reduceAdd, Nat.reduceMul, Nat.reduceSub, Nat.reduceBEq, ↓reduceIte, reduceCtorEq]) rfl rfl (by simp only [push_cast, Nat.reduceEqDiff, Nat.reduceLT, Nat.reduceLeDiff, Nat.reduceAdd, Nat.reduceMul, Nat.reduceSub, Nat.reduceBEq, ↓reduceIte, reduceCtorEq] <;> rfl) rfl (.inr ⟨rfl, by simp only [push_cast, Nat.reduceEqDiff, Nat.reduceLT, Nat.reduceLeDiff, Nat.reduceAdd, Nat.reduceMul, Nat.reduceSub, Nat.reduceBEq, ↓reduceIte, reduceCtorEq]⟩) ?_
  simp -implicitDefEqProofs (maxSteps := 2000000) only [push_cast, Nat.reduceEqDiff, Nat.reduceLT, Nat.reduceLeDiff, Nat.reduceAdd, Nat.reduceMul, Nat.reduceSub, Nat.reduceBEq, ↓reduceIte, reduceCtorEq]
  exact Rest.of [some 0, some 1] rfl rfl (by simp only [push_cast, Nat.reduceEqDiff, Nat.reduceLT, Nat.reduceLeDiff, Nat.reduceAdd, Nat.reduceMul, Nat.reduceSub, Nat.reduceBEq, ↓reduceIte, reduceCtorEq] <;> rfl)

end Go.Proofs.Ythhgcklidfilfaa.BX
