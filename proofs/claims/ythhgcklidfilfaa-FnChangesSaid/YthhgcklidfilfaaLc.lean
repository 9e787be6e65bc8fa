/-
  The law 'FnChanges'.
-/
import Derived.Test.YthhgcklidfilfaaPc
import Derived.Test.YthhgcklidfilfaaDr
namespace Go.Proofs.Ythhgcklidfilfaa.BX
set_option linter.unusedSectionVars false
set_option linter.unusedSimpArgs false
set_option linter.unusedVariables false
open Go Go.RowKit
set_option maxRecDepth 20000
set_option maxHeartbeats 400000
variable [Bd]

theorem specSameState (a b : List Entry) : Con P0 14 [eEntryS a, eEntryS b] (.t (.b (decide (a = b)))) [] := by
  refine Con.intro (fn := Try.f14) [.tmp 4] (fun _ => (0, [])) mixed (by kernel_rfl) rfl (by decide) rfl (by rfl) (by kernel_rfl) ?_
  simp -implicitDefEqProofs (maxSteps := 2000000) only [push_cast, Nat.reduceEqDiff, Nat.reduceLT, Nat.reduceLeDiff, Nat.reduceAdd, Nat.reduceMul, Nat.reduceSub, Nat.reduceBEq, ↓reduceIte, reduceCtorEq]
  refine Callx.closed (l4Equal a b) rfl rfl (.inl rfl) ?_
  simp -implicitDefEqProofs (maxSteps := 2000000) only [push_cast, Nat.reduceEqDiff, Nat.reduceLT, Nat.reduceLeDiff, Nat.reduceAdd, Nat.reduceMul, Nat.reduceSub, Nat.reduceBEq, ↓reduceIte, reduceCtorEq]

theorem mx_code {c : List UInt8} : (T.sl (c.map eU8)).mx = c.length := by
  have : ∀ (l : List UInt8), mxs (l.map eU8) = 0 := by
    intro l
    induction l with
    | nil => rfl
    | cons x l ih => simp only [List.map_cons, mxs, ih, eU8, T.mx, Nat.max_self]
  simp only [T.mx, this, List.length_map]
  omega

theorem lawFnChanges (c : List UInt8) (hB : mxs [.sl (c.map eU8)] ≤ 1048576 → Bd.B ≤ 2147483648) : Con P0 3 [.sl (c.map eU8)] (.t (.b true)) [] := by
  refine Con.intro (fn := Try.f3) [.tmp 2] (fun i => if i = 31 then (25, []) else if i = 30 then (17, []) else if i = 24 then (17, []) else (0, [])) mixed (by kernel_rfl) rfl (by decide) rfl (by rfl) (by kernel_rfl) ?_
  simp -implicitDefEqProofs (maxSteps := 2000000) only [push_cast, Nat.reduceEqDiff, Nat.reduceLT, Nat.reduceLeDiff, Nat.reduceAdd, Nat.reduceMul, Nat.reduceSub, Nat.reduceBEq, ↓reduceIte, reduceCtorEq]
  intro hlen
  refine iteI (fun h => trivial) (fun h => ?_)
  have hB := hB (mxs_cons (by rw [mx_code]; omega) mxs_nil)
  refine Callx.closed (drawDelta c hB) rfl rfl (.inl rfl) ?_
  have hla := pairA_len (b := c.take 1000) (p := 0)
  have hlb := pairB_len (b := c.take 1000) (p := 0)
  generalize pairA (c.take 1000) 0 = a at *
  generalize (pairB (c.take 1000) 0).1 = b at *
  simp -implicitDefEqProofs (maxSteps := 2000000) only [push_cast, Nat.reduceEqDiff, Nat.reduceLT, Nat.reduceLeDiff, Nat.reduceAdd, Nat.reduceMul, Nat.reduceSub, Nat.reduceBEq, ↓reduceIte, reduceCtorEq]
  have sa := specStateOk a
  have sb := specStateOk b
  have ia := implStateOk a
  have ib := implStateOk b
  have dd := implDelta a b hB
  cases ha : stateOk a with
  | false =>
    rw [ha] at sa ia
    rw [dRes, show dOk a b = false by rw [dOk, ha]; rfl] at dd
    refine Callx.closed sa rfl rfl (.inr ⟨rfl, rfl⟩) ?_
    simp -implicitDefEqProofs (maxSteps := 2000000) only [push_cast, Nat.reduceEqDiff, Nat.reduceLT, Nat.reduceLeDiff, Nat.reduceAdd, Nat.reduceMul, Nat.reduceSub, Nat.reduceBEq, ↓reduceIte, reduceCtorEq]
    refine Callx.closed ia rfl rfl (.inr ⟨rfl, rfl⟩) ?_
    simp -implicitDefEqProofs (maxSteps := 2000000) only [push_cast, Nat.reduceEqDiff, Nat.reduceLT, Nat.reduceLeDiff, Nat.reduceAdd, Nat.reduceMul, Nat.reduceSub, Nat.reduceBEq, ↓reduceIte, reduceCtorEq]
    refine Callx.closed dd rfl rfl (.inr ⟨rfl, rfl⟩) ?_
    simp -implicitDefEqProofs (maxSteps := 2000000) only [push_cast, Nat.reduceEqDiff, Nat.reduceLT, Nat.reduceLeDiff, Nat.reduceAdd, Nat.reduceMul, Nat.reduceSub, Nat.reduceBEq, ↓reduceIte, reduceCtorEq]
  | true =>
    cases hb : stateOk b with
    | false => 
      rw [ha] at sa ia
      rw [hb] at sb ib
      rw [dRes, show dOk a b = false by rw [dOk, ha, hb]; rfl] at dd
      refine Callx.closed sa rfl rfl (.inr ⟨rfl, rfl⟩) ?_
      simp -implicitDefEqProofs (maxSteps := 2000000) only [push_cast, Nat.reduceEqDiff, Nat.reduceLT, Nat.reduceLeDiff, Nat.reduceAdd, Nat.reduceMul, Nat.reduceSub, Nat.reduceBEq, ↓reduceIte, reduceCtorEq]
      refine Callx.closed sb rfl rfl (.inr ⟨rfl, rfl⟩) ?_
      simp -implicitDefEqProofs (maxSteps := 2000000) only [push_cast, Nat.reduceEqDiff, Nat.reduceLT, Nat.reduceLeDiff, Nat.reduceAdd, Nat.reduceMul, Nat.reduceSub, Nat.reduceBEq, ↓reduceIte, reduceCtorEq]
      refine Callx.closed ia rfl rfl (.inr ⟨rfl, rfl⟩) ?_
      simp -implicitDefEqProofs (maxSteps := 2000000) only [push_cast, Nat.reduceEqDiff, Nat.reduceLT, Nat.reduceLeDiff, Nat.reduceAdd, Nat.reduceMul, Nat.reduceSub, Nat.reduceBEq, ↓reduceIte, reduceCtorEq]
      refine Callx.closed ib rfl rfl (.inr ⟨rfl, rfl⟩) ?_
      simp -implicitDefEqProofs (maxSteps := 2000000) only [push_cast, Nat.reduceEqDiff, Nat.reduceLT, Nat.reduceLeDiff, Nat.reduceAdd, Nat.reduceMul, Nat.reduceSub, Nat.reduceBEq, ↓reduceIte, reduceCtorEq]
      refine Callx.closed dd rfl rfl (.inr ⟨rfl, rfl⟩) ?_
      simp -implicitDefEqProofs (maxSteps := 2000000) only [push_cast, Nat.reduceEqDiff, Nat.reduceLT, Nat.reduceLeDiff, Nat.reduceAdd, Nat.reduceMul, Nat.reduceSub, Nat.reduceBEq, ↓reduceIte, reduceCtorEq]
    | true => 
      rw [ha] at sa ia
      rw [hb] at sb ib
      rw [dRes, show dOk a b = true by rw [dOk, ha, hb]; rfl] at dd
      refine Callx.closed sa rfl rfl (.inr ⟨rfl, rfl⟩) ?_
      simp -implicitDefEqProofs (maxSteps := 2000000) only [push_cast, Nat.reduceEqDiff, Nat.reduceLT, Nat.reduceLeDiff, Nat.reduceAdd, Nat.reduceMul, Nat.reduceSub, Nat.reduceBEq, ↓reduceIte, reduceCtorEq]
      refine Callx.closed sb rfl rfl (.inr ⟨rfl, rfl⟩) ?_
      simp -implicitDefEqProofs (maxSteps := 2000000) only [push_cast, Nat.reduceEqDiff, Nat.reduceLT, Nat.reduceLeDiff, Nat.reduceAdd, Nat.reduceMul, Nat.reduceSub, Nat.reduceBEq, ↓reduceIte, reduceCtorEq]
      refine Callx.closed ia rfl rfl (.inr ⟨rfl, rfl⟩) ?_
      simp -implicitDefEqProofs (maxSteps := 2000000) only [push_cast, Nat.reduceEqDiff, Nat.reduceLT, Nat.reduceLeDiff, Nat.reduceAdd, Nat.reduceMul, Nat.reduceSub, Nat.reduceBEq, ↓reduceIte, reduceCtorEq]
      refine Callx.closed ib rfl rfl (.inr ⟨rfl, rfl⟩) ?_
      simp -implicitDefEqProofs (maxSteps := 2000000) only [push_cast, Nat.reduceEqDiff, Nat.reduceLT, Nat.reduceLeDiff, Nat.reduceAdd, Nat.reduceMul, Nat.reduceSub, Nat.reduceBEq, ↓reduceIte, reduceCtorEq]
      refine Callx.closed dd rfl rfl (.inr ⟨rfl, rfl⟩) ?_
      simp -implicitDefEqProofs (maxSteps := 2000000) only [push_cast, Nat.reduceEqDiff, Nat.reduceLT, Nat.reduceLeDiff, Nat.reduceAdd, Nat.reduceMul, Nat.reduceSub, Nat.reduceBEq, ↓reduceIte, reduceCtorEq]
      have pp := implPatch a (deltaL a b) hB
      rw [pRes, pOk_delta ha hb, if_pos rfl, patch_delta ha hb] at pp
      have da := implDelta a a hB
      rw [dRes, show dOk a a = true by rw [dOk, ha]; rfl, if_pos rfl, delta_self ha] at da
      have ss := specSameState b b
      rw [decide_eq_true rfl] at ss
      have hdl := delta_len (a := a) (b := b)
      refine Callx.closed pp rfl rfl (.inr ⟨rfl, rfl⟩) ?_
      simp -implicitDefEqProofs (maxSteps := 2000000) only [push_cast, Nat.reduceEqDiff, Nat.reduceLT, Nat.reduceLeDiff, Nat.reduceAdd, Nat.reduceMul, Nat.reduceSub, Nat.reduceBEq, ↓reduceIte, reduceCtorEq]
      refine Callx.closed da rfl rfl (.inr ⟨rfl, rfl⟩) ?_
      simp -implicitDefEqProofs (maxSteps := 2000000) only [push_cast, Nat.reduceEqDiff, Nat.reduceLT, Nat.reduceLeDiff, Nat.reduceAdd, Nat.reduceMul, Nat.reduceSub, Nat.reduceBEq, ↓reduceIte, reduceCtorEq]
      refine Callx.closed ss rfl rfl (.inr ⟨rfl, rfl⟩) ?_
      simp -implicitDefEqProofs (maxSteps := 2000000) only [push_cast, Nat.reduceEqDiff, Nat.reduceLT, Nat.reduceLeDiff, Nat.reduceAdd, Nat.reduceMul, Nat.reduceSub, Nat.reduceBEq, ↓reduceIte, reduceCtorEq]
      intro _
      refine WL.loop (ι := Nat) (D := (fun i => if i = 31 then (25, []) else if i = 30 then (17, []) else if i = 24 then (17, []) else (0, []))) (fun i => i ≤ b.length) (fun i => ⟨207, [(3, .sr 0), (4, .sr 1), (12, .t (.i .i64 i))], [enO a, enO b]⟩) (fun i => b.length - i) mixed (by kernel_rfl) 0 (by omega) (Keep.wk (ids := [some 0, some 1]) ?_) ?_
      · simp only [push_cast, Nat.reduceEqDiff, Nat.reduceLT, Nat.reduceLeDiff, Nat.reduceAdd, Nat.reduceMul, Nat.reduceSub, Nat.reduceBEq, ↓reduceIte, reduceCtorEq] <;> trivial
      intro i hi
      simp -implicitDefEqProofs (maxSteps := 2000000) only [push_cast, Nat.reduceEqDiff, Nat.reduceLT, Nat.reduceLeDiff, Nat.reduceAdd, Nat.reduceMul, Nat.reduceSub, Nat.reduceBEq, ↓reduceIte, reduceCtorEq, eEntry]
      intro _
      split
      rotate_left
      · trivial
      rename_i hlt
      obtain ⟨e, he⟩ : ∃ e, b[i]? = some e := ⟨_, List.getElem?_eq_getElem (by omega)⟩
      have hid : e.id ≠ [] := (stateOk_ord hb).2.2 e (List.mem_of_getElem? he)
      refine ⟨by omega, by omega, fun x hx => ?_⟩
      rw [Int.toNat_natCast, he] at hx
      cases hx
      have ps := specPut a e hB
      have pi := implPut a e hB
      rw [if_neg hid, show (decide (¬ e.id = []) && pOk a [e]) = pOk a [e] by simp [hid]] at ps pi
      cases hp : pOk a [e] with
      | false =>
        rw [hp] at ps pi
        refine Callx.closed ps rfl rfl (.inr ⟨rfl, rfl⟩) ?_
        simp -implicitDefEqProofs (maxSteps := 2000000) only [push_cast, Nat.reduceEqDiff, Nat.reduceLT, Nat.reduceLeDiff, Nat.reduceAdd, Nat.reduceMul, Nat.reduceSub, Nat.reduceBEq, ↓reduceIte, reduceCtorEq, eEntry]
        refine ⟨by omega, by omega, fun x hx => ?_⟩
        rw [Int.toNat_natCast, he] at hx
        cases hx
        refine Callx.closed pi rfl rfl (.inr ⟨rfl, rfl⟩) ?_
        simp -implicitDefEqProofs (maxSteps := 2000000) only [push_cast, Nat.reduceEqDiff, Nat.reduceLT, Nat.reduceLeDiff, Nat.reduceAdd, Nat.reduceMul, Nat.reduceSub, Nat.reduceBEq, ↓reduceIte, reduceCtorEq, eEntry]
        refine ⟨by unfold inI64; omega, i + 1, by omega, by omega, Keep.wk (ids := [some 0, some 1]) ?_⟩
        simp only [push_cast, Nat.reduceEqDiff, Nat.reduceLT, Nat.reduceLeDiff, Nat.reduceAdd, Nat.reduceMul, Nat.reduceSub, Nat.reduceBEq, ↓reduceIte, reduceCtorEq] <;> rfl
      | true =>
        rw [(put_ok hp).2, hp] at ps pi
        obtain ⟨f1, f2⟩ := put_find hp hid
        have hf := implFind (setL a e false) e.typ e.key
        rw [f1, f2] at hf
        have hkp := fun x (hx : x ∈ a) => put_kept hp hid hx
        have hfx := fun (x : Entry) => implFind (setL a e false) x.typ x.key
        have hsl : (setL a e false).length ≤ 2 * a.length + 1 := setL_len
        generalize setL a e false = s at *
        refine Callx.closed ps rfl rfl (.inr ⟨rfl, rfl⟩) ?_
        simp -implicitDefEqProofs (maxSteps := 2000000) only [push_cast, Nat.reduceEqDiff, Nat.reduceLT, Nat.reduceLeDiff, Nat.reduceAdd, Nat.reduceMul, Nat.reduceSub, Nat.reduceBEq, ↓reduceIte, reduceCtorEq, eEntry]
        refine ⟨by omega, by omega, fun x hx => ?_⟩
        rw [Int.toNat_natCast, he] at hx
        cases hx
        refine Callx.closed pi rfl rfl (.inr ⟨rfl, rfl⟩) ?_
        simp -implicitDefEqProofs (maxSteps := 2000000) only [push_cast, Nat.reduceEqDiff, Nat.reduceLT, Nat.reduceLeDiff, Nat.reduceAdd, Nat.reduceMul, Nat.reduceSub, Nat.reduceBEq, ↓reduceIte, reduceCtorEq, eEntry]
        refine ⟨by omega, by omega, fun x hx => ?_⟩
        rw [Int.toNat_natCast, he] at hx
        cases hx
        refine ⟨by omega, by omega, fun x hx => ?_⟩
        rw [Int.toNat_natCast, he] at hx
        cases hx
        refine CallV.t hf (.inr rfl) ?_
        simp -implicitDefEqProofs (maxSteps := 2000000) only [push_cast, Nat.reduceEqDiff, Nat.reduceLT, Nat.reduceLeDiff, Nat.reduceAdd, Nat.reduceMul, Nat.reduceSub, Nat.reduceBEq, ↓reduceIte, reduceCtorEq, eEntry]
        refine ⟨by omega, by omega, fun x hx => ?_⟩
        rw [Int.toNat_natCast, he] at hx
        cases hx
        rw [if_neg (by simp)]
        refine WL.loop (ι := Nat) (D := (fun i => if i = 31 then (25, []) else if i = 30 then (17, []) else if i = 24 then (17, []) else (0, []))) (fun k => k ≤ a.length) (fun k => ⟨207, [(3, .sr 0), (4, .sr 1), (12, .t (.i .i64 i)), (15, .sr 2), (19, .t (.i .i64 k))], [enO a, enO b, enO s]⟩) (fun k => a.length - k) mixed (by kernel_rfl) 0 (by omega) (Keep.wk (ids := [some 0, some 1, some 3]) ?_) ?_
        · simp only [push_cast, Nat.reduceEqDiff, Nat.reduceLT, Nat.reduceLeDiff, Nat.reduceAdd, Nat.reduceMul, Nat.reduceSub, Nat.reduceBEq, ↓reduceIte, reduceCtorEq] <;> trivial
        intro k hk
        simp -implicitDefEqProofs (maxSteps := 2000000) only [push_cast, Nat.reduceEqDiff, Nat.reduceLT, Nat.reduceLeDiff, Nat.reduceAdd, Nat.reduceMul, Nat.reduceSub, Nat.reduceBEq, ↓reduceIte, reduceCtorEq, eEntry]
        intro _
        split
        rotate_left
        · refine ⟨by unfold inI64; omega, i + 1, by omega, by omega, Keep.wk (ids := [some 0, some 1]) ?_⟩
          simp only [push_cast, Nat.reduceEqDiff, Nat.reduceLT, Nat.reduceLeDiff, Nat.reduceAdd, Nat.reduceMul, Nat.reduceSub, Nat.reduceBEq, ↓reduceIte, reduceCtorEq] <;> rfl
        rename_i hlk
        obtain ⟨x, hx⟩ : ∃ x, a[k]? = some x := ⟨_, List.getElem?_eq_getElem (by omega)⟩
        have hxa := hkp x (List.mem_of_getElem? hx)
        have hf := hfx x
        rw [hxa.1] at hf
        refine ⟨by omega, by omega, fun y hy => ?_⟩
        rw [Int.toNat_natCast, hx] at hy
        cases hy
        refine ⟨by omega, by omega, fun y hy => ?_⟩
        rw [Int.toNat_natCast, hx] at hy
        cases hy
        refine CallV.t hf (.inr rfl) ?_
        simp -implicitDefEqProofs (maxSteps := 2000000) only [push_cast, Nat.reduceEqDiff, Nat.reduceLT, Nat.reduceLeDiff, Nat.reduceAdd, Nat.reduceMul, Nat.reduceSub, Nat.reduceBEq, ↓reduceIte, reduceCtorEq, eEntry]
        have sx : ∀ {K : Entry → Prop}, K x → ((0 ≤ (k : Int) ∧ (k : Int) < a.length) ∧ (k : Int).toNat < a.length ∧ ∀ y, a[(k : Int).toNat]? = some y → K y) := by
          intro K h
          refine ⟨by omega, by omega, fun y hy => ?_⟩
          rw [Int.toNat_natCast, hx] at hy
          cases hy
          exact h
        have se : ∀ {K : Entry → Prop}, K e → ((0 ≤ (i : Int) ∧ (i : Int) < b.length) ∧ (i : Int).toNat < b.length ∧ ∀ y, b[(i : Int).toNat]? = some y → K y) := by
          intro K h
          refine ⟨by omega, by omega, fun y hy => ?_⟩
          rw [Int.toNat_natCast, he] at hy
          cases hy
          exact h
        refine sx (se (iteI (fun h1 => sx (se (iteI (fun h2 => sx (iteI (fun h3 => ?_) (fun h3 => ?_))) (fun h2 => ?_)))) (fun h1 => sx (iteI (fun h3 => ?_) (fun h3 => ?_)))))
        · exact absurd (hxa.2 fun h => by simp [Entry.slot] at h; simp [h.2] at h2) h3
        · refine ⟨by unfold inI64; omega, k + 1, by omega, by omega, Keep.wk (ids := [some 0, some 1, some 2]) ?_⟩
          simp only [push_cast, Nat.reduceEqDiff, Nat.reduceLT, Nat.reduceLeDiff, Nat.reduceAdd, Nat.reduceMul, Nat.reduceSub, Nat.reduceBEq, ↓reduceIte, reduceCtorEq] <;> rfl
        · refine ⟨by unfold inI64; omega, k + 1, by omega, by omega, Keep.wk (ids := [some 0, some 1, some 2]) ?_⟩
          simp only [push_cast, Nat.reduceEqDiff, Nat.reduceLT, Nat.reduceLeDiff, Nat.reduceAdd, Nat.reduceMul, Nat.reduceSub, Nat.reduceBEq, ↓reduceIte, reduceCtorEq] <;> rfl
        · exact absurd (hxa.2 fun h => by simp [Entry.slot] at h; exact h1 h.1.symm) h3
        · refine ⟨by unfold inI64; omega, k + 1, by omega, by omega, Keep.wk (ids := [some 0, some 1, some 2]) ?_⟩
          simp only [push_cast, Nat.reduceEqDiff, Nat.reduceLT, Nat.reduceLeDiff, Nat.reduceAdd, Nat.reduceMul, Nat.reduceSub, Nat.reduceBEq, ↓reduceIte, reduceCtorEq] <;> rfl
end Go.Proofs.Ythhgcklidfilfaa.BX
