/-
  Events marked all over.
-/
import Derived.Test.YthhgcklidfilfaaMg
namespace Go.Proofs.Ythhgcklidfilfaa.BX
set_option linter.unusedSectionVars false
set_option linter.unusedSimpArgs false
set_option linter.unusedVariables false
open Go Go.RowKit
set_option maxRecDepth 20000
set_option maxHeartbeats 400000
def wEv (x : Event) : Nat := 6 + totL (wC 1) x.prev + totL (wC 1) x.auth + 1 + totL (wC 2) x.grants
def mkEv (x : Event) (k : Int) : Event := ⟨mkT k, mkT (k + 1), mkT (k + 1 + 1), decide ((k + 1 + 1 + 1) % 3 = 0), mkT (k + 1 + 1 + 1 + 1), k + 1 + 1 + 1 + 1 + 1, mkStringL x.prev (k + 1 + 1 + 1 + 1 + 1 + 1), mkStringL x.auth (k + 1 + 1 + 1 + 1 + 1 + 1 + (totL (wC 1) x.prev : Nat)),
  mkT (k + 1 + 1 + 1 + 1 + 1 + 1 + (totL (wC 1) x.prev : Nat) + (totL (wC 1) x.auth : Nat)), mkGrantL x.grants (k + 1 + 1 + 1 + 1 + 1 + 1 + (totL (wC 1) x.prev : Nat) + (totL (wC 1) x.auth : Nat) + 1)⟩
abbrev mkEventL (xs : List Event) (k : Int) : List Event := mkL mkEv wEv xs k
/-- the first six; with prev; with auth; with value -/
def mkEv6 (x : Event) (k : Int) : Event := { x with id := mkT k, sender := mkT (k + 1), typ := mkT (k + 1 + 1), isState := decide ((k + 1 + 1 + 1) % 3 = 0), key := mkT (k + 1 + 1 + 1 + 1), time := k + 1 + 1 + 1 + 1 + 1 }
def mkEv7 (x : Event) (k : Int) : Event := { mkEv6 x k with prev := mkStringL x.prev (k + 1 + 1 + 1 + 1 + 1 + 1) }
def mkEv8 (x : Event) (k : Int) : Event := { mkEv7 x k with auth := mkStringL x.auth (k + 1 + 1 + 1 + 1 + 1 + 1 + (totL (wC 1) x.prev : Nat)) }
def mkEv9 (x : Event) (k : Int) : Event := { mkEv8 x k with value := mkT (k + 1 + 1 + 1 + 1 + 1 + 1 + (totL (wC 1) x.prev : Nat) + (totL (wC 1) x.auth : Nat)) }
variable [Bd]
theorem markEventS (xs : List Event) (k : Int) (h0 : 0 ≤ k) (hk : k + totL wEv xs ≤ 4611686018427387) : ConM P0 109 [.sr 0, .t (.i .i64 k)] [.arr 87 10 (.own (.ag [.leaf, .leaf, .leaf, .leaf, .leaf, .leaf, .sl 9 1 .leaf, .sl 9 1 .leaf, .leaf, .sl 212 2 (.ag [.leaf, .leaf])])) (xs.map eEvent)] (.t (.i .i64 (k + (totL wEv xs : Nat)))) [.arr 87 10 (.own (.ag [.leaf, .leaf, .leaf, .leaf, .leaf, .leaf, .sl 9 1 .leaf, .sl 9 1 .leaf, .leaf, .sl 212 2 (.ag [.leaf, .leaf])])) ((mkEventL xs k).map eEvent)] := by
  refine ConM.intro (fn := Try.f109) [.tmp 4] (fun i => if i = 18 then (999999, []) else if i = 17 then (999999, []) else (0, [])) mixed (by kernel_rfl) rfl (by decide) rfl (by rfl) (by kernel_rfl) ?_
  simp -implicitDefEqProofs (maxSteps := 2000000) only [push_cast, Nat.reduceEqDiff, Nat.reduceLT, Nat.reduceLeDiff, Nat.reduceAdd, Nat.reduceMul, Nat.reduceSub, Nat.reduceBEq, ↓reduceIte, reduceCtorEq]
  refine WL.loop (ι := Nat) (D := (fun i => if i = 18 then (999999, []) else if i = 17 then (999999, []) else (0, []))) (fun i => i ≤ xs.length) (fun i => ⟨90, [(0, .sr 0), (1, .t (.i .i64 (k + (totL wEv (xs.take i) : Nat)))), (5, .t (.i .i64 i))], [.arr 87 10 (.own (.ag [.leaf, .leaf, .leaf, .leaf, .leaf, .leaf, .sl 9 1 .leaf, .sl 9 1 .leaf, .leaf, .sl 212 2 (.ag [.leaf, .leaf])])) ((mkLTo mkEv wEv xs k i).map eEvent)]⟩) (fun i => xs.length - i) mixed (by kernel_rfl) 0 (by omega) (Keep.wk (ids := [some 0]) ?_) ?_
  · simp only [push_cast, Nat.reduceEqDiff, Nat.reduceLT, Nat.reduceLeDiff, Nat.reduceAdd, Nat.reduceMul, Nat.reduceSub, Nat.reduceBEq, ↓reduceIte, reduceCtorEq, mkLTo_zero, totL, List.take_zero, Int.add_zero, Int.cast_ofNat_Int] <;> trivial
  · intro i hi
    simp -implicitDefEqProofs (maxSteps := 2000000) only [push_cast, Nat.reduceEqDiff, Nat.reduceLT, Nat.reduceLeDiff, Nat.reduceAdd, Nat.reduceMul, Nat.reduceSub, Nat.reduceBEq, ↓reduceIte, reduceCtorEq, mkLTo_len hi, eEvent]
    intro _
    have := Bd.hi
    refine iteI (fun h => ?_) (fun h => ?_)
    · obtain ⟨x, hx⟩ : ∃ x, xs[i]? = some x := ⟨xs[i], List.getElem?_eq_getElem (by omega)⟩
      have ht := totL_take (w := wEv) hx
      have hl := totL_le (w := wEv) (xs := xs) (i := i + 1)
      have hw : wEv x = 6 + totL (wC 1) x.prev + totL (wC 1) x.auth + 1 + totL (wC 2) x.grants := rfl
      have c1 := totC (n := 1) (xs := x.prev)
      have c2 := totC (n := 1) (xs := x.auth)
      have c3 := totC (n := 2) (xs := x.grants)
      refine Callx.closed (markText (k + (totL wEv (xs.take i) : Nat)) (by omega)) rfl rfl (.inl rfl) ?_
      simp -implicitDefEqProofs (maxSteps := 2000000) only [push_cast, Nat.reduceEqDiff, Nat.reduceLT, Nat.reduceLeDiff, Nat.reduceAdd, Nat.reduceMul, Nat.reduceSub, Nat.reduceBEq, ↓reduceIte, reduceCtorEq, mkLTo_len hi, eEvent]
      refine ⟨by omega, by omega, fun a ha => ?_⟩
      rw [Int.toNat_natCast, mkLTo_get hx] at ha
      obtain rfl : x = a := Option.some.inj ha
      refine ⟨by unfold inI64; omega, ?_⟩
      refine Callx.closed (markText (k + (totL wEv (xs.take i) : Nat) + 1) (by omega)) rfl rfl (.inl rfl) ?_
      simp -implicitDefEqProofs (maxSteps := 2000000) only [push_cast, Nat.reduceEqDiff, Nat.reduceLT, Nat.reduceLeDiff, Nat.reduceAdd, Nat.reduceMul, Nat.reduceSub, Nat.reduceBEq, ↓reduceIte, reduceCtorEq, mkLTo_len hi, eEvent]
      refine ⟨by omega, by omega, fun _ => ⟨by unfold inI64; omega, ?_⟩⟩
      refine Callx.closed (markText (k + (totL wEv (xs.take i) : Nat) + 1 + 1) (by omega)) rfl rfl (.inl rfl) ?_
      simp -implicitDefEqProofs (maxSteps := 2000000) only [push_cast, Nat.reduceEqDiff, Nat.reduceLT, Nat.reduceLeDiff, Nat.reduceAdd, Nat.reduceMul, Nat.reduceSub, Nat.reduceBEq, ↓reduceIte, reduceCtorEq, mkLTo_len hi, eEvent]
      refine ⟨by omega, by omega, fun _ => ⟨by unfold inI64; omega, by omega, by omega, by omega, by omega, fun _ => ⟨by unfold inI64; omega, ?_⟩⟩⟩
      refine Callx.closed (markText (k + (totL wEv (xs.take i) : Nat) + 1 + 1 + 1 + 1) (by omega)) rfl rfl (.inl rfl) ?_
      simp -implicitDefEqProofs (maxSteps := 2000000) only [push_cast, Nat.reduceEqDiff, Nat.reduceLT, Nat.reduceLeDiff, Nat.reduceAdd, Nat.reduceMul, Nat.reduceSub, Nat.reduceBEq, ↓reduceIte, reduceCtorEq, mkLTo_len hi, eEvent]
      refine ⟨by omega, by omega, fun _ => ⟨by unfold inI64; omega, by omega, by omega, fun _ => ⟨by unfold inI64; omega, by omega, .inr ⟨by omega, fun _ => ?_⟩⟩⟩⟩
      generalize hK : k + (totL wEv (xs.take i) : Nat) = K
      have hn : (mkLTo mkEv wEv xs k i).length = xs.length := mkLTo_len hi
      have hset : ∀ (e e' : Event), (((mkLTo mkEv wEv xs k i).set i e).map eEvent).set i (eEvent e') = ((mkLTo mkEv wEv xs k i).set i e').map eEvent := fun e e' => by rw [← List.map_set, List.set_set]
      have hg : ∀ e : Event, (((mkLTo mkEv wEv xs k i).set i e).map eEvent)[i]? = some (eEvent e) := fun e => by rw [List.getElem?_map, List.getElem?_set_self (by omega)]; rfl
      have h6 : ((mkLTo mkEv wEv xs k i).map eEvent).set i (T.ag [T.s (mkT K), T.s (mkT (K + 1)), T.s (mkT (K + 1 + 1)), T.b (decide ((K + 1 + 1 + 1) % 3 = 0)), T.s (mkT (K + 1 + 1 + 1 + 1)), T.i .i64 (K + 1 + 1 + 1 + 1 + 1), eStringS x.prev, eStringS x.auth, T.s x.value, eGrantS x.grants]) = ((mkLTo mkEv wEv xs k i).set i (mkEv6 x K)).map eEvent := by rw [List.map_set]; rfl
      rw [Int.toNat_natCast, h6]
      refine Callx.hand [1] (markStringS x.prev (K + 1 + 1 + 1 + 1 + 1 + 1) (by omega) (by omega)) (by decide) ?_ rfl rfl ?_ rfl (.inr ⟨rfl, by simp only [push_cast, Nat.reduceEqDiff, Nat.reduceLT, Nat.reduceLeDiff, Nat.reduceAdd, Nat.reduceMul, Nat.reduceSub, Nat.reduceBEq, ↓reduceIte, reduceCtorEq]⟩) ?_
      · simp only [push_cast, Nat.reduceEqDiff, Nat.reduceLT, Nat.reduceLeDiff, Nat.reduceAdd, Nat.reduceMul, Nat.reduceSub, Nat.reduceBEq, ↓reduceIte, reduceCtorEq]
      · simp only [push_cast, Nat.reduceEqDiff, Nat.reduceLT, Nat.reduceLeDiff, Nat.reduceAdd, Nat.reduceMul, Nat.reduceSub, Nat.reduceBEq, ↓reduceIte, reduceCtorEq] <;> rfl
      simp -implicitDefEqProofs (maxSteps := 2000000) only [push_cast, Nat.reduceEqDiff, Nat.reduceLT, Nat.reduceLeDiff, Nat.reduceAdd, Nat.reduceMul, Nat.reduceSub, Nat.reduceBEq, ↓reduceIte, reduceCtorEq]
      refine W.cut (ι := Unit) (D := (fun i => if i = 18 then (999999, []) else (0, []))) (fun _ => True) (fun _ => ⟨90, [(0, .sr 0), (1, .t (.i .i64 (K + 1 + 1 + 1 + 1 + 1 + 1 + (totL (wC 1) x.prev : Nat)))), (5, .t (.i .i64 i))], [.arr 87 10 (.own (.ag [.leaf, .leaf, .leaf, .leaf, .leaf, .leaf, .sl 9 1 .leaf, .sl 9 1 .leaf, .leaf, .sl 212 2 (.ag [.leaf, .leaf])])) (((mkLTo mkEv wEv xs k i).set i (mkEv7 x K)).map eEvent)]⟩) mixed (by kernel_rfl) () trivial (Wk.trans (Wk.close (id := 0) (n := 1) rfl rfl rfl (hg _)) (Keep.wk (ids := [some 0]) ?_)) (fun _ _ => ?_)
      · have e := hset (mkEv6 x K) (mkEv7 x K)
        rw [show eEvent (mkEv7 x K) = (eEvent (mkEv6 x K)).setCell 6 (.sl ((mkStringL x.prev (K + 1 + 1 + 1 + 1 + 1 + 1)).map T.s)) from rfl] at e
        simp only [push_cast, Nat.reduceEqDiff, Nat.reduceLT, Nat.reduceLeDiff, Nat.reduceAdd, Nat.reduceMul, Nat.reduceSub, Nat.reduceBEq, ↓reduceIte, reduceCtorEq, e] <;> rfl
      simp -implicitDefEqProofs (maxSteps := 2000000) only [push_cast, Nat.reduceEqDiff, Nat.reduceLT, Nat.reduceLeDiff, Nat.reduceAdd, Nat.reduceMul, Nat.reduceSub, Nat.reduceBEq, ↓reduceIte, reduceCtorEq, List.length_set, mkLTo_len hi, eEvent_len, eEvent_isAg, eEvent_ones, eEvent_one]
      refine ⟨by omega, .inr ⟨by omega, fun a ha => ?_⟩⟩
      rw [Int.toNat_natCast, List.getElem?_set_self (by omega)] at ha
      obtain rfl := Option.some.inj ha
      rw [Int.toNat_natCast]
      refine Callx.hand [1] (markStringS x.auth (K + 1 + 1 + 1 + 1 + 1 + 1 + (totL (wC 1) x.prev : Nat)) (by omega) (by omega)) (by decide) ?_ rfl rfl ?_ rfl (.inr ⟨rfl, by simp only [push_cast, Nat.reduceEqDiff, Nat.reduceLT, Nat.reduceLeDiff, Nat.reduceAdd, Nat.reduceMul, Nat.reduceSub, Nat.reduceBEq, ↓reduceIte, reduceCtorEq]⟩) ?_
      · simp only [push_cast, Nat.reduceEqDiff, Nat.reduceLT, Nat.reduceLeDiff, Nat.reduceAdd, Nat.reduceMul, Nat.reduceSub, Nat.reduceBEq, ↓reduceIte, reduceCtorEq]
      · simp only [push_cast, Nat.reduceEqDiff, Nat.reduceLT, Nat.reduceLeDiff, Nat.reduceAdd, Nat.reduceMul, Nat.reduceSub, Nat.reduceBEq, ↓reduceIte, reduceCtorEq] <;> rfl
      simp -implicitDefEqProofs (maxSteps := 2000000) only [push_cast, Nat.reduceEqDiff, Nat.reduceLT, Nat.reduceLeDiff, Nat.reduceAdd, Nat.reduceMul, Nat.reduceSub, Nat.reduceBEq, ↓reduceIte, reduceCtorEq]
      refine W.cut (ι := Unit) (D := (fun _ => (0, []))) (fun _ => True) (fun _ => ⟨90, [(0, .sr 0), (1, .t (.i .i64 (K + 1 + 1 + 1 + 1 + 1 + 1 + (totL (wC 1) x.prev : Nat) + (totL (wC 1) x.auth : Nat)))), (5, .t (.i .i64 i))], [.arr 87 10 (.own (.ag [.leaf, .leaf, .leaf, .leaf, .leaf, .leaf, .sl 9 1 .leaf, .sl 9 1 .leaf, .leaf, .sl 212 2 (.ag [.leaf, .leaf])])) (((mkLTo mkEv wEv xs k i).set i (mkEv8 x K)).map eEvent)]⟩) mixed (by kernel_rfl) () trivial (Wk.trans (Wk.close (id := 0) (n := 1) rfl rfl rfl (hg _)) (Keep.wk (ids := [some 0]) ?_)) (fun _ _ => ?_)
      · have e := hset (mkEv7 x K) (mkEv8 x K)
        rw [show eEvent (mkEv8 x K) = (eEvent (mkEv7 x K)).setCell 7 (.sl ((mkStringL x.auth (K + 1 + 1 + 1 + 1 + 1 + 1 + (totL (wC 1) x.prev : Nat))).map T.s)) from rfl] at e
        simp only [push_cast, Nat.reduceEqDiff, Nat.reduceLT, Nat.reduceLeDiff, Nat.reduceAdd, Nat.reduceMul, Nat.reduceSub, Nat.reduceBEq, ↓reduceIte, reduceCtorEq, e] <;> rfl
      simp -implicitDefEqProofs (maxSteps := 2000000) only [push_cast, Nat.reduceEqDiff, Nat.reduceLT, Nat.reduceLeDiff, Nat.reduceAdd, Nat.reduceMul, Nat.reduceSub, Nat.reduceBEq, ↓reduceIte, reduceCtorEq, List.length_set, mkLTo_len hi, eEvent_len, eEvent_isAg, eEvent_ones, eEvent_one]
      refine Callx.closed (markText (K + 1 + 1 + 1 + 1 + 1 + 1 + (totL (wC 1) x.prev : Nat) + (totL (wC 1) x.auth : Nat)) (by omega)) rfl rfl (.inl rfl) ?_
      simp -implicitDefEqProofs (maxSteps := 2000000) only [push_cast, Nat.reduceEqDiff, Nat.reduceLT, Nat.reduceLeDiff, Nat.reduceAdd, Nat.reduceMul, Nat.reduceSub, Nat.reduceBEq, ↓reduceIte, reduceCtorEq, List.length_set, mkLTo_len hi, eEvent]
      refine ⟨by omega, by omega, fun a ha => ⟨by unfold inI64; omega, by omega, .inr ⟨by omega, fun _ => ?_⟩⟩⟩
      rw [Int.toNat_natCast, List.getElem?_set_self (by omega)] at ha
      obtain rfl := Option.some.inj ha
      have e9 := hset (mkEv8 x K) (mkEv9 x K)
      have e9' : eEvent (mkEv9 x K) = T.ag [T.s (mkEv8 x K).id, T.s (mkEv8 x K).sender, T.s (mkEv8 x K).typ, T.b (mkEv8 x K).isState, T.s (mkEv8 x K).key, T.i .i64 (mkEv8 x K).time, eStringS (mkEv8 x K).prev, eStringS (mkEv8 x K).auth, T.s (mkT (K + 1 + 1 + 1 + 1 + 1 + 1 + (totL (wC 1) x.prev : Nat) + (totL (wC 1) x.auth : Nat))), eGrantS (mkEv8 x K).grants] := rfl
      rw [Int.toNat_natCast, ← e9', e9]
      refine Callx.hand [1] (markGrantS x.grants (K + 1 + 1 + 1 + 1 + 1 + 1 + (totL (wC 1) x.prev : Nat) + (totL (wC 1) x.auth : Nat) + 1) (by omega) (by omega)) (by decide) ?_ rfl rfl ?_ rfl (.inr ⟨rfl, by simp only [push_cast, Nat.reduceEqDiff, Nat.reduceLT, Nat.reduceLeDiff, Nat.reduceAdd, Nat.reduceMul, Nat.reduceSub, Nat.reduceBEq, ↓reduceIte, reduceCtorEq]⟩) ?_
      · simp only [push_cast, Nat.reduceEqDiff, Nat.reduceLT, Nat.reduceLeDiff, Nat.reduceAdd, Nat.reduceMul, Nat.reduceSub, Nat.reduceBEq, ↓reduceIte, reduceCtorEq] <;> rfl
      · simp only [push_cast, Nat.reduceEqDiff, Nat.reduceLT, Nat.reduceLeDiff, Nat.reduceAdd, Nat.reduceMul, Nat.reduceSub, Nat.reduceBEq, ↓reduceIte, reduceCtorEq] <;> rfl
      simp -implicitDefEqProofs (maxSteps := 2000000) only [push_cast, Nat.reduceEqDiff, Nat.reduceLT, Nat.reduceLeDiff, Nat.reduceAdd, Nat.reduceMul, Nat.reduceSub, Nat.reduceBEq, ↓reduceIte, reduceCtorEq]
      refine ⟨by unfold inI64; omega, i + 1, by omega, by omega, Wk.trans (Wk.close (id := 0) (n := 1) rfl rfl rfl (hg _)) (Keep.wk (ids := [some 0]) ?_)⟩
      have e := hset (mkEv9 x K) (mkEv x K)
      rw [show eEvent (mkEv x K) = (eEvent (mkEv9 x K)).setCell 9 (.sl ((mkGrantL x.grants (K + 1 + 1 + 1 + 1 + 1 + 1 + (totL (wC 1) x.prev : Nat) + (totL (wC 1) x.auth : Nat) + 1)).map eGrant)) from rfl] at e
      have e' : ((mkLTo mkEv wEv xs k i).set i (mkEv x K)).map eEvent = (mkLTo mkEv wEv xs k (i + 1)).map eEvent := by rw [← hK, mkLTo_set hx]
      rw [e'] at e
      simp only [push_cast, Nat.reduceEqDiff, Nat.reduceLT, Nat.reduceLeDiff, Nat.reduceAdd, Nat.reduceMul, Nat.reduceSub, Nat.reduceBEq, ↓reduceIte, reduceCtorEq, e, T.i.injEq, AV.t.injEq] <;> omega
    · have hi : i = xs.length := by omega
      subst hi
      rw [mkLTo_all, List.take_length]
      exact ⟨rfl, Rest.of [some 0] rfl rfl (by simp only [push_cast, Nat.reduceEqDiff, Nat.reduceLT, Nat.reduceLeDiff, Nat.reduceAdd, Nat.reduceMul, Nat.reduceSub, Nat.reduceBEq, ↓reduceIte, reduceCtorEq] <;> rfl)⟩
theorem markEvent (e : Event) (k : Int) (h0 : 0 ≤ k) (hk : k + e.prev.length + e.auth.length + 2 * e.grants.length ≤ 4611686018427387) : ConM P0 49 [.ag [.t (.s e.id), .t (.s e.sender), .t (.s e.typ), .t (.b e.isState), .t (.s e.key), .t (.i .i64 e.time), .sr 0, .sr 1, .t (.s e.value), .sr 2], .t (.i .i64 k)]
    [.arr 9 1 (.own .leaf) (e.prev.map T.s), .arr 9 1 (.own .leaf) (e.auth.map T.s), .arr 212 2 (.own (.ag [.leaf, .leaf])) (e.grants.map eGrant)] (.t (.i .i64 (k + e.prev.length + e.auth.length + 2 * e.grants.length)))
    [.arr 9 1 (.own .leaf) ((mkStringL e.prev k).map T.s), .arr 9 1 (.own .leaf) ((mkStringL e.auth (k + e.prev.length)).map T.s), .arr 212 2 (.own (.ag [.leaf, .leaf])) ((mkGrantL e.grants (k + e.prev.length + e.auth.length)).map eGrant)] := by
  refine ConM.intro (fn := Try.f49) [.tmp 4] (fun _ => (0, [])) mixed (by kernel_rfl) rfl (by decide) rfl (by rfl) (by kernel_rfl) ?_
  simp -implicitDefEqProofs (maxSteps := 2000000) only [push_cast, Nat.reduceEqDiff, Nat.reduceLT, Nat.reduceLeDiff, Nat.reduceAdd, Nat.reduceMul, Nat.reduceSub, Nat.reduceBEq, ↓reduceIte, reduceCtorEq]
  have c1 : ((totL (wC 1) e.prev : Nat) : Int) = e.prev.length := by have := totC (n := 1) (xs := e.prev); omega
  have c2 : ((totL (wC 1) e.auth : Nat) : Int) = e.auth.length := by have := totC (n := 1) (xs := e.auth); omega
  have c3 : ((totL (wC 2) e.grants : Nat) : Int) = 2 * e.grants.length := by have := totC (n := 2) (xs := e.grants); omega
  have m1 := markStringS e.prev k h0 (by omega)
  have m2 := markStringS e.auth (k + e.prev.length) (by omega) (by omega)
  have m3 := markGrantS e.grants (k + e.prev.length + e.auth.length) (by omega) (by omega)
  rw [c1] at m1
  rw [c2] at m2
  rw [c3] at m3
  refine Callx.hand [0] m1 (by decide) (by simp only [push_cast, Nat.reduceEqDiff, Nat.reduceLT, Nat.reduceLeDiff, Nat.reduceAdd, Nat.reduceMul, Nat.reduceSub, Nat.reduceBEq, ↓reduceIte, reduceCtorEq]) rfl rfl (by simp only [push_cast, Nat.reduceEqDiff, Nat.reduceLT, Nat.reduceLeDiff, Nat.reduceAdd, Nat.reduceMul, Nat.reduceSub, Nat.reduceBEq, ↓reduceIte, reduceCtorEq] <;> rfl) rfl (.inr ⟨rfl, by simp only [push_cast, Nat.reduceEqDiff, Nat.reduceLT, Nat.reduceLeDiff, Nat.reduceAdd, Nat.reduceMul, Nat.reduceSub, Nat.reduceBEq, ↓reduceIte, reduceCtorEq]⟩) ?_
  simp -implicitDefEqProofs (maxSteps := 2000000) only [push_cast, Nat.reduceEqDiff, Nat.reduceLT, Nat.reduceLeDiff, Nat.reduceAdd, Nat.reduceMul, Nat.reduceSub, Nat.reduceBEq, ↓reduceIte, reduceCtorEq]
  refine Callx.hand [1] m2 (by decide) (by simp only [push_cast, Nat.reduceEqDiff, Nat.reduceLT, Nat.reduceLeDiff, Nat.reduceAdd, Nat.reduceMul, Nat.reduceSub, Nat.reduceBEq, ↓reduceIte, reduceCtorEq]) rfl rfl (by simp only [push_cast, Nat.reduceEqDiff, Nat.reduceLT, Nat.reduceLeDiff, Nat.reduceAdd, Nat.reduceMul, Nat.reduceSub, Nat.reduceBEq, ↓reduceIte, reduceCtorEq] <;> rfl) rfl (.inr ⟨rfl, by simp only [push_cast, Nat.reduceEqDiff, Nat.reduceLT, Nat.reduceLeDiff, Nat.reduceAdd, Nat.reduceMul, Nat.reduceSub, Nat.reduceBEq, ↓reduceIte, reduceCtorEq]⟩) ?_
  simp -implicitDefEqProofs (maxSteps := 2000000) only [push_cast, Nat.reduceEqDiff, Nat.reduceLT, Nat.reduceLeDiff, Nat.reduceAdd, Nat.reduceMul, Nat.reduceSub, Nat.reduceBEq, ↓reduceIte, reduceCtorEq]
  refine Callx.hand [2] m3 (by decide) (by simp only [push_cast, Nat.reduceEqDiff, Nat.reduceLT, Nat.reduceLeDiff, Nat.reduceAdd, Nat.reduceMul, Nat.reduceSub, Nat.reduceBEq, ↓reduceIte, reduceCtorEq]) rfl rfl (by simp only [push_cast, Nat.reduceEqDiff, Nat.reduceLT, Nat.reduceLeDiff, Nat.reduceAdd, Nat.reduceMul, Nat.reduceSub, Nat.reduceBEq, ↓reduceIte, reduceCtorEq] <;> rfl) rfl (.inr ⟨rfl, by simp only [push_cast, Nat.reduceEqDiff, Nat.reduceLT, Nat.reduceLeDiff, Nat.reduceAdd, Nat.reduceMul, Nat.reduceSub, Nat.reduceBEq, ↓reduceIte, reduceCtorEq]⟩) ?_
  simp -implicitDefEqProofs (maxSteps := 2000000) only [push_cast, Nat.reduceEqDiff, Nat.reduceLT, Nat.reduceLeDiff, Nat.reduceAdd, Nat.reduceMul, Nat.reduceSub, Nat.reduceBEq, ↓reduceIte, reduceCtorEq]
  exact Rest.of [some 0, some 1, some 2] rfl rfl (by simp only [push_cast, Nat.reduceEqDiff, Nat.reduceLT, Nat.reduceLeDiff, Nat.reduceAdd, Nat.reduceMul, Nat.reduceSub, Nat.reduceBEq, ↓reduceIte, reduceCtorEq] <;> rfl)
theorem markRoom (r : Room) (k : Int) (h0 : 0 ≤ k) (hk : k + totL wEv r.events ≤ 4611686018427387) : ConM P0 40 [.ag [.sr 0], .t (.i .i64 k)] [.arr 87 10 (.own (.ag [.leaf, .leaf, .leaf, .leaf, .leaf, .leaf, .sl 9 1 .leaf, .sl 9 1 .leaf, .leaf, .sl 212 2 (.ag [.leaf, .leaf])])) (r.events.map eEvent)] (.t (.i .i64 (k + (totL wEv r.events : Nat)))) [.arr 87 10 (.own (.ag [.leaf, .leaf, .leaf, .leaf, .leaf, .leaf, .sl 9 1 .leaf, .sl 9 1 .leaf, .leaf, .sl 212 2 (.ag [.leaf, .leaf])])) ((mkEventL r.events k).map eEvent)] := by
  refine ConM.intro (fn := Try.f40) [.tmp 4] (fun _ => (0, [])) mixed (by kernel_rfl) rfl (by decide) rfl (by rfl) (by kernel_rfl) ?_
  simp -implicitDefEqProofs (maxSteps := 2000000) only [push_cast, Nat.reduceEqDiff, Nat.reduceLT, Nat.reduceLeDiff, Nat.reduceAdd, Nat.reduceMul, Nat.reduceSub, Nat.reduceBEq, ↓reduceIte, reduceCtorEq]
  refine Callx.hand [0] (markEventS r.events k h0 hk) (by decide) (by simp only [push_cast, Nat.reduceEqDiff, Nat.reduceLT, Nat.reduceLeDiff, Nat.reduceAdd, Nat.reduceMul, Nat.reduceSub, Nat.reduceBEq, ↓reduceIte, reduceCtorEq]) rfl rfl (by simp only [push_cast, Nat.reduceEqDiff, Nat.reduceLT, Nat.reduceLeDiff, Nat.reduceAdd, Nat.reduceMul, Nat.reduceSub, Nat.reduceBEq, ↓reduceIte, reduceCtorEq] <;> rfl) rfl (.inr ⟨rfl, by simp only [push_cast, Nat.reduceEqDiff, Nat.reduceLT, Nat.reduceLeDiff, Nat.reduceAdd, Nat.reduceMul, Nat.reduceSub, Nat.reduceBEq, ↓reduceIte, reduceCtorEq]⟩) ?_
  simp -implicitDefEqProofs (maxSteps := 2000000) only [push_cast, Nat.reduceEqDiff, Nat.reduceLT, Nat.reduceLeDiff, Nat.reduceAdd, Nat.reduceMul, Nat.reduceSub, Nat.reduceBEq, ↓reduceIte, reduceCtorEq]
  exact Rest.of [some 0] rfl rfl (by simp only [push_cast, Nat.reduceEqDiff, Nat.reduceLT, Nat.reduceLeDiff, Nat.reduceAdd, Nat.reduceMul, Nat.reduceSub, Nat.reduceBEq, ↓reduceIte, reduceCtorEq] <;> rfl)

/-- how many marks events bear -/
theorem totEv_le : ∀ (xs : List Event), totL wEv xs ≤ 10 * (eEventS xs).wt
  | [] => by simp [totL]
  | x :: xs => by
    have ih := totEv_le xs
    have c1 := totC (n := 1) (xs := x.prev)
    have c2 := totC (n := 1) (xs := x.auth)
    have c3 := totC (n := 2) (xs := x.grants)
    have e1 : (eEventS (x :: xs)).wt = xs.length + 1 + ((eEvent x).wt + wts (xs.map eEvent)) := by simp [T.wt, wts]
    have e2 : (eEventS xs).wt = xs.length + wts (xs.map eEvent) := by simp [T.wt]
    have e3 : x.prev.length + x.auth.length + x.grants.length ≤ (eEvent x).wt := by simp only [eEvent, T.wt, wts, List.length_map]; omega
    have : wEv x = 6 + totL (wC 1) x.prev + totL (wC 1) x.auth + 1 + totL (wC 2) x.grants := rfl
    simp only [totL]
    omega
end Go.Proofs.Ythhgcklidfilfaa.BX
