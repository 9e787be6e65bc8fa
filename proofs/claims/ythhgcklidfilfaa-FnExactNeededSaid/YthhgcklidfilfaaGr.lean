/-
  Rooms: places of ids, codes, validity; the program's graph.
-/
import Derived.Test.YthhgcklidfilfaaEv
namespace Go.Proofs.Ythhgcklidfilfaa.BX
set_option linter.unusedSectionVars false
set_option linter.unusedSimpArgs false
set_option linter.unusedVariables false
open Go Go.RowKit
set_option maxRecDepth 20000
set_option maxHeartbeats 400000

theorem snocInd {α : Type} {P : List α → Prop} (h0 : P []) (h1 : ∀ es e, P es → P (es ++ [e])) (es : List α) : P es := by
  have : ∀ r : List α, P r.reverse := by
    intro r
    induction r with
    | nil => exact h0
    | cons e r ih => rw [List.reverse_cons]; exact h1 _ _ ih
  have := this es.reverse
  rwa [List.reverse_reverse] at this
/-- where an id first stands -/
def posOf (k : List UInt8) : List Event → Option Nat
  | [] => none
  | e :: es => if e.id = k then some 0 else (posOf k es).map (· + 1)
theorem posOf_none {k : List UInt8} : ∀ {es : List Event}, posOf k es = none ↔ ∀ e ∈ es, e.id ≠ k
  | [] => by simp [posOf]
  | e :: es => by
    simp only [posOf, List.mem_cons, forall_eq_or_imp]
    split
    · rename_i h; simp [h]
    · rename_i h; simp only [Option.map_eq_none_iff, posOf_none (es := es)]; exact ⟨fun hh => ⟨h, hh⟩, fun hh => hh.2⟩
theorem posOf_some {k : List UInt8} : ∀ {es : List Event} {i : Nat}, posOf k es = some i ↔ ∃ e, es[i]? = some e ∧ e.id = k ∧ ∀ x ∈ es.take i, x.id ≠ k
  | [], i => by simp [posOf]
  | e :: es, i => by
    simp only [posOf]
    split
    · rename_i h
      cases i with
      | zero => simp [h]
      | succ i => simp [h]
    · rename_i h
      cases i with
      | zero => simp [h]
      | succ i =>
        simp only [Option.map_eq_some_iff, Nat.add_right_cancel_iff, exists_eq_right, posOf_some (es := es), List.getElem?_cons_succ, List.take_succ_cons, List.mem_cons, forall_eq_or_imp]
        exact ⟨fun ⟨x, h1, h2, h3⟩ => ⟨x, h1, h2, h, h3⟩, fun ⟨x, h1, h2, _, h3⟩ => ⟨x, h1, h2, h3⟩⟩
theorem posOf_lt {k : List UInt8} {es : List Event} {i : Nat} (h : posOf k es = some i) : i < es.length := by
  obtain ⟨e, h, _⟩ := posOf_some.1 h
  exact (List.getElem?_eq_some_iff.1 h).1
theorem posOf_snoc {k : List UInt8} {e : Event} : ∀ {es : List Event}, posOf k (es ++ [e]) = (posOf k es).or (if e.id = k then some es.length else none)
  | [] => by simp [posOf]
  | x :: es => by
    simp only [List.cons_append, posOf, posOf_snoc (es := es), List.length_cons]
    split
    · rfl
    · cases posOf k es <;> simp
/-- the place as the document says it -/
def atI (es : List Event) (k : List UInt8) : Int := match posOf k es with
  | some i => i
  | none => -1
theorem atI_nn {es : List Event} {k : List UInt8} : 0 ≤ atI es k ↔ (posOf k es).isSome = true := by
  unfold atI
  cases posOf k es <;> simp
/-- the ids' places, as the program's map -/
def gmStep (m : List (List UInt8 × Nat)) (n : Nat) (e : Event) : List (List UInt8 × Nat) := if e.id ∈ m.map (·.1) then m else m ++ [(e.id, n)]
def gmFrom : List Event → Nat → List (List UInt8 × Nat) → List (List UInt8 × Nat)
  | [], _, m => m
  | e :: es, n, m => gmFrom es (n + 1) (gmStep m n e)
def gm (es : List Event) : List (List UInt8 × Nat) := gmFrom es 0 []
theorem gmFrom_snoc {e : Event} : ∀ {es : List Event} {n : Nat} {m : List (List UInt8 × Nat)}, gmFrom (es ++ [e]) n m = gmStep (gmFrom es n m) (n + es.length) e
  | [], n, m => rfl
  | x :: es, n, m => by
    simp only [List.cons_append, gmFrom, gmFrom_snoc (es := es), List.length_cons]
    congr 1
    omega
theorem gm_snoc {es : List Event} {e : Event} : gm (es ++ [e]) = gmStep (gm es) es.length e := by
  unfold gm
  rw [gmFrom_snoc, Nat.zero_add]
theorem aget_snoc {κ β : Type} [DecidableEq κ] {k a : κ} {v : β} : ∀ {m : List (κ × β)}, aget k (m ++ [(a, v)]) = (aget k m).or (if a = k then some v else none)
  | [] => by simp [aget]
  | p :: m => by
    simp only [List.cons_append, aget, aget_snoc (m := m)]
    split <;> rfl
theorem gm_get {k : List UInt8} : ∀ (es : List Event), aget k (gm es) = posOf k es := by
  refine snocInd rfl fun es e ih => ?_
  · rw [gm_snoc, posOf_snoc]
    unfold gmStep
    split
    · rename_i h
      rw [ih]
      by_cases hk : e.id = k
      · subst hk
        have : aget e.id (gm es) ≠ none := fun hh => aget_none.1 hh h
        rw [ih] at this
        cases hp : posOf e.id es with
        | none => exact absurd hp this
        | some i => rfl
      · rw [if_neg hk]; cases posOf k es <;> rfl
    · rw [aget_snoc, ih]
theorem gm_nodup : ∀ (es : List Event), ((gm es).map (·.1)).Nodup := by
  refine snocInd (by simp [gm, gmFrom]) fun es e ih => ?_
  · rw [gm_snoc]
    unfold gmStep
    split
    · exact ih
    · rename_i h
      rw [List.map_append, List.nodup_append]
      exact ⟨ih, by simp, fun a ha b hb => by simp only [List.map_cons, List.map_nil, List.mem_singleton] at hb; subst hb; rintro rfl; exact h ha⟩
theorem gm_len : ∀ (es : List Event), (gm es).length ≤ es.length := by
  refine snocInd (by simp [gm, gmFrom]) fun es e ih => ?_
  · rw [gm_snoc]
    unfold gmStep
    split <;> simp <;> omega
def gmK (es : List Event) : List T := (gm es).map fun p => T.s p.1
def gmV (es : List Event) : List T := (gm es).map fun p => T.i .i64 (p.2 : Int)
/-- the graph, to be read -/
def gT (es : List Event) : T := .po (.ag [eEventS es, .mp (gmK es) (gmV es)]) 0
theorem s_inj : ∀ a b : List UInt8, T.s a = T.s b → a = b := fun _ _ h => by cases h; rfl

def allIn (es : List Event) (ids : List (List UInt8)) : Bool := decide (∀ id ∈ ids, (posOf id es).isSome = true)
noncomputable def cd5 (es : List Event) : Int := if 300 ≤ (es.length : Int) then 9 else 0
noncomputable def cd4 (es : List Event) (e : Event) : Int := if ((es.length : Int) = 0 ∧ ¬ e.typ = sCreate) ∨ (¬ (es.length : Int) = 0 ∧ (e.typ = sCreate ∨ (e.prev.length : Int) = 0 ∨ (e.auth.length : Int) = 0)) then 8 else cd5 es
noncomputable def cd3 (es : List Event) (e : Event) : Int := if ¬ (allIn es e.prev = true ∧ allIn es e.auth = true) then 7 else cd4 es e
noncomputable def cd2 (es : List Event) (e : Event) : Int := if (posOf e.id es).isSome = true then 6 else cd3 es e
/-- the code of inserting -/
noncomputable def codeE (es : List Event) (e : Event) : Int := if ¬ evOk e = 0 then evOk e else cd2 es e
theorem evOk_refs {e : Event} (h : evOk e = 0) : e.prev.length ≤ 10 ∧ e.auth.length ≤ 10 := by
  unfold evOk at h
  split at h
  · cases h
  unfold ev2 at h
  split at h
  · cases h
  unfold ev3 at h
  split at h
  · cases h
  unfold ev4 at h
  split at h
  · cases h
  rename_i h1
  have h1 := Classical.not_not.1 h1
  unfold refsB at h1
  simp only [Bool.and_eq_true, decide_eq_true_eq] at h1
  omega
/-- a valid room -/
def Valid (es : List Event) : Prop := ∀ (i : Nat) (e : Event), es[i]? = some e → codeE (es.take i) e = 0
open Classical in
noncomputable def roomB (es : List Event) : Bool := decide (Valid es)
theorem allIn_no {es : List Event} {ids : List (List UInt8)} {id : List UInt8} (hm : id ∈ ids) (h : posOf id es = none) : allIn es ids = false := by
  unfold allIn
  rw [decide_eq_false_iff_not]
  intro hh
  have := hh id hm
  rw [h] at this
  cases this
theorem allIn_yes {es : List Event} {ids : List (List UInt8)} (h : ∀ id ∈ ids, (posOf id es).isSome = true) : allIn es ids = true := decide_eq_true h

variable [Bd]
theorem l2At (es : List Event) (k : List UInt8) : Con P0 101 [eRoom ⟨es⟩, .s k] (.t (.i .i64 (atI es k))) [] := by
  refine Con.intro (fn := Try.f101) [.tmp 4] (fun _ => (0, [])) mixed (by kernel_rfl) rfl (by decide) rfl (by rfl) (by kernel_rfl) ?_
  simp -implicitDefEqProofs (maxSteps := 2000000) only [push_cast, Nat.reduceEqDiff, Nat.reduceLT, Nat.reduceLeDiff, Nat.reduceAdd, Nat.reduceMul, Nat.reduceSub, Nat.reduceBEq, ↓reduceIte, reduceCtorEq, eRoom]
  refine WL.loop (ι := Nat) (D := (fun _ => (0, []))) (fun i => i ≤ es.length ∧ ∀ x ∈ es.take i, x.id ≠ k) (fun i => ⟨22, [(1, .t (.s k)), (2, .rf 0 0), (5, .t (.i .i64 i))], [.box (.t (eRoom ⟨es⟩))]⟩) (fun i => es.length - i) mixed (by kernel_rfl) 0 ⟨by omega, by simp⟩ (Keep.wk (ids := [some 0]) ?_) ?_
  · simp only [push_cast, Nat.reduceEqDiff, Nat.reduceLT, Nat.reduceLeDiff, Nat.reduceAdd, Nat.reduceMul, Nat.reduceSub, Nat.reduceBEq, ↓reduceIte, reduceCtorEq, eRoom] <;> rfl
  · rintro i ⟨hi, hc⟩
    simp -implicitDefEqProofs (maxSteps := 2000000) only [push_cast, Nat.reduceEqDiff, Nat.reduceLT, Nat.reduceLeDiff, Nat.reduceAdd, Nat.reduceMul, Nat.reduceSub, Nat.reduceBEq, ↓reduceIte, reduceCtorEq, eRoom, eEvent]
    intro _
    have := Bd.hi
    refine iteI (fun h => ⟨by omega, fun a ha => iteI (fun he => ?_) (fun he => ?_)⟩) (fun h => ?_)
    · rw [Int.toNat_natCast] at ha
      have : posOf k es = some i := posOf_some.2 ⟨a, ha, he, hc⟩
      exact congrArg (T.i .i64) (by unfold atI; rw [this])
    · rw [Int.toNat_natCast] at ha
      refine ⟨by unfold inI64; omega, i + 1, ⟨by omega, take_snoc ha hc he⟩, by omega, Keep.wk (ids := [some 0]) ?_⟩
      simp only [push_cast, Nat.reduceEqDiff, Nat.reduceLT, Nat.reduceLeDiff, Nat.reduceAdd, Nat.reduceMul, Nat.reduceSub, Nat.reduceBEq, ↓reduceIte, reduceCtorEq, eRoom] <;> rfl
    · rw [List.take_of_length_le (by omega)] at hc
      exact congrArg (T.i .i64) (by unfold atI; rw [posOf_none.2 hc])
theorem l2AllThere (es : List Event) (ids : List (List UInt8)) : Con P0 178 [eRoom ⟨es⟩, eStringS ids] (.t (.b (decide ((ids.length : Int) ≤ 300) && allIn es ids))) [] := by
  refine Con.intro (fn := Try.f178) [.tmp 4] (fun i => if i = 6 then (7, []) else (0, [])) mixed (by kernel_rfl) rfl (by decide) rfl (by rfl) (by kernel_rfl) ?_
  simp -implicitDefEqProofs (maxSteps := 2000000) only [push_cast, Nat.reduceEqDiff, Nat.reduceLT, Nat.reduceLeDiff, Nat.reduceAdd, Nat.reduceMul, Nat.reduceSub, Nat.reduceBEq, ↓reduceIte, reduceCtorEq, eRoom]
  intro _
  refine iteI (fun h => ?_) (fun h => ?_)
  · rw [decide_eq_false (by omega)]; rfl
  rw [decide_eq_true (p := (ids.length : Int) ≤ 300) (by omega), Bool.true_and]
  refine WL.loop (ι := Nat) (D := (fun i => if i = 6 then (7, []) else (0, []))) (fun i => i ≤ ids.length ∧ ∀ id ∈ ids.take i, (posOf id es).isSome = true) (fun i => ⟨22, [(1, .t (eStringS ids)), (2, .rf 0 0), (5, .t (.i .i64 i))], [.box (.t (eRoom ⟨es⟩))]⟩) (fun i => ids.length - i) mixed (by kernel_rfl) 0 ⟨by omega, by simp⟩ (Keep.wk (ids := [some 0]) ?_) ?_
  · simp only [push_cast, Nat.reduceEqDiff, Nat.reduceLT, Nat.reduceLeDiff, Nat.reduceAdd, Nat.reduceMul, Nat.reduceSub, Nat.reduceBEq, ↓reduceIte, reduceCtorEq, eRoom] <;> rfl
  · rintro i ⟨hi, hc⟩
    simp -implicitDefEqProofs (maxSteps := 2000000) only [push_cast, Nat.reduceEqDiff, Nat.reduceLT, Nat.reduceLeDiff, Nat.reduceAdd, Nat.reduceMul, Nat.reduceSub, Nat.reduceBEq, ↓reduceIte, reduceCtorEq, eRoom]
    intro _
    have := Bd.hi
    refine iteI (fun h => ⟨by omega, fun a ha => CallV.t (l2At es a) (.inl rfl) ?_⟩) (fun h => ?_)
    · rw [Int.toNat_natCast] at ha
      simp -implicitDefEqProofs (maxSteps := 2000000) only [push_cast, Nat.reduceEqDiff, Nat.reduceLT, Nat.reduceLeDiff, Nat.reduceAdd, Nat.reduceMul, Nat.reduceSub, Nat.reduceBEq, ↓reduceIte, reduceCtorEq]
      refine iteI (fun he => ?_) (fun he => ?_)
      · refine congrArg T.b (allIn_no (List.mem_of_getElem? ha) ?_).symm
        cases hp : posOf a es with
        | none => rfl
        | some j => exact absurd (atI_nn.2 (by rw [hp]; rfl)) (by omega)
      · refine ⟨by unfold inI64; omega, i + 1, ⟨by omega, take_snoc ha hc (atI_nn.1 (by omega))⟩, by omega, Keep.wk (ids := [some 0]) ?_⟩
        simp only [push_cast, Nat.reduceEqDiff, Nat.reduceLT, Nat.reduceLeDiff, Nat.reduceAdd, Nat.reduceMul, Nat.reduceSub, Nat.reduceBEq, ↓reduceIte, reduceCtorEq, eRoom] <;> rfl
    · rw [List.take_of_length_le (by omega)] at hc
      exact congrArg T.b (allIn_yes hc).symm
theorem l2Code (es : List Event) (e : Event) : Con P0 149 [eRoom ⟨es⟩, eEvent e] (.t (.i .i64 (codeE es e))) [] := by
  refine Con.intro (fn := Try.f149) [.tmp 4] (fun _ => (0, [])) mixed (by kernel_rfl) rfl (by decide) rfl (by rfl) (by kernel_rfl) ?_
  simp -implicitDefEqProofs (maxSteps := 2000000) only [push_cast, Nat.reduceEqDiff, Nat.reduceLT, Nat.reduceLeDiff, Nat.reduceAdd, Nat.reduceMul, Nat.reduceSub, Nat.reduceBEq, ↓reduceIte, reduceCtorEq, eRoom, eEvent]
  have leaf : ∀ {n : Int}, codeE es e = n → T.i .i64 n = T.i .i64 (codeE es e) := fun h => congrArg (T.i .i64) h.symm
  refine Callx.closed (specEventOk e) rfl rfl (.inl rfl) ?_
  simp -implicitDefEqProofs (maxSteps := 2000000) only [push_cast, Nat.reduceEqDiff, Nat.reduceLT, Nat.reduceLeDiff, Nat.reduceAdd, Nat.reduceMul, Nat.reduceSub, Nat.reduceBEq, ↓reduceIte, reduceCtorEq, eRoom, eEvent]
  refine iteI (fun h1 => leaf (if_pos h1)) (fun h1 => ?_)
  have h1 := Classical.not_not.1 h1
  have e1 : codeE es e = cd2 es e := if_neg (by rw [h1]; simp)
  obtain ⟨hp10, ha10⟩ := evOk_refs h1
  refine Callx.closed (l2At es e.id) rfl rfl (.inl rfl) ?_
  simp -implicitDefEqProofs (maxSteps := 2000000) only [push_cast, Nat.reduceEqDiff, Nat.reduceLT, Nat.reduceLeDiff, Nat.reduceAdd, Nat.reduceMul, Nat.reduceSub, Nat.reduceBEq, ↓reduceIte, reduceCtorEq, eRoom, eEvent]
  refine iteI (fun h2 => leaf (e1.trans (if_pos (atI_nn.1 h2)))) (fun h2 => ?_)
  have e2 : codeE es e = cd3 es e := e1.trans (if_neg (fun hh => h2 (atI_nn.2 hh)))
  refine Callx.closed (l2AllThere es e.prev) rfl rfl (.inl rfl) ?_
  rw [decide_eq_true (p := (e.prev.length : Int) ≤ 300) (by omega), Bool.true_and]
  simp -implicitDefEqProofs (maxSteps := 2000000) only [push_cast, Nat.reduceEqDiff, Nat.reduceLT, Nat.reduceLeDiff, Nat.reduceAdd, Nat.reduceMul, Nat.reduceSub, Nat.reduceBEq, ↓reduceIte, reduceCtorEq, eRoom, eEvent]
  refine iteI (fun h3 => leaf (e2.trans (if_pos (by simp_all)))) (fun h3 => ?_)
  refine Callx.closed (l2AllThere es e.auth) rfl rfl (.inl rfl) ?_
  rw [decide_eq_true (p := (e.auth.length : Int) ≤ 300) (by omega), Bool.true_and]
  simp -implicitDefEqProofs (maxSteps := 2000000) only [push_cast, Nat.reduceEqDiff, Nat.reduceLT, Nat.reduceLeDiff, Nat.reduceAdd, Nat.reduceMul, Nat.reduceSub, Nat.reduceBEq, ↓reduceIte, reduceCtorEq, eRoom, eEvent]
  refine iteI (fun h4 => leaf (e2.trans (if_pos (by simp_all)))) (fun h4 => ?_)
  have e3 : codeE es e = cd4 es e := e2.trans (if_neg (by simp_all))
  repeat' first | refine iteI (fun _ => ?_) (fun _ => ?_) | intro _
  all_goals first
    | (exfalso; omega)
    | exact leaf (e3.trans (if_pos (.inl ⟨by omega, by assumption⟩)))
    | exact leaf (e3.trans (if_pos (.inr ⟨by omega, .inl (by assumption)⟩)))
    | exact leaf (e3.trans (if_pos (.inr ⟨by omega, .inr (.inl (by assumption))⟩)))
    | exact leaf (e3.trans (if_pos (.inr ⟨by omega, .inr (.inr (by assumption))⟩)))
    | exact leaf ((e3.trans (if_neg (by rintro (⟨h, h'⟩ | ⟨h, h' | h' | h'⟩) <;> first | omega | contradiction | exact absurd h' (by assumption)))).trans (if_pos (by assumption)))
    | exact leaf ((e3.trans (if_neg (by rintro (⟨h, h'⟩ | ⟨h, h' | h' | h'⟩) <;> first | omega | contradiction | exact absurd h' (by assumption)))).trans (if_neg (by assumption)))
theorem specRoomOk (es : List Event) : Con P0 98 [eRoom ⟨es⟩] (.t (.b (roomB es))) [] := by
  refine Con.intro (fn := Try.f98) [.tmp 2] (fun i => if i = 4 then (12, []) else (0, [])) mixed (by kernel_rfl) rfl (by decide) rfl (by rfl) (by kernel_rfl) ?_
  simp -implicitDefEqProofs (maxSteps := 2000000) only [push_cast, Nat.reduceEqDiff, Nat.reduceLT, Nat.reduceLeDiff, Nat.reduceAdd, Nat.reduceMul, Nat.reduceSub, Nat.reduceBEq, ↓reduceIte, reduceCtorEq, eRoom]
  refine WL.loop (ι := Nat) (D := (fun i => if i = 4 then (12, []) else (0, []))) (fun i => i ≤ es.length ∧ ∀ (j : Nat) (e : Event), j < i → es[j]? = some e → codeE (es.take j) e = 0) (fun i => ⟨23, [(1, .rf 0 0), (3, .t (.i .i64 i))], [.box (.t (eRoom ⟨es⟩))]⟩) (fun i => es.length - i) mixed (by kernel_rfl) 0 ⟨by omega, fun j e hj => absurd hj (by omega)⟩ (Keep.wk (ids := [some 0]) ?_) ?_
  · simp only [push_cast, Nat.reduceEqDiff, Nat.reduceLT, Nat.reduceLeDiff, Nat.reduceAdd, Nat.reduceMul, Nat.reduceSub, Nat.reduceBEq, ↓reduceIte, reduceCtorEq, eRoom] <;> rfl
  · rintro i ⟨hi, hc⟩
    simp -implicitDefEqProofs (maxSteps := 2000000) only [push_cast, Nat.reduceEqDiff, Nat.reduceLT, Nat.reduceLeDiff, Nat.reduceAdd, Nat.reduceMul, Nat.reduceSub, Nat.reduceBEq, ↓reduceIte, reduceCtorEq, eRoom]
    intro _
    have := Bd.hi
    refine iteI (fun h => ?_) (fun h => ?_)
    · have he : (Int.toNat 0) = 0 := rfl
      rw [he, List.drop_zero, Int.toNat_natCast, ← List.map_take]
      refine ⟨by omega, by omega, fun a ha => CallV.t (l2Code (es.take i) a) (.inl rfl) ?_⟩
      simp -implicitDefEqProofs (maxSteps := 2000000) only [push_cast, Nat.reduceEqDiff, Nat.reduceLT, Nat.reduceLeDiff, Nat.reduceAdd, Nat.reduceMul, Nat.reduceSub, Nat.reduceBEq, ↓reduceIte, reduceCtorEq]
      refine iteI (fun h1 => ?_) (fun h1 => ?_)
      · exact congrArg T.b (@decide_eq_false _ (Classical.propDecidable _) fun hv : Valid es => h1 (hv i a ha)).symm
      · have h1 := Classical.not_not.1 h1
        refine ⟨by unfold inI64; omega, i + 1, ⟨by omega, fun j e hj hje => ?_⟩, by omega, Keep.wk (ids := [some 0]) ?_⟩
        · rcases Nat.lt_or_ge j i with h' | h'
          · exact hc j e h' hje
          · have : j = i := by omega
            subst this
            rw [ha] at hje; cases hje; exact h1
        · simp only [push_cast, Nat.reduceEqDiff, Nat.reduceLT, Nat.reduceLeDiff, Nat.reduceAdd, Nat.reduceMul, Nat.reduceSub, Nat.reduceBEq, ↓reduceIte, reduceCtorEq, eRoom] <;> rfl
    · refine congrArg T.b (@decide_eq_true _ (Classical.propDecidable _) fun i e he => hc i e ?_ he).symm
      have := (List.getElem?_eq_some_iff.1 he).1
      omega
/-- one look at the graph's map -/
theorem gLook {s : Bool × List Lay} (hs : s = (false, [.str])) {z : Value} {k : List UInt8} {ok : Bool} {kd : Kind} {K : AV → Prop} {es : List Event} (h1 : ∀ i, posOf k es = some i → K (if ok = true then .tp [kd.look (.i .i64 i), .t (.b true)] else kd.look (.i .i64 i))) (h2 : posOf k es = none → K (if ok = true then .tp [ofV z, .t (.b false)] else ofV z)) :
    lookM s z (.s k) ok kd (gmK es) (gmV es) K := by
  subst hs
  refine look_assoc (ek := T.s) (ev := fun n : Nat => T.i .i64 (n : Int)) s_inj (gm_nodup es) (fun p _ => trivial) (fun v hv => ?_) (fun hv => ?_)
  · rw [gm_get] at hv; exact h1 v hv
  · rw [gm_get] at hv; exact h2 hv
theorem graphAll (es : List Event) (ids : List (List UInt8)) : Con P0 179 [gT es, eStringS ids] (.t (.b (allIn es ids))) [] := by
  refine Con.intro (fn := Try.f179) [.tmp 4] (fun _ => (0, [])) mixed (by kernel_rfl) rfl (by decide) rfl (by rfl) (by kernel_rfl) ?_
  simp -implicitDefEqProofs (maxSteps := 2000000) only [push_cast, Nat.reduceEqDiff, Nat.reduceLT, Nat.reduceLeDiff, Nat.reduceAdd, Nat.reduceMul, Nat.reduceSub, Nat.reduceBEq, ↓reduceIte, reduceCtorEq, gT]
  intro _
  refine WL.loop (ι := Nat) (D := (fun _ => (0, []))) (fun i => i ≤ ids.length ∧ ∀ id ∈ ids.take i, (posOf id es).isSome = true) (fun i => ⟨27, [(0, .t (gT es)), (9, .t (eStringS ids)), (10, .t (.i .i64 ids.length)), (11, .t (.i .i64 i))], []⟩) (fun i => ids.length - i) mixed (by kernel_rfl) 0 ⟨by omega, by simp⟩ (Keep.wk (ids := []) ?_) ?_
  · simp only [push_cast, Nat.reduceEqDiff, Nat.reduceLT, Nat.reduceLeDiff, Nat.reduceAdd, Nat.reduceMul, Nat.reduceSub, Nat.reduceBEq, ↓reduceIte, reduceCtorEq, gT] <;> rfl
  · rintro i ⟨hi, hc⟩
    simp -implicitDefEqProofs (maxSteps := 2000000) only [push_cast, Nat.reduceEqDiff, Nat.reduceLT, Nat.reduceLeDiff, Nat.reduceAdd, Nat.reduceMul, Nat.reduceSub, Nat.reduceBEq, ↓reduceIte, reduceCtorEq, gT]
    have := Bd.hi
    refine iteI (fun h => ⟨by omega, fun a ha => ?_⟩) (fun h => ?_)
    · rw [Int.toNat_natCast] at ha
      refine gLook rfl (fun j hj => ?_) (fun hj => ?_)
      · simp -implicitDefEqProofs (maxSteps := 2000000) only [push_cast, Nat.reduceEqDiff, Nat.reduceLT, Nat.reduceLeDiff, Nat.reduceAdd, Nat.reduceMul, Nat.reduceSub, Nat.reduceBEq, ↓reduceIte, reduceCtorEq]
        refine ⟨by unfold inI64; omega, i + 1, ⟨by omega, take_snoc ha hc (by rw [hj]; rfl)⟩, by omega, Keep.wk (ids := []) ?_⟩
        simp only [push_cast, Nat.reduceEqDiff, Nat.reduceLT, Nat.reduceLeDiff, Nat.reduceAdd, Nat.reduceMul, Nat.reduceSub, Nat.reduceBEq, ↓reduceIte, reduceCtorEq, gT] <;> rfl
      · simp -implicitDefEqProofs (maxSteps := 2000000) only [push_cast, Nat.reduceEqDiff, Nat.reduceLT, Nat.reduceLeDiff, Nat.reduceAdd, Nat.reduceMul, Nat.reduceSub, Nat.reduceBEq, ↓reduceIte, reduceCtorEq]
        exact congrArg T.b (allIn_no (List.mem_of_getElem? ha) hj).symm
    · rw [List.take_of_length_le (by omega)] at hc
      exact congrArg T.b (allIn_yes hc).symm
theorem graphCode (es : List Event) (e : Event) (hB : Bd.B ≤ 2147483648) : Con P0 153 [gT es, eEvent e] (.t (.i .i64 (codeE es e))) [] := by
  refine Con.intro (fn := Try.f153) [.tmp 4] (fun i => if i = 4 then (12, []) else (0, [])) mixed (by kernel_rfl) rfl (by decide) rfl (by rfl) (by kernel_rfl) ?_
  simp -implicitDefEqProofs (maxSteps := 2000000) only [push_cast, Nat.reduceEqDiff, Nat.reduceLT, Nat.reduceLeDiff, Nat.reduceAdd, Nat.reduceMul, Nat.reduceSub, Nat.reduceBEq, ↓reduceIte, reduceCtorEq, gT, eEvent]
  have leaf : ∀ {n : Int}, codeE es e = n → T.i .i64 n = T.i .i64 (codeE es e) := fun h => congrArg (T.i .i64) h.symm
  refine Callx.closed (implEventOk e hB) rfl rfl (.inl rfl) ?_
  simp -implicitDefEqProofs (maxSteps := 2000000) only [push_cast, Nat.reduceEqDiff, Nat.reduceLT, Nat.reduceLeDiff, Nat.reduceAdd, Nat.reduceMul, Nat.reduceSub, Nat.reduceBEq, ↓reduceIte, reduceCtorEq, gT, eEvent]
  refine iteI (fun h1 => leaf (if_pos h1)) (fun h1 => ?_)
  have h1 := Classical.not_not.1 h1
  have e1 : codeE es e = cd2 es e := if_neg (by rw [h1]; simp)
  refine gLook rfl (fun j hj => ?_) (fun hj => ?_)
  · simp -implicitDefEqProofs (maxSteps := 2000000) only [push_cast, Nat.reduceEqDiff, Nat.reduceLT, Nat.reduceLeDiff, Nat.reduceAdd, Nat.reduceMul, Nat.reduceSub, Nat.reduceBEq, ↓reduceIte, reduceCtorEq]
    exact leaf (e1.trans (if_pos (by rw [hj]; rfl)))
  have e2 : codeE es e = cd3 es e := e1.trans (if_neg (by rw [hj]; simp))
  simp -implicitDefEqProofs (maxSteps := 2000000) only [push_cast, Nat.reduceEqDiff, Nat.reduceLT, Nat.reduceLeDiff, Nat.reduceAdd, Nat.reduceMul, Nat.reduceSub, Nat.reduceBEq, ↓reduceIte, reduceCtorEq, gT, eEvent]
  refine Callx.closed (graphAll es e.prev) rfl rfl (.inl rfl) ?_
  simp -implicitDefEqProofs (maxSteps := 2000000) only [push_cast, Nat.reduceEqDiff, Nat.reduceLT, Nat.reduceLeDiff, Nat.reduceAdd, Nat.reduceMul, Nat.reduceSub, Nat.reduceBEq, ↓reduceIte, reduceCtorEq, gT, eEvent]
  refine iteI (fun h3 => leaf (e2.trans (if_pos (by simp_all)))) (fun h3 => ?_)
  refine Callx.closed (graphAll es e.auth) rfl rfl (.inl rfl) ?_
  simp -implicitDefEqProofs (maxSteps := 2000000) only [push_cast, Nat.reduceEqDiff, Nat.reduceLT, Nat.reduceLeDiff, Nat.reduceAdd, Nat.reduceMul, Nat.reduceSub, Nat.reduceBEq, ↓reduceIte, reduceCtorEq, gT, eEvent]
  refine iteI (fun h4 => leaf (e2.trans (if_pos (by simp_all)))) (fun h4 => ?_)
  have e3 : codeE es e = cd4 es e := e2.trans (if_neg (by simp_all))
  intro _
  have hb : ∀ {p q : Prop} [Decidable p] [Decidable q], ¬ decide p = decide q ↔ ¬ (p ↔ q) := by
    intro p q _ _
    by_cases hp : p <;> by_cases hq : q <;> simp [hp, hq]
  have hn : ∀ {p : Prop} [Decidable p], (!decide p) = true ↔ ¬ p := by intro p _; simp
  simp only [hb, hn]
  refine iteI (fun h5 => leaf (e3.trans (if_pos ?_))) (fun h5 => ?_)
  · have h5 : ¬ ((es.length : Int) = 0 ↔ e.typ = sCreate) := h5
    by_cases q1 : (es.length : Int) = 0 <;> by_cases q2 : e.typ = sCreate <;> simp_all
  have h5 : (es.length : Int) = 0 ↔ e.typ = sCreate := Classical.not_not.1 h5
  repeat' first | refine iteI (fun _ => ?_) (fun _ => ?_) | intro _
  all_goals first
    | (exfalso; omega)
    | exact leaf (e3.trans (if_pos (.inr ⟨by omega, .inr (.inl (by assumption))⟩)))
    | exact leaf (e3.trans (if_pos (.inr ⟨by omega, .inr (.inr (by assumption))⟩)))
    | exact leaf ((e3.trans (if_neg (by rintro (⟨h, h'⟩ | ⟨h, h' | h' | h'⟩) <;> first | omega | contradiction | exact h' (h5.1 h) | exact h (h5.2 h')))).trans (if_pos (by assumption)))
    | exact leaf ((e3.trans (if_neg (by rintro (⟨h, h'⟩ | ⟨h, h' | h' | h'⟩) <;> first | omega | contradiction | exact h' (h5.1 h) | exact h (h5.2 h')))).trans (if_neg (by assumption)))
theorem newGraph : Con P0 152 [] (.rf 0 0) [.box (.ag [.ns, .mr 1]), .map 9 3 (.own .leaf) [] [] none] := by
  refine Con.intro (fn := Try.f152) [.tmp 0] (fun _ => (0, [])) mixed (by kernel_rfl) rfl (by decide) rfl (by rfl) (by kernel_rfl) ?_
  simp -implicitDefEqProofs (maxSteps := 2000000) only [push_cast, Nat.reduceEqDiff, Nat.reduceLT, Nat.reduceLeDiff, Nat.reduceAdd, Nat.reduceMul, Nat.reduceSub, Nat.reduceBEq, ↓reduceIte, reduceCtorEq]
  exact Close.of [some 1, some 0] rfl rfl rfl (by simp only [push_cast, Nat.reduceEqDiff, Nat.reduceLT, Nat.reduceLeDiff, Nat.reduceAdd, Nat.reduceMul, Nat.reduceSub, Nat.reduceBEq, ↓reduceIte, reduceCtorEq] <;> rfl) (by simp only [push_cast, Nat.reduceEqDiff, Nat.reduceLT, Nat.reduceLeDiff, Nat.reduceAdd, Nat.reduceMul, Nat.reduceSub, Nat.reduceBEq, ↓reduceIte, reduceCtorEq] <;> rfl)
abbrev gmO (es : List Event) : Ob := .map 9 3 (.own .leaf) (gmK es) (gmV es) none
theorem graphPut (es : List Event) (e : Event) (hB : Bd.B ≤ 2147483648) (hl : es.length + 1 < Bd.B) : ConM P0 154 [.rf 0 0, .t (eEvent e)] [.box (.ag [.sr 1, .mr 2]), .arr 87 10 .clo (es.map eEvent), gmO es] (.tp [])
    [.box (.ag [.sr 3, .mr 2]), .dead, gmO (es ++ [e]), .arr 87 10 .clo ((es ++ [e]).map eEvent)] := by
  refine ConM.intro (fn := Try.f154) [] (fun i => if i = 4 then (11, [(false, 0), (false, 1), (false, 2), (false, 3), (false, 4), (false, 5), (true, 6), (true, 7), (false, 8), (false, 9), (true, 10)]) else if i = 3 then (11, []) else if i = 1 then (12, []) else (0, [])) mixed (by kernel_rfl) rfl (by decide) rfl (by rfl) (by kernel_rfl) ?_
  simp -implicitDefEqProofs (maxSteps := 2000000) only [push_cast, Nat.reduceEqDiff, Nat.reduceLT, Nat.reduceLeDiff, Nat.reduceAdd, Nat.reduceMul, Nat.reduceSub, Nat.reduceBEq, ↓reduceIte, reduceCtorEq, eEvent]
  refine gLook rfl (fun j hj => ?_) (fun hj => ?_)
  · simp -implicitDefEqProofs (maxSteps := 2000000) only [push_cast, Nat.reduceEqDiff, Nat.reduceLT, Nat.reduceLeDiff, Nat.reduceAdd, Nat.reduceMul, Nat.reduceSub, Nat.reduceBEq, ↓reduceIte, reduceCtorEq, eEvent]
    have := Bd.lo
    have hg : gm (es ++ [e]) = gm es := by
      rw [gm_snoc]
      unfold gmStep
      rw [if_pos]
      exact Classical.byContradiction fun hh => by rw [← aget_none, gm_get, hj] at hh; cases hh
    refine ⟨rfl, by omega, rfl, by omega, hl, ?_⟩
    refine Close.of [some 0, some 1, some 2, some 5] rfl rfl rfl rfl ?_
    simp only [push_cast, Nat.reduceEqDiff, Nat.reduceLT, Nat.reduceLeDiff, Nat.reduceAdd, Nat.reduceMul, Nat.reduceSub, Nat.reduceBEq, ↓reduceIte, reduceCtorEq, gmO, gmK, gmV, hg, List.map_append, eEvent] <;> rfl
  · simp -implicitDefEqProofs (maxSteps := 2000000) only [push_cast, Nat.reduceEqDiff, Nat.reduceLT, Nat.reduceLeDiff, Nat.reduceAdd, Nat.reduceMul, Nat.reduceSub, Nat.reduceBEq, ↓reduceIte, reduceCtorEq, eEvent]
    intro _
    have := Bd.lo
    obtain ⟨hu1, hu2⟩ := upd_assoc (ek := T.s) (ev := fun n : Nat => T.i .i64 (n : Int)) s_inj (k := e.id) (v := es.length) (l := gm es)
    have hk : e.id ∉ (gm es).map (·.1) := by rw [← aget_none, gm_get]; exact hj
    have hg : gm (es ++ [e]) = aset e.id es.length (gm es) := by
      rw [gm_snoc, aset_new hk]
      unfold gmStep
      rw [if_neg hk]
    have hlen := gm_len es
    have hu1 : updK (gmK es) (T.s e.id) = gmK (es ++ [e]) := by unfold gmK; rw [hu1, hg]
    have hu2 : updV (gmK es) (gmV es) (T.s e.id) (T.i .i64 (es.length : Int)) = gmV (es ++ [e]) := by unfold gmK gmV; rw [hu2, hg]
    rw [hu1, hu2]
    refine ⟨fun y hy => ?_, fun _ => ?_, rfl, by omega, rfl, by omega, hl, ?_⟩
    · unfold gmK at hy
      obtain ⟨p, _, rfl⟩ := List.mem_map.1 hy
      trivial
    · unfold gmK; rw [List.length_map]; omega
    refine Close.of [some 0, some 1, some 2, some 5] rfl rfl rfl rfl ?_
    simp only [push_cast, Nat.reduceEqDiff, Nat.reduceLT, Nat.reduceLeDiff, Nat.reduceAdd, Nat.reduceMul, Nat.reduceSub, Nat.reduceBEq, ↓reduceIte, reduceCtorEq, gmO, List.map_append, eEvent] <;> rfl
theorem valid_snoc {es : List Event} {i : Nat} {e : Event} (he : es[i]? = some e) (h : Valid es) : codeE (es.take i) e = 0 := h i e he
theorem graphOf (es : List Event) (hB : Bd.B ≤ 2147483648) : Con P0 104 [eRoom ⟨es⟩] (.t (if roomB es = true then gT es else .np)) [] := by
  refine Con.intro (fn := Try.f104) [.tmp 2] (fun _ => (0, [])) mixed (by kernel_rfl) rfl (by decide) rfl (by rfl) (by kernel_rfl) ?_
  simp -implicitDefEqProofs (maxSteps := 2000000) only [push_cast, Nat.reduceEqDiff, Nat.reduceLT, Nat.reduceLeDiff, Nat.reduceAdd, Nat.reduceMul, Nat.reduceSub, Nat.reduceBEq, ↓reduceIte, reduceCtorEq, eRoom]
  refine Callx.closed newGraph rfl rfl (.inl rfl) ?_
  simp -implicitDefEqProofs (maxSteps := 2000000) only [push_cast, Nat.reduceEqDiff, Nat.reduceLT, Nat.reduceLeDiff, Nat.reduceAdd, Nat.reduceMul, Nat.reduceSub, Nat.reduceBEq, ↓reduceIte, reduceCtorEq, eRoom]
  intro hlen
  refine WL.loop (ι := Nat) (D := (fun _ => (0, []))) (fun i => i ≤ es.length ∧ ∀ (j : Nat) (e : Event), j < i → es[j]? = some e → codeE (es.take j) e = 0) (fun i => ⟨23, [(3, .rf 0 0), (8, .t (eEventS es)), (9, .t (.i .i64 es.length)), (10, .t (.i .i64 i))], [.box (.ag [.sr 1, .mr 2]), .arr 87 10 .clo ((es.take i).map eEvent), gmO (es.take i)]⟩) (fun i => es.length - i) mixed (by kernel_rfl) 0 ⟨by omega, fun j e hj => absurd hj (by omega)⟩ (Keep.wk (ids := [some 1, none, some 2]) ?_) ?_
  · simp only [push_cast, Nat.reduceEqDiff, Nat.reduceLT, Nat.reduceLeDiff, Nat.reduceAdd, Nat.reduceMul, Nat.reduceSub, Nat.reduceBEq, ↓reduceIte, reduceCtorEq, gmK, gmV, List.take_zero, List.map_nil, gm, gmFrom, gmO] <;> rfl
  · rintro i ⟨hi, hc⟩
    simp -implicitDefEqProofs (maxSteps := 2000000) only [push_cast, Nat.reduceEqDiff, Nat.reduceLT, Nat.reduceLeDiff, Nat.reduceAdd, Nat.reduceMul, Nat.reduceSub, Nat.reduceBEq, ↓reduceIte, reduceCtorEq, eEvent_len, eEvent_isAg, eEvent_ones, eEvent_one]
    have := Bd.hi
    refine iteI (fun h => ?_) (fun h => ?_)
    · refine ⟨by omega, fun a ha => ⟨rfl, ?_⟩⟩
      rw [Int.toNat_natCast] at ha
      refine Callx.closed (graphCode (es.take i) a hB) rfl rfl (.inr ⟨rfl, rfl⟩) ?_
      simp -implicitDefEqProofs (maxSteps := 2000000) only [push_cast, Nat.reduceEqDiff, Nat.reduceLT, Nat.reduceLeDiff, Nat.reduceAdd, Nat.reduceMul, Nat.reduceSub, Nat.reduceBEq, ↓reduceIte, reduceCtorEq, eEvent_len, eEvent_isAg, eEvent_ones, eEvent_one]
      refine iteI (fun h1 => ?_) (fun h1 => ?_)
      · have : roomB es = false := @decide_eq_false _ (Classical.propDecidable _) fun hv => h1 (valid_snoc ha hv)
        rw [this]; rfl
      · have h1 := Classical.not_not.1 h1
        have hl : (es.take i).length = i := by rw [List.length_take]; omega
        have hts : es.take (i + 1) = es.take i ++ [a] := by rw [List.take_add_one, ha]; rfl
        refine Callx.hand [0, 1, 2] (graphPut (es.take i) a hB (by omega)) (by decide) (by simp only [push_cast, Nat.reduceEqDiff, Nat.reduceLT, Nat.reduceLeDiff, Nat.reduceAdd, Nat.reduceMul, Nat.reduceSub, Nat.reduceBEq, ↓reduceIte, reduceCtorEq]) rfl rfl (by simp only [push_cast, Nat.reduceEqDiff, Nat.reduceLT, Nat.reduceLeDiff, Nat.reduceAdd, Nat.reduceMul, Nat.reduceSub, Nat.reduceBEq, ↓reduceIte, reduceCtorEq] <;> rfl) rfl (.inr ⟨rfl, by simp only [push_cast, Nat.reduceEqDiff, Nat.reduceLT, Nat.reduceLeDiff, Nat.reduceAdd, Nat.reduceMul, Nat.reduceSub, Nat.reduceBEq, ↓reduceIte, reduceCtorEq] <;> rfl⟩) ?_
        simp -implicitDefEqProofs (maxSteps := 2000000) only [push_cast, Nat.reduceEqDiff, Nat.reduceLT, Nat.reduceLeDiff, Nat.reduceAdd, Nat.reduceMul, Nat.reduceSub, Nat.reduceBEq, ↓reduceIte, reduceCtorEq]
        refine ⟨by unfold inI64; omega, i + 1, ⟨by omega, fun j e hj hje => ?_⟩, by omega, Keep.wk (ids := [some 0, some 4, some 2]) ?_⟩
        · rcases Nat.lt_or_ge j i with h' | h'
          · exact hc j e h' hje
          · have : j = i := by omega
            subst this
            rw [ha] at hje; cases hje; exact h1
        · simp only [push_cast, Nat.reduceEqDiff, Nat.reduceLT, Nat.reduceLeDiff, Nat.reduceAdd, Nat.reduceMul, Nat.reduceSub, Nat.reduceBEq, ↓reduceIte, reduceCtorEq, hts] <;> rfl
    · rw [List.take_of_length_le (by omega)] at *
      have : roomB es = true := @decide_eq_true _ (Classical.propDecidable _) fun i e he => hc i e (by have := (List.getElem?_eq_some_iff.1 he).1; omega) he
      rw [this]; rfl
end Go.Proofs.Ythhgcklidfilfaa.BX
