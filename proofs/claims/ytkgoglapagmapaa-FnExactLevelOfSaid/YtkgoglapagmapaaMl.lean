/-
  The main line.
-/
import Derived.Test.YtkgoglapagmapaaCh
namespace Go.Proofs.Ytkgoglapagmapaa.BX
set_option linter.unusedSectionVars false
set_option linter.unusedSimpArgs false
set_option linter.unusedVariables false
open Go Go.RowKit
set_option maxRecDepth 20000
set_option maxHeartbeats 400000
/-- the first of these that is of the kind -/
def fromL (es : List Event) (p : Event → Bool) : List (List UInt8) → Option Nat
  | [] => none
  | x :: r => match posOf x es with
    | some j => match es[j]? with
      | some e => if p e = true then some j else fromL es p r
      | none => fromL es p r
    | none => fromL es p r
theorem fromL_some {es : List Event} {p : Event → Bool} {j : Nat} : ∀ {l : List (List UInt8)}, fromL es p l = some j → ∃ x ∈ l, posOf x es = some j ∧ ∃ e, es[j]? = some e ∧ p e = true
  | [], h => by cases h
  | x :: r, h => by
    have go : fromL es p r = some j → ∃ y ∈ x :: r, posOf y es = some j ∧ ∃ e, es[j]? = some e ∧ p e = true := fun h => by
      obtain ⟨y, h1, h2⟩ := fromL_some h
      exact ⟨y, by simp [h1], h2⟩
    unfold fromL at h
    split at h
    · rename_i i hi
      split at h
      · rename_i e he
        split at h
        · rename_i hp
          cases h
          exact ⟨x, by simp, hi, e, he, hp⟩
        · exact go h
      · exact go h
    · exact go h
theorem fromL_drop {es : List Event} {p : Event → Bool} {l : List (List UInt8)} {i j : Nat} {x : List UInt8} {e : Event} (hx : l[i]? = some x) (hp : posOf x es = some j) (he : es[j]? = some e) : fromL es p (l.drop i) = if p e = true then some j else fromL es p (l.drop (i + 1)) := by
  obtain ⟨hi, rfl⟩ := List.getElem?_eq_some_iff.1 hx
  rw [List.drop_eq_getElem_cons hi, fromL, hp]
  dsimp only
  rw [he]
theorem fromL_congr {es : List Event} {p q : Event → Bool} : ∀ {l : List (List UInt8)}, (∀ e ∈ es, p e = q e) → fromL es p l = fromL es q l
  | [], _ => rfl
  | x :: r, h => by
    have ih := fromL_congr (l := r) h
    unfold fromL
    split
    · split
      · rename_i e he
        rw [h e (List.mem_of_getElem? he), ih]
      · exact ih
    · exact ih

def isPow (e : Event) : Bool := decide (e.typ = sPower)
/-- the power event that an event rests on -/
def pwOf (es : List Event) (i : Nat) : Option Nat := match es[i]? with
  | some e => fromL es isPow e.auth
  | none => none
/-- the line from an event on -/
def lineAt (es : List Event) (i : Nat) : List (List UInt8) := match es[i]? with
  | some e => e.id :: (match pwOf es i with
    | some j => if _h : j < i then lineAt es j else []
    | none => [])
  | none => []
termination_by i
decreasing_by exact _h
theorem pwOf_lt {es : List Event} (hv : Valid es) {i j : Nat} (h : pwOf es i = some j) : j < i := by
  unfold pwOf at h
  split at h
  · rename_i e he
    obtain ⟨x, h1, h2, _⟩ := fromL_some h
    obtain ⟨k, a, h3, _, _, h4⟩ := pos_ref ((hv.good he).auth x h1)
    rw [h2] at h4; cases h4; exact h3
  · cases h
def lineO (es : List Event) : Option Nat → List (List UInt8)
  | some i => lineAt es i
  | none => []
theorem lineAt_eq {es : List Event} (hv : Valid es) {i : Nat} {e : Event} (he : es[i]? = some e) : lineAt es i = e.id :: lineO es (pwOf es i) := by
  rw [lineAt, he]
  dsimp only
  cases h : pwOf es i with
  | none => rfl
  | some j => simp only [pwOf_lt hv h, dite_true, lineO]
theorem lineAt_len {es : List Event} (hv : Valid es) : ∀ (i : Nat), (lineAt es i).length ≤ i + 1 := by
  intro i
  induction i using Nat.strongRecOn with
  | ind i ih =>
    rw [lineAt]
    split
    · cases h : pwOf es i with
      | none => simp
      | some j =>
        have hj := pwOf_lt hv h
        have := ih j hj
        simp only [hj, dite_true, List.length_cons]
        omega
    · simp
variable [Bd]
theorem l6Event (es : List Event) (id : List UInt8) (k : Nat) (e : Event) (hp : posOf id es = some k) (he : es[k]? = some e) : Con P0 111 [eRoom ⟨es⟩, .s id] (.t (eEvent e)) [] := by
  refine Con.intro (fn := Try.f111) [.cell 4 30] (fun i => if i = 1 then (7, []) else (0, [])) mixed (by kernel_rfl) rfl (by decide) rfl (by rfl) (by kernel_rfl) ?_
  simp -implicitDefEqProofs (maxSteps := 2000000) only [push_cast, Nat.reduceEqDiff, Nat.reduceLT, Nat.reduceLeDiff, Nat.reduceAdd, Nat.reduceMul, Nat.reduceSub, Nat.reduceBEq, ↓reduceIte, reduceCtorEq, eRoom]
  have hat : atI es id = k := by unfold atI; rw [hp]
  have hkl := (List.getElem?_eq_some_iff.1 he).1
  refine CallV.t (l2At es id) (.inl rfl) ?_
  rw [hat]
  simp -implicitDefEqProofs (maxSteps := 2000000) only [push_cast, Nat.reduceEqDiff, Nat.reduceLT, Nat.reduceLeDiff, Nat.reduceAdd, Nat.reduceMul, Nat.reduceSub, Nat.reduceBEq, ↓reduceIte, reduceCtorEq, eRoom]
  refine ⟨by omega, fun e' he' => ?_⟩
  rw [Int.toNat_natCast, he] at he'
  cases he'
  simp -implicitDefEqProofs (maxSteps := 2000000) only [push_cast, Nat.reduceEqDiff, Nat.reduceLT, Nat.reduceLeDiff, Nat.reduceAdd, Nat.reduceMul, Nat.reduceSub, Nat.reduceBEq, ↓reduceIte, reduceCtorEq, eRoom, eEvent]
/-- of this kind of state -/
def ofKind (typ key : List UInt8) (e : Event) : Bool := e.isState && decide (e.typ = typ) && decide (e.key = key)
/-- its id -/
def idAt (es : List Event) : Option Nat → List UInt8
  | some i => match es[i]? with
    | some e => e.id
    | none => []
  | none => []
theorem l6FromAuth (es : List Event) (e : Event) (typ key : List UInt8) (hr : ∀ x ∈ e.auth, There es x) : Con P0 161 [eRoom ⟨es⟩, eEvent e, .s typ, .s key] (.t (.s (idAt es (fromL es (ofKind typ key) e.auth)))) [] := by
  refine Con.intro (fn := Try.f161) [.tmp 8] (fun i => if i = 4 then (8, [(false, 0), (false, 1), (false, 2), (false, 3), (false, 4), (false, 5), (false, 6), (true, 7)]) else (0, [])) mixed (by kernel_rfl) rfl (by decide) rfl (by rfl) (by kernel_rfl) ?_
  simp -implicitDefEqProofs (maxSteps := 2000000) only [push_cast, Nat.reduceEqDiff, Nat.reduceLT, Nat.reduceLeDiff, Nat.reduceAdd, Nat.reduceMul, Nat.reduceSub, Nat.reduceBEq, ↓reduceIte, reduceCtorEq, eRoom]
  refine WL.loop (ι := Nat) (D := (fun i => if i = 4 then (8, [(false, 0), (false, 1), (false, 2), (false, 3), (false, 4), (false, 5), (false, 6), (true, 7)]) else (0, []))) (fun i => i ≤ e.auth.length ∧ fromL es (ofKind typ key) (e.auth.drop i) = fromL es (ofKind typ key) e.auth) (fun i => ⟨41, [(2, .t (.s typ)), (3, .t (.s key)), (4, .rf 0 0), (5, .rf 1 0), (9, .t (.i .i64 i))], [.box (.t (eRoom ⟨es⟩)), .box (.t (eEvent e))]⟩) (fun i => e.auth.length - i) mixed (by kernel_rfl) 0 ⟨by omega, by simp⟩ (Keep.wk (ids := [some 0, some 1]) ?_) ?_
  · simp only [push_cast, Nat.reduceEqDiff, Nat.reduceLT, Nat.reduceLeDiff, Nat.reduceAdd, Nat.reduceMul, Nat.reduceSub, Nat.reduceBEq, ↓reduceIte, reduceCtorEq, eRoom] <;> rfl
  · rintro i ⟨hi, hf⟩
    simp -implicitDefEqProofs (maxSteps := 2000000) only [push_cast, Nat.reduceEqDiff, Nat.reduceLT, Nat.reduceLeDiff, Nat.reduceAdd, Nat.reduceMul, Nat.reduceSub, Nat.reduceBEq, ↓reduceIte, reduceCtorEq, eRoom, eEvent]
    intro _
    have hhi := Bd.hi
    refine iteI (fun h => ⟨by omega, fun x hx => ?_⟩) (fun h => ?_)
    · rw [Int.toNat_natCast] at hx
      obtain ⟨j, a, hja, hid, hp⟩ := there_at (hr x (List.mem_of_getElem? hx))
      refine CallV.t (l6Event es x j a hp hja) (.inl rfl) ?_
      simp -implicitDefEqProofs (maxSteps := 2000000) only [push_cast, Nat.reduceEqDiff, Nat.reduceLT, Nat.reduceLeDiff, Nat.reduceAdd, Nat.reduceMul, Nat.reduceSub, Nat.reduceBEq, ↓reduceIte, reduceCtorEq, eRoom, eEvent]
      have hd := fromL_drop (p := ofKind typ key) hx hp hja
      rw [hf] at hd
      have no : ¬ ofKind typ key a = true → i + 1 ≤ e.auth.length ∧ fromL es (ofKind typ key) (e.auth.drop (i + 1)) = fromL es (ofKind typ key) e.auth := fun h => by
        rw [if_neg h] at hd
        exact ⟨by omega, hd.symm⟩
      have hb : inI64 ((i : Int) + 1) := by unfold inI64; omega
      refine iteI (fun h1 => iteI (fun h2 => iteI (fun h3 => ?_) (fun h3 => ?_)) (fun h2 => ?_)) (fun h1 => ?_)
      · have hk : ofKind typ key a = true := by simp [ofKind, h1, h2, h3]
        rw [if_pos hk] at hd
        rw [hd]
        simp only [idAt, hja]
      · refine ⟨hb, i + 1, no (by simp [ofKind, h3]), by omega, Keep.wk (ids := [some 0, some 1]) ?_⟩
        simp only [push_cast, Nat.reduceEqDiff, Nat.reduceLT, Nat.reduceLeDiff, Nat.reduceAdd, Nat.reduceMul, Nat.reduceSub, Nat.reduceBEq, ↓reduceIte, reduceCtorEq, eRoom, eEvent] <;> rfl
      · refine ⟨hb, i + 1, no (by simp [ofKind, h2]), by omega, Keep.wk (ids := [some 0, some 1]) ?_⟩
        simp only [push_cast, Nat.reduceEqDiff, Nat.reduceLT, Nat.reduceLeDiff, Nat.reduceAdd, Nat.reduceMul, Nat.reduceSub, Nat.reduceBEq, ↓reduceIte, reduceCtorEq, eRoom, eEvent] <;> rfl
      · refine ⟨hb, i + 1, no (by simp [ofKind, h1]), by omega, Keep.wk (ids := [some 0, some 1]) ?_⟩
        simp only [push_cast, Nat.reduceEqDiff, Nat.reduceLT, Nat.reduceLeDiff, Nat.reduceAdd, Nat.reduceMul, Nat.reduceSub, Nat.reduceBEq, ↓reduceIte, reduceCtorEq, eRoom, eEvent] <;> rfl
    · rw [List.drop_of_length_le (by omega)] at hf
      rw [← hf]
      rfl
theorem evOk_id {e : Event} (h : evOk e = 0) : e.id ≠ [] := by
  unfold evOk at h
  split at h
  · cases h
  rename_i h1
  have h1 := (Classical.not_not.1 h1).1
  rintro hn
  rw [hn] at h1
  simp [isW] at h1
theorem evOk_content {e : Event} (h : evOk e = 0) : contentB e = true := by
  unfold evOk at h
  split at h
  · cases h
  unfold ev2 at h
  split at h
  · cases h
  unfold ev3 at h
  split at h
  · cases h
  unfold ev4 at h
  split at h
  · cases h
  unfold ev5 at h
  split at h
  · cases h
  rename_i h1
  exact Classical.not_not.1 h1
/-- a power event is one of state without a key -/
theorem pow_kind {es : List Event} (hv : Valid es) : ∀ e ∈ es, ofKind sPower [] e = isPow e := by
  intro e he
  obtain ⟨i, hi, rfl⟩ := List.getElem_of_mem he
  have hc := evOk_content (hv.good (List.getElem?_eq_getElem hi)).ok
  generalize es[i] = e at *
  by_cases hp : e.typ = sPower
  · unfold contentB at hc
    rw [hp, if_neg (by decide), if_neg (by decide), if_neg (by decide), if_pos rfl] at hc
    simp only [Bool.and_eq_true, decide_eq_true_eq] at hc
    simp [ofKind, isPow, hp, hc.1.1.1, hc.1.1.2]
  · simp [ofKind, isPow, hp]
theorem l6Power (es : List Event) (hv : Valid es) (i : Nat) (e : Event) (he : es[i]? = some e) : Con P0 139 [eRoom ⟨es⟩, eEvent e] (.t (.s (idAt es (pwOf es i)))) [] := by
  have hpw : pwOf es i = fromL es (ofKind sPower []) e.auth := by
    unfold pwOf; rw [he]; exact (fromL_congr (pow_kind hv)).symm
  rw [hpw]
  refine Con.intro (fn := Try.f139) [.tmp 4] (fun _ => (0, [])) mixed (by kernel_rfl) rfl (by decide) rfl (by rfl) (by kernel_rfl) ?_
  simp -implicitDefEqProofs (maxSteps := 2000000) only [push_cast, Nat.reduceEqDiff, Nat.reduceLT, Nat.reduceLeDiff, Nat.reduceAdd, Nat.reduceMul, Nat.reduceSub, Nat.reduceBEq, ↓reduceIte, reduceCtorEq, eRoom, eEvent]
  refine Callx.closed (l6FromAuth es e sPower [] fun x hx => ?_) rfl rfl (.inl rfl) ?_
  · obtain ⟨_, _, _, _, _, h⟩ := pos_ref ((hv.good he).auth x hx)
    unfold There; rw [h]; rfl
  simp -implicitDefEqProofs (maxSteps := 2000000) only [push_cast, Nat.reduceEqDiff, Nat.reduceLT, Nat.reduceLeDiff, Nat.reduceAdd, Nat.reduceMul, Nat.reduceSub, Nat.reduceBEq, ↓reduceIte, reduceCtorEq, eRoom, eEvent]
theorem l6Mainline (es : List Event) (hv : Valid es) (o : Option Nat) (ho : ∀ i, o = some i → i < es.length) (hB : Bd.B ≤ 2147483648) : Con P0 112 [eRoom ⟨es⟩, .s (idAt es o)] (.sr 0) [.arr 9 1 (.own .leaf) ((lineO es o).map T.s)] := by
  refine Con.intro (fn := Try.f112) [.tmp 4] (fun i => if i = 4 then (5, []) else (0, [])) mixed (by kernel_rfl) rfl (by decide) rfl (by rfl) (by kernel_rfl) ?_
  simp -implicitDefEqProofs (maxSteps := 2000000) only [push_cast, Nat.reduceEqDiff, Nat.reduceLT, Nat.reduceLeDiff, Nat.reduceAdd, Nat.reduceMul, Nat.reduceSub, Nat.reduceBEq, ↓reduceIte, reduceCtorEq, eRoom]
  have := Bd.lo
  refine ⟨rfl, by omega, ?_⟩
  refine WL.loop (ι := Option Nat × List (List UInt8)) (D := (fun i => if i = 4 then (5, []) else (0, []))) (fun i => (∀ j, i.1 = some j → j < es.length) ∧ i.2 ++ lineO es i.1 = lineO es o) (fun i => ⟨19, [(1, .t (.s (idAt es i.1))), (2, .rf 0 0), (5, .sr 1)], [.box (.t (eRoom ⟨es⟩)), .arr 9 1 (.own .leaf) (i.2.map T.s)]⟩) (fun i => match i.1 with | some j => j + 1 | none => 0) mixed (by kernel_rfl) (o, []) ⟨ho, by simp⟩ (Keep.wk (ids := [some 0, some 1]) ?_) ?_
  · simp only [push_cast, Nat.reduceEqDiff, Nat.reduceLT, Nat.reduceLeDiff, Nat.reduceAdd, Nat.reduceMul, Nat.reduceSub, Nat.reduceBEq, ↓reduceIte, reduceCtorEq, eRoom] <;> rfl
  · rintro ⟨i, out⟩ ⟨hi, hf⟩
    simp only at hi hf
    simp -implicitDefEqProofs (maxSteps := 2000000) only [push_cast, Nat.reduceEqDiff, Nat.reduceLT, Nat.reduceLeDiff, Nat.reduceAdd, Nat.reduceMul, Nat.reduceSub, Nat.reduceBEq, ↓reduceIte, reduceCtorEq, eRoom]
    have hol : out.length ≤ 300 := by
      have h1 : (lineO es o).length ≤ es.length := by
        cases o with
        | none => simp [lineO]
        | some k =>
          have := lineAt_len hv k
          have := ho k rfl
          simp only [lineO]; omega
      have := hv.len
      rw [← hf, List.length_append] at h1
      omega
    cases i with
    | none =>
      rw [if_neg (by simp [idAt])]
      rw [lineO, List.append_nil] at hf
      subst hf
      exact Close.of [some 1] rfl rfl rfl rfl (by simp only [push_cast, Nat.reduceEqDiff, Nat.reduceLT, Nat.reduceLeDiff, Nat.reduceAdd, Nat.reduceMul, Nat.reduceSub, Nat.reduceBEq, ↓reduceIte, reduceCtorEq] <;> rfl)
    | some j =>
      have hjl := hi j rfl
      obtain ⟨e, he⟩ : ∃ e, es[j]? = some e := ⟨_, List.getElem?_eq_getElem hjl⟩
      have hid : idAt es (some j) = e.id := by simp only [idAt, he]
      rw [hid, if_pos (evOk_id (hv.good he).ok)]
      refine ⟨rfl, by omega, rfl, by omega, by omega, ?_⟩
      refine CallV.t (l6Event es e.id j e (hv.pos he) he) (.inl rfl) ?_
      simp -implicitDefEqProofs (maxSteps := 2000000) only [push_cast, Nat.reduceEqDiff, Nat.reduceLT, Nat.reduceLeDiff, Nat.reduceAdd, Nat.reduceMul, Nat.reduceSub, Nat.reduceBEq, ↓reduceIte, reduceCtorEq, eRoom]
      refine CallV.t (l6Power es hv j e he) (.inl rfl) ?_
      simp -implicitDefEqProofs (maxSteps := 2000000) only [push_cast, Nat.reduceEqDiff, Nat.reduceLT, Nat.reduceLeDiff, Nat.reduceAdd, Nat.reduceMul, Nat.reduceSub, Nat.reduceBEq, ↓reduceIte, reduceCtorEq, eRoom]
      refine ⟨(pwOf es j, out ++ [e.id]), ⟨fun k hk => ?_, ?_⟩, ?_, Keep.wk (ids := [some 0, some 3]) ?_⟩
      · have := pwOf_lt hv hk; omega
      · simp only
        rw [lineO, lineAt_eq hv he] at hf
        rw [← hf]; simp
      · simp only
        split
        · rename_i k hk
          have := pwOf_lt hv hk; omega
        · omega
      · simp only [push_cast, Nat.reduceEqDiff, Nat.reduceLT, Nat.reduceLeDiff, Nat.reduceAdd, Nat.reduceMul, Nat.reduceSub, Nat.reduceBEq, ↓reduceIte, reduceCtorEq, eRoom, List.map_append] <;> rfl
def mainOk (es : List Event) (id : List UInt8) : Bool := decide (id = []) || (match posOf id es with
  | some i => match es[i]? with
    | some e => isPow e
    | none => false
  | none => false)
noncomputable def mainB (es : List Event) (id : List UInt8) : Bool := roomB es && mainOk es id
noncomputable def mainL (es : List Event) (id : List UInt8) : List (List UInt8) := if mainB es id = true then lineO es (posOf id es) else []
theorem pos_nil {es : List Event} (hv : Valid es) : posOf [] es = none := by
  rw [posOf_none]
  intro e he
  obtain ⟨i, hi, rfl⟩ := List.getElem_of_mem he
  exact evOk_id (hv.good (List.getElem?_eq_getElem hi)).ok
theorem idAt_pos {es : List Event} {id : List UInt8} {i : Nat} (h : posOf id es = some i) : idAt es (posOf id es) = id := by
  obtain ⟨e, h1, h2, _⟩ := posOf_some.1 h
  rw [h]; simp only [idAt, h1]; exact h2
theorem specMainline (es : List Event) (id : List UInt8) (hB : Bd.B ≤ 2147483648) : Con P0 51 [eRoom ⟨es⟩, .s id] (.tp [.sr 0, .t (.b (mainB es id))]) [.arr 9 1 (.own .leaf) ((mainL es id).map T.s)] := by
  refine Con.intro (fn := Try.f51) [.tmp 4, .tmp 5] (fun _ => (0, [])) mixed (by kernel_rfl) rfl (by decide) rfl (by rfl) (by kernel_rfl) ?_
  simp -implicitDefEqProofs (maxSteps := 2000000) only [push_cast, Nat.reduceEqDiff, Nat.reduceLT, Nat.reduceLeDiff, Nat.reduceAdd, Nat.reduceMul, Nat.reduceSub, Nat.reduceBEq, ↓reduceIte, reduceCtorEq, eRoom]
  have := Bd.lo
  refine Callx.closed (specRoomOk es) rfl rfl (.inr ⟨rfl, rfl⟩) ?_
  simp -implicitDefEqProofs (maxSteps := 2000000) only [push_cast, Nat.reduceEqDiff, Nat.reduceLT, Nat.reduceLeDiff, Nat.reduceAdd, Nat.reduceMul, Nat.reduceSub, Nat.reduceBEq, ↓reduceIte, reduceCtorEq, eRoom]
  refine iteI (fun hr => ?_) (fun hr => ?_)
  · have h1 : mainB es id = false := by unfold mainB; rw [show roomB es = false by simpa using hr]; rfl
    have h2 : mainL es id = [] := if_neg (by rw [h1]; simp)
    rw [h1, h2]
    refine ⟨rfl, by omega, ?_⟩
    exact Close.of [some 1] rfl rfl rfl (by simp only [push_cast, Nat.reduceEqDiff, Nat.reduceLT, Nat.reduceLeDiff, Nat.reduceAdd, Nat.reduceMul, Nat.reduceSub, Nat.reduceBEq, ↓reduceIte, reduceCtorEq] <;> rfl) (by simp only [push_cast, Nat.reduceEqDiff, Nat.reduceLT, Nat.reduceLeDiff, Nat.reduceAdd, Nat.reduceMul, Nat.reduceSub, Nat.reduceBEq, ↓reduceIte, reduceCtorEq] <;> rfl)
  have hr : roomB es = true := by simpa using hr
  have hv := room_valid hr
  have hfld : oneFld P0 30 2 = some 2 := by kernel_rfl
  have yes : mainOk es id = true → mainB es id = true ∧ mainL es id = lineO es (posOf id es) := fun h => by
    have h1 : mainB es id = true := by unfold mainB; rw [hr, h]; rfl
    exact ⟨h1, if_pos h1⟩
  have no : mainOk es id = false → mainB es id = false ∧ mainL es id = [] := fun h => by
    have h1 : mainB es id = false := by unfold mainB; rw [h, Bool.and_false]
    exact ⟨h1, if_neg (by rw [h1]; simp)⟩
  refine iteI (fun h => ?_) (fun h => ?_)
  · refine Callx.closed (l2At es id) rfl rfl (.inl rfl) ?_
    cases hp : posOf id es with
    | none =>
      have hat : atI es id = -1 := by unfold atI; rw [hp]
      rw [hat]
      simp -implicitDefEqProofs (maxSteps := 2000000) only [push_cast, Nat.reduceEqDiff, Nat.reduceLT, Nat.reduceLeDiff, Nat.reduceAdd, Nat.reduceMul, Nat.reduceSub, Nat.reduceBEq, ↓reduceIte, reduceCtorEq, eRoom]
      obtain ⟨h1, h2⟩ := no (by unfold mainOk; rw [hp]; simpa using h)
      rw [h1, h2]
      refine ⟨rfl, by omega, ?_⟩
      exact Close.of [some 1] rfl rfl rfl (by simp only [push_cast, Nat.reduceEqDiff, Nat.reduceLT, Nat.reduceLeDiff, Nat.reduceAdd, Nat.reduceMul, Nat.reduceSub, Nat.reduceBEq, ↓reduceIte, reduceCtorEq] <;> rfl) (by simp only [push_cast, Nat.reduceEqDiff, Nat.reduceLT, Nat.reduceLeDiff, Nat.reduceAdd, Nat.reduceMul, Nat.reduceSub, Nat.reduceBEq, ↓reduceIte, reduceCtorEq] <;> rfl)
    | some i =>
      have hat : atI es id = i := by unfold atI; rw [hp]
      obtain ⟨e, he, hid, _⟩ := posOf_some.1 hp
      have hil := (List.getElem?_eq_some_iff.1 he).1
      rw [hat]
      simp -implicitDefEqProofs (maxSteps := 2000000) only [push_cast, Nat.reduceEqDiff, Nat.reduceLT, Nat.reduceLeDiff, Nat.reduceAdd, Nat.reduceMul, Nat.reduceSub, Nat.reduceBEq, ↓reduceIte, reduceCtorEq, eRoom]
      rw [if_neg (by omega)]
      refine Callx.closed (l6Event es id i e hp he) rfl rfl (.inl rfl) ?_
      simp -implicitDefEqProofs (maxSteps := 2000000) only [push_cast, Nat.reduceEqDiff, Nat.reduceLT, Nat.reduceLeDiff, Nat.reduceAdd, Nat.reduceMul, Nat.reduceSub, Nat.reduceBEq, ↓reduceIte, reduceCtorEq, eRoom, eEvent, hfld]
      refine iteI (fun h1 => ?_) (fun h1 => ?_)
      · obtain ⟨h1, h2⟩ := no (by unfold mainOk; rw [hp]; simp only [he]; simp [h, isPow, sPower, h1])
        rw [h1, h2]
        refine ⟨rfl, by omega, ?_⟩
        exact Close.of [some 1] rfl rfl rfl (by simp only [push_cast, Nat.reduceEqDiff, Nat.reduceLT, Nat.reduceLeDiff, Nat.reduceAdd, Nat.reduceMul, Nat.reduceSub, Nat.reduceBEq, ↓reduceIte, reduceCtorEq] <;> rfl) (by simp only [push_cast, Nat.reduceEqDiff, Nat.reduceLT, Nat.reduceLeDiff, Nat.reduceAdd, Nat.reduceMul, Nat.reduceSub, Nat.reduceBEq, ↓reduceIte, reduceCtorEq] <;> rfl)
      · obtain ⟨h1, h2⟩ := yes (by unfold mainOk; rw [hp]; simp only [he]; simp [isPow, sPower, Classical.not_not.1 h1])
        rw [h1, h2, hp]
        have hm := l6Mainline es hv (some i) (fun j hj => by cases hj; exact hil) hB
        rw [show idAt es (some i) = id by simp only [idAt, he]; exact hid] at hm
        refine Callx.closed hm rfl rfl (.inr ⟨rfl, rfl⟩) ?_
        simp -implicitDefEqProofs (maxSteps := 2000000) only [push_cast, Nat.reduceEqDiff, Nat.reduceLT, Nat.reduceLeDiff, Nat.reduceAdd, Nat.reduceMul, Nat.reduceSub, Nat.reduceBEq, ↓reduceIte, reduceCtorEq, eRoom]
        exact Close.of [some 1] rfl rfl rfl (by simp only [push_cast, Nat.reduceEqDiff, Nat.reduceLT, Nat.reduceLeDiff, Nat.reduceAdd, Nat.reduceMul, Nat.reduceSub, Nat.reduceBEq, ↓reduceIte, reduceCtorEq] <;> rfl) (by simp only [push_cast, Nat.reduceEqDiff, Nat.reduceLT, Nat.reduceLeDiff, Nat.reduceAdd, Nat.reduceMul, Nat.reduceSub, Nat.reduceBEq, ↓reduceIte, reduceCtorEq] <;> rfl)
  · have hid : id = [] := Classical.not_not.1 h
    subst hid
    obtain ⟨h1, h2⟩ := yes (by simp [mainOk])
    rw [h1, h2, pos_nil hv]
    have hm := l6Mainline es hv none (fun j hj => by cases hj) hB
    refine Callx.closed hm rfl rfl (.inr ⟨rfl, rfl⟩) ?_
    simp -implicitDefEqProofs (maxSteps := 2000000) only [push_cast, Nat.reduceEqDiff, Nat.reduceLT, Nat.reduceLeDiff, Nat.reduceAdd, Nat.reduceMul, Nat.reduceSub, Nat.reduceBEq, ↓reduceIte, reduceCtorEq, eRoom]
    exact Close.of [some 1] rfl rfl rfl (by simp only [push_cast, Nat.reduceEqDiff, Nat.reduceLT, Nat.reduceLeDiff, Nat.reduceAdd, Nat.reduceMul, Nat.reduceSub, Nat.reduceBEq, ↓reduceIte, reduceCtorEq] <;> rfl) (by simp only [push_cast, Nat.reduceEqDiff, Nat.reduceLT, Nat.reduceLeDiff, Nat.reduceAdd, Nat.reduceMul, Nat.reduceSub, Nat.reduceBEq, ↓reduceIte, reduceCtorEq] <;> rfl)
def pwI (es : List Event) (i : Nat) : Int := match pwOf es i with
  | some j => j
  | none => -1
theorem powerOf (es : List Event) (hv : Valid es) (i : Nat) (hi : i < es.length) : Con P0 140 [gT es, .i .i64 i] (.t (.i .i64 (pwI es i))) [] := by
  refine Con.intro (fn := Try.f140) [.tmp 4] (fun _ => (0, [])) mixed (by kernel_rfl) rfl (by decide) rfl (by rfl) (by kernel_rfl) ?_
  simp -implicitDefEqProofs (maxSteps := 2000000) only [push_cast, Nat.reduceEqDiff, Nat.reduceLT, Nat.reduceLeDiff, Nat.reduceAdd, Nat.reduceMul, Nat.reduceSub, Nat.reduceBEq, ↓reduceIte, reduceCtorEq, gT, eEvent]
  have hhi := Bd.hi
  refine ⟨by omega, fun e he hal => ?_⟩
  rw [Int.toNat_natCast] at he
  have hpw : pwOf es i = fromL es isPow e.auth := by unfold pwOf; rw [he]
  refine WL.loop (ι := Nat) (D := (fun _ => (0, []))) (fun i => i ≤ e.auth.length ∧ fromL es isPow (e.auth.drop i) = fromL es isPow e.auth) (fun i => ⟨38, [(0, .t (gT es)), (15, .t (eStringS e.auth)), (16, .t (.i .i64 e.auth.length)), (17, .t (.i .i64 i))], []⟩) (fun i => e.auth.length - i) mixed (by kernel_rfl) 0 ⟨by omega, by simp⟩ (Keep.wk (ids := []) ?_) ?_
  · simp only [push_cast, Nat.reduceEqDiff, Nat.reduceLT, Nat.reduceLeDiff, Nat.reduceAdd, Nat.reduceMul, Nat.reduceSub, Nat.reduceBEq, ↓reduceIte, reduceCtorEq, gT] <;> rfl
  · rintro k ⟨hk, hf⟩
    simp -implicitDefEqProofs (maxSteps := 2000000) only [push_cast, Nat.reduceEqDiff, Nat.reduceLT, Nat.reduceLeDiff, Nat.reduceAdd, Nat.reduceMul, Nat.reduceSub, Nat.reduceBEq, ↓reduceIte, reduceCtorEq, gT]
    refine iteI (fun h => ⟨by omega, fun x hx => ?_⟩) (fun h => ?_)
    · rw [Int.toNat_natCast] at hx
      obtain ⟨j, a, _, hja, hid, hp⟩ := pos_ref ((hv.good he).auth x (List.mem_of_getElem? hx))
      have hjl := (List.getElem?_eq_some_iff.1 hja).1
      have hd := fromL_drop (p := isPow) hx hp hja
      rw [hf] at hd
      refine gLook rfl (fun j' hj' => ?_) (fun hj' => by rw [hp] at hj'; cases hj')
      rw [hp] at hj'; cases hj'
      simp -implicitDefEqProofs (maxSteps := 2000000) only [push_cast, Nat.reduceEqDiff, Nat.reduceLT, Nat.reduceLeDiff, Nat.reduceAdd, Nat.reduceMul, Nat.reduceSub, Nat.reduceBEq, ↓reduceIte, reduceCtorEq, gT, eEvent]
      refine ⟨by omega, fun a' ha' => ?_⟩
      rw [Int.toNat_natCast, hja] at ha'
      cases ha'
      refine iteI (fun h1 => ?_) (fun h1 => ?_)
      · rw [if_pos (by simp [isPow, sPower, h1])] at hd
        unfold pwI
        rw [hpw, hd]
      · rw [if_neg (by simp [isPow, sPower, h1])] at hd
        refine ⟨by unfold inI64; omega, k + 1, ⟨by omega, hd.symm⟩, by omega, Keep.wk (ids := []) ?_⟩
        simp only [push_cast, Nat.reduceEqDiff, Nat.reduceLT, Nat.reduceLeDiff, Nat.reduceAdd, Nat.reduceMul, Nat.reduceSub, Nat.reduceBEq, ↓reduceIte, reduceCtorEq, gT] <;> rfl
    · rw [List.drop_of_length_le (by omega)] at hf
      unfold pwI
      rw [hpw, ← hf]
      rfl
/-- as the program counts -/
def oI : Option Nat → Int
  | some j => j
  | none => -1
theorem graphMainline (es : List Event) (id : List UInt8) (hr : roomB es = true) (hB : Bd.B ≤ 2147483648) : Con P0 113 [gT es, .s id] (.tp [.sr 0, .t (.b (mainB es id))]) [.arr 9 1 (.own .leaf) ((mainL es id).map T.s)] := by
  refine Con.intro (fn := Try.f113) [.tmp 4, .tmp 5] (fun _ => (0, [])) mixed (by kernel_rfl) rfl (by decide) rfl (by rfl) (by kernel_rfl) ?_
  simp -implicitDefEqProofs (maxSteps := 2000000) only [push_cast, Nat.reduceEqDiff, Nat.reduceLT, Nat.reduceLeDiff, Nat.reduceAdd, Nat.reduceMul, Nat.reduceSub, Nat.reduceBEq, ↓reduceIte, reduceCtorEq, gT]
  have := Bd.lo
  have hv := room_valid hr
  have yes : mainOk es id = true → mainB es id = true ∧ mainL es id = lineO es (posOf id es) := fun h => by
    have h1 : mainB es id = true := by unfold mainB; rw [hr, h]; rfl
    exact ⟨h1, if_pos h1⟩
  have no : mainOk es id = false → mainB es id = false ∧ mainL es id = [] := fun h => by
    have h1 : mainB es id = false := by unfold mainB; rw [h, Bool.and_false]
    exact ⟨h1, if_neg (by rw [h1]; simp)⟩
  refine iteI (fun h => ?_) (fun h => ?_)
  · subst h
    obtain ⟨h1, h2⟩ := yes (by simp [mainOk])
    rw [h1, h2, pos_nil hv]
    exact Close.of [none] rfl rfl rfl (by simp only [push_cast, Nat.reduceEqDiff, Nat.reduceLT, Nat.reduceLeDiff, Nat.reduceAdd, Nat.reduceMul, Nat.reduceSub, Nat.reduceBEq, ↓reduceIte, reduceCtorEq] <;> rfl) (by simp only [push_cast, Nat.reduceEqDiff, Nat.reduceLT, Nat.reduceLeDiff, Nat.reduceAdd, Nat.reduceMul, Nat.reduceSub, Nat.reduceBEq, ↓reduceIte, reduceCtorEq] <;> rfl)
  refine gLook rfl (fun i hi => ?_) (fun hi => ?_)
  · obtain ⟨e, he, hid, _⟩ := posOf_some.1 hi
    have hil := (List.getElem?_eq_some_iff.1 he).1
    simp -implicitDefEqProofs (maxSteps := 2000000) only [push_cast, Nat.reduceEqDiff, Nat.reduceLT, Nat.reduceLeDiff, Nat.reduceAdd, Nat.reduceMul, Nat.reduceSub, Nat.reduceBEq, ↓reduceIte, reduceCtorEq, gT, eEvent]
    refine ⟨by omega, fun e' he' => ?_⟩
    rw [Int.toNat_natCast, he] at he'
    cases he'
    refine iteI (fun h1 => ?_) (fun h1 => ?_)
    · obtain ⟨h1, h2⟩ := no (by unfold mainOk; rw [hi]; simp only [he]; simp [h, isPow, sPower, h1])
      rw [h1, h2]
      exact Close.of [none] rfl rfl rfl (by simp only [push_cast, Nat.reduceEqDiff, Nat.reduceLT, Nat.reduceLeDiff, Nat.reduceAdd, Nat.reduceMul, Nat.reduceSub, Nat.reduceBEq, ↓reduceIte, reduceCtorEq] <;> rfl) (by simp only [push_cast, Nat.reduceEqDiff, Nat.reduceLT, Nat.reduceLeDiff, Nat.reduceAdd, Nat.reduceMul, Nat.reduceSub, Nat.reduceBEq, ↓reduceIte, reduceCtorEq] <;> rfl)
    obtain ⟨h1, h2⟩ := yes (by unfold mainOk; rw [hi]; simp only [he]; simp [isPow, sPower, Classical.not_not.1 h1])
    rw [h1, h2, hi]
    refine ⟨rfl, by omega, ?_⟩
    refine WL.loop (ι := Option Nat × List (List UInt8)) (D := (fun _ => (0, []))) (fun k => (∀ j, k.1 = some j → j < es.length) ∧ k.2 ++ lineO es k.1 = lineO es (some i)) (fun k => ⟨53, [(0, .t (gT es)), (6, .t (.i .i64 (oI k.1))), (8, .sr 0)], [.arr 9 1 (.own .leaf) (k.2.map T.s)]⟩) (fun k => match k.1 with | some j => j + 1 | none => 0) mixed (by kernel_rfl) (some i, []) ⟨fun j hj => by cases hj; exact hil, by simp⟩ (Keep.wk (ids := [some 0]) ?_) ?_
    · simp only [push_cast, Nat.reduceEqDiff, Nat.reduceLT, Nat.reduceLeDiff, Nat.reduceAdd, Nat.reduceMul, Nat.reduceSub, Nat.reduceBEq, ↓reduceIte, reduceCtorEq, gT, oI] <;> rfl
    · rintro ⟨k, out⟩ ⟨hk, hf⟩
      simp only at hk hf
      simp -implicitDefEqProofs (maxSteps := 2000000) only [push_cast, Nat.reduceEqDiff, Nat.reduceLT, Nat.reduceLeDiff, Nat.reduceAdd, Nat.reduceMul, Nat.reduceSub, Nat.reduceBEq, ↓reduceIte, reduceCtorEq, gT, eEvent]
      have hol : out.length ≤ 300 := by
        have h1 := lineAt_len hv i
        have := hv.len
        have h2 := congrArg List.length hf
        rw [List.length_append, lineO] at h2
        simp only [lineO] at h2
        omega
      cases k with
      | none =>
        rw [if_neg (by simp [oI])]
        simp only [lineO, List.append_nil] at hf
        subst hf
        exact Close.of [some 0] rfl rfl rfl (by simp only [push_cast, Nat.reduceEqDiff, Nat.reduceLT, Nat.reduceLeDiff, Nat.reduceAdd, Nat.reduceMul, Nat.reduceSub, Nat.reduceBEq, ↓reduceIte, reduceCtorEq] <;> rfl) (by simp only [push_cast, Nat.reduceEqDiff, Nat.reduceLT, Nat.reduceLeDiff, Nat.reduceAdd, Nat.reduceMul, Nat.reduceSub, Nat.reduceBEq, ↓reduceIte, reduceCtorEq] <;> rfl)
      | some j =>
        have hjl := hk j rfl
        obtain ⟨a, ha⟩ : ∃ a, es[j]? = some a := ⟨_, List.getElem?_eq_getElem hjl⟩
        have hoi : oI (some j) = (j : Int) := rfl
        rw [hoi, if_pos (by omega)]
        refine ⟨by omega, fun a' ha' => ?_⟩
        rw [Int.toNat_natCast, ha] at ha'
        cases ha'
        refine ⟨rfl, by omega, rfl, by omega, by omega, ?_⟩
        refine Callx.closed (powerOf es hv j hjl) rfl rfl (.inr ⟨rfl, rfl⟩) ?_
        simp -implicitDefEqProofs (maxSteps := 2000000) only [push_cast, Nat.reduceEqDiff, Nat.reduceLT, Nat.reduceLeDiff, Nat.reduceAdd, Nat.reduceMul, Nat.reduceSub, Nat.reduceBEq, ↓reduceIte, reduceCtorEq, gT, eEvent]
        refine ⟨(pwOf es j, out ++ [a.id]), ⟨fun k hk => ?_, ?_⟩, ?_, Keep.wk (ids := [some 2]) ?_⟩
        · have := pwOf_lt hv hk; omega
        · simp only
          have hl : lineO es (some j) = a.id :: lineO es (pwOf es j) := lineAt_eq hv ha
          rw [hl] at hf
          rw [← hf]; simp
        · simp only
          split
          · rename_i k hk
            have := pwOf_lt hv hk; omega
          · omega
        · have hpi : pwI es j = oI (pwOf es j) := by unfold pwI oI; cases pwOf es j <;> rfl
          simp only [push_cast, Nat.reduceEqDiff, Nat.reduceLT, Nat.reduceLeDiff, Nat.reduceAdd, Nat.reduceMul, Nat.reduceSub, Nat.reduceBEq, ↓reduceIte, reduceCtorEq, gT, hpi, List.map_append] <;> rfl
  · simp -implicitDefEqProofs (maxSteps := 2000000) only [push_cast, Nat.reduceEqDiff, Nat.reduceLT, Nat.reduceLeDiff, Nat.reduceAdd, Nat.reduceMul, Nat.reduceSub, Nat.reduceBEq, ↓reduceIte, reduceCtorEq, gT]
    obtain ⟨h1, h2⟩ := no (by unfold mainOk; rw [hi]; simpa using h)
    rw [h1, h2]
    exact Close.of [none] rfl rfl rfl (by simp only [push_cast, Nat.reduceEqDiff, Nat.reduceLT, Nat.reduceLeDiff, Nat.reduceAdd, Nat.reduceMul, Nat.reduceSub, Nat.reduceBEq, ↓reduceIte, reduceCtorEq] <;> rfl) (by simp only [push_cast, Nat.reduceEqDiff, Nat.reduceLT, Nat.reduceLeDiff, Nat.reduceAdd, Nat.reduceMul, Nat.reduceSub, Nat.reduceBEq, ↓reduceIte, reduceCtorEq] <;> rfl)
theorem graphMainlineNil (id : List UInt8) : Con P0 113 [.np, .s id] (.tp [.sr 0, .t (.b false)]) [.arr 9 1 (.own .leaf) []] := by
  refine Con.intro (fn := Try.f113) [.tmp 4, .tmp 5] (fun _ => (0, [])) mixed (by kernel_rfl) rfl (by decide) rfl (by rfl) (by kernel_rfl) ?_
  simp -implicitDefEqProofs (maxSteps := 2000000) only [push_cast, Nat.reduceEqDiff, Nat.reduceLT, Nat.reduceLeDiff, Nat.reduceAdd, Nat.reduceMul, Nat.reduceSub, Nat.reduceBEq, ↓reduceIte, reduceCtorEq]
  exact Close.of [none] rfl rfl rfl (by simp only [push_cast, Nat.reduceEqDiff, Nat.reduceLT, Nat.reduceLeDiff, Nat.reduceAdd, Nat.reduceMul, Nat.reduceSub, Nat.reduceBEq, ↓reduceIte, reduceCtorEq] <;> rfl) (by simp only [push_cast, Nat.reduceEqDiff, Nat.reduceLT, Nat.reduceLeDiff, Nat.reduceAdd, Nat.reduceMul, Nat.reduceSub, Nat.reduceBEq, ↓reduceIte, reduceCtorEq] <;> rfl)
theorem implMainline (es : List Event) (id : List UInt8) (hB : Bd.B ≤ 2147483648) : Con P0 52 [eRoom ⟨es⟩, .s id] (.tp [.sr 0, .t (.b (mainB es id))]) [.arr 9 1 (.own .leaf) ((mainL es id).map T.s)] := by
  refine Con.intro (fn := Try.f52) [.tmp 4, .tmp 5] (fun _ => (0, [])) mixed (by kernel_rfl) rfl (by decide) rfl (by rfl) (by kernel_rfl) ?_
  simp -implicitDefEqProofs (maxSteps := 2000000) only [push_cast, Nat.reduceEqDiff, Nat.reduceLT, Nat.reduceLeDiff, Nat.reduceAdd, Nat.reduceMul, Nat.reduceSub, Nat.reduceBEq, ↓reduceIte, reduceCtorEq, eRoom]
  refine Callx.closed (graphOf es hB) rfl rfl (.inl rfl) ?_
  simp -implicitDefEqProofs (maxSteps := 2000000) only [push_cast, Nat.reduceEqDiff, Nat.reduceLT, Nat.reduceLeDiff, Nat.reduceAdd, Nat.reduceMul, Nat.reduceSub, Nat.reduceBEq, ↓reduceIte, reduceCtorEq, eRoom]
  by_cases hr : roomB es = true
  · rw [if_pos hr]
    simp -implicitDefEqProofs (maxSteps := 2000000) only [push_cast, Nat.reduceEqDiff, Nat.reduceLT, Nat.reduceLeDiff, Nat.reduceAdd, Nat.reduceMul, Nat.reduceSub, Nat.reduceBEq, ↓reduceIte, reduceCtorEq, eRoom]
    refine Callx.closed (graphMainline es id hr hB) rfl rfl (.inl rfl) ?_
    simp -implicitDefEqProofs (maxSteps := 2000000) only [push_cast, Nat.reduceEqDiff, Nat.reduceLT, Nat.reduceLeDiff, Nat.reduceAdd, Nat.reduceMul, Nat.reduceSub, Nat.reduceBEq, ↓reduceIte, reduceCtorEq, eRoom]
    exact Close.of [some 1] rfl rfl rfl (by simp only [push_cast, Nat.reduceEqDiff, Nat.reduceLT, Nat.reduceLeDiff, Nat.reduceAdd, Nat.reduceMul, Nat.reduceSub, Nat.reduceBEq, ↓reduceIte, reduceCtorEq] <;> rfl) (by simp only [push_cast, Nat.reduceEqDiff, Nat.reduceLT, Nat.reduceLeDiff, Nat.reduceAdd, Nat.reduceMul, Nat.reduceSub, Nat.reduceBEq, ↓reduceIte, reduceCtorEq] <;> rfl)
  · rw [if_neg hr]
    simp -implicitDefEqProofs (maxSteps := 2000000) only [push_cast, Nat.reduceEqDiff, Nat.reduceLT, Nat.reduceLeDiff, Nat.reduceAdd, Nat.reduceMul, Nat.reduceSub, Nat.reduceBEq, ↓reduceIte, reduceCtorEq, eRoom]
    have h1 : mainB es id = false := by unfold mainB; rw [show roomB es = false by simpa using hr]; rfl
    have h2 : mainL es id = [] := if_neg (by rw [h1]; simp)
    rw [h1, h2]
    refine Callx.closed (graphMainlineNil id) rfl rfl (.inl rfl) ?_
    simp -implicitDefEqProofs (maxSteps := 2000000) only [push_cast, Nat.reduceEqDiff, Nat.reduceLT, Nat.reduceLeDiff, Nat.reduceAdd, Nat.reduceMul, Nat.reduceSub, Nat.reduceBEq, ↓reduceIte, reduceCtorEq, eRoom]
    exact Close.of [some 1] rfl rfl rfl (by simp only [push_cast, Nat.reduceEqDiff, Nat.reduceLT, Nat.reduceLeDiff, Nat.reduceAdd, Nat.reduceMul, Nat.reduceSub, Nat.reduceBEq, ↓reduceIte, reduceCtorEq] <;> rfl) (by simp only [push_cast, Nat.reduceEqDiff, Nat.reduceLT, Nat.reduceLeDiff, Nat.reduceAdd, Nat.reduceMul, Nat.reduceSub, Nat.reduceBEq, ↓reduceIte, reduceCtorEq] <;> rfl)
end Go.Proofs.Ytkgoglapagmapaa.BX
