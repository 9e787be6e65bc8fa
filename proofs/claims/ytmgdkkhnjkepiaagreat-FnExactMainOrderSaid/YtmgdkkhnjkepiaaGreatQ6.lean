/-
  Part 6 of what LFnExactMainOrder leans on: its texts, merged by a program (prune.py), with what it needs alone.
-/
import Derived.Test.YtmgdkkhnjkepiaaGreatQ5
import Derived.Test.YtmgdkkhnjkepiaaGreatSko
namespace Go.Proofs.YtmgdkkhnjkepiaaGreat.BX
set_option linter.unusedSectionVars false
set_option linter.unusedSimpArgs false
set_option linter.unusedVariables false
open Go Go.RowKit
set_option maxRecDepth 20000
set_option maxHeartbeats 400000
def fromL (es : List Event) (p : Event → Bool) : List (List UInt8) → Option Nat
  | [] => none
  | x :: r => match posOf x es with
    | some j => match es[j]? with
      | some e => if p e = true then some j else fromL es p r
      | none => fromL es p r
    | none => fromL es p r
theorem fromL_some {es : List Event} {p : Event → Bool} {j : Nat} : ∀ {l : List (List UInt8)}, fromL es p l = some j → ∃ x ∈ l, posOf x es = some j ∧ ∃ e, es[j]? = some e ∧ p e = true
  | [], h => by cases h
  | x :: r, h => by
    have go : fromL es p r = some j → ∃ y ∈ x :: r, posOf y es = some j ∧ ∃ e, es[j]? = some e ∧ p e = true := fun h => by
      obtain ⟨y, h1, h2⟩ := fromL_some h
      exact ⟨y, by simp [h1], h2⟩
    unfold fromL at h
    split at h
    · rename_i i hi
      split at h
      · rename_i e he
        split at h
        · rename_i hp
          cases h
          exact ⟨x, by simp, hi, e, he, hp⟩
        · exact go h
      · exact go h
    · exact go h
theorem fromL_drop {es : List Event} {p : Event → Bool} {l : List (List UInt8)} {i j : Nat} {x : List UInt8} {e : Event} (hx : l[i]? = some x) (hp : posOf x es = some j) (he : es[j]? = some e) : fromL es p (l.drop i) = if p e = true then some j else fromL es p (l.drop (i + 1)) := by
  obtain ⟨hi, rfl⟩ := List.getElem?_eq_some_iff.1 hx
  rw [List.drop_eq_getElem_cons hi, fromL, hp]
  dsimp only
  rw [he]
theorem fromL_congr {es : List Event} {p q : Event → Bool} : ∀ {l : List (List UInt8)}, (∀ e ∈ es, p e = q e) → fromL es p l = fromL es q l
  | [], _ => rfl
  | x :: r, h => by
    have ih := fromL_congr (l := r) h
    unfold fromL
    split
    · split
      · rename_i e he
        rw [h e (List.mem_of_getElem? he), ih]
      · exact ih
    · exact ih
def isPow (e : Event) : Bool := decide (e.typ = sPower)
def pwOf (es : List Event) (i : Nat) : Option Nat := match es[i]? with
  | some e => fromL es isPow e.auth
  | none => none
def lineAt (es : List Event) (i : Nat) : List (List UInt8) := match es[i]? with
  | some e => e.id :: (match pwOf es i with
    | some j => if _h : j < i then lineAt es j else []
    | none => [])
  | none => []
termination_by i
decreasing_by exact _h
theorem pwOf_lt {es : List Event} (hv : Valid es) {i j : Nat} (h : pwOf es i = some j) : j < i := by
  unfold pwOf at h
  split at h
  · rename_i e he
    obtain ⟨x, h1, h2, _⟩ := fromL_some h
    obtain ⟨k, a, h3, _, _, h4⟩ := pos_ref ((hv.good he).auth x h1)
    rw [h2] at h4; cases h4; exact h3
  · cases h
def lineO (es : List Event) : Option Nat → List (List UInt8)
  | some i => lineAt es i
  | none => []
theorem lineAt_eq {es : List Event} (hv : Valid es) {i : Nat} {e : Event} (he : es[i]? = some e) : lineAt es i = e.id :: lineO es (pwOf es i) := by
  rw [lineAt, he]
  dsimp only
  cases h : pwOf es i with
  | none => rfl
  | some j => simp only [pwOf_lt hv h, dite_true, lineO]
theorem lineAt_len {es : List Event} (hv : Valid es) : ∀ (i : Nat), (lineAt es i).length ≤ i + 1 := by
  intro i
  induction i using Nat.strongRecOn with
  | ind i ih =>
    rw [lineAt]
    split
    · cases h : pwOf es i with
      | none => simp
      | some j =>
        have hj := pwOf_lt hv h
        have := ih j hj
        simp only [hj, dite_true, List.length_cons]
        omega
    · simp
variable [Bd]
theorem l6Event (es : List Event) (id : List UInt8) (k : Nat) (e : Event) (hp : posOf id es = some k) (he : es[k]? = some e) : Con P0 141 [eRoom ⟨es⟩, .s id] (.t (eEvent e)) [] := by
  refine Con.intro (fn := Tryz.f141) [.cell 4 42] (fun i => if i = 1 then (7, []) else (0, [])) mixed (by kernel_rfl) rfl (by decide) rfl (by rfl) (by kernel_rfl) ?_
  simp -implicitDefEqProofs (maxSteps := 2000000) only [push_cast, Nat.reduceEqDiff, Nat.reduceLT, Nat.reduceLeDiff, Nat.reduceAdd, Nat.reduceMul, Nat.reduceSub, Nat.reduceBEq, ↓reduceIte, reduceCtorEq, eRoom]
  have hat : atI es id = k := by unfold atI; rw [hp]
  have hkl := (List.getElem?_eq_some_iff.1 he).1
  refine CallV.t (l2At es id) (.inl rfl) ?_
  rw [hat]
  simp -implicitDefEqProofs (maxSteps := 2000000) only [push_cast, Nat.reduceEqDiff, Nat.reduceLT, Nat.reduceLeDiff, Nat.reduceAdd, Nat.reduceMul, Nat.reduceSub, Nat.reduceBEq, ↓reduceIte, reduceCtorEq, eRoom]
  refine ⟨by omega, fun e' he' => ?_⟩
  rw [Int.toNat_natCast, he] at he'
  cases he'
  simp -implicitDefEqProofs (maxSteps := 2000000) only [push_cast, Nat.reduceEqDiff, Nat.reduceLT, Nat.reduceLeDiff, Nat.reduceAdd, Nat.reduceMul, Nat.reduceSub, Nat.reduceBEq, ↓reduceIte, reduceCtorEq, eRoom, eEvent]
def ofKind (typ key : List UInt8) (e : Event) : Bool := e.isState && decide (e.typ = typ) && decide (e.key = key)
def idAt (es : List Event) : Option Nat → List UInt8
  | some i => match es[i]? with
    | some e => e.id
    | none => []
  | none => []
theorem l6FromAuth (es : List Event) (e : Event) (typ key : List UInt8) (hr : ∀ x ∈ e.auth, There es x) : Con P0 232 [eRoom ⟨es⟩, eEvent e, .s typ, .s key] (.t (.s (idAt es (fromL es (ofKind typ key) e.auth)))) [] := by
  refine Con.intro (fn := Tryz.f232) [.tmp 8] (fun i => if i = 4 then (8, [(false, 0), (false, 1), (false, 2), (false, 3), (false, 4), (false, 5), (false, 6), (true, 7)]) else (0, [])) mixed (by kernel_rfl) rfl (by decide) rfl (by rfl) (by kernel_rfl) ?_
  simp -implicitDefEqProofs (maxSteps := 2000000) only [push_cast, Nat.reduceEqDiff, Nat.reduceLT, Nat.reduceLeDiff, Nat.reduceAdd, Nat.reduceMul, Nat.reduceSub, Nat.reduceBEq, ↓reduceIte, reduceCtorEq, eRoom]
  refine WL.loop (ι := Nat) (D := (fun i => if i = 4 then (8, [(false, 0), (false, 1), (false, 2), (false, 3), (false, 4), (false, 5), (false, 6), (true, 7)]) else (0, []))) (fun i => i ≤ e.auth.length ∧ fromL es (ofKind typ key) (e.auth.drop i) = fromL es (ofKind typ key) e.auth) (fun i => ⟨41, [(2, .t (.s typ)), (3, .t (.s key)), (4, .rf 0 0), (5, .rf 1 0), (9, .t (.i .i64 i))], [.box (.t (eRoom ⟨es⟩)), .box (.t (eEvent e))]⟩) (fun i => e.auth.length - i) mixed (by kernel_rfl) 0 ⟨by omega, by simp⟩ (Keep.wk (ids := [some 0, some 1]) ?_) ?_
  · simp only [push_cast, Nat.reduceEqDiff, Nat.reduceLT, Nat.reduceLeDiff, Nat.reduceAdd, Nat.reduceMul, Nat.reduceSub, Nat.reduceBEq, ↓reduceIte, reduceCtorEq, eRoom] <;> rfl
  · rintro i ⟨hi, hf⟩
    simp -implicitDefEqProofs (maxSteps := 2000000) only [push_cast, Nat.reduceEqDiff, Nat.reduceLT, Nat.reduceLeDiff, Nat.reduceAdd, Nat.reduceMul, Nat.reduceSub, Nat.reduceBEq, ↓reduceIte, reduceCtorEq, eRoom, eEvent]
    intro _
    have hhi := Bd.hi
    refine iteI (fun h => ⟨by omega, fun x hx => ?_⟩) (fun h => ?_)
    · rw [Int.toNat_natCast] at hx
      obtain ⟨j, a, hja, hid, hp⟩ := there_at (hr x (List.mem_of_getElem? hx))
      refine CallV.t (l6Event es x j a hp hja) (.inl rfl) ?_
      simp -implicitDefEqProofs (maxSteps := 2000000) only [push_cast, Nat.reduceEqDiff, Nat.reduceLT, Nat.reduceLeDiff, Nat.reduceAdd, Nat.reduceMul, Nat.reduceSub, Nat.reduceBEq, ↓reduceIte, reduceCtorEq, eRoom, eEvent]
      have hd := fromL_drop (p := ofKind typ key) hx hp hja
      rw [hf] at hd
      have no : ¬ ofKind typ key a = true → i + 1 ≤ e.auth.length ∧ fromL es (ofKind typ key) (e.auth.drop (i + 1)) = fromL es (ofKind typ key) e.auth := fun h => by
        rw [if_neg h] at hd
        exact ⟨by omega, hd.symm⟩
      have hb : inI64 ((i : Int) + 1) := by unfold inI64; omega
      refine iteI (fun h1 => iteI (fun h2 => iteI (fun h3 => ?_) (fun h3 => ?_)) (fun h2 => ?_)) (fun h1 => ?_)
      · have hk : ofKind typ key a = true := by simp [ofKind, h1, h2, h3]
        rw [if_pos hk] at hd
        rw [hd]
        simp only [idAt, hja]
      · refine ⟨hb, i + 1, no (by simp [ofKind, h3]), by omega, Keep.wk (ids := [some 0, some 1]) ?_⟩
        simp only [push_cast, Nat.reduceEqDiff, Nat.reduceLT, Nat.reduceLeDiff, Nat.reduceAdd, Nat.reduceMul, Nat.reduceSub, Nat.reduceBEq, ↓reduceIte, reduceCtorEq, eRoom, eEvent] <;> rfl
      · refine ⟨hb, i + 1, no (by simp [ofKind, h2]), by omega, Keep.wk (ids := [some 0, some 1]) ?_⟩
        simp only [push_cast, Nat.reduceEqDiff, Nat.reduceLT, Nat.reduceLeDiff, Nat.reduceAdd, Nat.reduceMul, Nat.reduceSub, Nat.reduceBEq, ↓reduceIte, reduceCtorEq, eRoom, eEvent] <;> rfl
      · refine ⟨hb, i + 1, no (by simp [ofKind, h1]), by omega, Keep.wk (ids := [some 0, some 1]) ?_⟩
        simp only [push_cast, Nat.reduceEqDiff, Nat.reduceLT, Nat.reduceLeDiff, Nat.reduceAdd, Nat.reduceMul, Nat.reduceSub, Nat.reduceBEq, ↓reduceIte, reduceCtorEq, eRoom, eEvent] <;> rfl
    · rw [List.drop_of_length_le (by omega)] at hf
      rw [← hf]
      rfl
theorem evOk_id {e : Event} (h : evOk e = 0) : e.id ≠ [] := by
  unfold evOk at h
  split at h
  · cases h
  rename_i h1
  have h1 := (Classical.not_not.1 h1).1
  rintro hn
  rw [hn] at h1
  simp [isW] at h1
theorem evOk_content {e : Event} (h : evOk e = 0) : contentB e = true := by
  unfold evOk at h
  split at h
  · cases h
  unfold ev2 at h
  split at h
  · cases h
  unfold ev3 at h
  split at h
  · cases h
  unfold ev4 at h
  split at h
  · cases h
  unfold ev5 at h
  split at h
  · cases h
  rename_i h1
  exact Classical.not_not.1 h1
theorem pow_kind {es : List Event} (hv : Valid es) : ∀ e ∈ es, ofKind sPower [] e = isPow e := by
  intro e he
  obtain ⟨i, hi, rfl⟩ := List.getElem_of_mem he
  have hc := evOk_content (hv.good (List.getElem?_eq_getElem hi)).ok
  generalize es[i] = e at *
  by_cases hp : e.typ = sPower
  · unfold contentB at hc
    rw [hp, if_neg (by decide), if_neg (by decide), if_neg (by decide), if_pos rfl] at hc
    simp only [Bool.and_eq_true, decide_eq_true_eq] at hc
    simp [ofKind, isPow, hp, hc.1.1.1, hc.1.1.2]
  · simp [ofKind, isPow, hp]
theorem l6Power (es : List Event) (hv : Valid es) (i : Nat) (e : Event) (he : es[i]? = some e) : Con P0 199 [eRoom ⟨es⟩, eEvent e] (.t (.s (idAt es (pwOf es i)))) [] := by
  have hpw : pwOf es i = fromL es (ofKind sPower []) e.auth := by
    unfold pwOf; rw [he]; exact (fromL_congr (pow_kind hv)).symm
  rw [hpw]
  refine Con.intro (fn := Tryz.f199) [.tmp 4] (fun _ => (0, [])) mixed (by kernel_rfl) rfl (by decide) rfl (by rfl) (by kernel_rfl) ?_
  simp -implicitDefEqProofs (maxSteps := 2000000) only [push_cast, Nat.reduceEqDiff, Nat.reduceLT, Nat.reduceLeDiff, Nat.reduceAdd, Nat.reduceMul, Nat.reduceSub, Nat.reduceBEq, ↓reduceIte, reduceCtorEq, eRoom, eEvent]
  refine Callx.closed (l6FromAuth es e sPower [] fun x hx => ?_) rfl rfl (.inl rfl) ?_
  · obtain ⟨_, _, _, _, _, h⟩ := pos_ref ((hv.good he).auth x hx)
    unfold There; rw [h]; rfl
  simp -implicitDefEqProofs (maxSteps := 2000000) only [push_cast, Nat.reduceEqDiff, Nat.reduceLT, Nat.reduceLeDiff, Nat.reduceAdd, Nat.reduceMul, Nat.reduceSub, Nat.reduceBEq, ↓reduceIte, reduceCtorEq, eRoom, eEvent]
theorem l6Mainline (es : List Event) (hv : Valid es) (o : Option Nat) (ho : ∀ i, o = some i → i < es.length) (hB : Bd.B ≤ 2147483648) : Con P0 142 [eRoom ⟨es⟩, .s (idAt es o)] (.sr 0) [.arr 9 1 (.own .leaf) ((lineO es o).map T.s)] := by
  refine Con.intro (fn := Tryz.f142) [.tmp 4] (fun i => if i = 4 then (5, []) else (0, [])) mixed (by kernel_rfl) rfl (by decide) rfl (by rfl) (by kernel_rfl) ?_
  simp -implicitDefEqProofs (maxSteps := 2000000) only [push_cast, Nat.reduceEqDiff, Nat.reduceLT, Nat.reduceLeDiff, Nat.reduceAdd, Nat.reduceMul, Nat.reduceSub, Nat.reduceBEq, ↓reduceIte, reduceCtorEq, eRoom]
  have := Bd.lo
  refine ⟨rfl, by omega, ?_⟩
  refine WL.loop (ι := Option Nat × List (List UInt8)) (D := (fun i => if i = 4 then (5, []) else (0, []))) (fun i => (∀ j, i.1 = some j → j < es.length) ∧ i.2 ++ lineO es i.1 = lineO es o) (fun i => ⟨19, [(1, .t (.s (idAt es i.1))), (2, .rf 0 0), (5, .sr 1)], [.box (.t (eRoom ⟨es⟩)), .arr 9 1 (.own .leaf) (i.2.map T.s)]⟩) (fun i => match i.1 with | some j => j + 1 | none => 0) mixed (by kernel_rfl) (o, []) ⟨ho, by simp⟩ (Keep.wk (ids := [some 0, some 1]) ?_) ?_
  · simp only [push_cast, Nat.reduceEqDiff, Nat.reduceLT, Nat.reduceLeDiff, Nat.reduceAdd, Nat.reduceMul, Nat.reduceSub, Nat.reduceBEq, ↓reduceIte, reduceCtorEq, eRoom] <;> rfl
  · rintro ⟨i, out⟩ ⟨hi, hf⟩
    simp only at hi hf
    simp -implicitDefEqProofs (maxSteps := 2000000) only [push_cast, Nat.reduceEqDiff, Nat.reduceLT, Nat.reduceLeDiff, Nat.reduceAdd, Nat.reduceMul, Nat.reduceSub, Nat.reduceBEq, ↓reduceIte, reduceCtorEq, eRoom]
    have hol : out.length ≤ 300 := by
      have h1 : (lineO es o).length ≤ es.length := by
        cases o with
        | none => simp [lineO]
        | some k =>
          have := lineAt_len hv k
          have := ho k rfl
          simp only [lineO]; omega
      have := hv.len
      rw [← hf, List.length_append] at h1
      omega
    cases i with
    | none =>
      rw [if_neg (by simp [idAt])]
      rw [lineO, List.append_nil] at hf
      subst hf
      exact Close.of [some 1] rfl rfl rfl rfl (by simp only [push_cast, Nat.reduceEqDiff, Nat.reduceLT, Nat.reduceLeDiff, Nat.reduceAdd, Nat.reduceMul, Nat.reduceSub, Nat.reduceBEq, ↓reduceIte, reduceCtorEq] <;> rfl)
    | some j =>
      have hjl := hi j rfl
      obtain ⟨e, he⟩ : ∃ e, es[j]? = some e := ⟨_, List.getElem?_eq_getElem hjl⟩
      have hid : idAt es (some j) = e.id := by simp only [idAt, he]
      rw [hid, if_pos (evOk_id (hv.good he).ok)]
      refine ⟨rfl, by omega, rfl, by omega, by omega, ?_⟩
      refine CallV.t (l6Event es e.id j e (hv.pos he) he) (.inl rfl) ?_
      simp -implicitDefEqProofs (maxSteps := 2000000) only [push_cast, Nat.reduceEqDiff, Nat.reduceLT, Nat.reduceLeDiff, Nat.reduceAdd, Nat.reduceMul, Nat.reduceSub, Nat.reduceBEq, ↓reduceIte, reduceCtorEq, eRoom]
      refine CallV.t (l6Power es hv j e he) (.inl rfl) ?_
      simp -implicitDefEqProofs (maxSteps := 2000000) only [push_cast, Nat.reduceEqDiff, Nat.reduceLT, Nat.reduceLeDiff, Nat.reduceAdd, Nat.reduceMul, Nat.reduceSub, Nat.reduceBEq, ↓reduceIte, reduceCtorEq, eRoom]
      refine ⟨(pwOf es j, out ++ [e.id]), ⟨fun k hk => ?_, ?_⟩, ?_, Keep.wk (ids := [some 0, some 3]) ?_⟩
      · have := pwOf_lt hv hk; omega
      · simp only
        rw [lineO, lineAt_eq hv he] at hf
        rw [← hf]; simp
      · simp only
        split
        · rename_i k hk
          have := pwOf_lt hv hk; omega
        · omega
      · simp only [push_cast, Nat.reduceEqDiff, Nat.reduceLT, Nat.reduceLeDiff, Nat.reduceAdd, Nat.reduceMul, Nat.reduceSub, Nat.reduceBEq, ↓reduceIte, reduceCtorEq, eRoom, List.map_append] <;> rfl
def mainOk (es : List Event) (id : List UInt8) : Bool := decide (id = []) || (match posOf id es with
  | some i => match es[i]? with
    | some e => isPow e
    | none => false
  | none => false)
noncomputable def mainB (es : List Event) (id : List UInt8) : Bool := roomB es && mainOk es id
noncomputable def mainL (es : List Event) (id : List UInt8) : List (List UInt8) := if mainB es id = true then lineO es (posOf id es) else []
theorem pos_nil {es : List Event} (hv : Valid es) : posOf [] es = none := by
  rw [posOf_none]
  intro e he
  obtain ⟨i, hi, rfl⟩ := List.getElem_of_mem he
  exact evOk_id (hv.good (List.getElem?_eq_getElem hi)).ok
theorem idAt_pos {es : List Event} {id : List UInt8} {i : Nat} (h : posOf id es = some i) : idAt es (posOf id es) = id := by
  obtain ⟨e, h1, h2, _⟩ := posOf_some.1 h
  rw [h]; simp only [idAt, h1]; exact h2
theorem specMainline (es : List Event) (id : List UInt8) (hB : Bd.B ≤ 2147483648) : Con P0 75 [eRoom ⟨es⟩, .s id] (.tp [.sr 0, .t (.b (mainB es id))]) [.arr 9 1 (.own .leaf) ((mainL es id).map T.s)] := by
  refine Con.intro (fn := Tryz.f75) [.tmp 4, .tmp 5] (fun _ => (0, [])) mixed (by kernel_rfl) rfl (by decide) rfl (by rfl) (by kernel_rfl) ?_
  simp -implicitDefEqProofs (maxSteps := 2000000) only [push_cast, Nat.reduceEqDiff, Nat.reduceLT, Nat.reduceLeDiff, Nat.reduceAdd, Nat.reduceMul, Nat.reduceSub, Nat.reduceBEq, ↓reduceIte, reduceCtorEq, eRoom]
  have := Bd.lo
  refine Callx.closed (specRoomOk es) rfl rfl (.inr ⟨rfl, rfl⟩) ?_
  simp -implicitDefEqProofs (maxSteps := 2000000) only [push_cast, Nat.reduceEqDiff, Nat.reduceLT, Nat.reduceLeDiff, Nat.reduceAdd, Nat.reduceMul, Nat.reduceSub, Nat.reduceBEq, ↓reduceIte, reduceCtorEq, eRoom]
  refine iteI (fun hr => ?_) (fun hr => ?_)
  · have h1 : mainB es id = false := by unfold mainB; rw [show roomB es = false by simpa using hr]; rfl
    have h2 : mainL es id = [] := if_neg (by rw [h1]; simp)
    rw [h1, h2]
    refine ⟨rfl, by omega, ?_⟩
    exact Close.of [some 1] rfl rfl rfl (by simp only [push_cast, Nat.reduceEqDiff, Nat.reduceLT, Nat.reduceLeDiff, Nat.reduceAdd, Nat.reduceMul, Nat.reduceSub, Nat.reduceBEq, ↓reduceIte, reduceCtorEq] <;> rfl) (by simp only [push_cast, Nat.reduceEqDiff, Nat.reduceLT, Nat.reduceLeDiff, Nat.reduceAdd, Nat.reduceMul, Nat.reduceSub, Nat.reduceBEq, ↓reduceIte, reduceCtorEq] <;> rfl)
  have hr : roomB es = true := by simpa using hr
  have hv := room_valid hr
  have hfld : oneFld P0 42 2 = some 2 := by kernel_rfl
  have yes : mainOk es id = true → mainB es id = true ∧ mainL es id = lineO es (posOf id es) := fun h => by
    have h1 : mainB es id = true := by unfold mainB; rw [hr, h]; rfl
    exact ⟨h1, if_pos h1⟩
  have no : mainOk es id = false → mainB es id = false ∧ mainL es id = [] := fun h => by
    have h1 : mainB es id = false := by unfold mainB; rw [h, Bool.and_false]
    exact ⟨h1, if_neg (by rw [h1]; simp)⟩
  refine iteI (fun h => ?_) (fun h => ?_)
  · refine Callx.closed (l2At es id) rfl rfl (.inl rfl) ?_
    cases hp : posOf id es with
    | none =>
      have hat : atI es id = -1 := by unfold atI; rw [hp]
      rw [hat]
      simp -implicitDefEqProofs (maxSteps := 2000000) only [push_cast, Nat.reduceEqDiff, Nat.reduceLT, Nat.reduceLeDiff, Nat.reduceAdd, Nat.reduceMul, Nat.reduceSub, Nat.reduceBEq, ↓reduceIte, reduceCtorEq, eRoom]
      obtain ⟨h1, h2⟩ := no (by unfold mainOk; rw [hp]; simpa using h)
      rw [h1, h2]
      refine ⟨rfl, by omega, ?_⟩
      exact Close.of [some 1] rfl rfl rfl (by simp only [push_cast, Nat.reduceEqDiff, Nat.reduceLT, Nat.reduceLeDiff, Nat.reduceAdd, Nat.reduceMul, Nat.reduceSub, Nat.reduceBEq, ↓reduceIte, reduceCtorEq] <;> rfl) (by simp only [push_cast, Nat.reduceEqDiff, Nat.reduceLT, Nat.reduceLeDiff, Nat.reduceAdd, Nat.reduceMul, Nat.reduceSub, Nat.reduceBEq, ↓reduceIte, reduceCtorEq] <;> rfl)
    | some i =>
      have hat : atI es id = i := by unfold atI; rw [hp]
      obtain ⟨e, he, hid, _⟩ := posOf_some.1 hp
      have hil := (List.getElem?_eq_some_iff.1 he).1
      rw [hat]
      simp -implicitDefEqProofs (maxSteps := 2000000) only [push_cast, Nat.reduceEqDiff, Nat.reduceLT, Nat.reduceLeDiff, Nat.reduceAdd, Nat.reduceMul, Nat.reduceSub, Nat.reduceBEq, ↓reduceIte, reduceCtorEq, eRoom]
      rw [if_neg (by omega)]
      refine Callx.closed (l6Event es id i e hp he) rfl rfl (.inl rfl) ?_
      simp -implicitDefEqProofs (maxSteps := 2000000) only [push_cast, Nat.reduceEqDiff, Nat.reduceLT, Nat.reduceLeDiff, Nat.reduceAdd, Nat.reduceMul, Nat.reduceSub, Nat.reduceBEq, ↓reduceIte, reduceCtorEq, eRoom, eEvent, hfld]
      refine iteI (fun h1 => ?_) (fun h1 => ?_)
      · obtain ⟨h1, h2⟩ := no (by unfold mainOk; rw [hp]; simp only [he]; simp [h, isPow, sPower, h1])
        rw [h1, h2]
        refine ⟨rfl, by omega, ?_⟩
        exact Close.of [some 1] rfl rfl rfl (by simp only [push_cast, Nat.reduceEqDiff, Nat.reduceLT, Nat.reduceLeDiff, Nat.reduceAdd, Nat.reduceMul, Nat.reduceSub, Nat.reduceBEq, ↓reduceIte, reduceCtorEq] <;> rfl) (by simp only [push_cast, Nat.reduceEqDiff, Nat.reduceLT, Nat.reduceLeDiff, Nat.reduceAdd, Nat.reduceMul, Nat.reduceSub, Nat.reduceBEq, ↓reduceIte, reduceCtorEq] <;> rfl)
      · obtain ⟨h1, h2⟩ := yes (by unfold mainOk; rw [hp]; simp only [he]; simp [isPow, sPower, Classical.not_not.1 h1])
        rw [h1, h2, hp]
        have hm := l6Mainline es hv (some i) (fun j hj => by cases hj; exact hil) hB
        rw [show idAt es (some i) = id by simp only [idAt, he]; exact hid] at hm
        refine Callx.closed hm rfl rfl (.inr ⟨rfl, rfl⟩) ?_
        simp -implicitDefEqProofs (maxSteps := 2000000) only [push_cast, Nat.reduceEqDiff, Nat.reduceLT, Nat.reduceLeDiff, Nat.reduceAdd, Nat.reduceMul, Nat.reduceSub, Nat.reduceBEq, ↓reduceIte, reduceCtorEq, eRoom]
        exact Close.of [some 1] rfl rfl rfl (by simp only [push_cast, Nat.reduceEqDiff, Nat.reduceLT, Nat.reduceLeDiff, Nat.reduceAdd, Nat.reduceMul, Nat.reduceSub, Nat.reduceBEq, ↓reduceIte, reduceCtorEq] <;> rfl) (by simp only [push_cast, Nat.reduceEqDiff, Nat.reduceLT, Nat.reduceLeDiff, Nat.reduceAdd, Nat.reduceMul, Nat.reduceSub, Nat.reduceBEq, ↓reduceIte, reduceCtorEq] <;> rfl)
  · have hid : id = [] := Classical.not_not.1 h
    subst hid
    obtain ⟨h1, h2⟩ := yes (by simp [mainOk])
    rw [h1, h2, pos_nil hv]
    have hm := l6Mainline es hv none (fun j hj => by cases hj) hB
    refine Callx.closed hm rfl rfl (.inr ⟨rfl, rfl⟩) ?_
    simp -implicitDefEqProofs (maxSteps := 2000000) only [push_cast, Nat.reduceEqDiff, Nat.reduceLT, Nat.reduceLeDiff, Nat.reduceAdd, Nat.reduceMul, Nat.reduceSub, Nat.reduceBEq, ↓reduceIte, reduceCtorEq, eRoom]
    exact Close.of [some 1] rfl rfl rfl (by simp only [push_cast, Nat.reduceEqDiff, Nat.reduceLT, Nat.reduceLeDiff, Nat.reduceAdd, Nat.reduceMul, Nat.reduceSub, Nat.reduceBEq, ↓reduceIte, reduceCtorEq] <;> rfl) (by simp only [push_cast, Nat.reduceEqDiff, Nat.reduceLT, Nat.reduceLeDiff, Nat.reduceAdd, Nat.reduceMul, Nat.reduceSub, Nat.reduceBEq, ↓reduceIte, reduceCtorEq] <;> rfl)
def pwI (es : List Event) (i : Nat) : Int := match pwOf es i with
  | some j => j
  | none => -1
theorem powerOf (es : List Event) (hv : Valid es) (i : Nat) (hi : i < es.length) : Con P0 145 [gT es, .i .i64 i] (.t (.i .i64 (pwI es i))) [] := by
  refine Con.intro (fn := Tryz.f145) [.tmp 4] (fun _ => (0, [])) mixed (by kernel_rfl) rfl (by decide) rfl (by rfl) (by kernel_rfl) ?_
  simp -implicitDefEqProofs (maxSteps := 2000000) only [push_cast, Nat.reduceEqDiff, Nat.reduceLT, Nat.reduceLeDiff, Nat.reduceAdd, Nat.reduceMul, Nat.reduceSub, Nat.reduceBEq, ↓reduceIte, reduceCtorEq, gT, eEvent]
  have hhi := Bd.hi
  refine ⟨by omega, fun e he hal => ?_⟩
  rw [Int.toNat_natCast] at he
  have hpw : pwOf es i = fromL es isPow e.auth := by unfold pwOf; rw [he]
  refine WL.loop (ι := Nat) (D := (fun _ => (0, []))) (fun i => i ≤ e.auth.length ∧ fromL es isPow (e.auth.drop i) = fromL es isPow e.auth) (fun i => ⟨38, [(0, .t (gT es)), (15, .t (eStringS e.auth)), (16, .t (.i .i64 e.auth.length)), (17, .t (.i .i64 i))], []⟩) (fun i => e.auth.length - i) mixed (by kernel_rfl) 0 ⟨by omega, by simp⟩ (Keep.wk (ids := []) ?_) ?_
  · simp only [push_cast, Nat.reduceEqDiff, Nat.reduceLT, Nat.reduceLeDiff, Nat.reduceAdd, Nat.reduceMul, Nat.reduceSub, Nat.reduceBEq, ↓reduceIte, reduceCtorEq, gT] <;> rfl
  · rintro k ⟨hk, hf⟩
    simp -implicitDefEqProofs (maxSteps := 2000000) only [push_cast, Nat.reduceEqDiff, Nat.reduceLT, Nat.reduceLeDiff, Nat.reduceAdd, Nat.reduceMul, Nat.reduceSub, Nat.reduceBEq, ↓reduceIte, reduceCtorEq, gT]
    refine iteI (fun h => ⟨by omega, fun x hx => ?_⟩) (fun h => ?_)
    · rw [Int.toNat_natCast] at hx
      obtain ⟨j, a, _, hja, hid, hp⟩ := pos_ref ((hv.good he).auth x (List.mem_of_getElem? hx))
      have hjl := (List.getElem?_eq_some_iff.1 hja).1
      have hd := fromL_drop (p := isPow) hx hp hja
      rw [hf] at hd
      refine gLook rfl (fun j' hj' => ?_) (fun hj' => by rw [hp] at hj'; cases hj')
      rw [hp] at hj'; cases hj'
      simp -implicitDefEqProofs (maxSteps := 2000000) only [push_cast, Nat.reduceEqDiff, Nat.reduceLT, Nat.reduceLeDiff, Nat.reduceAdd, Nat.reduceMul, Nat.reduceSub, Nat.reduceBEq, ↓reduceIte, reduceCtorEq, gT, eEvent]
      refine ⟨by omega, fun a' ha' => ?_⟩
      rw [Int.toNat_natCast, hja] at ha'
      cases ha'
      refine iteI (fun h1 => ?_) (fun h1 => ?_)
      · rw [if_pos (by simp [isPow, sPower, h1])] at hd
        unfold pwI
        rw [hpw, hd]
      · rw [if_neg (by simp [isPow, sPower, h1])] at hd
        refine ⟨by unfold inI64; omega, k + 1, ⟨by omega, hd.symm⟩, by omega, Keep.wk (ids := []) ?_⟩
        simp only [push_cast, Nat.reduceEqDiff, Nat.reduceLT, Nat.reduceLeDiff, Nat.reduceAdd, Nat.reduceMul, Nat.reduceSub, Nat.reduceBEq, ↓reduceIte, reduceCtorEq, gT] <;> rfl
    · rw [List.drop_of_length_le (by omega)] at hf
      unfold pwI
      rw [hpw, ← hf]
      rfl
def oI : Option Nat → Int
  | some j => j
  | none => -1
theorem graphMainline (es : List Event) (id : List UInt8) (hr : roomB es = true) (hB : Bd.B ≤ 2147483648) : Con P0 78 [gT es, .s id] (.tp [.sr 0, .t (.b (mainB es id))]) [.arr 9 1 (.own .leaf) ((mainL es id).map T.s)] := by
  refine Con.intro (fn := Tryz.f78) [.tmp 4, .tmp 5] (fun _ => (0, [])) mixed (by kernel_rfl) rfl (by decide) rfl (by rfl) (by kernel_rfl) ?_
  simp -implicitDefEqProofs (maxSteps := 2000000) only [push_cast, Nat.reduceEqDiff, Nat.reduceLT, Nat.reduceLeDiff, Nat.reduceAdd, Nat.reduceMul, Nat.reduceSub, Nat.reduceBEq, ↓reduceIte, reduceCtorEq, gT]
  have := Bd.lo
  have hv := room_valid hr
  have yes : mainOk es id = true → mainB es id = true ∧ mainL es id = lineO es (posOf id es) := fun h => by
    have h1 : mainB es id = true := by unfold mainB; rw [hr, h]; rfl
    exact ⟨h1, if_pos h1⟩
  have no : mainOk es id = false → mainB es id = false ∧ mainL es id = [] := fun h => by
    have h1 : mainB es id = false := by unfold mainB; rw [h, Bool.and_false]
    exact ⟨h1, if_neg (by rw [h1]; simp)⟩
  refine iteI (fun h => ?_) (fun h => ?_)
  · subst h
    obtain ⟨h1, h2⟩ := yes (by simp [mainOk])
    rw [h1, h2, pos_nil hv]
    exact Close.of [none] rfl rfl rfl (by simp only [push_cast, Nat.reduceEqDiff, Nat.reduceLT, Nat.reduceLeDiff, Nat.reduceAdd, Nat.reduceMul, Nat.reduceSub, Nat.reduceBEq, ↓reduceIte, reduceCtorEq] <;> rfl) (by simp only [push_cast, Nat.reduceEqDiff, Nat.reduceLT, Nat.reduceLeDiff, Nat.reduceAdd, Nat.reduceMul, Nat.reduceSub, Nat.reduceBEq, ↓reduceIte, reduceCtorEq] <;> rfl)
  refine gLook rfl (fun i hi => ?_) (fun hi => ?_)
  · obtain ⟨e, he, hid, _⟩ := posOf_some.1 hi
    have hil := (List.getElem?_eq_some_iff.1 he).1
    simp -implicitDefEqProofs (maxSteps := 2000000) only [push_cast, Nat.reduceEqDiff, Nat.reduceLT, Nat.reduceLeDiff, Nat.reduceAdd, Nat.reduceMul, Nat.reduceSub, Nat.reduceBEq, ↓reduceIte, reduceCtorEq, gT, eEvent]
    refine ⟨by omega, fun e' he' => ?_⟩
    rw [Int.toNat_natCast, he] at he'
    cases he'
    refine iteI (fun h1 => ?_) (fun h1 => ?_)
    · obtain ⟨h1, h2⟩ := no (by unfold mainOk; rw [hi]; simp only [he]; simp [h, isPow, sPower, h1])
      rw [h1, h2]
      exact Close.of [none] rfl rfl rfl (by simp only [push_cast, Nat.reduceEqDiff, Nat.reduceLT, Nat.reduceLeDiff, Nat.reduceAdd, Nat.reduceMul, Nat.reduceSub, Nat.reduceBEq, ↓reduceIte, reduceCtorEq] <;> rfl) (by simp only [push_cast, Nat.reduceEqDiff, Nat.reduceLT, Nat.reduceLeDiff, Nat.reduceAdd, Nat.reduceMul, Nat.reduceSub, Nat.reduceBEq, ↓reduceIte, reduceCtorEq] <;> rfl)
    obtain ⟨h1, h2⟩ := yes (by unfold mainOk; rw [hi]; simp only [he]; simp [isPow, sPower, Classical.not_not.1 h1])
    rw [h1, h2, hi]
    refine ⟨rfl, by omega, ?_⟩
    refine WL.loop (ι := Option Nat × List (List UInt8)) (D := (fun _ => (0, []))) (fun k => (∀ j, k.1 = some j → j < es.length) ∧ k.2 ++ lineO es k.1 = lineO es (some i)) (fun k => ⟨53, [(0, .t (gT es)), (6, .t (.i .i64 (oI k.1))), (8, .sr 0)], [.arr 9 1 (.own .leaf) (k.2.map T.s)]⟩) (fun k => match k.1 with | some j => j + 1 | none => 0) mixed (by kernel_rfl) (some i, []) ⟨fun j hj => by cases hj; exact hil, by simp⟩ (Keep.wk (ids := [some 0]) ?_) ?_
    · simp only [push_cast, Nat.reduceEqDiff, Nat.reduceLT, Nat.reduceLeDiff, Nat.reduceAdd, Nat.reduceMul, Nat.reduceSub, Nat.reduceBEq, ↓reduceIte, reduceCtorEq, gT, oI] <;> rfl
    · rintro ⟨k, out⟩ ⟨hk, hf⟩
      simp only at hk hf
      simp -implicitDefEqProofs (maxSteps := 2000000) only [push_cast, Nat.reduceEqDiff, Nat.reduceLT, Nat.reduceLeDiff, Nat.reduceAdd, Nat.reduceMul, Nat.reduceSub, Nat.reduceBEq, ↓reduceIte, reduceCtorEq, gT, eEvent]
      have hol : out.length ≤ 300 := by
        have h1 := lineAt_len hv i
        have := hv.len
        have h2 := congrArg List.length hf
        rw [List.length_append, lineO] at h2
        simp only [lineO] at h2
        omega
      cases k with
      | none =>
        rw [if_neg (by simp [oI])]
        simp only [lineO, List.append_nil] at hf
        subst hf
        exact Close.of [some 0] rfl rfl rfl (by simp only [push_cast, Nat.reduceEqDiff, Nat.reduceLT, Nat.reduceLeDiff, Nat.reduceAdd, Nat.reduceMul, Nat.reduceSub, Nat.reduceBEq, ↓reduceIte, reduceCtorEq] <;> rfl) (by simp only [push_cast, Nat.reduceEqDiff, Nat.reduceLT, Nat.reduceLeDiff, Nat.reduceAdd, Nat.reduceMul, Nat.reduceSub, Nat.reduceBEq, ↓reduceIte, reduceCtorEq] <;> rfl)
      | some j =>
        have hjl := hk j rfl
        obtain ⟨a, ha⟩ : ∃ a, es[j]? = some a := ⟨_, List.getElem?_eq_getElem hjl⟩
        have hoi : oI (some j) = (j : Int) := rfl
        rw [hoi, if_pos (by omega)]
        refine ⟨by omega, fun a' ha' => ?_⟩
        rw [Int.toNat_natCast, ha] at ha'
        cases ha'
        refine ⟨rfl, by omega, rfl, by omega, by omega, ?_⟩
        refine Callx.closed (powerOf es hv j hjl) rfl rfl (.inr ⟨rfl, rfl⟩) ?_
        simp -implicitDefEqProofs (maxSteps := 2000000) only [push_cast, Nat.reduceEqDiff, Nat.reduceLT, Nat.reduceLeDiff, Nat.reduceAdd, Nat.reduceMul, Nat.reduceSub, Nat.reduceBEq, ↓reduceIte, reduceCtorEq, gT, eEvent]
        refine ⟨(pwOf es j, out ++ [a.id]), ⟨fun k hk => ?_, ?_⟩, ?_, Keep.wk (ids := [some 2]) ?_⟩
        · have := pwOf_lt hv hk; omega
        · simp only
          have hl : lineO es (some j) = a.id :: lineO es (pwOf es j) := lineAt_eq hv ha
          rw [hl] at hf
          rw [← hf]; simp
        · simp only
          split
          · rename_i k hk
            have := pwOf_lt hv hk; omega
          · omega
        · have hpi : pwI es j = oI (pwOf es j) := by unfold pwI oI; cases pwOf es j <;> rfl
          simp only [push_cast, Nat.reduceEqDiff, Nat.reduceLT, Nat.reduceLeDiff, Nat.reduceAdd, Nat.reduceMul, Nat.reduceSub, Nat.reduceBEq, ↓reduceIte, reduceCtorEq, gT, hpi, List.map_append] <;> rfl
  · simp -implicitDefEqProofs (maxSteps := 2000000) only [push_cast, Nat.reduceEqDiff, Nat.reduceLT, Nat.reduceLeDiff, Nat.reduceAdd, Nat.reduceMul, Nat.reduceSub, Nat.reduceBEq, ↓reduceIte, reduceCtorEq, gT]
    obtain ⟨h1, h2⟩ := no (by unfold mainOk; rw [hi]; simpa using h)
    rw [h1, h2]
    exact Close.of [none] rfl rfl rfl (by simp only [push_cast, Nat.reduceEqDiff, Nat.reduceLT, Nat.reduceLeDiff, Nat.reduceAdd, Nat.reduceMul, Nat.reduceSub, Nat.reduceBEq, ↓reduceIte, reduceCtorEq] <;> rfl) (by simp only [push_cast, Nat.reduceEqDiff, Nat.reduceLT, Nat.reduceLeDiff, Nat.reduceAdd, Nat.reduceMul, Nat.reduceSub, Nat.reduceBEq, ↓reduceIte, reduceCtorEq] <;> rfl)
theorem graphMainlineNil (id : List UInt8) : Con P0 78 [.np, .s id] (.tp [.sr 0, .t (.b false)]) [.arr 9 1 (.own .leaf) []] := by
  refine Con.intro (fn := Tryz.f78) [.tmp 4, .tmp 5] (fun _ => (0, [])) mixed (by kernel_rfl) rfl (by decide) rfl (by rfl) (by kernel_rfl) ?_
  simp -implicitDefEqProofs (maxSteps := 2000000) only [push_cast, Nat.reduceEqDiff, Nat.reduceLT, Nat.reduceLeDiff, Nat.reduceAdd, Nat.reduceMul, Nat.reduceSub, Nat.reduceBEq, ↓reduceIte, reduceCtorEq]
  exact Close.of [none] rfl rfl rfl (by simp only [push_cast, Nat.reduceEqDiff, Nat.reduceLT, Nat.reduceLeDiff, Nat.reduceAdd, Nat.reduceMul, Nat.reduceSub, Nat.reduceBEq, ↓reduceIte, reduceCtorEq] <;> rfl) (by simp only [push_cast, Nat.reduceEqDiff, Nat.reduceLT, Nat.reduceLeDiff, Nat.reduceAdd, Nat.reduceMul, Nat.reduceSub, Nat.reduceBEq, ↓reduceIte, reduceCtorEq] <;> rfl)
end Go.Proofs.YtmgdkkhnjkepiaaGreat.BX
namespace Go.Proofs.YtmgdkkhnjkepiaaGreat.BX
set_option linter.unusedSectionVars false
set_option linter.unusedSimpArgs false
set_option linter.unusedVariables false
open Go Go.RowKit
set_option maxRecDepth 20000
set_option maxHeartbeats 400000
def dig (k : Nat) : UInt8 := UInt8.ofNat (IntKind.u8.wrap (48 + (k : Int) % 10)).toNat
def digs (k : Nat) (out : List UInt8) : List UInt8 := if _h : k = 0 then out else digs (k / 10) (dig k :: out)
termination_by k
decreasing_by omega
theorem digs_zero {out : List UInt8} : digs 0 out = out := by rw [digs]; simp
theorem digs_pos {k : Nat} {out : List UInt8} (h : 0 < k) : digs k out = digs (k / 10) (dig k :: out) := by
  rw [digs, dif_neg (by omega)]
def mkT (k : Int) : List UInt8 := if k ≤ 0 then [109, 48] else 109 :: digs k.toNat []
variable [Bd]
theorem markText (k : Int) (hk : k < 1000000000000000000) : Con P0 82 [.i .i64 k] (.t (.s (mkT k))) [] := by
  refine Con.intro (fn := Tryz.f82) [.tmp 2] (fun _ => (0, [])) mixed (by kernel_rfl) rfl (by decide) rfl (by rfl) (by kernel_rfl) ?_
  simp -implicitDefEqProofs (maxSteps := 2000000) only [push_cast, Nat.reduceEqDiff, Nat.reduceLT, Nat.reduceLeDiff, Nat.reduceAdd, Nat.reduceMul, Nat.reduceSub, Nat.reduceBEq, ↓reduceIte, reduceCtorEq]
  have := Bd.lo
  split
  · rename_i h
    unfold mkT
    rw [if_pos h]
  rename_i h
  refine WL.loop (ι := Nat × List UInt8) (D := (fun _ => (0, []))) (fun x => digs x.1 x.2 = digs k.toNat [] ∧ ∃ m, x.1 < 10 ^ m ∧ x.2.length + m ≤ 18) (fun x => ⟨20, [(0, .t (.i .i64 x.1)), (3, .t (.s x.2))], []⟩) (fun x => x.1) mixed (by kernel_rfl) (k.toNat, []) ⟨rfl, 18, by dsimp only; omega, by simp⟩ (Keep.wk (ids := []) ?_) ?_
  · simp only [push_cast, Nat.reduceEqDiff, Nat.reduceLT, Nat.reduceLeDiff, Nat.reduceAdd, Nat.reduceMul, Nat.reduceSub, Nat.reduceBEq, ↓reduceIte, reduceCtorEq, T.i.injEq, AV.t.injEq, Int.toNat_of_nonneg (show 0 ≤ k by omega)] <;> rfl
  · rintro ⟨j, out⟩ ⟨hj, m, hm, hl⟩
    dsimp only at hj hm hl ⊢
    simp -implicitDefEqProofs (maxSteps := 2000000) only [push_cast, Nat.reduceEqDiff, Nat.reduceLT, Nat.reduceLeDiff, Nat.reduceAdd, Nat.reduceMul, Nat.reduceSub, Nat.reduceBEq, ↓reduceIte, reduceCtorEq]
    split
    · rename_i hpos
      have hm0 : m ≠ 0 := by rintro rfl; simp at hm; omega
      obtain ⟨m', rfl⟩ := Nat.exists_eq_succ_of_ne_zero hm0
      refine ⟨by omega, by omega, by unfold inI64; omega, rfl, by omega, by omega, by omega, by omega, ?_, (j / 10, dig j :: out), ⟨?_, m', ?_, ?_⟩, ?_, Keep.wk (ids := []) ?_⟩
      · have : 10 ^ (m' + 1) ≤ 10 ^ 18 := Nat.pow_le_pow_right (by omega) (by omega)
        unfold inI64; omega
      · dsimp only; rw [← hj, digs_pos (k := j) (by omega)]
      · dsimp only; rw [Nat.pow_succ] at hm; omega
      · simp only [List.length_cons]; omega
      · dsimp only; omega
      · simp only [push_cast, Nat.reduceEqDiff, Nat.reduceLT, Nat.reduceLeDiff, Nat.reduceAdd, Nat.reduceMul, Nat.reduceSub, Nat.reduceBEq, ↓reduceIte, reduceCtorEq] <;> first | rfl | exact ⟨rfl, rfl⟩
    · have hj0 : j = 0 := by omega
      subst hj0
      rw [digs_zero] at hj
      refine ⟨by omega, ?_⟩
      unfold mkT
      rw [if_neg h, hj]
end Go.Proofs.YtmgdkkhnjkepiaaGreat.BX
namespace Go.Proofs.YtmgdkkhnjkepiaaGreat.BX
set_option linter.unusedSectionVars false
set_option linter.unusedSimpArgs false
set_option linter.unusedVariables false
open Go Go.RowKit
set_option maxRecDepth 20000
set_option maxHeartbeats 400000
section
variable {α : Type} (mk : α → Int → α) (w : α → Nat)
def mkL : List α → Int → List α
  | [], _ => []
  | x :: xs, k => mk x k :: mkL xs (k + w x)
def totL : List α → Nat
  | [] => 0
  | x :: xs => w x + totL xs
def mkLTo (xs : List α) (k : Int) (i : Nat) : List α := mkL mk w (xs.take i) k ++ xs.drop i
variable {mk w} {xs : List α} {k : Int} {i : Nat} {x : α}
theorem mkL_len : ∀ {xs : List α} {k : Int}, (mkL mk w xs k).length = xs.length
  | [], _ => rfl
  | x :: xs, k => by simp only [mkL, List.length_cons, mkL_len (xs := xs)]
theorem totL_app : ∀ {xs ys : List α}, totL w (xs ++ ys) = totL w xs + totL w ys
  | [], ys => by simp [totL]
  | x :: xs, ys => by simp only [List.cons_append, totL, totL_app (xs := xs)]; omega
theorem mkL_snoc : ∀ {xs : List α} {k : Int}, mkL mk w (xs ++ [x]) k = mkL mk w xs k ++ [mk x (k + totL w xs)]
  | [], k => by simp [mkL, totL]
  | y :: xs, k => by
    simp only [List.cons_append, mkL, totL, mkL_snoc (xs := xs)]
    rw [show k + w y + (totL w xs : Int) = k + (w y + totL w xs : Nat) by omega]
theorem totL_take (h : xs[i]? = some x) : totL w (xs.take (i + 1)) = totL w (xs.take i) + w x := by
  rw [List.take_add_one, h, totL_app]; rfl
theorem totL_le : totL w (xs.take i) ≤ totL w xs := by
  conv => rhs; rw [← List.take_append_drop i xs, totL_app]
  omega
theorem totL_const {c : Nat} (h : ∀ x, w x = c) : ∀ {xs : List α}, totL w xs = c * xs.length
  | [] => by simp [totL]
  | x :: xs => by simp only [totL, h, totL_const h (xs := xs), List.length_cons, Nat.mul_add]; omega
theorem mkLTo_len (h : i ≤ xs.length) : (mkLTo mk w xs k i).length = xs.length := by simp [mkLTo, mkL_len]; omega
theorem mkLTo_zero : mkLTo mk w xs k 0 = xs := by simp [mkLTo, mkL]
theorem mkLTo_all : mkLTo mk w xs k xs.length = mkL mk w xs k := by simp [mkLTo]
theorem mkLTo_get (h : xs[i]? = some x) : (mkLTo mk w xs k i)[i]? = some x := by
  have hi := (List.getElem?_eq_some_iff.1 h).1
  unfold mkLTo
  have hl : (mkL mk w (xs.take i) k).length = i := by rw [mkL_len, List.length_take]; omega
  rw [List.getElem?_append_right (by omega), hl, Nat.sub_self, List.getElem?_drop]
  simpa using h
theorem mkLTo_set (h : xs[i]? = some x) : (mkLTo mk w xs k i).set i (mk x (k + totL w (xs.take i))) = mkLTo mk w xs k (i + 1) := by
  have hi := (List.getElem?_eq_some_iff.1 h).1
  unfold mkLTo
  have hl : (mkL mk w (xs.take i) k).length = i := by rw [mkL_len, List.length_take]; omega
  rw [List.set_append_right _ _ (by omega), hl, Nat.sub_self]
  have hd : xs.drop i = x :: xs.drop (i + 1) := by
    rw [List.drop_eq_getElem_cons hi]
    congr 1
    exact (List.getElem?_eq_some_iff.1 h).2
  rw [hd, List.set_cons_zero, List.take_add_one, h, Option.toList_some, mkL_snoc]
  simp
theorem mkL_get (h : xs[i]? = some x) : (mkL mk w xs k)[i]? = some (mk x (k + totL w (xs.take i))) := by
  have hi := (List.getElem?_eq_some_iff.1 h).1
  have e : xs = (xs.take i ++ [x]) ++ xs.drop (i + 1) := by
    have : xs.take i ++ [x] = xs.take (i + 1) := by rw [List.take_add_one, h]; rfl
    rw [this, List.take_append_drop]
  have app : ∀ (us vs : List α) (k : Int), mkL mk w (us ++ vs) k = mkL mk w us k ++ mkL mk w vs (k + totL w us) := by
    intro us
    induction us with
    | nil => intro vs k; simp [mkL, totL]
    | cons a us ih =>
      intro vs k
      simp only [List.cons_append, mkL, totL, ih]
      rw [show k + w a + (totL w us : Int) = k + (w a + totL w us : Nat) by omega]
  have hl : (mkL mk w (xs.take i) k).length = i := by rw [mkL_len, List.length_take]; omega
  conv => lhs; rw [e, app, mkL_snoc]
  rw [List.getElem?_append_left (by rw [List.length_append, hl]; simp), List.getElem?_append_right (by omega), hl, Nat.sub_self]
  rfl
end
def wC {α : Type} (n : Nat) (_ : α) : Nat := n
theorem totC {α : Type} {n : Nat} {xs : List α} : totL (wC n) xs = n * xs.length := totL_const fun _ => rfl
def mkString1 (_ : List UInt8) (k : Int) : List UInt8 := mkT (k)
abbrev mkStringL (xs : List (List UInt8)) (k : Int) : List (List UInt8) := mkL mkString1 (wC 1) xs k
section
variable [Bd]
theorem markStringS (xs : List (List UInt8)) (k : Int) (h0 : 0 ≤ k) (hk : k + 1 * xs.length ≤ 4611686018427387) : ConM P0 29 [.sr 0, .t (.i .i64 k)] [.arr 9 1 (.own .leaf) (xs.map T.s)] (.t (.i .i64 (k + (totL (wC 1) xs : Nat)))) [.arr 9 1 (.own .leaf) ((mkStringL xs k).map T.s)] := by
  refine ConM.intro (fn := Tryz.f29) [.tmp 4] (fun _ => (0, [])) mixed (by kernel_rfl) rfl (by decide) rfl (by rfl) (by kernel_rfl) ?_
  simp -implicitDefEqProofs (maxSteps := 2000000) only [push_cast, Nat.reduceEqDiff, Nat.reduceLT, Nat.reduceLeDiff, Nat.reduceAdd, Nat.reduceMul, Nat.reduceSub, Nat.reduceBEq, ↓reduceIte, reduceCtorEq]
  have htt := totC (n := 1) (xs := xs)
  refine WL.loop (ι := Nat) (D := (fun _ => (0, []))) (fun i => i ≤ xs.length) (fun i => ⟨20, [(0, .sr 0), (1, .t (.i .i64 (k + (totL (wC 1) (xs.take i) : Nat)))), (5, .t (.i .i64 i))], [.arr 9 1 (.own .leaf) ((mkLTo mkString1 (wC 1) xs k i).map T.s)]⟩) (fun i => xs.length - i) mixed (by kernel_rfl) 0 (by omega) (Keep.wk (ids := [some 0]) ?_) ?_
  · simp only [push_cast, Nat.reduceEqDiff, Nat.reduceLT, Nat.reduceLeDiff, Nat.reduceAdd, Nat.reduceMul, Nat.reduceSub, Nat.reduceBEq, ↓reduceIte, reduceCtorEq, mkLTo_zero, totL, List.take_zero, Int.add_zero, Int.cast_ofNat_Int] <;> trivial
  · intro i hi
    simp -implicitDefEqProofs (maxSteps := 2000000) only [push_cast, Nat.reduceEqDiff, Nat.reduceLT, Nat.reduceLeDiff, Nat.reduceAdd, Nat.reduceMul, Nat.reduceSub, Nat.reduceBEq, ↓reduceIte, reduceCtorEq, mkLTo_len hi]
    intro _
    have := Bd.hi
    refine iteI (fun h => ?_) (fun h => ?_)
    · obtain ⟨x, hx⟩ : ∃ x, xs[i]? = some x := ⟨xs[i], List.getElem?_eq_getElem (by omega)⟩
      have ht := totL_take (w := (wC 1)) hx
      have hl := totL_le (w := (wC 1)) (xs := xs) (i := i + 1)
      have hw : (wC 1) x = 1 := rfl
      refine Callx.closed (markText (k + (totL (wC 1) (xs.take i) : Nat)) (by omega)) rfl rfl (.inl rfl) ?_
      simp -implicitDefEqProofs (maxSteps := 2000000) only [push_cast, Nat.reduceEqDiff, Nat.reduceLT, Nat.reduceLeDiff, Nat.reduceAdd, Nat.reduceMul, Nat.reduceSub, Nat.reduceBEq, ↓reduceIte, reduceCtorEq, mkLTo_len hi]
      refine ⟨by omega, by omega, fun a ha => ?_⟩
      refine ⟨by unfold inI64; omega, ?_⟩
      refine ⟨by unfold inI64; omega, i + 1, by omega, by omega, Keep.wk (ids := [some 0]) ?_⟩
      have e3 : ((mkLTo mkString1 (wC 1) xs k i).map T.s).set i (T.s (mkT (k + (totL (wC 1) (xs.take i) : Nat)))) = (mkLTo mkString1 (wC 1) xs k (i + 1)).map T.s := by rw [← mkLTo_set hx, List.map_set]; rfl
      simp only [push_cast, Nat.reduceEqDiff, Nat.reduceLT, Nat.reduceLeDiff, Nat.reduceAdd, Nat.reduceMul, Nat.reduceSub, Nat.reduceBEq, ↓reduceIte, reduceCtorEq, Int.toNat_natCast, List.set_set, e3, T.i.injEq, AV.t.injEq] <;> omega
    · have hi : i = xs.length := by omega
      subst hi
      rw [mkLTo_all, List.take_length]
      exact ⟨rfl, Rest.of [some 0] rfl rfl (by simp only [push_cast, Nat.reduceEqDiff, Nat.reduceLT, Nat.reduceLeDiff, Nat.reduceAdd, Nat.reduceMul, Nat.reduceSub, Nat.reduceBEq, ↓reduceIte, reduceCtorEq] <;> rfl)⟩
end
section
variable [Bd]
theorem heldStringS (xs : List (List UInt8)) (k : Int) (h0 : 0 ≤ k) (hk : k + 1 * xs.length ≤ 4611686018427387) : Con P0 30 [eStringS (mkStringL xs k), .i .i64 k] (.t (.i .i64 (k + (totL (wC 1) xs : Nat)))) [] := by
  refine Con.intro (fn := Tryz.f30) [.tmp 4] (fun i => if i = 4 then (7, []) else (0, [])) mixed (by kernel_rfl) rfl (by decide) rfl (by rfl) (by kernel_rfl) ?_
  simp -implicitDefEqProofs (maxSteps := 2000000) only [push_cast, Nat.reduceEqDiff, Nat.reduceLT, Nat.reduceLeDiff, Nat.reduceAdd, Nat.reduceMul, Nat.reduceSub, Nat.reduceBEq, ↓reduceIte, reduceCtorEq]
  have htt := totC (n := 1) (xs := xs)
  refine WL.loop (ι := Nat) (D := (fun i => if i = 4 then (7, []) else (0, []))) (fun i => i ≤ xs.length) (fun i => ⟨22, [(0, .t (eStringS (mkStringL xs k))), (1, .t (.i .i64 (k + (totL (wC 1) (xs.take i) : Nat)))), (5, .t (.i .i64 i))], []⟩) (fun i => xs.length - i) mixed (by kernel_rfl) 0 (by omega) (Keep.wk (ids := []) ?_) ?_
  · simp only [push_cast, Nat.reduceEqDiff, Nat.reduceLT, Nat.reduceLeDiff, Nat.reduceAdd, Nat.reduceMul, Nat.reduceSub, Nat.reduceBEq, ↓reduceIte, reduceCtorEq, totL, List.take_zero, Int.add_zero, Int.cast_ofNat_Int] <;> trivial
  · intro i hi
    simp -implicitDefEqProofs (maxSteps := 2000000) only [push_cast, Nat.reduceEqDiff, Nat.reduceLT, Nat.reduceLeDiff, Nat.reduceAdd, Nat.reduceMul, Nat.reduceSub, Nat.reduceBEq, ↓reduceIte, reduceCtorEq, mkL_len]
    intro _
    have := Bd.hi
    refine iteI (fun h => ?_) (fun h => ?_)
    · obtain ⟨x, hx⟩ : ∃ x, xs[i]? = some x := ⟨xs[i], List.getElem?_eq_getElem (by omega)⟩
      have ht := totL_take (w := (wC 1)) hx
      have hl := totL_le (w := (wC 1)) (xs := xs) (i := i + 1)
      have hw : (wC 1) x = 1 := rfl
      refine ⟨by omega, fun a ha => ?_⟩
      rw [Int.toNat_natCast, mkL_get hx] at ha
      cases ha
      refine CallV.t (markText (k + (totL (wC 1) (xs.take i) : Nat)) (by omega)) (.inl rfl) ?_
      simp -implicitDefEqProofs (maxSteps := 2000000) only [push_cast, Nat.reduceEqDiff, Nat.reduceLT, Nat.reduceLeDiff, Nat.reduceAdd, Nat.reduceMul, Nat.reduceSub, Nat.reduceBEq, ↓reduceIte, reduceCtorEq, mkL_len]
      rw [if_neg (fun h => h rfl)]
      refine ⟨by unfold inI64; omega, ?_⟩
      refine ⟨by unfold inI64; omega, i + 1, by omega, by omega, Keep.wk (ids := []) ?_⟩
      simp only [push_cast, Nat.reduceEqDiff, Nat.reduceLT, Nat.reduceLeDiff, Nat.reduceAdd, Nat.reduceMul, Nat.reduceSub, Nat.reduceBEq, ↓reduceIte, reduceCtorEq, T.i.injEq, AV.t.injEq] <;> omega
    · have hi : i = xs.length := by omega
      subst hi
      rw [List.take_length]
end
def mkGrant1 (_ : Grant) (k : Int) : Grant := ⟨mkT (k), k + 1⟩
abbrev mkGrantL (xs : List Grant) (k : Int) : List Grant := mkL mkGrant1 (wC 2) xs k
section
variable [Bd]
theorem markGrantS (xs : List Grant) (k : Int) (h0 : 0 ≤ k) (hk : k + 2 * xs.length ≤ 4611686018427387) : ConM P0 150 [.sr 0, .t (.i .i64 k)] [.arr 138 2 (.own (.ag [.leaf, .leaf])) (xs.map eGrant)] (.t (.i .i64 (k + (totL (wC 2) xs : Nat)))) [.arr 138 2 (.own (.ag [.leaf, .leaf])) ((mkGrantL xs k).map eGrant)] := by
  refine ConM.intro (fn := Tryz.f150) [.tmp 4] (fun _ => (0, [])) mixed (by kernel_rfl) rfl (by decide) rfl (by rfl) (by kernel_rfl) ?_
  simp -implicitDefEqProofs (maxSteps := 2000000) only [push_cast, Nat.reduceEqDiff, Nat.reduceLT, Nat.reduceLeDiff, Nat.reduceAdd, Nat.reduceMul, Nat.reduceSub, Nat.reduceBEq, ↓reduceIte, reduceCtorEq]
  have htt := totC (n := 2) (xs := xs)
  refine WL.loop (ι := Nat) (D := (fun _ => (0, []))) (fun i => i ≤ xs.length) (fun i => ⟨28, [(0, .sr 0), (1, .t (.i .i64 (k + (totL (wC 2) (xs.take i) : Nat)))), (5, .t (.i .i64 i))], [.arr 138 2 (.own (.ag [.leaf, .leaf])) ((mkLTo mkGrant1 (wC 2) xs k i).map eGrant)]⟩) (fun i => xs.length - i) mixed (by kernel_rfl) 0 (by omega) (Keep.wk (ids := [some 0]) ?_) ?_
  · simp only [push_cast, Nat.reduceEqDiff, Nat.reduceLT, Nat.reduceLeDiff, Nat.reduceAdd, Nat.reduceMul, Nat.reduceSub, Nat.reduceBEq, ↓reduceIte, reduceCtorEq, mkLTo_zero, totL, List.take_zero, Int.add_zero, Int.cast_ofNat_Int] <;> trivial
  · intro i hi
    simp -implicitDefEqProofs (maxSteps := 2000000) only [push_cast, Nat.reduceEqDiff, Nat.reduceLT, Nat.reduceLeDiff, Nat.reduceAdd, Nat.reduceMul, Nat.reduceSub, Nat.reduceBEq, ↓reduceIte, reduceCtorEq, mkLTo_len hi, eGrant]
    intro _
    have := Bd.hi
    refine iteI (fun h => ?_) (fun h => ?_)
    · obtain ⟨x, hx⟩ : ∃ x, xs[i]? = some x := ⟨xs[i], List.getElem?_eq_getElem (by omega)⟩
      have ht := totL_take (w := (wC 2)) hx
      have hl := totL_le (w := (wC 2)) (xs := xs) (i := i + 1)
      have hw : (wC 2) x = 2 := rfl
      refine Callx.closed (markText (k + (totL (wC 2) (xs.take i) : Nat)) (by omega)) rfl rfl (.inl rfl) ?_
      simp -implicitDefEqProofs (maxSteps := 2000000) only [push_cast, Nat.reduceEqDiff, Nat.reduceLT, Nat.reduceLeDiff, Nat.reduceAdd, Nat.reduceMul, Nat.reduceSub, Nat.reduceBEq, ↓reduceIte, reduceCtorEq, mkLTo_len hi, eGrant]
      refine ⟨by omega, by omega, fun a ha => ?_⟩
      rw [Int.toNat_natCast, mkLTo_get hx] at ha
      obtain rfl : x = a := Option.some.inj ha
      refine ⟨by unfold inI64; omega, ?_⟩
      refine ⟨by omega, by omega, fun _ => ?_⟩
      refine ⟨by unfold inI64; omega, ?_⟩
      refine ⟨by unfold inI64; omega, i + 1, by omega, by omega, Keep.wk (ids := [some 0]) ?_⟩
      have e3 : ((mkLTo mkGrant1 (wC 2) xs k i).map eGrant).set i (T.ag [T.s (mkT (k + (totL (wC 2) (xs.take i) : Nat))), T.i .i64 (k + (totL (wC 2) (xs.take i) : Nat) + 1)]) = (mkLTo mkGrant1 (wC 2) xs k (i + 1)).map eGrant := by rw [← mkLTo_set hx, List.map_set]; rfl
      simp only [push_cast, Nat.reduceEqDiff, Nat.reduceLT, Nat.reduceLeDiff, Nat.reduceAdd, Nat.reduceMul, Nat.reduceSub, Nat.reduceBEq, ↓reduceIte, reduceCtorEq, Int.toNat_natCast, List.set_set, e3, T.i.injEq, AV.t.injEq] <;> omega
    · have hi : i = xs.length := by omega
      subst hi
      rw [mkLTo_all, List.take_length]
      exact ⟨rfl, Rest.of [some 0] rfl rfl (by simp only [push_cast, Nat.reduceEqDiff, Nat.reduceLT, Nat.reduceLeDiff, Nat.reduceAdd, Nat.reduceMul, Nat.reduceSub, Nat.reduceBEq, ↓reduceIte, reduceCtorEq] <;> rfl)⟩
end
end Go.Proofs.YtmgdkkhnjkepiaaGreat.BX
namespace Go.Proofs.YtmgdkkhnjkepiaaGreat.BX
set_option linter.unusedSectionVars false
set_option linter.unusedSimpArgs false
set_option linter.unusedVariables false
open Go Go.RowKit
set_option maxRecDepth 20000
set_option maxHeartbeats 400000
def wEv (x : Event) : Nat := 6 + totL (wC 1) x.prev + totL (wC 1) x.auth + 1 + totL (wC 2) x.grants
def mkEv (x : Event) (k : Int) : Event := ⟨mkT k, mkT (k + 1), mkT (k + 1 + 1), decide ((k + 1 + 1 + 1) % 3 = 0), mkT (k + 1 + 1 + 1 + 1), k + 1 + 1 + 1 + 1 + 1, mkStringL x.prev (k + 1 + 1 + 1 + 1 + 1 + 1), mkStringL x.auth (k + 1 + 1 + 1 + 1 + 1 + 1 + (totL (wC 1) x.prev : Nat)),
  mkT (k + 1 + 1 + 1 + 1 + 1 + 1 + (totL (wC 1) x.prev : Nat) + (totL (wC 1) x.auth : Nat)), mkGrantL x.grants (k + 1 + 1 + 1 + 1 + 1 + 1 + (totL (wC 1) x.prev : Nat) + (totL (wC 1) x.auth : Nat) + 1)⟩
abbrev mkEventL (xs : List Event) (k : Int) : List Event := mkL mkEv wEv xs k
def mkEv6 (x : Event) (k : Int) : Event := { x with id := mkT k, sender := mkT (k + 1), typ := mkT (k + 1 + 1), isState := decide ((k + 1 + 1 + 1) % 3 = 0), key := mkT (k + 1 + 1 + 1 + 1), time := k + 1 + 1 + 1 + 1 + 1 }
def mkEv7 (x : Event) (k : Int) : Event := { mkEv6 x k with prev := mkStringL x.prev (k + 1 + 1 + 1 + 1 + 1 + 1) }
def mkEv8 (x : Event) (k : Int) : Event := { mkEv7 x k with auth := mkStringL x.auth (k + 1 + 1 + 1 + 1 + 1 + 1 + (totL (wC 1) x.prev : Nat)) }
def mkEv9 (x : Event) (k : Int) : Event := { mkEv8 x k with value := mkT (k + 1 + 1 + 1 + 1 + 1 + 1 + (totL (wC 1) x.prev : Nat) + (totL (wC 1) x.auth : Nat)) }
variable [Bd]
theorem markEventS (xs : List Event) (k : Int) (h0 : 0 ≤ k) (hk : k + totL wEv xs ≤ 4611686018427387) : ConM P0 81 [.sr 0, .t (.i .i64 k)] [.arr 42 10 (.own (.ag [.leaf, .leaf, .leaf, .leaf, .leaf, .leaf, .sl 9 1 .leaf, .sl 9 1 .leaf, .leaf, .sl 138 2 (.ag [.leaf, .leaf])])) (xs.map eEvent)] (.t (.i .i64 (k + (totL wEv xs : Nat)))) [.arr 42 10 (.own (.ag [.leaf, .leaf, .leaf, .leaf, .leaf, .leaf, .sl 9 1 .leaf, .sl 9 1 .leaf, .leaf, .sl 138 2 (.ag [.leaf, .leaf])])) ((mkEventL xs k).map eEvent)] := by
  refine ConM.intro (fn := Tryz.f81) [.tmp 4] (fun i => if i = 18 then (999999, []) else if i = 17 then (999999, []) else (0, [])) mixed (by kernel_rfl) rfl (by decide) rfl (by rfl) (by kernel_rfl) ?_
  simp -implicitDefEqProofs (maxSteps := 2000000) only [push_cast, Nat.reduceEqDiff, Nat.reduceLT, Nat.reduceLeDiff, Nat.reduceAdd, Nat.reduceMul, Nat.reduceSub, Nat.reduceBEq, ↓reduceIte, reduceCtorEq]
  refine WL.loop (ι := Nat) (D := (fun i => if i = 18 then (999999, []) else if i = 17 then (999999, []) else (0, []))) (fun i => i ≤ xs.length) (fun i => ⟨90, [(0, .sr 0), (1, .t (.i .i64 (k + (totL wEv (xs.take i) : Nat)))), (5, .t (.i .i64 i))], [.arr 42 10 (.own (.ag [.leaf, .leaf, .leaf, .leaf, .leaf, .leaf, .sl 9 1 .leaf, .sl 9 1 .leaf, .leaf, .sl 138 2 (.ag [.leaf, .leaf])])) ((mkLTo mkEv wEv xs k i).map eEvent)]⟩) (fun i => xs.length - i) mixed (by kernel_rfl) 0 (by omega) (Keep.wk (ids := [some 0]) ?_) ?_
  · simp only [push_cast, Nat.reduceEqDiff, Nat.reduceLT, Nat.reduceLeDiff, Nat.reduceAdd, Nat.reduceMul, Nat.reduceSub, Nat.reduceBEq, ↓reduceIte, reduceCtorEq, mkLTo_zero, totL, List.take_zero, Int.add_zero, Int.cast_ofNat_Int] <;> trivial
  · intro i hi
    simp -implicitDefEqProofs (maxSteps := 2000000) only [push_cast, Nat.reduceEqDiff, Nat.reduceLT, Nat.reduceLeDiff, Nat.reduceAdd, Nat.reduceMul, Nat.reduceSub, Nat.reduceBEq, ↓reduceIte, reduceCtorEq, mkLTo_len hi, eEvent]
    intro _
    have := Bd.hi
    refine iteI (fun h => ?_) (fun h => ?_)
    · obtain ⟨x, hx⟩ : ∃ x, xs[i]? = some x := ⟨xs[i], List.getElem?_eq_getElem (by omega)⟩
      have ht := totL_take (w := wEv) hx
      have hl := totL_le (w := wEv) (xs := xs) (i := i + 1)
      have hw : wEv x = 6 + totL (wC 1) x.prev + totL (wC 1) x.auth + 1 + totL (wC 2) x.grants := rfl
      have c1 := totC (n := 1) (xs := x.prev)
      have c2 := totC (n := 1) (xs := x.auth)
      have c3 := totC (n := 2) (xs := x.grants)
      refine Callx.closed (markText (k + (totL wEv (xs.take i) : Nat)) (by omega)) rfl rfl (.inl rfl) ?_
      simp -implicitDefEqProofs (maxSteps := 2000000) only [push_cast, Nat.reduceEqDiff, Nat.reduceLT, Nat.reduceLeDiff, Nat.reduceAdd, Nat.reduceMul, Nat.reduceSub, Nat.reduceBEq, ↓reduceIte, reduceCtorEq, mkLTo_len hi, eEvent]
      refine ⟨by omega, by omega, fun a ha => ?_⟩
      rw [Int.toNat_natCast, mkLTo_get hx] at ha
      obtain rfl : x = a := Option.some.inj ha
      refine ⟨by unfold inI64; omega, ?_⟩
      refine Callx.closed (markText (k + (totL wEv (xs.take i) : Nat) + 1) (by omega)) rfl rfl (.inl rfl) ?_
      simp -implicitDefEqProofs (maxSteps := 2000000) only [push_cast, Nat.reduceEqDiff, Nat.reduceLT, Nat.reduceLeDiff, Nat.reduceAdd, Nat.reduceMul, Nat.reduceSub, Nat.reduceBEq, ↓reduceIte, reduceCtorEq, mkLTo_len hi, eEvent]
      refine ⟨by omega, by omega, fun _ => ⟨by unfold inI64; omega, ?_⟩⟩
      refine Callx.closed (markText (k + (totL wEv (xs.take i) : Nat) + 1 + 1) (by omega)) rfl rfl (.inl rfl) ?_
      simp -implicitDefEqProofs (maxSteps := 2000000) only [push_cast, Nat.reduceEqDiff, Nat.reduceLT, Nat.reduceLeDiff, Nat.reduceAdd, Nat.reduceMul, Nat.reduceSub, Nat.reduceBEq, ↓reduceIte, reduceCtorEq, mkLTo_len hi, eEvent]
      refine ⟨by omega, by omega, fun _ => ⟨by unfold inI64; omega, by omega, by omega, by omega, by omega, fun _ => ⟨by unfold inI64; omega, ?_⟩⟩⟩
      refine Callx.closed (markText (k + (totL wEv (xs.take i) : Nat) + 1 + 1 + 1 + 1) (by omega)) rfl rfl (.inl rfl) ?_
      simp -implicitDefEqProofs (maxSteps := 2000000) only [push_cast, Nat.reduceEqDiff, Nat.reduceLT, Nat.reduceLeDiff, Nat.reduceAdd, Nat.reduceMul, Nat.reduceSub, Nat.reduceBEq, ↓reduceIte, reduceCtorEq, mkLTo_len hi, eEvent]
      refine ⟨by omega, by omega, fun _ => ⟨by unfold inI64; omega, by omega, by omega, fun _ => ⟨by unfold inI64; omega, by omega, .inr ⟨by omega, fun _ => ?_⟩⟩⟩⟩
      generalize hK : k + (totL wEv (xs.take i) : Nat) = K
      have hn : (mkLTo mkEv wEv xs k i).length = xs.length := mkLTo_len hi
      have hset : ∀ (e e' : Event), (((mkLTo mkEv wEv xs k i).set i e).map eEvent).set i (eEvent e') = ((mkLTo mkEv wEv xs k i).set i e').map eEvent := fun e e' => by rw [← List.map_set, List.set_set]
      have hg : ∀ e : Event, (((mkLTo mkEv wEv xs k i).set i e).map eEvent)[i]? = some (eEvent e) := fun e => by rw [List.getElem?_map, List.getElem?_set_self (by omega)]; rfl
      have h6 : ((mkLTo mkEv wEv xs k i).map eEvent).set i (T.ag [T.s (mkT K), T.s (mkT (K + 1)), T.s (mkT (K + 1 + 1)), T.b (decide ((K + 1 + 1 + 1) % 3 = 0)), T.s (mkT (K + 1 + 1 + 1 + 1)), T.i .i64 (K + 1 + 1 + 1 + 1 + 1), eStringS x.prev, eStringS x.auth, T.s x.value, eGrantS x.grants]) = ((mkLTo mkEv wEv xs k i).set i (mkEv6 x K)).map eEvent := by rw [List.map_set]; rfl
      rw [Int.toNat_natCast, h6]
      refine Callx.hand [1] (markStringS x.prev (K + 1 + 1 + 1 + 1 + 1 + 1) (by omega) (by omega)) (by decide) ?_ rfl rfl ?_ rfl (.inr ⟨rfl, by simp only [push_cast, Nat.reduceEqDiff, Nat.reduceLT, Nat.reduceLeDiff, Nat.reduceAdd, Nat.reduceMul, Nat.reduceSub, Nat.reduceBEq, ↓reduceIte, reduceCtorEq]⟩) ?_
      · simp only [push_cast, Nat.reduceEqDiff, Nat.reduceLT, Nat.reduceLeDiff, Nat.reduceAdd, Nat.reduceMul, Nat.reduceSub, Nat.reduceBEq, ↓reduceIte, reduceCtorEq]
      · simp only [push_cast, Nat.reduceEqDiff, Nat.reduceLT, Nat.reduceLeDiff, Nat.reduceAdd, Nat.reduceMul, Nat.reduceSub, Nat.reduceBEq, ↓reduceIte, reduceCtorEq] <;> rfl
      simp -implicitDefEqProofs (maxSteps := 2000000) only [push_cast, Nat.reduceEqDiff, Nat.reduceLT, Nat.reduceLeDiff, Nat.reduceAdd, Nat.reduceMul, Nat.reduceSub, Nat.reduceBEq, ↓reduceIte, reduceCtorEq]
      refine W.cut (ι := Unit) (D := (fun i => if i = 18 then (999999, []) else (0, []))) (fun _ => True) (fun _ => ⟨90, [(0, .sr 0), (1, .t (.i .i64 (K + 1 + 1 + 1 + 1 + 1 + 1 + (totL (wC 1) x.prev : Nat)))), (5, .t (.i .i64 i))], [.arr 42 10 (.own (.ag [.leaf, .leaf, .leaf, .leaf, .leaf, .leaf, .sl 9 1 .leaf, .sl 9 1 .leaf, .leaf, .sl 138 2 (.ag [.leaf, .leaf])])) (((mkLTo mkEv wEv xs k i).set i (mkEv7 x K)).map eEvent)]⟩) mixed (by kernel_rfl) () trivial (Wk.trans (Wk.close (id := 0) (n := 1) rfl rfl rfl (hg _)) (Keep.wk (ids := [some 0]) ?_)) (fun _ _ => ?_)
      · have e := hset (mkEv6 x K) (mkEv7 x K)
        rw [show eEvent (mkEv7 x K) = (eEvent (mkEv6 x K)).setCell 6 (.sl ((mkStringL x.prev (K + 1 + 1 + 1 + 1 + 1 + 1)).map T.s)) from rfl] at e
        simp only [push_cast, Nat.reduceEqDiff, Nat.reduceLT, Nat.reduceLeDiff, Nat.reduceAdd, Nat.reduceMul, Nat.reduceSub, Nat.reduceBEq, ↓reduceIte, reduceCtorEq, e] <;> rfl
      simp -implicitDefEqProofs (maxSteps := 2000000) only [push_cast, Nat.reduceEqDiff, Nat.reduceLT, Nat.reduceLeDiff, Nat.reduceAdd, Nat.reduceMul, Nat.reduceSub, Nat.reduceBEq, ↓reduceIte, reduceCtorEq, List.length_set, mkLTo_len hi, eEvent_len, eEvent_isAg, eEvent_ones, eEvent_one]
      refine ⟨by omega, .inr ⟨by omega, fun a ha => ?_⟩⟩
      rw [Int.toNat_natCast, List.getElem?_set_self (by omega)] at ha
      obtain rfl := Option.some.inj ha
      rw [Int.toNat_natCast]
      refine Callx.hand [1] (markStringS x.auth (K + 1 + 1 + 1 + 1 + 1 + 1 + (totL (wC 1) x.prev : Nat)) (by omega) (by omega)) (by decide) ?_ rfl rfl ?_ rfl (.inr ⟨rfl, by simp only [push_cast, Nat.reduceEqDiff, Nat.reduceLT, Nat.reduceLeDiff, Nat.reduceAdd, Nat.reduceMul, Nat.reduceSub, Nat.reduceBEq, ↓reduceIte, reduceCtorEq]⟩) ?_
      · simp only [push_cast, Nat.reduceEqDiff, Nat.reduceLT, Nat.reduceLeDiff, Nat.reduceAdd, Nat.reduceMul, Nat.reduceSub, Nat.reduceBEq, ↓reduceIte, reduceCtorEq]
      · simp only [push_cast, Nat.reduceEqDiff, Nat.reduceLT, Nat.reduceLeDiff, Nat.reduceAdd, Nat.reduceMul, Nat.reduceSub, Nat.reduceBEq, ↓reduceIte, reduceCtorEq] <;> rfl
      simp -implicitDefEqProofs (maxSteps := 2000000) only [push_cast, Nat.reduceEqDiff, Nat.reduceLT, Nat.reduceLeDiff, Nat.reduceAdd, Nat.reduceMul, Nat.reduceSub, Nat.reduceBEq, ↓reduceIte, reduceCtorEq]
      refine W.cut (ι := Unit) (D := (fun _ => (0, []))) (fun _ => True) (fun _ => ⟨90, [(0, .sr 0), (1, .t (.i .i64 (K + 1 + 1 + 1 + 1 + 1 + 1 + (totL (wC 1) x.prev : Nat) + (totL (wC 1) x.auth : Nat)))), (5, .t (.i .i64 i))], [.arr 42 10 (.own (.ag [.leaf, .leaf, .leaf, .leaf, .leaf, .leaf, .sl 9 1 .leaf, .sl 9 1 .leaf, .leaf, .sl 138 2 (.ag [.leaf, .leaf])])) (((mkLTo mkEv wEv xs k i).set i (mkEv8 x K)).map eEvent)]⟩) mixed (by kernel_rfl) () trivial (Wk.trans (Wk.close (id := 0) (n := 1) rfl rfl rfl (hg _)) (Keep.wk (ids := [some 0]) ?_)) (fun _ _ => ?_)
      · have e := hset (mkEv7 x K) (mkEv8 x K)
        rw [show eEvent (mkEv8 x K) = (eEvent (mkEv7 x K)).setCell 7 (.sl ((mkStringL x.auth (K + 1 + 1 + 1 + 1 + 1 + 1 + (totL (wC 1) x.prev : Nat))).map T.s)) from rfl] at e
        simp only [push_cast, Nat.reduceEqDiff, Nat.reduceLT, Nat.reduceLeDiff, Nat.reduceAdd, Nat.reduceMul, Nat.reduceSub, Nat.reduceBEq, ↓reduceIte, reduceCtorEq, e] <;> rfl
      simp -implicitDefEqProofs (maxSteps := 2000000) only [push_cast, Nat.reduceEqDiff, Nat.reduceLT, Nat.reduceLeDiff, Nat.reduceAdd, Nat.reduceMul, Nat.reduceSub, Nat.reduceBEq, ↓reduceIte, reduceCtorEq, List.length_set, mkLTo_len hi, eEvent_len, eEvent_isAg, eEvent_ones, eEvent_one]
      refine Callx.closed (markText (K + 1 + 1 + 1 + 1 + 1 + 1 + (totL (wC 1) x.prev : Nat) + (totL (wC 1) x.auth : Nat)) (by omega)) rfl rfl (.inl rfl) ?_
      simp -implicitDefEqProofs (maxSteps := 2000000) only [push_cast, Nat.reduceEqDiff, Nat.reduceLT, Nat.reduceLeDiff, Nat.reduceAdd, Nat.reduceMul, Nat.reduceSub, Nat.reduceBEq, ↓reduceIte, reduceCtorEq, List.length_set, mkLTo_len hi, eEvent]
      refine ⟨by omega, by omega, fun a ha => ⟨by unfold inI64; omega, by omega, .inr ⟨by omega, fun _ => ?_⟩⟩⟩
      rw [Int.toNat_natCast, List.getElem?_set_self (by omega)] at ha
      obtain rfl := Option.some.inj ha
      have e9 := hset (mkEv8 x K) (mkEv9 x K)
      have e9' : eEvent (mkEv9 x K) = T.ag [T.s (mkEv8 x K).id, T.s (mkEv8 x K).sender, T.s (mkEv8 x K).typ, T.b (mkEv8 x K).isState, T.s (mkEv8 x K).key, T.i .i64 (mkEv8 x K).time, eStringS (mkEv8 x K).prev, eStringS (mkEv8 x K).auth, T.s (mkT (K + 1 + 1 + 1 + 1 + 1 + 1 + (totL (wC 1) x.prev : Nat) + (totL (wC 1) x.auth : Nat))), eGrantS (mkEv8 x K).grants] := rfl
      rw [Int.toNat_natCast, ← e9', e9]
      refine Callx.hand [1] (markGrantS x.grants (K + 1 + 1 + 1 + 1 + 1 + 1 + (totL (wC 1) x.prev : Nat) + (totL (wC 1) x.auth : Nat) + 1) (by omega) (by omega)) (by decide) ?_ rfl rfl ?_ rfl (.inr ⟨rfl, by simp only [push_cast, Nat.reduceEqDiff, Nat.reduceLT, Nat.reduceLeDiff, Nat.reduceAdd, Nat.reduceMul, Nat.reduceSub, Nat.reduceBEq, ↓reduceIte, reduceCtorEq]⟩) ?_
      · simp only [push_cast, Nat.reduceEqDiff, Nat.reduceLT, Nat.reduceLeDiff, Nat.reduceAdd, Nat.reduceMul, Nat.reduceSub, Nat.reduceBEq, ↓reduceIte, reduceCtorEq] <;> rfl
      · simp only [push_cast, Nat.reduceEqDiff, Nat.reduceLT, Nat.reduceLeDiff, Nat.reduceAdd, Nat.reduceMul, Nat.reduceSub, Nat.reduceBEq, ↓reduceIte, reduceCtorEq] <;> rfl
      simp -implicitDefEqProofs (maxSteps := 2000000) only [push_cast, Nat.reduceEqDiff, Nat.reduceLT, Nat.reduceLeDiff, Nat.reduceAdd, Nat.reduceMul, Nat.reduceSub, Nat.reduceBEq, ↓reduceIte, reduceCtorEq]
      refine ⟨by unfold inI64; omega, i + 1, by omega, by omega, Wk.trans (Wk.close (id := 0) (n := 1) rfl rfl rfl (hg _)) (Keep.wk (ids := [some 0]) ?_)⟩
      have e := hset (mkEv9 x K) (mkEv x K)
      rw [show eEvent (mkEv x K) = (eEvent (mkEv9 x K)).setCell 9 (.sl ((mkGrantL x.grants (K + 1 + 1 + 1 + 1 + 1 + 1 + (totL (wC 1) x.prev : Nat) + (totL (wC 1) x.auth : Nat) + 1)).map eGrant)) from rfl] at e
      have e' : ((mkLTo mkEv wEv xs k i).set i (mkEv x K)).map eEvent = (mkLTo mkEv wEv xs k (i + 1)).map eEvent := by rw [← hK, mkLTo_set hx]
      rw [e'] at e
      simp only [push_cast, Nat.reduceEqDiff, Nat.reduceLT, Nat.reduceLeDiff, Nat.reduceAdd, Nat.reduceMul, Nat.reduceSub, Nat.reduceBEq, ↓reduceIte, reduceCtorEq, e, T.i.injEq, AV.t.injEq] <;> omega
    · have hi : i = xs.length := by omega
      subst hi
      rw [mkLTo_all, List.take_length]
      exact ⟨rfl, Rest.of [some 0] rfl rfl (by simp only [push_cast, Nat.reduceEqDiff, Nat.reduceLT, Nat.reduceLeDiff, Nat.reduceAdd, Nat.reduceMul, Nat.reduceSub, Nat.reduceBEq, ↓reduceIte, reduceCtorEq] <;> rfl)⟩
theorem markRoom (r : Room) (k : Int) (h0 : 0 ≤ k) (hk : k + totL wEv r.events ≤ 4611686018427387) : ConM P0 28 [.ag [.sr 0], .t (.i .i64 k)] [.arr 42 10 (.own (.ag [.leaf, .leaf, .leaf, .leaf, .leaf, .leaf, .sl 9 1 .leaf, .sl 9 1 .leaf, .leaf, .sl 138 2 (.ag [.leaf, .leaf])])) (r.events.map eEvent)] (.t (.i .i64 (k + (totL wEv r.events : Nat)))) [.arr 42 10 (.own (.ag [.leaf, .leaf, .leaf, .leaf, .leaf, .leaf, .sl 9 1 .leaf, .sl 9 1 .leaf, .leaf, .sl 138 2 (.ag [.leaf, .leaf])])) ((mkEventL r.events k).map eEvent)] := by
  refine ConM.intro (fn := Tryz.f28) [.tmp 4] (fun _ => (0, [])) mixed (by kernel_rfl) rfl (by decide) rfl (by rfl) (by kernel_rfl) ?_
  simp -implicitDefEqProofs (maxSteps := 2000000) only [push_cast, Nat.reduceEqDiff, Nat.reduceLT, Nat.reduceLeDiff, Nat.reduceAdd, Nat.reduceMul, Nat.reduceSub, Nat.reduceBEq, ↓reduceIte, reduceCtorEq]
  refine Callx.hand [0] (markEventS r.events k h0 hk) (by decide) (by simp only [push_cast, Nat.reduceEqDiff, Nat.reduceLT, Nat.reduceLeDiff, Nat.reduceAdd, Nat.reduceMul, Nat.reduceSub, Nat.reduceBEq, ↓reduceIte, reduceCtorEq]) rfl rfl (by simp only [push_cast, Nat.reduceEqDiff, Nat.reduceLT, Nat.reduceLeDiff, Nat.reduceAdd, Nat.reduceMul, Nat.reduceSub, Nat.reduceBEq, ↓reduceIte, reduceCtorEq] <;> rfl) rfl (.inr ⟨rfl, by simp only [push_cast, Nat.reduceEqDiff, Nat.reduceLT, Nat.reduceLeDiff, Nat.reduceAdd, Nat.reduceMul, Nat.reduceSub, Nat.reduceBEq, ↓reduceIte, reduceCtorEq]⟩) ?_
  simp -implicitDefEqProofs (maxSteps := 2000000) only [push_cast, Nat.reduceEqDiff, Nat.reduceLT, Nat.reduceLeDiff, Nat.reduceAdd, Nat.reduceMul, Nat.reduceSub, Nat.reduceBEq, ↓reduceIte, reduceCtorEq]
  exact Rest.of [some 0] rfl rfl (by simp only [push_cast, Nat.reduceEqDiff, Nat.reduceLT, Nat.reduceLeDiff, Nat.reduceAdd, Nat.reduceMul, Nat.reduceSub, Nat.reduceBEq, ↓reduceIte, reduceCtorEq] <;> rfl)
theorem totEv_le : ∀ (xs : List Event), totL wEv xs ≤ 10 * (eEventS xs).wt
  | [] => by simp [totL]
  | x :: xs => by
    have ih := totEv_le xs
    have c1 := totC (n := 1) (xs := x.prev)
    have c2 := totC (n := 1) (xs := x.auth)
    have c3 := totC (n := 2) (xs := x.grants)
    have e1 : (eEventS (x :: xs)).wt = xs.length + 1 + ((eEvent x).wt + wts (xs.map eEvent)) := by simp [T.wt, wts]
    have e2 : (eEventS xs).wt = xs.length + wts (xs.map eEvent) := by simp [T.wt]
    have e3 : x.prev.length + x.auth.length + x.grants.length ≤ (eEvent x).wt := by simp only [eEvent, T.wt, wts, List.length_map]; omega
    have : wEv x = 6 + totL (wC 1) x.prev + totL (wC 1) x.auth + 1 + totL (wC 2) x.grants := rfl
    simp only [totL]
    omega
end Go.Proofs.YtmgdkkhnjkepiaaGreat.BX
namespace Go.Proofs.YtmgdkkhnjkepiaaGreat.BX
set_option linter.unusedSectionVars false
set_option linter.unusedSimpArgs false
set_option linter.unusedVariables false
open Go Go.RowKit
set_option maxRecDepth 20000
set_option maxHeartbeats 400000
theorem mainL_len (es : List Event) (id : List UInt8) : (mainL es id).length ≤ 300 := by
  unfold mainL
  split
  · rename_i h
    unfold mainB at h
    simp only [Bool.and_eq_true] at h
    have hv := room_valid h.1
    have hl := hv.len
    cases hp : posOf id es with
    | none => simp [lineO]
    | some k =>
      have := lineAt_len hv k
      have := posOf_lt hp
      simp only [lineO]; omega
  · simp
variable [Bd]
end Go.Proofs.YtmgdkkhnjkepiaaGreat.BX
namespace Go.Proofs.YtmgdkkhnjkepiaaGreat.BX
set_option linter.unusedSectionVars false
set_option linter.unusedSimpArgs false
set_option linter.unusedVariables false
open Go Go.RowKit
set_option maxRecDepth 20000
set_option maxHeartbeats 400000
structure Tot (lt : List UInt8 → List UInt8 → Bool) : Prop where
  irr : ∀ a, lt a a = false
  trans : ∀ a b c, lt a b = true → lt b c = true → lt a c = true
  tri : ∀ a b, a ≠ b → lt a b = true ∨ lt b a = true
def AscG (lt : List UInt8 → List UInt8 → Bool) (l : List (List UInt8)) : Prop := l.Pairwise fun a b => lt a b = true
section
variable {lt : List UInt8 → List UInt8 → Bool}
theorem Tot.asymm (h : Tot lt) {a b : List UInt8} (h1 : lt a b = true) : lt b a = false := by
  cases h2 : lt b a with
  | false => rfl
  | true => have := h.trans _ _ _ h1 h2; rw [h.irr] at this; cases this
theorem Tot.flip (h : Tot lt) {a b : List UInt8} (h1 : lt a b = false) (hne : a ≠ b) : lt b a = true := (h.tri a b hne).elim (fun h2 => by rw [h1] at h2; cases h2) id
theorem ascG_nodup (h : Tot lt) {l : List (List UInt8)} (hl : AscG lt l) : l.Nodup := hl.imp fun hab he => by subst he; rw [h.irr] at hab; cases hab
theorem ascG_perm (h : Tot lt) {l m : List (List UInt8)} (hl : AscG lt l) (hm : AscG lt m) (hp : List.Perm l m) : l = m := by
  refine List.Perm.eq_of_pairwise (le := fun a b => lt a b = true) ?_ hl hm hp
  intro a b _ _ h1 h2
  rw [h.asymm h1] at h2; cases h2
def insG (lt : List UInt8 → List UInt8 → Bool) (x : List UInt8) (l : List (List UInt8)) : List (List UInt8) := if x ∈ l then l else l.takeWhile (fun y => lt y x) ++ x :: l.dropWhile (fun y => lt y x)
def setG (lt : List UInt8 → List UInt8 → Bool) (l : List (List UInt8)) : List (List UInt8) := l.foldl (fun o x => insG lt x o) []
theorem setG_snoc {l : List (List UInt8)} {i : Nat} {x : List UInt8} (h : l[i]? = some x) : setG lt (l.take (i + 1)) = insG lt x (setG lt (l.take i)) := by
  unfold setG
  rw [List.take_add_one, h, List.foldl_append]
  rfl
theorem takeWhileG {l : List (List UInt8)} {x y : List UInt8} (h : y ∈ l.takeWhile (fun y => lt y x)) : lt y x = true := by
  have := List.all_takeWhile (p := fun y => lt y x) (l := l)
  rw [List.all_eq_true] at this
  exact this y h
theorem dropWhileG (ht : Tot lt) {l : List (List UInt8)} (hl : AscG lt l) {x : List UInt8} (hx : x ∉ l) : ∀ y ∈ l.dropWhile (fun y => lt y x), lt x y = true := by
  induction l with
  | nil => simp
  | cons z l ih =>
    simp only [List.mem_cons, not_or] at hx
    rw [AscG, List.pairwise_cons] at hl
    rw [List.dropWhile_cons]
    split
    · exact ih hl.2 hx.2
    · rename_i h
      have hzx : lt x z = true := ht.flip (by simpa using h) (Ne.symm hx.1)
      intro y hy
      rcases List.mem_cons.1 hy with rfl | hy
      · exact hzx
      · exact ht.trans _ _ _ hzx (hl.1 y hy)
theorem insG_asc (ht : Tot lt) {l : List (List UInt8)} {x : List UInt8} (hl : AscG lt l) : AscG lt (insG lt x l) := by
  unfold insG
  split
  · exact hl
  rename_i hx
  refine List.pairwise_append.2 ⟨?_, List.pairwise_cons.2 ⟨dropWhileG ht hl hx, ?_⟩, fun a ha b hb => ?_⟩
  · exact List.Pairwise.sublist (List.takeWhile_sublist _) hl
  · exact List.Pairwise.sublist (List.dropWhile_sublist _) hl
  · have h1 := takeWhileG ha
    rcases List.mem_cons.1 hb with rfl | hb
    · exact h1
    · exact ht.trans _ _ _ h1 (dropWhileG ht hl hx b hb)
theorem insG_perm {l : List (List UInt8)} {x : List UInt8} (hx : x ∉ l) : List.Perm (insG lt x l) (x :: l) := by
  unfold insG
  rw [if_neg hx]
  refine List.perm_middle.trans (List.Perm.cons x ?_)
  rw [List.takeWhile_append_dropWhile]
theorem insG_mem {l : List (List UInt8)} {x y : List UInt8} : y ∈ insG lt x l ↔ y = x ∨ y ∈ l := by
  by_cases hx : x ∈ l
  · unfold insG
    rw [if_pos hx]
    exact ⟨.inr, fun h => h.elim (fun h => h ▸ hx) id⟩
  · rw [(insG_perm hx).mem_iff, List.mem_cons]
theorem insG_at (ht : Tot lt) {l : List (List UInt8)} {x : List UInt8} {k : Nat} (hl : AscG lt l) (hx : x ∉ l) (h1 : ∀ y ∈ l.drop k, lt x y = true) (h2 : ∀ y, 0 < k → l[k - 1]? = some y → ¬ lt x y = true) (hk : k ≤ l.length) : insG lt x l = l.take k ++ x :: l.drop k := by
  have htk : ∀ y ∈ l.take k, lt y x = true := by
    intro y hy
    obtain ⟨j, hj, rfl⟩ := List.getElem_of_mem hy
    have hj' : j < k ∧ j < l.length := by rw [List.length_take] at hj; omega
    have hlast : lt (l[k - 1]'(by omega)) x = true := by
      have h := h2 _ (by omega) (List.getElem?_eq_getElem (by omega))
      exact ht.flip (by simpa using h) fun he => hx (he ▸ List.getElem_mem (by omega))
    rw [List.getElem_take]
    by_cases he : j = k - 1
    · subst he; exact hlast
    · exact ht.trans _ _ _ (List.pairwise_iff_getElem.1 hl j (k - 1) hj'.2 (by omega) (by omega)) hlast
  refine ascG_perm ht (insG_asc ht hl) ?_ ((insG_perm hx).trans ?_)
  · refine List.pairwise_append.2 ⟨hl.sublist (List.take_sublist _ _), List.pairwise_cons.2 ⟨h1, hl.sublist (List.drop_sublist _ _)⟩, fun a ha b hb => ?_⟩
    rcases List.mem_cons.1 hb with rfl | hb
    · exact htk a ha
    · exact ht.trans _ _ _ (htk a ha) (h1 b hb)
  · refine List.Perm.trans ?_ List.perm_middle.symm
    rw [List.take_append_drop]
theorem foldG_asc (ht : Tot lt) : ∀ {l o : List (List UInt8)}, AscG lt o → AscG lt (l.foldl (fun o x => insG lt x o) o)
  | [], _, h => h
  | _ :: l, _, h => foldG_asc ht (l := l) (insG_asc ht h)
theorem foldG_mem {y : List UInt8} : ∀ {l o : List (List UInt8)}, y ∈ l.foldl (fun o x => insG lt x o) o ↔ y ∈ l ∨ y ∈ o
  | [], _ => by simp
  | x :: l, o => by
    rw [List.foldl_cons, foldG_mem, insG_mem, List.mem_cons, or_left_comm, or_assoc]
theorem foldG_len : ∀ {l o : List (List UInt8)}, (l.foldl (fun o x => insG lt x o) o).length ≤ o.length + l.length
  | [], _ => by simp
  | x :: l, o => by
    have h : (insG lt x o).length ≤ o.length + 1 := by
      by_cases hx : x ∈ o
      · unfold insG; rw [if_pos hx]; omega
      · rw [(insG_perm hx).length_eq]; simp
    have := foldG_len (l := l) (o := insG lt x o)
    simp only [List.foldl_cons, List.length_cons]
    omega
theorem setG_len {l : List (List UInt8)} : (setG lt l).length ≤ l.length := by
  have := foldG_len (lt := lt) (l := l) (o := [])
  simpa [setG] using this
theorem setG_asc (ht : Tot lt) {l : List (List UInt8)} : AscG lt (setG lt l) := foldG_asc ht List.Pairwise.nil
theorem setG_mem {l : List (List UInt8)} {y : List UInt8} : y ∈ setG lt l ↔ y ∈ l := by unfold setG; rw [foldG_mem]; simp
theorem ascG_same (ht : Tot lt) {l m : List (List UInt8)} (hl : AscG lt l) (hm : AscG lt m) (h : ∀ x, x ∈ l ↔ x ∈ m) : l = m :=
  ascG_perm ht hl hm ((List.perm_ext_iff_of_nodup (ascG_nodup ht hl) (ascG_nodup ht hm)).2 h)
theorem setG_is (ht : Tot lt) {l m : List (List UInt8)} (hm : AscG lt m) (h : ∀ x, x ∈ m ↔ x ∈ l) : m = setG lt l :=
  ascG_same ht hm (setG_asc ht) fun x => by rw [h, setG_mem]
theorem setG_same (ht : Tot lt) {l m : List (List UInt8)} (h : ∀ x, x ∈ m ↔ x ∈ l) : setG lt m = setG lt l :=
  ascG_same ht (setG_asc ht) (setG_asc ht) fun x => by rw [setG_mem, setG_mem, h]
end
def plc (line : List (List UInt8)) (x : List UInt8) : Nat := (line.takeWhile fun y => decide (y ≠ x)).length
theorem plc_at {line : List (List UInt8)} {x : List UInt8} : ∀ {k : Nat}, line[k]? = some x → (∀ y ∈ line.take k, y ≠ x) → plc line x = k := by
  induction line with
  | nil => intro k h; cases h
  | cons z line ih =>
    intro k hk hn
    unfold plc
    rw [List.takeWhile_cons]
    cases k with
    | zero =>
      simp only [List.getElem?_cons_zero, Option.some.injEq] at hk
      rw [if_neg (by simp [hk])]; rfl
    | succ k =>
      rw [if_pos (by simpa using hn z (by simp))]
      simp only [List.length_cons, Nat.add_right_cancel_iff]
      exact ih (by simpa using hk) fun y hy => hn y (by simp [hy])
def depthAt (es : List Event) (line : List (List UInt8)) (i : Nat) : Nat := match es[i]? with
  | some e => if e.id ∈ line then plc line e.id else (match pwOf es i with
    | some j => if _h : j < i then depthAt es line j else line.length
    | none => line.length)
  | none => line.length
termination_by i
decreasing_by exact _h
def depthO (es : List Event) (line : List (List UInt8)) : Option Nat → Nat
  | some i => depthAt es line i
  | none => line.length
theorem depthAt_in {es : List Event} {line : List (List UInt8)} {i : Nat} {e : Event} (he : es[i]? = some e) (h : e.id ∈ line) : depthAt es line i = plc line e.id := by
  rw [depthAt, he]
  dsimp only
  rw [if_pos h]
theorem depthAt_out {es : List Event} (hv : Valid es) {line : List (List UInt8)} {i : Nat} {e : Event} (he : es[i]? = some e) (h : e.id ∉ line) : depthAt es line i = depthO es line (pwOf es i) := by
  rw [depthAt, he]
  dsimp only
  rw [if_neg h]
  cases hp : pwOf es i with
  | none => rfl
  | some j => simp only [pwOf_lt hv hp, dite_true, depthO]
def depI (es : List Event) (line : List (List UInt8)) (x : List UInt8) : Nat := depthO es line (posOf x es)
def timI (es : List Event) (x : List UInt8) : Int := match posOf x es with
  | some i => match es[i]? with
    | some e => e.time
    | none => 0
  | none => 0
theorem timI_at {es : List Event} {x : List UInt8} {i : Nat} {e : Event} (hp : posOf x es = some i) (he : es[i]? = some e) : timI es x = e.time := by
  unfold timI; rw [hp]; dsimp only; rw [he]
def mbef (es : List Event) (line : List (List UInt8)) (a b : List UInt8) : Bool :=
  if depI es line a ≠ depI es line b then decide (depI es line b < depI es line a) else if timI es a ≠ timI es b then decide (timI es a < timI es b) else Op.bytesLess a b
theorem mbef_tot (es : List Event) (line : List (List UInt8)) : Tot (mbef es line) where
  irr a := by unfold mbef; simp [Go.Proofs.bytesLess_eq, List.lt_irrefl]
  trans a b c h1 h2 := by
    unfold mbef at *
    simp only [Go.Proofs.bytesLess_eq] at *
    generalize depI es line a = x at *
    generalize depI es line b = y at *
    generalize depI es line c = z at *
    generalize timI es a = p at *
    generalize timI es b = q at *
    generalize timI es c = r at *
    split at h1
    · simp only [decide_eq_true_eq] at h1
      split at h2
      · simp only [decide_eq_true_eq] at h2
        rw [if_pos (by omega)]; simp only [decide_eq_true_eq]; omega
      · rw [if_pos (by omega)]; simp only [decide_eq_true_eq]; omega
    · split at h2
      · simp only [decide_eq_true_eq] at h2
        rw [if_pos (by omega)]; simp only [decide_eq_true_eq]; omega
      · rw [if_neg (by omega)]
        split at h1
        · simp only [decide_eq_true_eq] at h1
          split at h2
          · simp only [decide_eq_true_eq] at h2
            rw [if_pos (by omega)]; simp only [decide_eq_true_eq]; omega
          · rw [if_pos (by omega)]; simp only [decide_eq_true_eq]; omega
        · split at h2
          · simp only [decide_eq_true_eq] at h2
            rw [if_pos (by omega)]; simp only [decide_eq_true_eq]; omega
          · rw [if_neg (by omega)]
            simp only [decide_eq_true_eq] at *
            exact List.lt_trans h1 h2
  tri a b hne := by
    unfold mbef
    simp only [Go.Proofs.bytesLess_eq]
    generalize depI es line a = x at *
    generalize depI es line b = y at *
    generalize timI es a = p at *
    generalize timI es b = q at *
    by_cases h1 : x = y
    · subst h1
      simp only [ne_eq, not_true_eq_false, if_false]
      by_cases h2 : p = q
      · subst h2
        simp only [not_true_eq_false, if_false, decide_eq_true_eq]
        by_cases h3 : a < b
        · exact .inl h3
        · rcases List.le_iff_lt_or_eq.1 (List.not_lt.1 h3) with h | h
          · exact .inr h
          · exact absurd h.symm hne
      · rw [if_pos h2, if_pos (Ne.symm h2)]
        simp only [decide_eq_true_eq]; omega
    · rw [if_pos h1, if_pos (Ne.symm h1)]
      simp only [decide_eq_true_eq]; omega
def mordL (es : List Event) (ids line : List (List UInt8)) : List (List UInt8) := setG (mbef es line) ids
theorem lineAt_mem {es : List Event} (hv : Valid es) : ∀ (i : Nat) {x : List UInt8}, x ∈ lineAt es i → ∃ j, j ≤ i ∧ posOf x es = some j := by
  intro i
  induction i using Nat.strongRecOn with
  | ind i ih =>
    intro x hx
    cases he : es[i]? with
    | none => rw [lineAt, he] at hx; simp at hx
    | some e =>
      rw [lineAt_eq hv he, List.mem_cons] at hx
      rcases hx with rfl | hx
      · exact ⟨i, Nat.le_refl _, hv.pos he⟩
      · cases hp : pwOf es i with
        | none => rw [hp] at hx; simp [lineO] at hx
        | some j =>
          rw [hp] at hx
          have hj := pwOf_lt hv hp
          obtain ⟨k, h1, h2⟩ := ih j hj hx
          exact ⟨k, by omega, h2⟩
theorem lineAt_nodup {es : List Event} (hv : Valid es) : ∀ (i : Nat), (lineAt es i).Nodup := by
  intro i
  induction i using Nat.strongRecOn with
  | ind i ih =>
    cases he : es[i]? with
    | none => rw [lineAt, he]; simp
    | some e =>
      rw [lineAt_eq hv he, List.nodup_cons]
      cases hp : pwOf es i with
      | none => simp [lineO]
      | some j =>
        have hj := pwOf_lt hv hp
        refine ⟨fun hm => ?_, ih j hj⟩
        obtain ⟨k, h1, h2⟩ := lineAt_mem hv j hm
        rw [hv.pos he] at h2
        cases h2
        omega
end Go.Proofs.YtmgdkkhnjkepiaaGreat.BX
namespace Go.Proofs.YtmgdkkhnjkepiaaGreat.BX
set_option linter.unusedSectionVars false
set_option linter.unusedSimpArgs false
set_option linter.unusedVariables false
open Go Go.RowKit
set_option maxRecDepth 20000
set_option maxHeartbeats 400000
variable [Bd]
theorem l6Depth (es : List Event) (hv : Valid es) (line : List (List UInt8)) (o : Option Nat) (ho : ∀ i, o = some i → i < es.length) : Con P0 200 [eRoom ⟨es⟩, eStringS line, .s (idAt es o)] (.t (.i .i64 (depthO es line o))) [] := by
  refine Con.intro (fn := Tryz.f200) [.tmp 6] (fun i => if i = 7 then (5, []) else (0, [])) mixed (by kernel_rfl) rfl (by decide) rfl (by rfl) (by kernel_rfl) ?_
  simp -implicitDefEqProofs (maxSteps := 2000000) only [push_cast, Nat.reduceEqDiff, Nat.reduceLT, Nat.reduceLeDiff, Nat.reduceAdd, Nat.reduceMul, Nat.reduceSub, Nat.reduceBEq, ↓reduceIte, reduceCtorEq, eRoom]
  have := Bd.lo
  refine WL.loop (ι := Option Nat) (D := (fun i => if i = 7 then (5, []) else (0, []))) (fun i => (∀ j, i = some j → j < es.length) ∧ depthO es line i = depthO es line o) (fun i => ⟨30, [(1, .t (eStringS line)), (2, .t (.s (idAt es i))), (3, .rf 0 0)], [.box (.t (eRoom ⟨es⟩))]⟩) (fun i => match i with | some j => j + 1 | none => 0) mixed (by kernel_rfl) o ⟨ho, rfl⟩ (Keep.wk (ids := [some 0]) ?_) ?_
  · simp only [push_cast, Nat.reduceEqDiff, Nat.reduceLT, Nat.reduceLeDiff, Nat.reduceAdd, Nat.reduceMul, Nat.reduceSub, Nat.reduceBEq, ↓reduceIte, reduceCtorEq, eRoom] <;> rfl
  rintro i ⟨hi, hf⟩
  rw [← hf]
  simp -implicitDefEqProofs (maxSteps := 2000000) only [push_cast, Nat.reduceEqDiff, Nat.reduceLT, Nat.reduceLeDiff, Nat.reduceAdd, Nat.reduceMul, Nat.reduceSub, Nat.reduceBEq, ↓reduceIte, reduceCtorEq, eRoom]
  cases i with
  | none =>
    rw [if_neg (by simp [idAt])]
    intro _
    rfl
  | some j =>
    have hjl := hi j rfl
    obtain ⟨e, he⟩ : ∃ e, es[j]? = some e := ⟨_, List.getElem?_eq_getElem hjl⟩
    have hid : idAt es (some j) = e.id := by simp only [idAt, he]
    rw [hid, if_pos (evOk_id (hv.good he).ok)]
    refine WL.loop (ι := Nat) (D := (fun i => if i = 7 then (5, []) else (0, []))) (fun k => k ≤ line.length ∧ ∀ y ∈ line.take k, y ≠ e.id) (fun k => ⟨30, [(1, .t (eStringS line)), (2, .t (.s e.id)), (3, .rf 0 0), (7, .t (.i .i64 k))], [.box (.t (eRoom ⟨es⟩))]⟩) (fun k => line.length - k) mixed (by kernel_rfl) 0 ⟨by omega, by simp⟩ (Keep.wk (ids := [some 0]) ?_) ?_
    · simp only [push_cast, Nat.reduceEqDiff, Nat.reduceLT, Nat.reduceLeDiff, Nat.reduceAdd, Nat.reduceMul, Nat.reduceSub, Nat.reduceBEq, ↓reduceIte, reduceCtorEq, eRoom] <;> rfl
    rintro k ⟨hk, hn⟩
    simp -implicitDefEqProofs (maxSteps := 2000000) only [push_cast, Nat.reduceEqDiff, Nat.reduceLT, Nat.reduceLeDiff, Nat.reduceAdd, Nat.reduceMul, Nat.reduceSub, Nat.reduceBEq, ↓reduceIte, reduceCtorEq, eRoom]
    intro _
    have hhi := Bd.hi
    refine iteI (fun h => ⟨by omega, fun x hx => ?_⟩) (fun h => ?_)
    · rw [Int.toNat_natCast] at hx
      refine iteI (fun h1 => ?_) (fun h1 => ?_)
      · have h1 : x = e.id := by simpa using h1
        subst h1
        rw [depthO, depthAt_in he (List.mem_of_getElem? hx), plc_at hx hn]
      · have h1 : x ≠ e.id := by simpa using h1
        refine ⟨by unfold inI64; omega, k + 1, ⟨by omega, fun y hy => ?_⟩, by omega, Keep.wk (ids := [some 0]) ?_⟩
        · rw [List.take_add_one, hx, List.mem_append] at hy
          rcases hy with hy | hy
          · exact hn y hy
          · simp only [Option.toList_some, List.mem_singleton] at hy
            rw [hy]; exact h1
        · simp only [push_cast, Nat.reduceEqDiff, Nat.reduceLT, Nat.reduceLeDiff, Nat.reduceAdd, Nat.reduceMul, Nat.reduceSub, Nat.reduceBEq, ↓reduceIte, reduceCtorEq, eRoom] <;> rfl
    · have hout : e.id ∉ line := fun hm => hn _ (by rw [List.take_of_length_le (by omega)]; exact hm) rfl
      refine CallV.t (l6Event es e.id j e (hv.pos he) he) (.inl rfl) ?_
      simp -implicitDefEqProofs (maxSteps := 2000000) only [push_cast, Nat.reduceEqDiff, Nat.reduceLT, Nat.reduceLeDiff, Nat.reduceAdd, Nat.reduceMul, Nat.reduceSub, Nat.reduceBEq, ↓reduceIte, reduceCtorEq, eRoom]
      refine CallV.t (l6Power es hv j e he) (.inl rfl) ?_
      simp -implicitDefEqProofs (maxSteps := 2000000) only [push_cast, Nat.reduceEqDiff, Nat.reduceLT, Nat.reduceLeDiff, Nat.reduceAdd, Nat.reduceMul, Nat.reduceSub, Nat.reduceBEq, ↓reduceIte, reduceCtorEq, eRoom]
      refine ⟨pwOf es j, ⟨fun k hk => ?_, ?_⟩, ?_, Keep.wk (ids := [some 0]) ?_⟩
      · have := pwOf_lt hv hk; omega
      · rw [depthO, depthAt_out hv he hout]
      · split
        · rename_i k hk
          have := pwOf_lt hv hk; omega
        · omega
      · simp only [push_cast, Nat.reduceEqDiff, Nat.reduceLT, Nat.reduceLeDiff, Nat.reduceAdd, Nat.reduceMul, Nat.reduceSub, Nat.reduceBEq, ↓reduceIte, reduceCtorEq, eRoom] <;> rfl
theorem l6MainBefore (es : List Event) (hv : Valid es) (line : List (List UInt8)) (a b : List UInt8) (ha : There es a) (hb : There es b) : Con P0 144 [eRoom ⟨es⟩, eStringS line, .s a, .s b] (.t (.b (mbef es line a b))) [] := by
  obtain ⟨i, x, hx, hxi, hpx⟩ := there_at ha
  obtain ⟨j, y, hy, hyj, hpy⟩ := there_at hb
  have hil := (List.getElem?_eq_some_iff.1 hx).1
  have hjl := (List.getElem?_eq_some_iff.1 hy).1
  have c1 := l6Depth es hv line (some i) (fun k hk => by cases hk; exact hil)
  have c2 := l6Depth es hv line (some j) (fun k hk => by cases hk; exact hjl)
  rw [show idAt es (some i) = a by simp only [idAt, hx]; exact hxi, show depthO es line (some i) = depI es line a by unfold depI; rw [hpx]] at c1
  rw [show idAt es (some j) = b by simp only [idAt, hy]; exact hyj, show depthO es line (some j) = depI es line b by unfold depI; rw [hpy]] at c2
  have t1 : timI es a = x.time := timI_at hpx hx
  have t2 : timI es b = y.time := timI_at hpy hy
  have hm : mbef es line a b = if depI es line a ≠ depI es line b then decide (depI es line b < depI es line a) else if x.time ≠ y.time then decide (x.time < y.time) else Op.bytesLess a b := by unfold mbef; rw [t1, t2]
  rw [hm]
  clear hm t1 t2
  have hfld : oneFld P0 42 5 = some 5 := by kernel_rfl
  refine Con.intro (fn := Tryz.f144) [.tmp 8] (fun i => if i = 6 then (10, []) else if i = 5 then (9, []) else (0, [])) mixed (by kernel_rfl) rfl (by decide) rfl (by rfl) (by kernel_rfl) ?_
  simp -implicitDefEqProofs (maxSteps := 2000000) only [push_cast, Nat.reduceEqDiff, Nat.reduceLT, Nat.reduceLeDiff, Nat.reduceAdd, Nat.reduceMul, Nat.reduceSub, Nat.reduceBEq, ↓reduceIte, reduceCtorEq, eRoom]
  refine Callx.closed c1 rfl rfl (.inl rfl) ?_
  simp -implicitDefEqProofs (maxSteps := 2000000) only [push_cast, Nat.reduceEqDiff, Nat.reduceLT, Nat.reduceLeDiff, Nat.reduceAdd, Nat.reduceMul, Nat.reduceSub, Nat.reduceBEq, ↓reduceIte, reduceCtorEq, eRoom]
  refine Callx.closed c2 rfl rfl (.inl rfl) ?_
  simp -implicitDefEqProofs (maxSteps := 2000000) only [push_cast, Nat.reduceEqDiff, Nat.reduceLT, Nat.reduceLeDiff, Nat.reduceAdd, Nat.reduceMul, Nat.reduceSub, Nat.reduceBEq, ↓reduceIte, reduceCtorEq, eRoom]
  generalize depI es line a = p at *
  generalize depI es line b = q at *
  refine iteI (fun h => ?_) (fun h => ?_)
  · have h : ¬ p = q := by omega
    rw [if_pos h]
    exact congrArg T.b (decide_eq_decide.2 (by omega))
  · have h : p = q := by omega
    rw [if_neg (by simp [h])]
    refine CallV.t (l6Event es a i x hpx hx) (.inl rfl) ?_
    simp -implicitDefEqProofs (maxSteps := 2000000) only [push_cast, Nat.reduceEqDiff, Nat.reduceLT, Nat.reduceLeDiff, Nat.reduceAdd, Nat.reduceMul, Nat.reduceSub, Nat.reduceBEq, ↓reduceIte, reduceCtorEq, eRoom, eEvent, hfld]
    refine CallV.t (l6Event es b j y hpy hy) (.inl rfl) ?_
    simp -implicitDefEqProofs (maxSteps := 2000000) only [push_cast, Nat.reduceEqDiff, Nat.reduceLT, Nat.reduceLeDiff, Nat.reduceAdd, Nat.reduceMul, Nat.reduceSub, Nat.reduceBEq, ↓reduceIte, reduceCtorEq, eRoom, eEvent, hfld]
    refine iteI (fun h => ?_) (fun h => ?_)
    · rw [if_pos h]
      refine CallV.t (l6Event es a i x hpx hx) (.inl rfl) ?_
      simp -implicitDefEqProofs (maxSteps := 2000000) only [push_cast, Nat.reduceEqDiff, Nat.reduceLT, Nat.reduceLeDiff, Nat.reduceAdd, Nat.reduceMul, Nat.reduceSub, Nat.reduceBEq, ↓reduceIte, reduceCtorEq, eRoom, eEvent, hfld]
      refine CallV.t (l6Event es b j y hpy hy) (.inl rfl) ?_
      simp -implicitDefEqProofs (maxSteps := 2000000) only [push_cast, Nat.reduceEqDiff, Nat.reduceLT, Nat.reduceLeDiff, Nat.reduceAdd, Nat.reduceMul, Nat.reduceSub, Nat.reduceBEq, ↓reduceIte, reduceCtorEq, eRoom, eEvent, hfld]
    · rw [if_neg h]
noncomputable def mordB (es : List Event) (ids : List (List UInt8)) (pw : List UInt8) : Bool := mainB es pw && (decide (ids.length ≤ 300) && allIn es ids)
noncomputable def mordR (es : List Event) (ids : List (List UInt8)) (pw : List UInt8) : List (List UInt8) := if mordB es ids pw = true then mordL es ids (lineO es (posOf pw es)) else []
theorem l6MainOrder (es : List Event) (hv : Valid es) (ids : List (List UInt8)) (hids : ∀ x ∈ ids, There es x) (o : Option Nat) (ho : ∀ i, o = some i → i < es.length) (hB : Bd.B ≤ 2147483648) : Con P0 77 [eRoom ⟨es⟩, eStringS ids, .s (idAt es o)] (.sr 0) [.arr 9 1 (.own .leaf) ((mordL es ids (lineO es o)).map T.s)] := by
  refine Con.intro (fn := Tryz.f77) [.tmp 6] (fun i => if i = 9 then (16, []) else (0, [])) mixed (by kernel_rfl) rfl (by decide) rfl (by rfl) (by kernel_rfl) ?_
  simp -implicitDefEqProofs (maxSteps := 2000000) only [push_cast, Nat.reduceEqDiff, Nat.reduceLT, Nat.reduceLeDiff, Nat.reduceAdd, Nat.reduceMul, Nat.reduceSub, Nat.reduceBEq, ↓reduceIte, reduceCtorEq, eRoom]
  have := Bd.lo
  refine Callx.closed (l6Mainline es hv o ho hB) rfl rfl (.inr ⟨rfl, rfl⟩) ?_
  simp -implicitDefEqProofs (maxSteps := 2000000) only [push_cast, Nat.reduceEqDiff, Nat.reduceLT, Nat.reduceLeDiff, Nat.reduceAdd, Nat.reduceMul, Nat.reduceSub, Nat.reduceBEq, ↓reduceIte, reduceCtorEq, eRoom]
  refine ⟨rfl, by omega, ?_⟩
  unfold mordL
  generalize lineO es o = line at *
  have ht := mbef_tot es line
  generalize hlt : mbef es line = lt at *
  refine WL.loop (ι := Nat) (D := (fun i => if i = 9 then (16, []) else (0, []))) (fun i => i ≤ ids.length) (fun i => ⟨74, [(1, .t (eStringS ids)), (3, .rf 0 0), (7, .sr 1), (8, .sr 2), (9, .t (.i .i64 i))], [.box (.t (eRoom ⟨es⟩)), .arr 9 1 (.own .leaf) (line.map T.s), .arr 9 1 (.own .leaf) ((setG lt (ids.take i)).map T.s)]⟩) (fun i => ids.length - i) mixed (by kernel_rfl) 0 (by omega) (Keep.wk (ids := [some 0, some 1, some 2]) ?_) ?_
  · simp only [push_cast, Nat.reduceEqDiff, Nat.reduceLT, Nat.reduceLeDiff, Nat.reduceAdd, Nat.reduceMul, Nat.reduceSub, Nat.reduceBEq, ↓reduceIte, reduceCtorEq, setG, List.take_zero, List.foldl_nil, eRoom] <;> rfl
  · intro i hi
    simp -implicitDefEqProofs (maxSteps := 2000000) only [push_cast, Nat.reduceEqDiff, Nat.reduceLT, Nat.reduceLeDiff, Nat.reduceAdd, Nat.reduceMul, Nat.reduceSub, Nat.reduceBEq, ↓reduceIte, reduceCtorEq, eRoom]
    intro hlen
    have hhi := Bd.hi
    refine iteI (fun h => ⟨by omega, fun a ha => ?_⟩) (fun h => ?_)
    · rw [Int.toNat_natCast] at ha
      have hsn := setG_snoc (lt := lt) ha
      refine Callx.closed (l1Has (setG lt (ids.take i)) a) rfl rfl (.inr ⟨rfl, rfl⟩) ?_
      simp -implicitDefEqProofs (maxSteps := 2000000) only [push_cast, Nat.reduceEqDiff, Nat.reduceLT, Nat.reduceLeDiff, Nat.reduceAdd, Nat.reduceMul, Nat.reduceSub, Nat.reduceBEq, ↓reduceIte, reduceCtorEq, eRoom]
      have hso : AscG lt (setG lt (ids.take i)) := setG_asc ht
      refine iteI (fun h1 => ?_) (fun h1 => ?_)
      · have hi1 : insG lt a (setG lt (ids.take i)) = setG lt (ids.take i) := if_pos (by simpa using h1)
        refine ⟨by unfold inI64; omega, i + 1, by omega, by omega, Keep.wk (ids := [some 0, some 1, some 2]) ?_⟩
        rw [hsn, hi1]
        simp only [push_cast, Nat.reduceEqDiff, Nat.reduceLT, Nat.reduceLeDiff, Nat.reduceAdd, Nat.reduceMul, Nat.reduceSub, Nat.reduceBEq, ↓reduceIte, reduceCtorEq] <;> rfl
      · have hol : (setG lt (ids.take i)).length < ids.length := by
          have := setG_len (lt := lt) (l := ids.take i)
          rw [List.length_take] at this
          omega
        have hth : ∀ x ∈ setG lt (ids.take i), There es x := fun x hx => hids x (List.mem_of_mem_take (setG_mem.1 hx))
        have hta : There es a := hids a (List.mem_of_getElem? ha)
        generalize setG lt (ids.take i) = out at *
        refine ⟨by omega, fun a' ha' => ?_⟩
        rw [Int.toNat_natCast, ha] at ha'
        cases ha'
        refine ⟨rfl, by omega, rfl, by omega, by omega, fun _ => ⟨by unfold inI64; omega, ?_⟩⟩
        refine WL.loop (ι := Nat) (D := (fun i => if i = 9 then (16, []) else (0, []))) (fun j => j ≤ out.length ∧ ∀ y ∈ out.drop j, lt a y = true) (fun j => ⟨74, [(1, .t (eStringS ids)), (3, .rf 0 0), (7, .sr 1), (8, .sr 2), (9, .t (.i .i64 i)), (10, .t (.i .i64 j))], [.box (.t (eRoom ⟨es⟩)), .arr 9 1 (.own .leaf) (line.map T.s), .arr 9 1 (.own .leaf) ((out.take j ++ a :: out.drop j).map T.s)]⟩) (fun j => j) mixed (by kernel_rfl) out.length ⟨Nat.le_refl _, by simp⟩ (Keep.wk (ids := [some 0, some 1, some 4]) ?_) ?_
        · have : ((out.length : Int) + 1 - 1) = out.length := by omega
          simp only [push_cast, Nat.reduceEqDiff, Nat.reduceLT, Nat.reduceLeDiff, Nat.reduceAdd, Nat.reduceMul, Nat.reduceSub, Nat.reduceBEq, ↓reduceIte, reduceCtorEq, this, List.take_length, List.drop_length, List.map_append, List.map_cons, List.map_nil] <;> exact ⟨rfl, rfl⟩
        · rintro j ⟨hj, hja⟩
          simp -implicitDefEqProofs (maxSteps := 2000000) only [push_cast, Nat.reduceEqDiff, Nat.reduceLT, Nat.reduceLeDiff, Nat.reduceAdd, Nat.reduceMul, Nat.reduceSub, Nat.reduceBEq, ↓reduceIte, reduceCtorEq, setMapS, eRoom]
          have hl : (out.take j).length + ((out.drop j).length + 1) = out.length + 1 := by rw [List.length_take, List.length_drop]; omega
          have fin : ∀ (_ : ∀ y, 0 < j → out[j - 1]? = some y → ¬ lt a y = true), out.take j ++ a :: out.drop j = setG lt (ids.take (i + 1)) := fun h => (hsn.trans (insG_at ht hso (by simpa using h1) hja h hj)).symm
          refine iteI (fun hp => ?_) (fun hp => ?_)
          · have e1 : (Int.toNat (j : Int)) = j := Int.toNat_natCast _
            have e2 : (Int.toNat ((j : Int) - 1)) = j - 1 := by omega
            simp only [e1, e2]
            refine ⟨by omega, by omega, fun a1 ha1 => ?_⟩
            rw [mid_at hj] at ha1
            cases ha1
            refine ⟨by unfold inI64; omega, by omega, by omega, fun b hb => ?_⟩
            have hb' := hb
            rw [mid_before hj (by omega)] at hb
            have hmb := l6MainBefore es hv line a b hta (hth b (List.mem_of_getElem? hb))
            rw [hlt] at hmb
            refine CallV.t hmb (.inr rfl) ?_
            simp -implicitDefEqProofs (maxSteps := 2000000) only [push_cast, Nat.reduceEqDiff, Nat.reduceLT, Nat.reduceLeDiff, Nat.reduceAdd, Nat.reduceMul, Nat.reduceSub, Nat.reduceBEq, ↓reduceIte, reduceCtorEq, setMapS, eRoom]
            simp only [e1, e2]
            refine iteI (fun hl => ?_) (fun hl => ?_)
            · refine ⟨by omega, by omega, fun a2 ha2 => ?_⟩
              rw [mid_at hj] at ha2
              cases ha2
              refine ⟨by unfold inI64; omega, by omega, by omega, fun b2 hb2 => ?_⟩
              rw [hb'] at hb2
              cases hb2
              refine ⟨by omega, by omega, fun _ _ => ⟨by unfold inI64; omega, by omega, by omega, fun _ _ => ⟨by unfold inI64; omega, j - 1, ⟨by omega, ?_⟩, by omega, Keep.wk (ids := [some 0, some 1, some 2]) ?_⟩⟩⟩
              · intro y hy
                rw [List.drop_eq_getElem_cons (by omega), List.mem_cons] at hy
                rcases hy with rfl | hy
                · rw [List.getElem?_eq_getElem (by omega)] at hb
                  cases hb; exact hl
                · rw [show j - 1 + 1 = j by omega] at hy
                  exact hja y hy
              · rw [mid_swap hj (by omega) hb]
                have e3 : ((j - 1 : Nat) : Int) = (j : Int) - 1 := by omega
                simp only [push_cast, Nat.reduceEqDiff, Nat.reduceLT, Nat.reduceLeDiff, Nat.reduceAdd, Nat.reduceMul, Nat.reduceSub, Nat.reduceBEq, ↓reduceIte, reduceCtorEq, e3] <;> rfl
            · refine ⟨by unfold inI64; omega, i + 1, by omega, by omega, Keep.wk (ids := [some 0, some 1, some 2]) ?_⟩
              rw [fin fun y _ hy => by rw [hb] at hy; cases hy; exact hl]
              simp only [push_cast, Nat.reduceEqDiff, Nat.reduceLT, Nat.reduceLeDiff, Nat.reduceAdd, Nat.reduceMul, Nat.reduceSub, Nat.reduceBEq, ↓reduceIte, reduceCtorEq] <;> rfl
          · refine ⟨by unfold inI64; omega, i + 1, by omega, by omega, Keep.wk (ids := [some 0, some 1, some 2]) ?_⟩
            rw [fin fun y hy => absurd hy (by omega)]
            simp only [push_cast, Nat.reduceEqDiff, Nat.reduceLT, Nat.reduceLeDiff, Nat.reduceAdd, Nat.reduceMul, Nat.reduceSub, Nat.reduceBEq, ↓reduceIte, reduceCtorEq] <;> rfl
    · rw [List.take_of_length_le (by omega)]
      exact Close.of [some 2] rfl rfl rfl rfl (by simp only [push_cast, Nat.reduceEqDiff, Nat.reduceLT, Nat.reduceLeDiff, Nat.reduceAdd, Nat.reduceMul, Nat.reduceSub, Nat.reduceBEq, ↓reduceIte, reduceCtorEq] <;> rfl)
theorem allIn_spec {es : List Event} {ids : List (List UInt8)} (h : allIn es ids = true) : ∀ x ∈ ids, There es x := by
  unfold allIn at h
  intro x hx
  have := of_decide_eq_true h x hx
  exact this
theorem mainB_valid {es : List Event} {pw : List UInt8} (h : mainB es pw = true) : roomB es = true := by
  unfold mainB at h
  simp only [Bool.and_eq_true] at h
  exact h.1
theorem mainB_o {es : List Event} {pw : List UInt8} (h : mainB es pw = true) : idAt es (posOf pw es) = pw ∧ ∀ i, posOf pw es = some i → i < es.length := by
  have hr := mainB_valid h
  have hv := room_valid hr
  unfold mainB mainOk at h
  rw [hr, Bool.true_and, Bool.or_eq_true, decide_eq_true_eq] at h
  refine ⟨?_, fun i hi => posOf_lt hi⟩
  cases hp : posOf pw es with
  | some i => rw [← hp]; exact idAt_pos hp
  | none =>
    rcases h with rfl | h
    · rfl
    · rw [hp] at h; cases h
theorem specMainOrder (es : List Event) (ids : List (List UInt8)) (pw : List UInt8) (hB : Bd.B ≤ 2147483648) : Con P0 24 [eRoom ⟨es⟩, eStringS ids, .s pw] (.tp [.sr 0, .t (.b (mordB es ids pw))]) [.arr 9 1 (.own .leaf) ((mordR es ids pw).map T.s)] := by
  refine Con.intro (fn := Tryz.f24) [.tmp 6, .tmp 7] (fun _ => (0, [])) mixed (by kernel_rfl) rfl (by decide) rfl (by rfl) (by kernel_rfl) ?_
  simp -implicitDefEqProofs (maxSteps := 2000000) only [push_cast, Nat.reduceEqDiff, Nat.reduceLT, Nat.reduceLeDiff, Nat.reduceAdd, Nat.reduceMul, Nat.reduceSub, Nat.reduceBEq, ↓reduceIte, reduceCtorEq, eRoom]
  have := Bd.lo
  refine Callx.closed (specMainline es pw hB) rfl rfl (.inr ⟨rfl, rfl⟩) ?_
  simp -implicitDefEqProofs (maxSteps := 2000000) only [push_cast, Nat.reduceEqDiff, Nat.reduceLT, Nat.reduceLeDiff, Nat.reduceAdd, Nat.reduceMul, Nat.reduceSub, Nat.reduceBEq, ↓reduceIte, reduceCtorEq, eRoom]
  cases hm : mainB es pw with
  | false =>
    have h1 : mordB es ids pw = false := by unfold mordB; rw [hm]; rfl
    have h2 : mordR es ids pw = [] := if_neg (by rw [h1]; simp)
    rw [h1, h2]
    simp -implicitDefEqProofs (maxSteps := 2000000) only [push_cast, Nat.reduceEqDiff, Nat.reduceLT, Nat.reduceLeDiff, Nat.reduceAdd, Nat.reduceMul, Nat.reduceSub, Nat.reduceBEq, ↓reduceIte, reduceCtorEq, eRoom]
    exact ⟨rfl, by omega, Close.of [some 2] rfl rfl rfl (by simp only [push_cast, Nat.reduceEqDiff, Nat.reduceLT, Nat.reduceLeDiff, Nat.reduceAdd, Nat.reduceMul, Nat.reduceSub, Nat.reduceBEq, ↓reduceIte, reduceCtorEq] <;> rfl) (by simp only [push_cast, Nat.reduceEqDiff, Nat.reduceLT, Nat.reduceLeDiff, Nat.reduceAdd, Nat.reduceMul, Nat.reduceSub, Nat.reduceBEq, ↓reduceIte, reduceCtorEq] <;> rfl)⟩
  | true =>
    simp -implicitDefEqProofs (maxSteps := 2000000) only [push_cast, Nat.reduceEqDiff, Nat.reduceLT, Nat.reduceLeDiff, Nat.reduceAdd, Nat.reduceMul, Nat.reduceSub, Nat.reduceBEq, ↓reduceIte, reduceCtorEq, eRoom]
    refine Callx.closed (l2AllThere es ids) rfl rfl (.inl rfl) ?_
    simp -implicitDefEqProofs (maxSteps := 2000000) only [push_cast, Nat.reduceEqDiff, Nat.reduceLT, Nat.reduceLeDiff, Nat.reduceAdd, Nat.reduceMul, Nat.reduceSub, Nat.reduceBEq, ↓reduceIte, reduceCtorEq, eRoom]
    refine iteI (fun h => ?_) (fun h => ?_)
    · have h1 : mordB es ids pw = false := by
        unfold mordB
        rw [hm, Bool.true_and]
        have : (decide ((ids.length : Int) ≤ 300) && allIn es ids) = false := by
          revert h
          cases (decide ((ids.length : Int) ≤ 300) && allIn es ids) <;> simp
        rw [← this]
        congr 1
        exact decide_eq_decide.2 (by omega)
      have h2 : mordR es ids pw = [] := if_neg (by rw [h1]; simp)
      rw [h1, h2]
      exact ⟨rfl, by omega, Close.of [some 2] rfl rfl rfl (by simp only [push_cast, Nat.reduceEqDiff, Nat.reduceLT, Nat.reduceLeDiff, Nat.reduceAdd, Nat.reduceMul, Nat.reduceSub, Nat.reduceBEq, ↓reduceIte, reduceCtorEq] <;> rfl) (by simp only [push_cast, Nat.reduceEqDiff, Nat.reduceLT, Nat.reduceLeDiff, Nat.reduceAdd, Nat.reduceMul, Nat.reduceSub, Nat.reduceBEq, ↓reduceIte, reduceCtorEq] <;> rfl)⟩
    · have h0 : (decide ((ids.length : Int) ≤ 300) && allIn es ids) = true := by simpa using h
      have h1 : mordB es ids pw = true := by
        unfold mordB
        rw [hm, Bool.true_and, ← h0]
        congr 1
        exact decide_eq_decide.2 (by omega)
      rw [Bool.and_eq_true] at h0
      obtain ⟨q1, q2⟩ := mainB_o hm
      have hc := l6MainOrder es (room_valid (mainB_valid hm)) ids (allIn_spec h0.2) (posOf pw es) q2 hB
      rw [q1] at hc
      have h2 : mordR es ids pw = mordL es ids (lineO es (posOf pw es)) := if_pos h1
      rw [h1, h2]
      refine Callx.closed hc rfl rfl (.inr ⟨rfl, rfl⟩) ?_
      simp -implicitDefEqProofs (maxSteps := 2000000) only [push_cast, Nat.reduceEqDiff, Nat.reduceLT, Nat.reduceLeDiff, Nat.reduceAdd, Nat.reduceMul, Nat.reduceSub, Nat.reduceBEq, ↓reduceIte, reduceCtorEq, eRoom]
      exact Close.of [some 2] rfl rfl rfl (by simp only [push_cast, Nat.reduceEqDiff, Nat.reduceLT, Nat.reduceLeDiff, Nat.reduceAdd, Nat.reduceMul, Nat.reduceSub, Nat.reduceBEq, ↓reduceIte, reduceCtorEq] <;> rfl) (by simp only [push_cast, Nat.reduceEqDiff, Nat.reduceLT, Nat.reduceLeDiff, Nat.reduceAdd, Nat.reduceMul, Nat.reduceSub, Nat.reduceBEq, ↓reduceIte, reduceCtorEq] <;> rfl)
end Go.Proofs.YtmgdkkhnjkepiaaGreat.BX
namespace Go.Proofs.YtmgdkkhnjkepiaaGreat.BX
set_option linter.unusedSectionVars false
set_option linter.unusedSimpArgs false
set_option linter.unusedVariables false
open Go Go.RowKit Go.Shelf Go.Sort Go.Maps
set_option maxRecDepth 20000
set_option maxHeartbeats 400000
mutual
theorem footT_D (i j : Bd) (h : i.B = j.B) {w : World} : ∀ (x : T) (v : Value) (L : List Nat), @footT i w x v L → @footT j w x v L
  | .b _, _, _, k => by simpa only [footT] using k
  | .i _ _, _, _, k => by simpa only [footT] using k
  | .s _, _, _, k => by simp only [footT] at k ⊢; rw [← h]; exact k
  | .np, _, _, k => by simpa only [footT] using k
  | .nm, _, _, k => by simpa only [footT] using k
  | .ni, _, _, k => by simpa only [footT] using k
  | .ag cs, v, L, k => by
    simp only [footT] at k ⊢
    obtain ⟨vs, e, k⟩ := k
    exact ⟨vs, e, footTs_D i j h cs vs L k⟩
  | .tp cs, v, L, k => by
    simp only [footT] at k ⊢
    obtain ⟨vs, e, k⟩ := k
    exact ⟨vs, e, footTs_D i j h cs vs L k⟩
  | .fn f cs, v, L, k => by
    simp only [footT] at k ⊢
    obtain ⟨vs, e, k⟩ := k
    exact ⟨vs, e, footTs_D i j h cs vs L k⟩
  | .ifc t x, v, L, k => by
    simp only [footT] at k ⊢
    obtain ⟨u, e, k⟩ := k
    exact ⟨u, e, footT_D i j h x u L k⟩
  | .sl es, v, L, k => by
    simp only [footT] at k ⊢
    obtain ⟨A, c, e, hc, hbig, k⟩ := k
    refine ⟨A, c, e, hc, h ▸ hbig, ?_⟩
    rcases k with k | ⟨b, off, vs, L', m, hA, hf, hs, hL, hl⟩
    · exact .inl k
    · exact .inr ⟨b, off, vs, L', m, hA, footTs_D i j h es vs L' hf, hs, hL, hl⟩
  | .po y off, v, L, k => by
    simp only [footT] at k ⊢
    obtain ⟨b, o, u, L', e, hf, hL, hl⟩ := k
    exact ⟨b, o, u, L', e, footT_D i j h y u L' hf, hL, hl⟩
  | .mp ks xs, v, L, k => by
    simp only [footT] at k ⊢
    obtain ⟨r, es, clock, l, L1, L2, e, hr, hp, h1, h2, hL⟩ := k
    exact ⟨r, es, clock, l, L1, L2, e, hr, ⟨hp.1, hp.2.1, hp.2.2.1, hp.2.2.2.1, h ▸ hp.2.2.2.2⟩, footTs_D i j h ks _ L1 h1, footTs_D i j h xs _ L2 h2, hL⟩
theorem footTs_D (i j : Bd) (h : i.B = j.B) {w : World} : ∀ (xs : List T) (vs : List Value) (L : List Nat), @footTs i w xs vs L → @footTs j w xs vs L
  | [], _, _, k => by simpa only [footTs] using k
  | x :: xs, vs, L, k => by
    simp only [footTs] at k ⊢
    obtain ⟨v, vs', L1, L2, e, hL, h1, h2⟩ := k
    exact ⟨v, vs', L1, L2, e, hL, footT_D i j h x v L1 h1, footTs_D i j h xs vs' L2 h2⟩
end
section
variable [Bd]
abbrev monS [Bd] : Bd := ⟨Bd.B, Bd.lo, Bd.hi, True⟩
theorem grownOf {W w' : World} (h : But (fun _ => False) W.heap.size W w') (hD : Bd.D) : ∃ q os', w' = grow (W.drewN q) os' := by
  refine ⟨w'.drawn - W.drawn, w'.heap.extract W.heap.size w'.heap.size, ?_⟩
  have hh : w'.heap = W.heap ++ w'.heap.extract W.heap.size w'.heap.size := by
    apply Array.ext_getElem?
    intro k
    rw [Array.getElem?_append]
    split
    · rename_i hk
      exact h.block k hk (fun h => h)
    · rename_i hk
      rw [Array.getElem?_extract]
      split
      · congr 1; omega
      · rename_i h2
        rw [Array.getElem?_eq_none (by omega)]
  have hd := h.drawn hD
  obtain ⟨h1, h2, h3, h4, h5, h6⟩ := h
  cases w'
  cases W
  simp only [grow, World.drewN] at *
  subst h1; subst h2; subst h3
  congr 1
  omega
abbrev txA (l : List (List UInt8)) : Ob := .arr 9 1 (.own .leaf) (l.map T.s)
theorem sortRel {w0 : Base} {n : Nat} {tm : List (Nat × AV)} {ex : List Ob} {l : List (List UInt8)} {hv : Hv} {S : Nat → Prop} {F : Nat → List Nat} {a : Act} {w : World} (hr : Rel w0 ⟨n, tm, txA l :: ex⟩ hv S F a w)
    {g cap : Nat} {cur : Array Value} (hvg : hv 0 = .slice (some ⟨g, 0, none⟩) l.length cap) (hheap : w.heap[g]? = some (.cells cur 9 (0, 0))) (hnc : l.length ≤ cap) (hcm : cap ≤ maxLen) (hcs : cur.size = cap * 1)
    {α : Type} [Inhabited α] (f : α → List UInt8) (d : Array α) (hd : d.size = l.length) (hdb : ∀ x ∈ d.toList, (f x).length < Bd.B) (hsm : l.length < Bd.B) (m : Nat) (os : Array Obj) :
    ∃ hv' S' F', Rel w0 ⟨n, tm, txA (d.toList.map f) :: ex⟩ hv' S' F' a (grow (putRow (fun x => encStr (f x)) (Sort.ahead w m) g 0 d) os) ∧ ∀ i, hv' i = hv i := by
  obtain ⟨w1, hw1⟩ : ∃ w1, putRow (fun x => encStr (f x)) (Sort.ahead w m) g 0 d = w1 := ⟨_, rfl⟩
  have hh1 : w1.heap = w.heap.modify g (onCells (putCells (fun x => encStr (f x)) 0 d)) := by rw [← hw1]; rfl
  have hg1 : w1.heap[g]? = some (.cells (putCells (fun x => encStr (f x)) 0 d cur) 9 (0, 0)) := by
    rw [hh1, Array.getElem?_modify, if_pos rfl, hheap]; rfl
  have ho1 : ∀ k, k ≠ g → w1.heap[k]? = w.heap[k]? := fun k hk => by
    rw [hh1, Array.getElem?_modify, if_neg (fun e => hk e.symm)]
  have hdl : (d.toList.map f).length = l.length := by simp [hd]
  have htk : (putCells (fun x => encStr (f x)) 0 d cur).toList.take (l.length * 1) = (d.toList.map f).map encStr := by
    apply List.ext_getElem?
    intro j
    by_cases hj : j < l.length
    · rw [List.getElem?_take_of_lt (by omega)]
      have hjc : j < cur.size := by omega
      have hjs : j < d.size := by omega
      simp [putCells, Array.getElem?_toList, Array.getElem?_mapIdx, Array.getElem?_eq_getElem hjc, hd, hj, Array.getElem?_eq_getElem hjs, getElem!_pos d j hjs]
    · rw [List.getElem?_eq_none (by rw [List.length_take]; omega), List.getElem?_eq_none (by rw [List.length_map]; omega)]
  have hbs : ∀ x ∈ d.toList.map f, x.length < Bd.B := fun x hx => by
    obtain ⟨y, hy, rfl⟩ := List.mem_map.1 hx
    exact hdb y hy
  have hroot : blkOf (hv 0) = some g := by rw [hvg]; rfl
  have hr1 := hr.write (id := 0) (o' := txA (d.toList.map f)) rfl (by simp) (w' := w1) (fun k hk => ho1 k (fun e => hk (by rw [hroot, e]))) (by rw [hh1]; simp) (by rw [← hw1]; rfl) (by rw [← hw1]; rfl) (by rw [← hw1]; rfl) (by rw [← hw1]; exact Nat.le_add_right _ _) rfl
    (by
      refine ⟨(d.toList.map f).map encStr, ⟨?_, .inr ⟨g, cap, _, ?_, Nat.zero_le _, hg1, ?_, hcm, ?_, ?_⟩⟩, ⟨[], fitsAll_own (fitsAll_map fun _ => rfl) (texts_foot hbs), by simp, by simp⟩, ?_, ?_, ?_⟩
      · rw [cellsL_texts]; simp
      · rw [hvg, List.length_map, hdl]
      · rw [List.length_map, hdl]; exact hnc
      · simp [putCells, hcs]
      · rw [cellsL_texts, List.length_map, hdl]; exact htk
      · intro v hv
        obtain ⟨x, _, rfl⟩ := List.mem_map.1 hv
        rfl
      · rw [List.length_map, hdl]; exact hsm
      · intro u hu
        rw [cellsL_texts] at hu
        obtain ⟨x, _, rfl⟩ := List.mem_map.1 hu
        rfl) (fun _ => rfl)
  have hgrew : Grew w1 (grow w1 os) := ⟨rfl, rfl, rfl, by simp [grow], fun k hk => by simp only [grow]; rw [Array.getElem?_append_left hk], fun _ => Nat.le_refl _⟩
  have hr2 := hr1.grow hgrew
  subst hw1
  exact ⟨_, _, _, hr2, fun _ => rfl⟩
abbrev mapA (l : List (List UInt8)) (vs : List T) : Ob := .map 9 3 (.own .leaf) (l.map T.s) vs none
theorem sortFuncM (l ks : List (List UInt8)) (vs : List T) (y : T) (f : FuncId) (hf6 : f < 1000000) (eg : ∀ args w, (callFunc f args).run P0 w = .ok (.enter f args) w) (cf : List UInt8 → List UInt8 → Int) (lt : List UInt8 → List UInt8 → Bool) (ht : Tot lt) (hlt : ∀ a b, a ∈ l → b ∈ l → decide (cf a b < 0) = lt a b)
    (hcmp : ∀ a b, a ∈ l → b ∈ l → @Con monS P0 f [.s a, .s b, .po (.mp (ks.map T.s) vs) 0, .po y 0] (.t (.i .i64 (cf a b))) []) (hn : l.Nodup) (hB : Bd.B ≤ 2147483648) :
    ConM P0 202 [.sr 0, .fn f [.rf 1 0, .rf 2 0]] [txA l, .box (.mr 3), .box (.t y), mapA ks vs] (.tp []) [txA (setG lt l), .box (.mr 3), .box (.t y), mapA ks vs] := by
  refine ⟨⟨_, Tryz.func202, rfl, rfl⟩, ?_⟩
  intro w L M vals hv S F hr
  have hsz : vals.length = 2 := by simpa using hr.size
  obtain ⟨v, fv, rfl⟩ : ∃ v fv, vals = [v, fv] := by
    match vals, hsz with
    | [a, b], _ => exact ⟨a, b, rfl⟩
  obtain ⟨L0, h0, _⟩ := hr.tm 0
  have e0 : v = hv 0 := by
    have : v = hv 0 ∧ L0 = [] := by simpa [numA, getL, footA] using h0
    exact this.1
  obtain ⟨L1, h1, hL1⟩ := hr.tm 1
  have h1 : footA hv w (.fn f [.rf 1 0, .rf 2 0]) fv L1 := by simpa [numA, getL] using h1
  simp only [footA] at h1
  obtain ⟨cvs, hfv, hcv⟩ := h1
  rw [fnVal_lo hf6] at hfv
  subst e0; subst hfv
  obtain ⟨rvs, hrow, ⟨L2, hown, _⟩, hvsz, hlen, hones⟩ := hr.ob 0 _ rfl
  obtain ⟨L3, hfoot, _⟩ := ownEs_foot _ _ hown
  obtain ⟨rfl, hbl⟩ := foot_texts hfoot
  rw [cellsL_texts] at hrow
  have none0 : ∀ p c, l = [] → hv 0 = .slice p 0 c → Calls P0 202 #[hv 0, .func (.func f) #[] cvs.toArray] w fun e w' => ∃ (v : Value) (hv' : Hv) (S' : Nat → Prop) (F' : Nat → List Nat) (L' : List Nat), e = .returned v ∧ Rel ⟨w, L, M, 4, hv.v⟩ ⟨0, [], [txA (setG lt l), .box (.mr 3), .box (.t y), mapA ks vs]⟩ hv' S' F' ⟨#[], []⟩ w' ∧ footA hv' w' (.tp []) v L' ∧ (∀ b ∈ L', S' b) ∧ (AV.tp []).under 4 = true := by
    intro p c hl hvn
    subst hl
    have hcall := AnyF.slices_SortFunc_none { Tryz.sortF with } p c (.func (.func f) #[] cvs.toArray) w
    change Calls P0 202 _ _ _ at hcall
    rw [hvn]
    refine hcall.mono fun e w' ⟨he, hw⟩ => ?_
    subst hw
    exact ⟨.tuple #[], hv, S, F, [], he, hr.no_tmp, by simp [footA, footAs], by simp, rfl⟩
  rcases hrow.2 with ⟨hnil, hn0⟩ | ⟨g, cap, cur, hvg, hbg, hheap, hnc, hcm, hcs, htake⟩
  · exact none0 _ _ (List.eq_nil_of_length_eq_zero (by simpa using hn0)) hnil
  have hn3 : (l.map T.s).length = l.length := by simp
  rw [hn3] at hnc htake hvg
  by_cases hl0 : l = []
  · exact none0 _ cap hl0 (by rw [hvg, hl0]; rfl)
  have hsmall : l.length < Bd.B := by rw [hn3] at hlen; exact hlen
  have hhi := Bd.hi
  have hcn : l.length ≤ cur.size := by rw [hcs]; omega
  haveI : Inhabited {x // x ∈ l} := ⟨⟨l.head hl0, List.head_mem hl0⟩⟩
  have hlo : ∀ x z : {x // x ∈ l}, ltOf (fun x z : {x // x ∈ l} => cf x.1 z.1) x z = lt x.1 z.1 := fun x z => hlt x.1 z.1 x.2 z.2
  have hswo : SWO (ltOf (fun x z : {x // x ∈ l} => cf x.1 z.1)) := {
    irrefl := fun x => by rw [hlo]; exact ht.irr _
    trans := fun x z u h1 h2 => by rw [hlo] at *; exact ht.trans _ _ _ h1 h2
    ntrans := fun x z u h1 h2 => by
      rw [hlo] at *
      cases h : lt x.1 u.1 with
      | false => rfl
      | true =>
        by_cases e : x.1 = z.1
        · rw [← e] at h2; rw [h2] at h; cases h
        · have := ht.trans _ _ _ (ht.flip h1 e) h
          rw [this] at h2; cases h2 }
  simp only [footAs, footA] at hcv
  obtain ⟨c1, cvs1, _, _, rfl, _, ⟨b1, hb1, rfl, _⟩, c2, cvs2, _, _, rfl, _, ⟨b2, hb2, rfl, _⟩, rfl, _⟩ := hcv
  have hcmpL : CmpLays1 P0 f #[.pointer (some ⟨b1, 0, none⟩), .pointer (some ⟨b2, 0, none⟩)] (fun x : {x // x ∈ l} => encStr x.1) (fun x z => cf x.1 z.1) g 0 l.attach.toArray.size w := by
    intro m os dk hs x z
    obtain ⟨hv2, S2, F2, hr2, he2⟩ := sortRel hr hvg hheap hnc hcm hcs (fun x : {x // x ∈ l} => x.1) dk (by simpa using hs) (fun x _ => hbl x.1 x.2) hsmall m os
    generalize hW : sortWorld (fun x : {x // x ∈ l} => encStr x.1) w g 0 m dk os = W
    change grow (putRow (fun x : {x // x ∈ l} => encStr x.1) (Sort.ahead w m) g 0 dk) os = W at hW
    rw [hW] at hr2
    obtain ⟨M1, f1, g1⟩ := see_sound hr2.obs hr2.Blt hr2.rootsIn 5 (.rf 1 0) (.po (.mp (ks.map T.s) vs) 0) (.pointer (some ⟨b1, 0, none⟩)) [] rfl (by simp only [footA]; exact ⟨b1, by rw [he2]; exact hb1, rfl, trivial⟩) (by simp)
    obtain ⟨M2, f2, g2⟩ := see_sound hr2.obs hr2.Blt hr2.rootsIn 5 (.rf 2 0) (.po y 0) (.pointer (some ⟨b2, 0, none⟩)) [] rfl (by simp only [footA]; exact ⟨b2, by rw [he2]; exact hb2, rfl, trivial⟩) (by simp)
    have hfs0 : footTs W [.s x.1, .s z.1, .po (.mp (ks.map T.s) vs) 0, .po y 0] [encStr x.1, encStr z.1, .pointer (some ⟨b1, 0, none⟩), .pointer (some ⟨b2, 0, none⟩)] (M1 ++ M2) := by
      simp only [footTs]
      exact ⟨_, _, [], M1 ++ M2, rfl, rfl, by simp only [footT]; refine ⟨?_, ?_, hbl _ x.2⟩ <;> first | rfl | trivial, _, _, [], M1 ++ M2, rfl, rfl, by simp only [footT]; refine ⟨?_, ?_, hbl _ z.2⟩ <;> first | rfl | trivial, _, _, M1, M2, rfl, rfl, f1, _, _, M2, [], rfl, by simp, f2, rfl, rfl⟩
    have hfs := footTs_D ‹Bd› monS rfl _ _ _ hfs0
    have hco := hcmp x.1 z.1 x.2 z.2
    clear hfs0 f1 f2 hr2 hr
    letI : Bd := monS
    refine (Con.run hco hfs (fun b hb => (List.mem_append.1 hb).elim (g1 b) (g2 b)) (fun _ => False)).mono fun e w' hh => ?_
    obtain ⟨v, hv3, S3, F3, L', rfl, hr3, hx, _, _⟩ := hh
    simp only [footA, footT] at hx
    obtain ⟨rfl, _⟩ := hx
    exact ⟨rfl, grownOf hr3.below trivial⟩
  have hH : Go.Sort.Holds (fun x : {x // x ∈ l} => encStr x.1) w g 0 l.attach.toArray := by
    intro j hj
    have hj' : j < l.length := by simpa using hj
    have hcur : cur[j]? = some (encStr l[j]) := by
      have h : (cur.toList.take (l.length * 1))[j]? = (l.map encStr)[j]? := by rw [htake]
      rw [List.getElem?_take_of_lt (by omega), List.getElem?_map, List.getElem?_eq_getElem hj'] at h
      simpa using h
    refine ⟨?_, ?_⟩
    · simp only [World.cell?, hheap, Nat.zero_add]
      rw [getElem!_pos l.attach.toArray j hj]
      simpa using hcur
    · simp [World.frozen?, hheap]
  have hcall := Any.slices_SortFunc Tryz.sortF (fun x : {x // x ∈ l} => encStr x.1) (fun _ => rfl) (fun x z => cf x.1 z.1) hswo f #[.pointer (some ⟨b1, 0, none⟩), .pointer (some ⟨b2, 0, none⟩)] g 0 cap l.attach.toArray w eg hcmpL hH (heap_lt hheap) (by simp; omega)
  change Calls P0 202 _ _ _ at hcall
  rw [show l.attach.toArray.size = l.length by simp] at hcall
  rw [hvg]
  refine hcall.mono fun e w' ⟨he, d', n, os, hperm, hsort, hw⟩ => ?_
  obtain ⟨hps, _, hpp⟩ := hperm
  have hd : d'.size = l.length := by simpa using hps
  have hpl : List.Perm (d'.toList.map (·.1)) l := by
    rw [← hd, Array.extract_size] at hpp
    rw [show d'.size = l.attach.toArray.size by rw [hd]; simp, Array.extract_size] at hpp
    have := hpp.map (·.1)
    simpa using this
  have hs : d'.toList.map (·.1) = setG lt l := by
    refine setG_is ht ?_ fun x => hpl.mem_iff
    have hnd := hpl.nodup_iff.2 hn
    refine List.pairwise_iff_getElem.2 fun i j hi hj hij => ?_
    have hi' : i < d'.size := by simpa using hi
    have hj' : j < d'.size := by simpa using hj
    have := hsort i j (Nat.zero_le _) hij (by omega)
    rw [hlo, getElem!_pos d' j hj', getElem!_pos d' i hi'] at this
    have hne := List.pairwise_iff_getElem.1 hnd i j hi hj hij
    simp only [List.getElem_map, Array.getElem_toList] at hne ⊢
    exact ht.flip this (Ne.symm hne)
  obtain ⟨hv2, S2, F2, hr2, he2⟩ := sortRel hr hvg hheap hnc hcm hcs (fun x : {x // x ∈ l} => x.1) d' hd (fun x _ => hbl x.1 x.2) hsmall n os
  rw [hs] at hr2
  change w' = grow (putRow (fun x : {x // x ∈ l} => encStr x.1) (Sort.ahead w n) g 0 d') os at hw
  rw [← hw] at hr2
  exact ⟨.tuple #[], hv2, S2, F2, [], he, hr2.no_tmp, by simp [footA, footAs], by simp, rfl⟩
end
end Go.Proofs.YtmgdkkhnjkepiaaGreat.BX
namespace Go.Proofs.YtmgdkkhnjkepiaaGreat.BX
set_option linter.unusedSectionVars false
set_option linter.unusedSimpArgs false
set_option linter.unusedVariables false
open Go Go.RowKit Go.Shelf Go.Sort Go.Maps
set_option maxRecDepth 20000
set_option maxHeartbeats 400000
section
variable [Bd]
theorem keyRdZ {x : MapEntry} {k : List UInt8} (hk : x.key = encStr k) (hl : k.length < 9223372036854775808) : Go.WideElems.rd P0 9 (fun _ => some ((.nil : DataW Unit), ([] : List MemPlace))) x = some (.string k, .nil) := by
  unfold Go.WideElems.rd
  rw [hk]
  have : keyOf P0 9 (.string ⟨k.toArray⟩) = some (.string k) := by
    have := Go.WideMaps.keyOf_string_mk (P := P0) (k := 9) (by kernel_rfl) (s := ⟨k.toArray⟩) (by show k.toArray.size ≤ 2 ^ 63 - 1; simp; omega)
    simpa using this
  rw [this]
  rfl
theorem entsMapZ {w : World} {ks : List (List UInt8)} {r : Nat} {es : Array MapEntry} {clock : Nat} {l : List MapEntry} (h1 : w.heap[r]? = some (.map es clock)) (hp : List.Perm l es.toList) (hb : (l.map (·.born)).Nodup) (hlt : ∀ e ∈ l, e.born < clock) (hk : l.map (·.key) = ks.map encStr) (hn : ks.Nodup) (hs : ∀ k ∈ ks, k.length < 9223372036854775808) (hl : ks.length ≤ 9223372036854775807) :
    ∃ D0 : DataW Unit, w.ownsMap P0 9 (fun _ => some (.nil, [])) r es.size D0 ∧ size D0 = ks.length ∧ List.Perm (strKeys D0) ks := by
  have hlen : es.toList.length = ks.length := by rw [← hp.length_eq, ← List.length_map (f := (·.key)), hk, List.length_map]
  have hkey : ∀ x ∈ es.toList, ∃ k ∈ ks, x.key = encStr k := fun x hx => by
    have : x.key ∈ l.map (·.key) := List.mem_map_of_mem (hp.mem_iff.2 hx)
    rw [hk] at this
    obtain ⟨k, hk1, hk2⟩ := List.mem_map.1 this
    exact ⟨k, hk1, hk2.symm⟩
  have hrg : ∀ x ∈ es.toList, ∀ k, x.key = encStr k → k ∈ ks → Go.WideElems.rg P0 9 (fun _ => some ((.nil : DataW Unit), ([] : List MemPlace))) x = (.string k, .nil) := fun x _ k h1 h2 => Go.WideElems.rg_of (keyRdZ h1 (hs k h2))
  refine ⟨_, ⟨es, clock, h1, ⟨?_, ⟨?_, ?_, ?_⟩, ?_⟩, Nat.le_refl _, rfl⟩, ?_, ?_⟩
  · rw [← Array.length_toList, hlen]; exact hl
  · exact fun x hx => hlt x (hp.mem_iff.2 hx)
  · exact (hp.map _).nodup_iff.1 hb
  · refine (hp.map _).nodup_iff.1 ?_
    rw [hk]
    exact List.pairwise_map.2 (hn.imp fun hne e => hne (encStr_inj e))
  · intro x hx
    obtain ⟨k, k1, k2⟩ := hkey x hx
    exact ⟨_, keyRdZ k2 (hs k k1)⟩
  · rw [size_eq, (Go.WideShapes.sorted_perm _).length_eq, List.length_map, hlen]
  · show List.Perm (List.map (fun p => strOf p.1) (List.foldr DataW.insert [] _)) ks
    refine ((Go.WideShapes.sorted_perm _).map _).trans ?_
    rw [List.map_map]
    refine (hp.symm.map _).trans ?_
    have : ∀ (l : List MapEntry) (ks : List (List UInt8)), l.map (·.key) = ks.map encStr → (∀ k ∈ ks, k.length < 9223372036854775808) → l.map ((fun p : Lit × DataW Unit => strOf p.1) ∘ Go.WideElems.rg P0 9 (fun _ => some ((.nil : DataW Unit), ([] : List MemPlace)))) = ks := by
      intro l
      induction l with
      | nil => intro ks h _; cases ks with
        | nil => rfl
        | cons k ks => simp at h
      | cons x l ih =>
        intro ks h hs
        cases ks with
        | nil => simp at h
        | cons k ks =>
          simp only [List.map_cons, List.cons.injEq] at h ⊢
          refine ⟨?_, ih ks h.2 fun k hk => hs k (by simp [hk])⟩
          simp only [Function.comp, Go.WideElems.rg_of (keyRdZ h.1 (hs k (by simp)))]
          rfl
    rw [this l ks hk hs]
set_option maxHeartbeats 1000000 in
theorem collectK (l : List (List UInt8)) (vs : List T) (hD : ¬ Bd.D) (hB : Bd.B ≤ 2147483648) : ConN P0 201 [.fn 203 [.rf 0 0]] [.box (.mr 1), mapA l vs] (fun ss : List (List UInt8) => List.Perm ss l) (.sr 2)
    (fun ss => [.box (.mr 1), mapA l vs, txA ss]) := by
  refine ⟨⟨_, Tryz.func201, rfl, rfl⟩, ?_⟩
  intro w L M vals hv S F hr
  have hsz : vals.length = 1 := by simpa using hr.size
  obtain ⟨v, rfl⟩ : ∃ v, vals = [v] := List.length_eq_one_iff.1 hsz
  obtain ⟨L0, h0, _⟩ := hr.tm 0
  obtain ⟨b, e, u, L1, hb1, hb2, hb3, _⟩ := hr.ob 0 _ rfl
  have e0 : v = .func (.func 203) #[] #[.pointer (some ⟨b, 0, none⟩)] := by
    have : footA hv w (.fn 203 [.rf 0 0]) v L0 := by simpa [numA, getL] using h0
    simp only [footA, footAs] at this
    obtain ⟨vs', rfl, v1, vs1, _, _, rfl, _, ⟨b', q1, q2, _⟩, rfl, _⟩ := this
    rw [hb1] at q1
    cases q1
    rw [q2]
    exact fnVal_lo (by decide)
  subst e0
  obtain ⟨r, es, clock, en, hE, hels, hlv, _⟩ := hr.ob 1 _ rfl
  simp only [footA] at hb3
  obtain ⟨rfl, _⟩ := hb3
  have hcell : w.cell? ⟨b, 0, none⟩ = some (.map (some r)) := by
    rw [hE.val] at hb2
    simp [World.cell?, hb2, Value.cells]
  obtain ⟨hkeys, hklen⟩ := foot_texts hE.keys
  have hnd : l.Nodup := by
    have := hE.nodup
    exact (List.pairwise_map.1 this).imp fun h e => h (by rw [e])
  have hsm := hE.small
  rw [List.length_map] at hsm
  obtain ⟨D0, hown, hsize, hperm⟩ := entsMapZ (ks := l) hE.heap hE.perm hE.born hE.lt hkeys hnd (fun k hk => by have := hklen k hk; omega) (by omega)
  have hbl : b < w.heap.size := heap_lt hb2
  have hseq : SeqGives Fence.wide 2 P0 203 #[.pointer (some ⟨b, 0, none⟩)] encStr (fun ss => ss.Perm (strKeys D0)) (Maps.size D0) w :=
    AnyZ.keys_gives (ρ := Tryz.keysM_ren) { Tryz.keysM with } Fence.wide _ trivial rfl (by omega) b r es.size D0 w hbl hcell hown
  have hcall := AnyZ.collect_in Tryz.collectM Fence.wide 4 trivial trivial rfl (by omega) 203 #[.pointer (some ⟨b, 0, none⟩)] trivial (enters_of Tryz.func203 (by kernel_rfl) rfl) _ _ (by rw [hsize]; show l.length ≤ 2 ^ 63 - 1; omega) (by rw [hsize]; omega) w hseq
  have hcall := callsIn_wide.1 hcall
  change Calls P0 201 _ _ _ at hcall
  refine hcall.mono fun e w' ⟨v, ss, he, hss, hrow, hnil, hbel⟩ => ?_
  have hsl : List.Perm ss l := hss.trans hperm
  change w'.ownsRow w.heap.size 9 1 v ss.length (ss.map encStr) at hrow
  have hbs : ∀ x ∈ ss, x.length < Bd.B := fun x hx => hklen x (hsl.mem_iff.1 hx)
  have hr' := hr.no_tmp
  have g : Grew w w' := Grew.of_below hbel fun d => absurd d hD
  obtain ⟨hv', S', F', q1, q2, q3, q4⟩ := hr'.newrow g (k := .own .leaf) (es := ss.map T.s) (vs := ss.map encStr) ⟨[], ⟨[], fitsAll_own (fitsAll_map fun _ => rfl) (texts_foot hbs), by simp, by simp⟩, fun _ => by intro b hb; cases hb⟩ (e := 9) (m := 1) (v := v)
    (by rw [cellsL_texts, List.length_map]; exact hrow) (fun v hv => by obtain ⟨x, _, rfl⟩ := List.mem_map.1 hv; rfl) (by rw [List.length_map, hsl.length_eq]; exact hsm) (by
      intro u hu
      rw [cellsL_texts] at hu
      obtain ⟨x, _, rfl⟩ := List.mem_map.1 hu
      rfl) (by rcases hrow.2 with ⟨q, _⟩ | ⟨_, _, _, q, _⟩ <;> rw [q] <;> rfl)
  exact ⟨ss, hsl, v, hv', S', F', [], he, q4, by simp only [footA]; exact ⟨q3.symm, trivial⟩, by simp, rfl⟩
theorem sortedFuncM (l : List (List UInt8)) (vs : List T) (y : T) (f : FuncId) (hf6 : f < 1000000) (eg : ∀ args w, (callFunc f args).run P0 w = .ok (.enter f args) w) (cf : List UInt8 → List UInt8 → Int) (lt : List UInt8 → List UInt8 → Bool) (ht : Tot lt) (hlt : ∀ a b, a ∈ l → b ∈ l → decide (cf a b < 0) = lt a b)
    (hcmp : ∀ a b, a ∈ l → b ∈ l → @Con monS P0 f [.s a, .s b, .po (.mp (l.map T.s) vs) 0, .po y 0] (.t (.i .i64 (cf a b))) []) (hn : l.Nodup) (hD : ¬ Bd.D) (hB : Bd.B ≤ 2147483648) :
    ConM P0 146 [.fn 203 [.rf 0 0], .fn f [.rf 2 0, .rf 3 0]] [.box (.mr 1), mapA l vs, .box (.mr 1), .box (.t y)] (.sr 4) [.box (.mr 1), mapA l vs, .box (.mr 1), .box (.t y), txA (setG lt l)] := by
  refine ConM.intro (fn := Tryz.f146) [.tmp 4] (fun _ => (0, [])) mixed (by kernel_rfl) rfl (by decide) rfl (by rfl) (by kernel_rfl) ?_
  simp -implicitDefEqProofs (maxSteps := 2000000) only [push_cast, Nat.reduceEqDiff, Nat.reduceLT, Nat.reduceLeDiff, Nat.reduceAdd, Nat.reduceMul, Nat.reduceSub, Nat.reduceBEq, ↓reduceIte, reduceCtorEq]
  refine Callx.any _ [0, 1] (collectK l vs hD hB) (by decide) (by simp only [push_cast, Nat.reduceEqDiff, Nat.reduceLT, Nat.reduceLeDiff, Nat.reduceAdd, Nat.reduceMul, Nat.reduceSub, Nat.reduceBEq, ↓reduceIte, reduceCtorEq]) rfl rfl (by simp only [push_cast, Nat.reduceEqDiff, Nat.reduceLT, Nat.reduceLeDiff, Nat.reduceAdd, Nat.reduceMul, Nat.reduceSub, Nat.reduceBEq, ↓reduceIte, reduceCtorEq] <;> rfl) (fun _ => rfl) (.inr ⟨rfl, by simp only [push_cast, Nat.reduceEqDiff, Nat.reduceLT, Nat.reduceLeDiff, Nat.reduceAdd, Nat.reduceMul, Nat.reduceSub, Nat.reduceBEq, ↓reduceIte, reduceCtorEq]⟩) (fun ss hss => ?_)
  simp -implicitDefEqProofs (maxSteps := 2000000) only [push_cast, Nat.reduceEqDiff, Nat.reduceLT, Nat.reduceLeDiff, Nat.reduceAdd, Nat.reduceMul, Nat.reduceSub, Nat.reduceBEq, ↓reduceIte, reduceCtorEq]
  have hs := sortFuncM ss l vs y f hf6 eg cf lt ht (fun a b ha hb => hlt a b (hss.mem_iff.1 ha) (hss.mem_iff.1 hb)) (fun a b ha hb => hcmp a b (hss.mem_iff.1 ha) (hss.mem_iff.1 hb)) (hss.nodup_iff.2 hn) hB
  rw [setG_same (m := ss) (l := l) ht fun x => hss.mem_iff] at hs
  refine Callx.hand [4, 2, 3, 1] hs (by decide) (by simp only [push_cast, Nat.reduceEqDiff, Nat.reduceLT, Nat.reduceLeDiff, Nat.reduceAdd, Nat.reduceMul, Nat.reduceSub, Nat.reduceBEq, ↓reduceIte, reduceCtorEq]) rfl rfl (by simp only [push_cast, Nat.reduceEqDiff, Nat.reduceLT, Nat.reduceLeDiff, Nat.reduceAdd, Nat.reduceMul, Nat.reduceSub, Nat.reduceBEq, ↓reduceIte, reduceCtorEq] <;> rfl) rfl (.inr ⟨rfl, by simp only [push_cast, Nat.reduceEqDiff, Nat.reduceLT, Nat.reduceLeDiff, Nat.reduceAdd, Nat.reduceMul, Nat.reduceSub, Nat.reduceBEq, ↓reduceIte, reduceCtorEq]⟩) ?_
  simp -implicitDefEqProofs (maxSteps := 2000000) only [push_cast, Nat.reduceEqDiff, Nat.reduceLT, Nat.reduceLeDiff, Nat.reduceAdd, Nat.reduceMul, Nat.reduceSub, Nat.reduceBEq, ↓reduceIte, reduceCtorEq]
  exact Close.of [some 0, some 1, some 2, some 3, some 4] rfl rfl rfl (by simp only [push_cast, Nat.reduceEqDiff, Nat.reduceLT, Nat.reduceLeDiff, Nat.reduceAdd, Nat.reduceMul, Nat.reduceSub, Nat.reduceBEq, ↓reduceIte, reduceCtorEq] <;> rfl) (by simp only [push_cast, Nat.reduceEqDiff, Nat.reduceLT, Nat.reduceLeDiff, Nat.reduceAdd, Nat.reduceMul, Nat.reduceSub, Nat.reduceBEq, ↓reduceIte, reduceCtorEq] <;> rfl)
end
end Go.Proofs.YtmgdkkhnjkepiaaGreat.BX
namespace Go.Proofs.YtmgdkkhnjkepiaaGreat.BX
set_option linter.unusedSectionVars false
set_option linter.unusedSimpArgs false
set_option linter.unusedVariables false
open Go Go.RowKit
set_option maxRecDepth 20000
set_option maxHeartbeats 400000
theorem bytesLess_eq : ∀ (x y : List UInt8), Op.bytesLess x y = decide (x < y)
  | [], [] => by simp [Op.bytesLess]
  | _ :: _, [] => by simp [Op.bytesLess]
  | [], _ :: _ => by simp [Op.bytesLess]
  | a :: x, b :: y => by
    rw [Op.bytesLess, bytesLess_eq x y]
    simp only [List.cons_lt_cons_iff]
    by_cases h1 : a < b <;> by_cases h2 : a = b <;> by_cases h3 : x < y <;> simp [h1, h2, h3]
theorem less_irrefl (x : List UInt8) : Op.bytesLess x x = false := by
  rw [bytesLess_eq]; simp [List.lt_irrefl]
theorem less_total {x y : List UInt8} (h : Op.bytesLess x y = false) (k : Op.bytesLess y x = false) : x = y := by
  rw [bytesLess_eq] at h k
  simp only [decide_eq_false_iff_not] at h k
  exact List.le_antisymm k h
def before (a b : Entry) : Bool := if ¬ a.typ = b.typ then Op.bytesLess a.typ b.typ else Op.bytesLess a.key b.key
def cmpS (x y : List UInt8) : Int := if Op.bytesLess x y = true then -1 else if Op.bytesLess y x = true then 1 else 0
variable [Bd]
theorem isNaN (x : List UInt8) : Con P0 182 [.s x] (.t (.b false)) [] := by
  refine Con.intro (fn := Tryz.f182) [.tmp 2] (fun _ => (0, [])) mixed (by kernel_rfl) rfl (by decide) rfl (by rfl) (by kernel_rfl) ?_
  simp -implicitDefEqProofs (maxSteps := 2000000) only [push_cast, Nat.reduceEqDiff, Nat.reduceLT, Nat.reduceLeDiff, Nat.reduceAdd, Nat.reduceMul, Nat.reduceSub, Nat.reduceBEq, ↓reduceIte, reduceCtorEq]
theorem compareS (x y : List UInt8) : Con P0 111 [.s x, .s y] (.t (.i .i64 (cmpS x y))) [] := by
  refine Con.intro (fn := Tryz.f111) [.tmp 4] (fun _ => (0, [])) mixed (by kernel_rfl) rfl (by decide) rfl (by rfl) (by kernel_rfl) ?_
  simp -implicitDefEqProofs (maxSteps := 2000000) only [push_cast, Nat.reduceEqDiff, Nat.reduceLT, Nat.reduceLeDiff, Nat.reduceAdd, Nat.reduceMul, Nat.reduceSub, Nat.reduceBEq, ↓reduceIte, reduceCtorEq]
  refine Callx.closed (isNaN x) rfl rfl (.inl rfl) ?_
  simp -implicitDefEqProofs (maxSteps := 2000000) only [push_cast, Nat.reduceEqDiff, Nat.reduceLT, Nat.reduceLeDiff, Nat.reduceAdd, Nat.reduceMul, Nat.reduceSub, Nat.reduceBEq, ↓reduceIte, reduceCtorEq]
  refine Callx.closed (isNaN y) rfl rfl (.inl rfl) ?_
  simp -implicitDefEqProofs (maxSteps := 2000000) only [push_cast, Nat.reduceEqDiff, Nat.reduceLT, Nat.reduceLeDiff, Nat.reduceAdd, Nat.reduceMul, Nat.reduceSub, Nat.reduceBEq, ↓reduceIte, reduceCtorEq]
  unfold cmpS
  split
  · rfl
  rename_i h
  split
  · rename_i k
    refine congrArg (T.i .i64) (if_pos ?_).symm
    cases hyx : Op.bytesLess y x with
    | true => rfl
    | false =>
      have := less_total (by simpa using h) hyx
      simp [this] at k
  · rename_i k
    refine congrArg (T.i .i64) (if_neg ?_).symm
    intro hyx
    refine k ?_
    have hne : ¬ x = y := by rintro rfl; rw [less_irrefl] at hyx; cases hyx
    simp [h, hne]
def firstNz : List Int → Int
  | [] => 0
  | x :: xs => if x ≠ 0 then x else firstNz xs
theorem firstNz_at {xs : List Int} : ∀ {i : Nat} {a : Int}, xs[i]? = some a → (∀ x ∈ xs.take i, x = 0) → a ≠ 0 → firstNz xs = a := by
  induction xs with
  | nil => intro i a h; simp at h
  | cons x xs ih =>
    intro i a h h0 ha
    cases i with
    | zero => simp at h; subst h; simp [firstNz, ha]
    | succ i =>
      simp only [List.getElem?_cons_succ] at h
      have hx : x = 0 := h0 x (by simp)
      simp only [firstNz, hx, ne_eq, not_true, if_false]
      exact ih h (fun y hy => h0 y (by simp [hy])) ha
theorem firstNz_all {xs : List Int} (h : ∀ x ∈ xs, x = 0) : firstNz xs = 0 := by
  induction xs with
  | nil => rfl
  | cons x xs ih => simp only [firstNz, h x (by simp), ne_eq, not_true, if_false]; exact ih fun y hy => h y (by simp [hy])
theorem cmpOr (xs : List Int) : Con P0 110 [eIntS xs] (.t (.i .i64 (firstNz xs))) [] := by
  refine Con.intro (fn := Tryz.f110) [.tmp 2] (fun _ => (0, [])) mixed (by kernel_rfl) rfl (by decide) rfl (by rfl) (by kernel_rfl) ?_
  simp -implicitDefEqProofs (maxSteps := 2000000) only [push_cast, Nat.reduceEqDiff, Nat.reduceLT, Nat.reduceLeDiff, Nat.reduceAdd, Nat.reduceMul, Nat.reduceSub, Nat.reduceBEq, ↓reduceIte, reduceCtorEq]
  intro hl
  have := Bd.hi
  refine WL.loop (ι := Nat) (D := (fun _ => (0, []))) (fun i => i ≤ xs.length ∧ ∀ x ∈ xs.take i, x = 0) (fun i => ⟨18, [(8, .t (.i .i64 i)), (7, .t (.i .i64 xs.length)), (6, .t (eIntS xs)), (3, .t (.i .i64 0))], []⟩) (fun i => xs.length - i) mixed (by kernel_rfl) 0 ⟨by omega, by simp⟩ (Keep.wk (ids := []) ?_) ?_
  · simp only [push_cast, Nat.reduceEqDiff, Nat.reduceLT, Nat.reduceLeDiff, Nat.reduceAdd, Nat.reduceMul, Nat.reduceSub, Nat.reduceBEq, ↓reduceIte, reduceCtorEq] <;> rfl
  · rintro i ⟨hi, hc⟩
    simp -implicitDefEqProofs (maxSteps := 2000000) only [push_cast, Nat.reduceEqDiff, Nat.reduceLT, Nat.reduceLeDiff, Nat.reduceAdd, Nat.reduceMul, Nat.reduceSub, Nat.reduceBEq, ↓reduceIte, reduceCtorEq]
    split
    · rename_i h
      refine ⟨by omega, fun a ha => ?_⟩
      rw [Int.toNat_natCast] at ha
      split
      · rename_i hne
        exact congrArg (T.i .i64) (firstNz_at ha hc hne).symm
      · rename_i h0
        refine ⟨by unfold inI64; omega, i + 1, ⟨by omega, fun e he => ?_⟩, by omega, Keep.wk (ids := []) ?_⟩
        · rw [List.take_add_one, ha] at he
          rcases List.mem_append.1 he with he | he
          · exact hc e he
          · simp at he; subst he; omega
        · simp only [push_cast, Nat.reduceEqDiff, Nat.reduceLT, Nat.reduceLeDiff, Nat.reduceAdd, Nat.reduceMul, Nat.reduceSub, Nat.reduceBEq, ↓reduceIte, reduceCtorEq] <;> rfl
    · have hi : i = xs.length := by omega
      subst hi
      rw [List.take_length] at hc
      exact congrArg (T.i .i64) (firstNz_all hc).symm
end Go.Proofs.YtmgdkkhnjkepiaaGreat.BX
namespace Go.Proofs.YtmgdkkhnjkepiaaGreat.BX
set_option linter.unusedSectionVars false
set_option linter.unusedSimpArgs false
set_option linter.unusedVariables false
open Go Go.RowKit
set_option maxRecDepth 20000
set_option maxHeartbeats 400000
def cmpI (x y : Int) : Int := if x < y then -1 else if y < x then 1 else 0
def depV (es : List Event) (line : List (List UInt8)) (l : List (List UInt8)) : List T := l.map fun x => T.i .i64 (depI es line x : Int)
def mcmp (es : List Event) (line : List (List UInt8)) (a b : List UInt8) : Int := firstNz [cmpI (depI es line b) (depI es line a), cmpI (timI es a) (timI es b), cmpS a b]
theorem cmpS_dec {a b : List UInt8} : decide (cmpS a b < 0) = Op.bytesLess a b := by
  unfold cmpS
  cases h : Op.bytesLess a b
  · split <;> (rename_i h1; first | (cases h1; done) | (split <;> simp))
  · simp
theorem mcmp_lt (es : List Event) (line : List (List UInt8)) (a b : List UInt8) : decide (mcmp es line a b < 0) = mbef es line a b := by
  unfold mcmp mbef firstNz firstNz firstNz firstNz
  rw [← cmpS_dec]
  generalize depI es line a = x
  generalize depI es line b = y
  generalize timI es a = p
  generalize timI es b = q
  unfold cmpI
  by_cases h1 : x = y
  · subst h1
    by_cases h2 : p = q
    · subst h2
      simp
      split
      · rename_i h; rw [h]
      · rfl
    · simp [h2]
      by_cases h3 : p < q
      · simp [h3]
      · have : q < p := by omega
        simp [h3, this]
  · by_cases h3 : y < x
    · have : ¬ x = y := h1
      simp [h3, this]
    · have h4 : x < y := by omega
      have : ¬ x = y := h1
      simp [h3, h4, this]
variable [Bd]
theorem isNaNI (x : Int) : Con P0 204 [.i .i64 x] (.t (.b false)) [] := by
  refine Con.intro (fn := Tryz.f204) [.tmp 2] (fun _ => (0, [])) mixed (by kernel_rfl) rfl (by decide) rfl (by rfl) (by kernel_rfl) ?_
  simp -implicitDefEqProofs (maxSteps := 2000000) only [push_cast, Nat.reduceEqDiff, Nat.reduceLT, Nat.reduceLeDiff, Nat.reduceAdd, Nat.reduceMul, Nat.reduceSub, Nat.reduceBEq, ↓reduceIte, reduceCtorEq]
theorem compareI (x y : Int) : Con P0 149 [.i .i64 x, .i .i64 y] (.t (.i .i64 (cmpI x y))) [] := by
  refine Con.intro (fn := Tryz.f149) [.tmp 4] (fun _ => (0, [])) mixed (by kernel_rfl) rfl (by decide) rfl (by rfl) (by kernel_rfl) ?_
  simp -implicitDefEqProofs (maxSteps := 2000000) only [push_cast, Nat.reduceEqDiff, Nat.reduceLT, Nat.reduceLeDiff, Nat.reduceAdd, Nat.reduceMul, Nat.reduceSub, Nat.reduceBEq, ↓reduceIte, reduceCtorEq]
  refine Callx.closed (isNaNI x) rfl rfl (.inl rfl) ?_
  simp -implicitDefEqProofs (maxSteps := 2000000) only [push_cast, Nat.reduceEqDiff, Nat.reduceLT, Nat.reduceLeDiff, Nat.reduceAdd, Nat.reduceMul, Nat.reduceSub, Nat.reduceBEq, ↓reduceIte, reduceCtorEq]
  refine Callx.closed (isNaNI y) rfl rfl (.inl rfl) ?_
  simp -implicitDefEqProofs (maxSteps := 2000000) only [push_cast, Nat.reduceEqDiff, Nat.reduceLT, Nat.reduceLeDiff, Nat.reduceAdd, Nat.reduceMul, Nat.reduceSub, Nat.reduceBEq, ↓reduceIte, reduceCtorEq]
  unfold cmpI
  by_cases h1 : x < y
  · simp only [h1, if_true]
  · by_cases h2 : y < x
    · simp only [h1, h2, if_true, if_false]
    · simp only [h1, h2, if_false]
theorem mapLook {s : Bool × List Lay} (hs : s = (false, [.str])) {z : Value} {k : List UInt8} {kd : Kind} {K : AV → Prop} {l : List (List UInt8)} (hl : l.Nodup) (g : List UInt8 → T) (hk : k ∈ l) (h : K (kd.look (g k))) : lookM s z (.s k) false kd (l.map T.s) (l.map g) K := by
  subst hs
  have h1 : (l.map fun x => (x, g x)).map (·.1) = l := by rw [List.map_map]; exact List.map_id l
  have hn : ((l.map fun x => (x, g x)).map (·.1)).Nodup := by rw [h1]; exact hl
  have hm : aget k (l.map fun x => (x, g x)) = some (g k) := by
    clear h1 hn hl
    induction l with
    | nil => cases hk
    | cons x l ih =>
      rw [List.map_cons]
      unfold aget
      by_cases hx : x = k
      · subst hx; simp
      · simp only [hx, if_false]
        rcases List.mem_cons.1 hk with rfl | hk
        · exact absurd rfl hx
        · exact ih hk
  have := look_assoc (s := (false, [.str])) (z := z) (k := k) (ok := false) (kd := kd) (K := K) (l := l.map fun x => (x, g x)) (ek := T.s) (ev := id) s_inj hn (fun p _ => trivial) (fun v hv => by rw [hm] at hv; cases hv; exact h) (fun hv => by rw [hm] at hv; cases hv)
  rwa [List.map_map, List.map_map] at this
theorem mainCmp (es : List Event) (hv : Valid es) (line l : List (List UInt8)) (hl : l.Nodup) (a b : List UInt8) (ha : a ∈ l) (hb : b ∈ l) (hta : There es a) (htb : There es b) : Con P0 148 [.s a, .s b, .po (.mp (l.map T.s) (depV es line l)) 0, .po (gT es) 0] (.t (.i .i64 (mcmp es line a b))) [] := by
  refine Con.intro (fn := Tryz.f148) [.tmp 6] (fun i => if i = 1 then (37, []) else (0, [])) mixed (by kernel_rfl) rfl (by decide) rfl (by rfl) (by kernel_rfl) ?_
  simp -implicitDefEqProofs (maxSteps := 2000000) only [push_cast, Nat.reduceEqDiff, Nat.reduceLT, Nat.reduceLeDiff, Nat.reduceAdd, Nat.reduceMul, Nat.reduceSub, Nat.reduceBEq, ↓reduceIte, reduceCtorEq, gT]
  obtain ⟨i, x, hx, hxi, hpx⟩ := there_at hta
  obtain ⟨j, y, hy, hyj, hpy⟩ := there_at htb
  have hil := (List.getElem?_eq_some_iff.1 hx).1
  have hjl := (List.getElem?_eq_some_iff.1 hy).1
  refine mapLook rfl hl _ hb ?_
  simp -implicitDefEqProofs (maxSteps := 2000000) only [push_cast, Nat.reduceEqDiff, Nat.reduceLT, Nat.reduceLeDiff, Nat.reduceAdd, Nat.reduceMul, Nat.reduceSub, Nat.reduceBEq, ↓reduceIte, reduceCtorEq, gT]
  refine mapLook rfl hl _ ha ?_
  simp -implicitDefEqProofs (maxSteps := 2000000) only [push_cast, Nat.reduceEqDiff, Nat.reduceLT, Nat.reduceLeDiff, Nat.reduceAdd, Nat.reduceMul, Nat.reduceSub, Nat.reduceBEq, ↓reduceIte, reduceCtorEq, gT]
  refine CallV.t (compareI _ _) (.inl rfl) ?_
  simp -implicitDefEqProofs (maxSteps := 2000000) only [push_cast, Nat.reduceEqDiff, Nat.reduceLT, Nat.reduceLeDiff, Nat.reduceAdd, Nat.reduceMul, Nat.reduceSub, Nat.reduceBEq, ↓reduceIte, reduceCtorEq, gT]
  refine gLook rfl (fun k hk => ?_) (fun hk => by rw [hpx] at hk; cases hk)
  rw [hpx] at hk; cases hk
  simp -implicitDefEqProofs (maxSteps := 2000000) only [push_cast, Nat.reduceEqDiff, Nat.reduceLT, Nat.reduceLeDiff, Nat.reduceAdd, Nat.reduceMul, Nat.reduceSub, Nat.reduceBEq, ↓reduceIte, reduceCtorEq, gT, eEvent]
  refine ⟨by omega, fun x' hx' => ?_⟩
  rw [Int.toNat_natCast, hx] at hx'
  cases hx'
  simp -implicitDefEqProofs (maxSteps := 2000000) only [push_cast, Nat.reduceEqDiff, Nat.reduceLT, Nat.reduceLeDiff, Nat.reduceAdd, Nat.reduceMul, Nat.reduceSub, Nat.reduceBEq, ↓reduceIte, reduceCtorEq, gT, eEvent]
  refine gLook rfl (fun k hk => ?_) (fun hk => by rw [hpy] at hk; cases hk)
  rw [hpy] at hk; cases hk
  simp -implicitDefEqProofs (maxSteps := 2000000) only [push_cast, Nat.reduceEqDiff, Nat.reduceLT, Nat.reduceLeDiff, Nat.reduceAdd, Nat.reduceMul, Nat.reduceSub, Nat.reduceBEq, ↓reduceIte, reduceCtorEq, gT, eEvent]
  refine ⟨by omega, fun y' hy' => ?_⟩
  rw [Int.toNat_natCast, hy] at hy'
  cases hy'
  simp -implicitDefEqProofs (maxSteps := 2000000) only [push_cast, Nat.reduceEqDiff, Nat.reduceLT, Nat.reduceLeDiff, Nat.reduceAdd, Nat.reduceMul, Nat.reduceSub, Nat.reduceBEq, ↓reduceIte, reduceCtorEq, gT, eEvent]
  refine CallV.t (compareI _ _) (.inl rfl) ?_
  simp -implicitDefEqProofs (maxSteps := 2000000) only [push_cast, Nat.reduceEqDiff, Nat.reduceLT, Nat.reduceLeDiff, Nat.reduceAdd, Nat.reduceMul, Nat.reduceSub, Nat.reduceBEq, ↓reduceIte, reduceCtorEq, gT, eEvent]
  refine CallV.t (compareS _ _) (.inl rfl) ?_
  simp -implicitDefEqProofs (maxSteps := 2000000) only [push_cast, Nat.reduceEqDiff, Nat.reduceLT, Nat.reduceLeDiff, Nat.reduceAdd, Nat.reduceMul, Nat.reduceSub, Nat.reduceBEq, ↓reduceIte, reduceCtorEq, gT, eEvent]
  refine ⟨rfl, by have := Bd.lo; omega, ?_⟩
  refine Callx.closed (cmpOr [cmpI (depI es line b) (depI es line a), cmpI x.time y.time, cmpS a b]) rfl rfl (.inr ⟨rfl, rfl⟩) ?_
  simp -implicitDefEqProofs (maxSteps := 2000000) only [push_cast, Nat.reduceEqDiff, Nat.reduceLT, Nat.reduceLeDiff, Nat.reduceAdd, Nat.reduceMul, Nat.reduceSub, Nat.reduceBEq, ↓reduceIte, reduceCtorEq, gT, eEvent]
  unfold mcmp
  rw [timI_at hpx hx, timI_at hpy hy]
end Go.Proofs.YtmgdkkhnjkepiaaGreat.BX
namespace Go.Proofs.YtmgdkkhnjkepiaaGreat.BX
set_option linter.unusedSectionVars false
set_option linter.unusedSimpArgs false
set_option linter.unusedVariables false
open Go Go.RowKit
set_option maxRecDepth 20000
set_option maxHeartbeats 400000
def Tells (m : List (List UInt8 × Int)) (l : List (List UInt8)) (g : List UInt8 → Int) : Prop := (m.map (·.1)).Nodup ∧ ∀ x, aget x m = if x ∈ l then some (g x) else none
theorem Tells.nil {g : List UInt8 → Int} : Tells [] [] g := ⟨List.nodup_nil, fun x => by simp [aget]⟩
theorem Tells.mem {m : List (List UInt8 × Int)} {l : List (List UInt8)} {g : List UInt8 → Int} (h : Tells m l g) (x : List UInt8) : x ∈ m.map (·.1) ↔ x ∈ l := by
  have h1 := h.2 x
  by_cases hx : x ∈ l
  · rw [if_pos hx] at h1
    simp only [hx, iff_true]
    by_cases hm : x ∈ m.map (·.1)
    · exact hm
    · rw [aget_none.2 hm] at h1; cases h1
  · rw [if_neg hx] at h1
    simp only [hx, iff_false]
    exact aget_none.1 h1
theorem Tells.set {m : List (List UInt8 × Int)} {l : List (List UInt8)} {g g' : List UInt8 → Int} (h : Tells m l g) (k : List UInt8) (v : Int) (hk : g' k = v) (hg : ∀ x ∈ l, x ≠ k → g' x = g x) : Tells (aset k v m) (l ++ [k]) g' := by
  refine ⟨aset_nodup h.1, fun x => ?_⟩
  rw [aget_set, h.2 x]
  by_cases hx : k = x
  · subst hx; simp [hk]
  · rw [if_neg hx]
    by_cases hm : x ∈ l
    · rw [if_pos hm, if_pos (by simp [hm]), hg x hm (Ne.symm hx)]
    · rw [if_neg hm, if_neg (by simp [hm, Ne.symm hx])]
theorem Tells.len {m : List (List UInt8 × Int)} {l : List (List UInt8)} {g : List UInt8 → Int} (h : Tells m l g) : m.length ≤ l.length := by
  have := len_sub h.1 (m := l) fun x hx => (h.mem x).1 hx
  simpa using this
theorem Tells.is {m : List (List UInt8 × Int)} {l : List (List UInt8)} {g : List UInt8 → Int} (h : Tells m l g) : m = (m.map (·.1)).map fun x => (x, g x) := by
  obtain ⟨hn, hg⟩ := h
  have key : ∀ (m : List (List UInt8 × Int)), (m.map (·.1)).Nodup → (∀ p ∈ m, g p.1 = p.2) → m = (m.map (·.1)).map fun x => (x, g x) := by
    intro m
    induction m with
    | nil => intro _ _; rfl
    | cons p r ih =>
      intro hn hp
      simp only [List.map_cons, List.nodup_cons] at hn ⊢
      rw [← ih hn.2 fun q hq => hp q (by simp [hq]), hp p (by simp)]
  refine key m hn fun p hp => ?_
  have hm : aget p.1 m = some p.2 := by
    clear hg key
    induction m with
    | nil => cases hp
    | cons q r ih =>
      simp only [List.map_cons, List.nodup_cons] at hn
      unfold aget
      rcases List.mem_cons.1 hp with rfl | hp
      · simp
      · rw [if_neg fun (e : q.1 = p.1) => hn.1 (e ▸ List.mem_map_of_mem hp)]
        exact ih hn.2 hp
  rw [hg] at hm
  split at hm
  · exact Option.some.inj hm
  · cases hm
theorem plc_nth {line : List (List UInt8)} (hn : line.Nodup) {k : Nat} {x : List UInt8} (h : line[k]? = some x) : plc line x = k :=
  plc_at h fun y hy e => by
    subst e
    obtain ⟨j, hj, he⟩ := List.getElem_of_mem hy
    have hjl : j < k ∧ j < line.length := by rw [List.length_take] at hj; omega
    rw [List.getElem_take] at he
    obtain ⟨hk, hx⟩ := List.getElem?_eq_some_iff.1 h
    exact List.pairwise_iff_getElem.1 hn j k hjl.2 hk hjl.1 (he.trans hx.symm)
variable [Bd]
abbrev cmI (m : List (List UInt8 × Int)) : Ob := .map 9 3 (.own .leaf) (m.map fun p => T.s p.1) (m.map fun p => T.i .i64 p.2) none
def pI : Option Nat → Int
  | some j => j
  | none => -1
theorem tkLook {m : List (List UInt8 × Int)} {s : Bool × List Lay} (hs : s = (false, [.str])) {z : Value} {k : List UInt8} {ok : Bool} {kd : Kind} {K : AV → Prop} (hn : (m.map (·.1)).Nodup) (h1 : ∀ v, aget k m = some v → K (if ok = true then .tp [kd.look (.i .i64 v), .t (.b true)] else kd.look (.i .i64 v))) (h2 : aget k m = none → K (if ok = true then .tp [ofV z, .t (.b false)] else ofV z)) :
    lookM s z (.s k) ok kd (m.map fun p => T.s p.1) (m.map fun p => T.i .i64 p.2) K := by
  subst hs
  exact look_assoc (ek := T.s) (ev := T.i .i64) s_inj hn (fun p _ => trivial) h1 h2
theorem mapsKeysZ (l : List (List UInt8)) (vs : List T) : ConM P0 147 [.mr 0] [mapA l vs] (.fn 203 [.rf 1 0]) [mapA l vs, .box (.mr 0)] := by
  refine ConM.intro (fn := Tryz.f147) [.tmp 2] (fun _ => (0, [])) mixed (by kernel_rfl) rfl (by decide) rfl (by rfl) (by kernel_rfl) ?_
  simp -implicitDefEqProofs (maxSteps := 2000000) only [push_cast, Nat.reduceEqDiff, Nat.reduceLT, Nat.reduceLeDiff, Nat.reduceAdd, Nat.reduceMul, Nat.reduceSub, Nat.reduceBEq, ↓reduceIte, reduceCtorEq]
  exact Close.of [some 0, some 1] rfl rfl rfl (by simp only [push_cast, Nat.reduceEqDiff, Nat.reduceLT, Nat.reduceLeDiff, Nat.reduceAdd, Nat.reduceMul, Nat.reduceSub, Nat.reduceBEq, ↓reduceIte, reduceCtorEq] <;> first | rfl | exact ⟨rfl, rfl⟩) (by simp only [push_cast, Nat.reduceEqDiff, Nat.reduceLT, Nat.reduceLeDiff, Nat.reduceAdd, Nat.reduceMul, Nat.reduceSub, Nat.reduceBEq, ↓reduceIte, reduceCtorEq] <;> first | rfl | exact ⟨rfl, rfl⟩)
theorem graphMainOrder (es : List Event) (hv : Valid es) (ids line : List (List UInt8)) (hids : ∀ x ∈ ids, There es x) (hline : line.Nodup) (hll : line.length ≤ 300) (hil : ids.length ≤ 300) (hD : ¬ Bd.D) (hB : Bd.B ≤ 2147483648) :
    Con P0 80 [gT es, eStringS ids, eStringS line] (.sr 0) [txA (mordL es ids line)] := by
  refine Con.intro (fn := Tryz.f80) [.tmp 6] (fun _ => (0, [])) mixed (by kernel_rfl) rfl (by decide) rfl (by rfl) (by kernel_rfl) ?_
  simp -implicitDefEqProofs (maxSteps := 2000000) only [push_cast, Nat.reduceEqDiff, Nat.reduceLT, Nat.reduceLeDiff, Nat.reduceAdd, Nat.reduceMul, Nat.reduceSub, Nat.reduceBEq, ↓reduceIte, reduceCtorEq]
  have := Bd.lo
  have hhi := Bd.hi
  intro _
  refine WL.loop (ι := Nat × List (List UInt8 × Int)) (D := (fun _ => (0, []))) (fun q => q.1 ≤ line.length ∧ Tells q.2 (line.take q.1) fun x => plc line x) (fun q => ⟨72, [(1, .t (eStringS ids)), (2, .t (eStringS line)), (3, .rf 0 0), (7, .mr 1), (17, .t (eStringS line)), (18, .t (.i .i64 line.length)), (19, .t (.i .i64 q.1))], [.box (.t (gT es)), cmI q.2]⟩) (fun q => line.length - q.1) mixed (by kernel_rfl) (0, []) ⟨by omega, by rw [List.take_zero]; exact .nil⟩ (Keep.wk (ids := [some 0, some 1]) ?_) ?_
  · simp only [push_cast, Nat.reduceEqDiff, Nat.reduceLT, Nat.reduceLeDiff, Nat.reduceAdd, Nat.reduceMul, Nat.reduceSub, Nat.reduceBEq, ↓reduceIte, reduceCtorEq, List.map_nil] <;> rfl
  rintro ⟨i, m⟩ ⟨hi, hm⟩
  dsimp only at hi hm ⊢
  simp -implicitDefEqProofs (maxSteps := 2000000) only [push_cast, Nat.reduceEqDiff, Nat.reduceLT, Nat.reduceLeDiff, Nat.reduceAdd, Nat.reduceMul, Nat.reduceSub, Nat.reduceBEq, ↓reduceIte, reduceCtorEq]
  have hml := hm.len
  rw [List.length_take] at hml
  refine iteI (fun h => ⟨by omega, fun x hx => ⟨fun _ => by omega, by unfold inI64; omega, ?_⟩⟩) (fun h => ?_)
  · rw [Int.toNat_natCast] at hx
    obtain ⟨hu1, hu2⟩ := upd_assoc (ek := T.s) (ev := T.i .i64) s_inj (k := x) (v := (i : Int)) (l := m)
    refine ⟨(i + 1, aset x i m), ⟨by dsimp only; omega, ?_⟩, by dsimp only; omega, Keep.wk (ids := [some 0, some 1]) ?_⟩
    · dsimp only
      rw [List.take_add_one, hx]
      exact hm.set x i (by show ((plc line x : Nat) : Int) = i; rw [plc_nth hline hx]) fun _ _ _ => rfl
    · simp only [push_cast, Nat.reduceEqDiff, Nat.reduceLT, Nat.reduceLeDiff, Nat.reduceAdd, Nat.reduceMul, Nat.reduceSub, Nat.reduceBEq, ↓reduceIte, reduceCtorEq, hu1, hu2] <;> rfl
  intro _
  have hi : i = line.length := by omega
  subst hi
  rw [List.take_length] at hm
  clear h hml
  refine WL.loop (ι := Nat × List (List UInt8 × Int)) (D := (fun _ => (0, []))) (fun q => q.1 ≤ ids.length ∧ Tells q.2 (ids.take q.1) fun x => depI es line x) (fun q => ⟨72, [(1, .t (eStringS ids)), (2, .t (eStringS line)), (3, .rf 0 0), (7, .mr 1), (10, .rf 2 0), (29, .t (eStringS ids)), (30, .t (.i .i64 ids.length)), (31, .t (.i .i64 q.1))], [.box (.t (gT es)), cmI m, .box (.mr 3), cmI q.2]⟩) (fun q => ids.length - q.1) mixed (by kernel_rfl) (0, []) ⟨by omega, by rw [List.take_zero]; exact .nil⟩ (Keep.wk (ids := [some 0, some 1, some 3, some 2]) ?_) ?_
  · simp only [push_cast, Nat.reduceEqDiff, Nat.reduceLT, Nat.reduceLeDiff, Nat.reduceAdd, Nat.reduceMul, Nat.reduceSub, Nat.reduceBEq, ↓reduceIte, reduceCtorEq, List.map_nil] <;> rfl
  rintro ⟨i, d⟩ ⟨hi, hd⟩
  dsimp only at hi hd ⊢
  simp -implicitDefEqProofs (maxSteps := 2000000) only [push_cast, Nat.reduceEqDiff, Nat.reduceLT, Nat.reduceLeDiff, Nat.reduceAdd, Nat.reduceMul, Nat.reduceSub, Nat.reduceBEq, ↓reduceIte, reduceCtorEq, gT]
  have hdl := hd.len
  rw [List.length_take] at hdl
  refine iteI (fun h => ⟨by omega, fun x hx => ?_⟩) (fun h => ?_)
  · rw [Int.toNat_natCast] at hx
    intro _
    obtain ⟨k, e, he, hid, hp⟩ := there_at (hids x (List.mem_of_getElem? hx))
    obtain ⟨hu1, hu2⟩ := upd_assoc (ek := T.s) (ev := T.i .i64) s_inj (k := x) (v := (line.length : Int)) (l := d)
    refine ⟨fun _ => by omega, ?_⟩
    refine gLook rfl (fun k' hk' => ?_) (fun hk' => by rw [hp] at hk'; cases hk')
    rw [hp] at hk'; cases hk'
    simp -implicitDefEqProofs (maxSteps := 2000000) only [push_cast, Nat.reduceEqDiff, Nat.reduceLT, Nat.reduceLeDiff, Nat.reduceAdd, Nat.reduceMul, Nat.reduceSub, Nat.reduceBEq, ↓reduceIte, reduceCtorEq, gT]
    have hkl := (List.getElem?_eq_some_iff.1 he).1
    have hdx : depthO es line (some k) = depI es line x := by unfold depI; rw [hp]
    have hnext : ∀ v : Int, (depI es line x : Int) = v → Tells (aset x v d) (ids.take (i + 1)) fun x => depI es line x := fun v hv => by
      rw [List.take_add_one, hx]
      exact hd.set x v hv fun _ _ _ => rfl
    have hset : ∀ v : Int, aset x v (aset x (line.length : Int) d) = aset x v d := by
      intro v
      clear hnext hu1 hu2 hd hdl
      induction d with
      | nil => simp [aset]
      | cons p r ih =>
        unfold aset
        by_cases hpx : p.1 = x
        · simp [hpx, aset]
        · simp [hpx, aset, ih]
    refine WL.loop (ι := Option Nat) (D := (fun _ => (0, []))) (fun o => (∀ j, o = some j → j < es.length) ∧ depthO es line o = depI es line x) (fun o => ⟨72, [(1, .t (eStringS ids)), (2, .t (eStringS line)), (3, .rf 0 0), (7, .mr 1), (10, .rf 2 0), (29, .t (eStringS ids)), (30, .t (.i .i64 ids.length)), (31, .t (.i .i64 i)), (12, .t (.s x)), (13, .t (.i .i64 (pI o)))], [.box (.t (gT es)), cmI m, .box (.mr 3), cmI (aset x line.length d)]⟩) (fun o => match o with | some j => j + 1 | none => 0) mixed (by kernel_rfl) (some k) ⟨fun j hj => by cases hj; exact hkl, hdx⟩ (Keep.wk (ids := [some 0, some 1, some 2, some 3]) ?_) ?_
    · simp only [push_cast, Nat.reduceEqDiff, Nat.reduceLT, Nat.reduceLeDiff, Nat.reduceAdd, Nat.reduceMul, Nat.reduceSub, Nat.reduceBEq, ↓reduceIte, reduceCtorEq, hu1, hu2, gT, pI] <;> rfl
    rintro o ⟨ho, hdo⟩
    cases o with
    | none =>
      simp -implicitDefEqProofs (maxSteps := 2000000) only [push_cast, Nat.reduceEqDiff, Nat.reduceLT, Nat.reduceLeDiff, Nat.reduceAdd, Nat.reduceMul, Nat.reduceSub, Nat.reduceBEq, ↓reduceIte, reduceCtorEq, gT, pI]
      rw [if_neg (by omega)]
      refine ⟨by unfold inI64; omega, (i + 1, aset x line.length d), ⟨by dsimp only; omega, hnext _ (by rw [← hdo]; rfl)⟩, by dsimp only; omega, Keep.wk (ids := [some 0, some 1, some 2, some 3]) ?_⟩
      simp only [push_cast, Nat.reduceEqDiff, Nat.reduceLT, Nat.reduceLeDiff, Nat.reduceAdd, Nat.reduceMul, Nat.reduceSub, Nat.reduceBEq, ↓reduceIte, reduceCtorEq, gT] <;> rfl
    | some j =>
      simp -implicitDefEqProofs (maxSteps := 2000000) only [push_cast, Nat.reduceEqDiff, Nat.reduceLT, Nat.reduceLeDiff, Nat.reduceAdd, Nat.reduceMul, Nat.reduceSub, Nat.reduceBEq, ↓reduceIte, reduceCtorEq, gT, pI]
      have hjl := ho j rfl
      obtain ⟨e', he'⟩ : ∃ e', es[j]? = some e' := ⟨_, List.getElem?_eq_getElem hjl⟩
      rw [if_pos (by omega)]
      refine ⟨by omega, fun a ha => ?_⟩
      rw [Int.toNat_natCast, he'] at ha
      cases ha
      simp -implicitDefEqProofs (maxSteps := 2000000) only [push_cast, Nat.reduceEqDiff, Nat.reduceLT, Nat.reduceLeDiff, Nat.reduceAdd, Nat.reduceMul, Nat.reduceSub, Nat.reduceBEq, ↓reduceIte, reduceCtorEq, gT, pI, eEvent]
      have hag := hm.2 e'.id
      refine tkLook rfl hm.1 (fun v hg => ?_) (fun hg => ?_)
      · rw [hg] at hag
        have hin : e'.id ∈ line := by
          by_cases h : e'.id ∈ line
          · exact h
          · rw [if_neg h] at hag; cases hag
        rw [if_pos hin] at hag
        have hvv : (depI es line x : Int) = v := by
          rw [← hdo]
          show ((depthAt es line j : Nat) : Int) = v
          rw [depthAt_in he' hin]
          exact (Option.some.inj hag).symm
        obtain ⟨hw1, hw2⟩ := upd_assoc (ek := T.s) (ev := T.i .i64) s_inj (k := x) (v := v) (l := aset x (line.length : Int) d)
        simp -implicitDefEqProofs (maxSteps := 2000000) only [push_cast, Nat.reduceEqDiff, Nat.reduceLT, Nat.reduceLeDiff, Nat.reduceAdd, Nat.reduceMul, Nat.reduceSub, Nat.reduceBEq, ↓reduceIte, reduceCtorEq, gT, pI, eEvent]
        have hal := (aset_len (k := x) (v := (line.length : Int)) (l := d)).2
        refine ⟨fun _ => by omega, by unfold inI64; omega, (i + 1, aset x v d), ⟨by dsimp only; omega, hnext v hvv⟩, by dsimp only; omega, Keep.wk (ids := [some 0, some 1, some 2, some 3]) ?_⟩
        simp only [push_cast, Nat.reduceEqDiff, Nat.reduceLT, Nat.reduceLeDiff, Nat.reduceAdd, Nat.reduceMul, Nat.reduceSub, Nat.reduceBEq, ↓reduceIte, reduceCtorEq, gT, hw1, hw2, hset] <;> rfl
      · rw [hg] at hag
        have hout : e'.id ∉ line := fun h => by rw [if_pos h] at hag; cases hag
        simp -implicitDefEqProofs (maxSteps := 2000000) only [push_cast, Nat.reduceEqDiff, Nat.reduceLT, Nat.reduceLeDiff, Nat.reduceAdd, Nat.reduceMul, Nat.reduceSub, Nat.reduceBEq, ↓reduceIte, reduceCtorEq, gT, pI, eEvent]
        have hpw := powerOf es hv j hjl
        rw [show pwI es j = pI (pwOf es j) from rfl, gT] at hpw
        refine Callx.closed hpw rfl rfl (.inl rfl) ?_
        simp -implicitDefEqProofs (maxSteps := 2000000) only [push_cast, Nat.reduceEqDiff, Nat.reduceLT, Nat.reduceLeDiff, Nat.reduceAdd, Nat.reduceMul, Nat.reduceSub, Nat.reduceBEq, ↓reduceIte, reduceCtorEq, gT, eEvent]
        refine ⟨pwOf es j, ⟨fun q hq => by have := pwOf_lt hv hq; omega, ?_⟩, ?_, Keep.wk (ids := [some 0, some 1, some 2, some 3]) ?_⟩
        · rw [← hdo, depthO, depthAt_out hv he' hout]
        · split
          · rename_i q hq
            have := pwOf_lt hv hq; omega
          · omega
        · simp only [push_cast, Nat.reduceEqDiff, Nat.reduceLT, Nat.reduceLeDiff, Nat.reduceAdd, Nat.reduceMul, Nat.reduceSub, Nat.reduceBEq, ↓reduceIte, reduceCtorEq, gT] <;> exact ⟨rfl, rfl⟩
  · have hi : i = ids.length := by omega
    subst hi
    rw [List.take_length] at hd
    have hmem := hd.mem
    have hnd := hd.1
    have hki : (d.map fun p => T.s p.1) = (d.map (·.1)).map T.s := by rw [List.map_map]; rfl
    have hvi : (d.map fun p => T.i .i64 p.2) = depV es line (d.map (·.1)) := by
      conv => lhs; rw [hd.is]
      unfold depV
      rw [List.map_map]
      rfl
    have hcm : cmI d = mapA (d.map (·.1)) (depV es line (d.map (·.1))) := by
      show Ob.map _ _ _ _ _ _ = _
      rw [hki, hvi]
    rw [hki, hvi, hcm]
    clear hki hvi hcm
    generalize d.map (·.1) = l at *
    refine Callx.hand [3] (mapsKeysZ l (depV es line l)) (by decide) (by simp only [push_cast, Nat.reduceEqDiff, Nat.reduceLT, Nat.reduceLeDiff, Nat.reduceAdd, Nat.reduceMul, Nat.reduceSub, Nat.reduceBEq, ↓reduceIte, reduceCtorEq]) rfl rfl (by simp only [push_cast, Nat.reduceEqDiff, Nat.reduceLT, Nat.reduceLeDiff, Nat.reduceAdd, Nat.reduceMul, Nat.reduceSub, Nat.reduceBEq, ↓reduceIte, reduceCtorEq] <;> rfl) rfl (.inr ⟨rfl, by simp only [push_cast, Nat.reduceEqDiff, Nat.reduceLT, Nat.reduceLeDiff, Nat.reduceAdd, Nat.reduceMul, Nat.reduceSub, Nat.reduceBEq, ↓reduceIte, reduceCtorEq]⟩) ?_
    simp -implicitDefEqProofs (maxSteps := 2000000) only [push_cast, Nat.reduceEqDiff, Nat.reduceLT, Nat.reduceLeDiff, Nat.reduceAdd, Nat.reduceMul, Nat.reduceSub, Nat.reduceBEq, ↓reduceIte, reduceCtorEq, gT, eEvent]
    have hsf := sortedFuncM l (depV es line l) (gT es) 148 (by decide) (enters_of Tryz.func148 (by kernel_rfl) rfl) (mcmp es line) (mbef es line) (mbef_tot es line) (fun a b _ _ => mcmp_lt es line a b)
      (fun a b ha hb => @mainCmp monS es hv line l hnd a b ha hb (hids a ((hmem a).1 ha)) (hids b ((hmem b).1 hb))) hnd hD hB
    have hout : setG (mbef es line) l = mordL es ids line := setG_same (mbef_tot es line) hmem
    rw [hout] at hsf
    rw [gT] at hsf
    refine Callx.hand [4, 3, 2, 0] hsf (by decide) (by simp only [push_cast, Nat.reduceEqDiff, Nat.reduceLT, Nat.reduceLeDiff, Nat.reduceAdd, Nat.reduceMul, Nat.reduceSub, Nat.reduceBEq, ↓reduceIte, reduceCtorEq]) rfl rfl (by simp only [push_cast, Nat.reduceEqDiff, Nat.reduceLT, Nat.reduceLeDiff, Nat.reduceAdd, Nat.reduceMul, Nat.reduceSub, Nat.reduceBEq, ↓reduceIte, reduceCtorEq] <;> rfl) rfl (.inr ⟨rfl, by simp only [push_cast, Nat.reduceEqDiff, Nat.reduceLT, Nat.reduceLeDiff, Nat.reduceAdd, Nat.reduceMul, Nat.reduceSub, Nat.reduceBEq, ↓reduceIte, reduceCtorEq]⟩) ?_
    simp -implicitDefEqProofs (maxSteps := 2000000) only [push_cast, Nat.reduceEqDiff, Nat.reduceLT, Nat.reduceLeDiff, Nat.reduceAdd, Nat.reduceMul, Nat.reduceSub, Nat.reduceBEq, ↓reduceIte, reduceCtorEq, gT, eEvent]
    exact Close.of [some 5] rfl rfl rfl (by simp only [push_cast, Nat.reduceEqDiff, Nat.reduceLT, Nat.reduceLeDiff, Nat.reduceAdd, Nat.reduceMul, Nat.reduceSub, Nat.reduceBEq, ↓reduceIte, reduceCtorEq] <;> rfl) (by simp only [push_cast, Nat.reduceEqDiff, Nat.reduceLT, Nat.reduceLeDiff, Nat.reduceAdd, Nat.reduceMul, Nat.reduceSub, Nat.reduceBEq, ↓reduceIte, reduceCtorEq] <;> rfl)
theorem implMainOrder (es : List Event) (ids : List (List UInt8)) (pw : List UInt8) (hD : ¬ Bd.D) (hB : Bd.B ≤ 2147483648) : Con P0 26 [eRoom ⟨es⟩, eStringS ids, .s pw] (.tp [.sr 0, .t (.b (mordB es ids pw))]) [txA (mordR es ids pw)] := by
  refine Con.intro (fn := Tryz.f26) [.tmp 6, .tmp 7] (fun _ => (0, [])) mixed (by kernel_rfl) rfl (by decide) rfl (by rfl) (by kernel_rfl) ?_
  simp -implicitDefEqProofs (maxSteps := 2000000) only [push_cast, Nat.reduceEqDiff, Nat.reduceLT, Nat.reduceLeDiff, Nat.reduceAdd, Nat.reduceMul, Nat.reduceSub, Nat.reduceBEq, ↓reduceIte, reduceCtorEq, eRoom]
  have := Bd.lo
  have no : mordB es ids pw = false → mordR es ids pw = [] := fun h => if_neg (by rw [h]; simp)
  refine Callx.closed (graphOf es hB) rfl rfl (.inl rfl) ?_
  cases hr : roomB es with
  | false =>
    have hm : mainB es pw = false := by unfold mainB; rw [hr]; rfl
    have h1 : mordB es ids pw = false := by unfold mordB; rw [hm]; rfl
    rw [no h1, h1]
    simp -implicitDefEqProofs (maxSteps := 2000000) only [push_cast, Nat.reduceEqDiff, Nat.reduceLT, Nat.reduceLeDiff, Nat.reduceAdd, Nat.reduceMul, Nat.reduceSub, Nat.reduceBEq, ↓reduceIte, reduceCtorEq, eRoom]
    refine Callx.closed (graphMainlineNil pw) rfl rfl (.inl rfl) ?_
    simp -implicitDefEqProofs (maxSteps := 2000000) only [push_cast, Nat.reduceEqDiff, Nat.reduceLT, Nat.reduceLeDiff, Nat.reduceAdd, Nat.reduceMul, Nat.reduceSub, Nat.reduceBEq, ↓reduceIte, reduceCtorEq, eRoom]
    exact Close.of [none] rfl rfl rfl (by simp only [push_cast, Nat.reduceEqDiff, Nat.reduceLT, Nat.reduceLeDiff, Nat.reduceAdd, Nat.reduceMul, Nat.reduceSub, Nat.reduceBEq, ↓reduceIte, reduceCtorEq] <;> rfl) (by simp only [push_cast, Nat.reduceEqDiff, Nat.reduceLT, Nat.reduceLeDiff, Nat.reduceAdd, Nat.reduceMul, Nat.reduceSub, Nat.reduceBEq, ↓reduceIte, reduceCtorEq] <;> rfl)
  | true =>
    simp -implicitDefEqProofs (maxSteps := 2000000) only [push_cast, Nat.reduceEqDiff, Nat.reduceLT, Nat.reduceLeDiff, Nat.reduceAdd, Nat.reduceMul, Nat.reduceSub, Nat.reduceBEq, ↓reduceIte, reduceCtorEq, eRoom]
    refine Callx.closed (graphMainline es pw hr hB) rfl rfl (.inl rfl) ?_
    simp -implicitDefEqProofs (maxSteps := 2000000) only [push_cast, Nat.reduceEqDiff, Nat.reduceLT, Nat.reduceLeDiff, Nat.reduceAdd, Nat.reduceMul, Nat.reduceSub, Nat.reduceBEq, ↓reduceIte, reduceCtorEq, eRoom]
    refine iteI (fun h => ?_) (fun h => ?_)
    · have h1 : mordB es ids pw = false := by unfold mordB; rw [show mainB es pw = false by simpa using h]; rfl
      rw [no h1, h1]
      exact Close.of [none] rfl rfl rfl (by simp only [push_cast, Nat.reduceEqDiff, Nat.reduceLT, Nat.reduceLeDiff, Nat.reduceAdd, Nat.reduceMul, Nat.reduceSub, Nat.reduceBEq, ↓reduceIte, reduceCtorEq] <;> rfl) (by simp only [push_cast, Nat.reduceEqDiff, Nat.reduceLT, Nat.reduceLeDiff, Nat.reduceAdd, Nat.reduceMul, Nat.reduceSub, Nat.reduceBEq, ↓reduceIte, reduceCtorEq] <;> rfl)
    have hm : mainB es pw = true := by simpa using h
    intro _
    refine iteI (fun h2 => ?_) (fun h2 => ?_)
    · have h1 : mordB es ids pw = false := by unfold mordB; rw [decide_eq_false (by omega)]; simp
      rw [no h1, h1]
      exact Close.of [none] rfl rfl rfl (by simp only [push_cast, Nat.reduceEqDiff, Nat.reduceLT, Nat.reduceLeDiff, Nat.reduceAdd, Nat.reduceMul, Nat.reduceSub, Nat.reduceBEq, ↓reduceIte, reduceCtorEq] <;> rfl) (by simp only [push_cast, Nat.reduceEqDiff, Nat.reduceLT, Nat.reduceLeDiff, Nat.reduceAdd, Nat.reduceMul, Nat.reduceSub, Nat.reduceBEq, ↓reduceIte, reduceCtorEq] <;> rfl)
    refine Callx.closed (graphAll es ids) rfl rfl (.inl rfl) ?_
    cases hall : allIn es ids with
    | false =>
      have h1 : mordB es ids pw = false := by unfold mordB; rw [hall]; simp
      rw [no h1, h1]
      simp -implicitDefEqProofs (maxSteps := 2000000) only [push_cast, Nat.reduceEqDiff, Nat.reduceLT, Nat.reduceLeDiff, Nat.reduceAdd, Nat.reduceMul, Nat.reduceSub, Nat.reduceBEq, ↓reduceIte, reduceCtorEq, eRoom]
      exact Close.of [none] rfl rfl rfl (by simp only [push_cast, Nat.reduceEqDiff, Nat.reduceLT, Nat.reduceLeDiff, Nat.reduceAdd, Nat.reduceMul, Nat.reduceSub, Nat.reduceBEq, ↓reduceIte, reduceCtorEq] <;> rfl) (by simp only [push_cast, Nat.reduceEqDiff, Nat.reduceLT, Nat.reduceLeDiff, Nat.reduceAdd, Nat.reduceMul, Nat.reduceSub, Nat.reduceBEq, ↓reduceIte, reduceCtorEq] <;> rfl)
    | true =>
      have h1 : mordB es ids pw = true := by unfold mordB; rw [hall, hm, decide_eq_true (by omega)]; rfl
      have hv := room_valid hr
      have hL : mainL es pw = lineO es (posOf pw es) := if_pos hm
      have hR : mordR es ids pw = mordL es ids (mainL es pw) := by rw [hL]; exact if_pos h1
      have hnd : (mainL es pw).Nodup := by
        rw [hL]
        cases posOf pw es with
        | none => exact List.nodup_nil
        | some j => exact lineAt_nodup hv j
      have hg := graphMainOrder es hv ids (mainL es pw) (allIn_spec hall) hnd (mainL_len es pw) (by omega) hD hB
      rw [← hR] at hg
      rw [h1]
      simp -implicitDefEqProofs (maxSteps := 2000000) only [push_cast, Nat.reduceEqDiff, Nat.reduceLT, Nat.reduceLeDiff, Nat.reduceAdd, Nat.reduceMul, Nat.reduceSub, Nat.reduceBEq, ↓reduceIte, reduceCtorEq, eRoom]
      refine Callx.closed hg rfl rfl (.inr ⟨rfl, rfl⟩) ?_
      simp -implicitDefEqProofs (maxSteps := 2000000) only [push_cast, Nat.reduceEqDiff, Nat.reduceLT, Nat.reduceLeDiff, Nat.reduceAdd, Nat.reduceMul, Nat.reduceSub, Nat.reduceBEq, ↓reduceIte, reduceCtorEq, eRoom]
      exact Close.of [some 2] rfl rfl rfl (by simp only [push_cast, Nat.reduceEqDiff, Nat.reduceLT, Nat.reduceLeDiff, Nat.reduceAdd, Nat.reduceMul, Nat.reduceSub, Nat.reduceBEq, ↓reduceIte, reduceCtorEq] <;> rfl) (by simp only [push_cast, Nat.reduceEqDiff, Nat.reduceLT, Nat.reduceLeDiff, Nat.reduceAdd, Nat.reduceMul, Nat.reduceSub, Nat.reduceBEq, ↓reduceIte, reduceCtorEq] <;> rfl)
theorem mordR_len (es : List Event) (ids : List (List UInt8)) (pw : List UInt8) : (mordR es ids pw).length ≤ ids.length := by
  unfold mordR mordL
  split
  · exact setG_len
  · simp
theorem lawMainOrder (r : Room) (ids : List (List UInt8)) (pw : List UInt8) (hD : ¬ Bd.D) (hB : mxs [eRoom r, eStringS ids, .s pw] ≤ 1048576 → Bd.B ≤ 2147483648) : Con P0 4 [eRoom r, eStringS ids, .s pw] (.t (.b true)) [] := by
  refine Con.intro (fn := Tryz.f4) [.tmp 6] (fun i => if i = 16 then (5, []) else (0, [])) mixed (by kernel_rfl) rfl (by decide) rfl (by rfl) (by kernel_rfl) ?_
  simp -implicitDefEqProofs (maxSteps := 2000000) only [push_cast, Nat.reduceEqDiff, Nat.reduceLT, Nat.reduceLeDiff, Nat.reduceAdd, Nat.reduceMul, Nat.reduceSub, Nat.reduceBEq, ↓reduceIte, reduceCtorEq]
  intro _
  refine iteI (fun _ => trivial) (fun hid => ?_)
  refine Callx.closed (szRoom r _ (by omega) (by omega)) rfl rfl (.inl rfl) ?_
  simp -implicitDefEqProofs (maxSteps := 2000000) only [push_cast, Nat.reduceEqDiff, Nat.reduceLT, Nat.reduceLeDiff, Nat.reduceAdd, Nat.reduceMul, Nat.reduceSub, Nat.reduceBEq, ↓reduceIte, reduceCtorEq]
  rcases szR_cases (eRoom r).wt 1048576 with ⟨g1, g2⟩ | ⟨g1, g2⟩
  rotate_left
  · simp only [g2]
    rw [if_pos (by omega)]
    trivial
  simp only [g2]
  rw [if_neg (by omega)]
  refine Callx.closed (szStringS ids _ (by omega) (by omega)) rfl rfl (.inl rfl) ?_
  simp -implicitDefEqProofs (maxSteps := 2000000) only [push_cast, Nat.reduceEqDiff, Nat.reduceLT, Nat.reduceLeDiff, Nat.reduceAdd, Nat.reduceMul, Nat.reduceSub, Nat.reduceBEq, ↓reduceIte, reduceCtorEq]
  rcases szR_cases (eStringS ids).wt (1048576 - (eRoom r).wt) with ⟨g3, g4⟩ | ⟨g3, g4⟩
  rotate_left
  · simp only [g4]
    rw [if_pos (by omega)]
    trivial
  simp only [g4]
  rw [if_neg (by omega)]
  have hB := hB (mxs_cons (mx_of (by omega)) (mxs_cons (mx_of (by omega)) (mxs_cons (mx_of (by simp only [T.wt]; omega)) mxs_nil)))
  have hlo := Bd.lo
  have hwr : (eRoom r).wt = (eEventS r.events).wt := by simp [eRoom, T.wt, wts]
  have hle : r.events.length ≤ (eEventS r.events).wt := by simp only [T.wt, List.length_map]; omega
  have hli : ids.length ≤ (eStringS ids).wt := by simp only [T.wt, List.length_map]; omega
  have htl := mordR_len r.events ids pw
  have toR : ∀ {K : T → Prop}, K (eRoom r) → CallV P0 16 [eRoom r] true K := fun k => CallV.of (r := eRoom r) (toRoom hB r) (by simp only [push_cast, Nat.reduceEqDiff, Nat.reduceLT, Nat.reduceLeDiff, Nat.reduceAdd, Nat.reduceMul, Nat.reduceSub, Nat.reduceBEq, ↓reduceIte, reduceCtorEq]; rfl) rfl (.inl rfl) k
  have cS := specMainOrder r.events ids pw hB
  have cI := implMainOrder r.events ids pw hD hB
  generalize mordR r.events ids pw = R at *
  generalize mordB r.events ids pw = o at *
  refine Callx.closed (toRoom hB r) rfl rfl (.inl rfl) ?_
  simp -implicitDefEqProofs (maxSteps := 2000000) only [push_cast, Nat.reduceEqDiff, Nat.reduceLT, Nat.reduceLeDiff, Nat.reduceAdd, Nat.reduceMul, Nat.reduceSub, Nat.reduceBEq, ↓reduceIte, reduceCtorEq]
  refine Callx.closed (toStringS hB ids) rfl rfl (.inl rfl) ?_
  simp -implicitDefEqProofs (maxSteps := 2000000) only [push_cast, Nat.reduceEqDiff, Nat.reduceLT, Nat.reduceLeDiff, Nat.reduceAdd, Nat.reduceMul, Nat.reduceSub, Nat.reduceBEq, ↓reduceIte, reduceCtorEq]
  refine Callx.closed cS rfl rfl (.inr ⟨rfl, rfl⟩) ?_
  simp -implicitDefEqProofs (maxSteps := 2000000) only [push_cast, Nat.reduceEqDiff, Nat.reduceLT, Nat.reduceLeDiff, Nat.reduceAdd, Nat.reduceMul, Nat.reduceSub, Nat.reduceBEq, ↓reduceIte, reduceCtorEq]
  refine Callx.closed (toRoom hB r) rfl rfl (.inl rfl) ?_
  simp -implicitDefEqProofs (maxSteps := 2000000) only [push_cast, Nat.reduceEqDiff, Nat.reduceLT, Nat.reduceLeDiff, Nat.reduceAdd, Nat.reduceMul, Nat.reduceSub, Nat.reduceBEq, ↓reduceIte, reduceCtorEq]
  refine Callx.closed (toStringS hB ids) rfl rfl (.inl rfl) ?_
  simp -implicitDefEqProofs (maxSteps := 2000000) only [push_cast, Nat.reduceEqDiff, Nat.reduceLT, Nat.reduceLeDiff, Nat.reduceAdd, Nat.reduceMul, Nat.reduceSub, Nat.reduceBEq, ↓reduceIte, reduceCtorEq]
  refine Callx.closed cI rfl rfl (.inr ⟨rfl, rfl⟩) ?_
  simp -implicitDefEqProofs (maxSteps := 2000000) only [push_cast, Nat.reduceEqDiff, Nat.reduceLT, Nat.reduceLeDiff, Nat.reduceAdd, Nat.reduceMul, Nat.reduceSub, Nat.reduceBEq, ↓reduceIte, reduceCtorEq]
  refine Callx.closed (eqStringS R R) rfl rfl (.inr ⟨rfl, rfl⟩) ?_
  simp -implicitDefEqProofs (maxSteps := 2000000) only [push_cast, Nat.reduceEqDiff, Nat.reduceLT, Nat.reduceLeDiff, Nat.reduceAdd, Nat.reduceMul, Nat.reduceSub, Nat.reduceBEq, ↓reduceIte, reduceCtorEq]
  refine toR ?_
  simp -implicitDefEqProofs (maxSteps := 2000000) only [push_cast, Nat.reduceEqDiff, Nat.reduceLT, Nat.reduceLeDiff, Nat.reduceAdd, Nat.reduceMul, Nat.reduceSub, Nat.reduceBEq, ↓reduceIte, reduceCtorEq]
  refine CallV.t (eqRoom r r) (.inr rfl) ?_
  simp -implicitDefEqProofs (maxSteps := 2000000) only [push_cast, Nat.reduceEqDiff, Nat.reduceLT, Nat.reduceLeDiff, Nat.reduceAdd, Nat.reduceMul, Nat.reduceSub, Nat.reduceBEq, ↓reduceIte, reduceCtorEq]
  refine Callx.closed (toStringS hB ids) rfl rfl (.inl rfl) ?_
  simp -implicitDefEqProofs (maxSteps := 2000000) only [push_cast, Nat.reduceEqDiff, Nat.reduceLT, Nat.reduceLeDiff, Nat.reduceAdd, Nat.reduceMul, Nat.reduceSub, Nat.reduceBEq, ↓reduceIte, reduceCtorEq]
  refine Callx.closed (eqStringS ids ids) rfl rfl (.inr ⟨rfl, rfl⟩) ?_
  simp -implicitDefEqProofs (maxSteps := 2000000) only [push_cast, Nat.reduceEqDiff, Nat.reduceLT, Nat.reduceLeDiff, Nat.reduceAdd, Nat.reduceMul, Nat.reduceSub, Nat.reduceBEq, ↓reduceIte, reduceCtorEq]
  have ht1 := totEv_le r.events
  have htc := totC (n := 1) (xs := ids)
  refine Callx.hand [4] (markRoom r 1 (by omega) (by omega)) (by decide) (by simp only [push_cast, Nat.reduceEqDiff, Nat.reduceLT, Nat.reduceLeDiff, Nat.reduceAdd, Nat.reduceMul, Nat.reduceSub, Nat.reduceBEq, ↓reduceIte, reduceCtorEq]) rfl rfl (by simp only [push_cast, Nat.reduceEqDiff, Nat.reduceLT, Nat.reduceLeDiff, Nat.reduceAdd, Nat.reduceMul, Nat.reduceSub, Nat.reduceBEq, ↓reduceIte, reduceCtorEq] <;> rfl) rfl (.inr ⟨rfl, by simp only [push_cast, Nat.reduceEqDiff, Nat.reduceLT, Nat.reduceLeDiff, Nat.reduceAdd, Nat.reduceMul, Nat.reduceSub, Nat.reduceBEq, ↓reduceIte, reduceCtorEq] <;> rfl⟩) ?_
  simp -implicitDefEqProofs (maxSteps := 2000000) only [push_cast, Nat.reduceEqDiff, Nat.reduceLT, Nat.reduceLeDiff, Nat.reduceAdd, Nat.reduceMul, Nat.reduceSub, Nat.reduceBEq, ↓reduceIte, reduceCtorEq]
  refine Callx.hand [6] (markStringS ids (1 + (totL wEv r.events : Nat)) (by omega) (by omega)) (by decide) (by simp only [push_cast, Nat.reduceEqDiff, Nat.reduceLT, Nat.reduceLeDiff, Nat.reduceAdd, Nat.reduceMul, Nat.reduceSub, Nat.reduceBEq, ↓reduceIte, reduceCtorEq]) rfl rfl (by simp only [push_cast, Nat.reduceEqDiff, Nat.reduceLT, Nat.reduceLeDiff, Nat.reduceAdd, Nat.reduceMul, Nat.reduceSub, Nat.reduceBEq, ↓reduceIte, reduceCtorEq] <;> rfl) rfl (.inr ⟨rfl, by simp only [push_cast, Nat.reduceEqDiff, Nat.reduceLT, Nat.reduceLeDiff, Nat.reduceAdd, Nat.reduceMul, Nat.reduceSub, Nat.reduceBEq, ↓reduceIte, reduceCtorEq] <;> rfl⟩) ?_
  simp -implicitDefEqProofs (maxSteps := 2000000) only [push_cast, Nat.reduceEqDiff, Nat.reduceLT, Nat.reduceLeDiff, Nat.reduceAdd, Nat.reduceMul, Nat.reduceSub, Nat.reduceBEq, ↓reduceIte, reduceCtorEq]
  rw [if_neg (by omega)]
  refine Callx.closed (eqStringS R R) rfl rfl (.inr ⟨rfl, rfl⟩) ?_
  simp -implicitDefEqProofs (maxSteps := 2000000) only [push_cast, Nat.reduceEqDiff, Nat.reduceLT, Nat.reduceLeDiff, Nat.reduceAdd, Nat.reduceMul, Nat.reduceSub, Nat.reduceBEq, ↓reduceIte, reduceCtorEq]
  refine Callx.hand [7] (markStringS R 1 (by omega) (by omega)) (by decide) (by simp only [push_cast, Nat.reduceEqDiff, Nat.reduceLT, Nat.reduceLeDiff, Nat.reduceAdd, Nat.reduceMul, Nat.reduceSub, Nat.reduceBEq, ↓reduceIte, reduceCtorEq]) rfl rfl (by simp only [push_cast, Nat.reduceEqDiff, Nat.reduceLT, Nat.reduceLeDiff, Nat.reduceAdd, Nat.reduceMul, Nat.reduceSub, Nat.reduceBEq, ↓reduceIte, reduceCtorEq] <;> rfl) rfl (.inr ⟨rfl, by simp only [push_cast, Nat.reduceEqDiff, Nat.reduceLT, Nat.reduceLeDiff, Nat.reduceAdd, Nat.reduceMul, Nat.reduceSub, Nat.reduceBEq, ↓reduceIte, reduceCtorEq] <;> rfl⟩) ?_
  simp -implicitDefEqProofs (maxSteps := 2000000) only [push_cast, Nat.reduceEqDiff, Nat.reduceLT, Nat.reduceLeDiff, Nat.reduceAdd, Nat.reduceMul, Nat.reduceSub, Nat.reduceBEq, ↓reduceIte, reduceCtorEq]
  refine Callx.closed (heldStringS R 1 (by omega) (by omega)) rfl rfl (.inr ⟨rfl, rfl⟩) ?_
  simp -implicitDefEqProofs (maxSteps := 2000000) only [push_cast, Nat.reduceEqDiff, Nat.reduceLT, Nat.reduceLeDiff, Nat.reduceAdd, Nat.reduceMul, Nat.reduceSub, Nat.reduceBEq, ↓reduceIte, reduceCtorEq]
  rw [if_neg (by omega)]
  refine Callx.closed (toRoom hB r) rfl rfl (.inl rfl) ?_
  simp -implicitDefEqProofs (maxSteps := 2000000) only [push_cast, Nat.reduceEqDiff, Nat.reduceLT, Nat.reduceLeDiff, Nat.reduceAdd, Nat.reduceMul, Nat.reduceSub, Nat.reduceBEq, ↓reduceIte, reduceCtorEq]
  refine Callx.closed (toStringS hB ids) rfl rfl (.inl rfl) ?_
  simp -implicitDefEqProofs (maxSteps := 2000000) only [push_cast, Nat.reduceEqDiff, Nat.reduceLT, Nat.reduceLeDiff, Nat.reduceAdd, Nat.reduceMul, Nat.reduceSub, Nat.reduceBEq, ↓reduceIte, reduceCtorEq]
  refine Callx.closed cI rfl rfl (.inr ⟨rfl, rfl⟩) ?_
  simp -implicitDefEqProofs (maxSteps := 2000000) only [push_cast, Nat.reduceEqDiff, Nat.reduceLT, Nat.reduceLeDiff, Nat.reduceAdd, Nat.reduceMul, Nat.reduceSub, Nat.reduceBEq, ↓reduceIte, reduceCtorEq]
  refine Callx.closed (eqStringS R R) rfl rfl (.inr ⟨rfl, rfl⟩) ?_
  simp -implicitDefEqProofs (maxSteps := 2000000) only [push_cast, Nat.reduceEqDiff, Nat.reduceLT, Nat.reduceLeDiff, Nat.reduceAdd, Nat.reduceMul, Nat.reduceSub, Nat.reduceBEq, ↓reduceIte, reduceCtorEq]
  refine Callx.closed (heldStringS R 1 (by omega) (by omega)) rfl rfl (.inr ⟨rfl, rfl⟩) ?_
  simp -implicitDefEqProofs (maxSteps := 2000000) only [push_cast, Nat.reduceEqDiff, Nat.reduceLT, Nat.reduceLeDiff, Nat.reduceAdd, Nat.reduceMul, Nat.reduceSub, Nat.reduceBEq, ↓reduceIte, reduceCtorEq]
  rw [if_neg (by omega)]
  trivial
end Go.Proofs.YtmgdkkhnjkepiaaGreat.BX
