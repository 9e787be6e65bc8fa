/-
  The level of a sender: the walks.
-/
import Derived.Test.YtkgoglapagmapaaLv
namespace Go.Proofs.Ytkgoglapagmapaa.BX
set_option linter.unusedSectionVars false
set_option linter.unusedSimpArgs false
set_option linter.unusedVariables false
open Go Go.RowKit
set_option maxRecDepth 20000
set_option maxHeartbeats 400000
/-- the event that a state names at a slot -/
def slotE (es : List Event) (s : List Entry) (k : SlotK) : Option Event := match posOf (findId k s) es with
  | some j => es[j]?
  | none => none
def zeroEv : Event := ⟨[], [], [], false, [], 0, [], [], [], []⟩
def slotT (o : Option Event) : T := match o with
  | some e => .tp [eEvent e, .b true]
  | none => .tp [eEvent zeroEv, .b false]
def slotP (o : Option Event) : T := match o with
  | some e => .po (eEvent e) 0
  | none => .np
/-- the level of a sender -/
def lvl (es : List Event) (s : List Entry) (u : List UInt8) : Int := match slotE es s (sPower, []) with
  | some p => levelBy p.grants u
  | none => match slotE es s (sCreate, []) with
    | some c => if c.sender = u then 100 else 0
    | none => 0
def liveT (s : List Entry) : T := .mp ((live s).map fun p => eK p.1) ((live s).map fun p => T.s p.2)
def jT (es : List Event) (s : List Entry) (x : Event) : T := .ag [gT es, liveT s, .s x.id, .s x.sender, .s x.typ, .b x.isState, .s x.key, .i .i64 x.time, eStringS x.prev, eStringS x.auth, .s x.value, eGrantS x.grants]
theorem fits_of {es : List Event} {s : List Entry} (h : fitsB es s = true) : stateOk s = true ∧ ∀ x ∈ s, fitE es x = true := by
  unfold fitsB at h
  simp only [Bool.and_eq_true, List.all_eq_true] at h
  exact ⟨h.2, h.1⟩
variable [Bd]
theorem aget_in {κ β : Type} [DecidableEq κ] {k : κ} {v : β} : ∀ {l : List (κ × β)}, aget k l = some v → (k, v) ∈ l
  | [], h => by cases h
  | p :: r, h => by
    unfold aget at h
    split at h
    · rename_i e
      cases h
      exact List.mem_cons.2 (.inl (by rw [← e]))
    · exact List.mem_cons_of_mem _ (aget_in h)
theorem slot_none {es : List Event} {s : List Entry} {k : SlotK} (hv : Valid es) (hf : fitsB es s = true) (h : aget k (live s) = none) : slotE es s k = none := by
  obtain ⟨hs, _⟩ := fits_of hf
  obtain ⟨ho1, ho2, ho3⟩ := stateOk_ord hs
  rw [live_map (inOrd_nodup ho1)] at h
  rcases findId_get (k := k) ho3 with ⟨h1, h2⟩ | ⟨h1, h2⟩
  · unfold slotE
    rw [h2, pos_nil hv]
  · rw [h1] at h; cases h
theorem slot_some {es : List Event} {s : List Entry} {k : SlotK} {id : List UInt8} (hf : fitsB es s = true) (h : aget k (live s) = some id) : ∃ j e, posOf id es = some j ∧ es[j]? = some e ∧ slotE es s k = some e := by
  obtain ⟨hs, hx⟩ := fits_of hf
  obtain ⟨ho1, ho2, ho3⟩ := stateOk_ord hs
  rw [live_map (inOrd_nodup ho1)] at h
  rcases findId_get (k := k) ho3 with ⟨h1, h2⟩ | ⟨h1, h2⟩
  · rw [h1] at h; cases h
  · have hm : ∃ x ∈ s, x.id = id := by
      have := aget_in h
      obtain ⟨x, hx, he⟩ := List.mem_map.1 this
      exact ⟨x, hx, by simpa using congrArg Prod.snd he⟩
    rw [h1] at h
    cases h
    obtain ⟨x, hxs, hxi⟩ := hm
    have := hx x hxs
    unfold fitE at this
    rw [hxi] at this
    cases hp : posOf (findId k s) es with
    | none => rw [hp] at this; cases this
    | some j =>
      have hj := posOf_lt hp
      refine ⟨j, es[j], rfl, List.getElem?_eq_getElem hj, ?_⟩
      unfold slotE
      rw [hp]
      exact List.getElem?_eq_getElem hj
theorem l5Event (es : List Event) (s : List Entry) (a b : List UInt8) : Con P0 134 [eRoom ⟨es⟩, eEntryS s, .s a, .s b] (.t (slotT (slotE es s (a, b)))) [] := by
  refine Con.intro (fn := Try.f134) [.cell 8 30, .tmp 9] (fun i => if i = 1 then (7, []) else (0, [])) mixed (by kernel_rfl) rfl (by decide) rfl (by rfl) (by kernel_rfl) ?_
  simp -implicitDefEqProofs (maxSteps := 2000000) only [push_cast, Nat.reduceEqDiff, Nat.reduceLT, Nat.reduceLeDiff, Nat.reduceAdd, Nat.reduceMul, Nat.reduceSub, Nat.reduceBEq, ↓reduceIte, reduceCtorEq, eRoom]
  refine CallV.t (l4Find s a b) (.inl rfl) ?_
  simp -implicitDefEqProofs (maxSteps := 2000000) only [push_cast, Nat.reduceEqDiff, Nat.reduceLT, Nat.reduceLeDiff, Nat.reduceAdd, Nat.reduceMul, Nat.reduceSub, Nat.reduceBEq, ↓reduceIte, reduceCtorEq, eRoom]
  refine CallV.t (l2At es (findId (a, b) s)) (.inl rfl) ?_
  simp -implicitDefEqProofs (maxSteps := 2000000) only [push_cast, Nat.reduceEqDiff, Nat.reduceLT, Nat.reduceLeDiff, Nat.reduceAdd, Nat.reduceMul, Nat.reduceSub, Nat.reduceBEq, ↓reduceIte, reduceCtorEq, eRoom]
  unfold slotE
  cases hp : posOf (findId (a, b) s) es with
  | none =>
    have hat : atI es (findId (a, b) s) = -1 := by unfold atI; rw [hp]
    rw [hat, if_pos (by omega)]
    simp -implicitDefEqProofs (maxSteps := 2000000) only [push_cast, Nat.reduceEqDiff, Nat.reduceLT, Nat.reduceLeDiff, Nat.reduceAdd, Nat.reduceMul, Nat.reduceSub, Nat.reduceBEq, ↓reduceIte, reduceCtorEq, eRoom, slotT]
    rfl
  | some j =>
    have hat : atI es (findId (a, b) s) = j := by unfold atI; rw [hp]
    have hj := posOf_lt hp
    rw [hat, if_neg (by omega)]
    simp -implicitDefEqProofs (maxSteps := 2000000) only [push_cast, Nat.reduceEqDiff, Nat.reduceLT, Nat.reduceLeDiff, Nat.reduceAdd, Nat.reduceMul, Nat.reduceSub, Nat.reduceBEq, ↓reduceIte, reduceCtorEq, eRoom, slotT, eEvent_ones]
    refine ⟨by omega, fun e he => ⟨rfl, ?_⟩⟩
    rw [Int.toNat_natCast] at he
    rw [he]
theorem judgeAt (es : List Event) (s : List Entry) (x : Event) (a b : List UInt8) (hv : Valid es) (hf : fitsB es s = true) : Con P0 137 [jT es s x, .s a, .s b] (.t (slotP (slotE es s (a, b)))) [] := by
  refine Con.intro (fn := Try.f137) [.tmp 6] (fun i => if i = 4 then (14, []) else (0, [])) mixed (by kernel_rfl) rfl (by decide) rfl (by rfl) (by kernel_rfl) ?_
  simp -implicitDefEqProofs (maxSteps := 2000000) only [push_cast, Nat.reduceEqDiff, Nat.reduceLT, Nat.reduceLeDiff, Nat.reduceAdd, Nat.reduceMul, Nat.reduceSub, Nat.reduceBEq, ↓reduceIte, reduceCtorEq, jT, liveT]
  have hk : T.ag [T.s a, T.s b] = eK (a, b) := rfl
  rw [hk]
  refine look_assoc (ev := T.s) eK_inj (live_nodup s) (fun p _ => of_eq_true eK_key) (fun id hid => ?_) (fun hid => ?_)
  · obtain ⟨j, e, hp, he, hs⟩ := slot_some hf hid
    have hj := posOf_lt hp
    simp -implicitDefEqProofs (maxSteps := 2000000) only [push_cast, Nat.reduceEqDiff, Nat.reduceLT, Nat.reduceLeDiff, Nat.reduceAdd, Nat.reduceMul, Nat.reduceSub, Nat.reduceBEq, ↓reduceIte, reduceCtorEq, jT, gT]
    refine gLook rfl (fun j' hj' => ?_) (fun hj' => by rw [hp] at hj'; cases hj')
    rw [hp] at hj'; cases hj'
    simp -implicitDefEqProofs (maxSteps := 2000000) only [push_cast, Nat.reduceEqDiff, Nat.reduceLT, Nat.reduceLeDiff, Nat.reduceAdd, Nat.reduceMul, Nat.reduceSub, Nat.reduceBEq, ↓reduceIte, reduceCtorEq, jT, gT]
    refine ⟨by omega, fun e' he' => ?_⟩
    rw [Int.toNat_natCast, he] at he'
    cases he'
    rw [hs]
    rfl
  · simp -implicitDefEqProofs (maxSteps := 2000000) only [push_cast, Nat.reduceEqDiff, Nat.reduceLT, Nat.reduceLeDiff, Nat.reduceAdd, Nat.reduceMul, Nat.reduceSub, Nat.reduceBEq, ↓reduceIte, reduceCtorEq, jT, gT]
    rw [slot_none hv hf hid]
    rfl
theorem l5Level (es : List Event) (s : List Entry) (u : List UInt8) : Con P0 105 [eRoom ⟨es⟩, eEntryS s, .s u] (.t (.i .i64 (lvl es s u))) [] := by
  refine Con.intro (fn := Try.f105) [.tmp 6] (fun _ => (0, [])) mixed (by kernel_rfl) rfl (by decide) rfl (by rfl) (by kernel_rfl) ?_
  simp -implicitDefEqProofs (maxSteps := 2000000) only [push_cast, Nat.reduceEqDiff, Nat.reduceLT, Nat.reduceLeDiff, Nat.reduceAdd, Nat.reduceMul, Nat.reduceSub, Nat.reduceBEq, ↓reduceIte, reduceCtorEq, eRoom]
  refine Callx.closed (l5Event es s sPower []) rfl rfl (.inl rfl) ?_
  unfold lvl
  cases h1 : slotE es s (sPower, []) with
  | some p =>
    simp -implicitDefEqProofs (maxSteps := 2000000) only [push_cast, Nat.reduceEqDiff, Nat.reduceLT, Nat.reduceLeDiff, Nat.reduceAdd, Nat.reduceMul, Nat.reduceSub, Nat.reduceBEq, ↓reduceIte, reduceCtorEq, eRoom, slotT, eEvent]
    refine Callx.closed (l5ByGrants p.grants u) rfl rfl (.inl rfl) ?_
    simp -implicitDefEqProofs (maxSteps := 2000000) only [push_cast, Nat.reduceEqDiff, Nat.reduceLT, Nat.reduceLeDiff, Nat.reduceAdd, Nat.reduceMul, Nat.reduceSub, Nat.reduceBEq, ↓reduceIte, reduceCtorEq, eRoom]
  | none =>
    simp -implicitDefEqProofs (maxSteps := 2000000) only [push_cast, Nat.reduceEqDiff, Nat.reduceLT, Nat.reduceLeDiff, Nat.reduceAdd, Nat.reduceMul, Nat.reduceSub, Nat.reduceBEq, ↓reduceIte, reduceCtorEq, eRoom, slotT, zeroEv, eEvent]
    refine Callx.closed (l5Event es s sCreate []) rfl rfl (.inl rfl) ?_
    cases h2 : slotE es s (sCreate, []) with
    | some c =>
      simp -implicitDefEqProofs (maxSteps := 2000000) only [push_cast, Nat.reduceEqDiff, Nat.reduceLT, Nat.reduceLeDiff, Nat.reduceAdd, Nat.reduceMul, Nat.reduceSub, Nat.reduceBEq, ↓reduceIte, reduceCtorEq, eRoom, slotT, eEvent]
      refine iteI (fun h => ?_) (fun h => ?_)
      · rw [if_pos h]
      · rw [if_neg h]
    | none =>
      simp -implicitDefEqProofs (maxSteps := 2000000) only [push_cast, Nat.reduceEqDiff, Nat.reduceLT, Nat.reduceLeDiff, Nat.reduceAdd, Nat.reduceMul, Nat.reduceSub, Nat.reduceBEq, ↓reduceIte, reduceCtorEq, eRoom, slotT, zeroEv, eEvent]
theorem slot_in {es : List Event} {s : List Entry} {k : SlotK} {e : Event} (h : slotE es s k = some e) : ∃ i : Nat, es[i]? = some e := by
  unfold slotE at h
  split at h
  · exact ⟨_, h⟩
  · cases h
theorem slot_is {es : List Event} {s : List Entry} {k : SlotK} {e : Event} (hv : Valid es) (hf : fitsB es s = true) (h : slotE es s k = some e) : e.typ = k.1 ∧ e.key = k.2 := by
  obtain ⟨hs, hx⟩ := fits_of hf
  obtain ⟨ho1, ho2, ho3⟩ := stateOk_ord hs
  have hl := live_map (inOrd_nodup ho1)
  rcases findId_get (k := k) ho3 with ⟨h1, h2⟩ | ⟨h1, h2⟩
  · unfold slotE at h
    rw [h2, pos_nil hv] at h
    cases h
  · have := aget_in h1
    obtain ⟨x, hxs, he⟩ := List.mem_map.1 this
    have hfx := hx x hxs
    simp only [Prod.mk.injEq] at he
    unfold fitE at hfx
    unfold slotE at h
    rw [he.2] at hfx
    cases hp : posOf (findId k s) es with
    | none => rw [hp] at h; cases h
    | some j =>
      rw [hp] at h hfx
      dsimp only at h hfx
      rw [h] at hfx
      simp only [Bool.and_eq_true, decide_eq_true_eq] at hfx
      rw [← he.1]
      exact ⟨hfx.1.2, hfx.2⟩
theorem pow_ord {es : List Event} {s : List Entry} {k : List UInt8} {e : Event} (hv : Valid es) (hf : fitsB es s = true) (h : slotE es s (sPower, k) = some e) : GOrd e.grants := by
  obtain ⟨i, hi⟩ := slot_in h
  have ht := (slot_is hv hf h).1
  have hc := evOk_content (hv.good hi).ok
  unfold contentB at hc
  simp only at ht
  rw [ht, if_neg (by decide), if_neg (by decide), if_neg (by decide), if_pos rfl] at hc
  simp only [Bool.and_eq_true] at hc
  have hg := hc.2
  unfold grantsB at hg
  simp only [Bool.and_eq_true] at hg
  exact gOrd_of (@of_decide_eq_true _ (Classical.propDecidable _) hg.2.2)
theorem judgeLevel (es : List Event) (s : List Entry) (x : Event) (u : List UInt8) (hv : Valid es) (hf : fitsB es s = true) (hB : Bd.B ≤ 2147483648) : Con P0 109 [jT es s x, .s u] (.t (.i .i64 (lvl es s u))) [] := by
  refine Con.intro (fn := Try.f109) [.tmp 4] (fun _ => (0, [])) mixed (by kernel_rfl) rfl (by decide) rfl (by rfl) (by kernel_rfl) ?_
  simp -implicitDefEqProofs (maxSteps := 2000000) only [push_cast, Nat.reduceEqDiff, Nat.reduceLT, Nat.reduceLeDiff, Nat.reduceAdd, Nat.reduceMul, Nat.reduceSub, Nat.reduceBEq, ↓reduceIte, reduceCtorEq, jT, liveT, gT]
  refine Callx.closed (judgeAt es s x sPower [] hv hf) rfl rfl (.inl rfl) ?_
  unfold lvl
  cases h1 : slotE es s (sPower, []) with
  | some p =>
    simp -implicitDefEqProofs (maxSteps := 2000000) only [push_cast, Nat.reduceEqDiff, Nat.reduceLT, Nat.reduceLeDiff, Nat.reduceAdd, Nat.reduceMul, Nat.reduceSub, Nat.reduceBEq, ↓reduceIte, reduceCtorEq, slotP, gT]
    refine Callx.closed (implLevelBy p u (pow_ord hv hf h1) hB) rfl rfl (.inl rfl) ?_
    simp -implicitDefEqProofs (maxSteps := 2000000) only [push_cast, Nat.reduceEqDiff, Nat.reduceLT, Nat.reduceLeDiff, Nat.reduceAdd, Nat.reduceMul, Nat.reduceSub, Nat.reduceBEq, ↓reduceIte, reduceCtorEq, slotP, gT]
  | none =>
    simp -implicitDefEqProofs (maxSteps := 2000000) only [push_cast, Nat.reduceEqDiff, Nat.reduceLT, Nat.reduceLeDiff, Nat.reduceAdd, Nat.reduceMul, Nat.reduceSub, Nat.reduceBEq, ↓reduceIte, reduceCtorEq, slotP, gT]
    refine Callx.closed (judgeAt es s x sCreate [] hv hf) rfl rfl (.inl rfl) ?_
    cases h2 : slotE es s (sCreate, []) with
    | some c =>
      simp -implicitDefEqProofs (maxSteps := 2000000) only [push_cast, Nat.reduceEqDiff, Nat.reduceLT, Nat.reduceLeDiff, Nat.reduceAdd, Nat.reduceMul, Nat.reduceSub, Nat.reduceBEq, ↓reduceIte, reduceCtorEq, slotP, gT, eEvent]
      refine iteI (fun h => ?_) (fun h => ?_)
      · rw [if_pos h]
      · rw [if_neg h]
    | none =>
      simp -implicitDefEqProofs (maxSteps := 2000000) only [push_cast, Nat.reduceEqDiff, Nat.reduceLT, Nat.reduceLeDiff, Nat.reduceAdd, Nat.reduceMul, Nat.reduceSub, Nat.reduceBEq, ↓reduceIte, reduceCtorEq, slotP, gT]
noncomputable def levelB (es : List Event) (s : List Entry) (u : List UInt8) : Int := if roomB es = true ∧ fitsB es s = true then lvl es s u else 0
theorem specLevelOf (es : List Event) (s : List Entry) (u : List UInt8) : Con P0 47 [eRoom ⟨es⟩, eEntryS s, .s u] (.t (.i .i64 (levelB es s u))) [] := by
  refine Con.intro (fn := Try.f47) [.tmp 6] (fun _ => (0, [])) mixed (by kernel_rfl) rfl (by decide) rfl (by rfl) (by kernel_rfl) ?_
  simp -implicitDefEqProofs (maxSteps := 2000000) only [push_cast, Nat.reduceEqDiff, Nat.reduceLT, Nat.reduceLeDiff, Nat.reduceAdd, Nat.reduceMul, Nat.reduceSub, Nat.reduceBEq, ↓reduceIte, reduceCtorEq, eRoom]
  refine Callx.closed (specRoomOk es) rfl rfl (.inl rfl) ?_
  simp -implicitDefEqProofs (maxSteps := 2000000) only [push_cast, Nat.reduceEqDiff, Nat.reduceLT, Nat.reduceLeDiff, Nat.reduceAdd, Nat.reduceMul, Nat.reduceSub, Nat.reduceBEq, ↓reduceIte, reduceCtorEq, eRoom]
  unfold levelB
  refine iteI (fun hr => ?_) (fun hr => ?_)
  · rw [if_neg (fun h => by rw [h.1] at hr; cases hr)]
  refine Callx.closed (l5Fits es s) rfl rfl (.inl rfl) ?_
  simp -implicitDefEqProofs (maxSteps := 2000000) only [push_cast, Nat.reduceEqDiff, Nat.reduceLT, Nat.reduceLeDiff, Nat.reduceAdd, Nat.reduceMul, Nat.reduceSub, Nat.reduceBEq, ↓reduceIte, reduceCtorEq, eRoom]
  refine iteI (fun hf => ?_) (fun hf => ?_)
  · rw [if_neg (fun h => by rw [h.2] at hf; cases hf)]
  rw [if_pos ⟨by simpa using hr, by simpa using hf⟩]
  refine Callx.closed (l5Level es s u) rfl rfl (.inl rfl) ?_
  simp -implicitDefEqProofs (maxSteps := 2000000) only [push_cast, Nat.reduceEqDiff, Nat.reduceLT, Nat.reduceLeDiff, Nat.reduceAdd, Nat.reduceMul, Nat.reduceSub, Nat.reduceBEq, ↓reduceIte, reduceCtorEq, eRoom]
theorem implLevelOf (es : List Event) (s : List Entry) (u : List UInt8) (hB : Bd.B ≤ 2147483648) : Con P0 49 [eRoom ⟨es⟩, eEntryS s, .s u] (.t (.i .i64 (levelB es s u))) [] := by
  refine Con.intro (fn := Try.f49) [.tmp 6] (fun _ => (0, [])) mixed (by kernel_rfl) rfl (by decide) rfl (by rfl) (by kernel_rfl) ?_
  simp -implicitDefEqProofs (maxSteps := 2000000) only [push_cast, Nat.reduceEqDiff, Nat.reduceLT, Nat.reduceLeDiff, Nat.reduceAdd, Nat.reduceMul, Nat.reduceSub, Nat.reduceBEq, ↓reduceIte, reduceCtorEq, eRoom]
  refine Callx.closed (graphOf es hB) rfl rfl (.inl rfl) ?_
  simp -implicitDefEqProofs (maxSteps := 2000000) only [push_cast, Nat.reduceEqDiff, Nat.reduceLT, Nat.reduceLeDiff, Nat.reduceAdd, Nat.reduceMul, Nat.reduceSub, Nat.reduceBEq, ↓reduceIte, reduceCtorEq, eRoom]
  unfold levelB
  by_cases hr : roomB es = true
  · rw [if_pos hr]
    simp -implicitDefEqProofs (maxSteps := 2000000) only [push_cast, Nat.reduceEqDiff, Nat.reduceLT, Nat.reduceLeDiff, Nat.reduceAdd, Nat.reduceMul, Nat.reduceSub, Nat.reduceBEq, ↓reduceIte, reduceCtorEq, eRoom]
    refine Callx.closed (graphFits es s) rfl rfl (.inl rfl) ?_
    simp -implicitDefEqProofs (maxSteps := 2000000) only [push_cast, Nat.reduceEqDiff, Nat.reduceLT, Nat.reduceLeDiff, Nat.reduceAdd, Nat.reduceMul, Nat.reduceSub, Nat.reduceBEq, ↓reduceIte, reduceCtorEq, eRoom]
    refine iteI (fun hf => ?_) (fun hf => ?_)
    · rw [if_neg (fun h => by rw [h.2] at hf; cases hf)]
    have hf : fitsB es s = true := by simpa using hf
    rw [if_pos ⟨hr, hf⟩]
    refine Callx.closed (liveOf s) rfl rfl (.inl rfl) ?_
    simp -implicitDefEqProofs (maxSteps := 2000000) only [push_cast, Nat.reduceEqDiff, Nat.reduceLT, Nat.reduceLeDiff, Nat.reduceAdd, Nat.reduceMul, Nat.reduceSub, Nat.reduceBEq, ↓reduceIte, reduceCtorEq, eRoom, gT]
    refine Callx.closed (judgeLevel es s zeroEv u (room_valid hr) hf hB) rfl rfl (.inr ⟨rfl, rfl⟩) ?_
    simp -implicitDefEqProofs (maxSteps := 2000000) only [push_cast, Nat.reduceEqDiff, Nat.reduceLT, Nat.reduceLeDiff, Nat.reduceAdd, Nat.reduceMul, Nat.reduceSub, Nat.reduceBEq, ↓reduceIte, reduceCtorEq, eRoom]
  · rw [if_neg hr]
    simp -implicitDefEqProofs (maxSteps := 2000000) only [push_cast, Nat.reduceEqDiff, Nat.reduceLT, Nat.reduceLeDiff, Nat.reduceAdd, Nat.reduceMul, Nat.reduceSub, Nat.reduceBEq, ↓reduceIte, reduceCtorEq, eRoom]
    refine Callx.closed (graphFitsNil s) rfl rfl (.inl rfl) ?_
    simp -implicitDefEqProofs (maxSteps := 2000000) only [push_cast, Nat.reduceEqDiff, Nat.reduceLT, Nat.reduceLeDiff, Nat.reduceAdd, Nat.reduceMul, Nat.reduceSub, Nat.reduceBEq, ↓reduceIte, reduceCtorEq, eRoom]
    rw [if_neg (fun h => hr h.1)]
end Go.Proofs.Ytkgoglapagmapaa.BX
