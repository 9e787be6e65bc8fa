/-
  'Find', the document's and the program's; the map of a state.
-/
import Derived.Test.YthhgcklidfilfaaSt
namespace Go.Proofs.Ythhgcklidfilfaa.BX
set_option linter.unusedSectionVars false
set_option linter.unusedSimpArgs false
set_option linter.unusedVariables false
open Go Go.RowKit
set_option maxRecDepth 20000
set_option maxHeartbeats 400000

/-! ### the plain law -/
def same (a b : Entry) : Bool := decide (a.typ = b.typ) && decide (a.key = b.key)
abbrev SlotK := List UInt8 × List UInt8
def Entry.slot (e : Entry) : SlotK := (e.typ, e.key)
def eK (k : SlotK) : T := .ag [.s k.1, .s k.2]
theorem eK_inj : ∀ a b : SlotK, eK a = eK b → a = b := by
  rintro ⟨a, b⟩ ⟨c, d⟩ h
  simpa [eK] using h
@[push_cast] theorem eK_key {k : SlotK} : isKey (true, [.str, .str]) (eK k) = True := by simp [eK, isKey, keyCells, keyCell]
/-- the map of a state: slots to ids -/
def live (s : List Entry) : List (SlotK × List UInt8) := s.foldl (fun m e => aset e.slot e.id m) []
theorem live_snoc {s : List Entry} {e : Entry} : live (s ++ [e]) = aset e.slot e.id (live s) := by simp [live, List.foldl_append]
theorem live_nodup (s : List Entry) : ((live s).map (·.1)).Nodup := by
  unfold live
  suffices ∀ (s : List Entry) (m : List (SlotK × List UInt8)), (m.map (·.1)).Nodup → ((s.foldl (fun m e => aset e.slot e.id m) m).map (·.1)).Nodup from this s [] (by simp)
  intro s
  induction s with
  | nil => intro m h; exact h
  | cons e s ih => intro m h; exact ih _ (aset_nodup h)
theorem live_len (s : List Entry) : (live s).length ≤ s.length := by
  unfold live
  suffices ∀ (s : List Entry) (m : List (SlotK × List UInt8)), (s.foldl (fun m e => aset e.slot e.id m) m).length ≤ m.length + s.length from by simpa using this s []
  intro s
  induction s with
  | nil => intro m; simp
  | cons e s ih => intro m; have := ih (aset e.slot e.id m); have := (aset_len (k := e.slot) (v := e.id) (l := m)).2; simp only [List.foldl_cons, List.length_cons]; omega

theorem before_slot {a b : Entry} (h : before a b = true) : a.slot ≠ b.slot := by
  intro e
  simp only [Entry.slot, Prod.mk.injEq] at e
  unfold before at h
  rw [e.1, e.2] at h
  simp [less_irrefl] at h
theorem before_trans {a b c : Entry} (h : before a b = true) (k : before b c = true) : before a c = true := by
  unfold before at *
  by_cases h1 : a.typ = b.typ <;> by_cases h2 : b.typ = c.typ <;> simp only [h1, h2, not_true, not_false_eq_true, if_true, if_false] at h k ⊢
  · exact less_trans h k
  · exact k
  · rw [h2] at h1
    simp only [h1, not_false_eq_true, if_true] at h ⊢
    exact h
  · have h3 := less_trans h k
    by_cases h4 : a.typ = c.typ
    · rw [h4, less_irrefl] at h3; cases h3
    · simp only [h4, not_false_eq_true, if_true]; exact h3
theorem inOrd_spec {s : List Entry} (h : inOrd s = true) : ∀ (i : Nat) (a b : Entry), s[i]? = some a → s[i + 1]? = some b → before a b = true := by
  unfold inOrd at h
  exact @of_decide_eq_true _ (Classical.propDecidable _) h
theorem inOrd_far {s : List Entry} (h : inOrd s = true) : ∀ (d i : Nat) (a b : Entry), s[i]? = some a → s[i + 1 + d]? = some b → before a b = true
  | 0, i, a, b, ha, hb => inOrd_spec h i a b ha hb
  | d + 1, i, a, b, ha, hb => by
    have hl := (List.getElem?_eq_some_iff.1 hb).1
    have hm : s[i + 1 + d]? = some (s[i + 1 + d]'(by omega)) := List.getElem?_eq_getElem (by omega)
    exact before_trans (inOrd_far h d i a _ ha hm) (inOrd_spec h (i + 1 + d) _ b hm (by rw [← hb]; congr 1))
theorem inOrd_nodup {s : List Entry} (h : inOrd s = true) : (s.map Entry.slot).Nodup := by
  refine List.pairwise_iff_getElem.2 fun i j hi hj hij => ?_
  rw [List.length_map] at hi hj
  rw [List.getElem_map, List.getElem_map]
  refine before_slot (inOrd_far h (j - (i + 1)) i _ _ (List.getElem?_eq_getElem (by omega)) ?_)
  rw [show i + 1 + (j - (i + 1)) = j by omega]
  exact List.getElem?_eq_getElem hj
theorem live_map {s : List Entry} (h : (s.map Entry.slot).Nodup) : live s = s.map fun e => (e.slot, e.id) := by
  unfold live
  suffices ∀ (s : List Entry) (m : List (SlotK × List UInt8)), (m.map (·.1) ++ s.map Entry.slot).Nodup → s.foldl (fun m e => aset e.slot e.id m) m = m ++ s.map fun e => (e.slot, e.id) from by simpa using this s [] (by simpa using h)
  intro s
  induction s with
  | nil => intro m _; simp
  | cons e s ih =>
    intro m hn
    have hne : e.slot ∉ m.map (·.1) := by
      intro hm
      rw [List.nodup_append] at hn
      exact hn.2.2 _ hm _ (by simp) rfl
    rw [List.foldl_cons, aset_new hne, ih _ (by simpa using hn)]
    simp
theorem stateOk_ord {s : List Entry} (h : stateOk s = true) : inOrd s = true ∧ (s.length : Int) ≤ 300 ∧ ∀ e ∈ s, e.id ≠ [] := by
  unfold stateOk at h
  simp only [Bool.and_eq_true, decide_eq_true_eq] at h
  exact ⟨h.2.2, h.2.1, h.1⟩

/-- the id at a slot, or nothing -/
def findId (k : SlotK) : List Entry → List UInt8
  | [] => []
  | e :: r => if e.slot = k then e.id else findId k r
theorem findId_get {k : SlotK} : ∀ {s : List Entry}, (∀ e ∈ s, e.id ≠ []) → (aget k (s.map fun e => (e.slot, e.id)) = none ∧ findId k s = []) ∨ (aget k (s.map fun e => (e.slot, e.id)) = some (findId k s) ∧ findId k s ≠ [])
  | [], _ => .inl ⟨rfl, rfl⟩
  | e :: r, h => by
    simp only [List.map_cons, aget, findId]
    by_cases he : e.slot = k
    · simp only [he, if_true]
      exact .inr ⟨by first | rfl | trivial, h e (by simp)⟩
    · simp only [he, if_false]
      exact findId_get fun x hx => h x (by simp [hx])
theorem same_slot {x : Entry} {a b i : List UInt8} : same x ⟨a, b, i⟩ = decide (x.slot = (a, b)) := by
  simp [same, Entry.slot]
theorem findId_at {k : SlotK} {q : Entry → Bool} (hq : ∀ e, q e = decide (e.slot = k)) : ∀ {s : List Entry} {n : Int}, (firstAt q s n = -1 ∧ findId k s = []) ∨ ∃ (j : Nat) (e : Entry), firstAt q s n = n + j ∧ s[j]? = some e ∧ findId k s = e.id
  | [], n => .inl ⟨rfl, rfl⟩
  | e :: r, n => by
    simp only [firstAt, findId, hq]
    by_cases he : e.slot = k
    · simp only [he, decide_true, if_true]
      exact .inr ⟨0, e, by simp, rfl, rfl⟩
    · simp only [he, decide_false, Bool.false_eq_true, if_false]
      rcases findId_at hq (s := r) (n := n + 1) with h | ⟨j, x, h1, h2, h3⟩
      · exact .inl h
      · exact .inr ⟨j + 1, x, by rw [h1]; push_cast; omega, by simpa using h2, h3⟩
/-- what 'Find' answers -/
noncomputable def fId (s : List Entry) (a b : List UInt8) : List UInt8 := if stateOk s = true then findId (a, b) s else []
noncomputable def fOk (s : List Entry) (a b : List UInt8) : Bool := if stateOk s = true then decide (¬ findId (a, b) s = []) else false

variable [Bd]

/-! ### the document's -/
theorem l4Same (a b : Entry) : Con P0 176 [eEntry a, eEntry b] (.t (.b (same a b))) [] := by
  refine Con.intro (fn := Try.f176) [.tmp 4] (fun _ => (0, [])) mixed (by kernel_rfl) rfl (by decide) rfl (by rfl) (by kernel_rfl) ?_
  simp -implicitDefEqProofs (maxSteps := 2000000) only [push_cast, Nat.reduceEqDiff, Nat.reduceLT, Nat.reduceLeDiff, Nat.reduceAdd, Nat.reduceMul, Nat.reduceSub, Nat.reduceBEq, ↓reduceIte, reduceCtorEq, eEntry]
  unfold same
  split <;> simp [*]

theorem l4At (s : List Entry) (e : Entry) : Con P0 144 [eEntryS s, eEntry e] (.t (.i .i64 (firstAt (fun x => same x e) s 0))) [] := by
  refine Con.intro (fn := Try.f144) [.tmp 4] (fun i => if i = 4 then (6, []) else (0, [])) mixed (by kernel_rfl) rfl (by decide) rfl (by rfl) (by kernel_rfl) ?_
  simp -implicitDefEqProofs (maxSteps := 2000000) only [push_cast, Nat.reduceEqDiff, Nat.reduceLT, Nat.reduceLeDiff, Nat.reduceAdd, Nat.reduceMul, Nat.reduceSub, Nat.reduceBEq, ↓reduceIte, reduceCtorEq]
  refine WL.loop (ι := Nat) (D := (fun i => if i = 4 then (6, []) else (0, []))) (fun i => i ≤ s.length ∧ ∀ x ∈ s.take i, same x e = false) (fun i => ⟨19, [(0, .t (eEntryS s)), (3, .rf 0 0), (5, .t (.i .i64 i))], [.box (.t (eEntry e))]⟩) (fun i => s.length - i) mixed (by kernel_rfl) 0 ⟨by omega, by simp⟩ (Keep.wk (ids := [some 0]) ?_) ?_
  · simp only [push_cast, Nat.reduceEqDiff, Nat.reduceLT, Nat.reduceLeDiff, Nat.reduceAdd, Nat.reduceMul, Nat.reduceSub, Nat.reduceBEq, ↓reduceIte, reduceCtorEq] <;> rfl
  · rintro i ⟨hi, hc⟩
    simp -implicitDefEqProofs (maxSteps := 2000000) only [push_cast, Nat.reduceEqDiff, Nat.reduceLT, Nat.reduceLeDiff, Nat.reduceAdd, Nat.reduceMul, Nat.reduceSub, Nat.reduceBEq, ↓reduceIte, reduceCtorEq, eEntry_len, eEntry_isAg, eEntry_ones, eEntry_one]
    intro hl
    have := Bd.hi
    split
    · rename_i h
      refine ⟨by omega, fun a ha => CallV.t (l4Same a e) (.inl rfl) ?_⟩
      rw [Int.toNat_natCast] at ha
      simp -implicitDefEqProofs (maxSteps := 2000000) only [push_cast, Nat.reduceEqDiff, Nat.reduceLT, Nat.reduceLeDiff, Nat.reduceAdd, Nat.reduceMul, Nat.reduceSub, Nat.reduceBEq, ↓reduceIte, reduceCtorEq]
      split
      · rename_i hne
        refine congrArg (T.i .i64) ?_
        rw [firstAt_at ha hc hne]; omega
      · rename_i h0
        refine ⟨by unfold inI64; omega, i + 1, ⟨by omega, fun x hx => ?_⟩, by omega, Keep.wk (ids := [some 0]) ?_⟩
        · rw [List.take_add_one, ha] at hx
          rcases List.mem_append.1 hx with hx | hx
          · exact hc x hx
          · simp at hx; subst hx; simpa using h0
        · simp only [push_cast, Nat.reduceEqDiff, Nat.reduceLT, Nat.reduceLeDiff, Nat.reduceAdd, Nat.reduceMul, Nat.reduceSub, Nat.reduceBEq, ↓reduceIte, reduceCtorEq] <;> rfl
    · have hi : i = s.length := by omega
      subst hi
      rw [List.take_length] at hc
      exact congrArg (T.i .i64) (firstAt_all hc).symm

theorem l4Find (s : List Entry) (a b : List UInt8) : Con P0 143 [eEntryS s, .s a, .s b] (.t (.s (findId (a, b) s))) [] := by
  refine Con.intro (fn := Try.f143) [.tmp 6] (fun _ => (0, [])) mixed (by kernel_rfl) rfl (by decide) rfl (by rfl) (by kernel_rfl) ?_
  simp -implicitDefEqProofs (maxSteps := 2000000) only [push_cast, Nat.reduceEqDiff, Nat.reduceLT, Nat.reduceLeDiff, Nat.reduceAdd, Nat.reduceMul, Nat.reduceSub, Nat.reduceBEq, ↓reduceIte, reduceCtorEq]
  refine Callx.closed (l4At s ⟨a, b, []⟩) rfl rfl (.inl rfl) ?_
  simp -implicitDefEqProofs (maxSteps := 2000000) only [push_cast, Nat.reduceEqDiff, Nat.reduceLT, Nat.reduceLeDiff, Nat.reduceAdd, Nat.reduceMul, Nat.reduceSub, Nat.reduceBEq, ↓reduceIte, reduceCtorEq]
  rcases findId_at (k := (a, b)) (fun e => same_slot (x := e) (a := a) (b := b) (i := [])) (s := s) (n := 0) with ⟨h1, h2⟩ | ⟨j, e, h1, h2, h3⟩
  · simp only [h1, h2]
    rw [if_pos (by omega)]
    trivial
  · simp only [h1, h3]
    have hj := (List.getElem?_eq_some_iff.1 h2).1
    rw [if_neg (by omega)]
    refine ⟨by omega, fun x hx => ?_⟩
    have hx2 : x = e := by
      rw [show ((0 : Int) + j).toNat = j by omega, h2] at hx
      exact (Option.some.inj hx).symm
    subst hx2
    simp -implicitDefEqProofs (maxSteps := 2000000) only [push_cast, Nat.reduceEqDiff, Nat.reduceLT, Nat.reduceLeDiff, Nat.reduceAdd, Nat.reduceMul, Nat.reduceSub, Nat.reduceBEq, ↓reduceIte, reduceCtorEq, eEntry]

/-! ### the program's -/
theorem liveOf (s : List Entry) : Con P0 70 [eEntryS s] (.mr 0) [.map 118 9 (.own .leaf) ((live s).map fun p => eK p.1) ((live s).map fun p => T.s p.2) none] := by
  refine Con.intro (fn := Try.f70) [.tmp 2] (fun _ => (0, [])) mixed (by kernel_rfl) rfl (by decide) rfl (by rfl) (by kernel_rfl) ?_
  simp -implicitDefEqProofs (maxSteps := 2000000) only [push_cast, Nat.reduceEqDiff, Nat.reduceLT, Nat.reduceLeDiff, Nat.reduceAdd, Nat.reduceMul, Nat.reduceSub, Nat.reduceBEq, ↓reduceIte, reduceCtorEq]
  intro hl
  have := Bd.hi
  refine WL.loop (ι := Nat) (D := (fun _ => (0, []))) (fun i => i ≤ s.length) (fun i => ⟨23, [(9, .t (.i .i64 i)), (8, .t (.i .i64 s.length)), (7, .t (eEntryS s)), (3, .mr 0)], [.map 118 9 (.own .leaf) ((live (s.take i)).map fun p => eK p.1) ((live (s.take i)).map fun p => T.s p.2) none]⟩) (fun i => s.length - i) mixed (by kernel_rfl) 0 (by omega) (Keep.wk (ids := [some 0]) ?_) ?_
  · simp only [push_cast, Nat.reduceEqDiff, Nat.reduceLT, Nat.reduceLeDiff, Nat.reduceAdd, Nat.reduceMul, Nat.reduceSub, Nat.reduceBEq, ↓reduceIte, reduceCtorEq, live, List.foldl_nil] <;> trivial
  · intro i hi
    simp -implicitDefEqProofs (maxSteps := 2000000) only [push_cast, Nat.reduceEqDiff, Nat.reduceLT, Nat.reduceLeDiff, Nat.reduceAdd, Nat.reduceMul, Nat.reduceSub, Nat.reduceBEq, ↓reduceIte, reduceCtorEq, eEntry]
    split
    · rename_i h
      refine ⟨by omega, fun a ha => ?_⟩
      rw [Int.toNat_natCast] at ha
      have hlen := live_len (s.take i)
      rw [List.length_take] at hlen
      have hs : live (s.take (i + 1)) = aset a.slot a.id (live (s.take i)) := by rw [List.take_add_one, ha]; exact live_snoc
      obtain ⟨hu1, hu2⟩ := upd_assoc (ek := eK) (ev := T.s) eK_inj (k := a.slot) (v := a.id) (l := live (s.take i))
      have hk : T.ag [T.s a.typ, T.s a.key] = eK a.slot := rfl
      rw [hk, hu1, hu2, ← hs]
      refine ⟨fun _ => by omega, by unfold inI64; omega, i + 1, by omega, by omega, Keep.wk (ids := [some 0]) ?_⟩
      simp only [push_cast, Nat.reduceEqDiff, Nat.reduceLT, Nat.reduceLeDiff, Nat.reduceAdd, Nat.reduceMul, Nat.reduceSub, Nat.reduceBEq, ↓reduceIte, reduceCtorEq] <;> rfl
    · have hi : i = s.length := by omega
      subst hi
      rw [List.take_length]
      exact Close.of [some 0] rfl rfl rfl rfl (by simp only [push_cast, Nat.reduceEqDiff, Nat.reduceLT, Nat.reduceLeDiff, Nat.reduceAdd, Nat.reduceMul, Nat.reduceSub, Nat.reduceBEq, ↓reduceIte, reduceCtorEq] <;> rfl)

theorem implFind (s : List Entry) (a b : List UInt8) : Con P0 17 [eEntryS s, .s a, .s b] (.t (.tp [.s (fId s a b), .b (fOk s a b)])) [] := by
  refine Con.intro (fn := Try.f17) [.tmp 6, .tmp 7] (fun _ => (0, [])) mixed (by kernel_rfl) rfl (by decide) rfl (by rfl) (by kernel_rfl) ?_
  simp -implicitDefEqProofs (maxSteps := 2000000) only [push_cast, Nat.reduceEqDiff, Nat.reduceLT, Nat.reduceLeDiff, Nat.reduceAdd, Nat.reduceMul, Nat.reduceSub, Nat.reduceBEq, ↓reduceIte, reduceCtorEq]
  refine Callx.closed (implStateOk s) rfl rfl (.inl rfl) ?_
  simp -implicitDefEqProofs (maxSteps := 2000000) only [push_cast, Nat.reduceEqDiff, Nat.reduceLT, Nat.reduceLeDiff, Nat.reduceAdd, Nat.reduceMul, Nat.reduceSub, Nat.reduceBEq, ↓reduceIte, reduceCtorEq]
  unfold fId fOk
  cases hok : stateOk s with
  | false => simp
  | true =>
    simp only [Bool.not_true, Bool.false_eq_true, if_false, if_true]
    refine Callx.closed (liveOf s) rfl rfl (.inl rfl) ?_
    obtain ⟨ho1, ho2, ho3⟩ := stateOk_ord hok
    simp -implicitDefEqProofs (maxSteps := 2000000) only [push_cast, Nat.reduceEqDiff, Nat.reduceLT, Nat.reduceLeDiff, Nat.reduceAdd, Nat.reduceMul, Nat.reduceSub, Nat.reduceBEq, ↓reduceIte, reduceCtorEq]
    have hk : T.ag [T.s a, T.s b] = eK (a, b) := rfl
    rw [hk]
    have hlm := live_map (inOrd_nodup ho1)
    refine look_assoc (ev := T.s) eK_inj (live_nodup s) (fun p _ => of_eq_true eK_key) (fun v hv => ?_) (fun hv => ?_)
    · simp -implicitDefEqProofs (maxSteps := 2000000) only [push_cast, Nat.reduceEqDiff, Nat.reduceLT, Nat.reduceLeDiff, Nat.reduceAdd, Nat.reduceMul, Nat.reduceSub, Nat.reduceBEq, ↓reduceIte, reduceCtorEq]
      rw [hlm] at hv
      rcases findId_get (k := (a, b)) ho3 with ⟨h1, h2⟩ | ⟨h1, h2⟩
      · rw [h1] at hv; cases hv
      · rw [h1] at hv
        cases hv
        simp [h2]
    · simp -implicitDefEqProofs (maxSteps := 2000000) only [push_cast, Nat.reduceEqDiff, Nat.reduceLT, Nat.reduceLeDiff, Nat.reduceAdd, Nat.reduceMul, Nat.reduceSub, Nat.reduceBEq, ↓reduceIte, reduceCtorEq]
      rw [hlm] at hv
      rcases findId_get (k := (a, b)) ho3 with ⟨h1, h2⟩ | ⟨h1, h2⟩
      · simp [h2]
      · rw [h1] at hv; cases hv

end Go.Proofs.Ythhgcklidfilfaa.BX
