/-
  'Delta': the functions.
-/
import Derived.Test.YthhgcklidfilfaaDe
namespace Go.Proofs.Ythhgcklidfilfaa.BX
set_option linter.unusedSectionVars false
set_option linter.unusedSimpArgs false
set_option linter.unusedVariables false
open Go Go.RowKit
set_option maxRecDepth 20000
set_option maxHeartbeats 400000

theorem d1_take {b a : List Entry} {i : Nat} {e : Entry} (h : a[i]? = some e) : d1 b (a.take (i + 1)) = d1 b (a.take i) ++ (if findId e.slot b ≠ e.id then [⟨e.typ, e.key, findId e.slot b⟩] else []) := by
  unfold d1
  rw [List.take_add_one, h, List.filterMap_append]
  congr 1
  simp only [Option.toList_some, List.filterMap_cons, List.filterMap_nil]
  split <;> rename_i h1 <;> split at h1 <;> simp_all
theorem d2_take {a b : List Entry} {i : Nat} {e : Entry} (h : b[i]? = some e) : d2 a (b.take (i + 1)) = d2 a (b.take i) ++ (if e.slot ∉ a.map Entry.slot then [e] else []) := by
  unfold d2
  rw [List.take_add_one, h, List.filter_append]
  congr 1
  simp only [Option.toList_some, List.filter_cons, List.filter_nil, decide_eq_true_eq]
theorem eK_len {k : SlotK} : (eK k).cells.length = 2 := rfl
theorem eK_isAg {k : SlotK} : (eK k).isAg = true := rfl
/-- a walk over a map that sets some slots of another -/
def Walked (f g : SlotK → Option (List UInt8)) (c : Nat) (B out rest : List (SlotK × List UInt8)) : Prop :=
  ∃ done, List.Perm (done ++ rest) B ∧ (out.map (·.1)).Nodup ∧ out.length ≤ c + done.length ∧ ∀ k, aget k out = if k ∈ done.map (·.1) then f k else g k
section
variable {f g : SlotK → Option (List UInt8)} {c : Nat} {B out rest : List (SlotK × List UInt8)}
theorem Walked.start (hn : (out.map (·.1)).Nodup) (hc : out.length ≤ c) (h : ∀ k, aget k out = g k) : Walked f g c B out B :=
  ⟨[], List.Perm.refl _, hn, by simpa using hc, fun k => by rw [h]; simp⟩
theorem Walked.len (h : Walked f g c B out rest) : out.length + rest.length ≤ c + B.length := by
  obtain ⟨done, h1, _, h3, _⟩ := h
  have := h1.length_eq
  rw [List.length_append] at this
  omega
theorem Walked.fresh (h : Walked f g c B out rest) (hB : (B.map (·.1)).Nodup) {i : Nat} {q : SlotK × List UInt8} (hq : rest[i]? = some q) : q ∈ B ∧ aget q.1 out = g q.1 := by
  obtain ⟨done, h1, _, _, h4⟩ := h
  have hm : q ∈ rest := List.mem_of_getElem? hq
  refine ⟨h1.subset (List.mem_append_right _ hm), ?_⟩
  rw [h4, if_neg]
  have hn := (h1.map (·.1)).nodup_iff.2 hB
  rw [List.map_append, List.nodup_append] at hn
  exact fun hd => hn.2.2 _ hd _ (List.mem_map_of_mem hm) rfl
theorem Walked.skip (h : Walked f g c B out rest) (hB : (B.map (·.1)).Nodup) {i : Nat} {q : SlotK × List UInt8} (hq : rest[i]? = some q) (hf : f q.1 = g q.1) : Walked f g c B out (rest.eraseIdx i) := by
  have hfr := (h.fresh hB hq).2
  obtain ⟨done, h1, h2, h3, h4⟩ := h
  refine ⟨done ++ [q], ?_, h2, by rw [List.length_append]; omega, fun k => ?_⟩
  · rw [List.append_assoc]
    exact ((erase_pick hq).symm.append_left _).trans h1
  · have hmem : (k ∈ (done ++ [q]).map (·.1)) ↔ (k ∈ done.map (·.1) ∨ k = q.1) := by simp
    by_cases hk : k = q.1
    · subst hk
      rw [if_pos (hmem.2 (.inr rfl)), hfr, hf]
    · rw [h4]
      simp only [hmem, hk, or_false]
theorem Walked.put (h : Walked f g c B out rest) (hB : (B.map (·.1)).Nodup) {i : Nat} {q : SlotK × List UInt8} (hq : rest[i]? = some q) {v : List UInt8} (hf : f q.1 = some v) : Walked f g c B (aset q.1 v out) (rest.eraseIdx i) := by
  obtain ⟨done, h1, h2, h3, h4⟩ := h
  have hl := (aset_len (k := q.1) (v := v) (l := out)).2
  refine ⟨done ++ [q], ?_, aset_nodup h2, by rw [List.length_append, List.length_singleton]; omega, fun k => ?_⟩
  · rw [List.append_assoc]
    exact ((erase_pick hq).symm.append_left _).trans h1
  · rw [aget_set]
    by_cases hk : q.1 = k
    · subst hk
      rw [if_pos rfl, if_pos (by simp), hf]
    · rw [if_neg hk, h4]
      have hk' : ¬ k = q.1 := fun e => hk e.symm
      have hmem : (k ∈ (done ++ [q]).map (·.1)) ↔ (k ∈ done.map (·.1) ∨ k = q.1) := by simp
      simp only [hmem, hk', or_false]
theorem Walked.done (h : Walked f g c B out []) : (out.map (·.1)).Nodup ∧ out.length ≤ c + B.length ∧ ∀ k, aget k out = if k ∈ B.map (·.1) then f k else g k := by
  have hl := h.len
  obtain ⟨done, h1, h2, h3, h4⟩ := h
  rw [List.append_nil] at h1
  refine ⟨h2, by simpa using hl, fun k => ?_⟩
  rw [h4]
  have : (k ∈ done.map (·.1)) ↔ k ∈ B.map (·.1) := (h1.map (·.1)).mem_iff
  simp only [this]
end
theorem dv_b {a b : List Entry} (hb : stateOk b = true) {q : SlotK × List UInt8} (hq : aget q.1 (b.map Entry.pair) = some q.2) : findId q.1 b = q.2 := by
  rcases findId_get (k := q.1) (stateOk_ord hb).2.2 with ⟨h1, _⟩ | ⟨h1, _⟩
  · have h1' : aget q.1 (b.map Entry.pair) = none := h1
    rw [h1'] at hq; cases hq
  · have h1' : aget q.1 (b.map Entry.pair) = some (findId q.1 b) := h1
    rw [h1'] at hq; exact Option.some.inj hq
theorem dv_gone {a b : List Entry} (ha : stateOk a = true) (hb : stateOk b = true) {q : SlotK × List UInt8} (hq : aget q.1 (a.map Entry.pair) = some q.2) (hn : aget q.1 (b.map Entry.pair) = none) : dvOf a b q.1 = some [] := by
  unfold dvOf
  rw [hq]
  have hf : findId q.1 b = [] := by
    rcases findId_get (k := q.1) (stateOk_ord hb).2.2 with ⟨_, h2⟩ | ⟨h1, _⟩
    · exact h2
    · have h1' : aget q.1 (b.map Entry.pair) = some (findId q.1 b) := h1
      rw [h1'] at hn; cases hn
  have hne : q.2 ≠ [] := by
    rcases findId_get (k := q.1) (stateOk_ord ha).2.2 with ⟨h1, _⟩ | ⟨h1, h2⟩
    · have h1' : aget q.1 (a.map Entry.pair) = none := h1
      rw [h1'] at hq; cases hq
    · have h1' : aget q.1 (a.map Entry.pair) = some (findId q.1 a) := h1
      rw [h1'] at hq
      rw [← Option.some.inj hq]; exact h2
  dsimp only
  rw [hf, if_pos (fun h => hne h.symm)]

variable [Bd]

theorem at_slot {a : List Entry} {e : Entry} : firstAt (fun x => same x e) a 0 < 0 ↔ e.slot ∉ a.map Entry.slot := by
  have h := firstAt_nn (p := fun x => same x e) (xs := a) (k := 0) (by omega)
  constructor
  · intro h1 h2
    obtain ⟨x, hx, hs⟩ := List.mem_map.1 h2
    have := h.2 ⟨x, hx, by rw [show e = ⟨e.typ, e.key, e.id⟩ from rfl, same_slot]; exact decide_eq_true hs⟩
    omega
  · intro h1
    by_cases h2 : 0 ≤ firstAt (fun x => same x e) a 0
    · obtain ⟨x, hx, hs⟩ := h.1 h2
      rw [show e = ⟨e.typ, e.key, e.id⟩ from rfl, same_slot] at hs
      exact absurd (List.mem_map.2 ⟨x, hx, of_decide_eq_true hs⟩) h1
    · omega

theorem l4Delta (a b : List Entry) (hB : Bd.B ≤ 2147483648) (hla : a.length ≤ 300) (hlb : b.length ≤ 300) : Con P0 84 [eEntryS a, eEntryS b] (.sr 0) [enO (deltaL a b)] := by
  refine Con.intro (fn := Try.f84) [.tmp 4] (fun i => if i = 7 then (13, []) else if i = 5 then (13, []) else (0, [])) mixed (by kernel_rfl) rfl (by decide) rfl (by rfl) (by kernel_rfl) ?_
  simp -implicitDefEqProofs (maxSteps := 2000000) only [push_cast, Nat.reduceEqDiff, Nat.reduceLT, Nat.reduceLeDiff, Nat.reduceAdd, Nat.reduceMul, Nat.reduceSub, Nat.reduceBEq, ↓reduceIte, reduceCtorEq]
  have := Bd.lo
  refine ⟨rfl, by omega, ?_⟩
  refine WL.loop (ι := Nat) (D := (fun i => if i = 7 then (13, []) else if i = 5 then (13, []) else (0, []))) (fun i => i ≤ a.length) (fun i => ⟨69, [(0, .t (eEntryS a)), (1, .t (eEntryS b)), (5, .sr 0), (6, .t (.i .i64 i))], [enO (putsL [] (d1 b (a.take i)))]⟩) (fun i => a.length - i) mixed (by kernel_rfl) 0 (by omega) (Keep.wk (ids := [some 0]) ?_) ?_
  · simp only [push_cast, Nat.reduceEqDiff, Nat.reduceLT, Nat.reduceLeDiff, Nat.reduceAdd, Nat.reduceMul, Nat.reduceSub, Nat.reduceBEq, ↓reduceIte, reduceCtorEq, List.take_zero, d1, putsL, List.filterMap_nil, List.foldl_nil] <;> rfl
  · intro i hi
    have hol := putsL_ord (s := []) (ch := d1 b (a.take i)) .nil
    have hl1 := d1_len (b := b) (a := a.take i)
    rw [List.length_take] at hl1
    have hol2 := hol.2
    rw [List.length_nil] at hol2
    simp -implicitDefEqProofs (maxSteps := 2000000) only [push_cast, Nat.reduceEqDiff, Nat.reduceLT, Nat.reduceLeDiff, Nat.reduceAdd, Nat.reduceMul, Nat.reduceSub, Nat.reduceBEq, ↓reduceIte, reduceCtorEq, eEntry]
    intro _
    split
    · rename_i h
      refine ⟨by omega, fun e he => ⟨by omega, fun e' he' => ?_⟩⟩
      rw [Int.toNat_natCast] at he he'
      rw [he] at he'
      cases he'
      have hd := d1_take (b := b) he
      refine CallV.t (l4Find b e.typ e.key) (.inl rfl) ?_
      simp -implicitDefEqProofs (maxSteps := 2000000) only [push_cast, Nat.reduceEqDiff, Nat.reduceLT, Nat.reduceLeDiff, Nat.reduceAdd, Nat.reduceMul, Nat.reduceSub, Nat.reduceBEq, ↓reduceIte, reduceCtorEq, eEntry]
      refine ⟨by omega, fun e' he' => ?_⟩
      rw [Int.toNat_natCast, he] at he'
      cases he'
      split
      · rename_i hne
        rw [if_pos (show findId e.slot b ≠ e.id from hne)] at hd
        refine ⟨by omega, fun e' he' => ⟨by omega, fun e2 he2 => ?_⟩⟩
        rw [Int.toNat_natCast, he] at he' he2
        cases he'
        cases he2
        refine Callx.closed (l4Set (putsL [] (d1 b (a.take i))) ⟨e.typ, e.key, findId (e.typ, e.key) b⟩ true hB (by omega)) rfl rfl (.inr ⟨rfl, rfl⟩) ?_
        simp -implicitDefEqProofs (maxSteps := 2000000) only [push_cast, Nat.reduceEqDiff, Nat.reduceLT, Nat.reduceLeDiff, Nat.reduceAdd, Nat.reduceMul, Nat.reduceSub, Nat.reduceBEq, ↓reduceIte, reduceCtorEq]
        refine ⟨by unfold inI64; omega, i + 1, by omega, by omega, Keep.wk (ids := [some 1]) ?_⟩
        simp only [push_cast, Nat.reduceEqDiff, Nat.reduceLT, Nat.reduceLeDiff, Nat.reduceAdd, Nat.reduceMul, Nat.reduceSub, Nat.reduceBEq, ↓reduceIte, reduceCtorEq, hd, putsL_snoc] <;> rfl
      · rename_i heq
        rw [if_neg (show ¬ findId e.slot b ≠ e.id from heq), List.append_nil] at hd
        refine ⟨by unfold inI64; omega, i + 1, by omega, by omega, Keep.wk (ids := [some 0]) ?_⟩
        simp only [push_cast, Nat.reduceEqDiff, Nat.reduceLT, Nat.reduceLeDiff, Nat.reduceAdd, Nat.reduceMul, Nat.reduceSub, Nat.reduceBEq, ↓reduceIte, reduceCtorEq, hd] <;> rfl
    · have hi : i = a.length := by omega
      subst hi
      rw [List.take_length]
      refine WL.loop (ι := Nat) (D := (fun i => if i = 7 then (13, []) else if i = 5 then (13, []) else (0, []))) (fun j => j ≤ b.length) (fun j => ⟨69, [(0, .t (eEntryS a)), (1, .t (eEntryS b)), (5, .sr 0), (8, .t (.i .i64 j))], [enO (putsL [] (d1 b a ++ d2 a (b.take j)))]⟩) (fun j => b.length - j) mixed (by kernel_rfl) 0 (by omega) (Keep.wk (ids := [some 0]) ?_) ?_
      · simp only [push_cast, Nat.reduceEqDiff, Nat.reduceLT, Nat.reduceLeDiff, Nat.reduceAdd, Nat.reduceMul, Nat.reduceSub, Nat.reduceBEq, ↓reduceIte, reduceCtorEq, List.take_zero, d2, List.filter_nil, List.append_nil] <;> rfl
      intro j hj
      have hoj := putsL_ord (s := []) (ch := d1 b a ++ d2 a (b.take j)) .nil
      have hj1 := d1_len (b := b) (a := a)
      have hj2 := d2_len (a := a) (b := b.take j)
      rw [List.length_take] at hj2
      have hoj2 := hoj.2
      rw [List.length_nil, List.length_append] at hoj2
      simp -implicitDefEqProofs (maxSteps := 2000000) only [push_cast, Nat.reduceEqDiff, Nat.reduceLT, Nat.reduceLeDiff, Nat.reduceAdd, Nat.reduceMul, Nat.reduceSub, Nat.reduceBEq, ↓reduceIte, reduceCtorEq, eEntry]
      intro _
      split
      · rename_i h2
        refine ⟨by omega, fun e he => ?_⟩
        rw [Int.toNat_natCast] at he
        have hd := d2_take (a := a) he
        have hat := at_slot (a := a) (e := e)
        refine Callx.closed (l4At a e) rfl rfl (.inl rfl) ?_
        simp -implicitDefEqProofs (maxSteps := 2000000) only [push_cast, Nat.reduceEqDiff, Nat.reduceLT, Nat.reduceLeDiff, Nat.reduceAdd, Nat.reduceMul, Nat.reduceSub, Nat.reduceBEq, ↓reduceIte, reduceCtorEq, eEntry]
        split
        · rename_i h3
          rw [if_pos (hat.1 h3)] at hd
          refine ⟨by omega, fun e' he' => ?_⟩
          rw [Int.toNat_natCast, he] at he'
          cases he'
          refine Callx.closed (l4Set (putsL [] (d1 b a ++ d2 a (b.take j))) e true hB (by omega)) rfl rfl (.inr ⟨rfl, rfl⟩) ?_
          simp -implicitDefEqProofs (maxSteps := 2000000) only [push_cast, Nat.reduceEqDiff, Nat.reduceLT, Nat.reduceLeDiff, Nat.reduceAdd, Nat.reduceMul, Nat.reduceSub, Nat.reduceBEq, ↓reduceIte, reduceCtorEq]
          refine ⟨by unfold inI64; omega, j + 1, by omega, by omega, Keep.wk (ids := [some 1]) ?_⟩
          simp only [push_cast, Nat.reduceEqDiff, Nat.reduceLT, Nat.reduceLeDiff, Nat.reduceAdd, Nat.reduceMul, Nat.reduceSub, Nat.reduceBEq, ↓reduceIte, reduceCtorEq, hd, ← List.append_assoc, putsL_snoc] <;> rfl
        · rename_i h3
          rw [if_neg (fun hh => h3 (hat.2 hh)), List.append_nil] at hd
          refine ⟨by unfold inI64; omega, j + 1, by omega, by omega, Keep.wk (ids := [some 0]) ?_⟩
          simp only [push_cast, Nat.reduceEqDiff, Nat.reduceLT, Nat.reduceLeDiff, Nat.reduceAdd, Nat.reduceMul, Nat.reduceSub, Nat.reduceBEq, ↓reduceIte, reduceCtorEq, hd] <;> rfl
      · have hj : j = b.length := by omega
        subst hj
        rw [List.take_length]
        exact Close.of [some 0] rfl rfl rfl rfl (by simp only [push_cast, Nat.reduceEqDiff, Nat.reduceLT, Nat.reduceLeDiff, Nat.reduceAdd, Nat.reduceMul, Nat.reduceSub, Nat.reduceBEq, ↓reduceIte, reduceCtorEq] <;> rfl)

theorem liveOfC (s : List Entry) : Con P0 70 [eEntryS s] (.t (lvT (live s))) [] := by
  refine Con.intro (fn := Try.f70) [.tmp 2] (fun _ => (0, [])) mixed (by kernel_rfl) rfl (by decide) rfl (by rfl) (by kernel_rfl) ?_
  simp -implicitDefEqProofs (maxSteps := 2000000) only [push_cast, Nat.reduceEqDiff, Nat.reduceLT, Nat.reduceLeDiff, Nat.reduceAdd, Nat.reduceMul, Nat.reduceSub, Nat.reduceBEq, ↓reduceIte, reduceCtorEq, lvT]
  intro hl
  have := Bd.hi
  refine WL.loop (ι := Nat) (D := (fun _ => (0, []))) (fun i => i ≤ s.length) (fun i => ⟨23, [(9, .t (.i .i64 i)), (8, .t (.i .i64 s.length)), (7, .t (eEntryS s)), (3, .mr 0)], [lvO (live (s.take i))]⟩) (fun i => s.length - i) mixed (by kernel_rfl) 0 (by omega) (Keep.wk (ids := [some 0]) ?_) ?_
  · simp only [push_cast, Nat.reduceEqDiff, Nat.reduceLT, Nat.reduceLeDiff, Nat.reduceAdd, Nat.reduceMul, Nat.reduceSub, Nat.reduceBEq, ↓reduceIte, reduceCtorEq, live, List.foldl_nil] <;> trivial
  · intro i hi
    simp -implicitDefEqProofs (maxSteps := 2000000) only [push_cast, Nat.reduceEqDiff, Nat.reduceLT, Nat.reduceLeDiff, Nat.reduceAdd, Nat.reduceMul, Nat.reduceSub, Nat.reduceBEq, ↓reduceIte, reduceCtorEq, eEntry]
    split
    · rename_i h
      refine ⟨by omega, fun a ha => ?_⟩
      rw [Int.toNat_natCast] at ha
      have hlen := live_len (s.take i)
      rw [List.length_take] at hlen
      have hs : live (s.take (i + 1)) = aset a.slot a.id (live (s.take i)) := by rw [List.take_add_one, ha]; exact live_snoc
      obtain ⟨hu1, hu2⟩ := upd_assoc (ek := eK) (ev := T.s) eK_inj (k := a.slot) (v := a.id) (l := live (s.take i))
      have hk : T.ag [T.s a.typ, T.s a.key] = eK a.slot := rfl
      rw [hk, hu1, hu2, ← hs]
      refine ⟨fun _ => by omega, by unfold inI64; omega, i + 1, by omega, by omega, Keep.wk (ids := [some 0]) ?_⟩
      simp only [push_cast, Nat.reduceEqDiff, Nat.reduceLT, Nat.reduceLeDiff, Nat.reduceAdd, Nat.reduceMul, Nat.reduceSub, Nat.reduceBEq, ↓reduceIte, reduceCtorEq] <;> rfl
    · have hi : i = s.length := by omega
      subst hi
      rw [List.take_length]
      trivial

theorem deltaOf (a b : List Entry) (hB : Bd.B ≤ 2147483648) (ha : stateOk a = true) (hb : stateOk b = true) : Con P0 68 [eEntryS a, eEntryS b] (.sr 0) [enO (deltaL a b)] := by
  obtain ⟨oa1, oa2, oa3⟩ := stateOk_ord ha
  obtain ⟨ob1, ob2, ob3⟩ := stateOk_ord hb
  have na := inOrd_nodup oa1
  have nb := inOrd_nodup ob1
  have la := live_map na
  have lb := live_map nb
  refine Con.intro (fn := Try.f68) [.tmp 4] (fun _ => (0, [])) mixed (by kernel_rfl) rfl (by decide) rfl (by rfl) (by kernel_rfl) ?_
  simp -implicitDefEqProofs (maxSteps := 2000000) only [push_cast, Nat.reduceEqDiff, Nat.reduceLT, Nat.reduceLeDiff, Nat.reduceAdd, Nat.reduceMul, Nat.reduceSub, Nat.reduceBEq, ↓reduceIte, reduceCtorEq]
  have := Bd.lo
  refine Callx.closed (liveOfC a) rfl rfl (.inl rfl) ?_
  simp -implicitDefEqProofs (maxSteps := 2000000) only [push_cast, Nat.reduceEqDiff, Nat.reduceLT, Nat.reduceLeDiff, Nat.reduceAdd, Nat.reduceMul, Nat.reduceSub, Nat.reduceBEq, ↓reduceIte, reduceCtorEq]
  refine Callx.closed (liveOfC b) rfl rfl (.inl rfl) ?_
  simp -implicitDefEqProofs (maxSteps := 2000000) only [push_cast, Nat.reduceEqDiff, Nat.reduceLT, Nat.reduceLeDiff, Nat.reduceAdd, Nat.reduceMul, Nat.reduceSub, Nat.reduceBEq, ↓reduceIte, reduceCtorEq, lvT]
  rw [lv_zip]
  have pa : live a = a.map Entry.pair := la
  have pb : live b = b.map Entry.pair := lb
  have nka := live_nodup a
  have nkb := live_nodup b
  have hlA := live_len a
  have hlB := live_len b
  refine WL.loop (ι := List (SlotK × List UInt8) × List (SlotK × List UInt8)) (D := (fun _ => (0, []))) (fun x => Walked (dvOf a b) (fun _ => none) 0 (live b) x.1 x.2) (fun x => ⟨61, [(5, .t (lvT (live a))), (6, .t (lvT (live b))), (7, .mr 0), (21, .it 1)], [lvO x.1, .iter none (x.2.map lvP)]⟩) (fun x => x.2.length) mixed (by kernel_rfl) ([], live b) (Walked.start (by simp) (by simp) (fun _ => rfl)) (Keep.wk (ids := [some 0, some 1]) ?_) ?_
  · simp only [push_cast, Nat.reduceEqDiff, Nat.reduceLT, Nat.reduceLeDiff, Nat.reduceAdd, Nat.reduceMul, Nat.reduceSub, Nat.reduceBEq, ↓reduceIte, reduceCtorEq, List.map_nil, lvT] <;> trivial
  · rintro ⟨out, rest⟩ hw
    dsimp only at hw ⊢
    have hwl := hw.len
    simp -implicitDefEqProofs (maxSteps := 2000000) only [push_cast, Nat.reduceEqDiff, Nat.reduceLT, Nat.reduceLeDiff, Nat.reduceAdd, Nat.reduceMul, Nat.reduceSub, Nat.reduceBEq, ↓reduceIte, reduceCtorEq]
    refine ⟨fun h0 => ?_, fun i p hip => ?_⟩
    · have hr : rest = [] := by simpa using h0
      subst hr
      obtain ⟨hd1, hd2, hd3⟩ := hw.done
      simp -implicitDefEqProofs (maxSteps := 2000000) only [push_cast, Nat.reduceEqDiff, Nat.reduceLT, Nat.reduceLeDiff, Nat.reduceAdd, Nat.reduceMul, Nat.reduceSub, Nat.reduceBEq, ↓reduceIte, reduceCtorEq]
      refine WL.loop (ι := List (SlotK × List UInt8) × List (SlotK × List UInt8)) (D := (fun _ => (0, []))) (fun x => Walked (dvOf a b) (fun k => aget k out) out.length (live a) x.1 x.2) (fun x => ⟨61, [(6, .t (lvT (live b))), (7, .mr 0), (44, .it 1)], [lvO x.1, .iter none (x.2.map lvP)]⟩) (fun x => x.2.length) mixed (by kernel_rfl) (out, live a) (Walked.start hd1 (Nat.le_refl _) (fun _ => rfl)) (Keep.wk (ids := [some 0, some 2]) ?_) ?_
      · simp only [push_cast, Nat.reduceEqDiff, Nat.reduceLT, Nat.reduceLeDiff, Nat.reduceAdd, Nat.reduceMul, Nat.reduceSub, Nat.reduceBEq, ↓reduceIte, reduceCtorEq, List.map_nil, lv_zip] <;> trivial
      · rintro ⟨out2, rest2⟩ hw2
        dsimp only at hw2 ⊢
        have hwl2 := hw2.len
        simp -implicitDefEqProofs (maxSteps := 2000000) only [push_cast, Nat.reduceEqDiff, Nat.reduceLT, Nat.reduceLeDiff, Nat.reduceAdd, Nat.reduceMul, Nat.reduceSub, Nat.reduceBEq, ↓reduceIte, reduceCtorEq]
        refine ⟨fun h0 => ?_, fun i p hip => ?_⟩
        · have hr : rest2 = [] := by simpa using h0
          subst hr
          obtain ⟨he1, he2, he3⟩ := hw2.done
          have his : Is out2 (deltaL a b) := delta_is ha hb he1 fun k => by
            rw [he3, hd3]
            by_cases k1 : k ∈ (live a).map (·.1)
            · rw [if_pos k1]
            · rw [if_neg k1]
              by_cases k2 : k ∈ (live b).map (·.1)
              · rw [if_pos k2]
              · rw [if_neg k2]
                unfold dvOf
                rw [← pa, ← pb, aget_none.2 k1, aget_none.2 k2]
          refine Callx.closed (liveList out2 (deltaL a b) hB (by omega) his) rfl rfl (.inr ⟨rfl, rfl⟩) ?_
          simp -implicitDefEqProofs (maxSteps := 2000000) only [push_cast, Nat.reduceEqDiff, Nat.reduceLT, Nat.reduceLeDiff, Nat.reduceAdd, Nat.reduceMul, Nat.reduceSub, Nat.reduceBEq, ↓reduceIte, reduceCtorEq]
          exact Close.of [some 2] rfl rfl rfl rfl (by simp only [push_cast, Nat.reduceEqDiff, Nat.reduceLT, Nat.reduceLeDiff, Nat.reduceAdd, Nat.reduceMul, Nat.reduceSub, Nat.reduceBEq, ↓reduceIte, reduceCtorEq] <;> rfl)
        · rw [List.getElem?_map, Option.map_eq_some_iff] at hip
          obtain ⟨q, hq, rfl⟩ := hip
          obtain ⟨hqA, hfr⟩ := hw2.fresh nka hq
          have hqa : aget q.1 (a.map Entry.pair) = some q.2 := by rw [← pa]; exact (mem_aget nka).1 hqA
          simp -implicitDefEqProofs (maxSteps := 2000000) only [push_cast, Nat.reduceEqDiff, Nat.reduceLT, Nat.reduceLeDiff, Nat.reduceAdd, Nat.reduceMul, Nat.reduceSub, Nat.reduceBEq, ↓reduceIte, reduceCtorEq, lvP, eK, lvT]
          have hk : T.ag [T.s q.1.1, T.s q.1.2] = eK q.1 := rfl
          rw [hk]
          refine look_assoc (ev := T.s) eK_inj nkb (fun p _ => of_eq_true eK_key) (fun v hv => ?_) (fun hv => ?_)
          · simp -implicitDefEqProofs (maxSteps := 2000000) only [push_cast, Nat.reduceEqDiff, Nat.reduceLT, Nat.reduceLeDiff, Nat.reduceAdd, Nat.reduceMul, Nat.reduceSub, Nat.reduceBEq, ↓reduceIte, reduceCtorEq, eK_len, eK_isAg]
            have hg : dvOf a b q.1 = aget q.1 out := by
              rw [hd3, if_pos]
              exact Classical.byContradiction fun hn => by rw [aget_none.2 hn] at hv; cases hv
            have hel := List.length_eraseIdx (l := rest2) (i := i)
            rw [if_pos (List.getElem?_eq_some_iff.1 hq).1] at hel
            have hil := (List.getElem?_eq_some_iff.1 hq).1
            refine ⟨(out2, rest2.eraseIdx i), hw2.skip nka hq hg, by dsimp only; omega, Keep.wk (ids := [some 0, some 1]) ?_⟩
            simp only [push_cast, Nat.reduceEqDiff, Nat.reduceLT, Nat.reduceLeDiff, Nat.reduceAdd, Nat.reduceMul, Nat.reduceSub, Nat.reduceBEq, ↓reduceIte, reduceCtorEq, eraseE_map, lvT] <;> trivial
          · simp -implicitDefEqProofs (maxSteps := 2000000) only [push_cast, Nat.reduceEqDiff, Nat.reduceLT, Nat.reduceLeDiff, Nat.reduceAdd, Nat.reduceMul, Nat.reduceSub, Nat.reduceBEq, ↓reduceIte, reduceCtorEq, eK_len, eK_isAg]
            have hg : dvOf a b q.1 = some [] := dv_gone ha hb hqa (by rw [← pb]; exact hv)
            obtain ⟨hu1, hu2⟩ := upd_assoc (ek := eK) (ev := T.s) eK_inj (k := q.1) (v := []) (l := out2)
            rw [hu1, hu2]
            have hel := List.length_eraseIdx (l := rest2) (i := i)
            rw [if_pos (List.getElem?_eq_some_iff.1 hq).1] at hel
            have hil := (List.getElem?_eq_some_iff.1 hq).1
            refine ⟨fun _ => by omega, (aset q.1 [] out2, rest2.eraseIdx i), hw2.put nka hq hg, by dsimp only; omega, Keep.wk (ids := [some 0, some 1]) ?_⟩
            simp only [push_cast, Nat.reduceEqDiff, Nat.reduceLT, Nat.reduceLeDiff, Nat.reduceAdd, Nat.reduceMul, Nat.reduceSub, Nat.reduceBEq, ↓reduceIte, reduceCtorEq, eraseE_map, lvT] <;> trivial
    · rw [List.getElem?_map, Option.map_eq_some_iff] at hip
      obtain ⟨q, hq, rfl⟩ := hip
      obtain ⟨hqB, hfr⟩ := hw.fresh nkb hq
      have hqb : aget q.1 (b.map Entry.pair) = some q.2 := by rw [← pb]; exact (mem_aget nkb).1 hqB
      have hfi := dv_b (a := a) hb hqb
      simp -implicitDefEqProofs (maxSteps := 2000000) only [push_cast, Nat.reduceEqDiff, Nat.reduceLT, Nat.reduceLeDiff, Nat.reduceAdd, Nat.reduceMul, Nat.reduceSub, Nat.reduceBEq, ↓reduceIte, reduceCtorEq, lvP, eK, lvT]
      have hk : T.ag [T.s q.1.1, T.s q.1.2] = eK q.1 := rfl
      rw [hk]
      refine look_assoc (ev := T.s) eK_inj nka (fun p _ => of_eq_true eK_key) (fun v hv => ?_) (fun hv => ?_)
      · simp -implicitDefEqProofs (maxSteps := 2000000) only [push_cast, Nat.reduceEqDiff, Nat.reduceLT, Nat.reduceLeDiff, Nat.reduceAdd, Nat.reduceMul, Nat.reduceSub, Nat.reduceBEq, ↓reduceIte, reduceCtorEq, eK_len, eK_isAg]
        obtain ⟨hu1, hu2⟩ := upd_assoc (ek := eK) (ev := T.s) eK_inj (k := q.1) (v := q.2) (l := out)
        have hel := List.length_eraseIdx (l := rest) (i := i)
        rw [if_pos (List.getElem?_eq_some_iff.1 hq).1] at hel
        have hil := (List.getElem?_eq_some_iff.1 hq).1
        rw [pa] at hv
        split
        · rename_i hne
          have hg : dvOf a b q.1 = some q.2 := by
            unfold dvOf
            rw [hv]
            dsimp only
            rw [hfi, if_pos (fun h => hne h.symm)]
          rw [hu1, hu2]
          refine ⟨fun _ => by omega, (aset q.1 q.2 out, rest.eraseIdx i), hw.put nkb hq hg, by dsimp only; omega, Keep.wk (ids := [some 0, some 1]) ?_⟩
          simp only [push_cast, Nat.reduceEqDiff, Nat.reduceLT, Nat.reduceLeDiff, Nat.reduceAdd, Nat.reduceMul, Nat.reduceSub, Nat.reduceBEq, ↓reduceIte, reduceCtorEq, eraseE_map, lvT] <;> trivial
        · rename_i heq
          have heq : v = q.2 := by simpa using heq
          have hg : dvOf a b q.1 = none := by
            unfold dvOf
            rw [hv]
            dsimp only
            rw [hfi, heq, if_neg (by simp)]
          refine ⟨(out, rest.eraseIdx i), hw.skip nkb hq hg, by dsimp only; omega, Keep.wk (ids := [some 0, some 1]) ?_⟩
          simp only [push_cast, Nat.reduceEqDiff, Nat.reduceLT, Nat.reduceLeDiff, Nat.reduceAdd, Nat.reduceMul, Nat.reduceSub, Nat.reduceBEq, ↓reduceIte, reduceCtorEq, eraseE_map, lvT] <;> trivial
      · simp -implicitDefEqProofs (maxSteps := 2000000) only [push_cast, Nat.reduceEqDiff, Nat.reduceLT, Nat.reduceLeDiff, Nat.reduceAdd, Nat.reduceMul, Nat.reduceSub, Nat.reduceBEq, ↓reduceIte, reduceCtorEq, eK_len, eK_isAg]
        obtain ⟨hu1, hu2⟩ := upd_assoc (ek := eK) (ev := T.s) eK_inj (k := q.1) (v := q.2) (l := out)
        have hel := List.length_eraseIdx (l := rest) (i := i)
        rw [if_pos (List.getElem?_eq_some_iff.1 hq).1] at hel
        have hil := (List.getElem?_eq_some_iff.1 hq).1
        rw [pa] at hv
        have hg : dvOf a b q.1 = some q.2 := by
          unfold dvOf
          rw [hv]
          exact hqb
        rw [hu1, hu2]
        refine ⟨fun _ => by omega, (aset q.1 q.2 out, rest.eraseIdx i), hw.put nkb hq hg, by dsimp only; omega, Keep.wk (ids := [some 0, some 1]) ?_⟩
        simp only [push_cast, Nat.reduceEqDiff, Nat.reduceLT, Nat.reduceLeDiff, Nat.reduceAdd, Nat.reduceMul, Nat.reduceSub, Nat.reduceBEq, ↓reduceIte, reduceCtorEq, eraseE_map, lvT] <;> trivial

noncomputable def dOk (a b : List Entry) : Bool := stateOk a && stateOk b
noncomputable def dRes (a b : List Entry) : List Entry := if dOk a b = true then deltaL a b else []

theorem implDelta (a b : List Entry) (hB : Bd.B ≤ 2147483648) : Con P0 12 [eEntryS a, eEntryS b] (.tp [.sr 0, .t (.b (dOk a b))]) [enO (dRes a b)] := by
  refine Con.intro (fn := Try.f12) [.tmp 4, .tmp 5] (fun _ => (0, [])) mixed (by kernel_rfl) rfl (by decide) rfl (by rfl) (by kernel_rfl) ?_
  simp -implicitDefEqProofs (maxSteps := 2000000) only [push_cast, Nat.reduceEqDiff, Nat.reduceLT, Nat.reduceLeDiff, Nat.reduceAdd, Nat.reduceMul, Nat.reduceSub, Nat.reduceBEq, ↓reduceIte, reduceCtorEq]
  have := Bd.lo
  refine Callx.closed (implStateOk a) rfl rfl (.inl rfl) ?_
  simp -implicitDefEqProofs (maxSteps := 2000000) only [push_cast, Nat.reduceEqDiff, Nat.reduceLT, Nat.reduceLeDiff, Nat.reduceAdd, Nat.reduceMul, Nat.reduceSub, Nat.reduceBEq, ↓reduceIte, reduceCtorEq]
  cases ha : stateOk a with
  | false =>
    have hp : dOk a b = false := by simp [dOk, ha]
    have hr : dRes a b = [] := by simp [dRes, hp]
    rw [hp, hr]
    simp only [Bool.not_false, if_true]
    exact Close.of [none] rfl rfl rfl (by simp only [push_cast, Nat.reduceEqDiff, Nat.reduceLT, Nat.reduceLeDiff, Nat.reduceAdd, Nat.reduceMul, Nat.reduceSub, Nat.reduceBEq, ↓reduceIte, reduceCtorEq] <;> rfl) (by simp only [push_cast, Nat.reduceEqDiff, Nat.reduceLT, Nat.reduceLeDiff, Nat.reduceAdd, Nat.reduceMul, Nat.reduceSub, Nat.reduceBEq, ↓reduceIte, reduceCtorEq, List.map_nil] <;> rfl)
  | true =>
  simp only [Bool.not_true, Bool.false_eq_true, if_false]
  refine Callx.closed (implStateOk b) rfl rfl (.inl rfl) ?_
  simp -implicitDefEqProofs (maxSteps := 2000000) only [push_cast, Nat.reduceEqDiff, Nat.reduceLT, Nat.reduceLeDiff, Nat.reduceAdd, Nat.reduceMul, Nat.reduceSub, Nat.reduceBEq, ↓reduceIte, reduceCtorEq]
  cases hb : stateOk b with
  | false =>
    have hp : dOk a b = false := by simp [dOk, hb]
    have hr : dRes a b = [] := by simp [dRes, hp]
    rw [hp, hr]
    simp only [Bool.not_false, if_true]
    exact Close.of [none] rfl rfl rfl (by simp only [push_cast, Nat.reduceEqDiff, Nat.reduceLT, Nat.reduceLeDiff, Nat.reduceAdd, Nat.reduceMul, Nat.reduceSub, Nat.reduceBEq, ↓reduceIte, reduceCtorEq] <;> rfl) (by simp only [push_cast, Nat.reduceEqDiff, Nat.reduceLT, Nat.reduceLeDiff, Nat.reduceAdd, Nat.reduceMul, Nat.reduceSub, Nat.reduceBEq, ↓reduceIte, reduceCtorEq, List.map_nil] <;> rfl)
  | true =>
  simp only [Bool.not_true, Bool.false_eq_true, if_false]
  obtain ⟨_, oa2, _⟩ := stateOk_ord ha
  obtain ⟨_, ob2, _⟩ := stateOk_ord hb
  have hp : dOk a b = true := by simp [dOk, ha, hb]
  have hr : dRes a b = deltaL a b := by simp [dRes, hp]
  rw [hp, hr]
  refine Callx.closed (deltaOf a b hB ha hb) rfl rfl (.inl rfl) ?_
  simp -implicitDefEqProofs (maxSteps := 2000000) only [push_cast, Nat.reduceEqDiff, Nat.reduceLT, Nat.reduceLeDiff, Nat.reduceAdd, Nat.reduceMul, Nat.reduceSub, Nat.reduceBEq, ↓reduceIte, reduceCtorEq]
  exact Close.of [some 0] rfl rfl rfl (by simp only [push_cast, Nat.reduceEqDiff, Nat.reduceLT, Nat.reduceLeDiff, Nat.reduceAdd, Nat.reduceMul, Nat.reduceSub, Nat.reduceBEq, ↓reduceIte, reduceCtorEq] <;> rfl) (by simp only [push_cast, Nat.reduceEqDiff, Nat.reduceLT, Nat.reduceLeDiff, Nat.reduceAdd, Nat.reduceMul, Nat.reduceSub, Nat.reduceBEq, ↓reduceIte, reduceCtorEq, List.map_nil] <;> rfl)

end Go.Proofs.Ythhgcklidfilfaa.BX
