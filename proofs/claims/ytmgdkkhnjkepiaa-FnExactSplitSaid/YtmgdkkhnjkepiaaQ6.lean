/-
  Part 6 of what LFnExactSplit leans on: its texts, merged by a program (prune.py), with what it needs alone.
-/
import Derived.Test.YtmgdkkhnjkepiaaQ5
namespace Go.Proofs.Ytmgdkkhnjkepiaa.BX
set_option linter.unusedSectionVars false
set_option linter.unusedSimpArgs false
set_option linter.unusedVariables false
open Go Go.RowKit
set_option maxRecDepth 20000
set_option maxHeartbeats 400000
variable [Bd]
theorem mapsKeys (l : List (List UInt8)) (vs : List T) : ConM P0 53 [.mr 0] [.map 9 3 (.own .leaf) (l.map T.s) vs none] (.fn 82 [.rf 1 0])
    [.map 9 3 (.own .leaf) (l.map T.s) vs none, .box (.mr 0)] := by
  refine ConM.intro (fn := Try.f53) [.tmp 2] (fun _ => (0, [])) mixed (by kernel_rfl) rfl (by decide) rfl (by rfl) (by kernel_rfl) ?_
  simp -implicitDefEqProofs (maxSteps := 2000000) only [push_cast, Nat.reduceEqDiff, Nat.reduceLT, Nat.reduceLeDiff, Nat.reduceAdd, Nat.reduceMul, Nat.reduceSub, Nat.reduceBEq, ↓reduceIte, reduceCtorEq]
  exact Close.of [some 0, some 1] rfl rfl rfl (by simp only [push_cast, Nat.reduceEqDiff, Nat.reduceLT, Nat.reduceLeDiff, Nat.reduceAdd, Nat.reduceMul, Nat.reduceSub, Nat.reduceBEq, ↓reduceIte, reduceCtorEq] <;> rfl) (by simp only [push_cast, Nat.reduceEqDiff, Nat.reduceLT, Nat.reduceLeDiff, Nat.reduceAdd, Nat.reduceMul, Nat.reduceSub, Nat.reduceBEq, ↓reduceIte, reduceCtorEq] <;> rfl)
def ways12 : OT := (.step 0 (.step 1 (.step 2 (.step 3 (.step 4 (.step 5 (.step 6 .done .done) .done) .done) (.step 4 (.step 3 (.step 5 (.step 6 .done .done) .done) (.step 5 (.step 3 (.step 6 .done .done) .done) .done)) .done)) (.step 4 (.step 2 (.step 3 (.step 5 (.step 6 .done .done) .done) (.step 5 (.step 3 (.step 6 .done .done) .done) .done)) (.step 5 (.step 2 (.step 3 (.step 6 .done .done) .done) .done) .done)) .done)) .done) (.step 1 (.step 0 (.step 2 (.step 3 (.step 4 (.step 5 (.step 6 .done .done) .done) .done) (.step 4 (.step 3 (.step 5 (.step 6 .done .done) .done) (.step 5 (.step 3 (.step 6 .done .done) .done) .done)) .done)) (.step 4 (.step 2 (.step 3 (.step 5 (.step 6 .done .done) .done) (.step 5 (.step 3 (.step 6 .done .done) .done) .done)) (.step 5 (.step 2 (.step 3 (.step 6 .done .done) .done) .done) .done)) .done)) .done) .done))
abbrev cmO (m : List (Entry × Int)) : Ob := .map 38 3 (.own .leaf) (m.map fun p => eEntry p.1) (m.map fun p => T.i .i64 p.2) none
abbrev omO (m : List (List UInt8 × Int)) : Ob := .map 9 3 (.own .leaf) (m.map fun p => T.s p.1) (m.map fun p => T.i .i64 p.2) none
def cpr (p : Entry × Int) : T × T := (T.ag [T.s p.1.typ, T.s p.1.key, T.s p.1.id], T.i .i64 p.2)
theorem eEntry_inj : ∀ a b : Entry, eEntry a = eEntry b → a = b := by
  intro a b h
  cases a; cases b
  simpa [eEntry] using h
theorem eEntry_key {e : Entry} : isKey (true, [.str, .str, .str]) (eEntry e) := by simp [eEntry, isKey, keyCells, keyCell]
theorem lookE {m : List (Entry × Int)} (hn : (m.map (·.1)).Nodup) {e : Entry} {K : AV → Prop} (k : K (.t (.i .i64 ((aget e m).getD 0)))) : lookM (true, [.str, .str, .str]) (Value.int .i64 0) (T.ag [T.s e.typ, T.s e.key, T.s e.id]) false (.own .leaf) (m.map fun p => eEntry p.1) (m.map fun p => T.i .i64 p.2) K := by
  refine look_assoc (ek := eEntry) (ev := T.i .i64) (k := e) eEntry_inj hn (fun p _ => eEntry_key) (fun v hv => ?_) (fun hv => ?_)
  · rw [hv] at k; exact k
  · rw [hv] at k; exact k
theorem implSplit (ss : List (List Entry)) (hD : ¬ Bd.D) (hB : Bd.B ≤ 2147483648) : Con P0 16 [eEntrySS ss] (.tp [.sr 0, .sr 1, .t (.b (splOk ss))]) [enO (splS ss), txO (splO ss)] := by
  refine Con.intro (fn := Try.f16) [.tmp 2, .tmp 3, .tmp 4] (fun i => if i = 1000013 then (999999, []) else if i = 12 then (999999, []) else (0, [])) mixed (by kernel_rfl) rfl (by decide) rfl (by rfl) (by kernel_rfl) ?_
  simp -implicitDefEqProofs (maxSteps := 2000000) only [push_cast, Nat.reduceEqDiff, Nat.reduceLT, Nat.reduceLeDiff, Nat.reduceAdd, Nat.reduceMul, Nat.reduceSub, Nat.reduceBEq, ↓reduceIte, reduceCtorEq]
  have := Bd.lo
  intro hl
  refine iteI (fun h => ?_) (fun h => ?_)
  · have ho : splOk ss = false := by unfold splOk; rw [decide_eq_false (by omega)]; rfl
    rw [show splS ss = [] by unfold splS; rw [ho]; rfl, show splO ss = [] by unfold splO; rw [ho]; rfl, ho]
    exact Close.of [none, none] rfl rfl rfl (by simp only [push_cast, Nat.reduceEqDiff, Nat.reduceLT, Nat.reduceLeDiff, Nat.reduceAdd, Nat.reduceMul, Nat.reduceSub, Nat.reduceBEq, ↓reduceIte, reduceCtorEq] <;> rfl) (by simp only [push_cast, Nat.reduceEqDiff, Nat.reduceLT, Nat.reduceLeDiff, Nat.reduceAdd, Nat.reduceMul, Nat.reduceSub, Nat.reduceBEq, ↓reduceIte, reduceCtorEq] <;> exact ⟨rfl, rfl⟩)
  intro _
  refine WL.loop (ι := Nat × List (Entry × Int)) (D := (fun i => if i = 1000013 then (999999, []) else if i = 12 then (999999, []) else (0, []))) (fun q => q.1 ≤ ss.length ∧ (∀ s ∈ ss.take q.1, stateOk s = true) ∧ Cnt q.2 (ss.take q.1).flatten) (fun q => ⟨69, [(0, .t (eEntrySS ss)), (5, .mr 0), (18, .t (eEntrySS ss)), (19, .t (.i .i64 ss.length)), (20, .t (.i .i64 q.1))], [cmO q.2]⟩) (fun q => ss.length - q.1) mixed (by kernel_rfl) (0, []) ⟨by dsimp only; omega, by simp, Cnt.nil⟩ (Keep.wk (ids := [some 0]) ?_) ?_
  · simp only [push_cast, Nat.reduceEqDiff, Nat.reduceLT, Nat.reduceLeDiff, Nat.reduceAdd, Nat.reduceMul, Nat.reduceSub, Nat.reduceBEq, ↓reduceIte, reduceCtorEq, List.map_nil] <;> trivial
  rintro ⟨i, m⟩ ⟨hi, hok, hm⟩
  dsimp only at hi hok hm ⊢
  simp -implicitDefEqProofs (maxSteps := 2000000) only [push_cast, Nat.reduceEqDiff, Nat.reduceLT, Nat.reduceLeDiff, Nat.reduceAdd, Nat.reduceMul, Nat.reduceSub, Nat.reduceBEq, ↓reduceIte, reduceCtorEq, eEntry]
  have hbnd : ∀ t ∈ ss.take i, t.length ≤ 300 := fun t ht => by have := (stateOk_ord (hok t ht)).2.1; omega
  have hfl := flat_len hbnd
  rw [List.length_take] at hfl
  refine iteI (fun hlt => ⟨by omega, fun s hs => ?_⟩) (fun hlt => ?_)
  · rw [Int.toNat_natCast] at hs
    refine Callx.closed (implStateOk s) rfl rfl (.inl rfl) ?_
    simp -implicitDefEqProofs (maxSteps := 2000000) only [push_cast, Nat.reduceEqDiff, Nat.reduceLT, Nat.reduceLeDiff, Nat.reduceAdd, Nat.reduceMul, Nat.reduceSub, Nat.reduceBEq, ↓reduceIte, reduceCtorEq]
    refine iteI (fun hno => ?_) (fun hyes => fun _ => ?_)
    · have ho : splOk ss = false := by
        unfold splOk
        rw [Bool.and_eq_false_iff]
        exact .inr (List.all_eq_false.2 ⟨s, List.mem_of_getElem? hs, by simpa using hno⟩)
      rw [show splS ss = [] by unfold splS; rw [ho]; rfl, show splO ss = [] by unfold splO; rw [ho]; rfl, ho]
      exact Close.of [none, none] rfl rfl rfl (by simp only [push_cast, Nat.reduceEqDiff, Nat.reduceLT, Nat.reduceLeDiff, Nat.reduceAdd, Nat.reduceMul, Nat.reduceSub, Nat.reduceBEq, ↓reduceIte, reduceCtorEq] <;> rfl) (by simp only [push_cast, Nat.reduceEqDiff, Nat.reduceLT, Nat.reduceLeDiff, Nat.reduceAdd, Nat.reduceMul, Nat.reduceSub, Nat.reduceBEq, ↓reduceIte, reduceCtorEq] <;> exact ⟨rfl, rfl⟩)
    have hso : stateOk s = true := by simpa using hyes
    have hsl := (stateOk_ord hso).2.1
    have hsn := flat_snoc hs
    refine WL.loop (ι := Nat × List (Entry × Int)) (D := (fun i => if i = 1000013 then (999999, []) else if i = 12 then (999999, []) else (0, []))) (fun q => q.1 ≤ s.length ∧ Cnt q.2 ((ss.take i).flatten ++ s.take q.1)) (fun q => ⟨69, [(0, .t (eEntrySS ss)), (5, .mr 0), (18, .t (eEntrySS ss)), (19, .t (.i .i64 ss.length)), (20, .t (.i .i64 i)), (27, .t (eEntryS s)), (28, .t (.i .i64 s.length)), (29, .t (.i .i64 q.1))], [cmO q.2]⟩) (fun q => s.length - q.1) mixed (by kernel_rfl) (0, m) ⟨by dsimp only; omega, by dsimp only; rw [List.take_zero, List.append_nil]; exact hm⟩ (Keep.wk (ids := [some 0]) ?_) ?_
    · simp only [push_cast, Nat.reduceEqDiff, Nat.reduceLT, Nat.reduceLeDiff, Nat.reduceAdd, Nat.reduceMul, Nat.reduceSub, Nat.reduceBEq, ↓reduceIte, reduceCtorEq] <;> trivial
    rintro ⟨j, m⟩ ⟨hj, hm⟩
    dsimp only at hj hm ⊢
    simp -implicitDefEqProofs (maxSteps := 2000000) only [push_cast, Nat.reduceEqDiff, Nat.reduceLT, Nat.reduceLeDiff, Nat.reduceAdd, Nat.reduceMul, Nat.reduceSub, Nat.reduceBEq, ↓reduceIte, reduceCtorEq, eEntry]
    refine iteI (fun hlj => ?_) (fun hlj => ?_)
    · obtain ⟨e, he⟩ : ∃ e, s[j]? = some e := ⟨_, List.getElem?_eq_getElem (by omega)⟩
      obtain ⟨c, hc⟩ : ∃ c, (aget e m).getD 0 = c := ⟨_, rfl⟩
      have hst := hm.step e
      rw [hc] at hst
      refine W.join (ι := Unit) (D := (fun i => if i = 1000013 then (999999, []) else if i = 12 then (999999, []) else (0, []))) (fun _ => True) (fun _ => ⟨69, [(0, .t (eEntrySS ss)), (5, .mr 0), (18, .t (eEntrySS ss)), (19, .t (.i .i64 ss.length)), (20, .t (.i .i64 i)), (27, .t (eEntryS s)), (28, .t (.i .i64 s.length)), (29, .t (.i .i64 j))], [cmO (aset e (c + 1) m)]⟩) mixed (by kernel_rfl) ?_ (fun _ _ => ?_)
      · simp -implicitDefEqProofs (maxSteps := 2000000) only [push_cast, Nat.reduceEqDiff, Nat.reduceLT, Nat.reduceLeDiff, Nat.reduceAdd, Nat.reduceMul, Nat.reduceSub, Nat.reduceBEq, ↓reduceIte, reduceCtorEq, eEntry]
        refine ⟨by omega, fun e' he' => ?_⟩
        rw [Int.toNat_natCast, he] at he'
        cases he'
        have hu1 : updK (m.map fun p => eEntry p.1) (T.ag [T.s e.typ, T.s e.key, T.s e.id]) = (aset e c m).map (fun p => eEntry p.1) ∧ updV (m.map fun p => eEntry p.1) (m.map fun p => T.i .i64 p.2) (T.ag [T.s e.typ, T.s e.key, T.s e.id]) (T.i .i64 c) = (aset e c m).map fun p => T.i .i64 p.2 := upd_assoc (ek := eEntry) (ev := T.i .i64) eEntry_inj (k := e) (v := c) (l := m)
        have hu2 : updK ((aset e c m).map fun p => eEntry p.1) (T.ag [T.s e.typ, T.s e.key, T.s e.id]) = (aset e (c + 1) (aset e c m)).map (fun p => eEntry p.1) ∧ updV ((aset e c m).map fun p => eEntry p.1) ((aset e c m).map fun p => T.i .i64 p.2) (T.ag [T.s e.typ, T.s e.key, T.s e.id]) (T.i .i64 (c + 1)) = (aset e (c + 1) (aset e c m)).map fun p => T.i .i64 p.2 := upd_assoc (ek := eEntry) (ev := T.i .i64) eEntry_inj (k := e) (v := c + 1) (l := aset e c m)
        rw [aset_twice] at hu2
        have hg : getV (m.map fun p => eEntry p.1) (m.map fun p => T.i .i64 p.2) (T.ag [T.s e.typ, T.s e.key, T.s e.id]) (T.i .i64 0) = some (T.i .i64 c) := by
          rw [← hc]
          exact getV_assoc (ek := eEntry) (ev := T.i .i64) eEntry_inj (k := e) (z := (0 : Int)) (l := m) hm.1
        have hks : (aset e c m).map (fun p => eEntry p.1) = (aset e (c + 1) m).map fun p => eEntry p.1 := by
          have := congrArg (List.map eEntry) (aset_keys2 (k := e) (v := c) (v' := c + 1) (l := m))
          rwa [List.map_map, List.map_map] at this
        have hml := hm.len
        have hpl : ((ss.take i).flatten ++ s.take j).length ≤ 6300 := by rw [List.length_append, List.length_take]; omega
        have hcb : 0 ≤ c ∧ c ≤ 6300 := by
          rw [← hc, hm.2 e]
          have hcl := List.count_le_length (a := e) (l := (ss.take i).flatten ++ s.take j)
          generalize ((ss.take i).flatten ++ s.take j).count e = z at *
          by_cases hz : z = 0
          · rw [if_pos hz]; simp
          · rw [if_neg hz]; simp; omega
        have hmn' : ((aset e c m).map (·.1)).Nodup := aset_nodup hm.1
        have hc' : (aget e (aset e c m)).getD 0 = c := by rw [aget_set, if_pos rfl]; rfl
        generalize hK : cutK _ _ _ _ = K
        have hKn : ∀ σ', Wk 0 σ' (⟨69, [(0, .t (eEntrySS ss)), (5, .mr 0), (18, .t (eEntrySS ss)), (19, .t (.i .i64 ss.length)), (20, .t (.i .i64 i)), (27, .t (eEntryS s)), (28, .t (.i .i64 s.length)), (29, .t (.i .i64 j))], [cmO (aset e (c + 1) m)]⟩ : St) → K .nrm σ' := fun σ' hw => by rw [← hK]; exact ⟨(), trivial, hw⟩
        clear hK
        have hk1 : ∀ p ∈ m, isKey (true, [.str, .str, .str]) (eEntry p.1) := fun p _ => eEntry_key
        have l1 : ∀ {K : AV → Prop}, K (.t (.i .i64 c)) → lookM (true, [.str, .str, .str]) (Value.int .i64 0) (T.ag [T.s e.typ, T.s e.key, T.s e.id]) false (.own .leaf) (m.map fun p => eEntry p.1) (m.map fun p => T.i .i64 p.2) K := fun k => lookE hm.1 (by rw [hc]; exact k)
        have l2 : ∀ {K : AV → Prop}, K (.t (.i .i64 c)) → lookM (true, [.str, .str, .str]) (Value.int .i64 0) (T.ag [T.s e.typ, T.s e.key, T.s e.id]) false (.own .leaf) ((aset e c m).map fun p => eEntry p.1) ((aset e c m).map fun p => T.i .i64 p.2) K := fun k => lookE hmn' (by rw [hc']; exact k)
        have hkk1 : ∀ x ∈ (m.map fun p => eEntry p.1), isKey (true, [.str, .str, .str]) x := fun x hx => by obtain ⟨p, hp, rfl⟩ := List.mem_map.1 hx; exact eEntry_key
        have hkk2 : ∀ x ∈ ((aset e c m).map fun p => eEntry p.1), isKey (true, [.str, .str, .str]) x := fun x hx => by obtain ⟨p, hp, rfl⟩ := List.mem_map.1 hx; exact eEntry_key
        have hlen1 : (m.map fun p => eEntry p.1).length + 1 < Bd.B := by rw [List.length_map]; omega
        have hlen2 : ((aset e (c + 1) m).map fun p => eEntry p.1).length < Bd.B := by rw [List.length_map]; have := hst.len; rw [List.length_append, List.length_singleton] at this; omega
        unfold cmO at hKn ⊢
        rw [hks] at hu1 hu2 hkk2 l2
        clear hc hc' hst hks hml hpl hmn' hm he
        generalize (m.map fun p => eEntry p.1) = ks at *
        generalize (m.map fun p => T.i .i64 p.2) = vs at *
        generalize ((aset e (c + 1) m).map fun p => eEntry p.1) = ks2 at *
        generalize ((aset e c m).map fun p => T.i .i64 p.2) = vs1 at *
        generalize ((aset e (c + 1) m).map fun p => T.i .i64 p.2) = vs2 at *
        have hc1 : inI64 (c + 1) := by unfold inI64; omega
        obtain ⟨u1, u2⟩ := hu1
        obtain ⟨u3, u4⟩ := hu2
        refine WL.tree ways12 mixed (by kernel_rfl) ?_ (by decide)
        unfold ways12
        simp -implicitDefEqProofs (maxSteps := 2000000) only [push_cast, Nat.reduceEqDiff, Nat.reduceLT, Nat.reduceLeDiff, Nat.reduceAdd, Nat.reduceMul, Nat.reduceSub, Nat.reduceBEq, ↓reduceIte, reduceCtorEq]
        repeat' first
          | with_reducible refine And.intro ?_ ?_
          | with_reducible refine l1 ?_
          | with_reducible refine l2 ?_
          | with_reducible exact hkk1
          | with_reducible exact hc1
          | with_reducible exact fun _ => hlen1
          | (with_reducible intro n v hv; rw [hg] at hv; cases hv; rw [u1, u2])
          | with_reducible exact trivial
          | (with_reducible refine hKn _ (Keep.wk (ids := [some 0]) ?_); simp only [push_cast, Nat.reduceEqDiff, Nat.reduceLT, Nat.reduceLeDiff, Nat.reduceAdd, Nat.reduceMul, Nat.reduceSub, Nat.reduceBEq, ↓reduceIte, reduceCtorEq, u3, u4]; done)
          | simp -implicitDefEqProofs (maxSteps := 2000000) only [push_cast, Nat.reduceEqDiff, Nat.reduceLT, Nat.reduceLeDiff, Nat.reduceAdd, Nat.reduceMul, Nat.reduceSub, Nat.reduceBEq, ↓reduceIte, reduceCtorEq, u3, u4]
          | fail
      · simp -implicitDefEqProofs (maxSteps := 2000000) only [push_cast, Nat.reduceEqDiff, Nat.reduceLT, Nat.reduceLeDiff, Nat.reduceAdd, Nat.reduceMul, Nat.reduceSub, Nat.reduceBEq, ↓reduceIte, reduceCtorEq]
        have htk : (ss.take i).flatten ++ s.take (j + 1) = (ss.take i).flatten ++ s.take j ++ [e] := by rw [List.take_add_one, he, List.append_assoc]; rfl
        refine ⟨by unfold inI64; omega, (j + 1, aset e (c + 1) m), ⟨by dsimp only; omega, ?_⟩, by dsimp only; omega, Keep.wk (ids := [some 0]) ?_⟩
        · dsimp only; rw [htk]; exact hst
        · simp only [push_cast, Nat.reduceEqDiff, Nat.reduceLT, Nat.reduceLeDiff, Nat.reduceAdd, Nat.reduceMul, Nat.reduceSub, Nat.reduceBEq, ↓reduceIte, reduceCtorEq] <;> trivial
    · have hj2 : j = s.length := by omega
      subst hj2
      rw [List.take_length] at hm
      refine ⟨by unfold inI64; omega, (i + 1, m), ⟨by dsimp only; omega, ?_, by dsimp only; rw [hsn]; exact hm⟩, by dsimp only; omega, Keep.wk (ids := [some 0]) ?_⟩
      · dsimp only
        intro t ht
        rw [List.take_add_one, hs] at ht
        rcases List.mem_append.1 ht with ht | ht
        · exact hok t ht
        · simp at ht; subst ht; exact hso
      · simp only [push_cast, Nat.reduceEqDiff, Nat.reduceLT, Nat.reduceLeDiff, Nat.reduceAdd, Nat.reduceMul, Nat.reduceSub, Nat.reduceBEq, ↓reduceIte, reduceCtorEq] <;> trivial
  · have hi : i = ss.length := by omega
    subst hi
    rw [List.take_length] at hok hfl hm
    have ho : splOk ss = true := by
      unfold splOk
      rw [decide_eq_true (by omega), Bool.true_and, List.all_eq_true]
      exact hok
    rw [show splS ss = sameL ss ss.flatten by unfold splS; rw [ho]; rfl, show splO ss = sset (othL ss ss.flatten) by unfold splO; rw [ho]; rfl, ho]
    simp -implicitDefEqProofs (maxSteps := 2000000) only [push_cast, Nat.reduceEqDiff, Nat.reduceLT, Nat.reduceLeDiff, Nat.reduceAdd, Nat.reduceMul, Nat.reduceSub, Nat.reduceBEq, ↓reduceIte, reduceCtorEq]
    refine ⟨rfl, by omega, ?_⟩
    have hz : ((m.map fun p => T.ag [T.s p.1.typ, T.s p.1.key, T.s p.1.id]).zip (m.map fun p => T.i .i64 p.2)) = m.map cpr := List.zip_map' ..
    rw [hz]
    have hml := hm.len
    have hfl2 : ss.flatten.length ≤ 6000 := by omega
    refine WL.loop (ι := List Entry × List (List UInt8 × Int) × List (Entry × Int) × List (Entry × Int)) (D := (fun i => if i = 1000013 then (999999, []) else if i = 12 then (999999, []) else (0, []))) (fun x => List.Perm (x.2.2.2 ++ x.2.2.1) m ∧ x.1 = (x.2.2.2.filter fun p => decide (p.2 = (ss.length : Int))).map (·.1) ∧ Cnt x.2.1 ((x.2.2.2.filter fun p => !decide (p.2 = (ss.length : Int))).map (·.1.id))) (fun x => ⟨69, [(0, .t (eEntrySS ss)), (10, .sr 0), (11, .mr 1), (44, .it 2)], [enO x.1, omO x.2.1, .iter none (x.2.2.1.map cpr)]⟩) (fun x => x.2.2.1.length) mixed (by kernel_rfl) ([], [], m, []) ⟨by simp, by simp, by simpa using Cnt.nil⟩ (Keep.wk (ids := [some 1, some 2, some 3]) ?_) ?_
    · simp only [push_cast, Nat.reduceEqDiff, Nat.reduceLT, Nat.reduceLeDiff, Nat.reduceAdd, Nat.reduceMul, Nat.reduceSub, Nat.reduceBEq, ↓reduceIte, reduceCtorEq, List.map_nil] <;> trivial
    rintro ⟨same, oth, rest, done⟩ ⟨hp, hsame, hoth⟩
    dsimp only at hp hsame hoth ⊢
    have hpl := hp.length_eq
    rw [List.length_append] at hpl
    have hol := hoth.len
    have hfo : ((done.filter fun p => !decide (p.2 = (ss.length : Int))).map (·.1.id)).length ≤ done.length := by rw [List.length_map]; exact List.length_filter_le ..
    have hsl : same.length ≤ done.length := by rw [hsame, List.length_map]; exact List.length_filter_le ..
    simp -implicitDefEqProofs (maxSteps := 2000000) only [push_cast, Nat.reduceEqDiff, Nat.reduceLT, Nat.reduceLeDiff, Nat.reduceAdd, Nat.reduceMul, Nat.reduceSub, Nat.reduceBEq, ↓reduceIte, reduceCtorEq]
    refine ⟨fun h0 => ?_, fun k p hip => ?_⟩
    · have hr : rest = [] := by simpa using h0
      subst hr
      rw [List.append_nil] at hp
      simp -implicitDefEqProofs (maxSteps := 2000000) only [push_cast, Nat.reduceEqDiff, Nat.reduceLT, Nat.reduceLeDiff, Nat.reduceAdd, Nat.reduceMul, Nat.reduceSub, Nat.reduceBEq, ↓reduceIte, reduceCtorEq]
      obtain ⟨hd1, hd2⟩ := split_done hok hm (out := same) (om := oth.map (·.1)) (by rw [hsame]; exact (hp.filter _).map _) hoth.1 (fun x => by
        rw [hoth.keys, List.mem_map]
        constructor
        · rintro ⟨p, hp1, hp2⟩
          rw [List.mem_filter] at hp1
          exact ⟨p, hp.mem_iff.1 hp1.1, by simpa using hp1.2, hp2⟩
        · rintro ⟨p, hp1, hp2, hp3⟩
          exact ⟨p, List.mem_filter.2 ⟨hp.mem_iff.2 hp1, by simpa using hp2⟩, hp3⟩)
      refine Callx.hand [0] (sortE same (sameL ss ss.flatten) hB hd1 (sameL_len (ss := ss) (p := ss.flatten)).1) (by decide) (by simp only [push_cast, Nat.reduceEqDiff, Nat.reduceLT, Nat.reduceLeDiff, Nat.reduceAdd, Nat.reduceMul, Nat.reduceSub, Nat.reduceBEq, ↓reduceIte, reduceCtorEq]) rfl rfl (by simp only [push_cast, Nat.reduceEqDiff, Nat.reduceLT, Nat.reduceLeDiff, Nat.reduceAdd, Nat.reduceMul, Nat.reduceSub, Nat.reduceBEq, ↓reduceIte, reduceCtorEq] <;> rfl) rfl (.inr ⟨rfl, by simp only [push_cast, Nat.reduceEqDiff, Nat.reduceLT, Nat.reduceLeDiff, Nat.reduceAdd, Nat.reduceMul, Nat.reduceSub, Nat.reduceBEq, ↓reduceIte, reduceCtorEq]⟩) ?_
      simp -implicitDefEqProofs (maxSteps := 2000000) only [push_cast, Nat.reduceEqDiff, Nat.reduceLT, Nat.reduceLeDiff, Nat.reduceAdd, Nat.reduceMul, Nat.reduceSub, Nat.reduceBEq, ↓reduceIte, reduceCtorEq]
      have hot : (oth.map fun p => T.s p.1) = (oth.map (·.1)).map T.s := by rw [List.map_map]; rfl
      unfold omO
      rw [hot, ← hd2]
      refine Callx.hand [1] (mapsKeys (oth.map (·.1)) (oth.map fun p => T.i .i64 p.2)) (by decide) (by simp only [push_cast, Nat.reduceEqDiff, Nat.reduceLT, Nat.reduceLeDiff, Nat.reduceAdd, Nat.reduceMul, Nat.reduceSub, Nat.reduceBEq, ↓reduceIte, reduceCtorEq]) rfl rfl (by simp only [push_cast, Nat.reduceEqDiff, Nat.reduceLT, Nat.reduceLeDiff, Nat.reduceAdd, Nat.reduceMul, Nat.reduceSub, Nat.reduceBEq, ↓reduceIte, reduceCtorEq] <;> rfl) rfl (.inr ⟨rfl, by simp only [push_cast, Nat.reduceEqDiff, Nat.reduceLT, Nat.reduceLeDiff, Nat.reduceAdd, Nat.reduceMul, Nat.reduceSub, Nat.reduceBEq, ↓reduceIte, reduceCtorEq]⟩) ?_
      simp -implicitDefEqProofs (maxSteps := 2000000) only [push_cast, Nat.reduceEqDiff, Nat.reduceLT, Nat.reduceLeDiff, Nat.reduceAdd, Nat.reduceMul, Nat.reduceSub, Nat.reduceBEq, ↓reduceIte, reduceCtorEq]
      refine Callx.hand [3, 1] (sortedKeys (oth.map (·.1)) (oth.map fun p => T.i .i64 p.2) hD hB) (by decide) (by simp only [push_cast, Nat.reduceEqDiff, Nat.reduceLT, Nat.reduceLeDiff, Nat.reduceAdd, Nat.reduceMul, Nat.reduceSub, Nat.reduceBEq, ↓reduceIte, reduceCtorEq]) rfl rfl (by simp only [push_cast, Nat.reduceEqDiff, Nat.reduceLT, Nat.reduceLeDiff, Nat.reduceAdd, Nat.reduceMul, Nat.reduceSub, Nat.reduceBEq, ↓reduceIte, reduceCtorEq] <;> rfl) rfl (.inr ⟨rfl, by simp only [push_cast, Nat.reduceEqDiff, Nat.reduceLT, Nat.reduceLeDiff, Nat.reduceAdd, Nat.reduceMul, Nat.reduceSub, Nat.reduceBEq, ↓reduceIte, reduceCtorEq]⟩) ?_
      simp -implicitDefEqProofs (maxSteps := 2000000) only [push_cast, Nat.reduceEqDiff, Nat.reduceLT, Nat.reduceLeDiff, Nat.reduceAdd, Nat.reduceMul, Nat.reduceSub, Nat.reduceBEq, ↓reduceIte, reduceCtorEq]
      exact Close.of [some 0, some 4] rfl rfl rfl (by simp only [push_cast, Nat.reduceEqDiff, Nat.reduceLT, Nat.reduceLeDiff, Nat.reduceAdd, Nat.reduceMul, Nat.reduceSub, Nat.reduceBEq, ↓reduceIte, reduceCtorEq] <;> rfl) (by simp only [push_cast, Nat.reduceEqDiff, Nat.reduceLT, Nat.reduceLeDiff, Nat.reduceAdd, Nat.reduceMul, Nat.reduceSub, Nat.reduceBEq, ↓reduceIte, reduceCtorEq] <;> exact ⟨rfl, rfl⟩)
    · rw [List.getElem?_map, Option.map_eq_some_iff] at hip
      obtain ⟨q, hq, rfl⟩ := hip
      have hil := (List.getElem?_eq_some_iff.1 hq).1
      have hep := erase_pick hq
      have hel := List.length_eraseIdx (l := rest) (i := k)
      rw [if_pos hil] at hel
      have hpn : List.Perm ((done ++ [q]) ++ rest.eraseIdx k) m := by
        rw [List.append_assoc]
        exact ((hep.symm).append_left _).trans hp
      simp -implicitDefEqProofs (maxSteps := 2000000) only [push_cast, Nat.reduceEqDiff, Nat.reduceLT, Nat.reduceLeDiff, Nat.reduceAdd, Nat.reduceMul, Nat.reduceSub, Nat.reduceBEq, ↓reduceIte, reduceCtorEq, cpr]
      refine fun _ => iteI (fun h1 => ?_) (fun h1 => ?_)
      · refine ⟨rfl, by omega, rfl, by omega, by omega, (same ++ [q.1], oth, rest.eraseIdx k, done ++ [q]), ⟨hpn, ?_, ?_⟩, by dsimp only; omega, Keep.wk (ids := [some 5, some 1, some 2]) ?_⟩
        · dsimp only
          rw [hsame, List.filter_append, List.map_append]
          simp [h1]
        · dsimp only
          rw [List.filter_append]
          simpa [h1] using hoth
        · simp only [push_cast, Nat.reduceEqDiff, Nat.reduceLT, Nat.reduceLeDiff, Nat.reduceAdd, Nat.reduceMul, Nat.reduceSub, Nat.reduceBEq, ↓reduceIte, reduceCtorEq, eraseE_map, List.map_append] <;> exact ⟨rfl, rfl⟩
      · have hfn : (done ++ [q]).filter (fun p => !decide (p.2 = (ss.length : Int))) = done.filter (fun p => !decide (p.2 = (ss.length : Int))) ++ [q] := by rw [List.filter_append]; simp [h1]
        obtain ⟨c, hc⟩ : ∃ c, (aget q.1.id oth).getD 0 = c := ⟨_, rfl⟩
        have hst := hoth.step q.1.id
        rw [hc] at hst
        have hcb := hoth.val q.1.id
        rw [hc] at hcb
        refine look_assoc (ek := T.s) (ev := T.i .i64) (k := q.1.id) s_inj hoth.1 (fun p _ => by simp [isKey, keyCells, keyCell]) (fun v hv => ?_) (fun hv => ?_)
        · rw [hv] at hc
          dsimp only [Option.getD] at hc
          subst hc
          obtain ⟨hu1, hu2⟩ := upd_assoc (ek := T.s) (ev := T.i .i64) s_inj (k := q.1.id) (v := v + 1) (l := oth)
          simp -implicitDefEqProofs (maxSteps := 2000000) only [push_cast, Nat.reduceEqDiff, Nat.reduceLT, Nat.reduceLeDiff, Nat.reduceAdd, Nat.reduceMul, Nat.reduceSub, Nat.reduceBEq, ↓reduceIte, reduceCtorEq]
          refine ⟨by unfold inI64; omega, fun _ => by omega, (same, aset q.1.id (v + 1) oth, rest.eraseIdx k, done ++ [q]), ⟨hpn, ?_, ?_⟩, by dsimp only; omega, Keep.wk (ids := [some 0, some 1, some 2]) ?_⟩
          · dsimp only
            rw [hsame, List.filter_append]
            simp [h1]
          · dsimp only
            rw [hfn, List.map_append]
            exact hst
          · simp only [push_cast, Nat.reduceEqDiff, Nat.reduceLT, Nat.reduceLeDiff, Nat.reduceAdd, Nat.reduceMul, Nat.reduceSub, Nat.reduceBEq, ↓reduceIte, reduceCtorEq, eraseE_map, hu1, hu2] <;> trivial
        · rw [hv] at hc
          dsimp only [Option.getD] at hc
          subst hc
          obtain ⟨hu1, hu2⟩ := upd_assoc (ek := T.s) (ev := T.i .i64) s_inj (k := q.1.id) (v := (0 : Int) + 1) (l := oth)
          simp -implicitDefEqProofs (maxSteps := 2000000) only [push_cast, Nat.reduceEqDiff, Nat.reduceLT, Nat.reduceLeDiff, Nat.reduceAdd, Nat.reduceMul, Nat.reduceSub, Nat.reduceBEq, ↓reduceIte, reduceCtorEq]
          refine ⟨by unfold inI64; omega, fun _ => by omega, (same, aset q.1.id ((0 : Int) + 1) oth, rest.eraseIdx k, done ++ [q]), ⟨hpn, ?_, ?_⟩, by dsimp only; omega, Keep.wk (ids := [some 0, some 1, some 2]) ?_⟩
          · dsimp only
            rw [hsame, List.filter_append]
            simp [h1]
          · dsimp only
            rw [hfn, List.map_append]
            exact hst
          · simp only [push_cast, Nat.reduceEqDiff, Nat.reduceLT, Nat.reduceLeDiff, Nat.reduceAdd, Nat.reduceMul, Nat.reduceSub, Nat.reduceBEq, ↓reduceIte, reduceCtorEq, eraseE_map, hu1, hu2] <;> trivial
end Go.Proofs.Ytmgdkkhnjkepiaa.BX
namespace Go.Proofs.Ytmgdkkhnjkepiaa.BX
set_option linter.unusedSectionVars false
set_option linter.unusedSimpArgs false
set_option linter.unusedVariables false
open Go Go.RowKit
set_option maxRecDepth 20000
set_option maxHeartbeats 400000
def dig (k : Nat) : UInt8 := UInt8.ofNat (IntKind.u8.wrap (48 + (k : Int) % 10)).toNat
def digs (k : Nat) (out : List UInt8) : List UInt8 := if _h : k = 0 then out else digs (k / 10) (dig k :: out)
termination_by k
decreasing_by omega
theorem digs_zero {out : List UInt8} : digs 0 out = out := by rw [digs]; simp
theorem digs_pos {k : Nat} {out : List UInt8} (h : 0 < k) : digs k out = digs (k / 10) (dig k :: out) := by
  rw [digs, dif_neg (by omega)]
def mkT (k : Int) : List UInt8 := if k ≤ 0 then [109, 48] else 109 :: digs k.toNat []
def mkE (k : Int) : Entry := ⟨mkT k, mkT (k + 1), mkT (k + 2)⟩
def mkEs (n : Nat) (k : Int) : List Entry := (List.range n).map fun i : Nat => mkE (k + 3 * i)
theorem mkEs_len {n : Nat} {k : Int} : (mkEs n k).length = n := by simp [mkEs]
theorem mkEs_succ {n : Nat} {k : Int} : mkEs (n + 1) k = mkEs n k ++ [mkE (k + 3 * n)] := by simp [mkEs, List.range_succ]
theorem mkEs_get {n i : Nat} {k : Int} (h : i < n) : (mkEs n k)[i]? = some (mkE (k + 3 * i)) := by simp [mkEs, h]
def mkTo (xs : List Entry) (k : Int) (i : Nat) : List Entry := mkEs i k ++ xs.drop i
theorem mkTo_len {xs : List Entry} {k : Int} {i : Nat} (h : i ≤ xs.length) : (mkTo xs k i).length = xs.length := by simp [mkTo, mkEs_len]; omega
theorem mkTo_zero {xs : List Entry} {k : Int} : mkTo xs k 0 = xs := by simp [mkTo, mkEs]
theorem mkTo_all {xs : List Entry} {k : Int} : mkTo xs k xs.length = mkEs xs.length k := by simp [mkTo]
theorem mkTo_set {xs : List Entry} {k : Int} {i : Nat} (h : i < xs.length) : (mkTo xs k i).set i (mkE (k + 3 * i)) = mkTo xs k (i + 1) := by
  unfold mkTo
  rw [List.set_append_right _ _ (by rw [mkEs_len]; omega), mkEs_len, Nat.sub_self, mkEs_succ]
  have : xs.drop i = xs[i] :: xs.drop (i + 1) := List.drop_eq_getElem_cons h
  rw [this, List.set_cons_zero]
  simp
theorem mkTo_get {xs : List Entry} {k : Int} {i : Nat} (h : i < xs.length) : (mkTo xs k i)[i]? = some xs[i] := by
  unfold mkTo
  rw [List.getElem?_append_right (by rw [mkEs_len]; omega), mkEs_len, Nat.sub_self, List.getElem?_drop]
  simp [h]
variable [Bd]
theorem markText (k : Int) (hk : k < 1000000000000000000) : Con P0 55 [.i .i64 k] (.t (.s (mkT k))) [] := by
  refine Con.intro (fn := Try.f55) [.tmp 2] (fun _ => (0, [])) mixed (by kernel_rfl) rfl (by decide) rfl (by rfl) (by kernel_rfl) ?_
  simp -implicitDefEqProofs (maxSteps := 2000000) only [push_cast, Nat.reduceEqDiff, Nat.reduceLT, Nat.reduceLeDiff, Nat.reduceAdd, Nat.reduceMul, Nat.reduceSub, Nat.reduceBEq, ↓reduceIte, reduceCtorEq]
  have := Bd.lo
  split
  · rename_i h
    unfold mkT
    rw [if_pos h]
  rename_i h
  refine WL.loop (ι := Nat × List UInt8) (D := (fun _ => (0, []))) (fun x => digs x.1 x.2 = digs k.toNat [] ∧ ∃ m, x.1 < 10 ^ m ∧ x.2.length + m ≤ 18) (fun x => ⟨20, [(0, .t (.i .i64 x.1)), (3, .t (.s x.2))], []⟩) (fun x => x.1) mixed (by kernel_rfl) (k.toNat, []) ⟨rfl, 18, by dsimp only; omega, by simp⟩ (Keep.wk (ids := []) ?_) ?_
  · simp only [push_cast, Nat.reduceEqDiff, Nat.reduceLT, Nat.reduceLeDiff, Nat.reduceAdd, Nat.reduceMul, Nat.reduceSub, Nat.reduceBEq, ↓reduceIte, reduceCtorEq, T.i.injEq, AV.t.injEq, Int.toNat_of_nonneg (show 0 ≤ k by omega)] <;> rfl
  · rintro ⟨j, out⟩ ⟨hj, m, hm, hl⟩
    dsimp only at hj hm hl ⊢
    simp -implicitDefEqProofs (maxSteps := 2000000) only [push_cast, Nat.reduceEqDiff, Nat.reduceLT, Nat.reduceLeDiff, Nat.reduceAdd, Nat.reduceMul, Nat.reduceSub, Nat.reduceBEq, ↓reduceIte, reduceCtorEq]
    split
    · rename_i hpos
      have hm0 : m ≠ 0 := by rintro rfl; simp at hm; omega
      obtain ⟨m', rfl⟩ := Nat.exists_eq_succ_of_ne_zero hm0
      refine ⟨by omega, by omega, by unfold inI64; omega, rfl, by omega, by omega, by omega, by omega, ?_, (j / 10, dig j :: out), ⟨?_, m', ?_, ?_⟩, ?_, Keep.wk (ids := []) ?_⟩
      · have : 10 ^ (m' + 1) ≤ 10 ^ 18 := Nat.pow_le_pow_right (by omega) (by omega)
        unfold inI64; omega
      · dsimp only; rw [← hj, digs_pos (k := j) (by omega)]
      · dsimp only; rw [Nat.pow_succ] at hm; omega
      · simp only [List.length_cons]; omega
      · dsimp only; omega
      · simp only [push_cast, Nat.reduceEqDiff, Nat.reduceLT, Nat.reduceLeDiff, Nat.reduceAdd, Nat.reduceMul, Nat.reduceSub, Nat.reduceBEq, ↓reduceIte, reduceCtorEq] <;> first | rfl | exact ⟨rfl, rfl⟩
    · have hj0 : j = 0 := by omega
      subst hj0
      rw [digs_zero] at hj
      refine ⟨by omega, ?_⟩
      unfold mkT
      rw [if_neg h, hj]
theorem markEntryS (xs : List Entry) (k : Int) (h0 : 0 ≤ k) (hk : k + 3 * xs.length ≤ 4611686018427387) : ConM P0 21 [.sr 0, .t (.i .i64 k)] [.arr 38 3 (.own (.ag [.leaf, .leaf, .leaf])) (xs.map eEntry)] (.t (.i .i64 (k + 3 * xs.length))) [.arr 38 3 (.own (.ag [.leaf, .leaf, .leaf])) ((mkEs xs.length k).map eEntry)] := by
  refine ConM.intro (fn := Try.f21) [.tmp 4] (fun _ => (0, [])) mixed (by kernel_rfl) rfl (by decide) rfl (by rfl) (by kernel_rfl) ?_
  simp -implicitDefEqProofs (maxSteps := 2000000) only [push_cast, Nat.reduceEqDiff, Nat.reduceLT, Nat.reduceLeDiff, Nat.reduceAdd, Nat.reduceMul, Nat.reduceSub, Nat.reduceBEq, ↓reduceIte, reduceCtorEq]
  refine WL.loop (ι := Nat) (D := (fun _ => (0, []))) (fun i => i ≤ xs.length) (fun i => ⟨37, [(0, .sr 0), (1, .t (.i .i64 (k + 3 * i))), (5, .t (.i .i64 i))], [.arr 38 3 (.own (.ag [.leaf, .leaf, .leaf])) ((mkTo xs k i).map eEntry)]⟩) (fun i => xs.length - i) mixed (by kernel_rfl) 0 (by omega) (Keep.wk (ids := [some 0]) ?_) ?_
  · simp only [push_cast, Nat.reduceEqDiff, Nat.reduceLT, Nat.reduceLeDiff, Nat.reduceAdd, Nat.reduceMul, Nat.reduceSub, Nat.reduceBEq, ↓reduceIte, reduceCtorEq, mkTo_zero, Int.mul_zero, Int.add_zero, Int.cast_ofNat_Int] <;> trivial
  · intro i hi
    simp -implicitDefEqProofs (maxSteps := 2000000) only [push_cast, Nat.reduceEqDiff, Nat.reduceLT, Nat.reduceLeDiff, Nat.reduceAdd, Nat.reduceMul, Nat.reduceSub, Nat.reduceBEq, ↓reduceIte, reduceCtorEq]
    intro _
    have := Bd.hi
    rw [mkTo_len hi]
    split
    · rename_i h
      have hgx := mkTo_get (xs := xs) (k := k) (i := i) (by omega)
      have hml := mkTo_len (xs := xs) (k := k) hi
      have hst : ∀ (l : List Entry) (z : Entry), (l.map eEntry).set i (eEntry z) = (l.set i z).map eEntry := fun l z => by rw [List.map_set]
      refine Callx.closed (markText (k + 3 * i) (by omega)) rfl rfl (.inl rfl) ?_
      simp -implicitDefEqProofs (maxSteps := 2000000) only [push_cast, Nat.reduceEqDiff, Nat.reduceLT, Nat.reduceLeDiff, Nat.reduceAdd, Nat.reduceMul, Nat.reduceSub, Nat.reduceBEq, ↓reduceIte, reduceCtorEq, eEntry]
      refine ⟨by omega, by omega, fun a ha => ?_⟩
      rw [Int.toNat_natCast, hgx] at ha
      cases ha
      rw [Int.toNat_natCast]
      have hl1 : (mkTo xs k i).length = xs.length := hml
      generalize hgl : mkTo xs k i = l at hl1 hgx ⊢
      obtain ⟨x, hx⟩ : ∃ x, xs[i] = x := ⟨_, rfl⟩
      rw [hx]
      refine ⟨by unfold inI64; omega, ?_⟩
      rw [show T.ag [T.s (mkT (k + 3 * i)), T.s x.key, T.s x.id] = eEntry ⟨mkT (k + 3 * i), x.key, x.id⟩ from rfl, hst]
      refine Callx.closed (markText (k + 3 * i + 1) (by omega)) rfl rfl (.inl rfl) ?_
      simp -implicitDefEqProofs (maxSteps := 2000000) only [push_cast, Nat.reduceEqDiff, Nat.reduceLT, Nat.reduceLeDiff, Nat.reduceAdd, Nat.reduceMul, Nat.reduceSub, Nat.reduceBEq, ↓reduceIte, reduceCtorEq, eEntry]
      refine ⟨by omega, by omega, fun a ha => ?_⟩
      rw [Int.toNat_natCast, List.getElem?_set_self (by omega)] at ha
      cases ha
      rw [Int.toNat_natCast]
      refine ⟨by unfold inI64; omega, ?_⟩
      rw [show T.ag [T.s (mkT (k + 3 * i)), T.s (mkT (k + 3 * i + 1)), T.s x.id] = eEntry ⟨mkT (k + 3 * i), mkT (k + 3 * i + 1), x.id⟩ from rfl, hst, List.set_set]
      refine Callx.closed (markText (k + 3 * i + 1 + 1) (by omega)) rfl rfl (.inl rfl) ?_
      simp -implicitDefEqProofs (maxSteps := 2000000) only [push_cast, Nat.reduceEqDiff, Nat.reduceLT, Nat.reduceLeDiff, Nat.reduceAdd, Nat.reduceMul, Nat.reduceSub, Nat.reduceBEq, ↓reduceIte, reduceCtorEq, eEntry]
      refine ⟨by omega, by omega, fun a ha => ?_⟩
      rw [Int.toNat_natCast, List.getElem?_set_self (by omega)] at ha
      cases ha
      rw [Int.toNat_natCast]
      refine ⟨by unfold inI64; omega, by unfold inI64; omega, i + 1, by omega, by omega, Keep.wk (ids := [some 0]) ?_⟩
      have e3 : ((l.set i ⟨mkT (k + 3 * i), mkT (k + 3 * i + 1), x.id⟩).map eEntry).set i (T.ag [T.s (mkT (k + 3 * i)), T.s (mkT (k + 3 * i + 1)), T.s (mkT (k + 3 * i + 1 + 1))]) = (mkTo xs k (i + 1)).map eEntry := by
        rw [show T.ag [T.s (mkT (k + 3 * i)), T.s (mkT (k + 3 * i + 1)), T.s (mkT (k + 3 * i + 1 + 1))] = eEntry (mkE (k + 3 * i)) by simp [eEntry, mkE, Int.add_assoc], hst, List.set_set, ← hgl, mkTo_set (by omega)]
      simp only [push_cast, Nat.reduceEqDiff, Nat.reduceLT, Nat.reduceLeDiff, Nat.reduceAdd, Nat.reduceMul, Nat.reduceSub, Nat.reduceBEq, ↓reduceIte, reduceCtorEq, e3, T.i.injEq, AV.t.injEq] <;> omega
    · have hi : i = xs.length := by omega
      subst hi
      rw [mkTo_all]
      exact ⟨rfl, Rest.of [some 0] rfl rfl (by simp only [push_cast, Nat.reduceEqDiff, Nat.reduceLT, Nat.reduceLeDiff, Nat.reduceAdd, Nat.reduceMul, Nat.reduceSub, Nat.reduceBEq, ↓reduceIte, reduceCtorEq] <;> rfl)⟩
theorem heldEntryS (n : Nat) (k : Int) (h0 : 0 ≤ k) (hk : k + 3 * n ≤ 4611686018427387) : Con P0 23 [eEntryS (mkEs n k), .i .i64 k] (.t (.i .i64 (k + 3 * n))) [] := by
  refine Con.intro (fn := Try.f23) [.tmp 4] (fun i => if i = 10 then (8, []) else if i = 7 then (8, []) else if i = 4 then (8, []) else (0, [])) mixed (by kernel_rfl) rfl (by decide) rfl (by rfl) (by kernel_rfl) ?_
  simp -implicitDefEqProofs (maxSteps := 2000000) only [push_cast, Nat.reduceEqDiff, Nat.reduceLT, Nat.reduceLeDiff, Nat.reduceAdd, Nat.reduceMul, Nat.reduceSub, Nat.reduceBEq, ↓reduceIte, reduceCtorEq]
  refine WL.loop (ι := Nat) (D := (fun i => if i = 10 then (8, []) else if i = 7 then (8, []) else if i = 4 then (8, []) else (0, []))) (fun i => i ≤ n) (fun i => ⟨43, [(0, .t (eEntryS (mkEs n k))), (1, .t (.i .i64 (k + 3 * i))), (5, .t (.i .i64 i))], []⟩) (fun i => n - i) mixed (by kernel_rfl) 0 (by omega) (Keep.wk (ids := []) ?_) ?_
  · simp only [push_cast, Nat.reduceEqDiff, Nat.reduceLT, Nat.reduceLeDiff, Nat.reduceAdd, Nat.reduceMul, Nat.reduceSub, Nat.reduceBEq, ↓reduceIte, reduceCtorEq, Int.mul_zero, Int.add_zero, Int.cast_ofNat_Int] <;> trivial
  · intro i hi
    simp -implicitDefEqProofs (maxSteps := 2000000) only [push_cast, Nat.reduceEqDiff, Nat.reduceLT, Nat.reduceLeDiff, Nat.reduceAdd, Nat.reduceMul, Nat.reduceSub, Nat.reduceBEq, ↓reduceIte, reduceCtorEq, eEntry]
    intro _
    have hml : (mkEs n k).length = n := mkEs_len
    rw [hml]
    split
    · rename_i h
      refine ⟨by omega, fun a ha => ?_⟩
      rw [Int.toNat_natCast, mkEs_get (by omega)] at ha
      cases ha
      refine CallV.t (markText (k + 3 * i) (by omega)) (.inl rfl) ?_
      simp -implicitDefEqProofs (maxSteps := 2000000) only [push_cast, Nat.reduceEqDiff, Nat.reduceLT, Nat.reduceLeDiff, Nat.reduceAdd, Nat.reduceMul, Nat.reduceSub, Nat.reduceBEq, ↓reduceIte, reduceCtorEq, eEntry]
      rw [if_neg (by simp [mkE])]
      refine ⟨by unfold inI64; omega, by omega, fun a ha => ?_⟩
      rw [Int.toNat_natCast, mkEs_get (by omega)] at ha
      cases ha
      refine CallV.t (markText (k + 3 * i + 1) (by omega)) (.inl rfl) ?_
      simp -implicitDefEqProofs (maxSteps := 2000000) only [push_cast, Nat.reduceEqDiff, Nat.reduceLT, Nat.reduceLeDiff, Nat.reduceAdd, Nat.reduceMul, Nat.reduceSub, Nat.reduceBEq, ↓reduceIte, reduceCtorEq, eEntry]
      rw [if_neg (by simp [mkE])]
      refine ⟨by unfold inI64; omega, by omega, fun a ha => ?_⟩
      rw [Int.toNat_natCast, mkEs_get (by omega)] at ha
      cases ha
      refine CallV.t (markText (k + 3 * i + 1 + 1) (by omega)) (.inl rfl) ?_
      simp -implicitDefEqProofs (maxSteps := 2000000) only [push_cast, Nat.reduceEqDiff, Nat.reduceLT, Nat.reduceLeDiff, Nat.reduceAdd, Nat.reduceMul, Nat.reduceSub, Nat.reduceBEq, ↓reduceIte, reduceCtorEq, eEntry]
      rw [if_neg (by simp [mkE, Int.add_assoc])]
      refine ⟨by unfold inI64; omega, by unfold inI64; omega, i + 1, by omega, by omega, Keep.wk (ids := []) ?_⟩
      simp only [push_cast, Nat.reduceEqDiff, Nat.reduceLT, Nat.reduceLeDiff, Nat.reduceAdd, Nat.reduceMul, Nat.reduceSub, Nat.reduceBEq, ↓reduceIte, reduceCtorEq, T.i.injEq, AV.t.injEq] <;> omega
    · have hi : i = n := by omega
      subst hi
      rfl
end Go.Proofs.Ytmgdkkhnjkepiaa.BX
namespace Go.Proofs.Ytmgdkkhnjkepiaa.BX
set_option linter.unusedSectionVars false
set_option linter.unusedSimpArgs false
set_option linter.unusedVariables false
open Go Go.RowKit
set_option maxRecDepth 20000
set_option maxHeartbeats 400000
section
variable {α : Type} (mk : α → Int → α) (w : α → Nat)
def mkL : List α → Int → List α
  | [], _ => []
  | x :: xs, k => mk x k :: mkL xs (k + w x)
def totL : List α → Nat
  | [] => 0
  | x :: xs => w x + totL xs
def mkLTo (xs : List α) (k : Int) (i : Nat) : List α := mkL mk w (xs.take i) k ++ xs.drop i
variable {mk w} {xs : List α} {k : Int} {i : Nat} {x : α}
theorem mkL_len : ∀ {xs : List α} {k : Int}, (mkL mk w xs k).length = xs.length
  | [], _ => rfl
  | x :: xs, k => by simp only [mkL, List.length_cons, mkL_len (xs := xs)]
theorem totL_app : ∀ {xs ys : List α}, totL w (xs ++ ys) = totL w xs + totL w ys
  | [], ys => by simp [totL]
  | x :: xs, ys => by simp only [List.cons_append, totL, totL_app (xs := xs)]; omega
theorem mkL_snoc : ∀ {xs : List α} {k : Int}, mkL mk w (xs ++ [x]) k = mkL mk w xs k ++ [mk x (k + totL w xs)]
  | [], k => by simp [mkL, totL]
  | y :: xs, k => by
    simp only [List.cons_append, mkL, totL, mkL_snoc (xs := xs)]
    rw [show k + w y + (totL w xs : Int) = k + (w y + totL w xs : Nat) by omega]
theorem totL_take (h : xs[i]? = some x) : totL w (xs.take (i + 1)) = totL w (xs.take i) + w x := by
  rw [List.take_add_one, h, totL_app]; rfl
theorem totL_le : totL w (xs.take i) ≤ totL w xs := by
  conv => rhs; rw [← List.take_append_drop i xs, totL_app]
  omega
theorem totL_const {c : Nat} (h : ∀ x, w x = c) : ∀ {xs : List α}, totL w xs = c * xs.length
  | [] => by simp [totL]
  | x :: xs => by simp only [totL, h, totL_const h (xs := xs), List.length_cons, Nat.mul_add]; omega
theorem mkLTo_len (h : i ≤ xs.length) : (mkLTo mk w xs k i).length = xs.length := by simp [mkLTo, mkL_len]; omega
theorem mkLTo_zero : mkLTo mk w xs k 0 = xs := by simp [mkLTo, mkL]
theorem mkLTo_all : mkLTo mk w xs k xs.length = mkL mk w xs k := by simp [mkLTo]
theorem mkLTo_get (h : xs[i]? = some x) : (mkLTo mk w xs k i)[i]? = some x := by
  have hi := (List.getElem?_eq_some_iff.1 h).1
  unfold mkLTo
  have hl : (mkL mk w (xs.take i) k).length = i := by rw [mkL_len, List.length_take]; omega
  rw [List.getElem?_append_right (by omega), hl, Nat.sub_self, List.getElem?_drop]
  simpa using h
theorem mkLTo_set (h : xs[i]? = some x) : (mkLTo mk w xs k i).set i (mk x (k + totL w (xs.take i))) = mkLTo mk w xs k (i + 1) := by
  have hi := (List.getElem?_eq_some_iff.1 h).1
  unfold mkLTo
  have hl : (mkL mk w (xs.take i) k).length = i := by rw [mkL_len, List.length_take]; omega
  rw [List.set_append_right _ _ (by omega), hl, Nat.sub_self]
  have hd : xs.drop i = x :: xs.drop (i + 1) := by
    rw [List.drop_eq_getElem_cons hi]
    congr 1
    exact (List.getElem?_eq_some_iff.1 h).2
  rw [hd, List.set_cons_zero, List.take_add_one, h, Option.toList_some, mkL_snoc]
  simp
theorem mkL_get (h : xs[i]? = some x) : (mkL mk w xs k)[i]? = some (mk x (k + totL w (xs.take i))) := by
  have hi := (List.getElem?_eq_some_iff.1 h).1
  have e : xs = (xs.take i ++ [x]) ++ xs.drop (i + 1) := by
    have : xs.take i ++ [x] = xs.take (i + 1) := by rw [List.take_add_one, h]; rfl
    rw [this, List.take_append_drop]
  have app : ∀ (us vs : List α) (k : Int), mkL mk w (us ++ vs) k = mkL mk w us k ++ mkL mk w vs (k + totL w us) := by
    intro us
    induction us with
    | nil => intro vs k; simp [mkL, totL]
    | cons a us ih =>
      intro vs k
      simp only [List.cons_append, mkL, totL, ih]
      rw [show k + w a + (totL w us : Int) = k + (w a + totL w us : Nat) by omega]
  have hl : (mkL mk w (xs.take i) k).length = i := by rw [mkL_len, List.length_take]; omega
  conv => lhs; rw [e, app, mkL_snoc]
  rw [List.getElem?_append_left (by rw [List.length_append, hl]; simp), List.getElem?_append_right (by omega), hl, Nat.sub_self]
  rfl
end
def wC {α : Type} (n : Nat) (_ : α) : Nat := n
theorem totC {α : Type} {n : Nat} {xs : List α} : totL (wC n) xs = n * xs.length := totL_const fun _ => rfl
def mkString1 (_ : List UInt8) (k : Int) : List UInt8 := mkT (k)
abbrev mkStringL (xs : List (List UInt8)) (k : Int) : List (List UInt8) := mkL mkString1 (wC 1) xs k
section
variable [Bd]
theorem markStringS (xs : List (List UInt8)) (k : Int) (h0 : 0 ≤ k) (hk : k + 1 * xs.length ≤ 4611686018427387) : ConM P0 22 [.sr 0, .t (.i .i64 k)] [.arr 9 1 (.own .leaf) (xs.map T.s)] (.t (.i .i64 (k + (totL (wC 1) xs : Nat)))) [.arr 9 1 (.own .leaf) ((mkStringL xs k).map T.s)] := by
  refine ConM.intro (fn := Try.f22) [.tmp 4] (fun _ => (0, [])) mixed (by kernel_rfl) rfl (by decide) rfl (by rfl) (by kernel_rfl) ?_
  simp -implicitDefEqProofs (maxSteps := 2000000) only [push_cast, Nat.reduceEqDiff, Nat.reduceLT, Nat.reduceLeDiff, Nat.reduceAdd, Nat.reduceMul, Nat.reduceSub, Nat.reduceBEq, ↓reduceIte, reduceCtorEq]
  have htt := totC (n := 1) (xs := xs)
  refine WL.loop (ι := Nat) (D := (fun _ => (0, []))) (fun i => i ≤ xs.length) (fun i => ⟨20, [(0, .sr 0), (1, .t (.i .i64 (k + (totL (wC 1) (xs.take i) : Nat)))), (5, .t (.i .i64 i))], [.arr 9 1 (.own .leaf) ((mkLTo mkString1 (wC 1) xs k i).map T.s)]⟩) (fun i => xs.length - i) mixed (by kernel_rfl) 0 (by omega) (Keep.wk (ids := [some 0]) ?_) ?_
  · simp only [push_cast, Nat.reduceEqDiff, Nat.reduceLT, Nat.reduceLeDiff, Nat.reduceAdd, Nat.reduceMul, Nat.reduceSub, Nat.reduceBEq, ↓reduceIte, reduceCtorEq, mkLTo_zero, totL, List.take_zero, Int.add_zero, Int.cast_ofNat_Int] <;> trivial
  · intro i hi
    simp -implicitDefEqProofs (maxSteps := 2000000) only [push_cast, Nat.reduceEqDiff, Nat.reduceLT, Nat.reduceLeDiff, Nat.reduceAdd, Nat.reduceMul, Nat.reduceSub, Nat.reduceBEq, ↓reduceIte, reduceCtorEq, mkLTo_len hi]
    intro _
    have := Bd.hi
    refine iteI (fun h => ?_) (fun h => ?_)
    · obtain ⟨x, hx⟩ : ∃ x, xs[i]? = some x := ⟨xs[i], List.getElem?_eq_getElem (by omega)⟩
      have ht := totL_take (w := (wC 1)) hx
      have hl := totL_le (w := (wC 1)) (xs := xs) (i := i + 1)
      have hw : (wC 1) x = 1 := rfl
      refine Callx.closed (markText (k + (totL (wC 1) (xs.take i) : Nat)) (by omega)) rfl rfl (.inl rfl) ?_
      simp -implicitDefEqProofs (maxSteps := 2000000) only [push_cast, Nat.reduceEqDiff, Nat.reduceLT, Nat.reduceLeDiff, Nat.reduceAdd, Nat.reduceMul, Nat.reduceSub, Nat.reduceBEq, ↓reduceIte, reduceCtorEq, mkLTo_len hi]
      refine ⟨by omega, by omega, fun a ha => ?_⟩
      refine ⟨by unfold inI64; omega, ?_⟩
      refine ⟨by unfold inI64; omega, i + 1, by omega, by omega, Keep.wk (ids := [some 0]) ?_⟩
      have e3 : ((mkLTo mkString1 (wC 1) xs k i).map T.s).set i (T.s (mkT (k + (totL (wC 1) (xs.take i) : Nat)))) = (mkLTo mkString1 (wC 1) xs k (i + 1)).map T.s := by rw [← mkLTo_set hx, List.map_set]; rfl
      simp only [push_cast, Nat.reduceEqDiff, Nat.reduceLT, Nat.reduceLeDiff, Nat.reduceAdd, Nat.reduceMul, Nat.reduceSub, Nat.reduceBEq, ↓reduceIte, reduceCtorEq, Int.toNat_natCast, List.set_set, e3, T.i.injEq, AV.t.injEq] <;> omega
    · have hi : i = xs.length := by omega
      subst hi
      rw [mkLTo_all, List.take_length]
      exact ⟨rfl, Rest.of [some 0] rfl rfl (by simp only [push_cast, Nat.reduceEqDiff, Nat.reduceLT, Nat.reduceLeDiff, Nat.reduceAdd, Nat.reduceMul, Nat.reduceSub, Nat.reduceBEq, ↓reduceIte, reduceCtorEq] <;> rfl)⟩
end
section
variable [Bd]
theorem heldStringS (xs : List (List UInt8)) (k : Int) (h0 : 0 ≤ k) (hk : k + 1 * xs.length ≤ 4611686018427387) : Con P0 24 [eStringS (mkStringL xs k), .i .i64 k] (.t (.i .i64 (k + (totL (wC 1) xs : Nat)))) [] := by
  refine Con.intro (fn := Try.f24) [.tmp 4] (fun i => if i = 4 then (7, []) else (0, [])) mixed (by kernel_rfl) rfl (by decide) rfl (by rfl) (by kernel_rfl) ?_
  simp -implicitDefEqProofs (maxSteps := 2000000) only [push_cast, Nat.reduceEqDiff, Nat.reduceLT, Nat.reduceLeDiff, Nat.reduceAdd, Nat.reduceMul, Nat.reduceSub, Nat.reduceBEq, ↓reduceIte, reduceCtorEq]
  have htt := totC (n := 1) (xs := xs)
  refine WL.loop (ι := Nat) (D := (fun i => if i = 4 then (7, []) else (0, []))) (fun i => i ≤ xs.length) (fun i => ⟨22, [(0, .t (eStringS (mkStringL xs k))), (1, .t (.i .i64 (k + (totL (wC 1) (xs.take i) : Nat)))), (5, .t (.i .i64 i))], []⟩) (fun i => xs.length - i) mixed (by kernel_rfl) 0 (by omega) (Keep.wk (ids := []) ?_) ?_
  · simp only [push_cast, Nat.reduceEqDiff, Nat.reduceLT, Nat.reduceLeDiff, Nat.reduceAdd, Nat.reduceMul, Nat.reduceSub, Nat.reduceBEq, ↓reduceIte, reduceCtorEq, totL, List.take_zero, Int.add_zero, Int.cast_ofNat_Int] <;> trivial
  · intro i hi
    simp -implicitDefEqProofs (maxSteps := 2000000) only [push_cast, Nat.reduceEqDiff, Nat.reduceLT, Nat.reduceLeDiff, Nat.reduceAdd, Nat.reduceMul, Nat.reduceSub, Nat.reduceBEq, ↓reduceIte, reduceCtorEq, mkL_len]
    intro _
    have := Bd.hi
    refine iteI (fun h => ?_) (fun h => ?_)
    · obtain ⟨x, hx⟩ : ∃ x, xs[i]? = some x := ⟨xs[i], List.getElem?_eq_getElem (by omega)⟩
      have ht := totL_take (w := (wC 1)) hx
      have hl := totL_le (w := (wC 1)) (xs := xs) (i := i + 1)
      have hw : (wC 1) x = 1 := rfl
      refine ⟨by omega, fun a ha => ?_⟩
      rw [Int.toNat_natCast, mkL_get hx] at ha
      cases ha
      refine CallV.t (markText (k + (totL (wC 1) (xs.take i) : Nat)) (by omega)) (.inl rfl) ?_
      simp -implicitDefEqProofs (maxSteps := 2000000) only [push_cast, Nat.reduceEqDiff, Nat.reduceLT, Nat.reduceLeDiff, Nat.reduceAdd, Nat.reduceMul, Nat.reduceSub, Nat.reduceBEq, ↓reduceIte, reduceCtorEq, mkL_len]
      rw [if_neg (fun h => h rfl)]
      refine ⟨by unfold inI64; omega, ?_⟩
      refine ⟨by unfold inI64; omega, i + 1, by omega, by omega, Keep.wk (ids := []) ?_⟩
      simp only [push_cast, Nat.reduceEqDiff, Nat.reduceLT, Nat.reduceLeDiff, Nat.reduceAdd, Nat.reduceMul, Nat.reduceSub, Nat.reduceBEq, ↓reduceIte, reduceCtorEq, T.i.injEq, AV.t.injEq] <;> omega
    · have hi : i = xs.length := by omega
      subst hi
      rw [List.take_length]
end
end Go.Proofs.Ytmgdkkhnjkepiaa.BX
namespace Go.Proofs.Ytmgdkkhnjkepiaa.BX
set_option linter.unusedSectionVars false
set_option linter.unusedSimpArgs false
set_option linter.unusedVariables false
open Go Go.RowKit
set_option maxRecDepth 20000
set_option maxHeartbeats 400000
def mkSSE : List (List Entry) → Int → List (List Entry)
  | [], _ => []
  | s :: r, k => mkEs s.length k :: mkSSE r (k + 3 * s.length)
theorem mkSSE_len : ∀ {l : List (List Entry)} {k : Int}, (mkSSE l k).length = l.length
  | [], _ => rfl
  | _ :: l, k => by simp [mkSSE, mkSSE_len (l := l)]
theorem mkSSE_snoc {s : List Entry} : ∀ {l : List (List Entry)} {k : Int}, mkSSE (l ++ [s]) k = mkSSE l k ++ [mkEs s.length (k + 3 * l.flatten.length)]
  | [], k => by simp [mkSSE]
  | x :: l, k => by
    rw [List.cons_append]
    simp only [mkSSE]
    rw [mkSSE_snoc, List.cons_append, List.flatten_cons, List.length_append]
    have : k + 3 * (x.length : Int) + 3 * (l.flatten.length : Int) = k + 3 * ((x.length + l.flatten.length : Nat) : Int) := by omega
    rw [this]
def mkSSETo (ss : List (List Entry)) (k : Int) (i : Nat) : List (List Entry) := mkSSE (ss.take i) k ++ ss.drop i
theorem mkSSETo_len {ss : List (List Entry)} {k : Int} {i : Nat} (h : i ≤ ss.length) : (mkSSETo ss k i).length = ss.length := by
  unfold mkSSETo
  rw [List.length_append, mkSSE_len, List.length_take, List.length_drop]
  omega
theorem mkSSETo_get {ss : List (List Entry)} {k : Int} {i : Nat} {s : List Entry} (h : ss[i]? = some s) : (mkSSETo ss k i)[i]? = some s := by
  have hl := (List.getElem?_eq_some_iff.1 h).1
  unfold mkSSETo
  rw [List.getElem?_append_right (by rw [mkSSE_len, List.length_take]; omega), mkSSE_len, List.length_take, List.getElem?_drop, show i + (i - min i ss.length) = i by omega]
  exact h
theorem mkSSETo_set {ss : List (List Entry)} {k : Int} {i : Nat} {s : List Entry} (h : ss[i]? = some s) : (mkSSETo ss k i).set i (mkEs s.length (k + 3 * (ss.take i).flatten.length)) = mkSSETo ss k (i + 1) := by
  have hl := (List.getElem?_eq_some_iff.1 h).1
  unfold mkSSETo
  have hd : ss.drop i = s :: ss.drop (i + 1) := by rw [List.drop_eq_getElem_cons hl]; congr 1; rw [List.getElem?_eq_getElem hl] at h; exact Option.some.inj h
  rw [List.set_append_right _ _ (by rw [mkSSE_len, List.length_take]; omega), mkSSE_len, List.length_take, show i - min i ss.length = 0 by omega, hd, List.set_cons_zero, List.take_add_one, h, Option.toList_some, mkSSE_snoc, List.append_assoc]
  rfl
theorem flat_mono {ss : List (List Entry)} {i : Nat} : (ss.take i).flatten.length ≤ ss.flatten.length := by
  conv => rhs; rw [← List.take_append_drop i ss, List.flatten_append, List.length_append]
  omega
variable [Bd]
theorem markEntrySS (ss : List (List Entry)) (k : Int) (h0 : 0 ≤ k) (hk : k + 3 * ss.flatten.length ≤ 4611686018427387) : ConM P0 20 [.sr 0, .t (.i .i64 k)] [.arr 26 1 (.own (.sl 38 3 (.ag [.leaf, .leaf, .leaf]))) (ss.map eEntryS)] (.t (.i .i64 (k + 3 * ss.flatten.length))) [.arr 26 1 (.own (.sl 38 3 (.ag [.leaf, .leaf, .leaf]))) ((mkSSE ss k).map eEntryS)] := by
  refine ConM.intro (fn := Try.f20) [.tmp 4] (fun _ => (0, [])) mixed (by kernel_rfl) rfl (by decide) rfl (by rfl) (by kernel_rfl) ?_
  simp -implicitDefEqProofs (maxSteps := 2000000) only [push_cast, Nat.reduceEqDiff, Nat.reduceLT, Nat.reduceLeDiff, Nat.reduceAdd, Nat.reduceMul, Nat.reduceSub, Nat.reduceBEq, ↓reduceIte, reduceCtorEq]
  refine WL.loop (ι := Nat) (D := (fun _ => (0, []))) (fun i => i ≤ ss.length) (fun i => ⟨19, [(0, .sr 0), (1, .t (.i .i64 (k + 3 * (ss.take i).flatten.length))), (5, .t (.i .i64 i))], [.arr 26 1 (.own (.sl 38 3 (.ag [.leaf, .leaf, .leaf]))) ((mkSSETo ss k i).map eEntryS)]⟩) (fun i => ss.length - i) mixed (by kernel_rfl) 0 (by omega) (Keep.wk (ids := [some 0]) ?_) ?_
  · simp only [push_cast, Nat.reduceEqDiff, Nat.reduceLT, Nat.reduceLeDiff, Nat.reduceAdd, Nat.reduceMul, Nat.reduceSub, Nat.reduceBEq, ↓reduceIte, reduceCtorEq, mkSSETo, mkSSE, List.take_zero, List.drop_zero, List.flatten_nil, List.length_nil, Int.mul_zero, Int.add_zero, Int.cast_ofNat_Int] <;> trivial
  · intro i hi
    simp -implicitDefEqProofs (maxSteps := 2000000) only [push_cast, Nat.reduceEqDiff, Nat.reduceLT, Nat.reduceLeDiff, Nat.reduceAdd, Nat.reduceMul, Nat.reduceSub, Nat.reduceBEq, ↓reduceIte, reduceCtorEq]
    intro hB
    have := Bd.hi
    rw [mkSSETo_len hi] at hB
    rw [mkSSETo_len hi, Int.toNat_natCast]
    split
    · rename_i h
      refine ⟨by omega, .inr ⟨by omega, fun a ha => ?_⟩⟩
      obtain ⟨x, hx⟩ : ∃ x, ss[i]? = some x := ⟨ss[i], List.getElem?_eq_getElem (by omega)⟩
      rw [mkSSETo_get hx] at ha
      cases ha
      have ht := flat_snoc hx
      have hl := flat_mono (ss := ss) (i := i + 1)
      rw [ht, List.length_append] at hl
      have hmk := markEntryS a (k + 3 * (ss.take i).flatten.length) (by omega) (by omega)
      refine Callx.hand [1] hmk (by decide) ?_ rfl rfl ?_ rfl ?_ ?_
      · simp only [push_cast, Nat.reduceEqDiff, Nat.reduceLT, Nat.reduceLeDiff, Nat.reduceAdd, Nat.reduceMul, Nat.reduceSub, Nat.reduceBEq, ↓reduceIte, reduceCtorEq]
      · simp only [push_cast, Nat.reduceEqDiff, Nat.reduceLT, Nat.reduceLeDiff, Nat.reduceAdd, Nat.reduceMul, Nat.reduceSub, Nat.reduceBEq, ↓reduceIte, reduceCtorEq] <;> rfl
      · exact .inr ⟨rfl, by simp only [push_cast, Nat.reduceEqDiff, Nat.reduceLT, Nat.reduceLeDiff, Nat.reduceAdd, Nat.reduceMul, Nat.reduceSub, Nat.reduceBEq, ↓reduceIte, reduceCtorEq]⟩
      simp -implicitDefEqProofs (maxSteps := 2000000) only [push_cast, Nat.reduceEqDiff, Nat.reduceLT, Nat.reduceLeDiff, Nat.reduceAdd, Nat.reduceMul, Nat.reduceSub, Nat.reduceBEq, ↓reduceIte, reduceCtorEq]
      have hg : ((mkSSETo ss k i).map eEntryS)[i]? = some (eEntryS a) := by rw [List.getElem?_map, mkSSETo_get hx]; rfl
      refine ⟨by unfold inI64; omega, i + 1, by omega, by omega, Wk.trans (Wk.close (id := 0) (n := 1) rfl rfl rfl hg) (Keep.wk (ids := [some 0]) ?_)⟩
      have hs : ((mkSSETo ss k i).map eEntryS).set i ((eEntryS a).setCell 0 (.sl ((mkEs a.length (k + 3 * (ss.take i).flatten.length)).map eEntry))) = (mkSSETo ss k (i + 1)).map eEntryS := by
        rw [← mkSSETo_set hx, List.map_set]; rfl
      have hk2 : (k : Int) + 3 * ((ss.take (i + 1)).flatten.length : Nat) = k + 3 * ((ss.take i).flatten.length : Nat) + 3 * (a.length : Nat) := by rw [ht, List.length_append]; omega
      simp only [push_cast, Nat.reduceEqDiff, Nat.reduceLT, Nat.reduceLeDiff, Nat.reduceAdd, Nat.reduceMul, Nat.reduceSub, Nat.reduceBEq, ↓reduceIte, reduceCtorEq, hs, hk2, T.i.injEq, AV.t.injEq] <;> omega
    · have hi : i = ss.length := by omega
      subst hi
      have hm : mkSSETo ss k ss.length = mkSSE ss k := by simp [mkSSETo]
      rw [hm, List.take_length]
      exact ⟨rfl, Rest.of [some 0] rfl rfl (by simp only [push_cast, Nat.reduceEqDiff, Nat.reduceLT, Nat.reduceLeDiff, Nat.reduceAdd, Nat.reduceMul, Nat.reduceSub, Nat.reduceBEq, ↓reduceIte, reduceCtorEq] <;> rfl)⟩
theorem wt_flat (ss : List (List Entry)) : ss.length + ss.flatten.length ≤ (eEntrySS ss).wt := by
  simp only [eEntrySS, T.wt, List.length_map]
  induction ss with
  | nil => simp
  | cons s ss ih =>
    simp only [List.map_cons, wts, List.length_cons, List.flatten_cons, List.length_append]
    have : s.length ≤ (eEntryS s).wt := by simp only [eEntryS, T.wt, List.length_map]; omega
    omega
theorem lawSplit (ss : List (List Entry)) (hD : ¬ Bd.D) (hB : mxs [eEntrySS ss] ≤ 1048576 → Bd.B ≤ 2147483648) : Con P0 4 [eEntrySS ss] (.t (.b true)) [] := by
  refine Con.intro (fn := Try.f4) [.tmp 2] (fun _ => (0, [])) mixed (by kernel_rfl) rfl (by decide) rfl (by rfl) (by kernel_rfl) ?_
  simp -implicitDefEqProofs (maxSteps := 2000000) only [push_cast, Nat.reduceEqDiff, Nat.reduceLT, Nat.reduceLeDiff, Nat.reduceAdd, Nat.reduceMul, Nat.reduceSub, Nat.reduceBEq, ↓reduceIte, reduceCtorEq]
  refine Callx.closed (szEntrySS ss _ (by omega) (by omega)) rfl rfl (.inl rfl) ?_
  simp -implicitDefEqProofs (maxSteps := 2000000) only [push_cast, Nat.reduceEqDiff, Nat.reduceLT, Nat.reduceLeDiff, Nat.reduceAdd, Nat.reduceMul, Nat.reduceSub, Nat.reduceBEq, ↓reduceIte, reduceCtorEq]
  rcases szR_cases (eEntrySS ss).wt 1048576 with ⟨g1, g2⟩ | ⟨g1, g2⟩
  rotate_left
  · simp only [g2]
    rw [if_pos (by omega)]
    trivial
  simp only [g2]
  rw [if_neg (by omega)]
  have hB := hB (mxs_cons (mx_of (by omega)) mxs_nil)
  have hlo := Bd.lo
  have hwf := wt_flat ss
  have hs := specSplit ss hB
  have hi := implSplit ss hD hB
  have h1 : (splS ss).length ≤ ss.flatten.length := by
    unfold splS
    split
    · exact sameL_len.2
    · simp
  have h2 : (splO ss).length ≤ ss.flatten.length := by
    unfold splO
    split
    · exact Nat.le_trans sset_len othL_len
    · simp
  generalize splS ss = sa at *
  generalize splO ss = so at *
  generalize splOk ss = sk at *
  refine Callx.closed (toEntrySS hB ss) rfl rfl (.inl rfl) ?_
  simp -implicitDefEqProofs (maxSteps := 2000000) only [push_cast, Nat.reduceEqDiff, Nat.reduceLT, Nat.reduceLeDiff, Nat.reduceAdd, Nat.reduceMul, Nat.reduceSub, Nat.reduceBEq, ↓reduceIte, reduceCtorEq]
  refine Callx.closed hs rfl rfl (.inr ⟨rfl, rfl⟩) ?_
  simp -implicitDefEqProofs (maxSteps := 2000000) only [push_cast, Nat.reduceEqDiff, Nat.reduceLT, Nat.reduceLeDiff, Nat.reduceAdd, Nat.reduceMul, Nat.reduceSub, Nat.reduceBEq, ↓reduceIte, reduceCtorEq]
  refine Callx.closed (toEntrySS hB ss) rfl rfl (.inl rfl) ?_
  simp -implicitDefEqProofs (maxSteps := 2000000) only [push_cast, Nat.reduceEqDiff, Nat.reduceLT, Nat.reduceLeDiff, Nat.reduceAdd, Nat.reduceMul, Nat.reduceSub, Nat.reduceBEq, ↓reduceIte, reduceCtorEq]
  refine Callx.closed hi rfl rfl (.inr ⟨rfl, rfl⟩) ?_
  simp -implicitDefEqProofs (maxSteps := 2000000) only [push_cast, Nat.reduceEqDiff, Nat.reduceLT, Nat.reduceLeDiff, Nat.reduceAdd, Nat.reduceMul, Nat.reduceSub, Nat.reduceBEq, ↓reduceIte, reduceCtorEq]
  refine Callx.closed (eqEntryS sa sa) rfl rfl (.inr ⟨rfl, rfl⟩) ?_
  simp -implicitDefEqProofs (maxSteps := 2000000) only [push_cast, Nat.reduceEqDiff, Nat.reduceLT, Nat.reduceLeDiff, Nat.reduceAdd, Nat.reduceMul, Nat.reduceSub, Nat.reduceBEq, ↓reduceIte, reduceCtorEq]
  refine Callx.closed (eqStringS so so) rfl rfl (.inr ⟨rfl, rfl⟩) ?_
  simp -implicitDefEqProofs (maxSteps := 2000000) only [push_cast, Nat.reduceEqDiff, Nat.reduceLT, Nat.reduceLeDiff, Nat.reduceAdd, Nat.reduceMul, Nat.reduceSub, Nat.reduceBEq, ↓reduceIte, reduceCtorEq]
  refine Callx.closed (toEntrySS hB ss) rfl rfl (.inl rfl) ?_
  simp -implicitDefEqProofs (maxSteps := 2000000) only [push_cast, Nat.reduceEqDiff, Nat.reduceLT, Nat.reduceLeDiff, Nat.reduceAdd, Nat.reduceMul, Nat.reduceSub, Nat.reduceBEq, ↓reduceIte, reduceCtorEq]
  refine Callx.closed (eqEntrySS ss ss) rfl rfl (.inr ⟨rfl, rfl⟩) ?_
  simp -implicitDefEqProofs (maxSteps := 2000000) only [push_cast, Nat.reduceEqDiff, Nat.reduceLT, Nat.reduceLeDiff, Nat.reduceAdd, Nat.reduceMul, Nat.reduceSub, Nat.reduceBEq, ↓reduceIte, reduceCtorEq]
  refine Callx.hand [3] (markEntrySS ss 1 (by omega) (by omega)) (by decide) (by simp only [push_cast, Nat.reduceEqDiff, Nat.reduceLT, Nat.reduceLeDiff, Nat.reduceAdd, Nat.reduceMul, Nat.reduceSub, Nat.reduceBEq, ↓reduceIte, reduceCtorEq]) rfl rfl (by simp only [push_cast, Nat.reduceEqDiff, Nat.reduceLT, Nat.reduceLeDiff, Nat.reduceAdd, Nat.reduceMul, Nat.reduceSub, Nat.reduceBEq, ↓reduceIte, reduceCtorEq] <;> rfl) rfl (.inr ⟨rfl, by simp only [push_cast, Nat.reduceEqDiff, Nat.reduceLT, Nat.reduceLeDiff, Nat.reduceAdd, Nat.reduceMul, Nat.reduceSub, Nat.reduceBEq, ↓reduceIte, reduceCtorEq] <;> rfl⟩) ?_
  simp -implicitDefEqProofs (maxSteps := 2000000) only [push_cast, Nat.reduceEqDiff, Nat.reduceLT, Nat.reduceLeDiff, Nat.reduceAdd, Nat.reduceMul, Nat.reduceSub, Nat.reduceBEq, ↓reduceIte, reduceCtorEq]
  rw [if_neg (by omega)]
  refine Callx.closed (eqEntryS sa sa) rfl rfl (.inr ⟨rfl, rfl⟩) ?_
  simp -implicitDefEqProofs (maxSteps := 2000000) only [push_cast, Nat.reduceEqDiff, Nat.reduceLT, Nat.reduceLeDiff, Nat.reduceAdd, Nat.reduceMul, Nat.reduceSub, Nat.reduceBEq, ↓reduceIte, reduceCtorEq]
  refine Callx.closed (eqStringS so so) rfl rfl (.inr ⟨rfl, rfl⟩) ?_
  simp -implicitDefEqProofs (maxSteps := 2000000) only [push_cast, Nat.reduceEqDiff, Nat.reduceLT, Nat.reduceLeDiff, Nat.reduceAdd, Nat.reduceMul, Nat.reduceSub, Nat.reduceBEq, ↓reduceIte, reduceCtorEq]
  refine Callx.hand [4] (markEntryS sa 1 (by omega) (by omega)) (by decide) (by simp only [push_cast, Nat.reduceEqDiff, Nat.reduceLT, Nat.reduceLeDiff, Nat.reduceAdd, Nat.reduceMul, Nat.reduceSub, Nat.reduceBEq, ↓reduceIte, reduceCtorEq]) rfl rfl (by simp only [push_cast, Nat.reduceEqDiff, Nat.reduceLT, Nat.reduceLeDiff, Nat.reduceAdd, Nat.reduceMul, Nat.reduceSub, Nat.reduceBEq, ↓reduceIte, reduceCtorEq] <;> rfl) rfl (.inr ⟨rfl, by simp only [push_cast, Nat.reduceEqDiff, Nat.reduceLT, Nat.reduceLeDiff, Nat.reduceAdd, Nat.reduceMul, Nat.reduceSub, Nat.reduceBEq, ↓reduceIte, reduceCtorEq] <;> rfl⟩) ?_
  simp -implicitDefEqProofs (maxSteps := 2000000) only [push_cast, Nat.reduceEqDiff, Nat.reduceLT, Nat.reduceLeDiff, Nat.reduceAdd, Nat.reduceMul, Nat.reduceSub, Nat.reduceBEq, ↓reduceIte, reduceCtorEq]
  have hm := totC (n := 1) (xs := so)
  refine Callx.hand [5] (markStringS so (1 + 3 * sa.length) (by omega) (by omega)) (by decide) (by simp only [push_cast, Nat.reduceEqDiff, Nat.reduceLT, Nat.reduceLeDiff, Nat.reduceAdd, Nat.reduceMul, Nat.reduceSub, Nat.reduceBEq, ↓reduceIte, reduceCtorEq]) rfl rfl (by simp only [push_cast, Nat.reduceEqDiff, Nat.reduceLT, Nat.reduceLeDiff, Nat.reduceAdd, Nat.reduceMul, Nat.reduceSub, Nat.reduceBEq, ↓reduceIte, reduceCtorEq] <;> rfl) rfl (.inr ⟨rfl, by simp only [push_cast, Nat.reduceEqDiff, Nat.reduceLT, Nat.reduceLeDiff, Nat.reduceAdd, Nat.reduceMul, Nat.reduceSub, Nat.reduceBEq, ↓reduceIte, reduceCtorEq] <;> rfl⟩) ?_
  simp -implicitDefEqProofs (maxSteps := 2000000) only [push_cast, Nat.reduceEqDiff, Nat.reduceLT, Nat.reduceLeDiff, Nat.reduceAdd, Nat.reduceMul, Nat.reduceSub, Nat.reduceBEq, ↓reduceIte, reduceCtorEq]
  refine Callx.closed (heldEntryS sa.length 1 (by omega) (by omega)) rfl rfl (.inr ⟨rfl, rfl⟩) ?_
  simp -implicitDefEqProofs (maxSteps := 2000000) only [push_cast, Nat.reduceEqDiff, Nat.reduceLT, Nat.reduceLeDiff, Nat.reduceAdd, Nat.reduceMul, Nat.reduceSub, Nat.reduceBEq, ↓reduceIte, reduceCtorEq]
  rw [if_neg (by omega)]
  refine Callx.closed (heldStringS so (1 + 3 * sa.length) (by omega) (by omega)) rfl rfl (.inr ⟨rfl, rfl⟩) ?_
  simp -implicitDefEqProofs (maxSteps := 2000000) only [push_cast, Nat.reduceEqDiff, Nat.reduceLT, Nat.reduceLeDiff, Nat.reduceAdd, Nat.reduceMul, Nat.reduceSub, Nat.reduceBEq, ↓reduceIte, reduceCtorEq]
  rw [if_neg (by omega)]
  refine Callx.closed (toEntrySS hB ss) rfl rfl (.inl rfl) ?_
  simp -implicitDefEqProofs (maxSteps := 2000000) only [push_cast, Nat.reduceEqDiff, Nat.reduceLT, Nat.reduceLeDiff, Nat.reduceAdd, Nat.reduceMul, Nat.reduceSub, Nat.reduceBEq, ↓reduceIte, reduceCtorEq]
  refine Callx.closed hi rfl rfl (.inr ⟨rfl, rfl⟩) ?_
  simp -implicitDefEqProofs (maxSteps := 2000000) only [push_cast, Nat.reduceEqDiff, Nat.reduceLT, Nat.reduceLeDiff, Nat.reduceAdd, Nat.reduceMul, Nat.reduceSub, Nat.reduceBEq, ↓reduceIte, reduceCtorEq]
  refine Callx.closed (eqEntryS sa sa) rfl rfl (.inr ⟨rfl, rfl⟩) ?_
  simp -implicitDefEqProofs (maxSteps := 2000000) only [push_cast, Nat.reduceEqDiff, Nat.reduceLT, Nat.reduceLeDiff, Nat.reduceAdd, Nat.reduceMul, Nat.reduceSub, Nat.reduceBEq, ↓reduceIte, reduceCtorEq]
  refine Callx.closed (eqStringS so so) rfl rfl (.inr ⟨rfl, rfl⟩) ?_
  simp -implicitDefEqProofs (maxSteps := 2000000) only [push_cast, Nat.reduceEqDiff, Nat.reduceLT, Nat.reduceLeDiff, Nat.reduceAdd, Nat.reduceMul, Nat.reduceSub, Nat.reduceBEq, ↓reduceIte, reduceCtorEq]
  refine Callx.closed (heldEntryS sa.length 1 (by omega) (by omega)) rfl rfl (.inr ⟨rfl, rfl⟩) ?_
  simp -implicitDefEqProofs (maxSteps := 2000000) only [push_cast, Nat.reduceEqDiff, Nat.reduceLT, Nat.reduceLeDiff, Nat.reduceAdd, Nat.reduceMul, Nat.reduceSub, Nat.reduceBEq, ↓reduceIte, reduceCtorEq]
  rw [if_neg (by omega)]
  refine Callx.closed (heldStringS so (1 + 3 * sa.length) (by omega) (by omega)) rfl rfl (.inr ⟨rfl, rfl⟩) ?_
  simp -implicitDefEqProofs (maxSteps := 2000000) only [push_cast, Nat.reduceEqDiff, Nat.reduceLT, Nat.reduceLeDiff, Nat.reduceAdd, Nat.reduceMul, Nat.reduceSub, Nat.reduceBEq, ↓reduceIte, reduceCtorEq]
  rw [if_neg (by omega)]
  trivial
end Go.Proofs.Ytmgdkkhnjkepiaa.BX
