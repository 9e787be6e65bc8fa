/-
  'Save', the plain part; states compared.
-/
import Derived.Test.YthhgcklidfilfaaDc
import Derived.Test.YthhgcklidfilfaaEx
namespace Go.Proofs.Ythhgcklidfilfaa.BX
set_option linter.unusedSectionVars false
set_option linter.unusedSimpArgs false
set_option linter.unusedVariables false
open Go Go.RowKit
set_option maxRecDepth 20000
set_option maxHeartbeats 400000

/-- the first group so far that has this state -/
noncomputable def fdTo (gs : List Group) (s : List Entry) : Nat → Int
  | 0 => -1
  | i + 1 => if 0 ≤ fdTo gs s i then fdTo gs s i else @ite _ (expandOf gs i = s) (Classical.propDecidable _) (i : Int) (-1)
theorem fdTo_none {gs : List Group} {s : List Entry} : ∀ {i : Nat}, (∀ j < i, expandOf gs j ≠ s) → fdTo gs s i = -1
  | 0, _ => rfl
  | i + 1, h => by
    rw [fdTo, fdTo_none (i := i) (fun j hj => h j (by omega)), if_neg (by omega), if_neg (h i (by omega))]
theorem fdTo_at {gs : List Group} {s : List Entry} {i : Nat} (h : ∀ j < i, expandOf gs j ≠ s) (he : expandOf gs i = s) : ∀ {n : Nat}, i < n → fdTo gs s n = i
  | 0, hn => by omega
  | n + 1, hn => by
    rw [fdTo]
    rcases Nat.lt_or_ge i n with h1 | h1
    · rw [fdTo_at h he h1, if_pos (by omega)]
    · have : n = i := by omega
      subst this
      rw [fdTo_none h, if_neg (by omega), if_pos he]
theorem fdTo_range {gs : List Group} {s : List Entry} : ∀ {i : Nat}, -1 ≤ fdTo gs s i ∧ fdTo gs s i < i
  | 0 => by simp [fdTo]
  | i + 1 => by
    have := fdTo_range (gs := gs) (s := s) (i := i)
    rw [fdTo]
    split
    · omega
    · split <;> omega
theorem fdTo_is {gs : List Group} {s : List Entry} : ∀ {n : Nat}, 0 ≤ fdTo gs s n → expandOf gs (fdTo gs s n).toNat = s
  | 0, h => by simp [fdTo] at h
  | n + 1, h => by
    rw [fdTo] at h ⊢
    split
    · rename_i h1; exact fdTo_is h1
    · rename_i h1
      rw [if_neg h1] at h
      split
      · rename_i h2; rw [Int.toNat_natCast]; exact h2
      · rename_i h2; rw [if_neg h2] at h; omega
/-- the group that is put behind -/
noncomputable def newG (gs : List Group) (s : List Entry) (near : Int) : Group := if 0 ≤ near ∧ near < gs.length ∧ linksOf gs near.toNat < 4 then ⟨near, deltaL (expandOf gs near.toNat) s⟩ else ⟨-1, s⟩
noncomputable def svOk (gs : List Group) (s : List Entry) : Bool := storeOk gs && stateOk s
noncomputable def saveG (gs : List Group) (s : List Entry) (near : Int) : List Group := if svOk gs s = true then (if 0 ≤ fdTo gs s gs.length then gs else if 1000 ≤ gs.length then [] else gs ++ [newG gs s near]) else []
noncomputable def saveN (gs : List Group) (s : List Entry) : Int := if svOk gs s = true then (if 0 ≤ fdTo gs s gs.length then fdTo gs s gs.length else if 1000 ≤ gs.length then -1 else gs.length) else -1

theorem setL_ids {s : List Entry} {e : Entry} (h : ∀ x ∈ s, x.id ≠ []) : ∀ x ∈ setL s e false, x.id ≠ [] := by
  intro x hx
  unfold setL at hx
  rcases List.mem_append.1 hx with hx | hx
  · exact h x ((List.takeWhile_prefix _).subset hx)
  · rcases List.mem_append.1 hx with hx | hx
    · split at hx
      · rename_i hc
        simp at hx
        subst hx
        simpa using hc
      · cases hx
    · exact h x (List.mem_filter.1 hx).1
theorem patchL_ids {ch : List Entry} : ∀ {s : List Entry}, (∀ x ∈ s, x.id ≠ []) → ∀ x ∈ patchL s ch, x.id ≠ [] := by
  induction ch with
  | nil => intro s h; exact h
  | cons e ch ih => intro s h; exact ih (setL_ids h)
theorem stateOk_of {s : List Entry} (h1 : inOrd s = true) (h2 : s.length ≤ 300) (h3 : ∀ e ∈ s, e.id ≠ []) : stateOk s = true := by
  unfold stateOk
  simp only [Bool.and_eq_true, decide_eq_true_eq]
  exact ⟨h3, by omega, h1⟩
theorem expandOf_ids {gs : List Group} (i : Nat) (h : ∀ j ≤ i, ∀ g, gs[j]? = some g → OkAt gs j g) : ∀ x ∈ expandOf gs i, x.id ≠ [] := by
  induction i using Nat.strongRecOn with
  | ind i ih =>
    intro x hx
    rw [expandOf] at hx
    split at hx
    · cases hx
    · rename_i g hg
      split at hx
      · rename_i hc
        exact patchL_ids (ih _ hc.2 fun j hj => h j (by omega)) x hx
      · rename_i hc
        have hk := h i (by omega) g hg
        exact (stateOk_ord (hk.base (by have := hk.lo; have := hk.hi; omega))).2.2 x hx
theorem expand_ok {gs : List Group} (h : storeOk gs = true) {i : Nat} (hi : i < gs.length) : stateOk (expandOf gs i) = true := by
  obtain ⟨hl, hu⟩ := storeUps h
  have ho := expandOf_ord (gs := gs) i fun j hj g hg => (hu j (by omega) g hg).ord
  refine stateOk_of (inOrd_of ho) ?_ (expandOf_ids i fun j hj g hg => hu j (by omega) g hg)
  exact (hu i hi _ (List.getElem?_eq_getElem hi)).full
/-- two states in order with the same entries are the same -/
theorem ord_perm {s t : List Entry} (hs : Ordered s) (ht : Ordered t) (hp : List.Perm s t) : s = t :=
  order_one hp ht (hs.imp fun h => before_asymm h)
theorem nodup_sub {α : Type} [DecidableEq α] : ∀ {l m : List α}, l.Nodup → (∀ x ∈ l, x ∈ m) → m.length ≤ l.length → ∀ x ∈ m, x ∈ l
  | [], m, _, _, hl, x, hx => by
    have : m = [] := List.eq_nil_of_length_eq_zero (by simpa using hl)
    subst this; cases hx
  | a :: l, m, hn, hs, hl, x, hx => by
    rw [List.nodup_cons] at hn
    have ha := hs a (by simp)
    by_cases hxa : x = a
    · simp [hxa]
    · have := nodup_sub (l := l) (m := m.erase a) hn.2 (fun y hy => (List.mem_erase_of_ne (by rintro rfl; exact hn.1 hy)).2 (hs y (by simp [hy]))) (by rw [List.length_erase_of_mem ha]; simp at hl ⊢; omega) x ((List.mem_erase_of_ne hxa).2 hx)
      simp [this]
/-- maps compared -/
noncomputable def eqM (m n : List (SlotK × List UInt8)) : Bool := decide (m.length = n.length) && @decide (∀ p ∈ m, aget p.1 n = some p.2) (Classical.propDecidable _)
theorem eqM_is {m n : List (SlotK × List UInt8)} {s t : List Entry} (hm : Is m s) (hn : Is n t) : eqM m n = true ↔ s = t := by
  have nm := hm.keys
  have nn := hn.keys
  unfold eqM
  simp only [Bool.and_eq_true, decide_eq_true_eq]
  constructor
  · rintro ⟨hl, ha⟩
    have hsub : ∀ p ∈ m, p ∈ n := fun p hp => (mem_aget nn).2 (ha p hp)
    have hsup := nodup_sub (nodup_keys nm) hsub (by omega)
    have hp : List.Perm m n := (List.perm_ext_iff_of_nodup (nodup_keys nm) (nodup_keys nn)).2 fun p => ⟨hsub p, hsup p⟩
    exact ord_perm hm.2 hn.2 (permE_pairs ((hm.1.symm.trans hp).trans hn.1))
  · rintro rfl
    have hp := hm.1.trans hn.1.symm
    exact ⟨hp.length_eq, fun p hp' => (mem_aget nn).1 (hp.subset hp')⟩
theorem eEntry_inj {a b : Entry} (h : eEntry a = eEntry b) : a = b := by
  cases a; cases b
  simpa [eEntry] using h

variable [Bd]
theorem l4Equal (a b : List Entry) : Con P0 73 [eEntryS a, eEntryS b] (.t (.b (decide (a = b)))) [] := by
  refine Con.intro (fn := Try.f73) [.tmp 4] (fun i => if i = 6 then (9, []) else (0, [])) mixed (by kernel_rfl) rfl (by decide) rfl (by rfl) (by kernel_rfl) ?_
  simp -implicitDefEqProofs (maxSteps := 2000000) only [push_cast, Nat.reduceEqDiff, Nat.reduceLT, Nat.reduceLeDiff, Nat.reduceAdd, Nat.reduceMul, Nat.reduceSub, Nat.reduceBEq, ↓reduceIte, reduceCtorEq]
  intro ha hb
  refine iteI (fun h => ?_) (fun h => ?_)
  · rw [decide_eq_false (fun e => h (by rw [e]))]
  have hl : a.length = b.length := by omega
  have hhi := Bd.hi
  refine WL.loop (ι := Nat) (D := (fun i => if i = 6 then (9, []) else (0, []))) (fun i => i ≤ a.length ∧ a.take i = b.take i) (fun i => ⟨26, [(0, .t (eEntryS a)), (1, .t (eEntryS b)), (5, .t (.i .i64 i))], []⟩) (fun i => a.length - i) mixed (by kernel_rfl) 0 ⟨by omega, by simp⟩ (Keep.wk (ids := []) ?_) ?_
  · simp only [push_cast, Nat.reduceEqDiff, Nat.reduceLT, Nat.reduceLeDiff, Nat.reduceAdd, Nat.reduceMul, Nat.reduceSub, Nat.reduceBEq, ↓reduceIte, reduceCtorEq] <;> rfl
  rintro i ⟨hi, hc⟩
  simp -implicitDefEqProofs (maxSteps := 2000000) only [push_cast, Nat.reduceEqDiff, Nat.reduceLT, Nat.reduceLeDiff, Nat.reduceAdd, Nat.reduceMul, Nat.reduceSub, Nat.reduceBEq, ↓reduceIte, reduceCtorEq, eEntry]
  intro _
  refine iteI (fun h2 => ⟨by omega, fun x hx => ⟨by omega, fun y hy => ?_⟩⟩) (fun h2 => ?_)
  · rw [Int.toNat_natCast] at hx hy
    by_cases hxy : x = y
    · subst hxy
      rw [if_neg (by simp)]
      refine ⟨by unfold inI64; omega, i + 1, ⟨by omega, by rw [List.take_add_one, List.take_add_one, hc, hx, hy]⟩, by omega, Keep.wk (ids := []) ?_⟩
      simp only [push_cast, Nat.reduceEqDiff, Nat.reduceLT, Nat.reduceLeDiff, Nat.reduceAdd, Nat.reduceMul, Nat.reduceSub, Nat.reduceBEq, ↓reduceIte, reduceCtorEq] <;> rfl
    · have hne : ¬ T.ag [T.s x.typ, T.s x.key, T.s x.id] = T.ag [T.s y.typ, T.s y.key, T.s y.id] := fun h => hxy (eEntry_inj h)
      rw [if_pos (@decide_eq_true _ (Classical.propDecidable _) hne), decide_eq_false (fun e => hxy (by rw [e, hy] at hx; exact (Option.some.inj hx).symm))]
  · rw [List.take_of_length_le (by omega), List.take_of_length_le (by omega)] at hc
    rw [decide_eq_true hc]
theorem mapsEqual (m n : List (SlotK × List UInt8)) (hm : (m.map (·.1)).Nodup) (hn : (n.map (·.1)).Nodup) : Con P0 87 [lvT m, lvT n] (.t (.b (eqM m n))) [] := by
  refine Con.intro (fn := Try.f87) [.tmp 4] (fun _ => (0, [])) mixed (by kernel_rfl) rfl (by decide) rfl (by rfl) (by kernel_rfl) ?_
  simp -implicitDefEqProofs (maxSteps := 2000000) only [push_cast, Nat.reduceEqDiff, Nat.reduceLT, Nat.reduceLeDiff, Nat.reduceAdd, Nat.reduceMul, Nat.reduceSub, Nat.reduceBEq, ↓reduceIte, reduceCtorEq, lvT]
  intro hml hnl
  refine iteI (fun h => ?_) (fun h => ?_)
  · have : eqM m n = false := by unfold eqM; rw [decide_eq_false (by omega), Bool.false_and]
    rw [this]
  have hl : m.length = n.length := by omega
  rw [lv_zip]
  have hset : ∀ b, eqM m n = b ↔ (@decide (∀ p ∈ m, aget p.1 n = some p.2) (Classical.propDecidable _)) = b := fun b => by unfold eqM; rw [decide_eq_true hl, Bool.true_and]
  refine WL.loop (ι := List (SlotK × List UInt8)) (D := (fun _ => (0, []))) (fun r => ∃ done, List.Perm (done ++ r) m ∧ ∀ p ∈ done, aget p.1 n = some p.2) (fun r => ⟨34, [(1, .t (lvT n)), (15, .it 0)], [.iter none (r.map lvP)]⟩) (fun r => r.length) mixed (by kernel_rfl) m ⟨[], by simp, by simp⟩ (Keep.wk (ids := [some 0]) ?_) ?_
  · simp only [push_cast, Nat.reduceEqDiff, Nat.reduceLT, Nat.reduceLeDiff, Nat.reduceAdd, Nat.reduceMul, Nat.reduceSub, Nat.reduceBEq, ↓reduceIte, reduceCtorEq, lvT] <;> first | rfl | trivial | exact ⟨rfl, rfl⟩
  rintro r ⟨done, hp, hd⟩
  simp -implicitDefEqProofs (maxSteps := 2000000) only [push_cast, Nat.reduceEqDiff, Nat.reduceLT, Nat.reduceLeDiff, Nat.reduceAdd, Nat.reduceMul, Nat.reduceSub, Nat.reduceBEq, ↓reduceIte, reduceCtorEq, lvT]
  refine ⟨fun h0 => ?_, fun i p hip => ?_⟩
  · have hr : r = [] := by simpa using h0
    subst hr
    rw [List.append_nil] at hp
    rw [(hset true).2 (@decide_eq_true _ (Classical.propDecidable _) fun p hpm => hd p (hp.symm.subset hpm))]
  · rw [List.getElem?_map, Option.map_eq_some_iff] at hip
    obtain ⟨q, hq, rfl⟩ := hip
    have hqm : q ∈ m := hp.subset (List.mem_append_right _ (List.mem_of_getElem? hq))
    simp -implicitDefEqProofs (maxSteps := 2000000) only [push_cast, Nat.reduceEqDiff, Nat.reduceLT, Nat.reduceLeDiff, Nat.reduceAdd, Nat.reduceMul, Nat.reduceSub, Nat.reduceBEq, ↓reduceIte, reduceCtorEq, lvP, eK, lvT]
    have hk : T.ag [T.s q.1.1, T.s q.1.2] = eK q.1 := rfl
    rw [hk]
    have hel := List.length_eraseIdx (l := r) (i := i)
    rw [if_pos (List.getElem?_eq_some_iff.1 hq).1] at hel
    have hil := (List.getElem?_eq_some_iff.1 hq).1
    have bad : aget q.1 n ≠ some q.2 → eqM m n = false := fun h => (hset false).2 (@decide_eq_false _ (Classical.propDecidable _) fun ha => h (ha q hqm))
    refine look_assoc (ev := T.s) eK_inj hn (fun p _ => of_eq_true eK_key) (fun v hv => ?_) (fun hv => ?_)
    · simp -implicitDefEqProofs (maxSteps := 2000000) only [push_cast, Nat.reduceEqDiff, Nat.reduceLT, Nat.reduceLeDiff, Nat.reduceAdd, Nat.reduceMul, Nat.reduceSub, Nat.reduceBEq, ↓reduceIte, reduceCtorEq, lvP, lvT]
      refine iteI (fun h2 => ?_) (fun h2 => ?_)
      · rw [bad (by rw [hv]; intro e; exact h2 (Option.some.inj e).symm)]
      · refine ⟨r.eraseIdx i, ⟨done ++ [q], ?_, fun p hp' => ?_⟩, by omega, Keep.wk (ids := [some 0]) ?_⟩
        · rw [List.append_assoc]
          exact ((erase_pick hq).symm.append_left _).trans hp
        · rcases List.mem_append.1 hp' with h3 | h3
          · exact hd p h3
          · simp at h3; subst h3; rw [hv]; congr 1; exact (Classical.not_not.1 h2).symm
        · simp only [push_cast, Nat.reduceEqDiff, Nat.reduceLT, Nat.reduceLeDiff, Nat.reduceAdd, Nat.reduceMul, Nat.reduceSub, Nat.reduceBEq, ↓reduceIte, reduceCtorEq, eraseE_map, lvT] <;> first | rfl | trivial | exact ⟨rfl, rfl⟩
    · simp -implicitDefEqProofs (maxSteps := 2000000) only [push_cast, Nat.reduceEqDiff, Nat.reduceLT, Nat.reduceLeDiff, Nat.reduceAdd, Nat.reduceMul, Nat.reduceSub, Nat.reduceBEq, ↓reduceIte, reduceCtorEq, lvP, lvT]
      rw [bad (by rw [hv]; simp)]
end Go.Proofs.Ythhgcklidfilfaa.BX
