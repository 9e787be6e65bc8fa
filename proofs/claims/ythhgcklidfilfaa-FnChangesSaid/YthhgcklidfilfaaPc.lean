/-
  Changes, plainly: a delta patches, a put is found.
-/
import Derived.Test.YthhgcklidfilfaaSq
namespace Go.Proofs.Ythhgcklidfilfaa.BX
set_option linter.unusedSectionVars false
set_option linter.unusedSimpArgs false
set_option linter.unusedVariables false
open Go Go.RowKit
set_option maxRecDepth 20000
set_option maxHeartbeats 400000

theorem perm_get {m m' : List (SlotK × List UInt8)} (hn : (m.map (·.1)).Nodup) (hp : List.Perm m m') (k : SlotK) : aget k m = aget k m' := by
  have hn' : (m'.map (·.1)).Nodup := (hp.map _).nodup_iff.1 hn
  refine Option.ext fun v => ?_
  have h1 := mem_aget hn (p := (k, v))
  have h2 := mem_aget hn' (p := (k, v))
  rw [← h1, ← h2]
  exact hp.mem_iff
theorem ord_keys {s : List Entry} (h : Ordered s) : ((s.map Entry.pair).map (·.1)).Nodup := ordered_keys h
theorem setL_get {s : List Entry} {e : Entry} (h : Ordered s) (k : SlotK) : aget k ((setL s e false).map Entry.pair) = if e.slot = k then (if e.id = [] then none else some e.id) else aget k (s.map Entry.pair) := by
  obtain ⟨h1, h2, h3⟩ := setL_spec (e := e) (keep := false) h
  by_cases he : e.id = []
  · rw [perm_get (ord_keys h1) (h3 (by simp [he])) k, aget_del (ord_keys h), if_pos he]
  · rw [perm_get (ord_keys h1) (h2 (by simp [he])) k, aget_set, if_neg he]
def chOf (o : Option (List UInt8)) (c : Option (List UInt8)) : Option (List UInt8) := match c with
  | none => o
  | some v => if v = [] then none else some v
theorem patchL_get (k : SlotK) : ∀ {ch s : List Entry}, Ordered s → (ch.map Entry.slot).Nodup → aget k ((patchL s ch).map Entry.pair) = chOf (aget k (s.map Entry.pair)) (aget k (ch.map Entry.pair))
  | [], s, _, _ => rfl
  | e :: ch, s, h, hn => by
    rw [List.map_cons, List.nodup_cons] at hn
    have ih := patchL_get k (ch := ch) (setL_spec (e := e) (keep := false) h).1 hn.2
    show aget k ((patchL (setL s e false) ch).map Entry.pair) = _
    rw [ih, setL_get h k]
    simp only [List.map_cons, aget]
    by_cases hk : e.slot = k
    · rw [if_pos hk, if_pos (show e.pair.1 = k from hk)]
      have : aget k (ch.map Entry.pair) = none := aget_none.2 (by rw [slots_pairs, ← hk]; exact hn.1)
      rw [this]
      rfl
    · rw [if_neg hk, if_neg (show ¬ e.pair.1 = k from hk)]
theorem delta_get {a b : List Entry} (ha : stateOk a = true) (hb : stateOk b = true) (k : SlotK) : aget k ((deltaL a b).map Entry.pair) = dvOf a b k := by
  have na := inOrd_nodup (stateOk_ord ha).1
  have nb := inOrd_nodup (stateOk_ord hb).1
  have nd := d12_nodup na nb
  have h1 := putsL_pairs (s := []) .nil nd (by simp)
  rw [List.map_nil, List.nil_append] at h1
  rw [← aget_d12 na]
  exact perm_get (ord_keys (putsL_ord .nil).1) h1 k
theorem delta_ord {a b : List Entry} : Ordered (deltaL a b) := (putsL_ord .nil).1
theorem ordered_state {s : List Entry} (h : stateOk s = true) : Ordered s := ordered_of (stateOk_ord h).1
theorem get_id {s : List Entry} (h : stateOk s = true) (k : SlotK) : (aget k (s.map Entry.pair) = none ∧ findId k s = []) ∨ (aget k (s.map Entry.pair) = some (findId k s) ∧ findId k s ≠ []) := findId_get (stateOk_ord h).2.2
theorem ord_get {s t : List Entry} (hs : Ordered s) (ht : Ordered t) (h : ∀ k, aget k (s.map Entry.pair) = aget k (t.map Entry.pair)) : s = t :=
  ord_perm hs ht (permE_pairs (perm_aget (ord_keys hs) (ord_keys ht) h))
theorem patch_delta {a b : List Entry} (ha : stateOk a = true) (hb : stateOk b = true) : patchL a (deltaL a b) = b := by
  have oa := ordered_state ha
  refine ord_get (patchL_ord oa).1 (ordered_state hb) fun k => ?_
  rw [patchL_get k oa (inOrd_nodup (inOrd_of delta_ord)), delta_get ha hb]
  unfold dvOf
  rcases get_id ha k with ⟨h1, h2⟩ | ⟨h1, h2⟩ <;> rcases get_id hb k with ⟨h3, h4⟩ | ⟨h3, h4⟩ <;> rw [h1, h3] <;> dsimp only [chOf]
  · rw [if_neg h4]
  · rw [if_pos (by rw [h4]; exact fun h => h2 h.symm)]
    dsimp only
    rw [if_pos h4]
  · by_cases he : findId k b = findId k a
    · rw [if_neg (by simpa using he)]
      exact congrArg some he.symm
    · rw [if_pos he]
      dsimp only
      rw [if_neg h4]
theorem pOk_delta {a b : List Entry} (ha : stateOk a = true) (hb : stateOk b = true) : pOk a (deltaL a b) = true := by
  unfold pOk
  rw [patch_delta ha hb, ha, inOrd_of delta_ord]
  have h1 := delta_len (a := a) (b := b)
  have h2 := (stateOk_ord ha).2.1
  have h3 := (stateOk_ord hb).2.1
  simp only [Bool.true_and, Bool.and_true, Bool.and_eq_true, decide_eq_true_eq]
  omega
theorem delta_self {a : List Entry} (ha : stateOk a = true) : deltaL a a = [] := by
  have h := delta_is (m := []) ha ha (by simp) fun k => by
    unfold dvOf
    rcases get_id ha k with ⟨h1, h2⟩ | ⟨h1, h2⟩ <;> rw [h1]
    · rfl
    · dsimp only
      rw [if_neg (by simp)]
      rfl
  exact List.eq_nil_of_length_eq_zero h.len.symm
theorem put_ok {a : List Entry} {e : Entry} (h : pOk a [e] = true) : stateOk (setL a e false) = true ∧ pRes a [e] = setL a e false := by
  have hr : pRes a [e] = setL a e false := by rw [pRes, if_pos h, patchL_one]
  unfold pOk at h
  simp only [Bool.and_eq_true, decide_eq_true_eq] at h
  obtain ⟨⟨h1, _⟩, h2⟩ := h
  rw [patchL_one] at h2
  exact ⟨stateOk_of (inOrd_of (setL_spec (ordered_state h1)).1) h2 (setL_ids (stateOk_ord h1).2.2), hr⟩
theorem put_find {a : List Entry} {e : Entry} (h : pOk a [e] = true) (he : e.id ≠ []) : fId (setL a e false) e.typ e.key = e.id ∧ fOk (setL a e false) e.typ e.key = true := by
  obtain ⟨h1, _⟩ := put_ok h
  have ho : Ordered a := by unfold pOk at h; simp only [Bool.and_eq_true] at h; exact ordered_state h.1.1
  have hg := setL_get (e := e) ho e.slot
  rw [if_pos rfl, if_neg he] at hg
  have hf : findId (e.typ, e.key) (setL a e false) = e.id := by
    rcases get_id h1 e.slot with ⟨h2, h3⟩ | ⟨h2, h3⟩
    · rw [h2] at hg; cases hg
    · rw [h2] at hg; exact Option.some.inj hg
  unfold fId fOk
  rw [if_pos h1, if_pos h1, hf]
  exact ⟨rfl, decide_eq_true he⟩
theorem put_kept {a : List Entry} {e x : Entry} (h : pOk a [e] = true) (he : e.id ≠ []) (hx : x ∈ a) : fOk (setL a e false) x.typ x.key = true ∧ (e.slot ≠ x.slot → fId (setL a e false) x.typ x.key = x.id) := by
  obtain ⟨h1, _⟩ := put_ok h
  have ha : stateOk a = true := by unfold pOk at h; simp only [Bool.and_eq_true] at h; exact h.1.1
  have hg := setL_get (e := e) (ordered_state ha) x.slot
  have hxg : aget x.slot (a.map Entry.pair) = some x.id := (mem_aget (ord_keys (ordered_state ha)) (p := x.pair)).1 (List.mem_map_of_mem hx)
  rw [if_neg he, hxg] at hg
  unfold fId fOk
  rw [if_pos h1, if_pos h1]
  rcases get_id h1 x.slot with ⟨h2, h3⟩ | ⟨h2, h3⟩
  · rw [h2] at hg; split at hg <;> cases hg
  · refine ⟨decide_eq_true h3, fun hne => ?_⟩
    rw [h2, if_neg hne] at hg
    exact Option.some.inj hg
end Go.Proofs.Ythhgcklidfilfaa.BX
