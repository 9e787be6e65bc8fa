/-
  'Delta', the document's and the program's.
-/
import Derived.Test.YthhgcklidfilfaaPt
namespace Go.Proofs.Ythhgcklidfilfaa.BX
set_option linter.unusedSectionVars false
set_option linter.unusedSimpArgs false
set_option linter.unusedVariables false
open Go Go.RowKit
set_option maxRecDepth 20000
set_option maxHeartbeats 400000

/-! ### the plain law -/
def d1 (b a : List Entry) : List Entry := a.filterMap fun e => if findId e.slot b ≠ e.id then some ⟨e.typ, e.key, findId e.slot b⟩ else none
def d2 (a b : List Entry) : List Entry := b.filter fun e => decide (e.slot ∉ a.map Entry.slot)
def putsL (s ch : List Entry) : List Entry := ch.foldl (fun o e => setL o e true) s
def deltaL (a b : List Entry) : List Entry := putsL [] (d1 b a ++ d2 a b)
theorem putsL_snoc {s ch : List Entry} {e : Entry} : putsL s (ch ++ [e]) = setL (putsL s ch) e true := by simp [putsL, List.foldl_append]
theorem putsL_ord {ch : List Entry} : ∀ {s : List Entry}, Ordered s → Ordered (putsL s ch) ∧ (putsL s ch).length ≤ s.length + ch.length := by
  induction ch with
  | nil => intro s h; exact ⟨h, by simp [putsL]⟩
  | cons e ch ih =>
    intro s h
    have h1 := (setL_spec (e := e) (keep := true) h).1
    have h2 := setL_len_ord (e := e) (keep := true) h
    have h3 := ih h1
    refine ⟨h3.1, ?_⟩
    have h4 := h3.2
    simp only [List.length_cons]
    show (putsL (setL s e true) ch).length ≤ _
    omega
theorem putsL_pairs {ch : List Entry} : ∀ {s : List Entry}, Ordered s → (ch.map Entry.slot).Nodup → (∀ e ∈ ch, e.slot ∉ s.map Entry.slot) → List.Perm ((putsL s ch).map Entry.pair) (s.map Entry.pair ++ ch.map Entry.pair) := by
  induction ch with
  | nil => intro s _ _ _; simp [putsL]
  | cons e ch ih =>
    intro s h hn hd
    simp only [List.map_cons, List.nodup_cons] at hn
    have h1 := setL_spec (e := e) (keep := true) h
    have hm : ((s.map Entry.pair).map (·.1)) = s.map Entry.slot := by rw [List.map_map]; rfl
    have h2 := h1.2.1 (by simp)
    rw [aset_new (by rw [hm]; exact hd e (by simp))] at h2
    have hslots : ∀ k, k ∈ (setL s e true).map Entry.slot → k ∈ s.map Entry.slot ∨ k = e.slot := by
      intro k hk
      obtain ⟨x, hx, rfl⟩ := List.mem_map.1 hk
      rcases setL_mem hx with hx | hx
      · exact .inl (List.mem_map_of_mem hx)
      · rw [hx]; exact .inr rfl
    have h3 := ih h1.1 hn.2 (fun x hx hk => by
      rcases hslots _ hk with hk | hk
      · exact hd x (by simp [hx]) hk
      · exact hn.1 (hk ▸ List.mem_map_of_mem hx))
    refine h3.trans ?_
    refine (h2.append_right _).trans ?_
    rw [List.append_assoc]
    exact List.Perm.refl _
theorem d1_len {b a : List Entry} : (d1 b a).length ≤ a.length := List.length_filterMap_le ..
theorem d2_len {a b : List Entry} : (d2 a b).length ≤ b.length := List.length_filter_le ..
theorem d1_slots {b : List Entry} : ∀ {a : List Entry}, List.Sublist ((d1 b a).map Entry.slot) (a.map Entry.slot)
  | [] => by simp [d1]
  | e :: a => by
    have ih := d1_slots (b := b) (a := a)
    unfold d1 at ih ⊢
    rw [List.filterMap_cons]
    by_cases h : findId e.slot b ≠ e.id
    · rw [if_pos h]
      simp only [List.map_cons]
      exact ih.cons_cons _
    · rw [if_neg h]
      simp only [List.map_cons]
      exact ih.cons _
theorem d12_nodup {a b : List Entry} (ha : (a.map Entry.slot).Nodup) (hb : (b.map Entry.slot).Nodup) : ((d1 b a ++ d2 a b).map Entry.slot).Nodup := by
  rw [List.map_append, List.nodup_append]
  refine ⟨List.Nodup.sublist d1_slots ha, List.Nodup.sublist (List.filter_sublist.map _) hb, fun x hx y hy hxy => ?_⟩
  subst hxy
  obtain ⟨e, he, rfl⟩ := List.mem_map.1 hy
  have := (List.mem_filter.1 he).2
  exact (of_decide_eq_true this) (d1_slots.subset hx)
theorem aget_append {k : SlotK} : ∀ {l1 l2 : List (SlotK × List UInt8)}, aget k (l1 ++ l2) = match aget k l1 with
    | some v => some v
    | none => aget k l2
  | [], l2 => rfl
  | p :: l1, l2 => by
    simp only [List.cons_append, aget]
    by_cases h : p.1 = k
    · rw [if_pos h, if_pos h]
    · rw [if_neg h, if_neg h, aget_append]
/-- what has changed at a slot -/
def dvOf (a b : List Entry) (k : SlotK) : Option (List UInt8) := match aget k (a.map Entry.pair) with
  | some x => if findId k b ≠ x then some (findId k b) else none
  | none => aget k (b.map Entry.pair)
theorem slots_pairs {s : List Entry} : (s.map Entry.pair).map (·.1) = s.map Entry.slot := by rw [List.map_map]; rfl
theorem aget_d1 {k : SlotK} {b : List Entry} : ∀ {a : List Entry}, (a.map Entry.slot).Nodup → aget k ((d1 b a).map Entry.pair) = match aget k (a.map Entry.pair) with
    | some x => if findId k b ≠ x then some (findId k b) else none
    | none => none
  | [], _ => rfl
  | e :: a, hn => by
    simp only [List.map_cons, List.nodup_cons] at hn
    have ih := aget_d1 (k := k) (b := b) hn.2
    unfold d1 at ih ⊢
    rw [List.filterMap_cons]
    simp only [List.map_cons, aget]
    by_cases hk : e.slot = k
    · rw [if_pos (show e.pair.1 = k from hk)]
      subst hk
      by_cases h : findId e.slot b ≠ e.id
      · rw [if_pos h]
        simp only [List.map_cons, aget]
        rw [if_pos (show (Entry.pair ⟨e.typ, e.key, findId e.slot b⟩).1 = e.slot from rfl)]
        show _ = if findId e.slot b ≠ e.id then _ else _
        rw [if_pos h]
        rfl
      · rw [if_neg h]
        show _ = if findId e.slot b ≠ e.id then _ else _
        rw [if_neg h]
        dsimp only
        rw [ih, aget_none.2 (by rw [slots_pairs]; exact hn.1)]
    · rw [if_neg (show ¬ e.pair.1 = k from hk)]
      by_cases h : findId e.slot b ≠ e.id
      · rw [if_pos h]
        simp only [List.map_cons, aget]
        rw [if_neg (show ¬ (Entry.pair ⟨e.typ, e.key, findId e.slot b⟩).1 = k from hk), ih]
      · rw [if_neg h]
        exact ih
theorem aget_d2 {k : SlotK} {a : List Entry} : ∀ {b : List Entry}, aget k ((d2 a b).map Entry.pair) = if k ∈ a.map Entry.slot then none else aget k (b.map Entry.pair)
  | [] => by simp [d2, aget]
  | e :: b => by
    have ih := aget_d2 (k := k) (a := a) (b := b)
    unfold d2 at ih ⊢
    by_cases h : e.slot ∈ a.map Entry.slot
    · rw [List.filter_cons_of_neg (by simpa using h), ih]
      simp only [List.map_cons, aget]
      by_cases hk : e.slot = k
      · subst hk; rw [if_pos h, if_pos h]
      · rw [if_neg (show ¬ e.pair.1 = k from hk)]
    · rw [List.filter_cons_of_pos (by simpa using h)]
      simp only [List.map_cons, aget]
      by_cases hk : e.slot = k
      · subst hk; rw [if_pos (show e.pair.1 = e.slot from rfl), if_neg h, if_pos (show e.pair.1 = e.slot from rfl)]
      · rw [if_neg (show ¬ e.pair.1 = k from hk), if_neg (show ¬ e.pair.1 = k from hk), ih]
theorem aget_d12 {k : SlotK} {a b : List Entry} (ha : (a.map Entry.slot).Nodup) : aget k ((d1 b a ++ d2 a b).map Entry.pair) = dvOf a b k := by
  rw [List.map_append, aget_append, aget_d1 ha, aget_d2]
  unfold dvOf
  cases h : aget k (a.map Entry.pair) with
  | none =>
    have := aget_none.1 h
    rw [slots_pairs] at this
    simp only
    rw [if_neg this]
  | some x =>
    have : k ∈ a.map Entry.slot := by
      rw [← slots_pairs]
      exact Classical.byContradiction fun hn => by rw [aget_none.2 hn] at h; cases h
    dsimp only
    by_cases h3 : findId k b ≠ x
    · rw [if_pos h3]
    · rw [if_neg h3]
      dsimp only
      rw [if_pos this]
theorem mem_aget {m : List (SlotK × List UInt8)} (hn : (m.map (·.1)).Nodup) {p : SlotK × List UInt8} : p ∈ m ↔ aget p.1 m = some p.2 := by
  constructor
  · intro h
    obtain ⟨i, hi⟩ := List.getElem?_of_mem h
    exact aget_at hn hi rfl
  · intro h
    induction m with
    | nil => cases h
    | cons q m ih =>
      simp only [List.map_cons, List.nodup_cons] at hn
      simp only [aget] at h
      split at h
      · rename_i hq
        have h2 : q.2 = p.2 := Option.some.inj h
        have : p = q := Prod.ext hq.symm h2.symm
        rw [this]; simp
      · exact List.mem_cons_of_mem _ (ih hn.2 h)
theorem nodup_keys {m : List (SlotK × List UInt8)} (hn : (m.map (·.1)).Nodup) : m.Nodup := by
  induction m with
  | nil => exact List.nodup_nil
  | cons p m ih =>
    simp only [List.map_cons, List.nodup_cons] at hn ⊢
    exact ⟨fun h => hn.1 (List.mem_map_of_mem h), ih hn.2⟩
theorem perm_aget {m m' : List (SlotK × List UInt8)} (hn : (m.map (·.1)).Nodup) (hn' : (m'.map (·.1)).Nodup) (h : ∀ k, aget k m = aget k m') : List.Perm m m' :=
  (List.perm_ext_iff_of_nodup (nodup_keys hn) (nodup_keys hn')).2 fun p => by rw [mem_aget hn, mem_aget hn', h]
/-- a map that holds the changes is the list of changes -/
theorem delta_is {a b : List Entry} {m : List (SlotK × List UInt8)} (ha : stateOk a = true) (hb : stateOk b = true) (hn : (m.map (·.1)).Nodup) (h : ∀ k, aget k m = dvOf a b k) : Is m (deltaL a b) := by
  have na := inOrd_nodup (stateOk_ord ha).1
  have nb := inOrd_nodup (stateOk_ord hb).1
  have nd := d12_nodup na nb
  refine ⟨?_, (putsL_ord .nil).1⟩
  have h1 := putsL_pairs (s := []) .nil nd (by simp)
  rw [List.map_nil, List.nil_append] at h1
  refine (perm_aget hn (by rw [slots_pairs]; exact nd) fun k => ?_).trans h1.symm
  rw [h, aget_d12 na]
theorem delta_len {a b : List Entry} : (deltaL a b).length ≤ a.length + b.length := by
  have h1 := (putsL_ord (s := []) (ch := d1 b a ++ d2 a b) .nil).2
  have h2 := d1_len (b := b) (a := a)
  have h3 := d2_len (a := a) (b := b)
  rw [List.length_append, List.length_nil] at h1
  unfold deltaL
  omega

end Go.Proofs.Ythhgcklidfilfaa.BX
