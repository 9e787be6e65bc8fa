/-
  What events rest on: the plain laws.
-/
import Derived.Test.YthhgcklidfilfaaVr
namespace Go.Proofs.Ythhgcklidfilfaa.BX
set_option linter.unusedSectionVars false
set_option linter.unusedSimpArgs false
set_option linter.unusedVariables false
open Go Go.RowKit
set_option maxRecDepth 20000
set_option maxHeartbeats 400000

/-- the auth events of the event of this id -/
def authOf (es : List Event) (id : List UInt8) : List (List UInt8) := match posOf id es with
  | some i => match es[i]? with
    | some e => e.auth
    | none => []
  | none => []
theorem authOf_at {es : List Event} {i : Nat} {e : Event} {id : List UInt8} (hp : posOf id es = some i) (he : es[i]? = some e) : authOf es id = e.auth := by
  unfold authOf; rw [hp]; dsimp only; rw [he]
/-- the given ones, and all that they rest on -/
inductive Anc (es : List Event) (rs : List (List UInt8)) : List UInt8 → Prop
  | root {x : List UInt8} : x ∈ rs → Anc es rs x
  | step {x y : List UInt8} : Anc es rs y → x ∈ authOf es y → Anc es rs x
theorem Anc.least {es : List Event} {rs : List (List UInt8)} {C : List UInt8 → Prop} (h0 : ∀ x ∈ rs, C x) (h1 : ∀ y, C y → ∀ x ∈ authOf es y, C x) {x : List UInt8} (h : Anc es rs x) : C x := by
  induction h with
  | root h => exact h0 _ h
  | step _ hx ih => exact h1 _ ih _ hx
/-- an id of the room -/
def There (es : List Event) (x : List UInt8) : Prop := (posOf x es).isSome = true
theorem Valid.there {es : List Event} (h : Valid es) {y x : List UInt8} (hx : x ∈ authOf es y) : There es x := by
  unfold authOf at hx
  split at hx
  · split at hx
    · rename_i e he
      obtain ⟨k, a, _, _, _, hp⟩ := pos_ref ((h.good he).auth x hx)
      unfold There; rw [hp]; rfl
    · cases hx
  · cases hx
theorem Anc.there {es : List Event} {rs : List (List UInt8)} (h : Valid es) (hr : ∀ x ∈ rs, There es x) {x : List UInt8} (ha : Anc es rs x) : There es x :=
  ha.least hr fun _ _ _ hx => h.there hx
theorem there_at {es : List Event} {x : List UInt8} (h : There es x) : ∃ k a, es[k]? = some a ∧ a.id = x ∧ posOf x es = some k := by
  obtain ⟨k, hk⟩ := Option.isSome_iff_exists.1 h
  obtain ⟨a, h1, h2, _⟩ := posOf_some.1 hk
  exact ⟨k, a, h1, h2, hk⟩
theorem len_sub {α : Type} [DecidableEq α] : ∀ {l m : List α}, l.Nodup → (∀ x ∈ l, x ∈ m) → l.length ≤ m.length
  | [], _, _, _ => by simp
  | x :: l, m, hn, hs => by
    rw [List.nodup_cons] at hn
    have hx : x ∈ m := hs x (by simp)
    have h := len_sub (l := l) (m := m.erase x) hn.2 fun y hy => (List.mem_erase_of_ne (by rintro rfl; exact hn.1 hy)).2 (hs y (by simp [hy]))
    rw [List.length_erase_of_mem hx] at h
    have := List.length_pos_of_mem hx
    simp only [List.length_cons]
    omega
/-- what the document has gathered so far -/
structure Out (es : List Event) (rs out done : List (List UInt8)) : Prop where
  nodup : out.Nodup
  anc : ∀ x ∈ out, Anc es rs x
  all : ∀ x ∈ done, x ∈ out
theorem Out.len {es : List Event} {rs out done : List (List UInt8)} (h : Out es rs out done) (hv : Valid es) (hr : ∀ x ∈ rs, There es x) : out.length ≤ es.length := by
  have := len_sub (m := es.map (·.id)) h.nodup fun x hx => by
    obtain ⟨k, a, h1, h2, _⟩ := there_at ((h.anc x hx).there hv hr)
    exact List.mem_map.2 ⟨a, List.mem_of_getElem? h1, h2⟩
  simpa using this
theorem Out.old {es : List Event} {rs out done : List (List UInt8)} {x : List UInt8} (h : Out es rs out done) (hx : x ∈ out) : Out es rs out (done ++ [x]) :=
  ⟨h.nodup, h.anc, fun y hy => by
    rcases List.mem_append.1 hy with hy | hy
    · exact h.all y hy
    · rw [List.mem_singleton.1 hy]; exact hx⟩
theorem Out.new {es : List Event} {rs out done : List (List UInt8)} {x : List UInt8} (h : Out es rs out done) (hx : x ∉ out) (ha : Anc es rs x) : Out es rs (out ++ [x]) (done ++ [x]) :=
  ⟨List.nodup_append.2 ⟨h.nodup, by simp, fun a ha' b hb => by rw [List.mem_singleton.1 hb]; rintro rfl; exact hx ha'⟩, fun y hy => by
    rcases List.mem_append.1 hy with hy | hy
    · exact h.anc y hy
    · rw [List.mem_singleton.1 hy]; exact ha, fun y hy => by
    rcases List.mem_append.1 hy with hy | hy
    · exact List.mem_append_left _ (h.all y hy)
    · exact List.mem_append_right _ hy⟩
/-- all that is gathered at the end -/
theorem Out.is {es : List Event} {rs out : List (List UInt8)} (h : Out es rs out (rs ++ out.flatMap (authOf es))) (x : List UInt8) : x ∈ out ↔ Anc es rs x :=
  ⟨h.anc x, fun ha => ha.least (fun y hy => h.all y (List.mem_append_left _ hy)) fun y hy z hz => h.all z (List.mem_append_right _ (List.mem_flatMap.2 ⟨y, hy, hz⟩))⟩
open Classical in
/-- which events are among them -/
noncomputable def hadA (es : List Event) (rs : List (List UInt8)) : List Bool := es.map fun a => decide (Anc es rs a.id)
open Classical in
noncomputable def ancP (es : List Event) (rs : List (List UInt8)) (i : Nat) : Bool := match es[i]? with
  | some a => decide (Anc es rs a.id)
  | none => false
theorem hadA_get {es : List Event} {rs : List (List UInt8)} {i : Nat} (hi : i < es.length) : (hadA es rs)[i]? = some (ancP es rs i) := by
  unfold hadA ancP
  rw [List.getElem?_map, List.getElem?_eq_getElem hi]
  rfl
theorem hadA_len {es : List Event} {rs : List (List UInt8)} : (hadA es rs).length = es.length := by simp [hadA]
/-- their ids, in order -/
noncomputable def ancL (es : List Event) (rs : List (List UInt8)) : List (List UInt8) := srt (idsN es (ancP es rs) es.length)
theorem ancL_is {es : List Event} {rs out : List (List UInt8)} (hv : Valid es) (hr : ∀ x ∈ rs, There es x) (h : ∀ x, x ∈ out ↔ Anc es rs x) : sset out = ancL es rs := by
  refine asc_same sset_asc (srt_asc (idsN_nodup hv.once)) fun x => ?_
  unfold ancL
  rw [sset_mem, h, srt_perm.mem_iff, idsN_mem]
  constructor
  · intro ha
    obtain ⟨k, a, h1, h2, _⟩ := there_at (ha.there hv hr)
    refine ⟨k, a, (List.getElem?_eq_some_iff.1 h1).1, h1, ?_, h2⟩
    unfold ancP; rw [h1]
    exact @decide_eq_true _ (Classical.propDecidable _) (h2 ▸ ha)
  · rintro ⟨k, a, _, h1, hp, rfl⟩
    unfold ancP at hp; rw [h1] at hp
    exact @of_decide_eq_true _ (Classical.propDecidable _) hp
theorem ancL_len {es : List Event} {rs : List (List UInt8)} : (ancL es rs).length ≤ es.length := by
  unfold ancL; rw [srt_perm.length_eq]; exact idsN_len
/-- what the program has marked so far -/
structure Had (es : List Event) (rs : List (List UInt8)) (had : List Bool) (work : List Nat) (done : List (List UInt8)) (cur : Option Nat) : Prop where
  len : had.length = es.length
  anc : ∀ (k : Nat) (a : Event), es[k]? = some a → had[k]? = some true → Anc es rs a.id
  pile : ∀ k ∈ work, had[k]? = some true
  all : ∀ x ∈ done, ∀ k, posOf x es = some k → had[k]? = some true
  closed : ∀ (k : Nat) (a : Event), es[k]? = some a → had[k]? = some true → k ∈ work ∨ cur = some k ∨ ∀ x ∈ a.auth, ∀ j, posOf x es = some j → had[j]? = some true
/-- how many are not marked -/
def unm (had : List Bool) : Nat := had.count false
theorem unm_set : ∀ {had : List Bool} {k : Nat}, had[k]? = some false → unm (had.set k true) + 1 = unm had
  | b :: had, 0, h => by
    have : b = false := by simpa using h
    subst this
    simp [unm]
  | b :: had, k + 1, h => by
    have := unm_set (had := had) (k := k) (by simpa using h)
    unfold unm at *
    simp only [List.set_cons_succ, List.count_cons]
    omega
section
variable {es : List Event} {rs done : List (List UInt8)} {had : List Bool} {work : List Nat} {cur : Option Nat}
theorem had_keep {k j : Nat} (hk : had[k]? = some false) (h : had[j]? = some true) : (had.set k true)[j]? = some true := by
  rw [List.getElem?_set]
  split
  · rename_i e
    subst e
    rw [hk] at h; cases h
  · exact h
theorem had_new {k : Nat} (hk : had[k]? = some false) : (had.set k true)[k]? = some true := by
  rw [List.getElem?_set_self (List.getElem?_eq_some_iff.1 hk).1]
theorem Had.old (h : Had es rs had work done cur) {x : List UInt8} {k : Nat} (hp : posOf x es = some k) (hk : had[k]? = some true) : Had es rs had work (done ++ [x]) cur := by
  refine { h with all := fun y hy j hj => ?_ }
  rcases List.mem_append.1 hy with hy | hy
  · exact h.all y hy j hj
  · rw [List.mem_singleton.1 hy, hp] at hj
    cases hj; exact hk
theorem Had.new (h : Had es rs had work done cur) {x : List UInt8} {k : Nat} {e : Event} (hp : posOf x es = some k) (he : es[k]? = some e) (hx : e.id = x) (hk : had[k]? = some false) (ha : Anc es rs x) : Had es rs (had.set k true) (work ++ [k]) (done ++ [x]) cur where
  len := by rw [List.length_set]; exact h.len
  anc := fun j a hj hh => by
    rw [List.getElem?_set] at hh
    split at hh
    · rename_i e1
      subst e1
      rw [he] at hj; cases hj
      rw [hx]; exact ha
    · exact h.anc j a hj hh
  pile := fun j hj => by
    rcases List.mem_append.1 hj with hj | hj
    · exact had_keep hk (h.pile j hj)
    · rw [List.mem_singleton.1 hj]; exact had_new hk
  all := fun y hy j hj => by
    rcases List.mem_append.1 hy with hy | hy
    · exact had_keep hk (h.all y hy j hj)
    · rw [List.mem_singleton.1 hy, hp] at hj
      cases hj; exact had_new hk
  closed := fun j a hj hh => by
    rw [List.getElem?_set] at hh
    split at hh
    · rename_i e1
      subst e1
      exact .inl (by simp)
    · rcases h.closed j a hj hh with q | q | q
      · exact .inl (by simp [q])
      · exact .inr (.inl q)
      · exact .inr (.inr fun x hx j hj => had_keep hk (q x hx j hj))
/-- one is taken off the pile -/
theorem Had.pop (h : Had es rs had work done none) {k : Nat} (hw : work ≠ []) (hk : work[work.length - 1]? = some k) : Had es rs had (work.take (work.length - 1)) done (some k) := by
  refine { h with pile := fun j hj => h.pile j (List.mem_of_mem_take hj), closed := fun j a hj hh => ?_ }
  · · rcases h.closed j a hj hh with q | q | q
      · have hl : work = work.take (work.length - 1) ++ [k] := by
          have h0 : 0 < work.length := List.length_pos_iff.2 hw
          conv => lhs; rw [← List.take_append_drop (work.length - 1) work]
          congr 1
          rw [List.drop_eq_getElem_cons (by omega)]
          rw [List.getElem?_eq_getElem (by omega)] at hk
          cases hk
          rw [List.drop_of_length_le (by omega)]
        rw [hl] at q
        rcases List.mem_append.1 q with q | q
        · exact .inl q
        · exact .inr (.inl (by rw [List.mem_singleton.1 q]))
      · cases q
      · exact .inr (.inr q)
/-- it has been looked at -/
theorem Had.seen (h : Had es rs had work done cur) {k : Nat} {e : Event} (hc : cur = some k) (he : es[k]? = some e) (hd : ∀ x ∈ e.auth, x ∈ done) : Had es rs had work done none := by
  refine { h with closed := fun j a hj hh => ?_ }
  · · rcases h.closed j a hj hh with q | q | q
      · exact .inl q
      · rw [hc] at q; cases q
        rw [he] at hj; cases hj
        exact .inr (.inr fun x hx i hi => h.all x (hd x hx) i hi)
      · exact .inr (.inr q)
/-- the pile is empty -/
theorem Had.is (h : Had es rs had [] done none) (hv : Valid es) (hr : ∀ x ∈ rs, x ∈ done) (hd : ∀ x ∈ rs, There es x) : had = hadA es rs := by
  apply List.ext_getElem?
  intro k
  rcases Nat.lt_or_ge k es.length with hk | hk
  · obtain ⟨a, ha⟩ : ∃ a, es[k]? = some a := ⟨_, List.getElem?_eq_getElem hk⟩
    rw [hadA_get hk]
    unfold ancP
    rw [ha]
    dsimp only
    have hkl : k < had.length := by rw [h.len]; exact hk
    have hb : had[k]? = some had[k] := List.getElem?_eq_getElem hkl
    cases hbk : had[k] with
    | true =>
      rw [hbk] at hb
      rw [hb, @decide_eq_true _ (Classical.propDecidable _) (h.anc k a ha hb)]
    | false =>
      rw [hbk] at hb
      rw [hb]
      congr 1
      refine (@decide_eq_false _ (Classical.propDecidable _) fun hA => ?_).symm
      have : ∀ j, posOf a.id es = some j → had[j]? = some true := hA.least (C := fun x => ∀ j, posOf x es = some j → had[j]? = some true) (fun x hx j hj => h.all x (hr x hx) j hj) fun y hy x hx j hj => by
        unfold authOf at hx
        split at hx
        · rename_i i hi
          split at hx
          · rename_i e he
            rcases h.closed i e he (hy i hi) with q | q | q
            · cases q
            · cases q
            · exact q x hx j hj
          · cases hx
        · cases hx
      rw [this k (hv.pos ha)] at hb
      cases hb
  · rw [List.getElem?_eq_none (by rw [h.len]; exact hk), List.getElem?_eq_none (by rw [hadA_len]; exact hk)]
end
end Go.Proofs.Ythhgcklidfilfaa.BX
