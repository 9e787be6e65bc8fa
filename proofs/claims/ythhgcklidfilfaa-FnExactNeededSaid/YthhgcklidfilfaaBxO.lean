/-
  A frame for proofs over whole functions, second make, fifteenth part: what is done with maps.
-/
import Derived.Test.YthhgcklidfilfaaBxN
namespace Go.Proofs.Ythhgcklidfilfaa.BX
set_option linter.unusedSectionVars false
set_option linter.unusedSimpArgs false
set_option linter.unusedVariables false
open Go Go.RowKit
variable [Bd]

section
variable {P : Program} {w : World}

theorem same_cell {t : TypeId} {l : Lay} (ht : keyTy P t = some l) {x y : T} {u v : Value} {L M : List Nat} (hx : keyCell l x) (hy : keyCell l y) (fx : footT w x u L) (fy : footT w y v M) :
    ∃ d, P.underlying t = some d ∧ Instr.sameNow d u v = some (@decide (x = y) (Classical.propDecidable _)) := by
  rcases keyTy_spec ht with ⟨k, rfl, hu⟩ | ⟨rfl, hu⟩ | ⟨rfl, hu⟩
  · rcases keyCell_val hx fx with ⟨k1, n1, e1, rfl, rfl⟩ | ⟨_, e1, _⟩ | ⟨_, e1, _⟩ <;> cases e1
    rcases keyCell_val hy fy with ⟨k2, n2, e2, rfl, rfl⟩ | ⟨_, e2, _⟩ | ⟨_, e2, _⟩ <;> cases e2
    refine ⟨_, hu, ?_⟩
    simp only [Instr.sameNow, if_true]
    congr 1
    rw [Bool.eq_iff_iff]; simp
  · rcases keyCell_val hx fx with ⟨k1, n1, e1, _⟩ | ⟨b1, e1, rfl, rfl⟩ | ⟨_, e1, _⟩ <;> cases e1
    rcases keyCell_val hy fy with ⟨k2, n2, e2, _⟩ | ⟨b2, e2, rfl, rfl⟩ | ⟨_, e2, _⟩ <;> cases e2
    refine ⟨_, hu, ?_⟩
    simp only [Instr.sameNow]
    congr 1
    rw [Bool.eq_iff_iff]; simp
  · rcases keyCell_val hx fx with ⟨k1, n1, e1, _⟩ | ⟨_, e1, _⟩ | ⟨s1, e1, rfl, rfl⟩ <;> cases e1
    rcases keyCell_val hy fy with ⟨k2, n2, e2, _⟩ | ⟨_, e2, _⟩ | ⟨s2, e2, rfl, rfl⟩ <;> cases e2
    refine ⟨_, hu, ?_⟩
    simp only [Instr.sameNow]
    rw [beq_toListBytes, str_inj]
    congr 1
    rw [Bool.eq_iff_iff]; simp

open Classical in
/-- the first place of a key -/
noncomputable def placeT (x : T) : List T → Nat → Option Nat
  | [], _ => none
  | y :: ys, i => if x = y then some i else placeT x ys (i + 1)

theorem placeT_none {x : T} : ∀ {ys : List T} {i : Nat}, x ∉ ys → placeT x ys i = none
  | [], _, _ => rfl
  | y :: ys, i, h => by
    simp only [List.mem_cons, not_or] at h
    rw [placeT, if_neg h.1, placeT_none h.2]
theorem placeT_some {x : T} : ∀ {ys : List T} {i j : Nat}, ys.Nodup → ys[j]? = some x → placeT x ys i = some (i + j)
  | [], _, _, _, h => by simp at h
  | y :: ys, i, 0, _, h => by
    simp only [List.getElem?_cons_zero, Option.some.injEq] at h
    rw [placeT, if_pos h.symm]; rfl
  | y :: ys, i, j + 1, hn, h => by
    simp only [List.getElem?_cons_succ] at h
    obtain ⟨h1, h2⟩ := List.nodup_cons.1 hn
    rw [placeT, if_neg (by rintro rfl; exact h1 (List.mem_of_getElem? h)), placeT_some h2 h]
    congr 1; omega

theorem findNow_run {t : TypeId} {l : Lay} {d : TypeDesc} (ht : keyTy P t = some l) (hd : P.underlying t = some d) {x : T} {v : Value} (hx : keyCell l x) (fx : footT w x v []) : ∀ (ks : List T) (es : List MapEntry) (i : Nat) (L : List Nat), (∀ y ∈ ks, keyCell l y) → footTs w ks (es.map (·.key)) L →
    Instr.findNow d v es i = some ((placeT x ks i).bind fun j => (es[j - i]?).map fun e => (j, e.val))
  | [], es, i, L, _, hf => by
    simp only [footTs, List.map_eq_nil_iff] at hf
    rw [hf.1]; rfl
  | y :: ks, [], i, L, _, hf => by
    simp only [footTs] at hf
    obtain ⟨v, vs', L1, L2, e, _⟩ := hf
    simp at e
  | y :: ks, e :: es, i, L, hk, hf => by
    simp only [List.map_cons, footTs] at hf
    obtain ⟨v', vs', L1, L2, e1, _, f1, f2⟩ := hf
    simp only [List.cons.injEq] at e1
    obtain ⟨rfl, rfl⟩ := e1
    obtain ⟨d', hd', hs⟩ := same_cell ht hx (hk y (List.mem_cons_self ..)) fx f1
    rw [hd] at hd'
    cases hd'
    simp only [Instr.findNow, hs]
    by_cases hxy : x = y
    · rw [placeT, if_pos hxy, @decide_eq_true _ (Classical.propDecidable _) hxy]
      simp
    · rw [placeT, if_neg hxy, @decide_eq_false _ (Classical.propDecidable _) hxy]
      simp only
      rw [findNow_run ht hd hx fx ks es (i + 1) L2 (fun y hy => hk y (List.mem_cons_of_mem _ hy)) f2]
      congr 1
      have hge : ∀ {ks : List T} {i j : Nat}, placeT x ks i = some j → i ≤ j := by
        intro ks
        induction ks with
        | nil => intro i j h; cases h
        | cons z zs ih =>
          intro i j h
          rw [placeT] at h
          split at h
          · simp only [Option.some.injEq] at h; omega
          · have := ih h; omega
      cases hp : placeT x ks (i + 1) with
      | none => rfl
      | some j =>
        have := hge hp
        simp only [Option.bind_some]
        rw [show j - i = (j - (i + 1)) + 1 by omega, List.getElem?_cons_succ]

theorem findAsk_run {t : TypeId} {s : Bool × List Lay} (hs : keyLay P t = some s) {x : T} {v : Value} (hx : isKey s x) (fx : footT w x v []) (W : World) : ∀ (ks : List T) (es : List MapEntry) (i : Nat) (L : List Nat), (∀ y ∈ ks, isKey s y) → footTs w ks (es.map (·.key)) L →
    (Instr.findAsking t v es i).run P W = .ok ((placeT x ks i).bind fun j => (es[j - i]?).map fun e => (j, e.val)) W
  | [], es, i, L, _, hf => by
    simp only [footTs, List.map_eq_nil_iff] at hf
    rw [hf.1]; simp [Instr.findAsking, placeT]
  | y :: ks, [], i, L, _, hf => by
    simp only [footTs] at hf
    obtain ⟨v, vs', L1, L2, e, _⟩ := hf
    simp at e
  | y :: ks, e :: es, i, L, hk, hf => by
    simp only [List.map_cons, footTs] at hf
    obtain ⟨v', vs', L1, L2, e1, _, f1, f2⟩ := hf
    simp only [List.cons.injEq] at e1
    obtain ⟨rfl, rfl⟩ := e1
    have heq := eq_key hs hx (hk y (List.mem_cons_self ..)) fx f1 W
    simp only [Instr.findAsking, Sem.run_bind, heq, Result.andThen_ok]
    by_cases hxy : x = y
    · rw [placeT, if_pos hxy, @decide_eq_true _ (Classical.propDecidable _) hxy]
      simp
    · rw [placeT, if_neg hxy, @decide_eq_false _ (Classical.propDecidable _) hxy]
      simp only [Bool.false_eq_true, if_false]
      rw [findAsk_run hs hx fx W ks es (i + 1) L2 (fun y hy => hk y (List.mem_cons_of_mem _ hy)) f2]
      congr 1
      have hge : ∀ {ks : List T} {i j : Nat}, placeT x ks i = some j → i ≤ j := by
        intro ks
        induction ks with
        | nil => intro i j h; cases h
        | cons z zs ih =>
          intro i j h
          rw [placeT] at h
          split at h
          · simp only [Option.some.injEq] at h; omega
          · have := ih h; omega
      cases hp : placeT x ks (i + 1) with
      | none => rfl
      | some j =>
        have := hge hp
        simp only [Option.bind_some]
        rw [show j - i = (j - (i + 1)) + 1 by omega, List.getElem?_cons_succ]

theorem findKey_run {t : TypeId} {s : Bool × List Lay} (hs : keyLay P t = some s) {x : T} {v : Value} (hx : isKey s x) (fx : footT w x v []) (W : World) {ks : List T} {es : List MapEntry} {L : List Nat} (hk : ∀ y ∈ ks, isKey s y) (hf : footTs w ks (es.map (·.key)) L) :
    (Instr.findKey t v es).run P W = .ok ((placeT x ks 0).bind fun j => (es[j]?).map fun e => (j, e.val)) W := by
  have hs' := hs
  unfold keyLay at hs'
  split at hs'
  · rename_i fs hu
    rw [run_findKey_eq W (by simp [hu]), findAsk_run hs hx fx W ks es 0 L hk hf]
    rfl
  · simp only [Option.map_eq_some_iff] at hs'
    obtain ⟨l, hl, rfl⟩ := hs'
    simp only [isKey] at hx hk
    obtain ⟨d, hd, _⟩ := same_cell hl hx hx fx fx
    simp only [Instr.findKey, Sem.run_bind, run_underlying hd, Result.andThen_ok, findNow_run hl hd hx fx ks es 0 L hk hf, Sem.run_pure]
    rfl

/-- one order of the entries for another -/
theorem perm_pairs {α β : Type} {l l' : List β} (h : List.Perm l l') : ∀ (ks : List α), ks.length = l.length → ∃ ks' : List α, ks'.length = l'.length ∧ List.Perm (ks.zip l) (ks'.zip l') := by
  induction h with
  | nil => intro ks h; exact ⟨ks, h, .refl _⟩
  | cons x _ ih =>
    intro ks h
    cases ks with
    | nil => simp at h
    | cons k ks =>
      obtain ⟨ks', h1, h2⟩ := ih ks (by simpa using h)
      exact ⟨k :: ks', by simp [h1], by simpa using h2.cons (k, x)⟩
  | swap x y l =>
    intro ks h
    match ks, h with
    | a :: b :: ks, h => exact ⟨b :: a :: ks, by simpa using h, by simpa using List.Perm.swap (b, x) (a, y) (ks.zip l)⟩
  | trans _ _ ih1 ih2 =>
    intro ks h
    obtain ⟨ks1, h1, h2⟩ := ih1 ks h
    obtain ⟨ks2, h3, h4⟩ := ih2 ks1 h1
    exact ⟨ks2, h3, h2.trans h4⟩

theorem footTs_of_mem : ∀ (ks : List T) (vs : List Value), vs.length = ks.length → (∀ p ∈ ks.zip vs, footT w p.1 p.2 []) → footTs w ks vs []
  | [], vs, h, _ => by simp only [footTs]; exact ⟨by simpa using h, trivial⟩
  | k :: ks, [], h, _ => by simp at h
  | k :: ks, v :: vs, h, hm => by
    simp only [footTs]
    exact ⟨v, vs, [], [], rfl, rfl, hm (k, v) (by simp), footTs_of_mem ks vs (by simpa using h) (fun p hp => hm p (by simp [hp]))⟩

theorem footTs_mem : ∀ {ks : List T} {vs : List Value}, footTs w ks vs [] → ∀ p ∈ ks.zip vs, footT w p.1 p.2 []
  | [], vs, _, p, hp => by simp at hp
  | k :: ks, vs, h, p, hp => by
    simp only [footTs] at h
    obtain ⟨v, vs', L1, L2, rfl, hL, h1, h2⟩ := h
    obtain ⟨rfl, rfl⟩ := List.append_eq_nil_iff.1 hL.symm
    simp only [List.zip_cons_cons, List.mem_cons] at hp
    rcases hp with rfl | hp
    · exact h1
    · exact footTs_mem h2 p hp

/-- the entries, as they stand -/
theorem ents_stand {ks : List T} {es : Array MapEntry} {l : List MapEntry} (hperm : List.Perm l es.toList) (hkeys : footTs w ks (l.map (·.key)) []) (hnd : ks.Nodup) :
    ∃ ks', footTs w ks' (es.toList.map (·.key)) [] ∧ ks'.Nodup ∧ (∀ y, y ∈ ks' ↔ y ∈ ks) ∧ ∀ (i : Nat) (x : T), ks[i]? = some x → ∃ (j : Nat) (e : MapEntry), l[i]? = some e ∧ ks'[j]? = some x ∧ es.toList[j]? = some e := by
  have hlen : ks.length = l.length := by have := footTs_length hkeys; rw [List.length_map] at this; exact this.symm
  obtain ⟨ks', h1, h2⟩ := perm_pairs hperm ks hlen
  have hk : List.Perm ks ks' := by
    have := h2.map Prod.fst
    rwa [List.map_fst_zip (by omega), List.map_fst_zip (by omega)] at this
  refine ⟨ks', footTs_of_mem _ _ (by rw [List.length_map]; exact h1.symm) (fun p hp => ?_), hk.nodup_iff.1 hnd, fun y => (hk.mem_iff).symm, fun i x hx => ?_⟩
  · rw [List.zip_map_right, List.mem_map] at hp
    obtain ⟨q, hq, rfl⟩ := hp
    have hq2 := h2.mem_iff.2 hq
    exact footTs_mem hkeys (q.1, q.2.key) (by rw [List.zip_map_right, List.mem_map]; exact ⟨q, hq2, rfl⟩)
  · have hi : i < l.length := by have := get_lt hx; omega
    have hm : (x, l[i]) ∈ ks.zip l := by
      refine List.mem_of_getElem? (i := i) ?_
      rw [List.getElem?_zip_eq_some]
      exact ⟨hx, List.getElem?_eq_getElem hi⟩
    obtain ⟨j, hj⟩ := List.getElem?_of_mem (h2.mem_iff.1 hm)
    rw [List.getElem?_zip_eq_some] at hj
    exact ⟨j, l[i], List.getElem?_eq_getElem hi, hj.1, hj.2⟩

/-- a key is found, or is not -/
theorem find_plain {t : TypeId} {s : Bool × List Lay} (hs : keyLay P t = some s) {ks : List T} {es : Array MapEntry} {l : List MapEntry} (hperm : List.Perm l es.toList) (hkeys : footTs w ks (l.map (·.key)) []) (hnd : ks.Nodup) (hk : ∀ y ∈ ks, isKey s y) {x : T} {v : Value} (hx : isKey s x) (fx : footT w x v []) (W : World) :
    (∃ (i j : Nat) (e : MapEntry), ks[i]? = some x ∧ l[i]? = some e ∧ es.toList[j]? = some e ∧ footT w x e.key [] ∧ (Instr.findKey t v es.toList).run P W = .ok (some (j, e.val)) W) ∨
    (x ∉ ks ∧ (Instr.findKey t v es.toList).run P W = .ok none W) := by
  obtain ⟨ks', h1, h2, h3, h4⟩ := ents_stand hperm hkeys hnd
  have hrun := findKey_run hs hx fx W (fun y hy => hk y ((h3 y).1 hy)) h1
  by_cases hm : x ∈ ks
  · obtain ⟨i, hi⟩ := List.getElem?_of_mem hm
    obtain ⟨j, e, g1, g2, g3⟩ := h4 i x hi
    refine .inl ⟨i, j, e, hi, g1, g3, ?_, ?_⟩
    · obtain ⟨u, L', a1, a2, a3⟩ := footTs_get hkeys hi
      rw [List.getElem?_map, g1, Option.map_some, Option.some.injEq] at a1
      subst a1
      have : L' = [] := List.eq_nil_iff_forall_not_mem.2 fun b hb => by cases a3 b hb
      rwa [this] at a2
    · rw [hrun, placeT_some h2 g2, Nat.zero_add]
      simp only [Option.bind_some]
      rw [g3]; rfl
  · exact .inr ⟨hm, by rw [hrun, placeT_none (fun hh => hm ((h3 x).1 hh))]; rfl⟩

theorem Ents.find {t : TypeId} {s : Bool × List Lay} (hs : keyLay P t = some s) {h : Value} {ks : List T} {r : Nat} {es : Array MapEntry} {clock : Nat} {l : List MapEntry} (he : Ents w h ks r es clock l) (hk : ∀ y ∈ ks, isKey s y) {x : T} {v : Value} (hx : isKey s x) (fx : footT w x v []) (W : World) :
    (∃ (i j : Nat) (e : MapEntry), ks[i]? = some x ∧ l[i]? = some e ∧ es.toList[j]? = some e ∧ footT w x e.key [] ∧ (Instr.findKey t v es.toList).run P W = .ok (some (j, e.val)) W) ∨
    (x ∉ ks ∧ (Instr.findKey t v es.toList).run P W = .ok none W) := find_plain hs he.perm he.keys he.nodup hk hx fx W

mutual
/-- plain values are told by what they stand for -/
theorem flat_val : ∀ (x : T) {u v : Value} {L M : List Nat}, x.flat = true → footT w x u L → footT w x v M → u = v
  | .b _, _, _, _, _, _, h, k | .i _ _, _, _, _, _, _, h, k | .s _, _, _, _, _, _, h, k | .np, _, _, _, _, _, h, k | .nm, _, _, _, _, _, h, k | .ni, _, _, _, _, _, h, k => by
    simp only [footT] at h k; rw [h.1, k.1]
  | .ag cs, _, _, _, _, hf, h, k => by
    simp only [T.flat] at hf
    simp only [footT] at h k
    obtain ⟨us, rfl, h⟩ := h
    obtain ⟨vs, rfl, k⟩ := k
    rw [flats_val cs hf h k]
  | .tp cs, _, _, _, _, hf, h, k => by
    simp only [T.flat] at hf
    simp only [footT] at h k
    obtain ⟨us, rfl, h⟩ := h
    obtain ⟨vs, rfl, k⟩ := k
    rw [flats_val cs hf h k]
  | .sl _, _, _, _, _, hf, _, _ | .po _ _, _, _, _, _, hf, _, _ | .ifc _ _, _, _, _, _, hf, _, _ | .mp _ _, _, _, _, _, hf, _, _ | .fn _ _, _, _, _, _, hf, _, _ => by simp [T.flat] at hf
theorem flats_val : ∀ (xs : List T) {us vs : List Value} {L M : List Nat}, flats xs = true → footTs w xs us L → footTs w xs vs M → us = vs
  | [], _, _, _, _, _, h, k => by simp only [footTs] at h k; rw [h.1, k.1]
  | x :: xs, _, _, _, _, hf, h, k => by
    simp only [flats, Bool.and_eq_true] at hf
    simp only [footTs] at h k
    obtain ⟨u, us, L1, L2, rfl, _, h1, h2⟩ := h
    obtain ⟨v, vs, M1, M2, rfl, _, k1, k2⟩ := k
    rw [flat_val x hf.1 h1 k1, flats_val xs hf.2 h2 k2]
end

theorem keyCell_flat {l : Lay} {x : T} (h : keyCell l x) : x.flat = true := by
  rcases keyCell_cases h with ⟨k, n, rfl, rfl⟩ | ⟨b, rfl, rfl⟩ | ⟨s, rfl, rfl⟩ <;> rfl
theorem keyCells_flat : ∀ {ls : List Lay} {xs : List T}, keyCells ls xs → flats xs = true
  | [], [], _ => rfl
  | _ :: _, _ :: _, h => by simp only [keyCells] at h; simp only [flats, keyCell_flat h.1, keyCells_flat h.2, Bool.and_self]
  | [], _ :: _, h => by simp only [keyCells] at h
  | _ :: _, [], h => by simp only [keyCells] at h
theorem isKey_flat {s : Bool × List Lay} {x : T} (h : isKey s x) : x.flat = true := by
  unfold isKey at h
  split at h
  · exact keyCell_flat h
  · exact keyCells_flat h
  · cases h

/-- a key that is there stays as it is -/
theorem sameBits_cell {l : Lay} {x : T} {v : Value} {L : List Nat} (h : keyCell l x) (hf : footT w x v L) (n : Nat) : Instr.sameBits (n + 1) v v = true := by
  rcases keyCell_val h hf with ⟨k, m, rfl, rfl, rfl⟩ | ⟨b, rfl, rfl, rfl⟩ | ⟨s, rfl, rfl, rfl⟩ <;> simp [Instr.sameBits]
  all_goals (rw [beq_toListBytes]; simp)
theorem sameBits_cells : ∀ {ls : List Lay} {xs : List T} {vs : List Value} {L : List Nat}, keyCells ls xs → footTs w xs vs L → ∀ n, (vs.zip vs).all (fun (x, y) => Instr.sameBits (n + 1) x y) = true
  | [], [], vs, L, _, hf, n => by simp only [footTs] at hf; simp [hf.1]
  | l :: ls, x :: xs, vs, L, h, hf, n => by
    simp only [keyCells] at h
    simp only [footTs] at hf
    obtain ⟨v, vs', L1, L2, rfl, _, f1, f2⟩ := hf
    simp only [List.zip_cons_cons, List.all_cons, sameBits_cell h.1 f1 n, sameBits_cells h.2 f2 n, Bool.and_self]
  | [], _ :: _, _, _, h, _, _ => by simp only [keyCells] at h
  | _ :: _, [], _, _, h, _, _ => by simp only [keyCells] at h
theorem keyStays {s : Bool × List Lay} {x : T} {v : Value} {L : List Nat} (h : isKey s x) (hf : footT w x v L) (W : World) : (Instr.keyThatStays v v).run P W = .ok v W := by
  have : Instr.sameBits 10000 v v = true := by
    unfold isKey at h
    split at h
    · exact sameBits_cell h hf 9999
    · simp only [footT] at hf
      obtain ⟨vs, rfl, hf⟩ := hf
      show Instr.sameBits (9998 + 1 + 1) _ _ = true
      rw [Instr.sameBits]
      simpa using sameBits_cells h hf 9998
    · cases h
  simp [Instr.keyThatStays, this]

end

/-! ### the operations -/

def vcLookup (P : Program) (t : TypeId) (m k : AV) (ok : Bool) (ob : List Ob) (K : AV → Prop) : Prop :=
  match lay P t, k.shut with
  | .map kt et, some kx => match keyLay P kt, zeroOf P et with
    | some s, some z => isKey s kx ∧
      let hit (c : T → AV) (ks vs : List T) : Prop := (∀ y ∈ ks, isKey s y) ∧ (∀ (i : Nat) (v : T), ks[i]? = some kx → vs[i]? = some v → K (if ok = true then .tp [c v, .t (.b true)] else c v)) ∧ (kx ∉ ks → K (if ok = true then .tp [ofV z, .t (.b false)] else ofV z))
      match m with
      | .t (.mp ks vs) => hit .t ks vs
      | .bw (.mp ks vs) => hit .bwc ks vs
      | .mr id => match ob[id]? with
        | some (.map _ _ kd ks vs _) => hit kd.look ks vs
        | _ => False
      | .t .nm => K (if ok = true then .tp [ofV z, .t (.b false)] else ofV z)
      | _ => False
    | _, _ => False
  | _, _ => False

section
variable {P : Program} {Q : Exit → Act → World → Prop} {w0 : Base} {σ : St} {hv : Hv} {S : Nat → Prop} {F : Nat → List Nat} {a : Act} {w : World}
  {K : AV → List Ob → Prop} {next : Value → World → Prop} {ob : List Ob} {e : Operand → AV}

theorem val_at {k : Kind} {Fi : List Nat} {vs : List T} {l : List MapEntry} (h : elsR hv S w Fi k vs (l.map (·.val))) (hF : k.isOwn = true → ∀ b ∈ Fi, hv.B b) {i : Nat} {en : MapEntry} (hi : l[i]? = some en) {n : Nat} :
    ∃ v, vs[i]? = some v ∧ Arg hv S w n (k.look v) en.val := by
  obtain ⟨L, h1, h2⟩ := elsR_foot h hF
  have hlen := footTs_length h1
  rw [List.length_map] at hlen
  obtain ⟨v, hvi⟩ : ∃ v, vs[i]? = some v := ⟨vs[i]'(by have := get_lt hi; omega), List.getElem?_eq_getElem _⟩
  obtain ⟨u, L', g1, g2, g3⟩ := footTs_get h1 hvi
  rw [List.getElem?_map, hi, Option.map_some, Option.some.injEq] at g1
  subst g1
  exact ⟨v, hvi, look_arg g2 (fun b hb => h2 b (g3 b hb))⟩

theorem Arg.shut_inv {n : Nat} {x : AV} {y : T} {v : Value} (h : Arg hv S w n x v) (hs : x.shut = some y) : ∃ L, footT w y v L ∧ ∀ b ∈ L, S b := by
  obtain ⟨⟨L, h1, h2⟩, _⟩ := h
  exact ⟨L, shut_sound x hs h1, h2⟩

theorem ofV_arg (z : Value) {n : Nat} : Arg hv S w n (ofV z) z := ⟨⟨[], ofV_foot hv w z, by simp⟩, ofV_under n z⟩

theorem tp2_arg {n : Nat} {x y : AV} {u v : Value} (hx : Arg hv S w n x u) (hy : Arg hv S w n y v) : Arg hv S w n (.tp [x, y]) (.tuple #[u, v]) := by
  obtain ⟨⟨L1, h1, h2⟩, h3⟩ := hx
  obtain ⟨⟨L2, k1, k2⟩, k3⟩ := hy
  refine ⟨⟨L1 ++ (L2 ++ []), ?_, fun b hb => ?_⟩, by simp [AV.under, unders, h3, k3]⟩
  · simp only [footA, footAs]
    exact ⟨[u, v], rfl, u, [v], L1, L2 ++ [], rfl, rfl, h1, v, [], L2, [], rfl, rfl, k1, rfl, rfl⟩
  · rw [List.append_nil] at hb
    exact (List.mem_append.1 hb).elim (h2 b) (k2 b)

theorem nodup_at {α : Type} {l : List α} (h : l.Nodup) {i j : Nat} {x : α} (hi : l[i]? = some x) (hj : l[j]? = some x) : i = j := by
  have a := get_lt hi
  have b := get_lt hj
  rw [List.getElem?_eq_getElem a, Option.some.injEq] at hi
  rw [List.getElem?_eq_getElem b, Option.some.injEq] at hj
  exact (List.getElem_inj h).1 (hi.trans hj.symm)

def withOk (ok : Bool) (v : Value) (b : Bool) : Value := if ok = true then .tuple #[v, .bool b] else v
def withOkA (ok : Bool) (v : AV) (b : Bool) : AV := if ok = true then .tp [v, .t (.b b)] else v
theorem withOk_arg {n : Nat} {ok b : Bool} {x : AV} {v : Value} (h : Arg hv S w n x v) : Arg hv S w n (withOkA ok x b) (withOk ok v b) := by
  cases ok
  · exact h
  · exact tp2_arg h (arg_b b)

/-- LOOKUP -/
theorem lookup_sound {o : Oper} {t : TypeId} {m k : Operand} {ok : Bool} {K : AV → Prop} (ho : o.op = .lookup t m k ok) {ρ : Operand → Value} (hob : Obs ob hv S F w) (harg : ∀ y ∈ o.op.operands, Arg hv S w ob.length (e y) (ρ y)) (h : vcLookup P t (e m) (e k) ok ob K) :
    ∃ r, K r ∧ Yields1 P ob e o r := by
  unfold vcLookup at h
  split at h
  case h_2 => cases h
  rename_i kt et kx hl hk
  split at h
  case h_2 => cases h
  rename_i s z hs hz
  obtain ⟨hkx, h⟩ := h
  have hu := lay_map hl
  have run0 : ∀ {ρ : Operand → Value} {w : World} {v : Value}, (Instr.lookup t (ρ m) (ρ k) ok).run P w = .ok v w → (execOp ρ o).run P w = .ok (.value v) w := fun h => by simp [execOp, ho, h]
  have key : ∀ {hv : Hv} {S : Nat → Prop} {w : World} {ρ : Operand → Value}, (∀ y ∈ o.op.operands, Arg hv S w ob.length (e y) (ρ y)) → footT w kx (ρ k) [] := by
    intro hv S w ρ harg
    have ak := harg k (by rw [ho]; simp [Op.operands])
    obtain ⟨Lk, fk, _⟩ := ak.shut_inv hk
    exact (flat_foot kx (isKey_flat hkx) fk).2 w
  have zero : ∀ {w : World} {ρ : Operand → Value} {r : Nat} {es : Array MapEntry} {c : Nat}, footT w kx (ρ k) [] → ρ m = .map (some r) → w.heap[r]? = some (.map es c) → (Instr.findKey kt (ρ k) es.toList).run P w = .ok none w → (execOp ρ o).run P w = .ok (.value (withOk ok z false)) w := by
    intro w ρ r es c fk hmr hheap hfind
    refine run0 ?_
    simp only [Instr.lookup, Sem.run_bind, run_underlying hu, Result.andThen_ok, hmr, getObj_run hheap, Sem.run_pure, checkKey_run hs hkx fk, hfind, zero_run hz]
    cases ok <;> rfl
  have some' : ∀ {w : World} {ρ : Operand → Value} {r : Nat} {es : Array MapEntry} {c j : Nat} {v : Value}, footT w kx (ρ k) [] → ρ m = .map (some r) → w.heap[r]? = some (.map es c) → (Instr.findKey kt (ρ k) es.toList).run P w = .ok (some (j, v)) w → (execOp ρ o).run P w = .ok (.value (withOk ok v true)) w := by
    intro w ρ r es c j v fk hmr hheap hfind
    refine run0 ?_
    simp only [Instr.lookup, Sem.run_bind, run_underlying hu, Result.andThen_ok, hmr, getObj_run hheap, Sem.run_pure, checkKey_run hs hkx fk, hfind]
    cases ok <;> rfl
  have fin : ∀ (k' : Kind) (ks vs : List T), (∀ {hv : Hv} {S : Nat → Prop} {F : Nat → List Nat} {w : World} {ρ : Operand → Value}, Obs ob hv S F w → (∀ y ∈ o.op.operands, Arg hv S w ob.length (e y) (ρ y)) →
        ks.Nodup ∧ (kx ∈ ks → ∃ (i : Nat) (v : T) (val : Value), ks[i]? = some kx ∧ vs[i]? = some v ∧ (execOp ρ o).run P w = .ok (.value (withOk ok val true)) w ∧ Arg hv S w ob.length (k'.look v) val) ∧ (kx ∉ ks → (execOp ρ o).run P w = .ok (.value (withOk ok z false)) w)) →
      ((∀ y ∈ ks, isKey s y) ∧ (∀ (i : Nat) (v : T), ks[i]? = some kx → vs[i]? = some v → K (if ok = true then .tp [k'.look v, .t (.b true)] else k'.look v)) ∧ (kx ∉ ks → K (if ok = true then .tp [ofV z, .t (.b false)] else ofV z))) →
      ∃ r, K r ∧ Yields1 P ob e o r := by
    intro k' ks vs H ⟨_, h2, h3⟩
    by_cases hm : kx ∈ ks
    · obtain ⟨hnd, H1, _⟩ := H hob harg
      obtain ⟨i, v, val, g1, g2, _⟩ := H1 hm
      refine ⟨_, h2 i v g1 g2, fun {hv S F w ρ} hob harg => ?_⟩
      obtain ⟨_, H1, _⟩ := H hob harg
      obtain ⟨i', v', val', q1, q2, q3, q4⟩ := H1 hm
      obtain rfl := nodup_at hnd g1 q1
      rw [g2] at q2
      cases q2
      exact ⟨_, q3, withOk_arg q4⟩
    · refine ⟨_, h3 hm, fun {hv S F w ρ} hob harg => ?_⟩
      obtain ⟨_, _, H2⟩ := H hob harg
      exact ⟨_, H2 hm, withOk_arg (ofV_arg z)⟩
  have hit : ∀ {hv : Hv} {S : Nat → Prop} {F : Nat → List Nat} {w : World} {ρ : Operand → Value} (k' : Kind) (ks vs : List T) (r : Nat) (es : Array MapEntry) (clock : Nat) (l : List MapEntry) (Fi : List Nat), (∀ y ∈ o.op.operands, Arg hv S w ob.length (e y) (ρ y)) → (∀ y ∈ ks, isKey s y) →
      w.heap[r]? = some (.map es clock) → List.Perm l es.toList → footTs w ks (l.map (·.key)) [] → ks.Nodup → ρ m = .map (some r) → elsR hv S w Fi k' vs (l.map (·.val)) → (k'.isOwn = true → ∀ b ∈ Fi, hv.B b) →
      ks.Nodup ∧ (kx ∈ ks → ∃ (i : Nat) (v : T) (val : Value), ks[i]? = some kx ∧ vs[i]? = some v ∧ (execOp ρ o).run P w = .ok (.value (withOk ok val true)) w ∧ Arg hv S w ob.length (k'.look v) val) ∧ (kx ∉ ks → (execOp ρ o).run P w = .ok (.value (withOk ok z false)) w) := by
    intro hv S F w ρ k' ks vs r es clock l Fi harg h1 hheap hperm hkeys hnd hm hels hF
    have fk := key harg
    refine ⟨hnd, fun hin => ?_, fun hin => ?_⟩
    · rcases find_plain hs hperm hkeys hnd h1 hkx fk w with ⟨i, j, en, g1, g2, g3, _, g4⟩ | ⟨g1, g4⟩
      · obtain ⟨v, hvi, hav⟩ := val_at hels hF g2 (n := ob.length)
        exact ⟨i, v, en.val, g1, hvi, some' fk hm hheap g4, hav⟩
      · exact absurd hin g1
    · rcases find_plain hs hperm hkeys hnd h1 hkx fk w with ⟨i, j, en, g1, g2, g3, _, g4⟩ | ⟨g1, g4⟩
      · exact absurd (List.mem_of_getElem? g1) hin
      · exact zero fk hm hheap g4
  have closed : ∀ (k' : Kind) (ks vs : List T), k'.isOwn = false → e m = k'.look (.mp ks vs) → ((∀ y ∈ ks, isKey s y) ∧ (∀ (i : Nat) (v : T), ks[i]? = some kx → vs[i]? = some v → K (if ok = true then .tp [k'.look v, .t (.b true)] else k'.look v)) ∧ (kx ∉ ks → K (if ok = true then .tp [ofV z, .t (.b false)] else ofV z))) →
      ∃ r, K r ∧ Yields1 P ob e o r := by
    intro k' ks vs hk' hm h
    refine fin k' ks vs (fun {hv S F w ρ} hob harg => ?_) h
    have am := harg m (by rw [ho]; simp [Op.operands])
    rw [hm] at am
    obtain ⟨Lm, fm, hLm⟩ := am.look_inv
    simp only [footT] at fm
    obtain ⟨r, es, clock, l, L1, L2, e1, e2, ⟨p1, p2, p3, p4, p5⟩, f1, f2, rfl⟩ := fm
    have hflat : flats ks = true := by
      clear f1 f2 p4 p5 hLm hm am
      have h1 := h.1
      clear h
      induction ks with
      | nil => rfl
      | cons y ks ih => simp only [flats, isKey_flat (h1 y (List.mem_cons_self ..)), ih (fun y hy => h1 y (List.mem_cons_of_mem _ hy)), Bool.and_self]
    have f1' := (flats_foot ks hflat f1).2 w
    have hels : elsR hv S w [] k' vs (l.map (·.val)) := by
      cases k' with
      | own s => cases hk'
      | clo => exact ⟨L2, f2, fun b hb => hLm b (List.mem_cons_of_mem _ (List.mem_append_right _ hb))⟩
      | bor => exact ⟨L2, f2, fun b hb => hLm b (List.mem_cons_of_mem _ (List.mem_append_right _ hb))⟩
    exact hit (F := F) k' ks vs r es clock l [] harg h.1 e2 p1 f1' p4 e1 hels (fun hh => by rw [hk'] at hh; cases hh)
  dsimp only at h
  split at h
  · rename_i ks vs hm; exact closed .clo ks vs rfl hm h
  · rename_i ks vs hm; exact closed .bor ks vs rfl hm h
  · rename_i id hm
    split at h
    · rename_i a' b' kd ks vs p hid
      refine fin kd ks vs (fun {hv S F w ρ} hob harg => ?_) h
      have am := harg m (by rw [ho]; simp [Op.operands])
      rw [hm] at am
      obtain ⟨⟨L, fm, _⟩, _⟩ := am
      simp only [footA] at fm
      obtain ⟨r, es, clock, l, k1, k2, k3, k4⟩ := hob.ob id _ hid
      exact hit (F := F) kd ks vs r es clock l (F id) harg h.1 k1.heap k1.perm k1.keys k1.nodup (fm.1.trans k1.val) k2 (fun hk b hb => hob.own id _ hid (by cases kd <;> first | rfl | cases hk) b hb)
    · cases h
  · rename_i hm
    refine ⟨_, h, fun {hv S F w ρ} hob harg => ?_⟩
    have am := harg m (by rw [ho]; simp [Op.operands])
    rw [hm] at am
    obtain ⟨L, fm, _⟩ := am.t_inv
    simp only [footT] at fm
    have fk := key harg
    refine ⟨withOk ok z false, run0 ?_, withOk_arg (ofV_arg z)⟩
    have hfk := findKey_run hs hkx fk w (ks := []) (es := []) (L := []) (by simp) (by simp [footTs])
    have : (Instr.findKey kt (ρ k) (#[] : Array MapEntry).toList).run P w = .ok none w := by simpa [placeT] using hfk
    simp only [Instr.lookup, Sem.run_bind, run_underlying hu, Result.andThen_ok, fm.1, Sem.run_pure, checkKey_run hs hkx fk, this, zero_run hz]
    cases ok <;> rfl
  · cases h

end

end Go.Proofs.Ythhgcklidfilfaa.BX
