/-
  The cover by chains: the plain laws.
-/
import Derived.Test.YthhgcklidfilfaaCw
namespace Go.Proofs.Ythhgcklidfilfaa.BX
set_option linter.unusedSectionVars false
set_option linter.unusedSimpArgs false
set_option linter.unusedVariables false
open Go Go.RowKit
set_option maxRecDepth 20000
set_option maxHeartbeats 400000

/-- nothing stands behind it in its chain -/
def isLast (sp : List Spot) (k : Nat) : Bool := match sp[k]? with
  | some a => sp.all fun b => !(decide (b.chain = a.chain) && decide (b.seq > a.seq))
  | none => false
theorem isLast_at {sp : List Spot} {k : Nat} {a : Spot} (h : sp[k]? = some a) : isLast sp k = true ↔ ∀ b ∈ sp, b.chain = a.chain → b.seq ≤ a.seq := by
  unfold isLast
  rw [h]
  simp only [List.all_eq_true, Bool.not_eq_true', Bool.and_eq_false_iff, decide_eq_false_iff_not]
  constructor
  · intro h b hb hc
    rcases h b hb with h | h
    · exact absurd hc h
    · omega
  · intro h b hb
    by_cases hc : b.chain = a.chain
    · exact .inr (by have := h b hb hc; omega)
    · exact .inl hc
/-- where the next event stands: behind the first of these that is the last of its chain, or in a new chain -/
def nextSpot (es : List Event) (sp : List Spot) (ch : Nat) : List (List UInt8) → Spot
  | [] => ⟨ch, 1⟩
  | x :: r => match posOf x es with
    | some k => if isLast sp k = true then (match sp[k]? with
      | some a => ⟨a.chain, a.seq + 1⟩
      | none => nextSpot es sp ch r) else nextSpot es sp ch r
    | none => nextSpot es sp ch r
theorem nextSpot_or {es : List Event} {sp : List Spot} {ch : Nat} : ∀ {l : List (List UInt8)}, nextSpot es sp ch l = ⟨ch, 1⟩ ∨ ∃ (k : Nat) (a : Spot), isLast sp k = true ∧ sp[k]? = some a ∧ nextSpot es sp ch l = ⟨a.chain, a.seq + 1⟩
  | [] => .inl rfl
  | x :: r => by
    unfold nextSpot
    split
    · rename_i k hk
      split
      · rename_i hl
        split
        · rename_i a ha
          exact .inr ⟨k, a, hl, ha, rfl⟩
        · exact nextSpot_or
      · exact nextSpot_or
    · exact nextSpot_or
/-- the spots of the first events, and how many chains there are -/
def cov (es : List Event) : Nat → List Spot × Nat
  | 0 => ([], 0)
  | n + 1 => match es[n]? with
    | some e =>
      let s := nextSpot es (cov es n).1 (cov es n).2 e.auth
      ((cov es n).1 ++ [s], if s.chain = (cov es n).2 then (cov es n).2 + 1 else (cov es n).2)
    | none => cov es n
theorem cov_succ {es : List Event} {n : Nat} {e : Event} (h : es[n]? = some e) : cov es (n + 1) = ((cov es n).1 ++ [nextSpot es (cov es n).1 (cov es n).2 e.auth], if (nextSpot es (cov es n).1 (cov es n).2 e.auth).chain = (cov es n).2 then (cov es n).2 + 1 else (cov es n).2) := by
  rw [cov, h]
theorem cov_len {es : List Event} : ∀ {n : Nat}, n ≤ es.length → (cov es n).1.length = n
  | 0, _ => rfl
  | n + 1, h => by
    rw [cov_succ (List.getElem?_eq_getElem (by omega))]
    simp [cov_len (es := es) (n := n) (by omega)]
/-- the greatest number in a chain -/
def grt (l : List Spot) (c : Int) : Int := l.foldl (fun m s => if s.chain = c ∧ s.seq > m then s.seq else m) 0
theorem grt_from {c : Int} : ∀ {l : List Spot} {m : Int}, let r := l.foldl (fun m s => if s.chain = c ∧ s.seq > m then s.seq else m) m
    m ≤ r ∧ (∀ s ∈ l, s.chain = c → s.seq ≤ r) ∧ (r = m ∨ ∃ s ∈ l, s.chain = c ∧ s.seq = r)
  | [], m => by simp
  | x :: l, m => by
    simp only [List.foldl_cons]
    obtain ⟨m', hm', q1, q2, q3⟩ : ∃ m', (if x.chain = c ∧ x.seq > m then x.seq else m) = m' ∧ m ≤ m' ∧ (x.chain = c → x.seq ≤ m') ∧ (m' = m ∨ (x.chain = c ∧ x.seq = m')) := by
      refine ⟨_, rfl, ?_, ?_, ?_⟩
      · split <;> omega
      · intro hc
        split
        · omega
        · rename_i h
          have : ¬ x.seq > m := fun hh => h ⟨hc, hh⟩
          omega
      · split
        · rename_i h; exact .inr ⟨h.1, rfl⟩
        · exact .inl rfl
    rw [hm']
    obtain ⟨h1, h2, h3⟩ := grt_from (c := c) (l := l) (m := m')
    refine ⟨by omega, fun s hs hc => ?_, ?_⟩
    · rcases List.mem_cons.1 hs with rfl | hs
      · have := q2 hc; omega
      · exact h2 s hs hc
    · rcases h3 with h3 | ⟨s, hs, h3⟩
      · rw [h3]
        rcases q3 with q3 | q3
        · exact .inl q3
        · exact .inr ⟨x, by simp, q3⟩
      · exact .inr ⟨s, by simp [hs], h3⟩
theorem grt_is {l : List Spot} {c r : Int} (h0 : 0 ≤ r) (h1 : ∀ s ∈ l, s.chain = c → s.seq ≤ r) (h2 : r = 0 ∨ ∃ s ∈ l, s.chain = c ∧ s.seq = r) : grt l c = r := by
  obtain ⟨g1, g2, g3⟩ := grt_from (c := c) (l := l) (m := 0)
  show grt l c = r
  unfold grt
  refine Int.le_antisymm ?_ ?_
  · rcases g3 with g3 | ⟨s, hs, hc, g3⟩
    · omega
    · rw [← g3]; exact h1 s hs hc
  · rcases h2 with h2 | ⟨s, hs, hc, h2⟩
    · omega
    · rw [← h2]; exact g2 s hs hc
theorem grt_nn {l : List Spot} {c : Int} : 0 ≤ grt l c := (grt_from (c := c) (l := l) (m := 0)).1
theorem grt_le {l : List Spot} {c : Int} {s : Spot} (hs : s ∈ l) (hc : s.chain = c) : s.seq ≤ grt l c := (grt_from (c := c) (l := l) (m := 0)).2.1 s hs hc
theorem grt_or {l : List Spot} {c : Int} : grt l c = 0 ∨ ∃ s ∈ l, s.chain = c ∧ s.seq = grt l c := (grt_from (c := c) (l := l) (m := 0)).2.2
/-- the same spots, the same numbers -/
theorem grt_same {l m : List Spot} {c : Int} (h : ∀ s, s ∈ l ↔ s ∈ m) : grt l c = grt m c :=
  grt_is grt_nn (fun s hs hc => grt_le ((h s).1 hs) hc) (grt_or.imp id fun ⟨s, hs, q⟩ => ⟨s, (h s).2 hs, q⟩)
theorem cov_prefix {es : List Event} : ∀ {m n k : Nat}, k < n → n ≤ m → m ≤ es.length → (cov es m).1[k]? = (cov es n).1[k]?
  | m, n, k, hk, hn, hm => by
    rcases Nat.eq_or_lt_of_le hn with rfl | h
    · rfl
    · obtain ⟨m, rfl⟩ : ∃ m', m = m' + 1 := ⟨m - 1, by omega⟩
      rw [cov_succ (List.getElem?_eq_getElem (by omega)), ← cov_prefix (m := m) (n := n) hk (by omega) (by omega)]
      exact List.getElem?_append_left (by rw [cov_len (by omega)]; omega)
theorem cov_mono {es : List Event} : ∀ {m n : Nat}, n ≤ m → m ≤ es.length → (cov es n).2 ≤ (cov es m).2
  | m, n, hn, hm => by
    rcases Nat.eq_or_lt_of_le hn with rfl | h
    · exact Nat.le_refl _
    · obtain ⟨m, rfl⟩ : ∃ m', m = m' + 1 := ⟨m - 1, by omega⟩
      have := cov_mono (es := es) (m := m) (n := n) (by omega) (by omega)
      rw [cov_succ (List.getElem?_eq_getElem (by omega))]
      simp only
      split <;> omega
theorem cov_seq {es : List Event} : ∀ {n : Nat}, n ≤ es.length → ∀ s ∈ (cov es n).1, s.seq ≤ n ∧ 0 ≤ s.seq
  | 0, _, s, hs => by simp [cov] at hs
  | n + 1, h, s, hs => by
    have ih := cov_seq (es := es) (n := n) (by omega)
    rw [cov_succ (List.getElem?_eq_getElem (by omega))] at hs
    simp only [List.mem_append, List.mem_singleton] at hs
    rcases hs with hs | hs
    · have := ih s hs; omega
    · rcases nextSpot_or (es := es) (sp := (cov es n).1) (ch := (cov es n).2) (l := (es[n]'(by omega)).auth) with q | ⟨k, a, _, q2, q⟩
      · rw [hs, q]; simp only; omega
      · have := ih a (List.mem_of_getElem? q2)
        rw [hs, q]; simp only; omega
theorem cov_ch {es : List Event} : ∀ {n : Nat}, n ≤ es.length → (cov es n).2 ≤ n
  | 0, _ => Nat.le_refl _
  | n + 1, h => by
    have ih := cov_ch (es := es) (n := n) (by omega)
    rw [cov_succ (List.getElem?_eq_getElem (by omega))]
    simp only
    split <;> omega
/-- which event stands last in each chain -/
structure Lasts (sp : List Spot) (last : List Nat) : Prop where
  lo : ∀ (k : Nat) (a : Spot), sp[k]? = some a → 0 ≤ a.chain ∧ a.chain < last.length ∧ 1 ≤ a.seq
  at' : ∀ (c : Nat), c < last.length → ∃ (p : Nat) (a : Spot), last[c]? = some p ∧ sp[p]? = some a ∧ a.chain = c ∧ ∀ (j : Nat) (b : Spot), sp[j]? = some b → b.chain = c → b.seq ≤ a.seq ∧ (b.seq = a.seq → j = p)
theorem Lasts.nil : Lasts [] [] := ⟨fun k a h => by simp at h, fun c h => by simp at h⟩
theorem Lasts.iff {sp : List Spot} {last : List Nat} (h : Lasts sp last) {k : Nat} {a : Spot} (ha : sp[k]? = some a) : isLast sp k = true ↔ last[a.chain.toNat]? = some k := by
  obtain ⟨h0, h1, _⟩ := h.lo k a ha
  obtain ⟨p, b, hp, hb, hc, hm⟩ := h.at' a.chain.toNat (by omega)
  rw [isLast_at ha, hp]
  have e : ((a.chain.toNat : Nat) : Int) = a.chain := by omega
  constructor
  · intro hl
    have h1 := hl b (List.mem_of_getElem? hb) (by omega)
    obtain ⟨h2, h3⟩ := hm k a ha (by omega)
    rw [h3 (by omega)]
  · intro hpk b' hb' hc'
    cases hpk
    rw [ha] at hb; cases hb
    obtain ⟨j, hj, rfl⟩ := List.getElem_of_mem hb'
    exact (hm j _ (List.getElem?_eq_getElem hj) (by omega)).1
/-- one more, behind the last of its chain -/
theorem Lasts.old {sp : List Spot} {last : List Nat} (h : Lasts sp last) {k : Nat} {a : Spot} (ha : sp[k]? = some a) (hl : last[a.chain.toNat]? = some k) : Lasts (sp ++ [⟨a.chain, a.seq + 1⟩]) (last.set a.chain.toNat sp.length) := by
  obtain ⟨h0, h1, h2⟩ := h.lo k a ha
  have hk := (List.getElem?_eq_some_iff.1 ha).1
  have hget : ∀ {j : Nat} {b : Spot}, (sp ++ [⟨a.chain, a.seq + 1⟩])[j]? = some b → (sp[j]? = some b ∧ j < sp.length) ∨ (j = sp.length ∧ b = ⟨a.chain, a.seq + 1⟩) := by
    intro j b hb
    rcases Nat.lt_or_ge j sp.length with hj | hj
    · rw [List.getElem?_append_left hj] at hb
      exact .inl ⟨hb, hj⟩
    · rw [List.getElem?_append_right hj] at hb
      have hj0 : j - sp.length = 0 := by
        have := (List.getElem?_eq_some_iff.1 hb).1
        simp at this; omega
      rw [hj0] at hb
      simp at hb
      exact .inr ⟨by omega, hb.symm⟩
  have hself : (sp ++ [(⟨a.chain, a.seq + 1⟩ : Spot)])[sp.length]? = some ⟨a.chain, a.seq + 1⟩ := by simp
  refine ⟨fun j b hb => ?_, fun c hc => ?_⟩
  · rw [List.length_set]
    rcases hget hb with ⟨hb, _⟩ | ⟨_, rfl⟩
    · exact h.lo j b hb
    · exact ⟨h0, h1, by simp only; omega⟩
  · rw [List.length_set] at hc
    obtain ⟨p, b, hp, hb, hbc, hm⟩ := h.at' c hc
    by_cases hca : c = a.chain.toNat
    · subst hca
      rw [hl] at hp
      cases hp
      rw [ha] at hb; cases hb
      refine ⟨sp.length, ⟨a.chain, a.seq + 1⟩, by rw [List.getElem?_set_self (by omega)], hself, by simp only; omega, fun j x hx hxc => ?_⟩
      rcases hget hx with ⟨hx, hj⟩ | ⟨hj, rfl⟩
      · have := (hm j x hx hxc).1
        exact ⟨by simp only; omega, fun he => by simp only at he; omega⟩
      · exact ⟨by simp only; omega, fun _ => hj⟩
    · have hpl := (List.getElem?_eq_some_iff.1 hb).1
      refine ⟨p, b, by rw [List.getElem?_set_ne (fun e => hca e.symm)]; exact hp, by rw [List.getElem?_append_left hpl]; exact hb, hbc, fun j x hx hxc => ?_⟩
      rcases hget hx with ⟨hx, hj⟩ | ⟨hj, rfl⟩
      · exact hm j x hx hxc
      · simp only at hxc; omega
/-- one more, in a new chain -/
theorem Lasts.new {sp : List Spot} {last : List Nat} (h : Lasts sp last) : Lasts (sp ++ [⟨(last.length : Int), 1⟩]) (last ++ [sp.length]) := by
  have hget : ∀ {j : Nat} {b : Spot}, (sp ++ [⟨(last.length : Int), 1⟩])[j]? = some b → (sp[j]? = some b ∧ j < sp.length) ∨ (j = sp.length ∧ b = ⟨(last.length : Int), 1⟩) := by
    intro j b hb
    rcases Nat.lt_or_ge j sp.length with hj | hj
    · rw [List.getElem?_append_left hj] at hb
      exact .inl ⟨hb, hj⟩
    · rw [List.getElem?_append_right hj] at hb
      have hj0 : j - sp.length = 0 := by
        have := (List.getElem?_eq_some_iff.1 hb).1
        simp at this; omega
      rw [hj0] at hb
      simp at hb
      exact .inr ⟨by omega, hb.symm⟩
  refine ⟨fun j b hb => ?_, fun c hc => ?_⟩
  · rw [List.length_append, List.length_singleton]
    rcases hget hb with ⟨hb, _⟩ | ⟨_, rfl⟩
    · have := h.lo j b hb; omega
    · simp only; omega
  · rw [List.length_append, List.length_singleton] at hc
    rcases Nat.lt_or_ge c last.length with hcl | hcl
    · obtain ⟨p, b, hp, hb, hbc, hm⟩ := h.at' c hcl
      have hpl := (List.getElem?_eq_some_iff.1 hb).1
      refine ⟨p, b, by rw [List.getElem?_append_left hcl]; exact hp, by rw [List.getElem?_append_left hpl]; exact hb, hbc, fun j x hx hxc => ?_⟩
      rcases hget hx with ⟨hx, _⟩ | ⟨hj, rfl⟩
      · exact hm j x hx hxc
      · simp only at hxc; omega
    · have hce : c = last.length := by omega
      subst hce
      refine ⟨sp.length, ⟨last.length, 1⟩, by simp, by simp, rfl, fun j x hx hxc => ?_⟩
      rcases hget hx with ⟨hx, _⟩ | ⟨hj, rfl⟩
      · have := h.lo j x hx; omega
      · exact ⟨by simp only; omega, fun _ => hj⟩
theorem nextSpot_drop {es : List Event} {sp : List Spot} {ch : Nat} {l : List (List UInt8)} {i k : Nat} {x : List UInt8} {a : Spot} (hx : l[i]? = some x) (hp : posOf x es = some k) (ha : sp[k]? = some a) : nextSpot es sp ch (l.drop i) = if isLast sp k = true then ⟨a.chain, a.seq + 1⟩ else nextSpot es sp ch (l.drop (i + 1)) := by
  obtain ⟨hi, rfl⟩ := List.getElem?_eq_some_iff.1 hx
  rw [List.drop_eq_getElem_cons hi, nextSpot, hp]
  dsimp only
  rw [ha]
/-- the chains' last events, one event on -/
def nextLast (last : List Nat) (s : Spot) (n : Nat) : List Nat := (if s.chain = (last.length : Int) then last ++ [n] else last).set s.chain.toNat n
theorem Lasts.next {es : List Event} {last : List Nat} {n : Nat} {e : Event} (h : Lasts (cov es n).1 last) (hl : last.length = (cov es n).2) (he : es[n]? = some e) :
    Lasts (cov es (n + 1)).1 (nextLast last (nextSpot es (cov es n).1 (cov es n).2 e.auth) n) ∧ (nextLast last (nextSpot es (cov es n).1 (cov es n).2 e.auth) n).length = (cov es (n + 1)).2 := by
  have hn := (List.getElem?_eq_some_iff.1 he).1
  have hcl : (cov es n).1.length = n := cov_len (by omega)
  rw [cov_succ he]
  simp only
  rcases nextSpot_or (es := es) (sp := (cov es n).1) (ch := (cov es n).2) (l := e.auth) with q | ⟨k, a, q1, q2, q⟩
  · rw [q]
    simp only
    unfold nextLast
    rw [if_pos (by simp only; omega), if_pos trivial]
    have hs : (last ++ [n]).set ((cov es n).2 : Int).toNat n = last ++ [n] := by
      rw [Int.toNat_natCast, ← hl, List.set_append_right _ _ (Nat.le_refl _)]
      simp
    simp only [hs]
    refine ⟨?_, by simp [hl]⟩
    have := h.new
    rw [hcl, hl] at this
    exact this
  · rw [q]
    obtain ⟨h0, h1, h2⟩ := h.lo k a q2
    unfold nextLast
    simp only
    rw [if_neg (by omega), if_neg (by omega), List.length_set]
    refine ⟨?_, hl⟩
    have := h.old q2 ((h.iff q2).1 q1)
    rw [hcl] at this
    exact this
theorem lasts_of {es : List Event} : ∀ {n : Nat}, n ≤ es.length → ∃ last, Lasts (cov es n).1 last ∧ last.length = (cov es n).2
  | 0, _ => ⟨[], Lasts.nil, rfl⟩
  | n + 1, h => by
    obtain ⟨last, h1, h2⟩ := lasts_of (es := es) (n := n) (by omega)
    obtain ⟨q1, q2⟩ := h1.next h2 (List.getElem?_eq_getElem (by omega))
    exact ⟨_, q1, q2⟩
/-- all spots -/
def sps (es : List Event) : List Spot := (cov es es.length).1
/-- these and all that they rest on -/
noncomputable def fullL (es : List Event) (ids : List (List UInt8)) : List (List UInt8) := sset (ids ++ ancL es (ids.flatMap (authOf es)))
noncomputable def nearL (es : List Event) (id : List UInt8) : List Spot := (fullL es [id]).filterMap fun x => (posOf x es).bind fun k => (sps es)[k]?
/-- how far an event reaches in each chain -/
noncomputable def rowL (es : List Event) (i : Nat) : List Int := match es[i]? with
  | some e => (List.range (cov es (i + 1)).2).map fun c : Nat => grt (nearL es e.id) (c : Int)
  | none => []
noncomputable def coverL (es : List Event) : Cover := ⟨sps es, (List.range es.length).map (rowL es)⟩
theorem ancL_mem {es : List Event} {rs : List (List UInt8)} (hv : Valid es) (hr : ∀ x ∈ rs, There es x) {x : List UInt8} : x ∈ ancL es rs ↔ Anc es rs x := by
  unfold ancL
  rw [srt_perm.mem_iff, idsN_mem]
  constructor
  · rintro ⟨k, a, _, h1, hp, rfl⟩
    unfold ancP at hp; rw [h1] at hp
    exact @of_decide_eq_true _ (Classical.propDecidable _) hp
  · intro ha
    obtain ⟨k, a, h1, h2, _⟩ := there_at (ha.there hv hr)
    refine ⟨k, a, (List.getElem?_eq_some_iff.1 h1).1, h1, ?_, h2⟩
    unfold ancP; rw [h1]
    exact @decide_eq_true _ (Classical.propDecidable _) (h2 ▸ ha)
theorem full_mem {es : List Event} (hv : Valid es) {i : Nat} {e : Event} (he : es[i]? = some e) {x : List UInt8} : x ∈ fullL es [e.id] ↔ x = e.id ∨ Anc es e.auth x := by
  have hau := authOf_at (hv.pos he) he
  unfold fullL
  have hf : [e.id].flatMap (authOf es) = e.auth := by simp [hau]
  rw [sset_mem, hf, List.mem_append, List.mem_singleton, ancL_mem hv fun x hx => hv.there (hau ▸ hx)]
theorem near_mem {es : List Event} (hv : Valid es) {i : Nat} {e : Event} (he : es[i]? = some e) {s : Spot} : s ∈ nearL es e.id ↔ ∃ (k : Nat) (a : Event), es[k]? = some a ∧ (k = i ∨ Anc es e.auth a.id) ∧ (sps es)[k]? = some s := by
  unfold nearL
  rw [List.mem_filterMap]
  constructor
  · rintro ⟨x, hx, h⟩
    rw [full_mem hv he] at hx
    cases hp : posOf x es with
    | none => rw [hp] at h; cases h
    | some k =>
      rw [hp] at h
      obtain ⟨a, h1, h2, _⟩ := posOf_some.1 hp
      refine ⟨k, a, h1, ?_, h⟩
      rcases hx with hx | hx
      · left
        rw [hx, hv.pos he] at hp
        cases hp; rfl
      · exact .inr (h2 ▸ hx)
  · rintro ⟨k, a, h1, h2, h3⟩
    refine ⟨a.id, (full_mem hv he).2 ?_, ?_⟩
    · rcases h2 with rfl | h2
      · rw [he] at h1; cases h1; exact .inl rfl
      · exact .inr h2
    · rw [hv.pos h1]; exact h3
/-- an event reaches what its auth events reach -/
theorem anc_split {es : List Event} (hv : Valid es) {l : List (List UInt8)} {x : List UInt8} : Anc es l x ↔ ∃ y ∈ l, x = y ∨ Anc es (authOf es y) x := by
  constructor
  · intro h
    induction h with
    | root h => exact ⟨_, h, .inl rfl⟩
    | step _ hx ih =>
      obtain ⟨y, hy, h⟩ := ih
      refine ⟨y, hy, .inr ?_⟩
      rcases h with rfl | h
      · exact .root hx
      · exact .step h hx
  · rintro ⟨y, hy, rfl | h⟩
    · exact .root hy
    · exact h.least (fun z hz => .step (.root hy) hz) fun z hz w hw => .step hz hw
/-- what an event rests on stands in front of it -/
theorem anc_lt {es : List Event} (hv : Valid es) {i : Nat} {e : Event} (he : es[i]? = some e) {x : List UInt8} (h : Anc es e.auth x) : ∀ k, posOf x es = some k → k < i := by
  refine h.least (C := fun x => ∀ k, posOf x es = some k → k < i) (fun x hx k hk => ?_) fun y hy x hx k hk => ?_
  · obtain ⟨j, a, hj, _, _, hp⟩ := pos_ref ((hv.good he).auth x hx)
    rw [hk] at hp; cases hp; exact hj
  · unfold authOf at hx
    split at hx
    · rename_i m hm
      split at hx
      · rename_i a ha
        obtain ⟨j, b, hj, _, _, hp⟩ := pos_ref ((hv.good ha).auth x hx)
        rw [hk] at hp; cases hp
        have := hy m hm
        omega
      · cases hx
    · cases hx
/-- the spot of an id -/
def spotOf (es : List Event) (x : List UInt8) : Option Spot := (posOf x es).bind fun k => (sps es)[k]?
theorem full_at {es : List Event} (hv : Valid es) {i : Nat} {e : Event} (he : es[i]? = some e) {x : List UInt8} (hx : x ∈ fullL es [e.id]) : ∃ (k : Nat) (s : Spot), k ≤ i ∧ posOf x es = some k ∧ (cov es (i + 1)).1[k]? = some s ∧ spotOf es x = some s := by
  have hi := (List.getElem?_eq_some_iff.1 he).1
  have hau := authOf_at (hv.pos he) he
  rw [full_mem hv he] at hx
  have hk : ∃ k, k ≤ i ∧ posOf x es = some k := by
    rcases hx with rfl | hx
    · exact ⟨i, Nat.le_refl _, hv.pos he⟩
    · obtain ⟨k, a, _, _, hp⟩ := there_at (hx.there hv fun y hy => hv.there (hau ▸ hy))
      exact ⟨k, Nat.le_of_lt (anc_lt hv he hx k hp), hp⟩
  obtain ⟨k, hk, hp⟩ := hk
  have hl : (cov es (i + 1)).1.length = i + 1 := cov_len (by omega)
  refine ⟨k, (cov es (i + 1)).1[k]'(by omega), hk, hp, List.getElem?_eq_getElem (by omega), ?_⟩
  unfold spotOf sps
  rw [hp]
  show (cov es es.length).1[k]? = _
  rw [cov_prefix (n := i + 1) (by omega) (by omega) (Nat.le_refl _), List.getElem?_eq_getElem (by omega)]
end Go.Proofs.Ythhgcklidfilfaa.BX
