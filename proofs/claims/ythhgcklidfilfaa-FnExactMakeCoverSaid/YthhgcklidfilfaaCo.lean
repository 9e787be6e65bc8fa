/-
  The cover by chains: how the program's rows come about.
-/
import Derived.Test.YthhgcklidfilfaaSc
namespace Go.Proofs.Ythhgcklidfilfaa.BX
set_option linter.unusedSectionVars false
set_option linter.unusedSimpArgs false
set_option linter.unusedVariables false
open Go Go.RowKit
set_option maxRecDepth 20000
set_option maxHeartbeats 400000
/-- how far the event of an id reaches in a chain -/
noncomputable def rowGet (es : List Event) (x : List UInt8) (c : Nat) : Int := match posOf x es with
  | some p => ((rowL es p)[c]?).getD 0
  | none => 0
/-- the furthest of these -/
noncomputable def outF (es : List Event) (l : List (List UInt8)) (c : Nat) : Int := l.foldl (fun m x => if rowGet es x c > m then rowGet es x c else m) 0
theorem outF_snoc {es : List Event} {l : List (List UInt8)} {j c : Nat} {x : List UInt8} (h : l[j]? = some x) : outF es (l.take (j + 1)) c = if rowGet es x c > outF es (l.take j) c then rowGet es x c else outF es (l.take j) c := by
  unfold outF
  rw [List.take_add_one, h, List.foldl_append]
  rfl
theorem max_from {α : Type} {f : α → Int} : ∀ {l : List α} {m : Int}, let r := l.foldl (fun m x => if f x > m then f x else m) m
    m ≤ r ∧ (∀ x ∈ l, f x ≤ r) ∧ (r = m ∨ ∃ x ∈ l, f x = r)
  | [], m => by simp
  | x :: l, m => by
    simp only [List.foldl_cons]
    obtain ⟨m', hm', q1, q2, q3⟩ : ∃ m', (if f x > m then f x else m) = m' ∧ m ≤ m' ∧ f x ≤ m' ∧ (m' = m ∨ f x = m') := by
      refine ⟨_, rfl, ?_, ?_, ?_⟩
      · split <;> omega
      · split <;> omega
      · split
        · exact .inr rfl
        · exact .inl rfl
    rw [hm']
    obtain ⟨h1, h2, h3⟩ := max_from (f := f) (l := l) (m := m')
    refine ⟨by omega, fun y hy => ?_, ?_⟩
    · rcases List.mem_cons.1 hy with rfl | hy
      · omega
      · exact h2 y hy
    · rcases h3 with h3 | ⟨y, hy, h3⟩
      · rw [h3]
        rcases q3 with q3 | q3
        · exact .inl q3
        · exact .inr ⟨x, by simp, q3⟩
      · exact .inr ⟨y, by simp [hy], h3⟩
theorem outF_nn {es : List Event} {l : List (List UInt8)} {c : Nat} : 0 ≤ outF es l c := (max_from (f := fun x => rowGet es x c) (l := l) (m := 0)).1
theorem outF_le {es : List Event} {l : List (List UInt8)} {c : Nat} {x : List UInt8} (h : x ∈ l) : rowGet es x c ≤ outF es l c := (max_from (f := fun x => rowGet es x c) (l := l) (m := 0)).2.1 x h
theorem outF_or {es : List Event} {l : List (List UInt8)} {c : Nat} : outF es l c = 0 ∨ ∃ x ∈ l, rowGet es x c = outF es l c := (max_from (f := fun x => rowGet es x c) (l := l) (m := 0)).2.2
theorem row_at {es : List Event} {p : Nat} {a : Event} (ha : es[p]? = some a) {c : Nat} (hc : c < (cov es (p + 1)).2) : (rowL es p)[c]? = some (grt (nearL es a.id) c) := by
  unfold rowL
  rw [ha]
  dsimp only
  rw [List.getElem?_map, List.getElem?_range hc]
  rfl
theorem row_len {es : List Event} {p : Nat} {a : Event} (ha : es[p]? = some a) : (rowL es p).length = (cov es (p + 1)).2 := by
  unfold rowL
  rw [ha]
  simp
/-- an event is the last of its chain when it comes -/
theorem cov_last {es : List Event} {n : Nat} {e : Event} {s : Spot} (he : es[n]? = some e) (hs : (cov es (n + 1)).1[n]? = some s) : ∀ b ∈ (cov es (n + 1)).1, b.chain = s.chain → b.seq ≤ s.seq := by
  have hn := (List.getElem?_eq_some_iff.1 he).1
  have hcl : (cov es n).1.length = n := cov_len (by omega)
  obtain ⟨last, h1, h2⟩ := lasts_of (es := es) (n := n) (by omega)
  obtain ⟨q1, q2⟩ := h1.next h2 he
  have hse : nextSpot es (cov es n).1 (cov es n).2 e.auth = s := by
    rw [cov_succ he] at hs
    simp only at hs
    rw [List.getElem?_append_right (by omega), hcl, Nat.sub_self] at hs
    simpa using hs
  rw [hse] at q1 q2
  obtain ⟨b1, b2, _⟩ := q1.lo n s hs
  refine (isLast_at hs).1 ((q1.iff hs).2 ?_)
  have hl : s.chain.toNat < (nextLast last s n).length := by omega
  unfold nextLast at hl ⊢
  rw [List.length_set] at hl
  exact List.getElem?_set_self hl
/-- the row of an event, out of the rows of its auth events -/
theorem row_is {es : List Event} (hv : Valid es) {i : Nat} {e : Event} {s : Spot} (he : es[i]? = some e) (hs : (cov es (i + 1)).1[i]? = some s) {c : Nat} (hc : c < (cov es (i + 1)).2) : grt (nearL es e.id) c = if (c : Int) = s.chain then s.seq else outF es e.auth c := by
  have hi := (List.getElem?_eq_some_iff.1 he).1
  have hau := authOf_at (hv.pos he) he
  have hsp : ∀ {k : Nat}, k ≤ i → (sps es)[k]? = (cov es (i + 1)).1[k]? := fun hk => cov_prefix (by omega) (by omega) (Nat.le_refl _)
  have hle : ∀ {k : Nat} {a : Event}, es[k]? = some a → (k = i ∨ Anc es e.auth a.id) → k ≤ i := fun {k a} hk h => by
    rcases h with h | h
    · omega
    · exact Nat.le_of_lt (anc_lt hv he h k (hv.pos hk))
  split
  · rename_i hcs
    have h1 := (cov_seq (n := i + 1) (by omega) s (List.mem_of_getElem? hs)).2
    refine grt_is h1 (fun b hb hbc => ?_) (.inr ⟨s, (near_mem hv he).2 ⟨i, e, he, .inl rfl, by rw [hsp (Nat.le_refl _)]; exact hs⟩, hcs.symm, rfl⟩)
    obtain ⟨k, a, hk, hor, hkb⟩ := (near_mem hv he).1 hb
    rw [hsp (hle hk hor)] at hkb
    exact cov_last he hs b (List.mem_of_getElem? hkb) (by omega)
  · rename_i hcs
    refine grt_is outF_nn (fun b hb hbc => ?_) ?_
    · obtain ⟨k, a, hk, hor, hkb⟩ := (near_mem hv he).1 hb
      rcases hor with rfl | hor
      · rw [hsp (Nat.le_refl _), hs] at hkb
        cases hkb
        omega
      · obtain ⟨y, hy, hya⟩ := anc_split hv |>.1 hor
        obtain ⟨p, f, hpi, hpf, hfy, hpp⟩ := pos_ref ((hv.good he).auth y hy)
        have hyau := authOf_at hpp hpf
        have hkp : k = p ∨ Anc es f.auth a.id := by
          rcases hya with h | h
          · left
            have := hv.pos hk
            rw [h, hpp] at this
            cases this; rfl
          · exact .inr (hyau ▸ h)
        have hkle : k ≤ p := by
          rcases hkp with h | h
          · omega
          · exact Nat.le_of_lt (anc_lt hv hpf h k (hv.pos hk))
        have hbn : b ∈ nearL es f.id := (near_mem hv hpf).2 ⟨k, a, hk, hkp, hkb⟩
        have hkb2 : (cov es (p + 1)).1[k]? = some b := by
          rw [← hkb]
          exact (cov_prefix (by omega) (by omega) (Nat.le_refl _)).symm
        obtain ⟨last, hl, hll⟩ := lasts_of (es := es) (n := p + 1) (by omega)
        obtain ⟨w1, w2, _⟩ := hl.lo k b hkb2
        have hrg : rowGet es y c = grt (nearL es f.id) c := by
          unfold rowGet
          rw [hpp]
          dsimp only
          rw [row_at hpf (by omega)]
          rfl
        have := outF_le (es := es) (c := c) hy
        rw [hrg] at this
        exact Int.le_trans (grt_le hbn hbc) this
    · rcases outF_or (es := es) (l := e.auth) (c := c) with h | ⟨y, hy, h⟩
      · exact .inl h
      · obtain ⟨p, f, hpi, hpf, hfy, hpp⟩ := pos_ref ((hv.good he).auth y hy)
        have hyau := authOf_at hpp hpf
        rw [← h]
        by_cases hcp : c < (cov es (p + 1)).2
        · have hrg : rowGet es y c = grt (nearL es f.id) c := by
            unfold rowGet
            rw [hpp]
            dsimp only
            rw [row_at hpf hcp]
            rfl
          rw [hrg]
          rcases grt_or (l := nearL es f.id) (c := (c : Int)) with h0 | ⟨b, hb, q⟩
          · exact .inl h0
          · refine .inr ⟨b, ?_, q⟩
            obtain ⟨k, a, hk, hor, hkb⟩ := (near_mem hv hpf).1 hb
            refine (near_mem hv he).2 ⟨k, a, hk, .inr ((anc_split hv).2 ⟨y, hy, ?_⟩), hkb⟩
            rcases hor with rfl | hor
            · rw [hpf] at hk; cases hk; exact .inl hfy
            · exact .inr (hyau ▸ hor)
        · left
          unfold rowGet
          rw [hpp]
          dsimp only
          rw [List.getElem?_eq_none (by rw [row_len hpf]; omega)]
          rfl
end Go.Proofs.Ythhgcklidfilfaa.BX
