/-
  A frame for proofs over whole functions, second make, a part behind the maps: a list inside somebody's own list is taken out, and put back.
-/
import Derived.Test.YthhgcklidfilfaaBxOm
namespace Go.Proofs.Ythhgcklidfilfaa.BX
set_option linter.unusedSectionVars false
set_option linter.unusedSimpArgs false
set_option linter.unusedVariables false
open Go Go.RowKit
variable [Bd]

section
variable {P : Program} {Q : Exit → Act → World → Prop} {w0 : Base} {σ : St} {hv : Hv} {S : Nat → Prop} {F : Nat → List Nat} {a : Act} {w : World}

theorem ownTs_cell : ∀ {ss : List Sh} {cs : List T} {vs : List Value} {L : List Nat} {j : Nat} {sj : Sh}, ownTs w ss cs vs L → ss[j]? = some sj →
    ∃ c u Lj L1, cs[j]? = some c ∧ vs[j]? = some u ∧ ownT w sj c u Lj ∧ List.Perm L (Lj ++ L1) ∧
      ∀ (w' : World) (c' : T) (Lj' : List Nat), (∀ b ∈ L1, w'.heap[b]? = w.heap[b]?) → ownT w' sj c' u Lj' → ∃ L', ownTs w' ss (cs.set j c') vs L' ∧ List.Perm L' (Lj' ++ L1)
  | [], _, _, _, _, _, _, h => by simp at h
  | s :: ss, [], _, _, _, _, h, _ => by simp only [ownTs] at h
  | s :: ss, c :: cs, vs, L, 0, sj, h, hs => by
    simp only [List.getElem?_cons_zero, Option.some.injEq] at hs
    subst hs
    simp only [ownTs] at h
    obtain ⟨v, vs', L1, L2, rfl, rfl, h1, h2⟩ := h
    refine ⟨c, v, L1, L2, rfl, rfl, h1, List.Perm.refl _, fun w' c' Lj' ha hx => ⟨Lj' ++ L2, ?_, List.Perm.refl _⟩⟩
    simp only [List.set_cons_zero, ownTs]
    exact ⟨v, vs', Lj', L2, rfl, rfl, hx, ownTs_mono ss cs vs' L2 ha h2⟩
  | s :: ss, c :: cs, vs, L, j + 1, sj, h, hs => by
    simp only [List.getElem?_cons_succ] at hs
    simp only [ownTs] at h
    obtain ⟨v, vs', L1, L2, rfl, rfl, h1, h2⟩ := h
    obtain ⟨c', u, Lj, L3, q1, q2, q3, q4, q5⟩ := ownTs_cell h2 hs
    refine ⟨c', u, Lj, L1 ++ L3, by simpa using q1, by simpa using q2, q3, ?_, fun w' c'' Lj' ha hx => ?_⟩
    · refine (q4.append_left L1).trans ?_
      rw [← List.append_assoc, ← List.append_assoc]
      exact (List.perm_append_comm).append_right L3
    · obtain ⟨L', r1, r2⟩ := q5 w' c'' Lj' (fun b hb => ha b (List.mem_append_right _ hb)) hx
      refine ⟨L1 ++ L', ?_, ?_⟩
      · simp only [List.set_cons_succ, ownTs]
        exact ⟨v, vs', L1, L', rfl, rfl, ownT_mono s c v L1 (fun b hb => ha b (List.mem_append_left _ hb)) h1, r1⟩
      · refine (r2.append_left L1).trans ?_
        rw [← List.append_assoc, ← List.append_assoc]
        exact (List.perm_append_comm).append_right L3

theorem ownEs_cell {s : Sh} : ∀ {es : List T} {vs : List Value} {L : List Nat} {i : Nat} {y : T}, ownEs w s es vs L → es[i]? = some y →
    ∃ v Li L1, vs[i]? = some v ∧ ownT w s y v Li ∧ List.Perm L (Li ++ L1) ∧
      ∀ (w' : World) (y' : T) (Li' : List Nat), (∀ b ∈ L1, w'.heap[b]? = w.heap[b]?) → ownT w' s y' v Li' → ∃ L', ownEs w' s (es.set i y') vs L' ∧ List.Perm L' (Li' ++ L1)
  | [], _, _, _, _, _, h => by simp at h
  | c :: cs, vs, L, 0, y, h, hs => by
    simp only [List.getElem?_cons_zero, Option.some.injEq] at hs
    subst hs
    simp only [ownEs] at h
    obtain ⟨v, vs', L1, L2, rfl, rfl, h1, h2⟩ := h
    refine ⟨v, L1, L2, rfl, h1, List.Perm.refl _, fun w' c' Lj' ha hx => ⟨Lj' ++ L2, ?_, List.Perm.refl _⟩⟩
    simp only [List.set_cons_zero, ownEs]
    exact ⟨v, vs', Lj', L2, rfl, rfl, hx, ownEs_mono s cs vs' L2 ha h2⟩
  | c :: cs, vs, L, i + 1, y, h, hs => by
    simp only [List.getElem?_cons_succ] at hs
    simp only [ownEs] at h
    obtain ⟨v, vs', L1, L2, rfl, rfl, h1, h2⟩ := h
    obtain ⟨u, Lj, L3, q2, q3, q4, q5⟩ := ownEs_cell h2 hs
    refine ⟨u, Lj, L1 ++ L3, by simpa using q2, q3, ?_, fun w' c'' Lj' ha hx => ?_⟩
    · refine (q4.append_left L1).trans ?_
      rw [← List.append_assoc, ← List.append_assoc]
      exact (List.perm_append_comm).append_right L3
    · obtain ⟨L', r1, r2⟩ := q5 w' c'' Lj' (fun b hb => ha b (List.mem_append_right _ hb)) hx
      refine ⟨L1 ++ L', ?_, ?_⟩
      · simp only [List.set_cons_succ, ownEs]
        exact ⟨v, vs', L1, L', rfl, rfl, ownT_mono s c v L1 (fun b hb => ha b (List.mem_append_left _ hb)) h1, r1⟩
      · refine (r2.append_left L1).trans ?_
        rw [← List.append_assoc, ← List.append_assoc]
        exact (List.perm_append_comm).append_right L3

theorem ownsRow_slice {base : Nat} {e : TypeId} {m n : Nat} {v : Value} {xs : List Value} (h : w.ownsRow base e m v n xs) : ∃ A n c, v = .slice A n c := by
  rcases h.2 with ⟨h, _⟩ | ⟨g, cap, cur, h, _⟩
  · exact ⟨_, _, _, h⟩
  · exact ⟨_, _, _, h⟩

theorem own_cell {s : Sh} {y : T} {v : Value} {L : List Nat} {j : Nat} {e1 : TypeId} {m1 : Nat} {s1 : Sh} (h : ownT w s y v L) (hs : s.cells[j]? = some (.sl e1 m1 s1)) :
    ∃ xs u Lj L1, y.cells[j]? = some (.sl xs) ∧ v.cells[j]? = some u ∧ ownT w (.sl e1 m1 s1) (.sl xs) u Lj ∧ List.Perm L (Lj ++ L1) ∧
      ∀ (w' : World) (xs' : List T) (Lj' : List Nat), (∀ b ∈ L1, w'.heap[b]? = w.heap[b]?) → ownT w' (.sl e1 m1 s1) (.sl xs') u Lj' → ∃ L', ownT w' s (y.setCell j (.sl xs')) v L' ∧ List.Perm L' (Lj' ++ L1) := by
  cases s with
  | leaf => cases j <;> simp [Sh.cells] at hs
  | sl e m s' =>
    cases j with
    | succ j => simp [Sh.cells] at hs
    | zero =>
      simp only [Sh.cells, List.getElem?_cons_zero, Option.some.injEq, Sh.sl.injEq] at hs
      obtain ⟨rfl, rfl, rfl⟩ := hs
      cases y <;> simp only [ownT] at h
      rename_i es
      have hsl : ∃ A n c, v = .slice A n c := by obtain ⟨vs, L', h1, _⟩ := h; exact ownsRow_slice h1
      obtain ⟨A, n, c, rfl⟩ := hsl
      refine ⟨es, _, L, [], rfl, rfl, by simp only [ownT]; exact h, by simp, fun w' xs' Lj' _ hx => ⟨Lj', ?_, by simp⟩⟩
      simp only [T.setCell]
      exact hx
  | ag ss =>
    simp only [Sh.cells] at hs
    cases y <;> simp only [ownT] at h
    rename_i cs
    obtain ⟨vs, rfl, h⟩ := h
    obtain ⟨c, u, Lj, L1, q1, q2, q3, q4, q5⟩ := ownTs_cell h hs
    obtain ⟨xs, rfl⟩ : ∃ xs, c = .sl xs := by cases c <;> simp only [ownT] at q3; exact ⟨_, rfl⟩
    refine ⟨xs, u, Lj, L1, by simpa [T.cells] using q1, by simpa [Value.cells] using q2, q3, q4, fun w' xs' Lj' ha hx => ?_⟩
    obtain ⟨L', r1, r2⟩ := q5 w' _ Lj' ha hx
    exact ⟨L', by simp only [T.setCell, ownT]; exact ⟨vs, rfl, r1⟩, r2⟩

/-- a list inside a list is a thing of its own now -/
theorem Rel.openRow (hr : Rel w0 σ hv S F a w) {id i j : Nat} {e : TypeId} {m : Nat} {s : Sh} {es : List T} {y : T} {e1 : TypeId} {m1 : Nat} {s1 : Sh} {xs : List T} (hid : σ.ob[id]? = some (.arr e m (.own s) es)) (hs : s.cells[j]? = some (.sl e1 m1 s1)) (hi : es[i]? = some y) (hy : y.cells[j]? = some (.sl xs))
    (hnt : ∀ t, (getL σ.tm t).noBw = true) (hno : ∀ (k : Nat) o, σ.ob[k]? = some o → o.noBw = true) :
    ∃ (hv' : Hv) (F' : Nat → List Nat) (vs : List Value) (v : Value), (∀ k, k < σ.ob.length → hv' k = hv k) ∧ w.ownsRow 0 e m (hv id) es.length (cellsL vs) ∧ (∀ v ∈ vs, v.cells.size = m) ∧ vs[i]? = some v ∧ v.cells[j]? = some (hv' σ.ob.length) ∧
      Rel w0 { σ with ob := σ.ob.set id (.hole e m s es i j σ.ob.length) ++ [.arr e1 m1 (.own s1) xs] } hv' S F' a w := by
  obtain ⟨vs, h1, ⟨L, h2, h3, h4⟩, h5, h6⟩ := hr.ob id _ hid
  obtain ⟨v, Li, LA, a1, a2, a3, a4⟩ := ownEs_cell h2 hi
  obtain ⟨xs0, u, Lj, LB, b1, b2, b3, b4, b5⟩ := own_cell a2 hs
  rw [hy] at b1
  simp only [Option.some.injEq, T.sl.injEq] at b1
  subst b1
  have hperm : List.Perm L (Lj ++ (LB ++ LA)) := by
    rw [← List.append_assoc]; exact a3.trans (b4.append_right LA)
  have hnd : (Lj ++ (LB ++ LA)).Nodup := hperm.nodup_iff.1 h3
  have b3' := b3
  simp only [ownT] at b3
  obtain ⟨us, L', c1, c2, c3, c4, rfl⟩ := b3
  have hin : ∀ b, b ∈ ((blkOf u).toList ++ L') ++ (LB ++ LA) → b ∈ F id := fun b hb => h4 b (hperm.mem_iff.2 hb)
  have hlt : id < σ.ob.length := get_lt hid
  obtain ⟨hnd1, hnd2, hnd3⟩ := List.nodup_append.1 hnd
  obtain ⟨hnd4, hnd5, hnd6⟩ := List.nodup_append.1 hnd1
  have own := hr.fown id _ hid rfl
  have uF : ∀ b, blkOf u = some b → b ∈ F id := fun b hb => hin b (by simp [hb])
  have hu1 : u.oneCell' = true := by obtain ⟨A, n, c, rfl⟩ := ownsRow_slice c1; rfl
  let n := σ.ob.length
  let B' : Nat → Prop := fun b => hv.B b ∧ blkOf u ≠ some b
  let hv' : Hv := ⟨fun k => if k = σ.ob.length then u else hv k, B'⟩
  have he : ∀ k, k < σ.ob.length → hv' k = hv k := fun k hk => by show (if k = σ.ob.length then u else hv k) = _; rw [if_neg (by omega)]
  have hn : hv' σ.ob.length = u := by show (if σ.ob.length = σ.ob.length then u else _) = _; rw [if_pos rfl]
  let F' : Nat → List Nat := fun k => if k = σ.ob.length then L' else if k = id then LB ++ LA else F k
  have hFn : F' σ.ob.length = L' := by show (if _ then _ else _) = _; rw [if_pos rfl]
  have hFid : F' id = LB ++ LA := by show (if _ then _ else _) = _; rw [if_neg (by omega), if_pos rfl]
  have hFk : ∀ k, k < σ.ob.length → k ≠ id → F' k = F k := fun k h1 h2 => by show (if _ then _ else _) = _; rw [if_neg (by omega), if_neg h2]
  have get : ∀ (k : Nat) o, (σ.ob.set id (Ob.hole e m s es i j σ.ob.length) ++ [Ob.arr e1 m1 (.own s1) xs])[k]? = some o → (k < σ.ob.length ∧ k ≠ id ∧ σ.ob[k]? = some o) ∨ (k = id ∧ o = .hole e m s es i j σ.ob.length) ∨ (k = σ.ob.length ∧ o = .arr e1 m1 (.own s1) xs) := by
    intro k o hk
    rcases app_get hk with ⟨h, hk⟩ | ⟨h, rfl⟩
    · rw [List.length_set] at h
      rcases set_get hk with ⟨rfl, rfl⟩ | ⟨hne, hk⟩
      · exact .inr (.inl ⟨rfl, rfl⟩)
      · exact .inl ⟨h, hne, hk⟩
    · rw [List.length_set] at h
      exact .inr (.inr ⟨h, rfl⟩)
  have hlen : (σ.ob.set id (Ob.hole e m s es i j σ.ob.length) ++ [Ob.arr e1 m1 (.own s1) xs]).length = σ.ob.length + 1 := by simp
  refine ⟨hv', F', vs, v, he, h1, h5, a1, by rw [hn]; exact b2, ?_⟩
  have hag : ∀ (w' : World) (xs' : List T) (Lj' : List Nat), (∀ b ∈ LB ++ LA, w'.heap[b]? = w.heap[b]?) → ownT w' (.sl e1 m1 s1) (.sl xs') u Lj' → ∃ L', ownEs w' s (es.set i (y.setCell j (.sl xs'))) vs L' ∧ List.Perm L' (Lj' ++ (LB ++ LA)) := by
    intro w' xs' Lj' ha hx
    obtain ⟨L2, r1, r2⟩ := b5 w' xs' Lj' (fun b hb => ha b (List.mem_append_left _ hb)) hx
    obtain ⟨L3, r3, r4⟩ := a4 w' _ L2 (fun b hb => ha b (List.mem_append_right _ hb)) r1
    refine ⟨L3, r3, r4.trans ?_⟩
    rw [← List.append_assoc]
    exact r2.append_right LA
  have rootk : ∀ (k : Nat) o, k < σ.ob.length → σ.ob[k]? = some o → o ≠ .dead → ∀ b, blkOf (hv k) = some b → blkOf u ≠ some b := fun k o _ hk hd b hb hh => (hr.root k o hk hd b hb).2.2 (own b (uF b hh)).2.1
  refine { size := hr.size, defs := hr.defs, tm := fun t => ?_, utm := fun t => ?_, ob := fun k o hk => ?_, uob := fun k o hk => ?_, root := fun k o hk hd b hb => ?_, sep := fun k l ok ol hkl hk hl dk dl b hb => ?_, SB := fun b hb => ⟨hr.SB b hb, fun hh => (own b (uF b hh)).2.2 hb⟩, Blt := fun b hb => hr.Blt b hb.1, Bin := fun b hb => hr.Bin b hb.1, fown := fun k o hk hown b hb => ?_, fsep := fun k l ok ol hkl hk hl hok hol b hb => ?_, below := hr.below, one := fun k => ?_, an := by rw [hlen]; have := hr.an; omega, av := fun k hk => by rw [he k (by have := hr.an; omega)]; exact hr.av k hk }
  · obtain ⟨Lt, q1, q2⟩ := hr.tm t
    exact ⟨Lt, footA_anyB he _ _ Lt (hnt t) (hr.utm t) q1, q2⟩
  · rw [hlen]; exact AV.under_mono (by omega) _ (hr.utm t)
  · rcases get k o hk with ⟨hk1, hk2, hk3⟩ | ⟨rfl, rfl⟩ | ⟨rfl, rfl⟩
    · rw [hFk k hk1 hk2, he k hk1]
      by_cases hd : o = .dead
      · subst hd; trivial
      · have hu := hr.uob k o hk3
        have ho := hr.ob k o hk3
        -- the map on values: fixed on all that stand
        have hv2 : ObR ⟨fun k => if k < σ.ob.length then hv k else hv k, B'⟩ S w (F k) (hv k) (o.ren fun i => i) := ho.anyB (hno k o hk3) (fun i => by dsimp only; split <;> rfl)
        have hid' : o.ren (fun i => i) = o := by
          cases o <;> simp only [Ob.ren]
          rename_i x
          congr 1
          exact ren_id x
        rw [hid'] at hv2
        exact hv2.mono hu (hv' := hv') (fun i hi => by rw [he i hi]; dsimp only; split <;> rfl) (fun b hb => ⟨hb, rfl⟩) (fun b hb => ⟨hb, rfl⟩) (fun _ b _ => rfl) (fun b _ => rfl)
    · rw [hFid, he k hlt]
      exact ⟨vs, v, y, LB ++ LA, e1, m1, s1, h1, h5, h6, hi, a1, by rw [hn]; exact b2, hs, hnd2, fun b hb => hb, by rw [hn]; exact hag⟩
    · rw [hFn, hn]
      exact ⟨us, c1, ⟨L', c2, hnd5, fun b hb => hb⟩, c3, c4⟩
  · rw [hlen]
    rcases get k o hk with ⟨hk1, hk2, hk3⟩ | ⟨rfl, rfl⟩ | ⟨rfl, rfl⟩
    · exact Ob.under_mono (by omega) _ (hr.uob k o hk3)
    · simp [Ob.under]
    · rfl
  · rcases get k o hk with ⟨hk1, hk2, hk3⟩ | ⟨rfl, rfl⟩ | ⟨rfl, rfl⟩
    · rw [he k hk1] at hb
      obtain ⟨q1, q2, q3⟩ := hr.root k o hk3 hd b hb
      exact ⟨q1, q2, fun hh => q3 hh.1⟩
    · rw [he k hlt] at hb
      obtain ⟨q1, q2, q3⟩ := hr.root k _ hid (by simp) b hb
      exact ⟨q1, q2, fun hh => q3 hh.1⟩
    · rw [hn] at hb
      obtain ⟨q1, q2, q3⟩ := own b (uF b hb)
      exact ⟨q1, hr.Blt b q2, fun hh => hh.2 hb⟩
  · rcases get k ok hk with ⟨hk1, hk2, hk3⟩ | ⟨rfl, rfl⟩ | ⟨rfl, rfl⟩ <;> rcases get l ol hl with ⟨hl1, hl2, hl3⟩ | ⟨rfl, rfl⟩ | ⟨rfl, rfl⟩
    · rw [he k hk1] at hb; rw [he l hl1]; exact hr.sep k l ok ol hkl hk3 hl3 dk dl b hb
    · rw [he k hk1] at hb; rw [he l hlt]; exact hr.sep k l ok _ hkl hk3 hid dk (by simp) b hb
    · rw [he k hk1] at hb; rw [hn]; exact rootk k ok hk1 hk3 dk b hb
    · rw [he k hlt] at hb; rw [he l hl1]; exact hr.sep k l _ ol hkl hid hl3 (by simp) dl b hb
    · exact absurd rfl hkl
    · rw [he k hlt] at hb; rw [hn]; exact rootk k _ hlt hid (by simp) b hb
    · rw [hn] at hb; rw [he l hl1]; exact fun hh => rootk l ol hl1 hl3 dl b hh hb
    · rw [hn] at hb; rw [he l hlt]; exact fun hh => rootk l _ hlt hid (by simp) b hh hb
    · exact absurd rfl hkl
  · rcases get k o hk with ⟨hk1, hk2, hk3⟩ | ⟨rfl, rfl⟩ | ⟨rfl, rfl⟩
    · rw [hFk k hk1 hk2] at hb
      obtain ⟨q1, q2, q3⟩ := hr.fown k o hk3 hown b hb
      exact ⟨q1, ⟨q2, fun hh => hr.fsep k id o _ hk2 hk3 hid hown rfl b hb (uF b hh)⟩, q3⟩
    · rw [hFid] at hb
      obtain ⟨q1, q2, q3⟩ := own b (hin b (List.mem_append_right _ hb))
      exact ⟨q1, ⟨q2, fun hh => hnd3 b (List.mem_append_left _ (by simp [hh])) b hb rfl⟩, q3⟩
    · rw [hFn] at hb
      obtain ⟨q1, q2, q3⟩ := own b (hin b (List.mem_append_left _ (List.mem_append_right _ hb)))
      exact ⟨q1, ⟨q2, fun hh => hnd6 b (by simp [hh]) b hb rfl⟩, q3⟩
  · rcases get k ok hk with ⟨hk1, hk2, hk3⟩ | ⟨rfl, rfl⟩ | ⟨rfl, rfl⟩ <;> rcases get l ol hl with ⟨hl1, hl2, hl3⟩ | ⟨rfl, rfl⟩ | ⟨rfl, rfl⟩
    · rw [hFk k hk1 hk2] at hb; rw [hFk l hl1 hl2]; exact hr.fsep k l ok ol hkl hk3 hl3 hok hol b hb
    · rw [hFk k hk1 hk2] at hb; rw [hFid]; exact fun hh => hr.fsep k l ok _ hkl hk3 hid hok rfl b hb (hin b (List.mem_append_right _ hh))
    · rw [hFk k hk1 hk2] at hb; rw [hFn]; exact fun hh => hr.fsep k id ok _ hk2 hk3 hid hok rfl b hb (hin b (List.mem_append_left _ (List.mem_append_right _ hh)))
    · rw [hFid] at hb; rw [hFk l hl1 hl2]; exact hr.fsep k l _ ol hkl hid hl3 rfl hol b (hin b (List.mem_append_right _ hb))
    · exact absurd rfl hkl
    · rw [hFid] at hb; rw [hFn]; exact fun hh => hnd3 b (List.mem_append_right _ hh) b hb rfl
    · rw [hFn] at hb; rw [hFk l hl1 hl2]; exact hr.fsep id l _ ol (Ne.symm hl2) hid hl3 rfl hol b (hin b (List.mem_append_left _ (List.mem_append_right _ hb)))
    · rw [hFn] at hb; rw [hFid]; exact fun hh => hnd3 b (List.mem_append_right _ hb) b hh rfl
    · exact absurd rfl hkl
  · show (if k = σ.ob.length then u else hv k).oneCell' = true
    split
    · exact hu1
    · exact hr.one k

/-- it is put back -/
theorem Rel.closeRow (hr : Rel w0 σ hv S F a w) {id i j n : Nat} {e : TypeId} {m : Nat} {s : Sh} {es : List T} {y : T} {e1 : TypeId} {m1 : Nat} {s1 : Sh} {xs : List T} (hid : σ.ob[id]? = some (.hole e m s es i j n)) (hn : σ.ob[n]? = some (.arr e1 m1 (.own s1) xs)) (hs : s.cells[j]? = some (.sl e1 m1 s1)) (hi : es[i]? = some y) :
    ∃ (hv' : Hv) (F' : Nat → List Nat), Rel w0 { σ with ob := (σ.ob.set n .dead).set id (.arr e m (.own s) (es.set i (y.setCell j (.sl xs)))) } hv' S F' a w := by
  have hne : id ≠ n := by rintro rfl; rw [hid] at hn; cases hn
  obtain ⟨vs, v, y', L0, e1', m1', s1', h1, h2, h3, h4, h5, h6, h7, h8, h9, h10⟩ := hr.ob id _ hid
  rw [hi] at h4; cases h4
  rw [hs] at h7; cases h7
  obtain ⟨us, c1, ⟨L', c2, c2n, c2F⟩, c3, c4⟩ := hr.ob n _ hn
  have hsub : ownT w (.sl e1 m1 s1) (.sl xs) (hv n) ((blkOf (hv n)).toList ++ L') := by
    simp only [ownT]
    exact ⟨us, L', c1, c2, c3, c4, rfl⟩
  obtain ⟨LL, g1, g2⟩ := h10 w xs _ (fun b _ => rfl) hsub
  have ownn := hr.fown n _ hn rfl
  have ownid := hr.fown id _ hid rfl
  have rootn := hr.root n _ hn (by simp)
  have hLmem : ∀ b, b ∈ LL → blkOf (hv n) = some b ∨ b ∈ L' ∨ b ∈ L0 := by
    intro b hb
    have := g2.mem_iff.1 hb
    simp only [List.mem_append, Option.mem_toList, Option.mem_def] at this
    rcases this with (h | h) | h
    · exact .inl h
    · exact .inr (.inl h)
    · exact .inr (.inr h)
  have hLL : LL.Nodup := by
    rw [g2.nodup_iff, List.nodup_append, List.nodup_append]
    refine ⟨⟨by cases blkOf (hv n) <;> simp, c2n, fun b hb c hc => ?_⟩, h8, fun b hb c hc => ?_⟩
    · rintro rfl
      simp only [Option.mem_toList, Option.mem_def] at hb
      exact (rootn b hb).2.2 (ownn b (c2F b hc)).2.1
    · rintro rfl
      simp only [List.mem_append, Option.mem_toList, Option.mem_def] at hb
      rcases hb with hb | hb
      · exact (rootn b hb).2.2 (ownid b (h9 b hc)).2.1
      · exact hr.fsep n id _ _ (Ne.symm hne) hn hid rfl rfl b (c2F b hb) (h9 b hc)
  let B' : Nat → Prop := fun b => hv.B b ∨ blkOf (hv n) = some b
  let hv' : Hv := ⟨hv.v, B'⟩
  let F' : Nat → List Nat := fun k => if k = id then LL else F k
  have hFid : F' id = LL := by show (if _ then _ else _) = _; rw [if_pos rfl]
  have hFk : ∀ k, k ≠ id → F' k = F k := fun k h => by show (if _ then _ else _) = _; rw [if_neg h]
  have get : ∀ (k : Nat) o, ((σ.ob.set n .dead).set id (.arr e m (.own s) (es.set i (y.setCell j (.sl xs)))))[k]? = some o → o = .dead ∨ (k ≠ id ∧ k ≠ n ∧ σ.ob[k]? = some o) ∨ (k = id ∧ o = .arr e m (.own s) (es.set i (y.setCell j (.sl xs)))) := by
    intro k o hk
    rcases set_get hk with ⟨rfl, rfl⟩ | ⟨h1, hk⟩
    · exact .inr (.inr ⟨rfl, rfl⟩)
    · rcases set_get hk with ⟨rfl, rfl⟩ | ⟨h2, hk⟩
      · exact .inl rfl
      · exact .inr (.inl ⟨h1, h2, hk⟩)
  have hlen : ((σ.ob.set n .dead).set id (.arr e m (.own s) (es.set i (y.setCell j (.sl xs))))).length = σ.ob.length := by simp
  have base : ∀ b, b ∈ LL → (w0.M b ∨ w0.heap.size ≤ b) ∧ B' b ∧ ¬ S b := by
    intro b hb
    rcases hLmem b hb with h | h | h
    · exact ⟨(rootn b h).1, .inr h, hr.rootS hn (by simp) h⟩
    · obtain ⟨q1, q2, q3⟩ := ownn b (c2F b h); exact ⟨q1, .inl q2, q3⟩
    · obtain ⟨q1, q2, q3⟩ := ownid b (h9 b h); exact ⟨q1, .inl q2, q3⟩
  refine ⟨hv', F', ?_⟩
  refine { size := hr.size, defs := hr.defs, tm := fun t => ?_, utm := fun t => by rw [hlen]; exact hr.utm t, ob := fun k o hk => ?_, uob := fun k o hk => ?_, root := fun k o hk hd b hb => ?_, sep := fun k l ok ol hkl hk hl dk dl b hb => ?_, SB := fun b hb => .inl (hr.SB b hb), Blt := fun b hb => hb.elim (hr.Blt b) (fun h => (rootn b h).2.1), Bin := fun b hb => hb.elim (hr.Bin b) (fun h => .inr (rootn b h).1), fown := fun k o hk hown b hb => ?_, fsep := fun k l ok ol hkl hk hl hok hol b hb => ?_, below := hr.below, one := hr.one, an := by rw [hlen]; exact hr.an, av := hr.av }
  · obtain ⟨Lt, q1, q2⟩ := hr.tm t
    exact ⟨Lt, footA_hv (hv' := hv') (n := σ.ob.length) (fun b hb => .inl hb) (fun _ _ => rfl) _ _ Lt (hr.utm t) q1, q2⟩
  · rcases get k o hk with rfl | ⟨hk1, hk2, hk3⟩ | ⟨rfl, rfl⟩
    · trivial
    · rw [hFk k hk1]
      exact (hr.ob k o hk3).mono (hr.uob k o hk3) (hv' := hv') (fun _ _ => rfl) (fun b hb => ⟨hb, rfl⟩) (fun b hb => ⟨.inl hb, rfl⟩) (fun _ b _ => rfl) (fun b _ => rfl)
    · rw [hFid]
      exact ⟨vs, by rw [List.length_set]; exact h1, ⟨LL, g1, hLL, fun b hb => hb⟩, h2, by rw [List.length_set]; exact h3⟩
  · rw [hlen]
    rcases get k o hk with rfl | ⟨hk1, hk2, hk3⟩ | ⟨rfl, rfl⟩
    · rfl
    · exact hr.uob k o hk3
    · rfl
  · rcases get k o hk with rfl | ⟨hk1, hk2, hk3⟩ | ⟨rfl, rfl⟩
    · exact absurd rfl hd
    · obtain ⟨q1, q2, q3⟩ := hr.root k o hk3 hd b hb
      exact ⟨q1, q2, fun hh => hh.elim q3 (fun h => hr.sep k n o _ hk2 hk3 hn hd (by simp) b hb h)⟩
    · obtain ⟨q1, q2, q3⟩ := hr.root k _ hid (by simp) b hb
      exact ⟨q1, q2, fun hh => hh.elim q3 (fun h => hr.sep k n _ _ hne hid hn (by simp) (by simp) b hb h)⟩
  · rcases get k ok hk with rfl | ⟨hk1, hk2, hk3⟩ | ⟨rfl, rfl⟩
    · exact absurd rfl dk
    · rcases get l ol hl with rfl | ⟨hl1, hl2, hl3⟩ | ⟨rfl, rfl⟩
      · exact absurd rfl dl
      · exact hr.sep k l ok ol hkl hk3 hl3 dk dl b hb
      · exact hr.sep k l ok _ hkl hk3 hid dk (by simp) b hb
    · rcases get l ol hl with rfl | ⟨hl1, hl2, hl3⟩ | ⟨rfl, rfl⟩
      · exact absurd rfl dl
      · exact hr.sep k l _ ol hkl hid hl3 (by simp) dl b hb
      · exact absurd rfl hkl
  · rcases get k o hk with rfl | ⟨hk1, hk2, hk3⟩ | ⟨rfl, rfl⟩
    · cases hown
    · rw [hFk k hk1] at hb
      obtain ⟨q1, q2, q3⟩ := hr.fown k o hk3 hown b hb
      exact ⟨q1, .inl q2, q3⟩
    · rw [hFid] at hb; exact base b hb
  · have other : ∀ (k : Nat) o, k ≠ id → k ≠ n → σ.ob[k]? = some o → o.owns = true → ∀ b, b ∈ F k → b ∉ LL := by
      intro k o h1 h2 h3 h4 b hb hL
      rcases hLmem b hL with h | h | h
      · exact (rootn b h).2.2 (hr.fown k o h3 h4 b hb).2.1
      · exact hr.fsep k n o _ h2 h3 hn h4 rfl b hb (c2F b h)
      · exact hr.fsep k id o _ h1 h3 hid h4 rfl b hb (h9 b h)
    rcases get k ok hk with rfl | ⟨hk1, hk2, hk3⟩ | ⟨rfl, rfl⟩
    · cases hok
    · rw [hFk k hk1] at hb
      rcases get l ol hl with rfl | ⟨hl1, hl2, hl3⟩ | ⟨rfl, rfl⟩
      · cases hol
      · rw [hFk l hl1]; exact hr.fsep k l ok ol hkl hk3 hl3 hok hol b hb
      · rw [hFid]; exact other k ok hk1 hk2 hk3 hok b hb
    · rw [hFid] at hb
      rcases get l ol hl with rfl | ⟨hl1, hl2, hl3⟩ | ⟨rfl, rfl⟩
      · cases hol
      · rw [hFk l hl1]; exact fun hh => other l ol hl1 hl2 hl3 hol b hh hb
      · exact absurd rfl hkl

def onSl (o : Option T) (K : List T → Prop) : Prop := match o with
  | some (.sl xs) => K xs
  | _ => False
def onShSl (o : Option Sh) (K : TypeId → Nat → Sh → Prop) : Prop := match o with
  | some (.sl e m s) => K e m s
  | _ => False
def opn (P : Program) (t : TypeId) (id i m off : Nat) (tm : List (Nat × AV)) (ob : List Ob) (K : AV → List Ob → Prop) (e : TypeId) (m' : Nat) (s : Sh) (es : List T) : Prop :=
  onShSl s.cells[off]? fun e1 m1 s1 => m = m' ∧ i < es.length ∧ (lay P t).sc = true ∧ tmNoBw tm = true ∧ obsNoBw ob = true ∧ allAt es i fun y => onSl y.cells[off]? fun xs => K (.sr ob.length) (ob.set id (.hole e m' s es i off ob.length) ++ [.arr e1 m1 (.own s1) xs])
/-- a load of a list out of somebody's own list takes it out -/
def vcOpen (P : Program) (t : TypeId) (p : AV) (tm : List (Nat × AV)) (ob : List Ob) (K : AV → List Ob → Prop) : Prop :=
  match p with
  | .ra id i m off => match ob[id]? with
    | some (.arr e m' (.own s) es) => opn P t id i m off tm ob K e m' s es
    | _ => False
  | _ => False

theorem open_sound {K : AV → List Ob → Prop} {next : Value → World → Prop} {o : Oper} {t : TypeId} {x : Operand} (ho : o.op = .load t x) (hr : Rel w0 σ hv S F a w) (h : vcOpen P t (σ.opd x) σ.tm σ.ob K) (hn : Ans w0 σ a K next) : Does P Q o a w next := by
  unfold vcOpen at h
  split at h
  case h_2 => cases h
  rename_i id i m off hx
  split at h
  case h_2 => cases h
  rename_i e m' s es hid
  unfold opn onShSl at h
  split at h
  case h_2 => cases h
  rename_i e1 m1 s1 hs
  obtain ⟨rfl, hil, hsc, htm, hob, h⟩ := h
  have hi : es[i]? = some es[i] := List.getElem?_eq_getElem hil
  have h := h _ hi
  dsimp only at h
  unfold onSl at h
  split at h
  case h_2 => cases h
  rename_i xs hy
  obtain ⟨hv', F', vs, v, q1, q2, q3, q4, q5, q6⟩ := hr.openRow hid hs hi hy (fun t => tmNoBw_get htm t) (fun k o hk => obsNoBw_get hob hk)
  obtain ⟨⟨Lx, fx, _⟩, _⟩ := hr.arg x
  rw [hx] at fx
  simp only [footA] at fx
  obtain ⟨b, n, c, p1, p2, _⟩ := fx
  have hl := laid_elem q3 (ownsRow_laid q2 p1) q4
  rw [Nat.zero_add] at hl
  have hc := hl off _ (by simpa using q5)
  refine does_value (v := hv' σ.ob.length) (w' := w) ?_ ?_
  · have := run_load_sc (P := P) hsc hc
    simp [execOp, ho, p2, Instr.loadAt, Instr.sureAddr, this]
  · exact hn _ _ _ _ hv' S F' [] h q6 (by simp only [footA]; exact ⟨trivial, trivial⟩) (by simp) (by simp [AV.under])

theorem Wk.close {N : Nat} {σ : St} {id i j n : Nat} {e : TypeId} {m : Nat} {s : Sh} {es : List T} {y : T} {e1 : TypeId} {m1 : Nat} {s1 : Sh} {xs : List T} (hid : σ.ob[id]? = some (.hole e m s es i j n)) (hn : σ.ob[n]? = some (.arr e1 m1 (.own s1) xs)) (hs : s.cells[j]? = some (.sl e1 m1 s1)) (hi : es[i]? = some y) :
    Wk N σ { σ with ob := (σ.ob.set n .dead).set id (.arr e m (.own s) (es.set i (y.setCell j (.sl xs)))) } := by
  intro w0 hv S F a w _ hr
  obtain ⟨hv', F', h⟩ := hr.closeRow hid hn hs hi
  exact ⟨hv', S, F', h⟩

end

end Go.Proofs.Ythhgcklidfilfaa.BX
