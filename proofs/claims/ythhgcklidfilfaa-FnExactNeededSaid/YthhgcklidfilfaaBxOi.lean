/-
  A frame for proofs over whole functions, second make, a part between the fifteenth and the sixteenth: what walks over a closed map.
-/
import Derived.Test.YthhgcklidfilfaaBxOh
import Derived.Maps.RangeRun
namespace Go.Proofs.Ythhgcklidfilfaa.BX
set_option linter.unusedSectionVars false
set_option linter.unusedSimpArgs false
set_option linter.unusedVariables false
open Go Go.RowKit
variable [Bd]

def vcRange (P : Program) (t : TypeId) (x : AV) (ob : List Ob) (K : AV → List Ob → Prop) : Prop :=
  match lay P t, x with
  | .map _ _, .t (.mp ks vs) => K (.it ob.length) (ob ++ [.iter none (ks.zip vs)])
  | _, _ => False

/-- the next entry, whichever it is -/
def vcNext (x : AV) (ob : List Ob) (K : AV → List Ob → Prop) : Prop :=
  match x with
  | .it id => match ob[id]? with
    | some (.iter _ xs) => (xs = [] → K (.t (.tp [.b false])) ob) ∧ ∀ (i : Nat) (p : T × T), xs[i]? = some p → K (.tp [.t (.b true), .t p.1, .t p.2]) (ob.set id (.iter (some p) (xs.eraseIdx i)))
    | _ => False
  | _ => False

def vcEntry (x : AV) (ob : List Ob) (K : AV → List Ob → Prop) : Prop :=
  match x with
  | .it id => match ob[id]? with
    | some (.iter (some p) _) => K (.tp [.t p.1, .t p.2]) ob
    | _ => False
  | _ => False

section
variable {P : Program} {Q : Exit → Act → World → Prop} {w0 : Base} {σ : St} {hv : Hv} {S : Nat → Prop} {F : Nat → List Nat} {a : Act} {w : World}
  {K : AV → List Ob → Prop} {next : Value → World → Prop}

theorem footTs_iff {S : Nat → Prop} : ∀ {xs : List T} {vs : List Value}, (∃ L, footTs w xs vs L ∧ ∀ b ∈ L, S b) ↔ vs.length = xs.length ∧ ∀ (i : Nat) (x : T) (v : Value), xs[i]? = some x → vs[i]? = some v → ∃ L, footT w x v L ∧ ∀ b ∈ L, S b
  | [], vs => by
    refine ⟨fun ⟨L, h, _⟩ => ?_, fun ⟨h, _⟩ => ?_⟩
    · simp only [footTs] at h
      simp [h.1]
    · have : vs = [] := List.eq_nil_of_length_eq_zero (by simpa using h)
      subst this
      exact ⟨[], by simp [footTs], by simp⟩
  | x :: xs, vs => by
    refine ⟨fun ⟨L, h, hL⟩ => ?_, fun ⟨h, hi⟩ => ?_⟩
    · refine ⟨footTs_length h, fun i y v hy hv => ?_⟩
      obtain ⟨v', L', q1, q2, q3⟩ := footTs_get h hy
      rw [hv] at q1
      cases q1
      exact ⟨L', q2, fun b hb => hL b (q3 b hb)⟩
    · cases vs with
      | nil => simp at h
      | cons v vs =>
        obtain ⟨L1, a1, a2⟩ := hi 0 x v rfl rfl
        obtain ⟨L2, b1, b2⟩ := footTs_iff.2 (⟨by simpa using h, fun i y u hy hu => hi (i + 1) y u (by simpa using hy) (by simpa using hu)⟩ : vs.length = xs.length ∧ ∀ (i : Nat) (x : T) (v : Value), xs[i]? = some x → vs[i]? = some v → ∃ L, footT w x v L ∧ ∀ b ∈ L, S b)
        refine ⟨L1 ++ L2, by simp only [footTs]; exact ⟨v, vs, L1, L2, rfl, rfl, a1, b1⟩, fun b hb => ?_⟩
        exact (List.mem_append.1 hb).elim (a2 b) (b2 b)

theorem range_sound {o : Oper} {t : TypeId} {x : Operand} (ho : o.op = .range t x) (hr : Rel w0 σ hv S F a w) (h : vcRange P t (σ.opd x) σ.ob K) (hn : Ans w0 σ a K next) : Does P Q o a w next := by
  unfold vcRange at h
  split at h
  case h_2 => cases h
  rename_i kt et ks vs hl hx
  obtain ⟨⟨Lm, fm, hLm⟩, _⟩ := hr.arg x
  rw [hx] at fm
  simp only [footA, footT] at fm
  obtain ⟨r, es, clock, l, L1, L2, e1, e2, ⟨p1, p2, p3, p4, p5⟩, f1, f2, rfl⟩ := fm
  have hu := lay_map hl
  have hrun : (execOp a.eval o).run P w = .ok (.value (.pointer (some ⟨w.heap.size, 0, none⟩))) (w.alloc (.mapIter (some r) clock #[] clock)) := by
    have := run_range_map (P := P) w t kt et r es clock hu e2
    simp only [execOp, ho, e1, Sem.run_bind, this, Result.andThen_ok]
    rfl
  refine does_value hrun ?_
  have g := Grew.alloc w (.mapIter (some r) clock #[] clock)
  have hSr : S r := hLm r (by simp)
  have hlr := footTs_length f1
  have hlv := footTs_length f2
  rw [List.length_map] at hlr hlv
  obtain ⟨hv', _, h1, h2, h3⟩ := hr.new g (o := .iter none (ks.zip vs)) (v := .pointer (some ⟨w.heap.size, 0, none⟩)) (Fi := [])
    (by intro b hb; simp [blkOf] at hb; subst hb; exact ⟨Nat.le_refl _, by simp⟩) rfl rfl (by intro hh; cases hh) (by intro hh; cases hh) (by
      intro hv' hB he hn'
      refine ⟨w.heap.size, r, es, clock, #[], clock, [], l, L1, L2, rfl, heap_alloc_new w _, .inl hSr, (g.block r (hr.Slt r hSr)).trans e2, Nat.le_refl _, .inl rfl, ?_, ?_, ⟨?_, rfl, by simp⟩, ?_, ?_, ?_⟩
      · intro e he; exact p3 e (p1.mem_iff.2 he)
      · exact (p1.map _).nodup_iff.1 p2
      · rw [List.filter_eq_self.2 (by simp)]; exact p1
      · simp only [Option.toList_none, List.nil_append]
        rw [List.map_fst_zip (by omega)]
        exact footTs_mono _ _ _ (fun b hb => g.block b (hr.Slt b (hLm b (by simp [hb])))) f1
      · simp only [Option.toList_none, List.nil_append]
        rw [List.map_snd_zip (by omega)]
        exact footTs_mono _ _ _ (fun b hb => g.block b (hr.Slt b (hLm b (by simp [hb])))) f2
      · intro b hb
        refine .inl (hLm b ?_)
        rcases List.mem_append.1 hb with hb | hb
        · simp [hb]
        · simp [hb])
  exact hn _ _ _ _ hv' _ _ [] h h3 (by simp only [footA]; exact ⟨h2.symm, trivial⟩) (by simp) (by simp [AV.under])

theorem entry_sound {o : Oper} {x : Operand} (ho : o.op = .entry x) (hr : Rel w0 σ hv S F a w) (h : vcEntry (σ.opd x) σ.ob K) (hn : Ans w0 σ a K next) : Does P Q o a w next := by
  unfold vcEntry at h
  split at h
  case h_2 => cases h
  rename_i id hx
  split at h
  case h_2 => cases h
  rename_i p xs hid
  obtain ⟨⟨Lm, fm, _⟩, _⟩ := hr.arg x
  rw [hx] at fm
  simp only [footA] at fm
  obtain ⟨b, m, es, clock, seen, last, lc, l, L1, L2, h1, h2, h3, h4, h5, h6, h7, h8, ⟨h9, h9', h9''⟩, h10, h11, h12⟩ := hr.ob id _ hid
  cases lc with
  | nil => simp at h9'
  | cons e lc =>
    have : lc = [] := List.eq_nil_of_length_eq_zero (by simpa using h9')
    subst this
    obtain ⟨q1, q2, q3⟩ := h9'' e (List.mem_cons_self ..)
    subst q3
    obtain ⟨s0, hs0⟩ : ∃ s0 : Array Nat, seen = s0.push e.born := by
      obtain ⟨ys, c0, hys⟩ := Array.eq_push_of_size_ne_zero (xs := seen) (by intro h0; rw [Array.eq_empty_of_size_eq_zero h0] at q2; simp at q2)
      subst hys
      rw [Array.back?_push] at q2
      cases q2
      exact ⟨ys, rfl⟩
    subst hs0
    have hev : a.eval x = .pointer (some ⟨b, 0, none⟩) := fm.1.trans h1
    have hrun : (execOp a.eval o).run P w = .ok (.value (.tuple #[e.key, e.val])) w := by
      have := run_entry_at (P := P) w b m last s0 es last e h2 h4 q1 h8
      simp only [execOp, ho, hev, Sem.run_bind, this, Result.andThen_ok]
      rfl
    refine does_value hrun ?_
    simp only [Option.toList_some, List.cons_append, List.nil_append, List.map_cons, footTs] at h10 h11
    obtain ⟨_, _, A1, A2, a1, rfl, a2, _⟩ := h10
    obtain ⟨_, _, B1, B2, b1, rfl, b2, _⟩ := h11
    cases a1; cases b1
    refine hn _ _ _ _ hv S F (A1 ++ B1) h hr ?_ (fun b' hb' => h12 b' ?_) rfl
    · simp only [footA, footAs]
      exact ⟨[e.key, e.val], rfl, _, [e.val], A1, B1, rfl, rfl, a2, _, [], B1, [], rfl, by simp, b2, rfl, rfl⟩
    · rcases List.mem_append.1 hb' with hb' | hb' <;> simp [hb']

/-- one entry less is left -/
theorem left_less {es l : List MapEntry} {seen : Array Nat} (hn : (es.map (·.born)).Nodup) (hp : List.Perm l (es.filter fun e => !seen.contains e.born)) {j : Nat} {e : MapEntry} (hj : l[j]? = some e) :
    List.Perm (l.eraseIdx j) (es.filter fun x => !(seen.push e.born).contains x.born) := by
  have he : e ∈ es := (List.mem_filter.1 (hp.mem_iff.1 (List.mem_of_getElem? hj))).1
  have h2 : (es.filter fun x => !(seen.push e.born).contains x.born) = (es.filter fun e => !seen.contains e.born).filter fun x => decide (x.born ≠ e.born) := by
    rw [List.filter_filter]
    refine List.filter_congr fun x hx => ?_
    simp only [Array.contains_push]
    by_cases hxe : x.born = e.born
    · simp [hxe]
    · simp [hxe, beq_eq_false_iff_ne.2 hxe]
  have hnd : (l.map (·.born)).Nodup := (hp.map _).nodup_iff.2 (List.Nodup.sublist (List.filter_sublist.map _) hn)
  have h3 : l.eraseIdx j = l.filter fun x => decide (x.born ≠ e.born) := by
    clear hp h2
    induction l generalizing j with
    | nil => simp at hj
    | cons x l ih =>
      simp only [List.map_cons, List.nodup_cons] at hnd
      cases j with
      | zero =>
        simp at hj; subst hj
        rw [List.filter_cons_of_neg (by simp)]
        simp only [List.eraseIdx_cons_zero]
        exact (List.filter_eq_self.2 fun y hy => by simp; intro hh; exact hnd.1 (hh ▸ List.mem_map_of_mem hy)).symm
      | succ j =>
        simp only [List.getElem?_cons_succ] at hj
        have hne : x.born ≠ e.born := by intro hh; exact hnd.1 (hh ▸ List.mem_map_of_mem (List.mem_of_getElem? hj))
        rw [List.filter_cons_of_pos (by simpa using hne), List.eraseIdx_cons_succ, ih hj hnd.2]
  rw [h2, h3]
  exact hp.filter _

theorem next_sound {o : Oper} {x : Operand} (ho : o.op = .next x false) (hr : Rel w0 σ hv S F a w) (h : vcNext (σ.opd x) σ.ob K) (hn : Ans w0 σ a K next) : Does P Q o a w next := by
  unfold vcNext at h
  split at h
  case h_2 => cases h
  rename_i id hx
  split at h
  case h_2 => cases h
  rename_i c xs hid
  obtain ⟨hover, hmore⟩ := h
  obtain ⟨⟨Lm, fm, _⟩, _⟩ := hr.arg x
  rw [hx] at fm
  simp only [footA] at fm
  obtain ⟨b, m, es, clock, seen, last, lc, l, L1, L2, h1, h2, h3, h4, h5, h6, h7, h8, ⟨h9, h9', h9''⟩, h10, h11, h12⟩ := hr.ob id _ hid
  have hev : a.eval x = .pointer (some ⟨b, 0, none⟩) := fm.1.trans h1
  have hroot : blkOf (hv id) = some b := by rw [h1]; rfl
  have k1 := (footTs_iff (S := S)).1 ⟨L1, h10, fun b hb => h12 b (List.mem_append_left _ hb)⟩
  have k2 := (footTs_iff (S := S)).1 ⟨L2, h11, fun b hb => h12 b (List.mem_append_right _ hb)⟩
  have hlx : l.length = xs.length := by have := k1.1; simp only [List.length_map, List.length_append] at this; omega
  rcases run_next_at (P := P) w o.type b m clock last seen es clock h2 h4 h7 h5 with ⟨z1, z2⟩ | ⟨e, z1, w1, z2, z3⟩
  · have hl0 : l = [] := by
      have : (leftOf es seen).toList = es.toList.filter fun e => !seen.contains e.born := by unfold leftOf; simp
      have h0 : (leftOf es seen).toList = [] := by rw [Array.eq_empty_of_size_eq_zero z1]
      rw [← this, h0] at h9
      exact h9.eq_nil
    subst hl0
    have hx0 : xs = [] := List.eq_nil_of_length_eq_zero (by simpa using hlx.symm)
    have hrun : (execOp a.eval o).run P w = .ok (.value (.tuple #[.bool false])) w := by
      simp only [execOp, ho, hev, Sem.run_bind, z2, Result.andThen_ok]
      rfl
    refine does_value hrun (hn _ _ _ _ hv S F [] (hover hx0) hr ?_ (by simp) rfl)
    simp only [footA, footT, footTs]
    exact ⟨[.bool false], rfl, _, [], [], [], rfl, rfl, ⟨rfl, rfl⟩, rfl, rfl⟩
  · have hel : e ∈ l := by
      have : (leftOf es seen).toList = es.toList.filter fun e => !seen.contains e.born := by unfold leftOf; simp
      rw [this] at z1
      exact h9.mem_iff.2 z1
    have hee : e ∈ es.toList := (List.mem_filter.1 (h9.mem_iff.1 hel)).1
    obtain ⟨j, hj⟩ := List.getElem?_of_mem hel
    have hjl := (List.getElem?_eq_some_iff.1 hj).1
    obtain ⟨p, hp⟩ : ∃ p, xs[j]? = some p := ⟨_, List.getElem?_eq_getElem (by omega)⟩
    have hw1 : w1.heap = w.heap ∧ w1.os = w.os ∧ w1.tape = w.tape ∧ w1.output = w.output ∧ w.drawn ≤ w1.drawn := by
      rcases z2 with rfl | rfl
      · exact ⟨rfl, rfl, rfl, rfl, Nat.le_refl _⟩
      · exact ⟨rfl, rfl, rfl, rfl, Nat.le_succ _⟩
    obtain ⟨u1, u2, u3, u4, u5⟩ := hw1
    generalize hw' : Go.ChangeMaps.setBlock w1 b (.mapIter (some m) clock (seen.push e.born) clock) = w' at z3
    have hheap : w'.heap = w.heap.setIfInBounds b (.mapIter (some m) clock (seen.push e.born) clock) := by rw [← hw', ← u1]; rfl
    have hrun : (execOp a.eval o).run P w = .ok (.value (.tuple #[.bool true, e.key, e.val])) w' := by
      simp only [execOp, ho, hev, Sem.run_bind, z3, Result.andThen_ok]
      rfl
    refine does_value hrun ?_
    obtain ⟨t1, t2⟩ := heap_setMap (o' := .mapIter (some m) clock (seen.push e.born) clock) h2
    have hsame : ∀ k, k ≠ b → w'.heap[k]? = w.heap[k]? := fun k hk => by rw [hheap]; exact t2 k hk
    have hSb : ∀ k, S k → k ≠ b := fun k hk e => hr.rootS hid (by simp) hroot (e ▸ hk)
    have mono : ∀ {y : T} {v : Value} {L : List Nat}, footT w y v L → (∀ k ∈ L, S k) → footT w' y v L := fun hf hL => footT_mono _ _ _ (fun k hk => hsame k (hSb k (hL k hk))) hf
    have lcl : lc.length = c.toList.length := h9'
    obtain ⟨Lk, fk1, fk2⟩ := k1.2 (c.toList.length + j) p.1 e.key (by rw [List.getElem?_map, List.getElem?_append_right (by omega), show c.toList.length + j - c.toList.length = j by omega, hp]; rfl) (by rw [List.getElem?_map, List.getElem?_append_right (by omega), show c.toList.length + j - lc.length = j by omega, hj]; rfl)
    obtain ⟨Lv, fv1, fv2⟩ := k2.2 (c.toList.length + j) p.2 e.val (by rw [List.getElem?_map, List.getElem?_append_right (by omega), show c.toList.length + j - c.toList.length = j by omega, hp]; rfl) (by rw [List.getElem?_map, List.getElem?_append_right (by omega), show c.toList.length + j - lc.length = j by omega, hj]; rfl)
    have pick : ∀ {f : T × T → T} {g : MapEntry → Value}, (((lc ++ l).map g).length = ((c.toList ++ xs).map f).length ∧ ∀ (i : Nat) (x : T) (v : Value), ((c.toList ++ xs).map f)[i]? = some x → ((lc ++ l).map g)[i]? = some v → ∃ L, footT w x v L ∧ ∀ b ∈ L, S b) → (∃ L, footT w (f p) (g e) L ∧ ∀ k ∈ L, S k) →
        ∃ L, footTs w' (((some p).toList ++ xs.eraseIdx j).map f) (([e] ++ l.eraseIdx j).map g) L ∧ ∀ k ∈ L, S k := by
      intro f g hk hpe
      refine (footTs_iff (w := w') (S := S)).2 ⟨?_, ?_⟩
      · simp only [Option.toList_some, List.map_append, List.length_append, List.length_map, List.length_eraseIdx, hlx]
        simp
      · intro i x v hxi hvi
        cases i with
        | zero =>
          simp only [Option.toList_some, List.cons_append, List.map_cons, List.getElem?_cons_zero, Option.some.injEq] at hxi hvi
          subst hxi; subst hvi
          obtain ⟨L, q1, q2⟩ := hpe
          exact ⟨L, mono q1 q2, q2⟩
        | succ i =>
          simp only [Option.toList_some, List.cons_append, List.nil_append, List.map_cons, List.getElem?_cons_succ, List.getElem?_map, List.getElem?_eraseIdx] at hxi hvi
          have main : ∀ i' : Nat, xs[i']?.map f = some x → l[i']?.map g = some v → ∃ L, footT w' x v L ∧ ∀ b ∈ L, S b := by
            intro i' a1 a2
            obtain ⟨L, q1, q2⟩ := hk.2 (c.toList.length + i') x v (by rw [List.getElem?_map, List.getElem?_append_right (by omega), show c.toList.length + i' - c.toList.length = i' by omega]; exact a1) (by rw [List.getElem?_map, List.getElem?_append_right (by omega), show c.toList.length + i' - lc.length = i' by omega]; exact a2)
            exact ⟨L, mono q1 q2, q2⟩
          by_cases hij : i < j
          · rw [if_pos hij] at hxi hvi
            exact main i hxi hvi
          · rw [if_neg hij] at hxi hvi
            exact main (i + 1) hxi hvi
    obtain ⟨L1', g1, g2⟩ := pick (f := (·.1)) (g := (·.key)) k1 ⟨Lk, fk1, fk2⟩
    obtain ⟨L2', g3, g4⟩ := pick (f := (·.2)) (g := (·.val)) k2 ⟨Lv, fv1, fv2⟩
    have hmb : m ≠ b := hSb m h3
    have hr3 := hr.write hid (by simp) (w' := w') (o' := .iter (some p) (xs.eraseIdx j)) (fun k hk => hsame k (fun e => hk (by rw [hroot, e]))) (by rw [hheap]; simp) (by rw [← hw']; exact u2) (by rw [← hw']; exact u3) (by rw [← hw']; exact u4) (by rw [← hw']; exact u5) rfl
      ⟨b, m, es, clock, seen.push e.born, clock, [e], l.eraseIdx j, L1', L2', h1, by rw [hheap]; exact t1, h3, (hsame m hmb).trans h4, Nat.le_refl _, .inr rfl, h7, h8, ⟨left_less h8 h9 hj, rfl, fun e' he' => by
        have : e' = e := by simpa using he'
        subst this
        exact ⟨hee, by simp, rfl⟩⟩, g1, g3, fun k hk => (List.mem_append.1 hk).elim (g2 k) (g4 k)⟩ (fun hh => by cases hh)
    refine hn _ _ _ _ hv S F (Lk ++ Lv) (hmore j p hp) hr3 ?_ (fun k hk => (List.mem_append.1 hk).elim (fk2 k) (fv2 k)) rfl
    simp only [footA, footAs]
    exact ⟨[.bool true, e.key, e.val], rfl, _, [e.key, e.val], [], Lk ++ Lv, rfl, by simp, by simp [footT], _, [e.val], Lk, Lv, rfl, rfl, mono fk1 fk2, _, [], Lv, [], rfl, by simp, mono fv1 fv2, rfl, rfl⟩

end

end Go.Proofs.Ythhgcklidfilfaa.BX
