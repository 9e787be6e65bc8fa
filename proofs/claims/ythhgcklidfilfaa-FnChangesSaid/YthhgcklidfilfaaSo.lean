/-
  The functions under 'StoreOk', the document's.
-/
import Derived.Test.YthhgcklidfilfaaPl
namespace Go.Proofs.Ythhgcklidfilfaa.BX
set_option linter.unusedSectionVars false
set_option linter.unusedSimpArgs false
set_option linter.unusedVariables false
open Go Go.RowKit
set_option maxRecDepth 20000
set_option maxHeartbeats 400000
theorem setL_len_ord {s : List Entry} {e : Entry} {keep : Bool} (h : Ordered s) : (setL s e keep).length ≤ s.length + 1 := by
  obtain ⟨_, h2, h3⟩ := setL_spec (e := e) (keep := keep) h
  cases hb : (keep || decide (¬ e.id = [])) with
  | true =>
    have := (h2 hb).length_eq
    have h4 := (aset_len (k := e.slot) (v := e.id) (l := s.map Entry.pair)).2
    simp only [List.length_map] at this h4
    omega
  | false =>
    have := (h3 hb).length_eq
    have h4 := (adel_sub (k := e.slot) (l := s.map Entry.pair)).length_le
    simp only [List.length_map] at this h4
    omega
theorem takeWhile_at {α : Type} {p : α → Bool} : ∀ {s : List α} {i : Nat}, (∀ x ∈ s.take i, p x = true) → (∀ x, s[i]? = some x → p x = false) → s.takeWhile p = s.take i
  | [], i, _, _ => by simp
  | x :: r, 0, _, h => by
    rw [List.takeWhile_cons_of_neg (by rw [h x rfl]; simp)]; rfl
  | x :: r, i + 1, h1, h2 => by
    rw [List.takeWhile_cons_of_pos (h1 x (by simp)), takeWhile_at (i := i) (fun y hy => h1 y (by simp [hy])) (fun y hy => h2 y (by simpa using hy))]
    rfl
theorem filter_take {α : Type} {p : α → Bool} {s : List α} {i : Nat} {a : α} (h : s[i]? = some a) : (s.take (i + 1)).filter p = (s.take i).filter p ++ (if p a = true then [a] else []) := by
  rw [List.take_add_one, h, List.filter_append]
  congr 1
  simp only [Option.toList_some, List.filter_cons, List.filter_nil]
/-- what stands in front, and the entry itself -/
def headL (s : List Entry) (e : Entry) (keep : Bool) : List Entry := s.takeWhile (fun x => before x e) ++ (if (keep || decide (¬ e.id = [])) = true then [e] else [])
theorem headL_len {s : List Entry} {e : Entry} {keep : Bool} : (headL s e keep).length ≤ s.length + 1 := by
  unfold headL
  have := (List.takeWhile_prefix (p := fun x => before x e) (l := s)).length_le
  rw [List.length_append]
  split <;> simp <;> omega
theorem setL_eq {s : List Entry} {e : Entry} {keep : Bool} : setL s e keep = headL s e keep ++ s.filter (fun x => before e x) := by
  unfold setL headL
  rw [List.append_assoc]
theorem patchL_ord {ch : List Entry} : ∀ {s : List Entry}, Ordered s → Ordered (patchL s ch) ∧ (patchL s ch).length ≤ s.length + ch.length := by
  induction ch with
  | nil => intro s h; exact ⟨h, by simp [patchL]⟩
  | cons e ch ih =>
    intro s h
    have h1 := (setL_spec (e := e) (keep := false) h).1
    have h2 := setL_len_ord (e := e) (keep := false) h
    have h3 := ih h1
    refine ⟨h3.1, ?_⟩
    have h4 := h3.2
    simp only [List.length_cons]
    show (patchL (setL s e false) ch).length ≤ _
    omega
theorem patchL_take {s ch : List Entry} {i : Nat} {e : Entry} (h : ch[i]? = some e) : patchL s (ch.take (i + 1)) = setL (patchL s (ch.take i)) e false := by
  unfold patchL
  rw [List.take_add_one, h, List.foldl_append]
  rfl
variable [Bd]

theorem l4Changes (s : List Entry) : Con P0 140 [eEntryS s] (.t (.b (decide ((s.length : Int) ≤ 600) && inOrd s))) [] := by
  refine Con.intro (fn := Try.f140) [.tmp 2] (fun _ => (0, [])) mixed (by kernel_rfl) rfl (by decide) rfl (by rfl) (by kernel_rfl) ?_
  simp -implicitDefEqProofs (maxSteps := 2000000) only [push_cast, Nat.reduceEqDiff, Nat.reduceLT, Nat.reduceLeDiff, Nat.reduceAdd, Nat.reduceMul, Nat.reduceSub, Nat.reduceBEq, ↓reduceIte, reduceCtorEq]
  intro _
  split
  case isFalse h => simp [h]
  rename_i h
  refine Callx.closed (l4InOrder s) rfl rfl (.inl rfl) ?_
  simp -implicitDefEqProofs (maxSteps := 2000000) only [push_cast, Nat.reduceEqDiff, Nat.reduceLT, Nat.reduceLeDiff, Nat.reduceAdd, Nat.reduceMul, Nat.reduceSub, Nat.reduceBEq, ↓reduceIte, reduceCtorEq]
  simp [h]

theorem implChangesOk (s : List Entry) : Con P0 69 [eEntryS s] (.t (.b (decide ((s.length : Int) ≤ 600) && inOrd s))) [] := by
  refine Con.intro (fn := Try.f69) [.tmp 2] (fun _ => (0, [])) mixed (by kernel_rfl) rfl (by decide) rfl (by rfl) (by kernel_rfl) ?_
  simp -implicitDefEqProofs (maxSteps := 2000000) only [push_cast, Nat.reduceEqDiff, Nat.reduceLT, Nat.reduceLeDiff, Nat.reduceAdd, Nat.reduceMul, Nat.reduceSub, Nat.reduceBEq, ↓reduceIte, reduceCtorEq]
  intro _
  split
  case isFalse h => simp [h]
  rename_i h
  refine Callx.closed (implInOrder s) rfl rfl (.inl rfl) ?_
  simp -implicitDefEqProofs (maxSteps := 2000000) only [push_cast, Nat.reduceEqDiff, Nat.reduceLT, Nat.reduceLeDiff, Nat.reduceAdd, Nat.reduceMul, Nat.reduceSub, Nat.reduceBEq, ↓reduceIte, reduceCtorEq]
  simp [h]

theorem l4Copy (s : List Entry) (hB : Bd.B ≤ 2147483648) (hs : s.length < Bd.B) : Con P0 82 [eEntryS s] (.sr 0) [.arr 32 3 (.own (.ag [.leaf, .leaf, .leaf])) (s.map eEntry)] := by
  refine Con.intro (fn := Try.f82) [.tmp 2] (fun _ => (0, [])) mixed (by kernel_rfl) rfl (by decide) rfl (by rfl) (by kernel_rfl) ?_
  simp -implicitDefEqProofs (maxSteps := 2000000) only [push_cast, Nat.reduceEqDiff, Nat.reduceLT, Nat.reduceLeDiff, Nat.reduceAdd, Nat.reduceMul, Nat.reduceSub, Nat.reduceBEq, ↓reduceIte, reduceCtorEq]
  have := Bd.lo
  exact ⟨rfl, by omega, rfl, by omega, allLen_map (f := eEntry) (fun _ => rfl), fitsAll_map (f := eEntry) (fun _ => eEntry_fits), hs, Close.of [some 1] rfl rfl rfl rfl (by simp only [push_cast, Nat.reduceEqDiff, Nat.reduceLT, Nat.reduceLeDiff, Nat.reduceAdd, Nat.reduceMul, Nat.reduceSub, Nat.reduceBEq, ↓reduceIte, reduceCtorEq] <;> rfl)⟩

theorem l4Set (s : List Entry) (e : Entry) (keep : Bool) (hB : Bd.B ≤ 2147483648) (hl : 2 * s.length + 1 < Bd.B) : Con P0 74 [eEntryS s, eEntry e, .b keep] (.sr 0) [.arr 32 3 (.own (.ag [.leaf, .leaf, .leaf])) ((setL s e keep).map eEntry)] := by
  refine Con.intro (fn := Try.f74) [.tmp 6] (fun i => if i = 11 then (6, []) else if i = 3 then (12, []) else (0, [])) mixed (by kernel_rfl) rfl (by decide) rfl (by rfl) (by kernel_rfl) ?_
  simp -implicitDefEqProofs (maxSteps := 2000000) only [push_cast, Nat.reduceEqDiff, Nat.reduceLT, Nat.reduceLeDiff, Nat.reduceAdd, Nat.reduceMul, Nat.reduceSub, Nat.reduceBEq, ↓reduceIte, reduceCtorEq]
  have := Bd.lo
  have hhl := headL_len (s := s) (e := e) (keep := keep)
  refine ⟨rfl, by omega, ?_⟩
  refine WL.loop (ι := Nat) (D := (fun i => if i = 11 then (6, []) else if i = 3 then (12, []) else (0, []))) (fun i => i ≤ s.length ∧ ∀ x ∈ s.take i, before x e = true) (fun i => ⟨62, [(0, .t (eEntryS s)), (2, .t (.b keep)), (4, .rf 0 0), (7, .sr 1), (8, .t (.i .i64 i))], [.box (.t (eEntry e)), .arr 32 3 (.own (.ag [.leaf, .leaf, .leaf])) ((s.take i).map eEntry)]⟩) (fun i => s.length - i) mixed (by kernel_rfl) 0 ⟨by omega, by simp⟩ (Keep.wk (ids := [some 0, some 1]) ?_) ?_
  · simp only [push_cast, Nat.reduceEqDiff, Nat.reduceLT, Nat.reduceLeDiff, Nat.reduceAdd, Nat.reduceMul, Nat.reduceSub, Nat.reduceBEq, ↓reduceIte, reduceCtorEq] <;> trivial
  · rintro i ⟨hi, hc⟩
    simp -implicitDefEqProofs (maxSteps := 2000000) only [push_cast, Nat.reduceEqDiff, Nat.reduceLT, Nat.reduceLeDiff, Nat.reduceAdd, Nat.reduceMul, Nat.reduceSub, Nat.reduceBEq, ↓reduceIte, reduceCtorEq, eEntry_len, eEntry_isAg, eEntry_ones, eEntry_one]
    intro hls
    split
    · rename_i h
      refine ⟨by omega, fun a ha => CallV.t (l4Before a e) (.inl rfl) ?_⟩
      rw [Int.toNat_natCast] at ha
      simp -implicitDefEqProofs (maxSteps := 2000000) only [push_cast, Nat.reduceEqDiff, Nat.reduceLT, Nat.reduceLeDiff, Nat.reduceAdd, Nat.reduceMul, Nat.reduceSub, Nat.reduceBEq, ↓reduceIte, reduceCtorEq]
      cases hb : before a e with
      | true =>
        simp -implicitDefEqProofs (maxSteps := 2000000) only [push_cast, Nat.reduceEqDiff, Nat.reduceLT, Nat.reduceLeDiff, Nat.reduceAdd, Nat.reduceMul, Nat.reduceSub, Nat.reduceBEq, ↓reduceIte, reduceCtorEq, eEntry_len, eEntry_isAg, eEntry_ones, eEntry_one, eEntry_fits]
        refine ⟨by omega, fun c hc2 => ?_⟩
        rw [Int.toNat_natCast, ha] at hc2
        cases hc2
        have hts : s.take (i + 1) = s.take i ++ [a] := by rw [List.take_add_one, ha]; rfl
        refine ⟨rfl, by omega, rfl, by omega, by simp only [List.length_take]; omega, by unfold inI64; omega, i + 1, ⟨by omega, fun x hx => ?_⟩, by omega, Keep.wk (ids := [some 0, some 3]) ?_⟩
        · rw [hts] at hx
          rcases List.mem_append.1 hx with hx | hx
          · exact hc x hx
          · simp at hx; subst hx; exact hb
        · simp only [push_cast, Nat.reduceEqDiff, Nat.reduceLT, Nat.reduceLeDiff, Nat.reduceAdd, Nat.reduceMul, Nat.reduceSub, Nat.reduceBEq, ↓reduceIte, reduceCtorEq, hts, List.map_append] <;> rfl
      | false =>
        have htw : s.takeWhile (fun x => before x e) = s.take i := takeWhile_at hc (fun x hx => by rw [ha] at hx; cases hx; exact hb)
        simp -implicitDefEqProofs (maxSteps := 2000000) only [push_cast, Nat.reduceEqDiff, Nat.reduceLT, Nat.reduceLeDiff, Nat.reduceAdd, Nat.reduceMul, Nat.reduceSub, Nat.reduceBEq, ↓reduceIte, reduceCtorEq, eEntry]
        split
        · rename_i hk
          have hM : headL s e keep = s.take i ++ [e] := by unfold headL; rw [htw, if_pos (by simp [hk])]
          refine ⟨rfl, by omega, rfl, by omega, by simp only [List.length_take]; omega, ?_⟩
          refine WL.loop (ι := Nat) (D := (fun i => if i = 11 then (6, []) else if i = 3 then (12, []) else (0, []))) (fun j => j ≤ s.length) (fun j => ⟨62, [(0, .t (eEntryS s)), (4, .rf 0 0), (7, .sr 1), (9, .t (.i .i64 j))], [.box (.t (eEntry e)), .arr 32 3 (.own (.ag [.leaf, .leaf, .leaf])) ((headL s e keep ++ (s.take j).filter (fun x => before e x)).map eEntry)]⟩) (fun j => s.length - j) mixed (by kernel_rfl) 0 (by omega) (Keep.wk (ids := [some 0, some 3]) ?_) ?_
          · simp only [push_cast, Nat.reduceEqDiff, Nat.reduceLT, Nat.reduceLeDiff, Nat.reduceAdd, Nat.reduceMul, Nat.reduceSub, Nat.reduceBEq, ↓reduceIte, reduceCtorEq, hM, eEntry, List.filter_nil, List.map_append] <;> first | rfl | exact ⟨rfl, rfl⟩ | exact ⟨rfl, rfl, rfl⟩
          intro j hj
          simp -implicitDefEqProofs (maxSteps := 2000000) only [push_cast, Nat.reduceEqDiff, Nat.reduceLT, Nat.reduceLeDiff, Nat.reduceAdd, Nat.reduceMul, Nat.reduceSub, Nat.reduceBEq, ↓reduceIte, reduceCtorEq, eEntry_len, eEntry_isAg, eEntry_ones, eEntry_one]
          intro _
          have hfl := List.length_filter_le (fun x => before e x) (s.take j)
          have htj := List.length_take_le j s
          split
          · rename_i h2
            refine ⟨by omega, fun b hb => CallV.t (l4Before e b) (.inl rfl) ?_⟩
            rw [Int.toNat_natCast] at hb
            have hft := filter_take (p := fun x => before e x) hb
            simp -implicitDefEqProofs (maxSteps := 2000000) only [push_cast, Nat.reduceEqDiff, Nat.reduceLT, Nat.reduceLeDiff, Nat.reduceAdd, Nat.reduceMul, Nat.reduceSub, Nat.reduceBEq, ↓reduceIte, reduceCtorEq]
            cases hbb : before e b with
            | true =>
              simp -implicitDefEqProofs (maxSteps := 2000000) only [push_cast, Nat.reduceEqDiff, Nat.reduceLT, Nat.reduceLeDiff, Nat.reduceAdd, Nat.reduceMul, Nat.reduceSub, Nat.reduceBEq, ↓reduceIte, reduceCtorEq, eEntry_len, eEntry_isAg, eEntry_ones, eEntry_one, eEntry_fits]
              refine ⟨by omega, fun c hc2 => ?_⟩
              rw [Int.toNat_natCast, hb] at hc2
              cases hc2
              rw [hbb, if_pos rfl] at hft
              refine ⟨rfl, by omega, rfl, by omega, by omega, by unfold inI64; omega, j + 1, by omega, by omega, Keep.wk (ids := [some 0, some 3]) ?_⟩
              simp only [push_cast, Nat.reduceEqDiff, Nat.reduceLT, Nat.reduceLeDiff, Nat.reduceAdd, Nat.reduceMul, Nat.reduceSub, Nat.reduceBEq, ↓reduceIte, reduceCtorEq, hft, List.map_append, List.append_assoc] <;> rfl
            | false =>
              simp -implicitDefEqProofs (maxSteps := 2000000) only [push_cast, Nat.reduceEqDiff, Nat.reduceLT, Nat.reduceLeDiff, Nat.reduceAdd, Nat.reduceMul, Nat.reduceSub, Nat.reduceBEq, ↓reduceIte, reduceCtorEq]
              rw [hbb, if_neg (by simp), List.append_nil] at hft
              refine ⟨by unfold inI64; omega, j + 1, by omega, by omega, Keep.wk (ids := [some 0, some 1]) ?_⟩
              simp only [push_cast, Nat.reduceEqDiff, Nat.reduceLT, Nat.reduceLeDiff, Nat.reduceAdd, Nat.reduceMul, Nat.reduceSub, Nat.reduceBEq, ↓reduceIte, reduceCtorEq, hft] <;> rfl
          · have hj : j = s.length := by omega
            subst hj
            rw [List.take_length, ← setL_eq]
            exact Close.of [some 1] rfl rfl rfl rfl (by simp only [push_cast, Nat.reduceEqDiff, Nat.reduceLT, Nat.reduceLeDiff, Nat.reduceAdd, Nat.reduceMul, Nat.reduceSub, Nat.reduceBEq, ↓reduceIte, reduceCtorEq] <;> rfl)
        · rename_i hk
          split
          · rename_i hid
            have hM : headL s e keep = s.take i ++ [e] := by unfold headL; rw [htw, if_pos (by simp [hid])]
            refine ⟨rfl, by omega, rfl, by omega, by simp only [List.length_take]; omega, ?_⟩
            refine WL.loop (ι := Nat) (D := (fun i => if i = 11 then (6, []) else if i = 3 then (12, []) else (0, []))) (fun j => j ≤ s.length) (fun j => ⟨62, [(0, .t (eEntryS s)), (4, .rf 0 0), (7, .sr 1), (9, .t (.i .i64 j))], [.box (.t (eEntry e)), .arr 32 3 (.own (.ag [.leaf, .leaf, .leaf])) ((headL s e keep ++ (s.take j).filter (fun x => before e x)).map eEntry)]⟩) (fun j => s.length - j) mixed (by kernel_rfl) 0 (by omega) (Keep.wk (ids := [some 0, some 3]) ?_) ?_
            · simp only [push_cast, Nat.reduceEqDiff, Nat.reduceLT, Nat.reduceLeDiff, Nat.reduceAdd, Nat.reduceMul, Nat.reduceSub, Nat.reduceBEq, ↓reduceIte, reduceCtorEq, hM, eEntry, List.filter_nil, List.map_append] <;> first | rfl | exact ⟨rfl, rfl⟩ | exact ⟨rfl, rfl, rfl⟩
            intro j hj
            simp -implicitDefEqProofs (maxSteps := 2000000) only [push_cast, Nat.reduceEqDiff, Nat.reduceLT, Nat.reduceLeDiff, Nat.reduceAdd, Nat.reduceMul, Nat.reduceSub, Nat.reduceBEq, ↓reduceIte, reduceCtorEq, eEntry_len, eEntry_isAg, eEntry_ones, eEntry_one]
            intro _
            have hfl := List.length_filter_le (fun x => before e x) (s.take j)
            have htj := List.length_take_le j s
            split
            · rename_i h2
              refine ⟨by omega, fun b hb => CallV.t (l4Before e b) (.inl rfl) ?_⟩
              rw [Int.toNat_natCast] at hb
              have hft := filter_take (p := fun x => before e x) hb
              simp -implicitDefEqProofs (maxSteps := 2000000) only [push_cast, Nat.reduceEqDiff, Nat.reduceLT, Nat.reduceLeDiff, Nat.reduceAdd, Nat.reduceMul, Nat.reduceSub, Nat.reduceBEq, ↓reduceIte, reduceCtorEq]
              cases hbb : before e b with
              | true =>
                simp -implicitDefEqProofs (maxSteps := 2000000) only [push_cast, Nat.reduceEqDiff, Nat.reduceLT, Nat.reduceLeDiff, Nat.reduceAdd, Nat.reduceMul, Nat.reduceSub, Nat.reduceBEq, ↓reduceIte, reduceCtorEq, eEntry_len, eEntry_isAg, eEntry_ones, eEntry_one, eEntry_fits]
                refine ⟨by omega, fun c hc2 => ?_⟩
                rw [Int.toNat_natCast, hb] at hc2
                cases hc2
                rw [hbb, if_pos rfl] at hft
                refine ⟨rfl, by omega, rfl, by omega, by omega, by unfold inI64; omega, j + 1, by omega, by omega, Keep.wk (ids := [some 0, some 3]) ?_⟩
                simp only [push_cast, Nat.reduceEqDiff, Nat.reduceLT, Nat.reduceLeDiff, Nat.reduceAdd, Nat.reduceMul, Nat.reduceSub, Nat.reduceBEq, ↓reduceIte, reduceCtorEq, hft, List.map_append, List.append_assoc] <;> rfl
              | false =>
                simp -implicitDefEqProofs (maxSteps := 2000000) only [push_cast, Nat.reduceEqDiff, Nat.reduceLT, Nat.reduceLeDiff, Nat.reduceAdd, Nat.reduceMul, Nat.reduceSub, Nat.reduceBEq, ↓reduceIte, reduceCtorEq]
                rw [hbb, if_neg (by simp), List.append_nil] at hft
                refine ⟨by unfold inI64; omega, j + 1, by omega, by omega, Keep.wk (ids := [some 0, some 1]) ?_⟩
                simp only [push_cast, Nat.reduceEqDiff, Nat.reduceLT, Nat.reduceLeDiff, Nat.reduceAdd, Nat.reduceMul, Nat.reduceSub, Nat.reduceBEq, ↓reduceIte, reduceCtorEq, hft] <;> rfl
            · have hj : j = s.length := by omega
              subst hj
              rw [List.take_length, ← setL_eq]
              exact Close.of [some 1] rfl rfl rfl rfl (by simp only [push_cast, Nat.reduceEqDiff, Nat.reduceLT, Nat.reduceLeDiff, Nat.reduceAdd, Nat.reduceMul, Nat.reduceSub, Nat.reduceBEq, ↓reduceIte, reduceCtorEq] <;> rfl)
          · rename_i hid
            have hM : headL s e keep = s.take i := by unfold headL; rw [htw, if_neg (by simp [hk]; simpa using hid), List.append_nil]
            refine WL.loop (ι := Nat) (D := (fun i => if i = 11 then (6, []) else if i = 3 then (12, []) else (0, []))) (fun j => j ≤ s.length) (fun j => ⟨62, [(0, .t (eEntryS s)), (4, .rf 0 0), (7, .sr 1), (9, .t (.i .i64 j))], [.box (.t (eEntry e)), .arr 32 3 (.own (.ag [.leaf, .leaf, .leaf])) ((headL s e keep ++ (s.take j).filter (fun x => before e x)).map eEntry)]⟩) (fun j => s.length - j) mixed (by kernel_rfl) 0 (by omega) (Keep.wk (ids := [some 0, some 1]) ?_) ?_
            · simp only [push_cast, Nat.reduceEqDiff, Nat.reduceLT, Nat.reduceLeDiff, Nat.reduceAdd, Nat.reduceMul, Nat.reduceSub, Nat.reduceBEq, ↓reduceIte, reduceCtorEq, hM, eEntry, List.filter_nil, List.map_append] <;> first | rfl | exact ⟨rfl, rfl⟩ | exact ⟨rfl, rfl, rfl⟩
            intro j hj
            simp -implicitDefEqProofs (maxSteps := 2000000) only [push_cast, Nat.reduceEqDiff, Nat.reduceLT, Nat.reduceLeDiff, Nat.reduceAdd, Nat.reduceMul, Nat.reduceSub, Nat.reduceBEq, ↓reduceIte, reduceCtorEq, eEntry_len, eEntry_isAg, eEntry_ones, eEntry_one]
            intro _
            have hfl := List.length_filter_le (fun x => before e x) (s.take j)
            have htj := List.length_take_le j s
            split
            · rename_i h2
              refine ⟨by omega, fun b hb => CallV.t (l4Before e b) (.inl rfl) ?_⟩
              rw [Int.toNat_natCast] at hb
              have hft := filter_take (p := fun x => before e x) hb
              simp -implicitDefEqProofs (maxSteps := 2000000) only [push_cast, Nat.reduceEqDiff, Nat.reduceLT, Nat.reduceLeDiff, Nat.reduceAdd, Nat.reduceMul, Nat.reduceSub, Nat.reduceBEq, ↓reduceIte, reduceCtorEq]
              cases hbb : before e b with
              | true =>
                simp -implicitDefEqProofs (maxSteps := 2000000) only [push_cast, Nat.reduceEqDiff, Nat.reduceLT, Nat.reduceLeDiff, Nat.reduceAdd, Nat.reduceMul, Nat.reduceSub, Nat.reduceBEq, ↓reduceIte, reduceCtorEq, eEntry_len, eEntry_isAg, eEntry_ones, eEntry_one, eEntry_fits]
                refine ⟨by omega, fun c hc2 => ?_⟩
                rw [Int.toNat_natCast, hb] at hc2
                cases hc2
                rw [hbb, if_pos rfl] at hft
                refine ⟨rfl, by omega, rfl, by omega, by omega, by unfold inI64; omega, j + 1, by omega, by omega, Keep.wk (ids := [some 0, some 3]) ?_⟩
                simp only [push_cast, Nat.reduceEqDiff, Nat.reduceLT, Nat.reduceLeDiff, Nat.reduceAdd, Nat.reduceMul, Nat.reduceSub, Nat.reduceBEq, ↓reduceIte, reduceCtorEq, hft, List.map_append, List.append_assoc] <;> rfl
              | false =>
                simp -implicitDefEqProofs (maxSteps := 2000000) only [push_cast, Nat.reduceEqDiff, Nat.reduceLT, Nat.reduceLeDiff, Nat.reduceAdd, Nat.reduceMul, Nat.reduceSub, Nat.reduceBEq, ↓reduceIte, reduceCtorEq]
                rw [hbb, if_neg (by simp), List.append_nil] at hft
                refine ⟨by unfold inI64; omega, j + 1, by omega, by omega, Keep.wk (ids := [some 0, some 1]) ?_⟩
                simp only [push_cast, Nat.reduceEqDiff, Nat.reduceLT, Nat.reduceLeDiff, Nat.reduceAdd, Nat.reduceMul, Nat.reduceSub, Nat.reduceBEq, ↓reduceIte, reduceCtorEq, hft] <;> rfl
            · have hj : j = s.length := by omega
              subst hj
              rw [List.take_length, ← setL_eq]
              exact Close.of [some 1] rfl rfl rfl rfl (by simp only [push_cast, Nat.reduceEqDiff, Nat.reduceLT, Nat.reduceLeDiff, Nat.reduceAdd, Nat.reduceMul, Nat.reduceSub, Nat.reduceBEq, ↓reduceIte, reduceCtorEq] <;> rfl)
    · have hi : i = s.length := by omega
      have htw : s.takeWhile (fun x => before x e) = s.take i := takeWhile_at hc (fun x hx => by rw [List.getElem?_eq_none (by omega)] at hx; cases hx)
      simp -implicitDefEqProofs (maxSteps := 2000000) only [push_cast, Nat.reduceEqDiff, Nat.reduceLT, Nat.reduceLeDiff, Nat.reduceAdd, Nat.reduceMul, Nat.reduceSub, Nat.reduceBEq, ↓reduceIte, reduceCtorEq, eEntry]
      split
      · rename_i hk
        have hM : headL s e keep = s.take i ++ [e] := by unfold headL; rw [htw, if_pos (by simp [hk])]
        refine ⟨rfl, by omega, rfl, by omega, by simp only [List.length_take]; omega, ?_⟩
        refine WL.loop (ι := Nat) (D := (fun i => if i = 11 then (6, []) else if i = 3 then (12, []) else (0, []))) (fun j => j ≤ s.length) (fun j => ⟨62, [(0, .t (eEntryS s)), (4, .rf 0 0), (7, .sr 1), (9, .t (.i .i64 j))], [.box (.t (eEntry e)), .arr 32 3 (.own (.ag [.leaf, .leaf, .leaf])) ((headL s e keep ++ (s.take j).filter (fun x => before e x)).map eEntry)]⟩) (fun j => s.length - j) mixed (by kernel_rfl) 0 (by omega) (Keep.wk (ids := [some 0, some 3]) ?_) ?_
        · simp only [push_cast, Nat.reduceEqDiff, Nat.reduceLT, Nat.reduceLeDiff, Nat.reduceAdd, Nat.reduceMul, Nat.reduceSub, Nat.reduceBEq, ↓reduceIte, reduceCtorEq, hM, eEntry, List.filter_nil, List.map_append] <;> first | rfl | exact ⟨rfl, rfl⟩ | exact ⟨rfl, rfl, rfl⟩
        intro j hj
        simp -implicitDefEqProofs (maxSteps := 2000000) only [push_cast, Nat.reduceEqDiff, Nat.reduceLT, Nat.reduceLeDiff, Nat.reduceAdd, Nat.reduceMul, Nat.reduceSub, Nat.reduceBEq, ↓reduceIte, reduceCtorEq, eEntry_len, eEntry_isAg, eEntry_ones, eEntry_one]
        intro _
        have hfl := List.length_filter_le (fun x => before e x) (s.take j)
        have htj := List.length_take_le j s
        split
        · rename_i h2
          refine ⟨by omega, fun b hb => CallV.t (l4Before e b) (.inl rfl) ?_⟩
          rw [Int.toNat_natCast] at hb
          have hft := filter_take (p := fun x => before e x) hb
          simp -implicitDefEqProofs (maxSteps := 2000000) only [push_cast, Nat.reduceEqDiff, Nat.reduceLT, Nat.reduceLeDiff, Nat.reduceAdd, Nat.reduceMul, Nat.reduceSub, Nat.reduceBEq, ↓reduceIte, reduceCtorEq]
          cases hbb : before e b with
          | true =>
            simp -implicitDefEqProofs (maxSteps := 2000000) only [push_cast, Nat.reduceEqDiff, Nat.reduceLT, Nat.reduceLeDiff, Nat.reduceAdd, Nat.reduceMul, Nat.reduceSub, Nat.reduceBEq, ↓reduceIte, reduceCtorEq, eEntry_len, eEntry_isAg, eEntry_ones, eEntry_one, eEntry_fits]
            refine ⟨by omega, fun c hc2 => ?_⟩
            rw [Int.toNat_natCast, hb] at hc2
            cases hc2
            rw [hbb, if_pos rfl] at hft
            refine ⟨rfl, by omega, rfl, by omega, by omega, by unfold inI64; omega, j + 1, by omega, by omega, Keep.wk (ids := [some 0, some 3]) ?_⟩
            simp only [push_cast, Nat.reduceEqDiff, Nat.reduceLT, Nat.reduceLeDiff, Nat.reduceAdd, Nat.reduceMul, Nat.reduceSub, Nat.reduceBEq, ↓reduceIte, reduceCtorEq, hft, List.map_append, List.append_assoc] <;> rfl
          | false =>
            simp -implicitDefEqProofs (maxSteps := 2000000) only [push_cast, Nat.reduceEqDiff, Nat.reduceLT, Nat.reduceLeDiff, Nat.reduceAdd, Nat.reduceMul, Nat.reduceSub, Nat.reduceBEq, ↓reduceIte, reduceCtorEq]
            rw [hbb, if_neg (by simp), List.append_nil] at hft
            refine ⟨by unfold inI64; omega, j + 1, by omega, by omega, Keep.wk (ids := [some 0, some 1]) ?_⟩
            simp only [push_cast, Nat.reduceEqDiff, Nat.reduceLT, Nat.reduceLeDiff, Nat.reduceAdd, Nat.reduceMul, Nat.reduceSub, Nat.reduceBEq, ↓reduceIte, reduceCtorEq, hft] <;> rfl
        · have hj : j = s.length := by omega
          subst hj
          rw [List.take_length, ← setL_eq]
          exact Close.of [some 1] rfl rfl rfl rfl (by simp only [push_cast, Nat.reduceEqDiff, Nat.reduceLT, Nat.reduceLeDiff, Nat.reduceAdd, Nat.reduceMul, Nat.reduceSub, Nat.reduceBEq, ↓reduceIte, reduceCtorEq] <;> rfl)
      · rename_i hk
        split
        · rename_i hid
          have hM : headL s e keep = s.take i ++ [e] := by unfold headL; rw [htw, if_pos (by simp [hid])]
          refine ⟨rfl, by omega, rfl, by omega, by simp only [List.length_take]; omega, ?_⟩
          refine WL.loop (ι := Nat) (D := (fun i => if i = 11 then (6, []) else if i = 3 then (12, []) else (0, []))) (fun j => j ≤ s.length) (fun j => ⟨62, [(0, .t (eEntryS s)), (4, .rf 0 0), (7, .sr 1), (9, .t (.i .i64 j))], [.box (.t (eEntry e)), .arr 32 3 (.own (.ag [.leaf, .leaf, .leaf])) ((headL s e keep ++ (s.take j).filter (fun x => before e x)).map eEntry)]⟩) (fun j => s.length - j) mixed (by kernel_rfl) 0 (by omega) (Keep.wk (ids := [some 0, some 3]) ?_) ?_
          · simp only [push_cast, Nat.reduceEqDiff, Nat.reduceLT, Nat.reduceLeDiff, Nat.reduceAdd, Nat.reduceMul, Nat.reduceSub, Nat.reduceBEq, ↓reduceIte, reduceCtorEq, hM, eEntry, List.filter_nil, List.map_append] <;> first | rfl | exact ⟨rfl, rfl⟩ | exact ⟨rfl, rfl, rfl⟩
          intro j hj
          simp -implicitDefEqProofs (maxSteps := 2000000) only [push_cast, Nat.reduceEqDiff, Nat.reduceLT, Nat.reduceLeDiff, Nat.reduceAdd, Nat.reduceMul, Nat.reduceSub, Nat.reduceBEq, ↓reduceIte, reduceCtorEq, eEntry_len, eEntry_isAg, eEntry_ones, eEntry_one]
          intro _
          have hfl := List.length_filter_le (fun x => before e x) (s.take j)
          have htj := List.length_take_le j s
          split
          · rename_i h2
            refine ⟨by omega, fun b hb => CallV.t (l4Before e b) (.inl rfl) ?_⟩
            rw [Int.toNat_natCast] at hb
            have hft := filter_take (p := fun x => before e x) hb
            simp -implicitDefEqProofs (maxSteps := 2000000) only [push_cast, Nat.reduceEqDiff, Nat.reduceLT, Nat.reduceLeDiff, Nat.reduceAdd, Nat.reduceMul, Nat.reduceSub, Nat.reduceBEq, ↓reduceIte, reduceCtorEq]
            cases hbb : before e b with
            | true =>
              simp -implicitDefEqProofs (maxSteps := 2000000) only [push_cast, Nat.reduceEqDiff, Nat.reduceLT, Nat.reduceLeDiff, Nat.reduceAdd, Nat.reduceMul, Nat.reduceSub, Nat.reduceBEq, ↓reduceIte, reduceCtorEq, eEntry_len, eEntry_isAg, eEntry_ones, eEntry_one, eEntry_fits]
              refine ⟨by omega, fun c hc2 => ?_⟩
              rw [Int.toNat_natCast, hb] at hc2
              cases hc2
              rw [hbb, if_pos rfl] at hft
              refine ⟨rfl, by omega, rfl, by omega, by omega, by unfold inI64; omega, j + 1, by omega, by omega, Keep.wk (ids := [some 0, some 3]) ?_⟩
              simp only [push_cast, Nat.reduceEqDiff, Nat.reduceLT, Nat.reduceLeDiff, Nat.reduceAdd, Nat.reduceMul, Nat.reduceSub, Nat.reduceBEq, ↓reduceIte, reduceCtorEq, hft, List.map_append, List.append_assoc] <;> rfl
            | false =>
              simp -implicitDefEqProofs (maxSteps := 2000000) only [push_cast, Nat.reduceEqDiff, Nat.reduceLT, Nat.reduceLeDiff, Nat.reduceAdd, Nat.reduceMul, Nat.reduceSub, Nat.reduceBEq, ↓reduceIte, reduceCtorEq]
              rw [hbb, if_neg (by simp), List.append_nil] at hft
              refine ⟨by unfold inI64; omega, j + 1, by omega, by omega, Keep.wk (ids := [some 0, some 1]) ?_⟩
              simp only [push_cast, Nat.reduceEqDiff, Nat.reduceLT, Nat.reduceLeDiff, Nat.reduceAdd, Nat.reduceMul, Nat.reduceSub, Nat.reduceBEq, ↓reduceIte, reduceCtorEq, hft] <;> rfl
          · have hj : j = s.length := by omega
            subst hj
            rw [List.take_length, ← setL_eq]
            exact Close.of [some 1] rfl rfl rfl rfl (by simp only [push_cast, Nat.reduceEqDiff, Nat.reduceLT, Nat.reduceLeDiff, Nat.reduceAdd, Nat.reduceMul, Nat.reduceSub, Nat.reduceBEq, ↓reduceIte, reduceCtorEq] <;> rfl)
        · rename_i hid
          have hM : headL s e keep = s.take i := by unfold headL; rw [htw, if_neg (by simp [hk]; simpa using hid), List.append_nil]
          refine WL.loop (ι := Nat) (D := (fun i => if i = 11 then (6, []) else if i = 3 then (12, []) else (0, []))) (fun j => j ≤ s.length) (fun j => ⟨62, [(0, .t (eEntryS s)), (4, .rf 0 0), (7, .sr 1), (9, .t (.i .i64 j))], [.box (.t (eEntry e)), .arr 32 3 (.own (.ag [.leaf, .leaf, .leaf])) ((headL s e keep ++ (s.take j).filter (fun x => before e x)).map eEntry)]⟩) (fun j => s.length - j) mixed (by kernel_rfl) 0 (by omega) (Keep.wk (ids := [some 0, some 1]) ?_) ?_
          · simp only [push_cast, Nat.reduceEqDiff, Nat.reduceLT, Nat.reduceLeDiff, Nat.reduceAdd, Nat.reduceMul, Nat.reduceSub, Nat.reduceBEq, ↓reduceIte, reduceCtorEq, hM, eEntry, List.filter_nil, List.map_append] <;> first | rfl | exact ⟨rfl, rfl⟩ | exact ⟨rfl, rfl, rfl⟩
          intro j hj
          simp -implicitDefEqProofs (maxSteps := 2000000) only [push_cast, Nat.reduceEqDiff, Nat.reduceLT, Nat.reduceLeDiff, Nat.reduceAdd, Nat.reduceMul, Nat.reduceSub, Nat.reduceBEq, ↓reduceIte, reduceCtorEq, eEntry_len, eEntry_isAg, eEntry_ones, eEntry_one]
          intro _
          have hfl := List.length_filter_le (fun x => before e x) (s.take j)
          have htj := List.length_take_le j s
          split
          · rename_i h2
            refine ⟨by omega, fun b hb => CallV.t (l4Before e b) (.inl rfl) ?_⟩
            rw [Int.toNat_natCast] at hb
            have hft := filter_take (p := fun x => before e x) hb
            simp -implicitDefEqProofs (maxSteps := 2000000) only [push_cast, Nat.reduceEqDiff, Nat.reduceLT, Nat.reduceLeDiff, Nat.reduceAdd, Nat.reduceMul, Nat.reduceSub, Nat.reduceBEq, ↓reduceIte, reduceCtorEq]
            cases hbb : before e b with
            | true =>
              simp -implicitDefEqProofs (maxSteps := 2000000) only [push_cast, Nat.reduceEqDiff, Nat.reduceLT, Nat.reduceLeDiff, Nat.reduceAdd, Nat.reduceMul, Nat.reduceSub, Nat.reduceBEq, ↓reduceIte, reduceCtorEq, eEntry_len, eEntry_isAg, eEntry_ones, eEntry_one, eEntry_fits]
              refine ⟨by omega, fun c hc2 => ?_⟩
              rw [Int.toNat_natCast, hb] at hc2
              cases hc2
              rw [hbb, if_pos rfl] at hft
              refine ⟨rfl, by omega, rfl, by omega, by omega, by unfold inI64; omega, j + 1, by omega, by omega, Keep.wk (ids := [some 0, some 3]) ?_⟩
              simp only [push_cast, Nat.reduceEqDiff, Nat.reduceLT, Nat.reduceLeDiff, Nat.reduceAdd, Nat.reduceMul, Nat.reduceSub, Nat.reduceBEq, ↓reduceIte, reduceCtorEq, hft, List.map_append, List.append_assoc] <;> rfl
            | false =>
              simp -implicitDefEqProofs (maxSteps := 2000000) only [push_cast, Nat.reduceEqDiff, Nat.reduceLT, Nat.reduceLeDiff, Nat.reduceAdd, Nat.reduceMul, Nat.reduceSub, Nat.reduceBEq, ↓reduceIte, reduceCtorEq]
              rw [hbb, if_neg (by simp), List.append_nil] at hft
              refine ⟨by unfold inI64; omega, j + 1, by omega, by omega, Keep.wk (ids := [some 0, some 1]) ?_⟩
              simp only [push_cast, Nat.reduceEqDiff, Nat.reduceLT, Nat.reduceLeDiff, Nat.reduceAdd, Nat.reduceMul, Nat.reduceSub, Nat.reduceBEq, ↓reduceIte, reduceCtorEq, hft] <;> rfl
          · have hj : j = s.length := by omega
            subst hj
            rw [List.take_length, ← setL_eq]
            exact Close.of [some 1] rfl rfl rfl rfl (by simp only [push_cast, Nat.reduceEqDiff, Nat.reduceLT, Nat.reduceLeDiff, Nat.reduceAdd, Nat.reduceMul, Nat.reduceSub, Nat.reduceBEq, ↓reduceIte, reduceCtorEq] <;> rfl)

theorem l4Patch (s : List Entry) (ch : List Entry) (hB : Bd.B ≤ 2147483648) (ho : Ordered s) (hl : 2 * (s.length + ch.length) + 1 < Bd.B) : Con P0 141 [eEntryS s, eEntryS ch] (.sr 0) [.arr 32 3 (.own (.ag [.leaf, .leaf, .leaf])) ((patchL s ch).map eEntry)] := by
  refine Con.intro (fn := Try.f141) [.tmp 4] (fun _ => (0, [])) mixed (by kernel_rfl) rfl (by decide) rfl (by rfl) (by kernel_rfl) ?_
  simp -implicitDefEqProofs (maxSteps := 2000000) only [push_cast, Nat.reduceEqDiff, Nat.reduceLT, Nat.reduceLeDiff, Nat.reduceAdd, Nat.reduceMul, Nat.reduceSub, Nat.reduceBEq, ↓reduceIte, reduceCtorEq]
  refine Callx.closed (l4Copy s hB (by omega)) rfl rfl (.inl rfl) ?_
  refine WL.loop (ι := Nat) (D := (fun _ => (0, []))) (fun i => i ≤ ch.length) (fun i => ⟨22, [(1, .t (eEntryS ch)), (5, .sr 0), (6, .t (.i .i64 i))], [.arr 32 3 (.own (.ag [.leaf, .leaf, .leaf])) ((patchL s (ch.take i)).map eEntry)]⟩) (fun i => ch.length - i) mixed (by kernel_rfl) 0 (by omega) (Keep.wk (ids := [some 0]) ?_) ?_
  · simp only [push_cast, Nat.reduceEqDiff, Nat.reduceLT, Nat.reduceLeDiff, Nat.reduceAdd, Nat.reduceMul, Nat.reduceSub, Nat.reduceBEq, ↓reduceIte, reduceCtorEq, patchL, List.take_zero, List.foldl_nil] <;> rfl
  · intro i hi
    simp -implicitDefEqProofs (maxSteps := 2000000) only [push_cast, Nat.reduceEqDiff, Nat.reduceLT, Nat.reduceLeDiff, Nat.reduceAdd, Nat.reduceMul, Nat.reduceSub, Nat.reduceBEq, ↓reduceIte, reduceCtorEq, eEntry_len, eEntry_isAg, eEntry_ones, eEntry_one]
    intro _
    split
    · rename_i h
      refine ⟨by omega, fun e he => ?_⟩
      rw [Int.toNat_natCast] at he
      have hp := patchL_take (s := s) he
      have hpo := patchL_ord (ch := ch.take i) ho
      have hpl := hpo.2
      rw [List.length_take] at hpl
      refine Callx.closed (l4Set (patchL s (ch.take i)) e false hB (by omega)) rfl rfl (.inr ⟨rfl, rfl⟩) ?_
      simp -implicitDefEqProofs (maxSteps := 2000000) only [push_cast, Nat.reduceEqDiff, Nat.reduceLT, Nat.reduceLeDiff, Nat.reduceAdd, Nat.reduceMul, Nat.reduceSub, Nat.reduceBEq, ↓reduceIte, reduceCtorEq]
      refine ⟨by unfold inI64; omega, i + 1, by omega, by omega, Keep.wk (ids := [some 1]) ?_⟩
      simp only [push_cast, Nat.reduceEqDiff, Nat.reduceLT, Nat.reduceLeDiff, Nat.reduceAdd, Nat.reduceMul, Nat.reduceSub, Nat.reduceBEq, ↓reduceIte, reduceCtorEq, hp] <;> rfl
    · have hi : i = ch.length := by omega
      subst hi
      rw [List.take_length]
      exact Close.of [some 0] rfl rfl rfl rfl (by simp only [push_cast, Nat.reduceEqDiff, Nat.reduceLT, Nat.reduceLeDiff, Nat.reduceAdd, Nat.reduceMul, Nat.reduceSub, Nat.reduceBEq, ↓reduceIte, reduceCtorEq] <;> rfl)

end Go.Proofs.Ythhgcklidfilfaa.BX
