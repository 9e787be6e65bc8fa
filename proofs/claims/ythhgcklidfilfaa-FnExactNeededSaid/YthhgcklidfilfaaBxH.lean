/-
  A frame for proofs over whole functions, second make, eighth part: boxes.
-/
import Derived.Test.YthhgcklidfilfaaBxG
namespace Go.Proofs.Ythhgcklidfilfaa.BX
set_option linter.unusedSectionVars false
set_option linter.unusedSimpArgs false
set_option linter.unusedVariables false
open Go Go.RowKit
variable [Bd]

section
variable {P : Program} {Q : Exit → Act → World → Prop} {w0 : Base} {σ : St} {hv : Hv} {S : Nat → Prop} {F : Nat → List Nat} {a : Act} {w : World}
  {K : AV → List Ob → Prop} {next : Value → World → Prop}

theorem blk_of_ownsRow {base : Nat} {e : TypeId} {m n : Nat} {v : Value} {xs : List Value} (h : w.ownsRow base e m v n xs) : ∀ b, blkOf v = some b → base ≤ b ∧ b < w.heap.size := by
  intro b hb
  rcases h.2 with ⟨q, _⟩ | ⟨g, cap, cur, q, hg, hh, _⟩
  · rw [q] at hb; cases hb
  · rw [q] at hb
    cases hb
    exact ⟨hg, heap_lt hh⟩

/-- BOX -/
theorem box_sound {o : Oper} {t : TypeId} {x : Operand} (ho : o.op = .box t x) (hr : Rel w0 σ hv S F a w) (h : K (.rf σ.ob.length 0) (σ.ob ++ [.box (σ.opd x)]))
    (hn : Ans w0 σ a K next) : Does P Q o a w next := by
  obtain ⟨⟨L, fx, hL⟩, hux⟩ := hr.arg x
  have g := Grew.alloc w (.cells (a.eval x).cells t)
  refine does_value (v := .pointer (some ⟨w.heap.size, 0, none⟩)) (w' := w.alloc (.cells (a.eval x).cells t)) (by simp [execOp, ho, Instr.box, newVar, newRow]) ?_
  obtain ⟨hv', _, h1, h2, h3⟩ := hr.new g (o := .box (σ.opd x)) (v := .pointer (some ⟨w.heap.size, 0, none⟩)) (Fi := [])
    (by intro b hb; simp [blkOf] at hb; subst hb; exact ⟨Nat.le_refl _, by simp⟩) (by simpa [Ob.under] using hux) rfl (by simp) (by simp) (by
      intro hv' hB he hn'
      refine ⟨w.heap.size, t, a.eval x, L, rfl, heap_alloc_new w _, footA_hv hB he _ _ L hux (footA_mono (fun b hb => g.block b (hr.Blt b hb)) _ _ L (fun b hb => g.block b (hr.Slt b (hL b hb))) fx), fun b hb => .inl (hL b hb)⟩)
  exact hn _ _ _ _ hv' _ _ [] h h3 (by simp only [footA]; exact ⟨w.heap.size, h2, rfl, trivial⟩) (by simp) (by simp [AV.under])

/-- ALLOC -/
theorem alloc_sound {o : Oper} {t : TypeId} (ho : o.op = .alloc t) (hr : Rel w0 σ hv S F a w) {z : Value} (hz : zeroOf P t = some z) (h : K (.rf σ.ob.length 0) (σ.ob ++ [.box (ofV z)]))
    (hn : Ans w0 σ a K next) : Does P Q o a w next := by
  have g := Grew.alloc w (.cells z.cells t)
  have hzr : (zeroValue t).run P w = .ok z w := by
    unfold zeroOf at hz
    cases hi : P.info? t with
    | none => simp [hi] at hz
    | some i => simp [hi] at hz; simp [zeroValue, typeInfo, hi, hz]
  refine does_value (v := .pointer (some ⟨w.heap.size, 0, none⟩)) (w' := w.alloc (.cells z.cells t)) (by simp [execOp, ho, Instr.alloc, newVar, newRow, hzr]) ?_
  obtain ⟨hv', _, h1, h2, h3⟩ := hr.new g (o := .box (ofV z)) (v := .pointer (some ⟨w.heap.size, 0, none⟩)) (Fi := [])
    (by intro b hb; simp [blkOf] at hb; subst hb; exact ⟨Nat.le_refl _, by simp⟩) (by simpa [Ob.under] using ofV_under _ z) rfl (by simp) (by simp) (by
      intro hv' hB he hn'
      exact ⟨w.heap.size, t, z, [], rfl, heap_alloc_new w _, ofV_foot _ _ z, by simp⟩)
  exact hn _ _ _ _ hv' _ _ [] h h3 (by simp only [footA]; exact ⟨w.heap.size, h2, rfl, trivial⟩) (by simp) (by simp [AV.under])

theorem T.one_value {x : T} {v : Value} {L : List Nat} (h : x.one = true) (hf : footT w x v L) : v.oneCell' = true := by
  cases x with
  | ag cs => simp [T.one] at h
  | tp cs => simp [T.one] at h
  | b x => simp only [footT] at hf; rw [hf.1]; rfl
  | i k x => simp only [footT] at hf; rw [hf.1]; rfl
  | s x => simp only [footT] at hf; rw [hf.1]; rfl
  | np => simp only [footT] at hf; rw [hf.1]; rfl
  | nm => simp only [footT] at hf; rw [hf.1]; rfl
  | ni => simp only [footT] at hf; rw [hf.1]; rfl
  | sl es => simp only [footT] at hf; obtain ⟨A, c, e, _⟩ := hf; rw [e]; rfl
  | po y off => simp only [footT] at hf; obtain ⟨b, o, u, L', e, _⟩ := hf; rw [e]; rfl
  | ifc t y => simp only [footT] at hf; obtain ⟨u, e, _⟩ := hf; rw [e]; rfl
  | mp ks vs => simp only [footT] at hf; obtain ⟨r, es, c, l, L1, L2, e, _⟩ := hf; rw [e]; rfl
  | fn f cs => simp only [footT] at hf; obtain ⟨vs, e, _⟩ := hf; rw [e]; rfl

theorem one_value {x : AV} {v : Value} {L : List Nat} (hone : ∀ id, (hv id).oneCell' = true) (h : x.one = true) (hf : footA hv w x v L) : v.oneCell' = true := by
  cases x with
  | un => simp [AV.one] at h
  | ud => simp [AV.one] at h
  | ag cs => simp [AV.one] at h
  | tp cs => simp [AV.one] at h
  | ns => simp only [footA] at hf; rw [hf.1]; rfl
  | rf id off => simp only [footA] at hf; obtain ⟨b, _, e, _⟩ := hf; rw [e]; rfl
  | ra id i m off => simp only [footA] at hf; obtain ⟨b, n, c, _, e, _⟩ := hf; rw [e]; rfl
  | sv id a m n => simp only [footA] at hf; rcases hf.1 with ⟨_, A, c, e⟩ | ⟨b, k, c, c', _, e, _⟩ <;> (rw [e]; rfl)
  | sr id => simp only [footA] at hf; rw [hf.1]; exact hone id
  | mr id => simp only [footA] at hf; rw [hf.1]; exact hone id
  | it id => simp only [footA] at hf; rw [hf.1]; exact hone id
  | fn f cs => simp only [footA] at hf; obtain ⟨vs, e, _⟩ := hf; rw [e]; rfl
  | t y => simp only [footA] at hf; exact T.one_value h hf
  | bw y => simp only [footA] at hf; obtain ⟨⟨L', hf, _⟩, _⟩ := hf; exact T.one_value h hf

theorem allOne_mem {xs : List AV} (h : allOne xs = true) {x : AV} (hx : x ∈ xs) : x.one = true := by
  induction xs with
  | nil => cases hx
  | cons y ys ih =>
    simp only [allOne, Bool.and_eq_true] at h
    rcases List.mem_cons.1 hx with rfl | hx
    · exact h.1
    · exact ih h.2 hx

theorem cells_one {hv : Hv} {w : World} {x : AV} {v : Value} {L : List Nat} (hone : ∀ id, (hv id).oneCell' = true) (h : allOne x.cells = true) (hk : x ≠ .un) (hf : footA hv w x v L) : ∀ u ∈ v.cells.toList, u.oneCell' = true := by
  obtain ⟨h1, h2⟩ := footA_cells hf hk hone
  intro u hu
  obtain ⟨j, hj, hju⟩ := List.getElem_of_mem hu
  have hj' : j < x.cells.length := by rw [← h1]; simpa using hj
  obtain ⟨u', L', q1, q2, _⟩ := h2 j x.cells[j] (List.getElem?_eq_getElem hj')
  have : u' = u := by
    have : v.cells[j]? = some u := by rw [← hju]; simp
    rw [this] at q1; exact (Option.some.inj q1).symm
  subst this
  exact one_value hone (allOne_mem h (List.getElem_mem _)) q2

theorem run_storeVar_at {t : TypeId} {g off : Nat} {te : TypeId} {cur : Array Value} {v : Value} {inf : TypeInfo} (hi : P.info? t = some inf) (hg : w.heap[g]? = some (.cells cur te (0, 0))) (hs : P.cellsOf t = v.cells.size)
    (hl : off + v.cells.size ≤ cur.size) (h1 : ∀ u ∈ v.cells.toList, u.oneCell' = true) :
    (storeVar t ⟨g, off, none⟩ v).run P w = .ok () (w.setRow g (cur.toList.take off ++ v.cells.toList ++ cur.toList.drop (off + v.cells.size)).toArray) := by
  have := run_storeCells_at P g off te v.cells.toList 0 cur w hg (by simpa using hl) h1
  simp only [storeVar, Sem.run_bind, run_sizeOf w hi, Result.andThen_ok, hs, ne_eq, not_true_eq_false, if_false, this]
  simp

theorem info_of_cellsOf {t : TypeId} (h : P.cellsOf t ≠ 0) : ∃ inf, P.info? t = some inf := by
  cases hi : P.info? t with
  | none => simp [Program.cellsOf, hi] at h
  | some i => exact ⟨i, rfl⟩

theorem heap_setRow_ne {g k : Nat} {cs : Array Value} (h : k ≠ g) : (w.setRow g cs).heap[k]? = w.heap[k]? := setRow_other w g k cs h

/-- STORE into a box -/
theorem store_box_sound {o : Oper} {t : TypeId} {p x : Operand} {id off : Nat} {y : AV} (ho : o.op = .store t p x) (hr : Rel w0 σ hv S F a w) (hp : σ.opd p = .rf id off) (hy : σ.ob[id]? = some (.box y)) (hky : y ≠ .un)
    (hkx : σ.opd x ≠ .un) (h1 : allOne (σ.opd x).cells = true) (hs : P.cellsOf t = (σ.opd x).cells.length) (hl : off + (σ.opd x).cells.length ≤ y.cells.length) (hne : (σ.opd x).cells.length ≠ 0)
    (h : K .ud (σ.ob.set id (.box (if off = 0 ∧ y.cells.length = (σ.opd x).cells.length ∧ (σ.opd x).isAg = y.isAg then σ.opd x else .ag (segA y.cells off (σ.opd x).cells)))))
    (hn : Ans w0 σ a K next) : Does P Q o a w next := by
  obtain ⟨⟨L, fx, hL⟩, hux⟩ := hr.arg x
  obtain ⟨⟨Lp, fp, _⟩, hup⟩ := hr.arg p
  rw [hp] at fp hup
  simp only [footA] at fp
  obtain ⟨b, e1, e2, _⟩ := fp
  obtain ⟨b', te, u, Lu, k1, k2, k3, k4⟩ := hr.ob id _ hy
  rw [e1] at k1
  cases k1
  obtain ⟨inf, hinf⟩ := info_of_cellsOf (P := P) (t := t) (by rw [hs]; exact hne)
  obtain ⟨c1, c2⟩ := footA_cells fx hkx hr.one
  obtain ⟨d1, d2⟩ := footA_cells k3 hky hr.one
  have hrun := run_storeVar_at (P := P) (w := w) (off := off) hinf k2 (by rw [hs, c1]) (by rw [c1, d1]; exact hl) (cells_one hr.one h1 hkx fx)
  obtain ⟨W, hW⟩ : ∃ W, W = w.setRow b (u.cells.toList.take off ++ (a.eval x).cells.toList ++ u.cells.toList.drop (off + (a.eval x).cells.size)).toArray := ⟨_, rfl⟩
  rw [← hW] at hrun
  refine does_skip (w' := W) (by simp [execOp, ho, e2, Instr.storeAt, Instr.sureAddr, hrun]) ?_
  clear hrun
  subst hW
  generalize hx' : σ.opd x = X at *
  generalize hv' : a.eval x = V at *
  have hold : (u.cells.toList.take off ++ V.cells.toList ++ u.cells.toList.drop (off + V.cells.size)).length = y.cells.length := by
    simp only [List.length_append, List.length_take, List.length_drop, Array.length_toList, d1, c1]; omega
  have hru : ∀ o', ObR hv S (w.setRow b (u.cells.toList.take off ++ V.cells.toList ++ u.cells.toList.drop (off + V.cells.size)).toArray) (F id) (hv id) (.box o') → o'.under σ.ob.length = true →
      Rel w0 { σ with ob := σ.ob.set id (.box o') } hv S F a (w.setRow b (u.cells.toList.take off ++ V.cells.toList ++ u.cells.toList.drop (off + V.cells.size)).toArray) := by
    intro o' h1 h2
    exact hr.write hy (by simp) (fun k hk => heap_setRow_ne (by rw [e1] at hk; simp [blkOf] at hk; exact fun e => hk e.symm)) (by simp) rfl rfl rfl (Nat.le_refl _) (by simpa [Ob.under] using h2) h1 (by intro hh; cases hh)
  have hBb : ∀ b', hv.B b' → (w.setRow b (u.cells.toList.take off ++ V.cells.toList ++ u.cells.toList.drop (off + V.cells.size)).toArray).heap[b']? = w.heap[b']? := fun b' hb' =>
    heap_setRow_ne (fun e => (hr.root id _ hy (by simp) b (by rw [e1]; rfl)).2.2 (e ▸ hb'))
  have hSb : ∀ b', S b' → (w.setRow b (u.cells.toList.take off ++ V.cells.toList ++ u.cells.toList.drop (off + V.cells.size)).toArray).heap[b']? = w.heap[b']? := fun b' hb' =>
    hBb b' (hr.SB b' hb')
  have huy := hr.uob id _ hy
  simp only [Ob.under] at huy
  refine hn _ _ _ _ hv S F [] h (hru _ ?_ ?_) (by simp [footA]) (by simp) rfl
  · split
    · rename_i hc
      obtain ⟨rfl, hc2, hc3⟩ := hc
      refine ⟨b, te, V, L, e1, ?_, footA_mono hBb _ _ L (fun b' hb' => hSb b' (hL b' hb')) fx, hL⟩
      rw [setRow_heap w b _ _ te _ k2]
      congr 2
      apply Array.ext'
      simp only [List.take_zero, List.nil_append, Nat.zero_add, List.toList_toArray]
      rw [List.drop_eq_nil_of_le (by simp [c1, d1, hc2]), List.append_nil]
    · obtain ⟨L2, q1, q2⟩ := footAs_of_cells (hv := hv) (w := w) (segA y.cells off X.cells) (u.cells.toList.take off ++ V.cells.toList ++ u.cells.toList.drop (off + V.cells.size)) (Lu ++ L) (by
        rw [hold]; simp only [segA, List.length_append, List.length_take, List.length_drop]; omega) (fun j z hz => by
        simp only [segA, List.append_assoc] at hz ⊢
        rw [List.getElem?_append] at hz ⊢
        simp only [List.length_take, Array.length_toList, d1] at hz ⊢
        split at hz
        · rename_i hj
          rw [List.getElem?_take] at hz
          split at hz
          · obtain ⟨u', L', g1, g2, g3⟩ := d2 j z hz
            refine ⟨u', L', ?_, g2, fun b' hb' => List.mem_append_left _ (g3 b' hb')⟩
            rw [if_pos hj, List.getElem?_take, if_pos (by assumption)]
            simpa using g1
          · cases hz
        · rename_i hj
          rw [if_neg hj]
          rw [List.getElem?_append] at hz ⊢
          simp only [Array.length_toList, c1] at hz ⊢
          split at hz
          · rename_i hj2
            obtain ⟨u', L', g1, g2, g3⟩ := c2 _ z hz
            refine ⟨u', L', ?_, g2, fun b' hb' => List.mem_append_right _ (g3 b' hb')⟩
            rw [if_pos hj2]
            simpa using g1
          · rename_i hj2
            rw [List.getElem?_drop] at hz
            obtain ⟨u', L', g1, g2, g3⟩ := d2 _ z hz
            refine ⟨u', L', ?_, g2, fun b' hb' => List.mem_append_left _ (g3 b' hb')⟩
            rw [if_neg hj2, List.getElem?_drop]
            simpa using g1)
      refine ⟨b, te, .agg (u.cells.toList.take off ++ V.cells.toList ++ u.cells.toList.drop (off + V.cells.size)).toArray, L2, e1, ?_, ?_, ?_⟩
      · rw [setRow_heap w b _ _ te _ k2]; rfl
      · refine footA_mono hBb _ _ L2 (fun b' hb' => hSb b' ?_) (by simp only [footA]; exact ⟨_, rfl, q1⟩)
        rcases List.mem_append.1 (q2 b' hb') with h' | h'
        · exact k4 b' h'
        · exact hL b' h'
      · intro b' hb'
        rcases List.mem_append.1 (q2 b' hb') with h' | h'
        · exact k4 b' h'
        · exact hL b' h'
  · split
    · exact hux
    · simp only [AV.under]
      refine unders_of fun z hz => ?_
      simp only [segA, List.mem_append] at hz
      rcases hz with (hz | hz) | hz
      · exact AV.under_cells huy z (List.mem_of_mem_take hz)
      · exact AV.under_cells hux z hz
      · exact AV.under_cells huy z (List.mem_of_mem_drop hz)

end

end Go.Proofs.Ythhgcklidfilfaa.BX
