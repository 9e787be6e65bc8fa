/-
  A frame for proofs over whole functions, second make, fifth part: what each operation asks, and that it does so.
-/
import Derived.Test.YthhgcklidfilfaaBxD
namespace Go.Proofs.Ythhgcklidfilfaa.BX
set_option linter.unusedSectionVars false
set_option linter.unusedSimpArgs false
set_option linter.unusedVariables false
open Go Go.RowKit
variable [Bd]

/-- for the n-th of the list -/
def allAt {α : Type} (l : List α) (n : Nat) (K : α → Prop) : Prop := ∀ y, l[n]? = some y → K y

def AV.isAg : AV → Bool
  | .ag _ => true
  | .t (.ag _) => true
  | .bw (.ag _) => true
  | _ => false

def Kind.look : Kind → T → AV
  | .clo, r => .t r
  | _, r => .bwc r

section
variable (P : Program)

/-- a load of a whole struct out of a box, or of one cell -/
def pickA (t : TypeId) (y : AV) (off : Nat) (K : AV → Prop) : Prop :=
  match lay P t with
  | .st _ m => if off = 0 ∧ y.cells.length = m ∧ y.isAg = true then K y else off + m ≤ y.cells.length ∧ K (.ag ((y.cells.drop off).take m))
  | l => l.sc = true ∧ match y.cells[off]? with
    | some z => K z
    | none => False
def pickT (t : TypeId) (y : T) (off : Nat) (K : T → Prop) : Prop :=
  match lay P t with
  | .st _ m => if off = 0 ∧ y.cells.length = m ∧ y.isAg = true then K y else off + m ≤ y.cells.length ∧ K (.ag ((y.cells.drop off).take m))
  | l => l.sc = true ∧ match y.cells[off]? with
    | some z => K z
    | none => False

def vcLoad (t : TypeId) (x : AV) (ob : List Ob) (K : AV → Prop) : Prop :=
  match x with
  | .rf id off => match ob[id]? with
    | some (.box y) => y ≠ .un ∧ pickA P t y off K
    | _ => False
  | .t (.po y off) => pickT P t y off fun r => K (.t r)
  | .bw (.po y off) => pickT P t y off fun r => K (.bwc r)
  | .ra id i m off => match ob[id]? with
    | some (.arr _ m' k es) => m = m' ∧ i < es.length ∧ allAt es i fun y => pickT P t y off fun r => K (k.look r)
    | some (.hole _ m' _ _ i' j id') => (m = m' ∧ i = i' ∧ off = j ∧ (lay P t).sc = true) ∧ K (.sr id')
    | _ => False
  | _ => False

end

section
variable {P : Program} {Q : Exit → Act → World → Prop} {w0 : Base} {σ : St} {hv : Hv} {S : Nat → Prop} {F : Nat → List Nat} {a : Act} {w : World}
  {K : AV → List Ob → Prop} {next : Value → World → Prop}

theorem lay_st {t : TypeId} {fs : List (Nat × Nat)} {m : Nat} (h : lay P t = .st fs m) :
    ∃ fields, P.underlying t = some (.struct fields) ∧ fs = fields.toList.map (fun f => (f.offset, P.cellsOf f.type)) ∧ m = P.cellsOf t ∧ fields.toList.all (fun f => (P.info? f.type).isSome) = true := by
  unfold lay at h
  split at h <;> first | (cases h; done) | (split at h <;> cases h; done) | skip
  rename_i fields hu
  split at h
  · rename_i hall
    cases h
    exact ⟨fields, hu, rfl, rfl, hall⟩
  · cases h

theorem info_of_underlying {t : TypeId} {d : TypeDesc} (h : P.underlying t = some d) : ∃ i, P.info? t = some i := by
  unfold Program.underlying at h
  cases hi : P.info? t with
  | none => simp [hi] at h
  | some i => exact ⟨i, rfl⟩

theorem lay_sc {t : TypeId} (h : (lay P t).sc = true) : ∃ d, P.underlying t = some d ∧ (∀ fs, d ≠ .struct fs) ∧ ∀ n e, d ≠ .array n e := by
  unfold lay at h
  split at h <;> (try split at h) <;> first | (simp [Lay.sc] at h; done) | exact ⟨_, by assumption, (by intro fs hh; cases hh), (by intro n e hh; cases hh)⟩

theorem run_isAgg_sc {t : TypeId} (h : (lay P t).sc = true) (w : World) : (isAgg t).run P w = .ok false w := by
  obtain ⟨d, hd, h1, h2⟩ := lay_sc h
  cases d <;> first | (exact absurd rfl (h1 _)) | (exact absurd rfl (h2 _ _)) | simp [isAgg, run_underlying hd]

theorem run_isAgg_st {t : TypeId} {fs : List (Nat × Nat)} {m : Nat} (h : lay P t = .st fs m) (w : World) : (isAgg t).run P w = .ok true w := by
  obtain ⟨fields, hd, _⟩ := lay_st h
  simp [isAgg, run_underlying hd]

theorem run_sizeOf_st {t : TypeId} {fs : List (Nat × Nat)} {m : Nat} (h : lay P t = .st fs m) (w : World) : (sizeOf t).run P w = .ok m w := by
  obtain ⟨fields, hd, _, hm, _⟩ := lay_st h
  obtain ⟨i, hi⟩ := info_of_underlying hd
  rw [hm]; exact run_sizeOf w hi

theorem add_lit (b o j : Nat) : (⟨b, o, none⟩ : Addr).add j = ⟨b, o + j, none⟩ := by
  unfold Addr.add; split <;> simp_all

/-- a load out of cells that lie in memory -/
theorem run_load_st {t : TypeId} {fs : List (Nat × Nat)} {m b o : Nat} {cs : List Value} (h : lay P t = .st fs m) (hl : cs.length = m) (hc : laid w b o cs) :
    (loadVar t ⟨b, o, none⟩).run P w = .ok (.agg cs.toArray) w := by
  have h1 := run_loadCells_list (P := P) w ⟨b, o, none⟩ cs (fun j v hj => by rw [add_lit]; exact hc j v hj)
  simp only [loadVar, Sem.run_bind, run_isAgg_st h, Result.andThen_ok, if_true, run_sizeOf_st h, ← hl, h1, Sem.run_pure]

theorem run_load_sc {t : TypeId} {b o : Nat} {v : Value} (h : (lay P t).sc = true) (hc : w.cell? ⟨b, o, none⟩ = some v) :
    (loadVar t ⟨b, o, none⟩).run P w = .ok v w := by
  simp [loadVar, run_isAgg_sc h, run_load, hc]

theorem laid_part {b o : Nat} {cs : List Value} (h : laid w b o cs) (k m : Nat) : laid w b (o + k) ((cs.drop k).take m) := by
  intro j v hj
  rw [List.getElem?_take] at hj
  split at hj
  · rw [List.getElem?_drop] at hj
    have := h (k + j) v hj
    rwa [← Nat.add_assoc] at this
  · cases hj

theorem AV.isAg_spec {y : AV} (h : y.isAg = true) : (∃ cs, y = .ag cs) ∨ (∃ cs, y = .t (.ag cs)) ∨ ∃ cs, y = .bw (.ag cs) := by
  unfold AV.isAg at h
  split at h
  · exact .inl ⟨_, rfl⟩
  · exact .inr (.inl ⟨_, rfl⟩)
  · exact .inr (.inr ⟨_, rfl⟩)
  · cases h

theorem agg_of_isAg {y : AV} {u : Value} {L : List Nat} (h : y.isAg = true) (hf : footA hv w y u L) : u = .agg u.cells := by
  rcases AV.isAg_spec h with ⟨cs, rfl⟩ | ⟨cs, rfl⟩ | ⟨cs, rfl⟩
  · simp only [footA] at hf; obtain ⟨vs, rfl, _⟩ := hf; rfl
  · simp only [footA, footT] at hf; obtain ⟨vs, rfl, _⟩ := hf; rfl
  · simp only [footA, footT] at hf; obtain ⟨⟨_, ⟨vs, rfl, _⟩, _⟩, _⟩ := hf; rfl

theorem footAs_of_cells : ∀ (xs : List AV) (vs : List Value) (L : List Nat), vs.length = xs.length → (∀ (j : Nat) y, xs[j]? = some y → ∃ u L', vs[j]? = some u ∧ footA hv w y u L' ∧ ∀ b ∈ L', b ∈ L) →
    ∃ L', footAs hv w xs vs L' ∧ ∀ b ∈ L', b ∈ L
  | [], vs, L, hl, _ => ⟨[], by simp only [footAs]; exact ⟨by simpa using hl, trivial⟩, by simp⟩
  | x :: xs, vs, L, hl, h => by
    cases vs with
    | nil => simp at hl
    | cons v vs =>
      obtain ⟨u, L1, h1, h2, h3⟩ := h 0 x rfl
      simp only [List.getElem?_cons_zero, Option.some.injEq] at h1
      subst h1
      obtain ⟨L2, h4, h5⟩ := footAs_of_cells xs vs L (by simpa using hl) (fun j y hj => by simpa using h (j + 1) y (by simpa using hj))
      refine ⟨L1 ++ L2, by simp only [footAs]; exact ⟨v, vs, L1, L2, rfl, rfl, h2, h4⟩, fun b hb => ?_⟩
      rcases List.mem_append.1 hb with hb | hb
      · exact h3 b hb
      · exact h5 b hb

theorem footTs_of_cells : ∀ (xs : List T) (vs : List Value) (L : List Nat), vs.length = xs.length → (∀ (j : Nat) y, xs[j]? = some y → ∃ u L', vs[j]? = some u ∧ footT w y u L' ∧ ∀ b ∈ L', b ∈ L) →
    ∃ L', footTs w xs vs L' ∧ ∀ b ∈ L', b ∈ L
  | [], vs, L, hl, _ => ⟨[], by simp only [footTs]; exact ⟨by simpa using hl, trivial⟩, by simp⟩
  | x :: xs, vs, L, hl, h => by
    cases vs with
    | nil => simp at hl
    | cons v vs =>
      obtain ⟨u, L1, h1, h2, h3⟩ := h 0 x rfl
      simp only [List.getElem?_cons_zero, Option.some.injEq] at h1
      subst h1
      obtain ⟨L2, h4, h5⟩ := footTs_of_cells xs vs L (by simpa using hl) (fun j y hj => by simpa using h (j + 1) y (by simpa using hj))
      refine ⟨L1 ++ L2, by simp only [footTs]; exact ⟨v, vs, L1, L2, rfl, rfl, h2, h4⟩, fun b hb => ?_⟩
      rcases List.mem_append.1 hb with hb | hb
      · exact h3 b hb
      · exact h5 b hb

/-- 'pickA' out of cells in memory -/
theorem pickA_sound {t : TypeId} {y : AV} {off : Nat} {K : AV → Prop} (h : pickA P t y off K) : ∃ r, K r ∧ ∀ {hv : Hv} {w : World} {b o n : Nat} {u : Value} {L : List Nat}, footA hv w y u L → y ≠ .un → (∀ id, (hv id).oneCell' = true) →
    y.under n = true → laid w b o u.cells.toList →
    ∃ v L', (loadVar t ⟨b, o + off, none⟩).run P w = .ok v w ∧ footA hv w r v L' ∧ (∀ b ∈ L', b ∈ L) ∧ r.under n = true := by
  unfold pickA at h
  cases hl' : lay P t with
  | st fs m =>
    simp only [hl'] at h
    split at h
    · rename_i hh
      obtain ⟨rfl, e2, e3⟩ := hh
      refine ⟨y, h, ?_⟩
      intro hv w b o n u L hy hk h1 hu hl
      obtain ⟨hc1, hc2⟩ := footA_cells hy hk h1
      have hsize : u.cells.toList.length = y.cells.length := by simpa using hc1
      refine ⟨u, L, ?_, hy, fun b hb => hb, hu⟩
      rw [Nat.add_zero, run_load_st hl' (hsize.trans e2) hl]
      rw [Array.toArray_toList, ← agg_of_isAg e3 hy]
    · obtain ⟨e1, e2⟩ := h
      refine ⟨_, e2, ?_⟩
      intro hv w b o n u L hy hk h1 hu hl
      obtain ⟨hc1, hc2⟩ := footA_cells hy hk h1
      have hsize : u.cells.toList.length = y.cells.length := by simpa using hc1
      have huc := AV.under_cells hu
      have hlen : ((u.cells.toList.drop off).take m).length = m := by rw [List.length_take, List.length_drop, hsize]; omega
      obtain ⟨L', k1, k2⟩ := footAs_of_cells (hv := hv) (w := w) ((y.cells.drop off).take m) ((u.cells.toList.drop off).take m) L (by rw [hlen, List.length_take, List.length_drop]; omega) (fun j z hz => by
        rw [List.getElem?_take] at hz ⊢
        split at hz
        · rename_i hj
          rw [List.getElem?_drop] at hz
          obtain ⟨u', L', q1, q2, q3⟩ := hc2 (off + j) z hz
          exact ⟨u', L', by rw [if_pos hj, List.getElem?_drop]; simpa using q1, q2, q3⟩
        · cases hz)
      refine ⟨_, L', run_load_st hl' hlen (laid_part hl off m), ?_, k2, ?_⟩
      · simp only [footA]; exact ⟨_, rfl, k1⟩
      · simp only [AV.under]
        exact unders_of fun x hx => huc x (List.mem_of_mem_drop (List.mem_of_mem_take hx))
  | _ =>
    simp only [hl'] at h
    obtain ⟨e1, e2⟩ := h
    split at e2
    · rename_i z hz
      refine ⟨z, e2, ?_⟩
      intro hv w b o n u L hy hk h1 hu hl
      obtain ⟨hc1, hc2⟩ := footA_cells hy hk h1
      obtain ⟨u', L', q1, q2, q3⟩ := hc2 off z hz
      exact ⟨u', L', run_load_sc (by rw [hl']; exact e1) (hl off u' (by simpa using q1)), q2, q3, AV.under_cells hu z (List.mem_of_getElem? hz)⟩
    · cases e2

theorem pickT_sound {t : TypeId} {y : T} {off : Nat} {K : T → Prop} (h : pickT P t y off K) : ∃ r, K r ∧ ∀ {w : World} {b o : Nat} {u : Value} {L : List Nat}, footT w y u L → laid w b o u.cells.toList →
    ∃ v L', (loadVar t ⟨b, o + off, none⟩).run P w = .ok v w ∧ footT w r v L' ∧ (∀ b ∈ L', b ∈ L) := by
  unfold pickT at h
  cases hl' : lay P t with
  | st fs m =>
    simp only [hl'] at h
    split at h
    · rename_i hh
      obtain ⟨rfl, e2, e3⟩ := hh
      refine ⟨y, h, ?_⟩
      intro w b o u L hy hl
      obtain ⟨hc1, hc2⟩ := footT_cells hy
      have hsize : u.cells.toList.length = y.cells.length := by simpa using hc1
      refine ⟨u, L, ?_, hy, fun b hb => hb⟩
      rw [Nat.add_zero, run_load_st hl' (hsize.trans e2) hl]
      rw [Array.toArray_toList]
      cases y <;> first | (simp [T.isAg] at e3; done) | skip
      simp only [footT] at hy
      obtain ⟨vs, rfl, _⟩ := hy
      rfl
    · obtain ⟨e1, e2⟩ := h
      refine ⟨_, e2, ?_⟩
      intro w b o u L hy hl
      obtain ⟨hc1, hc2⟩ := footT_cells hy
      have hsize : u.cells.toList.length = y.cells.length := by simpa using hc1
      have hlen : ((u.cells.toList.drop off).take m).length = m := by rw [List.length_take, List.length_drop, hsize]; omega
      obtain ⟨L', k1, k2⟩ := footTs_of_cells (w := w) ((y.cells.drop off).take m) ((u.cells.toList.drop off).take m) L (by rw [hlen, List.length_take, List.length_drop]; omega) (fun j z hz => by
        rw [List.getElem?_take] at hz ⊢
        split at hz
        · rename_i hj
          rw [List.getElem?_drop] at hz
          obtain ⟨u', L', q1, q2, q3⟩ := hc2 (off + j) z hz
          exact ⟨u', L', by rw [if_pos hj, List.getElem?_drop]; simpa using q1, q2, q3⟩
        · cases hz)
      refine ⟨_, L', run_load_st hl' hlen (laid_part hl off m), ?_, k2⟩
      simp only [footT]; exact ⟨_, rfl, k1⟩
  | _ =>
    simp only [hl'] at h
    obtain ⟨e1, e2⟩ := h
    split at e2
    · rename_i z hz
      refine ⟨z, e2, ?_⟩
      intro w b o u L hy hl
      obtain ⟨hc1, hc2⟩ := footT_cells hy
      obtain ⟨u', L', q1, q2, q3⟩ := hc2 off z hz
      exact ⟨u', L', run_load_sc (by rw [hl']; exact e1) (hl off u' (by simpa using q1)), q2, q3⟩
    · cases e2

theorem cellsL_get {m : Nat} : ∀ {vs : List Value} (_ : ∀ v ∈ vs, v.cells.size = m) {i : Nat} {v : Value} (_ : vs[i]? = some v) {j : Nat} (_ : j < m), (cellsL vs)[i * m + j]? = v.cells[j]?
  | [], _, _, _, hv, _, _ => by simp at hv
  | x :: vs, hs, i, v, hv, j, hj => by
    have hx : x.cells.toList.length = m := by simpa using hs x (List.mem_cons_self ..)
    cases i with
    | zero =>
      simp only [List.getElem?_cons_zero, Option.some.injEq] at hv
      subst hv
      simp only [cellsL, List.flatMap_cons, Nat.zero_mul, Nat.zero_add]
      rw [List.getElem?_append_left (by omega)]
      simp
    | succ i =>
      simp only [List.getElem?_cons_succ] at hv
      have ih := cellsL_get (fun v hv => hs v (List.mem_cons_of_mem _ hv)) hv hj
      simp only [cellsL, List.flatMap_cons] at ih ⊢
      rw [List.getElem?_append_right (by rw [hx, Nat.succ_mul]; omega)]
      rw [hx, show (i + 1) * m + j - m = i * m + j by rw [Nat.succ_mul]; omega]
      exact ih

theorem laid_elem {b off m : Nat} {vs : List Value} (hs : ∀ v ∈ vs, v.cells.size = m) (h : laid w b off (cellsL vs)) {i : Nat} {v : Value} (hi : vs[i]? = some v) : laid w b (off + i * m) v.cells.toList := by
  intro j u hj
  have hm : v.cells.size = m := hs v (List.mem_of_getElem? hi)
  have hjm : j < m := by
    rcases Nat.lt_or_ge j m with h' | h'
    · exact h'
    · rw [List.getElem?_eq_none (by simp [hm]; exact h')] at hj; cases hj
  have := h (i * m + j) u (by rw [cellsL_get hs hi hjm]; simpa using hj)
  rwa [← Nat.add_assoc] at this

/-- the objects, in a world -/
structure Obs (os : List Ob) (hv : Hv) (S : Nat → Prop) (F : Nat → List Nat) (w : World) : Prop where
  ob : ∀ (id : Nat) (o : Ob), os[id]? = some o → ObR hv S w (F id) (hv id) o
  uob : ∀ (id : Nat) (o : Ob), os[id]? = some o → o.under os.length = true
  own : ∀ (id : Nat) (o : Ob), os[id]? = some o → o.owns = true → ∀ b ∈ F id, hv.B b
  SB : ∀ b, S b → hv.B b
  one : ∀ id, (hv id).oneCell' = true

theorem Rel.obs (h : Rel w0 σ hv S F a w) : Obs σ.ob hv S F w := ⟨h.ob, h.uob, fun id o hid ho b hb => (h.fown id o hid ho b hb).2.1, h.SB, h.one⟩

/-- a value that is known -/
def Arg (hv : Hv) (S : Nat → Prop) (w : World) (n : Nat) (x : AV) (v : Value) : Prop := (∃ L, footA hv w x v L ∧ ∀ b ∈ L, S b) ∧ x.under n = true

theorem Rel.arg (h : Rel w0 σ hv S F a w) (x : Operand) : Arg hv S w σ.ob.length (σ.opd x) (a.eval x) := h.opd x

/-- the operation only looks: this is what it yields, wherever the objects are so -/
def Yields1 (P : Program) (ob : List Ob) (e : Operand → AV) (o : Oper) (x : AV) : Prop :=
  ∀ {hv : Hv} {S : Nat → Prop} {F : Nat → List Nat} {w : World} {ρ : Operand → Value}, Obs ob hv S F w → (∀ y ∈ o.op.operands, Arg hv S w ob.length (e y) (ρ y)) →
    ∃ v, (execOp ρ o).run P w = .ok (.value v) w ∧ Arg hv S w ob.length x v

def Kind.reads (hv : Hv) (S : Nat → Prop) : Kind → Nat → Prop
  | .clo, b => S b
  | _, b => hv.B b

/-- the elements can be read -/
theorem elsR_foot {Fi : List Nat} {k : Kind} {es : List T} {vs : List Value} (h : elsR hv S w Fi k es vs) (hF : k.isOwn = true → ∀ b ∈ Fi, hv.B b) :
    ∃ L, footTs w es vs L ∧ (∀ b ∈ L, k.reads hv S b) := by
  cases k with
  | own s =>
    obtain ⟨L, h1, h2, h3⟩ := h
    obtain ⟨L', k1, k2⟩ := ownEs_foot s es h1
    exact ⟨L', k1, fun b hb => hF rfl b (h3 b (k2 b hb))⟩
  | clo => exact h
  | bor => exact h

theorem look_arg {k : Kind} {r : T} {v : Value} {L : List Nat} {n : Nat} (h : footT w r v L) (hL : ∀ b ∈ L, k.reads hv S b) : Arg hv S w n (k.look r) v := by
  cases k with
  | clo => exact ⟨⟨L, by simpa only [Kind.look, footA] using h, hL⟩, rfl⟩
  | own s => exact ⟨⟨[], bwc_foot h hL, by simp⟩, AV.bwc_under r⟩
  | bor => exact ⟨⟨[], bwc_foot h hL, by simp⟩, AV.bwc_under r⟩

/-- LOAD -/
theorem load_sound {o : Oper} {t : TypeId} {x : Operand} {ob : List Ob} {e : Operand → AV} {K : AV → Prop} (ho : o.op = .load t x) (h : vcLoad P t (e x) ob K) : ∃ r, K r ∧ Yields1 P ob e o r := by
  have fin : ∀ {ρ : Operand → Value} {w : World} {b off : Nat} {v : Value}, ρ x = .pointer (some ⟨b, off, none⟩) → (loadVar t ⟨b, off, none⟩).run P w = .ok v w → (execOp ρ o).run P w = .ok (.value v) w := by
    intro ρ w b off v e h1
    simp [execOp, ho, e, Instr.loadAt, Instr.sureAddr, h1]
  have hmem : x ∈ o.op.operands := by rw [ho]; simp [Op.operands]
  unfold vcLoad at h
  split at h
  · rename_i id off he
    split at h
    · rename_i y hy
      obtain ⟨hk, h⟩ := h
      obtain ⟨r, hK, hp⟩ := pickA_sound h
      refine ⟨r, hK, ?_⟩
      intro hv S F w ρ hob harg
      obtain ⟨⟨Lx, hx, hLx⟩, hux⟩ := harg x hmem
      rw [he] at hx
      simp only [footA] at hx
      obtain ⟨b, e1, e2, _⟩ := hx
      obtain ⟨b', e', u, L, k1, k2, k3, k4⟩ := hob.ob id _ hy
      rw [e1] at k1
      cases k1
      obtain ⟨v, L', q1, q3, q4, q5⟩ := hp (n := ob.length) k3 hk hob.one (by simpa [Ob.under] using hob.uob id _ hy) (laid_of_heap k2)
      rw [Nat.zero_add] at q1
      exact ⟨v, fin e2 q1, ⟨L', q3, fun b hb => k4 b (q4 b hb)⟩, q5⟩
    · cases h
  · rename_i y off he
    obtain ⟨r, hK, hp⟩ := pickT_sound h
    refine ⟨.t r, hK, ?_⟩
    intro hv S F w ρ hob harg
    obtain ⟨⟨Lx, hx, hLx⟩, hux⟩ := harg x hmem
    rw [he] at hx
    simp only [footA, footT] at hx
    obtain ⟨b, o', u, L', e1, e2, e3, e4⟩ := hx
    obtain ⟨v, L2, q1, q3, q4⟩ := hp e2 e4
    exact ⟨v, fin e1 q1, ⟨L2, by simpa only [footA] using q3, fun b hb => hLx b (by rw [e3]; exact List.mem_cons_of_mem _ (q4 b hb))⟩, rfl⟩
  · rename_i y off he
    obtain ⟨r, hK, hp⟩ := pickT_sound h
    refine ⟨.bwc r, hK, ?_⟩
    intro hv S F w ρ hob harg
    obtain ⟨⟨Lx, hx, hLx⟩, hux⟩ := harg x hmem
    rw [he] at hx
    simp only [footA, footT] at hx
    obtain ⟨⟨L0, ⟨b, o', u, L', e1, e2, e3, e4⟩, hB⟩, _⟩ := hx
    obtain ⟨v, L2, q1, q3, q4⟩ := hp e2 e4
    exact ⟨v, fin e1 q1, ⟨[], bwc_foot q3 (fun b hb => hB b (by rw [e3]; exact List.mem_cons_of_mem _ (q4 b hb))), by simp⟩, AV.bwc_under r⟩
  · rename_i id i m off he
    split at h
    · rename_i te m' k es hy
      obtain ⟨rfl, hi, h⟩ := h
      obtain ⟨y, hyi⟩ : ∃ y, es[i]? = some y := ⟨es[i], List.getElem?_eq_getElem hi⟩
      obtain ⟨r, hK, hp⟩ := pickT_sound (h y hyi)
      refine ⟨_, hK, ?_⟩
      intro hv S F w ρ hob harg
      obtain ⟨⟨Lx, hx, hLx⟩, hux⟩ := harg x hmem
      rw [he] at hx
      simp only [footA] at hx
      obtain ⟨b, n, c, e1, e2, _⟩ := hx
      obtain ⟨vs, k1, k2, k3, k4⟩ := hob.ob id _ hy
      obtain ⟨L, f1, f2⟩ := elsR_foot k2 (fun hk => hob.own id _ hy (by cases k <;> first | rfl | cases hk))
      obtain ⟨u, L', g1, g2, g3⟩ := footTs_get f1 hyi
      have hl := laid_elem k3 (ownsRow_laid k1 e1) g1
      rw [Nat.zero_add] at hl
      obtain ⟨v, L2, q1, q3, q4⟩ := hp g2 hl
      exact ⟨v, fin e2 q1, look_arg q3 (fun b hb => f2 b (g3 b (q4 b hb)))⟩
    · rename_i te m' ss es i' j id' hy
      obtain ⟨⟨rfl, rfl, rfl, hsc⟩, hK⟩ := h
      refine ⟨_, hK, ?_⟩
      intro hv S F w ρ hob harg
      obtain ⟨⟨Lx, hx, hLx⟩, hux⟩ := harg x hmem
      rw [he] at hx
      simp only [footA] at hx
      obtain ⟨b, n, c, e1, e2, _⟩ := hx
      obtain ⟨vs, v, y, L0, e1', m1, s1, h1, h2, h3, h4, h5, h6, _⟩ := hob.ob id _ hy
      have hl := laid_elem h2 (ownsRow_laid h1 e1) h5
      rw [Nat.zero_add] at hl
      have hc := hl off (hv id') (by simpa using h6)
      have hu := hob.uob id _ hy
      exact ⟨hv id', fin e2 (run_load_sc hsc hc), ⟨[], by simp only [footA]; exact ⟨trivial, trivial⟩, by simp⟩, by simpa [AV.under, Ob.under] using hu⟩
    · cases h
  · cases h

end

end Go.Proofs.Ythhgcklidfilfaa.BX
