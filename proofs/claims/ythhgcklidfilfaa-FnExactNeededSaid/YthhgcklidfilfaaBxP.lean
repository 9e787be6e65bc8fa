/-
  A frame for proofs over whole functions, second make, sixteenth part: operations one behind the other.
-/
import Derived.Test.YthhgcklidfilfaaBxOi
import Derived.Laws.Build
namespace Go.Proofs.Ythhgcklidfilfaa.BX
set_option linter.unusedSectionVars false
set_option linter.unusedSimpArgs false
set_option linter.unusedVariables false
open Go Go.RowKit
variable [Bd]

/-- a closed value behind an interface -/
def vcIface (P : Program) (t : TypeId) (x : AV) (K : AV → Prop) : Prop := P.concrete t = true ∧ match x.shut with
  | some y => K (.t (.ifc t y))
  | none => False

theorem iface_sound {P : Program} {ob : List Ob} {e : Operand → AV} {K : AV → Prop} {o : Oper} {t : TypeId} {x : Operand} (ho : o.op = .makeInterface t x) (h : vcIface P t (e x) K) : ∃ r, K r ∧ Yields1 P ob e o r := by
  have hm : x ∈ o.op.operands := by rw [ho]; simp [Op.operands]
  obtain ⟨hc, h⟩ := h
  split at h
  · rename_i y hy
    refine ⟨_, h, ?_⟩
    intro hv S F w ρ hob harg
    have ax := harg x hm
    obtain ⟨L, fx, hL⟩ := ax.shut_inv hy
    refine ⟨.iface t (ρ x), ?_, ⟨L, by simp only [footA, footT]; exact ⟨_, rfl, fx⟩, hL⟩, rfl⟩
    simp only [execOp, ho, Sem.run_bind, run_makeInterface w t (ρ x) hc, Result.andThen_ok]
    rfl
  · cases h

/-- a function literal: the function and what it takes along -/
def vcFn (fn : Fn) (n : Nat) (xs : List AV) (K : AV → Prop) : Prop :=
  match fn with
  | .func f => n = 0 ∧ K (.fn f xs)
  | _ => False

theorem args_foot {hv : Hv} {S : Nat → Prop} {w : World} {n : Nat} {e : Operand → AV} {ρ : Operand → Value} : ∀ (xs : List Operand), (∀ y ∈ xs, Arg hv S w n (e y) (ρ y)) → (∃ L, footAs hv w (xs.map e) (xs.map ρ) L ∧ ∀ b ∈ L, S b) ∧ unders n (xs.map e) = true
  | [], _ => ⟨⟨[], by simp [footAs], by simp⟩, rfl⟩
  | x :: xs, h => by
    obtain ⟨⟨L, h1, h2⟩, h3⟩ := args_foot xs fun y hy => h y (by simp [hy])
    obtain ⟨⟨M, g1, g2⟩, g3⟩ := h x (by simp)
    refine ⟨⟨M ++ L, ?_, fun b hb => ?_⟩, ?_⟩
    · simp only [List.map_cons, footAs]
      exact ⟨_, _, M, L, rfl, rfl, g1, h1⟩
    · rcases List.mem_append.1 hb with hb | hb
      · exact g2 b hb
      · exact h2 b hb
    · simp only [List.map_cons, unders, g3, h3, Bool.and_self]

theorem fn_sound {P : Program} {ob : List Ob} {e : Operand → AV} {K : AV → Prop} {o : Oper} {fn : Fn} {first xs : Array Operand} (ho : o.op = .makeFunc fn first xs) (h : vcFn fn first.size (xs.toList.map e) K) : ∃ r, K r ∧ Yields1 P ob e o r := by
  unfold vcFn at h
  split at h
  · rename_i f
    obtain ⟨h0, h⟩ := h
    refine ⟨_, h, ?_⟩
    intro hv S F w ρ hob harg
    obtain ⟨⟨L, h1, h2⟩, h3⟩ := args_foot (hv := hv) (S := S) (w := w) (n := ob.length) (e := e) (ρ := ρ) xs.toList fun y hy => harg y (by rw [ho]; simp only [Op.operands]; simp [Array.mem_toList_iff.1 hy])
    have hf : first = #[] := Array.eq_empty_of_size_eq_zero h0
    subst hf
    refine ⟨.func (.func f) #[] (xs.map ρ), ?_, ⟨L, by simp only [footA]; exact ⟨xs.toList.map ρ, by rw [← Array.toList_map], h1⟩, h2⟩, by simpa only [AV.under] using h3⟩
    simp [execOp, ho, Instr.makeFunc]
  · cases h

/-- where a struct's part of one cell lies -/
def oneFld (P : Program) (s f : Nat) : Option Nat :=
  match P.underlying s with
  | some (.struct fields) => match fields[f]? with
    | some g => if (lay P g.type).sc = true then some g.offset else none
    | none => none
  | _ => none
/-- a part of a struct that is no variable -/
def vcFld (P : Program) (s f : Nat) (x : AV) (K : AV → Prop) : Prop :=
  match oneFld P s f, x with
  | some o, .t (.ag cs) => match cs[o]? with
    | some y => K (.t y)
    | none => False
  | _, _ => False

theorem fld_sound {P : Program} {ob : List Ob} {e : Operand → AV} {K : AV → Prop} {o : Oper} {s : TypeId} {f : Nat} {x : Operand} (ho : o.op = .field s x f) (h : vcFld P s f (e x) K) : ∃ r, K r ∧ Yields1 P ob e o r := by
  have hm : x ∈ o.op.operands := by rw [ho]; simp [Op.operands]
  unfold vcFld at h
  split at h
  · rename_i off cs hoff hx
    split at h
    · rename_i y hy
      refine ⟨_, h, ?_⟩
      intro hv S F w ρ hob harg
      obtain ⟨⟨L, fx, hL⟩, _⟩ := harg x hm
      rw [hx] at fx
      simp only [footA, footT] at fx
      obtain ⟨vs, hvs, fx⟩ := fx
      obtain ⟨u, L', g1, g2, g3⟩ := footTs_get fx hy
      refine ⟨u, ?_, ⟨L', by simpa only [footA] using g2, fun b hb => hL b (g3 b hb)⟩, rfl⟩
      unfold oneFld at hoff
      split at hoff
      · rename_i fields hu
        split at hoff
        · rename_i g hg
          split at hoff
          · rename_i hsc
            cases hoff
            simp only [execOp, ho, Sem.run_bind, Instr.field, run_underlying hu, Result.andThen_ok, hg, hvs, asAgg, part, Sem.run_pure, run_isAgg_sc hsc, Bool.false_eq_true, if_false]
            simp [g1]
          · cases hoff
        · cases hoff
      · cases hoff
    · cases h
  · cases h

/-- structs of plain cells, compared -/
def eqKK (op : BinOp) (x y : T) (K : AV → Prop) : Prop :=
  match op with
  | .eql => K (.t (.b (@decide (x = y) (Classical.propDecidable _))))
  | .neq => K (.t (.b (@decide (x ≠ y) (Classical.propDecidable _))))
  | _ => False
def vcBs (P : Program) (op : BinOp) (t : TypeId) (x y : AV) (K : AV → Prop) : Prop :=
  match x, y with
  | .t (.ag xs), .t (.ag ys) => match keyLay P t with
    | some s => isKey s (.ag xs) ∧ isKey s (.ag ys) ∧ P.eqGuardType P.depth t = false ∧ eqKK op (.ag xs) (.ag ys) K
    | none => False
  | x, y => vcBin P op t x y K
theorem bs_sound {P : Program} {K : AV → Prop} {ob : List Ob} {e : Operand → AV} {o : Oper} {op : BinOp} {t yt : TypeId} {x y : Operand} (ho : o.op = .binOp op t x y yt) (h : vcBs P op t (e x) (e y) K) : ∃ r, K r ∧ Yields1 P ob e o r := by
  unfold vcBs at h
  split at h
  · rename_i xs ys hx hy
    split at h
    · rename_i s hs
      obtain ⟨kx, ky, hg, h⟩ := h
      have hmx : x ∈ o.op.operands := by rw [ho]; simp [Op.operands]
      have hmy : y ∈ o.op.operands := by rw [ho]; simp [Op.operands]
      have main : ∀ (c : Bool), (∀ (us vs : Array Value) (w : World), (Op.equal t (.agg us) (.agg vs)).run P w = .ok (@decide (T.ag xs = .ag ys) (Classical.propDecidable _)) w → (Go.binOp op t (.agg us) (.agg vs)).run P w = .ok (.bool c) w) → K (.t (.b c)) → ∃ r, K r ∧ Yields1 P ob e o r := by
        intro c hc hk
        refine ⟨_, hk, ?_⟩
        intro hv S F w ρ hob harg
        have ax := harg x hmx
        have ay := harg y hmy
        rw [hx] at ax
        rw [hy] at ay
        obtain ⟨L, fx, _⟩ := ax.t_inv
        obtain ⟨M, fy, _⟩ := ay.t_inv
        have heq := eq_key hs kx ky fx fy w
        simp only [footT] at fx fy
        obtain ⟨us, hux, _⟩ := fx
        obtain ⟨vs, hvy, _⟩ := fy
        rw [hux, hvy] at heq
        refine ⟨.bool c, ?_, arg_b _⟩
        have hgd : ∀ p q, (eqGuard op t p q (.agg us.toArray) (.agg vs.toArray)).run P w = .ok () w := fun p q => run_eqGuard_agg _ op t p q _ _ hg
        simp only [execOp, ho, hux, hvy, Sem.run_bind, hgd, Result.andThen_ok, hc _ _ _ heq, Sem.run_pure]
      cases op <;> simp only [eqKK] at h <;> first | (exact h.elim) | skip
      · refine main _ (fun us vs w hq => ?_) h
        simp only [Go.binOp]
        simp [hq]
      · refine main _ (fun us vs w hq => ?_) h
        simp only [Go.binOp]
        simp [hq]
    · cases h
  · exact bin_sound ho h

def vcP (P : Program) (ob : List Ob) (e : Operand → AV) (op : Op) (K : AV → Prop) : Prop :=
  match op with
  | .build t parts => vcBuild P t (parts.toList.map fun p => (p.1, e p.2)) K
  | .makeInterface t x => vcIface P t (e x) K
  | .field s x f => vcFld P s f (e x) K
  | .makeFunc fn first xs => vcFn fn first.size (xs.toList.map e) K
  | .lookup t m k ok => vcLookup P t (e m) (e k) ok ob K
  | .binOp op t x y _ => vcBs P op t (e x) (e y) K
  | op => vcPure P ob e op K

/-- an operation that only looks, or calls what writes to nothing that was there -/
def vcLook (P : Program) (ob : List Ob) (e : Operand → AV) (op : Op) (K : AV → Prop) : Prop :=
  match op with
  | .call c => match c.callee with
    | .value f => vcCall P (e f) (c.args.toList.map e) ob K
    | .invoke r name => vcInv P (e r) name (c.args.toList.map e) ob K
    | _ => vcP P ob e op K
  | op => vcP P ob e op K

def nilK (op : BinOp) (e : Prop) (K : Bool → Prop) : Prop :=
  match op with
  | .eql => (e → K true) ∧ K false
  | .neq => (e → K false) ∧ K true
  | _ => False
def nilN (op : BinOp) (K : Bool → Prop) : Prop :=
  match op with
  | .eql => K true
  | .neq => K false
  | _ => False
/-- is a list nil? an empty one may be -/
def vcNb (P : Program) (op : BinOp) (t : TypeId) (x y : AV) (K : AV → Prop) : Prop :=
  match x, y with
  | .t (.sl es), .ns | .bw (.sl es), .ns => (∃ e m, lay P t = .sli e m) ∧ nilK op (es = []) fun b => K (.t (.b b))
  | .ns, .ns => (∃ e m, lay P t = .sli e m) ∧ nilN op fun b => K (.t (.b b))
  | x, y => vcBs P op t x y K
/-- a row cut short -/
def vcShrink (P : Program) (t : TypeId) (i : Nat) (b : AV) (ob : List Ob) (K : AV → List Ob → Prop) : Prop :=
  match lay P t, ob[i]?, b with
  | .sli e m, some (.arr e' m' k es), .t (.i _ n) => e' = e ∧ m' = m ∧ 0 ≤ n ∧ n ≤ (es.length : Int) ∧ K (.sr ob.length) (ob.set i .dead ++ [.arr e m k (es.take n.toNat)])
  | _, _, _ => False
/-- a part of a row of plain things, cleared -/
def vcClear (P : Program) (t : TypeId) (x : AV) (ob : List Ob) (K : AV → List Ob → Prop) : Prop :=
  match x with
  | .sv i a m n => match lay P t, ob[i]? with
    | .sli e m', some (.arr e' m2 (.own s) es) => (m' = m ∧ m2 = m ∧ s.plain = true ∧ a + n ≤ es.length) ∧ match zeroOf P e with
      | some z => match (ofV z).own [] s with
        | some (y, _) => (0 < m ∧ y.cells.length = m ∧ T.allOne y.cells = true) ∧ K (.t (.tp [])) (ob.set i (.arr e' m (.own s) (es.take a ++ (List.replicate n y ++ es.drop (a + n)))))
        | none => False
      | none => False
    | _, _ => False
  | _ => False
/-- a list cut short -/
def vcSl3 (P : Program) (t : TypeId) (x hi : AV) (ob : List Ob) (K : AV → List Ob → Prop) : Prop :=
  match x with
  | .sr i => vcShrink P t i hi ob K
  | x => vcSlv P t ob x none (some hi) fun r => K r ob

section
variable {w0 : Base} {σ : St} {hv : Hv} {S : Nat → Prop} {F : Nat → List Nat} {a : Act} {w : World}
theorem Lies.take {ob : List Ob} {k : Kind} {es : List T} {vs : List Value} (h : Lies w0 ob hv S F w k es vs) (n : Nat) : Lies w0 ob hv S F w k (es.take n) (vs.take n) := by
  obtain ⟨Fi, h1, h2⟩ := h
  refine ⟨Fi, ?_, h2⟩
  cases k with
  | own s =>
    obtain ⟨L, a1, a2, a3⟩ := h1
    have hl := ownEs_length a1
    have a1' : ownEs w s (es.take n ++ es.drop n) vs L := by rw [List.take_append_drop]; exact a1
    obtain ⟨v1, v2, L1, L2, rfl, rfl, b1, b2⟩ := ownEs_split a1'
    refine ⟨L1, ?_, (List.nodup_append.1 a2).1, fun b hb => a3 b (List.mem_append_left _ hb)⟩
    have hl1 := ownEs_length b1
    rw [List.length_take] at hl1
    rw [List.length_append] at hl
    have hl2 := ownEs_length b2
    rw [List.length_drop] at hl2
    rcases Nat.lt_or_ge n es.length with h | h
    · rw [List.take_left' (by omega)]; exact b1
    · have : v2 = [] := List.eq_nil_of_length_eq_zero (by omega)
      subst this
      rw [List.append_nil, List.take_of_length_le (l := v1) (by omega)]; exact b1
  | clo =>
    obtain ⟨L, a1, a2⟩ := h1
    obtain ⟨L', b1, b2⟩ := footTs_take a1 n
    exact ⟨L', b1, fun b hb => a2 b (b2 b hb)⟩
  | bor =>
    obtain ⟨L, a1, a2⟩ := h1
    obtain ⟨L', b1, b2⟩ := footTs_take a1 n
    exact ⟨L', b1, fun b hb => a2 b (b2 b hb)⟩
theorem Lies.nil {ob : List Ob} {k : Kind} : Lies w0 ob hv S F w k [] [] := by
  cases k with
  | own s => exact ⟨[], ⟨[], by simp [ownEs], List.nodup_nil, by simp⟩, fun _ b hb => by cases hb⟩
  | clo => exact ⟨[], ⟨[], by simp [footTs], by simp⟩, fun h => by cases h⟩
  | bor => exact ⟨[], ⟨[], by simp [footTs], by simp⟩, fun h => by cases h⟩

theorem shrink_sound {P : Program} {Q : Exit → Act → World → Prop} {K : AV → List Ob → Prop} {next : Value → World → Prop} {o : Oper} {t : TypeId} {x hi : Operand} {i : Nat} (ho : o.op = .slice t x none (some hi) none) (hx : σ.opd x = .sr i) (hr : Rel w0 σ hv S F a w) (h : vcShrink P t i (σ.opd hi) σ.ob K) (hn : Ans w0 σ a K next) : Does P Q o a w next := by
  unfold vcShrink at h
  split at h
  · rename_i e m e' m' k es kk n hl hob hhi
    obtain ⟨rfl, rfl, h0, h1, hK⟩ := h
    obtain ⟨⟨Ls, fs, _⟩, _⟩ := hr.arg x
    obtain ⟨⟨Lh, fh, _⟩, _⟩ := hr.arg hi
    rw [hx] at fs
    rw [hhi] at fh
    simp only [footA] at fs fh
    simp only [footT] at fh
    obtain ⟨fs, _⟩ := fs
    obtain ⟨vs, k1, k2, k3, k4⟩ := hr.ob i _ hob
    have hvl := elsR_length k2
    obtain ⟨hu, hm, inf, hinf⟩ := lay_sli hl
    obtain ⟨S', s2, hr1, hlies⟩ := Lies.join hr hob k2 Lies.nil (fun _ => rfl) (fun h => h) (k' := k)
    rw [List.append_nil, List.append_nil] at hlies
    have hlies := hlies.take n.toNat
    obtain ⟨A, c, hA⟩ : ∃ A c, hv i = .slice A es.length c ∧ es.length ≤ c := by
      rcases k1.2 with ⟨q1, q2⟩ | ⟨g, cap, cur, q1, _, _, q2, _⟩
      · exact ⟨none, 0, by rw [q1, q2], by omega⟩
      · exact ⟨_, cap, q1, q2⟩
    have hb := bounds_run (P := P) (len := es.length) (cap := c) (lo := none) (hi := some (.int kk n)) true w (Int.le_refl 0) h0 h1 hA.2 (.inl ⟨rfl, rfl⟩) (.inr ⟨kk, rfl⟩)
    have hs2 := run_slice_any (P := P) (w := w) t A es.length c (by rw [elem_of hu]; exact hu) none (some (.int kk n)) none
    rw [hb] at hs2
    simp only [Result.andThen_ok, elem_of hu, run_sizeOf w hinf, hm] at hs2
    have hrun : (execOp a.eval o).run P w = .ok (.value (sliced A 0 n.toNat c m')) w := by
      simp only [execOp, ho, Sem.run_bind, Option.map_none, Option.map_some, fs, fh.1, hA.1, run_sliceAt_slice (h := (show P.underlying t = some (.slice (P.elem t)) by rw [elem_of hu]; exact hu)), hs2, Result.andThen_ok, Sem.run_pure]
      rfl
    have hlt : ((es.take n.toNat)).length = n.toNat := by rw [List.length_take]; omega
    have hval : ∀ g cap, hv i = .slice (some ⟨g, 0, none⟩) es.length cap → sliced A 0 n.toNat c m' = .slice (some ⟨g, 0, none⟩) n.toNat cap := by
      intro g cap q
      rw [hA.1] at q
      cases q
      simp only [sliced, Nat.sub_zero]
      split
      · rfl
      · simp [add_lit]
    have hrow : w.ownsRow 0 e' m' (sliced A 0 n.toNat c m') (es.take n.toNat).length (cellsL (vs.take n.toNat)) := by
      refine ⟨?_, ?_⟩
      · rw [cellsL_take _ k3, List.length_take, k1.1, hlt]
        exact Nat.min_eq_left (Nat.mul_le_mul_right _ (by omega))
      · rcases k1.2 with ⟨q1, q2⟩ | ⟨g, cap, cur, q1, q3, q4, q5, q6, q7, q8⟩
        · refine .inl ⟨?_, by omega⟩
          rw [hA.1, q2] at q1
          cases q1
          have : n.toNat = 0 := by omega
          rw [this]; rfl
        · refine .inr ⟨g, cap, cur, ?_, q3, q4, by omega, q6, q7, ?_⟩
          · rw [hval g cap q1, hlt]
          · rw [cellsL_take _ k3, ← q8, List.take_take, hlt, Nat.min_eq_left (Nat.mul_le_mul_right _ (by omega))]
    have hroot : ∀ b, blkOf (sliced A 0 n.toNat c m') = some b → blkOf (hv i) = some b ∨ w.heap.size ≤ b := by
      intro b hb
      rcases k1.2 with ⟨q1, q2⟩ | ⟨g, cap, cur, q1, _⟩
      · rw [hA.1, q2] at q1
        cases q1
        simp [sliced, blkOf] at hb
      · rw [hval g cap q1] at hb
        rw [q1]
        exact .inl hb
    obtain ⟨hv', S2, F', q1, q2⟩ := Rel.renew2 hr hob (by simp) (w' := w) ⟨rfl, rfl, rfl, Nat.le_refl _, fun k _ _ => rfl⟩ (Nat.le_refl _) hrow hroot rfl hr1 hlies (fun v hv => k3 v (List.mem_of_mem_take hv)) (by rw [hlt]; omega) (by rw [cellsL_take _ k3]; exact fun u hu => k4.2 u (List.mem_of_mem_take hu))
    exact does_value hrun (hn _ _ _ _ hv' S2 F' [] hK q1 (by simp only [footA]; exact ⟨by rw [← q2], trivial⟩) (by simp) (by simp [AV.under]))
  · cases h
theorem row_span {P : Program} {e : TypeId} {m n a : Nat} {h : Value} {vs us : List Value} {g len cap : Nat} (hrow : w.ownsRow 0 e m h n (cellsL vs)) (hh : h = .slice (some ⟨g, 0, none⟩) len cap) (hn : n = vs.length) (hvs : ∀ v ∈ vs, v.cells.size = m) (h1 : ones (cellsL vs))
    (hus : ∀ v ∈ us, v.cells.size = m) (ho : ones (cellsL us)) (ha : a + us.length ≤ vs.length) :
    ∃ cs : Array Value, (storeCells ⟨g, a * m, none⟩ (cellsL us)).run P w = .ok () (w.setRow g cs) ∧ (w.setRow g cs).ownsRow 0 e m h n (cellsL (vs.take a ++ (us ++ vs.drop (a + us.length)))) ∧ (∀ v ∈ vs.take a ++ (us ++ vs.drop (a + us.length)), v.cells.size = m) ∧ ones (cellsL (vs.take a ++ (us ++ vs.drop (a + us.length)))) := by
  obtain ⟨q1, q2⟩ := hrow
  rcases q2 with ⟨q2, _⟩ | ⟨g', cap', cur, q3, q4, q5, q6, q7, q8, q9⟩
  · rw [hh] at q2; cases q2
  rw [hh] at q3
  simp only [Value.slice.injEq, Option.some.injEq, Addr.mk.injEq, and_true] at q3
  obtain ⟨rfl, rfl, rfl⟩ := q3
  have hvs' : ∀ v ∈ vs.take a ++ (us ++ vs.drop (a + us.length)), v.cells.size = m := fun v hv => by
    rcases List.mem_append.1 hv with hv | hv
    · exact hvs v (List.mem_of_mem_take hv)
    · rcases List.mem_append.1 hv with hv | hv
      · exact hus v hv
      · exact hvs v (List.mem_of_mem_drop hv)
  have hC' : cellsL (vs.take a ++ (us ++ vs.drop (a + us.length))) = (cellsL vs).take (a * m) ++ cellsL us ++ (cellsL vs).drop (a * m + us.length * m) := by
    rw [← Nat.add_mul, ← cellsL_take _ hvs, ← cellsL_drop _ hvs]
    simp [cellsL]
  have hlen' : (vs.take a ++ (us ++ vs.drop (a + us.length))).length = vs.length := by
    simp only [List.length_append, List.length_take, List.length_drop]; omega
  have hul : (cellsL us).length = us.length * m := cellsL_length _ hus
  have hvl : (cellsL vs).length = vs.length * m := cellsL_length _ hvs
  have hcur : cur.toList = cellsL vs ++ cur.toList.drop (len * m) := by
    rw [← q9, List.take_append_drop]
  have hin : a * m + us.length * m ≤ (cellsL vs).length := by rw [hvl, ← Nat.add_mul]; exact Nat.mul_le_mul_right _ ha
  have hsz : a * m + us.length * m ≤ cur.size := by
    have : (cellsL vs).length ≤ cur.size := by rw [← Array.length_toList, hcur]; simp
    omega
  have hrun := run_storeCells_at P g (a * m) e (cellsL us) 0 cur w q5 (by rw [hul]; simpa using hsz) ho
  have hnew : cur.toList.take (a * m + 0) ++ cellsL us ++ cur.toList.drop (a * m + 0 + (cellsL us).length) = cellsL (vs.take a ++ (us ++ vs.drop (a + us.length))) ++ cur.toList.drop (len * m) := by
    rw [hC', hul, Nat.add_zero]
    conv => lhs; rw [hcur]
    rw [List.take_append_of_le_length (by omega), List.drop_append_of_le_length (by omega)]
    simp [List.append_assoc]
  have hones : ones (cellsL (vs.take a ++ (us ++ vs.drop (a + us.length)))) := by
    rw [hC']
    intro c hc
    simp only [List.mem_append] at hc
    rcases hc with (hc | hc) | hc
    · exact h1 c (List.mem_of_mem_take hc)
    · exact ho c hc
    · exact h1 c (List.mem_of_mem_drop hc)
  rw [hnew] at hrun
  refine ⟨_, hrun, ⟨by rw [cellsL_length _ hvs', hlen', hn], .inr ⟨g, cap, _, hh, q4, setRow_heap w g cur _ e _ q5, q6, q7, ?_, ?_⟩⟩, hvs', hones⟩
  · simp only [List.size_toArray, List.length_append, List.length_drop, Array.length_toList, q8]
    rw [cellsL_length _ hvs', hlen', ← hn]
    have : len * m ≤ cap * m := Nat.mul_le_mul_right _ q6
    omega
  · simp only [List.toList_toArray]
    rw [List.take_append_of_le_length (by rw [cellsL_length _ hvs', hlen', hn]; exact Nat.le_refl _), List.take_of_length_le (by rw [cellsL_length _ hvs', hlen', hn]; exact Nat.le_refl _)]
theorem zeroCells_eq {m n : Nat} {z : Value} (hzs : z.cells.size = m) (hm0 : 0 < m) : (Builtin.zeroCells z.cells n).toList = cellsL (List.replicate n z) := by
  apply List.ext_getElem?
  intro j
  have hlen : (cellsL (List.replicate n z)).length = n * m := by
    have h := cellsL_length (m := m) (List.replicate n z) (fun v hv => by rw [(List.mem_replicate.1 hv).2]; exact hzs)
    rwa [List.length_replicate] at h
  by_cases hj : j < n * m
  · have hjd : j / m < n := Nat.div_lt_of_lt_mul (by rw [Nat.mul_comm]; exact hj)
    have hjm : j % m < m := Nat.mod_lt _ hm0
    have := cellsL_get (m := m) (vs := List.replicate n z) (fun v hv => by rw [(List.mem_replicate.1 hv).2]; exact hzs) (i := j / m) (v := z) (by simp [hjd]) hjm
    rw [Nat.mul_comm, Nat.div_add_mod] at this
    rw [this]
    simp only [Builtin.zeroCells, Array.toList_map, Array.toList_range, List.getElem?_map, hzs, List.getElem?_range hj, Option.map_some]
    have : j % m < z.cells.size := by omega
    simp [this]
  · rw [List.getElem?_eq_none (by simp [Builtin.zeroCells, hzs]; omega), List.getElem?_eq_none (by omega)]
theorem clear_sound {P : Program} {Q : Exit → Act → World → Prop} {K : AV → List Ob → Prop} {next : Value → World → Prop} {o : Oper} {c : Call} {t : TypeId} {x : Operand} (ho : o.op = .call c) (hc : c.callee = .builtin .clear) (ha : c.args.toList = [x]) (ht : c.argTypes.toList = [t])
    (hr : Rel w0 σ hv S F a w) (h : vcClear P t (σ.opd x) σ.ob K) (hn : Ans w0 σ a K next) : Does P Q o a w next := by
  have ha' := arr1 ha
  have ht' := arr1 ht
  obtain ⟨⟨L, fx, hL⟩, hux⟩ := hr.arg x
  unfold vcClear at h
  split at h
  case h_2 => cases h
  rename_i i b0 m n hx
  split at h
  case h_2 => cases h
  rename_i e m' e' m2 s es hl hob
  obtain ⟨⟨rfl, rfl, hp, hle⟩, h⟩ := h
  split at h
  case h_2 => cases h
  rename_i z hz
  split at h
  case h_2 => cases h
  rename_i y ids hy
  obtain ⟨⟨hm0, hy1, hy2⟩, hK⟩ := h
  obtain ⟨hu, hm, inf, hinf⟩ := lay_sli hl
  have hz0 := own_lit (hv := hv) (w := w) _ _ hy (ofV_foot hv w z)
  obtain ⟨Lz, hzf, _⟩ := ownT_foot _ _ hz0
  have hzs : z.cells.size = m2 := by rw [(footT_cells hzf).1, hy1]
  rw [hx] at fx
  simp only [footA] at fx
  obtain ⟨vs, k1, k2, k3, k4⟩ := hr.ob i _ hob
  have hvl := elsR_length k2
  have run : ∀ {W : World}, (Builtin.clear_ #[t] o.type #[a.eval x]).run P w = .ok (.tuple #[]) W → (execOp a.eval o).run P w = .ok (.value (.tuple #[])) W := fun h => by
    simp [execOp, ho, resolve, hc, ha', ht', invoke, builtin, h]
  have fin : ∀ (hv' : Hv) (S' : Nat → Prop) (F' : Nat → List Nat) (W : World), Rel w0 { σ with ob := σ.ob.set i (.arr e' m2 (.own s) (es.take b0 ++ (List.replicate n y ++ es.drop (b0 + n)))) } hv' S' F' a W → next (.tuple #[]) W := fun hv' S' F' W hr' =>
    hn _ _ _ _ hv' S' F' [] hK hr' (by simp only [footA, footT]; exact ⟨[], rfl, by simp [footTs]⟩) (by simp) (by simp [AV.under])
  rcases fx.1 with ⟨rfl, A, c', q⟩ | ⟨g, k, c', c2, q1, q2, q3, q4⟩
  · have hes : es.take b0 ++ (List.replicate 0 y ++ es.drop (b0 + 0)) = es := by simp
    have hset : σ.ob.set i (.arr e' m2 (.own s) es) = σ.ob := by
      apply List.ext_getElem?
      intro j
      by_cases hj : i = j
      · subst hj; rw [List.getElem?_set_self (get_lt hob), hob]
      · rw [List.getElem?_set_ne hj]
    rw [hes, hset] at fin
    refine does_value (run (W := w) ?_) (fin hv S F w hr)
    rw [q]
    cases A <;> simp [Builtin.clear_, run_underlying hu]
  · by_cases hn0 : n = 0
    · subst hn0
      have hes : es.take b0 ++ (List.replicate 0 y ++ es.drop (b0 + 0)) = es := by simp
      have hset : σ.ob.set i (.arr e' m2 (.own s) es) = σ.ob := by
        apply List.ext_getElem?
        intro j
        by_cases hj : i = j
        · subst hj; rw [List.getElem?_set_self (get_lt hob), hob]
        · rw [List.getElem?_set_ne hj]
      rw [hes, hset] at fin
      refine does_value (run (W := w) ?_) (fin hv S F w hr)
      rw [q2]
      simp [Builtin.clear_, run_underlying hu]
    · have hus : ∀ v ∈ List.replicate n z, v.cells.size = m2 := fun v hv => by rw [(List.mem_replicate.1 hv).2]; exact hzs
      have huo : ones (cellsL (List.replicate n z)) := by
        intro u hu
        simp only [cellsL, List.mem_flatMap] at hu
        obtain ⟨v, hv, hu⟩ := hu
        rw [(List.mem_replicate.1 hv).2] at hu
        exact ones_cells hzf hy2 u hu
      obtain ⟨cs, r1, r2, r3, r4⟩ := row_span (P := P) (a := b0) (us := List.replicate n z) k1 q1 hvl.symm k3 k4.2 hus huo (by rw [List.length_replicate]; omega)
      rw [List.length_replicate] at r2 r3 r4
      have hroot : blkOf (hv i) = some g := by rw [q1]; rfl
      have hzv : (zeroValue (P.elem t)).run P w = .ok z w := by
        have hzz : inf.zero = some z := by simpa [zeroOf, hinf] using hz
        rw [elem_of hu]
        simp [zeroValue, typeInfo, hinf, hzz]
      refine does_value (run (W := w.setRow g cs) ?_) ?_
      · rw [q2]
        cases n with
        | zero => exact absurd rfl hn0
        | succ n =>
          rw [elem_of hu] at hzv
          simp [Builtin.clear_, run_underlying hu, hzv, zeroCells_eq hzs hm0, r1]
      · have hB2 : ∀ b, hv.B b → (w.setRow g cs).heap[b]? = w.heap[b]? := fun b hb => setRow_other w g b _ (fun e => (hr.root i _ hob (by simp) g hroot).2.2 (e ▸ hb))
        obtain ⟨L1, a1, a2, a3⟩ := k2
        obtain rfl := plainEs_own hp a1
        have hlen' : (es.take b0 ++ (List.replicate n y ++ es.drop (b0 + n))).length = es.length := by simp only [List.length_append, List.length_take, List.length_drop, List.length_replicate]; omega
        refine fin hv S F _ (hr.write hob (by simp) (w' := w.setRow g cs) (fun k hk => setRow_other w g k _ (fun e => hk (by rw [hroot, e]))) (by simp) rfl rfl rfl (Nat.le_refl _) rfl ⟨_, by rw [hlen']; exact r2, ⟨[], ?_, by simp, by simp⟩, r3, by rw [hlen']; exact ⟨k4.1, r4⟩⟩ (fun _ => rfl))
        have e1 : ownEs w s (es.take b0 ++ es.drop b0) vs [] := by rw [List.take_append_drop]; exact a1
        obtain ⟨v1, v2, M1, M2, hv1, hM, b1, b2⟩ := ownEs_split e1
        have e2 : ownEs w s ((es.drop b0).take n ++ (es.drop b0).drop n) v2 M2 := by rw [List.take_append_drop]; exact b2
        obtain ⟨v3, v4, M3, M4, hv2, hM2, b3, b4⟩ := ownEs_split e2
        have hl1 := ownEs_length b1
        have hl3 := ownEs_length b3
        rw [List.length_take] at hl1 hl3
        rw [List.length_drop] at hl3
        have hM1 : M1 = [] := plainEs_own hp b1
        have hM4 : M4 = [] := plainEs_own hp b4
        subst hM1 hM4
        rw [List.drop_drop] at b4
        have t1 : vs.take b0 = v1 := by rw [hv1, List.take_left' (by omega)]
        have t2 : vs.drop (b0 + n) = v4 := by rw [hv1, hv2, ← List.append_assoc, List.drop_left' (by rw [List.length_append]; omega)]
        rw [t1, t2]
        have hrep : ∀ k, ownEs w s (List.replicate k y) (List.replicate k z) [] := by
          intro k
          induction k with
          | zero => simp [ownEs]
          | succ k ih => simp only [List.replicate_succ, ownEs]; exact ⟨z, _, [], [], rfl, rfl, hz0, ih⟩
        have := ownEs_append b1 (ownEs_append (hrep n) b4)
        exact ownEs_mono s _ _ _ (by simp) this
end

noncomputable def vcOp (P : Program) (σ : St) (op : Op) (K : AV → List Ob → Prop) : Prop :=
  match op with
  | .box _ x => K (.rf σ.ob.length 0) (σ.ob ++ [.box (σ.opd x)])
  | .alloc t => match zeroOf P t with
    | some z => K (.rf σ.ob.length 0) (σ.ob ++ [.box (ofV z)])
    | none => False
  | .load t x => (vcLook P σ.ob σ.opd op fun r => K r σ.ob) ∨ vcOpen P t (σ.opd x) σ.tm σ.ob K
  | .store t p x => vcStore P t (σ.opd p) (σ.opd x) σ.ob K
  | .binOp op t x y _ => vcNb P op t (σ.opd x) (σ.opd y) fun r => K r σ.ob
  | .buildSlice t n parts => vcBuildSlice P t n (parts.toList.map (·.1)) (parts.toList.map fun p => σ.opd p.2) σ.ob K
  | .makeSlice t l c => vcMake P t (σ.opd l) (σ.opd c) σ.ob K
  | .mapUpdate t m k x => vcMapUpd P t (σ.opd m) (σ.opd k) (σ.opd x) σ.ob K
  | .makeMap t r => vcMakeMap P t (r.map σ.opd) σ.ob K
  | .range t x => vcRange P t (σ.opd x) σ.ob K
  | .slice t x none (some hi) none => vcSl3 P t (σ.opd x) (σ.opd hi) σ.ob K
  | .next x false => vcNext (σ.opd x) σ.ob K
  | .entry x => vcEntry (σ.opd x) σ.ob K
  | .call c => match c.callee, c.args.toList, c.argTypes.toList with
    | .builtin .delete, [m, k], t :: _ => vcDelete P t (σ.opd m) (σ.opd k) σ.ob K
    | .builtin .append, [s, x], [t, t'] => t = t' ∧ vcAppend P t (σ.opd s) (σ.opd x) σ.ob K
    | .builtin .clear, [x], [t] => vcClear P t (σ.opd x) σ.ob K
    | .value f, _, _ => vcCallO P (σ.opd f) (c.args.toList.map σ.opd) σ.tm σ.ob K
    | _, _, _ => vcLook P σ.ob σ.opd op fun r => K r σ.ob
  | op => vcLook P σ.ob σ.opd op fun r => K r σ.ob

def guardOf (all : Array Oper) (σ : St) (o : Oper) : Option Bool :=
  match o.guard with
  | none => some true
  | some (j, b) => match (all[j]?).bind (·.dst) with
    | some d => match getL σ.tm d with
      | .t (.b x) => some (x == b)
      | .ud => some false
      | _ => none
    | none => none

/-- the operation is done or left out, as its guard says -/
def vcGuard (all : Array Oper) (σ : St) (o : Oper) (Run Skip : St → Prop) : Prop :=
  match o.guard with
  | none => Run σ
  | some (j, b) => match (all[j]?).bind (·.dst) with
    | some d => match getL σ.tm d with
      | .t (.b x) => if x = true then (if b = true then Run (σ.set (some d) (.t (.b true))) else Skip (σ.set (some d) (.t (.b true))))
        else (if b = true then Skip (σ.set (some d) (.t (.b false))) else Run (σ.set (some d) (.t (.b false))))
      | .ud => Skip (σ.set (some d) .ud)
      | _ => False
    | none => False

def dstOk (n : Nat) : Option Nat → Prop
  | some d => d < n
  | none => True

noncomputable def vcOps (P : Program) (all : Array Oper) : List Oper → St → (St → Prop) → Prop
  | [], σ, K => K σ
  | o :: rest, σ, K => dstOk σ.n o.dst ∧ vcGuard all σ o (fun σ => vcOp P σ o.op fun x ob => vcOps P all rest (({ σ with ob := ob } : St).set o.dst x) K) (fun σ => vcOps P all rest (σ.set o.dst .ud) K)

/-- two ways to write one state -/
structure Eqv (σ σ' : St) : Prop where
  n : σ'.n = σ.n
  ob : σ'.ob = σ.ob
  tm : ∀ t, getL σ'.tm t = getL σ.tm t

theorem Eqv.refl (σ : St) : Eqv σ σ := ⟨rfl, rfl, fun _ => rfl⟩

theorem getL_set {σ : St} {d : Option Nat} {x : AV} {t : Nat} : getL (σ.set d x).tm t = if d = some t then x else getL σ.tm t := by
  cases d with
  | none => simp [St.set]
  | some d =>
    simp only [St.set, getL]
    by_cases h : t = d
    · subst h; simp
    · simp [h, Ne.symm h]

theorem set_n {σ : St} {d : Option Nat} {x : AV} : (σ.set d x).n = σ.n := by cases d <;> rfl
theorem set_ob {σ : St} {d : Option Nat} {x : AV} : (σ.set d x).ob = σ.ob := by cases d <;> rfl

theorem Eqv.set {σ σ' : St} (h : Eqv σ σ') (d : Option Nat) (x : AV) : Eqv (σ.set d x) (σ'.set d x) :=
  ⟨by rw [set_n, set_n, h.n], by rw [set_ob, set_ob, h.ob], fun t => by rw [getL_set, getL_set, h.tm]⟩

theorem Eqv.again {σ σ' : St} (h : Eqv σ σ') {d : Nat} {x : AV} (hx : getL σ.tm d = x) : Eqv σ (σ'.set (some d) x) :=
  ⟨by rw [set_n, h.n], by rw [set_ob, h.ob], fun t => by
    rw [getL_set, h.tm]
    split
    · rename_i e; cases e; exact hx.symm
    · rfl⟩

/-- one of the two, in a state that says the same -/
theorem vcGuard_sound {all : Array Oper} {σ σ' : St} {o : Oper} {Run Skip : St → Prop} (he : Eqv σ σ') (h : vcGuard all σ' o Run Skip) :
    (guardOf all σ o = some true ∧ ∃ σ'', Eqv σ σ'' ∧ Run σ'') ∨ (guardOf all σ o = some false ∧ ∃ σ'', Eqv σ σ'' ∧ Skip σ'') := by
  unfold vcGuard at h
  unfold guardOf
  cases hg : o.guard with
  | none =>
    rw [hg] at h
    exact .inl ⟨rfl, σ', he, h⟩
  | some p =>
    obtain ⟨j, b⟩ := p
    rw [hg] at h
    dsimp only at h ⊢
    cases hd : (all[j]?).bind (·.dst) with
    | none => rw [hd] at h; exact h.elim
    | some d =>
      rw [hd] at h
      dsimp only at h ⊢
      have hget := he.tm d
      split at h
      · rename_i x hx
        rw [hx] at hget
        rw [← hget]
        dsimp only
        cases x with
        | true =>
          rw [if_pos rfl] at h
          cases b with
          | true => rw [if_pos rfl] at h; exact .inl ⟨rfl, _, he.again hget.symm, h⟩
          | false => rw [if_neg (by simp)] at h; exact .inr ⟨rfl, _, he.again hget.symm, h⟩
        | false =>
          rw [if_neg (by simp)] at h
          cases b with
          | true => rw [if_pos rfl] at h; exact .inr ⟨rfl, _, he.again hget.symm, h⟩
          | false => rw [if_neg (by simp)] at h; exact .inl ⟨rfl, _, he.again hget.symm, h⟩
      · rename_i hx
        rw [hx] at hget
        rw [← hget]
        exact .inr ⟨rfl, _, he.again hget.symm, h⟩
      · cases h

section
variable {P : Program} {Q : Exit → Act → World → Prop} {w0 : Base} {σ : St} {hv : Hv} {S : Nat → Prop} {F : Nat → List Nat} {a : Act} {w : World}
  {K : AV → List Ob → Prop} {next : Value → World → Prop} {ob : List Ob}

theorem vcP_sound {e : Operand → AV} {K : AV → Prop} {o : Oper} {ρ : Operand → Value} (hob : Obs ob hv S F w) (harg : ∀ y ∈ o.op.operands, Arg hv S w ob.length (e y) (ρ y)) (h : vcP P ob e o.op K) : ∃ r, K r ∧ Yields1 P ob e o r := by
  unfold vcP at h
  split at h
  · rename_i t parts ho; exact build_sound ho h
  · rename_i t x ho; exact iface_sound ho h
  · rename_i s x f ho; exact fld_sound ho h
  · rename_i fn first xs ho; exact fn_sound ho h
  · rename_i t m k ok ho; exact lookup_sound ho hob harg h
  · rename_i op t x y r ho; exact bs_sound ho h
  · exact vcPure_sound hob harg h

/-- what is known of an operation that looks or calls -/
def Fact (P : Program) (ob : List Ob) (e : Operand → AV) (o : Oper) (x : AV) : Prop := Yields1 P ob e o x ∨ ∃ r, x = .t r ∧ CallsTo P ob e o r

theorem vcLook_sound {e : Operand → AV} {K : AV → Prop} {o : Oper} {ρ : Operand → Value} (hob : Obs ob hv S F w) (harg : ∀ y ∈ o.op.operands, Arg hv S w ob.length (e y) (ρ y)) (h : vcLook P ob e o.op K) : ∃ r, K r ∧ Fact P ob e o r := by
  unfold vcLook at h
  split at h
  · rename_i c ho
    split at h
    · rename_i f hc
      obtain ⟨r, h1, h2⟩ := call_sound ho hc h
      exact ⟨.t r, h1, .inr ⟨r, rfl, h2⟩⟩
    · rename_i f name hc
      obtain ⟨r, h1, h2⟩ := inv_sound ho hc h
      exact ⟨.t r, h1, .inr ⟨r, rfl, h2⟩⟩
    · obtain ⟨r, h1, h2⟩ := vcP_sound hob harg h
      exact ⟨r, h1, .inl h2⟩
  · obtain ⟨r, h1, h2⟩ := vcP_sound hob harg h
    exact ⟨r, h1, .inl h2⟩

/-- such an operation, done -/
theorem Fact.does {x : AV} {o : Oper} {e : Operand → AV} (hf : Fact P σ.ob e o x) (hr : Rel w0 σ hv S F a w) (he : ∀ y ∈ o.op.operands, Arg hv S w σ.ob.length (e y) (a.eval y))
    (hn : ∀ v w' (hv' : Hv) S', Rel w0 σ hv' S' F a w' → (∃ L, footA hv' w' x v L ∧ ∀ b ∈ L, S' b) → x.under σ.ob.length = true → next v w') : Does P Q o a w next := by
  rcases hf with hf | ⟨r, rfl, hf⟩
  · obtain ⟨v, h1, h2, h3⟩ := hf hr.obs he
    exact does_value h1 (hn v w hv S hr h2 h3)
  · obtain ⟨f, args, h1, h2⟩ := hf hr.obs hr.Blt hr.rootsIn he
    unfold Does Oper.wp
    rw [h1, Oper.upon_enter]
    refine h2.mono fun en w' hh => ?_
    obtain ⟨v, L', rfl, q1, q2, q3⟩ := hh
    exact ⟨v, rfl, hn v w' _ _ (hr.grow q3) ⟨L', by simpa only [footA] using q1, q2⟩ rfl⟩

theorem eqlIn_slice_nil {W : World} (d : Nat) {t e : TypeId} {A : Option Addr} {n c : Nat} (h : P.underlying t = some (.slice e)) :
    (Op.equalIn (d + 1) t (.slice A n c) (.slice none 0 0)).run P W = .ok A.isNone W := by
  cases A <;> simp [Op.equalIn, run_underlying h]
theorem eql_slice_nil {W : World} {t e : TypeId} {A : Option Addr} {n c : Nat} (h : P.underlying t = some (.slice e)) (op : BinOp) (hop : op = .eql ∨ op = .neq) :
    (Go.binOp op t (.slice A n c) (.slice none 0 0)).run P W = .ok (.bool (if op = .eql then A.isNone else !A.isNone)) W := by
  have h1 := eqlIn_slice_nil (P := P) (W := W) 9999 (A := A) (n := n) (c := c) h
  rcases hop with rfl | rfl
  · simp only [Go.binOp]
    simp [show Op.equal t (.slice A n c) (.slice none 0 0) = Op.equalIn (9999 + 1) t (.slice A n c) (.slice none 0 0) from rfl, h1]
  · simp only [Go.binOp]
    simp [show Op.equal t (.slice A n c) (.slice none 0 0) = Op.equalIn (9999 + 1) t (.slice A n c) (.slice none 0 0) from rfl, h1]
theorem nb_sound {o : Oper} {op : BinOp} {t : TypeId} {x y : Operand} {r : TypeId} (ho : o.op = .binOp op t x y r) (hr : Rel w0 σ hv S F a w) (h : vcNb P op t (σ.opd x) (σ.opd y) fun r => K r σ.ob) (look : vcBs P op t (σ.opd x) (σ.opd y) (fun r => K r σ.ob) → Does P Q o a w next) (hn : Ans w0 σ a K next) : Does P Q o a w next := by
  have go : ∀ {b : Bool} {A : Option Addr} {n c : Nat}, (∃ e m, lay P t = .sli e m) → a.eval x = .slice A n c → a.eval y = .slice none 0 0 → (op = .eql ∨ op = .neq) → b = (if op = .eql then A.isNone else !A.isNone) → K (.t (.b b)) σ.ob → Does P Q o a w next := by
    intro b A n c ⟨e, m, hl⟩ hx hy hop hb hk
    refine does_value (v := .bool b) (w' := w) ?_ (hn _ w (.t (.b b)) σ.ob hv S F [] hk hr (by simp [footA, footT]) (by simp) rfl)
    have := eql_slice_nil (P := P) (W := w) (A := A) (n := n) (c := c) (lay_sli hl).1 op hop
    rw [hb]
    rcases hop with rfl | rfl <;> simp [execOp, ho, hx, hy, this, eqGuard]
  have sl : ∀ {es : List T} {L : List Nat} {v : Value}, footT w (.sl es) v L → ∃ A n c, v = .slice A n c ∧ (A.isNone = true → es = []) := by
    intro es L v hf
    simp only [footT] at hf
    obtain ⟨A, c, rfl, _, _, h⟩ := hf
    refine ⟨A, _, c, rfl, fun hA => ?_⟩
    rcases h with h | ⟨b, off, vs, L', m, hA', _⟩
    · exact h.1
    · rw [hA'] at hA; cases hA
  have ops : ∀ {es : List T} {A : Option Addr} {n c : Nat}, (∃ e m, lay P t = .sli e m) → a.eval x = .slice A n c → a.eval y = .slice none 0 0 → (A.isNone = true → es = []) → nilK op (es = []) (fun b => K (.t (.b b)) σ.ob) → Does P Q o a w next := by
    intro es A n c hl hx hy hA hh
    unfold nilK at hh
    cases hAn : A.isNone with
    | true =>
      cases op <;> first
        | exact hh.elim
        | exact go hl hx hy (.inl rfl) (by simp [hAn]) (hh.1 (hA hAn))
        | exact go hl hx hy (.inr rfl) (by simp [hAn]) (hh.1 (hA hAn))
    | false =>
      cases op <;> first
        | exact hh.elim
        | exact go hl hx hy (.inl rfl) (by simp [hAn]) hh.2
        | exact go hl hx hy (.inr rfl) (by simp [hAn]) hh.2
  obtain ⟨Lx, hfx, hSx⟩ := (hr.opd x).1
  obtain ⟨Ly, hfy, _⟩ := (hr.opd y).1
  unfold vcNb at h
  split at h
  · rename_i es hx hy
    rw [hx] at hfx
    rw [hy] at hfy
    simp only [footA] at hfx hfy
    obtain ⟨A, n, c, e, hA⟩ := sl hfx
    exact ops h.1 e hfy.1 hA h.2
  · rename_i es hx hy
    rw [hx] at hfx
    rw [hy] at hfy
    simp only [footA] at hfx hfy
    obtain ⟨⟨L', hfx, _⟩, _⟩ := hfx
    obtain ⟨A, n, c, e, hA⟩ := sl hfx
    exact ops h.1 e hfy.1 hA h.2
  · rename_i hx hy
    rw [hx] at hfx
    rw [hy] at hfy
    simp only [footA] at hfx hfy
    obtain ⟨hl, h⟩ := h
    unfold nilN at h
    cases op <;> first
      | exact h.elim
      | exact go hl hfx.1 hfy.1 (.inl rfl) rfl h
      | exact go hl hfx.1 hfy.1 (.inr rfl) rfl h
  · exact look h

theorem vcOp_sound {o : Oper} (hr : Rel w0 σ hv S F a w) (h : vcOp P σ o.op K) (hn : Ans w0 σ a K next) : Does P Q o a w next := by
  have look : vcLook P σ.ob σ.opd o.op (fun r => K r σ.ob) → Does P Q o a w next := by
    intro h
    obtain ⟨r, h1, h2⟩ := vcLook_sound hr.obs (fun y _ => hr.arg y) h
    exact h2.does hr (fun y _ => hr.arg y) fun v w' hv' S' hr' ⟨L, f1, f2⟩ hu => hn v w' r σ.ob hv' S' F L h1 hr' f1 f2 hu
  unfold vcOp at h
  split at h
  · rename_i t x ho; exact box_sound ho hr h hn
  · rename_i t ho
    split at h
    · rename_i z hz; exact alloc_sound ho hr hz h hn
    · cases h
  · rename_i t x ho
    rcases h with h | h
    · exact look h
    · exact open_sound ho hr h hn
  · rename_i t p x ho
    cases hp : σ.opd p with
    | rf id off =>
      rw [hp] at h
      unfold vcStore at h
      dsimp only at h
      split at h
      · rename_i y hy
        obtain ⟨h1, h2, h3, h4, h5, hz, h6⟩ := h
        exact store_box_sound ho hr hp hy h1 h2 h3 h4 h5 hz h6 hn
      · cases h
    | ra id i m off => rw [hp] at h; exact store_ra_sound ho hr hp h hn
    | _ => rw [hp] at h; unfold vcStore at h; cases h
  · rename_i op t x y r ho
    exact nb_sound ho hr h (fun h => look (by rw [ho]; exact h)) hn
  · rename_i t n parts ho; exact buildSlice_sound ho hr h hn
  · rename_i t l c ho; exact make_sound ho hr h hn
  · rename_i t m k x ho; exact mapUpd_sound ho hr h hn
  · rename_i t r ho; exact makeMap_sound ho hr h hn
  · rename_i t x ho; exact range_sound ho hr h hn
  · rename_i t x hi ho
    unfold vcSl3 at h
    split at h
    · rename_i i hx; exact shrink_sound ho hx hr h hn
    · exact look (by rw [ho]; exact h)
  · rename_i x ho; exact next_sound ho hr h hn
  · rename_i x ho; exact entry_sound ho hr h hn
  · rename_i c ho
    split at h
    · rename_i m k t ts hc ha ht
      exact delete_sound ho hc ha ht hr h hn
    · rename_i s x t t' hc ha ht
      obtain ⟨rfl, h⟩ := h
      exact append_sound ho hc ha ht hr h hn
    · rename_i x t hc ha ht
      exact clear_sound ho hc ha ht hr h hn
    · rename_i f _ _ hc
      exact callO_sound ho hc hr h hn
    · exact look h
  · exact look h

theorem wanted_of {all : Array Oper} {o : Oper} {b : Bool} (hr : Rel w0 σ hv S F a w) (h : guardOf all σ o = some b) : Region.wanted o (yielded all a.tmps) = b := by
  unfold guardOf at h
  unfold Region.wanted
  cases hg : o.guard with
  | none => simp only [hg, Option.some.injEq] at h ⊢; exact h
  | some p =>
    obtain ⟨j, c⟩ := p
    simp only [hg] at h ⊢
    split at h
    · rename_i d hd
      obtain ⟨L, f1, f2⟩ := hr.tm d
      have hget : ∀ v, a.tmps.getD d undef = v → v ≠ undef → a.tmps[d]? = some v := by
        intro v h1 h2
        cases hq : a.tmps[d]? with
        | none => simp [hq] at h1; exact absurd h1.symm h2
        | some u => simp [hq] at h1; rw [h1]
      split at h
      · rename_i x hx
        rw [hx] at f1
        simp only [footA, footT] at f1
        simp only [Option.some.injEq] at h
        have := hget _ f1.1 (by intro hh; cases hh)
        simp only [yielded, hd, Option.bind_some, this]
        rw [← h]
        cases x <;> cases c <;> rfl
      · rename_i hx
        rw [hx] at f1
        simp only [footA] at f1
        simp only [Option.some.injEq] at h
        subst h
        have : yielded all a.tmps j = none := by
          simp only [yielded, hd, Option.bind_some]
          cases hq : a.tmps[d]? with
          | none => rfl
          | some u =>
            have hu : u = undef := by simpa [hq] using f1.1
            rw [hu]; rfl
        rw [this]; rfl
      · cases h
    · cases h

theorem Rel.tm_ext {σ' : St} (hr : Rel w0 σ hv S F a w) (he : Eqv σ σ') : Rel w0 σ' hv S F a w := by
  obtain ⟨n, tm, ob⟩ := σ'
  obtain ⟨hn, ho, ht⟩ := he
  simp only at hn ho ht
  subst hn ho
  exact { hr with size := hr.size, tm := fun t => by rw [ht]; exact hr.tm t, utm := fun t => by rw [ht]; exact hr.utm t }

theorem vcOps_sound {all : Array Oper} : ∀ (rest : List Oper) {σ : St} {hv : Hv} {S : Nat → Prop} {F : Nat → List Nat} {a : Act} {w : World} {K : St → Prop}, Rel w0 σ hv S F a w → vcOps P all rest σ K →
    (∀ σ' (hv' : Hv) S' F' a' w', K σ' → Rel w0 σ' hv' S' F' a' w' → Q .normal a' w') → wpList P all Q rest a w
  | [], σ, hv, S, F, a, w, K, hr, h, hQ => hQ σ hv S F a w h hr
  | o :: rest, σ, hv, S, F, a, w, K, hr, h, hQ => by
    obtain ⟨hd, h⟩ := h
    have hdk : ∀ σ', Eqv σ σ' → ∀ k, o.dst = some k → k < σ'.n := fun σ' he k hk => by rw [hk] at hd; rw [he.n]; exact hd
    rcases vcGuard_sound (Eqv.refl σ) h with ⟨hg, σ', he, h⟩ | ⟨hg, σ', he, h⟩
    · have hw := wanted_of hr hg
      have hr1 := hr.tm_ext he
      unfold wpList
      rw [if_pos hw]
      refine .inl ?_
      have := vcOp_sound (Q := Q) (next := fun v w' => wpList P all Q rest (a.put o.dst v) w') hr1 h (fun v w' x ob' hv' S' F' L hK hr' f1 f2 hu => by
        have hp := hr'.put (d := o.dst) f1 f2 hu (hdk σ' he)
        exact vcOps_sound rest hp hK hQ)
      unfold Does at this
      exact Oper.wp_mono (fun a' w' ⟨v, ha, hv⟩ => ha ▸ hv) this
    · have hw := wanted_of hr hg
      have hr1 := hr.tm_ext he
      unfold wpList
      rw [if_neg (by rw [hw]; simp)]
      exact vcOps_sound rest (hr1.put (d := o.dst) (x := .ud) (v := undef) (L := []) (by simp [footA]) (by simp) rfl (hdk σ' he)) h hQ

end

end Go.Proofs.Ythhgcklidfilfaa.BX
