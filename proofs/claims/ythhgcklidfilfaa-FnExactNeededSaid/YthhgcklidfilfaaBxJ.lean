/-
  A frame for proofs over whole functions, second make, tenth part: struct literals, stores into rows, pieces of rows.
-/
import Derived.Test.YthhgcklidfilfaaBxI
namespace Go.Proofs.Ythhgcklidfilfaa.BX
set_option linter.unusedSectionVars false
set_option linter.unusedSimpArgs false
set_option linter.unusedVariables false
open Go Go.RowKit
variable [Bd]

def AV.known : AV → Bool
  | .un => false
  | _ => true

/-- a struct literal: the fields that are given -/
def fillA (fs : List (Nat × Nat)) (cells : List AV) : List (Nat × AV) → Option (List AV)
  | [] => some cells
  | (i, x) :: rest => match fs[i]? with
    | some (off, n) => if x.cells.length = n ∧ off + n ≤ cells.length ∧ x.known = true then fillA fs (segA cells off x.cells) rest else none
    | none => none

def vcBuild (P : Program) (t : TypeId) (parts : List (Nat × AV)) (K : AV → Prop) : Prop :=
  match lay P t, zeroOf P t with
  | .st fs _, some z => match fillA fs (ofV z).cells parts with
    | some cells => (ofV z).known = true ∧ K (.ag cells)
    | none => False
  | _, _ => False

def vcStore (P : Program) (t : TypeId) (p x : AV) (ob : List Ob) (K : AV → List Ob → Prop) : Prop :=
  match p with
  | .rf id off => match ob[id]? with
    | some (.box y) => y ≠ .un ∧ x ≠ .un ∧ allOne x.cells = true ∧ P.cellsOf t = x.cells.length ∧ off + x.cells.length ≤ y.cells.length ∧ x.cells.length ≠ 0 ∧
        K .ud (ob.set id (.box (if off = 0 ∧ y.cells.length = x.cells.length ∧ x.isAg = y.isAg then x else .ag (segA y.cells off x.cells))))
    | _ => False
  | .ra id i m off => match ob[id]? with
    | some (.arr e m' k es) => (m = m' ∧ i < es.length) ∧ match mix ob k [x] with
      | some ([z], ids, k') => (ids.contains id = false ∧ nodupB ids = true) ∧ (T.allOne z.cells = true ∧ P.cellsOf t = z.cells.length ∧ z.cells.length ≠ 0) ∧ allAt es i fun y =>
        if off = 0 ∧ z.cells.length = m ∧ z.isAg = y.isAg then K .ud ((killAll ids ob).set id (.arr e m k' (es.set i z)))
        else (z.flat = true ∧ z.one = true ∧ off < m ∧ y.cells.length = m ∧ y.isAg = true ∧ ids = []) ∧ (match y.cells[off]? with | some c => c.flat = true ∧ c.one = true | none => False) ∧ K .ud (ob.set id (.arr e m k (es.set i (.ag (y.cells.set off z)))))
      | _ => False
    | _ => False
  | _ => False

section
variable {P : Program} {Q : Exit → Act → World → Prop} {w0 : Base} {σ : St} {hv : Hv} {S : Nat → Prop} {F : Nat → List Nat} {a : Act} {w : World}
  {K : AV → List Ob → Prop} {next : Value → World → Prop}

theorem footAs_append : ∀ {xs ys : List AV} {vs us : List Value} {L M : List Nat}, footAs hv w xs vs L → footAs hv w ys us M → footAs hv w (xs ++ ys) (vs ++ us) (L ++ M)
  | [], _, _, _, _, _, h, k => by simp only [footAs] at h; obtain ⟨rfl, rfl⟩ := h; simpa using k
  | x :: xs, ys, vs, us, L, M, h, k => by
    simp only [footAs] at h
    obtain ⟨v, vs', L1, L2, e, hL, h1, h2⟩ := h
    subst e hL
    simp only [List.cons_append, footAs]
    exact ⟨v, vs' ++ us, L1, L2 ++ M, rfl, by simp [List.append_assoc], h1, footAs_append h2 k⟩

theorem footAs_take : ∀ {xs : List AV} {vs : List Value} {L : List Nat} (k : Nat), footAs hv w xs vs L → ∃ L', footAs hv w (xs.take k) (vs.take k) L' ∧ ∀ b ∈ L', b ∈ L
  | [], vs, L, k, h => by simp only [footAs] at h; obtain ⟨rfl, rfl⟩ := h; exact ⟨[], by simp [footAs], by simp⟩
  | x :: xs, vs, L, 0, h => ⟨[], by simp [footAs], by simp⟩
  | x :: xs, vs, L, k + 1, h => by
    simp only [footAs] at h
    obtain ⟨v, vs', L1, L2, rfl, rfl, h1, h2⟩ := h
    obtain ⟨L', g1, g2⟩ := footAs_take k h2
    refine ⟨L1 ++ L', by simp only [List.take_succ_cons, footAs]; exact ⟨v, _, L1, L', rfl, rfl, h1, g1⟩, fun b hb => ?_⟩
    rcases List.mem_append.1 hb with hb | hb
    · exact List.mem_append_left _ hb
    · exact List.mem_append_right _ (g2 b hb)
theorem footAs_drop : ∀ {xs : List AV} {vs : List Value} {L : List Nat} (k : Nat), footAs hv w xs vs L → ∃ L', footAs hv w (xs.drop k) (vs.drop k) L' ∧ ∀ b ∈ L', b ∈ L
  | [], vs, L, k, h => by simp only [footAs] at h; obtain ⟨rfl, rfl⟩ := h; exact ⟨[], by simp [footAs], by simp⟩
  | x :: xs, vs, L, 0, h => ⟨L, by simpa using h, fun b hb => hb⟩
  | x :: xs, vs, L, k + 1, h => by
    simp only [footAs] at h
    obtain ⟨v, vs', L1, L2, rfl, rfl, h1, h2⟩ := h
    obtain ⟨L', g1, g2⟩ := footAs_drop k h2
    exact ⟨L', by simpa using g1, fun b hb => List.mem_append_right _ (g2 b hb)⟩

theorem cells_foots {x : AV} {v : Value} {L : List Nat} (hf : footA hv w x v L) (hk : x ≠ .un) (h1 : ∀ id, (hv id).oneCell' = true) : ∃ L', footAs hv w x.cells v.cells.toList L' ∧ ∀ b ∈ L', b ∈ L := by
  obtain ⟨c1, c2⟩ := footA_cells hf hk h1
  exact footAs_of_cells (hv := hv) (w := w) x.cells v.cells.toList L (by simpa using c1) (fun j y hj => by obtain ⟨u, L', q1, q2, q3⟩ := c2 j y hj; exact ⟨u, L', by simpa using q1, q2, q3⟩)

theorem known_ne {x : AV} (h : x.known = true) : x ≠ .un := by rintro rfl; simp [AV.known] at h

theorem fill_sound (h1 : ∀ id, (hv id).oneCell' = true) {fs : List (Nat × Nat)} {n : Nat} : ∀ (parts : List (Nat × AV)) (vparts : List (Nat × Value)) {cells out : List AV} {vcells : Array Value} {L : List Nat},
    fillA fs cells parts = some out → footAs hv w cells vcells.toList L → (∀ b ∈ L, S b) → unders n cells = true →
    vparts.map (·.1) = parts.map (·.1) → (∀ (j : Nat) x, parts[j]? = some x → ∃ v, vparts[j]? = some v ∧ Arg hv S w n x.2 v.2) →
    ∃ vout L', Instr.fill (fs[·]?) vcells vparts = some vout ∧ footAs hv w out vout.toList L' ∧ (∀ b ∈ L', S b) ∧ unders n out = true
  | [], vparts, cells, out, vcells, L, h, hf, hL, hu, hm, _ => by
    simp only [fillA, Option.some.injEq] at h
    subst h
    have : vparts = [] := by simpa using hm
    subst this
    exact ⟨vcells, L, rfl, hf, hL, hu⟩
  | (i, x) :: parts, vparts, cells, out, vcells, L, h, hf, hL, hu, hm, hp => by
    cases vparts with
    | nil => simp at hm
    | cons pv vparts =>
      obtain ⟨iv, v⟩ := pv
      simp only [List.map_cons, List.cons.injEq] at hm
      obtain ⟨rfl, hm⟩ := hm
      obtain ⟨v', hv', ⟨⟨Lx, fx, hLx⟩, hux⟩⟩ := hp 0 (iv, x) rfl
      simp only [List.getElem?_cons_zero, Option.some.injEq] at hv'
      subst hv'
      simp only [fillA] at h
      split at h
      · rename_i off m hfs
        split at h
        · rename_i hc
          obtain ⟨hc1, hc2, hc3⟩ := hc
          have hk := known_ne hc3
          obtain ⟨c1, _⟩ := footA_cells fx hk h1
          obtain ⟨Lc, g1, g2⟩ := cells_foots fx hk h1
          have hlen := footAs_length hf
          obtain ⟨La, a1, a2⟩ := footAs_take off hf
          obtain ⟨Lb, b1, b2⟩ := footAs_drop (off + m) hf
          rw [fill_one (v := v) hfs (by rw [c1, hc1]) (by rw [← Array.length_toList, hlen]; exact hc2)]
          refine fill_sound h1 parts vparts h (L := La ++ Lc ++ Lb) ?_ ?_ ?_ hm (fun j x hj => by simpa using hp (j + 1) x (by simpa using hj))
          · simp only [segA, hc1]
            exact footAs_append (footAs_append a1 g1) b1
          · intro b hb
            simp only [List.mem_append] at hb
            rcases hb with (hb | hb) | hb
            · exact hL b (a2 b hb)
            · exact hLx b (g2 b hb)
            · exact hL b (b2 b hb)
          · refine unders_of fun z hz => ?_
            simp only [segA, List.mem_append] at hz
            rcases hz with (hz | hz) | hz
            · exact unders_mem hu (List.mem_of_mem_take hz)
            · exact AV.under_cells hux z hz
            · exact unders_mem hu (List.mem_of_mem_drop hz)
        · cases h
      · cases h

theorem places_some : ∀ (fs : List Field), fs.all (fun f => (P.info? f.type).isSome) = true → fs.mapM (fun f => (P.info? f.type).map fun i => (f.offset, i.size)) = some (fs.map fun f => (f.offset, P.cellsOf f.type))
  | [], _ => by simp
  | f :: fs, h => by
    simp only [List.all_cons, Bool.and_eq_true] at h
    obtain ⟨i, hi⟩ := Option.isSome_iff_exists.1 h.1
    simp [List.mapM_cons, hi, places_some fs h.2, Program.cellsOf]

theorem build_sound {ob : List Ob} {e : Operand → AV} {K : AV → Prop} {o : Oper} {t : TypeId} {parts : Array (Nat × Operand)} (ho : o.op = .build t parts) (h : vcBuild P t (parts.toList.map fun p => (p.1, e p.2)) K) : ∃ r, K r ∧ Yields1 P ob e o r := by
  unfold vcBuild at h
  split at h
  · rename_i fs m z hl hz
    split at h
    · rename_i cells hfill
      obtain ⟨hk, h⟩ := h
      refine ⟨_, h, ?_⟩
      intro hv S F w ρ hob harg
      obtain ⟨fields, hu, hfs, hm, hall⟩ := lay_st hl
      obtain ⟨Lz, z1, z2⟩ := cells_foots (ofV_foot hv w z) (known_ne hk) hob.one
      have hLz : Lz = [] := List.eq_nil_iff_forall_not_mem.2 fun b hb => by have := z2 b hb; cases this
      subst hLz
      obtain ⟨vout, L', f1, f2, f3, f4⟩ := fill_sound (hv := hv) (w := w) (S := S) (n := ob.length) hob.one _ (parts.map fun (p : Nat × Operand) => (p.1, ρ p.2)).toList hfill z1 (by simp)
        (unders_of fun y hy => AV.under_cells (ofV_under _ z) y hy) (by simp) (fun j x hj => by
          simp only [List.getElem?_map, Option.map_eq_some_iff] at hj
          obtain ⟨p, hp, rfl⟩ := hj
          refine ⟨(p.1, ρ p.2), by simp only [Array.toList_map, List.getElem?_map, hp, Option.map_some], harg p.2 ?_⟩
          rw [ho]
          simp only [Op.operands, List.mem_toArray, List.mem_map]
          exact ⟨p, List.mem_of_getElem? hp, rfl⟩)
      have hb : P.built t (parts.map fun (p : Nat × Operand) => (p.1, ρ p.2)).toList = some vout := by
        unfold Program.built
        obtain ⟨it, hit⟩ := info_of_underlying hu
        have hzt : it.zero = some z := by simpa [zeroOf, hit] using hz
        simp only [hit, hu, hzt, places_some _ hall]
        rw [hfs] at f1
        simpa using f1
      refine ⟨.agg vout, ?_, ⟨L', by simp only [footA]; exact ⟨vout.toList, by simp, f2⟩, f3⟩, by simpa only [AV.under] using f4⟩
      have := run_build (P := P) w t (parts.map fun (p : Nat × Operand) => (p.1, ρ p.2)) vout hb
      simp only [execOp, ho, Sem.run_bind, this, Result.andThen_ok, Sem.run_pure]
    · cases h
  · cases h

theorem set_split {α : Type} (l : List α) (i : Nat) (u v : α) (h : l[i]? = some u) : l = l.take i ++ u :: l.drop (i + 1) ∧ l.set i v = l.take i ++ v :: l.drop (i + 1) := by
  have hi : i < l.length := (List.getElem?_eq_some_iff.1 h).1
  have hu : l[i] = u := (List.getElem?_eq_some_iff.1 h).2
  constructor
  · rw [← hu, ← List.drop_eq_getElem_cons hi, List.take_append_drop]
  · rw [List.set_eq_take_append_cons_drop, if_pos hi]

/-- as 'footTs_set', where the new piece lies in memory -/
theorem footTs_set' {w : World} : ∀ {xs : List T} {vs : List Value} {L : List Nat} (_ : footTs w xs vs L) {i : Nat} {z : T} {v : Value} {M : List Nat} (_ : footT w z v M), i < xs.length → ∃ L', footTs w (xs.set i z) (vs.set i v) L' ∧ ∀ b ∈ L', b ∈ L ∨ b ∈ M
  | [], _, _, _, i, _, _, _, _, hi => by simp at hi
  | x :: xs, vs, L, h, 0, z, v, M, hz, _ => by
    simp only [footTs] at h
    obtain ⟨u, vs', L1, L2, rfl, rfl, h1, h2⟩ := h
    exact ⟨M ++ L2, by simp only [List.set_cons_zero, footTs]; exact ⟨v, vs', M, L2, rfl, rfl, hz, h2⟩, fun b hb => (List.mem_append.1 hb).elim .inr fun h => .inl (List.mem_append_right _ h)⟩
  | x :: xs, vs, L, h, i + 1, z, v, M, hz, hi => by
    simp only [footTs] at h
    obtain ⟨u, vs', L1, L2, rfl, rfl, h1, h2⟩ := h
    obtain ⟨L', g1, g2⟩ := footTs_set' h2 (i := i) hz (by simpa using hi)
    exact ⟨L1 ++ L', by simp only [List.set_cons_succ, footTs]; exact ⟨u, _, L1, L', rfl, rfl, h1, g1⟩, fun b hb => (List.mem_append.1 hb).elim (fun h => .inl (List.mem_append_left _ h)) fun h => (g2 b h).imp (fun h => List.mem_append_right _ h) id⟩

theorem take_three {α : Type} (X U Y : List α) (k : Nat) (h : k ≤ U.length) : (X ++ U ++ Y).take (X.length + k) = X ++ U.take k := by
  rw [List.append_assoc, List.take_append, List.take_of_length_le (by omega), Nat.add_sub_cancel_left, List.take_append_of_le_length h]
theorem drop_three {α : Type} (X U Y : List α) (k : Nat) (h : k ≤ U.length) : (X ++ U ++ Y).drop (X.length + k) = U.drop k ++ Y := by
  rw [List.append_assoc, List.drop_append, List.drop_eq_nil_of_le (by omega), Nat.add_sub_cancel_left, List.nil_append, List.drop_append_of_le_length h]


/-- the memory behind a store into a row -/
theorem row_write {t e : TypeId} {m n i off : Nat} {h : Value} {vs : List Value} {u V u' : Value} {g len cap : Nat} (hrow : w.ownsRow 0 e m h n (cellsL vs)) (hh : h = .slice (some ⟨g, 0, none⟩) len cap) (hn : n = vs.length) (hvs : ∀ v ∈ vs, v.cells.size = m) (h1 : ones (cellsL vs))
    (hu : vs[i]? = some u) (hV : ones V.cells.toList) (hs : P.cellsOf t = V.cells.size) (h0 : V.cells.size ≠ 0) (hoff : off + V.cells.size ≤ m) (hu' : u'.cells.toList = u.cells.toList.take off ++ V.cells.toList ++ u.cells.toList.drop (off + V.cells.size)) :
    ∃ cs : Array Value, (storeVar t ⟨g, i * m + off, none⟩ V).run P w = .ok () (w.setRow g cs) ∧ (w.setRow g cs).ownsRow 0 e m h n (cellsL (vs.set i u')) ∧ (∀ v ∈ vs.set i u', v.cells.size = m) ∧ ones (cellsL (vs.set i u')) := by
  have hi : i < vs.length := get_lt hu
  obtain ⟨q1, q2⟩ := hrow
  rcases q2 with ⟨q2, _⟩ | ⟨g', cap', cur, q3, q4, q5, q6, q7, q8, q9⟩
  · rw [hh] at q2; cases q2
  rw [hh] at q3
  simp only [Value.slice.injEq, Option.some.injEq, Addr.mk.injEq, and_true] at q3
  obtain ⟨rfl, rfl, rfl⟩ := q3
  obtain ⟨inf, hinf⟩ := info_of_cellsOf (P := P) (t := t) (by rw [hs]; exact h0)
  have hum : u.cells.toList.length = m := by rw [Array.length_toList]; exact hvs u (List.mem_of_getElem? hu)
  have hVl : V.cells.toList.length = V.cells.size := Array.length_toList
  obtain ⟨sp1, _⟩ := set_split vs i u u hu
  have hX : (cellsL (vs.take i)).length = i * m := by
    rw [cellsL_length _ (fun v hv => hvs v (List.mem_of_mem_take hv)), List.length_take, Nat.min_eq_left (by omega)]
  have hC : cellsL vs = cellsL (vs.take i) ++ u.cells.toList ++ cellsL (vs.drop (i + 1)) := by
    conv => lhs; rw [sp1]
    simp [cellsL]
  have hcur : cur.toList = cellsL vs ++ cur.toList.drop (len * m) := by
    rw [← q9, List.take_append_drop]
  have hsm : (len * m) = (cellsL vs).length := q1.symm
  have hsz : i * m + off + V.cells.size ≤ cur.size := by
    have : (cellsL vs).length ≤ cur.size := by rw [← Array.length_toList, hcur]; simp
    have h2 : i * m + m ≤ (cellsL vs).length := by rw [← hsm, ← Nat.succ_mul]; exact Nat.mul_le_mul_right _ (by omega)
    omega
  have hrun := run_storeVar_at (P := P) (w := w) (g := g) (off := i * m + off) (cur := cur) hinf q5 hs hsz hV
  have hu's : u'.cells.size = m := by
    rw [← Array.length_toList, hu']
    simp only [List.length_append, List.length_take, List.length_drop, hum, hVl]; omega
  obtain ⟨_, sp2⟩ := set_split vs i u u' hu
  have hC' : cellsL (vs.set i u') = cellsL (vs.take i) ++ u'.cells.toList ++ cellsL (vs.drop (i + 1)) := by
    rw [sp2]; simp [cellsL]
  have hnew : (cur.toList.take (i * m + off) ++ V.cells.toList ++ cur.toList.drop (i * m + off + V.cells.size)) = cellsL (vs.set i u') ++ cur.toList.drop (len * m) := by
    rw [hC', hu']
    conv => lhs; rw [hcur, hC]
    rw [← hX, List.append_assoc (cellsL (vs.take i) ++ u.cells.toList), take_three _ _ _ off (by omega)]
    rw [show (cellsL (vs.take i)).length + off + V.cells.size = (cellsL (vs.take i)).length + (off + V.cells.size) by omega, drop_three _ _ _ (off + V.cells.size) (by omega)]
    simp [List.append_assoc]
  have hvs' : ∀ v ∈ vs.set i u', v.cells.size = m := fun v hv => by
    rcases List.mem_or_eq_of_mem_set hv with hv | rfl
    · exact hvs v hv
    · exact hu's
  have hones : ones (cellsL (vs.set i u')) := by
    rw [hC']
    intro c hc
    simp only [List.mem_append] at hc
    have hin : ∀ c, c ∈ cellsL (vs.take i) ∨ c ∈ u.cells.toList ∨ c ∈ cellsL (vs.drop (i + 1)) → c.oneCell' = true := fun c hc => h1 c (by
      rw [hC]; simp only [List.mem_append]
      rcases hc with hc | hc | hc
      · exact .inl (.inl hc)
      · exact .inl (.inr hc)
      · exact .inr hc)
    rcases hc with (hc | hc) | hc
    · exact hin c (.inl hc)
    · rw [hu'] at hc
      simp only [List.mem_append] at hc
      rcases hc with (hc | hc) | hc
      · exact hin c (.inr (.inl (List.mem_of_mem_take hc)))
      · exact hV c hc
      · exact hin c (.inr (.inl (List.mem_of_mem_drop hc)))
    · exact hin c (.inr (.inr hc))
  rw [hnew] at hrun
  refine ⟨_, hrun, ⟨by rw [cellsL_length _ hvs', List.length_set, hn], .inr ⟨g, cap, _, hh, q4, setRow_heap w g cur _ e _ q5, q6, q7, ?_, ?_⟩⟩, hvs', hones⟩
  · simp only [List.size_toArray, List.length_append, List.length_drop, Array.length_toList, q8]
    rw [cellsL_length _ hvs', List.length_set, ← hn]
    have : len * m ≤ cap * m := Nat.mul_le_mul_right _ q6
    omega
  · simp only [List.toList_toArray]
    rw [List.take_append_of_le_length (by rw [cellsL_length _ hvs', List.length_set, hn]; exact Nat.le_refl _), List.take_of_length_le (by rw [cellsL_length _ hvs', List.length_set, hn]; exact Nat.le_refl _)]

/-- an object is laid anew, in the same root -/
theorem Rel.reset (hr : Rel w0 σ hv S F a w) {id : Nat} {o o' : Ob} (hid : σ.ob[id]? = some o) (hd : o ≠ .dead) {S1 : Nat → Prop} (hr1 : Rel w0 { σ with ob := σ.ob.set id .dead } hv S1 F a w) {w' : World}
    (hw : ∀ k, blkOf (hv id) ≠ some k → w'.heap[k]? = w.heap[k]?) (hsz : w'.heap.size = w.heap.size) (hos : w'.os = w.os) (htp : w'.tape = w.tape) (hout : w'.output = w.output) (hdr : w.drawn ≤ w'.drawn)
    (hu : o'.under σ.ob.length = true) {Fi : List Nat} (ho' : ObR hv S1 w' Fi (hv id) o') (hfree : o'.owns = true → Free w0 (σ.ob.set id .dead) hv S1 F Fi) :
    Rel w0 { σ with ob := σ.ob.set id o' } hv S1 (fun j => if j = id then Fi else F j) a w' := by
  have hB : ∀ b, hv.B b → w'.heap[b]? = w.heap[b]? := fun b hb => hw b fun e => (hr.root id o hid hd b e).2.2 hb
  have hother : ∀ i oi, i ≠ id → σ.ob[i]? = some oi → oi ≠ .dead → ∀ b, blkOf (hv i) = some b → w'.heap[b]? = w.heap[b]? := fun i oi hi ho hd' b hb => hw b fun e => hr.sep i id oi o hi ho hid hd' hd b hb e
  have one : ∀ {i : Nat} {oi : Ob}, i ≠ id → σ.ob[i]? = some oi → (σ.ob.set id .dead)[i]? = some oi := fun h1 h2 => by rw [List.getElem?_set_ne (Ne.symm h1)]; exact h2
  have hl : (σ.ob.set id Ob.dead).length = σ.ob.length := List.length_set ..
  refine { size := hr1.size, defs := hr1.defs, tm := fun t => ?_, utm := fun t => by simpa using hr.utm t, ob := fun i oi hi => ?_, uob := fun i oi hi => ?_, root := fun i oi hi hdi b hb => ?_, sep := fun i j oi oj hij hi hj di dj b hb => ?_, SB := hr1.SB, Blt := fun b hb => by rw [hsz]; exact hr1.Blt b hb, Bin := hr1.Bin, fown := fun i oi hi hoi => ?_, fsep := fun i j oi oj hij hi hj hoi hoj b hb => ?_, below := ?_, one := hr1.one, an := by simpa using hr.an, av := hr1.av }
  · obtain ⟨L, h1, h2⟩ := hr1.tm t
    exact ⟨L, footA_mono hB _ _ L (fun b hb => hB b (hr1.SB b (h2 b hb))) h1, h2⟩
  · rcases set_get hi with ⟨rfl, rfl⟩ | ⟨hne, hi'⟩
    · simpa only [if_true] using ho'
    · simp only [hne, if_false]
      by_cases hdd : oi = .dead
      · subst hdd; trivial
      · exact (hr1.ob i oi (one hne hi')).mono (hr1.uob i oi (one hne hi')) (fun _ _ => rfl) (fun b hb => ⟨hb, hB b (hr1.SB b hb)⟩) (fun b hb => ⟨hb, hB b hb⟩) (fun hoi b hb => hB b (hr1.fown i oi (one hne hi') hoi b hb).2.1) (hother i oi hne hi' hdd)
  · show oi.under (σ.ob.set id o').length = true
    rw [List.length_set]
    rcases set_get hi with ⟨rfl, rfl⟩ | ⟨_, hi'⟩
    · exact hu
    · exact hr.uob i oi hi'
  · rw [hsz]
    rcases set_get hi with ⟨rfl, rfl⟩ | ⟨_, hi'⟩
    · exact hr.root i o hid hd b hb
    · exact hr.root i oi hi' hdi b hb
  · rcases set_get hi with ⟨rfl, rfl⟩ | ⟨hne, hi'⟩
    · rcases set_get hj with ⟨rfl, _⟩ | ⟨_, hj'⟩
      · exact absurd rfl hij
      · exact hr.sep i j o oj hij hid hj' hd dj b hb
    · rcases set_get hj with ⟨rfl, rfl⟩ | ⟨_, hj'⟩
      · exact hr.sep i j oi o hij hi' hid di hd b hb
      · exact hr.sep i j oi oj hij hi' hj' di dj b hb
  · rcases set_get hi with ⟨rfl, rfl⟩ | ⟨hne, hi'⟩
    · simp only [if_true]
      exact fun b hb => ⟨(hfree hoi b hb).1, (hfree hoi b hb).2.1, (hfree hoi b hb).2.2.1⟩
    · simp only [hne, if_false]
      exact hr1.fown i oi (one hne hi') hoi
  · rcases set_get hi with ⟨rfl, rfl⟩ | ⟨hne, hi'⟩
    · simp only [if_true] at hb
      rcases set_get hj with ⟨rfl, _⟩ | ⟨hne', hj'⟩
      · exact absurd rfl hij
      · simp only [hne', if_false]
        exact (hfree hoi b hb).2.2.2 j oj (one hne' hj') hoj
    · simp only [hne, if_false] at hb
      rcases set_get hj with ⟨rfl, rfl⟩ | ⟨hne', hj'⟩
      · simp only [if_true]
        exact fun hh => (hfree hoj b hh).2.2.2 i oi (one hne hi') hoi hb
      · simp only [hne', if_false]
        exact hr1.fsep i j oi oj hij (one hne hi') (one hne' hj') hoi hoj b hb
  · refine hr.below.trans ⟨hos, htp, hout, by omega, fun k hk hm => hw k fun e => ?_, hdr⟩
    rcases (hr.root id o hid hd k e).1 with h' | h'
    · exact hm h'
    · omega

theorem ownEs_set {s : Sh} {xs : List T} {vs : List Value} {L : List Nat} (h : ownEs w s xs vs L) {i : Nat} (hi : i < xs.length) : ∃ L1 L2 L3 : List Nat, L = L1 ++ L2 ++ L3 ∧
    ∀ {z : T} {v : Value} {M : List Nat}, ownT w s z v M → ownEs w s (xs.set i z) (vs.set i v) (L1 ++ M ++ L3) := by
  have hvl := ownEs_length h
  obtain ⟨sp, _⟩ := set_split xs i xs[i] xs[i] (List.getElem?_eq_getElem hi)
  rw [sp] at h
  obtain ⟨v1, v2, L1, L4, e1, e2, h1, h2⟩ := ownEs_split h
  simp only [ownEs] at h2
  obtain ⟨u, v3, L2, L3, rfl, rfl, h3, h4⟩ := h2
  refine ⟨L1, L2, L3, by rw [e2, List.append_assoc], ?_⟩
  intro z v M hz
  have hl1 := ownEs_length h1
  rw [List.length_take, Nat.min_eq_left (by omega)] at hl1
  obtain ⟨_, sp2⟩ := set_split xs i xs[i] z (List.getElem?_eq_getElem hi)
  have : vs.set i v = v1 ++ v :: v3 := by
    rw [e1, List.set_append_right _ _ (by omega), hl1, Nat.sub_self, List.set_cons_zero]
  rw [sp2, this, List.append_assoc]
  refine ownEs_append h1 ?_
  simp only [ownEs]
  exact ⟨v, v3, M, L3, rfl, rfl, hz, h4⟩

/-- one of the elements is another now -/
theorem Lies.set (hr : Rel w0 σ hv S F a w) {i : Nat} {e : TypeId} {m j : Nat} {k k' : Kind} {es : List T} {z : T} {vs : List Value} {v : Value} (hi : σ.ob[i]? = some (.arr e m k es)) (hj : j < es.length) (h1 : elsR hv S w (F i) k es vs) (h2 : Lies w0 σ.ob hv S F w k' [z] [v]) (hk : k'.isOwn = true → k' = k) (hk2 : k = .bor → k' = .bor) :
    ∃ S', (∀ b, S b → S' b) ∧ Rel w0 { σ with ob := σ.ob.set i .dead } hv S' F a w ∧ Lies w0 (σ.ob.set i .dead) hv S' F w k' (es.set j z) (vs.set j v) := by
  have hr1 := hr.drop i
  obtain ⟨Fi, g1, g2⟩ := h2
  have one : ∀ {L : List Nat}, footTs w [z] [v] L → footT w z v L := by
    intro L h
    simp only [footTs] at h
    obtain ⟨v', vs', L1, L2, e1, rfl, f1, rfl, rfl⟩ := h
    cases e1
    simpa using f1
  cases k' with
  | own s =>
    obtain rfl := hk rfl
    obtain ⟨L1, a1, a2, a3⟩ := h1
    obtain ⟨L2, c1, c2, c3⟩ := g1
    have c1' : ownT w s z v L2 := by
      simp only [ownEs] at c1
      obtain ⟨v', vs', M1, M2, e1, rfl, f1, rfl, rfl⟩ := c1
      cases e1
      simpa using f1
    obtain ⟨A, B, C, rfl, hset⟩ := ownEs_set a1 hj
    refine ⟨S, fun b hb => hb, hr1, F i ++ Fi, ⟨A ++ L2 ++ C, hset c1', ?_, fun b hb => ?_⟩, fun _ b hb => ?_⟩
    · have dis : ∀ b, b ∈ A ++ B ++ C → b ∈ L2 → False := fun b hb hb' => (g2 rfl b (c3 b hb')).2.2.2 i _ hi rfl (a3 b hb)
      obtain ⟨n1, n2, n3⟩ := List.nodup_append.1 a2
      obtain ⟨n4, n5, n6⟩ := List.nodup_append.1 n1
      refine List.nodup_append.2 ⟨List.nodup_append.2 ⟨n4, c2, fun b hb b' hb' e => ?_⟩, n2, fun b hb b' hb' e => ?_⟩
      · subst e; exact dis b (by simp [hb]) hb'
      · subst e
        rcases List.mem_append.1 hb with hb | hb
        · exact n3 b (List.mem_append_left _ hb) b hb' rfl
        · exact dis b (by simp [hb']) hb
    · simp only [List.mem_append] at hb ⊢
      rcases hb with (hb | hb) | hb
      · exact .inl (a3 b (by simp [hb]))
      · exact .inr (c3 b hb)
      · exact .inl (a3 b (by simp [hb]))
    · rcases List.mem_append.1 hb with hb | hb
      · obtain ⟨q1, q2, q3⟩ := hr.fown i _ hi rfl b hb
        refine ⟨q1, q2, q3, fun j oj hj hoj hbj => ?_⟩
        rcases set_get hj with ⟨_, rfl⟩ | ⟨hne, hj2⟩
        · cases hoj
        · exact hr.fsep i j _ oj (Ne.symm hne) hi hj2 rfl hoj b hb hbj
      · obtain ⟨q1, q2, q3, q4⟩ := g2 rfl b hb
        refine ⟨q1, q2, q3, fun j oj hj hoj => ?_⟩
        rcases set_get hj with ⟨_, rfl⟩ | ⟨_, hj2⟩
        · cases hoj
        · exact q4 j oj hj2 hoj
  | bor =>
    obtain ⟨L1, a1, a2⟩ := elsR_foot h1 (fun hk b hb => (hr.fown i _ hi (by cases k <;> first | rfl | cases hk) b hb).2.1)
    obtain ⟨L2, c1, c2⟩ := g1
    obtain ⟨L', s1, s2⟩ := footTs_set' a1 (i := j) (one c1) hj
    refine ⟨S, fun b hb => hb, hr1, [], ⟨L', s1, fun b hb => ?_⟩, fun h => by cases h⟩
    rcases s2 b hb with hb | hb
    · have := a2 b hb
      cases k <;> first | exact this | exact hr.SB b this
    · exact c2 b hb
  | clo =>
    obtain ⟨L2, c1, c2⟩ := g1
    have : ∃ S', (∀ b, S b → S' b) ∧ Rel w0 { σ with ob := σ.ob.set i .dead } hv S' F a w ∧ (k = .bor ∨ ∃ L1, footTs w es vs L1 ∧ ∀ b ∈ L1, S' b) := by
      cases k with
      | bor => exact ⟨S, fun b hb => hb, hr1, .inl rfl⟩
      | clo => obtain ⟨L1, a1, a2⟩ := h1; exact ⟨S, fun b hb => hb, hr1, .inr ⟨L1, a1, a2⟩⟩
      | own s =>
        obtain ⟨L1, a1, a2, a3⟩ := h1
        obtain ⟨L3, f1, f2⟩ := ownEs_foot s es a1
        refine ⟨fun b => S b ∨ b ∈ F i, fun b hb => .inl hb, hr1.moreS (fun b hb => .inl hb) (fun b hb => hb.elim (hr.SB b) fun hb => (hr.fown i _ hi rfl b hb).2.1) (fun j oj hj hoj b hb hh => ?_), .inr ⟨L3, f1, fun b hb => .inr (a3 b (f2 b hb))⟩⟩
        rcases set_get hj with ⟨_, rfl⟩ | ⟨hne, hj2⟩
        · cases hoj
        · rcases hh with hh | hh
          · exact (hr.fown j oj hj2 hoj b hb).2.2 hh
          · exact hr.fsep j i oj _ hne hj2 hi hoj rfl b hb hh
    obtain ⟨S', s1, hr2, h⟩ := this
    rcases h with rfl | ⟨L1, a1, a2⟩
    · cases hk2 rfl
    · obtain ⟨L', t1, t2⟩ := footTs_set' a1 (i := j) (one c1) hj
      exact ⟨S', s1, hr2, [], ⟨L', t1, fun b hb => (t2 b hb).elim (a2 b) (fun h => s1 b (c2 b h))⟩, fun h => by cases h⟩

theorem mix_kind {ob : List Ob} {k k' : Kind} {xs : List AV} {ys : List T} {ids : List Nat} (h : mix ob k xs = some (ys, ids, k')) : (k'.isOwn = true → k' = k) ∧ (k = .bor → k' = .bor) := by
  unfold mix at h
  cases k <;> simp only at h <;> (repeat' split at h) <;> simp only [Option.some.injEq, Prod.mk.injEq, reduceCtorEq] at h <;> (try obtain ⟨_, _, rfl⟩ := h) <;> first | exact ⟨fun _ => rfl, fun h => h⟩ | exact ⟨(fun h => by cases h), (fun h => by first | rfl | cases h)⟩ | cases h

theorem footTs_setflat : ∀ {xs : List T} {vs : List Value} {L : List Nat} (_ : footTs w xs vs L) {i : Nat} {z : T} {v : Value} (_ : footT w z v []), i < xs.length → ∃ L', footTs w (xs.set i z) (vs.set i v) L' ∧ ∀ b ∈ L', b ∈ L := by
  intro xs vs L h i z v hz hi
  obtain ⟨L', h1, h2⟩ := footTs_set' h hz hi
  exact ⟨L', h1, fun b hb => (h2 b hb).elim (fun h => h) (fun h => by cases h)⟩

theorem flats_set : ∀ {xs : List T} {i : Nat} {z : T}, flats xs = true → z.flat = true → flats (xs.set i z) = true
  | [], _, _, _, _ => rfl
  | x :: xs, 0, z, h, hz => by
    simp only [flats, Bool.and_eq_true] at h
    simp only [List.set_cons_zero, flats, hz, h.2, Bool.and_self]
  | x :: xs, i + 1, z, h, hz => by
    simp only [flats, Bool.and_eq_true] at h
    simp only [List.set_cons_succ, flats, h.1, flats_set h.2 hz, Bool.and_self]

theorem ownTs_setflat : ∀ {ss : List Sh} {xs : List T} {vs : List Value} {L : List Nat} (_ : ownTs w ss xs vs L) {i : Nat} {z c : T} {v : Value} (_ : z.flat = true) (_ : footT w z v []) (_ : xs[i]? = some c) (_ : c.flat = true) (_ : c.one = true), ownTs w ss (xs.set i z) (vs.set i v) L
  | [], [], _, _, _, _, _, _, _, _, _, hc, _, _ => by simp at hc
  | s :: ss, x :: xs, vs, L, h, 0, z, c, v, hz, hf, hc, h1, h2 => by
    simp only [List.getElem?_cons_zero, Option.some.injEq] at hc
    subst hc
    simp only [ownTs] at h
    obtain ⟨u, vs', L1, L2, rfl, rfl, g1, g2⟩ := h
    have hs : s = .leaf := by
      cases s with
      | leaf => rfl
      | ag ss => cases x <;> first | (simp [T.one] at h2; done) | (simp only [ownT] at g1)
      | sl e m s => cases x <;> first | (simp [T.flat] at h1; done) | (simp only [ownT] at g1)
    subst hs
    simp only [ownT] at g1
    obtain ⟨_, _, rfl⟩ := g1
    simp only [List.set_cons_zero, ownTs, ownT]
    exact ⟨v, vs', [], L2, rfl, rfl, ⟨hz, hf, rfl⟩, g2⟩
  | s :: ss, x :: xs, vs, L, h, i + 1, z, c, v, hz, hf, hc, h1, h2 => by
    simp only [List.getElem?_cons_succ] at hc
    simp only [ownTs] at h
    obtain ⟨u, vs', L1, L2, rfl, rfl, g1, g2⟩ := h
    simp only [List.set_cons_succ, ownTs]
    exact ⟨u, _, L1, L2, rfl, rfl, g1, ownTs_setflat g2 hz hf hc h1 h2⟩
  | [], _ :: _, _, _, h, _, _, _, _, _, _, _, _, _ => by simp only [ownTs] at h
  | _ :: _, [], _, _, h, _, _, _, _, _, _, _, _, _ => by simp only [ownTs] at h

/-- a plain cell of an element is another now -/
theorem elsR_setcell {Fi : List Nat} {k : Kind} {es : List T} {vs : List Value} (h : elsR hv S w Fi k es vs) {i off : Nat} {ys : List T} {z c : T} {V : Value} (hi : es[i]? = some (.ag ys)) (hz : z.flat = true) (hV : footT w z V []) (hc : ys[off]? = some c) (h1 : c.flat = true) (h2 : c.one = true) :
    ∃ us : List Value, vs[i]? = some (.agg us.toArray) ∧ us.length = ys.length ∧ elsR hv S w Fi k (es.set i (.ag (ys.set off z))) (vs.set i (.agg (us.set off V).toArray)) := by
  have hil := get_lt hi
  have hol := get_lt hc
  have close : ∀ {R : Nat → Prop} {L : List Nat}, footTs w es vs L → (∀ b ∈ L, R b) → ∃ us : List Value, vs[i]? = some (.agg us.toArray) ∧ us.length = ys.length ∧ ∃ L', footTs w (es.set i (.ag (ys.set off z))) (vs.set i (.agg (us.set off V).toArray)) L' ∧ ∀ b ∈ L', R b := by
    intro R L hf hL
    obtain ⟨u, L1, g1, g2, g3⟩ := footTs_get hf hi
    simp only [footT] at g2
    obtain ⟨us, rfl, g2⟩ := g2
    obtain ⟨L2, q1, q2⟩ := footTs_setflat g2 hV hol
    obtain ⟨L3, q3, q4⟩ := footTs_set' hf (i := i) (z := .ag (ys.set off z)) (v := .agg (us.set off V).toArray) (M := L2) (by simp only [footT]; exact ⟨_, rfl, q1⟩) hil
    exact ⟨us, g1, footTs_length g2, L3, q3, fun b hb => (q4 b hb).elim (hL b) (fun h => hL b (g3 b (q2 b h)))⟩
  cases k with
  | clo =>
    obtain ⟨L, f1, f2⟩ := h
    obtain ⟨us, g1, g2, L', g3, g4⟩ := close f1 f2
    exact ⟨us, g1, g2, L', g3, g4⟩
  | bor =>
    obtain ⟨L, f1, f2⟩ := h
    obtain ⟨us, g1, g2, L', g3, g4⟩ := close f1 f2
    exact ⟨us, g1, g2, L', g3, g4⟩
  | own s =>
    obtain ⟨L, f1, f2, f3⟩ := h
    have hvl := ownEs_length f1
    obtain ⟨sp, _⟩ := set_split es i (.ag ys) (.ag (ys.set off z)) hi
    have f1' := f1
    rw [sp] at f1'
    obtain ⟨v1, v2, L1, L4, e1, e2, h3, h4⟩ := ownEs_split f1'
    simp only [ownEs] at h4
    obtain ⟨u, v3, L2, L3, rfl, rfl, h5, h6⟩ := h4
    have hl1 := ownEs_length h3
    rw [List.length_take, Nat.min_eq_left (by omega)] at hl1
    cases s with
    | leaf =>
      simp only [ownT] at h5
      obtain ⟨q1, q2, rfl⟩ := h5
      simp only [T.flat] at q1
      simp only [footT] at q2
      obtain ⟨us, rfl, q2⟩ := q2
      have hus : us.length = ys.length := footTs_length q2
      obtain ⟨L', q3, q4⟩ := footTs_setflat q2 hV hol
      refine ⟨us, by rw [e1, List.getElem?_append_right (by omega), hl1, Nat.sub_self]; rfl, hus, L, ?_, f2, f3⟩
      obtain ⟨_, sp2⟩ := set_split es i (.ag ys) (.ag (ys.set off z)) hi
      have : vs.set i (.agg (us.set off V).toArray) = v1 ++ .agg (us.set off V).toArray :: v3 := by
        rw [e1, List.set_append_right _ _ (by omega), hl1, Nat.sub_self, List.set_cons_zero]
      rw [sp2, this, e2]
      refine ownEs_append h3 ?_
      have hL' : L' = [] := List.eq_nil_iff_forall_not_mem.2 fun b hb => by cases q4 b hb
      subst hL'
      simp only [ownEs, ownT, T.flat, footT]
      exact ⟨_, v3, [], L3, rfl, rfl, ⟨flats_set q1 hz, ⟨_, rfl, q3⟩, rfl⟩, h6⟩
    | sl e m s => simp only [ownT] at h5
    | ag ss =>
      simp only [ownT] at h5
      obtain ⟨us, rfl, h5⟩ := h5
      have hus : us.length = ys.length := by obtain ⟨_, q, _⟩ := ownTs_foot ss ys h5; exact footTs_length q
      obtain ⟨A, B, C, hL, hset⟩ := ownEs_set f1 hil
      refine ⟨us, by rw [e1, List.getElem?_append_right (by omega), hl1, Nat.sub_self]; rfl, hus, L, ?_, f2, f3⟩
      obtain ⟨_, sp2⟩ := set_split es i (.ag ys) (.ag (ys.set off z)) hi
      have : vs.set i (.agg (us.set off V).toArray) = v1 ++ .agg (us.set off V).toArray :: v3 := by
        rw [e1, List.set_append_right _ _ (by omega), hl1, Nat.sub_self, List.set_cons_zero]
      rw [sp2, this, e2]
      refine ownEs_append h3 ?_
      simp only [ownEs, ownT]
      exact ⟨_, v3, L2, L3, rfl, rfl, ⟨_, rfl, ownTs_setflat h5 hz hV hc h1 h2⟩, h6⟩

/-- STORE into a row -/
theorem store_ra_sound {o : Oper} {t : TypeId} {p x : Operand} {id i m off : Nat} (ho : o.op = .store t p x) (hr : Rel w0 σ hv S F a w) (hp : σ.opd p = .ra id i m off) (h : vcStore P t (.ra id i m off) (σ.opd x) σ.ob K)
    (hn : Ans w0 σ a K next) : Does P Q o a w next := by
  obtain ⟨⟨L, fx, hL⟩, hux⟩ := hr.arg x
  obtain ⟨⟨Lp, fp, _⟩, hup⟩ := hr.arg p
  rw [hp] at fp
  simp only [footA] at fp
  obtain ⟨g, n, cap, e1, e2, _⟩ := fp
  simp only [vcStore] at h
  split at h
  case h_2 => cases h
  rename_i e m' k es hid
  obtain ⟨⟨rfl, hi⟩, h⟩ := h
  split at h
  case h_2 => cases h
  rename_i z ids k' hmix
  obtain ⟨⟨hni, hnd⟩, ⟨hz1, hz2, hz3⟩, h⟩ := h
  have hni' : id ∉ ids := fun hh => by rw [List.contains_iff_mem.2 hh] at hni; cases hni
  obtain ⟨y, hy⟩ : ∃ y, es[i]? = some y := ⟨es[i], List.getElem?_eq_getElem hi⟩
  have hrun0 : ∀ {W : World}, (storeVar t ⟨g, i * m + off, none⟩ (a.eval x)).run P w = .ok () W → (execOp a.eval o).run P w = .ok .skip W := fun h => by simp [execOp, ho, e2, Instr.storeAt, Instr.sureAddr, h]
  have hk0 := h y hy
  clear h
  dsimp only at hk0
  split at hk0
  · rename_i hc
    obtain ⟨rfl, hzm, hag⟩ := hc
    have fxs : footAs hv w [σ.opd x] [a.eval x] L := by
      simp only [footAs]
      exact ⟨_, [], L, [], rfl, by simp, fx, rfl, rfl⟩
    obtain ⟨hv1, S1, q1, b1, s1, hr1, Fi, hels, hown, _⟩ := mix_sound hr hmix (nodupB_spec hnd) fxs hL
    obtain ⟨mk1, mk2⟩ := mix_kind hmix
    have hid1 : (BX.killAll ids σ.ob)[id]? = some (.arr e m k es) := by rw [killAll_keep ids _ id hni']; exact hid
    obtain ⟨vs, k1, k2, k3, k4⟩ := hr1.ob id _ hid1
    have hvl := elsR_length k2
    obtain ⟨u, hu⟩ : ∃ u, vs[i]? = some u := ⟨vs[i]'(by omega), List.getElem?_eq_getElem (by omega)⟩
    obtain ⟨Lz, fz, _⟩ := elsR_foot hels (fun hk b hb => ((hown hk).2.1 b hb).2.1)
    have fz : ∃ Lz, footT w z (a.eval x) Lz := by
      simp only [footTs] at fz
      obtain ⟨v', vs', M1, M2, e1, _, f1, _⟩ := fz
      cases e1
      exact ⟨_, f1⟩
    obtain ⟨Lz, fz⟩ := fz
    have hVs : (a.eval x).cells.size = z.cells.length := (footT_cells fz).1
    have hum : u.cells.toList.length = m := by rw [Array.length_toList]; exact k3 u (List.mem_of_getElem? hu)
    have e1' : hv1 id = .slice (some ⟨g, 0, none⟩) n cap := by rw [q1]; exact e1
    obtain ⟨cs, r1, r2, r3, r4⟩ := row_write (P := P) (w := w) (t := t) (off := 0) (V := a.eval x) (u' := a.eval x) k1 e1' hvl.symm k3 k4.2 hu (ones_cells fz hz1) (by rw [hz2, hVs]) (by rw [hVs]; exact hz3) (by rw [hVs]; omega)
      (by rw [List.take_zero, List.nil_append, List.drop_eq_nil_of_le (by omega), List.append_nil])
    obtain ⟨S2, s2, hr2, Fj, l1, l2⟩ := Lies.set hr1 hid1 hi k2 ⟨Fi, hels, fun hk => (hown hk).2.1⟩ mk1 mk2
    refine does_skip (w' := w.setRow g cs) (hrun0 r1) ?_
    have hroot : blkOf (hv1 id) = some g := by rw [e1']; rfl
    have hB2 : ∀ b, hv1.B b → (w.setRow g cs).heap[b]? = w.heap[b]? := fun b hb => setRow_other w g b _ (fun e => (hr1.root id _ hid1 (by simp) g hroot).2.2 (e ▸ hb))
    have hr3 := Rel.reset hr1 hid1 (by simp) hr2 (w' := w.setRow g cs) (o' := .arr e m k' (es.set i z)) (Fi := Fj) (fun k hk => setRow_other w g k _ (fun e => hk (by rw [hroot, e]))) (by simp) rfl rfl rfl (Nat.le_refl _) rfl
      ⟨vs.set i (a.eval x), by rw [List.length_set]; exact r2, l1.mono (fun b hb => ⟨hb, hB2 b (hr2.SB b hb)⟩) (fun b hb => ⟨hb, hB2 b hb⟩) (fun hk b hb => hB2 b (l2 hk b hb).2.1), r3, by rw [List.length_set]; exact ⟨k4.1, r4⟩⟩
      (fun ho => l2 (by cases k' <;> first | rfl | cases ho))
    exact hn _ _ _ _ hv1 _ _ [] hk0 hr3 (by simp [footA]) (by simp) rfl
  · rename_i hc
    obtain ⟨⟨hzf, hzo, hoff, hyl, hya, rfl⟩, hcell, hK⟩ := hk0
    obtain ⟨ys, rfl⟩ : ∃ ys, y = .ag ys := by cases y <;> first | exact ⟨_, rfl⟩ | (simp [T.isAg] at hya)
    simp only [T.cells] at hcell hyl hK
    split at hcell
    case h_2 => cases hcell
    rename_i c hcc
    have fxs : footAs hv w [σ.opd x] [a.eval x] L := by
      simp only [footAs]
      exact ⟨_, [], L, [], rfl, by simp, fx, rfl, rfl⟩
    obtain ⟨hv1, S1, q1, b1, s1, hr1, Fi, hels, hown, _⟩ := mix_sound hr hmix (by simp) fxs hL
    obtain ⟨Lz, fz, _⟩ := elsR_foot hels (fun hk b hb => ((hown hk).2.1 b hb).2.1)
    have fz : ∃ Lz, footT w z (a.eval x) Lz := by
      simp only [footTs] at fz
      obtain ⟨v', vs', M1, M2, e1, _, f1, _⟩ := fz
      cases e1
      exact ⟨_, f1⟩
    obtain ⟨Lz, fz⟩ := fz
    have fz0 := (flat_foot z hzf fz).2 w
    have hzc : z.cells = [z] := by cases z <;> first | rfl | (simp [T.one] at hzo)
    have hV1 := T.one_value hzo fz
    have hVc : (a.eval x).cells = #[a.eval x] := cells_of_one hV1
    obtain ⟨vs, k1, k2, k3, k4⟩ := hr.ob id _ hid
    have hvl := elsR_length k2
    obtain ⟨us, g1, g2, g3⟩ := elsR_setcell k2 hy hzf fz0 hcc hcell.1 hcell.2
    obtain ⟨cs, r1, r2, r3, r4⟩ := row_write (P := P) (w := w) (t := t) (off := off) (V := a.eval x) (u' := .agg (us.set off (a.eval x)).toArray) k1 e1 hvl.symm k3 k4.2 g1 (ones_cells fz hz1) (by rw [hz2, (footT_cells fz).1]) (by rw [hVc]; simp) (by rw [hVc]; simp; omega)
      (by rw [hVc]; simp only [Value.cells, List.toList_toArray, List.size_toArray, List.length_singleton]; exact List.set_eq_take_append_cons_drop .. |>.trans (by rw [if_pos (by omega)]; simp))
    refine does_skip (w' := w.setRow g cs) (hrun0 r1) ?_
    have hroot : blkOf (hv id) = some g := by rw [e1]; rfl
    have hB2 : ∀ b, hv.B b → (w.setRow g cs).heap[b]? = w.heap[b]? := fun b hb => setRow_other w g b _ (fun e => (hr.root id _ hid (by simp) g hroot).2.2 (e ▸ hb))
    have hr3 := hr.write hid (by simp) (w' := w.setRow g cs) (o' := .arr e m k (es.set i (.ag (ys.set off z)))) (fun k hk => setRow_other w g k _ (fun e => hk (by rw [hroot, e]))) (by simp) rfl rfl rfl (Nat.le_refl _) rfl
      ⟨_, by rw [List.length_set]; exact r2, g3.mono (fun b hb => ⟨hb, hB2 b (hr.SB b hb)⟩) (fun b hb => ⟨hb, hB2 b hb⟩) (fun hk b hb => hB2 b (hr.fown id _ hid (by cases k <;> first | rfl | cases hk) b hb).2.1), r3, by rw [List.length_set]; exact ⟨k4.1, r4⟩⟩
      (fun ho => by cases k <;> first | rfl | cases ho)
    exact hn _ _ _ _ hv S F [] hK hr3 (by simp [footA]) (by simp) rfl

end

end Go.Proofs.Ythhgcklidfilfaa.BX
