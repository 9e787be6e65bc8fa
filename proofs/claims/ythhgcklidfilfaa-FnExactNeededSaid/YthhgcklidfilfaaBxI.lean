/-
  A frame for proofs over whole functions, second make, ninth part: rows: literals, make, append.
-/
import Derived.Test.YthhgcklidfilfaaBxH
import Derived.Laws.CopyRow
namespace Go.Proofs.Ythhgcklidfilfaa.BX
set_option linter.unusedSectionVars false
set_option linter.unusedSimpArgs false
set_option linter.unusedVariables false
open Go Go.RowKit
variable [Bd]

theorem fold_seg (off : Nat) : ∀ (xs : List Value) (k : Nat) (cs : Array Value), off + k + xs.length ≤ cs.size →
    (xs.zipIdx k).foldl (fun (cs : Array Value) (p : Value × Nat) => cs.setIfInBounds (off + p.2) p.1) cs = (cs.toList.take (off + k) ++ xs ++ cs.toList.drop (off + k + xs.length)).toArray
  | [], k, cs, _ => by simp
  | x :: xs, k, cs, h => by
    simp only [List.zipIdx_cons, List.foldl_cons]
    rw [fold_seg off xs (k + 1) _ (by simp at h ⊢; omega)]
    congr 1
    have := list_seg_step cs.toList (off + k) x xs (by simp at h ⊢; omega)
    simpa [Array.toList_setIfInBounds, Nat.add_assoc] using this

theorem fill_one {place : Nat → Option (Nat × Nat)} {i off size : Nat} {cells : Array Value} {v : Value} {rest : List (Nat × Value)} (hp : place i = some (off, size)) (hs : v.cells.size = size) (hl : off + size ≤ cells.size) :
    Instr.fill place cells ((i, v) :: rest) = Instr.fill place (cells.toList.take off ++ v.cells.toList ++ cells.toList.drop (off + size)).toArray rest := by
  simp only [Instr.fill, hp, hs, ne_eq, not_true_eq_false, decide_false, Bool.false_or, decide_eq_true_eq]
  rw [if_neg (by simp; omega)]
  congr 1
  rw [← Array.foldl_toList, Array.toList_zipIdx]
  have := fold_seg off v.cells.toList 0 cells (by simp [hs]; exact hl)
  simp only [Nat.add_zero, Array.length_toList, hs] at this
  exact this

theorem fill_full (m : Nat) : ∀ (vs : List Value) (k : Nat) (cells : Array Value), (∀ v ∈ vs, v.cells.size = m) → cells.size = (k + vs.length) * m →
    Instr.fill (fun i => some (i * m, m)) cells ((List.range' k vs.length).zip vs) = some (cells.toList.take (k * m) ++ cellsL vs).toArray
  | [], k, cells, _, hs => by
    simp only [List.length_nil, List.range'_zero, List.zip_nil_right, Instr.fill, cellsL, List.flatMap_nil, List.append_nil]
    rw [List.take_of_length_le (by simp [hs])]
  | v :: vs, k, cells, h, hs => by
    have hv : v.cells.size = m := h v (List.mem_cons_self ..)
    have hvl : v.cells.toList.length = m := by simpa using hv
    have hsz : cells.toList.length = k * m + (m + vs.length * m) := by
      simp only [Array.length_toList, hs, List.length_cons]
      rw [Nat.add_mul, Nat.succ_mul]; omega
    simp only [List.length_cons, List.range'_succ, List.zip_cons_cons]
    rw [fill_one rfl hv (by rw [← Array.length_toList]; omega)]
    have ih := fill_full m vs (k + 1) (cells.toList.take (k * m) ++ v.cells.toList ++ cells.toList.drop (k * m + m)).toArray (fun v hv => h v (List.mem_cons_of_mem _ hv))
      (by simp only [List.size_toArray, List.length_append, List.length_take, List.length_drop, hvl, hsz]; rw [Nat.add_mul, Nat.succ_mul]; omega)
    rw [ih]
    congr 2
    have h1 : (cells.toList.take (k * m) ++ v.cells.toList).length = (k + 1) * m := by
      simp only [List.length_append, List.length_take, hvl, hsz]; rw [Nat.succ_mul]; omega
    rw [List.take_append_of_le_length (by omega), List.take_of_length_le (by omega)]
    simp [cellsL]

def allLen (m : Nat) : List T → Bool
  | [] => true
  | y :: ys => decide (y.cells.length = m) && allLen m ys

theorem allLen_mem {m : Nat} {ys : List T} (h : allLen m ys = true) {y : T} (hy : y ∈ ys) : y.cells.length = m := by
  induction ys with
  | nil => cases hy
  | cons z zs ih =>
    simp only [allLen, Bool.and_eq_true, decide_eq_true_eq] at h
    rcases List.mem_cons.1 hy with rfl | hy
    · exact h.1
    · exact ih h.2 hy

theorem sizes_of {w : World} {m : Nat} : ∀ {ys : List T} {vs : List Value} {L : List Nat}, footTs w ys vs L → allLen m ys = true → ∀ v ∈ vs, v.cells.size = m
  | [], _, _, h, _ => by simp only [footTs] at h; simp [h.1]
  | y :: ys, vs, L, h, hl => by
    simp only [footTs] at h
    obtain ⟨v, vs', L1, L2, rfl, rfl, h1, h2⟩ := h
    simp only [allLen, Bool.and_eq_true, decide_eq_true_eq] at hl
    intro u hu
    rcases List.mem_cons.1 hu with rfl | hu
    · rw [(footT_cells h1).1]; exact hl.1
    · exact sizes_of h2 hl.2 u hu

def allOnes : List T → Bool
  | [] => true
  | y :: ys => T.allOne y.cells && allOnes ys

def Sh.plains : List Sh → Bool
  | [] => true
  | .leaf :: ss => Sh.plains ss
  | _ :: _ => false
/-- no memory -/
def Sh.plain : Sh → Bool
  | .leaf => true
  | .ag ss => Sh.plains ss
  | .sl _ _ _ => false

/-- what is appended: the elements, what is given up, how the row lies then -/
def srcOf (m : Nat) (ob : List Ob) (i : Nat) (k : Kind) : AV → (List T → List Nat → Kind → Prop) → Prop
  | .ns, K => K [] [] k
  | .t (.sl es), K => allLen m es = true ∧ match k with
    | .own s => if s.plain = true then fitsAll s es = true ∧ K es [] (.own s) else K es [] .clo
    | k => K es [] k
  | .bw (.sl es), K => allLen m es = true ∧ match k with
    | .own s => if s.plain = true then fitsAll s es = true ∧ K es [] (.own s) else K es [] .bor
    | _ => K es [] .bor
  | .sr j, K => match ob[j]? with
    | some (.arr _ m' k' es) => m' = m ∧ i ≠ j ∧ match k, k' with
      | .own s, .own s' => s' = s ∧ if s.plain = true then K es [] (.own s) else K es [j] (.own s)
      | .own _, .clo => K es [] .clo
      | .clo, .own _ => K es [j] .clo
      | .clo, .clo => K es [] .clo
      | _, _ => K es [] .bor
    | _ => False
  | _, _ => False

def vcBuildSlice (P : Program) (t : TypeId) (n : Nat) (ks : List Nat) (xs : List AV) (ob : List Ob) (K : AV → List Ob → Prop) : Prop :=
  match lay P t with
  | .sli e m => ks = List.range' 0 n ∧ n * m ≤ 16777216 ∧ n < Bd.B ∧ (zeroOf P e).isSome = true ∧ match mix ob (.own (shOf P 40 e)) xs with
    | some (ys, ids, k) => nodupB ids = true ∧ allLen m ys = true ∧ allOnes ys = true ∧ K (.sr ob.length) (killAll ids ob ++ [.arr e m k ys])
    | none => False
  | _ => False

def vcAppend (P : Program) (t : TypeId) (s x : AV) (ob : List Ob) (K : AV → List Ob → Prop) : Prop :=
  match lay P t with
  | .sli e m => 0 < m ∧ ((zeroOf P e).map (·.cells.size) = some m) ∧ Bd.B * P.bytesOf e ≤ 140737488355328 ∧
    match s with
    | .sr i => match ob[i]? with
      | some (.arr e' m' k es) => e' = e ∧ m' = m ∧ srcOf m ob i k x fun es2 ids k' => (es ++ es2).length < Bd.B ∧ K (.sr ob.length) ((killAll ids ob).set i .dead ++ [.arr e m k' (es ++ es2)])
      | _ => False
    | .ns => srcOf m ob ob.length (.own (shOf P 40 e)) x fun es2 ids k' => es2.length < Bd.B ∧ K (.sr ob.length) (killAll ids ob ++ [.arr e m k' es2])
    | _ => False
  | _ => False

def vcMake (P : Program) (t : TypeId) (l c : AV) (ob : List Ob) (K : AV → List Ob → Prop) : Prop :=
  match lay P t, l, c with
  | .sli e m, .t (.i _ n), .t (.i _ n') => n = n' ∧ 0 ≤ n ∧ n < Bd.B ∧ 0 < m ∧ Bd.B * P.bytesOf e ≤ 281474976710656 ∧ match zeroOf P e with
    | some z => match (ofV z).own [] (shOf P 40 e) with
      | some (y, _) => y.cells.length = m ∧ T.allOne y.cells = true ∧ K (.sr ob.length) (ob ++ [.arr e m (.own (shOf P 40 e)) (List.replicate n.toNat y)])
      | none => False
    | none => False
  | _, _, _ => False

section
variable {P : Program} {Q : Exit → Act → World → Prop} {w0 : Base} {σ : St} {hv : Hv} {S : Nat → Prop} {F : Nat → List Nat} {a : Act} {w : World}
  {K : AV → List Ob → Prop} {next : Value → World → Prop}

theorem ones_foots0 : True := trivial
theorem ones_foots : ∀ {ys : List T} {vs : List Value} {L : List Nat}, footTs w ys vs L → T.allOne ys = true → ones vs
  | [], _, _, h, _ => by simp only [footTs] at h; simp [h.1, ones]
  | y :: ys, vs, L, h, hl => by
    simp only [footTs] at h
    obtain ⟨v, vs', L1, L2, rfl, rfl, h1, h2⟩ := h
    simp only [T.allOne, Bool.and_eq_true] at hl
    intro u hu
    rcases List.mem_cons.1 hu with rfl | hu
    · exact T.one_value hl.1 h1
    · exact ones_foots h2 hl.2 u hu

theorem ones_cells {y : T} {v : Value} {L : List Nat} (h : footT w y v L) (hl : T.allOne y.cells = true) : ones v.cells.toList := by
  obtain ⟨h1, h2⟩ := footT_cells h
  obtain ⟨L', g1, _⟩ := footTs_of_cells (w := w) y.cells v.cells.toList L (by simpa using h1) (fun j y hj => by obtain ⟨u, L', q1, q2, q3⟩ := h2 j y hj; exact ⟨u, L', by simpa using q1, q2, q3⟩)
  exact ones_foots g1 hl

theorem ones_of : ∀ {ys : List T} {vs : List Value} {L : List Nat}, footTs w ys vs L → allOnes ys = true → ones (cellsL vs)
  | [], _, _, h, _ => by simp only [footTs] at h; simp [h.1, ones, cellsL]
  | y :: ys, vs, L, h, hl => by
    simp only [footTs] at h
    obtain ⟨v, vs', L1, L2, rfl, rfl, h1, h2⟩ := h
    simp only [allOnes, Bool.and_eq_true] at hl
    intro u hu
    simp only [cellsL, List.flatMap_cons, List.mem_append] at hu
    rcases hu with hu | hu
    · exact ones_cells h1 hl.1 u hu
    · exact ones_of h2 hl.2 u hu

theorem cellsL_length {m : Nat} : ∀ (l : List Value), (∀ v ∈ l, v.cells.size = m) → (cellsL l).length = l.length * m
  | [], _ => by simp [cellsL]
  | x :: l, hh => by
    have := cellsL_length l fun v hv => hh v (List.mem_cons_of_mem _ hv)
    have hx : x.cells.toList.length = m := by simpa using hh x (List.mem_cons_self ..)
    simp only [cellsL, List.flatMap_cons, List.length_append, hx, List.length_cons] at this ⊢
    rw [this, Nat.succ_mul]; omega

theorem cellsL_append (a b : List Value) : cellsL (a ++ b) = cellsL a ++ cellsL b := by simp [cellsL]

theorem ownBlock_blkOf {v : Value} (h : ∃ A n c, v = .slice A n c) : v.ownBlock = blkOf v := by
  obtain ⟨A, n, c, rfl⟩ := h
  cases A <;> rfl

/-- what an append leaves: a row, in the old root or in a new block -/
theorem append_row {t e : TypeId} {m : Nat} (hl : lay P t = .sli e m) (hm0 : 0 < m) (hz : (zeroOf P e).map (·.cells.size) = some m) (hby : Bd.B * P.bytesOf e ≤ 140737488355328) {ty : TypeId}
    {base : Nat} {v x : Value} {n : Nat} {vs : List Value} (hrow : w.ownsRow base e m v n (cellsL vs)) (hbase : base ≤ w.heap.size) (hn : n = vs.length) (hvs : ∀ v ∈ vs, v.cells.size = m)
    {A : Option Addr} {k c : Nat} {us : List Value} (hx : x = .slice A k c) (hk : k = us.length) (hus : ∀ v ∈ us, v.cells.size = m) (h1 : ones (cellsL us)) (hA : us = [] ∨ ∃ b off, A = some ⟨b, off, none⟩ ∧ laid w b off (cellsL us))
    (hlen : n + k < Bd.B) :
    ∃ v' w', (Builtin.append_ #[t, t] ty #[v, x]).run P w = .ok v' w' ∧ w'.ownsRow base e m v' (n + k) (cellsL (vs ++ us)) ∧ (w.grownBy w' (blkOf v) ∧ w.drawn ≤ w'.drawn) ∧
      (∀ b, blkOf v' = some b → blkOf v = some b ∨ w.heap.size ≤ b) ∧ v'.oneCell' = true := by
  obtain ⟨hu, hm, inf, hinf⟩ := lay_sli hl
  have hsz : inf.size = m := by rw [← hm]; simp [Program.cellsOf, hinf]
  obtain ⟨z, hz1, hz2⟩ := Option.map_eq_some_iff.1 hz
  have hz3 : inf.zero = some z := by simpa [zeroOf, hinf] using hz1
  have hby2 : inf.bytes = P.bytesOf e := by simp [Program.bytesOf, hinf]
  have hhi := Bd.hi
  subst hx
  rw [cellsL_append]
  have hcv : (cellsL vs).length = n * m := by rw [cellsL_length vs hvs, hn]
  have hcu : (cellsL us).length = k * m := by rw [cellsL_length us hus, hk]
  have hbytes : (n + k) * inf.bytes ≤ 140737488355328 := by rw [hby2]; exact Nat.le_trans (Nat.mul_le_mul_right _ (Nat.le_of_lt hlen)) hby
  cases A with
  | none =>
    have : us = [] := by
      rcases hA with h | ⟨b, off, h, _⟩
      · exact h
      · cases h
    subst this
    obtain rfl : k = 0 := by simpa using hk
    have e0 : cellsL ([] : List Value) = [] := rfl
    rw [e0, List.append_nil, Nat.add_zero]
    refine ⟨v, w, ?_, hrow, ⟨⟨rfl, rfl, rfl, Nat.le_refl _, fun _ _ _ => rfl⟩, Nat.le_refl _⟩, fun b hb => .inl hb, ?_⟩
    · rcases hrow.2 with ⟨rfl, rfl⟩ | ⟨g, cap, cur, rfl, _, _, hnc, _⟩
      · simp [Builtin.append_, run_underlying hu, sizeOf, typeInfo, hinf, Builtin.lenOf, Builtin.firstCells]
      · simp [Builtin.append_, run_underlying hu, sizeOf, typeInfo, hinf, Builtin.lenOf, Builtin.firstCells, hnc, storeCells]
    · rcases hrow.2 with ⟨rfl, rfl⟩ | ⟨g, cap, cur, rfl, _⟩ <;> rfl
  | some ad =>
    have hcells : ∀ (j : Nat) u, (cellsL us)[j]? = some u → w.cell? (ad.add j) = some u := by
      intro j u hj
      rcases hA with h | ⟨b, off, h, hl⟩
      · subst h; simp [cellsL] at hj
      · cases h; rw [add_lit]; exact hl j u hj
    have hlen2 : (cellsL vs ++ cellsL us).length = (n + k) * m := by rw [List.length_append, hcv, hcu, Nat.add_mul]
    -- a new block
    have grown : ∀ (old : Nat), (w.drew.alloc (.cells ((cellsL vs).toArray ++ (cellsL us).toArray ++ Builtin.zeroCells z.cells (grownCap w (n + k) old e - (n + k))) e)).ownsRow base e m
          (.slice (some ⟨w.heap.size, 0, none⟩) (n + k) (grownCap w (n + k) old e)) (n + k) (cellsL vs ++ cellsL us) ∧
        ∀ row, w.grownBy (w.drew.alloc (.cells ((cellsL vs).toArray ++ (cellsL us).toArray ++ Builtin.zeroCells z.cells (grownCap w (n + k) old e - (n + k))) e)) row := by
      intro old
      have hge := grownCap_ge w (n + k) old e
      refine ⟨⟨hlen2, .inr ⟨w.heap.size, _, _, rfl, hbase, heap_alloc_new w.drew _, hge, grownCap_le_maxLen w (n + k) old e (by simp only [maxLen]; omega), ?_, ?_⟩⟩, fun row => ⟨rfl, rfl, rfl, by simp, fun j hj _ => Below.heap_alloc w.drew _ j hj⟩⟩
      · simp only [Array.size_append, List.size_toArray, size_zeroCells, hz2, hcv, hcu, ← Nat.add_mul]
        congr 1
        omega
      · simp only [Array.toList_append, List.append_assoc]
        rw [← List.append_assoc, ← hlen2]
        exact List.take_left
    rcases hrow.2 with ⟨rfl, rfl⟩ | ⟨g, cap, cur, rfl, hbg, hg, hnc, hcm, hcs, htake⟩
    · have hx0 : cellsL vs = [] := List.eq_nil_of_length_eq_zero (by simpa using hcv)
      by_cases hk0 : k = 0
      · subst hk0
        have hn0 : cellsL us = [] := List.eq_nil_of_length_eq_zero (by simpa using hcu)
        rw [hx0, hn0]
        refine ⟨.slice none 0 0, w, ?_, World.ownsRow_nil w base e m, ⟨⟨rfl, rfl, rfl, Nat.le_refl _, fun _ _ _ => rfl⟩, Nat.le_refl _⟩, fun b hb => .inl hb, rfl⟩
        simp [Builtin.append_, run_underlying hu, sizeOf, typeInfo, hinf, Builtin.lenOf, Builtin.firstCells, loadCells, loadCellsFrom]
      · have hr := run_append_nil (P := P) w t ty e inf z hu hinf hz3 ad k c (cellsL us) (by rw [hsz]; exact hcu) hcells (by omega) (by omega) (by have hb := hbytes; simp only [Nat.zero_add] at hb; omega)
        have hgr := grown 0
        rw [hx0] at hgr ⊢
        simp only [Nat.zero_add, List.nil_append, Array.empty_append] at hgr ⊢
        exact ⟨_, _, hr, hgr.1, ⟨hgr.2 _, Nat.le_succ _⟩, fun b hb => by simp [blkOf] at hb; exact .inr (by omega), rfl⟩
    · by_cases hroom : n + k ≤ cap
      · have hfit : n * inf.size + (cellsL us).length ≤ cur.size := by rw [hsz, hcu, hcs, ← Nat.add_mul]; exact Nat.mul_le_mul_right _ hroom
        have hr := run_append_room (P := P) w t ty e inf hu hinf g n cap cur hg ad k c (cellsL us) (by rw [hsz]; exact hcu) hcells h1 hroom hfit
        rw [hsz] at hr hfit
        refine ⟨_, _, hr, ⟨hlen2, .inr ⟨g, cap, _, rfl, hbg, setRow_heap w g cur _ e _ hg, hroom, hcm, ?_, ?_⟩⟩, ⟨⟨rfl, rfl, rfl, by simp, fun k _ hk => setRow_other w g k _ (fun e => hk (by simp [blkOf, e]))⟩, Nat.le_refl _⟩, fun b hb => .inl hb, rfl⟩
        · simp only [List.size_toArray, List.length_append, List.length_take, List.length_drop, Array.length_toList]
          omega
        · rw [htake, ← hlen2]
          exact List.take_left
      · have holds : ∀ (j : Nat) u, (cellsL vs)[j]? = some u → w.cell? ((⟨g, 0, none⟩ : Addr).add j) = some u := hrow.cells (g := g) rfl
        have hr := run_append_grow (P := P) w t ty e inf z hu hinf hz3 ⟨g, 0, none⟩ n cap (cellsL vs) (by rw [hsz]; exact hcv) holds ad k c (cellsL us) (by rw [hsz]; exact hcu) hcells (by omega) (by omega) (growslice_fits (by omega) hbytes)
        have hgr := grown cap
        exact ⟨_, _, hr, hgr.1, ⟨hgr.2 _, Nat.le_succ _⟩, fun b hb => by simp [blkOf] at hb; exact .inr (by omega), rfl⟩

/-- a row of zero values is made -/
theorem make_full (w : World) (base : Nat) (t e : TypeId) (i : TypeInfo) (z : Value) (size : Nat) (ht : P.underlying t = some (.slice e)) (hi : P.info? e = some i) (hz : i.zero = some z) (hsize : i.size = size)
    (kl kc : IntKind) (n : Nat) (hbytes : i.bytes * n ≤ 281474976710656) (h63 : n ≤ maxLen) (hbase : base ≤ w.heap.size) :
    ∃ w', (Instr.makeSlice t (.int kl (n : Int)) (.int kc (n : Int))).run P w = .ok (.slice (some ⟨w.heap.size, 0, none⟩) n n) w' ∧
      w'.ownsRow base e size (.slice (some ⟨w.heap.size, 0, none⟩) n n) n (madeCells z.cells (n * size)).toList ∧ w.grownBy w' none ∧ w.drawn ≤ w'.drawn := by
  have hb : (i.bytes : Int) * (n : Int) ≤ 281474976710656 := by
    have h : ((i.bytes * n : Nat) : Int) ≤ 281474976710656 := by omega
    rwa [Int.natCast_mul] at h
  have hm : (n : Int) ≤ 9223372036854775807 := by
    have h := h63
    unfold maxLen at h
    omega
  have hr := run_make (P := P) w t e i z ht hi hz kl kc n n (by omega) (Int.le_refl _) hb hm
  simp only [Int.toNat_natCast] at hr
  subst hsize
  exact ⟨_, hr, World.ownsRow_lit w _ n hbase h63 (size_madeCells _ _), World.grownBy_alloc w _ none, Nat.le_refl _⟩

theorem foots_opds (hr : Rel w0 σ hv S F a w) : ∀ (xs : List Operand), ∃ L, footAs hv w (xs.map σ.opd) (xs.map a.eval) L ∧ ∀ b ∈ L, S b
  | [] => ⟨[], by simp [footAs], by simp⟩
  | x :: xs => by
    obtain ⟨L1, h1, h2⟩ := (hr.arg x).1
    obtain ⟨L2, h3, h4⟩ := foots_opds hr xs
    refine ⟨L1 ++ L2, by simp only [List.map_cons, footAs]; exact ⟨_, _, L1, L2, rfl, rfl, h1, h3⟩, fun b hb => ?_⟩
    rcases List.mem_append.1 hb with hb | hb
    · exact h2 b hb
    · exact h4 b hb

theorem zero_run {t : TypeId} {z : Value} (hz : zeroOf P t = some z) (w : World) : (zeroValue t).run P w = .ok z w := by
  unfold zeroOf at hz
  cases hi : P.info? t with
  | none => simp [hi] at hz
  | some i => simp [hi] at hz; simp [zeroValue, typeInfo, hi, hz]


/-- the elements, with blocks that are their own or not -/
def Lies (w0 : Base) (ob : List Ob) (hv : Hv) (S : Nat → Prop) (F : Nat → List Nat) (w : World) (k : Kind) (es : List T) (vs : List Value) : Prop :=
  ∃ Fi, elsR hv S w Fi k es vs ∧ (k.isOwn = true → Free w0 ob hv S F Fi)

/-- a new row of given elements -/
theorem Rel.newrow (hr : Rel w0 σ hv S F a w) {w' : World} (g : Grew w w') {k : Kind} {es : List T} {vs : List Value} (hf : Lies w0 σ.ob hv S F w k es vs)
    {e : TypeId} {m : Nat} {v : Value} (hrow : w'.ownsRow w.heap.size e m v es.length (cellsL vs)) (hs : ∀ v ∈ vs, v.cells.size = m) (hb : es.length < Bd.B) (h1s : ones (cellsL vs)) (hv1 : v.oneCell' = true) :
    ∃ (hv' : Hv) (S' : Nat → Prop) (F' : Nat → List Nat), (∀ b, S b → S' b) ∧ (∀ i, i < σ.ob.length → hv' i = hv i) ∧ hv' σ.ob.length = v ∧ Rel w0 { σ with ob := σ.ob ++ [.arr e m k es] } hv' S' F' a w' := by
  obtain ⟨Fi, hels, hfree⟩ := hf
  have hroot : ∀ b, blkOf v = some b → w.heap.size ≤ b ∧ b < w'.heap.size := blk_of_ownsRow hrow
  have hown : (Ob.arr e m k es).owns = true → k.isOwn = true := by cases k <;> first | exact fun _ => rfl | exact fun h => by cases h
  obtain ⟨hv', kB, k1, k2, k3⟩ := Rel.new hr g (o := .arr e m k es) (v := v) (Fi := Fi) hroot rfl hv1
    (fun ho b hb => ⟨(hfree (hown ho) b hb).1, (hfree (hown ho) b hb).2.1, (hfree (hown ho) b hb).2.2.1⟩)
    (fun ho j oj hj hoj b hb => (hfree (hown ho) b hb).2.2.2 j oj hj hoj)
    (by
      intro hv' hB he hn'
      refine ⟨vs, ?_, hels.mono (fun b hb => ⟨.inl hb, g.block b (hr.Slt b hb)⟩) (fun b hb => ⟨hB b hb, g.block b (hr.Blt b hb)⟩) (fun hk b hb => g.block b (hr.Blt b (hfree hk b hb).2.1)), hs, ⟨hb, h1s⟩⟩
      obtain ⟨r1, r2⟩ := hrow
      refine ⟨r1, ?_⟩
      rcases r2 with r2 | ⟨gg, cap, cur, q1, q2, q3⟩
      · exact .inl r2
      · exact .inr ⟨gg, cap, cur, q1, Nat.zero_le _, q3⟩)
  exact ⟨hv', _, _, fun b hb => .inl hb, k1, k2, k3⟩

/-- a row in the old root or in a new block, named anew -/
theorem Rel.renew2 (hr : Rel w0 σ hv S F a w) {i : Nat} {o1 : Ob} (hi : σ.ob[i]? = some o1) (hd : o1 ≠ .dead) {w' : World} (hg : w.grownBy w' (blkOf (hv i))) (hgd : w.drawn ≤ w'.drawn)
    {v' : Value} {e : TypeId} {m : Nat} {k : Kind} {es : List T} {vs : List Value} (hrow : w'.ownsRow 0 e m v' es.length (cellsL vs)) (hroot : ∀ b, blkOf v' = some b → blkOf (hv i) = some b ∨ w.heap.size ≤ b)
    (hv1 : v'.oneCell' = true) {S1 : Nat → Prop} (hr1 : Rel w0 { σ with ob := σ.ob.set i .dead } hv S1 F a w) (hf : Lies w0 (σ.ob.set i .dead) hv S1 F w k es vs) (hs : ∀ v ∈ vs, v.cells.size = m) (hB : es.length < Bd.B) (h1s : ones (cellsL vs)) :
    ∃ (hv' : Hv) (S' : Nat → Prop) (F' : Nat → List Nat), Rel w0 { σ with ob := σ.ob.set i .dead ++ [.arr e m k es] } hv' S' F' a w' ∧ hv' σ.ob.length = v' := by
  obtain ⟨Fi, hels, hfree⟩ := hf
  have hlen : (σ.ob.set i .dead).length = σ.ob.length := List.length_set ..
  have hown : (Ob.arr e m k es).owns = true → k.isOwn = true := by cases k <;> first | exact fun _ => rfl | exact fun h => by cases h
  have hrt := hr.root i o1 hi hd
  have hBs : ∀ b, hv.B b → w'.heap[b]? = w.heap[b]? := fun b hb => hg.block b (hr.Blt b hb) (fun e => (hrt b e.symm).2.2 hb)
  have live : ∀ (j : Nat) oj, (σ.ob.set i .dead)[j]? = some oj → oj ≠ .dead → j ≠ i ∧ σ.ob[j]? = some oj := by
    intro j oj hj hdj
    rcases set_get hj with ⟨_, e⟩ | h
    · exact absurd e hdj
    · exact h
  have hbl : But w0.M w0.heap.size w0.toWorld w' := by
    refine hr.below.trans ⟨hg.os, hg.tape, hg.output, hg.size, fun k hk hm => hg.block k (by have := hr.below.size; omega) fun e => ?_, hgd⟩
    rcases (hrt k e.symm).1 with h | h
    · exact hm h
    · omega
  obtain ⟨hv', _, q1, q2, q3⟩ := hr1.new0 (w' := w') hg.size hbl hBs
    (fun j oj hj hdj b hb => by
      obtain ⟨j1, j2⟩ := live j oj hj hdj
      exact hg.block b (hr.root j oj j2 hdj b hb).2.1 (fun e => hr.sep j i oj o1 j1 j2 hi hdj hd b hb e.symm))
    (o := .arr e m k es) (v := v') (Fi := Fi) (S' := S1) (B' := hv.B) (fun b hb => hb) hr1.SB (fun b hb => hb) (fun b hb => .inl hb) (fun b hb => .inl hb)
    (fun b hb => by
      have k2 := (blk_of_ownsRow hrow b hb).2
      refine ⟨?_, k2, fun hS => ?_, fun j oj hj hdj hh => ?_⟩
      · rcases hroot b hb with h | h
        · exact (hrt b h).1
        · exact .inr (by have := hr.below.size; omega)
      · rcases hroot b hb with h | h
        · exact (hrt b h).2.2 hS
        · have := hr.Blt b hS; omega
      · obtain ⟨j1, j2⟩ := live j oj hj hdj
        rcases hroot b hb with h | h
        · exact hr.sep j i oj o1 j1 j2 hi hdj hd b hh h
        · have := (hr.root j oj j2 hdj b hh).2.1; omega)
    rfl hv1 (fun ho b hb => ⟨(hfree (hown ho) b hb).1, (hfree (hown ho) b hb).2.1, (hfree (hown ho) b hb).2.2.1⟩)
    (fun ho j oj hj hoj b hb => (hfree (hown ho) b hb).2.2.2 j oj hj hoj)
    (fun hv' hB' he hn' => ⟨vs, hrow, hels.mono (fun b hb => ⟨hb, hBs b (hr1.SB b hb)⟩) (fun b hb => ⟨by rw [hB']; exact hb, hBs b hb⟩) (fun hk b hb => hBs b (hfree hk b hb).2.1), hs, ⟨hB, h1s⟩⟩)
  exact ⟨hv', _, _, q3, by rw [hlen] at q2; exact q2⟩

theorem plains_own : ∀ {ss : List Sh} {xs : List T} {vs : List Value} {L : List Nat}, Sh.plains ss = true → ownTs w ss xs vs L → L = [] ∧ flats xs = true
  | [], [], vs, L, _, h => by simp only [ownTs] at h; exact ⟨h.2, rfl⟩
  | .leaf :: ss, x :: xs, vs, L, hp, h => by
    simp only [Sh.plains] at hp
    simp only [ownTs, ownT] at h
    obtain ⟨v, vs', L1, L2, rfl, rfl, ⟨h1, _, rfl⟩, h2⟩ := h
    obtain ⟨rfl, q⟩ := plains_own hp h2
    exact ⟨rfl, by simp only [flats, h1, q, Bool.and_self]⟩
  | .ag _ :: _, _, _, _, hp, _ => by simp [Sh.plains] at hp
  | .sl _ _ _ :: _, _, _, _, hp, _ => by simp [Sh.plains] at hp
  | [], _ :: _, _, _, _, h => by simp only [ownTs] at h
  | .leaf :: _, [], _, _, _, h => by simp only [ownTs] at h

theorem plain_own {s : Sh} {x : T} {v : Value} {L : List Nat} (hp : s.plain = true) (h : ownT w s x v L) : L = [] := by
  cases s with
  | leaf => simp only [ownT] at h; exact h.2.2
  | ag ss =>
    cases x <;> simp only [ownT] at h
    obtain ⟨vs, _, h⟩ := h
    exact (plains_own hp h).1
  | sl e m s => simp [Sh.plain] at hp

theorem plainEs_own {s : Sh} : ∀ {xs : List T} {vs : List Value} {L : List Nat}, s.plain = true → ownEs w s xs vs L → L = []
  | [], vs, L, _, h => by simp only [ownEs] at h; exact h.2
  | x :: xs, vs, L, hp, h => by
    simp only [ownEs] at h
    obtain ⟨v, vs', L1, L2, rfl, rfl, h1, h2⟩ := h
    rw [plain_own hp h1, plainEs_own hp h2]; rfl

/-- the source of an append, in memory -/
structure Src (w : World) (m : Nat) (v : Value) (us : List Value) (n : Nat) : Prop where
  val : ∃ (A : Option Addr) (c : Nat), v = .slice A n c ∧ (us = [] ∨ ∃ b off, A = some ⟨b, off, none⟩ ∧ laid w b off (cellsL us))
  len : n = us.length
  size : ∀ v ∈ us, v.cells.size = m
  ones : ones (cellsL us)

theorem srcOf_sound (hr : Rel w0 σ hv S F a w) {m i : Nat} {k : Kind} {x : Operand} {K : List T → List Nat → Kind → Prop} (h : srcOf m σ.ob i k (σ.opd x) K) :
    ∃ es2 ids k', K es2 ids k' ∧ i ∉ ids ∧ (k'.isOwn = true → k' = k) ∧ (k = .bor → k' = .bor) ∧ (∃ us, Src w m (a.eval x) us es2.length ∧
      ∃ (hv1 : Hv) (S1 : Nat → Prop), hv1.v = hv.v ∧ (∀ b, hv.B b → hv1.B b) ∧ (∀ b, S b → S1 b) ∧ Rel w0 { σ with ob := BX.killAll ids σ.ob } hv1 S1 F a w ∧ Lies w0 (BX.killAll ids σ.ob) hv1 S1 F w k' es2 us) := by
  obtain ⟨⟨L, fx, hL⟩, hux⟩ := hr.arg x
  have same : ∀ {es2 : List T} {k' : Kind} {us : List Value}, K es2 [] k' → ((k'.isOwn = true → k' = k) ∧ (k = .bor → k' = .bor)) → Src w m (a.eval x) us es2.length → Lies w0 σ.ob hv S F w k' es2 us → ∃ es2 ids k', K es2 ids k' ∧ i ∉ ids ∧ (k'.isOwn = true → k' = k) ∧ (k = .bor → k' = .bor) ∧ (∃ us, Src w m (a.eval x) us es2.length ∧
      ∃ (hv1 : Hv) (S1 : Nat → Prop), hv1.v = hv.v ∧ (∀ b, hv.B b → hv1.B b) ∧ (∀ b, S b → S1 b) ∧ Rel w0 { σ with ob := BX.killAll ids σ.ob } hv1 S1 F a w ∧ Lies w0 (BX.killAll ids σ.ob) hv1 S1 F w k' es2 us) := fun {es2} {k'} {us} h1 h2 h3 h4 =>
    ⟨es2, [], k', h1, by simp, h2.1, h2.2, us, h3, hv, S, rfl, fun b hb => hb, fun b hb => hb, hr, h4⟩
  have nilL : ∀ {k' : Kind}, Lies w0 σ.ob hv S F w k' [] [] := fun {k'} => ⟨[], by cases k' <;> exact ⟨[], by simp [ownEs, footTs], by simp⟩, fun _ => by intro b hb; cases hb⟩
  have closed : ∀ (c : Kind) (es : List T), σ.opd x = c.look (.sl es) → allLen m es = true → ∃ us L, footTs w es us L ∧ (∀ b ∈ L, c.reads hv S b) ∧ Src w m (a.eval x) us es.length := by
    intro c es hx hal
    have ax := hr.arg x
    rw [hx] at ax
    obtain ⟨L, fx, hL⟩ := ax.look_inv
    simp only [footT] at fx
    obtain ⟨A, c', e1, hc, hB, hor⟩ := fx
    rcases hor with ⟨rfl, rfl⟩ | ⟨b, off, vs, L', m', rfl, f1, f2, rfl, f3, f4⟩
    · exact ⟨[], [], by simp [footTs], by simp, ⟨A, c', e1, .inl rfl⟩, rfl, by simp, by simp [ones, cellsL]⟩
    · exact ⟨vs, L', f1, fun b' hb' => hL b' (List.mem_cons_of_mem _ hb'), ⟨_, c', e1, .inr ⟨b, off, rfl, f3⟩⟩, (footTs_length f1).symm, sizes_of f1 hal, f4⟩
  unfold srcOf at h
  split at h
  · rename_i hx
    rw [hx] at fx
    simp only [footA] at fx
    exact same h ⟨fun _ => rfl, fun h => h⟩ ⟨⟨none, 0, fx.1, .inl rfl⟩, rfl, by simp, by simp [ones, cellsL]⟩ nilL
  · rename_i es hx
    obtain ⟨hal, h⟩ := h
    obtain ⟨us, L', f1, f2, f3⟩ := closed .clo es hx hal
    split at h
    · rename_i s
      split at h
      · exact same h.2 ⟨fun _ => rfl, fun h => h⟩ f3 ⟨[], ⟨[], fitsAll_own h.1 f1, by simp, by simp⟩, fun _ => by intro b hb; cases hb⟩
      · exact same h ⟨(fun h => by cases h), (fun h => by first | rfl | cases h)⟩ f3 ⟨[], ⟨L', f1, f2⟩, fun h => by cases h⟩
    · rename_i hk
      cases k with
      | own s => exact absurd rfl (hk s)
      | clo => exact same h ⟨fun _ => rfl, fun h => h⟩ f3 ⟨[], ⟨L', f1, f2⟩, fun h => by cases h⟩
      | bor => exact same h ⟨fun _ => rfl, fun h => h⟩ f3 ⟨[], ⟨L', f1, fun b hb => hr.SB b (f2 b hb)⟩, fun h => by cases h⟩
  · rename_i es hx
    obtain ⟨hal, h⟩ := h
    obtain ⟨us, L', f1, f2, f3⟩ := closed .bor es hx hal
    split at h
    · rename_i s
      split at h
      · exact same h.2 ⟨fun _ => rfl, fun h => h⟩ f3 ⟨[], ⟨[], fitsAll_own h.1 f1, by simp, by simp⟩, fun _ => by intro b hb; cases hb⟩
      · exact same h ⟨(fun h => by cases h), (fun h => by first | rfl | cases h)⟩ f3 ⟨[], ⟨L', f1, f2⟩, fun h => by cases h⟩
    · exact same h ⟨(fun h => by cases h), (fun h => by first | rfl | cases h)⟩ f3 ⟨[], ⟨L', f1, f2⟩, fun h => by cases h⟩
  · rename_i j hx
    split at h
    · rename_i e' m' k2 es hj
      obtain ⟨rfl, hne, h⟩ := h
      rw [hx] at fx
      simp only [footA] at fx
      obtain ⟨us, k1, k3, k4, k5⟩ := hr.ob j _ hj
      have hsrc : Src w m' (a.eval x) us es.length := by
        refine ⟨?_, (elsR_length k3).symm, k4, k5.2⟩
        rcases k1.2 with ⟨q, q2⟩ | ⟨g, cap, cur, q, _⟩
        · have : us = [] := List.eq_nil_of_length_eq_zero (by rw [elsR_length k3]; exact q2)
          exact ⟨none, 0, by rw [fx.1, q, q2], .inl this⟩
        · exact ⟨_, cap, fx.1.trans q, .inr ⟨g, 0, rfl, ownsRow_laid k1 q⟩⟩
      have asBor : Lies w0 σ.ob hv S F w .bor es us := by
        obtain ⟨L', f1, f2⟩ := elsR_foot k3 (fun hk b hb => (hr.fown j _ hj (by cases k2 <;> first | rfl | cases hk) b hb).2.1)
        exact ⟨[], ⟨L', f1, fun b hb => by have := f2 b hb; cases k2 <;> first | exact this | exact hr.SB b this⟩, fun h => by cases h⟩
      split at h
      · rename_i s s'
        obtain ⟨rfl, h⟩ := h
        obtain ⟨L', g1, g2, g3⟩ := k3
        split at h
        · rename_i hp
          have := plainEs_own hp g1
          subst this
          exact same h ⟨fun _ => rfl, fun h => h⟩ hsrc ⟨[], ⟨[], g1, by simp, by simp⟩, fun _ => by intro b hb; cases hb⟩
        · have hr1 := hr.drop j
          refine ⟨es, [j], _, h, by simpa using hne, fun _ => rfl, fun h => h, us, hsrc, hv, S, rfl, fun b hb => hb, fun b hb => hb, hr1, F j, ⟨L', g1, g2, g3⟩, fun _ b hb => ?_⟩
          obtain ⟨q1, q2, q3⟩ := hr.fown j _ hj rfl b hb
          refine ⟨q1, q2, q3, fun j' oj hj' hoj hbj => ?_⟩
          rcases set_get (l := σ.ob) hj' with ⟨_, rfl⟩ | ⟨hne', hj2⟩
          · cases hoj
          · exact hr.fsep j j' _ oj (Ne.symm hne') hj hj2 rfl hoj b hb hbj
      · exact same h ⟨(fun h => by cases h), (fun h => by first | rfl | cases h)⟩ hsrc ⟨[], k3, fun h => by cases h⟩
      · rename_i s
        obtain ⟨L', g1, g2, g3⟩ := k3
        obtain ⟨L2, f1, f2⟩ := ownEs_foot s es g1
        obtain ⟨hv1, S1, e1, b1, s1, s2, hr1, _⟩ := hr.kill j
        exact ⟨es, [j], _, h, by simpa using hne, (fun h => by cases h), (fun h => by cases h), us, hsrc, hv1, S1, e1, b1, s1, hr1, [], ⟨L2, f1, fun b hb => s2 _ hj (by simp) b (.inr ⟨rfl, g3 b (f2 b hb)⟩)⟩, fun h => by cases h⟩
      · exact same h ⟨(fun h => by cases h), (fun h => by first | rfl | cases h)⟩ hsrc ⟨[], k3, fun h => by cases h⟩
      · exact same h ⟨(fun h => by cases h), (fun h => by first | rfl | cases h)⟩ hsrc asBor
    · cases h
  · cases h

/-- the elements of a row that is named anew, together with others -/
theorem Lies.join (hr : Rel w0 σ hv S F a w) {i : Nat} {e : TypeId} {m : Nat} {k k' : Kind} {es es2 : List T} {vs us : List Value} (hi : σ.ob[i]? = some (.arr e m k es)) (h1 : elsR hv S w (F i) k es vs) (h2 : Lies w0 σ.ob hv S F w k' es2 us) (hk : k'.isOwn = true → k' = k) (hk2 : k = .bor → k' = .bor) :
    ∃ S', (∀ b, S b → S' b) ∧ Rel w0 { σ with ob := σ.ob.set i .dead } hv S' F a w ∧ Lies w0 (σ.ob.set i .dead) hv S' F w k' (es ++ es2) (vs ++ us) := by
  have hr1 := hr.drop i
  obtain ⟨Fi, g1, g2⟩ := h2
  cases k' with
  | own s =>
    obtain rfl := hk rfl
    obtain ⟨L1, a1, a2, a3⟩ := h1
    obtain ⟨L2, c1, c2, c3⟩ := g1
    refine ⟨S, fun b hb => hb, hr1, F i ++ Fi, ⟨L1 ++ L2, ownEs_append a1 c1, List.nodup_append.2 ⟨a2, c2, fun b hb b' hb' e => ?_⟩, fun b hb => (List.mem_append.1 hb).elim (fun h => List.mem_append_left _ (a3 b h)) (fun h => List.mem_append_right _ (c3 b h))⟩, fun _ b hb => ?_⟩
    · subst e
      exact (g2 rfl b (c3 b hb')).2.2.2 i _ hi rfl (a3 b hb)
    · rcases List.mem_append.1 hb with hb | hb
      · obtain ⟨q1, q2, q3⟩ := hr.fown i _ hi rfl b hb
        refine ⟨q1, q2, q3, fun j oj hj hoj hbj => ?_⟩
        rcases set_get hj with ⟨_, rfl⟩ | ⟨hne, hj2⟩
        · cases hoj
        · exact hr.fsep i j _ oj (Ne.symm hne) hi hj2 rfl hoj b hb hbj
      · obtain ⟨q1, q2, q3, q4⟩ := g2 rfl b hb
        refine ⟨q1, q2, q3, fun j oj hj hoj => ?_⟩
        rcases set_get hj with ⟨_, rfl⟩ | ⟨_, hj2⟩
        · cases hoj
        · exact q4 j oj hj2 hoj
  | bor =>
    obtain ⟨L1, a1, a2⟩ := elsR_foot h1 (fun hk b hb => (hr.fown i _ hi (by cases k <;> first | rfl | cases hk) b hb).2.1)
    obtain ⟨L2, c1, c2⟩ := g1
    refine ⟨S, fun b hb => hb, hr1, [], ⟨L1 ++ L2, footTs_append a1 c1, fun b hb => ?_⟩, fun h => by cases h⟩
    rcases List.mem_append.1 hb with hb | hb
    · have := a2 b hb
      cases k <;> first | exact this | exact hr.SB b this
    · exact c2 b hb
  | clo =>
    obtain ⟨L2, c1, c2⟩ := g1
    have : ∃ S', (∀ b, S b → S' b) ∧ Rel w0 { σ with ob := σ.ob.set i .dead } hv S' F a w ∧ (k = .bor ∨ ∃ L1, footTs w es vs L1 ∧ ∀ b ∈ L1, S' b) := by
      cases k with
      | bor => exact ⟨S, fun b hb => hb, hr1, .inl rfl⟩
      | clo => obtain ⟨L1, a1, a2⟩ := h1; exact ⟨S, fun b hb => hb, hr1, .inr ⟨L1, a1, a2⟩⟩
      | own s =>
        obtain ⟨L1, a1, a2, a3⟩ := h1
        obtain ⟨L3, f1, f2⟩ := ownEs_foot s es a1
        refine ⟨fun b => S b ∨ b ∈ F i, fun b hb => .inl hb, hr1.moreS (fun b hb => .inl hb) (fun b hb => hb.elim (hr.SB b) fun hb => (hr.fown i _ hi rfl b hb).2.1) (fun j oj hj hoj b hb hh => ?_), .inr ⟨L3, f1, fun b hb => .inr (a3 b (f2 b hb))⟩⟩
        rcases set_get hj with ⟨_, rfl⟩ | ⟨hne, hj2⟩
        · cases hoj
        · rcases hh with hh | hh
          · exact (hr.fown j oj hj2 hoj b hb).2.2 hh
          · exact hr.fsep j i oj _ hne hj2 hi hoj rfl b hb hh
    obtain ⟨S', s1, hr2, h⟩ := this
    rcases h with rfl | ⟨L1, a1, a2⟩
    · cases hk2 rfl
    · exact ⟨S', s1, hr2, [], ⟨L1 ++ L2, footTs_append a1 c1, fun b hb => (List.mem_append.1 hb).elim (a2 b) (fun h => s1 b (c2 b h))⟩, fun h => by cases h⟩

theorem buildSlice_sound {o : Oper} {t : TypeId} {n : Nat} {parts : Array (Nat × Operand)} (ho : o.op = .buildSlice t n parts) (hr : Rel w0 σ hv S F a w)
    (h : vcBuildSlice P t n (parts.toList.map (·.1)) (parts.toList.map fun p => σ.opd p.2) σ.ob K) (hn : Ans w0 σ a K next) : Does P Q o a w next := by
  unfold vcBuildSlice at h
  split at h
  · rename_i e m hl
    obtain ⟨hks, hsz, hnB, hz, h⟩ := h
    obtain ⟨hu, hm, inf, hinf⟩ := lay_sli hl
    split at h
    · rename_i ys ids k htk
      obtain ⟨hnd, hal, hon, h⟩ := h
      obtain ⟨L, f1, f2⟩ := foots_opds hr (parts.toList.map (·.2))
      simp only [List.map_map] at f1
      obtain ⟨hv1, S1, e1, b1, s1, hr1, Fi, hels, hown, _⟩ := mix_sound hr htk (nodupB_spec hnd) f1 f2
      obtain ⟨L', g1, _⟩ := elsR_foot hels (fun hk b hb => ((hown hk).2.1 b hb).2.1)
      obtain ⟨z, hz⟩ := Option.isSome_iff_exists.1 hz
      generalize hvs : parts.toList.map (a.eval ∘ fun x => x.2) = vs at *
      have hlen : vs.length = n := by
        rw [← hvs, List.length_map]
        have := congrArg List.length hks
        simpa using this
      have hlen2 : ys.length = n := by rw [← footTs_length g1, hlen]
      have hsizes := sizes_of g1 hal
      have hparts : (parts.map fun (p : Nat × Operand) => (p.1, a.eval p.2)).toList = (List.range' 0 vs.length).zip vs := by
        rw [hlen, ← hks, ← hvs, Array.toList_map, List.zip_map', ]
        rfl
      have hfill : Instr.fill (fun i => some (i * m, m)) ((Array.range (n * m)).map (((if n * m = 0 then #[] else z.cells) : Array Value)[· % ((if n * m = 0 then #[] else z.cells) : Array Value).size]!)) ((parts.map fun (p : Nat × Operand) => (p.1, a.eval p.2)).toList) = some (cellsL vs).toArray := by
        rw [hparts, fill_full m vs 0 _ hsizes (by simp [hlen])]
        simp
      have hrun : (Instr.buildSlice t n (parts.map fun (p : Nat × Operand) => (p.1, a.eval p.2))).run P w = .ok (.slice (some ⟨w.heap.size, 0, none⟩) n n) (w.alloc (.cells (cellsL vs).toArray e)) := by
        simp only [Instr.buildSlice, Sem.run_bind, run_underlying hu, Result.andThen_ok, run_sizeOf w hinf, hm]
        rw [if_neg (by omega)]
        by_cases h0 : n * m = 0
        · simp only [h0, if_true] at hfill ⊢
          simp only [Sem.run_bind, Sem.run_pure, Result.andThen_ok, hfill]
          simp [newRow]
        · simp only [h0, if_false] at hfill ⊢
          simp only [Sem.run_bind, zero_run hz, Sem.run_pure, Result.andThen_ok, hfill]
          simp [newRow]
      refine does_value (v := .slice (some ⟨w.heap.size, 0, none⟩) n n) (w' := w.alloc (.cells (cellsL vs).toArray e)) (by simp [execOp, ho, hrun]) ?_
      have hcl : (cellsL vs).length = n * m := by
        have := cellsL_take vs hsizes
        have key : ∀ (l : List Value), (∀ v ∈ l, v.cells.size = m) → (cellsL l).length = l.length * m := by
          intro l
          induction l with
          | nil => intro _; simp [cellsL]
          | cons x l ih =>
            intro hh
            have := ih fun v hv => hh v (List.mem_cons_of_mem _ hv)
            have hx : x.cells.toList.length = m := by simpa using hh x (List.mem_cons_self ..)
            simp only [cellsL, List.flatMap_cons, List.length_append, hx, List.length_cons] at this ⊢
            rw [this, Nat.succ_mul]; omega
        rw [key vs hsizes, hlen]
      have hrow := World.ownsRow_lit (base := w.heap.size) (e := e) (size := m) w (cellsL vs).toArray n (Nat.le_refl _) (by have := Bd.hi; simp only [maxLen]; omega) (by simpa using hcl)
      obtain ⟨hv', S', F', q1, q2, q3, q4⟩ := hr1.newrow (Grew.alloc w _) (k := k) (es := ys) (vs := vs) ⟨Fi, hels, fun hk => (hown hk).2.1⟩ (e := e) (m := m) (v := .slice (some ⟨w.heap.size, 0, none⟩) n n) (by rw [hlen2]; simpa using hrow) hsizes (by rw [hlen2]; exact hnB) (ones_of g1 hon) rfl
      exact hn _ _ _ _ hv' S' F' [] h q4 (by simp only [footA]; exact ⟨by rw [← q3]; simp [killAll_length], trivial⟩) (by simp) (by simp [AV.under, killAll_length])
    · cases h
  · cases h

theorem append_sound {o : Oper} {c : Call} {t : TypeId} {s x : Operand} (ho : o.op = .call c) (hc : c.callee = .builtin .append) (ha : c.args.toList = [s, x]) (ht : c.argTypes.toList = [t, t])
    (hr : Rel w0 σ hv S F a w) (h : vcAppend P t (σ.opd s) (σ.opd x) σ.ob K) (hn : Ans w0 σ a K next) : Does P Q o a w next := by
  have ha' : c.args = #[s, x] := by apply Array.ext'; simpa using ha
  have ht' : c.argTypes = #[t, t] := by apply Array.ext'; simpa using ht
  have run : ∀ {v : Value} {w' : World}, (Builtin.append_ #[t, t] o.type #[a.eval s, a.eval x]).run P w = .ok v w' → (execOp a.eval o).run P w = .ok (.value v) w' := by
    intro v w' h2
    simp [execOp, ho, resolve, hc, ha', ht', invoke, builtin, h2]
  obtain ⟨⟨Ls, fs, _⟩, _⟩ := hr.arg s
  have hb0 := hr.below.size
  unfold vcAppend at h
  split at h
  · rename_i e m hl
    obtain ⟨hm0, hz, hby, h⟩ := h
    split at h
    · rename_i i hs
      rw [hs] at fs
      simp only [footA] at fs
      obtain ⟨fs, _⟩ := fs
      split at h
      · rename_i e' m' k es hi
        obtain ⟨rfl, rfl, h⟩ := h
        obtain ⟨es2, ids, k', ⟨hlen, hK⟩, hni, hk1, hk2, us, src, hv1, S1, e1, b1, s1, hr1, hlies⟩ := srcOf_sound hr h
        obtain ⟨A, c2, u1, u5⟩ := src.val
        have hi1 : (BX.killAll ids σ.ob)[i]? = some (.arr e' m' k es) := by rw [killAll_keep ids _ i hni]; exact hi
        obtain ⟨vs, k1, k2, k3, k4⟩ := hr1.ob i _ hi1
        have k1' : w.ownsRow 0 e' m' (hv i) es.length (cellsL vs) := by have h := k1; rw [e1] at h; exact h
        have hvl := elsR_length k2
        obtain ⟨v', w', r1, r2, r3, r4, r5⟩ := append_row (P := P) (w := w) hl hm0 hz hby (ty := o.type) k1' (Nat.zero_le _) hvl.symm k3 u1 src.len src.size src.ones u5 (by simpa using hlen)
        obtain ⟨S2, s2, hr2, hl2⟩ := Lies.join hr1 hi1 k2 hlies hk1 hk2
        obtain ⟨hv', S', F', q1, q2⟩ := Rel.renew2 hr1 hi1 (by simp) (w' := w') (by rw [e1]; exact r3.1) r3.2 (v' := v') (e := e') (m := m') (k := k') (es := es ++ es2) (vs := vs ++ us) (by rw [List.length_append]; exact r2) (by rw [e1]; exact r4) r5 hr2 hl2
          (fun v hv => (List.mem_append.1 hv).elim (k3 v) (src.size v)) hlen (by rw [cellsL_append]; exact fun u hu => (List.mem_append.1 hu).elim (k4.2 u) (src.ones u))
        rw [← fs] at r1
        exact does_value (run r1) (hn _ _ _ _ hv' S' F' [] hK q1 (by simp only [footA]; exact ⟨by rw [← q2]; simp [killAll_length], trivial⟩) (by simp) (by simp [AV.under, killAll_length]))
      · cases h
    · rename_i hs
      rw [hs] at fs
      simp only [footA] at fs
      obtain ⟨fs, _⟩ := fs
      obtain ⟨es2, ids, k', ⟨hlen, hK⟩, hni, hk1, hk2, us, src, hv1, S1, e1, b1, s1, hr1, hlies⟩ := srcOf_sound hr h
      obtain ⟨A, c2, u1, u5⟩ := src.val
      obtain ⟨v', w', r1, r2, r3, r4, r5⟩ := append_row (P := P) (w := w) (v := .slice none 0 0) (n := 0) (vs := []) (base := w.heap.size) hl hm0 hz hby (ty := o.type) (World.ownsRow_nil w w.heap.size e m) (Nat.le_refl _) rfl (by simp) u1 src.len src.size src.ones u5 (by simpa using hlen)
      have g : Grew w w' := ⟨r3.1.os, r3.1.tape, r3.1.output, r3.1.size, fun k hk => r3.1.block k hk (by simp [blkOf]), r3.2⟩
      obtain ⟨hv', S', F', q1, q2, q3, q4⟩ := hr1.newrow g (k := k') (es := es2) (vs := us) hlies (e := e) (m := m) (v := v') (by simpa using r2) src.size hlen src.ones r5
      rw [← fs] at r1
      exact does_value (run r1) (hn _ _ _ _ hv' S' F' [] hK q4 (by simp only [footA]; exact ⟨by rw [← q3]; simp [killAll_length], trivial⟩) (by simp) (by simp [AV.under, killAll_length]))
    · cases h
  · cases h


mutual
/-- a literal that is closed as somebody's own, with no objects there -/
theorem own_lit {w : World} : ∀ (s : Sh) (x : AV) {y : T} {ids : List Nat} {v : Value} {L : List Nat}, x.own [] s = some (y, ids) → footA hv w x v L → ownT w s y v []
  | s, .t x, y, ids, v, L, h, hf => by
    rw [AV.own] at h
    split at h
    · rename_i hfit
      simp only [Option.some.injEq, Prod.mk.injEq] at h
      obtain ⟨rfl, rfl⟩ := h
      simp only [footA] at hf
      exact fits_own s x hfit hf
    · cases h
  | .ag ss, .ag cs, y, ids, v, L, h, hf => by
    simp only [AV.own] at h
    split at h
    · rename_i ys is hcs
      simp only [Option.some.injEq, Prod.mk.injEq] at h
      obtain ⟨rfl, rfl⟩ := h
      simp only [footA] at hf
      obtain ⟨vs, rfl, hf⟩ := hf
      simp only [ownT]
      exact ⟨vs, rfl, ownsL_lit ss cs hcs hf⟩
    · cases h
  | .sl e m s, .ns, y, ids, v, L, h, hf => by
    simp only [AV.own, Option.some.injEq, Prod.mk.injEq] at h
    obtain ⟨rfl, rfl⟩ := h
    simp only [footA] at hf
    have := Bd.lo
    simp only [ownT, ownEs]
    exact ⟨[], [], by rw [hf.1]; exact World.ownsRow_nil w 0 e m, ⟨rfl, rfl⟩, by simp, ⟨by simp; omega, by simp [ones, cellsL]⟩, by rw [hf.1]; rfl⟩
  | .sl e m s, .sr id, y, ids, v, L, h, _ => by simp [AV.own] at h
  | .leaf, .un, _, _, _, _, h, _ | .leaf, .ud, _, _, _, _, h, _ | .leaf, .ns, _, _, _, _, h, _ | .leaf, .bw _, _, _, _, _, h, _ | .leaf, .ag _, _, _, _, _, h, _ | .leaf, .tp _, _, _, _, _, h, _ | .leaf, .rf _ _, _, _, _, _, h, _ | .leaf, .ra _ _ _ _, _, _, _, _, h, _ | .leaf, .sv _ _ _ _, _, _, _, _, h, _ | .leaf, .sr _, _, _, _, _, h, _ | .leaf, .mr _, _, _, _, _, h, _ | .leaf, .it _, _, _, _, _, h, _ | .leaf, .fn _ _, _, _, _, _, h, _ => by simp [AV.own] at h
  | .ag _, .un, _, _, _, _, h, _ | .ag _, .ud, _, _, _, _, h, _ | .ag _, .ns, _, _, _, _, h, _ | .ag _, .bw _, _, _, _, _, h, _ | .ag _, .tp _, _, _, _, _, h, _ | .ag _, .rf _ _, _, _, _, _, h, _ | .ag _, .ra _ _ _ _, _, _, _, _, h, _ | .ag _, .sv _ _ _ _, _, _, _, _, h, _ | .ag _, .sr _, _, _, _, _, h, _ | .ag _, .mr _, _, _, _, _, h, _ | .ag _, .it _, _, _, _, _, h, _ | .ag _, .fn _ _, _, _, _, _, h, _ => by simp [AV.own] at h
  | .sl _ _ _, .un, _, _, _, _, h, _ | .sl _ _ _, .ud, _, _, _, _, h, _ | .sl _ _ _, .bw _, _, _, _, _, h, _ | .sl _ _ _, .ag _, _, _, _, _, h, _ | .sl _ _ _, .tp _, _, _, _, _, h, _ | .sl _ _ _, .rf _ _, _, _, _, _, h, _ | .sl _ _ _, .ra _ _ _ _, _, _, _, _, h, _ | .sl _ _ _, .sv _ _ _ _, _, _, _, _, h, _ | .sl _ _ _, .mr _, _, _, _, _, h, _ | .sl _ _ _, .it _, _, _, _, _, h, _ | .sl _ _ _, .fn _ _, _, _, _, _, h, _ => by simp [AV.own] at h
theorem ownsL_lit {w : World} : ∀ (ss : List Sh) (xs : List AV) {ys : List T} {ids : List Nat} {vs : List Value} {L : List Nat}, ownsL [] ss xs = some (ys, ids) → footAs hv w xs vs L → ownTs w ss ys vs []
  | [], [], ys, ids, vs, L, h, hf => by
    simp only [ownsL, Option.some.injEq, Prod.mk.injEq] at h
    obtain ⟨rfl, rfl⟩ := h
    simp only [footAs] at hf
    simp only [ownTs]; exact ⟨hf.1, trivial⟩
  | s :: ss, x :: xs, ys, ids, vs, L, h, hf => by
    simp only [ownsL] at h
    split at h
    · rename_i y i ys' i' h1 h2
      simp only [Option.some.injEq, Prod.mk.injEq] at h
      obtain ⟨rfl, rfl⟩ := h
      simp only [footAs] at hf
      obtain ⟨v, vs', L1, L2, rfl, rfl, f1, f2⟩ := hf
      simp only [ownTs]
      exact ⟨v, vs', [], [], rfl, rfl, own_lit s x h1 f1, ownsL_lit ss xs h2 f2⟩
    · cases h
  | [], _ :: _, _, _, _, _, h, _ => by simp [ownsL] at h
  | _ :: _, [], _, _, _, _, h, _ => by simp [ownsL] at h
end

theorem make_sound {o : Oper} {t : TypeId} {l c : Operand} (ho : o.op = .makeSlice t l c) (hr : Rel w0 σ hv S F a w) (h : vcMake P t (σ.opd l) (σ.opd c) σ.ob K) (hn : Ans w0 σ a K next) : Does P Q o a w next := by
  have al := hr.arg l
  have ac := hr.arg c
  unfold vcMake at h
  split at h
  · rename_i e m k n k' n' hl el ec
    obtain ⟨rfl, h0, hB, hm0, hby, h⟩ := h
    obtain ⟨hu, hm, inf, hinf⟩ := lay_sli hl
    split at h
    · rename_i z hz
      split at h
      · rename_i y ids' hy
        obtain ⟨hy1, hy2, hK⟩ := h
        rw [el] at al
        rw [ec] at ac
        obtain ⟨nn, rfl⟩ := Int.eq_ofNat_of_zero_le h0
        have hzz : inf.zero = some z := by simpa [zeroOf, hinf] using hz
        have hby2 : inf.bytes = P.bytesOf e := by simp [Program.bytesOf, hinf]
        have hsz : inf.size = m := by rw [← hm]; simp [Program.cellsOf, hinf]
        have hi := Bd.hi
        obtain ⟨w', r1, r2, r3, r3d⟩ := make_full (P := P) w w.heap.size t e inf z m hu hinf hzz hsz k k' nn (by rw [hby2, Nat.mul_comm]; exact Nat.le_trans (Nat.mul_le_mul_right _ (by omega : nn ≤ Bd.B)) hby) (by simp only [maxLen]; omega) (Nat.le_refl _)
        have hz0 := own_lit (hv := hv) (w := w) _ _ hy (ofV_foot hv w z)
        obtain ⟨Lz, hzf, _⟩ := ownT_foot _ _ hz0
        have hzs : z.cells.size = m := by rw [(footT_cells hzf).1, hy1]
        have hcl : (madeCells z.cells (nn * m)).toList = cellsL (List.replicate nn z) := by
          apply List.ext_getElem?
          intro j
          have hlen : (cellsL (List.replicate nn z)).length = nn * m := by
            have h := cellsL_length (m := m) (List.replicate nn z) (fun v hv => by rw [(List.mem_replicate.1 hv).2]; exact hzs)
            rwa [List.length_replicate] at h
          by_cases hj : j < nn * m
          · have hjd : j / m < nn := Nat.div_lt_of_lt_mul (by rw [Nat.mul_comm]; exact hj)
            have hjm : j % m < m := Nat.mod_lt _ hm0
            have := cellsL_get (m := m) (vs := List.replicate nn z) (fun v hv => by rw [(List.mem_replicate.1 hv).2]; exact hzs) (i := j / m) (v := z) (by simp [hjd]) hjm
            rw [Nat.mul_comm, Nat.div_add_mod] at this
            rw [this]
            simp only [madeCells, Array.toList_map, Array.toList_range, List.getElem?_map, List.getElem?_range hj, Option.map_some, hzs]
            have : j % m < z.cells.size := by omega
            simp [this]
          · rw [List.getElem?_eq_none (by simp [size_madeCells]; omega), List.getElem?_eq_none (by omega)]
        have hfz : ∀ k, ownEs w (shOf P 40 e) (List.replicate k y) (List.replicate k z) [] := by
          intro k
          induction k with
          | zero => simp [ownEs]
          | succ k ih => simp only [List.replicate_succ, ownEs]; exact ⟨z, _, [], [], rfl, rfl, hz0, ih⟩
        have g : Grew w w' := ⟨r3.os, r3.tape, r3.output, r3.size, fun k hk => r3.block k hk (by simp), r3d⟩
        obtain ⟨hv', S', F', q1, q2, q3, q4⟩ := hr.newrow g (k := .own (shOf P 40 e)) (es := List.replicate nn y) (vs := List.replicate nn z) ⟨[], ⟨[], hfz nn, by simp, by simp⟩, fun _ => by intro b hb; cases hb⟩ (e := e) (m := m)
          (v := .slice (some ⟨w.heap.size, 0, none⟩) nn nn) (by rw [List.length_replicate, ← hcl]; exact r2) (fun v hv => by rw [(List.mem_replicate.1 hv).2]; exact hzs) (by rw [List.length_replicate]; omega)
          (by
            intro u hu
            simp only [cellsL, List.mem_flatMap] at hu
            obtain ⟨v, hv, hu⟩ := hu
            rw [(List.mem_replicate.1 hv).2] at hu
            exact ones_cells hzf hy2 u hu) rfl
        refine does_value (v := .slice (some ⟨w.heap.size, 0, none⟩) nn nn) (w' := w') (by simp only [execOp, ho, al.i_inv, ac.i_inv, Sem.run_bind, r1, Result.andThen_ok, Sem.run_pure]) ?_
        simp only [Int.toNat_natCast] at hK
        exact hn _ _ _ _ hv' S' F' [] hK q4 (by simp only [footA]; exact ⟨q3.symm, trivial⟩) (by simp) (by simp [AV.under])
      · cases h
    · cases h
  · cases h

end

end Go.Proofs.Ythhgcklidfilfaa.BX
