/-
  From a contract of a law's function to the given statement: the arguments of every size read as trees.
-/
import Derived.Test.YthhgcklidfilfaaUt
import Derived.Carry
import Derived.OpenShut
namespace Go.Proofs.Ythhgcklidfilfaa.BX
set_option linter.unusedSectionVars false
set_option linter.unusedSimpArgs false
set_option linter.unusedVariables false
open Go Go.RowKit Go.ChangeShapes Go.WideShapes

/-- a byte -/
def eU8 (c : UInt8) : T := .i .u8 (c.toNat : Int)
mutual
/-- the greatest length of a list or a text -/
def T.mx : T → Nat
  | .s x => x.length
  | .ag cs => mxs cs
  | .sl es => max es.length (mxs es)
  | _ => 0
def mxs : List T → Nat
  | [] => 0
  | x :: xs => max x.mx (mxs xs)
end
mutual
/-- its integers fit their kinds -/
def T.wfi : T → Bool
  | .i k n => (Lit.int k n).wf
  | .ag cs => wfis cs
  | .sl es => wfis es
  | _ => true
def wfis : List T → Bool
  | [] => true
  | x :: xs => x.wfi && wfis xs
end
mutual
theorem mx_le_wt : ∀ x : T, x.mx ≤ x.wt
  | .s x => Nat.le_refl _
  | .ag cs => by simpa only [T.mx, T.wt] using mxs_le_wts cs
  | .sl es => by simp only [T.mx, T.wt]; have := mxs_le_wts es; omega
  | .b _ | .i _ _ | .tp _ | .po _ _ | .np | .nm | .ni | .ifc _ _ | .mp _ _ | .fn _ _ => by simp [T.mx]
theorem mxs_le_wts : ∀ xs : List T, mxs xs ≤ wts xs
  | [] => by simp [mxs]
  | x :: xs => by simp only [mxs, wts]; have := mx_le_wt x; have := mxs_le_wts xs; omega
end

theorem mx_of {x : T} {n : Nat} (h : x.wt ≤ n) : x.mx ≤ n := Nat.le_trans (mx_le_wt x) h
theorem mxs_nil {n : Nat} : mxs [] ≤ n := Nat.zero_le _
theorem mxs_cons {x : T} {xs : List T} {n : Nat} (h : x.mx ≤ n) (k : mxs xs ≤ n) : mxs (x :: xs) ≤ n := by simp only [mxs]; omega

@[reducible] def big : Bd := ⟨9223372036854775808, by omega, by omega⟩
@[reducible] def small : Bd := ⟨2147483648, by omega, by omega⟩

/-- the value reads as the tree, whatever the bound that the tree keeps -/
def Sees (w : World) (x : T) (v : Value) (L : List Nat) : Prop := x.mx < 9223372036854775808 ∧ x.wfi = true ∧ (∀ bd : Bd, x.mx < bd.B → @footT bd w x v L) ∧ ∀ b ∈ L, b < w.heap.size
def SeesL (w : World) (xs : List T) (vs : List Value) (L : List Nat) : Prop := mxs xs < 9223372036854775808 ∧ wfis xs = true ∧ (∀ bd : Bd, mxs xs < bd.B → @footTs bd w xs vs L) ∧ ∀ b ∈ L, b < w.heap.size

theorem SeesL.nil (w : World) : SeesL w [] [] [] := ⟨by simp [mxs], rfl, fun bd _ => by simp [footTs], by simp⟩
theorem SeesL.cons {w : World} {x : T} {xs : List T} {v : Value} {vs : List Value} {L M : List Nat} (h : Sees w x v L) (k : SeesL w xs vs M) : SeesL w (x :: xs) (v :: vs) (L ++ M) := by
  obtain ⟨h1, h2, h3, h4⟩ := h
  obtain ⟨k1, k2, k3, k4⟩ := k
  refine ⟨by simp only [mxs]; omega, by simp only [wfis, h2, k2, Bool.and_self], fun bd hb => ?_, fun b hb => (List.mem_append.1 hb).elim (h4 b) (k4 b)⟩
  simp only [mxs] at hb
  simp only [footTs]
  exact ⟨v, vs, L, M, rfl, rfl, h3 bd (by omega), k3 bd (by omega)⟩
theorem SeesL.append {w : World} {ys : List T} {us : List Value} {M : List Nat} (k : SeesL w ys us M) : ∀ {xs : List T} {vs : List Value} {L : List Nat}, SeesL w xs vs L → SeesL w (xs ++ ys) (vs ++ us) (L ++ M) := by
  have hmx : ∀ xs : List T, mxs (xs ++ ys) = max (mxs xs) (mxs ys) := by
    intro xs
    induction xs with
    | nil => simp [mxs]
    | cons x xs ih => simp only [List.cons_append, mxs, ih]; omega
  have hwf : ∀ xs : List T, wfis (xs ++ ys) = (wfis xs && wfis ys) := by
    intro xs
    induction xs with
    | nil => simp [wfis]
    | cons x xs ih => simp only [List.cons_append, wfis, ih, Bool.and_assoc]
  intro xs vs L h
  obtain ⟨h1, h2, h3, h4⟩ := h
  obtain ⟨k1, k2, k3, k4⟩ := k
  refine ⟨by rw [hmx]; omega, by rw [hwf, h2, k2]; rfl, fun bd hb => ?_, fun b hb => (List.mem_append.1 hb).elim (h4 b) (k4 b)⟩
  rw [hmx] at hb
  exact @footTs_append bd _ _ _ _ _ _ _ (h3 bd (by omega)) (k3 bd (by omega))

theorem SeesL.of {w : World} {α : Type} {h : α → T} : ∀ (l : List (α × Value × List Nat)), (∀ p ∈ l, Sees w (h p.1) p.2.1 p.2.2) → SeesL w (l.map fun p => h p.1) (l.map fun p => p.2.1) (l.flatMap fun p => p.2.2)
  | [], _ => .nil w
  | p :: l, hp => by
    simp only [List.map_cons, List.flatMap_cons]
    exact .cons (hp p (List.mem_cons_self ..)) (SeesL.of l fun q hq => hp q (List.mem_cons_of_mem _ hq))

/-- the cells of a value -/
theorem Sees.cells {w : World} {x : T} {v : Value} {L : List Nat} (h : Sees w x v L) : ∃ L', SeesL w x.cells v.cells.toList L' := by
  obtain ⟨h1, h2, h3, h4⟩ := h
  have hb := h3 big h1
  have one : v.cells = #[v] → x.cells = [x] → ∃ L', SeesL w x.cells v.cells.toList L' := by
    intro e1 e2
    rw [e1, e2]
    exact ⟨L ++ [], SeesL.cons ⟨h1, h2, h3, h4⟩ (SeesL.nil w)⟩
  cases x with
  | ag cs =>
    refine ⟨L, h1, h2, fun bd hbd => ?_, h4⟩
    have := h3 bd hbd
    simp only [footT] at this
    obtain ⟨vs, rfl, h⟩ := this
    simpa [Value.cells, T.cells] using h
  | b => simp only [footT] at hb; obtain ⟨rfl, _⟩ := hb; exact one rfl rfl
  | i => simp only [footT] at hb; obtain ⟨rfl, _⟩ := hb; exact one rfl rfl
  | s => simp only [footT] at hb; obtain ⟨rfl, _⟩ := hb; exact one rfl rfl
  | np => simp only [footT] at hb; obtain ⟨rfl, _⟩ := hb; exact one rfl rfl
  | nm => simp only [footT] at hb; obtain ⟨rfl, _⟩ := hb; exact one rfl rfl
  | ni => simp only [footT] at hb; obtain ⟨rfl, _⟩ := hb; exact one rfl rfl
  | tp cs => simp only [footT] at hb; obtain ⟨_, rfl, _⟩ := hb; exact one rfl rfl
  | sl es => simp only [footT] at hb; obtain ⟨_, _, rfl, _⟩ := hb; exact one rfl rfl
  | po => simp only [footT] at hb; obtain ⟨_, _, _, _, rfl, _⟩ := hb; exact one rfl rfl
  | ifc => simp only [footT] at hb; obtain ⟨_, rfl, _⟩ := hb; exact one rfl rfl
  | mp => simp only [footT] at hb; obtain ⟨_, _, _, _, _, _, rfl, _⟩ := hb; exact one rfl rfl
  | fn => simp only [footT] at hb; obtain ⟨_, rfl, _⟩ := hb; exact one rfl rfl

/-- what is laid as a value of this type reads as one of these trees -/
def Reads (P : Program) (t : TypeId) {α : Type} (g : α → T) : Prop :=
  ∀ {H : Type} (enc : TypeId × Value → H) (w : World) (base : Nat) (spare : Nat → Bool) (held : Bool) (fuel : Nat) (cs : List Value) (x : DataW H × List MemPlace), DataW.trod enc P w base spare held fuel t cs = some x →
    ∃ (a : α) (v : Value) (L : List Nat), v.cells.toList = cs ∧ ones cs ∧ Sees w (g a) v L

section
variable {P : Program} {t : TypeId}

theorem Reads.map {α β : Type} {g : α → T} {g' : β → T} (h : Reads P t g) (k : ∀ a, ∃ b, g a = g' b) : Reads P t g' := by
  intro H enc w base spare held fuel cs x hx
  obtain ⟨a, v, L, h1, h2, h3⟩ := h enc w base spare held fuel cs x hx
  obtain ⟨b, hb⟩ := k a
  exact ⟨b, v, L, h1, h2, hb ▸ h3⟩

theorem Reads.int {k : IntKind} (ht : P.underlying t = some (.int k)) : Reads P t (T.i k) := by
  intro H enc w base spare held fuel cs x hx
  obtain ⟨n, rfl, _, hw⟩ := DataW.trod_int ht hx
  exact ⟨n, .int k n, [], rfl, by simp [ones, Value.oneCell'], by simp [T.mx], hw, fun bd _ => by simp [footT], by simp⟩

theorem Reads.byte (ht : P.underlying t = some (.int .u8)) : Reads P t eU8 := by
  intro H enc w base spare held fuel cs x hx
  obtain ⟨n, rfl, _, hw⟩ := DataW.trod_int ht hx
  have hr : 0 ≤ n ∧ n < 256 := by
    have h : IntKind.u8.min ≤ n ∧ n ≤ IntKind.u8.max := by simpa [Lit.wf] using hw
    have h1 : IntKind.u8.min = 0 := by decide
    have h2 : IntKind.u8.max = 255 := by decide
    omega
  have he : eU8 (UInt8.ofNat n.toNat) = .i .u8 n := by
    unfold eU8
    rw [UInt8.toNat_ofNat', Nat.mod_eq_of_lt (by omega), Int.toNat_of_nonneg hr.1]
  refine ⟨UInt8.ofNat n.toNat, .int .u8 n, [], rfl, by simp [ones, Value.oneCell'], ?_⟩
  rw [he]
  exact ⟨by simp [T.mx], hw, fun bd _ => by simp [footT], by simp⟩

theorem Reads.bool (ht : P.underlying t = some .bool) : Reads P t T.b := by
  intro H enc w base spare held fuel cs x hx
  obtain ⟨n, rfl, _⟩ := DataW.trod_bool ht hx
  exact ⟨n, .bool n, [], rfl, by simp [ones, Value.oneCell'], by simp [T.mx], rfl, fun bd _ => by simp [footT], by simp⟩

theorem Reads.str (ht : P.underlying t = some .string) : Reads P t T.s := by
  intro H enc w base spare held fuel cs x hx
  obtain ⟨s, rfl, _, hw⟩ := DataW.trod_string ht hx
  have hl : s.data.toList.length ≤ 9223372036854775807 := by
    have : s.size = s.data.toList.length := by cases s; simp [ByteArray.size]
    rw [← this]
    exact hw
  refine ⟨s.data.toList, .string s, [], rfl, by simp [ones, Value.oneCell'], by simp only [T.mx]; omega, rfl, fun bd hb => ?_, by simp⟩
  simp only [footT]
  exact ⟨by cases s; first | rfl | trivial, trivial, hb⟩

theorem choose_list {β : Type} {R : Nat → β → Prop} : ∀ (n : Nat), (∀ i, i < n → ∃ b, R i b) → ∃ l : List β, l.length = n ∧ ∀ (i : Nat) (b : β), l[i]? = some b → R i b
  | 0, _ => ⟨[], rfl, by simp⟩
  | n + 1, h => by
    obtain ⟨l, h1, h2⟩ := choose_list n fun i hi => h i (by omega)
    obtain ⟨b, hb⟩ := h n (by omega)
    refine ⟨l ++ [b], by simp [h1], fun i c hc => ?_⟩
    rcases @app_get big _ _ _ _ _ hc with ⟨_, hc⟩ | ⟨hi, rfl⟩
    · exact h2 i c hc
    · rw [hi, h1]; exact hb

theorem laid_chunks {w : World} {b m : Nat} : ∀ (vs : List Value) (off : Nat), (∀ (i : Nat) (v : Value), vs[i]? = some v → v.cells.size = m ∧ ∀ k, k < m → w.cell? ⟨b, off + i * m + k, none⟩ = v.cells[k]?) → laid w b off (cellsL vs)
  | [], _, _ => by intro j v hj; simp [cellsL] at hj
  | v :: vs, off, h => by
    intro j u hj
    obtain ⟨h1, h2⟩ := h 0 v (by simp)
    simp only [cellsL, List.flatMap_cons] at hj
    rcases Nat.lt_or_ge j m with hjm | hjm
    · rw [List.getElem?_append_left (by simpa [h1] using hjm)] at hj
      have := h2 j hjm
      rw [Nat.zero_mul, Nat.add_zero] at this
      rw [this]
      simpa using hj
    · rw [List.getElem?_append_right (by simpa [h1] using hjm)] at hj
      have ih := laid_chunks vs (off + m) (fun i v hv => ⟨(h (i + 1) v (by simpa using hv)).1, fun k hk => by
        have := (h (i + 1) v (by simpa using hv)).2 k hk
        rwa [Nat.succ_mul, show off + (i * m + m) + k = off + m + i * m + k by omega] at this⟩) (j - m) u (by simpa [h1, cellsL] using hj)
      rwa [show off + m + (j - m) = off + j by omega] at ih

theorem cells?_get {w : World} {base n : Nat} {a : Addr} {cs : List Value} (h : w.cells? base a n = some cs) : cs.length = n ∧ ∀ i, i < n → w.cell? (a.add i) = cs[i]? := by
  unfold World.cells? at h
  split at h
  · exact ⟨by simpa using mapM_some_length h, fun i hi => mapM_some_get h i i (by simp [hi])⟩
  · cases h

theorem cell_lt {w : World} {a : Addr} {v : Value} (h : w.cell? a = some v) : a.block < w.heap.size := by
  unfold World.cell? at h
  rcases Nat.lt_or_ge a.block w.heap.size with h' | h'
  · exact h'
  · rw [Array.getElem?_eq_none h'] at h; cases h

theorem ones_flat {α : Type} {f : α → Value} {l : List α} (h : ∀ a ∈ l, ones (f a).cells.toList) : ones (cellsL (l.map f)) := by
  intro u hu
  simp only [cellsL, List.mem_flatMap, List.mem_map] at hu
  obtain ⟨v, ⟨a, ha, rfl⟩, hv⟩ := hu
  exact h a ha u hv

theorem Reads.slice {e : TypeId} {α : Type} {h : α → T} (ht : P.underlying t = some (.slice e)) (hm : 0 < P.cellsOf e) (he : Reads P e h) : Reads P t fun xs : List α => .sl (xs.map h) := by
  intro H enc w base spare held fuel cs x hx
  have nil : ∀ A c, ∃ L, Sees w (.sl (([] : List α).map h)) (.slice A 0 c) L := fun A c => ⟨[], by simp [T.mx, mxs], rfl, fun bd _ => by
    simp only [List.map_nil, footT]
    exact ⟨A, c, rfl, by simp, by have := bd.lo; simp; omega, .inl ⟨trivial, trivial⟩⟩, by simp⟩
  rcases DataW.trod_slice ht hx with ⟨rfl, _⟩ | ⟨a, len, cap, elems, rest, n, rfl, rfl, _, hb, hle, hcap, hlen, hel, _, _⟩
  · obtain ⟨L, hL⟩ := nil none 0
    exact ⟨[], .slice none 0 0, L, rfl, by simp [ones, Value.oneCell'], hL⟩
  by_cases h0 : len = 0
  · subst h0
    obtain ⟨L, hL⟩ := nil (some a) cap
    exact ⟨[], .slice (some a) 0 cap, L, rfl, by simp [ones, Value.oneCell'], hL⟩
  obtain ⟨b, off, spot⟩ := a
  have get : ∀ i, i < len → ∃ p : α × Value × List Nat, (p.2.1.cells.toList.length = P.cellsOf e ∧ ones p.2.1.cells.toList ∧ ∀ k, k < P.cellsOf e → w.cell? (((⟨b, off, spot⟩ : Addr).add (i * P.cellsOf e)).add k) = p.2.1.cells[k]?) ∧ Sees w (h p.1) p.2.1 p.2.2 := by
    intro i hi
    have hi' := hel i hi
    rw [List.getElem?_eq_getElem (by omega)] at hi'
    obtain ⟨cs', q1, q2⟩ := Option.bind_eq_some_iff.1 hi'
    obtain ⟨a', v, L, r1, r2, r3⟩ := he enc w base spare held n cs' _ q2
    obtain ⟨s1, s2⟩ := cells?_get q1
    refine ⟨(a', v, L), ⟨by simp only [r1, s1], by simpa only [r1] using r2, fun k hk => ?_⟩, r3⟩
    rw [s2 k hk, ← r1]
    simp
  have hspot : spot = none := by
    obtain ⟨p, ⟨h1, _, h2⟩, _⟩ := get 0 (by omega)
    have g0 := h2 0 hm
    rw [Array.getElem?_eq_getElem (by rw [← Array.length_toList]; omega)] at g0
    have := World.cell?_spot g0
    simpa [Addr.add] using this
  subst hspot
  obtain ⟨l, hl1, hl2⟩ := choose_list len get
  have hmem : ∀ p ∈ l, (p.2.1.cells.toList.length = P.cellsOf e ∧ ones p.2.1.cells.toList) ∧ Sees w (h p.1) p.2.1 p.2.2 := by
    intro p hp
    obtain ⟨i, hi⟩ := List.getElem?_of_mem hp
    obtain ⟨⟨h1, h2, _⟩, h3⟩ := hl2 i p hi
    exact ⟨⟨h1, h2⟩, h3⟩
  obtain ⟨k1, k2, k3, k4⟩ := SeesL.of (h := h) l fun p hp => (hmem p hp).2
  have hbl : b < w.heap.size := by
    obtain ⟨p, ⟨h1, _, h2⟩, _⟩ := get 0 (by omega)
    have g0 := h2 0 hm
    rw [Array.getElem?_eq_getElem (by rw [← Array.length_toList]; omega)] at g0
    have := cell_lt g0
    simpa [Addr.add] using this
  have hlen2 : len ≤ 9223372036854775807 := Nat.le_trans hle hcap
  refine ⟨l.map (·.1), .slice (some ⟨b, off, none⟩) len cap, b :: l.flatMap (fun p => p.2.2), rfl, by simp [ones, Value.oneCell'], ?_, ?_, fun bd hbd => ?_, fun c hc => ?_⟩
  · simp only [T.mx, List.map_map, List.length_map, hl1]
    simp only [Function.comp_def]
    omega
  · simp only [T.wfi, List.map_map, Function.comp_def]; exact k2
  · simp only [T.mx, List.map_map, List.length_map, hl1, Function.comp_def] at hbd
    have kk := k3 bd (by omega)
    simp only [footT, List.map_map, List.length_map, hl1, Function.comp_def]
    refine ⟨some ⟨b, off, none⟩, cap, rfl, hle, by omega, .inr ⟨b, off, l.map (fun p => p.2.1), _, P.cellsOf e, rfl, kk, fun v hv => ?_, rfl, laid_chunks (m := P.cellsOf e) _ _ fun i v hv => ?_, ones_flat fun p hp => (hmem p hp).1.2⟩⟩
    · obtain ⟨p, hp, rfl⟩ := List.mem_map.1 hv
      simpa using (hmem p hp).1.1
    · rw [List.getElem?_map, Option.map_eq_some_iff] at hv
      obtain ⟨p, hp, rfl⟩ := hv
      obtain ⟨⟨h1, _, h2⟩, _⟩ := hl2 i p hp
      refine ⟨by simpa using h1, fun k hk => ?_⟩
      have := h2 k hk
      rwa [add_plain, add_plain] at this
  · rcases List.mem_cons.1 hc with rfl | hc
    · exact hbl
    · exact k4 c hc

/-- a struct's fields -/
def fieldsAt (P : Program) (t : TypeId) : List (TypeId × Nat) := match P.underlying t with
  | some (.struct fs) => fs.toList.map fun f => (f.type, f.offset)
  | _ => []
def ReadsF (P : Program) (N : Nat) (fs : List (TypeId × Nat)) (k : Nat) {α : Type} (g : α → List T) : Prop :=
  ∀ {H : Type} (enc : TypeId × Value → H) (w : World) (base : Nat) (spare : Nat → Bool) (held : Bool) (fuel : Nat) (cs : List Value), cs.length = N →
    (∀ f ∈ fs, ∃ x, DataW.trod enc P w base spare held fuel f.1 ((cs.drop f.2).take (P.cellsOf f.1)) = some x) → ∃ a L, ones (cs.drop k) ∧ SeesL w (g a) (cs.drop k) L
theorem ReadsF.nil {N : Nat} : ReadsF P N [] N fun _ : Unit => [] := by
  intro H enc w base spare held fuel cs hcs _
  refine ⟨(), [], ?_⟩
  rw [List.drop_eq_nil_of_le (by omega)]
  exact ⟨by simp [ones], .nil w⟩
theorem ReadsF.cons {N k : Nat} {e : TypeId} {fs : List (TypeId × Nat)} {α β : Type} {h : α → T} {g : β → List T} (m : Nat) (hm : P.cellsOf e = m) (he : Reads P e h) (hf : ReadsF P N fs (k + m) g) : ReadsF P N ((e, k) :: fs) k fun p : α × β => (h p.1).cells ++ g p.2 := by
  intro H enc w base spare held fuel cs hcs hx
  obtain ⟨x, hx0⟩ := hx (e, k) (List.mem_cons_self ..)
  obtain ⟨a, v, L, h1, h2, h3⟩ := he enc w base spare held fuel _ x hx0
  obtain ⟨b, M, k1, k2⟩ := hf enc w base spare held fuel cs hcs fun f hf => hx f (List.mem_cons_of_mem _ hf)
  obtain ⟨L', hL⟩ := h3.cells
  dsimp only at h1 h2
  rw [hm] at h1 h2
  rw [h1] at hL
  have hsp : cs.drop k = (cs.drop k).take m ++ cs.drop (k + m) := by
    rw [← List.drop_drop, List.take_append_drop]
  refine ⟨(a, b), L' ++ M, ?_, ?_⟩
  · rw [hsp]
    intro u hu
    exact (List.mem_append.1 hu).elim (h2 u) (k1 u)
  · rw [hsp]
    exact SeesL.append k2 hL

theorem Reads.struct {fs : List (TypeId × Nat)} {α : Type} {g : α → List T} {N : Nat} (hN : P.cellsOf t = N) (h0 : fs ≠ []) (ht : fieldsAt P t = fs) (hf : ReadsF P N fs 0 g) : Reads P t fun a => .ag (g a) := by
  intro H enc w base spare held fuel cs x hx
  unfold fieldsAt at ht
  split at ht
  case h_2 => exact absurd ht.symm h0
  rename_i fs' hu
  obtain ⟨xs, n, rfl, _, hl, hxl, hxs⟩ := DataW.trod_struct hu hx
  obtain ⟨a, L, h1, h2⟩ := hf enc w base spare held n cs (by rw [hl, hN]) fun f hf => by
    rw [← ht, List.mem_map] at hf
    obtain ⟨f', hf', rfl⟩ := hf
    obtain ⟨i, hi⟩ := List.getElem?_of_mem hf'
    rw [Array.getElem?_toList] at hi
    have hil : i < xs.length := by rw [hxl]; exact (Array.getElem?_eq_some_iff.1 hi).1
    refine ⟨xs[i], ?_⟩
    rw [← List.getElem?_eq_getElem hil]
    exact hxs i f' hi
  rw [List.drop_zero] at h1 h2
  obtain ⟨k1, k2, k3, k4⟩ := h2
  refine ⟨a, .agg cs.toArray, L, by simp [Value.cells], h1, k1, k2, fun bd hb => ?_, k4⟩
  simp only [footT]
  exact ⟨cs, rfl, k3 bd hb⟩

/-- a parameter reads as one of these trees -/
def ArrT (P : Program) (t : TypeId) {α : Type} (g : α → T) : Prop :=
  ∀ {H : Type} {enc : TypeId × Value → H} {W : World} {r : Reach} {b0 base : Nat} {spare : Nat → Bool} {held : Bool} {v : Value} {d : DataW H} {p : List MemPlace}, Value.okWide P W r b0 t v → DataW.Trod enc P W base spare held t v d p → ∃ a L, Sees W (g a) v L

theorem same_val {v v' : Value} (h : v.cells.toList = v'.cells.toList) (h1 : v.oneCell' = true) (h2 : v'.oneCell' = true) : v = v' := by
  rw [@cells_of_one big _ h1, @cells_of_one big _ h2] at h
  simpa using h

theorem ArrT.of_one {α : Type} {g : α → T} (hr : Reads P t g) (hg : ∀ a, (g a).one = true) (hv : ∀ {W : World} {r : Reach} {b0 : Nat} {v : Value}, Value.okWide P W r b0 t v → v.oneCell' = true) : ArrT P t g := by
  intro H enc W r b0 base spare held v d p hval hd
  obtain ⟨fuel, hf⟩ := hd
  obtain ⟨a, v', L, h1, h2, h3⟩ := hr enc W base spare held fuel _ _ hf
  have hv' : v'.oneCell' = true := by
    have h3' := h3.2.2.1 big h3.1
    have hga := hg a
    generalize g a = x at h3' hga
    cases x <;> first | (simp [T.one] at hga; done) | skip
    all_goals (simp only [footT] at h3')
    case b => obtain ⟨rfl, _⟩ := h3'; rfl
    case i => obtain ⟨rfl, _⟩ := h3'; rfl
    case s => obtain ⟨rfl, _⟩ := h3'; rfl
    case np => obtain ⟨rfl, _⟩ := h3'; rfl
    case nm => obtain ⟨rfl, _⟩ := h3'; rfl
    case ni => obtain ⟨rfl, _⟩ := h3'; rfl
    case sl => obtain ⟨_, _, rfl, _⟩ := h3'; rfl
    case po => obtain ⟨_, _, _, _, rfl, _⟩ := h3'; rfl
    case ifc => obtain ⟨_, rfl, _⟩ := h3'; rfl
    case mp => obtain ⟨_, _, _, _, _, _, rfl, _⟩ := h3'; rfl
    case fn => obtain ⟨_, rfl, _⟩ := h3'; rfl
  exact ⟨a, L, same_val h1.symm (hv hval) hv' ▸ h3⟩

theorem ArrT.int {k : IntKind} (ht : P.underlying t = some (.int k)) : ArrT P t (T.i k) := ArrT.of_one (Reads.int ht) (fun _ => rfl) fun h => by obtain ⟨n, rfl⟩ := okWide_int ht h; rfl
theorem ArrT.bool (ht : P.underlying t = some .bool) : ArrT P t T.b := ArrT.of_one (Reads.bool ht) (fun _ => rfl) fun h => by obtain ⟨n, rfl⟩ := okWide_bool ht h; rfl
theorem ArrT.str (ht : P.underlying t = some .string) : ArrT P t T.s := ArrT.of_one (Reads.str ht) (fun _ => rfl) fun h => by obtain ⟨n, rfl⟩ := okWide_string ht h; rfl
theorem ArrT.slice {e : TypeId} {α : Type} {h : α → T} (ht : P.underlying t = some (.slice e)) (hr : Reads P t fun xs : List α => .sl (xs.map h)) : ArrT P t fun xs : List α => .sl (xs.map h) := ArrT.of_one hr (fun _ => rfl) fun h => by obtain ⟨_, _, _, rfl⟩ := okWide_slice ht h; rfl
theorem ArrT.struct {fs : List (TypeId × Nat)} {α : Type} {g : α → T} (h0 : fs ≠ []) (ht : fieldsAt P t = fs) (hg : ∀ a, (g a).isAg = true) (hr : Reads P t g) : ArrT P t g := by
  intro H enc W r b0 base spare held v d p hval hd
  unfold fieldsAt at ht
  split at ht
  case h_2 => exact absurd ht.symm h0
  rename_i fs' hu
  obtain ⟨cs, rfl, _⟩ := okWide_struct hu hval
  obtain ⟨fuel, hf⟩ := hd
  obtain ⟨a, v', L, h1, h2, h3⟩ := hr enc W base spare held fuel _ _ hf
  refine ⟨a, L, ?_⟩
  have : v' = .agg cs := by
    have h3' := h3.2.2.1 big h3.1
    have hga := hg a
    generalize g a = x at h3' hga
    cases x <;> first | (simp [T.isAg] at hga; done) | skip
    simp only [footT] at h3'
    obtain ⟨vs, rfl, _⟩ := h3'
    simp only [Value.cells] at h1
    rw [← Array.toList_inj.1 h1]
  rw [← this]; exact h3
end

/-- THE WALK OF A LAW: what the contract says of a call over closed arguments -/
theorem Con.below [Bd] {P : Program} {f : FuncId} {ts : List T} (h : Con P f ts (.t (.b true)) []) {w : World} {vs : List Value} {L : List Nat} (hf : footTs w ts vs L) (hL : ∀ b ∈ L, b < w.heap.size) :
    Calls P f vs.toArray w fun e w' => e = .returned (.bool true) ∧ Below w.heap.size w w' := by
  have hS : ∀ b, b ∈ L → b < w.heap.size := hL
  have hlen : vs.length = ts.length := footTs_length hf
  have hnum : ∀ (xs : List T) (k t : Nat), getL (numA k (xs.map .t)) t = .un ∨ ∃ i x, t = k + i ∧ xs[i]? = some x ∧ getL (numA k (xs.map .t)) t = .t x := by
    intro xs
    induction xs with
    | nil => intro k t; exact .inl rfl
    | cons x xs ih =>
      intro k t
      simp only [List.map_cons, numA, getL]
      by_cases hk : t = k
      · subst hk
        exact .inr ⟨0, x, by omega, rfl, by simp⟩
      · simp only [hk, if_false]
        rcases ih (k + 1) t with h1 | ⟨i, y, h1, h2, h3⟩
        · exact .inl h1
        · exact .inr ⟨i + 1, y, by omega, by simpa using h2, h3⟩
  have hr : Rel ⟨w, fun b => b ∈ L, fun _ => False, ([] : List Ob).length, fun _ => .nilIface⟩ ⟨(ts.map AV.t).length, numA 0 (ts.map .t), []⟩ ⟨fun _ => .nilIface, fun b => b ∈ L⟩ (fun b => b ∈ L) (fun _ => []) ⟨vs.toArray, []⟩ w := by
    refine { size := by simp [hlen], defs := rfl, tm := fun t => ?_, utm := fun t => ?_, ob := fun id o hid => by simp at hid, uob := fun id o hid => by simp at hid, root := fun id o hid => by simp at hid, sep := fun i j oi oj _ hi => by simp at hi, SB := fun b hb => hb, Blt := fun b hb => hL b hb, Bin := fun b hb => .inl hb, fown := fun id o hid => by simp at hid, fsep := fun i j oi oj _ hi => by simp at hi, below := But.refl _ _ _, one := fun _ => rfl, an := Nat.le_refl _, av := fun i _ => rfl }
    · rcases hnum ts 0 t with h1 | ⟨i, x, h1, h2, h3⟩
      · rw [h1]; exact ⟨[], by simp [footA], by simp⟩
      · rw [h3]
        obtain ⟨v, L', q1, q2, q3⟩ := footTs_get hf h2
        refine ⟨L', ?_, q3⟩
        simp only [footA]
        have : (Act.tmps ⟨vs.toArray, []⟩).getD t undef = v := by
          rw [show t = i by omega]
          simp [q1]
        rw [this]; exact q2
    · rcases hnum ts 0 t with h1 | ⟨i, x, h1, h2, h3⟩
      · rw [h1]; rfl
      · rw [h3]; rfl
  refine (h.2 w (fun b => b ∈ L) (fun _ => False) vs ⟨fun _ => .nilIface, fun b => b ∈ L⟩ _ _ hr).mono fun e w' hh => ?_
  obtain ⟨v, hv', S', F', L', rfl, h1, h2, _⟩ := hh
  simp only [footA, footT] at h2
  obtain ⟨rfl, _⟩ := h2
  exact ⟨rfl, h1.below.os, h1.below.tape, h1.below.output, h1.below.size, fun k hk => h1.below.block k hk (fun h => h)⟩

theorem trodAll_stays {H : Type} {enc : TypeId × Value → H} {P : Program} (hl : laidOutB P = true) {W W' : World} (hb : Below W.heap.size W W') : ∀ {ts : List TypeId} {vs : List Value} {ds : List (DataW H)} {ps : List MemPlace}, (ts.all fun t => P.readableRec t && decide (t < P.types.size)) = true →
    DataW.TrodAll enc P W 0 (fun _ => true) true ts vs ds ps → (∀ x ∈ ps, x.block < W.heap.size) → DataW.TrodAll enc P W' 0 (fun b => decide (b < W.heap.size)) true ts vs ds ps
  | [], _, _, _, _, h, _ => by
    obtain ⟨rfl, rfl, rfl⟩ := trodAll_nil h
    exact trodAll_mk0
  | t :: ts, _, _, _, ht, h, hlt => by
    obtain ⟨v, vs, d, ds, p, q, rfl, rfl, rfl, h1, h2⟩ := trodAll_cons h
    simp only [List.all_cons, Bool.and_eq_true, decide_eq_true_eq] at ht
    exact trodAll_cons_mk (Below.trod hl ht.1.1 ht.1.2 h1 hb fun x hx => hlt x (List.mem_append_left _ hx)) (trodAll_stays hl hb (by simpa using ht.2) h2 fun x hx => hlt x (List.mem_append_right _ hx))

theorem post_of_below {H : Type} {enc : TypeId × Value → H} {P : Program} {f : Func} {s : ChangeSpec} {tb : TypeId} {apart : Bool} {W W' : World} {args : Array Value} {ds gs : List (DataW H)} {before : List MemPlace}
    (hW : DataW.Whole enc P f.params.toList s.vars apart W args.toList ds gs before) (hv : s.vars = []) (hb : Below W.heap.size W W') (hl : laidOutB P = true) (ht : (f.params.toList.all fun t => P.readableRec t && decide (t < P.types.size)) = true)
    (hr : f.resultTypes = #[tb]) (htb : P.underlying tb = some .bool) (hfn : ∀ ds, gs = [] → ds.length = f.params.size → (s.fn H (ds ++ gs)).results = [.lit (.bool true)] ∧ (s.fn H (ds ++ gs)).args = ds ∧ (s.fn H (ds ++ gs)).vars = []) :
    s.post enc P f apart true false false W args (.bool true) W' := by
  have hlt := hW.lt
  have hW' := hW
  obtain ⟨p, q, h1, h2, rfl, h3, h4⟩ := hW
  rw [hv] at h2
  obtain ⟨rfl, rfl⟩ := trodVars_none h2
  have hlen : ∀ (ts : List TypeId) (vs : List Value) (ds : List (DataW H)) (p : List MemPlace), DataW.TrodAll enc P W 0 (fun _ => true) true ts vs ds p → ds.length = ts.length := by
    intro ts
    induction ts with
    | nil => intro vs ds p h; obtain ⟨_, rfl, _⟩ := trodAll_nil h; rfl
    | cons t ts ih => intro vs ds p h; obtain ⟨v, vs, d, ds, p, q, rfl, rfl, rfl, _, h2⟩ := trodAll_cons h; simp [ih _ _ _ h2]
  obtain ⟨e1, e2, e3⟩ := hfn ds rfl (by rw [hlen _ _ _ _ h1]; simp)
  simp only [List.append_nil] at hlt
  refine ⟨ds, [], p ++ [], [], p, [], hW', ?_, ?_, ?_, ?_, fun h => by cases h⟩
  · rw [e1, hr]
    exact trodAll_cons_mk (shut_bool htb _) trodAll_mk0
  · rw [e2]
    exact trodAll_stays hl hb ht h1 hlt
  · rw [e3, hv]; exact rfl
  · exact hb.frame _

end Go.Proofs.Ythhgcklidfilfaa.BX
