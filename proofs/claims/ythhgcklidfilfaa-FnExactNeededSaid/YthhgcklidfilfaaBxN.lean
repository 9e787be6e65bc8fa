/-
  A frame for proofs over whole functions, second make, fourteenth part: maps.
-/
import Derived.Test.YthhgcklidfilfaaBxM
import Derived.Laws.StructEq
import Derived.WideKeyRuns
import Derived.MapKept
namespace Go.Proofs.Ythhgcklidfilfaa.BX
set_option linter.unusedSectionVars false
set_option linter.unusedSimpArgs false
set_option linter.unusedVariables false
open Go Go.RowKit
variable [Bd]

/-- the cells of a key -/
def keyTy (P : Program) (t : TypeId) : Option Lay :=
  match P.underlying t with
  | some (.int k) => some (.int k)
  | some .bool => some .bool
  | some .string => some .str
  | _ => none
def keyFs (P : Program) : List Field → Nat → Option (List Lay)
  | [], _ => some []
  | f :: fs, k => if f.name ≠ "_" ∧ f.offset = k ∧ (P.info? f.type).map (·.size) = some 1 then match keyTy P f.type, keyFs P fs (k + 1) with
      | some l, some ls => some (l :: ls)
      | _, _ => none
    else none
def keyLay (P : Program) (t : TypeId) : Option (Bool × List Lay) :=
  match P.underlying t with
  | some (.struct fs) => if P.stoodInHeld t = true then none else (keyFs P fs.toList 0).map (true, ·)
  | _ => (keyTy P t).map (false, [·])

def keyCell : Lay → T → Prop
  | .int k, .i k' _ => k' = k
  | .bool, .b _ => True
  | .str, .s _ => True
  | _, _ => False
def keyCells : List Lay → List T → Prop
  | [], [] => True
  | l :: ls, x :: xs => keyCell l x ∧ keyCells ls xs
  | _, _ => False
/-- a key of this make -/
def isKey : Bool × List Lay → T → Prop
  | (false, [l]), x => keyCell l x
  | (true, ls), .ag xs => keyCells ls xs
  | _, _ => False

section
variable {P : Program} {w : World}

theorem keyCell_cases {l : Lay} {x : T} (h : keyCell l x) : (∃ k n, l = .int k ∧ x = .i k n) ∨ (∃ b, l = .bool ∧ x = .b b) ∨ ∃ s, l = .str ∧ x = .s s := by
  cases l <;> cases x <;> simp only [keyCell] at h
  · subst h; exact .inl ⟨_, _, rfl, rfl⟩
  · exact .inr (.inl ⟨_, rfl, rfl⟩)
  · exact .inr (.inr ⟨_, rfl, rfl⟩)

theorem keyTy_spec {t : TypeId} {l : Lay} (h : keyTy P t = some l) : (∃ k, l = .int k ∧ P.underlying t = some (.int k)) ∨ (l = .bool ∧ P.underlying t = some .bool) ∨ (l = .str ∧ P.underlying t = some .string) := by
  unfold keyTy at h
  split at h <;> first | (cases h; done) | (simp only [Option.some.injEq] at h; subst h; first | exact .inl ⟨_, rfl, by assumption⟩ | exact .inr (.inl ⟨rfl, by assumption⟩) | exact .inr (.inr ⟨rfl, by assumption⟩))

/-- a cell's value, and that it is no other's -/
theorem keyCell_val {l : Lay} {x : T} {v : Value} {L : List Nat} (h : keyCell l x) (hf : footT w x v L) : (∃ k n, l = .int k ∧ x = .i k n ∧ v = .int k n) ∨ (∃ b, l = .bool ∧ x = .b b ∧ v = .bool b) ∨ ∃ s, l = .str ∧ x = .s s ∧ v = .string ⟨s.toArray⟩ := by
  rcases keyCell_cases h with ⟨k, n, rfl, rfl⟩ | ⟨b, rfl, rfl⟩ | ⟨s, rfl, rfl⟩ <;> simp only [footT] at hf
  · exact .inl ⟨k, n, rfl, rfl, hf.1⟩
  · exact .inr (.inl ⟨b, rfl, rfl, hf.1⟩)
  · exact .inr (.inr ⟨s, rfl, rfl, hf.1⟩)

theorem str_inj {s s' : List UInt8} : ((⟨s.toArray⟩ : ByteArray).toList == (⟨s'.toArray⟩ : ByteArray).toList) = decide (s = s') := by
  rw [toList_mk, toList_mk, Bool.eq_iff_iff]; simp

open Classical in
theorem eq_cell {t : TypeId} {l : Lay} (ht : keyTy P t = some l) {x y : T} {u v : Value} {L M : List Nat} (hx : keyCell l x) (hy : keyCell l y) (fx : footT w x u L) (fy : footT w y v M) (d : Nat) (W : World) :
    (Op.equalIn (d + 1) t u v).run P W = .ok (decide (x = y)) W := by
  rcases keyTy_spec ht with ⟨k, rfl, hu⟩ | ⟨rfl, hu⟩ | ⟨rfl, hu⟩
  · rcases keyCell_val hx fx with ⟨k1, n1, e1, rfl, rfl⟩ | ⟨_, e1, _⟩ | ⟨_, e1, _⟩ <;> cases e1
    rcases keyCell_val hy fy with ⟨k2, n2, e2, rfl, rfl⟩ | ⟨_, e2, _⟩ | ⟨_, e2, _⟩ <;> cases e2
    rw [run_equalIn_int W d t k k n1 n2 hu]
    congr 1
    rw [Bool.eq_iff_iff]; simp
  · rcases keyCell_val hx fx with ⟨k1, n1, e1, _⟩ | ⟨b1, e1, rfl, rfl⟩ | ⟨_, e1, _⟩ <;> cases e1
    rcases keyCell_val hy fy with ⟨k2, n2, e2, _⟩ | ⟨b2, e2, rfl, rfl⟩ | ⟨_, e2, _⟩ <;> cases e2
    rw [eqIn_bool hu d b1 b2 W]
    congr 1
    rw [Bool.eq_iff_iff]; simp
  · rcases keyCell_val hx fx with ⟨k1, n1, e1, _⟩ | ⟨_, e1, _⟩ | ⟨s1, e1, rfl, rfl⟩ <;> cases e1
    rcases keyCell_val hy fy with ⟨k2, n2, e2, _⟩ | ⟨_, e2, _⟩ | ⟨s2, e2, rfl, rfl⟩ <;> cases e2
    rw [run_equalIn_string W d t _ _ hu, str_inj]
    congr 1
    rw [Bool.eq_iff_iff]; simp

theorem keyTy_one {t : TypeId} {l : Lay} (ht : keyTy P t = some l) : (isAgg t).run P w = .ok false w := by
  rcases keyTy_spec ht with ⟨k, rfl, hu⟩ | ⟨rfl, hu⟩ | ⟨rfl, hu⟩ <;> simp [isAgg, run_underlying hu]

theorem part_cell {t : TypeId} {l : Lay} (ht : keyTy P t = some l) {vs : List Value} {k : Nat} {v : Value} (hv : vs[k]? = some v) : (part t vs.toArray k).run P w = .ok v w := by
  simp [part, keyTy_one ht, hv]

open Classical in
theorem eq_cells : ∀ (fs : List Field) (k : Nat) (ls : List Lay), keyFs P fs k = some ls → ∀ (xs ys : List T) (us vs : List Value) (L M : List Nat), keyCells ls xs → keyCells ls ys → footTs w xs (us.drop k) L → footTs w ys (vs.drop k) M → ∀ (d : Nat) (W : World),
    (Op.eqFields (d + 1) us.toArray vs.toArray fs).run P W = .ok (decide (xs = ys)) W
  | [], k, ls, h, xs, ys, us, vs, L, M, hx, hy, fx, fy, d, W => by
    simp only [keyFs, Option.some.injEq] at h
    subst h
    cases xs <;> cases ys <;> simp only [keyCells] at hx hy
    simp [Op.eqFields]
  | f :: fs, k, ls, h, xs, ys, us, vs, L, M, hx, hy, fx, fy, d, W => by
    simp only [keyFs] at h
    split at h
    case isFalse => cases h
    rename_i hc
    obtain ⟨hc1, hc2, hc3⟩ := hc
    split at h
    case h_2 => cases h
    rename_i l ls' h1 h2
    simp only [Option.some.injEq] at h
    subst h
    cases xs with
    | nil => simp only [keyCells] at hx
    | cons x xs =>
      cases ys with
      | nil => simp only [keyCells] at hy
      | cons y ys =>
        simp only [keyCells] at hx hy
        simp only [footTs] at fx fy
        obtain ⟨u, us', L1, L2, e1, _, a1, a2⟩ := fx
        obtain ⟨v, vs', M1, M2, e2, _, b1, b2⟩ := fy
        have hu : us[k]? = some u := by have := congrArg (·[0]?) e1; simpa using this
        have hv : vs[k]? = some v := by have := congrArg (·[0]?) e2; simpa using this
        have hus : us.drop (k + 1) = us' := by rw [← List.drop_drop, e1]; rfl
        have hvs : vs.drop (k + 1) = vs' := by rw [← List.drop_drop, e2]; rfl
        subst hc2
        simp only [Op.eqFields, if_pos hc1, Sem.run_bind, part_cell h1 hu, part_cell h1 hv, Result.andThen_ok, eq_cell h1 hx.1 hy.1 a1 b1 d]
        by_cases hxy : x = y
        · subst hxy
          rw [decide_eq_true rfl]
          simp only [Bool.not_true, Bool.false_eq_true, if_false]
          rw [eq_cells fs (f.offset + 1) ls' h2 xs ys us vs L2 M2 hx.2 hy.2 (by rw [hus]; exact a2) (by rw [hvs]; exact b2) d W]
          congr 1
          rw [Bool.eq_iff_iff]; simp
        · rw [decide_eq_false hxy]
          simp [hxy]

/-- '==' of two keys -/
theorem eq_key {t : TypeId} {s : Bool × List Lay} (hs : keyLay P t = some s) {x y : T} {u v : Value} {L M : List Nat} (hx : isKey s x) (hy : isKey s y) (fx : footT w x u L) (fy : footT w y v M) (W : World) :
    (Op.equal t u v).run P W = .ok (@decide (x = y) (Classical.propDecidable _)) W := by
  unfold keyLay at hs
  split at hs
  · rename_i fs hu
    split at hs
    · cases hs
    rename_i hst
    simp only [Option.map_eq_some_iff] at hs
    obtain ⟨ls, hls, rfl⟩ := hs
    cases x <;> simp only [isKey] at hx
    cases y <;> simp only [isKey] at hy
    rename_i xs ys
    simp only [footT] at fx fy
    obtain ⟨us, rfl, fx⟩ := fx
    obtain ⟨vs, rfl, fy⟩ := fy
    have hf : P.fieldsOf t = fs := by simp [Program.fieldsOf, hu]
    show (Op.equalIn (9998 + 1 + 1) t _ _).run P W = _
    rw [run_equalIn_struct W (9998 + 1) t us.toArray vs.toArray (by rw [hf]; exact hu) (by cases h : P.stoodInHeld t <;> simp_all), hf]
    rw [eq_cells fs.toList 0 ls hls xs ys us vs _ _ hx hy fx fy]
    congr 1
    rw [Bool.eq_iff_iff]; simp
  · simp only [Option.map_eq_some_iff] at hs
    obtain ⟨l, hl, rfl⟩ := hs
    simp only [isKey] at hx hy
    exact eq_cell hl hx hy fx fy 9999 W

theorem checkKey_cell {t : TypeId} {l : Lay} (ht : keyTy P t = some l) {x : T} {v : Value} {L : List Nat} (hx : keyCell l x) (fx : footT w x v L) (e : Bool) (n : Nat) (W : World) : (Instr.checkKey e (n + 1) t v).run P W = .ok () W := by
  rcases keyTy_spec ht with ⟨k, rfl, hu⟩ | ⟨rfl, hu⟩ | ⟨rfl, hu⟩
  · rcases keyCell_val hx fx with ⟨k1, n1, e1, rfl, rfl⟩ | ⟨_, e1, _⟩ | ⟨_, e1, _⟩ <;> cases e1
    simp [Instr.checkKey, run_underlying hu]
  · rcases keyCell_val hx fx with ⟨k1, n1, e1, _⟩ | ⟨b1, e1, rfl, rfl⟩ | ⟨_, e1, _⟩ <;> cases e1
    simp [Instr.checkKey, run_underlying hu]
  · rcases keyCell_val hx fx with ⟨k1, n1, e1, _⟩ | ⟨_, e1, _⟩ | ⟨s1, e1, rfl, rfl⟩ <;> cases e1
    simp [Instr.checkKey, run_underlying hu]

theorem checkKey_run {t : TypeId} {s : Bool × List Lay} (hs : keyLay P t = some s) {x : T} {v : Value} {L : List Nat} (hx : isKey s x) (fx : footT w x v L) (e : Bool) (W : World) : (Instr.checkKey e 10000 t v).run P W = .ok () W := by
  unfold keyLay at hs
  split at hs
  · rename_i fs hu
    split at hs
    · cases hs
    simp only [Option.map_eq_some_iff] at hs
    obtain ⟨ls, hls, rfl⟩ := hs
    cases x <;> simp only [isKey] at hx
    rename_i xs
    simp only [footT] at fx
    obtain ⟨us, rfl, fx⟩ := fx
    show (Instr.checkKey e (9998 + 1 + 1) t _).run P W = _
    generalize 9998 = d
    have loop : ∀ (fs : List Field) (k : Nat) (ls : List Lay), keyFs P fs k = some ls → ∀ (xs : List T) (L : List Nat), keyCells ls xs → footTs w xs (us.drop k) L → 
        (forIn fs PUnit.unit (fun (f : Field) (_ : PUnit) => (do
          if f.name ≠ "_" then Instr.checkKey e (d + 1) f.type (← part f.type us.toArray f.offset)
          pure (ForInStep.yield PUnit.unit) : Sem (ForInStep PUnit)))).run P W = .ok PUnit.unit W := by
      intro fs
      induction fs with
      | nil => intro k ls _ xs L _ _; simp
      | cons f fs ih =>
        intro k ls h xs L hk hf
        simp only [keyFs] at h
        split at h
        case isFalse => cases h
        rename_i hc
        obtain ⟨hc1, hc2, hc3⟩ := hc
        split at h
        case h_2 => cases h
        rename_i l ls' h1 h2
        simp only [Option.some.injEq] at h
        subst h
        cases xs with
        | nil => simp only [keyCells] at hk
        | cons x xs =>
          simp only [keyCells] at hk
          simp only [footTs] at hf
          obtain ⟨u, us', L1, L2, e1, _, a1, a2⟩ := hf
          have hu : us[k]? = some u := by have := congrArg (·[0]?) e1; simpa using this
          have hus : us.drop (k + 1) = us' := by rw [← List.drop_drop, e1]; rfl
          subst hc2
          have := ih (f.offset + 1) ls' h2 xs L2 hk.2 (by rw [hus]; exact a2)
          simp only [List.forIn_cons, Sem.run_bind, Sem.run_ite, if_pos hc1, part_cell h1 hu, Result.andThen_ok, checkKey_cell h1 hk.1 a1 e d, Sem.run_pure]
          exact this
    have := loop fs.toList 0 ls hls xs L hx fx
    rw [Instr.checkKey]
    simp only [Sem.run_bind, run_underlying hu, Result.andThen_ok]
    rw [← Array.forIn_toList]
    simp only [ne_eq, Sem.run_bind] at this ⊢
    rw [this]
    rfl
  · simp only [Option.map_eq_some_iff] at hs
    obtain ⟨l, hl, rfl⟩ := hs
    simp only [isKey] at hx
    exact checkKey_cell hl hx fx e 9999 W

end

end Go.Proofs.Ythhgcklidfilfaa.BX
