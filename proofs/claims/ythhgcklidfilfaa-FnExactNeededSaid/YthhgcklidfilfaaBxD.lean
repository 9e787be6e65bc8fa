/-
  A frame for proofs over whole functions, second make, fourth part: single operations, operands, cells.
-/
import Derived.Test.YthhgcklidfilfaaBxC
import Derived.ChangeKeysEq
import Derived.Laws.Tables
import Derived.Laws.Strings
import Derived.WalkLawsBesides
namespace Go.Proofs.Ythhgcklidfilfaa.BX
set_option linter.unusedSectionVars false
set_option linter.unusedSimpArgs false
set_option linter.unusedVariables false
open Go Go.RowKit
variable [Bd]

/-- what an operation does, and what is done with its value -/
def Does (P : Program) (Q : Exit → Act → World → Prop) (o : Oper) (a : Act) (w : World) (next : Value → World → Prop) : Prop :=
  o.wp P a w (fun a' w' => ∃ v, a' = a.put o.dst v ∧ next v w') Q

theorem does_value {P : Program} {Q : Exit → Act → World → Prop} {o : Oper} {a : Act} {w w' : World} {next : Value → World → Prop} {v : Value}
    (h : (execOp a.eval o).run P w = .ok (.value v) w') (hn : next v w') : Does P Q o a w next := by
  unfold Does Oper.wp
  rw [h]
  exact ⟨v, rfl, hn⟩

theorem does_skip {P : Program} {Q : Exit → Act → World → Prop} {o : Oper} {a : Act} {w w' : World} {next : Value → World → Prop}
    (h : (execOp a.eval o).run P w = .ok .skip w') (hn : next undef w') : Does P Q o a w next := by
  unfold Does Oper.wp
  rw [h]
  exact ⟨undef, rfl, hn⟩

/-- the answers that an operation may give -/
def Ans (w0 : Base) (σ : St) (a : Act) (K : AV → List Ob → Prop) (next : Value → World → Prop) : Prop :=
  ∀ v w' x ob' (hv' : Hv) S' F' L, K x ob' → Rel w0 { σ with ob := ob' } hv' S' F' a w' → footA hv' w' x v L → (∀ b ∈ L, S' b) → x.under ob'.length = true → next v w'

/-- a literal -/
def ofS : Value → AV
  | .bool b => .t (.b b)
  | .int k n => .t (.i k n)
  | .string s => if s.data.toList.length < 1000 then .t (.s s.data.toList) else .un
  | .pointer none => .t .np
  | .slice none 0 0 => .ns
  | .map none => .t .nm
  | .nilIface => .t .ni
  | _ => .un
def ofV : Value → AV
  | .agg cs => .ag (cs.toList.map ofS)
  | v => ofS v

theorem ofS_foot (hv : Hv) (w : World) (v : Value) : footA hv w (ofS v) v [] := by
  unfold ofS
  split <;> try (simp [footA, footT]; done)
  split
  · rename_i s h
    simp only [footA, footT]
    exact ⟨by cases s; simp, trivial, by have := Bd.lo; omega⟩
  · simp [footA]

theorem ofS_foots (hv : Hv) (w : World) : ∀ vs : List Value, footAs hv w (vs.map ofS) vs []
  | [] => by simp [footAs]
  | v :: vs => by
    simp only [List.map_cons, footAs]
    exact ⟨v, vs, [], [], rfl, rfl, ofS_foot hv w v, ofS_foots hv w vs⟩

theorem ofV_foot (hv : Hv) (w : World) (v : Value) : footA hv w (ofV v) v [] := by
  unfold ofV
  split
  · rename_i cs
    simp only [footA]
    exact ⟨cs.toList, by simp, ofS_foots hv w _⟩
  · exact ofS_foot hv w v

theorem ofS_under (n : Nat) (v : Value) : (ofS v).under n = true := by
  unfold ofS
  split <;> try rfl
  split <;> rfl

theorem ofV_under (n : Nat) (v : Value) : (ofV v).under n = true := by
  unfold ofV
  split
  · simp only [AV.under]
    refine unders_of fun x hx => ?_
    simp only [List.mem_map] at hx
    obtain ⟨u, _, rfl⟩ := hx
    exact ofS_under n u
  · exact ofS_under n v

def St.opd (σ : St) : Operand → AV
  | .tmp t => getL σ.tm t
  | .const v => ofV v
  | .func f => .fn f []
  | .global _ => .un

theorem Rel.opd {w0 : Base} {σ : St} {hv : Hv} {S : Nat → Prop} {F : Nat → List Nat} {a : Act} {w : World} (h : Rel w0 σ hv S F a w) (x : Operand) :
    (∃ L, footA hv w (σ.opd x) (a.eval x) L ∧ ∀ b ∈ L, S b) ∧ (σ.opd x).under σ.ob.length = true := by
  cases x with
  | tmp t => exact ⟨h.tm t, h.utm t⟩
  | const v => exact ⟨⟨[], ofV_foot hv w v, by simp⟩, ofV_under _ v⟩
  | func f => exact ⟨⟨[], by simp [St.opd, footA, footAs, Act.eval], by simp⟩, by simp [St.opd, AV.under, unders]⟩
  | global g => exact ⟨⟨[], by simp [St.opd, footA], by simp⟩, rfl⟩

/-! ### cells -/

theorem cells_of_one {v : Value} (h : v.oneCell' = true) : v.cells = #[v] := by
  cases v <;> first | rfl | (simp [Value.oneCell'] at h)

theorem footT_cells {w : World} {x : T} {v : Value} {L : List Nat} (h : footT w x v L) : v.cells.size = x.cells.length ∧
    ∀ (j : Nat) y, x.cells[j]? = some y → ∃ u L', v.cells[j]? = some u ∧ footT w y u L' ∧ ∀ b ∈ L', b ∈ L := by
  have one : v.cells = #[v] → x.cells = [x] → v.cells.size = x.cells.length ∧ ∀ (j : Nat) y, x.cells[j]? = some y → ∃ u L', v.cells[j]? = some u ∧ footT w y u L' ∧ ∀ b ∈ L', b ∈ L := by
    intro h1 h2
    rw [h1, h2]
    refine ⟨rfl, fun j y hy => ?_⟩
    cases j with
    | zero => simp only [List.getElem?_cons_zero, Option.some.injEq] at hy; subst hy; exact ⟨v, L, by simp, h, fun b hb => hb⟩
    | succ j => simp at hy
  cases x with
  | ag cs =>
    simp only [footT] at h
    obtain ⟨vs, rfl, h⟩ := h
    refine ⟨by simp [Value.cells, T.cells, footTs_length h], fun j y hy => ?_⟩
    obtain ⟨u, L', h1, h2, h3⟩ := footTs_get h hy
    exact ⟨u, L', by simpa [Value.cells] using h1, h2, h3⟩
  | b => simp only [footT] at h; obtain ⟨rfl, _⟩ := h; exact one rfl rfl
  | i => simp only [footT] at h; obtain ⟨rfl, _⟩ := h; exact one rfl rfl
  | s => simp only [footT] at h; obtain ⟨rfl, _⟩ := h; exact one rfl rfl
  | np => simp only [footT] at h; obtain ⟨rfl, _⟩ := h; exact one rfl rfl
  | nm => simp only [footT] at h; obtain ⟨rfl, _⟩ := h; exact one rfl rfl
  | ni => simp only [footT] at h; obtain ⟨rfl, _⟩ := h; exact one rfl rfl
  | tp cs => have h' := h; simp only [footT] at h'; obtain ⟨vs, rfl, _⟩ := h'; exact one rfl rfl
  | sl es => have h' := h; simp only [footT] at h'; obtain ⟨A, c, rfl, _⟩ := h'; exact one rfl rfl
  | po y off => have h' := h; simp only [footT] at h'; obtain ⟨b, o, u, L', rfl, _⟩ := h'; exact one rfl rfl
  | ifc t y => have h' := h; simp only [footT] at h'; obtain ⟨u, rfl, _⟩ := h'; exact one rfl rfl
  | mp ks vs => have h' := h; simp only [footT] at h'; obtain ⟨r, es, c, l, L1, L2, rfl, _⟩ := h'; exact one rfl rfl
  | fn f cs => have h' := h; simp only [footT] at h'; obtain ⟨vs, rfl, _⟩ := h'; exact one rfl rfl

theorem bwc_foot {hv : Hv} {w : World} {x : T} {v : Value} {L : List Nat} (h : footT w x v L) (hL : ∀ b ∈ L, hv.B b) : footA hv w (.bwc x) v [] := by
  unfold AV.bwc
  split
  · rename_i hf
    simp only [footA]
    exact (flat_foot x hf h).2 w
  · simp only [footA]
    exact ⟨⟨L, h, hL⟩, trivial⟩

theorem footA_cells {hv : Hv} {w : World} {x : AV} {v : Value} {L : List Nat} (h : footA hv w x v L) (hk : x ≠ .un) (hs : ∀ id, (hv id).oneCell' = true) : v.cells.size = x.cells.length ∧
    ∀ (j : Nat) y, x.cells[j]? = some y → ∃ u L', v.cells[j]? = some u ∧ footA hv w y u L' ∧ ∀ b ∈ L', b ∈ L := by
  have one : v.cells = #[v] → x.cells = [x] → v.cells.size = x.cells.length ∧ ∀ (j : Nat) y, x.cells[j]? = some y → ∃ u L', v.cells[j]? = some u ∧ footA hv w y u L' ∧ ∀ b ∈ L', b ∈ L := by
    intro h1 h2
    rw [h1, h2]
    refine ⟨rfl, fun j y hy => ?_⟩
    cases j with
    | zero => simp only [List.getElem?_cons_zero, Option.some.injEq] at hy; subst hy; exact ⟨v, L, by simp, h, fun b hb => hb⟩
    | succ j => simp at hy
  cases x with
  | un => exact absurd rfl hk
  | t x =>
    simp only [footA] at h
    obtain ⟨h1, h2⟩ := footT_cells h
    refine ⟨by simp [AV.cells, h1], fun j y hy => ?_⟩
    simp only [AV.cells, List.getElem?_map, Option.map_eq_some_iff] at hy
    obtain ⟨z, hz, rfl⟩ := hy
    simpa only [footA] using h2 j z hz
  | bw x =>
    simp only [footA] at h
    obtain ⟨⟨L', h, hL⟩, rfl⟩ := h
    obtain ⟨h1, h2⟩ := footT_cells h
    refine ⟨by simp [AV.cells, h1], fun j y hy => ?_⟩
    simp only [AV.cells, List.getElem?_map, Option.map_eq_some_iff] at hy
    obtain ⟨z, hz, rfl⟩ := hy
    obtain ⟨u, L2, q1, q2, q3⟩ := h2 j z hz
    exact ⟨u, [], q1, bwc_foot q2 (fun b hb => hL b (q3 b hb)), by simp⟩
  | it id =>
    have h' := h
    simp only [footA] at h'
    obtain ⟨rfl, _⟩ := h'
    exact one (cells_of_one (hs id)) rfl
  | ag cs =>
    simp only [footA] at h
    obtain ⟨vs, rfl, h⟩ := h
    refine ⟨by simp [Value.cells, AV.cells, footAs_length h], fun j y hy => ?_⟩
    obtain ⟨u, L', h1, h2, h3⟩ := footAs_get h hy
    exact ⟨u, L', by simpa [Value.cells] using h1, h2, h3⟩
  | ud => simp only [footA] at h; obtain ⟨rfl, _⟩ := h; exact one rfl rfl
  | ns => simp only [footA] at h; obtain ⟨rfl, _⟩ := h; exact one rfl rfl
  | tp cs => have h' := h; simp only [footA] at h'; obtain ⟨vs, rfl, _⟩ := h'; exact one rfl rfl
  | fn f cs => have h' := h; simp only [footA] at h'; obtain ⟨vs, rfl, _⟩ := h'; exact one rfl rfl
  | rf id off => have h' := h; simp only [footA] at h'; obtain ⟨b, _, rfl, _⟩ := h'; exact one rfl rfl
  | ra id i m off => have h' := h; simp only [footA] at h'; obtain ⟨b, n, c, _, rfl, _⟩ := h'; exact one rfl rfl
  | sv id a m n => have h' := h; simp only [footA] at h'; rcases h'.1 with ⟨_, A, c, rfl⟩ | ⟨b, k, c, c', _, rfl, _⟩ <;> exact one rfl rfl
  | sr id =>
    have h' := h
    simp only [footA] at h'
    obtain ⟨rfl, _⟩ := h'
    exact one (cells_of_one (hs id)) rfl
  | mr id =>
    have h' := h
    simp only [footA] at h'
    obtain ⟨rfl, _⟩ := h'
    exact one (cells_of_one (hs id)) rfl

end Go.Proofs.Ythhgcklidfilfaa.BX
