/-
  Part 4 of what LFnExactMainOrder leans on: its texts, merged by a program (prune.py), with what it needs alone.
-/
import Derived.Test.YtmgdkkhnjkepiaaGreatQ3
namespace Go.Proofs.YtmgdkkhnjkepiaaGreat.BX
set_option linter.unusedSectionVars false
set_option linter.unusedSimpArgs false
set_option linter.unusedVariables false
open Go Go.RowKit
variable [Bd]
def Mkx (P : Program) (g : FuncId) (ts : Option (List T)) (sh : Bool) (ob : List Ob) (K : AV → List Ob → Prop) : Prop :=
  ∃ ts' x obs, Con P g ts' x obs ∧ ts = some ts' ∧ (x.noBw && obsNoBw obs) = true ∧ (sh = true ∨ (freshAV x = true ∧ freshOb obs = true)) ∧ K (x.ren (ob.length + ·)) (ob ++ obs.map (Ob.ren (ob.length + ·)))
def newOb : List Ob → List Ob → (List Ob → Prop) → Prop
  | [], ob', K => K ob'
  | o :: ob, ob', K => match ob' with
    | o' :: ob' => o = o' ∧ newOb ob ob' K
    | [] => False
theorem newOb_spec : ∀ {ob ob' : List Ob} {K : List Ob → Prop}, newOb ob ob' K → ∃ ext, ob' = ob ++ ext ∧ K ext
  | [], ob', K, h => ⟨ob', rfl, h⟩
  | o :: ob, [], K, h => h.elim
  | o :: ob, o' :: ob', K, h => by
    obtain ⟨rfl, h⟩ := h
    obtain ⟨ext, rfl, hk⟩ := newOb_spec h
    exact ⟨ext, rfl, hk⟩
def vcMkC (P : Program) (f : AV) (xs : List AV) (ob : List Ob) (K : AV → List Ob → Prop) : Prop :=
  match calleeOf xs.isEmpty f with
  | some (g, caps) => Mkx P g (seesW (AV.see ob 5) (xs ++ caps)) (shuts (xs ++ caps)).isSome ob K
  | none => False
def vcMk (P : Program) (B : Nat) (ob : List Ob) (e : Operand → AV) (op : Op) (K : AV → List Ob → Prop) : Prop :=
  match op with
  | .call c => match c.callee with
    | .value f => vcMkC P (e f) (c.args.toList.map e) ob K
    | .builtin .append => match c.args.toList, c.argTypes.toList with
      | [s, x], [t, t'] => t = t' ∧ vcAppend P t (e s) (e x) ob K
      | _, _ => False
    | _ => False
  | .buildSlice t n parts => vcBuildSlice P t n (parts.toList.map (·.1)) (parts.toList.map fun p => e p.2) ob fun x ob' => newOb (ob.take B) ob' fun _ => K x ob'
  | .alloc t => match zeroOf P t with
    | some z => K (.rf ob.length 0) (ob ++ [.box (ofV z)])
    | none => False
  | .box _ x => K (.rf ob.length 0) (ob ++ [.box (e x)])
  | .store t p x => match e p with
    | .rf id off => vcStore P t (.rf id off) (e x) ob K
    | _ => False
  | _ => False
def isSt : Op → Bool
  | .store .. => true
  | .call c => match c.callee with
    | .builtin _ => true
    | _ => false
  | _ => false
def isBs : Op → Bool
  | .buildSlice .. => true
  | _ => false
def isPure : Op → Bool
  | .extract .. | .move _ | .assign _ => true
  | _ => false
def opAt : List Oper → Nat → Option Oper
  | [], _ => none
  | o :: _, 0 => some o
  | _ :: os, j + 1 => opAt os j
theorem opAt_eq : ∀ (l : List Oper) (j : Nat), opAt l j = l[j]?
  | [], j => by simp [opAt]
  | o :: os, 0 => rfl
  | o :: os, j + 1 => by simp only [opAt, opAt_eq os j, List.getElem?_cons_succ]
def vcDm (P : Program) (all : Array Oper) (B : Nat) : List (Bool × Nat) → List Oper → St → (St → Prop) → Prop
  | [], rest, σ, K => vcOps P all rest σ K
  | (b, i) :: js, rest, σ, K => match opAt all.toList i with
    | some o => if b = true then o.guard = none ∧ dstOk σ.n o.dst ∧ vcMk P B σ.ob σ.opd o.op fun x ob => vcDm P all B js rest (({ σ with ob := ob } : St).set o.dst x) K
      else dstOk σ.n o.dst ∧ vcGuard all σ o (fun σ => vcLook P σ.ob σ.opd o.op fun x => vcDm P all B js rest (σ.set o.dst x) K) (fun σ => vcDm P all B js rest (σ.set o.dst .ud) K)
    | none => False
def waitsT (ops : Array Oper) : Nat → Nat → Nat → Bool
  | 0, i, j => waits ops i j
  | n + 1, i, j => waits ops i j || (List.range ops.size).any fun m => waits ops i m && waitsT ops n m j
def okDrawM (ops : Array Oper) (k : Nat) (es : List (Bool × Nat)) : Bool :=
  (decide (k ≤ ops.size) && decide (es.length = k)) &&
  ((List.range ops.size).all fun i => match ops[i]? with
    | some o => (o.after.all fun e => !Region.binds .any e || decide (e.on < i)) && (decide (i < k) || (List.range i).all fun j => (List.range ops.size).any fun m => decide (j < m) && decide (m ≤ i) && waits ops m j)
    | none => false) &&
  ((List.range k).all fun i => es.any fun e => e.2 == i) &&
  ((List.range k).all fun p => match es[p]? with
    | some (b, i) => decide (i < k) && match ops[i]? with
      | some o => (List.range k).all fun q => match es[q]? with
        | some (c, j) => (p == q || i != j) && (!(c && decide (q < p)) || waitsT ops 3 i j) && match ops[j]? with
          | some r => (b || !c || isPure o.op || decide (q < p) || waitsT ops 3 j i || (!isSt r.op && (!isBs r.op || (es.take p).all fun e => !e.1))) && match r.dst with
            | some t => (p == q || o.dst != some t) && (!(o.looksAt ops).contains t || (decide (q < p) && waits ops i j))
            | none => true
          | none => false
        | none => false
      | none => false
    | none => false)
structure StaticM (ops : Array Oper) (k : Nat) (es : List (Bool × Nat)) : Prop extends Static0 ops k where
  len : es.length = k
  onto : ∀ (i : Nat), i < k → ∃ (p : Nat) (b : Bool), es[p]? = some (b, i)
  lt : ∀ (p : Nat) (b : Bool) (i : Nat), es[p]? = some (b, i) → i < k
  inj : ∀ (p : Nat) (q : Nat) (b : Bool) (c : Bool) (i : Nat), es[p]? = some (b, i) → es[q]? = some (c, i) → p = q
  apart : ∀ (p : Nat) (q : Nat) (b : Bool) (c : Bool) (i : Nat) (j : Nat) (o : Oper) (r : Oper) (t : Nat), es[p]? = some (b, i) → es[q]? = some (c, j) → ops[i]? = some o → ops[j]? = some r → r.dst = some t → (p = q ∨ o.dst ≠ some t) ∧ (t ∈ o.looksAt ops → q < p ∧ waits ops i j = true)
  level : ∀ (p : Nat) (q : Nat) (b : Bool) (i : Nat) (j : Nat), es[p]? = some (b, i) → es[q]? = some (true, j) → q < p → waitsT ops 3 i j = true
  pure : ∀ (p q i j : Nat) (o r : Oper), es[p]? = some (false, i) → es[q]? = some (true, j) → ops[i]? = some o → ops[j]? = some r → p < q → isPure o.op = true ∨ waitsT ops 3 j i = true ∨ (isSt r.op = false ∧ (isBs r.op = false ∨ ∀ e ∈ es.take p, e.1 = false))
theorem okDrawM_spec {ops : Array Oper} {k : Nat} {es : List (Bool × Nat)} (h : okDrawM ops k es = true) : StaticM ops k es := by
  simp only [okDrawM, Bool.and_eq_true, decide_eq_true_eq, List.all_eq_true, List.mem_range, List.any_eq_true, beq_iff_eq] at h
  obtain ⟨⟨⟨⟨h1, h1'⟩, h2⟩, h3⟩, h4⟩ := h
  have hp : ∀ p e, es[p]? = some e → p < k := fun p e he => h1' ▸ (List.getElem?_eq_some_iff.1 he).1
  refine ⟨⟨h1, fun i o ho e he hb => ?_, fun i o ho hk j hj => ?_⟩, h1', fun i hi => ?_, fun p b i he => ?_, fun p q b c i he he' => ?_, fun p q b c i j o r t he he' ho hr ht => ?_, fun p q b i j he he' hq => ?_, fun p q i j o r he he' ho hr hq => ?_⟩
  · have := h2 i (Array.getElem?_eq_some_iff.1 ho).1
    simp only [ho, Bool.and_eq_true, Array.all_eq_true_iff_forall_mem, Bool.or_eq_true, Bool.not_eq_true', decide_eq_true_eq] at this
    rcases this.1 e he with h | h
    · rw [hb] at h; cases h
    · exact h
  · have := h2 i (Array.getElem?_eq_some_iff.1 ho).1
    simp only [ho, Bool.and_eq_true, Bool.or_eq_true, decide_eq_true_eq, List.all_eq_true, List.any_eq_true, List.mem_range] at this
    rcases this.2 with h | h
    · omega
    · obtain ⟨m, _, ⟨q1, q2⟩, q3⟩ := h j hj
      exact ⟨m, q1, q2, q3⟩
  · obtain ⟨⟨b, i'⟩, he, hi'⟩ := h3 i hi
    obtain ⟨p, hp⟩ := List.getElem?_of_mem he
    dsimp only at hi'
    subst hi'
    exact ⟨p, b, hp⟩
  · have := h4 p (hp p _ he)
    simp only [he, Bool.and_eq_true, decide_eq_true_eq] at this
    exact this.1
  · have := h4 p (hp p _ he)
    simp only [he, Bool.and_eq_true, decide_eq_true_eq] at this
    have hik := this.1
    cases ho : ops[i]? with
    | none => rw [ho] at this; cases this.2
    | some o =>
      simp only [ho, List.all_eq_true, List.mem_range] at this
      have := this.2 q (hp q _ he')
      simp only [he', Bool.and_eq_true, Bool.or_eq_true, beq_iff_eq, bne_self_eq_false, Bool.false_eq_true, or_false] at this
      exact this.1.1
  · have := h4 p (hp p _ he)
    simp only [he, ho, Bool.and_eq_true, List.all_eq_true, List.mem_range] at this
    have := this.2 q (hp q _ he')
    simp only [he', hr, ht, Bool.and_eq_true, Bool.or_eq_true, beq_iff_eq, bne_iff_ne, ne_eq, Bool.not_eq_true', decide_eq_true_eq] at this
    refine ⟨this.2.2.1, fun hm => ?_⟩
    rcases this.2.2.2 with h | h
    · simp [hm] at h
    · exact h
  · have := h4 p (hp p _ he)
    simp only [he, Bool.and_eq_true] at this
    cases ho : ops[i]? with
    | none => rw [ho] at this; cases this.2
    | some o =>
      simp only [ho, List.all_eq_true, List.mem_range] at this
      have := this.2 q (hp q _ he')
      simp only [he', Bool.and_eq_true, Bool.or_eq_true, Bool.not_eq_true', Bool.and_eq_false_iff, Bool.true_eq_false, decide_eq_false_iff_not, false_or] at this
      rcases this.1.2 with h | h
      · exact absurd hq h
      · exact h
  · have := h4 p (hp p _ he)
    simp only [he, ho, Bool.and_eq_true, List.all_eq_true, List.mem_range] at this
    have := this.2 q (hp q _ he')
    simp only [he', hr, Bool.and_eq_true, Bool.or_eq_true, Bool.not_eq_true', Bool.true_eq_false, Bool.false_eq_true, false_or, or_false, decide_eq_true_eq, List.all_eq_true] at this
    rcases this.2.1 with ((h | h) | h) | h
    · exact .inl h
    · omega
    · exact .inr (.inl h)
    · exact .inr (.inr h)
theorem waitsT_down {ops : Array Oper} {listed : Array Bool} (hd : Down ops listed) : ∀ (n i j : Nat), waitsT ops n i j = true → listed.getD i false = true → listed.getD j false = true
  | 0, i, j, h, hi => hd i j hi h
  | n + 1, i, j, h, hi => by
    simp only [waitsT, Bool.or_eq_true, List.any_eq_true, Bool.and_eq_true] at h
    rcases h with h | ⟨m, _, h1, h2⟩
    · exact hd i j hi h
    · exact waitsT_down hd n m j h2 (hd i m hi h1)
theorem waitsT_ready {ops : Array Oper} {listed : Array Bool} (hd : Down ops listed) {i : Nat} (hw : ∀ j, waits ops i j = true → listed.getD j false = true) : ∀ (n j : Nat), waitsT ops n i j = true → listed.getD j false = true
  | 0, j, h => hw j h
  | n + 1, j, h => by
    simp only [waitsT, Bool.or_eq_true, List.any_eq_true, Bool.and_eq_true] at h
    rcases h with h | ⟨m, _, h1, h2⟩
    · exact hw j h
    · exact waitsT_down hd n m j h2 (hw m h1)
def stp (σ : St) (d : Option Nat) (x : AV) (ob : List Ob) : St := ({ σ with ob := ob } : St).set d x
theorem stp_n {σ : St} {d : Option Nat} {x : AV} {ext : List Ob} : (stp σ d x ext).n = σ.n := by unfold stp; cases d <;> rfl
theorem stp_ob {σ : St} {d : Option Nat} {x : AV} {ext : List Ob} : (stp σ d x ext).ob = ext := by unfold stp; cases d <;> rfl
theorem stp_get {σ : St} {d : Option Nat} {x : AV} {ext : List Ob} {t : Nat} : getL (stp σ d x ext).tm t = if d = some t then x else getL σ.tm t := by
  unfold stp; rw [getL_set]
theorem stp_same {σ : St} {d : Option Nat} {x : AV} : stp σ d x σ.ob = σ.set d x := rfl
theorem Eqv.stp {σ σ' : St} (h : Eqv σ σ') (d : Option Nat) (x : AV) (ext : List Ob) : Eqv (stp σ d x ext) (BX.stp σ' d x ext) :=
  ⟨by rw [stp_n, stp_n, h.n], by rw [stp_ob, stp_ob], fun t => by rw [stp_get, stp_get, h.tm]⟩
structure MkFact (P : Program) (ob : List Ob) (e : Operand → AV) (o : Oper) (x : AV) (ext : List Ob) : Prop where
  does : ∀ {Q : Exit → Act → World → Prop} {w0 : Base} {σ : St} {hv : Hv} {S : Nat → Prop} {F : Nat → List Nat} {a : Act} {w : World} {next : Value → World → Prop},
    Rel w0 σ hv S F a w → σ.ob = ob → (∀ y ∈ o.op.operands, σ.opd y = e y) → Ans w0 σ a (fun x' ob' => x' = x ∧ ob' = ext) next → Does P Q o a w next
  get : ∀ {w0 : Base} {σ : St} {hv : Hv} {S : Nat → Prop} {F : Nat → List Nat} {a : Act} {w : World},
    Rel w0 σ hv S F a w → σ.ob = ob → (∀ y ∈ o.op.operands, σ.opd y = e y) → (∀ k, o.dst = some k → k < σ.n) → ∃ hv' S' F' a' w', Rel w0 (stp σ o.dst x ext) hv' S' F' a' w'
section
variable {P : Program} {Q : Exit → Act → World → Prop} {w0 : Base} {σ : St} {hv : Hv} {S : Nat → Prop} {F : Nat → List Nat} {a : Act} {w : World}
theorem Does.some {o : Oper} {next : Value → World → Prop} (h : Does P (fun _ _ _ => False) o a w next) : ∃ v w', next v w' := by
  unfold Does Oper.wp at h
  cases hr : (execOp a.eval o).run P w with
  | ok n w' =>
    rw [hr] at h
    cases n with
    | value v => obtain ⟨v', _, h⟩ := h; exact ⟨_, _, h⟩
    | skip => obtain ⟨v', _, h⟩ := h; exact ⟨_, _, h⟩
    | defer d => obtain ⟨v', _, h⟩ := h; exact ⟨_, _, h⟩
    | enter f args =>
      obtain ⟨en, w', hh⟩ := Calls.some h
      cases en with
      | returned v0 => obtain ⟨v', _, h⟩ := hh; exact ⟨_, _, h⟩
      | panicked => exact hh.elim
      | outgrown => obtain ⟨_, _, hh⟩ := hh; exact hh.elim
    | row r args =>
      obtain ⟨v, w', hh, _⟩ := h (Frame.ofRow P r args .normal) []
      obtain ⟨v', _, h⟩ := hh; exact ⟨_, _, h⟩
    | _ => exact h.elim
  | halt c w' =>
    rw [hr] at h
    cases c <;> exact h.elim
theorem MkFact.of {ob : List Ob} {e : Operand → AV} {o : Oper} {x : AV} {ext : List Ob} (h : ∀ {Q : Exit → Act → World → Prop} {w0 : Base} {σ : St} {hv : Hv} {S : Nat → Prop} {F : Nat → List Nat} {a : Act} {w : World} {next : Value → World → Prop},
    Rel w0 σ hv S F a w → σ.ob = ob → (∀ y ∈ o.op.operands, σ.opd y = e y) → Ans w0 σ a (fun x' ob' => x' = x ∧ ob' = ext) next → Does P Q o a w next) : MkFact P ob e o x ext := by
  refine ⟨h, ?_⟩
  intro w0 σ hv S F a w hr h1 h2 hd
  have := h (Q := fun _ _ _ => False) hr h1 h2 (next := fun v w' => ∃ hv' S' F' L, Rel w0 { σ with ob := ext } hv' S' F' a w' ∧ footA hv' w' x v L ∧ (∀ b ∈ L, S' b) ∧ x.under ext.length = true)
    (fun v w' x' ob' hv' S' F' L hk q1 q2 q3 q4 => by obtain ⟨rfl, rfl⟩ := hk; exact ⟨hv', S', F', L, q1, q2, q3, q4⟩)
  obtain ⟨v, w', hv', S', F', L, q1, q2, q3, q4⟩ := Does.some this
  refine ⟨hv', S', F', a.put o.dst v, w', ?_⟩
  unfold stp
  exact q1.put q2 q3 q4 hd
theorem buildSlice_mono {t : TypeId} {n : Nat} {ks : List Nat} {xs : List AV} {ob : List Ob} {K : AV → List Ob → Prop} (h : vcBuildSlice P t n ks xs ob K) : ∃ x ob', K x ob' ∧ vcBuildSlice P t n ks xs ob fun x' ob'' => x' = x ∧ ob'' = ob' := by
  unfold vcBuildSlice at h ⊢
  split at h
  · obtain ⟨h1, h2, h3, h4, h⟩ := h
    split at h
    · rename_i hm
      obtain ⟨h5, h6, h7, hK⟩ := h
      refine ⟨_, _, hK, h1, h2, h3, h4, ?_⟩
      exact ⟨h5, h6, h7, rfl, rfl⟩
    · cases h
  · cases h
theorem srcOf_mono {m i : Nat} {ob : List Ob} {k : Kind} {x : AV} {K : List T → List Nat → Kind → Prop} (h : srcOf m ob i k x K) : ∃ es ids k', K es ids k' ∧ srcOf m ob i k x fun a b c => a = es ∧ b = ids ∧ c = k' := by
  unfold srcOf at h ⊢
  repeat' split at h
  all_goals first
    | exact h.elim
    | exact ⟨_, _, _, h, rfl, rfl, rfl⟩
    | (obtain ⟨h1, h2⟩ := h; exact ⟨_, _, _, h2, h1, rfl, rfl, rfl⟩)
    | (obtain ⟨h1, h2, h3⟩ := h; exact ⟨_, _, _, h3, h1, h2, rfl, rfl, rfl⟩)
    | (rename_i hp; obtain ⟨h1, h2, h3⟩ := h; exact ⟨_, _, _, h3, h1, by rw [if_pos hp]; exact ⟨h2, rfl, rfl, rfl⟩⟩)
    | (rename_i hp; obtain ⟨h1, h2⟩ := h; exact ⟨_, _, _, h2, h1, by rw [if_neg hp]; exact ⟨rfl, rfl, rfl⟩⟩)
    | (rename_i hp; obtain ⟨h1, h2, h3, h4⟩ := h; exact ⟨_, _, _, h4, h1, h2, h3, by rw [if_pos hp]; exact ⟨rfl, rfl, rfl⟩⟩)
    | (rename_i hp; obtain ⟨h1, h2, h3, h4⟩ := h; exact ⟨_, _, _, h4, h1, h2, h3, by rw [if_neg hp]; exact ⟨rfl, rfl, rfl⟩⟩)
theorem srcOf_to {m i : Nat} {ob : List Ob} {k : Kind} {x : AV} {es : List T} {ids : List Nat} {k' : Kind} {K : List T → List Nat → Kind → Prop} (h : srcOf m ob i k x fun a b c => a = es ∧ b = ids ∧ c = k') (hk : K es ids k') : srcOf m ob i k x K := by
  unfold srcOf at h ⊢
  repeat' split at h
  all_goals first
    | exact h.elim
    | (obtain ⟨rfl, rfl, rfl⟩ := h; exact hk)
    | (obtain ⟨h1, rfl, rfl, rfl⟩ := h; exact ⟨h1, hk⟩)
    | (rename_i hp; obtain ⟨h1, h2, rfl, rfl, rfl⟩ := h; exact ⟨h1, by rw [if_pos hp]; exact ⟨h2, hk⟩⟩)
    | (rename_i hp; obtain ⟨h1, rfl, rfl, rfl⟩ := h; exact ⟨h1, by rw [if_neg hp]; exact hk⟩)
    | (obtain ⟨h1, h2, rfl, rfl, rfl⟩ := h; exact ⟨h1, h2, hk⟩)
    | (rename_i hp; obtain ⟨h1, h2, h3, rfl, rfl, rfl⟩ := h; exact ⟨h1, h2, h3, by rw [if_pos hp]; exact hk⟩)
    | (rename_i hp; obtain ⟨h1, h2, h3, rfl, rfl, rfl⟩ := h; exact ⟨h1, h2, h3, by rw [if_neg hp]; exact hk⟩)
theorem append_mono {t : TypeId} {s x : AV} {ob : List Ob} {K : AV → List Ob → Prop} (h : vcAppend P t s x ob K) : ∃ r ob', K r ob' ∧ vcAppend P t s x ob fun a b => a = r ∧ b = ob' := by
  unfold vcAppend at h ⊢
  split at h
  case h_2 => exact h.elim
  obtain ⟨h1, h2, h3, h⟩ := h
  split at h
  · split at h
    case h_2 => exact h.elim
    obtain ⟨q1, q2, h⟩ := h
    obtain ⟨es, ids, k', ⟨q3, q4⟩, q5⟩ := srcOf_mono h
    exact ⟨_, _, q4, h1, h2, h3, q1, q2, srcOf_to q5 ⟨q3, rfl, rfl⟩⟩
  · obtain ⟨es, ids, k', ⟨q3, q4⟩, q5⟩ := srcOf_mono h
    exact ⟨_, _, q4, h1, h2, h3, srcOf_to q5 ⟨q3, rfl, rfl⟩⟩
  · exact h.elim
theorem vcMk_sound {B : Nat} {ob : List Ob} {e : Operand → AV} {o : Oper} {K : AV → List Ob → Prop} (h : vcMk P B ob e o.op K) : ∃ x ob', K x ob' ∧ ((isSt o.op = false → ∃ ext, ob' = ob.take B ++ ext) ∧ (isSt o.op = false → isBs o.op = false → ∃ ext, ob' = ob ++ ext)) ∧ MkFact P ob e o x ob' := by
  have app : ∀ {ext : List Ob}, (isSt o.op = false → ∃ ext', ob ++ ext = ob.take B ++ ext') ∧ (isSt o.op = false → isBs o.op = false → ∃ ext', ob ++ ext = ob ++ ext') := fun {ext} => ⟨fun _ => ⟨ob.drop B ++ ext, by rw [← List.append_assoc, List.take_append_drop]⟩, fun _ _ => ⟨ext, rfl⟩⟩
  unfold vcMk at h
  split at h
  · rename_i c hop
    split at h
    case h_3 => cases h
    case h_2 =>
      rename_i hc
      split at h
      case h_2 => cases h
      rename_i s x t t' ha ht
      obtain ⟨rfl, h⟩ := h
      obtain ⟨r, ob', hK, hb⟩ := append_mono h
      have hst : isSt o.op = true := by rw [hop]; simp [isSt, hc]
      have ha' : c.args = #[s, x] := by apply Array.ext'; simpa using ha
      have hmem : ∀ y ∈ [s, x], y ∈ o.op.operands := by
        intro y hy
        rw [hop]
        simp only [Op.operands, Call.operands, hc, ha']
        simpa using hy
      refine ⟨_, _, hK, ⟨fun hh => absurd (hst.symm.trans hh) (by simp), fun hh => absurd (hst.symm.trans hh) (by simp)⟩, .of fun hr h1 h2 hn => append_sound hop hc ha ht hr ?_ hn⟩
      rw [h2 s (hmem s (by simp)), h2 x (hmem x (by simp)), h1]
      exact hb
    rename_i f hc
    unfold vcMkC at h
    split at h
    case h_2 => cases h
    rename_i g caps hg
    obtain ⟨ts', x, obs, hcon, hts, hb, hs, hK⟩ := h
    have hmem : f ∈ o.op.operands ∧ ∀ y ∈ c.args.toList, y ∈ o.op.operands := by
      rw [hop]
      refine ⟨?_, fun y hy => ?_⟩
      · simp [Op.operands, Call.operands, hc]
      · simp only [Op.operands, Call.operands, hc, Array.mem_append]
        exact .inr (by simpa using hy)
    refine ⟨_, _, hK, app, .of fun hr h1 h2 hn => callO_sound hop hc hr ?_ hn⟩
    rename_i σ _ _ _ _ _ _
    have hm : c.args.toList.map σ.opd = c.args.toList.map e := List.map_congr_left fun y hy => h2 y (hmem.2 y hy)
    rw [h2 f hmem.1, hm, h1]
    unfold vcCallO
    rw [hg]
    exact .closed hcon hts hb hs ⟨rfl, rfl⟩
  · rename_i t n parts hop
    obtain ⟨x, ob', hK, hb⟩ := buildSlice_mono h
    obtain ⟨ext, rfl, hK2⟩ := newOb_spec hK
    have hbs : isBs o.op = true := by rw [hop]; rfl
    refine ⟨x, _, hK2, ⟨fun _ => ⟨ext, rfl⟩, fun _ h => absurd (hbs.symm.trans h) (by simp)⟩, .of fun hr h1 h2 hn => buildSlice_sound hop hr (K := fun x' ob'' => x' = x ∧ ob'' = ob.take B ++ ext) ?_ hn⟩
    rename_i σ _ _ _ _ _ _
    have hm : (parts.toList.map fun p => σ.opd p.2) = parts.toList.map fun p => e p.2 := List.map_congr_left fun p hp => h2 p.2 (by
      rw [hop]
      simp only [Op.operands, List.mem_toArray, List.mem_map]
      exact ⟨p, hp, rfl⟩)
    rw [hm, h1]
    exact hb
  · rename_i t hop
    split at h
    · rename_i z hz
      refine ⟨_, _, h, app, .of fun hr h1 h2 hn => alloc_sound hop hr hz ?_ hn⟩
      rw [h1]; exact ⟨rfl, rfl⟩
    · cases h
  · rename_i t x hop
    refine ⟨_, _, h, app, .of fun hr h1 h2 hn => box_sound hop hr ?_ hn⟩
    rename_i σ _ _ _ _ _ _
    rw [h1, h2 x (by rw [hop]; simp [Op.operands])]
    exact ⟨rfl, rfl⟩
  · rename_i t p x hop
    split at h
    case h_2 => cases h
    rename_i id off hp
    have hst : isSt o.op = true := by rw [hop]; rfl
    unfold vcStore at h
    simp only at h
    split at h
    case h_2 => cases h
    rename_i y hy
    obtain ⟨q1, q2, q3, q4, q5, q6, hK⟩ := h
    refine ⟨_, _, hK, ⟨fun hh => absurd (hst.symm.trans hh) (by simp), fun hh => absurd (hst.symm.trans hh) (by simp)⟩, .of fun hr h1 h2 hn => ?_⟩
    rename_i σ _ _ _ _ _ _
    have hp' := h2 p (by rw [hop]; simp [Op.operands])
    have hx' := h2 x (by rw [hop]; simp [Op.operands])
    rw [hp] at hp'
    rw [← hx'] at q2 q3 q4 q5 q6 hn
    rw [← h1] at hy hn
    exact store_box_sound hop hr hp' hy q1 q2 q3 q4 q5 q6 ⟨rfl, rfl⟩ hn
  · cases h
theorem vcLook_det {ob : List Ob} {e : Operand → AV} {op : Op} {K : AV → Prop} (hp : isPure op = true) (h : vcLook P ob e op K) : ∃ r, K r ∧ ∀ ob', vcLook P ob' e op fun r' => r' = r := by
  cases op <;> first | (simp [isPure] at hp; done) | skip
  · exact ⟨_, h, fun _ => rfl⟩
  · exact ⟨_, h, fun _ => rfl⟩
  · rename_i x i
    have h : vcExtract (e x) i K := h
    show ∃ r, K r ∧ ∀ ob', vcExtract (e x) i fun r' => r' = r
    unfold vcExtract at h ⊢
    split at h
    all_goals first
      | cases h; done
      | (rename_i hx
         split at h
         · rename_i y hy
           refine ⟨_, h, fun _ => ?_⟩
           simp only [hy]
         · cases h)
def FactM (P : Program) (all : Array Oper) (B : Nat) (σ : St) (b : Bool) (o : Oper) (x : AV) (ext : List Ob) : Prop :=
  (dstOk σ.n o.dst ∧ (∀ t, (getL σ.tm t).under σ.ob.length = true) ∧ ∀ (id : Nat) (o : Ob), σ.ob[id]? = some o → o.under σ.ob.length = true) ∧ if b = true then o.guard = none ∧ ((isSt o.op = false → ∃ more, ext = σ.ob.take B ++ more) ∧ (isSt o.op = false → isBs o.op = false → ∃ more, ext = σ.ob ++ more)) ∧ MkFact P σ.ob σ.opd o x ext
    else ext = σ.ob ∧ ((guardOf all σ o = some true ∧ Fact P σ.ob σ.opd o x ∧ (isPure o.op = true → ∀ {w0 : Base} {σ1 : St} {hv : Hv} {S : Nat → Prop} {F : Nat → List Nat} {a : Act} {w : World}, Rel w0 σ1 hv S F a w → (∀ y ∈ o.op.operands, σ1.opd y = σ.opd y) → Fact P σ1.ob σ.opd o x)) ∨ (guardOf all σ o = some false ∧ x = .ud))
def runM (all : Array Oper) : St → List (Bool × Nat) → List (AV × List Ob) → St
  | σ, (_, i) :: es, (x, ext) :: rs => match all[i]? with
    | some o => runM all (stp σ o.dst x ext) es rs
    | none => runM all σ es rs
  | σ, _, _ => σ
def FactsM (P : Program) (all : Array Oper) (B : Nat) : St → List (Bool × Nat) → List (AV × List Ob) → Prop
  | _, [], [] => True
  | σ, (b, i) :: es, (x, ext) :: rs => ∃ o, all[i]? = some o ∧ FactM P all B σ b o x ext ∧ FactsM P all B (stp σ o.dst x ext) es rs
  | _, _, _ => False
theorem vcDm_sound {all : Array Oper} {B : Nat} {rest : List Oper} : ∀ (es : List (Bool × Nat)) {σ σ' : St} {hv : Hv} {S : Nat → Prop} {F : Nat → List Nat} {a : Act} {w : World} {K : St → Prop}, Rel w0 σ hv S F a w → Eqv σ σ' → vcDm P all B es rest σ' K →
    ∃ rs σ'', Eqv (runM all σ es rs) σ'' ∧ vcOps P all rest σ'' K ∧ FactsM P all B σ es rs
  | [], σ, σ', hv, S, F, a, w, K, hr, he, h => ⟨[], σ', he, h, trivial⟩
  | (b, i) :: es, σ, σ', hv, S, F, a, w, K, hr, he, h => by
    unfold vcDm at h
    split at h
    case h_2 => cases h
    rename_i o ho
    have ho : all[i]? = some o := by rw [opAt_eq, Array.getElem?_toList] at ho; exact ho
    have hu : (∀ t, (getL σ.tm t).under σ.ob.length = true) ∧ ∀ (id : Nat) (o : Ob), σ.ob[id]? = some o → o.under σ.ob.length = true := ⟨hr.utm, hr.uob⟩
    cases b with
    | true =>
      obtain ⟨hg, hd, h⟩ := h
      rw [he.n] at hd
      have hdk : ∀ k, o.dst = some k → k < σ.n := fun k hk => by rw [hk] at hd; exact hd
      obtain ⟨x, ob', hK, hx, hf⟩ := vcMk_sound h
      rw [he.ob, show σ'.opd = σ.opd from funext he.opd] at hf
      rw [he.ob] at hx
      obtain ⟨hv', S', F', a', w', hr'⟩ := hf.get hr rfl (fun _ _ => rfl) hdk
      obtain ⟨rs, σ'', k0, k1, k2⟩ := vcDm_sound es hr' (he.stp o.dst x ob') hK
      refine ⟨(x, ob') :: rs, σ'', ?_, k1, o, ho, ⟨⟨hd, hu⟩, ?_⟩, k2⟩
      · simp only [runM, ho]; exact k0
      · exact ⟨hg, hx, hf⟩
    | false =>
      obtain ⟨hd, h⟩ := h
      rw [he.n] at hd
      have hdk : ∀ k, o.dst = some k → k < σ.n := fun k hk => by rw [hk] at hd; exact hd
      rcases vcGuard_sound he h with ⟨hg, σ1, he1, h⟩ | ⟨hg, σ1, he1, h⟩
      · have hr1 := hr.tm_ext he1
        obtain ⟨x, hx, hf, hpure⟩ : ∃ x, vcDm P all B es rest (σ1.set o.dst x) K ∧ Fact P σ1.ob σ1.opd o x ∧ (isPure o.op = true → ∀ ob', vcLook P ob' σ1.opd o.op fun r' => r' = x) := by
          cases hp : isPure o.op with
          | true =>
            obtain ⟨x, hx, hdet⟩ := vcLook_det hp h
            obtain ⟨r, rfl, hf⟩ := vcLook_sound hr1.obs (fun y _ => hr1.arg y) (hdet σ1.ob)
            exact ⟨r, hx, hf, fun _ => hdet⟩
          | false =>
            obtain ⟨x, hx, hf⟩ := vcLook_sound hr1.obs (fun y _ => hr1.arg y) h
            exact ⟨x, hx, hf, fun hh => by cases hh⟩
        rw [he1.ob, show σ1.opd = σ.opd from funext he1.opd] at hf
        rw [show σ1.opd = σ.opd from funext he1.opd] at hpure
        obtain ⟨hv', S', F', a', w', hr'⟩ : ∃ hv' S' F' a' w', Rel w0 (σ.set o.dst x) hv' S' F' a' w' := by
          rcases hf with hf | ⟨r, rfl, hf⟩
          · obtain ⟨v, h1, ⟨L, h2, h2'⟩, h3⟩ := hf hr.obs (fun y _ => hr.arg y)
            exact ⟨hv, S, F, _, w, hr.put h2 h2' h3 hdk⟩
          · obtain ⟨f, args, h1, h2⟩ := hf hr.obs hr.Blt hr.rootsIn (fun y _ => hr.arg y)
            obtain ⟨en, w', v, L', rfl, q1, q2, q3⟩ := Calls.some h2
            exact ⟨_, _, F, _, w', (hr.grow q3).put (x := .t r) (by simpa only [footA] using q1) q2 rfl hdk⟩
        obtain ⟨rs, σ'', k0, k1, k2⟩ := vcDm_sound es hr' (he1.set o.dst x) hx
        refine ⟨(x, σ.ob) :: rs, σ'', ?_, k1, o, ho, ⟨⟨hd, hu⟩, rfl, .inl ⟨hg, hf, fun hp => ?_⟩⟩, ?_⟩
        · simp only [runM, ho, stp_same]; exact k0
        · intro w0 σ2 hv S F a w hr2 hopd
          obtain ⟨r, rfl, hf2⟩ := vcLook_sound (ob := σ2.ob) (e := σ.opd) (ρ := a.eval) hr2.obs (fun y hy => by rw [← hopd y hy]; exact hr2.arg y) (hpure hp σ2.ob)
          exact hf2
        · rw [stp_same]; exact k2
      · obtain ⟨rs, σ'', k0, k1, k2⟩ := vcDm_sound es (hr.put (d := o.dst) (x := .ud) (v := undef) (L := []) (by simp [footA]) (by simp) rfl hdk) (he1.set o.dst .ud) h
        refine ⟨(.ud, σ.ob) :: rs, σ'', ?_, k1, o, ho, ⟨⟨hd, hu⟩, rfl, .inr ⟨hg, rfl⟩⟩, ?_⟩
        · simp only [runM, ho, stp_same]; exact k0
        · rw [stp_same]; exact k2
theorem FactsM.len {all : Array Oper} {B : Nat} : ∀ {es : List (Bool × Nat)} {rs : List (AV × List Ob)} {σ : St}, FactsM P all B σ es rs → rs.length = es.length
  | [], [], _, _ => rfl
  | [], _ :: _, _, h => h.elim
  | _ :: _, [], _, h => h.elim
  | (_, _) :: es, (_, _) :: rs, σ, h => by obtain ⟨o, _, _, h⟩ := h; simp [FactsM.len h]
theorem FactsM.get {all : Array Oper} {B : Nat} : ∀ {es : List (Bool × Nat)} {rs : List (AV × List Ob)} {σ : St}, FactsM P all B σ es rs → ∀ {p : Nat} {b : Bool} {i : Nat}, es[p]? = some (b, i) → ∃ o x ext, all[i]? = some o ∧ rs[p]? = some (x, ext) ∧ FactM P all B (runM all σ (es.take p) (rs.take p)) b o x ext
  | [], _, _, _, p, b, i, hi => by simp at hi
  | _ :: _, [], _, h, _, _, _, _ => h.elim
  | (c, j) :: es, (x, ext) :: rs, σ, h, 0, b, i, hi => by
    simp only [List.getElem?_cons_zero, Option.some.injEq, Prod.mk.injEq] at hi
    obtain ⟨rfl, rfl⟩ := hi
    obtain ⟨o, ho, hf, _⟩ := h
    exact ⟨o, x, ext, ho, rfl, hf⟩
  | (c, j) :: es, (x, ext) :: rs, σ, h, p + 1, b, i, hi => by
    obtain ⟨o, ho, _, h⟩ := h
    obtain ⟨o', y, ext', h1, h2, h3⟩ := FactsM.get h (p := p) (by simpa using hi)
    refine ⟨o', y, ext', h1, by simpa using h2, ?_⟩
    simp only [List.take_succ_cons, runM, ho]
    exact h3
theorem runM_n {all : Array Oper} : ∀ (es : List (Bool × Nat)) (rs : List (AV × List Ob)) (σ : St), (runM all σ es rs).n = σ.n
  | [], _, _ => by simp [runM]
  | _ :: _, [], _ => by simp [runM]
  | (b, i) :: es, (x, ext) :: rs, σ => by
    simp only [runM]
    split
    · rw [runM_n es rs, stp_n]
    · rw [runM_n es rs]
theorem runM_step {all : Array Oper} : ∀ (es : List (Bool × Nat)) (rs : List (AV × List Ob)) (σ : St) {p : Nat} {b : Bool} {i : Nat} {o : Oper} {x : AV} {ob : List Ob}, es[p]? = some (b, i) → rs[p]? = some (x, ob) → all[i]? = some o →
    runM all σ (es.take (p + 1)) (rs.take (p + 1)) = stp (runM all σ (es.take p) (rs.take p)) o.dst x ob
  | [], _, _, _, _, _, _, _, _, h, _, _ => by simp at h
  | _ :: _, [], _, _, _, _, _, _, _, _, h, _ => by simp at h
  | (c, j) :: es, (y, ob') :: rs, σ, 0, b, i, o, x, ob, h1, h2, ho => by
    simp only [List.getElem?_cons_zero, Option.some.injEq, Prod.mk.injEq] at h1 h2
    obtain ⟨rfl, rfl⟩ := h1
    obtain ⟨rfl, rfl⟩ := h2
    simp [runM, ho]
  | (c, j) :: es, (y, ob') :: rs, σ, p + 1, b, i, o, x, ob, h1, h2, ho => by
    simp only [List.getElem?_cons_succ] at h1 h2
    simp only [List.take_succ_cons, runM]
    split
    · exact runM_step es rs _ h1 h2 ho
    · exact runM_step es rs σ h1 h2 ho
theorem runM_miss {all : Array Oper} {t : Nat} : ∀ (es : List (Bool × Nat)) (rs : List (AV × List Ob)) (σ : St), (∀ (p : Nat) (b : Bool) (i : Nat) (o : Oper), es[p]? = some (b, i) → all[i]? = some o → o.dst ≠ some t) → getL (runM all σ es rs).tm t = getL σ.tm t
  | [], _, _, _ => by simp [runM]
  | _ :: _, [], _, _ => by simp [runM]
  | (b, i) :: es, (x, ext) :: rs, σ, h => by
    simp only [runM]
    have hrest : ∀ (p : Nat) (b : Bool) (i : Nat) (o : Oper), es[p]? = some (b, i) → all[i]? = some o → o.dst ≠ some t := fun p b i o hp => h (p + 1) b i o (by simpa using hp)
    split
    · rename_i o ho
      rw [runM_miss es rs _ hrest, stp_get, if_neg (h 0 b i o rfl ho)]
    · exact runM_miss es rs _ hrest
theorem runM_hit {all : Array Oper} {t : Nat} : ∀ (es : List (Bool × Nat)) (rs : List (AV × List Ob)) (σ : St) {p : Nat} {b : Bool} {i : Nat} {o : Oper} {x : AV} {ext : List Ob}, es[p]? = some (b, i) → rs[p]? = some (x, ext) → all[i]? = some o → o.dst = some t →
    (∀ (q : Nat) (c : Bool) (j : Nat) (r : Oper), es[q]? = some (c, j) → all[j]? = some r → q ≠ p → r.dst ≠ some t) → getL (runM all σ es rs).tm t = x
  | [], _, _, _, _, _, _, _, _, h, _, _, _, _ => by simp at h
  | _ :: _, [], _, _, _, _, _, _, _, _, h, _, _, _ => by simp at h
  | (c, j) :: es, (y, ext') :: rs, σ, 0, b, i, o, x, ext, h1, h2, ho, hd, hn => by
    simp only [List.getElem?_cons_zero, Option.some.injEq, Prod.mk.injEq] at h1 h2
    obtain ⟨rfl, rfl⟩ := h1
    obtain ⟨rfl, rfl⟩ := h2
    simp only [runM, ho]
    rw [runM_miss es rs _ (fun q c j r hq hr => hn (q + 1) c j r (by simpa using hq) hr (by omega)), stp_get, if_pos hd]
  | (c, j) :: es, (y, ext') :: rs, σ, p + 1, b, i, o, x, ext, h1, h2, ho, hd, hn => by
    simp only [List.getElem?_cons_succ] at h1 h2
    have hrest : ∀ (q : Nat) (c : Bool) (j : Nat) (r : Oper), es[q]? = some (c, j) → all[j]? = some r → q ≠ p → r.dst ≠ some t := fun q c j r hq hr hne => hn (q + 1) c j r (by simpa using hq) hr (by omega)
    simp only [runM]
    split
    · exact runM_hit es rs _ h1 h2 ho hd hrest
    · exact runM_hit es rs _ h1 h2 ho hd hrest
theorem Obs.less {ob more : List Ob} (h : Obs (ob ++ more) hv S F w) (hu : ∀ (id : Nat) (o : Ob), ob[id]? = some o → o.under ob.length = true) : Obs ob hv S F w := by
  have hl : ∀ {id : Nat} {o : Ob}, ob[id]? = some o → (ob ++ more)[id]? = some o := fun hid => by rw [List.getElem?_append_left (List.getElem?_eq_some_iff.1 hid).1]; exact hid
  exact ⟨fun id o hid => h.ob id o (hl hid), hu, fun id o hid => h.own id o (hl hid), h.SB, h.one⟩
theorem RootsIn.less {ob more : List Ob} (h : RootsIn (ob ++ more) hv w) : RootsIn ob hv w := fun id o hid => h id o (by rw [List.getElem?_append_left (List.getElem?_eq_some_iff.1 hid).1]; exact hid)
theorem Fact.doesMore {ob more : List Ob} {x : AV} {o : Oper} {e : Operand → AV} (hf : Fact P ob e o x) (hr : Rel w0 σ hv S F a w) (hob : σ.ob = ob ++ more) (hu : ∀ (id : Nat) (o : Ob), ob[id]? = some o → o.under ob.length = true) (he : ∀ y ∈ o.op.operands, Arg hv S w ob.length (e y) (a.eval y))
    {next : Value → World → Prop} (hn : ∀ v w' (hv' : Hv) S', Rel w0 σ hv' S' F a w' → (∃ L, footA hv' w' x v L ∧ ∀ b ∈ L, S' b) → x.under σ.ob.length = true → next v w') : Does P Q o a w next := by
  have hle : ob.length ≤ σ.ob.length := by rw [hob, List.length_append]; omega
  have ho : Obs ob hv S F w := (hob ▸ hr.obs).less hu
  rcases hf with hf | ⟨r, rfl, hf⟩
  · obtain ⟨v, h1, h2, h3⟩ := hf ho he
    exact does_value h1 (hn v w hv S hr h2 (AV.under_mono hle _ h3))
  · obtain ⟨f, args, h1, h2⟩ := hf ho hr.Blt (RootsIn.less (hob ▸ hr.rootsIn)) he
    unfold Does Oper.wp
    rw [h1, Oper.upon_enter]
    refine h2.mono fun en w' hh => ?_
    obtain ⟨v, L', rfl, q1, q2, q3⟩ := hh
    exact ⟨v, rfl, hn v w' _ _ (hr.grow q3) ⟨L', by simpa only [footA] using q1, q2⟩ rfl⟩
theorem St.opd_under {σ : St} (h : ∀ t, (getL σ.tm t).under σ.ob.length = true) (x : Operand) : (σ.opd x).under σ.ob.length = true := by
  cases x with
  | tmp t => exact h t
  | const v => exact ofV_under _ v
  | func f => show AV.under σ.ob.length (if f < 1000000 then AV.fn f [] else AV.un) = true; split <;> simp [AV.under, unders]
  | global g => rfl
structure PartM (ops : Array Oper) (es : List (Bool × Nat)) (rs : List (AV × List Ob)) (σ0 : St) (listed : Array Bool) (σ : St) : Prop where
  n : σ.n = σ0.n
  ob : ∃ m, m ≤ es.length ∧ σ.ob = (runM ops σ0 (es.take m) (rs.take m)).ob ∧ ∀ (q : Nat) (j : Nat), es[q]? = some (true, j) → (listed.getD j false = true ↔ q < m)
  hit : ∀ (p : Nat) (b : Bool) (j : Nat) (o : Oper) (t : Nat) (x : AV) (ext : List Ob), es[p]? = some (b, j) → rs[p]? = some (x, ext) → ops[j]? = some o → o.dst = some t → listed.getD j false = true → getL σ.tm t = x
  miss : ∀ (t : Nat), (∀ (p : Nat) (b : Bool) (j : Nat) (o : Oper), es[p]? = some (b, j) → ops[j]? = some o → listed.getD j false = true → o.dst ≠ some t) → getL σ.tm t = getL σ0.tm t
theorem count_false : ∀ (l : List Bool) (m : Nat), (∀ j, m ≤ j → ∀ b, l[j]? = some b → b = false) → l.length - m ≤ l.count false := by
  intro l
  induction l with
  | nil => intro m _; simp
  | cons b l ihl =>
    intro m hm
    cases m with
    | zero =>
      have hb := hm 0 (Nat.le_refl _) b rfl
      subst hb
      have := ihl 0 (fun j _ b hb => hm (j + 1) (by omega) b (by simpa using hb))
      simp only [List.length_cons, List.count_cons_self]; omega
    | succ m =>
      have := ihl m (fun j hj b hb => hm (j + 1) (by omega) b (by simpa using hb))
      simp only [List.length_cons, List.count_cons]; omega
theorem early_soundM {ops : Array Oper} {k : Nat} {es : List (Bool × Nat)} (hs : StaticM ops k es) {K : St → Prop} (hQ : ∀ σ' (hv' : Hv) S' F' a' w', K σ' → Rel w0 σ' hv' S' F' a' w' → Q .normal a' w') {rs : List (AV × List Ob)} {σ0 : St}
    (hf : FactsM P ops σ0.ob.length σ0 es rs) {σe : St} (hE : Eqv (runM ops σ0 es rs) σe) (hK : vcOps P ops (ops.toList.drop k) σe K) :
    ∀ (fuel : Nat) {listed : Array Bool} {σ : St} {hv : Hv} {S : Nat → Prop} {F : Nat → List Nat} {a : Act} {w : World}, listed.size = ops.size → Down ops listed → (∀ j, k ≤ j → listed.getD j false = false) → listed.toList.count false ≤ fuel →
      PartM ops es rs σ0 listed σ → Rel w0 σ hv S F a w → wpAny P .any ops Q fuel listed a w := by
  intro fuel
  have hrl : rs.length = k := by rw [hf.len, hs.len]
  have hop : ∀ {p : Nat} {b : Bool} {i : Nat}, es[p]? = some (b, i) → ∃ o, ops[i]? = some o := fun {p b i} h => by obtain ⟨o, _, _, h, _⟩ := hf.get h; exact ⟨o, h⟩
  have hrs : ∀ {p : Nat} {b : Bool} {i : Nat}, es[p]? = some (b, i) → ∃ x ext, rs[p]? = some (x, ext) := fun {p b i} h => by
    obtain ⟨o, x, ext, _, h2, h3⟩ := hf.get h
    exact ⟨x, ext, h2⟩
  -- the objects after the first p
  have one : ∀ {p : Nat} {b : Bool} {i : Nat}, es[p]? = some (b, i) → ∃ o, ops[i]? = some o ∧ (b = false → (runM ops σ0 (es.take (p + 1)) (rs.take (p + 1))).ob = (runM ops σ0 (es.take p) (rs.take p)).ob) ∧ (isSt o.op = false → ∃ more, (runM ops σ0 (es.take (p + 1)) (rs.take (p + 1))).ob = (runM ops σ0 (es.take p) (rs.take p)).ob.take σ0.ob.length ++ more) ∧ (isSt o.op = false → isBs o.op = false → ∃ more, (runM ops σ0 (es.take (p + 1)) (rs.take (p + 1))).ob = (runM ops σ0 (es.take p) (rs.take p)).ob ++ more) := by
    intro p b i h
    obtain ⟨o, x, ob', ho, hx, _, hg⟩ := hf.get h
    refine ⟨o, ho, ?_⟩
    rw [runM_step es rs σ0 h hx ho, stp_ob]
    cases b with
    | true => exact ⟨fun hh => by simp at hh, hg.2.1⟩
    | false => exact ⟨fun _ => hg.1, fun _ => ⟨(runM ops σ0 (es.take p) (rs.take p)).ob.drop σ0.ob.length, by rw [List.take_append_drop]; exact hg.1⟩, fun _ _ => ⟨[], by rw [List.append_nil]; exact hg.1⟩⟩
  -- no maker between: the objects are the same
  have same : ∀ {p m : Nat}, p ≤ m → m ≤ es.length → (∀ (q j : Nat), p ≤ q → q < m → es[q]? ≠ some (true, j)) → (runM ops σ0 (es.take m) (rs.take m)).ob = (runM ops σ0 (es.take p) (rs.take p)).ob := by
    intro p m
    induction m with
    | zero => intro h _ _; have : p = 0 := by omega
              rw [this]
    | succ m ihm =>
      intro hpm hm hno
      rcases Nat.lt_or_ge m p with hp | hp
      · have : p = m + 1 := by omega
        rw [this]
      · rw [← ihm hp (by omega) (fun q j h1 h2 => hno q j h1 (by omega))]
        obtain ⟨⟨b, i⟩, he⟩ : ∃ e, es[m]? = some e := ⟨_, List.getElem?_eq_getElem (by omega)⟩
        obtain ⟨o, ho, h1, _⟩ := one he
        cases b with
        | true => exact absurd he (hno m i hp (by omega))
        | false => exact h1 rfl
  have app : ∀ {p m : Nat}, p ≤ m → m ≤ es.length → (∀ (q j : Nat) (r : Oper), p ≤ q → q < m → es[q]? = some (true, j) → ops[j]? = some r → isSt r.op = false ∧ isBs r.op = false) → ∃ more, (runM ops σ0 (es.take m) (rs.take m)).ob = (runM ops σ0 (es.take p) (rs.take p)).ob ++ more := by
    intro p m
    induction m with
    | zero => intro h _ _; have : p = 0 := by omega
              exact ⟨[], by rw [this, List.append_nil]⟩
    | succ m ihm =>
      intro hpm hm hno
      rcases Nat.lt_or_ge m p with hp | hp
      · have : p = m + 1 := by omega
        exact ⟨[], by rw [this, List.append_nil]⟩
      · obtain ⟨more, h⟩ := ihm hp (by omega) (fun q j r h1 h2 => hno q j r h1 (by omega))
        obtain ⟨⟨b, i⟩, he⟩ : ∃ e, es[m]? = some e := ⟨_, List.getElem?_eq_getElem (by omega)⟩
        obtain ⟨o, ho, h1, _, h2⟩ := one he
        cases b with
        | true =>
          obtain ⟨more', h'⟩ := h2 (hno m i o hp (by omega) he ho).1 (hno m i o hp (by omega) he ho).2
          exact ⟨more ++ more', by rw [h', h, List.append_assoc]⟩
        | false => exact ⟨more, by rw [h1 rfl, h]⟩
  -- the objects of the region's beginning stay in front
  have base : ∀ {m : Nat}, m ≤ es.length → (∀ (q j : Nat) (r : Oper), q < m → es[q]? = some (true, j) → ops[j]? = some r → isSt r.op = false) → ∃ more, (runM ops σ0 (es.take m) (rs.take m)).ob = σ0.ob ++ more := by
    intro m
    induction m with
    | zero => intro _ _; exact ⟨[], by simp [runM]⟩
    | succ m ihm =>
      intro hm hno
      obtain ⟨more, h⟩ := ihm (by omega) (fun q j r h1 => hno q j r (by omega))
      obtain ⟨⟨b, i⟩, he⟩ : ∃ e, es[m]? = some e := ⟨_, List.getElem?_eq_getElem (by omega)⟩
      obtain ⟨o, ho, h1, h2, _⟩ := one he
      cases b with
      | true =>
        obtain ⟨more', h'⟩ := h2 (hno m i o (by omega) he ho)
        exact ⟨more', by rw [h', h, List.take_left]⟩
      | false => exact ⟨more, by rw [h1 rfl, h]⟩
  have full : ∀ {listed : Array Bool} {σ : St} {hv : Hv} {S : Nat → Prop} {F : Nat → List Nat} {a : Act} {w : World}, (∀ j, j < k → listed.getD j false = true) → PartM ops es rs σ0 listed σ → Rel w0 σ hv S F a w →
      Rel w0 σe hv S F a w := by
    intro listed σ hv S F a w hall hp hr
    have q1 := runM_n (all := ops) es rs σ0
    obtain ⟨m, hmk, hm1, hm2⟩ := hp.ob
    refine Rel.tm_ext (hr.tm_ext (σ' := runM ops σ0 es rs) ⟨by rw [q1, hp.n], ?_, fun t => ?_⟩) hE
    · rw [hm1]
      have h1 : runM ops σ0 (es.take es.length) (rs.take es.length) = runM ops σ0 es rs := by rw [List.take_length, List.take_of_length_le (by rw [hrl, hs.len]; omega)]
      rw [← h1]
      refine same hmk (Nat.le_refl _) fun q j h2 h3 hq => ?_
      have := (hm2 q j hq).1 (hall j (hs.lt _ _ _ hq))
      omega
    by_cases ht : ∃ (p : Nat) (b : Bool) (j : Nat) (o : Oper), es[p]? = some (b, j) ∧ ops[j]? = some o ∧ o.dst = some t
    · obtain ⟨p, b, j, o, hpj, ho, hd⟩ := ht
      obtain ⟨x, ext, hx⟩ := hrs hpj
      rw [hp.hit p b j o t x ext hpj hx ho hd (hall j (hs.lt _ _ _ hpj))]
      refine runM_hit _ _ _ hpj hx ho hd fun q c i r hq hr hne => ?_
      exact (hs.apart q p c b i j r o t hq hpj hr ho hd).1.resolve_left hne
    · have hno : ∀ (p : Nat) (b : Bool) (j : Nat) (o : Oper), es[p]? = some (b, j) → ops[j]? = some o → o.dst ≠ some t := fun p b j o h1 h2 h3 => ht ⟨p, b, j, o, h1, h2, h3⟩
      rw [hp.miss t (fun p b j o h1 h2 _ => hno p b j o h1 h2)]
      exact runM_miss _ _ _ hno
  have fin : ∀ {listed : Array Bool} {σ : St} {hv : Hv} {S : Nat → Prop} {F : Nat → List Nat} {a : Act} {w : World}, listed.size = ops.size → (∀ j, k ≤ j → listed.getD j false = false) → Region.ready .any ops listed = [] →
      PartM ops es rs σ0 listed σ → Rel w0 σ hv S F a w → Q .normal a w := by
    intro listed σ hv S F a w hsz hno hre hp hr
    have hall := all_of_ready_nil hs.toStatic0 hsz hre
    have hk : k = ops.size := by
      rcases Nat.lt_or_ge k ops.size with h | h
      · have h1 := hall k h
        rw [hno k (Nat.le_refl _)] at h1
        cases h1
      · have := hs.le; omega
    have hr' := full (fun j hj => hall j (by omega)) hp hr
    rw [List.drop_of_length_le (by simp [hk])] at hK
    exact hQ _ _ _ _ _ _ hK hr'
  induction fuel with
  | zero =>
    intro listed σ hv S F a w hsz hd hno hc hp hr
    have hre : Region.ready .any ops listed = [] := by
      cases hre : Region.ready .any ops listed with
      | nil => rfl
      | cons i is =>
        have : i ∈ Region.ready .any ops listed := by rw [hre]; exact List.mem_cons_self ..
        obtain ⟨h0, _⟩ := mem_ready.1 this
        obtain ⟨h1, h2⟩ := getD_false_true h0
        have : false ∈ listed.toList := by
          have : listed[i] = false := by simpa [h2] using h1
          rw [← this]; simp
        have := List.count_pos_iff.2 this
        omega
    exact ⟨hre, fin hsz hno hre hp hr⟩
  | succ fuel ih =>
    intro listed σ hv S F a w hsz hd hno hc hp hr
    refine ⟨fun hre => fin hsz hno hre hp hr, fun i hi => ?_⟩
    obtain ⟨h0, o, ho, hall⟩ := mem_ready.1 hi
    obtain ⟨h1, h2⟩ := getD_false_true h0
    have hcount : (listed.setIfInBounds i true).toList.count false ≤ fuel := by
      rw [Array.toList_setIfInBounds, List.count_set (by simpa using h2)]
      have : listed[i] = false := by simpa [h2] using h1
      have hpos : 0 < listed.toList.count false := List.count_pos_iff.2 (by rw [← this]; simp)
      simp [this]
      rw [← Array.count_toList]
      omega
    rcases Nat.lt_or_ge i k with hik | hik
    · obtain ⟨p, b, hpi⟩ := hs.onto i hik
      have hpk : p < k := by have := (List.getElem?_eq_some_iff.1 hpi).1; rw [hs.len] at this; exact this
      obtain ⟨o', x, ext, ho', hx, ⟨hd1, hu1, hu2⟩, hg⟩ := hf.get hpi
      rw [ho] at ho'
      cases ho'
      have hwait : ∀ j, waits ops i j = true → listed.getD j false = true := by
        intro j hw
        obtain ⟨o', ho', e, he, hb, rfl⟩ := waits_spec.1 hw
        rw [ho] at ho'
        cases ho'
        exact hall e he hb
      have hget : ∀ (q : Nat) (c : Bool) (j : Nat), (es.take p)[q]? = some (c, j) → es[q]? = some (c, j) ∧ q < p := by
        intro q c j hq
        have hqp : q < p := by have := (List.getElem?_eq_some_iff.1 hq).1; simp only [List.length_take] at this; omega
        rw [List.getElem?_take_of_lt hqp] at hq
        exact ⟨hq, hqp⟩
      have hlook : ∀ t ∈ o.looksAt ops, getL σ.tm t = getL (runM ops σ0 (es.take p) (rs.take p)).tm t := by
        intro t ht
        by_cases hex : ∃ (q : Nat) (c : Bool) (j : Nat) (r : Oper), es[q]? = some (c, j) ∧ ops[j]? = some r ∧ r.dst = some t
        · obtain ⟨q, c, j, r, hq, hr', hrd⟩ := hex
          obtain ⟨hqp, hw⟩ := (hs.apart p q b c i j o r t hpi hq ho hr' hrd).2 ht
          obtain ⟨y, exy, hy⟩ := hrs hq
          rw [hp.hit q c j r t y exy hq hy hr' hrd (hwait j hw)]
          refine (runM_hit _ _ _ (by rw [List.getElem?_take_of_lt hqp]; exact hq) (by rw [List.getElem?_take_of_lt hqp]; exact hy) hr' hrd fun m d l z hm hz hne => ?_).symm
          exact (hs.apart m q d c l j z r t (hget m d l hm).1 hq hz hr' hrd).1.resolve_left hne
        · have hnone : ∀ (q : Nat) (c : Bool) (j : Nat) (r : Oper), es[q]? = some (c, j) → ops[j]? = some r → r.dst ≠ some t := fun q c j r h1 h2 h3 => hex ⟨q, c, j, r, h1, h2, h3⟩
          rw [hp.miss t fun q c j r h1 h2 _ => hnone q c j r h1 h2]
          exact (runM_miss _ _ _ fun q c j r h1 h2 => hnone q c j r (hget q c j h1).1 h2).symm
      have n1 := runM_n (all := ops) (es.take p) (rs.take p) σ0
      have hdk : ∀ t, o.dst = some t → t < σ.n := fun t ht => by
        rw [ht, n1] at hd1
        rw [hp.n]; exact hd1
      obtain ⟨m, hmk, hm1, hm2⟩ := hp.ob
      have hnl : listed.getD i false = false := by
        cases hh : listed.getD i false with
        | false => rfl
        | true =>
          have : listed[i] = false := by simpa [h2] using h1
          simp [h2, this] at hh
      -- the makers in front are done
      have hfront : ∀ (q : Nat) (j : Nat), es[q]? = some (true, j) → q < p → q < m := fun q j hq hqp => (hm2 q j hq).1 (waitsT_ready hd hwait 3 j (hs.level p q b i j hpi hq hqp))
      have hpart : ∀ (x' : AV) (ob' : List Ob), x' = x → (∃ m, m ≤ es.length ∧ ob' = (runM ops σ0 (es.take m) (rs.take m)).ob ∧ ∀ (q : Nat) (j : Nat), es[q]? = some (true, j) → ((listed.setIfInBounds i true).getD j false = true ↔ q < m)) → PartM ops es rs σ0 (listed.setIfInBounds i true) (({ σ with ob := ob' } : St).set o.dst x') := by
        rintro x' ob' rfl hob
        refine ⟨by rw [← hp.n]; cases o.dst <;> rfl, ?_, fun q c j r t y exy hq hy hr' hrd hl => ?_, fun t ht => ?_⟩
        · have : (({ σ with ob := ob' } : St).set o.dst x').ob = ob' := by cases o.dst <;> rfl
          rw [this]; exact hob
        · rw [getL_set]
          by_cases hji : j = i
          · subst hji
            have := hs.inj q p c b j hq hpi
            subst this
            rw [ho] at hr'
            cases hr'
            rw [hx] at hy
            cases hy
            rw [if_pos hrd]
          · rw [getD_set h2] at hl
            have hl' : listed.getD j false = true := by simpa [Ne.symm hji] using hl
            have hne : o.dst ≠ some t := (hs.apart p q b c i j o r t hpi hq ho hr' hrd).1.resolve_left (fun e => by subst e; rw [hq] at hpi; cases hpi; exact hji rfl)
            rw [if_neg hne]
            exact hp.hit q c j r t y exy hq hy hr' hrd hl'
        · rw [getL_set, if_neg (ht p b i o hpi ho (by rw [getD_set h2]; simp))]
          exact hp.miss t fun q c j r hq hr' hl => ht q c j r hq hr' (by rw [getD_set h2]; simp only [hl, Bool.or_true])
      have hdown' : Down ops (listed.setIfInBounds i true) := by
        intro u v hu hw
        rw [getD_set h2] at hu ⊢
        by_cases hiu : i = u
        · subst hiu; simp only [hwait v hw, Bool.or_true]
        · have : listed.getD u false = true := by simpa [hiu] using hu
          simp only [hd u v this hw, Bool.or_true]
      have hno' : ∀ j, k ≤ j → (listed.setIfInBounds i true).getD j false = false := fun j hj => by
        rw [getD_set h2, hno j hj]
        simp only [Bool.or_false, decide_eq_false_iff_not]; omega
      have hguard := guard_congr (ops := ops) (o := o) hlook
      have hopd := opd_congr (ops := ops) (o := o) hlook
      unfold wpOp
      rw [ho]
      simp only
      cases b with
      | true =>
        rw [if_pos rfl] at hg
        obtain ⟨hgd, _, hmk'⟩ := hg
        have hgo : guardOf ops σ o = some true := by unfold guardOf; rw [hgd]
        -- just those in front are done
        have hback : ∀ (q : Nat) (j : Nat), es[q]? = some (true, j) → p ≤ q → m ≤ q := by
          intro q j hq hpq
          rcases Nat.lt_or_ge q m with h | h
          · exfalso
            have hlj := (hm2 q j hq).2 h
            rcases Nat.lt_or_ge p q with h' | h'
            · have := waitsT_down hd 3 j i (hs.level q p true j i hq hpi h') hlj
              rw [hnl] at this; cases this
            · have : q = p := by omega
              subst this
              rw [hpi] at hq
              cases hq
              rw [hnl] at hlj; cases hlj
          · exact h
        have hobp : σ.ob = (runM ops σ0 (es.take p) (rs.take p)).ob := by
          rw [hm1]
          rcases Nat.le_total p m with hpm | hpm
          · refine same hpm hmk fun q j h2 h3 hq => ?_
            have := hback q j hq h2
            omega
          · refine (same hpm (by rw [hs.len]; omega) fun q j h2 h3 hq => ?_).symm
            have := hfront q j hq h3
            omega
        rw [if_pos (wanted_of hr hgo)]
        refine .inl ?_
        have := hmk'.does (Q := Q) hr hobp hopd (next := fun v w' => wpAny P .any ops Q fuel (listed.setIfInBounds i true) (a.put o.dst v) w') (fun v w' x' ob' hv' S' F' L hk q1 q2 q3 q4 => by
          obtain ⟨rfl, rfl⟩ := hk
          refine ih (by simpa using hsz) hdown' hno' hcount (hpart x' _ rfl ⟨p + 1, by rw [hs.len]; omega, ?_, ?_⟩) (q1.put (d := o.dst) q2 q3 q4 hdk)
          · rw [runM_step es rs σ0 hpi hx ho, stp_ob]
          · intro q j hq
            rw [getD_set h2]
            by_cases hij : i = j
            · subst hij
              have := hs.inj q p true true i hq hpi
              subst this
              simp
            · simp only [hij, decide_false, Bool.false_or]
              rw [hm2 q j hq]
              have hqp : q ≠ p := fun e => by subst e; rw [hpi] at hq; cases hq; exact hij rfl
              refine ⟨fun h => ?_, fun h => hfront q j hq (by omega)⟩
              rcases Nat.lt_or_ge q p with h' | h'
              · omega
              · have := hback q j hq h'
                omega)
        unfold Does at this
        exact Oper.wp_mono (fun a' w' ⟨v, ha, hv⟩ => ha ▸ hv) this
      | false =>
        rw [if_neg (by simp)] at hg
        obtain ⟨_, hg⟩ := hg
        have hm2' : ∃ m, m ≤ es.length ∧ σ.ob = (runM ops σ0 (es.take m) (rs.take m)).ob ∧ ∀ (q : Nat) (j : Nat), es[q]? = some (true, j) → ((listed.setIfInBounds i true).getD j false = true ↔ q < m) := by
          refine ⟨m, hmk, hm1, fun q j hq => ?_⟩
          rw [getD_set h2]
          have hij : i ≠ j := fun e => by
            subst e
            have := hs.inj q p true false i hq hpi
            subst this
            rw [hpi] at hq; cases hq
          simp only [hij, decide_false, Bool.false_or]
          exact hm2 q j hq
        have hpart' := hpart x σ.ob rfl hm2'
        rcases hg with ⟨hg, hfact, hpure⟩ | ⟨hg, rfl⟩
        · rw [if_pos (wanted_of hr (hguard.trans hg))]
          refine .inl ?_
          have hgo : Does P Q o a w fun v w' => wpAny P .any ops Q fuel (listed.setIfInBounds i true) (a.put o.dst v) w' := by
            cases hpo : isPure o.op with
            | true =>
              have hfact' := hpure hpo hr hopd
              exact hfact'.does (Q := Q) hr (fun y hy => by rw [← hopd y hy]; exact hr.arg y) (fun v w' hv' S' hr' ⟨L, f1, f2⟩ hu =>
                ih (by simpa using hsz) hdown' hno' hcount hpart' (hr'.put (d := o.dst) f1 f2 hu hdk))
            | false =>
              obtain ⟨more, hmore⟩ : ∃ more, σ.ob = (runM ops σ0 (es.take p) (rs.take p)).ob ++ more := by
                rw [hm1]
                rcases Nat.le_total p m with hpm | hpm
                · have hcase : ∀ (q j : Nat) (r : Oper), p ≤ q → q < m → es[q]? = some (true, j) → ops[j]? = some r → isSt r.op = false ∧ (isBs r.op = false ∨ ∀ e ∈ es.take p, e.1 = false) := by
                    intro q j r h2' h3 hq hr'
                    have hlj := (hm2 q j hq).2 h3
                    have hqp : p < q := by
                      rcases Nat.lt_or_ge p q with h | h
                      · exact h
                      · have : q = p := by omega
                        subst this
                        rw [hpi] at hq; cases hq
                    rcases hs.pure p q i j o r hpi hq ho hr' hqp with h | h | h
                    · rw [hpo] at h; cases h
                    · have := waitsT_down hd 3 j i h hlj
                      rw [hnl] at this; cases this
                    · exact h
                  by_cases hzero : ∀ e ∈ es.take p, e.1 = false
                  · have hnone : ∀ (q j : Nat), q < p → es[q]? ≠ some (true, j) := by
                      intro q j hq hqj
                      have : (true, j) ∈ es.take p := List.mem_of_getElem? (i := q) (by rw [List.getElem?_take_of_lt hq]; exact hqj)
                      have := hzero _ this
                      cases this
                    have h0 : (runM ops σ0 (es.take p) (rs.take p)).ob = σ0.ob := by
                      have := same (p := 0) (m := p) (Nat.zero_le _) (by rw [hs.len]; omega) (fun q j _ h3 => hnone q j h3)
                      rw [this]; simp [runM]
                    rw [h0]
                    refine base hmk fun q j r h3 hq hr' => ?_
                    rcases Nat.lt_or_ge q p with h | h
                    · exact absurd hq (hnone q j h)
                    · exact (hcase q j r h h3 hq hr').1
                  · refine app hpm hmk fun q j r h2' h3 hq hr' => ?_
                    obtain ⟨c1, c2⟩ := hcase q j r h2' h3 hq hr'
                    exact ⟨c1, c2.resolve_right hzero⟩
                · refine ⟨[], ?_⟩
                  rw [List.append_nil]
                  refine (same hpm (by rw [hs.len]; omega) fun q j h2 h3 hq => ?_).symm
                  have := hfront q j hq h3
                  omega
              have hargs : ∀ y ∈ o.op.operands, Arg hv S w (runM ops σ0 (es.take p) (rs.take p)).ob.length ((runM ops σ0 (es.take p) (rs.take p)).opd y) (a.eval y) := by
                intro y hy
                refine ⟨by rw [← hopd y hy]; exact (hr.arg y).1, ?_⟩
                exact St.opd_under hu1 y
              exact hfact.doesMore (Q := Q) hr hmore hu2 hargs (fun v w' hv' S' hr' ⟨L, f1, f2⟩ hu =>
                ih (by simpa using hsz) hdown' hno' hcount hpart' (hr'.put (d := o.dst) f1 f2 hu hdk))
          unfold Does at hgo
          exact Oper.wp_mono (fun a' w' ⟨v, ha, hv⟩ => ha ▸ hv) hgo
        · rw [if_neg (by rw [wanted_of hr (hguard.trans hg)]; simp)]
          exact ih (by simpa using hsz) hdown' hno' hcount hpart' (hr.put (d := o.dst) (x := .ud) (v := undef) (L := []) (by simp [footA]) (by simp) rfl hdk)
    · -- the first of the others
      have hbefore := ready_chain hs.toStatic0 hd hi hik
      have hik' : i = k := by
        rcases Nat.lt_or_ge k i with h | h
        · have := hbefore (i - k) k rfl h
          rw [hno k (Nat.le_refl _)] at this
          cases this
        · omega
      subst hik'
      have hr' := full (fun j hj => hbefore (i - j) j rfl hj) hp hr
      have hlt : i < ops.size := by omega
      have hdrop : ops.toList.drop i = o :: ops.toList.drop (i + 1) := by
        rw [List.drop_eq_getElem_cons (by simpa using hlt)]
        congr 1
        have := Array.getElem?_eq_getElem hlt
        rw [ho] at this
        simpa using (Option.some.inj this).symm
      rw [hdrop] at hK
      refine op_step ho hr' hK fun σ' hv' S' F' a' w' hK' hr'' => ?_
      have hl : ∀ j, (listed.setIfInBounds i true).getD j false = decide (j < i + 1) := fun j => by
        rw [getD_set h2]
        rcases Nat.lt_trichotomy j i with h | h | h
        · rw [hbefore (i - j) j rfl h]; simp; omega
        · subst h; simp
        · rw [hno j (by omega)]
          simp only [Bool.or_false, decide_eq_decide]; omega
      refine late_sound hs.toStatic0 hQ fuel (by simpa using hsz) hlt (by omega) hl ?_ hr'' hK'
      have hc2 := count_false (listed.setIfInBounds i true).toList (i + 1) (fun j hj b hb => by
        have := hl j
        rw [Array.getElem?_toList] at hb
        simp only [Array.getD_eq_getD_getElem?, hb, Option.getD_some] at this
        rw [this]; simp; omega)
      simp only [Array.length_toList, Array.size_setIfInBounds] at hc2
      omega
theorem vcDm_run {id : Nat} {ops : Array Oper} {k : Nat} {es : List (Bool × Nat)} {K : St → Prop} (hm : P.follows .mixedOrders = true) (hr : Rel w0 σ hv S F a w) (hk : okDrawM ops k es = true) (h : vcDm P ops σ.ob.length es (ops.toList.drop k) σ K)
    (hQ : ∀ σ' (hv' : Hv) S' F' a' w', K σ' → Rel w0 σ' hv' S' F' a' w' → Q .normal a' w') : (Code.region id ops true).wp P Q a w := by
  have hs := okDrawM_spec hk
  have hr' := hr.grow (Grew.drew w)
  obtain ⟨rs, σe, k0, k1, k2⟩ := vcDm_sound _ hr (Eqv.refl σ) h
  refine wp_region_any hm ?_
  have hrep : ∀ j, (Array.replicate ops.size false).getD j false = false := fun j => by
    rcases Nat.lt_or_ge j ops.size with h | h <;> simp [h]
  refine early_soundM hs hQ k2 k0 k1 ops.size (by simp) (fun i j hi _ => absurd hi (by rw [hrep]; simp)) (fun j _ => hrep j) (by simp) ⟨rfl, ⟨0, by omega, by simp [runM], fun q j _ => by rw [hrep]; simp⟩, fun p b j o t x ext _ _ _ _ hl => absurd hl (by rw [hrep]; simp), fun _ _ => rfl⟩ hr'
end
end Go.Proofs.YtmgdkkhnjkepiaaGreat.BX
namespace Go.Proofs.YtmgdkkhnjkepiaaGreat.BX
set_option linter.unusedSectionVars false
set_option linter.unusedSimpArgs false
set_option linter.unusedVariables false
open Go Go.RowKit
variable [Bd]
mutual
def AV.avoid (s : Nat) : AV → Bool
  | .rf i _ => i != s
  | .ra i _ _ _ => i != s
  | .sv i _ _ _ => i != s
  | .sr i => i != s
  | .mr i => i != s
  | .it i => i != s
  | .ag cs => avoids s cs
  | .tp cs => avoids s cs
  | .fn _ cs => avoids s cs
  | _ => true
def avoids (s : Nat) : List AV → Bool
  | [] => true
  | x :: xs => x.avoid s && avoids s xs
end
def Ob.avoid (s : Nat) : Ob → Bool
  | .box x => x.avoid s
  | .hole _ _ _ _ _ _ id => id != s
  | .mhole _ _ _ _ _ _ id => id != s
  | _ => true
def avoidH (H : List Nat) (x : AV) : Bool := H.all fun s => x.avoid s
def noMh : List Ob → Bool
  | [] => true
  | .mhole .. :: _ => false
  | _ :: os => noMh os
theorem noMh_get : ∀ {os : List Ob}, noMh os = true → ∀ {i : Nat} {o : Ob}, os[i]? = some o → (∀ a b s ks vs j id, o ≠ .mhole a b s ks vs j id)
  | [], _, i, o, h => by simp at h
  | o' :: os, hm, 0, o, h => by
    simp only [List.getElem?_cons_zero, Option.some.injEq] at h
    subst h
    rintro a b s ks vs j id rfl
    simp [noMh] at hm
  | o' :: os, hm, i + 1, o, h => noMh_get (os := os) (by cases o' <;> simp_all [noMh]) (by simpa using h)
mutual
theorem avoid_under {n s : Nat} (h : n ≤ s) : ∀ x : AV, x.under n = true → x.avoid s = true
  | .un, _ | .ud, _ | .ns, _ | .t _, _ | .bw _, _ => rfl
  | .ag cs, hx => by simp only [AV.under] at hx; simp only [AV.avoid]; exact avoids_under h cs hx
  | .tp cs, hx => by simp only [AV.under] at hx; simp only [AV.avoid]; exact avoids_under h cs hx
  | .fn _ cs, hx => by simp only [AV.under] at hx; simp only [AV.avoid]; exact avoids_under h cs hx
  | .rf id _, hx => by simp only [AV.under, decide_eq_true_eq] at hx; simp only [AV.avoid, bne_iff_ne]; omega
  | .sr id, hx => by simp only [AV.under, decide_eq_true_eq] at hx; simp only [AV.avoid, bne_iff_ne]; omega
  | .ra id _ _ _, hx => by simp only [AV.under, decide_eq_true_eq] at hx; simp only [AV.avoid, bne_iff_ne]; omega
  | .sv id _ _ _, hx => by simp only [AV.under, decide_eq_true_eq] at hx; simp only [AV.avoid, bne_iff_ne]; omega
  | .mr id, hx => by simp only [AV.under, decide_eq_true_eq] at hx; simp only [AV.avoid, bne_iff_ne]; omega
  | .it id, hx => by simp only [AV.under, decide_eq_true_eq] at hx; simp only [AV.avoid, bne_iff_ne]; omega
theorem avoids_under {n s : Nat} (h : n ≤ s) : ∀ xs : List AV, unders n xs = true → avoids s xs = true
  | [], _ => rfl
  | x :: xs, hx => by
    simp only [unders, Bool.and_eq_true] at hx
    simp only [avoids, Bool.and_eq_true]
    exact ⟨avoid_under h x hx.1, avoids_under h xs hx.2⟩
end
theorem Ob.avoid_under {n s : Nat} (h : n ≤ s) {o : Ob} (ho : o.under n = true) (hm : ∀ a b s ks vs j id, o ≠ .mhole a b s ks vs j id) : o.avoid s = true := by
  cases o <;> first | rfl | exact BX.avoid_under h _ ho | (simp only [Ob.under, decide_eq_true_eq] at ho; simp only [Ob.avoid, bne_iff_ne]; omega) | exact absurd rfl (hm _ _ _ _ _ _ _)
mutual
theorem via_self {r : Nat → Option Nat} {s : Nat} (hr : ∀ i, i ≠ s → r i = some i) : ∀ x : AV, x.avoid s = true → x.via r x
  | .un, _ => trivial
  | .ud, _ => by simp only [AV.via]
  | .ns, _ => by simp only [AV.via]
  | .t _, _ => by simp only [AV.via, AV.shut]
  | .bw _, _ => by simp only [AV.via, AV.shutB]
  | .ag cs, h => by simp only [AV.avoid] at h; simp only [AV.via]; exact vias_self hr cs h
  | .tp cs, h => by simp only [AV.avoid] at h; simp only [AV.via]; exact vias_self hr cs h
  | .fn _ cs, h => by simp only [AV.avoid] at h; simp only [AV.via]; exact ⟨trivial, vias_self hr cs h⟩
  | .rf id _, h => by simp only [AV.avoid, bne_iff_ne] at h; simp only [AV.via, hr id h]
  | .sr id, h => by simp only [AV.avoid, bne_iff_ne] at h; simp only [AV.via, hr id h]
  | .ra id _ _ _, h => by simp only [AV.avoid, bne_iff_ne] at h; simp only [AV.via, hr id h]
  | .sv id _ _ _, h => by simp only [AV.avoid, bne_iff_ne] at h; simp only [AV.via, hr id h]
  | .mr id, h => by simp only [AV.avoid, bne_iff_ne] at h; simp only [AV.via, hr id h]
  | .it id, h => by simp only [AV.avoid, bne_iff_ne] at h; simp only [AV.via, hr id h]
theorem vias_self {r : Nat → Option Nat} {s : Nat} (hr : ∀ i, i ≠ s → r i = some i) : ∀ xs : List AV, avoids s xs = true → vias r xs xs
  | [], _ => by simp only [vias]
  | x :: xs, h => by
    simp only [avoids, Bool.and_eq_true] at h
    simp only [vias]
    exact ⟨via_self hr x h.1, vias_self hr xs h.2⟩
end
theorem Kind.le_refl (k : Kind) : k.le k := by cases k <;> simp [Kind.le]
theorem Ob.via_self {r : Nat → Option Nat} {s : Nat} (hr : ∀ i, i ≠ s → r i = some i) (o : Ob) (h : o.avoid s = true) : o.via r o := by
  cases o with
  | dead => trivial
  | box x => exact BX.via_self hr x h
  | arr e m k es => exact ⟨rfl, rfl, Kind.le_refl k, rfl⟩
  | hole e m ss es i j id => simp only [Ob.avoid, bne_iff_ne] at h; exact ⟨⟨rfl, rfl, rfl, rfl, rfl, rfl⟩, hr id h⟩
  | map a b k ks vs p => exact ⟨rfl, rfl, Kind.le_refl k, rfl, rfl, .inr rfl⟩
  | mhole a b s ks vs i id => simp only [Ob.avoid, bne_iff_ne] at h; exact ⟨⟨rfl, rfl, rfl, rfl, rfl, rfl⟩, hr id h⟩
  | iter c l => exact ⟨.inr rfl, rfl⟩
section
variable {P : Program} {Q : Exit → Act → World → Prop} {w0 : Base} {σ : St} {hv : Hv} {S : Nat → Prop} {F : Nat → List Nat} {a : Act} {w : World}
theorem Rel.slot {o : Ob} {s : Nat} (h : Rel w0 { σ with ob := σ.ob ++ [o] } hv S F a w) (hs : σ.ob[s]? = some .dead) (hn : w0.na ≤ s) (ht : ∀ t, (getL σ.tm t).under σ.ob.length = true) (hu : ∀ (i : Nat) (o' : Ob), σ.ob[i]? = some o' → o'.under σ.ob.length = true)
    (hat : ∀ t, (getL σ.tm t).avoid s = true) (hao : ∀ (i : Nat) (o' : Ob), σ.ob[i]? = some o' → o'.avoid s = true) (ho : o.avoid s = true) (hou : o.under σ.ob.length = true) :
    ∃ (hv' : Hv) (F' : Nat → List Nat), Rel w0 { σ with ob := σ.ob.set s o } hv' S F' a w ∧ hv'.B = hv.B ∧ hv' s = hv σ.ob.length := by
  have hsl := get_lt hs
  let r : Nat → Option Nat := fun i => if i = s then some σ.ob.length else some i
  have hr : ∀ i, i ≠ s → r i = some i := fun i hi => by simp only [r, hi, if_false]
  have hrs : r s = some σ.ob.length := by simp only [r, if_true]
  obtain ⟨hv', F', q1, q2, q3⟩ := h.via (σ' := { σ with ob := σ.ob.set s o }) r rfl (fun t => BX.via_self hr _ (hat t)) (fun t => by simpa using ht t) (fun i o' hi => by
      rcases set_get hi with ⟨rfl, rfl⟩ | ⟨hne, hi⟩
      · rw [hrs]
        exact .inr ⟨o', by simp, Ob.via_self hr o' ho⟩
      · rw [hr i hne]
        exact .inr ⟨o', by simp only [List.getElem?_append_left (get_lt hi)]; exact hi, Ob.via_self hr o' (hao i o' hi)⟩)
    (fun i i' j hi hi' h1 h2 => by
      simp only [List.length_set] at hi hi'
      by_cases e1 : i = s <;> by_cases e2 : i' = s
      · rw [e1, e2]
      · subst e1
        rw [hrs] at h1
        rw [hr i' e2] at h2
        have := (Option.some.inj h1).trans (Option.some.inj h2).symm
        omega
      · subst e2
        rw [hrs] at h2
        rw [hr i e1] at h1
        have := (Option.some.inj h2).trans (Option.some.inj h1).symm
        omega
      · rw [hr i e1] at h1
        rw [hr i' e2] at h2
        exact (Option.some.inj h1).trans (Option.some.inj h2).symm)
    (fun i o' hi => by
      simp only [List.length_set]
      rcases set_get hi with ⟨rfl, rfl⟩ | ⟨hne, hi⟩
      · exact hou
      · exact hu i o' hi)
    (fun i hi => hr i (by omega)) (by simp only [List.length_set]; omega)
  exact ⟨hv', F', q1, q2, (q3 s _ hrs).1⟩
theorem Rel.room (h : Rel w0 σ hv S F a w) (m : Nat) (hm : noMh σ.ob = true) : ∃ hv' F', Rel w0 { σ with ob := σ.ob ++ List.replicate m .dead } hv' S F' a w := by
  let r : Nat → Option Nat := fun i => some i
  obtain ⟨hv', F', q1, _⟩ := h.via (σ' := { σ with ob := σ.ob ++ List.replicate m .dead }) r rfl (fun t => BX.via_self (s := σ.ob.length) (fun _ _ => rfl) _ (BX.avoid_under (Nat.le_refl _) _ (h.utm t))) (fun t => AV.under_mono (by simp) _ (h.utm t)) (fun i o' hi => by
      show o' = .dead ∨ _
      rcases Nat.lt_or_ge i σ.ob.length with hlt | hge
      · simp only [List.getElem?_append_left hlt] at hi
        exact .inr ⟨o', hi, Ob.via_self (s := σ.ob.length) (fun _ _ => rfl) _ (Ob.avoid_under (Nat.le_refl _) (h.uob i o' hi) (noMh_get hm hi))⟩
      · simp only [List.getElem?_append_right hge, List.getElem?_replicate] at hi
        split at hi
        · exact .inl (Option.some.inj hi).symm
        · cases hi)
    (fun i i' j _ _ h1 h2 => (Option.some.inj h1).trans (Option.some.inj h2).symm)
    (fun i o' hi => by
      rcases Nat.lt_or_ge i σ.ob.length with hlt | hge
      · simp only [List.getElem?_append_left hlt] at hi
        exact Ob.under_mono (by simp) _ (h.uob i o' hi)
      · simp only [List.getElem?_append_right hge, List.getElem?_replicate] at hi
        split at hi
        · rw [← Option.some.inj hi]; rfl
        · cases hi)
    (fun _ _ => rfl) (by have := h.an; simp; omega)
  exact ⟨hv', F', q1⟩
theorem killAll_ext {H : List Nat} {ob ob' : List Ob} (hl : ob.length = ob'.length) (h : ∀ i, i ∉ H → ob[i]? = ob'[i]?) : killAll H ob = killAll H ob' := by
  refine List.ext_getElem? fun i => ?_
  by_cases hi : i ∈ H
  · have dead : ∀ {l : List Ob}, i < l.length → (killAll H l)[i]? = some .dead := by
      intro l hlt
      have hlt' : i < (killAll H l).length := by rw [killAll_length]; exact hlt
      cases hk : (killAll H l)[i]? with
      | none => rw [List.getElem?_eq_getElem hlt'] at hk; cases hk
      | some o =>
        by_cases ho : o = .dead
        · rw [ho]
        · exact absurd hi (killAll_get H l i o hk ho).1
    rcases Nat.lt_or_ge i ob.length with hlt | hge
    · rw [dead hlt, dead (by omega)]
    · rw [List.getElem?_eq_none (by rw [killAll_length]; exact hge), List.getElem?_eq_none (by rw [killAll_length]; omega)]
  · rw [killAll_keep H ob i hi, killAll_keep H ob' i hi, h i hi]
theorem Obs.kill {ob : List Ob} (h : Obs ob hv S F w) (H : List Nat) : Obs (killAll H ob) hv S F w := by
  have key : ∀ (id : Nat) (o : Ob), (killAll H ob)[id]? = some o → o = .dead ∨ ob[id]? = some o := fun id o hid => by
    by_cases ho : o = .dead
    · exact .inl ho
    · exact .inr (killAll_get H ob id o hid ho).2
  refine ⟨fun id o hid => ?_, fun id o hid => ?_, fun id o hid ho b hb => ?_, h.SB, h.one⟩
  · rcases key id o hid with rfl | h1
    · trivial
    · exact h.ob id o h1
  · rw [killAll_length]
    rcases key id o hid with rfl | h1
    · rfl
    · exact h.uob id o h1
  · rcases key id o hid with rfl | h1
    · cases ho
    · exact h.own id o h1 ho b hb
theorem RootsIn.kill {ob : List Ob} (h : RootsIn ob hv w) (H : List Nat) : RootsIn (killAll H ob) hv w := fun id o hid hd b hb => h id o (killAll_get H ob id o hid hd).2 hd b hb
theorem Fact.kill {ob : List Ob} {e : Operand → AV} {o : Oper} {x : AV} {H : List Nat} (h : Fact P (killAll H ob) e o x) : Fact P ob e o x := by
  rcases h with h | ⟨r, rfl, h⟩
  · exact .inl fun {hv S F w ρ} hob harg => by
      have := h (hob.kill H) (by rw [killAll_length]; exact harg)
      rw [killAll_length] at this
      exact this
  · exact .inr ⟨r, rfl, fun {hv S F w ρ} hob hS hR harg => h (hob.kill H) hS (hR.kill H) (by rw [killAll_length]; exact harg)⟩
end
def tsOf : List AV → Option (List T)
  | [] => some []
  | .t y :: xs => match tsOf xs with
    | some ys => some (y :: ys)
    | none => none
  | _ => none
theorem tsOf_eq : ∀ {xs : List AV} {ys : List T}, tsOf xs = some ys → xs = ys.map .t
  | [], ys, h => by simp only [tsOf, Option.some.injEq] at h; subst h; rfl
  | x :: xs, ys, h => by
    cases x <;> simp only [tsOf] at h <;> first | (cases h; done) | skip
    split at h
    · rename_i zs hz
      cases h
      rw [tsOf_eq hz]; rfl
    · cases h
def vcMk1 (P : Program) (e : Operand → AV) (op : Op) (id : Nat) (K : AV → Ob → Prop) : Prop :=
  match op with
  | .alloc t => match zeroOf P t with
    | some z => K (.rf id 0) (.box (ofV z))
    | none => False
  | .buildSlice t n parts => match lay P t with
    | .sli el m => parts.toList.map (·.1) = List.range' 0 n ∧ n * m ≤ 16777216 ∧ n < Bd.B ∧ (zeroOf P el).isSome = true ∧ match tsOf (parts.toList.map fun p => e p.2) with
      | some ys => fitsAll (shOf P 40 el) ys = true ∧ allLen m ys = true ∧ allOnes ys = true ∧ K (.sr id) (.arr el m (.own (shOf P 40 el)) ys)
      | none => False
    | _ => False
  | _ => False
def vcSt1 (P : Program) (e : Operand → AV) (op : Op) (id : Nat) (old : Option Ob) (K : AV → Prop) : Prop :=
  match op with
  | .store t p x => match old with
    | some (.box y) => ∃ off, e p = .rf id off ∧ y ≠ .un ∧ e x ≠ .un ∧ allOne (e x).cells = true ∧ P.cellsOf t = (e x).cells.length ∧ off + (e x).cells.length ≤ y.cells.length ∧ (e x).cells.length ≠ 0 ∧
        K (if off = 0 ∧ y.cells.length = (e x).cells.length ∧ (e x).isAg = y.isAg then e x else .ag (segA y.cells off (e x).cells))
    | _ => False
  | _ => False
def vcDy (P : Program) (all : Array Oper) : List (List Nat × Nat) → List Oper → Nat → St → (St → Prop) → Prop
  | [], os, _, σ, K => vcOps P all os σ K
  | _ :: _, [], _, _, _ => False
  | (H, kd) :: hs, o :: os, s, σ, K => dstOk σ.n o.dst ∧ match kd with
    | 0 => vcGuard all σ o (fun σ => vcLook P (killAll H σ.ob) σ.opd o.op fun x => (x.under s = true ∧ avoidH H x = true) ∧ vcDy P all hs os s (σ.set o.dst x) K) (fun σ => vcDy P all hs os s (σ.set o.dst .ud) K)
    | 1 => o.guard = none ∧ vcMk1 P σ.opd o.op s fun x ob => avoidH H x = true ∧ vcDy P all hs os (s + 1) (({ σ with ob := σ.ob.set s ob } : St).set o.dst x) K
    | id + 2 => o.guard = none ∧ vcSt1 P σ.opd o.op id σ.ob[id]? fun y => (y.under s = true ∧ avoidH H y = true) ∧ vcDy P all hs os s (({ σ with ob := σ.ob.set id (.box y) } : St).set o.dst .ud) K
def mks : List (List Nat × Nat) → Nat
  | [] => 0
  | (_, kd) :: hs => (if kd = 1 then 1 else 0) + mks hs
def tgs : List (List Nat × Nat) → Nat → List (Option Nat)
  | [], _ => []
  | (_, 0) :: hs, s => none :: tgs hs s
  | (_, 1) :: hs, s => some s :: tgs hs (s + 1)
  | (_, id + 2) :: hs, s => some id :: tgs hs s
theorem tgs_len : ∀ {hs : List (List Nat × Nat)} {s : Nat}, (tgs hs s).length = hs.length
  | [], _ => rfl
  | (_, 0) :: hs, s => by simp [tgs, tgs_len (hs := hs)]
  | (_, 1) :: hs, s => by simp [tgs, tgs_len (hs := hs)]
  | (_, id + 2) :: hs, s => by simp [tgs, tgs_len (hs := hs)]
def okDy (ops : Array Oper) (n0 : Nat) (hs : List (List Nat × Nat)) : Bool :=
  (decide (hs.length ≤ ops.size)) &&
  ((List.range ops.size).all fun i => match ops[i]? with
    | some o => (o.after.all fun e => !Region.binds .any e || decide (e.on < i)) && (decide (i < hs.length) || (List.range i).all fun j => (List.range ops.size).any fun m => decide (j < m) && decide (m ≤ i) && waits ops m j)
    | none => false) &&
  ((List.range hs.length).all fun i => match ops[i]? with
    | some o => (List.range hs.length).all fun j => match ops[j]? with
      | some p => match p.dst with
        | some t => (i == j || o.dst != some t) && (!(o.looksAt ops).contains t || (decide (j < i) && waits ops i j))
        | none => true
      | none => false
    | none => false) &&
  ((List.range hs.length).all fun i => (List.range hs.length).all fun j => i == j || match hs[i]?, (tgs hs n0)[j]? with
    | some (H, _), some (some id) => (waitsT ops 6 i j || H.contains id) && !((tgs hs n0)[i]? == some (some id))
    | some _, some none => true
    | _, _ => false) &&
  ((List.range hs.length).all fun i => match hs[i]? with
    | some (_, kd) => decide (kd < n0 + 2)
    | none => false)
structure StaticY (ops : Array Oper) (n0 : Nat) (hs : List (List Nat × Nat)) : Prop extends Static ops hs.length where
  hid : ∀ (i j : Nat) (H : List Nat) (kd id : Nat), i ≠ j → hs[i]? = some (H, kd) → (tgs hs n0)[j]? = some (some id) → waitsT ops 6 i j = true ∨ id ∈ H
  one : ∀ (i j id : Nat), (tgs hs n0)[i]? = some (some id) → (tgs hs n0)[j]? = some (some id) → i = j
theorem okDy_spec {ops : Array Oper} {n0 : Nat} {hs : List (List Nat × Nat)} (h : okDy ops n0 hs = true) : StaticY ops n0 hs := by
  simp only [okDy, Bool.and_eq_true] at h
  obtain ⟨⟨⟨⟨h1, h2⟩, h3⟩, h4⟩, _⟩ := h
  have hst : Static ops hs.length := okDraw_spec (by unfold okDraw; simp only [Bool.and_eq_true]; exact ⟨⟨h1, h2⟩, h3⟩)
  simp only [List.all_eq_true, List.mem_range, Bool.or_eq_true, beq_iff_eq] at h4
  have hl : ∀ (i : Nat) (x : Option Nat), (tgs hs n0)[i]? = some x → i < hs.length := fun i x hx => by have := get_lt hx; rw [tgs_len] at this; exact this
  refine ⟨hst, fun i j H kd id hij hi hj => ?_, fun i j id hi hj => ?_⟩
  · have := (h4 i (get_lt hi) j (hl j _ hj)).resolve_left hij
    rw [hi, hj] at this
    simp only [Bool.and_eq_true, Bool.or_eq_true] at this
    exact this.1.imp (fun h => h) fun h => List.contains_iff_mem.1 h
  · by_cases hij : i = j
    · exact hij
    · obtain ⟨⟨H, kd⟩, hh⟩ : ∃ e, hs[i]? = some e := ⟨_, List.getElem?_eq_getElem (hl i _ hi)⟩
      have := (h4 i (hl i _ hi) j (hl j _ hj)).resolve_left hij
      rw [hh, hj] at this
      simp only [Bool.and_eq_true, Bool.not_eq_true', beq_eq_false_iff_ne] at this
      exact absurd hi this.2
structure RY where
  x : AV
  tg : Option (Nat × Ob)
def obY (ob : List Ob) : Option (Nat × Ob) → List Ob
  | some (id, o) => ob.set id o
  | none => ob
def runY : St → List Oper → List RY → St
  | σ, o :: os, r :: rs => runY (stp σ o.dst r.x (obY σ.ob r.tg)) os rs
  | σ, _, _ => σ
def EffY (P : Program) (mk : Bool) (old : Option Ob) (e : Operand → AV) (o : Oper) (n0 id : Nat) (x : AV) (ob : Ob) : Prop :=
  ∀ {Q : Exit → Act → World → Prop} {w0 : Base} {σ : St} {hv : Hv} {S : Nat → Prop} {F : Nat → List Nat} {a : Act} {w : World} {next : Value → World → Prop},
    Rel w0 σ hv S F a w → w0.na ≤ n0 → σ.ob[id]? = old → (∀ y ∈ o.op.operands, σ.opd y = e y) → (mk = true → (∀ t, (getL σ.tm t).avoid id = true) ∧ ∀ (i : Nat) (o' : Ob), σ.ob[i]? = some o' → o'.avoid id = true) →
    Ans w0 σ a (fun x' ob' => x' = x ∧ ob' = σ.ob.set id ob) next → Does P Q o a w next
def FactY (P : Program) (all : Array Oper) (n0 : Nat) (σ : St) (o : Oper) (H : List Nat) (kd : Nat) (tg : Option Nat) (r : RY) : Prop :=
  dstOk σ.n o.dst ∧ avoidH H r.x = true ∧ match tg with
    | none => kd = 0 ∧ r.tg = none ∧ ((guardOf all σ o = some true ∧ Fact P (killAll H σ.ob) σ.opd o r.x) ∨ (guardOf all σ o = some false ∧ r.x = .ud))
    | some id => o.guard = none ∧ ∃ ob old, r.tg = some (id, ob) ∧ σ.ob[id]? = some old ∧ (∀ h ∈ H, ob.avoid h = true) ∧ (∀ a b s ks vs j id, ob ≠ .mhole a b s ks vs j id) ∧ (kd = 1 → old = .dead ∧ n0 ≤ id) ∧ EffY P (kd == 1) (some old) σ.opd o n0 id r.x ob
def FactsY (P : Program) (all : Array Oper) (n0 : Nat) : St → List (List Nat × Nat) → List (Option Nat) → List Oper → List RY → Prop
  | _, [], [], _, [] => True
  | σ, (H, kd) :: hs, tg :: ts, o :: os, r :: rs => FactY P all n0 σ o H kd tg r ∧ FactsY P all n0 (stp σ o.dst r.x (obY σ.ob r.tg)) hs ts os rs
  | _, _, _, _, _ => False
section
variable {P : Program} {Q : Exit → Act → World → Prop} {w0 : Base} {σ : St} {hv : Hv} {S : Nat → Prop} {F : Nat → List Nat} {a : Act} {w : World}
theorem mix_ts {ob : List Ob} {s : Sh} : ∀ {ys : List T}, fitsAll s ys = true → ownsA ob s (ys.map .t) = some (ys, [])
  | [], _ => by simp only [List.map_nil, ownsA]
  | y :: ys, h => by
    simp only [fitsAll, Bool.and_eq_true] at h
    have hy : AV.own ob s (.t y) = some (y, []) := by cases s <;> simp only [AV.own, h.1, if_true]
    simp only [List.map_cons, ownsA, hy, mix_ts h.2, List.nil_append]
theorem mk1_sound {e : Operand → AV} {o : Oper} {n0 s : Nat} {K : AV → Ob → Prop} (hs : n0 ≤ s) (h : vcMk1 P e o.op s K) : ∃ x ob, K x ob ∧ (∀ h, ob.avoid h = true) ∧ (∀ n, ob.under n = true) ∧ (∀ n, s < n → x.under n = true) ∧ (∀ a b s ks vs j id, ob ≠ .mhole a b s ks vs j id) ∧ EffY P true (some .dead) e o n0 s x ob := by
  have fin : ∀ {x : Nat → AV} {ob : Ob} (hx : ∀ (hv : Hv) (w : World) (n : Nat) (v : Value) (L : List Nat), footA hv w (x n) v L → v.oneCell' = v.oneCell' ∧ ∀ (hv' : Hv) (n' : Nat), hv'.B = hv.B → hv' n' = hv n → footA hv' w (x n') v L)
      (hu : ∀ n m, n < m → (x n).under m = true) (ha : ∀ h, ob.avoid h = true) (hou : ∀ n, ob.under n = true)
      (hd : ∀ {Q : Exit → Act → World → Prop} {w0 : Base} {σ : St} {hv : Hv} {S : Nat → Prop} {F : Nat → List Nat} {a : Act} {w : World} {next : Value → World → Prop}, Rel w0 σ hv S F a w → (∀ y ∈ o.op.operands, σ.opd y = e y) → Ans w0 σ a (fun x' ob' => x' = x σ.ob.length ∧ ob' = σ.ob ++ [ob]) next → Does P Q o a w next),
      EffY P true (some .dead) e o n0 s (x s) ob := by
    intro x ob hx hu ha hou hd Q w0 σ hv S F a w next hr hna hold hop hav hn
    obtain ⟨hat, hao⟩ := hav rfl
    refine hd hr hop fun v w' x' ob' hv' S' F' L hk q1 q2 q3 q4 => ?_
    obtain ⟨rfl, rfl⟩ := hk
    obtain ⟨hv2, F2, k1, k2, k3⟩ := Rel.slot (σ := σ) q1 hold (by omega) hr.utm hr.uob hat hao (ha s) (hou _)
    refine hn v w' (x s) _ hv2 S' F2 L ⟨rfl, rfl⟩ k1 ((hx _ _ _ _ _ q2).2 hv2 s k2 k3) q3 (hu _ _ ?_)
    simp only [List.length_set]
    exact get_lt hold
  unfold vcMk1 at h
  split at h
  · rename_i t hop
    split at h
    · rename_i z hz
      refine ⟨_, _, h, fun i => ?_, fun n => ?_, fun n hn => by simp only [AV.under, decide_eq_true_eq]; exact hn, by simp, fin (x := fun n => .rf n 0) ?_ ?_ ?_ ?_ ?_⟩
      · exact BX.avoid_under (Nat.zero_le _) _ (ofV_under 0 z)
      · exact ofV_under n z
      · intro hv w n v L hf
        refine ⟨rfl, fun hv' n' _ he => ?_⟩
        simp only [footA] at hf ⊢
        rw [he]; exact hf
      · intro n m hnm; simp only [AV.under, decide_eq_true_eq]; exact hnm
      · intro i; exact BX.avoid_under (Nat.zero_le _) _ (ofV_under 0 z)
      · intro n; exact ofV_under n z
      · intro Q w0 σ hv S F a w next hr _ hn
        exact alloc_sound hop hr hz (K := fun x' ob' => x' = .rf σ.ob.length 0 ∧ ob' = σ.ob ++ [.box (ofV z)]) ⟨rfl, rfl⟩ hn
    · cases h
  · rename_i t n parts hop
    split at h
    case h_2 => cases h
    rename_i el m hl
    obtain ⟨g1, g2, g3, g4, h⟩ := h
    split at h
    case h_2 => cases h
    rename_i ys hys
    obtain ⟨g5, g6, g7, h⟩ := h
    refine ⟨_, _, h, fun _ => rfl, fun _ => rfl, fun n hn => by simp only [AV.under, decide_eq_true_eq]; exact hn, by simp, fin (x := fun n => .sr n) ?_ ?_ (fun _ => rfl) (fun _ => rfl) ?_⟩
    · intro hv w n v L hf
      refine ⟨rfl, fun hv' n' _ he => ?_⟩
      simp only [footA] at hf ⊢
      rw [he]; exact hf
    · intro n m hnm; simp only [AV.under, decide_eq_true_eq]; exact hnm
    · intro Q w0 σ hv S F a w next hr hopd hn
      refine buildSlice_sound hop hr (K := fun x' ob' => x' = .sr σ.ob.length ∧ ob' = σ.ob ++ [.arr el m (.own (shOf P 40 el)) ys]) ?_ hn
      have hm : (parts.toList.map fun p => σ.opd p.2) = ys.map .t := by
        rw [← tsOf_eq hys]
        exact List.map_congr_left fun p hp => hopd p.2 (by
          rw [hop]
          simp only [Op.operands, List.mem_toArray, List.mem_map]
          exact ⟨p, hp, rfl⟩)
      rw [hm]
      unfold vcBuildSlice
      rw [hl]
      refine ⟨g1, g2, g3, g4, ?_⟩
      have : mix σ.ob (.own (shOf P 40 el)) (ys.map .t) = some (ys, [], .own (shOf P 40 el)) := by simp only [mix, mix_ts g5]
      rw [this]
      exact ⟨rfl, g6, g7, rfl, rfl⟩
  · cases h
theorem st1_sound {e : Operand → AV} {o : Oper} {n0 id : Nat} {old : Option Ob} {K : AV → Prop} (h : vcSt1 P e o.op id old K) : ∃ y ob, K y ∧ old = some ob ∧ ob ≠ .dead ∧ EffY P false old e o n0 id .ud (.box y) := by
  unfold vcSt1 at h
  split at h
  case h_2 => cases h
  rename_i t p x hop
  split at h
  case h_2 => cases h
  rename_i y
  obtain ⟨off, hp, q1, q2, q3, q4, q5, q6, hK⟩ := h
  refine ⟨_, _, hK, rfl, by simp, ?_⟩
  intro Q w0 σ hv S F a w next hr _ hold hopd _ hn
  have hp' := hopd p (by rw [hop]; simp [Op.operands])
  have hx' := hopd x (by rw [hop]; simp [Op.operands])
  rw [hp] at hp'
  rw [← hx'] at q2 q3 q4 q5 q6 hn
  exact store_box_sound hop hr hp' hold q1 q2 q3 q4 q5 q6 ⟨rfl, rfl⟩ hn
theorem EffY.get {mk : Bool} {old : Option Ob} {e : Operand → AV} {o : Oper} {n0 id : Nat} {x : AV} {ob : Ob} (h : EffY P mk old e o n0 id x ob) (hr : Rel w0 σ hv S F a w) (hna : w0.na ≤ n0) (hold : σ.ob[id]? = old) (hop : ∀ y ∈ o.op.operands, σ.opd y = e y)
    (hav : mk = true → (∀ t, (getL σ.tm t).avoid id = true) ∧ ∀ (i : Nat) (o' : Ob), σ.ob[i]? = some o' → o'.avoid id = true) (hd : ∀ k, o.dst = some k → k < σ.n) : ∃ hv' S' F' a' w', Rel w0 (stp σ o.dst x (σ.ob.set id ob)) hv' S' F' a' w' := by
  have := h (Q := fun _ _ _ => False) hr hna hold hop hav (next := fun v w' => ∃ hv' S' F' L, Rel w0 { σ with ob := σ.ob.set id ob } hv' S' F' a w' ∧ footA hv' w' x v L ∧ (∀ b ∈ L, S' b) ∧ x.under (σ.ob.set id ob).length = true)
    (fun v w' x' ob' hv' S' F' L hk q1 q2 q3 q4 => by obtain ⟨rfl, rfl⟩ := hk; exact ⟨hv', S', F', L, q1, q2, q3, q4⟩)
  obtain ⟨v, w', hv', S', F', L, q1, q2, q3, q4⟩ := Does.some this
  exact ⟨hv', S', F', a.put o.dst v, w', by unfold stp; exact q1.put q2 q3 q4 hd⟩
theorem set_obY {σ : St} {d : Option Nat} {x : AV} : (σ.set d x).ob = σ.ob := by cases d <;> rfl
theorem avoidH_mem {H : List Nat} {x : AV} (h : avoidH H x = true) {s : Nat} (hs : s ∈ H) : x.avoid s = true := by
  simp only [avoidH, List.all_eq_true] at h
  exact h s hs
theorem vcDy_sound {all : Array Oper} {n0 : Nat} : ∀ (hs : List (List Nat × Nat)) (os : List Oper) {s : Nat} {σ σ' : St} {hv : Hv} {S : Nat → Prop} {F : Nat → List Nat} {a : Act} {w : World} {K : St → Prop}, Rel w0 σ hv S F a w → Eqv σ σ' → w0.na ≤ n0 → n0 ≤ s →
    (∀ t, (getL σ.tm t).under s = true) → (∀ (i : Nat) (o' : Ob), σ.ob[i]? = some o' → o'.under s = true ∧ ∀ a b s ks vs j id, o' ≠ .mhole a b s ks vs j id) → (∀ i, s ≤ i → i < σ.ob.length → σ.ob[i]? = some .dead) → s + mks hs ≤ σ.ob.length → vcDy P all hs os s σ' K →
    ∃ rs σ'', Eqv (runY σ os rs) σ'' ∧ vcOps P all (os.drop hs.length) σ'' K ∧ FactsY P all n0 σ hs (tgs hs s) os rs
  | [], os, s, σ, σ', hv, S, F, a, w, K, hr, he, _, _, _, _, _, _, h => ⟨[], σ', by cases os <;> exact he, h, trivial⟩
  | _ :: _, [], s, σ, σ', hv, S, F, a, w, K, hr, he, _, _, _, _, _, _, h => h.elim
  | (H, kd) :: hs, o :: os, s, σ, σ', hv, S, F, a, w, K, hr, he, hna, hns, hut, huo, hde, hmk, h => by
    obtain ⟨hd, h⟩ := h
    rw [he.n] at hd
    have hdk : ∀ k, o.dst = some k → k < σ.n := fun k hk => by rw [hk] at hd; exact hd
    match kd, h with
    | 0, h =>
      have hmk' : s + mks hs ≤ σ.ob.length := by simpa [mks] using hmk
      rcases vcGuard_sound he h with ⟨hg, σ1, he1, h⟩ | ⟨hg, σ1, he1, h⟩
      · have hr1 := hr.tm_ext he1
        obtain ⟨x, ⟨⟨hxs, hxH⟩, hx⟩, hf⟩ := vcLook_sound (hr1.obs.kill H) (fun y _ => by rw [killAll_length]; exact hr1.arg y) h
        rw [he1.ob, show σ1.opd = σ.opd from funext he1.opd] at hf
        obtain ⟨hv', S', F', a', w', hr'⟩ : ∃ hv' S' F' a' w', Rel w0 (σ.set o.dst x) hv' S' F' a' w' := by
          have hf' := hf.kill
          rcases hf' with hf2 | ⟨r, rfl, hf2⟩
          · obtain ⟨v, h1, ⟨L, h2, h2'⟩, h3⟩ := hf2 hr.obs (fun y _ => hr.arg y)
            exact ⟨hv, S, F, _, w, hr.put h2 h2' h3 hdk⟩
          · obtain ⟨f, args, h1, h2⟩ := hf2 hr.obs hr.Blt hr.rootsIn (fun y _ => hr.arg y)
            obtain ⟨en, w', v, L', rfl, q1, q2, q3⟩ := Calls.some h2
            exact ⟨_, _, F, _, w', (hr.grow q3).put (x := .t r) (by simpa only [footA] using q1) q2 rfl hdk⟩
        obtain ⟨rs, σ'', k0, k1, k2⟩ := vcDy_sound hs os hr' (he1.set o.dst x) hna hns (fun t => by rw [getL_set]; split <;> first | exact hxs | exact hut t) (fun i o' hi => huo i o' (by rw [set_obY] at hi; exact hi)) (fun i h1 h2 => by rw [set_obY] at h2 ⊢; exact hde i h1 h2) (by rw [set_obY]; exact hmk') hx
        exact ⟨⟨x, none⟩ :: rs, σ'', k0, k1, ⟨hd, hxH, rfl, rfl, .inl ⟨hg, hf⟩⟩, k2⟩
      · obtain ⟨rs, σ'', k0, k1, k2⟩ := vcDy_sound hs os (hr.put (d := o.dst) (x := .ud) (v := undef) (L := []) (by simp [footA]) (by simp) rfl hdk) (he1.set o.dst .ud) hna hns (fun t => by rw [getL_set]; split <;> first | rfl | exact hut t) (fun i o' hi => huo i o' (by rw [set_obY] at hi; exact hi)) (fun i h1 h2 => by rw [set_obY] at h2 ⊢; exact hde i h1 h2) (by rw [set_obY]; exact hmk') h
        refine ⟨⟨.ud, none⟩ :: rs, σ'', k0, k1, ⟨hd, ?_, rfl, rfl, .inr ⟨hg, rfl⟩⟩, k2⟩
        simp [avoidH, AV.avoid]
    | 1, h =>
      obtain ⟨hg, h⟩ := h
      have hmk' : s + 1 + mks hs ≤ σ.ob.length := by simp only [mks, if_true] at hmk; omega
      obtain ⟨x, ob, ⟨hxH, hx⟩, hav, hou, hxu, hnm, hf⟩ := mk1_sound (n0 := n0) hns h
      rw [show σ'.opd = σ.opd from funext he.opd] at hf
      have hold := hde s (Nat.le_refl _) (by omega)
      obtain ⟨hv', S', F', a', w', hr'⟩ := hf.get hr hna hold (fun _ _ => rfl) (fun _ => ⟨fun t => BX.avoid_under (Nat.le_refl _) _ (hut t), fun i o' hi => Ob.avoid_under (Nat.le_refl _) (huo i o' hi).1 (huo i o' hi).2⟩) hdk
      have heq : Eqv (stp σ o.dst x (σ.ob.set s ob)) (({ σ' with ob := σ'.ob.set s ob } : St).set o.dst x) := by rw [he.ob]; exact he.stp o.dst x (σ.ob.set s ob)
      obtain ⟨rs, σ'', k0, k1, k2⟩ := vcDy_sound hs os hr' heq hna (Nat.le_succ_of_le hns) (fun t => by rw [stp_get]; split <;> first | exact hxu _ (Nat.lt_succ_self s) | exact AV.under_mono (Nat.le_succ s) _ (hut t)) (fun i o' hi => by
          rw [stp_ob] at hi
          rcases set_get hi with ⟨_, rfl⟩ | ⟨_, hi⟩
          · exact ⟨hou _, hnm⟩
          · exact ⟨Ob.under_mono (Nat.le_succ s) _ (huo i o' hi).1, (huo i o' hi).2⟩) (fun i h1 h2 => by
          rw [stp_ob] at h2 ⊢
          rw [List.length_set] at h2
          rw [List.getElem?_set_ne (by omega)]
          exact hde i (by omega) h2) (by rw [stp_ob, List.length_set]; exact hmk') hx
      exact ⟨⟨x, some (s, ob)⟩ :: rs, σ'', k0, k1, ⟨hd, hxH, hg, ob, .dead, rfl, hold, fun h _ => hav h, hnm, fun _ => ⟨rfl, hns⟩, hf⟩, k2⟩
    | id + 2, h =>
      obtain ⟨hg, h⟩ := h
      have hmk' : s + mks hs ≤ σ.ob.length := by simp only [mks, show ¬ id + 2 = 1 by omega, if_false] at hmk; omega
      obtain ⟨y, old, ⟨⟨hys, hyH⟩, hy⟩, hold, hnd, hf⟩ := st1_sound (n0 := n0) h
      rw [show σ'.opd = σ.opd from funext he.opd, he.ob] at hf
      rw [he.ob] at hold
      obtain ⟨hv', S', F', a', w', hr'⟩ := hf.get hr hna rfl (fun _ _ => rfl) (fun h => by cases h) hdk
      have heq : Eqv (stp σ o.dst .ud (σ.ob.set id (.box y))) (({ σ' with ob := σ'.ob.set id (.box y) } : St).set o.dst .ud) := by rw [he.ob]; exact he.stp o.dst .ud (σ.ob.set id (.box y))
      obtain ⟨rs, σ'', k0, k1, k2⟩ := vcDy_sound hs os hr' heq hna hns (fun t => by rw [stp_get]; split <;> first | rfl | exact hut t) (fun i o' hi => by
          rw [stp_ob] at hi
          rcases set_get hi with ⟨_, rfl⟩ | ⟨_, hi⟩
          · exact ⟨hys, by simp⟩
          · exact huo i o' hi) (fun i h1 h2 => by
          rw [stp_ob] at h2 ⊢
          rw [List.length_set] at h2
          have := hde i h1 h2
          rw [List.getElem?_set_ne (by rintro rfl; rw [this] at hold; exact hnd (Option.some.inj hold).symm)]
          exact this) (by rw [stp_ob, List.length_set]; exact hmk') hy
      rw [hold] at hf
      refine ⟨⟨.ud, some (id, .box y)⟩ :: rs, σ'', k0, k1, ⟨hd, by simp [avoidH, AV.avoid], hg, .box y, old, rfl, hold, fun h hh => ?_, by simp, fun hh => by omega, ?_⟩, k2⟩
      · exact avoidH_mem hyH hh
      · have : ((id + 2 : Nat) == 1) = false := by simp
        rw [this]; exact @hf
theorem runY_n : ∀ (os : List Oper) (rs : List RY) (σ : St), (runY σ os rs).n = σ.n
  | [], _, _ => rfl
  | _ :: _, [], _ => rfl
  | o :: os, r :: rs, σ => by simp only [runY]; rw [runY_n os rs, stp_n]
theorem runY_tm : ∀ (os : List Oper) (rs : List RY) (σ σ' : St), (∀ t, getL σ.tm t = getL σ'.tm t) → ∀ t, getL (runY σ os rs).tm t = getL (putAll σ' os (rs.map RY.x)).tm t
  | [], _, _, _, h, t => by cases ‹List RY› <;> exact h t
  | _ :: _, [], _, _, h, t => h t
  | o :: os, r :: rs, σ, σ', h, t => by
    simp only [runY, List.map_cons, putAll]
    exact runY_tm os rs _ _ (fun t => by rw [stp_get, getL_set, h]) t
theorem obY_len {ob : List Ob} {tg : Option (Nat × Ob)} : (obY ob tg).length = ob.length := by cases tg <;> simp [obY]
theorem runY_len : ∀ (os : List Oper) (rs : List RY) (σ : St), (runY σ os rs).ob.length = σ.ob.length
  | [], _, _ => rfl
  | _ :: _, [], _ => rfl
  | o :: os, r :: rs, σ => by simp only [runY]; rw [runY_len os rs, stp_ob, obY_len]
theorem runY_miss {id : Nat} : ∀ (os : List Oper) (rs : List RY) (σ : St), (∀ (j : Nat) (r : RY) (o : Ob), rs[j]? = some r → r.tg ≠ some (id, o)) → (runY σ os rs).ob[id]? = σ.ob[id]?
  | [], _, _, _ => rfl
  | _ :: _, [], _, _ => rfl
  | o :: os, r :: rs, σ, h => by
    simp only [runY]
    rw [runY_miss os rs _ (fun j r o hj => h (j + 1) r o (by simpa using hj)), stp_ob]
    cases ht : r.tg with
    | none => rfl
    | some p =>
      obtain ⟨id', o'⟩ := p
      have : id' ≠ id := by rintro rfl; exact h 0 r o' rfl ht
      simp only [obY]
      rw [List.getElem?_set_ne this]
theorem runY_hit {id : Nat} {o : Ob} : ∀ (os : List Oper) (rs : List RY) (σ : St) {j : Nat} {r : RY}, rs.length ≤ os.length → rs[j]? = some r → r.tg = some (id, o) → id < σ.ob.length → (∀ (j' : Nat) (r' : RY) (o' : Ob), j' ≠ j → rs[j']? = some r' → r'.tg ≠ some (id, o')) → (runY σ os rs).ob[id]? = some o
  | [], rs, _, j, r, hl, hj, _, _, _ => by
    have : rs = [] := List.eq_nil_of_length_eq_zero (by simpa using hl)
    subst this; simp at hj
  | _ :: _, [], _, _, _, _, hj, _, _, _ => by simp at hj
  | p :: os, r' :: rs, σ, 0, r, hl, hj, ht, hid, hno => by
    simp only [List.getElem?_cons_zero, Option.some.injEq] at hj
    subst hj
    simp only [runY]
    rw [runY_miss os rs _ (fun j r o hj => hno (j + 1) r o (by omega) (by simpa using hj)), stp_ob, ht]
    simp only [obY]
    exact List.getElem?_set_self hid
  | p :: os, r' :: rs, σ, j + 1, r, hl, hj, ht, hid, hno => by
    simp only [runY]
    exact runY_hit os rs _ (by simpa using hl) (by simpa using hj) ht (by rw [stp_ob, obY_len]; exact hid) (fun j' r o' hne hj' => hno (j' + 1) r o' (by omega) (by simpa using hj'))
theorem FactsY.len {all : Array Oper} {n0 : Nat} : ∀ {hs : List (List Nat × Nat)} {ts : List (Option Nat)} {os : List Oper} {rs : List RY} {σ : St}, FactsY P all n0 σ hs ts os rs → rs.length = hs.length ∧ ts.length = hs.length ∧ hs.length ≤ os.length
  | [], [], _, [], _, _ => ⟨rfl, rfl, Nat.zero_le _⟩
  | [], _ :: _, _, _, _, h => h.elim
  | [], [], _, _ :: _, _, h => by simp [FactsY] at h
  | _ :: _, [], _, _, _, h => by simp [FactsY] at h
  | _ :: _, _ :: _, [], _, _, h => by simp [FactsY] at h
  | _ :: _, _ :: _, _ :: _, [], _, h => by simp [FactsY] at h
  | (H, kd) :: hs, tg :: ts, o :: os, r :: rs, σ, h => by
    obtain ⟨h1, h2, h3⟩ := FactsY.len h.2
    simp only [List.length_cons]
    omega
theorem FactsY.get {all : Array Oper} {n0 : Nat} : ∀ {hs : List (List Nat × Nat)} {ts : List (Option Nat)} {os : List Oper} {rs : List RY} {σ : St}, FactsY P all n0 σ hs ts os rs → ∀ {i : Nat} {H : List Nat} {kd : Nat}, hs[i]? = some (H, kd) →
    ∃ o r tg, os[i]? = some o ∧ rs[i]? = some r ∧ ts[i]? = some tg ∧ FactY P all n0 (runY σ (os.take i) (rs.take i)) o H kd tg r
  | [], _, _, _, _, _, i, H, kd, hi => by simp at hi
  | _ :: _, [], _, _, _, h, _, _, _, _ => by simp [FactsY] at h
  | _ :: _, _ :: _, [], _, _, h, _, _, _, _ => by simp [FactsY] at h
  | _ :: _, _ :: _, _ :: _, [], _, h, _, _, _, _ => by simp [FactsY] at h
  | (H', kd') :: hs, tg :: ts, o :: os, r :: rs, σ, h, 0, H, kd, hi => by
    simp only [List.getElem?_cons_zero, Option.some.injEq, Prod.mk.injEq] at hi
    obtain ⟨rfl, rfl⟩ := hi
    exact ⟨o, r, tg, rfl, rfl, rfl, h.1⟩
  | (H', kd') :: hs, tg :: ts, o :: os, r :: rs, σ, h, i + 1, H, kd, hi => by
    obtain ⟨o', r', tg', h1, h2, h3, h4⟩ := FactsY.get h.2 (i := i) (by simpa using hi)
    exact ⟨o', r', tg', by simpa using h1, by simpa using h2, by simpa using h3, by simpa [runY] using h4⟩
theorem FactY.tgs {all : Array Oper} {n0 : Nat} {o : Oper} {H : List Nat} {kd : Nat} {tg : Option Nat} {r : RY} (h : FactY P all n0 σ o H kd tg r) {id : Nat} {ob : Ob} (ht : r.tg = some (id, ob)) : tg = some id := by
  obtain ⟨_, _, h⟩ := h
  cases tg with
  | none => simp only at h; rw [h.2.1] at ht; cases ht
  | some id' =>
    simp only at h
    obtain ⟨_, ob', _, h1, _⟩ := h
    rw [h1] at ht
    cases ht
    rfl
theorem waitsT_lt {ops : Array Oper} {k : Nat} (hs : Static0 ops k) : ∀ (n i j : Nat), waitsT ops n i j = true → j < i
  | 0, i, j, h => by
    obtain ⟨o, ho, e, he, hb, rfl⟩ := waits_spec.1 h
    exact hs.back i o ho e he hb
  | n + 1, i, j, h => by
    simp only [waitsT, Bool.or_eq_true, List.any_eq_true, Bool.and_eq_true] at h
    rcases h with h | ⟨m, _, h1, h2⟩
    · obtain ⟨o, ho, e, he, hb, rfl⟩ := waits_spec.1 h
      exact hs.back i o ho e he hb
    · obtain ⟨o, ho, e, he, hb, rfl⟩ := waits_spec.1 h1
      have := hs.back i o ho e he hb
      have := waitsT_lt hs n _ _ h2
      omega
structure PartY (ops : Array Oper) (k : Nat) (rs : List RY) (σ0 : St) (listed : Array Bool) (σ : St) : Prop where
  n : σ.n = σ0.n
  len : σ.ob.length = σ0.ob.length
  obL : ∀ (j id : Nat) (r : RY) (o : Ob), rs[j]? = some r → r.tg = some (id, o) → listed.getD j false = true → σ.ob[id]? = some o
  obU : ∀ (id : Nat), (∀ (j : Nat) (r : RY) (o : Ob), rs[j]? = some r → r.tg = some (id, o) → listed.getD j false = false) → σ.ob[id]? = σ0.ob[id]?
  hit : ∀ j o t r, j < k → ops[j]? = some o → o.dst = some t → rs[j]? = some r → listed.getD j false = true → getL σ.tm t = r.x
  miss : ∀ t, (∀ j o, j < k → ops[j]? = some o → listed.getD j false = true → o.dst ≠ some t) → getL σ.tm t = getL σ0.tm t
theorem early_soundY {ops : Array Oper} {n0 : Nat} {hs : List (List Nat × Nat)} (hst : StaticY ops n0 hs) {K : St → Prop} (hQ : ∀ σ' (hv' : Hv) S' F' a' w', K σ' → Rel w0 σ' hv' S' F' a' w' → Q .normal a' w') {rs : List RY} {σ0 : St}
    (hna : w0.na ≤ n0) (hut : ∀ t, (getL σ0.tm t).under n0 = true) (huo : ∀ (i : Nat) (o' : Ob), σ0.ob[i]? = some o' → o'.under n0 = true ∧ ∀ a b s ks vs j id, o' ≠ .mhole a b s ks vs j id)
    (hf : FactsY P ops n0 σ0 hs (tgs hs n0) ops.toList rs) {σe : St} (hE : Eqv (runY σ0 ops.toList rs) σe) (hK : vcOps P ops (ops.toList.drop hs.length) σe K) :
    ∀ (fuel : Nat) {listed : Array Bool} {σ : St} {hv : Hv} {S : Nat → Prop} {F : Nat → List Nat} {a : Act} {w : World}, listed.size = ops.size → Down ops listed → (∀ j, hs.length ≤ j → listed.getD j false = false) → listed.toList.count false ≤ fuel →
      PartY ops hs.length rs σ0 listed σ → Rel w0 σ hv S F a w → wpAny P .any ops Q fuel listed a w := by
  intro fuel
  obtain ⟨hrl, _, hkl⟩ := hf.len
  generalize hk : hs.length = k at *
  have hs0 := hst.toStatic0
  rw [hk] at hs0
  have hap := hst.apart
  rw [hk] at hap
  -- the facts of one
  have fact : ∀ {i : Nat}, i < k → ∃ o r tg H kd, hs[i]? = some (H, kd) ∧ ops[i]? = some o ∧ rs[i]? = some r ∧ (tgs hs n0)[i]? = some tg ∧ FactY P ops n0 (runY σ0 (ops.toList.take i) (rs.take i)) o H kd tg r := by
    intro i hi
    obtain ⟨⟨H, kd⟩, hh⟩ : ∃ e, hs[i]? = some e := ⟨_, List.getElem?_eq_getElem (by omega)⟩
    obtain ⟨o, r, tg, h1, h2, h3, h4⟩ := hf.get hh
    exact ⟨o, r, tg, H, kd, hh, by rw [← Array.getElem?_toList]; exact h1, h2, h3, h4⟩
  have target : ∀ {j id : Nat} {r : RY} {o : Ob}, rs[j]? = some r → r.tg = some (id, o) → j < k ∧ (tgs hs n0)[j]? = some (some id) := by
    intro j id r o hj ht
    have hjk : j < k := by have := get_lt hj; omega
    obtain ⟨o', r', tg, H, kd, _, _, h3, h4, h5⟩ := fact hjk
    rw [hj] at h3
    cases h3
    have := h5.tgs ht
    subst this
    exact ⟨hjk, h4⟩
  have one : ∀ {i j id : Nat} {r r' : RY} {o o' : Ob}, rs[i]? = some r → r.tg = some (id, o) → rs[j]? = some r' → r'.tg = some (id, o') → i = j := fun hi ht hj ht' => hst.one _ _ _ (target hi ht).2 (target hj ht').2
  have idlt : ∀ {j id : Nat} {r : RY} {o : Ob}, rs[j]? = some r → r.tg = some (id, o) → id < σ0.ob.length := by
    intro j id r o hj ht
    obtain ⟨hjk, htg⟩ := target hj ht
    obtain ⟨o', r', tg, H, kd, _, _, h3, h4, _, _, h6⟩ := fact hjk
    rw [htg] at h4
    cases h4
    simp only at h6
    obtain ⟨_, ob, old, _, h7, _⟩ := h6
    have := get_lt h7
    rwa [runY_len] at this
  -- all of the first ones are done
  have full : ∀ {listed : Array Bool} {σ : St} {hv : Hv} {S : Nat → Prop} {F : Nat → List Nat} {a : Act} {w : World}, (∀ j, j < k → listed.getD j false = true) → PartY ops k rs σ0 listed σ → Rel w0 σ hv S F a w →
      Rel w0 σe hv S F a w := by
    intro listed σ hv S F a w hall hp hr
    refine Rel.tm_ext (hr.tm_ext (σ' := runY σ0 ops.toList rs) ⟨by rw [runY_n, hp.n], List.ext_getElem? fun id => ?_, fun t => ?_⟩) hE
    · by_cases hex : ∃ (j : Nat) (r : RY) (o : Ob), rs[j]? = some r ∧ r.tg = some (id, o)
      · obtain ⟨j, r, o, hj, ht⟩ := hex
        rw [hp.obL j id r o hj ht (hall j (target hj ht).1)]
        exact runY_hit _ _ _ (by rw [hrl]; exact hkl) hj ht (idlt hj ht) (fun j' r' o' hne hj' ht' => hne (one hj' ht' hj ht))
      · have hno : ∀ (j : Nat) (r : RY) (o : Ob), rs[j]? = some r → r.tg ≠ some (id, o) := fun j r o hj ht => hex ⟨j, r, o, hj, ht⟩
        rw [hp.obU id fun j r o hj ht => absurd ht (hno j r o hj)]
        exact runY_miss _ _ _ hno
    · rw [runY_tm _ _ _ σ0 (fun _ => rfl)]
      by_cases ht : ∃ j o, j < k ∧ ops[j]? = some o ∧ o.dst = some t
      · obtain ⟨j, o, hj, ho, hd⟩ := ht
        obtain ⟨x, hx⟩ : ∃ x, rs[j]? = some x := ⟨rs[j]'(by omega), List.getElem?_eq_getElem (by omega)⟩
        rw [hp.hit j o t x hj ho hd hx (hall j hj)]
        have hxs : (rs.map RY.x)[j]? = some x.x := by rw [List.getElem?_map, hx]; rfl
        have hpa : ∀ {os1 os2 : List Oper} {xs : List AV} {σ : St}, xs.length ≤ os1.length → putAll σ (os1 ++ os2) xs = putAll σ os1 xs := by
          intro os1
          induction os1 with
          | nil => intro os2 xs σ h; have : xs = [] := List.eq_nil_of_length_eq_zero (by simpa using h)
                   subst this; cases os2 <;> rfl
          | cons o os1 ih => intro os2 xs σ h; cases xs with
            | nil => rfl
            | cons x xs => simp only [List.cons_append, putAll]; exact ih (by simpa using h)
        rw [← List.take_append_drop k ops.toList, hpa (by rw [List.length_map, List.length_take]; omega)]
        refine putAll_hit _ _ _ (by rw [take_get hj]; exact ho) hxs hd fun i o' hi hne => ?_
        have hik : i < k := by have := get_lt hi; simp only [List.length_take] at this; omega
        rw [take_get hik] at hi
        exact (hap i j o' o t hik hj hi ho hd).1.resolve_left hne
      · have hno : ∀ j o, j < k → ops[j]? = some o → o.dst ≠ some t := fun j o hj ho hd => ht ⟨j, o, hj, ho, hd⟩
        rw [hp.miss t (fun j o hj ho _ => hno j o hj ho)]
        have hpa : ∀ (os : List Oper) (xs : List AV) (σ : St), (∀ (j : Nat) (o : Oper), j < xs.length → os[j]? = some o → o.dst ≠ some t) → getL (putAll σ os xs).tm t = getL σ.tm t := by
          intro os
          induction os with
          | nil => intro xs σ _; cases xs <;> rfl
          | cons o os ih => intro xs σ h; cases xs with
            | nil => rfl
            | cons x xs =>
              simp only [putAll]
              rw [ih xs _ (fun j o' hj ho' => h (j + 1) o' (by simpa using hj) (by simpa using ho')), getL_set, if_neg (h 0 o (by simp) rfl)]
        refine hpa _ _ _ fun j o hj ho => ?_
        rw [List.length_map, hrl] at hj
        exact hno j o hj (by rw [← Array.getElem?_toList]; exact ho)
  have fin : ∀ {listed : Array Bool} {σ : St} {hv : Hv} {S : Nat → Prop} {F : Nat → List Nat} {a : Act} {w : World}, listed.size = ops.size → (∀ j, k ≤ j → listed.getD j false = false) → Region.ready .any ops listed = [] →
      PartY ops k rs σ0 listed σ → Rel w0 σ hv S F a w → Q .normal a w := by
    intro listed σ hv S F a w hsz hno hre hp hr
    have hall := all_of_ready_nil hs0 hsz hre
    have hke : k = ops.size := by
      rcases Nat.lt_or_ge k ops.size with h | h
      · have h1 := hall k h
        rw [hno k (Nat.le_refl _)] at h1
        cases h1
      · have := hs0.le; omega
    have hr' := full (fun j hj => hall j (by omega)) hp hr
    rw [List.drop_of_length_le (by simp [hke])] at hK
    exact hQ _ _ _ _ _ _ hK hr'
  induction fuel with
  | zero =>
    intro listed σ hv S F a w hsz hd hno hc hp hr
    have hre : Region.ready .any ops listed = [] := by
      cases hre : Region.ready .any ops listed with
      | nil => rfl
      | cons i is =>
        have : i ∈ Region.ready .any ops listed := by rw [hre]; exact List.mem_cons_self ..
        obtain ⟨h0, _⟩ := mem_ready.1 this
        obtain ⟨h1, h2⟩ := getD_false_true h0
        have : false ∈ listed.toList := by
          have : listed[i] = false := by simpa [h2] using h1
          rw [← this]; simp
        have := List.count_pos_iff.2 this
        omega
    exact ⟨hre, fin hsz hno hre hp hr⟩
  | succ fuel ih =>
    intro listed σ hv S F a w hsz hd hno hc hp hr
    refine ⟨fun hre => fin hsz hno hre hp hr, fun i hi => ?_⟩
    obtain ⟨h0, o, ho, hall⟩ := mem_ready.1 hi
    obtain ⟨h1, h2⟩ := getD_false_true h0
    have hcount : (listed.setIfInBounds i true).toList.count false ≤ fuel := by
      rw [Array.toList_setIfInBounds, List.count_set (by simpa using h2)]
      have : listed[i] = false := by simpa [h2] using h1
      have hpos : 0 < listed.toList.count false := List.count_pos_iff.2 (by rw [← this]; simp)
      simp [this]
      rw [← Array.count_toList]
      omega
    rcases Nat.lt_or_ge i k with hik | hik
    · -- one of the first
      obtain ⟨o', r, tg, H, kd, hhi, ho', hri, htg, hfact⟩ := fact hik
      rw [ho] at ho'
      cases ho'
      obtain ⟨hd1, hxH, hg⟩ := hfact
      have hnl : listed.getD i false = false := h1
      have hwait : ∀ j, waits ops i j = true → listed.getD j false = true := by
        intro j hw
        obtain ⟨o', ho', e, he, hb, rfl⟩ := waits_spec.1 hw
        rw [ho] at ho'
        cases ho'
        exact hall e he hb
      have hlook : ∀ t ∈ o.looksAt ops, getL σ.tm t = getL (runY σ0 (ops.toList.take i) (rs.take i)).tm t := by
        intro t ht
        rw [runY_tm _ _ _ σ0 (fun _ => rfl)]
        have hget : ∀ j, j < i → (ops.toList.take i)[j]? = ops[j]? := fun j hj => by rw [List.getElem?_take_of_lt hj, Array.getElem?_toList]
        by_cases hex : ∃ j p, j < k ∧ ops[j]? = some p ∧ p.dst = some t
        · obtain ⟨j, p, hj, hp', hpd⟩ := hex
          obtain ⟨hji, hw⟩ := (hap i j o p t hik hj ho hp' hpd).2 ht
          obtain ⟨y, hy⟩ : ∃ y, rs[j]? = some y := ⟨rs[j]'(by omega), List.getElem?_eq_getElem (by omega)⟩
          rw [hp.hit j p t y hj hp' hpd hy (hwait j hw)]
          refine (putAll_hit _ _ _ (by rw [hget j hji]; exact hp') (by rw [List.getElem?_map, List.getElem?_take_of_lt hji, hy]; rfl) hpd fun m q hm hne => ?_).symm
          have hmi : m < i := by have := get_lt hm; simp only [List.length_take] at this; omega
          rw [hget m hmi] at hm
          exact (hap m j q p t (by omega) hj hm hp' hpd).1.resolve_left hne
        · have hnone : ∀ j p, j < k → ops[j]? = some p → p.dst ≠ some t := fun j p hj hp' hpd => hex ⟨j, p, hj, hp', hpd⟩
          rw [hp.miss t fun j p hj hp' _ => hnone j p hj hp']
          refine (putAll_miss _ _ _ fun m q hm => ?_).symm
          have hmi : m < i := by have := get_lt hm; simp only [List.length_take] at this; omega
          rw [hget m hmi] at hm
          exact hnone m q (by omega) hm
      have n1 := runY_n (ops.toList.take i) (rs.take i) σ0
      have hdk : ∀ t, o.dst = some t → t < σ.n := fun t ht => by
        rw [ht, n1] at hd1
        rw [hp.n]; exact hd1
      have hpart : ∀ (ob' : List Ob), (∀ id o', r.tg = some (id, o') → id < σ.ob.length) → ob' = obY σ.ob r.tg → PartY ops k rs σ0 (listed.setIfInBounds i true) (({ σ with ob := ob' } : St).set o.dst r.x) := by
        rintro ob' hid rfl
        have hob : (({ σ with ob := obY σ.ob r.tg } : St).set o.dst r.x).ob = obY σ.ob r.tg := set_ob
        refine ⟨by rw [← hp.n]; cases o.dst <;> rfl, by rw [hob, obY_len, hp.len], fun j id r' o' hj ht hl => ?_, fun id hno2 => ?_, fun j p t y hj hp' hpd hy hl => ?_, fun t ht => ?_⟩
        · rw [hob]
          by_cases hji : j = i
          · subst hji
            rw [hri] at hj
            cases hj
            rw [ht]
            simp only [obY]
            exact List.getElem?_set_self (hid id o' ht)
          · rw [getD_set h2] at hl
            have hl' : listed.getD j false = true := by simpa [Ne.symm hji] using hl
            have := hp.obL j id r' o' hj ht hl'
            cases htr : r.tg with
            | none => exact this
            | some p =>
              obtain ⟨id2, o2⟩ := p
              simp only [obY]
              rw [List.getElem?_set_ne (by rintro rfl; exact hji (one hj ht hri htr))]
              exact this
        · rw [hob]
          have h3 : ∀ (j : Nat) (r' : RY) (o' : Ob), rs[j]? = some r' → r'.tg = some (id, o') → listed.getD j false = false := fun j r' o' hj ht => by
            have := hno2 j r' o' hj ht
            rw [getD_set h2] at this
            simp only [Bool.or_eq_false_iff] at this
            exact this.2
          have := hp.obU id h3
          cases htr : r.tg with
          | none => exact this
          | some p =>
            obtain ⟨id2, o2⟩ := p
            simp only [obY]
            rw [List.getElem?_set_ne (by
              rintro rfl
              have := hno2 i r o2 hri htr
              rw [getD_set h2] at this
              simp at this)]
            exact this
        · rw [getL_set]
          by_cases hji : j = i
          · subst hji
            rw [ho] at hp'
            cases hp'
            rw [hri] at hy
            cases hy
            rw [if_pos hpd]
          · rw [getD_set h2] at hl
            have hl' : listed.getD j false = true := by simpa [Ne.symm hji] using hl
            have hne : o.dst ≠ some t := (hap i j o p t hik hj ho hp' hpd).1.resolve_left (Ne.symm hji)
            rw [if_neg hne]
            exact hp.hit j p t y hj hp' hpd hy hl'
        · rw [getL_set, if_neg (ht i o hik ho (by rw [getD_set h2]; simp))]
          exact hp.miss t fun j p hj hp' hl => ht j p hj hp' (by rw [getD_set h2]; simp only [hl, Bool.or_true])
      have hdown' : Down ops (listed.setIfInBounds i true) := by
        intro u v hu hw
        rw [getD_set h2] at hu ⊢
        by_cases hiu : i = u
        · subst hiu; simp only [hwait v hw, Bool.or_true]
        · have : listed.getD u false = true := by simpa [hiu] using hu
          simp only [hd u v this hw, Bool.or_true]
      have hno' : ∀ j, k ≤ j → (listed.setIfInBounds i true).getD j false = false := fun j hj => by
        rw [getD_set h2, hno j hj]
        simp only [Bool.or_false, decide_eq_false_iff_not]; omega
      have hguard := guard_congr (ops := ops) (o := o) hlook
      have hopd := opd_congr (ops := ops) (o := o) hlook
      unfold wpOp
      rw [ho]
      simp only
      cases tg with
      | none =>
        obtain ⟨_, hrt, hg⟩ := hg
        have hpart' := hpart σ.ob (fun id o' h => by rw [hrt] at h; cases h) (by rw [hrt]; rfl)
        have hkill : killAll H σ.ob = killAll H (runY σ0 (ops.toList.take i) (rs.take i)).ob := by
          refine killAll_ext (by rw [runY_len, hp.len]) fun id hidH => ?_
          by_cases hex : ∃ (j : Nat) (r : RY) (o : Ob), rs[j]? = some r ∧ r.tg = some (id, o)
          · obtain ⟨j, r', o', hj, ht⟩ := hex
            obtain ⟨hjk, hjt⟩ := target hj ht
            have hji : i ≠ j := by rintro rfl; rw [htg] at hjt; cases hjt
            have hw := (hst.hid i j H kd id hji hhi hjt).resolve_right hidH
            have hlt := waitsT_lt hs0 6 i j hw
            rw [hp.obL j id r' o' hj ht (waitsT_ready hd hwait 6 j hw)]
            refine (runY_hit (j := j) (r := r') _ _ _ (by simp only [List.length_take]; omega) (by rw [List.getElem?_take_of_lt hlt]; exact hj) ht (idlt hj ht) (fun j' r2 o2 hne hj' ht' => ?_)).symm
            have hj2 : rs[j']? = some r2 := by
              have := get_lt hj'
              rw [List.length_take] at this
              rwa [List.getElem?_take_of_lt (by omega)] at hj'
            exact hne (one hj2 ht' hj ht)
          · have hno3 : ∀ (j : Nat) (r : RY) (o : Ob), rs[j]? = some r → r.tg ≠ some (id, o) := fun j r o hj ht => hex ⟨j, r, o, hj, ht⟩
            rw [hp.obU id fun j r o hj ht => absurd ht (hno3 j r o hj)]
            refine (runY_miss _ _ _ fun j r o hj => ?_).symm
            have := get_lt hj
            rw [List.length_take] at this
            rw [List.getElem?_take_of_lt (by omega)] at hj
            exact hno3 j r o hj
        rcases hg with ⟨hg, hfact⟩ | ⟨hg, hrx⟩
        · rw [if_pos (wanted_of hr (hguard.trans hg))]
          refine .inl ?_
          rw [← hkill] at hfact
          have := (hfact.kill.congr hopd).does (Q := Q) (next := fun v w' => wpAny P .any ops Q fuel (listed.setIfInBounds i true) (a.put o.dst v) w') hr (fun y _ => hr.arg y) (fun v w' hv' S' hr' ⟨L, f1, f2⟩ hu =>
            ih (by simpa using hsz) hdown' hno' hcount hpart' (hr'.put (d := o.dst) f1 f2 hu hdk))
          unfold Does at this
          exact Oper.wp_mono (fun a' w' ⟨v, ha, hv⟩ => ha ▸ hv) this
        · rw [if_neg (by rw [wanted_of hr (hguard.trans hg)]; simp)]
          rw [hrx] at hpart'
          exact ih (by simpa using hsz) hdown' hno' hcount hpart' (hr.put (d := o.dst) (x := .ud) (v := undef) (L := []) (by simp [footA]) (by simp) rfl hdk)
      | some id =>
        obtain ⟨hgd, ob, old, hrt, hold, hobH, hobm, hmkd, heff⟩ := hg
        have hgo : guardOf ops σ o = some true := by unfold guardOf; rw [hgd]
        rw [if_pos (wanted_of hr hgo)]
        refine .inl ?_
        -- nobody else writes it
        have hno4 : ∀ (j : Nat) (r' : RY) (o' : Ob), j ≠ i → rs[j]? = some r' → r'.tg ≠ some (id, o') := fun j r' o' hne hj ht => hne (one hj ht hri hrt)
        have hσ0 : σ0.ob[id]? = some old := by
          rw [← hold]
          refine (runY_miss _ _ _ fun j r' o' hj => ?_).symm
          have hlt := get_lt hj
          rw [List.length_take] at hlt
          rw [List.getElem?_take_of_lt (by omega)] at hj
          exact hno4 j r' o' (by omega) hj
        have hσ : σ.ob[id]? = some old := by
          rw [hp.obU id fun j r' o' hj ht => ?_, hσ0]
          by_cases hji : j = i
          · rw [hji]; exact hnl
          · exact absurd ht (hno4 j r' o' hji hj)
        have hfree : ∀ {j : Nat} {H' : List Nat} {kd' : Nat}, listed.getD j false = true → hs[j]? = some (H', kd') → id ∈ H' := by
          intro j H' kd' hl hj
          have hji : j ≠ i := by rintro rfl; rw [hnl] at hl; cases hl
          refine (hst.hid j i H' kd' id hji hj htg).resolve_left fun hw => ?_
          have := waitsT_down hd 6 j i hw hl
          rw [hnl] at this; cases this
        have := heff (Q := Q) hr hna hσ hopd (fun hmk => ?_) (next := fun v w' => wpAny P .any ops Q fuel (listed.setIfInBounds i true) (a.put o.dst v) w') (fun v w' x' ob' hv' S' F' L hk' q1 q2 q3 q4 => by
          obtain ⟨rfl, rfl⟩ := hk'
          exact ih (by simpa using hsz) hdown' hno' hcount (hpart _ (fun id' o' h => by rw [hrt] at h; cases h; exact get_lt hσ) (by rw [hrt]; rfl)) (q1.put (d := o.dst) q2 q3 q4 hdk))
        · unfold Does at this
          exact Oper.wp_mono (fun a' w' ⟨v, ha, hv⟩ => ha ▸ hv) this
        · obtain ⟨_, hid0⟩ := hmkd (by simpa using hmk)
          refine ⟨fun t => ?_, fun i' o' hi' => ?_⟩
          · by_cases hex : ∃ j p, j < k ∧ ops[j]? = some p ∧ p.dst = some t ∧ listed.getD j false = true
            · obtain ⟨j, p, hj, hp', hpd, hl⟩ := hex
              obtain ⟨o2, r2, tg2, H2, kd2, hh2, ho2, hr2, _, _, hx2, _⟩ := fact hj
              rw [hp.hit j p t r2 hj hp' hpd hr2 hl]
              exact avoidH_mem hx2 (hfree hl hh2)
            · rw [hp.miss t fun j p hj hp' hl hpd => hex ⟨j, p, hj, hp', hpd, hl⟩]
              exact BX.avoid_under hid0 _ (hut t)
          · by_cases hex : ∃ (j : Nat) (r : RY) (o : Ob), rs[j]? = some r ∧ r.tg = some (i', o) ∧ listed.getD j false = true
            · obtain ⟨j, r2, o2, hj, ht, hl⟩ := hex
              have := hp.obL j i' r2 o2 hj ht hl
              rw [this] at hi'
              cases hi'
              obtain ⟨hjk, hjt⟩ := target hj ht
              obtain ⟨o3, r3, tg3, H3, kd3, hh3, ho3, hr3, ht3, _, _, hg3⟩ := fact hjk
              rw [hj] at hr3
              cases hr3
              rw [hjt] at ht3
              cases ht3
              simp only at hg3
              obtain ⟨_, ob3, _, e3, _, hob3, _⟩ := hg3
              rw [ht] at e3
              cases e3
              exact hob3 id (hfree hl hh3)
            · rw [hp.obU i' fun j r2 o2 hj ht => ?_] at hi'
              · exact Ob.avoid_under hid0 (huo i' o' hi').1 (huo i' o' hi').2
              · cases hl : listed.getD j false with
                | false => rfl
                | true => exact absurd ⟨j, r2, o2, hj, ht, hl⟩ hex
    · -- the first of the others
      have hbefore := ready_chain hs0 hd hi hik
      have hik' : i = k := by
        rcases Nat.lt_or_ge k i with h | h
        · have := hbefore (i - k) k rfl h
          rw [hno k (Nat.le_refl _)] at this
          cases this
        · omega
      subst hik'
      have hr' := full (fun j hj => hbefore (i - j) j rfl hj) hp hr
      have hlt : i < ops.size := by omega
      have hdrop : ops.toList.drop i = o :: ops.toList.drop (i + 1) := by
        rw [List.drop_eq_getElem_cons (by simpa using hlt)]
        congr 1
        have := Array.getElem?_eq_getElem hlt
        rw [ho] at this
        simpa using (Option.some.inj this).symm
      rw [hdrop] at hK
      refine op_step ho hr' hK fun σ' hv' S' F' a' w' hK' hr'' => ?_
      have hl : ∀ j, (listed.setIfInBounds i true).getD j false = decide (j < i + 1) := fun j => by
        rw [getD_set h2]
        rcases Nat.lt_trichotomy j i with h | h | h
        · rw [hbefore (i - j) j rfl h]; simp; omega
        · subst h; simp
        · rw [hno j (by omega)]
          simp only [Bool.or_false, decide_eq_decide]; omega
      refine late_sound hs0 hQ fuel (by simpa using hsz) hlt (by omega) hl ?_ hr'' hK'
      have hc2 := count_false (listed.setIfInBounds i true).toList (i + 1) (fun j hj b hb => by
        have := hl j
        rw [Array.getElem?_toList] at hb
        simp only [Array.getD_eq_getD_getElem?, hb, Option.getD_some] at this
        rw [this]; simp; omega)
      simp only [Array.length_toList, Array.size_setIfInBounds] at hc2
      omega
def deads : Nat → List Ob
  | 0 => []
  | n + 1 => .dead :: deads n
theorem deads_eq : ∀ (n : Nat), deads n = List.replicate n .dead
  | 0 => rfl
  | n + 1 => by rw [deads, deads_eq n]; rfl
def prs : List (Bool × Nat) → List Nat → List (List Nat × Nat)
  | (true, id) :: es, H => prs es (id :: H)
  | (false, kd) :: es, H => (H, kd) :: prs es []
  | [], _ => []
def vcDyR (P : Program) (ops : Array Oper) (n0 : Nat) (hs : List (List Nat × Nat)) (σ : St) (K : St → Prop) : Prop :=
  σ.ob.length = n0 ∧ noMh σ.ob = true ∧ vcDy P ops hs ops.toList n0 { σ with ob := σ.ob ++ deads (mks hs) } K
theorem vcDy_run {id : Nat} {ops : Array Oper} {n0 : Nat} {hs : List (List Nat × Nat)} {K : St → Prop} (hm : P.follows .mixedOrders = true) (hr : Rel w0 σ hv S F a w) (hk : okDy ops n0 hs = true) (h : vcDyR P ops n0 hs σ K)
    (hQ : ∀ σ' (hv' : Hv) S' F' a' w', K σ' → Rel w0 σ' hv' S' F' a' w' → Q .normal a' w') : (Code.region id ops true).wp P Q a w := by
  obtain ⟨hn0, hmh, h⟩ := h
  rw [deads_eq] at h
  have hst := okDy_spec hk
  obtain ⟨hv1, F1, hr1⟩ := hr.room (mks hs) hmh
  have hna : w0.na ≤ n0 := by rw [← hn0]; exact hr.an
  have hut : ∀ t, (getL σ.tm t).under n0 = true := fun t => by rw [← hn0]; exact hr.utm t
  have huo : ∀ (i : Nat) (o' : Ob), (σ.ob ++ List.replicate (mks hs) Ob.dead)[i]? = some o' → o'.under n0 = true ∧ ∀ a b s ks vs j id, o' ≠ .mhole a b s ks vs j id := fun i o' hi => by
    rcases Nat.lt_or_ge i σ.ob.length with hlt | hge
    · rw [List.getElem?_append_left hlt] at hi
      exact ⟨by rw [← hn0]; exact hr.uob i o' hi, noMh_get hmh hi⟩
    · rw [List.getElem?_append_right hge, List.getElem?_replicate] at hi
      split at hi
      · rw [← Option.some.inj hi]; exact ⟨rfl, by simp⟩
      · cases hi
  obtain ⟨rs, σe, k0, k1, k2⟩ := vcDy_sound (n0 := n0) hs ops.toList hr1 (Eqv.refl _) hna (Nat.le_refl _) hut huo (fun i h1 h2 => by
    simp only [List.length_append, List.length_replicate] at h2
    rw [List.getElem?_append_right (by omega), List.getElem?_replicate, if_pos (by omega)]) (by simp; omega) h
  refine wp_region_any hm ?_
  have hrep : ∀ j, (Array.replicate ops.size false).getD j false = false := fun j => by
    rcases Nat.lt_or_ge j ops.size with h | h <;> simp [h]
  refine early_soundY (σ0 := { σ with ob := σ.ob ++ List.replicate (mks hs) .dead }) hst hQ hna hut huo k2 k0 k1 ops.size (by simp) (fun i j hi _ => absurd hi (by rw [hrep]; simp)) (fun j _ => hrep j) (by simp) ⟨rfl, rfl, fun j id r o _ _ hl => absurd hl (by rw [hrep]; simp), fun _ _ => rfl, fun j o t r _ _ _ _ hl => absurd hl (by rw [hrep]; simp), fun _ _ => rfl⟩ (hr1.grow (Grew.drew w))
end
end Go.Proofs.YtmgdkkhnjkepiaaGreat.BX
namespace Go.Proofs.YtmgdkkhnjkepiaaGreat.BX
set_option linter.unusedSectionVars false
set_option linter.unusedSimpArgs false
set_option linter.unusedVariables false
open Go Go.RowKit
variable [Bd]
inductive Ex where
  | nrm | ex (id : Nat) | go (l : Nat) | ret
abbrev Kont := Ex → St → Prop
def Holds (w0 : Base) (K : St → Prop) (a : Act) (w : World) : Prop := ∃ (σ : St) (hv : Hv) (S : Nat → Prop) (F : Nat → List Nat), K σ ∧ Rel w0 σ hv S F a w
def Post (w0 : Base) (K : Kont) : Exit → Act → World → Prop
  | .normal, a, w => Holds w0 (K .nrm) a w
  | .exit id, a, w => Holds w0 (K (.ex id)) a w
  | .goto l, a, w => Holds w0 (K (.go l)) a w
  | .ret, a, w => Holds w0 (K .ret) a w
  | _, _, _ => False
def V (P : Program) (N : Nat) (c : Code) (K : Kont) (σ : St) : Prop :=
  ∀ (w0 : Base) (hv : Hv) (S : Nat → Prop) (F : Nat → List Nat) (a : Act) (w : World), w0.na ≤ N → Rel w0 σ hv S F a w → c.wp P (Post w0 K) a w
def seqK (P : Program) (N : Nat) (y : Code) (K : Kont) : Kont
  | .nrm, σ => V P N y K σ
  | e, σ => K e σ
def blockK (id : Nat) (K : Kont) : Kont
  | .ex i, σ => if i = id then K .nrm σ else K (.ex i) σ
  | e, σ => K e σ
def loopK (N : Nat) {ι : Type} (I : ι → Prop) (s : ι → St) (μ : ι → Nat) (i : ι) (K : Kont) : Kont
  | .nrm, σ => ∃ j, I j ∧ μ j < μ i ∧ Wk N σ (s j)
  | e, σ => K e σ
def cutK (N : Nat) {ι : Type} (I : ι → Prop) (s : ι → St) (K : Kont) : Kont
  | .nrm, σ => ∃ j, I j ∧ Wk N σ (s j)
  | e, σ => K e σ
section
variable {P : Program} {N : Nat} {K : Kont} {σ : St}
theorem Post.mono {w0 : Base} {K K' : Kont} (h : ∀ e σ, K e σ → K' e σ) : ∀ (e : Exit) (a : Act) (w : World), Post w0 K e a w → Post w0 K' e a w := by
  intro e a w hp
  cases e <;> simp only [Post] at hp ⊢ <;> obtain ⟨σ, hv, S, F, hk, hr⟩ := hp <;> exact ⟨σ, hv, S, F, h _ _ hk, hr⟩
theorem V.mono {c : Code} {K K' : Kont} (h : V P N c K σ) (hk : ∀ e σ, K e σ → K' e σ) : V P N c K' σ :=
  fun w0 hv S F a w hN hr => wp_mono (h w0 hv S F a w hN hr) (Post.mono hk)
theorem V.wk {c : Code} {σ' : St} (hw : Wk N σ σ') (h : V P N c K σ') : V P N c K σ := fun w0 hv S F a w hN hr =>
  let ⟨_, _, _, hr'⟩ := hw w0 hv S F a w hN hr
  h w0 _ _ _ a w hN hr'
theorem V.skip (h : K .nrm σ) : V P N .skip K σ := fun w0 hv S F a w hN hr => wp_skip ⟨σ, hv, S, F, h, hr⟩
theorem V.label {l : Nat} (h : K .nrm σ) : V P N (.label l) K σ := fun w0 hv S F a w hN hr => wp_label ⟨σ, hv, S, F, h, hr⟩
theorem V.exit {id : Nat} (h : K (.ex id) σ) : V P N (.exit id) K σ := fun w0 hv S F a w hN hr => wp_exit ⟨σ, hv, S, F, h, hr⟩
theorem V.goto {l : Nat} (h : K (.go l) σ) : V P N (.goto l) K σ := fun w0 hv S F a w hN hr => wp_goto ⟨σ, hv, S, F, h, hr⟩
theorem V.ret (h : K .ret σ) : V P N .ret K σ := fun w0 hv S F a w hN hr => wp_ret ⟨σ, hv, S, F, h, hr⟩
theorem V.seq {x y : Code} (h : V P N x (seqK P N y K) σ) : V P N (.seq x y) K σ := fun w0 hv S F a w hN hr =>
  wp_seq (wp_mono (h w0 hv S F a w hN hr) fun e a w hp => by
    cases e with
    | normal =>
      obtain ⟨σ, hv, S, F, hk, hr⟩ := hp
      exact hk w0 hv S F a w hN hr
    | exit id => exact hp
    | goto l => exact hp
    | ret => exact hp
    | panic c => exact hp.elim
    | outgrown => exact hp.elim)
theorem V.block {id : Nat} {c : Code} (h : V P N c (blockK id K) σ) : V P N (.block id c) K σ := fun w0 hv S F a w hN hr =>
  wp_block (wp_mono (h w0 hv S F a w hN hr) fun e a w hp => by
    cases e with
    | normal => exact hp
    | exit i =>
      simp only [Exit.inBlock]
      obtain ⟨σ, hv, S, F, hk, hr⟩ := hp
      simp only [blockK] at hk
      split at hk
      · rename_i e
        rw [if_pos e]
        exact ⟨σ, hv, S, F, hk, hr⟩
      · rename_i e
        rw [if_neg e]
        exact ⟨σ, hv, S, F, hk, hr⟩
    | goto l => exact hp
    | ret => exact hp
    | panic c => exact hp.elim
    | outgrown => exact hp.elim)
def vcCond (x : AV) (A B : Prop) : Prop :=
  match x with
  | .t (.b x) => if x = true then A else B
  | _ => False
theorem V.cond {c : Operand} {x y : Code} (h : vcCond (σ.opd c) (V P N x K σ) (V P N y K σ)) : V P N (.cond c x y) K σ := fun w0 hv S F a w hN hr => by
  unfold vcCond at h
  split at h
  · rename_i b hb
    obtain ⟨⟨L, h1, _⟩, _⟩ := hr.arg c
    rw [hb] at h1
    simp only [footA, footT] at h1
    refine wp_cond h1.1 ?_
    cases b
    · rw [if_neg (by simp)] at h; exact h w0 hv S F a w hN hr
    · rw [if_pos rfl] at h; exact h w0 hv S F a w hN hr
  · cases h
theorem V.region {id : Nat} {ops : Array Oper} (h : vcOps P ops ops.toList σ (K .nrm)) : V P N (.region id ops false) K σ := fun w0 hv S F a w hN hr => by
  refine wp_region ?_
  rw [List.range_eq_range', ← Array.length_toList, wpOps_eq_wpList ops.toList 0 (by simp)]
  exact vcOps_sound _ hr h fun σ' hv' S' F' a' w' hk hr' => ⟨σ', hv', S', F', hk, hr'⟩
theorem V.draw (hm : P.follows .mixedOrders = true) (k : Nat) {id : Nat} {ops : Array Oper} (h : vcDraw P ops k σ (K .nrm)) : V P N (.region id ops true) K σ := fun w0 hv S F a w hN hr =>
  vcDraw_sound hm hr h fun σ' hv' S' F' a' w' hk hr' => ⟨σ', hv', S', F', hk, hr'⟩
theorem V.drawY (hm : P.follows .mixedOrders = true) (n0 : Nat) (hs : List (List Nat × Nat)) {id : Nat} {ops : Array Oper} (hk : okDy ops n0 hs = true) (h : vcDyR P ops n0 hs σ (K .nrm)) : V P N (.region id ops true) K σ := fun w0 hv S F a w hN hr =>
  vcDy_run hm hr hk h fun σ' hv' S' F' a' w' hk hr' => ⟨σ', hv', S', F', hk, hr'⟩
theorem V.drawM (hm : P.follows .mixedOrders = true) (k : Nat) (es : List (Bool × Nat)) {id : Nat} {ops : Array Oper} (hk : okDrawM ops k es = true) (h : vcDm P ops σ.ob.length es (ops.toList.drop k) σ (K .nrm)) : V P N (.region id ops true) K σ := fun w0 hv S F a w hN hr =>
  vcDm_run hm hr hk h fun σ' hv' S' F' a' w' hk hr' => ⟨σ', hv', S', F', hk, hr'⟩
theorem V.loop {ι : Type} (I : ι → Prop) (s : ι → St) (μ : ι → Nat) {c : Code} (i0 : ι) (h0 : I i0) (hw : Wk N σ (s i0)) (hb : ∀ i, I i → V P N c (loopK N I s μ i K) (s i)) : V P N (.loop c) K σ := fun w0 hv S F a w hN hr => by
  obtain ⟨hv1, S1, F1, hr1⟩ := hw w0 hv S F a w hN hr
  intro b k cs
  have key : ∀ n i, μ i = n → I i → ∀ hv S F a w, Rel w0 (s i) hv S F a w → ∃ e a' w', Post w0 K e a' w' ∧ Arrives P (lone (b.at a (.code c :: .inLoop c :: k)) cs w) b k cs e a' w' := by
    intro n
    induction n using Nat.strongRecOn with
    | _ n ih =>
      intro i hn hI hv S F a w hr
      obtain ⟨e, a₁, w₁, hq, harr⟩ := hb i hI w0 hv S F a w hN hr b (.inLoop c :: k) cs
      cases e with
      | normal =>
        obtain ⟨σ2, hv2, S2, F2, ⟨j, hj1, hj2, hj3⟩, hr2⟩ := hq
        obtain ⟨hv3, S3, F3, hr3⟩ := hj3 w0 _ _ _ _ _ hN hr2
        obtain ⟨e₂, a₂, w₂, hq₂, harr₂⟩ := ih (μ j) (hn ▸ hj2) j rfl hj1 hv3 S3 F3 a₁ w₁ hr3
        exact ⟨e₂, a₂, w₂, hq₂, .of_steps (Steps.trans harr (.one step_inLoop)) harr₂⟩
      | exit id => exact ⟨.exit id, a₁, w₁, hq, .pass (x := .inLoop c) rfl (fun _ _ => .inl (by simp)) harr⟩
      | goto l => exact ⟨.goto l, a₁, w₁, hq, .pass (x := .inLoop c) rfl (fun _ _ => .inl (by simp)) harr⟩
      | ret => exact ⟨.ret, a₁, w₁, hq, .pass (x := .inLoop c) rfl (fun _ _ => .inl (by simp)) harr⟩
      | panic ch => exact hq.elim
      | outgrown => exact hq.elim
  obtain ⟨e, a', w', hq, harr⟩ := key _ i0 rfl h0 hv1 S1 F1 a w hr1
  exact ⟨e, a', w', hq, .of_steps (.one step_loop) harr⟩
def start (n : Nat) (xs : List AV) (obs : List Ob) : St := ⟨n, numA 0 xs, obs⟩
def tup : List AV → AV
  | [x] => x
  | xs => .tp xs
def vcOuts (P : Program) (σ : St) : List ResultVar → (List AV → Prop) → Prop
  | [], K => K []
  | .tmp t :: r, K => vcOuts P σ r fun xs => K (getL σ.tm t :: xs)
  | .cell a t :: r, K => vcLoad P t (getL σ.tm a) σ.ob fun x => vcOuts P σ r fun xs => K (x :: xs)
def Close (N : Nat) (y : AV) (ob : List Ob) (x : AV) (obs : List Ob) : Prop := ∃ ids, distinct ids = true ∧ pre N 0 ids = true ∧ x.under obs.length = true ∧ x.via (rnO ids) y ∧ obVia ids obs.length ob ids obs
def Rest (N : Nat) (ob obs : List Ob) : Prop := ∃ ids, distinct ids = true ∧ pre N 0 ids = true ∧ obVia ids obs.length ob ids obs
theorem Rest.nil {ob : List Ob} : Rest 0 ob [] := ⟨[], rfl, rfl, rfl⟩
theorem Rest.of {N : Nat} {ob obs : List Ob} (ids : List (Option Nat)) (h1 : distinct ids = true) (h2 : pre N 0 ids = true) (h3 : obVia ids obs.length ob ids obs) : Rest N ob obs := ⟨ids, h1, h2, h3⟩
theorem Close.of {N : Nat} {y x : AV} {ob obs : List Ob} (ids : List (Option Nat)) (h1 : distinct ids = true) (h2 : pre N 0 ids = true) (h3 : x.under obs.length = true) (h4 : x.via (rnO ids) y) (h5 : obVia ids obs.length ob ids obs) : Close N y ob x obs := ⟨ids, h1, h2, h3, h4, h5⟩
def vcClose (N : Nat) (y : AV) (ob : List Ob) (x : AV) (obs : List Ob) : Prop :=
  match x with
  | .t r => match y.take ob 5 with
    | some (r', ids) => nodupB ids = true ∧ r' = r ∧ Rest N (killAll ids ob) obs
    | none => False
  | x => Close N y ob x obs
def retK (P : Program) (N : Nat) (outs : List ResultVar) (x : AV) (obs : List Ob) : Kont
  | .ret, σ | .nrm, σ => vcOuts P σ outs fun xs => vcClose N (tup xs) σ.ob x obs
  | _, _ => False
theorem Rel.pad {w0 : Base} {xs : List AV} {obs : List Ob} {vs : List Value} {hv : Hv} {S : Nat → Prop} {F : Nat → List Nat} {w : World} {n : Nat} (hr : Rel w0 ⟨xs.length, numA 0 xs, obs⟩ hv S F ⟨vs.toArray, []⟩ w) (hn : xs.length ≤ n) :
    Rel w0 (start n xs obs) hv S F { tmps := vs.toArray ++ Array.replicate (n - vs.toArray.size) undef, defers := [] } w := by
  have hs : vs.length = xs.length := by simpa using hr.size
  refine { hr with size := by simp [start]; omega, tm := fun t => ?_, utm := fun t => hr.utm t, defs := rfl }
  have he : (vs.toArray ++ Array.replicate (n - vs.toArray.size) undef).getD t undef = vs.toArray.getD t undef := by
    simp only [Array.getD_eq_getD_getElem?]
    rw [Array.getElem?_append]
    split
    · rfl
    · rename_i h
      rw [Array.getElem?_eq_none (xs := vs.toArray) (by omega)]
      simp only [Array.getElem?_replicate]
      split <;> rfl
  simp only [start]
  rw [he]
  exact hr.tm t
def tupV : List Value → Value
  | [v] => v
  | vs => .tuple vs.toArray
def resOf (tmps : Array Value) : ResultVar → Sem Value
  | .tmp t => pure (tmps.getD t undef)
  | .cell a t => do loadVar t (← asAddr (tmps.getD a undef))
theorem results_eq (fn : Func) (tmps : Array Value) : results fn tmps = (do
    let vs ← fn.results.mapM (resOf tmps)
    pure (if h : vs.size = 1 then vs[0] else .tuple vs)) := rfl
theorem load_cell {ρ : Operand → Value} {t : TypeId} {v : Value} {w : World} (h : (execOp ρ ⟨none, .load t (.tmp 0), 0, "", #[], none⟩).run P w = .ok (.value v) w) : (do loadVar t (← asAddr (ρ (.tmp 0)))).run P w = .ok v w := by
  simp only [execOp, Instr.loadAt, Sem.run_bind] at h
  generalize ρ (.tmp 0) = u at h ⊢
  cases u with
  | pointer a =>
    cases a with
    | some a =>
      simp only [Instr.sureAddr, Sem.run_pure, Result.andThen_ok] at h
      simp only [asAddr, pure_bind]
      cases hr : (loadVar t a).run P w with
      | ok x w' => rw [hr] at h; simp only [Result.andThen_ok, Result.ok.injEq, Next.value.injEq] at h; rw [h.1, h.2]
      | halt x w' => rw [hr] at h; cases h
    | none => simp [Instr.sureAddr, stuck] at h
  | _ => simp [Instr.sureAddr, stuck] at h
theorem outs_sound {w0 : Base} {σ : St} {hv : Hv} {S : Nat → Prop} {F : Nat → List Nat} {a : Act} {w : World} (hr : Rel w0 σ hv S F a w) : ∀ (outs : List ResultVar) {K : List AV → Prop}, vcOuts P σ outs K →
    ∃ xs vs L, K xs ∧ (outs.mapM (m := Sem) (resOf a.tmps)).run P w = .ok vs w ∧ footAs hv w xs vs L ∧ (∀ b ∈ L, S b) ∧ unders σ.ob.length xs = true
  | [], K, h => ⟨[], [], [], h, rfl, by simp [footAs], by simp, rfl⟩
  | .tmp t :: r, K, h => by
    simp only [vcOuts] at h
    obtain ⟨xs, vs, L, h1, h2, h3, h4, h5⟩ := outs_sound hr r h
    obtain ⟨L1, q1, q2⟩ := hr.tm t
    refine ⟨_, a.tmps.getD t undef :: vs, L1 ++ L, h1, ?_, by simp only [footAs]; exact ⟨_, _, L1, L, rfl, rfl, q1, h3⟩, fun b hb => (List.mem_append.1 hb).elim (q2 b) (h4 b), by simp only [unders, hr.utm t, h5, Bool.and_self]⟩
    simp [List.mapM_cons, resOf, h2]
  | .cell c t :: r, K, h => by
    simp only [vcOuts] at h
    obtain ⟨x, hx, hy⟩ := load_sound (o := ⟨none, .load t (.tmp 0), 0, "", #[], none⟩) (e := fun _ => getL σ.tm c) rfl h
    obtain ⟨v, q1, ⟨L1, q2, q3⟩, q4⟩ := hy (ρ := fun _ => a.tmps.getD c undef) hr.obs (fun y _ => ⟨hr.tm c, hr.utm c⟩)
    obtain ⟨xs, vs, L, h1, h2, h3, h4, h5⟩ := outs_sound hr r hx
    refine ⟨_, v :: vs, L1 ++ L, h1, ?_, by simp only [footAs]; exact ⟨_, _, L1, L, rfl, rfl, q2, h3⟩, fun b hb => (List.mem_append.1 hb).elim (q3 b) (h4 b), by simp only [unders, q4, h5, Bool.and_self]⟩
    have := load_cell q1
    simp only [List.mapM_cons, resOf, Sem.run_bind] at this ⊢
    rw [this]
    simp [h2]
theorem tup_foot {hv : Hv} {w : World} {xs : List AV} {vs : List Value} {L : List Nat} (h : footAs hv w xs vs L) : footA hv w (tup xs) (tupV vs) L := by
  match xs, vs, h with
  | [], vs, h => simp only [footAs] at h; obtain ⟨rfl, rfl⟩ := h; simp [tup, tupV, footA, footAs]
  | [x], vs, h =>
    simp only [footAs] at h
    obtain ⟨v, vs', L1, L2, rfl, rfl, h1, rfl, rfl⟩ := h
    simpa [tup, tupV] using h1
  | x :: y :: xs, vs, h =>
    have h' := h
    simp only [footAs] at h
    obtain ⟨v, vs', L1, L2, rfl, rfl, h1, v2, vs2, L3, L4, rfl, rfl, h2, h3⟩ := h
    simp only [tup, tupV, footA]
    exact ⟨_, rfl, h'⟩
theorem tup_under {n : Nat} {xs : List AV} (h : unders n xs = true) : (tup xs).under n = true := by
  match xs, h with
  | [], _ => rfl
  | [x], h => simpa [unders, tup] using h
  | x :: y :: xs, h => exact h
theorem results_run {fn : Func} {outs : List ResultVar} (h : fn.results = outs.toArray) {tmps : Array Value} {w : World} {vs : List Value} (hv : (outs.mapM (m := Sem) (resOf tmps)).run P w = .ok vs w) :
    (results fn tmps).run P w = .ok (tupV vs) w := by
  rw [results_eq, h, List.mapM_toArray, Sem.run_bind, Sem.run_map, hv]
  simp only [Result.andThen_ok, Sem.run_pure]
  congr 1
  match vs with
  | [] => rfl
  | [v] => rfl
  | a :: b :: l => rfl
theorem Rel.one_tmp {w0 : Base} {σ : St} {hv : Hv} {S : Nat → Prop} {F : Nat → List Nat} {a : Act} {w : World} (hr : Rel w0 σ hv S F a w) {y : AV} {v : Value} {L : List Nat} (hf : footA hv w y v L) (hL : ∀ b ∈ L, S b) (hu : y.under σ.ob.length = true) :
    Rel w0 ⟨1, [(0, y)], σ.ob⟩ hv S F ⟨#[v], []⟩ w := by
  refine { hr with size := rfl, defs := rfl, tm := fun t => ?_, utm := fun t => ?_ }
  · simp only [getL]
    split
    · rename_i h; subst h; exact ⟨L, by simpa using hf, hL⟩
    · exact ⟨[], by simp [footA], by simp⟩
  · simp only [getL]
    split
    · exact hu
    · rfl
theorem Rel.no_tmp {w0 : Base} {σ : St} {hv : Hv} {S : Nat → Prop} {F : Nat → List Nat} {a : Act} {w : World} (hr : Rel w0 σ hv S F a w) : Rel w0 ⟨0, [], σ.ob⟩ hv S F ⟨#[], []⟩ w :=
  { hr with size := rfl, defs := rfl, tm := fun t => ⟨[], by simp [getL, footA], by simp⟩, utm := fun t => rfl }
theorem FnM.intro {f : FuncId} {fn : Func} {c : Code} {args : List AV} {ob0 : List Ob} {x : AV} {obs : List Ob} {outs : List ResultVar} (hf : P.funcs[f]? = some fn) (hb : fn.body = some c) (hres : fn.results = outs.toArray) (hn : args.length ≤ fn.ntmps)
    (h : V P ob0.length c (retK P ob0.length outs x obs) (start fn.ntmps args ob0)) : FnM P f args ob0 x obs := by
  intro w L0 M vs hv S F hr0
  refine calls_of_wp hf hb ?_
  refine wp_mono (h _ _ _ _ _ w (Nat.le_refl _) (hr0.pad hn)) ?_
  have fin : ∀ (a : Act) (w' : World), Holds ⟨w, L0, M, ob0.length, hv.v⟩ (fun σ => vcOuts P σ outs fun xs => vcClose ob0.length (tup xs) σ.ob x obs) a w' →
      a.defers = [] ∧ ∃ v, (results fn a.tmps).run P w' = .ok v w' ∧ ∃ (v_1 : Value) (hv' : Hv) (S' : Nat → Prop) (F' : Nat → List Nat) (L' : List Nat), Ending.returned v = .returned v_1 ∧ Rel ⟨w, L0, M, ob0.length, hv.v⟩ ⟨0, [], obs⟩ hv' S' F' ⟨#[], []⟩ w' ∧ footA hv' w' x v_1 L' ∧ (∀ b ∈ L', S' b) ∧ x.under obs.length = true := by
    rintro a w' ⟨σ, hv, S, F, hk, hr⟩
    obtain ⟨xs, vs, L, hk, hrun, hfs, f2, hus⟩ := outs_sound hr outs hk
    refine ⟨hr.defs, _, results_run hres hrun, tupV vs, ?_⟩
    have f1 := tup_foot hfs
    have hu := tup_under hus
    unfold vcClose at hk
    split at hk
    · rename_i r
      split at hk
      · rename_i r' ids ht
        obtain ⟨hnd, rfl, ids2, d1, d2, d3⟩ := hk
        obtain ⟨L', g1, g2⟩ := take_sound hr _ _ ht f1 f2
        obtain ⟨hv2, S2, s1, s2, s3, s4, hr2, s5⟩ := hr.killAll ids (nodupB_spec hnd)
        have gS : ∀ b ∈ L', S2 b := fun b hb => by
          rcases g2 b hb with hb | ⟨i, hi, o, ho, hd, hb⟩
          · exact s3 b hb
          · exact s4 i hi o ho hd b hb
        have hr3 := hr2.one_tmp (y := .t r') (by simpa only [footA] using g1) gS rfl
        have hk : Keep ob0.length ids2 ⟨1, [(0, .t r')], killAll ids σ.ob⟩ ⟨1, [(0, .t r')], obs⟩ := ⟨rfl, d1, d2, ⟨⟨rfl, by simp [getL, AV.via, AV.shut]⟩, trivial⟩, d3⟩
        obtain ⟨hv4, S4, F4, hr4⟩ := hk.wk _ _ _ _ _ _ (Nat.le_refl _) hr3
        obtain ⟨L4, q1, q2⟩ := hr4.tm 0
        exact ⟨hv4, S4, F4, L4, rfl, hr4.no_tmp, by simpa [getL] using q1, q2, rfl⟩
      · cases hk
    · obtain ⟨ids, h1, h1', h2, h3, h4⟩ := hk
      have hr1 := hr.one_tmp f1 f2 hu
      have hk : Keep ob0.length ids ⟨1, [(0, tup xs)], σ.ob⟩ ⟨1, [(0, x)], obs⟩ := ⟨rfl, h1, h1', ⟨⟨h2, by simpa [getL] using h3⟩, trivial⟩, h4⟩
      obtain ⟨hv2, S2, F2, hr2⟩ := hk.wk _ _ _ _ _ _ (Nat.le_refl _) hr1
      obtain ⟨L', q1, q2⟩ := hr2.tm 0
      exact ⟨hv2, S2, F2, L', rfl, hr2.no_tmp, by simpa [getL] using q1, q2, h2⟩
  intro e a w' hp
  cases e with
  | normal => exact fin a w' hp
  | ret => exact fin a w' hp
  | exit id => obtain ⟨_, _, _, _, hk, _⟩ := hp; exact hk.elim
  | goto l => obtain ⟨_, _, _, _, hk, _⟩ := hp; exact hk.elim
  | panic c => exact hp.elim
  | outgrown => exact hp.elim
end
def vcDr (P : Program) (all : Array Oper) : Nat → List Oper → St → (St → Prop) → Prop
  | 0, os, σ, K => vcOps P all os σ K
  | _ + 1, [], σ, K => K σ
  | k + 1, o :: os, σ, K => dstOk σ.n o.dst ∧ vcGuard all σ o (fun σ => vcLook P σ.ob σ.opd o.op fun x => vcDr P all k os (σ.set o.dst x) K) (fun σ => vcDr P all k os (σ.set o.dst .ud) K)
theorem vcDr_eq {P : Program} {all : Array Oper} : ∀ (k : Nat) (os : List Oper) (σ : St) (K : St → Prop), vcDr P all k os σ K = vcPre P all (os.take k) σ fun σ' => vcOps P all (os.drop k) σ' K
  | 0, os, σ, K => by simp [vcDr, vcPre]
  | k + 1, [], σ, K => by simp [vcDr, vcPre, vcOps]
  | k + 1, o :: os, σ, K => by
    simp only [vcDr, List.take_succ_cons, List.drop_succ_cons, vcPre]
    congr 1
    have h1 : (fun σ : St => vcLook P σ.ob σ.opd o.op fun x => vcDr P all k os (σ.set o.dst x) K) = (fun σ : St => vcLook P σ.ob σ.opd o.op fun x => vcPre P all (os.take k) (σ.set o.dst x) fun σ' => vcOps P all (os.drop k) σ' K) := by
      funext σ
      congr 1
      funext x
      exact vcDr_eq k os _ K
    have h2 : (fun σ : St => vcDr P all k os (σ.set o.dst .ud) K) = (fun σ : St => vcPre P all (os.take k) (σ.set o.dst .ud) fun σ' => vcOps P all (os.drop k) σ' K) := by
      funext σ
      exact vcDr_eq k os _ K
    rw [h1, h2]
abbrev DD : Type := Nat → Nat × List (Bool × Nat)
def vcDz (P : Program) (all : Array Oper) (B : Nat) (es : List (Bool × Nat)) : Nat → List Oper → St → (St → Prop) → Prop
  | 0, os, σ, K => vcDm P all B es os σ K
  | _ + 1, [], σ, K => vcDm P all B es [] σ K
  | k + 1, _ :: os, σ, K => vcDz P all B es k os σ K
theorem vcDz_eq {P : Program} {all : Array Oper} {B : Nat} {es : List (Bool × Nat)} : ∀ (k : Nat) (os : List Oper) (σ : St) (K : St → Prop), vcDz P all B es k os σ K = vcDm P all B es (os.drop k) σ K
  | 0, _, _, _ => rfl
  | _ + 1, [], _, _ => rfl
  | k + 1, _ :: os, σ, K => vcDz_eq k os σ K
def stopD (kd : Nat × List (Bool × Nat)) : Bool := kd.1 == 999999
def stopW (b : Bool) (A B : Prop) : Prop := match b with
  | true => A
  | false => B
def vcDq (P : Program) (all : Array Oper) (kd : Nat × List (Bool × Nat)) (os : List Oper) (σ : St) (K : St → Prop) : Prop :=
  match kd.2 with
  | [] => vcDr P all kd.1 os σ K
  | e :: es => stopW (decide (2000000 ≤ kd.1)) (vcDyR P all (kd.1 - 2000000) (prs (e :: es) []) σ K) (vcDz P all σ.ob.length (e :: es) kd.1 os σ K)
def okDq (ops : Array Oper) (kd : Nat × List (Bool × Nat)) : Bool :=
  match kd.2 with
  | [] => okDraw ops kd.1
  | e :: es => if 2000000 ≤ kd.1 then okDy ops (kd.1 - 2000000) (prs (e :: es) []) else okDrawM ops kd.1 (e :: es)
def WL (P : Program) (N : Nat) (c : Code) (K : Kont) (σ : St) : Prop := V P N c K σ
def hdC : Code → Nat
  | .region id _ _ => id
  | .seq x _ => hdC x
  | .block _ c => hdC c
  | .loop c => hdC c
  | _ => 888888
def W (P : Program) (N : Nat) (D : DD) : Code → Kont → St → Prop
  | .skip, K, σ => K .nrm σ
  | .label _, K, σ => K .nrm σ
  | .region id ops draw, K, σ => stopW (stopD (D id)) (WL P N (.region id ops draw) K σ) (if draw = true then vcDq P ops (D id) ops.toList σ (K .nrm) else vcOps P ops ops.toList σ (K .nrm))
  | .seq x y, K, σ => stopW (stopD (D (1000000 + hdC y))) (WL P N (.seq x y) K σ) (W P N D x (fun e σ => match e with
    | .nrm => W P N D y K σ
    | e => K e σ) σ)
  | .cond c x y, K, σ => vcCond (σ.opd c) (W P N D x K σ) (W P N D y K σ)
  | .block id c, K, σ => W P N D c (blockK id K) σ
  | .exit id, K, σ => K (.ex id) σ
  | .goto l, K, σ => K (.go l) σ
  | .ret, K, σ => K .ret σ
  | c, K, σ => WL P N c K σ
def seqW (P : Program) (N : Nat) (D : DD) (y : Code) (K : Kont) : Kont := fun e σ => match e with
  | .nrm => W P N D y K σ
  | e => K e σ
def okCode (D : DD) : Code → Bool
  | .region id ops draw => stopD (D id) || !draw || okDq ops (D id)
  | .seq x y => okCode D x && okCode D y
  | .cond _ x y => okCode D x && okCode D y
  | .block _ c => okCode D c
  | .loop c => okCode D c
  | _ => true
section
variable {P : Program} {N : Nat} {K : Kont} {σ : St} {D : DD}
theorem W_sound (hm : P.follows .mixedOrders = true) : ∀ (c : Code) (K : Kont) (σ : St), okCode D c = true → W P N D c K σ → V P N c K σ
  | .skip, K, σ, _, h => V.skip h
  | .label _, K, σ, _, h => V.label h
  | .region id ops draw, K, σ, ho, h => by
    simp only [W] at h
    cases hst : stopD (D id) with
    | true => rw [hst] at h; exact h
    | false =>
    rw [hst] at h
    simp only [stopW] at h
    cases draw with
    | true =>
      rw [if_pos rfl] at h
      simp only [okCode, hst, Bool.not_true, Bool.false_or] at ho
      unfold vcDq at h
      unfold okDq at ho
      split at h
      · rename_i he
        rw [he] at ho
        rw [vcDr_eq] at h
        exact V.draw hm (D id).1 ⟨ho, h⟩
      · rename_i e es he
        rw [he] at ho
        by_cases hy : 2000000 ≤ (D id).1
        · rw [decide_eq_true hy] at h
          simp only [if_pos hy] at ho
          exact V.drawY hm _ _ ho h
        rw [decide_eq_false hy] at h
        simp only [if_neg hy] at ho
        simp only [stopW] at h
        rw [vcDz_eq] at h
        exact V.drawM hm (D id).1 _ ho h
    | false => rw [if_neg (by simp)] at h; exact V.region h
  | .seq x y, K, σ, ho, h => by
    simp only [okCode, Bool.and_eq_true] at ho
    simp only [W] at h
    cases hst : stopD (D (1000000 + hdC y)) with
    | true => rw [hst] at h; exact h
    | false =>
    rw [hst] at h
    simp only [stopW] at h
    refine V.seq ((W_sound hm x _ σ ho.1 h).mono fun e σ hk => ?_)
    cases e with
    | nrm => exact W_sound hm y K σ ho.2 hk
    | ex id => exact hk
    | go l => exact hk
    | ret => exact hk
  | .cond c x y, K, σ, ho, h => by
    simp only [okCode, Bool.and_eq_true] at ho
    simp only [W] at h
    refine V.cond ?_
    unfold vcCond at h ⊢
    split at h
    · split at h
      · rename_i hx; rw [if_pos hx]; exact W_sound hm x K σ ho.1 h
      · rename_i hx; rw [if_neg hx]; exact W_sound hm y K σ ho.2 h
    · cases h
  | .block id c, K, σ, ho, h => by
    simp only [okCode] at ho
    simp only [W] at h
    exact V.block (W_sound hm c _ σ ho h)
  | .exit id, K, σ, _, h => V.exit h
  | .goto l, K, σ, _, h => V.goto h
  | .ret, K, σ, _, h => V.ret h
  | .loop c, K, σ, _, h => h
  | .rangeFunc .., K, σ, _, h => h
  | .scope _, K, σ, _, h => h
  | .refuse _, K, σ, _, h => h
theorem WL.loop {ι : Type} (I : ι → Prop) (s : ι → St) (μ : ι → Nat) {c : Code} (hm : P.follows .mixedOrders = true) (ho : okCode D c = true) (i0 : ι) (h0 : I i0) (hw : Wk N σ (s i0)) (hb : ∀ i, I i → W P N D c (loopK N I s μ i K) (s i)) : WL P N (.loop c) K σ :=
  V.loop I s μ i0 h0 hw fun i hi => W_sound hm c _ _ ho (hb i hi)
theorem W.cut {ι : Type} (I : ι → Prop) (s : ι → St) {c : Code} (hm : P.follows .mixedOrders = true) (ho : okCode D c = true) (i0 : ι) (h0 : I i0) (hw : Wk N σ (s i0)) (hb : ∀ i, I i → W P N D c K (s i)) : WL P N c K σ :=
  (W_sound hm c K _ ho (hb i0 h0)).wk hw
theorem ConM.intro {f : FuncId} {fn : Func} {c : Code} {args : List AV} {ob0 : List Ob} {x : AV} {obs : List Ob} (outs : List ResultVar) (D : DD) (hm : P.follows .mixedOrders = true) (hf : P.funcs[f]? = some fn) (hb : fn.body = some c) (hname : (fn.name == "runtime.NumGoroutine") = false)
    (hres : fn.results = outs.toArray) (hn : decide (args.length ≤ fn.ntmps) = true) (ho : okCode D c = true)
    (h : W P ob0.length D c (retK P ob0.length outs x obs) (start fn.ntmps args ob0)) : ConM P f args ob0 x obs :=
  ⟨⟨fn, hf, by rw [hb]; rfl, hname⟩, FnM.intro hf hb hres (by simpa using hn) (W_sound hm c _ _ ho h)⟩
theorem Con.intro {f : FuncId} {fn : Func} {c : Code} {args : List T} {x : AV} {obs : List Ob} (outs : List ResultVar) (D : DD) (hm : P.follows .mixedOrders = true) (hf : P.funcs[f]? = some fn) (hb : fn.body = some c) (hname : (fn.name == "runtime.NumGoroutine") = false)
    (hres : fn.results = outs.toArray) (hn : decide (args.length ≤ fn.ntmps) = true) (ho : okCode D c = true)
    (h : W P 0 D c (retK P 0 outs x obs) (start fn.ntmps (args.map .t) [])) : Con P f args x obs :=
  ConM.intro outs D hm hf hb hname hres (by simpa using hn) ho h
end
end Go.Proofs.YtmgdkkhnjkepiaaGreat.BX
namespace Go.Proofs.YtmgdkkhnjkepiaaGreat.BX
set_option linter.unusedSectionVars false
set_option linter.unusedSimpArgs false
set_option linter.unusedVariables false
open Go Go.RowKit
variable [Bd]
section
variable {x : Bool} {k : IntKind} {n : Int} {l : List UInt8} {cs cs2 : List T} {y : T} {n' : Nat} {t : TypeId} {f : FuncId}
theorem c_ag : T.cells (.ag cs) = cs := rfl
theorem i_ag : T.isAg (.ag cs) = true := rfl
theorem c_b : T.cells (.b x) = [.b x] := rfl
theorem i_b : T.isAg (.b x) = false := rfl
theorem n_b : T.one (.b x) = true := rfl
theorem c_i : T.cells (.i k n) = [.i k n] := rfl
theorem i_i : T.isAg (.i k n) = false := rfl
theorem n_i : T.one (.i k n) = true := rfl
theorem c_s : T.cells (.s l) = [.s l] := rfl
theorem i_s : T.isAg (.s l) = false := rfl
theorem n_s : T.one (.s l) = true := rfl
theorem c_sl : T.cells (.sl cs) = [.sl cs] := rfl
theorem n_sl : T.one (.sl cs) = true := rfl
theorem c_po : T.cells (.po y n') = [.po y n'] := rfl
theorem c_nm : T.cells (.nm) = [.nm] := rfl
theorem i_nm : T.isAg (.nm) = false := rfl
theorem c_mp : T.cells (.mp cs cs2) = [.mp cs cs2] := rfl
end
section
variable {cs : List AV} {z : T} {id i m off : Nat} {f : FuncId}
theorem ca_ag : AV.cells (.ag cs) = cs := rfl
theorem ca_t : AV.cells (.t z) = z.cells.map .t := rfl
theorem ia_ag : AV.isAg (.ag cs) = true := rfl
theorem ia_t : AV.isAg (.t z) = z.isAg := by cases z <;> rfl
theorem na_t : AV.one (.t z) = z.one := rfl
theorem ca_sr : AV.cells (.sr id) = [.sr id] := rfl
theorem ia_sr : AV.isAg (.sr id) = false := rfl
theorem na_sr : AV.one (.sr id) = true := rfl
theorem ca_mr : AV.cells (.mr id) = [.mr id] := rfl
theorem ia_mr : AV.isAg (.mr id) = false := rfl
theorem na_mr : AV.one (.mr id) = true := rfl
end
def dstAt : List Oper → Nat → Option Nat
  | [], _ => none
  | o :: _, 0 => o.dst
  | _ :: os, j + 1 => dstAt os j
theorem dstAt_eq : ∀ (l : List Oper) (j : Nat), ((l.toArray)[j]?).bind (·.dst) = dstAt l j
  | [], j => by simp [dstAt]
  | o :: os, 0 => by simp [dstAt]
  | o :: os, j + 1 => by
    have := dstAt_eq os j
    simp only [List.getElem?_toArray, List.getElem?_cons_succ, dstAt] at this ⊢
    exact this
@[congr] theorem dstAt_congr {l : List Oper} {j j' : Nat} (h : tick j = j') : dstAt l j = dstAt l j' := by unfold tick at h; rw [h]
theorem d_zero {o : Oper} {os : List Oper} : dstAt (o :: os) 0 = o.dst := rfl
theorem d_succ {o : Oper} {os : List Oper} {j : Nat} : dstAt (o :: os) (j + 1) = dstAt os j := rfl
section
variable {P : Program}
-- what is still to come is left alone till its turn comes
@[congr] theorem allAt_congr {α : Type} {l l' : List α} {n n' : Nat} {K : α → Prop} (h : tick l = l') (h2 : n = n') : allAt l n K = allAt l' n' K := by unfold tick at h; rw [h, h2]
theorem at_map {α β : Type} {f : α → β} {l : List α} {n : Nat} {K : β → Prop} : allAt (l.map f) n K = ∀ a, l[n]? = some a → K (f a) := by
  simp only [allAt, List.getElem?_map, Option.map_eq_some_iff]
  exact propext ⟨fun h a ha => h _ ⟨a, ha, rfl⟩, fun h y ⟨a, ha, e⟩ => e ▸ h a ha⟩
theorem at_setE {α : Type} {l : List α} {i : Nat} {x : α} {K : α → Prop} : allAt (l.set i x) i K = (i < l.length → K x) := by
  refine propext ⟨fun h hi => h x (by rw [List.getElem?_set_self hi]), fun h y hy => ?_⟩
  have hi := (List.getElem?_eq_some_iff.1 hy).1
  rw [List.length_set] at hi
  rw [List.getElem?_set_self hi] at hy
  cases hy
  exact h hi
@[congr] theorem WL_congr {N : Nat} {c : Code} {k : Kont} {σ σ' : St} (h : tick σ = σ') : WL P N c k σ = WL P N c k σ' := by unfold tick at h; rw [h]
@[congr] theorem W_congr {N : Nat} {D : DD} {c : Code} {k : Kont} {σ σ' : St} (h : tick σ = σ') : W P N D c k σ = W P N D c k σ' := by unfold tick at h; rw [h]
@[congr] theorem vcCond_congr {x x' : AV} {A B : Prop} (h : tick x = x') : vcCond x A B = vcCond x' A B := by unfold tick at h; rw [h]
@[congr] theorem vcOps_congr {all : Array Oper} {os : List Oper} {σ σ' : St} {K : St → Prop} (h : tick σ = σ') : vcOps P all os σ K = vcOps P all os σ' K := by unfold tick at h; rw [h]
@[congr] theorem vcDr_congr {all : Array Oper} {m m' : Nat} {os : List Oper} {σ σ' : St} {K : St → Prop} (h : tick σ = σ') (h2 : m = m') : vcDr P all m os σ K = vcDr P all m' os σ' K := by unfold tick at h; rw [h, h2]
@[congr] theorem vcOp_congr {op : Op} {σ σ' : St} {K : AV → List Ob → Prop} (h : tick σ = σ') : vcOp P σ op K = vcOp P σ' op K := by unfold tick at h; rw [h]
@[congr] theorem vcLook_congr {op : Op} {ob ob' : List Ob} {e : Operand → AV} {K : AV → Prop} (h : tick ob = ob') : vcLook P ob e op K = vcLook P ob' e op K := by unfold tick at h; rw [h]
@[congr] theorem vcLen_congr {t : TypeId} {x x' : AV} {ob ob' : List Ob} {K : AV → Prop} (h0 : tick x = x') (h1 : ob = ob') : vcLen P t ob x K = vcLen P t ob' x' K := by unfold tick at h0; rw [h0, h1]
@[congr] theorem vcLoad_congr {t : TypeId} {x x' : AV} {ob ob' : List Ob} {K : AV → Prop} (h0 : tick x = x') (h1 : ob = ob') : vcLoad P t x ob K = vcLoad P t x' ob' K := by unfold tick at h0; rw [h0, h1]
@[congr] theorem pickA_congr {t : TypeId} {x x' : AV} {o o' : Nat} {K : AV → Prop} (h0 : tick x = x') (h1 : o = o') : pickA P t x o K = pickA P t x' o' K := by unfold tick at h0; rw [h0, h1]
@[congr] theorem pickT_congr {t : TypeId} {x x' : T} {o o' : Nat} {K : T → Prop} (h0 : tick x = x') (h1 : o = o') : pickT P t x o K = pickT P t x' o' K := by unfold tick at h0; rw [h0, h1]
@[congr] theorem vcBin_congr {b : BinOp} {t : TypeId} {x x' : AV} {y y' : AV} {K : AV → Prop} (h0 : tick x = x') (h1 : y = y') : vcBin P b t x y K = vcBin P b t x' y' K := by unfold tick at h0; rw [h0, h1]
@[congr] theorem vcInt_congr {b : BinOp} {k : IntKind} {x x' : Int} {y y' : Int} {K : AV → Prop} (h0 : tick x = x') (h1 : y = y') : vcInt b k x y K = vcInt b k x' y' K := by unfold tick at h0; rw [h0, h1]
@[congr] theorem vcStr_congr {b : BinOp} {x x' : List UInt8} {y y' : List UInt8} {K : AV → Prop} (h0 : tick x = x') (h1 : y = y') : vcStr b x y K = vcStr b x' y' K := by unfold tick at h0; rw [h0, h1]
@[congr] theorem vcUn_congr {b : UnOp} {x x' : AV} {K : AV → Prop} (h0 : tick x = x') : vcUn b x K = vcUn b x' K := by unfold tick at h0; rw [h0]
@[congr] theorem vcField_congr {s : TypeId} {f : Nat} {x x' : AV} {K : AV → Prop} (h0 : tick x = x') : vcField P s f x K = vcField P s f x' K := by unfold tick at h0; rw [h0]
@[congr] theorem vcIndexAddr_congr {t : TypeId} {x x' : AV} {y y' : AV} {ob ob' : List Ob} {K : AV → Prop} (h0 : tick x = x') (h1 : y = y') (h2 : ob = ob') : vcIndexAddr P t ob x y K = vcIndexAddr P t ob' x' y' K := by unfold tick at h0; rw [h0, h1, h2]
@[congr] theorem vcIndex_congr {t : TypeId} {x x' : AV} {y y' : AV} {K : AV → Prop} (h0 : tick x = x') (h1 : y = y') : vcIndex P t x y K = vcIndex P t x' y' K := by unfold tick at h0; rw [h0, h1]
@[congr] theorem vcExtract_congr {i : Nat} {x x' : AV} {K : AV → Prop} (h0 : tick x = x') : vcExtract x i K = vcExtract x' i K := by unfold tick at h0; rw [h0]
@[congr] theorem vcSlice_congr {t : TypeId} {x x' : AV} {a a' : Option AV} {b b' : Option AV} {K : AV → Prop} (h0 : tick x = x') (h1 : a = a') (h2 : b = b') : vcSlice P t x a b K = vcSlice P t x' a' b' K := by unfold tick at h0; rw [h0, h1, h2]
@[congr] theorem bnd_congr  {d d' : Int} {x x' : Option AV} {K : Int → Prop} (h0 : tick d = d') (h1 : x = x') : bnd d x K = bnd d' x' K := by unfold tick at h0; rw [h0, h1]
@[congr] theorem vcStore_congr {t : TypeId} {p p' : AV} {x x' : AV} {ob ob' : List Ob} {K : AV → List Ob → Prop} (h0 : tick p = p') (h1 : x = x') (h2 : ob = ob') : vcStore P t p x ob K = vcStore P t p' x' ob' K := by unfold tick at h0; rw [h0, h1, h2]
@[congr] theorem vcBuild_congr {t : TypeId} {x x' : List (Nat × AV)} {K : AV → Prop} (h0 : tick x = x') : vcBuild P t x K = vcBuild P t x' K := by unfold tick at h0; rw [h0]
@[congr] theorem vcBuildSlice_congr {t : TypeId} {n : Nat} {ks ks' : List Nat} {xs xs' : List AV} {ob ob' : List Ob} {K : AV → List Ob → Prop} (h0 : tick ks = ks') (h1 : xs = xs') (h2 : ob = ob') : vcBuildSlice P t n ks xs ob K = vcBuildSlice P t n ks' xs' ob' K := by unfold tick at h0; rw [h0, h1, h2]
@[congr] theorem vcAppend_congr {t : TypeId} {s s' : AV} {x x' : AV} {ob ob' : List Ob} {K : AV → List Ob → Prop} (h0 : tick s = s') (h1 : x = x') (h2 : ob = ob') : vcAppend P t s x ob K = vcAppend P t s' x' ob' K := by unfold tick at h0; rw [h0, h1, h2]
@[congr] theorem srcOf_congr {m i : Nat} {x x' : AV} {k k' : Kind} {ob ob' : List Ob} {K : List T → List Nat → Kind → Prop} (h0 : tick x = x') (h1 : k = k') (h2 : ob = ob') : srcOf m ob i k x K = srcOf m ob' i k' x' K := by unfold tick at h0; rw [h0, h1, h2]
@[congr] theorem vcMake_congr {t : TypeId} {s s' : AV} {x x' : AV} {ob ob' : List Ob} {K : AV → List Ob → Prop} (h0 : tick s = s') (h1 : x = x') (h2 : ob = ob') : vcMake P t s x ob K = vcMake P t s' x' ob' K := by unfold tick at h0; rw [h0, h1, h2]
@[congr] theorem vcCallO_congr  {f f' : AV} {xs xs' : List AV} {tm tm' : List (Nat × AV)} {ob ob' : List Ob} {K : AV → List Ob → Prop} (h0 : tick f = f') (h1 : xs = xs') (h2 : tm = tm') (h3 : ob = ob') : vcCallO P f xs tm ob K = vcCallO P f' xs' tm' ob' K := by unfold tick at h0; rw [h0, h1, h2, h3]
@[congr] theorem vcCall_congr  {f f' : AV} {xs xs' : List AV} {ob ob' : List Ob} {K : AV → Prop} (h0 : tick f = f') (h1 : xs = xs') (h2 : ob = ob') : vcCall P f xs ob K = vcCall P f' xs' ob' K := by unfold tick at h0; rw [h0, h1, h2]
@[congr] theorem vcLookup_congr {t : TypeId} {ok : Bool} {x x' : AV} {k k' : AV} {ob ob' : List Ob} {K : AV → Prop} (h0 : tick x = x') (h1 : k = k') (h2 : ob = ob') : vcLookup P t x k ok ob K = vcLookup P t x' k' ok ob' K := by unfold tick at h0; rw [h0, h1, h2]
end
section
variable {P : Program} {ob : List Ob} {t s : TypeId} {KA : AV → Prop} {KL : AV → List Ob → Prop} {x : AV}
def onSome {α : Type} (o : Option α) (K : α → Prop) : Prop := match o with | some a => K a | none => False
def onOpt {α : Type} (o : Option α) (K : α → Prop) (B : Prop) : Prop := match o with | some a => K a | none => B
def onBox (o : Option Ob) (K : AV → Prop) : Prop := match o with | some (.box y) => K y | _ => False
def onArr (o : Option Ob) (K : TypeId → Nat → Kind → List T → Prop) : Prop := match o with | some (.arr e m own es) => K e m own es | _ => False
def onSli (l : Lay) (K : TypeId → Nat → Prop) : Prop := match l with | .sli e m => K e m | _ => False
def onMapL (l : Lay) (K : TypeId → TypeId → Prop) : Prop := match l with | .map k e => K k e | _ => False
def onStr (l : Lay) (K : Prop) : Prop := match l with | .str => K | _ => False
def onSt (l : Lay) (K : List (Nat × Nat) → Nat → Prop) : Prop := match l with | .st fs m => K fs m | _ => False
def onLay (l : Lay) (A : Nat → Prop) (B : Prop) : Prop := match l with | .st _ m => A m | l => l.sc = true ∧ B
def onPair {α β : Type} (o : Option (α × β)) (K : α → β → Prop) : Prop := match o with | some (a, b) => K a b | none => False
def onTri {α β γ : Type} (o : Option (α × β × γ)) (K : α → β → γ → Prop) : Prop := match o with | some (a, b, c) => K a b c | none => False
@[congr] theorem onSome_congr {α : Type} {o o' : Option α} {K : α → Prop} (h : tick o = o') : onSome o K = onSome o' K := by unfold tick at h; rw [h]
@[congr] theorem onOpt_congr {α : Type} {o o' : Option α} {K : α → Prop} {B : Prop} (h : tick o = o') : onOpt o K B = onOpt o' K B := by unfold tick at h; rw [h]
@[congr] theorem onBox_congr {o o' : Option Ob} {K : AV → Prop} (h : tick o = o') : onBox o K = onBox o' K := by unfold tick at h; rw [h]
@[congr] theorem onArr_congr {o o' : Option Ob} {K : TypeId → Nat → Kind → List T → Prop} (h : tick o = o') : onArr o K = onArr o' K := by unfold tick at h; rw [h]
@[congr] theorem onSli_congr {o o' : Lay} {K : TypeId → Nat → Prop} (h : tick o = o') : onSli o K = onSli o' K := by unfold tick at h; rw [h]
@[congr] theorem onMapL_congr {o o' : Lay} {K : TypeId → TypeId → Prop} (h : tick o = o') : onMapL o K = onMapL o' K := by unfold tick at h; rw [h]
@[congr] theorem onStr_congr {o o' : Lay} {K : Prop} (h : tick o = o') : onStr o K = onStr o' K := by unfold tick at h; rw [h]
@[congr] theorem onSt_congr {o o' : Lay} {K : List (Nat × Nat) → Nat → Prop} (h : tick o = o') : onSt o K = onSt o' K := by unfold tick at h; rw [h]
@[congr] theorem onLay_congr {o o' : Lay} {K : Nat → Prop} {B : Prop} (h : tick o = o') : onLay o K B = onLay o' K B := by unfold tick at h; rw [h]
@[congr] theorem onPair_congr {α β : Type} {o o' : Option (α × β)} {K : α → β → Prop} (h : tick o = o') : onPair o K = onPair o' K := by unfold tick at h; rw [h]
@[congr] theorem onTri_congr {α β γ : Type} {o o' : Option (α × β × γ)} {K : α → β → γ → Prop} (h : tick o = o') : onTri o K = onTri o' K := by unfold tick at h; rw [h]
theorem s_some {α : Type} {a : α} {K : α → Prop} : onSome (some a) K = K a := rfl
theorem s_box {y : AV} {K : AV → Prop} : onBox (some (.box y)) K = K y := rfl
theorem s_arr {e : TypeId} {m : Nat} {own : Kind} {es : List T} {K : TypeId → Nat → Kind → List T → Prop} : onArr (some (.arr e m own es)) K = K e m own es := rfl
theorem s_sli {e : TypeId} {m : Nat} {K : TypeId → Nat → Prop} : onSli (.sli e m) K = K e m := rfl
theorem s_mapl {k e : TypeId} {K : TypeId → TypeId → Prop} : onMapL (.map k e) K = K k e := rfl
theorem s_str {K : Prop} : onStr .str K = K := rfl
theorem s_st {fs : List (Nat × Nat)} {m : Nat} {K : List (Nat × Nat) → Nat → Prop} : onSt (.st fs m) K = K fs m := rfl
theorem s_pair {α β : Type} {a : α} {b : β} {K : α → β → Prop} : onPair (some (a, b)) K = K a b := rfl
theorem s_tri {α β γ : Type} {a : α} {b : β} {c : γ} {K : α → β → γ → Prop} : onTri (some (a, b, c)) K = K a b c := rfl
theorem s_lst {fs : List (Nat × Nat)} {m : Nat} {A : Nat → Prop} {B : Prop} : onLay (.st fs m) A B = A m := rfl
theorem s_lint {i : IntKind} {A : Nat → Prop} {B : Prop} : onLay (.int i) A B = B := by simp [onLay, Lay.sc]
theorem s_lbool {A : Nat → Prop} {B : Prop} : onLay .bool A B = B := by simp [onLay, Lay.sc]
theorem s_lstr {A : Nat → Prop} {B : Prop} : onLay .str A B = B := by simp [onLay, Lay.sc]
theorem s_lptr {A : Nat → Prop} {B : Prop} : onLay .ptr A B = B := by simp [onLay, Lay.sc]
theorem s_lsli {e : TypeId} {m : Nat} {A : Nat → Prop} {B : Prop} : onLay (.sli e m) A B = B := by simp [onLay, Lay.sc]
theorem s_lmap {e m : TypeId} {A : Nat → Prop} {B : Prop} : onLay (.map e m) A B = B := by simp [onLay, Lay.sc]
theorem v_loadrf {id off : Nat} : vcLoad P t (.rf id off) ob KA = onBox ob[id]? fun y => y ≠ .un ∧ pickA P t y off KA := by
  unfold vcLoad onBox; rfl
theorem v_loadt {y : T} {off : Nat} : vcLoad P t (.t (.po y off)) ob KA = pickT P t y off fun r => KA (.t r) := rfl
def ldOb (P : Program) (t : TypeId) (m i off : Nat) (K : AV → Prop) : Ob → Prop
  | .arr _ m' k es => m = m' ∧ i < es.length ∧ allAt es i fun y => pickT P t y off fun r => K (k.look r)
  | .hole _ m' _ _ i' j id' => (m = m' ∧ i = i' ∧ off = j ∧ (lay P t).sc = true) ∧ K (.sr id')
  | _ => False
theorem v_loadra {id i m off : Nat} : vcLoad P t (.ra id i m off) ob KA = onSome ob[id]? (ldOb P t m i off KA) := by
  unfold vcLoad onSome
  dsimp only
  cases ob[id]? with
  | none => rfl
  | some o => cases o <;> rfl
theorem v_lda {e : TypeId} {m m' i off : Nat} {k : Kind} {es : List T} : ldOb P t m i off KA (.arr e m' k es) = (m = m' ∧ i < es.length ∧ allAt es i fun y => pickT P t y off fun r => KA (k.look r)) := rfl
theorem v_lkc {y : T} : Kind.look .clo y = .t y := rfl
theorem v_lko {y : T} {sh : Sh} : Kind.look (.own sh) y = .bwc y := rfl
def vcLd (P : Program) (t : TypeId) (x : AV) (tm : List (Nat × AV)) (ob : List Ob) (K : AV → List Ob → Prop) : Prop := (vcLoad P t x ob fun r => K r ob) ∨ vcOpen P t x tm ob K
@[congr] theorem vcLd_congr {x x' : AV} {tm tm' : List (Nat × AV)} {ob' : List Ob} (h : tick x = x') (h2 : tm = tm') (h3 : ob = ob') : vcLd P t x tm ob KL = vcLd P t x' tm' ob' KL := by unfold tick at h; rw [h, h2, h3]
section
variable {tm : List (Nat × AV)}
theorem v_ldrf {id off : Nat} : vcLd P t (.rf id off) tm ob KL = vcLoad P t (.rf id off) ob fun r => KL r ob := or_false _
theorem v_ldt {y : T} : vcLd P t (.t y) tm ob KL = vcLoad P t (.t y) ob fun r => KL r ob := or_false _
def ldo (P : Program) (t : TypeId) (id i m off : Nat) (tm : List (Nat × AV)) (ob : List Ob) (K : AV → List Ob → Prop) : Ob → Prop
  | .arr e m' (.own s) es => ldOb P t m i off (fun r => K r ob) (.arr e m' (.own s) es) ∨ opn P t id i m off tm ob K e m' s es
  | o => ldOb P t m i off (fun r => K r ob) o
@[congr] theorem ldo_congr {id i i' m off off' : Nat} {tm tm' : List (Nat × AV)} {ob' : List Ob} {o o' : Ob} (h : tick o = o') (h1 : i = i') (h2 : off = off') (h3 : tm = tm') (h4 : ob = ob') : ldo P t id i m off tm ob KL o = ldo P t id i' m off' tm' ob' KL o' := by unfold tick at h; rw [h, h1, h2, h3, h4]
@[congr] theorem ldOb_congr {i i' m off off' : Nat} {o o' : Ob} (h : tick o = o') (h1 : i = i') (h2 : off = off') : ldOb P t m i off KA o = ldOb P t m i' off' KA o' := by unfold tick at h; rw [h, h1, h2]
theorem v_ldra {id i m off : Nat} : vcLd P t (.ra id i m off) tm ob KL = onSome ob[id]? (ldo P t id i m off tm ob KL) := by
  unfold vcLd vcOpen
  rw [v_loadra]
  dsimp only
  unfold onSome
  generalize ob[id]? = o
  cases o with
  | none => exact or_false _
  | some o =>
    cases o with
    | arr e m' k es => cases k <;> first | rfl | exact or_false _
    | _ => exact or_false _
theorem plain_cells {s : Sh} (h : s.plain = true) {j : Nat} {e : TypeId} {m : Nat} {s' : Sh} : s.cells[j]? ≠ some (.sl e m s') := by
  intro hh
  cases s with
  | leaf => cases j <;> simp [Sh.cells] at hh
  | sl => cases h
  | ag ss =>
    simp only [Sh.cells] at hh
    have h : Sh.plains ss = true := h
    have : ∀ (ss : List Sh) (j : Nat), Sh.plains ss = true → ss[j]? ≠ some (.sl e m s') := by
      intro ss
      induction ss with
      | nil => intro j _ hh; simp at hh
      | cons x xs ih =>
        intro j h hh
        cases x with
        | leaf =>
          simp only [Sh.plains] at h
          cases j with
          | zero => simp at hh
          | succ j => exact ih j h (by simpa using hh)
        | _ => simp [Sh.plains] at h
    exact this ss j h hh
def ways (p : Bool) (A B : Prop) : Prop := if p = true then A else A ∨ B
@[congr] theorem ways_congr {p p' : Bool} {A B : Prop} (h : tick p = p') : ways p A B = ways p' A B := by unfold tick at h; rw [h]
theorem wy_t {A B : Prop} : ways true A B = A := rfl
theorem wy_f {A B : Prop} : ways false A B = (A ∨ B) := rfl
theorem v_ldoo {id i m off : Nat} {e : TypeId} {m' : Nat} {s : Sh} {es : List T} : ldo P t id i m off tm ob KL (.arr e m' (.own s) es) = ways s.plain (ldOb P t m i off (fun r => KL r ob) (.arr e m' (.own s) es)) (opn P t id i m off tm ob KL e m' s es) := by
  unfold ways
  split
  · rename_i h
    refine propext ⟨fun hh => hh.elim (fun h => h) fun hh => ?_, .inl⟩
    unfold opn onShSl at hh
    split at hh
    · rename_i hc; exact absurd hc (plain_cells h)
    · cases hh
  · rfl
@[congr] theorem onSl_congr {o o' : Option T} {K : List T → Prop} (h : tick o = o') : onSl o K = onSl o' K := by unfold tick at h; rw [h]
@[congr] theorem onShSl_congr {o o' : Option Sh} {K : TypeId → Nat → Sh → Prop} (h : tick o = o') : onShSl o K = onShSl o' K := by unfold tick at h; rw [h]
theorem s_onsl {xs : List T} {K : List T → Prop} : onSl (some (.sl xs)) K = K xs := rfl
theorem s_onsh {e : TypeId} {m : Nat} {s : Sh} {K : TypeId → Nat → Sh → Prop} : onShSl (some (.sl e m s)) K = K e m s := rfl
theorem v_opn {id i m off : Nat} {e : TypeId} {m' : Nat} {s : Sh} {es : List T} : opn P t id i m off tm ob KL e m' s es = onShSl s.cells[off]? fun e1 m1 s1 => m = m' ∧ i < es.length ∧ (lay P t).sc = true ∧ tmNoBw tm = true ∧ obsNoBw ob = true ∧ allAt es i fun y => onSl y.cells[off]? fun xs => KL (.sr ob.length) (ob.set id (.hole e m' s es i off ob.length) ++ [.arr e1 m1 (.own s1) xs]) := rfl
theorem sc_ag {ss : List Sh} : Sh.cells (.ag ss) = ss := rfl
end
theorem v_pickA {off : Nat} : pickA P t x off KA = onLay (lay P t) (fun m => if off = 0 ∧ x.cells.length = m ∧ x.isAg = true then KA x else off + m ≤ x.cells.length ∧ KA (.ag ((x.cells.drop off).take m))) (onSome x.cells[off]? KA) := by
  unfold pickA onLay onSome; cases lay P t <;> cases x.cells[off]? <;> rfl
theorem v_pickT {y : T} {off : Nat} {K : T → Prop} : pickT P t y off K = onLay (lay P t) (fun m => if off = 0 ∧ y.cells.length = m ∧ y.isAg = true then K y else off + m ≤ y.cells.length ∧ K (.ag ((y.cells.drop off).take m))) (onSome y.cells[off]? K) := by
  unfold pickT onLay onSome; cases lay P t <;> cases y.cells[off]? <;> rfl
def fld (x : AV) (o : Nat) (K : AV → Prop) : Prop := match x with
  | .rf id off => K (.rf id (off + o))
  | .t (.po y off) => K (.t (.po y (off + o)))
  | .bw (.po y off) => K (.bw (.po y (off + o)))
  | .ra id i m off => K (.ra id i m (off + o))
  | _ => False
@[congr] theorem fld_congr {x' : AV} {o o' : Nat} {K : AV → Prop} (h : tick x = x') (h2 : o = o') : fld x o K = fld x' o' K := by unfold tick at h; rw [h, h2]
theorem v_field {f : Nat} : vcField P s f x KA = onSt (lay P s) fun fs _ => onPair fs[f]? fun o n => n ≠ 0 ∧ fld x o KA := by
  unfold vcField onSt onPair fld
  cases lay P s <;> try rfl
  case st fs m => dsimp only; cases fs[f]? <;> rfl
theorem v_fldrf {id off o : Nat} : fld (.rf id off) o KA = KA (.rf id (off + o)) := rfl
theorem v_fldt {y : T} {off o : Nat} : fld (.t (.po y off)) o KA = KA (.t (.po y (off + o))) := rfl
theorem v_fldra {id i m off o : Nat} : fld (.ra id i m off) o KA = KA (.ra id i m (off + o)) := rfl
theorem v_iasl {es : List T} {k : IntKind} {n : Int} : vcIndexAddr P t ob (.t (.sl es)) (.t (.i k n)) KA = onSli (lay P t) fun _ m => (0 ≤ n ∧ n < es.length) ∧ allAt es n.toNat fun y => y.cells.length = m ∧ KA (.t (.po y 0)) := by
  unfold vcIndexAddr onSli; cases lay P t <;> rfl
def ixOb (m id : Nat) (n : Int) (K : AV → Prop) : Ob → Prop
  | .arr _ m' _ es => m = m' ∧ (0 ≤ n ∧ n < es.length) ∧ K (.ra id n.toNat m 0)
  | .hole _ m' _ es _ _ _ => m = m' ∧ (0 ≤ n ∧ n < es.length) ∧ K (.ra id n.toNat m 0)
  | _ => False
theorem v_iasr {id : Nat} {k : IntKind} {n : Int} : vcIndexAddr P t ob (.sr id) (.t (.i k n)) KA = onSli (lay P t) fun _ m => onSome ob[id]? (ixOb m id n KA) := by
  unfold vcIndexAddr onSli onSome
  cases lay P t <;> try rfl
  dsimp only
  cases ob[id]? with
  | none => rfl
  | some o => cases o <;> rfl
theorem v_ixa {e : TypeId} {m m' id : Nat} {n : Int} {k : Kind} {es : List T} : ixOb m id n KA (.arr e m' k es) = (m = m' ∧ (0 ≤ n ∧ n < es.length) ∧ KA (.ra id n.toNat m 0)) := rfl
theorem v_ixs {l : List UInt8} {k : IntKind} {n : Int} : vcIndex P t (.t (.s l)) (.t (.i k n)) KA = (lay P t = .str ∧ (0 ≤ n ∧ n < l.length) ∧ allAt l n.toNat fun c => KA (.t (.i .u8 c.toNat))) := rfl
theorem v_lensl {es : List T} : vcLen P t ob (.t (.sl es)) KA = onSli (lay P t) fun _ _ => es.length < Bd.B → KA (.t (.i .i64 es.length)) := by
  unfold vcLen onSli; cases lay P t <;> rfl
theorem v_lens {l : List UInt8} : vcLen P t ob (.t (.s l)) KA = onStr (lay P t) (l.length < Bd.B → KA (.t (.i .i64 l.length))) := by
  unfold vcLen onStr; cases lay P t <;> rfl
def lnOb (K : AV → Prop) : Ob → Prop
  | .arr _ _ _ es => es.length < Bd.B → K (.t (.i .i64 es.length))
  | .hole _ _ _ es _ _ _ => es.length < Bd.B → K (.t (.i .i64 es.length))
  | _ => False
theorem v_lensr {id : Nat} : vcLen P t ob (.sr id) KA = onSli (lay P t) fun _ _ => onSome ob[id]? (lnOb KA) := by
  unfold vcLen onSli onSome
  cases lay P t <;> try rfl
  dsimp only
  cases ob[id]? with
  | none => rfl
  | some o => cases o <;> rfl
theorem v_lna {e : TypeId} {m : Nat} {k : Kind} {es : List T} : lnOb KA (.arr e m k es) = (es.length < Bd.B → KA (.t (.i .i64 es.length))) := rfl
theorem v_bini {op : BinOp} {k k' : IntKind} {a b : Int} : vcBin P op t (.t (.i k a)) (.t (.i k' b)) KA = (k = k' ∧ vcInt op k a b KA) := rfl
theorem v_bins {op : BinOp} {a b : List UInt8} : vcBin P op t (.t (.s a)) (.t (.s b)) KA = vcStr op a b KA := rfl
theorem v_binnb {a b : Bool} : vcBin P .neq t (.t (.b a)) (.t (.b b)) KA = (lay P t = .bool ∧ KA (.t (.b (decide (a ≠ b))))) := rfl
theorem v_pen : vcBin P .eql t (.t .np) (.t .np) KA = (lay P t = .ptr ∧ KA (.t (.b true))) := propext ⟨fun h => ⟨h.1, h.2.elim (fun h => h.2) (fun h => nomatch h.1)⟩, fun h => ⟨h.1, .inl ⟨rfl, h.2⟩⟩⟩
theorem v_pep {y : T} {o : Nat} : vcBin P .eql t (.t (.po y o)) (.t .np) KA = (lay P t = .ptr ∧ KA (.t (.b false))) := propext ⟨fun h => ⟨h.1, h.2.elim (fun h => nomatch h.1) (fun h => h.2)⟩, fun h => ⟨h.1, .inr ⟨rfl, h.2⟩⟩⟩
theorem v_add {a b : Int} : vcInt .add .i64 a b KA = (inI64 (a + b) ∧ KA (.t (.i .i64 (a + b)))) := rfl
theorem v_sub {a b : Int} : vcInt .sub .i64 a b KA = (inI64 (a - b) ∧ KA (.t (.i .i64 (a - b)))) := rfl
theorem v_quo {k : IntKind} {a b : Int} : vcInt .quo k a b KA = (k = .i64 ∧ 0 ≤ a ∧ 0 < b ∧ inI64 a ∧ KA (.t (.i .i64 (a / b)))) := rfl
theorem v_rem {k : IntKind} {a b : Int} : vcInt .rem k a b KA = (0 ≤ a ∧ 0 < b ∧ KA (.t (.i k (a % b)))) := rfl
theorem v_eql {k : IntKind} {a b : Int} : vcInt .eql k a b KA = KA (.t (.b (decide (a = b)))) := rfl
theorem v_neq {k : IntKind} {a b : Int} : vcInt .neq k a b KA = KA (.t (.b (decide (a ≠ b)))) := rfl
theorem v_lss {k : IntKind} {a b : Int} : vcInt .lss k a b KA = KA (.t (.b (decide (a < b)))) := rfl
theorem v_leq {k : IntKind} {a b : Int} : vcInt .leq k a b KA = KA (.t (.b (decide (a ≤ b)))) := rfl
theorem v_gtr {k : IntKind} {a b : Int} : vcInt .gtr k a b KA = KA (.t (.b (decide (b < a)))) := rfl
theorem v_geq {k : IntKind} {a b : Int} : vcInt .geq k a b KA = KA (.t (.b (decide (b ≤ a)))) := rfl
theorem v_sadd {a b : List UInt8} : vcStr .add a b KA = ((a ++ b).length < Bd.B ∧ KA (.t (.s (a ++ b)))) := rfl
theorem v_seql {a b : List UInt8} : vcStr .eql a b KA = KA (.t (.b (decide (a = b)))) := rfl
theorem v_sneq {a b : List UInt8} : vcStr .neq a b KA = KA (.t (.b (decide (a ≠ b)))) := rfl
theorem v_slss {a b : List UInt8} : vcStr .lss a b KA = KA (.t (.b (Op.bytesLess a b))) := rfl
theorem v_sgtr {a b : List UInt8} : vcStr .gtr a b KA = KA (.t (.b (!(Op.bytesLess a b || decide (a = b))))) := rfl
theorem v_sgeq {a b : List UInt8} : vcStr .geq a b KA = KA (.t (.b (!Op.bytesLess a b))) := rfl
theorem v_not {a : Bool} : vcUn .not (.t (.b a)) KA = KA (.t (.b (!a))) := rfl
@[congr] theorem vcSl3_congr {x x' hi hi' : AV} {ob' : List Ob} (h : tick x = x') (h2 : hi = hi') (h3 : ob = ob') : vcSl3 P t x hi ob KL = vcSl3 P t x' hi' ob' KL := by unfold tick at h; rw [h, h2, h3]
@[congr] theorem vcSlv_congr {x x' : AV} {a a' b b' : Option AV} {ob' : List Ob} (h0 : tick x = x') (h1 : a = a') (h2 : b = b') (h3 : ob = ob') : vcSlv P t ob x a b KA = vcSlv P t ob' x' a' b' KA := by unfold tick at h0; rw [h0, h1, h2, h3]
theorem v_slvt {y : T} {lo hi : Option AV} : vcSlv P t ob (.t y) lo hi KA = vcSlice P t (.t y) lo hi KA := rfl
@[congr] theorem vcClear_congr {x x' : AV} {ob' : List Ob} (h : tick x = x') (h3 : ob = ob') : vcClear P t x ob KL = vcClear P t x' ob' KL := by unfold tick at h; rw [h, h3]
def onOwK (k : Kind) (A : Sh → Prop) : Prop := match k with
  | .own s => A s
  | _ => False
@[congr] theorem onOwK_congr {k k' : Kind} {A : Sh → Prop} (h : tick k = k') : onOwK k A = onOwK k' A := by unfold tick at h; rw [h]
theorem v_sl3t {y : T} {hi : AV} : vcSl3 P t (.t y) hi ob KL = vcSlice P t (.t y) none (some hi) fun r => KL r ob := rfl
theorem v_exta {xs : List AV} {i : Nat} : vcExtract (.tp xs) i KA = onSome xs[i]? KA := by
  unfold vcExtract onSome; dsimp only; cases xs[i]? <;> rfl
theorem v_bn {d : Int} {K : Int → Prop} : bnd d none K = K d := rfl
theorem v_bs {d n : Int} {k : IntKind} {K : Int → Prop} : bnd d (some (.t (.i k n))) K = K n := rfl
theorem v_slsl {es : List T} {lo hi : Option AV} : vcSlice P t (.t (.sl es)) lo hi KA = onSli (lay P t) fun _ m => (∀ y ∈ es, y.cells.length = m) ∧ bnd 0 lo fun a => bnd es.length hi fun b => (0 ≤ a ∧ a ≤ b ∧ b ≤ es.length) ∧ KA (.t (.sl ((es.take b.toNat).drop a.toNat))) := by
  unfold vcSlice onSli; cases lay P t <;> rfl
theorem v_sls {l : List UInt8} {lo hi : Option AV} : vcSlice P t (.t (.s l)) lo hi KA = onStr (lay P t) (bnd 0 lo fun a => bnd l.length hi fun b => (0 ≤ a ∧ a ≤ b ∧ b ≤ l.length) ∧ KA (.t (.s ((l.take b.toNat).drop a.toNat)))) := by
  unfold vcSlice onStr; cases lay P t <;> rfl
theorem v_storerf {id off : Nat} : vcStore P t (.rf id off) x ob KL = onBox ob[id]? fun y => y ≠ .un ∧ x ≠ .un ∧ allOne x.cells = true ∧ P.cellsOf t = x.cells.length ∧ off + x.cells.length ≤ y.cells.length ∧ x.cells.length ≠ 0 ∧
        KL .ud (ob.set id (.box (if off = 0 ∧ y.cells.length = x.cells.length ∧ x.isAg = y.isAg then x else .ag (segA y.cells off x.cells)))) := by
  unfold vcStore onBox
  dsimp only
  cases ob[id]? with
  | none => rfl
  | some o => cases o <;> rfl
def onMix (o : Option (List T × List Nat × Kind)) (K : T → List Nat → Kind → Prop) : Prop := match o with | some ([z], ids, k) => K z ids k | _ => False
@[congr] theorem onMix_congr {o o' : Option (List T × List Nat × Kind)} {K : T → List Nat → Kind → Prop} (h : tick o = o') : onMix o K = onMix o' K := by unfold tick at h; rw [h]
theorem s_mix {z : T} {ids : List Nat} {k : Kind} {K : T → List Nat → Kind → Prop} : onMix (some ([z], ids, k)) K = K z ids k := rfl
def flatCell : Option T → Prop
  | some c => c.flat = true ∧ c.one = true
  | none => False
theorem s_flatc {c : T} : flatCell (some c) = (c.flat = true ∧ c.one = true) := rfl
def onOwnP (o : Option Ob) (K : TypeId → Nat → Sh → List T → Prop) : Prop := match o with | some (.arr e m (.own s) es) => K e m s es | _ => False
@[congr] theorem onOwnP_congr {o o' : Option Ob} {K : TypeId → Nat → Sh → List T → Prop} (h : tick o = o') : onOwnP o K = onOwnP o' K := by unfold tick at h; rw [h]
def onSr (x : AV) (K : Nat → Prop) : Prop := match x with | .sr n => K n | _ => False
@[congr] theorem onSr_congr {x x' : AV} {K : Nat → Prop} (h : tick x = x') : onSr x K = onSr x' K := by unfold tick at h; rw [h]
def stOb (P : Program) (t : TypeId) (id i m off : Nat) (x : AV) (ob : List Ob) (KL : AV → List Ob → Prop) : Option Ob → Prop
  | some (.arr e m' k es) => (m = m' ∧ i < es.length) ∧ onMix (mix ob k [x]) fun z ids k' =>
      (ids.contains id = false ∧ nodupB ids = true) ∧ (T.allOne z.cells = true ∧ P.cellsOf t = z.cells.length ∧ z.cells.length ≠ 0) ∧ allAt es i fun y =>
        if off = 0 ∧ z.cells.length = m ∧ z.isAg = y.isAg then KL .ud ((killAll ids ob).set id (.arr e m k' (es.set i z)))
        else (z.flat = true ∧ z.one = true ∧ off < m ∧ y.cells.length = m ∧ y.isAg = true ∧ ids = []) ∧ flatCell y.cells[off]? ∧ KL .ud (ob.set id (.arr e m k (es.set i (.ag (y.cells.set off z)))))
  | some (.hole e m' s es i' j _) => (m = m' ∧ i = i' ∧ off = j) ∧ onSr x fun n => onOwnP ob[n]? fun e1 m1 s1 xs => (s.cells[j]? = some (.sl e1 m1 s1) ∧ P.cellsOf t = 1 ∧ off < m) ∧ allAt es i fun y => KL .ud ((ob.set n .dead).set id (.arr e m (.own s) (es.set i (y.setCell j (.sl xs)))))
  | _ => False
@[congr] theorem stOb_congr {t : TypeId} {id i m off : Nat} {x x' : AV} {ob ob' : List Ob} {KL : AV → List Ob → Prop} {o o' : Option Ob} (h1 : tick x = x') (h2 : tick ob = ob') (h3 : tick o = o') : stOb P t id i m off x ob KL o = stOb P t id i m off x' ob' KL o' := by unfold tick at *; rw [h1, h2, h3]
theorem v_storera {id i m off : Nat} : vcStore P t (.ra id i m off) x ob KL = stOb P t id i m off x ob KL ob[id]? := by
  unfold vcStore stOb onMix flatCell onSr onOwnP
  dsimp only
  cases ob[id]? with
  | none => rfl
  | some o =>
    cases o <;> rfl
theorem v_sta {id i m off : Nat} {e : TypeId} {m' : Nat} {k : Kind} {es : List T} : stOb P t id i m off x ob KL (some (.arr e m' k es)) = ((m = m' ∧ i < es.length) ∧ onMix (mix ob k [x]) fun z ids k' =>
      (ids.contains id = false ∧ nodupB ids = true) ∧ (T.allOne z.cells = true ∧ P.cellsOf t = z.cells.length ∧ z.cells.length ≠ 0) ∧ allAt es i fun y =>
        if off = 0 ∧ z.cells.length = m ∧ z.isAg = y.isAg then KL .ud ((killAll ids ob).set id (.arr e m k' (es.set i z)))
        else (z.flat = true ∧ z.one = true ∧ off < m ∧ y.cells.length = m ∧ y.isAg = true ∧ ids = []) ∧ flatCell y.cells[off]? ∧ KL .ud (ob.set id (.arr e m k (es.set i (.ag (y.cells.set off z)))))) := rfl
theorem v_build {parts : List (Nat × AV)} : vcBuild P t parts KA = onSt (lay P t) fun fs _ => onSome (zeroOf P t) fun z => onSome (fillA fs (ofV z).cells parts) fun cells => (ofV z).known = true ∧ KA (.ag cells) := by
  unfold vcBuild onSt onSome
  cases lay P t <;> cases zeroOf P t <;> try rfl
  case st.some fs m z => dsimp only; cases fillA fs (ofV z).cells parts <;> rfl
theorem v_bsl {n : Nat} {ks : List Nat} {xs : List AV} : vcBuildSlice P t n ks xs ob KL = onSli (lay P t) fun e m => ks = List.range' 0 n ∧ n * m ≤ 16777216 ∧ n < Bd.B ∧ (zeroOf P e).isSome = true ∧ onTri (mix ob (.own (shOf P 40 e)) xs) fun ys ids k => nodupB ids = true ∧ allLen m ys = true ∧ allOnes ys = true ∧ KL (.sr ob.length) (killAll ids ob ++ [.arr e m k ys]) := by
  unfold vcBuildSlice onSli onTri
  cases lay P t <;> try rfl
  case sli e m =>
    dsimp only
    cases mix ob (.own (shOf P 40 e)) xs with
    | none => rfl
    | some p => obtain ⟨a, b, c⟩ := p; rfl
theorem v_appsr {i : Nat} : vcAppend P t (.sr i) x ob KL = onSli (lay P t) fun e m => 0 < m ∧ ((zeroOf P e).map (·.cells.size) = some m) ∧ Bd.B * P.bytesOf e ≤ 140737488355328 ∧
    onArr ob[i]? fun e' m' k es => e' = e ∧ m' = m ∧ srcOf m ob i k x fun es2 ids k' => (es ++ es2).length < Bd.B ∧ KL (.sr ob.length) ((killAll ids ob).set i .dead ++ [.arr e m k' (es ++ es2)]) := by
  unfold vcAppend onSli onArr; cases lay P t <;> rfl
def srcR (j : Nat) (kd k' : Kind) (es : List T) (K : List T → List Nat → Kind → Prop) : Prop := match kd, k' with
  | .own s, .own s' => s' = s ∧ if s.plain = true then K es [] (.own s) else K es [j] (.own s)
  | .own _, .clo => K es [] .clo
  | .clo, .own _ => K es [j] .clo
  | .clo, .clo => K es [] .clo
  | _, _ => K es [] .bor
section
variable {sh sh' : Sh} {es : List T} {j : Nat} {K : List T → List Nat → Kind → Prop}
theorem v_sroo : srcR j (.own sh) (.own sh') es K = (sh' = sh ∧ if sh.plain = true then K es [] (.own sh) else K es [j] (.own sh)) := rfl
theorem v_srcc : srcR j .clo .clo es K = K es [] .clo := rfl
end
theorem v_srcsr {m i j : Nat} {kd : Kind} {k : List T → List Nat → Kind → Prop} : srcOf m ob i kd (.sr j) k = onArr ob[j]? fun _ m' k' es => m' = m ∧ i ≠ j ∧ srcR j kd k' es k := by
  unfold srcOf onArr srcR
  rfl
theorem v_make {k k' : IntKind} {n n' : Int} : vcMake P t (.t (.i k n)) (.t (.i k' n')) ob KL = onSli (lay P t) fun e m => n = n' ∧ 0 ≤ n ∧ n < Bd.B ∧ 0 < m ∧ Bd.B * P.bytesOf e ≤ 281474976710656 ∧ onSome (zeroOf P e) fun z => onPair ((ofV z).own [] (shOf P 40 e)) fun y _ =>
    y.cells.length = m ∧ T.allOne y.cells = true ∧ KL (.sr ob.length) (ob ++ [.arr e m (.own (shOf P 40 e)) (List.replicate n.toNat y)]) := by
  unfold vcMake onSli onSome onPair
  cases lay P t <;> try rfl
  case sli e m =>
    dsimp only
    cases zeroOf P e with
    | none => rfl
    | some z => dsimp only; cases (ofV z).own [] (shOf P 40 e) <;> rfl
theorem v_call {f : FuncId} {caps xs : List AV} (h : f < 1000000) : vcCall P (.fn f caps) xs ob KA = onSome (seesW (AV.see ob 5) (xs ++ caps)) fun ts => CallV P f ts (shuts (xs ++ caps)).isSome fun r => KA (.t r) := by
  unfold vcCall onSome; simp only [calleeOf, calleeI, if_pos h]; cases seesW (AV.see ob 5) (xs ++ caps) <;> rfl
theorem v_callo {f : FuncId} {caps xs : List AV} {tm : List (Nat × AV)} (h : f < 1000000) : vcCallO P (.fn f caps) xs tm ob KL = Callx P f (xs ++ caps) (seesW (AV.see ob 5) (xs ++ caps)) (shuts (xs ++ caps)).isSome (tmNoBw tm) ob KL := by unfold vcCallO; simp only [calleeOf, calleeI, if_pos h]
@[congr] theorem vcMapUpd_congr {m m' k k' v v' : AV} {ob' : List Ob} (h : tick m = m') (h1 : k = k') (h2 : v = v') (h3 : ob = ob') : vcMapUpd P t m k v ob KL = vcMapUpd P t m' k' v' ob' KL := by unfold tick at h; rw [h, h1, h2, h3]
@[congr] theorem vcDelete_congr {m m' k k' : AV} {ob' : List Ob} (h : tick m = m') (h1 : k = k') (h3 : ob = ob') : vcDelete P t m k ob KL = vcDelete P t m' k' ob' KL := by unfold tick at h; rw [h, h1, h3]
@[congr] theorem vcMakeMap_congr {r r' : Option AV} {ob' : List Ob} (h : tick r = r') (h3 : ob = ob') : vcMakeMap P t r ob KL = vcMakeMap P t r' ob' KL := by unfold tick at h; rw [h, h3]
@[congr] theorem vcRange_congr {x x' : AV} {ob' : List Ob} (h : tick x = x') (h3 : ob = ob') : vcRange P t x ob KL = vcRange P t x' ob' KL := by unfold tick at h; rw [h, h3]
@[congr] theorem vcNext_congr {x x' : AV} {ob' : List Ob} (h : tick x = x') (h3 : ob = ob') : vcNext x ob KL = vcNext x' ob' KL := by unfold tick at h; rw [h, h3]
@[congr] theorem vcEntry_congr {x x' : AV} {ob' : List Ob} (h : tick x = x') (h3 : ob = ob') : vcEntry x ob KL = vcEntry x' ob' KL := by unfold tick at h; rw [h, h3]
@[congr] theorem vcMapEnt_congr {m m' k k' : AV} {ob' : List Ob} (h : tick m = m') (h1 : k = k') (h3 : ob = ob') : vcMapEnt P t m k ob KL = vcMapEnt P t m' k' ob' KL := by unfold tick at h; rw [h, h1, h3]
@[congr] theorem vcEntSt_congr {m m' k k' v v' : AV} {ob' : List Ob} (h : tick m = m') (h1 : k = k') (h2 : v = v') (h3 : ob = ob') : vcEntSt m k v ob KL = vcEntSt m' k' v' ob' KL := by unfold tick at h; rw [h, h1, h2, h3]
noncomputable def mentOb (s : Bool × List Lay) (kx z : T) (id : Nat) (ob : List Ob) (K : AV → List Ob → Prop) : Ob → Prop
  | .map a b (.own .leaf) ks vs _ => (∀ y ∈ ks, isKey s y) ∧ (kx ∉ ks → ks.length + 1 < Bd.B) ∧ ∀ (n : Int) (v : T), getV ks vs kx z = some v → K (.tp [.t v, .t (.i .i64 n)]) (ob.set id (.map a b (.own .leaf) (updK ks kx) (updV ks vs kx v) (some (n, kx))))
  | _ => False
def onT (x : AV) (A : T → Prop) : Prop := match x with
  | .t z => A z
  | _ => False
@[congr] theorem onT_congr {x x' : AV} {A : T → Prop} (h : tick x = x') : onT x A = onT x' A := by unfold tick at h; rw [h]
@[congr] theorem vcConvert_congr {d : TypeId} {x x' : AV} {ob' : List Ob} (h : tick x = x') (h3 : ob = ob') : vcConvert P t d ob x KA = vcConvert P t d ob' x' KA := by unfold tick at h; rw [h, h3]
def onCv (l : Lay) (A : IntKind → Prop) (B : Prop) : Prop := match l with
  | .int k => A k
  | .str => B
  | _ => False
theorem cv_i {k : IntKind} {A : IntKind → Prop} {B : Prop} : onCv (.int k) A B = A k := rfl
theorem cv_s {A : IntKind → Prop} {B : Prop} : onCv .str A B = B := rfl
theorem v_cvi {d : TypeId} {k : IntKind} {n : Int} : vcConvert P t d ob (.t (.i k n)) KA = onCv (lay P d) (fun k' => lay P t ≠ .oth ∧ P.underlying d = some (.int k') ∧ KA (.t (.i k' (k'.wrap n)))) False := by
  unfold vcConvert onCv
  cases lay P d <;> try rfl
  cases lay P t <;> rfl
theorem v_cvr {d : TypeId} {id : Nat} : vcConvert P t d ob (.sr id) KA = onCv (lay P d) (fun _ => False) (onSli (lay P t) fun e m => m = 1 ∧ lay P e = .int .u8 ∧ onArr ob[id]? fun _ _ _ es => onSome (bytesOf es) fun l => KA (.t (.s l))) := by
  unfold vcConvert onCv onSli onArr onSome
  cases lay P d <;> try rfl
  cases lay P t <;> try rfl
  dsimp only
  cases ob[id]? with
  | none => rfl
  | some o =>
    cases o <;> try rfl
    dsimp only
    cases bytesOf _ <;> rfl
theorem loth_i {k : IntKind} : (Lay.int k = Lay.oth) = False := by simp
theorem bo_nil : bytesOf [] = some [] := rfl
theorem bo_i {n : Int} {r : List T} : bytesOf (.i .u8 n :: r) = (bytesOf r).map (UInt8.ofNat n.toNat :: ·) := by
  simp only [bytesOf]
  cases bytesOf r <;> rfl
@[congr] theorem vcIface_congr {x x' : AV} (h : tick x = x') : vcIface P t x KA = vcIface P t x' KA := by unfold tick at h; rw [h]
@[congr] theorem vcInv_congr {x x' : AV} {nm : String} {xs xs' : List AV} {ob' : List Ob} (h : tick x = x') (h1 : xs = xs') (h3 : ob = ob') : vcInv P x nm xs ob KA = vcInv P x' nm xs' ob' KA := by unfold tick at h; rw [h, h1, h3]
theorem v_ifc {x : AV} : vcIface P t x KA = (P.concrete t = true ∧ onSome x.shut fun y => KA (.t (.ifc t y))) := by
  unfold vcIface onSome
  cases x.shut <;> rfl
theorem v_inv {tt : TypeId} {y : T} {nm : String} {xs : List AV} : vcInv P (.t (.ifc tt y)) nm xs ob KA = onSome (methOf P tt nm) fun g => onSome (seesW (AV.see ob 5) (.t y :: xs)) fun ts => CallV P g ts (shuts (.t y :: xs)).isSome fun r => KA (.t r) := by
  unfold vcInv onSome
  dsimp only
  cases methOf P tt nm with
  | none => rfl
  | some g =>
    dsimp only
    cases seesW (AV.see ob 5) (.t y :: xs) <;> rfl
noncomputable def mupOb (s : Bool × List Lay) (kx z : T) (id : Nat) (ob : List Ob) (K : AV → List Ob → Prop) : Ob → Prop
  | .map a b (.own .leaf) ks vs _ => (∀ y ∈ ks, isKey s y) ∧ (kx ∉ ks → ks.length + 1 < Bd.B) ∧ K .ud (ob.set id (.map a b (.own .leaf) (updK ks kx) (updV ks vs kx z) none))
  | _ => False
theorem v_mup {id : Nat} {k v : AV} : vcMapUpd P t (.mr id) k v ob KL = onMapL (lay P t) fun kt _ => onSome k.shut fun kx => onSome v.shut fun z => onSome (keyLay P kt) fun s => isKey s kx ∧ z.flat = true ∧ z.one = true ∧ onSome ob[id]? (mupOb s kx z id ob KL) := by
  unfold vcMapUpd onMapL onSome
  cases lay P t <;> cases k.shut <;> try rfl
  cases v.shut <;> try rfl
  dsimp only
  cases keyLay P _ <;> try rfl
  dsimp only
  cases ob[id]? with
  | none => rfl
  | some o => cases o with
    | map a b k ks vs p => cases k with
      | own s => cases s <;> rfl
      | clo => rfl
      | bor => rfl
    | _ => rfl
theorem v_mupo {s : Bool × List Lay} {kx z : T} {id : Nat} {a b : TypeId} {ks vs : List T} {p : Option (Int × T)} : mupOb s kx z id ob KL (.map a b (.own .leaf) ks vs p) = ((∀ y ∈ ks, isKey s y) ∧ (kx ∉ ks → ks.length + 1 < Bd.B) ∧ KL .ud (ob.set id (.map a b (.own .leaf) (updK ks kx) (updV ks vs kx z) none))) := rfl
theorem v_mmap0 : vcMakeMap P t none ob KL = onMapL (lay P t) fun kt et => KL (.mr ob.length) (ob ++ [.map kt et (.own .leaf) [] [] none]) := by
  unfold vcMakeMap onMapL; cases lay P t <;> rfl
theorem y_cell {l : Lay} {x : T} : isKey (false, [l]) x = keyCell l x := rfl
theorem yc_s {x : List UInt8} : keyCell .str (.s x) = True := rfl
def lookM (s : Bool × List Lay) (z : Value) (kx : T) (ok : Bool) (kd : Kind) (ks vs : List T) (K : AV → Prop) : Prop :=
  (∀ y ∈ ks, isKey s y) ∧ (∀ (i : Nat) (v : T), ks[i]? = some kx → vs[i]? = some v → K (if ok = true then .tp [kd.look v, .t (.b true)] else kd.look v)) ∧ (kx ∉ ks → K (if ok = true then .tp [ofV z, .t (.b false)] else ofV z))
def lkOb (s : Bool × List Lay) (z : Value) (kx : T) (ok : Bool) (K : AV → Prop) : Ob → Prop
  | .map _ _ kd ks vs _ => lookM s z kx ok kd ks vs K
  | _ => False
@[congr] theorem lookM_congr {s : Bool × List Lay} {z : Value} {kx kx' : T} {ok : Bool} {kd : Kind} {ks ks' vs vs' : List T} {K : AV → Prop} (h : tick kx = kx') (h2 : ks = ks') (h3 : vs = vs') : lookM s z kx ok kd ks vs K = lookM s z kx' ok kd ks' vs' K := by unfold tick at h; rw [h, h2, h3]
theorem v_lkmr {id : Nat} {k : AV} {ok : Bool} : vcLookup P t (.mr id) k ok ob KA = onMapL (lay P t) fun kt et => onSome k.shut fun kx => onSome (keyLay P kt) fun s => onSome (zeroOf P et) fun z => isKey s kx ∧ onSome ob[id]? (lkOb s z kx ok KA) := by
  unfold vcLookup onMapL onSome
  cases lay P t <;> cases k.shut <;> try rfl
  dsimp only
  cases keyLay P _ <;> cases zeroOf P _ <;> try rfl
  dsimp only
  cases ob[id]? with
  | none => rfl
  | some o => cases o <;> rfl
theorem v_lkom {a b : TypeId} {kd : Kind} {ks vs : List T} {p : Option (Int × T)} {s : Bool × List Lay} {z : Value} {kx : T} {ok : Bool} : lkOb s z kx ok KA (.map a b kd ks vs p) = lookM s z kx ok kd ks vs KA := rfl
theorem v_lkt {ks vs : List T} {k : AV} {ok : Bool} : vcLookup P t (.t (.mp ks vs)) k ok ob KA = onMapL (lay P t) fun kt et => onSome k.shut fun kx => onSome (keyLay P kt) fun s => onSome (zeroOf P et) fun z => isKey s kx ∧ lookM s z kx ok .clo ks vs KA := by
  unfold vcLookup onMapL onSome
  cases lay P t <;> cases k.shut <;> try rfl
  dsimp only
  cases keyLay P _ <;> cases zeroOf P _ <;> rfl
theorem v_out0 {σ : St} {K : List AV → Prop} : vcOuts P σ [] K = K [] := rfl
theorem v_outt {σ : St} {i : Nat} {r : List ResultVar} {K : List AV → Prop} : vcOuts P σ (.tmp i :: r) K = vcOuts P σ r fun xs => K (getL σ.tm i :: xs) := rfl
theorem v_outc {σ : St} {i : Nat} {r : List ResultVar} {K : List AV → Prop} : vcOuts P σ (.cell i t :: r) K = vcLoad P t (getL σ.tm i) σ.ob fun x => vcOuts P σ r fun xs => K (x :: xs) := rfl
theorem v_close {N : Nat} {y : AV} {r : T} {obs : List Ob} : vcClose N y ob (.t r) obs = onPair (y.take ob 5) fun r' ids => nodupB ids = true ∧ r' = r ∧ Rest N (killAll ids ob) obs := by
  unfold vcClose onPair
  dsimp only
  cases y.take ob 5 <;> rfl
theorem v_closeo {N : Nat} {y : AV} {obs : List Ob} {i : Nat} : vcClose N y ob (.sr i) obs = Close N y ob (.sr i) obs := rfl
theorem v_closea {N : Nat} {y : AV} {obs : List Ob} {cs : List AV} : vcClose N y ob (.ag cs) obs = Close N y ob (.ag cs) obs := rfl
theorem v_closep {N : Nat} {y : AV} {obs : List Ob} {cs : List AV} : vcClose N y ob (.tp cs) obs = Close N y ob (.tp cs) obs := rfl
theorem v_closef {N : Nat} {y : AV} {obs : List Ob} {i o : Nat} : vcClose N y ob (.rf i o) obs = Close N y ob (.rf i o) obs := rfl
theorem v_rest0 : Rest 0 ob [] = True := eq_true Rest.nil
@[congr] theorem Close_congr {N : Nat} {y y' : AV} {ob' : List Ob} {x : AV} {obs : List Ob} (h : tick y = y') (h2 : ob = ob') : Close N y ob x obs = Close N y' ob' x obs := by unfold tick at h; rw [h, h2]
@[congr] theorem vcClose_congr {N : Nat} {y y' : AV} {ob' : List Ob} {x : AV} {obs : List Ob} (h : tick y = y') (h2 : ob = ob') : vcClose N y ob x obs = vcClose N y' ob' x obs := by unfold tick at h; rw [h, h2]
@[congr] theorem vcOuts_congr {σ σ' : St} {r : List ResultVar} {K : List AV → Prop} (h : tick σ = σ') : vcOuts P σ r K = vcOuts P σ' r K := by unfold tick at h; rw [h]
def onG (x : AV) (b : Bool) (Run Skip : AV → Prop) : Prop :=
  match x with
  | .t (.b x) => if x = true then (if b = true then Run (.t (.b true)) else Skip (.t (.b true))) else (if b = true then Skip (.t (.b false)) else Run (.t (.b false)))
  | .ud => Skip .ud
  | _ => False
@[congr] theorem onG_congr {x' : AV} {b : Bool} {R S : AV → Prop} (h : tick x = x') : onG x b R S = onG x' b R S := by unfold tick at h; rw [h]
theorem g_bt {x : Bool} {R S : AV → Prop} : onG (.t (.b x)) true R S = if x = true then R (.t (.b true)) else S (.t (.b false)) := by cases x <;> rfl
theorem g_bf {x : Bool} {R S : AV → Prop} : onG (.t (.b x)) false R S = if x = true then S (.t (.b true)) else R (.t (.b false)) := by cases x <;> rfl
theorem g_ud {b : Bool} {R S : AV → Prop} : onG .ud b R S = S .ud := rfl
def onPick (c x y : AV) (K : AV → Prop) : Prop := match c with
  | .t (.b v) => K (if v = true then x else y)
  | _ => False
@[congr] theorem onPick_congr {c c' x x' y y' : AV} {K : AV → Prop} (h : tick c = c') (h2 : x = x') (h3 : y = y') : onPick c x y K = onPick c' x' y' K := by unfold tick at h; rw [h, h2, h3]
theorem p_b {v : Bool} {y : AV} {K : AV → Prop} : onPick (.t (.b v)) x y K = if v = true then K x else K y := by cases v <;> rfl
end
section
variable {P : Program} {σ : St} {n : Nat} {tm : List (Nat × AV)} {ob : List Ob} {all : Array Oper} {rest : List Oper} {KS : St → Prop} {K : AV → List Ob → Prop} {KA : AV → Prop} {e : Operand → AV}
  {d : Option Nat} {op : Op} {ty t t' : TypeId} {ps : String} {af : Array Edge} {x y p : Operand} {k : Kont}
theorem e_nil : vcOps P all [] σ KS = KS σ := rfl
theorem e_cons : vcOps P all (⟨d, op, ty, ps, af, none⟩ :: rest) σ KS = (dstOk σ.n d ∧ vcOp P σ op fun x ob => vcOps P all rest (({ σ with ob := ob } : St).set d x) KS) := rfl
theorem guard_on {l : List Oper} {j : Nat} {b : Bool} {R S : St → Prop} : vcGuard ⟨l⟩ σ ⟨d, op, ty, ps, af, some (j, b)⟩ R S = onSome (dstAt l j) fun m => onG (getL σ.tm m) b (fun y => R (σ.set (some m) y)) (fun y => S (σ.set (some m) y)) := by
  rw [← dstAt_eq]
  simp only [vcGuard]
  cases ((l.toArray)[j]?).bind (·.dst) with
  | none => rfl
  | some m =>
    simp only [onSome]
    cases getL σ.tm m <;> rfl
theorem e_consg {l : List Oper} {j : Nat} {b : Bool} : vcOps P ⟨l⟩ (⟨d, op, ty, ps, af, some (j, b)⟩ :: rest) σ KS = (dstOk σ.n d ∧ onSome (dstAt l j) fun m => onG (getL σ.tm m) b
    (fun y => vcOp P (σ.set (some m) y) op (fun x ob => vcOps P ⟨l⟩ rest ((⟨(σ.set (some m) y).n, (σ.set (some m) y).tm, ob⟩ : St).set d x) KS)) (fun y => vcOps P ⟨l⟩ rest ((σ.set (some m) y).set d .ud) KS)) := congrArg (dstOk σ.n d ∧ ·) (guard_on (σ := σ) (R := fun σ => vcOp P σ op fun x ob => vcOps P ⟨l⟩ rest (({ σ with ob := ob } : St).set d x) KS) (S := fun σ => vcOps P ⟨l⟩ rest (σ.set d .ud) KS))
theorem e_setS {v : AV} {m : Nat} : St.set ⟨n, tm, ob⟩ (some m) v = ⟨n, (m, v) :: tm, ob⟩ := rfl
theorem e_setN {v : AV} : σ.set none v = σ := rfl
theorem e_dstS {m : Nat} : dstOk n (some m) = (m < n) := rfl
theorem e_dstN : dstOk n none = True := rfl
theorem e_opdT {m : Nat} : St.opd ⟨n, tm, ob⟩ (.tmp m) = getL tm m := rfl
theorem e_opdC {v : Value} : σ.opd (.const v) = ofV v := rfl
theorem e_opdF {f : FuncId} (h : f < 1000000) : σ.opd (.func f) = .fn f [] := if_pos h
theorem e_get1 {v : AV} {m m' : Nat} : getL ((m', v) :: tm) m = if m = m' then v else getL tm m := id rfl
theorem e_vb {b : Bool} : ofV (.bool b) = .t (.b b) := rfl
theorem e_vi {i : IntKind} {m : Int} : ofV (.int i m) = .t (.i i m) := rfl
theorem e_vs {l : List UInt8} : ofV (.string ⟨⟨l⟩⟩) = if l.length < 1000 then .t (.s l) else .un := rfl
theorem e_ss {l : List UInt8} : ofS (.string ⟨⟨l⟩⟩) = if l.length < 1000 then .t (.s l) else .un := rfl
theorem e_vnil : ofV (.slice none 0 0) = .ns := rfl
theorem e_vp : ofV (.pointer none) = .t .np := rfl
theorem e_vm : ofV (.map none) = .t .nm := rfl
theorem e_vag {cs : Array Value} : ofV (.agg cs) = .ag (cs.toList.map ofS) := rfl
theorem e_sb {b : Bool} : ofS (.bool b) = .t (.b b) := rfl
theorem e_si {i : IntKind} {m : Int} : ofS (.int i m) = .t (.i i m) := rfl
theorem e_snil : ofS (.slice none 0 0) = .ns := rfl
theorem e_sm : ofS (.map none) = .t .nm := rfl
theorem o_box : vcOp P σ (.box t x) K = K (.rf σ.ob.length 0) (σ.ob ++ [.box (σ.opd x)]) := rfl
theorem o_alloc : vcOp P σ (.alloc t) K = match zeroOf P t with
    | some z => K (.rf σ.ob.length 0) (σ.ob ++ [.box (ofV z)])
    | none => False := rfl
theorem o_store : vcOp P σ (.store t p x) K = vcStore P t (σ.opd p) (σ.opd x) σ.ob K := rfl
theorem o_bs {m : Nat} {parts : Array (Nat × Operand)} : vcOp P σ (.buildSlice t m parts) K = vcBuildSlice P t m (parts.toList.map (·.1)) (parts.toList.map fun p => σ.opd p.2) σ.ob K := rfl
theorem o_make : vcOp P σ (.makeSlice t x y) K = vcMake P t (σ.opd x) (σ.opd y) σ.ob K := rfl
theorem o_move : vcOp P σ (.move x) K = K (σ.opd x) σ.ob := rfl
theorem o_assign : vcOp P σ (.assign x) K = K (σ.opd x) σ.ob := rfl
theorem o_pick : vcOp P σ (.pick x y p) K = onPick (σ.opd x) (σ.opd y) (σ.opd p) fun r => K r σ.ob := rfl
theorem o_load : vcOp P σ (.load t x) K = vcLd P t (σ.opd x) σ.tm σ.ob K := rfl
@[congr] theorem vcNb_congr {b : BinOp} {t : TypeId} {x x' : AV} {y y' : AV} {K : AV → Prop} (h0 : tick x = x') (h1 : y = y') : vcNb P b t x y K = vcNb P b t x' y' K := by unfold tick at h0; rw [h0, h1]
theorem o_bin {b : BinOp} {ps : TypeId} : vcOp P σ (.binOp b t x y ps) K = vcNb P b t (σ.opd x) (σ.opd y) fun r => K r σ.ob := rfl
theorem nb_t {b : BinOp} {t : TypeId} {x : AV} {z : T} {K : AV → Prop} : vcNb P b t x (.t z) K = vcBs P b t x (.t z) K := by
  unfold vcNb; split <;> first | rfl | simp_all
@[congr] theorem vcBs_congr {b : BinOp} {t : TypeId} {x x' : AV} {y y' : AV} {K : AV → Prop} (h0 : tick x = x') (h1 : y = y') : vcBs P b t x y K = vcBs P b t x' y' K := by unfold tick at h0; rw [h0, h1]
theorem bs_i {b : BinOp} {t : TypeId} {x : AV} {k : IntKind} {n : Int} {K : AV → Prop} : vcBs P b t x (.t (.i k n)) K = vcBin P b t x (.t (.i k n)) K := by unfold vcBs; split <;> first | rfl | simp_all
theorem bs_s {b : BinOp} {t : TypeId} {x : AV} {n : List UInt8} {K : AV → Prop} : vcBs P b t x (.t (.s n)) K = vcBin P b t x (.t (.s n)) K := by unfold vcBs; split <;> first | rfl | simp_all
theorem bs_b {b : BinOp} {t : TypeId} {x : AV} {n : Bool} {K : AV → Prop} : vcBs P b t x (.t (.b n)) K = vcBin P b t x (.t (.b n)) K := by unfold vcBs; split <;> first | rfl | simp_all
theorem bs_np {b : BinOp} {t : TypeId} {x : AV} {K : AV → Prop} : vcBs P b t x (.t .np) K = vcBin P b t x (.t .np) K := by unfold vcBs; split <;> first | rfl | simp_all
theorem o_un {b : UnOp} : vcOp P σ (.unOp b t x) K = vcUn b (σ.opd x) fun r => K r σ.ob := rfl
theorem o_fa {m : Nat} : vcOp P σ (.fieldAddr t x m) K = vcField P t m (σ.opd x) fun r => K r σ.ob := rfl
theorem o_ia : vcOp P σ (.indexAddr t x y) K = vcIndexAddr P t σ.ob (σ.opd x) (σ.opd y) fun r => K r σ.ob := rfl
theorem o_ix : vcOp P σ (.index t x y) K = vcIndex P t (σ.opd x) (σ.opd y) fun r => K r σ.ob := rfl
theorem o_slS {lo : Operand} {hi : Option Operand} : vcOp P σ (.slice t x (some lo) hi none) K = vcSlv P t σ.ob (σ.opd x) (some (σ.opd lo)) (hi.map σ.opd) fun r => K r σ.ob := rfl
theorem o_slH {hi : Operand} : vcOp P σ (.slice t x none (some hi) none) K = vcSl3 P t (σ.opd x) (σ.opd hi) σ.ob K := rfl
theorem o_ext {m : Nat} : vcOp P σ (.extract x m) K = vcExtract (σ.opd x) m fun r => K r σ.ob := rfl
theorem o_nil : vcOp P σ (.nilCheck x) K = ((σ.opd x).notNil = true ∧ K (σ.opd x) σ.ob) := rfl
theorem o_lookup {ok : Bool} : vcOp P σ (.lookup t x y ok) K = vcLookup P t (σ.opd x) (σ.opd y) ok σ.ob fun r => K r σ.ob := rfl
theorem o_fld {s f : Nat} : vcOp P σ (.field s x f) K = vcFld P s f (σ.opd x) fun r => K r σ.ob := rfl
theorem o_fn {fn : Fn} {ys xs : Array Operand} : vcOp P σ (.makeFunc fn ys xs) K = vcFn fn (ys.toList.map σ.opd) (xs.toList.map σ.opd) fun r => K r σ.ob := rfl
theorem o_build {parts : Array (Nat × Operand)} : vcOp P σ (.build t parts) K = vcBuild P t (parts.toList.map fun p => (p.1, σ.opd p.2)) fun r => K r σ.ob := rfl
theorem o_call {args : Array Operand} {ats : Array TypeId} : vcOp P σ (.call ⟨.value x, args, ats⟩) K = vcCallO P (σ.opd x) (args.toList.map σ.opd) σ.tm σ.ob K := rfl
theorem o_mup : vcOp P σ (.mapUpdate t x y p) K = vcMapUpd P t (σ.opd x) (σ.opd y) (σ.opd p) σ.ob K := rfl
theorem o_ifc : vcOp P σ (.makeInterface t x) K = vcIface P t (σ.opd x) fun r => K r σ.ob := rfl
theorem o_inv {nm : String} {xs : Array Operand} {ts : Array TypeId} : vcOp P σ (.call ⟨.invoke x nm, xs, ts⟩) K = vcInv P (σ.opd x) nm (xs.toList.map σ.opd) σ.ob fun r => K r σ.ob := rfl
theorem o_cvt {d : TypeId} : vcOp P σ (.convert t d x) K = vcConvert P t d σ.ob (σ.opd x) fun r => K r σ.ob := rfl
theorem o_mm0 : vcOp P σ (.makeMap t none) K = vcMakeMap P t none σ.ob K := rfl
theorem o_len : vcOp P σ (.call ⟨.builtin .len, #[x], #[t]⟩) K = vcLen P t σ.ob (σ.opd x) fun r => K r σ.ob := rfl
theorem o_app : vcOp P σ (.call ⟨.builtin .append, #[x, y], #[t, t']⟩) K = (t = t' ∧ vcAppend P t (σ.opd x) (σ.opd y) σ.ob K) := rfl
theorem l_move : vcLook P ob e (.move x) KA = KA (e x) := rfl
theorem l_assign : vcLook P ob e (.assign x) KA = KA (e x) := rfl
theorem l_pick : vcLook P ob e (.pick x y p) KA = onPick (e x) (e y) (e p) KA := rfl
theorem l_load : vcLook P ob e (.load t x) KA = vcLoad P t (e x) ob KA := rfl
theorem l_bin {b : BinOp} {ps : TypeId} : vcLook P ob e (.binOp b t x y ps) KA = vcBs P b t (e x) (e y) KA := rfl
theorem l_un {b : UnOp} : vcLook P ob e (.unOp b t x) KA = vcUn b (e x) KA := rfl
theorem l_fa {m : Nat} : vcLook P ob e (.fieldAddr t x m) KA = vcField P t m (e x) KA := rfl
theorem l_ia : vcLook P ob e (.indexAddr t x y) KA = vcIndexAddr P t ob (e x) (e y) KA := rfl
theorem l_sl {lo hi : Option Operand} : vcLook P ob e (.slice t x lo hi none) KA = vcSlv P t ob (e x) (lo.map e) (hi.map e) KA := rfl
theorem l_ext {m : Nat} : vcLook P ob e (.extract x m) KA = vcExtract (e x) m KA := rfl
theorem l_nil : vcLook P ob e (.nilCheck x) KA = ((e x).notNil = true ∧ KA (e x)) := rfl
theorem l_lookup {ok : Bool} : vcLook P ob e (.lookup t x y ok) KA = vcLookup P t (e x) (e y) ok ob KA := rfl
theorem l_fld {s f : Nat} : vcLook P ob e (.field s x f) KA = vcFld P s f (e x) KA := rfl
theorem l_build {parts : Array (Nat × Operand)} : vcLook P ob e (.build t parts) KA = vcBuild P t (parts.toList.map fun p => (p.1, e p.2)) KA := rfl
theorem l_call {args : Array Operand} {ats : Array TypeId} : vcLook P ob e (.call ⟨.value x, args, ats⟩) KA = vcCall P (e x) (args.toList.map e) ob KA := rfl
theorem l_len : vcLook P ob e (.call ⟨.builtin .len, #[x], #[t]⟩) KA = vcLen P t ob (e x) KA := rfl
variable {N : Nat} {D : DD}
theorem w_skip : W P N D .skip k σ = k .nrm σ := rfl
theorem w_reg {id : Nat} {ops : List Oper} : W P N D (.region id ⟨ops⟩ false) k σ = stopW (stopD (D id)) (WL P N (.region id ⟨ops⟩ false) k σ) (vcOps P ⟨ops⟩ ops σ (k .nrm)) := rfl
@[congr] theorem stopW_congr {b b' : Bool} {A B : Prop} (h : tick b = b') : stopW b A B = stopW b' A B := by unfold tick at h; rw [h]
theorem stw_t {A B : Prop} : stopW true A B = A := rfl
theorem stw_f {A B : Prop} : stopW false A B = B := rfl
theorem stop_d {m : Nat} {es : List (Bool × Nat)} : stopD (m, es) = (m == 999999) := rfl
theorem w_draw {id : Nat} {ops : List Oper} : W P N D (.region id ⟨ops⟩ true) k σ = stopW (stopD (D id)) (WL P N (.region id ⟨ops⟩ true) k σ) (vcDq P ⟨ops⟩ (D id) ops σ (k .nrm)) := rfl
@[congr] theorem vcDq_congr {all : Array Oper} {kd kd' : Nat × List (Bool × Nat)} {os : List Oper} {σ σ' : St} {K : St → Prop} (h : tick kd = kd') (h2 : σ = σ') : vcDq P all kd os σ K = vcDq P all kd' os σ' K := by unfold tick at h; rw [h, h2]
@[congr] theorem vcDz_congr {all : Array Oper} {B B' : Nat} {es : List (Bool × Nat)} {m m' : Nat} {os : List Oper} {σ σ' : St} {K : St → Prop} (h : tick m = m') (h2 : σ = σ') (h3 : B = B') : vcDz P all B es m os σ K = vcDz P all B' es m' os σ' K := by unfold tick at h; rw [h, h2, h3]
@[congr] theorem vcDm_congr {all : Array Oper} {B : Nat} {es : List (Bool × Nat)} {os : List Oper} {σ σ' : St} {K : St → Prop} (h : tick σ = σ') : vcDm P all B es os σ K = vcDm P all B es os σ' K := by unfold tick at h; rw [h]
@[congr] theorem opAt_congr {l : List Oper} {j j' : Nat} (h : tick j = j') : opAt l j = opAt l j' := by unfold tick at h; rw [h]
theorem oa_zero {o : Oper} {os : List Oper} : opAt (o :: os) 0 = some o := rfl
theorem oa_succ {o : Oper} {os : List Oper} {j : Nat} : opAt (o :: os) (j + 1) = opAt os j := rfl
theorem q_n {m : Nat} {os : List Oper} : vcDq P all (m, []) os σ KS = vcDr P all m os σ KS := rfl
theorem q_m {m : Nat} {e : Bool × Nat} {es : List (Bool × Nat)} {os : List Oper} : vcDq P all (m, e :: es) os σ KS = stopW (decide (2000000 ≤ m)) (vcDyR P all (m - 2000000) (prs (e :: es) []) σ KS) (vcDz P all σ.ob.length (e :: es) m os σ KS) := rfl
@[congr] theorem vcDyR_congr {n0 n0' : Nat} {hs hs' : List (List Nat × Nat)} {σ σ' : St} {K : St → Prop} (h : tick n0 = n0') (h2 : hs = hs') (h3 : σ = σ') : vcDyR P all n0 hs σ K = vcDyR P all n0' hs' σ' K := by unfold tick at h; rw [h, h2, h3]
@[congr] theorem vcDy_congr {hs : List (List Nat × Nat)} {os : List Oper} {s s' : Nat} {σ σ' : St} {K : St → Prop} (h : tick s = s') (h2 : σ = σ') : vcDy P all hs os s σ K = vcDy P all hs os s' σ' K := by unfold tick at h; rw [h, h2]
@[congr] theorem vcMk1_congr {e : Operand → AV} {op : Op} {id id' : Nat} {K : AV → Ob → Prop} (h : tick id = id') : vcMk1 P e op id K = vcMk1 P e op id' K := by unfold tick at h; rw [h]
@[congr] theorem vcSt1_congr {e : Operand → AV} {op : Op} {id id' : Nat} {o o' : Option Ob} {K : AV → Prop} (h : tick id = id') (h2 : o = o') : vcSt1 P e op id o K = vcSt1 P e op id' o' K := by unfold tick at h; rw [h, h2]
def st1K (P : Program) (t : TypeId) (p x : AV) (id : Nat) (y : AV) (K : AV → Prop) : Prop := match p with
  | .rf i off => i = id ∧ y ≠ .un ∧ x ≠ .un ∧ allOne x.cells = true ∧ P.cellsOf t = x.cells.length ∧ off + x.cells.length ≤ y.cells.length ∧ x.cells.length ≠ 0 ∧ K (if off = 0 ∧ y.cells.length = x.cells.length ∧ x.isAg = y.isAg then x else .ag (segA y.cells off x.cells))
  | _ => False
@[congr] theorem st1K_congr {t : TypeId} {p p' x x' y y' : AV} {id id' : Nat} {K : AV → Prop} (h : tick p = p') (h2 : x = x') (h3 : id = id') (h4 : y = y') : st1K P t p x id y K = st1K P t p' x' id' y' K := by unfold tick at h; rw [h, h2, h3, h4]
theorem z_zero {B : Nat} {es : List (Bool × Nat)} {os : List Oper} : vcDz P all B es 0 os σ KS = vcDm P all B es os σ KS := rfl
theorem z_succ {B : Nat} {es : List (Bool × Nat)} {m : Nat} {o : Oper} {os : List Oper} : vcDz P all B es (m + 1) (o :: os) σ KS = vcDz P all B es m os σ KS := rfl
def mtK (P : Program) (all : Array Oper) (B : Nat) (js : List (Bool × Nat)) (rest : List Oper) (σ : St) (KS : St → Prop) (o : Oper) : Prop :=
  o.guard = none ∧ dstOk σ.n o.dst ∧ vcMk P B σ.ob σ.opd o.op fun x ob => vcDm P all B js rest (({ σ with ob := ob } : St).set o.dst x) KS
def mfK (P : Program) (all : Array Oper) (B : Nat) (js : List (Bool × Nat)) (rest : List Oper) (σ : St) (KS : St → Prop) (o : Oper) : Prop :=
  dstOk σ.n o.dst ∧ vcGuard all σ o (fun σ => vcLook P σ.ob σ.opd o.op fun x => vcDm P all B js rest (σ.set o.dst x) KS) (fun σ => vcDm P all B js rest (σ.set o.dst .ud) KS)
@[congr] theorem mtK_congr {B : Nat} {js : List (Bool × Nat)} {os : List Oper} {σ σ' : St} {o : Oper} (h : tick σ = σ') : mtK P all B js os σ KS o = mtK P all B js os σ' KS o := by unfold tick at h; rw [h]
@[congr] theorem mfK_congr {B : Nat} {js : List (Bool × Nat)} {os : List Oper} {σ σ' : St} {o : Oper} (h : tick σ = σ') : mfK P all B js os σ KS o = mfK P all B js os σ' KS o := by unfold tick at h; rw [h]
theorem m_nil {B : Nat} {os : List Oper} : vcDm P all B [] os σ KS = vcOps P all os σ KS := rfl
theorem m_t {B : Nat} {l : List Oper} {i : Nat} {js : List (Bool × Nat)} {os : List Oper} : vcDm P ⟨l⟩ B ((true, i) :: js) os σ KS = onSome (opAt l i) (mtK P ⟨l⟩ B js os σ KS) := by
  simp only [vcDm, onSome, mtK]
  cases opAt l i <;> simp
theorem m_f {B : Nat} {l : List Oper} {i : Nat} {js : List (Bool × Nat)} {os : List Oper} : vcDm P ⟨l⟩ B ((false, i) :: js) os σ KS = onSome (opAt l i) (mfK P ⟨l⟩ B js os σ KS) := by
  simp only [vcDm, onSome, mfK]
  cases opAt l i <;> simp
theorem mt_op {B : Nat} {js : List (Bool × Nat)} {os : List Oper} : mtK P all B js os σ KS ⟨d, op, ty, ps, af, none⟩ = (dstOk σ.n d ∧ vcMk P B σ.ob σ.opd op fun x ob => vcDm P all B js os ((⟨σ.n, σ.tm, ob⟩ : St).set d x) KS) := by
  simp [mtK]
theorem mf_op {B : Nat} {js : List (Bool × Nat)} {os : List Oper} : mfK P all B js os σ KS ⟨d, op, ty, ps, af, none⟩ = (dstOk σ.n d ∧ vcLook P σ.ob σ.opd op fun x => vcDm P all B js os (σ.set d x) KS) := rfl
variable {KM : AV → List Ob → Prop}
@[congr] theorem vcMk_congr {B : Nat} {ob ob' : List Ob} {e : Operand → AV} {op : Op} (h : tick ob = ob') : vcMk P B ob e op KM = vcMk P B ob' e op KM := by unfold tick at h; rw [h]
@[congr] theorem vcMkC_congr {f f' : AV} {xs xs' : List AV} {ob ob' : List Ob} (h0 : tick f = f') (h1 : xs = xs') (h2 : ob = ob') : vcMkC P f xs ob KM = vcMkC P f' xs' ob' KM := by unfold tick at h0; rw [h0, h1, h2]
@[congr] theorem Mkx_congr {g : FuncId} {ts ts' : Option (List T)} {sh sh' : Bool} {ob ob' : List Ob} (h0 : tick ts = ts') (h1 : sh = sh') (h2 : ob = ob') : Mkx P g ts sh ob KM = Mkx P g ts' sh' ob' KM := by unfold tick at h0; rw [h0, h1, h2]
@[congr] theorem newOb_congr {ob ob' ob1 ob1' : List Ob} {K : List Ob → Prop} (h0 : tick ob = ob1) (h1 : ob' = ob1') : newOb ob ob' K = newOb ob1 ob1' K := by unfold tick at h0; rw [h0, h1]
theorem nb_nil {ob : List Ob} {K : List Ob → Prop} : newOb [] ob K = K ob := rfl
theorem nb_cons {o : Ob} {ob ob' : List Ob} {K : List Ob → Prop} : newOb (o :: ob) (o :: ob') K = newOb ob ob' K := by simp [newOb]
theorem mk_bs {B : Nat} {ob : List Ob} {e : Operand → AV} {n : Nat} {parts : Array (Nat × Operand)} : vcMk P B ob e (.buildSlice t n parts) KM = vcBuildSlice P t n (parts.toList.map (·.1)) (parts.toList.map fun p => e p.2) ob fun x ob' => newOb (ob.take B) ob' fun _ => KM x ob' := rfl
theorem mk_alloc {B : Nat} {ob : List Ob} {e : Operand → AV} : vcMk P B ob e (.alloc t) KM = onSome (zeroOf P t) fun z => KM (.rf ob.length 0) (ob ++ [.box (ofV z)]) := by
  simp only [vcMk, onSome]; cases zeroOf P t <;> rfl
def mkSt (P : Program) (t : TypeId) (p x : AV) (ob : List Ob) (K : AV → List Ob → Prop) : Prop :=
  match p with
  | .rf id off => vcStore P t (.rf id off) x ob K
  | _ => False
@[congr] theorem mkSt_congr {p p' x x' : AV} {ob ob' : List Ob} (h0 : tick p = p') (h1 : x = x') (h2 : ob = ob') : mkSt P t p x ob KM = mkSt P t p' x' ob' KM := by unfold tick at h0; rw [h0, h1, h2]
theorem mk_app {B : Nat} {ob : List Ob} {e : Operand → AV} : vcMk P B ob e (.call ⟨.builtin .append, #[x, y], #[t, t]⟩) KM = vcAppend P t (e x) (e y) ob KM := by
  simp [vcMk]
theorem mk_st {B : Nat} {ob : List Ob} {e : Operand → AV} : vcMk P B ob e (.store t x y) KM = mkSt P t (e x) (e y) ob KM := rfl
theorem mk_str {ob : List Ob} {id off : Nat} {z : AV} : mkSt P t (.rf id off) z ob KM = vcStore P t (.rf id off) z ob KM := rfl
theorem w_seq {x y : Code} : W P N D (.seq x y) k σ = stopW (stopD (D (1000000 + hdC y))) (WL P N (.seq x y) k σ) (W P N D x (seqW P N D y k) σ) := rfl
@[congr] theorem hdC_congr {c : Code} : hdC c = hdC c := rfl
theorem hd_reg {id : Nat} {ops : Array Oper} {b : Bool} : hdC (.region id ops b) = id := rfl
theorem hd_seq {x y : Code} : hdC (.seq x y) = hdC x := rfl
theorem hd_blk {id : Nat} {c : Code} : hdC (.block id c) = hdC c := rfl
theorem hd_loop {c : Code} : hdC (.loop c) = hdC c := rfl
theorem hd_cond {o : Operand} {x y : Code} : hdC (.cond o x y) = 888888 := rfl
theorem hd_ret : hdC .ret = 888888 := rfl
theorem w_cond {c : Operand} {x y : Code} : W P N D (.cond c x y) k σ = vcCond (σ.opd c) (W P N D x k σ) (W P N D y k σ) := rfl
theorem w_block {id : Nat} {c : Code} : W P N D (.block id c) k σ = W P N D c (blockK id k) σ := rfl
theorem w_exit {id : Nat} : W P N D (.exit id) k σ = k (.ex id) σ := rfl
theorem w_ret : W P N D .ret k σ = k .ret σ := rfl
theorem w_loop {c : Code} : W P N D (.loop c) k σ = WL P N (.loop c) k σ := rfl
theorem r_nil0 {os : List Oper} : vcDr P all 0 os σ KS = vcOps P all os σ KS := rfl
theorem r_cons {m : Nat} : vcDr P all (m + 1) (⟨d, op, ty, ps, af, none⟩ :: rest) σ KS = (dstOk σ.n d ∧ vcLook P σ.ob σ.opd op fun x => vcDr P all m rest (σ.set d x) KS) := rfl
theorem r_consg {l : List Oper} {m j : Nat} {b : Bool} : vcDr P ⟨l⟩ (m + 1) (⟨d, op, ty, ps, af, some (j, b)⟩ :: rest) σ KS = (dstOk σ.n d ∧ onSome (dstAt l j) fun i => onG (getL σ.tm i) b
    (fun y => vcLook P (σ.set (some i) y).ob (σ.set (some i) y).opd op (fun x => vcDr P ⟨l⟩ m rest ((σ.set (some i) y).set d x) KS)) (fun y => vcDr P ⟨l⟩ m rest ((σ.set (some i) y).set d .ud) KS)) := congrArg (dstOk σ.n d ∧ ·) (guard_on (σ := σ) (R := fun σ => vcLook P σ.ob σ.opd op fun x => vcDr P ⟨l⟩ m rest (σ.set d x) KS) (S := fun σ => vcDr P ⟨l⟩ m rest (σ.set d .ud) KS))
@[congr] theorem seqW_congr {N : Nat} {D : DD} {c : Code} {k : Kont} {e : Ex} {σ σ' : St} (h : tick σ = σ') : seqW P N D c k e σ = seqW P N D c k e σ' := by unfold tick at h; rw [h]
@[congr] theorem blockK_congr {i : Nat} {k : Kont} {e : Ex} {σ σ' : St} (h : tick σ = σ') : blockK i k e σ = blockK i k e σ' := by unfold tick at h; rw [h]
@[congr] theorem loopK_congr {N : Nat} {ι : Type} {I : ι → Prop} {s : ι → St} {μ : ι → Nat} {i : ι} {k : Kont} {e : Ex} {σ σ' : St} (h : tick σ = σ') : loopK N I s μ i k e σ = loopK N I s μ i k e σ' := by unfold tick at h; rw [h]
@[congr] theorem cutK_congr {N : Nat} {ι : Type} {I : ι → Prop} {s : ι → St} {k : Kont} {e : Ex} {σ σ' : St} (h : tick σ = σ') : cutK N I s k e σ = cutK N I s k e σ' := by unfold tick at h; rw [h]
@[congr] theorem retK_congr {N : Nat} {outs : List ResultVar} {x : AV} {obs : List Ob} {e : Ex} {σ σ' : St} (h : tick σ = σ') : retK P N outs x obs e σ = retK P N outs x obs e σ' := by unfold tick at h; rw [h]
theorem k_seqn {c : Code} {σ : St} : seqW P N D c k .nrm σ = W P N D c k σ := rfl
theorem k_seqr {c : Code} {σ : St} : seqW P N D c k .ret σ = k .ret σ := rfl
theorem k_seqx {c : Code} {σ : St} {i : Nat} : seqW P N D c k (.ex i) σ = k (.ex i) σ := rfl
theorem k_condt {b : Bool} {A B : Prop} : vcCond (.t (.b b)) A B = if b = true then A else B := rfl
theorem k_blkn {σ : St} {i : Nat} : blockK i k .nrm σ = k .nrm σ := rfl
theorem k_blkr {σ : St} {i : Nat} : blockK i k .ret σ = k .ret σ := rfl
theorem k_blkx {σ : St} {i j : Nat} : blockK i k (.ex j) σ = if j = i then k .nrm σ else k (.ex j) σ := rfl
theorem k_loopr {ι : Type} {I : ι → Prop} {s : ι → St} {μ : ι → Nat} {i : ι} : loopK N I s μ i k .ret σ = k .ret σ := rfl
theorem k_loopx {ι : Type} {I : ι → Prop} {s : ι → St} {μ : ι → Nat} {i : ι} {j : Nat} : loopK N I s μ i k (.ex j) σ = k (.ex j) σ := rfl
theorem k_loopn {ι : Type} {I : ι → Prop} {s : ι → St} {μ : ι → Nat} {i : ι} : loopK N I s μ i k .nrm σ = ∃ j, I j ∧ μ j < μ i ∧ Wk N σ (s j) := rfl
theorem k_ret {outs : List ResultVar} {x : AV} {obs : List Ob} {σ : St} : retK P N outs x obs .ret σ = vcOuts P σ outs fun xs => vcClose N (tup xs) σ.ob x obs := rfl
theorem k_retn {outs : List ResultVar} {x : AV} {obs : List Ob} {σ : St} : retK P N outs x obs .nrm σ = vcOuts P σ outs fun xs => vcClose N (tup xs) σ.ob x obs := rfl
end
theorem f_leaf {x : T} : fits .leaf x = x.flat := by cases x <;> rfl
theorem f_ag {ss : List Sh} {xs : List T} : fits (.ag ss) (.ag xs) = fitss ss xs := rfl
theorem f_sl {e : TypeId} {m : Nat} {s : Sh} {x : T} : fits (.sl e m s) x = false := by cases x <;> rfl
theorem f_ab {ss : List Sh} {x : Bool} : fits (.ag ss) (.b x) = false := rfl
theorem f_ai {ss : List Sh} {k : IntKind} {n : Int} : fits (.ag ss) (.i k n) = false := rfl
theorem f_as {ss : List Sh} {x : List UInt8} : fits (.ag ss) (.s x) = false := rfl
theorem f_nil  : fitss [] [] = true := rfl
theorem f_cons {s : Sh} {ss : List Sh} {x : T} {xs : List T} : fitss (s :: ss) (x :: xs) = (fits s x && fitss ss xs) := rfl
section
variable {ob : List Ob}
theorem w_t {s : Sh} {x : T} : AV.own ob s (.t x) = if fits s x = true then some (x, []) else none := by cases s <;> simp only [AV.own]
def onOwn (o : Option Ob) (K : TypeId → Nat → Sh → List T → Option (T × List Nat)) : Option (T × List Nat) := match o with | some (.arr e m (.own s) es) => K e m s es | _ => none
theorem s_own {e : TypeId} {m : Nat} {s : Sh} {es : List T} {K : TypeId → Nat → Sh → List T → Option (T × List Nat)} : onOwn (some (.arr e m (.own s) es)) K = K e m s es := rfl
def onTs (o : Option (List T × List Nat)) : Option (T × List Nat) := match o with | some (ys, ids) => some (.ag ys, ids) | none => none
theorem s_ts {ys : List T} {ids : List Nat} : onTs (some (ys, ids)) = some (.ag ys, ids) := rfl
def onCons (o : Option (T × List Nat)) (p : Option (List T × List Nat)) : Option (List T × List Nat) := match o, p with | some (y, i), some (ys, i') => some (y :: ys, i ++ i') | _, _ => none
theorem s_oc {y : T} {i i' : List Nat} {ys : List T} : onCons (some (y, i)) (some (ys, i')) = some (y :: ys, i ++ i') := rfl
theorem w_agag {ss : List Sh} {cs : List AV} : AV.own ob (.ag ss) (.ag cs) = onTs (ownsL ob ss cs) := by simp only [AV.own, onTs]; cases ownsL ob ss cs <;> rfl
theorem w_slns {e : TypeId} {m : Nat} {s : Sh} : AV.own ob (.sl e m s) .ns = some (.sl [], []) := by simp only [AV.own]
open Classical in
theorem w_slsr {e : TypeId} {m i : Nat} {s : Sh} : AV.own ob (.sl e m s) (.sr i) = onOwn ob[i]? fun e' m' s' es => if e' = e ∧ m' = m ∧ s' = s then some (.sl es, [i]) else none := by
  simp only [AV.own, onOwn]
  cases ob[i]? with
  | none => rfl
  | some o =>
    cases o <;> rfl
theorem w_nil  : ownsL ob [] [] = some ([], []) := by simp only [ownsL]
theorem w_cons {s : Sh} {ss : List Sh} {x : AV} {xs : List AV} : ownsL ob (s :: ss) (x :: xs) = onCons (x.own ob s) (ownsL ob ss xs) := by simp only [ownsL, onCons]; cases x.own ob s <;> cases ownsL ob ss xs <;> rfl
end
def seeArr : Option Ob → Option T
  | some (.arr _ _ _ es) => some (.sl es)
  | _ => none
def seeMap : Option Ob → Option T
  | some (.map _ _ _ ks vs _) => some (.mp ks vs)
  | _ => none
section
variable {ob : List Ob} {n : Nat}
theorem e_see_t {y : T} : AV.see ob (n + 1) (.t y) = some y := rfl
theorem e_see_bw {y : T} : AV.see ob (n + 1) (.bw y) = some y := rfl
theorem e_see_sr {id : Nat} : AV.see ob (n + 1) (.sr id) = seeArr ob[id]? := by
  simp only [AV.see]
  cases ob[id]? with
  | none => rfl
  | some o => cases o <;> rfl
theorem e_see_mr {id : Nat} : AV.see ob (n + 1) (.mr id) = seeMap ob[id]? := by
  simp only [AV.see]
  cases ob[id]? with
  | none => rfl
  | some o => cases o <;> rfl
theorem e_see_ag {cs : List AV} : AV.see ob (n + 1) (.ag cs) = (seesW (AV.see ob n) cs).map T.ag := rfl
theorem e_see_fn {f : FuncId} {cs : List AV} : AV.see ob (n + 1) (.fn f cs) = (seesW (AV.see ob n) cs).map (T.fn f) := rfl
end
theorem qnb_ud  : AV.noBw .ud = true := by simp only [AV.noBw]
theorem qnb_ns  : AV.noBw .ns = true := by simp only [AV.noBw]
theorem qnb_t {x : T} : AV.noBw (.t x) = true := by simp only [AV.noBw]
theorem qnb_bw {x : T} : AV.noBw (.bw x) = false := by simp only [AV.noBw]
theorem qnb_ag {cs : List AV} : AV.noBw (.ag cs) = noBws cs := by simp only [AV.noBw]
theorem qnb_tp {cs : List AV} : AV.noBw (.tp cs) = noBws cs := by simp only [AV.noBw]
theorem qnb_rf {i o : Nat} : AV.noBw (.rf i o) = true := by simp only [AV.noBw]
theorem qnb_ra {i j m o : Nat} : AV.noBw (.ra i j m o) = true := by simp only [AV.noBw]
theorem qnb_sr {i : Nat} : AV.noBw (.sr i) = true := by simp only [AV.noBw]
theorem qnb_mr {i : Nat} : AV.noBw (.mr i) = true := by simp only [AV.noBw]
theorem qnb_fn {f : FuncId} {cs : List AV} : AV.noBw (.fn f cs) = noBws cs := by simp only [AV.noBw]
theorem qsh_t {x : T} : AV.shut (.t x) = some x := by simp only [AV.shut]
theorem qsh_bw {x : T} : AV.shut (.bw x) = none := by simp only [AV.shut]
theorem qsh_ag {cs : List AV} : AV.shut (.ag cs) = (shuts cs).map T.ag := by simp only [AV.shut]
theorem qsh_rf {i o : Nat} : AV.shut (.rf i o) = none := by simp only [AV.shut]
theorem qsh_sr {i : Nat} : AV.shut (.sr i) = none := by simp only [AV.shut]
theorem qsh_mr {i : Nat} : AV.shut (.mr i) = none := by simp only [AV.shut]
theorem qsh_fn {f : FuncId} {cs : List AV} : AV.shut (.fn f cs) = none := by simp only [AV.shut]
-- what is worked out by itself
attribute [push_cast] qnb_ud qnb_ns qnb_t qnb_bw qnb_ag qnb_tp qnb_rf qnb_ra qnb_sr qnb_mr qnb_fn qsh_t qsh_bw qsh_ag qsh_rf qsh_sr qsh_mr qsh_fn
attribute [push_cast] o_ifc o_inv v_ifc v_inv loth_i o_cvt cv_i cv_s v_cvi v_cvr bo_nil bo_i Option.map_some
attribute [push_cast] bs_i bs_s bs_b bs_np
attribute [push_cast] hd_reg hd_seq hd_blk hd_loop hd_cond hd_ret
attribute [push_cast] deads prs
attribute [push_cast] v_mup v_mupo v_mmap0 y_cell yc_s o_mup o_mm0 List.forall_mem_map List.not_mem_nil
attribute [push_cast] v_ldrf v_ldt v_ldra wy_t wy_f v_ldoo s_onsl s_onsh v_opn sc_ag
attribute [push_cast] at_setE List.set_set List.length_set
attribute [push_cast] tick_eq f_leaf f_ag f_sl f_ab f_ai f_as f_nil f_cons w_t s_own s_ts s_oc w_agag w_slns w_slsr w_nil w_cons
attribute [push_cast] e_see_t e_see_bw e_see_sr e_see_mr e_see_ag e_see_fn seeArr seeMap
attribute [push_cast] decide_true decide_false Keep distinct pre tmVia obVia obVia1 AV.under unders AV.via vias Ob.via Ob.under Ob.empty Kind.le rnO e_get1 Option.join_some Option.join_none Bool.or_true Bool.true_or Bool.or_self beq_self_eq_true Nat.zero_lt_succ
attribute [push_cast] c_ag i_ag c_b i_b n_b c_i i_i n_i c_s i_s n_s c_sl n_sl c_po c_nm i_nm c_mp
attribute [push_cast] ca_ag ca_t ia_ag ia_t na_t ca_sr ia_sr na_sr ca_mr ia_mr
attribute [push_cast] na_mr d_zero d_succ s_some s_box s_arr s_sli s_mapl s_str s_st s_pair s_tri s_lst s_lint s_lbool s_lstr s_lptr
@[congr] theorem vcMax_congr {KA : AV → Prop} {x x' y y' : AV} (h : tick x = x') (h2 : y = y') : vcMax x y KA = vcMax x' y' KA := by unfold tick at h; rw [h, h2]
@[congr] theorem vcFld_congr {P : Program} {KA : AV → Prop} {s f : Nat} {x x' : AV} (h : tick x = x') : vcFld P s f x KA = vcFld P s f x' KA := by unfold tick at h; rw [h]
theorem v_fld {P : Program} {KA : AV → Prop} {s f : Nat} {cs : List T} : vcFld P s f (.t (.ag cs)) KA = onSome (oneFld P s f) fun o => onSome cs[o]? fun y => KA (.t y) := by
  unfold vcFld onSome
  cases oneFld P s f with
  | none => rfl
  | some o => dsimp only; cases cs[o]? <;> rfl
attribute [push_cast] v_fld o_fld l_fld
@[congr] theorem vcFn_congr {KA : AV → Prop} {fn : Fn} {ys ys' xs xs' : List AV} (h0 : ys = ys') (h1 : xs = xs') : vcFn fn ys xs KA = vcFn fn ys' xs' KA := by rw [h0, h1]
theorem v_fn {KA : AV → Prop} {f : FuncId} {xs : List AV} (h : f < 1000000) : vcFn (.func f) [] xs KA = KA (.fn f xs) := by simp [vcFn, h]
attribute [push_cast] v_fn o_fn
attribute [push_cast] s_lsli s_lmap v_loadrf v_loadt v_loadra v_lda v_lkc v_lko v_pickA v_pickT v_field v_fldrf v_fldt v_fldra v_iasl v_iasr v_ixa
attribute [push_cast] v_ixs v_lensl v_lens v_lensr v_lna v_bini v_bins v_binnb v_pen v_pep v_add v_sub v_quo v_rem v_eql v_neq v_lss
attribute [push_cast] v_sta
attribute [push_cast] v_leq v_gtr v_geq v_sadd v_seql v_sneq v_slss v_sgtr v_sgeq v_not v_exta v_bn v_bs v_slsl v_sls v_storerf s_mix s_flatc v_storera v_build
attribute [push_cast] v_bsl v_appsr v_sroo v_srcc v_srcsr v_make v_call v_callo v_lkmr
attribute [push_cast] v_lkom v_lkt v_out0 v_outt v_outc v_close v_closeo v_closea v_closep v_closef v_rest0 g_bt g_bf g_ud p_b e_nil e_cons e_consg
attribute [push_cast] e_setS e_setN e_dstS e_dstN e_opdT e_opdC e_opdF e_vb e_vi e_vs e_ss e_vnil e_vp e_vm e_vag e_sb e_si e_snil e_sm o_box o_alloc o_store o_bs o_make o_move o_assign
attribute [push_cast] o_pick o_load o_bin nb_t o_un o_fa o_ia o_ix o_slS o_slH v_sl3t v_slvt o_ext o_nil o_lookup o_build o_call o_len o_app l_move l_assign l_pick l_load l_bin l_un l_fa l_ia l_sl l_ext l_nil l_lookup
attribute [push_cast] l_build l_call l_len w_skip w_reg w_draw stw_t stw_f stop_d oa_zero oa_succ q_n q_m z_zero z_succ m_nil m_t m_f mt_op mf_op nb_nil nb_cons mk_bs mk_alloc mk_app mk_st mk_str w_seq w_cond w_block w_exit w_ret w_loop r_nil0 r_cons r_consg k_seqn k_seqr k_seqx k_condt k_blkn k_blkr k_blkx k_loopr
attribute [push_cast] k_loopx k_loopn k_ret k_retn tup seesW shuts shutBs AV.take takes killAll ownsA mix fitsAll
attribute [push_cast] AV.bwc tmNoBw noBws obsNoBw Ob.noBw obNoBw AV.ren rens Ob.ren rn behind placeOb T.allOne allOne allLen allOnes T.flat flats segA fillA AV.known AV.notNil AV.isPtr nodupB
attribute [push_cast] at_map freshAV freshAVs freshOb Ob.fresh Ob.owns Sh.plain Sh.plains start numA Lay.sc true_and and_true and_self or_true true_or or_false false_or Bool.true_eq_false
attribute [push_cast] Bool.false_eq_true Bool.and_true Bool.true_and Bool.and_false Bool.false_and List.length_map List.length_cons List.length_nil List.length_append List.map_cons List.map_nil
attribute [push_cast] List.cons_append List.nil_append List.append_nil List.getElem?_cons_zero List.getElem?_cons_succ List.getElem?_nil List.contains_cons List.contains_nil Bool.or_false
attribute [push_cast] List.isEmpty_nil List.set_cons_zero List.set_cons_succ List.take_zero List.take_succ_cons List.drop_zero List.drop_succ_cons List.take_nil List.drop_nil decide_eq_true_eq
attribute [push_cast] Option.map_some Option.map_none Option.isSome_some Option.some.injEq ne_eq not_false_eq_true not_true_eq_false Bool.not_false Bool.not_true implies_true forall_const true_implies
end Go.Proofs.YtmgdkkhnjkepiaaGreat.BX
