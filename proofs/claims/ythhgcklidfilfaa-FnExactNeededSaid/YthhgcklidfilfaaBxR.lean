/-
  A frame for proofs over whole functions, second make, eighteenth part: code, loops, and a function's contract out of its body.
-/
import Derived.Test.YthhgcklidfilfaaBxQy
namespace Go.Proofs.Ythhgcklidfilfaa.BX
set_option linter.unusedSectionVars false
set_option linter.unusedSimpArgs false
set_option linter.unusedVariables false
open Go Go.RowKit
variable [Bd]

/-- how a piece of code is left -/
inductive Ex where
  | nrm | ex (id : Nat) | go (l : Nat) | ret

abbrev Kont := Ex → St → Prop

def Holds (w0 : Base) (K : St → Prop) (a : Act) (w : World) : Prop := ∃ (σ : St) (hv : Hv) (S : Nat → Prop) (F : Nat → List Nat), K σ ∧ Rel w0 σ hv S F a w

def Post (w0 : Base) (K : Kont) : Exit → Act → World → Prop
  | .normal, a, w => Holds w0 (K .nrm) a w
  | .exit id, a, w => Holds w0 (K (.ex id)) a w
  | .goto l, a, w => Holds w0 (K (.go l)) a w
  | .ret, a, w => Holds w0 (K .ret) a w
  | _, _, _ => False

/-- the code, begun in this state, ends as is asked -/
def V (P : Program) (N : Nat) (c : Code) (K : Kont) (σ : St) : Prop :=
  ∀ (w0 : Base) (hv : Hv) (S : Nat → Prop) (F : Nat → List Nat) (a : Act) (w : World), w0.na ≤ N → Rel w0 σ hv S F a w → c.wp P (Post w0 K) a w

def seqK (P : Program) (N : Nat) (y : Code) (K : Kont) : Kont
  | .nrm, σ => V P N y K σ
  | e, σ => K e σ

def blockK (id : Nat) (K : Kont) : Kont
  | .ex i, σ => if i = id then K .nrm σ else K (.ex i) σ
  | e, σ => K e σ

def loopK (N : Nat) {ι : Type} (I : ι → Prop) (s : ι → St) (μ : ι → Nat) (i : ι) (K : Kont) : Kont
  | .nrm, σ => ∃ j, I j ∧ μ j < μ i ∧ Wk N σ (s j)
  | e, σ => K e σ

def cutK (N : Nat) {ι : Type} (I : ι → Prop) (s : ι → St) (K : Kont) : Kont
  | .nrm, σ => ∃ j, I j ∧ Wk N σ (s j)
  | e, σ => K e σ

section
variable {P : Program} {N : Nat} {K : Kont} {σ : St}

theorem Post.mono {w0 : Base} {K K' : Kont} (h : ∀ e σ, K e σ → K' e σ) : ∀ (e : Exit) (a : Act) (w : World), Post w0 K e a w → Post w0 K' e a w := by
  intro e a w hp
  cases e <;> simp only [Post] at hp ⊢ <;> obtain ⟨σ, hv, S, F, hk, hr⟩ := hp <;> exact ⟨σ, hv, S, F, h _ _ hk, hr⟩

theorem V.mono {c : Code} {K K' : Kont} (h : V P N c K σ) (hk : ∀ e σ, K e σ → K' e σ) : V P N c K' σ :=
  fun w0 hv S F a w hN hr => wp_mono (h w0 hv S F a w hN hr) (Post.mono hk)

theorem V.wk {c : Code} {σ' : St} (hw : Wk N σ σ') (h : V P N c K σ') : V P N c K σ := fun w0 hv S F a w hN hr =>
  let ⟨_, _, _, hr'⟩ := hw w0 hv S F a w hN hr
  h w0 _ _ _ a w hN hr'

theorem V.skip (h : K .nrm σ) : V P N .skip K σ := fun w0 hv S F a w hN hr => wp_skip ⟨σ, hv, S, F, h, hr⟩
theorem V.label {l : Nat} (h : K .nrm σ) : V P N (.label l) K σ := fun w0 hv S F a w hN hr => wp_label ⟨σ, hv, S, F, h, hr⟩
theorem V.exit {id : Nat} (h : K (.ex id) σ) : V P N (.exit id) K σ := fun w0 hv S F a w hN hr => wp_exit ⟨σ, hv, S, F, h, hr⟩
theorem V.goto {l : Nat} (h : K (.go l) σ) : V P N (.goto l) K σ := fun w0 hv S F a w hN hr => wp_goto ⟨σ, hv, S, F, h, hr⟩
theorem V.ret (h : K .ret σ) : V P N .ret K σ := fun w0 hv S F a w hN hr => wp_ret ⟨σ, hv, S, F, h, hr⟩

theorem V.seq {x y : Code} (h : V P N x (seqK P N y K) σ) : V P N (.seq x y) K σ := fun w0 hv S F a w hN hr =>
  wp_seq (wp_mono (h w0 hv S F a w hN hr) fun e a w hp => by
    cases e with
    | normal =>
      obtain ⟨σ, hv, S, F, hk, hr⟩ := hp
      exact hk w0 hv S F a w hN hr
    | exit id => exact hp
    | goto l => exact hp
    | ret => exact hp
    | panic c => exact hp.elim
    | outgrown => exact hp.elim)

/-- one behind the other, with a cut -/
theorem V.cut {ι : Type} (I : ι → Prop) (s : ι → St) {x y : Code} (h : V P N x (cutK N I s K) σ) (hy : ∀ i, I i → V P N y K (s i)) : V P N (.seq x y) K σ :=
  V.seq (h.mono fun e σ hk => by
    cases e with
    | nrm =>
      obtain ⟨j, h1, h2⟩ := hk
      exact (hy j h1).wk h2
    | ex id => exact hk
    | go l => exact hk
    | ret => exact hk)

theorem V.block {id : Nat} {c : Code} (h : V P N c (blockK id K) σ) : V P N (.block id c) K σ := fun w0 hv S F a w hN hr =>
  wp_block (wp_mono (h w0 hv S F a w hN hr) fun e a w hp => by
    cases e with
    | normal => exact hp
    | exit i =>
      simp only [Exit.inBlock]
      obtain ⟨σ, hv, S, F, hk, hr⟩ := hp
      simp only [blockK] at hk
      split at hk
      · rename_i e
        rw [if_pos e]
        exact ⟨σ, hv, S, F, hk, hr⟩
      · rename_i e
        rw [if_neg e]
        exact ⟨σ, hv, S, F, hk, hr⟩
    | goto l => exact hp
    | ret => exact hp
    | panic c => exact hp.elim
    | outgrown => exact hp.elim)

def vcCond (x : AV) (A B : Prop) : Prop :=
  match x with
  | .t (.b x) => if x = true then A else B
  | _ => False

theorem V.cond {c : Operand} {x y : Code} (h : vcCond (σ.opd c) (V P N x K σ) (V P N y K σ)) : V P N (.cond c x y) K σ := fun w0 hv S F a w hN hr => by
  unfold vcCond at h
  split at h
  · rename_i b hb
    obtain ⟨⟨L, h1, _⟩, _⟩ := hr.arg c
    rw [hb] at h1
    simp only [footA, footT] at h1
    refine wp_cond h1.1 ?_
    cases b
    · rw [if_neg (by simp)] at h; exact h w0 hv S F a w hN hr
    · rw [if_pos rfl] at h; exact h w0 hv S F a w hN hr
  · cases h

theorem V.region {id : Nat} {ops : Array Oper} (h : vcOps P ops ops.toList σ (K .nrm)) : V P N (.region id ops false) K σ := fun w0 hv S F a w hN hr => by
  refine wp_region ?_
  rw [List.range_eq_range', ← Array.length_toList, wpOps_eq_wpList ops.toList 0 (by simp)]
  exact vcOps_sound _ hr h fun σ' hv' S' F' a' w' hk hr' => ⟨σ', hv', S', F', hk, hr'⟩

theorem V.draw (hm : P.follows .mixedOrders = true) (k : Nat) {id : Nat} {ops : Array Oper} (h : vcDraw P ops k σ (K .nrm)) : V P N (.region id ops true) K σ := fun w0 hv S F a w hN hr =>
  vcDraw_sound hm hr h fun σ' hv' S' F' a' w' hk hr' => ⟨σ', hv', S', F', hk, hr'⟩

theorem V.drawY (hm : P.follows .mixedOrders = true) (n0 : Nat) (hs : List (List Nat × Nat)) {id : Nat} {ops : Array Oper} (hk : okDy ops n0 hs = true) (h : vcDyR P ops n0 hs σ (K .nrm)) : V P N (.region id ops true) K σ := fun w0 hv S F a w hN hr =>
  vcDy_run hm hr hk h fun σ' hv' S' F' a' w' hk hr' => ⟨σ', hv', S', F', hk, hr'⟩

theorem V.drawM (hm : P.follows .mixedOrders = true) (k : Nat) (es : List (Bool × Nat)) {id : Nat} {ops : Array Oper} (hk : okDrawM ops k es = true) (h : vcDm P ops σ.ob.length es (ops.toList.drop k) σ (K .nrm)) : V P N (.region id ops true) K σ := fun w0 hv S F a w hN hr =>
  vcDm_run hm hr hk h fun σ' hv' S' F' a' w' hk hr' => ⟨σ', hv', S', F', hk, hr'⟩

theorem V.loop {ι : Type} (I : ι → Prop) (s : ι → St) (μ : ι → Nat) {c : Code} (i0 : ι) (h0 : I i0) (hw : Wk N σ (s i0)) (hb : ∀ i, I i → V P N c (loopK N I s μ i K) (s i)) : V P N (.loop c) K σ := fun w0 hv S F a w hN hr => by
  obtain ⟨hv1, S1, F1, hr1⟩ := hw w0 hv S F a w hN hr
  intro b k cs
  have key : ∀ n i, μ i = n → I i → ∀ hv S F a w, Rel w0 (s i) hv S F a w → ∃ e a' w', Post w0 K e a' w' ∧ Arrives P (lone (b.at a (.code c :: .inLoop c :: k)) cs w) b k cs e a' w' := by
    intro n
    induction n using Nat.strongRecOn with
    | _ n ih =>
      intro i hn hI hv S F a w hr
      obtain ⟨e, a₁, w₁, hq, harr⟩ := hb i hI w0 hv S F a w hN hr b (.inLoop c :: k) cs
      cases e with
      | normal =>
        obtain ⟨σ2, hv2, S2, F2, ⟨j, hj1, hj2, hj3⟩, hr2⟩ := hq
        obtain ⟨hv3, S3, F3, hr3⟩ := hj3 w0 _ _ _ _ _ hN hr2
        obtain ⟨e₂, a₂, w₂, hq₂, harr₂⟩ := ih (μ j) (hn ▸ hj2) j rfl hj1 hv3 S3 F3 a₁ w₁ hr3
        exact ⟨e₂, a₂, w₂, hq₂, .of_steps (Steps.trans harr (.one step_inLoop)) harr₂⟩
      | exit id => exact ⟨.exit id, a₁, w₁, hq, .pass (x := .inLoop c) rfl (fun _ _ => .inl (by simp)) harr⟩
      | goto l => exact ⟨.goto l, a₁, w₁, hq, .pass (x := .inLoop c) rfl (fun _ _ => .inl (by simp)) harr⟩
      | ret => exact ⟨.ret, a₁, w₁, hq, .pass (x := .inLoop c) rfl (fun _ _ => .inl (by simp)) harr⟩
      | panic ch => exact hq.elim
      | outgrown => exact hq.elim
  obtain ⟨e, a', w', hq, harr⟩ := key _ i0 rfl h0 hv1 S1 F1 a w hr1
  exact ⟨e, a', w', hq, .of_steps (.one step_loop) harr⟩

def start (n : Nat) (xs : List AV) (obs : List Ob) : St := ⟨n, numA 0 xs, obs⟩

def tup : List AV → AV
  | [x] => x
  | xs => .tp xs

def vcOuts (P : Program) (σ : St) : List ResultVar → (List AV → Prop) → Prop
  | [], K => K []
  | .tmp t :: r, K => vcOuts P σ r fun xs => K (getL σ.tm t :: xs)
  | .cell a t :: r, K => vcLoad P t (getL σ.tm a) σ.ob fun x => vcOuts P σ r fun xs => K (x :: xs)

/-- what is given back, for what is there; the first N objects keep their names -/
def Close (N : Nat) (y : AV) (ob : List Ob) (x : AV) (obs : List Ob) : Prop := ∃ ids, distinct ids = true ∧ pre N 0 ids = true ∧ x.under obs.length = true ∧ x.via (rnO ids) y ∧ obVia ids obs.length ob ids obs

/-- what is left of the objects -/
def Rest (N : Nat) (ob obs : List Ob) : Prop := ∃ ids, distinct ids = true ∧ pre N 0 ids = true ∧ obVia ids obs.length ob ids obs

theorem Rest.nil {ob : List Ob} : Rest 0 ob [] := ⟨[], rfl, rfl, rfl⟩
theorem Rest.of {N : Nat} {ob obs : List Ob} (ids : List (Option Nat)) (h1 : distinct ids = true) (h2 : pre N 0 ids = true) (h3 : obVia ids obs.length ob ids obs) : Rest N ob obs := ⟨ids, h1, h2, h3⟩
theorem Close.of {N : Nat} {y x : AV} {ob obs : List Ob} (ids : List (Option Nat)) (h1 : distinct ids = true) (h2 : pre N 0 ids = true) (h3 : x.under obs.length = true) (h4 : x.via (rnO ids) y) (h5 : obVia ids obs.length ob ids obs) : Close N y ob x obs := ⟨ids, h1, h2, h3, h4, h5⟩

def vcClose (N : Nat) (y : AV) (ob : List Ob) (x : AV) (obs : List Ob) : Prop :=
  match x with
  | .t r => match y.take ob 5 with
    | some (r', ids) => nodupB ids = true ∧ r' = r ∧ Rest N (killAll ids ob) obs
    | none => False
  | x => Close N y ob x obs

/-- what a call is to give -/
def retK (P : Program) (N : Nat) (outs : List ResultVar) (x : AV) (obs : List Ob) : Kont
  | .ret, σ | .nrm, σ => vcOuts P σ outs fun xs => vcClose N (tup xs) σ.ob x obs
  | _, _ => False

theorem Rel.pad {w0 : Base} {xs : List AV} {obs : List Ob} {vs : List Value} {hv : Hv} {S : Nat → Prop} {F : Nat → List Nat} {w : World} {n : Nat} (hr : Rel w0 ⟨xs.length, numA 0 xs, obs⟩ hv S F ⟨vs.toArray, []⟩ w) (hn : xs.length ≤ n) :
    Rel w0 (start n xs obs) hv S F { tmps := vs.toArray ++ Array.replicate (n - vs.toArray.size) undef, defers := [] } w := by
  have hs : vs.length = xs.length := by simpa using hr.size
  refine { hr with size := by simp [start]; omega, tm := fun t => ?_, utm := fun t => hr.utm t, defs := rfl }
  have he : (vs.toArray ++ Array.replicate (n - vs.toArray.size) undef).getD t undef = vs.toArray.getD t undef := by
    simp only [Array.getD_eq_getD_getElem?]
    rw [Array.getElem?_append]
    split
    · rfl
    · rename_i h
      rw [Array.getElem?_eq_none (xs := vs.toArray) (by omega)]
      simp only [Array.getElem?_replicate]
      split <;> rfl
  simp only [start]
  rw [he]
  exact hr.tm t

def tupV : List Value → Value
  | [v] => v
  | vs => .tuple vs.toArray

def resOf (tmps : Array Value) : ResultVar → Sem Value
  | .tmp t => pure (tmps.getD t undef)
  | .cell a t => do loadVar t (← asAddr (tmps.getD a undef))

theorem results_eq (fn : Func) (tmps : Array Value) : results fn tmps = (do
    let vs ← fn.results.mapM (resOf tmps)
    pure (if h : vs.size = 1 then vs[0] else .tuple vs)) := rfl

theorem load_cell {ρ : Operand → Value} {t : TypeId} {v : Value} {w : World} (h : (execOp ρ ⟨none, .load t (.tmp 0), 0, "", #[], none⟩).run P w = .ok (.value v) w) : (do loadVar t (← asAddr (ρ (.tmp 0)))).run P w = .ok v w := by
  simp only [execOp, Instr.loadAt, Sem.run_bind] at h
  generalize ρ (.tmp 0) = u at h ⊢
  cases u with
  | pointer a =>
    cases a with
    | some a =>
      simp only [Instr.sureAddr, Sem.run_pure, Result.andThen_ok] at h
      simp only [asAddr, pure_bind]
      cases hr : (loadVar t a).run P w with
      | ok x w' => rw [hr] at h; simp only [Result.andThen_ok, Result.ok.injEq, Next.value.injEq] at h; rw [h.1, h.2]
      | halt x w' => rw [hr] at h; cases h
    | none => simp [Instr.sureAddr, stuck] at h
  | _ => simp [Instr.sureAddr, stuck] at h

theorem outs_sound {w0 : Base} {σ : St} {hv : Hv} {S : Nat → Prop} {F : Nat → List Nat} {a : Act} {w : World} (hr : Rel w0 σ hv S F a w) : ∀ (outs : List ResultVar) {K : List AV → Prop}, vcOuts P σ outs K →
    ∃ xs vs L, K xs ∧ (outs.mapM (m := Sem) (resOf a.tmps)).run P w = .ok vs w ∧ footAs hv w xs vs L ∧ (∀ b ∈ L, S b) ∧ unders σ.ob.length xs = true
  | [], K, h => ⟨[], [], [], h, rfl, by simp [footAs], by simp, rfl⟩
  | .tmp t :: r, K, h => by
    simp only [vcOuts] at h
    obtain ⟨xs, vs, L, h1, h2, h3, h4, h5⟩ := outs_sound hr r h
    obtain ⟨L1, q1, q2⟩ := hr.tm t
    refine ⟨_, a.tmps.getD t undef :: vs, L1 ++ L, h1, ?_, by simp only [footAs]; exact ⟨_, _, L1, L, rfl, rfl, q1, h3⟩, fun b hb => (List.mem_append.1 hb).elim (q2 b) (h4 b), by simp only [unders, hr.utm t, h5, Bool.and_self]⟩
    simp [List.mapM_cons, resOf, h2]
  | .cell c t :: r, K, h => by
    simp only [vcOuts] at h
    obtain ⟨x, hx, hy⟩ := load_sound (o := ⟨none, .load t (.tmp 0), 0, "", #[], none⟩) (e := fun _ => getL σ.tm c) rfl h
    obtain ⟨v, q1, ⟨L1, q2, q3⟩, q4⟩ := hy (ρ := fun _ => a.tmps.getD c undef) hr.obs (fun y _ => ⟨hr.tm c, hr.utm c⟩)
    obtain ⟨xs, vs, L, h1, h2, h3, h4, h5⟩ := outs_sound hr r hx
    refine ⟨_, v :: vs, L1 ++ L, h1, ?_, by simp only [footAs]; exact ⟨_, _, L1, L, rfl, rfl, q2, h3⟩, fun b hb => (List.mem_append.1 hb).elim (q3 b) (h4 b), by simp only [unders, q4, h5, Bool.and_self]⟩
    have := load_cell q1
    simp only [List.mapM_cons, resOf, Sem.run_bind] at this ⊢
    rw [this]
    simp [h2]

theorem tup_foot {hv : Hv} {w : World} {xs : List AV} {vs : List Value} {L : List Nat} (h : footAs hv w xs vs L) : footA hv w (tup xs) (tupV vs) L := by
  match xs, vs, h with
  | [], vs, h => simp only [footAs] at h; obtain ⟨rfl, rfl⟩ := h; simp [tup, tupV, footA, footAs]
  | [x], vs, h =>
    simp only [footAs] at h
    obtain ⟨v, vs', L1, L2, rfl, rfl, h1, rfl, rfl⟩ := h
    simpa [tup, tupV] using h1
  | x :: y :: xs, vs, h =>
    have h' := h
    simp only [footAs] at h
    obtain ⟨v, vs', L1, L2, rfl, rfl, h1, v2, vs2, L3, L4, rfl, rfl, h2, h3⟩ := h
    simp only [tup, tupV, footA]
    exact ⟨_, rfl, h'⟩

theorem tup_under {n : Nat} {xs : List AV} (h : unders n xs = true) : (tup xs).under n = true := by
  match xs, h with
  | [], _ => rfl
  | [x], h => simpa [unders, tup] using h
  | x :: y :: xs, h => exact h

theorem results_run {fn : Func} {outs : List ResultVar} (h : fn.results = outs.toArray) {tmps : Array Value} {w : World} {vs : List Value} (hv : (outs.mapM (m := Sem) (resOf tmps)).run P w = .ok vs w) :
    (results fn tmps).run P w = .ok (tupV vs) w := by
  rw [results_eq, h, List.mapM_toArray, Sem.run_bind, Sem.run_map, hv]
  simp only [Result.andThen_ok, Sem.run_pure]
  congr 1
  match vs with
  | [] => rfl
  | [v] => rfl
  | a :: b :: l => rfl

theorem Rel.one_tmp {w0 : Base} {σ : St} {hv : Hv} {S : Nat → Prop} {F : Nat → List Nat} {a : Act} {w : World} (hr : Rel w0 σ hv S F a w) {y : AV} {v : Value} {L : List Nat} (hf : footA hv w y v L) (hL : ∀ b ∈ L, S b) (hu : y.under σ.ob.length = true) :
    Rel w0 ⟨1, [(0, y)], σ.ob⟩ hv S F ⟨#[v], []⟩ w := by
  refine { hr with size := rfl, defs := rfl, tm := fun t => ?_, utm := fun t => ?_ }
  · simp only [getL]
    split
    · rename_i h; subst h; exact ⟨L, by simpa using hf, hL⟩
    · exact ⟨[], by simp [footA], by simp⟩
  · simp only [getL]
    split
    · exact hu
    · rfl

theorem Rel.no_tmp {w0 : Base} {σ : St} {hv : Hv} {S : Nat → Prop} {F : Nat → List Nat} {a : Act} {w : World} (hr : Rel w0 σ hv S F a w) : Rel w0 ⟨0, [], σ.ob⟩ hv S F ⟨#[], []⟩ w :=
  { hr with size := rfl, defs := rfl, tm := fun t => ⟨[], by simp [getL, footA], by simp⟩, utm := fun t => rfl }

/-- A CONTRACT OUT OF THE BODY -/
theorem FnM.intro {f : FuncId} {fn : Func} {c : Code} {args : List AV} {ob0 : List Ob} {x : AV} {obs : List Ob} {outs : List ResultVar} (hf : P.funcs[f]? = some fn) (hb : fn.body = some c) (hres : fn.results = outs.toArray) (hn : args.length ≤ fn.ntmps)
    (h : V P ob0.length c (retK P ob0.length outs x obs) (start fn.ntmps args ob0)) : FnM P f args ob0 x obs := by
  intro w L0 M vs hv S F hr0
  refine calls_of_wp hf hb ?_
  refine wp_mono (h _ _ _ _ _ w (Nat.le_refl _) (hr0.pad hn)) ?_
  have fin : ∀ (a : Act) (w' : World), Holds ⟨w, L0, M, ob0.length, hv.v⟩ (fun σ => vcOuts P σ outs fun xs => vcClose ob0.length (tup xs) σ.ob x obs) a w' →
      a.defers = [] ∧ ∃ v, (results fn a.tmps).run P w' = .ok v w' ∧ ∃ (v_1 : Value) (hv' : Hv) (S' : Nat → Prop) (F' : Nat → List Nat) (L' : List Nat), Ending.returned v = .returned v_1 ∧ Rel ⟨w, L0, M, ob0.length, hv.v⟩ ⟨0, [], obs⟩ hv' S' F' ⟨#[], []⟩ w' ∧ footA hv' w' x v_1 L' ∧ (∀ b ∈ L', S' b) ∧ x.under obs.length = true := by
    rintro a w' ⟨σ, hv, S, F, hk, hr⟩
    obtain ⟨xs, vs, L, hk, hrun, hfs, f2, hus⟩ := outs_sound hr outs hk
    refine ⟨hr.defs, _, results_run hres hrun, tupV vs, ?_⟩
    have f1 := tup_foot hfs
    have hu := tup_under hus
    unfold vcClose at hk
    split at hk
    · rename_i r
      split at hk
      · rename_i r' ids ht
        obtain ⟨hnd, rfl, ids2, d1, d2, d3⟩ := hk
        obtain ⟨L', g1, g2⟩ := take_sound hr _ _ ht f1 f2
        obtain ⟨hv2, S2, s1, s2, s3, s4, hr2, s5⟩ := hr.killAll ids (nodupB_spec hnd)
        have gS : ∀ b ∈ L', S2 b := fun b hb => by
          rcases g2 b hb with hb | ⟨i, hi, o, ho, hd, hb⟩
          · exact s3 b hb
          · exact s4 i hi o ho hd b hb
        have hr3 := hr2.one_tmp (y := .t r') (by simpa only [footA] using g1) gS rfl
        have hk : Keep ob0.length ids2 ⟨1, [(0, .t r')], killAll ids σ.ob⟩ ⟨1, [(0, .t r')], obs⟩ := ⟨rfl, d1, d2, ⟨⟨rfl, by simp [getL, AV.via, AV.shut]⟩, trivial⟩, d3⟩
        obtain ⟨hv4, S4, F4, hr4⟩ := hk.wk _ _ _ _ _ _ (Nat.le_refl _) hr3
        obtain ⟨L4, q1, q2⟩ := hr4.tm 0
        exact ⟨hv4, S4, F4, L4, rfl, hr4.no_tmp, by simpa [getL] using q1, q2, rfl⟩
      · cases hk
    · obtain ⟨ids, h1, h1', h2, h3, h4⟩ := hk
      have hr1 := hr.one_tmp f1 f2 hu
      have hk : Keep ob0.length ids ⟨1, [(0, tup xs)], σ.ob⟩ ⟨1, [(0, x)], obs⟩ := ⟨rfl, h1, h1', ⟨⟨h2, by simpa [getL] using h3⟩, trivial⟩, h4⟩
      obtain ⟨hv2, S2, F2, hr2⟩ := hk.wk _ _ _ _ _ _ (Nat.le_refl _) hr1
      obtain ⟨L', q1, q2⟩ := hr2.tm 0
      exact ⟨hv2, S2, F2, L', rfl, hr2.no_tmp, by simpa [getL] using q1, q2, h2⟩
  intro e a w' hp
  cases e with
  | normal => exact fin a w' hp
  | ret => exact fin a w' hp
  | exit id => obtain ⟨_, _, _, _, hk, _⟩ := hp; exact hk.elim
  | goto l => obtain ⟨_, _, _, _, hk, _⟩ := hp; exact hk.elim
  | panic c => exact hp.elim
  | outgrown => exact hp.elim

end

/-- the region's operations, the first 'k' of them in any order -/
def vcDr (P : Program) (all : Array Oper) : Nat → List Oper → St → (St → Prop) → Prop
  | 0, os, σ, K => vcOps P all os σ K
  | _ + 1, [], σ, K => K σ
  | k + 1, o :: os, σ, K => dstOk σ.n o.dst ∧ vcGuard all σ o (fun σ => vcLook P σ.ob σ.opd o.op fun x => vcDr P all k os (σ.set o.dst x) K) (fun σ => vcDr P all k os (σ.set o.dst .ud) K)

theorem vcDr_eq {P : Program} {all : Array Oper} : ∀ (k : Nat) (os : List Oper) (σ : St) (K : St → Prop), vcDr P all k os σ K = vcPre P all (os.take k) σ fun σ' => vcOps P all (os.drop k) σ' K
  | 0, os, σ, K => by simp [vcDr, vcPre]
  | k + 1, [], σ, K => by simp [vcDr, vcPre, vcOps]
  | k + 1, o :: os, σ, K => by
    simp only [vcDr, List.take_succ_cons, List.drop_succ_cons, vcPre]
    congr 1
    have h1 : (fun σ : St => vcLook P σ.ob σ.opd o.op fun x => vcDr P all k os (σ.set o.dst x) K) = (fun σ : St => vcLook P σ.ob σ.opd o.op fun x => vcPre P all (os.take k) (σ.set o.dst x) fun σ' => vcOps P all (os.drop k) σ' K) := by
      funext σ
      congr 1
      funext x
      exact vcDr_eq k os _ K
    have h2 : (fun σ : St => vcDr P all k os (σ.set o.dst .ud) K) = (fun σ : St => vcPre P all (os.take k) (σ.set o.dst .ud) fun σ' => vcOps P all (os.drop k) σ' K) := by
      funext σ
      exact vcDr_eq k os _ K
    rw [h1, h2]

/-- how the drawn regions may be drawn: how many of the first operations may stand in any order; where something is made among them, the order to look at them in -/
abbrev DD : Type := Nat → Nat × List (Bool × Nat)
def vcDz (P : Program) (all : Array Oper) (B : Nat) (es : List (Bool × Nat)) : Nat → List Oper → St → (St → Prop) → Prop
  | 0, os, σ, K => vcDm P all B es os σ K
  | _ + 1, [], σ, K => vcDm P all B es [] σ K
  | k + 1, _ :: os, σ, K => vcDz P all B es k os σ K
theorem vcDz_eq {P : Program} {all : Array Oper} {B : Nat} {es : List (Bool × Nat)} : ∀ (k : Nat) (os : List Oper) (σ : St) (K : St → Prop), vcDz P all B es k os σ K = vcDm P all B es (os.drop k) σ K
  | 0, _, _, _ => rfl
  | _ + 1, [], _, _ => rfl
  | k + 1, _ :: os, σ, K => vcDz_eq k os σ K
/-- here the working out stops -/
def stopD (kd : Nat × List (Bool × Nat)) : Bool := kd.1 == 999999
def stopW (b : Bool) (A B : Prop) : Prop := match b with
  | true => A
  | false => B
def vcDq (P : Program) (all : Array Oper) (kd : Nat × List (Bool × Nat)) (os : List Oper) (σ : St) (K : St → Prop) : Prop :=
  match kd.2 with
  | [] => vcDr P all kd.1 os σ K
  | e :: es => stopW (decide (2000000 ≤ kd.1)) (vcDyR P all (kd.1 - 2000000) (prs (e :: es) []) σ K) (vcDz P all σ.ob.length (e :: es) kd.1 os σ K)
def okDq (ops : Array Oper) (kd : Nat × List (Bool × Nat)) : Bool :=
  match kd.2 with
  | [] => okDraw ops kd.1
  | e :: es => if 2000000 ≤ kd.1 then okDy ops (kd.1 - 2000000) (prs (e :: es) []) else okDrawM ops kd.1 (e :: es)

/-- a loop, or what else is not worked out here -/
def WL (P : Program) (N : Nat) (c : Code) (K : Kont) (σ : St) : Prop := V P N c K σ

/-- the first region of a piece of code -/
def hdC : Code → Nat
  | .region id _ _ => id
  | .seq x _ => hdC x
  | .block _ c => hdC c
  | .loop c => hdC c
  | _ => 888888

def W (P : Program) (N : Nat) (D : DD) : Code → Kont → St → Prop
  | .skip, K, σ => K .nrm σ
  | .label _, K, σ => K .nrm σ
  | .region id ops draw, K, σ => stopW (stopD (D id)) (WL P N (.region id ops draw) K σ) (if draw = true then vcDq P ops (D id) ops.toList σ (K .nrm) else vcOps P ops ops.toList σ (K .nrm))
  | .seq x y, K, σ => stopW (stopD (D (1000000 + hdC y))) (WL P N (.seq x y) K σ) (W P N D x (fun e σ => match e with
    | .nrm => W P N D y K σ
    | e => K e σ) σ)
  | .cond c x y, K, σ => vcCond (σ.opd c) (W P N D x K σ) (W P N D y K σ)
  | .block id c, K, σ => W P N D c (blockK id K) σ
  | .exit id, K, σ => K (.ex id) σ
  | .goto l, K, σ => K (.go l) σ
  | .ret, K, σ => K .ret σ
  | c, K, σ => WL P N c K σ

def seqW (P : Program) (N : Nat) (D : DD) (y : Code) (K : Kont) : Kont := fun e σ => match e with
  | .nrm => W P N D y K σ
  | e => K e σ

/-- the drawn regions may be drawn as 'D' says -/
def okCode (D : DD) : Code → Bool
  | .region id ops draw => stopD (D id) || !draw || okDq ops (D id)
  | .seq x y => okCode D x && okCode D y
  | .cond _ x y => okCode D x && okCode D y
  | .block _ c => okCode D c
  | .loop c => okCode D c
  | _ => true

section
variable {P : Program} {N : Nat} {K : Kont} {σ : St} {D : DD}

theorem W_sound (hm : P.follows .mixedOrders = true) : ∀ (c : Code) (K : Kont) (σ : St), okCode D c = true → W P N D c K σ → V P N c K σ
  | .skip, K, σ, _, h => V.skip h
  | .label _, K, σ, _, h => V.label h
  | .region id ops draw, K, σ, ho, h => by
    simp only [W] at h
    cases hst : stopD (D id) with
    | true => rw [hst] at h; exact h
    | false =>
    rw [hst] at h
    simp only [stopW] at h
    cases draw with
    | true =>
      rw [if_pos rfl] at h
      simp only [okCode, hst, Bool.not_true, Bool.false_or] at ho
      unfold vcDq at h
      unfold okDq at ho
      split at h
      · rename_i he
        rw [he] at ho
        rw [vcDr_eq] at h
        exact V.draw hm (D id).1 ⟨ho, h⟩
      · rename_i e es he
        rw [he] at ho
        by_cases hy : 2000000 ≤ (D id).1
        · rw [decide_eq_true hy] at h
          simp only [if_pos hy] at ho
          exact V.drawY hm _ _ ho h
        rw [decide_eq_false hy] at h
        simp only [if_neg hy] at ho
        simp only [stopW] at h
        rw [vcDz_eq] at h
        exact V.drawM hm (D id).1 _ ho h
    | false => rw [if_neg (by simp)] at h; exact V.region h
  | .seq x y, K, σ, ho, h => by
    simp only [okCode, Bool.and_eq_true] at ho
    simp only [W] at h
    cases hst : stopD (D (1000000 + hdC y)) with
    | true => rw [hst] at h; exact h
    | false =>
    rw [hst] at h
    simp only [stopW] at h
    refine V.seq ((W_sound hm x _ σ ho.1 h).mono fun e σ hk => ?_)
    cases e with
    | nrm => exact W_sound hm y K σ ho.2 hk
    | ex id => exact hk
    | go l => exact hk
    | ret => exact hk
  | .cond c x y, K, σ, ho, h => by
    simp only [okCode, Bool.and_eq_true] at ho
    simp only [W] at h
    refine V.cond ?_
    unfold vcCond at h ⊢
    split at h
    · split at h
      · rename_i hx; rw [if_pos hx]; exact W_sound hm x K σ ho.1 h
      · rename_i hx; rw [if_neg hx]; exact W_sound hm y K σ ho.2 h
    · cases h
  | .block id c, K, σ, ho, h => by
    simp only [okCode] at ho
    simp only [W] at h
    exact V.block (W_sound hm c _ σ ho h)
  | .exit id, K, σ, _, h => V.exit h
  | .goto l, K, σ, _, h => V.goto h
  | .ret, K, σ, _, h => V.ret h
  | .loop c, K, σ, _, h => h
  | .rangeFunc .., K, σ, _, h => h
  | .scope _, K, σ, _, h => h
  | .refuse _, K, σ, _, h => h

theorem WL.loop {ι : Type} (I : ι → Prop) (s : ι → St) (μ : ι → Nat) {c : Code} (hm : P.follows .mixedOrders = true) (ho : okCode D c = true) (i0 : ι) (h0 : I i0) (hw : Wk N σ (s i0)) (hb : ∀ i, I i → W P N D c (loopK N I s μ i K) (s i)) : WL P N (.loop c) K σ :=
  V.loop I s μ i0 h0 hw fun i hi => W_sound hm c _ _ ho (hb i hi)

/-- a cut: what comes is shown for all states of a kind -/
theorem W.cut {ι : Type} (I : ι → Prop) (s : ι → St) {c : Code} (hm : P.follows .mixedOrders = true) (ho : okCode D c = true) (i0 : ι) (h0 : I i0) (hw : Wk N σ (s i0)) (hb : ∀ i, I i → W P N D c K (s i)) : WL P N c K σ :=
  (W_sound hm c K _ ho (hb i0 h0)).wk hw

/-- a cut behind a piece: several ways come together -/
theorem W.join {ι : Type} (I : ι → Prop) (s : ι → St) {x y : Code} (hm : P.follows .mixedOrders = true) (ho : okCode D (.seq x y) = true) (hx : W P N D x (cutK N I s K) σ) (hy : ∀ i, I i → W P N D y K (s i)) : WL P N (.seq x y) K σ := by
  simp only [okCode, Bool.and_eq_true] at ho
  exact V.cut I s (W_sound hm x _ _ ho.1 hx) fun i hi => W_sound hm y _ _ ho.2 (hy i hi)

/-- A CONTRACT OUT OF THE BODY -/
theorem ConM.intro {f : FuncId} {fn : Func} {c : Code} {args : List AV} {ob0 : List Ob} {x : AV} {obs : List Ob} (outs : List ResultVar) (D : DD) (hm : P.follows .mixedOrders = true) (hf : P.funcs[f]? = some fn) (hb : fn.body = some c) (hname : (fn.name == "runtime.NumGoroutine") = false)
    (hres : fn.results = outs.toArray) (hn : decide (args.length ≤ fn.ntmps) = true) (ho : okCode D c = true)
    (h : W P ob0.length D c (retK P ob0.length outs x obs) (start fn.ntmps args ob0)) : ConM P f args ob0 x obs :=
  ⟨⟨fn, hf, by rw [hb]; rfl, hname⟩, FnM.intro hf hb hres (by simpa using hn) (W_sound hm c _ _ ho h)⟩

theorem Con.intro {f : FuncId} {fn : Func} {c : Code} {args : List T} {x : AV} {obs : List Ob} (outs : List ResultVar) (D : DD) (hm : P.follows .mixedOrders = true) (hf : P.funcs[f]? = some fn) (hb : fn.body = some c) (hname : (fn.name == "runtime.NumGoroutine") = false)
    (hres : fn.results = outs.toArray) (hn : decide (args.length ≤ fn.ntmps) = true) (ho : okCode D c = true)
    (h : W P 0 D c (retK P 0 outs x obs) (start fn.ntmps (args.map .t) [])) : Con P f args x obs :=
  ConM.intro outs D hm hf hb hname hres (by simpa using hn) ho h

end

end Go.Proofs.Ythhgcklidfilfaa.BX
