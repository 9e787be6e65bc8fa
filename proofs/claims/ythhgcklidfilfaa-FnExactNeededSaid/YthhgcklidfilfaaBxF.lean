/-
  A frame for proofs over whole functions, second make, sixth part: the operations that only look and reckon.
-/
import Derived.Test.YthhgcklidfilfaaBxE
import Derived.IntWalk
namespace Go.Proofs.Ythhgcklidfilfaa.BX
set_option linter.unusedSectionVars false
set_option linter.unusedSimpArgs false
set_option linter.unusedVariables false
open Go Go.RowKit
variable [Bd]

mutual
/-- closed without looking into memory -/
def AV.shut : AV → Option T
  | .t x => some x
  | .ns => some (.sl [])
  | .ag cs => (shuts cs).map T.ag
  | .tp cs => (shuts cs).map T.tp
  | _ => none
def shuts : List AV → Option (List T)
  | [] => some []
  | x :: xs => match x.shut with
    | some y => (shuts xs).map (y :: ·)
    | none => none
end

mutual
theorem shut_sound {hv : Hv} {w : World} : ∀ (x : AV) {y : T} {v : Value} {L : List Nat}, x.shut = some y → footA hv w x v L → footT w y v L
  | .t x, y, v, L, h, hf => by simp only [AV.shut, Option.some.injEq] at h; subst h; simpa only [footA] using hf
  | .ns, y, v, L, h, hf => by
    simp only [AV.shut, Option.some.injEq] at h
    subst h
    simp only [footA] at hf
    simp only [footT]
    exact ⟨none, 0, by simpa using hf.1, by simp, by have := Bd.lo; simp; omega, .inl ⟨trivial, hf.2⟩⟩
  | .ag cs, y, v, L, h, hf => by
    simp only [AV.shut, Option.map_eq_some_iff] at h
    obtain ⟨ts, h1, rfl⟩ := h
    simp only [footA] at hf
    obtain ⟨vs, rfl, hf⟩ := hf
    simp only [footT]
    exact ⟨vs, rfl, shuts_sound cs h1 hf⟩
  | .tp cs, y, v, L, h, hf => by
    simp only [AV.shut, Option.map_eq_some_iff] at h
    obtain ⟨ts, h1, rfl⟩ := h
    simp only [footA] at hf
    obtain ⟨vs, rfl, hf⟩ := hf
    simp only [footT]
    exact ⟨vs, rfl, shuts_sound cs h1 hf⟩
  | .un, _, _, _, h, _ | .ud, _, _, _, h, _ => by simp [AV.shut] at h
  | .rf _ _, _, _, _, h, _ | .sr _, _, _, _, h, _ | .mr _, _, _, _, h, _ | .it _, _, _, _, h, _ | .bw _, _, _, _, h, _ | .fn _ _, _, _, _, h, _ | .ra _ _ _ _, _, _, _, h, _ | .sv _ _ _ _, _, _, _, h, _ => by simp [AV.shut] at h
theorem shuts_sound {hv : Hv} {w : World} : ∀ (xs : List AV) {ys : List T} {vs : List Value} {L : List Nat}, shuts xs = some ys → footAs hv w xs vs L → footTs w ys vs L
  | [], ys, vs, L, h, hf => by simp only [shuts, Option.some.injEq] at h; subst h; simpa only [footAs, footTs] using hf
  | x :: xs, ys, vs, L, h, hf => by
    simp only [shuts] at h
    split at h
    · rename_i y hy
      simp only [Option.map_eq_some_iff] at h
      obtain ⟨zs, h1, rfl⟩ := h
      simp only [footAs] at hf
      obtain ⟨v, vs', L1, L2, rfl, rfl, f1, f2⟩ := hf
      simp only [footTs]
      exact ⟨v, vs', L1, L2, rfl, rfl, shut_sound x hy f1, shuts_sound xs h1 f2⟩
    · cases h
end

def AV.notNil : AV → Bool
  | .rf .. | .ra .. | .fn .. => true
  | .t (.po ..) | .t (.fn ..) => true
  | .bw (.po ..) | .bw (.fn ..) => true
  | _ => false

def AV.isPtr : AV → Bool
  | .rf .. | .ra .. => true
  | .t (.po ..) => true
  | .bw (.po ..) => true
  | _ => false

def inI64 (n : Int) : Prop := -9223372036854775808 ≤ n ∧ n ≤ 9223372036854775807

def vcInt (op : BinOp) (k : IntKind) (x y : Int) (K : AV → Prop) : Prop :=
  match op with
  | .add => if k = .i64 then inI64 (x + y) ∧ K (.t (.i .i64 (x + y))) else K (.t (.i k (k.wrap (x + y))))
  | .sub => if k = .i64 then inI64 (x - y) ∧ K (.t (.i .i64 (x - y))) else K (.t (.i k (k.wrap (x - y))))
  | .mul => if k = .i64 then inI64 (x * y) ∧ K (.t (.i .i64 (x * y))) else K (.t (.i k (k.wrap (x * y))))
  | .quo => k = .i64 ∧ 0 ≤ x ∧ 0 < y ∧ inI64 x ∧ K (.t (.i .i64 (x / y)))
  | .rem => 0 ≤ x ∧ 0 < y ∧ K (.t (.i k (x % y)))
  | .eql => K (.t (.b (decide (x = y))))
  | .neq => K (.t (.b (decide (x ≠ y))))
  | .lss => K (.t (.b (decide (x < y))))
  | .leq => K (.t (.b (decide (x ≤ y))))
  | .gtr => K (.t (.b (decide (y < x))))
  | .geq => K (.t (.b (decide (y ≤ x))))
  | .shr => 0 ≤ y ∧ y ≤ 8 ∧ K (.t (.i k (x / 2 ^ y.toNat)))
  | _ => False

def vcStr (op : BinOp) (x y : List UInt8) (K : AV → Prop) : Prop :=
  match op with
  | .add => (x ++ y).length < Bd.B ∧ K (.t (.s (x ++ y)))
  | .eql => K (.t (.b (decide (x = y))))
  | .neq => K (.t (.b (decide (x ≠ y))))
  | .lss => K (.t (.b (Op.bytesLess x y)))
  | .leq => K (.t (.b (Op.bytesLess x y || decide (x = y))))
  | .gtr => K (.t (.b (!(Op.bytesLess x y || decide (x = y)))))
  | .geq => K (.t (.b (!Op.bytesLess x y)))
  | _ => False

section
variable (P : Program)

/-- '==' on structs of plain cells: 'eqT' -/
def vcBin (op : BinOp) (t : TypeId) (x y : AV) (K : AV → Prop) : Prop :=
  match x, y with
  | .t (.i k a), .t (.i k' b) => k = k' ∧ vcInt op k a b K
  | .t (.s a), .t (.s b) => vcStr op a b K
  | .t (.b a), .t (.b b) => lay P t = .bool ∧ match op with
    | .eql => K (.t (.b (decide (a = b))))
    | .neq => K (.t (.b (decide (a ≠ b))))
    | _ => False
  | x, .t .np => lay P t = .ptr ∧ match op with
    | .eql => (x = .t .np ∧ K (.t (.b true))) ∨ (x.isPtr = true ∧ K (.t (.b false)))
    | .neq => (x = .t .np ∧ K (.t (.b false))) ∨ (x.isPtr = true ∧ K (.t (.b true)))
    | _ => False
  | _, _ => False

def vcUn (op : UnOp) (x : AV) (K : AV → Prop) : Prop :=
  match op, x with
  | .not, .t (.b a) => K (.t (.b (!a)))
  | .neg, .t (.i .i64 n) => inI64 (0 - n) ∧ K (.t (.i .i64 (0 - n)))
  | _, _ => False

def vcField (s : TypeId) (f : Nat) (x : AV) (K : AV → Prop) : Prop :=
  match lay P s with
  | .st fs _ => match fs[f]? with
    | some (o, n) => n ≠ 0 ∧ match x with
      | .rf id off => K (.rf id (off + o))
      | .t (.po y off) => K (.t (.po y (off + o)))
      | .bw (.po y off) => K (.bw (.po y (off + o)))
      | .ra id i m off => K (.ra id i m (off + o))
      | _ => False
    | none => False
  | _ => False

def vcIndexAddr (t : TypeId) (ob : List Ob) (x i : AV) (K : AV → Prop) : Prop :=
  match lay P t, i with
  | .sli _ m, .t (.i _ n) => match x with
    | .t (.sl es) => (0 ≤ n ∧ n < es.length) ∧ allAt es n.toNat fun y => y.cells.length = m ∧ K (.t (.po y 0))
    | .bw (.sl es) => (0 ≤ n ∧ n < es.length) ∧ allAt es n.toNat fun y => y.cells.length = m ∧ K (.bw (.po y 0))
    | .sr id => match ob[id]? with
      | some (.arr _ m' _ es) => m = m' ∧ (0 ≤ n ∧ n < es.length) ∧ K (.ra id n.toNat m 0)
      | some (.hole _ m' _ es _ _ _) => m = m' ∧ (0 ≤ n ∧ n < es.length) ∧ K (.ra id n.toNat m 0)
      | _ => False
    | .sv id a m' l => m = m' ∧ (0 ≤ n ∧ n < l) ∧ K (.ra id (a + n.toNat) m 0)
    | _ => False
  | _, _ => False

def vcIndex (t : TypeId) (x i : AV) (K : AV → Prop) : Prop :=
  match x, i with
  | .t (.s l), .t (.i _ n) => lay P t = .str ∧ (0 ≤ n ∧ n < l.length) ∧ allAt l n.toNat fun c => K (.t (.i .u8 c.toNat))
  | _, _ => False

def vcLen (t : TypeId) (ob : List Ob) (x : AV) (K : AV → Prop) : Prop :=
  match lay P t, x with
  | .str, .t (.s l) => l.length < Bd.B → K (.t (.i .i64 l.length))
  | .sli _ _, .t (.sl es) => es.length < Bd.B → K (.t (.i .i64 es.length))
  | .sli _ _, .bw (.sl es) => es.length < Bd.B → K (.t (.i .i64 es.length))
  | .sli _ _, .ns => K (.t (.i .i64 0))
  | .sli _ _, .sr id => match ob[id]? with
    | some (.arr _ _ _ es) => es.length < Bd.B → K (.t (.i .i64 es.length))
    | some (.hole _ _ _ es _ _ _) => es.length < Bd.B → K (.t (.i .i64 es.length))
    | _ => False
  | .sli _ _, .sv _ _ _ n => K (.t (.i .i64 (n : Nat)))
  | .map _ _, .t .nm => K (.t (.i .i64 0))
  | .map _ _, .t (.mp ks _) => ks.length < Bd.B → K (.t (.i .i64 ks.length))
  | .map _ _, .bw (.mp ks _) => ks.length < Bd.B → K (.t (.i .i64 ks.length))
  | .map _ _, .mr id => match ob[id]? with
    | some (.map _ _ _ ks _ _) => ks.length < Bd.B → K (.t (.i .i64 ks.length))
    | some (.mhole _ _ _ ks _ _ _) => ks.length < Bd.B → K (.t (.i .i64 ks.length))
    | _ => False
  | _, _ => False

def vcExtract (x : AV) (i : Nat) (K : AV → Prop) : Prop :=
  match x with
  | .tp xs => match xs[i]? with
    | some y => K y
    | none => False
  | .t (.tp xs) => match xs[i]? with
    | some y => K (.t y)
    | none => False
  | .bw (.tp xs) => match xs[i]? with
    | some y => K (.bwc y)
    | none => False
  | _ => False

/-- bounds that are left out -/
def bnd (d : Int) : Option AV → (Int → Prop) → Prop
  | none, K => K d
  | some (.t (.i _ n)), K => K n
  | _, _ => False

def vcSlice (t : TypeId) (x : AV) (lo hi : Option AV) (K : AV → Prop) : Prop :=
  match lay P t, x with
  | .str, .t (.s l) => bnd 0 lo fun a => bnd l.length hi fun b => (0 ≤ a ∧ a ≤ b ∧ b ≤ l.length) ∧ K (.t (.s ((l.take b.toNat).drop a.toNat)))
  | .sli _ m, .t (.sl es) => (∀ y ∈ es, y.cells.length = m) ∧ bnd 0 lo fun a => bnd es.length hi fun b => (0 ≤ a ∧ a ≤ b ∧ b ≤ es.length) ∧ K (.t (.sl ((es.take b.toNat).drop a.toNat)))
  | .sli _ m, .bw (.sl es) => (∀ y ∈ es, y.cells.length = m) ∧ bnd 0 lo fun a => bnd es.length hi fun b => (0 ≤ a ∧ a ≤ b ∧ b ≤ es.length) ∧ K (.bw (.sl ((es.take b.toNat).drop a.toNat)))
  | .sli _ _, .ns => bnd 0 lo fun a => bnd 0 hi fun b => (a = 0 ∧ b = 0) ∧ K .ns
  | _, _ => False

/-- .. and a part of a row, named as such -/
def vcSlv (t : TypeId) (ob : List Ob) (x : AV) (lo hi : Option AV) (K : AV → Prop) : Prop :=
  match x with
  | .sr i => match lay P t, ob[i]? with
    | .sli _ m, some (.arr _ m' _ es) => m' = m ∧ bnd 0 lo fun a => bnd es.length hi fun b => (0 ≤ a ∧ a ≤ b ∧ b ≤ es.length) ∧ K (.sv i a.toNat m (b.toNat - a.toNat))
    | _, _ => False
  | .sv i a0 m' n => match lay P t with
    | .sli _ m => m' = m ∧ bnd 0 lo fun a => bnd n hi fun b => (0 ≤ a ∧ a ≤ b ∧ b ≤ n) ∧ K (.sv i (a0 + a.toNat) m (b.toNat - a.toNat))
    | _ => False
  | x => vcSlice P t x lo hi K

def bytesOf : List T → Option (List UInt8)
  | [] => some []
  | .i .u8 n :: r => match bytesOf r with
    | some l => some (UInt8.ofNat n.toNat :: l)
    | none => none
  | _ => none
/-- numbers to numbers, texts to texts, bytes to a text -/
def vcConvert (src dst : TypeId) (ob : List Ob) (x : AV) (K : AV → Prop) : Prop :=
  match lay P dst with
  | .int k => match x with
    | .t (.i _ n) => lay P src ≠ .oth ∧ P.underlying dst = some (.int k) ∧ K (.t (.i k (k.wrap n)))
    | _ => False
  | .str => match lay P src, x with
    | .str, .t (.s l) => K (.t (.s l))
    | .sli e m, .t (.sl es) => m = 1 ∧ lay P e = .int .u8 ∧ match bytesOf es with
      | some l => K (.t (.s l))
      | none => False
    | .sli e m, .sr id => m = 1 ∧ lay P e = .int .u8 ∧ match ob[id]? with
      | some (.arr _ _ _ es) => match bytesOf es with
        | some l => K (.t (.s l))
        | none => False
      | _ => False
    | _, _ => False
  | _ => False

/-- the greater of two numbers -/
def vcMax (x y : AV) (K : AV → Prop) : Prop :=
  match x, y with
  | .t (.i k a), .t (.i _ b) => K (.t (.i k (if b > a then b else a)))
  | _, _ => False

def vcPure (ob : List Ob) (e : Operand → AV) (op : Op) (K : AV → Prop) : Prop :=
  match op with
  | .move x => K (e x)
  | .assign x => K (e x)
  | .pick c x y => match e c with
    | .t (.b v) => K (if v = true then e x else e y)
    | _ => False
  | .load t x => vcLoad P t (e x) ob K
  | .nilCheck x => (e x).notNil = true ∧ K (e x)
  | .binOp op t x y _ => vcBin P op t (e x) (e y) K
  | .unOp op _ x => vcUn op (e x) K
  | .fieldAddr s x f => vcField P s f (e x) K
  | .indexAddr t x i => vcIndexAddr P t ob (e x) (e i) K
  | .index t x i => vcIndex P t (e x) (e i) K
  | .slice t x lo hi none => vcSlv P t ob (e x) (lo.map e) (hi.map e) K
  | .extract x i => vcExtract (e x) i K
  | .convert src dst x => vcConvert P src dst ob (e x) K
  | .call c => match c.callee, c.args.toList, c.argTypes.toList with
    | .builtin .len, [x], [t] => vcLen P t ob (e x) K
    | .builtin .max, [x, y], _ => vcMax (e x) (e y) K
    | _, _, _ => False
  | _ => False
end

section
variable {P : Program} {ob : List Ob} {e : Operand → AV} {K : AV → Prop}

theorem getObj_run {P : Program} {w : World} {r : Nat} {es : Array MapEntry} {c : Nat} (h : w.heap[r]? = some (.map es c)) : (getObj r).run P w = .ok (.map es c) w := by simp [getObj, Sem.run, h]
theorem getObj_iter {P : Program} {w : World} {r : Nat} {m : Option Nat} {a b : Nat} {l : Array Nat} (h : w.heap[r]? = some (.mapIter m a l b)) : (getObj r).run P w = .ok (.mapIter m a l b) w := by simp [getObj, Sem.run, h]

theorem Arg.of {hv : Hv} {S : Nat → Prop} {w : World} {n : Nat} {x : T} {v : Value} (h : footT w x v []) : Arg hv S w n (.t x) v := ⟨⟨[], by simpa only [footA] using h, by simp⟩, rfl⟩

theorem arg_b {hv : Hv} {S : Nat → Prop} {w : World} {n : Nat} (x : Bool) : Arg hv S w n (.t (.b x)) (.bool x) := .of (by simp [footT])
theorem arg_i {hv : Hv} {S : Nat → Prop} {w : World} {n : Nat} (k : IntKind) (x : Int) : Arg hv S w n (.t (.i k x)) (.int k x) := .of (by simp [footT])

theorem Arg.t_inv {hv : Hv} {S : Nat → Prop} {w : World} {n : Nat} {x : T} {v : Value} (h : Arg hv S w n (.t x) v) : ∃ L, footT w x v L ∧ ∀ b ∈ L, S b := by
  obtain ⟨⟨L, h, hL⟩, _⟩ := h
  exact ⟨L, by simpa only [footA] using h, hL⟩
theorem Arg.b_inv {hv : Hv} {S : Nat → Prop} {w : World} {n : Nat} {x : Bool} {v : Value} (h : Arg hv S w n (.t (.b x)) v) : v = .bool x := by
  obtain ⟨L, h, _⟩ := h.t_inv; simp only [footT] at h; exact h.1
theorem Arg.i_inv {hv : Hv} {S : Nat → Prop} {w : World} {n : Nat} {k : IntKind} {x : Int} {v : Value} (h : Arg hv S w n (.t (.i k x)) v) : v = .int k x := by
  obtain ⟨L, h, _⟩ := h.t_inv; simp only [footT] at h; exact h.1
theorem Arg.s_inv {hv : Hv} {S : Nat → Prop} {w : World} {n : Nat} {x : List UInt8} {v : Value} (h : Arg hv S w n (.t (.s x)) v) : v = .string ⟨x.toArray⟩ ∧ x.length < Bd.B := by
  obtain ⟨L, h, _⟩ := h.t_inv; simp only [footT] at h; exact ⟨h.1, h.2.2⟩

theorem Arg.look_inv {k : Kind} {hv : Hv} {S : Nat → Prop} {w : World} {n : Nat} {x : T} {v : Value} (h : Arg hv S w n (k.look x) v) : ∃ L, footT w x v L ∧ ∀ b ∈ L, k.reads hv S b := by
  have bw : Arg hv S w n (.bwc x) v → ∃ L, footT w x v L ∧ ∀ b ∈ L, hv.B b := by
    intro h
    obtain ⟨⟨L, h, hL⟩, _⟩ := h
    unfold AV.bwc at h
    split at h
    · rename_i hf
      simp only [footA] at h
      obtain ⟨rfl, _⟩ := flat_foot x hf h
      exact ⟨[], h, by simp⟩
    · simp only [footA] at h
      exact h.1
  cases k with
  | clo => exact h.t_inv
  | own s => exact bw h
  | bor => exact bw h

theorem Arg.bw_inv {hv : Hv} {S : Nat → Prop} {w : World} {n : Nat} {x : T} {v : Value} (h : Arg hv S w n (.bw x) v) : ∃ L, footT w x v L ∧ ∀ b ∈ L, hv.B b := by
  obtain ⟨⟨L, h, hL⟩, _⟩ := h
  simp only [footA] at h
  exact h.1

theorem toList_mk (x : List UInt8) : (⟨x.toArray⟩ : ByteArray).toList = x := by rw [ByteArray.toList_eq]

theorem bin_int_run {op : BinOp} {k : IntKind} {x y : Int} {K : AV → Prop} (h : vcInt op k x y K) (t : TypeId) : ∃ r v, K r ∧ (∀ (w : World), (binOp op t (.int k x) (.int k y)).run P w = .ok v w) ∧
    ∀ (hv : Hv) (S : Nat → Prop) (w : World) (n : Nat), Arg hv S w n r v := by
  unfold vcInt at h
  have cmp : ∀ (op : BinOp) (c : Bool), (∀ w : World, (binOp op t (.int k x) (.int k y)).run P w = .ok (.bool c) w) → K (.t (.b c)) → ∃ r v, K r ∧ (∀ (w : World), (binOp op t (.int k x) (.int k y)).run P w = .ok v w) ∧
      ∀ (hv : Hv) (S : Nat → Prop) (w : World) (n : Nat), Arg hv S w n r v := fun op c h1 h2 => ⟨_, .bool c, h2, h1, fun hv S w n => arg_b _⟩
  cases op <;> simp only at h
  case add =>
    split at h
    · rename_i hk; subst hk
      exact ⟨_, .int .i64 (x + y), h.2, fun w => by simp [binOp, Op.intArith, IntWalk.i64_in _ h.1], fun hv S w n => arg_i _ _⟩
    · exact ⟨_, .int k (k.wrap (x + y)), h, fun w => by simp [binOp, Op.intArith], fun hv S w n => arg_i _ _⟩
  case sub =>
    split at h
    · rename_i hk; subst hk
      exact ⟨_, .int .i64 (x - y), h.2, fun w => by simp [binOp, Op.intArith, IntWalk.i64_in _ h.1], fun hv S w n => arg_i _ _⟩
    · exact ⟨_, .int k (k.wrap (x - y)), h, fun w => by simp [binOp, Op.intArith], fun hv S w n => arg_i _ _⟩
  case mul =>
    split at h
    · rename_i hk; subst hk
      exact ⟨_, .int .i64 (x * y), h.2, fun w => by simp [binOp, Op.intArith, IntWalk.i64_in _ h.1], fun hv S w n => arg_i _ _⟩
    · exact ⟨_, .int k (k.wrap (x * y)), h, fun w => by simp [binOp, Op.intArith], fun hv S w n => arg_i _ _⟩
  case quo =>
    obtain ⟨rfl, h0, h1, h2, h3⟩ := h
    refine ⟨_, .int .i64 (x / y), h3, fun w => ?_, fun hv S w n => arg_i _ _⟩
    have h4 : y ≠ 0 := by omega
    have h5 : x.tdiv y = x / y := Int.tdiv_eq_ediv_of_nonneg h0
    have h6 : 0 ≤ x / y := Int.ediv_nonneg h0 (by omega)
    have h7 : x / y ≤ x := Int.ediv_le_self _ h0
    have h8 := h2.2
    simp [binOp, Op.intDiv, h4, h5, IntWalk.i64_in (x / y) ⟨by omega, by omega⟩]
  case shr =>
    obtain ⟨h0, h1, h3⟩ := h
    exact ⟨_, .int k (x / 2 ^ y.toNat), h3, fun w => by rw [binOp_shr, shift_shr k k x y h0 (by cases k <;> simp [IntKind.bits] <;> omega)]; simp, fun hv S w n => arg_i _ _⟩
  case rem =>
    obtain ⟨h0, h1, h3⟩ := h
    refine ⟨_, .int k (x % y), h3, fun w => ?_, fun hv S w n => arg_i _ _⟩
    have h4 : y ≠ 0 := by omega
    simp [binOp, Op.intDiv, h4, Int.tmod_eq_emod_of_nonneg h0]
  case eql => exact cmp _ _ (fun w => by simp only [binOp, ne_eq, not_true_eq_false, if_false, Op.intCmp, Sem.run_pure]; rfl) h
  case neq =>
    refine cmp _ _ (fun w => ?_) h
    simp only [binOp, ne_eq, not_true_eq_false, if_false, Op.intCmp, Sem.run_pure]
    congr 2
    rw [Bool.eq_iff_iff]; simp
  case lss => exact cmp _ _ (fun w => by simp only [binOp, ne_eq, not_true_eq_false, if_false, Op.intCmp, Sem.run_pure]) h
  case leq => exact cmp _ _ (fun w => by simp only [binOp, ne_eq, not_true_eq_false, if_false, Op.intCmp, Sem.run_pure]) h
  case gtr => exact cmp _ _ (fun w => by simp only [binOp, ne_eq, not_true_eq_false, if_false, Op.intCmp, Sem.run_pure]) h
  case geq => exact cmp _ _ (fun w => by simp only [binOp, ne_eq, not_true_eq_false, if_false, Op.intCmp, Sem.run_pure]) h
  all_goals exact h.elim

theorem bin_str_run {op : BinOp} {x y : List UInt8} {K : AV → Prop} (h : vcStr op x y K) (t : TypeId) : ∃ r v, K r ∧ (∀ (w : World), x.length < Bd.B → y.length < Bd.B → (binOp op t (.string ⟨x.toArray⟩) (.string ⟨y.toArray⟩)).run P w = .ok v w) ∧
    ∀ (hv : Hv) (S : Nat → Prop) (w : World) (n : Nat), Arg hv S w n r v := by
  unfold vcStr at h
  have cmp : ∀ (op : BinOp) (c : Bool), (∀ w : World, (binOp op t (.string ⟨x.toArray⟩) (.string ⟨y.toArray⟩)).run P w = .ok (.bool c) w) → K (.t (.b c)) → ∃ r v, K r ∧ (∀ (w : World), x.length < Bd.B → y.length < Bd.B → (binOp op t (.string ⟨x.toArray⟩) (.string ⟨y.toArray⟩)).run P w = .ok v w) ∧
      ∀ (hv : Hv) (S : Nat → Prop) (w : World) (n : Nat), Arg hv S w n r v := fun op c h1 h2 => ⟨_, .bool c, h2, fun w _ _ => h1 w, fun hv S w n => arg_b _⟩
  have beq : (x == y) = decide (x = y) := by rw [Bool.eq_iff_iff]; simp
  cases op <;> simp only at h
  case add =>
    refine ⟨_, .string ⟨(x ++ y).toArray⟩, h.2, fun w hx hy => ?_, fun hv S w n => .of (by simp only [footT]; exact ⟨trivial, trivial, h.1⟩)⟩
    have hs : ¬ ((((⟨x.toArray⟩ : ByteArray).size + (⟨y.toArray⟩ : ByteArray).size : Nat) : Int) > IntKind.i64.max) := by
      show ¬ (((x.toArray.size + y.toArray.size : Nat) : Int) > 2 ^ 63 - 1)
      simp only [List.size_toArray]
      have := Bd.hi
      have h1 := h.1
      rw [List.length_append] at h1
      omega
    rw [binOp_string_add]
    simp only [Op.stringOp, hs, if_false, Sem.run_pure]
    congr 2
  case eql => exact cmp _ _ (fun w => by rw [binOp_string_eql]; simp only [toList_mk, beq, Sem.run_pure]) h
  case neq => exact cmp _ _ (fun w => by rw [binOp_string_neq]; simp only [toList_mk, beq, Sem.run_pure, ← decide_not]) h
  case lss => exact cmp _ _ (fun w => by rw [binOp_string_lss]; simp only [toList_mk, Sem.run_pure]) h
  case leq => exact cmp _ _ (fun w => by rw [binOp_string_leq]; simp only [toList_mk, beq, Sem.run_pure]) h
  case gtr => exact cmp _ _ (fun w => by rw [binOp_string_gtr]; simp only [toList_mk, beq, Sem.run_pure]) h
  case geq => exact cmp _ _ (fun w => by rw [binOp_string_geq]; simp only [toList_mk, Sem.run_pure]) h
  all_goals exact h.elim

theorem bnd_sound {d : Int} {x : Option AV} {K : Int → Prop} (h : bnd d x K) : ∃ n, K n ∧ ((x = none ∧ n = d) ∨ ∃ k, x = some (.t (.i k n))) := by
  unfold bnd at h
  split at h
  · exact ⟨d, h, .inl ⟨rfl, rfl⟩⟩
  · exact ⟨_, h, .inr ⟨_, rfl⟩⟩
  · cases h

theorem lay_sli {t e : TypeId} {m : Nat} (h : lay P t = .sli e m) : P.underlying t = some (.slice e) ∧ P.cellsOf e = m ∧ ∃ i, P.info? e = some i := by
  unfold lay at h
  split at h <;> first | (cases h; done) | skip
  all_goals (split at h <;> first | (cases h; done) | skip)
  cases h
  obtain ⟨i, hi⟩ : ∃ i, P.info? e = some i := ⟨_, by assumption⟩
  exact ⟨by assumption, by simp [Program.cellsOf, *], i, hi⟩
theorem lay_str {t : TypeId} (h : lay P t = .str) : P.underlying t = some .string := by
  unfold lay at h
  split at h <;> first | (cases h; done) | (split at h <;> cases h; done) | assumption
theorem lay_int {t : TypeId} {k : IntKind} (h : lay P t = .int k) : P.underlying t = some (.int k) := by
  unfold lay at h
  split at h <;> first | (cases h; done) | (split at h <;> cases h; done) | skip
  rename_i k' hk
  cases h
  exact hk
theorem lay_bool {t : TypeId} (h : lay P t = .bool) : P.underlying t = some .bool := by
  unfold lay at h
  split at h <;> first | (cases h; done) | (split at h <;> cases h; done) | assumption
theorem lay_ptr {t : TypeId} (h : lay P t = .ptr) : ∃ e, P.underlying t = some (.pointer e) := by
  unfold lay at h
  split at h <;> first | (cases h; done) | (split at h <;> cases h; done) | exact ⟨_, by assumption⟩

theorem lay_map {t k e : TypeId} (h : lay P t = .map k e) : P.underlying t = some (.map k e) := by
  unfold lay at h
  split at h <;> first | (cases h; done) | (split at h <;> cases h; done) | skip
  cases h
  assumption

theorem elem_of {t e : TypeId} (h : P.underlying t = some (.slice e)) : P.elem t = e := by simp [Program.elem, h]

/-- every operation that only looks -/
theorem index_addr_sound {o : Oper} {t : TypeId} {x i : Operand} (ho : o.op = .indexAddr t x i)
    (h : vcIndexAddr P t ob (e x) (e i) K) : ∃ r, K r ∧ Yields1 P ob e o r := by
  have hmx : x ∈ o.op.operands := by rw [ho]; simp [Op.operands]
  have hmi : i ∈ o.op.operands := by rw [ho]; simp [Op.operands]
  unfold vcIndexAddr at h
  split at h
  · rename_i ty te m k n hl hi
    obtain ⟨hu, hm, inf, hinf⟩ := lay_sli hl
    have run : ∀ {ρ : Operand → Value} {w : World} {a : Addr} {len cap : Nat}, ρ x = .slice (some a) len cap → ρ i = .int k n → 0 ≤ n → n < len →
        (execOp ρ o).run P w = .ok (.value (.pointer (some (a.add (n.toNat * m))))) w := by
      intro ρ w a len cap h1 h2 h3 h4
      have hr := run_indexAt_slice (P := P) w t a len cap k n (by rw [elem_of hu]; exact hu)
      rw [if_pos ⟨h3, h4⟩, elem_of hu, run_sizeOf w hinf, hm] at hr
      simp only [Result.andThen_ok] at hr
      simp [execOp, ho, h1, h2, hr]
    have closed : ∀ (k' : Kind) (es : List T), e x = k'.look (.sl es) → (0 ≤ n ∧ n < es.length) → (allAt es n.toNat fun y => y.cells.length = m ∧ K (k'.look (.po y 0))) → ∃ r, K r ∧ Yields1 P ob e o r := by
      intro k' es hx ⟨h0, h1⟩ h2
      obtain ⟨y, hy⟩ : ∃ y, es[n.toNat]? = some y := ⟨es[n.toNat]'(by omega), List.getElem?_eq_getElem (by omega)⟩
      obtain ⟨h3, h4⟩ := h2 y hy
      refine ⟨_, h4, ?_⟩
      intro hv S F w ρ hob harg
      have ax := harg x hmx
      have ai := (harg i hmi)
      rw [hx] at ax
      rw [hi] at ai
      have ei := ai.i_inv
      obtain ⟨L, fx, hL⟩ := ax.look_inv
      simp only [footT] at fx
      obtain ⟨A, c, e1, hc, hbig, hor⟩ := fx
      rcases hor with ⟨rfl, _⟩ | ⟨b, off, vs, L', m', e2, f1, f2, e3, f3⟩
      · simp at hy
      · subst e2 e3
        obtain ⟨u, L2, g1, g2, g3⟩ := footTs_get f1 hy
        have hm' : m' = m := by
          have := f2 u (List.mem_of_getElem? g1)
          rw [(footT_cells g2).1, h3] at this
          exact this.symm
        subst hm'
        refine ⟨_, run e1 ei h0 h1, look_arg (L := b :: L2) ?_ fun b' hb' => ?_⟩
        · simp only [footT]
          exact ⟨b, off + n.toNat * m', u, L2, by rw [add_lit]; rfl, g2, rfl, laid_elem f2 f3.1 g1⟩
        · rcases List.mem_cons.1 hb' with rfl | hb'
          · exact hL _ (List.mem_cons_self ..)
          · exact hL _ (List.mem_cons_of_mem _ (g3 b' hb'))
    have opened : ∀ (id : Nat) (es : List T), e x = .sr id → (0 ≤ n ∧ n < es.length) → (∀ (hv : Hv) (S : Nat → Prop) (F : Nat → List Nat) (w : World), Obs ob hv S F w → ∃ te xs, w.ownsRow 0 te m (hv id) es.length xs) → K (.ra id n.toNat m 0) → ∃ r, K r ∧ Yields1 P ob e o r := by
      intro id es hx ⟨h0, h1⟩ hrow h2
      refine ⟨_, h2, ?_⟩
      intro hv S F w ρ hob harg
      have ax := harg x hmx
      have ai := (harg i hmi)
      rw [hx] at ax
      rw [hi] at ai
      have ei := ai.i_inv
      obtain ⟨⟨L, fx, hL⟩, hux⟩ := ax
      simp only [footA] at fx
      obtain ⟨te, xs, q1, q2⟩ := hrow hv S F w hob
      rcases q2 with ⟨_, q2⟩ | ⟨g, cap, cur, q3, q4, q5, q6, q7, q8, q9⟩
      · omega
      · refine ⟨_, run (fx.1.trans q3) ei h0 h1, ⟨[], ?_, by simp⟩, by simpa only [AV.under] using hux⟩
        simp only [footA]
        exact ⟨g, _, _, q3, by rw [add_lit]; simp, trivial⟩
    split at h
    · rename_i es hx
      exact closed .clo es hx h.1 h.2
    · rename_i es hx
      exact closed .bor es hx h.1 h.2
    · rename_i id hx
      split at h
      · rename_i te' m' own es hy
        obtain ⟨rfl, h1, h2⟩ := h
        exact opened id es hx h1 (fun hv S F w hob => by obtain ⟨vs, k1, _⟩ := hob.ob id _ hy; exact ⟨_, _, k1⟩) h2
      · rename_i te' m' ss es i' j' id' hy
        obtain ⟨rfl, h1, h2⟩ := h
        exact opened id es hx h1 (fun hv S F w hob => by obtain ⟨vs, v, y, L0, e1, m1, s1, k1, _⟩ := hob.ob id _ hy; exact ⟨_, _, k1⟩) h2
      · cases h
    · rename_i id a m' l hx
      obtain ⟨rfl, ⟨h0, h1⟩, h2⟩ := h
      refine ⟨_, h2, ?_⟩
      intro hv S F w ρ hob harg
      have ax := harg x hmx
      have ai := (harg i hmi)
      rw [hx] at ax
      rw [hi] at ai
      have ei := ai.i_inv
      obtain ⟨⟨L, fx, hL⟩, hux⟩ := ax
      simp only [footA] at fx
      obtain ⟨fx, _⟩ := fx
      rcases fx with ⟨q, _⟩ | ⟨b, k, c, c', q1, q2, q3, q4⟩
      · omega
      · refine ⟨_, run q2 ei h0 h1, ⟨[], ?_, by simp⟩, by simpa only [AV.under] using hux⟩
        simp only [footA]
        exact ⟨b, _, _, q1, by rw [add_lit, Nat.add_mul]; simp, trivial⟩
    · cases h
  · cases h

theorem field_sound {o : Oper} {s : TypeId} {x : Operand} {f : Nat} (ho : o.op = .fieldAddr s x f) (h : vcField P s f (e x) K) : ∃ r, K r ∧ Yields1 P ob e o r := by
  have hmx : x ∈ o.op.operands := by rw [ho]; simp [Op.operands]
  unfold vcField at h
  split at h
  · rename_i fs m hl
    obtain ⟨fields, hu, hfs, hm, _⟩ := lay_st hl
    split at h
    · rename_i off n hf
      obtain ⟨hn, h⟩ := h
      rw [hfs, List.getElem?_map, Option.map_eq_some_iff] at hf
      obtain ⟨fd, hfd, hpair⟩ := hf
      cases hpair
      obtain ⟨inf, hinf⟩ : ∃ inf, P.info? fd.type = some inf := by
        cases hi : P.info? fd.type with
        | none => simp [Program.cellsOf, hi] at hn
        | some i => exact ⟨i, rfl⟩
      have run : ∀ {ρ : Operand → Value} {w : World} {b oo : Nat}, ρ x = .pointer (some ⟨b, oo, none⟩) → (execOp ρ o).run P w = .ok (.value (.pointer (some ⟨b, oo + fd.offset, none⟩))) w := by
        intro ρ w b oo h1
        have h2 : (fieldPlace ⟨b, oo, none⟩ fd).run P w = .ok ⟨b, oo + fd.offset, none⟩ w := by
          simp only [fieldPlace, Sem.run_bind, run_sizeOf w hinf, Result.andThen_ok, hn, if_false, Sem.run_pure, add_lit]
        have h3 : fields[f]? = some fd := by simpa using hfd
        simp [execOp, ho, h1, Instr.fieldAt, run_underlying hu, h3, Instr.sureAddr, h2]
      split at h
      · rename_i id oo he
        refine ⟨_, h, ?_⟩
        intro hv S F w ρ hob harg
        obtain ⟨⟨L, fx, hL⟩, hux⟩ := harg x hmx
        rw [he] at fx hux
        simp only [footA] at fx
        obtain ⟨b, e1, e2, _⟩ := fx
        exact ⟨_, run e2, ⟨[], by simp only [footA]; exact ⟨b, e1, rfl, trivial⟩, by simp⟩, by simpa only [AV.under] using hux⟩
      · rename_i y oo he
        refine ⟨_, h, ?_⟩
        intro hv S F w ρ hob harg
        have ax := harg x hmx
        rw [he] at ax
        obtain ⟨L, fx, hL⟩ := ax.t_inv
        simp only [footT] at fx
        obtain ⟨b, o', u, L', e1, e2, e3, e4⟩ := fx
        exact ⟨_, run e1, ⟨L, by simp only [footA, footT]; exact ⟨b, o', u, L', by rw [Nat.add_assoc], e2, e3, e4⟩, hL⟩, rfl⟩
      · rename_i y oo he
        refine ⟨_, h, ?_⟩
        intro hv S F w ρ hob harg
        have ax := harg x hmx
        rw [he] at ax
        obtain ⟨L, fx, hL⟩ := ax.bw_inv
        simp only [footT] at fx
        obtain ⟨b, o', u, L', e1, e2, e3, e4⟩ := fx
        exact ⟨_, run e1, ⟨[], by simp only [footA, footT]; exact ⟨⟨L, ⟨b, o', u, L', by rw [Nat.add_assoc], e2, e3, e4⟩, hL⟩, trivial⟩, by simp⟩, rfl⟩
      · rename_i id i m oo he
        refine ⟨_, h, ?_⟩
        intro hv S F w ρ hob harg
        obtain ⟨⟨L, fx, hL⟩, hux⟩ := harg x hmx
        rw [he] at fx hux
        simp only [footA] at fx
        obtain ⟨b, n, c, e1, e2, _⟩ := fx
        exact ⟨_, run e2, ⟨[], by simp only [footA]; exact ⟨b, n, c, e1, by rw [Nat.add_assoc], trivial⟩, by simp⟩, by simpa only [AV.under] using hux⟩
      · cases h
    · cases h
  · cases h

theorem index_sound {o : Oper} {t : TypeId} {x i : Operand} (ho : o.op = .index t x i) (h : vcIndex P t (e x) (e i) K) : ∃ r, K r ∧ Yields1 P ob e o r := by
  have hmx : x ∈ o.op.operands := by rw [ho]; simp [Op.operands]
  have hmi : i ∈ o.op.operands := by rw [ho]; simp [Op.operands]
  unfold vcIndex at h
  split at h
  · rename_i l k n hx hi
    obtain ⟨hl, ⟨h0, h1⟩, h2⟩ := h
    obtain ⟨c, hc⟩ : ∃ c, l[n.toNat]? = some c := ⟨l[n.toNat]'(by omega), List.getElem?_eq_getElem (by omega)⟩
    refine ⟨_, h2 c hc, ?_⟩
    intro hv S F w ρ hob harg
    have ax := harg x hmx
    have ai := harg i hmi
    rw [hx] at ax
    rw [hi] at ai
    have ei := ai.i_inv
    have ex := ax.s_inv.1
    refine ⟨.int .u8 c.toNat, ?_, arg_i _ _⟩
    have hs : (⟨l.toArray⟩ : ByteArray).size = l.length := by simp [ByteArray.size]
    have hr := run_index_string (P := P) w t ⟨l.toArray⟩ k n (lay_str hl)
    rw [dif_pos ⟨h0, by rw [hs]; exact h1⟩] at hr
    have hg : (⟨l.toArray⟩ : ByteArray)[n.toNat]'(by rw [hs]; omega) = c := by
      have : l[n.toNat]'(by omega) = c := by
        rw [List.getElem?_eq_getElem (by omega)] at hc; exact Option.some.inj hc
      simpa [ByteArray.getElem_eq_getElem_data] using this
    rw [hg] at hr
    simp [execOp, ho, ex, ei, hr]
  · cases h

theorem arr1 {α : Type} {xs : Array α} {x : α} (h : xs.toList = [x]) : xs = #[x] := by
  apply Array.ext'; simpa using h

theorem max_sound {o : Oper} {c : Call} {x y : Operand} (ho : o.op = .call c) (hc : c.callee = .builtin .max) (ha : c.args.toList = [x, y]) (h : vcMax (e x) (e y) K) : ∃ r, K r ∧ Yields1 P ob e o r := by
  have ha' : c.args = #[x, y] := by apply Array.ext'; simpa using ha
  have hmx : x ∈ o.op.operands := by rw [ho]; simp [Op.operands, Call.operands, ha']
  have hmy : y ∈ o.op.operands := by rw [ho]; simp [Op.operands, Call.operands, ha']
  unfold vcMax at h
  split at h
  · rename_i k a k' b hx hy
    refine ⟨_, h, ?_⟩
    intro hv S F w ρ hob harg
    have ax := harg x hmx
    have ay := harg y hmy
    rw [hx] at ax
    rw [hy] at ay
    refine ⟨.int k (if b > a then b else a), ?_, arg_i _ _⟩
    have h2 := run_max_int2 (P := P) (w := w) c.argTypes o.type k k' a b
    simp [execOp, ho, resolve, hc, ha', invoke, builtin, ax.i_inv, ay.i_inv, h2]
  · cases h

theorem len_sound {o : Oper} {c : Call} {t : TypeId} {x : Operand} (ho : o.op = .call c) (hc : c.callee = .builtin .len) (ha : c.args.toList = [x]) (ht : c.argTypes.toList = [t])
    {hv : Hv} {S : Nat → Prop} {F : Nat → List Nat} {w : World} {ρ : Operand → Value} (hob : Obs ob hv S F w) (harg : ∀ y ∈ o.op.operands, Arg hv S w ob.length (e y) (ρ y))
    (h : vcLen P t ob (e x) K) : ∃ r, K r ∧ Yields1 P ob e o r := by
  have ha' := arr1 ha
  have ht' := arr1 ht
  have hmx : x ∈ o.op.operands := by rw [ho]; simp [Op.operands, Call.operands, ha']
  have run : ∀ {ρ : Operand → Value} {w : World} {n : Int}, (Builtin.len_ #[t] o.type #[ρ x]).run P w = .ok (.int .i64 n) w → (execOp ρ o).run P w = .ok (.value (.int .i64 n)) w := by
    intro ρ w n h2
    simp [execOp, ho, resolve, hc, ha', ht', invoke, builtin, h2]
  have ax := harg x hmx
  have lenC : ∀ (k : Kind) (te m : Nat) (es : List T), lay P t = .sli te m → e x = k.look (.sl es) → (es.length < Bd.B → K (.t (.i .i64 es.length))) → ∃ r, K r ∧ Yields1 P ob e o r := by
    intro k te m es hl hx h
    rw [hx] at ax
    obtain ⟨L, fx, _⟩ := ax.look_inv
    simp only [footT] at fx
    obtain ⟨A, c', e1, hc', hbig, _⟩ := fx
    refine ⟨_, h hbig, ?_⟩
    intro hv S F w ρ hob harg
    have ax := harg x hmx
    rw [hx] at ax
    obtain ⟨L, fx, _⟩ := ax.look_inv
    simp only [footT] at fx
    obtain ⟨A, c', e1, _⟩ := fx
    obtain ⟨hu, _, _⟩ := lay_sli hl
    have := run_len_slice (P := P) w t o.type A es.length c' (by rw [elem_of hu]; exact hu)
    exact ⟨_, run (by rw [e1]; exact this), arg_i _ _⟩
  have lenO : ∀ (id te m : Nat) (es : List T), lay P t = .sli te m → e x = .sr id → (∀ {hv : Hv} {S : Nat → Prop} {F : Nat → List Nat} {w : World}, Obs ob hv S F w → ∃ te' m' xs, w.ownsRow 0 te' m' (hv id) es.length xs ∧ es.length < Bd.B) → (es.length < Bd.B → K (.t (.i .i64 es.length))) → ∃ r, K r ∧ Yields1 P ob e o r := by
    intro id te m es hl hx hrow h
    obtain ⟨_, _, _, _, hbig⟩ := hrow hob
    refine ⟨_, h hbig, ?_⟩
    intro hv S F w ρ hob harg
    have ax := harg x hmx
    rw [hx] at ax
    obtain ⟨⟨L, fx, _⟩, _⟩ := ax
    simp only [footA] at fx
    obtain ⟨te', m', xs, k1, _⟩ := hrow hob
    obtain ⟨hu, _, _⟩ := lay_sli hl
    obtain ⟨A, cap, hA⟩ : ∃ A cap, hv id = .slice A es.length cap := by
      rcases k1.2 with ⟨q, q2⟩ | ⟨g, cap, cur, q3, _⟩
      · exact ⟨none, 0, by rw [q2]; exact q⟩
      · exact ⟨_, _, q3⟩
    have := run_len_slice (P := P) w t o.type A es.length cap (by rw [elem_of hu]; exact hu)
    exact ⟨_, run (by rw [fx.1, hA]; exact this), arg_i _ _⟩
  have lenM : ∀ (k : Kind) (kt et : Nat) (ks vs : List T), lay P t = .map kt et → e x = k.look (.mp ks vs) → (ks.length < Bd.B → K (.t (.i .i64 ks.length))) → ∃ r, K r ∧ Yields1 P ob e o r := by
    intro k kt et ks vs hl hx h
    rw [hx] at ax
    obtain ⟨L, fx, _⟩ := ax.look_inv
    simp only [footT] at fx
    obtain ⟨r, es, clock, l, L1, L2, e1, e2, ⟨p1, p2, p3, p4, p5⟩, f1, _⟩ := fx
    refine ⟨_, h p5, ?_⟩
    intro hv S F w ρ hob harg
    have ax := harg x hmx
    rw [hx] at ax
    obtain ⟨L, fx, _⟩ := ax.look_inv
    simp only [footT] at fx
    obtain ⟨r, es, clock, l, L1, L2, e1, e2, ⟨p1, p2, p3, p4, p5⟩, f1, _⟩ := fx
    have hlen : es.size = ks.length := by
      have := footTs_length f1
      rw [List.length_map, p1.length_eq, Array.length_toList] at this
      exact this
    exact ⟨_, run (by rw [e1]; simp [Builtin.len_, run_underlying (lay_map hl), getObj_run e2, hlen, goInt]), arg_i _ _⟩
  have lenMO : ∀ (id kt et : Nat) (ks : List T), lay P t = .map kt et → e x = .mr id → (∀ {hv : Hv} {S : Nat → Prop} {F : Nat → List Nat} {w : World}, Obs ob hv S F w → ∃ r es clock l, Ents w (hv id) ks r es clock l) → (ks.length < Bd.B → K (.t (.i .i64 ks.length))) → ∃ r, K r ∧ Yields1 P ob e o r := by
    intro id kt et ks hl hx hrow h
    obtain ⟨_, _, _, _, hE⟩ := hrow hob
    refine ⟨_, h hE.small, ?_⟩
    intro hv S F w ρ hob harg
    have ax := harg x hmx
    rw [hx] at ax
    obtain ⟨⟨L, fx, _⟩, _⟩ := ax
    simp only [footA] at fx
    obtain ⟨r, es, clock, l, k1⟩ := hrow hob
    have hlen : es.size = ks.length := by
      have := footTs_length k1.keys
      rw [List.length_map, k1.perm.length_eq, Array.length_toList] at this
      exact this
    exact ⟨_, run (by rw [fx.1, k1.val]; simp [Builtin.len_, run_underlying (lay_map hl), getObj_run k1.heap, hlen, goInt]), arg_i _ _⟩
  unfold vcLen at h
  split at h
  · rename_i l hl hx
    rw [hx] at ax
    refine ⟨_, h ax.s_inv.2, ?_⟩
    intro hv S F w ρ hob harg
    have ax := harg x hmx
    rw [hx] at ax
    have hs : (⟨l.toArray⟩ : ByteArray).size = l.length := by simp [ByteArray.size]
    have := run_len_string (P := P) w t o.type ⟨l.toArray⟩ (lay_str hl)
    rw [hs] at this
    exact ⟨_, run (by rw [ax.s_inv.1]; exact this), arg_i _ _⟩
  · rename_i te m es hl hx; exact lenC .clo te m es hl hx h
  · rename_i te m es hl hx; exact lenC .bor te m es hl hx h
  · rename_i te m hl hx
    refine ⟨_, h, ?_⟩
    intro hv S F w ρ hob harg
    have ax := harg x hmx
    rw [hx] at ax
    obtain ⟨⟨L, fx, _⟩, _⟩ := ax
    simp only [footA] at fx
    obtain ⟨hu, _, _⟩ := lay_sli hl
    have := run_len_slice (P := P) w t o.type none 0 0 (by rw [elem_of hu]; exact hu)
    exact ⟨_, run (by rw [fx.1]; exact this), arg_i _ _⟩
  · rename_i te m id hl hx
    split at h
    · rename_i te' m' own es hy
      exact lenO id te m es hl hx (fun hob => by obtain ⟨vs, k1, k2, k3, k5⟩ := hob.ob id _ hy; exact ⟨_, _, _, k1, k5.1⟩) h
    · rename_i te' m' ss es i' j' id' hy
      exact lenO id te m es hl hx (fun hob => by obtain ⟨vs, v, y, L0, e1, m1, s1, k1, k2, k3, _⟩ := hob.ob id _ hy; exact ⟨_, _, _, k1, k3.1⟩) h
    · cases h
  · rename_i te m id a m' n hl hx
    refine ⟨_, h, ?_⟩
    intro hv S F w ρ hob harg
    have ax := harg x hmx
    rw [hx] at ax
    obtain ⟨⟨L, fx, _⟩, _⟩ := ax
    simp only [footA] at fx
    obtain ⟨hu, _, _⟩ := lay_sli hl
    have hv' : ∃ A c, ρ x = .slice A n c := by
      rcases fx.1 with ⟨rfl, A, c, q⟩ | ⟨b, k, c, c', _, q, _⟩
      · exact ⟨A, c, q⟩
      · exact ⟨_, _, q⟩
    obtain ⟨A, c, q⟩ := hv'
    have := run_len_slice (P := P) w t o.type A n c (by rw [elem_of hu]; exact hu)
    exact ⟨_, run (by rw [q]; exact this), arg_i _ _⟩
  · rename_i kt et hl hx
    refine ⟨_, h, ?_⟩
    intro hv S F w ρ hob harg
    have ax := harg x hmx
    rw [hx] at ax
    obtain ⟨L, fx, _⟩ := ax.t_inv
    simp only [footT] at fx
    exact ⟨_, run (by rw [fx.1]; simp [Builtin.len_, run_underlying (lay_map hl), goInt]), arg_i _ _⟩
  · rename_i kt et ks vs hl hx; exact lenM .clo kt et ks vs hl hx h
  · rename_i kt et ks vs hl hx; exact lenM .bor kt et ks vs hl hx h
  · rename_i kt et id hl hx
    split at h
    · rename_i kt' vt' k ks vs p hy
      exact lenMO id kt et ks hl hx (fun hob => by obtain ⟨r, es, clock, l, k1, _⟩ := hob.ob id _ hy; exact ⟨_, _, _, _, k1⟩) h
    · rename_i kt' vt' s ks vs i' id' hy
      exact lenMO id kt et ks hl hx (fun hob => by obtain ⟨r, es, clock, l, L, k1, _⟩ := hob.ob id _ hy; exact ⟨_, _, _, _, k1⟩) h
    · cases h
  · cases h

theorem extract_sound {o : Oper} {x : Operand} {i : Nat} (ho : o.op = .extract x i) (h : vcExtract (e x) i K) : ∃ r, K r ∧ Yields1 P ob e o r := by
  have hmx : x ∈ o.op.operands := by rw [ho]; simp [Op.operands]
  unfold vcExtract at h
  split at h
  · rename_i xs hx
    split at h
    · rename_i y hy
      refine ⟨_, h, ?_⟩
      intro hv S F w ρ hob harg
      obtain ⟨⟨L, fx, hL⟩, hux⟩ := harg x hmx
      rw [hx] at fx hux
      simp only [footA] at fx
      obtain ⟨vs, e1, f1⟩ := fx
      obtain ⟨u, L', g1, g2, g3⟩ := footAs_get f1 hy
      simp only [AV.under] at hux
      exact ⟨u, by simp [execOp, ho, e1, Instr.extract, g1], ⟨L', g2, fun b hb => hL b (g3 b hb)⟩, unders_mem hux (List.mem_of_getElem? hy)⟩
    · cases h
  · rename_i xs hx
    split at h
    · rename_i y hy
      refine ⟨_, h, ?_⟩
      intro hv S F w ρ hob harg
      have ax := harg x hmx
      rw [hx] at ax
      obtain ⟨L, fx, hL⟩ := ax.t_inv
      simp only [footT] at fx
      obtain ⟨vs, e1, f1⟩ := fx
      obtain ⟨u, L', g1, g2, g3⟩ := footTs_get f1 hy
      exact ⟨u, by simp [execOp, ho, e1, Instr.extract, g1], ⟨L', by simpa only [footA] using g2, fun b hb => hL b (g3 b hb)⟩, rfl⟩
    · cases h
  · rename_i xs hx
    split at h
    · rename_i y hy
      refine ⟨_, h, ?_⟩
      intro hv S F w ρ hob harg
      have ax := harg x hmx
      rw [hx] at ax
      obtain ⟨L, fx, hL⟩ := ax.bw_inv
      simp only [footT] at fx
      obtain ⟨vs, e1, f1⟩ := fx
      obtain ⟨u, L', g1, g2, g3⟩ := footTs_get f1 hy
      exact ⟨u, by simp [execOp, ho, e1, Instr.extract, g1], look_arg (k := .bor) g2 (fun b hb => hL b (g3 b hb))⟩
    · cases h
  · cases h

theorem un_sound {o : Oper} {op : UnOp} {t : TypeId} {x : Operand} (ho : o.op = .unOp op t x) (h : vcUn op (e x) K) : ∃ r, K r ∧ Yields1 P ob e o r := by
  have hmx : x ∈ o.op.operands := by rw [ho]; simp [Op.operands]
  unfold vcUn at h
  split at h
  · rename_i b hx
    refine ⟨_, h, ?_⟩
    intro hv S F w ρ hob harg
    have ax := harg x hmx
    rw [hx] at ax
    exact ⟨_, by simp [execOp, ho, ax.b_inv, Op.unary], arg_b _⟩
  · rename_i n hx
    refine ⟨_, h.2, ?_⟩
    intro hv S F w ρ hob harg
    have ax := harg x hmx
    rw [hx] at ax
    exact ⟨.int .i64 (0 - n), by simp only [execOp, ho, ax.i_inv, Op.unary, Op.intArith, IntWalk.i64_in _ h.1]; rfl, arg_i _ _⟩
  · cases h

theorem notNil_value {hv : Hv} {S : Nat → Prop} {w : World} {n : Nat} {x : AV} {v : Value} (h : x.notNil = true) (hx : Arg hv S w n x v) : (∃ a, v = .pointer (some a)) ∨ ∃ f vs, v = .func (.func f) #[] vs := by
  obtain ⟨⟨L, fx, _⟩, _⟩ := hx
  unfold AV.notNil at h
  split at h <;> first | (cases h; done) | (simp only [footA, footT] at fx)
  · obtain ⟨b, _, e, _⟩ := fx; exact .inl ⟨_, e⟩
  · obtain ⟨b, n, c, _, e, _⟩ := fx; exact .inl ⟨_, e⟩
  · obtain ⟨vs, e, _⟩ := fx; exact .inr ⟨_, _, e⟩
  · obtain ⟨b, o, u, L', e, _⟩ := fx; exact .inl ⟨_, e⟩
  · obtain ⟨vs, e, _⟩ := fx; exact .inr ⟨_, _, e⟩
  · obtain ⟨⟨_, ⟨b, o, u, L', e, _⟩, _⟩, _⟩ := fx; exact .inl ⟨_, e⟩
  · obtain ⟨⟨_, ⟨vs, e, _⟩, _⟩, _⟩ := fx; exact .inr ⟨_, _, e⟩

theorem eqIn_bool {t : TypeId} (h : P.underlying t = some .bool) (d : Nat) (a b : Bool) (w : World) : (Op.equalIn (d + 1) t (.bool a) (.bool b)).run P w = .ok (a == b) w := by
  simp [Op.equalIn, run_underlying h]
theorem eqIn_nil {t te : TypeId} (h : P.underlying t = some (.pointer te)) (d : Nat) (x : Option Addr) (w : World) : (Op.equalIn (d + 1) t (.pointer x) (.pointer none)).run P w = .ok x.isNone w := by
  cases x <;> simp [Op.equalIn, run_underlying h]

theorem isPtr_value {hv : Hv} {S : Nat → Prop} {w : World} {n : Nat} {x : AV} {v : Value} (h : x.isPtr = true) (hx : Arg hv S w n x v) : ∃ a, v = .pointer (some a) := by
  obtain ⟨⟨L, fx, _⟩, _⟩ := hx
  unfold AV.isPtr at h
  split at h <;> first | (cases h; done) | (simp only [footA, footT] at fx)
  · obtain ⟨b, _, e, _⟩ := fx; exact ⟨_, e⟩
  · obtain ⟨b, n, c, _, e, _⟩ := fx; exact ⟨_, e⟩
  · obtain ⟨b, o, u, L', e, _⟩ := fx; exact ⟨_, e⟩
  · obtain ⟨⟨_, ⟨b, o, u, L', e, _⟩, _⟩, _⟩ := fx; exact ⟨_, e⟩

theorem bin_sound {o : Oper} {op : BinOp} {t yt : TypeId} {x y : Operand} (ho : o.op = .binOp op t x y yt) (h : vcBin P op t (e x) (e y) K) : ∃ r, K r ∧ Yields1 P ob e o r := by
  have hmx : x ∈ o.op.operands := by rw [ho]; simp [Op.operands]
  have hmy : y ∈ o.op.operands := by rw [ho]; simp [Op.operands]
  unfold vcBin at h
  split at h
  · rename_i k a k' b hx hy
    obtain ⟨rfl, h⟩ := h
    obtain ⟨r, v, h1, h2, h3⟩ := bin_int_run (P := P) h t
    refine ⟨r, h1, ?_⟩
    intro hv S F w ρ hob harg
    have ax := harg x hmx
    have ay := harg y hmy
    rw [hx] at ax
    rw [hy] at ay
    refine ⟨v, ?_, h3 _ _ _ _⟩
    simp only [execOp, ho, ax.i_inv, ay.i_inv]
    cases op <;> simp [eqGuard, h2]
  · rename_i a b hx hy
    obtain ⟨r, v, h1, h2, h3⟩ := bin_str_run (P := P) h t
    refine ⟨r, h1, ?_⟩
    intro hv S F w ρ hob harg
    have ax := harg x hmx
    have ay := harg y hmy
    rw [hx] at ax
    rw [hy] at ay
    refine ⟨v, ?_, h3 _ _ _ _⟩
    have := h2 w ax.s_inv.2 ay.s_inv.2
    simp only [execOp, ho, ax.s_inv.1, ay.s_inv.1]
    cases op <;> simp [eqGuard, this]
  · rename_i a b hx hy
    obtain ⟨hl, h⟩ := h
    have key : ∀ w : World, (Op.equal t (.bool a) (.bool b)).run P w = .ok (decide (a = b)) w := by
      intro w
      exact eqIn_bool (lay_bool hl) 9999 a b w
    cases op <;> simp only at h <;> first | (exact h.elim) | skip
    · refine ⟨_, h, ?_⟩
      intro hv S F w ρ hob harg
      have ax := harg x hmx
      have ay := harg y hmy
      rw [hx] at ax
      rw [hy] at ay
      exact ⟨_, by simp [execOp, ho, ax.b_inv, ay.b_inv, eqGuard, binOp, key], arg_b _⟩
    · refine ⟨_, h, ?_⟩
      intro hv S F w ρ hob harg
      have ax := harg x hmx
      have ay := harg y hmy
      rw [hx] at ax
      rw [hy] at ay
      refine ⟨.bool (decide (a ≠ b)), ?_, arg_b _⟩
      simp [execOp, ho, ax.b_inv, ay.b_inv, eqGuard, binOp, key]
  · rename_i hy
    obtain ⟨hl, h⟩ := h
    obtain ⟨te, hu⟩ := lay_ptr hl
    have key : ∀ (w : World) (x : Option Addr), (Op.equal t (.pointer x) (.pointer none)).run P w = .ok x.isNone w := fun w x => eqIn_nil hu 9999 x w
    have main : ∀ (c d : Bool), (op = .eql ∧ d = c ∨ op = .neq ∧ d = !c) → ((e x = .t .np ∧ c = true) ∨ ((e x).isPtr = true ∧ c = false)) → K (.t (.b d)) → ∃ r, K r ∧ Yields1 P ob e o r := by
      intro c d hop hx hK
      refine ⟨_, hK, ?_⟩
      intro hv S F w ρ hob harg
      have ax := harg x hmx
      have ay := harg y hmy
      rw [hy] at ay
      obtain ⟨L, fy, _⟩ := ay.t_inv
      simp only [footT] at fy
      obtain ⟨z, hz, hzc⟩ : ∃ z, ρ x = .pointer z ∧ z.isNone = c := by
        rcases hx with ⟨hx, rfl⟩ | ⟨hx, rfl⟩
        · rw [hx] at ax
          obtain ⟨L, fx, _⟩ := ax.t_inv
          simp only [footT] at fx
          exact ⟨none, fx.1, rfl⟩
        · obtain ⟨b, hb⟩ := isPtr_value hx ax
          exact ⟨some b, hb, rfl⟩
      refine ⟨.bool d, ?_, arg_b _⟩
      rcases hop with ⟨rfl, rfl⟩ | ⟨rfl, rfl⟩
      · simp [execOp, ho, hz, fy.1, eqGuard, binOp, key, hzc]
      · simp [execOp, ho, hz, fy.1, eqGuard, binOp, key, hzc]
    cases op <;> simp only at h <;> first | (exact h.elim) | skip
    · rcases h with ⟨h1, h2⟩ | ⟨h1, h2⟩
      · exact main true true (.inl ⟨rfl, rfl⟩) (.inl ⟨h1, rfl⟩) h2
      · exact main false false (.inl ⟨rfl, rfl⟩) (.inr ⟨h1, rfl⟩) h2
    · rcases h with ⟨h1, h2⟩ | ⟨h1, h2⟩
      · exact main true false (.inr ⟨rfl, rfl⟩) (.inl ⟨h1, rfl⟩) h2
      · exact main false true (.inr ⟨rfl, rfl⟩) (.inr ⟨h1, rfl⟩) h2
  · cases h

theorem bnds_run {lo hi : Option Operand} {d : Int} {a b : Int} {ρ : Operand → Value} {hv : Hv} {S : Nat → Prop} {w : World} {n : Nat}
    (ha : lo.map e = none ∧ a = 0 ∨ ∃ k, lo.map e = some (.t (.i k a))) (hb : hi.map e = none ∧ b = d ∨ ∃ k, hi.map e = some (.t (.i k b)))
    (hlo : ∀ x, lo = some x → Arg hv S w n (e x) (ρ x)) (hhi : ∀ x, hi = some x → Arg hv S w n (e x) (ρ x)) :
    ((lo.map ρ = none ∧ a = 0) ∨ ∃ k, lo.map ρ = some (.int k a)) ∧ ((hi.map ρ = none ∧ b = d) ∨ ∃ k, hi.map ρ = some (.int k b)) := by
  constructor
  · rcases ha with ⟨h1, h2⟩ | ⟨k, h1⟩
    · cases lo <;> simp at h1; exact .inl ⟨rfl, h2⟩
    · cases lo <;> simp at h1
      rename_i x
      have := hlo x rfl
      rw [h1] at this
      exact .inr ⟨k, by simp [this.i_inv]⟩
  · rcases hb with ⟨h1, h2⟩ | ⟨k, h1⟩
    · cases hi <;> simp at h1; exact .inl ⟨rfl, h2⟩
    · cases hi <;> simp at h1
      rename_i x
      have := hhi x rfl
      rw [h1] at this
      exact .inr ⟨k, by simp [this.i_inv]⟩

theorem bounds_run {len cap : Nat} {a b : Int} {lo hi : Option Value} (isS : Bool) (w : World) (h0 : 0 ≤ a) (h1 : a ≤ b) (h2 : b ≤ len) (hc : len ≤ cap)
    (ha : (lo = none ∧ a = 0) ∨ ∃ k, lo = some (.int k a)) (hb : (hi = none ∧ b = len) ∨ ∃ k, hi = some (.int k b)) :
    (Instr.sliceBounds isS len cap lo hi none).run P w = .ok (a.toNat, b.toNat, cap) w := by
  have eb : ((b.toNat : Nat) : Int) = b := Int.toNat_of_nonneg (by omega)
  have hbc : b ≤ (cap : Int) := by omega
  have h0b : 0 ≤ b := by omega
  rcases ha with ⟨rfl, rfl⟩ | ⟨k, rfl⟩ <;> rcases hb with ⟨rfl, rfl⟩ | ⟨k', rfl⟩
  · simp [Instr.sliceBounds]
  · simp [Instr.sliceBounds, run_sliceBound, h0b, hbc]
  · simp [Instr.sliceBounds, run_sliceBound, h0, h1]
  · simp [Instr.sliceBounds, run_sliceBound, h0b, hbc, eb, h0, h1]

theorem list_take_drop_data (l : List UInt8) (a b : Nat) : (⟨l.toArray⟩ : ByteArray).extract a b = ⟨((l.take b).drop a).toArray⟩ := by
  apply ByteArray.ext
  simp only [ByteArray.data_extract]
  apply Array.ext'
  simp only [Array.toList_extract, List.extract_eq_take_drop]
  rw [List.drop_take]

theorem cellsL_drop {m : Nat} : ∀ (l : List Value), (∀ v ∈ l, v.cells.size = m) → ∀ k, cellsL (l.drop k) = (cellsL l).drop (k * m)
  | [], _, k => by simp [cellsL]
  | x :: l, hl, 0 => by simp
  | x :: l, hl, k + 1 => by
    have hx1 : x.cells.toList.length = m := by simpa using hl x (List.mem_cons_self ..)
    rw [List.drop_succ_cons, cellsL_drop l (fun v hv => hl v (List.mem_cons_of_mem _ hv)) k]
    simp only [cellsL, List.flatMap_cons]
    rw [List.drop_append, hx1, List.drop_eq_nil_of_le (as := x.cells.toList) (by rw [hx1, Nat.succ_mul]; omega), List.nil_append]
    congr 1
    rw [Nat.succ_mul]; omega
theorem cellsL_take {m : Nat} : ∀ (l : List Value), (∀ v ∈ l, v.cells.size = m) → ∀ k, cellsL (l.take k) = (cellsL l).take (k * m)
  | [], _, k => by simp [cellsL]
  | x :: l, hl, 0 => by simp [cellsL]
  | x :: l, hl, k + 1 => by
    have hx1 : x.cells.toList.length = m := by simpa using hl x (List.mem_cons_self ..)
    have ih' := cellsL_take l (fun v hv => hl v (List.mem_cons_of_mem _ hv)) k
    simp only [cellsL, List.take_succ_cons, List.flatMap_cons] at ih' ⊢
    rw [List.take_append, hx1, List.take_of_length_le (l := x.cells.toList) (by rw [hx1, Nat.succ_mul]; omega), ih']
    congr 2
    rw [Nat.succ_mul]; omega

theorem slice_sound {o : Oper} {t : TypeId} {x : Operand} {lo hi : Option Operand} (ho : o.op = .slice t x lo hi none) (h : vcSlice P t (e x) (lo.map e) (hi.map e) K) : ∃ r, K r ∧ Yields1 P ob e o r := by
  have hmx : x ∈ o.op.operands := by rw [ho]; simp [Op.operands]
  have hml : ∀ y, lo = some y → y ∈ o.op.operands := by rintro y rfl; rw [ho]; simp [Op.operands]
  have hmh : ∀ y, hi = some y → y ∈ o.op.operands := by rintro y rfl; rw [ho]; simp [Op.operands]
  have closed : ∀ (k : Kind) (te m : Nat) (es : List T), lay P t = .sli te m → e x = k.look (.sl es) → ((∀ y ∈ es, y.cells.length = m) ∧ bnd 0 (lo.map e) fun a => bnd es.length (hi.map e) fun b => (0 ≤ a ∧ a ≤ b ∧ b ≤ es.length) ∧ K (k.look (.sl ((es.take b.toNat).drop a.toNat)))) → ∃ r, K r ∧ Yields1 P ob e o r := by
    intro k te m es hl hx ⟨hall, h⟩
    obtain ⟨a, h, ha⟩ := bnd_sound h
    obtain ⟨b, ⟨⟨h0, h1, h2⟩, h3⟩, hb⟩ := bnd_sound h
    obtain ⟨hu, hm, inf, hinf⟩ := lay_sli hl
    refine ⟨_, h3, ?_⟩
    intro hv S F w ρ hob harg
    have ax := harg x hmx
    rw [hx] at ax
    obtain ⟨ga, gb⟩ := bnds_run ha hb (fun y hy => harg y (hml y hy)) (fun y hy => harg y (hmh y hy))
    obtain ⟨L, fx, hL⟩ := ax.look_inv
    simp only [footT] at fx
    obtain ⟨A, c, e1, hc, hbig, hor⟩ := fx
    have hr := bounds_run (P := P) (len := es.length) (cap := c) true w h0 h1 h2 hc ga gb
    have hlen : ((es.take b.toNat).drop a.toNat).length = b.toNat - a.toNat := by simp only [List.length_drop, List.length_take]; omega
    refine ⟨sliced A a.toNat b.toNat c m, ?_, ?_⟩
    · have hr2 := run_slice_any (P := P) (w := w) t A es.length c (by rw [elem_of hu]; exact hu) (lo.map ρ) (hi.map ρ) none
      rw [hr] at hr2
      simp only [Result.andThen_ok, elem_of hu, run_sizeOf w hinf, hm] at hr2
      simp only [execOp, ho, Sem.run_bind, Option.map_none, run_sliceAt_slice (h := (show P.underlying t = some (.slice (P.elem t)) by rw [elem_of hu]; exact hu)), e1, hr2, Result.andThen_ok, Sem.run_pure]
    · rcases hor with ⟨rfl, rfl⟩ | ⟨b', off, vs, L', m', e2, f1, f2, e3, f3⟩
      · refine look_arg (L := []) ?_ (by simp)
        simp only [footT, List.take_nil, List.drop_nil, List.length_nil, sliced]
        exact ⟨_, _, by congr 1; simp at h2; omega, by omega, by omega, .inl ⟨trivial, trivial⟩⟩
      · subst e2 e3
        by_cases he : (es.take b.toNat).drop a.toNat = []
        · refine look_arg (L := []) ?_ (by simp)
          rw [he] at hlen ⊢
          simp only [footT, sliced, List.length_nil] at hlen ⊢
          exact ⟨_, _, by rw [← hlen], by omega, by omega, .inl ⟨trivial, trivial⟩⟩
        · have hab : a.toNat < b.toNat := by
            rcases Nat.lt_or_ge a.toNat b.toNat with h' | h'
            · exact h'
            · exact absurd (List.eq_nil_of_length_eq_zero (by omega)) he
          have hm' : m' = m := by
            cases hes : es with
            | nil => rw [hes] at he; simp at he
            | cons y ys =>
              rw [hes] at f1 hall
              obtain ⟨u, L2, g1, g2, _⟩ := footTs_get f1 (i := 0) rfl
              have q1 := f2 u (List.mem_of_getElem? g1)
              rw [(footT_cells g2).1, hall y (List.mem_cons_self ..)] at q1
              exact q1.symm
          subst hm'
          obtain ⟨L1, g1, g2⟩ := footTs_take f1 b.toNat
          obtain ⟨L2, g3, g4⟩ := footTs_drop g1 a.toNat
          refine look_arg (L := b' :: L2) ?_ fun z hz => ?_
          · simp only [footT, sliced, hlen]
            refine ⟨_, _, rfl, by omega, by omega, .inr ⟨b', off + a.toNat * m', _, L2, m', ?_, g3, fun v hv => f2 v (List.mem_of_mem_take (List.mem_of_mem_drop hv)), rfl, ?_, ?_⟩⟩
            · rw [if_neg (by omega)]; simp [add_lit]
            · intro j v hj
              have hall' : ∀ v ∈ vs, v.cells.size = m' := f2
              rw [cellsL_drop _ (fun v hv => hall' v (List.mem_of_mem_take hv)), cellsL_take _ hall', List.getElem?_drop, List.getElem?_take] at hj
              split at hj
              · have := f3.1 _ v hj
                rwa [← Nat.add_assoc] at this
              · cases hj
            · rw [cellsL_drop _ (fun v hv => f2 v (List.mem_of_mem_take hv)), cellsL_take _ f2]
              exact fun u hu => f3.2 u (List.mem_of_mem_take (List.mem_of_mem_drop hu))
          · rcases List.mem_cons.1 hz with rfl | hz
            · exact hL _ (List.mem_cons_self ..)
            · exact hL _ (List.mem_cons_of_mem _ (g2 _ (g4 _ hz)))
  unfold vcSlice at h
  split at h
  · rename_i l hl hx
    obtain ⟨a, h, ha⟩ := bnd_sound h
    obtain ⟨b, ⟨⟨h0, h1, h2⟩, h3⟩, hb⟩ := bnd_sound h
    refine ⟨_, h3, ?_⟩
    intro hv S F w ρ hob harg
    have ax := harg x hmx
    rw [hx] at ax
    obtain ⟨ga, gb⟩ := bnds_run ha hb (fun y hy => harg y (hml y hy)) (fun y hy => harg y (hmh y hy))
    have hs : (⟨l.toArray⟩ : ByteArray).size = l.length := by simp [ByteArray.size]
    refine ⟨.string ⟨((l.take b.toNat).drop a.toNat).toArray⟩, ?_, .of (by simp only [footT]; exact ⟨trivial, trivial, by have := ax.s_inv.2; simp only [List.length_drop, List.length_take]; omega⟩)⟩
    have hr := bounds_run (P := P) (len := l.length) (cap := l.length) false w h0 h1 h2 (Nat.le_refl _) ga gb
    simp only [execOp, ho, Sem.run_bind, run_sliceAt_string (h := lay_str hl), ax.s_inv.1, Option.map_none]
    simp only [Instr.slice, Sem.run_bind, run_underlying (lay_str hl), hs, Option.isSome_none, Bool.false_eq_true, if_false, hr, Sem.run_pure, Result.andThen]
    rw [list_take_drop_data l _ _]
  · rename_i te m es hl hx; exact closed .clo te m es hl hx h
  · rename_i te m es hl hx; exact closed .bor te m es hl hx h
  · rename_i te m hl hx
    obtain ⟨a, h, ha⟩ := bnd_sound h
    obtain ⟨b, ⟨⟨rfl, rfl⟩, h3⟩, hb⟩ := bnd_sound h
    obtain ⟨hu, hm, inf, hinf⟩ := lay_sli hl
    refine ⟨_, h3, ?_⟩
    intro hv S F w ρ hob harg
    have ax := harg x hmx
    rw [hx] at ax
    obtain ⟨ga, gb⟩ := bnds_run ha hb (fun y hy => harg y (hml y hy)) (fun y hy => harg y (hmh y hy))
    obtain ⟨⟨L, fx, hL⟩, _⟩ := ax
    simp only [footA] at fx
    have hr := bounds_run (P := P) (len := 0) (cap := 0) true w (Int.le_refl 0) (Int.le_refl 0) (Int.le_refl 0) (Nat.le_refl _) ga gb
    refine ⟨sliced none 0 0 0 m, ?_, ⟨[], by simp only [footA]; exact ⟨rfl, trivial⟩, by simp⟩, rfl⟩
    have hr2 := run_slice_any (P := P) (w := w) t none 0 0 (by rw [elem_of hu]; exact hu) (lo.map ρ) (hi.map ρ) none
    rw [hr] at hr2
    simp only [Result.andThen_ok, elem_of hu, run_sizeOf w hinf, hm] at hr2
    simp only [execOp, ho, Sem.run_bind, Option.map_none, run_sliceAt_slice (h := (show P.underlying t = some (.slice (P.elem t)) by rw [elem_of hu]; exact hu)), fx.1, hr2, Result.andThen_ok, Sem.run_pure]
    rfl
  · cases h

theorem slv_sound {o : Oper} {t : TypeId} {x : Operand} {lo hi : Option Operand} (ho : o.op = .slice t x lo hi none) (h : vcSlv P t ob (e x) (lo.map e) (hi.map e) K) : ∃ r, K r ∧ Yields1 P ob e o r := by
  have hmx : x ∈ o.op.operands := by rw [ho]; simp [Op.operands]
  have hml : ∀ y, lo = some y → y ∈ o.op.operands := by rintro y rfl; rw [ho]; simp [Op.operands]
  have hmh : ∀ y, hi = some y → y ∈ o.op.operands := by rintro y rfl; rw [ho]; simp [Op.operands]
  have run : ∀ {te m n : Nat} {a b : Int} {A : Option Addr} {c : Nat} {ρ : Operand → Value} {w : World}, lay P t = .sli te m → ρ x = .slice A n c → n ≤ c → 0 ≤ a → a ≤ b → b ≤ n →
      ((lo.map ρ = none ∧ a = 0) ∨ ∃ k, lo.map ρ = some (.int k a)) → ((hi.map ρ = none ∧ b = n) ∨ ∃ k, hi.map ρ = some (.int k b)) → (execOp ρ o).run P w = .ok (.value (sliced A a.toNat b.toNat c m)) w := by
    intro te m n a b A c ρ w hl hx hc h0 h1 h2 ga gb
    obtain ⟨hu, hm, inf, hinf⟩ := lay_sli hl
    have hr := bounds_run (P := P) (len := n) (cap := c) true w h0 h1 h2 hc ga gb
    have hr2 := run_slice_any (P := P) (w := w) t A n c (by rw [elem_of hu]; exact hu) (lo.map ρ) (hi.map ρ) none
    rw [hr] at hr2
    simp only [Result.andThen_ok, elem_of hu, run_sizeOf w hinf, hm] at hr2
    simp only [execOp, ho, Sem.run_bind, Option.map_none, run_sliceAt_slice (h := (show P.underlying t = some (.slice (P.elem t)) by rw [elem_of hu]; exact hu)), hx, hr2, Result.andThen_ok, Sem.run_pure]
  unfold vcSlv at h
  split at h
  · rename_i id hx
    split at h
    · rename_i te m te' m' kd es hl hy
      obtain ⟨rfl, h⟩ := h
      obtain ⟨a, h, ha⟩ := bnd_sound h
      obtain ⟨b, ⟨⟨h0, h1, h2⟩, h3⟩, hb⟩ := bnd_sound h
      refine ⟨_, h3, ?_⟩
      intro hv S F w ρ hob harg
      have ax := harg x hmx
      rw [hx] at ax
      obtain ⟨ga, gb⟩ := bnds_run ha hb (fun y hy => harg y (hml y hy)) (fun y hy => harg y (hmh y hy))
      obtain ⟨⟨L, fx, hL⟩, hux⟩ := ax
      simp only [footA] at fx
      obtain ⟨vs, k1, _⟩ := hob.ob id _ hy
      rcases k1.2 with ⟨q, q2⟩ | ⟨g, cap, cur, q3, q4, q5, q6, _⟩
      · refine ⟨_, run hl (fx.1.trans q) (Nat.zero_le _) h0 h1 (by omega) ga (by rcases gb with ⟨g1, g2⟩ | g1; exact .inl ⟨g1, by omega⟩; exact .inr g1), ⟨[], ?_, by simp⟩, by simpa only [AV.under] using hux⟩
        simp only [footA, sliced]
        exact ⟨.inl ⟨by omega, _, _, by congr 1; omega⟩, trivial⟩
      · refine ⟨_, run hl (fx.1.trans q3) q6 h0 h1 h2 ga gb, ⟨[], ?_, by simp⟩, by simpa only [AV.under] using hux⟩
        simp only [footA, sliced]
        by_cases he : b.toNat - a.toNat = 0
        · exact ⟨.inl ⟨he, _, _, by rw [he]⟩, trivial⟩
        · refine ⟨.inr ⟨g, _, _, cap - a.toNat, q3, ?_, by omega, by omega⟩, trivial⟩
          rw [if_neg (by omega)]
          simp [add_lit]
    · cases h
  · rename_i id a0 m0 n hx
    split at h
    · rename_i te m hl
      obtain ⟨rfl, h⟩ := h
      obtain ⟨a, h, ha⟩ := bnd_sound h
      obtain ⟨b, ⟨⟨h0, h1, h2⟩, h3⟩, hb⟩ := bnd_sound h
      refine ⟨_, h3, ?_⟩
      intro hv S F w ρ hob harg
      have ax := harg x hmx
      rw [hx] at ax
      obtain ⟨ga, gb⟩ := bnds_run ha hb (fun y hy => harg y (hml y hy)) (fun y hy => harg y (hmh y hy))
      obtain ⟨⟨L, fx, hL⟩, hux⟩ := ax
      simp only [footA] at fx
      rcases fx.1 with ⟨rfl, A, c, q⟩ | ⟨b', k, c, c', q1, q2, q3, q4⟩
      · refine ⟨_, run hl q (Nat.zero_le _) h0 h1 h2 ga gb, ⟨[], ?_, by simp⟩, by simpa only [AV.under] using hux⟩
        simp only [footA, sliced]
        exact ⟨.inl ⟨by omega, _, _, by congr 1; omega⟩, trivial⟩
      · refine ⟨_, run hl q2 q4 h0 h1 h2 ga gb, ⟨[], ?_, by simp⟩, by simpa only [AV.under] using hux⟩
        simp only [footA, sliced]
        by_cases he : b.toNat - a.toNat = 0
        · exact ⟨.inl ⟨he, _, _, by rw [he]⟩, trivial⟩
        · refine ⟨.inr ⟨b', _, _, c' - a.toNat, q1, ?_, by omega, by omega⟩, trivial⟩
          rw [if_neg (by omega)]
          simp [add_lit, Nat.add_mul]
    · cases h
  · exact slice_sound ho h

/-- an operation that only looks -/
theorem bytes_vals {w : World} : ∀ {es : List T} {l : List UInt8} {vs : List Value} {L : List Nat}, bytesOf es = some l → footTs w es vs L → ∃ xs : List Int, vs = xs.map (Value.int .u8) ∧ l = xs.map fun n => UInt8.ofNat n.toNat
  | [], l, vs, L, h, hf => by
    simp only [footTs] at hf
    simp only [bytesOf, Option.some.injEq] at h
    exact ⟨[], by simp [hf.1], by simp [← h]⟩
  | x :: es, l, vs, L, h, hf => by
    simp only [footTs] at hf
    obtain ⟨v, vs', L1, L2, rfl, rfl, h1, h2⟩ := hf
    cases x <;> try (simp [bytesOf] at h; done)
    rename_i k n
    cases k <;> try (simp [bytesOf] at h; done)
    simp only [bytesOf] at h
    split at h
    · rename_i l' hl'
      obtain ⟨xs, rfl, rfl⟩ := bytes_vals hl' h2
      simp only [footT] at h1
      cases h
      exact ⟨n :: xs, by simp [h1.1], rfl⟩
    · cases h

theorem cellsL_ints (xs : List Int) : cellsL (xs.map (Value.int .u8)) = xs.map (Value.int .u8) := by
  induction xs with
  | nil => rfl
  | cons x xs ih =>
    simp only [cellsL, List.map_cons, List.flatMap_cons] at ih ⊢
    rw [ih]
    rfl

theorem convert_bytes {src dst e : TypeId} {w : World} {m : Nat} (hs : lay P src = .sli e m) (he : lay P e = .int .u8) (hd : lay P dst = .str) {A : Option Addr} {n c : Nat} {xs : List Int} (hn : xs.length = n)
    (hA : xs = [] ∨ ∃ b off, A = some ⟨b, off, none⟩ ∧ laid w b off (xs.map (Value.int .u8))) : (convert src dst (.slice A n c)).run P w = .ok (.string ⟨(xs.map fun n => UInt8.ofNat n.toNat).toArray⟩) w := by
  obtain ⟨hu, _, _⟩ := lay_sli hs
  have hue := lay_int he
  have hud := lay_str hd
  cases A with
  | none =>
    have : xs = [] := by
      rcases hA with h | ⟨b, off, h, _⟩
      · exact h
      · cases h
    subst this
    exact run_convert_bytes_nil w src e hu hue n c dst hud
  | some ad =>
    rcases hA with h | ⟨b, off, h, hl⟩
    · subst h
      subst hn
      obtain ⟨b, off, sp⟩ := ad
      rw [run_convert_bytes_string w src dst e _ _ c hu hue hud]
      have : (loadCells ⟨b, off, sp⟩ 0).run P w = .ok (([] : List Int).map (Value.int .u8)).toArray w := by simp [loadCells, loadCellsFrom]
      exact run_bytesToString w _ 0 c [] this
    · cases h
      exact run_convert_bytes_arg w src e hu hue b off n c xs hn (fun i hi => by
        have := hl i (.int .u8 (xs.getD i 0)) (by rw [List.getElem?_map, List.getElem?_eq_getElem (by omega)]; simp [List.getD, List.getElem?_eq_getElem (show i < xs.length by omega)])
        exact this) dst hud

theorem convert_sound {o : Oper} {src dst : TypeId} {x : Operand} (ho : o.op = .convert src dst x) (h : vcConvert P src dst ob (e x) K) : ∃ r, K r ∧ Yields1 P ob e o r := by
  have hm : x ∈ o.op.operands := by rw [ho]; simp [Op.operands]
  have str : ∀ {l : List UInt8}, (∀ {hv : Hv} {S : Nat → Prop} {F : Nat → List Nat} {w : World} {ρ : Operand → Value}, Obs ob hv S F w → (∀ y ∈ o.op.operands, Arg hv S w ob.length (e y) (ρ y)) → (convert src dst (ρ x)).run P w = .ok (.string ⟨l.toArray⟩) w ∧ l.length < Bd.B) → Yields1 P ob e o (.t (.s l)) := by
    intro l hh hv S F w ρ hob harg
    obtain ⟨h1, h2⟩ := hh hob harg
    exact ⟨_, by simp only [execOp, ho, Sem.run_bind, h1, Result.andThen_ok]; rfl, .of (by simp [footT, h2])⟩
  unfold vcConvert at h
  split at h
  · rename_i k hd
    split at h
    · rename_i k' n hx
      obtain ⟨hs, hud, h⟩ := h
      refine ⟨_, h, ?_⟩
      intro hv S F w ρ hob harg
      have ax := harg x hm
      rw [hx] at ax
      refine ⟨.int k (k.wrap n), ?_, arg_i _ _⟩
      obtain ⟨d, hsd⟩ : ∃ d, P.underlying src = some d := by
        cases hq : P.underlying src with
        | some d => exact ⟨d, rfl⟩
        | none => exfalso; apply hs; unfold lay; rw [hq]
      simp [execOp, ho, ax.i_inv, convert, run_underlying hsd, run_underlying hud, Conv.intToInt]
    · cases h
  · rename_i hd
    split at h
    · rename_i l hs hx
      refine ⟨_, h, str fun hob harg => ?_⟩
      have ax := harg x hm
      rw [hx] at ax
      rw [ax.s_inv.1]
      exact ⟨by simp [convert, run_underlying (lay_str hs), run_underlying (lay_str hd)], ax.s_inv.2⟩
    · rename_i te m es hs hx
      obtain ⟨rfl, he, h⟩ := h
      split at h
      · rename_i l hl
        refine ⟨_, h, str fun hob harg => ?_⟩
        have ax := harg x hm
        rw [hx] at ax
        obtain ⟨L, fx, _⟩ := ax.t_inv
        simp only [footT] at fx
        obtain ⟨A, c, e1, _, hB, hA⟩ := fx
        rw [e1]
        rcases hA with ⟨rfl, _⟩ | ⟨b, off, vs, L', m', rfl, f1, _, _, f2, _⟩
        · simp only [bytesOf, Option.some.injEq] at hl
          subst hl
          exact ⟨convert_bytes hs he hd (xs := []) rfl (.inl rfl), hB⟩
        · obtain ⟨xs, rfl, rfl⟩ := bytes_vals hl f1
          have hlen := footTs_length f1
          rw [List.length_map] at hlen
          rw [cellsL_ints] at f2
          exact ⟨convert_bytes hs he hd hlen (.inr ⟨b, off, rfl, f2⟩), by rw [List.length_map]; omega⟩
      · cases h
    · rename_i te m id hs hx
      obtain ⟨rfl, he, h⟩ := h
      split at h
      · rename_i e' m' k es hid
        split at h
        · rename_i l hl
          refine ⟨_, h, str fun hob harg => ?_⟩
          have ax := harg x hm
          rw [hx] at ax
          obtain ⟨⟨Lx, fx, _⟩, _⟩ := ax
          simp only [footA] at fx
          obtain ⟨vs, hrow, hels, hsz, hB, _⟩ := hob.ob id _ hid
          obtain ⟨L, hf⟩ : ∃ L, footTs _ es vs L := by
            cases k with
            | own s => obtain ⟨L, a1, _⟩ := hels; obtain ⟨L', b1, _⟩ := ownEs_foot _ _ a1; exact ⟨L', b1⟩
            | clo => obtain ⟨L, a1, _⟩ := hels; exact ⟨L, a1⟩
            | bor => obtain ⟨L, a1, _⟩ := hels; exact ⟨L, a1⟩
          have hlen := footTs_length hf
          obtain ⟨xs, rfl, rfl⟩ := bytes_vals hl hf
          rw [List.length_map] at hlen
          rw [cellsL_ints] at hrow
          rw [fx.1]
          refine ⟨?_, by rw [List.length_map]; omega⟩
          rcases hrow.2 with ⟨q, q2⟩ | ⟨g, cap, cur, q, _, hg, hnc, hcm, hcs, ht⟩
          · rw [q]
            exact convert_bytes hs he hd (by omega) (.inl (List.eq_nil_of_length_eq_zero (by omega)))
          · rw [q]
            refine convert_bytes hs he hd hlen (.inr ⟨g, 0, rfl, fun j v hj => ?_⟩)
            have := hrow.cells (g := g) (by rw [q]; rfl) j v hj
            rw [add_lit] at this
            exact this
        · cases h
      · cases h
    · cases h
  · cases h

theorem vcPure_sound {o : Oper} {hv : Hv} {S : Nat → Prop} {F : Nat → List Nat} {w : World} {ρ : Operand → Value} (hob : Obs ob hv S F w)
    (harg : ∀ y ∈ o.op.operands, Arg hv S w ob.length (e y) (ρ y)) (h : vcPure P ob e o.op K) : ∃ r, K r ∧ Yields1 P ob e o r := by
  unfold vcPure at h
  split at h
  · rename_i x ho
    refine ⟨_, h, ?_⟩
    intro hv S F w ρ hob harg
    exact ⟨ρ x, by simp [execOp, ho], harg x (by rw [ho]; simp [Op.operands])⟩
  · rename_i x ho
    refine ⟨_, h, ?_⟩
    intro hv S F w ρ hob harg
    exact ⟨ρ x, by simp [execOp, ho], harg x (by rw [ho]; simp [Op.operands])⟩
  · rename_i c x y ho
    split at h
    · rename_i b hc
      refine ⟨_, h, ?_⟩
      intro hv S F w ρ hob harg
      have ac := harg c (by rw [ho]; simp [Op.operands])
      rw [hc] at ac
      refine ⟨if b = true then ρ x else ρ y, by cases b <;> simp [execOp, ho, ac.b_inv, asBool], ?_⟩
      cases b
      · exact harg y (by rw [ho]; simp [Op.operands])
      · exact harg x (by rw [ho]; simp [Op.operands])
    · cases h
  · rename_i t x ho; exact load_sound ho h
  · rename_i x ho
    obtain ⟨h1, h2⟩ := h
    refine ⟨_, h2, ?_⟩
    intro hv S F w ρ hob harg
    have ax := harg x (by rw [ho]; simp [Op.operands])
    refine ⟨ρ x, ?_, ax⟩
    rcases notNil_value h1 ax with ⟨a, ha⟩ | ⟨f, vs, ha⟩ <;> simp [execOp, ho, ha]
  · rename_i op t x y yt ho; exact bin_sound ho h
  · rename_i op t x ho; exact un_sound ho h
  · rename_i s x f ho; exact field_sound ho h
  · rename_i t x i ho; exact index_addr_sound ho h
  · rename_i t x i ho; exact index_sound ho h
  · rename_i t x lo hi ho; exact slv_sound ho h
  · rename_i x i ho; exact extract_sound ho h
  · rename_i src dst x ho; exact convert_sound ho h
  · rename_i c ho
    split at h
    · rename_i x t hc ha ht; exact len_sound ho hc ha ht hob harg h
    · rename_i x y _ hc ha; exact max_sound ho hc ha h
    · cases h
  · cases h

end

end Go.Proofs.Ythhgcklidfilfaa.BX
