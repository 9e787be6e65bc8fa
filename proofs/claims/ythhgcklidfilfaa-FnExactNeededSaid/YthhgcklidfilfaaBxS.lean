/-
  A frame for proofs over whole functions, second make, nineteenth part: how the obligations are worked out, step by step.
-/
import Derived.Test.YthhgcklidfilfaaBxR
namespace Go.Proofs.Ythhgcklidfilfaa.BX
set_option linter.unusedSectionVars false
set_option linter.unusedSimpArgs false
set_option linter.unusedVariables false
open Go Go.RowKit
variable [Bd]

section
variable {x : Bool} {k : IntKind} {n : Int} {l : List UInt8} {cs cs2 : List T} {y : T} {n' : Nat} {t : TypeId} {f : FuncId}
theorem c_ag : T.cells (.ag cs) = cs := rfl
theorem i_ag : T.isAg (.ag cs) = true := rfl
theorem n_ag : T.one (.ag cs) = false := rfl
theorem n_tp : T.one (.tp cs) = false := rfl
theorem c_b : T.cells (.b x) = [.b x] := rfl
theorem i_b : T.isAg (.b x) = false := rfl
theorem n_b : T.one (.b x) = true := rfl
theorem c_i : T.cells (.i k n) = [.i k n] := rfl
theorem i_i : T.isAg (.i k n) = false := rfl
theorem n_i : T.one (.i k n) = true := rfl
theorem c_s : T.cells (.s l) = [.s l] := rfl
theorem i_s : T.isAg (.s l) = false := rfl
theorem n_s : T.one (.s l) = true := rfl
theorem c_tp : T.cells (.tp cs) = [.tp cs] := rfl
theorem i_tp : T.isAg (.tp cs) = false := rfl
theorem c_sl : T.cells (.sl cs) = [.sl cs] := rfl
theorem i_sl : T.isAg (.sl cs) = false := rfl
theorem n_sl : T.one (.sl cs) = true := rfl
theorem c_po : T.cells (.po y n') = [.po y n'] := rfl
theorem i_po : T.isAg (.po y n') = false := rfl
theorem n_po : T.one (.po y n') = true := rfl
theorem c_np : T.cells (.np) = [.np] := rfl
theorem i_np : T.isAg (.np) = false := rfl
theorem n_np : T.one (.np) = true := rfl
theorem c_nm : T.cells (.nm) = [.nm] := rfl
theorem i_nm : T.isAg (.nm) = false := rfl
theorem n_nm : T.one (.nm) = true := rfl
theorem c_ni : T.cells (.ni) = [.ni] := rfl
theorem i_ni : T.isAg (.ni) = false := rfl
theorem n_ni : T.one (.ni) = true := rfl
theorem c_ifc : T.cells (.ifc t y) = [.ifc t y] := rfl
theorem i_ifc : T.isAg (.ifc t y) = false := rfl
theorem n_ifc : T.one (.ifc t y) = true := rfl
theorem c_mp : T.cells (.mp cs cs2) = [.mp cs cs2] := rfl
theorem i_mp : T.isAg (.mp cs cs2) = false := rfl
theorem n_mp : T.one (.mp cs cs2) = true := rfl
theorem c_fn : T.cells (.fn f cs) = [.fn f cs] := rfl
theorem i_fn : T.isAg (.fn f cs) = false := rfl
theorem n_fn : T.one (.fn f cs) = true := rfl
end
section
variable {cs : List AV} {z : T} {id i m off : Nat} {f : FuncId}
theorem ca_ag : AV.cells (.ag cs) = cs := rfl
theorem ca_t : AV.cells (.t z) = z.cells.map .t := rfl
theorem ia_ag : AV.isAg (.ag cs) = true := rfl
theorem ia_t : AV.isAg (.t z) = z.isAg := by cases z <;> rfl
theorem na_ag : AV.one (.ag cs) = false := rfl
theorem na_t : AV.one (.t z) = z.one := rfl
theorem ca_un : AV.cells (.un) = [.un] := rfl
theorem ia_un : AV.isAg (.un) = false := rfl
theorem na_un : AV.one (.un) = false := rfl
theorem ca_ud : AV.cells (.ud) = [.ud] := rfl
theorem ia_ud : AV.isAg (.ud) = false := rfl
theorem na_ud : AV.one (.ud) = false := rfl
theorem ca_ns : AV.cells (.ns) = [.ns] := rfl
theorem ia_ns : AV.isAg (.ns) = false := rfl
theorem na_ns : AV.one (.ns) = true := rfl
theorem ca_tp : AV.cells (.tp cs) = [.tp cs] := rfl
theorem ia_tp : AV.isAg (.tp cs) = false := rfl
theorem na_tp : AV.one (.tp cs) = false := rfl
theorem ca_rf : AV.cells (.rf id off) = [.rf id off] := rfl
theorem ia_rf : AV.isAg (.rf id off) = false := rfl
theorem na_rf : AV.one (.rf id off) = true := rfl
theorem ca_ra : AV.cells (.ra id i m off) = [.ra id i m off] := rfl
theorem ia_ra : AV.isAg (.ra id i m off) = false := rfl
theorem na_ra : AV.one (.ra id i m off) = true := rfl
theorem ca_sv : AV.cells (.sv id i m off) = [.sv id i m off] := rfl
theorem ia_sv : AV.isAg (.sv id i m off) = false := rfl
theorem na_sv : AV.one (.sv id i m off) = true := rfl
theorem ca_sr : AV.cells (.sr id) = [.sr id] := rfl
theorem ia_sr : AV.isAg (.sr id) = false := rfl
theorem na_sr : AV.one (.sr id) = true := rfl
theorem ca_mr : AV.cells (.mr id) = [.mr id] := rfl
theorem ia_mr : AV.isAg (.mr id) = false := rfl
theorem na_mr : AV.one (.mr id) = true := rfl
theorem ca_bw : AV.cells (.bw z) = z.cells.map AV.bwc := rfl
theorem ia_bw : AV.isAg (.bw z) = z.isAg := by cases z <;> rfl
theorem na_bw : AV.one (.bw z) = z.one := rfl
theorem ca_it : AV.cells (.it id) = [.it id] := rfl
theorem ia_it : AV.isAg (.it id) = false := rfl
theorem na_it : AV.one (.it id) = true := rfl
theorem ca_fn : AV.cells (.fn f cs) = [.fn f cs] := rfl
theorem ia_fn : AV.isAg (.fn f cs) = false := rfl
theorem na_fn : AV.one (.fn f cs) = true := rfl
end

def dstAt : List Oper → Nat → Option Nat
  | [], _ => none
  | o :: _, 0 => o.dst
  | _ :: os, j + 1 => dstAt os j
theorem dstAt_eq : ∀ (l : List Oper) (j : Nat), ((l.toArray)[j]?).bind (·.dst) = dstAt l j
  | [], j => by simp [dstAt]
  | o :: os, 0 => by simp [dstAt]
  | o :: os, j + 1 => by
    have := dstAt_eq os j
    simp only [List.getElem?_toArray, List.getElem?_cons_succ, dstAt] at this ⊢
    exact this
@[congr] theorem dstAt_congr {l : List Oper} {j j' : Nat} (h : tick j = j') : dstAt l j = dstAt l j' := by unfold tick at h; rw [h]
theorem d_zero {o : Oper} {os : List Oper} : dstAt (o :: os) 0 = o.dst := rfl
theorem d_succ {o : Oper} {os : List Oper} {j : Nat} : dstAt (o :: os) (j + 1) = dstAt os j := rfl


section
variable {P : Program}
-- what is still to come is left alone till its turn comes
@[congr] theorem allAt_congr {α : Type} {l l' : List α} {n n' : Nat} {K : α → Prop} (h : tick l = l') (h2 : n = n') : allAt l n K = allAt l' n' K := by unfold tick at h; rw [h, h2]
theorem at_map {α β : Type} {f : α → β} {l : List α} {n : Nat} {K : β → Prop} : allAt (l.map f) n K = ∀ a, l[n]? = some a → K (f a) := by
  simp only [allAt, List.getElem?_map, Option.map_eq_some_iff]
  exact propext ⟨fun h a ha => h _ ⟨a, ha, rfl⟩, fun h y ⟨a, ha, e⟩ => e ▸ h a ha⟩
theorem at_setE {α : Type} {l : List α} {i : Nat} {x : α} {K : α → Prop} : allAt (l.set i x) i K = (i < l.length → K x) := by
  refine propext ⟨fun h hi => h x (by rw [List.getElem?_set_self hi]), fun h y hy => ?_⟩
  have hi := (List.getElem?_eq_some_iff.1 hy).1
  rw [List.length_set] at hi
  rw [List.getElem?_set_self hi] at hy
  cases hy
  exact h hi
@[congr] theorem WL_congr {N : Nat} {c : Code} {k : Kont} {σ σ' : St} (h : tick σ = σ') : WL P N c k σ = WL P N c k σ' := by unfold tick at h; rw [h]
@[congr] theorem W_congr {N : Nat} {D : DD} {c : Code} {k : Kont} {σ σ' : St} (h : tick σ = σ') : W P N D c k σ = W P N D c k σ' := by unfold tick at h; rw [h]
@[congr] theorem vcCond_congr {x x' : AV} {A B : Prop} (h : tick x = x') : vcCond x A B = vcCond x' A B := by unfold tick at h; rw [h]
@[congr] theorem vcOps_congr {all : Array Oper} {os : List Oper} {σ σ' : St} {K : St → Prop} (h : tick σ = σ') : vcOps P all os σ K = vcOps P all os σ' K := by unfold tick at h; rw [h]
@[congr] theorem vcDr_congr {all : Array Oper} {m m' : Nat} {os : List Oper} {σ σ' : St} {K : St → Prop} (h : tick σ = σ') (h2 : m = m') : vcDr P all m os σ K = vcDr P all m' os σ' K := by unfold tick at h; rw [h, h2]
@[congr] theorem vcOp_congr {op : Op} {σ σ' : St} {K : AV → List Ob → Prop} (h : tick σ = σ') : vcOp P σ op K = vcOp P σ' op K := by unfold tick at h; rw [h]
@[congr] theorem vcLook_congr {op : Op} {ob ob' : List Ob} {e : Operand → AV} {K : AV → Prop} (h : tick ob = ob') : vcLook P ob e op K = vcLook P ob' e op K := by unfold tick at h; rw [h]
@[congr] theorem vcLen_congr {t : TypeId} {x x' : AV} {ob ob' : List Ob} {K : AV → Prop} (h0 : tick x = x') (h1 : ob = ob') : vcLen P t ob x K = vcLen P t ob' x' K := by unfold tick at h0; rw [h0, h1]
@[congr] theorem vcLoad_congr {t : TypeId} {x x' : AV} {ob ob' : List Ob} {K : AV → Prop} (h0 : tick x = x') (h1 : ob = ob') : vcLoad P t x ob K = vcLoad P t x' ob' K := by unfold tick at h0; rw [h0, h1]
@[congr] theorem pickA_congr {t : TypeId} {x x' : AV} {o o' : Nat} {K : AV → Prop} (h0 : tick x = x') (h1 : o = o') : pickA P t x o K = pickA P t x' o' K := by unfold tick at h0; rw [h0, h1]
@[congr] theorem pickT_congr {t : TypeId} {x x' : T} {o o' : Nat} {K : T → Prop} (h0 : tick x = x') (h1 : o = o') : pickT P t x o K = pickT P t x' o' K := by unfold tick at h0; rw [h0, h1]
@[congr] theorem vcBin_congr {b : BinOp} {t : TypeId} {x x' : AV} {y y' : AV} {K : AV → Prop} (h0 : tick x = x') (h1 : y = y') : vcBin P b t x y K = vcBin P b t x' y' K := by unfold tick at h0; rw [h0, h1]
@[congr] theorem vcInt_congr {b : BinOp} {k : IntKind} {x x' : Int} {y y' : Int} {K : AV → Prop} (h0 : tick x = x') (h1 : y = y') : vcInt b k x y K = vcInt b k x' y' K := by unfold tick at h0; rw [h0, h1]
@[congr] theorem vcStr_congr {b : BinOp} {x x' : List UInt8} {y y' : List UInt8} {K : AV → Prop} (h0 : tick x = x') (h1 : y = y') : vcStr b x y K = vcStr b x' y' K := by unfold tick at h0; rw [h0, h1]
@[congr] theorem vcUn_congr {b : UnOp} {x x' : AV} {K : AV → Prop} (h0 : tick x = x') : vcUn b x K = vcUn b x' K := by unfold tick at h0; rw [h0]
@[congr] theorem vcField_congr {s : TypeId} {f : Nat} {x x' : AV} {K : AV → Prop} (h0 : tick x = x') : vcField P s f x K = vcField P s f x' K := by unfold tick at h0; rw [h0]
@[congr] theorem vcIndexAddr_congr {t : TypeId} {x x' : AV} {y y' : AV} {ob ob' : List Ob} {K : AV → Prop} (h0 : tick x = x') (h1 : y = y') (h2 : ob = ob') : vcIndexAddr P t ob x y K = vcIndexAddr P t ob' x' y' K := by unfold tick at h0; rw [h0, h1, h2]
@[congr] theorem vcIndex_congr {t : TypeId} {x x' : AV} {y y' : AV} {K : AV → Prop} (h0 : tick x = x') (h1 : y = y') : vcIndex P t x y K = vcIndex P t x' y' K := by unfold tick at h0; rw [h0, h1]
@[congr] theorem vcExtract_congr {i : Nat} {x x' : AV} {K : AV → Prop} (h0 : tick x = x') : vcExtract x i K = vcExtract x' i K := by unfold tick at h0; rw [h0]
@[congr] theorem vcSlice_congr {t : TypeId} {x x' : AV} {a a' : Option AV} {b b' : Option AV} {K : AV → Prop} (h0 : tick x = x') (h1 : a = a') (h2 : b = b') : vcSlice P t x a b K = vcSlice P t x' a' b' K := by unfold tick at h0; rw [h0, h1, h2]
@[congr] theorem bnd_congr  {d d' : Int} {x x' : Option AV} {K : Int → Prop} (h0 : tick d = d') (h1 : x = x') : bnd d x K = bnd d' x' K := by unfold tick at h0; rw [h0, h1]
@[congr] theorem vcStore_congr {t : TypeId} {p p' : AV} {x x' : AV} {ob ob' : List Ob} {K : AV → List Ob → Prop} (h0 : tick p = p') (h1 : x = x') (h2 : ob = ob') : vcStore P t p x ob K = vcStore P t p' x' ob' K := by unfold tick at h0; rw [h0, h1, h2]
@[congr] theorem vcBuild_congr {t : TypeId} {x x' : List (Nat × AV)} {K : AV → Prop} (h0 : tick x = x') : vcBuild P t x K = vcBuild P t x' K := by unfold tick at h0; rw [h0]
@[congr] theorem vcBuildSlice_congr {t : TypeId} {n : Nat} {ks ks' : List Nat} {xs xs' : List AV} {ob ob' : List Ob} {K : AV → List Ob → Prop} (h0 : tick ks = ks') (h1 : xs = xs') (h2 : ob = ob') : vcBuildSlice P t n ks xs ob K = vcBuildSlice P t n ks' xs' ob' K := by unfold tick at h0; rw [h0, h1, h2]
@[congr] theorem vcAppend_congr {t : TypeId} {s s' : AV} {x x' : AV} {ob ob' : List Ob} {K : AV → List Ob → Prop} (h0 : tick s = s') (h1 : x = x') (h2 : ob = ob') : vcAppend P t s x ob K = vcAppend P t s' x' ob' K := by unfold tick at h0; rw [h0, h1, h2]
@[congr] theorem srcOf_congr {m i : Nat} {x x' : AV} {k k' : Kind} {ob ob' : List Ob} {K : List T → List Nat → Kind → Prop} (h0 : tick x = x') (h1 : k = k') (h2 : ob = ob') : srcOf m ob i k x K = srcOf m ob' i k' x' K := by unfold tick at h0; rw [h0, h1, h2]
@[congr] theorem vcMake_congr {t : TypeId} {s s' : AV} {x x' : AV} {ob ob' : List Ob} {K : AV → List Ob → Prop} (h0 : tick s = s') (h1 : x = x') (h2 : ob = ob') : vcMake P t s x ob K = vcMake P t s' x' ob' K := by unfold tick at h0; rw [h0, h1, h2]
@[congr] theorem vcCallO_congr  {f f' : AV} {xs xs' : List AV} {tm tm' : List (Nat × AV)} {ob ob' : List Ob} {K : AV → List Ob → Prop} (h0 : tick f = f') (h1 : xs = xs') (h2 : tm = tm') (h3 : ob = ob') : vcCallO P f xs tm ob K = vcCallO P f' xs' tm' ob' K := by unfold tick at h0; rw [h0, h1, h2, h3]
@[congr] theorem vcCall_congr  {f f' : AV} {xs xs' : List AV} {ob ob' : List Ob} {K : AV → Prop} (h0 : tick f = f') (h1 : xs = xs') (h2 : ob = ob') : vcCall P f xs ob K = vcCall P f' xs' ob' K := by unfold tick at h0; rw [h0, h1, h2]
@[congr] theorem vcLookup_congr {t : TypeId} {ok : Bool} {x x' : AV} {k k' : AV} {ob ob' : List Ob} {K : AV → Prop} (h0 : tick x = x') (h1 : k = k') (h2 : ob = ob') : vcLookup P t x k ok ob K = vcLookup P t x' k' ok ob' K := by unfold tick at h0; rw [h0, h1, h2]
end

section
variable {P : Program} {ob : List Ob} {t s : TypeId} {KA : AV → Prop} {KL : AV → List Ob → Prop} {x : AV}

def onSome {α : Type} (o : Option α) (K : α → Prop) : Prop := match o with | some a => K a | none => False
def onOpt {α : Type} (o : Option α) (K : α → Prop) (B : Prop) : Prop := match o with | some a => K a | none => B
def onBox (o : Option Ob) (K : AV → Prop) : Prop := match o with | some (.box y) => K y | _ => False
def onArr (o : Option Ob) (K : TypeId → Nat → Kind → List T → Prop) : Prop := match o with | some (.arr e m own es) => K e m own es | _ => False
def onSli (l : Lay) (K : TypeId → Nat → Prop) : Prop := match l with | .sli e m => K e m | _ => False
def onMapL (l : Lay) (K : TypeId → TypeId → Prop) : Prop := match l with | .map k e => K k e | _ => False
def onStr (l : Lay) (K : Prop) : Prop := match l with | .str => K | _ => False
def onSt (l : Lay) (K : List (Nat × Nat) → Nat → Prop) : Prop := match l with | .st fs m => K fs m | _ => False
def onLay (l : Lay) (A : Nat → Prop) (B : Prop) : Prop := match l with | .st _ m => A m | l => l.sc = true ∧ B
def onPair {α β : Type} (o : Option (α × β)) (K : α → β → Prop) : Prop := match o with | some (a, b) => K a b | none => False
def onTri {α β γ : Type} (o : Option (α × β × γ)) (K : α → β → γ → Prop) : Prop := match o with | some (a, b, c) => K a b c | none => False
@[congr] theorem onSome_congr {α : Type} {o o' : Option α} {K : α → Prop} (h : tick o = o') : onSome o K = onSome o' K := by unfold tick at h; rw [h]
@[congr] theorem onOpt_congr {α : Type} {o o' : Option α} {K : α → Prop} {B : Prop} (h : tick o = o') : onOpt o K B = onOpt o' K B := by unfold tick at h; rw [h]
@[congr] theorem onBox_congr {o o' : Option Ob} {K : AV → Prop} (h : tick o = o') : onBox o K = onBox o' K := by unfold tick at h; rw [h]
@[congr] theorem onArr_congr {o o' : Option Ob} {K : TypeId → Nat → Kind → List T → Prop} (h : tick o = o') : onArr o K = onArr o' K := by unfold tick at h; rw [h]
@[congr] theorem onSli_congr {o o' : Lay} {K : TypeId → Nat → Prop} (h : tick o = o') : onSli o K = onSli o' K := by unfold tick at h; rw [h]
@[congr] theorem onMapL_congr {o o' : Lay} {K : TypeId → TypeId → Prop} (h : tick o = o') : onMapL o K = onMapL o' K := by unfold tick at h; rw [h]
@[congr] theorem onStr_congr {o o' : Lay} {K : Prop} (h : tick o = o') : onStr o K = onStr o' K := by unfold tick at h; rw [h]
@[congr] theorem onSt_congr {o o' : Lay} {K : List (Nat × Nat) → Nat → Prop} (h : tick o = o') : onSt o K = onSt o' K := by unfold tick at h; rw [h]
@[congr] theorem onLay_congr {o o' : Lay} {K : Nat → Prop} {B : Prop} (h : tick o = o') : onLay o K B = onLay o' K B := by unfold tick at h; rw [h]
@[congr] theorem onPair_congr {α β : Type} {o o' : Option (α × β)} {K : α → β → Prop} (h : tick o = o') : onPair o K = onPair o' K := by unfold tick at h; rw [h]
@[congr] theorem onTri_congr {α β γ : Type} {o o' : Option (α × β × γ)} {K : α → β → γ → Prop} (h : tick o = o') : onTri o K = onTri o' K := by unfold tick at h; rw [h]
theorem s_some {α : Type} {a : α} {K : α → Prop} : onSome (some a) K = K a := rfl
theorem s_opt {α : Type} {a : α} {K : α → Prop} {B : Prop} : onOpt (some a) K B = K a := rfl
theorem s_optn {α : Type} {K : α → Prop} {B : Prop} : onOpt none K B = B := rfl
theorem s_box {y : AV} {K : AV → Prop} : onBox (some (.box y)) K = K y := rfl
theorem s_arr {e : TypeId} {m : Nat} {own : Kind} {es : List T} {K : TypeId → Nat → Kind → List T → Prop} : onArr (some (.arr e m own es)) K = K e m own es := rfl
theorem s_sli {e : TypeId} {m : Nat} {K : TypeId → Nat → Prop} : onSli (.sli e m) K = K e m := rfl
theorem s_mapl {k e : TypeId} {K : TypeId → TypeId → Prop} : onMapL (.map k e) K = K k e := rfl
theorem s_str {K : Prop} : onStr .str K = K := rfl
theorem s_st {fs : List (Nat × Nat)} {m : Nat} {K : List (Nat × Nat) → Nat → Prop} : onSt (.st fs m) K = K fs m := rfl
theorem s_pair {α β : Type} {a : α} {b : β} {K : α → β → Prop} : onPair (some (a, b)) K = K a b := rfl
theorem s_tri {α β γ : Type} {a : α} {b : β} {c : γ} {K : α → β → γ → Prop} : onTri (some (a, b, c)) K = K a b c := rfl
theorem s_lst {fs : List (Nat × Nat)} {m : Nat} {A : Nat → Prop} {B : Prop} : onLay (.st fs m) A B = A m := rfl
theorem s_lint {i : IntKind} {A : Nat → Prop} {B : Prop} : onLay (.int i) A B = B := by simp [onLay, Lay.sc]
theorem s_lbool {A : Nat → Prop} {B : Prop} : onLay .bool A B = B := by simp [onLay, Lay.sc]
theorem s_lstr {A : Nat → Prop} {B : Prop} : onLay .str A B = B := by simp [onLay, Lay.sc]
theorem s_lptr {A : Nat → Prop} {B : Prop} : onLay .ptr A B = B := by simp [onLay, Lay.sc]
theorem s_lsli {e : TypeId} {m : Nat} {A : Nat → Prop} {B : Prop} : onLay (.sli e m) A B = B := by simp [onLay, Lay.sc]
theorem s_lmap {e m : TypeId} {A : Nat → Prop} {B : Prop} : onLay (.map e m) A B = B := by simp [onLay, Lay.sc]
theorem s_lifc {A : Nat → Prop} {B : Prop} : onLay .ifc A B = B := by simp [onLay, Lay.sc]
theorem s_lfnc {A : Nat → Prop} {B : Prop} : onLay .fnc A B = B := by simp [onLay, Lay.sc]

theorem v_loadrf {id off : Nat} : vcLoad P t (.rf id off) ob KA = onBox ob[id]? fun y => y ≠ .un ∧ pickA P t y off KA := by
  unfold vcLoad onBox; rfl
theorem v_loadt {y : T} {off : Nat} : vcLoad P t (.t (.po y off)) ob KA = pickT P t y off fun r => KA (.t r) := rfl
theorem v_loadb {y : T} {off : Nat} : vcLoad P t (.bw (.po y off)) ob KA = pickT P t y off fun r => KA (.bwc r) := rfl
def ldOb (P : Program) (t : TypeId) (m i off : Nat) (K : AV → Prop) : Ob → Prop
  | .arr _ m' k es => m = m' ∧ i < es.length ∧ allAt es i fun y => pickT P t y off fun r => K (k.look r)
  | .hole _ m' _ _ i' j id' => (m = m' ∧ i = i' ∧ off = j ∧ (lay P t).sc = true) ∧ K (.sr id')
  | _ => False
theorem v_loadra {id i m off : Nat} : vcLoad P t (.ra id i m off) ob KA = onSome ob[id]? (ldOb P t m i off KA) := by
  unfold vcLoad onSome
  dsimp only
  cases ob[id]? with
  | none => rfl
  | some o => cases o <;> rfl
theorem v_lda {e : TypeId} {m m' i off : Nat} {k : Kind} {es : List T} : ldOb P t m i off KA (.arr e m' k es) = (m = m' ∧ i < es.length ∧ allAt es i fun y => pickT P t y off fun r => KA (k.look r)) := rfl
theorem v_ldh {e : TypeId} {m m' i i' j off id' : Nat} {ss : Sh} {es : List T} : ldOb P t m i off KA (.hole e m' ss es i' j id') = ((m = m' ∧ i = i' ∧ off = j ∧ (lay P t).sc = true) ∧ KA (.sr id')) := rfl
theorem v_lkc {y : T} : Kind.look .clo y = .t y := rfl
theorem v_lkb {y : T} : Kind.look .bor y = .bwc y := rfl
theorem v_lko {y : T} {sh : Sh} : Kind.look (.own sh) y = .bwc y := rfl
/-- a load, in a region whose order is the text's -/
def vcLd (P : Program) (t : TypeId) (x : AV) (tm : List (Nat × AV)) (ob : List Ob) (K : AV → List Ob → Prop) : Prop := (vcLoad P t x ob fun r => K r ob) ∨ vcOpen P t x tm ob K
@[congr] theorem vcLd_congr {x x' : AV} {tm tm' : List (Nat × AV)} {ob' : List Ob} (h : tick x = x') (h2 : tm = tm') (h3 : ob = ob') : vcLd P t x tm ob KL = vcLd P t x' tm' ob' KL := by unfold tick at h; rw [h, h2, h3]
section
variable {tm : List (Nat × AV)}
theorem v_ldrf {id off : Nat} : vcLd P t (.rf id off) tm ob KL = vcLoad P t (.rf id off) ob fun r => KL r ob := or_false _
theorem v_ldt {y : T} : vcLd P t (.t y) tm ob KL = vcLoad P t (.t y) ob fun r => KL r ob := or_false _
theorem v_ldb {y : T} : vcLd P t (.bw y) tm ob KL = vcLoad P t (.bw y) ob fun r => KL r ob := or_false _
def ldo (P : Program) (t : TypeId) (id i m off : Nat) (tm : List (Nat × AV)) (ob : List Ob) (K : AV → List Ob → Prop) : Ob → Prop
  | .arr e m' (.own s) es => ldOb P t m i off (fun r => K r ob) (.arr e m' (.own s) es) ∨ opn P t id i m off tm ob K e m' s es
  | o => ldOb P t m i off (fun r => K r ob) o
@[congr] theorem ldo_congr {id i i' m off off' : Nat} {tm tm' : List (Nat × AV)} {ob' : List Ob} {o o' : Ob} (h : tick o = o') (h1 : i = i') (h2 : off = off') (h3 : tm = tm') (h4 : ob = ob') : ldo P t id i m off tm ob KL o = ldo P t id i' m off' tm' ob' KL o' := by unfold tick at h; rw [h, h1, h2, h3, h4]
@[congr] theorem ldOb_congr {i i' m off off' : Nat} {o o' : Ob} (h : tick o = o') (h1 : i = i') (h2 : off = off') : ldOb P t m i off KA o = ldOb P t m i' off' KA o' := by unfold tick at h; rw [h, h1, h2]
theorem v_ldra {id i m off : Nat} : vcLd P t (.ra id i m off) tm ob KL = onSome ob[id]? (ldo P t id i m off tm ob KL) := by
  unfold vcLd vcOpen
  rw [v_loadra]
  dsimp only
  unfold onSome
  generalize ob[id]? = o
  cases o with
  | none => exact or_false _
  | some o =>
    cases o with
    | arr e m' k es => cases k <;> first | rfl | exact or_false _
    | _ => exact or_false _
theorem plain_cells {s : Sh} (h : s.plain = true) {j : Nat} {e : TypeId} {m : Nat} {s' : Sh} : s.cells[j]? ≠ some (.sl e m s') := by
  intro hh
  cases s with
  | leaf => cases j <;> simp [Sh.cells] at hh
  | sl => cases h
  | ag ss =>
    simp only [Sh.cells] at hh
    have h : Sh.plains ss = true := h
    have : ∀ (ss : List Sh) (j : Nat), Sh.plains ss = true → ss[j]? ≠ some (.sl e m s') := by
      intro ss
      induction ss with
      | nil => intro j _ hh; simp at hh
      | cons x xs ih =>
        intro j h hh
        cases x with
        | leaf =>
          simp only [Sh.plains] at h
          cases j with
          | zero => simp at hh
          | succ j => exact ih j h (by simpa using hh)
        | _ => simp [Sh.plains] at h
    exact this ss j h hh
/-- the two ways: it is only looked at, or it is taken out -/
def ways (p : Bool) (A B : Prop) : Prop := if p = true then A else A ∨ B
@[congr] theorem ways_congr {p p' : Bool} {A B : Prop} (h : tick p = p') : ways p A B = ways p' A B := by unfold tick at h; rw [h]
theorem wy_t {A B : Prop} : ways true A B = A := rfl
theorem wy_f {A B : Prop} : ways false A B = (A ∨ B) := rfl
theorem v_ldoo {id i m off : Nat} {e : TypeId} {m' : Nat} {s : Sh} {es : List T} : ldo P t id i m off tm ob KL (.arr e m' (.own s) es) = ways s.plain (ldOb P t m i off (fun r => KL r ob) (.arr e m' (.own s) es)) (opn P t id i m off tm ob KL e m' s es) := by
  unfold ways
  split
  · rename_i h
    refine propext ⟨fun hh => hh.elim (fun h => h) fun hh => ?_, .inl⟩
    unfold opn onShSl at hh
    split at hh
    · rename_i hc; exact absurd hc (plain_cells h)
    · cases hh
  · rfl
theorem v_ldoc {id i m off : Nat} {e : TypeId} {m' : Nat} {es : List T} : ldo P t id i m off tm ob KL (.arr e m' .clo es) = ldOb P t m i off (fun r => KL r ob) (.arr e m' .clo es) := rfl
theorem v_ldob {id i m off : Nat} {e : TypeId} {m' : Nat} {es : List T} : ldo P t id i m off tm ob KL (.arr e m' .bor es) = ldOb P t m i off (fun r => KL r ob) (.arr e m' .bor es) := rfl
theorem v_ldoh {id i m off : Nat} {e : TypeId} {m' : Nat} {s : Sh} {es : List T} {i' j n : Nat} : ldo P t id i m off tm ob KL (.hole e m' s es i' j n) = ldOb P t m i off (fun r => KL r ob) (.hole e m' s es i' j n) := rfl
@[congr] theorem onSl_congr {o o' : Option T} {K : List T → Prop} (h : tick o = o') : onSl o K = onSl o' K := by unfold tick at h; rw [h]
@[congr] theorem onShSl_congr {o o' : Option Sh} {K : TypeId → Nat → Sh → Prop} (h : tick o = o') : onShSl o K = onShSl o' K := by unfold tick at h; rw [h]
theorem s_onsl {xs : List T} {K : List T → Prop} : onSl (some (.sl xs)) K = K xs := rfl
theorem s_onsh {e : TypeId} {m : Nat} {s : Sh} {K : TypeId → Nat → Sh → Prop} : onShSl (some (.sl e m s)) K = K e m s := rfl
theorem v_opn {id i m off : Nat} {e : TypeId} {m' : Nat} {s : Sh} {es : List T} : opn P t id i m off tm ob KL e m' s es = onShSl s.cells[off]? fun e1 m1 s1 => m = m' ∧ i < es.length ∧ (lay P t).sc = true ∧ tmNoBw tm = true ∧ obsNoBw ob = true ∧ allAt es i fun y => onSl y.cells[off]? fun xs => KL (.sr ob.length) (ob.set id (.hole e m' s es i off ob.length) ++ [.arr e1 m1 (.own s1) xs]) := rfl
theorem sc_ag {ss : List Sh} : Sh.cells (.ag ss) = ss := rfl
theorem sc_sl {e : TypeId} {m : Nat} {s : Sh} : Sh.cells (.sl e m s) = [.sl e m s] := rfl
end
theorem v_pickA {off : Nat} : pickA P t x off KA = onLay (lay P t) (fun m => if off = 0 ∧ x.cells.length = m ∧ x.isAg = true then KA x else off + m ≤ x.cells.length ∧ KA (.ag ((x.cells.drop off).take m))) (onSome x.cells[off]? KA) := by
  unfold pickA onLay onSome; cases lay P t <;> cases x.cells[off]? <;> rfl
theorem v_pickT {y : T} {off : Nat} {K : T → Prop} : pickT P t y off K = onLay (lay P t) (fun m => if off = 0 ∧ y.cells.length = m ∧ y.isAg = true then K y else off + m ≤ y.cells.length ∧ K (.ag ((y.cells.drop off).take m))) (onSome y.cells[off]? K) := by
  unfold pickT onLay onSome; cases lay P t <;> cases y.cells[off]? <;> rfl
def fld (x : AV) (o : Nat) (K : AV → Prop) : Prop := match x with
  | .rf id off => K (.rf id (off + o))
  | .t (.po y off) => K (.t (.po y (off + o)))
  | .bw (.po y off) => K (.bw (.po y (off + o)))
  | .ra id i m off => K (.ra id i m (off + o))
  | _ => False
@[congr] theorem fld_congr {x' : AV} {o o' : Nat} {K : AV → Prop} (h : tick x = x') (h2 : o = o') : fld x o K = fld x' o' K := by unfold tick at h; rw [h, h2]
theorem v_field {f : Nat} : vcField P s f x KA = onSt (lay P s) fun fs _ => onPair fs[f]? fun o n => n ≠ 0 ∧ fld x o KA := by
  unfold vcField onSt onPair fld
  cases lay P s <;> try rfl
  case st fs m => dsimp only; cases fs[f]? <;> rfl
theorem v_fldrf {id off o : Nat} : fld (.rf id off) o KA = KA (.rf id (off + o)) := rfl
theorem v_fldt {y : T} {off o : Nat} : fld (.t (.po y off)) o KA = KA (.t (.po y (off + o))) := rfl
theorem v_fldb {y : T} {off o : Nat} : fld (.bw (.po y off)) o KA = KA (.bw (.po y (off + o))) := rfl
theorem v_fldra {id i m off o : Nat} : fld (.ra id i m off) o KA = KA (.ra id i m (off + o)) := rfl
theorem v_iasl {es : List T} {k : IntKind} {n : Int} : vcIndexAddr P t ob (.t (.sl es)) (.t (.i k n)) KA = onSli (lay P t) fun _ m => (0 ≤ n ∧ n < es.length) ∧ allAt es n.toNat fun y => y.cells.length = m ∧ KA (.t (.po y 0)) := by
  unfold vcIndexAddr onSli; cases lay P t <;> rfl
theorem v_iasb {es : List T} {k : IntKind} {n : Int} : vcIndexAddr P t ob (.bw (.sl es)) (.t (.i k n)) KA = onSli (lay P t) fun _ m => (0 ≤ n ∧ n < es.length) ∧ allAt es n.toNat fun y => y.cells.length = m ∧ KA (.bw (.po y 0)) := by
  unfold vcIndexAddr onSli; cases lay P t <;> rfl
def ixOb (m id : Nat) (n : Int) (K : AV → Prop) : Ob → Prop
  | .arr _ m' _ es => m = m' ∧ (0 ≤ n ∧ n < es.length) ∧ K (.ra id n.toNat m 0)
  | .hole _ m' _ es _ _ _ => m = m' ∧ (0 ≤ n ∧ n < es.length) ∧ K (.ra id n.toNat m 0)
  | _ => False
theorem v_iasr {id : Nat} {k : IntKind} {n : Int} : vcIndexAddr P t ob (.sr id) (.t (.i k n)) KA = onSli (lay P t) fun _ m => onSome ob[id]? (ixOb m id n KA) := by
  unfold vcIndexAddr onSli onSome
  cases lay P t <;> try rfl
  dsimp only
  cases ob[id]? with
  | none => rfl
  | some o => cases o <;> rfl
theorem v_iasv {i a m' l : Nat} {k : IntKind} {n : Int} : vcIndexAddr P t ob (.sv i a m' l) (.t (.i k n)) KA = onSli (lay P t) fun _ m => m = m' ∧ (0 ≤ n ∧ n < l) ∧ KA (.ra i (a + n.toNat) m 0) := by
  unfold vcIndexAddr onSli; cases lay P t <;> rfl
theorem v_ixa {e : TypeId} {m m' id : Nat} {n : Int} {k : Kind} {es : List T} : ixOb m id n KA (.arr e m' k es) = (m = m' ∧ (0 ≤ n ∧ n < es.length) ∧ KA (.ra id n.toNat m 0)) := rfl
theorem v_ixh {e : TypeId} {m m' id i j id' : Nat} {n : Int} {ss : Sh} {es : List T} : ixOb m id n KA (.hole e m' ss es i j id') = (m = m' ∧ (0 ≤ n ∧ n < es.length) ∧ KA (.ra id n.toNat m 0)) := rfl
theorem v_ixs {l : List UInt8} {k : IntKind} {n : Int} : vcIndex P t (.t (.s l)) (.t (.i k n)) KA = (lay P t = .str ∧ (0 ≤ n ∧ n < l.length) ∧ allAt l n.toNat fun c => KA (.t (.i .u8 c.toNat))) := rfl
theorem v_lensl {es : List T} : vcLen P t ob (.t (.sl es)) KA = onSli (lay P t) fun _ _ => es.length < Bd.B → KA (.t (.i .i64 es.length)) := by
  unfold vcLen onSli; cases lay P t <;> rfl
theorem v_lensb {es : List T} : vcLen P t ob (.bw (.sl es)) KA = onSli (lay P t) fun _ _ => es.length < Bd.B → KA (.t (.i .i64 es.length)) := by
  unfold vcLen onSli; cases lay P t <;> rfl
theorem v_lens {l : List UInt8} : vcLen P t ob (.t (.s l)) KA = onStr (lay P t) (l.length < Bd.B → KA (.t (.i .i64 l.length))) := by
  unfold vcLen onStr; cases lay P t <;> rfl
theorem v_lensv {i a m n : Nat} : vcLen P t ob (.sv i a m n) KA = onSli (lay P t) fun _ _ => KA (.t (.i .i64 (n : Nat))) := by
  unfold vcLen onSli; cases lay P t <;> rfl
theorem v_lenns : vcLen P t ob .ns KA = onSli (lay P t) fun _ _ => KA (.t (.i .i64 0)) := by
  unfold vcLen onSli; cases lay P t <;> rfl
def lnOb (K : AV → Prop) : Ob → Prop
  | .arr _ _ _ es => es.length < Bd.B → K (.t (.i .i64 es.length))
  | .hole _ _ _ es _ _ _ => es.length < Bd.B → K (.t (.i .i64 es.length))
  | _ => False
theorem v_lensr {id : Nat} : vcLen P t ob (.sr id) KA = onSli (lay P t) fun _ _ => onSome ob[id]? (lnOb KA) := by
  unfold vcLen onSli onSome
  cases lay P t <;> try rfl
  dsimp only
  cases ob[id]? with
  | none => rfl
  | some o => cases o <;> rfl
theorem v_lna {e : TypeId} {m : Nat} {k : Kind} {es : List T} : lnOb KA (.arr e m k es) = (es.length < Bd.B → KA (.t (.i .i64 es.length))) := rfl
theorem v_lnh {e : TypeId} {m i j id' : Nat} {ss : Sh} {es : List T} : lnOb KA (.hole e m ss es i j id') = (es.length < Bd.B → KA (.t (.i .i64 es.length))) := rfl
def lmOb (K : AV → Prop) : Ob → Prop
  | .map _ _ _ ks _ _ => ks.length < Bd.B → K (.t (.i .i64 ks.length))
  | .mhole _ _ _ ks _ _ _ => ks.length < Bd.B → K (.t (.i .i64 ks.length))
  | _ => False
theorem v_lennm : vcLen P t ob (.t .nm) KA = onMapL (lay P t) fun _ _ => KA (.t (.i .i64 0)) := by
  unfold vcLen onMapL; cases lay P t <;> rfl
theorem v_lenmp {ks vs : List T} : vcLen P t ob (.t (.mp ks vs)) KA = onMapL (lay P t) fun _ _ => ks.length < Bd.B → KA (.t (.i .i64 ks.length)) := by
  unfold vcLen onMapL; cases lay P t <;> rfl
theorem v_lenmb {ks vs : List T} : vcLen P t ob (.bw (.mp ks vs)) KA = onMapL (lay P t) fun _ _ => ks.length < Bd.B → KA (.t (.i .i64 ks.length)) := by
  unfold vcLen onMapL; cases lay P t <;> rfl
theorem v_lenmr {id : Nat} : vcLen P t ob (.mr id) KA = onMapL (lay P t) fun _ _ => onSome ob[id]? (lmOb KA) := by
  unfold vcLen onMapL onSome
  cases lay P t <;> try rfl
  dsimp only
  cases ob[id]? with
  | none => rfl
  | some o => cases o <;> rfl
theorem v_lma {a b : TypeId} {k : Kind} {ks vs : List T} {p : Option (Int × T)} : lmOb KA (.map a b k ks vs p) = (ks.length < Bd.B → KA (.t (.i .i64 ks.length))) := rfl
theorem v_lmh {a b : TypeId} {sh : Sh} {ks vs : List T} {i id : Nat} : lmOb KA (.mhole a b sh ks vs i id) = (ks.length < Bd.B → KA (.t (.i .i64 ks.length))) := rfl
theorem v_bini {op : BinOp} {k k' : IntKind} {a b : Int} : vcBin P op t (.t (.i k a)) (.t (.i k' b)) KA = (k = k' ∧ vcInt op k a b KA) := rfl
theorem v_bins {op : BinOp} {a b : List UInt8} : vcBin P op t (.t (.s a)) (.t (.s b)) KA = vcStr op a b KA := rfl
theorem v_bineb {a b : Bool} : vcBin P .eql t (.t (.b a)) (.t (.b b)) KA = (lay P t = .bool ∧ KA (.t (.b (decide (a = b))))) := rfl
theorem v_binnb {a b : Bool} : vcBin P .neq t (.t (.b a)) (.t (.b b)) KA = (lay P t = .bool ∧ KA (.t (.b (decide (a ≠ b))))) := rfl
theorem v_pnn : vcBin P .neq t (.t .np) (.t .np) KA = (lay P t = .ptr ∧ KA (.t (.b false))) := propext ⟨fun h => ⟨h.1, h.2.elim (fun h => h.2) (fun h => nomatch h.1)⟩, fun h => ⟨h.1, .inl ⟨rfl, h.2⟩⟩⟩
theorem v_pen : vcBin P .eql t (.t .np) (.t .np) KA = (lay P t = .ptr ∧ KA (.t (.b true))) := propext ⟨fun h => ⟨h.1, h.2.elim (fun h => h.2) (fun h => nomatch h.1)⟩, fun h => ⟨h.1, .inl ⟨rfl, h.2⟩⟩⟩
theorem v_pnp {y : T} {o : Nat} : vcBin P .neq t (.t (.po y o)) (.t .np) KA = (lay P t = .ptr ∧ KA (.t (.b true))) := propext ⟨fun h => ⟨h.1, h.2.elim (fun h => nomatch h.1) (fun h => h.2)⟩, fun h => ⟨h.1, .inr ⟨rfl, h.2⟩⟩⟩
theorem v_pep {y : T} {o : Nat} : vcBin P .eql t (.t (.po y o)) (.t .np) KA = (lay P t = .ptr ∧ KA (.t (.b false))) := propext ⟨fun h => ⟨h.1, h.2.elim (fun h => nomatch h.1) (fun h => h.2)⟩, fun h => ⟨h.1, .inr ⟨rfl, h.2⟩⟩⟩
theorem v_pnr {i o : Nat} : vcBin P .neq t (.rf i o) (.t .np) KA = (lay P t = .ptr ∧ KA (.t (.b true))) := propext ⟨fun h => ⟨h.1, h.2.elim (fun h => nomatch h.1) (fun h => h.2)⟩, fun h => ⟨h.1, .inr ⟨rfl, h.2⟩⟩⟩
theorem v_per {i o : Nat} : vcBin P .eql t (.rf i o) (.t .np) KA = (lay P t = .ptr ∧ KA (.t (.b false))) := propext ⟨fun h => ⟨h.1, h.2.elim (fun h => nomatch h.1) (fun h => h.2)⟩, fun h => ⟨h.1, .inr ⟨rfl, h.2⟩⟩⟩
theorem v_add {a b : Int} : vcInt .add .i64 a b KA = (inI64 (a + b) ∧ KA (.t (.i .i64 (a + b)))) := rfl
theorem v_sub {a b : Int} : vcInt .sub .i64 a b KA = (inI64 (a - b) ∧ KA (.t (.i .i64 (a - b)))) := rfl
theorem v_mul {a b : Int} : vcInt .mul .i64 a b KA = (inI64 (a * b) ∧ KA (.t (.i .i64 (a * b)))) := rfl
theorem v_quo {k : IntKind} {a b : Int} : vcInt .quo k a b KA = (k = .i64 ∧ 0 ≤ a ∧ 0 < b ∧ inI64 a ∧ KA (.t (.i .i64 (a / b)))) := rfl
theorem v_rem {k : IntKind} {a b : Int} : vcInt .rem k a b KA = (0 ≤ a ∧ 0 < b ∧ KA (.t (.i k (a % b)))) := rfl
theorem v_eql {k : IntKind} {a b : Int} : vcInt .eql k a b KA = KA (.t (.b (decide (a = b)))) := rfl
theorem v_neq {k : IntKind} {a b : Int} : vcInt .neq k a b KA = KA (.t (.b (decide (a ≠ b)))) := rfl
theorem v_lss {k : IntKind} {a b : Int} : vcInt .lss k a b KA = KA (.t (.b (decide (a < b)))) := rfl
theorem v_leq {k : IntKind} {a b : Int} : vcInt .leq k a b KA = KA (.t (.b (decide (a ≤ b)))) := rfl
theorem v_gtr {k : IntKind} {a b : Int} : vcInt .gtr k a b KA = KA (.t (.b (decide (b < a)))) := rfl
theorem v_shr {k : IntKind} {a b : Int} : vcInt .shr k a b KA = (0 ≤ b ∧ b ≤ 8 ∧ KA (.t (.i k (a / 2 ^ b.toNat)))) := rfl
theorem v_geq {k : IntKind} {a b : Int} : vcInt .geq k a b KA = KA (.t (.b (decide (b ≤ a)))) := rfl
theorem v_sadd {a b : List UInt8} : vcStr .add a b KA = ((a ++ b).length < Bd.B ∧ KA (.t (.s (a ++ b)))) := rfl
theorem v_seql {a b : List UInt8} : vcStr .eql a b KA = KA (.t (.b (decide (a = b)))) := rfl
theorem v_sneq {a b : List UInt8} : vcStr .neq a b KA = KA (.t (.b (decide (a ≠ b)))) := rfl
theorem v_slss {a b : List UInt8} : vcStr .lss a b KA = KA (.t (.b (Op.bytesLess a b))) := rfl
theorem v_sleq {a b : List UInt8} : vcStr .leq a b KA = KA (.t (.b (Op.bytesLess a b || decide (a = b)))) := rfl
theorem v_sgtr {a b : List UInt8} : vcStr .gtr a b KA = KA (.t (.b (!(Op.bytesLess a b || decide (a = b))))) := rfl
theorem v_sgeq {a b : List UInt8} : vcStr .geq a b KA = KA (.t (.b (!Op.bytesLess a b))) := rfl
theorem v_not {a : Bool} : vcUn .not (.t (.b a)) KA = KA (.t (.b (!a))) := rfl
@[congr] theorem vcSl3_congr {x x' hi hi' : AV} {ob' : List Ob} (h : tick x = x') (h2 : hi = hi') (h3 : ob = ob') : vcSl3 P t x hi ob KL = vcSl3 P t x' hi' ob' KL := by unfold tick at h; rw [h, h2, h3]
@[congr] theorem vcSlv_congr {x x' : AV} {a a' b b' : Option AV} {ob' : List Ob} (h0 : tick x = x') (h1 : a = a') (h2 : b = b') (h3 : ob = ob') : vcSlv P t ob x a b KA = vcSlv P t ob' x' a' b' KA := by unfold tick at h0; rw [h0, h1, h2, h3]
theorem v_slvt {y : T} {lo hi : Option AV} : vcSlv P t ob (.t y) lo hi KA = vcSlice P t (.t y) lo hi KA := rfl
theorem v_slvb {y : T} {lo hi : Option AV} : vcSlv P t ob (.bw y) lo hi KA = vcSlice P t (.bw y) lo hi KA := rfl
theorem v_slvn {lo hi : Option AV} : vcSlv P t ob .ns lo hi KA = vcSlice P t .ns lo hi KA := rfl
theorem v_slvr {i : Nat} {lo hi : Option AV} : vcSlv P t ob (.sr i) lo hi KA = onSli (lay P t) fun _ m => onArr ob[i]? fun _ m' _ es => m' = m ∧ bnd 0 lo fun a => bnd es.length hi fun b => (0 ≤ a ∧ a ≤ b ∧ b ≤ es.length) ∧ KA (.sv i a.toNat m (b.toNat - a.toNat)) := by
  unfold vcSlv onSli onArr
  cases lay P t <;> try rfl
  dsimp only
  cases ob[i]? with
  | none => rfl
  | some o => cases o <;> rfl
theorem v_slvv {i a0 m' n : Nat} {lo hi : Option AV} : vcSlv P t ob (.sv i a0 m' n) lo hi KA = onSli (lay P t) fun _ m => m' = m ∧ bnd 0 lo fun a => bnd n hi fun b => (0 ≤ a ∧ a ≤ b ∧ b ≤ n) ∧ KA (.sv i (a0 + a.toNat) m (b.toNat - a.toNat)) := by
  unfold vcSlv onSli; cases lay P t <;> rfl
theorem v_sl3v {i a0 m' n : Nat} {hi : AV} : vcSl3 P t (.sv i a0 m' n) hi ob KL = vcSlv P t ob (.sv i a0 m' n) none (some hi) fun r => KL r ob := rfl
@[congr] theorem vcClear_congr {x x' : AV} {ob' : List Ob} (h : tick x = x') (h3 : ob = ob') : vcClear P t x ob KL = vcClear P t x' ob' KL := by unfold tick at h; rw [h, h3]
def onOwK (k : Kind) (A : Sh → Prop) : Prop := match k with
  | .own s => A s
  | _ => False
@[congr] theorem onOwK_congr {k k' : Kind} {A : Sh → Prop} (h : tick k = k') : onOwK k A = onOwK k' A := by unfold tick at h; rw [h]
theorem s_onowk {s : Sh} {A : Sh → Prop} : onOwK (.own s) A = A s := rfl
theorem v_clear {i a m n : Nat} : vcClear P t (.sv i a m n) ob KL = onSli (lay P t) fun e m' => onArr ob[i]? fun e' m2 k es => onOwK k fun s => (m' = m ∧ m2 = m ∧ s.plain = true ∧ a + n ≤ es.length) ∧ onSome (zeroOf P e) fun z => onPair ((ofV z).own [] s) fun y _ => (0 < m ∧ y.cells.length = m ∧ T.allOne y.cells = true) ∧ KL (.t (.tp [])) (ob.set i (.arr e' m (.own s) (es.take a ++ (List.replicate n y ++ es.drop (a + n))))) := by
  unfold vcClear onSli onArr
  cases lay P t <;> try rfl
  case sli e m' =>
  dsimp only
  cases ob[i]? with
  | none => rfl
  | some o =>
    cases o <;> try rfl
    case arr e' m2 k es =>
    cases k <;> try rfl
    case own s =>
    dsimp only [onOwK]
    unfold onSome onPair
    congr 1
    cases zeroOf P e with
    | none => rfl
    | some z =>
      dsimp only
      cases (ofV z).own [] s with
      | none => rfl
      | some p => rfl
theorem v_sl3t {y : T} {hi : AV} : vcSl3 P t (.t y) hi ob KL = vcSlice P t (.t y) none (some hi) fun r => KL r ob := rfl
theorem v_sl3b {y : T} {hi : AV} : vcSl3 P t (.bw y) hi ob KL = vcSlice P t (.bw y) none (some hi) fun r => KL r ob := rfl
theorem v_sl3n {hi : AV} : vcSl3 P t .ns hi ob KL = vcSlice P t .ns none (some hi) fun r => KL r ob := rfl
theorem v_sl3r {i : Nat} {k : IntKind} {n : Int} : vcSl3 P t (.sr i) (.t (.i k n)) ob KL = onSli (lay P t) fun e m => onArr ob[i]? fun e' m' k es => e' = e ∧ m' = m ∧ 0 ≤ n ∧ n ≤ (es.length : Int) ∧ KL (.sr ob.length) (ob.set i .dead ++ [.arr e m k (es.take n.toNat)]) := by
  unfold vcSl3
  dsimp only
  unfold vcShrink onSli onArr
  cases lay P t <;> try rfl
  cases ob[i]? with
  | none => rfl
  | some o => cases o <;> rfl
theorem v_neg {n : Int} : vcUn .neg (.t (.i .i64 n)) KA = (inI64 (0 - n) ∧ KA (.t (.i .i64 (0 - n)))) := rfl
theorem v_exta {xs : List AV} {i : Nat} : vcExtract (.tp xs) i KA = onSome xs[i]? KA := by
  unfold vcExtract onSome; dsimp only; cases xs[i]? <;> rfl
theorem v_extt {xs : List T} {i : Nat} : vcExtract (.t (.tp xs)) i KA = onSome xs[i]? fun y => KA (.t y) := by
  unfold vcExtract onSome; dsimp only; cases xs[i]? <;> rfl
theorem v_extb {xs : List T} {i : Nat} : vcExtract (.bw (.tp xs)) i KA = onSome xs[i]? fun y => KA (.bwc y) := by
  unfold vcExtract onSome; dsimp only; cases xs[i]? <;> rfl
theorem v_bn {d : Int} {K : Int → Prop} : bnd d none K = K d := rfl
theorem v_bs {d n : Int} {k : IntKind} {K : Int → Prop} : bnd d (some (.t (.i k n))) K = K n := rfl
theorem v_slsl {es : List T} {lo hi : Option AV} : vcSlice P t (.t (.sl es)) lo hi KA = onSli (lay P t) fun _ m => (∀ y ∈ es, y.cells.length = m) ∧ bnd 0 lo fun a => bnd es.length hi fun b => (0 ≤ a ∧ a ≤ b ∧ b ≤ es.length) ∧ KA (.t (.sl ((es.take b.toNat).drop a.toNat))) := by
  unfold vcSlice onSli; cases lay P t <;> rfl
theorem v_slsb {es : List T} {lo hi : Option AV} : vcSlice P t (.bw (.sl es)) lo hi KA = onSli (lay P t) fun _ m => (∀ y ∈ es, y.cells.length = m) ∧ bnd 0 lo fun a => bnd es.length hi fun b => (0 ≤ a ∧ a ≤ b ∧ b ≤ es.length) ∧ KA (.bw (.sl ((es.take b.toNat).drop a.toNat))) := by
  unfold vcSlice onSli; cases lay P t <;> rfl
theorem v_slns {lo hi : Option AV} : vcSlice P t .ns lo hi KA = onSli (lay P t) fun _ _ => bnd 0 lo fun a => bnd 0 hi fun b => (a = 0 ∧ b = 0) ∧ KA .ns := by
  unfold vcSlice onSli; cases lay P t <;> rfl
theorem v_sls {l : List UInt8} {lo hi : Option AV} : vcSlice P t (.t (.s l)) lo hi KA = onStr (lay P t) (bnd 0 lo fun a => bnd l.length hi fun b => (0 ≤ a ∧ a ≤ b ∧ b ≤ l.length) ∧ KA (.t (.s ((l.take b.toNat).drop a.toNat)))) := by
  unfold vcSlice onStr; cases lay P t <;> rfl
theorem v_storerf {id off : Nat} : vcStore P t (.rf id off) x ob KL = onBox ob[id]? fun y => y ≠ .un ∧ x ≠ .un ∧ allOne x.cells = true ∧ P.cellsOf t = x.cells.length ∧ off + x.cells.length ≤ y.cells.length ∧ x.cells.length ≠ 0 ∧
        KL .ud (ob.set id (.box (if off = 0 ∧ y.cells.length = x.cells.length ∧ x.isAg = y.isAg then x else .ag (segA y.cells off x.cells)))) := by
  unfold vcStore onBox
  dsimp only
  cases ob[id]? with
  | none => rfl
  | some o => cases o <;> rfl
def onMix (o : Option (List T × List Nat × Kind)) (K : T → List Nat → Kind → Prop) : Prop := match o with | some ([z], ids, k) => K z ids k | _ => False
@[congr] theorem onMix_congr {o o' : Option (List T × List Nat × Kind)} {K : T → List Nat → Kind → Prop} (h : tick o = o') : onMix o K = onMix o' K := by unfold tick at h; rw [h]
theorem s_mix {z : T} {ids : List Nat} {k : Kind} {K : T → List Nat → Kind → Prop} : onMix (some ([z], ids, k)) K = K z ids k := rfl
def flatCell : Option T → Prop
  | some c => c.flat = true ∧ c.one = true
  | none => False
theorem s_flatc {c : T} : flatCell (some c) = (c.flat = true ∧ c.one = true) := rfl
theorem v_storera {id i m off : Nat} : vcStore P t (.ra id i m off) x ob KL = onArr ob[id]? fun e m' k es => (m = m' ∧ i < es.length) ∧ onMix (mix ob k [x]) fun z ids k' =>
      (ids.contains id = false ∧ nodupB ids = true) ∧ (T.allOne z.cells = true ∧ P.cellsOf t = z.cells.length ∧ z.cells.length ≠ 0) ∧ allAt es i fun y =>
        if off = 0 ∧ z.cells.length = m ∧ z.isAg = y.isAg then KL .ud ((killAll ids ob).set id (.arr e m k' (es.set i z)))
        else (z.flat = true ∧ z.one = true ∧ off < m ∧ y.cells.length = m ∧ y.isAg = true ∧ ids = []) ∧ flatCell y.cells[off]? ∧ KL .ud (ob.set id (.arr e m k (es.set i (.ag (y.cells.set off z))))) := by
  unfold vcStore onArr onMix flatCell
  dsimp only
  cases ob[id]? with
  | none => rfl
  | some o =>
    cases o <;> try rfl
theorem v_build {parts : List (Nat × AV)} : vcBuild P t parts KA = onSt (lay P t) fun fs _ => onSome (zeroOf P t) fun z => onSome (fillA fs (ofV z).cells parts) fun cells => (ofV z).known = true ∧ KA (.ag cells) := by
  unfold vcBuild onSt onSome
  cases lay P t <;> cases zeroOf P t <;> try rfl
  case st.some fs m z => dsimp only; cases fillA fs (ofV z).cells parts <;> rfl
theorem v_bsl {n : Nat} {ks : List Nat} {xs : List AV} : vcBuildSlice P t n ks xs ob KL = onSli (lay P t) fun e m => ks = List.range' 0 n ∧ n * m ≤ 16777216 ∧ n < Bd.B ∧ (zeroOf P e).isSome = true ∧ onTri (mix ob (.own (shOf P 40 e)) xs) fun ys ids k => nodupB ids = true ∧ allLen m ys = true ∧ allOnes ys = true ∧ KL (.sr ob.length) (killAll ids ob ++ [.arr e m k ys]) := by
  unfold vcBuildSlice onSli onTri
  cases lay P t <;> try rfl
  case sli e m =>
    dsimp only
    cases mix ob (.own (shOf P 40 e)) xs with
    | none => rfl
    | some p => obtain ⟨a, b, c⟩ := p; rfl
theorem v_appsr {i : Nat} : vcAppend P t (.sr i) x ob KL = onSli (lay P t) fun e m => 0 < m ∧ ((zeroOf P e).map (·.cells.size) = some m) ∧ Bd.B * P.bytesOf e ≤ 140737488355328 ∧
    onArr ob[i]? fun e' m' k es => e' = e ∧ m' = m ∧ srcOf m ob i k x fun es2 ids k' => (es ++ es2).length < Bd.B ∧ KL (.sr ob.length) ((killAll ids ob).set i .dead ++ [.arr e m k' (es ++ es2)]) := by
  unfold vcAppend onSli onArr; cases lay P t <;> rfl
theorem v_appns : vcAppend P t .ns x ob KL = onSli (lay P t) fun e m => 0 < m ∧ ((zeroOf P e).map (·.cells.size) = some m) ∧ Bd.B * P.bytesOf e ≤ 140737488355328 ∧
    srcOf m ob ob.length (.own (shOf P 40 e)) x fun es2 ids k' => es2.length < Bd.B ∧ KL (.sr ob.length) (killAll ids ob ++ [.arr e m k' es2]) := by
  unfold vcAppend onSli; cases lay P t <;> rfl
theorem v_srcns {m i : Nat} {kd : Kind} {k : List T → List Nat → Kind → Prop} : srcOf m ob i kd .ns k = k [] [] kd := by cases kd <;> rfl
def srcT (kd : Kind) (es : List T) (K : List T → List Nat → Kind → Prop) : Prop := match kd with
  | .own s => if s.plain = true then fitsAll s es = true ∧ K es [] (.own s) else K es [] .clo
  | kd => K es [] kd
def srcB (kd : Kind) (es : List T) (K : List T → List Nat → Kind → Prop) : Prop := match kd with
  | .own s => if s.plain = true then fitsAll s es = true ∧ K es [] (.own s) else K es [] .bor
  | _ => K es [] .bor
def srcR (j : Nat) (kd k' : Kind) (es : List T) (K : List T → List Nat → Kind → Prop) : Prop := match kd, k' with
  | .own s, .own s' => s' = s ∧ if s.plain = true then K es [] (.own s) else K es [j] (.own s)
  | .own _, .clo => K es [] .clo
  | .clo, .own _ => K es [j] .clo
  | .clo, .clo => K es [] .clo
  | _, _ => K es [] .bor
section
variable {sh sh' : Sh} {es : List T} {j : Nat} {K : List T → List Nat → Kind → Prop}
theorem v_sto : srcT (.own sh) es K = if sh.plain = true then fitsAll sh es = true ∧ K es [] (.own sh) else K es [] .clo := rfl
theorem v_stc : srcT .clo es K = K es [] .clo := rfl
theorem v_stb : srcT .bor es K = K es [] .bor := rfl
theorem v_sbo : srcB (.own sh) es K = if sh.plain = true then fitsAll sh es = true ∧ K es [] (.own sh) else K es [] .bor := rfl
theorem v_sbc : srcB .clo es K = K es [] .bor := rfl
theorem v_sbb : srcB .bor es K = K es [] .bor := rfl
theorem v_sroo : srcR j (.own sh) (.own sh') es K = (sh' = sh ∧ if sh.plain = true then K es [] (.own sh) else K es [j] (.own sh)) := rfl
theorem v_sroc : srcR j (.own sh) .clo es K = K es [] .clo := rfl
theorem v_srco : srcR j .clo (.own sh) es K = K es [j] .clo := rfl
theorem v_srcc : srcR j .clo .clo es K = K es [] .clo := rfl
theorem v_srob : srcR j (.own sh) .bor es K = K es [] .bor := rfl
theorem v_srcb' : srcR j .clo .bor es K = K es [] .bor := rfl
theorem v_srb {k' : Kind} : srcR j .bor k' es K = K es [] .bor := by cases k' <;> rfl
end
theorem v_srct {m i : Nat} {kd : Kind} {es : List T} {k : List T → List Nat → Kind → Prop} : srcOf m ob i kd (.t (.sl es)) k = (allLen m es = true ∧ srcT kd es k) := by cases kd <;> rfl
theorem v_srcb {m i : Nat} {kd : Kind} {es : List T} {k : List T → List Nat → Kind → Prop} : srcOf m ob i kd (.bw (.sl es)) k = (allLen m es = true ∧ srcB kd es k) := by cases kd <;> rfl
theorem v_srcsr {m i j : Nat} {kd : Kind} {k : List T → List Nat → Kind → Prop} : srcOf m ob i kd (.sr j) k = onArr ob[j]? fun _ m' k' es => m' = m ∧ i ≠ j ∧ srcR j kd k' es k := by
  unfold srcOf onArr srcR
  rfl
theorem v_make {k k' : IntKind} {n n' : Int} : vcMake P t (.t (.i k n)) (.t (.i k' n')) ob KL = onSli (lay P t) fun e m => n = n' ∧ 0 ≤ n ∧ n < Bd.B ∧ 0 < m ∧ Bd.B * P.bytesOf e ≤ 281474976710656 ∧ onSome (zeroOf P e) fun z => onPair ((ofV z).own [] (shOf P 40 e)) fun y _ =>
    y.cells.length = m ∧ T.allOne y.cells = true ∧ KL (.sr ob.length) (ob ++ [.arr e m (.own (shOf P 40 e)) (List.replicate n.toNat y)]) := by
  unfold vcMake onSli onSome onPair
  cases lay P t <;> try rfl
  case sli e m =>
    dsimp only
    cases zeroOf P e with
    | none => rfl
    | some z => dsimp only; cases (ofV z).own [] (shOf P 40 e) <;> rfl
theorem v_call {f : FuncId} {caps xs : List AV} : vcCall P (.fn f caps) xs ob KA = onSome (seesW (AV.see ob 5) (xs ++ caps)) fun ts => CallV P f ts (shuts (xs ++ caps)).isSome fun r => KA (.t r) := by
  unfold vcCall onSome; simp only [calleeOf]; cases seesW (AV.see ob 5) (xs ++ caps) <;> rfl
theorem v_callt {f : FuncId} {caps : List T} {xs : List AV} : vcCall P (.t (.fn f caps)) xs ob KA = onSome (seesW (AV.see ob 5) (xs ++ caps.map .t)) fun ts => CallV P f ts (shuts (xs ++ caps.map .t)).isSome fun r => KA (.t r) := by
  unfold vcCall onSome; simp only [calleeOf]; cases seesW (AV.see ob 5) (xs ++ caps.map .t) <;> rfl
theorem v_callo {f : FuncId} {caps xs : List AV} {tm : List (Nat × AV)} : vcCallO P (.fn f caps) xs tm ob KL = Callx P f (xs ++ caps) (seesW (AV.see ob 5) (xs ++ caps)) (shuts (xs ++ caps)).isSome (tmNoBw tm) ob KL := rfl
theorem v_callot {f : FuncId} {caps : List T} {xs : List AV} {tm : List (Nat × AV)} : vcCallO P (.t (.fn f caps)) xs tm ob KL = Callx P f (xs ++ caps.map .t) (seesW (AV.see ob 5) (xs ++ caps.map .t)) (shuts (xs ++ caps.map .t)).isSome (tmNoBw tm) ob KL := rfl
@[congr] theorem vcMapUpd_congr {m m' k k' v v' : AV} {ob' : List Ob} (h : tick m = m') (h1 : k = k') (h2 : v = v') (h3 : ob = ob') : vcMapUpd P t m k v ob KL = vcMapUpd P t m' k' v' ob' KL := by unfold tick at h; rw [h, h1, h2, h3]
@[congr] theorem vcDelete_congr {m m' k k' : AV} {ob' : List Ob} (h : tick m = m') (h1 : k = k') (h3 : ob = ob') : vcDelete P t m k ob KL = vcDelete P t m' k' ob' KL := by unfold tick at h; rw [h, h1, h3]
@[congr] theorem vcMakeMap_congr {r r' : Option AV} {ob' : List Ob} (h : tick r = r') (h3 : ob = ob') : vcMakeMap P t r ob KL = vcMakeMap P t r' ob' KL := by unfold tick at h; rw [h, h3]
@[congr] theorem vcRange_congr {x x' : AV} {ob' : List Ob} (h : tick x = x') (h3 : ob = ob') : vcRange P t x ob KL = vcRange P t x' ob' KL := by unfold tick at h; rw [h, h3]
@[congr] theorem vcNext_congr {x x' : AV} {ob' : List Ob} (h : tick x = x') (h3 : ob = ob') : vcNext x ob KL = vcNext x' ob' KL := by unfold tick at h; rw [h, h3]
@[congr] theorem vcEntry_congr {x x' : AV} {ob' : List Ob} (h : tick x = x') (h3 : ob = ob') : vcEntry x ob KL = vcEntry x' ob' KL := by unfold tick at h; rw [h, h3]
theorem v_range {ks vs : List T} : vcRange P t (.t (.mp ks vs)) ob KL = onMapL (lay P t) fun _ _ => KL (.it ob.length) (ob ++ [.iter none (ks.zip vs)]) := by
  unfold vcRange onMapL; cases lay P t <;> rfl
def nextOb (id : Nat) (ob : List Ob) (K : AV → List Ob → Prop) : Ob → Prop
  | .iter _ xs => (xs = [] → K (.t (.tp [.b false])) ob) ∧ ∀ (i : Nat) (p : T × T), xs[i]? = some p → K (.tp [.t (.b true), .t p.1, .t p.2]) (ob.set id (.iter (some p) (xs.eraseIdx i)))
  | _ => False
theorem v_next {id : Nat} : vcNext (.it id) ob KL = onSome ob[id]? (nextOb id ob KL) := by
  unfold vcNext onSome
  dsimp only
  cases ob[id]? with
  | none => rfl
  | some o => cases o <;> rfl
theorem v_nexto {id : Nat} {c : Option (T × T)} {xs : List (T × T)} : nextOb id ob KL (.iter c xs) = ((xs = [] → KL (.t (.tp [.b false])) ob) ∧ ∀ (i : Nat) (p : T × T), xs[i]? = some p → KL (.tp [.t (.b true), .t p.1, .t p.2]) (ob.set id (.iter (some p) (xs.eraseIdx i)))) := rfl
def entryOb (ob : List Ob) (K : AV → List Ob → Prop) : Ob → Prop
  | .iter (some p) _ => K (.tp [.t p.1, .t p.2]) ob
  | _ => False
theorem v_entry {id : Nat} : vcEntry (.it id) ob KL = onSome ob[id]? (entryOb ob KL) := by
  unfold vcEntry onSome
  dsimp only
  cases ob[id]? with
  | none => rfl
  | some o =>
    cases o <;> try rfl
    rename_i c l
    cases c <;> rfl
theorem v_entryo {p : T × T} {xs : List (T × T)} : entryOb ob KL (.iter (some p) xs) = KL (.tp [.t p.1, .t p.2]) ob := rfl
@[congr] theorem vcConvert_congr {d : TypeId} {x x' : AV} {ob' : List Ob} (h : tick x = x') (h3 : ob = ob') : vcConvert P t d ob x KA = vcConvert P t d ob' x' KA := by unfold tick at h; rw [h, h3]
def onCv (l : Lay) (A : IntKind → Prop) (B : Prop) : Prop := match l with
  | .int k => A k
  | .str => B
  | _ => False
theorem cv_i {k : IntKind} {A : IntKind → Prop} {B : Prop} : onCv (.int k) A B = A k := rfl
theorem cv_s {A : IntKind → Prop} {B : Prop} : onCv .str A B = B := rfl
theorem v_cvi {d : TypeId} {k : IntKind} {n : Int} : vcConvert P t d ob (.t (.i k n)) KA = onCv (lay P d) (fun k' => lay P t ≠ .oth ∧ P.underlying d = some (.int k') ∧ KA (.t (.i k' (k'.wrap n)))) False := by
  unfold vcConvert onCv
  cases lay P d <;> try rfl
  cases lay P t <;> rfl
theorem v_cvs {d : TypeId} {l : List UInt8} : vcConvert P t d ob (.t (.s l)) KA = onCv (lay P d) (fun _ => False) (lay P t = .str ∧ KA (.t (.s l))) := by
  unfold vcConvert onCv
  cases lay P d <;> try rfl
  cases lay P t <;> simp
theorem v_cvb {d : TypeId} {es : List T} : vcConvert P t d ob (.t (.sl es)) KA = onCv (lay P d) (fun _ => False) (onSli (lay P t) fun e m => m = 1 ∧ lay P e = .int .u8 ∧ onSome (bytesOf es) fun l => KA (.t (.s l))) := by
  unfold vcConvert onCv onSli onSome
  cases lay P d <;> try rfl
  cases lay P t <;> try rfl
  dsimp only
  cases bytesOf es <;> rfl
theorem v_cvr {d : TypeId} {id : Nat} : vcConvert P t d ob (.sr id) KA = onCv (lay P d) (fun _ => False) (onSli (lay P t) fun e m => m = 1 ∧ lay P e = .int .u8 ∧ onArr ob[id]? fun _ _ _ es => onSome (bytesOf es) fun l => KA (.t (.s l))) := by
  unfold vcConvert onCv onSli onArr onSome
  cases lay P d <;> try rfl
  cases lay P t <;> try rfl
  dsimp only
  cases ob[id]? with
  | none => rfl
  | some o =>
    cases o <;> try rfl
    dsimp only
    cases bytesOf _ <;> rfl
theorem loth_i {k : IntKind} : (Lay.int k = Lay.oth) = False := by simp
theorem bo_nil : bytesOf [] = some [] := rfl
theorem bo_i {n : Int} {r : List T} : bytesOf (.i .u8 n :: r) = (bytesOf r).map (UInt8.ofNat n.toNat :: ·) := by
  simp only [bytesOf]
  cases bytesOf r <;> rfl
@[congr] theorem vcIface_congr {x x' : AV} (h : tick x = x') : vcIface P t x KA = vcIface P t x' KA := by unfold tick at h; rw [h]
@[congr] theorem vcInv_congr {x x' : AV} {nm : String} {xs xs' : List AV} {ob' : List Ob} (h : tick x = x') (h1 : xs = xs') (h3 : ob = ob') : vcInv P x nm xs ob KA = vcInv P x' nm xs' ob' KA := by unfold tick at h; rw [h, h1, h3]
theorem v_ifc {x : AV} : vcIface P t x KA = (P.concrete t = true ∧ onSome x.shut fun y => KA (.t (.ifc t y))) := by
  unfold vcIface onSome
  cases x.shut <;> rfl
theorem v_inv {tt : TypeId} {y : T} {nm : String} {xs : List AV} : vcInv P (.t (.ifc tt y)) nm xs ob KA = onSome (methOf P tt nm) fun g => onSome (seesW (AV.see ob 5) (.t y :: xs)) fun ts => CallV P g ts (shuts (.t y :: xs)).isSome fun r => KA (.t r) := by
  unfold vcInv onSome
  dsimp only
  cases methOf P tt nm with
  | none => rfl
  | some g =>
    dsimp only
    cases seesW (AV.see ob 5) (.t y :: xs) <;> rfl
noncomputable def mupOb (s : Bool × List Lay) (kx z : T) (id : Nat) (ob : List Ob) (K : AV → List Ob → Prop) : Ob → Prop
  | .map a b (.own .leaf) ks vs _ => (∀ y ∈ ks, isKey s y) ∧ (kx ∉ ks → ks.length + 1 < Bd.B) ∧ K .ud (ob.set id (.map a b (.own .leaf) (updK ks kx) (updV ks vs kx z) none))
  | _ => False
theorem v_mup {id : Nat} {k v : AV} : vcMapUpd P t (.mr id) k v ob KL = onMapL (lay P t) fun kt _ => onSome k.shut fun kx => onSome v.shut fun z => onSome (keyLay P kt) fun s => isKey s kx ∧ z.flat = true ∧ z.one = true ∧ onSome ob[id]? (mupOb s kx z id ob KL) := by
  unfold vcMapUpd onMapL onSome
  cases lay P t <;> cases k.shut <;> try rfl
  cases v.shut <;> try rfl
  dsimp only
  cases keyLay P _ <;> try rfl
  dsimp only
  cases ob[id]? with
  | none => rfl
  | some o => cases o with
    | map a b k ks vs p => cases k with
      | own s => cases s <;> rfl
      | clo => rfl
      | bor => rfl
    | _ => rfl
theorem v_mupo {s : Bool × List Lay} {kx z : T} {id : Nat} {a b : TypeId} {ks vs : List T} {p : Option (Int × T)} : mupOb s kx z id ob KL (.map a b (.own .leaf) ks vs p) = ((∀ y ∈ ks, isKey s y) ∧ (kx ∉ ks → ks.length + 1 < Bd.B) ∧ KL .ud (ob.set id (.map a b (.own .leaf) (updK ks kx) (updV ks vs kx z) none))) := rfl
noncomputable def delOb (s : Bool × List Lay) (kx : T) (id : Nat) (ob : List Ob) (K : AV → List Ob → Prop) : Ob → Prop
  | .map a b (.own .leaf) ks vs _ => (∀ y ∈ ks, isKey s y) ∧ K (.tp []) (ob.set id (.map a b (.own .leaf) (delK ks kx) (delV ks vs kx) none))
  | _ => False
theorem v_del {id : Nat} {k : AV} : vcDelete P t (.mr id) k ob KL = onMapL (lay P t) fun kt _ => onSome k.shut fun kx => onSome (keyLay P kt) fun s => isKey s kx ∧ onSome ob[id]? (delOb s kx id ob KL) := by
  unfold vcDelete onMapL onSome
  cases lay P t <;> cases k.shut <;> try rfl
  dsimp only
  cases keyLay P _ <;> try rfl
  dsimp only
  cases ob[id]? with
  | none => rfl
  | some o => cases o with
    | map a b k ks vs p => cases k with
      | own s => cases s <;> rfl
      | clo => rfl
      | bor => rfl
    | _ => rfl
theorem v_delo {s : Bool × List Lay} {kx : T} {id : Nat} {a b : TypeId} {ks vs : List T} {p : Option (Int × T)} : delOb s kx id ob KL (.map a b (.own .leaf) ks vs p) = ((∀ y ∈ ks, isKey s y) ∧ KL (.tp []) (ob.set id (.map a b (.own .leaf) (delK ks kx) (delV ks vs kx) none))) := rfl
theorem v_mmap0 : vcMakeMap P t none ob KL = onMapL (lay P t) fun kt et => KL (.mr ob.length) (ob ++ [.map kt et (.own .leaf) [] [] none]) := by
  unfold vcMakeMap onMapL; cases lay P t <;> rfl
theorem v_mmap1 {k : IntKind} {n : Int} : vcMakeMap P t (some (.t (.i k n))) ob KL = onMapL (lay P t) fun kt et => KL (.mr ob.length) (ob ++ [.map kt et (.own .leaf) [] [] none]) := by
  unfold vcMakeMap onMapL; cases lay P t <;> rfl
theorem y_cell {l : Lay} {x : T} : isKey (false, [l]) x = keyCell l x := rfl
theorem y_ag {ls : List Lay} {xs : List T} : isKey (true, ls) (.ag xs) = keyCells ls xs := rfl
theorem yc_i {k k' : IntKind} {n : Int} : keyCell (.int k) (.i k' n) = (k' = k) := rfl
theorem yc_b {x : Bool} : keyCell .bool (.b x) = True := rfl
theorem yc_s {x : List UInt8} : keyCell .str (.s x) = True := rfl
theorem ys_nil : keyCells [] [] = True := rfl
theorem ys_cons {l : Lay} {ls : List Lay} {x : T} {xs : List T} : keyCells (l :: ls) (x :: xs) = (keyCell l x ∧ keyCells ls xs) := rfl
def lookM (s : Bool × List Lay) (z : Value) (kx : T) (ok : Bool) (kd : Kind) (ks vs : List T) (K : AV → Prop) : Prop :=
  (∀ y ∈ ks, isKey s y) ∧ (∀ (i : Nat) (v : T), ks[i]? = some kx → vs[i]? = some v → K (if ok = true then .tp [kd.look v, .t (.b true)] else kd.look v)) ∧ (kx ∉ ks → K (if ok = true then .tp [ofV z, .t (.b false)] else ofV z))
def lkOb (s : Bool × List Lay) (z : Value) (kx : T) (ok : Bool) (K : AV → Prop) : Ob → Prop
  | .map _ _ kd ks vs _ => lookM s z kx ok kd ks vs K
  | _ => False
@[congr] theorem lookM_congr {s : Bool × List Lay} {z : Value} {kx kx' : T} {ok : Bool} {kd : Kind} {ks ks' vs vs' : List T} {K : AV → Prop} (h : tick kx = kx') (h2 : ks = ks') (h3 : vs = vs') : lookM s z kx ok kd ks vs K = lookM s z kx' ok kd ks' vs' K := by unfold tick at h; rw [h, h2, h3]
theorem v_lkmr {id : Nat} {k : AV} {ok : Bool} : vcLookup P t (.mr id) k ok ob KA = onMapL (lay P t) fun kt et => onSome k.shut fun kx => onSome (keyLay P kt) fun s => onSome (zeroOf P et) fun z => isKey s kx ∧ onSome ob[id]? (lkOb s z kx ok KA) := by
  unfold vcLookup onMapL onSome
  cases lay P t <;> cases k.shut <;> try rfl
  dsimp only
  cases keyLay P _ <;> cases zeroOf P _ <;> try rfl
  dsimp only
  cases ob[id]? with
  | none => rfl
  | some o => cases o <;> rfl
theorem v_lkom {a b : TypeId} {kd : Kind} {ks vs : List T} {p : Option (Int × T)} {s : Bool × List Lay} {z : Value} {kx : T} {ok : Bool} : lkOb s z kx ok KA (.map a b kd ks vs p) = lookM s z kx ok kd ks vs KA := rfl
theorem v_lkt {ks vs : List T} {k : AV} {ok : Bool} : vcLookup P t (.t (.mp ks vs)) k ok ob KA = onMapL (lay P t) fun kt et => onSome k.shut fun kx => onSome (keyLay P kt) fun s => onSome (zeroOf P et) fun z => isKey s kx ∧ lookM s z kx ok .clo ks vs KA := by
  unfold vcLookup onMapL onSome
  cases lay P t <;> cases k.shut <;> try rfl
  dsimp only
  cases keyLay P _ <;> cases zeroOf P _ <;> rfl
theorem v_lkbw {ks vs : List T} {k : AV} {ok : Bool} : vcLookup P t (.bw (.mp ks vs)) k ok ob KA = onMapL (lay P t) fun kt et => onSome k.shut fun kx => onSome (keyLay P kt) fun s => onSome (zeroOf P et) fun z => isKey s kx ∧ lookM s z kx ok .bor ks vs KA := by
  unfold vcLookup onMapL onSome
  cases lay P t <;> cases k.shut <;> try rfl
  dsimp only
  cases keyLay P _ <;> cases zeroOf P _ <;> rfl
theorem v_lknm {k : AV} {ok : Bool} : vcLookup P t (.t .nm) k ok ob KA = onMapL (lay P t) fun kt et => onSome k.shut fun kx => onSome (keyLay P kt) fun s => onSome (zeroOf P et) fun z => isKey s kx ∧ KA (if ok = true then .tp [ofV z, .t (.b false)] else ofV z) := by
  unfold vcLookup onMapL onSome
  cases lay P t <;> cases k.shut <;> try rfl
  dsimp only
  cases keyLay P _ <;> cases zeroOf P _ <;> rfl
theorem v_out0 {σ : St} {K : List AV → Prop} : vcOuts P σ [] K = K [] := rfl
theorem v_outt {σ : St} {i : Nat} {r : List ResultVar} {K : List AV → Prop} : vcOuts P σ (.tmp i :: r) K = vcOuts P σ r fun xs => K (getL σ.tm i :: xs) := rfl
theorem v_outc {σ : St} {i : Nat} {r : List ResultVar} {K : List AV → Prop} : vcOuts P σ (.cell i t :: r) K = vcLoad P t (getL σ.tm i) σ.ob fun x => vcOuts P σ r fun xs => K (x :: xs) := rfl
theorem v_close {N : Nat} {y : AV} {r : T} {obs : List Ob} : vcClose N y ob (.t r) obs = onPair (y.take ob 5) fun r' ids => nodupB ids = true ∧ r' = r ∧ Rest N (killAll ids ob) obs := by
  unfold vcClose onPair
  dsimp only
  cases y.take ob 5 <;> rfl
theorem v_closeo {N : Nat} {y : AV} {obs : List Ob} {i : Nat} : vcClose N y ob (.sr i) obs = Close N y ob (.sr i) obs := rfl
theorem v_closem {N : Nat} {y : AV} {obs : List Ob} {i : Nat} : vcClose N y ob (.mr i) obs = Close N y ob (.mr i) obs := rfl
theorem v_closea {N : Nat} {y : AV} {obs : List Ob} {cs : List AV} : vcClose N y ob (.ag cs) obs = Close N y ob (.ag cs) obs := rfl
theorem v_closep {N : Nat} {y : AV} {obs : List Ob} {cs : List AV} : vcClose N y ob (.tp cs) obs = Close N y ob (.tp cs) obs := rfl
theorem v_closef {N : Nat} {y : AV} {obs : List Ob} {i o : Nat} : vcClose N y ob (.rf i o) obs = Close N y ob (.rf i o) obs := rfl
theorem v_rest0 : Rest 0 ob [] = True := eq_true Rest.nil
@[congr] theorem Close_congr {N : Nat} {y y' : AV} {ob' : List Ob} {x : AV} {obs : List Ob} (h : tick y = y') (h2 : ob = ob') : Close N y ob x obs = Close N y' ob' x obs := by unfold tick at h; rw [h, h2]
@[congr] theorem vcClose_congr {N : Nat} {y y' : AV} {ob' : List Ob} {x : AV} {obs : List Ob} (h : tick y = y') (h2 : ob = ob') : vcClose N y ob x obs = vcClose N y' ob' x obs := by unfold tick at h; rw [h, h2]
@[congr] theorem vcOuts_congr {σ σ' : St} {r : List ResultVar} {K : List AV → Prop} (h : tick σ = σ') : vcOuts P σ r K = vcOuts P σ' r K := by unfold tick at h; rw [h]

/-- by the guard's value -/
def onG (x : AV) (b : Bool) (Run Skip : AV → Prop) : Prop :=
  match x with
  | .t (.b x) => if x = true then (if b = true then Run (.t (.b true)) else Skip (.t (.b true))) else (if b = true then Skip (.t (.b false)) else Run (.t (.b false)))
  | .ud => Skip .ud
  | _ => False
@[congr] theorem onG_congr {x' : AV} {b : Bool} {R S : AV → Prop} (h : tick x = x') : onG x b R S = onG x' b R S := by unfold tick at h; rw [h]
theorem g_tt {R S : AV → Prop} : onG (.t (.b true)) true R S = R (.t (.b true)) := rfl
theorem g_tf {R S : AV → Prop} : onG (.t (.b true)) false R S = S (.t (.b true)) := rfl
theorem g_ft {R S : AV → Prop} : onG (.t (.b false)) true R S = S (.t (.b false)) := rfl
theorem g_ff {R S : AV → Prop} : onG (.t (.b false)) false R S = R (.t (.b false)) := rfl
theorem g_bt {x : Bool} {R S : AV → Prop} : onG (.t (.b x)) true R S = if x = true then R (.t (.b true)) else S (.t (.b false)) := by cases x <;> rfl
theorem g_bf {x : Bool} {R S : AV → Prop} : onG (.t (.b x)) false R S = if x = true then S (.t (.b true)) else R (.t (.b false)) := by cases x <;> rfl
theorem g_ud {b : Bool} {R S : AV → Prop} : onG .ud b R S = S .ud := rfl
def onPick (c x y : AV) (K : AV → Prop) : Prop := match c with
  | .t (.b v) => K (if v = true then x else y)
  | _ => False
@[congr] theorem onPick_congr {c c' x x' y y' : AV} {K : AV → Prop} (h : tick c = c') (h2 : x = x') (h3 : y = y') : onPick c x y K = onPick c' x' y' K := by unfold tick at h; rw [h, h2, h3]
theorem p_t {y : AV} {K : AV → Prop} : onPick (.t (.b true)) x y K = K x := rfl
theorem p_f {y : AV} {K : AV → Prop} : onPick (.t (.b false)) x y K = K y := rfl
theorem p_b {v : Bool} {y : AV} {K : AV → Prop} : onPick (.t (.b v)) x y K = if v = true then K x else K y := by cases v <;> rfl
end

section
variable {P : Program} {σ : St} {n : Nat} {tm : List (Nat × AV)} {ob : List Ob} {all : Array Oper} {rest : List Oper} {KS : St → Prop} {K : AV → List Ob → Prop} {KA : AV → Prop} {e : Operand → AV}
  {d : Option Nat} {op : Op} {ty t t' : TypeId} {ps : String} {af : Array Edge} {x y p : Operand} {k : Kont}

theorem e_nil : vcOps P all [] σ KS = KS σ := rfl
theorem e_cons : vcOps P all (⟨d, op, ty, ps, af, none⟩ :: rest) σ KS = (dstOk σ.n d ∧ vcOp P σ op fun x ob => vcOps P all rest (({ σ with ob := ob } : St).set d x) KS) := rfl
theorem guard_on {l : List Oper} {j : Nat} {b : Bool} {R S : St → Prop} : vcGuard ⟨l⟩ σ ⟨d, op, ty, ps, af, some (j, b)⟩ R S = onSome (dstAt l j) fun m => onG (getL σ.tm m) b (fun y => R (σ.set (some m) y)) (fun y => S (σ.set (some m) y)) := by
  rw [← dstAt_eq]
  simp only [vcGuard]
  cases ((l.toArray)[j]?).bind (·.dst) with
  | none => rfl
  | some m =>
    simp only [onSome]
    cases getL σ.tm m <;> rfl
theorem e_consg {l : List Oper} {j : Nat} {b : Bool} : vcOps P ⟨l⟩ (⟨d, op, ty, ps, af, some (j, b)⟩ :: rest) σ KS = (dstOk σ.n d ∧ onSome (dstAt l j) fun m => onG (getL σ.tm m) b
    (fun y => vcOp P (σ.set (some m) y) op (fun x ob => vcOps P ⟨l⟩ rest ((⟨(σ.set (some m) y).n, (σ.set (some m) y).tm, ob⟩ : St).set d x) KS)) (fun y => vcOps P ⟨l⟩ rest ((σ.set (some m) y).set d .ud) KS)) := congrArg (dstOk σ.n d ∧ ·) (guard_on (σ := σ) (R := fun σ => vcOp P σ op fun x ob => vcOps P ⟨l⟩ rest (({ σ with ob := ob } : St).set d x) KS) (S := fun σ => vcOps P ⟨l⟩ rest (σ.set d .ud) KS))
theorem e_setS {v : AV} {m : Nat} : St.set ⟨n, tm, ob⟩ (some m) v = ⟨n, (m, v) :: tm, ob⟩ := rfl
theorem e_setN {v : AV} : σ.set none v = σ := rfl
theorem e_dstS {m : Nat} : dstOk n (some m) = (m < n) := rfl
theorem e_dstN : dstOk n none = True := rfl
theorem e_opdT {m : Nat} : St.opd ⟨n, tm, ob⟩ (.tmp m) = getL tm m := rfl
theorem e_opdC {v : Value} : σ.opd (.const v) = ofV v := rfl
theorem e_opdF {f : FuncId} : σ.opd (.func f) = .fn f [] := rfl
theorem e_get0 {v : AV} {m : Nat} : getL ((m, v) :: tm) m = v := by simp [getL]
theorem e_get1 {v : AV} {m m' : Nat} : getL ((m', v) :: tm) m = if m = m' then v else getL tm m := id rfl
theorem e_vb {b : Bool} : ofV (.bool b) = .t (.b b) := rfl
theorem e_vi {i : IntKind} {m : Int} : ofV (.int i m) = .t (.i i m) := rfl
theorem e_vs {l : List UInt8} : ofV (.string ⟨⟨l⟩⟩) = if l.length < 1000 then .t (.s l) else .un := rfl
theorem e_ss {l : List UInt8} : ofS (.string ⟨⟨l⟩⟩) = if l.length < 1000 then .t (.s l) else .un := rfl
theorem e_vnil : ofV (.slice none 0 0) = .ns := rfl
theorem e_vp : ofV (.pointer none) = .t .np := rfl
theorem e_vm : ofV (.map none) = .t .nm := rfl
theorem e_vag {cs : Array Value} : ofV (.agg cs) = .ag (cs.toList.map ofS) := rfl
theorem e_sb {b : Bool} : ofS (.bool b) = .t (.b b) := rfl
theorem e_si {i : IntKind} {m : Int} : ofS (.int i m) = .t (.i i m) := rfl
theorem e_snil : ofS (.slice none 0 0) = .ns := rfl
theorem e_sp : ofS (.pointer none) = .t .np := rfl
theorem e_sm : ofS (.map none) = .t .nm := rfl

theorem o_box : vcOp P σ (.box t x) K = K (.rf σ.ob.length 0) (σ.ob ++ [.box (σ.opd x)]) := rfl
theorem o_alloc : vcOp P σ (.alloc t) K = match zeroOf P t with
    | some z => K (.rf σ.ob.length 0) (σ.ob ++ [.box (ofV z)])
    | none => False := rfl
theorem o_store : vcOp P σ (.store t p x) K = vcStore P t (σ.opd p) (σ.opd x) σ.ob K := rfl
theorem o_bs {m : Nat} {parts : Array (Nat × Operand)} : vcOp P σ (.buildSlice t m parts) K = vcBuildSlice P t m (parts.toList.map (·.1)) (parts.toList.map fun p => σ.opd p.2) σ.ob K := rfl
theorem o_make : vcOp P σ (.makeSlice t x y) K = vcMake P t (σ.opd x) (σ.opd y) σ.ob K := rfl
theorem o_move : vcOp P σ (.move x) K = K (σ.opd x) σ.ob := rfl
theorem o_assign : vcOp P σ (.assign x) K = K (σ.opd x) σ.ob := rfl
theorem o_pick : vcOp P σ (.pick x y p) K = onPick (σ.opd x) (σ.opd y) (σ.opd p) fun r => K r σ.ob := rfl
theorem o_load : vcOp P σ (.load t x) K = vcLd P t (σ.opd x) σ.tm σ.ob K := rfl
@[congr] theorem vcNb_congr {b : BinOp} {t : TypeId} {x x' : AV} {y y' : AV} {K : AV → Prop} (h0 : tick x = x') (h1 : y = y') : vcNb P b t x y K = vcNb P b t x' y' K := by unfold tick at h0; rw [h0, h1]
theorem o_bin {b : BinOp} {ps : TypeId} : vcOp P σ (.binOp b t x y ps) K = vcNb P b t (σ.opd x) (σ.opd y) fun r => K r σ.ob := rfl
theorem nb_t {b : BinOp} {t : TypeId} {x : AV} {z : T} {K : AV → Prop} : vcNb P b t x (.t z) K = vcBs P b t x (.t z) K := by
  unfold vcNb; split <;> first | rfl | simp_all
@[congr] theorem vcBs_congr {b : BinOp} {t : TypeId} {x x' : AV} {y y' : AV} {K : AV → Prop} (h0 : tick x = x') (h1 : y = y') : vcBs P b t x y K = vcBs P b t x' y' K := by unfold tick at h0; rw [h0, h1]
theorem bs_i {b : BinOp} {t : TypeId} {x : AV} {k : IntKind} {n : Int} {K : AV → Prop} : vcBs P b t x (.t (.i k n)) K = vcBin P b t x (.t (.i k n)) K := by unfold vcBs; split <;> first | rfl | simp_all
theorem bs_s {b : BinOp} {t : TypeId} {x : AV} {n : List UInt8} {K : AV → Prop} : vcBs P b t x (.t (.s n)) K = vcBin P b t x (.t (.s n)) K := by unfold vcBs; split <;> first | rfl | simp_all
theorem bs_b {b : BinOp} {t : TypeId} {x : AV} {n : Bool} {K : AV → Prop} : vcBs P b t x (.t (.b n)) K = vcBin P b t x (.t (.b n)) K := by unfold vcBs; split <;> first | rfl | simp_all
theorem bs_np {b : BinOp} {t : TypeId} {x : AV} {K : AV → Prop} : vcBs P b t x (.t .np) K = vcBin P b t x (.t .np) K := by unfold vcBs; split <;> first | rfl | simp_all
theorem bs_ag {b : BinOp} {t : TypeId} {xs ys : List T} {K : AV → Prop} : vcBs P b t (.t (.ag xs)) (.t (.ag ys)) K = onSome (keyLay P t) fun s => isKey s (.ag xs) ∧ isKey s (.ag ys) ∧ P.eqGuardType P.depth t = false ∧ eqKK b (.ag xs) (.ag ys) K := by unfold vcBs onSome; cases keyLay P t <;> rfl
theorem kk_e {x y : T} {K : AV → Prop} : eqKK .eql x y K = K (.t (.b (@decide (x = y) (Classical.propDecidable _)))) := rfl
theorem kk_n {x y : T} {K : AV → Prop} : eqKK .neq x y K = K (.t (.b (@decide (x ≠ y) (Classical.propDecidable _)))) := rfl
theorem nb_sl {t : TypeId} {es : List T} {K : AV → Prop} : vcNb P .eql t (.t (.sl es)) .ns K = onSli (lay P t) fun _ _ => (es = [] → K (.t (.b true))) ∧ K (.t (.b false)) := by
  unfold vcNb onSli nilK; cases lay P t <;> simp
theorem nb_slb {t : TypeId} {es : List T} {K : AV → Prop} : vcNb P .eql t (.bw (.sl es)) .ns K = onSli (lay P t) fun _ _ => (es = [] → K (.t (.b true))) ∧ K (.t (.b false)) := by
  unfold vcNb onSli nilK; cases lay P t <;> simp
theorem nb_sln {t : TypeId} {K : AV → Prop} : vcNb P .eql t .ns .ns K = onSli (lay P t) fun _ _ => K (.t (.b true)) := by
  unfold vcNb onSli nilN; cases lay P t <;> simp
theorem o_un {b : UnOp} : vcOp P σ (.unOp b t x) K = vcUn b (σ.opd x) fun r => K r σ.ob := rfl
theorem o_fa {m : Nat} : vcOp P σ (.fieldAddr t x m) K = vcField P t m (σ.opd x) fun r => K r σ.ob := rfl
theorem o_ia : vcOp P σ (.indexAddr t x y) K = vcIndexAddr P t σ.ob (σ.opd x) (σ.opd y) fun r => K r σ.ob := rfl
theorem o_ix : vcOp P σ (.index t x y) K = vcIndex P t (σ.opd x) (σ.opd y) fun r => K r σ.ob := rfl
theorem o_slS {lo : Operand} {hi : Option Operand} : vcOp P σ (.slice t x (some lo) hi none) K = vcSlv P t σ.ob (σ.opd x) (some (σ.opd lo)) (hi.map σ.opd) fun r => K r σ.ob := rfl
theorem o_slN : vcOp P σ (.slice t x none none none) K = vcSlv P t σ.ob (σ.opd x) none none fun r => K r σ.ob := rfl
theorem o_slH {hi : Operand} : vcOp P σ (.slice t x none (some hi) none) K = vcSl3 P t (σ.opd x) (σ.opd hi) σ.ob K := rfl
theorem o_ext {m : Nat} : vcOp P σ (.extract x m) K = vcExtract (σ.opd x) m fun r => K r σ.ob := rfl
theorem o_nil : vcOp P σ (.nilCheck x) K = ((σ.opd x).notNil = true ∧ K (σ.opd x) σ.ob) := rfl
theorem o_lookup {ok : Bool} : vcOp P σ (.lookup t x y ok) K = vcLookup P t (σ.opd x) (σ.opd y) ok σ.ob fun r => K r σ.ob := rfl
theorem o_fld {s f : Nat} : vcOp P σ (.field s x f) K = vcFld P s f (σ.opd x) fun r => K r σ.ob := rfl
theorem o_fn {fn : Fn} {xs : Array Operand} : vcOp P σ (.makeFunc fn #[] xs) K = vcFn fn 0 (xs.toList.map σ.opd) fun r => K r σ.ob := rfl
theorem o_build {parts : Array (Nat × Operand)} : vcOp P σ (.build t parts) K = vcBuild P t (parts.toList.map fun p => (p.1, σ.opd p.2)) fun r => K r σ.ob := rfl
theorem o_call {args : Array Operand} {ats : Array TypeId} : vcOp P σ (.call ⟨.value x, args, ats⟩) K = vcCallO P (σ.opd x) (args.toList.map σ.opd) σ.tm σ.ob K := rfl
theorem o_mup : vcOp P σ (.mapUpdate t x y p) K = vcMapUpd P t (σ.opd x) (σ.opd y) (σ.opd p) σ.ob K := rfl
theorem o_rng : vcOp P σ (.range t x) K = vcRange P t (σ.opd x) σ.ob K := rfl
theorem o_nxt : vcOp P σ (.next x false) K = vcNext (σ.opd x) σ.ob K := rfl
theorem o_ent : vcOp P σ (.entry x) K = vcEntry (σ.opd x) σ.ob K := rfl
theorem o_ifc : vcOp P σ (.makeInterface t x) K = vcIface P t (σ.opd x) fun r => K r σ.ob := rfl
theorem o_inv {nm : String} {xs : Array Operand} {ts : Array TypeId} : vcOp P σ (.call ⟨.invoke x nm, xs, ts⟩) K = vcInv P (σ.opd x) nm (xs.toList.map σ.opd) σ.ob fun r => K r σ.ob := rfl
theorem o_cvt {d : TypeId} : vcOp P σ (.convert t d x) K = vcConvert P t d σ.ob (σ.opd x) fun r => K r σ.ob := rfl
theorem o_mm0 : vcOp P σ (.makeMap t none) K = vcMakeMap P t none σ.ob K := rfl
theorem o_mm1 : vcOp P σ (.makeMap t (some x)) K = vcMakeMap P t (some (σ.opd x)) σ.ob K := rfl
theorem o_clear : vcOp P σ (.call ⟨.builtin .clear, #[x], #[t]⟩) K = vcClear P t (σ.opd x) σ.ob K := rfl
theorem o_del {ts : List TypeId} : vcOp P σ (.call ⟨.builtin .delete, #[x, y], ⟨t :: ts⟩⟩) K = vcDelete P t (σ.opd x) (σ.opd y) σ.ob K := rfl
theorem o_max {y : Operand} {ats : Array TypeId} : vcOp P σ (.call ⟨.builtin .max, #[x, y], ats⟩) K = vcMax (σ.opd x) (σ.opd y) fun r => K r σ.ob := rfl
theorem o_len : vcOp P σ (.call ⟨.builtin .len, #[x], #[t]⟩) K = vcLen P t σ.ob (σ.opd x) fun r => K r σ.ob := rfl
theorem o_app : vcOp P σ (.call ⟨.builtin .append, #[x, y], #[t, t']⟩) K = (t = t' ∧ vcAppend P t (σ.opd x) (σ.opd y) σ.ob K) := rfl

theorem l_ifc : vcLook P ob e (.makeInterface t x) KA = vcIface P t (e x) KA := rfl
theorem l_inv {nm : String} {xs : Array Operand} {ts : Array TypeId} : vcLook P ob e (.call ⟨.invoke x nm, xs, ts⟩) KA = vcInv P (e x) nm (xs.toList.map e) ob KA := rfl
theorem l_cvt {d : TypeId} : vcLook P ob e (.convert t d x) KA = vcConvert P t d ob (e x) KA := rfl
theorem l_move : vcLook P ob e (.move x) KA = KA (e x) := rfl
theorem l_assign : vcLook P ob e (.assign x) KA = KA (e x) := rfl
theorem l_pick : vcLook P ob e (.pick x y p) KA = onPick (e x) (e y) (e p) KA := rfl
theorem l_load : vcLook P ob e (.load t x) KA = vcLoad P t (e x) ob KA := rfl
theorem l_bin {b : BinOp} {ps : TypeId} : vcLook P ob e (.binOp b t x y ps) KA = vcBs P b t (e x) (e y) KA := rfl
theorem l_un {b : UnOp} : vcLook P ob e (.unOp b t x) KA = vcUn b (e x) KA := rfl
theorem l_fa {m : Nat} : vcLook P ob e (.fieldAddr t x m) KA = vcField P t m (e x) KA := rfl
theorem l_ia : vcLook P ob e (.indexAddr t x y) KA = vcIndexAddr P t ob (e x) (e y) KA := rfl
theorem l_ix : vcLook P ob e (.index t x y) KA = vcIndex P t (e x) (e y) KA := rfl
theorem l_sl {lo hi : Option Operand} : vcLook P ob e (.slice t x lo hi none) KA = vcSlv P t ob (e x) (lo.map e) (hi.map e) KA := rfl
theorem l_ext {m : Nat} : vcLook P ob e (.extract x m) KA = vcExtract (e x) m KA := rfl
theorem l_nil : vcLook P ob e (.nilCheck x) KA = ((e x).notNil = true ∧ KA (e x)) := rfl
theorem l_lookup {ok : Bool} : vcLook P ob e (.lookup t x y ok) KA = vcLookup P t (e x) (e y) ok ob KA := rfl
theorem l_fld {s f : Nat} : vcLook P ob e (.field s x f) KA = vcFld P s f (e x) KA := rfl
theorem l_fn {fn : Fn} {xs : Array Operand} : vcLook P ob e (.makeFunc fn #[] xs) KA = vcFn fn 0 (xs.toList.map e) KA := rfl
theorem l_build {parts : Array (Nat × Operand)} : vcLook P ob e (.build t parts) KA = vcBuild P t (parts.toList.map fun p => (p.1, e p.2)) KA := rfl
theorem l_call {args : Array Operand} {ats : Array TypeId} : vcLook P ob e (.call ⟨.value x, args, ats⟩) KA = vcCall P (e x) (args.toList.map e) ob KA := rfl
theorem l_max {y : Operand} {ats : Array TypeId} : vcLook P ob e (.call ⟨.builtin .max, #[x, y], ats⟩) KA = vcMax (e x) (e y) KA := rfl
theorem l_len : vcLook P ob e (.call ⟨.builtin .len, #[x], #[t]⟩) KA = vcLen P t ob (e x) KA := rfl

variable {N : Nat} {D : DD}
theorem w_skip : W P N D .skip k σ = k .nrm σ := rfl
theorem w_label {l : Nat} : W P N D (.label l) k σ = k .nrm σ := rfl
theorem w_reg {id : Nat} {ops : List Oper} : W P N D (.region id ⟨ops⟩ false) k σ = stopW (stopD (D id)) (WL P N (.region id ⟨ops⟩ false) k σ) (vcOps P ⟨ops⟩ ops σ (k .nrm)) := rfl
@[congr] theorem stopW_congr {b b' : Bool} {A B : Prop} (h : tick b = b') : stopW b A B = stopW b' A B := by unfold tick at h; rw [h]
theorem stw_t {A B : Prop} : stopW true A B = A := rfl
theorem stw_f {A B : Prop} : stopW false A B = B := rfl
theorem stop_d {m : Nat} {es : List (Bool × Nat)} : stopD (m, es) = (m == 999999) := rfl
theorem w_draw {id : Nat} {ops : List Oper} : W P N D (.region id ⟨ops⟩ true) k σ = stopW (stopD (D id)) (WL P N (.region id ⟨ops⟩ true) k σ) (vcDq P ⟨ops⟩ (D id) ops σ (k .nrm)) := rfl
@[congr] theorem vcDq_congr {all : Array Oper} {kd kd' : Nat × List (Bool × Nat)} {os : List Oper} {σ σ' : St} {K : St → Prop} (h : tick kd = kd') (h2 : σ = σ') : vcDq P all kd os σ K = vcDq P all kd' os σ' K := by unfold tick at h; rw [h, h2]
@[congr] theorem vcDz_congr {all : Array Oper} {B B' : Nat} {es : List (Bool × Nat)} {m m' : Nat} {os : List Oper} {σ σ' : St} {K : St → Prop} (h : tick m = m') (h2 : σ = σ') (h3 : B = B') : vcDz P all B es m os σ K = vcDz P all B' es m' os σ' K := by unfold tick at h; rw [h, h2, h3]
@[congr] theorem vcDm_congr {all : Array Oper} {B : Nat} {es : List (Bool × Nat)} {os : List Oper} {σ σ' : St} {K : St → Prop} (h : tick σ = σ') : vcDm P all B es os σ K = vcDm P all B es os σ' K := by unfold tick at h; rw [h]
@[congr] theorem opAt_congr {l : List Oper} {j j' : Nat} (h : tick j = j') : opAt l j = opAt l j' := by unfold tick at h; rw [h]
theorem oa_zero {o : Oper} {os : List Oper} : opAt (o :: os) 0 = some o := rfl
theorem oa_succ {o : Oper} {os : List Oper} {j : Nat} : opAt (o :: os) (j + 1) = opAt os j := rfl
theorem q_n {m : Nat} {os : List Oper} : vcDq P all (m, []) os σ KS = vcDr P all m os σ KS := rfl
theorem q_m {m : Nat} {e : Bool × Nat} {es : List (Bool × Nat)} {os : List Oper} : vcDq P all (m, e :: es) os σ KS = stopW (decide (2000000 ≤ m)) (vcDyR P all (m - 2000000) (prs (e :: es) []) σ KS) (vcDz P all σ.ob.length (e :: es) m os σ KS) := rfl
@[congr] theorem vcDyR_congr {n0 n0' : Nat} {hs hs' : List (List Nat × Nat)} {σ σ' : St} {K : St → Prop} (h : tick n0 = n0') (h2 : hs = hs') (h3 : σ = σ') : vcDyR P all n0 hs σ K = vcDyR P all n0' hs' σ' K := by unfold tick at h; rw [h, h2, h3]
@[congr] theorem vcDy_congr {hs : List (List Nat × Nat)} {os : List Oper} {s s' : Nat} {σ σ' : St} {K : St → Prop} (h : tick s = s') (h2 : σ = σ') : vcDy P all hs os s σ K = vcDy P all hs os s' σ' K := by unfold tick at h; rw [h, h2]
theorem dy_r {l : List Oper} {n0 n : Nat} {tm : List (Nat × AV)} {ob : List Ob} {hs : List (List Nat × Nat)} : vcDyR P ⟨l⟩ n0 hs ⟨n, tm, ob⟩ KS = (ob.length = n0 ∧ noMh ob = true ∧ vcDy P ⟨l⟩ hs l n0 ⟨n, tm, ob ++ deads (mks hs)⟩ KS) := rfl
theorem dy_nil {s : Nat} {os : List Oper} : vcDy P all [] os s σ KS = vcOps P all os σ KS := by cases os <;> rfl
theorem dy_0 {H : List Nat} {hs : List (List Nat × Nat)} {os : List Oper} {s : Nat} : vcDy P all ((H, 0) :: hs) (⟨d, op, ty, ps, af, none⟩ :: os) s σ KS = (dstOk σ.n d ∧ vcLook P (killAll H σ.ob) σ.opd op fun x => (x.under s = true ∧ avoidH H x = true) ∧ vcDy P all hs os s (σ.set d x) KS) := rfl
theorem dy_0g {l : List Oper} {H : List Nat} {hs : List (List Nat × Nat)} {os : List Oper} {s j : Nat} {b : Bool} : vcDy P ⟨l⟩ ((H, 0) :: hs) (⟨d, op, ty, ps, af, some (j, b)⟩ :: os) s σ KS = (dstOk σ.n d ∧ onSome (dstAt l j) fun i => onG (getL σ.tm i) b
    (fun y => vcLook P (killAll H (σ.set (some i) y).ob) (σ.set (some i) y).opd op fun x => (x.under s = true ∧ avoidH H x = true) ∧ vcDy P ⟨l⟩ hs os s ((σ.set (some i) y).set d x) KS) (fun y => vcDy P ⟨l⟩ hs os s ((σ.set (some i) y).set d .ud) KS)) := congrArg (dstOk σ.n d ∧ ·) (guard_on (σ := σ) (l := l) (d := d) (op := op) (ty := ty) (ps := ps) (af := af) (j := j) (b := b) (R := fun σ => vcLook P (killAll H σ.ob) σ.opd op fun x => (x.under s = true ∧ avoidH H x = true) ∧ vcDy P ⟨l⟩ hs os s (σ.set d x) KS) (S := fun σ => vcDy P ⟨l⟩ hs os s (σ.set d .ud) KS))
theorem dy_1 {H : List Nat} {hs : List (List Nat × Nat)} {os : List Oper} {s : Nat} : vcDy P all ((H, 1) :: hs) (⟨d, op, ty, ps, af, none⟩ :: os) s σ KS = (dstOk σ.n d ∧ vcMk1 P σ.opd op s fun x o => avoidH H x = true ∧ vcDy P all hs os (s + 1) ((⟨σ.n, σ.tm, σ.ob.set s o⟩ : St).set d x) KS) := by
  simp [vcDy]
theorem dy_2 {H : List Nat} {hs : List (List Nat × Nat)} {os : List Oper} {s id : Nat} : vcDy P all ((H, id + 2) :: hs) (⟨d, op, ty, ps, af, none⟩ :: os) s σ KS = (dstOk σ.n d ∧ vcSt1 P σ.opd op id σ.ob[id]? fun y => (y.under s = true ∧ avoidH H y = true) ∧ vcDy P all hs os s ((⟨σ.n, σ.tm, σ.ob.set id (.box y)⟩ : St).set d .ud) KS) := by
  simp [vcDy]
@[congr] theorem vcMk1_congr {e : Operand → AV} {op : Op} {id id' : Nat} {K : AV → Ob → Prop} (h : tick id = id') : vcMk1 P e op id K = vcMk1 P e op id' K := by unfold tick at h; rw [h]
@[congr] theorem vcSt1_congr {e : Operand → AV} {op : Op} {id id' : Nat} {o o' : Option Ob} {K : AV → Prop} (h : tick id = id') (h2 : o = o') : vcSt1 P e op id o K = vcSt1 P e op id' o' K := by unfold tick at h; rw [h, h2]
theorem m1_al {e : Operand → AV} {id : Nat} {K : AV → Ob → Prop} : vcMk1 P e (.alloc t) id K = onSome (zeroOf P t) fun z => K (.rf id 0) (.box (ofV z)) := by simp only [vcMk1, onSome]; cases zeroOf P t <;> rfl
theorem m1_bs {e : Operand → AV} {n id : Nat} {parts : Array (Nat × Operand)} {K : AV → Ob → Prop} : vcMk1 P e (.buildSlice t n parts) id K = onSli (lay P t) fun el m => parts.toList.map (·.1) = List.range' 0 n ∧ n * m ≤ 16777216 ∧ n < Bd.B ∧ (zeroOf P el).isSome = true ∧ onSome (tsOf (parts.toList.map fun p => e p.2)) fun ys => fitsAll (shOf P 40 el) ys = true ∧ allLen m ys = true ∧ allOnes ys = true ∧ K (.sr id) (.arr el m (.own (shOf P 40 el)) ys) := by
  simp only [vcMk1, onSli, onSome]
  cases lay P t <;> try rfl
  dsimp only
  cases tsOf (parts.toList.map fun p => e p.2) <;> rfl
def st1K (P : Program) (t : TypeId) (p x : AV) (id : Nat) (y : AV) (K : AV → Prop) : Prop := match p with
  | .rf i off => i = id ∧ y ≠ .un ∧ x ≠ .un ∧ allOne x.cells = true ∧ P.cellsOf t = x.cells.length ∧ off + x.cells.length ≤ y.cells.length ∧ x.cells.length ≠ 0 ∧ K (if off = 0 ∧ y.cells.length = x.cells.length ∧ x.isAg = y.isAg then x else .ag (segA y.cells off x.cells))
  | _ => False
@[congr] theorem st1K_congr {t : TypeId} {p p' x x' y y' : AV} {id id' : Nat} {K : AV → Prop} (h : tick p = p') (h2 : x = x') (h3 : id = id') (h4 : y = y') : st1K P t p x id y K = st1K P t p' x' id' y' K := by unfold tick at h; rw [h, h2, h3, h4]
theorem s1_st {e : Operand → AV} {id : Nat} {o : Option Ob} {K : AV → Prop} : vcSt1 P e (.store t x y) id o K = onBox o fun z => st1K P t (e x) (e y) id z K := by
  simp only [vcSt1, onBox]
  cases o with
  | none => rfl
  | some o =>
    cases o <;> try rfl
    dsimp only [st1K]
    split
    · rename_i i off hp
      rw [hp]
      refine propext ⟨?_, ?_⟩
      · rintro ⟨off', h, r⟩
        cases h
        exact ⟨rfl, r⟩
      · rintro ⟨rfl, r⟩
        exact ⟨off, rfl, r⟩
    · rename_i hp
      refine propext ⟨?_, fun h => h.elim⟩
      rintro ⟨off', h, r⟩
      exact hp _ _ h
theorem s1_rf {i off id : Nat} {x y : AV} {K : AV → Prop} : st1K P t (.rf i off) x id y K = (i = id ∧ y ≠ .un ∧ x ≠ .un ∧ allOne x.cells = true ∧ P.cellsOf t = x.cells.length ∧ off + x.cells.length ≤ y.cells.length ∧ x.cells.length ≠ 0 ∧ K (if off = 0 ∧ y.cells.length = x.cells.length ∧ x.isAg = y.isAg then x else .ag (segA y.cells off x.cells))) := rfl
theorem ah_nil {x : AV} : avoidH [] x = true := rfl
theorem ah_cons {s : Nat} {H : List Nat} {x : AV} : avoidH (s :: H) x = (x.avoid s && avoidH H x) := rfl
theorem av_t {s : Nat} {y : T} : AV.avoid s (.t y) = true := rfl
theorem av_bw {s : Nat} {y : T} : AV.avoid s (.bw y) = true := rfl
theorem av_un {s : Nat} : AV.avoid s .un = true := rfl
theorem av_ud {s : Nat} : AV.avoid s .ud = true := rfl
theorem av_ns {s : Nat} : AV.avoid s .ns = true := rfl
theorem av_rf {s i o : Nat} : AV.avoid s (.rf i o) = !(i == s) := rfl
theorem av_ra {s i k m o : Nat} : AV.avoid s (.ra i k m o) = !(i == s) := rfl
theorem av_sv {s i k m o : Nat} : AV.avoid s (.sv i k m o) = !(i == s) := rfl
theorem av_sr {s i : Nat} : AV.avoid s (.sr i) = !(i == s) := rfl
theorem av_mr {s i : Nat} : AV.avoid s (.mr i) = !(i == s) := rfl
theorem av_it {s i : Nat} : AV.avoid s (.it i) = !(i == s) := rfl
theorem av_ag {s : Nat} {cs : List AV} : AV.avoid s (.ag cs) = avoids s cs := by simp only [AV.avoid]
theorem av_tp {s : Nat} {cs : List AV} : AV.avoid s (.tp cs) = avoids s cs := by simp only [AV.avoid]
theorem av_fn {s : Nat} {f : FuncId} {cs : List AV} : AV.avoid s (.fn f cs) = avoids s cs := by simp only [AV.avoid]
theorem avs_nil {s : Nat} : avoids s [] = true := by simp only [avoids]
theorem avs_cons {s : Nat} {x : AV} {xs : List AV} : avoids s (x :: xs) = (x.avoid s && avoids s xs) := by simp only [avoids]
theorem nmh_nil : noMh [] = true := rfl
theorem nmh_d {os : List Ob} : noMh (.dead :: os) = noMh os := rfl
theorem nmh_b {x : AV} {os : List Ob} : noMh (.box x :: os) = noMh os := rfl
theorem nmh_a {e : TypeId} {m : Nat} {k : Kind} {es : List T} {os : List Ob} : noMh (.arr e m k es :: os) = noMh os := rfl
theorem nmh_h {e : TypeId} {m i j id : Nat} {s : Sh} {es : List T} {os : List Ob} : noMh (.hole e m s es i j id :: os) = noMh os := rfl
theorem nmh_m {a b : TypeId} {k : Kind} {ks vs : List T} {p : Option (Int × T)} {os : List Ob} : noMh (.map a b k ks vs p :: os) = noMh os := rfl
theorem nmh_i {c : Option (T × T)} {l : List (T × T)} {os : List Ob} : noMh (.iter c l :: os) = noMh os := rfl
theorem mks_nil : mks [] = 0 := rfl
theorem mks_0 {H : List Nat} {hs : List (List Nat × Nat)} : mks ((H, 0) :: hs) = mks hs := by simp [mks]
theorem mks_1 {H : List Nat} {hs : List (List Nat × Nat)} : mks ((H, 1) :: hs) = mks hs + 1 := by simp [mks, Nat.add_comm]
theorem mks_2 {H : List Nat} {id : Nat} {hs : List (List Nat × Nat)} : mks ((H, id + 2) :: hs) = mks hs := by simp [mks]
theorem ts_nil : tsOf [] = some [] := rfl
def onTsY (y : T) : Option (List T) → Option (List T)
  | some ys => some (y :: ys)
  | none => none
theorem ts_cons {y : T} {xs : List AV} : tsOf (.t y :: xs) = onTsY y (tsOf xs) := by simp only [tsOf, onTsY]; cases tsOf xs <;> rfl
theorem ts_some {y : T} {ys : List T} : onTsY y (some ys) = some (y :: ys) := rfl
theorem z_zero {B : Nat} {es : List (Bool × Nat)} {os : List Oper} : vcDz P all B es 0 os σ KS = vcDm P all B es os σ KS := rfl
theorem z_succ {B : Nat} {es : List (Bool × Nat)} {m : Nat} {o : Oper} {os : List Oper} : vcDz P all B es (m + 1) (o :: os) σ KS = vcDz P all B es m os σ KS := rfl
/-- the next operation, which is this one: it makes something; it looks -/
def mtK (P : Program) (all : Array Oper) (B : Nat) (js : List (Bool × Nat)) (rest : List Oper) (σ : St) (KS : St → Prop) (o : Oper) : Prop :=
  o.guard = none ∧ dstOk σ.n o.dst ∧ vcMk P B σ.ob σ.opd o.op fun x ob => vcDm P all B js rest (({ σ with ob := ob } : St).set o.dst x) KS
def mfK (P : Program) (all : Array Oper) (B : Nat) (js : List (Bool × Nat)) (rest : List Oper) (σ : St) (KS : St → Prop) (o : Oper) : Prop :=
  dstOk σ.n o.dst ∧ vcGuard all σ o (fun σ => vcLook P σ.ob σ.opd o.op fun x => vcDm P all B js rest (σ.set o.dst x) KS) (fun σ => vcDm P all B js rest (σ.set o.dst .ud) KS)
@[congr] theorem mtK_congr {B : Nat} {js : List (Bool × Nat)} {os : List Oper} {σ σ' : St} {o : Oper} (h : tick σ = σ') : mtK P all B js os σ KS o = mtK P all B js os σ' KS o := by unfold tick at h; rw [h]
@[congr] theorem mfK_congr {B : Nat} {js : List (Bool × Nat)} {os : List Oper} {σ σ' : St} {o : Oper} (h : tick σ = σ') : mfK P all B js os σ KS o = mfK P all B js os σ' KS o := by unfold tick at h; rw [h]
theorem m_nil {B : Nat} {os : List Oper} : vcDm P all B [] os σ KS = vcOps P all os σ KS := rfl
theorem m_t {B : Nat} {l : List Oper} {i : Nat} {js : List (Bool × Nat)} {os : List Oper} : vcDm P ⟨l⟩ B ((true, i) :: js) os σ KS = onSome (opAt l i) (mtK P ⟨l⟩ B js os σ KS) := by
  simp only [vcDm, onSome, mtK]
  cases opAt l i <;> simp
theorem m_f {B : Nat} {l : List Oper} {i : Nat} {js : List (Bool × Nat)} {os : List Oper} : vcDm P ⟨l⟩ B ((false, i) :: js) os σ KS = onSome (opAt l i) (mfK P ⟨l⟩ B js os σ KS) := by
  simp only [vcDm, onSome, mfK]
  cases opAt l i <;> simp
theorem mt_op {B : Nat} {js : List (Bool × Nat)} {os : List Oper} : mtK P all B js os σ KS ⟨d, op, ty, ps, af, none⟩ = (dstOk σ.n d ∧ vcMk P B σ.ob σ.opd op fun x ob => vcDm P all B js os ((⟨σ.n, σ.tm, ob⟩ : St).set d x) KS) := by
  simp [mtK]
theorem mf_op {B : Nat} {js : List (Bool × Nat)} {os : List Oper} : mfK P all B js os σ KS ⟨d, op, ty, ps, af, none⟩ = (dstOk σ.n d ∧ vcLook P σ.ob σ.opd op fun x => vcDm P all B js os (σ.set d x) KS) := rfl
theorem mf_opg {B : Nat} {l : List Oper} {js : List (Bool × Nat)} {os : List Oper} {j : Nat} {b : Bool} : mfK P ⟨l⟩ B js os σ KS ⟨d, op, ty, ps, af, some (j, b)⟩ = (dstOk σ.n d ∧ onSome (dstAt l j) fun i => onG (getL σ.tm i) b
    (fun y => vcLook P (σ.set (some i) y).ob (σ.set (some i) y).opd op (fun x => vcDm P ⟨l⟩ B js os ((σ.set (some i) y).set d x) KS)) (fun y => vcDm P ⟨l⟩ B js os ((σ.set (some i) y).set d .ud) KS)) := congrArg (dstOk σ.n d ∧ ·) (guard_on (σ := σ) (R := fun σ => vcLook P σ.ob σ.opd op fun x => vcDm P ⟨l⟩ B js os (σ.set d x) KS) (S := fun σ => vcDm P ⟨l⟩ B js os (σ.set d .ud) KS))
variable {KM : AV → List Ob → Prop}
@[congr] theorem vcMk_congr {B : Nat} {ob ob' : List Ob} {e : Operand → AV} {op : Op} (h : tick ob = ob') : vcMk P B ob e op KM = vcMk P B ob' e op KM := by unfold tick at h; rw [h]
@[congr] theorem vcMkC_congr {f f' : AV} {xs xs' : List AV} {ob ob' : List Ob} (h0 : tick f = f') (h1 : xs = xs') (h2 : ob = ob') : vcMkC P f xs ob KM = vcMkC P f' xs' ob' KM := by unfold tick at h0; rw [h0, h1, h2]
@[congr] theorem Mkx_congr {g : FuncId} {ts ts' : Option (List T)} {sh sh' : Bool} {ob ob' : List Ob} (h0 : tick ts = ts') (h1 : sh = sh') (h2 : ob = ob') : Mkx P g ts sh ob KM = Mkx P g ts' sh' ob' KM := by unfold tick at h0; rw [h0, h1, h2]
@[congr] theorem newOb_congr {ob ob' ob1 ob1' : List Ob} {K : List Ob → Prop} (h0 : tick ob = ob1) (h1 : ob' = ob1') : newOb ob ob' K = newOb ob1 ob1' K := by unfold tick at h0; rw [h0, h1]
theorem nb_nil {ob : List Ob} {K : List Ob → Prop} : newOb [] ob K = K ob := rfl
theorem nb_cons {o : Ob} {ob ob' : List Ob} {K : List Ob → Prop} : newOb (o :: ob) (o :: ob') K = newOb ob ob' K := by simp [newOb]
theorem mk_call {B : Nat} {ob : List Ob} {e : Operand → AV} {args : Array Operand} {ats : Array TypeId} : vcMk P B ob e (.call ⟨.value x, args, ats⟩) KM = vcMkC P (e x) (args.toList.map e) ob KM := rfl
theorem mk_fn {ob : List Ob} {f : FuncId} {caps xs : List AV} : vcMkC P (.fn f caps) xs ob KM = Mkx P f (seesW (AV.see ob 5) (xs ++ caps)) (shuts (xs ++ caps)).isSome ob KM := rfl
theorem mk_fnt {ob : List Ob} {f : FuncId} {caps : List T} {xs : List AV} : vcMkC P (.t (.fn f caps)) xs ob KM = Mkx P f (seesW (AV.see ob 5) (xs ++ caps.map .t)) (shuts (xs ++ caps.map .t)).isSome ob KM := rfl
theorem mk_bs {B : Nat} {ob : List Ob} {e : Operand → AV} {n : Nat} {parts : Array (Nat × Operand)} : vcMk P B ob e (.buildSlice t n parts) KM = vcBuildSlice P t n (parts.toList.map (·.1)) (parts.toList.map fun p => e p.2) ob fun x ob' => newOb (ob.take B) ob' fun _ => KM x ob' := rfl
theorem mk_alloc {B : Nat} {ob : List Ob} {e : Operand → AV} : vcMk P B ob e (.alloc t) KM = onSome (zeroOf P t) fun z => KM (.rf ob.length 0) (ob ++ [.box (ofV z)]) := by
  simp only [vcMk, onSome]; cases zeroOf P t <;> rfl
theorem mk_box {B : Nat} {ob : List Ob} {e : Operand → AV} : vcMk P B ob e (.box t x) KM = KM (.rf ob.length 0) (ob ++ [.box (e x)]) := rfl
def mkSt (P : Program) (t : TypeId) (p x : AV) (ob : List Ob) (K : AV → List Ob → Prop) : Prop :=
  match p with
  | .rf id off => vcStore P t (.rf id off) x ob K
  | _ => False
@[congr] theorem mkSt_congr {p p' x x' : AV} {ob ob' : List Ob} (h0 : tick p = p') (h1 : x = x') (h2 : ob = ob') : mkSt P t p x ob KM = mkSt P t p' x' ob' KM := by unfold tick at h0; rw [h0, h1, h2]
theorem mk_app {B : Nat} {ob : List Ob} {e : Operand → AV} : vcMk P B ob e (.call ⟨.builtin .append, #[x, y], #[t, t]⟩) KM = vcAppend P t (e x) (e y) ob KM := by
  simp [vcMk]
theorem mk_st {B : Nat} {ob : List Ob} {e : Operand → AV} : vcMk P B ob e (.store t x y) KM = mkSt P t (e x) (e y) ob KM := rfl
theorem mk_str {ob : List Ob} {id off : Nat} {z : AV} : mkSt P t (.rf id off) z ob KM = vcStore P t (.rf id off) z ob KM := rfl
theorem w_seq {x y : Code} : W P N D (.seq x y) k σ = stopW (stopD (D (1000000 + hdC y))) (WL P N (.seq x y) k σ) (W P N D x (seqW P N D y k) σ) := rfl
@[congr] theorem hdC_congr {c : Code} : hdC c = hdC c := rfl
theorem hd_reg {id : Nat} {ops : Array Oper} {b : Bool} : hdC (.region id ops b) = id := rfl
theorem hd_seq {x y : Code} : hdC (.seq x y) = hdC x := rfl
theorem hd_blk {id : Nat} {c : Code} : hdC (.block id c) = hdC c := rfl
theorem hd_loop {c : Code} : hdC (.loop c) = hdC c := rfl
theorem hd_skip : hdC .skip = 888888 := rfl
theorem hd_cond {o : Operand} {x y : Code} : hdC (.cond o x y) = 888888 := rfl
theorem hd_exit {id : Nat} : hdC (.exit id) = 888888 := rfl
theorem hd_ret : hdC .ret = 888888 := rfl
theorem hd_lab {id : Nat} : hdC (.label id) = 888888 := rfl
theorem w_cond {c : Operand} {x y : Code} : W P N D (.cond c x y) k σ = vcCond (σ.opd c) (W P N D x k σ) (W P N D y k σ) := rfl
theorem w_block {id : Nat} {c : Code} : W P N D (.block id c) k σ = W P N D c (blockK id k) σ := rfl
theorem w_exit {id : Nat} : W P N D (.exit id) k σ = k (.ex id) σ := rfl
theorem w_ret : W P N D .ret k σ = k .ret σ := rfl
theorem w_loop {c : Code} : W P N D (.loop c) k σ = WL P N (.loop c) k σ := rfl
theorem r_nil0 {os : List Oper} : vcDr P all 0 os σ KS = vcOps P all os σ KS := rfl
theorem r_nil {m : Nat} : vcDr P all (m + 1) [] σ KS = KS σ := rfl
theorem r_cons {m : Nat} : vcDr P all (m + 1) (⟨d, op, ty, ps, af, none⟩ :: rest) σ KS = (dstOk σ.n d ∧ vcLook P σ.ob σ.opd op fun x => vcDr P all m rest (σ.set d x) KS) := rfl
theorem r_consg {l : List Oper} {m j : Nat} {b : Bool} : vcDr P ⟨l⟩ (m + 1) (⟨d, op, ty, ps, af, some (j, b)⟩ :: rest) σ KS = (dstOk σ.n d ∧ onSome (dstAt l j) fun i => onG (getL σ.tm i) b
    (fun y => vcLook P (σ.set (some i) y).ob (σ.set (some i) y).opd op (fun x => vcDr P ⟨l⟩ m rest ((σ.set (some i) y).set d x) KS)) (fun y => vcDr P ⟨l⟩ m rest ((σ.set (some i) y).set d .ud) KS)) := congrArg (dstOk σ.n d ∧ ·) (guard_on (σ := σ) (R := fun σ => vcLook P σ.ob σ.opd op fun x => vcDr P ⟨l⟩ m rest (σ.set d x) KS) (S := fun σ => vcDr P ⟨l⟩ m rest (σ.set d .ud) KS))
@[congr] theorem seqW_congr {N : Nat} {D : DD} {c : Code} {k : Kont} {e : Ex} {σ σ' : St} (h : tick σ = σ') : seqW P N D c k e σ = seqW P N D c k e σ' := by unfold tick at h; rw [h]
@[congr] theorem blockK_congr {i : Nat} {k : Kont} {e : Ex} {σ σ' : St} (h : tick σ = σ') : blockK i k e σ = blockK i k e σ' := by unfold tick at h; rw [h]
@[congr] theorem loopK_congr {N : Nat} {ι : Type} {I : ι → Prop} {s : ι → St} {μ : ι → Nat} {i : ι} {k : Kont} {e : Ex} {σ σ' : St} (h : tick σ = σ') : loopK N I s μ i k e σ = loopK N I s μ i k e σ' := by unfold tick at h; rw [h]
@[congr] theorem cutK_congr {N : Nat} {ι : Type} {I : ι → Prop} {s : ι → St} {k : Kont} {e : Ex} {σ σ' : St} (h : tick σ = σ') : cutK N I s k e σ = cutK N I s k e σ' := by unfold tick at h; rw [h]
@[congr] theorem retK_congr {N : Nat} {outs : List ResultVar} {x : AV} {obs : List Ob} {e : Ex} {σ σ' : St} (h : tick σ = σ') : retK P N outs x obs e σ = retK P N outs x obs e σ' := by unfold tick at h; rw [h]
theorem k_seqn {c : Code} {σ : St} : seqW P N D c k .nrm σ = W P N D c k σ := rfl
theorem k_seqr {c : Code} {σ : St} : seqW P N D c k .ret σ = k .ret σ := rfl
theorem k_seqx {c : Code} {σ : St} {i : Nat} : seqW P N D c k (.ex i) σ = k (.ex i) σ := rfl
theorem k_condt {b : Bool} {A B : Prop} : vcCond (.t (.b b)) A B = if b = true then A else B := rfl
theorem k_blkn {σ : St} {i : Nat} : blockK i k .nrm σ = k .nrm σ := rfl
theorem k_blkr {σ : St} {i : Nat} : blockK i k .ret σ = k .ret σ := rfl
theorem k_blkx {σ : St} {i j : Nat} : blockK i k (.ex j) σ = if j = i then k .nrm σ else k (.ex j) σ := rfl
theorem k_loopr {ι : Type} {I : ι → Prop} {s : ι → St} {μ : ι → Nat} {i : ι} : loopK N I s μ i k .ret σ = k .ret σ := rfl
theorem k_loopx {ι : Type} {I : ι → Prop} {s : ι → St} {μ : ι → Nat} {i : ι} {j : Nat} : loopK N I s μ i k (.ex j) σ = k (.ex j) σ := rfl
theorem k_loopn {ι : Type} {I : ι → Prop} {s : ι → St} {μ : ι → Nat} {i : ι} : loopK N I s μ i k .nrm σ = ∃ j, I j ∧ μ j < μ i ∧ Wk N σ (s j) := rfl
theorem k_ret {outs : List ResultVar} {x : AV} {obs : List Ob} {σ : St} : retK P N outs x obs .ret σ = vcOuts P σ outs fun xs => vcClose N (tup xs) σ.ob x obs := rfl
theorem k_retn {outs : List ResultVar} {x : AV} {obs : List Ob} {σ : St} : retK P N outs x obs .nrm σ = vcOuts P σ outs fun xs => vcClose N (tup xs) σ.ob x obs := rfl
theorem k_cutn {ι : Type} {I : ι → Prop} {s : ι → St} : cutK N I s k .nrm σ = ∃ j, I j ∧ Wk N σ (s j) := rfl
theorem k_cutr {ι : Type} {I : ι → Prop} {s : ι → St} : cutK N I s k .ret σ = k .ret σ := rfl
theorem k_cutx {ι : Type} {I : ι → Prop} {s : ι → St} {j : Nat} : cutK N I s k (.ex j) σ = k (.ex j) σ := rfl
end

theorem f_leaf {x : T} : fits .leaf x = x.flat := by cases x <;> rfl
theorem f_ag {ss : List Sh} {xs : List T} : fits (.ag ss) (.ag xs) = fitss ss xs := rfl
theorem f_sl {e : TypeId} {m : Nat} {s : Sh} {x : T} : fits (.sl e m s) x = false := by cases x <;> rfl
theorem f_ab {ss : List Sh} {x : Bool} : fits (.ag ss) (.b x) = false := rfl
theorem f_ai {ss : List Sh} {k : IntKind} {n : Int} : fits (.ag ss) (.i k n) = false := rfl
theorem f_as {ss : List Sh} {x : List UInt8} : fits (.ag ss) (.s x) = false := rfl
theorem f_atp {ss : List Sh} {cs : List T} : fits (.ag ss) (.tp cs) = false := rfl
theorem f_asl {ss : List Sh} {cs : List T} : fits (.ag ss) (.sl cs) = false := rfl
theorem f_apo {ss : List Sh} {y : T} {n : Nat} : fits (.ag ss) (.po y n) = false := rfl
theorem f_anp {ss : List Sh}  : fits (.ag ss) (.np) = false := rfl
theorem f_anm {ss : List Sh}  : fits (.ag ss) (.nm) = false := rfl
theorem f_ani {ss : List Sh}  : fits (.ag ss) (.ni) = false := rfl
theorem f_aifc {ss : List Sh} {t : TypeId} {y : T} : fits (.ag ss) (.ifc t y) = false := rfl
theorem f_amp {ss : List Sh} {ks vs : List T} : fits (.ag ss) (.mp ks vs) = false := rfl
theorem f_afn {ss : List Sh} {f : FuncId} {cs : List T} : fits (.ag ss) (.fn f cs) = false := rfl
theorem f_nil  : fitss [] [] = true := rfl
theorem f_cons {s : Sh} {ss : List Sh} {x : T} {xs : List T} : fitss (s :: ss) (x :: xs) = (fits s x && fitss ss xs) := rfl
theorem f_nc {x : T} {xs : List T} : fitss [] (x :: xs) = false := rfl
theorem f_cn {s : Sh} {ss : List Sh} : fitss (s :: ss) [] = false := rfl
section
variable {ob : List Ob}
theorem w_t {s : Sh} {x : T} : AV.own ob s (.t x) = if fits s x = true then some (x, []) else none := by cases s <;> simp only [AV.own]
def onOwn (o : Option Ob) (K : TypeId → Nat → Sh → List T → Option (T × List Nat)) : Option (T × List Nat) := match o with | some (.arr e m (.own s) es) => K e m s es | _ => none
theorem s_own {e : TypeId} {m : Nat} {s : Sh} {es : List T} {K : TypeId → Nat → Sh → List T → Option (T × List Nat)} : onOwn (some (.arr e m (.own s) es)) K = K e m s es := rfl
theorem s_ownc {e : TypeId} {m : Nat} {es : List T} {K : TypeId → Nat → Sh → List T → Option (T × List Nat)} : onOwn (some (.arr e m .clo es)) K = none := rfl
theorem s_ownb {e : TypeId} {m : Nat} {es : List T} {K : TypeId → Nat → Sh → List T → Option (T × List Nat)} : onOwn (some (.arr e m .bor es)) K = none := rfl
def onTs (o : Option (List T × List Nat)) : Option (T × List Nat) := match o with | some (ys, ids) => some (.ag ys, ids) | none => none
theorem s_ts {ys : List T} {ids : List Nat} : onTs (some (ys, ids)) = some (.ag ys, ids) := rfl
theorem s_tsn : onTs none = none := rfl
def onCons (o : Option (T × List Nat)) (p : Option (List T × List Nat)) : Option (List T × List Nat) := match o, p with | some (y, i), some (ys, i') => some (y :: ys, i ++ i') | _, _ => none
theorem s_oc {y : T} {i i' : List Nat} {ys : List T} : onCons (some (y, i)) (some (ys, i')) = some (y :: ys, i ++ i') := rfl
theorem s_ocn {p : Option (List T × List Nat)} : onCons none p = none := rfl
theorem s_ocm {p : Option (T × List Nat)} : onCons p none = none := by cases p <;> rfl
theorem w_agag {ss : List Sh} {cs : List AV} : AV.own ob (.ag ss) (.ag cs) = onTs (ownsL ob ss cs) := by simp only [AV.own, onTs]; cases ownsL ob ss cs <;> rfl
theorem w_slns {e : TypeId} {m : Nat} {s : Sh} : AV.own ob (.sl e m s) .ns = some (.sl [], []) := by simp only [AV.own]
open Classical in
theorem w_slsr {e : TypeId} {m i : Nat} {s : Sh} : AV.own ob (.sl e m s) (.sr i) = onOwn ob[i]? fun e' m' s' es => if e' = e ∧ m' = m ∧ s' = s then some (.sl es, [i]) else none := by
  simp only [AV.own, onOwn]
  cases ob[i]? with
  | none => rfl
  | some o =>
    cases o <;> rfl
theorem w_leafun   : AV.own ob .leaf .un = none := by simp only [AV.own]
theorem w_leafud   : AV.own ob .leaf .ud = none := by simp only [AV.own]
theorem w_leafbw  {x : T} : AV.own ob .leaf (.bw x) = none := by simp only [AV.own]
theorem w_leaftp  {cs : List AV} : AV.own ob .leaf (.tp cs) = none := by simp only [AV.own]
theorem w_leafrf  {i o : Nat} : AV.own ob .leaf (.rf i o) = none := by simp only [AV.own]
theorem w_leafra  {i k m1 o : Nat} : AV.own ob .leaf (.ra i k m1 o) = none := by simp only [AV.own]
theorem w_leafsv  {i k m1 o : Nat} : AV.own ob .leaf (.sv i k m1 o) = none := by simp only [AV.own]
theorem w_leafmr  {i : Nat} : AV.own ob .leaf (.mr i) = none := by simp only [AV.own]
theorem w_leafit  {i : Nat} : AV.own ob .leaf (.it i) = none := by simp only [AV.own]
theorem w_leaffn  {f : FuncId} {cs : List AV} : AV.own ob .leaf (.fn f cs) = none := by simp only [AV.own]
theorem w_agun {ss : List Sh}  : AV.own ob (.ag ss) .un = none := by simp only [AV.own]
theorem w_agud {ss : List Sh}  : AV.own ob (.ag ss) .ud = none := by simp only [AV.own]
theorem w_agbw {ss : List Sh} {x : T} : AV.own ob (.ag ss) (.bw x) = none := by simp only [AV.own]
theorem w_agtp {ss : List Sh} {cs : List AV} : AV.own ob (.ag ss) (.tp cs) = none := by simp only [AV.own]
theorem w_agrf {ss : List Sh} {i o : Nat} : AV.own ob (.ag ss) (.rf i o) = none := by simp only [AV.own]
theorem w_agra {ss : List Sh} {i k m1 o : Nat} : AV.own ob (.ag ss) (.ra i k m1 o) = none := by simp only [AV.own]
theorem w_agsv {ss : List Sh} {i k m1 o : Nat} : AV.own ob (.ag ss) (.sv i k m1 o) = none := by simp only [AV.own]
theorem w_agmr {ss : List Sh} {i : Nat} : AV.own ob (.ag ss) (.mr i) = none := by simp only [AV.own]
theorem w_agit {ss : List Sh} {i : Nat} : AV.own ob (.ag ss) (.it i) = none := by simp only [AV.own]
theorem w_agfn {ss : List Sh} {f : FuncId} {cs : List AV} : AV.own ob (.ag ss) (.fn f cs) = none := by simp only [AV.own]
theorem w_slun {e : TypeId} {m : Nat} {s : Sh}  : AV.own ob (.sl e m s) .un = none := by simp only [AV.own]
theorem w_slud {e : TypeId} {m : Nat} {s : Sh}  : AV.own ob (.sl e m s) .ud = none := by simp only [AV.own]
theorem w_slbw {e : TypeId} {m : Nat} {s : Sh} {x : T} : AV.own ob (.sl e m s) (.bw x) = none := by simp only [AV.own]
theorem w_sltp {e : TypeId} {m : Nat} {s : Sh} {cs : List AV} : AV.own ob (.sl e m s) (.tp cs) = none := by simp only [AV.own]
theorem w_slrf {e : TypeId} {m : Nat} {s : Sh} {i o : Nat} : AV.own ob (.sl e m s) (.rf i o) = none := by simp only [AV.own]
theorem w_slra {e : TypeId} {m : Nat} {s : Sh} {i k m1 o : Nat} : AV.own ob (.sl e m s) (.ra i k m1 o) = none := by simp only [AV.own]
theorem w_slsv {e : TypeId} {m : Nat} {s : Sh} {i k m1 o : Nat} : AV.own ob (.sl e m s) (.sv i k m1 o) = none := by simp only [AV.own]
theorem w_slmr {e : TypeId} {m : Nat} {s : Sh} {i : Nat} : AV.own ob (.sl e m s) (.mr i) = none := by simp only [AV.own]
theorem w_slit {e : TypeId} {m : Nat} {s : Sh} {i : Nat} : AV.own ob (.sl e m s) (.it i) = none := by simp only [AV.own]
theorem w_slfn {e : TypeId} {m : Nat} {s : Sh} {f : FuncId} {cs : List AV} : AV.own ob (.sl e m s) (.fn f cs) = none := by simp only [AV.own]
theorem w_leafns  : AV.own ob .leaf .ns = none := by simp only [AV.own]
theorem w_leafsr {i : Nat} : AV.own ob .leaf (.sr i) = none := by simp only [AV.own]
theorem w_leafag {cs : List AV} : AV.own ob .leaf (.ag cs) = none := by simp only [AV.own]
theorem w_agns {ss : List Sh} : AV.own ob (.ag ss) .ns = none := by simp only [AV.own]
theorem w_agsr {ss : List Sh} {i : Nat} : AV.own ob (.ag ss) (.sr i) = none := by simp only [AV.own]
theorem w_slag {e : TypeId} {m : Nat} {s : Sh} {cs : List AV} : AV.own ob (.sl e m s) (.ag cs) = none := by simp only [AV.own]
theorem w_nil  : ownsL ob [] [] = some ([], []) := by simp only [ownsL]
theorem w_cons {s : Sh} {ss : List Sh} {x : AV} {xs : List AV} : ownsL ob (s :: ss) (x :: xs) = onCons (x.own ob s) (ownsL ob ss xs) := by simp only [ownsL, onCons]; cases x.own ob s <;> cases ownsL ob ss xs <;> rfl
end
def seeArr : Option Ob → Option T
  | some (.arr _ _ _ es) => some (.sl es)
  | _ => none
def seeMap : Option Ob → Option T
  | some (.map _ _ _ ks vs _) => some (.mp ks vs)
  | _ => none
section
variable {ob : List Ob} {n : Nat}
theorem e_see_t {y : T} : AV.see ob (n + 1) (.t y) = some y := rfl
theorem e_see_bw {y : T} : AV.see ob (n + 1) (.bw y) = some y := rfl
theorem e_see_ns : AV.see ob (n + 1) .ns = some (.sl []) := rfl
theorem e_see_sr {id : Nat} : AV.see ob (n + 1) (.sr id) = seeArr ob[id]? := by
  simp only [AV.see]
  cases ob[id]? with
  | none => rfl
  | some o => cases o <;> rfl
theorem e_see_mr {id : Nat} : AV.see ob (n + 1) (.mr id) = seeMap ob[id]? := by
  simp only [AV.see]
  cases ob[id]? with
  | none => rfl
  | some o => cases o <;> rfl
theorem e_see_rf {id off : Nat} {y : AV} (h : ob[id]? = some (.box y)) : AV.see ob (n + 1) (.rf id off) = if y.known' = true then (AV.see ob n y).map fun z => .po z off else none := by
  simp only [AV.see, h]
theorem e_see_ag {cs : List AV} : AV.see ob (n + 1) (.ag cs) = (seesW (AV.see ob n) cs).map T.ag := rfl
theorem e_see_tp {cs : List AV} : AV.see ob (n + 1) (.tp cs) = (seesW (AV.see ob n) cs).map T.tp := rfl
theorem e_see_fn {f : FuncId} {cs : List AV} : AV.see ob (n + 1) (.fn f cs) = (seesW (AV.see ob n) cs).map (T.fn f) := rfl
theorem e_see_un : AV.see ob (n + 1) .un = none := rfl
theorem e_see_ra {id i m off : Nat} : AV.see ob (n + 1) (.ra id i m off) = none := rfl
def seePart (a m l : Nat) : Option Ob → Option T
  | some (.arr _ m' _ es) => if m' = m then some (.sl ((es.drop a).take l)) else none
  | _ => none
theorem e_see_sv {id a m l : Nat} : AV.see ob (n + 1) (.sv id a m l) = seePart a m l ob[id]? := by
  simp only [AV.see]
  unfold seePart
  cases ob[id]? with
  | none => rfl
  | some o => cases o <;> rfl
theorem sp_a {a m l m' : Nat} {e : TypeId} {k : Kind} {es : List T} : seePart a m l (some (.arr e m' k es)) = if m' = m then some (.sl ((es.drop a).take l)) else none := rfl
theorem e_see_it {id : Nat} : AV.see ob (n + 1) (.it id) = none := rfl
end
theorem qnb_un  : AV.noBw .un = true := by simp only [AV.noBw]
theorem qnb_ud  : AV.noBw .ud = true := by simp only [AV.noBw]
theorem qnb_ns  : AV.noBw .ns = true := by simp only [AV.noBw]
theorem qnb_t {x : T} : AV.noBw (.t x) = true := by simp only [AV.noBw]
theorem qnb_bw {x : T} : AV.noBw (.bw x) = false := by simp only [AV.noBw]
theorem qnb_ag {cs : List AV} : AV.noBw (.ag cs) = noBws cs := by simp only [AV.noBw]
theorem qnb_tp {cs : List AV} : AV.noBw (.tp cs) = noBws cs := by simp only [AV.noBw]
theorem qnb_rf {i o : Nat} : AV.noBw (.rf i o) = true := by simp only [AV.noBw]
theorem qnb_ra {i j m o : Nat} : AV.noBw (.ra i j m o) = true := by simp only [AV.noBw]
theorem qnb_sv {i j m o : Nat} : AV.noBw (.sv i j m o) = true := by simp only [AV.noBw]
theorem qnb_sr {i : Nat} : AV.noBw (.sr i) = true := by simp only [AV.noBw]
theorem qnb_mr {i : Nat} : AV.noBw (.mr i) = true := by simp only [AV.noBw]
theorem qnb_it {i : Nat} : AV.noBw (.it i) = true := by simp only [AV.noBw]
theorem qnb_fn {f : FuncId} {cs : List AV} : AV.noBw (.fn f cs) = noBws cs := by simp only [AV.noBw]
theorem qsh_un  : AV.shut .un = none := by simp only [AV.shut]
theorem qsh_ud  : AV.shut .ud = none := by simp only [AV.shut]
theorem qsh_ns  : AV.shut .ns = some (.sl []) := by simp only [AV.shut]
theorem qsh_t {x : T} : AV.shut (.t x) = some x := by simp only [AV.shut]
theorem qsh_bw {x : T} : AV.shut (.bw x) = none := by simp only [AV.shut]
theorem qsh_ag {cs : List AV} : AV.shut (.ag cs) = (shuts cs).map T.ag := by simp only [AV.shut]
theorem qsh_tp {cs : List AV} : AV.shut (.tp cs) = (shuts cs).map T.tp := by simp only [AV.shut]
theorem qsh_rf {i o : Nat} : AV.shut (.rf i o) = none := by simp only [AV.shut]
theorem qsh_ra {i j m o : Nat} : AV.shut (.ra i j m o) = none := by simp only [AV.shut]
theorem qsh_sv {i j m o : Nat} : AV.shut (.sv i j m o) = none := by simp only [AV.shut]
theorem qsh_sr {i : Nat} : AV.shut (.sr i) = none := by simp only [AV.shut]
theorem qsh_mr {i : Nat} : AV.shut (.mr i) = none := by simp only [AV.shut]
theorem qsh_it {i : Nat} : AV.shut (.it i) = none := by simp only [AV.shut]
theorem qsh_fn {f : FuncId} {cs : List AV} : AV.shut (.fn f cs) = none := by simp only [AV.shut]
theorem qsb_un  : AV.shutB .un = none := by simp only [AV.shutB]
theorem qsb_ud  : AV.shutB .ud = none := by simp only [AV.shutB]
theorem qsb_ns  : AV.shutB .ns = some (.sl []) := by simp only [AV.shutB]
theorem qsb_t {x : T} : AV.shutB (.t x) = some x := by simp only [AV.shutB]
theorem qsb_bw {x : T} : AV.shutB (.bw x) = some x := by simp only [AV.shutB]
theorem qsb_ag {cs : List AV} : AV.shutB (.ag cs) = (shutBs cs).map T.ag := by simp only [AV.shutB]
theorem qsb_tp {cs : List AV} : AV.shutB (.tp cs) = (shutBs cs).map T.tp := by simp only [AV.shutB]
theorem qsb_rf {i o : Nat} : AV.shutB (.rf i o) = none := by simp only [AV.shutB]
theorem qsb_ra {i j m o : Nat} : AV.shutB (.ra i j m o) = none := by simp only [AV.shutB]
theorem qsb_sv {i j m o : Nat} : AV.shutB (.sv i j m o) = none := by simp only [AV.shutB]
theorem qsb_sr {i : Nat} : AV.shutB (.sr i) = none := by simp only [AV.shutB]
theorem qsb_mr {i : Nat} : AV.shutB (.mr i) = none := by simp only [AV.shutB]
theorem qsb_it {i : Nat} : AV.shutB (.it i) = none := by simp only [AV.shutB]
theorem qsb_fn {f : FuncId} {cs : List AV} : AV.shutB (.fn f cs) = none := by simp only [AV.shutB]
theorem qkn_un  : AV.known' .un = false := by simp only [AV.known']
theorem qkn_ud  : AV.known' .ud = true := by simp only [AV.known']
theorem qkn_ns  : AV.known' .ns = true := by simp only [AV.known']
theorem qkn_t {x : T} : AV.known' (.t x) = true := by simp only [AV.known']
theorem qkn_bw {x : T} : AV.known' (.bw x) = true := by simp only [AV.known']
theorem qkn_ag {cs : List AV} : AV.known' (.ag cs) = true := by simp only [AV.known']
theorem qkn_tp {cs : List AV} : AV.known' (.tp cs) = true := by simp only [AV.known']
theorem qkn_rf {i o : Nat} : AV.known' (.rf i o) = true := by simp only [AV.known']
theorem qkn_ra {i j m o : Nat} : AV.known' (.ra i j m o) = true := by simp only [AV.known']
theorem qkn_sv {i j m o : Nat} : AV.known' (.sv i j m o) = true := by simp only [AV.known']
theorem qkn_sr {i : Nat} : AV.known' (.sr i) = true := by simp only [AV.known']
theorem qkn_mr {i : Nat} : AV.known' (.mr i) = true := by simp only [AV.known']
theorem qkn_it {i : Nat} : AV.known' (.it i) = true := by simp only [AV.known']
theorem qkn_fn {f : FuncId} {cs : List AV} : AV.known' (.fn f cs) = true := by simp only [AV.known']
-- what is worked out by itself
attribute [push_cast] qnb_un qnb_ud qnb_ns qnb_t qnb_bw qnb_ag qnb_tp qnb_rf qnb_ra qnb_sv qnb_sr qnb_mr qnb_it qnb_fn qsh_un qsh_ud qsh_ns qsh_t qsh_bw qsh_ag qsh_tp qsh_rf qsh_ra qsh_sv qsh_sr qsh_mr qsh_it qsh_fn qsb_un qsb_ud qsb_ns qsb_t qsb_bw qsb_ag qsb_tp qsb_rf qsb_ra qsb_sv qsb_sr qsb_mr qsb_it qsb_fn qkn_un qkn_ud qkn_ns qkn_t qkn_bw qkn_ag qkn_tp qkn_rf qkn_ra qkn_sv qkn_sr qkn_mr qkn_it qkn_fn
attribute [push_cast] o_ifc o_inv l_ifc l_inv v_ifc v_inv loth_i o_cvt l_cvt cv_i cv_s v_cvi v_cvs v_cvb v_cvr bo_nil bo_i Option.map_some
attribute [push_cast] bs_i bs_s bs_b bs_np bs_ag kk_e kk_n
attribute [push_cast] hd_reg hd_seq hd_blk hd_loop hd_skip hd_cond hd_exit hd_ret hd_lab
attribute [push_cast] dy_r dy_nil dy_0 dy_0g dy_1 dy_2 m1_al m1_bs s1_st s1_rf ah_nil ah_cons av_t av_bw av_un av_ud av_ns av_rf av_ra av_sv av_sr av_mr av_it av_ag av_tp av_fn avs_nil avs_cons nmh_nil nmh_d nmh_b nmh_a nmh_h nmh_m nmh_i mks_nil mks_0 mks_1 mks_2 ts_nil ts_cons ts_some deads prs
attribute [push_cast] o_rng o_nxt o_ent v_range v_next v_nexto v_entry v_entryo
attribute [push_cast] v_mup v_mupo v_del v_delo v_mmap0 v_mmap1 y_cell y_ag yc_i yc_b yc_s ys_nil ys_cons o_mup o_mm0 o_mm1 o_del List.forall_mem_map List.not_mem_nil
attribute [push_cast] v_ldrf v_ldt v_ldb v_ldra wy_t wy_f v_ldoo v_ldoc v_ldob v_ldoh s_onsl s_onsh v_opn sc_ag sc_sl
attribute [push_cast] at_setE List.set_set List.length_set
attribute [push_cast] tick_eq f_leaf f_ag f_sl f_ab f_ai f_as f_atp f_asl f_apo f_anp f_anm f_ani f_aifc f_amp f_afn f_nil f_cons f_nc f_cn w_t s_own s_ownc s_ownb s_ts s_tsn s_oc s_ocn s_ocm w_agag w_slns w_slsr w_leafun w_leafud w_leafbw w_leaftp w_leafrf w_leafra w_leafsv w_leafmr w_leafit w_leaffn w_agun w_agud w_agbw w_agtp w_agrf w_agra w_agsv w_agmr w_agit w_agfn w_slun w_slud w_slbw w_sltp w_slrf w_slra w_slsv w_slmr w_slit w_slfn w_leafns w_leafsr w_leafag w_agns w_agsr w_slag w_nil w_cons
attribute [push_cast] e_see_t e_see_bw e_see_ns e_see_sr e_see_mr e_see_rf e_see_ag e_see_tp e_see_fn e_see_un e_see_ra e_see_sv sp_a e_see_it seeArr seeMap
attribute [push_cast] decide_true decide_false Keep distinct pre tmVia obVia obVia1 AV.under unders AV.via vias Ob.via Ob.under Ob.empty Kind.le rnO e_get1 Option.join_some Option.join_none Bool.or_true Bool.true_or Bool.or_self beq_self_eq_true Nat.zero_lt_succ
attribute [push_cast] c_ag i_ag n_ag n_tp c_b i_b n_b c_i i_i n_i c_s i_s n_s c_tp i_tp c_sl i_sl n_sl c_po i_po n_po c_np i_np n_np c_nm i_nm n_nm c_ni i_ni n_ni c_ifc i_ifc n_ifc c_mp i_mp n_mp c_fn
attribute [push_cast] i_fn n_fn ca_ag ca_t ia_ag ia_t na_ag na_t ca_un ia_un na_un ca_ud ia_ud na_ud ca_ns ia_ns na_ns ca_tp ia_tp na_tp ca_rf ia_rf na_rf ca_ra ia_ra na_ra ca_sv ia_sv na_sv ca_sr ia_sr na_sr ca_mr ia_mr
attribute [push_cast] na_mr ca_bw ia_bw na_bw ca_it ia_it na_it ca_fn ia_fn na_fn d_zero d_succ s_some s_opt s_optn s_box s_arr s_sli s_mapl s_str s_st s_pair s_tri s_lst s_lint s_lbool s_lstr s_lptr
@[congr] theorem vcMax_congr {KA : AV → Prop} {x x' y y' : AV} (h : tick x = x') (h2 : y = y') : vcMax x y KA = vcMax x' y' KA := by unfold tick at h; rw [h, h2]
theorem v_max {KA : AV → Prop} {k k' : IntKind} {a b : Int} : vcMax (.t (.i k a)) (.t (.i k' b)) KA = KA (.t (.i k (if b > a then b else a))) := rfl
attribute [push_cast] v_max o_max l_max
@[congr] theorem vcFld_congr {P : Program} {KA : AV → Prop} {s f : Nat} {x x' : AV} (h : tick x = x') : vcFld P s f x KA = vcFld P s f x' KA := by unfold tick at h; rw [h]
theorem v_fld {P : Program} {KA : AV → Prop} {s f : Nat} {cs : List T} : vcFld P s f (.t (.ag cs)) KA = onSome (oneFld P s f) fun o => onSome cs[o]? fun y => KA (.t y) := by
  unfold vcFld onSome
  cases oneFld P s f with
  | none => rfl
  | some o => dsimp only; cases cs[o]? <;> rfl
attribute [push_cast] v_fld o_fld l_fld v_shr
@[congr] theorem vcFn_congr {KA : AV → Prop} {fn : Fn} {n : Nat} {xs xs' : List AV} (h1 : xs = xs') : vcFn fn n xs KA = vcFn fn n xs' KA := by rw [h1]
theorem v_fn {KA : AV → Prop} {f : FuncId} {xs : List AV} : vcFn (.func f) 0 xs KA = KA (.fn f xs) := by simp [vcFn]
attribute [push_cast] v_fn o_fn l_fn
attribute [push_cast] s_lsli s_lmap s_lifc s_lfnc v_loadrf v_loadt v_loadb v_loadra v_lda v_ldh v_lkc v_lkb v_lko v_pickA v_pickT v_field v_fldrf v_fldt v_fldb v_fldra v_iasl v_iasb v_iasr v_ixa v_ixh
attribute [push_cast] v_ixs v_lensl v_lensb v_lens v_lenns v_lensr v_lna v_lnh v_lennm v_lenmp v_lenmb v_lenmr v_lma v_lmh v_bini v_bins v_bineb v_binnb v_pnn v_pen v_pnp v_pep v_pnr v_per v_add v_sub v_mul v_quo v_rem v_eql v_neq v_lss
attribute [push_cast] v_leq v_gtr v_geq v_sadd v_seql v_sneq v_slss v_sleq v_sgtr v_sgeq v_not v_neg v_exta v_extt v_extb v_bn v_bs v_slsl v_slsb v_slns v_sls v_storerf s_mix s_flatc v_storera v_build
attribute [push_cast] v_bsl v_appsr v_appns v_srcns v_sto v_stc v_stb v_sbo v_sbc v_sbb v_sroo v_sroc v_srco v_srcc v_srob v_srcb' v_srb v_srct v_srcb v_srcsr v_make v_call v_callt v_callo v_callot v_lkmr
attribute [push_cast] v_lkom v_lkt v_lkbw v_lknm v_out0 v_outt v_outc v_close v_closeo v_closem v_closea v_closep v_closef v_rest0 g_tt g_tf g_ft g_ff g_bt g_bf g_ud p_t p_f p_b e_nil e_cons e_consg
attribute [push_cast] e_setS e_setN e_dstS e_dstN e_opdT e_opdC e_opdF e_vb e_vi e_vs e_ss e_vnil e_vp e_vm e_vag e_sb e_si e_snil e_sp e_sm o_box o_alloc o_store o_bs o_make o_move o_assign
attribute [push_cast] o_pick o_load o_bin nb_t nb_sl nb_slb nb_sln o_un o_fa o_ia o_ix o_slS o_slN o_slH v_sl3t v_sl3b v_sl3n v_sl3r v_slvt v_slvb v_slvn v_slvr v_slvv v_sl3v v_clear s_onowk o_clear v_iasv v_lensv o_ext o_nil o_lookup o_build o_call o_len o_app l_move l_assign l_pick l_load l_bin l_un l_fa l_ia l_ix l_sl l_ext l_nil l_lookup
attribute [push_cast] l_build l_call l_len w_skip w_label w_reg w_draw stw_t stw_f stop_d oa_zero oa_succ q_n q_m z_zero z_succ m_nil m_t m_f mt_op mf_op mf_opg nb_nil nb_cons mk_call mk_fn mk_fnt mk_bs mk_alloc mk_box mk_app mk_st mk_str w_seq w_cond w_block w_exit w_ret w_loop r_nil0 r_nil r_cons r_consg k_seqn k_seqr k_seqx k_condt k_blkn k_blkr k_blkx k_loopr
attribute [push_cast] k_loopx k_loopn k_ret k_retn k_cutn k_cutr k_cutx tup calleeOf seesW   shuts  shutBs AV.take takes killAll ownsA mix fitsAll
attribute [push_cast] AV.bwc tmNoBw  noBws obsNoBw Ob.noBw obNoBw AV.ren rens Ob.ren rn behind placeOb T.allOne allOne allLen allOnes T.flat flats segA fillA AV.known AV.notNil AV.isPtr nodupB
attribute [push_cast] at_map freshAV freshAVs freshOb Ob.fresh Ob.owns Sh.plain Sh.plains start numA Lay.sc true_and and_true and_self or_true true_or or_false false_or Bool.true_eq_false
attribute [push_cast] Bool.false_eq_true Bool.and_true Bool.true_and Bool.and_false Bool.false_and List.length_map List.length_cons List.length_nil List.length_append List.map_cons List.map_nil
attribute [push_cast] List.cons_append List.nil_append List.append_nil List.getElem?_cons_zero List.getElem?_cons_succ List.getElem?_nil List.contains_cons List.contains_nil Bool.or_false
attribute [push_cast] List.isEmpty_nil List.set_cons_zero List.set_cons_succ List.take_zero List.take_succ_cons List.drop_zero List.drop_succ_cons List.take_nil List.drop_nil decide_eq_true_eq
attribute [push_cast] Option.map_some Option.map_none Option.isSome_some Option.some.injEq ne_eq not_false_eq_true not_true_eq_false Bool.not_false Bool.not_true implies_true forall_const true_implies


end Go.Proofs.Ythhgcklidfilfaa.BX
