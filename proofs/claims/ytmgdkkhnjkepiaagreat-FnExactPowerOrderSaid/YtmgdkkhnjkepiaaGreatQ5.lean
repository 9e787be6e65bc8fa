/-
  Part 5 of what LFnExactPowerOrder leans on: its texts, merged by a program (prune.py), with what it needs alone.
-/
import Derived.Test.YtmgdkkhnjkepiaaGreatQ4
import Derived.Test.YtmgdkkhnjkepiaaGreatProg
import Derived.KernelRfl
import Derived.Carry
import Derived.OpenShut
import Derived.WalkKit
import Derived.ProofKit
import Derived.Laws.Externs
import Derived.Laws.Runes
namespace Go.Proofs.YtmgdkkhnjkepiaaGreat.BX
open Nat renaming reduceEqDiff → zA, reduceLT → zB, reduceLeDiff → zC, reduceAdd → zD, reduceMul → zE, reduceSub → zF, reduceBEq → zG
set_option linter.unusedSectionVars false
set_option linter.unusedSimpArgs false
set_option linter.unusedVariables false
open Go Go.RowKit
variable [Bd]
section
variable {x:Bool} {k:IntKind} {n:Int} {l:List UInt8} {cs cs2:List T} {y:T} {n':Nat} {t:TypeId} {f:FuncId}
theorem c_ag : T.cells (.ag cs)=cs:=rfl
theorem i_ag : T.isAg (.ag cs)=true:=rfl
theorem c_b : T.cells (.b x)=[.b x]:=rfl
theorem i_b : T.isAg (.b x)=false:=rfl
theorem n_b : T.one (.b x)=true:=rfl
theorem c_i : T.cells (.i k n)=[.i k n]:=rfl
theorem i_i : T.isAg (.i k n)=false:=rfl
theorem n_i : T.one (.i k n)=true:=rfl
theorem c_s : T.cells (.s l)=[.s l]:=rfl
theorem i_s : T.isAg (.s l)=false:=rfl
theorem n_s : T.one (.s l)=true:=rfl
theorem c_sl : T.cells (.sl cs)=[.sl cs]:=rfl
theorem n_sl : T.one (.sl cs)=true:=rfl
theorem c_po : T.cells (.po y n')=[.po y n']:=rfl
end
section
variable {cs:List AV} {z:T} {id i m off:Nat} {f:FuncId}
theorem ca_ag : AV.cells (.ag cs)=cs:=rfl
theorem ca_t : AV.cells (.t z)=z.cells.map .t:=rfl
theorem ia_ag : AV.isAg (.ag cs)=true:=rfl
theorem ia_t : AV.isAg (.t z)=z.isAg:=by cases z<;>rfl
theorem na_t : AV.one (.t z)=z.one:=rfl
theorem ca_ns : AV.cells (.ns)=[.ns]:=rfl
theorem ia_ns : AV.isAg (.ns)=false:=rfl
theorem ca_sr : AV.cells (.sr id)=[.sr id]:=rfl
theorem ia_sr : AV.isAg (.sr id)=false:=rfl
theorem na_sr : AV.one (.sr id)=true:=rfl
theorem ca_mr : AV.cells (.mr id)=[.mr id]:=rfl
theorem ca_fn : AV.cells (.fn f cs)=[.fn f cs]:=rfl
end
def dstAt : List Oper→Nat→Option Nat
 | [], _ => none
 | o :: _, 0 => o.dst
 | _ :: os, j + 1 => dstAt os j
theorem dstAt_eq : ∀ (l:List Oper) (j:Nat),((l.toArray)[j]?).bind (·.dst)=dstAt l j
 | [], j => by simp [dstAt]
 | o :: os, 0 => by simp [dstAt]
 | o :: os, j + 1 => by
   have:=dstAt_eq os j
   simp only [List.getElem?_toArray,List.getElem?_cons_succ,dstAt] at this ⊢
   exact this
@[congr] theorem dstAt_congr {l:List Oper} {j j':Nat} (h:tick j=j') : dstAt l j=dstAt l j':=by unfold tick at h; rw [h]
theorem d_zero {o:Oper} {os:List Oper} : dstAt (o :: os) 0=o.dst:=rfl
theorem d_succ {o:Oper} {os:List Oper} {j:Nat} : dstAt (o :: os) (j + 1)=dstAt os j:=rfl
section
variable {P:Program}
-- what is still to come is left alone till its turn comes
@[congr] theorem allAt_congr {α:Type} {l l':List α} {n n':Nat} {K:α→Prop} (h:tick l=l') (h2:n=n') : allAt l n K=allAt l' n' K:=by unfold tick at h; rw [h,h2]
theorem at_map {α β:Type} {f:α→β} {l:List α} {n:Nat} {K:β→Prop} : allAt (l.map f) n K = ∀ a,l[n]? = some a→K (f a):=by
 simp only [allAt,List.getElem?_map,Option.map_eq_some_iff]
 exact propext ⟨fun h a ha=>h _ ⟨a,ha,rfl⟩,fun h y ⟨a,ha,e⟩=>e ▸ h a ha⟩
theorem at_setE {α:Type} {l:List α} {i:Nat} {x:α} {K:α→Prop} : allAt (l.set i x) i K=(i < l.length→K x):=by
 refine propext ⟨fun h hi=>h x (by rw [List.getElem?_set_self hi]),fun h y hy=>?_⟩
 have hi:=(List.getElem?_eq_some_iff.1 hy).1
 rw [List.length_set] at hi
 rw [List.getElem?_set_self hi] at hy
 cases hy
 exact h hi
@[congr] theorem WL_congr {N:Nat} {c:Code} {k:Kont} {σ σ':St} (h:tick σ=σ') : WL P N c k σ=WL P N c k σ':=by unfold tick at h; rw [h]
@[congr] theorem W_congr {N:Nat} {D:DD} {c:Code} {k:Kont} {σ σ':St} (h:tick σ=σ') : W P N D c k σ=W P N D c k σ':=by unfold tick at h; rw [h]
@[congr] theorem vcCond_congr {x x':AV} {A B:Prop} (h:tick x=x') : vcCond x A B=vcCond x' A B:=by unfold tick at h; rw [h]
@[congr] theorem vcOps_congr {all:Array Oper} {os:List Oper} {σ σ':St} {K:St→Prop} (h:tick σ=σ') : vcOps P all os σ K=vcOps P all os σ' K:=by unfold tick at h; rw [h]
@[congr] theorem vcDr_congr {all:Array Oper} {m m':Nat} {os:List Oper} {σ σ':St} {K:St→Prop} (h:tick σ=σ') (h2:m=m') : vcDr P all m os σ K=vcDr P all m' os σ' K:=by unfold tick at h; rw [h,h2]
@[congr] theorem vcOp_congr {op:Op} {σ σ':St} {K:AV→List Ob→Prop} (h:tick σ=σ') : vcOp P σ op K=vcOp P σ' op K:=by unfold tick at h; rw [h]
@[congr] theorem vcLook_congr {op:Op} {ob ob':List Ob} {e:Operand→AV} {K:AV→Prop} (h:tick ob=ob') : vcLook P ob e op K=vcLook P ob' e op K:=by unfold tick at h; rw [h]
@[congr] theorem vcLen_congr {t:TypeId} {x x':AV} {ob ob':List Ob} {K:AV→Prop} (h0:tick x=x') (h1:ob=ob') : vcLen P t ob x K=vcLen P t ob' x' K:=by unfold tick at h0; rw [h0,h1]
@[congr] theorem vcLoad_congr {t:TypeId} {x x':AV} {ob ob':List Ob} {K:AV→Prop} (h0:tick x=x') (h1:ob=ob') : vcLoad P t x ob K=vcLoad P t x' ob' K:=by unfold tick at h0; rw [h0,h1]
@[congr] theorem pickA_congr {t:TypeId} {x x':AV} {o o':Nat} {K:AV→Prop} (h0:tick x=x') (h1:o=o') : pickA P t x o K=pickA P t x' o' K:=by unfold tick at h0; rw [h0,h1]
@[congr] theorem pickT_congr {t:TypeId} {x x':T} {o o':Nat} {K:T→Prop} (h0:tick x=x') (h1:o=o') : pickT P t x o K=pickT P t x' o' K:=by unfold tick at h0; rw [h0,h1]
@[congr] theorem vcBin_congr {b:BinOp} {t:TypeId} {x x':AV} {y y':AV} {K:AV→Prop} (h0:tick x=x') (h1:y=y') : vcBin P b t x y K=vcBin P b t x' y' K:=by unfold tick at h0; rw [h0,h1]
@[congr] theorem vcInt_congr {b:BinOp} {k:IntKind} {x x':Int} {y y':Int} {K:AV→Prop} (h0:tick x=x') (h1:y=y') : vcInt b k x y K=vcInt b k x' y' K:=by unfold tick at h0; rw [h0,h1]
@[congr] theorem vcStr_congr {b:BinOp} {x x':List UInt8} {y y':List UInt8} {K:AV→Prop} (h0:tick x=x') (h1:y=y') : vcStr b x y K=vcStr b x' y' K:=by unfold tick at h0; rw [h0,h1]
@[congr] theorem vcUn_congr {b:UnOp} {x x':AV} {K:AV→Prop} (h0:tick x=x') : vcUn b x K=vcUn b x' K:=by unfold tick at h0; rw [h0]
@[congr] theorem vcField_congr {s:TypeId} {f:Nat} {x x':AV} {K:AV→Prop} (h0:tick x=x') : vcField P s f x K=vcField P s f x' K:=by unfold tick at h0; rw [h0]
@[congr] theorem vcIndexAddr_congr {t:TypeId} {x x':AV} {y y':AV} {ob ob':List Ob} {K:AV→Prop} (h0:tick x=x') (h1:y=y') (h2:ob=ob') : vcIndexAddr P t ob x y K=vcIndexAddr P t ob' x' y' K:=by unfold tick at h0; rw [h0,h1,h2]
@[congr] theorem vcIndex_congr {t:TypeId} {x x':AV} {y y':AV} {K:AV→Prop} (h0:tick x=x') (h1:y=y') : vcIndex P t x y K=vcIndex P t x' y' K:=by unfold tick at h0; rw [h0,h1]
@[congr] theorem vcExtract_congr {i:Nat} {x x':AV} {K:AV→Prop} (h0:tick x=x') : vcExtract x i K=vcExtract x' i K:=by unfold tick at h0; rw [h0]
@[congr] theorem vcSlice_congr {t:TypeId} {x x':AV} {a a':Option AV} {b b':Option AV} {K:AV→Prop} (h0:tick x=x') (h1:a=a') (h2:b=b') : vcSlice P t x a b K=vcSlice P t x' a' b' K:=by unfold tick at h0; rw [h0,h1,h2]
@[congr] theorem bnd_congr  {d d':Int} {x x':Option AV} {K:Int→Prop} (h0:tick d=d') (h1:x=x') : bnd d x K=bnd d' x' K:=by unfold tick at h0; rw [h0,h1]
@[congr] theorem vcStore_congr {t:TypeId} {p p':AV} {x x':AV} {ob ob':List Ob} {K:AV→List Ob→Prop} (h0:tick p=p') (h1:x=x') (h2:ob=ob') : vcStore P t p x ob K=vcStore P t p' x' ob' K:=by unfold tick at h0; rw [h0,h1,h2]
@[congr] theorem vcBuild_congr {t:TypeId} {x x':List (Nat × AV)} {K:AV→Prop} (h0:tick x=x') : vcBuild P t x K=vcBuild P t x' K:=by unfold tick at h0; rw [h0]
@[congr] theorem vcBuildSlice_congr {t:TypeId} {n:Nat} {ks ks':List Nat} {xs xs':List AV} {ob ob':List Ob} {K:AV→List Ob→Prop} (h0:tick ks=ks') (h1:xs=xs') (h2:ob=ob') : vcBuildSlice P t n ks xs ob K=vcBuildSlice P t n ks' xs' ob' K:=by unfold tick at h0; rw [h0,h1,h2]
@[congr] theorem vcAppend_congr {t:TypeId} {s s':AV} {x x':AV} {ob ob':List Ob} {K:AV→List Ob→Prop} (h0:tick s=s') (h1:x=x') (h2:ob=ob') : vcAppend P t s x ob K=vcAppend P t s' x' ob' K:=by unfold tick at h0; rw [h0,h1,h2]
@[congr] theorem srcOf_congr {m i:Nat} {x x':AV} {k k':Kind} {ob ob':List Ob} {K:List T→List Nat→Kind→Prop} (h0:tick x=x') (h1:k=k') (h2:ob=ob') : srcOf m ob i k x K=srcOf m ob' i k' x' K:=by unfold tick at h0; rw [h0,h1,h2]
@[congr] theorem vcMake_congr {t:TypeId} {s s':AV} {x x':AV} {ob ob':List Ob} {K:AV→List Ob→Prop} (h0:tick s=s') (h1:x=x') (h2:ob=ob') : vcMake P t s x ob K=vcMake P t s' x' ob' K:=by unfold tick at h0; rw [h0,h1,h2]
@[congr] theorem vcCallO_congr  {f f':AV} {xs xs':List AV} {tm tm':List (Nat × AV)} {ob ob':List Ob} {K:AV→List Ob→Prop} (h0:tick f=f') (h1:xs=xs') (h2:tm=tm') (h3:ob=ob') : vcCallO P f xs tm ob K=vcCallO P f' xs' tm' ob' K:=by unfold tick at h0; rw [h0,h1,h2,h3]
@[congr] theorem vcCall_congr  {f f':AV} {xs xs':List AV} {ob ob':List Ob} {K:AV→Prop} (h0:tick f=f') (h1:xs=xs') (h2:ob=ob') : vcCall P f xs ob K=vcCall P f' xs' ob' K:=by unfold tick at h0; rw [h0,h1,h2]
@[congr] theorem vcLookup_congr {t:TypeId} {ok:Bool} {x x':AV} {k k':AV} {ob ob':List Ob} {K:AV→Prop} (h0:tick x=x') (h1:k=k') (h2:ob=ob') : vcLookup P t x k ok ob K=vcLookup P t x' k' ok ob' K:=by unfold tick at h0; rw [h0,h1,h2]
end
section
variable {P:Program} {ob:List Ob} {t s:TypeId} {KA:AV→Prop} {KL:AV→List Ob→Prop} {x:AV}
def onSome {α:Type} (o:Option α) (K:α→Prop) : Prop:=match o with | some a=>K a | none=>False
def onOpt {α:Type} (o:Option α) (K:α→Prop) (B:Prop) : Prop:=match o with | some a=>K a | none=>B
def onBox (o:Option Ob) (K:AV→Prop) : Prop:=match o with | some (.box y)=>K y | _=>False
def onArr (o:Option Ob) (K:TypeId→Nat→Kind→List T→Prop) : Prop:=match o with | some (.arr e m own es)=>K e m own es | _=>False
def onSli (l:Lay) (K:TypeId→Nat→Prop) : Prop:=match l with | .sli e m=>K e m | _=>False
def onMapL (l:Lay) (K:TypeId→TypeId→Prop) : Prop:=match l with | .map k e=>K k e | _=>False
def onStr (l:Lay) (K:Prop) : Prop:=match l with | .str=>K | _=>False
def onSt (l:Lay) (K:List (Nat × Nat)→Nat→Prop) : Prop:=match l with | .st fs m=>K fs m | _=>False
def onLay (l:Lay) (A:Nat→Prop) (B:Prop) : Prop:=match l with | .st _ m=>A m | l=>l.sc=true∧B
def onPair {α β:Type} (o:Option (α × β)) (K:α→β→Prop) : Prop:=match o with | some (a,b)=>K a b | none=>False
def onTri {α β γ:Type} (o:Option (α × β × γ)) (K:α→β→γ→Prop) : Prop:=match o with | some (a,b,c)=>K a b c | none=>False
@[congr] theorem onSome_congr {α:Type} {o o':Option α} {K:α→Prop} (h:tick o=o') : onSome o K=onSome o' K:=by unfold tick at h; rw [h]
@[congr] theorem onOpt_congr {α:Type} {o o':Option α} {K:α→Prop} {B:Prop} (h:tick o=o') : onOpt o K B=onOpt o' K B:=by unfold tick at h; rw [h]
@[congr] theorem onBox_congr {o o':Option Ob} {K:AV→Prop} (h:tick o=o') : onBox o K=onBox o' K:=by unfold tick at h; rw [h]
@[congr] theorem onArr_congr {o o':Option Ob} {K:TypeId→Nat→Kind→List T→Prop} (h:tick o=o') : onArr o K=onArr o' K:=by unfold tick at h; rw [h]
@[congr] theorem onSli_congr {o o':Lay} {K:TypeId→Nat→Prop} (h:tick o=o') : onSli o K=onSli o' K:=by unfold tick at h; rw [h]
@[congr] theorem onMapL_congr {o o':Lay} {K:TypeId→TypeId→Prop} (h:tick o=o') : onMapL o K=onMapL o' K:=by unfold tick at h; rw [h]
@[congr] theorem onStr_congr {o o':Lay} {K:Prop} (h:tick o=o') : onStr o K=onStr o' K:=by unfold tick at h; rw [h]
@[congr] theorem onSt_congr {o o':Lay} {K:List (Nat × Nat)→Nat→Prop} (h:tick o=o') : onSt o K=onSt o' K:=by unfold tick at h; rw [h]
@[congr] theorem onLay_congr {o o':Lay} {K:Nat→Prop} {B:Prop} (h:tick o=o') : onLay o K B=onLay o' K B:=by unfold tick at h; rw [h]
@[congr] theorem onPair_congr {α β:Type} {o o':Option (α × β)} {K:α→β→Prop} (h:tick o=o') : onPair o K=onPair o' K:=by unfold tick at h; rw [h]
@[congr] theorem onTri_congr {α β γ:Type} {o o':Option (α × β × γ)} {K:α→β→γ→Prop} (h:tick o=o') : onTri o K=onTri o' K:=by unfold tick at h; rw [h]
theorem s_some {α:Type} {a:α} {K:α→Prop} : onSome (some a) K=K a:=rfl
theorem s_box {y:AV} {K:AV→Prop} : onBox (some (.box y)) K=K y:=rfl
theorem s_arr {e:TypeId} {m:Nat} {own:Kind} {es:List T} {K:TypeId→Nat→Kind→List T→Prop} : onArr (some (.arr e m own es)) K=K e m own es:=rfl
theorem s_sli {e:TypeId} {m:Nat} {K:TypeId→Nat→Prop} : onSli (.sli e m) K=K e m:=rfl
theorem s_mapl {k e:TypeId} {K:TypeId→TypeId→Prop} : onMapL (.map k e) K=K k e:=rfl
theorem s_str {K:Prop} : onStr .str K=K:=rfl
theorem s_st {fs:List (Nat × Nat)} {m:Nat} {K:List (Nat × Nat)→Nat→Prop} : onSt (.st fs m) K=K fs m:=rfl
theorem s_pair {α β:Type} {a:α} {b:β} {K:α→β→Prop} : onPair (some (a,b)) K=K a b:=rfl
theorem s_tri {α β γ:Type} {a:α} {b:β} {c:γ} {K:α→β→γ→Prop} : onTri (some (a,b,c)) K=K a b c:=rfl
theorem s_lst {fs:List (Nat × Nat)} {m:Nat} {A:Nat→Prop} {B:Prop} : onLay (.st fs m) A B=A m:=rfl
theorem s_lint {i:IntKind} {A:Nat→Prop} {B:Prop} : onLay (.int i) A B=B:=by simp [onLay,Lay.sc]
theorem s_lbool {A:Nat→Prop} {B:Prop} : onLay .bool A B=B:=by simp [onLay,Lay.sc]
theorem s_lstr {A:Nat→Prop} {B:Prop} : onLay .str A B=B:=by simp [onLay,Lay.sc]
theorem s_lptr {A:Nat→Prop} {B:Prop} : onLay .ptr A B=B:=by simp [onLay,Lay.sc]
theorem s_lsli {e:TypeId} {m:Nat} {A:Nat→Prop} {B:Prop} : onLay (.sli e m) A B=B:=by simp [onLay,Lay.sc]
theorem s_lmap {e m:TypeId} {A:Nat→Prop} {B:Prop} : onLay (.map e m) A B=B:=by simp [onLay,Lay.sc]
theorem s_lfnc {A:Nat→Prop} {B:Prop} : onLay .fnc A B=B:=by simp [onLay,Lay.sc]
theorem v_loadrf {id off:Nat} : vcLoad P t (.rf id off) ob KA=onBox ob[id]? fun y=>y ≠ .un∧pickA P t y off KA:=by
 unfold vcLoad onBox; rfl
theorem v_loadt {y:T} {off:Nat} : vcLoad P t (.t (.po y off)) ob KA=pickT P t y off fun r=>KA (.t r):=rfl
def ldOb (P:Program) (t:TypeId) (m i off:Nat) (K:AV→Prop) : Ob→Prop
 | .arr _ m' k es => m=m' ∧ i < es.length∧allAt es i fun y=>pickT P t y off fun r=>K (k.look r)
 | .hole _ m' _ _ i' j id' => (m=m' ∧ i=i' ∧ off=j∧(lay P t).sc=true)∧K (.sr id')
 | _ => False
theorem v_loadra {id i m off:Nat} : vcLoad P t (.ra id i m off) ob KA=onSome ob[id]? (ldOb P t m i off KA):=by
 unfold vcLoad onSome
 dsimp only
 cases ob[id]? with
 | none => rfl
 | some o => cases o<;>rfl
theorem v_lda {e:TypeId} {m m' i off:Nat} {k:Kind} {es:List T} : ldOb P t m i off KA (.arr e m' k es)=(m=m' ∧ i < es.length∧allAt es i fun y=>pickT P t y off fun r=>KA (k.look r)):=rfl
theorem v_lkc {y:T} : Kind.look .clo y = .t y:=rfl
theorem v_lko {y:T} {sh:Sh} : Kind.look (.own sh) y = .bwc y:=rfl
def vcLd (P:Program) (t:TypeId) (x:AV) (tm:List (Nat × AV)) (ob:List Ob) (K:AV→List Ob→Prop) : Prop:=(vcLoad P t x ob fun r=>K r ob) ∨ vcOpen P t x tm ob K
@[congr] theorem vcLd_congr {x x':AV} {tm tm':List (Nat × AV)} {ob':List Ob} (h:tick x=x') (h2:tm=tm') (h3:ob=ob') : vcLd P t x tm ob KL=vcLd P t x' tm' ob' KL:=by unfold tick at h; rw [h,h2,h3]
section
variable {tm:List (Nat × AV)}
theorem v_ldrf {id off:Nat} : vcLd P t (.rf id off) tm ob KL=vcLoad P t (.rf id off) ob fun r=>KL r ob:=or_false _
theorem v_ldt {y:T} : vcLd P t (.t y) tm ob KL=vcLoad P t (.t y) ob fun r=>KL r ob:=or_false _
def ldo (P:Program) (t:TypeId) (id i m off:Nat) (tm:List (Nat × AV)) (ob:List Ob) (K:AV→List Ob→Prop) : Ob→Prop
 | .arr e m' (.own s) es => ldOb P t m i off (fun r=>K r ob) (.arr e m' (.own s) es) ∨ opn P t id i m off tm ob K e m' s es
 | o => ldOb P t m i off (fun r=>K r ob) o
@[congr] theorem ldo_congr {id i i' m off off':Nat} {tm tm':List (Nat × AV)} {ob':List Ob} {o o':Ob} (h:tick o=o') (h1:i=i') (h2:off=off') (h3:tm=tm') (h4:ob=ob') : ldo P t id i m off tm ob KL o=ldo P t id i' m off' tm' ob' KL o':=by unfold tick at h; rw [h,h1,h2,h3,h4]
@[congr] theorem ldOb_congr {i i' m off off':Nat} {o o':Ob} (h:tick o=o') (h1:i=i') (h2:off=off') : ldOb P t m i off KA o=ldOb P t m i' off' KA o':=by unfold tick at h; rw [h,h1,h2]
theorem v_ldra {id i m off:Nat} : vcLd P t (.ra id i m off) tm ob KL=onSome ob[id]? (ldo P t id i m off tm ob KL):=by
 unfold vcLd vcOpen
 rw [v_loadra]
 dsimp only
 unfold onSome
 generalize ob[id]? = o
 cases o with
 | none => exact or_false _
 | some o =>
   cases o with
   | arr e m' k es => cases k<;>first | rfl | exact or_false _
   | _ => exact or_false _
theorem plain_cells {s:Sh} (h:s.plain=true) {j:Nat} {e:TypeId} {m:Nat} {s':Sh} : s.cells[j]? ≠ some (.sl e m s'):=by
 intro hh
 cases s with
 | leaf => cases j<;>simp [Sh.cells] at hh
 | sl => cases h
 | ag ss =>
   simp only [Sh.cells] at hh
   have h : Sh.plains ss=true:=h
   have : ∀ (ss:List Sh) (j:Nat),Sh.plains ss=true→ss[j]? ≠ some (.sl e m s'):=by
    intro ss
    induction ss with
    | nil => intro j _ hh; simp at hh
    | cons x xs ih =>
      intro j h hh
      cases x with
      | leaf =>
        simp only [Sh.plains] at h
        cases j with
        | zero => simp at hh
        | succ j => exact ih j h (by simpa using hh)
      | _ => simp [Sh.plains] at h
   exact this ss j h hh
def ways (p:Bool) (A B:Prop) : Prop:=if p=true then A else A ∨ B
@[congr] theorem ways_congr {p p':Bool} {A B:Prop} (h:tick p=p') : ways p A B=ways p' A B:=by unfold tick at h; rw [h]
theorem wy_t {A B:Prop} : ways true A B=A:=rfl
theorem wy_f {A B:Prop} : ways false A B=(A ∨ B):=rfl
theorem v_ldoo {id i m off:Nat} {e:TypeId} {m':Nat} {s:Sh} {es:List T} : ldo P t id i m off tm ob KL (.arr e m' (.own s) es)=ways s.plain (ldOb P t m i off (fun r=>KL r ob) (.arr e m' (.own s) es)) (opn P t id i m off tm ob KL e m' s es):=by
 unfold ways
 split
 ·rename_i h
  refine propext ⟨fun hh=>hh.elim (fun h=>h) fun hh=>?_,.inl⟩
  unfold opn onShSl at hh
  split at hh
  ·rename_i hc; exact absurd hc (plain_cells h)
  ·cases hh
 ·rfl
@[congr] theorem onSl_congr {o o':Option T} {K:List T→Prop} (h:tick o=o') : onSl o K=onSl o' K:=by unfold tick at h; rw [h]
@[congr] theorem onShSl_congr {o o':Option Sh} {K:TypeId→Nat→Sh→Prop} (h:tick o=o') : onShSl o K=onShSl o' K:=by unfold tick at h; rw [h]
theorem s_onsl {xs:List T} {K:List T→Prop} : onSl (some (.sl xs)) K=K xs:=rfl
theorem s_onsh {e:TypeId} {m:Nat} {s:Sh} {K:TypeId→Nat→Sh→Prop} : onShSl (some (.sl e m s)) K=K e m s:=rfl
theorem v_opn {id i m off:Nat} {e:TypeId} {m':Nat} {s:Sh} {es:List T} : opn P t id i m off tm ob KL e m' s es=onShSl s.cells[off]? fun e1 m1 s1=>m=m' ∧ i < es.length∧(lay P t).sc=true∧tmNoBw tm=true∧obsNoBw ob=true∧allAt es i fun y=>onSl y.cells[off]? fun xs=>KL (.sr ob.length) (ob.set id (.hole e m' s es i off ob.length) ++ [.arr e1 m1 (.own s1) xs]):=rfl
theorem sc_ag {ss:List Sh} : Sh.cells (.ag ss)=ss:=rfl
end
theorem v_pickA {off:Nat} : pickA P t x off KA=onLay (lay P t) (fun m=>if off=0∧x.cells.length=m∧x.isAg=true then KA x else off + m≤x.cells.length∧KA (.ag ((x.cells.drop off).take m))) (onSome x.cells[off]? KA):=by
 unfold pickA onLay onSome; cases lay P t<;>cases x.cells[off]? <;> rfl
theorem v_pickT {y:T} {off:Nat} {K:T→Prop} : pickT P t y off K=onLay (lay P t) (fun m=>if off=0∧y.cells.length=m∧y.isAg=true then K y else off + m≤y.cells.length∧K (.ag ((y.cells.drop off).take m))) (onSome y.cells[off]? K):=by
 unfold pickT onLay onSome; cases lay P t<;>cases y.cells[off]? <;> rfl
def fld (x:AV) (o:Nat) (K:AV→Prop) : Prop:=match x with
 | .rf id off => K (.rf id (off + o))
 | .t (.po y off) => K (.t (.po y (off + o)))
 | .bw (.po y off) => K (.bw (.po y (off + o)))
 | .ra id i m off => K (.ra id i m (off + o))
 | _ => False
@[congr] theorem fld_congr {x':AV} {o o':Nat} {K:AV→Prop} (h:tick x=x') (h2:o=o') : fld x o K=fld x' o' K:=by unfold tick at h; rw [h,h2]
theorem v_field {f:Nat} : vcField P s f x KA=onSt (lay P s) fun fs _=>onPair fs[f]? fun o n=>n≠0∧fld x o KA:=by
 unfold vcField onSt onPair fld
 cases lay P s<;>try rfl
 case st fs m=>dsimp only; cases fs[f]? <;> rfl
theorem v_fldrf {id off o:Nat} : fld (.rf id off) o KA=KA (.rf id (off + o)):=rfl
theorem v_fldt {y:T} {off o:Nat} : fld (.t (.po y off)) o KA=KA (.t (.po y (off + o))):=rfl
theorem v_fldra {id i m off o:Nat} : fld (.ra id i m off) o KA=KA (.ra id i m (off + o)):=rfl
theorem v_iasl {es:List T} {k:IntKind} {n:Int} : vcIndexAddr P t ob (.t (.sl es)) (.t (.i k n)) KA=onSli (lay P t) fun _ m=>(0≤n∧n < es.length)∧allAt es n.toNat fun y=>y.cells.length=m∧KA (.t (.po y 0)):=by
 unfold vcIndexAddr onSli; cases lay P t<;>rfl
def ixOb (m id:Nat) (n:Int) (K:AV→Prop) : Ob→Prop
 | .arr _ m' _ es => m=m' ∧ (0≤n∧n < es.length)∧K (.ra id n.toNat m 0)
 | .hole _ m' _ es _ _ _ => m=m' ∧ (0≤n∧n < es.length)∧K (.ra id n.toNat m 0)
 | _ => False
theorem v_iasr {id:Nat} {k:IntKind} {n:Int} : vcIndexAddr P t ob (.sr id) (.t (.i k n)) KA=onSli (lay P t) fun _ m=>onSome ob[id]? (ixOb m id n KA):=by
 unfold vcIndexAddr onSli onSome
 cases lay P t<;>try rfl
 dsimp only
 cases ob[id]? with
 | none => rfl
 | some o => cases o<;>rfl
theorem v_ixa {e:TypeId} {m m' id:Nat} {n:Int} {k:Kind} {es:List T} : ixOb m id n KA (.arr e m' k es)=(m=m' ∧ (0≤n∧n < es.length)∧KA (.ra id n.toNat m 0)):=rfl
theorem v_ixs {l:List UInt8} {k:IntKind} {n:Int} : vcIndex P t (.t (.s l)) (.t (.i k n)) KA=(lay P t = .str∧(0≤n∧n < l.length)∧allAt l n.toNat fun c=>KA (.t (.i .u8 c.toNat))):=rfl
theorem v_lensl {es:List T} : vcLen P t ob (.t (.sl es)) KA=onSli (lay P t) fun _ _=>es.length < Bd.B→KA (.t (.i .i64 es.length)):=by
 unfold vcLen onSli; cases lay P t<;>rfl
theorem v_lens {l:List UInt8} : vcLen P t ob (.t (.s l)) KA=onStr (lay P t) (l.length < Bd.B→KA (.t (.i .i64 l.length))):=by
 unfold vcLen onStr; cases lay P t<;>rfl
theorem v_lenns : vcLen P t ob .ns KA=onSli (lay P t) fun _ _=>KA (.t (.i .i64 0)):=by
 unfold vcLen onSli; cases lay P t<;>rfl
def lnOb (K:AV→Prop) : Ob→Prop
 | .arr _ _ _ es => es.length < Bd.B→K (.t (.i .i64 es.length))
 | .hole _ _ _ es _ _ _ => es.length < Bd.B→K (.t (.i .i64 es.length))
 | _ => False
theorem v_lensr {id:Nat} : vcLen P t ob (.sr id) KA=onSli (lay P t) fun _ _=>onSome ob[id]? (lnOb KA):=by
 unfold vcLen onSli onSome
 cases lay P t<;>try rfl
 dsimp only
 cases ob[id]? with
 | none => rfl
 | some o => cases o<;>rfl
theorem v_lna {e:TypeId} {m:Nat} {k:Kind} {es:List T} : lnOb KA (.arr e m k es)=(es.length < Bd.B→KA (.t (.i .i64 es.length))):=rfl
theorem v_bini {op:BinOp} {k k':IntKind} {a b:Int} : vcBin P op t (.t (.i k a)) (.t (.i k' b)) KA=(k=k' ∧ vcInt op k a b KA):=rfl
theorem v_bins {op:BinOp} {a b:List UInt8} : vcBin P op t (.t (.s a)) (.t (.s b)) KA=vcStr op a b KA:=rfl
theorem v_binnb {a b:Bool} : vcBin P .neq t (.t (.b a)) (.t (.b b)) KA=(lay P t = .bool∧KA (.t (.b (decide (a≠b))))):=rfl
theorem v_pen : vcBin P .eql t (.t .np) (.t .np) KA=(lay P t = .ptr∧KA (.t (.b true))):=propext ⟨fun h=>⟨h.1,h.2.elim (fun h=>h.2) (fun h=>nomatch h.1)⟩,fun h=>⟨h.1,.inl ⟨rfl,h.2⟩⟩⟩
theorem v_pep {y:T} {o:Nat} : vcBin P .eql t (.t (.po y o)) (.t .np) KA=(lay P t = .ptr∧KA (.t (.b false))):=propext ⟨fun h=>⟨h.1,h.2.elim (fun h=>nomatch h.1) (fun h=>h.2)⟩,fun h=>⟨h.1,.inr ⟨rfl,h.2⟩⟩⟩
theorem v_add {a b:Int} : vcInt .add .i64 a b KA=(inI64 (a + b)∧KA (.t (.i .i64 (a + b)))):=rfl
theorem v_sub {a b:Int} : vcInt .sub .i64 a b KA=(inI64 (a - b)∧KA (.t (.i .i64 (a - b)))):=rfl
theorem v_mul {a b:Int} : vcInt .mul .i64 a b KA=(inI64 (a * b)∧KA (.t (.i .i64 (a * b)))):=rfl
theorem v_quo {k:IntKind} {a b:Int} : vcInt .quo k a b KA=(k = .i64∧0≤a∧0 < b∧inI64 a∧KA (.t (.i .i64 (a / b)))):=rfl
theorem v_rem {k:IntKind} {a b:Int} : vcInt .rem k a b KA=(0≤a∧0 < b∧KA (.t (.i k (a % b)))):=rfl
theorem v_eql {k:IntKind} {a b:Int} : vcInt .eql k a b KA=KA (.t (.b (decide (a=b)))):=rfl
theorem v_neq {k:IntKind} {a b:Int} : vcInt .neq k a b KA=KA (.t (.b (decide (a≠b)))):=rfl
theorem v_lss {k:IntKind} {a b:Int} : vcInt .lss k a b KA=KA (.t (.b (decide (a < b)))):=rfl
theorem v_leq {k:IntKind} {a b:Int} : vcInt .leq k a b KA=KA (.t (.b (decide (a≤b)))):=rfl
theorem v_gtr {k:IntKind} {a b:Int} : vcInt .gtr k a b KA=KA (.t (.b (decide (b < a)))):=rfl
theorem v_shr {k:IntKind} {a b:Int} : vcInt .shr k a b KA=(0≤b∧b≤shLim k∧KA (.t (.i k (a / 2 ^ b.toNat)))):=rfl
theorem v_limU : shLim .u64=60:=rfl
theorem v_geq {k:IntKind} {a b:Int} : vcInt .geq k a b KA=KA (.t (.b (decide (b≤a)))):=rfl
theorem v_sadd {a b:List UInt8} : vcStr .add a b KA=((a ++ b).length < Bd.B∧KA (.t (.s (a ++ b)))):=rfl
theorem v_seql {a b:List UInt8} : vcStr .eql a b KA=KA (.t (.b (decide (a=b)))):=rfl
theorem v_sneq {a b:List UInt8} : vcStr .neq a b KA=KA (.t (.b (decide (a≠b)))):=rfl
theorem v_slss {a b:List UInt8} : vcStr .lss a b KA=KA (.t (.b (Op.bytesLess a b))):=rfl
theorem v_sgtr {a b:List UInt8} : vcStr .gtr a b KA=KA (.t (.b (!(Op.bytesLess a b || decide (a=b))))):=rfl
theorem v_sgeq {a b:List UInt8} : vcStr .geq a b KA=KA (.t (.b (!Op.bytesLess a b))):=rfl
theorem v_not {a:Bool} : vcUn .not (.t (.b a)) KA=KA (.t (.b (!a))):=rfl
@[congr] theorem vcSl3_congr {x x' hi hi':AV} {ob':List Ob} (h:tick x=x') (h2:hi=hi') (h3:ob=ob') : vcSl3 P t x hi ob KL=vcSl3 P t x' hi' ob' KL:=by unfold tick at h; rw [h,h2,h3]
@[congr] theorem vcSlv_congr {x x':AV} {a a' b b':Option AV} {ob':List Ob} (h0:tick x=x') (h1:a=a') (h2:b=b') (h3:ob=ob') : vcSlv P t ob x a b KA=vcSlv P t ob' x' a' b' KA:=by unfold tick at h0; rw [h0,h1,h2,h3]
theorem v_slvt {y:T} {lo hi:Option AV} : vcSlv P t ob (.t y) lo hi KA=vcSlice P t (.t y) lo hi KA:=rfl
@[congr] theorem vcClear_congr {x x':AV} {ob':List Ob} (h:tick x=x') (h3:ob=ob') : vcClear P t x ob KL=vcClear P t x' ob' KL:=by unfold tick at h; rw [h,h3]
def onOwK (k:Kind) (A:Sh→Prop) : Prop:=match k with
 | .own s => A s
 | _ => False
@[congr] theorem onOwK_congr {k k':Kind} {A:Sh→Prop} (h:tick k=k') : onOwK k A=onOwK k' A:=by unfold tick at h; rw [h]
theorem v_sl3t {y:T} {hi:AV} : vcSl3 P t (.t y) hi ob KL=vcSlice P t (.t y) none (some hi) fun r=>KL r ob:=rfl
theorem v_sl3r {i:Nat} {k:IntKind} {n:Int} : vcSl3 P t (.sr i) (.t (.i k n)) ob KL=onSli (lay P t) fun e m=>onArr ob[i]? fun e' m' k es=>e'=e∧m'=m∧0≤n∧n≤(es.length : Int)∧KL (.sr ob.length) (ob.set i .dead ++ [.arr e m k (es.take n.toNat)]):=by
 unfold vcSl3
 dsimp only
 unfold vcShrink onSli onArr
 cases lay P t<;>try rfl
 cases ob[i]? with
 | none => rfl
 | some o => cases o<;>rfl
theorem v_exta {xs:List AV} {i:Nat} : vcExtract (.tp xs) i KA=onSome xs[i]? KA:=by
 unfold vcExtract onSome; dsimp only; cases xs[i]? <;> rfl
theorem v_extt {xs:List T} {i:Nat} : vcExtract (.t (.tp xs)) i KA=onSome xs[i]? fun y=>KA (.t y):=by
 unfold vcExtract onSome; dsimp only; cases xs[i]? <;> rfl
theorem v_bn {d:Int} {K:Int→Prop} : bnd d none K=K d:=rfl
theorem v_bs {d n:Int} {k:IntKind} {K:Int→Prop} : bnd d (some (.t (.i k n))) K=K n:=rfl
theorem v_slsl {es:List T} {lo hi:Option AV} : vcSlice P t (.t (.sl es)) lo hi KA=onSli (lay P t) fun _ m=>(∀ y∈es,y.cells.length=m)∧bnd 0 lo fun a=>bnd es.length hi fun b=>(0≤a∧a≤b∧b≤es.length)∧KA (.t (.sl ((es.take b.toNat).drop a.toNat))):=by
 unfold vcSlice onSli; cases lay P t<;>rfl
theorem v_sls {l:List UInt8} {lo hi:Option AV} : vcSlice P t (.t (.s l)) lo hi KA=onStr (lay P t) (bnd 0 lo fun a=>bnd l.length hi fun b=>(0≤a∧a≤b∧b≤l.length)∧KA (.t (.s ((l.take b.toNat).drop a.toNat)))):=by
 unfold vcSlice onStr; cases lay P t<;>rfl
theorem v_storerf {id off:Nat} : vcStore P t (.rf id off) x ob KL=onBox ob[id]? fun y=>y ≠ .un∧x ≠ .un∧allOne x.cells=true∧P.cellsOf t=x.cells.length∧off + x.cells.length≤y.cells.length∧x.cells.length≠0 ∧
        KL .ud (ob.set id (.box (if off=0∧y.cells.length=x.cells.length∧x.isAg=y.isAg then x else .ag (segA y.cells off x.cells)))):=by
 unfold vcStore onBox
 dsimp only
 cases ob[id]? with
 | none => rfl
 | some o => cases o<;>rfl
def onMix (o:Option (List T × List Nat × Kind)) (K:T→List Nat→Kind→Prop) : Prop:=match o with | some ([z],ids,k)=>K z ids k | _=>False
@[congr] theorem onMix_congr {o o':Option (List T × List Nat × Kind)} {K:T→List Nat→Kind→Prop} (h:tick o=o') : onMix o K=onMix o' K:=by unfold tick at h; rw [h]
theorem s_mix {z:T} {ids:List Nat} {k:Kind} {K:T→List Nat→Kind→Prop} : onMix (some ([z],ids,k)) K=K z ids k:=rfl
def flatCell : Option T→Prop
 | some c => c.flat=true∧c.one=true
 | none => False
theorem s_flatc {c:T} : flatCell (some c)=(c.flat=true∧c.one=true):=rfl
def onOwnP (o:Option Ob) (K:TypeId→Nat→Sh→List T→Prop) : Prop:=match o with | some (.arr e m (.own s) es)=>K e m s es | _=>False
@[congr] theorem onOwnP_congr {o o':Option Ob} {K:TypeId→Nat→Sh→List T→Prop} (h:tick o=o') : onOwnP o K=onOwnP o' K:=by unfold tick at h; rw [h]
def onSr (x:AV) (K:Nat→Prop) : Prop:=match x with | .sr n=>K n | _=>False
@[congr] theorem onSr_congr {x x':AV} {K:Nat→Prop} (h:tick x=x') : onSr x K=onSr x' K:=by unfold tick at h; rw [h]
def stOb (P:Program) (t:TypeId) (id i m off:Nat) (x:AV) (ob:List Ob) (KL:AV→List Ob→Prop) : Option Ob→Prop
 | some (.arr e m' k es) => (m=m' ∧ i < es.length)∧onMix (mix ob k [x]) fun z ids k' =>
  (ids.contains id=false∧nodupB ids=true)∧(T.allOne z.cells=true∧P.cellsOf t=z.cells.length∧z.cells.length≠0)∧allAt es i fun y =>
   if off=0∧z.cells.length=m∧z.isAg=y.isAg then KL .ud ((killAll ids ob).set id (.arr e m k' (es.set i z)))
   else (z.flat=true∧z.one=true∧off < m∧y.cells.length=m∧y.isAg=true∧ids=[])∧flatCell y.cells[off]? ∧ KL .ud (ob.set id (.arr e m k (es.set i (.ag (y.cells.set off z)))))
 | some (.hole e m' s es i' j _) => (m=m' ∧ i=i' ∧ off=j)∧onSr x fun n=>onOwnP ob[n]? fun e1 m1 s1 xs=>(s.cells[j]? = some (.sl e1 m1 s1)∧P.cellsOf t=1∧off < m)∧allAt es i fun y=>KL .ud ((ob.set n .dead).set id (.arr e m (.own s) (es.set i (y.setCell j (.sl xs)))))
 | _ => False
@[congr] theorem stOb_congr {t:TypeId} {id i m off:Nat} {x x':AV} {ob ob':List Ob} {KL:AV→List Ob→Prop} {o o':Option Ob} (h1:tick x=x') (h2:tick ob=ob') (h3:tick o=o') : stOb P t id i m off x ob KL o=stOb P t id i m off x' ob' KL o':=by unfold tick at *; rw [h1,h2,h3]
theorem v_storera {id i m off:Nat} : vcStore P t (.ra id i m off) x ob KL=stOb P t id i m off x ob KL ob[id]?:=by
 unfold vcStore stOb onMix flatCell onSr onOwnP
 dsimp only
 cases ob[id]? with
 | none => rfl
 | some o =>
   cases o<;>rfl
theorem v_sta {id i m off:Nat} {e:TypeId} {m':Nat} {k:Kind} {es:List T} : stOb P t id i m off x ob KL (some (.arr e m' k es))=((m=m' ∧ i < es.length)∧onMix (mix ob k [x]) fun z ids k' =>
 (ids.contains id=false∧nodupB ids=true)∧(T.allOne z.cells=true∧P.cellsOf t=z.cells.length∧z.cells.length≠0)∧allAt es i fun y =>
  if off=0∧z.cells.length=m∧z.isAg=y.isAg then KL .ud ((killAll ids ob).set id (.arr e m k' (es.set i z)))
  else (z.flat=true∧z.one=true∧off < m∧y.cells.length=m∧y.isAg=true∧ids=[])∧flatCell y.cells[off]? ∧ KL .ud (ob.set id (.arr e m k (es.set i (.ag (y.cells.set off z)))))):=rfl
theorem v_build {parts:List (Nat × AV)} : vcBuild P t parts KA=onSt (lay P t) fun fs _=>onSome (zeroOf P t) fun z=>onSome (fillA fs (ofV z).cells parts) fun cells=>(ofV z).known=true∧KA (.ag cells):=by
 unfold vcBuild onSt onSome
 cases lay P t<;>cases zeroOf P t<;>try rfl
 case st.some fs m z=>dsimp only; cases fillA fs (ofV z).cells parts<;>rfl
theorem v_bsl {n:Nat} {ks:List Nat} {xs:List AV} : vcBuildSlice P t n ks xs ob KL=onSli (lay P t) fun e m=>ks=List.range' 0 n∧n * m≤16777216∧n < Bd.B∧(zeroOf P e).isSome=true∧onTri (mix ob (.own (shOf P 40 e)) xs) fun ys ids k=>nodupB ids=true∧allLen m ys=true∧allOnes ys=true∧KL (.sr ob.length) (killAll ids ob ++ [.arr e m k ys]):=by
 unfold vcBuildSlice onSli onTri
 cases lay P t<;>try rfl
 case sli e m =>
  dsimp only
  cases mix ob (.own (shOf P 40 e)) xs with
  | none => rfl
  | some p => obtain ⟨a,b,c⟩:=p; rfl
theorem v_appsr {i:Nat} : vcAppend P t (.sr i) x ob KL=onSli (lay P t) fun e m=>0 < m∧((zeroOf P e).map (·.cells.size)=some m)∧Bd.B * P.bytesOf e≤140737488355328 ∧
 onArr ob[i]? fun e' m' k es=>e'=e∧m'=m∧srcOf m ob i k x fun es2 ids k'=>(es ++ es2).length < Bd.B∧KL (.sr ob.length) ((killAll ids ob).set i .dead ++ [.arr e m k' (es ++ es2)]):=by
 unfold vcAppend onSli onArr; cases lay P t<;>rfl
theorem v_appns : vcAppend P t .ns x ob KL=onSli (lay P t) fun e m=>0 < m∧((zeroOf P e).map (·.cells.size)=some m)∧Bd.B * P.bytesOf e≤140737488355328 ∧
 srcOf m ob ob.length (.own (shOf P 40 e)) x fun es2 ids k'=>es2.length < Bd.B∧KL (.sr ob.length) (killAll ids ob ++ [.arr e m k' es2]):=by
 unfold vcAppend onSli; cases lay P t<;>rfl
def srcT (kd:Kind) (es:List T) (K:List T→List Nat→Kind→Prop) : Prop:=match kd with
 | .own s => if s.plain=true then fitsAll s es=true∧K es [] (.own s) else K es [] .clo
 | kd => K es [] kd
def srcR (j:Nat) (kd k':Kind) (es:List T) (K:List T→List Nat→Kind→Prop) : Prop:=match kd,k' with
 | .own s, .own s' => s'=s∧if s.plain=true then K es [] (.own s) else K es [j] (.own s)
 | .own _, .clo => K es [] .clo
 | .clo, .own _ => K es [j] .clo
 | .clo, .clo => K es [] .clo
 | _, _ => K es [] .bor
section
variable {sh sh':Sh} {es:List T} {j:Nat} {K:List T→List Nat→Kind→Prop}
theorem v_sto : srcT (.own sh) es K=if sh.plain=true then fitsAll sh es=true∧K es [] (.own sh) else K es [] .clo:=rfl
theorem v_sroo : srcR j (.own sh) (.own sh') es K=(sh'=sh∧if sh.plain=true then K es [] (.own sh) else K es [j] (.own sh)):=rfl
theorem v_srcc : srcR j .clo .clo es K=K es [] .clo:=rfl
end
theorem v_srct {m i:Nat} {kd:Kind} {es:List T} {k:List T→List Nat→Kind→Prop} : srcOf m ob i kd (.t (.sl es)) k=(allLen m es=true∧srcT kd es k):=by cases kd<;>rfl
theorem v_srcsr {m i j:Nat} {kd:Kind} {k:List T→List Nat→Kind→Prop} : srcOf m ob i kd (.sr j) k=onArr ob[j]? fun _ m' k' es=>m'=m∧if i=j then kd.plainOwn=true∧srcR j kd k' es k else srcR j kd k' es k:=by
 have h0 : srcOf m ob i kd (.sr j) k=onArr ob[j]? fun _ m' k' es=>m'=m∧(i≠j ∨ kd.plainOwn=true)∧srcR j kd k' es k:=by
  unfold srcOf onArr srcR
  rfl
 rw [h0]
 congr 1
 funext _ m' k' es
 by_cases h : i=j
 ·subst h
  simp only [ne_eq,not_true_eq_false,false_or,if_true]
 ·simp only [h,ne_eq,not_false_eq_true,true_or,if_false,true_and]
theorem v_make {k k':IntKind} {n n':Int} : vcMake P t (.t (.i k n)) (.t (.i k' n')) ob KL=onSli (lay P t) fun e m=>n=n' ∧ 0≤n∧n < Bd.B∧0 < m∧Bd.B * P.bytesOf e≤281474976710656∧onSome (zeroOf P e) fun z=>onPair ((ofV z).own [] (shOf P 40 e)) fun y _ =>
 y.cells.length=m∧T.allOne y.cells=true∧KL (.sr ob.length) (ob ++ [.arr e m (.own (shOf P 40 e)) (List.replicate n.toNat y)]):=by
 unfold vcMake onSli onSome onPair
 cases lay P t<;>try rfl
 case sli e m =>
  dsimp only
  cases zeroOf P e with
  | none => rfl
  | some z => dsimp only; cases (ofV z).own [] (shOf P 40 e)<;>rfl
theorem v_call {f:FuncId} {caps xs:List AV} (h:f < 1000000) : vcCall P (.fn f caps) xs ob KA=onSome (seesW (AV.see ob 5) (xs ++ caps)) fun ts=>CallV P f ts (shuts (xs ++ caps)).isSome fun r=>KA (.t r):=by
 unfold vcCall onSome; simp only [calleeOf,calleeI,if_pos h]; cases seesW (AV.see ob 5) (xs ++ caps)<;>rfl
theorem v_callt {f:FuncId} {caps:List T} {xs:List AV} (h:f < 1000000) : vcCall P (.t (.fn f caps)) xs ob KA=onSome (seesW (AV.see ob 5) (xs ++ caps.map .t)) fun ts=>CallV P f ts (shuts (xs ++ caps.map .t)).isSome fun r=>KA (.t r):=by
 unfold vcCall onSome; simp only [calleeOf,calleeI,if_pos h]; cases seesW (AV.see ob 5) (xs ++ caps.map .t)<;>rfl
theorem v_callo {f:FuncId} {caps xs:List AV} {tm:List (Nat × AV)} (h:f < 1000000) : vcCallO P (.fn f caps) xs tm ob KL=Callx P f (xs ++ caps) (seesW (AV.see ob 5) (xs ++ caps)) (shuts (xs ++ caps)).isSome (tmNoBw tm) ob KL:=by unfold vcCallO; simp only [calleeOf,calleeI,if_pos h]
theorem v_callot {f:FuncId} {caps:List T} {xs:List AV} {tm:List (Nat × AV)} (h:f < 1000000) : vcCallO P (.t (.fn f caps)) xs tm ob KL=Callx P f (xs ++ caps.map .t) (seesW (AV.see ob 5) (xs ++ caps.map .t)) (shuts (xs ++ caps.map .t)).isSome (tmNoBw tm) ob KL:=by unfold vcCallO; simp only [calleeOf,calleeI,if_pos h]
@[congr] theorem vcMapUpd_congr {m m' k k' v v':AV} {ob':List Ob} (h:tick m=m') (h1:k=k') (h2:v=v') (h3:ob=ob') : vcMapUpd P t m k v ob KL=vcMapUpd P t m' k' v' ob' KL:=by unfold tick at h; rw [h,h1,h2,h3]
@[congr] theorem vcDelete_congr {m m' k k':AV} {ob':List Ob} (h:tick m=m') (h1:k=k') (h3:ob=ob') : vcDelete P t m k ob KL=vcDelete P t m' k' ob' KL:=by unfold tick at h; rw [h,h1,h3]
@[congr] theorem vcMakeMap_congr {r r':Option AV} {ob':List Ob} (h:tick r=r') (h3:ob=ob') : vcMakeMap P t r ob KL=vcMakeMap P t r' ob' KL:=by unfold tick at h; rw [h,h3]
@[congr] theorem vcRange_congr {x x':AV} {ob':List Ob} (h:tick x=x') (h3:ob=ob') : vcRange P t x ob KL=vcRange P t x' ob' KL:=by unfold tick at h; rw [h,h3]
@[congr] theorem vcNext_congr {x x':AV} {ob':List Ob} (h:tick x=x') (h3:ob=ob') : vcNext x ob KL=vcNext x' ob' KL:=by unfold tick at h; rw [h,h3]
@[congr] theorem vcEntry_congr {x x':AV} {ob':List Ob} (h:tick x=x') (h3:ob=ob') : vcEntry x ob KL=vcEntry x' ob' KL:=by unfold tick at h; rw [h,h3]
@[congr] theorem vcMapEnt_congr {m m' k k':AV} {ob':List Ob} (h:tick m=m') (h1:k=k') (h3:ob=ob') : vcMapEnt P t m k ob KL=vcMapEnt P t m' k' ob' KL:=by unfold tick at h; rw [h,h1,h3]
@[congr] theorem vcEntSt_congr {m m' k k' v v':AV} {ob':List Ob} (h:tick m=m') (h1:k=k') (h2:v=v') (h3:ob=ob') : vcEntSt m k v ob KL=vcEntSt m' k' v' ob' KL:=by unfold tick at h; rw [h,h1,h2,h3]
noncomputable def mentOb (s:Bool × List Lay) (kx z:T) (id:Nat) (ob:List Ob) (K:AV→List Ob→Prop) : Ob→Prop
 | .map a b (.own .leaf) ks vs _ => (∀ y∈ks,isKey s y)∧(kx ∉ ks→ks.length + 1 < Bd.B)∧∀ (n:Int) (v:T),getV ks vs kx z=some v→K (.tp [.t v,.t (.i .i64 n)]) (ob.set id (.map a b (.own .leaf) (updK ks kx) (updV ks vs kx v) (some (n,kx))))
 | _ => False
def onT (x:AV) (A:T→Prop) : Prop:=match x with
 | .t z => A z
 | _ => False
@[congr] theorem onT_congr {x x':AV} {A:T→Prop} (h:tick x=x') : onT x A=onT x' A:=by unfold tick at h; rw [h]
@[congr] theorem vcConvert_congr {d:TypeId} {x x':AV} {ob':List Ob} (h:tick x=x') (h3:ob=ob') : vcConvert P t d ob x KA=vcConvert P t d ob' x' KA:=by unfold tick at h; rw [h,h3]
def onCv (l:Lay) (A:IntKind→Prop) (B:Prop) : Prop:=match l with
 | .int k => A k
 | .str => B
 | _ => False
theorem cv_i {k:IntKind} {A:IntKind→Prop} {B:Prop} : onCv (.int k) A B=A k:=rfl
theorem cv_s {A:IntKind→Prop} {B:Prop} : onCv .str A B=B:=rfl
theorem v_cvi {d:TypeId} {k:IntKind} {n:Int} : vcConvert P t d ob (.t (.i k n)) KA=onCv (lay P d) (fun k'=>lay P t ≠ .oth∧P.underlying d=some (.int k')∧KA (.t (.i k' (k'.wrap n)))) False:=by
 unfold vcConvert onCv
 cases lay P d<;>try rfl
 cases lay P t<;>rfl
theorem v_cvr {d:TypeId} {id:Nat} : vcConvert P t d ob (.sr id) KA=onCv (lay P d) (fun _=>False) (onSli (lay P t) fun e m=>m=1∧lay P e = .int .u8∧onArr ob[id]? fun _ _ _ es=>onSome (bytesOf es) fun l=>KA (.t (.s l))):=by
 unfold vcConvert onCv onSli onArr onSome
 cases lay P d<;>try rfl
 cases lay P t<;>try rfl
 dsimp only
 cases ob[id]? with
 | none => rfl
 | some o =>
   cases o<;>try rfl
   dsimp only
   cases bytesOf _<;>rfl
theorem loth_i {k:IntKind} : (Lay.int k=Lay.oth)=False:=by simp
theorem bo_nil : bytesOf []=some []:=rfl
theorem bo_i {n:Int} {r:List T} : bytesOf (.i .u8 n :: r)=(bytesOf r).map (UInt8.ofNat n.toNat :: ·):=by
 simp only [bytesOf]
 cases bytesOf r<;>rfl
@[congr] theorem vcIface_congr {x x':AV} (h:tick x=x') : vcIface P t x KA=vcIface P t x' KA:=by unfold tick at h; rw [h]
@[congr] theorem vcInv_congr {x x':AV} {nm:String} {xs xs':List AV} {ob':List Ob} (h:tick x=x') (h1:xs=xs') (h3:ob=ob') : vcInv P x nm xs ob KA=vcInv P x' nm xs' ob' KA:=by unfold tick at h; rw [h,h1,h3]
theorem v_ifc {x:AV} : vcIface P t x KA=(P.concrete t=true∧onSome x.shut fun y=>KA (.t (.ifc t y))):=by
 unfold vcIface onSome
 cases x.shut<;>rfl
theorem v_inv {tt:TypeId} {y:T} {nm:String} {xs:List AV} : vcInv P (.t (.ifc tt y)) nm xs ob KA=onSome (methOf P tt nm) fun g=>onSome (seesW (AV.see ob 5) (.t y :: xs)) fun ts=>CallV P g ts (shuts (.t y :: xs)).isSome fun r=>KA (.t r):=by
 unfold vcInv onSome
 dsimp only
 cases methOf P tt nm with
 | none => rfl
 | some g =>
   dsimp only
   cases seesW (AV.see ob 5) (.t y :: xs)<;>rfl
noncomputable def mupOb (s:Bool × List Lay) (kx z:T) (id:Nat) (ob:List Ob) (K:AV→List Ob→Prop) : Ob→Prop
 | .map a b (.own .leaf) ks vs _ => (∀ y∈ks,isKey s y)∧(kx ∉ ks→ks.length + 1 < Bd.B)∧K .ud (ob.set id (.map a b (.own .leaf) (updK ks kx) (updV ks vs kx z) none))
 | _ => False
theorem v_mup {id:Nat} {k v:AV} : vcMapUpd P t (.mr id) k v ob KL=onMapL (lay P t) fun kt _=>onSome k.shut fun kx=>onSome v.shut fun z=>onSome (keyLay P kt) fun s=>isKey s kx∧z.flat=true∧z.one=true∧onSome ob[id]? (mupOb s kx z id ob KL):=by
 unfold vcMapUpd onMapL onSome
 cases lay P t<;>cases k.shut<;>try rfl
 cases v.shut<;>try rfl
 dsimp only
 cases keyLay P _<;>try rfl
 dsimp only
 cases ob[id]? with
 | none => rfl
 | some o => cases o with
   | map a b k ks vs p => cases k with
     | own s => cases s<;>rfl
     | clo => rfl
     | bor => rfl
   | _ => rfl
theorem v_mupo {s:Bool × List Lay} {kx z:T} {id:Nat} {a b:TypeId} {ks vs:List T} {p:Option (Int × T)} : mupOb s kx z id ob KL (.map a b (.own .leaf) ks vs p)=((∀ y∈ks,isKey s y)∧(kx ∉ ks→ks.length + 1 < Bd.B)∧KL .ud (ob.set id (.map a b (.own .leaf) (updK ks kx) (updV ks vs kx z) none))):=rfl
theorem v_mmap0 : vcMakeMap P t none ob KL=onMapL (lay P t) fun kt et=>KL (.mr ob.length) (ob ++ [.map kt et (.own .leaf) [] [] none]):=by
 unfold vcMakeMap onMapL; cases lay P t<;>rfl
theorem y_cell {l:Lay} {x:T} : isKey (false,[l]) x=keyCell l x:=rfl
theorem yc_i {k k':IntKind} {n:Int} : keyCell (.int k) (.i k' n)=(k'=k):=rfl
theorem yc_s {x:List UInt8} : keyCell .str (.s x)=True:=rfl
def lookM (s:Bool × List Lay) (z:Value) (kx:T) (ok:Bool) (kd:Kind) (ks vs:List T) (K:AV→Prop) : Prop :=
 (∀ y∈ks,isKey s y)∧(∀ (i:Nat) (v:T),ks[i]? = some kx→vs[i]? = some v→K (if ok=true then .tp [kd.look v,.t (.b true)] else kd.look v))∧(kx ∉ ks→K (if ok=true then .tp [ofV z,.t (.b false)] else ofV z))
def lkOb (s:Bool × List Lay) (z:Value) (kx:T) (ok:Bool) (K:AV→Prop) : Ob→Prop
 | .map _ _ kd ks vs _ => lookM s z kx ok kd ks vs K
 | _ => False
@[congr] theorem lookM_congr {s:Bool × List Lay} {z:Value} {kx kx':T} {ok:Bool} {kd:Kind} {ks ks' vs vs':List T} {K:AV→Prop} (h:tick kx=kx') (h2:ks=ks') (h3:vs=vs') : lookM s z kx ok kd ks vs K=lookM s z kx' ok kd ks' vs' K:=by unfold tick at h; rw [h,h2,h3]
theorem v_lkmr {id:Nat} {k:AV} {ok:Bool} : vcLookup P t (.mr id) k ok ob KA=onMapL (lay P t) fun kt et=>onSome k.shut fun kx=>onSome (keyLay P kt) fun s=>onSome (zeroOf P et) fun z=>isKey s kx∧onSome ob[id]? (lkOb s z kx ok KA):=by
 unfold vcLookup onMapL onSome
 cases lay P t<;>cases k.shut<;>try rfl
 dsimp only
 cases keyLay P _<;>cases zeroOf P _<;>try rfl
 dsimp only
 cases ob[id]? with
 | none => rfl
 | some o => cases o<;>rfl
theorem v_lkom {a b:TypeId} {kd:Kind} {ks vs:List T} {p:Option (Int × T)} {s:Bool × List Lay} {z:Value} {kx:T} {ok:Bool} : lkOb s z kx ok KA (.map a b kd ks vs p)=lookM s z kx ok kd ks vs KA:=rfl
theorem v_lkt {ks vs:List T} {k:AV} {ok:Bool} : vcLookup P t (.t (.mp ks vs)) k ok ob KA=onMapL (lay P t) fun kt et=>onSome k.shut fun kx=>onSome (keyLay P kt) fun s=>onSome (zeroOf P et) fun z=>isKey s kx∧lookM s z kx ok .clo ks vs KA:=by
 unfold vcLookup onMapL onSome
 cases lay P t<;>cases k.shut<;>try rfl
 dsimp only
 cases keyLay P _<;>cases zeroOf P _<;>rfl
theorem v_out0 {σ:St} {K:List AV→Prop} : vcOuts P σ [] K=K []:=rfl
theorem v_outt {σ:St} {i:Nat} {r:List ResultVar} {K:List AV→Prop} : vcOuts P σ (.tmp i :: r) K=vcOuts P σ r fun xs=>K (getL σ.tm i :: xs):=rfl
theorem v_outc {σ:St} {i:Nat} {r:List ResultVar} {K:List AV→Prop} : vcOuts P σ (.cell i t :: r) K=vcLoad P t (getL σ.tm i) σ.ob fun x=>vcOuts P σ r fun xs=>K (x :: xs):=rfl
theorem v_close {N:Nat} {y:AV} {r:T} {obs:List Ob} : vcClose N y ob (.t r) obs=onPair (y.take ob 5) fun r' ids=>nodupB ids=true∧r'=r∧Rest N (killAll ids ob) obs:=by
 unfold vcClose onPair
 dsimp only
 cases y.take ob 5<;>rfl
theorem v_closeo {N:Nat} {y:AV} {obs:List Ob} {i:Nat} : vcClose N y ob (.sr i) obs=Close N y ob (.sr i) obs:=rfl
theorem v_closea {N:Nat} {y:AV} {obs:List Ob} {cs:List AV} : vcClose N y ob (.ag cs) obs=Close N y ob (.ag cs) obs:=rfl
theorem v_closep {N:Nat} {y:AV} {obs:List Ob} {cs:List AV} : vcClose N y ob (.tp cs) obs=Close N y ob (.tp cs) obs:=rfl
theorem v_closef {N:Nat} {y:AV} {obs:List Ob} {i o:Nat} : vcClose N y ob (.rf i o) obs=Close N y ob (.rf i o) obs:=rfl
theorem v_rest0 : Rest 0 ob []=True:=eq_true Rest.nil
@[congr] theorem Close_congr {N:Nat} {y y':AV} {ob':List Ob} {x:AV} {obs:List Ob} (h:tick y=y') (h2:ob=ob') : Close N y ob x obs=Close N y' ob' x obs:=by unfold tick at h; rw [h,h2]
@[congr] theorem vcClose_congr {N:Nat} {y y':AV} {ob':List Ob} {x:AV} {obs:List Ob} (h:tick y=y') (h2:ob=ob') : vcClose N y ob x obs=vcClose N y' ob' x obs:=by unfold tick at h; rw [h,h2]
@[congr] theorem vcOuts_congr {σ σ':St} {r:List ResultVar} {K:List AV→Prop} (h:tick σ=σ') : vcOuts P σ r K=vcOuts P σ' r K:=by unfold tick at h; rw [h]
def onG (x:AV) (b:Bool) (Run Skip:AV→Prop) : Prop :=
 match x with
 | .t (.b x) => if x=true then (if b=true then Run (.t (.b true)) else Skip (.t (.b true))) else (if b=true then Skip (.t (.b false)) else Run (.t (.b false)))
 | .ud => Skip .ud
 | _ => False
@[congr] theorem onG_congr {x':AV} {b:Bool} {R S:AV→Prop} (h:tick x=x') : onG x b R S=onG x' b R S:=by unfold tick at h; rw [h]
theorem g_bt {x:Bool} {R S:AV→Prop} : onG (.t (.b x)) true R S=if x=true then R (.t (.b true)) else S (.t (.b false)):=by cases x<;>rfl
theorem g_bf {x:Bool} {R S:AV→Prop} : onG (.t (.b x)) false R S=if x=true then S (.t (.b true)) else R (.t (.b false)):=by cases x<;>rfl
theorem g_ud {b:Bool} {R S:AV→Prop} : onG .ud b R S=S .ud:=rfl
def onPick (c x y:AV) (K:AV→Prop) : Prop:=match c with
 | .t (.b v) => K (if v=true then x else y)
 | _ => False
@[congr] theorem onPick_congr {c c' x x' y y':AV} {K:AV→Prop} (h:tick c=c') (h2:x=x') (h3:y=y') : onPick c x y K=onPick c' x' y' K:=by unfold tick at h; rw [h,h2,h3]
theorem p_b {v:Bool} {y:AV} {K:AV→Prop} : onPick (.t (.b v)) x y K=if v=true then K x else K y:=by cases v<;>rfl
end
section
variable {P:Program} {σ:St} {n:Nat} {tm:List (Nat × AV)} {ob:List Ob} {all:Array Oper} {rest:List Oper} {KS:St→Prop} {K:AV→List Ob→Prop} {KA:AV→Prop} {e:Operand→AV}
 {d:Option Nat} {op:Op} {ty t t':TypeId} {ps:String} {af:Array Edge} {x y p:Operand} {k:Kont}
theorem e_nil : vcOps P all [] σ KS=KS σ:=rfl
theorem e_cons : vcOps P all (⟨d,op,ty,ps,af,none⟩ :: rest) σ KS=(dstOk σ.n d∧vcOp P σ op fun x ob=>vcOps P all rest (({ σ with ob:=ob } : St).set d x) KS):=rfl
theorem guard_on {l:List Oper} {j:Nat} {b:Bool} {R S:St→Prop} : vcGuard ⟨l⟩ σ ⟨d,op,ty,ps,af,some (j,b)⟩ R S=onSome (dstAt l j) fun m=>onG (getL σ.tm m) b (fun y=>R (σ.set (some m) y)) (fun y=>S (σ.set (some m) y)):=by
 rw [← dstAt_eq]
 simp only [vcGuard]
 cases ((l.toArray)[j]?).bind (·.dst) with
 | none => rfl
 | some m =>
   simp only [onSome]
   cases getL σ.tm m<;>rfl
theorem e_consg {l:List Oper} {j:Nat} {b:Bool} : vcOps P ⟨l⟩ (⟨d,op,ty,ps,af,some (j,b)⟩ :: rest) σ KS=(dstOk σ.n d∧onSome (dstAt l j) fun m=>onG (getL σ.tm m) b
 (fun y=>vcOp P (σ.set (some m) y) op (fun x ob=>vcOps P ⟨l⟩ rest ((⟨(σ.set (some m) y).n,(σ.set (some m) y).tm,ob⟩ : St).set d x) KS)) (fun y=>vcOps P ⟨l⟩ rest ((σ.set (some m) y).set d .ud) KS)):=congrArg (dstOk σ.n d∧·) (guard_on (σ:=σ) (R:=fun σ=>vcOp P σ op fun x ob=>vcOps P ⟨l⟩ rest (({ σ with ob:=ob } : St).set d x) KS) (S:=fun σ=>vcOps P ⟨l⟩ rest (σ.set d .ud) KS))
theorem e_setS {v:AV} {m:Nat} : St.set ⟨n,tm,ob⟩ (some m) v=⟨n,(m,v) :: tm,ob⟩:=rfl
theorem e_setN {v:AV} : σ.set none v=σ:=rfl
theorem e_dstS {m:Nat} : dstOk n (some m)=(m < n):=rfl
theorem e_dstN : dstOk n none=True:=rfl
theorem e_opdT {m:Nat} : St.opd ⟨n,tm,ob⟩ (.tmp m)=getL tm m:=rfl
theorem e_opdC {v:Value} : σ.opd (.const v)=ofV v:=rfl
theorem e_opdF {f:FuncId} (h:f < 1000000) : σ.opd (.func f) = .fn f []:=if_pos h
theorem e_get1 {v:AV} {m m':Nat} : getL ((m',v) :: tm) m=if m=m' then v else getL tm m:=id rfl
theorem e_vb {b:Bool} : ofV (.bool b) = .t (.b b):=rfl
theorem e_vi {i:IntKind} {m:Int} : ofV (.int i m) = .t (.i i m):=rfl
theorem e_vs {l:List UInt8} : ofV (.string ⟨⟨l⟩⟩)=if l.length < 1000 then .t (.s l) else .un:=rfl
theorem e_ss {l:List UInt8} : ofS (.string ⟨⟨l⟩⟩)=if l.length < 1000 then .t (.s l) else .un:=rfl
theorem e_vnil : ofV (.slice none 0 0) = .ns:=rfl
theorem e_vp : ofV (.pointer none) = .t .np:=rfl
theorem e_vag {cs:Array Value} : ofV (.agg cs) = .ag (cs.toList.map ofS):=rfl
theorem e_sb {b:Bool} : ofS (.bool b) = .t (.b b):=rfl
theorem e_si {i:IntKind} {m:Int} : ofS (.int i m) = .t (.i i m):=rfl
theorem e_snil : ofS (.slice none 0 0) = .ns:=rfl
theorem e_sm : ofS (.map none) = .t .nm:=rfl
theorem o_box : vcOp P σ (.box t x) K=K (.rf σ.ob.length 0) (σ.ob ++ [.box (σ.opd x)]):=rfl
theorem o_alloc : vcOp P σ (.alloc t) K=match zeroOf P t with
 | some z => K (.rf σ.ob.length 0) (σ.ob ++ [.box (ofV z)])
 | none => False:=rfl
theorem o_store : vcOp P σ (.store t p x) K=vcStore P t (σ.opd p) (σ.opd x) σ.ob K:=rfl
theorem o_bs {m:Nat} {parts:Array (Nat × Operand)} : vcOp P σ (.buildSlice t m parts) K=vcBuildSlice P t m (parts.toList.map (·.1)) (parts.toList.map fun p=>σ.opd p.2) σ.ob K:=rfl
theorem o_make : vcOp P σ (.makeSlice t x y) K=vcMake P t (σ.opd x) (σ.opd y) σ.ob K:=rfl
theorem o_move : vcOp P σ (.move x) K=K (σ.opd x) σ.ob:=rfl
theorem o_assign : vcOp P σ (.assign x) K=K (σ.opd x) σ.ob:=rfl
theorem o_pick : vcOp P σ (.pick x y p) K=onPick (σ.opd x) (σ.opd y) (σ.opd p) fun r=>K r σ.ob:=rfl
theorem o_load : vcOp P σ (.load t x) K=vcLd P t (σ.opd x) σ.tm σ.ob K:=rfl
@[congr] theorem vcNb_congr {b:BinOp} {t:TypeId} {x x':AV} {y y':AV} {K:AV→Prop} (h0:tick x=x') (h1:y=y') : vcNb P b t x y K=vcNb P b t x' y' K:=by unfold tick at h0; rw [h0,h1]
theorem o_bin {b:BinOp} {ps:TypeId} : vcOp P σ (.binOp b t x y ps) K=vcNb P b t (σ.opd x) (σ.opd y) fun r=>K r σ.ob:=rfl
theorem nb_t {b:BinOp} {t:TypeId} {x:AV} {z:T} {K:AV→Prop} : vcNb P b t x (.t z) K=vcBs P b t x (.t z) K:=by
 unfold vcNb; split<;>first | rfl | simp_all
@[congr] theorem vcBs_congr {b:BinOp} {t:TypeId} {x x':AV} {y y':AV} {K:AV→Prop} (h0:tick x=x') (h1:y=y') : vcBs P b t x y K=vcBs P b t x' y' K:=by unfold tick at h0; rw [h0,h1]
theorem bs_i {b:BinOp} {t:TypeId} {x:AV} {k:IntKind} {n:Int} {K:AV→Prop} : vcBs P b t x (.t (.i k n)) K=vcBin P b t x (.t (.i k n)) K:=by unfold vcBs; split<;>first | rfl | simp_all
theorem bs_s {b:BinOp} {t:TypeId} {x:AV} {n:List UInt8} {K:AV→Prop} : vcBs P b t x (.t (.s n)) K=vcBin P b t x (.t (.s n)) K:=by unfold vcBs; split<;>first | rfl | simp_all
theorem bs_b {b:BinOp} {t:TypeId} {x:AV} {n:Bool} {K:AV→Prop} : vcBs P b t x (.t (.b n)) K=vcBin P b t x (.t (.b n)) K:=by unfold vcBs; split<;>first | rfl | simp_all
theorem bs_np {b:BinOp} {t:TypeId} {x:AV} {K:AV→Prop} : vcBs P b t x (.t .np) K=vcBin P b t x (.t .np) K:=by unfold vcBs; split<;>first | rfl | simp_all
theorem o_un {b:UnOp} : vcOp P σ (.unOp b t x) K=vcUn b (σ.opd x) fun r=>K r σ.ob:=rfl
theorem o_fa {m:Nat} : vcOp P σ (.fieldAddr t x m) K=vcField P t m (σ.opd x) fun r=>K r σ.ob:=rfl
theorem o_ia : vcOp P σ (.indexAddr t x y) K=vcIndexAddr P t σ.ob (σ.opd x) (σ.opd y) fun r=>K r σ.ob:=rfl
theorem o_ix : vcOp P σ (.index t x y) K=vcIndex P t (σ.opd x) (σ.opd y) fun r=>K r σ.ob:=rfl
theorem o_slS {lo:Operand} {hi:Option Operand} : vcOp P σ (.slice t x (some lo) hi none) K=vcSlv P t σ.ob (σ.opd x) (some (σ.opd lo)) (hi.map σ.opd) fun r=>K r σ.ob:=rfl
theorem o_slH {hi:Operand} : vcOp P σ (.slice t x none (some hi) none) K=vcSl3 P t (σ.opd x) (σ.opd hi) σ.ob K:=rfl
theorem o_ext {m:Nat} : vcOp P σ (.extract x m) K=vcExtract (σ.opd x) m fun r=>K r σ.ob:=rfl
theorem o_nil : vcOp P σ (.nilCheck x) K=((σ.opd x).notNil=true∧K (σ.opd x) σ.ob):=rfl
theorem o_lookup {ok:Bool} : vcOp P σ (.lookup t x y ok) K=vcLookup P t (σ.opd x) (σ.opd y) ok σ.ob fun r=>K r σ.ob:=rfl
theorem o_fn {fn:Fn} {ys xs:Array Operand} : vcOp P σ (.makeFunc fn ys xs) K=vcFn fn (ys.toList.map σ.opd) (xs.toList.map σ.opd) fun r=>K r σ.ob:=rfl
theorem o_build {parts:Array (Nat × Operand)} : vcOp P σ (.build t parts) K=vcBuild P t (parts.toList.map fun p=>(p.1,σ.opd p.2)) fun r=>K r σ.ob:=rfl
theorem o_call {args:Array Operand} {ats:Array TypeId} : vcOp P σ (.call ⟨.value x,args,ats⟩) K=vcCallO P (σ.opd x) (args.toList.map σ.opd) σ.tm σ.ob K:=rfl
theorem o_mup : vcOp P σ (.mapUpdate t x y p) K=vcMapUpd P t (σ.opd x) (σ.opd y) (σ.opd p) σ.ob K:=rfl
theorem o_ifc : vcOp P σ (.makeInterface t x) K=vcIface P t (σ.opd x) fun r=>K r σ.ob:=rfl
theorem o_inv {nm:String} {xs:Array Operand} {ts:Array TypeId} : vcOp P σ (.call ⟨.invoke x nm,xs,ts⟩) K=vcInv P (σ.opd x) nm (xs.toList.map σ.opd) σ.ob fun r=>K r σ.ob:=rfl
theorem o_cvt {d:TypeId} : vcOp P σ (.convert t d x) K=vcConvert P t d σ.ob (σ.opd x) fun r=>K r σ.ob:=rfl
theorem o_mm0 : vcOp P σ (.makeMap t none) K=vcMakeMap P t none σ.ob K:=rfl
theorem o_len : vcOp P σ (.call ⟨.builtin .len,#[x],#[t]⟩) K=vcLen P t σ.ob (σ.opd x) fun r=>K r σ.ob:=rfl
theorem o_app : vcOp P σ (.call ⟨.builtin .append,#[x,y],#[t,t']⟩) K=(t=t' ∧ vcAppend P t (σ.opd x) (σ.opd y) σ.ob K):=rfl
theorem l_move : vcLook P ob e (.move x) KA=KA (e x):=rfl
theorem l_assign : vcLook P ob e (.assign x) KA=KA (e x):=rfl
theorem l_pick : vcLook P ob e (.pick x y p) KA=onPick (e x) (e y) (e p) KA:=rfl
theorem l_load : vcLook P ob e (.load t x) KA=vcLoad P t (e x) ob KA:=rfl
theorem l_bin {b:BinOp} {ps:TypeId} : vcLook P ob e (.binOp b t x y ps) KA=vcBs P b t (e x) (e y) KA:=rfl
theorem l_un {b:UnOp} : vcLook P ob e (.unOp b t x) KA=vcUn b (e x) KA:=rfl
theorem l_fa {m:Nat} : vcLook P ob e (.fieldAddr t x m) KA=vcField P t m (e x) KA:=rfl
theorem l_ia : vcLook P ob e (.indexAddr t x y) KA=vcIndexAddr P t ob (e x) (e y) KA:=rfl
theorem l_sl {lo hi:Option Operand} : vcLook P ob e (.slice t x lo hi none) KA=vcSlv P t ob (e x) (lo.map e) (hi.map e) KA:=rfl
theorem l_ext {m:Nat} : vcLook P ob e (.extract x m) KA=vcExtract (e x) m KA:=rfl
theorem l_nil : vcLook P ob e (.nilCheck x) KA=((e x).notNil=true∧KA (e x)):=rfl
theorem l_lookup {ok:Bool} : vcLook P ob e (.lookup t x y ok) KA=vcLookup P t (e x) (e y) ok ob KA:=rfl
theorem l_fld {s f:Nat} : vcLook P ob e (.field s x f) KA=vcFld P s f (e x) KA:=rfl
theorem l_build {parts:Array (Nat × Operand)} : vcLook P ob e (.build t parts) KA=vcBuild P t (parts.toList.map fun p=>(p.1,e p.2)) KA:=rfl
theorem l_call {args:Array Operand} {ats:Array TypeId} : vcLook P ob e (.call ⟨.value x,args,ats⟩) KA=vcCall P (e x) (args.toList.map e) ob KA:=rfl
theorem l_len : vcLook P ob e (.call ⟨.builtin .len,#[x],#[t]⟩) KA=vcLen P t ob (e x) KA:=rfl
variable {N:Nat} {D:DD}
theorem w_skip : W P N D .skip k σ=k .nrm σ:=rfl
theorem w_label {l:Nat} : W P N D (.label l) k σ=k .nrm σ:=rfl
theorem w_reg {id:Nat} {ops:List Oper} : W P N D (.region id ⟨ops⟩ false) k σ=stopW (stopD (D id)) (WL P N (.region id ⟨ops⟩ false) k σ) (vcOps P ⟨ops⟩ ops σ (k .nrm)):=rfl
@[congr] theorem stopW_congr {b b':Bool} {A B:Prop} (h:tick b=b') : stopW b A B=stopW b' A B:=by unfold tick at h; rw [h]
theorem stw_t {A B:Prop} : stopW true A B=A:=rfl
theorem stw_f {A B:Prop} : stopW false A B=B:=rfl
theorem stop_d {m:Nat} {es:List (Bool × Nat)} : stopD (m,es)=(m == 999999):=rfl
theorem w_draw {id:Nat} {ops:List Oper} : W P N D (.region id ⟨ops⟩ true) k σ=stopW (stopD (D id)) (WL P N (.region id ⟨ops⟩ true) k σ) (vcDq P ⟨ops⟩ (D id) ops σ (k .nrm)):=rfl
@[congr] theorem vcDq_congr {all:Array Oper} {kd kd':Nat × List (Bool × Nat)} {os:List Oper} {σ σ':St} {K:St→Prop} (h:tick kd=kd') (h2:σ=σ') : vcDq P all kd os σ K=vcDq P all kd' os σ' K:=by unfold tick at h; rw [h,h2]
@[congr] theorem vcDz_congr {all:Array Oper} {B B':Nat} {es:List (Bool × Nat)} {m m':Nat} {os:List Oper} {σ σ':St} {K:St→Prop} (h:tick m=m') (h2:σ=σ') (h3:B=B') : vcDz P all B es m os σ K=vcDz P all B' es m' os σ' K:=by unfold tick at h; rw [h,h2,h3]
@[congr] theorem vcDm_congr {all:Array Oper} {B:Nat} {es:List (Bool × Nat)} {os:List Oper} {σ σ':St} {K:St→Prop} (h:tick σ=σ') : vcDm P all B es os σ K=vcDm P all B es os σ' K:=by unfold tick at h; rw [h]
@[congr] theorem opAt_congr {l:List Oper} {j j':Nat} (h:tick j=j') : opAt l j=opAt l j':=by unfold tick at h; rw [h]
theorem oa_zero {o:Oper} {os:List Oper} : opAt (o :: os) 0=some o:=rfl
theorem oa_succ {o:Oper} {os:List Oper} {j:Nat} : opAt (o :: os) (j + 1)=opAt os j:=rfl
theorem q_n {m:Nat} {os:List Oper} : vcDq P all (m,[]) os σ KS=vcDr P all m os σ KS:=rfl
theorem q_m {m:Nat} {e:Bool × Nat} {es:List (Bool × Nat)} {os:List Oper} : vcDq P all (m,e :: es) os σ KS=stopW (decide (2000000≤m)) (vcDyR P all (m - 2000000) (prs (e :: es) []) σ KS) (vcDz P all σ.ob.length (e :: es) m os σ KS):=rfl
@[congr] theorem vcDyR_congr {n0 n0':Nat} {hs hs':List (List Nat × Nat)} {σ σ':St} {K:St→Prop} (h:tick n0=n0') (h2:hs=hs') (h3:σ=σ') : vcDyR P all n0 hs σ K=vcDyR P all n0' hs' σ' K:=by unfold tick at h; rw [h,h2,h3]
@[congr] theorem vcDy_congr {hs:List (List Nat × Nat)} {os:List Oper} {s s':Nat} {σ σ':St} {K:St→Prop} (h:tick s=s') (h2:σ=σ') : vcDy P all hs os s σ K=vcDy P all hs os s' σ' K:=by unfold tick at h; rw [h,h2]
@[congr] theorem vcMk1_congr {e:Operand→AV} {op:Op} {id id':Nat} {K:AV→Ob→Prop} (h:tick id=id') : vcMk1 P e op id K=vcMk1 P e op id' K:=by unfold tick at h; rw [h]
@[congr] theorem vcSt1_congr {e:Operand→AV} {op:Op} {id id':Nat} {o o':Option Ob} {K:AV→Prop} (h:tick id=id') (h2:o=o') : vcSt1 P e op id o K=vcSt1 P e op id' o' K:=by unfold tick at h; rw [h,h2]
def st1K (P:Program) (t:TypeId) (p x:AV) (id:Nat) (y:AV) (K:AV→Prop) : Prop:=match p with
 | .rf i off => i=id∧y ≠ .un∧x ≠ .un∧allOne x.cells=true∧P.cellsOf t=x.cells.length∧off + x.cells.length≤y.cells.length∧x.cells.length≠0∧K (if off=0∧y.cells.length=x.cells.length∧x.isAg=y.isAg then x else .ag (segA y.cells off x.cells))
 | _ => False
@[congr] theorem st1K_congr {t:TypeId} {p p' x x' y y':AV} {id id':Nat} {K:AV→Prop} (h:tick p=p') (h2:x=x') (h3:id=id') (h4:y=y') : st1K P t p x id y K=st1K P t p' x' id' y' K:=by unfold tick at h; rw [h,h2,h3,h4]
theorem z_zero {B:Nat} {es:List (Bool × Nat)} {os:List Oper} : vcDz P all B es 0 os σ KS=vcDm P all B es os σ KS:=rfl
theorem z_succ {B:Nat} {es:List (Bool × Nat)} {m:Nat} {o:Oper} {os:List Oper} : vcDz P all B es (m + 1) (o :: os) σ KS=vcDz P all B es m os σ KS:=rfl
def mtK (P:Program) (all:Array Oper) (B:Nat) (js:List (Bool × Nat)) (rest:List Oper) (σ:St) (KS:St→Prop) (o:Oper) : Prop :=
 o.guard=none∧dstOk σ.n o.dst∧vcMk P B σ.ob σ.opd o.op fun x ob=>vcDm P all B js rest (({ σ with ob:=ob } : St).set o.dst x) KS
def mfK (P:Program) (all:Array Oper) (B:Nat) (js:List (Bool × Nat)) (rest:List Oper) (σ:St) (KS:St→Prop) (o:Oper) : Prop :=
 dstOk σ.n o.dst∧vcGuard all σ o (fun σ=>vcLook P σ.ob σ.opd o.op fun x=>vcDm P all B js rest (σ.set o.dst x) KS) (fun σ=>vcDm P all B js rest (σ.set o.dst .ud) KS)
@[congr] theorem mtK_congr {B:Nat} {js:List (Bool × Nat)} {os:List Oper} {σ σ':St} {o:Oper} (h:tick σ=σ') : mtK P all B js os σ KS o=mtK P all B js os σ' KS o:=by unfold tick at h; rw [h]
@[congr] theorem mfK_congr {B:Nat} {js:List (Bool × Nat)} {os:List Oper} {σ σ':St} {o:Oper} (h:tick σ=σ') : mfK P all B js os σ KS o=mfK P all B js os σ' KS o:=by unfold tick at h; rw [h]
theorem m_nil {B:Nat} {os:List Oper} : vcDm P all B [] os σ KS=vcOps P all os σ KS:=rfl
theorem m_t {B:Nat} {l:List Oper} {i:Nat} {js:List (Bool × Nat)} {os:List Oper} : vcDm P ⟨l⟩ B ((true,i) :: js) os σ KS=onSome (opAt l i) (mtK P ⟨l⟩ B js os σ KS):=by
 simp only [vcDm,onSome,mtK]
 cases opAt l i<;>simp
theorem m_f {B:Nat} {l:List Oper} {i:Nat} {js:List (Bool × Nat)} {os:List Oper} : vcDm P ⟨l⟩ B ((false,i) :: js) os σ KS=onSome (opAt l i) (mfK P ⟨l⟩ B js os σ KS):=by
 simp only [vcDm,onSome,mfK]
 cases opAt l i<;>simp
theorem mt_op {B:Nat} {js:List (Bool × Nat)} {os:List Oper} : mtK P all B js os σ KS ⟨d,op,ty,ps,af,none⟩=(dstOk σ.n d∧vcMk P B σ.ob σ.opd op fun x ob=>vcDm P all B js os ((⟨σ.n,σ.tm,ob⟩ : St).set d x) KS):=by
 simp [mtK]
theorem mf_op {B:Nat} {js:List (Bool × Nat)} {os:List Oper} : mfK P all B js os σ KS ⟨d,op,ty,ps,af,none⟩=(dstOk σ.n d∧vcLook P σ.ob σ.opd op fun x=>vcDm P all B js os (σ.set d x) KS):=rfl
variable {KM:AV→List Ob→Prop}
@[congr] theorem vcMk_congr {B:Nat} {ob ob':List Ob} {e:Operand→AV} {op:Op} (h:tick ob=ob') : vcMk P B ob e op KM=vcMk P B ob' e op KM:=by unfold tick at h; rw [h]
@[congr] theorem vcMkC_congr {f f':AV} {xs xs':List AV} {ob ob':List Ob} (h0:tick f=f') (h1:xs=xs') (h2:ob=ob') : vcMkC P f xs ob KM=vcMkC P f' xs' ob' KM:=by unfold tick at h0; rw [h0,h1,h2]
@[congr] theorem Mkx_congr {g:FuncId} {ts ts':Option (List T)} {sh sh':Bool} {ob ob':List Ob} (h0:tick ts=ts') (h1:sh=sh') (h2:ob=ob') : Mkx P g ts sh ob KM=Mkx P g ts' sh' ob' KM:=by unfold tick at h0; rw [h0,h1,h2]
@[congr] theorem newOb_congr {ob ob' ob1 ob1':List Ob} {K:List Ob→Prop} (h0:tick ob=ob1) (h1:ob'=ob1') : newOb ob ob' K=newOb ob1 ob1' K:=by unfold tick at h0; rw [h0,h1]
theorem nb_nil {ob:List Ob} {K:List Ob→Prop} : newOb [] ob K=K ob:=rfl
theorem nb_cons {o:Ob} {ob ob':List Ob} {K:List Ob→Prop} : newOb (o :: ob) (o :: ob') K=newOb ob ob' K:=by simp [newOb]
theorem mk_bs {B:Nat} {ob:List Ob} {e:Operand→AV} {n:Nat} {parts:Array (Nat × Operand)} : vcMk P B ob e (.buildSlice t n parts) KM=vcBuildSlice P t n (parts.toList.map (·.1)) (parts.toList.map fun p=>e p.2) ob fun x ob'=>newOb (ob.take B) ob' fun _=>KM x ob':=rfl
theorem mk_alloc {B:Nat} {ob:List Ob} {e:Operand→AV} : vcMk P B ob e (.alloc t) KM=onSome (zeroOf P t) fun z=>KM (.rf ob.length 0) (ob ++ [.box (ofV z)]):=by
 simp only [vcMk,onSome]; cases zeroOf P t<;>rfl
def mkSt (P:Program) (t:TypeId) (p x:AV) (ob:List Ob) (K:AV→List Ob→Prop) : Prop :=
 match p with
 | .rf id off => vcStore P t (.rf id off) x ob K
 | .ra id i m off => match ob[id]? with
   | some (.arr ..) => vcStore P t (.ra id i m off) x ob K
   | _ => False
 | _ => False
@[congr] theorem mkSt_congr {p p' x x':AV} {ob ob':List Ob} (h0:tick p=p') (h1:x=x') (h2:ob=ob') : mkSt P t p x ob KM=mkSt P t p' x' ob' KM:=by unfold tick at h0; rw [h0,h1,h2]
theorem mk_app {B:Nat} {ob:List Ob} {e:Operand→AV} : vcMk P B ob e (.call ⟨.builtin .append,#[x,y],#[t,t]⟩) KM=vcAppend P t (e x) (e y) ob KM:=by
 simp [vcMk]
theorem mk_st {B:Nat} {ob:List Ob} {e:Operand→AV} : vcMk P B ob e (.store t x y) KM=mkSt P t (e x) (e y) ob KM:=rfl
theorem mk_str {ob:List Ob} {id off:Nat} {z:AV} : mkSt P t (.rf id off) z ob KM=vcStore P t (.rf id off) z ob KM:=rfl
theorem mk_sta {ob:List Ob} {id i m off:Nat} {z:AV} : mkSt P t (.ra id i m off) z ob KM=onArr ob[id]? fun _ _ _ _=>vcStore P t (.ra id i m off) z ob KM:=by
 unfold mkSt onArr
 rfl
theorem w_seq {x y:Code} : W P N D (.seq x y) k σ=stopW (stopD (D (1000000 + hdC y))) (WL P N (.seq x y) k σ) (W P N D x (seqW P N D y k) σ):=rfl
@[congr] theorem hdC_congr {c:Code} : hdC c=hdC c:=rfl
theorem hd_reg {id:Nat} {ops:Array Oper} {b:Bool} : hdC (.region id ops b)=id:=rfl
theorem hd_seq {x y:Code} : hdC (.seq x y)=hdC x:=rfl
theorem hd_blk {id:Nat} {c:Code} : hdC (.block id c)=hdC c:=rfl
theorem hd_scope {c:Code} : hdC (.scope c)=hdC c:=rfl
theorem hd_loop {c:Code} : hdC (.loop c)=hdC c:=rfl
theorem hd_cond {o:Operand} {x y:Code} : hdC (.cond o x y)=888888:=rfl
theorem hd_ret : hdC .ret=888888:=rfl
theorem hd_lab {id:Nat} : hdC (.label id)=888888:=rfl
theorem w_cond {c:Operand} {x y:Code} : W P N D (.cond c x y) k σ=vcCond (σ.opd c) (W P N D x k σ) (W P N D y k σ):=rfl
theorem w_scope {c:Code} : W P N D (.scope c) k σ=W P N D c (scopeK k) σ:=rfl
theorem w_block {id:Nat} {c:Code} : W P N D (.block id c) k σ=W P N D c (blockK id k) σ:=rfl
theorem w_exit {id:Nat} : W P N D (.exit id) k σ=k (.ex id) σ:=rfl
theorem w_ret : W P N D .ret k σ=k .ret σ:=rfl
theorem w_loop {c:Code} : W P N D (.loop c) k σ=WL P N (.loop c) k σ:=rfl
theorem r_nil0 {os:List Oper} : vcDr P all 0 os σ KS=vcOps P all os σ KS:=rfl
theorem r_cons {m:Nat} : vcDr P all (m + 1) (⟨d,op,ty,ps,af,none⟩ :: rest) σ KS=(dstOk σ.n d∧vcLook P σ.ob σ.opd op fun x=>vcDr P all m rest (σ.set d x) KS):=rfl
theorem r_consg {l:List Oper} {m j:Nat} {b:Bool} : vcDr P ⟨l⟩ (m + 1) (⟨d,op,ty,ps,af,some (j,b)⟩ :: rest) σ KS=(dstOk σ.n d∧onSome (dstAt l j) fun i=>onG (getL σ.tm i) b
 (fun y=>vcLook P (σ.set (some i) y).ob (σ.set (some i) y).opd op (fun x=>vcDr P ⟨l⟩ m rest ((σ.set (some i) y).set d x) KS)) (fun y=>vcDr P ⟨l⟩ m rest ((σ.set (some i) y).set d .ud) KS)):=congrArg (dstOk σ.n d∧·) (guard_on (σ:=σ) (R:=fun σ=>vcLook P σ.ob σ.opd op fun x=>vcDr P ⟨l⟩ m rest (σ.set d x) KS) (S:=fun σ=>vcDr P ⟨l⟩ m rest (σ.set d .ud) KS))
@[congr] theorem seqW_congr {N:Nat} {D:DD} {c:Code} {k:Kont} {e:Ex} {σ σ':St} (h:tick σ=σ') : seqW P N D c k e σ=seqW P N D c k e σ':=by unfold tick at h; rw [h]
@[congr] theorem scopeK_congr {k:Kont} {e:Ex} {σ σ':St} (h:tick σ=σ') : scopeK k e σ=scopeK k e σ':=by unfold tick at h; rw [h]
@[congr] theorem blockK_congr {i:Nat} {k:Kont} {e:Ex} {σ σ':St} (h:tick σ=σ') : blockK i k e σ=blockK i k e σ':=by unfold tick at h; rw [h]
@[congr] theorem loopK_congr {N:Nat} {ι:Type} {I:ι→Prop} {s:ι→St} {μ:ι→Nat} {i:ι} {k:Kont} {e:Ex} {σ σ':St} (h:tick σ=σ') : loopK N I s μ i k e σ=loopK N I s μ i k e σ':=by unfold tick at h; rw [h]
@[congr] theorem cutK_congr {N:Nat} {ι:Type} {I:ι→Prop} {s:ι→St} {k:Kont} {e:Ex} {σ σ':St} (h:tick σ=σ') : cutK N I s k e σ=cutK N I s k e σ':=by unfold tick at h; rw [h]
@[congr] theorem retK_congr {N:Nat} {outs:List ResultVar} {x:AV} {obs:List Ob} {e:Ex} {σ σ':St} (h:tick σ=σ') : retK P N outs x obs e σ=retK P N outs x obs e σ':=by unfold tick at h; rw [h]
theorem k_seqn {c:Code} {σ:St} : seqW P N D c k .nrm σ=W P N D c k σ:=rfl
theorem k_seqr {c:Code} {σ:St} : seqW P N D c k .ret σ=k .ret σ:=rfl
theorem k_seqx {c:Code} {σ:St} {i:Nat} : seqW P N D c k (.ex i) σ=k (.ex i) σ:=rfl
theorem k_condt {b:Bool} {A B:Prop} : vcCond (.t (.b b)) A B=if b=true then A else B:=rfl
theorem k_scr {σ:St} : scopeK k .ret σ=k .ret σ:=rfl
theorem k_blkn {σ:St} {i:Nat} : blockK i k .nrm σ=k .nrm σ:=rfl
theorem k_blkr {σ:St} {i:Nat} : blockK i k .ret σ=k .ret σ:=rfl
theorem k_blkx {σ:St} {i j:Nat} : blockK i k (.ex j) σ=if j=i then k .nrm σ else k (.ex j) σ:=rfl
theorem k_loopr {ι:Type} {I:ι→Prop} {s:ι→St} {μ:ι→Nat} {i:ι} : loopK N I s μ i k .ret σ=k .ret σ:=rfl
theorem k_loopx {ι:Type} {I:ι→Prop} {s:ι→St} {μ:ι→Nat} {i:ι} {j:Nat} : loopK N I s μ i k (.ex j) σ=k (.ex j) σ:=rfl
theorem k_loopn {ι:Type} {I:ι→Prop} {s:ι→St} {μ:ι→Nat} {i:ι} : loopK N I s μ i k .nrm σ = ∃ j,I j∧μ j < μ i∧Wk N σ (s j):=rfl
theorem k_ret {outs:List ResultVar} {x:AV} {obs:List Ob} {σ:St} : retK P N outs x obs .ret σ=vcOuts P σ outs fun xs=>vcClose N (tup xs) σ.ob x obs:=rfl
theorem k_retn {outs:List ResultVar} {x:AV} {obs:List Ob} {σ:St} : retK P N outs x obs .nrm σ=vcOuts P σ outs fun xs=>vcClose N (tup xs) σ.ob x obs:=rfl
end
theorem f_leaf {x:T} : fits .leaf x=x.flat:=by cases x<;>rfl
theorem f_ag {ss:List Sh} {xs:List T} : fits (.ag ss) (.ag xs)=fitss ss xs:=rfl
theorem f_sl {e:TypeId} {m:Nat} {s:Sh} {x:T} : fits (.sl e m s) x=false:=by cases x<;>rfl
theorem f_ab {ss:List Sh} {x:Bool} : fits (.ag ss) (.b x)=false:=rfl
theorem f_ai {ss:List Sh} {k:IntKind} {n:Int} : fits (.ag ss) (.i k n)=false:=rfl
theorem f_as {ss:List Sh} {x:List UInt8} : fits (.ag ss) (.s x)=false:=rfl
theorem f_nil  : fitss [] []=true:=rfl
theorem f_cons {s:Sh} {ss:List Sh} {x:T} {xs:List T} : fitss (s :: ss) (x :: xs)=(fits s x && fitss ss xs):=rfl
section
variable {ob:List Ob}
theorem w_t {s:Sh} {x:T} : AV.own ob s (.t x)=if fits s x=true then some (x,[]) else none:=by cases s<;>simp only [AV.own]
def onOwn (o:Option Ob) (K:TypeId→Nat→Sh→List T→Option (T × List Nat)) : Option (T × List Nat):=match o with | some (.arr e m (.own s) es)=>K e m s es | _=>none
theorem s_own {e:TypeId} {m:Nat} {s:Sh} {es:List T} {K:TypeId→Nat→Sh→List T→Option (T × List Nat)} : onOwn (some (.arr e m (.own s) es)) K=K e m s es:=rfl
def onTs (o:Option (List T × List Nat)) : Option (T × List Nat):=match o with | some (ys,ids)=>some (.ag ys,ids) | none=>none
theorem s_ts {ys:List T} {ids:List Nat} : onTs (some (ys,ids))=some (.ag ys,ids):=rfl
def onCons (o:Option (T × List Nat)) (p:Option (List T × List Nat)) : Option (List T × List Nat):=match o,p with | some (y,i),some (ys,i')=>some (y :: ys,i ++ i') | _,_=>none
theorem s_oc {y:T} {i i':List Nat} {ys:List T} : onCons (some (y,i)) (some (ys,i'))=some (y :: ys,i ++ i'):=rfl
theorem w_agag {ss:List Sh} {cs:List AV} : AV.own ob (.ag ss) (.ag cs)=onTs (ownsL ob ss cs):=by simp only [AV.own,onTs]; cases ownsL ob ss cs<;>rfl
theorem w_slns {e:TypeId} {m:Nat} {s:Sh} : AV.own ob (.sl e m s) .ns=some (.sl [],[]):=by simp only [AV.own]
open Classical in
theorem w_slsr {e:TypeId} {m i:Nat} {s:Sh} : AV.own ob (.sl e m s) (.sr i)=onOwn ob[i]? fun e' m' s' es=>if e'=e∧m'=m∧s'=s then some (.sl es,[i]) else none:=by
 simp only [AV.own,onOwn]
 cases ob[i]? with
 | none => rfl
 | some o =>
   cases o<;>rfl
theorem w_nil  : ownsL ob [] []=some ([],[]):=by simp only [ownsL]
theorem w_cons {s:Sh} {ss:List Sh} {x:AV} {xs:List AV} : ownsL ob (s :: ss) (x :: xs)=onCons (x.own ob s) (ownsL ob ss xs):=by simp only [ownsL,onCons]; cases x.own ob s<;>cases ownsL ob ss xs<;>rfl
end
def seeArr : Option Ob→Option T
 | some (.arr _ _ _ es) => some (.sl es)
 | _ => none
def seeMap : Option Ob→Option T
 | some (.map _ _ _ ks vs _) => some (.mp ks vs)
 | _ => none
section
variable {ob:List Ob} {n:Nat}
theorem e_see_t {y:T} : AV.see ob (n + 1) (.t y)=some y:=rfl
theorem e_see_bw {y:T} : AV.see ob (n + 1) (.bw y)=some y:=rfl
theorem e_see_sr {id:Nat} : AV.see ob (n + 1) (.sr id)=seeArr ob[id]?:=by
 simp only [AV.see]
 cases ob[id]? with
 | none => rfl
 | some o => cases o<;>rfl
theorem e_see_mr {id:Nat} : AV.see ob (n + 1) (.mr id)=seeMap ob[id]?:=by
 simp only [AV.see]
 cases ob[id]? with
 | none => rfl
 | some o => cases o<;>rfl
theorem e_see_ag {cs:List AV} : AV.see ob (n + 1) (.ag cs)=(seesW (AV.see ob n) cs).map T.ag:=rfl
theorem e_see_fn {f:FuncId} {cs:List AV} : AV.see ob (n + 1) (.fn f cs)=(seesW (AV.see ob n) cs).map (T.fn f):=rfl
end
theorem qnb_ud  : AV.noBw .ud=true:=by simp only [AV.noBw]
theorem qnb_ns  : AV.noBw .ns=true:=by simp only [AV.noBw]
theorem qnb_t {x:T} : AV.noBw (.t x)=true:=by simp only [AV.noBw]
theorem qnb_bw {x:T} : AV.noBw (.bw x)=false:=by simp only [AV.noBw]
theorem qnb_ag {cs:List AV} : AV.noBw (.ag cs)=noBws cs:=by simp only [AV.noBw]
theorem qnb_tp {cs:List AV} : AV.noBw (.tp cs)=noBws cs:=by simp only [AV.noBw]
theorem qnb_rf {i o:Nat} : AV.noBw (.rf i o)=true:=by simp only [AV.noBw]
theorem qnb_ra {i j m o:Nat} : AV.noBw (.ra i j m o)=true:=by simp only [AV.noBw]
theorem qnb_sr {i:Nat} : AV.noBw (.sr i)=true:=by simp only [AV.noBw]
theorem qnb_mr {i:Nat} : AV.noBw (.mr i)=true:=by simp only [AV.noBw]
theorem qnb_fn {f:FuncId} {cs:List AV} : AV.noBw (.fn f cs)=noBws cs:=by simp only [AV.noBw]
theorem qsh_ns  : AV.shut .ns=some (.sl []):=by simp only [AV.shut]
theorem qsh_t {x:T} : AV.shut (.t x)=some x:=by simp only [AV.shut]
theorem qsh_bw {x:T} : AV.shut (.bw x)=none:=by simp only [AV.shut]
theorem qsh_ag {cs:List AV} : AV.shut (.ag cs)=(shuts cs).map T.ag:=by simp only [AV.shut]
theorem qsh_rf {i o:Nat} : AV.shut (.rf i o)=none:=by simp only [AV.shut]
theorem qsh_sr {i:Nat} : AV.shut (.sr i)=none:=by simp only [AV.shut]
theorem qsh_mr {i:Nat} : AV.shut (.mr i)=none:=by simp only [AV.shut]
theorem qsh_fn {f:FuncId} {cs:List AV} : AV.shut (.fn f cs)=none:=by simp only [AV.shut]
-- what is worked out by itself
attribute [push_cast] qnb_ud qnb_ns qnb_t qnb_bw qnb_ag qnb_tp qnb_rf qnb_ra qnb_sr qnb_mr qnb_fn qsh_ns qsh_t qsh_bw qsh_ag qsh_rf qsh_sr qsh_mr qsh_fn
attribute [push_cast] o_ifc o_inv v_ifc v_inv loth_i o_cvt cv_i cv_s v_cvi v_cvr bo_nil bo_i Option.map_some
attribute [push_cast] bs_i bs_s bs_b bs_np
attribute [push_cast] hd_reg hd_seq hd_blk hd_scope hd_loop hd_cond hd_ret hd_lab
attribute [push_cast] deads prs
attribute [push_cast] v_mup v_mupo v_mmap0 y_cell yc_i yc_s o_mup o_mm0 List.forall_mem_map List.not_mem_nil
attribute [push_cast] v_ldrf v_ldt v_ldra wy_t wy_f v_ldoo s_onsl s_onsh v_opn sc_ag
attribute [push_cast] at_setE List.set_set List.length_set
attribute [push_cast] tick_eq f_leaf f_ag f_sl f_ab f_ai f_as f_nil f_cons w_t s_own s_ts s_oc w_agag w_slns w_slsr w_nil w_cons
attribute [push_cast] e_see_t e_see_bw e_see_sr e_see_mr e_see_ag e_see_fn seeArr seeMap
attribute [push_cast] decide_true decide_false Keep distinct pre tmVia obVia obVia1 AV.under unders AV.via vias Ob.via Ob.under Ob.empty Kind.le rnO e_get1 Option.join_some Option.join_none Bool.or_true Bool.true_or Bool.or_self beq_self_eq_true Nat.zero_lt_succ
attribute [push_cast] c_ag i_ag c_b i_b n_b c_i i_i n_i c_s i_s n_s c_sl n_sl c_po
attribute [push_cast] ca_ag ca_t ia_ag ia_t na_t ca_ns ia_ns ca_sr ia_sr na_sr ca_mr
attribute [push_cast] ca_fn d_zero d_succ s_some s_box s_arr s_sli s_mapl s_str s_st s_pair s_tri s_lst s_lint s_lbool s_lstr s_lptr
@[congr] theorem vcMax_congr {KA:AV→Prop} {x x' y y':AV} (h:tick x=x') (h2:y=y') : vcMax x y KA=vcMax x' y' KA:=by unfold tick at h; rw [h,h2]
@[congr] theorem vcFld_congr {P:Program} {KA:AV→Prop} {s f:Nat} {x x':AV} (h:tick x=x') : vcFld P s f x KA=vcFld P s f x' KA:=by unfold tick at h; rw [h]
theorem v_fld {P:Program} {KA:AV→Prop} {s f:Nat} {cs:List T} : vcFld P s f (.t (.ag cs)) KA=onSome (oneFld P s f) fun o=>onSome cs[o]? fun y=>KA (.t y):=by
 unfold vcFld onSome
 cases oneFld P s f with
 | none => rfl
 | some o => dsimp only; cases cs[o]? <;> rfl
attribute [push_cast] v_fld l_fld v_shr v_limU
@[congr] theorem vcFn_congr {KA:AV→Prop} {fn:Fn} {ys ys' xs xs':List AV} (h0:ys=ys') (h1:xs=xs') : vcFn fn ys xs KA=vcFn fn ys' xs' KA:=by rw [h0,h1]
theorem v_fn {KA:AV→Prop} {f:FuncId} {xs:List AV} (h:f < 1000000) : vcFn (.func f) [] xs KA=KA (.fn f xs):=by simp [vcFn,h]
attribute [push_cast] v_fn o_fn
attribute [push_cast] s_lsli s_lmap s_lfnc v_loadrf v_loadt v_loadra v_lda v_lkc v_lko v_pickA v_pickT v_field v_fldrf v_fldt v_fldra v_iasl v_iasr v_ixa
attribute [push_cast] v_ixs v_lensl v_lens v_lenns v_lensr v_lna v_bini v_bins v_binnb v_pen v_pep v_add v_sub v_mul v_quo v_rem v_eql v_neq v_lss
attribute [push_cast] v_sta
attribute [push_cast] v_leq v_gtr v_geq v_sadd v_seql v_sneq v_slss v_sgtr v_sgeq v_not v_exta v_extt v_bn v_bs v_slsl v_sls v_storerf s_mix s_flatc v_storera v_build
attribute [push_cast] v_bsl v_appsr v_appns v_sto v_sroo v_srcc v_srct v_srcsr v_make v_call v_callt v_callo v_callot v_lkmr
attribute [push_cast] v_lkom v_lkt v_out0 v_outt v_outc v_close v_closeo v_closea v_closep v_closef v_rest0 g_bt g_bf g_ud p_b e_nil e_cons e_consg
attribute [push_cast] e_setS e_setN e_dstS e_dstN e_opdT e_opdC e_opdF e_vb e_vi e_vs e_ss e_vnil e_vp e_vag e_sb e_si e_snil e_sm o_box o_alloc o_store o_bs o_make o_move o_assign
attribute [push_cast] o_pick o_load o_bin nb_t o_un o_fa o_ia o_ix o_slS o_slH v_sl3t v_sl3r v_slvt o_ext o_nil o_lookup o_build o_call o_len o_app l_move l_assign l_pick l_load l_bin l_un l_fa l_ia l_sl l_ext l_nil l_lookup
attribute [push_cast] l_build l_call l_len w_skip w_label w_reg w_draw stw_t stw_f stop_d oa_zero oa_succ q_n q_m z_zero z_succ m_nil m_t m_f mt_op mf_op nb_nil nb_cons mk_bs mk_alloc mk_app mk_st mk_str mk_sta w_seq w_cond w_scope k_scr w_block w_exit w_ret w_loop r_nil0 r_cons r_consg k_seqn k_seqr k_seqx k_condt k_blkn k_blkr k_blkx k_loopr
attribute [push_cast] k_loopx k_loopn k_ret k_retn tup seesW shuts shutBs AV.take takes killAll ownsA mix fitsAll
attribute [push_cast] AV.bwc tmNoBw noBws obsNoBw Ob.noBw obNoBw AV.ren rens Ob.ren rn behind placeOb T.allOne allOne allLen allOnes T.flat flats segA fillA AV.known AV.notNil AV.isPtr nodupB
attribute [push_cast] at_map freshAV freshAVs freshOb Ob.fresh Ob.owns Sh.plain Sh.plains start numA Lay.sc true_and and_true and_self or_true true_or or_false false_or Bool.true_eq_false
attribute [push_cast] Bool.false_eq_true Bool.and_true Bool.true_and Bool.and_false Bool.false_and List.length_map List.length_cons List.length_nil List.length_append List.map_cons List.map_nil
attribute [push_cast] List.cons_append List.nil_append List.append_nil List.getElem?_cons_zero List.getElem?_cons_succ List.getElem?_nil List.contains_cons List.contains_nil Bool.or_false
attribute [push_cast] List.isEmpty_nil List.set_cons_zero List.set_cons_succ List.take_zero List.take_succ_cons List.drop_zero List.drop_succ_cons List.take_nil List.drop_nil decide_eq_true_eq
attribute [push_cast] Option.map_some Option.map_none Option.isSome_some Option.some.injEq ne_eq not_false_eq_true not_true_eq_false Bool.not_false Bool.not_true implies_true forall_const true_implies
end Go.Proofs.YtmgdkkhnjkepiaaGreat.BX
namespace Go.Proofs.YtmgdkkhnjkepiaaGreat.BX
open Nat renaming reduceEqDiff → zA, reduceLT → zB, reduceLeDiff → zC, reduceAdd → zD, reduceMul → zE, reduceSub → zF, reduceBEq → zG
set_option linter.unusedSectionVars false
set_option linter.unusedSimpArgs false
set_option linter.unusedVariables false
open Go Go.RowKit
noncomputable abbrev P0 : Program:=Tryz.prog
theorem mixed : P0.follows .mixedOrders=true:=by kernel_rfl
@[push_cast] theorem lay_3 : lay P0 3 = .int .i64:=by kernel_rfl
@[push_cast] theorem und_3 : P0.underlying 3=some (.int .i64):=by kernel_rfl
@[push_cast] theorem zero_3 : zeroOf P0 3=some (.int .i64 0):=by kernel_rfl
@[push_cast] theorem cells_3 : P0.cellsOf 3=1:=by kernel_rfl
@[push_cast] theorem bytes_3 : P0.bytesOf 3=8:=by kernel_rfl
@[push_cast] theorem sh_3 : shOf P0 40 3 = .leaf:=by kernel_rfl
@[push_cast] theorem lay_4 : lay P0 4 = .bool:=by kernel_rfl
@[push_cast] theorem zero_4 : zeroOf P0 4=some (.bool false):=by kernel_rfl
@[push_cast] theorem cells_4 : P0.cellsOf 4=1:=by kernel_rfl
@[push_cast] theorem bytes_4 : P0.bytesOf 4=1:=by kernel_rfl
@[push_cast] theorem sh_4 : shOf P0 40 4 = .leaf:=by kernel_rfl
@[push_cast] theorem lay_5 : lay P0 5 = .int .u8:=by kernel_rfl
@[push_cast] theorem und_5 : P0.underlying 5=some (.int .u8):=by kernel_rfl
@[push_cast] theorem zero_5 : zeroOf P0 5=some (.int .u8 0):=by kernel_rfl
@[push_cast] theorem sh_5 : shOf P0 40 5 = .leaf:=by kernel_rfl
@[push_cast] theorem lay_9 : lay P0 9 = .str:=by kernel_rfl
@[push_cast] theorem zero_9 : zeroOf P0 9=some (.string ⟨#[]⟩):=by kernel_rfl
@[push_cast] theorem cells_9 : P0.cellsOf 9=1:=by kernel_rfl
@[push_cast] theorem bytes_9 : P0.bytesOf 9=16:=by kernel_rfl
@[push_cast] theorem sh_9 : shOf P0 40 9 = .leaf:=by kernel_rfl
@[push_cast] theorem lay_22 : lay P0 22 = .sli 29 10:=by kernel_rfl
@[push_cast] theorem lay_24 : lay P0 24 = .st [(0,1)] 1:=by kernel_rfl
@[push_cast] theorem lay_26 : lay P0 26 = .sli 9 1:=by kernel_rfl
@[push_cast] theorem cells_26 : P0.cellsOf 26=1:=by kernel_rfl
@[push_cast] theorem lay_27 : lay P0 27 = .sli 158 2:=by kernel_rfl
@[push_cast] theorem lay_29 : lay P0 29 = .st [(0,1),(1,1),(2,1),(3,1),(4,1),(5,1),(6,1),(7,1),(8,1),(9,1)] 10:=by kernel_rfl
@[push_cast] theorem lay_34 : lay P0 34 = .sli 42 10:=by kernel_rfl
@[push_cast] theorem cells_34 : P0.cellsOf 34=1:=by kernel_rfl
@[push_cast] theorem lay_36 : lay P0 36 = .st [(0,1)] 1:=by kernel_rfl
@[push_cast] theorem zero_36 : zeroOf P0 36=some (.agg #[.slice none 0 0]):=by kernel_rfl
@[push_cast] theorem cells_36 : P0.cellsOf 36=1:=by kernel_rfl
@[push_cast] theorem lay_40 : lay P0 40 = .sli 138 2:=by kernel_rfl
@[push_cast] theorem cells_40 : P0.cellsOf 40=1:=by kernel_rfl
@[push_cast] theorem lay_42 : lay P0 42 = .st [(0,1),(1,1),(2,1),(3,1),(4,1),(5,1),(6,1),(7,1),(8,1),(9,1)] 10:=by kernel_rfl
@[push_cast] theorem zero_42 : zeroOf P0 42=some (.agg #[.string ⟨#[]⟩,.string ⟨#[]⟩,.string ⟨#[]⟩,.bool false,.string ⟨#[]⟩,.int .i64 0,.slice none 0 0,.slice none 0 0,.string ⟨#[]⟩,.slice none 0 0]):=by kernel_rfl
@[push_cast] theorem cells_42 : P0.cellsOf 42=10:=by kernel_rfl
@[push_cast] theorem bytes_42 : P0.bytesOf 42=168:=by kernel_rfl
@[push_cast] theorem sh_42 : shOf P0 40 42 = .ag [.leaf,.leaf,.leaf,.leaf,.leaf,.leaf,.sl 9 1 .leaf,.sl 9 1 .leaf,.leaf,.sl 138 2 (.ag [.leaf,.leaf])]:=by kernel_rfl
@[push_cast] theorem lay_55 : lay P0 55 = .sli 5 1:=by kernel_rfl
@[push_cast] theorem lay_66 : lay P0 66 = .sli 3 1:=by kernel_rfl
@[push_cast] theorem zero_66 : zeroOf P0 66=some (.slice none 0 0):=by kernel_rfl
@[push_cast] theorem cells_66 : P0.cellsOf 66=1:=by kernel_rfl
@[push_cast] theorem lay_103 : lay P0 103 = .ptr:=by kernel_rfl
@[push_cast] theorem lay_138 : lay P0 138 = .st [(0,1),(1,1)] 2:=by kernel_rfl
@[push_cast] theorem zero_138 : zeroOf P0 138=some (.agg #[.string ⟨#[]⟩,.int .i64 0]):=by kernel_rfl
@[push_cast] theorem cells_138 : P0.cellsOf 138=2:=by kernel_rfl
@[push_cast] theorem bytes_138 : P0.bytesOf 138=24:=by kernel_rfl
@[push_cast] theorem sh_138 : shOf P0 40 138 = .ag [.leaf,.leaf]:=by kernel_rfl
@[push_cast] theorem lay_140 : lay P0 140 = .sli 4 1:=by kernel_rfl
@[push_cast] theorem zero_140 : zeroOf P0 140=some (.slice none 0 0):=by kernel_rfl
@[push_cast] theorem cells_140 : P0.cellsOf 140=1:=by kernel_rfl
@[push_cast] theorem lay_158 : lay P0 158 = .st [(0,1),(1,1)] 2:=by kernel_rfl
@[push_cast] theorem lay_168 : lay P0 168 = .map 9 3:=by kernel_rfl
@[push_cast] theorem lay_170 : lay P0 170 = .st [(0,1),(1,1)] 2:=by kernel_rfl
@[push_cast] theorem zero_170 : zeroOf P0 170=some (.agg #[.slice none 0 0,.map none]):=by kernel_rfl
@[push_cast] theorem lay_200 : lay P0 200 = .map 3 3:=by kernel_rfl
@[push_cast] theorem lay_202 : lay P0 202 = .fnc:=by kernel_rfl
@[push_cast] theorem lay_204 : lay P0 204 = .st [(0,1),(1,1)] 2:=by kernel_rfl
@[push_cast] theorem zero_204 : zeroOf P0 204=some (.agg #[.slice none 0 0,.nilFunc]):=by kernel_rfl
@[push_cast] theorem lay_205 : lay P0 205 = .map 3 66:=by kernel_rfl
@[push_cast] theorem lay_218 : lay P0 218 = .int .u64:=by kernel_rfl
@[push_cast] theorem und_218 : P0.underlying 218=some (.int .u64):=by kernel_rfl
@[push_cast] theorem lay_230 : lay P0 230 = .st [(0,1),(1,1),(2,1),(3,1)] 4:=by kernel_rfl
@[push_cast] theorem zero_230 : zeroOf P0 230=some (.agg #[.bool false,.string ⟨#[]⟩,.slice none 0 0,.bool false]):=by kernel_rfl
@[push_cast] theorem cells_230 : P0.cellsOf 230=4:=by kernel_rfl
@[push_cast] theorem lay_232 : lay P0 232 = .st [(0,4)] 4:=by kernel_rfl
@[push_cast] theorem zero_232 : zeroOf P0 232=some (.agg #[.bool false,.string ⟨#[]⟩,.slice none 0 0,.bool false]):=by kernel_rfl
@[push_cast] theorem lay_234 : lay P0 234 = .st [(0,4),(4,1),(5,1)] 6:=by kernel_rfl
@[push_cast] theorem zero_234 : zeroOf P0 234=some (.agg #[.bool false,.string ⟨#[]⟩,.slice none 0 0,.bool false,.bool false,.string ⟨#[]⟩]):=by kernel_rfl
@[push_cast] theorem lay_235 : lay P0 235 = .st [(0,4)] 4:=by kernel_rfl
@[push_cast] theorem zero_235 : zeroOf P0 235=some (.agg #[.bool false,.string ⟨#[]⟩,.slice none 0 0,.bool false]):=by kernel_rfl
@[push_cast] theorem lay_236 : lay P0 236 = .st [(0,4)] 4:=by kernel_rfl
@[push_cast] theorem zero_236 : zeroOf P0 236=some (.agg #[.bool false,.string ⟨#[]⟩,.slice none 0 0,.bool false]):=by kernel_rfl
@[push_cast] theorem lay_237 : lay P0 237 = .st [(0,4)] 4:=by kernel_rfl
@[push_cast] theorem zero_237 : zeroOf P0 237=some (.agg #[.bool false,.string ⟨#[]⟩,.slice none 0 0,.bool false]):=by kernel_rfl
@[push_cast] theorem key_3 : keyLay P0 3=some (false,[.int .i64]):=by kernel_rfl
@[push_cast] theorem key_9 : keyLay P0 9=some (false,[.str]):=by kernel_rfl
@[push_cast] theorem nt_7 : Tryz.f7.ntmps=119:=rfl
@[push_cast] theorem nt_12 : Tryz.f12.ntmps=12:=rfl
@[push_cast] theorem nt_14 : Tryz.f14.ntmps=59:=rfl
@[push_cast] theorem nt_16 : Tryz.f16.ntmps=9:=rfl
@[push_cast] theorem nt_18 : Tryz.f18.ntmps=38:=rfl
@[push_cast] theorem nt_20 : Tryz.f20.ntmps=11:=rfl
@[push_cast] theorem nt_22 : Tryz.f22.ntmps=58:=rfl
@[push_cast] theorem nt_23 : Tryz.f23.ntmps=28:=rfl
@[push_cast] theorem nt_25 : Tryz.f25.ntmps=22:=rfl
@[push_cast] theorem nt_27 : Tryz.f27.ntmps=26:=rfl
@[push_cast] theorem nt_28 : Tryz.f28.ntmps=10:=rfl
@[push_cast] theorem nt_29 : Tryz.f29.ntmps=20:=rfl
@[push_cast] theorem nt_30 : Tryz.f30.ntmps=22:=rfl
@[push_cast] theorem nt_38 : Tryz.f38.ntmps=23:=rfl
@[push_cast] theorem nt_40 : Tryz.f40.ntmps=19:=rfl
@[push_cast] theorem nt_41 : Tryz.f41.ntmps=25:=rfl
@[push_cast] theorem nt_58 : Tryz.f58.ntmps=27:=rfl
@[push_cast] theorem nt_60 : Tryz.f60.ntmps=27:=rfl
@[push_cast] theorem nt_61 : Tryz.f61.ntmps=58:=rfl
@[push_cast] theorem nt_64 : Tryz.f64.ntmps=23:=rfl
@[push_cast] theorem nt_66 : Tryz.f66.ntmps=23:=rfl
@[push_cast] theorem nt_67 : Tryz.f67.ntmps=23:=rfl
@[push_cast] theorem nt_69 : Tryz.f69.ntmps=64:=rfl
@[push_cast] theorem nt_72 : Tryz.f72.ntmps=27:=rfl
@[push_cast] theorem nt_74 : Tryz.f74.ntmps=27:=rfl
@[push_cast] theorem nt_76 : Tryz.f76.ntmps=22:=rfl
@[push_cast] theorem nt_79 : Tryz.f79.ntmps=27:=rfl
@[push_cast] theorem nt_81 : Tryz.f81.ntmps=90:=rfl
@[push_cast] theorem nt_82 : Tryz.f82.ntmps=20:=rfl
@[push_cast] theorem nt_90 : Tryz.f90.ntmps=62:=rfl
@[push_cast] theorem nt_92 : Tryz.f92.ntmps=4:=rfl
@[push_cast] theorem nt_93 : Tryz.f93.ntmps=39:=rfl
@[push_cast] theorem nt_95 : Tryz.f95.ntmps=70:=rfl
@[push_cast] theorem nt_96 : Tryz.f96.ntmps=78:=rfl
@[push_cast] theorem nt_97 : Tryz.f97.ntmps=179:=rfl
@[push_cast] theorem nt_98 : Tryz.f98.ntmps=89:=rfl
@[push_cast] theorem nt_99 : Tryz.f99.ntmps=102:=rfl
@[push_cast] theorem nt_104 : Tryz.f104.ntmps=22:=rfl
@[push_cast] theorem nt_110 : Tryz.f110.ntmps=18:=rfl
@[push_cast] theorem nt_111 : Tryz.f111.ntmps=20:=rfl
@[push_cast] theorem nt_115 : Tryz.f115.ntmps=13:=rfl
@[push_cast] theorem nt_116 : Tryz.f116.ntmps=23:=rfl
@[push_cast] theorem nt_117 : Tryz.f117.ntmps=39:=rfl
@[push_cast] theorem nt_118 : Tryz.f118.ntmps=97:=rfl
@[push_cast] theorem nt_125 : Tryz.f125.ntmps=25:=rfl
@[push_cast] theorem nt_127 : Tryz.f127.ntmps=11:=rfl
@[push_cast] theorem nt_129 : Tryz.f129.ntmps=44:=rfl
@[push_cast] theorem nt_130 : Tryz.f130.ntmps=40:=rfl
@[push_cast] theorem nt_131 : Tryz.f131.ntmps=53:=rfl
@[push_cast] theorem nt_140 : Tryz.f140.ntmps=15:=rfl
@[push_cast] theorem nt_141 : Tryz.f141.ntmps=12:=rfl
@[push_cast] theorem nt_143 : Tryz.f143.ntmps=18:=rfl
@[push_cast] theorem nt_145 : Tryz.f145.ntmps=38:=rfl
@[push_cast] theorem nt_149 : Tryz.f149.ntmps=20:=rfl
@[push_cast] theorem nt_150 : Tryz.f150.ntmps=28:=rfl
@[push_cast] theorem nt_162 : Tryz.f162.ntmps=29:=rfl
@[push_cast] theorem nt_163 : Tryz.f163.ntmps=16:=rfl
@[push_cast] theorem nt_164 : Tryz.f164.ntmps=50:=rfl
@[push_cast] theorem nt_165 : Tryz.f165.ntmps=29:=rfl
@[push_cast] theorem nt_166 : Tryz.f166.ntmps=42:=rfl
@[push_cast] theorem nt_167 : Tryz.f167.ntmps=42:=rfl
@[push_cast] theorem nt_169 : Tryz.f169.ntmps=4:=rfl
@[push_cast] theorem nt_170 : Tryz.f170.ntmps=79:=rfl
@[push_cast] theorem nt_171 : Tryz.f171.ntmps=112:=rfl
@[push_cast] theorem nt_172 : Tryz.f172.ntmps=64:=rfl
@[push_cast] theorem nt_173 : Tryz.f173.ntmps=16:=rfl
@[push_cast] theorem nt_182 : Tryz.f182.ntmps=6:=rfl
@[push_cast] theorem nt_184 : Tryz.f184.ntmps=23:=rfl
@[push_cast] theorem nt_185 : Tryz.f185.ntmps=21:=rfl
@[push_cast] theorem nt_186 : Tryz.f186.ntmps=47:=rfl
@[push_cast] theorem nt_187 : Tryz.f187.ntmps=52:=rfl
@[push_cast] theorem nt_193 : Tryz.f193.ntmps=8:=rfl
@[push_cast] theorem nt_198 : Tryz.f198.ntmps=27:=rfl
@[push_cast] theorem nt_199 : Tryz.f199.ntmps=8:=rfl
@[push_cast] theorem nt_204 : Tryz.f204.ntmps=6:=rfl
@[push_cast] theorem nt_209 : Tryz.f209.ntmps=32:=rfl
@[push_cast] theorem nt_210 : Tryz.f210.ntmps=36:=rfl
@[push_cast] theorem nt_226 : Tryz.f226.ntmps=21:=rfl
@[push_cast] theorem nt_230 : Tryz.f230.ntmps=49:=rfl
@[push_cast] theorem nt_231 : Tryz.f231.ntmps=9:=rfl
@[push_cast] theorem nt_232 : Tryz.f232.ntmps=41:=rfl
@[push_cast] theorem nt_239 : Tryz.f239.ntmps=26:=rfl
@[push_cast] theorem nt_307 : Tryz.f307.ntmps=11:=rfl
@[push_cast] theorem nt_308 : Tryz.f308.ntmps=18:=rfl
@[push_cast] theorem nt_309 : Tryz.f309.ntmps=43:=rfl
@[push_cast] theorem nt_310 : Tryz.f310.ntmps=18:=rfl
@[push_cast] theorem nt_311 : Tryz.f311.ntmps=18:=rfl
@[push_cast] theorem nt_312 : Tryz.f312.ntmps=61:=rfl
@[push_cast] theorem nt_313 : Tryz.f313.ntmps=20:=rfl
end Go.Proofs.YtmgdkkhnjkepiaaGreat.BX
namespace Go.Proofs.YtmgdkkhnjkepiaaGreat.BX
open Nat renaming reduceEqDiff → zA, reduceLT → zB, reduceLeDiff → zC, reduceAdd → zD, reduceMul → zE, reduceSub → zF, reduceBEq → zG
set_option linter.unusedSectionVars false
set_option linter.unusedSimpArgs false
set_option linter.unusedVariables false
open Go Go.RowKit
theorem iteI {p:Prop} [Decidable p] {A B:Prop} (h1:p→A) (h2:¬ p→B) : if p then A else B:=by
 by_cases h : p
 ·rw [if_pos h]; exact h1 h
 ·rw [if_neg h]; exact h2 h
def filled {α:Type} (f:α→T) (z:T) (xs:List α) (i:Nat) : List T:=(xs.take i).map f ++ List.replicate (xs.length - i) z
section
variable {α:Type} {f:α→T} {z:T} {xs:List α} {i:Nat}
theorem filled_len (h:i≤xs.length) : (filled f z xs i).length=xs.length:=by simp [filled]; omega
theorem filled_zero : filled f z xs 0=List.replicate xs.length z:=by simp [filled]
theorem filled_all : filled f z xs xs.length=xs.map f:=by simp [filled]
theorem filled_at (h:i < xs.length) {K:T→Prop} : allAt (filled f z xs i) i K=K z:=by
 have : (filled f z xs i)[i]? = some z:=by
  unfold filled
  rw [List.getElem?_append_right (by rw [List.length_map,List.length_take]; omega),List.length_map,List.length_take,List.getElem?_replicate,if_pos (by omega)]
 simp only [allAt,this,Option.some.injEq,forall_eq']
theorem filled_set {a:α} (h:xs[i]? = some a) : (filled f z xs i).set i (f a)=filled f z xs (i + 1):=by
 have hi : i < xs.length:=(List.getElem?_eq_some_iff.1 h).1
 unfold filled
 rw [List.set_append_right _ _ (by rw [List.length_map,List.length_take]; omega)]
 have : xs.length - i=(xs.length - (i + 1)) + 1:=by omega
 rw [this,List.replicate_succ,List.take_add_one,h]
 simp
 rw [Nat.min_eq_left (by omega),Nat.sub_self,List.set_cons_zero]
end
mutual
def T.wt : T→Nat
 | .s x => x.length
 | .ag cs => wts cs
 | .tp cs => wts cs
 | .sl es => es.length + wts es
 | _ => 0
def wts : List T→Nat
 | [] => 0
 | x :: xs => x.wt + wts xs
end
def szR (w:Nat) (n:Int) : Int:=if (w:Int)≤n then n - w else -1
theorem szR_pos {w:Nat} {n:Int} (h:(w:Int)≤n) : szR w n=n - w:=if_pos h
theorem szR_neg {w:Nat} {n:Int} (h:n < (w:Int)) : szR w n = -1:=if_neg (by omega)
theorem szR_cases (w:Nat) (n:Int) : ((w:Int)≤n∧szR w n=n - w) ∨ (n < (w:Int)∧szR w n = -1):=by
 by_cases h : (w:Int)≤n
 ·exact .inl ⟨h,szR_pos h⟩
 ·exact .inr ⟨by omega,szR_neg (by omega)⟩
theorem wts_append : ∀ (xs ys:List T),wts (xs ++ ys)=wts xs + wts ys
 | [], ys => by simp [wts]
 | x :: xs, ys => by simp only [List.cons_append,wts,wts_append xs ys]; omega
theorem wts_take {α:Type} {f:α→T} {xs:List α} {i:Nat} {a:α} (h:xs[i]? = some a) : wts ((xs.take (i + 1)).map f)=wts ((xs.take i).map f) + (f a).wt:=by
 rw [List.take_add_one,h,List.map_append,wts_append]
 simp [wts]
theorem wts_take_le {α:Type} {f:α→T} (xs:List α) (i:Nat) : wts ((xs.take i).map f)≤wts (xs.map f):=by
 conv=>rhs; rw [← List.take_append_drop i xs,List.map_append,wts_append]
 omega
theorem allLen_map {α:Type} {f:α→T} {m:Nat} (h:∀ a,(f a).cells.length=m) : ∀ {xs:List α},allLen m (xs.map f)=true
 | [] => rfl
 | x :: r => by simp only [List.map_cons,allLen,h,allLen_map h,decide_true,Bool.and_self]
theorem fitsAll_map {α:Type} {f:α→T} {s:Sh} (h:∀ a,fits s (f a)=true) : ∀ {xs:List α},fitsAll s (xs.map f)=true
 | [] => rfl
 | x :: r => by simp only [List.map_cons,fitsAll,h,fitsAll_map h,Bool.and_self]
section
variable {κ β:Type} [DecidableEq κ]
def aget (k:κ) : List (κ × β)→Option β
 | [] => none
 | p :: r => if p.1=k then some p.2 else aget k r
def aset (k:κ) (v:β) : List (κ × β)→List (κ × β)
 | [] => [(k,v)]
 | p :: r => if p.1=k then (p.1,v) :: r else p :: aset k v r
theorem aget_none {k:κ} : ∀ {l:List (κ × β)},aget k l=none ↔ k ∉ l.map (·.1)
 | [] => by simp [aget]
 | p :: r => by
   simp only [aget,List.map_cons,List.mem_cons,not_or]
   split
   ·rename_i h; simp [h]
   ·rename_i h; rw [aget_none (l:=r)]; exact ⟨fun hh=>⟨fun e=>h e.symm,hh⟩,fun hh=>hh.2⟩
variable {ek:κ→T} {ev:β→T} (hinj:∀ a b,ek a=ek b→a=b)
include hinj
theorem place_assoc {k:κ} : ∀ {l:List (κ × β)} {i:Nat},(placeT (ek k) (l.map fun p=>ek p.1) i=none∧k ∉ l.map (·.1)) ∨ ∃ (j:Nat) (p:κ × β),placeT (ek k) (l.map fun p=>ek p.1) i=some (i + j)∧l[j]? = some p∧p.1=k∧k ∉ (l.take j).map (·.1)
 | [], i => .inl ⟨rfl,by simp⟩
 | p :: r, i => by
   simp only [List.map_cons,placeT]
   by_cases h : p.1=k
   ·subst h
    exact .inr ⟨0,p,by simp,rfl,rfl,by simp⟩
   ·have h' : ¬ ek k=ek p.1:=fun e=>h (hinj _ _ e).symm
    rw [if_neg h']
    rcases place_assoc (k:=k) (l:=r) (i:=i + 1) with ⟨h1,h2⟩ | ⟨j,q,h1,h2,h3,h4⟩
    ·exact .inl ⟨h1,by simp only [List.mem_cons,not_or]; exact ⟨fun e=>h e.symm,h2⟩⟩
    ·refine .inr ⟨j + 1,q,by rw [h1]; congr 1; omega,by simpa using h2,h3,?_⟩
     simp only [List.take_succ_cons,List.map_cons,List.mem_cons,not_or]
     exact ⟨fun e=>h e.symm,h4⟩
omit hinj in
theorem aset_at {k:κ} {v:β} : ∀ {l:List (κ × β)} {j:Nat} {p:κ × β},l[j]? = some p→p.1=k→k ∉ (l.take j).map (·.1)→aset k v l=l.set j (k,v)
 | [], j, p, h, _, _ => by simp at h
 | q :: r, 0, p, h, hk, _ => by simp at h; subst h; simp [aset,hk]
 | q :: r, j + 1, p, h, hk, hn => by
   simp only [List.getElem?_cons_succ] at h
   simp only [List.take_succ_cons,List.map_cons,List.mem_cons,not_or] at hn
   simp only [aset,List.set_cons_succ]
   rw [if_neg (fun e=>hn.1 e.symm),aset_at h hk hn.2]
omit hinj in
theorem aset_new {k:κ} {v:β} : ∀ {l:List (κ × β)},k ∉ l.map (·.1)→aset k v l=l ++ [(k,v)]
 | [], _ => rfl
 | q :: r, hn => by
   simp only [List.map_cons,List.mem_cons,not_or] at hn
   simp only [aset,List.cons_append]
   rw [if_neg (fun e=>hn.1 e.symm),aset_new hn.2]
theorem upd_assoc {k:κ} {v:β} {l:List (κ × β)} : updK (l.map fun p=>ek p.1) (ek k)=(aset k v l).map (fun p=>ek p.1)∧updV (l.map fun p=>ek p.1) (l.map fun p=>ev p.2) (ek k) (ev v)=(aset k v l).map fun p=>ev p.2:=by
 unfold updK updV
 rcases place_assoc hinj (k:=k) (l:=l) (i:=0) with ⟨h1,h2⟩ | ⟨j,p,h1,h2,h3,h4⟩
 ·rw [h1,aset_new h2]; simp
 ·rw [h1,aset_at h2 h3 h4]
  simp only [Nat.zero_add,List.map_set,and_true]
  refine List.ext_getElem? fun i=>?_
  rw [List.getElem?_set]
  split
  ·rename_i hi
   subst hi
   have:=(List.getElem?_eq_some_iff.1 h2).1
   rw [List.getElem?_map,h2]
   simp [h3,this]
  ·rfl
omit hinj in
theorem aget_at {k:κ} : ∀ {l:List (κ × β)} {i:Nat} {p:κ × β},(l.map (·.1)).Nodup→l[i]? = some p→p.1=k→aget k l=some p.2
 | [], i, p, _, h, _ => by simp at h
 | q :: r, 0, p, _, h, hk => by simp at h; subst h; simp [aget,hk]
 | q :: r, i + 1, p, hn, h, hk => by
   simp only [List.map_cons,List.nodup_cons] at hn
   simp only [List.getElem?_cons_succ] at h
   simp only [aget]
   rw [if_neg ?_,aget_at hn.2 h hk]
   rintro rfl
   exact hn.1 (hk ▸ List.mem_map_of_mem (List.mem_of_getElem? h))
theorem look_assoc {s:Bool × List Lay} {z:Value} {k:κ} {ok:Bool} {kd:Kind} {K:AV→Prop} {l:List (κ × β)} (hn:(l.map (·.1)).Nodup) (hk:∀ p∈l,isKey s (ek p.1)) (h1:∀ v,aget k l=some v→K (if ok=true then .tp [kd.look (ev v),.t (.b true)] else kd.look (ev v))) (h2:aget k l=none→K (if ok=true then .tp [ofV z,.t (.b false)] else ofV z)) :
 lookM s z (ek k) ok kd (l.map fun p=>ek p.1) (l.map fun p=>ev p.2) K:=by
 refine ⟨?_,fun i v hi hv=>?_,fun hh=>h2 (aget_none.2 fun hm=>hh ?_)⟩
 ·intro y hy
  obtain ⟨p,hp,rfl⟩:=List.mem_map.1 hy
  exact hk p hp
 ·rw [List.getElem?_map,Option.map_eq_some_iff] at hi hv
  obtain ⟨p,hp,hpk⟩:=hi
  obtain ⟨q,hq,rfl⟩:=hv
  rw [hp] at hq
  cases hq
  exact h1 p.2 (aget_at hn hp (hinj _ _ hpk))
 ·obtain ⟨p,hp,rfl⟩:=List.mem_map.1 hm
  exact List.mem_map.2 ⟨p,hp,rfl⟩
end
end Go.Proofs.YtmgdkkhnjkepiaaGreat.BX
namespace Go.Proofs.YtmgdkkhnjkepiaaGreat.BX
open Nat renaming reduceEqDiff → zA, reduceLT → zB, reduceLeDiff → zC, reduceAdd → zD, reduceMul → zE, reduceSub → zF, reduceBEq → zG
set_option linter.unusedSectionVars false
set_option linter.unusedSimpArgs false
set_option linter.unusedVariables false
open Go Go.RowKit Go.ChangeShapes Go.WideShapes
mutual
def T.mx : T→Nat
 | .s x => x.length
 | .ag cs => mxs cs
 | .sl es => max es.length (mxs es)
 | _ => 0
def mxs : List T→Nat
 | [] => 0
 | x :: xs => max x.mx (mxs xs)
end
mutual
def T.wfi : T→Bool
 | .i k n => (Lit.int k n).wf
 | .ag cs => wfis cs
 | .sl es => wfis es
 | _ => true
def wfis : List T→Bool
 | [] => true
 | x :: xs => x.wfi && wfis xs
end
mutual
theorem mx_le_wt : ∀ x : T,x.mx≤x.wt
 | .s x => Nat.le_refl _
 | .ag cs => by simpa only [T.mx,T.wt] using mxs_le_wts cs
 | .sl es => by simp only [T.mx,T.wt]; have:=mxs_le_wts es; omega
 | .b _ | .i _ _ | .tp _ | .po _ _ | .np | .nm | .ni | .ifc _ _ | .mp _ _ | .fn _ _ => by simp [T.mx]
theorem mxs_le_wts : ∀ xs : List T,mxs xs≤wts xs
 | [] => by simp [mxs]
 | x :: xs => by simp only [mxs,wts]; have:=mx_le_wt x; have:=mxs_le_wts xs; omega
end
theorem mx_of {x:T} {n:Nat} (h:x.wt≤n) : x.mx≤n:=Nat.le_trans (mx_le_wt x) h
theorem mxs_nil {n:Nat} : mxs []≤n:=Nat.zero_le _
theorem mxs_cons {x:T} {xs:List T} {n:Nat} (h:x.mx≤n) (k:mxs xs≤n) : mxs (x :: xs)≤n:=by simp only [mxs]; omega
@[reducible] def big : Bd:=⟨9223372036854775808,by omega,by omega,False⟩
@[reducible] def small : Bd:=⟨2147483648,by omega,by omega,False⟩
def Sees (w:World) (x:T) (v:Value) (L:List Nat) : Prop:=x.mx < 9223372036854775808∧x.wfi=true∧(∀ bd : Bd,x.mx < bd.B → @footT bd w x v L)∧∀ b∈L,b < w.heap.size
def SeesL (w:World) (xs:List T) (vs:List Value) (L:List Nat) : Prop:=mxs xs < 9223372036854775808∧wfis xs=true∧(∀ bd : Bd,mxs xs < bd.B → @footTs bd w xs vs L)∧∀ b∈L,b < w.heap.size
theorem SeesL.nil (w:World) : SeesL w [] [] []:=⟨by simp [mxs],rfl,fun bd _=>by simp [footTs],by simp⟩
theorem SeesL.cons {w:World} {x:T} {xs:List T} {v:Value} {vs:List Value} {L M:List Nat} (h:Sees w x v L) (k:SeesL w xs vs M) : SeesL w (x :: xs) (v :: vs) (L ++ M):=by
 obtain ⟨h1,h2,h3,h4⟩:=h
 obtain ⟨k1,k2,k3,k4⟩:=k
 refine ⟨by simp only [mxs]; omega,by simp only [wfis,h2,k2,Bool.and_self],fun bd hb=>?_,fun b hb=>(List.mem_append.1 hb).elim (h4 b) (k4 b)⟩
 simp only [mxs] at hb
 simp only [footTs]
 exact ⟨v,vs,L,M,rfl,rfl,h3 bd (by omega),k3 bd (by omega)⟩
theorem SeesL.append {w:World} {ys:List T} {us:List Value} {M:List Nat} (k:SeesL w ys us M) : ∀ {xs:List T} {vs:List Value} {L:List Nat},SeesL w xs vs L→SeesL w (xs ++ ys) (vs ++ us) (L ++ M):=by
 have hmx : ∀ xs : List T,mxs (xs ++ ys)=max (mxs xs) (mxs ys):=by
  intro xs
  induction xs with
  | nil => simp [mxs]
  | cons x xs ih => simp only [List.cons_append,mxs,ih]; omega
 have hwf : ∀ xs : List T,wfis (xs ++ ys)=(wfis xs && wfis ys):=by
  intro xs
  induction xs with
  | nil => simp [wfis]
  | cons x xs ih => simp only [List.cons_append,wfis,ih,Bool.and_assoc]
 intro xs vs L h
 obtain ⟨h1,h2,h3,h4⟩:=h
 obtain ⟨k1,k2,k3,k4⟩:=k
 refine ⟨by rw [hmx]; omega,by rw [hwf,h2,k2]; rfl,fun bd hb=>?_,fun b hb=>(List.mem_append.1 hb).elim (h4 b) (k4 b)⟩
 rw [hmx] at hb
 exact @footTs_append bd _ _ _ _ _ _ _ (h3 bd (by omega)) (k3 bd (by omega))
theorem SeesL.of {w:World} {α:Type} {h:α→T} : ∀ (l:List (α × Value × List Nat)),(∀ p∈l,Sees w (h p.1) p.2.1 p.2.2)→SeesL w (l.map fun p=>h p.1) (l.map fun p=>p.2.1) (l.flatMap fun p=>p.2.2)
 | [], _ => .nil w
 | p :: l, hp => by
   simp only [List.map_cons,List.flatMap_cons]
   exact .cons (hp p (List.mem_cons_self ..)) (SeesL.of l fun q hq=>hp q (List.mem_cons_of_mem _ hq))
theorem Sees.cells {w:World} {x:T} {v:Value} {L:List Nat} (h:Sees w x v L) : ∃ L',SeesL w x.cells v.cells.toList L':=by
 obtain ⟨h1,h2,h3,h4⟩:=h
 have hb:=h3 big h1
 have one : v.cells = #[v]→x.cells=[x] → ∃ L',SeesL w x.cells v.cells.toList L':=by
  intro e1 e2
  rw [e1,e2]
  exact ⟨L ++ [],SeesL.cons ⟨h1,h2,h3,h4⟩ (SeesL.nil w)⟩
 cases x with
 | ag cs =>
   refine ⟨L,h1,h2,fun bd hbd=>?_,h4⟩
   have:=h3 bd hbd
   simp only [footT] at this
   obtain ⟨vs,rfl,h⟩:=this
   simpa [Value.cells,T.cells] using h
 | b => simp only [footT] at hb; obtain ⟨rfl,_⟩:=hb; exact one rfl rfl
 | i => simp only [footT] at hb; obtain ⟨rfl,_⟩:=hb; exact one rfl rfl
 | s => simp only [footT] at hb; obtain ⟨rfl,_⟩:=hb; exact one rfl rfl
 | np => simp only [footT] at hb; obtain ⟨rfl,_⟩:=hb; exact one rfl rfl
 | nm => simp only [footT] at hb; obtain ⟨rfl,_⟩:=hb; exact one rfl rfl
 | ni => simp only [footT] at hb; obtain ⟨rfl,_⟩:=hb; exact one rfl rfl
 | tp cs => simp only [footT] at hb; obtain ⟨_,rfl,_⟩:=hb; exact one rfl rfl
 | sl es => simp only [footT] at hb; obtain ⟨_,_,rfl,_⟩:=hb; exact one rfl rfl
 | po => simp only [footT] at hb; obtain ⟨_,_,_,_,rfl,_⟩:=hb; exact one rfl rfl
 | ifc => simp only [footT] at hb; obtain ⟨_,rfl,_⟩:=hb; exact one rfl rfl
 | mp => simp only [footT] at hb; obtain ⟨_,_,_,_,_,_,rfl,_⟩:=hb; exact one rfl rfl
 | fn => simp only [footT] at hb; obtain ⟨_,rfl,_⟩:=hb; exact one (fnVal_cells _ _) rfl
def Reads (P:Program) (t:TypeId) {α:Type} (g:α→T) : Prop :=
 ∀ {H:Type} (enc:TypeId × Value→H) (w:World) (base:Nat) (spare:Nat→Bool) (held:Bool) (fuel:Nat) (cs:List Value) (x:DataW H × List MemPlace),DataW.trod enc P w base spare held fuel t cs=some x →
   ∃ (a:α) (v:Value) (L:List Nat),v.cells.toList=cs∧ones cs∧Sees w (g a) v L
section
variable {P:Program} {t:TypeId}
theorem Reads.map {α β:Type} {g:α→T} {g':β→T} (h:Reads P t g) (k:∀ a,∃ b,g a=g' b) : Reads P t g':=by
 intro H enc w base spare held fuel cs x hx
 obtain ⟨a,v,L,h1,h2,h3⟩:=h enc w base spare held fuel cs x hx
 obtain ⟨b,hb⟩:=k a
 exact ⟨b,v,L,h1,h2,hb ▸ h3⟩
theorem Reads.int {k:IntKind} (ht:P.underlying t=some (.int k)) : Reads P t (T.i k):=by
 intro H enc w base spare held fuel cs x hx
 obtain ⟨n,rfl,_,hw⟩:=DataW.trod_int ht hx
 exact ⟨n,.int k n,[],rfl,by simp [ones,Value.oneCell'],by simp [T.mx],hw,fun bd _=>by simp [footT],by simp⟩
theorem Reads.bool (ht:P.underlying t=some .bool) : Reads P t T.b:=by
 intro H enc w base spare held fuel cs x hx
 obtain ⟨n,rfl,_⟩:=DataW.trod_bool ht hx
 exact ⟨n,.bool n,[],rfl,by simp [ones,Value.oneCell'],by simp [T.mx],rfl,fun bd _=>by simp [footT],by simp⟩
theorem Reads.str (ht:P.underlying t=some .string) : Reads P t T.s:=by
 intro H enc w base spare held fuel cs x hx
 obtain ⟨s,rfl,_,hw⟩:=DataW.trod_string ht hx
 have hl : s.data.toList.length≤9223372036854775807:=by
  have : s.size=s.data.toList.length:=by cases s; simp [ByteArray.size]
  rw [← this]
  exact hw
 refine ⟨s.data.toList,.string s,[],rfl,by simp [ones,Value.oneCell'],by simp only [T.mx]; omega,rfl,fun bd hb=>?_,by simp⟩
 simp only [footT]
 exact ⟨by cases s; first | rfl | trivial,trivial,hb⟩
theorem choose_list {β:Type} {R:Nat→β→Prop} : ∀ (n:Nat),(∀ i,i < n → ∃ b,R i b) → ∃ l : List β,l.length=n∧∀ (i:Nat) (b:β),l[i]? = some b→R i b
 | 0, _ => ⟨[],rfl,by simp⟩
 | n + 1, h => by
   obtain ⟨l,h1,h2⟩:=choose_list n fun i hi=>h i (by omega)
   obtain ⟨b,hb⟩:=h n (by omega)
   refine ⟨l ++ [b],by simp [h1],fun i c hc=>?_⟩
   rcases @app_get big _ _ _ _ _ hc with ⟨_,hc⟩ | ⟨hi,rfl⟩
   ·exact h2 i c hc
   ·rw [hi,h1]; exact hb
theorem laid_chunks {w:World} {b m:Nat} : ∀ (vs:List Value) (off:Nat),(∀ (i:Nat) (v:Value),vs[i]? = some v→v.cells.size=m∧∀ k,k < m→w.cell? ⟨b,off + i * m + k,none⟩=v.cells[k]?)→laid w b off (cellsL vs)
 | [], _, _ => by intro j v hj; simp [cellsL] at hj
 | v :: vs, off, h => by
   intro j u hj
   obtain ⟨h1,h2⟩:=h 0 v (by simp)
   simp only [cellsL,List.flatMap_cons] at hj
   rcases Nat.lt_or_ge j m with hjm | hjm
   ·rw [List.getElem?_append_left (by simpa [h1] using hjm)] at hj
    have:=h2 j hjm
    rw [Nat.zero_mul,Nat.add_zero] at this
    rw [this]
    simpa using hj
   ·rw [List.getElem?_append_right (by simpa [h1] using hjm)] at hj
    have ih:=laid_chunks vs (off + m) (fun i v hv=>⟨(h (i + 1) v (by simpa using hv)).1,fun k hk=>by
     have:=(h (i + 1) v (by simpa using hv)).2 k hk
     rwa [Nat.succ_mul,show off + (i * m + m) + k=off + m + i * m + k by omega] at this⟩) (j - m) u (by simpa [h1,cellsL] using hj)
    rwa [show off + m + (j - m)=off + j by omega] at ih
theorem cells?_get {w:World} {base n:Nat} {a:Addr} {cs:List Value} (h:w.cells? base a n=some cs) : cs.length=n∧∀ i,i < n→w.cell? (a.add i)=cs[i]?:=by
 unfold World.cells? at h
 split at h
 ·exact ⟨by simpa using mapM_some_length h,fun i hi=>mapM_some_get h i i (by simp [hi])⟩
 ·cases h
theorem cell_lt {w:World} {a:Addr} {v:Value} (h:w.cell? a=some v) : a.block < w.heap.size:=by
 unfold World.cell? at h
 rcases Nat.lt_or_ge a.block w.heap.size with h' | h'
 ·exact h'
 ·rw [Array.getElem?_eq_none h'] at h; cases h
theorem ones_flat {α:Type} {f:α→Value} {l:List α} (h:∀ a∈l,ones (f a).cells.toList) : ones (cellsL (l.map f)):=by
 intro u hu
 simp only [cellsL,List.mem_flatMap,List.mem_map] at hu
 obtain ⟨v,⟨a,ha,rfl⟩,hv⟩:=hu
 exact h a ha u hv
theorem Reads.slice {e:TypeId} {α:Type} {h:α→T} (ht:P.underlying t=some (.slice e)) (hm:0 < P.cellsOf e) (he:Reads P e h) : Reads P t fun xs : List α=>.sl (xs.map h):=by
 intro H enc w base spare held fuel cs x hx
 have nil : ∀ A c,∃ L,Sees w (.sl (([] : List α).map h)) (.slice A 0 c) L:=fun A c=>⟨[],by simp [T.mx,mxs],rfl,fun bd _=>by
  simp only [List.map_nil,footT]
  exact ⟨A,c,rfl,by simp,by have:=bd.lo; simp; omega,.inl ⟨trivial,trivial⟩⟩,by simp⟩
 rcases DataW.trod_slice ht hx with ⟨rfl,_⟩ | ⟨a,len,cap,elems,rest,n,rfl,rfl,_,hb,hle,hcap,hlen,hel,_,_⟩
 ·obtain ⟨L,hL⟩:=nil none 0
  exact ⟨[],.slice none 0 0,L,rfl,by simp [ones,Value.oneCell'],hL⟩
 by_cases h0 : len=0
 ·subst h0
  obtain ⟨L,hL⟩:=nil (some a) cap
  exact ⟨[],.slice (some a) 0 cap,L,rfl,by simp [ones,Value.oneCell'],hL⟩
 obtain ⟨b,off,spot⟩:=a
 have get : ∀ i,i < len → ∃ p : α × Value × List Nat,(p.2.1.cells.toList.length=P.cellsOf e∧ones p.2.1.cells.toList∧∀ k,k < P.cellsOf e→w.cell? (((⟨b,off,spot⟩ : Addr).add (i * P.cellsOf e)).add k)=p.2.1.cells[k]?)∧Sees w (h p.1) p.2.1 p.2.2:=by
  intro i hi
  have hi':=hel i hi
  rw [List.getElem?_eq_getElem (by omega)] at hi'
  obtain ⟨cs',q1,q2⟩:=Option.bind_eq_some_iff.1 hi'
  obtain ⟨a',v,L,r1,r2,r3⟩:=he enc w base spare held n cs' _ q2
  obtain ⟨s1,s2⟩:=cells?_get q1
  refine ⟨(a',v,L),⟨by simp only [r1,s1],by simpa only [r1] using r2,fun k hk=>?_⟩,r3⟩
  rw [s2 k hk,← r1]
  simp
 have hspot : spot=none:=by
  obtain ⟨p,⟨h1,_,h2⟩,_⟩:=get 0 (by omega)
  have g0:=h2 0 hm
  rw [Array.getElem?_eq_getElem (by rw [← Array.length_toList]; omega)] at g0
  have:=World.cell?_spot g0
  simpa [Addr.add] using this
 subst hspot
 obtain ⟨l,hl1,hl2⟩:=choose_list len get
 have hmem : ∀ p∈l,(p.2.1.cells.toList.length=P.cellsOf e∧ones p.2.1.cells.toList)∧Sees w (h p.1) p.2.1 p.2.2:=by
  intro p hp
  obtain ⟨i,hi⟩:=List.getElem?_of_mem hp
  obtain ⟨⟨h1,h2,_⟩,h3⟩:=hl2 i p hi
  exact ⟨⟨h1,h2⟩,h3⟩
 obtain ⟨k1,k2,k3,k4⟩:=SeesL.of (h:=h) l fun p hp=>(hmem p hp).2
 have hbl : b < w.heap.size:=by
  obtain ⟨p,⟨h1,_,h2⟩,_⟩:=get 0 (by omega)
  have g0:=h2 0 hm
  rw [Array.getElem?_eq_getElem (by rw [← Array.length_toList]; omega)] at g0
  have:=cell_lt g0
  simpa [Addr.add] using this
 have hlen2 : len≤9223372036854775807:=Nat.le_trans hle hcap
 refine ⟨l.map (·.1),.slice (some ⟨b,off,none⟩) len cap,b :: l.flatMap (fun p=>p.2.2),rfl,by simp [ones,Value.oneCell'],?_,?_,fun bd hbd=>?_,fun c hc=>?_⟩
 ·simp only [T.mx,List.map_map,List.length_map,hl1]
  simp only [Function.comp_def]
  omega
 ·simp only [T.wfi,List.map_map,Function.comp_def]; exact k2
 ·simp only [T.mx,List.map_map,List.length_map,hl1,Function.comp_def] at hbd
  have kk:=k3 bd (by omega)
  simp only [footT,List.map_map,List.length_map,hl1,Function.comp_def]
  refine ⟨some ⟨b,off,none⟩,cap,rfl,hle,by omega,.inr ⟨b,off,l.map (fun p=>p.2.1),_,P.cellsOf e,rfl,kk,fun v hv=>?_,rfl,laid_chunks (m:=P.cellsOf e) _ _ fun i v hv=>?_,ones_flat fun p hp=>(hmem p hp).1.2⟩⟩
  ·obtain ⟨p,hp,rfl⟩:=List.mem_map.1 hv
   simpa using (hmem p hp).1.1
  ·rw [List.getElem?_map,Option.map_eq_some_iff] at hv
   obtain ⟨p,hp,rfl⟩:=hv
   obtain ⟨⟨h1,_,h2⟩,_⟩:=hl2 i p hp
   refine ⟨by simpa using h1,fun k hk=>?_⟩
   have:=h2 k hk
   rwa [add_plain,add_plain] at this
 ·rcases List.mem_cons.1 hc with rfl | hc
  ·exact hbl
  ·exact k4 c hc
def fieldsAt (P:Program) (t:TypeId) : List (TypeId × Nat):=match P.underlying t with
 | some (.struct fs) => fs.toList.map fun f=>(f.type,f.offset)
 | _ => []
def ReadsF (P:Program) (N:Nat) (fs:List (TypeId × Nat)) (k:Nat) {α:Type} (g:α→List T) : Prop :=
 ∀ {H:Type} (enc:TypeId × Value→H) (w:World) (base:Nat) (spare:Nat→Bool) (held:Bool) (fuel:Nat) (cs:List Value),cs.length=N →
   (∀ f∈fs,∃ x,DataW.trod enc P w base spare held fuel f.1 ((cs.drop f.2).take (P.cellsOf f.1))=some x) → ∃ a L,ones (cs.drop k)∧SeesL w (g a) (cs.drop k) L
theorem ReadsF.nil {N:Nat} : ReadsF P N [] N fun _ : Unit=>[]:=by
 intro H enc w base spare held fuel cs hcs _
 refine ⟨(),[],?_⟩
 rw [List.drop_eq_nil_of_le (by omega)]
 exact ⟨by simp [ones],.nil w⟩
theorem ReadsF.cons {N k:Nat} {e:TypeId} {fs:List (TypeId × Nat)} {α β:Type} {h:α→T} {g:β→List T} (m:Nat) (hm:P.cellsOf e=m) (he:Reads P e h) (hf:ReadsF P N fs (k + m) g) : ReadsF P N ((e,k) :: fs) k fun p : α × β=>(h p.1).cells ++ g p.2:=by
 intro H enc w base spare held fuel cs hcs hx
 obtain ⟨x,hx0⟩:=hx (e,k) (List.mem_cons_self ..)
 obtain ⟨a,v,L,h1,h2,h3⟩:=he enc w base spare held fuel _ x hx0
 obtain ⟨b,M,k1,k2⟩:=hf enc w base spare held fuel cs hcs fun f hf=>hx f (List.mem_cons_of_mem _ hf)
 obtain ⟨L',hL⟩:=h3.cells
 dsimp only at h1 h2
 rw [hm] at h1 h2
 rw [h1] at hL
 have hsp : cs.drop k=(cs.drop k).take m ++ cs.drop (k + m):=by
  rw [← List.drop_drop,List.take_append_drop]
 refine ⟨(a,b),L' ++ M,?_,?_⟩
 ·rw [hsp]
  intro u hu
  exact (List.mem_append.1 hu).elim (h2 u) (k1 u)
 ·rw [hsp]
  exact SeesL.append k2 hL
theorem Reads.struct {fs:List (TypeId × Nat)} {α:Type} {g:α→List T} {N:Nat} (hN:P.cellsOf t=N) (h0:fs≠[]) (ht:fieldsAt P t=fs) (hf:ReadsF P N fs 0 g) : Reads P t fun a=>.ag (g a):=by
 intro H enc w base spare held fuel cs x hx
 unfold fieldsAt at ht
 split at ht
 case h_2=>exact absurd ht.symm h0
 rename_i fs' hu
 obtain ⟨xs,n,rfl,_,hl,hxl,hxs⟩:=DataW.trod_struct hu hx
 obtain ⟨a,L,h1,h2⟩:=hf enc w base spare held n cs (by rw [hl,hN]) fun f hf=>by
  rw [← ht,List.mem_map] at hf
  obtain ⟨f',hf',rfl⟩:=hf
  obtain ⟨i,hi⟩:=List.getElem?_of_mem hf'
  rw [Array.getElem?_toList] at hi
  have hil : i < xs.length:=by rw [hxl]; exact (Array.getElem?_eq_some_iff.1 hi).1
  refine ⟨xs[i],?_⟩
  rw [← List.getElem?_eq_getElem hil]
  exact hxs i f' hi
 rw [List.drop_zero] at h1 h2
 obtain ⟨k1,k2,k3,k4⟩:=h2
 refine ⟨a,.agg cs.toArray,L,by simp [Value.cells],h1,k1,k2,fun bd hb=>?_,k4⟩
 simp only [footT]
 exact ⟨cs,rfl,k3 bd hb⟩
def ArrT (P:Program) (t:TypeId) {α:Type} (g:α→T) : Prop :=
 ∀ {H:Type} {enc:TypeId × Value→H} {W:World} {r:Reach} {b0 base:Nat} {spare:Nat→Bool} {held:Bool} {v:Value} {d:DataW H} {p:List MemPlace},Value.okWide P W r b0 t v→DataW.Trod enc P W base spare held t v d p → ∃ a L,Sees W (g a) v L
theorem same_val {v v':Value} (h:v.cells.toList=v'.cells.toList) (h1:v.oneCell'=true) (h2:v'.oneCell'=true) : v=v':=by
 rw [@cells_of_one big _ h1,@cells_of_one big _ h2] at h
 simpa using h
theorem ArrT.of_one {α:Type} {g:α→T} (hr:Reads P t g) (hg:∀ a,(g a).one=true) (hv:∀ {W:World} {r:Reach} {b0:Nat} {v:Value},Value.okWide P W r b0 t v→v.oneCell'=true) : ArrT P t g:=by
 intro H enc W r b0 base spare held v d p hval hd
 obtain ⟨fuel,hf⟩:=hd
 obtain ⟨a,v',L,h1,h2,h3⟩:=hr enc W base spare held fuel _ _ hf
 have hv' : v'.oneCell'=true:=by
  have h3':=h3.2.2.1 big h3.1
  have hga:=hg a
  generalize g a=x at h3' hga
  cases x<;>first | (simp [T.one] at hga; done) | skip
  all_goals (simp only [footT] at h3')
  case b=>obtain ⟨rfl,_⟩:=h3'; rfl
  case i=>obtain ⟨rfl,_⟩:=h3'; rfl
  case s=>obtain ⟨rfl,_⟩:=h3'; rfl
  case np=>obtain ⟨rfl,_⟩:=h3'; rfl
  case nm=>obtain ⟨rfl,_⟩:=h3'; rfl
  case ni=>obtain ⟨rfl,_⟩:=h3'; rfl
  case sl=>obtain ⟨_,_,rfl,_⟩:=h3'; rfl
  case po=>obtain ⟨_,_,_,_,rfl,_⟩:=h3'; rfl
  case ifc=>obtain ⟨_,rfl,_⟩:=h3'; rfl
  case mp=>obtain ⟨_,_,_,_,_,_,rfl,_⟩:=h3'; rfl
  case fn=>obtain ⟨_,rfl,_⟩:=h3'; exact fnVal_one _ _
 exact ⟨a,L,same_val h1.symm (hv hval) hv' ▸ h3⟩
theorem ArrT.slice {e:TypeId} {α:Type} {h:α→T} (ht:P.underlying t=some (.slice e)) (hr:Reads P t fun xs : List α=>.sl (xs.map h)) : ArrT P t fun xs : List α=>.sl (xs.map h):=ArrT.of_one hr (fun _=>rfl) fun h=>by obtain ⟨_,_,_,rfl⟩:=okWide_slice ht h; rfl
theorem ArrT.struct {fs:List (TypeId × Nat)} {α:Type} {g:α→T} (h0:fs≠[]) (ht:fieldsAt P t=fs) (hg:∀ a,(g a).isAg=true) (hr:Reads P t g) : ArrT P t g:=by
 intro H enc W r b0 base spare held v d p hval hd
 unfold fieldsAt at ht
 split at ht
 case h_2=>exact absurd ht.symm h0
 rename_i fs' hu
 obtain ⟨cs,rfl,_⟩:=okWide_struct hu hval
 obtain ⟨fuel,hf⟩:=hd
 obtain ⟨a,v',L,h1,h2,h3⟩:=hr enc W base spare held fuel _ _ hf
 refine ⟨a,L,?_⟩
 have : v' = .agg cs:=by
  have h3':=h3.2.2.1 big h3.1
  have hga:=hg a
  generalize g a=x at h3' hga
  cases x<;>first | (simp [T.isAg] at hga; done) | skip
  simp only [footT] at h3'
  obtain ⟨vs,rfl,_⟩:=h3'
  simp only [Value.cells] at h1
  rw [← Array.toList_inj.1 h1]
 rw [← this]; exact h3
end
theorem Con.below [Bd] {P:Program} {f:FuncId} {ts:List T} (h:Con P f ts (.t (.b true)) []) {w:World} {vs:List Value} {L:List Nat} (hf:footTs w ts vs L) (hL:∀ b∈L,b < w.heap.size) :
 Calls P f vs.toArray w fun e w'=>e = .returned (.bool true)∧Below w.heap.size w w':=by
 have hS : ∀ b,b∈L→b < w.heap.size:=hL
 have hlen : vs.length=ts.length:=footTs_length hf
 have hnum : ∀ (xs:List T) (k t:Nat),getL (numA k (xs.map .t)) t = .un ∨ ∃ i x,t=k + i∧xs[i]? = some x∧getL (numA k (xs.map .t)) t = .t x:=by
  intro xs
  induction xs with
  | nil => intro k t; exact .inl rfl
  | cons x xs ih =>
    intro k t
    simp only [List.map_cons,numA,getL]
    by_cases hk : t=k
    ·subst hk
     exact .inr ⟨0,x,by omega,rfl,by simp⟩
    ·simp only [hk,if_false]
     rcases ih (k + 1) t with h1 | ⟨i,y,h1,h2,h3⟩
     ·exact .inl h1
     ·exact .inr ⟨i + 1,y,by omega,by simpa using h2,h3⟩
 have hr : Rel ⟨w,fun b=>b∈L,fun _=>False,([] : List Ob).length,fun _=>.nilIface⟩ ⟨(ts.map AV.t).length,numA 0 (ts.map .t),[]⟩ ⟨fun _=>.nilIface,fun b=>b∈L⟩ (fun b=>b∈L) (fun _=>[]) ⟨vs.toArray,[]⟩ w:=by
  refine { size:=by simp [hlen],defs:=rfl,tm:=fun t=>?_,utm:=fun t=>?_,ob:=fun id o hid=>by simp at hid,uob:=fun id o hid=>by simp at hid,root:=fun id o hid=>by simp at hid,sep:=fun i j oi oj _ hi=>by simp at hi,SB:=fun b hb=>hb,Blt:=fun b hb=>hL b hb,Bin:=fun b hb=>.inl hb,fown:=fun id o hid=>by simp at hid,fsep:=fun i j oi oj _ hi=>by simp at hi,below:=But.refl _ _ _,one:=fun _=>rfl,an:=Nat.le_refl _,av:=fun i _=>rfl }
  ·rcases hnum ts 0 t with h1 | ⟨i,x,h1,h2,h3⟩
   ·rw [h1]; exact ⟨[],by simp [footA],by simp⟩
   ·rw [h3]
    obtain ⟨v,L',q1,q2,q3⟩:=footTs_get hf h2
    refine ⟨L',?_,q3⟩
    simp only [footA]
    have : (Act.tmps ⟨vs.toArray,[]⟩).getD t undef=v:=by
     rw [show t=i by omega]
     simp [q1]
    rw [this]; exact q2
  ·rcases hnum ts 0 t with h1 | ⟨i,x,h1,h2,h3⟩
   ·rw [h1]; rfl
   ·rw [h3]; rfl
 refine (h.2 w (fun b=>b∈L) (fun _=>False) vs ⟨fun _=>.nilIface,fun b=>b∈L⟩ _ _ hr).mono fun e w' hh=>?_
 obtain ⟨v,hv',S',F',L',rfl,h1,h2,_⟩:=hh
 simp only [footA,footT] at h2
 obtain ⟨rfl,_⟩:=h2
 exact ⟨rfl,h1.below.os,h1.below.tape,h1.below.output,h1.below.size,fun k hk=>h1.below.block k hk (fun h=>h)⟩
theorem trodAll_stays {H:Type} {enc:TypeId × Value→H} {P:Program} (hl:laidOutB P=true) {W W':World} (hb:Below W.heap.size W W') : ∀ {ts:List TypeId} {vs:List Value} {ds:List (DataW H)} {ps:List MemPlace},(ts.all fun t=>P.readableRec t && decide (t < P.types.size))=true →
 DataW.TrodAll enc P W 0 (fun _=>true) true ts vs ds ps→(∀ x∈ps,x.block < W.heap.size)→DataW.TrodAll enc P W' 0 (fun b=>decide (b < W.heap.size)) true ts vs ds ps
 | [], _, _, _, _, h, _ => by
   obtain ⟨rfl,rfl,rfl⟩:=trodAll_nil h
   exact trodAll_mk0
 | t :: ts, _, _, _, ht, h, hlt => by
   obtain ⟨v,vs,d,ds,p,q,rfl,rfl,rfl,h1,h2⟩:=trodAll_cons h
   simp only [List.all_cons,Bool.and_eq_true,decide_eq_true_eq] at ht
   exact trodAll_cons_mk (Below.trod hl ht.1.1 ht.1.2 h1 hb fun x hx=>hlt x (List.mem_append_left _ hx)) (trodAll_stays hl hb (by simpa using ht.2) h2 fun x hx=>hlt x (List.mem_append_right _ hx))
theorem post_of_below {H:Type} {enc:TypeId × Value→H} {P:Program} {f:Func} {s:ChangeSpec} {tb:TypeId} {apart:Bool} {W W':World} {args:Array Value} {ds gs:List (DataW H)} {before:List MemPlace}
 (hW:DataW.Whole enc P f.params.toList s.vars apart W args.toList ds gs before) (hv:s.vars=[]) (hb:Below W.heap.size W W') (hl:laidOutB P=true) (ht:(f.params.toList.all fun t=>P.readableRec t && decide (t < P.types.size))=true)
 (hr:f.resultTypes = #[tb]) (htb:P.underlying tb=some .bool) (hfn:∀ ds,gs=[]→ds.length=f.params.size→(s.fn H (ds ++ gs)).results=[.lit (.bool true)]∧(s.fn H (ds ++ gs)).args=ds∧(s.fn H (ds ++ gs)).vars=[]) :
 s.post enc P f apart true false false W args (.bool true) W':=by
 have hlt:=hW.lt
 have hW':=hW
 obtain ⟨p,q,h1,h2,rfl,h3,h4⟩:=hW
 rw [hv] at h2
 obtain ⟨rfl,rfl⟩:=trodVars_none h2
 have hlen : ∀ (ts:List TypeId) (vs:List Value) (ds:List (DataW H)) (p:List MemPlace),DataW.TrodAll enc P W 0 (fun _=>true) true ts vs ds p→ds.length=ts.length:=by
  intro ts
  induction ts with
  | nil => intro vs ds p h; obtain ⟨_,rfl,_⟩:=trodAll_nil h; rfl
  | cons t ts ih => intro vs ds p h; obtain ⟨v,vs,d,ds,p,q,rfl,rfl,rfl,_,h2⟩:=trodAll_cons h; simp [ih _ _ _ h2]
 obtain ⟨e1,e2,e3⟩:=hfn ds rfl (by rw [hlen _ _ _ _ h1]; simp)
 simp only [List.append_nil] at hlt
 refine ⟨ds,[],p ++ [],[],p,[],hW',?_,?_,?_,?_,fun h=>by cases h⟩
 ·rw [e1,hr]
  exact trodAll_cons_mk (shut_bool htb _) trodAll_mk0
 ·rw [e2]
  exact trodAll_stays hl hb ht h1 hlt
 ·rw [e3,hv]; exact rfl
 ·exact hb.frame _
end Go.Proofs.YtmgdkkhnjkepiaaGreat.BX
namespace Go.Proofs.YtmgdkkhnjkepiaaGreat.BX
open Nat renaming reduceEqDiff → zA, reduceLT → zB, reduceLeDiff → zC, reduceAdd → zD, reduceMul → zE, reduceSub → zF, reduceBEq → zG
set_option linter.unusedSectionVars false
set_option linter.unusedSimpArgs false
set_option linter.unusedVariables false
open Go Go.RowKit
set_option maxRecDepth 20000
set_option maxHeartbeats 400000
abbrev eIntS (xs:List Int) : T:=.sl (xs.map (T.i .i64))
abbrev eStringS (xs:List (List UInt8)) : T:=.sl (xs.map T.s)
structure Grant where
 name : List UInt8
 level : Int
 deriving DecidableEq
def eGrant (x:Grant) : T:=.ag [.s x.name,.i .i64 x.level]
@[push_cast] theorem eGrant_len {x:Grant} : (eGrant x).cells.length=2:=rfl
@[push_cast] theorem eGrant_isAg {x:Grant} : (eGrant x).isAg=true:=rfl
@[push_cast] theorem eGrant_ones {x:Grant} : T.allOne (eGrant x).cells=true:=rfl
@[push_cast] theorem eGrant_flat {x:Grant} : (eGrant x).flat=true:=rfl
@[push_cast] theorem eGrant_fits {x:Grant} : fits (.ag [.leaf,.leaf]) (eGrant x)=true:=rfl
@[push_cast] theorem eGrant_one {x:Grant} : (eGrant x).one=false:=rfl
abbrev eGrantS (xs:List Grant) : T:=.sl (xs.map eGrant)
structure Event where
 id : List UInt8
 sender : List UInt8
 typ : List UInt8
 isState : Bool
 key : List UInt8
 time : Int
 prev : List (List UInt8)
 auth : List (List UInt8)
 value : List UInt8
 grants : List Grant
 deriving DecidableEq
def eEvent (x:Event) : T:=.ag [.s x.id,.s x.sender,.s x.typ,.b x.isState,.s x.key,.i .i64 x.time,eStringS x.prev,eStringS x.auth,.s x.value,eGrantS x.grants]
@[push_cast] theorem eEvent_len {x:Event} : (eEvent x).cells.length=10:=rfl
@[push_cast] theorem eEvent_isAg {x:Event} : (eEvent x).isAg=true:=rfl
@[push_cast] theorem eEvent_ones {x:Event} : T.allOne (eEvent x).cells=true:=rfl
@[push_cast] theorem eEvent_one {x:Event} : (eEvent x).one=false:=rfl
abbrev eEventS (xs:List Event) : T:=.sl (xs.map eEvent)
structure Room where
 events : List Event
 deriving DecidableEq
def eRoom (x:Room) : T:=.ag [eEventS x.events]
@[push_cast] theorem eRoom_len {x:Room} : (eRoom x).cells.length=1:=rfl
@[push_cast] theorem eRoom_isAg {x:Room} : (eRoom x).isAg=true:=rfl
structure Entry where
 typ : List UInt8
 key : List UInt8
 id : List UInt8
 deriving DecidableEq
structure Slot where
 typ : List UInt8
 key : List UInt8
 deriving DecidableEq
end Go.Proofs.YtmgdkkhnjkepiaaGreat.BX
namespace Go.Proofs.YtmgdkkhnjkepiaaGreat.BX
open Nat renaming reduceEqDiff → zA, reduceLT → zB, reduceLeDiff → zC, reduceAdd → zD, reduceMul → zE, reduceSub → zF, reduceBEq → zG
set_option linter.unusedSectionVars false
set_option linter.unusedSimpArgs false
set_option linter.unusedVariables false
open Go Go.RowKit
set_option maxRecDepth 20000
set_option maxHeartbeats 400000
variable [Bd]
theorem eqStringS (xs ys:List (List UInt8)) : Con P0 27 [eStringS xs,eStringS ys] (.t (.b (decide (xs=ys)))) []:=by
 refine Con.intro (fn:=Tryz.f27) [.tmp 4] (fun i=>if i=6 then (9,[]) else (0,[])) mixed (by kernel_rfl) rfl (by decide) rfl (by rfl) (by kernel_rfl) ?_
 simp -implicitDefEqProofs (maxSteps:=2000000) only [push_cast,zA,zB,zC,zD,zE,zF,zG,↓reduceIte,reduceCtorEq]
 intro _ _
 split
 ·rename_i h
  exact congrArg T.b (decide_eq_false (fun e=>h (by rw [e]))).symm
 ·rename_i h
  have h : xs.length=ys.length:=by omega
  refine WL.loop (ι:=Nat) (D:=(fun i=>if i=6 then (9,[]) else (0,[]))) (fun i=>i≤xs.length∧xs.take i=ys.take i) (fun i=>⟨26,[(0,.t (eStringS xs)),(1,.t (eStringS ys)),(5,.t (.i .i64 i))],[]⟩) (fun i=>xs.length - i) mixed (by kernel_rfl) 0 ⟨by omega,by simp⟩ (Keep.wk (ids:=[]) ?_) ?_
  ·simp only [push_cast,zA,zB,zC,zD,zE,zF,zG,↓reduceIte,reduceCtorEq]<;>rfl
  ·rintro i ⟨h1,h2⟩
   simp -implicitDefEqProofs (maxSteps:=2000000) only [push_cast,zA,zB,zC,zD,zE,zF,zG,↓reduceIte,reduceCtorEq]
   intro hB
   have:=Bd.hi
   split
   ·rename_i hi
    refine ⟨by omega,?_⟩
    rw [Int.toNat_natCast]
    intro a ha
    try dsimp only
    refine ⟨by omega,?_⟩
    intro b hb
    try dsimp only
    split
    ·rename_i hne
     exact congrArg T.b (decide_eq_false (fun e=>absurd hne (by rw [e,hb] at ha; simp [Option.some.inj ha]))).symm
    ·rename_i he
     have he : a=b:=by simpa using he
     subst he
     refine ⟨by unfold inI64; omega,i + 1,⟨by omega,?_⟩,by omega,Keep.wk (ids:=[]) ?_⟩
     ·rw [List.take_add_one,List.take_add_one,h2,ha,hb]
     ·simp only [push_cast,zA,zB,zC,zD,zE,zF,zG,↓reduceIte,reduceCtorEq]<;>rfl
   ·have hi : i=xs.length:=by omega
    subst hi
    rw [List.take_length,h,List.take_length] at h2
    exact congrArg T.b (decide_eq_true h2).symm
theorem eqGrant (a b:Grant) : Con P0 140 [eGrant a,eGrant b] (.t (.b (decide (a=b)))) []:=by
 refine Con.intro (fn:=Tryz.f140) [.tmp 4] (fun _=>(0,[])) mixed (by kernel_rfl) rfl (by decide) rfl (by rfl) (by kernel_rfl) ?_
 obtain ⟨a0,a1⟩:=a
 obtain ⟨b0,b1⟩:=b
 simp -implicitDefEqProofs (maxSteps:=2000000) only [push_cast,zA,zB,zC,zD,zE,zF,zG,↓reduceIte,reduceCtorEq,eGrant]
 split
 ·simp_all
 rename_i h
 have h : a0=b0:=by simpa using h
 subst h
 split
 ·simp_all
 rename_i h
 have h : a1=b1:=by simpa using h
 subst h
 simp
theorem eqGrantS (xs ys:List Grant) : Con P0 74 [eGrantS xs,eGrantS ys] (.t (.b (decide (xs=ys)))) []:=by
 refine Con.intro (fn:=Tryz.f74) [.tmp 4] (fun i=>if i=6 then (10,[]) else (0,[])) mixed (by kernel_rfl) rfl (by decide) rfl (by rfl) (by kernel_rfl) ?_
 simp -implicitDefEqProofs (maxSteps:=2000000) only [push_cast,zA,zB,zC,zD,zE,zF,zG,↓reduceIte,reduceCtorEq]
 intro _ _
 split
 ·rename_i h
  exact congrArg T.b (decide_eq_false (fun e=>h (by rw [e]))).symm
 ·rename_i h
  have h : xs.length=ys.length:=by omega
  refine WL.loop (ι:=Nat) (D:=(fun i=>if i=6 then (10,[]) else (0,[]))) (fun i=>i≤xs.length∧xs.take i=ys.take i) (fun i=>⟨27,[(0,.t (eGrantS xs)),(1,.t (eGrantS ys)),(5,.t (.i .i64 i))],[]⟩) (fun i=>xs.length - i) mixed (by kernel_rfl) 0 ⟨by omega,by simp⟩ (Keep.wk (ids:=[]) ?_) ?_
  ·simp only [push_cast,zA,zB,zC,zD,zE,zF,zG,↓reduceIte,reduceCtorEq]<;>rfl
  ·rintro i ⟨h1,h2⟩
   simp -implicitDefEqProofs (maxSteps:=2000000) only [push_cast,zA,zB,zC,zD,zE,zF,zG,↓reduceIte,reduceCtorEq,eGrant_len,eGrant_isAg,eGrant_ones,eGrant_flat,eGrant_one]
   intro hB
   have:=Bd.hi
   split
   ·rename_i hi
    refine ⟨by omega,?_⟩
    rw [Int.toNat_natCast]
    intro a ha
    try dsimp only
    refine ⟨by omega,?_⟩
    intro b hb
    refine CallV.t (eqGrant a b) (.inl rfl) ?_
    simp -implicitDefEqProofs (maxSteps:=2000000) only [push_cast,zA,zB,zC,zD,zE,zF,zG,↓reduceIte,reduceCtorEq,eGrant_len,eGrant_isAg,eGrant_ones,eGrant_flat,eGrant_one]
    split
    ·rename_i hne
     exact congrArg T.b (decide_eq_false (fun e=>absurd hne (by rw [e,hb] at ha; simp [Option.some.inj ha]))).symm
    ·rename_i he
     have he : a=b:=by simpa using he
     subst he
     refine ⟨by unfold inI64; omega,i + 1,⟨by omega,?_⟩,by omega,Keep.wk (ids:=[]) ?_⟩
     ·rw [List.take_add_one,List.take_add_one,h2,ha,hb]
     ·simp only [push_cast,zA,zB,zC,zD,zE,zF,zG,↓reduceIte,reduceCtorEq]<;>rfl
   ·have hi : i=xs.length:=by omega
    subst hi
    rw [List.take_length,h,List.take_length] at h2
    exact congrArg T.b (decide_eq_true h2).symm
theorem eqEvent (a b:Event) : Con P0 22 [eEvent a,eEvent b] (.t (.b (decide (a=b)))) []:=by
 refine Con.intro (fn:=Tryz.f22) [.tmp 4] (fun _=>(0,[])) mixed (by kernel_rfl) rfl (by decide) rfl (by rfl) (by kernel_rfl) ?_
 obtain ⟨a0,a1,a2,a3,a4,a5,a6,a7,a8,a9⟩:=a
 obtain ⟨b0,b1,b2,b3,b4,b5,b6,b7,b8,b9⟩:=b
 simp -implicitDefEqProofs (maxSteps:=2000000) only [push_cast,zA,zB,zC,zD,zE,zF,zG,↓reduceIte,reduceCtorEq,eEvent]
 split
 ·simp_all
 rename_i h
 have h : a0=b0:=by simpa using h
 subst h
 split
 ·simp_all
 rename_i h
 have h : a1=b1:=by simpa using h
 subst h
 split
 ·simp_all
 rename_i h
 have h : a2=b2:=by simpa using h
 subst h
 split
 ·simp_all
 rename_i h
 have h : a3=b3:=by simpa using h
 subst h
 split
 ·simp_all
 rename_i h
 have h : a4=b4:=by simpa using h
 subst h
 split
 ·simp_all
 rename_i h
 have h : a5=b5:=by simpa using h
 subst h
 refine Callx.closed (eqStringS a6 b6) rfl rfl (.inl rfl) ?_
 simp -implicitDefEqProofs (maxSteps:=2000000) only [push_cast,zA,zB,zC,zD,zE,zF,zG,↓reduceIte,reduceCtorEq,eEvent]
 split
 ·simp_all
 rename_i h
 have h : a6=b6:=by simpa using h
 subst h
 refine Callx.closed (eqStringS a7 b7) rfl rfl (.inl rfl) ?_
 simp -implicitDefEqProofs (maxSteps:=2000000) only [push_cast,zA,zB,zC,zD,zE,zF,zG,↓reduceIte,reduceCtorEq,eEvent]
 split
 ·simp_all
 rename_i h
 have h : a7=b7:=by simpa using h
 subst h
 split
 ·simp_all
 rename_i h
 have h : a8=b8:=by simpa using h
 subst h
 refine Callx.closed (eqGrantS a9 b9) rfl rfl (.inl rfl) ?_
 simp -implicitDefEqProofs (maxSteps:=2000000) only [push_cast,zA,zB,zC,zD,zE,zF,zG,↓reduceIte,reduceCtorEq,eEvent]
 split
 ·simp_all
 rename_i h
 have h : a9=b9:=by simpa using h
 subst h
 simp
theorem eqEventS (xs ys:List Event) : Con P0 72 [eEventS xs,eEventS ys] (.t (.b (decide (xs=ys)))) []:=by
 refine Con.intro (fn:=Tryz.f72) [.tmp 4] (fun i=>if i=6 then (10,[]) else (0,[])) mixed (by kernel_rfl) rfl (by decide) rfl (by rfl) (by kernel_rfl) ?_
 simp -implicitDefEqProofs (maxSteps:=2000000) only [push_cast,zA,zB,zC,zD,zE,zF,zG,↓reduceIte,reduceCtorEq]
 intro _ _
 split
 ·rename_i h
  exact congrArg T.b (decide_eq_false (fun e=>h (by rw [e]))).symm
 ·rename_i h
  have h : xs.length=ys.length:=by omega
  refine WL.loop (ι:=Nat) (D:=(fun i=>if i=6 then (10,[]) else (0,[]))) (fun i=>i≤xs.length∧xs.take i=ys.take i) (fun i=>⟨27,[(0,.t (eEventS xs)),(1,.t (eEventS ys)),(5,.t (.i .i64 i))],[]⟩) (fun i=>xs.length - i) mixed (by kernel_rfl) 0 ⟨by omega,by simp⟩ (Keep.wk (ids:=[]) ?_) ?_
  ·simp only [push_cast,zA,zB,zC,zD,zE,zF,zG,↓reduceIte,reduceCtorEq]<;>rfl
  ·rintro i ⟨h1,h2⟩
   simp -implicitDefEqProofs (maxSteps:=2000000) only [push_cast,zA,zB,zC,zD,zE,zF,zG,↓reduceIte,reduceCtorEq,eEvent_len,eEvent_isAg,eEvent_ones,eEvent_one]
   intro hB
   have:=Bd.hi
   split
   ·rename_i hi
    refine ⟨by omega,?_⟩
    rw [Int.toNat_natCast]
    intro a ha
    try dsimp only
    refine ⟨by omega,?_⟩
    intro b hb
    refine CallV.t (eqEvent a b) (.inl rfl) ?_
    simp -implicitDefEqProofs (maxSteps:=2000000) only [push_cast,zA,zB,zC,zD,zE,zF,zG,↓reduceIte,reduceCtorEq,eEvent_len,eEvent_isAg,eEvent_ones,eEvent_one]
    split
    ·rename_i hne
     exact congrArg T.b (decide_eq_false (fun e=>absurd hne (by rw [e,hb] at ha; simp [Option.some.inj ha]))).symm
    ·rename_i he
     have he : a=b:=by simpa using he
     subst he
     refine ⟨by unfold inI64; omega,i + 1,⟨by omega,?_⟩,by omega,Keep.wk (ids:=[]) ?_⟩
     ·rw [List.take_add_one,List.take_add_one,h2,ha,hb]
     ·simp only [push_cast,zA,zB,zC,zD,zE,zF,zG,↓reduceIte,reduceCtorEq]<;>rfl
   ·have hi : i=xs.length:=by omega
    subst hi
    rw [List.take_length,h,List.take_length] at h2
    exact congrArg T.b (decide_eq_true h2).symm
theorem eqRoom (a b:Room) : Con P0 20 [eRoom a,eRoom b] (.t (.b (decide (a=b)))) []:=by
 refine Con.intro (fn:=Tryz.f20) [.tmp 4] (fun _=>(0,[])) mixed (by kernel_rfl) rfl (by decide) rfl (by rfl) (by kernel_rfl) ?_
 obtain ⟨a0⟩:=a
 obtain ⟨b0⟩:=b
 simp -implicitDefEqProofs (maxSteps:=2000000) only [push_cast,zA,zB,zC,zD,zE,zF,zG,↓reduceIte,reduceCtorEq,eRoom]
 refine Callx.closed (eqEventS a0 b0) rfl rfl (.inl rfl) ?_
 simp -implicitDefEqProofs (maxSteps:=2000000) only [push_cast,zA,zB,zC,zD,zE,zF,zG,↓reduceIte,reduceCtorEq,eRoom]
 split
 ·simp_all
 rename_i h
 have h : a0=b0:=by simpa using h
 subst h
 simp
end Go.Proofs.YtmgdkkhnjkepiaaGreat.BX
namespace Go.Proofs.YtmgdkkhnjkepiaaGreat.BX
open Nat renaming reduceEqDiff → zA, reduceLT → zB, reduceLeDiff → zC, reduceAdd → zD, reduceMul → zE, reduceSub → zF, reduceBEq → zG
set_option linter.unusedSectionVars false
set_option linter.unusedSimpArgs false
set_option linter.unusedVariables false
open Go Go.RowKit
set_option maxRecDepth 20000
variable [Bd]
theorem foots_of {w:World} : ∀ {ts:List T} {vs:List Value},vs.length=ts.length→(∀ (i:Nat) (x:T) (v:Value),ts[i]? = some x→vs[i]? = some v → ∃ L,footT w x v L) → ∃ L,footTs w ts vs L
 | [], [], _, _ => ⟨[],by simp [footTs]⟩
 | [], _ :: _, h, _ => by simp at h
 | _ :: _, [], h, _ => by simp at h
 | x :: ts, v :: vs, hl, h => by
   obtain ⟨L1,h1⟩:=h 0 x v rfl rfl
   obtain ⟨L2,h2⟩:=foots_of (ts:=ts) (vs:=vs) (by simpa using hl) fun i x v hx hv=>h (i + 1) x v (by simpa using hx) (by simpa using hv)
   exact ⟨L1 ++ L2,by simp only [footTs]; exact ⟨v,vs,L1,L2,rfl,rfl,h1,h2⟩⟩
theorem Con.plain {P:Program} {f:FuncId} {ts:List T} {r:T} (hb:hasBody P f) (h:∀ (w:World) (vs:List Value) (L:List Nat),footTs w ts vs L→Calls P f vs.toArray w fun e w'=>∃ v,e = .returned v∧footT w' r v []∧Grew w w') : Con P f ts (.t r) []:=by
 refine ⟨hb,fun w L M vs hv S F hr=>?_⟩
 have hlen : vs.length=ts.length:=by simpa using hr.size
 obtain ⟨La,ha⟩:=foots_of (w:=w) hlen fun i x v hx hv'=>by
  obtain ⟨L',h',_⟩:=hr.tm i
  have e1 : getL (numA 0 (ts.map AV.t)) i = .t x:=by
   rw [numA_get,if_pos (Nat.zero_le _),Nat.sub_zero,List.getElem?_map,hx]; rfl
  have e2 : vs.toArray.getD i undef=v:=by
   simp [Array.getD_eq_getD_getElem?,hv']
  have h'' : footA hv w (getL (numA 0 (ts.map AV.t)) i) (vs.toArray.getD i undef) L':=h'
  rw [e1,e2] at h''
  exact ⟨L',by simpa only [footA] using h''⟩
 refine (h w vs La ha).mono fun e w' ⟨v,he,hf,hg⟩=>?_
 exact ⟨v,_,_,_,[],he,(hr.grow hg).no_tmp,by simpa only [footA] using hf,by simp,by simp [AV.under]⟩
def idxOf (c:UInt8) (xs:List UInt8) : Int:=firstIdx ⟨xs.toArray⟩ c
theorem idxOf_nn {c:UInt8} {xs:List UInt8} : decide (0≤idxOf c xs)=xs.any (· == c):=by
 unfold idxOf; rw [firstIdx_nonneg]
theorem idx_calls (c:UInt8) (s:ByteArray) (w:World) : Calls P0 229 #[.string s,.int .u8 c.toNat] w fun e w'=>e = .returned (.int .i64 (firstIdx s c))∧w'=w:=by
 have h:=run_indexByte_string (P:=P0) s c.toNat
 go_enter Tryz.func229,Tryz.ntmps229
 go_wp2
 rw [run_callFunc_extern Tryz.func256 (by kernel_rfl) (by kernel_rfl) (by kernel_rfl) (e:=Extern.BytealgIndexByte.indexByte) (by kernel_rfl),h]
 simp only [Result.andThen]
 rw [Oper.upon_value]
 go_wp2
 go_ret
 simp
theorem indexByteL (c:UInt8) (xs:List UInt8) : Con P0 229 [.s xs,.i .u8 c.toNat] (.t (.i .i64 (idxOf c xs))) []:=by
 refine Con.plain ⟨_,Tryz.func229,rfl,rfl⟩ fun w vs L hf=>?_
 simp only [footTs,footT] at hf
 obtain ⟨v1,vs1,L1,L2,rfl,_,⟨rfl,_,_⟩,v2,vs2,L3,L4,rfl,_,⟨rfl,_⟩,rfl,_⟩:=hf
 refine (idx_calls c ⟨xs.toArray⟩ w).mono fun e w' ⟨he,hw⟩=>?_
 subst hw
 exact ⟨_,he,by simp only [footT]; exact ⟨rfl,trivial⟩,Grew.refl _⟩
theorem indexByte (c:UInt8) (xs:List UInt8) : Con P0 193 [.s xs,.i .u8 c.toNat] (.t (.i .i64 (idxOf c xs))) []:=by
 refine Con.intro (fn:=Tryz.f193) [.tmp 4] (fun _=>(0,[])) mixed (by kernel_rfl) rfl (by decide) rfl (by rfl) (by kernel_rfl) ?_
 simp -implicitDefEqProofs (maxSteps:=2000000) only [push_cast,zA,zB,zC,zD,zE,zF,zG,↓reduceIte,reduceCtorEq]
 refine Callx.closed (indexByteL c xs) rfl rfl (.inl rfl) ?_
 simp -implicitDefEqProofs (maxSteps:=2000000) only [push_cast,zA,zB,zC,zD,zE,zF,zG,↓reduceIte,reduceCtorEq]
end Go.Proofs.YtmgdkkhnjkepiaaGreat.BX
namespace Go.Proofs.YtmgdkkhnjkepiaaGreat.BX
open Nat renaming reduceEqDiff → zA, reduceLT → zB, reduceLeDiff → zC, reduceAdd → zD, reduceMul → zE, reduceSub → zF, reduceBEq → zG
set_option linter.unusedSectionVars false
set_option linter.unusedSimpArgs false
set_option linter.unusedVariables false
open Go Go.RowKit
set_option maxRecDepth 20000
set_option maxHeartbeats 400000
def wordB (c:UInt8) : Bool :=
 (decide ((97:Int)≤c.toNat) && decide ((c.toNat : Int)≤122)) || (decide ((65:Int)≤c.toNat) && decide ((c.toNat : Int)≤90)) || (decide ((48:Int)≤c.toNat) && decide ((c.toNat : Int)≤57)) ||
  (decide ((c.toNat : Int)=95) || decide ((c.toNat : Int)=46) || decide ((c.toNat : Int)=64) || decide ((c.toNat : Int)=36) || decide ((c.toNat : Int)=47) || decide ((c.toNat : Int)=43))
theorem wordB_iff {c:UInt8} : wordB c=true ↔ ((97:Int)≤c.toNat∧(c.toNat : Int)≤122) ∨ ((65:Int)≤c.toNat∧(c.toNat : Int)≤90) ∨ ((48:Int)≤c.toNat∧(c.toNat : Int)≤57) ∨
 ((c.toNat : Int)=95 ∨ (c.toNat : Int)=46 ∨ (c.toNat : Int)=64 ∨ (c.toNat : Int)=36 ∨ (c.toNat : Int)=47 ∨ (c.toNat : Int)=43):=by
 simp only [wordB,Bool.or_eq_true,Bool.and_eq_true,decide_eq_true_eq,or_assoc]
theorem wordB_no {c:UInt8} (h:¬ (((97:Int)≤c.toNat∧(c.toNat : Int)≤122) ∨ ((65:Int)≤c.toNat∧(c.toNat : Int)≤90) ∨ ((48:Int)≤c.toNat∧(c.toNat : Int)≤57) ∨
 ((c.toNat : Int)=95 ∨ (c.toNat : Int)=46 ∨ (c.toNat : Int)=64 ∨ (c.toNat : Int)=36 ∨ (c.toNat : Int)=47 ∨ (c.toNat : Int)=43))) : wordB c=false:=by
 cases hw : wordB c with
 | false => rfl
 | true => exact absurd (wordB_iff.1 hw) h
def isW (s:List UInt8) : Bool:=decide (1≤(s.length : Int)) && decide ((s.length : Int)≤40) && s.all wordB
theorem byteEq {a b:UInt8} : (a == b)=decide ((b.toNat : Int)=a.toNat):=by
 rw [Bool.eq_iff_iff]
 simp only [beq_iff_eq,decide_eq_true_eq]
 refine ⟨fun h=>by rw [h],fun h=>UInt8.toNat_inj.1 (by omega)⟩
variable [Bd]
theorem l1WordByte (c:UInt8) : Con P0 186 [.i .u8 c.toNat] (.t (.b (wordB c))) []:=by
 refine Con.intro (fn:=Tryz.f186) [.tmp 2] (fun _=>(0,[])) mixed (by kernel_rfl) rfl (by decide) rfl (by rfl) (by kernel_rfl) ?_
 simp -implicitDefEqProofs (maxSteps:=2000000) only [push_cast,zA,zB,zC,zD,zE,zF,zG,↓reduceIte,reduceCtorEq]
 repeat' refine iteI (fun _=>?_) (fun _=>?_)
 all_goals first
  | exact congrArg T.b (wordB_iff.2 (by omega)).symm
  | exact congrArg T.b (Bool.eq_iff_iff.2 (by rw [wordB_iff,decide_eq_true_eq]; omega))
def oddB : List UInt8:=[95,46,64,36,47,43]
theorem oddB_any {c:UInt8} : (oddB.any (· == c))=true ↔ ((c.toNat : Int)=95 ∨ (c.toNat : Int)=46 ∨ (c.toNat : Int)=64 ∨ (c.toNat : Int)=36 ∨ (c.toNat : Int)=47 ∨ (c.toNat : Int)=43):=by
 simp only [oddB,List.any_cons,List.any_nil,byteEq,Bool.or_eq_true,decide_eq_true_eq,Bool.or_false]
 exact Iff.rfl
theorem isW_all {s:List UInt8} {i:Nat} (hi:s.length≤i) (hc:∀ c∈s.take i,wordB c=true) : s.all wordB=true:=by
 rw [List.take_of_length_le hi] at hc
 exact List.all_eq_true.2 hc
theorem isW_no {s:List UInt8} {i:Nat} {a:UInt8} (ha:s[i]? = some a) (h:wordB a=false) : isW s=false:=by
 unfold isW
 rw [Bool.and_eq_false_iff]
 refine .inr (List.all_eq_false.2 ⟨a,List.mem_of_getElem? ha,by simp [h]⟩)
theorem take_snoc {α:Type} {p:α→Prop} {s:List α} {i:Nat} {a:α} (ha:s[i]? = some a) (hc:∀ c∈s.take i,p c) (h:p a) : ∀ c∈s.take (i + 1),p c:=by
 intro e he
 rw [List.take_add_one,ha] at he
 rcases List.mem_append.1 he with he | he
 ·exact hc e he
 ·simp at he; subst he; exact h
theorem l1Word (s:List UInt8) : Con P0 116 [.s s] (.t (.b (isW s))) []:=by
 refine Con.intro (fn:=Tryz.f116) [.tmp 2] (fun _=>(0,[])) mixed (by kernel_rfl) rfl (by decide) rfl (by rfl) (by kernel_rfl) ?_
 simp -implicitDefEqProofs (maxSteps:=2000000) only [push_cast,zA,zB,zC,zD,zE,zF,zG,↓reduceIte,reduceCtorEq]
 refine WL.loop (ι:=Nat) (D:=(fun _=>(0,[]))) (fun i=>i≤s.length∧∀ c∈s.take i,wordB c=true) (fun i=>⟨23,[(0,.t (.s s)),(3,.t (.i .i64 i))],[]⟩) (fun i=>s.length - i) mixed (by kernel_rfl) 0 ⟨by omega,by simp⟩ (Keep.wk (ids:=[]) ?_) ?_
 ·simp only [push_cast,zA,zB,zC,zD,zE,zF,zG,↓reduceIte,reduceCtorEq]<;>rfl
 ·rintro i ⟨hi,hc⟩
  simp -implicitDefEqProofs (maxSteps:=2000000) only [push_cast,zA,zB,zC,zD,zE,zF,zG,↓reduceIte,reduceCtorEq]
  intro _
  have:=Bd.hi
  split
  ·rename_i h
   refine ⟨by omega,fun a ha=>?_⟩
   rw [Int.toNat_natCast] at ha
   simp -implicitDefEqProofs (maxSteps:=2000000) only [push_cast,zA,zB,zC,zD,zE,zF,zG,↓reduceIte,reduceCtorEq]
   refine Callx.closed (l1WordByte a) rfl rfl (.inl rfl) ?_
   simp -implicitDefEqProofs (maxSteps:=2000000) only [push_cast,zA,zB,zC,zD,zE,zF,zG,↓reduceIte,reduceCtorEq]
   cases hw : wordB a with
   | false => exact congrArg T.b (isW_no ha hw).symm
   | true =>
     simp -implicitDefEqProofs (maxSteps:=2000000) only [push_cast,zA,zB,zC,zD,zE,zF,zG,↓reduceIte,reduceCtorEq]
     refine ⟨by unfold inI64; omega,i + 1,⟨by omega,take_snoc ha hc hw⟩,by omega,Keep.wk (ids:=[]) ?_⟩
     simp only [push_cast,zA,zB,zC,zD,zE,zF,zG,↓reduceIte,reduceCtorEq]<;>rfl
  ·have ha:=isW_all (by omega) hc
   unfold isW
   rw [ha]
   intro _
   rw [Bool.and_true]
   split
   ·rename_i h1
    exact fun _=>congrArg T.b (by rw [decide_eq_true h1,Bool.true_and])
   ·rename_i h1
    exact congrArg T.b (by rw [decide_eq_false h1,Bool.false_and])
theorem isWord (s:List UInt8) : Con P0 129 [.s s] (.t (.b (isW s))) []:=by
 refine Con.intro (fn:=Tryz.f129) [.tmp 2] (fun _=>(0,[])) mixed (by kernel_rfl) rfl (by decide) rfl (by rfl) (by kernel_rfl) ?_
 simp -implicitDefEqProofs (maxSteps:=2000000) only [push_cast,zA,zB,zC,zD,zE,zF,zG,↓reduceIte,reduceCtorEq]
 intro _
 split
 ·rename_i h
  unfold isW
  rw [decide_eq_false (by omega)]; rfl
 intro _
 split
 ·rename_i h
  unfold isW
  rw [decide_eq_false (p:=((s.length : Int)≤40)) (by omega)]; simp
 intro _
 refine WL.loop (ι:=Nat) (D:=(fun _=>(0,[]))) (fun i=>i≤s.length∧∀ c∈s.take i,wordB c=true) (fun i=>⟨44,[(0,.t (.s s)),(14,.t (.i .i64 s.length)),(15,.t (.i .i64 i))],[]⟩) (fun i=>s.length - i) mixed (by kernel_rfl) 0 ⟨by omega,by simp⟩ (Keep.wk (ids:=[]) ?_) ?_
 ·simp only [push_cast,zA,zB,zC,zD,zE,zF,zG,↓reduceIte,reduceCtorEq]<;>rfl
 ·rintro i ⟨hi,hc⟩
  simp -implicitDefEqProofs (maxSteps:=2000000) only [push_cast,zA,zB,zC,zD,zE,zF,zG,↓reduceIte,reduceCtorEq]
  have:=Bd.hi
  split
  ·rename_i h
   refine ⟨by omega,fun a ha=>?_⟩
   rw [Int.toNat_natCast] at ha
   simp -implicitDefEqProofs (maxSteps:=2000000) only [push_cast,zA,zB,zC,zD,zE,zF,zG,↓reduceIte,reduceCtorEq]
   have yes : wordB a=true→inI64 (i + 1)∧∀ j,j=i + 1→(j≤s.length∧∀ c∈s.take j,wordB c=true)∧s.length - j < s.length - i:=fun hw=>⟨by unfold inI64; omega,fun j hj=>by subst hj; exact ⟨⟨by omega,take_snoc ha hc hw⟩,by omega⟩⟩
   repeat' refine iteI (fun _=>?_) (fun _=>?_)
   all_goals first
    | (exfalso; omega)
    | (refine ⟨(yes (wordB_iff.2 (by omega))).1,i + 1,((yes (wordB_iff.2 (by omega))).2 _ rfl).1,((yes (wordB_iff.2 (by omega))).2 _ rfl).2,Keep.wk (ids:=[]) ?_⟩
       simp only [push_cast,zA,zB,zC,zD,zE,zF,zG,↓reduceIte,reduceCtorEq]<;>rfl)
    | (refine Callx.closed (indexByte a oddB) rfl rfl (.inl rfl) ?_
       simp -implicitDefEqProofs (maxSteps:=2000000) only [push_cast,zA,zB,zC,zD,zE,zF,zG,↓reduceIte,reduceCtorEq]
       have ho:=idxOf_nn (c:=a) (xs:=oddB)
       refine iteI (fun h1=>?_) (fun h1=>?_)
       ·rw [decide_eq_true h1] at ho
        have hw:=oddB_any.1 ho.symm
        refine ⟨(yes (wordB_iff.2 (by omega))).1,i + 1,((yes (wordB_iff.2 (by omega))).2 _ rfl).1,((yes (wordB_iff.2 (by omega))).2 _ rfl).2,Keep.wk (ids:=[]) ?_⟩
        simp only [push_cast,zA,zB,zC,zD,zE,zF,zG,↓reduceIte,reduceCtorEq]<;>rfl
       ·rw [decide_eq_false h1] at ho
        refine congrArg T.b (isW_no ha (wordB_no fun hh=>?_)).symm
        have:=oddB_any (c:=a)
        rw [← ho] at this
        simp only [Bool.false_eq_true,false_iff] at this
        omega)
  ·have ha:=isW_all (by omega) hc
   refine congrArg T.b ?_
   unfold isW
   rw [ha,decide_eq_true (by omega),decide_eq_true (by omega)]; rfl
end Go.Proofs.YtmgdkkhnjkepiaaGreat.BX
namespace Go.Proofs.YtmgdkkhnjkepiaaGreat.BX
open Nat renaming reduceEqDiff → zA, reduceLT → zB, reduceLeDiff → zC, reduceAdd → zD, reduceMul → zE, reduceSub → zF, reduceBEq → zG
set_option linter.unusedSectionVars false
set_option linter.unusedSimpArgs false
set_option linter.unusedVariables false
open Go Go.RowKit
set_option maxRecDepth 20000
set_option maxHeartbeats 400000
variable [Bd] (hB:Bd.B≤2147483648)
include hB
theorem toStringS (xs:List (List UInt8)) : Con P0 25 [eStringS xs] (.sr 0) [.arr 9 1 (.own .leaf) (xs.map T.s)]:=by
 refine Con.intro (fn:=Tryz.f25) [.tmp 2] (fun _=>(0,[])) mixed (by kernel_rfl) rfl (by decide) rfl (by rfl) (by kernel_rfl) ?_
 simp -implicitDefEqProofs (maxSteps:=2000000) only [push_cast,zA,zB,zC,zD,zE,zF,zG,↓reduceIte,reduceCtorEq]
 intro hl
 refine ⟨by omega,by omega,by omega,?_⟩
 refine WL.loop (ι:=Nat) (D:=(fun _=>(0,[]))) (fun i=>i≤xs.length) (fun i=>⟨22,[(0,.t (eStringS xs)),(3,.sr 0),(4,.t (.i .i64 i))],[.arr 9 1 (.own .leaf) (filled T.s (.s []) xs i)]⟩) (fun i=>xs.length - i) mixed (by kernel_rfl) 0 (by omega) (Keep.wk (ids:=[some 0]) ?_) ?_
 ·simp only [push_cast,zA,zB,zC,zD,zE,zF,zG,↓reduceIte,reduceCtorEq,Int.toNat_natCast,filled_zero]<;>trivial
 ·intro i hi
  simp -implicitDefEqProofs (maxSteps:=2000000) only [push_cast,zA,zB,zC,zD,zE,zF,zG,↓reduceIte,reduceCtorEq]
  intro _
  split
  ·rename_i h
   have h : i < xs.length:=by omega
   refine ⟨by omega,?_⟩
   rw [Int.toNat_natCast]
   intro a ha
   try dsimp only
   simp -implicitDefEqProofs (maxSteps:=2000000) only [push_cast,zA,zB,zC,zD,zE,zF,zG,↓reduceIte,reduceCtorEq,Int.toNat_natCast,filled_len hi,filled_at h,filled_set ha]
   refine ⟨by omega,h,by unfold inI64; have:=Bd.hi; omega,i + 1,by omega,by omega,Keep.wk (ids:=[some 0]) ?_⟩
   simp only [push_cast,zA,zB,zC,zD,zE,zF,zG,↓reduceIte,reduceCtorEq,Int.natCast_add,Int.cast_ofNat_Int,filled_set ha]
  ·have hi : i=xs.length:=by omega
   subst hi
   rw [filled_all]
   exact Close.of [some 0] rfl rfl rfl rfl (by simp only [push_cast,zA,zB,zC,zD,zE,zF,zG,↓reduceIte,reduceCtorEq]<;>rfl)
theorem toGrant (x:Grant) : Con P0 127 [eGrant x] (.t (eGrant x)) []:=by
 refine Con.intro (fn:=Tryz.f127) [.cell 2 138] (fun _=>(0,[])) mixed (by kernel_rfl) rfl (by decide) rfl (by rfl) (by kernel_rfl) ?_
 simp -implicitDefEqProofs (maxSteps:=2000000) only [push_cast,zA,zB,zC,zD,zE,zF,zG,↓reduceIte,reduceCtorEq,eGrant]
theorem toGrantS (xs:List Grant) : Con P0 66 [eGrantS xs] (.sr 0) [.arr 138 2 (.own (.ag [.leaf,.leaf])) (xs.map eGrant)]:=by
 refine Con.intro (fn:=Tryz.f66) [.tmp 2] (fun _=>(0,[])) mixed (by kernel_rfl) rfl (by decide) rfl (by rfl) (by kernel_rfl) ?_
 simp -implicitDefEqProofs (maxSteps:=2000000) only [push_cast,zA,zB,zC,zD,zE,zF,zG,↓reduceIte,reduceCtorEq]
 intro hl
 refine ⟨by omega,by omega,by omega,?_⟩
 refine WL.loop (ι:=Nat) (D:=(fun _=>(0,[]))) (fun i=>i≤xs.length) (fun i=>⟨23,[(0,.t (eGrantS xs)),(3,.sr 0),(4,.t (.i .i64 i))],[.arr 138 2 (.own (.ag [.leaf,.leaf])) (filled eGrant (.ag [.s [],.i .i64 0]) xs i)]⟩) (fun i=>xs.length - i) mixed (by kernel_rfl) 0 (by omega) (Keep.wk (ids:=[some 0]) ?_) ?_
 ·simp only [push_cast,zA,zB,zC,zD,zE,zF,zG,↓reduceIte,reduceCtorEq,Int.toNat_natCast,filled_zero]<;>trivial
 ·intro i hi
  simp -implicitDefEqProofs (maxSteps:=2000000) only [push_cast,zA,zB,zC,zD,zE,zF,zG,↓reduceIte,reduceCtorEq,eGrant_len,eGrant_isAg,eGrant_ones,eGrant_flat,eGrant_one]
  intro _
  split
  ·rename_i h
   have h : i < xs.length:=by omega
   refine ⟨by omega,?_⟩
   rw [Int.toNat_natCast]
   intro a ha
   try dsimp only
   refine Callx.closed (toGrant hB a) rfl rfl (.inl rfl) ?_
   simp -implicitDefEqProofs (maxSteps:=2000000) only [push_cast,zA,zB,zC,zD,zE,zF,zG,↓reduceIte,reduceCtorEq,eGrant_len,eGrant_isAg,eGrant_ones,eGrant_flat,eGrant_one]
   simp -implicitDefEqProofs (maxSteps:=2000000) only [push_cast,zA,zB,zC,zD,zE,zF,zG,↓reduceIte,reduceCtorEq,Int.toNat_natCast,filled_len hi,filled_at h,filled_set ha]
   refine ⟨by omega,h,by unfold inI64; have:=Bd.hi; omega,i + 1,by omega,by omega,Keep.wk (ids:=[some 0]) ?_⟩
   simp only [push_cast,zA,zB,zC,zD,zE,zF,zG,↓reduceIte,reduceCtorEq,Int.natCast_add,Int.cast_ofNat_Int,filled_set ha]
  ·have hi : i=xs.length:=by omega
   subst hi
   rw [filled_all]
   exact Close.of [some 0] rfl rfl rfl rfl (by simp only [push_cast,zA,zB,zC,zD,zE,zF,zG,↓reduceIte,reduceCtorEq]<;>rfl)
theorem toEvent (x:Event) : Con P0 18 [eEvent x] (.ag [.t (.s x.id),.t (.s x.sender),.t (.s x.typ),.t (.b x.isState),.t (.s x.key),.t (.i .i64 x.time),.sr 0,.sr 1,.t (.s x.value),.sr 2]) [.arr 9 1 (.own .leaf) (x.prev.map T.s),.arr 9 1 (.own .leaf) (x.auth.map T.s),.arr 138 2 (.own (.ag [.leaf,.leaf])) (x.grants.map eGrant)]:=by
 refine Con.intro (fn:=Tryz.f18) [.cell 2 42] (fun _=>(0,[])) mixed (by kernel_rfl) rfl (by decide) rfl (by rfl) (by kernel_rfl) ?_
 simp -implicitDefEqProofs (maxSteps:=2000000) only [push_cast,zA,zB,zC,zD,zE,zF,zG,↓reduceIte,reduceCtorEq,eEvent]
 refine Callx.closed (toStringS hB x.prev) rfl rfl (.inl rfl) ?_
 simp -implicitDefEqProofs (maxSteps:=2000000) only [push_cast,zA,zB,zC,zD,zE,zF,zG,↓reduceIte,reduceCtorEq,eEvent]
 refine Callx.closed (toStringS hB x.auth) rfl rfl (.inl rfl) ?_
 simp -implicitDefEqProofs (maxSteps:=2000000) only [push_cast,zA,zB,zC,zD,zE,zF,zG,↓reduceIte,reduceCtorEq,eEvent]
 refine Callx.closed (toGrantS hB x.grants) rfl rfl (.inl rfl) ?_
 simp -implicitDefEqProofs (maxSteps:=2000000) only [push_cast,zA,zB,zC,zD,zE,zF,zG,↓reduceIte,reduceCtorEq,eEvent]
 exact Close.of [some 3,some 4,some 5] rfl rfl rfl (by simp only [push_cast,zA,zB,zC,zD,zE,zF,zG,↓reduceIte,reduceCtorEq]<;>rfl) (by simp only [push_cast,zA,zB,zC,zD,zE,zF,zG,↓reduceIte,reduceCtorEq]<;>rfl)
theorem toEventS (xs:List Event) : Con P0 64 [eEventS xs] (.sr 0) [.arr 42 10 (.own (.ag [.leaf,.leaf,.leaf,.leaf,.leaf,.leaf,.sl 9 1 .leaf,.sl 9 1 .leaf,.leaf,.sl 138 2 (.ag [.leaf,.leaf])])) (xs.map eEvent)]:=by
 refine Con.intro (fn:=Tryz.f64) [.tmp 2] (fun _=>(0,[])) mixed (by kernel_rfl) rfl (by decide) rfl (by rfl) (by kernel_rfl) ?_
 simp -implicitDefEqProofs (maxSteps:=2000000) only [push_cast,zA,zB,zC,zD,zE,zF,zG,↓reduceIte,reduceCtorEq]
 intro hl
 refine ⟨by omega,by omega,by omega,?_⟩
 refine WL.loop (ι:=Nat) (D:=(fun _=>(0,[]))) (fun i=>i≤xs.length) (fun i=>⟨23,[(0,.t (eEventS xs)),(3,.sr 0),(4,.t (.i .i64 i))],[.arr 42 10 (.own (.ag [.leaf,.leaf,.leaf,.leaf,.leaf,.leaf,.sl 9 1 .leaf,.sl 9 1 .leaf,.leaf,.sl 138 2 (.ag [.leaf,.leaf])])) (filled eEvent (.ag [.s [],.s [],.s [],.b false,.s [],.i .i64 0,.sl [],.sl [],.s [],.sl []]) xs i)]⟩) (fun i=>xs.length - i) mixed (by kernel_rfl) 0 (by omega) (Keep.wk (ids:=[some 0]) ?_) ?_
 ·simp only [push_cast,zA,zB,zC,zD,zE,zF,zG,↓reduceIte,reduceCtorEq,Int.toNat_natCast,filled_zero]<;>trivial
 ·intro i hi
  simp -implicitDefEqProofs (maxSteps:=2000000) only [push_cast,zA,zB,zC,zD,zE,zF,zG,↓reduceIte,reduceCtorEq,eEvent_len,eEvent_isAg,eEvent_ones,eEvent_one]
  intro _
  split
  ·rename_i h
   have h : i < xs.length:=by omega
   refine ⟨by omega,?_⟩
   rw [Int.toNat_natCast]
   intro a ha
   try dsimp only
   refine Callx.closed (toEvent hB a) rfl rfl (.inl rfl) ?_
   simp -implicitDefEqProofs (maxSteps:=2000000) only [push_cast,zA,zB,zC,zD,zE,zF,zG,↓reduceIte,reduceCtorEq,eEvent_len,eEvent_isAg,eEvent_ones,eEvent_one]
   simp -implicitDefEqProofs (maxSteps:=2000000) only [push_cast,zA,zB,zC,zD,zE,zF,zG,↓reduceIte,reduceCtorEq,Int.toNat_natCast,filled_len hi,filled_at h,filled_set ha]
   refine ⟨by omega,h,by unfold inI64; have:=Bd.hi; omega,i + 1,by omega,by omega,Keep.wk (ids:=[some 0]) ?_⟩
   simp only [push_cast,zA,zB,zC,zD,zE,zF,zG,↓reduceIte,reduceCtorEq,Int.natCast_add,Int.cast_ofNat_Int,filled_set ha]
   exact (filled_set (f:=eEvent) ha).symm
  ·have hi : i=xs.length:=by omega
   subst hi
   rw [filled_all]
   exact Close.of [some 0] rfl rfl rfl rfl (by simp only [push_cast,zA,zB,zC,zD,zE,zF,zG,↓reduceIte,reduceCtorEq]<;>rfl)
theorem toRoom (x:Room) : Con P0 16 [eRoom x] (.ag [.sr 0]) [.arr 42 10 (.own (.ag [.leaf,.leaf,.leaf,.leaf,.leaf,.leaf,.sl 9 1 .leaf,.sl 9 1 .leaf,.leaf,.sl 138 2 (.ag [.leaf,.leaf])])) (x.events.map eEvent)]:=by
 refine Con.intro (fn:=Tryz.f16) [.cell 2 36] (fun _=>(0,[])) mixed (by kernel_rfl) rfl (by decide) rfl (by rfl) (by kernel_rfl) ?_
 simp -implicitDefEqProofs (maxSteps:=2000000) only [push_cast,zA,zB,zC,zD,zE,zF,zG,↓reduceIte,reduceCtorEq,eRoom]
 refine Callx.closed (toEventS hB x.events) rfl rfl (.inl rfl) ?_
 simp -implicitDefEqProofs (maxSteps:=2000000) only [push_cast,zA,zB,zC,zD,zE,zF,zG,↓reduceIte,reduceCtorEq,eRoom]
 exact Close.of [some 3] rfl rfl rfl (by simp only [push_cast,zA,zB,zC,zD,zE,zF,zG,↓reduceIte,reduceCtorEq]<;>rfl) (by simp only [push_cast,zA,zB,zC,zD,zE,zF,zG,↓reduceIte,reduceCtorEq]<;>rfl)
end Go.Proofs.YtmgdkkhnjkepiaaGreat.BX
namespace Go.Proofs.YtmgdkkhnjkepiaaGreat.BX
open Nat renaming reduceEqDiff → zA, reduceLT → zB, reduceLeDiff → zC, reduceAdd → zD, reduceMul → zE, reduceSub → zF, reduceBEq → zG
set_option linter.unusedSectionVars false
set_option linter.unusedSimpArgs false
set_option linter.unusedVariables false
open Go Go.RowKit
set_option maxRecDepth 20000
set_option maxHeartbeats 400000
variable [Bd]
theorem szStringS (x:List (List UInt8)) (n:Int) (h0:0≤n) (hn:n≤1048576) : Con P0 23 [eStringS x,.i .i64 n] (.t (.i .i64 (szR (eStringS x).wt n))) []:=by
 refine Con.intro (fn:=Tryz.f23) [.tmp 4] (fun _=>(0,[])) mixed (by kernel_rfl) rfl (by decide) rfl (by rfl) (by kernel_rfl) ?_
 have hw : (eStringS x).wt=x.length + wts (x.map T.s):=by simp only [eStringS,T.wt,List.length_map]
 simp -implicitDefEqProofs (maxSteps:=2000000) only [push_cast,zA,zB,zC,zD,zE,zF,zG,↓reduceIte,reduceCtorEq]
 intro hl
 have:=Bd.hi
 refine ⟨by unfold inI64; omega,?_⟩
 split
 ·rename_i h
  exact congrArg (T.i .i64) (szR_neg (by rw [hw]; omega)).symm
 rename_i h
 refine WL.loop (ι:=Nat) (D:=(fun _=>(0,[]))) (fun i=>i≤x.length∧(x.length : Int) + wts ((x.take i).map T.s)≤n) (fun i=>⟨28,[(0,.t (eStringS x)),(1,.t (.i .i64 (n - x.length - wts ((x.take i).map T.s)))),(5,.t (.i .i64 i))],[]⟩) (fun i=>x.length - i) mixed (by kernel_rfl) 0 ⟨by omega,by simp [wts]; omega⟩ (Keep.wk (ids:=[]) ?_) ?_
 ·simp only [push_cast,zA,zB,zC,zD,zE,zF,zG,↓reduceIte,reduceCtorEq,List.take_zero,wts]; simp
 ·rintro i ⟨hi,hc⟩
  simp -implicitDefEqProofs (maxSteps:=2000000) only [push_cast,zA,zB,zC,zD,zE,zF,zG,↓reduceIte,reduceCtorEq]
  intro _
  split
  ·rename_i h
   refine ⟨by omega,?_⟩
   rw [Int.toNat_natCast]
   intro a ha
   try dsimp only
   intro hal
   have hstep:=wts_take (f:=T.s) ha
   have hle:=wts_take_le (f:=T.s) x (i + 1)
   refine ⟨by unfold inI64; omega,?_⟩
   split
   ·rename_i hneg
    exact congrArg (T.i .i64) (szR_neg (by rw [hw]; simp only [T.wt] at hstep; omega)).symm
   rename_i hneg
   simp only [T.wt] at hstep
   refine ⟨by unfold inI64; omega,i + 1,⟨by omega,by omega⟩,by omega,Keep.wk (ids:=[]) ?_⟩
   simp only [push_cast,zA,zB,zC,zD,zE,zF,zG,↓reduceIte,reduceCtorEq,T.i.injEq,AV.t.injEq]
   first | exact ⟨by omega,by omega⟩ | omega
  ·have hi : i=x.length:=by omega
   subst hi
   rw [List.take_length] at hc ⊢
   exact congrArg (T.i .i64) (by rw [hw,szR_pos (by omega)]<;>omega)
theorem szGrant (x:Grant) (n:Int) (h0:0≤n) (hn:n≤1048576) : Con P0 115 [eGrant x,.i .i64 n] (.t (.i .i64 (szR (eGrant x).wt n))) []:=by
 refine Con.intro (fn:=Tryz.f115) [.tmp 4] (fun _=>(0,[])) mixed (by kernel_rfl) rfl (by decide) rfl (by rfl) (by kernel_rfl) ?_
 have hw : (eGrant x).wt=x.name.length:=by simp only [eGrant,T.wt,wts]<;>omega
 rw [hw]
 have:=Bd.hi
 simp -implicitDefEqProofs (maxSteps:=2000000) only [push_cast,zA,zB,zC,zD,zE,zF,zG,↓reduceIte,reduceCtorEq,eGrant]
 intro _
 refine ⟨by unfold inI64; omega,?_⟩
 split
 ·exact congrArg (T.i .i64) (szR_neg (by omega)).symm
 first | trivial | exact congrArg (T.i .i64) (by rw [szR_pos (by omega)]<;>omega)
theorem szGrantS (x:List Grant) (n:Int) (h0:0≤n) (hn:n≤1048576) : Con P0 60 [eGrantS x,.i .i64 n] (.t (.i .i64 (szR (eGrantS x).wt n))) []:=by
 refine Con.intro (fn:=Tryz.f60) [.tmp 4] (fun _=>(0,[])) mixed (by kernel_rfl) rfl (by decide) rfl (by rfl) (by kernel_rfl) ?_
 have hw : (eGrantS x).wt=x.length + wts (x.map eGrant):=by simp only [eGrantS,T.wt,List.length_map]
 simp -implicitDefEqProofs (maxSteps:=2000000) only [push_cast,zA,zB,zC,zD,zE,zF,zG,↓reduceIte,reduceCtorEq]
 intro hl
 have:=Bd.hi
 refine ⟨by unfold inI64; omega,?_⟩
 split
 ·rename_i h
  exact congrArg (T.i .i64) (szR_neg (by rw [hw]; omega)).symm
 rename_i h
 refine WL.loop (ι:=Nat) (D:=(fun _=>(0,[]))) (fun i=>i≤x.length∧(x.length : Int) + wts ((x.take i).map eGrant)≤n) (fun i=>⟨27,[(0,.t (eGrantS x)),(1,.t (.i .i64 (n - x.length - wts ((x.take i).map eGrant)))),(5,.t (.i .i64 i))],[]⟩) (fun i=>x.length - i) mixed (by kernel_rfl) 0 ⟨by omega,by simp [wts]; omega⟩ (Keep.wk (ids:=[]) ?_) ?_
 ·simp only [push_cast,zA,zB,zC,zD,zE,zF,zG,↓reduceIte,reduceCtorEq,List.take_zero,wts]; simp
 ·rintro i ⟨hi,hc⟩
  simp -implicitDefEqProofs (maxSteps:=2000000) only [push_cast,zA,zB,zC,zD,zE,zF,zG,↓reduceIte,reduceCtorEq,eGrant_len,eGrant_isAg,eGrant_ones,eGrant_flat,eGrant_one]
  intro _
  split
  ·rename_i h
   refine ⟨by omega,?_⟩
   rw [Int.toNat_natCast]
   intro a ha
   try dsimp only
   have hstep:=wts_take (f:=eGrant) ha
   have hle:=wts_take_le (f:=eGrant) x (i + 1)
   refine Callx.closed (szGrant a _ (by omega) (by omega)) rfl rfl (.inl rfl) ?_
   simp -implicitDefEqProofs (maxSteps:=2000000) only [push_cast,zA,zB,zC,zD,zE,zF,zG,↓reduceIte,reduceCtorEq]
   rcases szR_cases (eGrant a).wt (n - x.length - wts ((x.take i).map eGrant)) with ⟨g1,g2⟩ | ⟨g1,g2⟩
   ·simp only [g2]
    rw [if_neg (by omega)]
    refine ⟨by unfold inI64; omega,i + 1,⟨by omega,by omega⟩,by omega,Keep.wk (ids:=[]) ?_⟩
    simp only [push_cast,zA,zB,zC,zD,zE,zF,zG,↓reduceIte,reduceCtorEq,T.i.injEq,AV.t.injEq]
    first | exact ⟨by omega,by omega⟩ | omega
   ·simp only [g2]
    rw [if_pos (by omega)]
    exact congrArg (T.i .i64) (szR_neg (by rw [hw]; omega)).symm
  ·have hi : i=x.length:=by omega
   subst hi
   rw [List.take_length] at hc ⊢
   exact congrArg (T.i .i64) (by rw [hw,szR_pos (by omega)]<;>omega)
theorem szEvent (x:Event) (n:Int) (h0:0≤n) (hn:n≤1048576) : Con P0 14 [eEvent x,.i .i64 n] (.t (.i .i64 (szR (eEvent x).wt n))) []:=by
 refine Con.intro (fn:=Tryz.f14) [.tmp 4] (fun _=>(0,[])) mixed (by kernel_rfl) rfl (by decide) rfl (by rfl) (by kernel_rfl) ?_
 have hw : (eEvent x).wt=x.id.length + x.sender.length + x.typ.length + x.key.length + (eStringS x.prev).wt + (eStringS x.auth).wt + x.value.length + (eGrantS x.grants).wt:=by simp only [eEvent,T.wt,wts]<;>omega
 rw [hw]
 have:=Bd.hi
 simp -implicitDefEqProofs (maxSteps:=2000000) only [push_cast,zA,zB,zC,zD,zE,zF,zG,↓reduceIte,reduceCtorEq,eEvent]
 intro _
 refine ⟨by unfold inI64; omega,?_⟩
 split
 ·exact congrArg (T.i .i64) (szR_neg (by omega)).symm
 intro _
 refine ⟨by unfold inI64; omega,?_⟩
 split
 ·exact congrArg (T.i .i64) (szR_neg (by omega)).symm
 intro _
 refine ⟨by unfold inI64; omega,?_⟩
 split
 ·exact congrArg (T.i .i64) (szR_neg (by omega)).symm
 intro _
 refine ⟨by unfold inI64; omega,?_⟩
 split
 ·exact congrArg (T.i .i64) (szR_neg (by omega)).symm
 refine Callx.closed (szStringS x.prev _ (by omega) (by omega)) rfl rfl (.inl rfl) ?_
 simp -implicitDefEqProofs (maxSteps:=2000000) only [push_cast,zA,zB,zC,zD,zE,zF,zG,↓reduceIte,reduceCtorEq,eEvent]
 rcases szR_cases (eStringS x.prev).wt (n - x.id.length - x.sender.length - x.typ.length - x.key.length) with ⟨g1,g2⟩ | ⟨g1,g2⟩
 rotate_left
 ·simp only [g2]
  rw [if_pos (by omega)]
  first | trivial | exact congrArg (T.i .i64) (szR_neg (by omega)).symm
 simp only [g2]
 rw [if_neg (by omega)]
 clear g2
 refine Callx.closed (szStringS x.auth _ (by omega) (by omega)) rfl rfl (.inl rfl) ?_
 simp -implicitDefEqProofs (maxSteps:=2000000) only [push_cast,zA,zB,zC,zD,zE,zF,zG,↓reduceIte,reduceCtorEq,eEvent]
 rcases szR_cases (eStringS x.auth).wt (n - x.id.length - x.sender.length - x.typ.length - x.key.length - (eStringS x.prev).wt) with ⟨g1,g2⟩ | ⟨g1,g2⟩
 rotate_left
 ·simp only [g2]
  rw [if_pos (by omega)]
  first | trivial | exact congrArg (T.i .i64) (szR_neg (by omega)).symm
 simp only [g2]
 rw [if_neg (by omega)]
 clear g2
 intro _
 refine ⟨by unfold inI64; omega,?_⟩
 split
 ·exact congrArg (T.i .i64) (szR_neg (by omega)).symm
 refine Callx.closed (szGrantS x.grants _ (by omega) (by omega)) rfl rfl (.inl rfl) ?_
 simp -implicitDefEqProofs (maxSteps:=2000000) only [push_cast,zA,zB,zC,zD,zE,zF,zG,↓reduceIte,reduceCtorEq,eEvent]
 rcases szR_cases (eGrantS x.grants).wt (n - x.id.length - x.sender.length - x.typ.length - x.key.length - (eStringS x.prev).wt - (eStringS x.auth).wt - x.value.length) with ⟨g1,g2⟩ | ⟨g1,g2⟩
 rotate_left
 ·simp only [g2]
  rw [if_pos (by omega)]
  first | trivial | exact congrArg (T.i .i64) (szR_neg (by omega)).symm
 simp only [g2]
 rw [if_neg (by omega)]
 clear g2
 first | trivial | exact congrArg (T.i .i64) (by rw [szR_pos (by omega)]<;>omega)
theorem szEventS (x:List Event) (n:Int) (h0:0≤n) (hn:n≤1048576) : Con P0 58 [eEventS x,.i .i64 n] (.t (.i .i64 (szR (eEventS x).wt n))) []:=by
 refine Con.intro (fn:=Tryz.f58) [.tmp 4] (fun _=>(0,[])) mixed (by kernel_rfl) rfl (by decide) rfl (by rfl) (by kernel_rfl) ?_
 have hw : (eEventS x).wt=x.length + wts (x.map eEvent):=by simp only [eEventS,T.wt,List.length_map]
 simp -implicitDefEqProofs (maxSteps:=2000000) only [push_cast,zA,zB,zC,zD,zE,zF,zG,↓reduceIte,reduceCtorEq]
 intro hl
 have:=Bd.hi
 refine ⟨by unfold inI64; omega,?_⟩
 split
 ·rename_i h
  exact congrArg (T.i .i64) (szR_neg (by rw [hw]; omega)).symm
 rename_i h
 refine WL.loop (ι:=Nat) (D:=(fun _=>(0,[]))) (fun i=>i≤x.length∧(x.length : Int) + wts ((x.take i).map eEvent)≤n) (fun i=>⟨27,[(0,.t (eEventS x)),(1,.t (.i .i64 (n - x.length - wts ((x.take i).map eEvent)))),(5,.t (.i .i64 i))],[]⟩) (fun i=>x.length - i) mixed (by kernel_rfl) 0 ⟨by omega,by simp [wts]; omega⟩ (Keep.wk (ids:=[]) ?_) ?_
 ·simp only [push_cast,zA,zB,zC,zD,zE,zF,zG,↓reduceIte,reduceCtorEq,List.take_zero,wts]; simp
 ·rintro i ⟨hi,hc⟩
  simp -implicitDefEqProofs (maxSteps:=2000000) only [push_cast,zA,zB,zC,zD,zE,zF,zG,↓reduceIte,reduceCtorEq,eEvent_len,eEvent_isAg,eEvent_ones,eEvent_one]
  intro _
  split
  ·rename_i h
   refine ⟨by omega,?_⟩
   rw [Int.toNat_natCast]
   intro a ha
   try dsimp only
   have hstep:=wts_take (f:=eEvent) ha
   have hle:=wts_take_le (f:=eEvent) x (i + 1)
   refine Callx.closed (szEvent a _ (by omega) (by omega)) rfl rfl (.inl rfl) ?_
   simp -implicitDefEqProofs (maxSteps:=2000000) only [push_cast,zA,zB,zC,zD,zE,zF,zG,↓reduceIte,reduceCtorEq]
   rcases szR_cases (eEvent a).wt (n - x.length - wts ((x.take i).map eEvent)) with ⟨g1,g2⟩ | ⟨g1,g2⟩
   ·simp only [g2]
    rw [if_neg (by omega)]
    refine ⟨by unfold inI64; omega,i + 1,⟨by omega,by omega⟩,by omega,Keep.wk (ids:=[]) ?_⟩
    simp only [push_cast,zA,zB,zC,zD,zE,zF,zG,↓reduceIte,reduceCtorEq,T.i.injEq,AV.t.injEq]
    first | exact ⟨by omega,by omega⟩ | omega
   ·simp only [g2]
    rw [if_pos (by omega)]
    exact congrArg (T.i .i64) (szR_neg (by rw [hw]; omega)).symm
  ·have hi : i=x.length:=by omega
   subst hi
   rw [List.take_length] at hc ⊢
   exact congrArg (T.i .i64) (by rw [hw,szR_pos (by omega)]<;>omega)
theorem szRoom (x:Room) (n:Int) (h0:0≤n) (hn:n≤1048576) : Con P0 12 [eRoom x,.i .i64 n] (.t (.i .i64 (szR (eRoom x).wt n))) []:=by
 refine Con.intro (fn:=Tryz.f12) [.tmp 4] (fun _=>(0,[])) mixed (by kernel_rfl) rfl (by decide) rfl (by rfl) (by kernel_rfl) ?_
 have hw : (eRoom x).wt=(eEventS x.events).wt:=by simp only [eRoom,T.wt,wts]<;>omega
 rw [hw]
 have:=Bd.hi
 simp -implicitDefEqProofs (maxSteps:=2000000) only [push_cast,zA,zB,zC,zD,zE,zF,zG,↓reduceIte,reduceCtorEq,eRoom]
 refine Callx.closed (szEventS x.events _ (by omega) (by omega)) rfl rfl (.inl rfl) ?_
 simp -implicitDefEqProofs (maxSteps:=2000000) only [push_cast,zA,zB,zC,zD,zE,zF,zG,↓reduceIte,reduceCtorEq,eRoom]
 rcases szR_cases (eEventS x.events).wt (n) with ⟨g1,g2⟩ | ⟨g1,g2⟩
 rotate_left
 ·simp only [g2]
  rw [if_pos (by omega)]
  first | trivial | exact congrArg (T.i .i64) (szR_neg (by omega)).symm
 simp only [g2]
 rw [if_neg (by omega)]
 clear g2
 first | trivial | exact congrArg (T.i .i64) (by rw [szR_pos (by omega)]<;>omega)
end Go.Proofs.YtmgdkkhnjkepiaaGreat.BX