/-
  Part 5 of what LFnInsert leans on: its texts, merged by a program (prune.py), with what it needs alone.
-/
import Derived.Test.YtmgdkkhnjkepiaaGreatQ4
import Derived.Test.YtmgdkkhnjkepiaaGreatProg
import Derived.KernelRfl
import Derived.Carry
import Derived.OpenShut
import Derived.WalkKit
import Derived.ProofKit
import Derived.Laws.Externs
import Derived.Laws.Runes
namespace Go.Proofs.YtmgdkkhnjkepiaaGreat.BX
open Nat renaming reduceEqDiff → zA, reduceLT → zB, reduceLeDiff → zC, reduceAdd → zD, reduceMul → zE, reduceSub → zF, reduceBEq → zG
set_option linter.unusedSectionVars false
set_option linter.unusedSimpArgs false
set_option linter.unusedVariables false
open Go Go.RowKit
variable [Bd]
section
variable {x:Bool} {k:IntKind} {n:Int} {l:List UInt8} {cs cs2:List T} {y:T} {n':Nat} {t:TypeId} {f:FuncId}
theorem c_ag : T.cells (.ag cs)=cs:=rfl
theorem i_ag : T.isAg (.ag cs)=true:=rfl
theorem c_b : T.cells (.b x)=[.b x]:=rfl
theorem i_b : T.isAg (.b x)=false:=rfl
theorem n_b : T.one (.b x)=true:=rfl
theorem c_i : T.cells (.i k n)=[.i k n]:=rfl
theorem i_i : T.isAg (.i k n)=false:=rfl
theorem n_i : T.one (.i k n)=true:=rfl
theorem c_s : T.cells (.s l)=[.s l]:=rfl
theorem i_s : T.isAg (.s l)=false:=rfl
theorem n_s : T.one (.s l)=true:=rfl
theorem c_sl : T.cells (.sl cs)=[.sl cs]:=rfl
theorem n_sl : T.one (.sl cs)=true:=rfl
end
section
variable {cs:List AV} {z:T} {id i m off:Nat} {f:FuncId}
theorem ca_ag : AV.cells (.ag cs)=cs:=rfl
theorem ca_t : AV.cells (.t z)=z.cells.map .t:=rfl
theorem ia_ag : AV.isAg (.ag cs)=true:=rfl
theorem ia_t : AV.isAg (.t z)=z.isAg:=by cases z<;>rfl
theorem na_t : AV.one (.t z)=z.one:=rfl
theorem na_ns : AV.one (.ns)=true:=rfl
theorem ca_sr : AV.cells (.sr id)=[.sr id]:=rfl
theorem ia_sr : AV.isAg (.sr id)=false:=rfl
theorem na_sr : AV.one (.sr id)=true:=rfl
theorem ca_mr : AV.cells (.mr id)=[.mr id]:=rfl
end
def dstAt : List Oper→Nat→Option Nat
 | [], _ => none
 | o :: _, 0 => o.dst
 | _ :: os, j + 1 => dstAt os j
theorem dstAt_eq : ∀ (l:List Oper) (j:Nat),((l.toArray)[j]?).bind (·.dst)=dstAt l j
 | [], j => by simp [dstAt]
 | o :: os, 0 => by simp [dstAt]
 | o :: os, j + 1 => by
   have:=dstAt_eq os j
   simp only [List.getElem?_toArray,List.getElem?_cons_succ,dstAt] at this ⊢
   exact this
@[congr] theorem dstAt_congr {l:List Oper} {j j':Nat} (h:tick j=j') : dstAt l j=dstAt l j':=by unfold tick at h; rw [h]
theorem d_zero {o:Oper} {os:List Oper} : dstAt (o :: os) 0=o.dst:=rfl
theorem d_succ {o:Oper} {os:List Oper} {j:Nat} : dstAt (o :: os) (j + 1)=dstAt os j:=rfl
section
variable {P:Program}
-- what is still to come is left alone till its turn comes
@[congr] theorem allAt_congr {α:Type} {l l':List α} {n n':Nat} {K:α→Prop} (h:tick l=l') (h2:n=n') : allAt l n K=allAt l' n' K:=by unfold tick at h; rw [h,h2]
theorem at_map {α β:Type} {f:α→β} {l:List α} {n:Nat} {K:β→Prop} : allAt (l.map f) n K = ∀ a,l[n]? = some a→K (f a):=by
 simp only [allAt,List.getElem?_map,Option.map_eq_some_iff]
 exact propext ⟨fun h a ha=>h _ ⟨a,ha,rfl⟩,fun h y ⟨a,ha,e⟩=>e ▸ h a ha⟩
@[congr] theorem WL_congr {N:Nat} {c:Code} {k:Kont} {σ σ':St} (h:tick σ=σ') : WL P N c k σ=WL P N c k σ':=by unfold tick at h; rw [h]
@[congr] theorem W_congr {N:Nat} {D:DD} {c:Code} {k:Kont} {σ σ':St} (h:tick σ=σ') : W P N D c k σ=W P N D c k σ':=by unfold tick at h; rw [h]
@[congr] theorem vcCond_congr {x x':AV} {A B:Prop} (h:tick x=x') : vcCond x A B=vcCond x' A B:=by unfold tick at h; rw [h]
@[congr] theorem vcOps_congr {all:Array Oper} {os:List Oper} {σ σ':St} {K:St→Prop} (h:tick σ=σ') : vcOps P all os σ K=vcOps P all os σ' K:=by unfold tick at h; rw [h]
@[congr] theorem vcDr_congr {all:Array Oper} {m m':Nat} {os:List Oper} {σ σ':St} {K:St→Prop} (h:tick σ=σ') (h2:m=m') : vcDr P all m os σ K=vcDr P all m' os σ' K:=by unfold tick at h; rw [h,h2]
@[congr] theorem vcOp_congr {op:Op} {σ σ':St} {K:AV→List Ob→Prop} (h:tick σ=σ') : vcOp P σ op K=vcOp P σ' op K:=by unfold tick at h; rw [h]
@[congr] theorem vcLook_congr {op:Op} {ob ob':List Ob} {e:Operand→AV} {K:AV→Prop} (h:tick ob=ob') : vcLook P ob e op K=vcLook P ob' e op K:=by unfold tick at h; rw [h]
@[congr] theorem vcLen_congr {t:TypeId} {x x':AV} {ob ob':List Ob} {K:AV→Prop} (h0:tick x=x') (h1:ob=ob') : vcLen P t ob x K=vcLen P t ob' x' K:=by unfold tick at h0; rw [h0,h1]
@[congr] theorem vcLoad_congr {t:TypeId} {x x':AV} {ob ob':List Ob} {K:AV→Prop} (h0:tick x=x') (h1:ob=ob') : vcLoad P t x ob K=vcLoad P t x' ob' K:=by unfold tick at h0; rw [h0,h1]
@[congr] theorem pickA_congr {t:TypeId} {x x':AV} {o o':Nat} {K:AV→Prop} (h0:tick x=x') (h1:o=o') : pickA P t x o K=pickA P t x' o' K:=by unfold tick at h0; rw [h0,h1]
@[congr] theorem pickT_congr {t:TypeId} {x x':T} {o o':Nat} {K:T→Prop} (h0:tick x=x') (h1:o=o') : pickT P t x o K=pickT P t x' o' K:=by unfold tick at h0; rw [h0,h1]
@[congr] theorem vcBin_congr {b:BinOp} {t:TypeId} {x x':AV} {y y':AV} {K:AV→Prop} (h0:tick x=x') (h1:y=y') : vcBin P b t x y K=vcBin P b t x' y' K:=by unfold tick at h0; rw [h0,h1]
@[congr] theorem vcInt_congr {b:BinOp} {k:IntKind} {x x':Int} {y y':Int} {K:AV→Prop} (h0:tick x=x') (h1:y=y') : vcInt b k x y K=vcInt b k x' y' K:=by unfold tick at h0; rw [h0,h1]
@[congr] theorem vcStr_congr {b:BinOp} {x x':List UInt8} {y y':List UInt8} {K:AV→Prop} (h0:tick x=x') (h1:y=y') : vcStr b x y K=vcStr b x' y' K:=by unfold tick at h0; rw [h0,h1]
@[congr] theorem vcUn_congr {b:UnOp} {x x':AV} {K:AV→Prop} (h0:tick x=x') : vcUn b x K=vcUn b x' K:=by unfold tick at h0; rw [h0]
@[congr] theorem vcField_congr {s:TypeId} {f:Nat} {x x':AV} {K:AV→Prop} (h0:tick x=x') : vcField P s f x K=vcField P s f x' K:=by unfold tick at h0; rw [h0]
@[congr] theorem vcIndexAddr_congr {t:TypeId} {x x':AV} {y y':AV} {ob ob':List Ob} {K:AV→Prop} (h0:tick x=x') (h1:y=y') (h2:ob=ob') : vcIndexAddr P t ob x y K=vcIndexAddr P t ob' x' y' K:=by unfold tick at h0; rw [h0,h1,h2]
@[congr] theorem vcIndex_congr {t:TypeId} {x x':AV} {y y':AV} {K:AV→Prop} (h0:tick x=x') (h1:y=y') : vcIndex P t x y K=vcIndex P t x' y' K:=by unfold tick at h0; rw [h0,h1]
@[congr] theorem vcExtract_congr {i:Nat} {x x':AV} {K:AV→Prop} (h0:tick x=x') : vcExtract x i K=vcExtract x' i K:=by unfold tick at h0; rw [h0]
@[congr] theorem vcSlice_congr {t:TypeId} {x x':AV} {a a':Option AV} {b b':Option AV} {K:AV→Prop} (h0:tick x=x') (h1:a=a') (h2:b=b') : vcSlice P t x a b K=vcSlice P t x' a' b' K:=by unfold tick at h0; rw [h0,h1,h2]
@[congr] theorem bnd_congr  {d d':Int} {x x':Option AV} {K:Int→Prop} (h0:tick d=d') (h1:x=x') : bnd d x K=bnd d' x' K:=by unfold tick at h0; rw [h0,h1]
@[congr] theorem vcStore_congr {t:TypeId} {p p':AV} {x x':AV} {ob ob':List Ob} {K:AV→List Ob→Prop} (h0:tick p=p') (h1:x=x') (h2:ob=ob') : vcStore P t p x ob K=vcStore P t p' x' ob' K:=by unfold tick at h0; rw [h0,h1,h2]
@[congr] theorem vcBuild_congr {t:TypeId} {x x':List (Nat × AV)} {K:AV→Prop} (h0:tick x=x') : vcBuild P t x K=vcBuild P t x' K:=by unfold tick at h0; rw [h0]
@[congr] theorem vcBuildSlice_congr {t:TypeId} {n:Nat} {ks ks':List Nat} {xs xs':List AV} {ob ob':List Ob} {K:AV→List Ob→Prop} (h0:tick ks=ks') (h1:xs=xs') (h2:ob=ob') : vcBuildSlice P t n ks xs ob K=vcBuildSlice P t n ks' xs' ob' K:=by unfold tick at h0; rw [h0,h1,h2]
@[congr] theorem vcAppend_congr {t:TypeId} {s s':AV} {x x':AV} {ob ob':List Ob} {K:AV→List Ob→Prop} (h0:tick s=s') (h1:x=x') (h2:ob=ob') : vcAppend P t s x ob K=vcAppend P t s' x' ob' K:=by unfold tick at h0; rw [h0,h1,h2]
@[congr] theorem srcOf_congr {m i:Nat} {x x':AV} {k k':Kind} {ob ob':List Ob} {K:List T→List Nat→Kind→Prop} (h0:tick x=x') (h1:k=k') (h2:ob=ob') : srcOf m ob i k x K=srcOf m ob' i k' x' K:=by unfold tick at h0; rw [h0,h1,h2]
@[congr] theorem vcMake_congr {t:TypeId} {s s':AV} {x x':AV} {ob ob':List Ob} {K:AV→List Ob→Prop} (h0:tick s=s') (h1:x=x') (h2:ob=ob') : vcMake P t s x ob K=vcMake P t s' x' ob' K:=by unfold tick at h0; rw [h0,h1,h2]
@[congr] theorem vcCallO_congr  {f f':AV} {xs xs':List AV} {tm tm':List (Nat × AV)} {ob ob':List Ob} {K:AV→List Ob→Prop} (h0:tick f=f') (h1:xs=xs') (h2:tm=tm') (h3:ob=ob') : vcCallO P f xs tm ob K=vcCallO P f' xs' tm' ob' K:=by unfold tick at h0; rw [h0,h1,h2,h3]
@[congr] theorem vcCall_congr  {f f':AV} {xs xs':List AV} {ob ob':List Ob} {K:AV→Prop} (h0:tick f=f') (h1:xs=xs') (h2:ob=ob') : vcCall P f xs ob K=vcCall P f' xs' ob' K:=by unfold tick at h0; rw [h0,h1,h2]
@[congr] theorem vcLookup_congr {t:TypeId} {ok:Bool} {x x':AV} {k k':AV} {ob ob':List Ob} {K:AV→Prop} (h0:tick x=x') (h1:k=k') (h2:ob=ob') : vcLookup P t x k ok ob K=vcLookup P t x' k' ok ob' K:=by unfold tick at h0; rw [h0,h1,h2]
end
section
variable {P:Program} {ob:List Ob} {t s:TypeId} {KA:AV→Prop} {KL:AV→List Ob→Prop} {x:AV}
def onSome {α:Type} (o:Option α) (K:α→Prop) : Prop:=match o with | some a=>K a | none=>False
def onOpt {α:Type} (o:Option α) (K:α→Prop) (B:Prop) : Prop:=match o with | some a=>K a | none=>B
def onBox (o:Option Ob) (K:AV→Prop) : Prop:=match o with | some (.box y)=>K y | _=>False
def onArr (o:Option Ob) (K:TypeId→Nat→Kind→List T→Prop) : Prop:=match o with | some (.arr e m own es)=>K e m own es | _=>False
def onSli (l:Lay) (K:TypeId→Nat→Prop) : Prop:=match l with | .sli e m=>K e m | _=>False
def onMapL (l:Lay) (K:TypeId→TypeId→Prop) : Prop:=match l with | .map k e=>K k e | _=>False
def onStr (l:Lay) (K:Prop) : Prop:=match l with | .str=>K | _=>False
def onSt (l:Lay) (K:List (Nat × Nat)→Nat→Prop) : Prop:=match l with | .st fs m=>K fs m | _=>False
def onLay (l:Lay) (A:Nat→Prop) (B:Prop) : Prop:=match l with | .st _ m=>A m | l=>l.sc=true∧B
def onPair {α β:Type} (o:Option (α × β)) (K:α→β→Prop) : Prop:=match o with | some (a,b)=>K a b | none=>False
def onTri {α β γ:Type} (o:Option (α × β × γ)) (K:α→β→γ→Prop) : Prop:=match o with | some (a,b,c)=>K a b c | none=>False
@[congr] theorem onSome_congr {α:Type} {o o':Option α} {K:α→Prop} (h:tick o=o') : onSome o K=onSome o' K:=by unfold tick at h; rw [h]
@[congr] theorem onOpt_congr {α:Type} {o o':Option α} {K:α→Prop} {B:Prop} (h:tick o=o') : onOpt o K B=onOpt o' K B:=by unfold tick at h; rw [h]
@[congr] theorem onBox_congr {o o':Option Ob} {K:AV→Prop} (h:tick o=o') : onBox o K=onBox o' K:=by unfold tick at h; rw [h]
@[congr] theorem onArr_congr {o o':Option Ob} {K:TypeId→Nat→Kind→List T→Prop} (h:tick o=o') : onArr o K=onArr o' K:=by unfold tick at h; rw [h]
@[congr] theorem onSli_congr {o o':Lay} {K:TypeId→Nat→Prop} (h:tick o=o') : onSli o K=onSli o' K:=by unfold tick at h; rw [h]
@[congr] theorem onMapL_congr {o o':Lay} {K:TypeId→TypeId→Prop} (h:tick o=o') : onMapL o K=onMapL o' K:=by unfold tick at h; rw [h]
@[congr] theorem onStr_congr {o o':Lay} {K:Prop} (h:tick o=o') : onStr o K=onStr o' K:=by unfold tick at h; rw [h]
@[congr] theorem onSt_congr {o o':Lay} {K:List (Nat × Nat)→Nat→Prop} (h:tick o=o') : onSt o K=onSt o' K:=by unfold tick at h; rw [h]
@[congr] theorem onLay_congr {o o':Lay} {K:Nat→Prop} {B:Prop} (h:tick o=o') : onLay o K B=onLay o' K B:=by unfold tick at h; rw [h]
@[congr] theorem onPair_congr {α β:Type} {o o':Option (α × β)} {K:α→β→Prop} (h:tick o=o') : onPair o K=onPair o' K:=by unfold tick at h; rw [h]
@[congr] theorem onTri_congr {α β γ:Type} {o o':Option (α × β × γ)} {K:α→β→γ→Prop} (h:tick o=o') : onTri o K=onTri o' K:=by unfold tick at h; rw [h]
theorem s_some {α:Type} {a:α} {K:α→Prop} : onSome (some a) K=K a:=rfl
theorem s_box {y:AV} {K:AV→Prop} : onBox (some (.box y)) K=K y:=rfl
theorem s_arr {e:TypeId} {m:Nat} {own:Kind} {es:List T} {K:TypeId→Nat→Kind→List T→Prop} : onArr (some (.arr e m own es)) K=K e m own es:=rfl
theorem s_sli {e:TypeId} {m:Nat} {K:TypeId→Nat→Prop} : onSli (.sli e m) K=K e m:=rfl
theorem s_mapl {k e:TypeId} {K:TypeId→TypeId→Prop} : onMapL (.map k e) K=K k e:=rfl
theorem s_str {K:Prop} : onStr .str K=K:=rfl
theorem s_st {fs:List (Nat × Nat)} {m:Nat} {K:List (Nat × Nat)→Nat→Prop} : onSt (.st fs m) K=K fs m:=rfl
theorem s_pair {α β:Type} {a:α} {b:β} {K:α→β→Prop} : onPair (some (a,b)) K=K a b:=rfl
theorem s_tri {α β γ:Type} {a:α} {b:β} {c:γ} {K:α→β→γ→Prop} : onTri (some (a,b,c)) K=K a b c:=rfl
theorem s_lst {fs:List (Nat × Nat)} {m:Nat} {A:Nat→Prop} {B:Prop} : onLay (.st fs m) A B=A m:=rfl
theorem s_lint {i:IntKind} {A:Nat→Prop} {B:Prop} : onLay (.int i) A B=B:=by simp [onLay,Lay.sc]
theorem s_lbool {A:Nat→Prop} {B:Prop} : onLay .bool A B=B:=by simp [onLay,Lay.sc]
theorem s_lstr {A:Nat→Prop} {B:Prop} : onLay .str A B=B:=by simp [onLay,Lay.sc]
theorem s_lsli {e:TypeId} {m:Nat} {A:Nat→Prop} {B:Prop} : onLay (.sli e m) A B=B:=by simp [onLay,Lay.sc]
theorem s_lmap {e m:TypeId} {A:Nat→Prop} {B:Prop} : onLay (.map e m) A B=B:=by simp [onLay,Lay.sc]
theorem v_loadrf {id off:Nat} : vcLoad P t (.rf id off) ob KA=onBox ob[id]? fun y=>y ≠ .un∧pickA P t y off KA:=by
 unfold vcLoad onBox; rfl
theorem v_loadt {y:T} {off:Nat} : vcLoad P t (.t (.po y off)) ob KA=pickT P t y off fun r=>KA (.t r):=rfl
def ldOb (P:Program) (t:TypeId) (m i off:Nat) (K:AV→Prop) : Ob→Prop
 | .arr _ m' k es => m=m' ∧ i < es.length∧allAt es i fun y=>pickT P t y off fun r=>K (k.look r)
 | .hole _ m' _ _ i' j id' => (m=m' ∧ i=i' ∧ off=j∧(lay P t).sc=true)∧K (.sr id')
 | _ => False
theorem v_loadra {id i m off:Nat} : vcLoad P t (.ra id i m off) ob KA=onSome ob[id]? (ldOb P t m i off KA):=by
 unfold vcLoad onSome
 dsimp only
 cases ob[id]? with
 | none => rfl
 | some o => cases o<;>rfl
theorem v_lda {e:TypeId} {m m' i off:Nat} {k:Kind} {es:List T} : ldOb P t m i off KA (.arr e m' k es)=(m=m' ∧ i < es.length∧allAt es i fun y=>pickT P t y off fun r=>KA (k.look r)):=rfl
theorem v_lkc {y:T} : Kind.look .clo y = .t y:=rfl
theorem v_lko {y:T} {sh:Sh} : Kind.look (.own sh) y = .bwc y:=rfl
def vcLd (P:Program) (t:TypeId) (x:AV) (tm:List (Nat × AV)) (ob:List Ob) (K:AV→List Ob→Prop) : Prop:=(vcLoad P t x ob fun r=>K r ob) ∨ vcOpen P t x tm ob K
@[congr] theorem vcLd_congr {x x':AV} {tm tm':List (Nat × AV)} {ob':List Ob} (h:tick x=x') (h2:tm=tm') (h3:ob=ob') : vcLd P t x tm ob KL=vcLd P t x' tm' ob' KL:=by unfold tick at h; rw [h,h2,h3]
section
variable {tm:List (Nat × AV)}
theorem v_ldrf {id off:Nat} : vcLd P t (.rf id off) tm ob KL=vcLoad P t (.rf id off) ob fun r=>KL r ob:=or_false _
theorem v_ldt {y:T} : vcLd P t (.t y) tm ob KL=vcLoad P t (.t y) ob fun r=>KL r ob:=or_false _
def ldo (P:Program) (t:TypeId) (id i m off:Nat) (tm:List (Nat × AV)) (ob:List Ob) (K:AV→List Ob→Prop) : Ob→Prop
 | .arr e m' (.own s) es => ldOb P t m i off (fun r=>K r ob) (.arr e m' (.own s) es) ∨ opn P t id i m off tm ob K e m' s es
 | o => ldOb P t m i off (fun r=>K r ob) o
@[congr] theorem ldo_congr {id i i' m off off':Nat} {tm tm':List (Nat × AV)} {ob':List Ob} {o o':Ob} (h:tick o=o') (h1:i=i') (h2:off=off') (h3:tm=tm') (h4:ob=ob') : ldo P t id i m off tm ob KL o=ldo P t id i' m off' tm' ob' KL o':=by unfold tick at h; rw [h,h1,h2,h3,h4]
@[congr] theorem ldOb_congr {i i' m off off':Nat} {o o':Ob} (h:tick o=o') (h1:i=i') (h2:off=off') : ldOb P t m i off KA o=ldOb P t m i' off' KA o':=by unfold tick at h; rw [h,h1,h2]
theorem v_ldra {id i m off:Nat} : vcLd P t (.ra id i m off) tm ob KL=onSome ob[id]? (ldo P t id i m off tm ob KL):=by
 unfold vcLd vcOpen
 rw [v_loadra]
 dsimp only
 unfold onSome
 generalize ob[id]? = o
 cases o with
 | none => exact or_false _
 | some o =>
   cases o with
   | arr e m' k es => cases k<;>first | rfl | exact or_false _
   | _ => exact or_false _
theorem plain_cells {s:Sh} (h:s.plain=true) {j:Nat} {e:TypeId} {m:Nat} {s':Sh} : s.cells[j]? ≠ some (.sl e m s'):=by
 intro hh
 cases s with
 | leaf => cases j<;>simp [Sh.cells] at hh
 | sl => cases h
 | ag ss =>
   simp only [Sh.cells] at hh
   have h : Sh.plains ss=true:=h
   have : ∀ (ss:List Sh) (j:Nat),Sh.plains ss=true→ss[j]? ≠ some (.sl e m s'):=by
    intro ss
    induction ss with
    | nil => intro j _ hh; simp at hh
    | cons x xs ih =>
      intro j h hh
      cases x with
      | leaf =>
        simp only [Sh.plains] at h
        cases j with
        | zero => simp at hh
        | succ j => exact ih j h (by simpa using hh)
      | _ => simp [Sh.plains] at h
   exact this ss j h hh
def ways (p:Bool) (A B:Prop) : Prop:=if p=true then A else A ∨ B
@[congr] theorem ways_congr {p p':Bool} {A B:Prop} (h:tick p=p') : ways p A B=ways p' A B:=by unfold tick at h; rw [h]
theorem wy_t {A B:Prop} : ways true A B=A:=rfl
theorem v_ldoo {id i m off:Nat} {e:TypeId} {m':Nat} {s:Sh} {es:List T} : ldo P t id i m off tm ob KL (.arr e m' (.own s) es)=ways s.plain (ldOb P t m i off (fun r=>KL r ob) (.arr e m' (.own s) es)) (opn P t id i m off tm ob KL e m' s es):=by
 unfold ways
 split
 ·rename_i h
  refine propext ⟨fun hh=>hh.elim (fun h=>h) fun hh=>?_,.inl⟩
  unfold opn onShSl at hh
  split at hh
  ·rename_i hc; exact absurd hc (plain_cells h)
  ·cases hh
 ·rfl
theorem v_ldoc {id i m off:Nat} {e:TypeId} {m':Nat} {es:List T} : ldo P t id i m off tm ob KL (.arr e m' .clo es)=ldOb P t m i off (fun r=>KL r ob) (.arr e m' .clo es):=rfl
@[congr] theorem onSl_congr {o o':Option T} {K:List T→Prop} (h:tick o=o') : onSl o K=onSl o' K:=by unfold tick at h; rw [h]
@[congr] theorem onShSl_congr {o o':Option Sh} {K:TypeId→Nat→Sh→Prop} (h:tick o=o') : onShSl o K=onShSl o' K:=by unfold tick at h; rw [h]
theorem v_opn {id i m off:Nat} {e:TypeId} {m':Nat} {s:Sh} {es:List T} : opn P t id i m off tm ob KL e m' s es=onShSl s.cells[off]? fun e1 m1 s1=>m=m' ∧ i < es.length∧(lay P t).sc=true∧tmNoBw tm=true∧obsNoBw ob=true∧allAt es i fun y=>onSl y.cells[off]? fun xs=>KL (.sr ob.length) (ob.set id (.hole e m' s es i off ob.length) ++ [.arr e1 m1 (.own s1) xs]):=rfl
end
theorem v_pickA {off:Nat} : pickA P t x off KA=onLay (lay P t) (fun m=>if off=0∧x.cells.length=m∧x.isAg=true then KA x else off + m≤x.cells.length∧KA (.ag ((x.cells.drop off).take m))) (onSome x.cells[off]? KA):=by
 unfold pickA onLay onSome; cases lay P t<;>cases x.cells[off]? <;> rfl
theorem v_pickT {y:T} {off:Nat} {K:T→Prop} : pickT P t y off K=onLay (lay P t) (fun m=>if off=0∧y.cells.length=m∧y.isAg=true then K y else off + m≤y.cells.length∧K (.ag ((y.cells.drop off).take m))) (onSome y.cells[off]? K):=by
 unfold pickT onLay onSome; cases lay P t<;>cases y.cells[off]? <;> rfl
def fld (x:AV) (o:Nat) (K:AV→Prop) : Prop:=match x with
 | .rf id off => K (.rf id (off + o))
 | .t (.po y off) => K (.t (.po y (off + o)))
 | .bw (.po y off) => K (.bw (.po y (off + o)))
 | .ra id i m off => K (.ra id i m (off + o))
 | _ => False
@[congr] theorem fld_congr {x':AV} {o o':Nat} {K:AV→Prop} (h:tick x=x') (h2:o=o') : fld x o K=fld x' o' K:=by unfold tick at h; rw [h,h2]
theorem v_field {f:Nat} : vcField P s f x KA=onSt (lay P s) fun fs _=>onPair fs[f]? fun o n=>n≠0∧fld x o KA:=by
 unfold vcField onSt onPair fld
 cases lay P s<;>try rfl
 case st fs m=>dsimp only; cases fs[f]? <;> rfl
theorem v_fldrf {id off o:Nat} : fld (.rf id off) o KA=KA (.rf id (off + o)):=rfl
theorem v_fldt {y:T} {off o:Nat} : fld (.t (.po y off)) o KA=KA (.t (.po y (off + o))):=rfl
theorem v_fldra {id i m off o:Nat} : fld (.ra id i m off) o KA=KA (.ra id i m (off + o)):=rfl
theorem v_iasl {es:List T} {k:IntKind} {n:Int} : vcIndexAddr P t ob (.t (.sl es)) (.t (.i k n)) KA=onSli (lay P t) fun _ m=>(0≤n∧n < es.length)∧allAt es n.toNat fun y=>y.cells.length=m∧KA (.t (.po y 0)):=by
 unfold vcIndexAddr onSli; cases lay P t<;>rfl
def ixOb (m id:Nat) (n:Int) (K:AV→Prop) : Ob→Prop
 | .arr _ m' _ es => m=m' ∧ (0≤n∧n < es.length)∧K (.ra id n.toNat m 0)
 | .hole _ m' _ es _ _ _ => m=m' ∧ (0≤n∧n < es.length)∧K (.ra id n.toNat m 0)
 | _ => False
theorem v_iasr {id:Nat} {k:IntKind} {n:Int} : vcIndexAddr P t ob (.sr id) (.t (.i k n)) KA=onSli (lay P t) fun _ m=>onSome ob[id]? (ixOb m id n KA):=by
 unfold vcIndexAddr onSli onSome
 cases lay P t<;>try rfl
 dsimp only
 cases ob[id]? with
 | none => rfl
 | some o => cases o<;>rfl
theorem v_ixa {e:TypeId} {m m' id:Nat} {n:Int} {k:Kind} {es:List T} : ixOb m id n KA (.arr e m' k es)=(m=m' ∧ (0≤n∧n < es.length)∧KA (.ra id n.toNat m 0)):=rfl
theorem v_ixs {l:List UInt8} {k:IntKind} {n:Int} : vcIndex P t (.t (.s l)) (.t (.i k n)) KA=(lay P t = .str∧(0≤n∧n < l.length)∧allAt l n.toNat fun c=>KA (.t (.i .u8 c.toNat))):=rfl
theorem v_lensl {es:List T} : vcLen P t ob (.t (.sl es)) KA=onSli (lay P t) fun _ _=>es.length < Bd.B→KA (.t (.i .i64 es.length)):=by
 unfold vcLen onSli; cases lay P t<;>rfl
theorem v_lens {l:List UInt8} : vcLen P t ob (.t (.s l)) KA=onStr (lay P t) (l.length < Bd.B→KA (.t (.i .i64 l.length))):=by
 unfold vcLen onStr; cases lay P t<;>rfl
theorem v_lenns : vcLen P t ob .ns KA=onSli (lay P t) fun _ _=>KA (.t (.i .i64 0)):=by
 unfold vcLen onSli; cases lay P t<;>rfl
def lnOb (K:AV→Prop) : Ob→Prop
 | .arr _ _ _ es => es.length < Bd.B→K (.t (.i .i64 es.length))
 | .hole _ _ _ es _ _ _ => es.length < Bd.B→K (.t (.i .i64 es.length))
 | _ => False
theorem v_lensr {id:Nat} : vcLen P t ob (.sr id) KA=onSli (lay P t) fun _ _=>onSome ob[id]? (lnOb KA):=by
 unfold vcLen onSli onSome
 cases lay P t<;>try rfl
 dsimp only
 cases ob[id]? with
 | none => rfl
 | some o => cases o<;>rfl
theorem v_lna {e:TypeId} {m:Nat} {k:Kind} {es:List T} : lnOb KA (.arr e m k es)=(es.length < Bd.B→KA (.t (.i .i64 es.length))):=rfl
theorem v_bini {op:BinOp} {k k':IntKind} {a b:Int} : vcBin P op t (.t (.i k a)) (.t (.i k' b)) KA=(k=k' ∧ vcInt op k a b KA):=rfl
theorem v_bins {op:BinOp} {a b:List UInt8} : vcBin P op t (.t (.s a)) (.t (.s b)) KA=vcStr op a b KA:=rfl
theorem v_bineb {a b:Bool} : vcBin P .eql t (.t (.b a)) (.t (.b b)) KA=(lay P t = .bool∧KA (.t (.b (decide (a=b))))):=rfl
theorem v_binnb {a b:Bool} : vcBin P .neq t (.t (.b a)) (.t (.b b)) KA=(lay P t = .bool∧KA (.t (.b (decide (a≠b))))):=rfl
theorem v_pnn : vcBin P .neq t (.t .np) (.t .np) KA=(lay P t = .ptr∧KA (.t (.b false))):=propext ⟨fun h=>⟨h.1,h.2.elim (fun h=>h.2) (fun h=>nomatch h.1)⟩,fun h=>⟨h.1,.inl ⟨rfl,h.2⟩⟩⟩
theorem v_pnp {y:T} {o:Nat} : vcBin P .neq t (.t (.po y o)) (.t .np) KA=(lay P t = .ptr∧KA (.t (.b true))):=propext ⟨fun h=>⟨h.1,h.2.elim (fun h=>nomatch h.1) (fun h=>h.2)⟩,fun h=>⟨h.1,.inr ⟨rfl,h.2⟩⟩⟩
theorem v_add {a b:Int} : vcInt .add .i64 a b KA=(inI64 (a + b)∧KA (.t (.i .i64 (a + b)))):=rfl
theorem v_sub {a b:Int} : vcInt .sub .i64 a b KA=(inI64 (a - b)∧KA (.t (.i .i64 (a - b)))):=rfl
theorem v_mul {a b:Int} : vcInt .mul .i64 a b KA=(inI64 (a * b)∧KA (.t (.i .i64 (a * b)))):=rfl
theorem v_quo {k:IntKind} {a b:Int} : vcInt .quo k a b KA=(k = .i64∧0≤a∧0 < b∧inI64 a∧KA (.t (.i .i64 (a / b)))):=rfl
theorem v_rem {k:IntKind} {a b:Int} : vcInt .rem k a b KA=(0≤a∧0 < b∧KA (.t (.i k (a % b)))):=rfl
theorem v_eql {k:IntKind} {a b:Int} : vcInt .eql k a b KA=KA (.t (.b (decide (a=b)))):=rfl
theorem v_neq {k:IntKind} {a b:Int} : vcInt .neq k a b KA=KA (.t (.b (decide (a≠b)))):=rfl
theorem v_lss {k:IntKind} {a b:Int} : vcInt .lss k a b KA=KA (.t (.b (decide (a < b)))):=rfl
theorem v_leq {k:IntKind} {a b:Int} : vcInt .leq k a b KA=KA (.t (.b (decide (a≤b)))):=rfl
theorem v_gtr {k:IntKind} {a b:Int} : vcInt .gtr k a b KA=KA (.t (.b (decide (b < a)))):=rfl
theorem v_shr {k:IntKind} {a b:Int} : vcInt .shr k a b KA=(0≤b∧b≤shLim k∧KA (.t (.i k (a / 2 ^ b.toNat)))):=rfl
theorem v_lim : shLim .i64=60:=rfl
theorem v_geq {k:IntKind} {a b:Int} : vcInt .geq k a b KA=KA (.t (.b (decide (b≤a)))):=rfl
theorem v_sadd {a b:List UInt8} : vcStr .add a b KA=((a ++ b).length < Bd.B∧KA (.t (.s (a ++ b)))):=rfl
theorem v_seql {a b:List UInt8} : vcStr .eql a b KA=KA (.t (.b (decide (a=b)))):=rfl
theorem v_sneq {a b:List UInt8} : vcStr .neq a b KA=KA (.t (.b (decide (a≠b)))):=rfl
theorem v_slss {a b:List UInt8} : vcStr .lss a b KA=KA (.t (.b (Op.bytesLess a b))):=rfl
theorem v_sgeq {a b:List UInt8} : vcStr .geq a b KA=KA (.t (.b (!Op.bytesLess a b))):=rfl
theorem v_not {a:Bool} : vcUn .not (.t (.b a)) KA=KA (.t (.b (!a))):=rfl
@[congr] theorem vcSl3_congr {x x' hi hi':AV} {ob':List Ob} (h:tick x=x') (h2:hi=hi') (h3:ob=ob') : vcSl3 P t x hi ob KL=vcSl3 P t x' hi' ob' KL:=by unfold tick at h; rw [h,h2,h3]
@[congr] theorem vcSlv_congr {x x':AV} {a a' b b':Option AV} {ob':List Ob} (h0:tick x=x') (h1:a=a') (h2:b=b') (h3:ob=ob') : vcSlv P t ob x a b KA=vcSlv P t ob' x' a' b' KA:=by unfold tick at h0; rw [h0,h1,h2,h3]
theorem v_slvt {y:T} {lo hi:Option AV} : vcSlv P t ob (.t y) lo hi KA=vcSlice P t (.t y) lo hi KA:=rfl
@[congr] theorem vcClear_congr {x x':AV} {ob':List Ob} (h:tick x=x') (h3:ob=ob') : vcClear P t x ob KL=vcClear P t x' ob' KL:=by unfold tick at h; rw [h,h3]
def onOwK (k:Kind) (A:Sh→Prop) : Prop:=match k with
 | .own s => A s
 | _ => False
@[congr] theorem onOwK_congr {k k':Kind} {A:Sh→Prop} (h:tick k=k') : onOwK k A=onOwK k' A:=by unfold tick at h; rw [h]
theorem v_sl3t {y:T} {hi:AV} : vcSl3 P t (.t y) hi ob KL=vcSlice P t (.t y) none (some hi) fun r=>KL r ob:=rfl
theorem v_sl3r {i:Nat} {k:IntKind} {n:Int} : vcSl3 P t (.sr i) (.t (.i k n)) ob KL=onSli (lay P t) fun e m=>onArr ob[i]? fun e' m' k es=>e'=e∧m'=m∧0≤n∧n≤(es.length : Int)∧KL (.sr ob.length) (ob.set i .dead ++ [.arr e m k (es.take n.toNat)]):=by
 unfold vcSl3
 dsimp only
 unfold vcShrink onSli onArr
 cases lay P t<;>try rfl
 cases ob[i]? with
 | none => rfl
 | some o => cases o<;>rfl
theorem v_neg {n:Int} : vcUn .neg (.t (.i .i64 n)) KA=(inI64 (0 - n)∧KA (.t (.i .i64 (0 - n)))):=rfl
theorem v_exta {xs:List AV} {i:Nat} : vcExtract (.tp xs) i KA=onSome xs[i]? KA:=by
 unfold vcExtract onSome; dsimp only; cases xs[i]? <;> rfl
theorem v_extt {xs:List T} {i:Nat} : vcExtract (.t (.tp xs)) i KA=onSome xs[i]? fun y=>KA (.t y):=by
 unfold vcExtract onSome; dsimp only; cases xs[i]? <;> rfl
theorem v_bn {d:Int} {K:Int→Prop} : bnd d none K=K d:=rfl
theorem v_bs {d n:Int} {k:IntKind} {K:Int→Prop} : bnd d (some (.t (.i k n))) K=K n:=rfl
theorem v_slsl {es:List T} {lo hi:Option AV} : vcSlice P t (.t (.sl es)) lo hi KA=onSli (lay P t) fun _ m=>(∀ y∈es,y.cells.length=m)∧bnd 0 lo fun a=>bnd es.length hi fun b=>(0≤a∧a≤b∧b≤es.length)∧KA (.t (.sl ((es.take b.toNat).drop a.toNat))):=by
 unfold vcSlice onSli; cases lay P t<;>rfl
theorem v_sls {l:List UInt8} {lo hi:Option AV} : vcSlice P t (.t (.s l)) lo hi KA=onStr (lay P t) (bnd 0 lo fun a=>bnd l.length hi fun b=>(0≤a∧a≤b∧b≤l.length)∧KA (.t (.s ((l.take b.toNat).drop a.toNat)))):=by
 unfold vcSlice onStr; cases lay P t<;>rfl
theorem v_storerf {id off:Nat} : vcStore P t (.rf id off) x ob KL=onBox ob[id]? fun y=>y ≠ .un∧x ≠ .un∧allOne x.cells=true∧P.cellsOf t=x.cells.length∧off + x.cells.length≤y.cells.length∧x.cells.length≠0 ∧
        KL .ud (ob.set id (.box (if off=0∧y.cells.length=x.cells.length∧x.isAg=y.isAg then x else .ag (segA y.cells off x.cells)))):=by
 unfold vcStore onBox
 dsimp only
 cases ob[id]? with
 | none => rfl
 | some o => cases o<;>rfl
def onMix (o:Option (List T × List Nat × Kind)) (K:T→List Nat→Kind→Prop) : Prop:=match o with | some ([z],ids,k)=>K z ids k | _=>False
@[congr] theorem onMix_congr {o o':Option (List T × List Nat × Kind)} {K:T→List Nat→Kind→Prop} (h:tick o=o') : onMix o K=onMix o' K:=by unfold tick at h; rw [h]
theorem s_mix {z:T} {ids:List Nat} {k:Kind} {K:T→List Nat→Kind→Prop} : onMix (some ([z],ids,k)) K=K z ids k:=rfl
def flatCell : Option T→Prop
 | some c => c.flat=true∧c.one=true
 | none => False
def onOwnP (o:Option Ob) (K:TypeId→Nat→Sh→List T→Prop) : Prop:=match o with | some (.arr e m (.own s) es)=>K e m s es | _=>False
@[congr] theorem onOwnP_congr {o o':Option Ob} {K:TypeId→Nat→Sh→List T→Prop} (h:tick o=o') : onOwnP o K=onOwnP o' K:=by unfold tick at h; rw [h]
def onSr (x:AV) (K:Nat→Prop) : Prop:=match x with | .sr n=>K n | _=>False
@[congr] theorem onSr_congr {x x':AV} {K:Nat→Prop} (h:tick x=x') : onSr x K=onSr x' K:=by unfold tick at h; rw [h]
def stOb (P:Program) (t:TypeId) (id i m off:Nat) (x:AV) (ob:List Ob) (KL:AV→List Ob→Prop) : Option Ob→Prop
 | some (.arr e m' k es) => (m=m' ∧ i < es.length)∧onMix (mix ob k [x]) fun z ids k' =>
  (ids.contains id=false∧nodupB ids=true)∧(T.allOne z.cells=true∧P.cellsOf t=z.cells.length∧z.cells.length≠0)∧allAt es i fun y =>
   if off=0∧z.cells.length=m∧z.isAg=y.isAg then KL .ud ((killAll ids ob).set id (.arr e m k' (es.set i z)))
   else (z.flat=true∧z.one=true∧off < m∧y.cells.length=m∧y.isAg=true∧ids=[])∧flatCell y.cells[off]? ∧ KL .ud (ob.set id (.arr e m k (es.set i (.ag (y.cells.set off z)))))
 | some (.hole e m' s es i' j _) => (m=m' ∧ i=i' ∧ off=j)∧onSr x fun n=>onOwnP ob[n]? fun e1 m1 s1 xs=>(s.cells[j]? = some (.sl e1 m1 s1)∧P.cellsOf t=1∧off < m)∧allAt es i fun y=>KL .ud ((ob.set n .dead).set id (.arr e m (.own s) (es.set i (y.setCell j (.sl xs)))))
 | _ => False
@[congr] theorem stOb_congr {t:TypeId} {id i m off:Nat} {x x':AV} {ob ob':List Ob} {KL:AV→List Ob→Prop} {o o':Option Ob} (h1:tick x=x') (h2:tick ob=ob') (h3:tick o=o') : stOb P t id i m off x ob KL o=stOb P t id i m off x' ob' KL o':=by unfold tick at *; rw [h1,h2,h3]
theorem v_storera {id i m off:Nat} : vcStore P t (.ra id i m off) x ob KL=stOb P t id i m off x ob KL ob[id]?:=by
 unfold vcStore stOb onMix flatCell onSr onOwnP
 dsimp only
 cases ob[id]? with
 | none => rfl
 | some o =>
   cases o<;>rfl
theorem v_sta {id i m off:Nat} {e:TypeId} {m':Nat} {k:Kind} {es:List T} : stOb P t id i m off x ob KL (some (.arr e m' k es))=((m=m' ∧ i < es.length)∧onMix (mix ob k [x]) fun z ids k' =>
 (ids.contains id=false∧nodupB ids=true)∧(T.allOne z.cells=true∧P.cellsOf t=z.cells.length∧z.cells.length≠0)∧allAt es i fun y =>
  if off=0∧z.cells.length=m∧z.isAg=y.isAg then KL .ud ((killAll ids ob).set id (.arr e m k' (es.set i z)))
  else (z.flat=true∧z.one=true∧off < m∧y.cells.length=m∧y.isAg=true∧ids=[])∧flatCell y.cells[off]? ∧ KL .ud (ob.set id (.arr e m k (es.set i (.ag (y.cells.set off z)))))):=rfl
theorem v_build {parts:List (Nat × AV)} : vcBuild P t parts KA=onSt (lay P t) fun fs _=>onSome (zeroOf P t) fun z=>onSome (fillA fs (ofV z).cells parts) fun cells=>(ofV z).known=true∧KA (.ag cells):=by
 unfold vcBuild onSt onSome
 cases lay P t<;>cases zeroOf P t<;>try rfl
 case st.some fs m z=>dsimp only; cases fillA fs (ofV z).cells parts<;>rfl
theorem v_bsl {n:Nat} {ks:List Nat} {xs:List AV} : vcBuildSlice P t n ks xs ob KL=onSli (lay P t) fun e m=>ks=List.range' 0 n∧n * m≤16777216∧n < Bd.B∧(zeroOf P e).isSome=true∧onTri (mix ob (.own (shOf P 40 e)) xs) fun ys ids k=>nodupB ids=true∧allLen m ys=true∧allOnes ys=true∧KL (.sr ob.length) (killAll ids ob ++ [.arr e m k ys]):=by
 unfold vcBuildSlice onSli onTri
 cases lay P t<;>try rfl
 case sli e m =>
  dsimp only
  cases mix ob (.own (shOf P 40 e)) xs with
  | none => rfl
  | some p => obtain ⟨a,b,c⟩:=p; rfl
theorem v_appsr {i:Nat} : vcAppend P t (.sr i) x ob KL=onSli (lay P t) fun e m=>0 < m∧((zeroOf P e).map (·.cells.size)=some m)∧Bd.B * P.bytesOf e≤140737488355328 ∧
 onArr ob[i]? fun e' m' k es=>e'=e∧m'=m∧srcOf m ob i k x fun es2 ids k'=>(es ++ es2).length < Bd.B∧KL (.sr ob.length) ((killAll ids ob).set i .dead ++ [.arr e m k' (es ++ es2)]):=by
 unfold vcAppend onSli onArr; cases lay P t<;>rfl
theorem v_appns : vcAppend P t .ns x ob KL=onSli (lay P t) fun e m=>0 < m∧((zeroOf P e).map (·.cells.size)=some m)∧Bd.B * P.bytesOf e≤140737488355328 ∧
 srcOf m ob ob.length (.own (shOf P 40 e)) x fun es2 ids k'=>es2.length < Bd.B∧KL (.sr ob.length) (killAll ids ob ++ [.arr e m k' es2]):=by
 unfold vcAppend onSli; cases lay P t<;>rfl
def srcT (kd:Kind) (es:List T) (K:List T→List Nat→Kind→Prop) : Prop:=match kd with
 | .own s => if s.plain=true then fitsAll s es=true∧K es [] (.own s) else K es [] .clo
 | kd => K es [] kd
def srcR (j:Nat) (kd k':Kind) (es:List T) (K:List T→List Nat→Kind→Prop) : Prop:=match kd,k' with
 | .own s, .own s' => s'=s∧if s.plain=true then K es [] (.own s) else K es [j] (.own s)
 | .own _, .clo => K es [] .clo
 | .clo, .own _ => K es [j] .clo
 | .clo, .clo => K es [] .clo
 | _, _ => K es [] .bor
section
variable {sh sh':Sh} {es:List T} {j:Nat} {K:List T→List Nat→Kind→Prop}
theorem v_sto : srcT (.own sh) es K=if sh.plain=true then fitsAll sh es=true∧K es [] (.own sh) else K es [] .clo:=rfl
theorem v_sroo : srcR j (.own sh) (.own sh') es K=(sh'=sh∧if sh.plain=true then K es [] (.own sh) else K es [j] (.own sh)):=rfl
theorem v_srco : srcR j .clo (.own sh) es K=K es [j] .clo:=rfl
theorem v_srcc : srcR j .clo .clo es K=K es [] .clo:=rfl
end
theorem v_srct {m i:Nat} {kd:Kind} {es:List T} {k:List T→List Nat→Kind→Prop} : srcOf m ob i kd (.t (.sl es)) k=(allLen m es=true∧srcT kd es k):=by cases kd<;>rfl
theorem v_srcsr {m i j:Nat} {kd:Kind} {k:List T→List Nat→Kind→Prop} : srcOf m ob i kd (.sr j) k=onArr ob[j]? fun _ m' k' es=>m'=m∧if i=j then kd.plainOwn=true∧srcR j kd k' es k else srcR j kd k' es k:=by
 have h0 : srcOf m ob i kd (.sr j) k=onArr ob[j]? fun _ m' k' es=>m'=m∧(i≠j ∨ kd.plainOwn=true)∧srcR j kd k' es k:=by
  unfold srcOf onArr srcR
  rfl
 rw [h0]
 congr 1
 funext _ m' k' es
 by_cases h : i=j
 ·subst h
  simp only [ne_eq,not_true_eq_false,false_or,if_true]
 ·simp only [h,ne_eq,not_false_eq_true,true_or,if_false,true_and]
theorem v_plo {s:Sh} : Kind.plainOwn (.own s)=s.plain:=rfl
theorem v_call {f:FuncId} {caps xs:List AV} (h:f < 1000000) : vcCall P (.fn f caps) xs ob KA=onSome (seesW (AV.see ob 5) (xs ++ caps)) fun ts=>CallV P f ts (shuts (xs ++ caps)).isSome fun r=>KA (.t r):=by
 unfold vcCall onSome; simp only [calleeOf,calleeI,if_pos h]; cases seesW (AV.see ob 5) (xs ++ caps)<;>rfl
theorem v_callo {f:FuncId} {caps xs:List AV} {tm:List (Nat × AV)} (h:f < 1000000) : vcCallO P (.fn f caps) xs tm ob KL=Callx P f (xs ++ caps) (seesW (AV.see ob 5) (xs ++ caps)) (shuts (xs ++ caps)).isSome (tmNoBw tm) ob KL:=by unfold vcCallO; simp only [calleeOf,calleeI,if_pos h]
@[congr] theorem vcMapUpd_congr {m m' k k' v v':AV} {ob':List Ob} (h:tick m=m') (h1:k=k') (h2:v=v') (h3:ob=ob') : vcMapUpd P t m k v ob KL=vcMapUpd P t m' k' v' ob' KL:=by unfold tick at h; rw [h,h1,h2,h3]
@[congr] theorem vcDelete_congr {m m' k k':AV} {ob':List Ob} (h:tick m=m') (h1:k=k') (h3:ob=ob') : vcDelete P t m k ob KL=vcDelete P t m' k' ob' KL:=by unfold tick at h; rw [h,h1,h3]
@[congr] theorem vcMakeMap_congr {r r':Option AV} {ob':List Ob} (h:tick r=r') (h3:ob=ob') : vcMakeMap P t r ob KL=vcMakeMap P t r' ob' KL:=by unfold tick at h; rw [h,h3]
@[congr] theorem vcRange_congr {x x':AV} {ob':List Ob} (h:tick x=x') (h3:ob=ob') : vcRange P t x ob KL=vcRange P t x' ob' KL:=by unfold tick at h; rw [h,h3]
@[congr] theorem vcNext_congr {x x':AV} {ob':List Ob} (h:tick x=x') (h3:ob=ob') : vcNext x ob KL=vcNext x' ob' KL:=by unfold tick at h; rw [h,h3]
@[congr] theorem vcEntry_congr {x x':AV} {ob':List Ob} (h:tick x=x') (h3:ob=ob') : vcEntry x ob KL=vcEntry x' ob' KL:=by unfold tick at h; rw [h,h3]
@[congr] theorem vcMapEnt_congr {m m' k k':AV} {ob':List Ob} (h:tick m=m') (h1:k=k') (h3:ob=ob') : vcMapEnt P t m k ob KL=vcMapEnt P t m' k' ob' KL:=by unfold tick at h; rw [h,h1,h3]
@[congr] theorem vcEntSt_congr {m m' k k' v v':AV} {ob':List Ob} (h:tick m=m') (h1:k=k') (h2:v=v') (h3:ob=ob') : vcEntSt m k v ob KL=vcEntSt m' k' v' ob' KL:=by unfold tick at h; rw [h,h1,h2,h3]
noncomputable def mentOb (s:Bool × List Lay) (kx z:T) (id:Nat) (ob:List Ob) (K:AV→List Ob→Prop) : Ob→Prop
 | .map a b (.own .leaf) ks vs _ => (∀ y∈ks,isKey s y)∧(kx ∉ ks→ks.length + 1 < Bd.B)∧∀ (n:Int) (v:T),getV ks vs kx z=some v→K (.tp [.t v,.t (.i .i64 n)]) (ob.set id (.map a b (.own .leaf) (updK ks kx) (updV ks vs kx v) (some (n,kx))))
 | _ => False
def onT (x:AV) (A:T→Prop) : Prop:=match x with
 | .t z => A z
 | _ => False
@[congr] theorem onT_congr {x x':AV} {A:T→Prop} (h:tick x=x') : onT x A=onT x' A:=by unfold tick at h; rw [h]
@[congr] theorem vcConvert_congr {d:TypeId} {x x':AV} {ob':List Ob} (h:tick x=x') (h3:ob=ob') : vcConvert P t d ob x KA=vcConvert P t d ob' x' KA:=by unfold tick at h; rw [h,h3]
def onCv (l:Lay) (A:IntKind→Prop) (B:Prop) : Prop:=match l with
 | .int k => A k
 | .str => B
 | _ => False
theorem cv_i {k:IntKind} {A:IntKind→Prop} {B:Prop} : onCv (.int k) A B=A k:=rfl
theorem cv_s {A:IntKind→Prop} {B:Prop} : onCv .str A B=B:=rfl
theorem v_cvi {d:TypeId} {k:IntKind} {n:Int} : vcConvert P t d ob (.t (.i k n)) KA=onCv (lay P d) (fun k'=>lay P t ≠ .oth∧P.underlying d=some (.int k')∧KA (.t (.i k' (k'.wrap n)))) False:=by
 unfold vcConvert onCv
 cases lay P d<;>try rfl
 cases lay P t<;>rfl
theorem v_cvr {d:TypeId} {id:Nat} : vcConvert P t d ob (.sr id) KA=onCv (lay P d) (fun _=>False) (onSli (lay P t) fun e m=>m=1∧lay P e = .int .u8∧onArr ob[id]? fun _ _ _ es=>onSome (bytesOf es) fun l=>KA (.t (.s l))):=by
 unfold vcConvert onCv onSli onArr onSome
 cases lay P d<;>try rfl
 cases lay P t<;>try rfl
 dsimp only
 cases ob[id]? with
 | none => rfl
 | some o =>
   cases o<;>try rfl
   dsimp only
   cases bytesOf _<;>rfl
theorem loth_i {k:IntKind} : (Lay.int k=Lay.oth)=False:=by simp
theorem bo_nil : bytesOf []=some []:=rfl
theorem bo_i {n:Int} {r:List T} : bytesOf (.i .u8 n :: r)=(bytesOf r).map (UInt8.ofNat n.toNat :: ·):=by
 simp only [bytesOf]
 cases bytesOf r<;>rfl
@[congr] theorem vcIface_congr {x x':AV} (h:tick x=x') : vcIface P t x KA=vcIface P t x' KA:=by unfold tick at h; rw [h]
@[congr] theorem vcInv_congr {x x':AV} {nm:String} {xs xs':List AV} {ob':List Ob} (h:tick x=x') (h1:xs=xs') (h3:ob=ob') : vcInv P x nm xs ob KA=vcInv P x' nm xs' ob' KA:=by unfold tick at h; rw [h,h1,h3]
theorem v_ifc {x:AV} : vcIface P t x KA=(P.concrete t=true∧onSome x.shut fun y=>KA (.t (.ifc t y))):=by
 unfold vcIface onSome
 cases x.shut<;>rfl
theorem v_inv {tt:TypeId} {y:T} {nm:String} {xs:List AV} : vcInv P (.t (.ifc tt y)) nm xs ob KA=onSome (methOf P tt nm) fun g=>onSome (seesW (AV.see ob 5) (.t y :: xs)) fun ts=>CallV P g ts (shuts (.t y :: xs)).isSome fun r=>KA (.t r):=by
 unfold vcInv onSome
 dsimp only
 cases methOf P tt nm with
 | none => rfl
 | some g =>
   dsimp only
   cases seesW (AV.see ob 5) (.t y :: xs)<;>rfl
noncomputable def mupOb (s:Bool × List Lay) (kx z:T) (id:Nat) (ob:List Ob) (K:AV→List Ob→Prop) : Ob→Prop
 | .map a b (.own .leaf) ks vs _ => (∀ y∈ks,isKey s y)∧(kx ∉ ks→ks.length + 1 < Bd.B)∧K .ud (ob.set id (.map a b (.own .leaf) (updK ks kx) (updV ks vs kx z) none))
 | _ => False
theorem v_mup {id:Nat} {k v:AV} : vcMapUpd P t (.mr id) k v ob KL=onMapL (lay P t) fun kt _=>onSome k.shut fun kx=>onSome v.shut fun z=>onSome (keyLay P kt) fun s=>isKey s kx∧z.flat=true∧z.one=true∧onSome ob[id]? (mupOb s kx z id ob KL):=by
 unfold vcMapUpd onMapL onSome
 cases lay P t<;>cases k.shut<;>try rfl
 cases v.shut<;>try rfl
 dsimp only
 cases keyLay P _<;>try rfl
 dsimp only
 cases ob[id]? with
 | none => rfl
 | some o => cases o with
   | map a b k ks vs p => cases k with
     | own s => cases s<;>rfl
     | clo => rfl
     | bor => rfl
   | _ => rfl
theorem v_mupo {s:Bool × List Lay} {kx z:T} {id:Nat} {a b:TypeId} {ks vs:List T} {p:Option (Int × T)} : mupOb s kx z id ob KL (.map a b (.own .leaf) ks vs p)=((∀ y∈ks,isKey s y)∧(kx ∉ ks→ks.length + 1 < Bd.B)∧KL .ud (ob.set id (.map a b (.own .leaf) (updK ks kx) (updV ks vs kx z) none))):=rfl
theorem v_mmap0 : vcMakeMap P t none ob KL=onMapL (lay P t) fun kt et=>KL (.mr ob.length) (ob ++ [.map kt et (.own .leaf) [] [] none]):=by
 unfold vcMakeMap onMapL; cases lay P t<;>rfl
theorem y_cell {l:Lay} {x:T} : isKey (false,[l]) x=keyCell l x:=rfl
theorem y_ag {ls:List Lay} {xs:List T} : isKey (true,ls) (.ag xs)=keyCells ls xs:=rfl
theorem yc_i {k k':IntKind} {n:Int} : keyCell (.int k) (.i k' n)=(k'=k):=rfl
theorem yc_s {x:List UInt8} : keyCell .str (.s x)=True:=rfl
theorem ys_nil : keyCells [] []=True:=rfl
theorem ys_cons {l:Lay} {ls:List Lay} {x:T} {xs:List T} : keyCells (l :: ls) (x :: xs)=(keyCell l x∧keyCells ls xs):=rfl
def lookM (s:Bool × List Lay) (z:Value) (kx:T) (ok:Bool) (kd:Kind) (ks vs:List T) (K:AV→Prop) : Prop :=
 (∀ y∈ks,isKey s y)∧(∀ (i:Nat) (v:T),ks[i]? = some kx→vs[i]? = some v→K (if ok=true then .tp [kd.look v,.t (.b true)] else kd.look v))∧(kx ∉ ks→K (if ok=true then .tp [ofV z,.t (.b false)] else ofV z))
def lkOb (s:Bool × List Lay) (z:Value) (kx:T) (ok:Bool) (K:AV→Prop) : Ob→Prop
 | .map _ _ kd ks vs _ => lookM s z kx ok kd ks vs K
 | _ => False
@[congr] theorem lookM_congr {s:Bool × List Lay} {z:Value} {kx kx':T} {ok:Bool} {kd:Kind} {ks ks' vs vs':List T} {K:AV→Prop} (h:tick kx=kx') (h2:ks=ks') (h3:vs=vs') : lookM s z kx ok kd ks vs K=lookM s z kx' ok kd ks' vs' K:=by unfold tick at h; rw [h,h2,h3]
theorem v_lkmr {id:Nat} {k:AV} {ok:Bool} : vcLookup P t (.mr id) k ok ob KA=onMapL (lay P t) fun kt et=>onSome k.shut fun kx=>onSome (keyLay P kt) fun s=>onSome (zeroOf P et) fun z=>isKey s kx∧onSome ob[id]? (lkOb s z kx ok KA):=by
 unfold vcLookup onMapL onSome
 cases lay P t<;>cases k.shut<;>try rfl
 dsimp only
 cases keyLay P _<;>cases zeroOf P _<;>try rfl
 dsimp only
 cases ob[id]? with
 | none => rfl
 | some o => cases o<;>rfl
theorem v_lkom {a b:TypeId} {kd:Kind} {ks vs:List T} {p:Option (Int × T)} {s:Bool × List Lay} {z:Value} {kx:T} {ok:Bool} : lkOb s z kx ok KA (.map a b kd ks vs p)=lookM s z kx ok kd ks vs KA:=rfl
theorem v_lkt {ks vs:List T} {k:AV} {ok:Bool} : vcLookup P t (.t (.mp ks vs)) k ok ob KA=onMapL (lay P t) fun kt et=>onSome k.shut fun kx=>onSome (keyLay P kt) fun s=>onSome (zeroOf P et) fun z=>isKey s kx∧lookM s z kx ok .clo ks vs KA:=by
 unfold vcLookup onMapL onSome
 cases lay P t<;>cases k.shut<;>try rfl
 dsimp only
 cases keyLay P _<;>cases zeroOf P _<;>rfl
theorem v_out0 {σ:St} {K:List AV→Prop} : vcOuts P σ [] K=K []:=rfl
theorem v_outt {σ:St} {i:Nat} {r:List ResultVar} {K:List AV→Prop} : vcOuts P σ (.tmp i :: r) K=vcOuts P σ r fun xs=>K (getL σ.tm i :: xs):=rfl
theorem v_outc {σ:St} {i:Nat} {r:List ResultVar} {K:List AV→Prop} : vcOuts P σ (.cell i t :: r) K=vcLoad P t (getL σ.tm i) σ.ob fun x=>vcOuts P σ r fun xs=>K (x :: xs):=rfl
theorem v_close {N:Nat} {y:AV} {r:T} {obs:List Ob} : vcClose N y ob (.t r) obs=onPair (y.take ob 5) fun r' ids=>nodupB ids=true∧r'=r∧Rest N (killAll ids ob) obs:=by
 unfold vcClose onPair
 dsimp only
 cases y.take ob 5<;>rfl
theorem v_closeo {N:Nat} {y:AV} {obs:List Ob} {i:Nat} : vcClose N y ob (.sr i) obs=Close N y ob (.sr i) obs:=rfl
theorem v_closea {N:Nat} {y:AV} {obs:List Ob} {cs:List AV} : vcClose N y ob (.ag cs) obs=Close N y ob (.ag cs) obs:=rfl
theorem v_closep {N:Nat} {y:AV} {obs:List Ob} {cs:List AV} : vcClose N y ob (.tp cs) obs=Close N y ob (.tp cs) obs:=rfl
theorem v_closef {N:Nat} {y:AV} {obs:List Ob} {i o:Nat} : vcClose N y ob (.rf i o) obs=Close N y ob (.rf i o) obs:=rfl
theorem v_rest0 : Rest 0 ob []=True:=eq_true Rest.nil
@[congr] theorem Close_congr {N:Nat} {y y':AV} {ob':List Ob} {x:AV} {obs:List Ob} (h:tick y=y') (h2:ob=ob') : Close N y ob x obs=Close N y' ob' x obs:=by unfold tick at h; rw [h,h2]
@[congr] theorem vcClose_congr {N:Nat} {y y':AV} {ob':List Ob} {x:AV} {obs:List Ob} (h:tick y=y') (h2:ob=ob') : vcClose N y ob x obs=vcClose N y' ob' x obs:=by unfold tick at h; rw [h,h2]
@[congr] theorem vcOuts_congr {σ σ':St} {r:List ResultVar} {K:List AV→Prop} (h:tick σ=σ') : vcOuts P σ r K=vcOuts P σ' r K:=by unfold tick at h; rw [h]
def onG (x:AV) (b:Bool) (Run Skip:AV→Prop) : Prop :=
 match x with
 | .t (.b x) => if x=true then (if b=true then Run (.t (.b true)) else Skip (.t (.b true))) else (if b=true then Skip (.t (.b false)) else Run (.t (.b false)))
 | .ud => Skip .ud
 | _ => False
@[congr] theorem onG_congr {x':AV} {b:Bool} {R S:AV→Prop} (h:tick x=x') : onG x b R S=onG x' b R S:=by unfold tick at h; rw [h]
theorem g_bt {x:Bool} {R S:AV→Prop} : onG (.t (.b x)) true R S=if x=true then R (.t (.b true)) else S (.t (.b false)):=by cases x<;>rfl
theorem g_bf {x:Bool} {R S:AV→Prop} : onG (.t (.b x)) false R S=if x=true then S (.t (.b true)) else R (.t (.b false)):=by cases x<;>rfl
theorem g_ud {b:Bool} {R S:AV→Prop} : onG .ud b R S=S .ud:=rfl
def onPick (c x y:AV) (K:AV→Prop) : Prop:=match c with
 | .t (.b v) => K (if v=true then x else y)
 | _ => False
@[congr] theorem onPick_congr {c c' x x' y y':AV} {K:AV→Prop} (h:tick c=c') (h2:x=x') (h3:y=y') : onPick c x y K=onPick c' x' y' K:=by unfold tick at h; rw [h,h2,h3]
theorem p_b {v:Bool} {y:AV} {K:AV→Prop} : onPick (.t (.b v)) x y K=if v=true then K x else K y:=by cases v<;>rfl
end
section
variable {P:Program} {σ:St} {n:Nat} {tm:List (Nat × AV)} {ob:List Ob} {all:Array Oper} {rest:List Oper} {KS:St→Prop} {K:AV→List Ob→Prop} {KA:AV→Prop} {e:Operand→AV}
 {d:Option Nat} {op:Op} {ty t t':TypeId} {ps:String} {af:Array Edge} {x y p:Operand} {k:Kont}
theorem e_nil : vcOps P all [] σ KS=KS σ:=rfl
theorem e_cons : vcOps P all (⟨d,op,ty,ps,af,none⟩ :: rest) σ KS=(dstOk σ.n d∧vcOp P σ op fun x ob=>vcOps P all rest (({ σ with ob:=ob } : St).set d x) KS):=rfl
theorem guard_on {l:List Oper} {j:Nat} {b:Bool} {R S:St→Prop} : vcGuard ⟨l⟩ σ ⟨d,op,ty,ps,af,some (j,b)⟩ R S=onSome (dstAt l j) fun m=>onG (getL σ.tm m) b (fun y=>R (σ.set (some m) y)) (fun y=>S (σ.set (some m) y)):=by
 rw [← dstAt_eq]
 simp only [vcGuard]
 cases ((l.toArray)[j]?).bind (·.dst) with
 | none => rfl
 | some m =>
   simp only [onSome]
   cases getL σ.tm m<;>rfl
theorem e_consg {l:List Oper} {j:Nat} {b:Bool} : vcOps P ⟨l⟩ (⟨d,op,ty,ps,af,some (j,b)⟩ :: rest) σ KS=(dstOk σ.n d∧onSome (dstAt l j) fun m=>onG (getL σ.tm m) b
 (fun y=>vcOp P (σ.set (some m) y) op (fun x ob=>vcOps P ⟨l⟩ rest ((⟨(σ.set (some m) y).n,(σ.set (some m) y).tm,ob⟩ : St).set d x) KS)) (fun y=>vcOps P ⟨l⟩ rest ((σ.set (some m) y).set d .ud) KS)):=congrArg (dstOk σ.n d∧·) (guard_on (σ:=σ) (R:=fun σ=>vcOp P σ op fun x ob=>vcOps P ⟨l⟩ rest (({ σ with ob:=ob } : St).set d x) KS) (S:=fun σ=>vcOps P ⟨l⟩ rest (σ.set d .ud) KS))
theorem e_setS {v:AV} {m:Nat} : St.set ⟨n,tm,ob⟩ (some m) v=⟨n,(m,v) :: tm,ob⟩:=rfl
theorem e_setN {v:AV} : σ.set none v=σ:=rfl
theorem e_dstS {m:Nat} : dstOk n (some m)=(m < n):=rfl
theorem e_dstN : dstOk n none=True:=rfl
theorem e_opdT {m:Nat} : St.opd ⟨n,tm,ob⟩ (.tmp m)=getL tm m:=rfl
theorem e_opdC {v:Value} : σ.opd (.const v)=ofV v:=rfl
theorem e_opdF {f:FuncId} (h:f < 1000000) : σ.opd (.func f) = .fn f []:=if_pos h
theorem e_get1 {v:AV} {m m':Nat} : getL ((m',v) :: tm) m=if m=m' then v else getL tm m:=id rfl
theorem e_vb {b:Bool} : ofV (.bool b) = .t (.b b):=rfl
theorem e_vi {i:IntKind} {m:Int} : ofV (.int i m) = .t (.i i m):=rfl
theorem e_vs {l:List UInt8} : ofV (.string ⟨⟨l⟩⟩)=if l.length < 1000 then .t (.s l) else .un:=rfl
theorem e_ss {l:List UInt8} : ofS (.string ⟨⟨l⟩⟩)=if l.length < 1000 then .t (.s l) else .un:=rfl
theorem e_vnil : ofV (.slice none 0 0) = .ns:=rfl
theorem e_vp : ofV (.pointer none) = .t .np:=rfl
theorem e_vag {cs:Array Value} : ofV (.agg cs) = .ag (cs.toList.map ofS):=rfl
theorem e_sb {b:Bool} : ofS (.bool b) = .t (.b b):=rfl
theorem e_si {i:IntKind} {m:Int} : ofS (.int i m) = .t (.i i m):=rfl
theorem e_snil : ofS (.slice none 0 0) = .ns:=rfl
theorem e_sm : ofS (.map none) = .t .nm:=rfl
theorem o_box : vcOp P σ (.box t x) K=K (.rf σ.ob.length 0) (σ.ob ++ [.box (σ.opd x)]):=rfl
theorem o_alloc : vcOp P σ (.alloc t) K=match zeroOf P t with
 | some z => K (.rf σ.ob.length 0) (σ.ob ++ [.box (ofV z)])
 | none => False:=rfl
theorem o_store : vcOp P σ (.store t p x) K=vcStore P t (σ.opd p) (σ.opd x) σ.ob K:=rfl
theorem o_bs {m:Nat} {parts:Array (Nat × Operand)} : vcOp P σ (.buildSlice t m parts) K=vcBuildSlice P t m (parts.toList.map (·.1)) (parts.toList.map fun p=>σ.opd p.2) σ.ob K:=rfl
theorem o_move : vcOp P σ (.move x) K=K (σ.opd x) σ.ob:=rfl
theorem o_assign : vcOp P σ (.assign x) K=K (σ.opd x) σ.ob:=rfl
theorem o_pick : vcOp P σ (.pick x y p) K=onPick (σ.opd x) (σ.opd y) (σ.opd p) fun r=>K r σ.ob:=rfl
theorem o_load : vcOp P σ (.load t x) K=vcLd P t (σ.opd x) σ.tm σ.ob K:=rfl
@[congr] theorem vcNb_congr {b:BinOp} {t:TypeId} {x x':AV} {y y':AV} {K:AV→Prop} (h0:tick x=x') (h1:y=y') : vcNb P b t x y K=vcNb P b t x' y' K:=by unfold tick at h0; rw [h0,h1]
theorem o_bin {b:BinOp} {ps:TypeId} : vcOp P σ (.binOp b t x y ps) K=vcNb P b t (σ.opd x) (σ.opd y) fun r=>K r σ.ob:=rfl
theorem nb_t {b:BinOp} {t:TypeId} {x:AV} {z:T} {K:AV→Prop} : vcNb P b t x (.t z) K=vcBs P b t x (.t z) K:=by
 unfold vcNb; split<;>first | rfl | simp_all
@[congr] theorem vcBs_congr {b:BinOp} {t:TypeId} {x x':AV} {y y':AV} {K:AV→Prop} (h0:tick x=x') (h1:y=y') : vcBs P b t x y K=vcBs P b t x' y' K:=by unfold tick at h0; rw [h0,h1]
theorem bs_i {b:BinOp} {t:TypeId} {x:AV} {k:IntKind} {n:Int} {K:AV→Prop} : vcBs P b t x (.t (.i k n)) K=vcBin P b t x (.t (.i k n)) K:=by unfold vcBs; split<;>first | rfl | simp_all
theorem bs_s {b:BinOp} {t:TypeId} {x:AV} {n:List UInt8} {K:AV→Prop} : vcBs P b t x (.t (.s n)) K=vcBin P b t x (.t (.s n)) K:=by unfold vcBs; split<;>first | rfl | simp_all
theorem bs_b {b:BinOp} {t:TypeId} {x:AV} {n:Bool} {K:AV→Prop} : vcBs P b t x (.t (.b n)) K=vcBin P b t x (.t (.b n)) K:=by unfold vcBs; split<;>first | rfl | simp_all
theorem bs_np {b:BinOp} {t:TypeId} {x:AV} {K:AV→Prop} : vcBs P b t x (.t .np) K=vcBin P b t x (.t .np) K:=by unfold vcBs; split<;>first | rfl | simp_all
theorem bs_ag {b:BinOp} {t:TypeId} {xs ys:List T} {K:AV→Prop} : vcBs P b t (.t (.ag xs)) (.t (.ag ys)) K=onSome (keyLay P t) fun s=>isKey s (.ag xs)∧isKey s (.ag ys)∧P.eqGuardType P.depth t=false∧eqKK b (.ag xs) (.ag ys) K:=by unfold vcBs onSome; cases keyLay P t<;>rfl
theorem kk_n {x y:T} {K:AV→Prop} : eqKK .neq x y K=K (.t (.b (@decide (x≠y) (Classical.propDecidable _)))):=rfl
theorem nb_sl {t:TypeId} {es:List T} {K:AV→Prop} : vcNb P .eql t (.t (.sl es)) .ns K=onSli (lay P t) fun _ _=>(es=[]→K (.t (.b true)))∧K (.t (.b false)):=by
 unfold vcNb onSli nilK; cases lay P t<;>simp
theorem o_un {b:UnOp} : vcOp P σ (.unOp b t x) K=vcUn b (σ.opd x) fun r=>K r σ.ob:=rfl
theorem o_fa {m:Nat} : vcOp P σ (.fieldAddr t x m) K=vcField P t m (σ.opd x) fun r=>K r σ.ob:=rfl
theorem o_ia : vcOp P σ (.indexAddr t x y) K=vcIndexAddr P t σ.ob (σ.opd x) (σ.opd y) fun r=>K r σ.ob:=rfl
theorem o_ix : vcOp P σ (.index t x y) K=vcIndex P t (σ.opd x) (σ.opd y) fun r=>K r σ.ob:=rfl
theorem o_slS {lo:Operand} {hi:Option Operand} : vcOp P σ (.slice t x (some lo) hi none) K=vcSlv P t σ.ob (σ.opd x) (some (σ.opd lo)) (hi.map σ.opd) fun r=>K r σ.ob:=rfl
theorem o_slH {hi:Operand} : vcOp P σ (.slice t x none (some hi) none) K=vcSl3 P t (σ.opd x) (σ.opd hi) σ.ob K:=rfl
theorem o_ext {m:Nat} : vcOp P σ (.extract x m) K=vcExtract (σ.opd x) m fun r=>K r σ.ob:=rfl
theorem o_nil : vcOp P σ (.nilCheck x) K=((σ.opd x).notNil=true∧K (σ.opd x) σ.ob):=rfl
theorem o_lookup {ok:Bool} : vcOp P σ (.lookup t x y ok) K=vcLookup P t (σ.opd x) (σ.opd y) ok σ.ob fun r=>K r σ.ob:=rfl
theorem o_build {parts:Array (Nat × Operand)} : vcOp P σ (.build t parts) K=vcBuild P t (parts.toList.map fun p=>(p.1,σ.opd p.2)) fun r=>K r σ.ob:=rfl
theorem o_call {args:Array Operand} {ats:Array TypeId} : vcOp P σ (.call ⟨.value x,args,ats⟩) K=vcCallO P (σ.opd x) (args.toList.map σ.opd) σ.tm σ.ob K:=rfl
theorem o_mup : vcOp P σ (.mapUpdate t x y p) K=vcMapUpd P t (σ.opd x) (σ.opd y) (σ.opd p) σ.ob K:=rfl
theorem o_ifc : vcOp P σ (.makeInterface t x) K=vcIface P t (σ.opd x) fun r=>K r σ.ob:=rfl
theorem o_inv {nm:String} {xs:Array Operand} {ts:Array TypeId} : vcOp P σ (.call ⟨.invoke x nm,xs,ts⟩) K=vcInv P (σ.opd x) nm (xs.toList.map σ.opd) σ.ob fun r=>K r σ.ob:=rfl
theorem o_cvt {d:TypeId} : vcOp P σ (.convert t d x) K=vcConvert P t d σ.ob (σ.opd x) fun r=>K r σ.ob:=rfl
theorem o_mm0 : vcOp P σ (.makeMap t none) K=vcMakeMap P t none σ.ob K:=rfl
theorem o_len : vcOp P σ (.call ⟨.builtin .len,#[x],#[t]⟩) K=vcLen P t σ.ob (σ.opd x) fun r=>K r σ.ob:=rfl
theorem o_app : vcOp P σ (.call ⟨.builtin .append,#[x,y],#[t,t']⟩) K=(t=t' ∧ vcAppend P t (σ.opd x) (σ.opd y) σ.ob K):=rfl
theorem l_cvt {d:TypeId} : vcLook P ob e (.convert t d x) KA=vcConvert P t d ob (e x) KA:=rfl
theorem l_move : vcLook P ob e (.move x) KA=KA (e x):=rfl
theorem l_assign : vcLook P ob e (.assign x) KA=KA (e x):=rfl
theorem l_pick : vcLook P ob e (.pick x y p) KA=onPick (e x) (e y) (e p) KA:=rfl
theorem l_load : vcLook P ob e (.load t x) KA=vcLoad P t (e x) ob KA:=rfl
theorem l_bin {b:BinOp} {ps:TypeId} : vcLook P ob e (.binOp b t x y ps) KA=vcBs P b t (e x) (e y) KA:=rfl
theorem l_un {b:UnOp} : vcLook P ob e (.unOp b t x) KA=vcUn b (e x) KA:=rfl
theorem l_fa {m:Nat} : vcLook P ob e (.fieldAddr t x m) KA=vcField P t m (e x) KA:=rfl
theorem l_ia : vcLook P ob e (.indexAddr t x y) KA=vcIndexAddr P t ob (e x) (e y) KA:=rfl
theorem l_sl {lo hi:Option Operand} : vcLook P ob e (.slice t x lo hi none) KA=vcSlv P t ob (e x) (lo.map e) (hi.map e) KA:=rfl
theorem l_ext {m:Nat} : vcLook P ob e (.extract x m) KA=vcExtract (e x) m KA:=rfl
theorem l_nil : vcLook P ob e (.nilCheck x) KA=((e x).notNil=true∧KA (e x)):=rfl
theorem l_lookup {ok:Bool} : vcLook P ob e (.lookup t x y ok) KA=vcLookup P t (e x) (e y) ok ob KA:=rfl
theorem l_fld {s f:Nat} : vcLook P ob e (.field s x f) KA=vcFld P s f (e x) KA:=rfl
theorem l_build {parts:Array (Nat × Operand)} : vcLook P ob e (.build t parts) KA=vcBuild P t (parts.toList.map fun p=>(p.1,e p.2)) KA:=rfl
theorem l_call {args:Array Operand} {ats:Array TypeId} : vcLook P ob e (.call ⟨.value x,args,ats⟩) KA=vcCall P (e x) (args.toList.map e) ob KA:=rfl
theorem l_len : vcLook P ob e (.call ⟨.builtin .len,#[x],#[t]⟩) KA=vcLen P t ob (e x) KA:=rfl
variable {N:Nat} {D:DD}
theorem w_skip : W P N D .skip k σ=k .nrm σ:=rfl
theorem w_reg {id:Nat} {ops:List Oper} : W P N D (.region id ⟨ops⟩ false) k σ=stopW (stopD (D id)) (WL P N (.region id ⟨ops⟩ false) k σ) (vcOps P ⟨ops⟩ ops σ (k .nrm)):=rfl
@[congr] theorem stopW_congr {b b':Bool} {A B:Prop} (h:tick b=b') : stopW b A B=stopW b' A B:=by unfold tick at h; rw [h]
theorem stw_t {A B:Prop} : stopW true A B=A:=rfl
theorem stw_f {A B:Prop} : stopW false A B=B:=rfl
theorem stop_d {m:Nat} {es:List (Bool × Nat)} : stopD (m,es)=(m == 999999):=rfl
theorem w_draw {id:Nat} {ops:List Oper} : W P N D (.region id ⟨ops⟩ true) k σ=stopW (stopD (D id)) (WL P N (.region id ⟨ops⟩ true) k σ) (vcDq P ⟨ops⟩ (D id) ops σ (k .nrm)):=rfl
@[congr] theorem vcDq_congr {all:Array Oper} {kd kd':Nat × List (Bool × Nat)} {os:List Oper} {σ σ':St} {K:St→Prop} (h:tick kd=kd') (h2:σ=σ') : vcDq P all kd os σ K=vcDq P all kd' os σ' K:=by unfold tick at h; rw [h,h2]
@[congr] theorem vcDz_congr {all:Array Oper} {B B':Nat} {es:List (Bool × Nat)} {m m':Nat} {os:List Oper} {σ σ':St} {K:St→Prop} (h:tick m=m') (h2:σ=σ') (h3:B=B') : vcDz P all B es m os σ K=vcDz P all B' es m' os σ' K:=by unfold tick at h; rw [h,h2,h3]
@[congr] theorem vcDm_congr {all:Array Oper} {B:Nat} {es:List (Bool × Nat)} {os:List Oper} {σ σ':St} {K:St→Prop} (h:tick σ=σ') : vcDm P all B es os σ K=vcDm P all B es os σ' K:=by unfold tick at h; rw [h]
@[congr] theorem opAt_congr {l:List Oper} {j j':Nat} (h:tick j=j') : opAt l j=opAt l j':=by unfold tick at h; rw [h]
theorem oa_zero {o:Oper} {os:List Oper} : opAt (o :: os) 0=some o:=rfl
theorem oa_succ {o:Oper} {os:List Oper} {j:Nat} : opAt (o :: os) (j + 1)=opAt os j:=rfl
theorem q_n {m:Nat} {os:List Oper} : vcDq P all (m,[]) os σ KS=vcDr P all m os σ KS:=rfl
theorem q_m {m:Nat} {e:Bool × Nat} {es:List (Bool × Nat)} {os:List Oper} : vcDq P all (m,e :: es) os σ KS=stopW (decide (2000000≤m)) (vcDyR P all (m - 2000000) (prs (e :: es) []) σ KS) (vcDz P all σ.ob.length (e :: es) m os σ KS):=rfl
@[congr] theorem vcDyR_congr {n0 n0':Nat} {hs hs':List (List Nat × Nat)} {σ σ':St} {K:St→Prop} (h:tick n0=n0') (h2:hs=hs') (h3:σ=σ') : vcDyR P all n0 hs σ K=vcDyR P all n0' hs' σ' K:=by unfold tick at h; rw [h,h2,h3]
@[congr] theorem vcDy_congr {hs:List (List Nat × Nat)} {os:List Oper} {s s':Nat} {σ σ':St} {K:St→Prop} (h:tick s=s') (h2:σ=σ') : vcDy P all hs os s σ K=vcDy P all hs os s' σ' K:=by unfold tick at h; rw [h,h2]
theorem dy_r {l:List Oper} {n0 n:Nat} {tm:List (Nat × AV)} {ob:List Ob} {hs:List (List Nat × Nat)} : vcDyR P ⟨l⟩ n0 hs ⟨n,tm,ob⟩ KS=(ob.length=n0∧noMh ob=true∧vcDy P ⟨l⟩ hs l n0 ⟨n,tm,ob ++ deads (mks hs)⟩ KS):=rfl
theorem dy_nil {s:Nat} {os:List Oper} : vcDy P all [] os s σ KS=vcOps P all os σ KS:=by cases os<;>rfl
theorem dy_0 {H:List Nat} {hs:List (List Nat × Nat)} {os:List Oper} {s:Nat} : vcDy P all ((H,0) :: hs) (⟨d,op,ty,ps,af,none⟩ :: os) s σ KS=(dstOk σ.n d∧vcLook P (killAll H σ.ob) σ.opd op fun x=>(x.under s=true∧avoidH H x=true)∧vcDy P all hs os s (σ.set d x) KS):=rfl
theorem dy_2 {H:List Nat} {hs:List (List Nat × Nat)} {os:List Oper} {s id:Nat} : vcDy P all ((H,id + 2) :: hs) (⟨d,op,ty,ps,af,none⟩ :: os) s σ KS=(dstOk σ.n d∧vcSt1 P σ.opd op id σ.ob[id]? fun y=>(y.under s=true∧avoidH H y=true)∧vcDy P all hs os s ((⟨σ.n,σ.tm,σ.ob.set id (.box y)⟩ : St).set d .ud) KS):=by
 simp [vcDy]
@[congr] theorem vcMk1_congr {e:Operand→AV} {op:Op} {id id':Nat} {K:AV→Ob→Prop} (h:tick id=id') : vcMk1 P e op id K=vcMk1 P e op id' K:=by unfold tick at h; rw [h]
@[congr] theorem vcSt1_congr {e:Operand→AV} {op:Op} {id id':Nat} {o o':Option Ob} {K:AV→Prop} (h:tick id=id') (h2:o=o') : vcSt1 P e op id o K=vcSt1 P e op id' o' K:=by unfold tick at h; rw [h,h2]
def st1K (P:Program) (t:TypeId) (p x:AV) (id:Nat) (y:AV) (K:AV→Prop) : Prop:=match p with
 | .rf i off => i=id∧y ≠ .un∧x ≠ .un∧allOne x.cells=true∧P.cellsOf t=x.cells.length∧off + x.cells.length≤y.cells.length∧x.cells.length≠0∧K (if off=0∧y.cells.length=x.cells.length∧x.isAg=y.isAg then x else .ag (segA y.cells off x.cells))
 | _ => False
@[congr] theorem st1K_congr {t:TypeId} {p p' x x' y y':AV} {id id':Nat} {K:AV→Prop} (h:tick p=p') (h2:x=x') (h3:id=id') (h4:y=y') : st1K P t p x id y K=st1K P t p' x' id' y' K:=by unfold tick at h; rw [h,h2,h3,h4]
theorem s1_st {e:Operand→AV} {id:Nat} {o:Option Ob} {K:AV→Prop} : vcSt1 P e (.store t x y) id o K=onBox o fun z=>st1K P t (e x) (e y) id z K:=by
 simp only [vcSt1,onBox]
 cases o with
 | none => rfl
 | some o =>
   cases o<;>try rfl
   dsimp only [st1K]
   split
   ·rename_i i off hp
    rw [hp]
    refine propext ⟨?_,?_⟩
    ·rintro ⟨off',h,r⟩
     cases h
     exact ⟨rfl,r⟩
    ·rintro ⟨rfl,r⟩
     exact ⟨off,rfl,r⟩
   ·rename_i hp
    refine propext ⟨?_,fun h=>h.elim⟩
    rintro ⟨off',h,r⟩
    exact hp _ _ h
theorem s1_rf {i off id:Nat} {x y:AV} {K:AV→Prop} : st1K P t (.rf i off) x id y K=(i=id∧y ≠ .un∧x ≠ .un∧allOne x.cells=true∧P.cellsOf t=x.cells.length∧off + x.cells.length≤y.cells.length∧x.cells.length≠0∧K (if off=0∧y.cells.length=x.cells.length∧x.isAg=y.isAg then x else .ag (segA y.cells off x.cells))):=rfl
theorem ah_nil {x:AV} : avoidH [] x=true:=rfl
theorem ah_cons {s:Nat} {H:List Nat} {x:AV} : avoidH (s :: H) x=(x.avoid s && avoidH H x):=rfl
theorem av_t {s:Nat} {y:T} : AV.avoid s (.t y)=true:=rfl
theorem nmh_nil : noMh []=true:=rfl
theorem nmh_b {x:AV} {os:List Ob} : noMh (.box x :: os)=noMh os:=rfl
theorem mks_nil : mks []=0:=rfl
theorem mks_0 {H:List Nat} {hs:List (List Nat × Nat)} : mks ((H,0) :: hs)=mks hs:=by simp [mks]
theorem mks_2 {H:List Nat} {id:Nat} {hs:List (List Nat × Nat)} : mks ((H,id + 2) :: hs)=mks hs:=by simp [mks]
theorem z_zero {B:Nat} {es:List (Bool × Nat)} {os:List Oper} : vcDz P all B es 0 os σ KS=vcDm P all B es os σ KS:=rfl
theorem z_succ {B:Nat} {es:List (Bool × Nat)} {m:Nat} {o:Oper} {os:List Oper} : vcDz P all B es (m + 1) (o :: os) σ KS=vcDz P all B es m os σ KS:=rfl
def mtK (P:Program) (all:Array Oper) (B:Nat) (js:List (Bool × Nat)) (rest:List Oper) (σ:St) (KS:St→Prop) (o:Oper) : Prop :=
 o.guard=none∧dstOk σ.n o.dst∧vcMk P B σ.ob σ.opd o.op fun x ob=>vcDm P all B js rest (({ σ with ob:=ob } : St).set o.dst x) KS
def mfK (P:Program) (all:Array Oper) (B:Nat) (js:List (Bool × Nat)) (rest:List Oper) (σ:St) (KS:St→Prop) (o:Oper) : Prop :=
 dstOk σ.n o.dst∧vcGuard all σ o (fun σ=>vcLook P σ.ob σ.opd o.op fun x=>vcDm P all B js rest (σ.set o.dst x) KS) (fun σ=>vcDm P all B js rest (σ.set o.dst .ud) KS)
@[congr] theorem mtK_congr {B:Nat} {js:List (Bool × Nat)} {os:List Oper} {σ σ':St} {o:Oper} (h:tick σ=σ') : mtK P all B js os σ KS o=mtK P all B js os σ' KS o:=by unfold tick at h; rw [h]
@[congr] theorem mfK_congr {B:Nat} {js:List (Bool × Nat)} {os:List Oper} {σ σ':St} {o:Oper} (h:tick σ=σ') : mfK P all B js os σ KS o=mfK P all B js os σ' KS o:=by unfold tick at h; rw [h]
theorem m_nil {B:Nat} {os:List Oper} : vcDm P all B [] os σ KS=vcOps P all os σ KS:=rfl
theorem m_t {B:Nat} {l:List Oper} {i:Nat} {js:List (Bool × Nat)} {os:List Oper} : vcDm P ⟨l⟩ B ((true,i) :: js) os σ KS=onSome (opAt l i) (mtK P ⟨l⟩ B js os σ KS):=by
 simp only [vcDm,onSome,mtK]
 cases opAt l i<;>simp
theorem m_f {B:Nat} {l:List Oper} {i:Nat} {js:List (Bool × Nat)} {os:List Oper} : vcDm P ⟨l⟩ B ((false,i) :: js) os σ KS=onSome (opAt l i) (mfK P ⟨l⟩ B js os σ KS):=by
 simp only [vcDm,onSome,mfK]
 cases opAt l i<;>simp
theorem mt_op {B:Nat} {js:List (Bool × Nat)} {os:List Oper} : mtK P all B js os σ KS ⟨d,op,ty,ps,af,none⟩=(dstOk σ.n d∧vcMk P B σ.ob σ.opd op fun x ob=>vcDm P all B js os ((⟨σ.n,σ.tm,ob⟩ : St).set d x) KS):=by
 simp [mtK]
theorem mf_op {B:Nat} {js:List (Bool × Nat)} {os:List Oper} : mfK P all B js os σ KS ⟨d,op,ty,ps,af,none⟩=(dstOk σ.n d∧vcLook P σ.ob σ.opd op fun x=>vcDm P all B js os (σ.set d x) KS):=rfl
variable {KM:AV→List Ob→Prop}
@[congr] theorem vcMk_congr {B:Nat} {ob ob':List Ob} {e:Operand→AV} {op:Op} (h:tick ob=ob') : vcMk P B ob e op KM=vcMk P B ob' e op KM:=by unfold tick at h; rw [h]
@[congr] theorem vcMkC_congr {f f':AV} {xs xs':List AV} {ob ob':List Ob} (h0:tick f=f') (h1:xs=xs') (h2:ob=ob') : vcMkC P f xs ob KM=vcMkC P f' xs' ob' KM:=by unfold tick at h0; rw [h0,h1,h2]
@[congr] theorem Mkx_congr {g:FuncId} {ts ts':Option (List T)} {sh sh':Bool} {ob ob':List Ob} (h0:tick ts=ts') (h1:sh=sh') (h2:ob=ob') : Mkx P g ts sh ob KM=Mkx P g ts' sh' ob' KM:=by unfold tick at h0; rw [h0,h1,h2]
@[congr] theorem newOb_congr {ob ob' ob1 ob1':List Ob} {K:List Ob→Prop} (h0:tick ob=ob1) (h1:ob'=ob1') : newOb ob ob' K=newOb ob1 ob1' K:=by unfold tick at h0; rw [h0,h1]
theorem nb_nil {ob:List Ob} {K:List Ob→Prop} : newOb [] ob K=K ob:=rfl
theorem nb_cons {o:Ob} {ob ob':List Ob} {K:List Ob→Prop} : newOb (o :: ob) (o :: ob') K=newOb ob ob' K:=by simp [newOb]
theorem mk_call {B:Nat} {ob:List Ob} {e:Operand→AV} {args:Array Operand} {ats:Array TypeId} : vcMk P B ob e (.call ⟨.value x,args,ats⟩) KM=vcMkC P (e x) (args.toList.map e) ob KM:=rfl
theorem mk_fn {ob:List Ob} {f:FuncId} {caps xs:List AV} (h:f < 1000000) : vcMkC P (.fn f caps) xs ob KM=Mkx P f (seesW (AV.see ob 5) (xs ++ caps)) (shuts (xs ++ caps)).isSome ob KM:=by unfold vcMkC; simp only [calleeOf,calleeI,if_pos h]
theorem mk_bs {B:Nat} {ob:List Ob} {e:Operand→AV} {n:Nat} {parts:Array (Nat × Operand)} : vcMk P B ob e (.buildSlice t n parts) KM=vcBuildSlice P t n (parts.toList.map (·.1)) (parts.toList.map fun p=>e p.2) ob fun x ob'=>newOb (ob.take B) ob' fun _=>KM x ob':=rfl
theorem mk_alloc {B:Nat} {ob:List Ob} {e:Operand→AV} : vcMk P B ob e (.alloc t) KM=onSome (zeroOf P t) fun z=>KM (.rf ob.length 0) (ob ++ [.box (ofV z)]):=by
 simp only [vcMk,onSome]; cases zeroOf P t<;>rfl
def mkSt (P:Program) (t:TypeId) (p x:AV) (ob:List Ob) (K:AV→List Ob→Prop) : Prop :=
 match p with
 | .rf id off => vcStore P t (.rf id off) x ob K
 | .ra id i m off => match ob[id]? with
   | some (.arr ..) => vcStore P t (.ra id i m off) x ob K
   | _ => False
 | _ => False
@[congr] theorem mkSt_congr {p p' x x':AV} {ob ob':List Ob} (h0:tick p=p') (h1:x=x') (h2:ob=ob') : mkSt P t p x ob KM=mkSt P t p' x' ob' KM:=by unfold tick at h0; rw [h0,h1,h2]
theorem mk_app {B:Nat} {ob:List Ob} {e:Operand→AV} : vcMk P B ob e (.call ⟨.builtin .append,#[x,y],#[t,t]⟩) KM=vcAppend P t (e x) (e y) ob KM:=by
 simp [vcMk]
theorem mk_st {B:Nat} {ob:List Ob} {e:Operand→AV} : vcMk P B ob e (.store t x y) KM=mkSt P t (e x) (e y) ob KM:=rfl
theorem mk_str {ob:List Ob} {id off:Nat} {z:AV} : mkSt P t (.rf id off) z ob KM=vcStore P t (.rf id off) z ob KM:=rfl
theorem w_seq {x y:Code} : W P N D (.seq x y) k σ=stopW (stopD (D (1000000 + hdC y))) (WL P N (.seq x y) k σ) (W P N D x (seqW P N D y k) σ):=rfl
@[congr] theorem hdC_congr {c:Code} : hdC c=hdC c:=rfl
theorem hd_reg {id:Nat} {ops:Array Oper} {b:Bool} : hdC (.region id ops b)=id:=rfl
theorem hd_seq {x y:Code} : hdC (.seq x y)=hdC x:=rfl
theorem hd_blk {id:Nat} {c:Code} : hdC (.block id c)=hdC c:=rfl
theorem hd_loop {c:Code} : hdC (.loop c)=hdC c:=rfl
theorem hd_skip : hdC .skip=888888:=rfl
theorem hd_cond {o:Operand} {x y:Code} : hdC (.cond o x y)=888888:=rfl
theorem hd_ret : hdC .ret=888888:=rfl
theorem w_cond {c:Operand} {x y:Code} : W P N D (.cond c x y) k σ=vcCond (σ.opd c) (W P N D x k σ) (W P N D y k σ):=rfl
theorem w_block {id:Nat} {c:Code} : W P N D (.block id c) k σ=W P N D c (blockK id k) σ:=rfl
theorem w_exit {id:Nat} : W P N D (.exit id) k σ=k (.ex id) σ:=rfl
theorem w_ret : W P N D .ret k σ=k .ret σ:=rfl
theorem w_loop {c:Code} : W P N D (.loop c) k σ=WL P N (.loop c) k σ:=rfl
theorem r_nil0 {os:List Oper} : vcDr P all 0 os σ KS=vcOps P all os σ KS:=rfl
theorem r_cons {m:Nat} : vcDr P all (m + 1) (⟨d,op,ty,ps,af,none⟩ :: rest) σ KS=(dstOk σ.n d∧vcLook P σ.ob σ.opd op fun x=>vcDr P all m rest (σ.set d x) KS):=rfl
theorem r_consg {l:List Oper} {m j:Nat} {b:Bool} : vcDr P ⟨l⟩ (m + 1) (⟨d,op,ty,ps,af,some (j,b)⟩ :: rest) σ KS=(dstOk σ.n d∧onSome (dstAt l j) fun i=>onG (getL σ.tm i) b
 (fun y=>vcLook P (σ.set (some i) y).ob (σ.set (some i) y).opd op (fun x=>vcDr P ⟨l⟩ m rest ((σ.set (some i) y).set d x) KS)) (fun y=>vcDr P ⟨l⟩ m rest ((σ.set (some i) y).set d .ud) KS)):=congrArg (dstOk σ.n d∧·) (guard_on (σ:=σ) (R:=fun σ=>vcLook P σ.ob σ.opd op fun x=>vcDr P ⟨l⟩ m rest (σ.set d x) KS) (S:=fun σ=>vcDr P ⟨l⟩ m rest (σ.set d .ud) KS))
@[congr] theorem seqW_congr {N:Nat} {D:DD} {c:Code} {k:Kont} {e:Ex} {σ σ':St} (h:tick σ=σ') : seqW P N D c k e σ=seqW P N D c k e σ':=by unfold tick at h; rw [h]
@[congr] theorem scopeK_congr {k:Kont} {e:Ex} {σ σ':St} (h:tick σ=σ') : scopeK k e σ=scopeK k e σ':=by unfold tick at h; rw [h]
@[congr] theorem blockK_congr {i:Nat} {k:Kont} {e:Ex} {σ σ':St} (h:tick σ=σ') : blockK i k e σ=blockK i k e σ':=by unfold tick at h; rw [h]
@[congr] theorem loopK_congr {N:Nat} {ι:Type} {I:ι→Prop} {s:ι→St} {μ:ι→Nat} {i:ι} {k:Kont} {e:Ex} {σ σ':St} (h:tick σ=σ') : loopK N I s μ i k e σ=loopK N I s μ i k e σ':=by unfold tick at h; rw [h]
@[congr] theorem cutK_congr {N:Nat} {ι:Type} {I:ι→Prop} {s:ι→St} {k:Kont} {e:Ex} {σ σ':St} (h:tick σ=σ') : cutK N I s k e σ=cutK N I s k e σ':=by unfold tick at h; rw [h]
@[congr] theorem retK_congr {N:Nat} {outs:List ResultVar} {x:AV} {obs:List Ob} {e:Ex} {σ σ':St} (h:tick σ=σ') : retK P N outs x obs e σ=retK P N outs x obs e σ':=by unfold tick at h; rw [h]
theorem k_seqn {c:Code} {σ:St} : seqW P N D c k .nrm σ=W P N D c k σ:=rfl
theorem k_seqr {c:Code} {σ:St} : seqW P N D c k .ret σ=k .ret σ:=rfl
theorem k_seqx {c:Code} {σ:St} {i:Nat} : seqW P N D c k (.ex i) σ=k (.ex i) σ:=rfl
theorem k_condt {b:Bool} {A B:Prop} : vcCond (.t (.b b)) A B=if b=true then A else B:=rfl
theorem k_blkn {σ:St} {i:Nat} : blockK i k .nrm σ=k .nrm σ:=rfl
theorem k_blkr {σ:St} {i:Nat} : blockK i k .ret σ=k .ret σ:=rfl
theorem k_blkx {σ:St} {i j:Nat} : blockK i k (.ex j) σ=if j=i then k .nrm σ else k (.ex j) σ:=rfl
theorem k_loopr {ι:Type} {I:ι→Prop} {s:ι→St} {μ:ι→Nat} {i:ι} : loopK N I s μ i k .ret σ=k .ret σ:=rfl
theorem k_loopx {ι:Type} {I:ι→Prop} {s:ι→St} {μ:ι→Nat} {i:ι} {j:Nat} : loopK N I s μ i k (.ex j) σ=k (.ex j) σ:=rfl
theorem k_loopn {ι:Type} {I:ι→Prop} {s:ι→St} {μ:ι→Nat} {i:ι} : loopK N I s μ i k .nrm σ = ∃ j,I j∧μ j < μ i∧Wk N σ (s j):=rfl
theorem k_ret {outs:List ResultVar} {x:AV} {obs:List Ob} {σ:St} : retK P N outs x obs .ret σ=vcOuts P σ outs fun xs=>vcClose N (tup xs) σ.ob x obs:=rfl
theorem k_retn {outs:List ResultVar} {x:AV} {obs:List Ob} {σ:St} : retK P N outs x obs .nrm σ=vcOuts P σ outs fun xs=>vcClose N (tup xs) σ.ob x obs:=rfl
theorem k_cutn {ι:Type} {I:ι→Prop} {s:ι→St} : cutK N I s k .nrm σ = ∃ j,I j∧Wk N σ (s j):=rfl
theorem k_cutx {ι:Type} {I:ι→Prop} {s:ι→St} {j:Nat} : cutK N I s k (.ex j) σ=k (.ex j) σ:=rfl
end
theorem f_leaf {x:T} : fits .leaf x=x.flat:=by cases x<;>rfl
theorem f_ag {ss:List Sh} {xs:List T} : fits (.ag ss) (.ag xs)=fitss ss xs:=rfl
theorem f_sl {e:TypeId} {m:Nat} {s:Sh} {x:T} : fits (.sl e m s) x=false:=by cases x<;>rfl
theorem f_nil  : fitss [] []=true:=rfl
theorem f_cons {s:Sh} {ss:List Sh} {x:T} {xs:List T} : fitss (s :: ss) (x :: xs)=(fits s x && fitss ss xs):=rfl
section
variable {ob:List Ob}
theorem w_t {s:Sh} {x:T} : AV.own ob s (.t x)=if fits s x=true then some (x,[]) else none:=by cases s<;>simp only [AV.own]
def onOwn (o:Option Ob) (K:TypeId→Nat→Sh→List T→Option (T × List Nat)) : Option (T × List Nat):=match o with | some (.arr e m (.own s) es)=>K e m s es | _=>none
theorem s_own {e:TypeId} {m:Nat} {s:Sh} {es:List T} {K:TypeId→Nat→Sh→List T→Option (T × List Nat)} : onOwn (some (.arr e m (.own s) es)) K=K e m s es:=rfl
def onTs (o:Option (List T × List Nat)) : Option (T × List Nat):=match o with | some (ys,ids)=>some (.ag ys,ids) | none=>none
theorem s_ts {ys:List T} {ids:List Nat} : onTs (some (ys,ids))=some (.ag ys,ids):=rfl
def onCons (o:Option (T × List Nat)) (p:Option (List T × List Nat)) : Option (List T × List Nat):=match o,p with | some (y,i),some (ys,i')=>some (y :: ys,i ++ i') | _,_=>none
theorem s_oc {y:T} {i i':List Nat} {ys:List T} : onCons (some (y,i)) (some (ys,i'))=some (y :: ys,i ++ i'):=rfl
theorem w_agag {ss:List Sh} {cs:List AV} : AV.own ob (.ag ss) (.ag cs)=onTs (ownsL ob ss cs):=by simp only [AV.own,onTs]; cases ownsL ob ss cs<;>rfl
theorem w_slns {e:TypeId} {m:Nat} {s:Sh} : AV.own ob (.sl e m s) .ns=some (.sl [],[]):=by simp only [AV.own]
open Classical in
theorem w_slsr {e:TypeId} {m i:Nat} {s:Sh} : AV.own ob (.sl e m s) (.sr i)=onOwn ob[i]? fun e' m' s' es=>if e'=e∧m'=m∧s'=s then some (.sl es,[i]) else none:=by
 simp only [AV.own,onOwn]
 cases ob[i]? with
 | none => rfl
 | some o =>
   cases o<;>rfl
theorem w_nil  : ownsL ob [] []=some ([],[]):=by simp only [ownsL]
theorem w_cons {s:Sh} {ss:List Sh} {x:AV} {xs:List AV} : ownsL ob (s :: ss) (x :: xs)=onCons (x.own ob s) (ownsL ob ss xs):=by simp only [ownsL,onCons]; cases x.own ob s<;>cases ownsL ob ss xs<;>rfl
end
def seeArr : Option Ob→Option T
 | some (.arr _ _ _ es) => some (.sl es)
 | _ => none
section
variable {ob:List Ob} {n:Nat}
theorem e_see_t {y:T} : AV.see ob (n + 1) (.t y)=some y:=rfl
theorem e_see_ns : AV.see ob (n + 1) .ns=some (.sl []):=rfl
theorem e_see_sr {id:Nat} : AV.see ob (n + 1) (.sr id)=seeArr ob[id]?:=by
 simp only [AV.see]
 cases ob[id]? with
 | none => rfl
 | some o => cases o<;>rfl
theorem e_see_ag {cs:List AV} : AV.see ob (n + 1) (.ag cs)=(seesW (AV.see ob n) cs).map T.ag:=rfl
end
theorem qnb_ud  : AV.noBw .ud=true:=by simp only [AV.noBw]
theorem qnb_ns  : AV.noBw .ns=true:=by simp only [AV.noBw]
theorem qnb_t {x:T} : AV.noBw (.t x)=true:=by simp only [AV.noBw]
theorem qnb_ag {cs:List AV} : AV.noBw (.ag cs)=noBws cs:=by simp only [AV.noBw]
theorem qnb_tp {cs:List AV} : AV.noBw (.tp cs)=noBws cs:=by simp only [AV.noBw]
theorem qnb_rf {i o:Nat} : AV.noBw (.rf i o)=true:=by simp only [AV.noBw]
theorem qnb_ra {i j m o:Nat} : AV.noBw (.ra i j m o)=true:=by simp only [AV.noBw]
theorem qnb_sr {i:Nat} : AV.noBw (.sr i)=true:=by simp only [AV.noBw]
theorem qnb_mr {i:Nat} : AV.noBw (.mr i)=true:=by simp only [AV.noBw]
theorem qsh_ns  : AV.shut .ns=some (.sl []):=by simp only [AV.shut]
theorem qsh_t {x:T} : AV.shut (.t x)=some x:=by simp only [AV.shut]
theorem qsh_ag {cs:List AV} : AV.shut (.ag cs)=(shuts cs).map T.ag:=by simp only [AV.shut]
theorem qsh_rf {i o:Nat} : AV.shut (.rf i o)=none:=by simp only [AV.shut]
theorem qsh_sr {i:Nat} : AV.shut (.sr i)=none:=by simp only [AV.shut]
theorem qsb_t {x:T} : AV.shutB (.t x)=some x:=by simp only [AV.shutB]
-- what is worked out by itself
attribute [push_cast] qnb_ud qnb_ns qnb_t qnb_ag qnb_tp qnb_rf qnb_ra qnb_sr qnb_mr qsh_ns qsh_t qsh_ag qsh_rf qsh_sr qsb_t
attribute [push_cast] o_ifc o_inv v_ifc v_inv loth_i o_cvt l_cvt cv_i cv_s v_cvi v_cvr bo_nil bo_i Option.map_some
attribute [push_cast] bs_i bs_s bs_b bs_np bs_ag kk_n
attribute [push_cast] hd_reg hd_seq hd_blk hd_loop hd_skip hd_cond hd_ret
attribute [push_cast] dy_r dy_nil dy_0 dy_2 s1_st s1_rf ah_nil ah_cons av_t nmh_nil nmh_b mks_nil mks_0 mks_2 deads prs
attribute [push_cast] v_mup v_mupo v_mmap0 y_cell y_ag yc_i yc_s ys_nil ys_cons o_mup o_mm0 List.forall_mem_map List.not_mem_nil
attribute [push_cast] v_ldrf v_ldt v_ldra wy_t v_ldoo v_ldoc v_opn
attribute [push_cast] List.set_set List.length_set
attribute [push_cast] tick_eq f_leaf f_ag f_sl f_nil f_cons w_t s_own s_ts s_oc w_agag w_slns w_slsr w_nil w_cons
attribute [push_cast] e_see_t e_see_ns e_see_sr e_see_ag seeArr
attribute [push_cast] decide_true decide_false Keep distinct pre tmVia obVia obVia1 AV.under unders AV.via vias Ob.via Ob.under Ob.empty Kind.le rnO e_get1 Option.join_some Option.join_none Bool.or_true Bool.true_or Bool.or_self beq_self_eq_true Nat.zero_lt_succ
attribute [push_cast] c_ag i_ag c_b i_b n_b c_i i_i n_i c_s i_s n_s c_sl n_sl
attribute [push_cast] ca_ag ca_t ia_ag ia_t na_t na_ns ca_sr ia_sr na_sr ca_mr
attribute [push_cast] d_zero d_succ s_some s_box s_arr s_sli s_mapl s_str s_st s_pair s_tri s_lst s_lint s_lbool s_lstr
@[congr] theorem vcMax_congr {KA:AV→Prop} {x x' y y':AV} (h:tick x=x') (h2:y=y') : vcMax x y KA=vcMax x' y' KA:=by unfold tick at h; rw [h,h2]
@[congr] theorem vcFld_congr {P:Program} {KA:AV→Prop} {s f:Nat} {x x':AV} (h:tick x=x') : vcFld P s f x KA=vcFld P s f x' KA:=by unfold tick at h; rw [h]
theorem v_fld {P:Program} {KA:AV→Prop} {s f:Nat} {cs:List T} : vcFld P s f (.t (.ag cs)) KA=onSome (oneFld P s f) fun o=>onSome cs[o]? fun y=>KA (.t y):=by
 unfold vcFld onSome
 cases oneFld P s f with
 | none => rfl
 | some o => dsimp only; cases cs[o]? <;> rfl
attribute [push_cast] v_fld l_fld v_shr v_lim
@[congr] theorem vcFn_congr {KA:AV→Prop} {fn:Fn} {ys ys' xs xs':List AV} (h0:ys=ys') (h1:xs=xs') : vcFn fn ys xs KA=vcFn fn ys' xs' KA:=by rw [h0,h1]
attribute [push_cast] s_lsli s_lmap v_loadrf v_loadt v_loadra v_lda v_lkc v_lko v_pickA v_pickT v_field v_fldrf v_fldt v_fldra v_iasl v_iasr v_ixa
attribute [push_cast] v_ixs v_lensl v_lens v_lenns v_lensr v_lna v_bini v_bins v_bineb v_binnb v_pnn v_pnp v_add v_sub v_mul v_quo v_rem v_eql v_neq v_lss
attribute [push_cast] v_sta
attribute [push_cast] v_leq v_gtr v_geq v_sadd v_seql v_sneq v_slss v_sgeq v_not v_neg v_exta v_extt v_bn v_bs v_slsl v_sls v_storerf s_mix v_storera v_build
attribute [push_cast] v_bsl v_appsr v_appns v_sto v_sroo v_srco v_srcc v_srct v_srcsr v_plo v_call v_callo v_lkmr
attribute [push_cast] v_lkom v_lkt v_out0 v_outt v_outc v_close v_closeo v_closea v_closep v_closef v_rest0 g_bt g_bf g_ud p_b e_nil e_cons e_consg
attribute [push_cast] e_setS e_setN e_dstS e_dstN e_opdT e_opdC e_opdF e_vb e_vi e_vs e_ss e_vnil e_vp e_vag e_sb e_si e_snil e_sm o_box o_alloc o_store o_bs o_move o_assign
attribute [push_cast] o_pick o_load o_bin nb_t nb_sl o_un o_fa o_ia o_ix o_slS o_slH v_sl3t v_sl3r v_slvt o_ext o_nil o_lookup o_build o_call o_len o_app l_move l_assign l_pick l_load l_bin l_un l_fa l_ia l_sl l_ext l_nil l_lookup
attribute [push_cast] l_build l_call l_len w_skip w_reg w_draw stw_t stw_f stop_d oa_zero oa_succ q_n q_m z_zero z_succ m_nil m_t m_f mt_op mf_op nb_nil nb_cons mk_call mk_fn mk_bs mk_alloc mk_app mk_st mk_str w_seq w_cond w_block w_exit w_ret w_loop r_nil0 r_cons r_consg k_seqn k_seqr k_seqx k_condt k_blkn k_blkr k_blkx k_loopr
attribute [push_cast] k_loopx k_loopn k_ret k_retn k_cutn k_cutx tup seesW shuts shutBs AV.take takes killAll ownsA mix fitsAll
attribute [push_cast] AV.bwc tmNoBw noBws obsNoBw Ob.noBw obNoBw AV.ren rens Ob.ren rn behind placeOb T.allOne allOne allLen allOnes T.flat flats segA fillA AV.known AV.notNil AV.isPtr nodupB
attribute [push_cast] at_map freshAV freshAVs freshOb Ob.fresh Ob.owns Sh.plain Sh.plains start numA Lay.sc true_and and_true and_self or_true true_or or_false false_or Bool.true_eq_false
attribute [push_cast] Bool.false_eq_true Bool.and_true Bool.true_and Bool.and_false Bool.false_and List.length_map List.length_cons List.length_nil List.length_append List.map_cons List.map_nil
attribute [push_cast] List.cons_append List.nil_append List.append_nil List.getElem?_cons_zero List.getElem?_cons_succ List.getElem?_nil List.contains_cons List.contains_nil Bool.or_false
attribute [push_cast] List.isEmpty_nil List.set_cons_zero List.set_cons_succ List.take_zero List.take_succ_cons List.drop_zero List.drop_succ_cons List.take_nil List.drop_nil decide_eq_true_eq
attribute [push_cast] Option.map_some Option.map_none Option.isSome_some Option.some.injEq ne_eq not_false_eq_true not_true_eq_false Bool.not_false Bool.not_true implies_true forall_const true_implies
end Go.Proofs.YtmgdkkhnjkepiaaGreat.BX
namespace Go.Proofs.YtmgdkkhnjkepiaaGreat.BX
open Nat renaming reduceEqDiff → zA, reduceLT → zB, reduceLeDiff → zC, reduceAdd → zD, reduceMul → zE, reduceSub → zF, reduceBEq → zG
set_option linter.unusedSectionVars false
set_option linter.unusedSimpArgs false
set_option linter.unusedVariables false
open Go Go.RowKit
noncomputable abbrev P0 : Program:=Tryz.prog
theorem mixed : P0.follows .mixedOrders=true:=by kernel_rfl
@[push_cast] theorem lay_3 : lay P0 3 = .int .i64:=by kernel_rfl
@[push_cast] theorem und_3 : P0.underlying 3=some (.int .i64):=by kernel_rfl
@[push_cast] theorem zero_3 : zeroOf P0 3=some (.int .i64 0):=by kernel_rfl
@[push_cast] theorem cells_3 : P0.cellsOf 3=1:=by kernel_rfl
@[push_cast] theorem lay_4 : lay P0 4 = .bool:=by kernel_rfl
@[push_cast] theorem cells_4 : P0.cellsOf 4=1:=by kernel_rfl
@[push_cast] theorem lay_5 : lay P0 5 = .int .u8:=by kernel_rfl
@[push_cast] theorem und_5 : P0.underlying 5=some (.int .u8):=by kernel_rfl
@[push_cast] theorem zero_5 : zeroOf P0 5=some (.int .u8 0):=by kernel_rfl
@[push_cast] theorem sh_5 : shOf P0 40 5 = .leaf:=by kernel_rfl
@[push_cast] theorem lay_9 : lay P0 9 = .str:=by kernel_rfl
@[push_cast] theorem zero_9 : zeroOf P0 9=some (.string ⟨#[]⟩):=by kernel_rfl
@[push_cast] theorem cells_9 : P0.cellsOf 9=1:=by kernel_rfl
@[push_cast] theorem bytes_9 : P0.bytesOf 9=16:=by kernel_rfl
@[push_cast] theorem sh_9 : shOf P0 40 9 = .leaf:=by kernel_rfl
@[push_cast] theorem lay_26 : lay P0 26 = .sli 9 1:=by kernel_rfl
@[push_cast] theorem zero_26 : zeroOf P0 26=some (.slice none 0 0):=by kernel_rfl
@[push_cast] theorem cells_26 : P0.cellsOf 26=1:=by kernel_rfl
@[push_cast] theorem bytes_26 : P0.bytesOf 26=24:=by kernel_rfl
@[push_cast] theorem sh_26 : shOf P0 40 26 = .sl 9 1 .leaf:=by kernel_rfl
@[push_cast] theorem lay_34 : lay P0 34 = .sli 42 10:=by kernel_rfl
@[push_cast] theorem cells_34 : P0.cellsOf 34=1:=by kernel_rfl
@[push_cast] theorem lay_36 : lay P0 36 = .st [(0,1)] 1:=by kernel_rfl
@[push_cast] theorem zero_36 : zeroOf P0 36=some (.agg #[.slice none 0 0]):=by kernel_rfl
@[push_cast] theorem cells_36 : P0.cellsOf 36=1:=by kernel_rfl
@[push_cast] theorem lay_38 : lay P0 38 = .sli 100 3:=by kernel_rfl
@[push_cast] theorem zero_38 : zeroOf P0 38=some (.slice none 0 0):=by kernel_rfl
@[push_cast] theorem bytes_38 : P0.bytesOf 38=24:=by kernel_rfl
@[push_cast] theorem sh_38 : shOf P0 40 38 = .sl 100 3 (.ag [.leaf,.leaf,.leaf]):=by kernel_rfl
@[push_cast] theorem lay_40 : lay P0 40 = .sli 138 2:=by kernel_rfl
@[push_cast] theorem cells_40 : P0.cellsOf 40=1:=by kernel_rfl
@[push_cast] theorem lay_42 : lay P0 42 = .st [(0,1),(1,1),(2,1),(3,1),(4,1),(5,1),(6,1),(7,1),(8,1),(9,1)] 10:=by kernel_rfl
@[push_cast] theorem zero_42 : zeroOf P0 42=some (.agg #[.string ⟨#[]⟩,.string ⟨#[]⟩,.string ⟨#[]⟩,.bool false,.string ⟨#[]⟩,.int .i64 0,.slice none 0 0,.slice none 0 0,.string ⟨#[]⟩,.slice none 0 0]):=by kernel_rfl
@[push_cast] theorem cells_42 : P0.cellsOf 42=10:=by kernel_rfl
@[push_cast] theorem bytes_42 : P0.bytesOf 42=168:=by kernel_rfl
@[push_cast] theorem sh_42 : shOf P0 40 42 = .ag [.leaf,.leaf,.leaf,.leaf,.leaf,.leaf,.sl 9 1 .leaf,.sl 9 1 .leaf,.leaf,.sl 138 2 (.ag [.leaf,.leaf])]:=by kernel_rfl
@[push_cast] theorem lay_55 : lay P0 55 = .sli 5 1:=by kernel_rfl
@[push_cast] theorem lay_89 : lay P0 89 = .sli 149 2:=by kernel_rfl
@[push_cast] theorem lay_100 : lay P0 100 = .st [(0,1),(1,1),(2,1)] 3:=by kernel_rfl
@[push_cast] theorem zero_100 : zeroOf P0 100=some (.agg #[.string ⟨#[]⟩,.string ⟨#[]⟩,.string ⟨#[]⟩]):=by kernel_rfl
@[push_cast] theorem cells_100 : P0.cellsOf 100=3:=by kernel_rfl
@[push_cast] theorem bytes_100 : P0.bytesOf 100=48:=by kernel_rfl
@[push_cast] theorem sh_100 : shOf P0 40 100 = .ag [.leaf,.leaf,.leaf]:=by kernel_rfl
@[push_cast] theorem lay_103 : lay P0 103 = .ptr:=by kernel_rfl
@[push_cast] theorem lay_122 : lay P0 122 = .sli 38 1:=by kernel_rfl
@[push_cast] theorem lay_130 : lay P0 130 = .st [(0,1),(1,1)] 2:=by kernel_rfl
@[push_cast] theorem zero_130 : zeroOf P0 130=some (.agg #[.slice none 0 0,.int .i64 0]):=by kernel_rfl
@[push_cast] theorem lay_138 : lay P0 138 = .st [(0,1),(1,1)] 2:=by kernel_rfl
@[push_cast] theorem zero_138 : zeroOf P0 138=some (.agg #[.string ⟨#[]⟩,.int .i64 0]):=by kernel_rfl
@[push_cast] theorem cells_138 : P0.cellsOf 138=2:=by kernel_rfl
@[push_cast] theorem bytes_138 : P0.bytesOf 138=24:=by kernel_rfl
@[push_cast] theorem sh_138 : shOf P0 40 138 = .ag [.leaf,.leaf]:=by kernel_rfl
@[push_cast] theorem lay_149 : lay P0 149 = .st [(0,1),(1,1)] 2:=by kernel_rfl
@[push_cast] theorem zero_149 : zeroOf P0 149=some (.agg #[.string ⟨#[]⟩,.string ⟨#[]⟩]):=by kernel_rfl
@[push_cast] theorem bytes_149 : P0.bytesOf 149=32:=by kernel_rfl
@[push_cast] theorem sh_149 : shOf P0 40 149 = .ag [.leaf,.leaf]:=by kernel_rfl
@[push_cast] theorem lay_168 : lay P0 168 = .map 9 3:=by kernel_rfl
@[push_cast] theorem lay_170 : lay P0 170 = .st [(0,1),(1,1)] 2:=by kernel_rfl
@[push_cast] theorem zero_170 : zeroOf P0 170=some (.agg #[.slice none 0 0,.map none]):=by kernel_rfl
@[push_cast] theorem lay_230 : lay P0 230 = .st [(0,1),(1,1),(2,1),(3,1)] 4:=by kernel_rfl
@[push_cast] theorem zero_230 : zeroOf P0 230=some (.agg #[.bool false,.string ⟨#[]⟩,.slice none 0 0,.bool false]):=by kernel_rfl
@[push_cast] theorem cells_230 : P0.cellsOf 230=4:=by kernel_rfl
@[push_cast] theorem lay_232 : lay P0 232 = .st [(0,4)] 4:=by kernel_rfl
@[push_cast] theorem zero_232 : zeroOf P0 232=some (.agg #[.bool false,.string ⟨#[]⟩,.slice none 0 0,.bool false]):=by kernel_rfl
@[push_cast] theorem lay_234 : lay P0 234 = .st [(0,4),(4,1),(5,1)] 6:=by kernel_rfl
@[push_cast] theorem zero_234 : zeroOf P0 234=some (.agg #[.bool false,.string ⟨#[]⟩,.slice none 0 0,.bool false,.bool false,.string ⟨#[]⟩]):=by kernel_rfl
@[push_cast] theorem lay_235 : lay P0 235 = .st [(0,4)] 4:=by kernel_rfl
@[push_cast] theorem zero_235 : zeroOf P0 235=some (.agg #[.bool false,.string ⟨#[]⟩,.slice none 0 0,.bool false]):=by kernel_rfl
@[push_cast] theorem lay_236 : lay P0 236 = .st [(0,4)] 4:=by kernel_rfl
@[push_cast] theorem zero_236 : zeroOf P0 236=some (.agg #[.bool false,.string ⟨#[]⟩,.slice none 0 0,.bool false]):=by kernel_rfl
@[push_cast] theorem lay_237 : lay P0 237 = .st [(0,4)] 4:=by kernel_rfl
@[push_cast] theorem zero_237 : zeroOf P0 237=some (.agg #[.bool false,.string ⟨#[]⟩,.slice none 0 0,.bool false]):=by kernel_rfl
@[push_cast] theorem lay_296 : lay P0 296 = .sli 26 1:=by kernel_rfl
@[push_cast] theorem gt_138 : P0.eqGuardType P0.depth 138=false:=by kernel_rfl
@[push_cast] theorem key_9 : keyLay P0 9=some (false,[.str]):=by kernel_rfl
@[push_cast] theorem key_138 : keyLay P0 138=some (true,[.str,.int .i64]):=by kernel_rfl
@[push_cast] theorem nt_6 : Tryz.f6.ntmps=95:=rfl
@[push_cast] theorem nt_34 : Tryz.f34.ntmps=95:=rfl
@[push_cast] theorem nt_35 : Tryz.f35.ntmps=24:=rfl
@[push_cast] theorem nt_36 : Tryz.f36.ntmps=45:=rfl
@[push_cast] theorem nt_37 : Tryz.f37.ntmps=134:=rfl
@[push_cast] theorem nt_38 : Tryz.f38.ntmps=23:=rfl
@[push_cast] theorem nt_39 : Tryz.f39.ntmps=6:=rfl
@[push_cast] theorem nt_61 : Tryz.f61.ntmps=58:=rfl
@[push_cast] theorem nt_62 : Tryz.f62.ntmps=61:=rfl
@[push_cast] theorem nt_63 : Tryz.f63.ntmps=152:=rfl
@[push_cast] theorem nt_67 : Tryz.f67.ntmps=23:=rfl
@[push_cast] theorem nt_69 : Tryz.f69.ntmps=64:=rfl
@[push_cast] theorem nt_76 : Tryz.f76.ntmps=22:=rfl
@[push_cast] theorem nt_77 : Tryz.f77.ntmps=74:=rfl
@[push_cast] theorem nt_79 : Tryz.f79.ntmps=27:=rfl
@[push_cast] theorem nt_83 : Tryz.f83.ntmps=107:=rfl
@[push_cast] theorem nt_84 : Tryz.f84.ntmps=11:=rfl
@[push_cast] theorem nt_86 : Tryz.f86.ntmps=34:=rfl
@[push_cast] theorem nt_87 : Tryz.f87.ntmps=193:=rfl
@[push_cast] theorem nt_88 : Tryz.f88.ntmps=167:=rfl
@[push_cast] theorem nt_89 : Tryz.f89.ntmps=26:=rfl
@[push_cast] theorem nt_90 : Tryz.f90.ntmps=62:=rfl
@[push_cast] theorem nt_91 : Tryz.f91.ntmps=25:=rfl
@[push_cast] theorem nt_92 : Tryz.f92.ntmps=4:=rfl
@[push_cast] theorem nt_93 : Tryz.f93.ntmps=39:=rfl
@[push_cast] theorem nt_94 : Tryz.f94.ntmps=16:=rfl
@[push_cast] theorem nt_95 : Tryz.f95.ntmps=70:=rfl
@[push_cast] theorem nt_96 : Tryz.f96.ntmps=78:=rfl
@[push_cast] theorem nt_98 : Tryz.f98.ntmps=89:=rfl
@[push_cast] theorem nt_104 : Tryz.f104.ntmps=22:=rfl
@[push_cast] theorem nt_106 : Tryz.f106.ntmps=62:=rfl
@[push_cast] theorem nt_107 : Tryz.f107.ntmps=20:=rfl
@[push_cast] theorem nt_114 : Tryz.f114.ntmps=35:=rfl
@[push_cast] theorem nt_116 : Tryz.f116.ntmps=23:=rfl
@[push_cast] theorem nt_117 : Tryz.f117.ntmps=39:=rfl
@[push_cast] theorem nt_118 : Tryz.f118.ntmps=97:=rfl
@[push_cast] theorem nt_119 : Tryz.f119.ntmps=23:=rfl
@[push_cast] theorem nt_120 : Tryz.f120.ntmps=25:=rfl
@[push_cast] theorem nt_121 : Tryz.f121.ntmps=71:=rfl
@[push_cast] theorem nt_122 : Tryz.f122.ntmps=20:=rfl
@[push_cast] theorem nt_123 : Tryz.f123.ntmps=62:=rfl
@[push_cast] theorem nt_124 : Tryz.f124.ntmps=41:=rfl
@[push_cast] theorem nt_125 : Tryz.f125.ntmps=25:=rfl
@[push_cast] theorem nt_126 : Tryz.f126.ntmps=85:=rfl
@[push_cast] theorem nt_129 : Tryz.f129.ntmps=44:=rfl
@[push_cast] theorem nt_130 : Tryz.f130.ntmps=40:=rfl
@[push_cast] theorem nt_131 : Tryz.f131.ntmps=53:=rfl
@[push_cast] theorem nt_141 : Tryz.f141.ntmps=12:=rfl
@[push_cast] theorem nt_142 : Tryz.f142.ntmps=19:=rfl
@[push_cast] theorem nt_143 : Tryz.f143.ntmps=18:=rfl
@[push_cast] theorem nt_144 : Tryz.f144.ntmps=46:=rfl
@[push_cast] theorem nt_151 : Tryz.f151.ntmps=13:=rfl
@[push_cast] theorem nt_152 : Tryz.f152.ntmps=37:=rfl
@[push_cast] theorem nt_153 : Tryz.f153.ntmps=26:=rfl
@[push_cast] theorem nt_154 : Tryz.f154.ntmps=10:=rfl
@[push_cast] theorem nt_155 : Tryz.f155.ntmps=76:=rfl
@[push_cast] theorem nt_156 : Tryz.f156.ntmps=14:=rfl
@[push_cast] theorem nt_157 : Tryz.f157.ntmps=62:=rfl
@[push_cast] theorem nt_158 : Tryz.f158.ntmps=19:=rfl
@[push_cast] theorem nt_159 : Tryz.f159.ntmps=25:=rfl
@[push_cast] theorem nt_160 : Tryz.f160.ntmps=8:=rfl
@[push_cast] theorem nt_161 : Tryz.f161.ntmps=8:=rfl
@[push_cast] theorem nt_162 : Tryz.f162.ntmps=29:=rfl
@[push_cast] theorem nt_163 : Tryz.f163.ntmps=16:=rfl
@[push_cast] theorem nt_164 : Tryz.f164.ntmps=50:=rfl
@[push_cast] theorem nt_172 : Tryz.f172.ntmps=64:=rfl
@[push_cast] theorem nt_176 : Tryz.f176.ntmps=8:=rfl
@[push_cast] theorem nt_178 : Tryz.f178.ntmps=20:=rfl
@[push_cast] theorem nt_179 : Tryz.f179.ntmps=19:=rfl
@[push_cast] theorem nt_185 : Tryz.f185.ntmps=21:=rfl
@[push_cast] theorem nt_186 : Tryz.f186.ntmps=47:=rfl
@[push_cast] theorem nt_187 : Tryz.f187.ntmps=52:=rfl
@[push_cast] theorem nt_188 : Tryz.f188.ntmps=21:=rfl
@[push_cast] theorem nt_189 : Tryz.f189.ntmps=38:=rfl
@[push_cast] theorem nt_193 : Tryz.f193.ntmps=8:=rfl
@[push_cast] theorem nt_199 : Tryz.f199.ntmps=8:=rfl
@[push_cast] theorem nt_200 : Tryz.f200.ntmps=30:=rfl
@[push_cast] theorem nt_205 : Tryz.f205.ntmps=38:=rfl
@[push_cast] theorem nt_206 : Tryz.f206.ntmps=64:=rfl
@[push_cast] theorem nt_207 : Tryz.f207.ntmps=27:=rfl
@[push_cast] theorem nt_208 : Tryz.f208.ntmps=61:=rfl
@[push_cast] theorem nt_209 : Tryz.f209.ntmps=32:=rfl
@[push_cast] theorem nt_210 : Tryz.f210.ntmps=36:=rfl
@[push_cast] theorem nt_215 : Tryz.f215.ntmps=17:=rfl
@[push_cast] theorem nt_226 : Tryz.f226.ntmps=21:=rfl
@[push_cast] theorem nt_232 : Tryz.f232.ntmps=41:=rfl
@[push_cast] theorem nt_235 : Tryz.f235.ntmps=61:=rfl
@[push_cast] theorem nt_236 : Tryz.f236.ntmps=38:=rfl
@[push_cast] theorem nt_237 : Tryz.f237.ntmps=93:=rfl
@[push_cast] theorem nt_238 : Tryz.f238.ntmps=22:=rfl
@[push_cast] theorem nt_239 : Tryz.f239.ntmps=26:=rfl
@[push_cast] theorem nt_265 : Tryz.f265.ntmps=24:=rfl
@[push_cast] theorem nt_266 : Tryz.f266.ntmps=21:=rfl
@[push_cast] theorem nt_267 : Tryz.f267.ntmps=59:=rfl
@[push_cast] theorem nt_307 : Tryz.f307.ntmps=11:=rfl
@[push_cast] theorem nt_308 : Tryz.f308.ntmps=18:=rfl
@[push_cast] theorem nt_309 : Tryz.f309.ntmps=43:=rfl
@[push_cast] theorem nt_310 : Tryz.f310.ntmps=18:=rfl
@[push_cast] theorem nt_311 : Tryz.f311.ntmps=18:=rfl
@[push_cast] theorem nt_312 : Tryz.f312.ntmps=61:=rfl
@[push_cast] theorem nt_313 : Tryz.f313.ntmps=20:=rfl
end Go.Proofs.YtmgdkkhnjkepiaaGreat.BX
namespace Go.Proofs.YtmgdkkhnjkepiaaGreat.BX
open Nat renaming reduceEqDiff → zA, reduceLT → zB, reduceLeDiff → zC, reduceAdd → zD, reduceMul → zE, reduceSub → zF, reduceBEq → zG
set_option linter.unusedSectionVars false
set_option linter.unusedSimpArgs false
set_option linter.unusedVariables false
open Go Go.RowKit
theorem iteI {p:Prop} [Decidable p] {A B:Prop} (h1:p→A) (h2:¬ p→B) : if p then A else B:=by
 by_cases h : p
 ·rw [if_pos h]; exact h1 h
 ·rw [if_neg h]; exact h2 h
theorem allLen_map {α:Type} {f:α→T} {m:Nat} (h:∀ a,(f a).cells.length=m) : ∀ {xs:List α},allLen m (xs.map f)=true
 | [] => rfl
 | x :: r => by simp only [List.map_cons,allLen,h,allLen_map h,decide_true,Bool.and_self]
theorem fitsAll_map {α:Type} {f:α→T} {s:Sh} (h:∀ a,fits s (f a)=true) : ∀ {xs:List α},fitsAll s (xs.map f)=true
 | [] => rfl
 | x :: r => by simp only [List.map_cons,fitsAll,h,fitsAll_map h,Bool.and_self]
section
variable {κ β:Type} [DecidableEq κ]
def aget (k:κ) : List (κ × β)→Option β
 | [] => none
 | p :: r => if p.1=k then some p.2 else aget k r
def aset (k:κ) (v:β) : List (κ × β)→List (κ × β)
 | [] => [(k,v)]
 | p :: r => if p.1=k then (p.1,v) :: r else p :: aset k v r
def adel (k:κ) : List (κ × β)→List (κ × β)
 | [] => []
 | p :: r => if p.1=k then r else p :: adel k r
theorem aset_len {k:κ} {v:β} : ∀ {l:List (κ × β)},l.length≤(aset k v l).length∧(aset k v l).length≤l.length + 1
 | [] => by simp [aset]
 | p :: r => by
   simp only [aset]
   have:=aset_len (k:=k) (v:=v) (l:=r)
   split<;>simp<;>omega
theorem adel_sub {k:κ} : ∀ {l:List (κ × β)},(adel k l).Sublist l
 | [] => by simp [adel]
 | p :: r => by
   simp only [adel]
   split
   ·exact List.sublist_cons_self ..
   ·exact adel_sub.cons_cons p
theorem aget_none {k:κ} : ∀ {l:List (κ × β)},aget k l=none ↔ k ∉ l.map (·.1)
 | [] => by simp [aget]
 | p :: r => by
   simp only [aget,List.map_cons,List.mem_cons,not_or]
   split
   ·rename_i h; simp [h]
   ·rename_i h; rw [aget_none (l:=r)]; exact ⟨fun hh=>⟨fun e=>h e.symm,hh⟩,fun hh=>hh.2⟩
variable {ek:κ→T} {ev:β→T} (hinj:∀ a b,ek a=ek b→a=b)
include hinj
theorem place_assoc {k:κ} : ∀ {l:List (κ × β)} {i:Nat},(placeT (ek k) (l.map fun p=>ek p.1) i=none∧k ∉ l.map (·.1)) ∨ ∃ (j:Nat) (p:κ × β),placeT (ek k) (l.map fun p=>ek p.1) i=some (i + j)∧l[j]? = some p∧p.1=k∧k ∉ (l.take j).map (·.1)
 | [], i => .inl ⟨rfl,by simp⟩
 | p :: r, i => by
   simp only [List.map_cons,placeT]
   by_cases h : p.1=k
   ·subst h
    exact .inr ⟨0,p,by simp,rfl,rfl,by simp⟩
   ·have h' : ¬ ek k=ek p.1:=fun e=>h (hinj _ _ e).symm
    rw [if_neg h']
    rcases place_assoc (k:=k) (l:=r) (i:=i + 1) with ⟨h1,h2⟩ | ⟨j,q,h1,h2,h3,h4⟩
    ·exact .inl ⟨h1,by simp only [List.mem_cons,not_or]; exact ⟨fun e=>h e.symm,h2⟩⟩
    ·refine .inr ⟨j + 1,q,by rw [h1]; congr 1; omega,by simpa using h2,h3,?_⟩
     simp only [List.take_succ_cons,List.map_cons,List.mem_cons,not_or]
     exact ⟨fun e=>h e.symm,h4⟩
omit hinj in
theorem aset_at {k:κ} {v:β} : ∀ {l:List (κ × β)} {j:Nat} {p:κ × β},l[j]? = some p→p.1=k→k ∉ (l.take j).map (·.1)→aset k v l=l.set j (k,v)
 | [], j, p, h, _, _ => by simp at h
 | q :: r, 0, p, h, hk, _ => by simp at h; subst h; simp [aset,hk]
 | q :: r, j + 1, p, h, hk, hn => by
   simp only [List.getElem?_cons_succ] at h
   simp only [List.take_succ_cons,List.map_cons,List.mem_cons,not_or] at hn
   simp only [aset,List.set_cons_succ]
   rw [if_neg (fun e=>hn.1 e.symm),aset_at h hk hn.2]
omit hinj in
theorem aset_new {k:κ} {v:β} : ∀ {l:List (κ × β)},k ∉ l.map (·.1)→aset k v l=l ++ [(k,v)]
 | [], _ => rfl
 | q :: r, hn => by
   simp only [List.map_cons,List.mem_cons,not_or] at hn
   simp only [aset,List.cons_append]
   rw [if_neg (fun e=>hn.1 e.symm),aset_new hn.2]
omit hinj in
theorem adel_new {k:κ} : ∀ {l:List (κ × β)},k ∉ l.map (·.1)→adel k l=l
 | [], _ => rfl
 | q :: r, hn => by
   simp only [List.map_cons,List.mem_cons,not_or] at hn
   simp only [adel]
   rw [if_neg (fun e=>hn.1 e.symm),adel_new hn.2]
theorem upd_assoc {k:κ} {v:β} {l:List (κ × β)} : updK (l.map fun p=>ek p.1) (ek k)=(aset k v l).map (fun p=>ek p.1)∧updV (l.map fun p=>ek p.1) (l.map fun p=>ev p.2) (ek k) (ev v)=(aset k v l).map fun p=>ev p.2:=by
 unfold updK updV
 rcases place_assoc hinj (k:=k) (l:=l) (i:=0) with ⟨h1,h2⟩ | ⟨j,p,h1,h2,h3,h4⟩
 ·rw [h1,aset_new h2]; simp
 ·rw [h1,aset_at h2 h3 h4]
  simp only [Nat.zero_add,List.map_set,and_true]
  refine List.ext_getElem? fun i=>?_
  rw [List.getElem?_set]
  split
  ·rename_i hi
   subst hi
   have:=(List.getElem?_eq_some_iff.1 h2).1
   rw [List.getElem?_map,h2]
   simp [h3,this]
  ·rfl
omit hinj in
theorem aget_at {k:κ} : ∀ {l:List (κ × β)} {i:Nat} {p:κ × β},(l.map (·.1)).Nodup→l[i]? = some p→p.1=k→aget k l=some p.2
 | [], i, p, _, h, _ => by simp at h
 | q :: r, 0, p, _, h, hk => by simp at h; subst h; simp [aget,hk]
 | q :: r, i + 1, p, hn, h, hk => by
   simp only [List.map_cons,List.nodup_cons] at hn
   simp only [List.getElem?_cons_succ] at h
   simp only [aget]
   rw [if_neg ?_,aget_at hn.2 h hk]
   rintro rfl
   exact hn.1 (hk ▸ List.mem_map_of_mem (List.mem_of_getElem? h))
theorem look_assoc {s:Bool × List Lay} {z:Value} {k:κ} {ok:Bool} {kd:Kind} {K:AV→Prop} {l:List (κ × β)} (hn:(l.map (·.1)).Nodup) (hk:∀ p∈l,isKey s (ek p.1)) (h1:∀ v,aget k l=some v→K (if ok=true then .tp [kd.look (ev v),.t (.b true)] else kd.look (ev v))) (h2:aget k l=none→K (if ok=true then .tp [ofV z,.t (.b false)] else ofV z)) :
 lookM s z (ek k) ok kd (l.map fun p=>ek p.1) (l.map fun p=>ev p.2) K:=by
 refine ⟨?_,fun i v hi hv=>?_,fun hh=>h2 (aget_none.2 fun hm=>hh ?_)⟩
 ·intro y hy
  obtain ⟨p,hp,rfl⟩:=List.mem_map.1 hy
  exact hk p hp
 ·rw [List.getElem?_map,Option.map_eq_some_iff] at hi hv
  obtain ⟨p,hp,hpk⟩:=hi
  obtain ⟨q,hq,rfl⟩:=hv
  rw [hp] at hq
  cases hq
  exact h1 p.2 (aget_at hn hp (hinj _ _ hpk))
 ·obtain ⟨p,hp,rfl⟩:=List.mem_map.1 hm
  exact List.mem_map.2 ⟨p,hp,rfl⟩
end
end Go.Proofs.YtmgdkkhnjkepiaaGreat.BX
namespace Go.Proofs.YtmgdkkhnjkepiaaGreat.BX
open Nat renaming reduceEqDiff → zA, reduceLT → zB, reduceLeDiff → zC, reduceAdd → zD, reduceMul → zE, reduceSub → zF, reduceBEq → zG
set_option linter.unusedSectionVars false
set_option linter.unusedSimpArgs false
set_option linter.unusedVariables false
open Go Go.RowKit Go.ChangeShapes Go.WideShapes
def eU8 (c:UInt8) : T:=.i .u8 (c.toNat : Int)
mutual
def T.mx : T→Nat
 | .s x => x.length
 | .ag cs => mxs cs
 | .sl es => max es.length (mxs es)
 | _ => 0
def mxs : List T→Nat
 | [] => 0
 | x :: xs => max x.mx (mxs xs)
end
mutual
def T.wfi : T→Bool
 | .i k n => (Lit.int k n).wf
 | .ag cs => wfis cs
 | .sl es => wfis es
 | _ => true
def wfis : List T→Bool
 | [] => true
 | x :: xs => x.wfi && wfis xs
end
theorem mxs_nil {n:Nat} : mxs []≤n:=Nat.zero_le _
theorem mxs_cons {x:T} {xs:List T} {n:Nat} (h:x.mx≤n) (k:mxs xs≤n) : mxs (x :: xs)≤n:=by simp only [mxs]; omega
@[reducible] def big : Bd:=⟨9223372036854775808,by omega,by omega,False⟩
@[reducible] def small : Bd:=⟨2147483648,by omega,by omega,False⟩
def Sees (w:World) (x:T) (v:Value) (L:List Nat) : Prop:=x.mx < 9223372036854775808∧x.wfi=true∧(∀ bd : Bd,x.mx < bd.B → @footT bd w x v L)∧∀ b∈L,b < w.heap.size
def SeesL (w:World) (xs:List T) (vs:List Value) (L:List Nat) : Prop:=mxs xs < 9223372036854775808∧wfis xs=true∧(∀ bd : Bd,mxs xs < bd.B → @footTs bd w xs vs L)∧∀ b∈L,b < w.heap.size
theorem SeesL.nil (w:World) : SeesL w [] [] []:=⟨by simp [mxs],rfl,fun bd _=>by simp [footTs],by simp⟩
theorem SeesL.cons {w:World} {x:T} {xs:List T} {v:Value} {vs:List Value} {L M:List Nat} (h:Sees w x v L) (k:SeesL w xs vs M) : SeesL w (x :: xs) (v :: vs) (L ++ M):=by
 obtain ⟨h1,h2,h3,h4⟩:=h
 obtain ⟨k1,k2,k3,k4⟩:=k
 refine ⟨by simp only [mxs]; omega,by simp only [wfis,h2,k2,Bool.and_self],fun bd hb=>?_,fun b hb=>(List.mem_append.1 hb).elim (h4 b) (k4 b)⟩
 simp only [mxs] at hb
 simp only [footTs]
 exact ⟨v,vs,L,M,rfl,rfl,h3 bd (by omega),k3 bd (by omega)⟩
theorem SeesL.of {w:World} {α:Type} {h:α→T} : ∀ (l:List (α × Value × List Nat)),(∀ p∈l,Sees w (h p.1) p.2.1 p.2.2)→SeesL w (l.map fun p=>h p.1) (l.map fun p=>p.2.1) (l.flatMap fun p=>p.2.2)
 | [], _ => .nil w
 | p :: l, hp => by
   simp only [List.map_cons,List.flatMap_cons]
   exact .cons (hp p (List.mem_cons_self ..)) (SeesL.of l fun q hq=>hp q (List.mem_cons_of_mem _ hq))
def Reads (P:Program) (t:TypeId) {α:Type} (g:α→T) : Prop :=
 ∀ {H:Type} (enc:TypeId × Value→H) (w:World) (base:Nat) (spare:Nat→Bool) (held:Bool) (fuel:Nat) (cs:List Value) (x:DataW H × List MemPlace),DataW.trod enc P w base spare held fuel t cs=some x →
   ∃ (a:α) (v:Value) (L:List Nat),v.cells.toList=cs∧ones cs∧Sees w (g a) v L
section
variable {P:Program} {t:TypeId}
theorem Reads.byte (ht:P.underlying t=some (.int .u8)) : Reads P t eU8:=by
 intro H enc w base spare held fuel cs x hx
 obtain ⟨n,rfl,_,hw⟩:=DataW.trod_int ht hx
 have hr : 0≤n∧n < 256:=by
  have h : IntKind.u8.min≤n∧n≤IntKind.u8.max:=by simpa [Lit.wf] using hw
  have h1 : IntKind.u8.min=0:=by decide
  have h2 : IntKind.u8.max=255:=by decide
  omega
 have he : eU8 (UInt8.ofNat n.toNat) = .i .u8 n:=by
  unfold eU8
  rw [UInt8.toNat_ofNat',Nat.mod_eq_of_lt (by omega),Int.toNat_of_nonneg hr.1]
 refine ⟨UInt8.ofNat n.toNat,.int .u8 n,[],rfl,by simp [ones,Value.oneCell'],?_⟩
 rw [he]
 exact ⟨by simp [T.mx],hw,fun bd _=>by simp [footT],by simp⟩
theorem choose_list {β:Type} {R:Nat→β→Prop} : ∀ (n:Nat),(∀ i,i < n → ∃ b,R i b) → ∃ l : List β,l.length=n∧∀ (i:Nat) (b:β),l[i]? = some b→R i b
 | 0, _ => ⟨[],rfl,by simp⟩
 | n + 1, h => by
   obtain ⟨l,h1,h2⟩:=choose_list n fun i hi=>h i (by omega)
   obtain ⟨b,hb⟩:=h n (by omega)
   refine ⟨l ++ [b],by simp [h1],fun i c hc=>?_⟩
   rcases @app_get big _ _ _ _ _ hc with ⟨_,hc⟩ | ⟨hi,rfl⟩
   ·exact h2 i c hc
   ·rw [hi,h1]; exact hb
theorem laid_chunks {w:World} {b m:Nat} : ∀ (vs:List Value) (off:Nat),(∀ (i:Nat) (v:Value),vs[i]? = some v→v.cells.size=m∧∀ k,k < m→w.cell? ⟨b,off + i * m + k,none⟩=v.cells[k]?)→laid w b off (cellsL vs)
 | [], _, _ => by intro j v hj; simp [cellsL] at hj
 | v :: vs, off, h => by
   intro j u hj
   obtain ⟨h1,h2⟩:=h 0 v (by simp)
   simp only [cellsL,List.flatMap_cons] at hj
   rcases Nat.lt_or_ge j m with hjm | hjm
   ·rw [List.getElem?_append_left (by simpa [h1] using hjm)] at hj
    have:=h2 j hjm
    rw [Nat.zero_mul,Nat.add_zero] at this
    rw [this]
    simpa using hj
   ·rw [List.getElem?_append_right (by simpa [h1] using hjm)] at hj
    have ih:=laid_chunks vs (off + m) (fun i v hv=>⟨(h (i + 1) v (by simpa using hv)).1,fun k hk=>by
     have:=(h (i + 1) v (by simpa using hv)).2 k hk
     rwa [Nat.succ_mul,show off + (i * m + m) + k=off + m + i * m + k by omega] at this⟩) (j - m) u (by simpa [h1,cellsL] using hj)
    rwa [show off + m + (j - m)=off + j by omega] at ih
theorem cells?_get {w:World} {base n:Nat} {a:Addr} {cs:List Value} (h:w.cells? base a n=some cs) : cs.length=n∧∀ i,i < n→w.cell? (a.add i)=cs[i]?:=by
 unfold World.cells? at h
 split at h
 ·exact ⟨by simpa using mapM_some_length h,fun i hi=>mapM_some_get h i i (by simp [hi])⟩
 ·cases h
theorem cell_lt {w:World} {a:Addr} {v:Value} (h:w.cell? a=some v) : a.block < w.heap.size:=by
 unfold World.cell? at h
 rcases Nat.lt_or_ge a.block w.heap.size with h' | h'
 ·exact h'
 ·rw [Array.getElem?_eq_none h'] at h; cases h
theorem ones_flat {α:Type} {f:α→Value} {l:List α} (h:∀ a∈l,ones (f a).cells.toList) : ones (cellsL (l.map f)):=by
 intro u hu
 simp only [cellsL,List.mem_flatMap,List.mem_map] at hu
 obtain ⟨v,⟨a,ha,rfl⟩,hv⟩:=hu
 exact h a ha u hv
theorem Reads.slice {e:TypeId} {α:Type} {h:α→T} (ht:P.underlying t=some (.slice e)) (hm:0 < P.cellsOf e) (he:Reads P e h) : Reads P t fun xs : List α=>.sl (xs.map h):=by
 intro H enc w base spare held fuel cs x hx
 have nil : ∀ A c,∃ L,Sees w (.sl (([] : List α).map h)) (.slice A 0 c) L:=fun A c=>⟨[],by simp [T.mx,mxs],rfl,fun bd _=>by
  simp only [List.map_nil,footT]
  exact ⟨A,c,rfl,by simp,by have:=bd.lo; simp; omega,.inl ⟨trivial,trivial⟩⟩,by simp⟩
 rcases DataW.trod_slice ht hx with ⟨rfl,_⟩ | ⟨a,len,cap,elems,rest,n,rfl,rfl,_,hb,hle,hcap,hlen,hel,_,_⟩
 ·obtain ⟨L,hL⟩:=nil none 0
  exact ⟨[],.slice none 0 0,L,rfl,by simp [ones,Value.oneCell'],hL⟩
 by_cases h0 : len=0
 ·subst h0
  obtain ⟨L,hL⟩:=nil (some a) cap
  exact ⟨[],.slice (some a) 0 cap,L,rfl,by simp [ones,Value.oneCell'],hL⟩
 obtain ⟨b,off,spot⟩:=a
 have get : ∀ i,i < len → ∃ p : α × Value × List Nat,(p.2.1.cells.toList.length=P.cellsOf e∧ones p.2.1.cells.toList∧∀ k,k < P.cellsOf e→w.cell? (((⟨b,off,spot⟩ : Addr).add (i * P.cellsOf e)).add k)=p.2.1.cells[k]?)∧Sees w (h p.1) p.2.1 p.2.2:=by
  intro i hi
  have hi':=hel i hi
  rw [List.getElem?_eq_getElem (by omega)] at hi'
  obtain ⟨cs',q1,q2⟩:=Option.bind_eq_some_iff.1 hi'
  obtain ⟨a',v,L,r1,r2,r3⟩:=he enc w base spare held n cs' _ q2
  obtain ⟨s1,s2⟩:=cells?_get q1
  refine ⟨(a',v,L),⟨by simp only [r1,s1],by simpa only [r1] using r2,fun k hk=>?_⟩,r3⟩
  rw [s2 k hk,← r1]
  simp
 have hspot : spot=none:=by
  obtain ⟨p,⟨h1,_,h2⟩,_⟩:=get 0 (by omega)
  have g0:=h2 0 hm
  rw [Array.getElem?_eq_getElem (by rw [← Array.length_toList]; omega)] at g0
  have:=World.cell?_spot g0
  simpa [Addr.add] using this
 subst hspot
 obtain ⟨l,hl1,hl2⟩:=choose_list len get
 have hmem : ∀ p∈l,(p.2.1.cells.toList.length=P.cellsOf e∧ones p.2.1.cells.toList)∧Sees w (h p.1) p.2.1 p.2.2:=by
  intro p hp
  obtain ⟨i,hi⟩:=List.getElem?_of_mem hp
  obtain ⟨⟨h1,h2,_⟩,h3⟩:=hl2 i p hi
  exact ⟨⟨h1,h2⟩,h3⟩
 obtain ⟨k1,k2,k3,k4⟩:=SeesL.of (h:=h) l fun p hp=>(hmem p hp).2
 have hbl : b < w.heap.size:=by
  obtain ⟨p,⟨h1,_,h2⟩,_⟩:=get 0 (by omega)
  have g0:=h2 0 hm
  rw [Array.getElem?_eq_getElem (by rw [← Array.length_toList]; omega)] at g0
  have:=cell_lt g0
  simpa [Addr.add] using this
 have hlen2 : len≤9223372036854775807:=Nat.le_trans hle hcap
 refine ⟨l.map (·.1),.slice (some ⟨b,off,none⟩) len cap,b :: l.flatMap (fun p=>p.2.2),rfl,by simp [ones,Value.oneCell'],?_,?_,fun bd hbd=>?_,fun c hc=>?_⟩
 ·simp only [T.mx,List.map_map,List.length_map,hl1]
  simp only [Function.comp_def]
  omega
 ·simp only [T.wfi,List.map_map,Function.comp_def]; exact k2
 ·simp only [T.mx,List.map_map,List.length_map,hl1,Function.comp_def] at hbd
  have kk:=k3 bd (by omega)
  simp only [footT,List.map_map,List.length_map,hl1,Function.comp_def]
  refine ⟨some ⟨b,off,none⟩,cap,rfl,hle,by omega,.inr ⟨b,off,l.map (fun p=>p.2.1),_,P.cellsOf e,rfl,kk,fun v hv=>?_,rfl,laid_chunks (m:=P.cellsOf e) _ _ fun i v hv=>?_,ones_flat fun p hp=>(hmem p hp).1.2⟩⟩
  ·obtain ⟨p,hp,rfl⟩:=List.mem_map.1 hv
   simpa using (hmem p hp).1.1
  ·rw [List.getElem?_map,Option.map_eq_some_iff] at hv
   obtain ⟨p,hp,rfl⟩:=hv
   obtain ⟨⟨h1,_,h2⟩,_⟩:=hl2 i p hp
   refine ⟨by simpa using h1,fun k hk=>?_⟩
   have:=h2 k hk
   rwa [add_plain,add_plain] at this
 ·rcases List.mem_cons.1 hc with rfl | hc
  ·exact hbl
  ·exact k4 c hc
def ArrT (P:Program) (t:TypeId) {α:Type} (g:α→T) : Prop :=
 ∀ {H:Type} {enc:TypeId × Value→H} {W:World} {r:Reach} {b0 base:Nat} {spare:Nat→Bool} {held:Bool} {v:Value} {d:DataW H} {p:List MemPlace},Value.okWide P W r b0 t v→DataW.Trod enc P W base spare held t v d p → ∃ a L,Sees W (g a) v L
theorem same_val {v v':Value} (h:v.cells.toList=v'.cells.toList) (h1:v.oneCell'=true) (h2:v'.oneCell'=true) : v=v':=by
 rw [@cells_of_one big _ h1,@cells_of_one big _ h2] at h
 simpa using h
theorem ArrT.of_one {α:Type} {g:α→T} (hr:Reads P t g) (hg:∀ a,(g a).one=true) (hv:∀ {W:World} {r:Reach} {b0:Nat} {v:Value},Value.okWide P W r b0 t v→v.oneCell'=true) : ArrT P t g:=by
 intro H enc W r b0 base spare held v d p hval hd
 obtain ⟨fuel,hf⟩:=hd
 obtain ⟨a,v',L,h1,h2,h3⟩:=hr enc W base spare held fuel _ _ hf
 have hv' : v'.oneCell'=true:=by
  have h3':=h3.2.2.1 big h3.1
  have hga:=hg a
  generalize g a=x at h3' hga
  cases x<;>first | (simp [T.one] at hga; done) | skip
  all_goals (simp only [footT] at h3')
  case b=>obtain ⟨rfl,_⟩:=h3'; rfl
  case i=>obtain ⟨rfl,_⟩:=h3'; rfl
  case s=>obtain ⟨rfl,_⟩:=h3'; rfl
  case np=>obtain ⟨rfl,_⟩:=h3'; rfl
  case nm=>obtain ⟨rfl,_⟩:=h3'; rfl
  case ni=>obtain ⟨rfl,_⟩:=h3'; rfl
  case sl=>obtain ⟨_,_,rfl,_⟩:=h3'; rfl
  case po=>obtain ⟨_,_,_,_,rfl,_⟩:=h3'; rfl
  case ifc=>obtain ⟨_,rfl,_⟩:=h3'; rfl
  case mp=>obtain ⟨_,_,_,_,_,_,rfl,_⟩:=h3'; rfl
  case fn=>obtain ⟨_,rfl,_⟩:=h3'; exact fnVal_one _ _
 exact ⟨a,L,same_val h1.symm (hv hval) hv' ▸ h3⟩
theorem ArrT.slice {e:TypeId} {α:Type} {h:α→T} (ht:P.underlying t=some (.slice e)) (hr:Reads P t fun xs : List α=>.sl (xs.map h)) : ArrT P t fun xs : List α=>.sl (xs.map h):=ArrT.of_one hr (fun _=>rfl) fun h=>by obtain ⟨_,_,_,rfl⟩:=okWide_slice ht h; rfl
end
theorem Con.below [Bd] {P:Program} {f:FuncId} {ts:List T} (h:Con P f ts (.t (.b true)) []) {w:World} {vs:List Value} {L:List Nat} (hf:footTs w ts vs L) (hL:∀ b∈L,b < w.heap.size) :
 Calls P f vs.toArray w fun e w'=>e = .returned (.bool true)∧Below w.heap.size w w':=by
 have hS : ∀ b,b∈L→b < w.heap.size:=hL
 have hlen : vs.length=ts.length:=footTs_length hf
 have hnum : ∀ (xs:List T) (k t:Nat),getL (numA k (xs.map .t)) t = .un ∨ ∃ i x,t=k + i∧xs[i]? = some x∧getL (numA k (xs.map .t)) t = .t x:=by
  intro xs
  induction xs with
  | nil => intro k t; exact .inl rfl
  | cons x xs ih =>
    intro k t
    simp only [List.map_cons,numA,getL]
    by_cases hk : t=k
    ·subst hk
     exact .inr ⟨0,x,by omega,rfl,by simp⟩
    ·simp only [hk,if_false]
     rcases ih (k + 1) t with h1 | ⟨i,y,h1,h2,h3⟩
     ·exact .inl h1
     ·exact .inr ⟨i + 1,y,by omega,by simpa using h2,h3⟩
 have hr : Rel ⟨w,fun b=>b∈L,fun _=>False,([] : List Ob).length,fun _=>.nilIface⟩ ⟨(ts.map AV.t).length,numA 0 (ts.map .t),[]⟩ ⟨fun _=>.nilIface,fun b=>b∈L⟩ (fun b=>b∈L) (fun _=>[]) ⟨vs.toArray,[]⟩ w:=by
  refine { size:=by simp [hlen],defs:=rfl,tm:=fun t=>?_,utm:=fun t=>?_,ob:=fun id o hid=>by simp at hid,uob:=fun id o hid=>by simp at hid,root:=fun id o hid=>by simp at hid,sep:=fun i j oi oj _ hi=>by simp at hi,SB:=fun b hb=>hb,Blt:=fun b hb=>hL b hb,Bin:=fun b hb=>.inl hb,fown:=fun id o hid=>by simp at hid,fsep:=fun i j oi oj _ hi=>by simp at hi,below:=But.refl _ _ _,one:=fun _=>rfl,an:=Nat.le_refl _,av:=fun i _=>rfl }
  ·rcases hnum ts 0 t with h1 | ⟨i,x,h1,h2,h3⟩
   ·rw [h1]; exact ⟨[],by simp [footA],by simp⟩
   ·rw [h3]
    obtain ⟨v,L',q1,q2,q3⟩:=footTs_get hf h2
    refine ⟨L',?_,q3⟩
    simp only [footA]
    have : (Act.tmps ⟨vs.toArray,[]⟩).getD t undef=v:=by
     rw [show t=i by omega]
     simp [q1]
    rw [this]; exact q2
  ·rcases hnum ts 0 t with h1 | ⟨i,x,h1,h2,h3⟩
   ·rw [h1]; rfl
   ·rw [h3]; rfl
 refine (h.2 w (fun b=>b∈L) (fun _=>False) vs ⟨fun _=>.nilIface,fun b=>b∈L⟩ _ _ hr).mono fun e w' hh=>?_
 obtain ⟨v,hv',S',F',L',rfl,h1,h2,_⟩:=hh
 simp only [footA,footT] at h2
 obtain ⟨rfl,_⟩:=h2
 exact ⟨rfl,h1.below.os,h1.below.tape,h1.below.output,h1.below.size,fun k hk=>h1.below.block k hk (fun h=>h)⟩
theorem trodAll_stays {H:Type} {enc:TypeId × Value→H} {P:Program} (hl:laidOutB P=true) {W W':World} (hb:Below W.heap.size W W') : ∀ {ts:List TypeId} {vs:List Value} {ds:List (DataW H)} {ps:List MemPlace},(ts.all fun t=>P.readableRec t && decide (t < P.types.size))=true →
 DataW.TrodAll enc P W 0 (fun _=>true) true ts vs ds ps→(∀ x∈ps,x.block < W.heap.size)→DataW.TrodAll enc P W' 0 (fun b=>decide (b < W.heap.size)) true ts vs ds ps
 | [], _, _, _, _, h, _ => by
   obtain ⟨rfl,rfl,rfl⟩:=trodAll_nil h
   exact trodAll_mk0
 | t :: ts, _, _, _, ht, h, hlt => by
   obtain ⟨v,vs,d,ds,p,q,rfl,rfl,rfl,h1,h2⟩:=trodAll_cons h
   simp only [List.all_cons,Bool.and_eq_true,decide_eq_true_eq] at ht
   exact trodAll_cons_mk (Below.trod hl ht.1.1 ht.1.2 h1 hb fun x hx=>hlt x (List.mem_append_left _ hx)) (trodAll_stays hl hb (by simpa using ht.2) h2 fun x hx=>hlt x (List.mem_append_right _ hx))
theorem post_of_below {H:Type} {enc:TypeId × Value→H} {P:Program} {f:Func} {s:ChangeSpec} {tb:TypeId} {apart:Bool} {W W':World} {args:Array Value} {ds gs:List (DataW H)} {before:List MemPlace}
 (hW:DataW.Whole enc P f.params.toList s.vars apart W args.toList ds gs before) (hv:s.vars=[]) (hb:Below W.heap.size W W') (hl:laidOutB P=true) (ht:(f.params.toList.all fun t=>P.readableRec t && decide (t < P.types.size))=true)
 (hr:f.resultTypes = #[tb]) (htb:P.underlying tb=some .bool) (hfn:∀ ds,gs=[]→ds.length=f.params.size→(s.fn H (ds ++ gs)).results=[.lit (.bool true)]∧(s.fn H (ds ++ gs)).args=ds∧(s.fn H (ds ++ gs)).vars=[]) :
 s.post enc P f apart true false false W args (.bool true) W':=by
 have hlt:=hW.lt
 have hW':=hW
 obtain ⟨p,q,h1,h2,rfl,h3,h4⟩:=hW
 rw [hv] at h2
 obtain ⟨rfl,rfl⟩:=trodVars_none h2
 have hlen : ∀ (ts:List TypeId) (vs:List Value) (ds:List (DataW H)) (p:List MemPlace),DataW.TrodAll enc P W 0 (fun _=>true) true ts vs ds p→ds.length=ts.length:=by
  intro ts
  induction ts with
  | nil => intro vs ds p h; obtain ⟨_,rfl,_⟩:=trodAll_nil h; rfl
  | cons t ts ih => intro vs ds p h; obtain ⟨v,vs,d,ds,p,q,rfl,rfl,rfl,_,h2⟩:=trodAll_cons h; simp [ih _ _ _ h2]
 obtain ⟨e1,e2,e3⟩:=hfn ds rfl (by rw [hlen _ _ _ _ h1]; simp)
 simp only [List.append_nil] at hlt
 refine ⟨ds,[],p ++ [],[],p,[],hW',?_,?_,?_,?_,fun h=>by cases h⟩
 ·rw [e1,hr]
  exact trodAll_cons_mk (shut_bool htb _) trodAll_mk0
 ·rw [e2]
  exact trodAll_stays hl hb ht h1 hlt
 ·rw [e3,hv]; exact rfl
 ·exact hb.frame _
end Go.Proofs.YtmgdkkhnjkepiaaGreat.BX
namespace Go.Proofs.YtmgdkkhnjkepiaaGreat.BX
open Nat renaming reduceEqDiff → zA, reduceLT → zB, reduceLeDiff → zC, reduceAdd → zD, reduceMul → zE, reduceSub → zF, reduceBEq → zG
set_option linter.unusedSectionVars false
set_option linter.unusedSimpArgs false
set_option linter.unusedVariables false
open Go Go.RowKit
set_option maxRecDepth 20000
set_option maxHeartbeats 400000
abbrev eStringS (xs:List (List UInt8)) : T:=.sl (xs.map T.s)
structure Grant where
 name : List UInt8
 level : Int
 deriving DecidableEq
def eGrant (x:Grant) : T:=.ag [.s x.name,.i .i64 x.level]
@[push_cast] theorem eGrant_len {x:Grant} : (eGrant x).cells.length=2:=rfl
@[push_cast] theorem eGrant_isAg {x:Grant} : (eGrant x).isAg=true:=rfl
abbrev eGrantS (xs:List Grant) : T:=.sl (xs.map eGrant)
structure Event where
 id : List UInt8
 sender : List UInt8
 typ : List UInt8
 isState : Bool
 key : List UInt8
 time : Int
 prev : List (List UInt8)
 auth : List (List UInt8)
 value : List UInt8
 grants : List Grant
 deriving DecidableEq
def eEvent (x:Event) : T:=.ag [.s x.id,.s x.sender,.s x.typ,.b x.isState,.s x.key,.i .i64 x.time,eStringS x.prev,eStringS x.auth,.s x.value,eGrantS x.grants]
@[push_cast] theorem eEvent_len {x:Event} : (eEvent x).cells.length=10:=rfl
@[push_cast] theorem eEvent_isAg {x:Event} : (eEvent x).isAg=true:=rfl
@[push_cast] theorem eEvent_ones {x:Event} : T.allOne (eEvent x).cells=true:=rfl
@[push_cast] theorem eEvent_one {x:Event} : (eEvent x).one=false:=rfl
abbrev eEventS (xs:List Event) : T:=.sl (xs.map eEvent)
structure Room where
 events : List Event
 deriving DecidableEq
def eRoom (x:Room) : T:=.ag [eEventS x.events]
structure Entry where
 typ : List UInt8
 key : List UInt8
 id : List UInt8
 deriving DecidableEq
def eEntry (x:Entry) : T:=.ag [.s x.typ,.s x.key,.s x.id]
@[push_cast] theorem eEntry_len {x:Entry} : (eEntry x).cells.length=3:=rfl
@[push_cast] theorem eEntry_isAg {x:Entry} : (eEntry x).isAg=true:=rfl
@[push_cast] theorem eEntry_ones {x:Entry} : T.allOne (eEntry x).cells=true:=rfl
@[push_cast] theorem eEntry_fits {x:Entry} : fits (.ag [.leaf,.leaf,.leaf]) (eEntry x)=true:=rfl
@[push_cast] theorem eEntry_one {x:Entry} : (eEntry x).one=false:=rfl
abbrev eEntryS (xs:List Entry) : T:=.sl (xs.map eEntry)
abbrev eEntrySS (xs:List (List Entry)) : T:=.sl (xs.map eEntryS)
structure Slot where
 typ : List UInt8
 key : List UInt8
 deriving DecidableEq
def eSlot (x:Slot) : T:=.ag [.s x.typ,.s x.key]
end Go.Proofs.YtmgdkkhnjkepiaaGreat.BX
namespace Go.Proofs.YtmgdkkhnjkepiaaGreat.BX
open Nat renaming reduceEqDiff → zA, reduceLT → zB, reduceLeDiff → zC, reduceAdd → zD, reduceMul → zE, reduceSub → zF, reduceBEq → zG
set_option linter.unusedSectionVars false
set_option linter.unusedSimpArgs false
set_option linter.unusedVariables false
open Go Go.RowKit
set_option maxRecDepth 20000
set_option maxHeartbeats 400000
variable [Bd] (hB:Bd.B≤2147483648)
include hB
end Go.Proofs.YtmgdkkhnjkepiaaGreat.BX
namespace Go.Proofs.YtmgdkkhnjkepiaaGreat.BX
open Nat renaming reduceEqDiff → zA, reduceLT → zB, reduceLeDiff → zC, reduceAdd → zD, reduceMul → zE, reduceSub → zF, reduceBEq → zG
set_option linter.unusedSectionVars false
set_option linter.unusedSimpArgs false
set_option linter.unusedVariables false
open Go Go.RowKit
set_option maxRecDepth 20000
set_option maxHeartbeats 400000
theorem bytesLess_eq : ∀ (x y:List UInt8),Op.bytesLess x y=decide (x < y)
 | [], [] => by simp [Op.bytesLess]
 | _ :: _, [] => by simp [Op.bytesLess]
 | [], _ :: _ => by simp [Op.bytesLess]
 | a :: x, b :: y => by
   rw [Op.bytesLess,bytesLess_eq x y]
   simp only [List.cons_lt_cons_iff]
   by_cases h1 : a < b<;>by_cases h2 : a=b<;>by_cases h3 : x < y<;>simp [h1,h2,h3]
theorem less_irrefl (x:List UInt8) : Op.bytesLess x x=false:=by
 rw [bytesLess_eq]; simp [List.lt_irrefl]
theorem less_trans {x y z:List UInt8} (h:Op.bytesLess x y=true) (k:Op.bytesLess y z=true) : Op.bytesLess x z=true:=by
 rw [bytesLess_eq] at h k ⊢
 simp only [decide_eq_true_eq] at h k ⊢
 exact List.lt_trans h k
theorem less_total {x y:List UInt8} (h:Op.bytesLess x y=false) (k:Op.bytesLess y x=false) : x=y:=by
 rw [bytesLess_eq] at h k
 simp only [decide_eq_false_iff_not] at h k
 exact List.le_antisymm k h
def before (a b:Entry) : Bool:=if ¬ a.typ=b.typ then Op.bytesLess a.typ b.typ else Op.bytesLess a.key b.key
open Classical in
noncomputable def inOrd (s:List Entry) : Bool:=decide (∀ (i:Nat) (a b:Entry),s[i]? = some a→s[i + 1]? = some b→before a b=true)
noncomputable def stateOk (s:List Entry) : Bool:=decide (∀ e∈s,e.id≠[]) && (decide ((s.length : Int)≤300) && inOrd s)
theorem inOrd_false {s:List Entry} {i:Nat} {a b:Entry} (h1:s[i]? = some a) (h2:s[i + 1]? = some b) (h:before a b=false) : inOrd s=false:=by
 unfold inOrd
 rw [decide_eq_false_iff_not]
 intro hh
 rw [hh i a b h1 h2] at h
 cases h
theorem toNat_s {i:Nat} : ((i:Int) + 1).toNat=i + 1:=by omega
theorem toNat_sp {i:Nat} : ((i:Int) + 1 - 1).toNat=i:=by omega
variable [Bd]
theorem l4Before (a b:Entry) : Con P0 178 [eEntry a,eEntry b] (.t (.b (before a b))) []:=by
 refine Con.intro (fn:=Tryz.f178) [.tmp 4] (fun _=>(0,[])) mixed (by kernel_rfl) rfl (by decide) rfl (by rfl) (by kernel_rfl) ?_
 simp -implicitDefEqProofs (maxSteps:=2000000) only [push_cast,zA,zB,zC,zD,zE,zF,zG,↓reduceIte,reduceCtorEq,eEntry]
 unfold before
 split<;>rfl
theorem l4InOrder (s:List Entry) : Con P0 188 [eEntryS s] (.t (.b (inOrd s))) []:=by
 refine Con.intro (fn:=Tryz.f188) [.tmp 2] (fun i=>if i=4 then (11,[]) else (0,[])) mixed (by kernel_rfl) rfl (by decide) rfl (by rfl) (by kernel_rfl) ?_
 simp -implicitDefEqProofs (maxSteps:=2000000) only [push_cast,zA,zB,zC,zD,zE,zF,zG,↓reduceIte,reduceCtorEq]
 refine WL.loop (ι:=Nat) (D:=(fun i=>if i=4 then (11,[]) else (0,[]))) (fun i=>(s=[] ∨ i + 1≤s.length)∧∀ (j:Nat) (a b:Entry),j < i→s[j]? = some a→s[j + 1]? = some b→before a b=true) (fun i=>⟨21,[(0,.t (eEntryS s)),(3,.t (.i .i64 (i + 1 : Nat)))],[]⟩) (fun i=>s.length - i) mixed (by kernel_rfl) 0 ⟨by cases s<;>simp,fun j a b hj=>absurd hj (by omega)⟩ (Keep.wk (ids:=[]) ?_) ?_
 ·simp only [push_cast,zA,zB,zC,zD,zE,zF,zG,↓reduceIte,reduceCtorEq]<;>rfl
 ·rintro i ⟨hi,hc⟩
  simp -implicitDefEqProofs (maxSteps:=2000000) only [push_cast,zA,zB,zC,zD,zE,zF,zG,↓reduceIte,reduceCtorEq,eEntry_len,eEntry_isAg,eEntry_ones,eEntry_one]
  intro hl
  have:=Bd.hi
  split
  ·rename_i h
   refine ⟨by unfold inI64; omega,by omega,fun a ha=>⟨by omega,fun b hb=>CallV.t (l4Before a b) (.inl rfl) ?_⟩⟩
   rw [toNat_sp] at ha
   rw [toNat_s] at hb
   simp -implicitDefEqProofs (maxSteps:=2000000) only [push_cast,zA,zB,zC,zD,zE,zF,zG,↓reduceIte,reduceCtorEq]
   cases hab : before a b with
   | false => exact congrArg T.b (inOrd_false ha hb hab).symm
   | true =>
     simp only [Bool.not_true,Bool.false_eq_true,if_false]
     refine ⟨by unfold inI64; omega,i + 1,⟨by omega,fun j a' b' hj h1 h2=>?_⟩,by omega,Keep.wk (ids:=[]) ?_⟩
     ·rcases Nat.lt_or_ge j i with hj' | hj'
      ·exact hc j a' b' hj' h1 h2
      ·have : j=i:=by omega
       subst this
       rw [h1] at ha; rw [h2] at hb
       cases ha; cases hb; exact hab
     ·simp only [push_cast,zA,zB,zC,zD,zE,zF,zG,↓reduceIte,reduceCtorEq]<;>first | rfl | (push_cast; rfl) | trivial
  ·refine congrArg T.b (Eq.symm ?_)
   unfold inOrd
   refine @decide_eq_true _ (Classical.propDecidable _) ?_
   intro j a b h1 h2
   refine hc j a b ?_ h1 h2
   have:=(List.getElem?_eq_some_iff.1 h2).1
   omega
theorem specStateOk (s:List Entry) : Con P0 119 [eEntryS s] (.t (.b (stateOk s))) []:=by
 refine Con.intro (fn:=Tryz.f119) [.tmp 2] (fun _=>(0,[])) mixed (by kernel_rfl) rfl (by decide) rfl (by rfl) (by kernel_rfl) ?_
 simp -implicitDefEqProofs (maxSteps:=2000000) only [push_cast,zA,zB,zC,zD,zE,zF,zG,↓reduceIte,reduceCtorEq]
 refine WL.loop (ι:=Nat) (D:=(fun _=>(0,[]))) (fun i=>i≤s.length∧∀ e∈s.take i,e.id≠[]) (fun i=>⟨23,[(0,.t (eEntryS s)),(3,.t (.i .i64 i))],[]⟩) (fun i=>s.length - i) mixed (by kernel_rfl) 0 ⟨by omega,by simp⟩ (Keep.wk (ids:=[]) ?_) ?_
 ·simp only [push_cast,zA,zB,zC,zD,zE,zF,zG,↓reduceIte,reduceCtorEq]<;>rfl
 ·rintro i ⟨hi,hc⟩
  simp -implicitDefEqProofs (maxSteps:=2000000) only [push_cast,zA,zB,zC,zD,zE,zF,zG,↓reduceIte,reduceCtorEq,eEntry_len,eEntry_isAg,eEntry_ones,eEntry_one]
  intro hl
  have:=Bd.hi
  split
  ·rename_i h
   refine ⟨by omega,fun a ha=>?_⟩
   rw [Int.toNat_natCast] at ha
   simp -implicitDefEqProofs (maxSteps:=2000000) only [push_cast,zA,zB,zC,zD,zE,zF,zG,↓reduceIte,reduceCtorEq,eEntry]
   have hm : a∈s:=List.mem_of_getElem? ha
   split
   ·rename_i hid
    refine congrArg T.b (Eq.symm ?_)
    unfold stateOk
    rw [decide_eq_false (fun hh=>hh a hm hid)]
    rfl
   ·rename_i hid
    refine ⟨by unfold inI64; omega,i + 1,⟨by omega,fun e he=>?_⟩,by omega,Keep.wk (ids:=[]) ?_⟩
    ·rw [List.take_add_one,ha] at he
     rcases List.mem_append.1 he with he | he
     ·exact hc e he
     ·simp at he; subst he; exact hid
    ·simp only [push_cast,zA,zB,zC,zD,zE,zF,zG,↓reduceIte,reduceCtorEq]<;>rfl
  ·have hi : i=s.length:=by omega
   subst hi
   rw [List.take_length] at hc
   intro _
   unfold stateOk
   rw [decide_eq_true hc,Bool.true_and]
   split
   ·rename_i h3
    refine Callx.closed (l4InOrder s) rfl rfl (.inl rfl) ?_
    simp -implicitDefEqProofs (maxSteps:=2000000) only [push_cast,zA,zB,zC,zD,zE,zF,zG,↓reduceIte,reduceCtorEq]
    rw [decide_eq_true h3,Bool.true_and]
   ·rename_i h3
    rw [decide_eq_false h3,Bool.false_and]
def firstAt {α:Type} (p:α→Bool) : List α→Int→Int
 | [], _ => -1
 | x :: xs, i => if p x=true then i else firstAt p xs (i + 1)
theorem firstAt_at {α:Type} {p:α→Bool} {xs:List α} : ∀ {i:Nat} {a:α} {k:Int},xs[i]? = some a→(∀ x∈xs.take i,p x=false)→p a=true→firstAt p xs k=k + i:=by
 induction xs with
 | nil => intro i a k h; simp at h
 | cons x xs ih =>
   intro i a k h h0 ha
   cases i with
   | zero => simp at h; subst h; simp [firstAt,ha]
   | succ i =>
     simp only [List.getElem?_cons_succ] at h
     have hx : p x=false:=h0 x (by simp)
     simp only [firstAt,hx,Bool.false_eq_true,if_false]
     rw [ih h (fun y hy=>h0 y (by simp [hy])) ha]
     omega
theorem firstAt_all {α:Type} {p:α→Bool} {xs:List α} : ∀ {k:Int},(∀ x∈xs,p x=false)→firstAt p xs k = -1:=by
 induction xs with
 | nil => intro k _; rfl
 | cons x xs ih => intro k h; simp only [firstAt,h x (by simp),Bool.false_eq_true,if_false]; exact ih fun y hy=>h y (by simp [hy])
end Go.Proofs.YtmgdkkhnjkepiaaGreat.BX
namespace Go.Proofs.YtmgdkkhnjkepiaaGreat.BX
open Nat renaming reduceEqDiff → zA, reduceLT → zB, reduceLeDiff → zC, reduceAdd → zD, reduceMul → zE, reduceSub → zF, reduceBEq → zG
set_option linter.unusedSectionVars false
set_option linter.unusedSimpArgs false
set_option linter.unusedVariables false
open Go Go.RowKit
set_option maxRecDepth 20000
set_option maxHeartbeats 400000
def same (a b:Entry) : Bool:=decide (a.typ=b.typ) && decide (a.key=b.key)
abbrev SlotK:=List UInt8 × List UInt8
def Entry.slot (e:Entry) : SlotK:=(e.typ,e.key)
def live (s:List Entry) : List (SlotK × List UInt8):=s.foldl (fun m e=>aset e.slot e.id m) []
theorem before_slot {a b:Entry} (h:before a b=true) : a.slot≠b.slot:=by
 intro e
 simp only [Entry.slot,Prod.mk.injEq] at e
 unfold before at h
 rw [e.1,e.2] at h
 simp [less_irrefl] at h
theorem before_trans {a b c:Entry} (h:before a b=true) (k:before b c=true) : before a c=true:=by
 unfold before at *
 by_cases h1 : a.typ=b.typ<;>by_cases h2 : b.typ=c.typ<;>simp only [h1,h2,not_true,not_false_eq_true,if_true,if_false] at h k ⊢
 ·exact less_trans h k
 ·exact k
 ·rw [h2] at h1
  simp only [h1,not_false_eq_true,if_true] at h ⊢
  exact h
 ·have h3:=less_trans h k
  by_cases h4 : a.typ=c.typ
  ·rw [h4,less_irrefl] at h3; cases h3
  ·simp only [h4,not_false_eq_true,if_true]; exact h3
theorem inOrd_spec {s:List Entry} (h:inOrd s=true) : ∀ (i:Nat) (a b:Entry),s[i]? = some a→s[i + 1]? = some b→before a b=true:=by
 unfold inOrd at h
 exact @of_decide_eq_true _ (Classical.propDecidable _) h
theorem inOrd_far {s:List Entry} (h:inOrd s=true) : ∀ (d i:Nat) (a b:Entry),s[i]? = some a→s[i + 1 + d]? = some b→before a b=true
 | 0, i, a, b, ha, hb => inOrd_spec h i a b ha hb
 | d + 1, i, a, b, ha, hb => by
   have hl:=(List.getElem?_eq_some_iff.1 hb).1
   have hm : s[i + 1 + d]? = some (s[i + 1 + d]'(by omega)):=List.getElem?_eq_getElem (by omega)
   exact before_trans (inOrd_far h d i a _ ha hm) (inOrd_spec h (i + 1 + d) _ b hm (by rw [← hb]; congr 1))
theorem stateOk_ord {s:List Entry} (h:stateOk s=true) : inOrd s=true∧(s.length : Int)≤300∧∀ e∈s,e.id≠[]:=by
 unfold stateOk at h
 simp only [Bool.and_eq_true,decide_eq_true_eq] at h
 exact ⟨h.2.2,h.2.1,h.1⟩
def findId (k:SlotK) : List Entry→List UInt8
 | [] => []
 | e :: r => if e.slot=k then e.id else findId k r
theorem same_slot {x:Entry} {a b i:List UInt8} : same x ⟨a,b,i⟩=decide (x.slot=(a,b)):=by
 simp [same,Entry.slot]
theorem findId_at {k:SlotK} {q:Entry→Bool} (hq:∀ e,q e=decide (e.slot=k)) : ∀ {s:List Entry} {n:Int},(firstAt q s n = -1∧findId k s=[]) ∨ ∃ (j:Nat) (e:Entry),firstAt q s n=n + j∧s[j]? = some e∧findId k s=e.id
 | [], n => .inl ⟨rfl,rfl⟩
 | e :: r, n => by
   simp only [firstAt,findId,hq]
   by_cases he : e.slot=k
   ·simp only [he,decide_true,if_true]
    exact .inr ⟨0,e,by simp,rfl,rfl⟩
   ·simp only [he,decide_false,Bool.false_eq_true,if_false]
    rcases findId_at hq (s:=r) (n:=n + 1) with h | ⟨j,x,h1,h2,h3⟩
    ·exact .inl h
    ·exact .inr ⟨j + 1,x,by rw [h1]; push_cast; omega,by simpa using h2,h3⟩
noncomputable def fId (s:List Entry) (a b:List UInt8) : List UInt8:=if stateOk s=true then findId (a,b) s else []
noncomputable def fOk (s:List Entry) (a b:List UInt8) : Bool:=if stateOk s=true then decide (¬ findId (a,b) s=[]) else false
variable [Bd]
theorem l4Same (a b:Entry) : Con P0 215 [eEntry a,eEntry b] (.t (.b (same a b))) []:=by
 refine Con.intro (fn:=Tryz.f215) [.tmp 4] (fun _=>(0,[])) mixed (by kernel_rfl) rfl (by decide) rfl (by rfl) (by kernel_rfl) ?_
 simp -implicitDefEqProofs (maxSteps:=2000000) only [push_cast,zA,zB,zC,zD,zE,zF,zG,↓reduceIte,reduceCtorEq,eEntry]
 unfold same
 split<;>simp [*]
theorem l4At (s:List Entry) (e:Entry) : Con P0 179 [eEntryS s,eEntry e] (.t (.i .i64 (firstAt (fun x=>same x e) s 0))) []:=by
 refine Con.intro (fn:=Tryz.f179) [.tmp 4] (fun i=>if i=4 then (6,[]) else (0,[])) mixed (by kernel_rfl) rfl (by decide) rfl (by rfl) (by kernel_rfl) ?_
 simp -implicitDefEqProofs (maxSteps:=2000000) only [push_cast,zA,zB,zC,zD,zE,zF,zG,↓reduceIte,reduceCtorEq]
 refine WL.loop (ι:=Nat) (D:=(fun i=>if i=4 then (6,[]) else (0,[]))) (fun i=>i≤s.length∧∀ x∈s.take i,same x e=false) (fun i=>⟨19,[(0,.t (eEntryS s)),(3,.rf 0 0),(5,.t (.i .i64 i))],[.box (.t (eEntry e))]⟩) (fun i=>s.length - i) mixed (by kernel_rfl) 0 ⟨by omega,by simp⟩ (Keep.wk (ids:=[some 0]) ?_) ?_
 ·simp only [push_cast,zA,zB,zC,zD,zE,zF,zG,↓reduceIte,reduceCtorEq]<;>rfl
 ·rintro i ⟨hi,hc⟩
  simp -implicitDefEqProofs (maxSteps:=2000000) only [push_cast,zA,zB,zC,zD,zE,zF,zG,↓reduceIte,reduceCtorEq,eEntry_len,eEntry_isAg,eEntry_ones,eEntry_one]
  intro hl
  have:=Bd.hi
  split
  ·rename_i h
   refine ⟨by omega,fun a ha=>CallV.t (l4Same a e) (.inl rfl) ?_⟩
   rw [Int.toNat_natCast] at ha
   simp -implicitDefEqProofs (maxSteps:=2000000) only [push_cast,zA,zB,zC,zD,zE,zF,zG,↓reduceIte,reduceCtorEq]
   split
   ·rename_i hne
    refine congrArg (T.i .i64) ?_
    rw [firstAt_at ha hc hne]; omega
   ·rename_i h0
    refine ⟨by unfold inI64; omega,i + 1,⟨by omega,fun x hx=>?_⟩,by omega,Keep.wk (ids:=[some 0]) ?_⟩
    ·rw [List.take_add_one,ha] at hx
     rcases List.mem_append.1 hx with hx | hx
     ·exact hc x hx
     ·simp at hx; subst hx; simpa using h0
    ·simp only [push_cast,zA,zB,zC,zD,zE,zF,zG,↓reduceIte,reduceCtorEq]<;>rfl
  ·have hi : i=s.length:=by omega
   subst hi
   rw [List.take_length] at hc
   exact congrArg (T.i .i64) (firstAt_all hc).symm
theorem l4Find (s:List Entry) (a b:List UInt8) : Con P0 107 [eEntryS s,.s a,.s b] (.t (.s (findId (a,b) s))) []:=by
 refine Con.intro (fn:=Tryz.f107) [.tmp 6] (fun _=>(0,[])) mixed (by kernel_rfl) rfl (by decide) rfl (by rfl) (by kernel_rfl) ?_
 simp -implicitDefEqProofs (maxSteps:=2000000) only [push_cast,zA,zB,zC,zD,zE,zF,zG,↓reduceIte,reduceCtorEq]
 refine Callx.closed (l4At s ⟨a,b,[]⟩) rfl rfl (.inl rfl) ?_
 simp -implicitDefEqProofs (maxSteps:=2000000) only [push_cast,zA,zB,zC,zD,zE,zF,zG,↓reduceIte,reduceCtorEq]
 rcases findId_at (k:=(a,b)) (fun e=>same_slot (x:=e) (a:=a) (b:=b) (i:=[])) (s:=s) (n:=0) with ⟨h1,h2⟩ | ⟨j,e,h1,h2,h3⟩
 ·simp only [h1,h2]
  rw [if_pos (by omega)]
  trivial
 ·simp only [h1,h3]
  have hj:=(List.getElem?_eq_some_iff.1 h2).1
  rw [if_neg (by omega)]
  refine ⟨by omega,fun x hx=>?_⟩
  have hx2 : x=e:=by
   rw [show ((0:Int) + j).toNat=j by omega,h2] at hx
   exact (Option.some.inj hx).symm
  subst hx2
  simp -implicitDefEqProofs (maxSteps:=2000000) only [push_cast,zA,zB,zC,zD,zE,zF,zG,↓reduceIte,reduceCtorEq,eEntry]
theorem specFind (s:List Entry) (a b:List UInt8) : Con P0 158 [eEntryS s,.s a,.s b] (.t (.tp [.s (fId s a b),.b (fOk s a b)])) []:=by
 refine Con.intro (fn:=Tryz.f158) [.tmp 6,.tmp 7] (fun _=>(0,[])) mixed (by kernel_rfl) rfl (by decide) rfl (by rfl) (by kernel_rfl) ?_
 simp -implicitDefEqProofs (maxSteps:=2000000) only [push_cast,zA,zB,zC,zD,zE,zF,zG,↓reduceIte,reduceCtorEq]
 refine Callx.closed (specStateOk s) rfl rfl (.inl rfl) ?_
 simp -implicitDefEqProofs (maxSteps:=2000000) only [push_cast,zA,zB,zC,zD,zE,zF,zG,↓reduceIte,reduceCtorEq]
 unfold fId fOk
 cases hok : stateOk s with
 | false => simp
 | true =>
   simp only [Bool.not_true,Bool.false_eq_true,if_false,if_true]
   refine Callx.closed (l4Find s a b) rfl rfl (.inl rfl) ?_
   simp -implicitDefEqProofs (maxSteps:=2000000) only [push_cast,zA,zB,zC,zD,zE,zF,zG,↓reduceIte,reduceCtorEq]
end Go.Proofs.YtmgdkkhnjkepiaaGreat.BX
namespace Go.Proofs.YtmgdkkhnjkepiaaGreat.BX
open Nat renaming reduceEqDiff → zA, reduceLT → zB, reduceLeDiff → zC, reduceAdd → zD, reduceMul → zE, reduceSub → zF, reduceBEq → zG
set_option linter.unusedSectionVars false
set_option linter.unusedSimpArgs false
set_option linter.unusedVariables false
open Go Go.RowKit
def Entry.pair (e:Entry) : SlotK × List UInt8:=(e.slot,e.id)
def Ordered (s:List Entry) : Prop:=s.Pairwise fun a b=>before a b=true
theorem ordered_of {s:List Entry} (h:inOrd s=true) : Ordered s:=by
 refine List.pairwise_iff_getElem.2 fun i j hi hj hij=>?_
 refine inOrd_far h (j - (i + 1)) i _ _ (List.getElem?_eq_getElem hi) ?_
 rw [show i + 1 + (j - (i + 1))=j by omega]
 exact List.getElem?_eq_getElem hj
theorem inOrd_of {s:List Entry} (h:Ordered s) : inOrd s=true:=by
 unfold inOrd
 refine @decide_eq_true _ (Classical.propDecidable _) fun i a b ha hb=>?_
 obtain ⟨hi,rfl⟩:=List.getElem?_eq_some_iff.1 ha
 obtain ⟨hj,rfl⟩:=List.getElem?_eq_some_iff.1 hb
 exact List.pairwise_iff_getElem.1 h i (i + 1) hi hj (by omega)
theorem before_asymm {a b:Entry} (h:before a b=true) : before b a=false:=by
 cases hb : before b a with
 | false => rfl
 | true => exact absurd rfl (before_slot (before_trans h hb))
theorem before_total {a b:Entry} (h:before a b=false) : a.slot=b.slot ∨ before b a=true:=by
 unfold before at *
 by_cases h1 : a.typ=b.typ
 ·simp only [h1,not_true,if_false] at h ⊢
  cases h2 : Op.bytesLess b.key a.key with
  | true => exact .inr rfl
  | false => exact .inl (by simp only [Entry.slot,h1,less_total h h2])
 ·have h1' : ¬ b.typ=a.typ:=fun e=>h1 e.symm
  simp only [h1,h1',not_false_eq_true,if_true] at h ⊢
  cases h2 : Op.bytesLess b.typ a.typ with
  | true => exact .inr rfl
  | false => exact absurd (less_total h h2) h1
theorem before_same {a b c:Entry} (h:a.slot=b.slot) : before a c=before b c∧before c a=before c b:=by
 simp only [Entry.slot,Prod.mk.injEq] at h
 unfold before
 rw [h.1,h.2]
 exact ⟨rfl,rfl⟩
def setL (s:List Entry) (e:Entry) (keep:Bool) : List Entry:=s.takeWhile (fun x=>before x e) ++ ((if (keep || decide (¬ e.id=[]))=true then [e] else []) ++ s.filter fun x=>before e x)
theorem setL_mem {s:List Entry} {e:Entry} {keep:Bool} {y:Entry} (h:y∈setL s e keep) : y∈s ∨ y=e:=by
 unfold setL at h
 rcases List.mem_append.1 h with h | h
 ·exact .inl ((List.takeWhile_prefix _).subset h)
 ·rcases List.mem_append.1 h with h | h
  ·split at h
   ·exact .inr (by simpa using h)
   ·cases h
  ·exact .inl (List.mem_filter.1 h).1
theorem setL_spec {e:Entry} {keep:Bool} : ∀ {s:List Entry},Ordered s→Ordered (setL s e keep) ∧
 ((keep || decide (¬ e.id=[]))=true→List.Perm ((setL s e keep).map Entry.pair) (aset e.slot e.id (s.map Entry.pair))) ∧
 ((keep || decide (¬ e.id=[]))=false→List.Perm ((setL s e keep).map Entry.pair) (adel e.slot (s.map Entry.pair)))
 | [], _ => by
   refine ⟨?_,fun h=>?_,fun h=>?_⟩
   ·unfold setL; split<;>simp [Ordered]
   ·unfold setL; rw [if_pos h]; simp [aset,Entry.pair]
   ·unfold setL; rw [if_neg (by rw [h]; simp)]; simp [adel]
 | x :: r, hs => by
   have hs':=hs
   unfold Ordered at hs'
   rw [List.pairwise_cons] at hs'
   obtain ⟨hx,hr⟩:=hs'
   have ih:=setL_spec (e:=e) (keep:=keep) (s:=r) hr
   by_cases h1 : before x e=true
   ·have hcons : setL (x :: r) e keep=x :: setL r e keep:=by
     unfold setL
     rw [List.takeWhile_cons_of_pos (p:=fun x=>before x e) h1,List.filter_cons_of_neg (p:=fun x=>before e x) (by rw [before_asymm h1]; simp)]
     simp
    have hne : x.pair.1≠e.slot:=before_slot h1
    rw [hcons]
    refine ⟨?_,fun h=>?_,fun h=>?_⟩
    ·unfold Ordered
     rw [List.pairwise_cons]
     exact ⟨fun y hy=>(setL_mem hy).elim (hx y) (fun h=>h ▸ h1),ih.1⟩
    ·simp only [List.map_cons,aset]
     rw [if_neg hne]
     exact (ih.2.1 h).cons _
    ·simp only [List.map_cons,adel]
     rw [if_neg hne]
     exact (ih.2.2 h).cons _
   ·have h1' : before x e=false:=by simpa using h1
    have htw : (x :: r).takeWhile (fun x=>before x e)=[]:=List.takeWhile_cons_of_neg (p:=fun x=>before x e) h1
    rcases before_total h1' with h2 | h2
    ·have hr2 : ∀ y∈r,before e y=true:=fun y hy=>by rw [← (before_same (c:=y) h2).1]; exact hx y hy
     have hf : (x :: r).filter (fun x=>before e x)=r:=by
      rw [List.filter_cons_of_neg (p:=fun x=>before e x) (by rw [← (before_same (c:=x) h2).1]; have:=before_slot (a:=x) (b:=x); intro hh; exact this hh rfl)]
      exact List.filter_eq_self.2 hr2
     unfold setL
     rw [htw,hf,List.nil_append]
     refine ⟨?_,fun h=>?_,fun h=>?_⟩
     ·split
      ·unfold Ordered; rw [List.singleton_append,List.pairwise_cons]; exact ⟨hr2,hr⟩
      ·exact hr
     ·rw [if_pos h]
      simp only [List.map_cons,List.singleton_append,aset]
      rw [if_pos (show x.pair.1=e.slot from h2)]
      simp [Entry.pair,h2]
     ·rw [if_neg (by rw [h]; simp)]
      simp only [List.map_cons,List.nil_append,adel]
      rw [if_pos (show x.pair.1=e.slot from h2)]
    ·have hr2 : ∀ y∈x :: r,before e y=true:=fun y hy=>by
      rcases List.mem_cons.1 hy with rfl | hy
      ·exact h2
      ·exact before_trans h2 (hx y hy)
     have hf : (x :: r).filter (fun x=>before e x)=x :: r:=List.filter_eq_self.2 hr2
     have hni : e.slot ∉ ((x :: r).map Entry.pair).map (·.1):=by
      intro hm
      obtain ⟨p,hp,hpe⟩:=List.mem_map.1 hm
      obtain ⟨y,hy,rfl⟩:=List.mem_map.1 hp
      exact before_slot (hr2 y hy) hpe.symm
     unfold setL
     rw [htw,hf,List.nil_append]
     refine ⟨?_,fun h=>?_,fun h=>?_⟩
     ·split
      ·unfold Ordered; rw [List.singleton_append,List.pairwise_cons]; exact ⟨hr2,hs⟩
      ·exact hs
     ·rw [if_pos h,aset_new hni,List.singleton_append]
      exact List.perm_append_comm (l₁:=[e.pair])
     ·rw [if_neg (by rw [h]; simp),adel_new hni]
      exact List.Perm.refl _
def patchL (s:List Entry) (ch:List Entry) : List Entry:=ch.foldl (fun o e=>setL o e false) s
abbrev enO (s:List Entry) : Ob:=.arr 100 3 (.own (.ag [.leaf,.leaf,.leaf])) (s.map eEntry)
end Go.Proofs.YtmgdkkhnjkepiaaGreat.BX
namespace Go.Proofs.YtmgdkkhnjkepiaaGreat.BX
open Nat renaming reduceEqDiff → zA, reduceLT → zB, reduceLeDiff → zC, reduceAdd → zD, reduceMul → zE, reduceSub → zF, reduceBEq → zG
set_option linter.unusedSectionVars false
set_option linter.unusedSimpArgs false
set_option linter.unusedVariables false
open Go Go.RowKit
set_option maxRecDepth 20000
set_option maxHeartbeats 400000
theorem setL_len_ord {s:List Entry} {e:Entry} {keep:Bool} (h:Ordered s) : (setL s e keep).length≤s.length + 1:=by
 obtain ⟨_,h2,h3⟩:=setL_spec (e:=e) (keep:=keep) h
 cases hb : (keep || decide (¬ e.id=[])) with
 | true =>
   have:=(h2 hb).length_eq
   have h4:=(aset_len (k:=e.slot) (v:=e.id) (l:=s.map Entry.pair)).2
   simp only [List.length_map] at this h4
   omega
 | false =>
   have:=(h3 hb).length_eq
   have h4:=(adel_sub (k:=e.slot) (l:=s.map Entry.pair)).length_le
   simp only [List.length_map] at this h4
   omega
theorem takeWhile_at {α:Type} {p:α→Bool} : ∀ {s:List α} {i:Nat},(∀ x∈s.take i,p x=true)→(∀ x,s[i]? = some x→p x=false)→s.takeWhile p=s.take i
 | [], i, _, _ => by simp
 | x :: r, 0, _, h => by
   rw [List.takeWhile_cons_of_neg (by rw [h x rfl]; simp)]; rfl
 | x :: r, i + 1, h1, h2 => by
   rw [List.takeWhile_cons_of_pos (h1 x (by simp)),takeWhile_at (i:=i) (fun y hy=>h1 y (by simp [hy])) (fun y hy=>h2 y (by simpa using hy))]
   rfl
theorem filter_take {α:Type} {p:α→Bool} {s:List α} {i:Nat} {a:α} (h:s[i]? = some a) : (s.take (i + 1)).filter p=(s.take i).filter p ++ (if p a=true then [a] else []):=by
 rw [List.take_add_one,h,List.filter_append]
 congr 1
 simp only [Option.toList_some,List.filter_cons,List.filter_nil]
def headL (s:List Entry) (e:Entry) (keep:Bool) : List Entry:=s.takeWhile (fun x=>before x e) ++ (if (keep || decide (¬ e.id=[]))=true then [e] else [])
theorem headL_len {s:List Entry} {e:Entry} {keep:Bool} : (headL s e keep).length≤s.length + 1:=by
 unfold headL
 have:=(List.takeWhile_prefix (p:=fun x=>before x e) (l:=s)).length_le
 rw [List.length_append]
 split<;>simp<;>omega
theorem setL_eq {s:List Entry} {e:Entry} {keep:Bool} : setL s e keep=headL s e keep ++ s.filter (fun x=>before e x):=by
 unfold setL headL
 rw [List.append_assoc]
theorem patchL_ord {ch:List Entry} : ∀ {s:List Entry},Ordered s→Ordered (patchL s ch)∧(patchL s ch).length≤s.length + ch.length:=by
 induction ch with
 | nil => intro s h; exact ⟨h,by simp [patchL]⟩
 | cons e ch ih =>
   intro s h
   have h1:=(setL_spec (e:=e) (keep:=false) h).1
   have h2:=setL_len_ord (e:=e) (keep:=false) h
   have h3:=ih h1
   refine ⟨h3.1,?_⟩
   have h4:=h3.2
   simp only [List.length_cons]
   show (patchL (setL s e false) ch).length≤_
   omega
theorem patchL_take {s ch:List Entry} {i:Nat} {e:Entry} (h:ch[i]? = some e) : patchL s (ch.take (i + 1))=setL (patchL s (ch.take i)) e false:=by
 unfold patchL
 rw [List.take_add_one,h,List.foldl_append]
 rfl
variable [Bd]
theorem l4Copy (s:List Entry) (hB:Bd.B≤2147483648) (hs:s.length < Bd.B) : Con P0 176 [eEntryS s] (.sr 0) [.arr 100 3 (.own (.ag [.leaf,.leaf,.leaf])) (s.map eEntry)]:=by
 refine Con.intro (fn:=Tryz.f176) [.tmp 2] (fun _=>(0,[])) mixed (by kernel_rfl) rfl (by decide) rfl (by rfl) (by kernel_rfl) ?_
 simp -implicitDefEqProofs (maxSteps:=2000000) only [push_cast,zA,zB,zC,zD,zE,zF,zG,↓reduceIte,reduceCtorEq]
 have:=Bd.lo
 exact ⟨rfl,by omega,rfl,by omega,allLen_map (f:=eEntry) (fun _=>rfl),fitsAll_map (f:=eEntry) (fun _=>eEntry_fits),hs,Close.of [some 1] rfl rfl rfl rfl (by simp only [push_cast,zA,zB,zC,zD,zE,zF,zG,↓reduceIte,reduceCtorEq]<;>rfl)⟩
theorem l4Set (s:List Entry) (e:Entry) (keep:Bool) (hB:Bd.B≤2147483648) (hl:2 * s.length + 1 < Bd.B) : Con P0 106 [eEntryS s,eEntry e,.b keep] (.sr 0) [.arr 100 3 (.own (.ag [.leaf,.leaf,.leaf])) ((setL s e keep).map eEntry)]:=by
 refine Con.intro (fn:=Tryz.f106) [.tmp 6] (fun i=>if i=11 then (6,[]) else if i=3 then (12,[]) else (0,[])) mixed (by kernel_rfl) rfl (by decide) rfl (by rfl) (by kernel_rfl) ?_
 simp -implicitDefEqProofs (maxSteps:=2000000) only [push_cast,zA,zB,zC,zD,zE,zF,zG,↓reduceIte,reduceCtorEq]
 have:=Bd.lo
 have hhl:=headL_len (s:=s) (e:=e) (keep:=keep)
 refine ⟨rfl,by omega,?_⟩
 refine WL.loop (ι:=Nat) (D:=(fun i=>if i=11 then (6,[]) else if i=3 then (12,[]) else (0,[]))) (fun i=>i≤s.length∧∀ x∈s.take i,before x e=true) (fun i=>⟨62,[(0,.t (eEntryS s)),(2,.t (.b keep)),(4,.rf 0 0),(7,.sr 1),(8,.t (.i .i64 i))],[.box (.t (eEntry e)),.arr 100 3 (.own (.ag [.leaf,.leaf,.leaf])) ((s.take i).map eEntry)]⟩) (fun i=>s.length - i) mixed (by kernel_rfl) 0 ⟨by omega,by simp⟩ (Keep.wk (ids:=[some 0,some 1]) ?_) ?_
 ·simp only [push_cast,zA,zB,zC,zD,zE,zF,zG,↓reduceIte,reduceCtorEq]<;>trivial
 ·rintro i ⟨hi,hc⟩
  simp -implicitDefEqProofs (maxSteps:=2000000) only [push_cast,zA,zB,zC,zD,zE,zF,zG,↓reduceIte,reduceCtorEq,eEntry_len,eEntry_isAg,eEntry_ones,eEntry_one]
  intro hls
  split
  ·rename_i h
   refine ⟨by omega,fun a ha=>CallV.t (l4Before a e) (.inl rfl) ?_⟩
   rw [Int.toNat_natCast] at ha
   simp -implicitDefEqProofs (maxSteps:=2000000) only [push_cast,zA,zB,zC,zD,zE,zF,zG,↓reduceIte,reduceCtorEq]
   cases hb : before a e with
   | true =>
     simp -implicitDefEqProofs (maxSteps:=2000000) only [push_cast,zA,zB,zC,zD,zE,zF,zG,↓reduceIte,reduceCtorEq,eEntry_len,eEntry_isAg,eEntry_ones,eEntry_one,eEntry_fits]
     refine ⟨by omega,fun c hc2=>?_⟩
     rw [Int.toNat_natCast,ha] at hc2
     cases hc2
     have hts : s.take (i + 1)=s.take i ++ [a]:=by rw [List.take_add_one,ha]; rfl
     refine ⟨rfl,by omega,rfl,by omega,by simp only [List.length_take]; omega,by unfold inI64; omega,i + 1,⟨by omega,fun x hx=>?_⟩,by omega,Keep.wk (ids:=[some 0,some 3]) ?_⟩
     ·rw [hts] at hx
      rcases List.mem_append.1 hx with hx | hx
      ·exact hc x hx
      ·simp at hx; subst hx; exact hb
     ·simp only [push_cast,zA,zB,zC,zD,zE,zF,zG,↓reduceIte,reduceCtorEq,hts,List.map_append]<;>rfl
   | false =>
     have htw : s.takeWhile (fun x=>before x e)=s.take i:=takeWhile_at hc (fun x hx=>by rw [ha] at hx; cases hx; exact hb)
     simp -implicitDefEqProofs (maxSteps:=2000000) only [push_cast,zA,zB,zC,zD,zE,zF,zG,↓reduceIte,reduceCtorEq,eEntry]
     split
     ·rename_i hk
      have hM : headL s e keep=s.take i ++ [e]:=by unfold headL; rw [htw,if_pos (by simp [hk])]
      refine ⟨rfl,by omega,rfl,by omega,by simp only [List.length_take]; omega,?_⟩
      refine WL.loop (ι:=Nat) (D:=(fun i=>if i=11 then (6,[]) else if i=3 then (12,[]) else (0,[]))) (fun j=>j≤s.length) (fun j=>⟨62,[(0,.t (eEntryS s)),(4,.rf 0 0),(7,.sr 1),(9,.t (.i .i64 j))],[.box (.t (eEntry e)),.arr 100 3 (.own (.ag [.leaf,.leaf,.leaf])) ((headL s e keep ++ (s.take j).filter (fun x=>before e x)).map eEntry)]⟩) (fun j=>s.length - j) mixed (by kernel_rfl) 0 (by omega) (Keep.wk (ids:=[some 0,some 3]) ?_) ?_
      ·simp only [push_cast,zA,zB,zC,zD,zE,zF,zG,↓reduceIte,reduceCtorEq,hM,eEntry,List.filter_nil,List.map_append]<;>first | rfl | exact ⟨rfl,rfl⟩ | exact ⟨rfl,rfl,rfl⟩
      intro j hj
      simp -implicitDefEqProofs (maxSteps:=2000000) only [push_cast,zA,zB,zC,zD,zE,zF,zG,↓reduceIte,reduceCtorEq,eEntry_len,eEntry_isAg,eEntry_ones,eEntry_one]
      intro _
      have hfl:=List.length_filter_le (fun x=>before e x) (s.take j)
      have htj:=List.length_take_le j s
      split
      ·rename_i h2
       refine ⟨by omega,fun b hb=>CallV.t (l4Before e b) (.inl rfl) ?_⟩
       rw [Int.toNat_natCast] at hb
       have hft:=filter_take (p:=fun x=>before e x) hb
       simp -implicitDefEqProofs (maxSteps:=2000000) only [push_cast,zA,zB,zC,zD,zE,zF,zG,↓reduceIte,reduceCtorEq]
       cases hbb : before e b with
       | true =>
         simp -implicitDefEqProofs (maxSteps:=2000000) only [push_cast,zA,zB,zC,zD,zE,zF,zG,↓reduceIte,reduceCtorEq,eEntry_len,eEntry_isAg,eEntry_ones,eEntry_one,eEntry_fits]
         refine ⟨by omega,fun c hc2=>?_⟩
         rw [Int.toNat_natCast,hb] at hc2
         cases hc2
         rw [hbb,if_pos rfl] at hft
         refine ⟨rfl,by omega,rfl,by omega,by omega,by unfold inI64; omega,j + 1,by omega,by omega,Keep.wk (ids:=[some 0,some 3]) ?_⟩
         simp only [push_cast,zA,zB,zC,zD,zE,zF,zG,↓reduceIte,reduceCtorEq,hft,List.map_append,List.append_assoc]<;>rfl
       | false =>
         simp -implicitDefEqProofs (maxSteps:=2000000) only [push_cast,zA,zB,zC,zD,zE,zF,zG,↓reduceIte,reduceCtorEq]
         rw [hbb,if_neg (by simp),List.append_nil] at hft
         refine ⟨by unfold inI64; omega,j + 1,by omega,by omega,Keep.wk (ids:=[some 0,some 1]) ?_⟩
         simp only [push_cast,zA,zB,zC,zD,zE,zF,zG,↓reduceIte,reduceCtorEq,hft]<;>rfl
      ·have hj : j=s.length:=by omega
       subst hj
       rw [List.take_length,← setL_eq]
       exact Close.of [some 1] rfl rfl rfl rfl (by simp only [push_cast,zA,zB,zC,zD,zE,zF,zG,↓reduceIte,reduceCtorEq]<;>rfl)
     ·rename_i hk
      split
      ·rename_i hid
       have hM : headL s e keep=s.take i ++ [e]:=by unfold headL; rw [htw,if_pos (by simp [hid])]
       refine ⟨rfl,by omega,rfl,by omega,by simp only [List.length_take]; omega,?_⟩
       refine WL.loop (ι:=Nat) (D:=(fun i=>if i=11 then (6,[]) else if i=3 then (12,[]) else (0,[]))) (fun j=>j≤s.length) (fun j=>⟨62,[(0,.t (eEntryS s)),(4,.rf 0 0),(7,.sr 1),(9,.t (.i .i64 j))],[.box (.t (eEntry e)),.arr 100 3 (.own (.ag [.leaf,.leaf,.leaf])) ((headL s e keep ++ (s.take j).filter (fun x=>before e x)).map eEntry)]⟩) (fun j=>s.length - j) mixed (by kernel_rfl) 0 (by omega) (Keep.wk (ids:=[some 0,some 3]) ?_) ?_
       ·simp only [push_cast,zA,zB,zC,zD,zE,zF,zG,↓reduceIte,reduceCtorEq,hM,eEntry,List.filter_nil,List.map_append]<;>first | rfl | exact ⟨rfl,rfl⟩ | exact ⟨rfl,rfl,rfl⟩
       intro j hj
       simp -implicitDefEqProofs (maxSteps:=2000000) only [push_cast,zA,zB,zC,zD,zE,zF,zG,↓reduceIte,reduceCtorEq,eEntry_len,eEntry_isAg,eEntry_ones,eEntry_one]
       intro _
       have hfl:=List.length_filter_le (fun x=>before e x) (s.take j)
       have htj:=List.length_take_le j s
       split
       ·rename_i h2
        refine ⟨by omega,fun b hb=>CallV.t (l4Before e b) (.inl rfl) ?_⟩
        rw [Int.toNat_natCast] at hb
        have hft:=filter_take (p:=fun x=>before e x) hb
        simp -implicitDefEqProofs (maxSteps:=2000000) only [push_cast,zA,zB,zC,zD,zE,zF,zG,↓reduceIte,reduceCtorEq]
        cases hbb : before e b with
        | true =>
          simp -implicitDefEqProofs (maxSteps:=2000000) only [push_cast,zA,zB,zC,zD,zE,zF,zG,↓reduceIte,reduceCtorEq,eEntry_len,eEntry_isAg,eEntry_ones,eEntry_one,eEntry_fits]
          refine ⟨by omega,fun c hc2=>?_⟩
          rw [Int.toNat_natCast,hb] at hc2
          cases hc2
          rw [hbb,if_pos rfl] at hft
          refine ⟨rfl,by omega,rfl,by omega,by omega,by unfold inI64; omega,j + 1,by omega,by omega,Keep.wk (ids:=[some 0,some 3]) ?_⟩
          simp only [push_cast,zA,zB,zC,zD,zE,zF,zG,↓reduceIte,reduceCtorEq,hft,List.map_append,List.append_assoc]<;>rfl
        | false =>
          simp -implicitDefEqProofs (maxSteps:=2000000) only [push_cast,zA,zB,zC,zD,zE,zF,zG,↓reduceIte,reduceCtorEq]
          rw [hbb,if_neg (by simp),List.append_nil] at hft
          refine ⟨by unfold inI64; omega,j + 1,by omega,by omega,Keep.wk (ids:=[some 0,some 1]) ?_⟩
          simp only [push_cast,zA,zB,zC,zD,zE,zF,zG,↓reduceIte,reduceCtorEq,hft]<;>rfl
       ·have hj : j=s.length:=by omega
        subst hj
        rw [List.take_length,← setL_eq]
        exact Close.of [some 1] rfl rfl rfl rfl (by simp only [push_cast,zA,zB,zC,zD,zE,zF,zG,↓reduceIte,reduceCtorEq]<;>rfl)
      ·rename_i hid
       have hM : headL s e keep=s.take i:=by unfold headL; rw [htw,if_neg (by simp [hk]; simpa using hid),List.append_nil]
       refine WL.loop (ι:=Nat) (D:=(fun i=>if i=11 then (6,[]) else if i=3 then (12,[]) else (0,[]))) (fun j=>j≤s.length) (fun j=>⟨62,[(0,.t (eEntryS s)),(4,.rf 0 0),(7,.sr 1),(9,.t (.i .i64 j))],[.box (.t (eEntry e)),.arr 100 3 (.own (.ag [.leaf,.leaf,.leaf])) ((headL s e keep ++ (s.take j).filter (fun x=>before e x)).map eEntry)]⟩) (fun j=>s.length - j) mixed (by kernel_rfl) 0 (by omega) (Keep.wk (ids:=[some 0,some 1]) ?_) ?_
       ·simp only [push_cast,zA,zB,zC,zD,zE,zF,zG,↓reduceIte,reduceCtorEq,hM,eEntry,List.filter_nil,List.map_append]<;>first | rfl | exact ⟨rfl,rfl⟩ | exact ⟨rfl,rfl,rfl⟩
       intro j hj
       simp -implicitDefEqProofs (maxSteps:=2000000) only [push_cast,zA,zB,zC,zD,zE,zF,zG,↓reduceIte,reduceCtorEq,eEntry_len,eEntry_isAg,eEntry_ones,eEntry_one]
       intro _
       have hfl:=List.length_filter_le (fun x=>before e x) (s.take j)
       have htj:=List.length_take_le j s
       split
       ·rename_i h2
        refine ⟨by omega,fun b hb=>CallV.t (l4Before e b) (.inl rfl) ?_⟩
        rw [Int.toNat_natCast] at hb
        have hft:=filter_take (p:=fun x=>before e x) hb
        simp -implicitDefEqProofs (maxSteps:=2000000) only [push_cast,zA,zB,zC,zD,zE,zF,zG,↓reduceIte,reduceCtorEq]
        cases hbb : before e b with
        | true =>
          simp -implicitDefEqProofs (maxSteps:=2000000) only [push_cast,zA,zB,zC,zD,zE,zF,zG,↓reduceIte,reduceCtorEq,eEntry_len,eEntry_isAg,eEntry_ones,eEntry_one,eEntry_fits]
          refine ⟨by omega,fun c hc2=>?_⟩
          rw [Int.toNat_natCast,hb] at hc2
          cases hc2
          rw [hbb,if_pos rfl] at hft
          refine ⟨rfl,by omega,rfl,by omega,by omega,by unfold inI64; omega,j + 1,by omega,by omega,Keep.wk (ids:=[some 0,some 3]) ?_⟩
          simp only [push_cast,zA,zB,zC,zD,zE,zF,zG,↓reduceIte,reduceCtorEq,hft,List.map_append,List.append_assoc]<;>rfl
        | false =>
          simp -implicitDefEqProofs (maxSteps:=2000000) only [push_cast,zA,zB,zC,zD,zE,zF,zG,↓reduceIte,reduceCtorEq]
          rw [hbb,if_neg (by simp),List.append_nil] at hft
          refine ⟨by unfold inI64; omega,j + 1,by omega,by omega,Keep.wk (ids:=[some 0,some 1]) ?_⟩
          simp only [push_cast,zA,zB,zC,zD,zE,zF,zG,↓reduceIte,reduceCtorEq,hft]<;>rfl
       ·have hj : j=s.length:=by omega
        subst hj
        rw [List.take_length,← setL_eq]
        exact Close.of [some 1] rfl rfl rfl rfl (by simp only [push_cast,zA,zB,zC,zD,zE,zF,zG,↓reduceIte,reduceCtorEq]<;>rfl)
  ·have hi : i=s.length:=by omega
   have htw : s.takeWhile (fun x=>before x e)=s.take i:=takeWhile_at hc (fun x hx=>by rw [List.getElem?_eq_none (by omega)] at hx; cases hx)
   simp -implicitDefEqProofs (maxSteps:=2000000) only [push_cast,zA,zB,zC,zD,zE,zF,zG,↓reduceIte,reduceCtorEq,eEntry]
   split
   ·rename_i hk
    have hM : headL s e keep=s.take i ++ [e]:=by unfold headL; rw [htw,if_pos (by simp [hk])]
    refine ⟨rfl,by omega,rfl,by omega,by simp only [List.length_take]; omega,?_⟩
    refine WL.loop (ι:=Nat) (D:=(fun i=>if i=11 then (6,[]) else if i=3 then (12,[]) else (0,[]))) (fun j=>j≤s.length) (fun j=>⟨62,[(0,.t (eEntryS s)),(4,.rf 0 0),(7,.sr 1),(9,.t (.i .i64 j))],[.box (.t (eEntry e)),.arr 100 3 (.own (.ag [.leaf,.leaf,.leaf])) ((headL s e keep ++ (s.take j).filter (fun x=>before e x)).map eEntry)]⟩) (fun j=>s.length - j) mixed (by kernel_rfl) 0 (by omega) (Keep.wk (ids:=[some 0,some 3]) ?_) ?_
    ·simp only [push_cast,zA,zB,zC,zD,zE,zF,zG,↓reduceIte,reduceCtorEq,hM,eEntry,List.filter_nil,List.map_append]<;>first | rfl | exact ⟨rfl,rfl⟩ | exact ⟨rfl,rfl,rfl⟩
    intro j hj
    simp -implicitDefEqProofs (maxSteps:=2000000) only [push_cast,zA,zB,zC,zD,zE,zF,zG,↓reduceIte,reduceCtorEq,eEntry_len,eEntry_isAg,eEntry_ones,eEntry_one]
    intro _
    have hfl:=List.length_filter_le (fun x=>before e x) (s.take j)
    have htj:=List.length_take_le j s
    split
    ·rename_i h2
     refine ⟨by omega,fun b hb=>CallV.t (l4Before e b) (.inl rfl) ?_⟩
     rw [Int.toNat_natCast] at hb
     have hft:=filter_take (p:=fun x=>before e x) hb
     simp -implicitDefEqProofs (maxSteps:=2000000) only [push_cast,zA,zB,zC,zD,zE,zF,zG,↓reduceIte,reduceCtorEq]
     cases hbb : before e b with
     | true =>
       simp -implicitDefEqProofs (maxSteps:=2000000) only [push_cast,zA,zB,zC,zD,zE,zF,zG,↓reduceIte,reduceCtorEq,eEntry_len,eEntry_isAg,eEntry_ones,eEntry_one,eEntry_fits]
       refine ⟨by omega,fun c hc2=>?_⟩
       rw [Int.toNat_natCast,hb] at hc2
       cases hc2
       rw [hbb,if_pos rfl] at hft
       refine ⟨rfl,by omega,rfl,by omega,by omega,by unfold inI64; omega,j + 1,by omega,by omega,Keep.wk (ids:=[some 0,some 3]) ?_⟩
       simp only [push_cast,zA,zB,zC,zD,zE,zF,zG,↓reduceIte,reduceCtorEq,hft,List.map_append,List.append_assoc]<;>rfl
     | false =>
       simp -implicitDefEqProofs (maxSteps:=2000000) only [push_cast,zA,zB,zC,zD,zE,zF,zG,↓reduceIte,reduceCtorEq]
       rw [hbb,if_neg (by simp),List.append_nil] at hft
       refine ⟨by unfold inI64; omega,j + 1,by omega,by omega,Keep.wk (ids:=[some 0,some 1]) ?_⟩
       simp only [push_cast,zA,zB,zC,zD,zE,zF,zG,↓reduceIte,reduceCtorEq,hft]<;>rfl
    ·have hj : j=s.length:=by omega
     subst hj
     rw [List.take_length,← setL_eq]
     exact Close.of [some 1] rfl rfl rfl rfl (by simp only [push_cast,zA,zB,zC,zD,zE,zF,zG,↓reduceIte,reduceCtorEq]<;>rfl)
   ·rename_i hk
    split
    ·rename_i hid
     have hM : headL s e keep=s.take i ++ [e]:=by unfold headL; rw [htw,if_pos (by simp [hid])]
     refine ⟨rfl,by omega,rfl,by omega,by simp only [List.length_take]; omega,?_⟩
     refine WL.loop (ι:=Nat) (D:=(fun i=>if i=11 then (6,[]) else if i=3 then (12,[]) else (0,[]))) (fun j=>j≤s.length) (fun j=>⟨62,[(0,.t (eEntryS s)),(4,.rf 0 0),(7,.sr 1),(9,.t (.i .i64 j))],[.box (.t (eEntry e)),.arr 100 3 (.own (.ag [.leaf,.leaf,.leaf])) ((headL s e keep ++ (s.take j).filter (fun x=>before e x)).map eEntry)]⟩) (fun j=>s.length - j) mixed (by kernel_rfl) 0 (by omega) (Keep.wk (ids:=[some 0,some 3]) ?_) ?_
     ·simp only [push_cast,zA,zB,zC,zD,zE,zF,zG,↓reduceIte,reduceCtorEq,hM,eEntry,List.filter_nil,List.map_append]<;>first | rfl | exact ⟨rfl,rfl⟩ | exact ⟨rfl,rfl,rfl⟩
     intro j hj
     simp -implicitDefEqProofs (maxSteps:=2000000) only [push_cast,zA,zB,zC,zD,zE,zF,zG,↓reduceIte,reduceCtorEq,eEntry_len,eEntry_isAg,eEntry_ones,eEntry_one]
     intro _
     have hfl:=List.length_filter_le (fun x=>before e x) (s.take j)
     have htj:=List.length_take_le j s
     split
     ·rename_i h2
      refine ⟨by omega,fun b hb=>CallV.t (l4Before e b) (.inl rfl) ?_⟩
      rw [Int.toNat_natCast] at hb
      have hft:=filter_take (p:=fun x=>before e x) hb
      simp -implicitDefEqProofs (maxSteps:=2000000) only [push_cast,zA,zB,zC,zD,zE,zF,zG,↓reduceIte,reduceCtorEq]
      cases hbb : before e b with
      | true =>
        simp -implicitDefEqProofs (maxSteps:=2000000) only [push_cast,zA,zB,zC,zD,zE,zF,zG,↓reduceIte,reduceCtorEq,eEntry_len,eEntry_isAg,eEntry_ones,eEntry_one,eEntry_fits]
        refine ⟨by omega,fun c hc2=>?_⟩
        rw [Int.toNat_natCast,hb] at hc2
        cases hc2
        rw [hbb,if_pos rfl] at hft
        refine ⟨rfl,by omega,rfl,by omega,by omega,by unfold inI64; omega,j + 1,by omega,by omega,Keep.wk (ids:=[some 0,some 3]) ?_⟩
        simp only [push_cast,zA,zB,zC,zD,zE,zF,zG,↓reduceIte,reduceCtorEq,hft,List.map_append,List.append_assoc]<;>rfl
      | false =>
        simp -implicitDefEqProofs (maxSteps:=2000000) only [push_cast,zA,zB,zC,zD,zE,zF,zG,↓reduceIte,reduceCtorEq]
        rw [hbb,if_neg (by simp),List.append_nil] at hft
        refine ⟨by unfold inI64; omega,j + 1,by omega,by omega,Keep.wk (ids:=[some 0,some 1]) ?_⟩
        simp only [push_cast,zA,zB,zC,zD,zE,zF,zG,↓reduceIte,reduceCtorEq,hft]<;>rfl
     ·have hj : j=s.length:=by omega
      subst hj
      rw [List.take_length,← setL_eq]
      exact Close.of [some 1] rfl rfl rfl rfl (by simp only [push_cast,zA,zB,zC,zD,zE,zF,zG,↓reduceIte,reduceCtorEq]<;>rfl)
    ·rename_i hid
     have hM : headL s e keep=s.take i:=by unfold headL; rw [htw,if_neg (by simp [hk]; simpa using hid),List.append_nil]
     refine WL.loop (ι:=Nat) (D:=(fun i=>if i=11 then (6,[]) else if i=3 then (12,[]) else (0,[]))) (fun j=>j≤s.length) (fun j=>⟨62,[(0,.t (eEntryS s)),(4,.rf 0 0),(7,.sr 1),(9,.t (.i .i64 j))],[.box (.t (eEntry e)),.arr 100 3 (.own (.ag [.leaf,.leaf,.leaf])) ((headL s e keep ++ (s.take j).filter (fun x=>before e x)).map eEntry)]⟩) (fun j=>s.length - j) mixed (by kernel_rfl) 0 (by omega) (Keep.wk (ids:=[some 0,some 1]) ?_) ?_
     ·simp only [push_cast,zA,zB,zC,zD,zE,zF,zG,↓reduceIte,reduceCtorEq,hM,eEntry,List.filter_nil,List.map_append]<;>first | rfl | exact ⟨rfl,rfl⟩ | exact ⟨rfl,rfl,rfl⟩
     intro j hj
     simp -implicitDefEqProofs (maxSteps:=2000000) only [push_cast,zA,zB,zC,zD,zE,zF,zG,↓reduceIte,reduceCtorEq,eEntry_len,eEntry_isAg,eEntry_ones,eEntry_one]
     intro _
     have hfl:=List.length_filter_le (fun x=>before e x) (s.take j)
     have htj:=List.length_take_le j s
     split
     ·rename_i h2
      refine ⟨by omega,fun b hb=>CallV.t (l4Before e b) (.inl rfl) ?_⟩
      rw [Int.toNat_natCast] at hb
      have hft:=filter_take (p:=fun x=>before e x) hb
      simp -implicitDefEqProofs (maxSteps:=2000000) only [push_cast,zA,zB,zC,zD,zE,zF,zG,↓reduceIte,reduceCtorEq]
      cases hbb : before e b with
      | true =>
        simp -implicitDefEqProofs (maxSteps:=2000000) only [push_cast,zA,zB,zC,zD,zE,zF,zG,↓reduceIte,reduceCtorEq,eEntry_len,eEntry_isAg,eEntry_ones,eEntry_one,eEntry_fits]
        refine ⟨by omega,fun c hc2=>?_⟩
        rw [Int.toNat_natCast,hb] at hc2
        cases hc2
        rw [hbb,if_pos rfl] at hft
        refine ⟨rfl,by omega,rfl,by omega,by omega,by unfold inI64; omega,j + 1,by omega,by omega,Keep.wk (ids:=[some 0,some 3]) ?_⟩
        simp only [push_cast,zA,zB,zC,zD,zE,zF,zG,↓reduceIte,reduceCtorEq,hft,List.map_append,List.append_assoc]<;>rfl
      | false =>
        simp -implicitDefEqProofs (maxSteps:=2000000) only [push_cast,zA,zB,zC,zD,zE,zF,zG,↓reduceIte,reduceCtorEq]
        rw [hbb,if_neg (by simp),List.append_nil] at hft
        refine ⟨by unfold inI64; omega,j + 1,by omega,by omega,Keep.wk (ids:=[some 0,some 1]) ?_⟩
        simp only [push_cast,zA,zB,zC,zD,zE,zF,zG,↓reduceIte,reduceCtorEq,hft]<;>rfl
     ·have hj : j=s.length:=by omega
      subst hj
      rw [List.take_length,← setL_eq]
      exact Close.of [some 1] rfl rfl rfl rfl (by simp only [push_cast,zA,zB,zC,zD,zE,zF,zG,↓reduceIte,reduceCtorEq]<;>rfl)
theorem l4Patch (s:List Entry) (ch:List Entry) (hB:Bd.B≤2147483648) (ho:Ordered s) (hl:2 * (s.length + ch.length) + 1 < Bd.B) : Con P0 238 [eEntryS s,eEntryS ch] (.sr 0) [.arr 100 3 (.own (.ag [.leaf,.leaf,.leaf])) ((patchL s ch).map eEntry)]:=by
 refine Con.intro (fn:=Tryz.f238) [.tmp 4] (fun _=>(0,[])) mixed (by kernel_rfl) rfl (by decide) rfl (by rfl) (by kernel_rfl) ?_
 simp -implicitDefEqProofs (maxSteps:=2000000) only [push_cast,zA,zB,zC,zD,zE,zF,zG,↓reduceIte,reduceCtorEq]
 refine Callx.closed (l4Copy s hB (by omega)) rfl rfl (.inl rfl) ?_
 refine WL.loop (ι:=Nat) (D:=(fun _=>(0,[]))) (fun i=>i≤ch.length) (fun i=>⟨22,[(1,.t (eEntryS ch)),(5,.sr 0),(6,.t (.i .i64 i))],[.arr 100 3 (.own (.ag [.leaf,.leaf,.leaf])) ((patchL s (ch.take i)).map eEntry)]⟩) (fun i=>ch.length - i) mixed (by kernel_rfl) 0 (by omega) (Keep.wk (ids:=[some 0]) ?_) ?_
 ·simp only [push_cast,zA,zB,zC,zD,zE,zF,zG,↓reduceIte,reduceCtorEq,patchL,List.take_zero,List.foldl_nil]<;>rfl
 ·intro i hi
  simp -implicitDefEqProofs (maxSteps:=2000000) only [push_cast,zA,zB,zC,zD,zE,zF,zG,↓reduceIte,reduceCtorEq,eEntry_len,eEntry_isAg,eEntry_ones,eEntry_one]
  intro _
  split
  ·rename_i h
   refine ⟨by omega,fun e he=>?_⟩
   rw [Int.toNat_natCast] at he
   have hp:=patchL_take (s:=s) he
   have hpo:=patchL_ord (ch:=ch.take i) ho
   have hpl:=hpo.2
   rw [List.length_take] at hpl
   refine Callx.closed (l4Set (patchL s (ch.take i)) e false hB (by omega)) rfl rfl (.inr ⟨rfl,rfl⟩) ?_
   simp -implicitDefEqProofs (maxSteps:=2000000) only [push_cast,zA,zB,zC,zD,zE,zF,zG,↓reduceIte,reduceCtorEq]
   refine ⟨by unfold inI64; omega,i + 1,by omega,by omega,Keep.wk (ids:=[some 1]) ?_⟩
   simp only [push_cast,zA,zB,zC,zD,zE,zF,zG,↓reduceIte,reduceCtorEq,hp]<;>rfl
  ·have hi : i=ch.length:=by omega
   subst hi
   rw [List.take_length]
   exact Close.of [some 0] rfl rfl rfl rfl (by simp only [push_cast,zA,zB,zC,zD,zE,zF,zG,↓reduceIte,reduceCtorEq]<;>rfl)
end Go.Proofs.YtmgdkkhnjkepiaaGreat.BX
namespace Go.Proofs.YtmgdkkhnjkepiaaGreat.BX
open Nat renaming reduceEqDiff → zA, reduceLT → zB, reduceLeDiff → zC, reduceAdd → zD, reduceMul → zE, reduceSub → zF, reduceBEq → zG
set_option linter.unusedSectionVars false
set_option linter.unusedSimpArgs false
set_option linter.unusedVariables false
open Go Go.RowKit
set_option maxRecDepth 20000
set_option maxHeartbeats 400000
def nx (b:List UInt8) (p:Nat) : Nat:=((b[p]?).map UInt8.toNat).getD 0
def np (b:List UInt8) (p:Nat) : Nat:=if p < b.length then p + 1 else p
theorem nx_lt {b:List UInt8} {p:Nat} : nx b p < 256:=by
 unfold nx
 cases b[p]? with
 | none => simp
 | some c => exact c.toNat_lt
theorem np_le {b:List UInt8} {p:Nat} (h:p≤b.length) : np b p≤b.length:=by unfold np; split<;>omega
def decT (n:Nat) : List UInt8:=if h : n < 10 then [UInt8.ofNat (48 + n)] else decT (n / 10) ++ [UInt8.ofNat (48 + n % 10)]
termination_by n
decreasing_by omega
theorem decT_len : ∀ (n k:Nat),n < 10 ^ (k + 1)→(decT n).length≤k + 1
 | n, 0, h => by
   rw [decT,dif_pos (by simpa using h)]
   simp
 | n, k + 1, h => by
   rw [decT]
   split
   ·simp
   ·rw [List.length_append,List.length_singleton]
    have:=decT_len (n / 10) k (by rw [Nat.pow_succ] at h; omega)
    omega
theorem mxCode {c:List UInt8} : (T.sl (c.map eU8)).mx=c.length:=by
 have : ∀ (l:List UInt8),mxs (l.map eU8)=0:=by
  intro l
  induction l with
  | nil => rfl
  | cons x l ih => simp only [List.map_cons,mxs,ih,eU8,T.mx,Nat.max_self]
 simp [T.mx,this]
variable [Bd]
abbrev rdO (b:List UInt8) (p:Nat) : Ob:=.box (.ag [.t (.sl (b.map eU8)),.t (.i .i64 p)])
theorem rdNextW (b:List UInt8) (p:Nat) (hb:b.length≤1000) (hp:p≤1000) : ConM P0 86 [.rf 0 0] [rdO b p] (.t (.i .i64 (nx b p))) [rdO b (np b p)]:=by
 refine ConM.intro (fn:=Tryz.f86) [.tmp 2] (fun i=>if i=2 then (12,[]) else if i=1 then (10,[]) else (0,[])) mixed (by kernel_rfl) rfl (by decide) rfl (by rfl) (by kernel_rfl) ?_
 simp -implicitDefEqProofs (maxSteps:=2000000) only [push_cast,zA,zB,zC,zD,zE,zF,zG,↓reduceIte,reduceCtorEq,eU8]
 intro _
 refine iteI (fun h=>⟨by omega,fun c hc=>?_⟩) (fun h=>?_)
 ·have hn : nx b p=c.toNat:=by unfold nx; rw [show ((p:Int)).toNat=p from Int.toNat_natCast _] at hc; rw [hc]; rfl
  have hp1 : np b p=p + 1:=if_pos (by omega)
  have hc:=c.toNat_lt
  rw [hn,hp1,IntWalk.i64_in _ (by omega)]
  exact ⟨by unfold inI64; omega,rfl,Rest.of [some 0] rfl rfl (by simp only [push_cast,zA,zB,zC,zD,zE,zF,zG,↓reduceIte,reduceCtorEq]<;>first | rfl | exact ⟨rfl,rfl⟩)⟩
 ·have hn : nx b p=0:=by unfold nx; rw [List.getElem?_eq_none (by omega)]; rfl
  have hp1 : np b p=p:=if_neg (by omega)
  rw [hn,hp1]
  exact ⟨rfl,Rest.of [some 0] rfl rfl (by simp only [push_cast,zA,zB,zC,zD,zE,zF,zG,↓reduceIte,reduceCtorEq]<;>first | rfl | exact ⟨rfl,rfl⟩)⟩
theorem rdNext (b:List UInt8) (p:Nat) (hb:b.length≤1000) (hp:p≤b.length) : ConM P0 86 [.rf 0 0] [rdO b p] (.t (.i .i64 (nx b p))) [rdO b (np b p)]:=rdNextW b p hb (by omega)
theorem l1Open (c:List UInt8) : Con P0 84 [.sl (c.map eU8)] (.rf 0 0) [rdO (c.take 1000) 0]:=by
 refine Con.intro (fn:=Tryz.f84) [.tmp 2] (fun _=>(0,[])) mixed (by kernel_rfl) rfl (by decide) rfl (by rfl) (by kernel_rfl) ?_
 simp -implicitDefEqProofs (maxSteps:=2000000) only [push_cast,zA,zB,zC,zD,zE,zF,zG,↓reduceIte,reduceCtorEq,eU8]
 intro _
 refine iteI (fun h=>⟨by omega,?_⟩) (fun h=>?_)
 ·exact Close.of [some 0] rfl rfl rfl (by simp only [push_cast,zA,zB,zC,zD,zE,zF,zG,↓reduceIte,reduceCtorEq]) (by simp only [push_cast,zA,zB,zC,zD,zE,zF,zG,↓reduceIte,reduceCtorEq,List.map_take]<;>first | rfl | exact ⟨rfl,rfl⟩)
 ·rw [List.take_of_length_le (by omega)]
  exact Close.of [some 0] rfl rfl rfl (by simp only [push_cast,zA,zB,zC,zD,zE,zF,zG,↓reduceIte,reduceCtorEq]) (by simp only [push_cast,zA,zB,zC,zD,zE,zF,zG,↓reduceIte,reduceCtorEq]<;>first | rfl | exact ⟨rfl,rfl⟩)
theorem l1User (k:Nat) (hk:k < 1000) : Con P0 154 [.i .i64 k] (.t (.s [64,UInt8.ofNat (97 + k % 4)])) []:=by
 refine Con.intro (fn:=Tryz.f154) [.tmp 2] (fun _=>(0,[])) mixed (by kernel_rfl) rfl (by decide) rfl (by rfl) (by kernel_rfl) ?_
 simp -implicitDefEqProofs (maxSteps:=2000000) only [push_cast,zA,zB,zC,zD,zE,zF,zG,↓reduceIte,reduceCtorEq]
 have:=Bd.lo
 have e1 : ((k:Int) % 4).toNat=k % 4:=by omega
 have e2 : ((k:Int) % 4 + 1).toNat=k % 4 + 1:=by omega
 rw [e1,e2]
 have h4 : k % 4=0 ∨ k % 4=1 ∨ k % 4=2 ∨ k % 4=3:=by omega
 refine ⟨by omega,by omega,by omega,by omega,by unfold inI64; omega,by omega,?_,?_⟩
 ·simp only [List.length_drop,List.length_take,List.length_cons,List.length_nil]
  omega
 ·rcases h4 with h | h | h | h<;>rw [h]<;>rfl
theorem l1Dec : ∀ (n:Nat),n < 10000000000000000→Con P0 153 [.i .i64 n] (.t (.s (decT n))) []:=by
 intro n
 induction n using Nat.strongRecOn with
 | ind n ih =>
 intro hn
 refine Con.intro (fn:=Tryz.f153) [.tmp 2] (fun i=>if i=5 then (11,[(false,0),(false,1),(false,2),(false,3),(false,4),(false,5),(false,6),(true,7),(false,8),(false,9),(false,10)]) else (0,[])) mixed (by kernel_rfl) rfl (by decide) rfl (by rfl) (by kernel_rfl) ?_
 simp -implicitDefEqProofs (maxSteps:=2000000) only [push_cast,zA,zB,zC,zD,zE,zF,zG,↓reduceIte,reduceCtorEq]
 have:=Bd.lo
 refine iteI (fun h=>by omega) (fun _=>iteI (fun h=>?_) (fun h=>?_))
 ·rw [IntWalk.u8_in _ (by omega),decT,dif_pos (by omega),show ((48:Int) + n).toNat=48 + n by omega]
  exact ⟨by unfold inI64; omega,rfl,by omega,rfl⟩
 ·refine ⟨by omega,by omega,by unfold inI64; omega,?_⟩
  refine CallV.t (by have:=ih (n / 10) (by omega) (by omega); rw [show (n:Int) / 10=((n / 10 : Nat) : Int) by omega]; exact this) (.inl rfl) ?_
  simp -implicitDefEqProofs (maxSteps:=2000000) only [push_cast,zA,zB,zC,zD,zE,zF,zG,↓reduceIte,reduceCtorEq]
  have hl:=decT_len (n / 10) 15 (by omega)
  rw [IntWalk.u8_in _ (by omega),show ((48:Int) + n % 10).toNat=48 + n % 10 by omega]
  refine ⟨by omega,by omega,by unfold inI64; omega,rfl,by omega,by omega,?_⟩
  conv=>rhs; rw [decT,dif_neg (by omega)]
def userT (k:Nat) : List UInt8:=[64,UInt8.ofNat (97 + k % 4)]
end Go.Proofs.YtmgdkkhnjkepiaaGreat.BX
namespace Go.Proofs.YtmgdkkhnjkepiaaGreat.BX
open Nat renaming reduceEqDiff → zA, reduceLT → zB, reduceLeDiff → zC, reduceAdd → zD, reduceMul → zE, reduceSub → zF, reduceBEq → zG
set_option linter.unusedSectionVars false
set_option linter.unusedSimpArgs false
set_option linter.unusedVariables false
open Go Go.RowKit
set_option maxRecDepth 20000
variable [Bd]
theorem foots_of {w:World} : ∀ {ts:List T} {vs:List Value},vs.length=ts.length→(∀ (i:Nat) (x:T) (v:Value),ts[i]? = some x→vs[i]? = some v → ∃ L,footT w x v L) → ∃ L,footTs w ts vs L
 | [], [], _, _ => ⟨[],by simp [footTs]⟩
 | [], _ :: _, h, _ => by simp at h
 | _ :: _, [], h, _ => by simp at h
 | x :: ts, v :: vs, hl, h => by
   obtain ⟨L1,h1⟩:=h 0 x v rfl rfl
   obtain ⟨L2,h2⟩:=foots_of (ts:=ts) (vs:=vs) (by simpa using hl) fun i x v hx hv=>h (i + 1) x v (by simpa using hx) (by simpa using hv)
   exact ⟨L1 ++ L2,by simp only [footTs]; exact ⟨v,vs,L1,L2,rfl,rfl,h1,h2⟩⟩
theorem Con.plain {P:Program} {f:FuncId} {ts:List T} {r:T} (hb:hasBody P f) (h:∀ (w:World) (vs:List Value) (L:List Nat),footTs w ts vs L→Calls P f vs.toArray w fun e w'=>∃ v,e = .returned v∧footT w' r v []∧Grew w w') : Con P f ts (.t r) []:=by
 refine ⟨hb,fun w L M vs hv S F hr=>?_⟩
 have hlen : vs.length=ts.length:=by simpa using hr.size
 obtain ⟨La,ha⟩:=foots_of (w:=w) hlen fun i x v hx hv'=>by
  obtain ⟨L',h',_⟩:=hr.tm i
  have e1 : getL (numA 0 (ts.map AV.t)) i = .t x:=by
   rw [numA_get,if_pos (Nat.zero_le _),Nat.sub_zero,List.getElem?_map,hx]; rfl
  have e2 : vs.toArray.getD i undef=v:=by
   simp [Array.getD_eq_getD_getElem?,hv']
  have h'' : footA hv w (getL (numA 0 (ts.map AV.t)) i) (vs.toArray.getD i undef) L':=h'
  rw [e1,e2] at h''
  exact ⟨L',by simpa only [footA] using h''⟩
 refine (h w vs La ha).mono fun e w' ⟨v,he,hf,hg⟩=>?_
 exact ⟨v,_,_,_,[],he,(hr.grow hg).no_tmp,by simpa only [footA] using hf,by simp,by simp [AV.under]⟩
def idxOf (c:UInt8) (xs:List UInt8) : Int:=firstIdx ⟨xs.toArray⟩ c
theorem idxOf_nn {c:UInt8} {xs:List UInt8} : decide (0≤idxOf c xs)=xs.any (· == c):=by
 unfold idxOf; rw [firstIdx_nonneg]
theorem idx_calls (c:UInt8) (s:ByteArray) (w:World) : Calls P0 229 #[.string s,.int .u8 c.toNat] w fun e w'=>e = .returned (.int .i64 (firstIdx s c))∧w'=w:=by
 have h:=run_indexByte_string (P:=P0) s c.toNat
 go_enter Tryz.func229,Tryz.ntmps229
 go_wp2
 rw [run_callFunc_extern Tryz.func256 (by kernel_rfl) (by kernel_rfl) (by kernel_rfl) (e:=Extern.BytealgIndexByte.indexByte) (by kernel_rfl),h]
 simp only [Result.andThen]
 rw [Oper.upon_value]
 go_wp2
 go_ret
 simp
theorem indexByteL (c:UInt8) (xs:List UInt8) : Con P0 229 [.s xs,.i .u8 c.toNat] (.t (.i .i64 (idxOf c xs))) []:=by
 refine Con.plain ⟨_,Tryz.func229,rfl,rfl⟩ fun w vs L hf=>?_
 simp only [footTs,footT] at hf
 obtain ⟨v1,vs1,L1,L2,rfl,_,⟨rfl,_,_⟩,v2,vs2,L3,L4,rfl,_,⟨rfl,_⟩,rfl,_⟩:=hf
 refine (idx_calls c ⟨xs.toArray⟩ w).mono fun e w' ⟨he,hw⟩=>?_
 subst hw
 exact ⟨_,he,by simp only [footT]; exact ⟨rfl,trivial⟩,Grew.refl _⟩
theorem indexByte (c:UInt8) (xs:List UInt8) : Con P0 193 [.s xs,.i .u8 c.toNat] (.t (.i .i64 (idxOf c xs))) []:=by
 refine Con.intro (fn:=Tryz.f193) [.tmp 4] (fun _=>(0,[])) mixed (by kernel_rfl) rfl (by decide) rfl (by rfl) (by kernel_rfl) ?_
 simp -implicitDefEqProofs (maxSteps:=2000000) only [push_cast,zA,zB,zC,zD,zE,zF,zG,↓reduceIte,reduceCtorEq]
 refine Callx.closed (indexByteL c xs) rfl rfl (.inl rfl) ?_
 simp -implicitDefEqProofs (maxSteps:=2000000) only [push_cast,zA,zB,zC,zD,zE,zF,zG,↓reduceIte,reduceCtorEq]
end Go.Proofs.YtmgdkkhnjkepiaaGreat.BX
namespace Go.Proofs.YtmgdkkhnjkepiaaGreat.BX
open Nat renaming reduceEqDiff → zA, reduceLT → zB, reduceLeDiff → zC, reduceAdd → zD, reduceMul → zE, reduceSub → zF, reduceBEq → zG
set_option linter.unusedSectionVars false
set_option linter.unusedSimpArgs false
set_option linter.unusedVariables false
open Go Go.RowKit
set_option maxRecDepth 20000
set_option maxHeartbeats 400000
def wordB (c:UInt8) : Bool :=
 (decide ((97:Int)≤c.toNat) && decide ((c.toNat : Int)≤122)) || (decide ((65:Int)≤c.toNat) && decide ((c.toNat : Int)≤90)) || (decide ((48:Int)≤c.toNat) && decide ((c.toNat : Int)≤57)) ||
  (decide ((c.toNat : Int)=95) || decide ((c.toNat : Int)=46) || decide ((c.toNat : Int)=64) || decide ((c.toNat : Int)=36) || decide ((c.toNat : Int)=47) || decide ((c.toNat : Int)=43))
theorem wordB_iff {c:UInt8} : wordB c=true ↔ ((97:Int)≤c.toNat∧(c.toNat : Int)≤122) ∨ ((65:Int)≤c.toNat∧(c.toNat : Int)≤90) ∨ ((48:Int)≤c.toNat∧(c.toNat : Int)≤57) ∨
 ((c.toNat : Int)=95 ∨ (c.toNat : Int)=46 ∨ (c.toNat : Int)=64 ∨ (c.toNat : Int)=36 ∨ (c.toNat : Int)=47 ∨ (c.toNat : Int)=43):=by
 simp only [wordB,Bool.or_eq_true,Bool.and_eq_true,decide_eq_true_eq,or_assoc]
theorem wordB_no {c:UInt8} (h:¬ (((97:Int)≤c.toNat∧(c.toNat : Int)≤122) ∨ ((65:Int)≤c.toNat∧(c.toNat : Int)≤90) ∨ ((48:Int)≤c.toNat∧(c.toNat : Int)≤57) ∨
 ((c.toNat : Int)=95 ∨ (c.toNat : Int)=46 ∨ (c.toNat : Int)=64 ∨ (c.toNat : Int)=36 ∨ (c.toNat : Int)=47 ∨ (c.toNat : Int)=43))) : wordB c=false:=by
 cases hw : wordB c with
 | false => rfl
 | true => exact absurd (wordB_iff.1 hw) h
def isW (s:List UInt8) : Bool:=decide (1≤(s.length : Int)) && decide ((s.length : Int)≤40) && s.all wordB
theorem byteEq {a b:UInt8} : (a == b)=decide ((b.toNat : Int)=a.toNat):=by
 rw [Bool.eq_iff_iff]
 simp only [beq_iff_eq,decide_eq_true_eq]
 refine ⟨fun h=>by rw [h],fun h=>UInt8.toNat_inj.1 (by omega)⟩
variable [Bd]
theorem l1WordByte (c:UInt8) : Con P0 186 [.i .u8 c.toNat] (.t (.b (wordB c))) []:=by
 refine Con.intro (fn:=Tryz.f186) [.tmp 2] (fun _=>(0,[])) mixed (by kernel_rfl) rfl (by decide) rfl (by rfl) (by kernel_rfl) ?_
 simp -implicitDefEqProofs (maxSteps:=2000000) only [push_cast,zA,zB,zC,zD,zE,zF,zG,↓reduceIte,reduceCtorEq]
 repeat' refine iteI (fun _=>?_) (fun _=>?_)
 all_goals first
  | exact congrArg T.b (wordB_iff.2 (by omega)).symm
  | exact congrArg T.b (Bool.eq_iff_iff.2 (by rw [wordB_iff,decide_eq_true_eq]; omega))
def oddB : List UInt8:=[95,46,64,36,47,43]
theorem oddB_any {c:UInt8} : (oddB.any (· == c))=true ↔ ((c.toNat : Int)=95 ∨ (c.toNat : Int)=46 ∨ (c.toNat : Int)=64 ∨ (c.toNat : Int)=36 ∨ (c.toNat : Int)=47 ∨ (c.toNat : Int)=43):=by
 simp only [oddB,List.any_cons,List.any_nil,byteEq,Bool.or_eq_true,decide_eq_true_eq,Bool.or_false]
 exact Iff.rfl
theorem isW_all {s:List UInt8} {i:Nat} (hi:s.length≤i) (hc:∀ c∈s.take i,wordB c=true) : s.all wordB=true:=by
 rw [List.take_of_length_le hi] at hc
 exact List.all_eq_true.2 hc
theorem isW_no {s:List UInt8} {i:Nat} {a:UInt8} (ha:s[i]? = some a) (h:wordB a=false) : isW s=false:=by
 unfold isW
 rw [Bool.and_eq_false_iff]
 refine .inr (List.all_eq_false.2 ⟨a,List.mem_of_getElem? ha,by simp [h]⟩)
theorem take_snoc {α:Type} {p:α→Prop} {s:List α} {i:Nat} {a:α} (ha:s[i]? = some a) (hc:∀ c∈s.take i,p c) (h:p a) : ∀ c∈s.take (i + 1),p c:=by
 intro e he
 rw [List.take_add_one,ha] at he
 rcases List.mem_append.1 he with he | he
 ·exact hc e he
 ·simp at he; subst he; exact h
theorem l1Word (s:List UInt8) : Con P0 116 [.s s] (.t (.b (isW s))) []:=by
 refine Con.intro (fn:=Tryz.f116) [.tmp 2] (fun _=>(0,[])) mixed (by kernel_rfl) rfl (by decide) rfl (by rfl) (by kernel_rfl) ?_
 simp -implicitDefEqProofs (maxSteps:=2000000) only [push_cast,zA,zB,zC,zD,zE,zF,zG,↓reduceIte,reduceCtorEq]
 refine WL.loop (ι:=Nat) (D:=(fun _=>(0,[]))) (fun i=>i≤s.length∧∀ c∈s.take i,wordB c=true) (fun i=>⟨23,[(0,.t (.s s)),(3,.t (.i .i64 i))],[]⟩) (fun i=>s.length - i) mixed (by kernel_rfl) 0 ⟨by omega,by simp⟩ (Keep.wk (ids:=[]) ?_) ?_
 ·simp only [push_cast,zA,zB,zC,zD,zE,zF,zG,↓reduceIte,reduceCtorEq]<;>rfl
 ·rintro i ⟨hi,hc⟩
  simp -implicitDefEqProofs (maxSteps:=2000000) only [push_cast,zA,zB,zC,zD,zE,zF,zG,↓reduceIte,reduceCtorEq]
  intro _
  have:=Bd.hi
  split
  ·rename_i h
   refine ⟨by omega,fun a ha=>?_⟩
   rw [Int.toNat_natCast] at ha
   simp -implicitDefEqProofs (maxSteps:=2000000) only [push_cast,zA,zB,zC,zD,zE,zF,zG,↓reduceIte,reduceCtorEq]
   refine Callx.closed (l1WordByte a) rfl rfl (.inl rfl) ?_
   simp -implicitDefEqProofs (maxSteps:=2000000) only [push_cast,zA,zB,zC,zD,zE,zF,zG,↓reduceIte,reduceCtorEq]
   cases hw : wordB a with
   | false => exact congrArg T.b (isW_no ha hw).symm
   | true =>
     simp -implicitDefEqProofs (maxSteps:=2000000) only [push_cast,zA,zB,zC,zD,zE,zF,zG,↓reduceIte,reduceCtorEq]
     refine ⟨by unfold inI64; omega,i + 1,⟨by omega,take_snoc ha hc hw⟩,by omega,Keep.wk (ids:=[]) ?_⟩
     simp only [push_cast,zA,zB,zC,zD,zE,zF,zG,↓reduceIte,reduceCtorEq]<;>rfl
  ·have ha:=isW_all (by omega) hc
   unfold isW
   rw [ha]
   intro _
   rw [Bool.and_true]
   split
   ·rename_i h1
    exact fun _=>congrArg T.b (by rw [decide_eq_true h1,Bool.true_and])
   ·rename_i h1
    exact congrArg T.b (by rw [decide_eq_false h1,Bool.false_and])
theorem isWord (s:List UInt8) : Con P0 129 [.s s] (.t (.b (isW s))) []:=by
 refine Con.intro (fn:=Tryz.f129) [.tmp 2] (fun _=>(0,[])) mixed (by kernel_rfl) rfl (by decide) rfl (by rfl) (by kernel_rfl) ?_
 simp -implicitDefEqProofs (maxSteps:=2000000) only [push_cast,zA,zB,zC,zD,zE,zF,zG,↓reduceIte,reduceCtorEq]
 intro _
 split
 ·rename_i h
  unfold isW
  rw [decide_eq_false (by omega)]; rfl
 intro _
 split
 ·rename_i h
  unfold isW
  rw [decide_eq_false (p:=((s.length : Int)≤40)) (by omega)]; simp
 intro _
 refine WL.loop (ι:=Nat) (D:=(fun _=>(0,[]))) (fun i=>i≤s.length∧∀ c∈s.take i,wordB c=true) (fun i=>⟨44,[(0,.t (.s s)),(14,.t (.i .i64 s.length)),(15,.t (.i .i64 i))],[]⟩) (fun i=>s.length - i) mixed (by kernel_rfl) 0 ⟨by omega,by simp⟩ (Keep.wk (ids:=[]) ?_) ?_
 ·simp only [push_cast,zA,zB,zC,zD,zE,zF,zG,↓reduceIte,reduceCtorEq]<;>rfl
 ·rintro i ⟨hi,hc⟩
  simp -implicitDefEqProofs (maxSteps:=2000000) only [push_cast,zA,zB,zC,zD,zE,zF,zG,↓reduceIte,reduceCtorEq]
  have:=Bd.hi
  split
  ·rename_i h
   refine ⟨by omega,fun a ha=>?_⟩
   rw [Int.toNat_natCast] at ha
   simp -implicitDefEqProofs (maxSteps:=2000000) only [push_cast,zA,zB,zC,zD,zE,zF,zG,↓reduceIte,reduceCtorEq]
   have yes : wordB a=true→inI64 (i + 1)∧∀ j,j=i + 1→(j≤s.length∧∀ c∈s.take j,wordB c=true)∧s.length - j < s.length - i:=fun hw=>⟨by unfold inI64; omega,fun j hj=>by subst hj; exact ⟨⟨by omega,take_snoc ha hc hw⟩,by omega⟩⟩
   repeat' refine iteI (fun _=>?_) (fun _=>?_)
   all_goals first
    | (exfalso; omega)
    | (refine ⟨(yes (wordB_iff.2 (by omega))).1,i + 1,((yes (wordB_iff.2 (by omega))).2 _ rfl).1,((yes (wordB_iff.2 (by omega))).2 _ rfl).2,Keep.wk (ids:=[]) ?_⟩
       simp only [push_cast,zA,zB,zC,zD,zE,zF,zG,↓reduceIte,reduceCtorEq]<;>rfl)
    | (refine Callx.closed (indexByte a oddB) rfl rfl (.inl rfl) ?_
       simp -implicitDefEqProofs (maxSteps:=2000000) only [push_cast,zA,zB,zC,zD,zE,zF,zG,↓reduceIte,reduceCtorEq]
       have ho:=idxOf_nn (c:=a) (xs:=oddB)
       refine iteI (fun h1=>?_) (fun h1=>?_)
       ·rw [decide_eq_true h1] at ho
        have hw:=oddB_any.1 ho.symm
        refine ⟨(yes (wordB_iff.2 (by omega))).1,i + 1,((yes (wordB_iff.2 (by omega))).2 _ rfl).1,((yes (wordB_iff.2 (by omega))).2 _ rfl).2,Keep.wk (ids:=[]) ?_⟩
        simp only [push_cast,zA,zB,zC,zD,zE,zF,zG,↓reduceIte,reduceCtorEq]<;>rfl
       ·rw [decide_eq_false h1] at ho
        refine congrArg T.b (isW_no ha (wordB_no fun hh=>?_)).symm
        have:=oddB_any (c:=a)
        rw [← ho] at this
        simp only [Bool.false_eq_true,false_iff] at this
        omega)
  ·have ha:=isW_all (by omega) hc
   refine congrArg T.b ?_
   unfold isW
   rw [ha,decide_eq_true (by omega),decide_eq_true (by omega)]; rfl
end Go.Proofs.YtmgdkkhnjkepiaaGreat.BX