/-
  Part 4 of what LFnExactPowerOrder leans on: its texts, merged by a program (prune.py), with what it needs alone.
-/
import Derived.Test.YtmgdkkhnjkepiaaGreatQ3
import Derived.Scope
namespace Go.Proofs.YtmgdkkhnjkepiaaGreat.BX
open Nat renaming reduceEqDiff → zA, reduceLT → zB, reduceLeDiff → zC, reduceAdd → zD, reduceMul → zE, reduceSub → zF, reduceBEq → zG
set_option linter.unusedSectionVars false
set_option linter.unusedSimpArgs false
set_option linter.unusedVariables false
open Go Go.RowKit
variable [Bd]
def Mkx (P:Program) (g:FuncId) (ts:Option (List T)) (sh:Bool) (ob:List Ob) (K:AV→List Ob→Prop) : Prop :=
 ∃ ts' x obs,Con P g ts' x obs∧ts=some ts' ∧ (x.noBw && obsNoBw obs)=true∧(sh=true ∨ (freshAV x=true∧freshOb obs=true))∧K (x.ren (ob.length + ·)) (ob ++ obs.map (Ob.ren (ob.length + ·)))
def newOb : List Ob→List Ob→(List Ob→Prop)→Prop
 | [], ob', K => K ob'
 | o :: ob, ob', K => match ob' with
   | o' :: ob' => o=o' ∧ newOb ob ob' K
   | [] => False
theorem newOb_spec : ∀ {ob ob':List Ob} {K:List Ob→Prop},newOb ob ob' K → ∃ ext,ob'=ob ++ ext∧K ext
 | [], ob', K, h => ⟨ob',rfl,h⟩
 | o :: ob, [], K, h => h.elim
 | o :: ob, o' :: ob', K, h => by
   obtain ⟨rfl,h⟩:=h
   obtain ⟨ext,rfl,hk⟩:=newOb_spec h
   exact ⟨ext,rfl,hk⟩
def vcMkC (P:Program) (f:AV) (xs:List AV) (ob:List Ob) (K:AV→List Ob→Prop) : Prop :=
 match calleeOf xs.isEmpty f with
 | some (g, caps) => Mkx P g (seesW (AV.see ob 5) (xs ++ caps)) (shuts (xs ++ caps)).isSome ob K
 | none => False
def vcMk (P:Program) (B:Nat) (ob:List Ob) (e:Operand→AV) (op:Op) (K:AV→List Ob→Prop) : Prop :=
 match op with
 | .call c => match c.callee with
   | .value f => vcMkC P (e f) (c.args.toList.map e) ob K
   | .builtin .append => match c.args.toList,c.argTypes.toList with
     | [s, x], [t, t'] => t=t' ∧ vcAppend P t (e s) (e x) ob K
     | _, _ => False
   | _ => False
 | .buildSlice t n parts => vcBuildSlice P t n (parts.toList.map (·.1)) (parts.toList.map fun p=>e p.2) ob fun x ob'=>newOb (ob.take B) ob' fun _=>K x ob'
 | .alloc t => match zeroOf P t with
   | some z => K (.rf ob.length 0) (ob ++ [.box (ofV z)])
   | none => False
 | .box _ x => K (.rf ob.length 0) (ob ++ [.box (e x)])
 | .store t p x => match e p with
   | .rf id off => vcStore P t (.rf id off) (e x) ob K
   | .ra id i m off => match ob[id]? with
     | some (.arr ..) => vcStore P t (.ra id i m off) (e x) ob K
     | _ => False
   | _ => False
 | _ => False
def isSt : Op→Bool
 | .store .. => true
 | .call c => match c.callee with
   | .builtin _ => true
   | _ => false
 | _ => false
def isBs : Op→Bool
 | .buildSlice .. => true
 | _ => false
def isPure : Op→Bool
 | .extract .. | .move _ | .assign _ => true
 | .binOp .add .. | .binOp .sub .. | .binOp .quo .. => true
 | _ => false
def opAt : List Oper→Nat→Option Oper
 | [], _ => none
 | o :: _, 0 => some o
 | _ :: os, j + 1 => opAt os j
theorem opAt_eq : ∀ (l:List Oper) (j:Nat),opAt l j=l[j]?
 | [], j => by simp [opAt]
 | o :: os, 0 => rfl
 | o :: os, j + 1 => by simp only [opAt,opAt_eq os j,List.getElem?_cons_succ]
def vcDm (P:Program) (all:Array Oper) (B:Nat) : List (Bool × Nat)→List Oper→St→(St→Prop)→Prop
 | [], rest, σ, K => vcOps P all rest σ K
 | (b, i) :: js, rest, σ, K => match opAt all.toList i with
   | some o => if b=true then o.guard=none∧dstOk σ.n o.dst∧vcMk P B σ.ob σ.opd o.op fun x ob=>vcDm P all B js rest (({ σ with ob:=ob } : St).set o.dst x) K
     else dstOk σ.n o.dst∧vcGuard all σ o (fun σ=>vcLook P σ.ob σ.opd o.op fun x=>vcDm P all B js rest (σ.set o.dst x) K) (fun σ=>vcDm P all B js rest (σ.set o.dst .ud) K)
   | none => False
def waitsT (ops:Array Oper) : Nat→Nat→Nat→Bool
 | 0, i, j => waits ops i j
 | n + 1, i, j => waits ops i j || (List.range ops.size).any fun m=>waits ops i m && waitsT ops n m j
def okDrawM (ops:Array Oper) (k:Nat) (es:List (Bool × Nat)) : Bool :=
 (decide (k≤ops.size) && decide (es.length=k)) &&
 ((List.range ops.size).all fun i=>match ops[i]? with
   | some o => (o.after.all fun e=>!Region.binds .any e || decide (e.on < i)) && (decide (i < k) || (List.range i).all fun j=>(List.range ops.size).any fun m=>decide (j < m) && decide (m≤i) && waits ops m j)
   | none => false) &&
 ((List.range k).all fun i=>es.any fun e=>e.2 == i) &&
 ((List.range k).all fun p=>match es[p]? with
   | some (b, i) => decide (i < k) && match ops[i]? with
     | some o => (List.range k).all fun q=>match es[q]? with
       | some (c, j) => (p == q || i != j) && (!(c && decide (q < p)) || waitsT ops 3 i j) && match ops[j]? with
         | some r => (b || !c || isPure o.op || decide (q < p) || waitsT ops 3 j i || (!isSt r.op && (!isBs r.op || (es.take p).all fun e=>!e.1))) && match r.dst with
           | some t => (p == q || o.dst != some t) && (!(o.looksAt ops).contains t || (decide (q < p) && waits ops i j))
           | none => true
         | none => false
       | none => false
     | none => false
   | none => false)
structure StaticM (ops:Array Oper) (k:Nat) (es:List (Bool × Nat)) : Prop extends Static0 ops k where
 len : es.length=k
 onto : ∀ (i:Nat),i < k → ∃ (p:Nat) (b:Bool),es[p]? = some (b,i)
 lt : ∀ (p:Nat) (b:Bool) (i:Nat),es[p]? = some (b,i)→i < k
 inj : ∀ (p:Nat) (q:Nat) (b:Bool) (c:Bool) (i:Nat),es[p]? = some (b,i)→es[q]? = some (c,i)→p=q
 apart : ∀ (p:Nat) (q:Nat) (b:Bool) (c:Bool) (i:Nat) (j:Nat) (o:Oper) (r:Oper) (t:Nat),es[p]? = some (b,i)→es[q]? = some (c,j)→ops[i]? = some o→ops[j]? = some r→r.dst=some t→(p=q ∨ o.dst≠some t)∧(t∈o.looksAt ops→q < p∧waits ops i j=true)
 level : ∀ (p:Nat) (q:Nat) (b:Bool) (i:Nat) (j:Nat),es[p]? = some (b,i)→es[q]? = some (true,j)→q < p→waitsT ops 3 i j=true
 pure : ∀ (p q i j:Nat) (o r:Oper),es[p]? = some (false,i)→es[q]? = some (true,j)→ops[i]? = some o→ops[j]? = some r→p < q→isPure o.op=true ∨ waitsT ops 3 j i=true ∨ (isSt r.op=false∧(isBs r.op=false ∨ ∀ e∈es.take p,e.1=false))
theorem okDrawM_spec {ops:Array Oper} {k:Nat} {es:List (Bool × Nat)} (h:okDrawM ops k es=true) : StaticM ops k es:=by
 simp only [okDrawM,Bool.and_eq_true,decide_eq_true_eq,List.all_eq_true,List.mem_range,List.any_eq_true,beq_iff_eq] at h
 obtain ⟨⟨⟨⟨h1,h1'⟩,h2⟩,h3⟩,h4⟩:=h
 have hp : ∀ p e,es[p]? = some e→p < k:=fun p e he=>h1' ▸ (List.getElem?_eq_some_iff.1 he).1
 refine ⟨⟨h1,fun i o ho e he hb=>?_,fun i o ho hk j hj=>?_⟩,h1',fun i hi=>?_,fun p b i he=>?_,fun p q b c i he he'=>?_,fun p q b c i j o r t he he' ho hr ht=>?_,fun p q b i j he he' hq=>?_,fun p q i j o r he he' ho hr hq=>?_⟩
 ·have:=h2 i (Array.getElem?_eq_some_iff.1 ho).1
  simp only [ho,Bool.and_eq_true,Array.all_eq_true_iff_forall_mem,Bool.or_eq_true,Bool.not_eq_true',decide_eq_true_eq] at this
  rcases this.1 e he with h | h
  ·rw [hb] at h; cases h
  ·exact h
 ·have:=h2 i (Array.getElem?_eq_some_iff.1 ho).1
  simp only [ho,Bool.and_eq_true,Bool.or_eq_true,decide_eq_true_eq,List.all_eq_true,List.any_eq_true,List.mem_range] at this
  rcases this.2 with h | h
  ·omega
  ·obtain ⟨m,_,⟨q1,q2⟩,q3⟩:=h j hj
   exact ⟨m,q1,q2,q3⟩
 ·obtain ⟨⟨b,i'⟩,he,hi'⟩:=h3 i hi
  obtain ⟨p,hp⟩:=List.getElem?_of_mem he
  dsimp only at hi'
  subst hi'
  exact ⟨p,b,hp⟩
 ·have:=h4 p (hp p _ he)
  simp only [he,Bool.and_eq_true,decide_eq_true_eq] at this
  exact this.1
 ·have:=h4 p (hp p _ he)
  simp only [he,Bool.and_eq_true,decide_eq_true_eq] at this
  have hik:=this.1
  cases ho : ops[i]? with
  | none => rw [ho] at this; cases this.2
  | some o =>
    simp only [ho,List.all_eq_true,List.mem_range] at this
    have:=this.2 q (hp q _ he')
    simp only [he',Bool.and_eq_true,Bool.or_eq_true,beq_iff_eq,bne_self_eq_false,Bool.false_eq_true,or_false] at this
    exact this.1.1
 ·have:=h4 p (hp p _ he)
  simp only [he,ho,Bool.and_eq_true,List.all_eq_true,List.mem_range] at this
  have:=this.2 q (hp q _ he')
  simp only [he',hr,ht,Bool.and_eq_true,Bool.or_eq_true,beq_iff_eq,bne_iff_ne,ne_eq,Bool.not_eq_true',decide_eq_true_eq] at this
  refine ⟨this.2.2.1,fun hm=>?_⟩
  rcases this.2.2.2 with h | h
  ·simp [hm] at h
  ·exact h
 ·have:=h4 p (hp p _ he)
  simp only [he,Bool.and_eq_true] at this
  cases ho : ops[i]? with
  | none => rw [ho] at this; cases this.2
  | some o =>
    simp only [ho,List.all_eq_true,List.mem_range] at this
    have:=this.2 q (hp q _ he')
    simp only [he',Bool.and_eq_true,Bool.or_eq_true,Bool.not_eq_true',Bool.and_eq_false_iff,Bool.true_eq_false,decide_eq_false_iff_not,false_or] at this
    rcases this.1.2 with h | h
    ·exact absurd hq h
    ·exact h
 ·have:=h4 p (hp p _ he)
  simp only [he,ho,Bool.and_eq_true,List.all_eq_true,List.mem_range] at this
  have:=this.2 q (hp q _ he')
  simp only [he',hr,Bool.and_eq_true,Bool.or_eq_true,Bool.not_eq_true',Bool.true_eq_false,Bool.false_eq_true,false_or,or_false,decide_eq_true_eq,List.all_eq_true] at this
  rcases this.2.1 with ((h | h) | h) | h
  ·exact .inl h
  ·omega
  ·exact .inr (.inl h)
  ·exact .inr (.inr h)
theorem waitsT_down {ops:Array Oper} {listed:Array Bool} (hd:Down ops listed) : ∀ (n i j:Nat),waitsT ops n i j=true→listed.getD i false=true→listed.getD j false=true
 | 0, i, j, h, hi => hd i j hi h
 | n + 1, i, j, h, hi => by
   simp only [waitsT,Bool.or_eq_true,List.any_eq_true,Bool.and_eq_true] at h
   rcases h with h | ⟨m,_,h1,h2⟩
   ·exact hd i j hi h
   ·exact waitsT_down hd n m j h2 (hd i m hi h1)
theorem waitsT_ready {ops:Array Oper} {listed:Array Bool} (hd:Down ops listed) {i:Nat} (hw:∀ j,waits ops i j=true→listed.getD j false=true) : ∀ (n j:Nat),waitsT ops n i j=true→listed.getD j false=true
 | 0, j, h => hw j h
 | n + 1, j, h => by
   simp only [waitsT,Bool.or_eq_true,List.any_eq_true,Bool.and_eq_true] at h
   rcases h with h | ⟨m,_,h1,h2⟩
   ·exact hw j h
   ·exact waitsT_down hd n m j h2 (hw m h1)
def stp (σ:St) (d:Option Nat) (x:AV) (ob:List Ob) : St:=({ σ with ob:=ob } : St).set d x
theorem stp_n {σ:St} {d:Option Nat} {x:AV} {ext:List Ob} : (stp σ d x ext).n=σ.n:=by unfold stp; cases d<;>rfl
theorem stp_ob {σ:St} {d:Option Nat} {x:AV} {ext:List Ob} : (stp σ d x ext).ob=ext:=by unfold stp; cases d<;>rfl
theorem stp_get {σ:St} {d:Option Nat} {x:AV} {ext:List Ob} {t:Nat} : getL (stp σ d x ext).tm t=if d=some t then x else getL σ.tm t:=by
 unfold stp; rw [getL_set]
theorem stp_same {σ:St} {d:Option Nat} {x:AV} : stp σ d x σ.ob=σ.set d x:=rfl
theorem Eqv.stp {σ σ':St} (h:Eqv σ σ') (d:Option Nat) (x:AV) (ext:List Ob) : Eqv (stp σ d x ext) (BX.stp σ' d x ext) :=
 ⟨by rw [stp_n,stp_n,h.n],by rw [stp_ob,stp_ob],fun t=>by rw [stp_get,stp_get,h.tm]⟩
structure MkFact (P:Program) (ob:List Ob) (e:Operand→AV) (o:Oper) (x:AV) (ext:List Ob) : Prop where
 does : ∀ {Q:Exit→Act→World→Prop} {w0:Base} {σ:St} {hv:Hv} {S:Nat→Prop} {F:Nat→List Nat} {a:Act} {w:World} {next:Value→World→Prop},
  Rel w0 σ hv S F a w→σ.ob=ob→(∀ y∈o.op.operands,σ.opd y=e y)→Ans w0 σ a (fun x' ob'=>x'=x∧ob'=ext) next→Does P Q o a w next
 get : ∀ {w0:Base} {σ:St} {hv:Hv} {S:Nat→Prop} {F:Nat→List Nat} {a:Act} {w:World},
  Rel w0 σ hv S F a w→σ.ob=ob→(∀ y∈o.op.operands,σ.opd y=e y)→(∀ k,o.dst=some k→k < σ.n) → ∃ hv' S' F' a' w',Rel w0 (stp σ o.dst x ext) hv' S' F' a' w'
section
variable {P:Program} {Q:Exit→Act→World→Prop} {w0:Base} {σ:St} {hv:Hv} {S:Nat→Prop} {F:Nat→List Nat} {a:Act} {w:World}
theorem Does.some {o:Oper} {next:Value→World→Prop} (h:Does P (fun _ _ _=>False) o a w next) : ∃ v w',next v w':=by
 unfold Does Oper.wp at h
 cases hr : (execOp a.eval o).run P w with
 | ok n w' =>
   rw [hr] at h
   cases n with
   | value v => obtain ⟨v',_,h⟩:=h; exact ⟨_,_,h⟩
   | skip => obtain ⟨v',_,h⟩:=h; exact ⟨_,_,h⟩
   | defer d => obtain ⟨v',_,h⟩:=h; exact ⟨_,_,h⟩
   | enter f args =>
     obtain ⟨en,w',hh⟩:=Calls.some h
     cases en with
     | returned v0 => obtain ⟨v',_,h⟩:=hh; exact ⟨_,_,h⟩
     | panicked => exact hh.elim
     | outgrown => obtain ⟨_,_,hh⟩:=hh; exact hh.elim
   | row r args =>
     obtain ⟨v,w',hh,_⟩:=h (Frame.ofRow P r args .normal) []
     obtain ⟨v',_,h⟩:=hh; exact ⟨_,_,h⟩
   | _ => exact h.elim
 | halt c w' =>
   rw [hr] at h
   cases c<;>exact h.elim
theorem MkFact.of {ob:List Ob} {e:Operand→AV} {o:Oper} {x:AV} {ext:List Ob} (h:∀ {Q:Exit→Act→World→Prop} {w0:Base} {σ:St} {hv:Hv} {S:Nat→Prop} {F:Nat→List Nat} {a:Act} {w:World} {next:Value→World→Prop},
 Rel w0 σ hv S F a w→σ.ob=ob→(∀ y∈o.op.operands,σ.opd y=e y)→Ans w0 σ a (fun x' ob'=>x'=x∧ob'=ext) next→Does P Q o a w next) : MkFact P ob e o x ext:=by
 refine ⟨h,?_⟩
 intro w0 σ hv S F a w hr h1 h2 hd
 have:=h (Q:=fun _ _ _=>False) hr h1 h2 (next:=fun v w'=>∃ hv' S' F' L,Rel w0 { σ with ob:=ext } hv' S' F' a w' ∧ footA hv' w' x v L∧(∀ b∈L,S' b)∧x.under ext.length=true)
  (fun v w' x' ob' hv' S' F' L hk q1 q2 q3 q4=>by obtain ⟨rfl,rfl⟩:=hk; exact ⟨hv',S',F',L,q1,q2,q3,q4⟩)
 obtain ⟨v,w',hv',S',F',L,q1,q2,q3,q4⟩:=Does.some this
 refine ⟨hv',S',F',a.put o.dst v,w',?_⟩
 unfold stp
 exact q1.put q2 q3 q4 hd
theorem buildSlice_mono {t:TypeId} {n:Nat} {ks:List Nat} {xs:List AV} {ob:List Ob} {K:AV→List Ob→Prop} (h:vcBuildSlice P t n ks xs ob K) : ∃ x ob',K x ob' ∧ vcBuildSlice P t n ks xs ob fun x' ob''=>x'=x∧ob''=ob':=by
 unfold vcBuildSlice at h ⊢
 split at h
 ·obtain ⟨h1,h2,h3,h4,h⟩:=h
  split at h
  ·rename_i hm
   obtain ⟨h5,h6,h7,hK⟩:=h
   refine ⟨_,_,hK,h1,h2,h3,h4,?_⟩
   exact ⟨h5,h6,h7,rfl,rfl⟩
  ·cases h
 ·cases h
theorem srcOf_mono {m i:Nat} {ob:List Ob} {k:Kind} {x:AV} {K:List T→List Nat→Kind→Prop} (h:srcOf m ob i k x K) : ∃ es ids k',K es ids k' ∧ srcOf m ob i k x fun a b c=>a=es∧b=ids∧c=k':=by
 unfold srcOf at h ⊢
 repeat' split at h
 all_goals first
  | exact h.elim
  | exact ⟨_,_,_,h,rfl,rfl,rfl⟩
  | (obtain ⟨h1,h2⟩:=h; exact ⟨_,_,_,h2,h1,rfl,rfl,rfl⟩)
  | (obtain ⟨h1,h2,h3⟩:=h; exact ⟨_,_,_,h3,h1,h2,rfl,rfl,rfl⟩)
  | (rename_i hp; obtain ⟨h1,h2,h3⟩:=h; exact ⟨_,_,_,h3,h1,by rw [if_pos hp]; exact ⟨h2,rfl,rfl,rfl⟩⟩)
  | (rename_i hp; obtain ⟨h1,h2⟩:=h; exact ⟨_,_,_,h2,h1,by rw [if_neg hp]; exact ⟨rfl,rfl,rfl⟩⟩)
  | (rename_i hp; obtain ⟨h1,h2,h3,h4⟩:=h; exact ⟨_,_,_,h4,h1,h2,h3,by rw [if_pos hp]; exact ⟨rfl,rfl,rfl⟩⟩)
  | (rename_i hp; obtain ⟨h1,h2,h3,h4⟩:=h; exact ⟨_,_,_,h4,h1,h2,h3,by rw [if_neg hp]; exact ⟨rfl,rfl,rfl⟩⟩)
theorem srcOf_to {m i:Nat} {ob:List Ob} {k:Kind} {x:AV} {es:List T} {ids:List Nat} {k':Kind} {K:List T→List Nat→Kind→Prop} (h:srcOf m ob i k x fun a b c=>a=es∧b=ids∧c=k') (hk:K es ids k') : srcOf m ob i k x K:=by
 unfold srcOf at h ⊢
 repeat' split at h
 all_goals first
  | exact h.elim
  | (obtain ⟨rfl,rfl,rfl⟩:=h; exact hk)
  | (obtain ⟨h1,rfl,rfl,rfl⟩:=h; exact ⟨h1,hk⟩)
  | (rename_i hp; obtain ⟨h1,h2,rfl,rfl,rfl⟩:=h; exact ⟨h1,by rw [if_pos hp]; exact ⟨h2,hk⟩⟩)
  | (rename_i hp; obtain ⟨h1,rfl,rfl,rfl⟩:=h; exact ⟨h1,by rw [if_neg hp]; exact hk⟩)
  | (obtain ⟨h1,h2,rfl,rfl,rfl⟩:=h; exact ⟨h1,h2,hk⟩)
  | (rename_i hp; obtain ⟨h1,h2,h3,rfl,rfl,rfl⟩:=h; exact ⟨h1,h2,h3,by rw [if_pos hp]; exact hk⟩)
  | (rename_i hp; obtain ⟨h1,h2,h3,rfl,rfl,rfl⟩:=h; exact ⟨h1,h2,h3,by rw [if_neg hp]; exact hk⟩)
theorem append_mono {t:TypeId} {s x:AV} {ob:List Ob} {K:AV→List Ob→Prop} (h:vcAppend P t s x ob K) : ∃ r ob',K r ob' ∧ vcAppend P t s x ob fun a b=>a=r∧b=ob':=by
 unfold vcAppend at h ⊢
 split at h
 case h_2=>exact h.elim
 obtain ⟨h1,h2,h3,h⟩:=h
 split at h
 ·split at h
  case h_2=>exact h.elim
  obtain ⟨q1,q2,h⟩:=h
  obtain ⟨es,ids,k',⟨q3,q4⟩,q5⟩:=srcOf_mono h
  exact ⟨_,_,q4,h1,h2,h3,q1,q2,srcOf_to q5 ⟨q3,rfl,rfl⟩⟩
 ·obtain ⟨es,ids,k',⟨q3,q4⟩,q5⟩:=srcOf_mono h
  exact ⟨_,_,q4,h1,h2,h3,srcOf_to q5 ⟨q3,rfl,rfl⟩⟩
 ·exact h.elim
theorem storeRa_mono {t:TypeId} {id i m off:Nat} {x:AV} {ob:List Ob} {K:AV→List Ob→Prop} {e:TypeId} {m':Nat} {k:Kind} {es:List T} (hid:ob[id]? = some (.arr e m' k es)) (h:vcStore P t (.ra id i m off) x ob K) : ∃ r ob',K r ob' ∧ vcStore P t (.ra id i m off) x ob fun a b=>a=r∧b=ob':=by
 simp only [vcStore,hid] at h ⊢
 obtain ⟨⟨h1,h2⟩,h⟩:=h
 split at h
 case h_2=>exact h.elim
 obtain ⟨h3,h4,h⟩:=h
 have hy : es[i]? = some es[i]:=List.getElem?_eq_getElem h2
 have hk:=h _ hy
 dsimp only at hk
 split at hk
 ·rename_i hc
  refine ⟨_,_,hk,⟨h1,h2⟩,h3,h4,fun y hy'=>?_⟩
  rw [hy] at hy'; cases hy'
  rw [if_pos hc]
  exact ⟨rfl,rfl⟩
 ·rename_i hc
  obtain ⟨a1,a2,a3⟩:=hk
  refine ⟨_,_,a3,⟨h1,h2⟩,h3,h4,fun y hy'=>?_⟩
  rw [hy] at hy'; cases hy'
  rw [if_neg hc]
  exact ⟨a1,a2,rfl,rfl⟩
theorem vcMk_sound {B:Nat} {ob:List Ob} {e:Operand→AV} {o:Oper} {K:AV→List Ob→Prop} (h:vcMk P B ob e o.op K) : ∃ x ob',K x ob' ∧ ((isSt o.op=false → ∃ ext,ob'=ob.take B ++ ext)∧(isSt o.op=false→isBs o.op=false → ∃ ext,ob'=ob ++ ext))∧MkFact P ob e o x ob':=by
 have app : ∀ {ext:List Ob},(isSt o.op=false → ∃ ext',ob ++ ext=ob.take B ++ ext')∧(isSt o.op=false→isBs o.op=false → ∃ ext',ob ++ ext=ob ++ ext'):=fun {ext}=>⟨fun _=>⟨ob.drop B ++ ext,by rw [← List.append_assoc,List.take_append_drop]⟩,fun _ _=>⟨ext,rfl⟩⟩
 unfold vcMk at h
 split at h
 ·rename_i c hop
  split at h
  case h_3=>cases h
  case h_2 =>
   rename_i hc
   split at h
   case h_2=>cases h
   rename_i s x t t' ha ht
   obtain ⟨rfl,h⟩:=h
   obtain ⟨r,ob',hK,hb⟩:=append_mono h
   have hst : isSt o.op=true:=by rw [hop]; simp [isSt,hc]
   have ha' : c.args = #[s,x]:=by apply Array.ext'; simpa using ha
   have hmem : ∀ y∈[s,x],y∈o.op.operands:=by
    intro y hy
    rw [hop]
    simp only [Op.operands,Call.operands,hc,ha']
    simpa using hy
   refine ⟨_,_,hK,⟨fun hh=>absurd (hst.symm.trans hh) (by simp),fun hh=>absurd (hst.symm.trans hh) (by simp)⟩,.of fun hr h1 h2 hn=>append_sound hop hc ha ht hr ?_ hn⟩
   rw [h2 s (hmem s (by simp)),h2 x (hmem x (by simp)),h1]
   exact hb
  rename_i f hc
  unfold vcMkC at h
  split at h
  case h_2=>cases h
  rename_i g caps hg
  obtain ⟨ts',x,obs,hcon,hts,hb,hs,hK⟩:=h
  have hmem : f∈o.op.operands∧∀ y∈c.args.toList,y∈o.op.operands:=by
   rw [hop]
   refine ⟨?_,fun y hy=>?_⟩
   ·simp [Op.operands,Call.operands,hc]
   ·simp only [Op.operands,Call.operands,hc,Array.mem_append]
    exact .inr (by simpa using hy)
  refine ⟨_,_,hK,app,.of fun hr h1 h2 hn=>callO_sound hop hc hr ?_ hn⟩
  rename_i σ _ _ _ _ _ _
  have hm : c.args.toList.map σ.opd=c.args.toList.map e:=List.map_congr_left fun y hy=>h2 y (hmem.2 y hy)
  rw [h2 f hmem.1,hm,h1]
  unfold vcCallO
  rw [hg]
  exact .closed hcon hts hb hs ⟨rfl,rfl⟩
 ·rename_i t n parts hop
  obtain ⟨x,ob',hK,hb⟩:=buildSlice_mono h
  obtain ⟨ext,rfl,hK2⟩:=newOb_spec hK
  have hbs : isBs o.op=true:=by rw [hop]; rfl
  refine ⟨x,_,hK2,⟨fun _=>⟨ext,rfl⟩,fun _ h=>absurd (hbs.symm.trans h) (by simp)⟩,.of fun hr h1 h2 hn=>buildSlice_sound hop hr (K:=fun x' ob''=>x'=x∧ob''=ob.take B ++ ext) ?_ hn⟩
  rename_i σ _ _ _ _ _ _
  have hm : (parts.toList.map fun p=>σ.opd p.2)=parts.toList.map fun p=>e p.2:=List.map_congr_left fun p hp=>h2 p.2 (by
   rw [hop]
   simp only [Op.operands,List.mem_toArray,List.mem_map]
   exact ⟨p,hp,rfl⟩)
  rw [hm,h1]
  exact hb
 ·rename_i t hop
  split at h
  ·rename_i z hz
   refine ⟨_,_,h,app,.of fun hr h1 h2 hn=>alloc_sound hop hr hz ?_ hn⟩
   rw [h1]; exact ⟨rfl,rfl⟩
  ·cases h
 ·rename_i t x hop
  refine ⟨_,_,h,app,.of fun hr h1 h2 hn=>box_sound hop hr ?_ hn⟩
  rename_i σ _ _ _ _ _ _
  rw [h1,h2 x (by rw [hop]; simp [Op.operands])]
  exact ⟨rfl,rfl⟩
 ·rename_i t p x hop
  have hst : isSt o.op=true:=by rw [hop]; rfl
  split at h
  case h_3=>cases h
  case h_2 =>
   rename_i id i m off hp
   split at h
   case h_2=>cases h
   rename_i e' m' k es hy
   obtain ⟨r,ob',hK,hb⟩:=storeRa_mono hy h
   refine ⟨_,_,hK,⟨fun hh=>absurd (hst.symm.trans hh) (by simp),fun hh=>absurd (hst.symm.trans hh) (by simp)⟩,.of fun hr h1 h2 hn=>?_⟩
   rename_i σ _ _ _ _ _ _
   have hp':=h2 p (by rw [hop]; simp [Op.operands])
   have hx':=h2 x (by rw [hop]; simp [Op.operands])
   rw [hp] at hp'
   rw [← hx',← h1] at hb
   exact store_ra_sound hop hr hp' hb (fun _ _ _ _ _ _ _ hh=>by rw [h1,hy] at hh; cases hh) hn
  rename_i id off hp
  unfold vcStore at h
  simp only at h
  split at h
  case h_2=>cases h
  rename_i y hy
  obtain ⟨q1,q2,q3,q4,q5,q6,hK⟩:=h
  refine ⟨_,_,hK,⟨fun hh=>absurd (hst.symm.trans hh) (by simp),fun hh=>absurd (hst.symm.trans hh) (by simp)⟩,.of fun hr h1 h2 hn=>?_⟩
  rename_i σ _ _ _ _ _ _
  have hp':=h2 p (by rw [hop]; simp [Op.operands])
  have hx':=h2 x (by rw [hop]; simp [Op.operands])
  rw [hp] at hp'
  rw [← hx'] at q2 q3 q4 q5 q6 hn
  rw [← h1] at hy hn
  exact store_box_sound hop hr hp' hy q1 q2 q3 q4 q5 q6 ⟨rfl,rfl⟩ hn
 ·cases h
theorem vcInt_det {op:BinOp} {k:IntKind} {x y:Int} {K:AV→Prop} (hop:op = .add ∨ op = .sub ∨ op = .quo) (h:vcInt op k x y K) : ∃ r,K r∧vcInt op k x y fun r'=>r'=r:=by
 rcases hop with rfl | rfl | rfl
 ·simp only [vcInt] at h ⊢
  split at h
  ·rename_i hk; exact ⟨_,h.2,by rw [if_pos hk]; exact ⟨h.1,rfl⟩⟩
  ·rename_i hk; exact ⟨_,h,by rw [if_neg hk]⟩
 ·simp only [vcInt] at h ⊢
  split at h
  ·rename_i hk; exact ⟨_,h.2,by rw [if_pos hk]; exact ⟨h.1,rfl⟩⟩
  ·rename_i hk; exact ⟨_,h,by rw [if_neg hk]⟩
 ·obtain ⟨a,b,c,d,h⟩:=h
  exact ⟨_,h,a,b,c,d,rfl⟩
theorem vcBs_args {op:BinOp} {t:TypeId} {K:AV→Prop} (hop:op = .add ∨ op = .sub ∨ op = .quo) : ∀ {x y:AV},vcBs P op t x y K→(∃ k a k' b,x = .t (.i k a)∧y = .t (.i k' b)) ∨ ∃ a b,x = .t (.s a)∧y = .t (.s b):=by
 intro x y h
 unfold vcBs at h
 split at h
 ·exfalso
  split at h
  ·obtain ⟨_,_,_,h⟩:=h
   rcases hop with rfl | rfl | rfl<;>exact h
  ·exact h
 ·unfold vcBin at h
  split at h
  ·exact .inl ⟨_,_,_,_,rfl,rfl⟩
  ·exact .inr ⟨_,_,rfl,rfl⟩
  ·exfalso; rcases hop with rfl | rfl | rfl<;>exact h.2
  ·exfalso; rcases hop with rfl | rfl | rfl<;>exact h.2
  ·exact h.elim
theorem vcBs_det {op:BinOp} {t:TypeId} {x y:AV} {K:AV→Prop} (hop:op = .add ∨ op = .sub ∨ op = .quo) (h:vcBs P op t x y K) : ∃ r,K r∧vcBs P op t x y fun r'=>r'=r:=by
 rcases vcBs_args hop h with ⟨k,a,k',b,rfl,rfl⟩ | ⟨a,b,rfl,rfl⟩
 ·obtain ⟨h1,h2⟩ : k=k' ∧ vcInt op k a b K:=h
  obtain ⟨r,h3,h4⟩:=vcInt_det hop h2
  exact ⟨r,h3,show k=k' ∧ vcInt op k a b _ from ⟨h1,h4⟩⟩
 ·have h : vcStr op a b K:=h
  rcases hop with rfl | rfl | rfl
  ·exact ⟨_,h.2,show vcStr .add a b _ from ⟨h.1,rfl⟩⟩
  ·exact h.elim
  ·exact h.elim
theorem vcLook_det {ob:List Ob} {e:Operand→AV} {op:Op} {K:AV→Prop} (hp:isPure op=true) (h:vcLook P ob e op K) : ∃ r,K r∧∀ ob',vcLook P ob' e op fun r'=>r'=r:=by
 cases op<;>first | (simp [isPure] at hp; done) | skip
 ·exact ⟨_,h,fun _=>rfl⟩
 ·exact ⟨_,h,fun _=>rfl⟩
 ·rename_i op t x y yt
  have hop : op = .add ∨ op = .sub ∨ op = .quo:=by cases op<;>simp [isPure] at hp ⊢
  obtain ⟨r,h1,h2⟩:=vcBs_det hop (show vcBs P op t (e x) (e y) K from h)
  exact ⟨r,h1,fun _=>h2⟩
 ·rename_i x i
  have h : vcExtract (e x) i K:=h
  show ∃ r,K r∧∀ ob',vcExtract (e x) i fun r'=>r'=r
  unfold vcExtract at h ⊢
  split at h
  all_goals first
   | cases h; done
   | (rename_i hx
      split at h
      ·rename_i y hy
       refine ⟨_,h,fun _=>?_⟩
       simp only [hy]
      ·cases h)
def FactM (P:Program) (all:Array Oper) (B:Nat) (σ:St) (b:Bool) (o:Oper) (x:AV) (ext:List Ob) : Prop :=
 (dstOk σ.n o.dst∧(∀ t,(getL σ.tm t).under σ.ob.length=true)∧∀ (id:Nat) (o:Ob),σ.ob[id]? = some o→o.under σ.ob.length=true)∧if b=true then o.guard=none∧((isSt o.op=false → ∃ more,ext=σ.ob.take B ++ more)∧(isSt o.op=false→isBs o.op=false → ∃ more,ext=σ.ob ++ more))∧MkFact P σ.ob σ.opd o x ext
  else ext=σ.ob∧((guardOf all σ o=some true∧Fact P σ.ob σ.opd o x∧(isPure o.op=true → ∀ {w0:Base} {σ1:St} {hv:Hv} {S:Nat→Prop} {F:Nat→List Nat} {a:Act} {w:World},Rel w0 σ1 hv S F a w→(∀ y∈o.op.operands,σ1.opd y=σ.opd y)→Fact P σ1.ob σ.opd o x)) ∨ (guardOf all σ o=some false∧x = .ud))
def runM (all:Array Oper) : St→List (Bool × Nat)→List (AV × List Ob)→St
 | σ, (_, i) :: es, (x, ext) :: rs => match all[i]? with
   | some o => runM all (stp σ o.dst x ext) es rs
   | none => runM all σ es rs
 | σ, _, _ => σ
def FactsM (P:Program) (all:Array Oper) (B:Nat) : St→List (Bool × Nat)→List (AV × List Ob)→Prop
 | _, [], [] => True
 | σ, (b, i) :: es, (x, ext) :: rs => ∃ o,all[i]? = some o∧FactM P all B σ b o x ext∧FactsM P all B (stp σ o.dst x ext) es rs
 | _, _, _ => False
theorem vcDm_sound {all:Array Oper} {B:Nat} {rest:List Oper} : ∀ (es:List (Bool × Nat)) {σ σ':St} {hv:Hv} {S:Nat→Prop} {F:Nat→List Nat} {a:Act} {w:World} {K:St→Prop},Rel w0 σ hv S F a w→Eqv σ σ'→vcDm P all B es rest σ' K →
 ∃ rs σ'',Eqv (runM all σ es rs) σ'' ∧ vcOps P all rest σ'' K∧FactsM P all B σ es rs
 | [], σ, σ', hv, S, F, a, w, K, hr, he, h => ⟨[],σ',he,h,trivial⟩
 | (b, i) :: es, σ, σ', hv, S, F, a, w, K, hr, he, h => by
   unfold vcDm at h
   split at h
   case h_2=>cases h
   rename_i o ho
   have ho : all[i]? = some o:=by rw [opAt_eq,Array.getElem?_toList] at ho; exact ho
   have hu : (∀ t,(getL σ.tm t).under σ.ob.length=true)∧∀ (id:Nat) (o:Ob),σ.ob[id]? = some o→o.under σ.ob.length=true:=⟨hr.utm,hr.uob⟩
   cases b with
   | true =>
     obtain ⟨hg,hd,h⟩:=h
     rw [he.n] at hd
     have hdk : ∀ k,o.dst=some k→k < σ.n:=fun k hk=>by rw [hk] at hd; exact hd
     obtain ⟨x,ob',hK,hx,hf⟩:=vcMk_sound h
     rw [he.ob,show σ'.opd=σ.opd from funext he.opd] at hf
     rw [he.ob] at hx
     obtain ⟨hv',S',F',a',w',hr'⟩:=hf.get hr rfl (fun _ _=>rfl) hdk
     obtain ⟨rs,σ'',k0,k1,k2⟩:=vcDm_sound es hr' (he.stp o.dst x ob') hK
     refine ⟨(x,ob') :: rs,σ'',?_,k1,o,ho,⟨⟨hd,hu⟩,?_⟩,k2⟩
     ·simp only [runM,ho]; exact k0
     ·exact ⟨hg,hx,hf⟩
   | false =>
     obtain ⟨hd,h⟩:=h
     rw [he.n] at hd
     have hdk : ∀ k,o.dst=some k→k < σ.n:=fun k hk=>by rw [hk] at hd; exact hd
     rcases vcGuard_sound he h with ⟨hg,σ1,he1,h⟩ | ⟨hg,σ1,he1,h⟩
     ·have hr1:=hr.tm_ext he1
      obtain ⟨x,hx,hf,hpure⟩ : ∃ x,vcDm P all B es rest (σ1.set o.dst x) K∧Fact P σ1.ob σ1.opd o x∧(isPure o.op=true → ∀ ob',vcLook P ob' σ1.opd o.op fun r'=>r'=x):=by
       cases hp : isPure o.op with
       | true =>
         obtain ⟨x,hx,hdet⟩:=vcLook_det hp h
         obtain ⟨r,rfl,hf⟩:=vcLook_sound hr1.obs (fun y _=>hr1.arg y) (hdet σ1.ob)
         exact ⟨r,hx,hf,fun _=>hdet⟩
       | false =>
         obtain ⟨x,hx,hf⟩:=vcLook_sound hr1.obs (fun y _=>hr1.arg y) h
         exact ⟨x,hx,hf,fun hh=>by cases hh⟩
      rw [he1.ob,show σ1.opd=σ.opd from funext he1.opd] at hf
      rw [show σ1.opd=σ.opd from funext he1.opd] at hpure
      obtain ⟨hv',S',F',a',w',hr'⟩ : ∃ hv' S' F' a' w',Rel w0 (σ.set o.dst x) hv' S' F' a' w':=by
       rcases hf with hf | ⟨r,rfl,hf⟩
       ·obtain ⟨v,h1,⟨L,h2,h2'⟩,h3⟩:=hf hr.obs (fun y _=>hr.arg y)
        exact ⟨hv,S,F,_,w,hr.put h2 h2' h3 hdk⟩
       ·obtain ⟨f,args,h1,h2⟩:=hf hr.obs hr.Blt hr.rootsIn (fun y _=>hr.arg y)
        obtain ⟨en,w',v,L',rfl,q1,q2,q3⟩:=Calls.some h2
        exact ⟨_,_,F,_,w',(hr.grow q3).put (x:=.t r) (by simpa only [footA] using q1) q2 rfl hdk⟩
      obtain ⟨rs,σ'',k0,k1,k2⟩:=vcDm_sound es hr' (he1.set o.dst x) hx
      refine ⟨(x,σ.ob) :: rs,σ'',?_,k1,o,ho,⟨⟨hd,hu⟩,rfl,.inl ⟨hg,hf,fun hp=>?_⟩⟩,?_⟩
      ·simp only [runM,ho,stp_same]; exact k0
      ·intro w0 σ2 hv S F a w hr2 hopd
       obtain ⟨r,rfl,hf2⟩:=vcLook_sound (ob:=σ2.ob) (e:=σ.opd) (ρ:=a.eval) hr2.obs (fun y hy=>by rw [← hopd y hy]; exact hr2.arg y) (hpure hp σ2.ob)
       exact hf2
      ·rw [stp_same]; exact k2
     ·obtain ⟨rs,σ'',k0,k1,k2⟩:=vcDm_sound es (hr.put (d:=o.dst) (x:=.ud) (v:=undef) (L:=[]) (by simp [footA]) (by simp) rfl hdk) (he1.set o.dst .ud) h
      refine ⟨(.ud,σ.ob) :: rs,σ'',?_,k1,o,ho,⟨⟨hd,hu⟩,rfl,.inr ⟨hg,rfl⟩⟩,?_⟩
      ·simp only [runM,ho,stp_same]; exact k0
      ·rw [stp_same]; exact k2
theorem FactsM.len {all:Array Oper} {B:Nat} : ∀ {es:List (Bool × Nat)} {rs:List (AV × List Ob)} {σ:St},FactsM P all B σ es rs→rs.length=es.length
 | [], [], _, _ => rfl
 | [], _ :: _, _, h => h.elim
 | _ :: _, [], _, h => h.elim
 | (_, _) :: es, (_, _) :: rs, σ, h => by obtain ⟨o,_,_,h⟩:=h; simp [FactsM.len h]
theorem FactsM.get {all:Array Oper} {B:Nat} : ∀ {es:List (Bool × Nat)} {rs:List (AV × List Ob)} {σ:St},FactsM P all B σ es rs → ∀ {p:Nat} {b:Bool} {i:Nat},es[p]? = some (b,i) → ∃ o x ext,all[i]? = some o∧rs[p]? = some (x,ext)∧FactM P all B (runM all σ (es.take p) (rs.take p)) b o x ext
 | [], _, _, _, p, b, i, hi => by simp at hi
 | _ :: _, [], _, h, _, _, _, _ => h.elim
 | (c, j) :: es, (x, ext) :: rs, σ, h, 0, b, i, hi => by
   simp only [List.getElem?_cons_zero,Option.some.injEq,Prod.mk.injEq] at hi
   obtain ⟨rfl,rfl⟩:=hi
   obtain ⟨o,ho,hf,_⟩:=h
   exact ⟨o,x,ext,ho,rfl,hf⟩
 | (c, j) :: es, (x, ext) :: rs, σ, h, p + 1, b, i, hi => by
   obtain ⟨o,ho,_,h⟩:=h
   obtain ⟨o',y,ext',h1,h2,h3⟩:=FactsM.get h (p:=p) (by simpa using hi)
   refine ⟨o',y,ext',h1,by simpa using h2,?_⟩
   simp only [List.take_succ_cons,runM,ho]
   exact h3
theorem runM_n {all:Array Oper} : ∀ (es:List (Bool × Nat)) (rs:List (AV × List Ob)) (σ:St),(runM all σ es rs).n=σ.n
 | [], _, _ => by simp [runM]
 | _ :: _, [], _ => by simp [runM]
 | (b, i) :: es, (x, ext) :: rs, σ => by
   simp only [runM]
   split
   ·rw [runM_n es rs,stp_n]
   ·rw [runM_n es rs]
theorem runM_step {all:Array Oper} : ∀ (es:List (Bool × Nat)) (rs:List (AV × List Ob)) (σ:St) {p:Nat} {b:Bool} {i:Nat} {o:Oper} {x:AV} {ob:List Ob},es[p]? = some (b,i)→rs[p]? = some (x,ob)→all[i]? = some o →
 runM all σ (es.take (p + 1)) (rs.take (p + 1))=stp (runM all σ (es.take p) (rs.take p)) o.dst x ob
 | [], _, _, _, _, _, _, _, _, h, _, _ => by simp at h
 | _ :: _, [], _, _, _, _, _, _, _, _, h, _ => by simp at h
 | (c, j) :: es, (y, ob') :: rs, σ, 0, b, i, o, x, ob, h1, h2, ho => by
   simp only [List.getElem?_cons_zero,Option.some.injEq,Prod.mk.injEq] at h1 h2
   obtain ⟨rfl,rfl⟩:=h1
   obtain ⟨rfl,rfl⟩:=h2
   simp [runM,ho]
 | (c, j) :: es, (y, ob') :: rs, σ, p + 1, b, i, o, x, ob, h1, h2, ho => by
   simp only [List.getElem?_cons_succ] at h1 h2
   simp only [List.take_succ_cons,runM]
   split
   ·exact runM_step es rs _ h1 h2 ho
   ·exact runM_step es rs σ h1 h2 ho
theorem runM_miss {all:Array Oper} {t:Nat} : ∀ (es:List (Bool × Nat)) (rs:List (AV × List Ob)) (σ:St),(∀ (p:Nat) (b:Bool) (i:Nat) (o:Oper),es[p]? = some (b,i)→all[i]? = some o→o.dst≠some t)→getL (runM all σ es rs).tm t=getL σ.tm t
 | [], _, _, _ => by simp [runM]
 | _ :: _, [], _, _ => by simp [runM]
 | (b, i) :: es, (x, ext) :: rs, σ, h => by
   simp only [runM]
   have hrest : ∀ (p:Nat) (b:Bool) (i:Nat) (o:Oper),es[p]? = some (b,i)→all[i]? = some o→o.dst≠some t:=fun p b i o hp=>h (p + 1) b i o (by simpa using hp)
   split
   ·rename_i o ho
    rw [runM_miss es rs _ hrest,stp_get,if_neg (h 0 b i o rfl ho)]
   ·exact runM_miss es rs _ hrest
theorem runM_hit {all:Array Oper} {t:Nat} : ∀ (es:List (Bool × Nat)) (rs:List (AV × List Ob)) (σ:St) {p:Nat} {b:Bool} {i:Nat} {o:Oper} {x:AV} {ext:List Ob},es[p]? = some (b,i)→rs[p]? = some (x,ext)→all[i]? = some o→o.dst=some t →
 (∀ (q:Nat) (c:Bool) (j:Nat) (r:Oper),es[q]? = some (c,j)→all[j]? = some r→q≠p→r.dst≠some t)→getL (runM all σ es rs).tm t=x
 | [], _, _, _, _, _, _, _, _, h, _, _, _, _ => by simp at h
 | _ :: _, [], _, _, _, _, _, _, _, _, h, _, _, _ => by simp at h
 | (c, j) :: es, (y, ext') :: rs, σ, 0, b, i, o, x, ext, h1, h2, ho, hd, hn => by
   simp only [List.getElem?_cons_zero,Option.some.injEq,Prod.mk.injEq] at h1 h2
   obtain ⟨rfl,rfl⟩:=h1
   obtain ⟨rfl,rfl⟩:=h2
   simp only [runM,ho]
   rw [runM_miss es rs _ (fun q c j r hq hr=>hn (q + 1) c j r (by simpa using hq) hr (by omega)),stp_get,if_pos hd]
 | (c, j) :: es, (y, ext') :: rs, σ, p + 1, b, i, o, x, ext, h1, h2, ho, hd, hn => by
   simp only [List.getElem?_cons_succ] at h1 h2
   have hrest : ∀ (q:Nat) (c:Bool) (j:Nat) (r:Oper),es[q]? = some (c,j)→all[j]? = some r→q≠p→r.dst≠some t:=fun q c j r hq hr hne=>hn (q + 1) c j r (by simpa using hq) hr (by omega)
   simp only [runM]
   split
   ·exact runM_hit es rs _ h1 h2 ho hd hrest
   ·exact runM_hit es rs _ h1 h2 ho hd hrest
theorem Obs.less {ob more:List Ob} (h:Obs (ob ++ more) hv S F w) (hu:∀ (id:Nat) (o:Ob),ob[id]? = some o→o.under ob.length=true) : Obs ob hv S F w:=by
 have hl : ∀ {id:Nat} {o:Ob},ob[id]? = some o→(ob ++ more)[id]? = some o:=fun hid=>by rw [List.getElem?_append_left (List.getElem?_eq_some_iff.1 hid).1]; exact hid
 exact ⟨fun id o hid=>h.ob id o (hl hid),hu,fun id o hid=>h.own id o (hl hid),h.SB,h.one⟩
theorem RootsIn.less {ob more:List Ob} (h:RootsIn (ob ++ more) hv w) : RootsIn ob hv w:=fun id o hid=>h id o (by rw [List.getElem?_append_left (List.getElem?_eq_some_iff.1 hid).1]; exact hid)
theorem Fact.doesMore {ob more:List Ob} {x:AV} {o:Oper} {e:Operand→AV} (hf:Fact P ob e o x) (hr:Rel w0 σ hv S F a w) (hob:σ.ob=ob ++ more) (hu:∀ (id:Nat) (o:Ob),ob[id]? = some o→o.under ob.length=true) (he:∀ y∈o.op.operands,Arg hv S w ob.length (e y) (a.eval y))
 {next:Value→World→Prop} (hn:∀ v w' (hv':Hv) S',Rel w0 σ hv' S' F a w'→(∃ L,footA hv' w' x v L∧∀ b∈L,S' b)→x.under σ.ob.length=true→next v w') : Does P Q o a w next:=by
 have hle : ob.length≤σ.ob.length:=by rw [hob,List.length_append]; omega
 have ho : Obs ob hv S F w:=(hob ▸ hr.obs).less hu
 rcases hf with hf | ⟨r,rfl,hf⟩
 ·obtain ⟨v,h1,h2,h3⟩:=hf ho he
  exact does_value h1 (hn v w hv S hr h2 (AV.under_mono hle _ h3))
 ·obtain ⟨f,args,h1,h2⟩:=hf ho hr.Blt (RootsIn.less (hob ▸ hr.rootsIn)) he
  unfold Does Oper.wp
  rw [h1,Oper.upon_enter]
  refine h2.mono fun en w' hh=>?_
  obtain ⟨v,L',rfl,q1,q2,q3⟩:=hh
  exact ⟨v,rfl,hn v w' _ _ (hr.grow q3) ⟨L',by simpa only [footA] using q1,q2⟩ rfl⟩
theorem St.opd_under {σ:St} (h:∀ t,(getL σ.tm t).under σ.ob.length=true) (x:Operand) : (σ.opd x).under σ.ob.length=true:=by
 cases x with
 | tmp t => exact h t
 | const v => exact ofV_under _ v
 | func f => show AV.under σ.ob.length (if f < 1000000 then AV.fn f [] else AV.un)=true; split<;>simp [AV.under,unders]
 | global g => rfl
structure PartM (ops:Array Oper) (es:List (Bool × Nat)) (rs:List (AV × List Ob)) (σ0:St) (listed:Array Bool) (σ:St) : Prop where
 n : σ.n=σ0.n
 ob : ∃ m,m≤es.length∧σ.ob=(runM ops σ0 (es.take m) (rs.take m)).ob∧∀ (q:Nat) (j:Nat),es[q]? = some (true,j)→(listed.getD j false=true ↔ q < m)
 hit : ∀ (p:Nat) (b:Bool) (j:Nat) (o:Oper) (t:Nat) (x:AV) (ext:List Ob),es[p]? = some (b,j)→rs[p]? = some (x,ext)→ops[j]? = some o→o.dst=some t→listed.getD j false=true→getL σ.tm t=x
 miss : ∀ (t:Nat),(∀ (p:Nat) (b:Bool) (j:Nat) (o:Oper),es[p]? = some (b,j)→ops[j]? = some o→listed.getD j false=true→o.dst≠some t)→getL σ.tm t=getL σ0.tm t
theorem count_false : ∀ (l:List Bool) (m:Nat),(∀ j,m≤j → ∀ b,l[j]? = some b→b=false)→l.length - m≤l.count false:=by
 intro l
 induction l with
 | nil => intro m _; simp
 | cons b l ihl =>
   intro m hm
   cases m with
   | zero =>
     have hb:=hm 0 (Nat.le_refl _) b rfl
     subst hb
     have:=ihl 0 (fun j _ b hb=>hm (j + 1) (by omega) b (by simpa using hb))
     simp only [List.length_cons,List.count_cons_self]; omega
   | succ m =>
     have:=ihl m (fun j hj b hb=>hm (j + 1) (by omega) b (by simpa using hb))
     simp only [List.length_cons,List.count_cons]; omega
theorem early_soundM {ops:Array Oper} {k:Nat} {es:List (Bool × Nat)} (hs:StaticM ops k es) {K:St→Prop} (hQ:∀ σ' (hv':Hv) S' F' a' w',K σ'→Rel w0 σ' hv' S' F' a' w'→Q .normal a' w') {rs:List (AV × List Ob)} {σ0:St}
 (hf:FactsM P ops σ0.ob.length σ0 es rs) {σe:St} (hE:Eqv (runM ops σ0 es rs) σe) (hK:vcOps P ops (ops.toList.drop k) σe K) :
 ∀ (fuel:Nat) {listed:Array Bool} {σ:St} {hv:Hv} {S:Nat→Prop} {F:Nat→List Nat} {a:Act} {w:World},listed.size=ops.size→Down ops listed→(∀ j,k≤j→listed.getD j false=false)→listed.toList.count false≤fuel →
   PartM ops es rs σ0 listed σ→Rel w0 σ hv S F a w→wpAny P .any ops Q fuel listed a w:=by
 intro fuel
 have hrl : rs.length=k:=by rw [hf.len,hs.len]
 have hop : ∀ {p:Nat} {b:Bool} {i:Nat},es[p]? = some (b,i) → ∃ o,ops[i]? = some o:=fun {p b i} h=>by obtain ⟨o,_,_,h,_⟩:=hf.get h; exact ⟨o,h⟩
 have hrs : ∀ {p:Nat} {b:Bool} {i:Nat},es[p]? = some (b,i) → ∃ x ext,rs[p]? = some (x,ext):=fun {p b i} h=>by
  obtain ⟨o,x,ext,_,h2,h3⟩:=hf.get h
  exact ⟨x,ext,h2⟩
 -- the objects after the first p
 have one : ∀ {p:Nat} {b:Bool} {i:Nat},es[p]? = some (b,i) → ∃ o,ops[i]? = some o∧(b=false→(runM ops σ0 (es.take (p + 1)) (rs.take (p + 1))).ob=(runM ops σ0 (es.take p) (rs.take p)).ob)∧(isSt o.op=false → ∃ more,(runM ops σ0 (es.take (p + 1)) (rs.take (p + 1))).ob=(runM ops σ0 (es.take p) (rs.take p)).ob.take σ0.ob.length ++ more)∧(isSt o.op=false→isBs o.op=false → ∃ more,(runM ops σ0 (es.take (p + 1)) (rs.take (p + 1))).ob=(runM ops σ0 (es.take p) (rs.take p)).ob ++ more):=by
  intro p b i h
  obtain ⟨o,x,ob',ho,hx,_,hg⟩:=hf.get h
  refine ⟨o,ho,?_⟩
  rw [runM_step es rs σ0 h hx ho,stp_ob]
  cases b with
  | true => exact ⟨fun hh=>by simp at hh,hg.2.1⟩
  | false => exact ⟨fun _=>hg.1,fun _=>⟨(runM ops σ0 (es.take p) (rs.take p)).ob.drop σ0.ob.length,by rw [List.take_append_drop]; exact hg.1⟩,fun _ _=>⟨[],by rw [List.append_nil]; exact hg.1⟩⟩
 -- no maker between: the objects are the same
 have same : ∀ {p m:Nat},p≤m→m≤es.length→(∀ (q j:Nat),p≤q→q < m→es[q]? ≠ some (true,j))→(runM ops σ0 (es.take m) (rs.take m)).ob=(runM ops σ0 (es.take p) (rs.take p)).ob:=by
  intro p m
  induction m with
  | zero => intro h _ _; have : p=0:=by omega
            rw [this]
  | succ m ihm =>
    intro hpm hm hno
    rcases Nat.lt_or_ge m p with hp | hp
    ·have : p=m + 1:=by omega
     rw [this]
    ·rw [← ihm hp (by omega) (fun q j h1 h2=>hno q j h1 (by omega))]
     obtain ⟨⟨b,i⟩,he⟩ : ∃ e,es[m]? = some e:=⟨_,List.getElem?_eq_getElem (by omega)⟩
     obtain ⟨o,ho,h1,_⟩:=one he
     cases b with
     | true => exact absurd he (hno m i hp (by omega))
     | false => exact h1 rfl
 have app : ∀ {p m:Nat},p≤m→m≤es.length→(∀ (q j:Nat) (r:Oper),p≤q→q < m→es[q]? = some (true,j)→ops[j]? = some r→isSt r.op=false∧isBs r.op=false) → ∃ more,(runM ops σ0 (es.take m) (rs.take m)).ob=(runM ops σ0 (es.take p) (rs.take p)).ob ++ more:=by
  intro p m
  induction m with
  | zero => intro h _ _; have : p=0:=by omega
            exact ⟨[],by rw [this,List.append_nil]⟩
  | succ m ihm =>
    intro hpm hm hno
    rcases Nat.lt_or_ge m p with hp | hp
    ·have : p=m + 1:=by omega
     exact ⟨[],by rw [this,List.append_nil]⟩
    ·obtain ⟨more,h⟩:=ihm hp (by omega) (fun q j r h1 h2=>hno q j r h1 (by omega))
     obtain ⟨⟨b,i⟩,he⟩ : ∃ e,es[m]? = some e:=⟨_,List.getElem?_eq_getElem (by omega)⟩
     obtain ⟨o,ho,h1,_,h2⟩:=one he
     cases b with
     | true =>
       obtain ⟨more',h'⟩:=h2 (hno m i o hp (by omega) he ho).1 (hno m i o hp (by omega) he ho).2
       exact ⟨more ++ more',by rw [h',h,List.append_assoc]⟩
     | false => exact ⟨more,by rw [h1 rfl,h]⟩
 -- the objects of the region's beginning stay in front
 have base : ∀ {m:Nat},m≤es.length→(∀ (q j:Nat) (r:Oper),q < m→es[q]? = some (true,j)→ops[j]? = some r→isSt r.op=false) → ∃ more,(runM ops σ0 (es.take m) (rs.take m)).ob=σ0.ob ++ more:=by
  intro m
  induction m with
  | zero => intro _ _; exact ⟨[],by simp [runM]⟩
  | succ m ihm =>
    intro hm hno
    obtain ⟨more,h⟩:=ihm (by omega) (fun q j r h1=>hno q j r (by omega))
    obtain ⟨⟨b,i⟩,he⟩ : ∃ e,es[m]? = some e:=⟨_,List.getElem?_eq_getElem (by omega)⟩
    obtain ⟨o,ho,h1,h2,_⟩:=one he
    cases b with
    | true =>
      obtain ⟨more',h'⟩:=h2 (hno m i o (by omega) he ho)
      exact ⟨more',by rw [h',h,List.take_left]⟩
    | false => exact ⟨more,by rw [h1 rfl,h]⟩
 have full : ∀ {listed:Array Bool} {σ:St} {hv:Hv} {S:Nat→Prop} {F:Nat→List Nat} {a:Act} {w:World},(∀ j,j < k→listed.getD j false=true)→PartM ops es rs σ0 listed σ→Rel w0 σ hv S F a w →
  Rel w0 σe hv S F a w:=by
  intro listed σ hv S F a w hall hp hr
  have q1:=runM_n (all:=ops) es rs σ0
  obtain ⟨m,hmk,hm1,hm2⟩:=hp.ob
  refine Rel.tm_ext (hr.tm_ext (σ':=runM ops σ0 es rs) ⟨by rw [q1,hp.n],?_,fun t=>?_⟩) hE
  ·rw [hm1]
   have h1 : runM ops σ0 (es.take es.length) (rs.take es.length)=runM ops σ0 es rs:=by rw [List.take_length,List.take_of_length_le (by rw [hrl,hs.len]; omega)]
   rw [← h1]
   refine same hmk (Nat.le_refl _) fun q j h2 h3 hq=>?_
   have:=(hm2 q j hq).1 (hall j (hs.lt _ _ _ hq))
   omega
  by_cases ht : ∃ (p:Nat) (b:Bool) (j:Nat) (o:Oper),es[p]? = some (b,j)∧ops[j]? = some o∧o.dst=some t
  ·obtain ⟨p,b,j,o,hpj,ho,hd⟩:=ht
   obtain ⟨x,ext,hx⟩:=hrs hpj
   rw [hp.hit p b j o t x ext hpj hx ho hd (hall j (hs.lt _ _ _ hpj))]
   refine runM_hit _ _ _ hpj hx ho hd fun q c i r hq hr hne=>?_
   exact (hs.apart q p c b i j r o t hq hpj hr ho hd).1.resolve_left hne
  ·have hno : ∀ (p:Nat) (b:Bool) (j:Nat) (o:Oper),es[p]? = some (b,j)→ops[j]? = some o→o.dst≠some t:=fun p b j o h1 h2 h3=>ht ⟨p,b,j,o,h1,h2,h3⟩
   rw [hp.miss t (fun p b j o h1 h2 _=>hno p b j o h1 h2)]
   exact runM_miss _ _ _ hno
 have fin : ∀ {listed:Array Bool} {σ:St} {hv:Hv} {S:Nat→Prop} {F:Nat→List Nat} {a:Act} {w:World},listed.size=ops.size→(∀ j,k≤j→listed.getD j false=false)→Region.ready .any ops listed=[] →
  PartM ops es rs σ0 listed σ→Rel w0 σ hv S F a w→Q .normal a w:=by
  intro listed σ hv S F a w hsz hno hre hp hr
  have hall:=all_of_ready_nil hs.toStatic0 hsz hre
  have hk : k=ops.size:=by
   rcases Nat.lt_or_ge k ops.size with h | h
   ·have h1:=hall k h
    rw [hno k (Nat.le_refl _)] at h1
    cases h1
   ·have:=hs.le; omega
  have hr':=full (fun j hj=>hall j (by omega)) hp hr
  rw [List.drop_of_length_le (by simp [hk])] at hK
  exact hQ _ _ _ _ _ _ hK hr'
 induction fuel with
 | zero =>
   intro listed σ hv S F a w hsz hd hno hc hp hr
   have hre : Region.ready .any ops listed=[]:=by
    cases hre : Region.ready .any ops listed with
    | nil => rfl
    | cons i is =>
      have : i∈Region.ready .any ops listed:=by rw [hre]; exact List.mem_cons_self ..
      obtain ⟨h0,_⟩:=mem_ready.1 this
      obtain ⟨h1,h2⟩:=getD_false_true h0
      have : false∈listed.toList:=by
       have : listed[i]=false:=by simpa [h2] using h1
       rw [← this]; simp
      have:=List.count_pos_iff.2 this
      omega
   exact ⟨hre,fin hsz hno hre hp hr⟩
 | succ fuel ih =>
   intro listed σ hv S F a w hsz hd hno hc hp hr
   refine ⟨fun hre=>fin hsz hno hre hp hr,fun i hi=>?_⟩
   obtain ⟨h0,o,ho,hall⟩:=mem_ready.1 hi
   obtain ⟨h1,h2⟩:=getD_false_true h0
   have hcount : (listed.setIfInBounds i true).toList.count false≤fuel:=by
    rw [Array.toList_setIfInBounds,List.count_set (by simpa using h2)]
    have : listed[i]=false:=by simpa [h2] using h1
    have hpos : 0 < listed.toList.count false:=List.count_pos_iff.2 (by rw [← this]; simp)
    simp [this]
    rw [← Array.count_toList]
    omega
   rcases Nat.lt_or_ge i k with hik | hik
   ·obtain ⟨p,b,hpi⟩:=hs.onto i hik
    have hpk : p < k:=by have:=(List.getElem?_eq_some_iff.1 hpi).1; rw [hs.len] at this; exact this
    obtain ⟨o',x,ext,ho',hx,⟨hd1,hu1,hu2⟩,hg⟩:=hf.get hpi
    rw [ho] at ho'
    cases ho'
    have hwait : ∀ j,waits ops i j=true→listed.getD j false=true:=by
     intro j hw
     obtain ⟨o',ho',e,he,hb,rfl⟩:=waits_spec.1 hw
     rw [ho] at ho'
     cases ho'
     exact hall e he hb
    have hget : ∀ (q:Nat) (c:Bool) (j:Nat),(es.take p)[q]? = some (c,j)→es[q]? = some (c,j)∧q < p:=by
     intro q c j hq
     have hqp : q < p:=by have:=(List.getElem?_eq_some_iff.1 hq).1; simp only [List.length_take] at this; omega
     rw [List.getElem?_take_of_lt hqp] at hq
     exact ⟨hq,hqp⟩
    have hlook : ∀ t∈o.looksAt ops,getL σ.tm t=getL (runM ops σ0 (es.take p) (rs.take p)).tm t:=by
     intro t ht
     by_cases hex : ∃ (q:Nat) (c:Bool) (j:Nat) (r:Oper),es[q]? = some (c,j)∧ops[j]? = some r∧r.dst=some t
     ·obtain ⟨q,c,j,r,hq,hr',hrd⟩:=hex
      obtain ⟨hqp,hw⟩:=(hs.apart p q b c i j o r t hpi hq ho hr' hrd).2 ht
      obtain ⟨y,exy,hy⟩:=hrs hq
      rw [hp.hit q c j r t y exy hq hy hr' hrd (hwait j hw)]
      refine (runM_hit _ _ _ (by rw [List.getElem?_take_of_lt hqp]; exact hq) (by rw [List.getElem?_take_of_lt hqp]; exact hy) hr' hrd fun m d l z hm hz hne=>?_).symm
      exact (hs.apart m q d c l j z r t (hget m d l hm).1 hq hz hr' hrd).1.resolve_left hne
     ·have hnone : ∀ (q:Nat) (c:Bool) (j:Nat) (r:Oper),es[q]? = some (c,j)→ops[j]? = some r→r.dst≠some t:=fun q c j r h1 h2 h3=>hex ⟨q,c,j,r,h1,h2,h3⟩
      rw [hp.miss t fun q c j r h1 h2 _=>hnone q c j r h1 h2]
      exact (runM_miss _ _ _ fun q c j r h1 h2=>hnone q c j r (hget q c j h1).1 h2).symm
    have n1:=runM_n (all:=ops) (es.take p) (rs.take p) σ0
    have hdk : ∀ t,o.dst=some t→t < σ.n:=fun t ht=>by
     rw [ht,n1] at hd1
     rw [hp.n]; exact hd1
    obtain ⟨m,hmk,hm1,hm2⟩:=hp.ob
    have hnl : listed.getD i false=false:=by
     cases hh : listed.getD i false with
     | false => rfl
     | true =>
       have : listed[i]=false:=by simpa [h2] using h1
       simp [h2,this] at hh
    -- the makers in front are done
    have hfront : ∀ (q:Nat) (j:Nat),es[q]? = some (true,j)→q < p→q < m:=fun q j hq hqp=>(hm2 q j hq).1 (waitsT_ready hd hwait 3 j (hs.level p q b i j hpi hq hqp))
    have hpart : ∀ (x':AV) (ob':List Ob),x'=x→(∃ m,m≤es.length∧ob'=(runM ops σ0 (es.take m) (rs.take m)).ob∧∀ (q:Nat) (j:Nat),es[q]? = some (true,j)→((listed.setIfInBounds i true).getD j false=true ↔ q < m))→PartM ops es rs σ0 (listed.setIfInBounds i true) (({ σ with ob:=ob' } : St).set o.dst x'):=by
     rintro x' ob' rfl hob
     refine ⟨by rw [← hp.n]; cases o.dst<;>rfl,?_,fun q c j r t y exy hq hy hr' hrd hl=>?_,fun t ht=>?_⟩
     ·have : (({ σ with ob:=ob' } : St).set o.dst x').ob=ob':=by cases o.dst<;>rfl
      rw [this]; exact hob
     ·rw [getL_set]
      by_cases hji : j=i
      ·subst hji
       have:=hs.inj q p c b j hq hpi
       subst this
       rw [ho] at hr'
       cases hr'
       rw [hx] at hy
       cases hy
       rw [if_pos hrd]
      ·rw [getD_set h2] at hl
       have hl' : listed.getD j false=true:=by simpa [Ne.symm hji] using hl
       have hne : o.dst≠some t:=(hs.apart p q b c i j o r t hpi hq ho hr' hrd).1.resolve_left (fun e=>by subst e; rw [hq] at hpi; cases hpi; exact hji rfl)
       rw [if_neg hne]
       exact hp.hit q c j r t y exy hq hy hr' hrd hl'
     ·rw [getL_set,if_neg (ht p b i o hpi ho (by rw [getD_set h2]; simp))]
      exact hp.miss t fun q c j r hq hr' hl=>ht q c j r hq hr' (by rw [getD_set h2]; simp only [hl,Bool.or_true])
    have hdown' : Down ops (listed.setIfInBounds i true):=by
     intro u v hu hw
     rw [getD_set h2] at hu ⊢
     by_cases hiu : i=u
     ·subst hiu; simp only [hwait v hw,Bool.or_true]
     ·have : listed.getD u false=true:=by simpa [hiu] using hu
      simp only [hd u v this hw,Bool.or_true]
    have hno' : ∀ j,k≤j→(listed.setIfInBounds i true).getD j false=false:=fun j hj=>by
     rw [getD_set h2,hno j hj]
     simp only [Bool.or_false,decide_eq_false_iff_not]; omega
    have hguard:=guard_congr (ops:=ops) (o:=o) hlook
    have hopd:=opd_congr (ops:=ops) (o:=o) hlook
    unfold wpOp
    rw [ho]
    simp only
    cases b with
    | true =>
      rw [if_pos rfl] at hg
      obtain ⟨hgd,_,hmk'⟩:=hg
      have hgo : guardOf ops σ o=some true:=by unfold guardOf; rw [hgd]
      -- just those in front are done
      have hback : ∀ (q:Nat) (j:Nat),es[q]? = some (true,j)→p≤q→m≤q:=by
       intro q j hq hpq
       rcases Nat.lt_or_ge q m with h | h
       ·exfalso
        have hlj:=(hm2 q j hq).2 h
        rcases Nat.lt_or_ge p q with h' | h'
        ·have:=waitsT_down hd 3 j i (hs.level q p true j i hq hpi h') hlj
         rw [hnl] at this; cases this
        ·have : q=p:=by omega
         subst this
         rw [hpi] at hq
         cases hq
         rw [hnl] at hlj; cases hlj
       ·exact h
      have hobp : σ.ob=(runM ops σ0 (es.take p) (rs.take p)).ob:=by
       rw [hm1]
       rcases Nat.le_total p m with hpm | hpm
       ·refine same hpm hmk fun q j h2 h3 hq=>?_
        have:=hback q j hq h2
        omega
       ·refine (same hpm (by rw [hs.len]; omega) fun q j h2 h3 hq=>?_).symm
        have:=hfront q j hq h3
        omega
      rw [if_pos (wanted_of hr hgo)]
      refine .inl ?_
      have:=hmk'.does (Q:=Q) hr hobp hopd (next:=fun v w'=>wpAny P .any ops Q fuel (listed.setIfInBounds i true) (a.put o.dst v) w') (fun v w' x' ob' hv' S' F' L hk q1 q2 q3 q4=>by
       obtain ⟨rfl,rfl⟩:=hk
       refine ih (by simpa using hsz) hdown' hno' hcount (hpart x' _ rfl ⟨p + 1,by rw [hs.len]; omega,?_,?_⟩) (q1.put (d:=o.dst) q2 q3 q4 hdk)
       ·rw [runM_step es rs σ0 hpi hx ho,stp_ob]
       ·intro q j hq
        rw [getD_set h2]
        by_cases hij : i=j
        ·subst hij
         have:=hs.inj q p true true i hq hpi
         subst this
         simp
        ·simp only [hij,decide_false,Bool.false_or]
         rw [hm2 q j hq]
         have hqp : q≠p:=fun e=>by subst e; rw [hpi] at hq; cases hq; exact hij rfl
         refine ⟨fun h=>?_,fun h=>hfront q j hq (by omega)⟩
         rcases Nat.lt_or_ge q p with h' | h'
         ·omega
         ·have:=hback q j hq h'
          omega)
      unfold Does at this
      exact Oper.wp_mono (fun a' w' ⟨v,ha,hv⟩=>ha ▸ hv) this
    | false =>
      rw [if_neg (by simp)] at hg
      obtain ⟨_,hg⟩:=hg
      have hm2' : ∃ m,m≤es.length∧σ.ob=(runM ops σ0 (es.take m) (rs.take m)).ob∧∀ (q:Nat) (j:Nat),es[q]? = some (true,j)→((listed.setIfInBounds i true).getD j false=true ↔ q < m):=by
       refine ⟨m,hmk,hm1,fun q j hq=>?_⟩
       rw [getD_set h2]
       have hij : i≠j:=fun e=>by
        subst e
        have:=hs.inj q p true false i hq hpi
        subst this
        rw [hpi] at hq; cases hq
       simp only [hij,decide_false,Bool.false_or]
       exact hm2 q j hq
      have hpart':=hpart x σ.ob rfl hm2'
      rcases hg with ⟨hg,hfact,hpure⟩ | ⟨hg,rfl⟩
      ·rw [if_pos (wanted_of hr (hguard.trans hg))]
       refine .inl ?_
       have hgo : Does P Q o a w fun v w'=>wpAny P .any ops Q fuel (listed.setIfInBounds i true) (a.put o.dst v) w':=by
        cases hpo : isPure o.op with
        | true =>
          have hfact':=hpure hpo hr hopd
          exact hfact'.does (Q:=Q) hr (fun y hy=>by rw [← hopd y hy]; exact hr.arg y) (fun v w' hv' S' hr' ⟨L,f1,f2⟩ hu =>
           ih (by simpa using hsz) hdown' hno' hcount hpart' (hr'.put (d:=o.dst) f1 f2 hu hdk))
        | false =>
          obtain ⟨more,hmore⟩ : ∃ more,σ.ob=(runM ops σ0 (es.take p) (rs.take p)).ob ++ more:=by
           rw [hm1]
           rcases Nat.le_total p m with hpm | hpm
           ·have hcase : ∀ (q j:Nat) (r:Oper),p≤q→q < m→es[q]? = some (true,j)→ops[j]? = some r→isSt r.op=false∧(isBs r.op=false ∨ ∀ e∈es.take p,e.1=false):=by
             intro q j r h2' h3 hq hr'
             have hlj:=(hm2 q j hq).2 h3
             have hqp : p < q:=by
              rcases Nat.lt_or_ge p q with h | h
              ·exact h
              ·have : q=p:=by omega
               subst this
               rw [hpi] at hq; cases hq
             rcases hs.pure p q i j o r hpi hq ho hr' hqp with h | h | h
             ·rw [hpo] at h; cases h
             ·have:=waitsT_down hd 3 j i h hlj
              rw [hnl] at this; cases this
             ·exact h
            by_cases hzero : ∀ e∈es.take p,e.1=false
            ·have hnone : ∀ (q j:Nat),q < p→es[q]? ≠ some (true,j):=by
              intro q j hq hqj
              have : (true,j)∈es.take p:=List.mem_of_getElem? (i:=q) (by rw [List.getElem?_take_of_lt hq]; exact hqj)
              have:=hzero _ this
              cases this
             have h0 : (runM ops σ0 (es.take p) (rs.take p)).ob=σ0.ob:=by
              have:=same (p:=0) (m:=p) (Nat.zero_le _) (by rw [hs.len]; omega) (fun q j _ h3=>hnone q j h3)
              rw [this]; simp [runM]
             rw [h0]
             refine base hmk fun q j r h3 hq hr'=>?_
             rcases Nat.lt_or_ge q p with h | h
             ·exact absurd hq (hnone q j h)
             ·exact (hcase q j r h h3 hq hr').1
            ·refine app hpm hmk fun q j r h2' h3 hq hr'=>?_
             obtain ⟨c1,c2⟩:=hcase q j r h2' h3 hq hr'
             exact ⟨c1,c2.resolve_right hzero⟩
           ·refine ⟨[],?_⟩
            rw [List.append_nil]
            refine (same hpm (by rw [hs.len]; omega) fun q j h2 h3 hq=>?_).symm
            have:=hfront q j hq h3
            omega
          have hargs : ∀ y∈o.op.operands,Arg hv S w (runM ops σ0 (es.take p) (rs.take p)).ob.length ((runM ops σ0 (es.take p) (rs.take p)).opd y) (a.eval y):=by
           intro y hy
           refine ⟨by rw [← hopd y hy]; exact (hr.arg y).1,?_⟩
           exact St.opd_under hu1 y
          exact hfact.doesMore (Q:=Q) hr hmore hu2 hargs (fun v w' hv' S' hr' ⟨L,f1,f2⟩ hu =>
           ih (by simpa using hsz) hdown' hno' hcount hpart' (hr'.put (d:=o.dst) f1 f2 hu hdk))
       unfold Does at hgo
       exact Oper.wp_mono (fun a' w' ⟨v,ha,hv⟩=>ha ▸ hv) hgo
      ·rw [if_neg (by rw [wanted_of hr (hguard.trans hg)]; simp)]
       exact ih (by simpa using hsz) hdown' hno' hcount hpart' (hr.put (d:=o.dst) (x:=.ud) (v:=undef) (L:=[]) (by simp [footA]) (by simp) rfl hdk)
   ·-- the first of the others
    have hbefore:=ready_chain hs.toStatic0 hd hi hik
    have hik' : i=k:=by
     rcases Nat.lt_or_ge k i with h | h
     ·have:=hbefore (i - k) k rfl h
      rw [hno k (Nat.le_refl _)] at this
      cases this
     ·omega
    subst hik'
    have hr':=full (fun j hj=>hbefore (i - j) j rfl hj) hp hr
    have hlt : i < ops.size:=by omega
    have hdrop : ops.toList.drop i=o :: ops.toList.drop (i + 1):=by
     rw [List.drop_eq_getElem_cons (by simpa using hlt)]
     congr 1
     have:=Array.getElem?_eq_getElem hlt
     rw [ho] at this
     simpa using (Option.some.inj this).symm
    rw [hdrop] at hK
    refine op_step ho hr' hK fun σ' hv' S' F' a' w' hK' hr''=>?_
    have hl : ∀ j,(listed.setIfInBounds i true).getD j false=decide (j < i + 1):=fun j=>by
     rw [getD_set h2]
     rcases Nat.lt_trichotomy j i with h | h | h
     ·rw [hbefore (i - j) j rfl h]; simp; omega
     ·subst h; simp
     ·rw [hno j (by omega)]
      simp only [Bool.or_false,decide_eq_decide]; omega
    refine late_sound hs.toStatic0 hQ fuel (by simpa using hsz) hlt (by omega) hl ?_ hr'' hK'
    have hc2:=count_false (listed.setIfInBounds i true).toList (i + 1) (fun j hj b hb=>by
     have:=hl j
     rw [Array.getElem?_toList] at hb
     simp only [Array.getD_eq_getD_getElem?,hb,Option.getD_some] at this
     rw [this]; simp; omega)
    simp only [Array.length_toList,Array.size_setIfInBounds] at hc2
    omega
theorem vcDm_run {id:Nat} {ops:Array Oper} {k:Nat} {es:List (Bool × Nat)} {K:St→Prop} (hm:P.follows .mixedOrders=true) (hr:Rel w0 σ hv S F a w) (hk:okDrawM ops k es=true) (h:vcDm P ops σ.ob.length es (ops.toList.drop k) σ K)
 (hQ:∀ σ' (hv':Hv) S' F' a' w',K σ'→Rel w0 σ' hv' S' F' a' w'→Q .normal a' w') : (Code.region id ops true).wp P Q a w:=by
 have hs:=okDrawM_spec hk
 have hr':=hr.grow (Grew.drew w)
 obtain ⟨rs,σe,k0,k1,k2⟩:=vcDm_sound _ hr (Eqv.refl σ) h
 refine wp_region_any hm ?_
 have hrep : ∀ j,(Array.replicate ops.size false).getD j false=false:=fun j=>by
  rcases Nat.lt_or_ge j ops.size with h | h<;>simp [h]
 refine early_soundM hs hQ k2 k0 k1 ops.size (by simp) (fun i j hi _=>absurd hi (by rw [hrep]; simp)) (fun j _=>hrep j) (by simp) ⟨rfl,⟨0,by omega,by simp [runM],fun q j _=>by rw [hrep]; simp⟩,fun p b j o t x ext _ _ _ _ hl=>absurd hl (by rw [hrep]; simp),fun _ _=>rfl⟩ hr'
end
end Go.Proofs.YtmgdkkhnjkepiaaGreat.BX
namespace Go.Proofs.YtmgdkkhnjkepiaaGreat.BX
open Nat renaming reduceEqDiff → zA, reduceLT → zB, reduceLeDiff → zC, reduceAdd → zD, reduceMul → zE, reduceSub → zF, reduceBEq → zG
set_option linter.unusedSectionVars false
set_option linter.unusedSimpArgs false
set_option linter.unusedVariables false
open Go Go.RowKit
variable [Bd]
mutual
def AV.avoid (s:Nat) : AV→Bool
 | .rf i _ => i != s
 | .ra i _ _ _ => i != s
 | .sv i _ _ _ => i != s
 | .sr i => i != s
 | .mr i => i != s
 | .it i => i != s
 | .ag cs => avoids s cs
 | .tp cs => avoids s cs
 | .fn _ cs => avoids s cs
 | _ => true
def avoids (s:Nat) : List AV→Bool
 | [] => true
 | x :: xs => x.avoid s && avoids s xs
end
def Ob.avoid (s:Nat) : Ob→Bool
 | .box x => x.avoid s
 | .hole _ _ _ _ _ _ id => id != s
 | .mhole _ _ _ _ _ _ id => id != s
 | _ => true
def avoidH (H:List Nat) (x:AV) : Bool:=H.all fun s=>x.avoid s
def noMh : List Ob→Bool
 | [] => true
 | .mhole .. :: _ => false
 | _ :: os => noMh os
theorem noMh_get : ∀ {os:List Ob},noMh os=true → ∀ {i:Nat} {o:Ob},os[i]? = some o→(∀ a b s ks vs j id,o ≠ .mhole a b s ks vs j id)
 | [], _, i, o, h => by simp at h
 | o' :: os, hm, 0, o, h => by
   simp only [List.getElem?_cons_zero,Option.some.injEq] at h
   subst h
   rintro a b s ks vs j id rfl
   simp [noMh] at hm
 | o' :: os, hm, i + 1, o, h => noMh_get (os:=os) (by cases o'<;>simp_all [noMh]) (by simpa using h)
mutual
theorem avoid_under {n s:Nat} (h:n≤s) : ∀ x : AV,x.under n=true→x.avoid s=true
 | .un, _ | .ud, _ | .ns, _ | .t _, _ | .bw _, _ => rfl
 | .ag cs, hx => by simp only [AV.under] at hx; simp only [AV.avoid]; exact avoids_under h cs hx
 | .tp cs, hx => by simp only [AV.under] at hx; simp only [AV.avoid]; exact avoids_under h cs hx
 | .fn _ cs, hx => by simp only [AV.under] at hx; simp only [AV.avoid]; exact avoids_under h cs hx
 | .rf id _, hx => by simp only [AV.under,decide_eq_true_eq] at hx; simp only [AV.avoid,bne_iff_ne]; omega
 | .sr id, hx => by simp only [AV.under,decide_eq_true_eq] at hx; simp only [AV.avoid,bne_iff_ne]; omega
 | .ra id _ _ _, hx => by simp only [AV.under,decide_eq_true_eq] at hx; simp only [AV.avoid,bne_iff_ne]; omega
 | .sv id _ _ _, hx => by simp only [AV.under,decide_eq_true_eq] at hx; simp only [AV.avoid,bne_iff_ne]; omega
 | .mr id, hx => by simp only [AV.under,decide_eq_true_eq] at hx; simp only [AV.avoid,bne_iff_ne]; omega
 | .it id, hx => by simp only [AV.under,decide_eq_true_eq] at hx; simp only [AV.avoid,bne_iff_ne]; omega
theorem avoids_under {n s:Nat} (h:n≤s) : ∀ xs : List AV,unders n xs=true→avoids s xs=true
 | [], _ => rfl
 | x :: xs, hx => by
   simp only [unders,Bool.and_eq_true] at hx
   simp only [avoids,Bool.and_eq_true]
   exact ⟨avoid_under h x hx.1,avoids_under h xs hx.2⟩
end
theorem Ob.avoid_under {n s:Nat} (h:n≤s) {o:Ob} (ho:o.under n=true) (hm:∀ a b s ks vs j id,o ≠ .mhole a b s ks vs j id) : o.avoid s=true:=by
 cases o<;>first | rfl | exact BX.avoid_under h _ ho | (simp only [Ob.under,decide_eq_true_eq] at ho; simp only [Ob.avoid,bne_iff_ne]; omega) | exact absurd rfl (hm _ _ _ _ _ _ _)
mutual
theorem via_self {r:Nat→Option Nat} {s:Nat} (hr:∀ i,i≠s→r i=some i) : ∀ x : AV,x.avoid s=true→x.via r x
 | .un, _ => trivial
 | .ud, _ => by simp only [AV.via]
 | .ns, _ => by simp only [AV.via]
 | .t _, _ => by simp only [AV.via,AV.shut]
 | .bw _, _ => by simp only [AV.via,AV.shutB]
 | .ag cs, h => by simp only [AV.avoid] at h; simp only [AV.via]; exact vias_self hr cs h
 | .tp cs, h => by simp only [AV.avoid] at h; simp only [AV.via]; exact vias_self hr cs h
 | .fn _ cs, h => by simp only [AV.avoid] at h; simp only [AV.via]; exact ⟨trivial,vias_self hr cs h⟩
 | .rf id _, h => by simp only [AV.avoid,bne_iff_ne] at h; simp only [AV.via,hr id h]
 | .sr id, h => by simp only [AV.avoid,bne_iff_ne] at h; simp only [AV.via,hr id h]
 | .ra id _ _ _, h => by simp only [AV.avoid,bne_iff_ne] at h; simp only [AV.via,hr id h]
 | .sv id _ _ _, h => by simp only [AV.avoid,bne_iff_ne] at h; simp only [AV.via,hr id h]
 | .mr id, h => by simp only [AV.avoid,bne_iff_ne] at h; simp only [AV.via,hr id h]
 | .it id, h => by simp only [AV.avoid,bne_iff_ne] at h; simp only [AV.via,hr id h]
theorem vias_self {r:Nat→Option Nat} {s:Nat} (hr:∀ i,i≠s→r i=some i) : ∀ xs : List AV,avoids s xs=true→vias r xs xs
 | [], _ => by simp only [vias]
 | x :: xs, h => by
   simp only [avoids,Bool.and_eq_true] at h
   simp only [vias]
   exact ⟨via_self hr x h.1,vias_self hr xs h.2⟩
end
theorem Kind.le_refl (k:Kind) : k.le k:=by cases k<;>simp [Kind.le]
theorem Ob.via_self {r:Nat→Option Nat} {s:Nat} (hr:∀ i,i≠s→r i=some i) (o:Ob) (h:o.avoid s=true) : o.via r o:=by
 cases o with
 | dead => trivial
 | box x => exact BX.via_self hr x h
 | arr e m k es => exact ⟨rfl,rfl,Kind.le_refl k,rfl⟩
 | hole e m ss es i j id => simp only [Ob.avoid,bne_iff_ne] at h; exact ⟨⟨rfl,rfl,rfl,rfl,rfl,rfl⟩,hr id h⟩
 | map a b k ks vs p => exact ⟨rfl,rfl,Kind.le_refl k,rfl,rfl,.inr rfl⟩
 | mhole a b s ks vs i id => simp only [Ob.avoid,bne_iff_ne] at h; exact ⟨⟨rfl,rfl,rfl,rfl,rfl,rfl⟩,hr id h⟩
 | iter c l => exact ⟨.inr rfl,rfl⟩
section
variable {P:Program} {Q:Exit→Act→World→Prop} {w0:Base} {σ:St} {hv:Hv} {S:Nat→Prop} {F:Nat→List Nat} {a:Act} {w:World}
theorem Rel.slot {o:Ob} {s:Nat} (h:Rel w0 { σ with ob:=σ.ob ++ [o] } hv S F a w) (hs:σ.ob[s]? = some .dead) (hn:w0.na≤s) (ht:∀ t,(getL σ.tm t).under σ.ob.length=true) (hu:∀ (i:Nat) (o':Ob),σ.ob[i]? = some o'→o'.under σ.ob.length=true)
 (hat:∀ t,(getL σ.tm t).avoid s=true) (hao:∀ (i:Nat) (o':Ob),σ.ob[i]? = some o'→o'.avoid s=true) (ho:o.avoid s=true) (hou:o.under σ.ob.length=true) :
 ∃ (hv':Hv) (F':Nat→List Nat),Rel w0 { σ with ob:=σ.ob.set s o } hv' S F' a w∧hv'.B=hv.B∧hv' s=hv σ.ob.length:=by
 have hsl:=get_lt hs
 let r : Nat→Option Nat:=fun i=>if i=s then some σ.ob.length else some i
 have hr : ∀ i,i≠s→r i=some i:=fun i hi=>by simp only [r,hi,if_false]
 have hrs : r s=some σ.ob.length:=by simp only [r,if_true]
 obtain ⟨hv',F',q1,q2,q3⟩:=h.via (σ':={ σ with ob:=σ.ob.set s o }) r rfl (fun t=>BX.via_self hr _ (hat t)) (fun t=>by simpa using ht t) (fun i o' hi=>by
  rcases set_get hi with ⟨rfl,rfl⟩ | ⟨hne,hi⟩
  ·rw [hrs]
   exact .inr ⟨o',by simp,Ob.via_self hr o' ho⟩
  ·rw [hr i hne]
   exact .inr ⟨o',by simp only [List.getElem?_append_left (get_lt hi)]; exact hi,Ob.via_self hr o' (hao i o' hi)⟩)
  (fun i i' j hi hi' h1 h2=>by
   simp only [List.length_set] at hi hi'
   by_cases e1 : i=s<;>by_cases e2 : i'=s
   ·rw [e1,e2]
   ·subst e1
    rw [hrs] at h1
    rw [hr i' e2] at h2
    have:=(Option.some.inj h1).trans (Option.some.inj h2).symm
    omega
   ·subst e2
    rw [hrs] at h2
    rw [hr i e1] at h1
    have:=(Option.some.inj h2).trans (Option.some.inj h1).symm
    omega
   ·rw [hr i e1] at h1
    rw [hr i' e2] at h2
    exact (Option.some.inj h1).trans (Option.some.inj h2).symm)
  (fun i o' hi=>by
   simp only [List.length_set]
   rcases set_get hi with ⟨rfl,rfl⟩ | ⟨hne,hi⟩
   ·exact hou
   ·exact hu i o' hi)
  (fun i hi=>hr i (by omega)) (by simp only [List.length_set]; omega)
 exact ⟨hv',F',q1,q2,(q3 s _ hrs).1⟩
theorem Rel.room (h:Rel w0 σ hv S F a w) (m:Nat) (hm:noMh σ.ob=true) : ∃ hv' F',Rel w0 { σ with ob:=σ.ob ++ List.replicate m .dead } hv' S F' a w:=by
 let r : Nat→Option Nat:=fun i=>some i
 obtain ⟨hv',F',q1,_⟩:=h.via (σ':={ σ with ob:=σ.ob ++ List.replicate m .dead }) r rfl (fun t=>BX.via_self (s:=σ.ob.length) (fun _ _=>rfl) _ (BX.avoid_under (Nat.le_refl _) _ (h.utm t))) (fun t=>AV.under_mono (by simp) _ (h.utm t)) (fun i o' hi=>by
  show o' = .dead ∨ _
  rcases Nat.lt_or_ge i σ.ob.length with hlt | hge
  ·simp only [List.getElem?_append_left hlt] at hi
   exact .inr ⟨o',hi,Ob.via_self (s:=σ.ob.length) (fun _ _=>rfl) _ (Ob.avoid_under (Nat.le_refl _) (h.uob i o' hi) (noMh_get hm hi))⟩
  ·simp only [List.getElem?_append_right hge,List.getElem?_replicate] at hi
   split at hi
   ·exact .inl (Option.some.inj hi).symm
   ·cases hi)
  (fun i i' j _ _ h1 h2=>(Option.some.inj h1).trans (Option.some.inj h2).symm)
  (fun i o' hi=>by
   rcases Nat.lt_or_ge i σ.ob.length with hlt | hge
   ·simp only [List.getElem?_append_left hlt] at hi
    exact Ob.under_mono (by simp) _ (h.uob i o' hi)
   ·simp only [List.getElem?_append_right hge,List.getElem?_replicate] at hi
    split at hi
    ·rw [← Option.some.inj hi]; rfl
    ·cases hi)
  (fun _ _=>rfl) (by have:=h.an; simp; omega)
 exact ⟨hv',F',q1⟩
theorem killAll_ext {H:List Nat} {ob ob':List Ob} (hl:ob.length=ob'.length) (h:∀ i,i ∉ H→ob[i]? = ob'[i]?) : killAll H ob=killAll H ob':=by
 refine List.ext_getElem? fun i=>?_
 by_cases hi : i∈H
 ·have dead : ∀ {l:List Ob},i < l.length→(killAll H l)[i]? = some .dead:=by
   intro l hlt
   have hlt' : i < (killAll H l).length:=by rw [killAll_length]; exact hlt
   cases hk : (killAll H l)[i]? with
   | none => rw [List.getElem?_eq_getElem hlt'] at hk; cases hk
   | some o =>
     by_cases ho : o = .dead
     ·rw [ho]
     ·exact absurd hi (killAll_get H l i o hk ho).1
  rcases Nat.lt_or_ge i ob.length with hlt | hge
  ·rw [dead hlt,dead (by omega)]
  ·rw [List.getElem?_eq_none (by rw [killAll_length]; exact hge),List.getElem?_eq_none (by rw [killAll_length]; omega)]
 ·rw [killAll_keep H ob i hi,killAll_keep H ob' i hi,h i hi]
theorem Obs.kill {ob:List Ob} (h:Obs ob hv S F w) (H:List Nat) : Obs (killAll H ob) hv S F w:=by
 have key : ∀ (id:Nat) (o:Ob),(killAll H ob)[id]? = some o→o = .dead ∨ ob[id]? = some o:=fun id o hid=>by
  by_cases ho : o = .dead
  ·exact .inl ho
  ·exact .inr (killAll_get H ob id o hid ho).2
 refine ⟨fun id o hid=>?_,fun id o hid=>?_,fun id o hid ho b hb=>?_,h.SB,h.one⟩
 ·rcases key id o hid with rfl | h1
  ·trivial
  ·exact h.ob id o h1
 ·rw [killAll_length]
  rcases key id o hid with rfl | h1
  ·rfl
  ·exact h.uob id o h1
 ·rcases key id o hid with rfl | h1
  ·cases ho
  ·exact h.own id o h1 ho b hb
theorem RootsIn.kill {ob:List Ob} (h:RootsIn ob hv w) (H:List Nat) : RootsIn (killAll H ob) hv w:=fun id o hid hd b hb=>h id o (killAll_get H ob id o hid hd).2 hd b hb
theorem Fact.kill {ob:List Ob} {e:Operand→AV} {o:Oper} {x:AV} {H:List Nat} (h:Fact P (killAll H ob) e o x) : Fact P ob e o x:=by
 rcases h with h | ⟨r,rfl,h⟩
 ·exact .inl fun {hv S F w ρ} hob harg=>by
   have:=h (hob.kill H) (by rw [killAll_length]; exact harg)
   rw [killAll_length] at this
   exact this
 ·exact .inr ⟨r,rfl,fun {hv S F w ρ} hob hS hR harg=>h (hob.kill H) hS (hR.kill H) (by rw [killAll_length]; exact harg)⟩
end
def tsOf : List AV→Option (List T)
 | [] => some []
 | .t y :: xs => match tsOf xs with
   | some ys => some (y :: ys)
   | none => none
 | _ => none
theorem tsOf_eq : ∀ {xs:List AV} {ys:List T},tsOf xs=some ys→xs=ys.map .t
 | [], ys, h => by simp only [tsOf,Option.some.injEq] at h; subst h; rfl
 | x :: xs, ys, h => by
   cases x<;>simp only [tsOf] at h<;>first | (cases h; done) | skip
   split at h
   ·rename_i zs hz
    cases h
    rw [tsOf_eq hz]; rfl
   ·cases h
def vcMk1 (P:Program) (e:Operand→AV) (op:Op) (id:Nat) (K:AV→Ob→Prop) : Prop :=
 match op with
 | .alloc t => match zeroOf P t with
   | some z => K (.rf id 0) (.box (ofV z))
   | none => False
 | .buildSlice t n parts => match lay P t with
   | .sli el m => parts.toList.map (·.1)=List.range' 0 n∧n * m≤16777216∧n < Bd.B∧(zeroOf P el).isSome=true∧match tsOf (parts.toList.map fun p=>e p.2) with
     | some ys => fitsAll (shOf P 40 el) ys=true∧allLen m ys=true∧allOnes ys=true∧K (.sr id) (.arr el m (.own (shOf P 40 el)) ys)
     | none => False
   | _ => False
 | _ => False
def vcSt1 (P:Program) (e:Operand→AV) (op:Op) (id:Nat) (old:Option Ob) (K:AV→Prop) : Prop :=
 match op with
 | .store t p x => match old with
   | some (.box y) => ∃ off,e p = .rf id off∧y ≠ .un∧e x ≠ .un∧allOne (e x).cells=true∧P.cellsOf t=(e x).cells.length∧off + (e x).cells.length≤y.cells.length∧(e x).cells.length≠0 ∧
    K (if off=0∧y.cells.length=(e x).cells.length∧(e x).isAg=y.isAg then e x else .ag (segA y.cells off (e x).cells))
   | _ => False
 | _ => False
def vcDy (P:Program) (all:Array Oper) : List (List Nat × Nat)→List Oper→Nat→St→(St→Prop)→Prop
 | [], os, _, σ, K => vcOps P all os σ K
 | _ :: _, [], _, _, _ => False
 | (H, kd) :: hs, o :: os, s, σ, K => dstOk σ.n o.dst∧match kd with
   | 0 => vcGuard all σ o (fun σ=>vcLook P (killAll H σ.ob) σ.opd o.op fun x=>(x.under s=true∧avoidH H x=true)∧vcDy P all hs os s (σ.set o.dst x) K) (fun σ=>vcDy P all hs os s (σ.set o.dst .ud) K)
   | 1 => o.guard=none∧vcMk1 P σ.opd o.op s fun x ob=>avoidH H x=true∧vcDy P all hs os (s + 1) (({ σ with ob:=σ.ob.set s ob } : St).set o.dst x) K
   | id + 2 => o.guard=none∧vcSt1 P σ.opd o.op id σ.ob[id]? fun y=>(y.under s=true∧avoidH H y=true)∧vcDy P all hs os s (({ σ with ob:=σ.ob.set id (.box y) } : St).set o.dst .ud) K
def mks : List (List Nat × Nat)→Nat
 | [] => 0
 | (_, kd) :: hs => (if kd=1 then 1 else 0) + mks hs
def tgs : List (List Nat × Nat)→Nat→List (Option Nat)
 | [], _ => []
 | (_, 0) :: hs, s => none :: tgs hs s
 | (_, 1) :: hs, s => some s :: tgs hs (s + 1)
 | (_, id + 2) :: hs, s => some id :: tgs hs s
theorem tgs_len : ∀ {hs:List (List Nat × Nat)} {s:Nat},(tgs hs s).length=hs.length
 | [], _ => rfl
 | (_, 0) :: hs, s => by simp [tgs,tgs_len (hs:=hs)]
 | (_, 1) :: hs, s => by simp [tgs,tgs_len (hs:=hs)]
 | (_, id + 2) :: hs, s => by simp [tgs,tgs_len (hs:=hs)]
def okDy (ops:Array Oper) (n0:Nat) (hs:List (List Nat × Nat)) : Bool :=
 (decide (hs.length≤ops.size)) &&
 ((List.range ops.size).all fun i=>match ops[i]? with
   | some o => (o.after.all fun e=>!Region.binds .any e || decide (e.on < i)) && (decide (i < hs.length) || (List.range i).all fun j=>(List.range ops.size).any fun m=>decide (j < m) && decide (m≤i) && waits ops m j)
   | none => false) &&
 ((List.range hs.length).all fun i=>match ops[i]? with
   | some o => (List.range hs.length).all fun j=>match ops[j]? with
     | some p => match p.dst with
       | some t => (i == j || o.dst != some t) && (!(o.looksAt ops).contains t || (decide (j < i) && waits ops i j))
       | none => true
     | none => false
   | none => false) &&
 ((List.range hs.length).all fun i=>(List.range hs.length).all fun j=>i == j || match hs[i]?,(tgs hs n0)[j]? with
   | some (H, _), some (some id) => (waitsT ops 6 i j || H.contains id) && !((tgs hs n0)[i]? == some (some id))
   | some _, some none => true
   | _, _ => false) &&
 ((List.range hs.length).all fun i=>match hs[i]? with
   | some (_, kd) => decide (kd < n0 + 2)
   | none => false)
structure StaticY (ops:Array Oper) (n0:Nat) (hs:List (List Nat × Nat)) : Prop extends Static ops hs.length where
 hid : ∀ (i j:Nat) (H:List Nat) (kd id:Nat),i≠j→hs[i]? = some (H,kd)→(tgs hs n0)[j]? = some (some id)→waitsT ops 6 i j=true ∨ id∈H
 one : ∀ (i j id:Nat),(tgs hs n0)[i]? = some (some id)→(tgs hs n0)[j]? = some (some id)→i=j
theorem okDy_spec {ops:Array Oper} {n0:Nat} {hs:List (List Nat × Nat)} (h:okDy ops n0 hs=true) : StaticY ops n0 hs:=by
 simp only [okDy,Bool.and_eq_true] at h
 obtain ⟨⟨⟨⟨h1,h2⟩,h3⟩,h4⟩,_⟩:=h
 have hst : Static ops hs.length:=okDraw_spec (by unfold okDraw; simp only [Bool.and_eq_true]; exact ⟨⟨h1,h2⟩,h3⟩)
 simp only [List.all_eq_true,List.mem_range,Bool.or_eq_true,beq_iff_eq] at h4
 have hl : ∀ (i:Nat) (x:Option Nat),(tgs hs n0)[i]? = some x→i < hs.length:=fun i x hx=>by have:=get_lt hx; rw [tgs_len] at this; exact this
 refine ⟨hst,fun i j H kd id hij hi hj=>?_,fun i j id hi hj=>?_⟩
 ·have:=(h4 i (get_lt hi) j (hl j _ hj)).resolve_left hij
  rw [hi,hj] at this
  simp only [Bool.and_eq_true,Bool.or_eq_true] at this
  exact this.1.imp (fun h=>h) fun h=>List.contains_iff_mem.1 h
 ·by_cases hij : i=j
  ·exact hij
  ·obtain ⟨⟨H,kd⟩,hh⟩ : ∃ e,hs[i]? = some e:=⟨_,List.getElem?_eq_getElem (hl i _ hi)⟩
   have:=(h4 i (hl i _ hi) j (hl j _ hj)).resolve_left hij
   rw [hh,hj] at this
   simp only [Bool.and_eq_true,Bool.not_eq_true',beq_eq_false_iff_ne] at this
   exact absurd hi this.2
structure RY where
 x : AV
 tg : Option (Nat × Ob)
def obY (ob:List Ob) : Option (Nat × Ob)→List Ob
 | some (id, o) => ob.set id o
 | none => ob
def runY : St→List Oper→List RY→St
 | σ, o :: os, r :: rs => runY (stp σ o.dst r.x (obY σ.ob r.tg)) os rs
 | σ, _, _ => σ
def EffY (P:Program) (mk:Bool) (old:Option Ob) (e:Operand→AV) (o:Oper) (n0 id:Nat) (x:AV) (ob:Ob) : Prop :=
 ∀ {Q:Exit→Act→World→Prop} {w0:Base} {σ:St} {hv:Hv} {S:Nat→Prop} {F:Nat→List Nat} {a:Act} {w:World} {next:Value→World→Prop},
   Rel w0 σ hv S F a w→w0.na≤n0→σ.ob[id]? = old→(∀ y∈o.op.operands,σ.opd y=e y)→(mk=true→(∀ t,(getL σ.tm t).avoid id=true)∧∀ (i:Nat) (o':Ob),σ.ob[i]? = some o'→o'.avoid id=true) →
   Ans w0 σ a (fun x' ob'=>x'=x∧ob'=σ.ob.set id ob) next→Does P Q o a w next
def FactY (P:Program) (all:Array Oper) (n0:Nat) (σ:St) (o:Oper) (H:List Nat) (kd:Nat) (tg:Option Nat) (r:RY) : Prop :=
 dstOk σ.n o.dst∧avoidH H r.x=true∧match tg with
  | none => kd=0∧r.tg=none∧((guardOf all σ o=some true∧Fact P (killAll H σ.ob) σ.opd o r.x) ∨ (guardOf all σ o=some false∧r.x = .ud))
  | some id => o.guard=none∧∃ ob old,r.tg=some (id,ob)∧σ.ob[id]? = some old∧(∀ h∈H,ob.avoid h=true)∧(∀ a b s ks vs j id,ob ≠ .mhole a b s ks vs j id)∧(kd=1→old = .dead∧n0≤id)∧EffY P (kd == 1) (some old) σ.opd o n0 id r.x ob
def FactsY (P:Program) (all:Array Oper) (n0:Nat) : St→List (List Nat × Nat)→List (Option Nat)→List Oper→List RY→Prop
 | _, [], [], _, [] => True
 | σ, (H, kd) :: hs, tg :: ts, o :: os, r :: rs => FactY P all n0 σ o H kd tg r∧FactsY P all n0 (stp σ o.dst r.x (obY σ.ob r.tg)) hs ts os rs
 | _, _, _, _, _ => False
section
variable {P:Program} {Q:Exit→Act→World→Prop} {w0:Base} {σ:St} {hv:Hv} {S:Nat→Prop} {F:Nat→List Nat} {a:Act} {w:World}
theorem mix_ts {ob:List Ob} {s:Sh} : ∀ {ys:List T},fitsAll s ys=true→ownsA ob s (ys.map .t)=some (ys,[])
 | [], _ => by simp only [List.map_nil,ownsA]
 | y :: ys, h => by
   simp only [fitsAll,Bool.and_eq_true] at h
   have hy : AV.own ob s (.t y)=some (y,[]):=by cases s<;>simp only [AV.own,h.1,if_true]
   simp only [List.map_cons,ownsA,hy,mix_ts h.2,List.nil_append]
theorem mk1_sound {e:Operand→AV} {o:Oper} {n0 s:Nat} {K:AV→Ob→Prop} (hs:n0≤s) (h:vcMk1 P e o.op s K) : ∃ x ob,K x ob∧(∀ h,ob.avoid h=true)∧(∀ n,ob.under n=true)∧(∀ n,s < n→x.under n=true)∧(∀ a b s ks vs j id,ob ≠ .mhole a b s ks vs j id)∧EffY P true (some .dead) e o n0 s x ob:=by
 have fin : ∀ {x:Nat→AV} {ob:Ob} (hx:∀ (hv:Hv) (w:World) (n:Nat) (v:Value) (L:List Nat),footA hv w (x n) v L→v.oneCell'=v.oneCell' ∧ ∀ (hv':Hv) (n':Nat),hv'.B=hv.B→hv' n'=hv n→footA hv' w (x n') v L)
  (hu:∀ n m,n < m→(x n).under m=true) (ha:∀ h,ob.avoid h=true) (hou:∀ n,ob.under n=true)
  (hd:∀ {Q:Exit→Act→World→Prop} {w0:Base} {σ:St} {hv:Hv} {S:Nat→Prop} {F:Nat→List Nat} {a:Act} {w:World} {next:Value→World→Prop},Rel w0 σ hv S F a w→(∀ y∈o.op.operands,σ.opd y=e y)→Ans w0 σ a (fun x' ob'=>x'=x σ.ob.length∧ob'=σ.ob ++ [ob]) next→Does P Q o a w next),
  EffY P true (some .dead) e o n0 s (x s) ob:=by
  intro x ob hx hu ha hou hd Q w0 σ hv S F a w next hr hna hold hop hav hn
  obtain ⟨hat,hao⟩:=hav rfl
  refine hd hr hop fun v w' x' ob' hv' S' F' L hk q1 q2 q3 q4=>?_
  obtain ⟨rfl,rfl⟩:=hk
  obtain ⟨hv2,F2,k1,k2,k3⟩:=Rel.slot (σ:=σ) q1 hold (by omega) hr.utm hr.uob hat hao (ha s) (hou _)
  refine hn v w' (x s) _ hv2 S' F2 L ⟨rfl,rfl⟩ k1 ((hx _ _ _ _ _ q2).2 hv2 s k2 k3) q3 (hu _ _ ?_)
  simp only [List.length_set]
  exact get_lt hold
 unfold vcMk1 at h
 split at h
 ·rename_i t hop
  split at h
  ·rename_i z hz
   refine ⟨_,_,h,fun i=>?_,fun n=>?_,fun n hn=>by simp only [AV.under,decide_eq_true_eq]; exact hn,by simp,fin (x:=fun n=>.rf n 0) ?_ ?_ ?_ ?_ ?_⟩
   ·exact BX.avoid_under (Nat.zero_le _) _ (ofV_under 0 z)
   ·exact ofV_under n z
   ·intro hv w n v L hf
    refine ⟨rfl,fun hv' n' _ he=>?_⟩
    simp only [footA] at hf ⊢
    rw [he]; exact hf
   ·intro n m hnm; simp only [AV.under,decide_eq_true_eq]; exact hnm
   ·intro i; exact BX.avoid_under (Nat.zero_le _) _ (ofV_under 0 z)
   ·intro n; exact ofV_under n z
   ·intro Q w0 σ hv S F a w next hr _ hn
    exact alloc_sound hop hr hz (K:=fun x' ob'=>x' = .rf σ.ob.length 0∧ob'=σ.ob ++ [.box (ofV z)]) ⟨rfl,rfl⟩ hn
  ·cases h
 ·rename_i t n parts hop
  split at h
  case h_2=>cases h
  rename_i el m hl
  obtain ⟨g1,g2,g3,g4,h⟩:=h
  split at h
  case h_2=>cases h
  rename_i ys hys
  obtain ⟨g5,g6,g7,h⟩:=h
  refine ⟨_,_,h,fun _=>rfl,fun _=>rfl,fun n hn=>by simp only [AV.under,decide_eq_true_eq]; exact hn,by simp,fin (x:=fun n=>.sr n) ?_ ?_ (fun _=>rfl) (fun _=>rfl) ?_⟩
  ·intro hv w n v L hf
   refine ⟨rfl,fun hv' n' _ he=>?_⟩
   simp only [footA] at hf ⊢
   rw [he]; exact hf
  ·intro n m hnm; simp only [AV.under,decide_eq_true_eq]; exact hnm
  ·intro Q w0 σ hv S F a w next hr hopd hn
   refine buildSlice_sound hop hr (K:=fun x' ob'=>x' = .sr σ.ob.length∧ob'=σ.ob ++ [.arr el m (.own (shOf P 40 el)) ys]) ?_ hn
   have hm : (parts.toList.map fun p=>σ.opd p.2)=ys.map .t:=by
    rw [← tsOf_eq hys]
    exact List.map_congr_left fun p hp=>hopd p.2 (by
     rw [hop]
     simp only [Op.operands,List.mem_toArray,List.mem_map]
     exact ⟨p,hp,rfl⟩)
   rw [hm]
   unfold vcBuildSlice
   rw [hl]
   refine ⟨g1,g2,g3,g4,?_⟩
   have : mix σ.ob (.own (shOf P 40 el)) (ys.map .t)=some (ys,[],.own (shOf P 40 el)):=by simp only [mix,mix_ts g5]
   rw [this]
   exact ⟨rfl,g6,g7,rfl,rfl⟩
 ·cases h
theorem st1_sound {e:Operand→AV} {o:Oper} {n0 id:Nat} {old:Option Ob} {K:AV→Prop} (h:vcSt1 P e o.op id old K) : ∃ y ob,K y∧old=some ob∧ob ≠ .dead∧EffY P false old e o n0 id .ud (.box y):=by
 unfold vcSt1 at h
 split at h
 case h_2=>cases h
 rename_i t p x hop
 split at h
 case h_2=>cases h
 rename_i y
 obtain ⟨off,hp,q1,q2,q3,q4,q5,q6,hK⟩:=h
 refine ⟨_,_,hK,rfl,by simp,?_⟩
 intro Q w0 σ hv S F a w next hr _ hold hopd _ hn
 have hp':=hopd p (by rw [hop]; simp [Op.operands])
 have hx':=hopd x (by rw [hop]; simp [Op.operands])
 rw [hp] at hp'
 rw [← hx'] at q2 q3 q4 q5 q6 hn
 exact store_box_sound hop hr hp' hold q1 q2 q3 q4 q5 q6 ⟨rfl,rfl⟩ hn
theorem EffY.get {mk:Bool} {old:Option Ob} {e:Operand→AV} {o:Oper} {n0 id:Nat} {x:AV} {ob:Ob} (h:EffY P mk old e o n0 id x ob) (hr:Rel w0 σ hv S F a w) (hna:w0.na≤n0) (hold:σ.ob[id]? = old) (hop:∀ y∈o.op.operands,σ.opd y=e y)
 (hav:mk=true→(∀ t,(getL σ.tm t).avoid id=true)∧∀ (i:Nat) (o':Ob),σ.ob[i]? = some o'→o'.avoid id=true) (hd:∀ k,o.dst=some k→k < σ.n) : ∃ hv' S' F' a' w',Rel w0 (stp σ o.dst x (σ.ob.set id ob)) hv' S' F' a' w':=by
 have:=h (Q:=fun _ _ _=>False) hr hna hold hop hav (next:=fun v w'=>∃ hv' S' F' L,Rel w0 { σ with ob:=σ.ob.set id ob } hv' S' F' a w' ∧ footA hv' w' x v L∧(∀ b∈L,S' b)∧x.under (σ.ob.set id ob).length=true)
  (fun v w' x' ob' hv' S' F' L hk q1 q2 q3 q4=>by obtain ⟨rfl,rfl⟩:=hk; exact ⟨hv',S',F',L,q1,q2,q3,q4⟩)
 obtain ⟨v,w',hv',S',F',L,q1,q2,q3,q4⟩:=Does.some this
 exact ⟨hv',S',F',a.put o.dst v,w',by unfold stp; exact q1.put q2 q3 q4 hd⟩
theorem set_obY {σ:St} {d:Option Nat} {x:AV} : (σ.set d x).ob=σ.ob:=by cases d<;>rfl
theorem avoidH_mem {H:List Nat} {x:AV} (h:avoidH H x=true) {s:Nat} (hs:s∈H) : x.avoid s=true:=by
 simp only [avoidH,List.all_eq_true] at h
 exact h s hs
theorem vcDy_sound {all:Array Oper} {n0:Nat} : ∀ (hs:List (List Nat × Nat)) (os:List Oper) {s:Nat} {σ σ':St} {hv:Hv} {S:Nat→Prop} {F:Nat→List Nat} {a:Act} {w:World} {K:St→Prop},Rel w0 σ hv S F a w→Eqv σ σ'→w0.na≤n0→n0≤s →
 (∀ t,(getL σ.tm t).under s=true)→(∀ (i:Nat) (o':Ob),σ.ob[i]? = some o'→o'.under s=true∧∀ a b s ks vs j id,o' ≠ .mhole a b s ks vs j id)→(∀ i,s≤i→i < σ.ob.length→σ.ob[i]? = some .dead)→s + mks hs≤σ.ob.length→vcDy P all hs os s σ' K →
 ∃ rs σ'',Eqv (runY σ os rs) σ'' ∧ vcOps P all (os.drop hs.length) σ'' K∧FactsY P all n0 σ hs (tgs hs s) os rs
 | [], os, s, σ, σ', hv, S, F, a, w, K, hr, he, _, _, _, _, _, _, h => ⟨[],σ',by cases os<;>exact he,h,trivial⟩
 | _ :: _, [], s, σ, σ', hv, S, F, a, w, K, hr, he, _, _, _, _, _, _, h => h.elim
 | (H, kd) :: hs, o :: os, s, σ, σ', hv, S, F, a, w, K, hr, he, hna, hns, hut, huo, hde, hmk, h => by
   obtain ⟨hd,h⟩:=h
   rw [he.n] at hd
   have hdk : ∀ k,o.dst=some k→k < σ.n:=fun k hk=>by rw [hk] at hd; exact hd
   match kd,h with
   | 0,h =>
     have hmk' : s + mks hs≤σ.ob.length:=by simpa [mks] using hmk
     rcases vcGuard_sound he h with ⟨hg,σ1,he1,h⟩ | ⟨hg,σ1,he1,h⟩
     ·have hr1:=hr.tm_ext he1
      obtain ⟨x,⟨⟨hxs,hxH⟩,hx⟩,hf⟩:=vcLook_sound (hr1.obs.kill H) (fun y _=>by rw [killAll_length]; exact hr1.arg y) h
      rw [he1.ob,show σ1.opd=σ.opd from funext he1.opd] at hf
      obtain ⟨hv',S',F',a',w',hr'⟩ : ∃ hv' S' F' a' w',Rel w0 (σ.set o.dst x) hv' S' F' a' w':=by
       have hf':=hf.kill
       rcases hf' with hf2 | ⟨r,rfl,hf2⟩
       ·obtain ⟨v,h1,⟨L,h2,h2'⟩,h3⟩:=hf2 hr.obs (fun y _=>hr.arg y)
        exact ⟨hv,S,F,_,w,hr.put h2 h2' h3 hdk⟩
       ·obtain ⟨f,args,h1,h2⟩:=hf2 hr.obs hr.Blt hr.rootsIn (fun y _=>hr.arg y)
        obtain ⟨en,w',v,L',rfl,q1,q2,q3⟩:=Calls.some h2
        exact ⟨_,_,F,_,w',(hr.grow q3).put (x:=.t r) (by simpa only [footA] using q1) q2 rfl hdk⟩
      obtain ⟨rs,σ'',k0,k1,k2⟩:=vcDy_sound hs os hr' (he1.set o.dst x) hna hns (fun t=>by rw [getL_set]; split<;>first | exact hxs | exact hut t) (fun i o' hi=>huo i o' (by rw [set_obY] at hi; exact hi)) (fun i h1 h2=>by rw [set_obY] at h2 ⊢; exact hde i h1 h2) (by rw [set_obY]; exact hmk') hx
      exact ⟨⟨x,none⟩ :: rs,σ'',k0,k1,⟨hd,hxH,rfl,rfl,.inl ⟨hg,hf⟩⟩,k2⟩
     ·obtain ⟨rs,σ'',k0,k1,k2⟩:=vcDy_sound hs os (hr.put (d:=o.dst) (x:=.ud) (v:=undef) (L:=[]) (by simp [footA]) (by simp) rfl hdk) (he1.set o.dst .ud) hna hns (fun t=>by rw [getL_set]; split<;>first | rfl | exact hut t) (fun i o' hi=>huo i o' (by rw [set_obY] at hi; exact hi)) (fun i h1 h2=>by rw [set_obY] at h2 ⊢; exact hde i h1 h2) (by rw [set_obY]; exact hmk') h
      refine ⟨⟨.ud,none⟩ :: rs,σ'',k0,k1,⟨hd,?_,rfl,rfl,.inr ⟨hg,rfl⟩⟩,k2⟩
      simp [avoidH,AV.avoid]
   | 1,h =>
     obtain ⟨hg,h⟩:=h
     have hmk' : s + 1 + mks hs≤σ.ob.length:=by simp only [mks,if_true] at hmk; omega
     obtain ⟨x,ob,⟨hxH,hx⟩,hav,hou,hxu,hnm,hf⟩:=mk1_sound (n0:=n0) hns h
     rw [show σ'.opd=σ.opd from funext he.opd] at hf
     have hold:=hde s (Nat.le_refl _) (by omega)
     obtain ⟨hv',S',F',a',w',hr'⟩:=hf.get hr hna hold (fun _ _=>rfl) (fun _=>⟨fun t=>BX.avoid_under (Nat.le_refl _) _ (hut t),fun i o' hi=>Ob.avoid_under (Nat.le_refl _) (huo i o' hi).1 (huo i o' hi).2⟩) hdk
     have heq : Eqv (stp σ o.dst x (σ.ob.set s ob)) (({ σ' with ob:=σ'.ob.set s ob } : St).set o.dst x):=by rw [he.ob]; exact he.stp o.dst x (σ.ob.set s ob)
     obtain ⟨rs,σ'',k0,k1,k2⟩:=vcDy_sound hs os hr' heq hna (Nat.le_succ_of_le hns) (fun t=>by rw [stp_get]; split<;>first | exact hxu _ (Nat.lt_succ_self s) | exact AV.under_mono (Nat.le_succ s) _ (hut t)) (fun i o' hi=>by
      rw [stp_ob] at hi
      rcases set_get hi with ⟨_,rfl⟩ | ⟨_,hi⟩
      ·exact ⟨hou _,hnm⟩
      ·exact ⟨Ob.under_mono (Nat.le_succ s) _ (huo i o' hi).1,(huo i o' hi).2⟩) (fun i h1 h2=>by
      rw [stp_ob] at h2 ⊢
      rw [List.length_set] at h2
      rw [List.getElem?_set_ne (by omega)]
      exact hde i (by omega) h2) (by rw [stp_ob,List.length_set]; exact hmk') hx
     exact ⟨⟨x,some (s,ob)⟩ :: rs,σ'',k0,k1,⟨hd,hxH,hg,ob,.dead,rfl,hold,fun h _=>hav h,hnm,fun _=>⟨rfl,hns⟩,hf⟩,k2⟩
   | id + 2,h =>
     obtain ⟨hg,h⟩:=h
     have hmk' : s + mks hs≤σ.ob.length:=by simp only [mks,show ¬ id + 2=1 by omega,if_false] at hmk; omega
     obtain ⟨y,old,⟨⟨hys,hyH⟩,hy⟩,hold,hnd,hf⟩:=st1_sound (n0:=n0) h
     rw [show σ'.opd=σ.opd from funext he.opd,he.ob] at hf
     rw [he.ob] at hold
     obtain ⟨hv',S',F',a',w',hr'⟩:=hf.get hr hna rfl (fun _ _=>rfl) (fun h=>by cases h) hdk
     have heq : Eqv (stp σ o.dst .ud (σ.ob.set id (.box y))) (({ σ' with ob:=σ'.ob.set id (.box y) } : St).set o.dst .ud):=by rw [he.ob]; exact he.stp o.dst .ud (σ.ob.set id (.box y))
     obtain ⟨rs,σ'',k0,k1,k2⟩:=vcDy_sound hs os hr' heq hna hns (fun t=>by rw [stp_get]; split<;>first | rfl | exact hut t) (fun i o' hi=>by
      rw [stp_ob] at hi
      rcases set_get hi with ⟨_,rfl⟩ | ⟨_,hi⟩
      ·exact ⟨hys,by simp⟩
      ·exact huo i o' hi) (fun i h1 h2=>by
      rw [stp_ob] at h2 ⊢
      rw [List.length_set] at h2
      have:=hde i h1 h2
      rw [List.getElem?_set_ne (by rintro rfl; rw [this] at hold; exact hnd (Option.some.inj hold).symm)]
      exact this) (by rw [stp_ob,List.length_set]; exact hmk') hy
     rw [hold] at hf
     refine ⟨⟨.ud,some (id,.box y)⟩ :: rs,σ'',k0,k1,⟨hd,by simp [avoidH,AV.avoid],hg,.box y,old,rfl,hold,fun h hh=>?_,by simp,fun hh=>by omega,?_⟩,k2⟩
     ·exact avoidH_mem hyH hh
     ·have : ((id + 2 : Nat) == 1)=false:=by simp
      rw [this]; exact @hf
theorem runY_n : ∀ (os:List Oper) (rs:List RY) (σ:St),(runY σ os rs).n=σ.n
 | [], _, _ => rfl
 | _ :: _, [], _ => rfl
 | o :: os, r :: rs, σ => by simp only [runY]; rw [runY_n os rs,stp_n]
theorem runY_tm : ∀ (os:List Oper) (rs:List RY) (σ σ':St),(∀ t,getL σ.tm t=getL σ'.tm t) → ∀ t,getL (runY σ os rs).tm t=getL (putAll σ' os (rs.map RY.x)).tm t
 | [], _, _, _, h, t => by cases ‹List RY› <;> exact h t
 | _ :: _, [], _, _, h, t => h t
 | o :: os, r :: rs, σ, σ', h, t => by
   simp only [runY,List.map_cons,putAll]
   exact runY_tm os rs _ _ (fun t=>by rw [stp_get,getL_set,h]) t
theorem obY_len {ob:List Ob} {tg:Option (Nat × Ob)} : (obY ob tg).length=ob.length:=by cases tg<;>simp [obY]
theorem runY_len : ∀ (os:List Oper) (rs:List RY) (σ:St),(runY σ os rs).ob.length=σ.ob.length
 | [], _, _ => rfl
 | _ :: _, [], _ => rfl
 | o :: os, r :: rs, σ => by simp only [runY]; rw [runY_len os rs,stp_ob,obY_len]
theorem runY_miss {id:Nat} : ∀ (os:List Oper) (rs:List RY) (σ:St),(∀ (j:Nat) (r:RY) (o:Ob),rs[j]? = some r→r.tg≠some (id,o))→(runY σ os rs).ob[id]? = σ.ob[id]?
 | [], _, _, _ => rfl
 | _ :: _, [], _, _ => rfl
 | o :: os, r :: rs, σ, h => by
   simp only [runY]
   rw [runY_miss os rs _ (fun j r o hj=>h (j + 1) r o (by simpa using hj)),stp_ob]
   cases ht : r.tg with
   | none => rfl
   | some p =>
     obtain ⟨id',o'⟩:=p
     have : id'≠id:=by rintro rfl; exact h 0 r o' rfl ht
     simp only [obY]
     rw [List.getElem?_set_ne this]
theorem runY_hit {id:Nat} {o:Ob} : ∀ (os:List Oper) (rs:List RY) (σ:St) {j:Nat} {r:RY},rs.length≤os.length→rs[j]? = some r→r.tg=some (id,o)→id < σ.ob.length→(∀ (j':Nat) (r':RY) (o':Ob),j'≠j→rs[j']? = some r'→r'.tg≠some (id,o'))→(runY σ os rs).ob[id]? = some o
 | [], rs, _, j, r, hl, hj, _, _, _ => by
   have : rs=[]:=List.eq_nil_of_length_eq_zero (by simpa using hl)
   subst this; simp at hj
 | _ :: _, [], _, _, _, _, hj, _, _, _ => by simp at hj
 | p :: os, r' :: rs, σ, 0, r, hl, hj, ht, hid, hno => by
   simp only [List.getElem?_cons_zero,Option.some.injEq] at hj
   subst hj
   simp only [runY]
   rw [runY_miss os rs _ (fun j r o hj=>hno (j + 1) r o (by omega) (by simpa using hj)),stp_ob,ht]
   simp only [obY]
   exact List.getElem?_set_self hid
 | p :: os, r' :: rs, σ, j + 1, r, hl, hj, ht, hid, hno => by
   simp only [runY]
   exact runY_hit os rs _ (by simpa using hl) (by simpa using hj) ht (by rw [stp_ob,obY_len]; exact hid) (fun j' r o' hne hj'=>hno (j' + 1) r o' (by omega) (by simpa using hj'))
theorem FactsY.len {all:Array Oper} {n0:Nat} : ∀ {hs:List (List Nat × Nat)} {ts:List (Option Nat)} {os:List Oper} {rs:List RY} {σ:St},FactsY P all n0 σ hs ts os rs→rs.length=hs.length∧ts.length=hs.length∧hs.length≤os.length
 | [], [], _, [], _, _ => ⟨rfl,rfl,Nat.zero_le _⟩
 | [], _ :: _, _, _, _, h => h.elim
 | [], [], _, _ :: _, _, h => by simp [FactsY] at h
 | _ :: _, [], _, _, _, h => by simp [FactsY] at h
 | _ :: _, _ :: _, [], _, _, h => by simp [FactsY] at h
 | _ :: _, _ :: _, _ :: _, [], _, h => by simp [FactsY] at h
 | (H, kd) :: hs, tg :: ts, o :: os, r :: rs, σ, h => by
   obtain ⟨h1,h2,h3⟩:=FactsY.len h.2
   simp only [List.length_cons]
   omega
theorem FactsY.get {all:Array Oper} {n0:Nat} : ∀ {hs:List (List Nat × Nat)} {ts:List (Option Nat)} {os:List Oper} {rs:List RY} {σ:St},FactsY P all n0 σ hs ts os rs → ∀ {i:Nat} {H:List Nat} {kd:Nat},hs[i]? = some (H,kd) →
 ∃ o r tg,os[i]? = some o∧rs[i]? = some r∧ts[i]? = some tg∧FactY P all n0 (runY σ (os.take i) (rs.take i)) o H kd tg r
 | [], _, _, _, _, _, i, H, kd, hi => by simp at hi
 | _ :: _, [], _, _, _, h, _, _, _, _ => by simp [FactsY] at h
 | _ :: _, _ :: _, [], _, _, h, _, _, _, _ => by simp [FactsY] at h
 | _ :: _, _ :: _, _ :: _, [], _, h, _, _, _, _ => by simp [FactsY] at h
 | (H', kd') :: hs, tg :: ts, o :: os, r :: rs, σ, h, 0, H, kd, hi => by
   simp only [List.getElem?_cons_zero,Option.some.injEq,Prod.mk.injEq] at hi
   obtain ⟨rfl,rfl⟩:=hi
   exact ⟨o,r,tg,rfl,rfl,rfl,h.1⟩
 | (H', kd') :: hs, tg :: ts, o :: os, r :: rs, σ, h, i + 1, H, kd, hi => by
   obtain ⟨o',r',tg',h1,h2,h3,h4⟩:=FactsY.get h.2 (i:=i) (by simpa using hi)
   exact ⟨o',r',tg',by simpa using h1,by simpa using h2,by simpa using h3,by simpa [runY] using h4⟩
theorem FactY.tgs {all:Array Oper} {n0:Nat} {o:Oper} {H:List Nat} {kd:Nat} {tg:Option Nat} {r:RY} (h:FactY P all n0 σ o H kd tg r) {id:Nat} {ob:Ob} (ht:r.tg=some (id,ob)) : tg=some id:=by
 obtain ⟨_,_,h⟩:=h
 cases tg with
 | none => simp only at h; rw [h.2.1] at ht; cases ht
 | some id' =>
   simp only at h
   obtain ⟨_,ob',_,h1,_⟩:=h
   rw [h1] at ht
   cases ht
   rfl
theorem waitsT_lt {ops:Array Oper} {k:Nat} (hs:Static0 ops k) : ∀ (n i j:Nat),waitsT ops n i j=true→j < i
 | 0, i, j, h => by
   obtain ⟨o,ho,e,he,hb,rfl⟩:=waits_spec.1 h
   exact hs.back i o ho e he hb
 | n + 1, i, j, h => by
   simp only [waitsT,Bool.or_eq_true,List.any_eq_true,Bool.and_eq_true] at h
   rcases h with h | ⟨m,_,h1,h2⟩
   ·obtain ⟨o,ho,e,he,hb,rfl⟩:=waits_spec.1 h
    exact hs.back i o ho e he hb
   ·obtain ⟨o,ho,e,he,hb,rfl⟩:=waits_spec.1 h1
    have:=hs.back i o ho e he hb
    have:=waitsT_lt hs n _ _ h2
    omega
structure PartY (ops:Array Oper) (k:Nat) (rs:List RY) (σ0:St) (listed:Array Bool) (σ:St) : Prop where
 n : σ.n=σ0.n
 len : σ.ob.length=σ0.ob.length
 obL : ∀ (j id:Nat) (r:RY) (o:Ob),rs[j]? = some r→r.tg=some (id,o)→listed.getD j false=true→σ.ob[id]? = some o
 obU : ∀ (id:Nat),(∀ (j:Nat) (r:RY) (o:Ob),rs[j]? = some r→r.tg=some (id,o)→listed.getD j false=false)→σ.ob[id]? = σ0.ob[id]?
 hit : ∀ j o t r,j < k→ops[j]? = some o→o.dst=some t→rs[j]? = some r→listed.getD j false=true→getL σ.tm t=r.x
 miss : ∀ t,(∀ j o,j < k→ops[j]? = some o→listed.getD j false=true→o.dst≠some t)→getL σ.tm t=getL σ0.tm t
theorem early_soundY {ops:Array Oper} {n0:Nat} {hs:List (List Nat × Nat)} (hst:StaticY ops n0 hs) {K:St→Prop} (hQ:∀ σ' (hv':Hv) S' F' a' w',K σ'→Rel w0 σ' hv' S' F' a' w'→Q .normal a' w') {rs:List RY} {σ0:St}
 (hna:w0.na≤n0) (hut:∀ t,(getL σ0.tm t).under n0=true) (huo:∀ (i:Nat) (o':Ob),σ0.ob[i]? = some o'→o'.under n0=true∧∀ a b s ks vs j id,o' ≠ .mhole a b s ks vs j id)
 (hf:FactsY P ops n0 σ0 hs (tgs hs n0) ops.toList rs) {σe:St} (hE:Eqv (runY σ0 ops.toList rs) σe) (hK:vcOps P ops (ops.toList.drop hs.length) σe K) :
 ∀ (fuel:Nat) {listed:Array Bool} {σ:St} {hv:Hv} {S:Nat→Prop} {F:Nat→List Nat} {a:Act} {w:World},listed.size=ops.size→Down ops listed→(∀ j,hs.length≤j→listed.getD j false=false)→listed.toList.count false≤fuel →
   PartY ops hs.length rs σ0 listed σ→Rel w0 σ hv S F a w→wpAny P .any ops Q fuel listed a w:=by
 intro fuel
 obtain ⟨hrl,_,hkl⟩:=hf.len
 generalize hk : hs.length=k at *
 have hs0:=hst.toStatic0
 rw [hk] at hs0
 have hap:=hst.apart
 rw [hk] at hap
 -- the facts of one
 have fact : ∀ {i:Nat},i < k → ∃ o r tg H kd,hs[i]? = some (H,kd)∧ops[i]? = some o∧rs[i]? = some r∧(tgs hs n0)[i]? = some tg∧FactY P ops n0 (runY σ0 (ops.toList.take i) (rs.take i)) o H kd tg r:=by
  intro i hi
  obtain ⟨⟨H,kd⟩,hh⟩ : ∃ e,hs[i]? = some e:=⟨_,List.getElem?_eq_getElem (by omega)⟩
  obtain ⟨o,r,tg,h1,h2,h3,h4⟩:=hf.get hh
  exact ⟨o,r,tg,H,kd,hh,by rw [← Array.getElem?_toList]; exact h1,h2,h3,h4⟩
 have target : ∀ {j id:Nat} {r:RY} {o:Ob},rs[j]? = some r→r.tg=some (id,o)→j < k∧(tgs hs n0)[j]? = some (some id):=by
  intro j id r o hj ht
  have hjk : j < k:=by have:=get_lt hj; omega
  obtain ⟨o',r',tg,H,kd,_,_,h3,h4,h5⟩:=fact hjk
  rw [hj] at h3
  cases h3
  have:=h5.tgs ht
  subst this
  exact ⟨hjk,h4⟩
 have one : ∀ {i j id:Nat} {r r':RY} {o o':Ob},rs[i]? = some r→r.tg=some (id,o)→rs[j]? = some r'→r'.tg=some (id,o')→i=j:=fun hi ht hj ht'=>hst.one _ _ _ (target hi ht).2 (target hj ht').2
 have idlt : ∀ {j id:Nat} {r:RY} {o:Ob},rs[j]? = some r→r.tg=some (id,o)→id < σ0.ob.length:=by
  intro j id r o hj ht
  obtain ⟨hjk,htg⟩:=target hj ht
  obtain ⟨o',r',tg,H,kd,_,_,h3,h4,_,_,h6⟩:=fact hjk
  rw [htg] at h4
  cases h4
  simp only at h6
  obtain ⟨_,ob,old,_,h7,_⟩:=h6
  have:=get_lt h7
  rwa [runY_len] at this
 -- all of the first ones are done
 have full : ∀ {listed:Array Bool} {σ:St} {hv:Hv} {S:Nat→Prop} {F:Nat→List Nat} {a:Act} {w:World},(∀ j,j < k→listed.getD j false=true)→PartY ops k rs σ0 listed σ→Rel w0 σ hv S F a w →
  Rel w0 σe hv S F a w:=by
  intro listed σ hv S F a w hall hp hr
  refine Rel.tm_ext (hr.tm_ext (σ':=runY σ0 ops.toList rs) ⟨by rw [runY_n,hp.n],List.ext_getElem? fun id=>?_,fun t=>?_⟩) hE
  ·by_cases hex : ∃ (j:Nat) (r:RY) (o:Ob),rs[j]? = some r∧r.tg=some (id,o)
   ·obtain ⟨j,r,o,hj,ht⟩:=hex
    rw [hp.obL j id r o hj ht (hall j (target hj ht).1)]
    exact runY_hit _ _ _ (by rw [hrl]; exact hkl) hj ht (idlt hj ht) (fun j' r' o' hne hj' ht'=>hne (one hj' ht' hj ht))
   ·have hno : ∀ (j:Nat) (r:RY) (o:Ob),rs[j]? = some r→r.tg≠some (id,o):=fun j r o hj ht=>hex ⟨j,r,o,hj,ht⟩
    rw [hp.obU id fun j r o hj ht=>absurd ht (hno j r o hj)]
    exact runY_miss _ _ _ hno
  ·rw [runY_tm _ _ _ σ0 (fun _=>rfl)]
   by_cases ht : ∃ j o,j < k∧ops[j]? = some o∧o.dst=some t
   ·obtain ⟨j,o,hj,ho,hd⟩:=ht
    obtain ⟨x,hx⟩ : ∃ x,rs[j]? = some x:=⟨rs[j]'(by omega),List.getElem?_eq_getElem (by omega)⟩
    rw [hp.hit j o t x hj ho hd hx (hall j hj)]
    have hxs : (rs.map RY.x)[j]? = some x.x:=by rw [List.getElem?_map,hx]; rfl
    have hpa : ∀ {os1 os2:List Oper} {xs:List AV} {σ:St},xs.length≤os1.length→putAll σ (os1 ++ os2) xs=putAll σ os1 xs:=by
     intro os1
     induction os1 with
     | nil => intro os2 xs σ h; have : xs=[]:=List.eq_nil_of_length_eq_zero (by simpa using h)
              subst this; cases os2<;>rfl
     | cons o os1 ih => intro os2 xs σ h; cases xs with
       | nil => rfl
       | cons x xs => simp only [List.cons_append,putAll]; exact ih (by simpa using h)
    rw [← List.take_append_drop k ops.toList,hpa (by rw [List.length_map,List.length_take]; omega)]
    refine putAll_hit _ _ _ (by rw [take_get hj]; exact ho) hxs hd fun i o' hi hne=>?_
    have hik : i < k:=by have:=get_lt hi; simp only [List.length_take] at this; omega
    rw [take_get hik] at hi
    exact (hap i j o' o t hik hj hi ho hd).1.resolve_left hne
   ·have hno : ∀ j o,j < k→ops[j]? = some o→o.dst≠some t:=fun j o hj ho hd=>ht ⟨j,o,hj,ho,hd⟩
    rw [hp.miss t (fun j o hj ho _=>hno j o hj ho)]
    have hpa : ∀ (os:List Oper) (xs:List AV) (σ:St),(∀ (j:Nat) (o:Oper),j < xs.length→os[j]? = some o→o.dst≠some t)→getL (putAll σ os xs).tm t=getL σ.tm t:=by
     intro os
     induction os with
     | nil => intro xs σ _; cases xs<;>rfl
     | cons o os ih => intro xs σ h; cases xs with
       | nil => rfl
       | cons x xs =>
         simp only [putAll]
         rw [ih xs _ (fun j o' hj ho'=>h (j + 1) o' (by simpa using hj) (by simpa using ho')),getL_set,if_neg (h 0 o (by simp) rfl)]
    refine hpa _ _ _ fun j o hj ho=>?_
    rw [List.length_map,hrl] at hj
    exact hno j o hj (by rw [← Array.getElem?_toList]; exact ho)
 have fin : ∀ {listed:Array Bool} {σ:St} {hv:Hv} {S:Nat→Prop} {F:Nat→List Nat} {a:Act} {w:World},listed.size=ops.size→(∀ j,k≤j→listed.getD j false=false)→Region.ready .any ops listed=[] →
  PartY ops k rs σ0 listed σ→Rel w0 σ hv S F a w→Q .normal a w:=by
  intro listed σ hv S F a w hsz hno hre hp hr
  have hall:=all_of_ready_nil hs0 hsz hre
  have hke : k=ops.size:=by
   rcases Nat.lt_or_ge k ops.size with h | h
   ·have h1:=hall k h
    rw [hno k (Nat.le_refl _)] at h1
    cases h1
   ·have:=hs0.le; omega
  have hr':=full (fun j hj=>hall j (by omega)) hp hr
  rw [List.drop_of_length_le (by simp [hke])] at hK
  exact hQ _ _ _ _ _ _ hK hr'
 induction fuel with
 | zero =>
   intro listed σ hv S F a w hsz hd hno hc hp hr
   have hre : Region.ready .any ops listed=[]:=by
    cases hre : Region.ready .any ops listed with
    | nil => rfl
    | cons i is =>
      have : i∈Region.ready .any ops listed:=by rw [hre]; exact List.mem_cons_self ..
      obtain ⟨h0,_⟩:=mem_ready.1 this
      obtain ⟨h1,h2⟩:=getD_false_true h0
      have : false∈listed.toList:=by
       have : listed[i]=false:=by simpa [h2] using h1
       rw [← this]; simp
      have:=List.count_pos_iff.2 this
      omega
   exact ⟨hre,fin hsz hno hre hp hr⟩
 | succ fuel ih =>
   intro listed σ hv S F a w hsz hd hno hc hp hr
   refine ⟨fun hre=>fin hsz hno hre hp hr,fun i hi=>?_⟩
   obtain ⟨h0,o,ho,hall⟩:=mem_ready.1 hi
   obtain ⟨h1,h2⟩:=getD_false_true h0
   have hcount : (listed.setIfInBounds i true).toList.count false≤fuel:=by
    rw [Array.toList_setIfInBounds,List.count_set (by simpa using h2)]
    have : listed[i]=false:=by simpa [h2] using h1
    have hpos : 0 < listed.toList.count false:=List.count_pos_iff.2 (by rw [← this]; simp)
    simp [this]
    rw [← Array.count_toList]
    omega
   rcases Nat.lt_or_ge i k with hik | hik
   ·-- one of the first
    obtain ⟨o',r,tg,H,kd,hhi,ho',hri,htg,hfact⟩:=fact hik
    rw [ho] at ho'
    cases ho'
    obtain ⟨hd1,hxH,hg⟩:=hfact
    have hnl : listed.getD i false=false:=h1
    have hwait : ∀ j,waits ops i j=true→listed.getD j false=true:=by
     intro j hw
     obtain ⟨o',ho',e,he,hb,rfl⟩:=waits_spec.1 hw
     rw [ho] at ho'
     cases ho'
     exact hall e he hb
    have hlook : ∀ t∈o.looksAt ops,getL σ.tm t=getL (runY σ0 (ops.toList.take i) (rs.take i)).tm t:=by
     intro t ht
     rw [runY_tm _ _ _ σ0 (fun _=>rfl)]
     have hget : ∀ j,j < i→(ops.toList.take i)[j]? = ops[j]?:=fun j hj=>by rw [List.getElem?_take_of_lt hj,Array.getElem?_toList]
     by_cases hex : ∃ j p,j < k∧ops[j]? = some p∧p.dst=some t
     ·obtain ⟨j,p,hj,hp',hpd⟩:=hex
      obtain ⟨hji,hw⟩:=(hap i j o p t hik hj ho hp' hpd).2 ht
      obtain ⟨y,hy⟩ : ∃ y,rs[j]? = some y:=⟨rs[j]'(by omega),List.getElem?_eq_getElem (by omega)⟩
      rw [hp.hit j p t y hj hp' hpd hy (hwait j hw)]
      refine (putAll_hit _ _ _ (by rw [hget j hji]; exact hp') (by rw [List.getElem?_map,List.getElem?_take_of_lt hji,hy]; rfl) hpd fun m q hm hne=>?_).symm
      have hmi : m < i:=by have:=get_lt hm; simp only [List.length_take] at this; omega
      rw [hget m hmi] at hm
      exact (hap m j q p t (by omega) hj hm hp' hpd).1.resolve_left hne
     ·have hnone : ∀ j p,j < k→ops[j]? = some p→p.dst≠some t:=fun j p hj hp' hpd=>hex ⟨j,p,hj,hp',hpd⟩
      rw [hp.miss t fun j p hj hp' _=>hnone j p hj hp']
      refine (putAll_miss _ _ _ fun m q hm=>?_).symm
      have hmi : m < i:=by have:=get_lt hm; simp only [List.length_take] at this; omega
      rw [hget m hmi] at hm
      exact hnone m q (by omega) hm
    have n1:=runY_n (ops.toList.take i) (rs.take i) σ0
    have hdk : ∀ t,o.dst=some t→t < σ.n:=fun t ht=>by
     rw [ht,n1] at hd1
     rw [hp.n]; exact hd1
    have hpart : ∀ (ob':List Ob),(∀ id o',r.tg=some (id,o')→id < σ.ob.length)→ob'=obY σ.ob r.tg→PartY ops k rs σ0 (listed.setIfInBounds i true) (({ σ with ob:=ob' } : St).set o.dst r.x):=by
     rintro ob' hid rfl
     have hob : (({ σ with ob:=obY σ.ob r.tg } : St).set o.dst r.x).ob=obY σ.ob r.tg:=set_ob
     refine ⟨by rw [← hp.n]; cases o.dst<;>rfl,by rw [hob,obY_len,hp.len],fun j id r' o' hj ht hl=>?_,fun id hno2=>?_,fun j p t y hj hp' hpd hy hl=>?_,fun t ht=>?_⟩
     ·rw [hob]
      by_cases hji : j=i
      ·subst hji
       rw [hri] at hj
       cases hj
       rw [ht]
       simp only [obY]
       exact List.getElem?_set_self (hid id o' ht)
      ·rw [getD_set h2] at hl
       have hl' : listed.getD j false=true:=by simpa [Ne.symm hji] using hl
       have:=hp.obL j id r' o' hj ht hl'
       cases htr : r.tg with
       | none => exact this
       | some p =>
         obtain ⟨id2,o2⟩:=p
         simp only [obY]
         rw [List.getElem?_set_ne (by rintro rfl; exact hji (one hj ht hri htr))]
         exact this
     ·rw [hob]
      have h3 : ∀ (j:Nat) (r':RY) (o':Ob),rs[j]? = some r'→r'.tg=some (id,o')→listed.getD j false=false:=fun j r' o' hj ht=>by
       have:=hno2 j r' o' hj ht
       rw [getD_set h2] at this
       simp only [Bool.or_eq_false_iff] at this
       exact this.2
      have:=hp.obU id h3
      cases htr : r.tg with
      | none => exact this
      | some p =>
        obtain ⟨id2,o2⟩:=p
        simp only [obY]
        rw [List.getElem?_set_ne (by
         rintro rfl
         have:=hno2 i r o2 hri htr
         rw [getD_set h2] at this
         simp at this)]
        exact this
     ·rw [getL_set]
      by_cases hji : j=i
      ·subst hji
       rw [ho] at hp'
       cases hp'
       rw [hri] at hy
       cases hy
       rw [if_pos hpd]
      ·rw [getD_set h2] at hl
       have hl' : listed.getD j false=true:=by simpa [Ne.symm hji] using hl
       have hne : o.dst≠some t:=(hap i j o p t hik hj ho hp' hpd).1.resolve_left (Ne.symm hji)
       rw [if_neg hne]
       exact hp.hit j p t y hj hp' hpd hy hl'
     ·rw [getL_set,if_neg (ht i o hik ho (by rw [getD_set h2]; simp))]
      exact hp.miss t fun j p hj hp' hl=>ht j p hj hp' (by rw [getD_set h2]; simp only [hl,Bool.or_true])
    have hdown' : Down ops (listed.setIfInBounds i true):=by
     intro u v hu hw
     rw [getD_set h2] at hu ⊢
     by_cases hiu : i=u
     ·subst hiu; simp only [hwait v hw,Bool.or_true]
     ·have : listed.getD u false=true:=by simpa [hiu] using hu
      simp only [hd u v this hw,Bool.or_true]
    have hno' : ∀ j,k≤j→(listed.setIfInBounds i true).getD j false=false:=fun j hj=>by
     rw [getD_set h2,hno j hj]
     simp only [Bool.or_false,decide_eq_false_iff_not]; omega
    have hguard:=guard_congr (ops:=ops) (o:=o) hlook
    have hopd:=opd_congr (ops:=ops) (o:=o) hlook
    unfold wpOp
    rw [ho]
    simp only
    cases tg with
    | none =>
      obtain ⟨_,hrt,hg⟩:=hg
      have hpart':=hpart σ.ob (fun id o' h=>by rw [hrt] at h; cases h) (by rw [hrt]; rfl)
      have hkill : killAll H σ.ob=killAll H (runY σ0 (ops.toList.take i) (rs.take i)).ob:=by
       refine killAll_ext (by rw [runY_len,hp.len]) fun id hidH=>?_
       by_cases hex : ∃ (j:Nat) (r:RY) (o:Ob),rs[j]? = some r∧r.tg=some (id,o)
       ·obtain ⟨j,r',o',hj,ht⟩:=hex
        obtain ⟨hjk,hjt⟩:=target hj ht
        have hji : i≠j:=by rintro rfl; rw [htg] at hjt; cases hjt
        have hw:=(hst.hid i j H kd id hji hhi hjt).resolve_right hidH
        have hlt:=waitsT_lt hs0 6 i j hw
        rw [hp.obL j id r' o' hj ht (waitsT_ready hd hwait 6 j hw)]
        refine (runY_hit (j:=j) (r:=r') _ _ _ (by simp only [List.length_take]; omega) (by rw [List.getElem?_take_of_lt hlt]; exact hj) ht (idlt hj ht) (fun j' r2 o2 hne hj' ht'=>?_)).symm
        have hj2 : rs[j']? = some r2:=by
         have:=get_lt hj'
         rw [List.length_take] at this
         rwa [List.getElem?_take_of_lt (by omega)] at hj'
        exact hne (one hj2 ht' hj ht)
       ·have hno3 : ∀ (j:Nat) (r:RY) (o:Ob),rs[j]? = some r→r.tg≠some (id,o):=fun j r o hj ht=>hex ⟨j,r,o,hj,ht⟩
        rw [hp.obU id fun j r o hj ht=>absurd ht (hno3 j r o hj)]
        refine (runY_miss _ _ _ fun j r o hj=>?_).symm
        have:=get_lt hj
        rw [List.length_take] at this
        rw [List.getElem?_take_of_lt (by omega)] at hj
        exact hno3 j r o hj
      rcases hg with ⟨hg,hfact⟩ | ⟨hg,hrx⟩
      ·rw [if_pos (wanted_of hr (hguard.trans hg))]
       refine .inl ?_
       rw [← hkill] at hfact
       have:=(hfact.kill.congr hopd).does (Q:=Q) (next:=fun v w'=>wpAny P .any ops Q fuel (listed.setIfInBounds i true) (a.put o.dst v) w') hr (fun y _=>hr.arg y) (fun v w' hv' S' hr' ⟨L,f1,f2⟩ hu =>
        ih (by simpa using hsz) hdown' hno' hcount hpart' (hr'.put (d:=o.dst) f1 f2 hu hdk))
       unfold Does at this
       exact Oper.wp_mono (fun a' w' ⟨v,ha,hv⟩=>ha ▸ hv) this
      ·rw [if_neg (by rw [wanted_of hr (hguard.trans hg)]; simp)]
       rw [hrx] at hpart'
       exact ih (by simpa using hsz) hdown' hno' hcount hpart' (hr.put (d:=o.dst) (x:=.ud) (v:=undef) (L:=[]) (by simp [footA]) (by simp) rfl hdk)
    | some id =>
      obtain ⟨hgd,ob,old,hrt,hold,hobH,hobm,hmkd,heff⟩:=hg
      have hgo : guardOf ops σ o=some true:=by unfold guardOf; rw [hgd]
      rw [if_pos (wanted_of hr hgo)]
      refine .inl ?_
      -- nobody else writes it
      have hno4 : ∀ (j:Nat) (r':RY) (o':Ob),j≠i→rs[j]? = some r'→r'.tg≠some (id,o'):=fun j r' o' hne hj ht=>hne (one hj ht hri hrt)
      have hσ0 : σ0.ob[id]? = some old:=by
       rw [← hold]
       refine (runY_miss _ _ _ fun j r' o' hj=>?_).symm
       have hlt:=get_lt hj
       rw [List.length_take] at hlt
       rw [List.getElem?_take_of_lt (by omega)] at hj
       exact hno4 j r' o' (by omega) hj
      have hσ : σ.ob[id]? = some old:=by
       rw [hp.obU id fun j r' o' hj ht=>?_,hσ0]
       by_cases hji : j=i
       ·rw [hji]; exact hnl
       ·exact absurd ht (hno4 j r' o' hji hj)
      have hfree : ∀ {j:Nat} {H':List Nat} {kd':Nat},listed.getD j false=true→hs[j]? = some (H',kd')→id∈H':=by
       intro j H' kd' hl hj
       have hji : j≠i:=by rintro rfl; rw [hnl] at hl; cases hl
       refine (hst.hid j i H' kd' id hji hj htg).resolve_left fun hw=>?_
       have:=waitsT_down hd 6 j i hw hl
       rw [hnl] at this; cases this
      have:=heff (Q:=Q) hr hna hσ hopd (fun hmk=>?_) (next:=fun v w'=>wpAny P .any ops Q fuel (listed.setIfInBounds i true) (a.put o.dst v) w') (fun v w' x' ob' hv' S' F' L hk' q1 q2 q3 q4=>by
       obtain ⟨rfl,rfl⟩:=hk'
       exact ih (by simpa using hsz) hdown' hno' hcount (hpart _ (fun id' o' h=>by rw [hrt] at h; cases h; exact get_lt hσ) (by rw [hrt]; rfl)) (q1.put (d:=o.dst) q2 q3 q4 hdk))
      ·unfold Does at this
       exact Oper.wp_mono (fun a' w' ⟨v,ha,hv⟩=>ha ▸ hv) this
      ·obtain ⟨_,hid0⟩:=hmkd (by simpa using hmk)
       refine ⟨fun t=>?_,fun i' o' hi'=>?_⟩
       ·by_cases hex : ∃ j p,j < k∧ops[j]? = some p∧p.dst=some t∧listed.getD j false=true
        ·obtain ⟨j,p,hj,hp',hpd,hl⟩:=hex
         obtain ⟨o2,r2,tg2,H2,kd2,hh2,ho2,hr2,_,_,hx2,_⟩:=fact hj
         rw [hp.hit j p t r2 hj hp' hpd hr2 hl]
         exact avoidH_mem hx2 (hfree hl hh2)
        ·rw [hp.miss t fun j p hj hp' hl hpd=>hex ⟨j,p,hj,hp',hpd,hl⟩]
         exact BX.avoid_under hid0 _ (hut t)
       ·by_cases hex : ∃ (j:Nat) (r:RY) (o:Ob),rs[j]? = some r∧r.tg=some (i',o)∧listed.getD j false=true
        ·obtain ⟨j,r2,o2,hj,ht,hl⟩:=hex
         have:=hp.obL j i' r2 o2 hj ht hl
         rw [this] at hi'
         cases hi'
         obtain ⟨hjk,hjt⟩:=target hj ht
         obtain ⟨o3,r3,tg3,H3,kd3,hh3,ho3,hr3,ht3,_,_,hg3⟩:=fact hjk
         rw [hj] at hr3
         cases hr3
         rw [hjt] at ht3
         cases ht3
         simp only at hg3
         obtain ⟨_,ob3,_,e3,_,hob3,_⟩:=hg3
         rw [ht] at e3
         cases e3
         exact hob3 id (hfree hl hh3)
        ·rw [hp.obU i' fun j r2 o2 hj ht=>?_] at hi'
         ·exact Ob.avoid_under hid0 (huo i' o' hi').1 (huo i' o' hi').2
         ·cases hl : listed.getD j false with
          | false => rfl
          | true => exact absurd ⟨j,r2,o2,hj,ht,hl⟩ hex
   ·-- the first of the others
    have hbefore:=ready_chain hs0 hd hi hik
    have hik' : i=k:=by
     rcases Nat.lt_or_ge k i with h | h
     ·have:=hbefore (i - k) k rfl h
      rw [hno k (Nat.le_refl _)] at this
      cases this
     ·omega
    subst hik'
    have hr':=full (fun j hj=>hbefore (i - j) j rfl hj) hp hr
    have hlt : i < ops.size:=by omega
    have hdrop : ops.toList.drop i=o :: ops.toList.drop (i + 1):=by
     rw [List.drop_eq_getElem_cons (by simpa using hlt)]
     congr 1
     have:=Array.getElem?_eq_getElem hlt
     rw [ho] at this
     simpa using (Option.some.inj this).symm
    rw [hdrop] at hK
    refine op_step ho hr' hK fun σ' hv' S' F' a' w' hK' hr''=>?_
    have hl : ∀ j,(listed.setIfInBounds i true).getD j false=decide (j < i + 1):=fun j=>by
     rw [getD_set h2]
     rcases Nat.lt_trichotomy j i with h | h | h
     ·rw [hbefore (i - j) j rfl h]; simp; omega
     ·subst h; simp
     ·rw [hno j (by omega)]
      simp only [Bool.or_false,decide_eq_decide]; omega
    refine late_sound hs0 hQ fuel (by simpa using hsz) hlt (by omega) hl ?_ hr'' hK'
    have hc2:=count_false (listed.setIfInBounds i true).toList (i + 1) (fun j hj b hb=>by
     have:=hl j
     rw [Array.getElem?_toList] at hb
     simp only [Array.getD_eq_getD_getElem?,hb,Option.getD_some] at this
     rw [this]; simp; omega)
    simp only [Array.length_toList,Array.size_setIfInBounds] at hc2
    omega
def deads : Nat→List Ob
 | 0 => []
 | n + 1 => .dead :: deads n
theorem deads_eq : ∀ (n:Nat),deads n=List.replicate n .dead
 | 0 => rfl
 | n + 1 => by rw [deads,deads_eq n]; rfl
def prs : List (Bool × Nat)→List Nat→List (List Nat × Nat)
 | (true, id) :: es, H => prs es (id :: H)
 | (false, kd) :: es, H => (H,kd) :: prs es []
 | [], _ => []
def vcDyR (P:Program) (ops:Array Oper) (n0:Nat) (hs:List (List Nat × Nat)) (σ:St) (K:St→Prop) : Prop :=
 σ.ob.length=n0∧noMh σ.ob=true∧vcDy P ops hs ops.toList n0 { σ with ob:=σ.ob ++ deads (mks hs) } K
theorem vcDy_run {id:Nat} {ops:Array Oper} {n0:Nat} {hs:List (List Nat × Nat)} {K:St→Prop} (hm:P.follows .mixedOrders=true) (hr:Rel w0 σ hv S F a w) (hk:okDy ops n0 hs=true) (h:vcDyR P ops n0 hs σ K)
 (hQ:∀ σ' (hv':Hv) S' F' a' w',K σ'→Rel w0 σ' hv' S' F' a' w'→Q .normal a' w') : (Code.region id ops true).wp P Q a w:=by
 obtain ⟨hn0,hmh,h⟩:=h
 rw [deads_eq] at h
 have hst:=okDy_spec hk
 obtain ⟨hv1,F1,hr1⟩:=hr.room (mks hs) hmh
 have hna : w0.na≤n0:=by rw [← hn0]; exact hr.an
 have hut : ∀ t,(getL σ.tm t).under n0=true:=fun t=>by rw [← hn0]; exact hr.utm t
 have huo : ∀ (i:Nat) (o':Ob),(σ.ob ++ List.replicate (mks hs) Ob.dead)[i]? = some o'→o'.under n0=true∧∀ a b s ks vs j id,o' ≠ .mhole a b s ks vs j id:=fun i o' hi=>by
  rcases Nat.lt_or_ge i σ.ob.length with hlt | hge
  ·rw [List.getElem?_append_left hlt] at hi
   exact ⟨by rw [← hn0]; exact hr.uob i o' hi,noMh_get hmh hi⟩
  ·rw [List.getElem?_append_right hge,List.getElem?_replicate] at hi
   split at hi
   ·rw [← Option.some.inj hi]; exact ⟨rfl,by simp⟩
   ·cases hi
 obtain ⟨rs,σe,k0,k1,k2⟩:=vcDy_sound (n0:=n0) hs ops.toList hr1 (Eqv.refl _) hna (Nat.le_refl _) hut huo (fun i h1 h2=>by
  simp only [List.length_append,List.length_replicate] at h2
  rw [List.getElem?_append_right (by omega),List.getElem?_replicate,if_pos (by omega)]) (by simp; omega) h
 refine wp_region_any hm ?_
 have hrep : ∀ j,(Array.replicate ops.size false).getD j false=false:=fun j=>by
  rcases Nat.lt_or_ge j ops.size with h | h<;>simp [h]
 refine early_soundY (σ0:={ σ with ob:=σ.ob ++ List.replicate (mks hs) .dead }) hst hQ hna hut huo k2 k0 k1 ops.size (by simp) (fun i j hi _=>absurd hi (by rw [hrep]; simp)) (fun j _=>hrep j) (by simp) ⟨rfl,rfl,fun j id r o _ _ hl=>absurd hl (by rw [hrep]; simp),fun _ _=>rfl,fun j o t r _ _ _ _ hl=>absurd hl (by rw [hrep]; simp),fun _ _=>rfl⟩ (hr1.grow (Grew.drew w))
end
end Go.Proofs.YtmgdkkhnjkepiaaGreat.BX
namespace Go.Proofs.YtmgdkkhnjkepiaaGreat.BX
open Nat renaming reduceEqDiff → zA, reduceLT → zB, reduceLeDiff → zC, reduceAdd → zD, reduceMul → zE, reduceSub → zF, reduceBEq → zG
set_option linter.unusedSectionVars false
set_option linter.unusedSimpArgs false
set_option linter.unusedVariables false
open Go Go.RowKit
variable [Bd]
inductive Ex where
 | nrm | ex (id:Nat) | go (l:Nat) | ret
abbrev Kont:=Ex→St→Prop
def Holds (w0:Base) (K:St→Prop) (a:Act) (w:World) : Prop:=∃ (σ:St) (hv:Hv) (S:Nat→Prop) (F:Nat→List Nat),K σ∧Rel w0 σ hv S F a w
def Post (w0:Base) (K:Kont) : Exit→Act→World→Prop
 | .normal, a, w => Holds w0 (K .nrm) a w
 | .exit id, a, w => Holds w0 (K (.ex id)) a w
 | .goto l, a, w => Holds w0 (K (.go l)) a w
 | .ret, a, w => Holds w0 (K .ret) a w
 | _, _, _ => False
def V (P:Program) (N:Nat) (c:Code) (K:Kont) (σ:St) : Prop :=
 ∀ (w0:Base) (hv:Hv) (S:Nat→Prop) (F:Nat→List Nat) (a:Act) (w:World),w0.na≤N→Rel w0 σ hv S F a w→c.wp P (Post w0 K) a w
def seqK (P:Program) (N:Nat) (y:Code) (K:Kont) : Kont
 | .nrm, σ => V P N y K σ
 | e, σ => K e σ
def blockK (id:Nat) (K:Kont) : Kont
 | .ex i, σ => if i=id then K .nrm σ else K (.ex i) σ
 | e, σ => K e σ
def scopeK (K:Kont) : Kont
 | .go _, _ => False
 | e, σ => K e σ
def loopK (N:Nat) {ι:Type} (I:ι→Prop) (s:ι→St) (μ:ι→Nat) (i:ι) (K:Kont) : Kont
 | .nrm, σ => ∃ j,I j∧μ j < μ i∧Wk N σ (s j)
 | e, σ => K e σ
def cutK (N:Nat) {ι:Type} (I:ι→Prop) (s:ι→St) (K:Kont) : Kont
 | .nrm, σ => ∃ j,I j∧Wk N σ (s j)
 | e, σ => K e σ
section
variable {P:Program} {N:Nat} {K:Kont} {σ:St}
theorem Post.mono {w0:Base} {K K':Kont} (h:∀ e σ,K e σ→K' e σ) : ∀ (e:Exit) (a:Act) (w:World),Post w0 K e a w→Post w0 K' e a w:=by
 intro e a w hp
 cases e<;>simp only [Post] at hp ⊢ <;> obtain ⟨σ,hv,S,F,hk,hr⟩:=hp<;>exact ⟨σ,hv,S,F,h _ _ hk,hr⟩
theorem V.mono {c:Code} {K K':Kont} (h:V P N c K σ) (hk:∀ e σ,K e σ→K' e σ) : V P N c K' σ :=
 fun w0 hv S F a w hN hr=>wp_mono (h w0 hv S F a w hN hr) (Post.mono hk)
theorem V.wk {c:Code} {σ':St} (hw:Wk N σ σ') (h:V P N c K σ') : V P N c K σ:=fun w0 hv S F a w hN hr =>
 let ⟨_,_,_,hr'⟩:=hw w0 hv S F a w hN hr
 h w0 _ _ _ a w hN hr'
theorem V.skip (h:K .nrm σ) : V P N .skip K σ:=fun w0 hv S F a w hN hr=>wp_skip ⟨σ,hv,S,F,h,hr⟩
theorem V.label {l:Nat} (h:K .nrm σ) : V P N (.label l) K σ:=fun w0 hv S F a w hN hr=>wp_label ⟨σ,hv,S,F,h,hr⟩
theorem V.exit {id:Nat} (h:K (.ex id) σ) : V P N (.exit id) K σ:=fun w0 hv S F a w hN hr=>wp_exit ⟨σ,hv,S,F,h,hr⟩
theorem V.goto {l:Nat} (h:K (.go l) σ) : V P N (.goto l) K σ:=fun w0 hv S F a w hN hr=>wp_goto ⟨σ,hv,S,F,h,hr⟩
theorem V.ret (h:K .ret σ) : V P N .ret K σ:=fun w0 hv S F a w hN hr=>wp_ret ⟨σ,hv,S,F,h,hr⟩
theorem V.seq {x y:Code} (h:V P N x (seqK P N y K) σ) : V P N (.seq x y) K σ:=fun w0 hv S F a w hN hr =>
 wp_seq (wp_mono (h w0 hv S F a w hN hr) fun e a w hp=>by
  cases e with
  | normal =>
    obtain ⟨σ,hv,S,F,hk,hr⟩:=hp
    exact hk w0 hv S F a w hN hr
  | exit id => exact hp
  | goto l => exact hp
  | ret => exact hp
  | panic c => exact hp.elim
  | outgrown => exact hp.elim)
theorem V.block {id:Nat} {c:Code} (h:V P N c (blockK id K) σ) : V P N (.block id c) K σ:=fun w0 hv S F a w hN hr =>
 wp_block (wp_mono (h w0 hv S F a w hN hr) fun e a w hp=>by
  cases e with
  | normal => exact hp
  | exit i =>
    simp only [Exit.inBlock]
    obtain ⟨σ,hv,S,F,hk,hr⟩:=hp
    simp only [blockK] at hk
    split at hk
    ·rename_i e
     rw [if_pos e]
     exact ⟨σ,hv,S,F,hk,hr⟩
    ·rename_i e
     rw [if_neg e]
     exact ⟨σ,hv,S,F,hk,hr⟩
  | goto l => exact hp
  | ret => exact hp
  | panic c => exact hp.elim
  | outgrown => exact hp.elim)
theorem V.scope {c:Code} (h:V P N c (scopeK K) σ) : V P N (.scope c) K σ:=fun w0 hv S F a w hN hr =>
 wp_scope_straight (wp_mono (h w0 hv S F a w hN hr) fun e a w hp=>by
  cases e with
  | goto l => obtain ⟨_,_,_,_,hk,_⟩:=hp; exact hk.elim
  | normal => exact hp
  | exit i => exact hp
  | ret => exact hp
  | panic c => exact hp.elim
  | outgrown => exact hp.elim)
def vcCond (x:AV) (A B:Prop) : Prop :=
 match x with
 | .t (.b x) => if x=true then A else B
 | _ => False
theorem V.cond {c:Operand} {x y:Code} (h:vcCond (σ.opd c) (V P N x K σ) (V P N y K σ)) : V P N (.cond c x y) K σ:=fun w0 hv S F a w hN hr=>by
 unfold vcCond at h
 split at h
 ·rename_i b hb
  obtain ⟨⟨L,h1,_⟩,_⟩:=hr.arg c
  rw [hb] at h1
  simp only [footA,footT] at h1
  refine wp_cond h1.1 ?_
  cases b
  ·rw [if_neg (by simp)] at h; exact h w0 hv S F a w hN hr
  ·rw [if_pos rfl] at h; exact h w0 hv S F a w hN hr
 ·cases h
theorem V.region {id:Nat} {ops:Array Oper} (h:vcOps P ops ops.toList σ (K .nrm)) : V P N (.region id ops false) K σ:=fun w0 hv S F a w hN hr=>by
 refine wp_region ?_
 rw [List.range_eq_range',← Array.length_toList,wpOps_eq_wpList ops.toList 0 (by simp)]
 exact vcOps_sound _ hr h fun σ' hv' S' F' a' w' hk hr'=>⟨σ',hv',S',F',hk,hr'⟩
theorem V.draw (hm:P.follows .mixedOrders=true) (k:Nat) {id:Nat} {ops:Array Oper} (h:vcDraw P ops k σ (K .nrm)) : V P N (.region id ops true) K σ:=fun w0 hv S F a w hN hr =>
 vcDraw_sound hm hr h fun σ' hv' S' F' a' w' hk hr'=>⟨σ',hv',S',F',hk,hr'⟩
theorem V.drawY (hm:P.follows .mixedOrders=true) (n0:Nat) (hs:List (List Nat × Nat)) {id:Nat} {ops:Array Oper} (hk:okDy ops n0 hs=true) (h:vcDyR P ops n0 hs σ (K .nrm)) : V P N (.region id ops true) K σ:=fun w0 hv S F a w hN hr =>
 vcDy_run hm hr hk h fun σ' hv' S' F' a' w' hk hr'=>⟨σ',hv',S',F',hk,hr'⟩
theorem V.drawM (hm:P.follows .mixedOrders=true) (k:Nat) (es:List (Bool × Nat)) {id:Nat} {ops:Array Oper} (hk:okDrawM ops k es=true) (h:vcDm P ops σ.ob.length es (ops.toList.drop k) σ (K .nrm)) : V P N (.region id ops true) K σ:=fun w0 hv S F a w hN hr =>
 vcDm_run hm hr hk h fun σ' hv' S' F' a' w' hk hr'=>⟨σ',hv',S',F',hk,hr'⟩
theorem V.loop {ι:Type} (I:ι→Prop) (s:ι→St) (μ:ι→Nat) {c:Code} (i0:ι) (h0:I i0) (hw:Wk N σ (s i0)) (hb:∀ i,I i→V P N c (loopK N I s μ i K) (s i)) : V P N (.loop c) K σ:=fun w0 hv S F a w hN hr=>by
 obtain ⟨hv1,S1,F1,hr1⟩:=hw w0 hv S F a w hN hr
 intro b k cs
 have key : ∀ n i,μ i=n→I i → ∀ hv S F a w,Rel w0 (s i) hv S F a w → ∃ e a' w',Post w0 K e a' w' ∧ Arrives P (lone (b.at a (.code c :: .inLoop c :: k)) cs w) b k cs e a' w':=by
  intro n
  induction n using Nat.strongRecOn with
  | _ n ih =>
    intro i hn hI hv S F a w hr
    obtain ⟨e,a₁,w₁,hq,harr⟩:=hb i hI w0 hv S F a w hN hr b (.inLoop c :: k) cs
    cases e with
    | normal =>
      obtain ⟨σ2,hv2,S2,F2,⟨j,hj1,hj2,hj3⟩,hr2⟩:=hq
      obtain ⟨hv3,S3,F3,hr3⟩:=hj3 w0 _ _ _ _ _ hN hr2
      obtain ⟨e₂,a₂,w₂,hq₂,harr₂⟩:=ih (μ j) (hn ▸ hj2) j rfl hj1 hv3 S3 F3 a₁ w₁ hr3
      exact ⟨e₂,a₂,w₂,hq₂,.of_steps (Steps.trans harr (.one step_inLoop)) harr₂⟩
    | exit id => exact ⟨.exit id,a₁,w₁,hq,.pass (x:=.inLoop c) rfl (fun _ _=>.inl (by simp)) harr⟩
    | goto l => exact ⟨.goto l,a₁,w₁,hq,.pass (x:=.inLoop c) rfl (fun _ _=>.inl (by simp)) harr⟩
    | ret => exact ⟨.ret,a₁,w₁,hq,.pass (x:=.inLoop c) rfl (fun _ _=>.inl (by simp)) harr⟩
    | panic ch => exact hq.elim
    | outgrown => exact hq.elim
 obtain ⟨e,a',w',hq,harr⟩:=key _ i0 rfl h0 hv1 S1 F1 a w hr1
 exact ⟨e,a',w',hq,.of_steps (.one step_loop) harr⟩
def start (n:Nat) (xs:List AV) (obs:List Ob) : St:=⟨n,numA 0 xs,obs⟩
def tup : List AV→AV
 | [x] => x
 | xs => .tp xs
def vcOuts (P:Program) (σ:St) : List ResultVar→(List AV→Prop)→Prop
 | [], K => K []
 | .tmp t :: r, K => vcOuts P σ r fun xs=>K (getL σ.tm t :: xs)
 | .cell a t :: r, K => vcLoad P t (getL σ.tm a) σ.ob fun x=>vcOuts P σ r fun xs=>K (x :: xs)
def Close (N:Nat) (y:AV) (ob:List Ob) (x:AV) (obs:List Ob) : Prop:=∃ ids,distinct ids=true∧pre N 0 ids=true∧x.under obs.length=true∧x.via (rnO ids) y∧obVia ids obs.length ob ids obs
def Rest (N:Nat) (ob obs:List Ob) : Prop:=∃ ids,distinct ids=true∧pre N 0 ids=true∧obVia ids obs.length ob ids obs
theorem Rest.nil {ob:List Ob} : Rest 0 ob []:=⟨[],rfl,rfl,rfl⟩
theorem Rest.of {N:Nat} {ob obs:List Ob} (ids:List (Option Nat)) (h1:distinct ids=true) (h2:pre N 0 ids=true) (h3:obVia ids obs.length ob ids obs) : Rest N ob obs:=⟨ids,h1,h2,h3⟩
theorem Close.of {N:Nat} {y x:AV} {ob obs:List Ob} (ids:List (Option Nat)) (h1:distinct ids=true) (h2:pre N 0 ids=true) (h3:x.under obs.length=true) (h4:x.via (rnO ids) y) (h5:obVia ids obs.length ob ids obs) : Close N y ob x obs:=⟨ids,h1,h2,h3,h4,h5⟩
def vcClose (N:Nat) (y:AV) (ob:List Ob) (x:AV) (obs:List Ob) : Prop :=
 match x with
 | .t r => match y.take ob 5 with
   | some (r', ids) => nodupB ids=true∧r'=r∧Rest N (killAll ids ob) obs
   | none => False
 | x => Close N y ob x obs
def retK (P:Program) (N:Nat) (outs:List ResultVar) (x:AV) (obs:List Ob) : Kont
 | .ret, σ | .nrm, σ => vcOuts P σ outs fun xs=>vcClose N (tup xs) σ.ob x obs
 | _, _ => False
theorem Rel.pad {w0:Base} {xs:List AV} {obs:List Ob} {vs:List Value} {hv:Hv} {S:Nat→Prop} {F:Nat→List Nat} {w:World} {n:Nat} (hr:Rel w0 ⟨xs.length,numA 0 xs,obs⟩ hv S F ⟨vs.toArray,[]⟩ w) (hn:xs.length≤n) :
 Rel w0 (start n xs obs) hv S F { tmps:=vs.toArray ++ Array.replicate (n - vs.toArray.size) undef,defers:=[] } w:=by
 have hs : vs.length=xs.length:=by simpa using hr.size
 refine { hr with size:=by simp [start]; omega,tm:=fun t=>?_,utm:=fun t=>hr.utm t,defs:=rfl }
 have he : (vs.toArray ++ Array.replicate (n - vs.toArray.size) undef).getD t undef=vs.toArray.getD t undef:=by
  simp only [Array.getD_eq_getD_getElem?]
  rw [Array.getElem?_append]
  split
  ·rfl
  ·rename_i h
   rw [Array.getElem?_eq_none (xs:=vs.toArray) (by omega)]
   simp only [Array.getElem?_replicate]
   split<;>rfl
 simp only [start]
 rw [he]
 exact hr.tm t
def tupV : List Value→Value
 | [v] => v
 | vs => .tuple vs.toArray
def resOf (tmps:Array Value) : ResultVar→Sem Value
 | .tmp t => pure (tmps.getD t undef)
 | .cell a t => do loadVar t (← asAddr (tmps.getD a undef))
theorem results_eq (fn:Func) (tmps:Array Value) : results fn tmps=(do
 let vs ← fn.results.mapM (resOf tmps)
 pure (if h:vs.size=1 then vs[0] else .tuple vs)):=rfl
theorem load_cell {ρ:Operand→Value} {t:TypeId} {v:Value} {w:World} (h:(execOp ρ ⟨none,.load t (.tmp 0),0, "",#[],none⟩).run P w = .ok (.value v) w) : (do loadVar t (← asAddr (ρ (.tmp 0)))).run P w = .ok v w:=by
 simp only [execOp,Instr.loadAt,Sem.run_bind] at h
 generalize ρ (.tmp 0)=u at h ⊢
 cases u with
 | pointer a =>
   cases a with
   | some a =>
     simp only [Instr.sureAddr,Sem.run_pure,Result.andThen_ok] at h
     simp only [asAddr,pure_bind]
     cases hr : (loadVar t a).run P w with
     | ok x w' => rw [hr] at h; simp only [Result.andThen_ok,Result.ok.injEq,Next.value.injEq] at h; rw [h.1,h.2]
     | halt x w' => rw [hr] at h; cases h
   | none => simp [Instr.sureAddr,stuck] at h
 | _ => simp [Instr.sureAddr,stuck] at h
theorem outs_sound {w0:Base} {σ:St} {hv:Hv} {S:Nat→Prop} {F:Nat→List Nat} {a:Act} {w:World} (hr:Rel w0 σ hv S F a w) : ∀ (outs:List ResultVar) {K:List AV→Prop},vcOuts P σ outs K →
 ∃ xs vs L,K xs∧(outs.mapM (m:=Sem) (resOf a.tmps)).run P w = .ok vs w∧footAs hv w xs vs L∧(∀ b∈L,S b)∧unders σ.ob.length xs=true
 | [], K, h => ⟨[],[],[],h,rfl,by simp [footAs],by simp,rfl⟩
 | .tmp t :: r, K, h => by
   simp only [vcOuts] at h
   obtain ⟨xs,vs,L,h1,h2,h3,h4,h5⟩:=outs_sound hr r h
   obtain ⟨L1,q1,q2⟩:=hr.tm t
   refine ⟨_,a.tmps.getD t undef :: vs,L1 ++ L,h1,?_,by simp only [footAs]; exact ⟨_,_,L1,L,rfl,rfl,q1,h3⟩,fun b hb=>(List.mem_append.1 hb).elim (q2 b) (h4 b),by simp only [unders,hr.utm t,h5,Bool.and_self]⟩
   simp [List.mapM_cons,resOf,h2]
 | .cell c t :: r, K, h => by
   simp only [vcOuts] at h
   obtain ⟨x,hx,hy⟩:=load_sound (o:=⟨none,.load t (.tmp 0),0, "",#[],none⟩) (e:=fun _=>getL σ.tm c) rfl h
   obtain ⟨v,q1,⟨L1,q2,q3⟩,q4⟩:=hy (ρ:=fun _=>a.tmps.getD c undef) hr.obs (fun y _=>⟨hr.tm c,hr.utm c⟩)
   obtain ⟨xs,vs,L,h1,h2,h3,h4,h5⟩:=outs_sound hr r hx
   refine ⟨_,v :: vs,L1 ++ L,h1,?_,by simp only [footAs]; exact ⟨_,_,L1,L,rfl,rfl,q2,h3⟩,fun b hb=>(List.mem_append.1 hb).elim (q3 b) (h4 b),by simp only [unders,q4,h5,Bool.and_self]⟩
   have:=load_cell q1
   simp only [List.mapM_cons,resOf,Sem.run_bind] at this ⊢
   rw [this]
   simp [h2]
theorem tup_foot {hv:Hv} {w:World} {xs:List AV} {vs:List Value} {L:List Nat} (h:footAs hv w xs vs L) : footA hv w (tup xs) (tupV vs) L:=by
 match xs,vs,h with
 | [], vs, h => simp only [footAs] at h; obtain ⟨rfl,rfl⟩:=h; simp [tup,tupV,footA,footAs]
 | [x],vs,h =>
   simp only [footAs] at h
   obtain ⟨v,vs',L1,L2,rfl,rfl,h1,rfl,rfl⟩:=h
   simpa [tup,tupV] using h1
 | x :: y :: xs,vs,h =>
   have h':=h
   simp only [footAs] at h
   obtain ⟨v,vs',L1,L2,rfl,rfl,h1,v2,vs2,L3,L4,rfl,rfl,h2,h3⟩:=h
   simp only [tup,tupV,footA]
   exact ⟨_,rfl,h'⟩
theorem tup_under {n:Nat} {xs:List AV} (h:unders n xs=true) : (tup xs).under n=true:=by
 match xs,h with
 | [], _ => rfl
 | [x], h => simpa [unders,tup] using h
 | x :: y :: xs, h => exact h
theorem results_run {fn:Func} {outs:List ResultVar} (h:fn.results=outs.toArray) {tmps:Array Value} {w:World} {vs:List Value} (hv:(outs.mapM (m:=Sem) (resOf tmps)).run P w = .ok vs w) :
 (results fn tmps).run P w = .ok (tupV vs) w:=by
 rw [results_eq,h,List.mapM_toArray,Sem.run_bind,Sem.run_map,hv]
 simp only [Result.andThen_ok,Sem.run_pure]
 congr 1
 match vs with
 | [] => rfl
 | [v] => rfl
 | a :: b :: l => rfl
theorem Rel.one_tmp {w0:Base} {σ:St} {hv:Hv} {S:Nat→Prop} {F:Nat→List Nat} {a:Act} {w:World} (hr:Rel w0 σ hv S F a w) {y:AV} {v:Value} {L:List Nat} (hf:footA hv w y v L) (hL:∀ b∈L,S b) (hu:y.under σ.ob.length=true) :
 Rel w0 ⟨1,[(0,y)],σ.ob⟩ hv S F ⟨#[v],[]⟩ w:=by
 refine { hr with size:=rfl,defs:=rfl,tm:=fun t=>?_,utm:=fun t=>?_ }
 ·simp only [getL]
  split
  ·rename_i h; subst h; exact ⟨L,by simpa using hf,hL⟩
  ·exact ⟨[],by simp [footA],by simp⟩
 ·simp only [getL]
  split
  ·exact hu
  ·rfl
theorem Rel.no_tmp {w0:Base} {σ:St} {hv:Hv} {S:Nat→Prop} {F:Nat→List Nat} {a:Act} {w:World} (hr:Rel w0 σ hv S F a w) : Rel w0 ⟨0,[],σ.ob⟩ hv S F ⟨#[],[]⟩ w :=
 {hr with size:=rfl,defs:=rfl,tm:=fun t=>⟨[],by simp [getL,footA],by simp⟩,utm:=fun t=>rfl }
theorem FnM.intro {f:FuncId} {fn:Func} {c:Code} {args:List AV} {ob0:List Ob} {x:AV} {obs:List Ob} {outs:List ResultVar} (hf:P.funcs[f]? = some fn) (hb:fn.body=some c) (hres:fn.results=outs.toArray) (hn:args.length≤fn.ntmps)
 (h:V P ob0.length c (retK P ob0.length outs x obs) (start fn.ntmps args ob0)) : FnM P f args ob0 x obs:=by
 intro w L0 M vs hv S F hr0
 refine calls_of_wp hf hb ?_
 refine wp_mono (h _ _ _ _ _ w (Nat.le_refl _) (hr0.pad hn)) ?_
 have fin : ∀ (a:Act) (w':World),Holds ⟨w,L0,M,ob0.length,hv.v⟩ (fun σ=>vcOuts P σ outs fun xs=>vcClose ob0.length (tup xs) σ.ob x obs) a w' →
  a.defers=[]∧∃ v,(results fn a.tmps).run P w' = .ok v w' ∧ ∃ (v_1:Value) (hv':Hv) (S':Nat→Prop) (F':Nat→List Nat) (L':List Nat),Ending.returned v = .returned v_1∧Rel ⟨w,L0,M,ob0.length,hv.v⟩ ⟨0,[],obs⟩ hv' S' F' ⟨#[],[]⟩ w' ∧ footA hv' w' x v_1 L' ∧ (∀ b∈L',S' b)∧x.under obs.length=true:=by
  rintro a w' ⟨σ,hv,S,F,hk,hr⟩
  obtain ⟨xs,vs,L,hk,hrun,hfs,f2,hus⟩:=outs_sound hr outs hk
  refine ⟨hr.defs,_,results_run hres hrun,tupV vs,?_⟩
  have f1:=tup_foot hfs
  have hu:=tup_under hus
  unfold vcClose at hk
  split at hk
  ·rename_i r
   split at hk
   ·rename_i r' ids ht
    obtain ⟨hnd,rfl,ids2,d1,d2,d3⟩:=hk
    obtain ⟨L',g1,g2⟩:=take_sound hr _ _ ht f1 f2
    obtain ⟨hv2,S2,s1,s2,s3,s4,hr2,s5⟩:=hr.killAll ids (nodupB_spec hnd)
    have gS : ∀ b∈L',S2 b:=fun b hb=>by
     rcases g2 b hb with hb | ⟨i,hi,o,ho,hd,hb⟩
     ·exact s3 b hb
     ·exact s4 i hi o ho hd b hb
    have hr3:=hr2.one_tmp (y:=.t r') (by simpa only [footA] using g1) gS rfl
    have hk : Keep ob0.length ids2 ⟨1,[(0,.t r')],killAll ids σ.ob⟩ ⟨1,[(0,.t r')],obs⟩:=⟨rfl,d1,d2,⟨⟨rfl,by simp [getL,AV.via,AV.shut]⟩,trivial⟩,d3⟩
    obtain ⟨hv4,S4,F4,hr4⟩:=hk.wk _ _ _ _ _ _ (Nat.le_refl _) hr3
    obtain ⟨L4,q1,q2⟩:=hr4.tm 0
    exact ⟨hv4,S4,F4,L4,rfl,hr4.no_tmp,by simpa [getL] using q1,q2,rfl⟩
   ·cases hk
  ·obtain ⟨ids,h1,h1',h2,h3,h4⟩:=hk
   have hr1:=hr.one_tmp f1 f2 hu
   have hk : Keep ob0.length ids ⟨1,[(0,tup xs)],σ.ob⟩ ⟨1,[(0,x)],obs⟩:=⟨rfl,h1,h1',⟨⟨h2,by simpa [getL] using h3⟩,trivial⟩,h4⟩
   obtain ⟨hv2,S2,F2,hr2⟩:=hk.wk _ _ _ _ _ _ (Nat.le_refl _) hr1
   obtain ⟨L',q1,q2⟩:=hr2.tm 0
   exact ⟨hv2,S2,F2,L',rfl,hr2.no_tmp,by simpa [getL] using q1,q2,h2⟩
 intro e a w' hp
 cases e with
 | normal => exact fin a w' hp
 | ret => exact fin a w' hp
 | exit id => obtain ⟨_,_,_,_,hk,_⟩:=hp; exact hk.elim
 | goto l => obtain ⟨_,_,_,_,hk,_⟩:=hp; exact hk.elim
 | panic c => exact hp.elim
 | outgrown => exact hp.elim
end
def vcDr (P:Program) (all:Array Oper) : Nat→List Oper→St→(St→Prop)→Prop
 | 0, os, σ, K => vcOps P all os σ K
 | _ + 1, [], σ, K => K σ
 | k + 1, o :: os, σ, K => dstOk σ.n o.dst∧vcGuard all σ o (fun σ=>vcLook P σ.ob σ.opd o.op fun x=>vcDr P all k os (σ.set o.dst x) K) (fun σ=>vcDr P all k os (σ.set o.dst .ud) K)
theorem vcDr_eq {P:Program} {all:Array Oper} : ∀ (k:Nat) (os:List Oper) (σ:St) (K:St→Prop),vcDr P all k os σ K=vcPre P all (os.take k) σ fun σ'=>vcOps P all (os.drop k) σ' K
 | 0, os, σ, K => by simp [vcDr,vcPre]
 | k + 1, [], σ, K => by simp [vcDr,vcPre,vcOps]
 | k + 1, o :: os, σ, K => by
   simp only [vcDr,List.take_succ_cons,List.drop_succ_cons,vcPre]
   congr 1
   have h1 : (fun σ:St=>vcLook P σ.ob σ.opd o.op fun x=>vcDr P all k os (σ.set o.dst x) K)=(fun σ:St=>vcLook P σ.ob σ.opd o.op fun x=>vcPre P all (os.take k) (σ.set o.dst x) fun σ'=>vcOps P all (os.drop k) σ' K):=by
    funext σ
    congr 1
    funext x
    exact vcDr_eq k os _ K
   have h2 : (fun σ:St=>vcDr P all k os (σ.set o.dst .ud) K)=(fun σ:St=>vcPre P all (os.take k) (σ.set o.dst .ud) fun σ'=>vcOps P all (os.drop k) σ' K):=by
    funext σ
    exact vcDr_eq k os _ K
   rw [h1,h2]
abbrev DD : Type:=Nat→Nat × List (Bool × Nat)
def vcDz (P:Program) (all:Array Oper) (B:Nat) (es:List (Bool × Nat)) : Nat→List Oper→St→(St→Prop)→Prop
 | 0, os, σ, K => vcDm P all B es os σ K
 | _ + 1, [], σ, K => vcDm P all B es [] σ K
 | k + 1, _ :: os, σ, K => vcDz P all B es k os σ K
theorem vcDz_eq {P:Program} {all:Array Oper} {B:Nat} {es:List (Bool × Nat)} : ∀ (k:Nat) (os:List Oper) (σ:St) (K:St→Prop),vcDz P all B es k os σ K=vcDm P all B es (os.drop k) σ K
 | 0, _, _, _ => rfl
 | _ + 1, [], _, _ => rfl
 | k + 1, _ :: os, σ, K => vcDz_eq k os σ K
def stopD (kd:Nat × List (Bool × Nat)) : Bool:=kd.1 == 999999
def stopW (b:Bool) (A B:Prop) : Prop:=match b with
 | true => A
 | false => B
def vcDq (P:Program) (all:Array Oper) (kd:Nat × List (Bool × Nat)) (os:List Oper) (σ:St) (K:St→Prop) : Prop :=
 match kd.2 with
 | [] => vcDr P all kd.1 os σ K
 | e :: es => stopW (decide (2000000≤kd.1)) (vcDyR P all (kd.1 - 2000000) (prs (e :: es) []) σ K) (vcDz P all σ.ob.length (e :: es) kd.1 os σ K)
def okDq (ops:Array Oper) (kd:Nat × List (Bool × Nat)) : Bool :=
 match kd.2 with
 | [] => okDraw ops kd.1
 | e :: es => if 2000000≤kd.1 then okDy ops (kd.1 - 2000000) (prs (e :: es) []) else okDrawM ops kd.1 (e :: es)
def WL (P:Program) (N:Nat) (c:Code) (K:Kont) (σ:St) : Prop:=V P N c K σ
def hdC : Code→Nat
 | .region id _ _ => id
 | .seq x _ => hdC x
 | .block _ c => hdC c
 | .scope c => hdC c
 | .loop c => hdC c
 | _ => 888888
def W (P:Program) (N:Nat) (D:DD) : Code→Kont→St→Prop
 | .skip, K, σ => K .nrm σ
 | .label _, K, σ => K .nrm σ
 | .region id ops draw, K, σ => stopW (stopD (D id)) (WL P N (.region id ops draw) K σ) (if draw=true then vcDq P ops (D id) ops.toList σ (K .nrm) else vcOps P ops ops.toList σ (K .nrm))
 | .seq x y, K, σ => stopW (stopD (D (1000000 + hdC y))) (WL P N (.seq x y) K σ) (W P N D x (fun e σ=>match e with
   | .nrm => W P N D y K σ
   | e => K e σ) σ)
 | .cond c x y, K, σ => vcCond (σ.opd c) (W P N D x K σ) (W P N D y K σ)
 | .block id c, K, σ => W P N D c (blockK id K) σ
 | .scope c, K, σ => W P N D c (scopeK K) σ
 | .exit id, K, σ => K (.ex id) σ
 | .goto l, K, σ => K (.go l) σ
 | .ret, K, σ => K .ret σ
 | c, K, σ => WL P N c K σ
def seqW (P:Program) (N:Nat) (D:DD) (y:Code) (K:Kont) : Kont:=fun e σ=>match e with
 | .nrm => W P N D y K σ
 | e => K e σ
def okCode (D:DD) : Code→Bool
 | .region id ops draw => stopD (D id) || !draw || okDq ops (D id)
 | .seq x y => okCode D x && okCode D y
 | .cond _ x y => okCode D x && okCode D y
 | .block _ c => okCode D c
 | .scope c => okCode D c
 | .loop c => okCode D c
 | _ => true
section
variable {P:Program} {N:Nat} {K:Kont} {σ:St} {D:DD}
theorem W_sound (hm:P.follows .mixedOrders=true) : ∀ (c:Code) (K:Kont) (σ:St),okCode D c=true→W P N D c K σ→V P N c K σ
 | .skip, K, σ, _, h => V.skip h
 | .label _, K, σ, _, h => V.label h
 | .region id ops draw, K, σ, ho, h => by
   simp only [W] at h
   cases hst : stopD (D id) with
   | true => rw [hst] at h; exact h
   | false =>
   rw [hst] at h
   simp only [stopW] at h
   cases draw with
   | true =>
     rw [if_pos rfl] at h
     simp only [okCode,hst,Bool.not_true,Bool.false_or] at ho
     unfold vcDq at h
     unfold okDq at ho
     split at h
     ·rename_i he
      rw [he] at ho
      rw [vcDr_eq] at h
      exact V.draw hm (D id).1 ⟨ho,h⟩
     ·rename_i e es he
      rw [he] at ho
      by_cases hy : 2000000≤(D id).1
      ·rw [decide_eq_true hy] at h
       simp only [if_pos hy] at ho
       exact V.drawY hm _ _ ho h
      rw [decide_eq_false hy] at h
      simp only [if_neg hy] at ho
      simp only [stopW] at h
      rw [vcDz_eq] at h
      exact V.drawM hm (D id).1 _ ho h
   | false => rw [if_neg (by simp)] at h; exact V.region h
 | .seq x y, K, σ, ho, h => by
   simp only [okCode,Bool.and_eq_true] at ho
   simp only [W] at h
   cases hst : stopD (D (1000000 + hdC y)) with
   | true => rw [hst] at h; exact h
   | false =>
   rw [hst] at h
   simp only [stopW] at h
   refine V.seq ((W_sound hm x _ σ ho.1 h).mono fun e σ hk=>?_)
   cases e with
   | nrm => exact W_sound hm y K σ ho.2 hk
   | ex id => exact hk
   | go l => exact hk
   | ret => exact hk
 | .cond c x y, K, σ, ho, h => by
   simp only [okCode,Bool.and_eq_true] at ho
   simp only [W] at h
   refine V.cond ?_
   unfold vcCond at h ⊢
   split at h
   ·split at h
    ·rename_i hx; rw [if_pos hx]; exact W_sound hm x K σ ho.1 h
    ·rename_i hx; rw [if_neg hx]; exact W_sound hm y K σ ho.2 h
   ·cases h
 | .block id c, K, σ, ho, h => by
   simp only [okCode] at ho
   simp only [W] at h
   exact V.block (W_sound hm c _ σ ho h)
 | .exit id, K, σ, _, h => V.exit h
 | .goto l, K, σ, _, h => V.goto h
 | .ret, K, σ, _, h => V.ret h
 | .loop c, K, σ, _, h => h
 | .rangeFunc .., K, σ, _, h => h
 | .scope c, K, σ, ho, h => by
   simp only [okCode] at ho
   simp only [W] at h
   exact V.scope (W_sound hm c _ σ ho h)
 | .refuse _, K, σ, _, h => h
theorem WL.loop {ι:Type} (I:ι→Prop) (s:ι→St) (μ:ι→Nat) {c:Code} (hm:P.follows .mixedOrders=true) (ho:okCode D c=true) (i0:ι) (h0:I i0) (hw:Wk N σ (s i0)) (hb:∀ i,I i→W P N D c (loopK N I s μ i K) (s i)) : WL P N (.loop c) K σ :=
 V.loop I s μ i0 h0 hw fun i hi=>W_sound hm c _ _ ho (hb i hi)
theorem W.cut {ι:Type} (I:ι→Prop) (s:ι→St) {c:Code} (hm:P.follows .mixedOrders=true) (ho:okCode D c=true) (i0:ι) (h0:I i0) (hw:Wk N σ (s i0)) (hb:∀ i,I i→W P N D c K (s i)) : WL P N c K σ :=
 (W_sound hm c K _ ho (hb i0 h0)).wk hw
theorem ConM.intro {f:FuncId} {fn:Func} {c:Code} {args:List AV} {ob0:List Ob} {x:AV} {obs:List Ob} (outs:List ResultVar) (D:DD) (hm:P.follows .mixedOrders=true) (hf:P.funcs[f]? = some fn) (hb:fn.body=some c) (hname:(fn.name == "runtime.NumGoroutine")=false)
 (hres:fn.results=outs.toArray) (hn:decide (args.length≤fn.ntmps)=true) (ho:okCode D c=true)
 (h:W P ob0.length D c (retK P ob0.length outs x obs) (start fn.ntmps args ob0)) : ConM P f args ob0 x obs :=
 ⟨⟨fn,hf,by rw [hb]; rfl,hname⟩,FnM.intro hf hb hres (by simpa using hn) (W_sound hm c _ _ ho h)⟩
theorem Con.intro {f:FuncId} {fn:Func} {c:Code} {args:List T} {x:AV} {obs:List Ob} (outs:List ResultVar) (D:DD) (hm:P.follows .mixedOrders=true) (hf:P.funcs[f]? = some fn) (hb:fn.body=some c) (hname:(fn.name == "runtime.NumGoroutine")=false)
 (hres:fn.results=outs.toArray) (hn:decide (args.length≤fn.ntmps)=true) (ho:okCode D c=true)
 (h:W P 0 D c (retK P 0 outs x obs) (start fn.ntmps (args.map .t) [])) : Con P f args x obs :=
 ConM.intro outs D hm hf hb hname hres (by simpa using hn) ho h
end
end Go.Proofs.YtmgdkkhnjkepiaaGreat.BX