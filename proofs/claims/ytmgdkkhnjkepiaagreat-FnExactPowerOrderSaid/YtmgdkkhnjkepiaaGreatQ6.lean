/-
  Part 6 of what LFnExactPowerOrder leans on: its texts, merged by a program (prune.py), with what it needs alone.
-/
import Derived.Test.YtmgdkkhnjkepiaaGreatQ5
import Derived.Test.YtmgdkkhnjkepiaaGreatSm
import Derived.Shelf.Sort.Plain
import Derived.Shelf.Slices.In.SortNone
namespace Go.Proofs.YtmgdkkhnjkepiaaGreat.BX
open Nat renaming reduceEqDiff → zA, reduceLT → zB, reduceLeDiff → zC, reduceAdd → zD, reduceMul → zE, reduceSub → zF, reduceBEq → zG
set_option linter.unusedSectionVars false
set_option linter.unusedSimpArgs false
set_option linter.unusedVariables false
open Go Go.RowKit
set_option maxRecDepth 20000
set_option maxHeartbeats 400000
def sCreate : List UInt8:=[99,114,101,97,116,101]
def sMember : List UInt8:=[109,101,109,98,101,114]
def sRules : List UInt8:=[106,111,105,110,95,114,117,108,101,115]
def sPower : List UInt8:=[112,111,119,101,114]
def sJoin : List UInt8:=[106,111,105,110]
def sInvite : List UInt8:=[105,110,118,105,116,101]
def sLeave : List UInt8:=[108,101,97,118,101]
def sBan : List UInt8:=[98,97,110]
def sPublic : List UInt8:=[112,117,98,108,105,99]
def refsB (xs:List (List UInt8)) (own:List UInt8) : Bool:=decide ((xs.length : Int)≤10) && (decide (∀ x∈xs,isW x=true∧x≠own) && decide xs.Nodup)
def nameB : List UInt8→Bool
 | [] => isW []
 | c :: r => if (c.toNat : Int)=42 ∨ (c.toNat : Int)=35 then isW r else isW (c :: r)
def grantB (g:Grant) : Bool:=nameB g.name && (decide (-1000000≤g.level) && decide (g.level≤1000000))
open Classical in
noncomputable def grantsB (gs:List Grant) : Bool:=decide ((gs.length : Int)≤50) && (decide (∀ g∈gs,grantB g=true) && decide (∀ (i:Nat) (a b:Grant),gs[i]? = some a→gs[i + 1]? = some b→Op.bytesLess a.name b.name=true))
noncomputable def contentB (e:Event) : Bool :=
 if e.typ=sCreate then (e.isState && decide (e.key=[])) && decide ((e.grants.length : Int)=0) && decide ((e.prev.length : Int)=0) && decide ((e.auth.length : Int)=0) && decide (e.value=[])
 else if e.typ=sMember then e.isState && decide (¬ e.key=[]) && decide ((e.grants.length : Int)=0) && decide (e.value∈[sJoin,sInvite,sLeave,sBan])
 else if e.typ=sRules then (e.isState && decide (e.key=[])) && decide ((e.grants.length : Int)=0) && decide (e.value∈[sPublic,sInvite])
 else if e.typ=sPower then (e.isState && decide (e.key=[])) && decide (e.value=[]) && grantsB e.grants
 else decide ((e.grants.length : Int)=0) && (decide (e.value=[]) || isW e.value)
noncomputable def ev5 (e:Event) : Int:=if ¬ contentB e=true then 5 else 0
noncomputable def ev4 (e:Event) : Int:=if ¬ (refsB e.prev e.id=true∧refsB e.auth e.id=true) then 4 else ev5 e
noncomputable def ev3 (e:Event) : Int:=if e.time < 0 ∨ 1000000000000 < e.time then 3 else ev4 e
noncomputable def ev2 (e:Event) : Int:=if ¬ e.key=[]∧¬ (e.isState=true∧isW e.key=true) then 2 else ev3 e
noncomputable def evOk (e:Event) : Int:=if ¬ (isW e.id=true∧isW e.sender=true∧isW e.typ=true) then 1 else ev2 e
theorem nodup_snoc {α:Type} {s:List α} {i:Nat} {a:α} (ha:s[i]? = some a) : (s.take (i + 1)).Nodup ↔ (s.take i).Nodup∧a ∉ s.take i:=by
 rw [List.take_add_one,ha,Option.toList_some,List.nodup_append]
 refine ⟨fun h=>⟨h.1,fun hm=>h.2.2 a hm a (by simp) rfl⟩,fun h=>⟨h.1,by simp,fun x hx y hy=>?_⟩⟩
 simp only [List.mem_singleton] at hy
 subst hy
 rintro rfl
 exact h.2 hx
theorem refsB_no1 {xs:List (List UInt8)} {own a:List UInt8} (ha:a∈xs) (h:¬ (isW a=true∧a≠own)) : refsB xs own=false:=by
 unfold refsB
 rw [decide_eq_false (p:=∀ x∈xs,isW x=true∧x≠own) (fun hh=>h (hh a ha))]
 simp
theorem refsB_no2 {xs:List (List UInt8)} {own a:List UInt8} {i:Nat} (ha:xs[i]? = some a) (h:a∈xs.take i) : refsB xs own=false:=by
 unfold refsB
 rw [decide_eq_false (p:=xs.Nodup) (fun hh=>?_)]
 ·simp
 ·have:=(nodup_snoc ha).1 (hh.sublist (List.take_sublist _ _))
  exact this.2 h
theorem grantsB_no1 {gs:List Grant} {g:Grant} (hg:g∈gs) (h:¬ grantB g=true) : grantsB gs=false:=by
 unfold grantsB
 rw [decide_eq_false (p:=∀ g∈gs,grantB g=true) (fun hh=>h (hh g hg))]
 simp
theorem grantsB_no2 {gs:List Grant} {j:Nat} {a b:Grant} (ha:gs[j]? = some a) (hb:gs[j + 1]? = some b) (h:Op.bytesLess a.name b.name=false) : grantsB gs=false:=by
 unfold grantsB
 rw [@decide_eq_false _ (Classical.propDecidable _) (fun hh:∀ (i:Nat) (a b:Grant),gs[i]? = some a→gs[i + 1]? = some b→Op.bytesLess a.name b.name=true=>by rw [hh j a b ha hb] at h; cases h)]
 simp
theorem grantsB_no3 {gs:List Grant} (h:50 < (gs.length : Int)) : grantsB gs=false:=by
 unfold grantsB
 rw [decide_eq_false (p:=(gs.length : Int)≤50) (by omega)]; rfl
theorem grantsB_yes {gs:List Grant} (h1:∀ g∈gs,grantB g=true) (h2:∀ (i:Nat) (a b:Grant),gs[i]? = some a→gs[i + 1]? = some b→Op.bytesLess a.name b.name=true) : grantsB gs=decide ((gs.length : Int)≤50):=by
 unfold grantsB
 rw [decide_eq_true h1,@decide_eq_true _ (Classical.propDecidable _) h2,Bool.and_self,Bool.and_true]
theorem less_snoc {gs:List Grant} {i:Nat} {b:Grant} (hb:gs[i]? = some b) (hc:∀ (j:Nat) (x y:Grant),j + 1 < i→gs[j]? = some x→gs[j + 1]? = some y→Op.bytesLess x.name y.name=true) (h:0 < i → ∀ a,gs[i - 1]? = some a→Op.bytesLess a.name b.name=true) :
 ∀ (j:Nat) (x y:Grant),j + 1 < i + 1→gs[j]? = some x→gs[j + 1]? = some y→Op.bytesLess x.name y.name=true:=by
 intro j x y hj hx hy
 rcases Nat.lt_or_ge (j + 1) i with h' | h'
 ·exact hc j x y h' hx hy
 ·have : i=j + 1:=by omega
  subst this
  rw [hb] at hy
  cases hy
  exact h (by omega) x hx
theorem toNat_pred {i:Nat} : ((i:Int) - 1).toNat=i - 1:=by omega
variable [Bd]
theorem l1Has (xs:List (List UInt8)) (s:List UInt8) : Con P0 143 [eStringS xs,.s s] (.t (.b (decide (s∈xs)))) []:=by
 refine Con.intro (fn:=Tryz.f143) [.tmp 4] (fun _=>(0,[])) mixed (by kernel_rfl) rfl (by decide) rfl (by rfl) (by kernel_rfl) ?_
 simp -implicitDefEqProofs (maxSteps:=2000000) only [push_cast,zA,zB,zC,zD,zE,zF,zG,↓reduceIte,reduceCtorEq]
 refine WL.loop (ι:=Nat) (D:=(fun _=>(0,[]))) (fun i=>i≤xs.length∧∀ c∈xs.take i,c≠s) (fun i=>⟨18,[(0,.t (eStringS xs)),(1,.t (.s s)),(5,.t (.i .i64 i))],[]⟩) (fun i=>xs.length - i) mixed (by kernel_rfl) 0 ⟨by omega,by simp⟩ (Keep.wk (ids:=[]) ?_) ?_
 ·simp only [push_cast,zA,zB,zC,zD,zE,zF,zG,↓reduceIte,reduceCtorEq]<;>rfl
 ·rintro i ⟨hi,hc⟩
  simp -implicitDefEqProofs (maxSteps:=2000000) only [push_cast,zA,zB,zC,zD,zE,zF,zG,↓reduceIte,reduceCtorEq]
  intro _
  have:=Bd.hi
  split
  ·rename_i h
   refine ⟨by omega,fun a ha=>?_⟩
   rw [Int.toNat_natCast] at ha
   split
   ·rename_i he
    exact congrArg T.b (decide_eq_true (he ▸ List.mem_of_getElem? ha)).symm
   ·rename_i he
    refine ⟨by unfold inI64; omega,i + 1,⟨by omega,take_snoc ha hc he⟩,by omega,Keep.wk (ids:=[]) ?_⟩
    simp only [push_cast,zA,zB,zC,zD,zE,zF,zG,↓reduceIte,reduceCtorEq]<;>rfl
  ·rw [List.take_of_length_le (by omega)] at hc
   exact congrArg T.b (decide_eq_false fun hm=>hc s hm rfl).symm
theorem l1RefsOk (xs:List (List UInt8)) (own:List UInt8) : Con P0 117 [eStringS xs,.s own] (.t (.b (refsB xs own))) []:=by
 refine Con.intro (fn:=Tryz.f117) [.tmp 4] (fun i=>if i=6 then (24,[]) else (0,[])) mixed (by kernel_rfl) rfl (by decide) rfl (by rfl) (by kernel_rfl) ?_
 simp -implicitDefEqProofs (maxSteps:=2000000) only [push_cast,zA,zB,zC,zD,zE,zF,zG,↓reduceIte,reduceCtorEq]
 intro _
 refine iteI (fun h=>?_) (fun h=>?_)
 ·refine congrArg T.b ?_
  unfold refsB
  rw [decide_eq_false (by omega)]; rfl
 refine WL.loop (ι:=Nat) (D:=(fun i=>if i=6 then (24,[]) else (0,[]))) (fun i=>i≤xs.length∧(∀ x∈xs.take i,isW x=true∧x≠own)∧(xs.take i).Nodup) (fun i=>⟨39,[(0,.t (eStringS xs)),(1,.t (.s own)),(5,.t (.i .i64 i))],[]⟩) (fun i=>xs.length - i) mixed (by kernel_rfl) 0 ⟨by omega,by simp,by simp⟩ (Keep.wk (ids:=[]) ?_) ?_
 ·simp only [push_cast,zA,zB,zC,zD,zE,zF,zG,↓reduceIte,reduceCtorEq]<;>rfl
 ·rintro i ⟨hi,hc,hn⟩
  simp -implicitDefEqProofs (maxSteps:=2000000) only [push_cast,zA,zB,zC,zD,zE,zF,zG,↓reduceIte,reduceCtorEq]
  intro _
  have:=Bd.hi
  refine iteI (fun h=>?_) (fun h=>?_)
  ·refine ⟨by omega,fun a ha=>CallV.t (l1Word a) (.inl rfl) ?_⟩
   rw [Int.toNat_natCast] at ha
   simp -implicitDefEqProofs (maxSteps:=2000000) only [push_cast,zA,zB,zC,zD,zE,zF,zG,↓reduceIte,reduceCtorEq]
   have he : (Int.toNat 0)=0:=rfl
   rw [he,List.drop_zero,Int.toNat_natCast,← List.map_take]
   have no : ∀ {b:Bool},b=false→T.b false=T.b b:=fun h=>congrArg T.b h.symm
   refine iteI (fun h1=>?_) (fun h1=>?_)
   ·exact no (refsB_no1 (List.mem_of_getElem? ha) (by simp_all))
   refine ⟨by omega,fun a' ha'=>?_⟩
   rw [ha] at ha'; cases ha'
   refine iteI (fun h2=>?_) (fun h2=>?_)
   ·exact no (refsB_no1 (List.mem_of_getElem? ha) (by simp_all))
   refine ⟨by omega,by omega,fun a' ha'=>CallV.t (l1Has (xs.take i) a') (.inl rfl) ?_⟩
   rw [ha] at ha'; cases ha'
   simp -implicitDefEqProofs (maxSteps:=2000000) only [push_cast,zA,zB,zC,zD,zE,zF,zG,↓reduceIte,reduceCtorEq]
   refine iteI (fun h3=>?_) (fun h3=>?_)
   ·exact no (refsB_no2 ha h3)
   refine ⟨by unfold inI64; omega,i + 1,⟨by omega,take_snoc ha hc ⟨by simpa using h1,h2⟩,(nodup_snoc ha).2 ⟨hn,h3⟩⟩,by omega,Keep.wk (ids:=[]) ?_⟩
   simp only [push_cast,zA,zB,zC,zD,zE,zF,zG,↓reduceIte,reduceCtorEq]<;>rfl
  ·rw [List.take_of_length_le (by omega)] at hc hn
   refine congrArg T.b ?_
   unfold refsB
   rw [decide_eq_true (p:=((xs.length : Int)≤10)) (by omega),decide_eq_true hc,decide_eq_true hn]; rfl
theorem refsOk (xs:List (List UInt8)) (own:List UInt8) : Con P0 130 [eStringS xs,.s own] (.t (.b (refsB xs own))) []:=by
 refine Con.intro (fn:=Tryz.f130) [.tmp 4] (fun _=>(0,[])) mixed (by kernel_rfl) rfl (by decide) rfl (by rfl) (by kernel_rfl) ?_
 simp -implicitDefEqProofs (maxSteps:=2000000) only [push_cast,zA,zB,zC,zD,zE,zF,zG,↓reduceIte,reduceCtorEq]
 intro _
 refine iteI (fun h=>?_) (fun h=>?_)
 ·refine congrArg T.b ?_
  unfold refsB
  rw [decide_eq_false (by omega)]; rfl
 intro _
 refine WL.loop (ι:=Nat) (D:=(fun _=>(0,[]))) (fun i=>i≤xs.length∧(∀ x∈xs.take i,isW x=true∧x≠own)∧(xs.take i).Nodup) (fun i=>⟨40,[(0,.t (eStringS xs)),(1,.t (.s own)),(12,.t (eStringS xs)),(13,.t (.i .i64 xs.length)),(14,.t (.i .i64 i))],[]⟩) (fun i=>xs.length - i) mixed (by kernel_rfl) 0 ⟨by omega,by simp,by simp⟩ (Keep.wk (ids:=[]) ?_) ?_
 ·simp only [push_cast,zA,zB,zC,zD,zE,zF,zG,↓reduceIte,reduceCtorEq]<;>rfl
 ·rintro i ⟨hi,hc,hn⟩
  simp -implicitDefEqProofs (maxSteps:=2000000) only [push_cast,zA,zB,zC,zD,zE,zF,zG,↓reduceIte,reduceCtorEq]
  have:=Bd.hi
  refine iteI (fun h=>?_) (fun h=>?_)
  ·refine ⟨by omega,fun a ha=>Callx.closed (isWord a) rfl rfl (.inl rfl) ?_⟩
   rw [Int.toNat_natCast] at ha
   simp -implicitDefEqProofs (maxSteps:=2000000) only [push_cast,zA,zB,zC,zD,zE,zF,zG,↓reduceIte,reduceCtorEq]
   have no : ∀ {b:Bool},b=false→T.b false=T.b b:=fun h=>congrArg T.b h.symm
   refine iteI (fun h1=>?_) (fun h1=>?_)
   ·exact no (refsB_no1 (List.mem_of_getElem? ha) (by simp_all))
   refine iteI (fun h2=>?_) (fun h2=>?_)
   ·exact no (refsB_no1 (List.mem_of_getElem? ha) (by simp_all))
   have he : (Int.toNat 0)=0:=rfl
   rw [he,List.drop_zero,Int.toNat_natCast,← List.map_take]
   refine ⟨by omega,fun _=>?_⟩
   have hl : (xs.take i).length=i:=by rw [List.length_take]; omega
   refine WL.loop (ι:=Nat) (D:=(fun _=>(0,[]))) (fun j=>j≤i∧∀ c∈(xs.take i).take j,c≠a) (fun j=>⟨40,[(0,.t (eStringS xs)),(1,.t (.s own)),(12,.t (eStringS xs)),(13,.t (.i .i64 xs.length)),(14,.t (.i .i64 i)),(6,.t (.s a)),(29,.t (eStringS (xs.take i))),(30,.t (.i .i64 i)),(31,.t (.i .i64 j))],[]⟩) (fun j=>i - j) mixed (by kernel_rfl) 0 ⟨by omega,by simp⟩ (Keep.wk (ids:=[]) ?_) ?_
   ·simp only [push_cast,zA,zB,zC,zD,zE,zF,zG,↓reduceIte,reduceCtorEq,List.length_map,hl]<;>first | rfl | trivial
   rintro j ⟨hj,hcj⟩
   simp -implicitDefEqProofs (maxSteps:=2000000) only [push_cast,zA,zB,zC,zD,zE,zF,zG,↓reduceIte,reduceCtorEq]
   refine iteI (fun h3=>?_) (fun h3=>?_)
   ·refine ⟨by omega,fun b hb=>?_⟩
    rw [Int.toNat_natCast] at hb
    refine iteI (fun h4=>?_) (fun h4=>?_)
    ·exact no (refsB_no2 ha (h4 ▸ List.mem_of_getElem? hb))
    refine ⟨by unfold inI64; omega,j + 1,⟨by omega,take_snoc hb hcj fun e=>h4 e.symm⟩,by omega,Keep.wk (ids:=[]) ?_⟩
    simp only [push_cast,zA,zB,zC,zD,zE,zF,zG,↓reduceIte,reduceCtorEq]<;>rfl
   ·rw [List.take_of_length_le (by omega)] at hcj
    refine ⟨by unfold inI64; omega,i + 1,⟨by omega,take_snoc ha hc ⟨by simpa using h1,h2⟩,(nodup_snoc ha).2 ⟨hn,fun hm=>hcj a hm rfl⟩⟩,by omega,Keep.wk (ids:=[]) ?_⟩
    simp only [push_cast,zA,zB,zC,zD,zE,zF,zG,↓reduceIte,reduceCtorEq]<;>rfl
  ·rw [List.take_of_length_le (by omega)] at hc hn
   refine congrArg T.b ?_
   unfold refsB
   rw [decide_eq_true (p:=((xs.length : Int)≤10)) (by omega),decide_eq_true hc,decide_eq_true hn]; rfl
theorem l1NameOk (s:List UInt8) : Con P0 226 [.s s] (.t (.b (nameB s))) []:=by
 refine Con.intro (fn:=Tryz.f226) [.tmp 2] (fun _=>(0,[])) mixed (by kernel_rfl) rfl (by decide) rfl (by rfl) (by kernel_rfl) ?_
 simp -implicitDefEqProofs (maxSteps:=2000000) only [push_cast,zA,zB,zC,zD,zE,zF,zG,↓reduceIte,reduceCtorEq]
 intro _
 refine iteI (fun h=>?_) (fun h=>?_)
 ·refine ⟨by omega,fun c hc=>?_⟩
  obtain ⟨r,rfl⟩ : ∃ r,s=c :: r:=by
   cases s with
   | nil => cases hc
   | cons d r => simp at hc; subst hc; exact ⟨r,rfl⟩
  simp -implicitDefEqProofs (maxSteps:=2000000) only [push_cast,zA,zB,zC,zD,zE,zF,zG,↓reduceIte,reduceCtorEq]
  have hd : List.drop (Int.toNat 1) (List.take (c :: r).length (c :: r))=r:=by simp
  refine iteI (fun h1=>?_) (fun h1=>?_)
  ·refine ⟨by omega,?_⟩
   refine Callx.closed (l1Word r) (by simp) rfl (.inl rfl) ?_
   simp -implicitDefEqProofs (maxSteps:=2000000) only [push_cast,zA,zB,zC,zD,zE,zF,zG,↓reduceIte,reduceCtorEq]
   exact congrArg T.b (Eq.symm (if_pos (.inl h1)))
  ·refine ⟨by omega,fun c' hc'=>?_⟩
   simp at hc'
   subst hc'
   simp -implicitDefEqProofs (maxSteps:=2000000) only [push_cast,zA,zB,zC,zD,zE,zF,zG,↓reduceIte,reduceCtorEq]
   refine iteI (fun h2=>?_) (fun h2=>?_)
   ·refine ⟨by omega,?_⟩
    refine Callx.closed (l1Word r) (by simp) rfl (.inl rfl) ?_
    simp -implicitDefEqProofs (maxSteps:=2000000) only [push_cast,zA,zB,zC,zD,zE,zF,zG,↓reduceIte,reduceCtorEq]
    exact congrArg T.b (Eq.symm (if_pos (.inr h2)))
   ·refine Callx.closed (l1Word (c :: r)) rfl rfl (.inl rfl) ?_
    simp -implicitDefEqProofs (maxSteps:=2000000) only [push_cast,zA,zB,zC,zD,zE,zF,zG,↓reduceIte,reduceCtorEq]
    exact congrArg T.b (Eq.symm (if_neg (by omega)))
 ·have hs : s=[]:=by
   cases s with
   | nil => rfl
   | cons d r => exact absurd (by simp only [List.length_cons]; omega) h
  subst hs
  refine Callx.closed (l1Word []) rfl rfl (.inl rfl) ?_
  simp -implicitDefEqProofs (maxSteps:=2000000) only [push_cast,zA,zB,zC,zD,zE,zF,zG,↓reduceIte,reduceCtorEq]
  rfl
theorem l1GrantsOk (gs:List Grant) : Con P0 187 [eGrantS gs] (.t (.b (grantsB gs))) []:=by
 refine Con.intro (fn:=Tryz.f187) [.tmp 2] (fun i=>if i=6 then (16,[]) else (0,[])) mixed (by kernel_rfl) rfl (by decide) rfl (by rfl) (by kernel_rfl) ?_
 simp -implicitDefEqProofs (maxSteps:=2000000) only [push_cast,zA,zB,zC,zD,zE,zF,zG,↓reduceIte,reduceCtorEq]
 have no : ∀ {b:Bool},b=false→T.b false=T.b b:=fun h=>congrArg T.b h.symm
 refine WL.loop (ι:=Nat) (D:=(fun i=>if i=6 then (16,[]) else (0,[]))) (fun i=>i≤gs.length∧(∀ g∈gs.take i,grantB g=true)∧∀ (j:Nat) (x y:Grant),j + 1 < i→gs[j]? = some x→gs[j + 1]? = some y→Op.bytesLess x.name y.name=true) (fun i=>⟨52,[(0,.t (eGrantS gs)),(3,.t (.i .i64 i))],[]⟩) (fun i=>gs.length - i) mixed (by kernel_rfl) 0 ⟨by omega,by simp,fun j x y hj=>absurd hj (by omega)⟩ (Keep.wk (ids:=[]) ?_) ?_
 ·simp only [push_cast,zA,zB,zC,zD,zE,zF,zG,↓reduceIte,reduceCtorEq]<;>rfl
 ·rintro i ⟨hi,hc,ho⟩
  simp -implicitDefEqProofs (maxSteps:=2000000) only [push_cast,zA,zB,zC,zD,zE,zF,zG,↓reduceIte,reduceCtorEq,eGrant]
  intro _
  have:=Bd.hi
  refine iteI (fun h=>?_) (fun h=>?_)
  ·refine ⟨by omega,fun a ha=>Callx.closed (l1NameOk a.name) rfl rfl (.inl rfl) ?_⟩
   rw [Int.toNat_natCast] at ha
   simp -implicitDefEqProofs (maxSteps:=2000000) only [push_cast,zA,zB,zC,zD,zE,zF,zG,↓reduceIte,reduceCtorEq,eGrant]
   have bad : ¬ grantB a=true→grantsB gs=false:=fun h=>grantsB_no1 (List.mem_of_getElem? ha) h
   refine iteI (fun h1=>no (bad ?_)) (fun h1=>⟨by omega,fun a' ha'=>?_⟩)
   ·unfold grantB; simp only [Bool.not_eq_true'] at h1; rw [h1]; simp
   rw [Int.toNat_natCast,ha] at ha'; cases ha'
   refine iteI (fun h2=>no (bad ?_)) (fun h2=>⟨by omega,fun a' ha'=>?_⟩)
   ·unfold grantB; rw [decide_eq_false (p:=-1000000≤a.level) (by omega)]; simp
   rw [Int.toNat_natCast,ha] at ha'; cases ha'
   refine iteI (fun h3=>no (bad ?_)) (fun h3=>?_)
   ·unfold grantB; rw [decide_eq_false (p:=a.level≤1000000) (by omega)]; simp
   have good : grantB a=true:=by
    unfold grantB
    rw [decide_eq_true (p:=-1000000≤a.level) (by omega),decide_eq_true (p:=a.level≤1000000) (by omega)]
    simpa using h1
   refine iteI (fun h4=>⟨by unfold inI64; omega,by omega,fun b hb=>⟨by omega,fun a' ha'=>?_⟩⟩) (fun h4=>?_)
   ·rw [Int.toNat_natCast,ha] at ha'; cases ha'
    rw [toNat_pred] at hb
    cases hl : Op.bytesLess b.name a.name with
    | false =>
      refine no (grantsB_no2 hb (by rw [show i - 1 + 1=i by omega]; exact ha) hl)
    | true =>
      simp only [Bool.not_true,Bool.false_eq_true,if_false]
      refine ⟨by unfold inI64; omega,i + 1,⟨by omega,take_snoc ha hc good,less_snoc ha ho fun _ x hx=>by rw [hb] at hx; cases hx; exact hl⟩,by omega,Keep.wk (ids:=[]) ?_⟩
      simp only [push_cast,zA,zB,zC,zD,zE,zF,zG,↓reduceIte,reduceCtorEq]<;>rfl
   ·refine ⟨by unfold inI64; omega,i + 1,⟨by omega,take_snoc ha hc good,less_snoc ha ho fun h0=>absurd h0 (by omega)⟩,by omega,Keep.wk (ids:=[]) ?_⟩
    simp only [push_cast,zA,zB,zC,zD,zE,zF,zG,↓reduceIte,reduceCtorEq]<;>rfl
  ·rw [List.take_of_length_le (by omega)] at hc
   intro _
   exact congrArg T.b (grantsB_yes hc fun j x y hx hy=>ho j x y (by have:=(List.getElem?_eq_some_iff.1 hy).1; omega) hx hy).symm
theorem grantsOk (gs:List Grant) : Con P0 312 [eGrantS gs] (.t (.b (grantsB gs))) []:=by
 refine Con.intro (fn:=Tryz.f312) [.tmp 2] (fun i=>if i=9 then (28,[]) else (0,[])) mixed (by kernel_rfl) rfl (by decide) rfl (by rfl) (by kernel_rfl) ?_
 simp -implicitDefEqProofs (maxSteps:=2000000) only [push_cast,zA,zB,zC,zD,zE,zF,zG,↓reduceIte,reduceCtorEq]
 have no : ∀ {b:Bool},b=false→T.b false=T.b b:=fun h=>congrArg T.b h.symm
 intro _
 refine iteI (fun h=>no (grantsB_no3 h)) (fun h=>?_)
 intro _
 refine WL.loop (ι:=Nat) (D:=(fun i=>if i=9 then (28,[]) else (0,[]))) (fun i=>i≤gs.length∧(∀ g∈gs.take i,grantB g=true)∧∀ (j:Nat) (x y:Grant),j + 1 < i→gs[j]? = some x→gs[j + 1]? = some y→Op.bytesLess x.name y.name=true) (fun i=>⟨61,[(0,.t (eGrantS gs)),(9,.t (eGrantS gs)),(10,.t (.i .i64 gs.length)),(11,.t (.i .i64 i))],[]⟩) (fun i=>gs.length - i) mixed (by kernel_rfl) 0 ⟨by omega,by simp,fun j x y hj=>absurd hj (by omega)⟩ (Keep.wk (ids:=[]) ?_) ?_
 ·simp only [push_cast,zA,zB,zC,zD,zE,zF,zG,↓reduceIte,reduceCtorEq]<;>rfl
 ·rintro i ⟨hi,hc,ho⟩
  simp -implicitDefEqProofs (maxSteps:=2000000) only [push_cast,zA,zB,zC,zD,zE,zF,zG,↓reduceIte,reduceCtorEq,eGrant]
  have:=Bd.hi
  refine iteI (fun h=>?_) (fun h=>?_)
  ·refine ⟨by omega,fun a ha=>?_⟩
   rw [Int.toNat_natCast] at ha
   have bad : ¬ grantB a=true→grantsB gs=false:=fun h=>grantsB_no1 (List.mem_of_getElem? ha) h
   obtain ⟨nm,lv⟩:=a
   have mk : nameB nm=true → ¬ lv < -1000000 → ¬ 1000000 < lv→grantB ⟨nm,lv⟩=true:=by
    intro q1 q2 q3
    unfold grantB
    rw [q1,decide_eq_true (p:=-1000000≤lv) (by omega),decide_eq_true (p:=lv≤1000000) (by omega)]; rfl
   cases nm with
   | nil =>
     simp -implicitDefEqProofs (maxSteps:=2000000) only [push_cast,zA,zB,zC,zD,zE,zF,zG,↓reduceIte,reduceCtorEq,eGrant]
     refine CallV.t (isWord []) (.inl rfl) ?_
     simp -implicitDefEqProofs (maxSteps:=2000000) only [push_cast,zA,zB,zC,zD,zE,zF,zG,↓reduceIte,reduceCtorEq]
     refine iteI (fun h1=>no (bad ?_)) (fun h1=>absurd rfl h1)
     unfold grantB nameB isW
     simp
   | cons c r =>
   simp -implicitDefEqProofs (maxSteps:=2000000) only [push_cast,zA,zB,zC,zD,zE,zF,zG,↓reduceIte,reduceCtorEq,eGrant]
   refine ⟨by omega,fun c' hc'=>?_⟩
   simp only [Int.toNat_zero,List.getElem?_cons_zero,Option.some.injEq] at hc'
   subst hc'
   simp -implicitDefEqProofs (maxSteps:=2000000) only [push_cast,zA,zB,zC,zD,zE,zF,zG,↓reduceIte,reduceCtorEq,eGrant]
   have hd : List.drop (Int.toNat 1) (List.take ((r.length : Int) + 1).toNat (c :: r))=r:=by
    rw [show ((r.length : Int) + 1).toNat=(c :: r).length by simp only [List.length_cons]; omega,List.take_length]; rfl
   refine iteI (fun k1=>⟨by omega,?_⟩) (fun k1=>⟨by omega,fun c' hc'=>?_⟩)
   ·rw [hd]
    have hw : isW r=nameB (c :: r):=(if_pos (.inl k1)).symm
    refine CallV.t (isWord r) (.inl rfl) ?_
    simp -implicitDefEqProofs (maxSteps:=2000000) only [push_cast,zA,zB,zC,zD,zE,zF,zG,↓reduceIte,reduceCtorEq,eGrant]
    rw [hw]
    refine iteI (fun h1=>no (bad ?_)) (fun h1=>?_)
    ·unfold grantB; simp only [Bool.not_eq_true'] at h1; rw [h1]; simp
    refine iteI (fun h2=>no (bad ?_)) (fun h2=>?_)
    ·unfold grantB; rw [decide_eq_false (p:=-1000000≤lv) (by omega)]; simp
    refine iteI (fun h3=>no (bad ?_)) (fun h3=>?_)
    ·unfold grantB; rw [decide_eq_false (p:=lv≤1000000) (by omega)]; simp
    have good:=mk (by simpa using h1) h2 h3
    refine iteI (fun h4=>⟨by unfold inI64; omega,by omega,fun b hb=>?_⟩) (fun h4=>?_)
    ·rw [toNat_pred] at hb
     cases hl : Op.bytesLess b.name (c :: r) with
     | false =>
       refine no (grantsB_no2 hb (by rw [show i - 1 + 1=i by omega]; exact ha) hl)
     | true =>
       simp only [Bool.not_true,Bool.false_eq_true,if_false]
       refine ⟨by unfold inI64; omega,i + 1,⟨by omega,take_snoc ha hc good,less_snoc ha ho fun _ x hx=>by rw [hb] at hx; cases hx; exact hl⟩,by omega,Keep.wk (ids:=[]) ?_⟩
       simp only [push_cast,zA,zB,zC,zD,zE,zF,zG,↓reduceIte,reduceCtorEq]<;>rfl
    ·refine ⟨by unfold inI64; omega,i + 1,⟨by omega,take_snoc ha hc good,less_snoc ha ho fun h0=>absurd h0 (by omega)⟩,by omega,Keep.wk (ids:=[]) ?_⟩
     simp only [push_cast,zA,zB,zC,zD,zE,zF,zG,↓reduceIte,reduceCtorEq]<;>rfl
   simp only [Int.toNat_zero,List.getElem?_cons_zero,Option.some.injEq] at hc'
   subst hc'
   simp -implicitDefEqProofs (maxSteps:=2000000) only [push_cast,zA,zB,zC,zD,zE,zF,zG,↓reduceIte,reduceCtorEq,eGrant]
   refine iteI (fun k2=>⟨by omega,?_⟩) (fun k2=>?_)
   ·rw [hd]
    have hw : isW r=nameB (c :: r):=(if_pos (.inr k2)).symm
    refine CallV.t (isWord r) (.inl rfl) ?_
    simp -implicitDefEqProofs (maxSteps:=2000000) only [push_cast,zA,zB,zC,zD,zE,zF,zG,↓reduceIte,reduceCtorEq,eGrant]
    rw [hw]
    refine iteI (fun h1=>no (bad ?_)) (fun h1=>?_)
    ·unfold grantB; simp only [Bool.not_eq_true'] at h1; rw [h1]; simp
    refine iteI (fun h2=>no (bad ?_)) (fun h2=>?_)
    ·unfold grantB; rw [decide_eq_false (p:=-1000000≤lv) (by omega)]; simp
    refine iteI (fun h3=>no (bad ?_)) (fun h3=>?_)
    ·unfold grantB; rw [decide_eq_false (p:=lv≤1000000) (by omega)]; simp
    have good:=mk (by simpa using h1) h2 h3
    refine iteI (fun h4=>⟨by unfold inI64; omega,by omega,fun b hb=>?_⟩) (fun h4=>?_)
    ·rw [toNat_pred] at hb
     cases hl : Op.bytesLess b.name (c :: r) with
     | false =>
       refine no (grantsB_no2 hb (by rw [show i - 1 + 1=i by omega]; exact ha) hl)
     | true =>
       simp only [Bool.not_true,Bool.false_eq_true,if_false]
       refine ⟨by unfold inI64; omega,i + 1,⟨by omega,take_snoc ha hc good,less_snoc ha ho fun _ x hx=>by rw [hb] at hx; cases hx; exact hl⟩,by omega,Keep.wk (ids:=[]) ?_⟩
       simp only [push_cast,zA,zB,zC,zD,zE,zF,zG,↓reduceIte,reduceCtorEq]<;>rfl
    ·refine ⟨by unfold inI64; omega,i + 1,⟨by omega,take_snoc ha hc good,less_snoc ha ho fun h0=>absurd h0 (by omega)⟩,by omega,Keep.wk (ids:=[]) ?_⟩
     simp only [push_cast,zA,zB,zC,zD,zE,zF,zG,↓reduceIte,reduceCtorEq]<;>rfl
   ·have hw : isW (c :: r)=nameB (c :: r):=(if_neg (by omega)).symm
    refine CallV.t (isWord (c :: r)) (.inl rfl) ?_
    simp -implicitDefEqProofs (maxSteps:=2000000) only [push_cast,zA,zB,zC,zD,zE,zF,zG,↓reduceIte,reduceCtorEq,eGrant]
    rw [hw]
    refine iteI (fun h1=>no (bad ?_)) (fun h1=>?_)
    ·unfold grantB; simp only [Bool.not_eq_true'] at h1; rw [h1]; simp
    refine iteI (fun h2=>no (bad ?_)) (fun h2=>?_)
    ·unfold grantB; rw [decide_eq_false (p:=-1000000≤lv) (by omega)]; simp
    refine iteI (fun h3=>no (bad ?_)) (fun h3=>?_)
    ·unfold grantB; rw [decide_eq_false (p:=lv≤1000000) (by omega)]; simp
    have good:=mk (by simpa using h1) h2 h3
    refine iteI (fun h4=>⟨by unfold inI64; omega,by omega,fun b hb=>?_⟩) (fun h4=>?_)
    ·rw [toNat_pred] at hb
     cases hl : Op.bytesLess b.name (c :: r) with
     | false =>
       refine no (grantsB_no2 hb (by rw [show i - 1 + 1=i by omega]; exact ha) hl)
     | true =>
       simp only [Bool.not_true,Bool.false_eq_true,if_false]
       refine ⟨by unfold inI64; omega,i + 1,⟨by omega,take_snoc ha hc good,less_snoc ha ho fun _ x hx=>by rw [hb] at hx; cases hx; exact hl⟩,by omega,Keep.wk (ids:=[]) ?_⟩
       simp only [push_cast,zA,zB,zC,zD,zE,zF,zG,↓reduceIte,reduceCtorEq]<;>rfl
    ·refine ⟨by unfold inI64; omega,i + 1,⟨by omega,take_snoc ha hc good,less_snoc ha ho fun h0=>absurd h0 (by omega)⟩,by omega,Keep.wk (ids:=[]) ?_⟩
     simp only [push_cast,zA,zB,zC,zD,zE,zF,zG,↓reduceIte,reduceCtorEq]<;>rfl
  ·rw [List.take_of_length_le (by omega)] at hc
   rw [grantsB_yes hc fun j x y hx hy=>ho j x y (by have:=(List.getElem?_eq_some_iff.1 hy).1; omega) hx hy,decide_eq_true (by omega)]
def eHd (p:Bool) (v:List UInt8) (g:List Grant) (o:Bool) : List T:=[.b p,.s v,eGrantS g,.b o]
theorem bare (p:Bool) (v:List UInt8) (g:List Grant) (o:Bool) : Con P0 307 [.ag (eHd p v g o)] (.t (.b (p && decide ((g.length : Int)=0)))) []:=by
 refine Con.intro (fn:=Tryz.f307) [.tmp 2] (fun _=>(0,[])) mixed (by kernel_rfl) rfl (by decide) rfl (by rfl) (by kernel_rfl) ?_
 simp -implicitDefEqProofs (maxSteps:=2000000) only [push_cast,zA,zB,zC,zD,zE,zF,zG,↓reduceIte,reduceCtorEq,eHd]
 cases p<;>simp -implicitDefEqProofs (maxSteps:=2000000) only [push_cast,zA,zB,zC,zD,zE,zF,zG,↓reduceIte,reduceCtorEq]
 all_goals first | trivial | exact fun _=>trivial
theorem createFits (p:Bool) (v:List UInt8) (g:List Grant) (o:Bool) : Con P0 308 [.ag (eHd p v g o)] (.t (.b ((p && decide ((g.length : Int)=0)) && decide (v=[]) && !o))) []:=by
 refine Con.intro (fn:=Tryz.f308) [.tmp 2] (fun _=>(0,[])) mixed (by kernel_rfl) rfl (by decide) rfl (by rfl) (by kernel_rfl) ?_
 simp -implicitDefEqProofs (maxSteps:=2000000) only [push_cast,zA,zB,zC,zD,zE,zF,zG,↓reduceIte,reduceCtorEq,eHd]
 refine Callx.closed (bare p v g o) rfl rfl (.inl rfl) ?_
 simp -implicitDefEqProofs (maxSteps:=2000000) only [push_cast,zA,zB,zC,zD,zE,zF,zG,↓reduceIte,reduceCtorEq,eHd]
 cases p && decide ((g.length : Int)=0)<;>simp -implicitDefEqProofs (maxSteps:=2000000) only [push_cast,zA,zB,zC,zD,zE,zF,zG,↓reduceIte,reduceCtorEq]
 repeat' first | refine iteI (fun _=>?_) (fun _=>?_) | intro _
 all_goals first
  | rfl
  | (refine congrArg T.b ?_; simp_all)
theorem memberFits (p:Bool) (v:List UInt8) (g:List Grant) (o st:Bool) (k:List UInt8) : Con P0 309 [.ag (eHd p v g o ++ [.b st,.s k])] (.t (.b (st && decide (¬ k=[]) && decide ((g.length : Int)=0) && decide (v∈[sJoin,sInvite,sLeave,sBan])))) []:=by
 refine Con.intro (fn:=Tryz.f309) [.tmp 2] (fun _=>(0,[])) mixed (by kernel_rfl) rfl (by decide) rfl (by rfl) (by kernel_rfl) ?_
 simp -implicitDefEqProofs (maxSteps:=2000000) only [push_cast,zA,zB,zC,zD,zE,zF,zG,↓reduceIte,reduceCtorEq,eHd]
 repeat' first | refine iteI (fun _=>?_) (fun _=>?_) | intro _
 all_goals first
  | rfl
  | (refine congrArg T.b ?_; simp_all [sJoin,sInvite,sLeave,sBan])
theorem joinFits (p:Bool) (v:List UInt8) (g:List Grant) (o:Bool) : Con P0 310 [.ag (eHd p v g o)] (.t (.b ((p && decide ((g.length : Int)=0)) && decide (v∈[sPublic,sInvite])))) []:=by
 refine Con.intro (fn:=Tryz.f310) [.tmp 2] (fun _=>(0,[])) mixed (by kernel_rfl) rfl (by decide) rfl (by rfl) (by kernel_rfl) ?_
 simp -implicitDefEqProofs (maxSteps:=2000000) only [push_cast,zA,zB,zC,zD,zE,zF,zG,↓reduceIte,reduceCtorEq,eHd]
 refine Callx.closed (bare p v g o) rfl rfl (.inl rfl) ?_
 simp -implicitDefEqProofs (maxSteps:=2000000) only [push_cast,zA,zB,zC,zD,zE,zF,zG,↓reduceIte,reduceCtorEq,eHd]
 cases p && decide ((g.length : Int)=0)<;>simp -implicitDefEqProofs (maxSteps:=2000000) only [push_cast,zA,zB,zC,zD,zE,zF,zG,↓reduceIte,reduceCtorEq]
 repeat' first | refine iteI (fun _=>?_) (fun _=>?_) | intro _
 all_goals first
  | rfl
  | (refine congrArg T.b ?_; simp_all [sPublic,sInvite])
theorem powerFits (p:Bool) (v:List UInt8) (g:List Grant) (o:Bool) : Con P0 311 [.ag (eHd p v g o)] (.t (.b (p && decide (v=[]) && grantsB g))) []:=by
 refine Con.intro (fn:=Tryz.f311) [.tmp 2] (fun _=>(0,[])) mixed (by kernel_rfl) rfl (by decide) rfl (by rfl) (by kernel_rfl) ?_
 simp -implicitDefEqProofs (maxSteps:=2000000) only [push_cast,zA,zB,zC,zD,zE,zF,zG,↓reduceIte,reduceCtorEq,eHd]
 refine iteI (fun h1=>iteI (fun h2=>?_) (fun h2=>?_)) (fun h1=>?_)
 ·refine Callx.closed (grantsOk g) rfl rfl (.inl rfl) ?_
  simp -implicitDefEqProofs (maxSteps:=2000000) only [push_cast,zA,zB,zC,zD,zE,zF,zG,↓reduceIte,reduceCtorEq]
  simp [h1,h2]
 ·simp [h2]
 ·simp [h1]
theorem otherFits (p:Bool) (v:List UInt8) (g:List Grant) (o:Bool) : Con P0 313 [.ag (eHd p v g o)] (.t (.b (decide ((g.length : Int)=0) && (decide (v=[]) || isW v)))) []:=by
 refine Con.intro (fn:=Tryz.f313) [.tmp 2] (fun _=>(0,[])) mixed (by kernel_rfl) rfl (by decide) rfl (by rfl) (by kernel_rfl) ?_
 simp -implicitDefEqProofs (maxSteps:=2000000) only [push_cast,zA,zB,zC,zD,zE,zF,zG,↓reduceIte,reduceCtorEq,eHd]
 intro _
 refine iteI (fun h1=>iteI (fun h2=>?_) (fun h2=>?_)) (fun h1=>?_)
 ·simp [h1,h2]
 ·refine Callx.closed (isWord v) rfl rfl (.inl rfl) ?_
  simp -implicitDefEqProofs (maxSteps:=2000000) only [push_cast,zA,zB,zC,zD,zE,zF,zG,↓reduceIte,reduceCtorEq]
  simp [h1,h2]
 ·rw [decide_eq_false h1]; rfl
@[push_cast] theorem meth_c : methOf P0 232 "loop.example/s01366/impl.fits" = some 308:=by kernel_rfl
@[push_cast] theorem meth_m : methOf P0 234 "loop.example/s01366/impl.fits" = some 309:=by kernel_rfl
@[push_cast] theorem meth_j : methOf P0 235 "loop.example/s01366/impl.fits" = some 310:=by kernel_rfl
@[push_cast] theorem meth_p : methOf P0 236 "loop.example/s01366/impl.fits" = some 311:=by kernel_rfl
@[push_cast] theorem meth_o : methOf P0 237 "loop.example/s01366/impl.fits" = some 313:=by kernel_rfl
@[push_cast] theorem conc_c : P0.concrete 232=true:=by kernel_rfl
@[push_cast] theorem conc_m : P0.concrete 234=true:=by kernel_rfl
@[push_cast] theorem conc_j : P0.concrete 235=true:=by kernel_rfl
@[push_cast] theorem conc_p : P0.concrete 236=true:=by kernel_rfl
@[push_cast] theorem conc_o : P0.concrete 237=true:=by kernel_rfl
def eHdE (e:Event) : List T:=eHd (e.isState && decide (e.key=[])) e.value e.grants (decide (0 < (e.prev.length : Int) + e.auth.length))
def contT (e:Event) : T :=
 if e.typ=sCreate then .ifc 232 (.ag (eHdE e)) else if e.typ=sMember then .ifc 234 (.ag (eHdE e ++ [.b e.isState,.s e.key]))
 else if e.typ=sRules then .ifc 235 (.ag (eHdE e)) else if e.typ=sPower then .ifc 236 (.ag (eHdE e)) else .ifc 237 (.ag (eHdE e))
theorem contentOf (e:Event) (hB:Bd.B≤2147483648) : Con P0 131 [eEvent e] (.t (contT e)) []:=by
 refine Con.intro (fn:=Tryz.f131) [.tmp 2] (fun _=>(0,[])) mixed (by kernel_rfl) rfl (by decide) rfl (by rfl) (by kernel_rfl) ?_
 simp -implicitDefEqProofs (maxSteps:=2000000) only [push_cast,zA,zB,zC,zD,zE,zF,zG,↓reduceIte,reduceCtorEq,eEvent]
 refine iteI (fun h=>?_) (fun h=>?_) <;>
 ·intro _ _
  refine ⟨by unfold inI64; omega,?_⟩
  unfold contT eHdE eHd
  repeat' refine iteI (fun _=>?_) (fun _=>?_)
  all_goals simp [*,sCreate,sMember,sRules,sPower]
theorem l1ContentOk (e:Event) : Con P0 118 [eEvent e] (.t (.b (contentB e))) []:=by
 refine Con.intro (fn:=Tryz.f118) [.tmp 2] (fun _=>(0,[])) mixed (by kernel_rfl) rfl (by decide) rfl (by rfl) (by kernel_rfl) ?_
 simp -implicitDefEqProofs (maxSteps:=2000000) only [push_cast,zA,zB,zC,zD,zE,zF,zG,↓reduceIte,reduceCtorEq,eEvent]
 have:=Bd.lo
 repeat' first | refine iteI (fun _=>?_) (fun _=>?_) | intro _
 all_goals first
  | (refine congrArg T.b ?_; unfold contentB; simp_all [sCreate,sMember,sRules,sPower]; done)
  | (refine ⟨rfl,by omega,Callx.closed (l1Has [sJoin,sInvite,sLeave,sBan] e.value) rfl rfl (.inr ⟨rfl,rfl⟩) ?_⟩
     simp -implicitDefEqProofs (maxSteps:=2000000) only [push_cast,zA,zB,zC,zD,zE,zF,zG,↓reduceIte,reduceCtorEq]
     refine congrArg T.b ?_
     unfold contentB
     simp_all [sCreate,sMember,sRules,sPower])
  | (refine ⟨rfl,by omega,Callx.closed (l1Has [sPublic,sInvite] e.value) rfl rfl (.inr ⟨rfl,rfl⟩) ?_⟩
     simp -implicitDefEqProofs (maxSteps:=2000000) only [push_cast,zA,zB,zC,zD,zE,zF,zG,↓reduceIte,reduceCtorEq]
     refine congrArg T.b ?_
     unfold contentB
     simp_all [sCreate,sMember,sRules,sPower])
  | (refine Callx.closed (l1GrantsOk e.grants) rfl rfl (.inl rfl) ?_
     simp -implicitDefEqProofs (maxSteps:=2000000) only [push_cast,zA,zB,zC,zD,zE,zF,zG,↓reduceIte,reduceCtorEq]
     refine congrArg T.b ?_
     unfold contentB
     simp_all [sCreate,sMember,sRules,sPower])
  | (refine Callx.closed (l1Word e.value) rfl rfl (.inl rfl) ?_
     simp -implicitDefEqProofs (maxSteps:=2000000) only [push_cast,zA,zB,zC,zD,zE,zF,zG,↓reduceIte,reduceCtorEq]
     refine congrArg T.b ?_
     unfold contentB
     simp_all [sCreate,sMember,sRules,sPower])
theorem specEventOk (e:Event) : Con P0 61 [eEvent e] (.t (.i .i64 (evOk e))) []:=by
 refine Con.intro (fn:=Tryz.f61) [.tmp 2] (fun _=>(0,[])) mixed (by kernel_rfl) rfl (by decide) rfl (by rfl) (by kernel_rfl) ?_
 simp -implicitDefEqProofs (maxSteps:=2000000) only [push_cast,zA,zB,zC,zD,zE,zF,zG,↓reduceIte,reduceCtorEq,eEvent]
 have leaf : ∀ {n:Int},evOk e=n→T.i .i64 n=T.i .i64 (evOk e):=fun h=>congrArg (T.i .i64) h.symm
 refine Callx.closed (l1Word e.id) rfl rfl (.inl rfl) ?_
 simp -implicitDefEqProofs (maxSteps:=2000000) only [push_cast,zA,zB,zC,zD,zE,zF,zG,↓reduceIte,reduceCtorEq,eEvent]
 refine iteI (fun h1=>leaf (if_pos (by simp_all))) (fun h1=>?_)
 refine Callx.closed (l1Word e.sender) rfl rfl (.inl rfl) ?_
 simp -implicitDefEqProofs (maxSteps:=2000000) only [push_cast,zA,zB,zC,zD,zE,zF,zG,↓reduceIte,reduceCtorEq,eEvent]
 refine iteI (fun h2=>leaf (if_pos (by simp_all))) (fun h2=>?_)
 refine Callx.closed (l1Word e.typ) rfl rfl (.inl rfl) ?_
 simp -implicitDefEqProofs (maxSteps:=2000000) only [push_cast,zA,zB,zC,zD,zE,zF,zG,↓reduceIte,reduceCtorEq,eEvent]
 refine iteI (fun h3=>leaf (if_pos (by simp_all))) (fun h3=>?_)
 have e1 : evOk e=ev2 e:=if_neg (by simp_all)
 refine iteI (fun k1=>?_) (fun k1=>?_)
 ·refine iteI (fun k2=>leaf (e1.trans (if_pos (by simp_all)))) (fun k2=>?_)
  refine Callx.closed (l1Word e.key) rfl rfl (.inl rfl) ?_
  simp -implicitDefEqProofs (maxSteps:=2000000) only [push_cast,zA,zB,zC,zD,zE,zF,zG,↓reduceIte,reduceCtorEq,eEvent]
  refine iteI (fun k3=>leaf (e1.trans (if_pos (by simp_all)))) (fun k3=>?_)
  have e2 : evOk e=ev3 e:=e1.trans (if_neg (by simp_all))
  refine iteI (fun h5=>leaf (e2.trans (if_pos (.inl h5)))) (fun h5=>iteI (fun h6=>leaf (e2.trans (if_pos (.inr h6)))) (fun h6=>?_))
  have e3 : evOk e=ev4 e:=e2.trans (if_neg (by omega))
  refine Callx.closed (l1RefsOk e.prev e.id) rfl rfl (.inl rfl) ?_
  simp -implicitDefEqProofs (maxSteps:=2000000) only [push_cast,zA,zB,zC,zD,zE,zF,zG,↓reduceIte,reduceCtorEq,eEvent]
  refine iteI (fun h7=>leaf (e3.trans (if_pos (by simp_all)))) (fun h7=>?_)
  refine Callx.closed (l1RefsOk e.auth e.id) rfl rfl (.inl rfl) ?_
  simp -implicitDefEqProofs (maxSteps:=2000000) only [push_cast,zA,zB,zC,zD,zE,zF,zG,↓reduceIte,reduceCtorEq,eEvent]
  refine iteI (fun h8=>leaf (e3.trans (if_pos (by simp_all)))) (fun h8=>?_)
  have e4 : evOk e=ev5 e:=e3.trans (if_neg (by simp_all))
  refine Callx.closed (l1ContentOk e) rfl rfl (.inl rfl) ?_
  simp -implicitDefEqProofs (maxSteps:=2000000) only [push_cast,zA,zB,zC,zD,zE,zF,zG,↓reduceIte,reduceCtorEq,eEvent]
  exact iteI (fun h9=>leaf (e4.trans (if_pos (by simp_all)))) (fun h9=>leaf (e4.trans (if_neg (by simp_all))))
 ·have e2 : evOk e=ev3 e:=e1.trans (if_neg (by simp_all))
  refine iteI (fun h5=>leaf (e2.trans (if_pos (.inl h5)))) (fun h5=>iteI (fun h6=>leaf (e2.trans (if_pos (.inr h6)))) (fun h6=>?_))
  have e3 : evOk e=ev4 e:=e2.trans (if_neg (by omega))
  refine Callx.closed (l1RefsOk e.prev e.id) rfl rfl (.inl rfl) ?_
  simp -implicitDefEqProofs (maxSteps:=2000000) only [push_cast,zA,zB,zC,zD,zE,zF,zG,↓reduceIte,reduceCtorEq,eEvent]
  refine iteI (fun h7=>leaf (e3.trans (if_pos (by simp_all)))) (fun h7=>?_)
  refine Callx.closed (l1RefsOk e.auth e.id) rfl rfl (.inl rfl) ?_
  simp -implicitDefEqProofs (maxSteps:=2000000) only [push_cast,zA,zB,zC,zD,zE,zF,zG,↓reduceIte,reduceCtorEq,eEvent]
  refine iteI (fun h8=>leaf (e3.trans (if_pos (by simp_all)))) (fun h8=>?_)
  have e4 : evOk e=ev5 e:=e3.trans (if_neg (by simp_all))
  refine Callx.closed (l1ContentOk e) rfl rfl (.inl rfl) ?_
  simp -implicitDefEqProofs (maxSteps:=2000000) only [push_cast,zA,zB,zC,zD,zE,zF,zG,↓reduceIte,reduceCtorEq,eEvent]
  exact iteI (fun h9=>leaf (e4.trans (if_pos (by simp_all)))) (fun h9=>leaf (e4.trans (if_neg (by simp_all))))
theorem implEventOk (e:Event) (hB:Bd.B≤2147483648) : Con P0 69 [eEvent e] (.t (.i .i64 (evOk e))) []:=by
 refine Con.intro (fn:=Tryz.f69) [.tmp 2] (fun _=>(0,[])) mixed (by kernel_rfl) rfl (by decide) rfl (by rfl) (by kernel_rfl) ?_
 simp -implicitDefEqProofs (maxSteps:=2000000) only [push_cast,zA,zB,zC,zD,zE,zF,zG,↓reduceIte,reduceCtorEq,eEvent]
 have leaf : ∀ {n:Int},evOk e=n→T.i .i64 n=T.i .i64 (evOk e):=fun h=>congrArg (T.i .i64) h.symm
 refine Callx.closed (isWord e.id) rfl rfl (.inl rfl) ?_
 simp -implicitDefEqProofs (maxSteps:=2000000) only [push_cast,zA,zB,zC,zD,zE,zF,zG,↓reduceIte,reduceCtorEq,eEvent]
 refine iteI (fun h1=>leaf (if_pos (by simp_all))) (fun h1=>?_)
 refine Callx.closed (isWord e.sender) rfl rfl (.inl rfl) ?_
 simp -implicitDefEqProofs (maxSteps:=2000000) only [push_cast,zA,zB,zC,zD,zE,zF,zG,↓reduceIte,reduceCtorEq,eEvent]
 refine iteI (fun h2=>leaf (if_pos (by simp_all))) (fun h2=>?_)
 refine Callx.closed (isWord e.typ) rfl rfl (.inl rfl) ?_
 simp -implicitDefEqProofs (maxSteps:=2000000) only [push_cast,zA,zB,zC,zD,zE,zF,zG,↓reduceIte,reduceCtorEq,eEvent]
 refine iteI (fun h3=>leaf (if_pos (by simp_all))) (fun h3=>?_)
 have e1 : evOk e=ev2 e:=if_neg (by simp_all)
 refine iteI (fun k1=>?_) (fun k1=>?_)
 ·refine iteI (fun k2=>leaf (e1.trans (if_pos (by simp_all)))) (fun k2=>?_)
  refine Callx.closed (isWord e.key) rfl rfl (.inl rfl) ?_
  simp -implicitDefEqProofs (maxSteps:=2000000) only [push_cast,zA,zB,zC,zD,zE,zF,zG,↓reduceIte,reduceCtorEq,eEvent]
  refine iteI (fun k3=>leaf (e1.trans (if_pos (by simp_all)))) (fun k3=>?_)
  have e2 : evOk e=ev3 e:=e1.trans (if_neg (by simp_all))
  refine iteI (fun h5=>leaf (e2.trans (if_pos (.inl h5)))) (fun h5=>iteI (fun h6=>leaf (e2.trans (if_pos (.inr h6)))) (fun h6=>?_))
  have e3 : evOk e=ev4 e:=e2.trans (if_neg (by omega))
  refine Callx.closed (refsOk e.prev e.id) rfl rfl (.inl rfl) ?_
  simp -implicitDefEqProofs (maxSteps:=2000000) only [push_cast,zA,zB,zC,zD,zE,zF,zG,↓reduceIte,reduceCtorEq,eEvent]
  refine iteI (fun h7=>leaf (e3.trans (if_pos (by simp_all)))) (fun h7=>?_)
  refine Callx.closed (refsOk e.auth e.id) rfl rfl (.inl rfl) ?_
  simp -implicitDefEqProofs (maxSteps:=2000000) only [push_cast,zA,zB,zC,zD,zE,zF,zG,↓reduceIte,reduceCtorEq,eEvent]
  refine iteI (fun h8=>leaf (e3.trans (if_pos (by simp_all)))) (fun h8=>?_)
  have e4 : evOk e=ev5 e:=e3.trans (if_neg (by simp_all))
  refine Callx.closed (contentOf e hB) rfl rfl (.inl rfl) ?_
  have fin : ∀ b : Bool,b=contentB e→if (!b)=true then T.i .i64 5=T.i .i64 (evOk e) else T.i .i64 0=T.i .i64 (evOk e):=fun b hb=>iteI (fun h9=>leaf (e4.trans (if_pos (by simp_all)))) (fun h9=>leaf (e4.trans (if_neg (by simp_all))))
  have hpos : (!decide (0 < (e.prev.length : Int) + e.auth.length))=(decide ((e.prev.length : Int)=0) && decide ((e.auth.length : Int)=0)):=by
   rw [Bool.eq_iff_iff]
   simp only [Bool.not_eq_true',decide_eq_false_iff_not,Bool.and_eq_true,decide_eq_true_eq]
   omega
  by_cases q1 : e.typ=sCreate
  ·have hc : contT e = .ifc 232 (.ag (eHdE e)):=by unfold contT; rw [if_pos q1]
   simp -implicitDefEqProofs (maxSteps:=2000000) only [push_cast,zA,zB,zC,zD,zE,zF,zG,↓reduceIte,reduceCtorEq,hc,eHdE]
   refine CallV.t (createFits _ _ _ _) (.inl rfl) ?_
   simp -implicitDefEqProofs (maxSteps:=2000000) only [push_cast,zA,zB,zC,zD,zE,zF,zG,↓reduceIte,reduceCtorEq]
   refine fin _ ?_
   unfold contentB
   rw [if_pos q1]
   rw [hpos]
   cases e.isState<;>cases decide (e.key=[])<;>cases decide ((e.grants.length : Int)=0)<;>cases decide (e.value=[])<;>cases decide ((e.prev.length : Int)=0)<;>cases decide ((e.auth.length : Int)=0)<;>rfl
  by_cases q2 : e.typ=sMember
  ·have hc : contT e = .ifc 234 (.ag (eHdE e ++ [.b e.isState,.s e.key])):=by unfold contT; rw [if_neg q1,if_pos q2]
   simp -implicitDefEqProofs (maxSteps:=2000000) only [push_cast,zA,zB,zC,zD,zE,zF,zG,↓reduceIte,reduceCtorEq,hc,eHdE]
   refine CallV.t (memberFits _ _ _ _ _ _) (.inl rfl) ?_
   simp -implicitDefEqProofs (maxSteps:=2000000) only [push_cast,zA,zB,zC,zD,zE,zF,zG,↓reduceIte,reduceCtorEq]
   refine fin _ ?_
   unfold contentB
   rw [if_neg q1,if_pos q2]
  by_cases q3 : e.typ=sRules
  ·have hc : contT e = .ifc 235 (.ag (eHdE e)):=by unfold contT; rw [if_neg q1,if_neg q2,if_pos q3]
   simp -implicitDefEqProofs (maxSteps:=2000000) only [push_cast,zA,zB,zC,zD,zE,zF,zG,↓reduceIte,reduceCtorEq,hc,eHdE]
   refine CallV.t (joinFits _ _ _ _) (.inl rfl) ?_
   simp -implicitDefEqProofs (maxSteps:=2000000) only [push_cast,zA,zB,zC,zD,zE,zF,zG,↓reduceIte,reduceCtorEq]
   refine fin _ ?_
   unfold contentB
   rw [if_neg q1,if_neg q2,if_pos q3]
  by_cases q4 : e.typ=sPower
  ·have hc : contT e = .ifc 236 (.ag (eHdE e)):=by unfold contT; rw [if_neg q1,if_neg q2,if_neg q3,if_pos q4]
   simp -implicitDefEqProofs (maxSteps:=2000000) only [push_cast,zA,zB,zC,zD,zE,zF,zG,↓reduceIte,reduceCtorEq,hc,eHdE]
   refine CallV.t (powerFits _ _ _ _) (.inl rfl) ?_
   simp -implicitDefEqProofs (maxSteps:=2000000) only [push_cast,zA,zB,zC,zD,zE,zF,zG,↓reduceIte,reduceCtorEq]
   refine fin _ ?_
   unfold contentB
   rw [if_neg q1,if_neg q2,if_neg q3,if_pos q4]
  have hc : contT e = .ifc 237 (.ag (eHdE e)):=by unfold contT; rw [if_neg q1,if_neg q2,if_neg q3,if_neg q4]
  simp -implicitDefEqProofs (maxSteps:=2000000) only [push_cast,zA,zB,zC,zD,zE,zF,zG,↓reduceIte,reduceCtorEq,hc,eHdE]
  refine CallV.t (otherFits _ _ _ _) (.inl rfl) ?_
  simp -implicitDefEqProofs (maxSteps:=2000000) only [push_cast,zA,zB,zC,zD,zE,zF,zG,↓reduceIte,reduceCtorEq]
  refine fin _ ?_
  unfold contentB
  rw [if_neg q1,if_neg q2,if_neg q3,if_neg q4]
 ·have e2 : evOk e=ev3 e:=e1.trans (if_neg (by simp_all))
  refine iteI (fun h5=>leaf (e2.trans (if_pos (.inl h5)))) (fun h5=>iteI (fun h6=>leaf (e2.trans (if_pos (.inr h6)))) (fun h6=>?_))
  have e3 : evOk e=ev4 e:=e2.trans (if_neg (by omega))
  refine Callx.closed (refsOk e.prev e.id) rfl rfl (.inl rfl) ?_
  simp -implicitDefEqProofs (maxSteps:=2000000) only [push_cast,zA,zB,zC,zD,zE,zF,zG,↓reduceIte,reduceCtorEq,eEvent]
  refine iteI (fun h7=>leaf (e3.trans (if_pos (by simp_all)))) (fun h7=>?_)
  refine Callx.closed (refsOk e.auth e.id) rfl rfl (.inl rfl) ?_
  simp -implicitDefEqProofs (maxSteps:=2000000) only [push_cast,zA,zB,zC,zD,zE,zF,zG,↓reduceIte,reduceCtorEq,eEvent]
  refine iteI (fun h8=>leaf (e3.trans (if_pos (by simp_all)))) (fun h8=>?_)
  have e4 : evOk e=ev5 e:=e3.trans (if_neg (by simp_all))
  refine Callx.closed (contentOf e hB) rfl rfl (.inl rfl) ?_
  have fin : ∀ b : Bool,b=contentB e→if (!b)=true then T.i .i64 5=T.i .i64 (evOk e) else T.i .i64 0=T.i .i64 (evOk e):=fun b hb=>iteI (fun h9=>leaf (e4.trans (if_pos (by simp_all)))) (fun h9=>leaf (e4.trans (if_neg (by simp_all))))
  have hpos : (!decide (0 < (e.prev.length : Int) + e.auth.length))=(decide ((e.prev.length : Int)=0) && decide ((e.auth.length : Int)=0)):=by
   rw [Bool.eq_iff_iff]
   simp only [Bool.not_eq_true',decide_eq_false_iff_not,Bool.and_eq_true,decide_eq_true_eq]
   omega
  by_cases q1 : e.typ=sCreate
  ·have hc : contT e = .ifc 232 (.ag (eHdE e)):=by unfold contT; rw [if_pos q1]
   simp -implicitDefEqProofs (maxSteps:=2000000) only [push_cast,zA,zB,zC,zD,zE,zF,zG,↓reduceIte,reduceCtorEq,hc,eHdE]
   refine CallV.t (createFits _ _ _ _) (.inl rfl) ?_
   simp -implicitDefEqProofs (maxSteps:=2000000) only [push_cast,zA,zB,zC,zD,zE,zF,zG,↓reduceIte,reduceCtorEq]
   refine fin _ ?_
   unfold contentB
   rw [if_pos q1]
   rw [hpos]
   cases e.isState<;>cases decide (e.key=[])<;>cases decide ((e.grants.length : Int)=0)<;>cases decide (e.value=[])<;>cases decide ((e.prev.length : Int)=0)<;>cases decide ((e.auth.length : Int)=0)<;>rfl
  by_cases q2 : e.typ=sMember
  ·have hc : contT e = .ifc 234 (.ag (eHdE e ++ [.b e.isState,.s e.key])):=by unfold contT; rw [if_neg q1,if_pos q2]
   simp -implicitDefEqProofs (maxSteps:=2000000) only [push_cast,zA,zB,zC,zD,zE,zF,zG,↓reduceIte,reduceCtorEq,hc,eHdE]
   refine CallV.t (memberFits _ _ _ _ _ _) (.inl rfl) ?_
   simp -implicitDefEqProofs (maxSteps:=2000000) only [push_cast,zA,zB,zC,zD,zE,zF,zG,↓reduceIte,reduceCtorEq]
   refine fin _ ?_
   unfold contentB
   rw [if_neg q1,if_pos q2]
  by_cases q3 : e.typ=sRules
  ·have hc : contT e = .ifc 235 (.ag (eHdE e)):=by unfold contT; rw [if_neg q1,if_neg q2,if_pos q3]
   simp -implicitDefEqProofs (maxSteps:=2000000) only [push_cast,zA,zB,zC,zD,zE,zF,zG,↓reduceIte,reduceCtorEq,hc,eHdE]
   refine CallV.t (joinFits _ _ _ _) (.inl rfl) ?_
   simp -implicitDefEqProofs (maxSteps:=2000000) only [push_cast,zA,zB,zC,zD,zE,zF,zG,↓reduceIte,reduceCtorEq]
   refine fin _ ?_
   unfold contentB
   rw [if_neg q1,if_neg q2,if_pos q3]
  by_cases q4 : e.typ=sPower
  ·have hc : contT e = .ifc 236 (.ag (eHdE e)):=by unfold contT; rw [if_neg q1,if_neg q2,if_neg q3,if_pos q4]
   simp -implicitDefEqProofs (maxSteps:=2000000) only [push_cast,zA,zB,zC,zD,zE,zF,zG,↓reduceIte,reduceCtorEq,hc,eHdE]
   refine CallV.t (powerFits _ _ _ _) (.inl rfl) ?_
   simp -implicitDefEqProofs (maxSteps:=2000000) only [push_cast,zA,zB,zC,zD,zE,zF,zG,↓reduceIte,reduceCtorEq]
   refine fin _ ?_
   unfold contentB
   rw [if_neg q1,if_neg q2,if_neg q3,if_pos q4]
  have hc : contT e = .ifc 237 (.ag (eHdE e)):=by unfold contT; rw [if_neg q1,if_neg q2,if_neg q3,if_neg q4]
  simp -implicitDefEqProofs (maxSteps:=2000000) only [push_cast,zA,zB,zC,zD,zE,zF,zG,↓reduceIte,reduceCtorEq,hc,eHdE]
  refine CallV.t (otherFits _ _ _ _) (.inl rfl) ?_
  simp -implicitDefEqProofs (maxSteps:=2000000) only [push_cast,zA,zB,zC,zD,zE,zF,zG,↓reduceIte,reduceCtorEq]
  refine fin _ ?_
  unfold contentB
  rw [if_neg q1,if_neg q2,if_neg q3,if_neg q4]
end Go.Proofs.YtmgdkkhnjkepiaaGreat.BX
namespace Go.Proofs.YtmgdkkhnjkepiaaGreat.BX
open Nat renaming reduceEqDiff → zA, reduceLT → zB, reduceLeDiff → zC, reduceAdd → zD, reduceMul → zE, reduceSub → zF, reduceBEq → zG
set_option linter.unusedSectionVars false
set_option linter.unusedSimpArgs false
set_option linter.unusedVariables false
open Go Go.RowKit
set_option maxRecDepth 20000
set_option maxHeartbeats 400000
theorem snocInd {α:Type} {P:List α→Prop} (h0:P []) (h1:∀ es e,P es→P (es ++ [e])) (es:List α) : P es:=by
 have : ∀ r : List α,P r.reverse:=by
  intro r
  induction r with
  | nil => exact h0
  | cons e r ih => rw [List.reverse_cons]; exact h1 _ _ ih
 have:=this es.reverse
 rwa [List.reverse_reverse] at this
def posOf (k:List UInt8) : List Event→Option Nat
 | [] => none
 | e :: es => if e.id=k then some 0 else (posOf k es).map (· + 1)
theorem posOf_none {k:List UInt8} : ∀ {es:List Event},posOf k es=none ↔ ∀ e∈es,e.id≠k
 | [] => by simp [posOf]
 | e :: es => by
   simp only [posOf,List.mem_cons,forall_eq_or_imp]
   split
   ·rename_i h; simp [h]
   ·rename_i h; simp only [Option.map_eq_none_iff,posOf_none (es:=es)]; exact ⟨fun hh=>⟨h,hh⟩,fun hh=>hh.2⟩
theorem posOf_some {k:List UInt8} : ∀ {es:List Event} {i:Nat},posOf k es=some i ↔ ∃ e,es[i]? = some e∧e.id=k∧∀ x∈es.take i,x.id≠k
 | [], i => by simp [posOf]
 | e :: es, i => by
   simp only [posOf]
   split
   ·rename_i h
    cases i with
    | zero => simp [h]
    | succ i => simp [h]
   ·rename_i h
    cases i with
    | zero => simp [h]
    | succ i =>
      simp only [Option.map_eq_some_iff,Nat.add_right_cancel_iff,exists_eq_right,posOf_some (es:=es),List.getElem?_cons_succ,List.take_succ_cons,List.mem_cons,forall_eq_or_imp]
      exact ⟨fun ⟨x,h1,h2,h3⟩=>⟨x,h1,h2,h,h3⟩,fun ⟨x,h1,h2,_,h3⟩=>⟨x,h1,h2,h3⟩⟩
theorem posOf_lt {k:List UInt8} {es:List Event} {i:Nat} (h:posOf k es=some i) : i < es.length:=by
 obtain ⟨e,h,_⟩:=posOf_some.1 h
 exact (List.getElem?_eq_some_iff.1 h).1
theorem posOf_snoc {k:List UInt8} {e:Event} : ∀ {es:List Event},posOf k (es ++ [e])=(posOf k es).or (if e.id=k then some es.length else none)
 | [] => by simp [posOf]
 | x :: es => by
   simp only [List.cons_append,posOf,posOf_snoc (es:=es),List.length_cons]
   split
   ·rfl
   ·cases posOf k es<;>simp
def atI (es:List Event) (k:List UInt8) : Int:=match posOf k es with
 | some i => i
 | none => -1
theorem atI_nn {es:List Event} {k:List UInt8} : 0≤atI es k ↔ (posOf k es).isSome=true:=by
 unfold atI
 cases posOf k es<;>simp
def gmStep (m:List (List UInt8 × Nat)) (n:Nat) (e:Event) : List (List UInt8 × Nat):=if e.id∈m.map (·.1) then m else m ++ [(e.id,n)]
def gmFrom : List Event→Nat→List (List UInt8 × Nat)→List (List UInt8 × Nat)
 | [], _, m => m
 | e :: es, n, m => gmFrom es (n + 1) (gmStep m n e)
def gm (es:List Event) : List (List UInt8 × Nat):=gmFrom es 0 []
theorem gmFrom_snoc {e:Event} : ∀ {es:List Event} {n:Nat} {m:List (List UInt8 × Nat)},gmFrom (es ++ [e]) n m=gmStep (gmFrom es n m) (n + es.length) e
 | [], n, m => rfl
 | x :: es, n, m => by
   simp only [List.cons_append,gmFrom,gmFrom_snoc (es:=es),List.length_cons]
   congr 1
   omega
theorem gm_snoc {es:List Event} {e:Event} : gm (es ++ [e])=gmStep (gm es) es.length e:=by
 unfold gm
 rw [gmFrom_snoc,Nat.zero_add]
theorem aget_snoc {κ β:Type} [DecidableEq κ] {k a:κ} {v:β} : ∀ {m:List (κ × β)},aget k (m ++ [(a,v)])=(aget k m).or (if a=k then some v else none)
 | [] => by simp [aget]
 | p :: m => by
   simp only [List.cons_append,aget,aget_snoc (m:=m)]
   split<;>rfl
theorem gm_get {k:List UInt8} : ∀ (es:List Event),aget k (gm es)=posOf k es:=by
 refine snocInd rfl fun es e ih=>?_
 ·rw [gm_snoc,posOf_snoc]
  unfold gmStep
  split
  ·rename_i h
   rw [ih]
   by_cases hk : e.id=k
   ·subst hk
    have : aget e.id (gm es)≠none:=fun hh=>aget_none.1 hh h
    rw [ih] at this
    cases hp : posOf e.id es with
    | none => exact absurd hp this
    | some i => rfl
   ·rw [if_neg hk]; cases posOf k es<;>rfl
  ·rw [aget_snoc,ih]
theorem gm_nodup : ∀ (es:List Event),((gm es).map (·.1)).Nodup:=by
 refine snocInd (by simp [gm,gmFrom]) fun es e ih=>?_
 ·rw [gm_snoc]
  unfold gmStep
  split
  ·exact ih
  ·rename_i h
   rw [List.map_append,List.nodup_append]
   exact ⟨ih,by simp,fun a ha b hb=>by simp only [List.map_cons,List.map_nil,List.mem_singleton] at hb; subst hb; rintro rfl; exact h ha⟩
theorem gm_len : ∀ (es:List Event),(gm es).length≤es.length:=by
 refine snocInd (by simp [gm,gmFrom]) fun es e ih=>?_
 ·rw [gm_snoc]
  unfold gmStep
  split<;>simp<;>omega
def gmK (es:List Event) : List T:=(gm es).map fun p=>T.s p.1
def gmV (es:List Event) : List T:=(gm es).map fun p=>T.i .i64 (p.2 : Int)
def gT (es:List Event) : T:=.po (.ag [eEventS es,.mp (gmK es) (gmV es)]) 0
theorem s_inj : ∀ a b : List UInt8,T.s a=T.s b→a=b:=fun _ _ h=>by cases h; rfl
def allIn (es:List Event) (ids:List (List UInt8)) : Bool:=decide (∀ id∈ids,(posOf id es).isSome=true)
noncomputable def cd5 (es:List Event) : Int:=if 300≤(es.length : Int) then 9 else 0
noncomputable def cd4 (es:List Event) (e:Event) : Int:=if ((es.length : Int)=0∧¬ e.typ=sCreate) ∨ (¬ (es.length : Int)=0∧(e.typ=sCreate ∨ (e.prev.length : Int)=0 ∨ (e.auth.length : Int)=0)) then 8 else cd5 es
noncomputable def cd3 (es:List Event) (e:Event) : Int:=if ¬ (allIn es e.prev=true∧allIn es e.auth=true) then 7 else cd4 es e
noncomputable def cd2 (es:List Event) (e:Event) : Int:=if (posOf e.id es).isSome=true then 6 else cd3 es e
noncomputable def codeE (es:List Event) (e:Event) : Int:=if ¬ evOk e=0 then evOk e else cd2 es e
theorem evOk_refs {e:Event} (h:evOk e=0) : e.prev.length≤10∧e.auth.length≤10:=by
 unfold evOk at h
 split at h
 ·cases h
 unfold ev2 at h
 split at h
 ·cases h
 unfold ev3 at h
 split at h
 ·cases h
 unfold ev4 at h
 split at h
 ·cases h
 rename_i h1
 have h1:=Classical.not_not.1 h1
 unfold refsB at h1
 simp only [Bool.and_eq_true,decide_eq_true_eq] at h1
 omega
def Valid (es:List Event) : Prop:=∀ (i:Nat) (e:Event),es[i]? = some e→codeE (es.take i) e=0
open Classical in
noncomputable def roomB (es:List Event) : Bool:=decide (Valid es)
theorem allIn_no {es:List Event} {ids:List (List UInt8)} {id:List UInt8} (hm:id∈ids) (h:posOf id es=none) : allIn es ids=false:=by
 unfold allIn
 rw [decide_eq_false_iff_not]
 intro hh
 have:=hh id hm
 rw [h] at this
 cases this
theorem allIn_yes {es:List Event} {ids:List (List UInt8)} (h:∀ id∈ids,(posOf id es).isSome=true) : allIn es ids=true:=decide_eq_true h
variable [Bd]
theorem l2At (es:List Event) (k:List UInt8) : Con P0 104 [eRoom ⟨es⟩,.s k] (.t (.i .i64 (atI es k))) []:=by
 refine Con.intro (fn:=Tryz.f104) [.tmp 4] (fun _=>(0,[])) mixed (by kernel_rfl) rfl (by decide) rfl (by rfl) (by kernel_rfl) ?_
 simp -implicitDefEqProofs (maxSteps:=2000000) only [push_cast,zA,zB,zC,zD,zE,zF,zG,↓reduceIte,reduceCtorEq,eRoom]
 refine WL.loop (ι:=Nat) (D:=(fun _=>(0,[]))) (fun i=>i≤es.length∧∀ x∈es.take i,x.id≠k) (fun i=>⟨22,[(1,.t (.s k)),(2,.rf 0 0),(5,.t (.i .i64 i))],[.box (.t (eRoom ⟨es⟩))]⟩) (fun i=>es.length - i) mixed (by kernel_rfl) 0 ⟨by omega,by simp⟩ (Keep.wk (ids:=[some 0]) ?_) ?_
 ·simp only [push_cast,zA,zB,zC,zD,zE,zF,zG,↓reduceIte,reduceCtorEq,eRoom]<;>rfl
 ·rintro i ⟨hi,hc⟩
  simp -implicitDefEqProofs (maxSteps:=2000000) only [push_cast,zA,zB,zC,zD,zE,zF,zG,↓reduceIte,reduceCtorEq,eRoom,eEvent]
  intro _
  have:=Bd.hi
  refine iteI (fun h=>⟨by omega,fun a ha=>iteI (fun he=>?_) (fun he=>?_)⟩) (fun h=>?_)
  ·rw [Int.toNat_natCast] at ha
   have : posOf k es=some i:=posOf_some.2 ⟨a,ha,he,hc⟩
   exact congrArg (T.i .i64) (by unfold atI; rw [this])
  ·rw [Int.toNat_natCast] at ha
   refine ⟨by unfold inI64; omega,i + 1,⟨by omega,take_snoc ha hc he⟩,by omega,Keep.wk (ids:=[some 0]) ?_⟩
   simp only [push_cast,zA,zB,zC,zD,zE,zF,zG,↓reduceIte,reduceCtorEq,eRoom]<;>rfl
  ·rw [List.take_of_length_le (by omega)] at hc
   exact congrArg (T.i .i64) (by unfold atI; rw [posOf_none.2 hc])
theorem l2AllThere (es:List Event) (ids:List (List UInt8)) : Con P0 76 [eRoom ⟨es⟩,eStringS ids] (.t (.b (decide ((ids.length : Int)≤300) && allIn es ids))) []:=by
 refine Con.intro (fn:=Tryz.f76) [.tmp 4] (fun i=>if i=6 then (7,[]) else (0,[])) mixed (by kernel_rfl) rfl (by decide) rfl (by rfl) (by kernel_rfl) ?_
 simp -implicitDefEqProofs (maxSteps:=2000000) only [push_cast,zA,zB,zC,zD,zE,zF,zG,↓reduceIte,reduceCtorEq,eRoom]
 intro _
 refine iteI (fun h=>?_) (fun h=>?_)
 ·rw [decide_eq_false (by omega)]; rfl
 rw [decide_eq_true (p:=(ids.length : Int)≤300) (by omega),Bool.true_and]
 refine WL.loop (ι:=Nat) (D:=(fun i=>if i=6 then (7,[]) else (0,[]))) (fun i=>i≤ids.length∧∀ id∈ids.take i,(posOf id es).isSome=true) (fun i=>⟨22,[(1,.t (eStringS ids)),(2,.rf 0 0),(5,.t (.i .i64 i))],[.box (.t (eRoom ⟨es⟩))]⟩) (fun i=>ids.length - i) mixed (by kernel_rfl) 0 ⟨by omega,by simp⟩ (Keep.wk (ids:=[some 0]) ?_) ?_
 ·simp only [push_cast,zA,zB,zC,zD,zE,zF,zG,↓reduceIte,reduceCtorEq,eRoom]<;>rfl
 ·rintro i ⟨hi,hc⟩
  simp -implicitDefEqProofs (maxSteps:=2000000) only [push_cast,zA,zB,zC,zD,zE,zF,zG,↓reduceIte,reduceCtorEq,eRoom]
  intro _
  have:=Bd.hi
  refine iteI (fun h=>⟨by omega,fun a ha=>CallV.t (l2At es a) (.inl rfl) ?_⟩) (fun h=>?_)
  ·rw [Int.toNat_natCast] at ha
   simp -implicitDefEqProofs (maxSteps:=2000000) only [push_cast,zA,zB,zC,zD,zE,zF,zG,↓reduceIte,reduceCtorEq]
   refine iteI (fun he=>?_) (fun he=>?_)
   ·refine congrArg T.b (allIn_no (List.mem_of_getElem? ha) ?_).symm
    cases hp : posOf a es with
    | none => rfl
    | some j => exact absurd (atI_nn.2 (by rw [hp]; rfl)) (by omega)
   ·refine ⟨by unfold inI64; omega,i + 1,⟨by omega,take_snoc ha hc (atI_nn.1 (by omega))⟩,by omega,Keep.wk (ids:=[some 0]) ?_⟩
    simp only [push_cast,zA,zB,zC,zD,zE,zF,zG,↓reduceIte,reduceCtorEq,eRoom]<;>rfl
  ·rw [List.take_of_length_le (by omega)] at hc
   exact congrArg T.b (allIn_yes hc).symm
theorem l2Code (es:List Event) (e:Event) : Con P0 90 [eRoom ⟨es⟩,eEvent e] (.t (.i .i64 (codeE es e))) []:=by
 refine Con.intro (fn:=Tryz.f90) [.tmp 4] (fun _=>(0,[])) mixed (by kernel_rfl) rfl (by decide) rfl (by rfl) (by kernel_rfl) ?_
 simp -implicitDefEqProofs (maxSteps:=2000000) only [push_cast,zA,zB,zC,zD,zE,zF,zG,↓reduceIte,reduceCtorEq,eRoom,eEvent]
 have leaf : ∀ {n:Int},codeE es e=n→T.i .i64 n=T.i .i64 (codeE es e):=fun h=>congrArg (T.i .i64) h.symm
 refine Callx.closed (specEventOk e) rfl rfl (.inl rfl) ?_
 simp -implicitDefEqProofs (maxSteps:=2000000) only [push_cast,zA,zB,zC,zD,zE,zF,zG,↓reduceIte,reduceCtorEq,eRoom,eEvent]
 refine iteI (fun h1=>leaf (if_pos h1)) (fun h1=>?_)
 have h1:=Classical.not_not.1 h1
 have e1 : codeE es e=cd2 es e:=if_neg (by rw [h1]; simp)
 obtain ⟨hp10,ha10⟩:=evOk_refs h1
 refine Callx.closed (l2At es e.id) rfl rfl (.inl rfl) ?_
 simp -implicitDefEqProofs (maxSteps:=2000000) only [push_cast,zA,zB,zC,zD,zE,zF,zG,↓reduceIte,reduceCtorEq,eRoom,eEvent]
 refine iteI (fun h2=>leaf (e1.trans (if_pos (atI_nn.1 h2)))) (fun h2=>?_)
 have e2 : codeE es e=cd3 es e:=e1.trans (if_neg (fun hh=>h2 (atI_nn.2 hh)))
 refine Callx.closed (l2AllThere es e.prev) rfl rfl (.inl rfl) ?_
 rw [decide_eq_true (p:=(e.prev.length : Int)≤300) (by omega),Bool.true_and]
 simp -implicitDefEqProofs (maxSteps:=2000000) only [push_cast,zA,zB,zC,zD,zE,zF,zG,↓reduceIte,reduceCtorEq,eRoom,eEvent]
 refine iteI (fun h3=>leaf (e2.trans (if_pos (by simp_all)))) (fun h3=>?_)
 refine Callx.closed (l2AllThere es e.auth) rfl rfl (.inl rfl) ?_
 rw [decide_eq_true (p:=(e.auth.length : Int)≤300) (by omega),Bool.true_and]
 simp -implicitDefEqProofs (maxSteps:=2000000) only [push_cast,zA,zB,zC,zD,zE,zF,zG,↓reduceIte,reduceCtorEq,eRoom,eEvent]
 refine iteI (fun h4=>leaf (e2.trans (if_pos (by simp_all)))) (fun h4=>?_)
 have e3 : codeE es e=cd4 es e:=e2.trans (if_neg (by simp_all))
 repeat' first | refine iteI (fun _=>?_) (fun _=>?_) | intro _
 all_goals first
  | (exfalso; omega)
  | exact leaf (e3.trans (if_pos (.inl ⟨by omega,by assumption⟩)))
  | exact leaf (e3.trans (if_pos (.inr ⟨by omega,.inl (by assumption)⟩)))
  | exact leaf (e3.trans (if_pos (.inr ⟨by omega,.inr (.inl (by assumption))⟩)))
  | exact leaf (e3.trans (if_pos (.inr ⟨by omega,.inr (.inr (by assumption))⟩)))
  | exact leaf ((e3.trans (if_neg (by rintro (⟨h,h'⟩ | ⟨h,h' | h' | h'⟩)<;>first | omega | contradiction | exact absurd h' (by assumption)))).trans (if_pos (by assumption)))
  | exact leaf ((e3.trans (if_neg (by rintro (⟨h,h'⟩ | ⟨h,h' | h' | h'⟩)<;>first | omega | contradiction | exact absurd h' (by assumption)))).trans (if_neg (by assumption)))
theorem specRoomOk (es:List Event) : Con P0 38 [eRoom ⟨es⟩] (.t (.b (roomB es))) []:=by
 refine Con.intro (fn:=Tryz.f38) [.tmp 2] (fun i=>if i=4 then (12,[]) else (0,[])) mixed (by kernel_rfl) rfl (by decide) rfl (by rfl) (by kernel_rfl) ?_
 simp -implicitDefEqProofs (maxSteps:=2000000) only [push_cast,zA,zB,zC,zD,zE,zF,zG,↓reduceIte,reduceCtorEq,eRoom]
 refine WL.loop (ι:=Nat) (D:=(fun i=>if i=4 then (12,[]) else (0,[]))) (fun i=>i≤es.length∧∀ (j:Nat) (e:Event),j < i→es[j]? = some e→codeE (es.take j) e=0) (fun i=>⟨23,[(1,.rf 0 0),(3,.t (.i .i64 i))],[.box (.t (eRoom ⟨es⟩))]⟩) (fun i=>es.length - i) mixed (by kernel_rfl) 0 ⟨by omega,fun j e hj=>absurd hj (by omega)⟩ (Keep.wk (ids:=[some 0]) ?_) ?_
 ·simp only [push_cast,zA,zB,zC,zD,zE,zF,zG,↓reduceIte,reduceCtorEq,eRoom]<;>rfl
 ·rintro i ⟨hi,hc⟩
  simp -implicitDefEqProofs (maxSteps:=2000000) only [push_cast,zA,zB,zC,zD,zE,zF,zG,↓reduceIte,reduceCtorEq,eRoom]
  intro _
  have:=Bd.hi
  refine iteI (fun h=>?_) (fun h=>?_)
  ·have he : (Int.toNat 0)=0:=rfl
   rw [he,List.drop_zero,Int.toNat_natCast,← List.map_take]
   refine ⟨by omega,by omega,fun a ha=>CallV.t (l2Code (es.take i) a) (.inl rfl) ?_⟩
   simp -implicitDefEqProofs (maxSteps:=2000000) only [push_cast,zA,zB,zC,zD,zE,zF,zG,↓reduceIte,reduceCtorEq]
   refine iteI (fun h1=>?_) (fun h1=>?_)
   ·exact congrArg T.b (@decide_eq_false _ (Classical.propDecidable _) fun hv : Valid es=>h1 (hv i a ha)).symm
   ·have h1:=Classical.not_not.1 h1
    refine ⟨by unfold inI64; omega,i + 1,⟨by omega,fun j e hj hje=>?_⟩,by omega,Keep.wk (ids:=[some 0]) ?_⟩
    ·rcases Nat.lt_or_ge j i with h' | h'
     ·exact hc j e h' hje
     ·have : j=i:=by omega
      subst this
      rw [ha] at hje; cases hje; exact h1
    ·simp only [push_cast,zA,zB,zC,zD,zE,zF,zG,↓reduceIte,reduceCtorEq,eRoom]<;>rfl
  ·refine congrArg T.b (@decide_eq_true _ (Classical.propDecidable _) fun i e he=>hc i e ?_ he).symm
   have:=(List.getElem?_eq_some_iff.1 he).1
   omega
theorem gLook {s:Bool × List Lay} (hs:s=(false,[.str])) {z:Value} {k:List UInt8} {ok:Bool} {kd:Kind} {K:AV→Prop} {es:List Event} (h1:∀ i,posOf k es=some i→K (if ok=true then .tp [kd.look (.i .i64 i),.t (.b true)] else kd.look (.i .i64 i))) (h2:posOf k es=none→K (if ok=true then .tp [ofV z,.t (.b false)] else ofV z)) :
 lookM s z (.s k) ok kd (gmK es) (gmV es) K:=by
 subst hs
 refine look_assoc (ek:=T.s) (ev:=fun n : Nat=>T.i .i64 (n:Int)) s_inj (gm_nodup es) (fun p _=>trivial) (fun v hv=>?_) (fun hv=>?_)
 ·rw [gm_get] at hv; exact h1 v hv
 ·rw [gm_get] at hv; exact h2 hv
theorem graphAll (es:List Event) (ids:List (List UInt8)) : Con P0 79 [gT es,eStringS ids] (.t (.b (allIn es ids))) []:=by
 refine Con.intro (fn:=Tryz.f79) [.tmp 4] (fun _=>(0,[])) mixed (by kernel_rfl) rfl (by decide) rfl (by rfl) (by kernel_rfl) ?_
 simp -implicitDefEqProofs (maxSteps:=2000000) only [push_cast,zA,zB,zC,zD,zE,zF,zG,↓reduceIte,reduceCtorEq,gT]
 intro _
 refine WL.loop (ι:=Nat) (D:=(fun _=>(0,[]))) (fun i=>i≤ids.length∧∀ id∈ids.take i,(posOf id es).isSome=true) (fun i=>⟨27,[(0,.t (gT es)),(9,.t (eStringS ids)),(10,.t (.i .i64 ids.length)),(11,.t (.i .i64 i))],[]⟩) (fun i=>ids.length - i) mixed (by kernel_rfl) 0 ⟨by omega,by simp⟩ (Keep.wk (ids:=[]) ?_) ?_
 ·simp only [push_cast,zA,zB,zC,zD,zE,zF,zG,↓reduceIte,reduceCtorEq,gT]<;>rfl
 ·rintro i ⟨hi,hc⟩
  simp -implicitDefEqProofs (maxSteps:=2000000) only [push_cast,zA,zB,zC,zD,zE,zF,zG,↓reduceIte,reduceCtorEq,gT]
  have:=Bd.hi
  refine iteI (fun h=>⟨by omega,fun a ha=>?_⟩) (fun h=>?_)
  ·rw [Int.toNat_natCast] at ha
   refine gLook rfl (fun j hj=>?_) (fun hj=>?_)
   ·simp -implicitDefEqProofs (maxSteps:=2000000) only [push_cast,zA,zB,zC,zD,zE,zF,zG,↓reduceIte,reduceCtorEq]
    refine ⟨by unfold inI64; omega,i + 1,⟨by omega,take_snoc ha hc (by rw [hj]; rfl)⟩,by omega,Keep.wk (ids:=[]) ?_⟩
    simp only [push_cast,zA,zB,zC,zD,zE,zF,zG,↓reduceIte,reduceCtorEq,gT]<;>rfl
   ·simp -implicitDefEqProofs (maxSteps:=2000000) only [push_cast,zA,zB,zC,zD,zE,zF,zG,↓reduceIte,reduceCtorEq]
    exact congrArg T.b (allIn_no (List.mem_of_getElem? ha) hj).symm
  ·rw [List.take_of_length_le (by omega)] at hc
   exact congrArg T.b (allIn_yes hc).symm
theorem graphCode (es:List Event) (e:Event) (hB:Bd.B≤2147483648) : Con P0 95 [gT es,eEvent e] (.t (.i .i64 (codeE es e))) []:=by
 refine Con.intro (fn:=Tryz.f95) [.tmp 4] (fun i=>if i=4 then (12,[]) else (0,[])) mixed (by kernel_rfl) rfl (by decide) rfl (by rfl) (by kernel_rfl) ?_
 simp -implicitDefEqProofs (maxSteps:=2000000) only [push_cast,zA,zB,zC,zD,zE,zF,zG,↓reduceIte,reduceCtorEq,gT,eEvent]
 have leaf : ∀ {n:Int},codeE es e=n→T.i .i64 n=T.i .i64 (codeE es e):=fun h=>congrArg (T.i .i64) h.symm
 refine Callx.closed (implEventOk e hB) rfl rfl (.inl rfl) ?_
 simp -implicitDefEqProofs (maxSteps:=2000000) only [push_cast,zA,zB,zC,zD,zE,zF,zG,↓reduceIte,reduceCtorEq,gT,eEvent]
 refine iteI (fun h1=>leaf (if_pos h1)) (fun h1=>?_)
 have h1:=Classical.not_not.1 h1
 have e1 : codeE es e=cd2 es e:=if_neg (by rw [h1]; simp)
 refine gLook rfl (fun j hj=>?_) (fun hj=>?_)
 ·simp -implicitDefEqProofs (maxSteps:=2000000) only [push_cast,zA,zB,zC,zD,zE,zF,zG,↓reduceIte,reduceCtorEq]
  exact leaf (e1.trans (if_pos (by rw [hj]; rfl)))
 have e2 : codeE es e=cd3 es e:=e1.trans (if_neg (by rw [hj]; simp))
 simp -implicitDefEqProofs (maxSteps:=2000000) only [push_cast,zA,zB,zC,zD,zE,zF,zG,↓reduceIte,reduceCtorEq,gT,eEvent]
 refine Callx.closed (graphAll es e.prev) rfl rfl (.inl rfl) ?_
 simp -implicitDefEqProofs (maxSteps:=2000000) only [push_cast,zA,zB,zC,zD,zE,zF,zG,↓reduceIte,reduceCtorEq,gT,eEvent]
 refine iteI (fun h3=>leaf (e2.trans (if_pos (by simp_all)))) (fun h3=>?_)
 refine Callx.closed (graphAll es e.auth) rfl rfl (.inl rfl) ?_
 simp -implicitDefEqProofs (maxSteps:=2000000) only [push_cast,zA,zB,zC,zD,zE,zF,zG,↓reduceIte,reduceCtorEq,gT,eEvent]
 refine iteI (fun h4=>leaf (e2.trans (if_pos (by simp_all)))) (fun h4=>?_)
 have e3 : codeE es e=cd4 es e:=e2.trans (if_neg (by simp_all))
 intro _
 have hb : ∀ {p q:Prop} [Decidable p] [Decidable q],¬ decide p=decide q ↔ ¬ (p ↔ q):=by
  intro p q _ _
  by_cases hp : p<;>by_cases hq : q<;>simp [hp,hq]
 have hn : ∀ {p:Prop} [Decidable p],(!decide p)=true ↔ ¬ p:=by intro p _; simp
 simp only [hb,hn]
 refine iteI (fun h5=>leaf (e3.trans (if_pos ?_))) (fun h5=>?_)
 ·have h5 : ¬ ((es.length : Int)=0 ↔ e.typ=sCreate):=h5
  by_cases q1 : (es.length : Int)=0<;>by_cases q2 : e.typ=sCreate<;>simp_all
 have h5 : (es.length : Int)=0 ↔ e.typ=sCreate:=Classical.not_not.1 h5
 repeat' first | refine iteI (fun _=>?_) (fun _=>?_) | intro _
 all_goals first
  | (exfalso; omega)
  | exact leaf (e3.trans (if_pos (.inr ⟨by omega,.inr (.inl (by assumption))⟩)))
  | exact leaf (e3.trans (if_pos (.inr ⟨by omega,.inr (.inr (by assumption))⟩)))
  | exact leaf ((e3.trans (if_neg (by rintro (⟨h,h'⟩ | ⟨h,h' | h' | h'⟩)<;>first | omega | contradiction | exact h' (h5.1 h) | exact h (h5.2 h')))).trans (if_pos (by assumption)))
  | exact leaf ((e3.trans (if_neg (by rintro (⟨h,h'⟩ | ⟨h,h' | h' | h'⟩)<;>first | omega | contradiction | exact h' (h5.1 h) | exact h (h5.2 h')))).trans (if_neg (by assumption)))
theorem newGraph : Con P0 92 [] (.rf 0 0) [.box (.ag [.ns,.mr 1]),.map 9 3 (.own .leaf) [] [] none]:=by
 refine Con.intro (fn:=Tryz.f92) [.tmp 0] (fun _=>(0,[])) mixed (by kernel_rfl) rfl (by decide) rfl (by rfl) (by kernel_rfl) ?_
 simp -implicitDefEqProofs (maxSteps:=2000000) only [push_cast,zA,zB,zC,zD,zE,zF,zG,↓reduceIte,reduceCtorEq]
 exact Close.of [some 1,some 0] rfl rfl rfl (by simp only [push_cast,zA,zB,zC,zD,zE,zF,zG,↓reduceIte,reduceCtorEq]<;>rfl) (by simp only [push_cast,zA,zB,zC,zD,zE,zF,zG,↓reduceIte,reduceCtorEq]<;>rfl)
abbrev gmO (es:List Event) : Ob:=.map 9 3 (.own .leaf) (gmK es) (gmV es) none
theorem graphPut (es:List Event) (e:Event) (hB:Bd.B≤2147483648) (hl:es.length + 1 < Bd.B) : ConM P0 93 [.rf 0 0,.t (eEvent e)] [.box (.ag [.sr 1,.mr 2]),.arr 42 10 .clo (es.map eEvent),gmO es] (.tp [])
 [.box (.ag [.sr 3,.mr 2]),.dead,gmO (es ++ [e]),.arr 42 10 .clo ((es ++ [e]).map eEvent)]:=by
 refine ConM.intro (fn:=Tryz.f93) [] (fun i=>if i=4 then (11,[(false,0),(false,1),(false,2),(false,3),(false,4),(false,5),(true,6),(true,7),(false,8),(false,9),(true,10)]) else if i=3 then (11,[]) else if i=1 then (12,[]) else (0,[])) mixed (by kernel_rfl) rfl (by decide) rfl (by rfl) (by kernel_rfl) ?_
 simp -implicitDefEqProofs (maxSteps:=2000000) only [push_cast,zA,zB,zC,zD,zE,zF,zG,↓reduceIte,reduceCtorEq,eEvent]
 refine gLook rfl (fun j hj=>?_) (fun hj=>?_)
 ·simp -implicitDefEqProofs (maxSteps:=2000000) only [push_cast,zA,zB,zC,zD,zE,zF,zG,↓reduceIte,reduceCtorEq,eEvent]
  have:=Bd.lo
  have hg : gm (es ++ [e])=gm es:=by
   rw [gm_snoc]
   unfold gmStep
   rw [if_pos]
   exact Classical.byContradiction fun hh=>by rw [← aget_none,gm_get,hj] at hh; cases hh
  refine ⟨rfl,by omega,rfl,by omega,hl,?_⟩
  refine Close.of [some 0,some 1,some 2,some 5] rfl rfl rfl rfl ?_
  simp only [push_cast,zA,zB,zC,zD,zE,zF,zG,↓reduceIte,reduceCtorEq,gmO,gmK,gmV,hg,List.map_append,eEvent]<;>rfl
 ·simp -implicitDefEqProofs (maxSteps:=2000000) only [push_cast,zA,zB,zC,zD,zE,zF,zG,↓reduceIte,reduceCtorEq,eEvent]
  intro _
  have:=Bd.lo
  obtain ⟨hu1,hu2⟩:=upd_assoc (ek:=T.s) (ev:=fun n : Nat=>T.i .i64 (n:Int)) s_inj (k:=e.id) (v:=es.length) (l:=gm es)
  have hk : e.id ∉ (gm es).map (·.1):=by rw [← aget_none,gm_get]; exact hj
  have hg : gm (es ++ [e])=aset e.id es.length (gm es):=by
   rw [gm_snoc,aset_new hk]
   unfold gmStep
   rw [if_neg hk]
  have hlen:=gm_len es
  have hu1 : updK (gmK es) (T.s e.id)=gmK (es ++ [e]):=by unfold gmK; rw [hu1,hg]
  have hu2 : updV (gmK es) (gmV es) (T.s e.id) (T.i .i64 (es.length : Int))=gmV (es ++ [e]):=by unfold gmK gmV; rw [hu2,hg]
  rw [hu1,hu2]
  refine ⟨fun y hy=>?_,fun _=>?_,rfl,by omega,rfl,by omega,hl,?_⟩
  ·unfold gmK at hy
   obtain ⟨p,_,rfl⟩:=List.mem_map.1 hy
   trivial
  ·unfold gmK; rw [List.length_map]; omega
  refine Close.of [some 0,some 1,some 2,some 5] rfl rfl rfl rfl ?_
  simp only [push_cast,zA,zB,zC,zD,zE,zF,zG,↓reduceIte,reduceCtorEq,gmO,List.map_append,eEvent]<;>rfl
theorem valid_snoc {es:List Event} {i:Nat} {e:Event} (he:es[i]? = some e) (h:Valid es) : codeE (es.take i) e=0:=h i e he
theorem graphOf (es:List Event) (hB:Bd.B≤2147483648) : Con P0 67 [eRoom ⟨es⟩] (.t (if roomB es=true then gT es else .np)) []:=by
 refine Con.intro (fn:=Tryz.f67) [.tmp 2] (fun _=>(0,[])) mixed (by kernel_rfl) rfl (by decide) rfl (by rfl) (by kernel_rfl) ?_
 simp -implicitDefEqProofs (maxSteps:=2000000) only [push_cast,zA,zB,zC,zD,zE,zF,zG,↓reduceIte,reduceCtorEq,eRoom]
 refine Callx.closed newGraph rfl rfl (.inl rfl) ?_
 simp -implicitDefEqProofs (maxSteps:=2000000) only [push_cast,zA,zB,zC,zD,zE,zF,zG,↓reduceIte,reduceCtorEq,eRoom]
 intro hlen
 refine WL.loop (ι:=Nat) (D:=(fun _=>(0,[]))) (fun i=>i≤es.length∧∀ (j:Nat) (e:Event),j < i→es[j]? = some e→codeE (es.take j) e=0) (fun i=>⟨23,[(3,.rf 0 0),(8,.t (eEventS es)),(9,.t (.i .i64 es.length)),(10,.t (.i .i64 i))],[.box (.ag [.sr 1,.mr 2]),.arr 42 10 .clo ((es.take i).map eEvent),gmO (es.take i)]⟩) (fun i=>es.length - i) mixed (by kernel_rfl) 0 ⟨by omega,fun j e hj=>absurd hj (by omega)⟩ (Keep.wk (ids:=[some 1,none,some 2]) ?_) ?_
 ·simp only [push_cast,zA,zB,zC,zD,zE,zF,zG,↓reduceIte,reduceCtorEq,gmK,gmV,List.take_zero,List.map_nil,gm,gmFrom,gmO]<;>rfl
 ·rintro i ⟨hi,hc⟩
  simp -implicitDefEqProofs (maxSteps:=2000000) only [push_cast,zA,zB,zC,zD,zE,zF,zG,↓reduceIte,reduceCtorEq,eEvent_len,eEvent_isAg,eEvent_ones,eEvent_one]
  have:=Bd.hi
  refine iteI (fun h=>?_) (fun h=>?_)
  ·refine ⟨by omega,fun a ha=>⟨rfl,?_⟩⟩
   rw [Int.toNat_natCast] at ha
   refine Callx.closed (graphCode (es.take i) a hB) rfl rfl (.inr ⟨rfl,rfl⟩) ?_
   simp -implicitDefEqProofs (maxSteps:=2000000) only [push_cast,zA,zB,zC,zD,zE,zF,zG,↓reduceIte,reduceCtorEq,eEvent_len,eEvent_isAg,eEvent_ones,eEvent_one]
   refine iteI (fun h1=>?_) (fun h1=>?_)
   ·have : roomB es=false:=@decide_eq_false _ (Classical.propDecidable _) fun hv=>h1 (valid_snoc ha hv)
    rw [this]; rfl
   ·have h1:=Classical.not_not.1 h1
    have hl : (es.take i).length=i:=by rw [List.length_take]; omega
    have hts : es.take (i + 1)=es.take i ++ [a]:=by rw [List.take_add_one,ha]; rfl
    refine Callx.hand [0,1,2] (graphPut (es.take i) a hB (by omega)) (by decide) (by simp only [push_cast,zA,zB,zC,zD,zE,zF,zG,↓reduceIte,reduceCtorEq]) rfl rfl (by simp only [push_cast,zA,zB,zC,zD,zE,zF,zG,↓reduceIte,reduceCtorEq]<;>rfl) rfl (.inr ⟨rfl,by simp only [push_cast,zA,zB,zC,zD,zE,zF,zG,↓reduceIte,reduceCtorEq]<;>rfl⟩) ?_
    simp -implicitDefEqProofs (maxSteps:=2000000) only [push_cast,zA,zB,zC,zD,zE,zF,zG,↓reduceIte,reduceCtorEq]
    refine ⟨by unfold inI64; omega,i + 1,⟨by omega,fun j e hj hje=>?_⟩,by omega,Keep.wk (ids:=[some 0,some 4,some 2]) ?_⟩
    ·rcases Nat.lt_or_ge j i with h' | h'
     ·exact hc j e h' hje
     ·have : j=i:=by omega
      subst this
      rw [ha] at hje; cases hje; exact h1
    ·simp only [push_cast,zA,zB,zC,zD,zE,zF,zG,↓reduceIte,reduceCtorEq,hts]<;>rfl
  ·rw [List.take_of_length_le (by omega)] at *
   have : roomB es=true:=@decide_eq_true _ (Classical.propDecidable _) fun i e he=>hc i e (by have:=(List.getElem?_eq_some_iff.1 he).1; omega) he
   rw [this]; rfl
end Go.Proofs.YtmgdkkhnjkepiaaGreat.BX
namespace Go.Proofs.YtmgdkkhnjkepiaaGreat.BX
open Nat renaming reduceEqDiff → zA, reduceLT → zB, reduceLeDiff → zC, reduceAdd → zD, reduceMul → zE, reduceSub → zF, reduceBEq → zG
set_option linter.unusedSectionVars false
set_option linter.unusedSimpArgs false
set_option linter.unusedVariables false
open Go Go.RowKit Go.Shelf Go.Sort
set_option maxRecDepth 20000
set_option maxHeartbeats 400000
def srt (l:List (List UInt8)) : List (List UInt8):=l.mergeSort fun x y=>decide (x≤y)
theorem srt_perm {l:List (List UInt8)} : List.Perm (srt l) l:=List.mergeSort_perm ..
end Go.Proofs.YtmgdkkhnjkepiaaGreat.BX
namespace Go.Proofs.YtmgdkkhnjkepiaaGreat.BX
open Nat renaming reduceEqDiff → zA, reduceLT → zB, reduceLeDiff → zC, reduceAdd → zD, reduceMul → zE, reduceSub → zF, reduceBEq → zG
set_option linter.unusedSectionVars false
set_option linter.unusedSimpArgs false
set_option linter.unusedVariables false
open Go Go.RowKit
set_option maxRecDepth 20000
set_option maxHeartbeats 400000
def Asc (l:List (List UInt8)) : Prop:=l.Pairwise (· < ·)
theorem asc_nodup {l:List (List UInt8)} (h:Asc l) : l.Nodup:=h.imp fun hab he=>by subst he; exact List.lt_irrefl _ hab
theorem asc_perm {l m:List (List UInt8)} (hl:Asc l) (hm:Asc m) (hp:List.Perm l m) : l=m:=by
 refine List.Perm.eq_of_pairwise (le:=fun a b=>a≤b) ?_ (hl.imp List.le_of_lt) (hm.imp List.le_of_lt) hp
 intro a b _ _ h1 h2
 exact List.le_antisymm h1 h2
theorem srt_asc {l:List (List UInt8)} (h:l.Nodup) : Asc (srt l):=by
 have h1 : (srt l).Pairwise (fun a b=>decide (a≤b)=true):=by
  refine List.pairwise_mergeSort ?_ ?_ _
  ·intro a b c h1 h2
   simp only [decide_eq_true_eq] at *
   exact List.le_trans h1 h2
  ·intro a b
   simp only [Bool.or_eq_true,decide_eq_true_eq]
   exact List.le_total a b
 have h2 : (srt l).Nodup:=srt_perm.nodup_iff.2 h
 refine (h1.and h2).imp fun ⟨hab,hne⟩=>?_
 simp only [decide_eq_true_eq] at hab
 rcases List.le_iff_lt_or_eq.1 hab with h | h
 ·exact h
 ·exact absurd h hne
def insS (x:List UInt8) (l:List (List UInt8)) : List (List UInt8):=if x∈l then l else l.takeWhile (fun y=>decide (y < x)) ++ x :: l.dropWhile (fun y=>decide (y < x))
def sset (l:List (List UInt8)) : List (List UInt8):=l.foldl (fun o x=>insS x o) []
theorem sset_snoc {l:List (List UInt8)} {i:Nat} {x:List UInt8} (h:l[i]? = some x) : sset (l.take (i + 1))=insS x (sset (l.take i)):=by
 unfold sset
 rw [List.take_add_one,h,List.foldl_append]
 rfl
theorem takeWhile_all {l:List (List UInt8)} {x y:List UInt8} (h:y∈l.takeWhile (fun y=>decide (y < x))) : y < x:=by
 have:=List.all_takeWhile (p:=fun y=>decide (y < x)) (l:=l)
 rw [List.all_eq_true] at this
 simpa using this y h
theorem dropWhile_all {l:List (List UInt8)} (hl:Asc l) {x:List UInt8} (hx:x ∉ l) : ∀ y∈l.dropWhile (fun y=>decide (y < x)),x < y:=by
 induction l with
 | nil => simp
 | cons z l ih =>
   simp only [List.mem_cons,not_or] at hx
   rw [Asc,List.pairwise_cons] at hl
   rw [List.dropWhile_cons]
   split
   ·exact ih hl.2 hx.2
   ·rename_i h
    have hzx : x < z:=by
     have h : ¬ z < x:=by simpa using h
     rcases List.le_iff_lt_or_eq.1 (List.not_lt.1 h) with h | h
     ·exact h
     ·exact absurd h hx.1
    intro y hy
    rcases List.mem_cons.1 hy with rfl | hy
    ·exact hzx
    ·exact List.lt_trans hzx (hl.1 y hy)
theorem insS_asc {l:List (List UInt8)} {x:List UInt8} (hl:Asc l) : Asc (insS x l):=by
 unfold insS
 split
 ·exact hl
 rename_i hx
 refine List.pairwise_append.2 ⟨?_,List.pairwise_cons.2 ⟨dropWhile_all hl hx,?_⟩,fun a ha b hb=>?_⟩
 ·exact List.Pairwise.sublist (List.takeWhile_sublist _) hl
 ·exact List.Pairwise.sublist (List.dropWhile_sublist _) hl
 ·have h1:=takeWhile_all ha
  rcases List.mem_cons.1 hb with rfl | hb
  ·exact h1
  ·exact List.lt_trans h1 (dropWhile_all hl hx b hb)
theorem insS_perm {l:List (List UInt8)} {x:List UInt8} (hx:x ∉ l) : List.Perm (insS x l) (x :: l):=by
 unfold insS
 rw [if_neg hx]
 refine List.perm_middle.trans (List.Perm.cons x ?_)
 rw [List.takeWhile_append_dropWhile]
theorem insS_mem {l:List (List UInt8)} {x y:List UInt8} : y∈insS x l ↔ y=x ∨ y∈l:=by
 by_cases hx : x∈l
 ·unfold insS
  rw [if_pos hx]
  exact ⟨.inr,fun h=>h.elim (fun h=>h ▸ hx) id⟩
 ·rw [(insS_perm hx).mem_iff,List.mem_cons]
theorem insS_at {l:List (List UInt8)} {x:List UInt8} {k:Nat} (hl:Asc l) (hx:x ∉ l) (h1:∀ y∈l.drop k,x < y) (h2:∀ y,0 < k→l[k - 1]? = some y → ¬ x < y) (hk:k≤l.length) : insS x l=l.take k ++ x :: l.drop k:=by
 have ht : ∀ y∈l.take k,y < x:=by
  intro y hy
  obtain ⟨j,hj,rfl⟩:=List.getElem_of_mem hy
  have hj' : j < k∧j < l.length:=by rw [List.length_take] at hj; omega
  have hlast : l[k - 1]'(by omega) < x:=by
   have h:=h2 _ (by omega) (List.getElem?_eq_getElem (by omega))
   rcases List.le_iff_lt_or_eq.1 (List.not_lt.1 h) with h | h
   ·exact h
   ·exact absurd (h ▸ List.getElem_mem (by omega)) hx
  rw [List.getElem_take]
  by_cases he : j=k - 1
  ·subst he; exact hlast
  ·exact List.lt_trans (List.pairwise_iff_getElem.1 hl j (k - 1) hj'.2 (by omega) (by omega)) hlast
 refine asc_perm (insS_asc hl) ?_ ((insS_perm hx).trans ?_)
 ·refine List.pairwise_append.2 ⟨hl.sublist (List.take_sublist _ _),List.pairwise_cons.2 ⟨h1,hl.sublist (List.drop_sublist _ _)⟩,fun a ha b hb=>?_⟩
  rcases List.mem_cons.1 hb with rfl | hb
  ·exact ht a ha
  ·exact List.lt_trans (ht a ha) (h1 b hb)
 ·refine List.Perm.trans ?_ List.perm_middle.symm
  rw [List.take_append_drop]
theorem foldl_asc : ∀ {l o:List (List UInt8)},Asc o→Asc (l.foldl (fun o x=>insS x o) o)
 | [], _, h => h
 | _ :: l, _, h => foldl_asc (l:=l) (insS_asc h)
theorem foldl_mem {y:List UInt8} : ∀ {l o:List (List UInt8)},y∈l.foldl (fun o x=>insS x o) o ↔ y∈l ∨ y∈o
 | [], _ => by simp
 | x :: l, o => by
   rw [List.foldl_cons,foldl_mem,insS_mem,List.mem_cons,or_left_comm,or_assoc]
theorem foldl_len : ∀ {l o:List (List UInt8)},(l.foldl (fun o x=>insS x o) o).length≤o.length + l.length
 | [], _ => by simp
 | x :: l, o => by
   have h : (insS x o).length≤o.length + 1:=by
    by_cases hx : x∈o
    ·unfold insS; rw [if_pos hx]; omega
    ·rw [(insS_perm hx).length_eq]; simp
   have:=foldl_len (l:=l) (o:=insS x o)
   simp only [List.foldl_cons,List.length_cons]
   omega
theorem sset_len {l:List (List UInt8)} : (sset l).length≤l.length:=by
 have:=foldl_len (l:=l) (o:=[])
 simpa [sset] using this
theorem sset_asc {l:List (List UInt8)} : Asc (sset l):=foldl_asc List.Pairwise.nil
theorem sset_mem {l:List (List UInt8)} {y:List UInt8} : y∈sset l ↔ y∈l:=by unfold sset; rw [foldl_mem]; simp
theorem asc_same {l m:List (List UInt8)} (hl:Asc l) (hm:Asc m) (h:∀ x,x∈l ↔ x∈m) : l=m :=
 asc_perm hl hm ((List.perm_ext_iff_of_nodup (asc_nodup hl) (asc_nodup hm)).2 h)
theorem setMapS {xs:List (List UInt8)} {i:Nat} {v:List UInt8} : (List.map T.s xs).set i (T.s v)=List.map T.s (xs.set i v):=List.map_set.symm
theorem mid_at {out:List (List UInt8)} {a:List UInt8} {j:Nat} (hj:j≤out.length) : (out.take j ++ a :: out.drop j)[j]? = some a:=by
 rw [List.getElem?_append_right (by rw [List.length_take]; omega),List.length_take,show j - min j out.length=0 by omega]; rfl
theorem mid_before {out:List (List UInt8)} {a:List UInt8} {j:Nat} (hj:j≤out.length) (h0:0 < j) : (out.take j ++ a :: out.drop j)[j - 1]? = out[j - 1]?:=by
 rw [List.getElem?_append_left (by rw [List.length_take]; omega),List.getElem?_take_of_lt (by omega)]
theorem mid_swap {out:List (List UInt8)} {a b:List UInt8} {j:Nat} (hj:j≤out.length) (h0:0 < j) (hb:out[j - 1]? = some b) : ((out.take j ++ a :: out.drop j).set j b).set (j - 1) a=out.take (j - 1) ++ a :: out.drop (j - 1):=by
 obtain ⟨k,rfl⟩ : ∃ k,j=k + 1:=⟨j - 1,by omega⟩
 simp only [Nat.add_sub_cancel] at *
 obtain ⟨hk,hb⟩:=List.getElem?_eq_some_iff.1 hb
 rw [List.set_append_right _ _ (by rw [List.length_take]; omega),List.length_take,show k + 1 - min (k + 1) out.length=0 by omega,List.set_cons_zero]
 rw [List.take_succ_eq_append_getElem hk,hb,List.append_assoc,List.set_append_right _ _ (by rw [List.length_take]; omega),List.length_take,show k - min k out.length=0 by omega]
 rw [List.drop_eq_getElem_cons hk,hb]
 rfl
variable [Bd]
theorem l2Sorted (l:List (List UInt8)) (hB:Bd.B≤2147483648) : Con P0 172 [eStringS l] (.sr 0) [.arr 9 1 (.own .leaf) ((sset l).map T.s)]:=by
 refine Con.intro (fn:=Tryz.f172) [.tmp 2] (fun i=>if i=8 then (14,[]) else (0,[])) mixed (by kernel_rfl) rfl (by decide) rfl (by rfl) (by kernel_rfl) ?_
 simp -implicitDefEqProofs (maxSteps:=2000000) only [push_cast,zA,zB,zC,zD,zE,zF,zG,↓reduceIte,reduceCtorEq]
 have:=Bd.lo
 refine ⟨rfl,by omega,?_⟩
 refine WL.loop (ι:=Nat) (D:=(fun i=>if i=8 then (14,[]) else (0,[]))) (fun i=>i≤l.length) (fun i=>⟨64,[(0,.t (eStringS l)),(3,.sr 0),(4,.t (.i .i64 i))],[.arr 9 1 (.own .leaf) ((sset (l.take i)).map T.s)]⟩) (fun i=>l.length - i) mixed (by kernel_rfl) 0 (by omega) (Keep.wk (ids:=[some 0]) ?_) ?_
 ·simp only [push_cast,zA,zB,zC,zD,zE,zF,zG,↓reduceIte,reduceCtorEq,sset,List.take_zero,List.foldl_nil]<;>rfl
 ·intro i hi
  simp -implicitDefEqProofs (maxSteps:=2000000) only [push_cast,zA,zB,zC,zD,zE,zF,zG,↓reduceIte,reduceCtorEq]
  intro hlen
  have hhi:=Bd.hi
  refine iteI (fun h=>⟨by omega,fun a ha=>?_⟩) (fun h=>?_)
  ·rw [Int.toNat_natCast] at ha
   have hsn:=sset_snoc ha
   refine Callx.closed (l1Has (sset (l.take i)) a) rfl rfl (.inr ⟨rfl,rfl⟩) ?_
   simp -implicitDefEqProofs (maxSteps:=2000000) only [push_cast,zA,zB,zC,zD,zE,zF,zG,↓reduceIte,reduceCtorEq]
   have hso : Asc (sset (l.take i)):=sset_asc
   refine iteI (fun h1=>?_) (fun h1=>?_)
   ·have hi1 : insS a (sset (l.take i))=sset (l.take i):=if_pos (by simpa using h1)
    refine ⟨by unfold inI64; omega,i + 1,by omega,by omega,Keep.wk (ids:=[some 0]) ?_⟩
    rw [hsn,hi1]
    simp only [push_cast,zA,zB,zC,zD,zE,zF,zG,↓reduceIte,reduceCtorEq]<;>rfl
   ·have hol : (sset (l.take i)).length < l.length:=by
     have:=sset_len (l:=l.take i)
     rw [List.length_take] at this
     omega
    generalize sset (l.take i)=out at *
    refine ⟨by omega,fun a' ha'=>?_⟩
    rw [Int.toNat_natCast,ha] at ha'
    cases ha'
    refine ⟨rfl,by omega,rfl,by omega,by omega,fun _=>⟨by unfold inI64; omega,?_⟩⟩
    refine WL.loop (ι:=Nat) (D:=(fun i=>if i=8 then (14,[]) else (0,[]))) (fun j=>j≤out.length∧∀ y∈out.drop j,a < y) (fun j=>⟨64,[(0,.t (eStringS l)),(3,.sr 0),(4,.t (.i .i64 i)),(5,.t (.i .i64 j))],[.arr 9 1 (.own .leaf) ((out.take j ++ a :: out.drop j).map T.s)]⟩) (fun j=>j) mixed (by kernel_rfl) out.length ⟨Nat.le_refl _,by simp⟩ (Keep.wk (ids:=[some 2]) ?_) ?_
    ·have : ((out.length : Int) + 1 - 1)=out.length:=by omega
     simp only [push_cast,zA,zB,zC,zD,zE,zF,zG,↓reduceIte,reduceCtorEq,this,List.take_length,List.drop_length,List.map_append,List.map_cons,List.map_nil]<;>rfl
    ·rintro j ⟨hj,hja⟩
     simp -implicitDefEqProofs (maxSteps:=2000000) only [push_cast,zA,zB,zC,zD,zE,zF,zG,↓reduceIte,reduceCtorEq,setMapS]
     have hl : (out.take j).length + ((out.drop j).length + 1)=out.length + 1:=by rw [List.length_take,List.length_drop]; omega
     have fin : ∀ (_:∀ y,0 < j→out[j - 1]? = some y → ¬ a < y),out.take j ++ a :: out.drop j=sset (l.take (i + 1)):=fun h=>(hsn.trans (insS_at hso h1 hja h hj)).symm
     refine iteI (fun hp=>?_) (fun hp=>?_)
     ·have e1 : (Int.toNat (j:Int))=j:=Int.toNat_natCast _
      have e2 : (Int.toNat ((j:Int) - 1))=j - 1:=by omega
      simp only [e1,e2]
      refine ⟨by omega,by omega,fun a1 ha1=>?_⟩
      rw [mid_at hj] at ha1
      cases ha1
      refine ⟨by unfold inI64; omega,by omega,by omega,fun b hb=>?_⟩
      have hb':=hb
      rw [mid_before hj (by omega)] at hb
      rw [Go.Proofs.bytesLess_eq]
      refine iteI (fun hl=>?_) (fun hl=>?_)
      ·have hl : a < b:=by simpa using hl
       refine ⟨by omega,by omega,fun a2 ha2=>?_⟩
       rw [mid_at hj] at ha2
       cases ha2
       refine ⟨by unfold inI64; omega,by omega,by omega,fun b2 hb2=>?_⟩
       rw [hb'] at hb2
       cases hb2
       refine ⟨by omega,by omega,fun _ _=>⟨by unfold inI64; omega,by omega,by omega,fun _ _=>⟨by unfold inI64; omega,j - 1,⟨by omega,?_⟩,by omega,Keep.wk (ids:=[some 0]) ?_⟩⟩⟩
       ·intro y hy
        rw [List.drop_eq_getElem_cons (by omega),List.mem_cons] at hy
        rcases hy with rfl | hy
        ·rw [List.getElem?_eq_getElem (by omega)] at hb
         cases hb; exact hl
        ·rw [show j - 1 + 1=j by omega] at hy
         exact hja y hy
       ·rw [mid_swap hj (by omega) hb]
        have e3 : ((j - 1 : Nat) : Int)=(j:Int) - 1:=by omega
        simp only [push_cast,zA,zB,zC,zD,zE,zF,zG,↓reduceIte,reduceCtorEq,e3]<;>rfl
      ·refine ⟨by unfold inI64; omega,i + 1,by omega,by omega,Keep.wk (ids:=[some 0]) ?_⟩
       rw [fin fun y _ hy=>by rw [hb] at hy; cases hy; simpa using hl]
       simp only [push_cast,zA,zB,zC,zD,zE,zF,zG,↓reduceIte,reduceCtorEq]<;>rfl
     ·refine ⟨by unfold inI64; omega,i + 1,by omega,by omega,Keep.wk (ids:=[some 0]) ?_⟩
      rw [fin fun y hy=>absurd hy (by omega)]
      simp only [push_cast,zA,zB,zC,zD,zE,zF,zG,↓reduceIte,reduceCtorEq]<;>rfl
  ·rw [List.take_of_length_le (by omega)]
   exact Close.of [some 0] rfl rfl rfl rfl (by simp only [push_cast,zA,zB,zC,zD,zE,zF,zG,↓reduceIte,reduceCtorEq]<;>rfl)
end Go.Proofs.YtmgdkkhnjkepiaaGreat.BX
namespace Go.Proofs.YtmgdkkhnjkepiaaGreat.BX
open Nat renaming reduceEqDiff → zA, reduceLT → zB, reduceLeDiff → zC, reduceAdd → zD, reduceMul → zE, reduceSub → zF, reduceBEq → zG
set_option linter.unusedSectionVars false
set_option linter.unusedSimpArgs false
set_option linter.unusedVariables false
open Go Go.RowKit
set_option maxRecDepth 20000
set_option maxHeartbeats 400000
def idsN (es:List Event) (p:Nat→Bool) (n:Nat) : List (List UInt8):=(List.range n).filterMap fun i=>if p i=true then (es[i]?).map (·.id) else none
theorem idsN_mem {es:List Event} {p:Nat→Bool} {n:Nat} {x:List UInt8} : x∈idsN es p n ↔ ∃ i e,i < n∧es[i]? = some e∧p i=true∧e.id=x:=by
 unfold idsN
 rw [List.mem_filterMap]
 constructor
 ·rintro ⟨i,hi,h⟩
  split at h
  ·rename_i hp
   rw [Option.map_eq_some_iff] at h
   obtain ⟨e,he,hx⟩:=h
   exact ⟨i,e,List.mem_range.1 hi,he,hp,hx⟩
  ·cases h
 ·rintro ⟨i,e,hi,he,hp,hx⟩
  exact ⟨i,List.mem_range.2 hi,by rw [if_pos hp,he]; exact congrArg some hx⟩
theorem idsN_len {es:List Event} {p:Nat→Bool} {n:Nat} : (idsN es p n).length≤n:=by
 have:=List.length_filterMap_le (fun i=>if p i=true then (es[i]?).map (·.id) else none) (List.range n)
 simpa [idsN] using this
def Once (es:List Event) : Prop:=(es.map (·.id)).Nodup
theorem once_at {es:List Event} (h:Once es) {i j:Nat} {a b:Event} (ha:es[i]? = some a) (hb:es[j]? = some b) (hab:a.id=b.id) : i=j:=by
 obtain ⟨hi,rfl⟩:=List.getElem?_eq_some_iff.1 ha
 obtain ⟨hj,rfl⟩:=List.getElem?_eq_some_iff.1 hb
 have h:=List.pairwise_iff_getElem.1 h
 rcases Nat.lt_trichotomy i j with hlt | rfl | hlt
 ·have q:=h i j (by simpa using hi) (by simpa using hj) hlt
  rw [List.getElem_map,List.getElem_map] at q
  exact absurd hab q
 ·rfl
 ·have q:=h j i (by simpa using hj) (by simpa using hi) hlt
  rw [List.getElem_map,List.getElem_map] at q
  exact absurd hab.symm q
theorem idsN_nodup {es:List Event} (h:Once es) {p:Nat→Bool} {n:Nat} : (idsN es p n).Nodup:=by
 unfold idsN
 refine List.pairwise_filterMap.2 (List.nodup_range.imp fun {i j} hij a ha b hb=>?_)
 rintro rfl
 by_cases h1 : p i=true
 case neg=>rw [if_neg h1] at ha; cases ha
 by_cases h2 : p j=true
 case neg=>rw [if_neg h2] at hb; cases hb
 rw [if_pos h1] at ha
 rw [if_pos h2] at hb
 rw [Option.map_eq_some_iff] at ha hb
 obtain ⟨x,hx,rfl⟩:=ha
 obtain ⟨y,hy,hxy⟩:=hb
 exact hij (once_at h hx hy hxy.symm)
variable [Bd]
end Go.Proofs.YtmgdkkhnjkepiaaGreat.BX
namespace Go.Proofs.YtmgdkkhnjkepiaaGreat.BX
open Nat renaming reduceEqDiff → zA, reduceLT → zB, reduceLeDiff → zC, reduceAdd → zD, reduceMul → zE, reduceSub → zF, reduceBEq → zG
set_option linter.unusedSectionVars false
set_option linter.unusedSimpArgs false
set_option linter.unusedVariables false
open Go Go.RowKit
set_option maxRecDepth 20000
set_option maxHeartbeats 400000
structure Good (es:List Event) (e:Event) : Prop where
 ok : evOk e=0
 new : posOf e.id es=none
 prev : ∀ id∈e.prev,(posOf id es).isSome=true
 auth : ∀ id∈e.auth,(posOf id es).isSome=true
 first : es.length=0 ↔ e.typ=sCreate
 hasPrev : es.length≠0→e.prev.length≠0
 hasAuth : es.length≠0→e.auth.length≠0
 room : es.length < 300
theorem good_of {es:List Event} {e:Event} (h:codeE es e=0) : Good es e:=by
 unfold codeE at h
 split at h
 ·rename_i h1; exact absurd h h1
 rename_i h1
 have h1:=Classical.not_not.1 h1
 unfold cd2 at h
 split at h
 ·cases h
 rename_i h2
 unfold cd3 at h
 split at h
 ·cases h
 rename_i h3
 have h3:=Classical.not_not.1 h3
 unfold cd4 at h
 split at h
 ·cases h
 rename_i h4
 unfold cd5 at h
 split at h
 ·cases h
 rename_i h5
 have ha : ∀ {ids:List (List UInt8)},allIn es ids=true → ∀ id∈ids,(posOf id es).isSome=true:=fun h=>by
  unfold allIn at h; exact of_decide_eq_true h
 simp only [not_or,not_and,Classical.not_not] at h4
 refine ⟨h1,by simpa using h2,ha h3.1,ha h3.2,⟨fun hh=>h4.1 (by omega),fun hh=>Classical.byContradiction fun hn=>?_⟩,fun hn hh=>?_,fun hn hh=>?_,by omega⟩
 ·exact (h4.2 (by omega)).1 hh
 ·exact (h4.2 (by omega)).2.1 (by omega)
 ·exact (h4.2 (by omega)).2.2 (by omega)
theorem Valid.good {es:List Event} (h:Valid es) {i:Nat} {e:Event} (he:es[i]? = some e) : Good (es.take i) e:=good_of (h i e he)
theorem posOf_take {k:List UInt8} {es:List Event} {n i:Nat} (h:posOf k (es.take n)=some i) : posOf k es=some i:=by
 obtain ⟨e,h1,h2,h3⟩:=posOf_some.1 h
 have hi:=posOf_lt h
 rw [List.length_take] at hi
 refine posOf_some.2 ⟨e,?_,h2,?_⟩
 ·rwa [List.getElem?_take_of_lt (by omega)] at h1
 ·rwa [List.take_take,Nat.min_eq_left (by omega)] at h3
theorem Valid.once {es:List Event} (h:Valid es) : Once es:=by
 refine List.pairwise_iff_getElem.2 fun i j hi hj hij=>?_
 rw [List.getElem_map,List.getElem_map]
 have hj' : j < es.length:=by simpa using hj
 have g:=(h.good (List.getElem?_eq_getElem hj')).new
 rw [posOf_none] at g
 exact g _ (List.mem_take_iff_getElem.2 ⟨i,by omega,rfl⟩)
theorem pos_ref {es:List Event} {n:Nat} {id:List UInt8} (h:(posOf id (es.take n)).isSome=true) : ∃ k a,k < n∧es[k]? = some a∧a.id=id∧posOf id es=some k:=by
 obtain ⟨k,hk⟩:=Option.isSome_iff_exists.1 h
 have hp:=posOf_take hk
 have hl:=posOf_lt hk
 rw [List.length_take] at hl
 obtain ⟨a,h1,h2,_⟩:=posOf_some.1 hp
 exact ⟨k,a,by omega,h1,h2,hp⟩
theorem Valid.pos {es:List Event} (h:Valid es) {i:Nat} {e:Event} (he:es[i]? = some e) : posOf e.id es=some i:=by
 obtain ⟨hi,rfl⟩:=List.getElem?_eq_some_iff.1 he
 refine posOf_some.2 ⟨es[i],he,rfl,fun x hx=>?_⟩
 exact (posOf_none.1 (h.good he).new) x hx
theorem Valid.len {es:List Event} (h:Valid es) : es.length≤300:=by
 rcases Nat.eq_zero_or_pos es.length with h0 | h0
 ·omega
 have:=(h.good (List.getElem?_eq_getElem (i:=es.length - 1) (by omega))).room
 rw [List.length_take] at this
 omega
theorem room_valid {es:List Event} (h:roomB es=true) : Valid es:=@of_decide_eq_true _ (Classical.propDecidable _) h
end Go.Proofs.YtmgdkkhnjkepiaaGreat.BX
namespace Go.Proofs.YtmgdkkhnjkepiaaGreat.BX
open Nat renaming reduceEqDiff → zA, reduceLT → zB, reduceLeDiff → zC, reduceAdd → zD, reduceMul → zE, reduceSub → zF, reduceBEq → zG
set_option linter.unusedSectionVars false
set_option linter.unusedSimpArgs false
set_option linter.unusedVariables false
open Go Go.RowKit
set_option maxRecDepth 20000
set_option maxHeartbeats 400000
def authOf (es:List Event) (id:List UInt8) : List (List UInt8):=match posOf id es with
 | some i => match es[i]? with
   | some e => e.auth
   | none => []
 | none => []
theorem authOf_at {es:List Event} {i:Nat} {e:Event} {id:List UInt8} (hp:posOf id es=some i) (he:es[i]? = some e) : authOf es id=e.auth:=by
 unfold authOf; rw [hp]; dsimp only; rw [he]
inductive Anc (es:List Event) (rs:List (List UInt8)) : List UInt8→Prop
 | root {x:List UInt8} : x∈rs→Anc es rs x
 | step {x y:List UInt8} : Anc es rs y→x∈authOf es y→Anc es rs x
theorem Anc.least {es:List Event} {rs:List (List UInt8)} {C:List UInt8→Prop} (h0:∀ x∈rs,C x) (h1:∀ y,C y → ∀ x∈authOf es y,C x) {x:List UInt8} (h:Anc es rs x) : C x:=by
 induction h with
 | root h => exact h0 _ h
 | step _ hx ih => exact h1 _ ih _ hx
def There (es:List Event) (x:List UInt8) : Prop:=(posOf x es).isSome=true
theorem Valid.there {es:List Event} (h:Valid es) {y x:List UInt8} (hx:x∈authOf es y) : There es x:=by
 unfold authOf at hx
 split at hx
 ·split at hx
  ·rename_i e he
   obtain ⟨k,a,_,_,_,hp⟩:=pos_ref ((h.good he).auth x hx)
   unfold There; rw [hp]; rfl
  ·cases hx
 ·cases hx
theorem Anc.there {es:List Event} {rs:List (List UInt8)} (h:Valid es) (hr:∀ x∈rs,There es x) {x:List UInt8} (ha:Anc es rs x) : There es x :=
 ha.least hr fun _ _ _ hx=>h.there hx
theorem there_at {es:List Event} {x:List UInt8} (h:There es x) : ∃ k a,es[k]? = some a∧a.id=x∧posOf x es=some k:=by
 obtain ⟨k,hk⟩:=Option.isSome_iff_exists.1 h
 obtain ⟨a,h1,h2,_⟩:=posOf_some.1 hk
 exact ⟨k,a,h1,h2,hk⟩
theorem len_sub {α:Type} [DecidableEq α] : ∀ {l m:List α},l.Nodup→(∀ x∈l,x∈m)→l.length≤m.length
 | [], _, _, _ => by simp
 | x :: l, m, hn, hs => by
   rw [List.nodup_cons] at hn
   have hx : x∈m:=hs x (by simp)
   have h:=len_sub (l:=l) (m:=m.erase x) hn.2 fun y hy=>(List.mem_erase_of_ne (by rintro rfl; exact hn.1 hy)).2 (hs y (by simp [hy]))
   rw [List.length_erase_of_mem hx] at h
   have:=List.length_pos_of_mem hx
   simp only [List.length_cons]
   omega
structure Out (es:List Event) (rs out done:List (List UInt8)) : Prop where
 nodup : out.Nodup
 anc : ∀ x∈out,Anc es rs x
 all : ∀ x∈done,x∈out
theorem Out.len {es:List Event} {rs out done:List (List UInt8)} (h:Out es rs out done) (hv:Valid es) (hr:∀ x∈rs,There es x) : out.length≤es.length:=by
 have:=len_sub (m:=es.map (·.id)) h.nodup fun x hx=>by
  obtain ⟨k,a,h1,h2,_⟩:=there_at ((h.anc x hx).there hv hr)
  exact List.mem_map.2 ⟨a,List.mem_of_getElem? h1,h2⟩
 simpa using this
theorem Out.old {es:List Event} {rs out done:List (List UInt8)} {x:List UInt8} (h:Out es rs out done) (hx:x∈out) : Out es rs out (done ++ [x]) :=
 ⟨h.nodup,h.anc,fun y hy=>by
  rcases List.mem_append.1 hy with hy | hy
  ·exact h.all y hy
  ·rw [List.mem_singleton.1 hy]; exact hx⟩
theorem Out.new {es:List Event} {rs out done:List (List UInt8)} {x:List UInt8} (h:Out es rs out done) (hx:x ∉ out) (ha:Anc es rs x) : Out es rs (out ++ [x]) (done ++ [x]) :=
 ⟨List.nodup_append.2 ⟨h.nodup,by simp,fun a ha' b hb=>by rw [List.mem_singleton.1 hb]; rintro rfl; exact hx ha'⟩,fun y hy=>by
  rcases List.mem_append.1 hy with hy | hy
  ·exact h.anc y hy
  ·rw [List.mem_singleton.1 hy]; exact ha,fun y hy=>by
  rcases List.mem_append.1 hy with hy | hy
  ·exact List.mem_append_left _ (h.all y hy)
  ·exact List.mem_append_right _ hy⟩
theorem Out.is {es:List Event} {rs out:List (List UInt8)} (h:Out es rs out (rs ++ out.flatMap (authOf es))) (x:List UInt8) : x∈out ↔ Anc es rs x :=
 ⟨h.anc x,fun ha=>ha.least (fun y hy=>h.all y (List.mem_append_left _ hy)) fun y hy z hz=>h.all z (List.mem_append_right _ (List.mem_flatMap.2 ⟨y,hy,hz⟩))⟩
open Classical in
noncomputable def hadA (es:List Event) (rs:List (List UInt8)) : List Bool:=es.map fun a=>decide (Anc es rs a.id)
open Classical in
noncomputable def ancP (es:List Event) (rs:List (List UInt8)) (i:Nat) : Bool:=match es[i]? with
 | some a => decide (Anc es rs a.id)
 | none => false
theorem hadA_get {es:List Event} {rs:List (List UInt8)} {i:Nat} (hi:i < es.length) : (hadA es rs)[i]? = some (ancP es rs i):=by
 unfold hadA ancP
 rw [List.getElem?_map,List.getElem?_eq_getElem hi]
 rfl
theorem hadA_len {es:List Event} {rs:List (List UInt8)} : (hadA es rs).length=es.length:=by simp [hadA]
noncomputable def ancL (es:List Event) (rs:List (List UInt8)) : List (List UInt8):=srt (idsN es (ancP es rs) es.length)
theorem ancL_is {es:List Event} {rs out:List (List UInt8)} (hv:Valid es) (hr:∀ x∈rs,There es x) (h:∀ x,x∈out ↔ Anc es rs x) : sset out=ancL es rs:=by
 refine asc_same sset_asc (srt_asc (idsN_nodup hv.once)) fun x=>?_
 unfold ancL
 rw [sset_mem,h,srt_perm.mem_iff,idsN_mem]
 constructor
 ·intro ha
  obtain ⟨k,a,h1,h2,_⟩:=there_at (ha.there hv hr)
  refine ⟨k,a,(List.getElem?_eq_some_iff.1 h1).1,h1,?_,h2⟩
  unfold ancP; rw [h1]
  exact @decide_eq_true _ (Classical.propDecidable _) (h2 ▸ ha)
 ·rintro ⟨k,a,_,h1,hp,rfl⟩
  unfold ancP at hp; rw [h1] at hp
  exact @of_decide_eq_true _ (Classical.propDecidable _) hp
theorem ancL_len {es:List Event} {rs:List (List UInt8)} : (ancL es rs).length≤es.length:=by
 unfold ancL; rw [srt_perm.length_eq]; exact idsN_len
structure Had (es:List Event) (rs:List (List UInt8)) (had:List Bool) (work:List Nat) (done:List (List UInt8)) (cur:Option Nat) : Prop where
 len : had.length=es.length
 anc : ∀ (k:Nat) (a:Event),es[k]? = some a→had[k]? = some true→Anc es rs a.id
 pile : ∀ k∈work,had[k]? = some true
 all : ∀ x∈done,∀ k,posOf x es=some k→had[k]? = some true
 closed : ∀ (k:Nat) (a:Event),es[k]? = some a→had[k]? = some true→k∈work ∨ cur=some k ∨ ∀ x∈a.auth,∀ j,posOf x es=some j→had[j]? = some true
def unm (had:List Bool) : Nat:=had.count false
theorem unm_set : ∀ {had:List Bool} {k:Nat},had[k]? = some false→unm (had.set k true) + 1=unm had
 | b :: had, 0, h => by
   have : b=false:=by simpa using h
   subst this
   simp [unm]
 | b :: had, k + 1, h => by
   have:=unm_set (had:=had) (k:=k) (by simpa using h)
   unfold unm at *
   simp only [List.set_cons_succ,List.count_cons]
   omega
section
variable {es:List Event} {rs done:List (List UInt8)} {had:List Bool} {work:List Nat} {cur:Option Nat}
theorem had_keep {k j:Nat} (hk:had[k]? = some false) (h:had[j]? = some true) : (had.set k true)[j]? = some true:=by
 rw [List.getElem?_set]
 split
 ·rename_i e
  subst e
  rw [hk] at h; cases h
 ·exact h
theorem had_new {k:Nat} (hk:had[k]? = some false) : (had.set k true)[k]? = some true:=by
 rw [List.getElem?_set_self (List.getElem?_eq_some_iff.1 hk).1]
theorem Had.old (h:Had es rs had work done cur) {x:List UInt8} {k:Nat} (hp:posOf x es=some k) (hk:had[k]? = some true) : Had es rs had work (done ++ [x]) cur:=by
 refine { h with all:=fun y hy j hj=>?_ }
 rcases List.mem_append.1 hy with hy | hy
 ·exact h.all y hy j hj
 ·rw [List.mem_singleton.1 hy,hp] at hj
  cases hj; exact hk
theorem Had.new (h:Had es rs had work done cur) {x:List UInt8} {k:Nat} {e:Event} (hp:posOf x es=some k) (he:es[k]? = some e) (hx:e.id=x) (hk:had[k]? = some false) (ha:Anc es rs x) : Had es rs (had.set k true) (work ++ [k]) (done ++ [x]) cur where
 len:=by rw [List.length_set]; exact h.len
 anc:=fun j a hj hh=>by
  rw [List.getElem?_set] at hh
  split at hh
  ·rename_i e1
   subst e1
   rw [he] at hj; cases hj
   rw [hx]; exact ha
  ·exact h.anc j a hj hh
 pile:=fun j hj=>by
  rcases List.mem_append.1 hj with hj | hj
  ·exact had_keep hk (h.pile j hj)
  ·rw [List.mem_singleton.1 hj]; exact had_new hk
 all:=fun y hy j hj=>by
  rcases List.mem_append.1 hy with hy | hy
  ·exact had_keep hk (h.all y hy j hj)
  ·rw [List.mem_singleton.1 hy,hp] at hj
   cases hj; exact had_new hk
 closed:=fun j a hj hh=>by
  rw [List.getElem?_set] at hh
  split at hh
  ·rename_i e1
   subst e1
   exact .inl (by simp)
  ·rcases h.closed j a hj hh with q | q | q
   ·exact .inl (by simp [q])
   ·exact .inr (.inl q)
   ·exact .inr (.inr fun x hx j hj=>had_keep hk (q x hx j hj))
theorem Had.pop (h:Had es rs had work done none) {k:Nat} (hw:work≠[]) (hk:work[work.length - 1]? = some k) : Had es rs had (work.take (work.length - 1)) done (some k):=by
 refine { h with pile:=fun j hj=>h.pile j (List.mem_of_mem_take hj),closed:=fun j a hj hh=>?_ }
 ··rcases h.closed j a hj hh with q | q | q
   ·have hl : work=work.take (work.length - 1) ++ [k]:=by
     have h0 : 0 < work.length:=List.length_pos_iff.2 hw
     conv=>lhs; rw [← List.take_append_drop (work.length - 1) work]
     congr 1
     rw [List.drop_eq_getElem_cons (by omega)]
     rw [List.getElem?_eq_getElem (by omega)] at hk
     cases hk
     rw [List.drop_of_length_le (by omega)]
    rw [hl] at q
    rcases List.mem_append.1 q with q | q
    ·exact .inl q
    ·exact .inr (.inl (by rw [List.mem_singleton.1 q]))
   ·cases q
   ·exact .inr (.inr q)
theorem Had.seen (h:Had es rs had work done cur) {k:Nat} {e:Event} (hc:cur=some k) (he:es[k]? = some e) (hd:∀ x∈e.auth,x∈done) : Had es rs had work done none:=by
 refine { h with closed:=fun j a hj hh=>?_ }
 ··rcases h.closed j a hj hh with q | q | q
   ·exact .inl q
   ·rw [hc] at q; cases q
    rw [he] at hj; cases hj
    exact .inr (.inr fun x hx i hi=>h.all x (hd x hx) i hi)
   ·exact .inr (.inr q)
theorem Had.is (h:Had es rs had [] done none) (hv:Valid es) (hr:∀ x∈rs,x∈done) (hd:∀ x∈rs,There es x) : had=hadA es rs:=by
 apply List.ext_getElem?
 intro k
 rcases Nat.lt_or_ge k es.length with hk | hk
 ·obtain ⟨a,ha⟩ : ∃ a,es[k]? = some a:=⟨_,List.getElem?_eq_getElem hk⟩
  rw [hadA_get hk]
  unfold ancP
  rw [ha]
  dsimp only
  have hkl : k < had.length:=by rw [h.len]; exact hk
  have hb : had[k]? = some had[k]:=List.getElem?_eq_getElem hkl
  cases hbk : had[k] with
  | true =>
    rw [hbk] at hb
    rw [hb,@decide_eq_true _ (Classical.propDecidable _) (h.anc k a ha hb)]
  | false =>
    rw [hbk] at hb
    rw [hb]
    congr 1
    refine (@decide_eq_false _ (Classical.propDecidable _) fun hA=>?_).symm
    have : ∀ j,posOf a.id es=some j→had[j]? = some true:=hA.least (C:=fun x=>∀ j,posOf x es=some j→had[j]? = some true) (fun x hx j hj=>h.all x (hr x hx) j hj) fun y hy x hx j hj=>by
     unfold authOf at hx
     split at hx
     ·rename_i i hi
      split at hx
      ·rename_i e he
       rcases h.closed i e he (hy i hi) with q | q | q
       ·cases q
       ·cases q
       ·exact q x hx j hj
      ·cases hx
     ·cases hx
    rw [this k (hv.pos ha)] at hb
    cases hb
 ·rw [List.getElem?_eq_none (by rw [h.len]; exact hk),List.getElem?_eq_none (by rw [hadA_len]; exact hk)]
end
end Go.Proofs.YtmgdkkhnjkepiaaGreat.BX
namespace Go.Proofs.YtmgdkkhnjkepiaaGreat.BX
open Nat renaming reduceEqDiff → zA, reduceLT → zB, reduceLeDiff → zC, reduceAdd → zD, reduceMul → zE, reduceSub → zF, reduceBEq → zG
set_option linter.unusedSectionVars false
set_option linter.unusedSimpArgs false
set_option linter.unusedVariables false
open Go Go.RowKit
set_option maxRecDepth 20000
set_option maxHeartbeats 400000
def fromL (es:List Event) (p:Event→Bool) : List (List UInt8)→Option Nat
 | [] => none
 | x :: r => match posOf x es with
   | some j => match es[j]? with
     | some e => if p e=true then some j else fromL es p r
     | none => fromL es p r
   | none => fromL es p r
theorem fromL_some {es:List Event} {p:Event→Bool} {j:Nat} : ∀ {l:List (List UInt8)},fromL es p l=some j → ∃ x∈l,posOf x es=some j∧∃ e,es[j]? = some e∧p e=true
 | [], h => by cases h
 | x :: r, h => by
   have go : fromL es p r=some j → ∃ y∈x :: r,posOf y es=some j∧∃ e,es[j]? = some e∧p e=true:=fun h=>by
    obtain ⟨y,h1,h2⟩:=fromL_some h
    exact ⟨y,by simp [h1],h2⟩
   unfold fromL at h
   split at h
   ·rename_i i hi
    split at h
    ·rename_i e he
     split at h
     ·rename_i hp
      cases h
      exact ⟨x,by simp,hi,e,he,hp⟩
     ·exact go h
    ·exact go h
   ·exact go h
theorem fromL_drop {es:List Event} {p:Event→Bool} {l:List (List UInt8)} {i j:Nat} {x:List UInt8} {e:Event} (hx:l[i]? = some x) (hp:posOf x es=some j) (he:es[j]? = some e) : fromL es p (l.drop i)=if p e=true then some j else fromL es p (l.drop (i + 1)):=by
 obtain ⟨hi,rfl⟩:=List.getElem?_eq_some_iff.1 hx
 rw [List.drop_eq_getElem_cons hi,fromL,hp]
 dsimp only
 rw [he]
theorem fromL_congr {es:List Event} {p q:Event→Bool} : ∀ {l:List (List UInt8)},(∀ e∈es,p e=q e)→fromL es p l=fromL es q l
 | [], _ => rfl
 | x :: r, h => by
   have ih:=fromL_congr (l:=r) h
   unfold fromL
   split
   ·split
    ·rename_i e he
     rw [h e (List.mem_of_getElem? he),ih]
    ·exact ih
   ·exact ih
def isPow (e:Event) : Bool:=decide (e.typ=sPower)
def pwOf (es:List Event) (i:Nat) : Option Nat:=match es[i]? with
 | some e => fromL es isPow e.auth
 | none => none
theorem pwOf_lt {es:List Event} (hv:Valid es) {i j:Nat} (h:pwOf es i=some j) : j < i:=by
 unfold pwOf at h
 split at h
 ·rename_i e he
  obtain ⟨x,h1,h2,_⟩:=fromL_some h
  obtain ⟨k,a,h3,_,_,h4⟩:=pos_ref ((hv.good he).auth x h1)
  rw [h2] at h4; cases h4; exact h3
 ·cases h
variable [Bd]
theorem l6Event (es:List Event) (id:List UInt8) (k:Nat) (e:Event) (hp:posOf id es=some k) (he:es[k]? = some e) : Con P0 141 [eRoom ⟨es⟩,.s id] (.t (eEvent e)) []:=by
 refine Con.intro (fn:=Tryz.f141) [.cell 4 42] (fun i=>if i=1 then (7,[]) else (0,[])) mixed (by kernel_rfl) rfl (by decide) rfl (by rfl) (by kernel_rfl) ?_
 simp -implicitDefEqProofs (maxSteps:=2000000) only [push_cast,zA,zB,zC,zD,zE,zF,zG,↓reduceIte,reduceCtorEq,eRoom]
 have hat : atI es id=k:=by unfold atI; rw [hp]
 have hkl:=(List.getElem?_eq_some_iff.1 he).1
 refine CallV.t (l2At es id) (.inl rfl) ?_
 rw [hat]
 simp -implicitDefEqProofs (maxSteps:=2000000) only [push_cast,zA,zB,zC,zD,zE,zF,zG,↓reduceIte,reduceCtorEq,eRoom]
 refine ⟨by omega,fun e' he'=>?_⟩
 rw [Int.toNat_natCast,he] at he'
 cases he'
 simp -implicitDefEqProofs (maxSteps:=2000000) only [push_cast,zA,zB,zC,zD,zE,zF,zG,↓reduceIte,reduceCtorEq,eRoom,eEvent]
def ofKind (typ key:List UInt8) (e:Event) : Bool:=e.isState && decide (e.typ=typ) && decide (e.key=key)
def idAt (es:List Event) : Option Nat→List UInt8
 | some i => match es[i]? with
   | some e => e.id
   | none => []
 | none => []
theorem l6FromAuth (es:List Event) (e:Event) (typ key:List UInt8) (hr:∀ x∈e.auth,There es x) : Con P0 232 [eRoom ⟨es⟩,eEvent e,.s typ,.s key] (.t (.s (idAt es (fromL es (ofKind typ key) e.auth)))) []:=by
 refine Con.intro (fn:=Tryz.f232) [.tmp 8] (fun i=>if i=4 then (8,[(false,0),(false,1),(false,2),(false,3),(false,4),(false,5),(false,6),(true,7)]) else (0,[])) mixed (by kernel_rfl) rfl (by decide) rfl (by rfl) (by kernel_rfl) ?_
 simp -implicitDefEqProofs (maxSteps:=2000000) only [push_cast,zA,zB,zC,zD,zE,zF,zG,↓reduceIte,reduceCtorEq,eRoom]
 refine WL.loop (ι:=Nat) (D:=(fun i=>if i=4 then (8,[(false,0),(false,1),(false,2),(false,3),(false,4),(false,5),(false,6),(true,7)]) else (0,[]))) (fun i=>i≤e.auth.length∧fromL es (ofKind typ key) (e.auth.drop i)=fromL es (ofKind typ key) e.auth) (fun i=>⟨41,[(2,.t (.s typ)),(3,.t (.s key)),(4,.rf 0 0),(5,.rf 1 0),(9,.t (.i .i64 i))],[.box (.t (eRoom ⟨es⟩)),.box (.t (eEvent e))]⟩) (fun i=>e.auth.length - i) mixed (by kernel_rfl) 0 ⟨by omega,by simp⟩ (Keep.wk (ids:=[some 0,some 1]) ?_) ?_
 ·simp only [push_cast,zA,zB,zC,zD,zE,zF,zG,↓reduceIte,reduceCtorEq,eRoom]<;>rfl
 ·rintro i ⟨hi,hf⟩
  simp -implicitDefEqProofs (maxSteps:=2000000) only [push_cast,zA,zB,zC,zD,zE,zF,zG,↓reduceIte,reduceCtorEq,eRoom,eEvent]
  intro _
  have hhi:=Bd.hi
  refine iteI (fun h=>⟨by omega,fun x hx=>?_⟩) (fun h=>?_)
  ·rw [Int.toNat_natCast] at hx
   obtain ⟨j,a,hja,hid,hp⟩:=there_at (hr x (List.mem_of_getElem? hx))
   refine CallV.t (l6Event es x j a hp hja) (.inl rfl) ?_
   simp -implicitDefEqProofs (maxSteps:=2000000) only [push_cast,zA,zB,zC,zD,zE,zF,zG,↓reduceIte,reduceCtorEq,eRoom,eEvent]
   have hd:=fromL_drop (p:=ofKind typ key) hx hp hja
   rw [hf] at hd
   have no : ¬ ofKind typ key a=true→i + 1≤e.auth.length∧fromL es (ofKind typ key) (e.auth.drop (i + 1))=fromL es (ofKind typ key) e.auth:=fun h=>by
    rw [if_neg h] at hd
    exact ⟨by omega,hd.symm⟩
   have hb : inI64 ((i:Int) + 1):=by unfold inI64; omega
   refine iteI (fun h1=>iteI (fun h2=>iteI (fun h3=>?_) (fun h3=>?_)) (fun h2=>?_)) (fun h1=>?_)
   ·have hk : ofKind typ key a=true:=by simp [ofKind,h1,h2,h3]
    rw [if_pos hk] at hd
    rw [hd]
    simp only [idAt,hja]
   ·refine ⟨hb,i + 1,no (by simp [ofKind,h3]),by omega,Keep.wk (ids:=[some 0,some 1]) ?_⟩
    simp only [push_cast,zA,zB,zC,zD,zE,zF,zG,↓reduceIte,reduceCtorEq,eRoom,eEvent]<;>rfl
   ·refine ⟨hb,i + 1,no (by simp [ofKind,h2]),by omega,Keep.wk (ids:=[some 0,some 1]) ?_⟩
    simp only [push_cast,zA,zB,zC,zD,zE,zF,zG,↓reduceIte,reduceCtorEq,eRoom,eEvent]<;>rfl
   ·refine ⟨hb,i + 1,no (by simp [ofKind,h1]),by omega,Keep.wk (ids:=[some 0,some 1]) ?_⟩
    simp only [push_cast,zA,zB,zC,zD,zE,zF,zG,↓reduceIte,reduceCtorEq,eRoom,eEvent]<;>rfl
  ·rw [List.drop_of_length_le (by omega)] at hf
   rw [← hf]
   rfl
theorem evOk_id {e:Event} (h:evOk e=0) : e.id≠[]:=by
 unfold evOk at h
 split at h
 ·cases h
 rename_i h1
 have h1:=(Classical.not_not.1 h1).1
 rintro hn
 rw [hn] at h1
 simp [isW] at h1
theorem evOk_content {e:Event} (h:evOk e=0) : contentB e=true:=by
 unfold evOk at h
 split at h
 ·cases h
 unfold ev2 at h
 split at h
 ·cases h
 unfold ev3 at h
 split at h
 ·cases h
 unfold ev4 at h
 split at h
 ·cases h
 unfold ev5 at h
 split at h
 ·cases h
 rename_i h1
 exact Classical.not_not.1 h1
theorem pow_kind {es:List Event} (hv:Valid es) : ∀ e∈es,ofKind sPower [] e=isPow e:=by
 intro e he
 obtain ⟨i,hi,rfl⟩:=List.getElem_of_mem he
 have hc:=evOk_content (hv.good (List.getElem?_eq_getElem hi)).ok
 generalize es[i]=e at *
 by_cases hp : e.typ=sPower
 ·unfold contentB at hc
  rw [hp,if_neg (by decide),if_neg (by decide),if_neg (by decide),if_pos rfl] at hc
  simp only [Bool.and_eq_true,decide_eq_true_eq] at hc
  simp [ofKind,isPow,hp,hc.1.1.1,hc.1.1.2]
 ·simp [ofKind,isPow,hp]
theorem l6Power (es:List Event) (hv:Valid es) (i:Nat) (e:Event) (he:es[i]? = some e) : Con P0 199 [eRoom ⟨es⟩,eEvent e] (.t (.s (idAt es (pwOf es i)))) []:=by
 have hpw : pwOf es i=fromL es (ofKind sPower []) e.auth:=by
  unfold pwOf; rw [he]; exact (fromL_congr (pow_kind hv)).symm
 rw [hpw]
 refine Con.intro (fn:=Tryz.f199) [.tmp 4] (fun _=>(0,[])) mixed (by kernel_rfl) rfl (by decide) rfl (by rfl) (by kernel_rfl) ?_
 simp -implicitDefEqProofs (maxSteps:=2000000) only [push_cast,zA,zB,zC,zD,zE,zF,zG,↓reduceIte,reduceCtorEq,eRoom,eEvent]
 refine Callx.closed (l6FromAuth es e sPower [] fun x hx=>?_) rfl rfl (.inl rfl) ?_
 ·obtain ⟨_,_,_,_,_,h⟩:=pos_ref ((hv.good he).auth x hx)
  unfold There; rw [h]; rfl
 simp -implicitDefEqProofs (maxSteps:=2000000) only [push_cast,zA,zB,zC,zD,zE,zF,zG,↓reduceIte,reduceCtorEq,eRoom,eEvent]
def pwI (es:List Event) (i:Nat) : Int:=match pwOf es i with
 | some j => j
 | none => -1
theorem powerOf (es:List Event) (hv:Valid es) (i:Nat) (hi:i < es.length) : Con P0 145 [gT es,.i .i64 i] (.t (.i .i64 (pwI es i))) []:=by
 refine Con.intro (fn:=Tryz.f145) [.tmp 4] (fun _=>(0,[])) mixed (by kernel_rfl) rfl (by decide) rfl (by rfl) (by kernel_rfl) ?_
 simp -implicitDefEqProofs (maxSteps:=2000000) only [push_cast,zA,zB,zC,zD,zE,zF,zG,↓reduceIte,reduceCtorEq,gT,eEvent]
 have hhi:=Bd.hi
 refine ⟨by omega,fun e he hal=>?_⟩
 rw [Int.toNat_natCast] at he
 have hpw : pwOf es i=fromL es isPow e.auth:=by unfold pwOf; rw [he]
 refine WL.loop (ι:=Nat) (D:=(fun _=>(0,[]))) (fun i=>i≤e.auth.length∧fromL es isPow (e.auth.drop i)=fromL es isPow e.auth) (fun i=>⟨38,[(0,.t (gT es)),(15,.t (eStringS e.auth)),(16,.t (.i .i64 e.auth.length)),(17,.t (.i .i64 i))],[]⟩) (fun i=>e.auth.length - i) mixed (by kernel_rfl) 0 ⟨by omega,by simp⟩ (Keep.wk (ids:=[]) ?_) ?_
 ·simp only [push_cast,zA,zB,zC,zD,zE,zF,zG,↓reduceIte,reduceCtorEq,gT]<;>rfl
 ·rintro k ⟨hk,hf⟩
  simp -implicitDefEqProofs (maxSteps:=2000000) only [push_cast,zA,zB,zC,zD,zE,zF,zG,↓reduceIte,reduceCtorEq,gT]
  refine iteI (fun h=>⟨by omega,fun x hx=>?_⟩) (fun h=>?_)
  ·rw [Int.toNat_natCast] at hx
   obtain ⟨j,a,_,hja,hid,hp⟩:=pos_ref ((hv.good he).auth x (List.mem_of_getElem? hx))
   have hjl:=(List.getElem?_eq_some_iff.1 hja).1
   have hd:=fromL_drop (p:=isPow) hx hp hja
   rw [hf] at hd
   refine gLook rfl (fun j' hj'=>?_) (fun hj'=>by rw [hp] at hj'; cases hj')
   rw [hp] at hj'; cases hj'
   simp -implicitDefEqProofs (maxSteps:=2000000) only [push_cast,zA,zB,zC,zD,zE,zF,zG,↓reduceIte,reduceCtorEq,gT,eEvent]
   refine ⟨by omega,fun a' ha'=>?_⟩
   rw [Int.toNat_natCast,hja] at ha'
   cases ha'
   refine iteI (fun h1=>?_) (fun h1=>?_)
   ·rw [if_pos (by simp [isPow,sPower,h1])] at hd
    unfold pwI
    rw [hpw,hd]
   ·rw [if_neg (by simp [isPow,sPower,h1])] at hd
    refine ⟨by unfold inI64; omega,k + 1,⟨by omega,hd.symm⟩,by omega,Keep.wk (ids:=[]) ?_⟩
    simp only [push_cast,zA,zB,zC,zD,zE,zF,zG,↓reduceIte,reduceCtorEq,gT]<;>rfl
  ·rw [List.drop_of_length_le (by omega)] at hf
   unfold pwI
   rw [hpw,← hf]
   rfl
end Go.Proofs.YtmgdkkhnjkepiaaGreat.BX
namespace Go.Proofs.YtmgdkkhnjkepiaaGreat.BX
open Nat renaming reduceEqDiff → zA, reduceLT → zB, reduceLeDiff → zC, reduceAdd → zD, reduceMul → zE, reduceSub → zF, reduceBEq → zG
set_option linter.unusedSectionVars false
set_option linter.unusedSimpArgs false
set_option linter.unusedVariables false
open Go Go.RowKit
set_option maxRecDepth 20000
set_option maxHeartbeats 400000
def dig (k:Nat) : UInt8:=UInt8.ofNat (IntKind.u8.wrap (48 + (k:Int) % 10)).toNat
def digs (k:Nat) (out:List UInt8) : List UInt8:=if _h : k=0 then out else digs (k / 10) (dig k :: out)
termination_by k
decreasing_by omega
theorem digs_zero {out:List UInt8} : digs 0 out=out:=by rw [digs]; simp
theorem digs_pos {k:Nat} {out:List UInt8} (h:0 < k) : digs k out=digs (k / 10) (dig k :: out):=by
 rw [digs,dif_neg (by omega)]
def mkT (k:Int) : List UInt8:=if k≤0 then [109,48] else 109 :: digs k.toNat []
variable [Bd]
theorem markText (k:Int) (hk:k < 1000000000000000000) : Con P0 82 [.i .i64 k] (.t (.s (mkT k))) []:=by
 refine Con.intro (fn:=Tryz.f82) [.tmp 2] (fun _=>(0,[])) mixed (by kernel_rfl) rfl (by decide) rfl (by rfl) (by kernel_rfl) ?_
 simp -implicitDefEqProofs (maxSteps:=2000000) only [push_cast,zA,zB,zC,zD,zE,zF,zG,↓reduceIte,reduceCtorEq]
 have:=Bd.lo
 split
 ·rename_i h
  unfold mkT
  rw [if_pos h]
 rename_i h
 refine WL.loop (ι:=Nat × List UInt8) (D:=(fun _=>(0,[]))) (fun x=>digs x.1 x.2=digs k.toNat []∧∃ m,x.1 < 10 ^ m∧x.2.length + m≤18) (fun x=>⟨20,[(0,.t (.i .i64 x.1)),(3,.t (.s x.2))],[]⟩) (fun x=>x.1) mixed (by kernel_rfl) (k.toNat,[]) ⟨rfl,18,by dsimp only; omega,by simp⟩ (Keep.wk (ids:=[]) ?_) ?_
 ·simp only [push_cast,zA,zB,zC,zD,zE,zF,zG,↓reduceIte,reduceCtorEq,T.i.injEq,AV.t.injEq,Int.toNat_of_nonneg (show 0≤k by omega)]<;>rfl
 ·rintro ⟨j,out⟩ ⟨hj,m,hm,hl⟩
  dsimp only at hj hm hl ⊢
  simp -implicitDefEqProofs (maxSteps:=2000000) only [push_cast,zA,zB,zC,zD,zE,zF,zG,↓reduceIte,reduceCtorEq]
  split
  ·rename_i hpos
   have hm0 : m≠0:=by rintro rfl; simp at hm; omega
   obtain ⟨m',rfl⟩:=Nat.exists_eq_succ_of_ne_zero hm0
   refine ⟨by omega,by omega,by unfold inI64; omega,rfl,by omega,by omega,by omega,by omega,?_,(j / 10,dig j :: out),⟨?_,m',?_,?_⟩,?_,Keep.wk (ids:=[]) ?_⟩
   ·have : 10 ^ (m' + 1)≤10 ^ 18:=Nat.pow_le_pow_right (by omega) (by omega)
    unfold inI64; omega
   ·dsimp only; rw [← hj,digs_pos (k:=j) (by omega)]
   ·dsimp only; rw [Nat.pow_succ] at hm; omega
   ·simp only [List.length_cons]; omega
   ·dsimp only; omega
   ·simp only [push_cast,zA,zB,zC,zD,zE,zF,zG,↓reduceIte,reduceCtorEq]<;>first | rfl | exact ⟨rfl,rfl⟩
  ·have hj0 : j=0:=by omega
   subst hj0
   rw [digs_zero] at hj
   refine ⟨by omega,?_⟩
   unfold mkT
   rw [if_neg h,hj]
end Go.Proofs.YtmgdkkhnjkepiaaGreat.BX
namespace Go.Proofs.YtmgdkkhnjkepiaaGreat.BX
open Nat renaming reduceEqDiff → zA, reduceLT → zB, reduceLeDiff → zC, reduceAdd → zD, reduceMul → zE, reduceSub → zF, reduceBEq → zG
set_option linter.unusedSectionVars false
set_option linter.unusedSimpArgs false
set_option linter.unusedVariables false
open Go Go.RowKit
set_option maxRecDepth 20000
set_option maxHeartbeats 400000
section
variable {α:Type} (mk:α→Int→α) (w:α→Nat)
def mkL : List α→Int→List α
 | [], _ => []
 | x :: xs, k => mk x k :: mkL xs (k + w x)
def totL : List α→Nat
 | [] => 0
 | x :: xs => w x + totL xs
def mkLTo (xs:List α) (k:Int) (i:Nat) : List α:=mkL mk w (xs.take i) k ++ xs.drop i
variable {mk w} {xs:List α} {k:Int} {i:Nat} {x:α}
theorem mkL_len : ∀ {xs:List α} {k:Int},(mkL mk w xs k).length=xs.length
 | [], _ => rfl
 | x :: xs, k => by simp only [mkL,List.length_cons,mkL_len (xs:=xs)]
theorem totL_app : ∀ {xs ys:List α},totL w (xs ++ ys)=totL w xs + totL w ys
 | [], ys => by simp [totL]
 | x :: xs, ys => by simp only [List.cons_append,totL,totL_app (xs:=xs)]; omega
theorem mkL_snoc : ∀ {xs:List α} {k:Int},mkL mk w (xs ++ [x]) k=mkL mk w xs k ++ [mk x (k + totL w xs)]
 | [], k => by simp [mkL,totL]
 | y :: xs, k => by
   simp only [List.cons_append,mkL,totL,mkL_snoc (xs:=xs)]
   rw [show k + w y + (totL w xs:Int)=k + (w y + totL w xs : Nat) by omega]
theorem totL_take (h:xs[i]? = some x) : totL w (xs.take (i + 1))=totL w (xs.take i) + w x:=by
 rw [List.take_add_one,h,totL_app]; rfl
theorem totL_le : totL w (xs.take i)≤totL w xs:=by
 conv=>rhs; rw [← List.take_append_drop i xs,totL_app]
 omega
theorem totL_const {c:Nat} (h:∀ x,w x=c) : ∀ {xs:List α},totL w xs=c * xs.length
 | [] => by simp [totL]
 | x :: xs => by simp only [totL,h,totL_const h (xs:=xs),List.length_cons,Nat.mul_add]; omega
theorem mkLTo_len (h:i≤xs.length) : (mkLTo mk w xs k i).length=xs.length:=by simp [mkLTo,mkL_len]; omega
theorem mkLTo_zero : mkLTo mk w xs k 0=xs:=by simp [mkLTo,mkL]
theorem mkLTo_all : mkLTo mk w xs k xs.length=mkL mk w xs k:=by simp [mkLTo]
theorem mkLTo_get (h:xs[i]? = some x) : (mkLTo mk w xs k i)[i]? = some x:=by
 have hi:=(List.getElem?_eq_some_iff.1 h).1
 unfold mkLTo
 have hl : (mkL mk w (xs.take i) k).length=i:=by rw [mkL_len,List.length_take]; omega
 rw [List.getElem?_append_right (by omega),hl,Nat.sub_self,List.getElem?_drop]
 simpa using h
theorem mkLTo_set (h:xs[i]? = some x) : (mkLTo mk w xs k i).set i (mk x (k + totL w (xs.take i)))=mkLTo mk w xs k (i + 1):=by
 have hi:=(List.getElem?_eq_some_iff.1 h).1
 unfold mkLTo
 have hl : (mkL mk w (xs.take i) k).length=i:=by rw [mkL_len,List.length_take]; omega
 rw [List.set_append_right _ _ (by omega),hl,Nat.sub_self]
 have hd : xs.drop i=x :: xs.drop (i + 1):=by
  rw [List.drop_eq_getElem_cons hi]
  congr 1
  exact (List.getElem?_eq_some_iff.1 h).2
 rw [hd,List.set_cons_zero,List.take_add_one,h,Option.toList_some,mkL_snoc]
 simp
theorem mkL_get (h:xs[i]? = some x) : (mkL mk w xs k)[i]? = some (mk x (k + totL w (xs.take i))):=by
 have hi:=(List.getElem?_eq_some_iff.1 h).1
 have e : xs=(xs.take i ++ [x]) ++ xs.drop (i + 1):=by
  have : xs.take i ++ [x]=xs.take (i + 1):=by rw [List.take_add_one,h]; rfl
  rw [this,List.take_append_drop]
 have app : ∀ (us vs:List α) (k:Int),mkL mk w (us ++ vs) k=mkL mk w us k ++ mkL mk w vs (k + totL w us):=by
  intro us
  induction us with
  | nil => intro vs k; simp [mkL,totL]
  | cons a us ih =>
    intro vs k
    simp only [List.cons_append,mkL,totL,ih]
    rw [show k + w a + (totL w us:Int)=k + (w a + totL w us : Nat) by omega]
 have hl : (mkL mk w (xs.take i) k).length=i:=by rw [mkL_len,List.length_take]; omega
 conv=>lhs; rw [e,app,mkL_snoc]
 rw [List.getElem?_append_left (by rw [List.length_append,hl]; simp),List.getElem?_append_right (by omega),hl,Nat.sub_self]
 rfl
end
def wC {α:Type} (n:Nat) (_:α) : Nat:=n
theorem totC {α:Type} {n:Nat} {xs:List α} : totL (wC n) xs=n * xs.length:=totL_const fun _=>rfl
def mkString1 (_:List UInt8) (k:Int) : List UInt8:=mkT (k)
abbrev mkStringL (xs:List (List UInt8)) (k:Int) : List (List UInt8):=mkL mkString1 (wC 1) xs k
section
variable [Bd]
theorem markStringS (xs:List (List UInt8)) (k:Int) (h0:0≤k) (hk:k + 1 * xs.length≤4611686018427387) : ConM P0 29 [.sr 0,.t (.i .i64 k)] [.arr 9 1 (.own .leaf) (xs.map T.s)] (.t (.i .i64 (k + (totL (wC 1) xs : Nat)))) [.arr 9 1 (.own .leaf) ((mkStringL xs k).map T.s)]:=by
 refine ConM.intro (fn:=Tryz.f29) [.tmp 4] (fun _=>(0,[])) mixed (by kernel_rfl) rfl (by decide) rfl (by rfl) (by kernel_rfl) ?_
 simp -implicitDefEqProofs (maxSteps:=2000000) only [push_cast,zA,zB,zC,zD,zE,zF,zG,↓reduceIte,reduceCtorEq]
 have htt:=totC (n:=1) (xs:=xs)
 refine WL.loop (ι:=Nat) (D:=(fun _=>(0,[]))) (fun i=>i≤xs.length) (fun i=>⟨20,[(0,.sr 0),(1,.t (.i .i64 (k + (totL (wC 1) (xs.take i) : Nat)))),(5,.t (.i .i64 i))],[.arr 9 1 (.own .leaf) ((mkLTo mkString1 (wC 1) xs k i).map T.s)]⟩) (fun i=>xs.length - i) mixed (by kernel_rfl) 0 (by omega) (Keep.wk (ids:=[some 0]) ?_) ?_
 ·simp only [push_cast,zA,zB,zC,zD,zE,zF,zG,↓reduceIte,reduceCtorEq,mkLTo_zero,totL,List.take_zero,Int.add_zero,Int.cast_ofNat_Int]<;>trivial
 ·intro i hi
  simp -implicitDefEqProofs (maxSteps:=2000000) only [push_cast,zA,zB,zC,zD,zE,zF,zG,↓reduceIte,reduceCtorEq,mkLTo_len hi]
  intro _
  have:=Bd.hi
  refine iteI (fun h=>?_) (fun h=>?_)
  ·obtain ⟨x,hx⟩ : ∃ x,xs[i]? = some x:=⟨xs[i],List.getElem?_eq_getElem (by omega)⟩
   have ht:=totL_take (w:=(wC 1)) hx
   have hl:=totL_le (w:=(wC 1)) (xs:=xs) (i:=i + 1)
   have hw : (wC 1) x=1:=rfl
   refine Callx.closed (markText (k + (totL (wC 1) (xs.take i) : Nat)) (by omega)) rfl rfl (.inl rfl) ?_
   simp -implicitDefEqProofs (maxSteps:=2000000) only [push_cast,zA,zB,zC,zD,zE,zF,zG,↓reduceIte,reduceCtorEq,mkLTo_len hi]
   refine ⟨by omega,by omega,fun a ha=>?_⟩
   refine ⟨by unfold inI64; omega,?_⟩
   refine ⟨by unfold inI64; omega,i + 1,by omega,by omega,Keep.wk (ids:=[some 0]) ?_⟩
   have e3 : ((mkLTo mkString1 (wC 1) xs k i).map T.s).set i (T.s (mkT (k + (totL (wC 1) (xs.take i) : Nat))))=(mkLTo mkString1 (wC 1) xs k (i + 1)).map T.s:=by rw [← mkLTo_set hx,List.map_set]; rfl
   simp only [push_cast,zA,zB,zC,zD,zE,zF,zG,↓reduceIte,reduceCtorEq,Int.toNat_natCast,List.set_set,e3,T.i.injEq,AV.t.injEq]<;>omega
  ·have hi : i=xs.length:=by omega
   subst hi
   rw [mkLTo_all,List.take_length]
   exact ⟨rfl,Rest.of [some 0] rfl rfl (by simp only [push_cast,zA,zB,zC,zD,zE,zF,zG,↓reduceIte,reduceCtorEq]<;>rfl)⟩
end
section
variable [Bd]
theorem heldStringS (xs:List (List UInt8)) (k:Int) (h0:0≤k) (hk:k + 1 * xs.length≤4611686018427387) : Con P0 30 [eStringS (mkStringL xs k),.i .i64 k] (.t (.i .i64 (k + (totL (wC 1) xs : Nat)))) []:=by
 refine Con.intro (fn:=Tryz.f30) [.tmp 4] (fun i=>if i=4 then (7,[]) else (0,[])) mixed (by kernel_rfl) rfl (by decide) rfl (by rfl) (by kernel_rfl) ?_
 simp -implicitDefEqProofs (maxSteps:=2000000) only [push_cast,zA,zB,zC,zD,zE,zF,zG,↓reduceIte,reduceCtorEq]
 have htt:=totC (n:=1) (xs:=xs)
 refine WL.loop (ι:=Nat) (D:=(fun i=>if i=4 then (7,[]) else (0,[]))) (fun i=>i≤xs.length) (fun i=>⟨22,[(0,.t (eStringS (mkStringL xs k))),(1,.t (.i .i64 (k + (totL (wC 1) (xs.take i) : Nat)))),(5,.t (.i .i64 i))],[]⟩) (fun i=>xs.length - i) mixed (by kernel_rfl) 0 (by omega) (Keep.wk (ids:=[]) ?_) ?_
 ·simp only [push_cast,zA,zB,zC,zD,zE,zF,zG,↓reduceIte,reduceCtorEq,totL,List.take_zero,Int.add_zero,Int.cast_ofNat_Int]<;>trivial
 ·intro i hi
  simp -implicitDefEqProofs (maxSteps:=2000000) only [push_cast,zA,zB,zC,zD,zE,zF,zG,↓reduceIte,reduceCtorEq,mkL_len]
  intro _
  have:=Bd.hi
  refine iteI (fun h=>?_) (fun h=>?_)
  ·obtain ⟨x,hx⟩ : ∃ x,xs[i]? = some x:=⟨xs[i],List.getElem?_eq_getElem (by omega)⟩
   have ht:=totL_take (w:=(wC 1)) hx
   have hl:=totL_le (w:=(wC 1)) (xs:=xs) (i:=i + 1)
   have hw : (wC 1) x=1:=rfl
   refine ⟨by omega,fun a ha=>?_⟩
   rw [Int.toNat_natCast,mkL_get hx] at ha
   cases ha
   refine CallV.t (markText (k + (totL (wC 1) (xs.take i) : Nat)) (by omega)) (.inl rfl) ?_
   simp -implicitDefEqProofs (maxSteps:=2000000) only [push_cast,zA,zB,zC,zD,zE,zF,zG,↓reduceIte,reduceCtorEq,mkL_len]
   rw [if_neg (fun h=>h rfl)]
   refine ⟨by unfold inI64; omega,?_⟩
   refine ⟨by unfold inI64; omega,i + 1,by omega,by omega,Keep.wk (ids:=[]) ?_⟩
   simp only [push_cast,zA,zB,zC,zD,zE,zF,zG,↓reduceIte,reduceCtorEq,T.i.injEq,AV.t.injEq]<;>omega
  ·have hi : i=xs.length:=by omega
   subst hi
   rw [List.take_length]
end
def mkGrant1 (_:Grant) (k:Int) : Grant:=⟨mkT (k),k + 1⟩
abbrev mkGrantL (xs:List Grant) (k:Int) : List Grant:=mkL mkGrant1 (wC 2) xs k
section
variable [Bd]
theorem markGrantS (xs:List Grant) (k:Int) (h0:0≤k) (hk:k + 2 * xs.length≤4611686018427387) : ConM P0 150 [.sr 0,.t (.i .i64 k)] [.arr 138 2 (.own (.ag [.leaf,.leaf])) (xs.map eGrant)] (.t (.i .i64 (k + (totL (wC 2) xs : Nat)))) [.arr 138 2 (.own (.ag [.leaf,.leaf])) ((mkGrantL xs k).map eGrant)]:=by
 refine ConM.intro (fn:=Tryz.f150) [.tmp 4] (fun _=>(0,[])) mixed (by kernel_rfl) rfl (by decide) rfl (by rfl) (by kernel_rfl) ?_
 simp -implicitDefEqProofs (maxSteps:=2000000) only [push_cast,zA,zB,zC,zD,zE,zF,zG,↓reduceIte,reduceCtorEq]
 have htt:=totC (n:=2) (xs:=xs)
 refine WL.loop (ι:=Nat) (D:=(fun _=>(0,[]))) (fun i=>i≤xs.length) (fun i=>⟨28,[(0,.sr 0),(1,.t (.i .i64 (k + (totL (wC 2) (xs.take i) : Nat)))),(5,.t (.i .i64 i))],[.arr 138 2 (.own (.ag [.leaf,.leaf])) ((mkLTo mkGrant1 (wC 2) xs k i).map eGrant)]⟩) (fun i=>xs.length - i) mixed (by kernel_rfl) 0 (by omega) (Keep.wk (ids:=[some 0]) ?_) ?_
 ·simp only [push_cast,zA,zB,zC,zD,zE,zF,zG,↓reduceIte,reduceCtorEq,mkLTo_zero,totL,List.take_zero,Int.add_zero,Int.cast_ofNat_Int]<;>trivial
 ·intro i hi
  simp -implicitDefEqProofs (maxSteps:=2000000) only [push_cast,zA,zB,zC,zD,zE,zF,zG,↓reduceIte,reduceCtorEq,mkLTo_len hi,eGrant]
  intro _
  have:=Bd.hi
  refine iteI (fun h=>?_) (fun h=>?_)
  ·obtain ⟨x,hx⟩ : ∃ x,xs[i]? = some x:=⟨xs[i],List.getElem?_eq_getElem (by omega)⟩
   have ht:=totL_take (w:=(wC 2)) hx
   have hl:=totL_le (w:=(wC 2)) (xs:=xs) (i:=i + 1)
   have hw : (wC 2) x=2:=rfl
   refine Callx.closed (markText (k + (totL (wC 2) (xs.take i) : Nat)) (by omega)) rfl rfl (.inl rfl) ?_
   simp -implicitDefEqProofs (maxSteps:=2000000) only [push_cast,zA,zB,zC,zD,zE,zF,zG,↓reduceIte,reduceCtorEq,mkLTo_len hi,eGrant]
   refine ⟨by omega,by omega,fun a ha=>?_⟩
   rw [Int.toNat_natCast,mkLTo_get hx] at ha
   obtain rfl : x=a:=Option.some.inj ha
   refine ⟨by unfold inI64; omega,?_⟩
   refine ⟨by omega,by omega,fun _=>?_⟩
   refine ⟨by unfold inI64; omega,?_⟩
   refine ⟨by unfold inI64; omega,i + 1,by omega,by omega,Keep.wk (ids:=[some 0]) ?_⟩
   have e3 : ((mkLTo mkGrant1 (wC 2) xs k i).map eGrant).set i (T.ag [T.s (mkT (k + (totL (wC 2) (xs.take i) : Nat))),T.i .i64 (k + (totL (wC 2) (xs.take i) : Nat) + 1)])=(mkLTo mkGrant1 (wC 2) xs k (i + 1)).map eGrant:=by rw [← mkLTo_set hx,List.map_set]; rfl
   simp only [push_cast,zA,zB,zC,zD,zE,zF,zG,↓reduceIte,reduceCtorEq,Int.toNat_natCast,List.set_set,e3,T.i.injEq,AV.t.injEq]<;>omega
  ·have hi : i=xs.length:=by omega
   subst hi
   rw [mkLTo_all,List.take_length]
   exact ⟨rfl,Rest.of [some 0] rfl rfl (by simp only [push_cast,zA,zB,zC,zD,zE,zF,zG,↓reduceIte,reduceCtorEq]<;>rfl)⟩
end
end Go.Proofs.YtmgdkkhnjkepiaaGreat.BX
namespace Go.Proofs.YtmgdkkhnjkepiaaGreat.BX
open Nat renaming reduceEqDiff → zA, reduceLT → zB, reduceLeDiff → zC, reduceAdd → zD, reduceMul → zE, reduceSub → zF, reduceBEq → zG
set_option linter.unusedSectionVars false
set_option linter.unusedSimpArgs false
set_option linter.unusedVariables false
open Go Go.RowKit
set_option maxRecDepth 20000
set_option maxHeartbeats 400000
def wEv (x:Event) : Nat:=6 + totL (wC 1) x.prev + totL (wC 1) x.auth + 1 + totL (wC 2) x.grants
def mkEv (x:Event) (k:Int) : Event:=⟨mkT k,mkT (k + 1),mkT (k + 1 + 1),decide ((k + 1 + 1 + 1) % 3=0),mkT (k + 1 + 1 + 1 + 1),k + 1 + 1 + 1 + 1 + 1,mkStringL x.prev (k + 1 + 1 + 1 + 1 + 1 + 1),mkStringL x.auth (k + 1 + 1 + 1 + 1 + 1 + 1 + (totL (wC 1) x.prev : Nat)),
 mkT (k + 1 + 1 + 1 + 1 + 1 + 1 + (totL (wC 1) x.prev : Nat) + (totL (wC 1) x.auth : Nat)),mkGrantL x.grants (k + 1 + 1 + 1 + 1 + 1 + 1 + (totL (wC 1) x.prev : Nat) + (totL (wC 1) x.auth : Nat) + 1)⟩
abbrev mkEventL (xs:List Event) (k:Int) : List Event:=mkL mkEv wEv xs k
def mkEv6 (x:Event) (k:Int) : Event:={ x with id:=mkT k,sender:=mkT (k + 1),typ:=mkT (k + 1 + 1),isState:=decide ((k + 1 + 1 + 1) % 3=0),key:=mkT (k + 1 + 1 + 1 + 1),time:=k + 1 + 1 + 1 + 1 + 1 }
def mkEv7 (x:Event) (k:Int) : Event:={ mkEv6 x k with prev:=mkStringL x.prev (k + 1 + 1 + 1 + 1 + 1 + 1) }
def mkEv8 (x:Event) (k:Int) : Event:={ mkEv7 x k with auth:=mkStringL x.auth (k + 1 + 1 + 1 + 1 + 1 + 1 + (totL (wC 1) x.prev : Nat)) }
def mkEv9 (x:Event) (k:Int) : Event:={ mkEv8 x k with value:=mkT (k + 1 + 1 + 1 + 1 + 1 + 1 + (totL (wC 1) x.prev : Nat) + (totL (wC 1) x.auth : Nat)) }
variable [Bd]
theorem markEventS (xs:List Event) (k:Int) (h0:0≤k) (hk:k + totL wEv xs≤4611686018427387) : ConM P0 81 [.sr 0,.t (.i .i64 k)] [.arr 42 10 (.own (.ag [.leaf,.leaf,.leaf,.leaf,.leaf,.leaf,.sl 9 1 .leaf,.sl 9 1 .leaf,.leaf,.sl 138 2 (.ag [.leaf,.leaf])])) (xs.map eEvent)] (.t (.i .i64 (k + (totL wEv xs:Nat)))) [.arr 42 10 (.own (.ag [.leaf,.leaf,.leaf,.leaf,.leaf,.leaf,.sl 9 1 .leaf,.sl 9 1 .leaf,.leaf,.sl 138 2 (.ag [.leaf,.leaf])])) ((mkEventL xs k).map eEvent)]:=by
 refine ConM.intro (fn:=Tryz.f81) [.tmp 4] (fun i=>if i=18 then (999999,[]) else if i=17 then (999999,[]) else (0,[])) mixed (by kernel_rfl) rfl (by decide) rfl (by rfl) (by kernel_rfl) ?_
 simp -implicitDefEqProofs (maxSteps:=2000000) only [push_cast,zA,zB,zC,zD,zE,zF,zG,↓reduceIte,reduceCtorEq]
 refine WL.loop (ι:=Nat) (D:=(fun i=>if i=18 then (999999,[]) else if i=17 then (999999,[]) else (0,[]))) (fun i=>i≤xs.length) (fun i=>⟨90,[(0,.sr 0),(1,.t (.i .i64 (k + (totL wEv (xs.take i) : Nat)))),(5,.t (.i .i64 i))],[.arr 42 10 (.own (.ag [.leaf,.leaf,.leaf,.leaf,.leaf,.leaf,.sl 9 1 .leaf,.sl 9 1 .leaf,.leaf,.sl 138 2 (.ag [.leaf,.leaf])])) ((mkLTo mkEv wEv xs k i).map eEvent)]⟩) (fun i=>xs.length - i) mixed (by kernel_rfl) 0 (by omega) (Keep.wk (ids:=[some 0]) ?_) ?_
 ·simp only [push_cast,zA,zB,zC,zD,zE,zF,zG,↓reduceIte,reduceCtorEq,mkLTo_zero,totL,List.take_zero,Int.add_zero,Int.cast_ofNat_Int]<;>trivial
 ·intro i hi
  simp -implicitDefEqProofs (maxSteps:=2000000) only [push_cast,zA,zB,zC,zD,zE,zF,zG,↓reduceIte,reduceCtorEq,mkLTo_len hi,eEvent]
  intro _
  have:=Bd.hi
  refine iteI (fun h=>?_) (fun h=>?_)
  ·obtain ⟨x,hx⟩ : ∃ x,xs[i]? = some x:=⟨xs[i],List.getElem?_eq_getElem (by omega)⟩
   have ht:=totL_take (w:=wEv) hx
   have hl:=totL_le (w:=wEv) (xs:=xs) (i:=i + 1)
   have hw : wEv x=6 + totL (wC 1) x.prev + totL (wC 1) x.auth + 1 + totL (wC 2) x.grants:=rfl
   have c1:=totC (n:=1) (xs:=x.prev)
   have c2:=totC (n:=1) (xs:=x.auth)
   have c3:=totC (n:=2) (xs:=x.grants)
   refine Callx.closed (markText (k + (totL wEv (xs.take i) : Nat)) (by omega)) rfl rfl (.inl rfl) ?_
   simp -implicitDefEqProofs (maxSteps:=2000000) only [push_cast,zA,zB,zC,zD,zE,zF,zG,↓reduceIte,reduceCtorEq,mkLTo_len hi,eEvent]
   refine ⟨by omega,by omega,fun a ha=>?_⟩
   rw [Int.toNat_natCast,mkLTo_get hx] at ha
   obtain rfl : x=a:=Option.some.inj ha
   refine ⟨by unfold inI64; omega,?_⟩
   refine Callx.closed (markText (k + (totL wEv (xs.take i) : Nat) + 1) (by omega)) rfl rfl (.inl rfl) ?_
   simp -implicitDefEqProofs (maxSteps:=2000000) only [push_cast,zA,zB,zC,zD,zE,zF,zG,↓reduceIte,reduceCtorEq,mkLTo_len hi,eEvent]
   refine ⟨by omega,by omega,fun _=>⟨by unfold inI64; omega,?_⟩⟩
   refine Callx.closed (markText (k + (totL wEv (xs.take i) : Nat) + 1 + 1) (by omega)) rfl rfl (.inl rfl) ?_
   simp -implicitDefEqProofs (maxSteps:=2000000) only [push_cast,zA,zB,zC,zD,zE,zF,zG,↓reduceIte,reduceCtorEq,mkLTo_len hi,eEvent]
   refine ⟨by omega,by omega,fun _=>⟨by unfold inI64; omega,by omega,by omega,by omega,by omega,fun _=>⟨by unfold inI64; omega,?_⟩⟩⟩
   refine Callx.closed (markText (k + (totL wEv (xs.take i) : Nat) + 1 + 1 + 1 + 1) (by omega)) rfl rfl (.inl rfl) ?_
   simp -implicitDefEqProofs (maxSteps:=2000000) only [push_cast,zA,zB,zC,zD,zE,zF,zG,↓reduceIte,reduceCtorEq,mkLTo_len hi,eEvent]
   refine ⟨by omega,by omega,fun _=>⟨by unfold inI64; omega,by omega,by omega,fun _=>⟨by unfold inI64; omega,by omega,.inr ⟨by omega,fun _=>?_⟩⟩⟩⟩
   generalize hK : k + (totL wEv (xs.take i) : Nat)=K
   have hn : (mkLTo mkEv wEv xs k i).length=xs.length:=mkLTo_len hi
   have hset : ∀ (e e':Event),(((mkLTo mkEv wEv xs k i).set i e).map eEvent).set i (eEvent e')=((mkLTo mkEv wEv xs k i).set i e').map eEvent:=fun e e'=>by rw [← List.map_set,List.set_set]
   have hg : ∀ e : Event,(((mkLTo mkEv wEv xs k i).set i e).map eEvent)[i]? = some (eEvent e):=fun e=>by rw [List.getElem?_map,List.getElem?_set_self (by omega)]; rfl
   have h6 : ((mkLTo mkEv wEv xs k i).map eEvent).set i (T.ag [T.s (mkT K),T.s (mkT (K + 1)),T.s (mkT (K + 1 + 1)),T.b (decide ((K + 1 + 1 + 1) % 3=0)),T.s (mkT (K + 1 + 1 + 1 + 1)),T.i .i64 (K + 1 + 1 + 1 + 1 + 1),eStringS x.prev,eStringS x.auth,T.s x.value,eGrantS x.grants])=((mkLTo mkEv wEv xs k i).set i (mkEv6 x K)).map eEvent:=by rw [List.map_set]; rfl
   rw [Int.toNat_natCast,h6]
   refine Callx.hand [1] (markStringS x.prev (K + 1 + 1 + 1 + 1 + 1 + 1) (by omega) (by omega)) (by decide) ?_ rfl rfl ?_ rfl (.inr ⟨rfl,by simp only [push_cast,zA,zB,zC,zD,zE,zF,zG,↓reduceIte,reduceCtorEq]⟩) ?_
   ·simp only [push_cast,zA,zB,zC,zD,zE,zF,zG,↓reduceIte,reduceCtorEq]
   ·simp only [push_cast,zA,zB,zC,zD,zE,zF,zG,↓reduceIte,reduceCtorEq]<;>rfl
   simp -implicitDefEqProofs (maxSteps:=2000000) only [push_cast,zA,zB,zC,zD,zE,zF,zG,↓reduceIte,reduceCtorEq]
   refine W.cut (ι:=Unit) (D:=(fun i=>if i=18 then (999999,[]) else (0,[]))) (fun _=>True) (fun _=>⟨90,[(0,.sr 0),(1,.t (.i .i64 (K + 1 + 1 + 1 + 1 + 1 + 1 + (totL (wC 1) x.prev : Nat)))),(5,.t (.i .i64 i))],[.arr 42 10 (.own (.ag [.leaf,.leaf,.leaf,.leaf,.leaf,.leaf,.sl 9 1 .leaf,.sl 9 1 .leaf,.leaf,.sl 138 2 (.ag [.leaf,.leaf])])) (((mkLTo mkEv wEv xs k i).set i (mkEv7 x K)).map eEvent)]⟩) mixed (by kernel_rfl) () trivial (Wk.trans (Wk.close (id:=0) (n:=1) rfl rfl rfl (hg _)) (Keep.wk (ids:=[some 0]) ?_)) (fun _ _=>?_)
   ·have e:=hset (mkEv6 x K) (mkEv7 x K)
    rw [show eEvent (mkEv7 x K)=(eEvent (mkEv6 x K)).setCell 6 (.sl ((mkStringL x.prev (K + 1 + 1 + 1 + 1 + 1 + 1)).map T.s)) from rfl] at e
    simp only [push_cast,zA,zB,zC,zD,zE,zF,zG,↓reduceIte,reduceCtorEq,e]<;>rfl
   simp -implicitDefEqProofs (maxSteps:=2000000) only [push_cast,zA,zB,zC,zD,zE,zF,zG,↓reduceIte,reduceCtorEq,List.length_set,mkLTo_len hi,eEvent_len,eEvent_isAg,eEvent_ones,eEvent_one]
   refine ⟨by omega,.inr ⟨by omega,fun a ha=>?_⟩⟩
   rw [Int.toNat_natCast,List.getElem?_set_self (by omega)] at ha
   obtain rfl:=Option.some.inj ha
   rw [Int.toNat_natCast]
   refine Callx.hand [1] (markStringS x.auth (K + 1 + 1 + 1 + 1 + 1 + 1 + (totL (wC 1) x.prev : Nat)) (by omega) (by omega)) (by decide) ?_ rfl rfl ?_ rfl (.inr ⟨rfl,by simp only [push_cast,zA,zB,zC,zD,zE,zF,zG,↓reduceIte,reduceCtorEq]⟩) ?_
   ·simp only [push_cast,zA,zB,zC,zD,zE,zF,zG,↓reduceIte,reduceCtorEq]
   ·simp only [push_cast,zA,zB,zC,zD,zE,zF,zG,↓reduceIte,reduceCtorEq]<;>rfl
   simp -implicitDefEqProofs (maxSteps:=2000000) only [push_cast,zA,zB,zC,zD,zE,zF,zG,↓reduceIte,reduceCtorEq]
   refine W.cut (ι:=Unit) (D:=(fun _=>(0,[]))) (fun _=>True) (fun _=>⟨90,[(0,.sr 0),(1,.t (.i .i64 (K + 1 + 1 + 1 + 1 + 1 + 1 + (totL (wC 1) x.prev : Nat) + (totL (wC 1) x.auth : Nat)))),(5,.t (.i .i64 i))],[.arr 42 10 (.own (.ag [.leaf,.leaf,.leaf,.leaf,.leaf,.leaf,.sl 9 1 .leaf,.sl 9 1 .leaf,.leaf,.sl 138 2 (.ag [.leaf,.leaf])])) (((mkLTo mkEv wEv xs k i).set i (mkEv8 x K)).map eEvent)]⟩) mixed (by kernel_rfl) () trivial (Wk.trans (Wk.close (id:=0) (n:=1) rfl rfl rfl (hg _)) (Keep.wk (ids:=[some 0]) ?_)) (fun _ _=>?_)
   ·have e:=hset (mkEv7 x K) (mkEv8 x K)
    rw [show eEvent (mkEv8 x K)=(eEvent (mkEv7 x K)).setCell 7 (.sl ((mkStringL x.auth (K + 1 + 1 + 1 + 1 + 1 + 1 + (totL (wC 1) x.prev : Nat))).map T.s)) from rfl] at e
    simp only [push_cast,zA,zB,zC,zD,zE,zF,zG,↓reduceIte,reduceCtorEq,e]<;>rfl
   simp -implicitDefEqProofs (maxSteps:=2000000) only [push_cast,zA,zB,zC,zD,zE,zF,zG,↓reduceIte,reduceCtorEq,List.length_set,mkLTo_len hi,eEvent_len,eEvent_isAg,eEvent_ones,eEvent_one]
   refine Callx.closed (markText (K + 1 + 1 + 1 + 1 + 1 + 1 + (totL (wC 1) x.prev : Nat) + (totL (wC 1) x.auth : Nat)) (by omega)) rfl rfl (.inl rfl) ?_
   simp -implicitDefEqProofs (maxSteps:=2000000) only [push_cast,zA,zB,zC,zD,zE,zF,zG,↓reduceIte,reduceCtorEq,List.length_set,mkLTo_len hi,eEvent]
   refine ⟨by omega,by omega,fun a ha=>⟨by unfold inI64; omega,by omega,.inr ⟨by omega,fun _=>?_⟩⟩⟩
   rw [Int.toNat_natCast,List.getElem?_set_self (by omega)] at ha
   obtain rfl:=Option.some.inj ha
   have e9:=hset (mkEv8 x K) (mkEv9 x K)
   have e9' : eEvent (mkEv9 x K)=T.ag [T.s (mkEv8 x K).id,T.s (mkEv8 x K).sender,T.s (mkEv8 x K).typ,T.b (mkEv8 x K).isState,T.s (mkEv8 x K).key,T.i .i64 (mkEv8 x K).time,eStringS (mkEv8 x K).prev,eStringS (mkEv8 x K).auth,T.s (mkT (K + 1 + 1 + 1 + 1 + 1 + 1 + (totL (wC 1) x.prev : Nat) + (totL (wC 1) x.auth : Nat))),eGrantS (mkEv8 x K).grants]:=rfl
   rw [Int.toNat_natCast,← e9',e9]
   refine Callx.hand [1] (markGrantS x.grants (K + 1 + 1 + 1 + 1 + 1 + 1 + (totL (wC 1) x.prev : Nat) + (totL (wC 1) x.auth : Nat) + 1) (by omega) (by omega)) (by decide) ?_ rfl rfl ?_ rfl (.inr ⟨rfl,by simp only [push_cast,zA,zB,zC,zD,zE,zF,zG,↓reduceIte,reduceCtorEq]⟩) ?_
   ·simp only [push_cast,zA,zB,zC,zD,zE,zF,zG,↓reduceIte,reduceCtorEq]<;>rfl
   ·simp only [push_cast,zA,zB,zC,zD,zE,zF,zG,↓reduceIte,reduceCtorEq]<;>rfl
   simp -implicitDefEqProofs (maxSteps:=2000000) only [push_cast,zA,zB,zC,zD,zE,zF,zG,↓reduceIte,reduceCtorEq]
   refine ⟨by unfold inI64; omega,i + 1,by omega,by omega,Wk.trans (Wk.close (id:=0) (n:=1) rfl rfl rfl (hg _)) (Keep.wk (ids:=[some 0]) ?_)⟩
   have e:=hset (mkEv9 x K) (mkEv x K)
   rw [show eEvent (mkEv x K)=(eEvent (mkEv9 x K)).setCell 9 (.sl ((mkGrantL x.grants (K + 1 + 1 + 1 + 1 + 1 + 1 + (totL (wC 1) x.prev : Nat) + (totL (wC 1) x.auth : Nat) + 1)).map eGrant)) from rfl] at e
   have e' : ((mkLTo mkEv wEv xs k i).set i (mkEv x K)).map eEvent=(mkLTo mkEv wEv xs k (i + 1)).map eEvent:=by rw [← hK,mkLTo_set hx]
   rw [e'] at e
   simp only [push_cast,zA,zB,zC,zD,zE,zF,zG,↓reduceIte,reduceCtorEq,e,T.i.injEq,AV.t.injEq]<;>omega
  ·have hi : i=xs.length:=by omega
   subst hi
   rw [mkLTo_all,List.take_length]
   exact ⟨rfl,Rest.of [some 0] rfl rfl (by simp only [push_cast,zA,zB,zC,zD,zE,zF,zG,↓reduceIte,reduceCtorEq]<;>rfl)⟩
theorem markRoom (r:Room) (k:Int) (h0:0≤k) (hk:k + totL wEv r.events≤4611686018427387) : ConM P0 28 [.ag [.sr 0],.t (.i .i64 k)] [.arr 42 10 (.own (.ag [.leaf,.leaf,.leaf,.leaf,.leaf,.leaf,.sl 9 1 .leaf,.sl 9 1 .leaf,.leaf,.sl 138 2 (.ag [.leaf,.leaf])])) (r.events.map eEvent)] (.t (.i .i64 (k + (totL wEv r.events : Nat)))) [.arr 42 10 (.own (.ag [.leaf,.leaf,.leaf,.leaf,.leaf,.leaf,.sl 9 1 .leaf,.sl 9 1 .leaf,.leaf,.sl 138 2 (.ag [.leaf,.leaf])])) ((mkEventL r.events k).map eEvent)]:=by
 refine ConM.intro (fn:=Tryz.f28) [.tmp 4] (fun _=>(0,[])) mixed (by kernel_rfl) rfl (by decide) rfl (by rfl) (by kernel_rfl) ?_
 simp -implicitDefEqProofs (maxSteps:=2000000) only [push_cast,zA,zB,zC,zD,zE,zF,zG,↓reduceIte,reduceCtorEq]
 refine Callx.hand [0] (markEventS r.events k h0 hk) (by decide) (by simp only [push_cast,zA,zB,zC,zD,zE,zF,zG,↓reduceIte,reduceCtorEq]) rfl rfl (by simp only [push_cast,zA,zB,zC,zD,zE,zF,zG,↓reduceIte,reduceCtorEq]<;>rfl) rfl (.inr ⟨rfl,by simp only [push_cast,zA,zB,zC,zD,zE,zF,zG,↓reduceIte,reduceCtorEq]⟩) ?_
 simp -implicitDefEqProofs (maxSteps:=2000000) only [push_cast,zA,zB,zC,zD,zE,zF,zG,↓reduceIte,reduceCtorEq]
 exact Rest.of [some 0] rfl rfl (by simp only [push_cast,zA,zB,zC,zD,zE,zF,zG,↓reduceIte,reduceCtorEq]<;>rfl)
theorem totEv_le : ∀ (xs:List Event),totL wEv xs≤10 * (eEventS xs).wt
 | [] => by simp [totL]
 | x :: xs => by
   have ih:=totEv_le xs
   have c1:=totC (n:=1) (xs:=x.prev)
   have c2:=totC (n:=1) (xs:=x.auth)
   have c3:=totC (n:=2) (xs:=x.grants)
   have e1 : (eEventS (x :: xs)).wt=xs.length + 1 + ((eEvent x).wt + wts (xs.map eEvent)):=by simp [T.wt,wts]
   have e2 : (eEventS xs).wt=xs.length + wts (xs.map eEvent):=by simp [T.wt]
   have e3 : x.prev.length + x.auth.length + x.grants.length≤(eEvent x).wt:=by simp only [eEvent,T.wt,wts,List.length_map]; omega
   have : wEv x=6 + totL (wC 1) x.prev + totL (wC 1) x.auth + 1 + totL (wC 2) x.grants:=rfl
   simp only [totL]
   omega
end Go.Proofs.YtmgdkkhnjkepiaaGreat.BX
namespace Go.Proofs.YtmgdkkhnjkepiaaGreat.BX
open Nat renaming reduceEqDiff → zA, reduceLT → zB, reduceLeDiff → zC, reduceAdd → zD, reduceMul → zE, reduceSub → zF, reduceBEq → zG
set_option linter.unusedSectionVars false
set_option linter.unusedSimpArgs false
set_option linter.unusedVariables false
open Go Go.RowKit
set_option maxRecDepth 20000
set_option maxHeartbeats 400000
structure Tot (lt:List UInt8→List UInt8→Bool) : Prop where
 irr : ∀ a,lt a a=false
 trans : ∀ a b c,lt a b=true→lt b c=true→lt a c=true
 tri : ∀ a b,a≠b→lt a b=true ∨ lt b a=true
section
variable {lt:List UInt8→List UInt8→Bool}
theorem Tot.asymm (h:Tot lt) {a b:List UInt8} (h1:lt a b=true) : lt b a=false:=by
 cases h2 : lt b a with
 | false => rfl
 | true => have:=h.trans _ _ _ h1 h2; rw [h.irr] at this; cases this
theorem Tot.flip (h:Tot lt) {a b:List UInt8} (h1:lt a b=false) (hne:a≠b) : lt b a=true:=(h.tri a b hne).elim (fun h2=>by rw [h1] at h2; cases h2) id
end
def plc (line:List (List UInt8)) (x:List UInt8) : Nat:=(line.takeWhile fun y=>decide (y≠x)).length
def depthAt (es:List Event) (line:List (List UInt8)) (i:Nat) : Nat:=match es[i]? with
 | some e => if e.id∈line then plc line e.id else (match pwOf es i with
   | some j => if _h : j < i then depthAt es line j else line.length
   | none => line.length)
 | none => line.length
termination_by i
decreasing_by exact _h
def timI (es:List Event) (x:List UInt8) : Int:=match posOf x es with
 | some i => match es[i]? with
   | some e => e.time
   | none => 0
 | none => 0
theorem timI_at {es:List Event} {x:List UInt8} {i:Nat} {e:Event} (hp:posOf x es=some i) (he:es[i]? = some e) : timI es x=e.time:=by
 unfold timI; rw [hp]; dsimp only; rw [he]
end Go.Proofs.YtmgdkkhnjkepiaaGreat.BX
namespace Go.Proofs.YtmgdkkhnjkepiaaGreat.BX
open Nat renaming reduceEqDiff → zA, reduceLT → zB, reduceLeDiff → zC, reduceAdd → zD, reduceMul → zE, reduceSub → zF, reduceBEq → zG
set_option linter.unusedSectionVars false
set_option linter.unusedSimpArgs false
set_option linter.unusedVariables false
open Go Go.RowKit
set_option maxRecDepth 20000
set_option maxHeartbeats 400000
theorem bytesLess_eq : ∀ (x y:List UInt8),Op.bytesLess x y=decide (x < y)
 | [], [] => by simp [Op.bytesLess]
 | _ :: _, [] => by simp [Op.bytesLess]
 | [], _ :: _ => by simp [Op.bytesLess]
 | a :: x, b :: y => by
   rw [Op.bytesLess,bytesLess_eq x y]
   simp only [List.cons_lt_cons_iff]
   by_cases h1 : a < b<;>by_cases h2 : a=b<;>by_cases h3 : x < y<;>simp [h1,h2,h3]
theorem less_irrefl (x:List UInt8) : Op.bytesLess x x=false:=by
 rw [bytesLess_eq]; simp [List.lt_irrefl]
theorem less_total {x y:List UInt8} (h:Op.bytesLess x y=false) (k:Op.bytesLess y x=false) : x=y:=by
 rw [bytesLess_eq] at h k
 simp only [decide_eq_false_iff_not] at h k
 exact List.le_antisymm k h
def before (a b:Entry) : Bool:=if ¬ a.typ=b.typ then Op.bytesLess a.typ b.typ else Op.bytesLess a.key b.key
def cmpS (x y:List UInt8) : Int:=if Op.bytesLess x y=true then -1 else if Op.bytesLess y x=true then 1 else 0
theorem cmpS_neg {x y:List UInt8} : cmpS x y < 0 ↔ Op.bytesLess x y=true:=by
 unfold cmpS
 split
 ·simp [*]
 ·split<;>simp_all
theorem cmpS_zero {x y:List UInt8} : cmpS x y=0 ↔ x=y:=by
 unfold cmpS
 split
 ·rename_i h
  refine ⟨fun h=>by omega,fun e=>?_⟩
  subst e; rw [less_irrefl] at h; cases h
 ·split
  ·rename_i _ h
   refine ⟨fun h=>by omega,fun e=>?_⟩
   subst e; rw [less_irrefl] at h; cases h
  ·rename_i h k
   exact ⟨fun _=>less_total (by simpa using h) (by simpa using k),fun _=>rfl⟩
variable [Bd]
theorem isNaN (x:List UInt8) : Con P0 182 [.s x] (.t (.b false)) []:=by
 refine Con.intro (fn:=Tryz.f182) [.tmp 2] (fun _=>(0,[])) mixed (by kernel_rfl) rfl (by decide) rfl (by rfl) (by kernel_rfl) ?_
 simp -implicitDefEqProofs (maxSteps:=2000000) only [push_cast,zA,zB,zC,zD,zE,zF,zG,↓reduceIte,reduceCtorEq]
theorem compareS (x y:List UInt8) : Con P0 111 [.s x,.s y] (.t (.i .i64 (cmpS x y))) []:=by
 refine Con.intro (fn:=Tryz.f111) [.tmp 4] (fun _=>(0,[])) mixed (by kernel_rfl) rfl (by decide) rfl (by rfl) (by kernel_rfl) ?_
 simp -implicitDefEqProofs (maxSteps:=2000000) only [push_cast,zA,zB,zC,zD,zE,zF,zG,↓reduceIte,reduceCtorEq]
 refine Callx.closed (isNaN x) rfl rfl (.inl rfl) ?_
 simp -implicitDefEqProofs (maxSteps:=2000000) only [push_cast,zA,zB,zC,zD,zE,zF,zG,↓reduceIte,reduceCtorEq]
 refine Callx.closed (isNaN y) rfl rfl (.inl rfl) ?_
 simp -implicitDefEqProofs (maxSteps:=2000000) only [push_cast,zA,zB,zC,zD,zE,zF,zG,↓reduceIte,reduceCtorEq]
 unfold cmpS
 split
 ·rfl
 rename_i h
 split
 ·rename_i k
  refine congrArg (T.i .i64) (if_pos ?_).symm
  cases hyx : Op.bytesLess y x with
  | true => rfl
  | false =>
    have:=less_total (by simpa using h) hyx
    simp [this] at k
 ·rename_i k
  refine congrArg (T.i .i64) (if_neg ?_).symm
  intro hyx
  refine k ?_
  have hne : ¬ x=y:=by rintro rfl; rw [less_irrefl] at hyx; cases hyx
  simp [h,hne]
def firstNz : List Int→Int
 | [] => 0
 | x :: xs => if x≠0 then x else firstNz xs
theorem firstNz_at {xs:List Int} : ∀ {i:Nat} {a:Int},xs[i]? = some a→(∀ x∈xs.take i,x=0)→a≠0→firstNz xs=a:=by
 induction xs with
 | nil => intro i a h; simp at h
 | cons x xs ih =>
   intro i a h h0 ha
   cases i with
   | zero => simp at h; subst h; simp [firstNz,ha]
   | succ i =>
     simp only [List.getElem?_cons_succ] at h
     have hx : x=0:=h0 x (by simp)
     simp only [firstNz,hx,ne_eq,not_true,if_false]
     exact ih h (fun y hy=>h0 y (by simp [hy])) ha
theorem firstNz_all {xs:List Int} (h:∀ x∈xs,x=0) : firstNz xs=0:=by
 induction xs with
 | nil => rfl
 | cons x xs ih => simp only [firstNz,h x (by simp),ne_eq,not_true,if_false]; exact ih fun y hy=>h y (by simp [hy])
theorem cmpOr (xs:List Int) : Con P0 110 [eIntS xs] (.t (.i .i64 (firstNz xs))) []:=by
 refine Con.intro (fn:=Tryz.f110) [.tmp 2] (fun _=>(0,[])) mixed (by kernel_rfl) rfl (by decide) rfl (by rfl) (by kernel_rfl) ?_
 simp -implicitDefEqProofs (maxSteps:=2000000) only [push_cast,zA,zB,zC,zD,zE,zF,zG,↓reduceIte,reduceCtorEq]
 intro hl
 have:=Bd.hi
 refine WL.loop (ι:=Nat) (D:=(fun _=>(0,[]))) (fun i=>i≤xs.length∧∀ x∈xs.take i,x=0) (fun i=>⟨18,[(8,.t (.i .i64 i)),(7,.t (.i .i64 xs.length)),(6,.t (eIntS xs)),(3,.t (.i .i64 0))],[]⟩) (fun i=>xs.length - i) mixed (by kernel_rfl) 0 ⟨by omega,by simp⟩ (Keep.wk (ids:=[]) ?_) ?_
 ·simp only [push_cast,zA,zB,zC,zD,zE,zF,zG,↓reduceIte,reduceCtorEq]<;>rfl
 ·rintro i ⟨hi,hc⟩
  simp -implicitDefEqProofs (maxSteps:=2000000) only [push_cast,zA,zB,zC,zD,zE,zF,zG,↓reduceIte,reduceCtorEq]
  split
  ·rename_i h
   refine ⟨by omega,fun a ha=>?_⟩
   rw [Int.toNat_natCast] at ha
   split
   ·rename_i hne
    exact congrArg (T.i .i64) (firstNz_at ha hc hne).symm
   ·rename_i h0
    refine ⟨by unfold inI64; omega,i + 1,⟨by omega,fun e he=>?_⟩,by omega,Keep.wk (ids:=[]) ?_⟩
    ·rw [List.take_add_one,ha] at he
     rcases List.mem_append.1 he with he | he
     ·exact hc e he
     ·simp at he; subst he; omega
    ·simp only [push_cast,zA,zB,zC,zD,zE,zF,zG,↓reduceIte,reduceCtorEq]<;>rfl
  ·have hi : i=xs.length:=by omega
   subst hi
   rw [List.take_length] at hc
   exact congrArg (T.i .i64) (firstNz_all hc).symm
end Go.Proofs.YtmgdkkhnjkepiaaGreat.BX
namespace Go.Proofs.YtmgdkkhnjkepiaaGreat.BX
open Nat renaming reduceEqDiff → zA, reduceLT → zB, reduceLeDiff → zC, reduceAdd → zD, reduceMul → zE, reduceSub → zF, reduceBEq → zG
set_option linter.unusedSectionVars false
set_option linter.unusedSimpArgs false
set_option linter.unusedVariables false
open Go Go.RowKit
set_option maxRecDepth 20000
set_option maxHeartbeats 400000
def same (a b:Entry) : Bool:=decide (a.typ=b.typ) && decide (a.key=b.key)
abbrev SlotK:=List UInt8 × List UInt8
def Entry.slot (e:Entry) : SlotK:=(e.typ,e.key)
def live (s:List Entry) : List (SlotK × List UInt8):=s.foldl (fun m e=>aset e.slot e.id m) []
variable [Bd]
end Go.Proofs.YtmgdkkhnjkepiaaGreat.BX
namespace Go.Proofs.YtmgdkkhnjkepiaaGreat.BX
open Nat renaming reduceEqDiff → zA, reduceLT → zB, reduceLeDiff → zC, reduceAdd → zD, reduceMul → zE, reduceSub → zF, reduceBEq → zG
set_option linter.unusedSectionVars false
set_option linter.unusedSimpArgs false
set_option linter.unusedVariables false
open Go Go.RowKit
set_option maxRecDepth 20000
set_option maxHeartbeats 400000
def inFront (gs:List Grant) (u:List UInt8) : Nat:=(gs.takeWhile fun g=>decide (g.name < u)).length
theorem inFront_at {gs:List Grant} {u:List UInt8} {i:Nat} (h1:∀ k g,k < i→gs[k]? = some g→g.name < u) (h2:∀ g,gs[i]? = some g → ¬ g.name < u) (hi:i≤gs.length) : inFront gs u=i:=by
 have : gs.takeWhile (fun g=>decide (g.name < u))=gs.take i:=by
  induction gs generalizing i with
  | nil => simp
  | cons x r ih =>
    cases i with
    | zero =>
      have:=h2 x rfl
      rw [List.takeWhile_cons_of_neg (by simpa using this)]; rfl
    | succ i =>
      have:=h1 0 x (by omega) rfl
      rw [List.takeWhile_cons_of_pos (by simpa using this),List.take_succ_cons,ih (i:=i) (fun k g hk hg=>h1 (k + 1) g (by omega) (by simpa using hg)) (fun g hg=>h2 g (by simpa using hg)) (by simpa using hi)]
 unfold inFront
 rw [this,List.length_take]
 omega
def GOrd (gs:List Grant) : Prop:=∀ (i j:Nat) (a b:Grant),i < j→gs[i]? = some a→gs[j]? = some b→a.name < b.name
theorem gOrd_of {gs:List Grant} (h:∀ (i:Nat) (a b:Grant),gs[i]? = some a→gs[i + 1]? = some b→Op.bytesLess a.name b.name=true) : GOrd gs:=by
 intro i j a b hij ha hb
 induction j generalizing b with
 | zero => omega
 | succ j ih =>
   have hj : j < gs.length:=by have:=(List.getElem?_eq_some_iff.1 hb).1; omega
   have h1:=h j gs[j] b (List.getElem?_eq_getElem hj) hb
   rw [Go.Proofs.bytesLess_eq,decide_eq_true_eq] at h1
   rcases Nat.lt_or_ge i j with h2 | h2
   ·exact List.lt_trans (ih gs[j] h2 (List.getElem?_eq_getElem hj)) h1
   ·have : i=j:=by omega
    subst this
    rw [List.getElem?_eq_getElem hj] at ha
    cases ha; exact h1
def grantL (gs:List Grant) (u:List UInt8) : Option Grant:=gs.find? fun g=>decide (g.name=u)
theorem grant_none {gs:List Grant} {u:List UInt8} : grantL gs u=none ↔ ∀ g∈gs,g.name≠u:=by
 unfold grantL; rw [List.find?_eq_none]; simp
theorem grant_at {gs:List Grant} {u:List UInt8} {i:Nat} {g:Grant} (hg:gs[i]? = some g) (hn:g.name=u) (h:∀ x∈gs.take i,x.name≠u) : grantL gs u=some g:=by
 obtain ⟨hi,hgi⟩:=List.getElem?_eq_some_iff.1 hg
 have hs : gs=gs.take i ++ g :: gs.drop (i + 1):=by
  rw [← hgi,← List.drop_eq_getElem_cons hi,List.take_append_drop]
 unfold grantL
 rw [hs,List.find?_append,List.find?_eq_none.2 (by simpa using h),List.find?_cons_of_pos (by simpa using hn)]
 rfl
theorem grant_front {gs:List Grant} {u:List UInt8} {i:Nat} (ho:GOrd gs) (h1:∀ k g,k < i→gs[k]? = some g→g.name < u) (h2:∀ g,gs[i]? = some g → ¬ g.name < u) :
 (∃ g,gs[i]? = some g∧g.name=u∧grantL gs u=some g) ∨ ((∀ g,gs[i]? = some g→g.name≠u)∧grantL gs u=none):=by
 by_cases hg : ∃ g,gs[i]? = some g∧g.name=u
 ·obtain ⟨g,hg,hn⟩:=hg
  refine .inl ⟨g,hg,hn,grant_at hg hn fun x hx=>?_⟩
  obtain ⟨k,hk,rfl⟩:=List.getElem_of_mem hx
  rw [List.getElem_take]
  rw [List.length_take] at hk
  intro he
  have:=h1 k _ (by omega) (List.getElem?_eq_getElem (by omega))
  rw [he] at this
  exact List.lt_irrefl _ this
 ·refine .inr ⟨fun g hgi hn=>hg ⟨g,hgi,hn⟩,grant_none.2 fun g hm hn=>?_⟩
  obtain ⟨k,hk,rfl⟩:=List.getElem_of_mem hm
  rcases Nat.lt_trichotomy k i with h | h | h
  ·have:=h1 k _ h (List.getElem?_eq_getElem hk)
   rw [hn] at this
   exact List.lt_irrefl _ this
  ·subst h
   exact hg ⟨_,List.getElem?_eq_getElem hk,hn⟩
  ·have hi : i < gs.length:=by omega
   have q:=ho i k _ _ h (List.getElem?_eq_getElem hi) (List.getElem?_eq_getElem hk)
   rw [hn] at q
   exact h2 _ (List.getElem?_eq_getElem hi) q
theorem front_lt {u:List UInt8} : ∀ {gs:List Grant} {k:Nat} {g:Grant},k < inFront gs u→gs[k]? = some g→g.name < u
 | [], k, g, h, _ => by simp [inFront] at h
 | x :: r, k, g, h, hg => by
   unfold inFront at h
   rw [List.takeWhile_cons] at h
   split at h
   ·rename_i hx
    cases k with
    | zero => simp at hg; subst hg; simpa using hx
    | succ k => exact front_lt (gs:=r) (k:=k) (by unfold inFront; simpa using h) (by simpa using hg)
   ·simp at h
theorem front_ge {u:List UInt8} : ∀ {gs:List Grant} {g:Grant},gs[inFront gs u]? = some g → ¬ g.name < u
 | [], g, h => by simp at h
 | x :: r, g, h => by
   unfold inFront at h
   rw [List.takeWhile_cons] at h
   split at h
   ·exact front_ge (gs:=r) (by unfold inFront; simpa using h)
   ·rename_i hx
    simp at h
    subst h
    simpa using hx
def grT (o:Option Grant) : T:=match o with
 | some g => .tp [.i .i64 g.level,.b true]
 | none => .tp [.i .i64 0,.b false]
variable [Bd]
theorem l5Grant (gs:List Grant) (u:List UInt8) : Con P0 125 [eGrantS gs,.s u] (.t (grT (grantL gs u))) []:=by
 refine Con.intro (fn:=Tryz.f125) [.tmp 4,.tmp 5] (fun _=>(0,[])) mixed (by kernel_rfl) rfl (by decide) rfl (by rfl) (by kernel_rfl) ?_
 simp -implicitDefEqProofs (maxSteps:=2000000) only [push_cast,zA,zB,zC,zD,zE,zF,zG,↓reduceIte,reduceCtorEq]
 refine WL.loop (ι:=Nat) (D:=(fun _=>(0,[]))) (fun i=>i≤gs.length∧∀ x∈gs.take i,x.name≠u) (fun i=>⟨25,[(0,.t (eGrantS gs)),(1,.t (.s u)),(6,.t (.i .i64 i))],[]⟩) (fun i=>gs.length - i) mixed (by kernel_rfl) 0 ⟨by omega,by simp⟩ (Keep.wk (ids:=[]) ?_) ?_
 ·simp only [push_cast,zA,zB,zC,zD,zE,zF,zG,↓reduceIte,reduceCtorEq]<;>rfl
 ·rintro i ⟨hi,hc⟩
  simp -implicitDefEqProofs (maxSteps:=2000000) only [push_cast,zA,zB,zC,zD,zE,zF,zG,↓reduceIte,reduceCtorEq,eGrant]
  intro _
  have:=Bd.hi
  refine iteI (fun h=>⟨by omega,fun g hg=>?_⟩) (fun h=>?_)
  ·rw [Int.toNat_natCast] at hg
   refine iteI (fun h1=>⟨by omega,fun g' hg'=>?_⟩) (fun h1=>?_)
   ·rw [Int.toNat_natCast,hg] at hg'
    cases hg'
    rw [grant_at hg h1 hc]
    rfl
   ·refine ⟨by unfold inI64; omega,i + 1,⟨by omega,take_snoc hg hc h1⟩,by omega,Keep.wk (ids:=[]) ?_⟩
    simp only [push_cast,zA,zB,zC,zD,zE,zF,zG,↓reduceIte,reduceCtorEq]<;>rfl
  ·rw [List.take_of_length_le (by omega)] at hc
   rw [grant_none.2 hc]
   rfl
theorem cmpGrant (g:Grant) (u:List UInt8) : Con P0 231 [eGrant g,.s u] (.t (.i .i64 (cmpS g.name u))) []:=by
 refine Con.intro (fn:=Tryz.f231) [.tmp 4] (fun _=>(0,[])) mixed (by kernel_rfl) rfl (by decide) rfl (by rfl) (by kernel_rfl) ?_
 simp -implicitDefEqProofs (maxSteps:=2000000) only [push_cast,zA,zB,zC,zD,zE,zF,zG,↓reduceIte,reduceCtorEq,eGrant]
 refine Callx.closed (compareS g.name u) rfl rfl (.inl rfl) ?_
 simp -implicitDefEqProofs (maxSteps:=2000000) only [push_cast,zA,zB,zC,zD,zE,zF,zG,↓reduceIte,reduceCtorEq,eGrant]
def bsB (gs:List Grant) (u:List UInt8) : Bool:=match gs[inFront gs u]? with
 | some g => decide (g.name=u)
 | none => false
theorem bsearch (gs:List Grant) (u:List UInt8) (ho:GOrd gs) (hB:Bd.B≤2147483648) : Con P0 230 [eGrantS gs,.s u,.fn 231 []] (.t (.tp [.i .i64 (inFront gs u),.b (bsB gs u)])) []:=by
 refine Con.intro (fn:=Tryz.f230) [.tmp 6,.tmp 7] (fun _=>(0,[])) mixed (by kernel_rfl) rfl (by decide) rfl (by rfl) (by kernel_rfl) ?_
 simp -implicitDefEqProofs (maxSteps:=2000000) only [push_cast,zA,zB,zC,zD,zE,zF,zG,↓reduceIte,reduceCtorEq]
 intro hl
 have:=Bd.hi
 refine WL.loop (ι:=Nat × Nat) (D:=(fun _=>(0,[]))) (fun i=>i.1≤i.2∧i.2≤gs.length∧(∀ k g,k < i.1→gs[k]? = some g→g.name < u)∧∀ k g,i.2≤k→gs[k]? = some g → ¬ g.name < u) (fun i=>⟨49,[(0,.t (eGrantS gs)),(1,.t (.s u)),(2,.t (.fn 231 [])),(8,.t (.i .i64 gs.length)),(9,.t (.i .i64 i.1)),(10,.t (.i .i64 i.2))],[]⟩) (fun i=>i.2 - i.1) mixed (by kernel_rfl) (0,gs.length) ⟨by simp,by simp,by simp,fun k g hk hg=>by have:=(List.getElem?_eq_some_iff.1 hg).1; simp only at hk; omega⟩ (Keep.wk (ids:=[]) ?_) ?_
 ·simp only [push_cast,zA,zB,zC,zD,zE,zF,zG,↓reduceIte,reduceCtorEq]<;>rfl
 ·rintro ⟨lo,hi⟩ ⟨h1,h2,h3,h4⟩
  simp only at h1 h2 h3 h4
  simp -implicitDefEqProofs (maxSteps:=2000000) only [push_cast,zA,zB,zC,zD,zE,zF,zG,↓reduceIte,reduceCtorEq]
  refine iteI (fun h=>?_) (fun h=>?_)
  ·have hm : IntKind.i64.wrap (IntKind.u64.wrap ((lo:Int) + hi) / 2 ^ Int.toNat 1)=(((lo + hi) / 2 : Nat) : Int):=by
    rw [IntWalk.u64_in _ ⟨by omega,by omega⟩]
    have : (2:Int) ^ Int.toNat 1=2:=rfl
    rw [this,IntWalk.i64_in _ ⟨by omega,by omega⟩]
    omega
   rw [hm]
   obtain ⟨m,hme⟩ : ∃ m,(lo + hi) / 2=m:=⟨_,rfl⟩
   rw [hme]
   refine ⟨by unfold inI64; omega,by omega,by omega,by omega,fun g hg=>?_⟩
   rw [Int.toNat_natCast] at hg
   refine Callx.closed (cmpGrant g u) rfl rfl (.inl rfl) ?_
   simp -implicitDefEqProofs (maxSteps:=2000000) only [push_cast,zA,zB,zC,zD,zE,zF,zG,↓reduceIte,reduceCtorEq]
   have hlt : cmpS g.name u < 0 ↔ g.name < u:=by rw [cmpS_neg,Go.Proofs.bytesLess_eq,decide_eq_true_eq]
   refine iteI (fun hc=>?_) (fun hc=>?_)
   ·refine ⟨by unfold inI64; omega,(m + 1,hi),⟨by simp only; omega,h2,fun k x hk hx=>?_,h4⟩,by simp only; omega,Keep.wk (ids:=[]) ?_⟩
    ·rcases Nat.lt_or_ge k m with h | h
     ·exact List.lt_trans (ho k m x g h hx hg) (hlt.1 hc)
     ·have : k=m:=by simp only at hk; omega
      subst this
      rw [hg] at hx; cases hx; exact hlt.1 hc
    ·simp only [push_cast,zA,zB,zC,zD,zE,zF,zG,↓reduceIte,reduceCtorEq]<;>rfl
   ·refine ⟨(lo,m),⟨by simp only; omega,by simp only; omega,h3,fun k x hk hx hl=>?_⟩,by simp only; omega,Keep.wk (ids:=[]) ?_⟩
    ·refine hc (hlt.2 ?_)
     rcases Nat.lt_or_ge m k with h | h
     ·exact List.lt_trans (ho m k g x h hg hx) hl
     ·have : k=m:=by simp only at hk; omega
      subst this
      rw [hg] at hx; cases hx; exact hl
    ·simp only [push_cast,zA,zB,zC,zD,zE,zF,zG,↓reduceIte,reduceCtorEq]<;>rfl
  ·have hlh : lo=hi:=by omega
   subst hlh
   have hf:=inFront_at h3 (fun g hg=>h4 lo g (Nat.le_refl _) hg) h2
   unfold bsB
   rw [hf]
   refine iteI (fun hc=>⟨by omega,fun g hg=>?_⟩) (fun hc=>?_)
   ·rw [Int.toNat_natCast] at hg
    refine Callx.closed (cmpGrant g u) rfl rfl (.inl rfl) ?_
    simp -implicitDefEqProofs (maxSteps:=2000000) only [push_cast,zA,zB,zC,zD,zE,zF,zG,↓reduceIte,reduceCtorEq]
    rw [hg]
    simp only [cmpS_zero]
   ·rw [List.getElem?_eq_none (by omega)]
theorem grantOf (e:Event) (u:List UInt8) (ho:GOrd e.grants) (hB:Bd.B≤2147483648) : Con P0 198 [.po (eEvent e) 0,.s u] (.t (grT (grantL e.grants u))) []:=by
 refine Con.intro (fn:=Tryz.f198) [.tmp 4,.tmp 5] (fun _=>(0,[])) mixed (by kernel_rfl) rfl (by decide) rfl (by rfl) (by kernel_rfl) ?_
 simp -implicitDefEqProofs (maxSteps:=2000000) only [push_cast,zA,zB,zC,zD,zE,zF,zG,↓reduceIte,reduceCtorEq,eEvent]
 refine Callx.closed (bsearch e.grants u ho hB) rfl rfl (.inr ⟨rfl,rfl⟩) ?_
 simp -implicitDefEqProofs (maxSteps:=2000000) only [push_cast,zA,zB,zC,zD,zE,zF,zG,↓reduceIte,reduceCtorEq,eEvent,eGrant]
 rcases grant_front ho (fun k g=>front_lt (u:=u)) (fun g=>front_ge) with ⟨g,h1,h2,h3⟩ | ⟨h1,h2⟩
 ·have hb : bsB e.grants u=true:=by unfold bsB; rw [h1]; simp [h2]
  have hl:=(List.getElem?_eq_some_iff.1 h1).1
  rw [hb,if_neg (by simp),h3]
  refine ⟨by omega,fun a ha=>?_⟩
  rw [Int.toNat_natCast,h1] at ha
  cases ha
  rfl
 ·have hb : bsB e.grants u=false:=by
   unfold bsB
   split
   ·rename_i g hg; simp [h1 g hg]
   ·rfl
  rw [hb,if_pos (by rfl),h2]
  rfl
def sDefault : List UInt8:=[42,100,101,102,97,117,108,116]
def levelBy (gs:List Grant) (u:List UInt8) : Int:=match grantL gs u with
 | some g => g.level
 | none => match grantL gs sDefault with
   | some g => g.level
   | none => 0
theorem l5ByGrants (gs:List Grant) (u:List UInt8) : Con P0 185 [eGrantS gs,.s u] (.t (.i .i64 (levelBy gs u))) []:=by
 refine Con.intro (fn:=Tryz.f185) [.tmp 4] (fun _=>(0,[])) mixed (by kernel_rfl) rfl (by decide) rfl (by rfl) (by kernel_rfl) ?_
 simp -implicitDefEqProofs (maxSteps:=2000000) only [push_cast,zA,zB,zC,zD,zE,zF,zG,↓reduceIte,reduceCtorEq]
 refine Callx.closed (l5Grant gs u) rfl rfl (.inl rfl) ?_
 unfold levelBy
 cases h : grantL gs u with
 | some g =>
   simp -implicitDefEqProofs (maxSteps:=2000000) only [push_cast,zA,zB,zC,zD,zE,zF,zG,↓reduceIte,reduceCtorEq,grT]
 | none =>
   simp -implicitDefEqProofs (maxSteps:=2000000) only [push_cast,zA,zB,zC,zD,zE,zF,zG,↓reduceIte,reduceCtorEq,grT]
   refine Callx.closed (l5Grant gs sDefault) rfl rfl (.inl rfl) ?_
   cases h : grantL gs sDefault with
   | some g =>
     simp -implicitDefEqProofs (maxSteps:=2000000) only [push_cast,zA,zB,zC,zD,zE,zF,zG,↓reduceIte,reduceCtorEq,grT]
   | none =>
     simp -implicitDefEqProofs (maxSteps:=2000000) only [push_cast,zA,zB,zC,zD,zE,zF,zG,↓reduceIte,reduceCtorEq,grT]
theorem implLevelBy (e:Event) (u:List UInt8) (ho:GOrd e.grants) (hB:Bd.B≤2147483648) : Con P0 184 [.po (eEvent e) 0,.s u] (.t (.i .i64 (levelBy e.grants u))) []:=by
 refine Con.intro (fn:=Tryz.f184) [.tmp 4] (fun _=>(0,[])) mixed (by kernel_rfl) rfl (by decide) rfl (by rfl) (by kernel_rfl) ?_
 simp -implicitDefEqProofs (maxSteps:=2000000) only [push_cast,zA,zB,zC,zD,zE,zF,zG,↓reduceIte,reduceCtorEq]
 refine Callx.closed (grantOf e u ho hB) rfl rfl (.inl rfl) ?_
 unfold levelBy
 cases h : grantL e.grants u with
 | some g =>
   simp -implicitDefEqProofs (maxSteps:=2000000) only [push_cast,zA,zB,zC,zD,zE,zF,zG,↓reduceIte,reduceCtorEq,grT]
 | none =>
   simp -implicitDefEqProofs (maxSteps:=2000000) only [push_cast,zA,zB,zC,zD,zE,zF,zG,↓reduceIte,reduceCtorEq,grT]
   refine Callx.closed (grantOf e sDefault ho hB) rfl rfl (.inl rfl) ?_
   cases h : grantL e.grants sDefault with
   | some g =>
     simp -implicitDefEqProofs (maxSteps:=2000000) only [push_cast,zA,zB,zC,zD,zE,zF,zG,↓reduceIte,reduceCtorEq,grT]
   | none =>
     simp -implicitDefEqProofs (maxSteps:=2000000) only [push_cast,zA,zB,zC,zD,zE,zF,zG,↓reduceIte,reduceCtorEq,grT]
end Go.Proofs.YtmgdkkhnjkepiaaGreat.BX
namespace Go.Proofs.YtmgdkkhnjkepiaaGreat.BX
open Nat renaming reduceEqDiff → zA, reduceLT → zB, reduceLeDiff → zC, reduceAdd → zD, reduceMul → zE, reduceSub → zF, reduceBEq → zG
set_option linter.unusedSectionVars false
set_option linter.unusedSimpArgs false
set_option linter.unusedVariables false
open Go Go.RowKit
set_option maxRecDepth 20000
set_option maxHeartbeats 400000
variable [Bd]
theorem l2Chain (es:List Event) (ids:List (List UInt8)) (hv:Valid es) (hids:∀ id∈ids,There es id) (hB:Bd.B≤2147483648) : Con P0 98 [eRoom ⟨es⟩,eStringS ids] (.sr 0) [.arr 9 1 (.own .leaf) ((ancL es (ids.flatMap (authOf es))).map T.s)]:=by
 refine Con.intro (fn:=Tryz.f98) [.tmp 4] (fun i=>if i=14 then (12,[]) else if i=5 then (12,[]) else (0,[])) mixed (by kernel_rfl) rfl (by decide) rfl (by rfl) (by kernel_rfl) ?_
 simp -implicitDefEqProofs (maxSteps:=2000000) only [push_cast,zA,zB,zC,zD,zE,zF,zG,↓reduceIte,reduceCtorEq,eRoom]
 have:=Bd.lo
 have hhi:=Bd.hi
 have hel:=hv.len
 have hrs : ∀ x∈ids.flatMap (authOf es),There es x:=fun x hx=>by
  obtain ⟨y,_,hx⟩:=List.mem_flatMap.1 hx
  exact hv.there hx
 obtain ⟨rs,hrse⟩ : ∃ rs,ids.flatMap (authOf es)=rs:=⟨_,rfl⟩
 rw [hrse] at hrs ⊢
 refine ⟨rfl,by omega,?_⟩
 refine WL.loop (ι:=Nat × List (List UInt8)) (D:=(fun i=>if i=14 then (12,[]) else if i=5 then (12,[]) else (0,[]))) (fun i=>i.1≤ids.length∧Out es rs i.2 ((ids.take i.1).flatMap (authOf es))) (fun i=>⟨89,[(1,.t (eStringS ids)),(2,.rf 0 0),(5,.sr 1),(6,.t (.i .i64 i.1))],[.box (.t (eRoom ⟨es⟩)),.arr 9 1 (.own .leaf) (i.2.map T.s)]⟩) (fun i=>ids.length - i.1) mixed (by kernel_rfl) (0,[]) ⟨by simp,by simp,by simp,by simp⟩ (Keep.wk (ids:=[some 0,some 1]) ?_) ?_
 ·simp only [push_cast,zA,zB,zC,zD,zE,zF,zG,↓reduceIte,reduceCtorEq,eRoom]<;>rfl
 ·rintro ⟨i,out⟩ ⟨hi,ho⟩
  simp only at hi ho
  have hol:=ho.len hv hrs
  simp -implicitDefEqProofs (maxSteps:=2000000) only [push_cast,zA,zB,zC,zD,zE,zF,zG,↓reduceIte,reduceCtorEq,eRoom]
  intro hlen
  refine iteI (fun h=>?_) (fun h=>?_)
  ·refine ⟨by omega,fun id hid=>?_⟩
   rw [Int.toNat_natCast] at hid
   obtain ⟨k,e,hke,heid,hp⟩:=there_at (hids id (List.mem_of_getElem? hid))
   have hau:=authOf_at hp hke
   have hat : atI es id=k:=by unfold atI; rw [hp]
   refine CallV.t (l2At es id) (.inl rfl) ?_
   rw [hat]
   simp -implicitDefEqProofs (maxSteps:=2000000) only [push_cast,zA,zB,zC,zD,zE,zF,zG,↓reduceIte,reduceCtorEq,eRoom]
   have hkl:=(List.getElem?_eq_some_iff.1 hke).1
   refine ⟨by omega,fun e' he'=>?_⟩
   rw [Int.toNat_natCast,hke] at he'
   cases he'
   simp -implicitDefEqProofs (maxSteps:=2000000) only [push_cast,zA,zB,zC,zD,zE,zF,zG,↓reduceIte,reduceCtorEq,eRoom,eEvent]
   have hanc : ∀ x∈e.auth,Anc es rs x:=fun x hx=>.root (hrse ▸ List.mem_flatMap.2 ⟨id,List.mem_of_getElem? hid,hau ▸ hx⟩)
   refine WL.loop (ι:=Nat × List (List UInt8)) (D:=(fun i=>if i=14 then (12,[]) else if i=5 then (12,[]) else (0,[]))) (fun j=>j.1≤e.auth.length∧Out es rs j.2 ((ids.take i).flatMap (authOf es) ++ e.auth.take j.1)) (fun j=>⟨89,[(1,.t (eStringS ids)),(2,.rf 0 0),(5,.sr 1),(6,.t (.i .i64 i)),(7,.t (eStringS e.auth)),(8,.t (.i .i64 j.1))],[.box (.t (eRoom ⟨es⟩)),.arr 9 1 (.own .leaf) (j.2.map T.s)]⟩) (fun j=>e.auth.length - j.1) mixed (by kernel_rfl) (0,out) ⟨by simp,by simpa using ho⟩ (Keep.wk (ids:=[some 0,some 1]) ?_) ?_
   ·simp only [push_cast,zA,zB,zC,zD,zE,zF,zG,↓reduceIte,reduceCtorEq,eRoom]<;>rfl
   ·rintro ⟨j,out⟩ ⟨hj,ho⟩
    simp only at hj ho
    have hol:=ho.len hv hrs
    simp -implicitDefEqProofs (maxSteps:=2000000) only [push_cast,zA,zB,zC,zD,zE,zF,zG,↓reduceIte,reduceCtorEq,eRoom]
    intro _
    refine iteI (fun h2=>⟨by omega,fun x hx=>?_⟩) (fun h2=>?_)
    ·rw [Int.toNat_natCast] at hx
     have htx : e.auth.take (j + 1)=e.auth.take j ++ [x]:=by rw [List.take_add_one,hx]; rfl
     refine Callx.closed (l1Has out x) rfl rfl (.inr ⟨rfl,rfl⟩) ?_
     simp -implicitDefEqProofs (maxSteps:=2000000) only [push_cast,zA,zB,zC,zD,zE,zF,zG,↓reduceIte,reduceCtorEq,eRoom]
     refine iteI (fun h3=>?_) (fun h3=>?_)
     ·refine ⟨by omega,fun x' hx'=>?_⟩
      rw [Int.toNat_natCast,hx] at hx'
      cases hx'
      have h3 : x ∉ out:=by simpa using h3
      refine ⟨rfl,by omega,rfl,by omega,by omega,by unfold inI64; omega,(j + 1,out ++ [x]),⟨by simp only; omega,?_⟩,by simp only; omega,Keep.wk (ids:=[some 0,some 3]) ?_⟩
      ·simp only
       rw [htx,← List.append_assoc]
       exact ho.new h3 (hanc x (List.mem_of_getElem? hx))
      ·simp only [push_cast,zA,zB,zC,zD,zE,zF,zG,↓reduceIte,reduceCtorEq,eRoom,List.map_append]<;>rfl
     ·have h3 : x∈out:=by simpa using h3
      refine ⟨by unfold inI64; omega,(j + 1,out),⟨by simp only; omega,?_⟩,by simp only; omega,Keep.wk (ids:=[some 0,some 1]) ?_⟩
      ·simp only
       rw [htx,← List.append_assoc]
       exact ho.old h3
      ·simp only [push_cast,zA,zB,zC,zD,zE,zF,zG,↓reduceIte,reduceCtorEq,eRoom]<;>rfl
    ·rw [List.take_of_length_le (l:=e.auth) (by omega)] at ho
     refine ⟨by unfold inI64; omega,(i + 1,out),⟨by simp only; omega,?_⟩,by simp only; omega,Keep.wk (ids:=[some 0,some 1]) ?_⟩
     ·simp only
      rw [List.take_add_one,hid,List.flatMap_append]
      simpa [hau] using ho
     ·simp only [push_cast,zA,zB,zC,zD,zE,zF,zG,↓reduceIte,reduceCtorEq,eRoom]<;>rfl
  ·rw [List.take_of_length_le (by omega),hrse] at ho
   refine WL.loop (ι:=Nat × List (List UInt8)) (D:=(fun i=>if i=14 then (12,[]) else if i=5 then (12,[]) else (0,[]))) (fun i=>i.1≤i.2.length∧Out es rs i.2 (rs ++ (i.2.take i.1).flatMap (authOf es))) (fun i=>⟨89,[(2,.rf 0 0),(5,.sr 1),(9,.t (.i .i64 i.1))],[.box (.t (eRoom ⟨es⟩)),.arr 9 1 (.own .leaf) (i.2.map T.s)]⟩) (fun i=>es.length - i.1) mixed (by kernel_rfl) (0,out) ⟨by simp,by simpa using ho⟩ (Keep.wk (ids:=[some 0,some 1]) ?_) ?_
   ·simp only [push_cast,zA,zB,zC,zD,zE,zF,zG,↓reduceIte,reduceCtorEq,eRoom]<;>rfl
   ·rintro ⟨i,out⟩ ⟨hi,ho⟩
    simp only at hi ho
    have hol:=ho.len hv hrs
    simp -implicitDefEqProofs (maxSteps:=2000000) only [push_cast,zA,zB,zC,zD,zE,zF,zG,↓reduceIte,reduceCtorEq,eRoom]
    intro _
    refine iteI (fun h=>?_) (fun h=>?_)
    ·refine ⟨by omega,by omega,fun id hid=>?_⟩
     rw [Int.toNat_natCast] at hid
     have hida:=ho.anc id (List.mem_of_getElem? hid)
     obtain ⟨k,e,hke,heid,hp⟩:=there_at (hida.there hv hrs)
     have hau:=authOf_at hp hke
     have hat : atI es id=k:=by unfold atI; rw [hp]
     refine CallV.t (l2At es id) (.inl rfl) ?_
     rw [hat]
     simp -implicitDefEqProofs (maxSteps:=2000000) only [push_cast,zA,zB,zC,zD,zE,zF,zG,↓reduceIte,reduceCtorEq,eRoom]
     have hkl:=(List.getElem?_eq_some_iff.1 hke).1
     refine ⟨by omega,fun e' he'=>?_⟩
     rw [Int.toNat_natCast,hke] at he'
     cases he'
     simp -implicitDefEqProofs (maxSteps:=2000000) only [push_cast,zA,zB,zC,zD,zE,zF,zG,↓reduceIte,reduceCtorEq,eRoom,eEvent]
     have hanc : ∀ x∈e.auth,Anc es rs x:=fun x hx=>.step hida (hau ▸ hx)
     obtain ⟨pre,hpre⟩ : ∃ pre,out.take i=pre:=⟨_,rfl⟩
     have hpi : out.take (i + 1)=pre ++ [id]:=by rw [List.take_add_one,hid,hpre]; rfl
     rw [hpre] at ho
     refine WL.loop (ι:=Nat × List (List UInt8)) (D:=(fun i=>if i=14 then (12,[]) else if i=5 then (12,[]) else (0,[]))) (fun j=>j.1≤e.auth.length∧i + 1≤j.2.length∧j.2.take (i + 1)=pre ++ [id]∧Out es rs j.2 (rs ++ pre.flatMap (authOf es) ++ e.auth.take j.1)) (fun j=>⟨89,[(2,.rf 0 0),(5,.sr 1),(9,.t (.i .i64 i)),(10,.t (eStringS e.auth)),(11,.t (.i .i64 j.1))],[.box (.t (eRoom ⟨es⟩)),.arr 9 1 (.own .leaf) (j.2.map T.s)]⟩) (fun j=>e.auth.length - j.1) mixed (by kernel_rfl) (0,out) ⟨by simp,by simp only; omega,hpi,by simpa using ho⟩ (Keep.wk (ids:=[some 0,some 1]) ?_) ?_
     ·simp only [push_cast,zA,zB,zC,zD,zE,zF,zG,↓reduceIte,reduceCtorEq,eRoom]<;>rfl
     ·rintro ⟨j,out⟩ ⟨hj,hil,hpo,ho⟩
      simp only at hj hil hpo ho
      have hol:=ho.len hv hrs
      simp -implicitDefEqProofs (maxSteps:=2000000) only [push_cast,zA,zB,zC,zD,zE,zF,zG,↓reduceIte,reduceCtorEq,eRoom]
      intro _
      refine iteI (fun h2=>⟨by omega,fun x hx=>?_⟩) (fun h2=>?_)
      ·rw [Int.toNat_natCast] at hx
       have htx : e.auth.take (j + 1)=e.auth.take j ++ [x]:=by rw [List.take_add_one,hx]; rfl
       refine Callx.closed (l1Has out x) rfl rfl (.inr ⟨rfl,rfl⟩) ?_
       simp -implicitDefEqProofs (maxSteps:=2000000) only [push_cast,zA,zB,zC,zD,zE,zF,zG,↓reduceIte,reduceCtorEq,eRoom]
       refine iteI (fun h3=>?_) (fun h3=>?_)
       ·refine ⟨by omega,fun x' hx'=>?_⟩
        rw [Int.toNat_natCast,hx] at hx'
        cases hx'
        have h3 : x ∉ out:=by simpa using h3
        refine ⟨rfl,by omega,rfl,by omega,by omega,by unfold inI64; omega,(j + 1,out ++ [x]),⟨by simp only; omega,by simp only [List.length_append]; omega,?_,?_⟩,by simp only; omega,Keep.wk (ids:=[some 0,some 3]) ?_⟩
        ·simp only
         rw [List.take_append_of_le_length hil,hpo]
        ·simp only
         rw [htx,← List.append_assoc]
         exact ho.new h3 (hanc x (List.mem_of_getElem? hx))
        ·simp only [push_cast,zA,zB,zC,zD,zE,zF,zG,↓reduceIte,reduceCtorEq,eRoom,List.map_append]<;>rfl
       ·have h3 : x∈out:=by simpa using h3
        refine ⟨by unfold inI64; omega,(j + 1,out),⟨by simp only; omega,hil,hpo,?_⟩,by simp only; omega,Keep.wk (ids:=[some 0,some 1]) ?_⟩
        ·simp only
         rw [htx,← List.append_assoc]
         exact ho.old h3
        ·simp only [push_cast,zA,zB,zC,zD,zE,zF,zG,↓reduceIte,reduceCtorEq,eRoom]<;>rfl
      ·rw [List.take_of_length_le (l:=e.auth) (by omega)] at ho
       refine ⟨by unfold inI64; omega,(i + 1,out),⟨by simp only; omega,?_⟩,by simp only; omega,Keep.wk (ids:=[some 0,some 1]) ?_⟩
       ·simp only
        rw [hpo,List.flatMap_append,← List.append_assoc]
        simpa [hau] using ho
       ·simp only [push_cast,zA,zB,zC,zD,zE,zF,zG,↓reduceIte,reduceCtorEq,eRoom]<;>rfl
    ·rw [List.take_of_length_le (by omega)] at ho
     rw [← ancL_is hv hrs (ho.is)]
     refine Callx.closed (l2Sorted out hB) rfl rfl (.inr ⟨rfl,rfl⟩) ?_
     simp -implicitDefEqProofs (maxSteps:=2000000) only [push_cast,zA,zB,zC,zD,zE,zF,zG,↓reduceIte,reduceCtorEq,eRoom]
     exact Close.of [some 2] rfl rfl rfl (by simp only [push_cast,zA,zB,zC,zD,zE,zF,zG,↓reduceIte,reduceCtorEq]<;>rfl) (by simp only [push_cast,zA,zB,zC,zD,zE,zF,zG,↓reduceIte,reduceCtorEq]<;>rfl)
end Go.Proofs.YtmgdkkhnjkepiaaGreat.BX
namespace Go.Proofs.YtmgdkkhnjkepiaaGreat.BX
open Nat renaming reduceEqDiff → zA, reduceLT → zB, reduceLeDiff → zC, reduceAdd → zD, reduceMul → zE, reduceSub → zF, reduceBEq → zG
set_option linter.unusedSectionVars false
set_option linter.unusedSimpArgs false
set_option linter.unusedVariables false
open Go Go.RowKit
set_option maxRecDepth 20000
set_option maxHeartbeats 400000
noncomputable def fullL (es:List Event) (ids:List (List UInt8)) : List (List UInt8):=sset (ids ++ ancL es (ids.flatMap (authOf es)))
theorem ancL_mem {es:List Event} {rs:List (List UInt8)} (hv:Valid es) (hr:∀ x∈rs,There es x) {x:List UInt8} : x∈ancL es rs ↔ Anc es rs x:=by
 unfold ancL
 rw [srt_perm.mem_iff,idsN_mem]
 constructor
 ·rintro ⟨k,a,_,h1,hp,rfl⟩
  unfold ancP at hp; rw [h1] at hp
  exact @of_decide_eq_true _ (Classical.propDecidable _) hp
 ·intro ha
  obtain ⟨k,a,h1,h2,_⟩:=there_at (ha.there hv hr)
  refine ⟨k,a,(List.getElem?_eq_some_iff.1 h1).1,h1,?_,h2⟩
  unfold ancP; rw [h1]
  exact @decide_eq_true _ (Classical.propDecidable _) (h2 ▸ ha)
end Go.Proofs.YtmgdkkhnjkepiaaGreat.BX
namespace Go.Proofs.YtmgdkkhnjkepiaaGreat.BX
open Nat renaming reduceEqDiff → zA, reduceLT → zB, reduceLeDiff → zC, reduceAdd → zD, reduceMul → zE, reduceSub → zF, reduceBEq → zG
set_option linter.unusedSectionVars false
set_option linter.unusedSimpArgs false
set_option linter.unusedVariables false
open Go Go.RowKit
set_option maxRecDepth 20000
set_option maxHeartbeats 400000
def lexO (f g:List UInt8→Int) (a b:List UInt8) : Bool:=if f a≠f b then decide (f b < f a) else if g a≠g b then decide (g a < g b) else Op.bytesLess a b
theorem lexO_tot (f g:List UInt8→Int) : Tot (lexO f g) where
 irr a:=by unfold lexO; simp [Go.Proofs.bytesLess_eq,List.lt_irrefl]
 trans a b c h1 h2:=by
  unfold lexO at *
  simp only [Go.Proofs.bytesLess_eq] at *
  generalize f a=x at *
  generalize f b=y at *
  generalize f c=z at *
  generalize g a=p at *
  generalize g b=q at *
  generalize g c=r at *
  split at h1
  ·simp only [decide_eq_true_eq] at h1
   split at h2
   ·simp only [decide_eq_true_eq] at h2
    rw [if_pos (by omega)]; simp only [decide_eq_true_eq]; omega
   ·rw [if_pos (by omega)]; simp only [decide_eq_true_eq]; omega
  ·split at h2
   ·simp only [decide_eq_true_eq] at h2
    rw [if_pos (by omega)]; simp only [decide_eq_true_eq]; omega
   ·rw [if_neg (by omega)]
    split at h1
    ·simp only [decide_eq_true_eq] at h1
     split at h2
     ·simp only [decide_eq_true_eq] at h2
      rw [if_pos (by omega)]; simp only [decide_eq_true_eq]; omega
     ·rw [if_pos (by omega)]; simp only [decide_eq_true_eq]; omega
    ·split at h2
     ·simp only [decide_eq_true_eq] at h2
      rw [if_pos (by omega)]; simp only [decide_eq_true_eq]; omega
     ·rw [if_neg (by omega)]
      simp only [decide_eq_true_eq] at *
      exact List.lt_trans h1 h2
 tri a b hne:=by
  unfold lexO
  simp only [Go.Proofs.bytesLess_eq]
  generalize f a=x at *
  generalize f b=y at *
  generalize g a=p at *
  generalize g b=q at *
  by_cases h1 : x=y
  ·subst h1
   simp only [ne_eq,not_true_eq_false,if_false]
   by_cases h2 : p=q
   ·subst h2
    simp only [not_true_eq_false,if_false,decide_eq_true_eq]
    by_cases h3 : a < b
    ·exact .inl h3
    ·rcases List.le_iff_lt_or_eq.1 (List.not_lt.1 h3) with h | h
     ·exact .inr h
     ·exact absurd h.symm hne
   ·rw [if_pos h2,if_pos (Ne.symm h2)]
    simp only [decide_eq_true_eq]; omega
  ·rw [if_pos h1,if_pos (Ne.symm h1)]
   simp only [decide_eq_true_eq]; omega
def wty (e:Event) : Bool:=if e.typ=sMember then ((decide (e.value=sLeave) || decide (e.value=sBan)) && decide (e.sender≠e.key)) else (decide (e.typ=sPower) || decide (e.typ=sRules))
def autP (es:List Event) (i:Nat) : Int:=match es[i]? with
 | some e => match pwOf es i with
   | some j => match es[j]? with
     | some p => levelBy p.grants e.sender
     | none => 0
   | none => match es[0]? with
     | some c => if e.sender=c.sender then 100 else 0
     | none => 0
 | none => 0
def autI (es:List Event) (x:List UInt8) : Int:=match posOf x es with
 | some i => autP es i
 | none => 0
theorem autI_at {es:List Event} {x:List UInt8} {i:Nat} (hp:posOf x es=some i) : autI es x=autP es i:=by
 unfold autI; rw [hp]
def psn (es:List Event) : List UInt8→List UInt8→Bool:=lexO (autI es) (timI es)
theorem psn_tot (es:List Event) : Tot (psn es):=lexO_tot _ _
def rdyA (list out auth:List (List UInt8)) : Bool:=auth.all fun a=>!(decide (a∈list)) || decide (a∈out)
def candB (es:List Event) (list out:List (List UInt8)) (x:List UInt8) : Bool:=decide (x ∉ out) && rdyA list out (authOf es x)
def stepB (es:List Event) (list out:List (List UInt8)) (b x:List UInt8) : List UInt8:=if candB es list out x=true then (if b=[] ∨ psn es x b=true then x else b) else b
def nextL (es:List Event) (list out:List (List UInt8)) : List UInt8:=list.foldl (stepB es list out) []
theorem foldl_step {es:List Event} {list out:List (List UInt8)} : ∀ {l:List (List UInt8)} {b:List UInt8},(∀ x∈l,x≠[]) →
 (l.foldl (stepB es list out) b=b∧(∀ x∈l,candB es list out x=true→b≠[]∧psn es x b=false)) ∨
 (l.foldl (stepB es list out) b∈l∧candB es list out (l.foldl (stepB es list out) b)=true∧(b≠[]→psn es (l.foldl (stepB es list out) b) b=true)∧∀ x∈l,candB es list out x=true→psn es x (l.foldl (stepB es list out) b)=false)
 | [], b, _ => .inl ⟨rfl,by simp⟩
 | y :: l, b, hne => by
   have ht:=psn_tot es
   have hne' : ∀ x∈l,x≠[]:=fun x hx=>hne x (by simp [hx])
   rw [List.foldl_cons]
   by_cases hc : candB es list out y=true
   ·by_cases hb : b=[] ∨ psn es y b=true
    ·have hs : stepB es list out b y=y:=by unfold stepB; rw [if_pos hc,if_pos hb]
     rw [hs]
     have hyb : b≠[]→psn es y b=true:=fun h=>hb.elim (fun e=>absurd e h) id
     rcases foldl_step (l:=l) (b:=y) hne' with ⟨h1,h2⟩ | ⟨h1,h2,h3,h4⟩
     ·rw [h1]
      refine .inr ⟨by simp,hc,hyb,fun x hx hcx=>?_⟩
      rcases List.mem_cons.1 hx with rfl | hx
      ·exact ht.irr _
      ·exact (h2 x hx hcx).2
     ·have h3:=h3 (hne y (by simp))
      refine .inr ⟨by simp [h1],h2,fun h=>ht.trans _ _ _ h3 (hyb h),fun x hx hcx=>?_⟩
      rcases List.mem_cons.1 hx with rfl | hx
      ·exact ht.asymm h3
      ·exact h4 x hx hcx
    ·have hs : stepB es list out b y=b:=by unfold stepB; rw [if_pos hc,if_neg hb]
     rw [hs]
     have hb1 : b≠[]:=fun e=>hb (.inl e)
     have hb2 : psn es y b=false:=by
      cases h : psn es y b with
      | false => rfl
      | true => exact absurd (.inr h) hb
     rcases foldl_step (l:=l) (b:=b) hne' with ⟨h1,h2⟩ | ⟨h1,h2,h3,h4⟩
     ·refine .inl ⟨h1,fun x hx hcx=>?_⟩
      rcases List.mem_cons.1 hx with rfl | hx
      ·exact ⟨hb1,hb2⟩
      ·exact h2 x hx hcx
     ·refine .inr ⟨by simp [h1],h2,h3,fun x hx hcx=>?_⟩
      rcases List.mem_cons.1 hx with rfl | hx
      ·have h3:=h3 hb1
       cases h : psn es x (l.foldl (stepB es list out) b) with
       | false => rfl
       | true => have:=ht.trans _ _ _ h h3; rw [this] at hb2; cases hb2
      ·exact h4 x hx hcx
   ·have hs : stepB es list out b y=b:=by unfold stepB; rw [if_neg hc]
    rw [hs]
    rcases foldl_step (l:=l) (b:=b) hne' with ⟨h1,h2⟩ | ⟨h1,h2,h3,h4⟩
    ·refine .inl ⟨h1,fun x hx hcx=>?_⟩
     rcases List.mem_cons.1 hx with rfl | hx
     ·exact absurd hcx hc
     ·exact h2 x hx hcx
    ·refine .inr ⟨by simp [h1],h2,h3,fun x hx hcx=>?_⟩
     rcases List.mem_cons.1 hx with rfl | hx
     ·exact absurd hcx hc
     ·exact h4 x hx hcx
theorem nextL_spec {es:List Event} {list out:List (List UInt8)} (hne:∀ x∈list,x≠[]) (hex:∃ x∈list,candB es list out x=true) :
 nextL es list out∈list∧candB es list out (nextL es list out)=true∧∀ x∈list,candB es list out x=true→psn es x (nextL es list out)=false:=by
 obtain ⟨y,hy,hc⟩:=hex
 rcases foldl_step (es:=es) (list:=list) (out:=out) (l:=list) (b:=[]) hne with ⟨_,h2⟩ | ⟨h1,h2,_,h4⟩
 ·exact absurd rfl (h2 y hy hc).1
 ·exact ⟨h1,h2,h4⟩
theorem nextL_is {es:List Event} {list out:List (List UInt8)} (hne:∀ x∈list,x≠[]) {y:List UInt8} (hy:y∈list) (hc:candB es list out y=true) (hm:∀ x∈list,candB es list out x=true→psn es x y=false) : nextL es list out=y:=by
 obtain ⟨h1,h2,h3⟩:=nextL_spec hne ⟨y,hy,hc⟩
 by_cases he : nextL es list out=y
 ·exact he
 ·rcases (psn_tot es).tri _ _ he with h | h
  ·rw [hm _ h1 h2] at h; cases h
  ·rw [h3 _ hy hc] at h; cases h
theorem there_ne {es:List Event} (hv:Valid es) {x:List UInt8} (h:There es x) : x≠[]:=by
 obtain ⟨k,e,he,rfl,_⟩:=there_at h
 have h:=(hv.good he).ok
 unfold evOk at h
 split at h
 ·cases h
 rename_i h1
 have h1:=(Classical.not_not.1 h1).1
 rintro hn
 rw [hn] at h1
 simp [isW] at h1
def powTo (es:List Event) (list:List (List UInt8)) : Nat→List (List UInt8)
 | 0 => []
 | n + 1 => powTo es list n ++ [nextL es list (powTo es list n)]
theorem powTo_len {es:List Event} {list:List (List UInt8)} : ∀ {n:Nat},(powTo es list n).length=n
 | 0 => rfl
 | n + 1 => by show (powTo es list n ++ _).length=_; rw [List.length_append,powTo_len]; rfl
theorem cand_ex {es:List Event} (hv:Valid es) {list out:List (List UInt8)} (hl:∀ x∈list,There es x) {y:List UInt8} (hy:y∈list) (hyo:y ∉ out) : ∃ x∈list,candB es list out x=true:=by
 have key : ∀ (n:Nat) (y:List UInt8) (i:Nat),i < n→posOf y es=some i→y∈list→y ∉ out → ∃ x∈list,candB es list out x=true:=by
  intro n
  induction n with
  | zero => intro y i hi; omega
  | succ n ih =>
    intro y i hi hp hy hyo
    by_cases hc : candB es list out y=true
    ·exact ⟨y,hy,hc⟩
    ·unfold candB at hc
     rw [decide_eq_true hyo,Bool.true_and] at hc
     have hc : rdyA list out (authOf es y)=false:=by simpa using hc
     unfold rdyA at hc
     obtain ⟨a,ha,hb⟩:=List.all_eq_false.1 hc
     simp only [Bool.or_eq_true,Bool.not_eq_true',decide_eq_false_iff_not,decide_eq_true_eq,not_or,Classical.not_not] at hb
     obtain ⟨e,he,_⟩:=posOf_some.1 hp
     rw [authOf_at hp he] at ha
     obtain ⟨k,b,hk,_,_,hpk⟩:=pos_ref ((hv.good he).auth a ha)
     exact ih a k (by omega) hpk hb.1 hb.2
 have:=hl y hy
 obtain ⟨k,_,_,_,hp⟩:=there_at this
 exact key (k + 1) y k (by omega) hp hy hyo
def ddF (p:List UInt8→Bool) (l:List (List UInt8)) : List (List UInt8):=l.foldl (fun o x=>if (p x && decide (x ∉ o))=true then o ++ [x] else o) []
theorem ddF_snoc {p:List UInt8→Bool} {l:List (List UInt8)} {i:Nat} {x:List UInt8} (h:l[i]? = some x) : ddF p (l.take (i + 1))=if (p x && decide (x ∉ ddF p (l.take i)))=true then ddF p (l.take i) ++ [x] else ddF p (l.take i):=by
 unfold ddF
 rw [List.take_add_one,h,List.foldl_append]
 rfl
theorem ddF_fold {p:List UInt8→Bool} : ∀ {l o:List (List UInt8)},o.Nodup→(l.foldl (fun o x=>if (p x && decide (x ∉ o))=true then o ++ [x] else o) o).Nodup∧(∀ x,x∈l.foldl (fun o x=>if (p x && decide (x ∉ o))=true then o ++ [x] else o) o ↔ x∈o ∨ (x∈l∧p x=true))∧(l.foldl (fun o x=>if (p x && decide (x ∉ o))=true then o ++ [x] else o) o).length≤o.length + l.length
 | [], o, h => ⟨h,by simp,by simp⟩
 | y :: l, o, h => by
   rw [List.foldl_cons]
   by_cases hc : (p y && decide (y ∉ o))=true
   ·rw [if_pos hc]
    simp only [Bool.and_eq_true,decide_eq_true_eq] at hc
    have hn : (o ++ [y]).Nodup:=by
     rw [List.nodup_append]
     exact ⟨h,by simp,fun a ha b hb=>by rw [List.mem_singleton.1 hb]; rintro rfl; exact hc.2 ha⟩
    obtain ⟨h1,h2,h3⟩:=ddF_fold (p:=p) (l:=l) hn
    refine ⟨h1,fun x=>?_,?_⟩
    ·rw [h2 x]
     rw [List.mem_append,List.mem_singleton,List.mem_cons]
     constructor
     ·rintro ((h | rfl) | h)
      ·exact .inl h
      ·exact .inr ⟨.inl rfl,hc.1⟩
      ·exact .inr ⟨.inr h.1,h.2⟩
     ·rintro (h | ⟨rfl | h,hp⟩)
      ·exact .inl (.inl h)
      ·exact .inl (.inr rfl)
      ·exact .inr ⟨h,hp⟩
    ·simp only [List.length_append,List.length_cons,List.length_nil] at h3 ⊢
     omega
   ·rw [if_neg hc]
    obtain ⟨h1,h2,h3⟩:=ddF_fold (p:=p) (l:=l) h
    refine ⟨h1,fun x=>?_,?_⟩
    ·rw [h2 x]
     simp only [List.mem_cons]
     constructor
     ·rintro (h | h)
      ·exact .inl h
      ·exact .inr ⟨.inr h.1,h.2⟩
     ·rintro (h | ⟨rfl | h,hp⟩)
      ·exact .inl h
      ·by_cases ho : x∈o
       ·exact .inl ho
       ·exact absurd (by rw [hp,decide_eq_true ho]; rfl) hc
      ·exact .inr ⟨h,hp⟩
    ·simp only [List.length_cons]; omega
theorem ddF_nodup {p:List UInt8→Bool} {l:List (List UInt8)} : (ddF p l).Nodup:=(ddF_fold List.nodup_nil).1
theorem ddF_mem {p:List UInt8→Bool} {l:List (List UInt8)} {x:List UInt8} : x∈ddF p l ↔ x∈l∧p x=true:=by
 have:=(ddF_fold (p:=p) (l:=l) List.nodup_nil).2.1 x
 unfold ddF
 rw [this]; simp
theorem ddF_len {p:List UInt8→Bool} {l:List (List UInt8)} : (ddF p l).length≤l.length:=by
 have:=(ddF_fold (p:=p) (l:=l) List.nodup_nil).2.2
 unfold ddF
 simpa using this
def wtyI (es:List Event) (x:List UInt8) : Bool:=match posOf x es with
 | some i => match es[i]? with
   | some e => wty e
   | none => false
 | none => false
theorem wtyI_at {es:List Event} {x:List UInt8} {i:Nat} {e:Event} (hp:posOf x es=some i) (he:es[i]? = some e) : wtyI es x=wty e:=by
 unfold wtyI; rw [hp]; dsimp only; rw [he]
noncomputable def powIn (es:List Event) (ids:List (List UInt8)) : List (List UInt8):=ddF (fun x=>decide (x∈fullL es (ids.filter (wtyI es)))) ids
noncomputable def powL (es:List Event) (ids:List (List UInt8)) : List (List UInt8):=powTo es (powIn es ids) (powIn es ids).length
noncomputable def powB (es:List Event) (ids:List (List UInt8)) : Bool:=roomB es && (decide ((ids.length : Int)≤300) && allIn es ids)
noncomputable def powR (es:List Event) (ids:List (List UInt8)) : List (List UInt8):=if powB es ids=true then powL es ids else []
theorem powIn_there {es:List Event} {ids:List (List UInt8)} (h:∀ x∈ids,There es x) : ∀ x∈powIn es ids,There es x:=fun x hx=>h x (ddF_mem.1 hx).1
theorem powL_len {es:List Event} {ids:List (List UInt8)} : (powL es ids).length≤ids.length:=by
 unfold powL
 rw [powTo_len]
 exact ddF_len
end Go.Proofs.YtmgdkkhnjkepiaaGreat.BX