/-
  Part 7 of what LFnInsert leans on: its texts, merged by a program (prune.py), with what it needs alone.
-/
import Derived.Test.YtmgdkkhnjkepiaaGreatQ6
namespace Go.Proofs.YtmgdkkhnjkepiaaGreat.BX
open Nat renaming reduceEqDiff → zA, reduceLT → zB, reduceLeDiff → zC, reduceAdd → zD, reduceMul → zE, reduceSub → zF, reduceBEq → zG
set_option linter.unusedSectionVars false
set_option linter.unusedSimpArgs false
set_option linter.unusedVariables false
open Go Go.RowKit
set_option maxRecDepth 20000
set_option maxHeartbeats 400000
def fitE (es:List Event) (x:Entry) : Bool:=match posOf x.id es with
 | some j => match es[j]? with
   | some a => a.isState && decide (a.typ=x.typ) && decide (a.key=x.key)
   | none => false
 | none => false
noncomputable def fitsB (es:List Event) (s:List Entry) : Bool:=s.all (fitE es) && stateOk s
theorem fit_no {es:List Event} {s:List Entry} {x:Entry} (hx:x∈s) (h:fitE es x=false) : fitsB es s=false:=by
 unfold fitsB
 rw [Bool.and_eq_false_iff]
 refine .inl ?_
 rw [List.all_eq_false]
 exact ⟨x,hx,by simp [h]⟩
theorem fit_all {es:List Event} {s:List Entry} (h:∀ x∈s,fitE es x=true) : fitsB es s=stateOk s:=by
 unfold fitsB
 rw [List.all_eq_true.2 h,Bool.true_and]
variable [Bd]
theorem l5Fits (es:List Event) (s:List Entry) : Con P0 62 [eRoom ⟨es⟩,eEntryS s] (.t (.b (fitsB es s))) []:=by
 refine Con.intro (fn:=Tryz.f62) [.tmp 4] (fun i=>if i=5 then (39,[]) else if i=4 then (8,[]) else (0,[])) mixed (by kernel_rfl) rfl (by decide) rfl (by rfl) (by kernel_rfl) ?_
 simp -implicitDefEqProofs (maxSteps:=2000000) only [push_cast,zA,zB,zC,zD,zE,zF,zG,↓reduceIte,reduceCtorEq,eRoom]
 refine WL.loop (ι:=Nat) (D:=(fun i=>if i=5 then (39,[]) else if i=4 then (8,[]) else (0,[]))) (fun i=>i≤s.length∧∀ x∈s.take i,fitE es x=true) (fun i=>⟨61,[(1,.t (eEntryS s)),(2,.rf 0 0),(5,.t (.i .i64 i))],[.box (.t (eRoom ⟨es⟩))]⟩) (fun i=>s.length - i) mixed (by kernel_rfl) 0 ⟨by omega,by simp⟩ (Keep.wk (ids:=[some 0]) ?_) ?_
 ·simp only [push_cast,zA,zB,zC,zD,zE,zF,zG,↓reduceIte,reduceCtorEq,eRoom]<;>rfl
 ·rintro i ⟨hi,hc⟩
  simp -implicitDefEqProofs (maxSteps:=2000000) only [push_cast,zA,zB,zC,zD,zE,zF,zG,↓reduceIte,reduceCtorEq,eRoom]
  intro _
  have hhi:=Bd.hi
  refine iteI (fun h=>⟨by omega,fun x hx=>?_⟩) (fun h=>?_)
  ·rw [Int.toNat_natCast] at hx
   simp -implicitDefEqProofs (maxSteps:=2000000) only [push_cast,zA,zB,zC,zD,zE,zF,zG,↓reduceIte,reduceCtorEq,eRoom,eEntry]
   refine CallV.t (l2At es x.id) (.inl rfl) ?_
   simp -implicitDefEqProofs (maxSteps:=2000000) only [push_cast,zA,zB,zC,zD,zE,zF,zG,↓reduceIte,reduceCtorEq,eRoom,eEntry,eEvent]
   have hxm:=List.mem_of_getElem? hx
   have no : fitE es x=false→T.b false=T.b (fitsB es s):=fun h=>by rw [fit_no hxm h]
   cases hp : posOf x.id es with
   | none =>
     have hat : atI es x.id = -1:=by unfold atI; rw [hp]
     rw [hat,if_pos (by omega)]
     exact no (by unfold fitE; rw [hp])
   | some j =>
     obtain ⟨a,ha,_⟩:=posOf_some.1 hp
     have hjl:=(List.getElem?_eq_some_iff.1 ha).1
     have hat : atI es x.id=j:=by unfold atI; rw [hp]
     have hfe : fitE es x=(a.isState && decide (a.typ=x.typ) && decide (a.key=x.key)):=by unfold fitE; rw [hp]; dsimp only; rw [ha]
     rw [hat,if_neg (by omega)]
     have e1 : (Int.toNat (j:Int))=j:=Int.toNat_natCast _
     have e2 : (Int.toNat (i:Int))=i:=Int.toNat_natCast _
     simp only [e1,e2]
     refine ⟨by omega,fun a' ha'=>?_⟩
     rw [ha] at ha'; cases ha'
     refine iteI (fun q=>no (by rw [hfe,show a.isState=false by simpa using q]; rfl)) (fun q1=>⟨by omega,fun a' ha'=>⟨by omega,fun x' hx'=>?_⟩⟩)
     rw [ha] at ha'; cases ha'
     rw [hx] at hx'; cases hx'
     refine iteI (fun q=>no (by rw [hfe,decide_eq_false q,Bool.and_false]; rfl)) (fun q2=>⟨by omega,fun a' ha'=>⟨by omega,fun x' hx'=>?_⟩⟩)
     rw [ha] at ha'; cases ha'
     rw [hx] at hx'; cases hx'
     refine iteI (fun q=>no (by rw [hfe,decide_eq_false q,Bool.and_false])) (fun q3=>?_)
     have hyes : fitE es x=true:=by
      rw [hfe,show a.isState=true by simpa using q1,decide_eq_true (Classical.not_not.1 q2),decide_eq_true (Classical.not_not.1 q3)]; rfl
     refine ⟨by unfold inI64; omega,i + 1,⟨by omega,take_snoc hx hc hyes⟩,by omega,Keep.wk (ids:=[some 0]) ?_⟩
     simp only [push_cast,zA,zB,zC,zD,zE,zF,zG,↓reduceIte,reduceCtorEq,eRoom]<;>rfl
  ·rw [List.take_of_length_le (by omega)] at hc
   refine Callx.closed (specStateOk s) rfl rfl (.inl rfl) ?_
   simp -implicitDefEqProofs (maxSteps:=2000000) only [push_cast,zA,zB,zC,zD,zE,zF,zG,↓reduceIte,reduceCtorEq,eRoom]
   rw [fit_all hc]
end Go.Proofs.YtmgdkkhnjkepiaaGreat.BX
namespace Go.Proofs.YtmgdkkhnjkepiaaGreat.BX
open Nat renaming reduceEqDiff → zA, reduceLT → zB, reduceLeDiff → zC, reduceAdd → zD, reduceMul → zE, reduceSub → zF, reduceBEq → zG
set_option linter.unusedSectionVars false
set_option linter.unusedSimpArgs false
set_option linter.unusedVariables false
open Go Go.RowKit
set_option maxRecDepth 20000
set_option maxHeartbeats 400000
def slotE (es:List Event) (s:List Entry) (k:SlotK) : Option Event:=match posOf (findId k s) es with
 | some j => es[j]?
 | none => none
def zeroEv : Event:=⟨[],[],[],false,[],0,[],[],[],[]⟩
def slotT (o:Option Event) : T:=match o with
 | some e => .tp [eEvent e,.b true]
 | none => .tp [eEvent zeroEv,.b false]
def lvl (es:List Event) (s:List Entry) (u:List UInt8) : Int:=match slotE es s (sPower,[]) with
 | some p => levelBy p.grants u
 | none => match slotE es s (sCreate,[]) with
   | some c => if c.sender=u then 100 else 0
   | none => 0
theorem fits_of {es:List Event} {s:List Entry} (h:fitsB es s=true) : stateOk s=true∧∀ x∈s,fitE es x=true:=by
 unfold fitsB at h
 simp only [Bool.and_eq_true,List.all_eq_true] at h
 exact ⟨h.2,h.1⟩
variable [Bd]
theorem l5Event (es:List Event) (s:List Entry) (a b:List UInt8) : Con P0 120 [eRoom ⟨es⟩,eEntryS s,.s a,.s b] (.t (slotT (slotE es s (a,b)))) []:=by
 refine Con.intro (fn:=Tryz.f120) [.cell 8 42,.tmp 9] (fun i=>if i=1 then (7,[]) else (0,[])) mixed (by kernel_rfl) rfl (by decide) rfl (by rfl) (by kernel_rfl) ?_
 simp -implicitDefEqProofs (maxSteps:=2000000) only [push_cast,zA,zB,zC,zD,zE,zF,zG,↓reduceIte,reduceCtorEq,eRoom]
 refine CallV.t (l4Find s a b) (.inl rfl) ?_
 simp -implicitDefEqProofs (maxSteps:=2000000) only [push_cast,zA,zB,zC,zD,zE,zF,zG,↓reduceIte,reduceCtorEq,eRoom]
 refine CallV.t (l2At es (findId (a,b) s)) (.inl rfl) ?_
 simp -implicitDefEqProofs (maxSteps:=2000000) only [push_cast,zA,zB,zC,zD,zE,zF,zG,↓reduceIte,reduceCtorEq,eRoom]
 unfold slotE
 cases hp : posOf (findId (a,b) s) es with
 | none =>
   have hat : atI es (findId (a,b) s) = -1:=by unfold atI; rw [hp]
   rw [hat,if_pos (by omega)]
   simp -implicitDefEqProofs (maxSteps:=2000000) only [push_cast,zA,zB,zC,zD,zE,zF,zG,↓reduceIte,reduceCtorEq,eRoom,slotT]
   rfl
 | some j =>
   have hat : atI es (findId (a,b) s)=j:=by unfold atI; rw [hp]
   have hj:=posOf_lt hp
   rw [hat,if_neg (by omega)]
   simp -implicitDefEqProofs (maxSteps:=2000000) only [push_cast,zA,zB,zC,zD,zE,zF,zG,↓reduceIte,reduceCtorEq,eRoom,slotT,eEvent_ones]
   refine ⟨by omega,fun e he=>⟨rfl,?_⟩⟩
   rw [Int.toNat_natCast] at he
   rw [he]
theorem l5Level (es:List Event) (s:List Entry) (u:List UInt8) : Con P0 114 [eRoom ⟨es⟩,eEntryS s,.s u] (.t (.i .i64 (lvl es s u))) []:=by
 refine Con.intro (fn:=Tryz.f114) [.tmp 6] (fun _=>(0,[])) mixed (by kernel_rfl) rfl (by decide) rfl (by rfl) (by kernel_rfl) ?_
 simp -implicitDefEqProofs (maxSteps:=2000000) only [push_cast,zA,zB,zC,zD,zE,zF,zG,↓reduceIte,reduceCtorEq,eRoom]
 refine Callx.closed (l5Event es s sPower []) rfl rfl (.inl rfl) ?_
 unfold lvl
 cases h1 : slotE es s (sPower,[]) with
 | some p =>
   simp -implicitDefEqProofs (maxSteps:=2000000) only [push_cast,zA,zB,zC,zD,zE,zF,zG,↓reduceIte,reduceCtorEq,eRoom,slotT,eEvent]
   refine Callx.closed (l5ByGrants p.grants u) rfl rfl (.inl rfl) ?_
   simp -implicitDefEqProofs (maxSteps:=2000000) only [push_cast,zA,zB,zC,zD,zE,zF,zG,↓reduceIte,reduceCtorEq,eRoom]
 | none =>
   simp -implicitDefEqProofs (maxSteps:=2000000) only [push_cast,zA,zB,zC,zD,zE,zF,zG,↓reduceIte,reduceCtorEq,eRoom,slotT,zeroEv,eEvent]
   refine Callx.closed (l5Event es s sCreate []) rfl rfl (.inl rfl) ?_
   cases h2 : slotE es s (sCreate,[]) with
   | some c =>
     simp -implicitDefEqProofs (maxSteps:=2000000) only [push_cast,zA,zB,zC,zD,zE,zF,zG,↓reduceIte,reduceCtorEq,eRoom,slotT,eEvent]
     refine iteI (fun h=>?_) (fun h=>?_)
     ·rw [if_pos h]
     ·rw [if_neg h]
   | none =>
     simp -implicitDefEqProofs (maxSteps:=2000000) only [push_cast,zA,zB,zC,zD,zE,zF,zG,↓reduceIte,reduceCtorEq,eRoom,slotT,zeroEv,eEvent]
theorem slot_in {es:List Event} {s:List Entry} {k:SlotK} {e:Event} (h:slotE es s k=some e) : ∃ i : Nat,es[i]? = some e:=by
 unfold slotE at h
 split at h
 ·exact ⟨_,h⟩
 ·cases h
end Go.Proofs.YtmgdkkhnjkepiaaGreat.BX
namespace Go.Proofs.YtmgdkkhnjkepiaaGreat.BX
open Nat renaming reduceEqDiff → zA, reduceLT → zB, reduceLeDiff → zC, reduceAdd → zD, reduceMul → zE, reduceSub → zF, reduceBEq → zG
set_option linter.unusedSectionVars false
set_option linter.unusedSimpArgs false
set_option linter.unusedVariables false
open Go Go.RowKit
set_option maxRecDepth 20000
set_option maxHeartbeats 400000
def sAct : List UInt8:=[97,99,116]
def sKick : List UInt8:=[107,105,99,107]
def sState : List UInt8:=[115,116,97,116,101]
def has {α:Type} (o:Option α) : Bool:=o.isSome
def oEv : Option Event→Event
 | some e => e
 | none => zeroEv
theorem slotT_u (o:Option Event) : slotT o = .tp [eEvent (oEv o),.b (has o)]:=by cases o<;>rfl
def gLv : Option Grant→Int
 | some g => g.level
 | none => 0
theorem grT_u (o:Option Grant) : grT o = .tp [.i .i64 (gLv o),.b (has o)]:=by cases o<;>rfl
def thing (es:List Event) (s:List Entry) (nm:List UInt8) : Int :=
 if has (slotE es s (sPower,[]))=true∧has (grantL (oEv (slotE es s (sPower,[]))).grants (42 :: nm))=true then gLv (grantL (oEv (slotE es s (sPower,[]))).grants (42 :: nm))
 else if nm=sBan ∨ nm=sKick ∨ (nm=sState∧has (slotE es s (sPower,[]))=true) then 50 else 0
def memb (es:List Event) (s:List Entry) (u:List UInt8) : List UInt8:=if has (slotE es s (sMember,u))=true then (oEv (slotE es s (sMember,u))).value else sLeave
def joinC (es:List Event) (s:List Entry) (x:Event) : Int :=
 if ¬ x.sender=x.key then 3 else if memb es s x.key=sBan then 4
 else if (memb es s x.key=sJoin ∨ memb es s x.key=sInvite) ∨ (has (slotE es s (sRules,[]))=true∧(oEv (slotE es s (sRules,[]))).value=sPublic) ∨ (x.sender=(oEv (slotE es s (sCreate,[]))).sender∧¬ has (slotE es s (sMember,x.key))=true) then 0 else 5
def memC (es:List Event) (s:List Entry) (x:Event) : Int :=
 if x.value=sInvite then (if memb es s x.key=sJoin ∨ memb es s x.key=sBan then 7 else if lvl es s x.sender < thing es s sInvite then 8 else 0)
 else if (x.value=sBan ∨ memb es s x.key=sBan)∧lvl es s x.sender < thing es s sBan then 8
 else if x.value=sLeave∧lvl es s x.sender < thing es s sKick then 8
 else if lvl es s x.sender≤lvl es s x.key then 9 else 0
def badG (A B:Option Grant) (snd:List UInt8) (own:Int) (n:List UInt8) : Prop :=
 ¬ (has A=has B∧gLv A=gLv B)∧((has A=true∧own < gLv A) ∨ (has B=true∧own < gLv B) ∨ (isW n=true∧¬ n=snd∧has A=true∧own≤gLv A))
def badN (old now:List Grant) (snd:List UInt8) (own:Int) (n:List UInt8) : Prop:=badG (grantL old n) (grantL now n) snd own n
def namesL (a b:List Grant) : List (List UInt8):=a.map (·.name) ++ b.map (·.name)
open Classical in
noncomputable def powOk (old now:List Grant) (snd:List UInt8) (own:Int) : Bool:=decide (∀ n∈namesL old now,¬ badN old now snd own n)
def needLv (es:List Event) (s:List Entry) (x:Event) : Int :=
 if has (slotE es s (sPower,[]))=true∧has (grantL (oEv (slotE es s (sPower,[]))).grants (35 :: x.typ))=true then gLv (grantL (oEv (slotE es s (sPower,[]))).grants (35 :: x.typ))
 else if x.isState=true then thing es s sState else thing es s sAct
noncomputable def otherC (es:List Event) (s:List Entry) (x:Event) : Int :=
 if lvl es s x.sender < needLv es s x then 8
 else if x.isState=true∧¬ x.key=[]∧x.key[0]? = some 64∧¬ x.key=x.sender then 11
 else if x.typ=sPower∧has (slotE es s (sPower,[]))=true∧¬ powOk (oEv (slotE es s (sPower,[]))).grants x.grants x.sender (lvl es s x.sender)=true then 12 else 0
noncomputable def allowC (es:List Event) (s:List Entry) (x:Event) : Int :=
 if x.typ=sCreate then (if has (slotE es s (sCreate,[]))=true then 1 else 0)
 else if ¬ has (slotE es s (sCreate,[]))=true then 2
 else if x.typ=sMember∧x.value=sJoin then joinC es s x
 else if x.typ=sMember∧x.value=sLeave∧x.sender=x.key then (if memb es s x.key=sJoin ∨ memb es s x.key=sInvite then 0 else 10)
 else if ¬ memb es s x.sender=sJoin then 6
 else if x.typ=sMember then memC es s x else otherC es s x
variable [Bd]
theorem l5EventU (es:List Event) (s:List Entry) (a b:List UInt8) : Con P0 120 [eRoom ⟨es⟩,eEntryS s,.s a,.s b] (.t (.tp [eEvent (oEv (slotE es s (a,b))),.b (has (slotE es s (a,b)))])) []:=by
 rw [← slotT_u]
 exact l5Event es s a b
theorem l5GrantU (gs:List Grant) (u:List UInt8) : Con P0 125 [eGrantS gs,.s u] (.t (.tp [.i .i64 (gLv (grantL gs u)),.b (has (grantL gs u))])) []:=by
 rw [← grT_u]
 exact l5Grant gs u
theorem l5Thing (es:List Event) (s:List Entry) (nm:List UInt8) (hn:nm.length < 1000) : Con P0 124 [eRoom ⟨es⟩,eEntryS s,.s nm] (.t (.i .i64 (thing es s nm))) []:=by
 refine Con.intro (fn:=Tryz.f124) [.tmp 6] (fun _=>(0,[])) mixed (by kernel_rfl) rfl (by decide) rfl (by rfl) (by kernel_rfl) ?_
 simp -implicitDefEqProofs (maxSteps:=2000000) only [push_cast,zA,zB,zC,zD,zE,zF,zG,↓reduceIte,reduceCtorEq,eRoom]
 have:=Bd.lo
 refine Callx.closed (l5EventU es s sPower []) rfl rfl (.inl rfl) ?_
 unfold thing sBan sKick sState
 generalize slotE es s (sPower,[])=p
 simp -implicitDefEqProofs (maxSteps:=2000000) only [push_cast,zA,zB,zC,zD,zE,zF,zG,↓reduceIte,reduceCtorEq,eRoom,eEvent]
 refine iteI (fun h1=>⟨by omega,?_⟩) (fun h1=>?_)
 ·refine Callx.closed (l5GrantU (oEv p).grants (42 :: nm)) rfl rfl (.inl rfl) ?_
  simp -implicitDefEqProofs (maxSteps:=2000000) only [push_cast,zA,zB,zC,zD,zE,zF,zG,↓reduceIte,reduceCtorEq,eRoom,eEvent]
  (repeat' (refine iteI (fun _=>?_) (fun _=>?_)))<;>simp_all
 ·(repeat' (refine iteI (fun _=>?_) (fun _=>?_)))<;>simp_all
theorem l5Membership (es:List Event) (s:List Entry) (u:List UInt8) : Con P0 122 [eRoom ⟨es⟩,eEntryS s,.s u] (.t (.s (memb es s u))) []:=by
 refine Con.intro (fn:=Tryz.f122) [.tmp 6] (fun _=>(0,[])) mixed (by kernel_rfl) rfl (by decide) rfl (by rfl) (by kernel_rfl) ?_
 simp -implicitDefEqProofs (maxSteps:=2000000) only [push_cast,zA,zB,zC,zD,zE,zF,zG,↓reduceIte,reduceCtorEq,eRoom]
 refine Callx.closed (l5EventU es s sMember u) rfl rfl (.inl rfl) ?_
 unfold memb sLeave
 simp -implicitDefEqProofs (maxSteps:=2000000) only [push_cast,zA,zB,zC,zD,zE,zF,zG,↓reduceIte,reduceCtorEq,eRoom,eEvent]
 (repeat' (refine iteI (fun _=>?_) (fun _=>?_)))<;>simp_all
theorem l5Join (es:List Event) (s:List Entry) (x:Event) : Con P0 121 [eRoom ⟨es⟩,eEntryS s,eEvent x] (.t (.i .i64 (joinC es s x))) []:=by
 refine Con.intro (fn:=Tryz.f121) [.tmp 6] (fun _=>(0,[])) mixed (by kernel_rfl) rfl (by decide) rfl (by rfl) (by kernel_rfl) ?_
 simp -implicitDefEqProofs (maxSteps:=2000000) only [push_cast,zA,zB,zC,zD,zE,zF,zG,↓reduceIte,reduceCtorEq,eRoom,eEvent]
 refine Callx.closed (l5Membership es s x.key) rfl rfl (.inl rfl) ?_
 simp -implicitDefEqProofs (maxSteps:=2000000) only [push_cast,zA,zB,zC,zD,zE,zF,zG,↓reduceIte,reduceCtorEq,eRoom,eEvent]
 unfold joinC sBan sJoin sInvite sPublic
 refine iteI (fun h1=>by rw [if_pos h1]) (fun h1=>?_)
 rw [if_neg h1]
 refine iteI (fun h2=>by rw [if_pos h2]) (fun h2=>?_)
 rw [if_neg h2]
 refine Callx.closed (l5EventU es s sRules []) rfl rfl (.inl rfl) ?_
 simp -implicitDefEqProofs (maxSteps:=2000000) only [push_cast,zA,zB,zC,zD,zE,zF,zG,↓reduceIte,reduceCtorEq,eRoom,eEvent]
 refine Callx.closed (l5EventU es s sCreate []) rfl rfl (.inl rfl) ?_
 simp -implicitDefEqProofs (maxSteps:=2000000) only [push_cast,zA,zB,zC,zD,zE,zF,zG,↓reduceIte,reduceCtorEq,eRoom,eEvent]
 refine Callx.closed (l5EventU es s sMember x.key) rfl rfl (.inl rfl) ?_
 simp -implicitDefEqProofs (maxSteps:=2000000) only [push_cast,zA,zB,zC,zD,zE,zF,zG,↓reduceIte,reduceCtorEq,eRoom,eEvent]
 clear h1 h2
 (repeat' (refine iteI (fun _=>?_) (fun _=>?_)))<;>simp_all
theorem l5Member (es:List Event) (s:List Entry) (x:Event) : Con P0 123 [eRoom ⟨es⟩,eEntryS s,eEvent x] (.t (.i .i64 (memC es s x))) []:=by
 refine Con.intro (fn:=Tryz.f123) [.tmp 6] (fun _=>(0,[])) mixed (by kernel_rfl) rfl (by decide) rfl (by rfl) (by kernel_rfl) ?_
 simp -implicitDefEqProofs (maxSteps:=2000000) only [push_cast,zA,zB,zC,zD,zE,zF,zG,↓reduceIte,reduceCtorEq,eRoom,eEvent]
 refine Callx.closed (l5Membership es s x.key) rfl rfl (.inl rfl) ?_
 simp -implicitDefEqProofs (maxSteps:=2000000) only [push_cast,zA,zB,zC,zD,zE,zF,zG,↓reduceIte,reduceCtorEq,eRoom,eEvent]
 refine Callx.closed (l5Level es s x.sender) rfl rfl (.inl rfl) ?_
 simp -implicitDefEqProofs (maxSteps:=2000000) only [push_cast,zA,zB,zC,zD,zE,zF,zG,↓reduceIte,reduceCtorEq,eRoom,eEvent]
 obtain ⟨R,hR⟩ : ∃ R,memC es s x=R:=⟨_,rfl⟩
 rw [hR]
 refine iteI (fun h1=>?_) (fun h1=>?_)
 ·refine iteI (fun h2=>?_) (fun h2=>iteI (fun h3=>?_) (fun h3=>?_))
  ·(repeat' (refine iteI (fun _=>?_) (fun _=>?_)))<;>(subst hR; first | (simp_all [memC,sBan,sInvite,sLeave,sJoin,sKick]; done) | (simp_all [memC,sBan,sInvite,sLeave,sJoin,sKick]<;>(repeat' split)<;>omega))
  ·(repeat' (refine iteI (fun _=>?_) (fun _=>?_)))<;>(subst hR; first | (simp_all [memC,sBan,sInvite,sLeave,sJoin,sKick]; done) | (simp_all [memC,sBan,sInvite,sLeave,sJoin,sKick]<;>(repeat' split)<;>omega))
  ·refine Callx.closed (l5Thing es s sInvite (by decide)) rfl rfl (.inl rfl) ?_
   simp -implicitDefEqProofs (maxSteps:=2000000) only [push_cast,zA,zB,zC,zD,zE,zF,zG,↓reduceIte,reduceCtorEq,eRoom,eEvent]
   (repeat' (refine iteI (fun _=>?_) (fun _=>?_)))<;>(subst hR; first | (simp_all [memC,sBan,sInvite,sLeave,sJoin,sKick]; done) | (simp_all [memC,sBan,sInvite,sLeave,sJoin,sKick]<;>(repeat' split)<;>omega))
 ·refine iteI (fun h2=>?_) (fun h2=>iteI (fun h3=>?_) (fun h3=>?_))
  ·refine Callx.closed (l5Thing es s sBan (by decide)) rfl rfl (.inl rfl) ?_
   simp -implicitDefEqProofs (maxSteps:=2000000) only [push_cast,zA,zB,zC,zD,zE,zF,zG,↓reduceIte,reduceCtorEq,eRoom,eEvent]
   refine iteI (fun h5=>?_) (fun h5=>?_)
   ·(repeat' (refine iteI (fun _=>?_) (fun _=>?_)))<;>(subst hR; first | (simp_all [memC,sBan,sInvite,sLeave,sJoin,sKick]; done) | (simp_all [memC,sBan,sInvite,sLeave,sJoin,sKick]<;>(repeat' split)<;>omega))
   refine iteI (fun h4=>?_) (fun h4=>?_)
   ·refine Callx.closed (l5Thing es s sKick (by decide)) rfl rfl (.inl rfl) ?_
    simp -implicitDefEqProofs (maxSteps:=2000000) only [push_cast,zA,zB,zC,zD,zE,zF,zG,↓reduceIte,reduceCtorEq,eRoom,eEvent]
    refine iteI (fun h5=>?_) (fun h5=>?_)
    ·(repeat' (refine iteI (fun _=>?_) (fun _=>?_)))<;>(subst hR; first | (simp_all [memC,sBan,sInvite,sLeave,sJoin,sKick]; done) | (simp_all [memC,sBan,sInvite,sLeave,sJoin,sKick]<;>(repeat' split)<;>omega))
    refine Callx.closed (l5Level es s x.key) rfl rfl (.inl rfl) ?_
    simp -implicitDefEqProofs (maxSteps:=2000000) only [push_cast,zA,zB,zC,zD,zE,zF,zG,↓reduceIte,reduceCtorEq,eRoom,eEvent]
    (repeat' (refine iteI (fun _=>?_) (fun _=>?_)))<;>(subst hR; first | (simp_all [memC,sBan,sInvite,sLeave,sJoin,sKick]; done) | (simp_all [memC,sBan,sInvite,sLeave,sJoin,sKick]<;>(repeat' split)<;>omega))
   ·refine Callx.closed (l5Level es s x.key) rfl rfl (.inl rfl) ?_
    simp -implicitDefEqProofs (maxSteps:=2000000) only [push_cast,zA,zB,zC,zD,zE,zF,zG,↓reduceIte,reduceCtorEq,eRoom,eEvent]
    (repeat' (refine iteI (fun _=>?_) (fun _=>?_)))<;>(subst hR; first | (simp_all [memC,sBan,sInvite,sLeave,sJoin,sKick]; done) | (simp_all [memC,sBan,sInvite,sLeave,sJoin,sKick]<;>(repeat' split)<;>omega))
  ·refine Callx.closed (l5Thing es s sBan (by decide)) rfl rfl (.inl rfl) ?_
   simp -implicitDefEqProofs (maxSteps:=2000000) only [push_cast,zA,zB,zC,zD,zE,zF,zG,↓reduceIte,reduceCtorEq,eRoom,eEvent]
   refine iteI (fun h5=>?_) (fun h5=>?_)
   ·(repeat' (refine iteI (fun _=>?_) (fun _=>?_)))<;>(subst hR; first | (simp_all [memC,sBan,sInvite,sLeave,sJoin,sKick]; done) | (simp_all [memC,sBan,sInvite,sLeave,sJoin,sKick]<;>(repeat' split)<;>omega))
   refine iteI (fun h4=>?_) (fun h4=>?_)
   ·refine Callx.closed (l5Thing es s sKick (by decide)) rfl rfl (.inl rfl) ?_
    simp -implicitDefEqProofs (maxSteps:=2000000) only [push_cast,zA,zB,zC,zD,zE,zF,zG,↓reduceIte,reduceCtorEq,eRoom,eEvent]
    refine iteI (fun h5=>?_) (fun h5=>?_)
    ·(repeat' (refine iteI (fun _=>?_) (fun _=>?_)))<;>(subst hR; first | (simp_all [memC,sBan,sInvite,sLeave,sJoin,sKick]; done) | (simp_all [memC,sBan,sInvite,sLeave,sJoin,sKick]<;>(repeat' split)<;>omega))
    refine Callx.closed (l5Level es s x.key) rfl rfl (.inl rfl) ?_
    simp -implicitDefEqProofs (maxSteps:=2000000) only [push_cast,zA,zB,zC,zD,zE,zF,zG,↓reduceIte,reduceCtorEq,eRoom,eEvent]
    (repeat' (refine iteI (fun _=>?_) (fun _=>?_)))<;>(subst hR; first | (simp_all [memC,sBan,sInvite,sLeave,sJoin,sKick]; done) | (simp_all [memC,sBan,sInvite,sLeave,sJoin,sKick]<;>(repeat' split)<;>omega))
   ·refine Callx.closed (l5Level es s x.key) rfl rfl (.inl rfl) ?_
    simp -implicitDefEqProofs (maxSteps:=2000000) only [push_cast,zA,zB,zC,zD,zE,zF,zG,↓reduceIte,reduceCtorEq,eRoom,eEvent]
    (repeat' (refine iteI (fun _=>?_) (fun _=>?_)))<;>(subst hR; first | (simp_all [memC,sBan,sInvite,sLeave,sJoin,sKick]; done) | (simp_all [memC,sBan,sInvite,sLeave,sJoin,sKick]<;>(repeat' split)<;>omega))
  ·refine iteI (fun h4=>?_) (fun h4=>?_)
   ·refine Callx.closed (l5Thing es s sKick (by decide)) rfl rfl (.inl rfl) ?_
    simp -implicitDefEqProofs (maxSteps:=2000000) only [push_cast,zA,zB,zC,zD,zE,zF,zG,↓reduceIte,reduceCtorEq,eRoom,eEvent]
    refine iteI (fun h5=>?_) (fun h5=>?_)
    ·(repeat' (refine iteI (fun _=>?_) (fun _=>?_)))<;>(subst hR; first | (simp_all [memC,sBan,sInvite,sLeave,sJoin,sKick]; done) | (simp_all [memC,sBan,sInvite,sLeave,sJoin,sKick]<;>(repeat' split)<;>omega))
    refine Callx.closed (l5Level es s x.key) rfl rfl (.inl rfl) ?_
    simp -implicitDefEqProofs (maxSteps:=2000000) only [push_cast,zA,zB,zC,zD,zE,zF,zG,↓reduceIte,reduceCtorEq,eRoom,eEvent]
    (repeat' (refine iteI (fun _=>?_) (fun _=>?_)))<;>(subst hR; first | (simp_all [memC,sBan,sInvite,sLeave,sJoin,sKick]; done) | (simp_all [memC,sBan,sInvite,sLeave,sJoin,sKick]<;>(repeat' split)<;>omega))
   ·refine Callx.closed (l5Level es s x.key) rfl rfl (.inl rfl) ?_
    simp -implicitDefEqProofs (maxSteps:=2000000) only [push_cast,zA,zB,zC,zD,zE,zF,zG,↓reduceIte,reduceCtorEq,eRoom,eEvent]
    (repeat' (refine iteI (fun _=>?_) (fun _=>?_)))<;>(subst hR; first | (simp_all [memC,sBan,sInvite,sLeave,sJoin,sKick]; done) | (simp_all [memC,sBan,sInvite,sLeave,sJoin,sKick]<;>(repeat' split)<;>omega))
theorem l5Names (a b:List Grant) (hB:Bd.B≤2147483648) (hl:a.length + b.length < 1000) : Con P0 189 [eGrantS a,eGrantS b] (.sr 0) [.arr 9 1 (.own .leaf) ((namesL a b).map T.s)]:=by
 refine Con.intro (fn:=Tryz.f189) [.tmp 4] (fun _=>(0,[])) mixed (by kernel_rfl) rfl (by decide) rfl (by rfl) (by kernel_rfl) ?_
 simp -implicitDefEqProofs (maxSteps:=2000000) only [push_cast,zA,zB,zC,zD,zE,zF,zG,↓reduceIte,reduceCtorEq]
 have:=Bd.lo
 have hhi:=Bd.hi
 refine ⟨rfl,by omega,?_⟩
 refine WL.loop (ι:=Nat) (D:=(fun _=>(0,[]))) (fun i=>i≤a.length) (fun i=>⟨38,[(0,.t (eGrantS a)),(1,.t (eGrantS b)),(5,.sr 0),(6,.t (.i .i64 i))],[.arr 9 1 (.own .leaf) (((a.take i).map (·.name)).map T.s)]⟩) (fun i=>a.length - i) mixed (by kernel_rfl) 0 (by omega) (Keep.wk (ids:=[some 0]) ?_) ?_
 ·simp only [push_cast,zA,zB,zC,zD,zE,zF,zG,↓reduceIte,reduceCtorEq,List.take_zero,List.map_nil]<;>trivial
 intro i hi
 simp -implicitDefEqProofs (maxSteps:=2000000) only [push_cast,zA,zB,zC,zD,zE,zF,zG,↓reduceIte,reduceCtorEq,eGrant]
 intro _
 refine iteI (fun h=>⟨by omega,fun g hg=>?_⟩) (fun h=>?_)
 ·rw [Int.toNat_natCast] at hg
  refine ⟨rfl,by omega,rfl,by omega,by rw [List.length_take]; omega,by unfold inI64; omega,i + 1,by omega,by omega,Keep.wk (ids:=[some 2]) ?_⟩
  rw [List.take_add_one,hg]
  simp only [push_cast,zA,zB,zC,zD,zE,zF,zG,↓reduceIte,reduceCtorEq,List.map_append,Option.toList_some,List.map_cons,List.map_nil]<;>trivial
 ·have hi : i=a.length:=by omega
  subst hi
  refine WL.loop (ι:=Nat) (D:=(fun _=>(0,[]))) (fun i=>i≤b.length) (fun i=>⟨38,[(1,.t (eGrantS b)),(5,.sr 0),(7,.t (.i .i64 i))],[.arr 9 1 (.own .leaf) ((a.map (·.name) ++ (b.take i).map (·.name)).map T.s)]⟩) (fun i=>b.length - i) mixed (by kernel_rfl) 0 (by omega) (Keep.wk (ids:=[some 0]) ?_) ?_
  ·simp only [push_cast,zA,zB,zC,zD,zE,zF,zG,↓reduceIte,reduceCtorEq,List.take_zero,List.map_nil,List.append_nil,List.take_length]<;>trivial
  intro i hi
  simp -implicitDefEqProofs (maxSteps:=2000000) only [push_cast,zA,zB,zC,zD,zE,zF,zG,↓reduceIte,reduceCtorEq,eGrant]
  intro _
  refine iteI (fun h=>⟨by omega,fun g hg=>?_⟩) (fun h=>?_)
  ·rw [Int.toNat_natCast] at hg
   refine ⟨rfl,by omega,rfl,by omega,by rw [List.length_take]; omega,by unfold inI64; omega,i + 1,by omega,by omega,Keep.wk (ids:=[some 2]) ?_⟩
   rw [List.take_add_one,hg]
   simp only [push_cast,zA,zB,zC,zD,zE,zF,zG,↓reduceIte,reduceCtorEq,List.map_append,Option.toList_some,List.map_cons,List.map_nil,List.append_assoc]<;>trivial
  ·have hi : i=b.length:=by omega
   subst hi
   rw [List.take_length]
   exact Close.of [some 0] rfl rfl rfl rfl (by simp only [push_cast,zA,zB,zC,zD,zE,zF,zG,↓reduceIte,reduceCtorEq,namesL]<;>rfl)
open Classical in
theorem powOk_no {old now:List Grant} {snd:List UInt8} {own:Int} {n:List UInt8} (hn:n∈namesL old now) (h:badN old now snd own n) : powOk old now snd own=false:=by
 unfold powOk
 exact decide_eq_false fun hh=>hh n hn h
open Classical in
theorem powOk_yes {old now:List Grant} {snd:List UInt8} {own:Int} (h:∀ n∈namesL old now,¬ badN old now snd own n) : powOk old now snd own=true:=by
 unfold powOk
 exact decide_eq_true h
theorem l5PowerOk (a b:List Grant) (snd:List UInt8) (own:Int) (hB:Bd.B≤2147483648) (hl:a.length + b.length < 1000) : Con P0 126 [eGrantS a,eGrantS b,.s snd,.i .i64 own] (.t (.b (powOk a b snd own))) []:=by
 refine Con.intro (fn:=Tryz.f126) [.tmp 8] (fun _=>(0,[])) mixed (by kernel_rfl) rfl (by decide) rfl (by rfl) (by kernel_rfl) ?_
 simp -implicitDefEqProofs (maxSteps:=2000000) only [push_cast,zA,zB,zC,zD,zE,zF,zG,↓reduceIte,reduceCtorEq]
 have:=Bd.lo
 have hhi:=Bd.hi
 refine Callx.closed (l5Names a b hB hl) rfl rfl (.inr ⟨rfl,rfl⟩) ?_
 simp -implicitDefEqProofs (maxSteps:=2000000) only [push_cast,zA,zB,zC,zD,zE,zF,zG,↓reduceIte,reduceCtorEq]
 have hnl : (namesL a b).length=a.length + b.length:=by unfold namesL; rw [List.length_append,List.length_map,List.length_map]
 refine WL.loop (ι:=Nat) (D:=(fun _=>(0,[]))) (fun i=>i≤(namesL a b).length∧∀ n∈(namesL a b).take i,¬ badN a b snd own n) (fun i=>⟨85,[(0,.t (eGrantS a)),(1,.t (eGrantS b)),(2,.t (.s snd)),(3,.t (.i .i64 own)),(9,.sr 0),(10,.t (.i .i64 i))],[.arr 9 1 (.own .leaf) ((namesL a b).map T.s)]⟩) (fun i=>(namesL a b).length - i) mixed (by kernel_rfl) 0 ⟨by omega,by simp⟩ (Keep.wk (ids:=[some 0]) ?_) ?_
 ·simp only [push_cast,zA,zB,zC,zD,zE,zF,zG,↓reduceIte,reduceCtorEq]<;>trivial
 rintro i ⟨hi,hc⟩
 simp -implicitDefEqProofs (maxSteps:=2000000) only [push_cast,zA,zB,zC,zD,zE,zF,zG,↓reduceIte,reduceCtorEq]
 refine fun _=>iteI (fun h=>⟨by omega,by omega,fun n hn=>?_⟩) (fun h=>?_)
 rotate_left
 ·rw [List.take_of_length_le (by omega)] at hc
  rw [powOk_yes hc]
 rw [Int.toNat_natCast] at hn
 have hnm:=List.mem_of_getElem? hn
 have hts : (namesL a b).take (i + 1)=(namesL a b).take i ++ [n]:=by rw [List.take_add_one,hn]; rfl
 have at_i : ∀ {K:List UInt8→Prop},K n→(∀ x,(namesL a b)[(i:Int).toNat]? = some x→K x):=fun {K} k x hx=>by rw [Int.toNat_natCast,hn] at hx; cases hx; exact k
 obtain ⟨A,hA⟩ : ∃ A,grantL a n=A:=⟨_,rfl⟩
 obtain ⟨B,hBB⟩ : ∃ B,grantL b n=B:=⟨_,rfl⟩
 have no : badG A B snd own n→T.b false=T.b (powOk a b snd own):=fun hb=>by rw [powOk_no hnm (by unfold badN; rw [hA,hBB]; exact hb)]
 have yes : ¬ badG A B snd own n → ∀ x∈(namesL a b).take (i + 1),¬ badN a b snd own x:=fun hb x hx=>by
  rw [hts] at hx
  rcases List.mem_append.1 hx with hx | hx
  ·exact hc x hx
  ·simp at hx; subst hx; unfold badN; rw [hA,hBB]; exact hb
 obtain ⟨RP,hRP⟩ : ∃ RP,powOk a b snd own=RP:=⟨_,rfl⟩
 rw [hRP] at no ⊢
 obtain ⟨al,hal⟩ : ∃ x,has A=x:=⟨_,rfl⟩
 obtain ⟨bl,hbl⟩ : ∃ x,has B=x:=⟨_,rfl⟩
 obtain ⟨wl,hwl⟩ : ∃ x,isW n=x:=⟨_,rfl⟩
 unfold badG at no yes
 rw [hal,hbl,hwl] at no yes
 refine Callx.closed (l5GrantU a n) rfl rfl (.inl rfl) ?_
 simp -implicitDefEqProofs (maxSteps:=2000000) only [push_cast,zA,zB,zC,zD,zE,zF,zG,↓reduceIte,reduceCtorEq,hA,hal]
 refine ⟨by omega,by omega,at_i ?_⟩
 refine Callx.closed (l5GrantU b n) rfl rfl (.inl rfl) ?_
 cases al<;>cases bl
 all_goals
  simp -implicitDefEqProofs (maxSteps:=2000000) only [push_cast,zA,zB,zC,zD,zE,zF,zG,↓reduceIte,reduceCtorEq,hBB,hbl]
  repeat' first
   | refine iteI (fun _ => ?_) (fun _=>?_)
   | (refine ⟨by omega,by omega,at_i ?_⟩
      refine Callx.closed (l1Word n) rfl rfl (.inl rfl) ?_
      cases wl<;>simp -implicitDefEqProofs (maxSteps:=2000000) only [push_cast,zA,zB,zC,zD,zE,zF,zG,↓reduceIte,reduceCtorEq,hwl])
   | refine ⟨by omega,by omega,at_i ?_⟩
   | fail
 all_goals first
  | exact no (by simp_all; done)
  | exact no (by simp_all<;>omega)
  | (refine ⟨by unfold inI64; omega,i + 1,⟨by omega,yes (by first | (simp_all; done) | (simp_all<;>omega))⟩,by omega,Keep.wk (ids:=[some 0]) ?_⟩
     simp only [push_cast,zA,zB,zC,zD,zE,zF,zG,↓reduceIte,reduceCtorEq]<;>trivial)
end Go.Proofs.YtmgdkkhnjkepiaaGreat.BX
namespace Go.Proofs.YtmgdkkhnjkepiaaGreat.BX
open Nat renaming reduceEqDiff → zA, reduceLT → zB, reduceLeDiff → zC, reduceAdd → zD, reduceMul → zE, reduceSub → zF, reduceBEq → zG
set_option linter.unusedSectionVars false
set_option linter.unusedSimpArgs false
set_option linter.unusedVariables false
open Go Go.RowKit
set_option maxRecDepth 20000
set_option maxHeartbeats 400000
theorem evOk_typ {e:Event} (h:evOk e=0) : e.typ.length≤40:=by
 unfold evOk at h
 split at h
 ·cases h
 rename_i h1
 have h1:=(Classical.not_not.1 h1).2.2
 unfold isW at h1
 simp only [Bool.and_eq_true,decide_eq_true_eq] at h1
 omega
variable [Bd]
theorem evOk_grants {e:Event} (h:evOk e=0) : e.grants.length≤50:=by
 have h:=evOk_content h
 unfold contentB at h
 have h0 : ∀ l : List Grant,decide ((l.length : Int)=0)=true→l.length≤50:=fun l hl=>by rw [decide_eq_true_eq] at hl; omega
 have hg : ∀ l : List Grant,grantsB l=true→l.length≤50:=fun l hl=>by
  unfold grantsB at hl
  simp only [Bool.and_eq_true,decide_eq_true_eq] at hl
  omega
 split at h
 ·simp only [Bool.and_eq_true] at h; exact h0 _ h.1.1.1.2
 split at h
 ·simp only [Bool.and_eq_true] at h; exact h0 _ h.1.2
 split at h
 ·simp only [Bool.and_eq_true] at h; exact h0 _ h.1.2
 split at h
 ·simp only [Bool.and_eq_true] at h; exact hg _ h.2
 ·simp only [Bool.and_eq_true] at h; exact h0 _ h.1
omit [Bd] in
theorem c64 (c:UInt8) : ((c.toNat : Int)=64)=(c=64):=by
 apply propext
 constructor
 ·intro h
  have : c.toNat=64:=by omega
  exact UInt8.toNat_inj.1 this
 ·intro h; subst h; rfl
theorem l5Allowed (es:List Event) (s:List Entry) (x:Event) (hB:Bd.B≤2147483648) (hv:Valid es) (hf:fitsB es s=true) (he:evOk x=0) : Con P0 63 [eRoom ⟨es⟩,eEntryS s,eEvent x] (.t (.i .i64 (allowC es s x))) []:=by
 refine Con.intro (fn:=Tryz.f63) [.tmp 6] (fun _=>(0,[])) mixed (by kernel_rfl) rfl (by decide) rfl (by rfl) (by kernel_rfl) ?_
 simp -implicitDefEqProofs (maxSteps:=2000000) only [push_cast,zA,zB,zC,zD,zE,zF,zG,↓reduceIte,reduceCtorEq,eRoom,eEvent]
 have:=Bd.lo
 obtain ⟨R,hR⟩ : ∃ R,allowC es s x=R:=⟨_,rfl⟩
 rw [hR]
 have hR0:=hR
 have hty : x.typ.length≤40:=evOk_typ he
 obtain ⟨cr,hcr⟩ : ∃ c,has (slotE es s (sCreate,[]))=c:=⟨_,rfl⟩
 unfold allowC at hR
 rw [hcr] at hR
 unfold sCreate sMember sJoin sLeave sInvite at hR
 refine Callx.closed (l5EventU es s sCreate []) rfl rfl (.inl rfl) ?_
 simp -implicitDefEqProofs (maxSteps:=2000000) only [push_cast,zA,zB,zC,zD,zE,zF,zG,↓reduceIte,reduceCtorEq,eRoom,eEvent,hcr]
 refine iteI (fun h1=>?_) (fun h1=>?_)
 ·(repeat' (refine iteI (fun _=>?_) (fun _=>?_)))<;>(clear hR0; subst hR; simp_all)
 rw [if_neg h1] at hR
 refine iteI (fun h2=>?_) (fun h2=>?_)
 ·(repeat' (refine iteI (fun _=>?_) (fun _=>?_)))<;>(clear hR0; subst hR; simp_all)
 have h2 : cr=true:=by simpa using h2
 rw [if_neg (by simp [h2])] at hR
 by_cases hm : x.typ=[109,101,109,98,101,114]
 ·rw [if_pos hm]
  refine iteI (fun h3=>?_) (fun h3=>?_)
  ·refine Callx.closed (l5Join es s x) rfl rfl (.inl rfl) ?_
   simp -implicitDefEqProofs (maxSteps:=2000000) only [push_cast,zA,zB,zC,zD,zE,zF,zG,↓reduceIte,reduceCtorEq,eRoom,eEvent,hcr]
   (repeat' (refine iteI (fun _=>?_) (fun _=>?_)))<;>(clear hR0; subst hR; simp_all)
  rw [if_pos hm]
  refine iteI (fun h4=>iteI (fun h5=>?_) (fun h5=>?_)) (fun h4=>?_)
  ·refine Callx.closed (l5Membership es s x.key) rfl rfl (.inl rfl) ?_
   simp -implicitDefEqProofs (maxSteps:=2000000) only [push_cast,zA,zB,zC,zD,zE,zF,zG,↓reduceIte,reduceCtorEq,eRoom,eEvent,hcr]
   (repeat' (refine iteI (fun _=>?_) (fun _=>?_)))<;>(clear hR0; subst hR; simp_all)
  ·refine Callx.closed (l5Membership es s x.sender) rfl rfl (.inl rfl) ?_
   simp -implicitDefEqProofs (maxSteps:=2000000) only [push_cast,zA,zB,zC,zD,zE,zF,zG,↓reduceIte,reduceCtorEq,eRoom,eEvent,hcr]
   refine iteI (fun h6=>?_) (fun h6=>?_)
   ·(repeat' (refine iteI (fun _=>?_) (fun _=>?_)))<;>(clear hR0; subst hR; simp_all)
   rw [if_pos hm]
   refine Callx.closed (l5Member es s x) rfl rfl (.inl rfl) ?_
   simp -implicitDefEqProofs (maxSteps:=2000000) only [push_cast,zA,zB,zC,zD,zE,zF,zG,↓reduceIte,reduceCtorEq,eRoom,eEvent,hcr]
   (repeat' (refine iteI (fun _=>?_) (fun _=>?_)))<;>(clear hR0; subst hR; simp_all)
  ·refine Callx.closed (l5Membership es s x.sender) rfl rfl (.inl rfl) ?_
   simp -implicitDefEqProofs (maxSteps:=2000000) only [push_cast,zA,zB,zC,zD,zE,zF,zG,↓reduceIte,reduceCtorEq,eRoom,eEvent,hcr]
   refine iteI (fun h6=>?_) (fun h6=>?_)
   ·(repeat' (refine iteI (fun _=>?_) (fun _=>?_)))<;>(clear hR0; subst hR; simp_all)
   rw [if_pos hm]
   refine Callx.closed (l5Member es s x) rfl rfl (.inl rfl) ?_
   simp -implicitDefEqProofs (maxSteps:=2000000) only [push_cast,zA,zB,zC,zD,zE,zF,zG,↓reduceIte,reduceCtorEq,eRoom,eEvent,hcr]
   (repeat' (refine iteI (fun _=>?_) (fun _=>?_)))<;>(clear hR0; subst hR; simp_all)
 rw [if_neg hm,if_neg hm]
 rw [if_neg (fun h=>hm h.1),if_neg (fun h=>hm h.1),if_neg hm] at hR
 refine Callx.closed (l5Membership es s x.sender) rfl rfl (.inl rfl) ?_
 simp -implicitDefEqProofs (maxSteps:=2000000) only [push_cast,zA,zB,zC,zD,zE,zF,zG,↓reduceIte,reduceCtorEq,eRoom,eEvent,hcr]
 refine iteI (fun h6=>?_) (fun h6=>?_)
 ·(repeat' (refine iteI (fun _=>?_) (fun _=>?_)))<;>(clear hR0; subst hR; simp_all)
 rw [if_neg hm]
 rw [if_neg h6] at hR
 refine Callx.closed (l5Level es s x.sender) rfl rfl (.inl rfl) ?_
 simp -implicitDefEqProofs (maxSteps:=2000000) only [push_cast,zA,zB,zC,zD,zE,zF,zG,↓reduceIte,reduceCtorEq,eRoom,eEvent,hcr]
 refine Callx.closed (l5EventU es s sPower []) rfl rfl (.inl rfl) ?_
 simp -implicitDefEqProofs (maxSteps:=2000000) only [push_cast,zA,zB,zC,zD,zE,zF,zG,↓reduceIte,reduceCtorEq,eRoom,eEvent,hcr]
 refine Callx.closed (l5Thing es s sAct (by decide)) rfl rfl (.inl rfl) ?_
 simp -implicitDefEqProofs (maxSteps:=2000000) only [push_cast,zA,zB,zC,zD,zE,zF,zG,↓reduceIte,reduceCtorEq,eRoom,eEvent,hcr]
 have hgl : (oEv (slotE es s (sPower,[]))).grants.length + x.grants.length < 1000:=by
  have h1:=evOk_grants he
  have h2 : (oEv (slotE es s (sPower,[]))).grants.length≤50:=by
   cases hp : slotE es s (sPower,[]) with
   | none => simp [oEv,zeroEv]
   | some p =>
     obtain ⟨i,hi⟩:=slot_in hp
     exact evOk_grants (hv.good hi).ok
  omega
 have hsP : sPower=[112,111,119,101,114]:=rfl
 refine iteI (fun h3=>?_) (fun h3=>?_)
 ·refine Callx.closed (l5Thing es s sState (by decide)) rfl rfl (.inl rfl) ?_
  simp -implicitDefEqProofs (maxSteps:=2000000) only [push_cast,zA,zB,zC,zD,zE,zF,zG,↓reduceIte,reduceCtorEq,eRoom,eEvent,hcr]
  refine ⟨by omega,?_⟩
  refine Callx.closed (l5GrantU (oEv (slotE es s (sPower,[]))).grants (35 :: x.typ)) rfl rfl (.inl rfl) ?_
  obtain ⟨pw,hpw⟩ : ∃ c,has (slotE es s (sPower,[]))=c:=⟨_,rfl⟩
  obtain ⟨gr,hgr⟩ : ∃ c,has (grantL (oEv (slotE es s (sPower,[]))).grants (35 :: x.typ))=c:=⟨_,rfl⟩
  obtain ⟨own,hown⟩ : ∃ c,lvl es s x.sender=c:=⟨_,rfl⟩
  unfold otherC needLv sPower at hR
  simp only [← hsP] at hR
  rw [hpw,hgr,hown] at hR
  cases pw<;>cases gr
  all_goals
   simp -implicitDefEqProofs (maxSteps:=2000000) only [push_cast,zA,zB,zC,zD,zE,zF,zG,↓reduceIte,reduceCtorEq,eRoom,eEvent,hcr,hpw,hgr,hown]
   clear hR0
   repeat' first
    | refine iteI (fun _ => ?_) (fun _=>?_)
    | (refine Callx.closed (l5PowerOk _ _ _ _ hB hgl) rfl rfl (.inl rfl) ?_
       simp -implicitDefEqProofs (maxSteps:=2000000) only [push_cast,zA,zB,zC,zD,zE,zF,zG,↓reduceIte,reduceCtorEq,eRoom,eEvent])
    | (refine ⟨by have := List.length_pos_iff.2 (by assumption); omega, fun c hc => ?_⟩
       have hc : x.key[0]? = some c:=hc
       simp -implicitDefEqProofs (maxSteps:=2000000) only [push_cast,zA,zB,zC,zD,zE,zF,zG,↓reduceIte,reduceCtorEq,eRoom,eEvent,hpw,hgr,hown,c64])
    | fail
   all_goals first
    | (subst hR; simp_all; done)
    | (subst hR; simp_all<;>(repeat' split)<;>omega)
    | skip
 ·refine ⟨by omega,?_⟩
  refine Callx.closed (l5GrantU (oEv (slotE es s (sPower,[]))).grants (35 :: x.typ)) rfl rfl (.inl rfl) ?_
  obtain ⟨pw,hpw⟩ : ∃ c,has (slotE es s (sPower,[]))=c:=⟨_,rfl⟩
  obtain ⟨gr,hgr⟩ : ∃ c,has (grantL (oEv (slotE es s (sPower,[]))).grants (35 :: x.typ))=c:=⟨_,rfl⟩
  obtain ⟨own,hown⟩ : ∃ c,lvl es s x.sender=c:=⟨_,rfl⟩
  unfold otherC needLv sPower at hR
  simp only [← hsP] at hR
  rw [hpw,hgr,hown] at hR
  cases pw<;>cases gr
  all_goals
   simp -implicitDefEqProofs (maxSteps:=2000000) only [push_cast,zA,zB,zC,zD,zE,zF,zG,↓reduceIte,reduceCtorEq,eRoom,eEvent,hcr,hpw,hgr,hown]
   clear hR0
   repeat' first
    | refine iteI (fun _ => ?_) (fun _=>?_)
    | (refine Callx.closed (l5PowerOk _ _ _ _ hB hgl) rfl rfl (.inl rfl) ?_
       simp -implicitDefEqProofs (maxSteps:=2000000) only [push_cast,zA,zB,zC,zD,zE,zF,zG,↓reduceIte,reduceCtorEq,eRoom,eEvent])
    | (refine ⟨by have := List.length_pos_iff.2 (by assumption); omega, fun c hc => ?_⟩
       have hc : x.key[0]? = some c:=hc
       simp -implicitDefEqProofs (maxSteps:=2000000) only [push_cast,zA,zB,zC,zD,zE,zF,zG,↓reduceIte,reduceCtorEq,eRoom,eEvent,hpw,hgr,hown,c64])
    | fail
   all_goals first
    | (subst hR; simp_all; done)
    | (subst hR; simp_all<;>(repeat' split)<;>omega)
    | skip
end Go.Proofs.YtmgdkkhnjkepiaaGreat.BX
namespace Go.Proofs.YtmgdkkhnjkepiaaGreat.BX
open Nat renaming reduceEqDiff → zA, reduceLT → zB, reduceLeDiff → zC, reduceAdd → zD, reduceMul → zE, reduceSub → zF, reduceBEq → zG
set_option linter.unusedSectionVars false
set_option linter.unusedSimpArgs false
set_option linter.unusedVariables false
open Go Go.RowKit
set_option maxRecDepth 20000
set_option maxHeartbeats 400000
theorem setL_idsR {s:List Entry} {e:Entry} (h:∀ x∈s,x.id≠[]) : ∀ x∈setL s e false,x.id≠[]:=by
 intro x hx
 unfold setL at hx
 rcases List.mem_append.1 hx with hx | hx
 ·exact h x ((List.takeWhile_prefix _).subset hx)
 ·rcases List.mem_append.1 hx with hx | hx
  ·split at hx
   ·rename_i hc
    simp at hx
    subst hx
    simpa using hc
   ·cases hx
  ·exact h x (List.mem_filter.1 hx).1
theorem stateOk_ofR {s:List Entry} (h1:inOrd s=true) (h2:s.length≤300) (h3:∀ e∈s,e.id≠[]) : stateOk s=true:=by
 unfold stateOk
 simp only [Bool.and_eq_true,decide_eq_true_eq]
 exact ⟨h3,by omega,h1⟩
structure Fit (es:List Event) (s:List Entry) : Prop where
 ord : Ordered s
 ids : ∀ x∈s,x.id≠[]
 fit : ∀ x∈s,fitE es x=true
theorem fitE_at {es:List Event} {x:Entry} (h:fitE es x=true) : ∃ j a,posOf x.id es=some j∧es[j]? = some a∧a.isState=true∧a.typ=x.typ∧a.key=x.key:=by
 unfold fitE at h
 split at h
 ·rename_i j hj
  split at h
  ·rename_i a ha
   simp only [Bool.and_eq_true,decide_eq_true_eq] at h
   exact ⟨j,a,hj,ha,h.1.1,h.1.2,h.2⟩
  ·cases h
 ·cases h
theorem Fit.there {es:List Event} {s:List Entry} (h:Fit es s) {x:Entry} (hx:x∈s) : There es x.id:=by
 obtain ⟨j,a,hj,_⟩:=fitE_at (h.fit x hx)
 unfold There; rw [hj]; rfl
theorem Fit.idnodup {es:List Event} {s:List Entry} (h:Fit es s) : (s.map (·.id)).Nodup:=by
 have ho:=h.ord
 have hf:=h.fit
 refine List.pairwise_map.2 (ho.imp_of_mem fun {a b} ha hb hab he=>?_)
 obtain ⟨j,x,hj,hx,_,t1,k1⟩:=fitE_at (hf a ha)
 obtain ⟨j',x',hj',hx',_,t2,k2⟩:=fitE_at (hf b hb)
 have he : a.id=b.id:=he
 rw [he,hj'] at hj
 cases hj
 rw [hx'] at hx
 cases hx
 exact before_slot hab (by show (a.typ,a.key)=(b.typ,b.key); rw [← t1,← t2,← k1,← k2])
theorem Fit.len {es:List Event} {s:List Entry} (h:Fit es s) : s.length≤es.length:=by
 have:=len_sub h.idnodup (m:=es.map (·.id)) fun x hx=>by
  obtain ⟨e,he,rfl⟩:=List.mem_map.1 hx
  obtain ⟨j,a,hj,_⟩:=fitE_at (h.fit e he)
  obtain ⟨b,hb,hid,_⟩:=posOf_some.1 hj
  rw [← hid]
  exact List.mem_map_of_mem (List.mem_of_getElem? hb)
 simpa using this
theorem Fit.fits {es:List Event} (hv:Valid es) {s:List Entry} (h:Fit es s) : fitsB es s=true:=by
 rw [fit_all h.fit]
 have:=h.len
 have:=hv.len
 exact stateOk_ofR (inOrd_of h.ord) (by omega) h.ids
theorem Fit.of {es:List Event} {s:List Entry} (h:fitsB es s=true) : Fit es s:=by
 obtain ⟨h1,h2⟩:=fits_of h
 obtain ⟨h3,_,h5⟩:=stateOk_ord h1
 exact ⟨ordered_of h3,h5,h2⟩
theorem Fit.nil {es:List Event} : Fit es []:=⟨.nil,by simp,by simp⟩
theorem Fit.set {es:List Event} {s:List Entry} (h:Fit es s) {e:Entry} (he:e.id=[] ∨ fitE es e=true) : Fit es (setL s e false):=by
 refine ⟨(setL_spec h.ord).1,setL_idsR h.ids,fun x hx=>?_⟩
 rcases setL_mem hx with hx' | rfl
 ·exact h.fit x hx'
 ·rcases he with he | he
  ·exact absurd he (setL_idsR h.ids _ hx)
  ·exact he
theorem Fit.patch {es:List Event} {ch:List Entry} : ∀ {s:List Entry},Fit es s→(∀ e∈ch,fitE es e=true)→Fit es (patchL s ch):=by
 induction ch with
 | nil => intro s h _; exact h
 | cons e ch ih =>
   intro s h hc
   exact ih (h.set (.inr (hc e (by simp)))) fun x hx=>hc x (by simp [hx])
theorem sameL_sub {ss:List (List Entry)} : ∀ {p:List Entry} {x:Entry},x∈sameL ss p→x∈p:=by
 intro p x hx
 have key : ∀ (l:List Entry) (o:List Entry),x∈l.foldl (fun o e=>setL o e false) o→x∈o ∨ x∈l:=by
  intro l
  induction l with
  | nil => intro o h; exact .inl h
  | cons e l ih =>
    intro o h
    rcases ih _ h with h | h
    ·rcases setL_mem h with h | rfl
     ·exact .inl h
     ·exact .inr (by simp)
    ·exact .inr (by simp [h])
 rcases key _ _ hx with h | h
 ·cases h
 ·exact (List.mem_filter.1 h).1
def Fits (es:List Event) (ss:List (List Entry)) : Prop:=ss.length≤20∧∀ s∈ss,Fit es s
theorem Fits.ok {es:List Event} (hv:Valid es) {ss:List (List Entry)} (h:Fits es ss) : splOk ss=true:=by
 unfold splOk
 rw [decide_eq_true h.1,Bool.true_and,List.all_eq_true]
 exact fun s hs=>(fits_of ((h.2 s hs).fits hv)).1
theorem Fits.same {es:List Event} (hv:Valid es) {ss:List (List Entry)} (h:Fits es ss) : splS ss=sameL ss ss.flatten∧Fit es (splS ss):=by
 have he : splS ss=sameL ss ss.flatten:=if_pos (h.ok hv)
 refine ⟨he,?_⟩
 rw [he]
 have hin : ∀ x∈sameL ss ss.flatten,∃ s∈ss,x∈s:=fun x hx=>by simpa using sameL_sub hx
 exact ⟨sameL_len.1,fun x hx=>by obtain ⟨s,hs,hxs⟩:=hin x hx; exact (h.2 s hs).ids x hxs,fun x hx=>by obtain ⟨s,hs,hxs⟩:=hin x hx; exact (h.2 s hs).fit x hxs⟩
theorem Fits.others {es:List Event} (hv:Valid es) {ss:List (List Entry)} (h:Fits es ss) : ∀ x∈splO ss,There es x:=by
 intro x hx
 rw [show splO ss=sset (othL ss ss.flatten) from if_pos (h.ok hv),sset_mem] at hx
 unfold othL at hx
 obtain ⟨e,he,rfl⟩:=List.mem_map.1 hx
 obtain ⟨s,hs,hes⟩:=List.mem_flatten.1 (List.mem_filter.1 he).1
 exact (h.2 s hs).there hes
def idsE (s:List Entry) : List (List UInt8):=s.map (·.id)
def inAll (ls:List (List (List UInt8))) (x:List UInt8) : Bool:=ls.all fun l=>decide (x∈l)
def diffL (ls:List (List (List UInt8))) : List (List UInt8):=sset (ls.flatten.filter fun x=>!inAll ls x)
noncomputable def chainsL (es:List Event) (ss:List (List Entry)) : List (List (List UInt8)):=ss.map fun s=>fullL es (idsE s)
noncomputable def confL (es:List Event) (ss:List (List Entry)) : List (List UInt8):=sset (splO ss ++ diffL (chainsL es ss))
theorem fullL_there {es:List Event} (hv:Valid es) {ids:List (List UInt8)} (h:∀ x∈ids,There es x) : ∀ x∈fullL es ids,There es x:=by
 intro x hx
 unfold fullL at hx
 rw [sset_mem,List.mem_append] at hx
 rcases hx with hx | hx
 ·exact h x hx
 ·unfold ancL at hx
  rw [srt_perm.mem_iff,idsN_mem] at hx
  obtain ⟨i,e,_,he,_,rfl⟩:=hx
  unfold There
  rw [hv.pos he]; rfl
theorem there_len {es:List Event} {l:List (List UInt8)} (hn:l.Nodup) (h:∀ x∈l,There es x) : l.length≤es.length:=by
 have:=len_sub hn (m:=es.map (·.id)) fun x hx=>by
  obtain ⟨k,e,he,hid,_⟩:=there_at (h x hx)
  rw [← hid]
  exact List.mem_map_of_mem (List.mem_of_getElem? he)
 simpa using this
theorem Fits.chains {es:List Event} (hv:Valid es) {ss:List (List Entry)} (h:Fits es ss) : ∀ l∈chainsL es ss,(∀ x∈l,There es x)∧l.length≤300:=by
 intro l hl
 obtain ⟨s,hs,rfl⟩:=List.mem_map.1 hl
 have ht : ∀ x∈fullL es (idsE s),There es x:=fullL_there hv fun x hx=>by
  obtain ⟨e,he,rfl⟩:=List.mem_map.1 hx
  exact (h.2 s hs).there he
 exact ⟨ht,Nat.le_trans (there_len (asc_nodup sset_asc) ht) hv.len⟩
theorem diffL_mem {ls:List (List (List UInt8))} {x:List UInt8} : x∈diffL ls ↔ (∃ l∈ls,x∈l)∧inAll ls x=false:=by
 unfold diffL
 rw [sset_mem,List.mem_filter,List.mem_flatten]
 simp
theorem Fits.conf {es:List Event} (hv:Valid es) {ss:List (List Entry)} (h:Fits es ss) : (∀ x∈confL es ss,There es x)∧(confL es ss).length≤300∧(confL es ss).Nodup:=by
 have ht : ∀ x∈confL es ss,There es x:=by
  intro x hx
  unfold confL at hx
  rw [sset_mem,List.mem_append] at hx
  rcases hx with hx | hx
  ·exact h.others hv x hx
  ·obtain ⟨⟨l,hl,hxl⟩,_⟩:=diffL_mem.1 hx
   exact (h.chains hv l hl).1 x hxl
 have hn:=asc_nodup (sset_asc (l:=splO ss ++ diffL (chainsL es ss)))
 exact ⟨ht,Nat.le_trans (there_len hn ht) hv.len,hn⟩
def idFor (es:List Event) (s:List Entry) (e:Event) (k:Slot) : List UInt8:=if findId (k.typ,k.key) s=[] then idAt es (fromL es (ofKind k.typ k.key) e.auth) else findId (k.typ,k.key) s
def viewTo (es:List Event) (s:List Entry) (e:Event) (ks:List Slot) : List Entry:=ks.foldl (fun v k=>setL v ⟨k.typ,k.key,idFor es s e k⟩ false) []
noncomputable def viewOf (es:List Event) (s:List Entry) (e:Event) : List Entry:=viewTo es s e (needOf e)
noncomputable def tryE (es:List Event) (s:List Entry) (e:Event) : List Entry:=if e.isState=true∧allowC es (viewOf es s e) e=0 then setL s ⟨e.typ,e.key,e.id⟩ false else s
noncomputable def tryX (es:List Event) (s:List Entry) (x:List UInt8) : List Entry:=match posOf x es with
 | some i => match es[i]? with
   | some e => tryE es s e
   | none => s
 | none => s
noncomputable def tryL (es:List Event) (s:List Entry) (ids:List (List UInt8)) : List Entry:=ids.foldl (tryX es) s
theorem tryX_at {es:List Event} {s:List Entry} {x:List UInt8} {i:Nat} {e:Event} (hp:posOf x es=some i) (he:es[i]? = some e) : tryX es s x=tryE es s e:=by
 unfold tryX; rw [hp]; dsimp only; rw [he]
theorem findId_mem {k:SlotK} {s:List Entry} (h:findId k s≠[]) : ∃ x∈s,x.slot=k∧findId k s=x.id:=by
 induction s with
 | nil => exact absurd rfl h
 | cons y s ih =>
   unfold findId at h ⊢
   by_cases hy : y.slot=k
   ·refine ⟨y,by simp,hy,?_⟩
    simp [hy]
   ·have h' : findId k s≠[]:=by simpa [hy] using h
    obtain ⟨x,hx,h1,h2⟩:=ih h'
    exact ⟨x,by simp [hx],h1,by simpa [hy] using h2⟩
theorem fit_own {es:List Event} (hv:Valid es) {i:Nat} {e:Event} (he:es[i]? = some e) (hs:e.isState=true) : fitE es ⟨e.typ,e.key,e.id⟩=true:=by
 unfold fitE
 rw [hv.pos he]
 dsimp only
 rw [he]
 simp [hs]
theorem idFor_fit {es:List Event} (hv:Valid es) {s:List Entry} (h:Fit es s) (e:Event) (k:Slot) : idFor es s e k=[] ∨ fitE es ⟨k.typ,k.key,idFor es s e k⟩=true:=by
 unfold idFor
 split
 ·cases hf : fromL es (ofKind k.typ k.key) e.auth with
  | none => exact .inl rfl
  | some j =>
    obtain ⟨x,_,hp,a,ha,hk⟩:=fromL_some hf
    refine .inr ?_
    unfold ofKind at hk
    simp only [Bool.and_eq_true,decide_eq_true_eq] at hk
    have hid : idAt es (some j)=a.id:=by simp only [idAt,ha]
    rw [hid]
    have:=fit_own hv ha hk.1.1
    rw [hk.1.2,hk.2] at this
    exact this
 ·rename_i hne
  obtain ⟨x,hx,hsl,hid⟩:=findId_mem hne
  refine .inr ?_
  rw [hid]
  have:=h.fit x hx
  have e1 : x.typ=k.typ:=congrArg Prod.fst hsl
  have e2 : x.key=k.key:=congrArg Prod.snd hsl
  rw [← e1,← e2]
  exact this
theorem viewTo_fit {es:List Event} (hv:Valid es) {s:List Entry} (h:Fit es s) (e:Event) : ∀ (ks:List Slot) {v:List Entry},Fit es v→Fit es (ks.foldl (fun v k=>setL v ⟨k.typ,k.key,idFor es s e k⟩ false) v)
 | [], _, hv' => hv'
 | k :: ks, _, hv' => viewTo_fit hv h e ks (hv'.set (idFor_fit hv h e k))
theorem tryE_fit {es:List Event} (hv:Valid es) {s:List Entry} (h:Fit es s) {i:Nat} {e:Event} (he:es[i]? = some e) : Fit es (tryE es s e):=by
 unfold tryE
 split
 ·rename_i hc
  exact h.set (.inr (fit_own hv he hc.1))
 ·exact h
theorem tryL_fit {es:List Event} (hv:Valid es) : ∀ {ids:List (List UInt8)} {s:List Entry},(∀ x∈ids,There es x)→Fit es s→Fit es (tryL es s ids)
 | [], _, _, h => h
 | x :: ids, s, hi, h => by
   obtain ⟨k,e,he,_,hp⟩:=there_at (hi x (by simp))
   show Fit es (tryL es (tryX es s x) ids)
   refine tryL_fit hv (fun y hy=>hi y (by simp [hy])) ?_
   rw [tryX_at hp he]
   exact tryE_fit hv h he
noncomputable def resFirst (es:List Event) (ss:List (List Entry)) : List Entry:=tryL es (splS ss) (powL es (confL es ss))
noncomputable def resRest (es:List Event) (ss:List (List Entry)) : List (List UInt8):=(confL es ss).filter fun x=>decide (x ∉ powL es (confL es ss))
noncomputable def resLine (es:List Event) (ss:List (List Entry)) : List (List UInt8):=lineO es (posOf (findId (sPower,[]) (resFirst es ss)) es)
noncomputable def resL (es:List Event) (ss:List (List Entry)) : List Entry:=patchL (tryL es (resFirst es ss) (mordL es (resRest es ss) (resLine es ss))) (splS ss)
theorem resFirst_fit {es:List Event} (hv:Valid es) {ss:List (List Entry)} (h:Fits es ss) : Fit es (resFirst es ss) :=
 tryL_fit hv (powL_there hv (h.conf hv).1) (h.same hv).2
theorem resRest_there {es:List Event} (hv:Valid es) {ss:List (List Entry)} (h:Fits es ss) : ∀ x∈resRest es ss,There es x:=fun x hx=>(h.conf hv).1 x (List.mem_filter.1 hx).1
theorem mordL_there {es:List Event} {ids line:List (List UInt8)} (h:∀ x∈ids,There es x) : ∀ x∈mordL es ids line,There es x:=fun x hx=>h x (setG_mem.1 hx)
theorem resL_fit {es:List Event} (hv:Valid es) {ss:List (List Entry)} (h:Fits es ss) : Fit es (resL es ss) :=
 (tryL_fit hv (mordL_there (resRest_there hv h)) (resFirst_fit hv h)).patch fun e he=>(h.same hv).2.fit e he
end Go.Proofs.YtmgdkkhnjkepiaaGreat.BX
namespace Go.Proofs.YtmgdkkhnjkepiaaGreat.BX
open Nat renaming reduceEqDiff → zA, reduceLT → zB, reduceLeDiff → zC, reduceAdd → zD, reduceMul → zE, reduceSub → zF, reduceBEq → zG
set_option linter.unusedSectionVars false
set_option linter.unusedSimpArgs false
set_option linter.unusedVariables false
open Go Go.RowKit
set_option maxRecDepth 20000
set_option maxHeartbeats 400000
variable [Bd]
theorem l2Full (es:List Event) (ids:List (List UInt8)) (hv:Valid es) (hids:∀ id∈ids,There es id) (hl:ids.length < 1000) (hB:Bd.B≤2147483648) : Con P0 163 [eRoom ⟨es⟩,eStringS ids] (.sr 0) [.arr 9 1 (.own .leaf) ((fullL es ids).map T.s)]:=by
 refine Con.intro (fn:=Tryz.f163) [.tmp 4] (fun _=>(0,[])) mixed (by kernel_rfl) rfl (by decide) rfl (by rfl) (by kernel_rfl) ?_
 simp -implicitDefEqProofs (maxSteps:=2000000) only [push_cast,zA,zB,zC,zD,zE,zF,zG,↓reduceIte,reduceCtorEq,eRoom]
 have:=Bd.lo
 have hal : ∀ xs : List (List UInt8),allLen 1 (xs.map T.s)=true:=fun xs=>allLen_map (f:=T.s) (m:=1) fun _=>rfl
 have hfi : ∀ xs : List (List UInt8),fitsAll Sh.leaf (xs.map T.s)=true:=fun xs=>fitsAll_map fun _=>rfl
 have hcl:=ancL_len (es:=es) (rs:=ids.flatMap (authOf es))
 have hel:=hv.len
 refine ⟨rfl,by omega,rfl,by omega,hal _,hfi _,by omega,?_⟩
 refine Callx.closed (l2Chain es ids hv hids hB) rfl rfl (.inl rfl) ?_
 simp -implicitDefEqProofs (maxSteps:=2000000) only [push_cast,zA,zB,zC,zD,zE,zF,zG,↓reduceIte,reduceCtorEq,eRoom]
 refine ⟨rfl,by omega,by omega,?_⟩
 rw [← List.map_append]
 refine Callx.closed (l2Sorted (ids ++ ancL es (ids.flatMap (authOf es))) hB) rfl rfl (.inr ⟨rfl,rfl⟩) ?_
 simp -implicitDefEqProofs (maxSteps:=2000000) only [push_cast,zA,zB,zC,zD,zE,zF,zG,↓reduceIte,reduceCtorEq,eRoom]
 exact Close.of [some 5] rfl rfl rfl (by simp only [push_cast,zA,zB,zC,zD,zE,zF,zG,↓reduceIte,reduceCtorEq]<;>rfl) (by simp only [push_cast,zA,zB,zC,zD,zE,zF,zG,↓reduceIte,reduceCtorEq,fullL]<;>rfl)
end Go.Proofs.YtmgdkkhnjkepiaaGreat.BX
namespace Go.Proofs.YtmgdkkhnjkepiaaGreat.BX
open Nat renaming reduceEqDiff → zA, reduceLT → zB, reduceLeDiff → zC, reduceAdd → zD, reduceMul → zE, reduceSub → zF, reduceBEq → zG
set_option linter.unusedSectionVars false
set_option linter.unusedSimpArgs false
set_option linter.unusedVariables false
open Go Go.RowKit
set_option maxRecDepth 20000
set_option maxHeartbeats 400000
variable [Bd]
theorem l6Depth (es:List Event) (hv:Valid es) (line:List (List UInt8)) (o:Option Nat) (ho:∀ i,o=some i→i < es.length) : Con P0 200 [eRoom ⟨es⟩,eStringS line,.s (idAt es o)] (.t (.i .i64 (depthO es line o))) []:=by
 refine Con.intro (fn:=Tryz.f200) [.tmp 6] (fun i=>if i=7 then (5,[]) else (0,[])) mixed (by kernel_rfl) rfl (by decide) rfl (by rfl) (by kernel_rfl) ?_
 simp -implicitDefEqProofs (maxSteps:=2000000) only [push_cast,zA,zB,zC,zD,zE,zF,zG,↓reduceIte,reduceCtorEq,eRoom]
 have:=Bd.lo
 refine WL.loop (ι:=Option Nat) (D:=(fun i=>if i=7 then (5,[]) else (0,[]))) (fun i=>(∀ j,i=some j→j < es.length)∧depthO es line i=depthO es line o) (fun i=>⟨30,[(1,.t (eStringS line)),(2,.t (.s (idAt es i))),(3,.rf 0 0)],[.box (.t (eRoom ⟨es⟩))]⟩) (fun i=>match i with | some j=>j + 1 | none=>0) mixed (by kernel_rfl) o ⟨ho,rfl⟩ (Keep.wk (ids:=[some 0]) ?_) ?_
 ·simp only [push_cast,zA,zB,zC,zD,zE,zF,zG,↓reduceIte,reduceCtorEq,eRoom]<;>rfl
 rintro i ⟨hi,hf⟩
 rw [← hf]
 simp -implicitDefEqProofs (maxSteps:=2000000) only [push_cast,zA,zB,zC,zD,zE,zF,zG,↓reduceIte,reduceCtorEq,eRoom]
 cases i with
 | none =>
   rw [if_neg (by simp [idAt])]
   intro _
   rfl
 | some j =>
   have hjl:=hi j rfl
   obtain ⟨e,he⟩ : ∃ e,es[j]? = some e:=⟨_,List.getElem?_eq_getElem hjl⟩
   have hid : idAt es (some j)=e.id:=by simp only [idAt,he]
   rw [hid,if_pos (evOk_id (hv.good he).ok)]
   refine WL.loop (ι:=Nat) (D:=(fun i=>if i=7 then (5,[]) else (0,[]))) (fun k=>k≤line.length∧∀ y∈line.take k,y≠e.id) (fun k=>⟨30,[(1,.t (eStringS line)),(2,.t (.s e.id)),(3,.rf 0 0),(7,.t (.i .i64 k))],[.box (.t (eRoom ⟨es⟩))]⟩) (fun k=>line.length - k) mixed (by kernel_rfl) 0 ⟨by omega,by simp⟩ (Keep.wk (ids:=[some 0]) ?_) ?_
   ·simp only [push_cast,zA,zB,zC,zD,zE,zF,zG,↓reduceIte,reduceCtorEq,eRoom]<;>rfl
   rintro k ⟨hk,hn⟩
   simp -implicitDefEqProofs (maxSteps:=2000000) only [push_cast,zA,zB,zC,zD,zE,zF,zG,↓reduceIte,reduceCtorEq,eRoom]
   intro _
   have hhi:=Bd.hi
   refine iteI (fun h=>⟨by omega,fun x hx=>?_⟩) (fun h=>?_)
   ·rw [Int.toNat_natCast] at hx
    refine iteI (fun h1=>?_) (fun h1=>?_)
    ·have h1 : x=e.id:=by simpa using h1
     subst h1
     rw [depthO,depthAt_in he (List.mem_of_getElem? hx),plc_at hx hn]
    ·have h1 : x≠e.id:=by simpa using h1
     refine ⟨by unfold inI64; omega,k + 1,⟨by omega,fun y hy=>?_⟩,by omega,Keep.wk (ids:=[some 0]) ?_⟩
     ·rw [List.take_add_one,hx,List.mem_append] at hy
      rcases hy with hy | hy
      ·exact hn y hy
      ·simp only [Option.toList_some,List.mem_singleton] at hy
       rw [hy]; exact h1
     ·simp only [push_cast,zA,zB,zC,zD,zE,zF,zG,↓reduceIte,reduceCtorEq,eRoom]<;>rfl
   ·have hout : e.id ∉ line:=fun hm=>hn _ (by rw [List.take_of_length_le (by omega)]; exact hm) rfl
    refine CallV.t (l6Event es e.id j e (hv.pos he) he) (.inl rfl) ?_
    simp -implicitDefEqProofs (maxSteps:=2000000) only [push_cast,zA,zB,zC,zD,zE,zF,zG,↓reduceIte,reduceCtorEq,eRoom]
    refine CallV.t (l6Power es hv j e he) (.inl rfl) ?_
    simp -implicitDefEqProofs (maxSteps:=2000000) only [push_cast,zA,zB,zC,zD,zE,zF,zG,↓reduceIte,reduceCtorEq,eRoom]
    refine ⟨pwOf es j,⟨fun k hk=>?_,?_⟩,?_,Keep.wk (ids:=[some 0]) ?_⟩
    ·have:=pwOf_lt hv hk; omega
    ·rw [depthO,depthAt_out hv he hout]
    ·split
     ·rename_i k hk
      have:=pwOf_lt hv hk; omega
     ·omega
    ·simp only [push_cast,zA,zB,zC,zD,zE,zF,zG,↓reduceIte,reduceCtorEq,eRoom]<;>rfl
theorem l6MainBefore (es:List Event) (hv:Valid es) (line:List (List UInt8)) (a b:List UInt8) (ha:There es a) (hb:There es b) : Con P0 144 [eRoom ⟨es⟩,eStringS line,.s a,.s b] (.t (.b (mbef es line a b))) []:=by
 obtain ⟨i,x,hx,hxi,hpx⟩:=there_at ha
 obtain ⟨j,y,hy,hyj,hpy⟩:=there_at hb
 have hil:=(List.getElem?_eq_some_iff.1 hx).1
 have hjl:=(List.getElem?_eq_some_iff.1 hy).1
 have c1:=l6Depth es hv line (some i) (fun k hk=>by cases hk; exact hil)
 have c2:=l6Depth es hv line (some j) (fun k hk=>by cases hk; exact hjl)
 rw [show idAt es (some i)=a by simp only [idAt,hx]; exact hxi,show depthO es line (some i)=depI es line a by unfold depI; rw [hpx]] at c1
 rw [show idAt es (some j)=b by simp only [idAt,hy]; exact hyj,show depthO es line (some j)=depI es line b by unfold depI; rw [hpy]] at c2
 have t1 : timI es a=x.time:=timI_at hpx hx
 have t2 : timI es b=y.time:=timI_at hpy hy
 have hm : mbef es line a b=if depI es line a≠depI es line b then decide (depI es line b < depI es line a) else if x.time≠y.time then decide (x.time < y.time) else Op.bytesLess a b:=by unfold mbef; rw [t1,t2]
 rw [hm]
 clear hm t1 t2
 have hfld : oneFld P0 42 5=some 5:=by kernel_rfl
 refine Con.intro (fn:=Tryz.f144) [.tmp 8] (fun i=>if i=6 then (10,[]) else if i=5 then (9,[]) else (0,[])) mixed (by kernel_rfl) rfl (by decide) rfl (by rfl) (by kernel_rfl) ?_
 simp -implicitDefEqProofs (maxSteps:=2000000) only [push_cast,zA,zB,zC,zD,zE,zF,zG,↓reduceIte,reduceCtorEq,eRoom]
 refine Callx.closed c1 rfl rfl (.inl rfl) ?_
 simp -implicitDefEqProofs (maxSteps:=2000000) only [push_cast,zA,zB,zC,zD,zE,zF,zG,↓reduceIte,reduceCtorEq,eRoom]
 refine Callx.closed c2 rfl rfl (.inl rfl) ?_
 simp -implicitDefEqProofs (maxSteps:=2000000) only [push_cast,zA,zB,zC,zD,zE,zF,zG,↓reduceIte,reduceCtorEq,eRoom]
 generalize depI es line a=p at *
 generalize depI es line b=q at *
 refine iteI (fun h=>?_) (fun h=>?_)
 ·have h : ¬ p=q:=by omega
  rw [if_pos h]
  exact congrArg T.b (decide_eq_decide.2 (by omega))
 ·have h : p=q:=by omega
  rw [if_neg (by simp [h])]
  refine CallV.t (l6Event es a i x hpx hx) (.inl rfl) ?_
  simp -implicitDefEqProofs (maxSteps:=2000000) only [push_cast,zA,zB,zC,zD,zE,zF,zG,↓reduceIte,reduceCtorEq,eRoom,eEvent,hfld]
  refine CallV.t (l6Event es b j y hpy hy) (.inl rfl) ?_
  simp -implicitDefEqProofs (maxSteps:=2000000) only [push_cast,zA,zB,zC,zD,zE,zF,zG,↓reduceIte,reduceCtorEq,eRoom,eEvent,hfld]
  refine iteI (fun h=>?_) (fun h=>?_)
  ·rw [if_pos h]
   refine CallV.t (l6Event es a i x hpx hx) (.inl rfl) ?_
   simp -implicitDefEqProofs (maxSteps:=2000000) only [push_cast,zA,zB,zC,zD,zE,zF,zG,↓reduceIte,reduceCtorEq,eRoom,eEvent,hfld]
   refine CallV.t (l6Event es b j y hpy hy) (.inl rfl) ?_
   simp -implicitDefEqProofs (maxSteps:=2000000) only [push_cast,zA,zB,zC,zD,zE,zF,zG,↓reduceIte,reduceCtorEq,eRoom,eEvent,hfld]
  ·rw [if_neg h]
theorem l6MainOrder (es:List Event) (hv:Valid es) (ids:List (List UInt8)) (hids:∀ x∈ids,There es x) (o:Option Nat) (ho:∀ i,o=some i→i < es.length) (hB:Bd.B≤2147483648) : Con P0 77 [eRoom ⟨es⟩,eStringS ids,.s (idAt es o)] (.sr 0) [.arr 9 1 (.own .leaf) ((mordL es ids (lineO es o)).map T.s)]:=by
 refine Con.intro (fn:=Tryz.f77) [.tmp 6] (fun i=>if i=9 then (16,[]) else (0,[])) mixed (by kernel_rfl) rfl (by decide) rfl (by rfl) (by kernel_rfl) ?_
 simp -implicitDefEqProofs (maxSteps:=2000000) only [push_cast,zA,zB,zC,zD,zE,zF,zG,↓reduceIte,reduceCtorEq,eRoom]
 have:=Bd.lo
 refine Callx.closed (l6Mainline es hv o ho hB) rfl rfl (.inr ⟨rfl,rfl⟩) ?_
 simp -implicitDefEqProofs (maxSteps:=2000000) only [push_cast,zA,zB,zC,zD,zE,zF,zG,↓reduceIte,reduceCtorEq,eRoom]
 refine ⟨rfl,by omega,?_⟩
 unfold mordL
 generalize lineO es o=line at *
 have ht:=mbef_tot es line
 generalize hlt : mbef es line=lt at *
 refine WL.loop (ι:=Nat) (D:=(fun i=>if i=9 then (16,[]) else (0,[]))) (fun i=>i≤ids.length) (fun i=>⟨74,[(1,.t (eStringS ids)),(3,.rf 0 0),(7,.sr 1),(8,.sr 2),(9,.t (.i .i64 i))],[.box (.t (eRoom ⟨es⟩)),.arr 9 1 (.own .leaf) (line.map T.s),.arr 9 1 (.own .leaf) ((setG lt (ids.take i)).map T.s)]⟩) (fun i=>ids.length - i) mixed (by kernel_rfl) 0 (by omega) (Keep.wk (ids:=[some 0,some 1,some 2]) ?_) ?_
 ·simp only [push_cast,zA,zB,zC,zD,zE,zF,zG,↓reduceIte,reduceCtorEq,setG,List.take_zero,List.foldl_nil,eRoom]<;>rfl
 ·intro i hi
  simp -implicitDefEqProofs (maxSteps:=2000000) only [push_cast,zA,zB,zC,zD,zE,zF,zG,↓reduceIte,reduceCtorEq,eRoom]
  intro hlen
  have hhi:=Bd.hi
  refine iteI (fun h=>⟨by omega,fun a ha=>?_⟩) (fun h=>?_)
  ·rw [Int.toNat_natCast] at ha
   have hsn:=setG_snoc (lt:=lt) ha
   refine Callx.closed (l1Has (setG lt (ids.take i)) a) rfl rfl (.inr ⟨rfl,rfl⟩) ?_
   simp -implicitDefEqProofs (maxSteps:=2000000) only [push_cast,zA,zB,zC,zD,zE,zF,zG,↓reduceIte,reduceCtorEq,eRoom]
   have hso : AscG lt (setG lt (ids.take i)):=setG_asc ht
   refine iteI (fun h1=>?_) (fun h1=>?_)
   ·have hi1 : insG lt a (setG lt (ids.take i))=setG lt (ids.take i):=if_pos (by simpa using h1)
    refine ⟨by unfold inI64; omega,i + 1,by omega,by omega,Keep.wk (ids:=[some 0,some 1,some 2]) ?_⟩
    rw [hsn,hi1]
    simp only [push_cast,zA,zB,zC,zD,zE,zF,zG,↓reduceIte,reduceCtorEq]<;>rfl
   ·have hol : (setG lt (ids.take i)).length < ids.length:=by
     have:=setG_len (lt:=lt) (l:=ids.take i)
     rw [List.length_take] at this
     omega
    have hth : ∀ x∈setG lt (ids.take i),There es x:=fun x hx=>hids x (List.mem_of_mem_take (setG_mem.1 hx))
    have hta : There es a:=hids a (List.mem_of_getElem? ha)
    generalize setG lt (ids.take i)=out at *
    refine ⟨by omega,fun a' ha'=>?_⟩
    rw [Int.toNat_natCast,ha] at ha'
    cases ha'
    refine ⟨rfl,by omega,rfl,by omega,by omega,fun _=>⟨by unfold inI64; omega,?_⟩⟩
    refine WL.loop (ι:=Nat) (D:=(fun i=>if i=9 then (16,[]) else (0,[]))) (fun j=>j≤out.length∧∀ y∈out.drop j,lt a y=true) (fun j=>⟨74,[(1,.t (eStringS ids)),(3,.rf 0 0),(7,.sr 1),(8,.sr 2),(9,.t (.i .i64 i)),(10,.t (.i .i64 j))],[.box (.t (eRoom ⟨es⟩)),.arr 9 1 (.own .leaf) (line.map T.s),.arr 9 1 (.own .leaf) ((out.take j ++ a :: out.drop j).map T.s)]⟩) (fun j=>j) mixed (by kernel_rfl) out.length ⟨Nat.le_refl _,by simp⟩ (Keep.wk (ids:=[some 0,some 1,some 4]) ?_) ?_
    ·have : ((out.length : Int) + 1 - 1)=out.length:=by omega
     simp only [push_cast,zA,zB,zC,zD,zE,zF,zG,↓reduceIte,reduceCtorEq,this,List.take_length,List.drop_length,List.map_append,List.map_cons,List.map_nil]<;>exact ⟨rfl,rfl⟩
    ·rintro j ⟨hj,hja⟩
     simp -implicitDefEqProofs (maxSteps:=2000000) only [push_cast,zA,zB,zC,zD,zE,zF,zG,↓reduceIte,reduceCtorEq,setMapS,eRoom]
     have hl : (out.take j).length + ((out.drop j).length + 1)=out.length + 1:=by rw [List.length_take,List.length_drop]; omega
     have fin : ∀ (_:∀ y,0 < j→out[j - 1]? = some y → ¬ lt a y=true),out.take j ++ a :: out.drop j=setG lt (ids.take (i + 1)):=fun h=>(hsn.trans (insG_at ht hso (by simpa using h1) hja h hj)).symm
     refine iteI (fun hp=>?_) (fun hp=>?_)
     ·have e1 : (Int.toNat (j:Int))=j:=Int.toNat_natCast _
      have e2 : (Int.toNat ((j:Int) - 1))=j - 1:=by omega
      simp only [e1,e2]
      refine ⟨by omega,by omega,fun a1 ha1=>?_⟩
      rw [mid_at hj] at ha1
      cases ha1
      refine ⟨by unfold inI64; omega,by omega,by omega,fun b hb=>?_⟩
      have hb':=hb
      rw [mid_before hj (by omega)] at hb
      have hmb:=l6MainBefore es hv line a b hta (hth b (List.mem_of_getElem? hb))
      rw [hlt] at hmb
      refine CallV.t hmb (.inr rfl) ?_
      simp -implicitDefEqProofs (maxSteps:=2000000) only [push_cast,zA,zB,zC,zD,zE,zF,zG,↓reduceIte,reduceCtorEq,setMapS,eRoom]
      simp only [e1,e2]
      refine iteI (fun hl=>?_) (fun hl=>?_)
      ·refine ⟨by omega,by omega,fun a2 ha2=>?_⟩
       rw [mid_at hj] at ha2
       cases ha2
       refine ⟨by unfold inI64; omega,by omega,by omega,fun b2 hb2=>?_⟩
       rw [hb'] at hb2
       cases hb2
       refine ⟨by omega,by omega,fun _ _=>⟨by unfold inI64; omega,by omega,by omega,fun _ _=>⟨by unfold inI64; omega,j - 1,⟨by omega,?_⟩,by omega,Keep.wk (ids:=[some 0,some 1,some 2]) ?_⟩⟩⟩
       ·intro y hy
        rw [List.drop_eq_getElem_cons (by omega),List.mem_cons] at hy
        rcases hy with rfl | hy
        ·rw [List.getElem?_eq_getElem (by omega)] at hb
         cases hb; exact hl
        ·rw [show j - 1 + 1=j by omega] at hy
         exact hja y hy
       ·rw [mid_swap hj (by omega) hb]
        have e3 : ((j - 1 : Nat) : Int)=(j:Int) - 1:=by omega
        simp only [push_cast,zA,zB,zC,zD,zE,zF,zG,↓reduceIte,reduceCtorEq,e3]<;>rfl
      ·refine ⟨by unfold inI64; omega,i + 1,by omega,by omega,Keep.wk (ids:=[some 0,some 1,some 2]) ?_⟩
       rw [fin fun y _ hy=>by rw [hb] at hy; cases hy; exact hl]
       simp only [push_cast,zA,zB,zC,zD,zE,zF,zG,↓reduceIte,reduceCtorEq]<;>rfl
     ·refine ⟨by unfold inI64; omega,i + 1,by omega,by omega,Keep.wk (ids:=[some 0,some 1,some 2]) ?_⟩
      rw [fin fun y hy=>absurd hy (by omega)]
      simp only [push_cast,zA,zB,zC,zD,zE,zF,zG,↓reduceIte,reduceCtorEq]<;>rfl
  ·rw [List.take_of_length_le (by omega)]
   exact Close.of [some 2] rfl rfl rfl rfl (by simp only [push_cast,zA,zB,zC,zD,zE,zF,zG,↓reduceIte,reduceCtorEq]<;>rfl)
end Go.Proofs.YtmgdkkhnjkepiaaGreat.BX
namespace Go.Proofs.YtmgdkkhnjkepiaaGreat.BX
open Nat renaming reduceEqDiff → zA, reduceLT → zB, reduceLeDiff → zC, reduceAdd → zD, reduceMul → zE, reduceSub → zF, reduceBEq → zG
set_option linter.unusedSectionVars false
set_option linter.unusedSimpArgs false
set_option linter.unusedVariables false
open Go Go.RowKit
set_option maxRecDepth 20000
set_option maxHeartbeats 400000
def nextL' (es:List Event) (list out:List (List UInt8)) (i:Nat) : List UInt8:=(list.take i).foldl (stepB es list out) []
variable [Bd]
theorem l6Weighty (e:Event) : Con P0 162 [eEvent e] (.t (.b (wty e))) []:=by
 refine Con.intro (fn:=Tryz.f162) [.tmp 2] (fun _=>(0,[])) mixed (by kernel_rfl) rfl (by decide) rfl (by rfl) (by kernel_rfl) ?_
 simp -implicitDefEqProofs (maxSteps:=2000000) only [push_cast,zA,zB,zC,zD,zE,zF,zG,↓reduceIte,reduceCtorEq,eEvent]
 have w1 : e.typ=sMember→wty e=((decide (e.value=sLeave) || decide (e.value=sBan)) && decide (e.sender≠e.key)):=fun h=>if_pos h
 have w2 : ¬ e.typ=sMember→wty e=(decide (e.typ=sPower) || decide (e.typ=sRules)):=fun h=>if_neg h
 refine iteI (fun h1=>iteI (fun h2=>?_) (fun h2=>iteI (fun h3=>?_) (fun h3=>?_))) (fun h1=>iteI (fun h2=>?_) (fun h2=>?_))
 ·rw [w1 h1,decide_eq_true (show e.value=sLeave from h2)]; simp
 ·rw [w1 h1,decide_eq_true (show e.value=sBan from h3)]; simp
 ·rw [w1 h1,decide_eq_false (show ¬ e.value=sLeave from h2),decide_eq_false (show ¬ e.value=sBan from h3)]; simp
 ·rw [w2 h1,decide_eq_true (show e.typ=sPower from h2)]; simp
 ·rw [w2 h1,decide_eq_false (show ¬ e.typ=sPower from h2),Bool.false_or]; rfl
theorem l6Author (es:List Event) (hv:Valid es) (i:Nat) (e:Event) (he:es[i]? = some e) : Con P0 239 [eRoom ⟨es⟩,eEvent e] (.t (.i .i64 (autP es i))) []:=by
 have hfld : oneFld P0 42 9=some 9:=by kernel_rfl
 have h0 : ∃ c,es[0]? = some c:=⟨_,List.getElem?_eq_getElem (by have:=(List.getElem?_eq_some_iff.1 he).1; omega)⟩
 obtain ⟨c,hc⟩:=h0
 refine Con.intro (fn:=Tryz.f239) [.tmp 4] (fun i=>if i=4 then (8,[]) else if i=3 then (8,[]) else (0,[])) mixed (by kernel_rfl) rfl (by decide) rfl (by rfl) (by kernel_rfl) ?_
 simp -implicitDefEqProofs (maxSteps:=2000000) only [push_cast,zA,zB,zC,zD,zE,zF,zG,↓reduceIte,reduceCtorEq,eRoom,eEvent]
 refine Callx.closed (l6Power es hv i e he) rfl rfl (.inl rfl) ?_
 simp -implicitDefEqProofs (maxSteps:=2000000) only [push_cast,zA,zB,zC,zD,zE,zF,zG,↓reduceIte,reduceCtorEq,eRoom,eEvent]
 unfold autP
 rw [he]
 cases hp : pwOf es i with
 | some j =>
   have hj:=pwOf_lt hv hp
   obtain ⟨p,hpj⟩ : ∃ p,es[j]? = some p:=⟨_,List.getElem?_eq_getElem (by have:=(List.getElem?_eq_some_iff.1 he).1; omega)⟩
   have hid : idAt es (some j)=p.id:=by simp only [idAt,hpj]
   rw [hid,if_pos (evOk_id (hv.good hpj).ok)]
   refine CallV.t (l6Event es p.id j p (hv.pos hpj) hpj) (.inl rfl) ?_
   simp -implicitDefEqProofs (maxSteps:=2000000) only [push_cast,zA,zB,zC,zD,zE,zF,zG,↓reduceIte,reduceCtorEq,eRoom,eEvent,hfld]
   refine CallV.t (l5ByGrants p.grants e.sender) (.inl rfl) ?_
   simp -implicitDefEqProofs (maxSteps:=2000000) only [push_cast,zA,zB,zC,zD,zE,zF,zG,↓reduceIte,reduceCtorEq,eRoom,eEvent,hfld]
   simp only [hpj]
 | none =>
   rw [if_neg (by simp [idAt])]
   simp -implicitDefEqProofs (maxSteps:=2000000) only [push_cast,zA,zB,zC,zD,zE,zF,zG,↓reduceIte,reduceCtorEq,eRoom,eEvent,hfld]
   refine ⟨by have:=(List.getElem?_eq_some_iff.1 hc).1; omega,fun a ha=>?_⟩
   have ha : es[0]? = some a:=ha
   rw [hc] at ha
   cases ha
   rw [hc]
   refine iteI (fun h=>?_) (fun h=>?_)
   ·dsimp only; rw [if_pos h]
   ·dsimp only; rw [if_neg h]
theorem l6Sooner (es:List Event) (hv:Valid es) (a b:Event) (i j:Nat) (ha:es[i]? = some a) (hb:es[j]? = some b) : Con P0 210 [eRoom ⟨es⟩,eEvent a,eEvent b] (.t (.b (psn es a.id b.id))) []:=by
 have c1:=l6Author es hv i a ha
 have c2:=l6Author es hv j b hb
 have t1 : timI es a.id=a.time:=timI_at (hv.pos ha) ha
 have t2 : timI es b.id=b.time:=timI_at (hv.pos hb) hb
 have hm : psn es a.id b.id=if autP es i≠autP es j then decide (autP es j < autP es i) else if a.time≠b.time then decide (a.time < b.time) else Op.bytesLess a.id b.id:=by
  unfold psn lexO; rw [t1,t2,autI_at (hv.pos ha),autI_at (hv.pos hb)]
 rw [hm]
 clear hm t1 t2
 refine Con.intro (fn:=Tryz.f210) [.tmp 6] (fun _=>(0,[])) mixed (by kernel_rfl) rfl (by decide) rfl (by rfl) (by kernel_rfl) ?_
 simp -implicitDefEqProofs (maxSteps:=2000000) only [push_cast,zA,zB,zC,zD,zE,zF,zG,↓reduceIte,reduceCtorEq,eRoom,eEvent]
 refine Callx.closed c1 rfl rfl (.inl rfl) ?_
 simp -implicitDefEqProofs (maxSteps:=2000000) only [push_cast,zA,zB,zC,zD,zE,zF,zG,↓reduceIte,reduceCtorEq,eRoom,eEvent]
 refine Callx.closed c2 rfl rfl (.inl rfl) ?_
 simp -implicitDefEqProofs (maxSteps:=2000000) only [push_cast,zA,zB,zC,zD,zE,zF,zG,↓reduceIte,reduceCtorEq,eRoom,eEvent]
 refine iteI (fun h=>?_) (fun h=>iteI (fun h2=>?_) (fun h2=>?_))
 ·rw [if_pos h]
 ·rw [if_neg h,if_pos h2]
 ·rw [if_neg h,if_neg h2]
theorem l6Ready (e:Event) (list out:List (List UInt8)) : Con P0 209 [eEvent e,eStringS list,eStringS out] (.t (.b (rdyA list out e.auth))) []:=by
 refine Con.intro (fn:=Tryz.f209) [.tmp 6] (fun _=>(0,[])) mixed (by kernel_rfl) rfl (by decide) rfl (by rfl) (by kernel_rfl) ?_
 simp -implicitDefEqProofs (maxSteps:=2000000) only [push_cast,zA,zB,zC,zD,zE,zF,zG,↓reduceIte,reduceCtorEq,eEvent]
 refine WL.loop (ι:=Nat) (D:=(fun _=>(0,[]))) (fun i=>i≤e.auth.length∧rdyA list out (e.auth.take i)=true) (fun i=>⟨32,[(1,.t (eStringS list)),(2,.t (eStringS out)),(3,.rf 0 0),(7,.t (.i .i64 i))],[.box (.t (eEvent e))]⟩) (fun i=>e.auth.length - i) mixed (by kernel_rfl) 0 ⟨by omega,by simp [rdyA]⟩ (Keep.wk (ids:=[some 0]) ?_) ?_
 ·simp only [push_cast,zA,zB,zC,zD,zE,zF,zG,↓reduceIte,reduceCtorEq,eEvent]<;>rfl
 rintro i ⟨hi,hr⟩
 simp -implicitDefEqProofs (maxSteps:=2000000) only [push_cast,zA,zB,zC,zD,zE,zF,zG,↓reduceIte,reduceCtorEq,eEvent]
 have:=Bd.lo
 have hhi:=Bd.hi
 intro _
 refine iteI (fun h=>⟨by omega,fun a ha=>?_⟩) (fun h=>?_)
 ·rw [Int.toNat_natCast] at ha
  have hno : (!(decide (a∈list)) || decide (a∈out))=false→rdyA list out e.auth=false:=fun hh=>List.all_eq_false.2 ⟨a,List.mem_of_getElem? ha,by rw [hh]; simp⟩
  have hyes : (!(decide (a∈list)) || decide (a∈out))=true→rdyA list out (e.auth.take (i + 1))=true:=fun hh=>by
   unfold rdyA at hr ⊢
   rw [List.take_add_one,ha,List.all_append,hr]
   simpa using hh
  have c1:=l1Has list a
  have c2:=l1Has out a
  cases hl : decide (a∈list) with
  | false =>
    rw [hl] at c1 hyes
    refine Callx.closed c1 rfl rfl (.inl rfl) ?_
    simp -implicitDefEqProofs (maxSteps:=2000000) only [push_cast,zA,zB,zC,zD,zE,zF,zG,↓reduceIte,reduceCtorEq,eEvent]
    refine ⟨by unfold inI64; omega,i + 1,⟨by omega,hyes rfl⟩,by omega,Keep.wk (ids:=[some 0]) ?_⟩
    simp only [push_cast,zA,zB,zC,zD,zE,zF,zG,↓reduceIte,reduceCtorEq,eEvent]<;>rfl
  | true =>
    rw [hl] at c1 hyes hno
    refine Callx.closed c1 rfl rfl (.inl rfl) ?_
    simp -implicitDefEqProofs (maxSteps:=2000000) only [push_cast,zA,zB,zC,zD,zE,zF,zG,↓reduceIte,reduceCtorEq,eEvent]
    refine ⟨by omega,fun a' ha'=>?_⟩
    rw [Int.toNat_natCast,ha] at ha'
    cases ha'
    cases ho : decide (a∈out) with
    | false =>
      rw [ho] at c2 hno
      refine Callx.closed c2 rfl rfl (.inl rfl) ?_
      simp -implicitDefEqProofs (maxSteps:=2000000) only [push_cast,zA,zB,zC,zD,zE,zF,zG,↓reduceIte,reduceCtorEq,eEvent]
      rw [hno rfl]
    | true =>
      rw [ho] at c2 hyes
      refine Callx.closed c2 rfl rfl (.inl rfl) ?_
      simp -implicitDefEqProofs (maxSteps:=2000000) only [push_cast,zA,zB,zC,zD,zE,zF,zG,↓reduceIte,reduceCtorEq,eEvent]
      refine ⟨by unfold inI64; omega,i + 1,⟨by omega,hyes rfl⟩,by omega,Keep.wk (ids:=[some 0]) ?_⟩
      simp only [push_cast,zA,zB,zC,zD,zE,zF,zG,↓reduceIte,reduceCtorEq,eEvent]<;>rfl
 ·rw [List.take_of_length_le (by omega)] at hr
  rw [hr]
theorem l6Next (es:List Event) (hv:Valid es) (list out:List (List UInt8)) (hl:∀ x∈list,There es x) : Con P0 164 [eRoom ⟨es⟩,eStringS list,eStringS out] (.t (.s (nextL es list out))) []:=by
 refine Con.intro (fn:=Tryz.f164) [.tmp 6] (fun i=>if i=7 then (10,[]) else if i=5 then (7,[(false,0),(false,1),(false,2),(false,3),(false,4),(false,5),(true,6)]) else (0,[])) mixed (by kernel_rfl) rfl (by decide) rfl (by rfl) (by kernel_rfl) ?_
 simp -implicitDefEqProofs (maxSteps:=2000000) only [push_cast,zA,zB,zC,zD,zE,zF,zG,↓reduceIte,reduceCtorEq,eRoom]
 have:=Bd.lo
 have hhi:=Bd.hi
 refine WL.loop (ι:=Nat) (D:=(fun i=>if i=7 then (10,[]) else if i=5 then (7,[(false,0),(false,1),(false,2),(false,3),(false,4),(false,5),(true,6)]) else (0,[]))) (fun i=>i≤list.length) (fun i=>⟨50,[(1,.t (eStringS list)),(2,.t (eStringS out)),(3,.rf 0 0),(7,.t (.s (nextL' es list out i))),(8,.t (.i .i64 i))],[.box (.t (eRoom ⟨es⟩))]⟩) (fun i=>list.length - i) mixed (by kernel_rfl) 0 (by omega) (Keep.wk (ids:=[some 0]) ?_) ?_
 ·simp only [push_cast,zA,zB,zC,zD,zE,zF,zG,↓reduceIte,reduceCtorEq,eRoom,nextL']<;>rfl
 intro i hi
 simp -implicitDefEqProofs (maxSteps:=2000000) only [push_cast,zA,zB,zC,zD,zE,zF,zG,↓reduceIte,reduceCtorEq,eRoom]
 intro _
 refine iteI (fun h=>⟨by omega,fun x hx=>?_⟩) (fun h=>?_)
 ·rw [Int.toNat_natCast] at hx
  obtain ⟨k,e,he,hid,hp⟩:=there_at (hl x (List.mem_of_getElem? hx))
  have hsn : nextL' es list out (i + 1)=stepB es list out (nextL' es list out i) x:=by
   unfold nextL'
   rw [List.take_add_one,hx,List.foldl_append]; rfl
  have hau : authOf es x=e.auth:=authOf_at hp he
  refine CallV.t (l6Event es x k e hp he) (.inl rfl) ?_
  simp -implicitDefEqProofs (maxSteps:=2000000) only [push_cast,zA,zB,zC,zD,zE,zF,zG,↓reduceIte,reduceCtorEq,eRoom,eEvent]
  refine ⟨by omega,fun x' hx'=>?_⟩
  rw [Int.toNat_natCast,hx] at hx'
  cases hx'
  have c1:=l1Has out x
  have cR:=l6Ready e list out
  simp only [eEvent] at cR
  have hbi : nextL' es list out i=[] ∨ nextL' es list out i∈list:=by
   rcases foldl_step (es:=es) (list:=list) (out:=out) (l:=list.take i) (b:=[]) (fun x hx=>there_ne hv (hl x (List.mem_of_mem_take hx))) with ⟨h1,_⟩ | ⟨h1,_⟩
   ·exact .inl h1
   ·exact .inr (List.mem_of_mem_take h1)
  cases ho : decide (x∈out) with
  | true =>
    rw [ho] at c1
    have hs : nextL' es list out (i + 1)=nextL' es list out i:=by
     rw [hsn]; unfold stepB candB; rw [show decide (x ∉ out)=false by simpa using ho]; simp
    refine Callx.closed c1 rfl rfl (.inl rfl) ?_
    simp -implicitDefEqProofs (maxSteps:=2000000) only [push_cast,zA,zB,zC,zD,zE,zF,zG,↓reduceIte,reduceCtorEq,eRoom,eEvent]
    refine ⟨by unfold inI64; omega,i + 1,by omega,by omega,Keep.wk (ids:=[some 0]) ?_⟩
    rw [hs]
    simp only [push_cast,zA,zB,zC,zD,zE,zF,zG,↓reduceIte,reduceCtorEq,eRoom]<;>rfl
  | false =>
    rw [ho] at c1
    refine Callx.closed c1 rfl rfl (.inl rfl) ?_
    simp -implicitDefEqProofs (maxSteps:=2000000) only [push_cast,zA,zB,zC,zD,zE,zF,zG,↓reduceIte,reduceCtorEq,eRoom,eEvent]
    cases hrd : rdyA list out e.auth with
    | false =>
      rw [hrd] at cR
      have hs : nextL' es list out (i + 1)=nextL' es list out i:=by
       rw [hsn]; unfold stepB candB; rw [hau,hrd]; simp
      refine Callx.closed cR rfl rfl (.inl rfl) ?_
      simp -implicitDefEqProofs (maxSteps:=2000000) only [push_cast,zA,zB,zC,zD,zE,zF,zG,↓reduceIte,reduceCtorEq,eRoom,eEvent]
      refine ⟨by unfold inI64; omega,i + 1,by omega,by omega,Keep.wk (ids:=[some 0]) ?_⟩
      rw [hs]
      simp only [push_cast,zA,zB,zC,zD,zE,zF,zG,↓reduceIte,reduceCtorEq,eRoom]<;>rfl
    | true =>
      rw [hrd] at cR
      have hs : nextL' es list out (i + 1)=if nextL' es list out i=[] ∨ psn es x (nextL' es list out i)=true then x else nextL' es list out i:=by
       rw [hsn]; unfold stepB candB
       rw [hau,hrd,show decide (x ∉ out)=true by simpa using ho]; rfl
      refine Callx.closed cR rfl rfl (.inl rfl) ?_
      simp -implicitDefEqProofs (maxSteps:=2000000) only [push_cast,zA,zB,zC,zD,zE,zF,zG,↓reduceIte,reduceCtorEq,eRoom,eEvent]
      generalize nextL' es list out i=b at *
      refine iteI (fun hb=>?_) (fun hb=>?_)
      ·rw [if_pos (.inl hb)] at hs
       refine ⟨by omega,fun x' hx'=>?_⟩
       rw [Int.toNat_natCast,hx] at hx'
       cases hx'
       refine ⟨by unfold inI64; omega,i + 1,by omega,by omega,Keep.wk (ids:=[some 0]) ?_⟩
       rw [hs]
       simp only [push_cast,zA,zB,zC,zD,zE,zF,zG,↓reduceIte,reduceCtorEq,eRoom]<;>rfl
      ·obtain ⟨k2,e2,he2,hid2,hp2⟩:=there_at (hl b (hbi.elim (fun h=>absurd h hb) id))
       refine CallV.t (l6Event es b k2 e2 hp2 he2) (.inl rfl) ?_
       simp -implicitDefEqProofs (maxSteps:=2000000) only [push_cast,zA,zB,zC,zD,zE,zF,zG,↓reduceIte,reduceCtorEq,eRoom,eEvent]
       have cS:=l6Sooner es hv e e2 k k2 he he2
       rw [hid,hid2] at cS
       simp only [eRoom,eEvent] at cS
       cases hps : psn es x b with
       | false =>
         rw [hps] at cS
         rw [if_neg (by rw [hps]; simp [hb])] at hs
         refine CallV.t cS (.inl rfl) ?_
         simp -implicitDefEqProofs (maxSteps:=2000000) only [push_cast,zA,zB,zC,zD,zE,zF,zG,↓reduceIte,reduceCtorEq,eRoom,eEvent]
         refine ⟨by unfold inI64; omega,i + 1,by omega,by omega,Keep.wk (ids:=[some 0]) ?_⟩
         rw [hs]
         simp only [push_cast,zA,zB,zC,zD,zE,zF,zG,↓reduceIte,reduceCtorEq,eRoom]<;>rfl
       | true =>
         rw [hps] at cS
         rw [if_pos (.inr hps)] at hs
         refine CallV.t cS (.inl rfl) ?_
         simp -implicitDefEqProofs (maxSteps:=2000000) only [push_cast,zA,zB,zC,zD,zE,zF,zG,↓reduceIte,reduceCtorEq,eRoom,eEvent]
         refine ⟨by omega,fun x' hx'=>?_⟩
         rw [Int.toNat_natCast,hx] at hx'
         cases hx'
         refine ⟨by unfold inI64; omega,i + 1,by omega,by omega,Keep.wk (ids:=[some 0]) ?_⟩
         rw [hs]
         simp only [push_cast,zA,zB,zC,zD,zE,zF,zG,↓reduceIte,reduceCtorEq,eRoom]<;>rfl
 ·have hi : i=list.length:=by omega
  subst hi
  unfold nextL' nextL
  rw [List.take_length]
theorem l6PowerOrder (es:List Event) (hv:Valid es) (ids:List (List UInt8)) (hids:∀ x∈ids,There es x) (hil:ids.length < 1000) (hB:Bd.B≤2147483648) : Con P0 96 [eRoom ⟨es⟩,eStringS ids] (.sr 0) [.arr 9 1 (.own .leaf) ((powL es ids).map T.s)]:=by
 refine Con.intro (fn:=Tryz.f96) [.tmp 4] (fun i=>if i=5 then (7,[]) else (0,[])) mixed (by kernel_rfl) rfl (by decide) rfl (by rfl) (by kernel_rfl) ?_
 simp -implicitDefEqProofs (maxSteps:=2000000) only [push_cast,zA,zB,zC,zD,zE,zF,zG,↓reduceIte,reduceCtorEq,eRoom]
 have:=Bd.lo
 have hhi:=Bd.hi
 refine ⟨rfl,by omega,?_⟩
 refine WL.loop (ι:=Nat) (D:=(fun i=>if i=5 then (7,[]) else (0,[]))) (fun i=>i≤ids.length) (fun i=>⟨78,[(1,.t (eStringS ids)),(2,.rf 0 0),(5,.sr 1),(6,.t (.i .i64 i))],[.box (.t (eRoom ⟨es⟩)),.arr 9 1 (.own .leaf) (((ids.take i).filter (wtyI es)).map T.s)]⟩) (fun i=>ids.length - i) mixed (by kernel_rfl) 0 (by omega) (Keep.wk (ids:=[some 0,some 1]) ?_) ?_
 ·simp only [push_cast,zA,zB,zC,zD,zE,zF,zG,↓reduceIte,reduceCtorEq,List.take_zero,List.filter_nil,eRoom]<;>rfl
 ·intro i hi
  simp -implicitDefEqProofs (maxSteps:=2000000) only [push_cast,zA,zB,zC,zD,zE,zF,zG,↓reduceIte,reduceCtorEq,eRoom]
  intro _
  refine iteI (fun h=>⟨by omega,fun x hx=>?_⟩) (fun h=>?_)
  ·rw [Int.toNat_natCast] at hx
   obtain ⟨k,e,he,hid,hp⟩:=there_at (hids x (List.mem_of_getElem? hx))
   have hsn : (ids.take (i + 1)).filter (wtyI es)=(ids.take i).filter (wtyI es) ++ (if wty e=true then [x] else []):=by
    rw [List.take_add_one,hx,List.filter_append]
    simp only [Option.toList_some,List.filter_cons,List.filter_nil,wtyI_at hp he]
   have hfl : ((ids.take i).filter (wtyI es)).length≤i:=Nat.le_trans (List.length_filter_le _ _) (by rw [List.length_take]; omega)
   refine CallV.t (l6Event es x k e hp he) (.inl rfl) ?_
   simp -implicitDefEqProofs (maxSteps:=2000000) only [push_cast,zA,zB,zC,zD,zE,zF,zG,↓reduceIte,reduceCtorEq,eRoom]
   have cW:=l6Weighty e
   generalize (ids.take i).filter (wtyI es)=L at *
   cases hw : wty e with
   | false =>
     rw [hw] at cW hsn
     refine CallV.t cW (.inl rfl) ?_
     simp -implicitDefEqProofs (maxSteps:=2000000) only [push_cast,zA,zB,zC,zD,zE,zF,zG,↓reduceIte,reduceCtorEq,eRoom]
     refine ⟨by unfold inI64; omega,i + 1,by omega,by omega,Keep.wk (ids:=[some 0,some 1]) ?_⟩
     rw [hsn]
     simp only [push_cast,zA,zB,zC,zD,zE,zF,zG,↓reduceIte,reduceCtorEq,eRoom,Bool.false_eq_true,if_false,List.append_nil]<;>rfl
   | true =>
     rw [hw] at cW hsn
     refine CallV.t cW (.inl rfl) ?_
     simp -implicitDefEqProofs (maxSteps:=2000000) only [push_cast,zA,zB,zC,zD,zE,zF,zG,↓reduceIte,reduceCtorEq,eRoom]
     refine ⟨by omega,fun x' hx'=>?_⟩
     rw [Int.toNat_natCast,hx] at hx'
     cases hx'
     refine ⟨rfl,by omega,rfl,by omega,by omega,by unfold inI64; omega,i + 1,by omega,by omega,Keep.wk (ids:=[some 0,some 3]) ?_⟩
     rw [hsn]
     simp only [push_cast,zA,zB,zC,zD,zE,zF,zG,↓reduceIte,reduceCtorEq,eRoom,if_true,List.map_append,List.map_cons,List.map_nil]<;>rfl
  ·have hi : i=ids.length:=by omega
   subst hi
   rw [List.take_length]
   have hfl : (ids.filter (wtyI es)).length≤ids.length:=List.length_filter_le _ _
   have hft : ∀ x∈ids.filter (wtyI es),There es x:=fun x hx=>hids x (List.mem_filter.1 hx).1
   refine Callx.closed (l2Full es (ids.filter (wtyI es)) hv hft (by omega) hB) rfl rfl (.inr ⟨rfl,rfl⟩) ?_
   simp -implicitDefEqProofs (maxSteps:=2000000) only [push_cast,zA,zB,zC,zD,zE,zF,zG,↓reduceIte,reduceCtorEq,eRoom]
   refine ⟨rfl,by omega,?_⟩
   have hpin : powIn es ids=ddF (fun x=>decide (x∈fullL es (ids.filter (wtyI es)))) ids:=rfl
   generalize hF : fullL es (ids.filter (wtyI es))=F at *
   clear h hi
   refine WL.loop (ι:=Nat) (D:=(fun i=>if i=5 then (7,[]) else (0,[]))) (fun i=>i≤ids.length) (fun i=>⟨78,[(1,.t (eStringS ids)),(2,.rf 0 0),(7,.sr 1),(8,.sr 2),(9,.t (.i .i64 i))],[.box (.t (eRoom ⟨es⟩)),.arr 9 1 (.own .leaf) (F.map T.s),.arr 9 1 (.own .leaf) ((ddF (fun x=>decide (x∈F)) (ids.take i)).map T.s)]⟩) (fun i=>ids.length - i) mixed (by kernel_rfl) 0 (by omega) (Keep.wk (ids:=[some 0,some 2,some 3]) ?_) ?_
   ·simp only [push_cast,zA,zB,zC,zD,zE,zF,zG,↓reduceIte,reduceCtorEq,List.take_zero,ddF,List.foldl_nil,eRoom]<;>rfl
   intro i hi
   simp -implicitDefEqProofs (maxSteps:=2000000) only [push_cast,zA,zB,zC,zD,zE,zF,zG,↓reduceIte,reduceCtorEq,eRoom]
   intro _
   refine iteI (fun h=>⟨by omega,fun x hx=>?_⟩) (fun h=>?_)
   ·rw [Int.toNat_natCast] at hx
    have hsn:=ddF_snoc (p:=fun x=>decide (x∈F)) hx
    have hdl:=ddF_len (p:=fun x=>decide (x∈F)) (l:=ids.take i)
    rw [List.length_take] at hdl
    generalize ddF (fun x=>decide (x∈F)) (ids.take i)=L at *
    have c1:=l1Has F x
    have c2:=l1Has L x
    have keep : (decide (x∈F) && decide (x ∉ L))=false→ddF (fun x=>decide (x∈F)) (ids.take (i + 1))=L:=fun hh=>by rw [hsn,if_neg (by rw [hh]; simp)]
    have more : (decide (x∈F) && decide (x ∉ L))=true→ddF (fun x=>decide (x∈F)) (ids.take (i + 1))=L ++ [x]:=fun hh=>by rw [hsn,if_pos hh]
    cases h1 : decide (x∈F) with
    | false =>
      rw [h1] at c1 keep
      refine Callx.closed c1 rfl rfl (.inr ⟨rfl,rfl⟩) ?_
      simp -implicitDefEqProofs (maxSteps:=2000000) only [push_cast,zA,zB,zC,zD,zE,zF,zG,↓reduceIte,reduceCtorEq,eRoom]
      refine ⟨by unfold inI64; omega,i + 1,by omega,by omega,Keep.wk (ids:=[some 0,some 1,some 2]) ?_⟩
      rw [keep rfl]
      simp only [push_cast,zA,zB,zC,zD,zE,zF,zG,↓reduceIte,reduceCtorEq,eRoom]<;>rfl
    | true =>
      rw [h1] at c1 keep more
      refine Callx.closed c1 rfl rfl (.inr ⟨rfl,rfl⟩) ?_
      simp -implicitDefEqProofs (maxSteps:=2000000) only [push_cast,zA,zB,zC,zD,zE,zF,zG,↓reduceIte,reduceCtorEq,eRoom]
      refine ⟨by omega,fun x' hx'=>?_⟩
      rw [Int.toNat_natCast,hx] at hx'
      cases hx'
      cases h2 : decide (x∈L) with
      | true =>
        rw [h2] at c2
        refine Callx.closed c2 rfl rfl (.inr ⟨rfl,rfl⟩) ?_
        simp -implicitDefEqProofs (maxSteps:=2000000) only [push_cast,zA,zB,zC,zD,zE,zF,zG,↓reduceIte,reduceCtorEq,eRoom]
        refine ⟨by unfold inI64; omega,i + 1,by omega,by omega,Keep.wk (ids:=[some 0,some 1,some 2]) ?_⟩
        rw [keep (by simpa using h2)]
        simp only [push_cast,zA,zB,zC,zD,zE,zF,zG,↓reduceIte,reduceCtorEq,eRoom]<;>rfl
      | false =>
        rw [h2] at c2
        refine Callx.closed c2 rfl rfl (.inr ⟨rfl,rfl⟩) ?_
        simp -implicitDefEqProofs (maxSteps:=2000000) only [push_cast,zA,zB,zC,zD,zE,zF,zG,↓reduceIte,reduceCtorEq,eRoom]
        refine ⟨by omega,fun x' hx'=>?_⟩
        rw [Int.toNat_natCast,hx] at hx'
        cases hx'
        refine ⟨rfl,by omega,rfl,by omega,by omega,by unfold inI64; omega,i + 1,by omega,by omega,Keep.wk (ids:=[some 0,some 1,some 4]) ?_⟩
        rw [more (by simpa using h2)]
        simp only [push_cast,zA,zB,zC,zD,zE,zF,zG,↓reduceIte,reduceCtorEq,eRoom,List.map_append,List.map_cons,List.map_nil]<;>rfl
   ·have hi : i=ids.length:=by omega
    subst hi
    rw [List.take_length,← hpin]
    refine ⟨rfl,by omega,?_⟩
    have hpl : (powIn es ids).length≤ids.length:=ddF_len
    have hth:=powIn_there hids
    have hL : powL es ids=powTo es (powIn es ids) (powIn es ids).length:=rfl
    rw [hL]
    clear hpin hF hft hfl
    generalize powIn es ids=P at *
    refine WL.loop (ι:=Nat) (D:=(fun i=>if i=5 then (7,[]) else (0,[]))) (fun n=>n≤P.length) (fun n=>⟨78,[(2,.rf 0 0),(8,.sr 1),(10,.sr 2)],[.box (.t (eRoom ⟨es⟩)),.arr 9 1 (.own .leaf) (P.map T.s),.arr 9 1 (.own .leaf) ((powTo es P n).map T.s)]⟩) (fun n=>P.length - n) mixed (by kernel_rfl) 0 (by omega) (Keep.wk (ids:=[some 0,some 2,some 3]) ?_) ?_
    ·simp only [push_cast,zA,zB,zC,zD,zE,zF,zG,↓reduceIte,reduceCtorEq,powTo,eRoom]<;>rfl
    intro n hn
    have hnl : (powTo es P n).length=n:=powTo_len
    simp -implicitDefEqProofs (maxSteps:=2000000) only [push_cast,zA,zB,zC,zD,zE,zF,zG,↓reduceIte,reduceCtorEq,eRoom]
    intro _ _
    refine iteI (fun h=>?_) (fun h=>?_)
    ·refine Callx.closed (l6Next es hv P (powTo es P n) hth) rfl rfl (.inr ⟨rfl,rfl⟩) ?_
     simp -implicitDefEqProofs (maxSteps:=2000000) only [push_cast,zA,zB,zC,zD,zE,zF,zG,↓reduceIte,reduceCtorEq,eRoom]
     refine ⟨rfl,by omega,rfl,by omega,by omega,n + 1,by omega,by omega,Keep.wk (ids:=[some 0,some 1,some 4]) ?_⟩
     simp only [push_cast,zA,zB,zC,zD,zE,zF,zG,↓reduceIte,reduceCtorEq,eRoom,powTo,List.map_append,List.map_cons,List.map_nil]<;>rfl
    ·have hn : n=P.length:=by omega
     subst hn
     exact Close.of [some 2] rfl rfl rfl (by simp only [push_cast,zA,zB,zC,zD,zE,zF,zG,↓reduceIte,reduceCtorEq]<;>rfl) (by simp only [push_cast,zA,zB,zC,zD,zE,zF,zG,↓reduceIte,reduceCtorEq]<;>rfl)
end Go.Proofs.YtmgdkkhnjkepiaaGreat.BX
namespace Go.Proofs.YtmgdkkhnjkepiaaGreat.BX
open Nat renaming reduceEqDiff → zA, reduceLT → zB, reduceLeDiff → zC, reduceAdd → zD, reduceMul → zE, reduceSub → zF, reduceBEq → zG
set_option linter.unusedSectionVars false
set_option linter.unusedSimpArgs false
set_option linter.unusedVariables false
open Go Go.RowKit
set_option maxRecDepth 20000
set_option maxHeartbeats 400000
variable [Bd]
theorem Con.seal {P:Program} {f:FuncId} {ts:List T} {x:AV} {obs:List Ob} {r:T} {ids:List Nat} (h:Con P f ts x obs) (h1:x.take obs 5=some (r,ids)) (h2:nodupB ids=true) : Con P f ts (.t r) []:=by
 refine ⟨h.1,fun w L M vs hv S F hr0=>(h.2 w L M vs hv S F hr0).mono fun e w' hh=>?_⟩
 obtain ⟨v,hv1,S1,F1,L1,rfl,hr,f1,f2,hu⟩:=hh
 obtain ⟨L',g1,g2⟩:=take_sound hr _ _ h1 f1 f2
 obtain ⟨hv2,S2,s1,s2,s3,s4,hr2,s5⟩:=hr.killAll ids (nodupB_spec h2)
 have gS : ∀ b∈L',S2 b:=fun b hb=>by
  rcases g2 b hb with hb | ⟨i,hi,o,ho,hd,hb⟩
  ·exact s3 b hb
  ·exact s4 i hi o ho hd b hb
 have hr3:=hr2.one_tmp (y:=.t r) (by simpa only [footA] using g1) gS rfl
 have hk : Keep 0 [] ⟨1,[(0,.t r)],killAll ids obs⟩ ⟨1,[(0,.t r)],[]⟩:=⟨rfl,rfl,rfl,⟨⟨rfl,by simp [getL,AV.via,AV.shut]⟩,trivial⟩,rfl⟩
 obtain ⟨hv4,S4,F4,hr4⟩:=hk.wk _ _ _ _ _ _ (Nat.le_refl _) hr3
 obtain ⟨L4,q1,q2⟩:=hr4.tm 0
 exact ⟨v,hv4,S4,F4,L4,rfl,hr4.no_tmp,by simpa [getL] using q1,q2,rfl⟩
theorem l6Ids (s:List Entry) (hB:Bd.B≤2147483648) : Con P0 266 [eEntryS s] (.sr 0) [.arr 9 1 (.own .leaf) ((idsE s).map T.s)]:=by
 refine Con.intro (fn:=Tryz.f266) [.tmp 2] (fun _=>(0,[])) mixed (by kernel_rfl) rfl (by decide) rfl (by rfl) (by kernel_rfl) ?_
 simp -implicitDefEqProofs (maxSteps:=2000000) only [push_cast,zA,zB,zC,zD,zE,zF,zG,↓reduceIte,reduceCtorEq]
 have:=Bd.lo
 have hhi:=Bd.hi
 refine ⟨rfl,by omega,?_⟩
 refine WL.loop (ι:=Nat) (D:=(fun _=>(0,[]))) (fun i=>i≤s.length) (fun i=>⟨21,[(0,.t (eEntryS s)),(3,.sr 0),(4,.t (.i .i64 i))],[.arr 9 1 (.own .leaf) ((idsE (s.take i)).map T.s)]⟩) (fun i=>s.length - i) mixed (by kernel_rfl) 0 (by omega) (Keep.wk (ids:=[some 0]) ?_) ?_
 ·simp only [push_cast,zA,zB,zC,zD,zE,zF,zG,↓reduceIte,reduceCtorEq,idsE,List.take_zero,List.map_nil]<;>rfl
 intro i hi
 have hil : (idsE (s.take i)).length≤i:=by unfold idsE; rw [List.length_map,List.length_take]; omega
 simp -implicitDefEqProofs (maxSteps:=2000000) only [push_cast,zA,zB,zC,zD,zE,zF,zG,↓reduceIte,reduceCtorEq,eEntry]
 intro _
 refine iteI (fun h=>⟨by omega,fun x hx=>?_⟩) (fun h=>?_)
 ·rw [Int.toNat_natCast] at hx
  refine ⟨rfl,by omega,rfl,by omega,by omega,by unfold inI64; omega,i + 1,by omega,by omega,Keep.wk (ids:=[some 2]) ?_⟩
  have hs : idsE (s.take (i + 1))=idsE (s.take i) ++ [x.id]:=by unfold idsE; rw [List.take_add_one,hx,List.map_append]; rfl
  rw [hs]
  simp only [push_cast,zA,zB,zC,zD,zE,zF,zG,↓reduceIte,reduceCtorEq,List.map_append,List.map_cons,List.map_nil]<;>rfl
 ·have hi : i=s.length:=by omega
  subst hi
  rw [List.take_length]
  exact Close.of [some 0] rfl rfl rfl (by simp only [push_cast,zA,zB,zC,zD,zE,zF,zG,↓reduceIte,reduceCtorEq]<;>rfl) (by simp only [push_cast,zA,zB,zC,zD,zE,zF,zG,↓reduceIte,reduceCtorEq]<;>rfl)
theorem l2Diff (ls:List (List (List UInt8))) (hls:ls.length≤20) (hll:∀ l∈ls,l.length≤300) (hB:Bd.B≤2147483648) : Con P0 267 [.sl (ls.map eStringS)] (.sr 0) [.arr 9 1 (.own .leaf) ((diffL ls).map T.s)]:=by
 refine Con.intro (fn:=Tryz.f267) [.tmp 2] (fun i=>if i=12 then (15,[]) else (0,[])) mixed (by kernel_rfl) rfl (by decide) rfl (by rfl) (by kernel_rfl) ?_
 simp -implicitDefEqProofs (maxSteps:=2000000) only [push_cast,zA,zB,zC,zD,zE,zF,zG,↓reduceIte,reduceCtorEq]
 have:=Bd.lo
 have hhi:=Bd.hi
 refine ⟨rfl,by omega,?_⟩
 have hfl : ∀ (k:Nat),(ls.take k).flatten.length≤k * 300:=by
  intro k
  induction k with
  | zero => simp
  | succ k ih =>
    rw [List.take_add_one]
    cases hk : ls[k]? with
    | none => simp only [Option.toList_none,List.append_nil]; omega
    | some l =>
      have:=hll l (List.mem_of_getElem? hk)
      simp only [Option.toList_some,List.flatten_append,List.length_append,List.flatten_cons,List.flatten_nil,List.append_nil]
      omega
 have out : ∀ (k:Nat),((ls.take k).flatten.filter fun x=>!inAll ls x).length≤k * 300:=fun k=>Nat.le_trans (List.length_filter_le _ _) (hfl k)
 refine WL.loop (ι:=Nat) (D:=(fun i=>if i=12 then (15,[]) else (0,[]))) (fun i=>i≤ls.length) (fun i=>⟨59,[(0,.t (.sl (ls.map eStringS))),(3,.sr 0),(4,.t (.i .i64 i))],[.arr 9 1 (.own .leaf) (((ls.take i).flatten.filter fun x=>!inAll ls x).map T.s)]⟩) (fun i=>ls.length - i) mixed (by kernel_rfl) 0 (by omega) (Keep.wk (ids:=[some 0]) ?_) ?_
 ·simp only [push_cast,zA,zB,zC,zD,zE,zF,zG,↓reduceIte,reduceCtorEq,List.take_zero,List.flatten_nil,List.filter_nil,List.map_nil]<;>rfl
 intro i hi
 simp -implicitDefEqProofs (maxSteps:=2000000) only [push_cast,zA,zB,zC,zD,zE,zF,zG,↓reduceIte,reduceCtorEq]
 intro _
 refine iteI (fun h=>?_) (fun h=>?_)
 ·obtain ⟨l,hl⟩ : ∃ l,ls[i]? = some l:=⟨_,List.getElem?_eq_getElem (by omega)⟩
  have hlm:=hll l (List.mem_of_getElem? hl)
  have hoi:=out i
  have hsn : ((ls.take (i + 1)).flatten.filter fun x=>!inAll ls x)=((ls.take i).flatten.filter fun x=>!inAll ls x) ++ (l.filter fun x=>!inAll ls x):=by
   rw [List.take_add_one,hl]
   simp only [Option.toList_some,List.flatten_append,List.flatten_cons,List.flatten_nil,List.append_nil,List.filter_append]
  generalize ((ls.take i).flatten.filter fun x=>!inAll ls x)=O at *
  refine WL.loop (ι:=Nat) (D:=(fun i=>if i=12 then (15,[]) else (0,[]))) (fun k=>k≤l.length) (fun k=>⟨59,[(0,.t (.sl (ls.map eStringS))),(3,.sr 0),(4,.t (.i .i64 i)),(5,.t (.i .i64 k))],[.arr 9 1 (.own .leaf) ((O ++ (l.take k).filter fun x=>!inAll ls x).map T.s)]⟩) (fun k=>l.length - k) mixed (by kernel_rfl) 0 (by omega) (Keep.wk (ids:=[some 0]) ?_) ?_
  ·simp only [push_cast,zA,zB,zC,zD,zE,zF,zG,↓reduceIte,reduceCtorEq,List.take_zero,List.filter_nil,List.append_nil]<;>rfl
  intro k hk
  simp -implicitDefEqProofs (maxSteps:=2000000) only [push_cast,zA,zB,zC,zD,zE,zF,zG,↓reduceIte,reduceCtorEq]
  refine ⟨by omega,fun l' hl'=>?_⟩
  rw [Int.toNat_natCast,hl] at hl'
  cases hl'
  intro _
  have hokl : (O ++ (l.take k).filter fun x=>!inAll ls x).length≤i * 300 + k:=by
   rw [List.length_append]
   have:=List.length_filter_le (fun x=>!inAll ls x) (l.take k)
   rw [List.length_take] at this
   omega
  have hO2 : ∀ x,l[k]? = some x→(O ++ (l.take (k + 1)).filter fun x=>!inAll ls x)=(O ++ (l.take k).filter fun x=>!inAll ls x) ++ (if inAll ls x=true then [] else [x]):=fun x hx=>by
   rw [List.take_add_one,hx,List.filter_append,List.append_assoc]
   congr 2
   cases hx' : inAll ls x<;>simp [hx']
  have hend : k=l.length→(O ++ (l.take k).filter fun x=>!inAll ls x)=((ls.take (i + 1)).flatten.filter fun x=>!inAll ls x):=fun hk=>by rw [hsn,hk,List.take_length]
  generalize (O ++ (l.take k).filter fun x=>!inAll ls x)=O' at *
  refine iteI (fun hkl=>?_) (fun hkl=>?_)
  ·obtain ⟨x,hx⟩ : ∃ x,l[k]? = some x:=⟨_,List.getElem?_eq_getElem (by omega)⟩
   have hO2:=hO2 x hx
   refine WL.loop (ι:=Nat) (D:=(fun i=>if i=12 then (15,[]) else (0,[]))) (fun j=>j≤ls.length) (fun j=>⟨59,[(0,.t (.sl (ls.map eStringS))),(3,.sr 0),(4,.t (.i .i64 i)),(5,.t (.i .i64 k)),(6,.t (.b (inAll (ls.take j) x))),(7,.t (.i .i64 j))],[.arr 9 1 (.own .leaf) (O'.map T.s)]⟩) (fun j=>ls.length - j) mixed (by kernel_rfl) 0 (by omega) (Keep.wk (ids:=[some 0]) ?_) ?_
   ·simp only [push_cast,zA,zB,zC,zD,zE,zF,zG,↓reduceIte,reduceCtorEq,List.take_zero,inAll,List.all_nil]<;>rfl
   intro j hj
   simp -implicitDefEqProofs (maxSteps:=2000000) only [push_cast,zA,zB,zC,zD,zE,zF,zG,↓reduceIte,reduceCtorEq]
   intro _
   refine iteI (fun hjl=>?_) (fun hjl=>?_)
   ·obtain ⟨m,hm⟩ : ∃ m,ls[j]? = some m:=⟨_,List.getElem?_eq_getElem (by omega)⟩
    have hs : inAll (ls.take (j + 1)) x=(inAll (ls.take j) x && decide (x∈m)):=by
     unfold inAll; rw [List.take_add_one,hm,List.all_append]; simp
    cases hb : inAll (ls.take j) x with
    | false =>
      rw [hb] at hs
      simp -implicitDefEqProofs (maxSteps:=2000000) only [push_cast,zA,zB,zC,zD,zE,zF,zG,↓reduceIte,reduceCtorEq]
      refine ⟨by unfold inI64; omega,j + 1,by omega,by omega,Keep.wk (ids:=[some 0]) ?_⟩
      rw [hs]
      simp only [push_cast,zA,zB,zC,zD,zE,zF,zG,↓reduceIte,reduceCtorEq]<;>rfl
    | true =>
      rw [hb] at hs
      simp -implicitDefEqProofs (maxSteps:=2000000) only [push_cast,zA,zB,zC,zD,zE,zF,zG,↓reduceIte,reduceCtorEq]
      refine ⟨by omega,fun m' hm'=>?_⟩
      rw [Int.toNat_natCast,hm] at hm'
      cases hm'
      refine ⟨by omega,fun l' hl'=>?_⟩
      rw [Int.toNat_natCast,hl] at hl'
      cases hl'
      refine ⟨by omega,fun x' hx'=>?_⟩
      rw [Int.toNat_natCast,hx] at hx'
      cases hx'
      refine CallV.t (l1Has m x) (.inl rfl) ?_
      simp -implicitDefEqProofs (maxSteps:=2000000) only [push_cast,zA,zB,zC,zD,zE,zF,zG,↓reduceIte,reduceCtorEq]
      refine ⟨by unfold inI64; omega,j + 1,by omega,by omega,Keep.wk (ids:=[some 0]) ?_⟩
      rw [hs]
      simp only [push_cast,zA,zB,zC,zD,zE,zF,zG,↓reduceIte,reduceCtorEq,Bool.true_and]<;>rfl
   ·have hj : j=ls.length:=by omega
    subst hj
    rw [List.take_length]
    cases hb : inAll ls x with
    | true =>
      rw [hb] at hO2
      simp -implicitDefEqProofs (maxSteps:=2000000) only [push_cast,zA,zB,zC,zD,zE,zF,zG,↓reduceIte,reduceCtorEq]
      refine ⟨by unfold inI64; omega,k + 1,by omega,by omega,Keep.wk (ids:=[some 0]) ?_⟩
      rw [hO2]
      simp only [push_cast,zA,zB,zC,zD,zE,zF,zG,↓reduceIte,reduceCtorEq,if_true,List.append_nil]<;>rfl
    | false =>
      rw [hb] at hO2
      simp -implicitDefEqProofs (maxSteps:=2000000) only [push_cast,zA,zB,zC,zD,zE,zF,zG,↓reduceIte,reduceCtorEq]
      refine ⟨by omega,fun l' hl'=>?_⟩
      rw [Int.toNat_natCast,hl] at hl'
      cases hl'
      refine ⟨by omega,fun x' hx'=>?_⟩
      rw [Int.toNat_natCast,hx] at hx'
      cases hx'
      refine ⟨rfl,by omega,rfl,by omega,by omega,by unfold inI64; omega,k + 1,by omega,by omega,Keep.wk (ids:=[some 2]) ?_⟩
      rw [hO2]
      simp only [push_cast,zA,zB,zC,zD,zE,zF,zG,↓reduceIte,reduceCtorEq,Bool.false_eq_true,if_false,List.map_append,List.map_cons,List.map_nil]<;>rfl
  ·have hk : k=l.length:=by omega
   rw [hend hk]
   refine ⟨by unfold inI64; omega,i + 1,by omega,by omega,Keep.wk (ids:=[some 0]) ?_⟩
   simp only [push_cast,zA,zB,zC,zD,zE,zF,zG,↓reduceIte,reduceCtorEq]<;>rfl
 ·have hi : i=ls.length:=by omega
  subst hi
  rw [List.take_length]
  refine Callx.closed (l2Sorted (ls.flatten.filter fun x=>!inAll ls x) hB) rfl rfl (.inr ⟨rfl,rfl⟩) ?_
  simp -implicitDefEqProofs (maxSteps:=2000000) only [push_cast,zA,zB,zC,zD,zE,zF,zG,↓reduceIte,reduceCtorEq]
  exact Close.of [some 1] rfl rfl rfl (by simp only [push_cast,zA,zB,zC,zD,zE,zF,zG,↓reduceIte,reduceCtorEq]<;>rfl) (by simp only [push_cast,zA,zB,zC,zD,zE,zF,zG,↓reduceIte,reduceCtorEq]<;>rfl)
theorem l6Conflicted (es:List Event) (hv:Valid es) (ss:List (List Entry)) (hf:Fits es ss) (hB:Bd.B≤2147483648) : Con P0 236 [eRoom ⟨es⟩,eEntrySS ss] (.t (eStringS (confL es ss))) []:=by
 have hso:=specSplit ss hB
 rw [hf.ok hv] at hso
 refine Con.intro (fn:=Tryz.f236) [.tmp 4] (fun i=>if i=6 then (9,[(false,0),(false,1),(false,2),(false,3),(false,4),(false,5),(true,6),(true,7),(true,8)]) else (0,[])) mixed (by kernel_rfl) rfl (by decide) rfl (by rfl) (by kernel_rfl) ?_
 simp -implicitDefEqProofs (maxSteps:=2000000) only [push_cast,zA,zB,zC,zD,zE,zF,zG,↓reduceIte,reduceCtorEq,eRoom]
 have:=Bd.lo
 have hhi:=Bd.hi
 refine Callx.closed hso rfl rfl (.inl rfl) ?_
 simp -implicitDefEqProofs (maxSteps:=2000000) only [push_cast,zA,zB,zC,zD,zE,zF,zG,↓reduceIte,reduceCtorEq,eRoom]
 refine ⟨rfl,by omega,?_⟩
 refine WL.loop (ι:=Nat) (D:=(fun i=>if i=6 then (9,[(false,0),(false,1),(false,2),(false,3),(false,4),(false,5),(true,6),(true,7),(true,8)]) else (0,[]))) (fun i=>i≤ss.length) (fun i=>⟨38,[(1,.t (eEntrySS ss)),(2,.rf 0 0),(6,.sr 1),(8,.sr 2),(9,.t (.i .i64 i))],[.box (.t (eRoom ⟨es⟩)),txO (splO ss),.arr 26 1 (.own (.sl 9 1 .leaf)) ((chainsL es (ss.take i)).map eStringS)]⟩) (fun i=>ss.length - i) mixed (by kernel_rfl) 0 (by omega) (Keep.wk (ids:=[some 0,some 2,some 3]) ?_) ?_
 ·simp only [push_cast,zA,zB,zC,zD,zE,zF,zG,↓reduceIte,reduceCtorEq,chainsL,List.take_zero,List.map_nil,eRoom]<;>rfl
 intro i hi
 have hs20:=hf.1
 have hcl : (chainsL es (ss.take i)).length≤i:=by unfold chainsL; rw [List.length_map,List.length_take]; omega
 simp -implicitDefEqProofs (maxSteps:=2000000) only [push_cast,zA,zB,zC,zD,zE,zF,zG,↓reduceIte,reduceCtorEq,eRoom]
 intro _
 refine iteI (fun h=>⟨by omega,fun s hs=>?_⟩) (fun h=>?_)
 ·rw [Int.toNat_natCast] at hs
  have hfs:=hf.2 s (List.mem_of_getElem? hs)
  have hsl:=hfs.len
  have hel:=hv.len
  refine Mkx.closed (l6Ids s hB) rfl rfl (.inl rfl) ?_
  simp -implicitDefEqProofs (maxSteps:=2000000) only [push_cast,zA,zB,zC,zD,zE,zF,zG,↓reduceIte,reduceCtorEq,eRoom]
  have hit : ∀ x∈idsE s,There es x:=fun x hx=>by
   obtain ⟨e,he,rfl⟩:=List.mem_map.1 hx
   exact hfs.there he
  refine Mkx.closed (l2Full es (idsE s) hv hit (by unfold idsE; rw [List.length_map]; omega) hB) rfl rfl (.inr ⟨rfl,rfl⟩) ?_
  simp -implicitDefEqProofs (maxSteps:=2000000) only [push_cast,zA,zB,zC,zD,zE,zF,zG,↓reduceIte,reduceCtorEq,eRoom]
  refine ⟨rfl,by omega,rfl,by omega,by omega,by unfold inI64; omega,i + 1,by omega,by omega,Keep.wk (ids:=[some 0,some 1,some 6]) ?_⟩
  have hsn : chainsL es (ss.take (i + 1))=chainsL es (ss.take i) ++ [fullL es (idsE s)]:=by
   unfold chainsL; rw [List.take_add_one,hs,List.map_append]; rfl
  rw [hsn]
  simp only [push_cast,zA,zB,zC,zD,zE,zF,zG,↓reduceIte,reduceCtorEq,List.map_append,List.map_cons,List.map_nil]<;>rfl
 ·have hi : i=ss.length:=by omega
  subst hi
  rw [List.take_length] at hcl ⊢
  have hch:=hf.chains hv
  have hD:=l2Diff (chainsL es ss) (by omega) (fun l hl=>(hch l hl).2) hB
  have hdl : (diffL (chainsL es ss)).length≤300:=by
   refine Nat.le_trans (there_len (asc_nodup sset_asc) fun x hx=>?_) hv.len
   obtain ⟨⟨l,hl,hxl⟩,_⟩:=diffL_mem.1 hx
   exact (hch l hl).1 x hxl
  have hol : (splO ss).length≤300:=by
   have he : splO ss=sset (othL ss ss.flatten):=if_pos (hf.ok hv)
   refine Nat.le_trans (there_len ?_ (hf.others hv)) hv.len
   rw [he]; exact asc_nodup sset_asc
  refine Callx.closed hD rfl rfl (.inr ⟨rfl,rfl⟩) ?_
  simp -implicitDefEqProofs (maxSteps:=2000000) only [push_cast,zA,zB,zC,zD,zE,zF,zG,↓reduceIte,reduceCtorEq,eRoom]
  refine ⟨rfl,by omega,by omega,?_⟩
  rw [← List.map_append]
  refine Callx.closed (l2Sorted (splO ss ++ diffL (chainsL es ss)) hB) rfl rfl (.inr ⟨rfl,rfl⟩) ?_
  simp -implicitDefEqProofs (maxSteps:=2000000) only [push_cast,zA,zB,zC,zD,zE,zF,zG,↓reduceIte,reduceCtorEq,eRoom]
  rfl
theorem viewTo_snoc {es:List Event} {s:List Entry} {e:Event} {ks:List Slot} {i:Nat} {k:Slot} (h:ks[i]? = some k) : viewTo es s e (ks.take (i + 1))=setL (viewTo es s e (ks.take i)) ⟨k.typ,k.key,idFor es s e k⟩ false:=by
 unfold viewTo
 rw [List.take_add_one,h,List.foldl_append]
 rfl
theorem tryL_snoc {es:List Event} {s:List Entry} {ids:List (List UInt8)} {i:Nat} {x:List UInt8} (h:ids[i]? = some x) : tryL es s (ids.take (i + 1))=tryX es (tryL es s (ids.take i)) x:=by
 unfold tryL
 rw [List.take_add_one,h,List.foldl_append]
 rfl
theorem l6Try (es:List Event) (hv:Valid es) (s:List Entry) (ids:List (List UInt8)) (hs:Fit es s) (hids:∀ x∈ids,There es x) (hB:Bd.B≤2147483648) : Con P0 237 [eRoom ⟨es⟩,eEntryS s,eStringS ids] (.t (eEntryS (tryL es s ids))) []:=by
 refine Con.intro (fn:=Tryz.f237) [.tmp 6] (fun i=>if i=14 then (14,[(false,0),(false,1),(false,2),(false,3),(false,4),(false,5),(false,6),(false,7),(false,8),(false,9),(false,10),(false,11),(false,12),(true,13)]) else if i=13 then (14,[]) else if i=11 then (13,[]) else if i=4 then (7,[(false,0),(false,1),(false,2),(false,3),(false,4),(false,5),(true,6)]) else (0,[])) mixed (by kernel_rfl) rfl (by decide) rfl (by rfl) (by kernel_rfl) ?_
 simp -implicitDefEqProofs (maxSteps:=2000000) only [push_cast,zA,zB,zC,zD,zE,zF,zG,↓reduceIte,reduceCtorEq,eRoom]
 have:=Bd.lo
 have hhi:=Bd.hi
 have hel:=hv.len
 refine WL.loop (ι:=Nat) (D:=(fun i=>if i=14 then (14,[(false,0),(false,1),(false,2),(false,3),(false,4),(false,5),(false,6),(false,7),(false,8),(false,9),(false,10),(false,11),(false,12),(true,13)]) else if i=13 then (14,[]) else if i=11 then (13,[]) else if i=4 then (7,[(false,0),(false,1),(false,2),(false,3),(false,4),(false,5),(true,6)]) else (0,[]))) (fun i=>i≤ids.length) (fun i=>⟨93,[(1,.t (eEntryS (tryL es s (ids.take i)))),(2,.t (eStringS ids)),(3,.rf 0 0),(7,.t (.i .i64 i))],[.box (.t (eRoom ⟨es⟩))]⟩) (fun i=>ids.length - i) mixed (by kernel_rfl) 0 (by omega) (Keep.wk (ids:=[some 0]) ?_) ?_
 ·simp only [push_cast,zA,zB,zC,zD,zE,zF,zG,↓reduceIte,reduceCtorEq,tryL,List.take_zero,List.foldl_nil,eRoom]<;>rfl
 intro i hi
 have hfi : Fit es (tryL es s (ids.take i)):=tryL_fit hv (fun x hx=>hids x (List.mem_of_mem_take hx)) hs
 simp -implicitDefEqProofs (maxSteps:=2000000) only [push_cast,zA,zB,zC,zD,zE,zF,zG,↓reduceIte,reduceCtorEq,eRoom]
 intro _
 refine iteI (fun h=>⟨by omega,fun x hx=>?_⟩) (fun h=>?_)
 ·rw [Int.toNat_natCast] at hx
  obtain ⟨k,e,he,hid,hp⟩:=there_at (hids x (List.mem_of_getElem? hx))
  have hsn : tryL es s (ids.take (i + 1))=tryE es (tryL es s (ids.take i)) e:=by rw [tryL_snoc hx,tryX_at hp he]
  refine CallV.t (l6Event es x k e hp he) (.inl rfl) ?_
  simp -implicitDefEqProofs (maxSteps:=2000000) only [push_cast,zA,zB,zC,zD,zE,zF,zG,↓reduceIte,reduceCtorEq,eRoom,eEvent]
  generalize tryL es s (ids.take i)=u at *
  have next : ∀ u',tryE es u e=u'→tryL es s (ids.take (i + 1))=u':=fun u' h=>hsn.trans h
  refine iteI (fun hns=>?_) (fun hns=>?_)
  ·have hu : tryE es u e=u:=if_neg fun h=>by rw [h.1] at hns; simp at hns
   refine ⟨by unfold inI64; omega,i + 1,by omega,by omega,Keep.wk (ids:=[some 0]) ?_⟩
   rw [next _ hu]
   simp only [push_cast,zA,zB,zC,zD,zE,zF,zG,↓reduceIte,reduceCtorEq,eRoom]<;>rfl
  have hst : e.isState=true:=by simpa using hns
  have cN : Con P0 157 [eEvent e] (.t (.sl ((needOf e).map eSlot))) []:=Con.seal (ids:=[0]) (specNeeded e hB) (by simp only [push_cast,zA,zB,zC,zD,zE,zF,zG,↓reduceIte,reduceCtorEq]) rfl
  simp only [eEvent] at cN
  refine Callx.closed cN rfl rfl (.inl rfl) ?_
  simp -implicitDefEqProofs (maxSteps:=2000000) only [push_cast,zA,zB,zC,zD,zE,zF,zG,↓reduceIte,reduceCtorEq,eRoom,eEvent]
  refine ⟨rfl,by omega,?_⟩
  have hvo : viewOf es u e=viewTo es u e (needOf e):=rfl
  have hvf : ∀ n,Fit es (viewTo es u e ((needOf e).take n)):=fun n=>viewTo_fit hv hfi e _ .nil
  have heo : evOk e=0:=(hv.good he).ok
  have hau : ∀ y∈e.auth,There es y:=fun y hy=>by
   obtain ⟨_,_,_,_,_,hh⟩:=pos_ref ((hv.good he).auth y hy)
   unfold There; rw [hh]; rfl
  generalize needOf e=ks at *
  refine WL.loop (ι:=Nat) (D:=(fun i=>if i=14 then (14,[(false,0),(false,1),(false,2),(false,3),(false,4),(false,5),(false,6),(false,7),(false,8),(false,9),(false,10),(false,11),(false,12),(true,13)]) else if i=13 then (14,[]) else if i=11 then (13,[]) else if i=4 then (7,[(false,0),(false,1),(false,2),(false,3),(false,4),(false,5),(true,6)]) else (0,[]))) (fun n=>n≤ks.length) (fun n=>⟨93,[(1,.t (eEntryS u)),(2,.t (eStringS ids)),(3,.rf 0 0),(7,.t (.i .i64 i)),(8,.rf 1 0),(9,.t (.sl (ks.map eSlot))),(10,.sr 2),(11,.t (.i .i64 n))],[.box (.t (eRoom ⟨es⟩)),.box (.t (eEvent e)),enO (viewTo es u e (ks.take n))]⟩) (fun n=>ks.length - n) mixed (by kernel_rfl) 0 (by omega) (Keep.wk (ids:=[some 0,some 1,some 2]) ?_) ?_
  ·simp only [push_cast,zA,zB,zC,zD,zE,zF,zG,↓reduceIte,reduceCtorEq,viewTo,List.take_zero,List.foldl_nil,eRoom,eEvent]<;>rfl
  intro n hn
  have hvn:=hvf n
  simp -implicitDefEqProofs (maxSteps:=2000000) only [push_cast,zA,zB,zC,zD,zE,zF,zG,↓reduceIte,reduceCtorEq,eRoom,eEvent,eSlot]
  intro _
  have hvl:=hvn.len
  have hul:=hfi.len
  refine iteI (fun h2=>⟨by omega,fun q hq=>⟨by omega,fun q' hq'=>?_⟩⟩) (fun h2=>?_)
  ·rw [Int.toNat_natCast] at hq hq'
   rw [hq] at hq'
   cases hq'
   have hvs:=viewTo_snoc (es:=es) (s:=u) (e:=e) hq
   have fin : ∀ id : List UInt8,idFor es u e q=id→Con P0 106 [eEntryS (viewTo es u e (ks.take n)),T.ag [T.s q.typ,T.s q.key,T.s id],T.b false] (.sr 0) [enO (viewTo es u e (ks.take (n + 1)))]:=fun id hid=>by
    rw [hvs,hid]
    exact l4Set _ ⟨q.typ,q.key,id⟩ false hB (by omega)
   refine CallV.t (l4Find u q.typ q.key) (.inl rfl) ?_
   simp -implicitDefEqProofs (maxSteps:=2000000) only [push_cast,zA,zB,zC,zD,zE,zF,zG,↓reduceIte,reduceCtorEq,eRoom,eEvent,eSlot]
   refine iteI (fun hf=>?_) (fun hf=>?_)
   ·have hidf : idFor es u e q=idAt es (fromL es (ofKind q.typ q.key) e.auth):=if_pos hf
    have cA:=l6FromAuth es e q.typ q.key hau
    simp only [eRoom,eEvent] at cA
    refine ⟨by omega,fun q' hq'=>⟨by omega,fun q'' hq''=>?_⟩⟩
    rw [Int.toNat_natCast,hq] at hq' hq''
    cases hq'; cases hq''
    refine CallV.t cA (.inl rfl) ?_
    simp -implicitDefEqProofs (maxSteps:=2000000) only [push_cast,zA,zB,zC,zD,zE,zF,zG,↓reduceIte,reduceCtorEq,eRoom,eEvent,eSlot]
    refine ⟨by omega,fun q' hq'=>⟨by omega,fun q'' hq''=>?_⟩⟩
    rw [Int.toNat_natCast,hq] at hq' hq''
    cases hq'; cases hq''
    refine Mkx.closed (fin _ hidf) rfl rfl (.inr ⟨rfl,rfl⟩) ?_
    simp -implicitDefEqProofs (maxSteps:=2000000) only [push_cast,zA,zB,zC,zD,zE,zF,zG,↓reduceIte,reduceCtorEq,eRoom,eEvent,eSlot]
    refine ⟨by unfold inI64; omega,n + 1,by omega,by omega,Keep.wk (ids:=[some 0,some 1,some 3]) ?_⟩
    simp only [push_cast,zA,zB,zC,zD,zE,zF,zG,↓reduceIte,reduceCtorEq,eRoom,eEvent,eSlot]<;>rfl
   ·have hidf : idFor es u e q=findId (q.typ,q.key) u:=if_neg hf
    refine ⟨by omega,fun q' hq'=>⟨by omega,fun q'' hq''=>?_⟩⟩
    rw [Int.toNat_natCast,hq] at hq' hq''
    cases hq'; cases hq''
    refine Mkx.closed (fin _ hidf) rfl rfl (.inr ⟨rfl,rfl⟩) ?_
    simp -implicitDefEqProofs (maxSteps:=2000000) only [push_cast,zA,zB,zC,zD,zE,zF,zG,↓reduceIte,reduceCtorEq,eRoom,eEvent,eSlot]
    refine ⟨by unfold inI64; omega,n + 1,by omega,by omega,Keep.wk (ids:=[some 0,some 1,some 3]) ?_⟩
    simp only [push_cast,zA,zB,zC,zD,zE,zF,zG,↓reduceIte,reduceCtorEq,eRoom,eEvent,eSlot]<;>rfl
  ·have hn : n=ks.length:=by omega
   subst hn
   rw [List.take_length,← hvo] at hvn ⊢
   have cA:=l5Allowed es (viewOf es u e) e hB hv (hvn.fits hv) heo
   simp only [eRoom,eEvent] at cA
   refine Callx.closed cA rfl rfl (.inr ⟨rfl,rfl⟩) ?_
   simp -implicitDefEqProofs (maxSteps:=2000000) only [push_cast,zA,zB,zC,zD,zE,zF,zG,↓reduceIte,reduceCtorEq,eRoom,eEvent,eSlot]
   refine iteI (fun h3=>?_) (fun h3=>?_)
   ·have hu : tryE es u e=setL u ⟨e.typ,e.key,e.id⟩ false:=if_pos ⟨hst,h3⟩
    have cS : Con P0 106 [eEntryS u,T.ag [T.s e.typ,T.s e.key,T.s e.id],T.b false] (.t (eEntryS (setL u ⟨e.typ,e.key,e.id⟩ false))) []:=Con.seal (ids:=[0]) (l4Set u ⟨e.typ,e.key,e.id⟩ false hB (by omega)) (by simp only [push_cast,zA,zB,zC,zD,zE,zF,zG,↓reduceIte,reduceCtorEq]) rfl
    refine Callx.closed cS rfl rfl (.inl rfl) ?_
    simp -implicitDefEqProofs (maxSteps:=2000000) only [push_cast,zA,zB,zC,zD,zE,zF,zG,↓reduceIte,reduceCtorEq,eRoom,eEvent,eSlot]
    refine ⟨by unfold inI64; omega,i + 1,by omega,by omega,Keep.wk (ids:=[some 0]) ?_⟩
    rw [next _ hu]
    simp only [push_cast,zA,zB,zC,zD,zE,zF,zG,↓reduceIte,reduceCtorEq,eRoom]<;>rfl
   ·have hu : tryE es u e=u:=if_neg fun h=>h3 h.2
    refine ⟨by unfold inI64; omega,i + 1,by omega,by omega,Keep.wk (ids:=[some 0]) ?_⟩
    rw [next _ hu]
    simp only [push_cast,zA,zB,zC,zD,zE,zF,zG,↓reduceIte,reduceCtorEq,eRoom]<;>rfl
 ·have hi : i=ids.length:=by omega
  subst hi
  rw [List.take_length]
end Go.Proofs.YtmgdkkhnjkepiaaGreat.BX
namespace Go.Proofs.YtmgdkkhnjkepiaaGreat.BX
open Nat renaming reduceEqDiff → zA, reduceLT → zB, reduceLeDiff → zC, reduceAdd → zD, reduceMul → zE, reduceSub → zF, reduceBEq → zG
set_option linter.unusedSectionVars false
set_option linter.unusedSimpArgs false
set_option linter.unusedVariables false
open Go Go.RowKit
set_option maxRecDepth 20000
set_option maxHeartbeats 400000
variable [Bd]
theorem Wk.seal {N:Nat} {n:Nat} {tm:List (Nat × AV)} {ob:List Ob} (t:Nat) {y:T} {ids:List Nat} (h:(getL tm t).take ob 5=some (y,ids)) (hn:nodupB ids=true) : Wk N ⟨n,tm,ob⟩ ⟨n,(t,.t y) :: tm,killAll ids ob⟩:=by
 intro w0 hv S F a w hN hr
 obtain ⟨L,f1,f2⟩:=hr.tm t
 obtain ⟨L',g1,g2⟩:=take_sound hr _ _ h f1 f2
 obtain ⟨hv2,S2,s1,s2,s3,s4,hr2,s5⟩:=hr.killAll ids (nodupB_spec hn)
 refine ⟨hv2,S2,F,{ hr2 with tm:=fun t'=>?_,utm:=fun t'=>?_ }⟩
 ·simp only [getL]
  split
  ·rename_i e
   subst e
   exact ⟨L',by simpa only [footA] using g1,fun b hb=>by
    rcases g2 b hb with hb | ⟨i,hi,o,ho,hd,hb⟩
    ·exact s3 b hb
    ·exact s4 i hi o ho hd b hb⟩
  ·exact hr2.tm t'
 ·simp only [getL]
  split
  ·rfl
  ·exact hr2.utm t'
theorem l6Resolve (es:List Event) (hv:Valid es) (ss:List (List Entry)) (hf:Fits es ss) (hB:Bd.B≤2147483648) : Con P0 208 [eRoom ⟨es⟩,eEntrySS ss] (.sr 0) [enO (resL es ss)]:=by
 have hso:=specSplit ss hB
 rw [hf.ok hv] at hso
 have hsp : Con P0 235 [eEntrySS ss] (.t (.tp [eEntryS (splS ss),eStringS (splO ss),.b true])) []:=Con.seal (ids:=[0,1]) hso (by simp only [push_cast,zA,zB,zC,zD,zE,zF,zG,↓reduceIte,reduceCtorEq]) rfl
 have hcf:=hf.conf hv
 have hPo : Con P0 96 [eRoom ⟨es⟩,eStringS (confL es ss)] (.t (eStringS (powL es (confL es ss)))) []:=Con.seal (ids:=[0]) (l6PowerOrder es hv (confL es ss) hcf.1 (by omega) hB) (by simp only [push_cast,zA,zB,zC,zD,zE,zF,zG,↓reduceIte,reduceCtorEq]) rfl
 refine Con.intro (fn:=Tryz.f208) [.tmp 4] (fun i=>if i=11 then (999999,[]) else (0,[])) mixed (by kernel_rfl) rfl (by decide) rfl (by rfl) (by kernel_rfl) ?_
 simp -implicitDefEqProofs (maxSteps:=2000000) only [push_cast,zA,zB,zC,zD,zE,zF,zG,↓reduceIte,reduceCtorEq,eRoom]
 have:=Bd.lo
 have hhi:=Bd.hi
 refine Callx.closed hsp rfl rfl (.inl rfl) ?_
 simp -implicitDefEqProofs (maxSteps:=2000000) only [push_cast,zA,zB,zC,zD,zE,zF,zG,↓reduceIte,reduceCtorEq,eRoom]
 refine Callx.closed (l6Conflicted es hv ss hf hB) rfl rfl (.inl rfl) ?_
 simp -implicitDefEqProofs (maxSteps:=2000000) only [push_cast,zA,zB,zC,zD,zE,zF,zG,↓reduceIte,reduceCtorEq,eRoom]
 refine Callx.closed hPo rfl rfl (.inl rfl) ?_
 simp -implicitDefEqProofs (maxSteps:=2000000) only [push_cast,zA,zB,zC,zD,zE,zF,zG,↓reduceIte,reduceCtorEq,eRoom]
 refine Callx.closed (l6Try es hv (splS ss) (powL es (confL es ss)) (hf.same hv).2 (powL_there hv hcf.1) hB) rfl rfl (.inl rfl) ?_
 simp -implicitDefEqProofs (maxSteps:=2000000) only [push_cast,zA,zB,zC,zD,zE,zF,zG,↓reduceIte,reduceCtorEq,eRoom]
 refine ⟨rfl,by omega,?_⟩
 have hff:=resFirst_fit hv hf
 have hrt:=resRest_there hv hf
 have hsm:=hf.same hv
 have hR : resL es ss=patchL (tryL es (resFirst es ss) (mordL es (resRest es ss) (resLine es ss))) (splS ss):=rfl
 have hRR : resRest es ss=(confL es ss).filter fun x=>decide (x ∉ powL es (confL es ss)):=rfl
 have hRL : resLine es ss=lineO es (posOf (findId (sPower,[]) (resFirst es ss)) es):=rfl
 rw [hR]
 change WL _ _ _ _ ⟨_,(12,_) :: (11,_) :: (29,_) :: (10,.t (eEntryS (resFirst es ss))) :: _,_⟩
 clear hso hsp hPo hR
 generalize resLine es ss=line at *
 generalize resRest es ss=rest at *
 generalize resFirst es ss=s1 at *
 generalize powL es (confL es ss)=first at *
 generalize confL es ss=conf at *
 generalize splS ss=same at *
 refine WL.loop (ι:=Nat) (D:=(fun i=>if i=11 then (999999,[]) else (0,[]))) (fun i=>i≤conf.length) (fun i=>⟨61,[(2,.rf 0 0),(5,.t (eEntryS same)),(8,.t (eStringS conf)),(9,.t (eStringS first)),(10,.t (eEntryS s1)),(11,.sr 1),(12,.t (.i .i64 i))],[.box (.t (eRoom ⟨es⟩)),.arr 9 1 (.own .leaf) (((conf.take i).filter fun x=>decide (x ∉ first)).map T.s)]⟩) (fun i=>conf.length - i) mixed (by kernel_rfl) 0 (by omega) (Keep.wk (ids:=[some 0,some 1]) ?_) ?_
 ·simp only [push_cast,zA,zB,zC,zD,zE,zF,zG,↓reduceIte,reduceCtorEq,List.take_zero,List.filter_nil,List.map_nil,eRoom]<;>rfl
 intro i hi
 simp -implicitDefEqProofs (maxSteps:=2000000) only [push_cast,zA,zB,zC,zD,zE,zF,zG,↓reduceIte,reduceCtorEq,eRoom]
 intro _
 have hfl : ((conf.take i).filter fun x=>decide (x ∉ first)).length≤i:=Nat.le_trans (List.length_filter_le _ _) (by rw [List.length_take]; omega)
 refine iteI (fun h=>⟨by omega,fun x hx=>?_⟩) (fun h=>?_)
 ·rw [Int.toNat_natCast] at hx
  have hsn : ((conf.take (i + 1)).filter fun x=>decide (x ∉ first))=((conf.take i).filter fun x=>decide (x ∉ first)) ++ (if x∈first then [] else [x]):=by
   rw [List.take_add_one,hx,List.filter_append]
   by_cases hm : x∈first<;>simp [hm]
  generalize ((conf.take i).filter fun x=>decide (x ∉ first))=L at *
  have c1:=l1Has first x
  by_cases hm : x∈first
  ·rw [decide_eq_true hm] at c1
   rw [if_pos hm,List.append_nil] at hsn
   refine Callx.closed c1 rfl rfl (.inl rfl) ?_
   simp -implicitDefEqProofs (maxSteps:=2000000) only [push_cast,zA,zB,zC,zD,zE,zF,zG,↓reduceIte,reduceCtorEq,eRoom]
   refine ⟨by unfold inI64; omega,i + 1,by omega,by omega,Keep.wk (ids:=[some 0,some 1]) ?_⟩
   rw [hsn]
   simp only [push_cast,zA,zB,zC,zD,zE,zF,zG,↓reduceIte,reduceCtorEq,eRoom]<;>rfl
  ·rw [decide_eq_false hm] at c1
   rw [if_neg hm] at hsn
   refine Callx.closed c1 rfl rfl (.inl rfl) ?_
   simp -implicitDefEqProofs (maxSteps:=2000000) only [push_cast,zA,zB,zC,zD,zE,zF,zG,↓reduceIte,reduceCtorEq,eRoom]
   refine ⟨by omega,fun x' hx'=>?_⟩
   rw [Int.toNat_natCast,hx] at hx'
   cases hx'
   refine ⟨rfl,by omega,rfl,by omega,by omega,by unfold inI64; omega,i + 1,by omega,by omega,Keep.wk (ids:=[some 0,some 3]) ?_⟩
   rw [hsn]
   simp only [push_cast,zA,zB,zC,zD,zE,zF,zG,↓reduceIte,reduceCtorEq,eRoom,List.map_append,List.map_cons,List.map_nil]<;>rfl
 ·have hi : i=conf.length:=by omega
  subst hi
  rw [List.take_length,← hRR]
  refine W.cut (ι:=Unit) (D:=(fun i=>if i=11 then (8,[]) else (0,[]))) (fun _=>True) (fun _=>⟨61,[(2,.rf 0 0),(5,.t (eEntryS same)),(10,.t (eEntryS s1)),(11,.t (eStringS rest))],[.box (.t (eRoom ⟨es⟩))]⟩) mixed (by kernel_rfl) () trivial (Wk.trans (Wk.seal (y:=.sl (rest.map T.s)) (ids:=[1]) 11 (by simp [getL,AV.take]) rfl) (Keep.wk (ids:=[some 0]) ?_)) (fun _ _=>?_)
  ·simp only [push_cast,zA,zB,zC,zD,zE,zF,zG,↓reduceIte,reduceCtorEq,eRoom]<;>rfl
  have hidp : idAt es (posOf (findId (sPower,[]) s1) es)=findId (sPower,[]) s1:=by
   by_cases hn : findId (sPower,[]) s1=[]
   ·rw [hn,pos_nil hv]; rfl
   ·obtain ⟨x,hx,_,hid⟩:=findId_mem hn
    obtain ⟨k,e,_,_,hp⟩:=there_at (hff.there hx)
    rw [hid]
    exact idAt_pos hp
  have hMo : Con P0 77 [eRoom ⟨es⟩,eStringS rest,.s (findId (sPower,[]) s1)] (.t (eStringS (mordL es rest line))) []:=by
   have h1:=l6MainOrder es hv rest hrt (posOf (findId (sPower,[]) s1) es) (fun i hi=>posOf_lt hi) hB
   rw [hidp,← hRL] at h1
   exact Con.seal (ids:=[0]) h1 (by simp only [push_cast,zA,zB,zC,zD,zE,zF,zG,↓reduceIte,reduceCtorEq]) rfl
  have hT:=l6Try es hv s1 (mordL es rest line) hff (mordL_there hrt) hB
  have hTf : Fit es (tryL es s1 (mordL es rest line)):=tryL_fit hv (mordL_there hrt) hff
  have hl1:=hTf.len
  have hl2:=hsm.2.len
  have hel:=hv.len
  have hPt:=l4Patch (tryL es s1 (mordL es rest line)) same hB hTf.ord (by omega)
  generalize tryL es s1 (mordL es rest line)=s2 at *
  simp only [eRoom] at hMo hT
  simp -implicitDefEqProofs (maxSteps:=2000000) only [push_cast,zA,zB,zC,zD,zE,zF,zG,↓reduceIte,reduceCtorEq,eRoom]
  refine CallV.t (l4Find s1 sPower []) (.inl rfl) ?_
  simp -implicitDefEqProofs (maxSteps:=2000000) only [push_cast,zA,zB,zC,zD,zE,zF,zG,↓reduceIte,reduceCtorEq,eRoom]
  refine CallV.t hMo (.inl rfl) ?_
  simp -implicitDefEqProofs (maxSteps:=2000000) only [push_cast,zA,zB,zC,zD,zE,zF,zG,↓reduceIte,reduceCtorEq,eRoom]
  refine CallV.t hT (.inl rfl) ?_
  simp -implicitDefEqProofs (maxSteps:=2000000) only [push_cast,zA,zB,zC,zD,zE,zF,zG,↓reduceIte,reduceCtorEq,eRoom]
  refine Callx.closed hPt rfl rfl (.inl rfl) ?_
  simp -implicitDefEqProofs (maxSteps:=2000000) only [push_cast,zA,zB,zC,zD,zE,zF,zG,↓reduceIte,reduceCtorEq,eRoom]
  exact Close.of [some 1] rfl rfl rfl (by simp only [push_cast,zA,zB,zC,zD,zE,zF,zG,↓reduceIte,reduceCtorEq]<;>rfl) (by simp only [push_cast,zA,zB,zC,zD,zE,zF,zG,↓reduceIte,reduceCtorEq]<;>rfl)
noncomputable def allfB (es:List Event) (ss:List (List Entry)) : Bool:=roomB es && (decide (ss.length≤20) && ss.all (fitsB es))
theorem allfB_of {es:List Event} {ss:List (List Entry)} (h:allfB es ss=true) : Valid es∧Fits es ss:=by
 unfold allfB at h
 simp only [Bool.and_eq_true,decide_eq_true_eq,List.all_eq_true] at h
 exact ⟨room_valid h.1,h.2.1,fun s hs=>Fit.of (h.2.2 s hs)⟩
theorem l6AllFit (es:List Event) (ss:List (List Entry)) : Con P0 207 [eRoom ⟨es⟩,eEntrySS ss] (.t (.b (allfB es ss))) []:=by
 refine Con.intro (fn:=Tryz.f207) [.tmp 4] (fun i=>if i=6 then (7,[]) else (0,[])) mixed (by kernel_rfl) rfl (by decide) rfl (by rfl) (by kernel_rfl) ?_
 simp -implicitDefEqProofs (maxSteps:=2000000) only [push_cast,zA,zB,zC,zD,zE,zF,zG,↓reduceIte,reduceCtorEq,eRoom]
 have:=Bd.lo
 have hhi:=Bd.hi
 have hD : allfB es ss=(roomB es && (decide (ss.length≤20) && ss.all (fitsB es))):=rfl
 refine Callx.closed (specRoomOk es) rfl rfl (.inl rfl) ?_
 cases hr : roomB es with
 | false =>
   rw [hr,Bool.false_and] at hD
   rw [hD]
   simp -implicitDefEqProofs (maxSteps:=2000000) only [push_cast,zA,zB,zC,zD,zE,zF,zG,↓reduceIte,reduceCtorEq,eRoom]
 | true =>
   rw [hr,Bool.true_and] at hD
   simp -implicitDefEqProofs (maxSteps:=2000000) only [push_cast,zA,zB,zC,zD,zE,zF,zG,↓reduceIte,reduceCtorEq,eRoom]
   intro _
   refine iteI (fun h=>?_) (fun h=>?_)
   ·rw [decide_eq_false (by omega),Bool.false_and] at hD
    rw [hD]
   rw [decide_eq_true (by omega),Bool.true_and] at hD
   rw [hD]
   refine WL.loop (ι:=Nat) (D:=(fun i=>if i=6 then (7,[]) else (0,[]))) (fun i=>i≤ss.length∧(ss.take i).all (fitsB es)=true) (fun i=>⟨27,[(1,.t (eEntrySS ss)),(2,.rf 0 0),(5,.t (.i .i64 i))],[.box (.t (eRoom ⟨es⟩))]⟩) (fun i=>ss.length - i) mixed (by kernel_rfl) 0 ⟨by omega,rfl⟩ (Keep.wk (ids:=[some 0]) ?_) ?_
   ·simp only [push_cast,zA,zB,zC,zD,zE,zF,zG,↓reduceIte,reduceCtorEq,eRoom]<;>rfl
   rintro i ⟨hi,ha⟩
   simp -implicitDefEqProofs (maxSteps:=2000000) only [push_cast,zA,zB,zC,zD,zE,zF,zG,↓reduceIte,reduceCtorEq,eRoom]
   intro _
   refine iteI (fun h2=>⟨by omega,fun s hs=>?_⟩) (fun h2=>?_)
   ·rw [Int.toNat_natCast] at hs
    have c1:=l5Fits es s
    simp only [eRoom] at c1
    cases hfs : fitsB es s with
    | false =>
      rw [hfs] at c1
      refine CallV.t c1 (.inl rfl) ?_
      simp -implicitDefEqProofs (maxSteps:=2000000) only [push_cast,zA,zB,zC,zD,zE,zF,zG,↓reduceIte,reduceCtorEq,eRoom]
      exact congrArg T.b (List.all_eq_false.2 ⟨s,List.mem_of_getElem? hs,by rw [hfs]; simp⟩).symm
    | true =>
      rw [hfs] at c1
      refine CallV.t c1 (.inl rfl) ?_
      simp -implicitDefEqProofs (maxSteps:=2000000) only [push_cast,zA,zB,zC,zD,zE,zF,zG,↓reduceIte,reduceCtorEq,eRoom]
      refine ⟨by unfold inI64; omega,i + 1,⟨by omega,?_⟩,by omega,Keep.wk (ids:=[some 0]) ?_⟩
      ·rw [List.take_add_one,hs,List.all_append,ha]; simp [hfs]
      ·simp only [push_cast,zA,zB,zC,zD,zE,zF,zG,↓reduceIte,reduceCtorEq,eRoom]<;>rfl
   ·rw [List.take_of_length_le (by omega)] at ha
    rw [ha]
noncomputable def resR (es:List Event) (ss:List (List Entry)) : List Entry:=if allfB es ss=true then resL es ss else []
theorem specResolve (es:List Event) (ss:List (List Entry)) (hB:Bd.B≤2147483648) : Con P0 156 [eRoom ⟨es⟩,eEntrySS ss] (.tp [.sr 0,.t (.b (allfB es ss))]) [enO (resR es ss)]:=by
 refine Con.intro (fn:=Tryz.f156) [.tmp 4,.tmp 5] (fun _=>(0,[])) mixed (by kernel_rfl) rfl (by decide) rfl (by rfl) (by kernel_rfl) ?_
 simp -implicitDefEqProofs (maxSteps:=2000000) only [push_cast,zA,zB,zC,zD,zE,zF,zG,↓reduceIte,reduceCtorEq,eRoom]
 have:=Bd.lo
 have c1:=l6AllFit es ss
 cases hb : allfB es ss with
 | false =>
   have hR : resR es ss=[]:=if_neg (by rw [hb]; simp)
   rw [hb] at c1
   rw [hR]
   refine Callx.closed c1 rfl rfl (.inl rfl) ?_
   simp -implicitDefEqProofs (maxSteps:=2000000) only [push_cast,zA,zB,zC,zD,zE,zF,zG,↓reduceIte,reduceCtorEq,eRoom]
   exact ⟨rfl,by omega,Close.of [some 1] rfl rfl rfl (by simp only [push_cast,zA,zB,zC,zD,zE,zF,zG,↓reduceIte,reduceCtorEq]<;>rfl) (by simp only [push_cast,zA,zB,zC,zD,zE,zF,zG,↓reduceIte,reduceCtorEq]<;>rfl)⟩
 | true =>
   have hR : resR es ss=resL es ss:=if_pos hb
   obtain ⟨hv,hf⟩:=allfB_of hb
   rw [hb] at c1
   rw [hR]
   refine Callx.closed c1 rfl rfl (.inl rfl) ?_
   simp -implicitDefEqProofs (maxSteps:=2000000) only [push_cast,zA,zB,zC,zD,zE,zF,zG,↓reduceIte,reduceCtorEq,eRoom]
   refine Callx.closed (l6Resolve es hv ss hf hB) rfl rfl (.inl rfl) ?_
   simp -implicitDefEqProofs (maxSteps:=2000000) only [push_cast,zA,zB,zC,zD,zE,zF,zG,↓reduceIte,reduceCtorEq,eRoom]
   exact Close.of [some 1] rfl rfl rfl (by simp only [push_cast,zA,zB,zC,zD,zE,zF,zG,↓reduceIte,reduceCtorEq]<;>rfl) (by simp only [push_cast,zA,zB,zC,zD,zE,zF,zG,↓reduceIte,reduceCtorEq]<;>rfl)
end Go.Proofs.YtmgdkkhnjkepiaaGreat.BX
namespace Go.Proofs.YtmgdkkhnjkepiaaGreat.BX
open Nat renaming reduceEqDiff → zA, reduceLT → zB, reduceLeDiff → zC, reduceAdd → zD, reduceMul → zE, reduceSub → zF, reduceBEq → zG
set_option linter.unusedSectionVars false
set_option linter.unusedSimpArgs false
set_option linter.unusedVariables false
open Go Go.RowKit
set_option maxRecDepth 20000
set_option maxHeartbeats 400000
def gName : List (List UInt8):=[[35,109,115,103],[35,116,111,112,105,99],[42,98,97,110],[42,100,101,102,97,117,108,116],[42,105,110,118,105,116,101],[42,107,105,99,107],[42,115,116,97,116,101],[64,97],[64,98],[64,99],[64,100]]
def gLevel (i v:Nat) : Nat:=if i=7∧0 < v % 4 then 100 else v % 3 * 50 + v / 128
def grTo (b:List UInt8) (p k m:Nat) : Nat→List Grant × Nat
 | 0 => ([],p)
 | i + 1 => if m / 2 ^ i % 2=1 ∨ (i=7∧0 < k % 4) then ((grTo b p k m i).1 ++ [⟨(gName[i]?).getD [],gLevel i (nx b (grTo b p k m i).2)⟩],np b (grTo b p k m i).2) else grTo b p k m i
def grL (b:List UInt8) (p:Nat) : List Grant × Nat:=grTo b (np b (np b p)) (nx b p) (nx b p + 256 * nx b (np b p)) 11
theorem grTo_p {b:List UInt8} {p k m:Nat} (hp:p≤b.length) : ∀ {i:Nat},(grTo b p k m i).2≤b.length
 | 0 => hp
 | i + 1 => by
   unfold grTo
   split
   ·exact np_le (grTo_p hp)
   ·exact grTo_p hp
theorem grTo_len {b:List UInt8} {p k m:Nat} : ∀ {i:Nat},(grTo b p k m i).1.length≤i
 | 0 => Nat.zero_le _
 | i + 1 => by
   have:=grTo_len (b:=b) (p:=p) (k:=k) (m:=m) (i:=i)
   unfold grTo
   split
   ·simp only [List.length_append,List.length_singleton]; omega
   ·omega
theorem grL_p {b:List UInt8} {p:Nat} (hp:p≤b.length) : (grL b p).2≤b.length:=grTo_p (np_le (np_le hp))
theorem grL_len {b:List UInt8} {p:Nat} : (grL b p).1.length≤11:=grTo_len
variable [Bd]
def boxTake (ob:List Ob) (i:Nat) : Option (T × List Nat):=match ob[i]? with
 | some (.box x) => x.take ob 5
 | _ => none
theorem Wk.sealBox {N:Nat} {n:Nat} {tm:List (Nat × AV)} {ob:List Ob} (i:Nat) {y:T} {ids:List Nat} (h:boxTake ob i=some (y,ids)) (hn:nodupB (i :: ids)=true) : Wk N ⟨n,tm,ob⟩ ⟨n,tm,(killAll ids ob).set i (.box (.t y))⟩:=by
 intro w0 hv S F a w hN hr
 obtain ⟨x,hi,h⟩ : ∃ x,ob[i]? = some (.box x)∧x.take ob 5=some (y,ids):=by
  unfold boxTake at h
  split at h
  ·rename_i x hx; exact ⟨x,hx,h⟩
  ·cases h
 obtain ⟨b,e,u,L,k1,k2,f1,f2⟩:=hr.ob i _ hi
 obtain ⟨L',g1,g2⟩:=take_sound hr _ _ h f1 f2
 obtain ⟨n1,n2⟩:=List.nodup_cons.1 (nodupB_spec hn)
 obtain ⟨hv2,S2,s1,s2,s3,s4,hr2,s5⟩:=hr.killAll ids n2
 have hi2 : (killAll ids ob)[i]? = some (.box x):=by rw [killAll_keep ids ob i n1]; exact hi
 refine ⟨hv2,S2,F,hr2.write (id:=i) hi2 (by simp) (fun _ _=>rfl) rfl rfl rfl rfl (Nat.le_refl _) rfl ?_ (fun h=>by cases h)⟩
 refine ⟨b,e,u,L',by rw [s1]; exact k1,k2,by simpa only [footA] using g1,fun b hb=>?_⟩
 rcases g2 b hb with hb | ⟨j,hj,o,ho,hd,hb⟩
 ·exact s3 b hb
 ·exact s4 j hj o ho hd b hb
def sealL (ob:List Ob) : List Bool→List AV→Option (List AV × List Nat)
 | _, [] => some ([],[])
 | [], _ :: _ => none
 | k :: ks, x :: xs => match sealL ob ks xs with
   | some (ys, is) => match k,x with
     | true, .ns => some (.ns :: ys,is)
     | true, _ => none
     | false, x => match x.take ob 5 with
       | some (t, i1) => some (.t t :: ys,i1 ++ is)
       | none => none
   | none => none
theorem sealL_sound {w0:Base} {σ:St} {hv:Hv} {S:Nat→Prop} {F:Nat→List Nat} {a:Act} {w:World} (hr:Rel w0 σ hv S F a w) (hv2:Hv) : ∀ (ks:List Bool) (xs:List AV) {ys:List AV} {ids:List Nat} {vs:List Value} {L:List Nat},sealL σ.ob ks xs=some (ys,ids)→footAs hv w xs vs L→(∀ b∈L,S b)→(∃ L',footAs hv2 w ys vs L' ∧ ∀ b∈L',From σ hv S F ids b)∧∀ n,unders n ys=true
 | ks, [], ys, ids, vs, L, h, hf, hL => by
   have h : some (([] : List AV),([] : List Nat))=some (ys,ids):=by cases ks<;>exact h
   cases h
   simp only [footAs] at hf
   exact ⟨⟨[],by simp only [footAs]; exact ⟨hf.1,trivial⟩,by simp⟩,fun _=>rfl⟩
 | [], _ :: _, ys, ids, vs, L, h, hf, hL => by cases h
 | k :: ks, x :: xs, ys, ids, vs, L, h, hf, hL => by
   simp only [footAs] at hf
   obtain ⟨v,vs',L1,L2,rfl,rfl,f1,f2⟩:=hf
   simp only [sealL] at h
   split at h
   ·rename_i ys' is' hrec
    obtain ⟨⟨L',g1,g2⟩,g3⟩:=sealL_sound hr hv2 ks xs hrec f2 fun b hb=>hL b (List.mem_append_right _ hb)
    split at h
    ·cases h
     exact ⟨⟨[] ++ L',by simp only [footAs]; exact ⟨v,vs',[],L',rfl,rfl,by simp only [footA] at f1 ⊢; exact ⟨f1.1,trivial⟩,g1⟩,by simpa using g2⟩,fun n=>by simp only [unders,AV.under,g3 n,Bool.and_self]⟩
    ·cases h
    ·split at h
     ·rename_i t i1 ht
      cases h
      obtain ⟨L0,q1,q2⟩:=take_sound hr _ _ ht f1 fun b hb=>hL b (List.mem_append_left _ hb)
      refine ⟨⟨L0 ++ L',by simp only [footAs]; exact ⟨v,vs',L0,L',rfl,rfl,by simpa only [footA] using q1,g1⟩,fun b hb=>?_⟩,fun n=>by simp only [unders,AV.under,g3 n,Bool.and_self]⟩
      rcases List.mem_append.1 hb with hb | hb
      ·exact (q2 b hb).left
      ·exact (g2 b hb).right
     ·cases h
   ·cases h
def boxSeal (ob:List Ob) (i:Nat) (ks:List Bool) : Option (List AV × List Nat):=match ob[i]? with
 | some (.box (.ag xs)) => sealL ob ks xs
 | _ => none
theorem Wk.sealBoxP {N:Nat} {n:Nat} {tm:List (Nat × AV)} {ob:List Ob} (i:Nat) (ks:List Bool) {ys:List AV} {ids:List Nat} (h:boxSeal ob i ks=some (ys,ids)) (hn:nodupB (i :: ids)=true) : Wk N ⟨n,tm,ob⟩ ⟨n,tm,(killAll ids ob).set i (.box (.ag ys))⟩:=by
 intro w0 hv S F a w hN hr
 obtain ⟨xs,hi,h⟩ : ∃ xs,ob[i]? = some (.box (.ag xs))∧sealL ob ks xs=some (ys,ids):=by
  unfold boxSeal at h
  split at h
  ·rename_i x hx; exact ⟨x,hx,h⟩
  ·cases h
 obtain ⟨b,e,u,L,k1,k2,f1,f2⟩:=hr.ob i _ hi
 simp only [footA] at f1
 obtain ⟨vs,rfl,f1⟩:=f1
 obtain ⟨n1,n2⟩:=List.nodup_cons.1 (nodupB_spec hn)
 obtain ⟨hv2,S2,s1,s2,s3,s4,hr2,s5⟩:=hr.killAll ids n2
 obtain ⟨⟨L',g1,g2⟩,g3⟩:=sealL_sound hr hv2 ks xs h f1 f2
 have hi2 : (killAll ids ob)[i]? = some (.box (.ag xs)):=by rw [killAll_keep ids ob i n1]; exact hi
 refine ⟨hv2,S2,F,hr2.write (id:=i) hi2 (by simp) (fun _ _=>rfl) rfl rfl rfl rfl (Nat.le_refl _) (by simp only [Ob.under,AV.under,g3]) ?_ (fun h=>by cases h)⟩
 refine ⟨b,e,_,L',by rw [s1]; exact k1,k2,by simp only [footA]; exact ⟨vs,rfl,g1⟩,fun b hb=>?_⟩
 rcases g2 b hb with hb | ⟨j,hj,o,ho,hd,hb⟩
 ·exact s3 b hb
 ·exact s4 j hj o ho hd b hb
theorem rdLeft (b:List UInt8) (p:Nat) (hb:b.length≤1000) (hp:p≤b.length) : ConM P0 151 [.rf 0 0] [rdO b p] (.t (.i .i64 ((b.length - p : Nat) : Int))) [rdO b p]:=by
 refine ConM.intro (fn:=Tryz.f151) [.tmp 2] (fun i=>if i=1 then (11,[]) else (0,[])) mixed (by kernel_rfl) rfl (by decide) rfl (by rfl) (by kernel_rfl) ?_
 simp -implicitDefEqProofs (maxSteps:=2000000) only [push_cast,zA,zB,zC,zD,zE,zF,zG,↓reduceIte,reduceCtorEq,eU8]
 intro _
 have:=Bd.lo
 refine ⟨by unfold inI64; omega,by rw [show ((b.length - p : Nat) : Int)=(b.length : Int) - p by omega],Rest.of [some 0] rfl rfl (by simp only [push_cast,zA,zB,zC,zD,zE,zF,zG,↓reduceIte,reduceCtorEq]<;>rfl)⟩
abbrev grO (l:List Grant) : Ob:=.arr 138 2 (.own (.ag [.leaf,.leaf])) (l.map eGrant)
theorem l1DrawGrants (b:List UInt8) (p:Nat) (hB:Bd.B≤2147483648) (hb:b.length≤1000) (hp:p≤b.length) : ConM P0 206 [.rf 0 0] [rdO b p] (.sr 1) [rdO b (grL b p).2,grO (grL b p).1]:=by
 refine ConM.intro (fn:=Tryz.f206) [.tmp 2] (fun _=>(0,[])) mixed (by kernel_rfl) rfl (by decide) rfl (by rfl) (by kernel_rfl) ?_
 simp -implicitDefEqProofs (maxSteps:=2000000) only [push_cast,zA,zB,zC,zD,zE,zF,zG,↓reduceIte,reduceCtorEq]
 have:=Bd.lo
 have hhi:=Bd.hi
 refine Callx.hand [0] (rdNext b p hb hp) (by decide) (by simp only [push_cast,zA,zB,zC,zD,zE,zF,zG,↓reduceIte,reduceCtorEq]) rfl rfl (by simp only [push_cast,zA,zB,zC,zD,zE,zF,zG,↓reduceIte,reduceCtorEq]<;>rfl) rfl (.inr ⟨rfl,by simp only [push_cast,zA,zB,zC,zD,zE,zF,zG,↓reduceIte,reduceCtorEq]⟩) ?_
 simp -implicitDefEqProofs (maxSteps:=2000000) only [push_cast,zA,zB,zC,zD,zE,zF,zG,↓reduceIte,reduceCtorEq]
 refine ⟨rfl,by omega,rfl,by omega,?_⟩
 refine Callx.hand [0] (rdNext b (np b p) hb (np_le hp)) (by decide) (by simp only [push_cast,zA,zB,zC,zD,zE,zF,zG,↓reduceIte,reduceCtorEq]) rfl rfl (by simp only [push_cast,zA,zB,zC,zD,zE,zF,zG,↓reduceIte,reduceCtorEq]<;>rfl) rfl (.inr ⟨rfl,by simp only [push_cast,zA,zB,zC,zD,zE,zF,zG,↓reduceIte,reduceCtorEq]⟩) ?_
 simp -implicitDefEqProofs (maxSteps:=2000000) only [push_cast,zA,zB,zC,zD,zE,zF,zG,↓reduceIte,reduceCtorEq]
 have hk:=nx_lt (b:=b) (p:=p)
 have hk2:=nx_lt (b:=b) (p:=np b p)
 have hq:=np_le (np_le hp)
 have hL : grL b p=grTo b (np b (np b p)) (nx b p) (nx b p + 256 * nx b (np b p)) 11:=rfl
 rw [hL]
 generalize np b (np b p)=q at *
 generalize nx b (np b p)=k2 at *
 generalize nx b p=k at *
 have hm : ((k:Int) + 256 * k2)=((k + 256 * k2 : Nat) : Int):=by omega
 rw [hm]
 generalize hM : k + 256 * k2=m at *
 refine ⟨by unfold inI64; omega,by unfold inI64; omega,?_⟩
 refine WL.loop (ι:=Nat) (D:=(fun _=>(0,[]))) (fun i=>i≤11) (fun i=>⟨64,[(0,.rf 0 0),(3,.t (.i .i64 k)),(4,.sr 1),(5,.sr 2),(6,.t (.i .i64 m)),(7,.t (.i .i64 i))],[rdO b (grTo b q k m i).2,.arr 9 1 (.own .leaf) (gName.map T.s),grO (grTo b q k m i).1]⟩) (fun i=>11 - i) mixed (by kernel_rfl) 0 (by omega) (Keep.wk (ids:=[some 0,some 1,some 2]) ?_) ?_
 ·simp only [push_cast,zA,zB,zC,zD,zE,zF,zG,↓reduceIte,reduceCtorEq,grTo,gName,List.map_cons,List.map_nil]<;>trivial
 intro i hi
 have hpi:=grTo_p (k:=k) (m:=m) hq (i:=i)
 have hli:=grTo_len (b:=b) (p:=q) (k:=k) (m:=m) (i:=i)
 simp -implicitDefEqProofs (maxSteps:=2000000) only [push_cast,zA,zB,zC,zD,zE,zF,zG,↓reduceIte,reduceCtorEq]
 intro _
 have hgl : gName.length=11:=rfl
 have hbit : ((m:Int) / 2 ^ ((i:Int)).toNat % 2=1) ↔ m / 2 ^ i % 2=1:=by
  rw [Int.toNat_natCast,show (m:Int) / 2 ^ i=((m / 2 ^ i : Nat) : Int) by rw [Int.natCast_ediv]; simp]
  omega
 have hnn : 0≤(m:Int) / 2 ^ ((i:Int)).toNat:=Int.ediv_nonneg (by omega) (Int.pow_nonneg (by omega))
 have more : m / 2 ^ i % 2=1 ∨ (i=7∧0 < k % 4)→grTo b q k m (i + 1)=((grTo b q k m i).1 ++ [⟨(gName[i]?).getD [],gLevel i (nx b (grTo b q k m i).2)⟩],np b (grTo b q k m i).2):=fun h=>if_pos h
 refine iteI (fun h=>⟨by omega,by omega,hnn,by omega,iteI (fun h1=>?_) (fun h1=>iteI (fun h2=>⟨by omega,by omega,iteI (fun h3=>?_) (fun h3=>?_)⟩) (fun h2=>?_))⟩) (fun h=>?_)
 iterate 2
  focus
   have hd : grTo b q k m (i + 1)=((grTo b q k m i).1 ++ [⟨(gName[i]?).getD [],gLevel i (nx b (grTo b q k m i).2)⟩],np b (grTo b q k m i).2):=more (by rw [hbit] at h1; omega)
   refine Callx.hand [0] (rdNext b (grTo b q k m i).2 hb hpi) (by decide) (by simp only [push_cast,zA,zB,zC,zD,zE,zF,zG,↓reduceIte,reduceCtorEq]) rfl rfl (by simp only [push_cast,zA,zB,zC,zD,zE,zF,zG,↓reduceIte,reduceCtorEq]<;>rfl) rfl (.inr ⟨rfl,by simp only [push_cast,zA,zB,zC,zD,zE,zF,zG,↓reduceIte,reduceCtorEq]⟩) ?_
   simp -implicitDefEqProofs (maxSteps:=2000000) only [push_cast,zA,zB,zC,zD,zE,zF,zG,↓reduceIte,reduceCtorEq]
   have hv:=nx_lt (b:=b) (p:=(grTo b q k m i).2)
   generalize nx b (grTo b q k m i).2=v at *
   refine ⟨by omega,by omega,by unfold inI64; omega,by omega,by omega,by unfold inI64; omega,by unfold inI64; omega,?_⟩
   have fin : ∀ (lv:Int) (a:List UInt8),gName[i]? = some a→lv=(gLevel i v:Nat)→(List.map eGrant (grTo b q k m i).1 ++ [T.ag [T.s a,T.i .i64 lv]])=(grTo b q k m (i + 1)).1.map eGrant:=fun lv a ha hl=>by
    rw [hd,ha,List.map_append,hl]; rfl
   have fin2 : np b (grTo b q k m i).2=(grTo b q k m (i + 1)).2:=by rw [hd]
   refine iteI (fun h7=>⟨by omega,by omega,iteI (fun h8=>?_) (fun h8=>?_)⟩) (fun h7=>?_)
   iterate 3
    focus
     refine ⟨by omega,by omega,fun a ha=>⟨rfl,by omega,rfl,by omega,by omega,by unfold inI64; omega,i + 1,by omega,by omega,Keep.wk (ids:=[some 0,some 1,some 4]) ?_⟩⟩
     rw [Int.toNat_natCast] at ha
     have f:=fun lv=>fin lv a ha
     simp only [push_cast,zA,zB,zC,zD,zE,zF,zG,↓reduceIte,reduceCtorEq,← fin2]
     refine ⟨rfl,(f _ ?_).symm⟩
     unfold gLevel
     split<;>omega
 ·refine ⟨by unfold inI64; omega,i + 1,by omega,by omega,Keep.wk (ids:=[some 0,some 1,some 2]) ?_⟩
  rw [show grTo b q k m (i + 1)=grTo b q k m i from if_neg (by rw [hbit] at h1; omega)]
  simp only [push_cast,zA,zB,zC,zD,zE,zF,zG,↓reduceIte,reduceCtorEq]<;>rfl
 ·refine ⟨by unfold inI64; omega,i + 1,by omega,by omega,Keep.wk (ids:=[some 0,some 1,some 2]) ?_⟩
  rw [show grTo b q k m (i + 1)=grTo b q k m i from if_neg (by rw [hbit] at h1; omega)]
  simp only [push_cast,zA,zB,zC,zD,zE,zF,zG,↓reduceIte,reduceCtorEq]<;>rfl
 ·have hi : i=11:=by omega
  subst hi
  exact Close.of [some 0,some 2] rfl rfl rfl (by simp only [push_cast,zA,zB,zC,zD,zE,zF,zG,↓reduceIte,reduceCtorEq]<;>rfl) (by simp only [push_cast,zA,zB,zC,zD,zE,zF,zG,↓reduceIte,reduceCtorEq]<;>rfl)
abbrev zEv : AV:=.ag [.t (.s []),.t (.s []),.t (.s []),.t (.b false),.t (.s []),.t (.i .i64 0),.ns,.ns,.t (.s []),.ns]
def sTopic : List UInt8:=[116,111,112,105,99]
def sMsg : List UInt8:=[109,115,103]
def contE (b:List UInt8) (p:Nat) (e:Event) : Event × Nat :=
 if nx b p % 8 < 3 then
  if 0 < nx b p % 8 ∨ 128≤nx b p then ({ e with isState:=true,typ:=sMember,key:=userT (nx b p / 8),value:=([sJoin,sInvite,sLeave,sBan][nx b p / 32 % 4]?).getD [] },np b p)
  else ({ e with isState:=true,typ:=sMember,key:=e.sender,value:=sJoin },np b p)
 else if nx b p % 8=3 then ({ e with isState:=true,typ:=sPower,grants:=(grL b (np b p)).1 },(grL b (np b p)).2)
 else if nx b p % 8=4 then ({ e with isState:=true,typ:=sRules,value:=([sPublic,sInvite][nx b p / 8 % 2]?).getD [] },np b p)
 else if nx b p % 8 < 7 then ({ e with isState:=true,typ:=sTopic,key:=if nx b p % 16=5 then userT (nx b p / 16) else e.key,value:=116 :: decT (nx b p / 16) },np b p)
 else ({ e with isState:=false,typ:=sMsg },np b p)
abbrev evN (e:Event) : AV:=.ag [.t (.s e.id),.t (.s e.sender),.t (.s e.typ),.t (.b e.isState),.t (.s e.key),.t (.i .i64 e.time),.t (eStringS e.prev),.ns,.t (.s e.value),.t (eGrantS e.grants)]
abbrev keep7 : List Bool:=[false,false,false,false,false,false,false,true,false,false]
theorem l1DrawContent (b:List UInt8) (p:Nat) (e:Event) (hB:Bd.B≤2147483648) (hb:b.length≤1000) (hp:p≤b.length) : ConM P0 155 [.rf 0 0,evN e] [rdO b p] (evN (contE b p e).1) [rdO b (contE b p e).2]:=by
 refine ConM.intro (fn:=Tryz.f155) [.cell 4 42] (fun i=>if i=14 then (999999,[]) else (0,[])) mixed (by kernel_rfl) rfl (by decide) rfl (by rfl) (by kernel_rfl) ?_
 simp -implicitDefEqProofs (maxSteps:=2000000) only [push_cast,zA,zB,zC,zD,zE,zF,zG,↓reduceIte,reduceCtorEq,eEvent]
 have:=Bd.lo
 have hhi:=Bd.hi
 refine Callx.hand [0] (rdNext b p hb hp) (by decide) (by simp only [push_cast,zA,zB,zC,zD,zE,zF,zG,↓reduceIte,reduceCtorEq]) rfl rfl (by simp only [push_cast,zA,zB,zC,zD,zE,zF,zG,↓reduceIte,reduceCtorEq]<;>rfl) rfl (.inr ⟨rfl,by simp only [push_cast,zA,zB,zC,zD,zE,zF,zG,↓reduceIte,reduceCtorEq]⟩) ?_
 simp -implicitDefEqProofs (maxSteps:=2000000) only [push_cast,zA,zB,zC,zD,zE,zF,zG,↓reduceIte,reduceCtorEq,eEvent]
 have hk:=nx_lt (b:=b) (p:=p)
 have hq:=np_le hp
 have hc : contE b p e=contE b p e:=rfl
 conv at hc=>rhs; unfold contE
 generalize nx b p=k at *
 have e8 : (k:Int) / 8=((k / 8 : Nat) : Int):=by omega
 have e16 : (k:Int) / 16=((k / 16 : Nat) : Int):=by omega
 have h64 : inI64 (k:Int):=by unfold inI64; omega
 refine ⟨by omega,by omega,iteI (fun h1=>⟨by omega,by omega,iteI (fun h2=>⟨by omega,by omega,h64,?_⟩) (fun h2=>iteI (fun h3=>⟨by omega,by omega,h64,?_⟩) (fun h3=>?_))⟩) (fun h1=>⟨by omega,by omega,iteI (fun h4=>?_) (fun h4=>⟨by omega,by omega,iteI (fun h5=>?_) (fun h5=>⟨by omega,by omega,iteI (fun h6=>⟨by omega,by omega,iteI (fun h7=>⟨by omega,by omega,h64,?_⟩) (fun h7=>⟨by omega,by omega,h64,?_⟩)⟩) (fun h6=>?_)⟩)⟩)⟩)⟩
 iterate 2
  focus
   rw [if_pos (by omega),if_pos (by omega)] at hc
   rw [hc,e8]
   refine Callx.closed (l1User (k / 8) (by omega)) rfl rfl (.inl rfl) ?_
   simp -implicitDefEqProofs (maxSteps:=2000000) only [push_cast,zA,zB,zC,zD,zE,zF,zG,↓reduceIte,reduceCtorEq,eEvent]
   have e32 : (k:Int) / 32=((k / 32 : Nat) : Int):=by omega
   have e4 : ((k:Int) / 32 % 4).toNat=k / 32 % 4:=by omega
   rw [e4]
   refine ⟨rfl,by omega,by omega,by omega,h64,by omega,by omega,by omega,by omega,fun y hy=>?_⟩
   have hy : y = .s (([sJoin,sInvite,sLeave,sBan][k / 32 % 4]?).getD []):=by
    have h4 : k / 32 % 4=0 ∨ k / 32 % 4=1 ∨ k / 32 % 4=2 ∨ k / 32 % 4=3:=by omega
    rcases h4 with h | h | h | h<;>rw [h] at hy ⊢ <;> (cases hy; rfl)
   subst hy
   generalize ([sJoin,sInvite,sLeave,sBan][k / 32 % 4]?).getD []=v
   simp -implicitDefEqProofs (maxSteps:=2000000) only [push_cast,zA,zB,zC,zD,zE,zF,zG,↓reduceIte,reduceCtorEq,eEvent]
   exact Close.of [some 0] rfl rfl rfl (by simp only [push_cast,zA,zB,zC,zD,zE,zF,zG,↓reduceIte,reduceCtorEq]<;>first | rfl | trivial) (by simp only [push_cast,zA,zB,zC,zD,zE,zF,zG,↓reduceIte,reduceCtorEq]<;>first | rfl | exact ⟨rfl,rfl⟩)
 ·rw [if_pos (by omega),if_neg (by omega)] at hc
  rw [hc]
  exact Close.of [some 0] rfl rfl rfl (by simp only [push_cast,zA,zB,zC,zD,zE,zF,zG,↓reduceIte,reduceCtorEq]<;>first | rfl | trivial) (by simp only [push_cast,zA,zB,zC,zD,zE,zF,zG,↓reduceIte,reduceCtorEq]<;>first | rfl | exact ⟨rfl,rfl⟩)
 ·rw [if_neg (by omega),if_pos (by omega)] at hc
  rw [hc]
  refine Callx.hand [0] (l1DrawGrants b (np b p) hB hb hq) (by decide) (by simp only [push_cast,zA,zB,zC,zD,zE,zF,zG,↓reduceIte,reduceCtorEq]) rfl rfl (by simp only [push_cast,zA,zB,zC,zD,zE,zF,zG,↓reduceIte,reduceCtorEq]<;>rfl) rfl (.inr ⟨rfl,by simp only [push_cast,zA,zB,zC,zD,zE,zF,zG,↓reduceIte,reduceCtorEq]⟩) ?_
  simp -implicitDefEqProofs (maxSteps:=2000000) only [push_cast,zA,zB,zC,zD,zE,zF,zG,↓reduceIte,reduceCtorEq,eEvent]
  refine W.cut (ι:=Unit) (D:=(fun _=>(0,[]))) (fun _=>True) (fun _=>⟨76,[(3,.rf 1 0),(4,.rf 2 0)],[rdO b (grL b (np b p)).2,.box (evN { e with isState:=true,typ:=sPower,grants:=(grL b (np b p)).1 }),.box zEv]⟩) mixed (by kernel_rfl) () trivial (Wk.trans (Wk.sealBoxP 1 keep7 (ids:=[3]) (by simp only [push_cast,zA,zB,zC,zD,zE,zF,zG,↓reduceIte,reduceCtorEq,boxSeal,sealL]<;>rfl) rfl) (Keep.wk (ids:=[some 0,some 1,some 2]) ?_)) (fun _ _=>?_)
  ·simp only [push_cast,zA,zB,zC,zD,zE,zF,zG,↓reduceIte,reduceCtorEq,killAll,zEv]<;>trivial
  simp -implicitDefEqProofs (maxSteps:=2000000) only [push_cast,zA,zB,zC,zD,zE,zF,zG,↓reduceIte,reduceCtorEq,eEvent]
  exact Close.of [some 0] rfl rfl rfl (by simp only [push_cast,zA,zB,zC,zD,zE,zF,zG,↓reduceIte,reduceCtorEq]<;>first | rfl | trivial) (by simp only [push_cast,zA,zB,zC,zD,zE,zF,zG,↓reduceIte,reduceCtorEq]<;>first | rfl | exact ⟨rfl,rfl⟩)
 ·rw [if_neg (by omega),if_neg (by omega),if_pos (by omega)] at hc
  rw [hc]
  have e2 : ((k:Int) / 8 % 2).toNat=k / 8 % 2:=by omega
  rw [e2]
  refine ⟨rfl,by omega,by omega,by omega,h64,by omega,by omega,by omega,by omega,fun y hy=>?_⟩
  have hy : y = .s (([sPublic,sInvite][k / 8 % 2]?).getD []):=by
   have h4 : k / 8 % 2=0 ∨ k / 8 % 2=1:=by omega
   rcases h4 with h | h<;>rw [h] at hy ⊢ <;> (cases hy; rfl)
  subst hy
  generalize ([sPublic,sInvite][k / 8 % 2]?).getD []=v
  simp -implicitDefEqProofs (maxSteps:=2000000) only [push_cast,zA,zB,zC,zD,zE,zF,zG,↓reduceIte,reduceCtorEq,eEvent]
  exact Close.of [some 0] rfl rfl rfl (by simp only [push_cast,zA,zB,zC,zD,zE,zF,zG,↓reduceIte,reduceCtorEq]<;>first | rfl | trivial) (by simp only [push_cast,zA,zB,zC,zD,zE,zF,zG,↓reduceIte,reduceCtorEq]<;>first | rfl | exact ⟨rfl,rfl⟩)
 ·rw [if_neg (by omega),if_neg (by omega),if_neg (by omega),if_pos (by omega),if_pos (by omega)] at hc
  rw [hc]
  rw [e16]
  refine Callx.closed (l1User (k / 16) (by omega)) rfl rfl (.inl rfl) ?_
  simp -implicitDefEqProofs (maxSteps:=2000000) only [push_cast,zA,zB,zC,zD,zE,zF,zG,↓reduceIte,reduceCtorEq,eEvent]
  rw [e16]
  refine ⟨by omega,by omega,h64,Callx.closed (l1Dec (k / 16) (by omega)) rfl rfl (.inl rfl) ?_⟩
  simp -implicitDefEqProofs (maxSteps:=2000000) only [push_cast,zA,zB,zC,zD,zE,zF,zG,↓reduceIte,reduceCtorEq,eEvent]
  have hl:=decT_len (k / 16) 15 (by omega)
  refine ⟨by omega,?_⟩
  exact Close.of [some 0] rfl rfl rfl (by simp only [push_cast,zA,zB,zC,zD,zE,zF,zG,↓reduceIte,reduceCtorEq]<;>first | rfl | trivial) (by simp only [push_cast,zA,zB,zC,zD,zE,zF,zG,↓reduceIte,reduceCtorEq]<;>first | rfl | exact ⟨rfl,rfl⟩)
 ·rw [if_neg (by omega),if_neg (by omega),if_neg (by omega),if_pos (by omega),if_neg (by omega)] at hc
  rw [hc]
  rw [e16]
  refine Callx.closed (l1Dec (k / 16) (by omega)) rfl rfl (.inl rfl) ?_
  simp -implicitDefEqProofs (maxSteps:=2000000) only [push_cast,zA,zB,zC,zD,zE,zF,zG,↓reduceIte,reduceCtorEq,eEvent]
  have hl:=decT_len (k / 16) 15 (by omega)
  refine ⟨by omega,?_⟩
  exact Close.of [some 0] rfl rfl rfl (by simp only [push_cast,zA,zB,zC,zD,zE,zF,zG,↓reduceIte,reduceCtorEq]<;>first | rfl | trivial) (by simp only [push_cast,zA,zB,zC,zD,zE,zF,zG,↓reduceIte,reduceCtorEq]<;>first | rfl | exact ⟨rfl,rfl⟩)
 ·rw [if_neg (by omega),if_neg (by omega),if_neg (by omega),if_neg (by omega)] at hc
  rw [hc]
  exact Close.of [some 0] rfl rfl rfl (by simp only [push_cast,zA,zB,zC,zD,zE,zF,zG,↓reduceIte,reduceCtorEq]<;>first | rfl | trivial) (by simp only [push_cast,zA,zB,zC,zD,zE,zF,zG,↓reduceIte,reduceCtorEq]<;>first | rfl | exact ⟨rfl,rfl⟩)
end Go.Proofs.YtmgdkkhnjkepiaaGreat.BX
namespace Go.Proofs.YtmgdkkhnjkepiaaGreat.BX
open Nat renaming reduceEqDiff → zA, reduceLT → zB, reduceLeDiff → zC, reduceAdd → zD, reduceMul → zE, reduceSub → zF, reduceBEq → zG
set_option linter.unusedSectionVars false
set_option linter.unusedSimpArgs false
set_option linter.unusedVariables false
open Go Go.RowKit
set_option maxRecDepth 20000
set_option maxHeartbeats 400000
def prevSS (es:List Event) (after:List (List Entry)) (prev:List (List UInt8)) : List (List Entry):=prev.filterMap fun x=>(posOf x es).bind fun k=>after[k]?
noncomputable def befL (es:List Event) (after:List (List Entry)) (e:Event) : List Entry:=resL es (prevSS es after e.prev)
noncomputable def putE (es:List Event) (s:List Entry) (e:Event) : List Entry:=if e.isState=true∧allowC es s e=0 then setL s ⟨e.typ,e.key,e.id⟩ false else s
noncomputable def aftL (es:List Event) (after:List (List Entry)) (e:Event) : List Entry:=putE es (befL es after e) e
def Has (es:List Event) (after:List (List Entry)) (prev:List (List UInt8)) : Prop:=prev.length≤10∧∀ x∈prev,∃ k s,posOf x es=some k∧after[k]? = some s∧Fit es s
theorem prevSS_snoc {es:List Event} {after:List (List Entry)} {prev:List (List UInt8)} {i k:Nat} {x:List UInt8} {s:List Entry} (h:prev[i]? = some x) (hp:posOf x es=some k) (hs:after[k]? = some s) : prevSS es after (prev.take (i + 1))=prevSS es after (prev.take i) ++ [s]:=by
 unfold prevSS
 rw [List.take_add_one,h,List.filterMap_append]
 simp [hp,hs]
theorem Has.fits {es:List Event} {after:List (List Entry)} {prev:List (List UInt8)} (h:Has es after prev) : Fits es (prevSS es after prev):=by
 refine ⟨?_,fun s hs=>?_⟩
 ·have:=List.length_filterMap_le (fun x=>(posOf x es).bind fun k=>after[k]?) prev
  have:=h.1
  unfold prevSS
  omega
 ·obtain ⟨x,hx,he⟩:=List.mem_filterMap.1 hs
  obtain ⟨k,s',h1,h2,h3⟩:=h.2 x hx
  rw [h1] at he
  simp only [Option.bind_some,h2,Option.some.injEq] at he
  rw [← he]; exact h3
theorem putE_fit {es:List Event} (hv:Valid es) {s:List Entry} (h:Fit es s) {i:Nat} {e:Event} (he:es[i]? = some e) : Fit es (putE es s e):=by
 unfold putE
 split
 ·rename_i hc
  exact h.set (.inr (fit_own hv he hc.1))
 ·exact h
variable [Bd]
theorem Wk.clo {N:Nat} {n:Nat} {tm:List (Nat × AV)} {ob:List Ob} (i:Nat) {e:TypeId} {m:Nat} {sh:Sh} (h:ob[i]? = some (.arr e m (.own sh) [])) : Wk N ⟨n,tm,ob⟩ ⟨n,tm,ob.set i (.arr e m .clo [])⟩:=by
 intro w0 hv S F a w hN hr
 refine ⟨hv,S,F,hr.write (id:=i) h (by simp) (fun _ _=>rfl) rfl rfl rfl rfl (Nat.le_refl _) rfl ?_ (fun h=>by cases h)⟩
 obtain ⟨vs,k1,k2,k3,k4⟩:=hr.ob i _ h
 have hl:=elsR_length k2
 have hvs : vs=[]:=List.eq_nil_of_length_eq_zero (by simpa using hl)
 subst hvs
 refine ⟨[],k1,?_,by simp,k4⟩
 simp [elsR,footTs]
theorem l7Before (es:List Event) (hv:Valid es) (after:List (List Entry)) (i:Nat) (e:Event) (he:es[i]? = some e) (hh:Has es after e.prev) (hB:Bd.B≤2147483648) : Con P0 205 [eRoom ⟨es⟩,eEntrySS after,.i .i64 i] (.sr 0) [enO (befL es after e)]:=by
 refine Con.intro (fn:=Tryz.f205) [.tmp 6] (fun i=>if i=6 then (11,[(false,0),(false,1),(false,2),(false,3),(false,4),(false,5),(false,6),(false,7),(false,8),(false,9),(true,10)]) else (0,[])) mixed (by kernel_rfl) rfl (by decide) rfl (by rfl) (by kernel_rfl) ?_
 simp -implicitDefEqProofs (maxSteps:=2000000) only [push_cast,zA,zB,zC,zD,zE,zF,zG,↓reduceIte,reduceCtorEq,eRoom,eEvent]
 have:=Bd.lo
 have hhi:=Bd.hi
 have hil:=(List.getElem?_eq_some_iff.1 he).1
 refine ⟨by omega,fun e' he'=>?_⟩
 rw [Int.toNat_natCast,he] at he'
 cases he'
 simp -implicitDefEqProofs (maxSteps:=2000000) only [push_cast,zA,zB,zC,zD,zE,zF,zG,↓reduceIte,reduceCtorEq,eRoom,eEvent]
 refine ⟨rfl,by omega,?_⟩
 have hpl:=hh.1
 refine WL.loop (ι:=Nat) (D:=(fun i=>if i=6 then (11,[(false,0),(false,1),(false,2),(false,3),(false,4),(false,5),(false,6),(false,7),(false,8),(false,9),(true,10)]) else (0,[]))) (fun n=>n≤e.prev.length) (fun n=>⟨38,[(1,.t (eEntrySS after)),(3,.rf 0 0),(7,.t (eStringS e.prev)),(8,.sr 1),(9,.t (.i .i64 n))],[.box (.t (eRoom ⟨es⟩)),.arr 38 1 .clo ((prevSS es after (e.prev.take n)).map eEntryS)]⟩) (fun n=>e.prev.length - n) mixed (by kernel_rfl) 0 (by omega) ?_ ?_
 ·refine Wk.trans (Wk.clo 1 rfl) (Keep.wk (ids:=[some 0,some 1]) ?_)
  simp only [push_cast,zA,zB,zC,zD,zE,zF,zG,↓reduceIte,reduceCtorEq,prevSS,List.take_zero,List.filterMap_nil,List.map_nil,eRoom]<;>rfl
 intro n hn
 simp -implicitDefEqProofs (maxSteps:=2000000) only [push_cast,zA,zB,zC,zD,zE,zF,zG,↓reduceIte,reduceCtorEq,eRoom,eEvent]
 intro _
 refine iteI (fun h=>⟨by omega,fun x hx=>?_⟩) (fun h=>?_)
 ·rw [Int.toNat_natCast] at hx
  obtain ⟨k,s,hp,hs,hf⟩:=hh.2 x (List.mem_of_getElem? hx)
  have cA:=l2At es x
  have hat : atI es x=k:=by unfold atI; rw [hp]
  rw [hat] at cA
  simp only [eRoom] at cA
  refine CallV.t cA (.inl rfl) ?_
  simp -implicitDefEqProofs (maxSteps:=2000000) only [push_cast,zA,zB,zC,zD,zE,zF,zG,↓reduceIte,reduceCtorEq,eRoom,eEvent]
  have hkl:=(List.getElem?_eq_some_iff.1 hs).1
  have hpn : (prevSS es after (e.prev.take n)).length≤n:=by
   have:=List.length_filterMap_le (fun x=>(posOf x es).bind fun k=>after[k]?) (e.prev.take n)
   rw [List.length_take] at this
   unfold prevSS
   omega
  refine ⟨by omega,fun s' hs'=>?_⟩
  rw [Int.toNat_natCast,hs] at hs'
  cases hs'
  refine ⟨rfl,by omega,rfl,by omega,by omega,by unfold inI64; omega,n + 1,by omega,by omega,Keep.wk (ids:=[some 0,some 3]) ?_⟩
  rw [prevSS_snoc hx hp hs]
  simp only [push_cast,zA,zB,zC,zD,zE,zF,zG,↓reduceIte,reduceCtorEq,List.map_append,List.map_cons,List.map_nil,eRoom]<;>rfl
 ·have hn : n=e.prev.length:=by omega
  subst hn
  rw [List.take_length]
  have cR:=l6Resolve es hv (prevSS es after e.prev) hh.fits hB
  simp only [eRoom] at cR
  refine Callx.closed cR rfl rfl (.inr ⟨rfl,rfl⟩) ?_
  simp -implicitDefEqProofs (maxSteps:=2000000) only [push_cast,zA,zB,zC,zD,zE,zF,zG,↓reduceIte,reduceCtorEq,eRoom,eEvent]
  exact Close.of [some 2] rfl rfl rfl (by simp only [push_cast,zA,zB,zC,zD,zE,zF,zG,↓reduceIte,reduceCtorEq]<;>rfl) (by simp only [push_cast,zA,zB,zC,zD,zE,zF,zG,↓reduceIte,reduceCtorEq,befL]<;>rfl)
theorem l7After (es:List Event) (hv:Valid es) (after:List (List Entry)) (i:Nat) (e:Event) (he:es[i]? = some e) (hh:Has es after e.prev) (hB:Bd.B≤2147483648) : Con P0 152 [eRoom ⟨es⟩,eEntrySS after,.i .i64 i] (.sr 0) [enO (aftL es after e)]:=by
 refine Con.intro (fn:=Tryz.f152) [.tmp 6] (fun _=>(0,[])) mixed (by kernel_rfl) rfl (by decide) rfl (by rfl) (by kernel_rfl) ?_
 simp -implicitDefEqProofs (maxSteps:=2000000) only [push_cast,zA,zB,zC,zD,zE,zF,zG,↓reduceIte,reduceCtorEq,eRoom,eEvent]
 have:=Bd.lo
 have hhi:=Bd.hi
 have hil:=(List.getElem?_eq_some_iff.1 he).1
 refine ⟨by omega,fun e' he'=>?_⟩
 rw [Int.toNat_natCast,he] at he'
 cases he'
 simp -implicitDefEqProofs (maxSteps:=2000000) only [push_cast,zA,zB,zC,zD,zE,zF,zG,↓reduceIte,reduceCtorEq,eRoom,eEvent]
 have cB:=l7Before es hv after i e he hh hB
 have hbf : Fit es (befL es after e):=resL_fit hv hh.fits
 have hA : aftL es after e=putE es (befL es after e) e:=rfl
 rw [hA]
 generalize befL es after e=s at *
 have cA:=l5Allowed es s e hB hv (hbf.fits hv) (hv.good he).ok
 simp only [eRoom,eEvent] at cB cA
 refine Callx.closed cB rfl rfl (.inl rfl) ?_
 simp -implicitDefEqProofs (maxSteps:=2000000) only [push_cast,zA,zB,zC,zD,zE,zF,zG,↓reduceIte,reduceCtorEq,eRoom,eEvent]
 have hsl:=hbf.len
 have hel:=hv.len
 refine iteI (fun h1=>?_) (fun h1=>?_)
 ·refine Callx.closed cA rfl rfl (.inr ⟨rfl,rfl⟩) ?_
  simp -implicitDefEqProofs (maxSteps:=2000000) only [push_cast,zA,zB,zC,zD,zE,zF,zG,↓reduceIte,reduceCtorEq,eRoom,eEvent]
  refine iteI (fun h2=>?_) (fun h2=>?_)
  ·rw [show putE es s e=setL s ⟨e.typ,e.key,e.id⟩ false from if_pos ⟨h1,h2⟩]
   have cS:=l4Set s ⟨e.typ,e.key,e.id⟩ false hB (by omega)
   simp only [eEntry] at cS
   refine Callx.closed cS rfl rfl (.inr ⟨rfl,rfl⟩) ?_
   simp -implicitDefEqProofs (maxSteps:=2000000) only [push_cast,zA,zB,zC,zD,zE,zF,zG,↓reduceIte,reduceCtorEq,eRoom,eEvent]
   exact Close.of [some 3] rfl rfl rfl (by simp only [push_cast,zA,zB,zC,zD,zE,zF,zG,↓reduceIte,reduceCtorEq]<;>rfl) (by simp only [push_cast,zA,zB,zC,zD,zE,zF,zG,↓reduceIte,reduceCtorEq]<;>rfl)
  ·rw [show putE es s e=s from if_neg fun hh=>h2 hh.2]
   exact Close.of [some 2] rfl rfl rfl (by simp only [push_cast,zA,zB,zC,zD,zE,zF,zG,↓reduceIte,reduceCtorEq]<;>rfl) (by simp only [push_cast,zA,zB,zC,zD,zE,zF,zG,↓reduceIte,reduceCtorEq]<;>rfl)
 ·rw [show putE es s e=s from if_neg fun hh=>h1 hh.1]
  exact Close.of [some 2] rfl rfl rfl (by simp only [push_cast,zA,zB,zC,zD,zE,zF,zG,↓reduceIte,reduceCtorEq]<;>rfl) (by simp only [push_cast,zA,zB,zC,zD,zE,zF,zG,↓reduceIte,reduceCtorEq]<;>rfl)
end Go.Proofs.YtmgdkkhnjkepiaaGreat.BX
namespace Go.Proofs.YtmgdkkhnjkepiaaGreat.BX
open Nat renaming reduceEqDiff → zA, reduceLT → zB, reduceLeDiff → zC, reduceAdd → zD, reduceMul → zE, reduceSub → zF, reduceBEq → zG
set_option linter.unusedSectionVars false
set_option linter.unusedSimpArgs false
set_option linter.unusedVariables false
open Go Go.RowKit
set_option maxRecDepth 20000
set_option maxHeartbeats 400000
variable [Bd]
theorem need_len {e:Event} : (needOf e).length≤5:=by
 unfold needOf
 split
 ·simp
 split
 ·simp
 have h1:=sset_len (l:=usersOf e)
 have h2 : (usersOf e).length≤2:=by unfold usersOf; split<;>simp
 have h3 : (rulesOf e).length≤1:=by unfold rulesOf; split<;>simp
 simp only [needL,List.length_append,List.length_map,List.length_cons,List.length_nil]
 omega
end Go.Proofs.YtmgdkkhnjkepiaaGreat.BX