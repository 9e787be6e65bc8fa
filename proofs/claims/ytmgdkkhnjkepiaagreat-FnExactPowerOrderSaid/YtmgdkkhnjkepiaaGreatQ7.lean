/-
  Part 7 of what LFnExactPowerOrder leans on: its texts, merged by a program (prune.py), with what it needs alone.
-/
import Derived.Test.YtmgdkkhnjkepiaaGreatQ6
import Derived.ProofKit
import Derived.Shelf.SlSortCmp.NoneTotal
import Derived.Test.YtmgdkkhnjkepiaaGreatSni
import Derived.Shelf.SlIterI.Sorted
import Derived.Shelf.SortM.Plain
import Derived.Shelf.SortM.SortNone
import Derived.Test.YtmgdkkhnjkepiaaGreatSj
namespace Go.Proofs.YtmgdkkhnjkepiaaGreat.BX
open Nat renaming reduceEqDiff → zA, reduceLT → zB, reduceLeDiff → zC, reduceAdd → zD, reduceMul → zE, reduceSub → zF, reduceBEq → zG
set_option linter.unusedSectionVars false
set_option linter.unusedSimpArgs false
set_option linter.unusedVariables false
namespace HH
open Nat renaming reduceEqDiff → zA, reduceLT → zB, reduceLeDiff → zC, reduceAdd → zD, reduceMul → zE, reduceSub → zF, reduceBEq → zG
variable (lt:Nat→Nat→Bool)
def gN (l:List Nat) (i:Nat) : Nat:=l.getD i 0
def swp (l:List Nat) (i j:Nat) : List Nat:=(l.set i (gN l j)).set j (gN l i)
theorem gN_at {l:List Nat} {i:Nat} {x:Nat} (h:l[i]? = some x) : gN l i=x:=by unfold gN; rw [List.getD_eq_getElem?_getD,h]; rfl
theorem gN_lt {l:List Nat} {i:Nat} (h:i < l.length) : l[i]? = some (gN l i):=by unfold gN; rw [List.getD_eq_getElem?_getD,List.getElem?_eq_getElem h]; rfl
theorem swp_len {l:List Nat} {i j:Nat} : (swp l i j).length=l.length:=by simp [swp]
theorem gN_set {l:List Nat} {i k x:Nat} (hi:i < l.length) : gN (l.set i x) k=if k=i then x else gN l k:=by
 unfold gN
 rw [List.getD_eq_getElem?_getD,List.getD_eq_getElem?_getD]
 by_cases h : k=i
 ·subst h; rw [if_pos rfl,List.getElem?_set_self hi]; rfl
 ·rw [if_neg h,List.getElem?_set_ne (Ne.symm h)]
theorem gN_swp {l:List Nat} {i j k:Nat} (hi:i < l.length) (hj:j < l.length) : gN (swp l i j) k=if k=j then gN l i else if k=i then gN l j else gN l k:=by
 unfold swp
 rw [gN_set (by simpa using hj),gN_set hi]
theorem swp_perm {l:List Nat} {i j:Nat} (hi:i < l.length) (hj:j < l.length) : List.Perm (swp l i j) l:=by
 rw [List.perm_iff_count]
 intro a
 unfold swp
 rw [List.count_set (by simpa using hj),List.count_set hi]
 have e1 : l[i]=gN l i:=by have:=gN_lt hi; rw [List.getElem?_eq_getElem hi] at this; exact Option.some.inj this
 have e2 : (l.set i (gN l j))[j]'(by simpa using hj)=gN l j:=by
  have h1 : gN (l.set i (gN l j)) j=gN l j:=by rw [gN_set hi]; split<;>simp_all
  have:=gN_lt (l:=l.set i (gN l j)) (i:=j) (by simpa using hj)
  rw [List.getElem?_eq_getElem (by simpa using hj),h1] at this; exact Option.some.inj this
 rw [e1,e2]
 have c1 : (if gN l i == a then 1 else 0)≤l.count a:=by
  split
  ·rename_i h
   have h : gN l i=a:=by simpa using h
   exact List.count_pos_iff.2 (h ▸ List.mem_of_getElem? (gN_lt hi))
  ·omega
 omega
def par (i:Nat) : Nat:=(i - 1) / 2
def upL (l:List Nat) (i:Nat) : List Nat:=if h : 0 < i∧lt (gN l i) (gN l (par i))=true then upL (swp l i (par i)) (par i) else l
termination_by i
decreasing_by unfold par; omega
def bst1 (l:List Nat) (i:Nat) : Nat:=if 2 * i + 1 < l.length∧lt (gN l (2 * i + 1)) (gN l i)=true then 2 * i + 1 else i
def bst (l:List Nat) (i:Nat) : Nat:=if 2 * i + 2 < l.length∧lt (gN l (2 * i + 2)) (gN l (bst1 lt l i))=true then 2 * i + 2 else bst1 lt l i
theorem bst_bd {l:List Nat} {i:Nat} : bst lt l i=i ∨ (i < bst lt l i∧bst lt l i < l.length∧par (bst lt l i)=i):=by
 unfold bst par
 by_cases h : 2 * i + 2 < l.length∧lt (gN l (2 * i + 2)) (gN l (bst1 lt l i))=true
 ·rw [if_pos h]; right; omega
 ·rw [if_neg h]
  unfold bst1
  split
  ·right; omega
  ·left; rfl
def sinkL (l:List Nat) (i:Nat) : List Nat:=if h : bst lt l i=i then l else sinkL (swp l i (bst lt l i)) (bst lt l i)
termination_by l.length - i
decreasing_by
 rw [swp_len]
 rcases bst_bd lt (l:=l) (i:=i) with h1 | h1<;>omega
theorem upL_stop {l:List Nat} {i:Nat} (h:¬ (0 < i∧lt (gN l i) (gN l (par i))=true)) : upL lt l i=l:=by unfold upL; rw [dif_neg h]
theorem upL_go {l:List Nat} {i:Nat} (h:0 < i∧lt (gN l i) (gN l (par i))=true) : upL lt l i=upL lt (swp l i (par i)) (par i):=by rw [upL,dif_pos h]
theorem sinkL_stop {l:List Nat} {i:Nat} (h:bst lt l i=i) : sinkL lt l i=l:=by unfold sinkL; rw [dif_pos h]
theorem sinkL_go {l:List Nat} {i:Nat} (h:bst lt l i≠i) : sinkL lt l i=sinkL lt (swp l i (bst lt l i)) (bst lt l i):=by rw [sinkL,dif_neg h]
structure Swo : Prop where
 irr : ∀ a,lt a a=false
 tr : ∀ {a b c},lt a b=true→lt b c=true→lt a c=true
 nt : ∀ {a b c},lt a b=false→lt b c=false→lt a c=false
variable {lt} (ho:Swo lt)
include ho
theorem Swo.as {a b:Nat} (h:lt a b=true) : lt b a=false:=by
 cases hb : lt b a with
 | false => rfl
 | true => have:=ho.tr h hb; rw [ho.irr] at this; cases this
omit ho in
def Heap (lt:Nat→Nat→Bool) (l:List Nat) : Prop:=∀ j,0 < j→j < l.length→lt (gN l j) (gN l (par j))=false
theorem Heap.min {l:List Nat} (h:Heap lt l) : ∀ j,j < l.length→lt (gN l j) (gN l 0)=false:=by
 intro j
 induction j using Nat.strongRecOn with
 | ind j ih =>
   intro hj
   by_cases h0 : j=0
   ·subst h0; exact ho.irr _
   ·exact ho.nt (h j (by omega) hj) (ih (par j) (by unfold par; omega) (by unfold par; omega))
omit ho in
def UpI (lt:Nat→Nat→Bool) (l:List Nat) (i:Nat) : Prop:=i < l.length∧(∀ j,0 < j→j < l.length→j≠i→lt (gN l j) (gN l (par j))=false)∧(∀ j,0 < j→j < l.length→par j=i→0 < i→lt (gN l j) (gN l (par i))=false)
omit ho in
def DnI (lt:Nat→Nat→Bool) (l:List Nat) (i:Nat) : Prop:=(∀ j,0 < j→j < l.length→par j≠i→lt (gN l j) (gN l (par j))=false)∧(∀ j,0 < j→j < l.length→par j=i→0 < i→lt (gN l j) (gN l (par i))=false)
theorem up_heap (l:List Nat) (i:Nat) (h:UpI lt l i) : Heap lt (upL lt l i)∧List.Perm (upL lt l i) l:=by
 induction i using Nat.strongRecOn generalizing l with
 | ind i ih =>
   obtain ⟨hi,h1,h2⟩:=h
   by_cases hc : 0 < i∧lt (gN l i) (gN l (par i))=true
   ·rw [upL_go lt hc]
    obtain ⟨hp,hl⟩:=hc
    have hpi : par i < i:=by unfold par; omega
    have hpl : par i < l.length:=by omega
    have hq : UpI lt (swp l i (par i)) (par i)→_:=fun hq=>ih (par i) hpi (swp l i (par i)) hq
    suffices hs : UpI lt (swp l i (par i)) (par i) from ⟨(hq hs).1,(hq hs).2.trans (swp_perm hi hpl)⟩
    refine ⟨by rw [swp_len]; exact hpl,fun j hj hjl hne=>?_,fun j hj hjl hpj h0=>?_⟩
    ·rw [swp_len] at hjl
     rw [gN_swp hi hpl,gN_swp hi hpl,if_neg hne]
     by_cases e1 : j=i
     ·subst e1
      rw [if_pos rfl,if_pos rfl]
      exact ho.as hl
     ·rw [if_neg e1]
      by_cases e2 : par j=par i
      ·rw [if_pos e2]
       have h3:=h1 j hj hjl e1
       rw [e2] at h3
       exact ho.nt h3 (ho.as hl)
      ·rw [if_neg e2]
       by_cases e3 : par j=i
       ·rw [if_pos e3]
        exact h2 j hj hjl e3 hp
       ·rw [if_neg e3]
        exact h1 j hj hjl e1
    ·rw [swp_len] at hjl
     have hppi : par (par i) < par i:=by unfold par at h0 ⊢; omega
     rw [gN_swp hi hpl (k:=j),if_neg (by intro e; rw [e] at hpj; omega),gN_swp hi hpl (k:=par (par i)),if_neg (show ¬ par (par i)=par i by omega),if_neg (show ¬ par (par i)=i by omega)]
     have h4:=h1 (par i) h0 (by omega) (by omega)
     by_cases e1 : j=i
     ·rw [if_pos e1]; exact h4
     ·rw [if_neg e1]
      have h3:=h1 j hj hjl e1
      rw [hpj] at h3
      exact ho.nt h3 h4
   ·rw [upL_stop lt hc]
    refine ⟨fun j hj hjl=>?_,List.Perm.refl _⟩
    by_cases e : j=i
    ·subst e
     cases hb : lt (gN l j) (gN l (par j)) with
     | false => rfl
     | true => exact absurd ⟨hj,hb⟩ hc
    ·exact h1 j hj hjl e
theorem bst_le {l:List Nat} {i:Nat} : lt (gN l i) (gN l (bst lt l i))=false∧∀ j,0 < j→j < l.length→par j=i→lt (gN l j) (gN l (bst lt l i))=false:=by
 have hb1 : lt (gN l i) (gN l (bst1 lt l i))=false∧(2 * i + 1 < l.length→lt (gN l (2 * i + 1)) (gN l (bst1 lt l i))=false):=by
  unfold bst1
  split
  ·rename_i h; exact ⟨ho.as h.2,fun _=>ho.irr _⟩
  ·rename_i h
   refine ⟨ho.irr _,fun h1=>?_⟩
   cases hb : lt (gN l (2 * i + 1)) (gN l i) with
   | false => rfl
   | true => exact absurd ⟨h1,hb⟩ h
 have hb2 : lt (gN l (bst1 lt l i)) (gN l (bst lt l i))=false∧(2 * i + 2 < l.length→lt (gN l (2 * i + 2)) (gN l (bst lt l i))=false):=by
  unfold bst
  split
  ·rename_i h; exact ⟨ho.as h.2,fun _=>ho.irr _⟩
  ·rename_i h
   refine ⟨ho.irr _,fun h1=>?_⟩
   cases hb : lt (gN l (2 * i + 2)) (gN l (bst1 lt l i)) with
   | false => rfl
   | true => exact absurd ⟨h1,hb⟩ h
 refine ⟨ho.nt hb1.1 hb2.1,fun j hj hjl hp=>?_⟩
 have : j=2 * i + 1 ∨ j=2 * i + 2:=by unfold par at hp; omega
 rcases this with rfl | rfl
 ·exact ho.nt (hb1.2 hjl) hb2.1
 ·exact hb2.2 hjl
theorem sink_heap (l:List Nat) (i:Nat) (h:DnI lt l i) (hi:i < l.length) : Heap lt (sinkL lt l i)∧List.Perm (sinkL lt l i) l:=by
 have key : ∀ n l i,l.length - i≤n→DnI lt l i→i < l.length→Heap lt (sinkL lt l i)∧List.Perm (sinkL lt l i) l:=by
  intro n
  induction n with
  | zero => intro l i hn _ hi; omega
  | succ n ih =>
    intro l i hn h hi
    obtain ⟨h1,h2⟩:=h
    obtain ⟨b1,b2⟩:=bst_le ho (l:=l) (i:=i)
    by_cases hb : bst lt l i=i
    ·rw [sinkL_stop lt hb]
     refine ⟨fun j hj hjl=>?_,List.Perm.refl _⟩
     by_cases e : par j=i
     ·have:=b2 j hj hjl e
      rw [hb] at this
      rw [e]; exact this
     ·exact h1 j hj hjl e
    ·rw [sinkL_go lt hb]
     obtain ⟨c1,c2,c3⟩:=(bst_bd lt (l:=l) (i:=i)).resolve_left hb
     generalize bst lt l i=b at *
     have hq:=ih (swp l i b) b (by rw [swp_len]; omega)
     suffices hs : DnI lt (swp l i b) b from ⟨(hq hs (by rw [swp_len]; exact c2)).1,(hq hs (by rw [swp_len]; exact c2)).2.trans (swp_perm hi c2)⟩
     refine ⟨fun j hj hjl hne=>?_,fun j hj hjl hpj h0=>?_⟩
     ·rw [swp_len] at hjl
      rw [gN_swp hi c2,gN_swp hi c2,if_neg hne]
      by_cases e1 : j=b
      ·rw [if_pos e1,e1,if_pos c3]
       exact b1
      ·rw [if_neg e1]
       by_cases e2 : j=i
       ·subst e2
        rw [if_pos rfl,if_neg (by unfold par; omega)]
        exact h2 b (by omega) c2 c3 hj
       ·rw [if_neg e2]
        by_cases e3 : par j=i
        ·rw [if_pos e3]
         exact b2 j hj hjl e3
        ·rw [if_neg e3]
         exact h1 j hj hjl e3
     ·rw [swp_len] at hjl
      have hjb : b < j:=by unfold par at hpj; omega
      rw [gN_swp hi c2,gN_swp hi c2,c3,if_neg (by omega),if_neg (by omega),if_neg (by omega),if_pos rfl]
      have:=h1 j hj hjl (by omega)
      rw [hpj] at this
      exact this
 exact key _ l i (Nat.le_refl _) h hi
end HH
namespace HH
open Nat renaming reduceEqDiff → zA, reduceLT → zB, reduceLeDiff → zC, reduceAdd → zD, reduceMul → zE, reduceSub → zF, reduceBEq → zG
variable {lt:Nat→Nat→Bool}
def pushL (lt:Nat→Nat→Bool) (l:List Nat) (x:Nat) : List Nat:=upL lt (l ++ [x]) l.length
def popM (l:List Nat) : List Nat:=(l.set 0 (gN l (l.length - 1))).take (l.length - 1)
def popL (lt:Nat→Nat→Bool) (l:List Nat) : List Nat:=sinkL lt (popM l) 0
theorem gN_app {l:List Nat} {x j:Nat} (h:j < l.length) : gN (l ++ [x]) j=gN l j:=by
 unfold gN
 rw [List.getD_eq_getElem?_getD,List.getD_eq_getElem?_getD,List.getElem?_append_left h]
theorem pushL_heap (ho:Swo lt) {l:List Nat} {x:Nat} (h:Heap lt l) : Heap lt (pushL lt l x)∧List.Perm (pushL lt l x) (x :: l):=by
 obtain ⟨h1,h2⟩:=up_heap ho (l ++ [x]) l.length ⟨by simp,fun j hj hjl hne=>by
  simp only [List.length_append,List.length_cons,List.length_nil] at hjl
  rw [gN_app (by omega),gN_app (by unfold par; omega)]
  exact h j hj (by omega),fun j hj hjl hp h0=>by
  simp only [List.length_append,List.length_cons,List.length_nil] at hjl
  unfold par at hp
  omega⟩
 exact ⟨h1,h2.trans (List.perm_append_comm (l₁:=l) (l₂:=[x]))⟩
theorem popM_len {l:List Nat} : (popM l).length=l.length - 1:=by unfold popM; rw [List.length_take,List.length_set]; omega
theorem popM_perm {l:List Nat} (h:l≠[]) : List.Perm (gN l 0 :: popM l) l:=by
 cases l with
 | nil => exact absurd rfl h
 | cons x t =>
   have e0 : gN (x :: t) 0=x:=rfl
   rw [e0]
   unfold popM
   simp only [List.length_cons,Nat.add_sub_cancel,List.set_cons_zero]
   refine List.Perm.cons x ?_
   cases ht : t.length with
   | zero => rw [List.length_eq_zero_iff.1 ht]; exact List.Perm.refl _
   | succ n =>
     have hne : t≠[]:=by rintro rfl; cases ht
     have hl : gN (x :: t) (n + 1)=t.getLast hne:=by
      unfold gN
      rw [List.getD_eq_getElem?_getD,List.getElem?_cons_succ,List.getLast_eq_getElem]
      have : t.length - 1=n:=by omega
      simp only [this]
      rw [List.getElem?_eq_getElem (by omega)]; rfl
     rw [hl,List.take_succ_cons]
     have hd : t.take n=t.dropLast:=by rw [List.dropLast_eq_take]; congr 1; omega
     rw [hd]
     have:=List.dropLast_concat_getLast hne
     exact (List.perm_append_singleton _ _).symm.trans (by rw [this])
theorem popL_heap (ho:Swo lt) {l:List Nat} (hne:l≠[]) (h:Heap lt l) : Heap lt (popL lt l)∧List.Perm (gN l 0 :: popL lt l) l:=by
 have hp:=popM_perm hne
 by_cases h0 : popM l=[]
 ·have : popL lt l=[]:=by unfold popL; rw [h0,sinkL_stop lt]; unfold bst bst1; simp
  rw [this]
  rw [h0] at hp
  exact ⟨fun j _ hj=>by simp at hj,hp⟩
 ·have hl:=popM_len (l:=l)
  have hl0 : 0 < (popM l).length:=List.length_pos_iff.2 h0
  have hg : ∀ j,0 < j→j < (popM l).length→gN (popM l) j=gN l j:=fun j hj hjl=>by
   unfold popM gN
   rw [List.getD_eq_getElem?_getD,List.getElem?_take_of_lt (by omega),List.getElem?_set_ne (by omega),List.getD_eq_getElem?_getD]
  obtain ⟨h1,h2⟩:=sink_heap ho (popM l) 0 ⟨fun j hj hjl hpj=>by
   rw [hg j hj hjl,hg (par j) (by omega) (by unfold par; omega)]
   exact h j hj (by omega),fun j _ _ _ h=>by omega⟩ hl0
  exact ⟨h1,(h2.cons _).trans hp⟩
end HH
end Go.Proofs.YtmgdkkhnjkepiaaGreat.BX
namespace Go.Proofs.YtmgdkkhnjkepiaaGreat.BX
open Nat renaming reduceEqDiff → zA, reduceLT → zB, reduceLeDiff → zC, reduceAdd → zD, reduceMul → zE, reduceSub → zF, reduceBEq → zG
set_option linter.unusedSectionVars false
set_option linter.unusedSimpArgs false
set_option linter.unusedVariables false
open Go Go.RowKit
set_option maxRecDepth 20000
set_option maxHeartbeats 400000
open HH
def idP (es:List Event) (p:Nat) : List UInt8:=match es[p]? with
 | some e => e.id
 | none => []
def posN (es:List Event) (a:List UInt8) : Nat:=(posOf a es).getD 0
def aP (es:List Event) (p:Nat) : List Nat:=match es[p]? with
 | some e => e.auth.map (posN es)
 | none => []
def ltP (es:List Event) (a b:Nat) : Bool:=psn es (idP es a) (idP es b)
theorem ltP_swo (es:List Event) : Swo (ltP es) where
 irr a:=(psn_tot es).irr _
 tr h1 h2:=(psn_tot es).trans _ _ _ h1 h2
 nt {a b c} h1 h2:=by
  unfold ltP at *
  have ht:=psn_tot es
  cases hc : psn es (idP es a) (idP es c) with
  | false => rfl
  | true =>
    by_cases e1 : idP es a=idP es b
    ·rw [e1] at hc; rw [hc] at h2; exact h2
    ·have h3:=ht.flip h1 e1
     have:=ht.trans _ _ _ h3 hc
     rw [this] at h2; exact h2
def unc (es:List Event) (K out:List Nat) (p:Nat) : Nat:=((aP es p).filter fun q=>decide (q∈K) && decide (q ∉ out)).length
theorem idP_at {es:List Event} {p:Nat} {e:Event} (h:es[p]? = some e) : idP es p=e.id:=by unfold idP; rw [h]
theorem aP_at {es:List Event} {p:Nat} {e:Event} (h:es[p]? = some e) : aP es p=e.auth.map (posN es):=by unfold aP; rw [h]
theorem posN_at {es:List Event} {a:List UInt8} {i:Nat} (h:posOf a es=some i) : posN es a=i:=by unfold posN; rw [h]; rfl
theorem posN_there {es:List Event} {a:List UInt8} (h:There es a) : posN es a < es.length∧idP es (posN es a)=a∧posOf a es=some (posN es a):=by
 obtain ⟨k,e,h1,h2,h3⟩:=there_at h
 rw [posN_at h3,idP_at h1]
 exact ⟨posOf_lt h3,h2,h3⟩
theorem auth_nodup {e:Event} (h:evOk e=0) : e.auth.Nodup:=by
 unfold evOk at h
 split at h
 ·cases h
 unfold ev2 at h
 split at h
 ·cases h
 unfold ev3 at h
 split at h
 ·cases h
 unfold ev4 at h
 split at h
 ·cases h
 rename_i h4
 simp only [Classical.not_not] at h4
 have:=h4.2
 unfold refsB at this
 simp only [Bool.and_eq_true,decide_eq_true_eq] at this
 exact this.2.2
section
variable {es:List Event} (hv:Valid es)
include hv
theorem posN_inj {a b:List UInt8} (ha:There es a) (hb:There es b) (h:posN es a=posN es b) : a=b:=by
 rw [← (posN_there ha).2.1,← (posN_there hb).2.1,h]
theorem posN_id {p:Nat} (h:p < es.length) : posN es (idP es p)=p:=by
 have he:=List.getElem?_eq_getElem h
 rw [idP_at he]
 exact posN_at (hv.pos he)
theorem auth_there {p:Nat} {e:Event} (he:es[p]? = some e) : ∀ a∈e.auth,There es a∧posN es a < p:=fun a ha=>by
 obtain ⟨k,b,hk,_,_,hp⟩:=pos_ref ((hv.good he).auth a ha)
 exact ⟨by unfold There; rw [hp]; rfl,by rw [posN_at hp]; exact hk⟩
theorem aP_nodup {p:Nat} : (aP es p).Nodup:=by
 unfold aP
 split
 ·rename_i e he
  have hn:=auth_nodup (hv.good he).ok
  rw [List.nodup_iff_pairwise_ne,List.pairwise_map]
  refine List.Pairwise.imp_of_mem (fun {a b} ha hb hne h=>hne ?_) hn
  exact posN_inj hv (auth_there hv he a ha).1 (auth_there hv he b hb).1 h
 ·exact List.nodup_nil
end
theorem filt_one {x:Nat} {f g:Nat→Bool} (hf:f x=true) (hg:∀ y,g y=(f y && decide (y≠x))) : ∀ {l:List Nat},l.Nodup→(l.filter g).length=(l.filter f).length - (if x∈l then 1 else 0)∧(x∈l→0 < (l.filter f).length)
 | [], _ => by simp
 | y :: l, hn => by
   rw [List.nodup_cons] at hn
   obtain ⟨h1,h2⟩:=filt_one hf hg hn.2
   by_cases hy : y=x
   ·subst hy
    have h1 : (l.filter g).length=(l.filter f).length:=by rw [h1,if_neg hn.1]; omega
    have hgy : g y=false:=by rw [hg]; simp
    simp only [List.filter_cons,hgy,hf,if_true,List.length_cons,List.mem_cons,true_or,if_pos]
    simp only [Bool.false_eq_true,if_false]
    omega
   ·have hgy : g y=f y:=by rw [hg]; simp [hy]
    have hxy : x∈y :: l ↔ x∈l:=by simp [Ne.symm hy]
    simp only [List.filter_cons,hgy,hxy]
    split
    ·simp only [List.length_cons]
     refine ⟨?_,fun h=>by omega⟩
     by_cases hx : x∈l
     ·have:=h2 hx
      rw [if_pos hx] at h1 ⊢; omega
     ·rw [if_neg hx] at h1 ⊢; omega
    ·exact ⟨h1,h2⟩
theorem unc_zero {es:List Event} {K out:List Nat} {p:Nat} : unc es K out p=0 ↔ ∀ q∈aP es p,q∈K→q∈out:=by
 unfold unc
 rw [List.length_eq_zero_iff,List.filter_eq_nil_iff]
 constructor
 ·intro h q hq hK
  have:=h q hq
  simp only [Bool.and_eq_true,decide_eq_true_eq,not_and,Classical.not_not] at this
  exact this hK
 ·intro h q hq
  simp only [Bool.and_eq_true,decide_eq_true_eq,not_and,Classical.not_not]
  exact h q hq
theorem unc_next {es:List Event} (hv:Valid es) {K out:List Nat} {x p:Nat} (hx:x∈K) (hxo:x ∉ out) : unc es K (out ++ [x]) p=unc es K out p - (if x∈aP es p then 1 else 0)∧(x∈aP es p→0 < unc es K out p):=by
 unfold unc
 refine filt_one (x:=x) (by simp [hx,hxo]) (fun y=>?_) (aP_nodup hv)
 simp only [List.mem_append,List.mem_singleton,not_or,Bool.decide_and,Bool.and_assoc]
def rsF (es:List Event) (x:Nat) (ps:List Nat) : List Nat:=ps.filter fun p=>decide (x∈aP es p)
theorem rsF_mem {es:List Event} {x p:Nat} {ps:List Nat} : p∈rsF es x ps ↔ p∈ps∧x∈aP es p:=by unfold rsF; simp [List.mem_filter]
def hpI (es:List Event) (K:List Nat) (ps:List Nat) : List Nat:=ps.foldl (fun h p=>if unc es K [] p=0 then pushL (ltP es) h p else h) []
theorem hpI_snoc {es:List Event} {K ps:List Nat} {i p:Nat} (h:ps[i]? = some p) : hpI es K (ps.take (i + 1))=if unc es K [] p=0 then pushL (ltP es) (hpI es K (ps.take i)) p else hpI es K (ps.take i):=by
 unfold hpI
 rw [List.take_add_one,h,List.foldl_append]
 rfl
theorem hpI_heap {es:List Event} {K:List Nat} : ∀ {ps:List Nat} {h:List Nat},Heap (ltP es) h→(h ++ ps).Nodup→Heap (ltP es) (ps.foldl (fun h p=>if unc es K [] p=0 then pushL (ltP es) h p else h) h)∧(ps.foldl (fun h p=>if unc es K [] p=0 then pushL (ltP es) h p else h) h).Nodup ∧
 ∀ p,p∈ps.foldl (fun h p=>if unc es K [] p=0 then pushL (ltP es) h p else h) h ↔ p∈h ∨ (p∈ps∧unc es K [] p=0)
 | [], h, hh, hn => ⟨hh,by simpa using hn,by simp⟩
 | q :: ps, h, hh, hn => by
   rw [List.foldl_cons]
   by_cases hc : unc es K [] q=0
   ·rw [if_pos hc]
    obtain ⟨h1,h2⟩:=pushL_heap (ltP_swo es) (x:=q) hh
    have hn' : (pushL (ltP es) h q ++ ps).Nodup:=by
     refine ((h2.append_right ps).nodup_iff).2 ?_
     refine (List.Perm.nodup_iff ?_).1 hn
     exact List.perm_middle
    obtain ⟨a1,a2,a3⟩:=hpI_heap h1 hn'
    refine ⟨a1,a2,fun p=>?_⟩
    rw [a3 p,h2.mem_iff,List.mem_cons,List.mem_cons]
    constructor
    ·rintro ((rfl | h) | h)
     ·exact .inr ⟨.inl rfl,hc⟩
     ·exact .inl h
     ·exact .inr ⟨.inr h.1,h.2⟩
    ·rintro (h | ⟨rfl | h,h'⟩)
     ·exact .inl (.inr h)
     ·exact .inl (.inl rfl)
     ·exact .inr ⟨h,h'⟩
   ·rw [if_neg hc]
    have hn' : (h ++ ps).Nodup:=by
     have:=(List.perm_middle (a:=q) (l₁:=h) (l₂:=ps)).nodup_iff.1 hn
     exact (List.nodup_cons.1 this).2
    obtain ⟨a1,a2,a3⟩:=hpI_heap hh hn'
    refine ⟨a1,a2,fun p=>?_⟩
    rw [a3 p,List.mem_cons]
    constructor
    ·rintro (h | h)
     ·exact .inl h
     ·exact .inr ⟨.inr h.1,h.2⟩
    ·rintro (h | ⟨rfl | h,h'⟩)
     ·exact .inl h
     ·exact absurd h' hc
     ·exact .inr ⟨h,h'⟩
section
variable {es:List Event} (hv:Valid es) {list:List (List UInt8)} (hl:∀ x∈list,There es x) (hn:list.Nodup) {srt:List Nat} (hs:List.Perm srt (list.map (posN es)))
structure PI (es:List Event) (list:List (List UInt8)) (srt out h:List Nat) (c:Nat→Nat) : Prop where
 sub : ∀ x∈out,x∈srt
 nodup : out.Nodup
 closed : ∀ p∈out,∀ a∈aP es p,a∈srt→a∈out
 heap : Heap (ltP es) h
 hn : h.Nodup
 mem : ∀ p,p∈h ↔ p∈srt∧p ∉ out∧unc es srt out p=0
 cnt : ∀ p∈srt,c p=unc es srt out p
 is : out.map (idP es)=powTo es list out.length
structure PJ (es:List Event) (list:List (List UInt8)) (srt out:List Nat) (x j:Nat) (h:List Nat) (c:Nat→Nat) : Prop where
 sub : ∀ x∈out,x∈srt
 nodup : (out ++ [x]).Nodup
 closed : ∀ p∈out ++ [x],∀ a∈aP es p,a∈srt→a∈out
 xs : x∈srt
 heap : Heap (ltP es) h
 hn : h.Nodup
 mem : ∀ p,p∈h ↔ p∈srt∧p ∉ out ++ [x]∧(unc es srt out p=0 ∨ (p∈(rsF es x srt).take j∧unc es srt (out ++ [x]) p=0))
 cnt : ∀ p∈srt,c p=if p∈(rsF es x srt).take j then unc es srt (out ++ [x]) p else unc es srt out p
 is : (out ++ [x]).map (idP es)=powTo es list (out ++ [x]).length
include hv hl hn hs
theorem srt_nodup : srt.Nodup:=by
 refine hs.nodup_iff.2 ?_
 rw [List.nodup_iff_pairwise_ne,List.pairwise_map]
 exact List.Pairwise.imp_of_mem (fun {a b} ha hb hne h=>hne (posN_inj hv (hl a ha) (hl b hb) h)) hn
omit hv hn in
theorem srt_mem {p:Nat} (h:p∈srt) : p < es.length∧idP es p∈list:=by
 obtain ⟨a,ha,rfl⟩:=List.mem_map.1 (hs.mem_iff.1 h)
 obtain ⟨h1,h2,_⟩:=posN_there (hl a ha)
 exact ⟨h1,by rw [h2]; exact ha⟩
omit hn in
theorem srt_of {a:List UInt8} (ha:There es a) : posN es a∈srt ↔ a∈list:=by
 constructor
 ·intro h
  have:=(srt_mem hl hs h).2
  rwa [(posN_there ha).2.1] at this
 ·intro h
  exact hs.mem_iff.2 (List.mem_map.2 ⟨a,h,rfl⟩)
omit hn in
theorem out_mem {out:List Nat} (ho:∀ x∈out,x∈srt) {p:Nat} (hp:p < es.length) : idP es p∈out.map (idP es) ↔ p∈out:=by
 constructor
 ·intro h
  obtain ⟨q,hq,e⟩:=List.mem_map.1 h
  have h1:=posN_id hv hp
  rw [← e,posN_id hv (srt_mem hl hs (ho q hq)).1] at h1
  exact h1 ▸ hq
 ·exact fun h=>List.mem_map.2 ⟨p,h,rfl⟩
omit hn in
theorem cand_iff {out:List Nat} (ho:∀ x∈out,x∈srt) {p:Nat} (hp:p∈srt) : candB es list (out.map (idP es)) (idP es p)=true ↔ p ∉ out∧unc es srt out p=0:=by
 have hpl:=(srt_mem hl hs hp).1
 have he:=List.getElem?_eq_getElem hpl
 unfold candB
 rw [Bool.and_eq_true,decide_eq_true_eq,out_mem hv hl hs ho hpl,unc_zero]
 refine and_congr_right fun _=>?_
 have hau : authOf es (idP es p)=es[p].auth:=by rw [idP_at he]; exact authOf_at (hv.pos he) he
 unfold rdyA
 rw [hau,aP_at he,List.all_eq_true]
 constructor
 ·intro h q hq hK
  obtain ⟨a,ha,rfl⟩:=List.mem_map.1 hq
  obtain ⟨ht,_⟩:=auth_there hv he a ha
  have:=h a ha
  simp only [Bool.or_eq_true,Bool.not_eq_true',decide_eq_false_iff_not,decide_eq_true_eq] at this
  rcases this with h | h
  ·exact absurd ((srt_of hv hl hs ht).1 hK) h
  ·rw [← (posN_there ht).2.1] at h
   exact (out_mem hv hl hs ho (posN_there ht).1).1 h
 ·intro h a ha
  obtain ⟨ht,_⟩:=auth_there hv he a ha
  simp only [Bool.or_eq_true,Bool.not_eq_true',decide_eq_false_iff_not,decide_eq_true_eq]
  by_cases hm : a∈list
  ·right
   have:=h _ (List.mem_map.2 ⟨a,ha,rfl⟩) ((srt_of hv hl hs ht).2 hm)
   have:=(out_mem hv hl hs ho (posN_there ht).1).2 this
   rwa [(posN_there ht).2.1] at this
  ·exact .inl hm
theorem pi_start : PI es list srt [] (hpI es srt srt) (unc es srt []):=by
 have hnd:=srt_nodup hv hl hn hs
 obtain ⟨h1,h2,h3⟩:=hpI_heap (es:=es) (K:=srt) (ps:=srt) (h:=[]) (fun j _ hj=>by simp at hj) (by simpa using hnd)
 exact ⟨by simp,List.nodup_nil,by simp,h1,h2,fun p=>(h3 p).trans (by simp),fun _ _=>rfl,rfl⟩
theorem pi_pop {out h:List Nat} {c:Nat→Nat} (hI:PI es list srt out h c) (hne:h≠[]) : PJ es list srt out (gN h 0) 0 (popL (ltP es) h) c:=by
 obtain ⟨h1,h2⟩:=popL_heap (ltP_swo es) hne hI.heap
 have hm0 : gN h 0∈h:=List.mem_of_getElem? (gN_lt (List.length_pos_iff.2 hne))
 have hmin:=Heap.min (ltP_swo es) hI.heap
 obtain ⟨q1,q2,q3⟩:=(hI.mem _).1 hm0
 have hnd:=h2.nodup_iff.2 hI.hn
 rw [List.nodup_cons] at hnd
 have hm : ∀ p,p∈h ↔ p=gN h 0 ∨ p∈popL (ltP es) h:=fun p=>by rw [← h2.mem_iff,List.mem_cons]
 have hall : ∀ p∈h,ltP es p (gN h 0)=false:=fun p hp=>by
  obtain ⟨j,hj⟩:=List.getElem?_of_mem hp
  have:=hmin j (List.getElem?_eq_some_iff.1 hj).1
  rwa [gN_at hj] at this
 generalize gN h 0=x at *
 refine ⟨hI.sub,?_,?_,q1,h1,hnd.2,fun p=>?_,fun p hp=>?_,?_⟩
 ·rw [List.nodup_append]
  exact ⟨hI.nodup,by simp,fun a ha b hb=>by rw [List.mem_singleton.1 hb]; rintro rfl; exact q2 ha⟩
 ·intro p hp a ha has
  rcases List.mem_append.1 hp with hp | hp
  ·exact hI.closed p hp a ha has
  ·rw [List.mem_singleton.1 hp] at ha
   exact unc_zero.1 q3 a ha has
 ·rw [List.mem_append,List.mem_singleton,not_or]
  have:=hm p
  rw [hI.mem p] at this
  simp only [List.take_zero,List.not_mem_nil,false_and,or_false]
  constructor
  ·intro hp
   obtain ⟨r1,r2,r3⟩:=this.2 (.inr hp)
   exact ⟨r1,⟨r2,by rintro rfl; exact hnd.1 hp⟩,r3⟩
  ·rintro ⟨r1,⟨r2,r3⟩,r4⟩
   exact (this.1 ⟨r1,r2,r4⟩).resolve_left r3
 ·rw [List.take_zero,if_neg (by simp)]
  exact hI.cnt p hp
 ·rw [List.map_append,List.length_append,hI.is]
  show _=powTo es list (out.length + 1)
  show _=powTo es list out.length ++ [nextL es list (powTo es list out.length)]
  rw [← hI.is]
  congr 1
  simp only [List.map_cons,List.map_nil]
  congr 1
  refine (nextL_is (fun y hy=>there_ne hv (hl y hy)) (srt_mem hl hs q1).2 ((cand_iff hv hl hs hI.sub q1).2 ⟨q2,q3⟩) fun y hy hc=>?_).symm
  obtain ⟨r1,r2,_⟩:=posN_there (hl y hy)
  rw [← r2] at hc ⊢
  have hys:=(srt_of hv hl hs (hl y hy)).2 hy
  have:=(cand_iff hv hl hs hI.sub hys).1 hc
  exact hall _ ((hI.mem _).2 ⟨hys,this.1,this.2⟩)
omit hl hn hs in
theorem rs_take {x j q:Nat} (hnd:srt.Nodup) (hq:(rsF es x srt)[j]? = some q) : q ∉ (rsF es x srt).take j:=by
 have hr : (rsF es x srt).Nodup:=hnd.filter _
 intro h
 obtain ⟨i,hi⟩:=List.getElem?_of_mem h
 have hij : i < j:=by
  have:=(List.getElem?_eq_some_iff.1 hi).1
  rw [List.length_take] at this
  omega
 rw [List.getElem?_take_of_lt hij] at hi
 have h1:=(List.getElem?_eq_some_iff.1 hi)
 have h2:=(List.getElem?_eq_some_iff.1 hq)
 obtain ⟨a1,b1⟩:=h1
 obtain ⟨a2,b2⟩:=h2
 have:=(List.getElem_inj hr).1 (b1.trans b2.symm)
 omega
theorem pj_cnt {out h:List Nat} {c:Nat→Nat} {x j q:Nat} (hJ:PJ es list srt out x j h c) (hq:(rsF es x srt)[j]? = some q) : c q=unc es srt out q∧0 < c q∧unc es srt (out ++ [x]) q=c q - 1∧q∈srt:=by
 obtain ⟨hqs,hxa⟩:=rsF_mem.1 (List.mem_of_getElem? hq)
 have hc:=hJ.cnt q hqs
 rw [if_neg (rs_take hv (srt_nodup hv hl hn hs) hq)] at hc
 have hxo : x ∉ out:=fun h=>by
  have:=(List.nodup_append.1 hJ.nodup).2.2 x h x (by simp)
  exact this rfl
 obtain ⟨h1,h2⟩:=unc_next hv (out:=out) (p:=q) hJ.xs hxo
 rw [if_pos hxa] at h1
 exact ⟨hc,by rw [hc]; exact h2 hxa,by rw [h1,hc],hqs⟩
def updF (c:Nat→Nat) (q v:Nat) : Nat→Nat:=fun p=>if p=q then v else c p
theorem pj_step {out h:List Nat} {c:Nat→Nat} {x j q:Nat} (hJ:PJ es list srt out x j h c) (hq:(rsF es x srt)[j]? = some q) : PJ es list srt out x (j + 1) (if c q - 1=0 then pushL (ltP es) h q else h) (updF c q (c q - 1)):=by
 obtain ⟨hc,hc0,hcn,hqs⟩:=pj_cnt hv hl hn hs hJ hq
 have hnd:=srt_nodup hv hl hn hs
 have hqt:=rs_take hv hnd hq
 obtain ⟨_,hxa⟩:=rsF_mem.1 (List.mem_of_getElem? hq)
 have hqo : q ∉ out ++ [x]:=fun hm=>by
  have h1:=hJ.closed q hm x hxa hJ.xs
  exact (List.nodup_append.1 hJ.nodup).2.2 x h1 x (by simp) rfl
 have hqh : q ∉ h:=fun hm=>by
  obtain ⟨_,_,h3⟩:=(hJ.mem q).1 hm
  rcases h3 with h3 | h3
  ·omega
  ·exact hqt h3.1
 have htk : ∀ p,p∈(rsF es x srt).take (j + 1) ↔ p∈(rsF es x srt).take j ∨ p=q:=fun p=>by
  rw [List.take_add_one,hq]; simp
 obtain ⟨h1,h2⟩:=pushL_heap (ltP_swo es) (x:=q) hJ.heap
 refine ⟨hJ.sub,hJ.nodup,hJ.closed,hJ.xs,?_,?_,fun p=>?_,fun p hp=>?_,hJ.is⟩
 ·split
  ·exact h1
  ·exact hJ.heap
 ·split
  ·exact h2.nodup_iff.2 (List.nodup_cons.2 ⟨hqh,hJ.hn⟩)
  ·exact hJ.hn
 ·rw [htk]
  by_cases h0 : c q - 1=0
  ·rw [if_pos h0,h2.mem_iff,List.mem_cons,hJ.mem p]
   constructor
   ·rintro (rfl | ⟨a1,a2,a3⟩)
    ·exact ⟨hqs,hqo,.inr ⟨.inr rfl,by omega⟩⟩
    ·exact ⟨a1,a2,a3.imp_right fun h=>⟨.inl h.1,h.2⟩⟩
   ·rintro ⟨a1,a2,a3 | ⟨a3 | rfl,a4⟩⟩
    ·exact .inr ⟨a1,a2,.inl a3⟩
    ·exact .inr ⟨a1,a2,.inr ⟨a3,a4⟩⟩
    ·exact .inl rfl
  ·rw [if_neg h0,hJ.mem p]
   constructor
   ·rintro ⟨a1,a2,a3⟩
    exact ⟨a1,a2,a3.imp_right fun h=>⟨.inl h.1,h.2⟩⟩
   ·rintro ⟨a1,a2,a3 | ⟨a3 | rfl,a4⟩⟩
    ·exact ⟨a1,a2,.inl a3⟩
    ·exact ⟨a1,a2,.inr ⟨a3,a4⟩⟩
    ·omega
 ·unfold updF
  by_cases hpq : p=q
  ·subst hpq
   rw [if_pos rfl,if_pos ((htk p).2 (.inr rfl)),hcn]
  ·rw [if_neg hpq,hJ.cnt p hp]
   simp only [htk,hpq,or_false]
theorem pj_end {out h:List Nat} {c:Nat→Nat} {x:Nat} (hJ:PJ es list srt out x (rsF es x srt).length h c) : PI es list srt (out ++ [x]) h c:=by
 have hxo : x ∉ out:=fun h=>(List.nodup_append.1 hJ.nodup).2.2 x h x (by simp) rfl
 have hun : ∀ p,unc es srt (out ++ [x]) p=unc es srt out p - (if x∈aP es p then 1 else 0)∧(x∈aP es p→0 < unc es srt out p):=fun p=>unc_next hv hJ.xs hxo
 refine ⟨fun y hy=>?_,hJ.nodup,fun p hp a ha has=>List.mem_append_left _ (hJ.closed p hp a ha has),hJ.heap,hJ.hn,fun p=>?_,fun p hp=>?_,hJ.is⟩
 ·rcases List.mem_append.1 hy with hy | hy
  ·exact hJ.sub y hy
  ·rw [List.mem_singleton.1 hy]; exact hJ.xs
 ·rw [hJ.mem p,List.take_length,rsF_mem]
  refine and_congr_right fun hp=>and_congr_right fun _=>?_
  obtain ⟨h1,h2⟩:=hun p
  by_cases hx : x∈aP es p
  ·have:=h2 hx
   constructor
   ·rintro (h | h)
    ·omega
    ·exact h.2
   ·exact fun h=>.inr ⟨⟨hp,hx⟩,h⟩
  ·rw [if_neg hx] at h1
   constructor
   ·rintro (h | h)
    ·omega
    ·exact h.2
   ·intro h; left; omega
 ·rw [hJ.cnt p hp,List.take_length]
  split
  ·rfl
  ·rename_i hx
   rw [(hun p).1,if_neg (fun h=>hx (rsF_mem.2 ⟨hp,h⟩))]
   omega
theorem pi_end {out:List Nat} {c:Nat→Nat} (hI:PI es list srt out [] c) : out.map (idP es)=powTo es list list.length:=by
 have hall : ∀ y∈list,y∈out.map (idP es):=fun y hy=>Classical.byContradiction fun hc=>by
  obtain ⟨x,hx,hcx⟩:=cand_ex hv hl hy hc
  obtain ⟨r1,r2,_⟩:=posN_there (hl x hx)
  have hxs:=(srt_of hv hl hs (hl x hx)).2 hx
  rw [← r2] at hcx
  obtain ⟨a1,a2⟩:=(cand_iff hv hl hs hI.sub hxs).1 hcx
  have:=(hI.mem _).2 ⟨hxs,a1,a2⟩
  cases this
 have h1:=len_sub hn hall
 have h2 : out.length≤srt.length:=len_sub hI.nodup hI.sub
 have h3 : srt.length=list.length:=by rw [hs.length_eq,List.length_map]
 rw [List.length_map] at h1
 have : out.length=list.length:=by omega
 rw [hI.is,this]
theorem pi_len {out h:List Nat} {c:Nat→Nat} (hI:PI es list srt out h c) : out.length + h.length≤list.length:=by
 have hnd : (out ++ h).Nodup:=by
  rw [List.nodup_append]
  exact ⟨hI.nodup,hI.hn,fun a ha b hb=>by rintro rfl; exact ((hI.mem a).1 hb).2.1 ha⟩
 have:=len_sub (m:=srt) hnd fun y hy=>by
  rcases List.mem_append.1 hy with hy | hy
  ·exact hI.sub y hy
  ·exact ((hI.mem y).1 hy).1
 rw [List.length_append,hs.length_eq,List.length_map] at this
 exact this
theorem pj_len {out h:List Nat} {c:Nat→Nat} {x j:Nat} (hJ:PJ es list srt out x j h c) : out.length + 1 + h.length≤list.length:=by
 have hnd : ((out ++ [x]) ++ h).Nodup:=by
  rw [List.nodup_append]
  exact ⟨hJ.nodup,hJ.hn,fun a ha b hb=>by rintro rfl; exact ((hJ.mem a).1 hb).2.1 ha⟩
 have:=len_sub (m:=srt) hnd fun y hy=>by
  rcases List.mem_append.1 hy with hy | hy
  ·rcases List.mem_append.1 hy with hy | hy
   ·exact hJ.sub y hy
   ·rw [List.mem_singleton.1 hy]; exact hJ.xs
  ·exact ((hJ.mem y).1 hy).1
 rw [List.length_append,List.length_append,hs.length_eq,List.length_map] at this
 exact this
end
end Go.Proofs.YtmgdkkhnjkepiaaGreat.BX
namespace Go.Proofs.YtmgdkkhnjkepiaaGreat.BX
open Nat renaming reduceEqDiff → zA, reduceLT → zB, reduceLeDiff → zC, reduceAdd → zD, reduceMul → zE, reduceSub → zF, reduceBEq → zG
set_option linter.unusedSectionVars false
set_option linter.unusedSimpArgs false
set_option linter.unusedVariables false
open Go Go.RowKit
set_option maxRecDepth 20000
set_option maxHeartbeats 400000
def cmpI (x y:Int) : Int:=if x < y then -1 else if y < x then 1 else 0
theorem cmpS_dec {a b:List UInt8} : decide (cmpS a b < 0)=Op.bytesLess a b:=by
 unfold cmpS
 cases h : Op.bytesLess a b
 ·split<;>(rename_i h1; first | (cases h1; done) | (split<;>simp))
 ·simp
variable [Bd]
theorem isNaNI (x:Int) : Con P0 204 [.i .i64 x] (.t (.b false)) []:=by
 refine Con.intro (fn:=Tryz.f204) [.tmp 2] (fun _=>(0,[])) mixed (by kernel_rfl) rfl (by decide) rfl (by rfl) (by kernel_rfl) ?_
 simp -implicitDefEqProofs (maxSteps:=2000000) only [push_cast,zA,zB,zC,zD,zE,zF,zG,↓reduceIte,reduceCtorEq]
theorem compareI (x y:Int) : Con P0 149 [.i .i64 x,.i .i64 y] (.t (.i .i64 (cmpI x y))) []:=by
 refine Con.intro (fn:=Tryz.f149) [.tmp 4] (fun _=>(0,[])) mixed (by kernel_rfl) rfl (by decide) rfl (by rfl) (by kernel_rfl) ?_
 simp -implicitDefEqProofs (maxSteps:=2000000) only [push_cast,zA,zB,zC,zD,zE,zF,zG,↓reduceIte,reduceCtorEq]
 refine Callx.closed (isNaNI x) rfl rfl (.inl rfl) ?_
 simp -implicitDefEqProofs (maxSteps:=2000000) only [push_cast,zA,zB,zC,zD,zE,zF,zG,↓reduceIte,reduceCtorEq]
 refine Callx.closed (isNaNI y) rfl rfl (.inl rfl) ?_
 simp -implicitDefEqProofs (maxSteps:=2000000) only [push_cast,zA,zB,zC,zD,zE,zF,zG,↓reduceIte,reduceCtorEq]
 unfold cmpI
 by_cases h1 : x < y
 ·simp only [h1,if_true]
 ·by_cases h2 : y < x
  ·simp only [h1,h2,if_true,if_false]
  ·simp only [h1,h2,if_false]
end Go.Proofs.YtmgdkkhnjkepiaaGreat.BX
namespace Go.Proofs.YtmgdkkhnjkepiaaGreat.BX
open Nat renaming reduceEqDiff → zA, reduceLT → zB, reduceLeDiff → zC, reduceAdd → zD, reduceMul → zE, reduceSub → zF, reduceBEq → zG
set_option linter.unusedSectionVars false
set_option linter.unusedSimpArgs false
set_option linter.unusedVariables false
open Go Go.RowKit
set_option maxRecDepth 20000
set_option maxHeartbeats 400000
theorem setMapB {xs:List Bool} {i:Nat} {v:Bool} : (List.map T.b xs).set i (T.b v)=List.map T.b (xs.set i v):=List.map_set.symm
theorem had_tf {had:List Bool} {k:Nat} (h:k < had.length) : had[k]? = some true ∨ had[k]? = some false:=by
 rw [List.getElem?_eq_getElem h]
 cases had[k]<;>simp
variable [Bd]
abbrev iT (n:Nat) : T:=.i .i64 (n:Int)
abbrev hadO (had:List Bool) : Ob:=.arr 4 1 (.own .leaf) (had.map T.b)
abbrev workO (work:List Nat) : Ob:=.arr 3 1 (.own .leaf) (work.map iT)
theorem visitNo (had:List Bool) (work:List Nat) (k:Nat) (hk:had[k]? = some true) : ConM P0 173 [.t (.i .i64 k),.rf 0 0,.rf 1 0] [.box (.sr 2),.box (.sr 3),hadO had,workO work] (.tp []) [.box (.sr 2),.box (.sr 3),hadO had,workO work]:=by
 refine ConM.intro (fn:=Tryz.f173) [] (fun _=>(0,[])) mixed (by kernel_rfl) rfl (by decide) rfl (by rfl) (by kernel_rfl) ?_
 simp -implicitDefEqProofs (maxSteps:=2000000) only [push_cast,zA,zB,zC,zD,zE,zF,zG,↓reduceIte,reduceCtorEq]
 have hkl:=(List.getElem?_eq_some_iff.1 hk).1
 have e1 : (Int.toNat (k:Int))=k:=Int.toNat_natCast _
 refine ⟨by omega,by omega,fun b hb=>?_⟩
 rw [e1,hk] at hb
 cases hb
 exact Close.of [some 0,some 1,some 2,some 3] rfl rfl rfl rfl (by simp only [push_cast,zA,zB,zC,zD,zE,zF,zG,↓reduceIte,reduceCtorEq]<;>rfl)
theorem visitYes (had:List Bool) (work:List Nat) (k:Nat) (hk:had[k]? = some false) (hB:Bd.B≤2147483648) (hl:work.length + 1 < Bd.B) : ConM P0 173 [.t (.i .i64 k),.rf 0 0,.rf 1 0] [.box (.sr 2),.box (.sr 3),hadO had,workO work] (.tp []) [.box (.sr 2),.box (.sr 4),hadO (had.set k true),.dead,workO (work ++ [k])]:=by
 refine ConM.intro (fn:=Tryz.f173) [] (fun _=>(0,[])) mixed (by kernel_rfl) rfl (by decide) rfl (by rfl) (by kernel_rfl) ?_
 simp -implicitDefEqProofs (maxSteps:=2000000) only [push_cast,zA,zB,zC,zD,zE,zF,zG,↓reduceIte,reduceCtorEq,setMapB]
 have:=Bd.lo
 have hkl:=(List.getElem?_eq_some_iff.1 hk).1
 have e1 : (Int.toNat (k:Int))=k:=Int.toNat_natCast _
 refine ⟨by omega,by omega,fun b hb=>?_⟩
 rw [e1,hk] at hb
 cases hb
 rw [e1]
 refine ⟨by omega,by omega,fun _ _=>⟨rfl,by omega,rfl,by omega,hl,?_⟩⟩
 exact Close.of [some 0,some 1,some 2,some 3,some 5] rfl rfl rfl rfl (by simp only [push_cast,zA,zB,zC,zD,zE,zF,zG,↓reduceIte,reduceCtorEq,List.map_append]<;>rfl)
theorem graphUnder (es:List Event) (ids:List (List UInt8)) (self:Bool) (hv:Valid es) (hids:∀ id∈ids,There es id) (hB:Bd.B≤2147483648) : Con P0 99 [gT es,eStringS ids,.b self] (.sr 0) [hadO (hadA es (if self=true then ids else ids.flatMap (authOf es)))]:=by
 refine Con.intro (fn:=Tryz.f99) [.tmp 6] (fun _=>(0,[])) mixed (by kernel_rfl) rfl (by decide) rfl (by rfl) (by kernel_rfl) ?_
 simp -implicitDefEqProofs (maxSteps:=2000000) only [push_cast,zA,zB,zC,zD,zE,zF,zG,↓reduceIte,reduceCtorEq,gT]
 have:=Bd.lo
 have hhi:=Bd.hi
 have hel:=hv.len
 intro hlen
 refine ⟨by omega,by omega,by omega,rfl,by omega,fun _=>?_⟩
 rw [Int.toNat_natCast]
 obtain ⟨rsf,hrsf⟩ : ∃ rsf : List (List UInt8)→List (List UInt8),rsf=fun l=>if self=true then l else l.flatMap (authOf es):=⟨_,rfl⟩
 have hrs : ∀ x∈rsf ids,There es x:=fun x hx=>by
  rw [hrsf] at hx
  dsimp only at hx
  split at hx
  ·exact hids x hx
  ·obtain ⟨y,_,hx⟩:=List.mem_flatMap.1 hx
   exact hv.there hx
 have hgoal : (if self=true then ids else ids.flatMap (authOf es))=rsf ids:=by rw [hrsf]
 rw [hgoal]
 obtain ⟨rs,hrse⟩ : ∃ rs,rsf ids=rs:=⟨_,rfl⟩
 rw [hrse] at hrs ⊢
 refine WL.loop (ι:=Nat × List Bool × List Nat) (D:=(fun _=>(0,[]))) (fun i=>i.1≤ids.length∧Had es rs i.2.1 i.2.2 (rsf (ids.take i.1)) none∧unm i.2.1 + i.2.2.length≤es.length) (fun i=>⟨102,[(0,.t (gT es)),(2,.t (.b self)),(7,.rf 1 0),(8,.rf 3 0),(9,.fn 173 [.rf 1 0,.rf 3 0]),(26,.t (eStringS ids)),(27,.t (.i .i64 ids.length)),(28,.t (.i .i64 i.1))],[hadO i.2.1,.box (.sr 0),workO i.2.2,.box (.sr 2)]⟩) (fun i=>ids.length - i.1) mixed (by kernel_rfl) (0,List.replicate es.length false,[]) ⟨by simp,⟨by simp,fun k a hk h=>?_,by simp,fun x hx=>?_,fun k a hk h=>?_⟩,by simp [unm]⟩ (Keep.wk (ids:=[some 0,some 1,some 2,some 3]) ?_) ?_
 ·simp only [List.getElem?_replicate] at h
  split at h<;>cases h
 ·simp only [hrsf,List.take_zero] at hx
  split at hx<;>simp at hx
 ·simp only [List.getElem?_replicate] at h
  split at h<;>cases h
 ·simp only [push_cast,zA,zB,zC,zD,zE,zF,zG,↓reduceIte,reduceCtorEq,gT,List.map_replicate]<;>rfl
 ·rintro ⟨i,had,work⟩ ⟨hi,hh,hw⟩
  simp only at hi hh hw
  simp -implicitDefEqProofs (maxSteps:=2000000) only [push_cast,zA,zB,zC,zD,zE,zF,zG,↓reduceIte,reduceCtorEq,gT]
  refine iteI (fun h=>?_) (fun h=>?_)
  ·refine ⟨by omega,fun id hid=>?_⟩
   rw [Int.toNat_natCast] at hid
   obtain ⟨k,e,hke,heid,hp⟩:=there_at (hids id (List.mem_of_getElem? hid))
   have hau:=authOf_at hp hke
   have hkl:=(List.getElem?_eq_some_iff.1 hke).1
   refine gLook rfl (fun k' hk'=>?_) (fun hk'=>by rw [hp] at hk'; cases hk')
   rw [hp] at hk'; cases hk'
   simp -implicitDefEqProofs (maxSteps:=2000000) only [push_cast,zA,zB,zC,zD,zE,zF,zG,↓reduceIte,reduceCtorEq,gT]
   refine iteI (fun h1=>?_) (fun h1=>?_)
   ·have hrt : rsf (ids.take (i + 1))=rsf (ids.take i) ++ [id]:=by
     rw [hrsf]; simp only [h1,if_true]; rw [List.take_add_one,hid]; rfl
    have hanc : Anc es rs id:=.root (by rw [← hrse,hrsf]; simp only [h1,if_true]; exact List.mem_of_getElem? hid)
    rcases had_tf (had:=had) (k:=k) (by rw [hh.len]; exact hkl) with hkh | hkh
    ·refine Callx.hand [1,3,0,2] (visitNo had work k hkh) (by decide) (by simp only [push_cast,zA,zB,zC,zD,zE,zF,zG,↓reduceIte,reduceCtorEq]) rfl rfl (by simp only [push_cast,zA,zB,zC,zD,zE,zF,zG,↓reduceIte,reduceCtorEq]<;>rfl) rfl (.inr ⟨rfl,by simp only [push_cast,zA,zB,zC,zD,zE,zF,zG,↓reduceIte,reduceCtorEq]<;>rfl⟩) ?_
     simp -implicitDefEqProofs (maxSteps:=2000000) only [push_cast,zA,zB,zC,zD,zE,zF,zG,↓reduceIte,reduceCtorEq,gT]
     refine ⟨by unfold inI64; omega,(i + 1,had,work),⟨by simp only; omega,?_,hw⟩,by simp only; omega,Keep.wk (ids:=[some 0,some 1,some 2,some 3]) ?_⟩
     ·simp only
      rw [hrt]
      exact hh.old hp hkh
     ·simp only [push_cast,zA,zB,zC,zD,zE,zF,zG,↓reduceIte,reduceCtorEq,gT]<;>rfl
    ·have hus:=unm_set hkh
     refine Callx.hand [1,3,0,2] (visitYes had work k hkh hB (by omega)) (by decide) (by simp only [push_cast,zA,zB,zC,zD,zE,zF,zG,↓reduceIte,reduceCtorEq]) rfl rfl (by simp only [push_cast,zA,zB,zC,zD,zE,zF,zG,↓reduceIte,reduceCtorEq]<;>rfl) rfl (.inr ⟨rfl,by simp only [push_cast,zA,zB,zC,zD,zE,zF,zG,↓reduceIte,reduceCtorEq]<;>rfl⟩) ?_
     simp -implicitDefEqProofs (maxSteps:=2000000) only [push_cast,zA,zB,zC,zD,zE,zF,zG,↓reduceIte,reduceCtorEq,gT]
     refine ⟨by unfold inI64; omega,(i + 1,had.set k true,work ++ [k]),⟨by simp only; omega,?_,by simp only [List.length_append,List.length_singleton]; omega⟩,by simp only; omega,Keep.wk (ids:=[some 0,some 1,some 4,some 3]) ?_⟩
     ·simp only
      rw [hrt]
      exact hh.new hp hke heid hkh hanc
     ·simp only [push_cast,zA,zB,zC,zD,zE,zF,zG,↓reduceIte,reduceCtorEq,gT]<;>rfl
   ·refine ⟨by omega,fun e' he'=>?_⟩
    rw [Int.toNat_natCast,hke] at he'
    cases he'
    simp -implicitDefEqProofs (maxSteps:=2000000) only [push_cast,zA,zB,zC,zD,zE,zF,zG,↓reduceIte,reduceCtorEq,gT,eEvent]
    have hrt : rsf (ids.take (i + 1))=rsf (ids.take i) ++ e.auth:=by
     rw [hrsf]; simp only [h1,if_false]; rw [List.take_add_one,hid,List.flatMap_append,← hau]; simp
    have hanc : ∀ x∈e.auth,Anc es rs x:=fun x hx=>.root (by
     rw [← hrse,hrsf]; simp only [h1,if_false]; exact List.mem_flatMap.2 ⟨id,List.mem_of_getElem? hid,hau ▸ hx⟩)
    intro hal
    refine WL.loop (ι:=Nat × List Bool × List Nat) (D:=(fun _=>(0,[]))) (fun j=>j.1≤e.auth.length∧Had es rs j.2.1 j.2.2 (rsf (ids.take i) ++ e.auth.take j.1) none∧unm j.2.1 + j.2.2.length≤es.length) (fun j=>⟨102,[(0,.t (gT es)),(2,.t (.b self)),(7,.rf 1 0),(8,.rf 3 0),(9,.fn 173 [.rf 1 0,.rf 3 0]),(26,.t (eStringS ids)),(27,.t (.i .i64 ids.length)),(28,.t (.i .i64 i)),(49,.t (eStringS e.auth)),(50,.t (.i .i64 e.auth.length)),(51,.t (.i .i64 j.1))],[hadO j.2.1,.box (.sr 0),workO j.2.2,.box (.sr 2)]⟩) (fun j=>e.auth.length - j.1) mixed (by kernel_rfl) (0,had,work) ⟨by simp,by simpa using hh,hw⟩ (Keep.wk (ids:=[some 0,some 1,some 2,some 3]) ?_) ?_
    ·simp only [push_cast,zA,zB,zC,zD,zE,zF,zG,↓reduceIte,reduceCtorEq,gT]<;>rfl
    ·rintro ⟨j,had,work⟩ ⟨hj,hh,hw⟩
     simp only at hj hh hw
     simp -implicitDefEqProofs (maxSteps:=2000000) only [push_cast,zA,zB,zC,zD,zE,zF,zG,↓reduceIte,reduceCtorEq,gT]
     refine iteI (fun h2=>⟨by omega,fun x hx=>?_⟩) (fun h2=>?_)
     ·rw [Int.toNat_natCast] at hx
      have htx : e.auth.take (j + 1)=e.auth.take j ++ [x]:=by rw [List.take_add_one,hx]; rfl
      obtain ⟨m,f,hmf,hfid,hpx⟩:=there_at (hv.there (hau ▸ List.mem_of_getElem? hx))
      have hml:=(List.getElem?_eq_some_iff.1 hmf).1
      refine gLook rfl (fun m' hm'=>?_) (fun hm'=>by rw [hpx] at hm'; cases hm')
      rw [hpx] at hm'; cases hm'
      simp -implicitDefEqProofs (maxSteps:=2000000) only [push_cast,zA,zB,zC,zD,zE,zF,zG,↓reduceIte,reduceCtorEq,gT]
      rcases had_tf (had:=had) (k:=m) (by rw [hh.len]; exact hml) with hkh | hkh
      ·refine Callx.hand [1,3,0,2] (visitNo had work m hkh) (by decide) (by simp only [push_cast,zA,zB,zC,zD,zE,zF,zG,↓reduceIte,reduceCtorEq]) rfl rfl (by simp only [push_cast,zA,zB,zC,zD,zE,zF,zG,↓reduceIte,reduceCtorEq]<;>rfl) rfl (.inr ⟨rfl,by simp only [push_cast,zA,zB,zC,zD,zE,zF,zG,↓reduceIte,reduceCtorEq]<;>rfl⟩) ?_
       simp -implicitDefEqProofs (maxSteps:=2000000) only [push_cast,zA,zB,zC,zD,zE,zF,zG,↓reduceIte,reduceCtorEq,gT]
       refine ⟨by unfold inI64; omega,(j + 1,had,work),⟨by simp only; omega,?_,hw⟩,by simp only; omega,Keep.wk (ids:=[some 0,some 1,some 2,some 3]) ?_⟩
       ·simp only
        rw [htx,← List.append_assoc]
        exact hh.old hpx hkh
       ·simp only [push_cast,zA,zB,zC,zD,zE,zF,zG,↓reduceIte,reduceCtorEq,gT]<;>rfl
      ·have hus:=unm_set hkh
       refine Callx.hand [1,3,0,2] (visitYes had work m hkh hB (by omega)) (by decide) (by simp only [push_cast,zA,zB,zC,zD,zE,zF,zG,↓reduceIte,reduceCtorEq]) rfl rfl (by simp only [push_cast,zA,zB,zC,zD,zE,zF,zG,↓reduceIte,reduceCtorEq]<;>rfl) rfl (.inr ⟨rfl,by simp only [push_cast,zA,zB,zC,zD,zE,zF,zG,↓reduceIte,reduceCtorEq]<;>rfl⟩) ?_
       simp -implicitDefEqProofs (maxSteps:=2000000) only [push_cast,zA,zB,zC,zD,zE,zF,zG,↓reduceIte,reduceCtorEq,gT]
       refine ⟨by unfold inI64; omega,(j + 1,had.set m true,work ++ [m]),⟨by simp only; omega,?_,by simp only [List.length_append,List.length_singleton]; omega⟩,by simp only; omega,Keep.wk (ids:=[some 0,some 1,some 4,some 3]) ?_⟩
       ·simp only
        rw [htx,← List.append_assoc]
        exact hh.new hpx hmf hfid hkh (hanc x (List.mem_of_getElem? hx))
       ·simp only [push_cast,zA,zB,zC,zD,zE,zF,zG,↓reduceIte,reduceCtorEq,gT]<;>rfl
     ·rw [List.take_of_length_le (l:=e.auth) (by omega)] at hh
      refine ⟨by unfold inI64; omega,(i + 1,had,work),⟨by simp only; omega,?_,hw⟩,by simp only; omega,Keep.wk (ids:=[some 0,some 1,some 2,some 3]) ?_⟩
      ·simp only
       rw [hrt]; exact hh
      ·simp only [push_cast,zA,zB,zC,zD,zE,zF,zG,↓reduceIte,reduceCtorEq,gT]<;>rfl
  ·rw [List.take_of_length_le (by omega),hrse] at hh
   refine WL.loop (ι:=List Bool × List Nat × List (List UInt8)) (D:=(fun _=>(0,[]))) (fun i=>Had es rs i.1 i.2.1 i.2.2 none∧(∀ x∈rs,x∈i.2.2)∧unm i.1 + i.2.1.length≤es.length) (fun i=>⟨102,[(0,.t (gT es)),(7,.rf 1 0),(8,.rf 3 0),(9,.fn 173 [.rf 1 0,.rf 3 0])],[hadO i.1,.box (.sr 0),workO i.2.1,.box (.sr 2)]⟩) (fun i=>unm i.1 + i.2.1.length) mixed (by kernel_rfl) (had,work,rs) ⟨hh,fun x hx=>hx,hw⟩ (Keep.wk (ids:=[some 0,some 1,some 2,some 3]) ?_) ?_
   ·simp only [push_cast,zA,zB,zC,zD,zE,zF,zG,↓reduceIte,reduceCtorEq,gT]<;>rfl
   ·rintro ⟨had,work,done⟩ ⟨hh,hd,hw⟩
    simp only at hh hd hw
    simp -implicitDefEqProofs (maxSteps:=2000000) only [push_cast,zA,zB,zC,zD,zE,zF,zG,↓reduceIte,reduceCtorEq,gT,eEvent]
    intro _
    refine iteI (fun h2=>?_) (fun h2=>?_)
    ·have e1 : (Int.toNat ((work.length : Int) - 1))=work.length - 1:=by omega
     simp only [e1]
     refine fun _=>⟨by unfold inI64; omega,by omega,by omega,fun k hwk=>?_⟩
     have hkh:=hh.pile k (List.mem_of_getElem? hwk)
     have hkl : k < es.length:=by rw [← hh.len]; exact (List.getElem?_eq_some_iff.1 hkh).1
     refine fun _=>⟨by unfold inI64; omega,by omega,by omega,by omega,fun e hke=>?_⟩
     rw [Int.toNat_natCast] at hke
     have hp:=hv.pos hke
     have hau:=authOf_at hp hke
     have hpop:=hh.pop (fun hn=>by rw [hn] at h2; simp at h2) hwk
     have hanc : ∀ x∈e.auth,Anc es rs x:=fun x hx=>.step (hh.anc k e hke hkh) (hau ▸ hx)
     rw [← List.map_take]
     have hwl : (work.take (work.length - 1)).length + 1=work.length:=by rw [List.length_take]; omega
     generalize work.take (work.length - 1)=wk at *
     intro hal
     refine WL.loop (ι:=Nat × List Bool × List Nat) (D:=(fun _=>(0,[]))) (fun j=>j.1≤e.auth.length∧Had es rs j.2.1 j.2.2 (done ++ e.auth.take j.1) (some k)∧unm j.2.1 + j.2.2.length + 1≤unm had + work.length) (fun j=>⟨102,[(0,.t (gT es)),(7,.rf 1 0),(8,.rf 3 0),(9,.fn 173 [.rf 1 0,.rf 3 0]),(86,.t (eStringS e.auth)),(87,.t (.i .i64 e.auth.length)),(88,.t (.i .i64 j.1))],[hadO j.2.1,.box (.sr 0),workO j.2.2,.box (.sr 2)]⟩) (fun j=>e.auth.length - j.1) mixed (by kernel_rfl) (0,had,wk) ⟨by simp,by simpa using hpop,by simp only; omega⟩ (Keep.wk (ids:=[some 0,some 1,some 4,some 3]) ?_) ?_
     ·simp only [push_cast,zA,zB,zC,zD,zE,zF,zG,↓reduceIte,reduceCtorEq,gT]<;>rfl
     ·rintro ⟨j,had2,work2⟩ ⟨hj,hh,hw2⟩
      simp only at hj hh hw2
      simp -implicitDefEqProofs (maxSteps:=2000000) only [push_cast,zA,zB,zC,zD,zE,zF,zG,↓reduceIte,reduceCtorEq,gT]
      refine iteI (fun h3=>⟨by omega,fun x hx=>?_⟩) (fun h3=>?_)
      ·rw [Int.toNat_natCast] at hx
       have htx : e.auth.take (j + 1)=e.auth.take j ++ [x]:=by rw [List.take_add_one,hx]; rfl
       obtain ⟨m,f,hmf,hfid,hpx⟩:=there_at (hv.there (hau ▸ List.mem_of_getElem? hx))
       have hml:=(List.getElem?_eq_some_iff.1 hmf).1
       refine gLook rfl (fun m' hm'=>?_) (fun hm'=>by rw [hpx] at hm'; cases hm')
       rw [hpx] at hm'; cases hm'
       simp -implicitDefEqProofs (maxSteps:=2000000) only [push_cast,zA,zB,zC,zD,zE,zF,zG,↓reduceIte,reduceCtorEq,gT]
       rcases had_tf (had:=had2) (k:=m) (by rw [hh.len]; exact hml) with hkh | hkh
       ·refine Callx.hand [1,3,0,2] (visitNo had2 work2 m hkh) (by decide) (by simp only [push_cast,zA,zB,zC,zD,zE,zF,zG,↓reduceIte,reduceCtorEq]) rfl rfl (by simp only [push_cast,zA,zB,zC,zD,zE,zF,zG,↓reduceIte,reduceCtorEq]<;>rfl) rfl (.inr ⟨rfl,by simp only [push_cast,zA,zB,zC,zD,zE,zF,zG,↓reduceIte,reduceCtorEq]<;>rfl⟩) ?_
        simp -implicitDefEqProofs (maxSteps:=2000000) only [push_cast,zA,zB,zC,zD,zE,zF,zG,↓reduceIte,reduceCtorEq,gT]
        refine ⟨by unfold inI64; omega,(j + 1,had2,work2),⟨by simp only; omega,?_,hw2⟩,by simp only; omega,Keep.wk (ids:=[some 0,some 1,some 2,some 3]) ?_⟩
        ·simp only
         rw [htx,← List.append_assoc]
         exact hh.old hpx hkh
        ·simp only [push_cast,zA,zB,zC,zD,zE,zF,zG,↓reduceIte,reduceCtorEq,gT]<;>rfl
       ·have hus:=unm_set hkh
        refine Callx.hand [1,3,0,2] (visitYes had2 work2 m hkh hB (by omega)) (by decide) (by simp only [push_cast,zA,zB,zC,zD,zE,zF,zG,↓reduceIte,reduceCtorEq]) rfl rfl (by simp only [push_cast,zA,zB,zC,zD,zE,zF,zG,↓reduceIte,reduceCtorEq]<;>rfl) rfl (.inr ⟨rfl,by simp only [push_cast,zA,zB,zC,zD,zE,zF,zG,↓reduceIte,reduceCtorEq]<;>rfl⟩) ?_
        simp -implicitDefEqProofs (maxSteps:=2000000) only [push_cast,zA,zB,zC,zD,zE,zF,zG,↓reduceIte,reduceCtorEq,gT]
        refine ⟨by unfold inI64; omega,(j + 1,had2.set m true,work2 ++ [m]),⟨by simp only; omega,?_,by simp only [List.length_append,List.length_singleton]; omega⟩,by simp only; omega,Keep.wk (ids:=[some 0,some 1,some 4,some 3]) ?_⟩
        ·simp only
         rw [htx,← List.append_assoc]
         exact hh.new hpx hmf hfid hkh (hanc x (List.mem_of_getElem? hx))
        ·simp only [push_cast,zA,zB,zC,zD,zE,zF,zG,↓reduceIte,reduceCtorEq,gT]<;>rfl
      ·rw [List.take_of_length_le (l:=e.auth) (by omega)] at hh
       refine ⟨(had2,work2,done ++ e.auth),⟨hh.seen rfl hke (fun x hx=>List.mem_append_right _ hx),fun x hx=>List.mem_append_left _ (hd x hx),by simp only; omega⟩,by simp only; omega,Keep.wk (ids:=[some 0,some 1,some 2,some 3]) ?_⟩
       simp only [push_cast,zA,zB,zC,zD,zE,zF,zG,↓reduceIte,reduceCtorEq,gT]<;>rfl
    ·have hwn : work=[]:=List.eq_nil_of_length_eq_zero (by omega)
     subst hwn
     rw [hh.is hv hd hrs]
     exact Close.of [some 0] rfl rfl rfl rfl (by simp only [push_cast,zA,zB,zC,zD,zE,zF,zG,↓reduceIte,reduceCtorEq]<;>rfl)
end Go.Proofs.YtmgdkkhnjkepiaaGreat.BX
namespace Go.Proofs.YtmgdkkhnjkepiaaGreat.BX
open Nat renaming reduceEqDiff → zA, reduceLT → zB, reduceLeDiff → zC, reduceAdd → zD, reduceMul → zE, reduceSub → zF, reduceBEq → zG
set_option linter.unusedSectionVars false
set_option linter.unusedSimpArgs false
set_option linter.unusedVariables false
open Go Go.RowKit
variable [Bd]
inductive OT where
 | done | step (i:Nat) (t m:OT)
def onDone (t:OT) (A B:Prop) : Prop:=match t with
 | .done => A
 | _ => B
def runAt (P:Program) (all:Array Oper) (i:Nat) (σ:St) (R:St→Prop) : Prop:=match opAt all.toList i with
 | some o => dstOk σ.n o.dst∧vcGuard all σ o (fun σ=>vcOp P σ o.op fun x ob=>R (({ σ with ob:=ob } : St).set o.dst x)) (fun σ=>R (σ.set o.dst .ud))
 | none => False
def vcAlts (P:Program) (all:Array Oper) (K:St→Prop) : OT→St→Prop
 | .done, _ => True
 | .step i t m, σ => runAt P all i σ (fun σ'=>onDone t (K σ') (vcAlts P all K t σ'))∧vcAlts P all K m σ
section
variable {P:Program} {Q:Exit→Act→World→Prop} {w0:Base} {σ:St} {hv:Hv} {S:Nat→Prop} {F:Nat→List Nat} {a:Act} {w:World}
theorem run_step {ops:Array Oper} {i:Nat} {R:St→Prop} (hr:Rel w0 σ hv S F a w) (h:runAt P ops i σ R) {next:Act→World→Prop}
 (hn:∀ σ' (hv':Hv) S' F' a' w',R σ'→Rel w0 σ' hv' S' F' a' w'→next a' w') : wpOp P ops Q i next a w:=by
 unfold runAt at h
 rw [opAt_eq,Array.getElem?_toList] at h
 split at h
 case h_2=>cases h
 rename_i o ho
 obtain ⟨hd,h⟩:=h
 have hdk : ∀ σ',Eqv σ σ' → ∀ k,o.dst=some k→k < σ'.n:=fun σ' he k hk=>by rw [hk] at hd; rw [he.n]; exact hd
 unfold wpOp
 rw [ho]
 simp only
 rcases vcGuard_sound (Eqv.refl σ) h with ⟨hg,σ',he,h⟩ | ⟨hg,σ',he,h⟩
 ·have hr1:=hr.tm_ext he
  rw [if_pos (wanted_of hr hg)]
  refine .inl ?_
  have:=vcOp_sound (Q:=Q) (next:=fun v w'=>next (a.put o.dst v) w') hr1 h (fun v w' x ob' hv' S' F' L hK hr' f1 f2 hu=>hn _ _ _ _ _ _ hK (hr'.put (d:=o.dst) f1 f2 hu (hdk σ' he)))
  unfold Does at this
  exact Oper.wp_mono (fun a' w' ⟨v,ha,hv⟩=>ha ▸ hv) this
 ·have hr1:=hr.tm_ext he
  rw [if_neg (by rw [wanted_of hr hg]; simp)]
  exact hn _ _ _ _ _ _ h (hr1.put (d:=o.dst) (x:=.ud) (v:=undef) (L:=[]) (by simp [footA]) (by simp) rfl (hdk σ' he))
end
section
variable {P:Program} {all:Array Oper} {K:St→Prop} {σ:St}
def runO (P:Program) (all:Array Oper) (σ:St) (o:Option Oper) (R:St→Prop) : Prop:=match o with
 | some o => dstOk σ.n o.dst∧vcGuard all σ o (fun σ=>vcOp P σ o.op fun x ob=>R (({ σ with ob:=ob } : St).set o.dst x)) (fun σ=>R (σ.set o.dst .ud))
 | none => False
@[congr] theorem runO_congr {o o':Option Oper} {σ':St} {R:St→Prop} (h:tick σ=σ') (h2:o=o') : runO P all σ o R=runO P all σ' o' R:=by unfold tick at h; rw [h,h2]
theorem ot_op {dst:Option Nat} {op:Op} {ty:TypeId} {pos:String} {after:Array Edge} {R:St→Prop} : runO P all σ (some ⟨dst,op,ty,pos,after,none⟩) R=(dstOk σ.n dst∧vcOp P σ op fun x ob=>R (({ σ with ob:=ob } : St).set dst x)):=rfl
theorem ot_run {i:Nat} {l:List Oper} {R:St→Prop} : runAt P ⟨l⟩ i σ R=runO P ⟨l⟩ σ (opAt l i) R:=by
 unfold runAt runO; rfl
@[congr] theorem vcAlts_congr {t:OT} {σ':St} (h:tick σ=σ') : vcAlts P all K t σ=vcAlts P all K t σ':=by unfold tick at h; rw [h]
@[congr] theorem onDone_congr {t t':OT} {A B:Prop} (h:tick t=t') : onDone t A B=onDone t' A B:=by unfold tick at h; rw [h]
end
attribute [push_cast] ot_op ot_run
end Go.Proofs.YtmgdkkhnjkepiaaGreat.BX
namespace Go.Proofs.YtmgdkkhnjkepiaaGreat.BX
open Nat renaming reduceEqDiff → zA, reduceLT → zB, reduceLeDiff → zC, reduceAdd → zD, reduceMul → zE, reduceSub → zF, reduceBEq → zG
set_option linter.unusedSectionVars false
set_option linter.unusedSimpArgs false
set_option linter.unusedVariables false
open Go Go.RowKit
variable [Bd]
def acyc (ops:Array Oper) : Bool:=(List.range ops.size).all fun i=>match ops[i]? with
 | some o => o.after.all fun e=>!Region.binds .any e || decide (e.on < i)
 | none => false
def okDeps (ops:Array Oper) (dl:List (List Nat)) : Bool:=decide (dl.length=ops.size) && acyc ops && (List.range ops.size).all fun i=>match ops[i]? with
 | some o => (dl.getD i []).all fun j=>o.after.toList.any fun e=>Region.binds .any e && e.on == j
 | none => false
theorem ready_none {ops:Array Oper} (hac:acyc ops=true) {l:List Bool} (hl:l.length=ops.size) (h:Region.ready .any ops l.toArray=[]) : ∀ i,i < ops.size→l[i]? = some true:=by
 intro i
 induction i using Nat.strongRecOn with
 | ind i ih =>
   intro hi
   have hil : i < l.length:=by omega
   rw [List.getElem?_eq_getElem hil]
   cases hb : l[i] with
   | true => rfl
   | false =>
     exfalso
     simp only [acyc,List.all_eq_true,List.mem_range] at hac
     have ha:=hac i hi
     rw [Array.getElem?_eq_getElem hi] at ha
     simp only [Array.all_eq_true_iff_forall_mem,Bool.or_eq_true,Bool.not_eq_true',decide_eq_true_eq] at ha
     have : i∈Region.ready .any ops l.toArray:=mem_ready.2 ⟨by simp [hil,hb],ops[i],Array.getElem?_eq_getElem hi,fun e he hbd=>by
      rcases ha e he with h1 | h1
      ·rw [hbd] at h1; cases h1
      ·have:=ih e.on h1 (by omega)
       obtain ⟨h2,h3⟩:=List.getElem?_eq_some_iff.1 this
       simp [h2,h3]⟩
     rw [h] at this
     cases this
section
variable {P:Program} {Q:Exit→Act→World→Prop} {w0:Base}
theorem invar_sound {ops:Array Oper} {N:Nat} {K:St→Prop} {J:List Bool→St→Prop} (hac:acyc ops=true) (hN:w0.na≤N) (hstep:∀ (l:List Bool) (σ:St) (i:Nat),l.length=ops.size→J l σ→i∈Region.ready .any ops l.toArray→runAt P ops i σ (J (l.set i true)))
 (hend:∀ σ,J (List.replicate ops.size true) σ → ∃ σ',Wk N σ σ' ∧ K σ') (hQ:∀ σ' (hv':Hv) S' F' a' w',K σ'→Rel w0 σ' hv' S' F' a' w'→Q .normal a' w') : ∀ (fuel:Nat) {l:List Bool} {σ:St} {hv:Hv} {S:Nat→Prop} {F:Nat→List Nat} {a:Act} {w:World},
 l.length=ops.size→J l σ→l.count false≤fuel→Rel w0 σ hv S F a w→wpAny P .any ops Q fuel l.toArray a w
 | fuel, l, σ, hv, S, F, a, w, hl, hJ, hc, hr => by
   cases hre : Region.ready .any ops l.toArray with
   | nil =>
     have hall:=ready_none hac hl hre
     have : l=List.replicate ops.size true:=List.ext_getElem? fun i=>by
      by_cases hi : i < ops.size
      ·rw [hall i hi,List.getElem?_replicate,if_pos hi]
      ·rw [List.getElem?_eq_none (by omega),List.getElem?_replicate,if_neg hi]
     obtain ⟨σ',h1,h2⟩:=hend σ (this ▸ hJ)
     obtain ⟨hv',S',F',hr'⟩:=h1 w0 hv S F a w hN hr
     cases fuel with
     | zero => exact ⟨hre,hQ _ _ _ _ _ _ h2 hr'⟩
     | succ fuel => exact ⟨fun _=>hQ _ _ _ _ _ _ h2 hr',fun i hi=>by rw [hre] at hi; cases hi⟩
   | cons i0 is =>
     have hfu : ∀ i∈Region.ready .any ops l.toArray,(l.set i true).count false + 1≤fuel:=fun i hi=>by
      obtain ⟨h0,_⟩:=mem_ready.1 hi
      obtain ⟨h1,h2⟩:=getD_false_true h0
      have h2' : i < l.length:=by simpa using h2
      rw [List.count_set h2']
      have : l[i]=false:=by simpa [h2'] using h1
      have hpos : 0 < l.count false:=List.count_pos_iff.2 (by rw [← this]; simp)
      simp [this]
      omega
     cases fuel with
     | zero => have:=hfu i0 (by rw [hre]; exact List.mem_cons_self ..); omega
     | succ fuel =>
       refine ⟨fun h=>(by rw [hre] at h; cases h),fun i hi=>?_⟩
       have hcount:=hfu i hi
       refine run_step hr (hstep l σ i hl hJ hi) fun σ' hv' S' F' a' w' hK hr'=>?_
       rw [List.setIfInBounds_toArray]
       exact invar_sound hac hN hstep hend hQ fuel (by rw [List.length_set]; exact hl) hK (by omega) hr'
end
theorem WL.inv {P:Program} {N:Nat} {K:Kont} {σ:St} {id:Nat} {ops:Array Oper} (J:List Bool→St→Prop) (dl:List (List Nat)) (hm:P.follows .mixedOrders=true) (hk:okDeps ops dl=true) (h0:J (List.replicate dl.length false) σ)
 (hstep:∀ (l:List Bool) (σ:St) (i:Nat),i < dl.length→l.length=dl.length→J l σ→l[i]? = some false→(∀ j∈dl.getD i [],l[j]? = some true)→runAt P ops i σ (J (l.set i true)))
 (hend:∀ σ,J (List.replicate dl.length true) σ → ∃ σ',Wk N σ σ' ∧ K .nrm σ') : WL P N (.region id ops true) K σ:=fun w0 hv S F a w hN hr=>by
 simp only [okDeps,Bool.and_eq_true,decide_eq_true_eq] at hk
 obtain ⟨⟨hl,hac⟩,hd⟩:=hk
 simp only [List.all_eq_true,List.mem_range] at hd
 rw [hl] at h0 hend
 refine wp_region_any hm ?_
 have:=invar_sound (Q:=Post w0 K) (J:=J) hac hN (fun l σ i h1 h2 h3=>by
  obtain ⟨h4,o,ho,h5⟩:=mem_ready.1 h3
  obtain ⟨h6,h7⟩:=getD_false_true h4
  have hi : i < ops.size:=(Array.getElem?_eq_some_iff.1 ho).1
  have hil : i < l.length:=by omega
  refine hstep l σ i (by omega) (by omega) h2 (by rw [List.getElem?_eq_getElem hil]; simpa [hil] using h6) fun j hj=>?_
  have hdi:=hd i hi
  rw [ho] at hdi
  simp only [List.all_eq_true,List.any_eq_true,Bool.and_eq_true,beq_iff_eq] at hdi
  obtain ⟨e,he,hb,rfl⟩:=hdi j hj
  have:=h5 e (by simpa using he) hb
  by_cases hjl : e.on < l.length
  ·rw [List.getElem?_eq_getElem hjl]
   simpa [hjl] using this
  ·simp [hjl] at this) hend (fun σ' hv' S' F' a' w' hk hr'=>⟨σ',hv',S',F',hk,hr'⟩) ops.size (l:=List.replicate ops.size false) (by simp) h0 (by simp) (hr.grow (Grew.drew w))
 simpa using this
end Go.Proofs.YtmgdkkhnjkepiaaGreat.BX
namespace Go.Proofs.YtmgdkkhnjkepiaaGreat.BX
open Nat renaming reduceEqDiff → zA, reduceLT → zB, reduceLeDiff → zC, reduceAdd → zD, reduceMul → zE, reduceSub → zF, reduceBEq → zG
set_option linter.unusedSectionVars false
set_option linter.unusedSimpArgs false
set_option linter.unusedVariables false
open Go Go.RowKit HH
set_option maxRecDepth 20000
set_option maxHeartbeats 400000
theorem psn_cmp (es:List Event) (a b:List UInt8) : decide (firstNz [cmpI (autI es b) (autI es a),cmpI (timI es a) (timI es b),cmpS a b] < 0)=psn es a b:=by
 unfold psn lexO firstNz firstNz firstNz firstNz
 rw [← cmpS_dec]
 generalize autI es a=x
 generalize autI es b=y
 generalize timI es a=p
 generalize timI es b=q
 unfold cmpI
 by_cases h1 : x=y
 ·subst h1
  by_cases h2 : p=q
  ·subst h2
   simp
   split
   ·rename_i h; rw [h]
   ·rfl
  ·simp [h2]
   by_cases h3 : p < q
   ·simp [h3]
   ·have : q < p:=by omega
    simp [h3,this]
 ·by_cases h3 : y < x
  ·have : ¬ x=y:=h1
   simp [h3,this]
  ·have h4 : x < y:=by omega
   have : ¬ x=y:=h1
   simp [h3,h4,this]
theorem pwOf_pow {es:List Event} {i j:Nat} (h:pwOf es i=some j) : ∃ p,es[j]? = some p∧p.typ=sPower:=by
 unfold pwOf at h
 split at h
 ·obtain ⟨x,h1,h2,e,h3,h4⟩:=fromL_some h
  exact ⟨e,h3,by simpa [isPow] using h4⟩
 ·cases h
theorem ord_of [Bd] {es:List Event} (hv:Valid es) {i:Nat} {e:Event} (hi:es[i]? = some e) (ht:e.typ=sPower) : GOrd e.grants:=by
 have hc:=evOk_content (hv.good hi).ok
 unfold contentB at hc
 rw [ht,if_neg (by decide),if_neg (by decide),if_neg (by decide),if_pos rfl] at hc
 simp only [Bool.and_eq_true] at hc
 have hg:=hc.2
 unfold grantsB at hg
 simp only [Bool.and_eq_true] at hg
 exact gOrd_of (@of_decide_eq_true _ (Classical.propDecidable _) hg.2.2)
theorem fullM [Bd] {es:List Event} (hv:Valid es) {ids:List (List UInt8)} (h:∀ x∈ids,There es x) {x:List UInt8} : x∈fullL es ids ↔ Anc es ids x:=by
 have hr : ∀ y∈ids.flatMap (authOf es),There es y:=fun y hy=>by
  obtain ⟨z,_,hz⟩:=List.mem_flatMap.1 hy
  exact hv.there hz
 unfold fullL
 rw [sset_mem,List.mem_append,ancL_mem hv hr]
 constructor
 ·rintro (h | h)
  ·exact .root h
  ·refine h.least (fun y hy=>?_) fun y hy z hz=>.step hy hz
   obtain ⟨z,hz1,hz2⟩:=List.mem_flatMap.1 hy
   exact .step (.root hz1) hz2
 ·intro h
  refine h.least (C:=fun x=>x∈ids ∨ Anc es (ids.flatMap (authOf es)) x) (fun y hy=>.inl hy) fun y hy z hz=>.inr ?_
  rcases hy with hy | hy
  ·exact .root (List.mem_flatMap.2 ⟨y,hy,hz⟩)
  ·exact .step hy hz
variable [Bd]
theorem implWeighty (e:Event) : Con P0 165 [eEvent e] (.t (.b (wty e))) []:=by
 refine Con.intro (fn:=Tryz.f165) [.tmp 2] (fun _=>(0,[])) mixed (by kernel_rfl) rfl (by decide) rfl (by rfl) (by kernel_rfl) ?_
 simp -implicitDefEqProofs (maxSteps:=2000000) only [push_cast,zA,zB,zC,zD,zE,zF,zG,↓reduceIte,reduceCtorEq,eEvent]
 unfold wty sMember sLeave sBan sPower sRules
 refine iteI (fun h1=>iteI (fun h2=>?_) (fun h2=>iteI (fun h3=>?_) (fun h3=>?_))) (fun h1=>iteI (fun h2=>?_) (fun h2=>?_))
 ·rw [if_pos h1,decide_eq_true h2,Bool.true_or,Bool.true_and]
 ·rw [if_pos h1,decide_eq_true h3,Bool.or_true,Bool.true_and]
 ·rw [if_pos h1,decide_eq_false h2,decide_eq_false h3]; rfl
 ·rw [if_neg h1,decide_eq_true h2,Bool.true_or]
 ·rw [if_neg h1,decide_eq_false h2,Bool.false_or]
theorem graphAuthor (es:List Event) (hv:Valid es) (i:Nat) (e:Event) (he:es[i]? = some e) (hB:Bd.B≤2147483648) : Con P0 167 [gT es,.i .i64 i] (.t (.i .i64 (autP es i))) []:=by
 have hil:=(List.getElem?_eq_some_iff.1 he).1
 refine Con.intro (fn:=Tryz.f167) [.tmp 4] (fun i=>if i=4 then (16,[]) else if i=3 then (16,[]) else (0,[])) mixed (by kernel_rfl) rfl (by decide) rfl (by rfl) (by kernel_rfl) ?_
 simp -implicitDefEqProofs (maxSteps:=2000000) only [push_cast,zA,zB,zC,zD,zE,zF,zG,↓reduceIte,reduceCtorEq,gT,eEvent]
 refine Callx.closed (powerOf es hv i hil) rfl rfl (.inl rfl) ?_
 simp -implicitDefEqProofs (maxSteps:=2000000) only [push_cast,zA,zB,zC,zD,zE,zF,zG,↓reduceIte,reduceCtorEq,gT,eEvent]
 unfold autP
 rw [he]
 cases hp : pwOf es i with
 | none =>
   rw [show pwI es i = -1 by unfold pwI; rw [hp]]
   refine iteI (fun h=>absurd h (by decide)) (fun _=>⟨by omega,fun a ha=>⟨by omega,fun c hc=>?_⟩⟩)
   rw [Int.toNat_natCast,he] at ha
   cases ha
   have hc : es[0]? = some c:=hc
   rw [hc]
   refine iteI (fun h=>?_) (fun h=>?_)
   ·dsimp only; rw [if_pos h]
   ·dsimp only; rw [if_neg h]
 | some j =>
   have hj:=pwOf_lt hv hp
   rw [show pwI es i=(j:Int) by unfold pwI; rw [hp]]
   refine iteI (fun _=>⟨by omega,fun a ha=>⟨by omega,fun c hc=>?_⟩⟩) (fun h=>absurd (by omega) h)
   rw [Int.toNat_natCast] at ha hc
   rw [he] at hc
   cases hc
   obtain ⟨p,hpj,hpt⟩:=pwOf_pow hp
   rw [hpj] at ha
   cases ha
   have cL:=implLevelBy a e.sender (ord_of hv hpj hpt) hB
   simp only [eEvent] at cL
   refine CallV.t cL (.inl rfl) ?_
   simp -implicitDefEqProofs (maxSteps:=2000000) only [push_cast,zA,zB,zC,zD,zE,zF,zG,↓reduceIte,reduceCtorEq,gT,eEvent]
   simp only [hpj]
def cOB (Z X Y:AV) (b14 b15 b16 b17:Bool) (σ:St) : Prop:=match b14,b15 with
 | false, false => σ.ob=[]
 | true, false => σ.ob=[.box Z]∧getL σ.tm 6 = .rf 0 0
 | false, true => σ.ob=[.box Z]∧getL σ.tm 7 = .rf 0 0
 | true, true => (σ.ob=[.box (if b16=true then X else Z),.box (if b17=true then Y else Z)]∧getL σ.tm 6 = .rf 0 0∧getL σ.tm 7 = .rf 1 0) ∨ (σ.ob=[.box (if b17=true then Y else Z),.box (if b16=true then X else Z)]∧getL σ.tm 6 = .rf 1 0∧getL σ.tm 7 = .rf 0 0)
abbrev zEw : AV:=.ag [.t (.s []),.t (.s []),.t (.s []),.t (.b false),.t (.s []),.t (.i .i64 0),.ns,.ns,.t (.s []),.ns]
def cVals (es:List Event) (a b:Nat) (x y:Event) : List (Nat × AV):=[(8,.t (gT es)),(9,.t (gT es)),(10,.t (gT es)),(11,.t (eEventS es)),(12,.t (.i .i64 (a:Int))),(13,.t (.po (eEvent x) 0)),(14,.t (eEvent x)),(15,.t (gT es)),(16,.t (gT es)),(17,.t (gT es)),(18,.t (eEventS es)),(19,.t (.i .i64 (b:Int))),(20,.t (.po (eEvent y) 0)),(21,.t (eEvent y))]
structure CJ (es:List Event) (a b:Nat) (x y:Event) (l:List Bool) (σ:St) : Prop where
 n : σ.n=42
 t0 : getL σ.tm 0 = .t (.i .i64 (a:Int))
 t1 : getL σ.tm 1 = .t (.i .i64 (b:Int))
 t2 : getL σ.tm 2 = .t (.po (gT es) 0)
 t5 : getL σ.tm 5 = .t (.b false)
 val : ∀ (i d:Nat) (z:AV),(cVals es a b x y)[i]? = some (d,z)→l[i]? = some true→getL σ.tm d=z
 w : ∀ (i:Nat),16≤i→l[i]? = some true→l[14]? = some true∧l[15]? = some true
 ob : cOB zEw (.t (eEvent x)) (.t (eEvent y)) (l.getD 14 false) (l.getD 15 false) (l.getD 16 false) (l.getD 17 false) σ
theorem CJ.look {es:List Event} {a b:Nat} {x y:Event} {l:List Bool} {σ:St} (h:CJ es a b x y l σ) {i d:Nat} {z:AV} (hi:(cVals es a b x y)[i]? = some (d,z)) (hi14:i < 14) (hd:d=i + 8) : CJ es a b x y (l.set i true) (St.set ⟨σ.n,σ.tm,σ.ob⟩ (some d) z):=by
 subst hd
 have hg : ∀ t,t < 8→getL (St.set ⟨σ.n,σ.tm,σ.ob⟩ (some (i + 8)) z).tm t=getL σ.tm t:=fun t ht=>by
  rw [getL_set,if_neg (by simp; omega)]
 have hs : ∀ j,14≤j→(l.set i true).getD j false=l.getD j false:=fun j hj=>by
  rw [List.getD_eq_getElem?_getD,List.getD_eq_getElem?_getD,List.getElem?_set_ne (by omega)]
 refine ⟨h.n,by rw [hg _ (by omega)]; exact h.t0,by rw [hg _ (by omega)]; exact h.t1,by rw [hg _ (by omega)]; exact h.t2,by rw [hg _ (by omega)]; exact h.t5,fun j d' z' hj hjl=>?_,fun j hj hjl=>?_,?_⟩
 ·have hjd : j < 14:=(List.getElem?_eq_some_iff.1 hj).1
  have hdj : d'=j + 8:=by
   have : ∀ k,k < 14 → ∀ p,(cVals es a b x y)[k]? = some p→p.1=k + 8:=by
    intro k hk p hp
    match k,hk with
    | 0, _ => cases hp; rfl
    | 1, _ => cases hp; rfl
    | 2, _ => cases hp; rfl
    | 3, _ => cases hp; rfl
    | 4, _ => cases hp; rfl
    | 5, _ => cases hp; rfl
    | 6, _ => cases hp; rfl
    | 7, _ => cases hp; rfl
    | 8, _ => cases hp; rfl
    | 9, _ => cases hp; rfl
    | 10, _ => cases hp; rfl
    | 11, _ => cases hp; rfl
    | 12, _ => cases hp; rfl
    | 13, _ => cases hp; rfl
    | k + 14, hk => omega
   exact this j hjd _ hj
  subst hdj
  rw [getL_set]
  by_cases hij : i=j
  ·subst hij
   rw [hi] at hj
   cases hj
   rw [if_pos rfl]
  ·rw [if_neg (by simp; omega)]
   exact h.val j _ _ hj (by rwa [List.getElem?_set_ne hij] at hjl)
 ·rw [List.getElem?_set_ne (by omega)] at hjl
  rw [List.getElem?_set_ne (by omega),List.getElem?_set_ne (by omega)]
  exact h.w j hj hjl
 ·have ho:=h.ob
  rw [hs 14 (by omega),hs 15 (by omega),hs 16 (by omega),hs 17 (by omega)]
  unfold cOB at ho ⊢
  rw [hg 6 (by omega),hg 7 (by omega)]
  exact ho
theorem CJ.obj {es:List Event} {a b:Nat} {x y:Event} {l:List Bool} {n:Nat} {tm tm':List (Nat × AV)} {ob ob':List Ob} (h:CJ es a b x y l ⟨n,tm,ob⟩) {i:Nat} (hi:14≤i) (ht:∀ t,t≠6→t≠7→getL tm' t=getL tm t) (hw:16≤i→l[14]? = some true∧l[15]? = some true)
 (ho:cOB zEw (.t (eEvent x)) (.t (eEvent y)) ((l.set i true).getD 14 false) ((l.set i true).getD 15 false) ((l.set i true).getD 16 false) ((l.set i true).getD 17 false) ⟨n,tm',ob'⟩) : CJ es a b x y (l.set i true) ⟨n,tm',ob'⟩:=by
 have up : ∀ j,l[j]? = some true→(l.set i true)[j]? = some true:=fun j hj=>by
  rw [List.getElem?_set]
  split
  ·rw [if_pos (by have:=(List.getElem?_eq_some_iff.1 hj).1; omega)]
  ·exact hj
 refine ⟨h.n,(ht 0 (by omega) (by omega)).trans h.t0,(ht 1 (by omega) (by omega)).trans h.t1,(ht 2 (by omega) (by omega)).trans h.t2,(ht 5 (by omega) (by omega)).trans h.t5,fun j d z hj hjl=>?_,fun j hj hjl=>?_,ho⟩
 ·have hjd : j < 14:=(List.getElem?_eq_some_iff.1 hj).1
  have hdj : ∀ k,k < 14 → ∀ p,(cVals es a b x y)[k]? = some p→p.1≠6∧p.1≠7:=by
   intro k hk p hp
   match k,hk with
   | 0, _ => cases hp; exact ⟨show (8:Nat)≠6 by decide,show (8:Nat)≠7 by decide⟩
   | 1, _ => cases hp; exact ⟨show (9:Nat)≠6 by decide,show (9:Nat)≠7 by decide⟩
   | 2, _ => cases hp; exact ⟨show (10:Nat)≠6 by decide,show (10:Nat)≠7 by decide⟩
   | 3, _ => cases hp; exact ⟨show (11:Nat)≠6 by decide,show (11:Nat)≠7 by decide⟩
   | 4, _ => cases hp; exact ⟨show (12:Nat)≠6 by decide,show (12:Nat)≠7 by decide⟩
   | 5, _ => cases hp; exact ⟨show (13:Nat)≠6 by decide,show (13:Nat)≠7 by decide⟩
   | 6, _ => cases hp; exact ⟨show (14:Nat)≠6 by decide,show (14:Nat)≠7 by decide⟩
   | 7, _ => cases hp; exact ⟨show (15:Nat)≠6 by decide,show (15:Nat)≠7 by decide⟩
   | 8, _ => cases hp; exact ⟨show (16:Nat)≠6 by decide,show (16:Nat)≠7 by decide⟩
   | 9, _ => cases hp; exact ⟨show (17:Nat)≠6 by decide,show (17:Nat)≠7 by decide⟩
   | 10, _ => cases hp; exact ⟨show (18:Nat)≠6 by decide,show (18:Nat)≠7 by decide⟩
   | 11, _ => cases hp; exact ⟨show (19:Nat)≠6 by decide,show (19:Nat)≠7 by decide⟩
   | 12, _ => cases hp; exact ⟨show (20:Nat)≠6 by decide,show (20:Nat)≠7 by decide⟩
   | 13, _ => cases hp; exact ⟨show (21:Nat)≠6 by decide,show (21:Nat)≠7 by decide⟩
   | k + 14, hk => omega
  obtain ⟨h6,h7⟩:=hdj j hjd _ hj
  exact (ht d h6 h7).trans (h.val j d z hj (by rwa [List.getElem?_set_ne (by omega)] at hjl))
 ·rw [List.getElem?_set] at hjl
  split at hjl
  ·rename_i hij
   obtain ⟨h1,h2⟩:=hw (by omega)
   exact ⟨up _ h1,up _ h2⟩
  ·obtain ⟨h1,h2⟩:=h.w j hj hjl
   exact ⟨up _ h1,up _ h2⟩
theorem soon1 (es:List Event) (hv:Valid es) (hB:Bd.B≤2147483648) (a b:Nat) (x y:Event) (ha:es[a]? = some x) (hb:es[b]? = some y) : Con P0 166 [.i .i64 a,.i .i64 b,.po (gT es) 0] (.t (.b (ltP es a b))) []:=by
 have hal:=(List.getElem?_eq_some_iff.1 ha).1
 have hbl:=(List.getElem?_eq_some_iff.1 hb).1
 refine Con.intro (fn:=Tryz.f166) [.tmp 5] (fun i=>if i=1 then (999999,[]) else if i=2 then (17,[]) else (0,[])) mixed (by kernel_rfl) rfl (by decide) rfl (by rfl) (by kernel_rfl) ?_
 simp -implicitDefEqProofs (maxSteps:=2000000) only [push_cast,zA,zB,zC,zD,zE,zF,zG,↓reduceIte,reduceCtorEq]
 refine WL.inv (CJ es a b x y) [[],[0],[1],[2],[],[3,4],[5],[],[7],[8],[9],[],[10,11],[12],[],[],[0,1,2,3,4,5,6,14,15],[0,1,2,3,4,5,6,7,8,9,10,11,12,13,14,15,16]] mixed (by kernel_rfl) ⟨rfl,rfl,rfl,rfl,rfl,fun i d z _ h=>?_,fun i _ h=>?_,rfl⟩ (fun l σ i hi hl hJ hf hd=>?_) (fun σ hJ=>?_)
 ·simp only [List.length_cons,List.length_nil,List.getElem?_replicate] at h
  split at h<;>cases h
 ·simp only [List.length_cons,List.length_nil,List.getElem?_replicate] at h
  split at h<;>cases h
 ·have hi : i < 18:=hi
  obtain ⟨n,tm,ob⟩:=σ
  have g0 : getL tm 0=_:=hJ.t0
  have g1 : getL tm 1=_:=hJ.t1
  have g2 : getL tm 2=_:=hJ.t2
  have hn : ∀ k,k < 42→k < n:=fun k hk=>by rw [show n=42 from hJ.n]; exact hk
  match i,hi,hf,hd with
  | 0,_,hf,hd =>
    simp -implicitDefEqProofs (maxSteps:=2000000) only [push_cast,zA,zB,zC,zD,zE,zF,zG,↓reduceIte,reduceCtorEq,g0,g1,g2,gT]
    exact ⟨hn _ (by decide),hJ.look rfl (by decide) rfl⟩
  | 1,_,hf,hd =>
    have g8 : getL tm 8=_:=hJ.val 0 _ _ rfl (hd 0 (by decide))
    simp -implicitDefEqProofs (maxSteps:=2000000) only [push_cast,zA,zB,zC,zD,zE,zF,zG,↓reduceIte,reduceCtorEq,g0,g1,g2,g8,gT]
    exact ⟨hn _ (by decide),hJ.look rfl (by decide) rfl⟩
  | 2,_,hf,hd =>
    have g9 : getL tm 9=_:=hJ.val 1 _ _ rfl (hd 1 (by decide))
    simp -implicitDefEqProofs (maxSteps:=2000000) only [push_cast,zA,zB,zC,zD,zE,zF,zG,↓reduceIte,reduceCtorEq,g0,g1,g2,g9,gT]
    exact ⟨hn _ (by decide),hJ.look rfl (by decide) rfl⟩
  | 3,_,hf,hd =>
    have g10 : getL tm 10=_:=hJ.val 2 _ _ rfl (hd 2 (by decide))
    simp -implicitDefEqProofs (maxSteps:=2000000) only [push_cast,zA,zB,zC,zD,zE,zF,zG,↓reduceIte,reduceCtorEq,g0,g1,g2,g10,gT]
    exact ⟨hn _ (by decide),hJ.look rfl (by decide) rfl⟩
  | 4,_,hf,hd =>
    simp -implicitDefEqProofs (maxSteps:=2000000) only [push_cast,zA,zB,zC,zD,zE,zF,zG,↓reduceIte,reduceCtorEq,g0,g1,g2,gT]
    exact ⟨hn _ (by decide),hJ.look rfl (by decide) rfl⟩
  | 5,_,hf,hd =>
    have g11 : getL tm 11=_:=hJ.val 3 _ _ rfl (hd 3 (by decide))
    have g12 : getL tm 12=_:=hJ.val 4 _ _ rfl (hd 4 (by decide))
    simp -implicitDefEqProofs (maxSteps:=2000000) only [push_cast,zA,zB,zC,zD,zE,zF,zG,↓reduceIte,reduceCtorEq,g0,g1,g2,g11,g12,gT]
    refine ⟨hn _ (by decide),by omega,fun z hz=>?_⟩
    rw [Int.toNat_natCast,ha] at hz
    cases hz
    exact hJ.look rfl (by decide) rfl
  | 6,_,hf,hd =>
    have g13 : getL tm 13=_:=hJ.val 5 _ _ rfl (hd 5 (by decide))
    simp -implicitDefEqProofs (maxSteps:=2000000) only [push_cast,zA,zB,zC,zD,zE,zF,zG,↓reduceIte,reduceCtorEq,g0,g1,g2,g13,gT]
    exact ⟨hn _ (by decide),hJ.look rfl (by decide) rfl⟩
  | 7,_,hf,hd =>
    simp -implicitDefEqProofs (maxSteps:=2000000) only [push_cast,zA,zB,zC,zD,zE,zF,zG,↓reduceIte,reduceCtorEq,g0,g1,g2,gT]
    exact ⟨hn _ (by decide),hJ.look rfl (by decide) rfl⟩
  | 8,_,hf,hd =>
    have g15 : getL tm 15=_:=hJ.val 7 _ _ rfl (hd 7 (by decide))
    simp -implicitDefEqProofs (maxSteps:=2000000) only [push_cast,zA,zB,zC,zD,zE,zF,zG,↓reduceIte,reduceCtorEq,g0,g1,g2,g15,gT]
    exact ⟨hn _ (by decide),hJ.look rfl (by decide) rfl⟩
  | 9,_,hf,hd =>
    have g16 : getL tm 16=_:=hJ.val 8 _ _ rfl (hd 8 (by decide))
    simp -implicitDefEqProofs (maxSteps:=2000000) only [push_cast,zA,zB,zC,zD,zE,zF,zG,↓reduceIte,reduceCtorEq,g0,g1,g2,g16,gT]
    exact ⟨hn _ (by decide),hJ.look rfl (by decide) rfl⟩
  | 10,_,hf,hd =>
    have g17 : getL tm 17=_:=hJ.val 9 _ _ rfl (hd 9 (by decide))
    simp -implicitDefEqProofs (maxSteps:=2000000) only [push_cast,zA,zB,zC,zD,zE,zF,zG,↓reduceIte,reduceCtorEq,g0,g1,g2,g17,gT]
    exact ⟨hn _ (by decide),hJ.look rfl (by decide) rfl⟩
  | 11,_,hf,hd =>
    simp -implicitDefEqProofs (maxSteps:=2000000) only [push_cast,zA,zB,zC,zD,zE,zF,zG,↓reduceIte,reduceCtorEq,g0,g1,g2,gT]
    exact ⟨hn _ (by decide),hJ.look rfl (by decide) rfl⟩
  | 12,_,hf,hd =>
    have g18 : getL tm 18=_:=hJ.val 10 _ _ rfl (hd 10 (by decide))
    have g19 : getL tm 19=_:=hJ.val 11 _ _ rfl (hd 11 (by decide))
    simp -implicitDefEqProofs (maxSteps:=2000000) only [push_cast,zA,zB,zC,zD,zE,zF,zG,↓reduceIte,reduceCtorEq,g0,g1,g2,g18,g19,gT]
    refine ⟨hn _ (by decide),by omega,fun z hz=>?_⟩
    rw [Int.toNat_natCast,hb] at hz
    cases hz
    exact hJ.look rfl (by decide) rfl
  | 13,_,hf,hd =>
    have g20 : getL tm 20=_:=hJ.val 12 _ _ rfl (hd 12 (by decide))
    simp -implicitDefEqProofs (maxSteps:=2000000) only [push_cast,zA,zB,zC,zD,zE,zF,zG,↓reduceIte,reduceCtorEq,g0,g1,g2,g20,gT]
    exact ⟨hn _ (by decide),hJ.look rfl (by decide) rfl⟩
  | 14,_,hf,hd =>
    have h16 : l[16]? = some false:=by
     cases h : l[16]? with
     | none => rw [List.getElem?_eq_none_iff,hl] at h; exact absurd h (by decide)
     | some v => cases v with
       | false => rfl
       | true => have:=(hJ.w 16 (by omega) h).1; rw [hf] at this; cases this
    have h17 : l[17]? = some false:=by
     cases h : l[17]? with
     | none => rw [List.getElem?_eq_none_iff,hl] at h; exact absurd h (by decide)
     | some v => cases v with
       | false => rfl
       | true => have:=(hJ.w 17 (by omega) h).1; rw [hf] at this; cases this
    have hO:=hJ.ob
    simp -implicitDefEqProofs (maxSteps:=2000000) only [push_cast,zA,zB,zC,zD,zE,zF,zG,↓reduceIte,reduceCtorEq,gT]
    refine ⟨hn _ (by decide),hJ.obj (by omega) (fun t h6 h7=>by simp [getL,h6]) (fun h=>absurd h (by omega)) ?_⟩
    simp only [List.getD_eq_getElem?_getD,hf,h16,h17,Option.getD_some,List.getElem?_set_self (show 14 < l.length by rw [hl]; decide),List.getElem?_set_ne (show (14:Nat)≠15 by decide),List.getElem?_set_ne (show (14:Nat)≠16 by decide),List.getElem?_set_ne (show (14:Nat)≠17 by decide)] at hO ⊢
    cases h15 : l[15]?.getD false<;>simp only [h15,cOB] at hO ⊢
    ·rw [hO]; exact ⟨rfl,rfl⟩
    ·rw [hO.1]; exact .inr ⟨rfl,rfl,hO.2⟩
  | 15,_,hf,hd =>
    have h16 : l[16]? = some false:=by
     cases h : l[16]? with
     | none => rw [List.getElem?_eq_none_iff,hl] at h; exact absurd h (by decide)
     | some v => cases v with
       | false => rfl
       | true => have:=(hJ.w 16 (by omega) h).2; rw [hf] at this; cases this
    have h17 : l[17]? = some false:=by
     cases h : l[17]? with
     | none => rw [List.getElem?_eq_none_iff,hl] at h; exact absurd h (by decide)
     | some v => cases v with
       | false => rfl
       | true => have:=(hJ.w 17 (by omega) h).2; rw [hf] at this; cases this
    have hO:=hJ.ob
    simp -implicitDefEqProofs (maxSteps:=2000000) only [push_cast,zA,zB,zC,zD,zE,zF,zG,↓reduceIte,reduceCtorEq,gT]
    refine ⟨hn _ (by decide),hJ.obj (by omega) (fun t h6 h7=>by simp [getL,h7]) (fun h=>absurd h (by omega)) ?_⟩
    simp only [List.getD_eq_getElem?_getD,hf,h16,h17,Option.getD_some,List.getElem?_set_self (show 15 < l.length by rw [hl]; decide),List.getElem?_set_ne (show (15:Nat)≠14 by decide),List.getElem?_set_ne (show (15:Nat)≠16 by decide),List.getElem?_set_ne (show (15:Nat)≠17 by decide)] at hO ⊢
    cases h14 : l[14]?.getD false<;>simp only [h14,cOB] at hO ⊢
    ·rw [hO]; exact ⟨rfl,rfl⟩
    ·rw [hO.1]; exact .inl ⟨rfl,hO.2,rfl⟩
  | 16,_,hf,hd =>
    have g14 : getL tm 14=_:=hJ.val 6 _ _ rfl (hd 6 (by decide))
    have h14:=hd 14 (by decide)
    have h15:=hd 15 (by decide)
    have hO:=hJ.ob
    simp only [List.getD_eq_getElem?_getD,hf,h14,h15,Option.getD_some,cOB] at hO
    rcases hO with ⟨rfl,h6,h7⟩ | ⟨rfl,h6,h7⟩
    ·simp -implicitDefEqProofs (maxSteps:=2000000) only [push_cast,zA,zB,zC,zD,zE,zF,zG,↓reduceIte,reduceCtorEq,gT,g14,h6,h7]
     refine ⟨rfl,hJ.obj (by omega) (fun _ _ _=>rfl) (fun _=>⟨h14,h15⟩) ?_⟩
     simp only [List.getD_eq_getElem?_getD,h14,h15,Option.getD_some,List.getElem?_set_self (show 16 < l.length by rw [hl]; decide),List.getElem?_set_ne (show (16:Nat)≠14 by decide),List.getElem?_set_ne (show (16:Nat)≠15 by decide),List.getElem?_set_ne (show (16:Nat)≠17 by decide),cOB]
     exact .inl ⟨rfl,h6,h7⟩
    ·simp -implicitDefEqProofs (maxSteps:=2000000) only [push_cast,zA,zB,zC,zD,zE,zF,zG,↓reduceIte,reduceCtorEq,gT,g14,h6,h7]
     refine ⟨rfl,hJ.obj (by omega) (fun _ _ _=>rfl) (fun _=>⟨h14,h15⟩) ?_⟩
     simp only [List.getD_eq_getElem?_getD,h14,h15,Option.getD_some,List.getElem?_set_self (show 16 < l.length by rw [hl]; decide),List.getElem?_set_ne (show (16:Nat)≠14 by decide),List.getElem?_set_ne (show (16:Nat)≠15 by decide),List.getElem?_set_ne (show (16:Nat)≠17 by decide),cOB]
     exact .inr ⟨rfl,h6,h7⟩
  | 17,_,hf,hd =>
    have g21 : getL tm 21=_:=hJ.val 13 _ _ rfl (hd 13 (by decide))
    have h14:=hd 14 (by decide)
    have h15:=hd 15 (by decide)
    have hO:=hJ.ob
    simp only [List.getD_eq_getElem?_getD,hf,h14,h15,Option.getD_some,cOB] at hO
    rcases hO with ⟨rfl,h6,h7⟩ | ⟨rfl,h6,h7⟩
    ·simp -implicitDefEqProofs (maxSteps:=2000000) only [push_cast,zA,zB,zC,zD,zE,zF,zG,↓reduceIte,reduceCtorEq,gT,g21,h6,h7]
     refine ⟨rfl,hJ.obj (by omega) (fun _ _ _=>rfl) (fun _=>⟨h14,h15⟩) ?_⟩
     simp only [List.getD_eq_getElem?_getD,h14,h15,Option.getD_some,List.getElem?_set_self (show 17 < l.length by rw [hl]; decide),List.getElem?_set_ne (show (17:Nat)≠14 by decide),List.getElem?_set_ne (show (17:Nat)≠15 by decide),List.getElem?_set_ne (show (17:Nat)≠16 by decide),cOB]
     exact .inl ⟨rfl,h6,h7⟩
    ·simp -implicitDefEqProofs (maxSteps:=2000000) only [push_cast,zA,zB,zC,zD,zE,zF,zG,↓reduceIte,reduceCtorEq,gT,g21,h6,h7]
     refine ⟨rfl,hJ.obj (by omega) (fun _ _ _=>rfl) (fun _=>⟨h14,h15⟩) ?_⟩
     simp only [List.getD_eq_getElem?_getD,h14,h15,Option.getD_some,List.getElem?_set_self (show 17 < l.length by rw [hl]; decide),List.getElem?_set_ne (show (17:Nat)≠14 by decide),List.getElem?_set_ne (show (17:Nat)≠15 by decide),List.getElem?_set_ne (show (17:Nat)≠16 by decide),cOB]
     exact .inr ⟨rfl,h6,h7⟩
  | k + 18, hi, _, _ => omega
 ·have hw : Wk 0 σ ⟨42,[(0,.t (.i .i64 (a:Int))),(1,.t (.i .i64 (b:Int))),(2,.t (.po (gT es) 0)),(6,.rf 0 0),(7,.rf 1 0)],[.box (.t (eEvent x)),.box (.t (eEvent y))]⟩:=by
   obtain ⟨n,tm,ob⟩:=σ
   have g0 : getL tm 0=_:=hJ.t0
   have g1 : getL tm 1=_:=hJ.t1
   have g2 : getL tm 2=_:=hJ.t2
   have hn : n=42:=hJ.n
   subst hn
   have hO : cOB zEw (.t (eEvent x)) (.t (eEvent y)) true true true true ⟨42,tm,ob⟩:=hJ.ob
   simp only [cOB,if_true] at hO
   rcases hO with ⟨rfl,h6,h7⟩ | ⟨rfl,h6,h7⟩
   ·refine Keep.wk (ids:=[some 0,some 1]) ?_
    simp only [push_cast,zA,zB,zC,zD,zE,zF,zG,↓reduceIte,reduceCtorEq,g0,g1,g2,h6,h7]<;>trivial
   ·refine Keep.wk (ids:=[some 1,some 0]) ?_
    simp only [push_cast,zA,zB,zC,zD,zE,zF,zG,↓reduceIte,reduceCtorEq,g0,g1,g2,h6,h7]<;>trivial
  refine ⟨_,hw,?_⟩
  have c1:=graphAuthor es hv a x ha hB
  have c2:=graphAuthor es hv b y hb hB
  simp only [gT] at c1 c2
  simp -implicitDefEqProofs (maxSteps:=2000000) only [push_cast,zA,zB,zC,zD,zE,zF,zG,↓reduceIte,reduceCtorEq,gT]
  refine CallV.t c2 (.inl rfl) ?_
  simp -implicitDefEqProofs (maxSteps:=2000000) only [push_cast,zA,zB,zC,zD,zE,zF,zG,↓reduceIte,reduceCtorEq,gT]
  refine CallV.t c1 (.inl rfl) ?_
  simp -implicitDefEqProofs (maxSteps:=2000000) only [push_cast,zA,zB,zC,zD,zE,zF,zG,↓reduceIte,reduceCtorEq,gT]
  refine CallV.t (compareI _ _) (.inl rfl) ?_
  simp -implicitDefEqProofs (maxSteps:=2000000) only [push_cast,zA,zB,zC,zD,zE,zF,zG,↓reduceIte,reduceCtorEq,gT,eEvent]
  refine CallV.t (compareI _ _) (.inl rfl) ?_
  simp -implicitDefEqProofs (maxSteps:=2000000) only [push_cast,zA,zB,zC,zD,zE,zF,zG,↓reduceIte,reduceCtorEq,gT,eEvent]
  refine CallV.t (compareS _ _) (.inl rfl) ?_
  simp -implicitDefEqProofs (maxSteps:=2000000) only [push_cast,zA,zB,zC,zD,zE,zF,zG,↓reduceIte,reduceCtorEq,gT,eEvent]
  refine ⟨rfl,by have:=Bd.lo; omega,?_⟩
  refine Callx.closed (cmpOr [cmpI (autP es b) (autP es a),cmpI x.time y.time,cmpS x.id y.id]) rfl rfl (.inr ⟨rfl,rfl⟩) ?_
  simp -implicitDefEqProofs (maxSteps:=2000000) only [push_cast,zA,zB,zC,zD,zE,zF,zG,↓reduceIte,reduceCtorEq,gT,eEvent]
  have hpx:=hv.pos ha
  have hpy:=hv.pos hb
  have hc:=psn_cmp es x.id y.id
  rw [autI_at hpx,autI_at hpy,timI_at hpx ha,timI_at hpy hb] at hc
  unfold ltP
  rw [idP_at ha,idP_at hb]
  first | rw [hc] | (trace_state; sorry)
end Go.Proofs.YtmgdkkhnjkepiaaGreat.BX
namespace Go.Proofs.YtmgdkkhnjkepiaaGreat.BX
open Nat renaming reduceEqDiff → zA, reduceLT → zB, reduceLeDiff → zC, reduceAdd → zD, reduceMul → zE, reduceSub → zF, reduceBEq → zG
set_option linter.unusedSectionVars false
set_option linter.unusedSimpArgs false
set_option linter.unusedVariables false
open Go Go.RowKit HH
set_option maxRecDepth 20000
set_option maxHeartbeats 400000
variable [Bd]
abbrev nT (x:Nat) : T:=.i .i64 x
abbrev nO (l:List Nat) : Ob:=.arr 3 1 (.own .leaf) (l.map nT)
theorem seesM {ob:List Ob} {n:Nat} : ∀ {c:List T},seesW (AV.see ob (n + 1)) (c.map AV.t)=some c
 | [] => rfl
 | x :: c => by
   have h:=seesM (ob:=ob) (n:=n) (c:=c)
   have h1 : AV.see ob (n + 1) (.t x)=some x:=by simp only [AV.see]
   simp only [List.map_cons,seesW,h1,h]<;>rfl
theorem pilePush (lt:Nat→Nat→Bool) (f:FuncId) (c:List T) (hf6:f < 1000000) (n:Nat) (hn:n≤1000) (hp:∀ a b,a < n→b < n→Con P0 f (.i .i64 a :: .i .i64 b :: c) (.t (.b (lt a b))) []) (l:List Nat) (v:Nat) (hl:∀ x∈l,x < n) (hv:v < n) (hlen:l.length≤1000) (hB:Bd.B≤2147483648) :
 ConM P0 170 [.rf 0 0,.t (.i .i64 v)] [.box (.ag [.sr 1,.t (.fn f c)]),nO l] (.tp []) [.box (.ag [.sr 2,.t (.fn f c)]),.dead,nO (pushL lt l v)]:=by
 refine ConM.intro (fn:=Tryz.f170) [] (fun i=>if i=3 then (32,[(false,0),(false,1),(false,2),(false,3),(false,4),(false,5),(false,6),(false,7),(false,8),(false,9),(false,10),(false,11),(false,12),(false,13),(false,14),(false,15),(false,16),(false,17),(false,18),(false,19),(false,20),(false,21),(false,22),(false,23),(false,24),(false,25),(false,26),(false,27),(false,28),(true,29),(false,30),(true,31)]) else if i=2 then (25,[]) else (0,[])) mixed (by kernel_rfl) rfl (by decide) rfl (by rfl) (by kernel_rfl) ?_
 simp -implicitDefEqProofs (maxSteps:=2000000) only [push_cast,zA,zB,zC,zD,zE,zF,zG,↓reduceIte,reduceCtorEq,hf6]
 have:=Bd.lo
 refine ⟨rfl,by omega,rfl,by omega,by omega,fun _=>⟨by unfold inI64; omega,?_⟩⟩
 refine WL.loop (ι:=List Nat × Nat) (D:=(fun i=>if i=3 then (32,[(false,0),(false,1),(false,2),(false,3),(false,4),(false,5),(false,6),(false,7),(false,8),(false,9),(false,10),(false,11),(false,12),(false,13),(false,14),(false,15),(false,16),(false,17),(false,18),(false,19),(false,20),(false,21),(false,22),(false,23),(false,24),(false,25),(false,26),(false,27),(false,28),(true,29),(false,30),(true,31)]) else if i=2 then (25,[]) else (0,[]))) (fun i=>i.1.length=l.length + 1∧i.2 < i.1.length∧(∀ x∈i.1,x < n)∧upL lt i.1 i.2=pushL lt l v) (fun i=>⟨79,[(0,.rf 0 0),(4,.t (.i .i64 i.2))],[.box (.ag [.sr 2,.t (.fn f c)]),.dead,nO i.1]⟩) (fun i=>i.2) mixed (by kernel_rfl) (l ++ [v],l.length) ⟨by simp,by simp,fun x hx=>?_,rfl⟩ (Keep.wk (ids:=[some 0,some 1,some 3]) ?_) ?_
 ·rcases List.mem_append.1 hx with hx | hx
  ·exact hl x hx
  ·rw [List.mem_singleton.1 hx]; exact hv
 ·simp only [push_cast,zA,zB,zC,zD,zE,zF,zG,↓reduceIte,reduceCtorEq,List.map_append,List.map_cons,List.map_nil,show ((l.length : Int) + 1 - 1)=l.length by omega]<;>rfl
 ·rintro ⟨m,i⟩ ⟨h1,h2,h3,h4⟩
  simp only at h1 h2 h3 h4
  simp -implicitDefEqProofs (maxSteps:=2000000) only [push_cast,zA,zB,zC,zD,zE,zF,zG,↓reduceIte,reduceCtorEq,hf6]
  have hhi:=Bd.hi
  have hpar : ((i:Int) - 1) / 2=(par i:Nat) ∨ i=0:=by unfold par; omega
  have hpl : par i < m.length:=by unfold par; omega
  refine iteI (fun h=>⟨by omega,by omega,fun a ha=>⟨by unfold inI64; omega,by omega,by omega,by unfold inI64; omega,by omega,by omega,fun b hb=>?_⟩⟩) (fun h=>?_)
  ·have e1 : ((i:Int) - 1) / 2=(par i:Nat):=by omega
   rw [e1] at hb ⊢
   rw [Int.toNat_natCast] at ha hb
   have ga:=gN_at ha
   have gb:=gN_at hb
   have ia:=h3 a (List.mem_of_getElem? ha)
   have ib:=h3 b (List.mem_of_getElem? hb)
   rw [seesM]
   simp only [Option.map_some,onSome]
   refine CallV.t (hp a b ia ib) (.inr rfl) ?_
   simp -implicitDefEqProofs (maxSteps:=2000000) only [push_cast,zA,zB,zC,zD,zE,zF,zG,↓reduceIte,reduceCtorEq,hf6]
   refine iteI (fun h5=>?_) (fun h5=>?_)
   ·rw [e1]
    refine ⟨by unfold inI64; omega,by omega,by omega,by unfold inI64; omega,by unfold inI64; omega,by omega,by omega,by unfold inI64; omega,by omega,by omega,fun b' hb'=>⟨by omega,by omega,fun a' ha'=>⟨by omega,by omega,fun a'' ha''=>⟨by omega,by omega,fun y hy=>?_⟩⟩⟩⟩
    simp only [Int.toNat_natCast] at hb' ha' hy
    rw [hb] at hb'
    rw [ha] at ha'
    cases hb'
    cases ha'
    have hne : i≠par i:=by unfold par; omega
    rw [List.getElem?_set_ne hne,List.getElem?_map,hb] at hy
    cases hy
    simp -implicitDefEqProofs (maxSteps:=2000000) only [push_cast,zA,zB,zC,zD,zE,zF,zG,↓reduceIte,reduceCtorEq,hf6]
    refine ⟨by unfold inI64; omega,by omega,by omega,by unfold inI64; omega,(swp m i (par i),par i),⟨by rw [swp_len]; exact h1,by rw [swp_len]; exact hpl,fun x hx=>h3 x ((swp_perm h2 hpl).mem_iff.1 hx),?_⟩,by simp only; unfold par; omega,Keep.wk (ids:=[some 0,some 1,some 2]) ?_⟩
    ·simp only
     rw [← upL_go lt ⟨by omega,by rw [ga,gb]; exact h5⟩]
     exact h4
    ·have hsw : (swp m i (par i)).map nT=((m.map nT).set i (nT b)).set (par i) (nT a):=by unfold swp; rw [List.map_set,List.map_set,ga,gb]
     simp only [push_cast,zA,zB,zC,zD,zE,zF,zG,↓reduceIte,reduceCtorEq,hsw,e1,Int.toNat_natCast]<;>rfl
   ·rw [upL_stop lt (by rw [ga,gb]; exact fun hh=>h5 hh.2)] at h4
    rw [h4]
    exact Close.of [some 0,some 1,some 2] rfl rfl rfl (by simp only [push_cast,zA,zB,zC,zD,zE,zF,zG,↓reduceIte,reduceCtorEq]<;>rfl) (by simp only [push_cast,zA,zB,zC,zD,zE,zF,zG,↓reduceIte,reduceCtorEq]<;>rfl)
  ·rw [upL_stop lt (fun hh=>h (by omega))] at h4
   rw [h4]
   exact Close.of [some 0,some 1,some 2] rfl rfl rfl (by simp only [push_cast,zA,zB,zC,zD,zE,zF,zG,↓reduceIte,reduceCtorEq]<;>rfl) (by simp only [push_cast,zA,zB,zC,zD,zE,zF,zG,↓reduceIte,reduceCtorEq]<;>rfl)
theorem pilePop (lt:Nat→Nat→Bool) (f:FuncId) (c:List T) (hf6:f < 1000000) (n:Nat) (hn:n≤1000) (hp:∀ a b,a < n→b < n→Con P0 f (.i .i64 a :: .i .i64 b :: c) (.t (.b (lt a b))) []) (l:List Nat) (hl:∀ x∈l,x < n) (hne:l≠[]) (hlen:l.length≤1000) (hB:Bd.B≤2147483648) :
 ConM P0 171 [.rf 0 0] [.box (.ag [.sr 1,.t (.fn f c)]),nO l] (.t (nT (gN l 0))) [.box (.ag [.sr 2,.t (.fn f c)]),.dead,nO (popL lt l)]:=by
 refine ConM.intro (fn:=Tryz.f171) [.tmp 2] (fun i=>if i=14 then (28,[(false,0),(false,1),(false,2),(false,3),(false,4),(false,5),(false,6),(false,7),(false,8),(false,9),(false,10),(false,11),(false,12),(false,13),(false,14),(false,15),(false,16),(false,17),(false,18),(false,19),(false,20),(false,21),(false,22),(false,23),(false,24),(true,25),(false,26),(true,27)]) else if i=10 then (24,[]) else if i=3 then (12,[]) else (0,[])) mixed (by kernel_rfl) rfl (by decide) rfl (by rfl) (by kernel_rfl) ?_
 simp -implicitDefEqProofs (maxSteps:=2000000) only [push_cast,zA,zB,zC,zD,zE,zF,zG,↓reduceIte,reduceCtorEq,hf6]
 have:=Bd.lo
 have hl0:=List.length_pos_iff.2 hne
 have eN : ((l.length : Int) - 1)=((l.length - 1 : Nat) : Int):=by omega
 have eN' : (((l.length : Int) - 1)).toNat=l.length - 1:=by omega
 refine ⟨by omega,by omega,fun a ha hlb=>⟨by unfold inI64; omega,by omega,by omega,fun z hz=>⟨by omega,by omega,fun a' _=>⟨by omega,by omega,?_⟩⟩⟩⟩
 rw [eN'] at hz ⊢
 have ga:=gN_at (show l[0]? = some a from ha)
 have gz:=gN_at hz
 have hm0 : ((l.map nT).set (Int.toNat 0) (T.i .i64 z)).take (l.length - 1)=(popM l).map nT:=by
  unfold popM
  rw [List.map_take,List.map_set,gz]
  rfl
 rw [hm0,eN]
 have hmn : ∀ x∈popM l,x < n:=fun x hx=>hl x ((popM_perm hne).mem_iff.1 (List.mem_cons_of_mem _ hx))
 have hml:=popM_len (l:=l)
 have hpe : popL lt l=sinkL lt (popM l) 0:=rfl
 rw [hpe,ga]
 generalize popM l=m0 at *
 rw [← hml]
 refine WL.loop (ι:=List Nat × Nat) (D:=(fun i=>if i=14 then (28,[(false,0),(false,1),(false,2),(false,3),(false,4),(false,5),(false,6),(false,7),(false,8),(false,9),(false,10),(false,11),(false,12),(false,13),(false,14),(false,15),(false,16),(false,17),(false,18),(false,19),(false,20),(false,21),(false,22),(false,23),(false,24),(true,25),(false,26),(true,27)]) else if i=10 then (24,[]) else if i=3 then (12,[]) else (0,[]))) (fun i=>i.1.length=m0.length∧i.2≤i.1.length∧(∀ x∈i.1,x < n)∧sinkL lt i.1 i.2=sinkL lt m0 0) (fun i=>⟨112,[(0,.rf 0 0),(3,.t (.i .i64 a)),(4,.t (.i .i64 m0.length)),(5,.t (.i .i64 i.2))],[.box (.ag [.sr 2,.t (.fn f c)]),.dead,nO i.1]⟩) (fun i=>m0.length - i.2) mixed (by kernel_rfl) (m0,0) ⟨rfl,Nat.zero_le _,hmn,rfl⟩ (Keep.wk (ids:=[some 0,some 1,some 2]) ?_) ?_
 ·simp only [push_cast,zA,zB,zC,zD,zE,zF,zG,↓reduceIte,reduceCtorEq]<;>rfl
 ·rintro ⟨m,i⟩ ⟨h1,h2,h3,h4⟩
  simp only at h1 h2 h3 h4
  simp -implicitDefEqProofs (maxSteps:=2000000) only [push_cast,zA,zB,zC,zD,zE,zF,zG,↓reduceIte,reduceCtorEq,hf6]
  have hhi:=Bd.hi
  refine ⟨by unfold inI64; omega,by unfold inI64; omega,by unfold inI64; omega,by unfold inI64; omega,rfl,by omega,fun _=>?_⟩
  obtain ⟨b1,hb1⟩ : ∃ b,bst1 lt m i=b:=⟨_,rfl⟩
  obtain ⟨b2,hb2⟩ : ∃ b,bst lt m i=b:=⟨_,rfl⟩
  have hbd1 : b1=i ∨ b1=2 * i + 1∧b1 < m.length:=by
   rw [← hb1]; unfold bst1; split
   ·rename_i hc; exact .inr ⟨rfl,hc.1⟩
   ·exact .inl rfl
  have hbd2:=bst_bd lt (l:=m) (i:=i)
  rw [hb2] at hbd2
  refine WL.loop (ι:=Nat) (D:=(fun i=>if i=14 then (28,[(false,0),(false,1),(false,2),(false,3),(false,4),(false,5),(false,6),(false,7),(false,8),(false,9),(false,10),(false,11),(false,12),(false,13),(false,14),(false,15),(false,16),(false,17),(false,18),(false,19),(false,20),(false,21),(false,22),(false,23),(false,24),(true,25),(false,26),(true,27)]) else if i=10 then (24,[]) else if i=3 then (12,[]) else (0,[]))) (fun k=>k≤2) (fun k=>⟨112,[(0,.rf 0 0),(3,.t (.i .i64 a)),(4,.t (.i .i64 m0.length)),(5,.t (.i .i64 i)),(6,.t (.i .i64 ((if k=0 then i else if k=1 then b1 else b2 : Nat)))),(49,.sr 3),(50,.t (.i .i64 2)),(51,.t (.i .i64 k))],[.box (.ag [.sr 2,.t (.fn f c)]),.dead,nO m,.arr 3 1 (.own .leaf) [T.i .i64 (2 * (i:Int) + 1),T.i .i64 (2 * (i:Int) + 2)]]⟩) (fun k=>2 - k) mixed (by kernel_rfl) 0 (by omega) (Keep.wk (ids:=[some 0,some 1,some 2,some 3]) ?_) ?_
  ·simp only [push_cast,zA,zB,zC,zD,zE,zF,zG,↓reduceIte,reduceCtorEq,show ((0:Int) + 1 + 1)=2 from rfl]<;>rfl
  intro k hk
  have hk3 : k=0 ∨ k=1 ∨ k=2:=by omega
  rcases hk3 with rfl | rfl | rfl
  ·simp -implicitDefEqProofs (maxSteps:=2000000) only [push_cast,zA,zB,zC,zD,zE,zF,zG,↓reduceIte,reduceCtorEq,hf6]
   refine iteI (fun _=>⟨by omega,by decide,fun y hy=>?_⟩) (fun h=>absurd (by decide) h)
   cases hy
   simp -implicitDefEqProofs (maxSteps:=2000000) only [push_cast,zA,zB,zC,zD,zE,zF,zG,↓reduceIte,reduceCtorEq,hf6]
   have eA : (2 * (i:Int) + 1).toNat=2 * i + 1:=by omega
   refine iteI (fun h=>⟨by omega,by omega,fun x hx=>⟨by omega,by omega,fun u hu=>?_⟩⟩) (fun h=>?_)
   ·rw [eA] at hx
    rw [Int.toNat_natCast] at hu
    have gx:=gN_at hx
    have gu:=gN_at hu
    rw [seesM]
    simp only [Option.map_some,onSome]
    refine CallV.t (hp x u (h3 x (List.mem_of_getElem? hx)) (h3 u (List.mem_of_getElem? hu))) (.inr rfl) ?_
    simp -implicitDefEqProofs (maxSteps:=2000000) only [push_cast,zA,zB,zC,zD,zE,zF,zG,↓reduceIte,reduceCtorEq,hf6]
    refine iteI (fun h5=>?_) (fun h5=>?_)
    ·have hb : (b1:Int)=2 * (i:Int) + 1:=by
      rw [← hb1]; unfold bst1; rw [if_pos ⟨by omega,by rw [gx,gu]; exact h5⟩]; omega
     refine ⟨by unfold inI64; omega,1,by omega,by omega,Keep.wk (ids:=[some 0,some 1,some 2,some 3]) ?_⟩
     simp only [push_cast,zA,zB,zC,zD,zE,zF,zG,↓reduceIte,reduceCtorEq,hb,if_pos rfl,if_neg (show ¬ (1:Nat)=0 by decide),if_neg (show ¬ (2:Nat)=0 by decide),if_neg (show ¬ (2:Nat)=1 by decide)]<;>rfl
    ·have hb : (b1:Int)=i:=by
      rw [← hb1]; unfold bst1; rw [if_neg (by rw [gx,gu]; exact fun hh=>h5 hh.2)]
     refine ⟨by unfold inI64; omega,1,by omega,by omega,Keep.wk (ids:=[some 0,some 1,some 2,some 3]) ?_⟩
     simp only [push_cast,zA,zB,zC,zD,zE,zF,zG,↓reduceIte,reduceCtorEq,hb,if_pos rfl,if_neg (show ¬ (1:Nat)=0 by decide),if_neg (show ¬ (2:Nat)=0 by decide),if_neg (show ¬ (2:Nat)=1 by decide)]<;>rfl
   ·have hb : (b1:Int)=i:=by
     rw [← hb1]; unfold bst1; rw [if_neg (fun hh=>h (by have:=hh.1; omega))]
    refine ⟨by unfold inI64; omega,1,by omega,by omega,Keep.wk (ids:=[some 0,some 1,some 2,some 3]) ?_⟩
    simp only [push_cast,zA,zB,zC,zD,zE,zF,zG,↓reduceIte,reduceCtorEq,hb,if_pos rfl,if_neg (show ¬ (1:Nat)=0 by decide),if_neg (show ¬ (2:Nat)=0 by decide),if_neg (show ¬ (2:Nat)=1 by decide)]<;>rfl
  ·simp -implicitDefEqProofs (maxSteps:=2000000) only [push_cast,zA,zB,zC,zD,zE,zF,zG,↓reduceIte,reduceCtorEq,hf6]
   refine iteI (fun _=>⟨by omega,by decide,fun y hy=>?_⟩) (fun h=>absurd (by decide) h)
   cases hy
   simp -implicitDefEqProofs (maxSteps:=2000000) only [push_cast,zA,zB,zC,zD,zE,zF,zG,↓reduceIte,reduceCtorEq,hf6]
   have eA : (2 * (i:Int) + 2).toNat=2 * i + 2:=by omega
   refine iteI (fun h=>⟨by omega,by omega,fun x hx=>⟨by omega,by omega,fun u hu=>?_⟩⟩) (fun h=>?_)
   ·rw [eA] at hx
    rw [Int.toNat_natCast] at hu
    have gx:=gN_at hx
    have gu:=gN_at hu
    rw [seesM]
    simp only [Option.map_some,onSome]
    refine CallV.t (hp x u (h3 x (List.mem_of_getElem? hx)) (h3 u (List.mem_of_getElem? hu))) (.inr rfl) ?_
    simp -implicitDefEqProofs (maxSteps:=2000000) only [push_cast,zA,zB,zC,zD,zE,zF,zG,↓reduceIte,reduceCtorEq,hf6]
    refine iteI (fun h5=>?_) (fun h5=>?_)
    ·have hb : (b2:Int)=2 * (i:Int) + 2:=by
      rw [← hb2]; unfold bst; rw [hb1,if_pos ⟨by omega,by rw [gx,gu]; exact h5⟩]; omega
     refine ⟨by unfold inI64; omega,2,by omega,by omega,Keep.wk (ids:=[some 0,some 1,some 2,some 3]) ?_⟩
     simp only [push_cast,zA,zB,zC,zD,zE,zF,zG,↓reduceIte,reduceCtorEq,hb,if_pos rfl,if_neg (show ¬ (1:Nat)=0 by decide),if_neg (show ¬ (2:Nat)=0 by decide),if_neg (show ¬ (2:Nat)=1 by decide)]<;>rfl
    ·have hb : (b2:Int)=b1:=by
      rw [← hb2]; unfold bst; rw [hb1,if_neg (by rw [gx,gu]; exact fun hh=>h5 hh.2)]
     refine ⟨by unfold inI64; omega,2,by omega,by omega,Keep.wk (ids:=[some 0,some 1,some 2,some 3]) ?_⟩
     simp only [push_cast,zA,zB,zC,zD,zE,zF,zG,↓reduceIte,reduceCtorEq,hb,if_pos rfl,if_neg (show ¬ (1:Nat)=0 by decide),if_neg (show ¬ (2:Nat)=0 by decide),if_neg (show ¬ (2:Nat)=1 by decide)]<;>rfl
   ·have hb : (b2:Int)=b1:=by
     rw [← hb2]; unfold bst; rw [hb1,if_neg (fun hh=>h (by have:=hh.1; omega))]
    refine ⟨by unfold inI64; omega,2,by omega,by omega,Keep.wk (ids:=[some 0,some 1,some 2,some 3]) ?_⟩
    simp only [push_cast,zA,zB,zC,zD,zE,zF,zG,↓reduceIte,reduceCtorEq,hb,if_pos rfl,if_neg (show ¬ (1:Nat)=0 by decide),if_neg (show ¬ (2:Nat)=0 by decide),if_neg (show ¬ (2:Nat)=1 by decide)]<;>rfl
  ·simp -implicitDefEqProofs (maxSteps:=2000000) only [push_cast,zA,zB,zC,zD,zE,zF,zG,↓reduceIte,reduceCtorEq,hf6]
   refine iteI (fun h=>absurd h (by decide)) (fun _=>?_)
   refine iteI (fun h=>?_) (fun h=>?_)
   ·rw [sinkL_stop lt (by rw [hb2]; omega)] at h4
    rw [← h4]
    exact Rest.of [some 0,some 1,some 2] rfl rfl (by simp only [push_cast,zA,zB,zC,zD,zE,zF,zG,↓reduceIte,reduceCtorEq]<;>first | rfl | trivial)
   ·obtain ⟨hbi,hbm,hbp⟩:=hbd2.resolve_left (fun hh=>h (by rw [hh]))
    refine ⟨by omega,by omega,fun x hx=>⟨by omega,by omega,fun u hu=>⟨by omega,by omega,fun u' _=>⟨by omega,by omega,fun y hy=>?_⟩⟩⟩⟩
    simp only [Int.toNat_natCast] at hx hu hy
    have gx:=gN_at hx
    have gu:=gN_at hu
    rw [List.getElem?_set_ne (by omega),List.getElem?_map,hx] at hy
    cases hy
    simp -implicitDefEqProofs (maxSteps:=2000000) only [push_cast,zA,zB,zC,zD,zE,zF,zG,↓reduceIte,reduceCtorEq,hf6]
    have hil : i < m.length:=by omega
    refine ⟨(swp m i b2,b2),⟨by rw [swp_len]; exact h1,by rw [swp_len]; simp only; omega,fun x hx=>h3 x ((swp_perm hil hbm).mem_iff.1 hx),?_⟩,by simp only; omega,Keep.wk (ids:=[some 0,some 1,some 2]) ?_⟩
    ·simp only
     rw [← h4,sinkL_go lt (l:=m) (i:=i) (by rw [hb2]; omega),hb2]
    ·have hsw : (swp m i b2).map nT=((m.map nT).set i (nT x)).set b2 (nT u):=by unfold swp; rw [List.map_set,List.map_set,gx,gu]
     simp only [push_cast,zA,zB,zC,zD,zE,zF,zG,↓reduceIte,reduceCtorEq,hsw,Int.toNat_natCast]<;>rfl
end Go.Proofs.YtmgdkkhnjkepiaaGreat.BX
namespace Go.Proofs.YtmgdkkhnjkepiaaGreat.BX
open Nat renaming reduceEqDiff → zA, reduceLT → zB, reduceLeDiff → zC, reduceAdd → zD, reduceMul → zE, reduceSub → zF, reduceBEq → zG
set_option linter.unusedSectionVars false
set_option linter.unusedSimpArgs false
set_option linter.unusedVariables false
open Go Go.RowKit Go.Shelf Go.Sort Go.Maps
set_option maxRecDepth 20000
set_option maxHeartbeats 400000
section
variable [Bd]
def srtN (l:List Nat) : List Nat:=((l.map fun x : Nat=>(x:Int)).mergeSort leI).map Int.toNat
theorem srtN_z {l:List Nat} : (l.map fun x : Nat=>(x:Int)).mergeSort leI=(srtN l).map fun x : Nat=>(x:Int):=by
 unfold srtN
 rw [List.map_map]
 have h : ∀ z∈(l.map fun x : Nat=>(x:Int)).mergeSort leI,0≤z:=fun z hz=>by
  obtain ⟨x,_,rfl⟩:=List.mem_map.1 ((List.mergeSort_perm _ _).mem_iff.1 hz)
  omega
 generalize (l.map fun x : Nat=>(x:Int)).mergeSort leI=m at *
 induction m with
 | nil => rfl
 | cons z m ih =>
   rw [List.map_cons,← ih fun y hy=>h y (by simp [hy])]
   congr 1
   simp only [Function.comp]
   have:=h z (by simp)
   omega
theorem srtN_perm {l:List Nat} : List.Perm (srtN l) l:=by
 unfold srtN
 refine ((List.mergeSort_perm _ _).map _).trans ?_
 rw [List.map_map]
 have : (Int.toNat ∘ fun x : Nat=>(x:Int))=id:=by funext x; simp
 rw [this,List.map_id]
theorem foot_nats {w:World} : ∀ {l:List Nat} {vs:List Value} {L:List Nat},footTs w (l.map fun x : Nat=>T.i .i64 x) vs L→vs=l.map fun x : Nat=>encZ x
 | [], vs, L, h => by simp only [List.map_nil,footTs] at h; exact h.1
 | e :: l, vs, L, h => by
   simp only [List.map_cons,footTs,footT] at h
   obtain ⟨v,vs',L1,L2,rfl,_,⟨rfl,_⟩,h2⟩:=h
   rw [foot_nats h2]
   rfl
theorem nats_foot {w:World} : ∀ {l:List Nat},footTs w (l.map fun x : Nat=>T.i .i64 x) (l.map fun x : Nat=>encZ x) []
 | [] => by simp [footTs]
 | x :: l => by
   simp only [List.map_cons,footTs,footT]
   exact ⟨_,_,[],[],rfl,rfl,⟨rfl,rfl⟩,nats_foot⟩
theorem cellsL_nats {l:List Nat} : cellsL (l.map fun x : Nat=>encZ x)=l.map fun x : Nat=>encZ x:=by
 induction l with
 | nil => rfl
 | cons x l ih => simp only [cellsL,List.map_cons,List.flatMap_cons] at ih ⊢; rw [ih]; rfl
theorem keyRdI {x:MapEntry} {k:Nat} (hk:x.key=encZ k) (hl:k < 9223372036854775808) : Go.WideElems.rd P0 3 (fun _=>some ((.nil : DataW Unit),([] : List MemPlace))) x=some (.int .i64 k,.nil):=by
 unfold Go.WideElems.rd
 rw [hk]
 have : keyOf P0 3 (.int .i64 k)=some (.int .i64 k):=keyOf_int_mk (by kernel_rfl) (by rw [Lit.wf,Bool.and_eq_true,decide_eq_true_eq,decide_eq_true_eq]; exact ⟨by show (-9223372036854775808 : Int)≤_; omega,by show _≤(9223372036854775807:Int); omega⟩)
 rw [this]
 rfl
theorem sortsI (m:Nat) : AnyZI.SortsIn P0 Tryz.sortedI_ren Fence.wide m :=
 ⟨fun blk off cap ss W hH hblk hsz=>callsIn_wide.2 (AnyM.slices_Sort_int Tryz.sortI blk off cap ss W hH hblk hsz),
  fun p cap W=>callsIn_wide.2 (AnyM.slices_Sort_int_none Tryz.sortI p cap W)⟩
theorem ents_mapI {w:World} {ks:List Nat} {r:Nat} {es:Array MapEntry} {clock:Nat} {l:List MapEntry} (h1:w.heap[r]? = some (.map es clock)) (hp:List.Perm l es.toList) (hb:(l.map (·.born)).Nodup) (hlt:∀ e∈l,e.born < clock) (hk:l.map (·.key)=ks.map fun x : Nat=>encZ x) (hn:ks.Nodup) (hs:∀ k∈ks,k < 9223372036854775808) (hl:ks.length≤9223372036854775807) :
 ∃ D0 : DataW Unit,w.ownsMap P0 3 (fun _=>some (.nil,[])) r es.size D0∧size D0=ks.length∧List.Perm (intKeys D0) (ks.map fun x : Nat=>(x:Int)):=by
 have hlen : es.toList.length=ks.length:=by rw [← hp.length_eq,← List.length_map (f:=(·.key)),hk,List.length_map]
 have hkey : ∀ x∈es.toList,∃ k∈ks,x.key=encZ k:=fun x hx=>by
  have : x.key∈l.map (·.key):=List.mem_map_of_mem (hp.mem_iff.2 hx)
  rw [hk] at this
  obtain ⟨k,hk1,hk2⟩:=List.mem_map.1 this
  exact ⟨k,hk1,hk2.symm⟩
 refine ⟨_,⟨es,clock,h1,⟨?_,⟨?_,?_,?_⟩,?_⟩,Nat.le_refl _,rfl⟩,?_,?_⟩
 ·rw [← Array.length_toList,hlen]; exact hl
 ·exact fun x hx=>hlt x (hp.mem_iff.2 hx)
 ·exact (hp.map _).nodup_iff.1 hb
 ·refine (hp.map _).nodup_iff.1 ?_
  rw [hk]
  exact List.pairwise_map.2 (hn.imp fun hne e=>hne (by have:=encZ_inj e; omega))
 ·intro x hx
  obtain ⟨k,k1,k2⟩:=hkey x hx
  exact ⟨_,keyRdI k2 (hs k k1)⟩
 ·rw [size_eq,(Go.WideShapes.sorted_perm _).length_eq,List.length_map,hlen]
 ·show List.Perm (List.map (fun p=>Go.intOf p.1) (List.foldr DataW.insert [] _)) _
  refine ((Go.WideShapes.sorted_perm _).map _).trans ?_
  rw [List.map_map]
  refine (hp.symm.map _).trans ?_
  have : ∀ (l:List MapEntry) (ks:List Nat),l.map (·.key)=(ks.map fun x : Nat=>encZ x)→(∀ k∈ks,k < 9223372036854775808)→l.map ((fun p:Lit × DataW Unit=>Go.intOf p.1) ∘ Go.WideElems.rg P0 3 (fun _=>some ((.nil : DataW Unit),([] : List MemPlace))))=ks.map fun x : Nat=>(x:Int):=by
   intro l
   induction l with
   | nil => intro ks h _; cases ks with
     | nil => rfl
     | cons k ks => simp at h
   | cons x l ih =>
     intro ks h hs
     cases ks with
     | nil => simp at h
     | cons k ks =>
       simp only [List.map_cons,List.cons.injEq] at h ⊢
       refine ⟨?_,ih ks h.2 fun k hk=>hs k (by simp [hk])⟩
       simp only [Function.comp,Go.WideElems.rg_of (keyRdI h.1 (hs k (by simp)))]
       rfl
  rw [this l ks hk hs]
set_option maxHeartbeats 1000000 in
theorem sortedKeysI (l:List Nat) (vs:List T) (hD:¬ Bd.D) (hB:Bd.B≤2147483648) (hl:∀ x∈l,x < 1000000) : ConM P0 168 [.fn 213 [.rf 0 0]] [.box (.mr 1),.map 3 3 (.own .leaf) (l.map fun x : Nat=>T.i .i64 x) vs none] (.sr 2)
 [.box (.mr 1),.map 3 3 (.own .leaf) (l.map fun x : Nat=>T.i .i64 x) vs none,.arr 3 1 (.own .leaf) ((srtN l).map fun x : Nat=>T.i .i64 x)]:=by
 refine ⟨⟨_,Tryz.func168,rfl,rfl⟩,?_⟩
 intro w L M vals hv S F hr
 have hsz : vals.length=1:=by simpa using hr.size
 obtain ⟨v,rfl⟩ : ∃ v,vals=[v]:=List.length_eq_one_iff.1 hsz
 obtain ⟨L0,h0,_⟩:=hr.tm 0
 obtain ⟨b,e,u,L1,hb1,hb2,hb3,_⟩:=hr.ob 0 _ rfl
 have e0 : v = .func (.func 213) #[] #[.pointer (some ⟨b,0,none⟩)]:=by
  have : footA hv w (.fn 213 [.rf 0 0]) v L0:=by simpa [numA,getL] using h0
  simp only [footA,footAs] at this
  obtain ⟨vs',rfl,v1,vs1,_,_,rfl,_,⟨b',q1,q2,_⟩,rfl,_⟩:=this
  rw [hb1] at q1
  cases q1
  rw [q2]
  exact fnVal_lo (by decide)
 subst e0
 obtain ⟨r,es,clock,en,hE,hels,hlv,_⟩:=hr.ob 1 _ rfl
 simp only [footA] at hb3
 obtain ⟨rfl,_⟩:=hb3
 have hcell : w.cell? ⟨b,0,none⟩=some (.map (some r)):=by
  rw [hE.val] at hb2
  simp [World.cell?,hb2,Value.cells]
 have hkeys:=foot_nats hE.keys
 have hnd : l.Nodup:=by
  have:=hE.nodup
  exact (List.pairwise_map.1 this).imp fun h e=>h (by rw [e])
 have hsm:=hE.small
 rw [List.length_map] at hsm
 obtain ⟨D0,hown,hsize,hperm⟩:=ents_mapI (ks:=l) hE.heap hE.perm hE.born hE.lt hkeys hnd (fun k hk=>by have:=hl k hk; omega) (by omega)
 have hbl : b < w.heap.size:=heap_lt hb2
 have hseq : SeqGives Fence.wide 2 P0 213 #[.pointer (some ⟨b,0,none⟩)] encZ (fun ss=>ss.Perm (intKeys D0)) (Maps.size D0) w :=
  AnyZI.keys_gives (ρ:=Tryz.keysI_ren) { Tryz.keysI with } Fence.wide _ trivial rfl (by omega) b r es.size D0 w hbl hcell hown
 have hcall:=AnyZI.sorted_in Tryz.sortedI Fence.wide 5 trivial trivial trivial trivial rfl (by omega) (sortsI _) (enters_of Tryz.func212 (by kernel_rfl) rfl) 213 #[.pointer (some ⟨b,0,none⟩)] trivial (enters_of Tryz.func213 (by kernel_rfl) rfl) _ _ (by rw [hsize]; show l.length≤2 ^ 63 - 1; omega) (by rw [hsize]; omega) w hseq
 have hcall:=callsIn_wide.1 hcall
 change Calls P0 168 _ _ _ at hcall
 refine hcall.mono fun e w' ⟨v,ss,he,hss,hrow,hnil,hbel⟩=>?_
 have hsl : List.Perm ss (l.map fun x : Nat=>(x:Int)):=hss.trans hperm
 have hsrt : (ss.mergeSort fun x y=>decide (x≤y))=(srtN l).map fun x : Nat=>(x:Int):=(mergeSort_of_perm_i hsl).trans srtN_z
 rw [hsrt,List.map_map] at hrow
 change w'.ownsRow w.heap.size 3 1 v ss.length ((srtN l).map fun x : Nat=>encZ x) at hrow
 have hlen : ss.length=(srtN l).length:=by rw [hsl.length_eq,List.length_map,srtN_perm.length_eq]
 have hr':=hr.no_tmp
 have g : Grew w w':=Grew.of_below hbel fun d=>absurd d hD
 obtain ⟨hv',S',F',q1,q2,q3,q4⟩:=hr'.newrow g (k:=.own .leaf) (es:=(srtN l).map fun x : Nat=>T.i .i64 x) (vs:=(srtN l).map fun x : Nat=>encZ x) ⟨[],⟨[],fitsAll_own (fitsAll_map fun _=>rfl) nats_foot,by simp,by simp⟩,fun _=>by intro b hb; cases hb⟩ (e:=3) (m:=1) (v:=v)
  (by rw [cellsL_nats,List.length_map,← hlen]; exact hrow) (fun v hv=>by obtain ⟨x,_,rfl⟩:=List.mem_map.1 hv; rfl) (by rw [List.length_map,srtN_perm.length_eq]; exact hsm) (by
   intro u hu
   rw [cellsL_nats] at hu
   obtain ⟨x,_,rfl⟩:=List.mem_map.1 hu
   rfl) (by rcases hrow.2 with ⟨q,_⟩ | ⟨_,_,_,q,_⟩<;>rw [q]<;>rfl)
 exact ⟨v,hv',S',F',[],he,q4,by simp only [footA]; exact ⟨q3.symm,trivial⟩,by simp,rfl⟩
end
end Go.Proofs.YtmgdkkhnjkepiaaGreat.BX
namespace Go.Proofs.YtmgdkkhnjkepiaaGreat.BX
open Nat renaming reduceEqDiff → zA, reduceLT → zB, reduceLeDiff → zC, reduceAdd → zD, reduceMul → zE, reduceSub → zF, reduceBEq → zG
set_option linter.unusedSectionVars false
set_option linter.unusedSimpArgs false
set_option linter.unusedVariables false
open Go Go.RowKit HH
set_option maxRecDepth 20000
set_option maxHeartbeats 400000
theorem n_inj : ∀ a b : Nat,(fun x:Nat=>T.i .i64 x) a=(fun x:Nat=>T.i .i64 x) b→a=b:=fun a b h=>by simp only [T.i.injEq,true_and] at h; omega
theorem aget_fn {β:Type} {c:Nat→β} {k:Nat} : ∀ {l:List Nat},aget k (l.map fun x=>(x,c x))=if k∈l then some (c k) else none
 | [] => by simp [aget]
 | x :: l => by
   rw [List.map_cons]
   unfold aget
   rw [aget_fn (l:=l)]
   by_cases h : x=k
   ·subst h; simp
   ·simp [h,Ne.symm h]
theorem aset_fn {β:Type} {c:Nat→β} {k:Nat} {v:β} : ∀ {l:List Nat},l.Nodup→aset k v (l.map fun x=>(x,c x))=(if k∈l then l else l ++ [k]).map fun x=>(x,if x=k then v else c x)
 | [], _ => by simp [aset]
 | x :: l, hn => by
   rw [List.nodup_cons] at hn
   rw [List.map_cons]
   unfold aset
   by_cases h : x=k
   ·subst h
    simp only [if_true,List.mem_cons,true_or,List.map_cons,List.cons.injEq,true_and]
    refine List.map_congr_left fun y hy=>?_
    rw [if_neg (fun e:y=x=>hn.1 (e ▸ hy))]
   ·rw [if_neg h,aset_fn hn.2]
    simp only [List.mem_cons,Ne.symm h,false_or]
    by_cases hk : k∈l<;>simp [hk,h]
section
variable {β:Type} {ev:β→T}
theorem updFN {c:Nat→β} {k:Nat} {v:β} {l:List Nat} (hn:l.Nodup) : updK (l.map fun x : Nat=>T.i .i64 x) (T.i .i64 k)=(if k∈l then l else l ++ [k]).map (fun x:Nat=>T.i .i64 x)∧updV (l.map fun x : Nat=>T.i .i64 x) (l.map fun x=>ev (c x)) (T.i .i64 k) (ev v)=(if k∈l then l else l ++ [k]).map fun x=>ev (if x=k then v else c x):=by
 have h:=upd_assoc (ek:=fun x : Nat=>T.i .i64 x) (ev:=ev) n_inj (k:=k) (v:=v) (l:=l.map fun x=>(x,c x))
 rw [aset_fn hn] at h
 simp only [List.map_map,Function.comp_def] at h
 exact h
variable [Bd]
theorem lookF {s:Bool × List Lay} (hs:s=(false,[.int .i64])) {z:Value} {k:Nat} {ok:Bool} {kd:Kind} {K:AV→Prop} {c:Nat→β} {l:List Nat} (hn:l.Nodup) (h1:k∈l→K (if ok=true then .tp [kd.look (ev (c k)),.t (.b true)] else kd.look (ev (c k)))) (h2:k ∉ l→K (if ok=true then .tp [ofV z,.t (.b false)] else ofV z)) :
 lookM s z (.i .i64 k) ok kd (l.map fun x : Nat=>T.i .i64 x) (l.map fun x=>ev (c x)) K:=by
 subst hs
 have h:=look_assoc (s:=(false,[.int .i64])) (z:=z) (k:=k) (ok:=ok) (kd:=kd) (K:=K) (ek:=fun x : Nat=>T.i .i64 x) (ev:=ev) n_inj (l:=l.map fun x=>(x,c x)) (by rw [List.map_map]; simpa [Function.comp_def] using hn) (fun p _=>by exact rfl) (fun v hv=>by
  rw [aget_fn] at hv
  split at hv
  ·rename_i hk; cases hv; exact h1 hk
  ·cases hv) (fun hv=>by
  rw [aget_fn] at hv
  split at hv
  ·cases hv
  ·rename_i hk; exact h2 hk)
 simp only [List.map_map,Function.comp_def] at h
 exact h
end
noncomputable def pwP (es:List Event) (ids:List (List UInt8)) (x:List UInt8) : Bool:=decide (x∈fullL es (ids.filter (wtyI es)))
theorem pwP_anc [Bd] {es:List Event} (hv:Valid es) {ids:List (List UInt8)} (hids:∀ x∈ids,There es x) {x:List UInt8} {k:Nat} {e:Event} (he:es[k]? = some e) (hid:e.id=x) : ancP es (ids.filter (wtyI es)) k=pwP es ids x:=by
 unfold ancP pwP
 rw [he]
 dsimp only
 rw [hid]
 have h:=fullM hv (ids:=ids.filter (wtyI es)) (fun x hx=>hids x (List.mem_filter.1 hx).1) (x:=x)
 rw [Bool.eq_iff_iff]
 simp only [decide_eq_true_eq]
 exact h.symm
noncomputable def pwK (es:List Event) (ids:List (List UInt8)) (i:Nat) : List Nat:=(ddF (pwP es ids) (ids.take i)).map (posN es)
theorem pwK_end {es:List Event} {ids:List (List UInt8)} : pwK es ids ids.length=(powIn es ids).map (posN es):=by
 unfold pwK powIn; rw [List.take_length]; rfl
theorem pwK_nodup {es:List Event} (hv:Valid es) {ids:List (List UInt8)} (hids:∀ x∈ids,There es x) {i:Nat} : (pwK es ids i).Nodup:=by
 unfold pwK
 have hn:=ddF_nodup (p:=pwP es ids) (l:=ids.take i)
 rw [List.nodup_iff_pairwise_ne,List.pairwise_map]
 have ht : ∀ x∈ddF (pwP es ids) (ids.take i),There es x:=fun x hx=>hids x (List.mem_of_mem_take (ddF_mem.1 hx).1)
 exact List.Pairwise.imp_of_mem (fun {a b} ha hb hne h=>hne (posN_inj hv (ht a ha) (ht b hb) h)) hn
theorem pwK_len {es:List Event} {ids:List (List UInt8)} {i:Nat} : (pwK es ids i).length≤ids.length:=by
 unfold pwK
 rw [List.length_map]
 refine Nat.le_trans ddF_len ?_
 rw [List.length_take]; omega
theorem pwK_lt {es:List Event} {ids:List (List UInt8)} (hids:∀ x∈ids,There es x) {i p:Nat} (h:p∈pwK es ids i) : p < es.length:=by
 unfold pwK at h
 obtain ⟨x,hx,rfl⟩:=List.mem_map.1 h
 exact (posN_there (hids x (List.mem_of_mem_take (ddF_mem.1 hx).1))).1
theorem pwK_no {es:List Event} {ids:List (List UInt8)} {i:Nat} {x:List UInt8} (hx:ids[i]? = some x) (hp:pwP es ids x=false) : pwK es ids (i + 1)=pwK es ids i:=by
 unfold pwK
 rw [ddF_snoc hx,if_neg (by simp [hp])]
theorem pwK_yes {es:List Event} (hv:Valid es) {ids:List (List UInt8)} (hids:∀ x∈ids,There es x) {i k:Nat} {x:List UInt8} (hx:ids[i]? = some x) (hk:posOf x es=some k) (hp:pwP es ids x=true) : pwK es ids (i + 1)=if k∈pwK es ids i then pwK es ids i else pwK es ids i ++ [k]:=by
 have hm : k∈pwK es ids i ↔ x∈ddF (pwP es ids) (ids.take i):=by
  unfold pwK
  rw [List.mem_map]
  constructor
  ·rintro ⟨y,hy,e⟩
   have:=posN_inj hv (hids y (List.mem_of_mem_take (ddF_mem.1 hy).1)) (hids x (List.mem_of_getElem? hx)) (e.trans (posN_at hk).symm)
   exact this ▸ hy
  ·exact fun h=>⟨x,h,posN_at hk⟩
 by_cases h : x∈ddF (pwP es ids) (ids.take i)
 ·rw [if_pos (hm.2 h)]
  unfold pwK
  rw [ddF_snoc hx,if_neg (by simp [h])]
 ·rw [if_neg fun hh=>h (hm.1 hh)]
  unfold pwK
  rw [ddF_snoc hx,if_pos (by simp [h,hp]),List.map_append,List.map_cons,List.map_nil,posN_at hk]
section
variable [Bd]
theorem mapsKeysI (l:List Nat) (vs:List T) : ConM P0 169 [.mr 0] [.map 3 3 (.own .leaf) (l.map fun x : Nat=>T.i .i64 x) vs none] (.fn 213 [.rf 1 0]) [.map 3 3 (.own .leaf) (l.map fun x : Nat=>T.i .i64 x) vs none,.box (.mr 0)]:=by
 refine ConM.intro (fn:=Tryz.f169) [.tmp 2] (fun _=>(0,[])) mixed (by kernel_rfl) rfl (by decide) rfl (by rfl) (by kernel_rfl) ?_
 simp -implicitDefEqProofs (maxSteps:=2000000) only [push_cast,zA,zB,zC,zD,zE,zF,zG,↓reduceIte,reduceCtorEq]
 exact Close.of [some 0,some 1] rfl rfl rfl (by simp only [push_cast,zA,zB,zC,zD,zE,zF,zG,↓reduceIte,reduceCtorEq]<;>first | rfl | exact ⟨rfl,rfl⟩) (by simp only [push_cast,zA,zB,zC,zD,zE,zF,zG,↓reduceIte,reduceCtorEq]<;>first | rfl | exact ⟨rfl,rfl⟩)
end
end Go.Proofs.YtmgdkkhnjkepiaaGreat.BX
namespace Go.Proofs.YtmgdkkhnjkepiaaGreat.BX
open Nat renaming reduceEqDiff → zA, reduceLT → zB, reduceLeDiff → zC, reduceAdd → zD, reduceMul → zE, reduceSub → zF, reduceBEq → zG
set_option linter.unusedSectionVars false
set_option linter.unusedSimpArgs false
set_option linter.unusedVariables false
open Go Go.RowKit HH
set_option maxRecDepth 20000
set_option maxHeartbeats 400000
structure RS (S:List Nat) (f:Nat→List Nat) (R:List Nat) : Prop where
 nodup : R.Nodup
 sub : ∀ x∈R,x∈S
 out : ∀ x∈S,x ∉ R→f x=[]
structure OI (es:List Event) (S:List Nat) (i:Nat) (c:Nat→Nat) (R:List Nat) (f:Nat→List Nat) : Prop where
 le : i≤S.length
 cnt : ∀ x∈S,c x=if x∈S.take i then unc es S [] x else 0
 rs : RS S f R
 is : ∀ x∈S,f x=rsF es x (S.take i)
def cJ (es:List Event) (S:List Nat) (p j:Nat) : Nat:=(((aP es p).take j).filter fun q=>decide (q∈S) && decide (q ∉ ([] : List Nat))).length
structure IJ (es:List Event) (S:List Nat) (i p j:Nat) (c:Nat→Nat) (R:List Nat) (f:Nat→List Nat) : Prop where
 le : j≤(aP es p).length
 cnt : ∀ x∈S,c x=if x∈S.take i then unc es S [] x else if x=p then cJ es S p j else 0
 rs : RS S f R
 is : ∀ x∈S,f x=rsF es x (S.take i) ++ if x∈(aP es p).take j then [p] else []
def updL (f:Nat→List Nat) (q:Nat) (v:List Nat) : Nat→List Nat:=fun x=>if x=q then v else f x
theorem oi_start {es:List Event} {S:List Nat} : OI es S 0 (fun _=>0) [] (fun _=>[]) :=
 ⟨Nat.zero_le _,fun x _=>by simp,⟨List.nodup_nil,by simp,fun _ _ _=>rfl⟩,fun x _=>by simp [rsF]⟩
theorem oi_in {es:List Event} {S:List Nat} {i p:Nat} {c:Nat→Nat} {R:List Nat} {f:Nat→List Nat} (h:OI es S i c R f) : IJ es S i p 0 c R f :=
 ⟨Nat.zero_le _,fun x hx=>by rw [h.cnt x hx]; simp [cJ],h.rs,fun x hx=>by rw [h.is x hx]; simp⟩
theorem ij_no {es:List Event} {S:List Nat} {i p j q:Nat} {c:Nat→Nat} {R:List Nat} {f:Nat→List Nat} (h:IJ es S i p j c R f) (hq:(aP es p)[j]? = some q) (hS:q ∉ S) : IJ es S i p (j + 1) c R f:=by
 have hj:=(List.getElem?_eq_some_iff.1 hq).1
 refine ⟨hj,fun x hx=>?_,h.rs,fun x hx=>?_⟩
 ·rw [h.cnt x hx]
  have : cJ es S p (j + 1)=cJ es S p j:=by
   unfold cJ
   rw [List.take_add_one,hq,List.filter_append]
   simp [hS]
  rw [this]
 ·rw [h.is x hx,List.take_add_one,hq]
  have : x≠q:=fun e=>hS (e ▸ hx)
  simp [this]
theorem ij_yes {es:List Event} (hv:Valid es) {S:List Nat} {i p j q:Nat} {c:Nat→Nat} {R:List Nat} {f:Nat→List Nat} (h:IJ es S i p j c R f) (hp:p∈S) (hpi:p ∉ S.take i) (hq:(aP es p)[j]? = some q) (hS:q∈S) : IJ es S i p (j + 1) (updF c p (c p + 1)) (if q∈R then R else R ++ [q]) (updL f q (f q ++ [p]))∧c p=cJ es S p j:=by
 have hj:=(List.getElem?_eq_some_iff.1 hq).1
 have hcp : c p=cJ es S p j:=by rw [h.cnt p hp,if_neg hpi,if_pos rfl]
 have hqj : q ∉ (aP es p).take j:=fun hm=>by
  obtain ⟨k,hk,e⟩:=List.getElem_of_mem hm
  have hkj : k < j:=by rw [List.length_take] at hk; omega
  rw [List.getElem_take] at e
  have h2:=(List.getElem?_eq_some_iff.1 hq).2
  have:=(List.getElem_inj (aP_nodup hv)).1 (e.trans h2.symm)
  omega
 refine ⟨⟨hj,fun x hx=>?_,⟨?_,fun x hx=>?_,fun x hx hxR=>?_⟩,fun x hx=>?_⟩,hcp⟩
 ·unfold updF
  have : cJ es S p (j + 1)=cJ es S p j + 1:=by
   unfold cJ
   rw [List.take_add_one,hq,List.filter_append]
   simp [hS]
  by_cases hxp : x=p
  ·subst hxp
   rw [if_pos rfl,if_neg hpi,if_pos rfl,this,hcp]
  ·rw [if_neg hxp,h.cnt x hx,if_neg hxp,if_neg hxp]
 ·split
  ·exact h.rs.nodup
  ·rename_i hqR
   rw [List.nodup_append]
   exact ⟨h.rs.nodup,by simp,fun a ha b hb=>by rw [List.mem_singleton.1 hb]; rintro rfl; exact hqR ha⟩
 ·split at hx
  ·exact h.rs.sub x hx
  ·rcases List.mem_append.1 hx with hx | hx
   ·exact h.rs.sub x hx
   ·rw [List.mem_singleton.1 hx]; exact hS
 ·have hxq : x≠q:=by
   rintro rfl
   split at hxR
   ·rename_i hqR; exact hxR hqR
   ·exact hxR (by simp)
  have hxR' : x ∉ R:=by
   split at hxR
   ·exact hxR
   ·exact fun hh=>hxR (by simp [hh])
  unfold updL
  rw [if_neg hxq]
  exact h.rs.out x hx hxR'
 ·unfold updL
  rw [List.take_add_one,hq]
  by_cases hxq : x=q
  ·subst hxq
   rw [if_pos rfl,h.is x hx,if_neg hqj,List.append_nil,if_pos (by simp)]
  ·rw [if_neg hxq,h.is x hx]
   simp [hxq]
theorem ij_end {es:List Event} {S:List Nat} {i p:Nat} {c:Nat→Nat} {R:List Nat} {f:Nat→List Nat} (h:IJ es S i p (aP es p).length c R f) (hn:S.Nodup) (hp:S[i]? = some p) : OI es S (i + 1) c R f∧c p=unc es S [] p:=by
 have hi:=(List.getElem?_eq_some_iff.1 hp).1
 have hpS:=List.mem_of_getElem? hp
 have hpi : p ∉ S.take i:=fun hm=>by
  obtain ⟨k,hk,e⟩:=List.getElem_of_mem hm
  have hkj : k < i:=by rw [List.length_take] at hk; omega
  rw [List.getElem_take] at e
  have h2:=(List.getElem?_eq_some_iff.1 hp).2
  have:=(List.getElem_inj hn).1 (e.trans h2.symm)
  omega
 have hcJ : cJ es S p (aP es p).length=unc es S [] p:=by unfold cJ unc; rw [List.take_length]
 have hts : S.take (i + 1)=S.take i ++ [p]:=by rw [List.take_add_one,hp]; rfl
 refine ⟨⟨hi,fun x hx=>?_,h.rs,fun x hx=>?_⟩,by rw [h.cnt p hpS,if_neg hpi,if_pos rfl,hcJ]⟩
 ·rw [h.cnt x hx,hts]
  by_cases hxi : x∈S.take i
  ·rw [if_pos hxi,if_pos (by simp [hxi])]
  ·rw [if_neg hxi]
   by_cases hxp : x=p
   ·subst hxp
    rw [if_pos rfl,if_pos (by simp),hcJ]
   ·rw [if_neg hxp,if_neg (by simp [hxi,hxp])]
 ·rw [h.is x hx,hts,List.take_length]
  unfold rsF
  rw [List.filter_append]
  congr 1
  by_cases hx : x∈aP es p<;>simp [hx]
theorem notin_take {S:List Nat} {i p:Nat} (hn:S.Nodup) (hp:S[i]? = some p) : p ∉ S.take i:=fun hm=>by
 obtain ⟨k,hk,e⟩:=List.getElem_of_mem hm
 have hkj : k < i:=by rw [List.length_take] at hk; omega
 rw [List.getElem_take] at e
 have h2:=(List.getElem?_eq_some_iff.1 hp).2
 have:=(List.getElem_inj hn).1 (e.trans h2.symm)
 omega
theorem cJ_le {es:List Event} {S:List Nat} {p j:Nat} : cJ es S p j≤j:=by
 unfold cJ
 refine Nat.le_trans (List.length_filter_le _ _) ?_
 rw [List.length_take]; omega
theorem hpI_len {es:List Event} {K S:List Nat} {i:Nat} (hn:S.Nodup) : (hpI es K (S.take i)).length≤S.length∧∀ x∈hpI es K (S.take i),x∈S:=by
 obtain ⟨h1,h2,h3⟩:=hpI_heap (es:=es) (K:=K) (ps:=S.take i) (h:=[]) (fun j _ hj=>by simp at hj) (by simpa using hn.sublist (List.take_sublist i S))
 have hs : ∀ x∈hpI es K (S.take i),x∈S:=fun x hx=>by
  rcases (h3 x).1 hx with h | h
  ·cases h
  ·exact List.mem_of_mem_take h.1
 exact ⟨len_sub h2 hs,hs⟩
theorem oi_end {es:List Event} {S:List Nat} {c:Nat→Nat} {R:List Nat} {f:Nat→List Nat} (h:OI es S S.length c R f) : (∀ x∈S,c x=unc es S [] x)∧∀ x∈S,f x=rsF es x S:=by
 refine ⟨fun x hx=>?_,fun x hx=>?_⟩
 ·rw [h.cnt x hx,List.take_length,if_pos hx]
 ·rw [h.is x hx,List.take_length]
theorem updL_set {β:Type} {R:List Nat} {f:Nat→List Nat} {m k:Nat} {v:List Nat} (g:List Nat→β) (hn:R.Nodup) (hm:R[m]? = some k) : (R.map fun x=>g (f x)).set m (g v)=R.map fun x=>g (updL f k v x):=by
 refine List.ext_getElem? fun i=>?_
 rw [List.getElem?_set]
 have hml:=(List.getElem?_eq_some_iff.1 hm).1
 have hme:=(List.getElem?_eq_some_iff.1 hm).2
 by_cases him : m=i
 ·subst him
  rw [if_pos rfl,List.length_map,if_pos hml,List.getElem?_map,hm]
  simp [updL]
 ·rw [if_neg him,List.getElem?_map,List.getElem?_map]
  cases hi : R[i]? with
  | none => rfl
  | some y =>
    have hyk : y≠k:=by
     rintro rfl
     obtain ⟨h1,h2⟩:=List.getElem?_eq_some_iff.1 hi
     exact him ((List.getElem_inj hn).1 (hme.trans h2.symm))
    simp [updL,hyk]
theorem updL_snoc {β:Type} {R:List Nat} {f:Nat→List Nat} {k:Nat} {v:List Nat} (g:List Nat→β) (hk:k ∉ R) : (R.map fun x=>g (f x)) ++ [g v]=(R ++ [k]).map fun x=>g (updL f k v x):=by
 rw [List.map_append,List.map_cons,List.map_nil]
 congr 1
 ·refine List.map_congr_left fun x hx=>?_
  unfold updL
  rw [if_neg (fun e:x=k=>hk (e ▸ hx))]
 ·unfold updL; rw [if_pos rfl]
end Go.Proofs.YtmgdkkhnjkepiaaGreat.BX
namespace Go.Proofs.YtmgdkkhnjkepiaaGreat.BX
open Nat renaming reduceEqDiff → zA, reduceLT → zB, reduceLeDiff → zC, reduceAdd → zD, reduceMul → zE, reduceSub → zF, reduceBEq → zG
set_option linter.unusedSectionVars false
set_option linter.unusedSimpArgs false
set_option linter.unusedVariables false
open Go Go.RowKit
set_option maxRecDepth 20000
set_option maxHeartbeats 400000
def np (b:List UInt8) (p:Nat) : Nat:=if p < b.length then p + 1 else p
variable [Bd]
end Go.Proofs.YtmgdkkhnjkepiaaGreat.BX
namespace Go.Proofs.YtmgdkkhnjkepiaaGreat.BX
open Nat renaming reduceEqDiff → zA, reduceLT → zB, reduceLeDiff → zC, reduceAdd → zD, reduceMul → zE, reduceSub → zF, reduceBEq → zG
set_option linter.unusedSectionVars false
set_option linter.unusedSimpArgs false
set_option linter.unusedVariables false
open Go Go.RowKit Go.Shelf Go.Sort
set_option maxRecDepth 20000
set_option maxHeartbeats 400000
section
variable [Bd]
def SmallT (e:Slot) : Prop:=e.typ.length < Bd.B∧e.key.length < Bd.B
abbrev SLT : Type:={ e:Slot // SmallT e }
instance : Inhabited SLT:=⟨⟨⟨[],[]⟩,by have:=Bd.lo; unfold SmallT; simp; omega⟩⟩
end
end Go.Proofs.YtmgdkkhnjkepiaaGreat.BX
namespace Go.Proofs.YtmgdkkhnjkepiaaGreat.BX
open Nat renaming reduceEqDiff → zA, reduceLT → zB, reduceLeDiff → zC, reduceAdd → zD, reduceMul → zE, reduceSub → zF, reduceBEq → zG
set_option linter.unusedSectionVars false
set_option linter.unusedSimpArgs false
set_option linter.unusedVariables false
open Go Go.RowKit
set_option maxRecDepth 20000
set_option maxHeartbeats 400000
def has {α:Type} (o:Option α) : Bool:=o.isSome
variable [Bd]
end Go.Proofs.YtmgdkkhnjkepiaaGreat.BX
namespace Go.Proofs.YtmgdkkhnjkepiaaGreat.BX
open Nat renaming reduceEqDiff → zA, reduceLT → zB, reduceLeDiff → zC, reduceAdd → zD, reduceMul → zE, reduceSub → zF, reduceBEq → zG
set_option linter.unusedSectionVars false
set_option linter.unusedSimpArgs false
set_option linter.unusedVariables false
open Go Go.RowKit
set_option maxRecDepth 20000
set_option maxHeartbeats 400000
variable [Bd]
theorem l2Full (es:List Event) (ids:List (List UInt8)) (hv:Valid es) (hids:∀ id∈ids,There es id) (hl:ids.length < 1000) (hB:Bd.B≤2147483648) : Con P0 163 [eRoom ⟨es⟩,eStringS ids] (.sr 0) [.arr 9 1 (.own .leaf) ((fullL es ids).map T.s)]:=by
 refine Con.intro (fn:=Tryz.f163) [.tmp 4] (fun _=>(0,[])) mixed (by kernel_rfl) rfl (by decide) rfl (by rfl) (by kernel_rfl) ?_
 simp -implicitDefEqProofs (maxSteps:=2000000) only [push_cast,zA,zB,zC,zD,zE,zF,zG,↓reduceIte,reduceCtorEq,eRoom]
 have:=Bd.lo
 have hal : ∀ xs : List (List UInt8),allLen 1 (xs.map T.s)=true:=fun xs=>allLen_map (f:=T.s) (m:=1) fun _=>rfl
 have hfi : ∀ xs : List (List UInt8),fitsAll Sh.leaf (xs.map T.s)=true:=fun xs=>fitsAll_map fun _=>rfl
 have hcl:=ancL_len (es:=es) (rs:=ids.flatMap (authOf es))
 have hel:=hv.len
 refine ⟨rfl,by omega,rfl,by omega,hal _,hfi _,by omega,?_⟩
 refine Callx.closed (l2Chain es ids hv hids hB) rfl rfl (.inl rfl) ?_
 simp -implicitDefEqProofs (maxSteps:=2000000) only [push_cast,zA,zB,zC,zD,zE,zF,zG,↓reduceIte,reduceCtorEq,eRoom]
 refine ⟨rfl,by omega,by omega,?_⟩
 rw [← List.map_append]
 refine Callx.closed (l2Sorted (ids ++ ancL es (ids.flatMap (authOf es))) hB) rfl rfl (.inr ⟨rfl,rfl⟩) ?_
 simp -implicitDefEqProofs (maxSteps:=2000000) only [push_cast,zA,zB,zC,zD,zE,zF,zG,↓reduceIte,reduceCtorEq,eRoom]
 exact Close.of [some 5] rfl rfl rfl (by simp only [push_cast,zA,zB,zC,zD,zE,zF,zG,↓reduceIte,reduceCtorEq]<;>rfl) (by simp only [push_cast,zA,zB,zC,zD,zE,zF,zG,↓reduceIte,reduceCtorEq,fullL]<;>rfl)
end Go.Proofs.YtmgdkkhnjkepiaaGreat.BX
namespace Go.Proofs.YtmgdkkhnjkepiaaGreat.BX
open Nat renaming reduceEqDiff → zA, reduceLT → zB, reduceLeDiff → zC, reduceAdd → zD, reduceMul → zE, reduceSub → zF, reduceBEq → zG
set_option linter.unusedSectionVars false
set_option linter.unusedSimpArgs false
set_option linter.unusedVariables false
open Go Go.RowKit
set_option maxRecDepth 20000
set_option maxHeartbeats 400000
variable [Bd]
theorem allIn_spec {es:List Event} {ids:List (List UInt8)} (h:allIn es ids=true) : ∀ x∈ids,There es x:=by
 unfold allIn at h
 intro x hx
 have:=of_decide_eq_true h x hx
 exact this
end Go.Proofs.YtmgdkkhnjkepiaaGreat.BX
namespace Go.Proofs.YtmgdkkhnjkepiaaGreat.BX
open Nat renaming reduceEqDiff → zA, reduceLT → zB, reduceLeDiff → zC, reduceAdd → zD, reduceMul → zE, reduceSub → zF, reduceBEq → zG
set_option linter.unusedSectionVars false
set_option linter.unusedSimpArgs false
set_option linter.unusedVariables false
open Go Go.RowKit
set_option maxRecDepth 20000
set_option maxHeartbeats 400000
def nextL' (es:List Event) (list out:List (List UInt8)) (i:Nat) : List UInt8:=(list.take i).foldl (stepB es list out) []
variable [Bd]
theorem l6Weighty (e:Event) : Con P0 162 [eEvent e] (.t (.b (wty e))) []:=by
 refine Con.intro (fn:=Tryz.f162) [.tmp 2] (fun _=>(0,[])) mixed (by kernel_rfl) rfl (by decide) rfl (by rfl) (by kernel_rfl) ?_
 simp -implicitDefEqProofs (maxSteps:=2000000) only [push_cast,zA,zB,zC,zD,zE,zF,zG,↓reduceIte,reduceCtorEq,eEvent]
 have w1 : e.typ=sMember→wty e=((decide (e.value=sLeave) || decide (e.value=sBan)) && decide (e.sender≠e.key)):=fun h=>if_pos h
 have w2 : ¬ e.typ=sMember→wty e=(decide (e.typ=sPower) || decide (e.typ=sRules)):=fun h=>if_neg h
 refine iteI (fun h1=>iteI (fun h2=>?_) (fun h2=>iteI (fun h3=>?_) (fun h3=>?_))) (fun h1=>iteI (fun h2=>?_) (fun h2=>?_))
 ·rw [w1 h1,decide_eq_true (show e.value=sLeave from h2)]; simp
 ·rw [w1 h1,decide_eq_true (show e.value=sBan from h3)]; simp
 ·rw [w1 h1,decide_eq_false (show ¬ e.value=sLeave from h2),decide_eq_false (show ¬ e.value=sBan from h3)]; simp
 ·rw [w2 h1,decide_eq_true (show e.typ=sPower from h2)]; simp
 ·rw [w2 h1,decide_eq_false (show ¬ e.typ=sPower from h2),Bool.false_or]; rfl
theorem l6Author (es:List Event) (hv:Valid es) (i:Nat) (e:Event) (he:es[i]? = some e) : Con P0 239 [eRoom ⟨es⟩,eEvent e] (.t (.i .i64 (autP es i))) []:=by
 have hfld : oneFld P0 42 9=some 9:=by kernel_rfl
 have h0 : ∃ c,es[0]? = some c:=⟨_,List.getElem?_eq_getElem (by have:=(List.getElem?_eq_some_iff.1 he).1; omega)⟩
 obtain ⟨c,hc⟩:=h0
 refine Con.intro (fn:=Tryz.f239) [.tmp 4] (fun i=>if i=4 then (8,[]) else if i=3 then (8,[]) else (0,[])) mixed (by kernel_rfl) rfl (by decide) rfl (by rfl) (by kernel_rfl) ?_
 simp -implicitDefEqProofs (maxSteps:=2000000) only [push_cast,zA,zB,zC,zD,zE,zF,zG,↓reduceIte,reduceCtorEq,eRoom,eEvent]
 refine Callx.closed (l6Power es hv i e he) rfl rfl (.inl rfl) ?_
 simp -implicitDefEqProofs (maxSteps:=2000000) only [push_cast,zA,zB,zC,zD,zE,zF,zG,↓reduceIte,reduceCtorEq,eRoom,eEvent]
 unfold autP
 rw [he]
 cases hp : pwOf es i with
 | some j =>
   have hj:=pwOf_lt hv hp
   obtain ⟨p,hpj⟩ : ∃ p,es[j]? = some p:=⟨_,List.getElem?_eq_getElem (by have:=(List.getElem?_eq_some_iff.1 he).1; omega)⟩
   have hid : idAt es (some j)=p.id:=by simp only [idAt,hpj]
   rw [hid,if_pos (evOk_id (hv.good hpj).ok)]
   refine CallV.t (l6Event es p.id j p (hv.pos hpj) hpj) (.inl rfl) ?_
   simp -implicitDefEqProofs (maxSteps:=2000000) only [push_cast,zA,zB,zC,zD,zE,zF,zG,↓reduceIte,reduceCtorEq,eRoom,eEvent,hfld]
   refine CallV.t (l5ByGrants p.grants e.sender) (.inl rfl) ?_
   simp -implicitDefEqProofs (maxSteps:=2000000) only [push_cast,zA,zB,zC,zD,zE,zF,zG,↓reduceIte,reduceCtorEq,eRoom,eEvent,hfld]
   simp only [hpj]
 | none =>
   rw [if_neg (by simp [idAt])]
   simp -implicitDefEqProofs (maxSteps:=2000000) only [push_cast,zA,zB,zC,zD,zE,zF,zG,↓reduceIte,reduceCtorEq,eRoom,eEvent,hfld]
   refine ⟨by have:=(List.getElem?_eq_some_iff.1 hc).1; omega,fun a ha=>?_⟩
   have ha : es[0]? = some a:=ha
   rw [hc] at ha
   cases ha
   rw [hc]
   refine iteI (fun h=>?_) (fun h=>?_)
   ·dsimp only; rw [if_pos h]
   ·dsimp only; rw [if_neg h]
theorem l6Sooner (es:List Event) (hv:Valid es) (a b:Event) (i j:Nat) (ha:es[i]? = some a) (hb:es[j]? = some b) : Con P0 210 [eRoom ⟨es⟩,eEvent a,eEvent b] (.t (.b (psn es a.id b.id))) []:=by
 have c1:=l6Author es hv i a ha
 have c2:=l6Author es hv j b hb
 have t1 : timI es a.id=a.time:=timI_at (hv.pos ha) ha
 have t2 : timI es b.id=b.time:=timI_at (hv.pos hb) hb
 have hm : psn es a.id b.id=if autP es i≠autP es j then decide (autP es j < autP es i) else if a.time≠b.time then decide (a.time < b.time) else Op.bytesLess a.id b.id:=by
  unfold psn lexO; rw [t1,t2,autI_at (hv.pos ha),autI_at (hv.pos hb)]
 rw [hm]
 clear hm t1 t2
 refine Con.intro (fn:=Tryz.f210) [.tmp 6] (fun _=>(0,[])) mixed (by kernel_rfl) rfl (by decide) rfl (by rfl) (by kernel_rfl) ?_
 simp -implicitDefEqProofs (maxSteps:=2000000) only [push_cast,zA,zB,zC,zD,zE,zF,zG,↓reduceIte,reduceCtorEq,eRoom,eEvent]
 refine Callx.closed c1 rfl rfl (.inl rfl) ?_
 simp -implicitDefEqProofs (maxSteps:=2000000) only [push_cast,zA,zB,zC,zD,zE,zF,zG,↓reduceIte,reduceCtorEq,eRoom,eEvent]
 refine Callx.closed c2 rfl rfl (.inl rfl) ?_
 simp -implicitDefEqProofs (maxSteps:=2000000) only [push_cast,zA,zB,zC,zD,zE,zF,zG,↓reduceIte,reduceCtorEq,eRoom,eEvent]
 refine iteI (fun h=>?_) (fun h=>iteI (fun h2=>?_) (fun h2=>?_))
 ·rw [if_pos h]
 ·rw [if_neg h,if_pos h2]
 ·rw [if_neg h,if_neg h2]
theorem l6Ready (e:Event) (list out:List (List UInt8)) : Con P0 209 [eEvent e,eStringS list,eStringS out] (.t (.b (rdyA list out e.auth))) []:=by
 refine Con.intro (fn:=Tryz.f209) [.tmp 6] (fun _=>(0,[])) mixed (by kernel_rfl) rfl (by decide) rfl (by rfl) (by kernel_rfl) ?_
 simp -implicitDefEqProofs (maxSteps:=2000000) only [push_cast,zA,zB,zC,zD,zE,zF,zG,↓reduceIte,reduceCtorEq,eEvent]
 refine WL.loop (ι:=Nat) (D:=(fun _=>(0,[]))) (fun i=>i≤e.auth.length∧rdyA list out (e.auth.take i)=true) (fun i=>⟨32,[(1,.t (eStringS list)),(2,.t (eStringS out)),(3,.rf 0 0),(7,.t (.i .i64 i))],[.box (.t (eEvent e))]⟩) (fun i=>e.auth.length - i) mixed (by kernel_rfl) 0 ⟨by omega,by simp [rdyA]⟩ (Keep.wk (ids:=[some 0]) ?_) ?_
 ·simp only [push_cast,zA,zB,zC,zD,zE,zF,zG,↓reduceIte,reduceCtorEq,eEvent]<;>rfl
 rintro i ⟨hi,hr⟩
 simp -implicitDefEqProofs (maxSteps:=2000000) only [push_cast,zA,zB,zC,zD,zE,zF,zG,↓reduceIte,reduceCtorEq,eEvent]
 have:=Bd.lo
 have hhi:=Bd.hi
 intro _
 refine iteI (fun h=>⟨by omega,fun a ha=>?_⟩) (fun h=>?_)
 ·rw [Int.toNat_natCast] at ha
  have hno : (!(decide (a∈list)) || decide (a∈out))=false→rdyA list out e.auth=false:=fun hh=>List.all_eq_false.2 ⟨a,List.mem_of_getElem? ha,by rw [hh]; simp⟩
  have hyes : (!(decide (a∈list)) || decide (a∈out))=true→rdyA list out (e.auth.take (i + 1))=true:=fun hh=>by
   unfold rdyA at hr ⊢
   rw [List.take_add_one,ha,List.all_append,hr]
   simpa using hh
  have c1:=l1Has list a
  have c2:=l1Has out a
  cases hl : decide (a∈list) with
  | false =>
    rw [hl] at c1 hyes
    refine Callx.closed c1 rfl rfl (.inl rfl) ?_
    simp -implicitDefEqProofs (maxSteps:=2000000) only [push_cast,zA,zB,zC,zD,zE,zF,zG,↓reduceIte,reduceCtorEq,eEvent]
    refine ⟨by unfold inI64; omega,i + 1,⟨by omega,hyes rfl⟩,by omega,Keep.wk (ids:=[some 0]) ?_⟩
    simp only [push_cast,zA,zB,zC,zD,zE,zF,zG,↓reduceIte,reduceCtorEq,eEvent]<;>rfl
  | true =>
    rw [hl] at c1 hyes hno
    refine Callx.closed c1 rfl rfl (.inl rfl) ?_
    simp -implicitDefEqProofs (maxSteps:=2000000) only [push_cast,zA,zB,zC,zD,zE,zF,zG,↓reduceIte,reduceCtorEq,eEvent]
    refine ⟨by omega,fun a' ha'=>?_⟩
    rw [Int.toNat_natCast,ha] at ha'
    cases ha'
    cases ho : decide (a∈out) with
    | false =>
      rw [ho] at c2 hno
      refine Callx.closed c2 rfl rfl (.inl rfl) ?_
      simp -implicitDefEqProofs (maxSteps:=2000000) only [push_cast,zA,zB,zC,zD,zE,zF,zG,↓reduceIte,reduceCtorEq,eEvent]
      rw [hno rfl]
    | true =>
      rw [ho] at c2 hyes
      refine Callx.closed c2 rfl rfl (.inl rfl) ?_
      simp -implicitDefEqProofs (maxSteps:=2000000) only [push_cast,zA,zB,zC,zD,zE,zF,zG,↓reduceIte,reduceCtorEq,eEvent]
      refine ⟨by unfold inI64; omega,i + 1,⟨by omega,hyes rfl⟩,by omega,Keep.wk (ids:=[some 0]) ?_⟩
      simp only [push_cast,zA,zB,zC,zD,zE,zF,zG,↓reduceIte,reduceCtorEq,eEvent]<;>rfl
 ·rw [List.take_of_length_le (by omega)] at hr
  rw [hr]
theorem l6Next (es:List Event) (hv:Valid es) (list out:List (List UInt8)) (hl:∀ x∈list,There es x) : Con P0 164 [eRoom ⟨es⟩,eStringS list,eStringS out] (.t (.s (nextL es list out))) []:=by
 refine Con.intro (fn:=Tryz.f164) [.tmp 6] (fun i=>if i=7 then (10,[]) else if i=5 then (7,[(false,0),(false,1),(false,2),(false,3),(false,4),(false,5),(true,6)]) else (0,[])) mixed (by kernel_rfl) rfl (by decide) rfl (by rfl) (by kernel_rfl) ?_
 simp -implicitDefEqProofs (maxSteps:=2000000) only [push_cast,zA,zB,zC,zD,zE,zF,zG,↓reduceIte,reduceCtorEq,eRoom]
 have:=Bd.lo
 have hhi:=Bd.hi
 refine WL.loop (ι:=Nat) (D:=(fun i=>if i=7 then (10,[]) else if i=5 then (7,[(false,0),(false,1),(false,2),(false,3),(false,4),(false,5),(true,6)]) else (0,[]))) (fun i=>i≤list.length) (fun i=>⟨50,[(1,.t (eStringS list)),(2,.t (eStringS out)),(3,.rf 0 0),(7,.t (.s (nextL' es list out i))),(8,.t (.i .i64 i))],[.box (.t (eRoom ⟨es⟩))]⟩) (fun i=>list.length - i) mixed (by kernel_rfl) 0 (by omega) (Keep.wk (ids:=[some 0]) ?_) ?_
 ·simp only [push_cast,zA,zB,zC,zD,zE,zF,zG,↓reduceIte,reduceCtorEq,eRoom,nextL']<;>rfl
 intro i hi
 simp -implicitDefEqProofs (maxSteps:=2000000) only [push_cast,zA,zB,zC,zD,zE,zF,zG,↓reduceIte,reduceCtorEq,eRoom]
 intro _
 refine iteI (fun h=>⟨by omega,fun x hx=>?_⟩) (fun h=>?_)
 ·rw [Int.toNat_natCast] at hx
  obtain ⟨k,e,he,hid,hp⟩:=there_at (hl x (List.mem_of_getElem? hx))
  have hsn : nextL' es list out (i + 1)=stepB es list out (nextL' es list out i) x:=by
   unfold nextL'
   rw [List.take_add_one,hx,List.foldl_append]; rfl
  have hau : authOf es x=e.auth:=authOf_at hp he
  refine CallV.t (l6Event es x k e hp he) (.inl rfl) ?_
  simp -implicitDefEqProofs (maxSteps:=2000000) only [push_cast,zA,zB,zC,zD,zE,zF,zG,↓reduceIte,reduceCtorEq,eRoom,eEvent]
  refine ⟨by omega,fun x' hx'=>?_⟩
  rw [Int.toNat_natCast,hx] at hx'
  cases hx'
  have c1:=l1Has out x
  have cR:=l6Ready e list out
  simp only [eEvent] at cR
  have hbi : nextL' es list out i=[] ∨ nextL' es list out i∈list:=by
   rcases foldl_step (es:=es) (list:=list) (out:=out) (l:=list.take i) (b:=[]) (fun x hx=>there_ne hv (hl x (List.mem_of_mem_take hx))) with ⟨h1,_⟩ | ⟨h1,_⟩
   ·exact .inl h1
   ·exact .inr (List.mem_of_mem_take h1)
  cases ho : decide (x∈out) with
  | true =>
    rw [ho] at c1
    have hs : nextL' es list out (i + 1)=nextL' es list out i:=by
     rw [hsn]; unfold stepB candB; rw [show decide (x ∉ out)=false by simpa using ho]; simp
    refine Callx.closed c1 rfl rfl (.inl rfl) ?_
    simp -implicitDefEqProofs (maxSteps:=2000000) only [push_cast,zA,zB,zC,zD,zE,zF,zG,↓reduceIte,reduceCtorEq,eRoom,eEvent]
    refine ⟨by unfold inI64; omega,i + 1,by omega,by omega,Keep.wk (ids:=[some 0]) ?_⟩
    rw [hs]
    simp only [push_cast,zA,zB,zC,zD,zE,zF,zG,↓reduceIte,reduceCtorEq,eRoom]<;>rfl
  | false =>
    rw [ho] at c1
    refine Callx.closed c1 rfl rfl (.inl rfl) ?_
    simp -implicitDefEqProofs (maxSteps:=2000000) only [push_cast,zA,zB,zC,zD,zE,zF,zG,↓reduceIte,reduceCtorEq,eRoom,eEvent]
    cases hrd : rdyA list out e.auth with
    | false =>
      rw [hrd] at cR
      have hs : nextL' es list out (i + 1)=nextL' es list out i:=by
       rw [hsn]; unfold stepB candB; rw [hau,hrd]; simp
      refine Callx.closed cR rfl rfl (.inl rfl) ?_
      simp -implicitDefEqProofs (maxSteps:=2000000) only [push_cast,zA,zB,zC,zD,zE,zF,zG,↓reduceIte,reduceCtorEq,eRoom,eEvent]
      refine ⟨by unfold inI64; omega,i + 1,by omega,by omega,Keep.wk (ids:=[some 0]) ?_⟩
      rw [hs]
      simp only [push_cast,zA,zB,zC,zD,zE,zF,zG,↓reduceIte,reduceCtorEq,eRoom]<;>rfl
    | true =>
      rw [hrd] at cR
      have hs : nextL' es list out (i + 1)=if nextL' es list out i=[] ∨ psn es x (nextL' es list out i)=true then x else nextL' es list out i:=by
       rw [hsn]; unfold stepB candB
       rw [hau,hrd,show decide (x ∉ out)=true by simpa using ho]; rfl
      refine Callx.closed cR rfl rfl (.inl rfl) ?_
      simp -implicitDefEqProofs (maxSteps:=2000000) only [push_cast,zA,zB,zC,zD,zE,zF,zG,↓reduceIte,reduceCtorEq,eRoom,eEvent]
      generalize nextL' es list out i=b at *
      refine iteI (fun hb=>?_) (fun hb=>?_)
      ·rw [if_pos (.inl hb)] at hs
       refine ⟨by omega,fun x' hx'=>?_⟩
       rw [Int.toNat_natCast,hx] at hx'
       cases hx'
       refine ⟨by unfold inI64; omega,i + 1,by omega,by omega,Keep.wk (ids:=[some 0]) ?_⟩
       rw [hs]
       simp only [push_cast,zA,zB,zC,zD,zE,zF,zG,↓reduceIte,reduceCtorEq,eRoom]<;>rfl
      ·obtain ⟨k2,e2,he2,hid2,hp2⟩:=there_at (hl b (hbi.elim (fun h=>absurd h hb) id))
       refine CallV.t (l6Event es b k2 e2 hp2 he2) (.inl rfl) ?_
       simp -implicitDefEqProofs (maxSteps:=2000000) only [push_cast,zA,zB,zC,zD,zE,zF,zG,↓reduceIte,reduceCtorEq,eRoom,eEvent]
       have cS:=l6Sooner es hv e e2 k k2 he he2
       rw [hid,hid2] at cS
       simp only [eRoom,eEvent] at cS
       cases hps : psn es x b with
       | false =>
         rw [hps] at cS
         rw [if_neg (by rw [hps]; simp [hb])] at hs
         refine CallV.t cS (.inl rfl) ?_
         simp -implicitDefEqProofs (maxSteps:=2000000) only [push_cast,zA,zB,zC,zD,zE,zF,zG,↓reduceIte,reduceCtorEq,eRoom,eEvent]
         refine ⟨by unfold inI64; omega,i + 1,by omega,by omega,Keep.wk (ids:=[some 0]) ?_⟩
         rw [hs]
         simp only [push_cast,zA,zB,zC,zD,zE,zF,zG,↓reduceIte,reduceCtorEq,eRoom]<;>rfl
       | true =>
         rw [hps] at cS
         rw [if_pos (.inr hps)] at hs
         refine CallV.t cS (.inl rfl) ?_
         simp -implicitDefEqProofs (maxSteps:=2000000) only [push_cast,zA,zB,zC,zD,zE,zF,zG,↓reduceIte,reduceCtorEq,eRoom,eEvent]
         refine ⟨by omega,fun x' hx'=>?_⟩
         rw [Int.toNat_natCast,hx] at hx'
         cases hx'
         refine ⟨by unfold inI64; omega,i + 1,by omega,by omega,Keep.wk (ids:=[some 0]) ?_⟩
         rw [hs]
         simp only [push_cast,zA,zB,zC,zD,zE,zF,zG,↓reduceIte,reduceCtorEq,eRoom]<;>rfl
 ·have hi : i=list.length:=by omega
  subst hi
  unfold nextL' nextL
  rw [List.take_length]
theorem l6PowerOrder (es:List Event) (hv:Valid es) (ids:List (List UInt8)) (hids:∀ x∈ids,There es x) (hil:ids.length < 1000) (hB:Bd.B≤2147483648) : Con P0 96 [eRoom ⟨es⟩,eStringS ids] (.sr 0) [.arr 9 1 (.own .leaf) ((powL es ids).map T.s)]:=by
 refine Con.intro (fn:=Tryz.f96) [.tmp 4] (fun i=>if i=5 then (7,[]) else (0,[])) mixed (by kernel_rfl) rfl (by decide) rfl (by rfl) (by kernel_rfl) ?_
 simp -implicitDefEqProofs (maxSteps:=2000000) only [push_cast,zA,zB,zC,zD,zE,zF,zG,↓reduceIte,reduceCtorEq,eRoom]
 have:=Bd.lo
 have hhi:=Bd.hi
 refine ⟨rfl,by omega,?_⟩
 refine WL.loop (ι:=Nat) (D:=(fun i=>if i=5 then (7,[]) else (0,[]))) (fun i=>i≤ids.length) (fun i=>⟨78,[(1,.t (eStringS ids)),(2,.rf 0 0),(5,.sr 1),(6,.t (.i .i64 i))],[.box (.t (eRoom ⟨es⟩)),.arr 9 1 (.own .leaf) (((ids.take i).filter (wtyI es)).map T.s)]⟩) (fun i=>ids.length - i) mixed (by kernel_rfl) 0 (by omega) (Keep.wk (ids:=[some 0,some 1]) ?_) ?_
 ·simp only [push_cast,zA,zB,zC,zD,zE,zF,zG,↓reduceIte,reduceCtorEq,List.take_zero,List.filter_nil,eRoom]<;>rfl
 ·intro i hi
  simp -implicitDefEqProofs (maxSteps:=2000000) only [push_cast,zA,zB,zC,zD,zE,zF,zG,↓reduceIte,reduceCtorEq,eRoom]
  intro _
  refine iteI (fun h=>⟨by omega,fun x hx=>?_⟩) (fun h=>?_)
  ·rw [Int.toNat_natCast] at hx
   obtain ⟨k,e,he,hid,hp⟩:=there_at (hids x (List.mem_of_getElem? hx))
   have hsn : (ids.take (i + 1)).filter (wtyI es)=(ids.take i).filter (wtyI es) ++ (if wty e=true then [x] else []):=by
    rw [List.take_add_one,hx,List.filter_append]
    simp only [Option.toList_some,List.filter_cons,List.filter_nil,wtyI_at hp he]
   have hfl : ((ids.take i).filter (wtyI es)).length≤i:=Nat.le_trans (List.length_filter_le _ _) (by rw [List.length_take]; omega)
   refine CallV.t (l6Event es x k e hp he) (.inl rfl) ?_
   simp -implicitDefEqProofs (maxSteps:=2000000) only [push_cast,zA,zB,zC,zD,zE,zF,zG,↓reduceIte,reduceCtorEq,eRoom]
   have cW:=l6Weighty e
   generalize (ids.take i).filter (wtyI es)=L at *
   cases hw : wty e with
   | false =>
     rw [hw] at cW hsn
     refine CallV.t cW (.inl rfl) ?_
     simp -implicitDefEqProofs (maxSteps:=2000000) only [push_cast,zA,zB,zC,zD,zE,zF,zG,↓reduceIte,reduceCtorEq,eRoom]
     refine ⟨by unfold inI64; omega,i + 1,by omega,by omega,Keep.wk (ids:=[some 0,some 1]) ?_⟩
     rw [hsn]
     simp only [push_cast,zA,zB,zC,zD,zE,zF,zG,↓reduceIte,reduceCtorEq,eRoom,Bool.false_eq_true,if_false,List.append_nil]<;>rfl
   | true =>
     rw [hw] at cW hsn
     refine CallV.t cW (.inl rfl) ?_
     simp -implicitDefEqProofs (maxSteps:=2000000) only [push_cast,zA,zB,zC,zD,zE,zF,zG,↓reduceIte,reduceCtorEq,eRoom]
     refine ⟨by omega,fun x' hx'=>?_⟩
     rw [Int.toNat_natCast,hx] at hx'
     cases hx'
     refine ⟨rfl,by omega,rfl,by omega,by omega,by unfold inI64; omega,i + 1,by omega,by omega,Keep.wk (ids:=[some 0,some 3]) ?_⟩
     rw [hsn]
     simp only [push_cast,zA,zB,zC,zD,zE,zF,zG,↓reduceIte,reduceCtorEq,eRoom,if_true,List.map_append,List.map_cons,List.map_nil]<;>rfl
  ·have hi : i=ids.length:=by omega
   subst hi
   rw [List.take_length]
   have hfl : (ids.filter (wtyI es)).length≤ids.length:=List.length_filter_le _ _
   have hft : ∀ x∈ids.filter (wtyI es),There es x:=fun x hx=>hids x (List.mem_filter.1 hx).1
   refine Callx.closed (l2Full es (ids.filter (wtyI es)) hv hft (by omega) hB) rfl rfl (.inr ⟨rfl,rfl⟩) ?_
   simp -implicitDefEqProofs (maxSteps:=2000000) only [push_cast,zA,zB,zC,zD,zE,zF,zG,↓reduceIte,reduceCtorEq,eRoom]
   refine ⟨rfl,by omega,?_⟩
   have hpin : powIn es ids=ddF (fun x=>decide (x∈fullL es (ids.filter (wtyI es)))) ids:=rfl
   generalize hF : fullL es (ids.filter (wtyI es))=F at *
   clear h hi
   refine WL.loop (ι:=Nat) (D:=(fun i=>if i=5 then (7,[]) else (0,[]))) (fun i=>i≤ids.length) (fun i=>⟨78,[(1,.t (eStringS ids)),(2,.rf 0 0),(7,.sr 1),(8,.sr 2),(9,.t (.i .i64 i))],[.box (.t (eRoom ⟨es⟩)),.arr 9 1 (.own .leaf) (F.map T.s),.arr 9 1 (.own .leaf) ((ddF (fun x=>decide (x∈F)) (ids.take i)).map T.s)]⟩) (fun i=>ids.length - i) mixed (by kernel_rfl) 0 (by omega) (Keep.wk (ids:=[some 0,some 2,some 3]) ?_) ?_
   ·simp only [push_cast,zA,zB,zC,zD,zE,zF,zG,↓reduceIte,reduceCtorEq,List.take_zero,ddF,List.foldl_nil,eRoom]<;>rfl
   intro i hi
   simp -implicitDefEqProofs (maxSteps:=2000000) only [push_cast,zA,zB,zC,zD,zE,zF,zG,↓reduceIte,reduceCtorEq,eRoom]
   intro _
   refine iteI (fun h=>⟨by omega,fun x hx=>?_⟩) (fun h=>?_)
   ·rw [Int.toNat_natCast] at hx
    have hsn:=ddF_snoc (p:=fun x=>decide (x∈F)) hx
    have hdl:=ddF_len (p:=fun x=>decide (x∈F)) (l:=ids.take i)
    rw [List.length_take] at hdl
    generalize ddF (fun x=>decide (x∈F)) (ids.take i)=L at *
    have c1:=l1Has F x
    have c2:=l1Has L x
    have keep : (decide (x∈F) && decide (x ∉ L))=false→ddF (fun x=>decide (x∈F)) (ids.take (i + 1))=L:=fun hh=>by rw [hsn,if_neg (by rw [hh]; simp)]
    have more : (decide (x∈F) && decide (x ∉ L))=true→ddF (fun x=>decide (x∈F)) (ids.take (i + 1))=L ++ [x]:=fun hh=>by rw [hsn,if_pos hh]
    cases h1 : decide (x∈F) with
    | false =>
      rw [h1] at c1 keep
      refine Callx.closed c1 rfl rfl (.inr ⟨rfl,rfl⟩) ?_
      simp -implicitDefEqProofs (maxSteps:=2000000) only [push_cast,zA,zB,zC,zD,zE,zF,zG,↓reduceIte,reduceCtorEq,eRoom]
      refine ⟨by unfold inI64; omega,i + 1,by omega,by omega,Keep.wk (ids:=[some 0,some 1,some 2]) ?_⟩
      rw [keep rfl]
      simp only [push_cast,zA,zB,zC,zD,zE,zF,zG,↓reduceIte,reduceCtorEq,eRoom]<;>rfl
    | true =>
      rw [h1] at c1 keep more
      refine Callx.closed c1 rfl rfl (.inr ⟨rfl,rfl⟩) ?_
      simp -implicitDefEqProofs (maxSteps:=2000000) only [push_cast,zA,zB,zC,zD,zE,zF,zG,↓reduceIte,reduceCtorEq,eRoom]
      refine ⟨by omega,fun x' hx'=>?_⟩
      rw [Int.toNat_natCast,hx] at hx'
      cases hx'
      cases h2 : decide (x∈L) with
      | true =>
        rw [h2] at c2
        refine Callx.closed c2 rfl rfl (.inr ⟨rfl,rfl⟩) ?_
        simp -implicitDefEqProofs (maxSteps:=2000000) only [push_cast,zA,zB,zC,zD,zE,zF,zG,↓reduceIte,reduceCtorEq,eRoom]
        refine ⟨by unfold inI64; omega,i + 1,by omega,by omega,Keep.wk (ids:=[some 0,some 1,some 2]) ?_⟩
        rw [keep (by simpa using h2)]
        simp only [push_cast,zA,zB,zC,zD,zE,zF,zG,↓reduceIte,reduceCtorEq,eRoom]<;>rfl
      | false =>
        rw [h2] at c2
        refine Callx.closed c2 rfl rfl (.inr ⟨rfl,rfl⟩) ?_
        simp -implicitDefEqProofs (maxSteps:=2000000) only [push_cast,zA,zB,zC,zD,zE,zF,zG,↓reduceIte,reduceCtorEq,eRoom]
        refine ⟨by omega,fun x' hx'=>?_⟩
        rw [Int.toNat_natCast,hx] at hx'
        cases hx'
        refine ⟨rfl,by omega,rfl,by omega,by omega,by unfold inI64; omega,i + 1,by omega,by omega,Keep.wk (ids:=[some 0,some 1,some 4]) ?_⟩
        rw [more (by simpa using h2)]
        simp only [push_cast,zA,zB,zC,zD,zE,zF,zG,↓reduceIte,reduceCtorEq,eRoom,List.map_append,List.map_cons,List.map_nil]<;>rfl
   ·have hi : i=ids.length:=by omega
    subst hi
    rw [List.take_length,← hpin]
    refine ⟨rfl,by omega,?_⟩
    have hpl : (powIn es ids).length≤ids.length:=ddF_len
    have hth:=powIn_there hids
    have hL : powL es ids=powTo es (powIn es ids) (powIn es ids).length:=rfl
    rw [hL]
    clear hpin hF hft hfl
    generalize powIn es ids=P at *
    refine WL.loop (ι:=Nat) (D:=(fun i=>if i=5 then (7,[]) else (0,[]))) (fun n=>n≤P.length) (fun n=>⟨78,[(2,.rf 0 0),(8,.sr 1),(10,.sr 2)],[.box (.t (eRoom ⟨es⟩)),.arr 9 1 (.own .leaf) (P.map T.s),.arr 9 1 (.own .leaf) ((powTo es P n).map T.s)]⟩) (fun n=>P.length - n) mixed (by kernel_rfl) 0 (by omega) (Keep.wk (ids:=[some 0,some 2,some 3]) ?_) ?_
    ·simp only [push_cast,zA,zB,zC,zD,zE,zF,zG,↓reduceIte,reduceCtorEq,powTo,eRoom]<;>rfl
    intro n hn
    have hnl : (powTo es P n).length=n:=powTo_len
    simp -implicitDefEqProofs (maxSteps:=2000000) only [push_cast,zA,zB,zC,zD,zE,zF,zG,↓reduceIte,reduceCtorEq,eRoom]
    intro _ _
    refine iteI (fun h=>?_) (fun h=>?_)
    ·refine Callx.closed (l6Next es hv P (powTo es P n) hth) rfl rfl (.inr ⟨rfl,rfl⟩) ?_
     simp -implicitDefEqProofs (maxSteps:=2000000) only [push_cast,zA,zB,zC,zD,zE,zF,zG,↓reduceIte,reduceCtorEq,eRoom]
     refine ⟨rfl,by omega,rfl,by omega,by omega,n + 1,by omega,by omega,Keep.wk (ids:=[some 0,some 1,some 4]) ?_⟩
     simp only [push_cast,zA,zB,zC,zD,zE,zF,zG,↓reduceIte,reduceCtorEq,eRoom,powTo,List.map_append,List.map_cons,List.map_nil]<;>rfl
    ·have hn : n=P.length:=by omega
     subst hn
     exact Close.of [some 2] rfl rfl rfl (by simp only [push_cast,zA,zB,zC,zD,zE,zF,zG,↓reduceIte,reduceCtorEq]<;>rfl) (by simp only [push_cast,zA,zB,zC,zD,zE,zF,zG,↓reduceIte,reduceCtorEq]<;>rfl)
theorem specPowerOrder (es:List Event) (ids:List (List UInt8)) (hB:Bd.B≤2147483648) : Con P0 40 [eRoom ⟨es⟩,eStringS ids] (.tp [.sr 0,.t (.b (powB es ids))]) [.arr 9 1 (.own .leaf) ((powR es ids).map T.s)]:=by
 refine Con.intro (fn:=Tryz.f40) [.tmp 4,.tmp 5] (fun _=>(0,[])) mixed (by kernel_rfl) rfl (by decide) rfl (by rfl) (by kernel_rfl) ?_
 simp -implicitDefEqProofs (maxSteps:=2000000) only [push_cast,zA,zB,zC,zD,zE,zF,zG,↓reduceIte,reduceCtorEq,eRoom]
 have:=Bd.lo
 have no : powB es ids=false→powR es ids=[]:=fun h=>if_neg (by rw [h]; simp)
 refine Callx.closed (specRoomOk es) rfl rfl (.inl rfl) ?_
 cases hr : roomB es with
 | false =>
   have h1 : powB es ids=false:=by unfold powB; rw [hr]; rfl
   rw [no h1,h1]
   simp -implicitDefEqProofs (maxSteps:=2000000) only [push_cast,zA,zB,zC,zD,zE,zF,zG,↓reduceIte,reduceCtorEq,eRoom]
   exact ⟨rfl,by omega,Close.of [some 1] rfl rfl rfl (by simp only [push_cast,zA,zB,zC,zD,zE,zF,zG,↓reduceIte,reduceCtorEq]<;>rfl) (by simp only [push_cast,zA,zB,zC,zD,zE,zF,zG,↓reduceIte,reduceCtorEq]<;>rfl)⟩
 | true =>
   simp -implicitDefEqProofs (maxSteps:=2000000) only [push_cast,zA,zB,zC,zD,zE,zF,zG,↓reduceIte,reduceCtorEq,eRoom]
   have cA:=l2AllThere es ids
   have hb : powB es ids=(decide ((ids.length : Int)≤300) && allIn es ids):=by unfold powB; rw [hr]; rfl
   rw [← hb] at cA
   refine Callx.closed cA rfl rfl (.inl rfl) ?_
   cases h1 : powB es ids with
   | false =>
     rw [no h1]
     simp -implicitDefEqProofs (maxSteps:=2000000) only [push_cast,zA,zB,zC,zD,zE,zF,zG,↓reduceIte,reduceCtorEq,eRoom]
     exact ⟨rfl,by omega,Close.of [some 1] rfl rfl rfl (by simp only [push_cast,zA,zB,zC,zD,zE,zF,zG,↓reduceIte,reduceCtorEq]<;>rfl) (by simp only [push_cast,zA,zB,zC,zD,zE,zF,zG,↓reduceIte,reduceCtorEq]<;>rfl)⟩
   | true =>
     have h2 : powR es ids=powL es ids:=if_pos h1
     rw [h1,Bool.eq_iff_iff] at hb
     simp only [Bool.and_eq_true,decide_eq_true_eq,true_iff] at hb
     rw [h2]
     simp -implicitDefEqProofs (maxSteps:=2000000) only [push_cast,zA,zB,zC,zD,zE,zF,zG,↓reduceIte,reduceCtorEq,eRoom]
     refine Callx.closed (l6PowerOrder es (room_valid hr) ids (allIn_spec hb.2) (by omega) hB) rfl rfl (.inr ⟨rfl,rfl⟩) ?_
     simp -implicitDefEqProofs (maxSteps:=2000000) only [push_cast,zA,zB,zC,zD,zE,zF,zG,↓reduceIte,reduceCtorEq,eRoom]
     exact Close.of [some 1] rfl rfl rfl (by simp only [push_cast,zA,zB,zC,zD,zE,zF,zG,↓reduceIte,reduceCtorEq]<;>rfl) (by simp only [push_cast,zA,zB,zC,zD,zE,zF,zG,↓reduceIte,reduceCtorEq]<;>rfl)
end Go.Proofs.YtmgdkkhnjkepiaaGreat.BX
namespace Go.Proofs.YtmgdkkhnjkepiaaGreat.BX
open Nat renaming reduceEqDiff → zA, reduceLT → zB, reduceLeDiff → zC, reduceAdd → zD, reduceMul → zE, reduceSub → zF, reduceBEq → zG
set_option linter.unusedSectionVars false
set_option linter.unusedSimpArgs false
set_option linter.unusedVariables false
open Go Go.RowKit
set_option maxRecDepth 20000
set_option maxHeartbeats 400000
variable [Bd]
theorem Wk.seal {N:Nat} {n:Nat} {tm:List (Nat × AV)} {ob:List Ob} (t:Nat) {y:T} {ids:List Nat} (h:(getL tm t).take ob 5=some (y,ids)) (hn:nodupB ids=true) : Wk N ⟨n,tm,ob⟩ ⟨n,(t,.t y) :: tm,killAll ids ob⟩:=by
 intro w0 hv S F a w hN hr
 obtain ⟨L,f1,f2⟩:=hr.tm t
 obtain ⟨L',g1,g2⟩:=take_sound hr _ _ h f1 f2
 obtain ⟨hv2,S2,s1,s2,s3,s4,hr2,s5⟩:=hr.killAll ids (nodupB_spec hn)
 refine ⟨hv2,S2,F,{ hr2 with tm:=fun t'=>?_,utm:=fun t'=>?_ }⟩
 ·simp only [getL]
  split
  ·rename_i e
   subst e
   exact ⟨L',by simpa only [footA] using g1,fun b hb=>by
    rcases g2 b hb with hb | ⟨i,hi,o,ho,hd,hb⟩
    ·exact s3 b hb
    ·exact s4 i hi o ho hd b hb⟩
  ·exact hr2.tm t'
 ·simp only [getL]
  split
  ·rfl
  ·exact hr2.utm t'
theorem WL.wk {P:Program} {N:Nat} {c:Code} {K:Kont} {σ σ':St} (h:Wk N σ σ') (hc:WL P N c K σ') : WL P N c K σ:=V.wk h hc
end Go.Proofs.YtmgdkkhnjkepiaaGreat.BX
namespace Go.Proofs.YtmgdkkhnjkepiaaGreat.BX
open Nat renaming reduceEqDiff → zA, reduceLT → zB, reduceLeDiff → zC, reduceAdd → zD, reduceMul → zE, reduceSub → zF, reduceBEq → zG
set_option linter.unusedSectionVars false
set_option linter.unusedSimpArgs false
set_option linter.unusedVariables false
open Go Go.RowKit
set_option maxRecDepth 20000
set_option maxHeartbeats 400000
variable [Bd]
def boxTake (ob:List Ob) (i:Nat) : Option (T × List Nat):=match ob[i]? with
 | some (.box x) => x.take ob 5
 | _ => none
def sealL (ob:List Ob) : List Bool→List AV→Option (List AV × List Nat)
 | _, [] => some ([],[])
 | [], _ :: _ => none
 | k :: ks, x :: xs => match sealL ob ks xs with
   | some (ys, is) => match k,x with
     | true, .ns => some (.ns :: ys,is)
     | true, _ => none
     | false, x => match x.take ob 5 with
       | some (t, i1) => some (.t t :: ys,i1 ++ is)
       | none => none
   | none => none
theorem sealL_sound {w0:Base} {σ:St} {hv:Hv} {S:Nat→Prop} {F:Nat→List Nat} {a:Act} {w:World} (hr:Rel w0 σ hv S F a w) (hv2:Hv) : ∀ (ks:List Bool) (xs:List AV) {ys:List AV} {ids:List Nat} {vs:List Value} {L:List Nat},sealL σ.ob ks xs=some (ys,ids)→footAs hv w xs vs L→(∀ b∈L,S b)→(∃ L',footAs hv2 w ys vs L' ∧ ∀ b∈L',From σ hv S F ids b)∧∀ n,unders n ys=true
 | ks, [], ys, ids, vs, L, h, hf, hL => by
   have h : some (([] : List AV),([] : List Nat))=some (ys,ids):=by cases ks<;>exact h
   cases h
   simp only [footAs] at hf
   exact ⟨⟨[],by simp only [footAs]; exact ⟨hf.1,trivial⟩,by simp⟩,fun _=>rfl⟩
 | [], _ :: _, ys, ids, vs, L, h, hf, hL => by cases h
 | k :: ks, x :: xs, ys, ids, vs, L, h, hf, hL => by
   simp only [footAs] at hf
   obtain ⟨v,vs',L1,L2,rfl,rfl,f1,f2⟩:=hf
   simp only [sealL] at h
   split at h
   ·rename_i ys' is' hrec
    obtain ⟨⟨L',g1,g2⟩,g3⟩:=sealL_sound hr hv2 ks xs hrec f2 fun b hb=>hL b (List.mem_append_right _ hb)
    split at h
    ·cases h
     exact ⟨⟨[] ++ L',by simp only [footAs]; exact ⟨v,vs',[],L',rfl,rfl,by simp only [footA] at f1 ⊢; exact ⟨f1.1,trivial⟩,g1⟩,by simpa using g2⟩,fun n=>by simp only [unders,AV.under,g3 n,Bool.and_self]⟩
    ·cases h
    ·split at h
     ·rename_i t i1 ht
      cases h
      obtain ⟨L0,q1,q2⟩:=take_sound hr _ _ ht f1 fun b hb=>hL b (List.mem_append_left _ hb)
      refine ⟨⟨L0 ++ L',by simp only [footAs]; exact ⟨v,vs',L0,L',rfl,rfl,by simpa only [footA] using q1,g1⟩,fun b hb=>?_⟩,fun n=>by simp only [unders,AV.under,g3 n,Bool.and_self]⟩
      rcases List.mem_append.1 hb with hb | hb
      ·exact (q2 b hb).left
      ·exact (g2 b hb).right
     ·cases h
   ·cases h
def boxSeal (ob:List Ob) (i:Nat) (ks:List Bool) : Option (List AV × List Nat):=match ob[i]? with
 | some (.box (.ag xs)) => sealL ob ks xs
 | _ => none
theorem Wk.sealBoxP {N:Nat} {n:Nat} {tm:List (Nat × AV)} {ob:List Ob} (i:Nat) (ks:List Bool) {ys:List AV} {ids:List Nat} (h:boxSeal ob i ks=some (ys,ids)) (hn:nodupB (i :: ids)=true) : Wk N ⟨n,tm,ob⟩ ⟨n,tm,(killAll ids ob).set i (.box (.ag ys))⟩:=by
 intro w0 hv S F a w hN hr
 obtain ⟨xs,hi,h⟩ : ∃ xs,ob[i]? = some (.box (.ag xs))∧sealL ob ks xs=some (ys,ids):=by
  unfold boxSeal at h
  split at h
  ·rename_i x hx; exact ⟨x,hx,h⟩
  ·cases h
 obtain ⟨b,e,u,L,k1,k2,f1,f2⟩:=hr.ob i _ hi
 simp only [footA] at f1
 obtain ⟨vs,rfl,f1⟩:=f1
 obtain ⟨n1,n2⟩:=List.nodup_cons.1 (nodupB_spec hn)
 obtain ⟨hv2,S2,s1,s2,s3,s4,hr2,s5⟩:=hr.killAll ids n2
 obtain ⟨⟨L',g1,g2⟩,g3⟩:=sealL_sound hr hv2 ks xs h f1 f2
 have hi2 : (killAll ids ob)[i]? = some (.box (.ag xs)):=by rw [killAll_keep ids ob i n1]; exact hi
 refine ⟨hv2,S2,F,hr2.write (id:=i) hi2 (by simp) (fun _ _=>rfl) rfl rfl rfl rfl (Nat.le_refl _) (by simp only [Ob.under,AV.under,g3]) ?_ (fun h=>by cases h)⟩
 refine ⟨b,e,_,L',by rw [s1]; exact k1,k2,by simp only [footA]; exact ⟨vs,rfl,g1⟩,fun b hb=>?_⟩
 rcases g2 b hb with hb | ⟨j,hj,o,ho,hd,hb⟩
 ·exact s3 b hb
 ·exact s4 j hj o ho hd b hb
end Go.Proofs.YtmgdkkhnjkepiaaGreat.BX
namespace Go.Proofs.YtmgdkkhnjkepiaaGreat.BX
open Nat renaming reduceEqDiff → zA, reduceLT → zB, reduceLeDiff → zC, reduceAdd → zD, reduceMul → zE, reduceSub → zF, reduceBEq → zG
set_option linter.unusedSectionVars false
set_option linter.unusedSimpArgs false
set_option linter.unusedVariables false
open Go Go.RowKit
variable [Bd]
section
variable {P:Program} {Q:Exit→Act→World→Prop} {w0:Base} {σ:St} {hv:Hv} {S:Nat→Prop} {F:Nat→List Nat} {a:Act} {w:World}
theorem Rel.splitOb (hr:Rel w0 σ hv S F a w) {id:Nat} {o0 o1 o2:Ob} {u:Value} {L' LR:List Nat} (hid:σ.ob[id]? = some o0) (hown:o0.owns=true) (hod:o0 ≠ .dead) (hnd:(((blkOf u).toList ++ L') ++ LR).Nodup) (hin:∀ b,b∈((blkOf u).toList ++ L') ++ LR→b∈F id) (hu1:u.oneCell'=true)
 (hnt:∀ t,(getL σ.tm t).noBw=true) (hno:∀ (k:Nat) o,σ.ob[k]? = some o→o.noBw=true)
 (H:∀ hv' : Hv,(∀ k,k < σ.ob.length→hv' k=hv k)→hv' σ.ob.length=u→ObR hv' S w LR (hv id) o1∧ObR hv' S w L' u o2) (hu1':o1.under (σ.ob.length + 1)=true) (hu2:o2.under (σ.ob.length + 1)=true) :
 ∃ (hv':Hv) (F':Nat→List Nat),(∀ k,k < σ.ob.length→hv' k=hv k)∧hv' σ.ob.length=u∧Rel w0 { σ with ob:=σ.ob.set id o1 ++ [o2] } hv' S F' a w:=by
 obtain ⟨hnd1,hnd2,hnd3⟩:=List.nodup_append.1 hnd
 obtain ⟨hnd4,hnd5,hnd6⟩:=List.nodup_append.1 hnd1
 have hlt : id < σ.ob.length:=get_lt hid
 have own:=hr.fown id _ hid hown
 have uF : ∀ b,blkOf u=some b→b∈F id:=fun b hb=>hin b (by simp [hb])
 let n:=σ.ob.length
 let B' : Nat→Prop:=fun b=>hv.B b∧blkOf u≠some b
 let hv' : Hv:=⟨fun k=>if k=σ.ob.length then u else hv k,B'⟩
 have he : ∀ k,k < σ.ob.length→hv' k=hv k:=fun k hk=>by show (if k=σ.ob.length then u else hv k)=_; rw [if_neg (by omega)]
 have hn : hv' σ.ob.length=u:=by show (if σ.ob.length=σ.ob.length then u else _)=_; rw [if_pos rfl]
 let F' : Nat→List Nat:=fun k=>if k=σ.ob.length then L' else if k=id then LR else F k
 have hFn : F' σ.ob.length=L':=by show (if _ then _ else _)=_; rw [if_pos rfl]
 have hFid : F' id=LR:=by show (if _ then _ else _)=_; rw [if_neg (by omega),if_pos rfl]
 have hFk : ∀ k,k < σ.ob.length→k≠id→F' k=F k:=fun k h1 h2=>by show (if _ then _ else _)=_; rw [if_neg (by omega),if_neg h2]
 have get : ∀ (k:Nat) o,(σ.ob.set id (o1) ++ [o2])[k]? = some o→(k < σ.ob.length∧k≠id∧σ.ob[k]? = some o) ∨ (k=id∧o=o1) ∨ (k=σ.ob.length∧o=o2):=by
  intro k o hk
  rcases app_get hk with ⟨h,hk⟩ | ⟨h,rfl⟩
  ·rw [List.length_set] at h
   rcases set_get hk with ⟨rfl,rfl⟩ | ⟨hne,hk⟩
   ·exact .inr (.inl ⟨rfl,rfl⟩)
   ·exact .inl ⟨h,hne,hk⟩
  ·rw [List.length_set] at h
   exact .inr (.inr ⟨h,rfl⟩)
 have hlen : (σ.ob.set id (o1) ++ [o2]).length=σ.ob.length + 1:=by simp
 obtain ⟨H1,H2⟩:=H hv' he hn
 refine ⟨hv',F',he,hn,?_⟩
 have rootk : ∀ (k:Nat) o,k < σ.ob.length→σ.ob[k]? = some o→o ≠ .dead → ∀ b,blkOf (hv k)=some b→blkOf u≠some b:=fun k o _ hk hd b hb hh=>(hr.root k o hk hd b hb).2.2 (own b (uF b hh)).2.1
 refine { size:=hr.size,defs:=hr.defs,tm:=fun t=>?_,utm:=fun t=>?_,ob:=fun k o hk=>?_,uob:=fun k o hk=>?_,root:=fun k o hk hd b hb=>?_,sep:=fun k l ok ol hkl hk hl dk dl b hb=>?_,SB:=fun b hb=>⟨hr.SB b hb,fun hh=>(own b (uF b hh)).2.2 hb⟩,Blt:=fun b hb=>hr.Blt b hb.1,Bin:=fun b hb=>hr.Bin b hb.1,fown:=fun k o hk hown' b hb=>?_,fsep:=fun k l ok ol hkl hk hl hok hol b hb=>?_,below:=hr.below,one:=fun k=>?_,an:=by rw [hlen]; have:=hr.an; omega,av:=fun k hk=>by rw [he k (by have:=hr.an; omega)]; exact hr.av k hk }
 ·obtain ⟨Lt,q1,q2⟩:=hr.tm t
  exact ⟨Lt,footA_anyB he _ _ Lt (hnt t) (hr.utm t) q1,q2⟩
 ·rw [hlen]; exact AV.under_mono (by omega) _ (hr.utm t)
 ·rcases get k o hk with ⟨hk1,hk2,hk3⟩ | ⟨rfl,rfl⟩ | ⟨rfl,rfl⟩
  ·rw [hFk k hk1 hk2,he k hk1]
   by_cases hd : o = .dead
   ·subst hd; trivial
   ·have hu:=hr.uob k o hk3
    have ho:=hr.ob k o hk3
    -- the map on values: fixed on all that stand
    have hv2 : ObR ⟨fun k=>if k < σ.ob.length then hv k else hv k,B'⟩ S w (F k) (hv k) (o.ren fun i=>i):=ho.anyB (hno k o hk3) (fun i=>by dsimp only; split<;>rfl)
    have hid' : o.ren (fun i=>i)=o:=by
     cases o<;>simp only [Ob.ren]
     rename_i x
     congr 1
     exact ren_id x
    rw [hid'] at hv2
    exact hv2.mono hu (hv':=hv') (fun i hi=>by rw [he i hi]; dsimp only; split<;>rfl) (fun b hb=>⟨hb,rfl⟩) (fun b hb=>⟨hb,rfl⟩) (fun _ b _=>rfl) (fun b _=>rfl)
  ·rw [hFid,he k hlt]
   exact H1
  ·rw [hFn,hn]
   exact H2
 ·rw [hlen]
  rcases get k o hk with ⟨hk1,hk2,hk3⟩ | ⟨rfl,rfl⟩ | ⟨rfl,rfl⟩
  ·exact Ob.under_mono (by omega) _ (hr.uob k o hk3)
  ·exact hu1'
  ·exact hu2
 ·rcases get k o hk with ⟨hk1,hk2,hk3⟩ | ⟨rfl,rfl⟩ | ⟨rfl,rfl⟩
  ·rw [he k hk1] at hb
   obtain ⟨q1,q2,q3⟩:=hr.root k o hk3 hd b hb
   exact ⟨q1,q2,fun hh=>q3 hh.1⟩
  ·rw [he k hlt] at hb
   obtain ⟨q1,q2,q3⟩:=hr.root k _ hid hod b hb
   exact ⟨q1,q2,fun hh=>q3 hh.1⟩
  ·rw [hn] at hb
   obtain ⟨q1,q2,q3⟩:=own b (uF b hb)
   exact ⟨q1,hr.Blt b q2,fun hh=>hh.2 hb⟩
 ·rcases get k ok hk with ⟨hk1,hk2,hk3⟩ | ⟨rfl,rfl⟩ | ⟨rfl,rfl⟩<;>rcases get l ol hl with ⟨hl1,hl2,hl3⟩ | ⟨rfl,rfl⟩ | ⟨rfl,rfl⟩
  ·rw [he k hk1] at hb; rw [he l hl1]; exact hr.sep k l ok ol hkl hk3 hl3 dk dl b hb
  ·rw [he k hk1] at hb; rw [he l hlt]; exact hr.sep k l ok _ hkl hk3 hid dk hod b hb
  ·rw [he k hk1] at hb; rw [hn]; exact rootk k ok hk1 hk3 dk b hb
  ·rw [he k hlt] at hb; rw [he l hl1]; exact hr.sep k l _ ol hkl hid hl3 hod dl b hb
  ·exact absurd rfl hkl
  ·rw [he k hlt] at hb; rw [hn]; exact rootk k _ hlt hid hod b hb
  ·rw [hn] at hb; rw [he l hl1]; exact fun hh=>rootk l ol hl1 hl3 dl b hh hb
  ·rw [hn] at hb; rw [he l hlt]; exact fun hh=>rootk l _ hlt hid hod b hh hb
  ·exact absurd rfl hkl
 ·rcases get k o hk with ⟨hk1,hk2,hk3⟩ | ⟨rfl,rfl⟩ | ⟨rfl,rfl⟩
  ·rw [hFk k hk1 hk2] at hb
   obtain ⟨q1,q2,q3⟩:=hr.fown k o hk3 hown' b hb
   exact ⟨q1,⟨q2,fun hh=>hr.fsep k id o _ hk2 hk3 hid hown' hown b hb (uF b hh)⟩,q3⟩
  ·rw [hFid] at hb
   obtain ⟨q1,q2,q3⟩:=own b (hin b (List.mem_append_right _ hb))
   exact ⟨q1,⟨q2,fun hh=>hnd3 b (List.mem_append_left _ (by simp [hh])) b hb rfl⟩,q3⟩
  ·rw [hFn] at hb
   obtain ⟨q1,q2,q3⟩:=own b (hin b (List.mem_append_left _ (List.mem_append_right _ hb)))
   exact ⟨q1,⟨q2,fun hh=>hnd6 b (by simp [hh]) b hb rfl⟩,q3⟩
 ·rcases get k ok hk with ⟨hk1,hk2,hk3⟩ | ⟨rfl,rfl⟩ | ⟨rfl,rfl⟩<;>rcases get l ol hl with ⟨hl1,hl2,hl3⟩ | ⟨rfl,rfl⟩ | ⟨rfl,rfl⟩
  ·rw [hFk k hk1 hk2] at hb; rw [hFk l hl1 hl2]; exact hr.fsep k l ok ol hkl hk3 hl3 hok hol b hb
  ·rw [hFk k hk1 hk2] at hb; rw [hFid]; exact fun hh=>hr.fsep k l ok _ hkl hk3 hid hok hown b hb (hin b (List.mem_append_right _ hh))
  ·rw [hFk k hk1 hk2] at hb; rw [hFn]; exact fun hh=>hr.fsep k id ok _ hk2 hk3 hid hok hown b hb (hin b (List.mem_append_left _ (List.mem_append_right _ hh)))
  ·rw [hFid] at hb; rw [hFk l hl1 hl2]; exact hr.fsep k l _ ol hkl hid hl3 hown hol b (hin b (List.mem_append_right _ hb))
  ·exact absurd rfl hkl
  ·rw [hFid] at hb; rw [hFn]; exact fun hh=>hnd3 b (List.mem_append_right _ hh) b hb rfl
  ·rw [hFn] at hb; rw [hFk l hl1 hl2]; exact hr.fsep id l _ ol (Ne.symm hl2) hid hl3 hown hol b (hin b (List.mem_append_left _ (List.mem_append_right _ hb)))
  ·rw [hFn] at hb; rw [hFid]; exact fun hh=>hnd3 b (List.mem_append_right _ hb) b hh rfl
  ·exact absurd rfl hkl
 ·show (if k=σ.ob.length then u else hv k).oneCell'=true
  split
  ·exact hu1
  ·exact hr.one k
theorem Rel.mergeOb (hr:Rel w0 σ hv S F a w) {id n:Nat} {o0 on o1:Ob} {LL:List Nat} (hid:σ.ob[id]? = some o0) (hn:σ.ob[n]? = some on) (hne:id≠n) (hown0:o0.owns=true) (hon:on.owns=true) (hod:o0 ≠ .dead) (hdn:on ≠ .dead)
 (hLmem:∀ b,b∈LL→blkOf (hv n)=some b ∨ b∈F n ∨ b∈F id) (H:∀ hv' : Hv,hv'.v=hv.v→ObR hv' S w LL (hv id) o1) (hu1:o1.under σ.ob.length=true) :
 ∃ (hv':Hv) (F':Nat→List Nat),Rel w0 { σ with ob:=(σ.ob.set n .dead).set id o1 } hv' S F' a w:=by
 have ownn:=hr.fown n _ hn hon
 have ownid:=hr.fown id _ hid hown0
 have rootn:=hr.root n _ hn hdn
 let B' : Nat→Prop:=fun b=>hv.B b ∨ blkOf (hv n)=some b
 let hv' : Hv:=⟨hv.v,B'⟩
 let F' : Nat→List Nat:=fun k=>if k=id then LL else F k
 have hFid : F' id=LL:=by show (if _ then _ else _)=_; rw [if_pos rfl]
 have hFk : ∀ k,k≠id→F' k=F k:=fun k h=>by show (if _ then _ else _)=_; rw [if_neg h]
 have get : ∀ (k:Nat) o,((σ.ob.set n .dead).set id o1)[k]? = some o→o = .dead ∨ (k≠id∧k≠n∧σ.ob[k]? = some o) ∨ (k=id∧o=o1):=by
  intro k o hk
  rcases set_get hk with ⟨rfl,rfl⟩ | ⟨h1,hk⟩
  ·exact .inr (.inr ⟨rfl,rfl⟩)
  ·rcases set_get hk with ⟨rfl,rfl⟩ | ⟨h2,hk⟩
   ·exact .inl rfl
   ·exact .inr (.inl ⟨h1,h2,hk⟩)
 have hlen : ((σ.ob.set n .dead).set id o1).length=σ.ob.length:=by simp
 have base : ∀ b,b∈LL→(w0.M b ∨ w0.heap.size≤b)∧B' b∧¬ S b:=by
  intro b hb
  rcases hLmem b hb with h | h | h
  ·exact ⟨(rootn b h).1,.inr h,hr.rootS hn hdn h⟩
  ·obtain ⟨q1,q2,q3⟩:=ownn b h; exact ⟨q1,.inl q2,q3⟩
  ·obtain ⟨q1,q2,q3⟩:=ownid b h; exact ⟨q1,.inl q2,q3⟩
 refine ⟨hv',F',?_⟩
 refine { size:=hr.size,defs:=hr.defs,tm:=fun t=>?_,utm:=fun t=>by rw [hlen]; exact hr.utm t,ob:=fun k o hk=>?_,uob:=fun k o hk=>?_,root:=fun k o hk hd b hb=>?_,sep:=fun k l ok ol hkl hk hl dk dl b hb=>?_,SB:=fun b hb=>.inl (hr.SB b hb),Blt:=fun b hb=>hb.elim (hr.Blt b) (fun h=>(rootn b h).2.1),Bin:=fun b hb=>hb.elim (hr.Bin b) (fun h=>.inr (rootn b h).1),fown:=fun k o hk hown b hb=>?_,fsep:=fun k l ok ol hkl hk hl hok hol b hb=>?_,below:=hr.below,one:=hr.one,an:=by rw [hlen]; exact hr.an,av:=hr.av }
 ·obtain ⟨Lt,q1,q2⟩:=hr.tm t
  exact ⟨Lt,footA_hv (hv':=hv') (n:=σ.ob.length) (fun b hb=>.inl hb) (fun _ _=>rfl) _ _ Lt (hr.utm t) q1,q2⟩
 ·rcases get k o hk with rfl | ⟨hk1,hk2,hk3⟩ | ⟨rfl,rfl⟩
  ·trivial
  ·rw [hFk k hk1]
   exact (hr.ob k o hk3).mono (hr.uob k o hk3) (hv':=hv') (fun _ _=>rfl) (fun b hb=>⟨hb,rfl⟩) (fun b hb=>⟨.inl hb,rfl⟩) (fun _ b _=>rfl) (fun b _=>rfl)
  ·rw [hFid]
   exact H hv' rfl
 ·rw [hlen]
  rcases get k o hk with rfl | ⟨hk1,hk2,hk3⟩ | ⟨rfl,rfl⟩
  ·rfl
  ·exact hr.uob k o hk3
  ·exact hu1
 ·rcases get k o hk with rfl | ⟨hk1,hk2,hk3⟩ | ⟨rfl,rfl⟩
  ·exact absurd rfl hd
  ·obtain ⟨q1,q2,q3⟩:=hr.root k o hk3 hd b hb
   exact ⟨q1,q2,fun hh=>hh.elim q3 (fun h=>hr.sep k n o _ hk2 hk3 hn hd hdn b hb h)⟩
  ·obtain ⟨q1,q2,q3⟩:=hr.root k _ hid hod b hb
   exact ⟨q1,q2,fun hh=>hh.elim q3 (fun h=>hr.sep k n _ _ hne hid hn hod hdn b hb h)⟩
 ·rcases get k ok hk with rfl | ⟨hk1,hk2,hk3⟩ | ⟨rfl,rfl⟩
  ·exact absurd rfl dk
  ·rcases get l ol hl with rfl | ⟨hl1,hl2,hl3⟩ | ⟨rfl,rfl⟩
   ·exact absurd rfl dl
   ·exact hr.sep k l ok ol hkl hk3 hl3 dk dl b hb
   ·exact hr.sep k l ok _ hkl hk3 hid dk hod b hb
  ·rcases get l ol hl with rfl | ⟨hl1,hl2,hl3⟩ | ⟨rfl,rfl⟩
   ·exact absurd rfl dl
   ·exact hr.sep k l _ ol hkl hid hl3 hod dl b hb
   ·exact absurd rfl hkl
 ·rcases get k o hk with rfl | ⟨hk1,hk2,hk3⟩ | ⟨rfl,rfl⟩
  ·cases hown
  ·rw [hFk k hk1] at hb
   obtain ⟨q1,q2,q3⟩:=hr.fown k o hk3 hown b hb
   exact ⟨q1,.inl q2,q3⟩
  ·rw [hFid] at hb; exact base b hb
 ·have other : ∀ (k:Nat) o,k≠id→k≠n→σ.ob[k]? = some o→o.owns=true → ∀ b,b∈F k→b ∉ LL:=by
   intro k o h1 h2 h3 h4 b hb hL
   rcases hLmem b hL with h | h | h
   ·exact (rootn b h).2.2 (hr.fown k o h3 h4 b hb).2.1
   ·exact hr.fsep k n o _ h2 h3 hn h4 hon b hb h
   ·exact hr.fsep k id o _ h1 h3 hid h4 hown0 b hb h
  rcases get k ok hk with rfl | ⟨hk1,hk2,hk3⟩ | ⟨rfl,rfl⟩
  ·cases hok
  ·rw [hFk k hk1] at hb
   rcases get l ol hl with rfl | ⟨hl1,hl2,hl3⟩ | ⟨rfl,rfl⟩
   ·cases hol
   ·rw [hFk l hl1]; exact hr.fsep k l ok ol hkl hk3 hl3 hok hol b hb
   ·rw [hFid]; exact other k ok hk1 hk2 hk3 hok b hb
  ·rw [hFid] at hb
   rcases get l ol hl with rfl | ⟨hl1,hl2,hl3⟩ | ⟨rfl,rfl⟩
   ·cases hol
   ·rw [hFk l hl1]; exact fun hh=>other l ol hl1 hl2 hl3 hol b hh hb
   ·exact absurd rfl hkl
theorem ownEs_out {s:Sh} : ∀ {es:List T} {vs:List Value} {L:List Nat} {i:Nat} {y:T},ownEs w s es vs L→es[i]? = some y →
 ∃ v Li L1,vs[i]? = some v∧ownT w s y v Li∧List.Perm L (Li ++ L1)∧ownEs w s (es.eraseIdx i) (vs.eraseIdx i) L1
 | [], _, _, _, _, _, h => by simp at h
 | c :: cs, vs, L, 0, y, h, hs => by
   simp only [List.getElem?_cons_zero,Option.some.injEq] at hs
   subst hs
   simp only [ownEs] at h
   obtain ⟨v,vs',L1,L2,rfl,rfl,h1,h2⟩:=h
   exact ⟨v,L1,L2,rfl,h1,List.Perm.refl _,by simpa using h2⟩
 | c :: cs, vs, L, i + 1, y, h, hs => by
   simp only [List.getElem?_cons_succ] at hs
   simp only [ownEs] at h
   obtain ⟨v,vs',L1,L2,rfl,rfl,h1,h2⟩:=h
   obtain ⟨u,Li,L3,q1,q2,q3,q4⟩:=ownEs_out h2 hs
   refine ⟨u,Li,L1 ++ L3,by simpa using q1,q2,?_,?_⟩
   ·refine (q3.append_left L1).trans ?_
    rw [← List.append_assoc,← List.append_assoc]
    exact (List.perm_append_comm).append_right L3
   ·simp only [List.eraseIdx_cons_succ,ownEs]
    exact ⟨v,_,L1,L3,rfl,rfl,h1,q4⟩
theorem ownEs_in {s:Sh} {y:T} {v:Value} {Li:List Nat} (hy:ownT w s y v Li) : ∀ {es:List T} {vs:List Value} {L1:List Nat} {i:Nat},i < es.length→i < vs.length→ownEs w s (es.eraseIdx i) (vs.eraseIdx i) L1 →
 ∃ L,ownEs w s (es.set i y) (vs.set i v) L∧List.Perm L (Li ++ L1)
 | [], _, _, _, h, _, _ => by simp at h
 | _ :: _, [], _, _, _, h, _ => by simp at h
 | c :: cs, u :: us, L1, 0, _, _, h => by
   simp only [List.eraseIdx_cons_zero] at h
   refine ⟨Li ++ L1,?_,List.Perm.refl _⟩
   simp only [List.set_cons_zero,ownEs]
   exact ⟨v,us,Li,L1,rfl,rfl,hy,h⟩
 | c :: cs, u :: us, L, i + 1, h1, h2, h => by
   simp only [List.eraseIdx_cons_succ,ownEs] at h
   obtain ⟨u',us',L1,L2,e,rfl,q1,q2⟩:=h
   simp only [List.cons.injEq] at e
   obtain ⟨rfl,rfl⟩:=e
   obtain ⟨L3,r1,r2⟩:=ownEs_in hy (by simpa using h1) (by simpa using h2) q2
   refine ⟨L1 ++ L3,?_,?_⟩
   ·simp only [List.set_cons_succ,ownEs]
    exact ⟨u,_,L1,L3,rfl,rfl,q1,r1⟩
   ·refine (r2.append_left L1).trans ?_
    rw [← List.append_assoc,← List.append_assoc]
    exact (List.perm_append_comm).append_right L2
omit [Bd] in
theorem erase_snoc {α:Type} : ∀ (l:List α) (x:α),(l ++ [x]).eraseIdx l.length=l
 | [], x => rfl
 | y :: l, x => by simp [erase_snoc l x]
omit [Bd] in
theorem erase_set {α:Type} : ∀ (l:List α) (i:Nat) (x:α),(l.set i x).eraseIdx i=l.eraseIdx i
 | [], i, x => by simp
 | y :: l, 0, x => by simp
 | y :: l, i + 1, x => by simp [erase_set l i x]
theorem Rel.closeMap (hr:Rel w0 σ hv S F a w) {id n i n0:Nat} {kt vt e1:TypeId} {m1:Nat} {s1:Sh} {ks vs xs:List T} (hid:σ.ob[id]? = some (.mhole kt vt (.sl e1 m1 s1) ks vs i n0)) (hn:σ.ob[n]? = some (.arr e1 m1 (.own s1) xs)) {r:Nat} {es:Array MapEntry} {clock:Nat} {l:List MapEntry} {L0:List Nat}
 (hE:Ents w (hv id) ks r es clock l) (hi:i < ks.length) (h0:ownEs w (.sl e1 m1 s1) (vs.eraseIdx i) ((l.map (·.val)).eraseIdx i) L0) (hnd0:L0.Nodup) (hF0:∀ b∈L0,b∈F id) (hlv:ks.length=vs.length) (hval:(l.map (·.val))[i]? = some (hv n)) :
 ∃ (hv':Hv) (F':Nat→List Nat),Rel w0 { σ with ob:=(σ.ob.set n .dead).set id (.map kt vt (.own (.sl e1 m1 s1)) ks (vs.set i (.sl xs)) none) } hv' S F' a w:=by
 have hne : id≠n:=by rintro rfl; rw [hid] at hn; cases hn
 obtain ⟨us,c1,⟨L',c2,c2n,c2F⟩,c3,c4⟩:=hr.ob n _ hn
 have hsub : ownT w (.sl e1 m1 s1) (.sl xs) (hv n) ((blkOf (hv n)).toList ++ L'):=by
  simp only [ownT]
  exact ⟨us,L',c1,c2,c3,c4,rfl⟩
 obtain ⟨LL,g1,g2⟩:=ownEs_in hsub (es:=vs) (vs:=l.map (·.val)) (by omega) (get_lt hval) h0
 rw [set_same hval] at g1
 have ownn:=hr.fown n _ hn rfl
 have ownid:=hr.fown id _ hid rfl
 have rootn:=hr.root n _ hn (by simp)
 refine hr.mergeOb (LL:=LL) hid hn hne rfl rfl (by simp) (by simp) (fun b hb=>?_) (fun hv' he=>?_) rfl
 ·have:=g2.mem_iff.1 hb
  simp only [List.mem_append,Option.mem_toList,Option.mem_def] at this
  rcases this with (h | h) | h
  ·exact .inl h
  ·exact .inr (.inl (c2F b h))
  ·exact .inr (.inr (hF0 b h))
 ·refine ⟨r,es,clock,l,hE,⟨LL,g1,?_,fun b hb=>hb⟩,by simp [hlv],by simp⟩
  rw [g2.nodup_iff,List.nodup_append,List.nodup_append]
  refine ⟨⟨by cases blkOf (hv n)<;>simp,c2n,fun b hb c hc=>?_⟩,hnd0,fun b hb c hc=>?_⟩
  ·rintro rfl
   simp only [Option.mem_toList,Option.mem_def] at hb
   exact (rootn b hb).2.2 (ownn b (c2F b hc)).2.1
  ·rintro rfl
   simp only [List.mem_append,Option.mem_toList,Option.mem_def] at hb
   rcases hb with hb | hb
   ·exact (rootn b hb).2.2 (ownid b (hF0 b hc)).2.1
   ·exact hr.fsep n id _ _ (Ne.symm hne) hn hid rfl rfl b (c2F b hb) (hF0 b hc)
def VL (P:Program) (N:Nat) (all:Array Oper) (os:List Oper) (K:Kont) (σ:St) : Prop :=
 ∀ (w0:Base) (hv:Hv) (S:Nat→Prop) (F:Nat→List Nat) (a:Act) (w:World),w0.na≤N→Rel w0 σ hv S F a w→wpList P all (Post w0 K) os a w
variable {N:Nat} {all:Array Oper} {rest:List Oper} {KK:Kont}
theorem VL.region {id:Nat} {ops:Array Oper} (h:VL P N ops ops.toList KK σ) : WL P N (.region id ops false) KK σ:=fun w0 hv S F a w hN hr=>by
 refine wp_region ?_
 rw [List.range_eq_range',← Array.length_toList,wpOps_eq_wpList ops.toList 0 (by simp)]
 exact h w0 hv S F a w hN hr
theorem VL.tail (h:vcOps P all rest σ (KK .nrm)) : VL P N all rest KK σ:=fun w0 hv S F a w hN hr =>
 vcOps_sound _ hr h fun σ' hv' S' F' a' w' hk hr'=>⟨σ',hv',S',F',hk,hr'⟩
theorem VL.op {o:Oper} {K:AV→List Ob→Prop} (hg:o.guard=none) (hd:dstOk σ.n o.dst) (hk:∀ x ob,K x ob→VL P N all rest KK (({ σ with ob:=ob } : St).set o.dst x))
 (h:∀ {Q:Exit→Act→World→Prop} {w0:Base} {hv:Hv} {S:Nat→Prop} {F:Nat→List Nat} {a:Act} {w:World} {next:Value→World→Prop},w0.na≤N→Rel w0 σ hv S F a w→Ans w0 σ a K next→Does P Q o a w next) : VL P N all (o :: rest) KK σ:=fun w0 hv S F a w hN hr=>by
 have hgo : guardOf all σ o=some true:=by unfold guardOf; rw [hg]
 have hw:=wanted_of hr hgo
 unfold wpList
 rw [if_pos hw]
 refine .inl ?_
 have:=h (Q:=Post w0 KK) (next:=fun v w'=>wpList P all (Post w0 KK) rest (a.put o.dst v) w') hN hr (fun v w' x ob' hv' S' F' L hK hr' f1 f2 hu=>by
  have hp:=hr'.put (d:=o.dst) f1 f2 hu (fun k hk=>by rw [hk] at hd; exact hd)
  exact hk x ob' hK w0 hv' S' F' _ w' hN hp)
 unfold Does at this
 exact Oper.wp_mono (fun a' w' ⟨v,ha,hv⟩=>ha ▸ hv) this
theorem VL.go {o:Oper} (hg:o.guard=none) (hd:dstOk σ.n o.dst) (h:vcOp P σ o.op fun x ob=>VL P N all rest KK (({ σ with ob:=ob } : St).set o.dst x)) : VL P N all (o :: rest) KK σ :=
 VL.op hg hd (K:=fun x ob=>VL P N all rest KK (({ σ with ob:=ob } : St).set o.dst x)) (fun _ _ h=>h) fun _ hr hn=>vcOp_sound hr h hn
def vcTakeM (P:Program) (t:TypeId) (m k:AV) (tm:List (Nat × AV)) (ob:List Ob) (K:AV→List Ob→Prop) : Prop :=
 match lay P t,k.shut,m with
 | .map kt et, some kx, .mr id => match keyLay P kt,zeroOf P et with
   | some s, some z => isKey s kx∧match ob[id]? with
     | some (.map a b (.own (.sl e1 m1 s1)) ks vs _) => tmNoBw tm=true∧obsNoBw ob=true∧(∀ y∈ks,isKey s y) ∧
       (∀ (i:Nat) (xs:List T),ks[i]? = some kx→vs[i]? = some (.sl xs)→K (.sr ob.length) (ob.set id (.mhole a b (.sl e1 m1 s1) ks vs i ob.length) ++ [.arr e1 m1 (.own s1) xs]))∧(kx ∉ ks→K (ofV z) ob)
     | _ => False
   | _, _ => False
 | _, _, _ => False
theorem takeM_sound {K:AV→List Ob→Prop} {next:Value→World→Prop} {o:Oper} {t:TypeId} {m k:Operand} (ho:o.op = .lookup t m k false) (hr:Rel w0 σ hv S F a w) (h:vcTakeM P t (σ.opd m) (σ.opd k) σ.tm σ.ob K) (hn:Ans w0 σ a K next) : Does P Q o a w next:=by
 unfold vcTakeM at h
 split at h
 case h_2=>cases h
 rename_i kt et kx id hl hk hm
 split at h
 case h_2=>cases h
 rename_i s z hs hz
 obtain ⟨hkx,h⟩:=h
 split at h
 case h_2=>cases h
 rename_i a' b' e1 m1 s1 ks vs pd hid
 obtain ⟨htm,hob,hks,h1,h2⟩:=h
 have hu:=lay_map hl
 obtain ⟨r,es,clock,l,hE,⟨L,hown,hnd,hLF⟩,hlv,_⟩:=hr.ob id _ hid
 obtain ⟨⟨Lm,fm,_⟩,_⟩:=hr.arg m
 rw [hm] at fm
 simp only [footA] at fm
 have hmr : a.eval m = .map (some r):=fm.1.trans hE.val
 have ak:=hr.arg k
 obtain ⟨Lk,fk,_⟩:=ak.shut_inv hk
 have fk:=(flat_foot kx (isKey_flat hkx) fk).2 w
 have hgo:=getObj_run (P:=P) hE.heap
 have hck:=checkKey_run (w:=w) hs hkx fk
 rcases hE.find hs hks hkx fk w with ⟨i,j,en,g1,g2,g3,g4,g5⟩ | ⟨g1,g5⟩
 ·have hil : i < vs.length:=by have:=get_lt g1; omega
  obtain ⟨v,Li,LR,q1,q2,q3,q4⟩:=ownEs_out hown (List.getElem?_eq_getElem hil)
  have hev : v=en.val:=by rw [List.getElem?_map,g2] at q1; simpa using q1.symm
  subst hev
  obtain ⟨xs,hxs⟩ : ∃ xs,vs[i] = .sl xs:=by
   cases hv' : vs[i]<;>rw [hv'] at q2<;>simp only [ownT] at q2
   exact ⟨_,rfl⟩
  rw [hxs] at q2
  have q2':=q2
  simp only [ownT] at q2
  obtain ⟨us,L',c1,c2,c3,c4,rfl⟩:=q2
  have hnd':=q3.nodup_iff.1 hnd
  obtain ⟨hnd1,hnd2,hnd3⟩:=List.nodup_append.1 hnd'
  obtain ⟨_,hnd5,_⟩:=List.nodup_append.1 hnd1
  obtain ⟨hv',F',he,hn',hr'⟩:=hr.splitOb (o1:=.mhole a' b' (.sl e1 m1 s1) ks vs i σ.ob.length) (o2:=.arr e1 m1 (.own s1) xs) (u:=en.val) (L':=L') (LR:=LR) hid rfl (by simp) hnd' (fun b hb=>hLF b (q3.mem_iff.2 hb)) (hE.ones en (List.mem_of_getElem? g2)) (fun t=>tmNoBw_get htm t) (fun k o hk=>obsNoBw_get hob hk)
   (fun hv' he hn'=>⟨⟨r,es,clock,l,LR,hE,get_lt g1,q4,hnd2,fun b hb=>hb,hlv⟩,⟨us,c1,⟨L',c2,hnd5,fun b hb=>hb⟩,c3,c4⟩⟩) rfl rfl
  refine does_value (v:=en.val) (w':=w) ?_ ?_
  ·simp only [execOp,ho,Instr.lookup,Sem.run_bind,run_underlying hu,Result.andThen_ok,hmr,hgo,Sem.run_pure,hck,g5]
   simp
  ·exact hn _ _ _ _ hv' S F' [] (h1 i xs g1 (by rw [List.getElem?_eq_getElem hil,hxs])) hr' (by simp only [footA]; exact ⟨hn'.symm,trivial⟩) (by simp) (by simp [AV.under])
 ·refine does_value (v:=z) (w':=w) ?_ ?_
  ·simp only [execOp,ho,Instr.lookup,Sem.run_bind,run_underlying hu,Result.andThen_ok,hmr,hgo,Sem.run_pure,hck,g5,zero_run hz]
   simp
  ·exact hn _ _ _ _ hv S F [] (h2 g1) hr (ofV_foot hv w z) (by simp) (ofV_under _ z)
theorem VL.takeM {o:Oper} {t:TypeId} {m k:Operand} (ho:o.op = .lookup t m k false) (hg:o.guard=none) (hd:dstOk σ.n o.dst) (h:vcTakeM P t (σ.opd m) (σ.opd k) σ.tm σ.ob fun x ob=>VL P N all rest KK (({ σ with ob:=ob } : St).set o.dst x)) : VL P N all (o :: rest) KK σ :=
 VL.op hg hd (K:=fun x ob=>VL P N all rest KK (({ σ with ob:=ob } : St).set o.dst x)) (fun _ _ h=>h) fun _ hr hn=>takeM_sound ho hr h hn
def vcPutM (P:Program) (t:TypeId) (m k x:AV) (ob:List Ob) (K:AV→List Ob→Prop) : Prop :=
 match lay P t,k.shut,m,x with
 | .map kt _, some kx, .mr id, .sr n => match keyLay P kt with
   | some s => isKey s kx∧match ob[n]? with
     | some (.arr e1 m1 (.own s1) xs) => match ob[id]? with
       | some (.mhole a b sh ks vs i _) => sh = .sl e1 m1 s1∧ks[i]? = some kx∧(∀ y∈ks,isKey s y)∧K .ud ((ob.set n .dead).set id (.map a b (.own sh) ks (vs.set i (.sl xs)) none))
       | some (.map a b (.own sh) ks vs _) => sh = .sl e1 m1 s1∧kx ∉ ks∧(∀ y∈ks,isKey s y)∧ks.length + 1 < Bd.B∧K .ud ((ob.set n .dead).set id (.map a b (.own sh) (ks ++ [kx]) (vs ++ [.sl xs]) none))
       | _ => False
     | _ => False
   | none => False
 | _, _, _, _ => False
theorem putM_sound {K:AV→List Ob→Prop} {next:Value→World→Prop} {o:Oper} {t:TypeId} {m k x:Operand} (ho:o.op = .mapUpdate t m k x) (hr:Rel w0 σ hv S F a w) (h:vcPutM P t (σ.opd m) (σ.opd k) (σ.opd x) σ.ob K) (hn:Ans w0 σ a K next) : Does P Q o a w next:=by
 unfold vcPutM at h
 split at h
 case h_2=>cases h
 rename_i kt et kx id n hl hk hm hx
 split at h
 case h_2=>cases h
 rename_i s hs
 obtain ⟨hkx,h⟩:=h
 split at h
 case h_2=>cases h
 rename_i e1 m1 s1 xs hnob
 have hu:=lay_map hl
 obtain ⟨⟨Lm,fm,_⟩,_⟩:=hr.arg m
 rw [hm] at fm
 simp only [footA] at fm
 have ak:=hr.arg k
 obtain ⟨Lk,fk,_⟩:=ak.shut_inv hk
 have fk:=(flat_foot kx (isKey_flat hkx) fk).2 w
 obtain ⟨⟨Lx,fx,_⟩,_⟩:=hr.arg x
 rw [hx] at fx
 simp only [footA] at fx
 have hV : a.eval x=hv n:=fx.1
 have hone:=hr.one n
 have fin : ∀ (a' b':TypeId) (ks' vs':List T) (i n0:Nat) (r:Nat) (es':Array MapEntry) (clock':Nat) (l':List MapEntry) (L0:List Nat) (o0:Ob),σ.ob[id]? = some o0→o0.owns=true→o0 ≠ .dead→blkOf (hv id)=some r→(∃ ob,w.heap[r]? = some ob) →
  (execOp a.eval o).run P w = .ok .skip { w with heap:=w.heap.setIfInBounds r (.map es' clock') }→(∀ W : World,W.heap[r]? = some (.map es' clock')→Ents W (hv id) ks' r es' clock' l')→i < ks'.length→ks'.length=vs'.length→(l'.map (·.val))[i]? = some (hv n)→ownEs w (.sl e1 m1 s1) (vs'.eraseIdx i) ((l'.map (·.val)).eraseIdx i) L0→L0.Nodup→(∀ b∈L0,b∈F id) →
  K .ud ((σ.ob.set n .dead).set id (.map a' b' (.own (.sl e1 m1 s1)) ks' (vs'.set i (.sl xs)) none))→Does P Q o a w next:=by
  rintro a' b' ks' vs' i n0 r es' clock' l' L0 o0 hid hown hod hroot ⟨ob,hheap⟩ hrun hE hil hlv hval h0 hnd0 hF0 hK
  obtain ⟨q1,q2⟩:=heap_setMap (o':=.map es' clock') hheap
  have hB2 : ∀ b∈L0,({ w with heap:=w.heap.setIfInBounds r (.map es' clock') } : World).heap[b]? = w.heap[b]?:=fun b hb=>q2 b (fun e=>(hr.root id _ hid hod r hroot).2.2 (e ▸ (hr.fown id _ hid hown b (hF0 b hb)).2.1))
  have h0':=ownEs_mono (w':={ w with heap:=w.heap.setIfInBounds r (.map es' clock') }) _ _ _ _ hB2 h0
  have hr3:=hr.write hid hod (w':={ w with heap:=w.heap.setIfInBounds r (.map es' clock') }) (o':=.mhole a' b' (.sl e1 m1 s1) ks' vs' i n) (fun k hk=>q2 k (fun e=>hk (by rw [hroot,e]))) (by simp) rfl rfl rfl (Nat.le_refl _) rfl
   ⟨r,es',clock',l',L0,hE _ q1,hil,h0',hnd0,hF0,hlv⟩ (fun _=>hown)
  have hne : id≠n:=by
   rintro rfl
   rw [hnob] at hid
   cases hid
   obtain ⟨us,c1,_⟩:=hr.ob id _ hnob
   obtain ⟨A,nn,c,e⟩:=ownsRow_slice c1
   have hh:=(hE { w with heap:=w.heap.setIfInBounds r (.map es' clock') } q1).val
   rw [e] at hh
   cases hh
  obtain ⟨hv',F',hr4⟩:=hr3.closeMap (id:=id) (n:=n) (by rw [List.getElem?_set_self (get_lt hid)]) (by rw [List.getElem?_set_ne hne]; exact hnob) (hE _ q1) hil h0' hnd0 hF0 hlv hval
  have hset : ∀ z,((σ.ob.set id (.mhole a' b' (.sl e1 m1 s1) ks' vs' i n)).set n .dead).set id z=(σ.ob.set n .dead).set id z:=fun z=>by
   rw [List.set_comm _ _ hne,List.set_set]
  dsimp only at hr4
  rw [hset] at hr4
  exact does_skip hrun (hn _ _ _ _ hv' S F' [] hK hr4 (by simp [footA]) (by simp) rfl)
 split at h
 case h_3=>cases h
 ·rename_i a' b' sh ks vs i n0 hid
  obtain ⟨rfl,hki,hks,hK⟩:=h
  obtain ⟨r,es,clock,l,L0,hE,hil,h0,hnd0,hF0,hlv⟩:=hr.ob id _ hid
  have hmr : a.eval m = .map (some r):=fm.1.trans hE.val
  have hroot : blkOf (hv id)=some r:=by rw [hE.val]; rfl
  have hgo:=getObj_run (P:=P) hE.heap
  have hck:=checkKey_run (w:=w) hs hkx fk
  rcases hE.find hs hks hkx fk w with ⟨i',j,en,g1,g2,g3,g4,g5⟩ | ⟨g1,g5⟩
  ·obtain rfl:=nodup_at hE.nodup hki g1
   have hkey : en.key=a.eval k:=flat_val kx (isKey_flat hkx) g4 fk
   have hj : es[j]? = some en:=by simpa using g3
   have hrun : (execOp a.eval o).run P w = .ok .skip { w with heap:=w.heap.setIfInBounds r (.map (es.modify j fun e=>{ e with key:=a.eval k,val:=a.eval x }) clock) }:=by
    have hst:=keyStays (P:=P) hkx fk w
    simp only [execOp,ho,Instr.mapUpdate,Sem.run_bind,run_underlying hu,Result.andThen_ok,hmr,hgo,hck,g5,hj,Option.map_some,Option.getD_some,hkey,hst]
    simp [setObj,Sem.run,hE.heap]
   have hmod : (es.modify j fun e=>{ e with key:=a.eval k,val:=a.eval x }).toList=es.toList.set j { en with key:=a.eval k,val:=a.eval x }:=by
    refine List.ext_getElem? fun i=>?_
    rw [Array.getElem?_toList,Array.getElem?_modify,List.getElem?_set]
    have hjl : j < es.toList.length:=get_lt g3
    by_cases hij : j=i
    ·subst hij
     simp only [if_true,hj,Option.map_some]
     rw [if_pos hjl]
    ·simp [hij]
   have hil2 : i < l.length:=get_lt g2
   refine fin a' b' ks vs i n r _ clock (l.set i { en with key:=a.eval k,val:=a.eval x }) L0 _ hid rfl (by simp) hroot ⟨_,hE.heap⟩ hrun (fun W hW=>hE.move hW (by rw [hmod]; exact set_perm hE.perm g2 g3) (by rw [map_key_set (en':={ en with key:=a.eval k,val:=a.eval x }) (f:=fun x=>x.born) g2 rfl]; exact hE.born) (fun e he=>?_) (by rw [map_key_set (en':={ en with key:=a.eval k,val:=a.eval x }) (f:=fun x=>x.key) g2 hkey.symm]; exact hE.keys) hE.flat hE.nodup hE.small (fun e he=>?_)) hil hlv ?_ ?_ hnd0 hF0 hK
   ·rcases List.mem_or_eq_of_mem_set he with he | rfl
    ·exact hE.lt e he
    ·exact hE.lt en (List.mem_of_getElem? g2)
   ·rcases List.mem_or_eq_of_mem_set he with he | rfl
    ·exact hE.ones e he
    ·show (a.eval x).oneCell'=true
     rw [hV]; exact hone
   ·rw [List.map_set,List.getElem?_set_self (by simpa using hil2),hV]
   ·rw [List.map_set,erase_set]; exact h0
  ·exact absurd (List.mem_of_getElem? hki) g1
 ·rename_i a' b' sh ks vs pd hid
  obtain ⟨rfl,hkn,hks,hlen,hK⟩:=h
  obtain ⟨r,es,clock,l,hE,⟨L0,h0,hnd0,hF0⟩,hlv,_⟩:=hr.ob id _ hid
  have hmr : a.eval m = .map (some r):=fm.1.trans hE.val
  have hroot : blkOf (hv id)=some r:=by rw [hE.val]; rfl
  have hgo:=getObj_run (P:=P) hE.heap
  have hck:=checkKey_run (w:=w) hs hkx fk
  have hlk : ks.length=l.length:=by have:=footTs_length hE.keys; rw [List.length_map] at this; exact this.symm
  rcases hE.find hs hks hkx fk w with ⟨i',j,en,g1,g2,g3,g4,g5⟩ | ⟨g1,g5⟩
  ·exact absurd (List.mem_of_getElem? g1) hkn
  ·have hrun : (execOp a.eval o).run P w = .ok .skip { w with heap:=w.heap.setIfInBounds r (.map (es.push { key:=a.eval k,val:=a.eval x,born:=clock }) (clock + 1)) }:=by
    simp only [execOp,ho,Instr.mapUpdate,Sem.run_bind,run_underlying hu,Result.andThen_ok,hmr,hgo,hck,g5]
    simp [setObj,Sem.run,hE.heap]
   have hvl : vs.length=(l.map (·.val)).length:=by rw [List.length_map]; omega
   refine fin a' b' (ks ++ [kx]) (vs ++ [.sl xs]) vs.length n r _ (clock + 1) (l ++ [{ key:=a.eval k,val:=a.eval x,born:=clock }]) L0 _ hid rfl (by simp) hroot ⟨_,hE.heap⟩ hrun (fun W hW=>hE.move hW (by rw [Array.toList_push]; exact hE.perm.append_right _) ?_ (fun e he=>?_) ?_ (by rw [flats_append,hE.flat]; simp [flats,isKey_flat hkx]) ?_ (by simpa using hlen) (fun e he=>?_)) (by simp; omega) (by simp [hlv]) ?_ ?_ hnd0 hF0 ?_
   ·rw [List.map_append,List.nodup_append]
    refine ⟨hE.born,by simp,fun b hb c hc=>?_⟩
    simp only [List.map_cons,List.map_nil,List.mem_singleton] at hc
    subst hc
    obtain ⟨e,he,rfl⟩:=List.mem_map.1 hb
    exact Nat.ne_of_lt (hE.lt e he)
   ·rcases List.mem_append.1 he with he | he
    ·exact Nat.lt_succ_of_lt (hE.lt e he)
    ·simp only [List.mem_singleton] at he; subst he; exact Nat.lt_succ_self _
   ·rw [List.map_append]
    have:=footTs_append hE.keys (ys:=[kx]) (us:=[a.eval k]) (M:=[]) (by simp only [footTs]; exact ⟨_,[],[],[],rfl,rfl,fk,rfl,rfl⟩)
    simpa using this
   ·rw [List.nodup_append]
    exact ⟨hE.nodup,by simp,fun b hb c hc=>by simp only [List.mem_singleton] at hc; subst hc; rintro rfl; exact g1 hb⟩
   ·rcases List.mem_append.1 he with he | he
    ·exact hE.ones e he
    ·simp only [List.mem_singleton] at he; subst he
     show (a.eval x).oneCell'=true
     rw [hV]; exact hone
   ·rw [List.map_append,hvl,List.getElem?_append_right (Nat.le_refl _),Nat.sub_self]
    simp [hV]
   ·rw [erase_snoc,List.map_append,hvl,List.map_cons,List.map_nil,erase_snoc]; exact h0
   ·have e : (vs ++ [T.sl xs]).set vs.length (T.sl xs)=vs ++ [T.sl xs]:=set_same (by rw [List.getElem?_append_right (Nat.le_refl _),Nat.sub_self]; rfl)
    rw [e]; exact hK
theorem VL.putM {o:Oper} {t:TypeId} {m k x:Operand} (ho:o.op = .mapUpdate t m k x) (hg:o.guard=none) (hd:dstOk σ.n o.dst) (h:vcPutM P t (σ.opd m) (σ.opd k) (σ.opd x) σ.ob fun x ob=>VL P N all rest KK (({ σ with ob:=ob } : St).set o.dst x)) : VL P N all (o :: rest) KK σ :=
 VL.op hg hd (K:=fun x ob=>VL P N all rest KK (({ σ with ob:=ob } : St).set o.dst x)) (fun _ _ h=>h) fun _ hr hn=>putM_sound ho hr h hn
theorem Wk.mapOf {n:Nat} {tm:List (Nat × AV)} {ob:List Ob} (i:Nat) (sh:Sh) {a b:TypeId} {s0:Sh} (hi:ob[i]? = some (.map a b (.own s0) [] [] none)) : Wk N ⟨n,tm,ob⟩ ⟨n,tm,ob.set i (.map a b (.own sh) [] [] none)⟩:=by
 intro w0 hv S F a' w hN hr
 refine ⟨hv,S,F,hr.write (id:=i) hi (by simp) (fun _ _=>rfl) rfl rfl rfl rfl (Nat.le_refl _) rfl ?_ (fun _=>rfl)⟩
 obtain ⟨r,es,clock,l,hE,⟨L,h1,h2,h3⟩,h4,_⟩:=hr.ob i _ hi
 simp only [ownEs] at h1
 exact ⟨r,es,clock,l,hE,⟨[],by simp only [ownEs]; exact ⟨h1.1,trivial⟩,by simp,by simp⟩,h4,by simp⟩
end
end Go.Proofs.YtmgdkkhnjkepiaaGreat.BX