/-
  Part 2 of what LFnExactPowerOrder leans on: its texts, merged by a program (prune.py), with what it needs alone.
-/
import Derived.Test.YtmgdkkhnjkepiaaGreatQ1
import Derived.Laws.CopyRow
import Derived.Laws.StructEq
import Derived.WideKeyRuns
import Derived.MapKept
namespace Go.Proofs.YtmgdkkhnjkepiaaGreat.BX
open Nat renaming reduceEqDiff → zA, reduceLT → zB, reduceLeDiff → zC, reduceAdd → zD, reduceMul → zE, reduceSub → zF, reduceBEq → zG
set_option linter.unusedSectionVars false
set_option linter.unusedSimpArgs false
set_option linter.unusedVariables false
open Go Go.RowKit
variable [Bd]
theorem fold_seg (off:Nat) : ∀ (xs:List Value) (k:Nat) (cs:Array Value),off + k + xs.length≤cs.size →
 (xs.zipIdx k).foldl (fun (cs:Array Value) (p:Value × Nat)=>cs.setIfInBounds (off + p.2) p.1) cs=(cs.toList.take (off + k) ++ xs ++ cs.toList.drop (off + k + xs.length)).toArray
 | [], k, cs, _ => by simp
 | x :: xs, k, cs, h => by
   simp only [List.zipIdx_cons,List.foldl_cons]
   rw [fold_seg off xs (k + 1) _ (by simp at h ⊢; omega)]
   congr 1
   have:=list_seg_step cs.toList (off + k) x xs (by simp at h ⊢; omega)
   simpa [Array.toList_setIfInBounds,Nat.add_assoc] using this
theorem fill_one {place:Nat→Option (Nat × Nat)} {i off size:Nat} {cells:Array Value} {v:Value} {rest:List (Nat × Value)} (hp:place i=some (off,size)) (hs:v.cells.size=size) (hl:off + size≤cells.size) :
 Instr.fill place cells ((i,v) :: rest)=Instr.fill place (cells.toList.take off ++ v.cells.toList ++ cells.toList.drop (off + size)).toArray rest:=by
 simp only [Instr.fill,hp,hs,ne_eq,not_true_eq_false,decide_false,Bool.false_or,decide_eq_true_eq]
 rw [if_neg (by simp; omega)]
 congr 1
 rw [← Array.foldl_toList,Array.toList_zipIdx]
 have:=fold_seg off v.cells.toList 0 cells (by simp [hs]; exact hl)
 simp only [Nat.add_zero,Array.length_toList,hs] at this
 exact this
theorem fill_full (m:Nat) : ∀ (vs:List Value) (k:Nat) (cells:Array Value),(∀ v∈vs,v.cells.size=m)→cells.size=(k + vs.length) * m →
 Instr.fill (fun i=>some (i * m,m)) cells ((List.range' k vs.length).zip vs)=some (cells.toList.take (k * m) ++ cellsL vs).toArray
 | [], k, cells, _, hs => by
   simp only [List.length_nil,List.range'_zero,List.zip_nil_right,Instr.fill,cellsL,List.flatMap_nil,List.append_nil]
   rw [List.take_of_length_le (by simp [hs])]
 | v :: vs, k, cells, h, hs => by
   have hv : v.cells.size=m:=h v (List.mem_cons_self ..)
   have hvl : v.cells.toList.length=m:=by simpa using hv
   have hsz : cells.toList.length=k * m + (m + vs.length * m):=by
    simp only [Array.length_toList,hs,List.length_cons]
    rw [Nat.add_mul,Nat.succ_mul]; omega
   simp only [List.length_cons,List.range'_succ,List.zip_cons_cons]
   rw [fill_one rfl hv (by rw [← Array.length_toList]; omega)]
   have ih:=fill_full m vs (k + 1) (cells.toList.take (k * m) ++ v.cells.toList ++ cells.toList.drop (k * m + m)).toArray (fun v hv=>h v (List.mem_cons_of_mem _ hv))
    (by simp only [List.size_toArray,List.length_append,List.length_take,List.length_drop,hvl,hsz]; rw [Nat.add_mul,Nat.succ_mul]; omega)
   rw [ih]
   congr 2
   have h1 : (cells.toList.take (k * m) ++ v.cells.toList).length=(k + 1) * m:=by
    simp only [List.length_append,List.length_take,hvl,hsz]; rw [Nat.succ_mul]; omega
   rw [List.take_append_of_le_length (by omega),List.take_of_length_le (by omega)]
   simp [cellsL]
def allLen (m:Nat) : List T→Bool
 | [] => true
 | y :: ys => decide (y.cells.length=m) && allLen m ys
theorem sizes_of {w:World} {m:Nat} : ∀ {ys:List T} {vs:List Value} {L:List Nat},footTs w ys vs L→allLen m ys=true → ∀ v∈vs,v.cells.size=m
 | [], _, _, h, _ => by simp only [footTs] at h; simp [h.1]
 | y :: ys, vs, L, h, hl => by
   simp only [footTs] at h
   obtain ⟨v,vs',L1,L2,rfl,rfl,h1,h2⟩:=h
   simp only [allLen,Bool.and_eq_true,decide_eq_true_eq] at hl
   intro u hu
   rcases List.mem_cons.1 hu with rfl | hu
   ·rw [(footT_cells h1).1]; exact hl.1
   ·exact sizes_of h2 hl.2 u hu
def allOnes : List T→Bool
 | [] => true
 | y :: ys => T.allOne y.cells && allOnes ys
def Sh.plains : List Sh→Bool
 | [] => true
 | .leaf :: ss => Sh.plains ss
 | _ :: _ => false
def Sh.plain : Sh→Bool
 | .leaf => true
 | .ag ss => Sh.plains ss
 | .sl _ _ _ => false
def Kind.plainOwn : Kind→Bool
 | .own s => s.plain
 | _ => false
def srcOf (m:Nat) (ob:List Ob) (i:Nat) (k:Kind) : AV→(List T→List Nat→Kind→Prop)→Prop
 | .ns, K => K [] [] k
 | .t (.sl es), K => allLen m es=true∧match k with
   | .own s => if s.plain=true then fitsAll s es=true∧K es [] (.own s) else K es [] .clo
   | k => K es [] k
 | .bw (.sl es), K => allLen m es=true∧match k with
   | .own s => if s.plain=true then fitsAll s es=true∧K es [] (.own s) else K es [] .bor
   | _ => K es [] .bor
 | .sr j, K => match ob[j]? with
   | some (.arr _ m' k' es) => m'=m∧(i≠j ∨ k.plainOwn=true)∧match k,k' with
     | .own s, .own s' => s'=s∧if s.plain=true then K es [] (.own s) else K es [j] (.own s)
     | .own _, .clo => K es [] .clo
     | .clo, .own _ => K es [j] .clo
     | .clo, .clo => K es [] .clo
     | _, _ => K es [] .bor
   | _ => False
 | _, _ => False
def vcBuildSlice (P:Program) (t:TypeId) (n:Nat) (ks:List Nat) (xs:List AV) (ob:List Ob) (K:AV→List Ob→Prop) : Prop :=
 match lay P t with
 | .sli e m => ks=List.range' 0 n∧n * m≤16777216∧n < Bd.B∧(zeroOf P e).isSome=true∧match mix ob (.own (shOf P 40 e)) xs with
   | some (ys, ids, k) => nodupB ids=true∧allLen m ys=true∧allOnes ys=true∧K (.sr ob.length) (killAll ids ob ++ [.arr e m k ys])
   | none => False
 | _ => False
def vcAppend (P:Program) (t:TypeId) (s x:AV) (ob:List Ob) (K:AV→List Ob→Prop) : Prop :=
 match lay P t with
 | .sli e m => 0 < m∧((zeroOf P e).map (·.cells.size)=some m)∧Bd.B * P.bytesOf e≤140737488355328 ∧
   match s with
   | .sr i => match ob[i]? with
     | some (.arr e' m' k es) => e'=e∧m'=m∧srcOf m ob i k x fun es2 ids k'=>(es ++ es2).length < Bd.B∧K (.sr ob.length) ((killAll ids ob).set i .dead ++ [.arr e m k' (es ++ es2)])
     | _ => False
   | .ns => srcOf m ob ob.length (.own (shOf P 40 e)) x fun es2 ids k'=>es2.length < Bd.B∧K (.sr ob.length) (killAll ids ob ++ [.arr e m k' es2])
   | _ => False
 | _ => False
def vcMake (P:Program) (t:TypeId) (l c:AV) (ob:List Ob) (K:AV→List Ob→Prop) : Prop :=
 match lay P t,l,c with
 | .sli e m, .t (.i _ n), .t (.i _ n') => n=n' ∧ 0≤n∧n < Bd.B∧0 < m∧Bd.B * P.bytesOf e≤281474976710656∧match zeroOf P e with
   | some z => match (ofV z).own [] (shOf P 40 e) with
     | some (y, _) => y.cells.length=m∧T.allOne y.cells=true∧K (.sr ob.length) (ob ++ [.arr e m (.own (shOf P 40 e)) (List.replicate n.toNat y)])
     | none => False
   | none => False
 | _, _, _ => False
section
variable {P:Program} {Q:Exit→Act→World→Prop} {w0:Base} {σ:St} {hv:Hv} {S:Nat→Prop} {F:Nat→List Nat} {a:Act} {w:World}
 {K:AV→List Ob→Prop} {next:Value→World→Prop}
theorem ones_foots : ∀ {ys:List T} {vs:List Value} {L:List Nat},footTs w ys vs L→T.allOne ys=true→ones vs
 | [], _, _, h, _ => by simp only [footTs] at h; simp [h.1,ones]
 | y :: ys, vs, L, h, hl => by
   simp only [footTs] at h
   obtain ⟨v,vs',L1,L2,rfl,rfl,h1,h2⟩:=h
   simp only [T.allOne,Bool.and_eq_true] at hl
   intro u hu
   rcases List.mem_cons.1 hu with rfl | hu
   ·exact T.one_value hl.1 h1
   ·exact ones_foots h2 hl.2 u hu
theorem ones_cells {y:T} {v:Value} {L:List Nat} (h:footT w y v L) (hl:T.allOne y.cells=true) : ones v.cells.toList:=by
 obtain ⟨h1,h2⟩:=footT_cells h
 obtain ⟨L',g1,_⟩:=footTs_of_cells (w:=w) y.cells v.cells.toList L (by simpa using h1) (fun j y hj=>by obtain ⟨u,L',q1,q2,q3⟩:=h2 j y hj; exact ⟨u,L',by simpa using q1,q2,q3⟩)
 exact ones_foots g1 hl
theorem ones_of : ∀ {ys:List T} {vs:List Value} {L:List Nat},footTs w ys vs L→allOnes ys=true→ones (cellsL vs)
 | [], _, _, h, _ => by simp only [footTs] at h; simp [h.1,ones,cellsL]
 | y :: ys, vs, L, h, hl => by
   simp only [footTs] at h
   obtain ⟨v,vs',L1,L2,rfl,rfl,h1,h2⟩:=h
   simp only [allOnes,Bool.and_eq_true] at hl
   intro u hu
   simp only [cellsL,List.flatMap_cons,List.mem_append] at hu
   rcases hu with hu | hu
   ·exact ones_cells h1 hl.1 u hu
   ·exact ones_of h2 hl.2 u hu
theorem cellsL_length {m:Nat} : ∀ (l:List Value),(∀ v∈l,v.cells.size=m)→(cellsL l).length=l.length * m
 | [], _ => by simp [cellsL]
 | x :: l, hh => by
   have:=cellsL_length l fun v hv=>hh v (List.mem_cons_of_mem _ hv)
   have hx : x.cells.toList.length=m:=by simpa using hh x (List.mem_cons_self ..)
   simp only [cellsL,List.flatMap_cons,List.length_append,hx,List.length_cons] at this ⊢
   rw [this,Nat.succ_mul]; omega
theorem cellsL_append (a b:List Value) : cellsL (a ++ b)=cellsL a ++ cellsL b:=by simp [cellsL]
theorem append_row {t e:TypeId} {m:Nat} (hl:lay P t = .sli e m) (hm0:0 < m) (hz:(zeroOf P e).map (·.cells.size)=some m) (hby:Bd.B * P.bytesOf e≤140737488355328) {ty:TypeId}
 {base:Nat} {v x:Value} {n:Nat} {vs:List Value} (hrow:w.ownsRow base e m v n (cellsL vs)) (hbase:base≤w.heap.size) (hn:n=vs.length) (hvs:∀ v∈vs,v.cells.size=m)
 {A:Option Addr} {k c:Nat} {us:List Value} (hx:x = .slice A k c) (hk:k=us.length) (hus:∀ v∈us,v.cells.size=m) (h1:ones (cellsL us)) (hA:us=[] ∨ ∃ b off,A=some ⟨b,off,none⟩∧laid w b off (cellsL us))
 (hlen:n + k < Bd.B) :
 ∃ v' w',(Builtin.append_ #[t,t] ty #[v,x]).run P w = .ok v' w' ∧ w'.ownsRow base e m v' (n + k) (cellsL (vs ++ us))∧(w.grownBy w' (blkOf v)∧w.drawn≤w'.drawn) ∧
   (∀ b,blkOf v'=some b→blkOf v=some b ∨ w.heap.size≤b)∧v'.oneCell'=true:=by
 obtain ⟨hu,hm,inf,hinf⟩:=lay_sli hl
 have hsz : inf.size=m:=by rw [← hm]; simp [Program.cellsOf,hinf]
 obtain ⟨z,hz1,hz2⟩:=Option.map_eq_some_iff.1 hz
 have hz3 : inf.zero=some z:=by simpa [zeroOf,hinf] using hz1
 have hby2 : inf.bytes=P.bytesOf e:=by simp [Program.bytesOf,hinf]
 have hhi:=Bd.hi
 subst hx
 rw [cellsL_append]
 have hcv : (cellsL vs).length=n * m:=by rw [cellsL_length vs hvs,hn]
 have hcu : (cellsL us).length=k * m:=by rw [cellsL_length us hus,hk]
 have hbytes : (n + k) * inf.bytes≤140737488355328:=by rw [hby2]; exact Nat.le_trans (Nat.mul_le_mul_right _ (Nat.le_of_lt hlen)) hby
 cases A with
 | none =>
   have : us=[]:=by
    rcases hA with h | ⟨b,off,h,_⟩
    ·exact h
    ·cases h
   subst this
   obtain rfl : k=0:=by simpa using hk
   have e0 : cellsL ([] : List Value)=[]:=rfl
   rw [e0,List.append_nil,Nat.add_zero]
   refine ⟨v,w,?_,hrow,⟨⟨rfl,rfl,rfl,Nat.le_refl _,fun _ _ _=>rfl⟩,Nat.le_refl _⟩,fun b hb=>.inl hb,?_⟩
   ·rcases hrow.2 with ⟨rfl,rfl⟩ | ⟨g,cap,cur,rfl,_,_,hnc,_⟩
    ·simp [Builtin.append_,run_underlying hu,sizeOf,typeInfo,hinf,Builtin.lenOf,Builtin.firstCells]
    ·simp [Builtin.append_,run_underlying hu,sizeOf,typeInfo,hinf,Builtin.lenOf,Builtin.firstCells,hnc,storeCells]
   ·rcases hrow.2 with ⟨rfl,rfl⟩ | ⟨g,cap,cur,rfl,_⟩<;>rfl
 | some ad =>
   have hcells : ∀ (j:Nat) u,(cellsL us)[j]? = some u→w.cell? (ad.add j)=some u:=by
    intro j u hj
    rcases hA with h | ⟨b,off,h,hl⟩
    ·subst h; simp [cellsL] at hj
    ·cases h; rw [add_lit]; exact hl j u hj
   have hlen2 : (cellsL vs ++ cellsL us).length=(n + k) * m:=by rw [List.length_append,hcv,hcu,Nat.add_mul]
   -- a new block
   have grown : ∀ (old:Nat),(w.drew.alloc (.cells ((cellsL vs).toArray ++ (cellsL us).toArray ++ Builtin.zeroCells z.cells (grownCap w (n + k) old e - (n + k))) e)).ownsRow base e m
    (.slice (some ⟨w.heap.size,0,none⟩) (n + k) (grownCap w (n + k) old e)) (n + k) (cellsL vs ++ cellsL us) ∧
    ∀ row,w.grownBy (w.drew.alloc (.cells ((cellsL vs).toArray ++ (cellsL us).toArray ++ Builtin.zeroCells z.cells (grownCap w (n + k) old e - (n + k))) e)) row:=by
    intro old
    have hge:=grownCap_ge w (n + k) old e
    refine ⟨⟨hlen2,.inr ⟨w.heap.size,_,_,rfl,hbase,heap_alloc_new w.drew _,hge,grownCap_le_maxLen w (n + k) old e (by simp only [maxLen]; omega),?_,?_⟩⟩,fun row=>⟨rfl,rfl,rfl,by simp,fun j hj _=>Below.heap_alloc w.drew _ j hj⟩⟩
    ·simp only [Array.size_append,List.size_toArray,size_zeroCells,hz2,hcv,hcu,← Nat.add_mul]
     congr 1
     omega
    ·simp only [Array.toList_append,List.append_assoc]
     rw [← List.append_assoc,← hlen2]
     exact List.take_left
   rcases hrow.2 with ⟨rfl,rfl⟩ | ⟨g,cap,cur,rfl,hbg,hg,hnc,hcm,hcs,htake⟩
   ·have hx0 : cellsL vs=[]:=List.eq_nil_of_length_eq_zero (by simpa using hcv)
    by_cases hk0 : k=0
    ·subst hk0
     have hn0 : cellsL us=[]:=List.eq_nil_of_length_eq_zero (by simpa using hcu)
     rw [hx0,hn0]
     refine ⟨.slice none 0 0,w,?_,World.ownsRow_nil w base e m,⟨⟨rfl,rfl,rfl,Nat.le_refl _,fun _ _ _=>rfl⟩,Nat.le_refl _⟩,fun b hb=>.inl hb,rfl⟩
     simp [Builtin.append_,run_underlying hu,sizeOf,typeInfo,hinf,Builtin.lenOf,Builtin.firstCells,loadCells,loadCellsFrom]
    ·have hr:=run_append_nil (P:=P) w t ty e inf z hu hinf hz3 ad k c (cellsL us) (by rw [hsz]; exact hcu) hcells (by omega) (by omega) (by have hb:=hbytes; simp only [Nat.zero_add] at hb; omega)
     have hgr:=grown 0
     rw [hx0] at hgr ⊢
     simp only [Nat.zero_add,List.nil_append,Array.empty_append] at hgr ⊢
     exact ⟨_,_,hr,hgr.1,⟨hgr.2 _,Nat.le_succ _⟩,fun b hb=>by simp [blkOf] at hb; exact .inr (by omega),rfl⟩
   ·by_cases hroom : n + k≤cap
    ·have hfit : n * inf.size + (cellsL us).length≤cur.size:=by rw [hsz,hcu,hcs,← Nat.add_mul]; exact Nat.mul_le_mul_right _ hroom
     have hr:=run_append_room (P:=P) w t ty e inf hu hinf g n cap cur hg ad k c (cellsL us) (by rw [hsz]; exact hcu) hcells h1 hroom hfit
     rw [hsz] at hr hfit
     refine ⟨_,_,hr,⟨hlen2,.inr ⟨g,cap,_,rfl,hbg,setRow_heap w g cur _ e _ hg,hroom,hcm,?_,?_⟩⟩,⟨⟨rfl,rfl,rfl,by simp,fun k _ hk=>setRow_other w g k _ (fun e=>hk (by simp [blkOf,e]))⟩,Nat.le_refl _⟩,fun b hb=>.inl hb,rfl⟩
     ·simp only [List.size_toArray,List.length_append,List.length_take,List.length_drop,Array.length_toList]
      omega
     ·rw [htake,← hlen2]
      exact List.take_left
    ·have holds : ∀ (j:Nat) u,(cellsL vs)[j]? = some u→w.cell? ((⟨g,0,none⟩ : Addr).add j)=some u:=hrow.cells (g:=g) rfl
     have hr:=run_append_grow (P:=P) w t ty e inf z hu hinf hz3 ⟨g,0,none⟩ n cap (cellsL vs) (by rw [hsz]; exact hcv) holds ad k c (cellsL us) (by rw [hsz]; exact hcu) hcells (by omega) (by omega) (growslice_fits (by omega) hbytes)
     have hgr:=grown cap
     exact ⟨_,_,hr,hgr.1,⟨hgr.2 _,Nat.le_succ _⟩,fun b hb=>by simp [blkOf] at hb; exact .inr (by omega),rfl⟩
theorem make_full (w:World) (base:Nat) (t e:TypeId) (i:TypeInfo) (z:Value) (size:Nat) (ht:P.underlying t=some (.slice e)) (hi:P.info? e=some i) (hz:i.zero=some z) (hsize:i.size=size)
 (kl kc:IntKind) (n:Nat) (hbytes:i.bytes * n≤281474976710656) (h63:n≤maxLen) (hbase:base≤w.heap.size) :
 ∃ w',(Instr.makeSlice t (.int kl (n:Int)) (.int kc (n:Int))).run P w = .ok (.slice (some ⟨w.heap.size,0,none⟩) n n) w' ∧
   w'.ownsRow base e size (.slice (some ⟨w.heap.size,0,none⟩) n n) n (madeCells z.cells (n * size)).toList∧w.grownBy w' none∧w.drawn≤w'.drawn:=by
 have hb : (i.bytes : Int) * (n:Int)≤281474976710656:=by
  have h : ((i.bytes * n : Nat) : Int)≤281474976710656:=by omega
  rwa [Int.natCast_mul] at h
 have hm : (n:Int)≤9223372036854775807:=by
  have h:=h63
  unfold maxLen at h
  omega
 have hr:=run_make (P:=P) w t e i z ht hi hz kl kc n n (by omega) (Int.le_refl _) hb hm
 simp only [Int.toNat_natCast] at hr
 subst hsize
 exact ⟨_,hr,World.ownsRow_lit w _ n hbase h63 (size_madeCells _ _),World.grownBy_alloc w _ none,Nat.le_refl _⟩
theorem foots_opds (hr:Rel w0 σ hv S F a w) : ∀ (xs:List Operand),∃ L,footAs hv w (xs.map σ.opd) (xs.map a.eval) L∧∀ b∈L,S b
 | [] => ⟨[],by simp [footAs],by simp⟩
 | x :: xs => by
   obtain ⟨L1,h1,h2⟩:=(hr.arg x).1
   obtain ⟨L2,h3,h4⟩:=foots_opds hr xs
   refine ⟨L1 ++ L2,by simp only [List.map_cons,footAs]; exact ⟨_,_,L1,L2,rfl,rfl,h1,h3⟩,fun b hb=>?_⟩
   rcases List.mem_append.1 hb with hb | hb
   ·exact h2 b hb
   ·exact h4 b hb
theorem zero_run {t:TypeId} {z:Value} (hz:zeroOf P t=some z) (w:World) : (zeroValue t).run P w = .ok z w:=by
 unfold zeroOf at hz
 cases hi : P.info? t with
 | none => simp [hi] at hz
 | some i => simp [hi] at hz; simp [zeroValue,typeInfo,hi,hz]
def Lies (w0:Base) (ob:List Ob) (hv:Hv) (S:Nat→Prop) (F:Nat→List Nat) (w:World) (k:Kind) (es:List T) (vs:List Value) : Prop :=
 ∃ Fi,elsR hv S w Fi k es vs∧(k.isOwn=true→Free w0 ob hv S F Fi)
theorem Rel.newrow (hr:Rel w0 σ hv S F a w) {w':World} (g:Grew w w') {k:Kind} {es:List T} {vs:List Value} (hf:Lies w0 σ.ob hv S F w k es vs)
 {e:TypeId} {m:Nat} {v:Value} (hrow:w'.ownsRow w.heap.size e m v es.length (cellsL vs)) (hs:∀ v∈vs,v.cells.size=m) (hb:es.length < Bd.B) (h1s:ones (cellsL vs)) (hv1:v.oneCell'=true) :
 ∃ (hv':Hv) (S':Nat→Prop) (F':Nat→List Nat),(∀ b,S b→S' b)∧(∀ i,i < σ.ob.length→hv' i=hv i)∧hv' σ.ob.length=v∧Rel w0 { σ with ob:=σ.ob ++ [.arr e m k es] } hv' S' F' a w':=by
 obtain ⟨Fi,hels,hfree⟩:=hf
 have hroot : ∀ b,blkOf v=some b→w.heap.size≤b∧b < w'.heap.size:=blk_of_ownsRow hrow
 have hown : (Ob.arr e m k es).owns=true→k.isOwn=true:=by cases k<;>first | exact fun _=>rfl | exact fun h=>by cases h
 obtain ⟨hv',kB,k1,k2,k3⟩:=Rel.new hr g (o:=.arr e m k es) (v:=v) (Fi:=Fi) hroot rfl hv1
  (fun ho b hb=>⟨(hfree (hown ho) b hb).1,(hfree (hown ho) b hb).2.1,(hfree (hown ho) b hb).2.2.1⟩)
  (fun ho j oj hj hoj b hb=>(hfree (hown ho) b hb).2.2.2 j oj hj hoj)
  (by
   intro hv' hB he hn'
   refine ⟨vs,?_,hels.mono (fun b hb=>⟨.inl hb,g.block b (hr.Slt b hb)⟩) (fun b hb=>⟨hB b hb,g.block b (hr.Blt b hb)⟩) (fun hk b hb=>g.block b (hr.Blt b (hfree hk b hb).2.1)),hs,⟨hb,h1s⟩⟩
   obtain ⟨r1,r2⟩:=hrow
   refine ⟨r1,?_⟩
   rcases r2 with r2 | ⟨gg,cap,cur,q1,q2,q3⟩
   ·exact .inl r2
   ·exact .inr ⟨gg,cap,cur,q1,Nat.zero_le _,q3⟩)
 exact ⟨hv',_,_,fun b hb=>.inl hb,k1,k2,k3⟩
theorem Rel.renew2 (hr:Rel w0 σ hv S F a w) {i:Nat} {o1:Ob} (hi:σ.ob[i]? = some o1) (hd:o1 ≠ .dead) {w':World} (hg:w.grownBy w' (blkOf (hv i))) (hgd:w.drawn≤w'.drawn)
 {v':Value} {e:TypeId} {m:Nat} {k:Kind} {es:List T} {vs:List Value} (hrow:w'.ownsRow 0 e m v' es.length (cellsL vs)) (hroot:∀ b,blkOf v'=some b→blkOf (hv i)=some b ∨ w.heap.size≤b)
 (hv1:v'.oneCell'=true) {S1:Nat→Prop} (hr1:Rel w0 { σ with ob:=σ.ob.set i .dead } hv S1 F a w) (hf:Lies w0 (σ.ob.set i .dead) hv S1 F w k es vs) (hs:∀ v∈vs,v.cells.size=m) (hB:es.length < Bd.B) (h1s:ones (cellsL vs)) :
 ∃ (hv':Hv) (S':Nat→Prop) (F':Nat→List Nat),Rel w0 { σ with ob:=σ.ob.set i .dead ++ [.arr e m k es] } hv' S' F' a w' ∧ hv' σ.ob.length=v':=by
 obtain ⟨Fi,hels,hfree⟩:=hf
 have hlen : (σ.ob.set i .dead).length=σ.ob.length:=List.length_set ..
 have hown : (Ob.arr e m k es).owns=true→k.isOwn=true:=by cases k<;>first | exact fun _=>rfl | exact fun h=>by cases h
 have hrt:=hr.root i o1 hi hd
 have hBs : ∀ b,hv.B b→w'.heap[b]? = w.heap[b]?:=fun b hb=>hg.block b (hr.Blt b hb) (fun e=>(hrt b e.symm).2.2 hb)
 have live : ∀ (j:Nat) oj,(σ.ob.set i .dead)[j]? = some oj→oj ≠ .dead→j≠i∧σ.ob[j]? = some oj:=by
  intro j oj hj hdj
  rcases set_get hj with ⟨_,e⟩ | h
  ·exact absurd e hdj
  ·exact h
 have hbl : But w0.M w0.heap.size w0.toWorld w':=by
  refine hr.below.trans ⟨hg.os,hg.tape,hg.output,hg.size,fun k hk hm=>hg.block k (by have:=hr.below.size; omega) fun e=>?_,fun _=>hgd⟩
  rcases (hrt k e.symm).1 with h | h
  ·exact hm h
  ·omega
 obtain ⟨hv',_,q1,q2,q3⟩:=hr1.new0 (w':=w') hg.size hbl hBs
  (fun j oj hj hdj b hb=>by
   obtain ⟨j1,j2⟩:=live j oj hj hdj
   exact hg.block b (hr.root j oj j2 hdj b hb).2.1 (fun e=>hr.sep j i oj o1 j1 j2 hi hdj hd b hb e.symm))
  (o:=.arr e m k es) (v:=v') (Fi:=Fi) (S':=S1) (B':=hv.B) (fun b hb=>hb) hr1.SB (fun b hb=>hb) (fun b hb=>.inl hb) (fun b hb=>.inl hb)
  (fun b hb=>by
   have k2:=(blk_of_ownsRow hrow b hb).2
   refine ⟨?_,k2,fun hS=>?_,fun j oj hj hdj hh=>?_⟩
   ·rcases hroot b hb with h | h
    ·exact (hrt b h).1
    ·exact .inr (by have:=hr.below.size; omega)
   ·rcases hroot b hb with h | h
    ·exact (hrt b h).2.2 hS
    ·have:=hr.Blt b hS; omega
   ·obtain ⟨j1,j2⟩:=live j oj hj hdj
    rcases hroot b hb with h | h
    ·exact hr.sep j i oj o1 j1 j2 hi hdj hd b hh h
    ·have:=(hr.root j oj j2 hdj b hh).2.1; omega)
  rfl hv1 (fun ho b hb=>⟨(hfree (hown ho) b hb).1,(hfree (hown ho) b hb).2.1,(hfree (hown ho) b hb).2.2.1⟩)
  (fun ho j oj hj hoj b hb=>(hfree (hown ho) b hb).2.2.2 j oj hj hoj)
  (fun hv' hB' he hn'=>⟨vs,hrow,hels.mono (fun b hb=>⟨hb,hBs b (hr1.SB b hb)⟩) (fun b hb=>⟨by rw [hB']; exact hb,hBs b hb⟩) (fun hk b hb=>hBs b (hfree hk b hb).2.1),hs,⟨hB,h1s⟩⟩)
 exact ⟨hv',_,_,q3,by rw [hlen] at q2; exact q2⟩
theorem plains_own : ∀ {ss:List Sh} {xs:List T} {vs:List Value} {L:List Nat},Sh.plains ss=true→ownTs w ss xs vs L→L=[]∧flats xs=true
 | [], [], vs, L, _, h => by simp only [ownTs] at h; exact ⟨h.2,rfl⟩
 | .leaf :: ss, x :: xs, vs, L, hp, h => by
   simp only [Sh.plains] at hp
   simp only [ownTs,ownT] at h
   obtain ⟨v,vs',L1,L2,rfl,rfl,⟨h1,_,rfl⟩,h2⟩:=h
   obtain ⟨rfl,q⟩:=plains_own hp h2
   exact ⟨rfl,by simp only [flats,h1,q,Bool.and_self]⟩
 | .ag _ :: _, _, _, _, hp, _ => by simp [Sh.plains] at hp
 | .sl _ _ _ :: _, _, _, _, hp, _ => by simp [Sh.plains] at hp
 | [], _ :: _, _, _, _, h => by simp only [ownTs] at h
 | .leaf :: _, [], _, _, _, h => by simp only [ownTs] at h
theorem plain_own {s:Sh} {x:T} {v:Value} {L:List Nat} (hp:s.plain=true) (h:ownT w s x v L) : L=[]:=by
 cases s with
 | leaf => simp only [ownT] at h; exact h.2.2
 | ag ss =>
   cases x<;>simp only [ownT] at h
   obtain ⟨vs,_,h⟩:=h
   exact (plains_own hp h).1
 | sl e m s => simp [Sh.plain] at hp
theorem plainEs_own {s:Sh} : ∀ {xs:List T} {vs:List Value} {L:List Nat},s.plain=true→ownEs w s xs vs L→L=[]
 | [], vs, L, _, h => by simp only [ownEs] at h; exact h.2
 | x :: xs, vs, L, hp, h => by
   simp only [ownEs] at h
   obtain ⟨v,vs',L1,L2,rfl,rfl,h1,h2⟩:=h
   rw [plain_own hp h1,plainEs_own hp h2]; rfl
structure Src (w:World) (m:Nat) (v:Value) (us:List Value) (n:Nat) : Prop where
 val : ∃ (A:Option Addr) (c:Nat),v = .slice A n c∧(us=[] ∨ ∃ b off,A=some ⟨b,off,none⟩∧laid w b off (cellsL us))
 len : n=us.length
 size : ∀ v∈us,v.cells.size=m
 ones : ones (cellsL us)
theorem srcOf_sound (hr:Rel w0 σ hv S F a w) {m i:Nat} {k:Kind} {x:Operand} {K:List T→List Nat→Kind→Prop} (h:srcOf m σ.ob i k (σ.opd x) K) :
 ∃ es2 ids k',K es2 ids k' ∧ i ∉ ids∧(k'.isOwn=true→k'=k)∧(k = .bor→k' = .bor)∧(∃ us,Src w m (a.eval x) us es2.length ∧
   ∃ (hv1:Hv) (S1:Nat→Prop),hv1.v=hv.v∧(∀ b,hv.B b→hv1.B b)∧(∀ b,S b→S1 b)∧Rel w0 { σ with ob:=BX.killAll ids σ.ob } hv1 S1 F a w∧Lies w0 (BX.killAll ids σ.ob) hv1 S1 F w k' es2 us):=by
 obtain ⟨⟨L,fx,hL⟩,hux⟩:=hr.arg x
 have same : ∀ {es2:List T} {k':Kind} {us:List Value},K es2 [] k'→((k'.isOwn=true→k'=k)∧(k = .bor→k' = .bor))→Src w m (a.eval x) us es2.length→Lies w0 σ.ob hv S F w k' es2 us → ∃ es2 ids k',K es2 ids k' ∧ i ∉ ids∧(k'.isOwn=true→k'=k)∧(k = .bor→k' = .bor)∧(∃ us,Src w m (a.eval x) us es2.length ∧
  ∃ (hv1:Hv) (S1:Nat→Prop),hv1.v=hv.v∧(∀ b,hv.B b→hv1.B b)∧(∀ b,S b→S1 b)∧Rel w0 { σ with ob:=BX.killAll ids σ.ob } hv1 S1 F a w∧Lies w0 (BX.killAll ids σ.ob) hv1 S1 F w k' es2 us):=fun {es2} {k'} {us} h1 h2 h3 h4 =>
  ⟨es2,[],k',h1,by simp,h2.1,h2.2,us,h3,hv,S,rfl,fun b hb=>hb,fun b hb=>hb,hr,h4⟩
 have nilL : ∀ {k':Kind},Lies w0 σ.ob hv S F w k' [] []:=fun {k'}=>⟨[],by cases k'<;>exact ⟨[],by simp [ownEs,footTs],by simp⟩,fun _=>by intro b hb; cases hb⟩
 have closed : ∀ (c:Kind) (es:List T),σ.opd x=c.look (.sl es)→allLen m es=true → ∃ us L,footTs w es us L∧(∀ b∈L,c.reads hv S b)∧Src w m (a.eval x) us es.length:=by
  intro c es hx hal
  have ax:=hr.arg x
  rw [hx] at ax
  obtain ⟨L,fx,hL⟩:=ax.look_inv
  simp only [footT] at fx
  obtain ⟨A,c',e1,hc,hB,hor⟩:=fx
  rcases hor with ⟨rfl,rfl⟩ | ⟨b,off,vs,L',m',rfl,f1,f2,rfl,f3,f4⟩
  ·exact ⟨[],[],by simp [footTs],by simp,⟨A,c',e1,.inl rfl⟩,rfl,by simp,by simp [ones,cellsL]⟩
  ·exact ⟨vs,L',f1,fun b' hb'=>hL b' (List.mem_cons_of_mem _ hb'),⟨_,c',e1,.inr ⟨b,off,rfl,f3⟩⟩,(footTs_length f1).symm,sizes_of f1 hal,f4⟩
 unfold srcOf at h
 split at h
 ·rename_i hx
  rw [hx] at fx
  simp only [footA] at fx
  exact same h ⟨fun _=>rfl,fun h=>h⟩ ⟨⟨none,0,fx.1,.inl rfl⟩,rfl,by simp,by simp [ones,cellsL]⟩ nilL
 ·rename_i es hx
  obtain ⟨hal,h⟩:=h
  obtain ⟨us,L',f1,f2,f3⟩:=closed .clo es hx hal
  split at h
  ·rename_i s
   split at h
   ·exact same h.2 ⟨fun _=>rfl,fun h=>h⟩ f3 ⟨[],⟨[],fitsAll_own h.1 f1,by simp,by simp⟩,fun _=>by intro b hb; cases hb⟩
   ·exact same h ⟨(fun h=>by cases h),(fun h=>by first | rfl | cases h)⟩ f3 ⟨[],⟨L',f1,f2⟩,fun h=>by cases h⟩
  ·rename_i hk
   cases k with
   | own s => exact absurd rfl (hk s)
   | clo => exact same h ⟨fun _=>rfl,fun h=>h⟩ f3 ⟨[],⟨L',f1,f2⟩,fun h=>by cases h⟩
   | bor => exact same h ⟨fun _=>rfl,fun h=>h⟩ f3 ⟨[],⟨L',f1,fun b hb=>hr.SB b (f2 b hb)⟩,fun h=>by cases h⟩
 ·rename_i es hx
  obtain ⟨hal,h⟩:=h
  obtain ⟨us,L',f1,f2,f3⟩:=closed .bor es hx hal
  split at h
  ·rename_i s
   split at h
   ·exact same h.2 ⟨fun _=>rfl,fun h=>h⟩ f3 ⟨[],⟨[],fitsAll_own h.1 f1,by simp,by simp⟩,fun _=>by intro b hb; cases hb⟩
   ·exact same h ⟨(fun h=>by cases h),(fun h=>by first | rfl | cases h)⟩ f3 ⟨[],⟨L',f1,f2⟩,fun h=>by cases h⟩
  ·exact same h ⟨(fun h=>by cases h),(fun h=>by first | rfl | cases h)⟩ f3 ⟨[],⟨L',f1,f2⟩,fun h=>by cases h⟩
 ·rename_i j hx
  split at h
  ·rename_i e' m' k2 es hj
   obtain ⟨rfl,hne,h⟩:=h
   rw [hx] at fx
   simp only [footA] at fx
   obtain ⟨us,k1,k3,k4,k5⟩:=hr.ob j _ hj
   have hsrc : Src w m' (a.eval x) us es.length:=by
    refine ⟨?_,(elsR_length k3).symm,k4,k5.2⟩
    rcases k1.2 with ⟨q,q2⟩ | ⟨g,cap,cur,q,_⟩
    ·have : us=[]:=List.eq_nil_of_length_eq_zero (by rw [elsR_length k3]; exact q2)
     exact ⟨none,0,by rw [fx.1,q,q2],.inl this⟩
    ·exact ⟨_,cap,fx.1.trans q,.inr ⟨g,0,rfl,ownsRow_laid k1 q⟩⟩
   have asBor : Lies w0 σ.ob hv S F w .bor es us:=by
    obtain ⟨L',f1,f2⟩:=elsR_foot k3 (fun hk b hb=>(hr.fown j _ hj (by cases k2<;>first | rfl | cases hk) b hb).2.1)
    exact ⟨[],⟨L',f1,fun b hb=>by have:=f2 b hb; cases k2<;>first | exact this | exact hr.SB b this⟩,fun h=>by cases h⟩
   split at h
   ·rename_i s s'
    obtain ⟨rfl,h⟩:=h
    obtain ⟨L',g1,g2,g3⟩:=k3
    split at h
    ·rename_i hp
     have:=plainEs_own hp g1
     subst this
     exact same h ⟨fun _=>rfl,fun h=>h⟩ hsrc ⟨[],⟨[],g1,by simp,by simp⟩,fun _=>by intro b hb; cases hb⟩
    ·rename_i hp
     have hne : i≠j:=hne.elim id fun hq=>absurd hq hp
     have hr1:=hr.drop j
     refine ⟨es,[j],_,h,by simpa using hne,fun _=>rfl,fun h=>h,us,hsrc,hv,S,rfl,fun b hb=>hb,fun b hb=>hb,hr1,F j,⟨L',g1,g2,g3⟩,fun _ b hb=>?_⟩
     obtain ⟨q1,q2,q3⟩:=hr.fown j _ hj rfl b hb
     refine ⟨q1,q2,q3,fun j' oj hj' hoj hbj=>?_⟩
     rcases set_get (l:=σ.ob) hj' with ⟨_,rfl⟩ | ⟨hne',hj2⟩
     ·cases hoj
     ·exact hr.fsep j j' _ oj (Ne.symm hne') hj hj2 rfl hoj b hb hbj
   ·exact same h ⟨(fun h=>by cases h),(fun h=>by first | rfl | cases h)⟩ hsrc ⟨[],k3,fun h=>by cases h⟩
   ·rename_i s
    have hne : i≠j:=hne.elim id fun hq=>by cases hq
    obtain ⟨L',g1,g2,g3⟩:=k3
    obtain ⟨L2,f1,f2⟩:=ownEs_foot s es g1
    obtain ⟨hv1,S1,e1,b1,s1,s2,hr1,_⟩:=hr.kill j
    exact ⟨es,[j],_,h,by simpa using hne,(fun h=>by cases h),(fun h=>by cases h),us,hsrc,hv1,S1,e1,b1,s1,hr1,[],⟨L2,f1,fun b hb=>s2 _ hj (by simp) b (.inr ⟨rfl,g3 b (f2 b hb)⟩)⟩,fun h=>by cases h⟩
   ·exact same h ⟨(fun h=>by cases h),(fun h=>by first | rfl | cases h)⟩ hsrc ⟨[],k3,fun h=>by cases h⟩
   ·exact same h ⟨(fun h=>by cases h),(fun h=>by first | rfl | cases h)⟩ hsrc asBor
  ·cases h
 ·cases h
theorem Lies.join (hr:Rel w0 σ hv S F a w) {i:Nat} {e:TypeId} {m:Nat} {k k':Kind} {es es2:List T} {vs us:List Value} (hi:σ.ob[i]? = some (.arr e m k es)) (h1:elsR hv S w (F i) k es vs) (h2:Lies w0 σ.ob hv S F w k' es2 us) (hk:k'.isOwn=true→k'=k) (hk2:k = .bor→k' = .bor) :
 ∃ S',(∀ b,S b→S' b)∧Rel w0 { σ with ob:=σ.ob.set i .dead } hv S' F a w∧Lies w0 (σ.ob.set i .dead) hv S' F w k' (es ++ es2) (vs ++ us):=by
 have hr1:=hr.drop i
 obtain ⟨Fi,g1,g2⟩:=h2
 cases k' with
 | own s =>
   obtain rfl:=hk rfl
   obtain ⟨L1,a1,a2,a3⟩:=h1
   obtain ⟨L2,c1,c2,c3⟩:=g1
   refine ⟨S,fun b hb=>hb,hr1,F i ++ Fi,⟨L1 ++ L2,ownEs_append a1 c1,List.nodup_append.2 ⟨a2,c2,fun b hb b' hb' e=>?_⟩,fun b hb=>(List.mem_append.1 hb).elim (fun h=>List.mem_append_left _ (a3 b h)) (fun h=>List.mem_append_right _ (c3 b h))⟩,fun _ b hb=>?_⟩
   ·subst e
    exact (g2 rfl b (c3 b hb')).2.2.2 i _ hi rfl (a3 b hb)
   ·rcases List.mem_append.1 hb with hb | hb
    ·obtain ⟨q1,q2,q3⟩:=hr.fown i _ hi rfl b hb
     refine ⟨q1,q2,q3,fun j oj hj hoj hbj=>?_⟩
     rcases set_get hj with ⟨_,rfl⟩ | ⟨hne,hj2⟩
     ·cases hoj
     ·exact hr.fsep i j _ oj (Ne.symm hne) hi hj2 rfl hoj b hb hbj
    ·obtain ⟨q1,q2,q3,q4⟩:=g2 rfl b hb
     refine ⟨q1,q2,q3,fun j oj hj hoj=>?_⟩
     rcases set_get hj with ⟨_,rfl⟩ | ⟨_,hj2⟩
     ·cases hoj
     ·exact q4 j oj hj2 hoj
 | bor =>
   obtain ⟨L1,a1,a2⟩:=elsR_foot h1 (fun hk b hb=>(hr.fown i _ hi (by cases k<;>first | rfl | cases hk) b hb).2.1)
   obtain ⟨L2,c1,c2⟩:=g1
   refine ⟨S,fun b hb=>hb,hr1,[],⟨L1 ++ L2,footTs_append a1 c1,fun b hb=>?_⟩,fun h=>by cases h⟩
   rcases List.mem_append.1 hb with hb | hb
   ·have:=a2 b hb
    cases k<;>first | exact this | exact hr.SB b this
   ·exact c2 b hb
 | clo =>
   obtain ⟨L2,c1,c2⟩:=g1
   have : ∃ S',(∀ b,S b→S' b)∧Rel w0 { σ with ob:=σ.ob.set i .dead } hv S' F a w∧(k = .bor ∨ ∃ L1,footTs w es vs L1∧∀ b∈L1,S' b):=by
    cases k with
    | bor => exact ⟨S,fun b hb=>hb,hr1,.inl rfl⟩
    | clo => obtain ⟨L1,a1,a2⟩:=h1; exact ⟨S,fun b hb=>hb,hr1,.inr ⟨L1,a1,a2⟩⟩
    | own s =>
      obtain ⟨L1,a1,a2,a3⟩:=h1
      obtain ⟨L3,f1,f2⟩:=ownEs_foot s es a1
      refine ⟨fun b=>S b ∨ b∈F i,fun b hb=>.inl hb,hr1.moreS (fun b hb=>.inl hb) (fun b hb=>hb.elim (hr.SB b) fun hb=>(hr.fown i _ hi rfl b hb).2.1) (fun j oj hj hoj b hb hh=>?_),.inr ⟨L3,f1,fun b hb=>.inr (a3 b (f2 b hb))⟩⟩
      rcases set_get hj with ⟨_,rfl⟩ | ⟨hne,hj2⟩
      ·cases hoj
      ·rcases hh with hh | hh
       ·exact (hr.fown j oj hj2 hoj b hb).2.2 hh
       ·exact hr.fsep j i oj _ hne hj2 hi hoj rfl b hb hh
   obtain ⟨S',s1,hr2,h⟩:=this
   rcases h with rfl | ⟨L1,a1,a2⟩
   ·cases hk2 rfl
   ·exact ⟨S',s1,hr2,[],⟨L1 ++ L2,footTs_append a1 c1,fun b hb=>(List.mem_append.1 hb).elim (a2 b) (fun h=>s1 b (c2 b h))⟩,fun h=>by cases h⟩
theorem buildSlice_sound {o:Oper} {t:TypeId} {n:Nat} {parts:Array (Nat × Operand)} (ho:o.op = .buildSlice t n parts) (hr:Rel w0 σ hv S F a w)
 (h:vcBuildSlice P t n (parts.toList.map (·.1)) (parts.toList.map fun p=>σ.opd p.2) σ.ob K) (hn:Ans w0 σ a K next) : Does P Q o a w next:=by
 unfold vcBuildSlice at h
 split at h
 ·rename_i e m hl
  obtain ⟨hks,hsz,hnB,hz,h⟩:=h
  obtain ⟨hu,hm,inf,hinf⟩:=lay_sli hl
  split at h
  ·rename_i ys ids k htk
   obtain ⟨hnd,hal,hon,h⟩:=h
   obtain ⟨L,f1,f2⟩:=foots_opds hr (parts.toList.map (·.2))
   simp only [List.map_map] at f1
   obtain ⟨hv1,S1,e1,b1,s1,hr1,Fi,hels,hown,_⟩:=mix_sound hr htk (nodupB_spec hnd) f1 f2
   obtain ⟨L',g1,_⟩:=elsR_foot hels (fun hk b hb=>((hown hk).2.1 b hb).2.1)
   obtain ⟨z,hz⟩:=Option.isSome_iff_exists.1 hz
   generalize hvs : parts.toList.map (a.eval ∘ fun x=>x.2)=vs at *
   have hlen : vs.length=n:=by
    rw [← hvs,List.length_map]
    have:=congrArg List.length hks
    simpa using this
   have hlen2 : ys.length=n:=by rw [← footTs_length g1,hlen]
   have hsizes:=sizes_of g1 hal
   have hparts : (parts.map fun (p:Nat × Operand)=>(p.1,a.eval p.2)).toList=(List.range' 0 vs.length).zip vs:=by
    rw [hlen,← hks,← hvs,Array.toList_map,List.zip_map',]
    rfl
   have hfill : Instr.fill (fun i=>some (i * m,m)) ((Array.range (n * m)).map (((if n * m=0 then #[] else z.cells) : Array Value)[· % ((if n * m=0 then #[] else z.cells) : Array Value).size]!)) ((parts.map fun (p:Nat × Operand)=>(p.1,a.eval p.2)).toList)=some (cellsL vs).toArray:=by
    rw [hparts,fill_full m vs 0 _ hsizes (by simp [hlen])]
    simp
   have hrun : (Instr.buildSlice t n (parts.map fun (p:Nat × Operand)=>(p.1,a.eval p.2))).run P w = .ok (.slice (some ⟨w.heap.size,0,none⟩) n n) (w.alloc (.cells (cellsL vs).toArray e)):=by
    simp only [Instr.buildSlice,Sem.run_bind,run_underlying hu,Result.andThen_ok,run_sizeOf w hinf,hm]
    rw [if_neg (by omega)]
    by_cases h0 : n * m=0
    ·simp only [h0,if_true] at hfill ⊢
     simp only [Sem.run_bind,Sem.run_pure,Result.andThen_ok,hfill]
     simp [newRow]
    ·simp only [h0,if_false] at hfill ⊢
     simp only [Sem.run_bind,zero_run hz,Sem.run_pure,Result.andThen_ok,hfill]
     simp [newRow]
   refine does_value (v:=.slice (some ⟨w.heap.size,0,none⟩) n n) (w':=w.alloc (.cells (cellsL vs).toArray e)) (by simp [execOp,ho,hrun]) ?_
   have hcl : (cellsL vs).length=n * m:=by
    have:=cellsL_take vs hsizes
    have key : ∀ (l:List Value),(∀ v∈l,v.cells.size=m)→(cellsL l).length=l.length * m:=by
     intro l
     induction l with
     | nil => intro _; simp [cellsL]
     | cons x l ih =>
       intro hh
       have:=ih fun v hv=>hh v (List.mem_cons_of_mem _ hv)
       have hx : x.cells.toList.length=m:=by simpa using hh x (List.mem_cons_self ..)
       simp only [cellsL,List.flatMap_cons,List.length_append,hx,List.length_cons] at this ⊢
       rw [this,Nat.succ_mul]; omega
    rw [key vs hsizes,hlen]
   have hrow:=World.ownsRow_lit (base:=w.heap.size) (e:=e) (size:=m) w (cellsL vs).toArray n (Nat.le_refl _) (by have:=Bd.hi; simp only [maxLen]; omega) (by simpa using hcl)
   obtain ⟨hv',S',F',q1,q2,q3,q4⟩:=hr1.newrow (Grew.alloc w _) (k:=k) (es:=ys) (vs:=vs) ⟨Fi,hels,fun hk=>(hown hk).2.1⟩ (e:=e) (m:=m) (v:=.slice (some ⟨w.heap.size,0,none⟩) n n) (by rw [hlen2]; simpa using hrow) hsizes (by rw [hlen2]; exact hnB) (ones_of g1 hon) rfl
   exact hn _ _ _ _ hv' S' F' [] h q4 (by simp only [footA]; exact ⟨by rw [← q3]; simp [killAll_length],trivial⟩) (by simp) (by simp [AV.under,killAll_length])
  ·cases h
 ·cases h
theorem append_sound {o:Oper} {c:Call} {t:TypeId} {s x:Operand} (ho:o.op = .call c) (hc:c.callee = .builtin .append) (ha:c.args.toList=[s,x]) (ht:c.argTypes.toList=[t,t])
 (hr:Rel w0 σ hv S F a w) (h:vcAppend P t (σ.opd s) (σ.opd x) σ.ob K) (hn:Ans w0 σ a K next) : Does P Q o a w next:=by
 have ha' : c.args = #[s,x]:=by apply Array.ext'; simpa using ha
 have ht' : c.argTypes = #[t,t]:=by apply Array.ext'; simpa using ht
 have run : ∀ {v:Value} {w':World},(Builtin.append_ #[t,t] o.type #[a.eval s,a.eval x]).run P w = .ok v w'→(execOp a.eval o).run P w = .ok (.value v) w':=by
  intro v w' h2
  simp [execOp,ho,resolve,hc,ha',ht',invoke,builtin,h2]
 obtain ⟨⟨Ls,fs,_⟩,_⟩:=hr.arg s
 have hb0:=hr.below.size
 unfold vcAppend at h
 split at h
 ·rename_i e m hl
  obtain ⟨hm0,hz,hby,h⟩:=h
  split at h
  ·rename_i i hs
   rw [hs] at fs
   simp only [footA] at fs
   obtain ⟨fs,_⟩:=fs
   split at h
   ·rename_i e' m' k es hi
    obtain ⟨rfl,rfl,h⟩:=h
    obtain ⟨es2,ids,k',⟨hlen,hK⟩,hni,hk1,hk2,us,src,hv1,S1,e1,b1,s1,hr1,hlies⟩:=srcOf_sound hr h
    obtain ⟨A,c2,u1,u5⟩:=src.val
    have hi1 : (BX.killAll ids σ.ob)[i]? = some (.arr e' m' k es):=by rw [killAll_keep ids _ i hni]; exact hi
    obtain ⟨vs,k1,k2,k3,k4⟩:=hr1.ob i _ hi1
    have k1' : w.ownsRow 0 e' m' (hv i) es.length (cellsL vs):=by have h:=k1; rw [e1] at h; exact h
    have hvl:=elsR_length k2
    obtain ⟨v',w',r1,r2,r3,r4,r5⟩:=append_row (P:=P) (w:=w) hl hm0 hz hby (ty:=o.type) k1' (Nat.zero_le _) hvl.symm k3 u1 src.len src.size src.ones u5 (by simpa using hlen)
    obtain ⟨S2,s2,hr2,hl2⟩:=Lies.join hr1 hi1 k2 hlies hk1 hk2
    obtain ⟨hv',S',F',q1,q2⟩:=Rel.renew2 hr1 hi1 (by simp) (w':=w') (by rw [e1]; exact r3.1) r3.2 (v':=v') (e:=e') (m:=m') (k:=k') (es:=es ++ es2) (vs:=vs ++ us) (by rw [List.length_append]; exact r2) (by rw [e1]; exact r4) r5 hr2 hl2
     (fun v hv=>(List.mem_append.1 hv).elim (k3 v) (src.size v)) hlen (by rw [cellsL_append]; exact fun u hu=>(List.mem_append.1 hu).elim (k4.2 u) (src.ones u))
    rw [← fs] at r1
    exact does_value (run r1) (hn _ _ _ _ hv' S' F' [] hK q1 (by simp only [footA]; exact ⟨by rw [← q2]; simp [killAll_length],trivial⟩) (by simp) (by simp [AV.under,killAll_length]))
   ·cases h
  ·rename_i hs
   rw [hs] at fs
   simp only [footA] at fs
   obtain ⟨fs,_⟩:=fs
   obtain ⟨es2,ids,k',⟨hlen,hK⟩,hni,hk1,hk2,us,src,hv1,S1,e1,b1,s1,hr1,hlies⟩:=srcOf_sound hr h
   obtain ⟨A,c2,u1,u5⟩:=src.val
   obtain ⟨v',w',r1,r2,r3,r4,r5⟩:=append_row (P:=P) (w:=w) (v:=.slice none 0 0) (n:=0) (vs:=[]) (base:=w.heap.size) hl hm0 hz hby (ty:=o.type) (World.ownsRow_nil w w.heap.size e m) (Nat.le_refl _) rfl (by simp) u1 src.len src.size src.ones u5 (by simpa using hlen)
   have g : Grew w w':=⟨r3.1.os,r3.1.tape,r3.1.output,r3.1.size,fun k hk=>r3.1.block k hk (by simp [blkOf]),fun _=>r3.2⟩
   obtain ⟨hv',S',F',q1,q2,q3,q4⟩:=hr1.newrow g (k:=k') (es:=es2) (vs:=us) hlies (e:=e) (m:=m) (v:=v') (by simpa using r2) src.size hlen src.ones r5
   rw [← fs] at r1
   exact does_value (run r1) (hn _ _ _ _ hv' S' F' [] hK q4 (by simp only [footA]; exact ⟨by rw [← q3]; simp [killAll_length],trivial⟩) (by simp) (by simp [AV.under,killAll_length]))
  ·cases h
 ·cases h
mutual
theorem own_lit {w:World} : ∀ (s:Sh) (x:AV) {y:T} {ids:List Nat} {v:Value} {L:List Nat},x.own [] s=some (y,ids)→footA hv w x v L→ownT w s y v []
 | s, .t x, y, ids, v, L, h, hf => by
   rw [AV.own] at h
   split at h
   ·rename_i hfit
    simp only [Option.some.injEq,Prod.mk.injEq] at h
    obtain ⟨rfl,rfl⟩:=h
    simp only [footA] at hf
    exact fits_own s x hfit hf
   ·cases h
 | .ag ss, .ag cs, y, ids, v, L, h, hf => by
   simp only [AV.own] at h
   split at h
   ·rename_i ys is hcs
    simp only [Option.some.injEq,Prod.mk.injEq] at h
    obtain ⟨rfl,rfl⟩:=h
    simp only [footA] at hf
    obtain ⟨vs,rfl,hf⟩:=hf
    simp only [ownT]
    exact ⟨vs,rfl,ownsL_lit ss cs hcs hf⟩
   ·cases h
 | .sl e m s, .ns, y, ids, v, L, h, hf => by
   simp only [AV.own,Option.some.injEq,Prod.mk.injEq] at h
   obtain ⟨rfl,rfl⟩:=h
   simp only [footA] at hf
   have:=Bd.lo
   simp only [ownT,ownEs]
   exact ⟨[],[],by rw [hf.1]; exact World.ownsRow_nil w 0 e m,⟨rfl,rfl⟩,by simp,⟨by simp; omega,by simp [ones,cellsL]⟩,by rw [hf.1]; rfl⟩
 | .sl e m s, .sr id, y, ids, v, L, h, _ => by simp [AV.own] at h
 | .leaf, .un, _, _, _, _, h, _ | .leaf, .ud, _, _, _, _, h, _ | .leaf, .ns, _, _, _, _, h, _ | .leaf, .bw _, _, _, _, _, h, _ | .leaf, .ag _, _, _, _, _, h, _ | .leaf, .tp _, _, _, _, _, h, _ | .leaf, .rf _ _, _, _, _, _, h, _ | .leaf, .ra _ _ _ _, _, _, _, _, h, _ | .leaf, .sv _ _ _ _, _, _, _, _, h, _ | .leaf, .sr _, _, _, _, _, h, _ | .leaf, .mr _, _, _, _, _, h, _ | .leaf, .it _, _, _, _, _, h, _ | .leaf, .fn _ _, _, _, _, _, h, _ => by simp [AV.own] at h
 | .ag _, .un, _, _, _, _, h, _ | .ag _, .ud, _, _, _, _, h, _ | .ag _, .ns, _, _, _, _, h, _ | .ag _, .bw _, _, _, _, _, h, _ | .ag _, .tp _, _, _, _, _, h, _ | .ag _, .rf _ _, _, _, _, _, h, _ | .ag _, .ra _ _ _ _, _, _, _, _, h, _ | .ag _, .sv _ _ _ _, _, _, _, _, h, _ | .ag _, .sr _, _, _, _, _, h, _ | .ag _, .mr _, _, _, _, _, h, _ | .ag _, .it _, _, _, _, _, h, _ | .ag _, .fn _ _, _, _, _, _, h, _ => by simp [AV.own] at h
 | .sl _ _ _, .un, _, _, _, _, h, _ | .sl _ _ _, .ud, _, _, _, _, h, _ | .sl _ _ _, .bw _, _, _, _, _, h, _ | .sl _ _ _, .ag _, _, _, _, _, h, _ | .sl _ _ _, .tp _, _, _, _, _, h, _ | .sl _ _ _, .rf _ _, _, _, _, _, h, _ | .sl _ _ _, .ra _ _ _ _, _, _, _, _, h, _ | .sl _ _ _, .sv _ _ _ _, _, _, _, _, h, _ | .sl _ _ _, .mr _, _, _, _, _, h, _ | .sl _ _ _, .it _, _, _, _, _, h, _ | .sl _ _ _, .fn _ _, _, _, _, _, h, _ => by simp [AV.own] at h
theorem ownsL_lit {w:World} : ∀ (ss:List Sh) (xs:List AV) {ys:List T} {ids:List Nat} {vs:List Value} {L:List Nat},ownsL [] ss xs=some (ys,ids)→footAs hv w xs vs L→ownTs w ss ys vs []
 | [], [], ys, ids, vs, L, h, hf => by
   simp only [ownsL,Option.some.injEq,Prod.mk.injEq] at h
   obtain ⟨rfl,rfl⟩:=h
   simp only [footAs] at hf
   simp only [ownTs]; exact ⟨hf.1,trivial⟩
 | s :: ss, x :: xs, ys, ids, vs, L, h, hf => by
   simp only [ownsL] at h
   split at h
   ·rename_i y i ys' i' h1 h2
    simp only [Option.some.injEq,Prod.mk.injEq] at h
    obtain ⟨rfl,rfl⟩:=h
    simp only [footAs] at hf
    obtain ⟨v,vs',L1,L2,rfl,rfl,f1,f2⟩:=hf
    simp only [ownTs]
    exact ⟨v,vs',[],[],rfl,rfl,own_lit s x h1 f1,ownsL_lit ss xs h2 f2⟩
   ·cases h
 | [], _ :: _, _, _, _, _, h, _ => by simp [ownsL] at h
 | _ :: _, [], _, _, _, _, h, _ => by simp [ownsL] at h
end
theorem make_sound {o:Oper} {t:TypeId} {l c:Operand} (ho:o.op = .makeSlice t l c) (hr:Rel w0 σ hv S F a w) (h:vcMake P t (σ.opd l) (σ.opd c) σ.ob K) (hn:Ans w0 σ a K next) : Does P Q o a w next:=by
 have al:=hr.arg l
 have ac:=hr.arg c
 unfold vcMake at h
 split at h
 ·rename_i e m k n k' n' hl el ec
  obtain ⟨rfl,h0,hB,hm0,hby,h⟩:=h
  obtain ⟨hu,hm,inf,hinf⟩:=lay_sli hl
  split at h
  ·rename_i z hz
   split at h
   ·rename_i y ids' hy
    obtain ⟨hy1,hy2,hK⟩:=h
    rw [el] at al
    rw [ec] at ac
    obtain ⟨nn,rfl⟩:=Int.eq_ofNat_of_zero_le h0
    have hzz : inf.zero=some z:=by simpa [zeroOf,hinf] using hz
    have hby2 : inf.bytes=P.bytesOf e:=by simp [Program.bytesOf,hinf]
    have hsz : inf.size=m:=by rw [← hm]; simp [Program.cellsOf,hinf]
    have hi:=Bd.hi
    obtain ⟨w',r1,r2,r3,r3d⟩:=make_full (P:=P) w w.heap.size t e inf z m hu hinf hzz hsz k k' nn (by rw [hby2,Nat.mul_comm]; exact Nat.le_trans (Nat.mul_le_mul_right _ (by omega:nn≤Bd.B)) hby) (by simp only [maxLen]; omega) (Nat.le_refl _)
    have hz0:=own_lit (hv:=hv) (w:=w) _ _ hy (ofV_foot hv w z)
    obtain ⟨Lz,hzf,_⟩:=ownT_foot _ _ hz0
    have hzs : z.cells.size=m:=by rw [(footT_cells hzf).1,hy1]
    have hcl : (madeCells z.cells (nn * m)).toList=cellsL (List.replicate nn z):=by
     apply List.ext_getElem?
     intro j
     have hlen : (cellsL (List.replicate nn z)).length=nn * m:=by
      have h:=cellsL_length (m:=m) (List.replicate nn z) (fun v hv=>by rw [(List.mem_replicate.1 hv).2]; exact hzs)
      rwa [List.length_replicate] at h
     by_cases hj : j < nn * m
     ·have hjd : j / m < nn:=Nat.div_lt_of_lt_mul (by rw [Nat.mul_comm]; exact hj)
      have hjm : j % m < m:=Nat.mod_lt _ hm0
      have:=cellsL_get (m:=m) (vs:=List.replicate nn z) (fun v hv=>by rw [(List.mem_replicate.1 hv).2]; exact hzs) (i:=j / m) (v:=z) (by simp [hjd]) hjm
      rw [Nat.mul_comm,Nat.div_add_mod] at this
      rw [this]
      simp only [madeCells,Array.toList_map,Array.toList_range,List.getElem?_map,List.getElem?_range hj,Option.map_some,hzs]
      have : j % m < z.cells.size:=by omega
      simp [this]
     ·rw [List.getElem?_eq_none (by simp [size_madeCells]; omega),List.getElem?_eq_none (by omega)]
    have hfz : ∀ k,ownEs w (shOf P 40 e) (List.replicate k y) (List.replicate k z) []:=by
     intro k
     induction k with
     | zero => simp [ownEs]
     | succ k ih => simp only [List.replicate_succ,ownEs]; exact ⟨z,_,[],[],rfl,rfl,hz0,ih⟩
    have g : Grew w w':=⟨r3.os,r3.tape,r3.output,r3.size,fun k hk=>r3.block k hk (by simp),fun _=>r3d⟩
    obtain ⟨hv',S',F',q1,q2,q3,q4⟩:=hr.newrow g (k:=.own (shOf P 40 e)) (es:=List.replicate nn y) (vs:=List.replicate nn z) ⟨[],⟨[],hfz nn,by simp,by simp⟩,fun _=>by intro b hb; cases hb⟩ (e:=e) (m:=m)
     (v:=.slice (some ⟨w.heap.size,0,none⟩) nn nn) (by rw [List.length_replicate,← hcl]; exact r2) (fun v hv=>by rw [(List.mem_replicate.1 hv).2]; exact hzs) (by rw [List.length_replicate]; omega)
     (by
      intro u hu
      simp only [cellsL,List.mem_flatMap] at hu
      obtain ⟨v,hv,hu⟩:=hu
      rw [(List.mem_replicate.1 hv).2] at hu
      exact ones_cells hzf hy2 u hu) rfl
    refine does_value (v:=.slice (some ⟨w.heap.size,0,none⟩) nn nn) (w':=w') (by simp only [execOp,ho,al.i_inv,ac.i_inv,Sem.run_bind,r1,Result.andThen_ok,Sem.run_pure]) ?_
    simp only [Int.toNat_natCast] at hK
    exact hn _ _ _ _ hv' S' F' [] hK q4 (by simp only [footA]; exact ⟨q3.symm,trivial⟩) (by simp) (by simp [AV.under])
   ·cases h
  ·cases h
 ·cases h
end
end Go.Proofs.YtmgdkkhnjkepiaaGreat.BX
namespace Go.Proofs.YtmgdkkhnjkepiaaGreat.BX
open Nat renaming reduceEqDiff → zA, reduceLT → zB, reduceLeDiff → zC, reduceAdd → zD, reduceMul → zE, reduceSub → zF, reduceBEq → zG
set_option linter.unusedSectionVars false
set_option linter.unusedSimpArgs false
set_option linter.unusedVariables false
open Go Go.RowKit
variable [Bd]
def AV.known : AV→Bool
 | .un => false
 | _ => true
def fillA (fs:List (Nat × Nat)) (cells:List AV) : List (Nat × AV)→Option (List AV)
 | [] => some cells
 | (i, x) :: rest => match fs[i]? with
   | some (off, n) => if x.cells.length=n∧off + n≤cells.length∧x.known=true then fillA fs (segA cells off x.cells) rest else none
   | none => none
def vcBuild (P:Program) (t:TypeId) (parts:List (Nat × AV)) (K:AV→Prop) : Prop :=
 match lay P t,zeroOf P t with
 | .st fs _, some z => match fillA fs (ofV z).cells parts with
   | some cells => (ofV z).known=true∧K (.ag cells)
   | none => False
 | _, _ => False
def vcStore (P:Program) (t:TypeId) (p x:AV) (ob:List Ob) (K:AV→List Ob→Prop) : Prop :=
 match p with
 | .rf id off => match ob[id]? with
   | some (.box y) => y ≠ .un∧x ≠ .un∧allOne x.cells=true∧P.cellsOf t=x.cells.length∧off + x.cells.length≤y.cells.length∧x.cells.length≠0 ∧
    K .ud (ob.set id (.box (if off=0∧y.cells.length=x.cells.length∧x.isAg=y.isAg then x else .ag (segA y.cells off x.cells))))
   | _ => False
 | .ra id i m off => match ob[id]? with
   | some (.arr e m' k es) => (m=m' ∧ i < es.length)∧match mix ob k [x] with
     | some ([z], ids, k') => (ids.contains id=false∧nodupB ids=true)∧(T.allOne z.cells=true∧P.cellsOf t=z.cells.length∧z.cells.length≠0)∧allAt es i fun y =>
       if off=0∧z.cells.length=m∧z.isAg=y.isAg then K .ud ((killAll ids ob).set id (.arr e m k' (es.set i z)))
       else (z.flat=true∧z.one=true∧off < m∧y.cells.length=m∧y.isAg=true∧ids=[])∧(match y.cells[off]? with | some c=>c.flat=true∧c.one=true | none=>False)∧K .ud (ob.set id (.arr e m k (es.set i (.ag (y.cells.set off z)))))
     | _ => False
   | some (.hole e m' s es i' j _) => (m=m' ∧ i=i' ∧ off=j)∧match x with
     | .sr n => match ob[n]? with
       | some (.arr e1 m1 (.own s1) xs) => (s.cells[j]? = some (.sl e1 m1 s1)∧P.cellsOf t=1∧off < m)∧allAt es i fun y=>K .ud ((ob.set n .dead).set id (.arr e m (.own s) (es.set i (y.setCell j (.sl xs)))))
       | _ => False
     | _ => False
   | _ => False
 | _ => False
section
variable {P:Program} {Q:Exit→Act→World→Prop} {w0:Base} {σ:St} {hv:Hv} {S:Nat→Prop} {F:Nat→List Nat} {a:Act} {w:World}
 {K:AV→List Ob→Prop} {next:Value→World→Prop}
theorem footAs_append : ∀ {xs ys:List AV} {vs us:List Value} {L M:List Nat},footAs hv w xs vs L→footAs hv w ys us M→footAs hv w (xs ++ ys) (vs ++ us) (L ++ M)
 | [], _, _, _, _, _, h, k => by simp only [footAs] at h; obtain ⟨rfl,rfl⟩:=h; simpa using k
 | x :: xs, ys, vs, us, L, M, h, k => by
   simp only [footAs] at h
   obtain ⟨v,vs',L1,L2,e,hL,h1,h2⟩:=h
   subst e hL
   simp only [List.cons_append,footAs]
   exact ⟨v,vs' ++ us,L1,L2 ++ M,rfl,by simp [List.append_assoc],h1,footAs_append h2 k⟩
theorem footAs_take : ∀ {xs:List AV} {vs:List Value} {L:List Nat} (k:Nat),footAs hv w xs vs L → ∃ L',footAs hv w (xs.take k) (vs.take k) L' ∧ ∀ b∈L',b∈L
 | [], vs, L, k, h => by simp only [footAs] at h; obtain ⟨rfl,rfl⟩:=h; exact ⟨[],by simp [footAs],by simp⟩
 | x :: xs, vs, L, 0, h => ⟨[],by simp [footAs],by simp⟩
 | x :: xs, vs, L, k + 1, h => by
   simp only [footAs] at h
   obtain ⟨v,vs',L1,L2,rfl,rfl,h1,h2⟩:=h
   obtain ⟨L',g1,g2⟩:=footAs_take k h2
   refine ⟨L1 ++ L',by simp only [List.take_succ_cons,footAs]; exact ⟨v,_,L1,L',rfl,rfl,h1,g1⟩,fun b hb=>?_⟩
   rcases List.mem_append.1 hb with hb | hb
   ·exact List.mem_append_left _ hb
   ·exact List.mem_append_right _ (g2 b hb)
theorem footAs_drop : ∀ {xs:List AV} {vs:List Value} {L:List Nat} (k:Nat),footAs hv w xs vs L → ∃ L',footAs hv w (xs.drop k) (vs.drop k) L' ∧ ∀ b∈L',b∈L
 | [], vs, L, k, h => by simp only [footAs] at h; obtain ⟨rfl,rfl⟩:=h; exact ⟨[],by simp [footAs],by simp⟩
 | x :: xs, vs, L, 0, h => ⟨L,by simpa using h,fun b hb=>hb⟩
 | x :: xs, vs, L, k + 1, h => by
   simp only [footAs] at h
   obtain ⟨v,vs',L1,L2,rfl,rfl,h1,h2⟩:=h
   obtain ⟨L',g1,g2⟩:=footAs_drop k h2
   exact ⟨L',by simpa using g1,fun b hb=>List.mem_append_right _ (g2 b hb)⟩
theorem cells_foots {x:AV} {v:Value} {L:List Nat} (hf:footA hv w x v L) (hk:x ≠ .un) (h1:∀ id,(hv id).oneCell'=true) : ∃ L',footAs hv w x.cells v.cells.toList L' ∧ ∀ b∈L',b∈L:=by
 obtain ⟨c1,c2⟩:=footA_cells hf hk h1
 exact footAs_of_cells (hv:=hv) (w:=w) x.cells v.cells.toList L (by simpa using c1) (fun j y hj=>by obtain ⟨u,L',q1,q2,q3⟩:=c2 j y hj; exact ⟨u,L',by simpa using q1,q2,q3⟩)
theorem known_ne {x:AV} (h:x.known=true) : x ≠ .un:=by rintro rfl; simp [AV.known] at h
theorem fill_sound (h1:∀ id,(hv id).oneCell'=true) {fs:List (Nat × Nat)} {n:Nat} : ∀ (parts:List (Nat × AV)) (vparts:List (Nat × Value)) {cells out:List AV} {vcells:Array Value} {L:List Nat},
 fillA fs cells parts=some out→footAs hv w cells vcells.toList L→(∀ b∈L,S b)→unders n cells=true →
 vparts.map (·.1)=parts.map (·.1)→(∀ (j:Nat) x,parts[j]? = some x → ∃ v,vparts[j]? = some v∧Arg hv S w n x.2 v.2) →
 ∃ vout L',Instr.fill (fs[·]?) vcells vparts=some vout∧footAs hv w out vout.toList L' ∧ (∀ b∈L',S b)∧unders n out=true
 | [], vparts, cells, out, vcells, L, h, hf, hL, hu, hm, _ => by
   simp only [fillA,Option.some.injEq] at h
   subst h
   have : vparts=[]:=by simpa using hm
   subst this
   exact ⟨vcells,L,rfl,hf,hL,hu⟩
 | (i, x) :: parts, vparts, cells, out, vcells, L, h, hf, hL, hu, hm, hp => by
   cases vparts with
   | nil => simp at hm
   | cons pv vparts =>
     obtain ⟨iv,v⟩:=pv
     simp only [List.map_cons,List.cons.injEq] at hm
     obtain ⟨rfl,hm⟩:=hm
     obtain ⟨v',hv',⟨⟨Lx,fx,hLx⟩,hux⟩⟩:=hp 0 (iv,x) rfl
     simp only [List.getElem?_cons_zero,Option.some.injEq] at hv'
     subst hv'
     simp only [fillA] at h
     split at h
     ·rename_i off m hfs
      split at h
      ·rename_i hc
       obtain ⟨hc1,hc2,hc3⟩:=hc
       have hk:=known_ne hc3
       obtain ⟨c1,_⟩:=footA_cells fx hk h1
       obtain ⟨Lc,g1,g2⟩:=cells_foots fx hk h1
       have hlen:=footAs_length hf
       obtain ⟨La,a1,a2⟩:=footAs_take off hf
       obtain ⟨Lb,b1,b2⟩:=footAs_drop (off + m) hf
       rw [fill_one (v:=v) hfs (by rw [c1,hc1]) (by rw [← Array.length_toList,hlen]; exact hc2)]
       refine fill_sound h1 parts vparts h (L:=La ++ Lc ++ Lb) ?_ ?_ ?_ hm (fun j x hj=>by simpa using hp (j + 1) x (by simpa using hj))
       ·simp only [segA,hc1]
        exact footAs_append (footAs_append a1 g1) b1
       ·intro b hb
        simp only [List.mem_append] at hb
        rcases hb with (hb | hb) | hb
        ·exact hL b (a2 b hb)
        ·exact hLx b (g2 b hb)
        ·exact hL b (b2 b hb)
       ·refine unders_of fun z hz=>?_
        simp only [segA,List.mem_append] at hz
        rcases hz with (hz | hz) | hz
        ·exact unders_mem hu (List.mem_of_mem_take hz)
        ·exact AV.under_cells hux z hz
        ·exact unders_mem hu (List.mem_of_mem_drop hz)
      ·cases h
     ·cases h
theorem places_some : ∀ (fs:List Field),fs.all (fun f=>(P.info? f.type).isSome)=true→fs.mapM (fun f=>(P.info? f.type).map fun i=>(f.offset,i.size))=some (fs.map fun f=>(f.offset,P.cellsOf f.type))
 | [], _ => by simp
 | f :: fs, h => by
   simp only [List.all_cons,Bool.and_eq_true] at h
   obtain ⟨i,hi⟩:=Option.isSome_iff_exists.1 h.1
   simp [List.mapM_cons,hi,places_some fs h.2,Program.cellsOf]
theorem build_sound {ob:List Ob} {e:Operand→AV} {K:AV→Prop} {o:Oper} {t:TypeId} {parts:Array (Nat × Operand)} (ho:o.op = .build t parts) (h:vcBuild P t (parts.toList.map fun p=>(p.1,e p.2)) K) : ∃ r,K r∧Yields1 P ob e o r:=by
 unfold vcBuild at h
 split at h
 ·rename_i fs m z hl hz
  split at h
  ·rename_i cells hfill
   obtain ⟨hk,h⟩:=h
   refine ⟨_,h,?_⟩
   intro hv S F w ρ hob harg
   obtain ⟨fields,hu,hfs,hm,hall⟩:=lay_st hl
   obtain ⟨Lz,z1,z2⟩:=cells_foots (ofV_foot hv w z) (known_ne hk) hob.one
   have hLz : Lz=[]:=List.eq_nil_iff_forall_not_mem.2 fun b hb=>by have:=z2 b hb; cases this
   subst hLz
   obtain ⟨vout,L',f1,f2,f3,f4⟩:=fill_sound (hv:=hv) (w:=w) (S:=S) (n:=ob.length) hob.one _ (parts.map fun (p:Nat × Operand)=>(p.1,ρ p.2)).toList hfill z1 (by simp)
    (unders_of fun y hy=>AV.under_cells (ofV_under _ z) y hy) (by simp) (fun j x hj=>by
     simp only [List.getElem?_map,Option.map_eq_some_iff] at hj
     obtain ⟨p,hp,rfl⟩:=hj
     refine ⟨(p.1,ρ p.2),by simp only [Array.toList_map,List.getElem?_map,hp,Option.map_some],harg p.2 ?_⟩
     rw [ho]
     simp only [Op.operands,List.mem_toArray,List.mem_map]
     exact ⟨p,List.mem_of_getElem? hp,rfl⟩)
   have hb : P.built t (parts.map fun (p:Nat × Operand)=>(p.1,ρ p.2)).toList=some vout:=by
    unfold Program.built
    obtain ⟨it,hit⟩:=info_of_underlying hu
    have hzt : it.zero=some z:=by simpa [zeroOf,hit] using hz
    simp only [hit,hu,hzt,places_some _ hall]
    rw [hfs] at f1
    simpa using f1
   refine ⟨.agg vout,?_,⟨L',by simp only [footA]; exact ⟨vout.toList,by simp,f2⟩,f3⟩,by simpa only [AV.under] using f4⟩
   have:=run_build (P:=P) w t (parts.map fun (p:Nat × Operand)=>(p.1,ρ p.2)) vout hb
   simp only [execOp,ho,Sem.run_bind,this,Result.andThen_ok,Sem.run_pure]
  ·cases h
 ·cases h
theorem set_split {α:Type} (l:List α) (i:Nat) (u v:α) (h:l[i]? = some u) : l=l.take i ++ u :: l.drop (i + 1)∧l.set i v=l.take i ++ v :: l.drop (i + 1):=by
 have hi : i < l.length:=(List.getElem?_eq_some_iff.1 h).1
 have hu : l[i]=u:=(List.getElem?_eq_some_iff.1 h).2
 constructor
 ·rw [← hu,← List.drop_eq_getElem_cons hi,List.take_append_drop]
 ·rw [List.set_eq_take_append_cons_drop,if_pos hi]
theorem footTs_set' {w:World} : ∀ {xs:List T} {vs:List Value} {L:List Nat} (_:footTs w xs vs L) {i:Nat} {z:T} {v:Value} {M:List Nat} (_:footT w z v M),i < xs.length → ∃ L',footTs w (xs.set i z) (vs.set i v) L' ∧ ∀ b∈L',b∈L ∨ b∈M
 | [], _, _, _, i, _, _, _, _, hi => by simp at hi
 | x :: xs, vs, L, h, 0, z, v, M, hz, _ => by
   simp only [footTs] at h
   obtain ⟨u,vs',L1,L2,rfl,rfl,h1,h2⟩:=h
   exact ⟨M ++ L2,by simp only [List.set_cons_zero,footTs]; exact ⟨v,vs',M,L2,rfl,rfl,hz,h2⟩,fun b hb=>(List.mem_append.1 hb).elim .inr fun h=>.inl (List.mem_append_right _ h)⟩
 | x :: xs, vs, L, h, i + 1, z, v, M, hz, hi => by
   simp only [footTs] at h
   obtain ⟨u,vs',L1,L2,rfl,rfl,h1,h2⟩:=h
   obtain ⟨L',g1,g2⟩:=footTs_set' h2 (i:=i) hz (by simpa using hi)
   exact ⟨L1 ++ L',by simp only [List.set_cons_succ,footTs]; exact ⟨u,_,L1,L',rfl,rfl,h1,g1⟩,fun b hb=>(List.mem_append.1 hb).elim (fun h=>.inl (List.mem_append_left _ h)) fun h=>(g2 b h).imp (fun h=>List.mem_append_right _ h) id⟩
theorem take_three {α:Type} (X U Y:List α) (k:Nat) (h:k≤U.length) : (X ++ U ++ Y).take (X.length + k)=X ++ U.take k:=by
 rw [List.append_assoc,List.take_append,List.take_of_length_le (by omega),Nat.add_sub_cancel_left,List.take_append_of_le_length h]
theorem drop_three {α:Type} (X U Y:List α) (k:Nat) (h:k≤U.length) : (X ++ U ++ Y).drop (X.length + k)=U.drop k ++ Y:=by
 rw [List.append_assoc,List.drop_append,List.drop_eq_nil_of_le (by omega),Nat.add_sub_cancel_left,List.nil_append,List.drop_append_of_le_length h]
theorem row_write {t e:TypeId} {m n i off:Nat} {h:Value} {vs:List Value} {u V u':Value} {g len cap:Nat} (hrow:w.ownsRow 0 e m h n (cellsL vs)) (hh:h = .slice (some ⟨g,0,none⟩) len cap) (hn:n=vs.length) (hvs:∀ v∈vs,v.cells.size=m) (h1:ones (cellsL vs))
 (hu:vs[i]? = some u) (hV:ones V.cells.toList) (hs:P.cellsOf t=V.cells.size) (h0:V.cells.size≠0) (hoff:off + V.cells.size≤m) (hu':u'.cells.toList=u.cells.toList.take off ++ V.cells.toList ++ u.cells.toList.drop (off + V.cells.size)) :
 ∃ cs : Array Value,(storeVar t ⟨g,i * m + off,none⟩ V).run P w = .ok () (w.setRow g cs)∧(w.setRow g cs).ownsRow 0 e m h n (cellsL (vs.set i u'))∧(∀ v∈vs.set i u',v.cells.size=m)∧ones (cellsL (vs.set i u')):=by
 have hi : i < vs.length:=get_lt hu
 obtain ⟨q1,q2⟩:=hrow
 rcases q2 with ⟨q2,_⟩ | ⟨g',cap',cur,q3,q4,q5,q6,q7,q8,q9⟩
 ·rw [hh] at q2; cases q2
 rw [hh] at q3
 simp only [Value.slice.injEq,Option.some.injEq,Addr.mk.injEq,and_true] at q3
 obtain ⟨rfl,rfl,rfl⟩:=q3
 obtain ⟨inf,hinf⟩:=info_of_cellsOf (P:=P) (t:=t) (by rw [hs]; exact h0)
 have hum : u.cells.toList.length=m:=by rw [Array.length_toList]; exact hvs u (List.mem_of_getElem? hu)
 have hVl : V.cells.toList.length=V.cells.size:=Array.length_toList
 obtain ⟨sp1,_⟩:=set_split vs i u u hu
 have hX : (cellsL (vs.take i)).length=i * m:=by
  rw [cellsL_length _ (fun v hv=>hvs v (List.mem_of_mem_take hv)),List.length_take,Nat.min_eq_left (by omega)]
 have hC : cellsL vs=cellsL (vs.take i) ++ u.cells.toList ++ cellsL (vs.drop (i + 1)):=by
  conv=>lhs; rw [sp1]
  simp [cellsL]
 have hcur : cur.toList=cellsL vs ++ cur.toList.drop (len * m):=by
  rw [← q9,List.take_append_drop]
 have hsm : (len * m)=(cellsL vs).length:=q1.symm
 have hsz : i * m + off + V.cells.size≤cur.size:=by
  have : (cellsL vs).length≤cur.size:=by rw [← Array.length_toList,hcur]; simp
  have h2 : i * m + m≤(cellsL vs).length:=by rw [← hsm,← Nat.succ_mul]; exact Nat.mul_le_mul_right _ (by omega)
  omega
 have hrun:=run_storeVar_at (P:=P) (w:=w) (g:=g) (off:=i * m + off) (cur:=cur) hinf q5 hs hsz hV
 have hu's : u'.cells.size=m:=by
  rw [← Array.length_toList,hu']
  simp only [List.length_append,List.length_take,List.length_drop,hum,hVl]; omega
 obtain ⟨_,sp2⟩:=set_split vs i u u' hu
 have hC' : cellsL (vs.set i u')=cellsL (vs.take i) ++ u'.cells.toList ++ cellsL (vs.drop (i + 1)):=by
  rw [sp2]; simp [cellsL]
 have hnew : (cur.toList.take (i * m + off) ++ V.cells.toList ++ cur.toList.drop (i * m + off + V.cells.size))=cellsL (vs.set i u') ++ cur.toList.drop (len * m):=by
  rw [hC',hu']
  conv=>lhs; rw [hcur,hC]
  rw [← hX,List.append_assoc (cellsL (vs.take i) ++ u.cells.toList),take_three _ _ _ off (by omega)]
  rw [show (cellsL (vs.take i)).length + off + V.cells.size=(cellsL (vs.take i)).length + (off + V.cells.size) by omega,drop_three _ _ _ (off + V.cells.size) (by omega)]
  simp [List.append_assoc]
 have hvs' : ∀ v∈vs.set i u',v.cells.size=m:=fun v hv=>by
  rcases List.mem_or_eq_of_mem_set hv with hv | rfl
  ·exact hvs v hv
  ·exact hu's
 have hones : ones (cellsL (vs.set i u')):=by
  rw [hC']
  intro c hc
  simp only [List.mem_append] at hc
  have hin : ∀ c,c∈cellsL (vs.take i) ∨ c∈u.cells.toList ∨ c∈cellsL (vs.drop (i + 1))→c.oneCell'=true:=fun c hc=>h1 c (by
   rw [hC]; simp only [List.mem_append]
   rcases hc with hc | hc | hc
   ·exact .inl (.inl hc)
   ·exact .inl (.inr hc)
   ·exact .inr hc)
  rcases hc with (hc | hc) | hc
  ·exact hin c (.inl hc)
  ·rw [hu'] at hc
   simp only [List.mem_append] at hc
   rcases hc with (hc | hc) | hc
   ·exact hin c (.inr (.inl (List.mem_of_mem_take hc)))
   ·exact hV c hc
   ·exact hin c (.inr (.inl (List.mem_of_mem_drop hc)))
  ·exact hin c (.inr (.inr hc))
 rw [hnew] at hrun
 refine ⟨_,hrun,⟨by rw [cellsL_length _ hvs',List.length_set,hn],.inr ⟨g,cap,_,hh,q4,setRow_heap w g cur _ e _ q5,q6,q7,?_,?_⟩⟩,hvs',hones⟩
 ·simp only [List.size_toArray,List.length_append,List.length_drop,Array.length_toList,q8]
  rw [cellsL_length _ hvs',List.length_set,← hn]
  have : len * m≤cap * m:=Nat.mul_le_mul_right _ q6
  omega
 ·simp only [List.toList_toArray]
  rw [List.take_append_of_le_length (by rw [cellsL_length _ hvs',List.length_set,hn]; exact Nat.le_refl _),List.take_of_length_le (by rw [cellsL_length _ hvs',List.length_set,hn]; exact Nat.le_refl _)]
theorem Rel.reset (hr:Rel w0 σ hv S F a w) {id:Nat} {o o':Ob} (hid:σ.ob[id]? = some o) (hd:o ≠ .dead) {S1:Nat→Prop} (hr1:Rel w0 { σ with ob:=σ.ob.set id .dead } hv S1 F a w) {w':World}
 (hw:∀ k,blkOf (hv id)≠some k→w'.heap[k]? = w.heap[k]?) (hsz:w'.heap.size=w.heap.size) (hos:w'.os=w.os) (htp:w'.tape=w.tape) (hout:w'.output=w.output) (hdr:w.drawn≤w'.drawn)
 (hu:o'.under σ.ob.length=true) {Fi:List Nat} (ho':ObR hv S1 w' Fi (hv id) o') (hfree:o'.owns=true→Free w0 (σ.ob.set id .dead) hv S1 F Fi) :
 Rel w0 { σ with ob:=σ.ob.set id o' } hv S1 (fun j=>if j=id then Fi else F j) a w':=by
 have hB : ∀ b,hv.B b→w'.heap[b]? = w.heap[b]?:=fun b hb=>hw b fun e=>(hr.root id o hid hd b e).2.2 hb
 have hother : ∀ i oi,i≠id→σ.ob[i]? = some oi→oi ≠ .dead → ∀ b,blkOf (hv i)=some b→w'.heap[b]? = w.heap[b]?:=fun i oi hi ho hd' b hb=>hw b fun e=>hr.sep i id oi o hi ho hid hd' hd b hb e
 have one : ∀ {i:Nat} {oi:Ob},i≠id→σ.ob[i]? = some oi→(σ.ob.set id .dead)[i]? = some oi:=fun h1 h2=>by rw [List.getElem?_set_ne (Ne.symm h1)]; exact h2
 have hl : (σ.ob.set id Ob.dead).length=σ.ob.length:=List.length_set ..
 refine { size:=hr1.size,defs:=hr1.defs,tm:=fun t=>?_,utm:=fun t=>by simpa using hr.utm t,ob:=fun i oi hi=>?_,uob:=fun i oi hi=>?_,root:=fun i oi hi hdi b hb=>?_,sep:=fun i j oi oj hij hi hj di dj b hb=>?_,SB:=hr1.SB,Blt:=fun b hb=>by rw [hsz]; exact hr1.Blt b hb,Bin:=hr1.Bin,fown:=fun i oi hi hoi=>?_,fsep:=fun i j oi oj hij hi hj hoi hoj b hb=>?_,below:=?_,one:=hr1.one,an:=by simpa using hr.an,av:=hr1.av }
 ·obtain ⟨L,h1,h2⟩:=hr1.tm t
  exact ⟨L,footA_mono hB _ _ L (fun b hb=>hB b (hr1.SB b (h2 b hb))) h1,h2⟩
 ·rcases set_get hi with ⟨rfl,rfl⟩ | ⟨hne,hi'⟩
  ·simpa only [if_true] using ho'
  ·simp only [hne,if_false]
   by_cases hdd : oi = .dead
   ·subst hdd; trivial
   ·exact (hr1.ob i oi (one hne hi')).mono (hr1.uob i oi (one hne hi')) (fun _ _=>rfl) (fun b hb=>⟨hb,hB b (hr1.SB b hb)⟩) (fun b hb=>⟨hb,hB b hb⟩) (fun hoi b hb=>hB b (hr1.fown i oi (one hne hi') hoi b hb).2.1) (hother i oi hne hi' hdd)
 ·show oi.under (σ.ob.set id o').length=true
  rw [List.length_set]
  rcases set_get hi with ⟨rfl,rfl⟩ | ⟨_,hi'⟩
  ·exact hu
  ·exact hr.uob i oi hi'
 ·rw [hsz]
  rcases set_get hi with ⟨rfl,rfl⟩ | ⟨_,hi'⟩
  ·exact hr.root i o hid hd b hb
  ·exact hr.root i oi hi' hdi b hb
 ·rcases set_get hi with ⟨rfl,rfl⟩ | ⟨hne,hi'⟩
  ·rcases set_get hj with ⟨rfl,_⟩ | ⟨_,hj'⟩
   ·exact absurd rfl hij
   ·exact hr.sep i j o oj hij hid hj' hd dj b hb
  ·rcases set_get hj with ⟨rfl,rfl⟩ | ⟨_,hj'⟩
   ·exact hr.sep i j oi o hij hi' hid di hd b hb
   ·exact hr.sep i j oi oj hij hi' hj' di dj b hb
 ·rcases set_get hi with ⟨rfl,rfl⟩ | ⟨hne,hi'⟩
  ·simp only [if_true]
   exact fun b hb=>⟨(hfree hoi b hb).1,(hfree hoi b hb).2.1,(hfree hoi b hb).2.2.1⟩
  ·simp only [hne,if_false]
   exact hr1.fown i oi (one hne hi') hoi
 ·rcases set_get hi with ⟨rfl,rfl⟩ | ⟨hne,hi'⟩
  ·simp only [if_true] at hb
   rcases set_get hj with ⟨rfl,_⟩ | ⟨hne',hj'⟩
   ·exact absurd rfl hij
   ·simp only [hne',if_false]
    exact (hfree hoi b hb).2.2.2 j oj (one hne' hj') hoj
  ·simp only [hne,if_false] at hb
   rcases set_get hj with ⟨rfl,rfl⟩ | ⟨hne',hj'⟩
   ·simp only [if_true]
    exact fun hh=>(hfree hoj b hh).2.2.2 i oi (one hne hi') hoi hb
   ·simp only [hne',if_false]
    exact hr1.fsep i j oi oj hij (one hne hi') (one hne' hj') hoi hoj b hb
 ·refine hr.below.trans ⟨hos,htp,hout,by omega,fun k hk hm=>hw k fun e=>?_,fun _=>hdr⟩
  rcases (hr.root id o hid hd k e).1 with h' | h'
  ·exact hm h'
  ·omega
theorem ownEs_set {s:Sh} {xs:List T} {vs:List Value} {L:List Nat} (h:ownEs w s xs vs L) {i:Nat} (hi:i < xs.length) : ∃ L1 L2 L3 : List Nat,L=L1 ++ L2 ++ L3 ∧
 ∀ {z:T} {v:Value} {M:List Nat},ownT w s z v M→ownEs w s (xs.set i z) (vs.set i v) (L1 ++ M ++ L3):=by
 have hvl:=ownEs_length h
 obtain ⟨sp,_⟩:=set_split xs i xs[i] xs[i] (List.getElem?_eq_getElem hi)
 rw [sp] at h
 obtain ⟨v1,v2,L1,L4,e1,e2,h1,h2⟩:=ownEs_split h
 simp only [ownEs] at h2
 obtain ⟨u,v3,L2,L3,rfl,rfl,h3,h4⟩:=h2
 refine ⟨L1,L2,L3,by rw [e2,List.append_assoc],?_⟩
 intro z v M hz
 have hl1:=ownEs_length h1
 rw [List.length_take,Nat.min_eq_left (by omega)] at hl1
 obtain ⟨_,sp2⟩:=set_split xs i xs[i] z (List.getElem?_eq_getElem hi)
 have : vs.set i v=v1 ++ v :: v3:=by
  rw [e1,List.set_append_right _ _ (by omega),hl1,Nat.sub_self,List.set_cons_zero]
 rw [sp2,this,List.append_assoc]
 refine ownEs_append h1 ?_
 simp only [ownEs]
 exact ⟨v,v3,M,L3,rfl,rfl,hz,h4⟩
theorem Lies.set (hr:Rel w0 σ hv S F a w) {i:Nat} {e:TypeId} {m j:Nat} {k k':Kind} {es:List T} {z:T} {vs:List Value} {v:Value} (hi:σ.ob[i]? = some (.arr e m k es)) (hj:j < es.length) (h1:elsR hv S w (F i) k es vs) (h2:Lies w0 σ.ob hv S F w k' [z] [v]) (hk:k'.isOwn=true→k'=k) (hk2:k = .bor→k' = .bor) :
 ∃ S',(∀ b,S b→S' b)∧Rel w0 { σ with ob:=σ.ob.set i .dead } hv S' F a w∧Lies w0 (σ.ob.set i .dead) hv S' F w k' (es.set j z) (vs.set j v):=by
 have hr1:=hr.drop i
 obtain ⟨Fi,g1,g2⟩:=h2
 have one : ∀ {L:List Nat},footTs w [z] [v] L→footT w z v L:=by
  intro L h
  simp only [footTs] at h
  obtain ⟨v',vs',L1,L2,e1,rfl,f1,rfl,rfl⟩:=h
  cases e1
  simpa using f1
 cases k' with
 | own s =>
   obtain rfl:=hk rfl
   obtain ⟨L1,a1,a2,a3⟩:=h1
   obtain ⟨L2,c1,c2,c3⟩:=g1
   have c1' : ownT w s z v L2:=by
    simp only [ownEs] at c1
    obtain ⟨v',vs',M1,M2,e1,rfl,f1,rfl,rfl⟩:=c1
    cases e1
    simpa using f1
   obtain ⟨A,B,C,rfl,hset⟩:=ownEs_set a1 hj
   refine ⟨S,fun b hb=>hb,hr1,F i ++ Fi,⟨A ++ L2 ++ C,hset c1',?_,fun b hb=>?_⟩,fun _ b hb=>?_⟩
   ·have dis : ∀ b,b∈A ++ B ++ C→b∈L2→False:=fun b hb hb'=>(g2 rfl b (c3 b hb')).2.2.2 i _ hi rfl (a3 b hb)
    obtain ⟨n1,n2,n3⟩:=List.nodup_append.1 a2
    obtain ⟨n4,n5,n6⟩:=List.nodup_append.1 n1
    refine List.nodup_append.2 ⟨List.nodup_append.2 ⟨n4,c2,fun b hb b' hb' e=>?_⟩,n2,fun b hb b' hb' e=>?_⟩
    ·subst e; exact dis b (by simp [hb]) hb'
    ·subst e
     rcases List.mem_append.1 hb with hb | hb
     ·exact n3 b (List.mem_append_left _ hb) b hb' rfl
     ·exact dis b (by simp [hb']) hb
   ·simp only [List.mem_append] at hb ⊢
    rcases hb with (hb | hb) | hb
    ·exact .inl (a3 b (by simp [hb]))
    ·exact .inr (c3 b hb)
    ·exact .inl (a3 b (by simp [hb]))
   ·rcases List.mem_append.1 hb with hb | hb
    ·obtain ⟨q1,q2,q3⟩:=hr.fown i _ hi rfl b hb
     refine ⟨q1,q2,q3,fun j oj hj hoj hbj=>?_⟩
     rcases set_get hj with ⟨_,rfl⟩ | ⟨hne,hj2⟩
     ·cases hoj
     ·exact hr.fsep i j _ oj (Ne.symm hne) hi hj2 rfl hoj b hb hbj
    ·obtain ⟨q1,q2,q3,q4⟩:=g2 rfl b hb
     refine ⟨q1,q2,q3,fun j oj hj hoj=>?_⟩
     rcases set_get hj with ⟨_,rfl⟩ | ⟨_,hj2⟩
     ·cases hoj
     ·exact q4 j oj hj2 hoj
 | bor =>
   obtain ⟨L1,a1,a2⟩:=elsR_foot h1 (fun hk b hb=>(hr.fown i _ hi (by cases k<;>first | rfl | cases hk) b hb).2.1)
   obtain ⟨L2,c1,c2⟩:=g1
   obtain ⟨L',s1,s2⟩:=footTs_set' a1 (i:=j) (one c1) hj
   refine ⟨S,fun b hb=>hb,hr1,[],⟨L',s1,fun b hb=>?_⟩,fun h=>by cases h⟩
   rcases s2 b hb with hb | hb
   ·have:=a2 b hb
    cases k<;>first | exact this | exact hr.SB b this
   ·exact c2 b hb
 | clo =>
   obtain ⟨L2,c1,c2⟩:=g1
   have : ∃ S',(∀ b,S b→S' b)∧Rel w0 { σ with ob:=σ.ob.set i .dead } hv S' F a w∧(k = .bor ∨ ∃ L1,footTs w es vs L1∧∀ b∈L1,S' b):=by
    cases k with
    | bor => exact ⟨S,fun b hb=>hb,hr1,.inl rfl⟩
    | clo => obtain ⟨L1,a1,a2⟩:=h1; exact ⟨S,fun b hb=>hb,hr1,.inr ⟨L1,a1,a2⟩⟩
    | own s =>
      obtain ⟨L1,a1,a2,a3⟩:=h1
      obtain ⟨L3,f1,f2⟩:=ownEs_foot s es a1
      refine ⟨fun b=>S b ∨ b∈F i,fun b hb=>.inl hb,hr1.moreS (fun b hb=>.inl hb) (fun b hb=>hb.elim (hr.SB b) fun hb=>(hr.fown i _ hi rfl b hb).2.1) (fun j oj hj hoj b hb hh=>?_),.inr ⟨L3,f1,fun b hb=>.inr (a3 b (f2 b hb))⟩⟩
      rcases set_get hj with ⟨_,rfl⟩ | ⟨hne,hj2⟩
      ·cases hoj
      ·rcases hh with hh | hh
       ·exact (hr.fown j oj hj2 hoj b hb).2.2 hh
       ·exact hr.fsep j i oj _ hne hj2 hi hoj rfl b hb hh
   obtain ⟨S',s1,hr2,h⟩:=this
   rcases h with rfl | ⟨L1,a1,a2⟩
   ·cases hk2 rfl
   ·obtain ⟨L',t1,t2⟩:=footTs_set' a1 (i:=j) (one c1) hj
    exact ⟨S',s1,hr2,[],⟨L',t1,fun b hb=>(t2 b hb).elim (a2 b) (fun h=>s1 b (c2 b h))⟩,fun h=>by cases h⟩
theorem mix_kind {ob:List Ob} {k k':Kind} {xs:List AV} {ys:List T} {ids:List Nat} (h:mix ob k xs=some (ys,ids,k')) : (k'.isOwn=true→k'=k)∧(k = .bor→k' = .bor):=by
 unfold mix at h
 cases k<;>simp only at h<;>(repeat' split at h)<;>simp only [Option.some.injEq,Prod.mk.injEq,reduceCtorEq] at h<;>(try obtain ⟨_,_,rfl⟩:=h)<;>first | exact ⟨fun _=>rfl,fun h=>h⟩ | exact ⟨(fun h=>by cases h),(fun h=>by first | rfl | cases h)⟩ | cases h
theorem footTs_setflat : ∀ {xs:List T} {vs:List Value} {L:List Nat} (_:footTs w xs vs L) {i:Nat} {z:T} {v:Value} (_:footT w z v []),i < xs.length → ∃ L',footTs w (xs.set i z) (vs.set i v) L' ∧ ∀ b∈L',b∈L:=by
 intro xs vs L h i z v hz hi
 obtain ⟨L',h1,h2⟩:=footTs_set' h hz hi
 exact ⟨L',h1,fun b hb=>(h2 b hb).elim (fun h=>h) (fun h=>by cases h)⟩
theorem flats_set : ∀ {xs:List T} {i:Nat} {z:T},flats xs=true→z.flat=true→flats (xs.set i z)=true
 | [], _, _, _, _ => rfl
 | x :: xs, 0, z, h, hz => by
   simp only [flats,Bool.and_eq_true] at h
   simp only [List.set_cons_zero,flats,hz,h.2,Bool.and_self]
 | x :: xs, i + 1, z, h, hz => by
   simp only [flats,Bool.and_eq_true] at h
   simp only [List.set_cons_succ,flats,h.1,flats_set h.2 hz,Bool.and_self]
theorem ownTs_setflat : ∀ {ss:List Sh} {xs:List T} {vs:List Value} {L:List Nat} (_:ownTs w ss xs vs L) {i:Nat} {z c:T} {v:Value} (_:z.flat=true) (_:footT w z v []) (_:xs[i]? = some c) (_:c.flat=true) (_:c.one=true),ownTs w ss (xs.set i z) (vs.set i v) L
 | [], [], _, _, _, _, _, _, _, _, _, hc, _, _ => by simp at hc
 | s :: ss, x :: xs, vs, L, h, 0, z, c, v, hz, hf, hc, h1, h2 => by
   simp only [List.getElem?_cons_zero,Option.some.injEq] at hc
   subst hc
   simp only [ownTs] at h
   obtain ⟨u,vs',L1,L2,rfl,rfl,g1,g2⟩:=h
   have hs : s = .leaf:=by
    cases s with
    | leaf => rfl
    | ag ss => cases x<;>first | (simp [T.one] at h2; done) | (simp only [ownT] at g1)
    | sl e m s => cases x<;>first | (simp [T.flat] at h1; done) | (simp only [ownT] at g1)
   subst hs
   simp only [ownT] at g1
   obtain ⟨_,_,rfl⟩:=g1
   simp only [List.set_cons_zero,ownTs,ownT]
   exact ⟨v,vs',[],L2,rfl,rfl,⟨hz,hf,rfl⟩,g2⟩
 | s :: ss, x :: xs, vs, L, h, i + 1, z, c, v, hz, hf, hc, h1, h2 => by
   simp only [List.getElem?_cons_succ] at hc
   simp only [ownTs] at h
   obtain ⟨u,vs',L1,L2,rfl,rfl,g1,g2⟩:=h
   simp only [List.set_cons_succ,ownTs]
   exact ⟨u,_,L1,L2,rfl,rfl,g1,ownTs_setflat g2 hz hf hc h1 h2⟩
 | [], _ :: _, _, _, h, _, _, _, _, _, _, _, _, _ => by simp only [ownTs] at h
 | _ :: _, [], _, _, h, _, _, _, _, _, _, _, _, _ => by simp only [ownTs] at h
theorem elsR_setcell {Fi:List Nat} {k:Kind} {es:List T} {vs:List Value} (h:elsR hv S w Fi k es vs) {i off:Nat} {ys:List T} {z c:T} {V:Value} (hi:es[i]? = some (.ag ys)) (hz:z.flat=true) (hV:footT w z V []) (hc:ys[off]? = some c) (h1:c.flat=true) (h2:c.one=true) :
 ∃ us : List Value,vs[i]? = some (.agg us.toArray)∧us.length=ys.length∧elsR hv S w Fi k (es.set i (.ag (ys.set off z))) (vs.set i (.agg (us.set off V).toArray)):=by
 have hil:=get_lt hi
 have hol:=get_lt hc
 have close : ∀ {R:Nat→Prop} {L:List Nat},footTs w es vs L→(∀ b∈L,R b) → ∃ us : List Value,vs[i]? = some (.agg us.toArray)∧us.length=ys.length∧∃ L',footTs w (es.set i (.ag (ys.set off z))) (vs.set i (.agg (us.set off V).toArray)) L' ∧ ∀ b∈L',R b:=by
  intro R L hf hL
  obtain ⟨u,L1,g1,g2,g3⟩:=footTs_get hf hi
  simp only [footT] at g2
  obtain ⟨us,rfl,g2⟩:=g2
  obtain ⟨L2,q1,q2⟩:=footTs_setflat g2 hV hol
  obtain ⟨L3,q3,q4⟩:=footTs_set' hf (i:=i) (z:=.ag (ys.set off z)) (v:=.agg (us.set off V).toArray) (M:=L2) (by simp only [footT]; exact ⟨_,rfl,q1⟩) hil
  exact ⟨us,g1,footTs_length g2,L3,q3,fun b hb=>(q4 b hb).elim (hL b) (fun h=>hL b (g3 b (q2 b h)))⟩
 cases k with
 | clo =>
   obtain ⟨L,f1,f2⟩:=h
   obtain ⟨us,g1,g2,L',g3,g4⟩:=close f1 f2
   exact ⟨us,g1,g2,L',g3,g4⟩
 | bor =>
   obtain ⟨L,f1,f2⟩:=h
   obtain ⟨us,g1,g2,L',g3,g4⟩:=close f1 f2
   exact ⟨us,g1,g2,L',g3,g4⟩
 | own s =>
   obtain ⟨L,f1,f2,f3⟩:=h
   have hvl:=ownEs_length f1
   obtain ⟨sp,_⟩:=set_split es i (.ag ys) (.ag (ys.set off z)) hi
   have f1':=f1
   rw [sp] at f1'
   obtain ⟨v1,v2,L1,L4,e1,e2,h3,h4⟩:=ownEs_split f1'
   simp only [ownEs] at h4
   obtain ⟨u,v3,L2,L3,rfl,rfl,h5,h6⟩:=h4
   have hl1:=ownEs_length h3
   rw [List.length_take,Nat.min_eq_left (by omega)] at hl1
   cases s with
   | leaf =>
     simp only [ownT] at h5
     obtain ⟨q1,q2,rfl⟩:=h5
     simp only [T.flat] at q1
     simp only [footT] at q2
     obtain ⟨us,rfl,q2⟩:=q2
     have hus : us.length=ys.length:=footTs_length q2
     obtain ⟨L',q3,q4⟩:=footTs_setflat q2 hV hol
     refine ⟨us,by rw [e1,List.getElem?_append_right (by omega),hl1,Nat.sub_self]; rfl,hus,L,?_,f2,f3⟩
     obtain ⟨_,sp2⟩:=set_split es i (.ag ys) (.ag (ys.set off z)) hi
     have : vs.set i (.agg (us.set off V).toArray)=v1 ++ .agg (us.set off V).toArray :: v3:=by
      rw [e1,List.set_append_right _ _ (by omega),hl1,Nat.sub_self,List.set_cons_zero]
     rw [sp2,this,e2]
     refine ownEs_append h3 ?_
     have hL' : L'=[]:=List.eq_nil_iff_forall_not_mem.2 fun b hb=>by cases q4 b hb
     subst hL'
     simp only [ownEs,ownT,T.flat,footT]
     exact ⟨_,v3,[],L3,rfl,rfl,⟨flats_set q1 hz,⟨_,rfl,q3⟩,rfl⟩,h6⟩
   | sl e m s => simp only [ownT] at h5
   | ag ss =>
     simp only [ownT] at h5
     obtain ⟨us,rfl,h5⟩:=h5
     have hus : us.length=ys.length:=by obtain ⟨_,q,_⟩:=ownTs_foot ss ys h5; exact footTs_length q
     obtain ⟨A,B,C,hL,hset⟩:=ownEs_set f1 hil
     refine ⟨us,by rw [e1,List.getElem?_append_right (by omega),hl1,Nat.sub_self]; rfl,hus,L,?_,f2,f3⟩
     obtain ⟨_,sp2⟩:=set_split es i (.ag ys) (.ag (ys.set off z)) hi
     have : vs.set i (.agg (us.set off V).toArray)=v1 ++ .agg (us.set off V).toArray :: v3:=by
      rw [e1,List.set_append_right _ _ (by omega),hl1,Nat.sub_self,List.set_cons_zero]
     rw [sp2,this,e2]
     refine ownEs_append h3 ?_
     simp only [ownEs,ownT]
     exact ⟨_,v3,L2,L3,rfl,rfl,⟨_,rfl,ownTs_setflat h5 hz hV hc h1 h2⟩,h6⟩
theorem store_ra_sound {o:Oper} {t:TypeId} {p x:Operand} {id i m off:Nat} (ho:o.op = .store t p x) (hr:Rel w0 σ hv S F a w) (hp:σ.opd p = .ra id i m off) (h:vcStore P t (.ra id i m off) (σ.opd x) σ.ob K)
 (hnh:∀ e m s es i j n,σ.ob[id]? ≠ some (.hole e m s es i j n)) (hn:Ans w0 σ a K next) : Does P Q o a w next:=by
 obtain ⟨⟨L,fx,hL⟩,hux⟩:=hr.arg x
 obtain ⟨⟨Lp,fp,_⟩,hup⟩:=hr.arg p
 rw [hp] at fp
 simp only [footA] at fp
 obtain ⟨g,n,cap,e1,e2,_⟩:=fp
 simp only [vcStore] at h
 split at h
 case h_2 _ _ _ _ _ _ _ hh=>exact absurd hh (hnh _ _ _ _ _ _ _)
 case h_3=>cases h
 rename_i e m' k es hid
 obtain ⟨⟨rfl,hi⟩,h⟩:=h
 split at h
 case h_2=>cases h
 rename_i z ids k' hmix
 obtain ⟨⟨hni,hnd⟩,⟨hz1,hz2,hz3⟩,h⟩:=h
 have hni' : id ∉ ids:=fun hh=>by rw [List.contains_iff_mem.2 hh] at hni; cases hni
 obtain ⟨y,hy⟩ : ∃ y,es[i]? = some y:=⟨es[i],List.getElem?_eq_getElem hi⟩
 have hrun0 : ∀ {W:World},(storeVar t ⟨g,i * m + off,none⟩ (a.eval x)).run P w = .ok () W→(execOp a.eval o).run P w = .ok .skip W:=fun h=>by simp [execOp,ho,e2,Instr.storeAt,Instr.sureAddr,h]
 have hk0:=h y hy
 clear h
 dsimp only at hk0
 split at hk0
 ·rename_i hc
  obtain ⟨rfl,hzm,hag⟩:=hc
  have fxs : footAs hv w [σ.opd x] [a.eval x] L:=by
   simp only [footAs]
   exact ⟨_,[],L,[],rfl,by simp,fx,rfl,rfl⟩
  obtain ⟨hv1,S1,q1,b1,s1,hr1,Fi,hels,hown,_⟩:=mix_sound hr hmix (nodupB_spec hnd) fxs hL
  obtain ⟨mk1,mk2⟩:=mix_kind hmix
  have hid1 : (BX.killAll ids σ.ob)[id]? = some (.arr e m k es):=by rw [killAll_keep ids _ id hni']; exact hid
  obtain ⟨vs,k1,k2,k3,k4⟩:=hr1.ob id _ hid1
  have hvl:=elsR_length k2
  obtain ⟨u,hu⟩ : ∃ u,vs[i]? = some u:=⟨vs[i]'(by omega),List.getElem?_eq_getElem (by omega)⟩
  obtain ⟨Lz,fz,_⟩:=elsR_foot hels (fun hk b hb=>((hown hk).2.1 b hb).2.1)
  have fz : ∃ Lz,footT w z (a.eval x) Lz:=by
   simp only [footTs] at fz
   obtain ⟨v',vs',M1,M2,e1,_,f1,_⟩:=fz
   cases e1
   exact ⟨_,f1⟩
  obtain ⟨Lz,fz⟩:=fz
  have hVs : (a.eval x).cells.size=z.cells.length:=(footT_cells fz).1
  have hum : u.cells.toList.length=m:=by rw [Array.length_toList]; exact k3 u (List.mem_of_getElem? hu)
  have e1' : hv1 id = .slice (some ⟨g,0,none⟩) n cap:=by rw [q1]; exact e1
  obtain ⟨cs,r1,r2,r3,r4⟩:=row_write (P:=P) (w:=w) (t:=t) (off:=0) (V:=a.eval x) (u':=a.eval x) k1 e1' hvl.symm k3 k4.2 hu (ones_cells fz hz1) (by rw [hz2,hVs]) (by rw [hVs]; exact hz3) (by rw [hVs]; omega)
   (by rw [List.take_zero,List.nil_append,List.drop_eq_nil_of_le (by omega),List.append_nil])
  obtain ⟨S2,s2,hr2,Fj,l1,l2⟩:=Lies.set hr1 hid1 hi k2 ⟨Fi,hels,fun hk=>(hown hk).2.1⟩ mk1 mk2
  refine does_skip (w':=w.setRow g cs) (hrun0 r1) ?_
  have hroot : blkOf (hv1 id)=some g:=by rw [e1']; rfl
  have hB2 : ∀ b,hv1.B b→(w.setRow g cs).heap[b]? = w.heap[b]?:=fun b hb=>setRow_other w g b _ (fun e=>(hr1.root id _ hid1 (by simp) g hroot).2.2 (e ▸ hb))
  have hr3:=Rel.reset hr1 hid1 (by simp) hr2 (w':=w.setRow g cs) (o':=.arr e m k' (es.set i z)) (Fi:=Fj) (fun k hk=>setRow_other w g k _ (fun e=>hk (by rw [hroot,e]))) (by simp) rfl rfl rfl (Nat.le_refl _) rfl
   ⟨vs.set i (a.eval x),by rw [List.length_set]; exact r2,l1.mono (fun b hb=>⟨hb,hB2 b (hr2.SB b hb)⟩) (fun b hb=>⟨hb,hB2 b hb⟩) (fun hk b hb=>hB2 b (l2 hk b hb).2.1),r3,by rw [List.length_set]; exact ⟨k4.1,r4⟩⟩
   (fun ho=>l2 (by cases k'<;>first | rfl | cases ho))
  exact hn _ _ _ _ hv1 _ _ [] hk0 hr3 (by simp [footA]) (by simp) rfl
 ·rename_i hc
  obtain ⟨⟨hzf,hzo,hoff,hyl,hya,rfl⟩,hcell,hK⟩:=hk0
  obtain ⟨ys,rfl⟩ : ∃ ys,y = .ag ys:=by cases y<;>first | exact ⟨_,rfl⟩ | (simp [T.isAg] at hya)
  simp only [T.cells] at hcell hyl hK
  split at hcell
  case h_2=>cases hcell
  rename_i c hcc
  have fxs : footAs hv w [σ.opd x] [a.eval x] L:=by
   simp only [footAs]
   exact ⟨_,[],L,[],rfl,by simp,fx,rfl,rfl⟩
  obtain ⟨hv1,S1,q1,b1,s1,hr1,Fi,hels,hown,_⟩:=mix_sound hr hmix (by simp) fxs hL
  obtain ⟨Lz,fz,_⟩:=elsR_foot hels (fun hk b hb=>((hown hk).2.1 b hb).2.1)
  have fz : ∃ Lz,footT w z (a.eval x) Lz:=by
   simp only [footTs] at fz
   obtain ⟨v',vs',M1,M2,e1,_,f1,_⟩:=fz
   cases e1
   exact ⟨_,f1⟩
  obtain ⟨Lz,fz⟩:=fz
  have fz0:=(flat_foot z hzf fz).2 w
  have hzc : z.cells=[z]:=by cases z<;>first | rfl | (simp [T.one] at hzo)
  have hV1:=T.one_value hzo fz
  have hVc : (a.eval x).cells = #[a.eval x]:=cells_of_one hV1
  obtain ⟨vs,k1,k2,k3,k4⟩:=hr.ob id _ hid
  have hvl:=elsR_length k2
  obtain ⟨us,g1,g2,g3⟩:=elsR_setcell k2 hy hzf fz0 hcc hcell.1 hcell.2
  obtain ⟨cs,r1,r2,r3,r4⟩:=row_write (P:=P) (w:=w) (t:=t) (off:=off) (V:=a.eval x) (u':=.agg (us.set off (a.eval x)).toArray) k1 e1 hvl.symm k3 k4.2 g1 (ones_cells fz hz1) (by rw [hz2,(footT_cells fz).1]) (by rw [hVc]; simp) (by rw [hVc]; simp; omega)
   (by rw [hVc]; simp only [Value.cells,List.toList_toArray,List.size_toArray,List.length_singleton]; exact List.set_eq_take_append_cons_drop .. |>.trans (by rw [if_pos (by omega)]; simp))
  refine does_skip (w':=w.setRow g cs) (hrun0 r1) ?_
  have hroot : blkOf (hv id)=some g:=by rw [e1]; rfl
  have hB2 : ∀ b,hv.B b→(w.setRow g cs).heap[b]? = w.heap[b]?:=fun b hb=>setRow_other w g b _ (fun e=>(hr.root id _ hid (by simp) g hroot).2.2 (e ▸ hb))
  have hr3:=hr.write hid (by simp) (w':=w.setRow g cs) (o':=.arr e m k (es.set i (.ag (ys.set off z)))) (fun k hk=>setRow_other w g k _ (fun e=>hk (by rw [hroot,e]))) (by simp) rfl rfl rfl (Nat.le_refl _) rfl
   ⟨_,by rw [List.length_set]; exact r2,g3.mono (fun b hb=>⟨hb,hB2 b (hr.SB b hb)⟩) (fun b hb=>⟨hb,hB2 b hb⟩) (fun hk b hb=>hB2 b (hr.fown id _ hid (by cases k<;>first | rfl | cases hk) b hb).2.1),r3,by rw [List.length_set]; exact ⟨k4.1,r4⟩⟩
   (fun ho=>by cases k<;>first | rfl | cases ho)
  exact hn _ _ _ _ hv S F [] hK hr3 (by simp [footA]) (by simp) rfl
end
end Go.Proofs.YtmgdkkhnjkepiaaGreat.BX
namespace Go.Proofs.YtmgdkkhnjkepiaaGreat.BX
open Nat renaming reduceEqDiff → zA, reduceLT → zB, reduceLeDiff → zC, reduceAdd → zD, reduceMul → zE, reduceSub → zF, reduceBEq → zG
set_option linter.unusedSectionVars false
set_option linter.unusedSimpArgs false
set_option linter.unusedVariables false
open Go Go.RowKit
variable [Bd]
def seesW (f:AV→Option T) : List AV→Option (List T)
 | [] => some []
 | x :: xs => match f x with
   | some y => (seesW f xs).map (y :: ·)
   | none => none
def AV.known' : AV→Bool
 | .un => false
 | _ => true
def AV.see (ob:List Ob) : Nat→AV→Option T
 | 0, _ => none
 | n + 1, x => match x with
   | .t y => some y
   | .bw y => some y
   | .ns => some (.sl [])
   | .sr id => match ob[id]? with
     | some (.arr _ _ _ es) => some (.sl es)
     | _ => none
   | .sv id a m l => match ob[id]? with
     | some (.arr _ m' _ es) => if m'=m then some (.sl ((es.drop a).take l)) else none
     | _ => none
   | .mr id => match ob[id]? with
     | some (.map _ _ _ ks vs _) => some (.mp ks vs)
     | _ => none
   | .rf id off => match ob[id]? with
     | some (.box y) => if y.known'=true then (AV.see ob n y).map fun z=>.po z off else none
     | _ => none
   | .ag cs => (seesW (AV.see ob n) cs).map T.ag
   | .tp cs => (seesW (AV.see ob n) cs).map T.tp
   | .fn f cs => (seesW (AV.see ob n) cs).map (T.fn f)
   | _ => none
def calleeI (nil:Bool) (f:FuncId) (cs:List AV) : Option (FuncId × List AV):=if f < 1000000 then some (f,cs) else if nil=true then some (f - 1000000,cs) else none
def calleeOf (nil:Bool) : AV→Option (FuncId × List AV)
 | .fn f cs => calleeI nil f cs
 | .t (.fn f cs) => calleeI nil f (cs.map .t)
 | .bw (.fn f cs) => calleeI nil f (cs.map .bw)
 | _ => none
def hasBody (P:Program) (f:FuncId) : Prop:=∃ fn,P.funcs[f]? = some fn∧fn.body.isSome=true∧(fn.name == "runtime.NumGoroutine")=false
def numA : Nat→List AV→List (Nat × AV)
 | _, [] => []
 | k, x :: xs => (k,x) :: numA (k + 1) xs
theorem numA_get : ∀ (xs:List AV) (k t:Nat),getL (numA k xs) t=if k≤t then (match xs[t - k]? with | some x=>x | none=>.un) else .un
 | [], k, t => by simp [numA,getL]
 | x :: xs, k, t => by
   simp only [numA,getL]
   by_cases h : t=k
   ·subst h; simp
   ·rw [if_neg h,numA_get xs (k + 1) t]
    by_cases h2 : k≤t
    ·have : t - k=(t - (k + 1)) + 1:=by omega
     rw [if_pos h2,if_pos (by omega),this,List.getElem?_cons_succ]
    ·rw [if_neg h2,if_neg (by omega)]
def FnM (P:Program) (f:FuncId) (xs:List AV) (obs:List Ob) (x:AV) (obs':List Ob) : Prop :=
 ∀ (w:World) (L M:Nat→Prop) (vs:List Value) (hv:Hv) (S:Nat→Prop) (F:Nat→List Nat),
   Rel ⟨w,L,M,obs.length,hv.v⟩ ⟨xs.length,numA 0 xs,obs⟩ hv S F ⟨vs.toArray,[]⟩ w →
   Calls P f vs.toArray w fun e w'=>∃ (v:Value) (hv':Hv) (S':Nat→Prop) (F':Nat→List Nat) (L':List Nat),e = .returned v∧Rel ⟨w,L,M,obs.length,hv.v⟩ ⟨0,[],obs'⟩ hv' S' F' ⟨#[],[]⟩ w' ∧ footA hv' w' x v L' ∧ (∀ b∈L',S' b)∧x.under obs'.length=true
def ConM (P:Program) (g:FuncId) (xs:List AV) (obs:List Ob) (x:AV) (obs':List Ob) : Prop:=hasBody P g∧FnM P g xs obs x obs'
def Con (P:Program) (g:FuncId) (ts:List T) (x:AV) (obs:List Ob) : Prop:=ConM P g (ts.map .t) [] x obs
mutual
def AV.ren (r:Nat→Nat) : AV→AV
 | .rf i o => .rf (r i) o
 | .ra i k m o => .ra (r i) k m o
 | .sv i k m o => .sv (r i) k m o
 | .sr i => .sr (r i)
 | .mr i => .mr (r i)
 | .it i => .it (r i)
 | .ag cs => .ag (rens r cs)
 | .tp cs => .tp (rens r cs)
 | .fn f cs => .fn f (rens r cs)
 | x => x
def rens (r:Nat→Nat) : List AV→List AV
 | [] => []
 | x :: xs => x.ren r :: rens r xs
end
def Ob.ren (r:Nat→Nat) : Ob→Ob
 | .box x => .box (x.ren r)
 | .hole e m ss es i j id => .hole e m ss es i j (r id)
 | .mhole a b s ks vs i id => .mhole a b s ks vs i (r id)
 | o => o
mutual
def AV.noBw : AV→Bool
 | .bw _ => false
 | .ag cs => noBws cs
 | .tp cs => noBws cs
 | .fn _ cs => noBws cs
 | _ => true
def noBws : List AV→Bool
 | [] => true
 | x :: xs => x.noBw && noBws xs
end
def Ob.noBw : Ob→Bool
 | .box x => x.noBw
 | .arr _ _ .bor _ => false
 | .map _ _ .bor _ _ _ => false
 | _ => true
def tmNoBw : List (Nat × AV)→Bool
 | [] => true
 | (_, x) :: r => x.noBw && tmNoBw r
def obNoBw (ids:List Nat) : Nat→List Ob→Bool
 | _, [] => true
 | k, o :: os => (ids.contains k || o.noBw) && obNoBw ids (k + 1) os
section
variable {P:Program} {Q:Exit→Act→World→Prop} {w0:Base} {σ:St} {hv:Hv} {S:Nat→Prop} {F:Nat→List Nat} {a:Act} {w w':World}
 {K:AV→List Ob→Prop} {next:Value→World→Prop} {ob:List Ob}
mutual
theorem ren_foot {hv hv2:Hv} {w:World} {r:Nat→Nat} (he:∀ i,hv2 (r i)=hv i) : ∀ (x:AV) (v:Value) (L:List Nat),x.noBw=true→footA hv w x v L→footA hv2 w (x.ren r) v L
 | .un, _, _, _, h => by simpa only [footA,AV.ren] using h
 | .ud, _, _, _, h => by simpa only [footA,AV.ren] using h
 | .ns, _, _, _, h => by simpa only [footA,AV.ren] using h
 | .t x, _, _, _, h => by simpa only [footA,AV.ren] using h
 | .bw x, _, _, hn, h => by simp [AV.noBw] at hn
 | .rf id off, v, L, _, h => by simp only [AV.ren,footA] at h ⊢; rw [he]; exact h
 | .ra id i m off, v, L, _, h => by simp only [AV.ren,footA] at h ⊢; rw [he]; exact h
 | .sv id i m off, v, L, _, h => by simp only [AV.ren,footA] at h ⊢; rw [he]; exact h
 | .sr id, v, L, _, h => by simp only [AV.ren,footA] at h ⊢; rw [he]; exact h
 | .mr id, v, L, _, h => by simp only [AV.ren,footA] at h ⊢; rw [he]; exact h
 | .it id, v, L, _, h => by simp only [AV.ren,footA] at h ⊢; rw [he]; exact h
 | .ag cs, v, L, hn, h => by
   simp only [AV.noBw] at hn
   simp only [AV.ren,footA] at h ⊢
   obtain ⟨vs,e,h⟩:=h
   exact ⟨vs,e,rens_foot he cs vs L hn h⟩
 | .tp cs, v, L, hn, h => by
   simp only [AV.noBw] at hn
   simp only [AV.ren,footA] at h ⊢
   obtain ⟨vs,e,h⟩:=h
   exact ⟨vs,e,rens_foot he cs vs L hn h⟩
 | .fn f cs, v, L, hn, h => by
   simp only [AV.noBw] at hn
   simp only [AV.ren,footA] at h ⊢
   obtain ⟨vs,e,h⟩:=h
   exact ⟨vs,e,rens_foot he cs vs L hn h⟩
theorem rens_foot {hv hv2:Hv} {w:World} {r:Nat→Nat} (he:∀ i,hv2 (r i)=hv i) : ∀ (xs:List AV) (vs:List Value) (L:List Nat),noBws xs=true→footAs hv w xs vs L→footAs hv2 w (rens r xs) vs L
 | [], _, _, _, h => by simpa only [footAs,rens] using h
 | x :: xs, vs, L, hn, h => by
   simp only [noBws,Bool.and_eq_true] at hn
   simp only [footAs,rens] at h ⊢
   obtain ⟨v,vs',L1,L2,e,hL,h1,h2⟩:=h
   exact ⟨v,vs',L1,L2,e,hL,ren_foot he x v L1 hn.1 h1,rens_foot he xs vs' L2 hn.2 h2⟩
end
mutual
theorem ren_under {r:Nat→Nat} {k m:Nat} (hr:∀ i,i < k→r i < m) : ∀ (x:AV),x.under k=true→(x.ren r).under m=true
 | .un, _ | .ud, _ | .ns, _ | .t _, _ | .bw _, _ => rfl
 | .rf id off, h => by simp only [AV.ren,AV.under,decide_eq_true_eq] at h ⊢; exact hr _ h
 | .ra id i m off, h => by simp only [AV.ren,AV.under,decide_eq_true_eq] at h ⊢; exact hr _ h
 | .sv id i m off, h => by simp only [AV.ren,AV.under,decide_eq_true_eq] at h ⊢; exact hr _ h
 | .sr id, h => by simp only [AV.ren,AV.under,decide_eq_true_eq] at h ⊢; exact hr _ h
 | .mr id, h => by simp only [AV.ren,AV.under,decide_eq_true_eq] at h ⊢; exact hr _ h
 | .it id, h => by simp only [AV.ren,AV.under,decide_eq_true_eq] at h ⊢; exact hr _ h
 | .ag cs, h => by simp only [AV.ren,AV.under] at h ⊢; exact rens_under hr cs h
 | .tp cs, h => by simp only [AV.ren,AV.under] at h ⊢; exact rens_under hr cs h
 | .fn f cs, h => by simp only [AV.ren,AV.under] at h ⊢; exact rens_under hr cs h
theorem rens_under {r:Nat→Nat} {k m:Nat} (hr:∀ i,i < k→r i < m) : ∀ (xs:List AV),unders k xs=true→unders m (rens r xs)=true
 | [], _ => rfl
 | x :: xs, h => by
   simp only [unders,rens,Bool.and_eq_true] at h ⊢
   exact ⟨ren_under hr x h.1,rens_under hr xs h.2⟩
end
mutual
theorem footA_anyB {hv hv':Hv} {w:World} {n:Nat} (he:∀ i,i < n→hv' i=hv i) : ∀ (x:AV) (v:Value) (L:List Nat),x.noBw=true→x.under n=true→footA hv w x v L→footA hv' w x v L
 | .un, _, _, _, _, h | .ud, _, _, _, _, h | .ns, _, _, _, _, h | .t _, _, _, _, _, h => by simpa only [footA] using h
 | .bw x, _, _, hn, _, h => by simp [AV.noBw] at hn
 | .rf id off, v, L, _, hu, h => by simp only [AV.under,decide_eq_true_eq] at hu; simp only [footA] at h ⊢; rw [he _ hu]; exact h
 | .ra id i m off, v, L, _, hu, h => by simp only [AV.under,decide_eq_true_eq] at hu; simp only [footA] at h ⊢; rw [he _ hu]; exact h
 | .sv id i m off, v, L, _, hu, h => by simp only [AV.under,decide_eq_true_eq] at hu; simp only [footA] at h ⊢; rw [he _ hu]; exact h
 | .sr id, v, L, _, hu, h => by simp only [AV.under,decide_eq_true_eq] at hu; simp only [footA] at h ⊢; rw [he _ hu]; exact h
 | .mr id, v, L, _, hu, h => by simp only [AV.under,decide_eq_true_eq] at hu; simp only [footA] at h ⊢; rw [he _ hu]; exact h
 | .it id, v, L, _, hu, h => by simp only [AV.under,decide_eq_true_eq] at hu; simp only [footA] at h ⊢; rw [he _ hu]; exact h
 | .ag cs, v, L, hn, hu, h => by
   simp only [AV.noBw] at hn
   simp only [AV.under] at hu
   simp only [footA] at h ⊢
   obtain ⟨vs,e,h⟩:=h
   exact ⟨vs,e,footAs_anyB he cs vs L hn hu h⟩
 | .tp cs, v, L, hn, hu, h => by
   simp only [AV.noBw] at hn
   simp only [AV.under] at hu
   simp only [footA] at h ⊢
   obtain ⟨vs,e,h⟩:=h
   exact ⟨vs,e,footAs_anyB he cs vs L hn hu h⟩
 | .fn f cs, v, L, hn, hu, h => by
   simp only [AV.noBw] at hn
   simp only [AV.under] at hu
   simp only [footA] at h ⊢
   obtain ⟨vs,e,h⟩:=h
   exact ⟨vs,e,footAs_anyB he cs vs L hn hu h⟩
theorem footAs_anyB {hv hv':Hv} {w:World} {n:Nat} (he:∀ i,i < n→hv' i=hv i) : ∀ (xs:List AV) (vs:List Value) (L:List Nat),noBws xs=true→unders n xs=true→footAs hv w xs vs L→footAs hv' w xs vs L
 | [], _, _, _, _, h => by simpa only [footAs] using h
 | x :: xs, vs, L, hn, hu, h => by
   simp only [noBws,Bool.and_eq_true] at hn
   simp only [unders,Bool.and_eq_true] at hu
   simp only [footAs] at h ⊢
   obtain ⟨v,vs',L1,L2,e,hL,h1,h2⟩:=h
   exact ⟨v,vs',L1,L2,e,hL,footA_anyB he x v L1 hn.1 hu.1 h1,footAs_anyB he xs vs' L2 hn.2 hu.2 h2⟩
end
mutual
theorem ren_id : ∀ (x:AV),x.ren (fun i=>i)=x
 | .un | .ud | .ns | .t _ | .bw _ | .rf _ _ | .ra _ _ _ _ | .sv _ _ _ _ | .sr _ | .mr _ | .it _ => by simp [AV.ren]
 | .ag cs => by simp only [AV.ren,rens_id cs]
 | .tp cs => by simp only [AV.ren,rens_id cs]
 | .fn f cs => by simp only [AV.ren,rens_id cs]
theorem rens_id : ∀ (xs:List AV),rens (fun i=>i) xs=xs
 | [] => rfl
 | x :: xs => by simp only [rens,ren_id x,rens_id xs]
end
mutual
theorem ren_noBw {r:Nat→Nat} : ∀ (x:AV),x.noBw=true→(x.ren r).noBw=true
 | .un, _ | .ud, _ | .ns, _ | .t _, _ | .rf _ _, _ | .ra _ _ _ _, _ | .sv _ _ _ _, _ | .sr _, _ | .mr _, _ | .it _, _ => rfl
 | .bw _, h => by simp [AV.noBw] at h
 | .ag cs, h => by simp only [AV.noBw,AV.ren] at h ⊢; exact rens_noBw cs h
 | .tp cs, h => by simp only [AV.noBw,AV.ren] at h ⊢; exact rens_noBw cs h
 | .fn f cs, h => by simp only [AV.noBw,AV.ren] at h ⊢; exact rens_noBw cs h
theorem rens_noBw {r:Nat→Nat} : ∀ (xs:List AV),noBws xs=true→noBws (rens r xs)=true
 | [], _ => rfl
 | x :: xs, h => by
   simp only [noBws,rens,Bool.and_eq_true] at h ⊢
   exact ⟨ren_noBw x h.1,rens_noBw xs h.2⟩
end
theorem ObR.anyB {hv hv':Hv} {S:Nat→Prop} {w:World} {Fi:List Nat} {h:Value} {o:Ob} {r:Nat→Nat} (ho:ObR hv S w Fi h o) (hn:o.noBw=true) (he:∀ i,hv' (r i)=hv i) : ObR hv' S w Fi h (o.ren r):=by
 cases o with
 | dead => trivial
 | box x =>
   obtain ⟨b,e,u,L,h1,h2,h3,h4⟩:=ho
   exact ⟨b,e,u,L,h1,h2,ren_foot he x u L hn h3,h4⟩
 | arr e m k es =>
   obtain ⟨vs,h1,h2,h3,h4⟩:=ho
   refine ⟨vs,h1,?_,h3,h4⟩
   cases k with
   | own s => exact h2
   | clo => exact h2
   | bor => simp [Ob.noBw] at hn
 | hole e m s es i j id =>
   obtain ⟨vs,v,y,L0,e1,m1,s1,h1,h2,h3,h4,h5,h6,h7,h8,h9,h10⟩:=ho
   exact ⟨vs,v,y,L0,e1,m1,s1,h1,h2,h3,h4,h5,by rw [he]; exact h6,h7,h8,h9,h10⟩
 | map kt vt k ks vs pend =>
   obtain ⟨rr,es,clock,l,h1,h2,h3⟩:=ho
   refine ⟨rr,es,clock,l,h1,?_,h3⟩
   cases k with
   | own s => exact h2
   | clo => exact h2
   | bor => simp [Ob.noBw] at hn
 | mhole kt vt s ks vs i id => exact ho
 | iter c xs => exact ho
theorem ren_owns {o:Ob} {r:Nat→Nat} : (o.ren r).owns=o.owns:=by
 cases o<;>first | rfl | (rename_i k _; cases k<;>rfl) | (rename_i k _ _ _; cases k<;>rfl)
theorem ren_dead {o:Ob} {r:Nat→Nat} (h:o.ren r ≠ .dead) : o ≠ .dead:=by rintro rfl; exact h rfl
def Hand (ob:List Ob) (hv:Hv) (F:Nat→List Nat) (ids:List Nat) (b:Nat) : Prop :=
 ∃ i∈ids,∃ o,ob[i]? = some o∧o ≠ .dead∧(blkOf (hv i)=some b ∨ (o.owns=true∧b∈F i))
def rn (ids:List Nat) (len:Nat) (k:Nat) : Nat:=match ids[k]? with
 | some i => i
 | none => len + (k - ids.length)
def placeOb : List Nat→List Ob→List Ob→List Ob
 | i :: ids, o :: os, ob => placeOb ids os (ob.set i o)
 | _, _, ob => ob
theorem placeOb_length : ∀ (ids:List Nat) (os ob:List Ob),(placeOb ids os ob).length=ob.length
 | [], _, _ => by simp [placeOb]
 | _ :: _, [], _ => by simp [placeOb]
 | i :: ids, o :: os, ob => by simp [placeOb,placeOb_length ids os]
theorem placeOb_miss : ∀ (ids:List Nat) (os ob:List Ob) (i:Nat),i ∉ ids→(placeOb ids os ob)[i]? = ob[i]?
 | [], _, _, _, _ => by simp [placeOb]
 | _ :: _, [], _, _, _ => by simp [placeOb]
 | j :: ids, o :: os, ob, i, h => by
   simp only [List.mem_cons,not_or] at h
   simp only [placeOb]
   rw [placeOb_miss ids os _ i h.2,List.getElem?_set_ne (Ne.symm h.1)]
theorem placeOb_hit : ∀ (ids:List Nat) (os ob:List Ob) (k i:Nat),ids.Nodup→ids.length≤os.length→ids[k]? = some i→i < ob.length→(placeOb ids os ob)[i]? = os[k]?
 | [], _, _, _, _, _, _, h, _ => by simp at h
 | j :: ids, [], _, _, _, _, hl, _, _ => by simp at hl
 | j :: ids, o :: os, ob, 0, i, hn, hl, h, hi => by
   simp only [List.getElem?_cons_zero,Option.some.injEq] at h
   subst h
   simp only [placeOb]
   rw [placeOb_miss ids os _ j (List.nodup_cons.1 hn).1,List.getElem?_set_self hi]
   rfl
 | j :: ids, o :: os, ob, k + 1, i, hn, hl, h, hi => by
   simp only [List.getElem?_cons_succ] at h
   simp only [placeOb,List.getElem?_cons_succ]
   exact placeOb_hit ids os _ k i (List.nodup_cons.1 hn).2 (by simpa using hl) h (by simpa using hi)
def behind (ids:List Nat) (obs' ob:List Ob) : List Ob:=placeOb ids (obs'.map (Ob.ren (rn ids ob.length))) ob ++ (obs'.drop ids.length).map (Ob.ren (rn ids ob.length))
theorem behind_get {ids:List Nat} {obs' ob:List Ob} (hn:ids.Nodup) (hl:ids.length≤obs'.length) (hids:∀ i∈ids,i < ob.length) {i:Nat} {o':Ob} (h:(behind ids obs' ob)[i]? = some o') :
 (i < ob.length∧i ∉ ids∧ob[i]? = some o') ∨ ∃ k o,i=rn ids ob.length k∧obs'[k]? = some o∧o'=o.ren (rn ids ob.length):=by
 unfold behind at h
 have hlen:=placeOb_length ids (obs'.map (Ob.ren (rn ids ob.length))) ob
 rcases Nat.lt_or_ge i ob.length with hi | hi
 ·rw [List.getElem?_append_left (by omega)] at h
  by_cases hm : i∈ids
  ·obtain ⟨k,hk,hki⟩:=List.getElem_of_mem hm
   have hk' : ids[k]? = some i:=by rw [List.getElem?_eq_getElem hk,hki]
   rw [placeOb_hit ids _ _ k i hn (by simpa using hl) hk' hi,List.getElem?_map,Option.map_eq_some_iff] at h
   obtain ⟨o,h1,h2⟩:=h
   exact .inr ⟨k,o,by simp [rn,hk'],h1,h2.symm⟩
  ·rw [placeOb_miss _ _ _ _ hm] at h
   exact .inl ⟨hi,hm,h⟩
 ·rw [List.getElem?_append_right (by omega),hlen,List.getElem?_map,Option.map_eq_some_iff,] at h
  obtain ⟨o,h1,h2⟩:=h
  rw [List.getElem?_drop] at h1
  refine .inr ⟨ids.length + (i - ob.length),o,?_,h1,h2.symm⟩
  simp only [rn]
  rw [List.getElem?_eq_none (by omega)]
  dsimp only
  omega
theorem behind_length {ids:List Nat} {obs' ob:List Ob} : (behind ids obs' ob).length=ob.length + (obs'.length - ids.length):=by
 simp [behind,placeOb_length]
theorem rn_lt {ids:List Nat} {obs' ob:List Ob} (hids:∀ i∈ids,i < ob.length) {k:Nat} (hk:k < obs'.length) : rn ids ob.length k < ob.length + (obs'.length - ids.length):=by
 unfold rn
 split
 ·rename_i i hi
  have:=hids i (List.mem_of_getElem? hi)
  omega
 ·rename_i hi
  have : ids.length≤k:=by
   rcases Nat.lt_or_ge k ids.length with h | h
   ·rw [List.getElem?_eq_getElem h] at hi; cases hi
   ·exact h
  omega
def nr (ids:List Nat) (len:Nat) (i:Nat) : Nat:=if i < len then ids.idxOf i else ids.length + (i - len)
theorem nr_rn {ids:List Nat} {len:Nat} (hn:ids.Nodup) (hids:∀ i∈ids,i < len) (k:Nat) : nr ids len (rn ids len k)=k:=by
 unfold rn
 split
 ·rename_i i hi
  have hk:=get_lt hi
  have hik : ids[k]=i:=(List.getElem?_eq_some_iff.1 hi).2
  have:=hids i (List.mem_of_getElem? hi)
  unfold nr
  rw [if_pos this,← hik]
  exact hn.idxOf_getElem k hk
 ·rename_i hi
  have : ids.length≤k:=by
   rcases Nat.lt_or_ge k ids.length with h | h
   ·rw [List.getElem?_eq_getElem h] at hi; cases hi
   ·exact h
  unfold nr
  rw [if_neg (by omega)]
  omega
theorem obNoBw_get {ids:List Nat} : ∀ {os:List Ob} {k:Nat},obNoBw ids k os=true → ∀ {i:Nat} {o:Ob},os[i]? = some o→k + i ∉ ids→o.noBw=true
 | [], _, _, _, _, h, _ => by simp at h
 | o' :: os, k, hb, i, o, h, hi => by
   simp only [obNoBw,Bool.and_eq_true,Bool.or_eq_true] at hb
   cases i with
   | zero =>
     simp only [List.getElem?_cons_zero,Option.some.injEq] at h
     subst h
     rcases hb.1 with h | h
     ·exact absurd (by simpa using h) hi
     ·exact h
   | succ i => exact obNoBw_get hb.2 (by simpa using h) (by rw [show k + 1 + i=k + (i + 1) by omega]; exact hi)
theorem tmNoBw_get : ∀ {tm:List (Nat × AV)},tmNoBw tm=true → ∀ t,(getL tm t).noBw=true
 | [], _, t => rfl
 | (k, x) :: r, h, t => by
   simp only [tmNoBw,Bool.and_eq_true] at h
   simp only [getL]
   split
   ·exact h.1
   ·exact tmNoBw_get h.2 t
theorem Rel.join (hr:Rel w0 σ hv S F a w) {ids:List Nat} (hn:ids.Nodup) (hids:∀ i∈ids,i < σ.ob.length) {Lc:Nat→Prop} {av:Nat→Value} (hav:∀ k i,ids[k]? = some i→av k=hv i) {obs':List Ob} {hv1:Hv} {S1 G:Nat→Prop} {F1:Nat→List Nat}
 (hc:Rel ⟨w,Lc,Hand σ.ob hv F ids,ids.length,av⟩ ⟨0,[],obs'⟩ hv1 S1 F1 ⟨#[],[]⟩ w') (hG:∀ b,G b→S1 b∧(S b ∨ Hand σ.ob hv F ids b ∨ w.heap.size≤b))
 (hob:∀ (id:Nat) (o:Ob),obs'[id]? = some o→o.noBw=true∧ObR hv1 G w' (F1 id) (hv1 id) o)
 (hbw:(∀ b,Hand σ.ob hv F ids b → ¬ hv.B b) ∨ (tmNoBw σ.tm=true∧obNoBw ids 0 σ.ob=true)) :
 ∃ hv2 F2,Rel w0 { σ with ob:=behind ids obs' σ.ob } hv2 (fun b=>S b ∨ G b) F2 a w' ∧ ∀ k,hv2 (rn ids σ.ob.length k)=hv1 k:=by
 obtain ⟨M,hM⟩ : ∃ M,M=Hand σ.ob hv F ids:=⟨_,rfl⟩
 rw [← hM] at hc hG hbw
 obtain ⟨n,hnn⟩ : ∃ n,n=σ.ob.length:=⟨_,rfl⟩
 have hlo : ids.length≤obs'.length:=hc.an
 have hbs:=hr.below.size
 have hcs : w.heap.size≤w'.heap.size:=hc.below.size
 -- what the callee may write
 have mB : ∀ b,M b→(w0.M b ∨ w0.heap.size≤b)∧b < w.heap.size∧¬ S b:=by
  intro b hb
  rw [hM] at hb
  obtain ⟨i,hi,o,q1,q2,q3⟩:=hb
  rcases q3 with q3 | ⟨q3,q4⟩
  ·obtain ⟨k1,k2,k3⟩:=hr.root i o q1 q2 b q3
   exact ⟨k1,k2,fun h=>k3 (hr.SB b h)⟩
  ·obtain ⟨k1,k2,k3⟩:=hr.fown i o q1 q3 b q4
   exact ⟨k1,hr.Blt b k2,k3⟩
 have mRoot : ∀ (i:Nat) (o:Ob),i ∉ ids→σ.ob[i]? = some o→o ≠ .dead → ∀ b,blkOf (hv i)=some b → ¬ M b:=by
  intro i o hi h1 h2 b hb hm
  rw [hM] at hm
  obtain ⟨j,hj,o',q1,q2,q3⟩:=hm
  rcases q3 with q3 | ⟨q3,q4⟩
  ·exact hr.sep i j o o' (by rintro rfl; exact hi hj) h1 q1 h2 q2 b hb q3
  ·exact (hr.root i o h1 h2 b hb).2.2 (hr.fown j o' q1 q3 b q4).2.1
 have mOwn : ∀ (i:Nat) (o:Ob),i ∉ ids→σ.ob[i]? = some o→o.owns=true → ∀ b∈F i,¬ M b:=by
  intro i o hi h1 h2 b hb hm
  rw [hM] at hm
  obtain ⟨j,hj,o',q1,q2,q3⟩:=hm
  rcases q3 with q3 | ⟨q3,q4⟩
  ·exact (hr.root j o' q1 q2 b q3).2.2 (hr.fown i o h1 h2 b hb).2.1
  ·exact hr.fsep i j o o' (by rintro rfl; exact hi hj) h1 q1 h2 q3 b hb q4
 have same : ∀ b,b < w.heap.size → ¬ M b→w'.heap[b]? = w.heap[b]?:=fun b h1 h2=>hc.below.block b h1 h2
 have sameS : ∀ b,S b→w'.heap[b]? = w.heap[b]?:=fun b hb=>same b (hr.Slt b hb) (fun hm=>(mB b hm).2.2 hb)
 let B2 : Nat→Prop:=fun b=>(hv.B b∧¬ M b) ∨ G b ∨ ∃ k o,obs'[k]? = some o∧o.owns=true∧b∈F1 k
 let hv2 : Hv:=⟨fun i=>if i < n then hv i else hv1 (ids.length + (i - n)),B2⟩
 let F2 : Nat→List Nat:=fun i=>if i < n∧i ∉ ids then F i else F1 (nr ids n i)
 have e1 : ∀ i,i < n→hv2 i=hv i:=fun i hi=>by show (if i < n then hv i else _)=_; rw [if_pos hi]
 have e2 : ∀ k,hv2 (rn ids n k)=hv1 k:=by
  intro k
  unfold rn
  split
  ·rename_i i hi
   rw [e1 i (by rw [hnn]; exact hids i (List.mem_of_getElem? hi)),← hav k i hi]
   exact (hc.av k (get_lt hi)).symm
  ·rename_i hi
   have : ids.length≤k:=by
    rcases Nat.lt_or_ge k ids.length with h | h
    ·rw [List.getElem?_eq_getElem h] at hi; cases hi
    ·exact h
   show (if n + (k - ids.length) < n then _ else hv1 (ids.length + (n + (k - ids.length) - n)))=_
   rw [if_neg (by omega)]
   congr 1; omega
 have f1 : ∀ i,i < n→i ∉ ids→F2 i=F i:=fun i h1 h2=>if_pos ⟨h1,h2⟩
 have f2 : ∀ k,F2 (rn ids n k)=F1 k:=by
  intro k
  show (if rn ids n k < n∧rn ids n k ∉ ids then F _ else F1 (nr ids n (rn ids n k)))=F1 k
  rw [if_neg,nr_rn hn (by rw [hnn]; exact hids)]
  rintro ⟨h1,h2⟩
  unfold rn at h1 h2
  split at h2
  ·rename_i i hi
   exact h2 (List.mem_of_getElem? hi)
  ·rename_i hi
   rw [hi] at h1
   dsimp only at h1
   omega
 have get : ∀ {i:Nat} {o':Ob},(behind ids obs' σ.ob)[i]? = some o'→(i < n∧i ∉ ids∧σ.ob[i]? = some o') ∨ ∃ k o,i=rn ids n k∧obs'[k]? = some o∧o'=o.ren (rn ids n):=by
  intro i o' h
  have:=behind_get hn hlo hids h
  rwa [← hnn] at this
 have rinj : ∀ {k k2:Nat},rn ids n k=rn ids n k2→k=k2:=fun {k k2} h=>by
  have h1:=nr_rn (ids:=ids) (len:=n) hn (by rw [hnn]; exact hids) k
  have h2:=nr_rn (ids:=ids) (len:=n) hn (by rw [hnn]; exact hids) k2
  rw [← h1,← h2,h]
 -- old things in the new world
 have bwOk : (∀ b,hv.B b→B2 b∧w'.heap[b]? = w.heap[b]?) ∨ (tmNoBw σ.tm=true∧obNoBw ids 0 σ.ob=true) :=
  hbw.imp (fun h b hb=>⟨.inl ⟨hb,fun hm=>h b hm hb⟩,same b (hr.Blt b hb) (fun hm=>h b hm hb)⟩) (fun h=>h)
 have gB : ∀ b,G b→hv1.B b:=fun b hb=>hc.SB b (hG b hb).1
 -- roots
 have rootc : ∀ (k:Nat) (o:Ob),obs'[k]? = some o→o ≠ .dead → ∀ b,blkOf (hv1 k)=some b→(M b ∨ w.heap.size≤b)∧b < w'.heap.size∧¬ B2 b∧¬ S b:=by
  intro k o h1 h2 b hb
  obtain ⟨q1,q2,q3⟩:=hc.root k o h1 h2 b hb
  have hS : ¬ S b:=fun hh=>by
   rcases q1 with q1 | q1
   ·exact (mB b q1).2.2 hh
   ·have:=hr.Slt b hh
    have : w.heap.size≤b:=q1
    omega
  refine ⟨q1,q2,fun hh=>?_,hS⟩
  rcases hh with ⟨hh,hm⟩ | hh | ⟨k2,o2,g1,g2,g3⟩
  ·rcases q1 with q1 | q1
   ·exact hm q1
   ·have:=hr.Blt b hh
    have : w.heap.size≤b:=q1
    omega
  ·exact q3 (gB b hh)
  ·exact q3 (hc.fown k2 o2 g1 g2 b g3).2.1
 have rootr : ∀ (i:Nat) (o:Ob),i ∉ ids→σ.ob[i]? = some o→o ≠ .dead → ∀ b,blkOf (hv i)=some b → ¬ M b∧b < w.heap.size∧¬ B2 b:=by
  intro i o hi h1 h2 b hb
  obtain ⟨q1,q2,q3⟩:=hr.root i o h1 h2 b hb
  have hm:=mRoot i o hi h1 h2 b hb
  refine ⟨hm,q2,fun hh=>?_⟩
  rcases hh with ⟨hh,_⟩ | hh | ⟨k2,o2,g1,g2,g3⟩
  ·exact q3 hh
  ·rcases (hG b hh).2 with h | h | h
   ·exact q3 (hr.SB b h)
   ·exact hm h
   ·omega
  ·rcases (hc.fown k2 o2 g1 g2 b g3).1 with h | h
   ·exact hm h
   ·have : w.heap.size≤b:=h
    omega
 have oldOb : ∀ (i:Nat) (o:Ob),i ∉ ids→σ.ob[i]? = some o→ObR hv2 (fun b=>S b ∨ G b) w' (F2 i) (hv2 i) o:=by
  intro i o hi h1
  have hlt : i < n:=by rw [hnn]; exact get_lt h1
  rw [e1 i hlt,f1 i hlt hi]
  by_cases hd : o = .dead
  ·subst hd; trivial
  ·have hroot : ∀ b,blkOf (hv i)=some b→w'.heap[b]? = w.heap[b]?:=fun b hb=>same b (hr.root i o h1 hd b hb).2.1 (rootr i o hi h1 hd b hb).1
   have hown : o.owns=true → ∀ b∈F i,w'.heap[b]? = w.heap[b]?:=fun ho b hb=>same b (hr.Blt b (hr.fown i o h1 ho b hb).2.1) (mOwn i o hi h1 ho b hb)
   rcases bwOk with hB | ⟨_,hB⟩
   ·exact (hr.ob i o h1).mono (hr.uob i o h1) (fun i hi=>e1 i (by rw [hnn]; exact hi)) (fun b hb=>⟨.inl hb,sameS b hb⟩) hB hown hroot
   ·have hnb:=obNoBw_get hB h1 (by simpa using hi)
    have h0 : ObR ⟨hv.v,fun _=>False⟩ S w (F i) (hv i) o:=by
     have:=(hr.ob i o h1).anyB (hv':=⟨hv.v,fun _=>False⟩) (r:=fun i=>i) hnb (fun _=>rfl)
     have hid : o.ren (fun i=>i)=o:=by
      cases o<;>simp only [Ob.ren]
      rename_i x
      congr 1
      exact ren_id x
     rwa [hid] at this
    exact h0.mono (hv':=hv2) (hr.uob i o h1) (fun i hi=>e1 i (by rw [hnn]; exact hi)) (fun b hb=>⟨.inl hb,sameS b hb⟩) (fun b hb=>hb.elim) hown hroot
 refine ⟨hv2,F2,?_,by rw [← hnn]; exact e2⟩
 refine { size:=hr.size,defs:=hr.defs,tm:=fun t=>?_,utm:=fun t=>?_,ob:=fun i o' ho'=>?_,uob:=fun i o' ho'=>?_,root:=fun i o' ho' hd b hb=>?_,sep:=fun i j oi oj hij hi hj di dj b hb=>?_,SB:=fun b hb=>?_,Blt:=fun b hb=>?_,Bin:=fun b hb=>?_,fown:=fun i o' ho' hown b hb=>?_,fsep:=fun i j oi oj hij hi hj hoi hoj b hb=>?_,below:=?_,one:=fun i=>?_,an:=?_,av:=fun i hi=>?_ }
 ·obtain ⟨L,h1,h2⟩:=hr.tm t
  refine ⟨L,?_,fun b hb=>.inl (h2 b hb)⟩
  rcases bwOk with hB | ⟨hB,_⟩
  ·exact footA_hv (hv:=hv) (hv':=hv2) (fun b hb=>(hB b hb).1) (fun i hi=>e1 i (by rw [hnn]; exact hi)) _ _ L (hr.utm t) (footA_mono (fun b hb=>(hB b hb).2) _ _ L (fun b hb=>sameS b (h2 b hb)) h1)
  ·have hnb:=tmNoBw_get hB t
   have h0:=footA_anyB (hv:=hv) (hv':=⟨hv.v,fun _=>False⟩) (n:=σ.ob.length) (fun _ _=>rfl) _ _ L hnb (hr.utm t) h1
   exact footA_hv (hv:=⟨hv.v,fun _=>False⟩) (hv':=hv2) (fun b hb=>hb.elim) (fun i hi=>e1 i (by rw [hnn]; exact hi)) _ _ L (hr.utm t) (footA_mono (hv:=⟨hv.v,fun _=>False⟩) (fun b hb=>False.elim hb) _ _ L (fun b hb=>sameS b (h2 b hb)) h0)
 ·show (getL σ.tm t).under (behind ids obs' σ.ob).length=true
  rw [behind_length]
  exact AV.under_mono (by omega) _ (hr.utm t)
 ·rcases get ho' with ⟨h1,h2,h3⟩ | ⟨k,o,rfl,h1,rfl⟩
  ·exact oldOb i o' h2 h3
  ·rw [e2 k,f2 k]
   obtain ⟨q1,q2⟩:=hob k o h1
   have:=q2.anyB (hv':=hv2) (r:=rn ids n) q1 e2
   have hm : ∀ {o:Ob} {Fi h},ObR hv2 G w' Fi h o→o.noBw=true→ObR hv2 (fun b=>S b ∨ G b) w' Fi h o:=by
    intro o Fi h ho hnb
    cases o with
    | dead => trivial
    | box x => obtain ⟨b,e,u,L,h1,h2,h3,h4⟩:=ho; exact ⟨b,e,u,L,h1,h2,h3,fun b hb=>.inr (h4 b hb)⟩
    | arr e m k es =>
      obtain ⟨vs,h1,h2,h3,h4⟩:=ho
      refine ⟨vs,h1,?_,h3,h4⟩
      cases k with
      | own s => exact h2
      | clo => obtain ⟨L,a1,a2⟩:=h2; exact ⟨L,a1,fun b hb=>.inr (a2 b hb)⟩
      | bor => simp [Ob.noBw] at hnb
    | hole => exact ho
    | map kt vt k ks vs pend =>
      obtain ⟨r,es,clock,l,h1,h2,h3⟩:=ho
      refine ⟨r,es,clock,l,h1,?_,h3⟩
      cases k with
      | own s => exact h2
      | clo => obtain ⟨L,a1,a2⟩:=h2; exact ⟨L,a1,fun b hb=>.inr (a2 b hb)⟩
      | bor => simp [Ob.noBw] at hnb
    | mhole => exact ho
    | iter c xs =>
      obtain ⟨b,m,es,clock,seen,last,lc,l,L1,L2,h1,h2,h3,h4,h5,h6,h7,h8,h9,h10,h11,h12⟩:=ho
      exact ⟨b,m,es,clock,seen,last,lc,l,L1,L2,h1,h2,.inr h3,h4,h5,h6,h7,h8,h9,h10,h11,fun b hb=>.inr (h12 b hb)⟩
   exact hm this (by cases o<;>first | exact q1 | (simp only [Ob.ren,Ob.noBw] at q1 ⊢; exact ren_noBw _ q1))
 ·show o'.under (behind ids obs' σ.ob).length=true
  rw [behind_length]
  rcases get ho' with ⟨h1,h2,h3⟩ | ⟨k,o,rfl,h1,rfl⟩
  ·exact Ob.under_mono (by omega) _ (hr.uob i o' h3)
  ·have hu:=hc.uob k o h1
   have hlt : ∀ i,i < obs'.length→rn ids n i < σ.ob.length + (obs'.length - ids.length):=fun i hi=>by rw [hnn]; exact rn_lt (obs':=obs') hids hi
   cases o<;>first | rfl | exact ren_under hlt _ hu | (simp only [Ob.ren,Ob.under,decide_eq_true_eq] at hu ⊢; exact hlt _ hu)
 ·rcases get ho' with ⟨h1,h2,h3⟩ | ⟨k,o,rfl,h1,rfl⟩
  ·rw [e1 i h1] at hb
   obtain ⟨q1,q2,q3⟩:=rootr i o' h2 h3 hd b hb
   exact ⟨(hr.root i o' h3 hd b hb).1,by omega,q3⟩
  ·rw [e2 k] at hb
   obtain ⟨q1,q2,q3,_⟩:=rootc k o h1 (ren_dead hd) b hb
   refine ⟨?_,q2,q3⟩
   rcases q1 with q1 | q1
   ·exact (mB b q1).1
   ·exact .inr (Nat.le_trans hbs q1)
 ·rcases get hi with ⟨h1,h2,h3⟩ | ⟨k,o,rfl,h1,rfl⟩
  ·rw [e1 i h1] at hb
   obtain ⟨q1,q2,_⟩:=rootr i oi h2 h3 di b hb
   rcases get hj with ⟨g1,g2,g3⟩ | ⟨k,o,rfl,g1,rfl⟩
   ·rw [e1 j g1]; exact hr.sep i j oi oj hij h3 g3 di dj b hb
   ·rw [e2 k]
    intro hh
    rcases (rootc k o g1 (ren_dead dj) b hh).1 with h | h
    ·exact q1 h
    ·omega
  ·rw [e2 k] at hb
   rcases get hj with ⟨g1,g2,g3⟩ | ⟨k2,o2,rfl,g1,rfl⟩
   ·rw [e1 j g1]
    intro hh
    obtain ⟨q1,q2,_⟩:=rootr j oj g2 g3 dj b hh
    rcases (rootc k o h1 (ren_dead di) b hb).1 with h | h
    ·exact q1 h
    ·omega
   ·rw [e2 k2]
    exact hc.sep k k2 o o2 (by rintro rfl; exact hij rfl) h1 g1 (ren_dead di) (ren_dead dj) b hb
 ·rcases hb with hb | hb
  ·exact .inl ⟨hr.SB b hb,fun hm=>(mB b hm).2.2 hb⟩
  ·exact .inr (.inl hb)
 ·rcases hb with ⟨hb,_⟩ | hb | ⟨k,o,g1,g2,g3⟩
  ·exact Nat.lt_of_lt_of_le (hr.Blt b hb) hcs
  ·exact hc.Blt b (gB b hb)
  ·exact hc.Blt b (hc.fown k o g1 g2 b g3).2.1
 ·have fromM : (M b ∨ w.heap.size≤b)→w0.L b ∨ w0.M b ∨ w0.heap.size≤b:=fun h=>h.elim (fun h=>.inr (mB b h).1) (fun h=>.inr (.inr (Nat.le_trans hbs h)))
  rcases hb with ⟨hb,_⟩ | hb | ⟨k,o,g1,g2,g3⟩
  ·exact hr.Bin b hb
  ·rcases (hG b hb).2 with h | h
   ·exact hr.Bin b (hr.SB b h)
   ·exact fromM h
  ·exact fromM (hc.fown k o g1 g2 b g3).1
 ·rcases get ho' with ⟨h1,h2,h3⟩ | ⟨k,o,rfl,h1,rfl⟩
  ·rw [f1 i h1 h2] at hb
   obtain ⟨q1,q2,q3⟩:=hr.fown i o' h3 hown b hb
   have hm:=mOwn i o' h2 h3 hown b hb
   refine ⟨q1,.inl ⟨q2,hm⟩,fun hh=>?_⟩
   rcases hh with hh | hh
   ·exact q3 hh
   ·rcases (hG b hh).2 with h | h | h
    ·exact q3 h
    ·exact hm h
    ·have:=hr.Blt b q2; omega
  ·rw [f2 k] at hb
   rw [ren_owns] at hown
   obtain ⟨q1,q2,q3⟩:=hc.fown k o h1 hown b hb
   refine ⟨?_,.inr (.inr ⟨k,o,h1,hown,hb⟩),fun hh=>?_⟩
   ·rcases q1 with q1 | q1
    ·exact (mB b q1).1
    ·exact .inr (Nat.le_trans hbs q1)
   ·rcases hh with hh | hh
    ·rcases q1 with q1 | q1
     ·exact (mB b q1).2.2 hh
     ·have:=hr.Slt b hh
      have : w.heap.size≤b:=q1
      omega
    ·exact q3 (hG b hh).1
 ·rcases get hi with ⟨h1,h2,h3⟩ | ⟨k,o,rfl,h1,rfl⟩
  ·rw [f1 i h1 h2] at hb
   have hm:=mOwn i oi h2 h3 hoi b hb
   have hlt:=hr.Blt b (hr.fown i oi h3 hoi b hb).2.1
   rcases get hj with ⟨g1,g2,g3⟩ | ⟨k,o,rfl,g1,rfl⟩
   ·rw [f1 j g1 g2]; exact hr.fsep i j oi oj hij h3 g3 hoi hoj b hb
   ·rw [f2 k]
    rw [ren_owns] at hoj
    intro hh
    rcases (hc.fown k o g1 hoj b hh).1 with h | h
    ·exact hm h
    ·have : w.heap.size≤b:=h
     omega
  ·rw [f2 k] at hb
   rw [ren_owns] at hoi
   rcases get hj with ⟨g1,g2,g3⟩ | ⟨k2,o2,rfl,g1,rfl⟩
   ·rw [f1 j g1 g2]
    intro hh
    have hm:=mOwn j oj g2 g3 hoj b hh
    have hlt:=hr.Blt b (hr.fown j oj g3 hoj b hh).2.1
    rcases (hc.fown k o h1 hoi b hb).1 with h | h
    ·exact hm h
    ·have : w.heap.size≤b:=h
     omega
   ·rw [f2 k2]
    rw [ren_owns] at hoj
    exact hc.fsep k k2 o o2 (by rintro rfl; exact hij rfl) h1 g1 hoi hoj b hb
 ·refine hr.below.trans ⟨hc.below.os,hc.below.tape,hc.below.output,hcs,fun k hk hm=>same k (by omega) fun h=>?_,hc.below.drawn⟩
  rcases (mB k h).1 with h | h
  ·exact hm h
  ·omega
 ·show (if i < n then hv i else hv1 (ids.length + (i - n))).oneCell'=true
  split
  ·exact hr.one _
  ·exact hc.one _
 ·show w0.na≤(behind ids obs' σ.ob).length
  rw [behind_length]
  have:=hr.an
  omega
 ·have:=hr.an
  rw [e1 i (by omega)]
  exact hr.av i hi
end
end Go.Proofs.YtmgdkkhnjkepiaaGreat.BX
namespace Go.Proofs.YtmgdkkhnjkepiaaGreat.BX
open Nat renaming reduceEqDiff → zA, reduceLT → zB, reduceLeDiff → zC, reduceAdd → zD, reduceMul → zE, reduceSub → zF, reduceBEq → zG
set_option linter.unusedSectionVars false
set_option linter.unusedSimpArgs false
set_option linter.unusedVariables false
open Go Go.RowKit
variable [Bd]
mutual
def AV.via (r:Nat→Option Nat) : AV→AV→Prop
 | .un, _ => True
 | .ud, x => x = .ud
 | .ns, x => x = .ns
 | .t y, x => x.shut=some y
 | .bw y, x => x.shutB=some y
 | .ag cs, x => match x with
   | .ag ds => vias r cs ds
   | .t (.ag ys) => vias r cs (ys.map .t)
   | _ => False
 | .tp cs, x => match x with
   | .tp ds => vias r cs ds
   | _ => False
 | .fn f cs, x => match x with
   | .fn g ds => f=g∧vias r cs ds
   | _ => False
 | .rf i off, x => match r i with
   | some j => x = .rf j off
   | none => False
 | .ra i k m off, x => match r i with
   | some j => x = .ra j k m off
   | none => False
 | .sv i k m off, x => match r i with
   | some j => x = .sv j k m off
   | none => False
 | .sr i, x => match r i with
   | some j => x = .sr j
   | none => x = .ns
 | .mr i, x => match r i with
   | some j => x = .mr j
   | none => False
 | .it i, x => match r i with
   | some j => x = .it j
   | none => False
def vias (r:Nat→Option Nat) : List AV→List AV→Prop
 | [], ds => ds=[]
 | c :: cs, ds => match ds with
   | d :: ds => c.via r d∧vias r cs ds
   | [] => False
end
def Kind.le : Kind→Kind→Prop
 | .bor, _ => True
 | .own s, .own s' => s=s'
 | .clo, .clo => True
 | _, _ => False
def Ob.via (r:Nat→Option Nat) : Ob→Ob→Prop
 | .dead, _ => True
 | .box x, o => match o with
   | .box y => x.via r y
   | _ => False
 | .arr e m k es, o => match o with
   | .arr e' m' k' es' => e=e' ∧ m=m' ∧ k.le k' ∧ es=es'
   | _ => False
 | .map a b k ks vs p, o => match o with
   | .map a' b' k' ks' vs' p' => a=a' ∧ b=b' ∧ k.le k' ∧ ks=ks' ∧ vs=vs' ∧ (p=none ∨ p=p')
   | _ => False
 | .iter c l, o => match o with
   | .iter c' l' => (c=none ∨ c=c')∧l=l'
   | _ => False
 | .hole e m ss es i j id, o => match o with
   | .hole e' m' ss' es' i' j' id' => (e=e' ∧ m=m' ∧ ss=ss' ∧ es=es' ∧ i=i' ∧ j=j')∧r id=some id'
   | _ => False
 | .mhole a b s ks vs i id, o => match o with
   | .mhole a' b' s' ks' vs' i' id' => (a=a' ∧ b=b' ∧ s=s' ∧ ks=ks' ∧ vs=vs' ∧ i=i')∧r id=some id'
   | _ => False
def Ob.empty : Ob→Bool
 | .arr _ _ _ [] => true
 | .dead => true
 | _ => false
section
variable {P:Program} {w0:Base} {σ:St} {hv:Hv} {S:Nat→Prop} {F:Nat→List Nat} {a:Act} {w:World}
theorem footAs_t {hv:Hv} {w:World} : ∀ {xs:List T} {vs:List Value} {L:List Nat},footTs w xs vs L→footAs hv w (xs.map .t) vs L
 | [], _, _, h => by simpa only [footTs,List.map_nil,footAs] using h
 | x :: xs, _, _, h => by
   simp only [footTs] at h
   obtain ⟨v,vs',M1,M2,rfl,rfl,g1,g2⟩:=h
   simp only [List.map_cons,footAs]
   exact ⟨v,vs',M1,M2,rfl,rfl,by simpa only [footA] using g1,footAs_t g2⟩
mutual
theorem via_foot {r:Nat→Option Nat} {hv hv':Hv} (hB:hv'.B=hv.B) (hS:∀ b,S b→hv.B b) (h1:∀ i j,r i=some j→hv' i=hv j) (h2:∀ i,r i=none→hv' i = .slice none 0 0) :
 ∀ (x:AV) {y:AV} {v:Value} {L:List Nat},x.via r y→footA hv w y v L→(∀ b∈L,S b) → ∃ L',footA hv' w x v L' ∧ ∀ b∈L',S b
 | .un, y, v, L, _, _, _ => ⟨[],by simp [footA],by simp⟩
 | .ud, y, v, L, h, hf, hL => by simp only [AV.via] at h; subst h; exact ⟨L,by simpa only [footA] using hf,hL⟩
 | .ns, y, v, L, h, hf, hL => by simp only [AV.via] at h; subst h; exact ⟨L,by simpa only [footA] using hf,hL⟩
 | .t x, y, v, L, h, hf, hL => by simp only [AV.via] at h; exact ⟨L,by simpa only [footA] using shut_sound _ h hf,hL⟩
 | .bw x, y, v, L, h, hf, hL => by
   simp only [AV.via] at h
   obtain ⟨L',k1,k2⟩:=shutB_sound hS _ h hf hL
   exact ⟨[],by simp only [footA]; exact ⟨⟨L',k1,by rw [hB]; exact k2⟩,trivial⟩,by simp⟩
 | .ag cs, y, v, L, h, hf, hL => by
   simp only [AV.via] at h
   split at h
   ·simp only [footA] at hf
    obtain ⟨vs,rfl,hf⟩:=hf
    obtain ⟨L',k1,k2⟩:=vias_foot hB hS h1 h2 cs h hf hL
    exact ⟨L',by simp only [footA]; exact ⟨vs,rfl,k1⟩,k2⟩
   ·simp only [footA,footT] at hf
    obtain ⟨vs,rfl,hf⟩:=hf
    obtain ⟨L',k1,k2⟩:=vias_foot hB hS h1 h2 cs h (footAs_t hf) hL
    exact ⟨L',by simp only [footA]; exact ⟨vs,rfl,k1⟩,k2⟩
   ·cases h
 | .tp cs, y, v, L, h, hf, hL => by
   simp only [AV.via] at h
   split at h
   ·simp only [footA] at hf
    obtain ⟨vs,rfl,hf⟩:=hf
    obtain ⟨L',k1,k2⟩:=vias_foot hB hS h1 h2 cs h hf hL
    exact ⟨L',by simp only [footA]; exact ⟨vs,rfl,k1⟩,k2⟩
   ·cases h
 | .fn f cs, y, v, L, h, hf, hL => by
   simp only [AV.via] at h
   split at h
   ·obtain ⟨rfl,h⟩:=h
    simp only [footA] at hf
    obtain ⟨vs,rfl,hf⟩:=hf
    obtain ⟨L',k1,k2⟩:=vias_foot hB hS h1 h2 cs h hf hL
    exact ⟨L',by simp only [footA]; exact ⟨vs,rfl,k1⟩,k2⟩
   ·cases h
 | .rf i off, y, v, L, h, hf, hL => by
   simp only [AV.via] at h
   split at h
   ·rename_i j hj
    subst h
    exact ⟨L,by simp only [footA] at hf ⊢; rw [h1 i j hj]; exact hf,hL⟩
   ·cases h
 | .ra i k m off, y, v, L, h, hf, hL => by
   simp only [AV.via] at h
   split at h
   ·rename_i j hj
    subst h
    exact ⟨L,by simp only [footA] at hf ⊢; rw [h1 i j hj]; exact hf,hL⟩
   ·cases h
 | .sv i k m off, y, v, L, h, hf, hL => by
   simp only [AV.via] at h
   split at h
   ·rename_i j hj
    subst h
    exact ⟨L,by simp only [footA] at hf ⊢; rw [h1 i j hj]; exact hf,hL⟩
   ·cases h
 | .sr i, y, v, L, h, hf, hL => by
   simp only [AV.via] at h
   split at h
   ·rename_i j hj
    subst h
    exact ⟨L,by simp only [footA] at hf ⊢; rw [h1 i j hj]; exact hf,hL⟩
   ·rename_i hj
    subst h
    exact ⟨L,by simp only [footA] at hf ⊢; rw [h2 i hj]; exact hf,hL⟩
 | .mr i, y, v, L, h, hf, hL => by
   simp only [AV.via] at h
   split at h
   ·rename_i j hj
    subst h
    exact ⟨L,by simp only [footA] at hf ⊢; rw [h1 i j hj]; exact hf,hL⟩
   ·cases h
 | .it i, y, v, L, h, hf, hL => by
   simp only [AV.via] at h
   split at h
   ·rename_i j hj
    subst h
    exact ⟨L,by simp only [footA] at hf ⊢; rw [h1 i j hj]; exact hf,hL⟩
   ·cases h
theorem vias_foot {r:Nat→Option Nat} {hv hv':Hv} (hB:hv'.B=hv.B) (hS:∀ b,S b→hv.B b) (h1:∀ i j,r i=some j→hv' i=hv j) (h2:∀ i,r i=none→hv' i = .slice none 0 0) :
 ∀ (xs:List AV) {ys:List AV} {vs:List Value} {L:List Nat},vias r xs ys→footAs hv w ys vs L→(∀ b∈L,S b) → ∃ L',footAs hv' w xs vs L' ∧ ∀ b∈L',S b
 | [], ys, vs, L, h, hf, hL => by simp only [vias] at h; subst h; simp only [footAs] at hf; exact ⟨[],by simp [footAs,hf.1],by simp⟩
 | x :: xs, ys, vs, L, h, hf, hL => by
   simp only [vias] at h
   split at h
   ·obtain ⟨g1,g2⟩:=h
    simp only [footAs] at hf
    obtain ⟨v,vs',L1,L2,rfl,rfl,f1,f2⟩:=hf
    obtain ⟨M1,k1,k2⟩:=via_foot hB hS h1 h2 x g1 f1 (fun b hb=>hL b (List.mem_append_left _ hb))
    obtain ⟨M2,k3,k4⟩:=vias_foot hB hS h1 h2 xs g2 f2 (fun b hb=>hL b (List.mem_append_right _ hb))
    exact ⟨M1 ++ M2,by simp only [footAs]; exact ⟨v,vs',M1,M2,rfl,rfl,k1,k3⟩,fun b hb=>(List.mem_append.1 hb).elim (k2 b) (k4 b)⟩
   ·cases h
end
theorem elsR.weak {hv hv':Hv} {Fi Fj:List Nat} {k k':Kind} {es:List T} {vs:List Value} (h:elsR hv S w Fi k' es vs) (hk:k.le k') (hB:hv'.B=hv.B) (hS:∀ b,S b→hv.B b) (hF:k'.isOwn=true → ∀ b∈Fi,hv.B b) (hFF:∀ b∈Fi,b∈Fj) : elsR hv' S w Fj k es vs:=by
 cases k with
 | own s =>
   cases k' with
   | own s' => simp only [Kind.le] at hk; subst hk; obtain ⟨L,h1,h2,h3⟩:=h; exact ⟨L,h1,h2,fun b hb=>hFF b (h3 b hb)⟩
   | clo => cases hk
   | bor => cases hk
 | clo =>
   cases k' with
   | own s' => cases hk
   | clo => exact h
   | bor => cases hk
 | bor =>
   obtain ⟨L,h1,h2⟩:=elsR_foot h hF
   exact ⟨L,h1,fun b hb=>by rw [hB]; have:=h2 b hb; cases k'<;>first | exact this | exact hS b this⟩
theorem via_owns {r:Nat→Option Nat} {o o':Ob} (h:o'.via r o) (hw:o'.owns=true) : o.owns=true:=by
 cases o' with
 | dead => cases hw
 | box x => cases hw
 | arr e m k es =>
   cases k with
   | own s =>
     cases o<;>simp only [Ob.via] at h
     rename_i k' _
     obtain ⟨_,_,h,_⟩:=h
     cases k'<;>first | rfl | cases h
   | clo => cases hw
   | bor => cases hw
 | hole => cases o<;>first | rfl | (simp only [Ob.via] at h)
 | map a b k ks vs p =>
   cases k with
   | own s =>
     cases o<;>simp only [Ob.via] at h
     rename_i k' _ _ _
     obtain ⟨_,_,h,_⟩:=h
     cases k'<;>first | rfl | cases h
   | clo => cases hw
   | bor => cases hw
 | mhole => cases o<;>first | rfl | (simp only [Ob.via] at h)
 | iter => cases hw
theorem iter_none {hv:Hv} {S:Nat→Prop} {w:World} {Fi:List Nat} {h:Value} {c:Option (T × T)} {xs:List (T × T)} (hob:ObR hv S w Fi h (.iter c xs)) : ObR hv S w Fi h (.iter none xs):=by
 cases c with
 | none => exact hob
 | some p =>
   obtain ⟨b,m,es,clock,seen,last,lc,l,L1,L2,h1,h2,h3,h4,h5,h6,h7,h8,⟨h9,h9',_⟩,h10,h11,h12⟩:=hob
   cases lc with
   | nil => simp at h9'
   | cons e lc =>
     have : lc=[]:=List.eq_nil_of_length_eq_zero (by simpa using h9')
     subst this
     simp only [Option.toList_some,List.cons_append,List.nil_append,List.map_cons,footTs] at h10 h11
     obtain ⟨_,_,A1,A2,q1,rfl,_,q3⟩:=h10
     obtain ⟨_,_,B1,B2,r1,rfl,_,r3⟩:=h11
     cases q1; cases r1
     exact ⟨b,m,es,clock,seen,last,[],l,A2,B2,h1,h2,h3,h4,h5,h6,h7,h8,⟨h9,rfl,by simp⟩,by simpa using q3,by simpa using r3,fun b' hb'=>h12 b' (by
      rcases List.mem_append.1 hb' with hb' | hb'
      ·simp [hb']
      ·simp [hb'])⟩
theorem Rel.via (hr:Rel w0 σ hv S F a w) {σ':St} (r:Nat→Option Nat) (hn:σ'.n=σ.n) (ht:∀ t,(getL σ'.tm t).via r (getL σ.tm t)) (hu:∀ t,(getL σ'.tm t).under σ'.ob.length=true)
 (ho:∀ (i:Nat) (o':Ob),σ'.ob[i]? = some o'→match r i with
  | some j => o' = .dead ∨ ∃ o,σ.ob[j]? = some o∧o'.via r o
  | none => o'.empty=true)
 (hinj:∀ i i' j,i < σ'.ob.length→i' < σ'.ob.length→r i=some j→r i'=some j→i=i') (huo:∀ (i:Nat) (o':Ob),σ'.ob[i]? = some o'→o'.under σ'.ob.length=true)
 (hp:∀ i,i < w0.na→r i=some i) (hpl:w0.na≤σ'.ob.length) :
 ∃ (hv':Hv) (F':Nat→List Nat),Rel w0 σ' hv' S F' a w∧hv'.B=hv.B∧∀ i j,r i=some j→hv' i=hv j∧F' i=F j:=by
 refine ⟨⟨fun i=>match r i with | some j=>hv j | none=>.slice none 0 0,hv.B⟩,fun i=>match r i with | some j=>F j | none=>[],?_,rfl,fun i j h=>by simp only [h]; exact ⟨trivial,trivial⟩⟩
 generalize hhv : (⟨fun i=>match r i with | some j=>hv j | none=>Value.slice none 0 0,hv.B⟩ : Hv)=hv'
 have hB : hv'.B=hv.B:=by rw [← hhv]
 have h1 : ∀ i j,r i=some j→hv' i=hv j:=fun i j h=>by rw [← hhv]; simp only [h]
 have h2 : ∀ i,r i=none→hv' i = .slice none 0 0:=fun i h=>by rw [← hhv]; simp only [h]
 have cases' : ∀ (i:Nat) (o':Ob),σ'.ob[i]? = some o'→o' ≠ .dead→(∃ j o,r i=some j∧σ.ob[j]? = some o∧o'.via r o∧o ≠ .dead) ∨ (r i=none∧∃ e m k,o' = .arr e m k []):=by
  intro i o' hi hd
  have:=ho i o' hi
  split at this
  ·rename_i j hj
   rcases this with h | ⟨o,h,hv⟩
   ·exact absurd h hd
   ·refine .inl ⟨j,o,hj,h,hv,?_⟩
    rintro rfl
    cases o'<;>simp [Ob.via] at hv hd
  ·rename_i hj
   refine .inr ⟨hj,?_⟩
   cases o' with
   | dead => exact absurd rfl hd
   | arr e m k es => cases es with
     | nil => exact ⟨e,m,k,rfl⟩
     | cons x xs => simp [Ob.empty] at this
   | _ => simp [Ob.empty] at this
 have nilEls : ∀ {k:Kind} {Fi:List Nat},elsR hv' S w Fi k [] []:=fun {k} {Fi}=>by cases k<;>exact ⟨[],by simp [ownEs,footTs],by simp⟩
 refine { size:=by rw [hr.size,hn],defs:=hr.defs,tm:=fun t=>?_,utm:=hu,ob:=fun i o' hi=>?_,uob:=huo,root:=fun i o' hi hd b hb=>?_,sep:=fun i j oi oj hij hi hj di dj b hb=>?_,SB:=fun b hb=>by rw [hB]; exact hr.SB b hb,Blt:=fun b hb=>hr.Blt b (by rw [← hB]; exact hb),Bin:=fun b hb=>hr.Bin b (by rw [← hB]; exact hb),fown:=fun i o hi hown b hb=>?_,fsep:=fun i j oi oj hij hi hj hoi hoj b hb=>?_,below:=hr.below,one:=fun i=>?_,an:=hpl,av:=fun i hi=>by rw [h1 i i (hp i hi)]; exact hr.av i hi }
 ·obtain ⟨L,k1,k2⟩:=hr.tm t
  exact via_foot hB hr.SB h1 h2 _ (ht t) k1 k2
 ·by_cases hd : o' = .dead
  ·subst hd; trivial
  ·rcases cases' i o' hi hd with ⟨j,o,hj,hjo,hv2,hod⟩ | ⟨hj,e,m,k,rfl⟩
   ·rw [h1 i j hj]
    simp only [hj]
    have hob:=hr.ob j o hjo
    have hFB : o.owns=true → ∀ b∈F j,hv.B b:=fun h b hb=>(hr.fown j o hjo h b hb).2.1
    cases o' with
    | dead => exact absurd rfl hd
    | box x =>
      cases o<;>simp only [Ob.via] at hv2
      obtain ⟨b,e,u,L,q1,q2,q3,q4⟩:=hob
      obtain ⟨L',k3,k4⟩:=via_foot hB hr.SB h1 h2 _ hv2 q3 q4
      exact ⟨b,e,u,L',q1,q2,k3,k4⟩
    | arr e m k es =>
      cases o<;>simp only [Ob.via] at hv2
      rename_i k' _
      obtain ⟨rfl,rfl,hk,rfl⟩:=hv2
      obtain ⟨vs,q1,q2,q3,q4⟩:=hob
      exact ⟨vs,q1,q2.weak hk hB hr.SB (fun h=>hFB (by cases k'<;>first | rfl | cases h)) (fun b hb=>hb),q3,q4⟩
    | map kt vt k ks vs p =>
      cases o<;>simp only [Ob.via] at hv2
      rename_i k' _ _ p'
      obtain ⟨rfl,rfl,hk,rfl,rfl,hpp⟩:=hv2
      obtain ⟨rr,es,clock,l,q1,q2,q3,q4⟩:=hob
      refine ⟨rr,es,clock,l,q1,q2.weak hk hB hr.SB (fun h=>hFB (by cases k'<;>first | rfl | cases h)) (fun b hb=>hb),q3,fun n x hx=>?_⟩
      rcases hpp with rfl | rfl
      ·cases hx
      ·exact q4 n x hx
    | hole e m ss es i j' id =>
      cases o<;>simp only [Ob.via] at hv2
      obtain ⟨⟨rfl,rfl,rfl,rfl,rfl,rfl⟩,hid⟩:=hv2
      obtain ⟨vs,v,y,L0,e1,m1,s1,g1,g2,g3,g4,g5,g6,g7,g8,g9,g10⟩:=hob
      exact ⟨vs,v,y,L0,e1,m1,s1,g1,g2,g3,g4,g5,by rw [h1 _ _ hid]; exact g6,g7,g8,g9,g10⟩
    | mhole a b s ks vs i id =>
      cases o<;>simp only [Ob.via] at hv2
      obtain ⟨⟨rfl,rfl,rfl,rfl,rfl,rfl⟩,hid⟩:=hv2
      exact hob
    | iter c l =>
      cases o<;>simp only [Ob.via] at hv2
      obtain ⟨hc,rfl⟩:=hv2
      rcases hc with rfl | rfl
      ·exact iter_none hob
      ·exact hob
   ·rw [h2 i hj]
    have:=Bd.lo
    exact ⟨[],⟨by simp [cellsL],.inl ⟨by simp,rfl⟩⟩,nilEls,by simp,⟨by simp; omega,by simp [ones,cellsL]⟩⟩
 ·rw [hB]
  rcases cases' i o' hi hd with ⟨j,o,hj,hjo,hv2,hod⟩ | ⟨hj,e,m,own,rfl⟩
  ·rw [h1 i j hj] at hb
   exact hr.root j o hjo hod b hb
  ·rw [h2 i hj] at hb
   simp [blkOf] at hb
 ·rcases cases' i oi hi di with ⟨i1,o1,hi1,hio,_,hod1⟩ | ⟨hi1,_⟩
  ·rw [h1 i i1 hi1] at hb
   rcases cases' j oj hj dj with ⟨j1,o2,hj1,hjo,_,hod2⟩ | ⟨hj1,_⟩
   ·rw [h1 j j1 hj1]
    refine hr.sep i1 j1 o1 o2 ?_ hio hjo hod1 hod2 b hb
    rintro rfl
    exact hij (hinj i j i1 (get_lt hi) (get_lt hj) hi1 hj1)
   ·rw [h2 j hj1]; simp [blkOf]
  ·rw [h2 i hi1] at hb; simp [blkOf] at hb
 ·rw [hB]
  rcases cases' i _ hi (owns_ne_dead hown) with ⟨i1,o1,hi1,hio,hv1,_⟩ | ⟨hi1,_⟩
  ·simp only [hi1] at hb
   exact hr.fown i1 _ hio (via_owns hv1 hown) b hb
  ·simp only [hi1] at hb; cases hb
 ·rcases cases' i _ hi (owns_ne_dead hoi) with ⟨i1,o1,hi1,hio,hv1,_⟩ | ⟨hi1,_⟩
  ·simp only [hi1] at hb
   rcases cases' j _ hj (owns_ne_dead hoj) with ⟨j1,o2,hj1,hjo,hv2,_⟩ | ⟨hj1,_⟩
   ·simp only [hj1]
    refine hr.fsep i1 j1 _ _ ?_ hio hjo (via_owns hv1 hoi) (via_owns hv2 hoj) b hb
    rintro rfl
    exact hij (hinj i j i1 (get_lt hi) (get_lt hj) hi1 hj1)
   ·simp only [hj1]; simp
  ·simp only [hi1] at hb; cases hb
 ·cases hi : r i with
  | some j => rw [h1 i j hi]; exact hr.one j
  | none => rw [h2 i hi]; rfl
def Wk (N:Nat) (σ σ':St) : Prop:=∀ (w0:Base) (hv:Hv) (S:Nat→Prop) (F:Nat→List Nat) (a:Act) (w:World),w0.na≤N→Rel w0 σ hv S F a w → ∃ (hv':Hv) (S':Nat→Prop) (F':Nat→List Nat),Rel w0 σ' hv' S' F' a w
theorem Wk.trans {N:Nat} {σ1 σ2 σ3:St} (h:Wk N σ1 σ2) (k:Wk N σ2 σ3) : Wk N σ1 σ3:=fun w0 hv S F a w hN hr =>
 let ⟨_,_,_,hr'⟩:=h w0 hv S F a w hN hr
 k w0 _ _ _ a w hN hr'
def rnO (ids:List (Option Nat)) (i:Nat) : Option Nat:=(ids[i]?).join
def tmVia (ids:List (Option Nat)) (n:Nat) (tm:List (Nat × AV)) : List (Nat × AV)→Prop
 | [] => True
 | (t, x) :: r => (x.under n=true∧x.via (rnO ids) (getL tm t))∧tmVia ids n tm r
def obVia1 (ids:List (Option Nat)) (n:Nat) (ob:List Ob) (o:Ob) : Option Nat→Prop
 | some j => match ob[j]? with
   | some o' => o.under n=true∧o.via (rnO ids) o'
   | none => False
 | none => o.empty=true
def obVia (all:List (Option Nat)) (n:Nat) (ob:List Ob) : List (Option Nat)→List Ob→Prop
 | [], os => os=[]
 | i :: ids, os => match os with
   | o :: os => obVia1 all n ob o i∧obVia all n ob ids os
   | [] => False
def distinct : List (Option Nat)→Bool
 | [] => true
 | i :: ids => (i == none || !ids.contains i) && distinct ids
def pre : Nat→Nat→List (Option Nat)→Bool
 | 0, _, _ => true
 | _ + 1, _, [] => false
 | N + 1, k, i :: ids => i == some k && pre N (k + 1) ids
theorem pre_spec : ∀ {N k:Nat} {ids:List (Option Nat)},pre N k ids=true→N≤ids.length∧∀ i,i < N→ids[i]? = some (some (k + i))
 | 0, _, _, _ => ⟨Nat.zero_le _,fun i hi=>by omega⟩
 | N + 1, k, [], h => by simp [pre] at h
 | N + 1, k, i :: ids, h => by
   simp only [pre,Bool.and_eq_true,beq_iff_eq] at h
   obtain ⟨rfl,h⟩:=h
   obtain ⟨h1,h2⟩:=pre_spec h
   refine ⟨by simp; omega,fun j hj=>?_⟩
   cases j with
   | zero => rfl
   | succ j =>
     rw [List.getElem?_cons_succ,h2 j (by omega)]
     congr 2; omega
def Keep (N:Nat) (ids:List (Option Nat)) (σ σ':St) : Prop :=
 σ'.n=σ.n∧distinct ids=true∧pre N 0 ids=true∧tmVia ids σ'.ob.length σ.tm σ'.tm∧obVia ids σ'.ob.length σ.ob ids σ'.ob
theorem tmVia_get {ids:List (Option Nat)} {n:Nat} {tm:List (Nat × AV)} : ∀ {tm':List (Nat × AV)},tmVia ids n tm tm' → ∀ t,(getL tm' t).under n=true∧(getL tm' t).via (rnO ids) (getL tm t)
 | [], _, t => ⟨rfl,by simp [getL,AV.via]⟩
 | (k, x) :: r, h, t => by
   simp only [getL]
   split
   ·rename_i ht
    subst ht
    exact h.1
   ·exact tmVia_get h.2 t
theorem obVia_get {all:List (Option Nat)} {n:Nat} {ob:List Ob} : ∀ {ids:List (Option Nat)} {os:List Ob},obVia all n ob ids os→ids.length=os.length∧∀ (i:Nat) (o:Ob),os[i]? = some o → ∃ k,ids[i]? = some k∧obVia1 all n ob o k
 | [], os, h => by simp only [obVia] at h; subst h; exact ⟨rfl,by simp⟩
 | i :: ids, os, h => by
   simp only [obVia] at h
   split at h
   ·obtain ⟨h1,h2⟩:=h
    obtain ⟨k1,k2⟩:=obVia_get h2
    refine ⟨by simp [k1],fun j o hj=>?_⟩
    cases j with
    | zero => simp only [List.getElem?_cons_zero,Option.some.injEq] at hj; subst hj; exact ⟨i,rfl,h1⟩
    | succ j => exact k2 j o (by simpa using hj)
   ·cases h
theorem distinct_spec : ∀ {ids:List (Option Nat)},distinct ids=true → ∀ (i j k:Nat),ids[i]? = some (some k)→ids[j]? = some (some k)→i=j
 | [], _, i, j, k, h, _ => by simp at h
 | x :: ids, hd, i, j, k, h1, h2 => by
   simp only [distinct,Bool.and_eq_true,Bool.or_eq_true,beq_iff_eq,Bool.not_eq_true'] at hd
   obtain ⟨hd1,hd2⟩:=hd
   have no : ∀ m : Nat,ids[m]? = some (some k)→x≠some k:=by
    rintro m hm rfl
    rcases hd1 with h | h
    ·cases h
    ·have : (some k)∈ids:=List.mem_of_getElem? hm
     rw [List.contains_iff_mem.2 this] at h
     cases h
   cases i with
   | zero =>
     cases j with
     | zero => rfl
     | succ j =>
       simp only [List.getElem?_cons_zero,Option.some.injEq,List.getElem?_cons_succ] at h1 h2
       exact absurd h1 (no j h2)
   | succ i =>
     cases j with
     | zero =>
       simp only [List.getElem?_cons_zero,Option.some.injEq,List.getElem?_cons_succ] at h1 h2
       exact absurd h2 (no i h1)
     | succ j =>
       simp only [List.getElem?_cons_succ] at h1 h2
       rw [distinct_spec hd2 i j k h1 h2]
theorem rnO_some {ids:List (Option Nat)} {i j:Nat} (h:rnO ids i=some j) : ids[i]? = some (some j):=by
 simp only [rnO] at h
 cases hq : ids[i]? with
 | none => rw [hq] at h; cases h
 | some k => rw [hq] at h; simp only [Option.join_some] at h; rw [h]
theorem Rel.keep {ids:List (Option Nat)} {σ':St} (hr:Rel w0 σ hv S F a w) (hn:σ'.n=σ.n) (hd:distinct ids=true) (hp:pre w0.na 0 ids=true) (ht:tmVia ids σ'.ob.length σ.tm σ'.tm) (ho:obVia ids σ'.ob.length σ.ob ids σ'.ob) : ∃ (hv':Hv) (F':Nat→List Nat),Rel w0 σ' hv' S F' a w∧hv'.B=hv.B∧∀ i j,rnO ids i=some j→hv' i=hv j∧F' i=F j:=by
 obtain ⟨hl,hob⟩:=obVia_get ho
 obtain ⟨hp1,hp2⟩:=pre_spec hp
 refine hr.via (σ':=σ') (rnO ids) hn (fun t=>(tmVia_get ht t).2) (fun t=>(tmVia_get ht t).1)
  (fun i o' hi=>?_) (fun i i' j hi hi' h1 h2=>distinct_spec hd i i' j (rnO_some h1) (rnO_some h2)) (fun i o' hi=>?_) (fun i hi=>by simp [rnO,hp2 i hi]) (by omega)
 ·obtain ⟨k,h1,h2⟩:=hob i o' hi
  have : rnO ids i=k:=by simp [rnO,h1]
  rw [this]
  cases k with
  | some j =>
    simp only [obVia1] at h2
    split at h2
    ·rename_i o ho
     exact .inr ⟨o,ho,h2.2⟩
    ·cases h2
  | none => exact h2
 ·obtain ⟨k,h1,h2⟩:=hob i o' hi
  cases k with
  | some j =>
    simp only [obVia1] at h2
    split at h2
    ·exact h2.1
    ·cases h2
  | none =>
    simp only [obVia1] at h2
    cases o'<;>first | rfl | (simp [Ob.empty] at h2)
theorem pre_le : ∀ {M N k:Nat} {ids:List (Option Nat)},M≤N→pre N k ids=true→pre M k ids=true
 | 0, _, _, _, _, _ => rfl
 | M + 1, 0, _, _, h, _ => by omega
 | M + 1, N + 1, k, [], _, h => by simp [pre] at h
 | M + 1, N + 1, k, i :: ids, hle, h => by
   simp only [pre,Bool.and_eq_true] at h ⊢
   exact ⟨h.1,pre_le (by omega) h.2⟩
theorem Keep.wk {N:Nat} {ids:List (Option Nat)} {σ σ':St} (h:Keep N ids σ σ') : Wk N σ σ':=by
 obtain ⟨hn,hd,hp,ht,ho⟩:=h
 intro w0 hv S F a w hN hr
 obtain ⟨hv',F',hr',_⟩:=hr.keep hn hd (pre_le hN hp) ht ho
 exact ⟨hv',S,F',hr'⟩
end
end Go.Proofs.YtmgdkkhnjkepiaaGreat.BX
namespace Go.Proofs.YtmgdkkhnjkepiaaGreat.BX
open Nat renaming reduceEqDiff → zA, reduceLT → zB, reduceLeDiff → zC, reduceAdd → zD, reduceMul → zE, reduceSub → zF, reduceBEq → zG
set_option linter.unusedSectionVars false
set_option linter.unusedSimpArgs false
set_option linter.unusedVariables false
open Go Go.RowKit
variable [Bd]
mutual
def freshAV : AV→Bool
 | .t y => y.flat
 | .sr _ | .mr _ | .rf _ _ | .ns | .ud => true
 | .ag cs => freshAVs cs
 | .tp cs => freshAVs cs
 | .fn _ cs => freshAVs cs
 | _ => false
def freshAVs : List AV→Bool
 | [] => true
 | x :: xs => freshAV x && freshAVs xs
end
def Ob.fresh : Ob→Bool
 | .dead => true
 | .box x => freshAV x
 | .arr _ _ (.own _) _ => true
 | .map _ _ (.own _) _ _ _ => true
 | _ => false
def freshOb : List Ob→Bool
 | [] => true
 | o :: os => o.fresh && freshOb os
def obsNoBw : List Ob→Bool
 | [] => true
 | o :: os => o.noBw && obsNoBw os
theorem obsNoBw_get : ∀ {os:List Ob},obsNoBw os=true → ∀ {i:Nat} {o:Ob},os[i]? = some o→o.noBw=true
 | [], _, i, o, h => by simp at h
 | o' :: os, hf, i, o, h => by
   simp only [obsNoBw,Bool.and_eq_true] at hf
   cases i with
   | zero => simp only [List.getElem?_cons_zero,Option.some.injEq] at h; subst h; exact hf.1
   | succ i => exact obsNoBw_get hf.2 (by simpa using h)
theorem freshOb_get : ∀ {os:List Ob},freshOb os=true → ∀ {i:Nat} {o:Ob},os[i]? = some o→o.fresh=true
 | [], _, i, o, h => by simp at h
 | o' :: os, hf, i, o, h => by
   simp only [freshOb,Bool.and_eq_true] at hf
   cases i with
   | zero => simp only [List.getElem?_cons_zero,Option.some.injEq] at h; subst h; exact hf.1
   | succ i => exact freshOb_get hf.2 (by simpa using h)
def CallV (P:Program) (g:FuncId) (ts:List T) (sh:Bool) (K:T→Prop) : Prop:=∃ x obs r ids,Con P g ts x obs∧x.take obs 5=some (r,ids)∧nodupB ids=true∧(sh=true ∨ r.flat=true)∧K r
theorem CallV.of {P:Program} {g:FuncId} {ts:List T} {x:AV} {obs:List Ob} {sh:Bool} {K:T→Prop} {r:T} {ids:List Nat} (h:Con P g ts x obs) (h1:x.take obs 5=some (r,ids)) (h2:nodupB ids=true) (h3:sh=true ∨ r.flat=true) (k:K r) : CallV P g ts sh K:=⟨x,obs,r,ids,h,h1,h2,h3,k⟩
theorem CallV.t {P:Program} {g:FuncId} {ts:List T} {sh:Bool} {K:T→Prop} {r:T} (h:Con P g ts (.t r) []) (h3:sh=true ∨ r.flat=true) (k:K r) : CallV P g ts sh K:=⟨.t r,[],r,[],h,by simp [AV.take],rfl,h3,k⟩
@[congr] theorem CallV_congr {P:Program} {g:FuncId} {ts ts':List T} {sh sh':Bool} {K:T→Prop} (h1:tick ts=ts') (h2:sh=sh') : CallV P g ts sh K=CallV P g ts' sh' K:=by unfold tick at h1; rw [h1,h2]
def ConN (P:Program) (f:FuncId) (xs:List AV) (obs:List Ob) {ι:Type} (I:ι→Prop) (x:AV) (obs':ι→List Ob) : Prop:=hasBody P f ∧
 ∀ (w:World) (L M:Nat→Prop) (vs:List Value) (hv:Hv) (S:Nat→Prop) (F:Nat→List Nat),
   Rel ⟨w,L,M,obs.length,hv.v⟩ ⟨xs.length,numA 0 xs,obs⟩ hv S F ⟨vs.toArray,[]⟩ w →
   Calls P f vs.toArray w fun e w'=>∃ i,I i∧∃ (v:Value) (hv':Hv) (S':Nat→Prop) (F':Nat→List Nat) (L':List Nat),e = .returned v∧Rel ⟨w,L,M,obs.length,hv.v⟩ ⟨0,[],obs' i⟩ hv' S' F' ⟨#[],[]⟩ w' ∧ footA hv' w' x v L' ∧ (∀ b∈L',S' b)∧x.under (obs' i).length=true
theorem ConM.any {P:Program} {f:FuncId} {xs:List AV} {obs obs':List Ob} {x:AV} (h:ConM P f xs obs x obs') : ConN P f xs obs (fun _:Unit=>True) x (fun _=>obs') :=
 ⟨h.1,fun w L M vs hv S F hr=>(h.2 w L M vs hv S F hr).mono fun _ _ hh=>⟨(),trivial,hh⟩⟩
inductive Callx (P:Program) (g:FuncId) (ys:List AV) (ts:Option (List T)) (sh nb:Bool) (ob:List Ob) (K:AV→List Ob→Prop) : Prop
 | closed {ts':List T} {x:AV} {obs:List Ob} (h:Con P g ts' x obs) (hts:ts=some ts') (hb:(x.noBw && obsNoBw obs)=true) (hs:sh=true ∨ (freshAV x=true∧freshOb obs=true)) (k:K (x.ren (ob.length + ·)) (ob ++ obs.map (Ob.ren (ob.length + ·))))
 | hand (ids : List Nat) {xs : List AV} {obs : List Ob} {x : AV} {obs' : List Ob} (h : ConM P g xs obs x obs') (hn : nodupB ids = true) (hxs : vias (fun k => ids[k]?) xs ys) (hx:(noBws xs && obsNoBw obs)=true) (hu:unders obs.length xs=true)
  (hob:obVia (ids.map some) obs.length ob (ids.map some) obs) (hb:(x.noBw && obsNoBw obs')=true)
  (hnb:(∀ i∈ids,∀ o,ob[i]? = some o→o.owns=false) ∨ (nb=true∧obNoBw ids 0 ob=true)) (k:K (x.ren (rn ids ob.length)) (behind ids obs' ob))
 | any {ι : Type} (I : ι → Prop) (ids : List Nat) {xs : List AV} {obs : List Ob} {x : AV} {obs' : ι → List Ob} (h : ConN P g xs obs I x obs') (hn : nodupB ids = true) (hxs : vias (fun k => ids[k]?) xs ys) (hx:(noBws xs && obsNoBw obs)=true) (hu:unders obs.length xs=true)
  (hob:obVia (ids.map some) obs.length ob (ids.map some) obs) (hb:∀ i,(x.noBw && obsNoBw (obs' i))=true)
  (hnb:(∀ i∈ids,∀ o,ob[i]? = some o→o.owns=false) ∨ (nb=true∧obNoBw ids 0 ob=true)) (k:∀ i,I i→K (x.ren (rn ids ob.length)) (behind ids (obs' i) ob))
@[congr] theorem Callx_congr {P:Program} {g:FuncId} {ys ys':List AV} {ts ts':Option (List T)} {sh sh' nb nb':Bool} {ob ob':List Ob} {K:AV→List Ob→Prop} (h1:tick ys=ys') (h2:ts=ts') (h3:sh=sh') (h4:nb=nb') (h5:ob=ob') : Callx P g ys ts sh nb ob K=Callx P g ys' ts' sh' nb' ob' K:=by unfold tick at h1; rw [h1,h2,h3,h4,h5]
def vcCall (P:Program) (f:AV) (xs:List AV) (ob:List Ob) (K:AV→Prop) : Prop :=
 match calleeOf xs.isEmpty f with
 | some (g, caps) => match seesW (AV.see ob 5) (xs ++ caps) with
   | some ts => CallV P g ts (shuts (xs ++ caps)).isSome fun r=>K (.t r)
   | none => False
 | none => False
def vcCallO (P:Program) (f:AV) (xs:List AV) (tm:List (Nat × AV)) (ob:List Ob) (K:AV→List Ob→Prop) : Prop :=
 match calleeOf xs.isEmpty f with
 | some (g, caps) => Callx P g (xs ++ caps) (seesW (AV.see ob 5) (xs ++ caps)) (shuts (xs ++ caps)).isSome (tmNoBw tm) ob K
 | none => False
section
variable {P:Program} {Q:Exit→Act→World→Prop} {w0:Base} {σ:St} {hv:Hv} {S:Nat→Prop} {F:Nat→List Nat} {a:Act} {w:World}
 {K:AV→List Ob→Prop} {next:Value→World→Prop} {ob:List Ob}
def RootsIn (ob:List Ob) (hv:Hv) (w:World) : Prop:=∀ (id:Nat) (o:Ob),ob[id]? = some o→o ≠ .dead → ∀ b,blkOf (hv id)=some b→b < w.heap.size
theorem Rel.rootsIn (hr:Rel w0 σ hv S F a w) : RootsIn σ.ob hv w:=fun id o h hd b hb=>(hr.root id o h hd b hb).2.1
theorem seesW_sound {f:AV→Option T} (hf:∀ (x:AV) (y:T) (v:Value) (L:List Nat),f x=some y→footA hv w x v L→(∀ b∈L,S b) → ∃ L',footT w y v L' ∧ ∀ b∈L',b < w.heap.size) :
 ∀ (xs:List AV) (ys:List T) (vs:List Value) (L:List Nat),seesW f xs=some ys→footAs hv w xs vs L→(∀ b∈L,S b) → ∃ L',footTs w ys vs L' ∧ ∀ b∈L',b < w.heap.size
 | [], ys, vs, L, h, hx, hL => by
   simp only [seesW,Option.some.injEq] at h
   subst h
   simp only [footAs] at hx
   exact ⟨[],by simp [footTs,hx.1],by simp⟩
 | x :: xs, ys, vs, L, h, hx, hL => by
   simp only [seesW] at h
   split at h
   ·rename_i y hy
    simp only [Option.map_eq_some_iff] at h
    obtain ⟨zs,h1,rfl⟩:=h
    simp only [footAs] at hx
    obtain ⟨v,vs',L1,L2,rfl,rfl,f1,f2⟩:=hx
    obtain ⟨M1,g1,g2⟩:=hf x y v L1 hy f1 (fun b hb=>hL b (List.mem_append_left _ hb))
    obtain ⟨M2,g3,g4⟩:=seesW_sound hf xs zs vs' L2 h1 f2 (fun b hb=>hL b (List.mem_append_right _ hb))
    exact ⟨M1 ++ M2,by simp only [footTs]; exact ⟨v,vs',M1,M2,rfl,rfl,g1,g3⟩,fun b hb=>(List.mem_append.1 hb).elim (g2 b) (g4 b)⟩
   ·cases h
theorem part_foot {e:TypeId} {m a l c c' b:Nat} {v:Value} {es:List T} {vs:List Value} {L:List Nat} (k1:w.ownsRow 0 e m v es.length (cellsL vs)) (q1:v = .slice (some ⟨b,0,none⟩) es.length c) (g1:footTs w es vs L) (k3:∀ v∈vs,v.cells.size=m) (k4:es.length < Bd.B∧ones (cellsL vs)) (q3:a + l≤es.length) (q4:l≤c') :
 ∃ L',footT w (.sl ((es.drop a).take l)) (.slice (some ⟨b,a * m,none⟩) l c') L' ∧ ∀ x∈L',x∈b :: L:=by
 obtain ⟨L2,g3,g4⟩:=footTs_drop g1 a
 obtain ⟨L1,g5,g6⟩:=footTs_take g3 l
 have hlen : ((es.drop a).take l).length=l:=by rw [List.length_take,List.length_drop]; omega
 refine ⟨b :: L1,?_,fun x hx=>?_⟩
 ·simp only [footT,hlen]
  refine ⟨_,_,rfl,q4,by omega,.inr ⟨b,a * m,_,L1,m,rfl,g5,fun v hv=>k3 v (List.mem_of_mem_drop (List.mem_of_mem_take hv)),rfl,?_,?_⟩⟩
  ·intro j v hj
   rw [cellsL_take _ (fun v hv=>k3 v (List.mem_of_mem_drop hv)),cellsL_drop _ k3,List.getElem?_take] at hj
   split at hj
   ·rw [List.getElem?_drop] at hj
    have:=ownsRow_laid k1 q1 _ v hj
    rwa [Nat.zero_add] at this
   ·cases hj
  ·rw [cellsL_take _ (fun v hv=>k3 v (List.mem_of_mem_drop hv)),cellsL_drop _ k3]
   exact fun u hu=>k4.2 u (List.mem_of_mem_drop (List.mem_of_mem_take hu))
 ·rcases List.mem_cons.1 hx with rfl | hx
  ·exact List.mem_cons_self ..
  ·exact List.mem_cons_of_mem _ (g4 _ (g6 _ hx))
theorem see_sound (hob:Obs ob hv S F w) (hB:∀ b,hv.B b→b < w.heap.size) (hR:RootsIn ob hv w) : ∀ (n:Nat) (x:AV) (y:T) (v:Value) (L:List Nat),x.see ob n=some y→footA hv w x v L→(∀ b∈L,S b) →
 ∃ L',footT w y v L' ∧ ∀ b∈L',b < w.heap.size
 | 0, _, _, _, _, h, _, _ => by simp [AV.see] at h
 | n + 1, x, y, v, L, h, hx, hL => by
   have ih:=seesW_sound (S:=S) (f:=AV.see ob n) (fun x y v L=>see_sound hob hB hR n x y v L)
   have inB : ∀ {k:Kind} {b:Nat},k.reads hv S b→b < w.heap.size:=fun {k} {b} h=>by cases k<;>first | exact hB b h | exact hB b (hob.SB b h)
   simp only [AV.see] at h
   split at h
   ·simp only [Option.some.injEq] at h; subst h; simp only [footA] at hx; exact ⟨L,hx,fun b hb=>hB b (hob.SB b (hL b hb))⟩
   ·simp only [Option.some.injEq] at h; subst h; simp only [footA] at hx
    obtain ⟨⟨L',h1,h2⟩,_⟩:=hx
    exact ⟨L',h1,fun b hb=>hB b (h2 b hb)⟩
   ·simp only [Option.some.injEq] at h; subst h
    exact ⟨[],ns_foot hx,by simp⟩
   ·rename_i id
    split at h
    ·rename_i e m k es hid
     simp only [Option.some.injEq] at h; subst h
     simp only [footA] at hx
     obtain ⟨rfl,_⟩:=hx
     obtain ⟨vs,k1,k2,k3,k4⟩:=hob.ob id _ hid
     obtain ⟨L1,g1,g2⟩:=elsR_foot k2 (fun hk b hb=>hob.own id _ hid (by cases k<;>first | rfl | cases hk) b hb)
     obtain ⟨L',f1,f2⟩:=row_foot k1 g1 k3 k4
     refine ⟨L',f1,fun b hb=>?_⟩
     rcases f2 with rfl | ⟨g,hg,rfl⟩
     ·cases hb
     ·rcases List.mem_cons.1 hb with rfl | hb
      ·exact hR id _ hid (by simp) _ hg
      ·exact inB (g2 b hb)
    ·cases h
   ·rename_i id a m l
    split at h
    ·rename_i e m' k es hid
     split at h
     ·rename_i hm
      subst hm
      simp only [Option.some.injEq] at h; subst h
      simp only [footA] at hx
      obtain ⟨vs,k1,k2,k3,k4⟩:=hob.ob id _ hid
      obtain ⟨L1,g1,g2⟩:=elsR_foot k2 (fun hk b hb=>hob.own id _ hid (by cases k<;>first | rfl | cases hk) b hb)
      rcases hx.1 with ⟨rfl,A,c,rfl⟩ | ⟨b,n,c,c',q1,rfl,q3,q4⟩
      ·exact ⟨[],by simp only [footT,List.take_zero,List.length_nil]; exact ⟨A,c,rfl,Nat.zero_le _,by have:=Bd.lo; omega,.inl ⟨trivial,trivial⟩⟩,by simp⟩
      ·have hn : n=es.length:=by
        rcases k1.2 with ⟨q,_⟩ | ⟨_,_,_,q,_⟩<;>rw [q1] at q<;>cases q
        rfl
       subst hn
       obtain ⟨L',f1,f2⟩:=part_foot k1 q1 g1 k3 k4 q3 q4
       refine ⟨L',f1,fun b' hb'=>?_⟩
       rcases List.mem_cons.1 (f2 b' hb') with rfl | hb'
       ·exact hR id _ hid (by simp) _ (by rw [q1]; rfl)
       ·exact inB (g2 _ hb')
     ·cases h
    ·cases h
   ·rename_i id
    split at h
    ·rename_i kt vt k ks vs p hid
     simp only [Option.some.injEq] at h; subst h
     simp only [footA] at hx
     obtain ⟨rfl,_⟩:=hx
     obtain ⟨r,es,clock,l,k1,k2,k3,k4⟩:=hob.ob id _ hid
     obtain ⟨L1,g1,g2⟩:=elsR_foot k2 (fun hk b hb=>hob.own id _ hid (by cases k<;>first | rfl | cases hk) b hb)
     refine ⟨r :: ([] ++ L1),?_,fun b hb=>?_⟩
     ·simp only [footT]
      exact ⟨r,es,clock,l,[],L1,k1.val,k1.heap,⟨k1.perm,k1.born,k1.lt,k1.nodup,k1.small⟩,k1.keys,g1,rfl⟩
     ·rcases List.mem_cons.1 hb with rfl | hb
      ·exact hR id _ hid (by simp) _ (by rw [k1.val]; rfl)
      ·exact inB (g2 b (by simpa using hb))
    ·cases h
   ·rename_i id off
    split at h
    ·rename_i z hid
     split at h
     ·simp only [Option.map_eq_some_iff] at h
      obtain ⟨zt,hz,rfl⟩:=h
      simp only [footA] at hx
      obtain ⟨b,e1,rfl,_⟩:=hx
      obtain ⟨b',te,u,L1,k1,k2,k3,k4⟩:=hob.ob id _ hid
      rw [e1] at k1
      cases k1
      obtain ⟨L',f1,f2⟩:=see_sound hob hB hR n z zt u L1 hz k3 k4
      refine ⟨b :: L',by simp only [footT]; exact ⟨b,0,u,L',by rw [Nat.zero_add],f1,rfl,laid_of_heap k2⟩,fun b' hb'=>?_⟩
      rcases List.mem_cons.1 hb' with rfl | hb'
      ·exact hR id _ hid (by simp) _ (by rw [e1]; rfl)
      ·exact f2 b' hb'
     ·cases h
    ·cases h
   ·simp only [Option.map_eq_some_iff] at h
    obtain ⟨zs,hz,rfl⟩:=h
    simp only [footA] at hx
    obtain ⟨vs,rfl,hx⟩:=hx
    obtain ⟨L',f1,f2⟩:=ih _ zs vs L hz hx hL
    exact ⟨L',by simp only [footT]; exact ⟨vs,rfl,f1⟩,f2⟩
   ·simp only [Option.map_eq_some_iff] at h
    obtain ⟨zs,hz,rfl⟩:=h
    simp only [footA] at hx
    obtain ⟨vs,rfl,hx⟩:=hx
    obtain ⟨L',f1,f2⟩:=ih _ zs vs L hz hx hL
    exact ⟨L',by simp only [footT]; exact ⟨vs,rfl,f1⟩,f2⟩
   ·simp only [Option.map_eq_some_iff] at h
    obtain ⟨zs,hz,rfl⟩:=h
    simp only [footA] at hx
    obtain ⟨vs,rfl,hx⟩:=hx
    obtain ⟨L',f1,f2⟩:=ih _ zs vs L hz hx hL
    exact ⟨L',by simp only [footT]; exact ⟨vs,rfl,f1⟩,f2⟩
   ·cases h
def CallsTo (P:Program) (ob:List Ob) (e:Operand→AV) (o:Oper) (r:T) : Prop :=
 ∀ {hv:Hv} {S:Nat→Prop} {F:Nat→List Nat} {w:World} {ρ:Operand→Value},Obs ob hv S F w→(∀ b,hv.B b→b < w.heap.size)→RootsIn ob hv w→(∀ y∈o.op.operands,Arg hv S w ob.length (e y) (ρ y)) →
   ∃ f args,(execOp ρ o).run P w = .ok (.enter f args) w∧Calls P f args w fun en w'=>∃ v L',en = .returned v∧footT w' r v L' ∧ (∀ b∈L',S b ∨ (w.heap.size≤b∧b < w'.heap.size))∧Grew w w'
theorem args_foots {n:Nat} {e:Operand→AV} {ρ:Operand→Value} : ∀ (xs:List Operand),(∀ y∈xs,Arg hv S w n (e y) (ρ y)) → ∃ L,footAs hv w (xs.map e) (xs.map ρ) L∧∀ b∈L,S b
 | [], _ => ⟨[],by simp [footAs],by simp⟩
 | x :: xs, h => by
   obtain ⟨⟨L1,h1,h2⟩,_⟩:=h x (List.mem_cons_self ..)
   obtain ⟨L2,h3,h4⟩:=args_foots xs (fun y hy=>h y (List.mem_cons_of_mem _ hy))
   exact ⟨L1 ++ L2,by simp only [List.map_cons,footAs]; exact ⟨_,_,L1,L2,rfl,rfl,h1,h3⟩,fun b hb=>(List.mem_append.1 hb).elim (h2 b) (h4 b)⟩
theorem start_get (vs:List Value) (L:List Nat) {xs:List AV} (hf:footAs hv w xs vs L) (t:Nat) : ∃ L',footA hv w (getL (numA 0 xs) t) (vs.toArray.getD t undef) L' ∧ ∀ b∈L',b∈L:=by
 rw [numA_get,if_pos (Nat.zero_le _),Nat.sub_zero]
 cases hx : xs[t]? with
 | none => exact ⟨[],by simp [footA],by simp⟩
 | some x =>
   obtain ⟨v,L',h1,h2,h3⟩:=footAs_get hf hx
   refine ⟨L',?_,h3⟩
   have : vs.toArray.getD t undef=v:=by simp [Array.getD_eq_getD_getElem?,h1]
   rw [this]; exact h2
theorem Con.run {f:FuncId} {ts:List T} {x:AV} {obs:List Ob} (h:Con P f ts x obs) {w:World} {vs:List Value} {La:List Nat} (hf:footTs w ts vs La) (hL:∀ b∈La,b < w.heap.size) (M:Nat→Prop) :
 Calls P f vs.toArray w fun e w'=>∃ (v:Value) (hv:Hv) (S:Nat→Prop) (F:Nat→List Nat) (L':List Nat),e = .returned v∧Rel ⟨w,(· ∈ La),M,0,fun _=>.bool true⟩ ⟨0,[],obs⟩ hv S F ⟨#[],[]⟩ w' ∧ footA hv w' x v L' ∧ (∀ b∈L',S b)∧x.under obs.length=true:=by
 have hlen:=footTs_length hf
 have hfa : footAs ⟨fun _=>.bool true,(· ∈ La)⟩ w (ts.map .t) vs La:=footAs_t hf
 exact h.2 w (· ∈ La) M vs ⟨fun _=>.bool true,(· ∈ La)⟩ (· ∈ La) (fun _=>[])
  {size:=by simp [hlen],defs:=rfl,tm:=fun t=>start_get vs La hfa t,utm:=fun t=>by
    rw [numA_get,if_pos (Nat.zero_le _)]
    cases hx : (ts.map AV.t)[t - 0]? with
    | none => rfl
    | some x =>
      rw [List.getElem?_map,Option.map_eq_some_iff] at hx
      obtain ⟨y,_,rfl⟩:=hx
      rfl
   ob:=by simp,uob:=by simp,root:=by simp,sep:=by simp,SB:=fun b hb=>hb,Blt:=hL,Bin:=fun b hb=>.inl hb,fown:=by simp,fsep:=by simp,below:=But.refl _ _ _,one:=fun _=>rfl,an:=Nat.zero_le _,av:=fun i hi=>by cases hi }
theorem args_ready {ρ:Operand→Value} {e:Operand→AV} {o:Oper} {c:Call} {f:Operand} {g:FuncId} {caps:List AV} (ho:o.op = .call c) (hc:c.callee = .value f) (hg:calleeOf (c.args.toList.map e).isEmpty (e f)=some (g,caps)) (hbody:hasBody P g)
 (hob:Obs ob hv S F w) (harg:∀ y∈o.op.operands,Arg hv S w ob.length (e y) (ρ y)) :
 ∃ args,(execOp ρ o).run P w = .ok (.enter g args) w∧∃ L',footAs hv w (c.args.toList.map e ++ caps) args.toList L' ∧ (∀ b∈L',S b)∧unders ob.length (c.args.toList.map e ++ caps)=true:=by
 have hmem : ∀ y∈c.args.toList,y∈o.op.operands:=fun y hy=>by rw [ho]; simp only [Op.operands,Call.operands,hc]; exact Array.mem_append.2 (.inr (by simpa using hy))
 have hfm : f∈o.op.operands:=by rw [ho]; simp only [Op.operands,Call.operands,hc]; exact Array.mem_append.2 (.inl (by simp))
 obtain ⟨L1,f1,f2⟩:=args_foots (n:=ob.length) c.args.toList (fun y hy=>harg y (hmem y hy))
 obtain ⟨⟨Lf,ff,hLf⟩,huf⟩:=harg f hfm
 obtain ⟨vcaps,L2,e1,f3,f4,f5⟩ : ∃ vcaps L2,(ρ f = .func (.func g) #[] vcaps ∨ (c.args.toList=[]∧ρ f = .func (.func g) vcaps #[]))∧footAs hv w caps vcaps.toList L2∧(∀ b∈L2,S b)∧unders ob.length caps=true:=by
  have fin : ∀ {f':FuncId} {cs:List AV} {vs:List Value} {L2:List Nat},calleeI (c.args.toList.map e).isEmpty f' cs=some (g,caps)→ρ f=fnVal f' vs.toArray→footAs hv w cs vs L2→(∀ b∈L2,S b)→unders ob.length cs=true → ∃ vcaps L2,(ρ f = .func (.func g) #[] vcaps ∨ (c.args.toList=[]∧ρ f = .func (.func g) vcaps #[]))∧footAs hv w caps vcaps.toList L2∧(∀ b∈L2,S b)∧unders ob.length caps=true:=by
   intro f' cs vs L2 hg e1 f3 f4 f5
   unfold calleeI at hg
   split at hg
   ·rename_i hlt
    simp only [Option.some.injEq,Prod.mk.injEq] at hg
    obtain ⟨rfl,rfl⟩:=hg
    exact ⟨_,L2,.inl (by rw [e1,fnVal_lo hlt]),by simpa using f3,f4,f5⟩
   ·rename_i hlt
    split at hg
    ·rename_i hn
     simp only [Option.some.injEq,Prod.mk.injEq] at hg
     obtain ⟨rfl,rfl⟩:=hg
     exact ⟨_,L2,.inr ⟨by simpa using hn,by rw [e1,fnVal_hi hlt]⟩,by simpa using f3,f4,f5⟩
    ·cases hg
  unfold calleeOf at hg
  split at hg
  ·rename_i f' cs hf'
   rw [hf'] at ff huf
   simp only [footA] at ff
   simp only [AV.under] at huf
   obtain ⟨vs,e1,f3⟩:=ff
   exact fin hg e1 f3 hLf huf
  ·rename_i f' cs hf'
   rw [hf'] at ff
   simp only [footA,footT] at ff
   obtain ⟨vs,e1,f3⟩:=ff
   exact fin hg e1 (footAs_t f3) hLf (unders_of (fun x hx=>by simp only [List.mem_map] at hx; obtain ⟨y,_,rfl⟩:=hx; rfl))
  ·rename_i f' cs hf'
   rw [hf'] at ff
   simp only [footA,footT] at ff
   obtain ⟨⟨L0,⟨vs,e1,f3⟩,hB⟩,_⟩:=ff
   have conv : ∀ (xs:List T) (vs:List Value) (L:List Nat),footTs w xs vs L→(∀ b∈L,hv.B b)→footAs hv w (xs.map .bw) vs []:=by
    intro xs
    induction xs with
    | nil => intro vs L h _; simp only [footTs] at h; simp only [List.map_nil,footAs]; exact ⟨h.1,trivial⟩
    | cons x xs ih =>
      intro vs L h hL
      simp only [footTs] at h
      obtain ⟨v,vs',M1,M2,rfl,rfl,g1,g2⟩:=h
      simp only [List.map_cons,footAs]
      exact ⟨v,vs',[],[],rfl,rfl,by simp only [footA]; exact ⟨⟨M1,g1,fun b hb=>hL b (List.mem_append_left _ hb)⟩,trivial⟩,ih _ _ g2 (fun b hb=>hL b (List.mem_append_right _ hb))⟩
   exact fin hg e1 (conv _ _ _ f3 hB) (by simp) (unders_of (fun x hx=>by simp only [List.mem_map] at hx; obtain ⟨y,_,rfl⟩:=hx; rfl))
  ·cases hg
 have fall:=footAs_append f1 f3
 have hLS : ∀ b∈L1 ++ L2,S b:=fun b hb=>(List.mem_append.1 hb).elim (f2 b) (f4 b)
 obtain ⟨fn,hfn1,hfn2,hfn3⟩:=hbody
 refine ⟨(c.args.map ρ) ++ vcaps,?_,L1 ++ L2,by simpa using fall,hLS,unders_of fun x hx=>?_⟩
 ·have hb : fn.body≠none:=by rintro hh; simp [hh] at hfn2
  have hnm : fn.name ≠ "runtime.NumGoroutine":=by rintro hh; simp [hh] at hfn3
  rcases e1 with e1 | ⟨e0,e1⟩
  ·simp only [execOp,ho,resolve,hc,Deferred.ofValue,e1,Sem.run_bind]
   simp [invoke,callFunc,hfn1,hnm,hb]
  ·have e0 : c.args = #[]:=Array.toList_eq_nil_iff.1 e0
   simp only [execOp,ho,resolve,hc,Deferred.ofValue,e1,Sem.run_bind]
   simp [invoke,callFunc,hfn1,hnm,hb,e0]
 ·rcases List.mem_append.1 hx with hx | hx
  ·simp only [List.mem_map] at hx
   obtain ⟨y,hy,rfl⟩:=hx
   exact (harg y (hmem y hy)).2
  ·exact unders_mem f5 hx
theorem args_seen {xs:List AV} {vs:List Value} {L:List Nat} {ts:List T} (hob:Obs ob hv S F w) (hB:∀ b,hv.B b→b < w.heap.size) (hR:RootsIn ob hv w) (hf:footAs hv w xs vs L) (hL:∀ b∈L,S b) (hts:seesW (AV.see ob 5) xs=some ts) :
 ∃ La,footTs w ts vs La∧(∀ b∈La,b < w.heap.size)∧((shuts xs).isSome=true → ∀ b∈La,S b):=by
 cases hsh : shuts xs with
 | none =>
   obtain ⟨L',g1,g2⟩:=seesW_sound (S:=S) (fun x y v L=>see_sound hob hB hR 5 x y v L) _ _ _ _ hts hf hL
   exact ⟨L',g1,g2,by simp⟩
 | some ts' =>
   have g1:=shuts_sound _ hsh hf
   have same : ∀ (n:Nat) (x:AV) (y z:T),x.shut=some y→x.see ob n=some z→y=z:=by
    have lst : ∀ (n:Nat),(∀ (x:AV) (y z:T),x.shut=some y→x.see ob n=some z→y=z) → ∀ (xs:List AV) {ys zs:List T},shuts xs=some ys→seesW (AV.see ob n) xs=some zs→ys=zs:=by
     intro n ih xs
     induction xs with
     | nil => intro ys zs h1 h2; simp only [shuts,seesW,Option.some.injEq] at h1 h2; rw [← h1,← h2]
     | cons x xs ihx =>
       intro ys zs h1 h2
       simp only [shuts] at h1
       simp only [seesW] at h2
       split at h1
       ·rename_i y hy
        split at h2
        ·rename_i z hz
         simp only [Option.map_eq_some_iff] at h1 h2
         obtain ⟨y1,p1,rfl⟩:=h1
         obtain ⟨z1,p2,rfl⟩:=h2
         rw [ih x y z hy hz,ihx p1 p2]
        ·cases h2
       ·cases h1
    intro n
    induction n with
    | zero => intro x y z _ h2; simp [AV.see] at h2
    | succ n ih =>
      intro x y z h1 h2
      have ihs:=fun (xs:List AV) {ys zs:List T}=>lst n ih xs (ys:=ys) (zs:=zs)
      cases x<;>simp only [AV.shut,AV.see] at h1 h2<;>first | (cases h1; done) | skip
      ·simp only [Option.some.injEq] at h1 h2; rw [← h1,← h2]
      ·simp only [Option.some.injEq] at h1 h2; rw [← h1,← h2]
      ·simp only [Option.map_eq_some_iff] at h1 h2
       obtain ⟨y1,p1,rfl⟩:=h1
       obtain ⟨z1,p2,rfl⟩:=h2
       rw [ihs _ p1 p2]
      ·simp only [Option.map_eq_some_iff] at h1 h2
       obtain ⟨y1,p1,rfl⟩:=h1
       obtain ⟨z1,p2,rfl⟩:=h2
       rw [ihs _ p1 p2]
   have : ts'=ts:=by
    clear g1 hf
    induction xs generalizing ts ts' with
    | nil => simp only [shuts,seesW,Option.some.injEq] at hsh hts; rw [← hsh,← hts]
    | cons x xs ihx =>
      simp only [shuts] at hsh
      simp only [seesW] at hts
      split at hsh
      ·rename_i y hy
       split at hts
       ·rename_i z hz
        simp only [Option.map_eq_some_iff] at hsh hts
        obtain ⟨y1,p1,rfl⟩:=hsh
        obtain ⟨z1,p2,rfl⟩:=hts
        rw [same 5 x y z hy hz,ihx p2 _ p1]
       ·cases hts
      ·cases hsh
   subst this
   exact ⟨L,g1,fun b hb=>hB b (hob.SB b (hL b hb)),fun _=>hL⟩
theorem call_sound {e:Operand→AV} {K:AV→Prop} {o:Oper} {c:Call} {f:Operand} (ho:o.op = .call c) (hc:c.callee = .value f) (h:vcCall P (e f) (c.args.toList.map e) ob K) : ∃ r,K (.t r)∧CallsTo P ob e o r:=by
 unfold vcCall at h
 split at h
 case h_2=>cases h
 rename_i g caps hg
 split at h
 case h_2=>cases h
 rename_i ts hts
 obtain ⟨x,obs,r,ids,hcon,htake,hnd,hsh,hK⟩:=h
 refine ⟨r,hK,?_⟩
 intro hv S F w ρ hob hB hR harg
 obtain ⟨args,hrun,L',g1,g2,_⟩:=args_ready ho hc hg hcon.1 hob harg
 obtain ⟨La,k1,k2,k3⟩:=args_seen hob hB hR g1 g2 hts
 refine ⟨g,args,hrun,?_⟩
 have:=hcon.run (vs:=args.toList) k1 k2 (fun _=>False)
 refine this.mono fun en w' hh=>?_
 obtain ⟨v,hv1,S1,F1,L2,rfl,hr1,f1,f2,_⟩:=hh
 have hg : Grew w w':=Grew.of_below (hr1.below.below (fun _ h=>h)) hr1.below.drawn
 obtain ⟨L3,t1,t2⟩:=take_sound hr1 5 x htake f1 f2
 rcases hsh with hsh | hfl
 ·refine ⟨v,L3,rfl,t1,fun b hb=>?_,hg⟩
  have inB : ∀ b,hv1.B b→S b ∨ (w.heap.size≤b∧b < w'.heap.size):=fun b hb=>by
   rcases hr1.Bin b hb with h | h | h
   ·exact .inl (k3 hsh b h)
   ·exact h.elim
   ·exact .inr ⟨h,hr1.Blt b hb⟩
  rcases t2 b hb with h | ⟨i,hi,oo,q1,q2,q3⟩
  ·exact inB b (hr1.SB b h)
  ·rcases q3 with q3 | ⟨q3,q4⟩
   ·obtain ⟨p1,p2,_⟩:=hr1.root i oo q1 q2 b q3
    exact .inr ⟨p1.elim (fun h=>h.elim) (fun h=>h),p2⟩
   ·exact inB b (hr1.fown i oo q1 q3 b q4).2.1
 ·exact ⟨v,[],rfl,(flat_foot r hfl t1).2 w',by simp,hg⟩
def methOf (P:Program) (t:TypeId) (name:String) : Option FuncId :=
 match P.info? t with
 | some i => match i.methods.find? (·.name == name),P.underlying t with
   | some m, some (.struct _) => if m.path.isEmpty=true then match m.func with
     | some (f, false) => some f
     | _ => none
     else none
   | _, _ => none
 | none => none
theorem method_plain {t:TypeId} {v:Value} {name:String} {f:FuncId} (h:methOf P t name=some f) (n:Nat) : (method (n + 1) t v name).run P w = .ok (f,v) w:=by
 unfold methOf at h
 split at h
 ·rename_i i hi
  split at h
  ·rename_i m fs hm hu
   split at h
   ·rename_i hp
    split at h
    ·rename_i f' hf
     cases h
     have hp' : m.path.toList=[]:=by
      have : m.path = #[]:=by simpa [Array.isEmpty_iff] using hp
      rw [this]
     simp [method,typeInfo,hi,hm,hp',follow,hf,receiverAt,run_underlying hu,Place.get]
    ·cases h
   ·cases h
  ·cases h
 ·cases h
theorem inv_ready {ρ:Operand→Value} {e:Operand→AV} {o:Oper} {c:Call} {r:Operand} {name:String} {g:FuncId} {t:TypeId} {x:T} (ho:o.op = .call c) (hc:c.callee = .invoke r name) (hx:e r = .t (.ifc t x)) (hm:methOf P t name=some g) (hbody:hasBody P g)
 (harg:∀ y∈o.op.operands,Arg hv S w ob.length (e y) (ρ y)) :
 ∃ args,(execOp ρ o).run P w = .ok (.enter g args) w∧∃ L',footAs hv w (.t x :: c.args.toList.map e) args.toList L' ∧ (∀ b∈L',S b):=by
 have hmem : ∀ y∈c.args.toList,y∈o.op.operands:=fun y hy=>by rw [ho]; simp only [Op.operands,Call.operands,hc]; exact Array.mem_append.2 (.inr (by simpa using hy))
 have hrm : r∈o.op.operands:=by rw [ho]; simp only [Op.operands,Call.operands,hc]; exact Array.mem_append.2 (.inl (by simp))
 obtain ⟨L1,f1,f2⟩:=args_foots (n:=ob.length) c.args.toList (fun y hy=>harg y (hmem y hy))
 obtain ⟨⟨Lf,ff,hLf⟩,_⟩:=harg r hrm
 rw [hx] at ff
 simp only [footA,footT] at ff
 obtain ⟨u,e1,f3⟩:=ff
 obtain ⟨fn,hfn1,hfn2,hfn3⟩:=hbody
 refine ⟨#[u] ++ c.args.map ρ,?_,Lf ++ L1,?_,fun b hb=>(List.mem_append.1 hb).elim (hLf b) (f2 b)⟩
 ·have hb : fn.body≠none:=by rintro hh; simp [hh] at hfn2
  have hnm : fn.name ≠ "runtime.NumGoroutine":=by rintro hh; simp [hh] at hfn3
  have hmp:=method_plain (P:=P) (w:=w) (v:=u) hm (P.types.size + 99)
  have hd : P.types.size + Made.depth=P.types.size + 99 + 1:=rfl
  simp only [execOp,ho,resolve,hc,Sem.run_bind,Sem.run_pure,Result.andThen_ok]
  have hex : (#[ρ r] ++ Array.map ρ c.args).extract 1 (#[ρ r] ++ Array.map ρ c.args).size=Array.map ρ c.args:=by
   apply Array.ext'
   simp
   exact List.take_of_length_le (by simp)
  have hget : (#[Value.iface t u] ++ Array.map ρ c.args)[0]? = some (Value.iface t u):=by simp [Array.getElem?_append]
  have hcm : (callMethod (.iface t u) name (Array.map ρ c.args)).run P w = .ok (.enter g (#[u] ++ c.args.map ρ)) w:=by
   simp only [callMethod,Sem.run_bind,run_program,Result.andThen_ok,hd,hmp]
   simp [callFunc,hfn1,hnm,hb]
  rw [e1] at hex ⊢
  simp only [invoke]
  rw [hget]
  dsimp only
  rw [hex]
  exact hcm
 ·have e2 : (#[u] ++ c.args.map ρ).toList=u :: c.args.toList.map ρ:=by simp
  rw [e2]
  simp only [footAs]
  exact ⟨u,_,Lf,L1,rfl,rfl,by simpa only [footA] using f3,f1⟩
def vcInv (P:Program) (r:AV) (name:String) (xs:List AV) (ob:List Ob) (K:AV→Prop) : Prop :=
 match r with
 | .t (.ifc t x) => match methOf P t name with
   | some g => match seesW (AV.see ob 5) (.t x :: xs) with
     | some ts => CallV P g ts (shuts (.t x :: xs)).isSome fun r=>K (.t r)
     | none => False
   | none => False
 | _ => False
theorem inv_sound {e:Operand→AV} {K:AV→Prop} {o:Oper} {c:Call} {f:Operand} {name:String} (ho:o.op = .call c) (hc:c.callee = .invoke f name) (h:vcInv P (e f) name (c.args.toList.map e) ob K) : ∃ r,K (.t r)∧CallsTo P ob e o r:=by
 unfold vcInv at h
 split at h
 case h_2=>cases h
 rename_i t x hx
 split at h
 case h_2=>cases h
 rename_i g hg
 split at h
 case h_2=>cases h
 rename_i ts hts
 obtain ⟨x,obs,r,ids,hcon,htake,hnd,hsh,hK⟩:=h
 refine ⟨r,hK,?_⟩
 intro hv S F w ρ hob hB hR harg
 obtain ⟨args,hrun,L',g1,g2⟩:=inv_ready ho hc hx hg hcon.1 harg
 obtain ⟨La,k1,k2,k3⟩:=args_seen hob hB hR g1 g2 hts
 refine ⟨g,args,hrun,?_⟩
 have:=hcon.run (vs:=args.toList) k1 k2 (fun _=>False)
 refine this.mono fun en w' hh=>?_
 obtain ⟨v,hv1,S1,F1,L2,rfl,hr1,f1,f2,_⟩:=hh
 have hg : Grew w w':=Grew.of_below (hr1.below.below (fun _ h=>h)) hr1.below.drawn
 obtain ⟨L3,t1,t2⟩:=take_sound hr1 5 x htake f1 f2
 rcases hsh with hsh | hfl
 ·refine ⟨v,L3,rfl,t1,fun b hb=>?_,hg⟩
  have inB : ∀ b,hv1.B b→S b ∨ (w.heap.size≤b∧b < w'.heap.size):=fun b hb=>by
   rcases hr1.Bin b hb with h | h | h
   ·exact .inl (k3 hsh b h)
   ·exact h.elim
   ·exact .inr ⟨h,hr1.Blt b hb⟩
  rcases t2 b hb with h | ⟨i,hi,oo,q1,q2,q3⟩
  ·exact inB b (hr1.SB b h)
  ·rcases q3 with q3 | ⟨q3,q4⟩
   ·obtain ⟨p1,p2,_⟩:=hr1.root i oo q1 q2 b q3
    exact .inr ⟨p1.elim (fun h=>h.elim) (fun h=>h),p2⟩
   ·exact inB b (hr1.fown i oo q1 q3 b q4).2.1
 ·exact ⟨v,[],rfl,(flat_foot r hfl t1).2 w',by simp,hg⟩
theorem rn_nil {n:Nat} : rn [] n=(n + ·):=by funext k; simp [rn]
theorem behind_nil {obs ob:List Ob} : behind [] obs ob=ob ++ obs.map (Ob.ren (ob.length + ·)):=by simp [behind,placeOb,rn_nil]
mutual
theorem freshAV_foot : ∀ (x:AV),freshAV x=true → ∀ (v:Value) (L:List Nat),footA hv w x v L→footA hv w x v []
 | .t y, h, v, L, hf => by simp only [freshAV] at h; simp only [footA] at hf ⊢; exact (flat_foot _ h hf).2 w
 | .sr _, h, v, L, hf => by simp only [footA] at hf ⊢; exact ⟨hf.1,trivial⟩
 | .mr _, h, v, L, hf => by simp only [footA] at hf ⊢; exact ⟨hf.1,trivial⟩
 | .rf _ _, h, v, L, hf => by simp only [footA] at hf ⊢; obtain ⟨b,h1,h2,_⟩:=hf; exact ⟨b,h1,h2,trivial⟩
 | .ns, h, v, L, hf => by simp only [footA] at hf ⊢; exact ⟨hf.1,trivial⟩
 | .ud, h, v, L, hf => by simp only [footA] at hf ⊢; exact ⟨hf.1,trivial⟩
 | .ag cs, h, v, L, hf => by
   simp only [freshAV] at h
   simp only [footA] at hf ⊢
   obtain ⟨vs,e,hf⟩:=hf
   exact ⟨vs,e,freshAVs_foot cs h vs L hf⟩
 | .tp cs, h, v, L, hf => by
   simp only [freshAV] at h
   simp only [footA] at hf ⊢
   obtain ⟨vs,e,hf⟩:=hf
   exact ⟨vs,e,freshAVs_foot cs h vs L hf⟩
 | .fn f cs, h, v, L, hf => by
   simp only [freshAV] at h
   simp only [footA] at hf ⊢
   obtain ⟨vs,e,hf⟩:=hf
   exact ⟨vs,e,freshAVs_foot cs h vs L hf⟩
 | .un, h, _, _, _ | .bw _, h, _, _, _ | .ra _ _ _ _, h, _, _, _ | .sv _ _ _ _, h, _, _, _ | .it _, h, _, _, _ => by simp [freshAV] at h
theorem freshAVs_foot : ∀ (xs:List AV),freshAVs xs=true → ∀ (vs:List Value) (L:List Nat),footAs hv w xs vs L→footAs hv w xs vs []
 | [], _, vs, L, hf => by simp only [footAs] at hf ⊢; exact ⟨hf.1,trivial⟩
 | x :: xs, h, vs, L, hf => by
   simp only [freshAVs,Bool.and_eq_true] at h
   simp only [footAs] at hf ⊢
   obtain ⟨v,vs',L1,L2,rfl,rfl,h1,h2⟩:=hf
   exact ⟨v,vs',[],[],rfl,rfl,freshAV_foot x h.1 v L1 h1,freshAVs_foot xs h.2 vs' L2 h2⟩
end
theorem fresh_ObR {G:Nat→Prop} {Fi:List Nat} {h:Value} {o:Ob} (hf:o.fresh=true) (ho:ObR hv S w Fi h o) : ObR hv G w Fi h o:=by
 cases o with
 | dead => trivial
 | box x =>
   obtain ⟨b,e,u,L,h1,h2,h3,h4⟩:=ho
   exact ⟨b,e,u,[],h1,h2,freshAV_foot x hf _ _ h3,by simp⟩
 | arr e m k es =>
   cases k<;>first | (simp [Ob.fresh] at hf; done) | skip
   exact ho
 | map kt vt k ks vs p =>
   cases k<;>first | (simp [Ob.fresh] at hf; done) | skip
   exact ho
 | _ => simp [Ob.fresh] at hf
theorem Rel.args (hr:Rel w0 σ hv S F a w) {ys:List AV} {vs:List Value} {L:List Nat} (hf:footAs hv w ys vs L) (hL:∀ b∈L,S b) (hu:unders σ.ob.length ys=true) : Rel w0 ⟨ys.length,numA 0 ys,σ.ob⟩ hv S F ⟨vs.toArray,[]⟩ w :=
 {hr with
  size:=by simp [footAs_length hf]
  defs:=rfl
  tm:=fun t=>by obtain ⟨L',h1,h2⟩:=start_get vs L hf t; exact ⟨L',h1,fun b hb=>hL b (h2 b hb)⟩
  utm:=fun t=>by
   show (getL (numA 0 ys) t).under σ.ob.length=true
   rw [numA_get,if_pos (Nat.zero_le _)]
   cases hx : ys[t - 0]? with
   | none => rfl
   | some x => exact unders_mem hu (List.mem_of_getElem? hx) }
theorem Rel.noArgs (hr:Rel w0 σ hv S F a w) : Rel { w0 with na:=0 } σ hv S F a w :=
 {hr with an:=Nat.zero_le _,av:=fun i hi=>by cases hi }
theorem tmVia_num {r:List (Option Nat)} {n:Nat} {xs ys:List AV} (h:vias (rnO r) xs ys) (hu:unders n xs=true) : tmVia r n (numA 0 ys) (numA 0 xs):=by
 have key : ∀ (xs ys:List AV) (k:Nat) (tm:List (Nat × AV)),vias (rnO r) xs ys→unders n xs=true→(∀ (i:Nat) x,ys[i]? = some x→getL tm (k + i)=x)→tmVia r n tm (numA k xs):=by
  intro xs
  induction xs with
  | nil => intro ys k tm _ _ _; trivial
  | cons x xs ih =>
    intro ys k tm hv hu hg
    simp only [vias] at hv
    split at hv
    ·rename_i y ys'
     simp only [unders,Bool.and_eq_true] at hu
     simp only [numA,tmVia]
     refine ⟨⟨hu.1,?_⟩,ih ys' (k + 1) tm hv.2 hu.2 (fun i x hx=>by rw [show k + 1 + i=k + (i + 1) by omega]; exact hg (i + 1) x (by simpa using hx))⟩
     rw [show getL tm k=y from hg 0 y rfl]
     exact hv.1
    ·cases hv
 refine key xs ys 0 _ h hu (fun i x hx=>?_)
 rw [numA_get,if_pos (Nat.zero_le _),Nat.sub_zero,Nat.zero_add,hx]
theorem rnO_map {ids:List Nat} : rnO (ids.map some)=fun k=>ids[k]?:=by
 funext k
 simp only [rnO,List.getElem?_map]
 cases ids[k]? <;> rfl
theorem distinct_map {ids:List Nat} (h:ids.Nodup) : distinct (ids.map some)=true:=by
 induction ids with
 | nil => rfl
 | cons i ids ih =>
   obtain ⟨h1,h2⟩:=List.nodup_cons.1 h
   simp only [List.map_cons,distinct,ih h2,Bool.and_true,Bool.or_eq_true]
   refine .inr ?_
   simp only [Bool.not_eq_true']
   cases hc : (ids.map some).contains (some i) with
   | false => rfl
   | true =>
     have:=List.contains_iff_mem.1 hc
     simp only [List.mem_map,Option.some.injEq] at this
     obtain ⟨j,hj,rfl⟩:=this
     exact absurd hj h1
theorem handN_sound {o:Oper} {c:Call} {f:Operand} {g:FuncId} {caps:List AV} (ho:o.op = .call c) (hc:c.callee = .value f) (hr:Rel w0 σ hv S F a w) (hg:calleeOf (c.args.toList.map σ.opd).isEmpty (σ.opd f)=some (g,caps)) (hn:Ans w0 σ a K next)
 {ι:Type} {I:ι→Prop} (ids:List Nat) {xs:List AV} {obs:List Ob} {x:AV} {obs':ι→List Ob} (hcon:ConN P g xs obs I x obs') (hnd:nodupB ids=true) (hxs:vias (fun k=>ids[k]?) xs (c.args.toList.map σ.opd ++ caps)) (hx:(noBws xs && obsNoBw obs)=true) (hux:unders obs.length xs=true)
 (hob:obVia (ids.map some) obs.length σ.ob (ids.map some) obs) (hb:∀ i,(x.noBw && obsNoBw (obs' i))=true)
 (hnb:(∀ i∈ids,∀ o,σ.ob[i]? = some o→o.owns=false) ∨ (tmNoBw σ.tm=true∧obNoBw ids 0 σ.ob=true)) (hK:∀ i,I i→K (x.ren (rn ids σ.ob.length)) (behind ids (obs' i) σ.ob)) : Does P Q o a w next:=by
 have hn':=nodupB_spec hnd
 obtain ⟨args,hrun,L',g1,g2,g3⟩:=args_ready ho hc hg hcon.1 hr.obs (fun y _=>hr.arg y)
 simp only [Bool.and_eq_true] at hx
 have hr1:=(hr.args g1 g2 g3).noArgs
 obtain ⟨hlen,hobg⟩:=obVia_get hob
 rw [List.length_map] at hlen
 have hxs' : vias (rnO (ids.map some)) xs (c.args.toList.map σ.opd ++ caps):=by rw [rnO_map]; exact hxs
 obtain ⟨hvC,FC,hrC,hBC,hsame⟩:=hr1.keep (ids:=ids.map some) (σ':=⟨(c.args.toList.map σ.opd ++ caps).length,numA 0 xs,obs⟩) rfl (distinct_map hn') rfl (tmVia_num hxs' hux) hob
 have hsame' : ∀ k i,ids[k]? = some i→hvC k=hv i∧FC k=F i:=fun k i h=>hsame k i (by rw [rnO_map]; exact h)
 have hids : ∀ i∈ids,i < σ.ob.length:=by
  intro i hi
  obtain ⟨k,hk,hki⟩:=List.getElem_of_mem hi
  have hkl : k < obs.length:=by omega
  obtain ⟨j,h1,h2⟩:=hobg k obs[k] (List.getElem?_eq_getElem hkl)
  rw [List.getElem?_map,List.getElem?_eq_getElem hk,Option.map_some,hki,Option.some.injEq] at h1
  subst h1
  simp only [obVia1] at h2
  split at h2
  ·exact get_lt (by assumption)
  ·cases h2
 -- each object of the callee's is one of the caller's
 have back : ∀ (k:Nat) (o:Ob),obs[k]? = some o → ∃ i o',ids[k]? = some i∧i∈ids∧σ.ob[i]? = some o' ∧ o.via (rnO (ids.map some)) o':=by
  intro k o hk
  obtain ⟨j,h1,h2⟩:=hobg k o hk
  rw [List.getElem?_map,Option.map_eq_some_iff] at h1
  obtain ⟨i,hi,rfl⟩:=h1
  simp only [obVia1] at h2
  split at h2
  ·rename_i o' ho'
   exact ⟨i,o',hi,List.mem_of_getElem? hi,ho',h2.2⟩
  ·cases h2
 have live : ∀ {o o':Ob} {r:Nat→Option Nat},o.via r o'→o ≠ .dead→o' ≠ .dead:=by
  rintro o o' r h hd rfl
  cases o<;>simp [Ob.via] at h hd
 -- what the callee may look at
 let BC : Nat→Prop:=fun b=>S b ∨ ∃ k o,obs[k]? = some o∧o.owns=true∧b∈FC k
 have handed : ∀ (k:Nat) (o:Ob),obs[k]? = some o→o ≠ .dead → ∀ b,(blkOf (hvC k)=some b ∨ (o.owns=true∧b∈FC k))→Hand σ.ob hv F ids b:=by
  intro k o hk hd b hb
  obtain ⟨i,o',h1,h2,h3,h4⟩:=back k o hk
  obtain ⟨e1,e2⟩:=hsame' k i h1
  rw [e1,e2] at hb
  exact ⟨i,h2,o',h3,live h4 hd,hb.imp (fun h=>h) (fun h=>⟨via_owns h4 h.1,h.2⟩)⟩
 have htm : ∀ t,(getL (numA 0 xs) t).noBw=true:=by
  intro t
  rw [numA_get,if_pos (Nat.zero_le _)]
  cases hh : xs[t - 0]? with
  | none => rfl
  | some y =>
    have : ∀ (xs:List AV),noBws xs=true → ∀ y∈xs,y.noBw=true:=by
     intro xs
     induction xs with
     | nil => intro _ y hy; cases hy
     | cons z zs ih =>
       intro h y hy
       simp only [noBws,Bool.and_eq_true] at h
       rcases List.mem_cons.1 hy with rfl | hy
       ·exact h.1
       ·exact ih h.2 y hy
    exact this xs hx.1 y (List.mem_of_getElem? hh)
 have hrel : Rel ⟨w,S,Hand σ.ob hv F ids,obs.length,hvC.v⟩ ⟨xs.length,numA 0 xs,obs⟩ ⟨hvC.v,BC⟩ S FC ⟨args.toList.toArray,[]⟩ w:=by
  have hlx : xs.length=(c.args.toList.map σ.opd ++ caps).length:=by
   have : ∀ (xs ys:List AV),vias (rnO (ids.map some)) xs ys→xs.length=ys.length:=by
    intro xs
    induction xs with
    | nil => intro ys h; simp only [vias] at h; simp [h]
    | cons x xs ih =>
      intro ys h
      simp only [vias] at h
      split at h
      ·simp [ih _ h.2]
      ·cases h
   exact this _ _ hxs'
  refine { size:=by rw [hlx]; exact hrC.size,defs:=rfl,tm:=fun t=>?_,utm:=hrC.utm,ob:=fun i o hi=>?_,uob:=hrC.uob,root:=fun i o hi hd b hb=>?_,sep:=hrC.sep,SB:=fun b hb=>.inl hb,Blt:=fun b hb=>?_,Bin:=fun b hb=>?_,fown:=fun i o hi hown b hb=>?_,fsep:=hrC.fsep,below:=But.refl _ _ _,one:=hrC.one,an:=Nat.le_refl _,av:=fun i _=>rfl }
  ·obtain ⟨L,h1,h2⟩:=hrC.tm t
   exact ⟨L,footA_anyB (hv:=hvC) (hv':=⟨hvC.v,BC⟩) (n:=obs.length) (fun _ _=>rfl) _ _ L (htm t) (hrC.utm t) h1,h2⟩
  ·have:=(hrC.ob i o hi).anyB (hv':=⟨hvC.v,BC⟩) (r:=fun i=>i) (obsNoBw_get hx.2 hi) (fun _=>rfl)
   have hid : o.ren (fun i=>i)=o:=by
    cases o<;>simp only [Ob.ren]
    rename_i x
    congr 1
    exact ren_id x
   rwa [hid] at this
  ·obtain ⟨q1,q2,q3⟩:=hrC.root i o hi hd b hb
   refine ⟨.inl (handed i o hi hd b (.inl hb)),q2,fun hh=>?_⟩
   rcases hh with hh | ⟨k,o',h1,h2,h3⟩
   ·exact q3 (hrC.SB b hh)
   ·exact q3 (hrC.fown k o' h1 h2 b h3).2.1
  ·rcases hb with hb | ⟨k,o',h1,h2,h3⟩
   ·exact hr.Slt b hb
   ·exact hrC.Blt b (hrC.fown k o' h1 h2 b h3).2.1
  ·rcases hb with hb | ⟨k,o',h1,h2,h3⟩
   ·exact .inl hb
   ·exact .inr (.inl (handed k o' h1 (owns_ne_dead h2) b (.inr ⟨h2,h3⟩)))
  ·exact ⟨.inl (handed i o hi (owns_ne_dead hown) b (.inr ⟨hown,hb⟩)),.inr ⟨i,o,hi,hown,hb⟩,(hrC.fown i o hi hown b hb).2.2⟩
 unfold Does Oper.wp
 rw [hrun,Oper.upon_enter]
 refine (hcon.2 w S (Hand σ.ob hv F ids) args.toList ⟨hvC.v,BC⟩ S FC hrel).mono fun en w' hh=>?_
 obtain ⟨ι0,hI,v,hv1,S1,F1,L2,rfl,hc1,f1,f2,hu⟩:=hh
 have hb:=hb ι0
 have hK:=hK ι0 hI
 simp only [Bool.and_eq_true] at hb
 refine ⟨v,rfl,?_⟩
 rw [← hlen] at hc1
 have hG : ∀ b,S1 b→S1 b∧(S b ∨ Hand σ.ob hv F ids b ∨ w.heap.size≤b):=fun b hb=>⟨hb,by
  rcases hc1.Bin b (hc1.SB b hb) with h | h | h
  ·exact .inl h
  ·exact .inr (.inl h)
  ·exact .inr (.inr h)⟩
 have hbw : (∀ b,Hand σ.ob hv F ids b → ¬ hv.B b) ∨ (tmNoBw σ.tm=true∧obNoBw ids 0 σ.ob=true):=by
  rcases hnb with hnb | hnb
  ·refine .inl fun b hh hB=>?_
   obtain ⟨i,hi,o',q1,q2,q3⟩:=hh
   rcases q3 with q3 | ⟨q3,_⟩
   ·exact (hr.root i o' q1 q2 b q3).2.2 hB
   ·rw [hnb i hi o' q1] at q3; cases q3
  ·exact .inr hnb
 obtain ⟨hv2,F2,hj,he⟩:=hr.join hn' hids (av:=hvC.v) (fun k i h=>(hsame' k i h).1) hc1 hG (fun id o hid=>⟨obsNoBw_get hb.2 hid,hc1.ob id o hid⟩) hbw
 exact hn v w' _ _ hv2 _ F2 L2 hK hj (ren_foot he _ _ _ hb.1 f1) (fun b hb=>.inr (f2 b hb)) (by rw [behind_length]; exact ren_under (fun i hi=>rn_lt hids hi) x hu)
theorem callO_sound {o:Oper} {c:Call} {f:Operand} (ho:o.op = .call c) (hc:c.callee = .value f) (hr:Rel w0 σ hv S F a w) (h:vcCallO P (σ.opd f) (c.args.toList.map σ.opd) σ.tm σ.ob K) (hn:Ans w0 σ a K next) : Does P Q o a w next:=by
 unfold vcCallO at h
 split at h
 case h_2=>cases h
 rename_i g caps hg
 cases h with
 | closed hcon hts hb hsh hK =>
   rename_i ts x obs
   obtain ⟨args,hrun,L',g1,g2,_⟩:=args_ready ho hc hg hcon.1 hr.obs (fun y _=>hr.arg y)
   obtain ⟨La,k1,k2,k3⟩:=args_seen hr.obs hr.Blt hr.rootsIn g1 g2 hts
   simp only [Bool.and_eq_true] at hb
   unfold Does Oper.wp
   rw [hrun,Oper.upon_enter]
   refine (hcon.run (vs:=args.toList) k1 k2 (Hand σ.ob hv F [])).mono fun en w' hh=>?_
   obtain ⟨v,hv1,S1,F1,L2,rfl,hc1,f1,f2,hu⟩:=hh
   refine ⟨v,rfl,?_⟩
   have hM : ∀ b,¬ Hand σ.ob hv F [] b:=fun b hb=>by obtain ⟨i,hi,_⟩:=hb; cases hi
   have done : ∀ (G:Nat→Prop),(∀ b,G b→S1 b∧(S b ∨ Hand σ.ob hv F [] b ∨ w.heap.size≤b))→(∀ (id:Nat) (o:Ob),obs[id]? = some o→o.noBw=true∧ObR hv1 G w' (F1 id) (hv1 id) o) → ∀ (L3:List Nat),footA hv1 w' x v L3→(∀ b∈L3,G b)→next v w':=by
    intro G hG hob L3 f3 f4
    obtain ⟨hv2,F2,hj,he⟩:=hr.join (ids:=[]) (by simp) (by simp) (av:=fun _=>.bool true) (by simp) hc1 hG hob (.inl fun b hb=>(hM b hb).elim)
    have hk : K (x.ren (rn [] σ.ob.length)) (behind [] obs σ.ob):=by rw [rn_nil,behind_nil]; exact hK
    exact hn v w' _ _ hv2 _ F2 L3 hk hj (ren_foot he _ _ _ hb.1 f3) (fun b hb=>.inr (f4 b hb)) (by rw [behind_length]; exact ren_under (fun i hi=>rn_lt (by simp) hi) x hu)
   rcases hsh with hsh | ⟨hfx,hfo⟩
   ·refine done S1 (fun b hb=>⟨hb,?_⟩) (fun id o hid=>⟨obsNoBw_get hb.2 hid,hc1.ob id o hid⟩) L2 f1 f2
    rcases hc1.Bin b (hc1.SB b hb) with h | h | h
    ·exact .inl (k3 hsh b h)
    ·exact .inr (.inl h)
    ·exact .inr (.inr h)
   ·exact done (fun _=>False) (fun b hb=>hb.elim) (fun id o hid=>⟨obsNoBw_get hb.2 hid,fresh_ObR (freshOb_get hfo hid) (hc1.ob id o hid)⟩) [] (freshAV_foot x hfx _ _ f1) (by simp)
 | hand ids hcon hnd hxs hx hux hob hb hnb hK => exact handN_sound ho hc hr hg hn ids hcon.any hnd hxs hx hux hob (fun _=>hb) hnb fun _ _=>hK
 | any I ids hcon hnd hxs hx hux hob hb hnb hK => exact handN_sound ho hc hr hg hn ids hcon hnd hxs hx hux hob hb hnb hK
end
end Go.Proofs.YtmgdkkhnjkepiaaGreat.BX
namespace Go.Proofs.YtmgdkkhnjkepiaaGreat.BX
open Nat renaming reduceEqDiff → zA, reduceLT → zB, reduceLeDiff → zC, reduceAdd → zD, reduceMul → zE, reduceSub → zF, reduceBEq → zG
set_option linter.unusedSectionVars false
set_option linter.unusedSimpArgs false
set_option linter.unusedVariables false
open Go Go.RowKit
variable [Bd]
def keyTy (P:Program) (t:TypeId) : Option Lay :=
 match P.underlying t with
 | some (.int k) => some (.int k)
 | some .bool => some .bool
 | some .string => some .str
 | _ => none
def keyFs (P:Program) : List Field→Nat→Option (List Lay)
 | [], _ => some []
 | f :: fs, k => if f.name ≠ "_" ∧ f.offset=k∧(P.info? f.type).map (·.size)=some 1 then match keyTy P f.type,keyFs P fs (k + 1) with
     | some l, some ls => some (l :: ls)
     | _, _ => none
  else none
def keyLay (P:Program) (t:TypeId) : Option (Bool × List Lay) :=
 match P.underlying t with
 | some (.struct fs) => if P.stoodInHeld t=true then none else (keyFs P fs.toList 0).map (true,·)
 | _ => (keyTy P t).map (false,[·])
def keyCell : Lay→T→Prop
 | .int k, .i k' _ => k'=k
 | .bool, .b _ => True
 | .str, .s _ => True
 | _, _ => False
def keyCells : List Lay→List T→Prop
 | [], [] => True
 | l :: ls, x :: xs => keyCell l x∧keyCells ls xs
 | _, _ => False
def isKey : Bool × List Lay→T→Prop
 | (false, [l]), x => keyCell l x
 | (true, ls), .ag xs => keyCells ls xs
 | _, _ => False
section
variable {P:Program} {w:World}
theorem keyCell_cases {l:Lay} {x:T} (h:keyCell l x) : (∃ k n,l = .int k∧x = .i k n) ∨ (∃ b,l = .bool∧x = .b b) ∨ ∃ s,l = .str∧x = .s s:=by
 cases l<;>cases x<;>simp only [keyCell] at h
 ·subst h; exact .inl ⟨_,_,rfl,rfl⟩
 ·exact .inr (.inl ⟨_,rfl,rfl⟩)
 ·exact .inr (.inr ⟨_,rfl,rfl⟩)
theorem keyTy_spec {t:TypeId} {l:Lay} (h:keyTy P t=some l) : (∃ k,l = .int k∧P.underlying t=some (.int k)) ∨ (l = .bool∧P.underlying t=some .bool) ∨ (l = .str∧P.underlying t=some .string):=by
 unfold keyTy at h
 split at h<;>first | (cases h; done) | (simp only [Option.some.injEq] at h; subst h; first | exact .inl ⟨_,rfl,by assumption⟩ | exact .inr (.inl ⟨rfl,by assumption⟩) | exact .inr (.inr ⟨rfl,by assumption⟩))
theorem keyCell_val {l:Lay} {x:T} {v:Value} {L:List Nat} (h:keyCell l x) (hf:footT w x v L) : (∃ k n,l = .int k∧x = .i k n∧v = .int k n) ∨ (∃ b,l = .bool∧x = .b b∧v = .bool b) ∨ ∃ s,l = .str∧x = .s s∧v = .string ⟨s.toArray⟩:=by
 rcases keyCell_cases h with ⟨k,n,rfl,rfl⟩ | ⟨b,rfl,rfl⟩ | ⟨s,rfl,rfl⟩<;>simp only [footT] at hf
 ·exact .inl ⟨k,n,rfl,rfl,hf.1⟩
 ·exact .inr (.inl ⟨b,rfl,rfl,hf.1⟩)
 ·exact .inr (.inr ⟨s,rfl,rfl,hf.1⟩)
theorem str_inj {s s':List UInt8} : ((⟨s.toArray⟩ : ByteArray).toList == (⟨s'.toArray⟩ : ByteArray).toList)=decide (s=s'):=by
 rw [toList_mk,toList_mk,Bool.eq_iff_iff]; simp
open Classical in
theorem eq_cell {t:TypeId} {l:Lay} (ht:keyTy P t=some l) {x y:T} {u v:Value} {L M:List Nat} (hx:keyCell l x) (hy:keyCell l y) (fx:footT w x u L) (fy:footT w y v M) (d:Nat) (W:World) :
 (Op.equalIn (d + 1) t u v).run P W = .ok (decide (x=y)) W:=by
 rcases keyTy_spec ht with ⟨k,rfl,hu⟩ | ⟨rfl,hu⟩ | ⟨rfl,hu⟩
 ·rcases keyCell_val hx fx with ⟨k1,n1,e1,rfl,rfl⟩ | ⟨_,e1,_⟩ | ⟨_,e1,_⟩<;>cases e1
  rcases keyCell_val hy fy with ⟨k2,n2,e2,rfl,rfl⟩ | ⟨_,e2,_⟩ | ⟨_,e2,_⟩<;>cases e2
  rw [run_equalIn_int W d t k k n1 n2 hu]
  congr 1
  rw [Bool.eq_iff_iff]; simp
 ·rcases keyCell_val hx fx with ⟨k1,n1,e1,_⟩ | ⟨b1,e1,rfl,rfl⟩ | ⟨_,e1,_⟩<;>cases e1
  rcases keyCell_val hy fy with ⟨k2,n2,e2,_⟩ | ⟨b2,e2,rfl,rfl⟩ | ⟨_,e2,_⟩<;>cases e2
  rw [eqIn_bool hu d b1 b2 W]
  congr 1
  rw [Bool.eq_iff_iff]; simp
 ·rcases keyCell_val hx fx with ⟨k1,n1,e1,_⟩ | ⟨_,e1,_⟩ | ⟨s1,e1,rfl,rfl⟩<;>cases e1
  rcases keyCell_val hy fy with ⟨k2,n2,e2,_⟩ | ⟨_,e2,_⟩ | ⟨s2,e2,rfl,rfl⟩<;>cases e2
  rw [run_equalIn_string W d t _ _ hu,str_inj]
  congr 1
  rw [Bool.eq_iff_iff]; simp
theorem keyTy_one {t:TypeId} {l:Lay} (ht:keyTy P t=some l) : (isAgg t).run P w = .ok false w:=by
 rcases keyTy_spec ht with ⟨k,rfl,hu⟩ | ⟨rfl,hu⟩ | ⟨rfl,hu⟩<;>simp [isAgg,run_underlying hu]
theorem part_cell {t:TypeId} {l:Lay} (ht:keyTy P t=some l) {vs:List Value} {k:Nat} {v:Value} (hv:vs[k]? = some v) : (part t vs.toArray k).run P w = .ok v w:=by
 simp [part,keyTy_one ht,hv]
open Classical in
theorem eq_cells : ∀ (fs:List Field) (k:Nat) (ls:List Lay),keyFs P fs k=some ls → ∀ (xs ys:List T) (us vs:List Value) (L M:List Nat),keyCells ls xs→keyCells ls ys→footTs w xs (us.drop k) L→footTs w ys (vs.drop k) M → ∀ (d:Nat) (W:World),
 (Op.eqFields (d + 1) us.toArray vs.toArray fs).run P W = .ok (decide (xs=ys)) W
 | [], k, ls, h, xs, ys, us, vs, L, M, hx, hy, fx, fy, d, W => by
   simp only [keyFs,Option.some.injEq] at h
   subst h
   cases xs<;>cases ys<;>simp only [keyCells] at hx hy
   simp [Op.eqFields]
 | f :: fs, k, ls, h, xs, ys, us, vs, L, M, hx, hy, fx, fy, d, W => by
   simp only [keyFs] at h
   split at h
   case isFalse=>cases h
   rename_i hc
   obtain ⟨hc1,hc2,hc3⟩:=hc
   split at h
   case h_2=>cases h
   rename_i l ls' h1 h2
   simp only [Option.some.injEq] at h
   subst h
   cases xs with
   | nil => simp only [keyCells] at hx
   | cons x xs =>
     cases ys with
     | nil => simp only [keyCells] at hy
     | cons y ys =>
       simp only [keyCells] at hx hy
       simp only [footTs] at fx fy
       obtain ⟨u,us',L1,L2,e1,_,a1,a2⟩:=fx
       obtain ⟨v,vs',M1,M2,e2,_,b1,b2⟩:=fy
       have hu : us[k]? = some u:=by have:=congrArg (·[0]?) e1; simpa using this
       have hv : vs[k]? = some v:=by have:=congrArg (·[0]?) e2; simpa using this
       have hus : us.drop (k + 1)=us':=by rw [← List.drop_drop,e1]; rfl
       have hvs : vs.drop (k + 1)=vs':=by rw [← List.drop_drop,e2]; rfl
       subst hc2
       simp only [Op.eqFields,if_pos hc1,Sem.run_bind,part_cell h1 hu,part_cell h1 hv,Result.andThen_ok,eq_cell h1 hx.1 hy.1 a1 b1 d]
       by_cases hxy : x=y
       ·subst hxy
        rw [decide_eq_true rfl]
        simp only [Bool.not_true,Bool.false_eq_true,if_false]
        rw [eq_cells fs (f.offset + 1) ls' h2 xs ys us vs L2 M2 hx.2 hy.2 (by rw [hus]; exact a2) (by rw [hvs]; exact b2) d W]
        congr 1
        rw [Bool.eq_iff_iff]; simp
       ·rw [decide_eq_false hxy]
        simp [hxy]
theorem eq_key {t:TypeId} {s:Bool × List Lay} (hs:keyLay P t=some s) {x y:T} {u v:Value} {L M:List Nat} (hx:isKey s x) (hy:isKey s y) (fx:footT w x u L) (fy:footT w y v M) (W:World) :
 (Op.equal t u v).run P W = .ok (@decide (x=y) (Classical.propDecidable _)) W:=by
 unfold keyLay at hs
 split at hs
 ·rename_i fs hu
  split at hs
  ·cases hs
  rename_i hst
  simp only [Option.map_eq_some_iff] at hs
  obtain ⟨ls,hls,rfl⟩:=hs
  cases x<;>simp only [isKey] at hx
  cases y<;>simp only [isKey] at hy
  rename_i xs ys
  simp only [footT] at fx fy
  obtain ⟨us,rfl,fx⟩:=fx
  obtain ⟨vs,rfl,fy⟩:=fy
  have hf : P.fieldsOf t=fs:=by simp [Program.fieldsOf,hu]
  show (Op.equalIn (9998 + 1 + 1) t _ _).run P W=_
  rw [run_equalIn_struct W (9998 + 1) t us.toArray vs.toArray (by rw [hf]; exact hu) (by cases h:P.stoodInHeld t<;>simp_all),hf]
  rw [eq_cells fs.toList 0 ls hls xs ys us vs _ _ hx hy fx fy]
  congr 1
  rw [Bool.eq_iff_iff]; simp
 ·simp only [Option.map_eq_some_iff] at hs
  obtain ⟨l,hl,rfl⟩:=hs
  simp only [isKey] at hx hy
  exact eq_cell hl hx hy fx fy 9999 W
theorem checkKey_cell {t:TypeId} {l:Lay} (ht:keyTy P t=some l) {x:T} {v:Value} {L:List Nat} (hx:keyCell l x) (fx:footT w x v L) (e:Bool) (n:Nat) (W:World) : (Instr.checkKey e (n + 1) t v).run P W = .ok () W:=by
 rcases keyTy_spec ht with ⟨k,rfl,hu⟩ | ⟨rfl,hu⟩ | ⟨rfl,hu⟩
 ·rcases keyCell_val hx fx with ⟨k1,n1,e1,rfl,rfl⟩ | ⟨_,e1,_⟩ | ⟨_,e1,_⟩<;>cases e1
  simp [Instr.checkKey,run_underlying hu]
 ·rcases keyCell_val hx fx with ⟨k1,n1,e1,_⟩ | ⟨b1,e1,rfl,rfl⟩ | ⟨_,e1,_⟩<;>cases e1
  simp [Instr.checkKey,run_underlying hu]
 ·rcases keyCell_val hx fx with ⟨k1,n1,e1,_⟩ | ⟨_,e1,_⟩ | ⟨s1,e1,rfl,rfl⟩<;>cases e1
  simp [Instr.checkKey,run_underlying hu]
theorem checkKey_run {t:TypeId} {s:Bool × List Lay} (hs:keyLay P t=some s) {x:T} {v:Value} {L:List Nat} (hx:isKey s x) (fx:footT w x v L) (e:Bool) (W:World) : (Instr.checkKey e 10000 t v).run P W = .ok () W:=by
 unfold keyLay at hs
 split at hs
 ·rename_i fs hu
  split at hs
  ·cases hs
  simp only [Option.map_eq_some_iff] at hs
  obtain ⟨ls,hls,rfl⟩:=hs
  cases x<;>simp only [isKey] at hx
  rename_i xs
  simp only [footT] at fx
  obtain ⟨us,rfl,fx⟩:=fx
  show (Instr.checkKey e (9998 + 1 + 1) t _).run P W=_
  generalize 9998=d
  have loop : ∀ (fs:List Field) (k:Nat) (ls:List Lay),keyFs P fs k=some ls → ∀ (xs:List T) (L:List Nat),keyCells ls xs→footTs w xs (us.drop k) L →
   (forIn fs PUnit.unit (fun (f:Field) (_:PUnit)=>(do
    if f.name ≠ "_" then Instr.checkKey e (d + 1) f.type (← part f.type us.toArray f.offset)
    pure (ForInStep.yield PUnit.unit) : Sem (ForInStep PUnit)))).run P W = .ok PUnit.unit W:=by
   intro fs
   induction fs with
   | nil => intro k ls _ xs L _ _; simp
   | cons f fs ih =>
     intro k ls h xs L hk hf
     simp only [keyFs] at h
     split at h
     case isFalse=>cases h
     rename_i hc
     obtain ⟨hc1,hc2,hc3⟩:=hc
     split at h
     case h_2=>cases h
     rename_i l ls' h1 h2
     simp only [Option.some.injEq] at h
     subst h
     cases xs with
     | nil => simp only [keyCells] at hk
     | cons x xs =>
       simp only [keyCells] at hk
       simp only [footTs] at hf
       obtain ⟨u,us',L1,L2,e1,_,a1,a2⟩:=hf
       have hu : us[k]? = some u:=by have:=congrArg (·[0]?) e1; simpa using this
       have hus : us.drop (k + 1)=us':=by rw [← List.drop_drop,e1]; rfl
       subst hc2
       have:=ih (f.offset + 1) ls' h2 xs L2 hk.2 (by rw [hus]; exact a2)
       simp only [List.forIn_cons,Sem.run_bind,Sem.run_ite,if_pos hc1,part_cell h1 hu,Result.andThen_ok,checkKey_cell h1 hk.1 a1 e d,Sem.run_pure]
       exact this
  have:=loop fs.toList 0 ls hls xs L hx fx
  rw [Instr.checkKey]
  simp only [Sem.run_bind,run_underlying hu,Result.andThen_ok]
  rw [← Array.forIn_toList]
  simp only [ne_eq,Sem.run_bind] at this ⊢
  rw [this]
  rfl
 ·simp only [Option.map_eq_some_iff] at hs
  obtain ⟨l,hl,rfl⟩:=hs
  simp only [isKey] at hx
  exact checkKey_cell hl hx fx e 9999 W
end
end Go.Proofs.YtmgdkkhnjkepiaaGreat.BX