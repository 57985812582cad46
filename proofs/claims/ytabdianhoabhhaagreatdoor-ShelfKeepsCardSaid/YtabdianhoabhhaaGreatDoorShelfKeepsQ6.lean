/- texts joined: MatchIndex MatchFind MatchTok BlkOne BlkPack EqualB BlkBest SumPure GzPure NamePure MergePure. -/
import Derived.Test.YtabdianhoabhhaaGreatDoorShelfKeepsQ1
import Derived.DeepKeys4
import Derived.WideKeyEntry
import Derived.Test.YtabdianhoabhhaaGreatDoorShelfKeepsQ4
import Derived.Test.YtabdianhoabhhaaGreatDoorShelfKeepsQ5
import Derived.Test.YtabdianhoabhhaaGreatDoorProg
import Derived.Laws.BytesArg
import Derived.Shelf.Bytes.SlSmallAll
import Derived.WalkKit
import Derived.Lib.Split
import Derived.Lib.SplitLaws
import Derived.Lib.IndexBytes
import Derived.Lib.CountLaws
import Derived.Lib.Join
import Derived.Lib.Strings
import Derived.Lib.Bytealg
import Derived.Lib.Small
import Derived.Sort.Walk0
namespace Go.Proofs.YtabdianhoabhhaaGreatDoor.Match
open Go Go.RowKit Go.Proofs.YtabdianhoabhhaaGreatDoor Go.MapKept
open Go.ChangeMaps (setBlock heap_setBlock_same heap_setBlock_other)
open Go.WideMaps (KeyLaw)
set_option linter.unusedVariables false
abbrev Rs:=UInt8×UInt8×UInt8
def kv (t:Rs):Value:=.agg #[Eh t.1,Eh t.2.1,Eh t.2.2]
theorem Xr {s t:Rs} (h:kv s=kv t):s=t:=by
 obtain⟨a,b,c⟩:=s
 obtain⟨a',b',c'⟩:=t
 simp only[kv,Eh,Value.agg.injEq,Array.mk.injEq,List.cons.injEq,Value.int.injEq,true_and,and_true]at h
 obtain⟨h1,h2,h3⟩:=h
 rw[Xt h1,Xt h2,Xt h3]
theorem ek:KeyLaw Tryz.prog 287:=deep_law_laid (m:=2) (by kernel_rfl) (by omega) (of_decide_eq_true (by kernel_rfl)) (by kernel_rfl) (by kernel_rfl)
theorem wH (t:Rs):(kv t).cells.toList=[Eh t.1,Eh t.2.1,Eh t.2.2]:=by simp[kv,Value.cells]
theorem AEE (x:UInt8) (d:Nat):Tryz.prog.keyLits (d+1) 5 [Eh x]=some [.int .u8 (n8 x)]:=by
 have hx:=Qp x
 have hw:(Lit.int .u8 (n8 x)).wf=true:=by simp[Lit.wf,IntKind.min,IntKind.max,IntKind.signed,IntKind.bits];omega
 simp[Program.keyLits,Tryz.underlying5,Eh,hw]
theorem wI (t:Rs) (d:Nat):Tryz.prog.keyLits (d+2) 287 [Eh t.1,Eh t.2.1,Eh t.2.2]=some [.int .u8 (n8 t.1),.int .u8 (n8 t.2.1),.int .u8 (n8 t.2.2)]:=by
 have e1:Tryz.prog.cellsOf 287=3:=by kernel_rfl
 have e2:Tryz.prog.cellsOf 5=1:=by kernel_rfl
 rw[Program.keyLits.eq_def]
 simp only[Tryz.underlying287,e1,e2]
 rw[show List.range 3=[0,1,2] from rfl]
 simp[AEE]
theorem nP:∃ d,Tryz.prog.types.size+1=d+2:=by
 have:1≤Tryz.prog.types.size:=of_decide_eq_true (by kernel_rfl)
 exact⟨Tryz.prog.types.size - 1,by omega⟩
theorem Xu (t:Rs):∃ kl,keyOf Tryz.prog 287 (kv t)=some kl:=by
 have h1:Tryz.prog.keyType 287=true:=by kernel_rfl
 have h2:(kv t).formed Tryz.prog 287=true:=by
  have:Tryz.prog.cellsOf 287=3:=by kernel_rfl
  simp[kv,Value.formed,Tryz.underlying287,this]
 obtain⟨d,hd⟩:=nP
 have h3:=wI t d
 rw[←hd,←wH]at h3
 refine⟨.string (keyBytes [.int .u8 (n8 t.1),.int .u8 (n8 t.2.1),.int .u8 (n8 t.2.2)]),?_⟩
 rw[keyOf,Tryz.underlying287]
 show (if (Tryz.prog.keyType 287 && (kv t).formed Tryz.prog 287)=true then _ else _)=_
 rw[h1,h2,h3]
 rfl
def BR (n:Nat):Value:=.int .i64 (n:Int)
theorem bX:Bj Tryz.prog 89 3 (.int .i64 0) 1 8:=⟨Tryz.underlying89,by kernel_rfl,rfl,by omega⟩
def L8 (w:World) (base b:Nat) (F:Rs→List Nat):Prop:=
 base≤b∧∃ es clock,w.heap[b]?=some (.map es clock)∧Stamped es clock∧(∀ x∈es.toList,∃ t,x.key=kv t∧w.ownsRow base 3 1 x.val (F t).length ((F t).map BR))∧
  (∀ t,(∀ x∈es.toList,x.key≠kv t)→F t=[])∧(∀ x∈es.toList,∀ y∈es.toList,x.key≠y.key→x.val.ownBlock=none∨x.val.ownBlock≠y.val.ownBlock)
theorem L8.lt {w:World} {base b:Nat} {F:Rs→List Nat} (h:L8 w base b F):b < w.heap.size:=by
 obtain⟨_,es,clock,hb,_⟩:=h
 exact (Array.getElem?_eq_some_iff.1 hb).1
theorem L8.made (w:World) {base:Nat} (hb:base≤w.heap.size):L8 (w.alloc (.map #[] 0)) base w.heap.size (fun _=>[]):=
 ⟨hb,#[],0,heap_alloc_new w _,⟨by simp,by simp,by simp⟩,by simp,fun _ _=>rfl,by simp⟩
theorem L8.keep {w w':World} {base b:Nat} {F:Rs→List Nat} (h:L8 w base b F) (hk:∀ (k:Nat) (o:Obj),w.heap[k]?=some o→(∀ cs t fr,o=Obj.cells cs t fr→t=3)→w'.heap[k]?=some o):L8 w' base b F:=by
 obtain⟨h0,es,clock,hb,hs,h1,h2,h3⟩:=h
 refine⟨h0,es,clock,hk _ _ hb (fun cs t fr e=>by cases e),hs,fun x hx=>?_,h2,h3⟩
 obtain⟨t,ht,hl,ho⟩:=h1 x hx
 refine⟨t,ht,hl,?_⟩
 rcases ho with ho | ⟨g,cap,cur,e1,e2,e3,e4⟩
 ·exact Or.inl ho
 ·exact Or.inr ⟨g,cap,cur,e1,e2,hk _ _ e3 (fun cs t fr e=>by cases e;rfl),e4⟩
theorem L8.below {w w':World} {base b:Nat} {F:Rs→List Nat} (h:L8 w base b F) (hb:Below w.heap.size w w'):L8 w' base b F:=
 h.keep fun k o ho _=>by rw[hb.block k (Array.getElem?_eq_some_iff.1 ho).1];exact ho
theorem L8.alloc {w:World} {base b:Nat} {F:Rs→List Nat} (h:L8 w base b F) (o:Obj):L8 (w.alloc o) base b F:=h.below ((Below.refl _ _).alloc (Nat.le_refl _) _)
theorem L8.keeps {w w':World} {base base' b:Nat} {T:List TypeId} {F:Rs→List Nat} (h:L8 w base b F) (hk:AJ base' T w w') (hT:3∉T):L8 w' base b F:=
 h.keep fun k o ho ht=>hk.other k o ho (fun cs t fr e=>by rw[ht cs t fr e];exact hT)
theorem L8.look {w:World} {base b:Nat} {F:Rs→List Nat} (h:L8 w base b F) (t:Rs) :
  ∃ v,(Instr.lookup 239 (.map (some b)) (kv t) false).run Tryz.prog w=.ok v w∧w.ownsRow base 3 1 v (F t).length ((F t).map BR):=by
 obtain⟨h0,es,clock,hb,hs,h1,h2,h3⟩:=h
 obtain⟨kl,hkl⟩:=Xu t
 have ht:Tryz.prog.underlying 239=some (.map 287 89):=Tryz.underlying239
 have hkeys:∀ x∈es.toList,∃ l,keyOf Tryz.prog 287 x.key=some l:=fun x hx=>by
  obtain⟨u,hu,_⟩:=h1 x hx
  rw[hu];exact Xu u
 rcases ek.find w hkl es.toList hkeys with ⟨g1,g2⟩ | ⟨j,e0,g1,g2,g3⟩
 ·refine⟨.slice none 0 0,by simp[Instr.lookup,run_underlying ht,MapKept.run_getObj_map hb,ek.check w _ hkl,g1,Result.andThen],?_⟩
  rw[h2 t g2]
  exact World.ownsRow_nil _ _ _ _
 ·refine⟨e0.val,by simp[Instr.lookup,run_underlying ht,MapKept.run_getObj_map hb,ek.check w _ hkl,g1,Result.andThen],?_⟩
  obtain⟨u,hu,ho⟩:=h1 e0 (List.mem_of_getElem? g2)
  have:t=u:=Xr (by rw[←g3,hu])
  rw[this];exact ho
def upd (F:Rs→List Nat) (t:Rs) (l:List Nat):Rs→List Nat:=fun u=>if u=t then l else F u
theorem GG {w:World} {base b n:Nat} {v:Value} {xs:List Value} {es:Array MapEntry} {clock:Nat} (h:w.ownsRow base 3 1 v n xs) (hb:w.heap[b]?=some (.map es clock)):v.ownBlock≠some b:=by
 rcases h.2 with ⟨rfl,_⟩ | ⟨g,cap,cur,rfl,_,hg,_⟩
 ·simp[Value.ownBlock]
 ·intro e
  simp only[Value.ownBlock,Option.some.injEq]at e
  subst e
  rw[hb]at hg;cases hg
theorem wJ {w:World} {base n g:Nat} {v:Value} {xs:List Value} (h:w.ownsRow base 3 1 v n xs) (hb:v.ownBlock=some g):g < w.heap.size:=by
 rcases h.2 with ⟨rfl,_⟩ | ⟨g',cap,cur,rfl,_,hg,_⟩
 ·simp[Value.ownBlock]at hb
 ·simp only[Value.ownBlock,Option.some.injEq]at hb
  subst hb
  exact (Array.getElem?_eq_some_iff.1 hg).1
theorem V5 {w w':World} {base b n:Nat} {v:Value} {xs:List Value} (h:w.ownsRow base 3 1 v n xs) (hk:∀ (k:Nat),k < w.heap.size→v.ownBlock=some k→k≠b→w'.heap[k]?=w.heap[k]?) (hne:v.ownBlock≠some b):w'.ownsRow base 3 1 v n xs:=by
 refine⟨h.1,?_⟩
 rcases h.2 with h | ⟨g,cap,cur,rfl,h2,h3,h4⟩
 ·exact Or.inl h
 ·refine Or.inr ⟨g,cap,cur,rfl,h2,?_,h4⟩
  rw[hk g (Array.getElem?_eq_some_iff.1 h3).1 rfl (fun e=>hne (by simp[Value.ownBlock,e]))]
  exact h3
theorem TY {w w':World} {base b n:Nat} {v:Value} {xs:List Value} (h:w.ownsRow base 3 1 v n xs) (hk:∀ (k:Nat),k < w.heap.size→k≠b→w'.heap[k]?=w.heap[k]?) (hne:v.ownBlock≠some b):w'.ownsRow base 3 1 v n xs:=
 V5 h (fun k hk1 _ hkb=>hk k hk1 hkb) hne
theorem L8.entry {w:World} {base b:Nat} {F:Rs→List Nat} (h:L8 w base b F) (t:Rs) :
  ∃ v st w1,(Instr.mapEntry 239 (.map (some b)) (kv t)).run Tryz.prog w=.ok (.tuple #[v,goInt st]) w1∧w1.ownsRow base 3 1 v (F t).length ((F t).map BR)∧w.grownBy w1 (some b)∧w1.heap.size=w.heap.size∧v.ownBlock≠some b∧
   ∀ (w2:World) (v2:Value) (l:List Nat),w1.grownBy w2 v.ownBlock→w2.ownsRow base 3 1 v2 l.length (l.map BR)→(v2.ownBlock=v.ownBlock∨v2.ownBlock=some w.heap.size)→
    ∃ w3,(Instr.entryStore 239 (.map (some b)) (goInt st) v2).run Tryz.prog w2=.ok () w3∧L8 w3 base b (upd F t l)∧w2.grownBy w3 (some b):=by
 obtain⟨h0,es,clock,hb,⟨s1,s2,s3⟩,h1,h2,h3⟩:=h
 obtain⟨kl,hkl⟩:=Xu t
 have ht:Tryz.prog.underlying 239=some (.map 287 89):=Tryz.underlying239
 have hkeys:∀ x∈es.toList,∃ l,keyOf Tryz.prog 287 x.key=some l:=fun x hx=>by
  obtain⟨u,hu,_⟩:=h1 x hx
  rw[hu];exact Xu u
 have hblt:b < w.heap.size:=(Array.getElem?_eq_some_iff.1 hb).1
 have grow:∀ (u:World) (o:Obj) (es':Array MapEntry) (c':Nat),u.heap[b]?=some (.map es' c')→u.grownBy (setBlock u b o) (some b):=fun u o es' c' hu=>
  ⟨rfl,rfl,rfl,by simp[setBlock],fun i _ hi=>heap_setBlock_other hu _ (fun e1=>hi (by rw[e1]))⟩
 rcases ek.find w hkl es.toList hkeys with ⟨g1,g2⟩ | ⟨j,e0,g1,g2,g3⟩
 ·have hF:=h2 t g2
  have hb1:(setBlock w b (.map (es.push ⟨kv t,.slice none 0 0,clock⟩) (clock+1))).heap[b]?=some (.map (es.push ⟨kv t,.slice none 0 0,clock⟩) (clock+1)):=heap_setBlock_same hb _
  refine⟨.slice none 0 0,clock,setBlock w b (.map (es.push ⟨kv t,.slice none 0 0,clock⟩) (clock+1)),?_,?_,grow _ _ _ _ hb,by simp[setBlock],by simp[Value.ownBlock],?_⟩
  ·simp[Instr.mapEntry,run_underlying ht,MapKept.run_getObj_map hb,ek.check w false hkl,g1,MapKept.run_setObj_map _ hb,Result.andThen,setBlock]
  ·rw[hF];exact World.ownsRow_nil _ _ _ _
  ·intro w2 v2 l hg ho hv
   have hw2:w2.heap[b]?=some (.map (es.push ⟨kv t,.slice none 0 0,clock⟩) (clock+1)):=(hg.block b (by simpa [setBlock] using hblt) (by simp[Value.ownBlock])).trans hb1
   have hidx:(es.push ⟨kv t,.slice none 0 0,clock⟩).findIdx? (fun e=>((e.born:Nat):Int) == ((clock:Nat):Int))=some es.size:=by
    rw[WideElems.findIdx_arr]
    have:=WideElems.findIdx_born (l:=(es.push ⟨kv t,.slice none 0 0,clock⟩).toList) (j:=es.size) (e0:=⟨kv t,.slice none 0 0,clock⟩) (by
     simp only[Array.toList_push,List.map_append,List.map_cons,List.map_nil]
     refine List.nodup_append.2 ⟨s2,by simp,fun a ha c hc e1=>?_⟩
     simp only[List.mem_singleton]at hc
     obtain⟨x,hx,rfl⟩:=List.mem_map.1 ha
     have:=s1 x hx
     omega) (by simp)
    exact this
   have hmod:(es.push ⟨kv t,.slice none 0 0,clock⟩).modify es.size (fun e=>{ e with val:=v2 })=es.push ⟨kv t,v2,clock⟩:=by
    apply Array.ext'
    rw[Array.toList_modify,Array.toList_push,Array.toList_push,←Array.length_toList,WideElems.modify_last]
   refine⟨setBlock w2 b (.map (es.push ⟨kv t,v2,clock⟩) (clock+1)),by simp[Instr.entryStore,MapKept.run_getObj_map hw2,asInt,asIntOf,goInt,hidx,hmod,MapKept.run_setObj_map _ hw2,Result.andThen,setBlock],?_,grow _ _ _ _ hw2⟩
   have hkeep:∀ (k:Nat),k < w.heap.size→k≠b→w2.heap[k]?=w.heap[k]?:=fun k hk hkb=>by
    rw[hg.block k (by simpa [setBlock] using hk) (by simp[Value.ownBlock]),heap_setBlock_other hb _ hkb]
   refine⟨h0,es.push ⟨kv t,v2,clock⟩,clock+1,heap_setBlock_same hw2 _,⟨?_,?_,?_⟩,?_,?_,?_⟩
   ·intro x hx
    simp at hx
    rcases hx with hx | rfl
    ·have:=s1 x (by simpa using hx);omega
    ·exact Nat.lt_succ_self _
   ·simp only[Array.toList_push,List.map_append,List.map_cons,List.map_nil]
    refine List.nodup_append.2 ⟨s2,by simp,fun a ha c hc e1=>?_⟩
    simp only[List.mem_singleton]at hc
    obtain⟨x,hx,rfl⟩:=List.mem_map.1 ha
    have:=s1 x hx
    omega
   ·simp only[Array.toList_push,List.map_append,List.map_cons,List.map_nil]
    refine List.nodup_append.2 ⟨s3,by simp,fun a ha c hc e1=>?_⟩
    simp only[List.mem_singleton]at hc
    obtain⟨x,hx,rfl⟩:=List.mem_map.1 ha
    exact g2 x hx (e1.trans hc)
   ·intro x hx
    simp at hx
    rcases hx with hx | rfl
    ·obtain⟨u,hu,ho1⟩:=h1 x (by simpa using hx)
     have hne:u≠t:=fun e=>g2 x (by simpa using hx) (by rw[hu,e])
     refine⟨u,hu,?_⟩
     unfold upd;rw[if_neg hne]
     exact TY ho1 (fun k hk hkb=>by rw[heap_setBlock_other hw2 _ hkb,hkeep k hk hkb]) (GG ho1 hb)
    ·refine⟨t,rfl,?_⟩
     unfold upd;rw[if_pos rfl]
     exact TY ho (fun k hk hkb=>heap_setBlock_other hw2 _ hkb) (GG ho hw2)
   ·intro u hu
    have hne:u≠t:=fun e=>hu ⟨kv t,v2,clock⟩ (by simp) (by rw[e])
    unfold upd;rw[if_neg hne]
    exact h2 u (fun x hx=>hu x (by simp;exact Or.inl (by simpa using hx)))
   ·have far:∀ x∈es.toList,x.val.ownBlock=none∨x.val.ownBlock≠v2.ownBlock:=fun x hx=>by
     rcases hv with e | e
     ·rcases hq:x.val.ownBlock with _ | g
      ·exact Or.inl rfl
      ·right;rw[e];simp[Value.ownBlock]
     ·obtain⟨u,hu,ho1⟩:=h1 x hx
      rcases hq:x.val.ownBlock with _ | g
      ·exact Or.inl rfl
      ·right;rw[e];have:=wJ ho1 hq;simp;omega
    intro x hx y hy hxy
    simp at hx hy
    rcases hx with hx | rfl <;> rcases hy with hy | rfl
    ·exact h3 x (by simpa using hx) y (by simpa using hy) hxy
    ·exact far x (by simpa using hx)
    ·rcases far y (by simpa using hy) with e | e
     ·rcases hq:v2.ownBlock with _ | g
      ·exact Or.inl rfl
      ·right;rw[e];simp
     ·exact Or.inr (fun e1=>e e1.symm)
    ·exact absurd rfl hxy
 ·have hj:es[j]?=some e0:=by simpa using g2
  have he0:e0∈es.toList:=List.mem_of_getElem? g2
  have hsame:es.modify j (fun e=>{ e with key:=kv t })=es:=by
   apply Array.ext'
   rw[Array.toList_modify,ChangeMaps.modify_eq_set _ _ _ _ g2]
   have:({ e0 with key:=kv t }:MapEntry)=e0:=by rw[←g3]
   rw[this]
   exact WideElems.set_self _ _ _ g2
  obtain⟨u0,hu0,ho0⟩:=h1 e0 he0
  have hut:t=u0:=Xr (by rw[←g3,hu0])
  subst hut
  have hbs:setBlock w b (.map es clock)=w:=by
   unfold setBlock
   have:w.heap.setIfInBounds b (.map es clock)=w.heap:=by
    apply Array.ext_getElem?
    intro i
    rw[Array.getElem?_setIfInBounds]
    split
    ·rename_i e;subst e;exact hb.symm
    ·rfl
   rw[this]
  refine⟨e0.val,e0.born,w,?_,ho0,⟨rfl,rfl,rfl,Nat.le_refl _,fun _ _ _=>rfl⟩,rfl,GG ho0 hb,?_⟩
  ·have hr:(Instr.mapEntry 239 (.map (some b)) (kv t)).run Tryz.prog w=.ok (.tuple #[e0.val,goInt e0.born]) (setBlock w b (.map es clock)):=by
    simp[Instr.mapEntry,run_underlying ht,MapKept.run_getObj_map hb,ek.check w false hkl,g1,hj,g3,ek.stays w hkl,hsame,MapKept.run_setObj_map _ hb,Result.andThen,setBlock]
   rw[hr,hbs]
  ·intro w2 v2 l hg ho hv
   have hw2:w2.heap[b]?=some (.map es clock):=(hg.block b hblt (fun e=>GG ho0 hb e.symm)).trans hb
   have hidx:es.findIdx? (fun e=>((e.born:Nat):Int) == ((e0.born:Nat):Int))=some j:=by
    rw[WideElems.findIdx_arr]
    exact WideElems.findIdx_born s2 g2
   refine⟨setBlock w2 b (.map (es.modify j (fun e=>{ e with val:=v2 })) clock),by simp[Instr.entryStore,MapKept.run_getObj_map hw2,asInt,asIntOf,goInt,hidx,MapKept.run_setObj_map _ hw2,Result.andThen,setBlock],?_,grow _ _ _ _ hw2⟩
   have hl:(es.modify j (fun e=>{ e with val:=v2 })).toList=es.toList.set j { e0 with val:=v2 }:=by
    rw[Array.toList_modify,ChangeMaps.modify_eq_set _ _ _ _ g2]
   have hjl:j < es.toList.length:=by
    rcases Nat.lt_or_ge j es.toList.length with h | h
    ·exact h
    ·rw[List.getElem?_eq_none h]at g2;cases g2
   have hmem:∀ x,x∈es.toList.set j { e0 with val:=v2 }→x={ e0 with val:=v2 }∨(x∈es.toList∧x.key≠kv t):=fun x hx=>by
    obtain⟨i,hi,rfl⟩:=List.mem_iff_getElem.1 hx
    by_cases hij:i=j
    ·subst hij;left;simp
    ·right
     have hil:i < es.toList.length:=by simpa using hi
     rw[List.getElem_set_ne (fun e=>hij e.symm)]
     refine⟨List.getElem_mem hil,fun e=>hij ?_⟩
     refine (List.getElem?_inj (l:=es.toList.map (·.key)) (by simpa using hil) s3).1 ?_
     rw[List.getElem?_map,List.getElem?_map,g2,List.getElem?_eq_getElem hil]
     simp only[Option.map_some]
     rw[e,g3]
   have ACT:∀ {β:Type} (f:MapEntry→β),(f { e0 with val:=v2 }=f e0)→(es.toList.set j { e0 with val:=v2 }).map f=es.toList.map f:=fun {β} f hf=>by
    rw[List.map_set,hf]
    have:=WideElems.set_self (es.toList.map f) j (f e0) (by rw[List.getElem?_map,g2];rfl)
    exact this
   have hkeep:∀ (k:Nat),k < w.heap.size→some k≠e0.val.ownBlock→w2.heap[k]?=w.heap[k]?:=fun k hk hkb=>hg.block k hk hkb
   have AKV:∀ (u:Rs),kv u=kv t→u=t:=fun u e=>Xr e
   refine⟨h0,es.modify j (fun e=>{ e with val:=v2 }),clock,heap_setBlock_same hw2 _,⟨?_,?_,?_⟩,?_,?_,?_⟩
   ·rw[hl];intro x hx
    rcases hmem x hx with rfl | ⟨hx,_⟩
    ·exact s1 e0 he0
    ·exact s1 x hx
   ·rw[hl,ACT _ (by rfl)];exact s2
   ·rw[hl,ACT _ (by rfl)];exact s3
   ·rw[hl];intro x hx
    rcases hmem x hx with rfl | ⟨hx,hne⟩
    ·refine⟨t,g3,?_⟩
     unfold upd;rw[if_pos rfl]
     exact TY ho (fun k hk hkb=>heap_setBlock_other hw2 _ hkb) (GG ho hw2)
    ·obtain⟨u,hu,ho1⟩:=h1 x hx
     have hut:u≠t:=fun e=>hne (by rw[hu,e])
     refine⟨u,hu,?_⟩
     unfold upd;rw[if_neg hut]
     have hap:x.val.ownBlock=none∨x.val.ownBlock≠e0.val.ownBlock:=h3 x hx e0 he0 (by rw[g3];exact hne)
     refine V5 ho1 (fun k hk hkx hkb=>?_) (GG ho1 hb)
     rw[heap_setBlock_other hw2 _ hkb]
     refine hkeep k hk (fun e=>?_)
     rcases hap with e1 | e1
     ·rw[e1]at hkx;cases hkx
     ·exact e1 (hkx.trans e)
   ·rw[hl];intro u hu
    have hut:u≠t:=fun e=>hu { e0 with val:=v2 } (List.mem_iff_getElem.2 ⟨j,by simpa using hjl,by simp⟩) (by rw[e];exact g3)
    unfold upd;rw[if_neg hut]
    refine h2 u (fun x hx e=>?_)
    obtain⟨i,hi,rfl⟩:=List.mem_iff_getElem.1 hx
    have hij:j≠i:=fun e1=>by
     subst e1
     rw[List.getElem?_eq_getElem hi]at g2
     injection g2 with g2
     rw[g2,g3]at e
     exact hut (Xr e).symm
    exact hu es.toList[i] (List.mem_iff_getElem.2 ⟨i,by simpa using hi,by rw[List.getElem_set_ne hij]⟩) e
   ·have far:∀ x∈es.toList,x.key≠kv t→x.val.ownBlock=none∨x.val.ownBlock≠v2.ownBlock:=fun x hx hne=>by
     rcases hv with e | e
     ·rw[e];exact h3 x hx e0 he0 (by rw[g3];exact hne)
     ·obtain⟨u,hu,ho1⟩:=h1 x hx
      rcases hq:x.val.ownBlock with _ | g
      ·exact Or.inl rfl
      ·right;rw[e];have:=wJ ho1 hq;simp;omega
    rw[hl];intro x hx y hy hxy
    rcases hmem x hx with rfl | ⟨hx,hnx⟩ <;> rcases hmem y hy with rfl | ⟨hy,hny⟩
    ·exact absurd rfl hxy
    ·rcases far y hy hny with e | e
     ·rcases hq:v2.ownBlock with _ | g
      ·exact Or.inl rfl
      ·right;rw[e];simp
     ·exact Or.inr (fun e1=>e e1.symm)
    ·exact far x hx hnx
    ·exact h3 x hx y hy hxy
end Go.Proofs.YtabdianhoabhhaaGreatDoor.Match
namespace Go.Proofs.YtabdianhoabhhaaGreatDoor.Match
open Go Go.RowKit Go.Proofs.YtabdianhoabhhaaGreatDoor
set_option linter.unusedVariables false
def tl (t:Rs):List UInt8:=[t.1,t.2.1,t.2.2]
theorem AEB {s t:Rs} (h:tl s=tl t):s=t:=by
 obtain⟨a,b,c⟩:=s
 obtain⟨a',b',c'⟩:=t
 simp[tl]at h
 obtain⟨rfl,rfl,rfl⟩:=h
 rfl
def IX (w:World) (base b:Nat) (xs:List UInt8) (K:Nat):Prop:=L8 w base b (fun t=>VJ xs (tl t) K)
theorem wD (xs:List UInt8) (k:Nat) (h:k+3≤xs.length):Yb xs k=tl (xs[k],xs[k+1],xs[k+2]):=by
 unfold Yb tl
 rw[List.drop_eq_getElem_cons (by omega),List.drop_eq_getElem_cons (by omega),List.drop_eq_getElem_cons (by omega),List.take_succ_cons,List.take_succ_cons,List.take_succ_cons,List.take_zero]
theorem wE {w:World} {base b:Nat} {xs:List UInt8} {K:Nat} (hK:K+3≤xs.length) (t:Rs) (ht:Yb xs K=tl t) (h:L8 w base b (upd (fun t=>VJ xs (tl t) K) t (VJ xs (tl t) K++[K]))):IX w base b xs (K+1):=by
 unfold IX
 have e:(fun t=>VJ xs (tl t) (K+1))=upd (fun t=>VJ xs (tl t) K) t (VJ xs (tl t) K++[K]):=by
  funext u
  unfold upd
  rw[Zi]
  by_cases hu:u=t
  ·subst hu;rw[if_pos ⟨hK,ht⟩,if_pos rfl]
  ·rw[if_neg hu,if_neg (fun h=>hu (AEB (h.2.symm.trans ht)))];simp
 rw[e];exact h
theorem wF {w:World} {base b:Nat} {xs:List UInt8} {K:Nat} (hK:¬ K+3≤xs.length) (h:IX w base b xs K):IX w base b xs (K+1):=by
 unfold IX at h⊢
 have e:(fun t=>VJ xs (tl t) (K+1))=(fun t=>VJ xs (tl t) K):=by
  funext u;rw[Zi,if_neg (fun h=>hK h.1)];simp
 rw[e];exact h
structure Ey (base b:Nat) (w w':World):Prop where
 below:Below base w w'
 other:∀ (k:Nat) (o:Obj),w.heap[k]?=some o→k≠b→(∀ cs t fr,o=Obj.cells cs t fr→t≠3)→w'.heap[k]?=some o
section
variable {base b:Nat} {w w' w'':World}
theorem Ey.refl (base b:Nat) (w:World):Ey base b w w:=⟨Below.refl _ _,fun _ _ h _ _=>h⟩
theorem Ey.alloc (h:Ey base b w w') (hb:base≤w'.heap.size) (o:Obj):Ey base b w (w'.alloc o):=
 ⟨h.below.alloc hb o,fun k u hu hkb ht=>by
  have:=h.other k u hu hkb ht
  rw[Below.heap_alloc w' o k (Array.getElem?_eq_some_iff.1 this).1];exact this⟩
theorem Ey.map (h:Ey base b w w') (hbb:base≤b) (hb:base≤w'.heap.size) (hg:w'.grownBy w'' (some b)):Ey base b w w'':=
 ⟨h.below.trans ⟨hg.os,hg.tape,hg.output,hg.size,fun k hk=>hg.block k (by omega) (by simp;omega)⟩,fun k u hu hkb ht=>by
  have:=h.other k u hu hkb ht
  rw[hg.block k (Array.getElem?_eq_some_iff.1 this).1 (by simpa using hkb)];exact this⟩
theorem Ey.row (h:Ey base b w w') (hb:base≤w'.heap.size) {v:Value} {n:Nat} {xs:List Value} (ho:w'.ownsRow base 3 1 v n xs) (hg:w'.grownBy w'' v.ownBlock):Ey base b w w'':=by
 have key:∀ (k:Nat),v.ownBlock=some k→base≤k∧∃ cs fr,w'.heap[k]?=some (.cells cs 3 fr):=fun k hk=>by
  rcases ho.2 with ⟨rfl,_⟩ | ⟨g,cap,cur,rfl,h1,h2,_⟩
  ·simp[Value.ownBlock]at hk
  ·simp only[Value.ownBlock,Option.some.injEq]at hk
   subst hk;exact⟨h1,_,_,h2⟩
 refine⟨h.below.trans ⟨hg.os,hg.tape,hg.output,hg.size,fun k hk=>hg.block k (by omega) (fun e=>?_)⟩,fun k u hu hkb ht=>?_⟩
 ·have:=(key k e.symm).1;omega
 ·have:=h.other k u hu hkb ht
  rw[hg.block k (Array.getElem?_eq_some_iff.1 this).1 (fun e=>?_)]
  ·exact this
  ·obtain⟨_,cs,fr,hc⟩:=key k e.symm
   rw[this]at hc;injection hc with hc;subst hc
   exact ht _ _ _ rfl rfl
end
theorem run_arrayAt (w:World) (a:Option Addr) (m:Nat):(Instr.arrayAt 287 (.slice a 3 m)).run Tryz.prog w=.ok (.pointer a) w:=by
 simp[Instr.arrayAt,run_underlying Tryz.underlying287]
set_option maxRecDepth 100000 in
set_option maxHeartbeats 1600000 in
theorem AAq (A:Option Addr) (n c K base b:Nat) (xs:List UInt8) (w:World) (hn:xs.length=n) (hnc:n≤c) (hx:n≤1000000) (hA:BI w A xs) (hk:K+3≤n) (hI:IX w base b xs K) :
  Calls Tryz.prog 188 #[.map (some b),.slice A n c,.int .i64 (K:Int)] w fun e w'=>e=.returned (.tuple #[])∧IX w' base b xs (K+1)∧Ey base b w w':=by
 have HI:=Lib.hid hI
 have Hn:=Lib.hid hn
 have hk':K+3≤xs.length:=by omega
 obtain⟨bb,o,rfl,hc0⟩:=hA.get (k:=K) (by omega)
 obtain⟨b',o',hb,hc1⟩:=hA.get (k:=K+1) (by omega)
 injection hb with hb;injection hb with e1 e2 e3;subst e1 e2
 obtain⟨b',o',hb,hc2⟩:=hA.get (k:=K+2) (by omega)
 injection hb with hb;injection hb with e1 e2 e3;subst e1 e2
 have Ht:=Lib.hid (wD xs K hk')
 clear hI hA
 generalize xs[K]=x0 at *
 generalize xs[K+1]=x1 at *
 generalize xs[K+2]=x2 at *
 clear hn
 rw[←Nat.add_assoc]at hc1 hc2
 have g1:(K:Int)+3≤(c:Int):=by omega
 have g2:(0:Int)≤(K:Int)+3:=by omega
 have g3:¬ c=K:=by omega
 have ka:=run_arrayAt
 go_enter Tryz.func188,Tryz.ntmps188
 go_wp2_with fail
 have hblt:=HI.out.lt
 have hbb:=HI.out.1
 obtain⟨v,st,w1,hrun,hown,hg1,hsz1,hvb,hback⟩:=L8.entry ((HI.out.alloc (.cells #[.int .u8 (n8 x0),.int .u8 (n8 x1),.int .u8 (n8 x2)] 287)).alloc (.cells #[.int .i64 (K:Int)] 3)) (x0,x1,x2)
 have hr:(Instr.mapEntry 239 (.map (some b)) (.agg #[.int .u8 (n8 x0),.int .u8 (n8 x1),.int .u8 (n8 x2)])).run Tryz.prog ((w.alloc (.cells #[.int .u8 (n8 x0),.int .u8 (n8 x1),.int .u8 (n8 x2)] 287)).alloc (.cells #[.int .i64 (K:Int)] 3))=.ok (.tuple #[v,goInt st]) w1:=hrun
 have AGo:=Lib.hid hback
 have DK:=Lib.hid hown
 have Hg1:=Lib.hid hg1
 have Hvb:=Lib.hid hvb
 have AAr:=Lib.hid hsz1
 have Hr:=Lib.hid hr
 have YX:=Lib.hid (jg xs (tl (x0,x1,x2)) K)
 have HSl:Hid (AQ w1 (some ⟨w.heap.size+1,0,none⟩) [.int .i64 (K:Int)]):=Lib.hid (by
  have:=SC (w.alloc (.cells #[.int .u8 (n8 x0),.int .u8 (n8 x1),.int .u8 (n8 x2)] 287)) 3 (.int .i64 (K:Int))
  intro hp
  obtain⟨q,r,e,hq⟩:=this hp
  refine⟨q,r,by simpa using e,fun j u hj=>?_⟩
  have h1:=hq j u hj
  have eq:w.heap.size+1=q:=by simp at e;omega
  have a1:q < ((w.alloc (.cells #[.int .u8 (n8 x0),.int .u8 (n8 x1),.int .u8 (n8 x2)] 287)).alloc (.cells #[.int .i64 (K:Int)] 3)).heap.size:=by simp;omega
  have a2:some q≠some b:=by simp only[Option.some.injEq,ne_eq];omega
  rw[World.cell?_of_block (hg1.block q a1 a2)]
  exact h1)
 clear hback hown hg1 hvb hsz1 hr hrun
 generalize AGp:VJ xs (tl (x0,x1,x2)) K=ls at *
 have Hls:=Lib.hid AGp
 clear AGp
 have hls:ls.length≤1000000:=by have:=YX.out;omega
 rw[Hr.out]
 go_wp2_with (at_builtin;refine AY _ rfl (.tmp 21) (.tmp 23) _ rfl base 3 _ 1 8 bX v ls.length (ls.map BR) rfl DK.out (some ⟨w.heap.size+1,0,none⟩) 1 1 [.int .i64 (K:Int)] rfl rfl HSl.out (by simp[Value.oneCell']) (by simp) (by unfold maxLen;omega) (by omega) (by have:=AAr.out;simp at this;omega) ?_;intro v2 w2 hown2 hg2 hl2)
 obtain⟨w3,hr3,hG,hg3⟩:=AGo.out w2 v2 (ls++[K]) hg2 (by rw[List.length_append,List.map_append];exact hown2) (by rw[←AAr.out];exact hl2)
 have HK:=Lib.hid ((((((Ey.refl base b w).alloc (by omega) (.cells #[.int .u8 (n8 x0),.int .u8 (n8 x1),.int .u8 (n8 x2)] 287)).alloc (by simp;omega) (.cells #[.int .i64 (K:Int)] 3)).map hbb (by simp;omega) Hg1.out).row (by have:=AAr.out;simp at this;omega) DK.out hg2).map hbb (by have:=AAr.out;have:=hg2.size;simp at *;omega) hg3)
 have HG:=Lib.hid hG
 have Hr3:Hid ((Instr.entryStore 239 (.map (some b)) (.int .i64 st) v2).run Tryz.prog w2=.ok () w3):=Lib.hid hr3
 clear hG hg3 hr3 hown2 hg2 hl2
 rw[Hr3.out]
 go_wp2_with fail
 go_end0
 exact⟨rfl,wE (by rw[Hn.out];exact hk) _ Ht.out (by rw[Hls.out];exact HG.out),HK.out⟩
set_option maxHeartbeats 400000 in
theorem AEC (A:Option Addr) (n c K b:Nat) (w:World) (hx:n≤1000000) (hk:n < K+3) (hK:K≤n) :
  Calls Tryz.prog 188 #[.map (some b),.slice A n c,.int .i64 (K:Int)] w fun e w'=>e=.returned (.tuple #[])∧w'=w:=by
 have hI:¬ ((K:Int)+3≤(n:Int)):=by omega
 go_enter Tryz.func188,Tryz.ntmps188
 go_wp2_with fail
 go_end0
 exact⟨rfl,rfl⟩
theorem CW (A:Option Addr) (n c K base b:Nat) (xs:List UInt8) (w:World) (hn:xs.length=n) (hnc:n≤c) (hx:n≤1000000) (hA:BI w A xs) (hK:K≤n) (hI:IX w base b xs K) :
  Calls Tryz.prog 188 #[.map (some b),.slice A n c,.int .i64 (K:Int)] w fun e w'=>e=.returned (.tuple #[])∧IX w' base b xs (K+1)∧Ey base b w w':=by
 by_cases h:K+3≤n
 ·exact AAq A n c K base b xs w hn hnc hx hA h hI
 ·refine (AEC A n c K b w hx (by omega) hK).mono ?_
  rintro e w' ⟨rfl,rfl⟩
  exact⟨rfl,wF (by omega) hI,Ey.refl _ _ _⟩
def TV (xs:List UInt8) (k:Nat) (w:World) (e:Ending) (w':World):Prop:=e=.returned (.tuple #[.int .i64 (((longest xs k).1:Nat):Int),.int .i64 (((longest xs k).2:Nat):Int)])∧∃ d,w'=w.drewN d
theorem nO (xs:List UInt8) (k:Nat) (l:List Nat) (h:∀ p∈l,p≤k):(tryAll xs k l).1≤258∧(tryAll xs k l).2≤k:=by
 have key:∀ (l:List Nat) (s:Nat×Nat),(∀ p∈l,p≤k)→s.1≤258∧s.2≤k→(l.foldl (IE xs k) s).1≤258∧(l.foldl (IE xs k) s).2≤k:=by
  intro l
  induction l with
  | nil=>intro s _ h;exact h
  | cons a l ih=>
   intro s hl hs
   refine ih _ (fun p hp=>hl p (by simp[hp])) ?_
   have:=Ru xs a k (hl a (by simp))
   unfold IE
   split
   ·exact⟨this.1,Nat.sub_le _ _⟩
   ·exact hs
 exact key l (0,0) h ⟨by simp,by simp⟩
set_option maxRecDepth 100000 in
set_option maxHeartbeats 1600000 in
theorem wG (A:Option Addr) (n c k base b:Nat) (xs:List UInt8) (w:World) (hn:xs.length=n) (hnc:n≤c) (hx:n≤1000000) (hA:BI w A xs) (hk:k+3≤n) (hI:IX w base b xs k) :
  Calls Tryz.prog 187 #[.map (some b),.slice A n c,.int .i64 (k:Int)] w (TV xs k w):=by
 have Hn:=Lib.hid hn
 have HA:=Lib.hid hA
 have hk':k+3≤xs.length:=by omega
 obtain⟨bb,o,rfl,hc0⟩:=hA.get (k:=k) (by omega)
 obtain⟨b',o',hb,hc1⟩:=hA.get (k:=k+1) (by omega)
 injection hb with hb;injection hb with e1 e2 e3;subst e1 e2
 obtain⟨b',o',hb,hc2⟩:=hA.get (k:=k+2) (by omega)
 injection hb with hb;injection hb with e1 e2 e3;subst e1 e2
 have Hl:=Lib.hid (find_eq xs k hk')
 have Ht:=wD xs k hk'
 rw[Ht]at Hl
 have Hlt:Hid (∀ p∈VJ xs (tl (xs[k],xs[k+1],xs[k+2])) k,p < k):=Lib.hid (fun p hp=>(AED xs _ k p hp).1)
 have YX:=Lib.hid (jg xs (tl (xs[k],xs[k+1],xs[k+2])) k)
 obtain⟨v,hr,hown⟩:=hI.look (xs[k],xs[k+1],xs[k+2])
 simp only[kv,Eh]at hr
 obtain⟨B,cap,rfl,hv1,hv2,hsl,hv0⟩:=Ad hown
 have NA:=Lib.hid hsl
 clear hI hA hown Ht hsl hv0
 generalize VJ xs (tl (xs[k],xs[k+1],xs[k+2])) k=ls at *
 generalize xs[k]=x0 at *
 generalize xs[k+1]=x1 at *
 generalize xs[k+2]=x2 at *
 clear hn
 rw[←Nat.add_assoc]at hc1 hc2
 have g1:(k:Int)+3≤(c:Int):=by omega
 have g2:(0:Int)≤(k:Int)+3:=by omega
 have g3:¬ c=k:=by omega
 have ka:=run_arrayAt
 have hls:ls.length≤1000000:=by have:=YX.out;omega
 generalize hN:ls.length=N at *
 have HN:=Lib.hid hN
 clear hN
 go_enter Tryz.func187,Tryz.ntmps187
 go_wp2_with fail
 clear hr hc0 hc1 hc2 ka
 go_loopw [6,7,9] (fun a f j wr=>∃ d:Nat,d≤N∧j=.int .i64 ((N:Int) - 1 - (d:Int))∧a=.int .i64 (((tryAll xs k (ls.reverse.take d)).1:Nat):Int)∧f=.int .i64 (((tryAll xs k (ls.reverse.take d)).2:Nat):Int)∧∃ d,wr=w.drewN d) (fun _ _ i _=>(intOf i+1).toNat)
 case atStart=>exact⟨0,Nat.zero_le _,by simp,rfl,rfl,0,rfl⟩
 case round=>
  obtain⟨d,hd,rfl,rfl,rfl,q,rfl⟩:=hrel
  have hl:=nO xs k (ls.reverse.take d) (fun p hp=>Nat.le_of_lt (Hlt.out p (by have:=List.mem_of_mem_take hp;simpa using this)))
  have hl1:=hl.1
  have hl2:=hl.2
  clear hl
  by_cases hlt:d < N
  ·have hdr:d < ls.reverse.length:=by simp;have:=HN.out;omega
   have hge:(0:Int)≤(N:Int) - 1 - (d:Int):=by omega
   have hi:((N:Int) - 1 - (d:Int))=((N - 1 - d:Nat):Int):=by omega
   have hdl:N - 1 - d < ls.length:=by have:=HN.out;omega
   have Hs:=Lib.hid (show tryAll xs k (ls.reverse.take (d+1))=IE xs k (tryAll xs k (ls.reverse.take d)) ls.reverse[d] by rw[BJ _ _ hdr,Q4])
   have Hg:Hid (ls.reverse[d]=ls[N - 1 - d]):=Lib.hid (by rw[List.getElem_reverse];congr 1;have:=HN.out;omega)
   obtain⟨bi,oi,rfl,hci⟩:=NA.out.get (k:=N - 1 - d) (by simpa using hdl)
   simp only[List.getElem_map,BR]at hci
   have hpk:=Hlt.out ls[N - 1 - d] (List.getElem_mem hdl)
   rw[Hg.out]at Hs
   rw[hi]at hge⊢
   have Hd:Hid (d+1+(N - 1 - d)=N):=Lib.hid (by omega)
   clear hi hdr Hg
   generalize tryAll xs k (ls.reverse.take d)=s at *
   obtain⟨a,f⟩:=s
   generalize ls[N - 1 - d]=i at *
   clear hdl
   generalize N - 1 - d=z at *
   dsimp only at hl1 hl2⊢
   have hzN:z < N:=by have:=Hd.out;omega
   have ANI:(z:Int) < (N:Int):=by omega
   have hki:IntKind.i64.wrap ((k:Int) - (i:Int))=(k:Int) - (i:Int):=IntWalk.i64_in _ (by omega)
   go_wp2_with fail
   refine (TW _ n c i k xs _ Hn.out hx (by exact HA.out) (by omega) (by omega)).mono ?_
   rintro e w1 ⟨rfl,q2,rfl⟩
   have AGq:Hid (a < EN xs i k→IE xs k (a,f) i=(EN xs i k,k - i)):=Lib.hid (fun h=>if_pos h)
   have AGr:Hid (¬ a < EN xs i k→IE xs k (a,f) i=(a,f)):=Lib.hid (fun h=>if_neg h)
   generalize EN xs i k=m at *
   by_cases hz:a < m
   ·have Hs2:Hid (tryAll xs k (ls.reverse.take (d+1))=(m,k - i)):=Lib.hid (by rw[Hs.out];exact AGq.out hz)
    go_wp2_with fail
    go_quiet (fail)
    go_wp2_with fail
    go_roundw
    case rel=>exact⟨d+1,by omega,int_eq (by have:=Hd.out;omega),by rw[Hs2.out],by rw[Hs2.out];exact int_eq (by dsimp only;omega),_,rfl⟩
    case measure=>simp[intOf]
   ·have Hs2:Hid (tryAll xs k (ls.reverse.take (d+1))=(a,f)):=Lib.hid (by rw[Hs.out];exact AGr.out hz)
    go_wp2_with fail
    go_roundw
    case rel=>exact⟨d+1,by omega,int_eq (by have:=Hd.out;omega),by rw[Hs2.out],by rw[Hs2.out],_,rfl⟩
    case measure=>simp[intOf]
  ·obtain rfl:d=N:=by omega
   have FY:Hid (tryAll xs k (ls.reverse.take d)=longest xs k):=Lib.hid (by
    rw[List.take_of_length_le (by simp;have:=HN.out;omega)];exact Hl.out)
   rw[FY.out]at hl1 hl2⊢
   go_wp2_with fail
   go_ret2
   exact⟨rfl,_,rfl⟩
theorem AAs (A:Option Addr) (n c k b:Nat) (xs:List UInt8) (w:World) (hn:xs.length=n) (hx:n≤1000000) (hk:n < k+3) (hK:k≤n) :
  Calls Tryz.prog 187 #[.map (some b),.slice A n c,.int .i64 (k:Int)] w (TV xs k w):=by
 have Hl:=Lib.hid (Zj xs k (by omega))
 have hI:¬ ((k:Int)+3≤(n:Int)):=by omega
 clear hn
 go_enter Tryz.func187,Tryz.ntmps187
 go_wp2_with fail
 go_ret2
 exact⟨by rw[Hl.out];rfl,0,rfl⟩
theorem Zk (A:Option Addr) (n c k base b:Nat) (xs:List UInt8) (w:World) (hn:xs.length=n) (hnc:n≤c) (hx:n≤1000000) (hA:BI w A xs) (hk:k≤n) (hI:IX w base b xs k) :
  Calls Tryz.prog 187 #[.map (some b),.slice A n c,.int .i64 (k:Int)] w (TV xs k w):=by
 by_cases h:k+3≤n
 ·exact wG A n c k base b xs w hn hnc hx hA h hI
 ·exact AAs A n c k b xs w hn hx (by omega) hk
end Go.Proofs.YtabdianhoabhhaaGreatDoor.Match
namespace Go.Proofs.YtabdianhoabhhaaGreatDoor.Match
open Go Go.RowKit Go.Proofs.YtabdianhoabhhaaGreatDoor
set_option linter.unusedVariables false
theorem tyT:Bj Tryz.prog 206 244 (.agg #[.int .u8 0,.int .i64 0,.int .i64 0]) 3 24:=⟨Tryz.underlying206,by kernel_rfl,rfl,by omega⟩
def RU (t:Tok):List Value:=[Eh t.1,iv t.2.1,iv t.2.2]
theorem Ey.own {base b:Nat} {w w':World} (h:Ey base b w w') {F:Rs→List Nat} {B:Nat} (hI:L8 w B b F) {base':Nat} {e:TypeId} {size n:Nat} {v:Value} {xs:List Value} (ho:w.ownsRow base' e size v n xs) (he:e≠3):w'.ownsRow base' e size v n xs:=by
 refine⟨ho.1,?_⟩
 rcases ho.2 with h0 | ⟨g,cap,cur,rfl,h1,h2,h3⟩
 ·exact Or.inl h0
 ·refine Or.inr ⟨g,cap,cur,rfl,h1,?_,h3⟩
  refine h.other g _ h2 (fun eb=>?_) (fun cs t fr ec=>by injection ec with e1 e2 e3;rw[←e2];exact he)
  obtain⟨_,es,clock,hb,_⟩:=hI
  rw[eb,hb]at h2;cases h2
theorem L8.grown {w w':World} {base b:Nat} {F:Rs→List Nat} (h:L8 w base b F) {base':Nat} {e:TypeId} {size n:Nat} {v:Value} {xs:List Value} (ho:w.ownsRow base' e size v n xs) (hg:w.grownBy w' v.ownBlock) (he:e≠3):L8 w' base b F:=
 h.keep fun k o hk ht=>by
  rw[hg.block k (Array.getElem?_eq_some_iff.1 hk).1 (fun eq=>?_)]
  ·exact hk
  ·rcases ho.2 with ⟨rfl,_⟩ | ⟨g,cap,cur,rfl,h1,h2,h3⟩
   ·simp[Value.ownBlock]at eq
   ·simp only[Value.ownBlock,Option.some.injEq]at eq
    subst eq
    rw[h2]at hk;injection hk with hk
    exact he (ht _ _ _ hk.symm)
def AEG (xs:List UInt8) (w:World) (e:Ending) (w':World):Prop:=
 (∃ v,e=.returned (.tuple #[v,.int .i64 0])∧w'.ownsRow w.heap.size 244 3 v (toks xs).length ((toks xs).flatMap RU))∧Below w.heap.size w w'
theorem nW {b:List UInt8} {k a m:Nat} {l:List Tok} (hk:k < b.length) (h:(longest b k).1=0∨(k+1 < b.length∧(longest b k).1 < (longest b (k+1)).1)):KT b (k,l)=(k+1,l++[(b[k],0,0)]):=by
 unfold KT
 rw[if_pos hk,if_pos h]
 simp only[List.getD_eq_getElem?_getD,List.getElem?_eq_getElem hk];rfl
theorem nX {b:List UInt8} {k:Nat} {l:List Tok} (hk:k < b.length) (h:¬ ((longest b k).1=0∨(k+1 < b.length∧(longest b k).1 < (longest b (k+1)).1))):KT b (k,l)=(k+(longest b k).1,l++[(0,((longest b k).1:Int),((longest b k).2:Int))]):=by
 unfold KT
 rw[if_pos hk,if_neg h]
set_option maxRecDepth 100000 in
set_option maxHeartbeats 4000000 in
theorem Sd (A:Option Addr) (n c:Nat) (xs:List UInt8) (w:World) (hn:xs.length=n) (hnc:n≤c) (hx:n≤3000) (hA:BI w A xs) :
  Calls Tryz.prog 155 #[.slice A n c] w (AEG xs w):=by
 have Hn:=Lib.hid hn
 have HA:=Lib.hid hA
 clear hn hA
 have hnm:¬ (3000 < (n:Int)):=by omega
 have hmm:=@run_makeMap Tryz.prog
 go_enter Tryz.func155,Tryz.ntmps155
 go_wp2_with fail
 clear hmm
 go_loopw [5,6] (fun v i wr=>∃ V:Value,V=v∧∃ m k:Nat,∃ l:List Tok,Bl xs m=(k,l)∧k≤n∧l.length≤k∧i=.int .i64 (k:Int)∧wr.ownsRow w.heap.size 244 3 V l.length (l.flatMap RU)∧IX wr w.heap.size w.heap.size xs k∧Below w.heap.size w wr) (fun _ i _=>n - (intOf i).toNat)
 case atStart=>exact⟨_,rfl,0,0,[],rfl,Nat.zero_le _,Nat.le_refl _,rfl,World.ownsRow_nil _ _ _ _,L8.made w (Nat.le_refl _),(Below.refl _ w).alloc (Nat.le_refl _) _⟩
 case round=>
  obtain⟨v,rfl,m,k,l,hm,hk,hl,rfl,ho,hI,hb⟩:=hrel
  have Hm:=Lib.hid hm
  have Ho:=Lib.hid ho
  have HI:=Lib.hid hI
  have Hb:=Lib.hid hb
  clear hm ho hI hb
  by_cases hlt:k < n
  ·have hkl:k < xs.length:=by rw[Hn.out];exact hlt
   have HA1:=Lib.hid (HA.out.below Hb.out)
   go_wp2_with fail
   refine (Zk A n c k _ _ xs _ Hn.out hnc (by omega) HA1.out hk HI.out).mono ?_
   rintro e w1 ⟨rfl,hd⟩
   have hle:=Gm xs k
   have AKW:=hle.1
   have hsum:=hle.2.1
   have AEH:=hle.2.2.1
   clear hle
   have HI1:Hid (IX w1 w.heap.size w.heap.size xs k):=Lib.hid (by obtain⟨q,rfl⟩:=hd;exact HI.out)
   have Ho1:Hid (w1.ownsRow w.heap.size 244 3 v l.length (l.flatMap RU)):=Lib.hid (by obtain⟨q,rfl⟩:=hd;exact Ho.out)
   have HA2:Hid (BI w1 A xs):=Lib.hid (by obtain⟨q,rfl⟩:=hd;exact HA1.out)
   have Hb1:Hid (Below w.heap.size w w1):=Lib.hid (by obtain⟨q,rfl⟩:=hd;exact below_drewN' Hb.out q)
   clear hd HI Ho HA1 Hb
   have Xx:Hid ((longest xs k).1=0∨(k+1 < xs.length∧(longest xs k).1 < (longest xs (k+1)).1)→Bl xs (m+1)=(k+1,l++[(xs[k],0,0)])):=Lib.hid (fun h=>by
    show KT xs (Bl xs m)=_
    rw[Hm.out];exact nW (a:=0) (m:=0) hkl h)
   have Xy:Hid (¬ ((longest xs k).1=0∨(k+1 < xs.length∧(longest xs k).1 < (longest xs (k+1)).1))→Bl xs (m+1)=(k+(longest xs k).1,l++[(0,((longest xs k).1:Int),((longest xs k).2:Int))])):=Lib.hid (fun h=>by
    show KT xs (Bl xs m)=_
    rw[Hm.out];exact nX hkl h)
   rw[Hn.out]at hsum Xx Xy
   generalize longest xs k=s at *
   obtain⟨a,f⟩:=s
   dsimp only at AKW hsum AEH Xx Xy⊢
   go_wp2_with fail
   refine (CW A n c k _ _ xs _ Hn.out hnc (by omega) HA2.out hk HI1.out).mono ?_
   rintro e w2 ⟨rfl,hI2,hK2⟩
   have HI2:=Lib.hid hI2
   have bg:=Lib.hid (hK2.own HI1.out Ho1.out (by decide))
   have Hb2:=Lib.hid (Hb1.out.trans hK2.below)
   clear hI2 hK2 HI1 Ho1 HA2 Hb1
   have hkx:k < xs.length:=hkl
   have hll:l.length≤3000:=by omega
   by_cases ha:a=0
   ·have VH:=Lib.hid (Xx.out (Or.inl ha))
    subst ha
    obtain⟨w3,hw3⟩:∃ w3,w3=w2:=⟨_,rfl⟩
    subst hw3
    clear Xx Xy
    obtain⟨bb,oo,rfl,hcell⟩:=(HA.out.below Hb2.out).get hkx
    generalize xs[k]=x at *
    have HI3:=Lib.hid (L8.alloc HI2.out (.cells #[.int .u8 (n8 x),.int .i64 0,.int .i64 0] 244))
    have P6:=Lib.hid (AP bg.out ((Below.refl w3.heap.size w3).alloc (Nat.le_refl _) (.cells #[.int .u8 (n8 x),.int .i64 0,.int .i64 0] 244)))
    have Hb3:=Lib.hid (Hb2.out.alloc Hb2.out.size (.cells #[.int .u8 (n8 x),.int .i64 0,.int .i64 0] 244))
    have NA:Hid (AQ (w3.alloc (.cells #[.int .u8 (n8 x),.int .i64 0,.int .i64 0] 244)) (some ⟨w3.heap.size,0,none⟩) [.int .u8 (n8 x),.int .i64 0,.int .i64 0]):=Lib.hid (AQ.of_heap (heap_alloc_new _ _) rfl)
    go_wp2_with (at_builtin;refine AY _ rfl (.tmp 53) (.tmp 59) _ rfl w.heap.size 244 _ 3 24 tyT v l.length (l.flatMap RU) rfl P6.out (some ⟨w3.heap.size,0,none⟩) 1 1 [.int .u8 (n8 x),.int .i64 0,.int .i64 0] rfl rfl NA.out (by simp[Value.oneCell']) (by simp) (by unfold maxLen;omega) (by omega) Hb3.out.size ?_;intro v4 w4 DJ hg4 _;have bY:=Lib.hid DJ;have HI4:=Lib.hid (L8.grown HI3.out P6.out hg4 (by decide));have Hb4:=Lib.hid (own_below P6.out hg4 Hb3.out Hb3.out.size);clear DJ hg4)
    go_roundw
    case rel=>exact⟨v4,rfl,m+1,k+1,_,VH.out,by omega,by simp;omega,by go_num,by rw[List.length_append,List.flatMap_append];exact bY.out,HI4.out,Hb4.out⟩
    case measure=>simp[intOf];omega
   ·have ha0:0 < a:=by omega
    by_cases hk1:k+1 < n
    ·have AKX:(k:Int)+1 < (n:Int):=by omega
     go_wp2_with fail
     have AGv:((k:Int)+1)=((k+1:Nat):Int):=by omega
     rw[AGv]
     refine (Zk A n c (k+1) _ _ xs _ Hn.out hnc (by omega) (HA.out.below Hb2.out) (by omega) HI2.out).mono ?_
     rintro e w3 ⟨rfl,hd⟩
     clear AGv
     have AGw:=(Gm xs (k+1)).1
     have HI2:Hid (IX w3 w.heap.size w.heap.size xs (k+1)):=Lib.hid (by obtain⟨q,rfl⟩:=hd;exact HI2.out)
     have bg:Hid (w3.ownsRow w.heap.size 244 3 v l.length (l.flatMap RU)):=Lib.hid (by obtain⟨q,rfl⟩:=hd;exact bg.out)
     have Hb2:Hid (Below w.heap.size w w3):=Lib.hid (by obtain⟨q,rfl⟩:=hd;exact below_drewN' Hb2.out q)
     clear hd
     generalize longest xs (k+1)=s2 at *
     obtain⟨a2,f2⟩:=s2
     dsimp only at AGw Xx Xy⊢
     by_cases hm2:a < a2
     ·have VH:=Lib.hid (Xx.out (Or.inr ⟨hk1,hm2⟩))
      clear Xx Xy
      obtain⟨bb,oo,rfl,hcell⟩:=(HA.out.below Hb2.out).get hkx
      generalize xs[k]=x at *
      have HI3:=Lib.hid (L8.alloc HI2.out (.cells #[.int .u8 (n8 x),.int .i64 0,.int .i64 0] 244))
      have P6:=Lib.hid (AP bg.out ((Below.refl w3.heap.size w3).alloc (Nat.le_refl _) (.cells #[.int .u8 (n8 x),.int .i64 0,.int .i64 0] 244)))
      have Hb3:=Lib.hid (Hb2.out.alloc Hb2.out.size (.cells #[.int .u8 (n8 x),.int .i64 0,.int .i64 0] 244))
      have NA:Hid (AQ (w3.alloc (.cells #[.int .u8 (n8 x),.int .i64 0,.int .i64 0] 244)) (some ⟨w3.heap.size,0,none⟩) [.int .u8 (n8 x),.int .i64 0,.int .i64 0]):=Lib.hid (AQ.of_heap (heap_alloc_new _ _) rfl)
      go_wp2_with (at_builtin;refine AY _ rfl (.tmp 53) (.tmp 59) _ rfl w.heap.size 244 _ 3 24 tyT v l.length (l.flatMap RU) rfl P6.out (some ⟨w3.heap.size,0,none⟩) 1 1 [.int .u8 (n8 x),.int .i64 0,.int .i64 0] rfl rfl NA.out (by simp[Value.oneCell']) (by simp) (by unfold maxLen;omega) (by omega) Hb3.out.size ?_;intro v4 w4 DJ hg4 _;have bY:=Lib.hid DJ;have HI4:=Lib.hid (L8.grown HI3.out P6.out hg4 (by decide));have Hb4:=Lib.hid (own_below P6.out hg4 Hb3.out Hb3.out.size);clear DJ hg4)
      go_roundw
      case rel=>exact⟨v4,rfl,m+1,k+1,_,VH.out,by omega,by simp;omega,by go_num,by rw[List.length_append,List.flatMap_append];exact bY.out,HI4.out,Hb4.out⟩
      case measure=>simp[intOf];omega
     ·have VH:=Lib.hid (Xy.out (by omega))
      clear Xx Xy
      have HI3:=Lib.hid (L8.alloc HI2.out (.cells #[.int .u8 0,.int .i64 (a:Int),.int .i64 (f:Int)] 244))
      have P6:=Lib.hid (AP bg.out ((Below.refl w3.heap.size w3).alloc (Nat.le_refl _) (.cells #[.int .u8 0,.int .i64 (a:Int),.int .i64 (f:Int)] 244)))
      have Hb3:=Lib.hid (Hb2.out.alloc Hb2.out.size (.cells #[.int .u8 0,.int .i64 (a:Int),.int .i64 (f:Int)] 244))
      have NA:Hid (AQ (w3.alloc (.cells #[.int .u8 0,.int .i64 (a:Int),.int .i64 (f:Int)] 244)) (some ⟨w3.heap.size,0,none⟩) [.int .u8 0,.int .i64 (a:Int),.int .i64 (f:Int)]):=Lib.hid (AQ.of_heap (heap_alloc_new _ _) rfl)
      have AKY:((a:Int) == 0)=false:=by simp;omega
      go_wp2_with (at_builtin;refine AY _ rfl (.tmp 63) (.tmp 67) _ rfl w.heap.size 244 _ 3 24 tyT v l.length (l.flatMap RU) rfl P6.out (some ⟨w3.heap.size,0,none⟩) 1 1 [.int .u8 0,.int .i64 (a:Int),.int .i64 (f:Int)] rfl rfl NA.out (by simp[Value.oneCell']) (by simp) (by unfold maxLen;omega) (by omega) Hb3.out.size ?_;intro v4 w4 DJ hg4 _;have bY:=Lib.hid DJ;have HI4:=Lib.hid (L8.grown HI3.out P6.out hg4 (by decide));have Hb4:=Lib.hid (own_below P6.out hg4 Hb3.out Hb3.out.size);clear DJ hg4)
      go_loopw [11] (fun t wx=>∃ j:Nat,1≤j∧j≤a∧t=.int .i64 (j:Int)∧IX wx w.heap.size w.heap.size xs (k+j)∧wx.ownsRow w.heap.size 244 3 v4 (l.length+1) (l.flatMap RU++[.int .u8 0,.int .i64 (a:Int),.int .i64 (f:Int)])∧Below w.heap.size w wx) (fun t _=>a - (intOf t).toNat)
      case atStart=>exact⟨1,Nat.le_refl _,by omega,rfl,HI4.out,bY.out,Hb4.out⟩
      case round=>
       obtain⟨j,hj1,hj,rfl,hIj,hoj,hbj⟩:=hrel
       have HIj:=Lib.hid hIj
       have Hoj:=Lib.hid hoj
       have Hbj:=Lib.hid hbj
       clear hIj hoj hbj
       by_cases hja:j < a
       ·have HAj:=Lib.hid (HA.out.below Hbj.out)
        go_wp2_with fail
        have hkj:((k:Int)+(j:Int))=((k+j:Nat):Int):=by omega
        rw[hkj]
        refine (CW A n c (k+j) _ _ xs _ Hn.out hnc (by omega) HAj.out (by omega) HIj.out).mono ?_
        rintro e w5 ⟨rfl,hI5,hK5⟩
        have HI5:=Lib.hid hI5
        have Ho5:=Lib.hid (hK5.own HIj.out Hoj.out (by decide))
        have Hb5:=Lib.hid (Hbj.out.trans hK5.below)
        clear hI5 hK5 hkj
        go_wp2_with fail
        go_roundw
        case rel=>exact⟨j+1,by omega,by omega,by go_num,HI5.out,Ho5.out,Hb5.out⟩
        case measure=>simp[intOf];omega
       ·obtain rfl:j=a:=by omega
        go_wp2_with fail
        go_roundw
        case rel=>exact⟨v4,rfl,m+1,k+j,_,VH.out,by omega,by simp;omega,by go_num,by rw[List.length_append,List.flatMap_append];exact Hoj.out,HIj.out,Hbj.out⟩
        case measure=>simp[intOf];omega
    ·have AKX:¬ ((k:Int)+1 < (n:Int)):=by omega
     have VH:=Lib.hid (Xy.out (by omega))
     obtain⟨w3,hw3⟩:∃ w3,w3=w2:=⟨_,rfl⟩
     subst hw3
     clear Xx Xy
     have HI3:=Lib.hid (L8.alloc HI2.out (.cells #[.int .u8 0,.int .i64 (a:Int),.int .i64 (f:Int)] 244))
     have P6:=Lib.hid (AP bg.out ((Below.refl w3.heap.size w3).alloc (Nat.le_refl _) (.cells #[.int .u8 0,.int .i64 (a:Int),.int .i64 (f:Int)] 244)))
     have Hb3:=Lib.hid (Hb2.out.alloc Hb2.out.size (.cells #[.int .u8 0,.int .i64 (a:Int),.int .i64 (f:Int)] 244))
     have NA:Hid (AQ (w3.alloc (.cells #[.int .u8 0,.int .i64 (a:Int),.int .i64 (f:Int)] 244)) (some ⟨w3.heap.size,0,none⟩) [.int .u8 0,.int .i64 (a:Int),.int .i64 (f:Int)]):=Lib.hid (AQ.of_heap (heap_alloc_new _ _) rfl)
     have AKY:((a:Int) == 0)=false:=by simp;omega
     go_wp2_with (at_builtin;refine AY _ rfl (.tmp 63) (.tmp 67) _ rfl w.heap.size 244 _ 3 24 tyT v l.length (l.flatMap RU) rfl P6.out (some ⟨w3.heap.size,0,none⟩) 1 1 [.int .u8 0,.int .i64 (a:Int),.int .i64 (f:Int)] rfl rfl NA.out (by simp[Value.oneCell']) (by simp) (by unfold maxLen;omega) (by omega) Hb3.out.size ?_;intro v4 w4 DJ hg4 _;have bY:=Lib.hid DJ;have HI4:=Lib.hid (L8.grown HI3.out P6.out hg4 (by decide));have Hb4:=Lib.hid (own_below P6.out hg4 Hb3.out Hb3.out.size);clear DJ hg4)
     go_loopw [11] (fun t wx=>∃ j:Nat,1≤j∧j≤a∧t=.int .i64 (j:Int)∧IX wx w.heap.size w.heap.size xs (k+j)∧wx.ownsRow w.heap.size 244 3 v4 (l.length+1) (l.flatMap RU++[.int .u8 0,.int .i64 (a:Int),.int .i64 (f:Int)])∧Below w.heap.size w wx) (fun t _=>a - (intOf t).toNat)
     case atStart=>exact⟨1,Nat.le_refl _,by omega,rfl,HI4.out,bY.out,Hb4.out⟩
     case round=>
      obtain⟨j,hj1,hj,rfl,hIj,hoj,hbj⟩:=hrel
      have HIj:=Lib.hid hIj
      have Hoj:=Lib.hid hoj
      have Hbj:=Lib.hid hbj
      clear hIj hoj hbj
      by_cases hja:j < a
      ·have HAj:=Lib.hid (HA.out.below Hbj.out)
       go_wp2_with fail
       have hkj:((k:Int)+(j:Int))=((k+j:Nat):Int):=by omega
       rw[hkj]
       refine (CW A n c (k+j) _ _ xs _ Hn.out hnc (by omega) HAj.out (by omega) HIj.out).mono ?_
       rintro e w5 ⟨rfl,hI5,hK5⟩
       have HI5:=Lib.hid hI5
       have Ho5:=Lib.hid (hK5.own HIj.out Hoj.out (by decide))
       have Hb5:=Lib.hid (Hbj.out.trans hK5.below)
       clear hI5 hK5 hkj
       go_wp2_with fail
       go_roundw
       case rel=>exact⟨j+1,by omega,by omega,by go_num,HI5.out,Ho5.out,Hb5.out⟩
       case measure=>simp[intOf];omega
      ·obtain rfl:j=a:=by omega
       go_wp2_with fail
       go_roundw
       case rel=>exact⟨v4,rfl,m+1,k+j,_,VH.out,by omega,by simp;omega,by go_num,by rw[List.length_append,List.flatMap_append];exact Hoj.out,HIj.out,Hbj.out⟩
       case measure=>simp[intOf];omega
  ·obtain rfl:k=n:=by omega
   have Hd:=Lib.hid (fA xs m (by rw[Hm.out,Hn.out];exact Nat.le_refl _))
   rw[Hm.out]at Hd
   go_wp2_with fail
   go_ret2
   exact⟨⟨_,rfl,by rw[←Hd.out];exact Ho.out⟩,Hb.out⟩
end Go.Proofs.YtabdianhoabhhaaGreatDoor.Match
namespace Go.Proofs.YtabdianhoabhhaaGreatDoor.AV
open Go Go.RowKit Go.Proofs.YtabdianhoabhhaaGreatDoor Go.Proofs.YtabdianhoabhhaaGreatDoor.Bits Go.Proofs.YtabdianhoabhhaaGreatDoor.Code Go.Proofs.YtabdianhoabhhaaGreatDoor.Inf Go.Proofs.YtabdianhoabhhaaGreatDoor.Match Go.Proofs.YtabdianhoabhhaaGreatDoor.SP Go.Proofs.YtabdianhoabhhaaGreatDoor.Rt
set_option linter.unusedVariables false
theorem jE:∀ (ts:List Tok) (n:Int),0≤n→(Ci ts n).1=0→n≤(Ci ts n).2∧∀ t∈ts,t.2.1=0∨t.2.2≤(Ci ts n).2
 | [],n,_,_=>⟨Int.le_refl _,fun t h=>by cases h⟩
 | x :: ts,n,hn,hk=>by
  simp only[Ci]at hk⊢
  have hx:(DV n x).1=0:=by
   by_cases h1:(DV n x).1=0
   ·exact h1
   ·rw[if_neg h1]at hk;exact hk
  rw[if_pos hx]at hk⊢
  have key:n≤(DV n x).2∧(x.2.1=0∨x.2.2≤n):=by
   unfold DV at hx⊢
   by_cases h1:x.2.1=0
   ·rw[if_pos h1]at hx⊢
    by_cases h2:x.2.2≠0
    ·rw[if_pos h2]at hx;simp at hx
    ·rw[if_neg h2];dsimp only;omega
   ·rw[if_neg h1]at hx⊢
    by_cases h2:x.1≠0
    ·rw[if_pos h2]at hx;simp at hx
    ·rw[if_neg h2]at hx⊢
     by_cases h3:x.2.1 < 3∨258 < x.2.1∨x.2.2 < 1
     ·rw[if_pos h3]at hx;simp at hx
     ·rw[if_neg h3]at hx⊢
      by_cases h4:n < x.2.2
      ·rw[if_pos h4]at hx;simp at hx
      ·rw[if_neg h4];dsimp only;omega
  obtain⟨h1,h2⟩:=jE ts (DV n x).2 (by omega) hk
  refine⟨by omega,fun t ht=>?_⟩
  rcases List.mem_cons.1 ht with rfl | ht
  ·rcases key.2 with h | h
   ·exact .inl h
   ·exact .inr (by omega)
  ·exact h2 t ht
theorem sO (b:List UInt8) (hb:b.length≤3000):∀ t∈toks b,rZ t:=by
 intro t ht
 have h0:=Sc b
 have h1:=Yp (toks b) 0 h0 t ht
 have h2:=(jE (toks b) 0 (Int.le_refl _) h0).2 t ht
 have h3:(Ci (toks b) 0).2=(b.length:Int):=by unfold toks;rw[Kr,P8]
 rw[h3]at h2
 unfold rZ
 rcases h1 with h | ⟨a1,a2,a3⟩
 ·exact .inl h
 ·rcases h2 with h | h
  ·exact .inl h
  ·exact .inr ⟨t.2.1.toNat,t.2.2.toNat,by omega,by omega,by omega,by omega,by omega,by omega⟩
theorem Va {t:Tok} (h:rZ t):XC t:=by
 rcases h with h | ⟨s,f,h1,h2,h3,_⟩
 ·exact .inl h
 ·exact .inr ⟨s,f,h1,h2,by omega⟩
def NZ (w:World) (base:Nat) (B:Option Addr) (xs:List UInt8):Prop:=∀ w':World,(∀ k,k < base→w'.heap[k]?=w.heap[k]?)→BI w' B xs
theorem NZ.of {w:World} {B:Option Addr} {xs:List UInt8} {base:Nat} (h:BI w B xs) (hb:w.heap.size≤base):NZ w base B xs:=fun w' hw hp=>by
 obtain⟨b,o,e,hc⟩:=h hp
 refine⟨b,o,e,fun j v hj=>?_⟩
 have h1:=hc j v hj
 have hlt:=block_lt_of_cell h1
 have h2:=hw b (by simpa using Nat.lt_of_lt_of_le hlt hb)
 rw[←h1]
 simp only[World.cell?,h2]
theorem NZ.at {w w':World} {base:Nat} {B:Option Addr} {xs:List UInt8} (h:NZ w base B xs) (hw:∀ k,k < base→w'.heap[k]?=w.heap[k]?):BI w' B xs:=h w' hw
theorem NZ.trans {w w':World} {base:Nat} {B:Option Addr} {xs:List UInt8} (h:NZ w base B xs) (hw:∀ k,k < base→w'.heap[k]?=w.heap[k]?):NZ w' base B xs:=fun w2 h2=>h w2 fun k hk=>(h2 k hk).trans (hw k hk)
theorem P9 (lit far:List Nat) (l1:lit.length=286) (l2:far.length=30) (c1:Cd lit) (c2:Cd far):(C8 lit far).length≤5000:=by
 rw[MJ]
 have tA:=J8 lit 257 (by omega)
 have tB:=J8 far 1 (by omega)
 have cA:=Je lit 257 c1
 have cB:=Je far 1 c2
 generalize BQ lit 257=A at *
 generalize BQ far 1=B at *
 have rA:∀ y∈A++B,y≤15:=fun y hy=>by
  rcases List.mem_append.1 hy with hy | hy
  ·exact cA.le y hy
  ·exact cB.le y hy
 have hR:=P5 (A++B)
 have hok:=XH (A++B) rA
 generalize Dk (A++B)=R at *
 obtain⟨s1,s2,s3,s4⟩:=Ns R
 have h1:=Jd (MO (D8 R)) 14 R (fun x hx=>Ym _ x (fun i=>XG _ 7 i s3) (hok x hx))
 have h2:=Jd (fun n=>numBits n 3) 3 (BQ (Aw.map fun k=>(D8 R).getD k 0) 4) (fun x _=>by rw[AL];exact Nat.le_refl _)
 have h3:=J8 (Aw.map fun k=>(D8 R).getD k 0) 4 (by rw[List.length_map];decide)
 have h4:(Aw.map fun k=>(D8 R).getD k 0).length=19:=by rw[List.length_map];rfl
 rw[List.length_append]at hR
 simp only[List.length_append,AL]
 omega
theorem Vb (l:List Tok) (lit far:List Nat) (c1:Cd lit) (c2:Cd far):(En l lit far).length≤48*l.length+15:=by
 unfold En
 have h1:=Jd (Gc lit far) 48 l (fun x _=>Yh lit far x c1 c2)
 have h2:=c1.bits (i:=256)
 rw[List.length_append,Bz];omega
theorem sP (r:List Bool) (b:List UInt8) (kind:Nat) (last:Bool) (hb:b.length≤3000):(J9 r b kind last).length≤r.length+200000:=by
 rw[jF,List.length_append]
 unfold Lu
 by_cases h0:kind=0
 ·rw[if_pos h0]
  simp only[List.length_append,AL,List.length_singleton,List.length_replicate,BV]
  omega
 ·rw[if_neg h0]
  have ht:=Ot b
  by_cases h1:kind=1
  ·rw[if_pos h1]
   have:=Vb (toks b) BU Co Re Rf
   simp only[List.length_append,AL,List.length_singleton]
   omega
  ·rw[if_neg h1]
   obtain⟨l1,l2,l3,l4,_,_⟩:=Ou (toks b)
   have h2:=Vb (toks b) _ _ l3 l4
   have h3:=P9 _ _ l1 l2 l3 l4
   simp only[List.length_append,AL,List.length_singleton]
   omega
set_option maxRecDepth 100000 in
theorem Ov (base p:Nat) (r:List Bool) (w:World) (hr:CZ w base p r) :
  Calls Tryz.prog 154 #[.pointer (some ⟨p,0,none⟩)] w fun e w'=>e=.returned (.tuple #[])∧CZ w' base p (pad r)∧AJ base Gi w w':=by
 obtain⟨hbp,v,hB,hO⟩:=hr
 have hc1:=hB.c1
 have hf1:=hB.frozen 1
 have HB:=Lib.hid hB
 have HO:=Lib.hid hO
 have AJ4:Hid (CZ (w.setCell ⟨p,1,none⟩ (.int .i64 0)) base p (pad r)):=Lib.hid (by
  refine⟨hbp,v,?_,?_⟩
  ·have e:(pad r).length % 8=0:=by rw[Np];omega
   rw[e];exact hB.s1 _
  ·rw[rU];exact ownsRow_setCell_other hO (own_ne hO hB (by decide)) _)
 have HK:=Lib.hid ((AJ.refl base Gi w).Dc hB (by simp[Gi]) hbp 1 (.int .i64 0))
 clear hB hO
 go_enter Tryz.func154,Tryz.ntmps154
 go_wp2_with fail
 go_end0
 exact⟨rfl,AJ4.out,HK.out⟩
set_option maxRecDepth 100000 in
set_option maxHeartbeats 8000000 in
theorem AAJ (base p:Nat) (r:List Bool) (B:Option Addr) (nb cb:Nat) (xs:List UInt8) (kind:Nat) (last:Bool) (w:World) (hr:CZ w base p r) (hB:NZ w base B xs) (hn:xs.length=nb) (hnc:nb≤cb) (hx:nb≤3000) (hk:kind≤2) (hrl:r.length≤50000000) :
  Calls Tryz.prog 119 #[.pointer (some ⟨p,0,none⟩),.slice B nb cb,.int .i64 (kind:Int),.bool last] w fun e w'=>e=.returned (.tuple #[])∧CZ w' base p (J9 r xs kind last)∧AJ base Gi w w':=by
 have HR:=Lib.hid hr
 have HB:=Lib.hid hB
 have Hn:=Lib.hid hn
 clear hr hB hn
 cases last
 ·go_enter Tryz.func119,Tryz.ntmps119
  have HP:=Lib.hid (CW base p 0 1 r w HR.out (by omega) (by omega) (by omega))
  rw[show numBits 0 1=[false] from rfl,show (((0:Nat):Int))=0 from rfl]at HP
  go_wp2_with fail
  refine (HP.out).mono ?_
  rintro e w1 ⟨rfl,hrow,hkp⟩
  have HR1:=Lib.hid hrow
  have Vd:=Lib.hid hkp
  clear hrow hkp HP HR
  have hl1:(r++[false]).length≤50000001:=by rw[List.length_append,List.length_singleton];omega
  have HP:=Lib.hid (CW base p kind 2 _ w1 HR1.out (by omega) (by omega) (by omega))
  go_wp2_with fail
  refine (HP.out).mono ?_
  rintro e w2 ⟨rfl,hrow,hkp⟩
  have HR2:=Lib.hid hrow
  have F3:=Lib.hid (Vd.out.trans hkp)
  clear hrow hkp HP HR1 Vd
  have hl2:(r++[false]++numBits kind 2).length≤50000003:=by rw[List.length_append,AL];omega
  by_cases hk0:kind=0
  ·have hk0':((kind:Int) == 0)=true:=by simp;omega
   have Lx:Hid (J9 r xs kind false=pad (r++[false]++numBits kind 2)++numBits nb 16++numBits (65535 - nb) 16++AO xs):=Lib.hid (by unfold J9;rw[if_pos hk0,Hn.out,hk0])
   generalize r++[false]++numBits kind 2=r2 at *
   have HP:=Lib.hid (Ov base p r2 w2 HR2.out)
   have hl3:(pad r2).length≤50000020:=by rw[Np];omega
   clear hl1 hl2 hk0 HR2
   go_wp2_with fail
   refine (HP.out).mono ?_
   rintro e w3 ⟨rfl,hrow,hkp⟩
   have HR3:=Lib.hid hrow
   have NT:=Lib.hid (F3.out.trans hkp)
   clear hrow hkp HP F3
   have HP:=Lib.hid (CW base p nb 16 _ w3 HR3.out (by omega) (by omega) (by omega))
   go_wp2_with fail
   refine (HP.out).mono ?_
   rintro e w4 ⟨rfl,hrow,hkp⟩
   have HR4:=Lib.hid hrow
   have J5:=Lib.hid (NT.out.trans hkp)
   clear hrow hkp HP NT HR3
   have hl4:(pad r2++numBits nb 16).length≤50000040:=by rw[List.length_append,AL];omega
   have ADG:=sQ nb (by omega)
   have HP:=Lib.hid (CW base p (65535 - nb) 16 _ w4 HR4.out (by omega) (by omega) (by omega))
   go_wp2_with fail
   refine (HP.out).mono ?_
   rintro e w5 ⟨rfl,hrow,hkp⟩
   have Yq:=Lib.hid hrow
   have MM:=Lib.hid (J5.out.trans hkp)
   clear hrow hkp HP J5 HR4 ADG
   have hl5:(pad r2++numBits nb 16++numBits (65535 - nb) 16).length≤50000060:=by rw[List.length_append,AL];omega
   generalize pad r2++numBits nb 16++numBits (65535 - nb) 16=r5 at *
   go_wp2_with fail
   go_loopw [37] (fun i wr=>∃ k:Nat,k≤nb∧i=.int .i64 (k:Int)∧CZ wr base p (r5++AO (xs.take k))∧AJ base Gi w wr) (fun i _=>nb - (intOf i).toNat)
   case atStart=>exact⟨0,Nat.zero_le _,rfl,by rw[List.take_zero];show CZ w5 base p (r5++[]);rw[List.append_nil];exact Yq.out,MM.out⟩
   case round=>
    clear Yq MM
    obtain⟨k,hk,rfl,hrow,hkp⟩:=hrel
    have sS:=Lib.hid hrow
    have HKk:=Lib.hid hkp
    clear hrow hkp
    by_cases hlt:k < nb
    ·have hkl:k < xs.length:=by rw[Hn.out];exact hlt
     obtain⟨b,o,rfl,hc⟩:=(HB.out.at HKk.out.block).get hkl
     have Rb:Hid (AO (xs.take (k+1))=AO (xs.take k)++bitsOf xs[k]):=Lib.hid (by rw[BJ xs k hkl,DD];simp[AO])
     have hbl:(AO (xs.take k)).length≤24000:=by rw[BV,List.length_take];omega
     generalize xs[k]=x at *
     obtain⟨q,hq⟩:∃ q:Nat,(q:Int)=n8 x:=⟨x.toNat,rfl⟩
     have hx8:=Qp x
     have Hq:Hid (bitsOf x=numBits q 8):=Lib.hid (by unfold bitsOf;rw[show x.toNat=q by unfold n8 at hq;omega])
     rw[←hq]at hc hx8
     clear hq
     have ACE:IntKind.i64.wrap (q:Int)=(q:Int):=IntWalk.i64_in _ (by omega)
     have HP:=Lib.hid (CW base p q 8 _ wr sS.out (by omega) (by omega) (by rw[List.length_append];omega))
     rw[List.append_assoc,←Hq.out,←Rb.out]at HP
     clear sS hbl
     go_wp2_with fail
     refine (HP.out).mono ?_
     rintro e w6 ⟨rfl,hrow,hkp⟩
     have Lh:=Lib.hid hrow
     have Lf:=Lib.hid (HKk.out.trans hkp)
     clear hrow hkp HP HKk hc
     go_wp2_with fail
     go_roundw
     case rel=>exact⟨k+1,by omega,by go_num,Lh.out,Lf.out⟩
     case measure=>simp[intOf];omega
    ·obtain rfl:nb=k:=by omega
     have dD:Hid (xs.take nb=xs):=Lib.hid (List.take_of_length_le (by rw[Hn.out];exact Nat.le_refl _))
     rw[dD.out,←Lx.out]at sS
     go_wp2_with fail
     refine bodyPost_ret (results_none rfl _ _ _) rfl ?_
     exact⟨rfl,sS.out,HKk.out⟩
  ·have hk0':((kind:Int) == 0)=false:=by rw[beq_eq_false_iff_ne];omega
   have dA:=Lib.hid (Sd B nb cb xs w2 Hn.out hnc hx (HB.out.at F3.out.block))
   go_wp2_with fail
   refine (dA.out).mono ?_
   rintro e w3 ⟨⟨v3,rfl,ho3⟩,hb3⟩
   obtain⟨A3,c3,rfl,hc3,_,hk3,_⟩:=Dz ho3
   have HR3:=Lib.hid (HR2.out.below hb3)
   have NT:=Lib.hid (F3.out.trans (AJ.of_below hb3 (Nat.le_trans HR2.out.1 (Nat.le_of_lt HR2.out.lt))))
   have HT3:Hid (J2 w3 244 A3 ((toks xs).flatMap rq)):=Lib.hid hk3
   have HTS:=Lib.hid (sO xs (by rw[Hn.out];exact hx))
   have htl:=Ot xs
   rw[Hn.out]at htl
   have Hlen:=Lib.hid (Ou (toks xs))
   have Sg:Hid (kind=1→J9 r xs kind false=r++[false]++numBits kind 2++En (toks xs) BU Co):=Lib.hid (fun h=>by subst h;unfold J9;rw[if_neg (by omega),if_pos rfl])
   have Si:Hid (kind=2→J9 r xs kind false=r++[false]++numBits kind 2++C8 (Ck (toks xs)).1 (Ck (toks xs)).2++En (toks xs) (Ck (toks xs)).1 (Ck (toks xs)).2):=Lib.hid (fun h=>by subst h;unfold J9;rw[if_neg (by omega),if_neg (by omega)])
   clear dA ho3 hb3 hk3 HR2 F3
   generalize r++[false]++numBits kind 2=r2 at *
   generalize toks xs=tx at *
   have Hm:=Lib.hid (show tx.length=tx.length from rfl)
   generalize hmt:tx.length=mt at *
   have Hmt:=Lib.hid hmt
   clear hmt Hm hk0
   go_wp2_with fail
   refine (Pz _).mono ?_
   rintro e w4 ⟨A4,c4,B4,d4,rfl,hoA,hoB,hb4⟩
   have HR4:=Lib.hid (HR3.out.below hb4)
   have J5:=Lib.hid (NT.out.trans (AJ.of_below hb4 (Nat.le_trans HR3.out.1 (Nat.le_of_lt HR3.out.lt))))
   have Jz:=Lib.hid (HT3.out.below hb4)
   have HFA:Hid (J2 w4 3 A4 (BU.map Code.BR)):=Lib.hid (by obtain⟨A,c,e,_,_,h,_⟩:=Dz hoA;injection e with e;subst e;exact h)
   have HFB:Hid (J2 w4 3 B4 (Co.map Code.BR)):=Lib.hid (by obtain⟨A,c,e,_,_,h,_⟩:=Dz hoB;injection e with e;subst e;exact h)
   clear hoA hoB hb4 HR3 NT HT3
   by_cases hk2:kind=2
   ·have ADH:((kind:Int) == 2)=true:=by simp;omega
    have Ho:=Lib.hid (Si.out hk2)
    have HL:=Lib.hid (VZ A3 mt c3 tx w4 Hmt.out (by omega) Jz.out.Ib (fun t ht=>Va (HTS.out t ht)))
    clear Sg Si HFA HFB hk2
    go_wp2_with fail
    refine (HL.out).mono ?_
    rintro e w5 ⟨⟨v1,v2,rfl,ho1,ho2⟩,hb5⟩
    obtain⟨l1,l2,l3,l4,l5,l6⟩:=Hlen.out
    obtain⟨A5,a5,rfl,ha5,_,hk5,_⟩:=Dz ho1
    obtain⟨B5,b5,rfl,ADI,_,Iw,_⟩:=Dz ho2
    obtain⟨bA,oA,_,rfl,_,_⟩:=hk5 (by rw[List.length_map,l1];omega)
    obtain⟨bB,oB,_,rfl,_,_⟩:=Iw (by rw[List.length_map,l2];omega)
    have Yq:=Lib.hid (HR4.out.below hb5)
    have MM:=Lib.hid (J5.out.trans (AJ.of_below hb5 (Nat.le_trans HR4.out.1 (Nat.le_of_lt HR4.out.lt))))
    have Nu:=Lib.hid (Jz.out.below hb5)
    have sU:=Lib.hid hk5
    have HL6:=Lib.hid Iw
    have HH:=Lib.hid (MP base p r2 bA oA a5 bB oB b5 (Ck tx).1 (Ck tx).2 w5 Yq.out sU.out HL6.out l1 l2 ha5 ADI l3 l4 (by omega))
    have hhl:=P9 (Ck tx).1 (Ck tx).2 l1 l2 l3 l4
    have L1:=Lib.hid l1
    have L2:=Lib.hid l2
    have L3:=Lib.hid l3
    have L4:=Lib.hid l4
    clear HL ho1 ho2 hb5 hk5 Iw HR4 J5 Jz l1 l2 l3 l4 l5 l6 Hlen
    generalize (Ck tx).1=LA at *
    generalize (Ck tx).2=LB at *
    go_wp2_with fail
    refine (HH.out).mono ?_
    rintro e w6 ⟨rfl,hrow,hkp⟩
    have Lh:=Lib.hid hrow
    have Lf:=Lib.hid (MM.out.trans hkp)
    have HB:=Lib.hid (Oo base p _ A3 mt c3 tx (some ⟨bA,oA,none⟩) 286 a5 LA (some ⟨bB,oB,none⟩) 30 b5 LB w6 Lh.out (Nu.out.keeps hkp (by decide)) (sU.out.keeps hkp (by decide)) (HL6.out.keeps hkp (by decide))
     Hmt.out (by omega) L1.out L2.out (by omega) (by omega) (by omega) (by omega) L3.out L4.out HTS.out (by rw[List.length_append];omega))
    rw[←Ho.out]at HB
    clear hrow hkp HH
    go_wp2_with fail
    refine (HB.out).mono ?_
    rintro e w7 ⟨rfl,hrow,hkp⟩
    have Nv:=Lib.hid hrow
    have U6:=Lib.hid (Lf.out.trans hkp)
    clear hrow hkp
    go_wp2_with fail
    go_end0
    exact⟨rfl,Nv.out,U6.out⟩
   ·have ADH:((kind:Int) == 2)=false:=by rw[beq_eq_false_iff_ne];omega
    have Ho:=Lib.hid (Sg.out (by rw[beq_eq_false_iff_ne]at hk0';omega))
    have HB:=Lib.hid (Oo base p r2 A3 mt c3 tx A4 288 c4 BU B4 32 d4 Co w4 HR4.out Jz.out HFA.out HFB.out
     Hmt.out (by omega) (by simp[BU]) (by simp[Co]) (by omega) (by omega) (by omega) (by omega) Re Rf HTS.out (by omega))
    rw[←Ho.out]at HB
    clear Sg Si hk2
    go_wp2_with fail
    refine (HB.out).mono ?_
    rintro e w7 ⟨rfl,hrow,hkp⟩
    have Nv:=Lib.hid hrow
    have U6:=Lib.hid (J5.out.trans hkp)
    clear hrow hkp
    go_wp2_with fail
    go_end0
    exact⟨rfl,Nv.out,U6.out⟩
 ·go_enter Tryz.func119,Tryz.ntmps119
  have HP:=Lib.hid (CW base p 1 1 r w HR.out (by omega) (by omega) (by omega))
  rw[show numBits 1 1=[true] from rfl,show (((1:Nat):Int))=1 from rfl]at HP
  go_wp2_with fail
  refine (HP.out).mono ?_
  rintro e w1 ⟨rfl,hrow,hkp⟩
  have HR1:=Lib.hid hrow
  have Vd:=Lib.hid hkp
  clear hrow hkp HP HR
  have hl1:(r++[true]).length≤50000001:=by rw[List.length_append,List.length_singleton];omega
  have HP:=Lib.hid (CW base p kind 2 _ w1 HR1.out (by omega) (by omega) (by omega))
  go_wp2_with fail
  refine (HP.out).mono ?_
  rintro e w2 ⟨rfl,hrow,hkp⟩
  have HR2:=Lib.hid hrow
  have F3:=Lib.hid (Vd.out.trans hkp)
  clear hrow hkp HP HR1 Vd
  have hl2:(r++[true]++numBits kind 2).length≤50000003:=by rw[List.length_append,AL];omega
  by_cases hk0:kind=0
  ·have hk0':((kind:Int) == 0)=true:=by simp;omega
   have Lx:Hid (J9 r xs kind true=pad (r++[true]++numBits kind 2)++numBits nb 16++numBits (65535 - nb) 16++AO xs):=Lib.hid (by unfold J9;rw[if_pos hk0,Hn.out,hk0])
   generalize r++[true]++numBits kind 2=r2 at *
   have HP:=Lib.hid (Ov base p r2 w2 HR2.out)
   have hl3:(pad r2).length≤50000020:=by rw[Np];omega
   clear hl1 hl2 hk0 HR2
   go_wp2_with fail
   refine (HP.out).mono ?_
   rintro e w3 ⟨rfl,hrow,hkp⟩
   have HR3:=Lib.hid hrow
   have NT:=Lib.hid (F3.out.trans hkp)
   clear hrow hkp HP F3
   have HP:=Lib.hid (CW base p nb 16 _ w3 HR3.out (by omega) (by omega) (by omega))
   go_wp2_with fail
   refine (HP.out).mono ?_
   rintro e w4 ⟨rfl,hrow,hkp⟩
   have HR4:=Lib.hid hrow
   have J5:=Lib.hid (NT.out.trans hkp)
   clear hrow hkp HP NT HR3
   have hl4:(pad r2++numBits nb 16).length≤50000040:=by rw[List.length_append,AL];omega
   have ADG:=sQ nb (by omega)
   have HP:=Lib.hid (CW base p (65535 - nb) 16 _ w4 HR4.out (by omega) (by omega) (by omega))
   go_wp2_with fail
   refine (HP.out).mono ?_
   rintro e w5 ⟨rfl,hrow,hkp⟩
   have Yq:=Lib.hid hrow
   have MM:=Lib.hid (J5.out.trans hkp)
   clear hrow hkp HP J5 HR4 ADG
   have hl5:(pad r2++numBits nb 16++numBits (65535 - nb) 16).length≤50000060:=by rw[List.length_append,AL];omega
   generalize pad r2++numBits nb 16++numBits (65535 - nb) 16=r5 at *
   go_wp2_with fail
   go_loopw [37] (fun i wr=>∃ k:Nat,k≤nb∧i=.int .i64 (k:Int)∧CZ wr base p (r5++AO (xs.take k))∧AJ base Gi w wr) (fun i _=>nb - (intOf i).toNat)
   case atStart=>exact⟨0,Nat.zero_le _,rfl,by rw[List.take_zero];show CZ w5 base p (r5++[]);rw[List.append_nil];exact Yq.out,MM.out⟩
   case round=>
    clear Yq MM
    obtain⟨k,hk,rfl,hrow,hkp⟩:=hrel
    have sS:=Lib.hid hrow
    have HKk:=Lib.hid hkp
    clear hrow hkp
    by_cases hlt:k < nb
    ·have hkl:k < xs.length:=by rw[Hn.out];exact hlt
     obtain⟨b,o,rfl,hc⟩:=(HB.out.at HKk.out.block).get hkl
     have Rb:Hid (AO (xs.take (k+1))=AO (xs.take k)++bitsOf xs[k]):=Lib.hid (by rw[BJ xs k hkl,DD];simp[AO])
     have hbl:(AO (xs.take k)).length≤24000:=by rw[BV,List.length_take];omega
     generalize xs[k]=x at *
     obtain⟨q,hq⟩:∃ q:Nat,(q:Int)=n8 x:=⟨x.toNat,rfl⟩
     have hx8:=Qp x
     have Hq:Hid (bitsOf x=numBits q 8):=Lib.hid (by unfold bitsOf;rw[show x.toNat=q by unfold n8 at hq;omega])
     rw[←hq]at hc hx8
     clear hq
     have ACE:IntKind.i64.wrap (q:Int)=(q:Int):=IntWalk.i64_in _ (by omega)
     have HP:=Lib.hid (CW base p q 8 _ wr sS.out (by omega) (by omega) (by rw[List.length_append];omega))
     rw[List.append_assoc,←Hq.out,←Rb.out]at HP
     clear sS hbl
     go_wp2_with fail
     refine (HP.out).mono ?_
     rintro e w6 ⟨rfl,hrow,hkp⟩
     have Lh:=Lib.hid hrow
     have Lf:=Lib.hid (HKk.out.trans hkp)
     clear hrow hkp HP HKk hc
     go_wp2_with fail
     go_roundw
     case rel=>exact⟨k+1,by omega,by go_num,Lh.out,Lf.out⟩
     case measure=>simp[intOf];omega
    ·obtain rfl:nb=k:=by omega
     have dD:Hid (xs.take nb=xs):=Lib.hid (List.take_of_length_le (by rw[Hn.out];exact Nat.le_refl _))
     rw[dD.out,←Lx.out]at sS
     go_wp2_with fail
     refine bodyPost_ret (results_none rfl _ _ _) rfl ?_
     exact⟨rfl,sS.out,HKk.out⟩
  ·have hk0':((kind:Int) == 0)=false:=by rw[beq_eq_false_iff_ne];omega
   have dA:=Lib.hid (Sd B nb cb xs w2 Hn.out hnc hx (HB.out.at F3.out.block))
   go_wp2_with fail
   refine (dA.out).mono ?_
   rintro e w3 ⟨⟨v3,rfl,ho3⟩,hb3⟩
   obtain⟨A3,c3,rfl,hc3,_,hk3,_⟩:=Dz ho3
   have HR3:=Lib.hid (HR2.out.below hb3)
   have NT:=Lib.hid (F3.out.trans (AJ.of_below hb3 (Nat.le_trans HR2.out.1 (Nat.le_of_lt HR2.out.lt))))
   have HT3:Hid (J2 w3 244 A3 ((toks xs).flatMap rq)):=Lib.hid hk3
   have HTS:=Lib.hid (sO xs (by rw[Hn.out];exact hx))
   have htl:=Ot xs
   rw[Hn.out]at htl
   have Hlen:=Lib.hid (Ou (toks xs))
   have Sg:Hid (kind=1→J9 r xs kind true=r++[true]++numBits kind 2++En (toks xs) BU Co):=Lib.hid (fun h=>by subst h;unfold J9;rw[if_neg (by omega),if_pos rfl])
   have Si:Hid (kind=2→J9 r xs kind true=r++[true]++numBits kind 2++C8 (Ck (toks xs)).1 (Ck (toks xs)).2++En (toks xs) (Ck (toks xs)).1 (Ck (toks xs)).2):=Lib.hid (fun h=>by subst h;unfold J9;rw[if_neg (by omega),if_neg (by omega)])
   clear dA ho3 hb3 hk3 HR2 F3
   generalize r++[true]++numBits kind 2=r2 at *
   generalize toks xs=tx at *
   have Hm:=Lib.hid (show tx.length=tx.length from rfl)
   generalize hmt:tx.length=mt at *
   have Hmt:=Lib.hid hmt
   clear hmt Hm hk0
   go_wp2_with fail
   refine (Pz _).mono ?_
   rintro e w4 ⟨A4,c4,B4,d4,rfl,hoA,hoB,hb4⟩
   have HR4:=Lib.hid (HR3.out.below hb4)
   have J5:=Lib.hid (NT.out.trans (AJ.of_below hb4 (Nat.le_trans HR3.out.1 (Nat.le_of_lt HR3.out.lt))))
   have Jz:=Lib.hid (HT3.out.below hb4)
   have HFA:Hid (J2 w4 3 A4 (BU.map Code.BR)):=Lib.hid (by obtain⟨A,c,e,_,_,h,_⟩:=Dz hoA;injection e with e;subst e;exact h)
   have HFB:Hid (J2 w4 3 B4 (Co.map Code.BR)):=Lib.hid (by obtain⟨A,c,e,_,_,h,_⟩:=Dz hoB;injection e with e;subst e;exact h)
   clear hoA hoB hb4 HR3 NT HT3
   by_cases hk2:kind=2
   ·have ADH:((kind:Int) == 2)=true:=by simp;omega
    have Ho:=Lib.hid (Si.out hk2)
    have HL:=Lib.hid (VZ A3 mt c3 tx w4 Hmt.out (by omega) Jz.out.Ib (fun t ht=>Va (HTS.out t ht)))
    clear Sg Si HFA HFB hk2
    go_wp2_with fail
    refine (HL.out).mono ?_
    rintro e w5 ⟨⟨v1,v2,rfl,ho1,ho2⟩,hb5⟩
    obtain⟨l1,l2,l3,l4,l5,l6⟩:=Hlen.out
    obtain⟨A5,a5,rfl,ha5,_,hk5,_⟩:=Dz ho1
    obtain⟨B5,b5,rfl,ADI,_,Iw,_⟩:=Dz ho2
    obtain⟨bA,oA,_,rfl,_,_⟩:=hk5 (by rw[List.length_map,l1];omega)
    obtain⟨bB,oB,_,rfl,_,_⟩:=Iw (by rw[List.length_map,l2];omega)
    have Yq:=Lib.hid (HR4.out.below hb5)
    have MM:=Lib.hid (J5.out.trans (AJ.of_below hb5 (Nat.le_trans HR4.out.1 (Nat.le_of_lt HR4.out.lt))))
    have Nu:=Lib.hid (Jz.out.below hb5)
    have sU:=Lib.hid hk5
    have HL6:=Lib.hid Iw
    have HH:=Lib.hid (MP base p r2 bA oA a5 bB oB b5 (Ck tx).1 (Ck tx).2 w5 Yq.out sU.out HL6.out l1 l2 ha5 ADI l3 l4 (by omega))
    have hhl:=P9 (Ck tx).1 (Ck tx).2 l1 l2 l3 l4
    have L1:=Lib.hid l1
    have L2:=Lib.hid l2
    have L3:=Lib.hid l3
    have L4:=Lib.hid l4
    clear HL ho1 ho2 hb5 hk5 Iw HR4 J5 Jz l1 l2 l3 l4 l5 l6 Hlen
    generalize (Ck tx).1=LA at *
    generalize (Ck tx).2=LB at *
    go_wp2_with fail
    refine (HH.out).mono ?_
    rintro e w6 ⟨rfl,hrow,hkp⟩
    have Lh:=Lib.hid hrow
    have Lf:=Lib.hid (MM.out.trans hkp)
    have HB:=Lib.hid (Oo base p _ A3 mt c3 tx (some ⟨bA,oA,none⟩) 286 a5 LA (some ⟨bB,oB,none⟩) 30 b5 LB w6 Lh.out (Nu.out.keeps hkp (by decide)) (sU.out.keeps hkp (by decide)) (HL6.out.keeps hkp (by decide))
     Hmt.out (by omega) L1.out L2.out (by omega) (by omega) (by omega) (by omega) L3.out L4.out HTS.out (by rw[List.length_append];omega))
    rw[←Ho.out]at HB
    clear hrow hkp HH
    go_wp2_with fail
    refine (HB.out).mono ?_
    rintro e w7 ⟨rfl,hrow,hkp⟩
    have Nv:=Lib.hid hrow
    have U6:=Lib.hid (Lf.out.trans hkp)
    clear hrow hkp
    go_wp2_with fail
    go_end0
    exact⟨rfl,Nv.out,U6.out⟩
   ·have ADH:((kind:Int) == 2)=false:=by rw[beq_eq_false_iff_ne];omega
    have Ho:=Lib.hid (Sg.out (by rw[beq_eq_false_iff_ne]at hk0';omega))
    have HB:=Lib.hid (Oo base p r2 A3 mt c3 tx A4 288 c4 BU B4 32 d4 Co w4 HR4.out Jz.out HFA.out HFB.out
     Hmt.out (by omega) (by simp[BU]) (by simp[Co]) (by omega) (by omega) (by omega) (by omega) Re Rf HTS.out (by omega))
    rw[←Ho.out]at HB
    clear Sg Si hk2
    go_wp2_with fail
    refine (HB.out).mono ?_
    rintro e w7 ⟨rfl,hrow,hkp⟩
    have Nv:=Lib.hid hrow
    have U6:=Lib.hid (J5.out.trans hkp)
    clear hrow hkp
    go_wp2_with fail
    go_end0
    exact⟨rfl,Nv.out,U6.out⟩
end Go.Proofs.YtabdianhoabhhaaGreatDoor.AV
namespace Go.Proofs.YtabdianhoabhhaaGreatDoor.AV
open Go Go.RowKit Go.Proofs.YtabdianhoabhhaaGreatDoor Go.Proofs.YtabdianhoabhhaaGreatDoor.Bits Go.Proofs.YtabdianhoabhhaaGreatDoor.Code Go.Proofs.YtabdianhoabhhaaGreatDoor.Inf Go.Proofs.YtabdianhoabhhaaGreatDoor.SP Go.Proofs.YtabdianhoabhhaaGreatDoor.Rt
set_option linter.unusedVariables false
theorem Yr {w w':World} {A:Option Addr} {cs:List Value} {base:Nat} (h:AQ w A cs) (hb:w.heap.size=base) (hw:∀ k,k < base→w'.heap[k]?=w.heap[k]?):AQ w' A cs:=fun hp=>by
 obtain⟨b,o,e,hc⟩:=h hp
 refine⟨b,o,e,fun j v hj=>?_⟩
 have h1:=hc j v hj
 have hlt:=block_lt_of_cell h1
 have h2:=hw b (by rw[←hb];exact hlt)
 rw[←h1]
 simp only[World.cell?,h2]
theorem Sj (parts:List (List UInt8)) (ks:List Int):∀ f i n:Nat,IV parts ks f i n=0→(∀ j,i≤j→j < i+f→0≤ks.getD j 0∧ks.getD j 0≤2∧j < 40)∧(f≠0→n≤3000)∧n+((parts.drop i).take f).flatten.length≤max n 3000
 | 0,i,n,_=>⟨fun j h1 h2=>by omega,fun h=>absurd rfl h,by simp;omega⟩
 | f+1,i,n,h=>by
  unfold IV at h
  by_cases h1:3000 < n+(parts.getD i []).length∨40≤i
  ·rw[if_pos h1]at h;simp at h
  ·rw[if_neg h1]at h
   by_cases h2:ks.getD i 0 < 0∨2 < ks.getD i 0
   ·rw[if_pos h2]at h;simp at h
   ·rw[if_neg h2]at h
    obtain⟨a1,a2,a3⟩:=Sj parts ks f (i+1) (n+(parts.getD i []).length) h
    refine⟨fun j h3 h4=>?_,fun _=>by omega,?_⟩
    ·by_cases hj:j=i
     ·subst hj;omega
     ·exact a1 j (by omega) (by omega)
    ·rcases Nat.lt_or_ge i parts.length with hi | hi
     ·rw[List.drop_eq_getElem_cons hi,List.take_succ_cons,List.flatten_cons,List.length_append]
      rw[List.getD_eq_getElem?_getD,List.getElem?_eq_getElem hi]at a3 h1
      simp only[Option.getD_some]at a3 h1
      omega
     ·rw[List.drop_of_length_le hi];simp;omega
theorem lX (parts:List (List UInt8)) (ks:List Int) (h:IV parts ks parts.length 0 0=0) (hl:ks.length=parts.length):(∀ k∈ks,0≤k∧k≤2)∧parts.length≤40∧parts.flatten.length≤3000:=by
 obtain⟨a1,a2,a3⟩:=Sj parts ks parts.length 0 0 h
 rw[List.drop_zero,List.take_length]at a3
 refine⟨fun k hk=>?_,?_,by omega⟩
 ·obtain⟨i,hi,rfl⟩:=List.mem_iff_getElem.1 hk
  have:=a1 i (by omega) (by omega)
  rw[List.getD_eq_getElem?_getD,List.getElem?_eq_getElem hi]at this
  exact⟨this.1,this.2.1⟩
 ·rcases Nat.eq_zero_or_pos parts.length with h0 | h0
  ·omega
  ·have:=(a1 (parts.length - 1) (by omega) (by omega)).2.2
   omega
theorem Yt (parts:List (List UInt8)) (i:Nat):(parts.getD i []).length≤parts.flatten.length:=by
 rcases Nat.lt_or_ge i parts.length with hi | hi
 ·have:=Ve parts i hi
  have h2:=Es parts (i+1)
  rw[this,List.length_append]at h2
  omega
 ·rw[List.getD_eq_getElem?_getD,List.getElem?_eq_none hi];simp
theorem Vf (parts:List (List UInt8)) (kinds:List Nat) (h:parts.flatten.length≤3000):∀ i,(DI parts kinds i).length≤200000*i
 | 0=>by show 0≤_;omega
 | i+1=>by
  have h1:=Vf parts kinds h i
  have h2:=sP (DI parts kinds i) (parts.getD i []) (kinds.getD i 0) (decide (i+1=parts.length)) (by have:=Yt parts i;omega)
  show (J9 _ _ _ _).length≤_
  omega
def EF (parts:List (List UInt8)) (ks:List Int):Int:=if parts.length=0∨parts.length≠ks.length then 4 else IV parts ks parts.length 0 0
def sV (parts:List (List UInt8)) (ks:List Int) (w:World) (e:Ending) (w':World):Prop:=
  (EF parts ks≠0∧e=.returned (.tuple #[.slice none 0 0,.int .i64 (EF parts ks)])∨
   EF parts ks=0∧∃ v,e=.returned (.tuple #[v,.int .i64 0])∧w'.ownsRow w.heap.size 5 1 v (Cw parts (BC ks)).length ((Cw parts (BC ks)).map Eh))∧Below w.heap.size w w'
set_option maxRecDepth 100000 in
set_option maxHeartbeats 4000000 in
theorem lL (PA KA:Option Addr) (n cn m cm:Nat) (ps:List (Value×List UInt8)) (ks:List Int) (w:World) (hn:ps.length=n) (hm:ks.length=m) (hnx:n≤maxLen) (hmx:m≤maxLen) (hP:AQ w PA (ps.map (·.1))) (hd:∀ q∈ps,BD w q.1 q.2) (hq:∀ q∈ps,q.2.length≤140737488351232) (hK:Lv w KA ks) :
  Calls Tryz.prog 83 #[.slice PA n cn,.slice KA m cm] w (sV (ps.map (·.2)) ks w):=by
 have HN:=Lib.hid hn
 have HM:=Lib.hid hm
 have HP:=Lib.hid hP
 have HD:=Lib.hid hd
 have HQ:=Lib.hid hq
 have HK:=Lib.hid hK
 have lp:(ps.map (·.2)).length=n:=by rw[List.length_map,hn]
 have Hp:Hid (∀ k (h:k < ps.length),(ps.map (·.2)).getD k []=ps[k].2):=Lib.hid (fun k h=>by rw[List.getD_eq_getElem?_getD,List.getElem?_map,List.getElem?_eq_getElem h];rfl)
 unfold maxLen at hnx hmx
 generalize ps.map (·.2)=parts at *
 have LP:=Lib.hid lp
 clear hn hm hP hd hq hK lp
 go_enter Tryz.func83,Tryz.ntmps83
 by_cases h0:n=0
 ·have hz:((n:Int) == 0)=true:=by simp;omega
  have He:Hid (EF parts ks=4):=Lib.hid (by unfold EF;rw[if_pos (by rw[LP.out];exact .inl h0)])
  clear h0
  go_wp2_with fail
  go_ret2
  exact⟨.inl ⟨by rw[He.out];decide,by rw[He.out];rfl⟩,Below.refl _ _⟩
 ·have hz:((n:Int) == 0)=false:=by rw[beq_eq_false_iff_ne];omega
  by_cases hnm:n=m
  ·subst hnm
   have He:Hid (EF parts ks=IV parts ks n 0 0):=Lib.hid (by unfold EF;rw[if_neg (by rw[LP.out,HM.out];omega),LP.out])
   have hne:((n:Int) == (n:Int))=true:=by simp
   clear h0
   go_wp2_with fail
   go_loop [6,24] (fun vs i=>∃ k s:Nat,k≤n∧i=.int .i64 (k:Int)∧vs=.int .i64 (s:Int)∧s≤3000∧IV parts ks n 0 0=IV parts ks (n - k) k s) (fun _ i=>n - (intOf i).toNat)
   case atStart=>exact⟨0,0,Nat.zero_le _,rfl,rfl,by omega,rfl⟩
   case round=>
    obtain⟨k,s,hk,rfl,rfl,hs,hpk⟩:=hrel
    have MW:=Lib.hid hpk
    clear hpk
    by_cases hlt:k < n
    ·have hkl:k < ps.length:=by rw[HN.out];exact hlt
     obtain⟨bP,oP,rfl,hcP⟩:=HP.out.get (k:=k) (by rw[List.length_map];exact hkl)
     rw[List.getElem_map]at hcP
     obtain⟨A,c,hv,hlc,hcm,hby⟩:=HD.out _ (List.getElem_mem hkl)
     rw[hv]at hcP
     have XL:=Lib.hid (Hp.out k hkl)
     have hlq:=HQ.out _ (List.getElem_mem hkl)
     generalize hxs:ps[k].2=xs at *
     clear hv hxs hby
     unfold maxLen at hcm
     generalize hlx:xs.length=lx at *
     have Hlx:=Lib.hid hlx
     have Yu:k < ks.length:=by rw[HM.out];exact hlt
     obtain⟨bK,oK,rfl,hcK⟩:=HK.out.get Yu
     have Hks:Hid (ks.getD k 0=ks[k]):=Lib.hid (by rw[List.getD_eq_getElem?_getD,List.getElem?_eq_getElem Yu];rfl)
     generalize ks[k]=z at *
     obtain⟨f,hf⟩:∃ f,n - k=f+1:=⟨n - k - 1,by omega⟩
     have Cy:Hid (IV parts ks n 0 0=if 3000 < s+lx∨40≤k then 2 else if z < 0∨2 < z then 3 else IV parts ks (n - (k+1)) (k+1) (s+lx)):=Lib.hid (by
      rw[MW.out,hf]
      conv=>lhs;unfold IV
      rw[XL.out,Hlx.out,Hks.out,show n - (k+1)=f by omega])
     have hsum:IntKind.i64.wrap ((s:Int)+(lx:Int))=((s+lx:Nat):Int):=by rw[show ((s:Int)+(lx:Int))=((s+lx:Nat):Int) by omega];exact IntWalk.i64_in _ (by omega)
     obtain⟨t,ht⟩:∃ t,t=s+lx:=⟨_,rfl⟩
     rw[←ht]at hsum Cy
     clear hlx hf ht
     by_cases h3:3000 < t
     ·have h3':(3000:Int) < (t:Int):=by omega
      have Hr:Hid (EF parts ks=2):=Lib.hid (by rw[He.out,Cy.out,if_pos (.inl h3)])
      clear h3
      go_wp2_with fail
      go_ret2
      exact⟨.inl ⟨by rw[Hr.out];decide,by rw[Hr.out];rfl⟩,Below.refl _ _⟩
     ·have h3':¬ (3000:Int) < (t:Int):=by omega
      by_cases h4:40≤k
      ·have h4':(40:Int)≤(k:Int):=by omega
       have Hr:Hid (EF parts ks=2):=Lib.hid (by rw[He.out,Cy.out,if_pos (.inr h4)])
       clear h3 h4
       go_wp2_with fail
       go_ret2
       exact⟨.inl ⟨by rw[Hr.out];decide,by rw[Hr.out];rfl⟩,Below.refl _ _⟩
      ·have h4':¬ (40:Int)≤(k:Int):=by omega
       by_cases h5:z < 0
       ·have Hr:Hid (EF parts ks=3):=Lib.hid (by rw[He.out,Cy.out,if_neg (by omega),if_pos (.inl h5)])
        clear h3 h4
        go_wp2_with fail
        go_ret2
        exact⟨.inl ⟨by rw[Hr.out];decide,by rw[Hr.out];rfl⟩,Below.refl _ _⟩
       ·by_cases h6:2 < z
        ·have Hr:Hid (EF parts ks=3):=Lib.hid (by rw[He.out,Cy.out,if_neg (by omega),if_pos (.inr h6)])
         clear h3 h4
         go_wp2_with fail
         go_ret2
         exact⟨.inl ⟨by rw[Hr.out];decide,by rw[Hr.out];rfl⟩,Below.refl _ _⟩
        ·have Hr:Hid (IV parts ks n 0 0=IV parts ks (n - (k+1)) (k+1) t):=Lib.hid (by rw[Cy.out,if_neg (by omega),if_neg (by omega)])
         clear h4
         go_wp2_with fail
         go_round
         case rel=>exact⟨k+1,t,by omega,by go_num,rfl,by omega,Hr.out⟩
         case measure=>simp[intOf];omega
    ·obtain rfl:n=k:=by omega
     have Hz:Hid (IV parts ks n 0 0=0):=Lib.hid (by rw[MW.out,Nat.sub_self];rfl)
     have He0:Hid (EF parts ks=0):=Lib.hid (by rw[He.out,Hz.out])
     obtain⟨q1,q2,q3⟩:=lX parts ks (by rw[LP.out];exact Hz.out) (by rw[HM.out,LP.out])
     have Q1:=Lib.hid q1
     have Q3:=Lib.hid q3
     rw[LP.out]at q2
     have Qo:=Lib.hid (CZ.new w (base:=w.heap.size) (Nat.le_refl _))
     have Hb0:=Lib.hid ((Below.refl w.heap.size w).alloc (Nat.le_refl _) (.cells #[.slice none 0 0,.int .i64 0] 128))
     clear q1 q3 MW
     go_wp2_with fail
     have HPb:=Lib.hid (HP.out.below Hb0.out)
     have HKb:=Lib.hid (HK.out.below Hb0.out)
     have HLw:Hid (∀ q∈ps,∃ A cap,q.1=.slice A q.2.length cap∧q.2.length≤cap∧NZ (w.alloc (.cells #[.slice none 0 0,.int .i64 0] 128)) w.heap.size A q.2):=Lib.hid (fun q hq=>by
      obtain⟨A,c,h1,h2,h3,h4⟩:=HD.out q hq
      exact⟨A,c,h1,h2,(NZ.of h4 (Nat.le_refl _)).trans (fun k hk=>Hb0.out.block k hk)⟩)
     obtain⟨n1,hn1⟩:∃ n1,n=n1+1:=⟨n - 1,by rw[beq_eq_false_iff_ne]at hz;omega⟩
     have hs1:IntKind.i64.wrap ((n:Int) - 1)=(n1:Int):=by rw[show (n:Int) - 1=(n1:Int) by omega];exact IntWalk.i64_in _ (by omega)
     have Hn1:=Lib.hid hn1
     clear hn1 hlt hs hk
     generalize hw3:w.alloc (.cells #[.slice none 0 0,.int .i64 0] 128)=w3 at *
     generalize hp0:w.heap.size=p0 at *
     have sW:=Lib.hid hp0
     clear hw3 hp0
     go_loopw [54] (fun i wr=>∃ k:Nat,k≤n∧i=.int .i64 (k:Int)∧CZ wr p0 p0 (DI parts (BC ks) k)∧AJ p0 Gi w3 wr) (fun i _=>n - (intOf i).toNat)
     case atStart=>exact⟨0,Nat.zero_le _,rfl,Qo.out,AJ.refl _ _ _⟩
     case round=>
      clear Qo
      obtain⟨k,hk,rfl,hrow,hkp⟩:=hrel
      have Cj:=Lib.hid hrow
      have NS:=Lib.hid hkp
      have hrl:=Vf parts (BC ks) Q3.out k
      clear hrow hkp
      by_cases hlt:k < n
      ·have hkl:k < ps.length:=by rw[HN.out];exact hlt
       have Hag:Hid (∀ j,j < p0→wr.heap[j]?=w.heap[j]?):=Lib.hid (fun j hj=>(NS.out.block j hj).trans (Hb0.out.block j hj))
       obtain⟨bP,oP,rfl,hcP⟩:=(Yr HP.out sW.out Hag.out).get (k:=k) (by rw[List.length_map];exact hkl)
       rw[List.getElem_map]at hcP
       obtain⟨A,c,hv,hlc,hlow⟩:=HLw.out _ (List.getElem_mem hkl)
       rw[hv]at hcP
       have XL:=Lib.hid (Hp.out k hkl)
       have hx3:ps[k].2.length≤3000:=by rw[←XL.out];exact Nat.le_trans (Yt parts k) Q3.out
       generalize hxs:ps[k].2=xs at *
       have dM:=Lib.hid hlow
       have Yu:k < ks.length:=by rw[HM.out];exact hlt
       obtain⟨bK,oK,rfl,hcK⟩:=Lv.get (Yr HK.out sW.out Hag.out) Yu
       have hz2:=Q1.out _ (List.getElem_mem Yu)
       have hgk:(BC ks).getD k 0=ks[k].toNat:=Rh ks k Yu
       generalize ks[k]=z at *
       obtain⟨zk,rfl⟩:=Int.eq_ofNat_of_zero_le hz2.1
       rw[Int.toNat_natCast]at hgk
       obtain⟨lb,hlb⟩:∃ b:Bool,b=((k:Int) == (n1:Int)):=⟨_,rfl⟩
       have Cy:Hid (DI parts (BC ks) (k+1)=J9 (DI parts (BC ks) k) xs zk lb):=Lib.hid (by
        show J9 _ _ _ _=_
        rw[XL.out,hgk]
        congr 1
        rw[hlb,LP.out,Hn1.out,Bool.eq_iff_iff]
        simp
        omega)
       have HO:=Lib.hid (AAJ p0 p0 (DI parts (BC ks) k) A xs.length c xs zk lb wr Cj.out (dM.out.trans NS.out.block) rfl hlc hx3 (by omega) (by omega))
       rw[←Cy.out]at HO
       rw[hlb]at HO
       have hlx:=hx3
       generalize xs.length=lx at *
       clear hv hlow hxs hgk hlb hrl Cj hlc hx3 hz2
       go_wp2_with fail
       refine (HO.out).mono ?_
       rintro e w5 ⟨rfl,hrow,hkp⟩
       have Yq:=Lib.hid hrow
       have MM:=Lib.hid (NS.out.trans hkp)
       clear hrow hkp HO NS
       go_wp2_with fail
       go_roundw
       case rel=>exact⟨k+1,by omega,by go_num,Yq.out,MM.out⟩
       case measure=>simp[intOf];omega
      ·obtain rfl:n=k:=by omega
       have Hbk:Hid (Below p0 w wr):=Lib.hid (Hb0.out.trans NS.out.below)
       have HPk:Hid (Cw parts (BC ks)=pack (DI parts (BC ks) n)):=Lib.hid (by unfold Cw;rw[LP.out])
       obtain⟨hpp,v,hv1,hv2⟩:=Cj.out
       have hby:=Lib.hid (Vg p0 v _ wr hv1)
       have Hv2:=Lib.hid hv2
       clear hv1 hv2 hrl
       go_wp2_with fail
       refine (hby.out).mono ?_
       rintro e w5 ⟨rfl,rfl⟩
       go_wp2_with fail
       go_ret2
       exact⟨.inr ⟨He0.out,v,rfl,by rw[HPk.out,sW.out];exact Hv2.out⟩,by rw[sW.out];exact Hbk.out⟩
  ·have hne:((n:Int) == (m:Int))=false:=by rw[beq_eq_false_iff_ne];omega
   have He:Hid (EF parts ks=4):=Lib.hid (by unfold EF;rw[if_pos (by rw[LP.out,HM.out];exact .inr hnm)])
   clear h0 hnm
   go_wp2_with fail
   go_ret2
   exact⟨.inl ⟨by rw[He.out];decide,by rw[He.out];rfl⟩,Below.refl _ _⟩
end Go.Proofs.YtabdianhoabhhaaGreatDoor.AV
namespace Go.Proofs.YtabdianhoabhhaaGreatDoor
open Go Go.RowKit
set_option linter.unusedVariables false
def AR (xs:List UInt8):ByteArray:=⟨xs.toArray⟩
theorem TF (xs ys:List UInt8):((AR xs).toList == (AR ys).toList)=decide (xs=ys):=by
 rw[ByteArray.toList_eq,ByteArray.toList_eq,Bool.eq_iff_iff];simp[AR]
theorem QI (xs:List UInt8):strOfNums (xs.map n8)=AR xs:=by
 unfold strOfNums AR
 rw[List.map_map]
 have:((fun n=>UInt8.ofNat n.toNat) ∘ n8)=id:=by
  funext x;simp[n8]
 rw[this,List.map_id]
theorem Gl (A:Option Addr) (n c:Nat) (xs:List UInt8) (w:World) (hn:xs.length=n) (h:BI w A xs) :
  (convert 23 9 (.slice A n c)).run Tryz.prog w=.ok (.string (AR xs)) w:=by
 rw[←QI]
 cases n with
 | zero=>
  have:xs=[]:=List.eq_nil_of_length_eq_zero hn
  subst this
  exact run_convert_bytes_zero w _ _ Tryz.underlying23 Tryz.underlying5 A c _ Tryz.underlying9
 | succ n=>
  obtain⟨b,o,rfl,_⟩:=AQ.get h (k:=0) (by simp;omega)
  refine run_convert_bytes_arg w _ _ Tryz.underlying23 Tryz.underlying5 b o _ c _ (by simpa using hn) (fun i hi=>?_) _ Tryz.underlying9
  obtain⟨b',o',hb,hc⟩:=AQ.get h (k:=i) (by simp;omega)
  injection hb with hb;injection hb with h1 h2 h3
  subst h1 h2
  rw[hc]
  have:i < xs.length:=by omega
  simp[List.getD,Eh,this]
set_option maxHeartbeats 400000 in
theorem IA (A B:Option Addr) (n m ca cb:Nat) (xs ys:List UInt8) (w:World) (hn:xs.length=n) (hm:ys.length=m) (ha:BI w A xs) (hb:BI w B ys) :
  Calls Tryz.prog 22 #[.slice A n ca,.slice B m cb] w fun e w'=>e=.returned (.bool (decide (xs=ys)))∧w'=w:=by
 have k1:=Gl A n ca xs w hn ha
 have k2:=Gl B m cb ys w hm hb
 have K:=Lib.hid (TF xs ys)
 clear hn hm ha hb
 go_enter Tryz.func22,Tryz.ntmps22
 go_wp2_with fail
 go_ret
 exact⟨DN K.out,rfl⟩
end Go.Proofs.YtabdianhoabhhaaGreatDoor
namespace Go.Proofs.YtabdianhoabhhaaGreatDoor.AV
open Go Go.RowKit Go.Proofs.YtabdianhoabhhaaGreatDoor Go.Proofs.YtabdianhoabhhaaGreatDoor.Bits Go.Proofs.YtabdianhoabhhaaGreatDoor.Inf Go.Proofs.YtabdianhoabhhaaGreatDoor.SP Go.Proofs.YtabdianhoabhhaaGreatDoor.Rt
open Go.Proofs.YtabdianhoabhhaaGreatDoor.Code (BC BR ED)
set_option linter.unusedVariables false
theorem Yg (xs:List UInt8) (k:Nat) (hx:xs.length≤3000) (hk:k≤2):EF [xs] [(k:Int)]=0:=by
 unfold EF
 rw[if_neg (by simp)]
 show IV [xs] [(k:Int)] 1 0 0=0
 unfold IV
 rw[if_neg (by simp;omega),if_neg (by simp;omega)]
 rfl
theorem rV (k:Nat):BC [(k:Int)]=[k]:=by simp[BC]
theorem lK (A:Option Addr) (n c k:Nat) (xs:List UInt8) (w:World) (hn:xs.length=n) (hnc:n≤c) (hcm:c≤maxLen) (hx:n≤3000) (hk:k≤2) (hA:BI w A xs) :
  Calls Tryz.prog 83 #[.slice (some ⟨w.heap.size,0,none⟩) 1 1,.slice (some ⟨w.heap.size+1,0,none⟩) 1 1] ((w.alloc (.cells #[.slice A n c] 23)).alloc (.cells #[.int .i64 (k:Int)] 3)) fun e w'=>
   (∃ v,e=.returned (.tuple #[v,.int .i64 0])∧w'.ownsRow w.heap.size 5 1 v (Cw [xs] [k]).length ((Cw [xs] [k]).map Eh))∧Below w.heap.size w w':=by
 have hb:Below w.heap.size w ((w.alloc (.cells #[.slice A n c] 23)).alloc (.cells #[.int .i64 (k:Int)] 3)):=((Below.refl _ _).alloc (Nat.le_refl _) _).alloc (by simp) _
 have h1:AV ((w.alloc (.cells #[.slice A n c] 23)).alloc (.cells #[.int .i64 (k:Int)] 3)) w.heap.size 23 #[.slice A n c]:=(AV.new w _ _).alloc _
 have h2:AV ((w.alloc (.cells #[.slice A n c] 23)).alloc (.cells #[.int .i64 (k:Int)] 3)) (w.heap.size+1) 3 #[.int .i64 (k:Int)]:=by
  have:=AV.new (w.alloc (.cells #[.slice A n c] 23)) 3 #[.int .i64 (k:Int)]
  rw[World.size_alloc]at this;exact this
 have he:=Yg xs k (by omega) hk
 refine (lL (some ⟨w.heap.size,0,none⟩) (some ⟨w.heap.size+1,0,none⟩) 1 1 1 1 [(.slice A n c,xs)] [(k:Int)] _ rfl rfl (by unfold maxLen;omega) (by unfold maxLen;omega) h1.kat.Ib ?_ ?_ ?_).mono ?_
 ·intro q hq
  rw[List.mem_singleton]at hq
  subst hq
  exact⟨A,c,by rw[hn],by rw[hn];exact hnc,hcm,hA.below hb⟩
 ·intro q hq
  rw[List.mem_singleton]at hq
  subst hq
  dsimp only
  omega
 ·exact h2.kat.Ib
 ·rintro e w' ⟨h,hb'⟩
  have hb2:Below w.heap.size w w':=hb.trans (hb'.mono hb.size)
  refine⟨?_,hb2⟩
  rcases h with ⟨h3,_⟩ | ⟨_,v,rfl,ho⟩
  ·exact absurd he h3
  ·rw[rV]at ho
   exact⟨v,rfl,AZ ho (by simp;omega)⟩
def Bg (xs:List UInt8):Nat→List UInt8×Nat
 | 0=>([],0)
 | k+1=>if k=0∨(Cw [xs] [k]).length < (Bg xs k).1.length then (Cw [xs] [k],k) else Bg xs k
theorem Gg (xs:List UInt8) (k:Nat) (h:k=0∨(Cw [xs] [k]).length < (Bg xs k).1.length):Bg xs (k+1)=(Cw [xs] [k],k):=by
 conv=>lhs;unfold Bg
 rw[if_pos h]
theorem Om (xs:List UInt8) (k:Nat) (h:¬ (k=0∨(Cw [xs] [k]).length < (Bg xs k).1.length)):Bg xs (k+1)=Bg xs k:=by
 conv=>lhs;unfold Bg
 rw[if_neg h]
def rW (n:Nat) (xs:List UInt8) (w:World) (e:Ending) (w':World):Prop:=
  (3000 < n∧e=.returned (.tuple #[.slice none 0 0,.int .i64 0,.int .i64 2])∨
   n≤3000∧∃ v,e=.returned (.tuple #[v,.int .i64 ((Bg xs 3).2:Int),.int .i64 0])∧w'.ownsRow w.heap.size 5 1 v (Bg xs 3).1.length ((Bg xs 3).1.map Eh))∧Below w.heap.size w w'
set_option maxRecDepth 100000 in
set_option maxHeartbeats 1600000 in
theorem rX (A:Option Addr) (n c:Nat) (xs:List UInt8) (w:World) (hn:xs.length=n) (hnc:n≤c) (hcm:c≤maxLen) (hA:BI w A xs) :
  Calls Tryz.prog 62 #[.slice A n c] w (rW n xs w):=by
 have Hn:=Lib.hid hn
 have HA:=Lib.hid hA
 have Hcm:=Lib.hid hcm
 unfold maxLen at hcm
 clear hn hA
 go_enter Tryz.func62,Tryz.ntmps62
 by_cases h3:3000 < n
 ·have h3':(3000:Int) < (n:Int):=by omega
  go_wp2_with fail
  go_ret3
  exact⟨.inl ⟨h3,rfl⟩,Below.refl _ _⟩
 ·have h3':¬ (3000:Int) < (n:Int):=by omega
  have hle:n≤3000:=by omega
  clear h3
  go_wp2_with fail
  go_loopw [2,3,5] (fun vo vb vk wr=>∃ k:Nat,k≤3∧vk=.int .i64 (k:Int)∧vb=.int .i64 ((Bg xs k).2:Int)∧wr.ownsRow w.heap.size 5 1 vo (Bg xs k).1.length ((Bg xs k).1.map Eh)∧Below w.heap.size w wr) (fun _ _ vk _=>3 - (intOf vk).toNat)
  case atStart=>exact⟨0,by omega,rfl,rfl,World.ownsRow_nil ..,Below.refl _ _⟩
  case round=>
   obtain⟨k,hk,rfl,rfl,ho,hb⟩:=hrel
   have HO:=Lib.hid ho
   have Hb:=Lib.hid hb
   clear ho hb
   by_cases hlt:k < 3
   ·have hk2:(k:Int)≤2:=by omega
    have HP:=Lib.hid (lK A n c k xs wr Hn.out hnc Hcm.out hle (by omega) (HA.out.below Hb.out))
    have Hy:=Lib.hid (Gg xs k)
    have Hno:=Lib.hid (Om xs k)
    go_wp2_with fail
    refine (HP.out).mono ?_
    rintro e w2 ⟨⟨v2,rfl,ho2⟩,hb2⟩
    have Cz:=Lib.hid (AP HO.out hb2)
    have Hb2:=Lib.hid (Hb.out.trans (hb2.mono Hb.out.size))
    have rY:=Lib.hid (AZ ho2 Hb.out.size)
    obtain⟨A2,c2,rfl,_⟩:=Ad ho2
    obtain⟨A1,c1,rfl,_⟩:=Ad HO.out
    clear ho2 hb2 HP HO Hb
    generalize Cw [xs] [k]=p at *
    generalize Bg xs k=s at *
    obtain⟨s1,s2⟩:=s
    dsimp only at Cz Hy Hno
    by_cases hc:k=0∨p.length < s1.length
    ·have He:=Lib.hid (Hy.out hc)
     by_cases hk0:k=0
     ·have hz:((k:Int) == 0)=true:=by simp;omega
      clear hc hk0 Hy Hno
      go_wp2_with fail
      go_roundw
      case rel=>exact⟨k+1,by omega,by go_num,by rw[He.out],by rw[He.out];exact rY.out,Hb2.out⟩
      case measure=>simp[intOf];omega
     ·have hz:((k:Int) == 0)=false:=by rw[beq_eq_false_iff_ne];omega
      have hl:(p.length:Int) < (s1.length:Int):=by omega
      clear hc hk0 Hy Hno
      go_wp2_with fail
      go_roundw
      case rel=>exact⟨k+1,by omega,by go_num,by rw[He.out],by rw[He.out];exact rY.out,Hb2.out⟩
      case measure=>simp[intOf];omega
    ·have He:=Lib.hid (Hno.out hc)
     have hz:((k:Int) == 0)=false:=by rw[beq_eq_false_iff_ne];omega
     have hl:¬ (p.length:Int) < (s1.length:Int):=by omega
     clear hc Hy Hno
     go_wp2_with fail
     go_roundw
     case rel=>exact⟨k+1,by omega,by go_num,by rw[He.out],by rw[He.out];exact Cz.out,Hb2.out⟩
     case measure=>simp[intOf];omega
   ·obtain rfl:k=3:=by omega
    have hk2:¬ ((3:Nat):Int)≤2:=by omega
    go_wp2_with fail
    go_ret3
    exact⟨.inr ⟨hle,_,rfl,HO.out⟩,Hb.out⟩
end Go.Proofs.YtabdianhoabhhaaGreatDoor.AV
namespace Go.Proofs.YtabdianhoabhhaaGreatDoor.Sum
open Go Go.RowKit Go.Proofs.YtabdianhoabhhaaGreatDoor
abbrev Il:=BitVec 32
def one:Il:=2147483648#32
def Fb (c:Il):Il:=(c >>> 1) ^^^ (3988292384#32*(c &&& 1#32))
def CK:Nat→Il→Il
 | 0,c=>c
 | n+1,c=>Fb (CK n c)
def tab (k:Nat):Il:=CK 8 (BitVec.ofNat 32 k)
def ABa (c:Il):UInt8:=UInt8.ofBitVec (c.setWidth 8)
def yI (c:Il) (x:UInt8):Il:=(c >>> 8) ^^^ tab (ABa c ^^^ x).toNat
def PV (c:Il) (l:List UInt8):Il:=l.foldl yI c
def crc (before:Il) (l:List UInt8):Il := ~~~ PV (~~~before) l
def bitsOf (x:UInt8):List Bool:=(List.range 8).map fun k=>x.toNat.testBit k
def AO (l:List UInt8):List Bool:=l.flatMap bitsOf
theorem DC (x:UInt8):(bitsOf x).length=8:=by simp[bitsOf]
theorem BV (l:List UInt8):(AO l).length=8*l.length:=by
 induction l with
 | nil=>rfl
 | cons x l ih=>simp only[AO,List.flatMap_cons,List.length_append,DC,List.length_cons]at *;omega
theorem pq (c:Il) (l:List UInt8) (x:UInt8):PV c (l++[x])=yI (PV c l) x:=by simp[PV]
end Go.Proofs.YtabdianhoabhhaaGreatDoor.Sum
namespace Go.Proofs.YtabdianhoabhhaaGreatDoor.Gz
open Go Go.RowKit Go.Proofs.YtabdianhoabhhaaGreatDoor Go.Proofs.YtabdianhoabhhaaGreatDoor.Bits Go.Proofs.YtabdianhoabhhaaGreatDoor.Inf Go.Proofs.YtabdianhoabhhaaGreatDoor.Rt Go.Proofs.YtabdianhoabhhaaGreatDoor.AV
set_option linter.unusedVariables false
def GR (xs:List UInt8):Nat:=(Sum.crc 0#32 xs).toNat
def IB (c n:Nat):Nat→List Bool
 | 0=>[]
 | 1=>(numBits (c % 65536) 16++numBits (c / 65536) 16)
 | _=>(numBits (c % 65536) 16++numBits (c / 65536) 16)++numBits (n % 65536) 16++numBits (n / 65536) 16
def tl (xs:List UInt8):List UInt8:=pack (IB (GR xs) xs.length 2)
theorem O5 (n:Nat):numBits n 16=AO [UInt8.ofNat n,UInt8.ofNat (n / 256)]:=by
 unfold AO bitsOf
 rw[List.flatMap_cons,List.flatMap_cons,List.flatMap_nil,List.append_nil]
 apply List.ext_getElem
 ·simp[AL]
 ·intro i h1 h2
  rw[AL]at h1
  have e:∀ m k (h:k < (numBits m 8).length),(numBits m 8)[k]=m.testBit k:=fun m k h=>by simp[numBits]
  rw[List.getElem_append]
  have hx:(numBits n 16)[i]'(by rw[AL];exact h1)=n.testBit i:=by simp[numBits]
  rw[hx]
  split
  ·rename_i h
   rw[AL]at h
   rw[e,UInt8.toNat_ofNat',show (2 ^ 8:Nat)=2 ^ 8 from rfl,Nat.testBit_mod_two_pow]
   simp[h]
  ·rename_i h
   rw[AL]at h
   rw[e,AL,UInt8.toNat_ofNat',Nat.testBit_mod_two_pow,show n / 256=n / 2 ^ 8 from rfl,Nat.testBit_div_two_pow]
   have h8:i - 8 < 8:=by omega
   simp only[h8,decide_true,Bool.true_and]
   congr 1;omega
theorem Xa (xs:List UInt8):GR xs < 4294967296:=(Sum.crc 0#32 xs).isLt
theorem Vw (xs:List UInt8):∃ k,k≤2∧Bg xs 3=(Cw [xs] [k],k):=by
 have h1:Bg xs 1=(Cw [xs] [0],0):=Gg xs 0 (.inl rfl)
 have step:∀ j,j≤2→(∃ k,k≤2∧Bg xs j=(Cw [xs] [k],k))→∃ k,k≤2∧Bg xs (j+1)=(Cw [xs] [k],k):=fun j hj h=>by
  by_cases hc:j=0∨(Cw [xs] [j]).length < (Bg xs j).1.length
  ·exact⟨j,hj,Gg xs j hc⟩
  ·rw[Om xs j hc];exact h
 exact step 2 (by omega) (step 1 (by omega) ⟨0,by omega,h1⟩)
theorem Vx (xs more:List UInt8) (hx:xs.length≤3000) (h6:((Bg xs 3).1++more).length≤6000) :
  ∃ k,CF ((Bg xs 3).1++more)=.ok (xs,(Bg xs 3).1.length,[k]):=by
 obtain⟨k,hk,h⟩:=Vw xs
 rw[h]at h6⊢
 have:=unpack_pack [xs] [k] more (by simp) rfl (by simp;exact hk) (by simp;exact hx) h6
 exact⟨k,by rw[this];simp⟩
end Go.Proofs.YtabdianhoabhhaaGreatDoor.Gz
namespace Go.Proofs.YtabdianhoabhhaaGreatDoor.Name
open Go
def AR (l:List UInt8):ByteArray:=⟨l.toArray⟩
theorem Ej (l:List UInt8):(AR l).data.toList=l:=by simp[AR]
theorem Dy (l:List UInt8):(AR l).size=l.length:=rfl
theorem mi (s:ByteArray):AR s.data.toList=s:=by simp[AR]
theorem TF {a b:List UInt8} (h:AR a=AR b):a=b:=by rw[←Ej a,h,Ej]
theorem Zv (l:List UInt8):(AR l).toList=l:=by rw[Lib.toList_data,Ej]
theorem PL (l:List UInt8) (a b:Nat):(AR l).extract a b=AR ((l.drop a).take (b - a)):=by
 apply ByteArray.ext
 simp[AR]
def parts:List UInt8→List (List UInt8)
 | []=>[[]]
 | c :: l=>if c=47 then [] :: parts l else match parts l with | []=>[[c]] | p :: ps=>(c :: p) :: ps
theorem Q6 (l:List UInt8) (h:(47:UInt8)∉l):parts l=[l]:=by
 induction l with
 | nil=>rfl
 | cons c l ih=>
  simp only[List.mem_cons,not_or]at h
  unfold parts
  rw[if_neg (fun e=>h.1 e.symm),ih h.2]
theorem WB (p r:List UInt8) (h:(47:UInt8)∉p):parts (p++47 :: r)=p :: parts r:=by
 induction p with
 | nil=>simp[parts]
 | cons c p ih=>
  simp only[List.mem_cons,not_or]at h
  rw[List.cons_append]
  conv=>lhs;unfold parts
  rw[if_neg (fun e=>h.1 e.symm),ih h.2]
theorem oZ (l:List UInt8):(parts l).length≤l.length+1:=by
 induction l with
 | nil=>simp[parts]
 | cons c l ih=>
  unfold parts
  split
  ·simp;omega
  ·split
   ·simp
   ·rename_i hp;rw[hp]at ih;simp at ih⊢;omega
theorem og (l:List UInt8) (p:List UInt8) (hp:p∈parts l):p.length≤l.length:=by
 induction l generalizing p with
 | nil=>simp[parts]at hp;subst hp;simp
 | cons c l ih=>
  unfold parts at hp
  split at hp
  ·rcases List.mem_cons.1 hp with rfl | hp
   ·simp
   ·have:=ih p hp;simp;omega
  ·split at hp
   ·simp at hp;subst hp;simp
   ·rename_i q qs hq
    rcases List.mem_cons.1 hp with rfl | hp
    ·have:=ih q (by rw[hq];simp);simp;omega
    ·have:=ih p (by rw[hq];simp[hp]);simp;omega
theorem Mq:∀ (n:Nat) (l:List UInt8),l.length≤n→Lib.splitB (AR [47]) 0 (Lib.countB (AR l) (AR [47])) (AR l)=(parts l).map AR
 | n,l,hn=>by
  have e1:Lib.indexB (AR l) (AR [47])=Lib.indexByte l 47:=by
   show Lib.index _ _=_
   rw[Ej,Ej,Lib.index_one]
  rcases Lib.indexB_cases (AR l) (AR [47]) with h | ⟨i,h,hi⟩
  ·rw[Lib.splitB_miss _ _ _ _ h]
   rw[e1]at h
   have hno:=Lib.indexByte_none h
   have:(47:UInt8)∉l:=fun hm=>by
    obtain⟨k,hk⟩:=List.mem_iff_getElem?.1 hm
    exact hno k hk
   rw[Q6 l this];rfl
  ·rw[Lib.countB_hit _ _ i (by decide) h,Nat.add_comm,Lib.splitB_hit _ _ _ _ i h]
   rw[e1]at h
   obtain⟨h1,h2⟩:=Lib.indexByte_some h
   rw[Dy,Dy]at hi
   have hi':i < l.length:=by simp at hi;omega
   have hl:l=l.take i++47 :: l.drop (i+1):=by
    have hg:l[i]=47:=by rw[List.getElem?_eq_getElem hi']at h1;exact Option.some.inj h1
    conv=>lhs;rw[←List.take_append_drop i l,List.drop_eq_getElem_cons hi',hg]
   have hno:(47:UInt8)∉l.take i:=fun hm=>by
    obtain⟨k,hk⟩:=List.mem_iff_getElem?.1 hm
    rw[List.getElem?_take]at hk
    split at hk
    ·rename_i hki;exact h2 k hki hk
    ·cases hk
   have ex:(AR l).extract (i+(AR [47]).size) (AR l).size=AR (l.drop (i+1)):=by
    rw[PL,Dy,Dy]
    congr 1
    exact List.take_of_length_le (by simp)
   have ex2:(AR l).extract 0 (i+0)=AR (l.take i):=by rw[PL];simp
   rw[ex,ex2]
   match n,hn with
   | 0,hn=>omega
   | n+1,hn=>
    rw[Mq n (l.drop (i+1)) (by simp;omega)]
    conv=>rhs;rw[hl,WB _ _ hno]
    rfl
theorem Zu (l:List UInt8):Lib.countB (AR l) (AR [47])+1=(parts l).length:=by
 have h1:=Lib.splitB_all (AR [47]) (by decide) 0 _ (AR l) rfl
 rw[Mq l.length l (Nat.le_refl _),List.length_map]at h1
 exact h1.symm
def GX (c:UInt8):Bool:=(decide (97≤c.toNat) && decide (c.toNat≤122)) || ((decide (65≤c.toNat) && decide (c.toNat≤90)) || ((decide (48≤c.toNat) && decide (c.toNat≤57)) || decide (0≤Lib.indexByte [46,95,45] c)))
def D7 (p:List UInt8):Bool:=p.any (fun c=>!GX c) || (decide (p=[]) || (decide (p=[46]) || decide (p=[46,46])))
def Cg (l:List UInt8):Int:=if 40 < l.length then 2 else if (parts l).any D7=true then 1 else 0
theorem Tj {l:List UInt8} (h:Cg l=0):l.length≤40∧∀ p∈parts l,D7 p=false:=by
 unfold Cg at h
 split at h
 ·omega
 ·split at h
  ·omega
  ·rename_i h1 h2
   refine⟨by omega,fun p hp=>?_⟩
   rw[Bool.not_eq_true,List.any_eq_false]at h2
   simpa using h2 p hp
end Go.Proofs.YtabdianhoabhhaaGreatDoor.Name
namespace Go.Proofs.YtabdianhoabhhaaGreatDoor.Merge
open Go
set_option linter.unusedVariables false
abbrev cb:=Lib.compareBytes
abbrev ci:=Lib.compareInt
theorem Tc {a b:UInt8}:a < b↔a.toNat < b.toNat:=UInt8.lt_iff_toNat_lt
theorem ACW {a b:UInt8} (h:a.toNat=b.toNat):a=b:=UInt8.toNat_inj.1 h
theorem AA2 (a:List UInt8):cb a a=0:=by
 induction a with
 | nil=>rfl
 | cons x a ih=>simp only[cb,Lib.compareBytes];rw[if_neg (by rw[Tc];omega),if_neg (by rw[Tc];omega)];exact ih
theorem fF (a b:List UInt8):cb b a=- cb a b:=by
 induction a generalizing b with
 | nil=>cases b <;> rfl
 | cons x a ih=>
  cases b with
  | nil=>rfl
  | cons y b=>
   simp only[cb,Lib.compareBytes]
   by_cases h1:x < y
   ·rw[if_neg (by rw[Tc]at *;omega),if_pos h1,if_pos h1];rfl
   ·by_cases h2:y < x
    ·rw[if_pos h2,if_neg h1,if_pos h2]
    ·rw[if_neg h2,if_neg h1,if_neg h1,if_neg h2];exact ih b
theorem ACX {a b:List UInt8} (h:cb a b=0):a=b:=by
 induction a generalizing b with
 | nil=>
  cases b with
  | nil=>rfl
  | cons y b=>simp[cb,Lib.compareBytes]at h
 | cons x a ih=>
  cases b with
  | nil=>simp[cb,Lib.compareBytes]at h
  | cons y b=>
   simp only[cb,Lib.compareBytes]at h
   by_cases h1:x < y
   ·rw[if_pos h1]at h;simp at h
   ·rw[if_neg h1]at h
    by_cases h2:y < x
    ·rw[if_pos h2]at h;simp at h
    ·rw[if_neg h2]at h
     rw[ih h,ACW (a:=x) (b:=y) (by rw[Tc]at *;omega)]
theorem wT {a b c:List UInt8} (h1:cb a b≤0) (h2:cb b c≤0):cb a c≤0:=by
 induction a generalizing b c with
 | nil=>cases c <;> simp[cb,Lib.compareBytes]
 | cons x a ih=>
  cases b with
  | nil=>simp[cb,Lib.compareBytes]at h1
  | cons y b=>
   cases c with
   | nil=>simp[cb,Lib.compareBytes]at h2
   | cons z c=>
    simp only[cb,Lib.compareBytes,Tc]at *
    by_cases g1:x.toNat < y.toNat
    ·by_cases g2:y.toNat < z.toNat
     ·rw[if_pos (by omega)];omega
     ·rw[if_neg g2]at h2
      by_cases g3:z.toNat < y.toNat
      ·rw[if_pos g3]at h2;omega
      ·rw[if_pos (by omega)];omega
    ·rw[if_neg g1]at h1
     by_cases g1':y.toNat < x.toNat
     ·rw[if_pos g1']at h1;omega
     ·rw[if_neg g1']at h1
      by_cases g2:y.toNat < z.toNat
      ·rw[if_pos (by omega)];omega
      ·rw[if_neg g2]at h2
       by_cases g3:z.toNat < y.toNat
       ·rw[if_pos g3]at h2;omega
       ·rw[if_neg g3]at h2
        rw[if_neg (by omega),if_neg (by omega)]
        exact ih h1 h2
theorem Ry (a b:List UInt8):Op.bytesLess a b=decide (cb a b < 0):=by
 induction a generalizing b with
 | nil=>cases b <;> simp[cb,Lib.compareBytes,Op.bytesLess]
 | cons x a ih=>
  cases b with
  | nil=>simp[cb,Lib.compareBytes,Op.bytesLess]
  | cons y b=>
   simp only[cb,Lib.compareBytes,Op.bytesLess]
   by_cases g1:x < y
   ·simp[g1]
   ·by_cases g2:y < x
    ·have:(x == y)=false:=by rw[beq_eq_false_iff_ne];rintro rfl;rw[Tc]at g2;omega
     simp[g1,g2,this]
    ·have:x=y:=ACW (by rw[Tc]at *;omega)
     subst this
     simp[g1,ih]
structure oM {α:Type} (f:α→α→Int):Prop where
 neg:∀ a b,f b a=- f a b
 trans:∀ {a b c},f a b≤0→f b c≤0→f a c≤0
def fB (x y:Int):Int:=if x≠0 then x else y
theorem oM.refl {α:Type} {f:α→α→Int} (h:oM f) (a:α):f a a=0:=by have:=h.neg a a;omega
theorem oM.wU {α:Type} {f:α→α→Int} (h:oM f) {a b c:α} (h1:f a b < 0) (h2:f b c≤0):f a c < 0:=by
 have h3:=h.trans (Int.le_of_lt h1) h2
 rcases (by omega:f a c < 0∨f a c=0) with h4 | h4
 ·exact h4
 ·have h5:f c a≤0:=by rw[h.neg a c];omega
  have h6:=h.trans h2 h5
  rw[h.neg a b]at h6;omega
theorem wV {α:Type} (k:α→List UInt8):oM (fun a b=>cb (k a) (k b)):=⟨fun a b=>fF _ _,fun {a b c} h1 h2=>wT h1 h2⟩
theorem IG {a b c:List UInt8} (h1:cb a b < 0) (h2:cb b c < 0):cb a c < 0:=(wV (fun x=>x)).wU h1 (Int.le_of_lt h2)
structure Fl where
 name:List UInt8
 bytes:List UInt8
 stamp:Int
 node:Int
 gone:Bool
theorem Fl.eq {a b:Fl} (h1:a.name=b.name) (h2:a.bytes=b.bytes) (h3:a.stamp=b.stamp) (h4:a.node=b.node) (h5:a.gone=b.gone):a=b:=by
 cases a;cases b;simp_all
def gi (b:Bool):Int:=if b=true then 1 else 0
def later (a b:Fl):Int:=fB (ci a.stamp b.stamp) (fB (ci a.node b.node) (fB (ci (gi a.gone) (gi b.gone)) (cb a.bytes b.bytes)))
def Gn (a b:Fl):Fl:=if later a b < 0 then b else a
theorem V8 {a b:Fl} (h:a.name=b.name):(Gn a b).name=a.name:=by unfold Gn;split <;> simp[h]
theorem AA5 (a b:Fl):Gn a b=a∨Gn a b=b:=by unfold Gn;split <;> simp
def lk (l:List Fl) (n:List UInt8):Option Fl:=l.find? fun f=>decide (f.name=n)
def Pq (l:List Fl):Prop:=l.Pairwise fun a b=>cb a.name b.name < 0
theorem fJ (n:List UInt8):lk [] n=none:=rfl
theorem EG (f:Fl) (l:List Fl) (n:List UInt8):lk (f :: l) n=if f.name=n then some f else lk l n:=by
 unfold lk
 by_cases h:f.name=n
 ·rw[List.find?_cons_of_pos (by simpa using h),if_pos h]
 ·rw[List.find?_cons_of_neg (by simpa using h),if_neg h]
theorem LH {l:List Fl} {n:List UInt8}:lk l n=none↔∀ f∈l,f.name≠n:=by
 unfold lk;rw[List.find?_eq_none];simp
theorem Tf {a b:List UInt8} (h:cb a b < 0):a≠b:=by rintro rfl;rw[AA2]at h;omega
def jo:Option Fl→Option Fl→Option Fl
 | none,y=>y
 | some a,none=>some a
 | some a,some b=>some (Gn a b)
theorem jw (x:Option Fl):jo x none=x:=by cases x <;> rfl
def CL:List Fl→List Fl→List Fl
 | [],b=>b
 | x :: a,[]=>x :: a
 | x :: a,y :: b=>if cb x.name y.name < 0 then x :: CL a (y :: b) else if 0 < cb x.name y.name then y :: CL (x :: a) b else Gn x y :: CL a b
termination_by a b=>a.length+b.length
theorem FZ (b:List Fl):CL [] b=b:=by rw[CL]
theorem KR (a:List Fl):CL a []=a:=by cases a <;> rw[CL]
theorem Rv {x y:Fl} (a b:List Fl) (h:cb x.name y.name < 0):CL (x :: a) (y :: b)=x :: CL a (y :: b):=by rw[CL,if_pos h]
theorem Rw {x y:Fl} (a b:List Fl) (h:0 < cb x.name y.name):CL (x :: a) (y :: b)=y :: CL (x :: a) b:=by rw[CL,if_neg (by omega),if_pos h]
theorem Rx {x y:Fl} (a b:List Fl) (h:cb x.name y.name=0):CL (x :: a) (y :: b)=Gn x y :: CL a b:=by rw[CL,if_neg (by omega),if_neg (by omega)]
theorem wX:∀ (k:Nat) (a b:List Fl),a.length+b.length≤k→∀ f∈CL a b,f∈a∨f∈b:=by
 intro k
 induction k with
 | zero=>
  intro a b hk f hf
  have ha:a=[]:=List.eq_nil_of_length_eq_zero (by omega)
  subst ha;rw[FZ]at hf;exact .inr hf
 | succ k ih=>
  intro a b hk f hf
  cases a with
  | nil=>rw[FZ]at hf;exact .inr hf
  | cons x a=>
   cases b with
   | nil=>rw[KR]at hf;exact .inl hf
   | cons y b=>
    simp only[List.length_cons]at hk
    rcases (by omega:cb x.name y.name < 0∨0 < cb x.name y.name∨cb x.name y.name=0) with h | h | h
    ·rw[Rv a b h]at hf
     rcases List.mem_cons.1 hf with rfl | hf
     ·simp
     ·rcases ih a (y :: b) (by simp;omega) f hf with h | h
      ·simp[h]
      ·exact .inr h
    ·rw[Rw a b h]at hf
     rcases List.mem_cons.1 hf with rfl | hf
     ·simp
     ·rcases ih (x :: a) b (by simp;omega) f hf with h | h
      ·exact .inl h
      ·simp[h]
    ·rw[Rx a b h]at hf
     rcases List.mem_cons.1 hf with rfl | hf
     ·rcases AA5 x y with h | h <;> rw[h] <;> simp
     ·rcases ih a b (by omega) f hf with h | h <;> simp[h]
theorem R3 {a b:List Fl} {f:Fl} (h:f∈CL a b):f∈a∨f∈b:=wX _ a b (Nat.le_refl _) f h
theorem Zr:∀ (k:Nat) (a b:List Fl),a.length+b.length≤k→Pq a→Pq b→Pq (CL a b)∧∀ n,lk (CL a b) n=jo (lk a n) (lk b n):=by
 intro k
 induction k with
 | zero=>
  intro a b hk ha hb
  have h1:a=[]:=List.eq_nil_of_length_eq_zero (by omega)
  subst h1;rw[FZ];exact⟨hb,fun n=>rfl⟩
 | succ k ih=>
  intro a b hk ha hb
  cases a with
  | nil=>rw[FZ];exact⟨hb,fun n=>rfl⟩
  | cons x a=>
   cases b with
   | nil=>rw[KR];exact⟨ha,fun n=>by rw[fJ,jw]⟩
   | cons y b=>
    simp only[List.length_cons]at hk
    obtain⟨a1,a2⟩:=List.pairwise_cons.1 ha
    obtain⟨b1,b2⟩:=List.pairwise_cons.1 hb
    rcases (by omega:cb x.name y.name < 0∨0 < cb x.name y.name∨cb x.name y.name=0) with h | h | h
    ·rw[Rv a b h]
     obtain⟨i1,i2⟩:=ih a (y :: b) (by simp;omega) a2 hb
     refine⟨List.pairwise_cons.2 ⟨fun f hf=>?_,i1⟩,fun n=>?_⟩
     ·rcases R3 hf with h2 | h2
      ·exact a1 f h2
      ·rcases List.mem_cons.1 h2 with rfl | h2
       ·exact h
       ·exact IG h (b1 f h2)
     ·rw[EG,i2,EG x a]
      by_cases e:x.name=n
      ·rw[if_pos e,if_pos e]
       have:lk (y :: b) n=none:=LH.2 fun f hf=>by
        subst e
        rcases List.mem_cons.1 hf with rfl | hf
        ·exact (Tf h).symm
        ·exact (Tf (IG h (b1 f hf))).symm
       rw[this];rfl
      ·rw[if_neg e,if_neg e]
    ·have h':cb y.name x.name < 0:=by rw[fF x.name y.name];omega
     rw[Rw a b h]
     obtain⟨i1,i2⟩:=ih (x :: a) b (by simp;omega) ha b2
     refine⟨List.pairwise_cons.2 ⟨fun f hf=>?_,i1⟩,fun n=>?_⟩
     ·rcases R3 hf with h2 | h2
      ·rcases List.mem_cons.1 h2 with rfl | h2
       ·exact h'
       ·exact IG h' (a1 f h2)
      ·exact b1 f h2
     ·rw[EG,i2,EG y b]
      by_cases e:y.name=n
      ·rw[if_pos e,if_pos e]
       have:lk (x :: a) n=none:=LH.2 fun f hf=>by
        subst e
        rcases List.mem_cons.1 hf with rfl | hf
        ·exact (Tf h').symm
        ·exact (Tf (IG h' (a1 f hf))).symm
       rw[this];rfl
      ·rw[if_neg e,if_neg e]
    ·have hxy:=ACX h
     rw[Rx a b h]
     obtain⟨i1,i2⟩:=ih a b (by omega) a2 b2
     refine⟨List.pairwise_cons.2 ⟨fun f hf=>?_,i1⟩,fun n=>?_⟩
     ·rw[V8 hxy]
      rcases R3 hf with h2 | h2
      ·exact a1 f h2
      ·rw[hxy];exact b1 f h2
     ·rw[EG,i2,EG x a,EG y b,V8 hxy]
      by_cases e:x.name=n
      ·rw[if_pos e,if_pos e,if_pos (hxy▸e)];rfl
      ·rw[if_neg e,if_neg e,if_neg (fun e2=>e (hxy.trans e2))]
theorem Eg {a b:List Fl} (ha:Pq a) (hb:Pq b):Pq (CL a b):=(Zr _ a b (Nat.le_refl _) ha hb).1
def EW (f:Fl):Int:=
 if Name.Cg f.name≠0 then Name.Cg f.name else if 3000 < f.bytes.length then 2 else if f.stamp < 0∨1000000 < f.stamp∨f.node < 0∨4≤f.node then 3 else if f.gone=true∧f.bytes≠[] then 4 else 0
def zx:Option (List UInt8)→List UInt8→Bool
 | none,_=>true
 | some q,n=>decide (cb q n < 0)
def QO:Option (List UInt8)→List Fl→Int
 | _,[]=>0
 | p,f :: l=>if EW f≠0 then EW f else if zx p f.name=false then 4 else QO (some f.name) l
def Bb (l:List Fl):Int:=if 12 < l.length then 2 else QO none l
theorem AA6 (p:Option (List UInt8)) (l:List Fl):QO p l=0↔(∀ f∈l,EW f=0)∧Pq l∧(∀ q,p=some q→∀ f∈l,cb q f.name < 0):=by
 induction l generalizing p with
 | nil=>simp[QO,Pq]
 | cons f l ih=>
  simp only[QO]
  by_cases h1:EW f=0
  ·rw[if_neg (by simpa using h1)]
   by_cases h2:zx p f.name=false
   ·rw[if_pos h2]
    constructor
    ·intro h;simp at h
    ·rintro⟨_,_,h3⟩
     cases p with
     | none=>cases h2
     | some q=>exact absurd (h3 q rfl f (by simp)) (by simpa [zx] using h2)
   ·rw[if_neg h2,ih]
    constructor
    ·rintro⟨g1,g2,g3⟩
     refine⟨?_,List.pairwise_cons.2 ⟨fun x hx=>g3 _ rfl x hx,g2⟩,?_⟩
     ·intro x hx
      rcases List.mem_cons.1 hx with rfl | hx
      ·exact h1
      ·exact g1 x hx
     ·intro q hq x hx
      subst hq
      have hqf:cb q f.name < 0:=by simpa [zx] using h2
      rcases List.mem_cons.1 hx with rfl | hx
      ·exact hqf
      ·exact IG hqf (g3 _ rfl x hx)
    ·rintro⟨g1,g2,g3⟩
     obtain⟨k1,k2⟩:=List.pairwise_cons.1 g2
     refine⟨fun x hx=>g1 x (by simp[hx]),k2,?_⟩
     intro q hq x hx
     injection hq with hq
     subst hq
     exact k1 x hx
  ·rw[if_pos h1]
   constructor
   ·intro h;exact absurd h h1
   ·rintro⟨g,_,_⟩;exact absurd (g f (by simp)) h1
theorem NK {l:List Fl}:Bb l=0↔l.length≤12∧(∀ f∈l,EW f=0)∧Pq l:=by
 unfold Bb
 split
 ·constructor
  ·intro h;simp at h
  ·intro h;omega
 ·rw[AA6]
  constructor
  ·rintro⟨a,b,_⟩;exact⟨by omega,a,b⟩
  ·rintro⟨_,a,b⟩;exact⟨a,b,fun q hq=>by cases hq⟩
def Bt (a b:List Fl):Int×List Fl:=
 if Bb a≠0 then (Bb a,[]) else if Bb b≠0 then (Bb b,[]) else if 12 < (CL a b).length then (11,[]) else (0,CL a b)
theorem uf {a b l:List Fl} (h:Bt a b=(0,l)):Bb a=0∧Bb b=0∧l=CL a b∧l.length≤12:=by
 unfold Bt at h
 by_cases h1:Bb a=0
 ·rw[if_neg (by simpa using h1)]at h
  by_cases h2:Bb b=0
  ·rw[if_neg (by simpa using h2)]at h
   split at h
   ·simp at h
   ·injection h with _ h;subst h;exact⟨h1,h2,rfl,by omega⟩
  ·rw[if_pos h2]at h;injection h with h;exact absurd h h2
 ·rw[if_pos h1]at h;injection h with h;exact absurd h h1
theorem O3 {a b:List Fl} (h1:Bb a=0) (h2:Bb b=0) (h3:(CL a b).length≤12):Bt a b=(0,CL a b):=by
 unfold Bt;rw[if_neg (by simpa using h1),if_neg (by simpa using h2),if_neg (by omega)]
theorem ug {a b:List Fl} (h1:Bb a=0) (h2:Bb b=0) (h3:(CL a b).length≤12):Bb (CL a b)=0:=by
 rw[NK]at *
 refine⟨h3,fun f hf=>?_,Eg h1.2.2 h2.2.2⟩
 rcases R3 hf with h | h
 ·exact h1.2.1 f h
 ·exact h2.2.1 f h
end Go.Proofs.YtabdianhoabhhaaGreatDoor.Merge
