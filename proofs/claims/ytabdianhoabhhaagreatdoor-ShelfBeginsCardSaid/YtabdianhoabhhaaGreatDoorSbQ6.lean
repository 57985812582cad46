/- texts joined: MatchIndex MatchFind MatchTok BlkOne BlkPack EqualB BlkBest ConcatB CatB NamePure MergePure ShelfSplit. -/
import Derived.Test.YtabdianhoabhhaaGreatDoorSbQ1
import Derived.DeepKeys4
import Derived.WideKeyEntry
import Derived.Test.YtabdianhoabhhaaGreatDoorSbQ4
import Derived.Test.YtabdianhoabhhaaGreatDoorSbQ5
import Derived.Test.YtabdianhoabhhaaGreatDoorProg
import Derived.Laws.BytesArg
import Derived.Shelf.Bytes.SlSmallAll
import Derived.WalkSpells
import Derived.Lib.AppendZeros
import Derived.WalkKit
import Derived.Lib.Split
import Derived.Lib.SplitLaws
import Derived.Lib.IndexBytes
import Derived.Lib.CountLaws
import Derived.Lib.Join
import Derived.Lib.Strings
import Derived.Lib.Bytealg
import Derived.Lib.Small
import Derived.Sort.Walk0
import Derived.Shelf.Strings.Split
import Derived.Shelf.Small.Strs
namespace Go.Proofs.YtabdianhoabhhaaGreatDoor.Match
open Go Go.RowKit Go.Proofs.YtabdianhoabhhaaGreatDoor Go.MapKept
open Go.ChangeMaps (setBlock heap_setBlock_same heap_setBlock_other)
open Go.WideMaps (KeyLaw)
set_option linter.unusedVariables false
abbrev Rk:=UInt8×UInt8×UInt8
def kv (t:Rk):Value:=.agg #[Eh t.1,Eh t.2.1,Eh t.2.2]
theorem Xg {s t:Rk} (h:kv s=kv t):s=t:=by
 obtain⟨a,b,c⟩:=s
 obtain⟨a',b',c'⟩:=t
 simp only[kv,Eh,Value.agg.injEq,Array.mk.injEq,List.cons.injEq,Value.int.injEq,true_and,and_true]at h
 obtain⟨h1,h2,h3⟩:=h
 rw[Xh h1,Xh h2,Xh h3]
theorem dm:KeyLaw Tryz.prog 287:=deep_law_laid (m:=2) (by kernel_rfl) (by omega) (of_decide_eq_true (by kernel_rfl)) (by kernel_rfl) (by kernel_rfl)
theorem vP (t:Rk):(kv t).cells.toList=[Eh t.1,Eh t.2.1,Eh t.2.2]:=by simp[kv,Value.cells]
theorem AEA (x:UInt8) (d:Nat):Tryz.prog.keyLits (d+1) 5 [Eh x]=some [.int .u8 (n8 x)]:=by
 have hx:=Ql x
 have hw:(Lit.int .u8 (n8 x)).wf=true:=by simp[Lit.wf,IntKind.min,IntKind.max,IntKind.signed,IntKind.bits];omega
 simp[Program.keyLits,Tryz.underlying5,Eh,hw]
theorem vQ (t:Rk) (d:Nat):Tryz.prog.keyLits (d+2) 287 [Eh t.1,Eh t.2.1,Eh t.2.2]=some [.int .u8 (n8 t.1),.int .u8 (n8 t.2.1),.int .u8 (n8 t.2.2)]:=by
 have e1:Tryz.prog.cellsOf 287=3:=by kernel_rfl
 have e2:Tryz.prog.cellsOf 5=1:=by kernel_rfl
 rw[Program.keyLits.eq_def]
 simp only[Tryz.underlying287,e1,e2]
 rw[show List.range 3=[0,1,2] from rfl]
 simp[AEA]
theorem mf:∃ d,Tryz.prog.types.size+1=d+2:=by
 have:1≤Tryz.prog.types.size:=of_decide_eq_true (by kernel_rfl)
 exact⟨Tryz.prog.types.size - 1,by omega⟩
theorem Xi (t:Rk):∃ kl,keyOf Tryz.prog 287 (kv t)=some kl:=by
 have h1:Tryz.prog.keyType 287=true:=by kernel_rfl
 have h2:(kv t).formed Tryz.prog 287=true:=by
  have:Tryz.prog.cellsOf 287=3:=by kernel_rfl
  simp[kv,Value.formed,Tryz.underlying287,this]
 obtain⟨d,hd⟩:=mf
 have h3:=vQ t d
 rw[←hd,←vP]at h3
 refine⟨.string (keyBytes [.int .u8 (n8 t.1),.int .u8 (n8 t.2.1),.int .u8 (n8 t.2.2)]),?_⟩
 rw[keyOf,Tryz.underlying287]
 show (if (Tryz.prog.keyType 287 && (kv t).formed Tryz.prog 287)=true then _ else _)=_
 rw[h1,h2,h3]
 rfl
def BR (n:Nat):Value:=.int .i64 (n:Int)
theorem ai:Bo Tryz.prog 89 3 (.int .i64 0) 1 8:=⟨Tryz.underlying89,by kernel_rfl,rfl,by omega⟩
def Li (w:World) (base b:Nat) (F:Rk→List Nat):Prop:=
 base≤b∧∃ es clock,w.heap[b]?=some (.map es clock)∧Stamped es clock∧(∀ x∈es.toList,∃ t,x.key=kv t∧w.ownsRow base 3 1 x.val (F t).length ((F t).map BR))∧
  (∀ t,(∀ x∈es.toList,x.key≠kv t)→F t=[])∧(∀ x∈es.toList,∀ y∈es.toList,x.key≠y.key→x.val.ownBlock=none∨x.val.ownBlock≠y.val.ownBlock)
theorem Li.lt {w:World} {base b:Nat} {F:Rk→List Nat} (h:Li w base b F):b < w.heap.size:=by
 obtain⟨_,es,clock,hb,_⟩:=h
 exact (Array.getElem?_eq_some_iff.1 hb).1
theorem Li.made (w:World) {base:Nat} (hb:base≤w.heap.size):Li (w.alloc (.map #[] 0)) base w.heap.size (fun _=>[]):=
 ⟨hb,#[],0,heap_alloc_new w _,⟨by simp,by simp,by simp⟩,by simp,fun _ _=>rfl,by simp⟩
theorem Li.keep {w w':World} {base b:Nat} {F:Rk→List Nat} (h:Li w base b F) (hk:∀ (k:Nat) (o:Obj),w.heap[k]?=some o→(∀ cs t fr,o=Obj.cells cs t fr→t=3)→w'.heap[k]?=some o):Li w' base b F:=by
 obtain⟨h0,es,clock,hb,hs,h1,h2,h3⟩:=h
 refine⟨h0,es,clock,hk _ _ hb (fun cs t fr e=>by cases e),hs,fun x hx=>?_,h2,h3⟩
 obtain⟨t,ht,hl,ho⟩:=h1 x hx
 refine⟨t,ht,hl,?_⟩
 rcases ho with ho | ⟨g,cap,cur,e1,e2,e3,e4⟩
 ·exact Or.inl ho
 ·exact Or.inr ⟨g,cap,cur,e1,e2,hk _ _ e3 (fun cs t fr e=>by cases e;rfl),e4⟩
theorem Li.below {w w':World} {base b:Nat} {F:Rk→List Nat} (h:Li w base b F) (hb:Below w.heap.size w w'):Li w' base b F:=
 h.keep fun k o ho _=>by rw[hb.block k (Array.getElem?_eq_some_iff.1 ho).1];exact ho
theorem Li.alloc {w:World} {base b:Nat} {F:Rk→List Nat} (h:Li w base b F) (o:Obj):Li (w.alloc o) base b F:=h.below ((Below.refl _ _).alloc (Nat.le_refl _) _)
theorem Li.keeps {w w':World} {base base' b:Nat} {T:List TypeId} {F:Rk→List Nat} (h:Li w base b F) (hk:AB base' T w w') (hT:3∉T):Li w' base b F:=
 h.keep fun k o ho ht=>hk.other k o ho (fun cs t fr e=>by rw[ht cs t fr e];exact hT)
theorem Li.look {w:World} {base b:Nat} {F:Rk→List Nat} (h:Li w base b F) (t:Rk) :
  ∃ v,(Instr.lookup 239 (.map (some b)) (kv t) false).run Tryz.prog w=.ok v w∧w.ownsRow base 3 1 v (F t).length ((F t).map BR):=by
 obtain⟨h0,es,clock,hb,hs,h1,h2,h3⟩:=h
 obtain⟨kl,hkl⟩:=Xi t
 have ht:Tryz.prog.underlying 239=some (.map 287 89):=Tryz.underlying239
 have hkeys:∀ x∈es.toList,∃ l,keyOf Tryz.prog 287 x.key=some l:=fun x hx=>by
  obtain⟨u,hu,_⟩:=h1 x hx
  rw[hu];exact Xi u
 rcases dm.find w hkl es.toList hkeys with ⟨g1,g2⟩ | ⟨j,e0,g1,g2,g3⟩
 ·refine⟨.slice none 0 0,by simp[Instr.lookup,run_underlying ht,MapKept.run_getObj_map hb,dm.check w _ hkl,g1,Result.andThen],?_⟩
  rw[h2 t g2]
  exact World.ownsRow_nil _ _ _ _
 ·refine⟨e0.val,by simp[Instr.lookup,run_underlying ht,MapKept.run_getObj_map hb,dm.check w _ hkl,g1,Result.andThen],?_⟩
  obtain⟨u,hu,ho⟩:=h1 e0 (List.mem_of_getElem? g2)
  have:t=u:=Xg (by rw[←g3,hu])
  rw[this];exact ho
def upd (F:Rk→List Nat) (t:Rk) (l:List Nat):Rk→List Nat:=fun u=>if u=t then l else F u
theorem F8 {w:World} {base b n:Nat} {v:Value} {xs:List Value} {es:Array MapEntry} {clock:Nat} (h:w.ownsRow base 3 1 v n xs) (hb:w.heap[b]?=some (.map es clock)):v.ownBlock≠some b:=by
 rcases h.2 with ⟨rfl,_⟩ | ⟨g,cap,cur,rfl,_,hg,_⟩
 ·simp[Value.ownBlock]
 ·intro e
  simp only[Value.ownBlock,Option.some.injEq]at e
  subst e
  rw[hb]at hg;cases hg
theorem vR {w:World} {base n g:Nat} {v:Value} {xs:List Value} (h:w.ownsRow base 3 1 v n xs) (hb:v.ownBlock=some g):g < w.heap.size:=by
 rcases h.2 with ⟨rfl,_⟩ | ⟨g',cap,cur,rfl,_,hg,_⟩
 ·simp[Value.ownBlock]at hb
 ·simp only[Value.ownBlock,Option.some.injEq]at hb
  subst hb
  exact (Array.getElem?_eq_some_iff.1 hg).1
theorem Vq {w w':World} {base b n:Nat} {v:Value} {xs:List Value} (h:w.ownsRow base 3 1 v n xs) (hk:∀ (k:Nat),k < w.heap.size→v.ownBlock=some k→k≠b→w'.heap[k]?=w.heap[k]?) (hne:v.ownBlock≠some b):w'.ownsRow base 3 1 v n xs:=by
 refine⟨h.1,?_⟩
 rcases h.2 with h | ⟨g,cap,cur,rfl,h2,h3,h4⟩
 ·exact Or.inl h
 ·refine Or.inr ⟨g,cap,cur,rfl,h2,?_,h4⟩
  rw[hk g (Array.getElem?_eq_some_iff.1 h3).1 rfl (fun e=>hne (by simp[Value.ownBlock,e]))]
  exact h3
theorem TR {w w':World} {base b n:Nat} {v:Value} {xs:List Value} (h:w.ownsRow base 3 1 v n xs) (hk:∀ (k:Nat),k < w.heap.size→k≠b→w'.heap[k]?=w.heap[k]?) (hne:v.ownBlock≠some b):w'.ownsRow base 3 1 v n xs:=
 Vq h (fun k hk1 _ hkb=>hk k hk1 hkb) hne
theorem Li.entry {w:World} {base b:Nat} {F:Rk→List Nat} (h:Li w base b F) (t:Rk) :
  ∃ v st w1,(Instr.mapEntry 239 (.map (some b)) (kv t)).run Tryz.prog w=.ok (.tuple #[v,goInt st]) w1∧w1.ownsRow base 3 1 v (F t).length ((F t).map BR)∧w.grownBy w1 (some b)∧w1.heap.size=w.heap.size∧v.ownBlock≠some b∧
   ∀ (w2:World) (v2:Value) (l:List Nat),w1.grownBy w2 v.ownBlock→w2.ownsRow base 3 1 v2 l.length (l.map BR)→(v2.ownBlock=v.ownBlock∨v2.ownBlock=some w.heap.size)→
    ∃ w3,(Instr.entryStore 239 (.map (some b)) (goInt st) v2).run Tryz.prog w2=.ok () w3∧Li w3 base b (upd F t l)∧w2.grownBy w3 (some b):=by
 obtain⟨h0,es,clock,hb,⟨s1,s2,s3⟩,h1,h2,h3⟩:=h
 obtain⟨kl,hkl⟩:=Xi t
 have ht:Tryz.prog.underlying 239=some (.map 287 89):=Tryz.underlying239
 have hkeys:∀ x∈es.toList,∃ l,keyOf Tryz.prog 287 x.key=some l:=fun x hx=>by
  obtain⟨u,hu,_⟩:=h1 x hx
  rw[hu];exact Xi u
 have hblt:b < w.heap.size:=(Array.getElem?_eq_some_iff.1 hb).1
 have grow:∀ (u:World) (o:Obj) (es':Array MapEntry) (c':Nat),u.heap[b]?=some (.map es' c')→u.grownBy (setBlock u b o) (some b):=fun u o es' c' hu=>
  ⟨rfl,rfl,rfl,by simp[setBlock],fun i _ hi=>heap_setBlock_other hu _ (fun e1=>hi (by rw[e1]))⟩
 rcases dm.find w hkl es.toList hkeys with ⟨g1,g2⟩ | ⟨j,e0,g1,g2,g3⟩
 ·have hF:=h2 t g2
  have hb1:(setBlock w b (.map (es.push ⟨kv t,.slice none 0 0,clock⟩) (clock+1))).heap[b]?=some (.map (es.push ⟨kv t,.slice none 0 0,clock⟩) (clock+1)):=heap_setBlock_same hb _
  refine⟨.slice none 0 0,clock,setBlock w b (.map (es.push ⟨kv t,.slice none 0 0,clock⟩) (clock+1)),?_,?_,grow _ _ _ _ hb,by simp[setBlock],by simp[Value.ownBlock],?_⟩
  ·simp[Instr.mapEntry,run_underlying ht,MapKept.run_getObj_map hb,dm.check w false hkl,g1,MapKept.run_setObj_map _ hb,Result.andThen,setBlock]
  ·rw[hF];exact World.ownsRow_nil _ _ _ _
  ·intro w2 v2 l hg ho hv
   have hw2:w2.heap[b]?=some (.map (es.push ⟨kv t,.slice none 0 0,clock⟩) (clock+1)):=(hg.block b (by simpa [setBlock] using hblt) (by simp[Value.ownBlock])).trans hb1
   have hidx:(es.push ⟨kv t,.slice none 0 0,clock⟩).findIdx? (fun e=>((e.born:Nat):Int) == ((clock:Nat):Int))=some es.size:=by
    rw[WideElems.findIdx_arr]
    have:=WideElems.findIdx_born (l:=(es.push ⟨kv t,.slice none 0 0,clock⟩).toList) (j:=es.size) (e0:=⟨kv t,.slice none 0 0,clock⟩) (by
     simp only[Array.toList_push,List.map_append,List.map_cons,List.map_nil]
     refine List.nodup_append.2 ⟨s2,by simp,fun a ha c hc e1=>?_⟩
     simp only[List.mem_singleton]at hc
     obtain⟨x,hx,rfl⟩:=List.mem_map.1 ha
     have:=s1 x hx
     omega) (by simp)
    exact this
   have hmod:(es.push ⟨kv t,.slice none 0 0,clock⟩).modify es.size (fun e=>{ e with val:=v2 })=es.push ⟨kv t,v2,clock⟩:=by
    apply Array.ext'
    rw[Array.toList_modify,Array.toList_push,Array.toList_push,←Array.length_toList,WideElems.modify_last]
   refine⟨setBlock w2 b (.map (es.push ⟨kv t,v2,clock⟩) (clock+1)),by simp[Instr.entryStore,MapKept.run_getObj_map hw2,asInt,asIntOf,goInt,hidx,hmod,MapKept.run_setObj_map _ hw2,Result.andThen,setBlock],?_,grow _ _ _ _ hw2⟩
   have hkeep:∀ (k:Nat),k < w.heap.size→k≠b→w2.heap[k]?=w.heap[k]?:=fun k hk hkb=>by
    rw[hg.block k (by simpa [setBlock] using hk) (by simp[Value.ownBlock]),heap_setBlock_other hb _ hkb]
   refine⟨h0,es.push ⟨kv t,v2,clock⟩,clock+1,heap_setBlock_same hw2 _,⟨?_,?_,?_⟩,?_,?_,?_⟩
   ·intro x hx
    simp at hx
    rcases hx with hx | rfl
    ·have:=s1 x (by simpa using hx);omega
    ·exact Nat.lt_succ_self _
   ·simp only[Array.toList_push,List.map_append,List.map_cons,List.map_nil]
    refine List.nodup_append.2 ⟨s2,by simp,fun a ha c hc e1=>?_⟩
    simp only[List.mem_singleton]at hc
    obtain⟨x,hx,rfl⟩:=List.mem_map.1 ha
    have:=s1 x hx
    omega
   ·simp only[Array.toList_push,List.map_append,List.map_cons,List.map_nil]
    refine List.nodup_append.2 ⟨s3,by simp,fun a ha c hc e1=>?_⟩
    simp only[List.mem_singleton]at hc
    obtain⟨x,hx,rfl⟩:=List.mem_map.1 ha
    exact g2 x hx (e1.trans hc)
   ·intro x hx
    simp at hx
    rcases hx with hx | rfl
    ·obtain⟨u,hu,ho1⟩:=h1 x (by simpa using hx)
     have hne:u≠t:=fun e=>g2 x (by simpa using hx) (by rw[hu,e])
     refine⟨u,hu,?_⟩
     unfold upd;rw[if_neg hne]
     exact TR ho1 (fun k hk hkb=>by rw[heap_setBlock_other hw2 _ hkb,hkeep k hk hkb]) (F8 ho1 hb)
    ·refine⟨t,rfl,?_⟩
     unfold upd;rw[if_pos rfl]
     exact TR ho (fun k hk hkb=>heap_setBlock_other hw2 _ hkb) (F8 ho hw2)
   ·intro u hu
    have hne:u≠t:=fun e=>hu ⟨kv t,v2,clock⟩ (by simp) (by rw[e])
    unfold upd;rw[if_neg hne]
    exact h2 u (fun x hx=>hu x (by simp;exact Or.inl (by simpa using hx)))
   ·have far:∀ x∈es.toList,x.val.ownBlock=none∨x.val.ownBlock≠v2.ownBlock:=fun x hx=>by
     rcases hv with e | e
     ·rcases hq:x.val.ownBlock with _ | g
      ·exact Or.inl rfl
      ·right;rw[e];simp[Value.ownBlock]
     ·obtain⟨u,hu,ho1⟩:=h1 x hx
      rcases hq:x.val.ownBlock with _ | g
      ·exact Or.inl rfl
      ·right;rw[e];have:=vR ho1 hq;simp;omega
    intro x hx y hy hxy
    simp at hx hy
    rcases hx with hx | rfl <;> rcases hy with hy | rfl
    ·exact h3 x (by simpa using hx) y (by simpa using hy) hxy
    ·exact far x (by simpa using hx)
    ·rcases far y (by simpa using hy) with e | e
     ·rcases hq:v2.ownBlock with _ | g
      ·exact Or.inl rfl
      ·right;rw[e];simp
     ·exact Or.inr (fun e1=>e e1.symm)
    ·exact absurd rfl hxy
 ·have hj:es[j]?=some e0:=by simpa using g2
  have he0:e0∈es.toList:=List.mem_of_getElem? g2
  have hsame:es.modify j (fun e=>{ e with key:=kv t })=es:=by
   apply Array.ext'
   rw[Array.toList_modify,ChangeMaps.modify_eq_set _ _ _ _ g2]
   have:({ e0 with key:=kv t }:MapEntry)=e0:=by rw[←g3]
   rw[this]
   exact WideElems.set_self _ _ _ g2
  obtain⟨u0,hu0,ho0⟩:=h1 e0 he0
  have hut:t=u0:=Xg (by rw[←g3,hu0])
  subst hut
  have hbs:setBlock w b (.map es clock)=w:=by
   unfold setBlock
   have:w.heap.setIfInBounds b (.map es clock)=w.heap:=by
    apply Array.ext_getElem?
    intro i
    rw[Array.getElem?_setIfInBounds]
    split
    ·rename_i e;subst e;exact hb.symm
    ·rfl
   rw[this]
  refine⟨e0.val,e0.born,w,?_,ho0,⟨rfl,rfl,rfl,Nat.le_refl _,fun _ _ _=>rfl⟩,rfl,F8 ho0 hb,?_⟩
  ·have hr:(Instr.mapEntry 239 (.map (some b)) (kv t)).run Tryz.prog w=.ok (.tuple #[e0.val,goInt e0.born]) (setBlock w b (.map es clock)):=by
    simp[Instr.mapEntry,run_underlying ht,MapKept.run_getObj_map hb,dm.check w false hkl,g1,hj,g3,dm.stays w hkl,hsame,MapKept.run_setObj_map _ hb,Result.andThen,setBlock]
   rw[hr,hbs]
  ·intro w2 v2 l hg ho hv
   have hw2:w2.heap[b]?=some (.map es clock):=(hg.block b hblt (fun e=>F8 ho0 hb e.symm)).trans hb
   have hidx:es.findIdx? (fun e=>((e.born:Nat):Int) == ((e0.born:Nat):Int))=some j:=by
    rw[WideElems.findIdx_arr]
    exact WideElems.findIdx_born s2 g2
   refine⟨setBlock w2 b (.map (es.modify j (fun e=>{ e with val:=v2 })) clock),by simp[Instr.entryStore,MapKept.run_getObj_map hw2,asInt,asIntOf,goInt,hidx,MapKept.run_setObj_map _ hw2,Result.andThen,setBlock],?_,grow _ _ _ _ hw2⟩
   have hl:(es.modify j (fun e=>{ e with val:=v2 })).toList=es.toList.set j { e0 with val:=v2 }:=by
    rw[Array.toList_modify,ChangeMaps.modify_eq_set _ _ _ _ g2]
   have hjl:j < es.toList.length:=by
    rcases Nat.lt_or_ge j es.toList.length with h | h
    ·exact h
    ·rw[List.getElem?_eq_none h]at g2;cases g2
   have hmem:∀ x,x∈es.toList.set j { e0 with val:=v2 }→x={ e0 with val:=v2 }∨(x∈es.toList∧x.key≠kv t):=fun x hx=>by
    obtain⟨i,hi,rfl⟩:=List.mem_iff_getElem.1 hx
    by_cases hij:i=j
    ·subst hij;left;simp
    ·right
     have hil:i < es.toList.length:=by simpa using hi
     rw[List.getElem_set_ne (fun e=>hij e.symm)]
     refine⟨List.getElem_mem hil,fun e=>hij ?_⟩
     refine (List.getElem?_inj (l:=es.toList.map (·.key)) (by simpa using hil) s3).1 ?_
     rw[List.getElem?_map,List.getElem?_map,g2,List.getElem?_eq_getElem hil]
     simp only[Option.map_some]
     rw[e,g3]
   have ACN:∀ {β:Type} (f:MapEntry→β),(f { e0 with val:=v2 }=f e0)→(es.toList.set j { e0 with val:=v2 }).map f=es.toList.map f:=fun {β} f hf=>by
    rw[List.map_set,hf]
    have:=WideElems.set_self (es.toList.map f) j (f e0) (by rw[List.getElem?_map,g2];rfl)
    exact this
   have hkeep:∀ (k:Nat),k < w.heap.size→some k≠e0.val.ownBlock→w2.heap[k]?=w.heap[k]?:=fun k hk hkb=>hg.block k hk hkb
   have AKD:∀ (u:Rk),kv u=kv t→u=t:=fun u e=>Xg e
   refine⟨h0,es.modify j (fun e=>{ e with val:=v2 }),clock,heap_setBlock_same hw2 _,⟨?_,?_,?_⟩,?_,?_,?_⟩
   ·rw[hl];intro x hx
    rcases hmem x hx with rfl | ⟨hx,_⟩
    ·exact s1 e0 he0
    ·exact s1 x hx
   ·rw[hl,ACN _ (by rfl)];exact s2
   ·rw[hl,ACN _ (by rfl)];exact s3
   ·rw[hl];intro x hx
    rcases hmem x hx with rfl | ⟨hx,hne⟩
    ·refine⟨t,g3,?_⟩
     unfold upd;rw[if_pos rfl]
     exact TR ho (fun k hk hkb=>heap_setBlock_other hw2 _ hkb) (F8 ho hw2)
    ·obtain⟨u,hu,ho1⟩:=h1 x hx
     have hut:u≠t:=fun e=>hne (by rw[hu,e])
     refine⟨u,hu,?_⟩
     unfold upd;rw[if_neg hut]
     have hap:x.val.ownBlock=none∨x.val.ownBlock≠e0.val.ownBlock:=h3 x hx e0 he0 (by rw[g3];exact hne)
     refine Vq ho1 (fun k hk hkx hkb=>?_) (F8 ho1 hb)
     rw[heap_setBlock_other hw2 _ hkb]
     refine hkeep k hk (fun e=>?_)
     rcases hap with e1 | e1
     ·rw[e1]at hkx;cases hkx
     ·exact e1 (hkx.trans e)
   ·rw[hl];intro u hu
    have hut:u≠t:=fun e=>hu { e0 with val:=v2 } (List.mem_iff_getElem.2 ⟨j,by simpa using hjl,by simp⟩) (by rw[e];exact g3)
    unfold upd;rw[if_neg hut]
    refine h2 u (fun x hx e=>?_)
    obtain⟨i,hi,rfl⟩:=List.mem_iff_getElem.1 hx
    have hij:j≠i:=fun e1=>by
     subst e1
     rw[List.getElem?_eq_getElem hi]at g2
     injection g2 with g2
     rw[g2,g3]at e
     exact hut (Xg e).symm
    exact hu es.toList[i] (List.mem_iff_getElem.2 ⟨i,by simpa using hi,by rw[List.getElem_set_ne hij]⟩) e
   ·have far:∀ x∈es.toList,x.key≠kv t→x.val.ownBlock=none∨x.val.ownBlock≠v2.ownBlock:=fun x hx hne=>by
     rcases hv with e | e
     ·rw[e];exact h3 x hx e0 he0 (by rw[g3];exact hne)
     ·obtain⟨u,hu,ho1⟩:=h1 x hx
      rcases hq:x.val.ownBlock with _ | g
      ·exact Or.inl rfl
      ·right;rw[e];have:=vR ho1 hq;simp;omega
    rw[hl];intro x hx y hy hxy
    rcases hmem x hx with rfl | ⟨hx,hnx⟩ <;> rcases hmem y hy with rfl | ⟨hy,hny⟩
    ·exact absurd rfl hxy
    ·rcases far y hy hny with e | e
     ·rcases hq:v2.ownBlock with _ | g
      ·exact Or.inl rfl
      ·right;rw[e];simp
     ·exact Or.inr (fun e1=>e e1.symm)
    ·exact far x hx hnx
    ·exact h3 x hx y hy hxy
end Go.Proofs.YtabdianhoabhhaaGreatDoor.Match
namespace Go.Proofs.YtabdianhoabhhaaGreatDoor.Match
open Go Go.RowKit Go.Proofs.YtabdianhoabhhaaGreatDoor
set_option linter.unusedVariables false
def tl (t:Rk):List UInt8:=[t.1,t.2.1,t.2.2]
theorem AD7 {s t:Rk} (h:tl s=tl t):s=t:=by
 obtain⟨a,b,c⟩:=s
 obtain⟨a',b',c'⟩:=t
 simp[tl]at h
 obtain⟨rfl,rfl,rfl⟩:=h
 rfl
def IX (w:World) (base b:Nat) (xs:List UInt8) (K:Nat):Prop:=Li w base b (fun t=>VA xs (tl t) K)
theorem vK (xs:List UInt8) (k:Nat) (h:k+3≤xs.length):YN xs k=tl (xs[k],xs[k+1],xs[k+2]):=by
 unfold YN tl
 rw[List.drop_eq_getElem_cons (by omega),List.drop_eq_getElem_cons (by omega),List.drop_eq_getElem_cons (by omega),List.take_succ_cons,List.take_succ_cons,List.take_succ_cons,List.take_zero]
theorem vL {w:World} {base b:Nat} {xs:List UInt8} {K:Nat} (hK:K+3≤xs.length) (t:Rk) (ht:YN xs K=tl t) (h:Li w base b (upd (fun t=>VA xs (tl t) K) t (VA xs (tl t) K++[K]))):IX w base b xs (K+1):=by
 unfold IX
 have e:(fun t=>VA xs (tl t) (K+1))=upd (fun t=>VA xs (tl t) K) t (VA xs (tl t) K++[K]):=by
  funext u
  unfold upd
  rw[ZR]
  by_cases hu:u=t
  ·subst hu;rw[if_pos ⟨hK,ht⟩,if_pos rfl]
  ·rw[if_neg hu,if_neg (fun h=>hu (AD7 (h.2.symm.trans ht)))];simp
 rw[e];exact h
theorem vM {w:World} {base b:Nat} {xs:List UInt8} {K:Nat} (hK:¬ K+3≤xs.length) (h:IX w base b xs K):IX w base b xs (K+1):=by
 unfold IX at h⊢
 have e:(fun t=>VA xs (tl t) (K+1))=(fun t=>VA xs (tl t) K):=by
  funext u;rw[ZR,if_neg (fun h=>hK h.1)];simp
 rw[e];exact h
structure Ew (base b:Nat) (w w':World):Prop where
 below:Below base w w'
 other:∀ (k:Nat) (o:Obj),w.heap[k]?=some o→k≠b→(∀ cs t fr,o=Obj.cells cs t fr→t≠3)→w'.heap[k]?=some o
section
variable {base b:Nat} {w w' w'':World}
theorem Ew.refl (base b:Nat) (w:World):Ew base b w w:=⟨Below.refl _ _,fun _ _ h _ _=>h⟩
theorem Ew.alloc (h:Ew base b w w') (hb:base≤w'.heap.size) (o:Obj):Ew base b w (w'.alloc o):=
 ⟨h.below.alloc hb o,fun k u hu hkb ht=>by
  have:=h.other k u hu hkb ht
  rw[Below.heap_alloc w' o k (Array.getElem?_eq_some_iff.1 this).1];exact this⟩
theorem Ew.map (h:Ew base b w w') (hbb:base≤b) (hb:base≤w'.heap.size) (hg:w'.grownBy w'' (some b)):Ew base b w w'':=
 ⟨h.below.trans ⟨hg.os,hg.tape,hg.output,hg.size,fun k hk=>hg.block k (by omega) (by simp;omega)⟩,fun k u hu hkb ht=>by
  have:=h.other k u hu hkb ht
  rw[hg.block k (Array.getElem?_eq_some_iff.1 this).1 (by simpa using hkb)];exact this⟩
theorem Ew.row (h:Ew base b w w') (hb:base≤w'.heap.size) {v:Value} {n:Nat} {xs:List Value} (ho:w'.ownsRow base 3 1 v n xs) (hg:w'.grownBy w'' v.ownBlock):Ew base b w w'':=by
 have key:∀ (k:Nat),v.ownBlock=some k→base≤k∧∃ cs fr,w'.heap[k]?=some (.cells cs 3 fr):=fun k hk=>by
  rcases ho.2 with ⟨rfl,_⟩ | ⟨g,cap,cur,rfl,h1,h2,_⟩
  ·simp[Value.ownBlock]at hk
  ·simp only[Value.ownBlock,Option.some.injEq]at hk
   subst hk;exact⟨h1,_,_,h2⟩
 refine⟨h.below.trans ⟨hg.os,hg.tape,hg.output,hg.size,fun k hk=>hg.block k (by omega) (fun e=>?_)⟩,fun k u hu hkb ht=>?_⟩
 ·have:=(key k e.symm).1;omega
 ·have:=h.other k u hu hkb ht
  rw[hg.block k (Array.getElem?_eq_some_iff.1 this).1 (fun e=>?_)]
  ·exact this
  ·obtain⟨_,cs,fr,hc⟩:=key k e.symm
   rw[this]at hc;injection hc with hc;subst hc
   exact ht _ _ _ rfl rfl
end
theorem run_arrayAt (w:World) (a:Option Addr) (m:Nat):(Instr.arrayAt 287 (.slice a 3 m)).run Tryz.prog w=.ok (.pointer a) w:=by
 simp[Instr.arrayAt,run_underlying Tryz.underlying287]
set_option maxRecDepth 100000 in
set_option maxHeartbeats 1600000 in
theorem AAh (A:Option Addr) (n c K base b:Nat) (xs:List UInt8) (w:World) (hn:xs.length=n) (hnc:n≤c) (hx:n≤1000000) (hA:BD w A xs) (hk:K+3≤n) (hI:IX w base b xs K) :
  Calls Tryz.prog 188 #[.map (some b),.slice A n c,.int .i64 (K:Int)] w fun e w'=>e=.returned (.tuple #[])∧IX w' base b xs (K+1)∧Ew base b w w':=by
 have HI:=Lib.hid hI
 have Hn:=Lib.hid hn
 have hk':K+3≤xs.length:=by omega
 obtain⟨bb,o,rfl,hc0⟩:=hA.get (k:=K) (by omega)
 obtain⟨b',o',hb,hc1⟩:=hA.get (k:=K+1) (by omega)
 injection hb with hb;injection hb with e1 e2 e3;subst e1 e2
 obtain⟨b',o',hb,hc2⟩:=hA.get (k:=K+2) (by omega)
 injection hb with hb;injection hb with e1 e2 e3;subst e1 e2
 have Ht:=Lib.hid (vK xs K hk')
 clear hI hA
 generalize xs[K]=x0 at *
 generalize xs[K+1]=x1 at *
 generalize xs[K+2]=x2 at *
 clear hn
 rw[←Nat.add_assoc]at hc1 hc2
 have g1:(K:Int)+3≤(c:Int):=by omega
 have g2:(0:Int)≤(K:Int)+3:=by omega
 have g3:¬ c=K:=by omega
 have ka:=run_arrayAt
 go_enter Tryz.func188,Tryz.ntmps188
 go_wp2_with fail
 have hblt:=HI.out.lt
 have hbb:=HI.out.1
 obtain⟨v,st,w1,hrun,hown,hg1,hsz1,hvb,hback⟩:=Li.entry ((HI.out.alloc (.cells #[.int .u8 (n8 x0),.int .u8 (n8 x1),.int .u8 (n8 x2)] 287)).alloc (.cells #[.int .i64 (K:Int)] 3)) (x0,x1,x2)
 have hr:(Instr.mapEntry 239 (.map (some b)) (.agg #[.int .u8 (n8 x0),.int .u8 (n8 x1),.int .u8 (n8 x2)])).run Tryz.prog ((w.alloc (.cells #[.int .u8 (n8 x0),.int .u8 (n8 x1),.int .u8 (n8 x2)] 287)).alloc (.cells #[.int .i64 (K:Int)] 3))=.ok (.tuple #[v,goInt st]) w1:=hrun
 have AGm:=Lib.hid hback
 have DF:=Lib.hid hown
 have Hg1:=Lib.hid hg1
 have Hvb:=Lib.hid hvb
 have AAi:=Lib.hid hsz1
 have Hr:=Lib.hid hr
 have YJ:=Lib.hid (jN xs (tl (x0,x1,x2)) K)
 have HSl:Hid (AR w1 (some ⟨w.heap.size+1,0,none⟩) [.int .i64 (K:Int)]):=Lib.hid (by
  have:=R6 (w.alloc (.cells #[.int .u8 (n8 x0),.int .u8 (n8 x1),.int .u8 (n8 x2)] 287)) 3 (.int .i64 (K:Int))
  intro hp
  obtain⟨q,r,e,hq⟩:=this hp
  refine⟨q,r,by simpa using e,fun j u hj=>?_⟩
  have h1:=hq j u hj
  have eq:w.heap.size+1=q:=by simp at e;omega
  have a1:q < ((w.alloc (.cells #[.int .u8 (n8 x0),.int .u8 (n8 x1),.int .u8 (n8 x2)] 287)).alloc (.cells #[.int .i64 (K:Int)] 3)).heap.size:=by simp;omega
  have a2:some q≠some b:=by simp only[Option.some.injEq,ne_eq];omega
  rw[World.cell?_of_block (hg1.block q a1 a2)]
  exact h1)
 clear hback hown hg1 hvb hsz1 hr hrun
 generalize AGn:VA xs (tl (x0,x1,x2)) K=ls at *
 have Hls:=Lib.hid AGn
 clear AGn
 have hls:ls.length≤1000000:=by have:=YJ.out;omega
 rw[Hr.out]
 go_wp2_with (at_builtin;refine AY _ rfl (.tmp 21) (.tmp 23) _ rfl base 3 _ 1 8 ai v ls.length (ls.map BR) rfl DF.out (some ⟨w.heap.size+1,0,none⟩) 1 1 [.int .i64 (K:Int)] rfl rfl HSl.out (by simp[Value.oneCell']) (by simp) (by unfold maxLen;omega) (by omega) (by have:=AAi.out;simp at this;omega) ?_;intro v2 w2 hown2 hg2 hl2)
 obtain⟨w3,hr3,hG,hg3⟩:=AGm.out w2 v2 (ls++[K]) hg2 (by rw[List.length_append,List.map_append];exact hown2) (by rw[←AAi.out];exact hl2)
 have HK:=Lib.hid ((((((Ew.refl base b w).alloc (by omega) (.cells #[.int .u8 (n8 x0),.int .u8 (n8 x1),.int .u8 (n8 x2)] 287)).alloc (by simp;omega) (.cells #[.int .i64 (K:Int)] 3)).map hbb (by simp;omega) Hg1.out).row (by have:=AAi.out;simp at this;omega) DF.out hg2).map hbb (by have:=AAi.out;have:=hg2.size;simp at *;omega) hg3)
 have HG:=Lib.hid hG
 have Hr3:Hid ((Instr.entryStore 239 (.map (some b)) (.int .i64 st) v2).run Tryz.prog w2=.ok () w3):=Lib.hid hr3
 clear hG hg3 hr3 hown2 hg2 hl2
 rw[Hr3.out]
 go_wp2_with fail
 go_end0
 exact⟨rfl,vL (by rw[Hn.out];exact hk) _ Ht.out (by rw[Hls.out];exact HG.out),HK.out⟩
set_option maxHeartbeats 400000 in
theorem AD8 (A:Option Addr) (n c K b:Nat) (w:World) (hx:n≤1000000) (hk:n < K+3) (hK:K≤n) :
  Calls Tryz.prog 188 #[.map (some b),.slice A n c,.int .i64 (K:Int)] w fun e w'=>e=.returned (.tuple #[])∧w'=w:=by
 have hI:¬ ((K:Int)+3≤(n:Int)):=by omega
 go_enter Tryz.func188,Tryz.ntmps188
 go_wp2_with fail
 go_end0
 exact⟨rfl,rfl⟩
theorem CV (A:Option Addr) (n c K base b:Nat) (xs:List UInt8) (w:World) (hn:xs.length=n) (hnc:n≤c) (hx:n≤1000000) (hA:BD w A xs) (hK:K≤n) (hI:IX w base b xs K) :
  Calls Tryz.prog 188 #[.map (some b),.slice A n c,.int .i64 (K:Int)] w fun e w'=>e=.returned (.tuple #[])∧IX w' base b xs (K+1)∧Ew base b w w':=by
 by_cases h:K+3≤n
 ·exact AAh A n c K base b xs w hn hnc hx hA h hI
 ·refine (AD8 A n c K b w hx (by omega) hK).mono ?_
  rintro e w' ⟨rfl,rfl⟩
  exact⟨rfl,vM (by omega) hI,Ew.refl _ _ _⟩
def TQ (xs:List UInt8) (k:Nat) (w:World) (e:Ending) (w':World):Prop:=e=.returned (.tuple #[.int .i64 (((longest xs k).1:Nat):Int),.int .i64 (((longest xs k).2:Nat):Int)])∧∃ d,w'=w.drewN d
theorem ma (xs:List UInt8) (k:Nat) (l:List Nat) (h:∀ p∈l,p≤k):(tryAll xs k l).1≤258∧(tryAll xs k l).2≤k:=by
 have key:∀ (l:List Nat) (s:Nat×Nat),(∀ p∈l,p≤k)→s.1≤258∧s.2≤k→(l.foldl (IC xs k) s).1≤258∧(l.foldl (IC xs k) s).2≤k:=by
  intro l
  induction l with
  | nil=>intro s _ h;exact h
  | cons a l ih=>
   intro s hl hs
   refine ih _ (fun p hp=>hl p (by simp[hp])) ?_
   have:=Rl xs a k (hl a (by simp))
   unfold IC
   split
   ·exact⟨this.1,Nat.sub_le _ _⟩
   ·exact hs
 exact key l (0,0) h ⟨by simp,by simp⟩
set_option maxRecDepth 100000 in
set_option maxHeartbeats 1600000 in
theorem vN (A:Option Addr) (n c k base b:Nat) (xs:List UInt8) (w:World) (hn:xs.length=n) (hnc:n≤c) (hx:n≤1000000) (hA:BD w A xs) (hk:k+3≤n) (hI:IX w base b xs k) :
  Calls Tryz.prog 187 #[.map (some b),.slice A n c,.int .i64 (k:Int)] w (TQ xs k w):=by
 have Hn:=Lib.hid hn
 have HA:=Lib.hid hA
 have hk':k+3≤xs.length:=by omega
 obtain⟨bb,o,rfl,hc0⟩:=hA.get (k:=k) (by omega)
 obtain⟨b',o',hb,hc1⟩:=hA.get (k:=k+1) (by omega)
 injection hb with hb;injection hb with e1 e2 e3;subst e1 e2
 obtain⟨b',o',hb,hc2⟩:=hA.get (k:=k+2) (by omega)
 injection hb with hb;injection hb with e1 e2 e3;subst e1 e2
 have Hl:=Lib.hid (find_eq xs k hk')
 have Ht:=vK xs k hk'
 rw[Ht]at Hl
 have Hlt:Hid (∀ p∈VA xs (tl (xs[k],xs[k+1],xs[k+2])) k,p < k):=Lib.hid (fun p hp=>(AD9 xs _ k p hp).1)
 have YJ:=Lib.hid (jN xs (tl (xs[k],xs[k+1],xs[k+2])) k)
 obtain⟨v,hr,hown⟩:=hI.look (xs[k],xs[k+1],xs[k+2])
 simp only[kv,Eh]at hr
 obtain⟨B,cap,rfl,hv1,hv2,hsl,hv0⟩:=Ag hown
 have M5:=Lib.hid hsl
 clear hI hA hown Ht hsl hv0
 generalize VA xs (tl (xs[k],xs[k+1],xs[k+2])) k=ls at *
 generalize xs[k]=x0 at *
 generalize xs[k+1]=x1 at *
 generalize xs[k+2]=x2 at *
 clear hn
 rw[←Nat.add_assoc]at hc1 hc2
 have g1:(k:Int)+3≤(c:Int):=by omega
 have g2:(0:Int)≤(k:Int)+3:=by omega
 have g3:¬ c=k:=by omega
 have ka:=run_arrayAt
 have hls:ls.length≤1000000:=by have:=YJ.out;omega
 generalize hN:ls.length=N at *
 have HN:=Lib.hid hN
 clear hN
 go_enter Tryz.func187,Tryz.ntmps187
 go_wp2_with fail
 clear hr hc0 hc1 hc2 ka
 go_loopw [6,7,9] (fun a f j wr=>∃ d:Nat,d≤N∧j=.int .i64 ((N:Int) - 1 - (d:Int))∧a=.int .i64 (((tryAll xs k (ls.reverse.take d)).1:Nat):Int)∧f=.int .i64 (((tryAll xs k (ls.reverse.take d)).2:Nat):Int)∧∃ d,wr=w.drewN d) (fun _ _ i _=>(intOf i+1).toNat)
 case atStart=>exact⟨0,Nat.zero_le _,by simp,rfl,rfl,0,rfl⟩
 case round=>
  obtain⟨d,hd,rfl,rfl,rfl,q,rfl⟩:=hrel
  have hl:=ma xs k (ls.reverse.take d) (fun p hp=>Nat.le_of_lt (Hlt.out p (by have:=List.mem_of_mem_take hp;simpa using this)))
  have hl1:=hl.1
  have hl2:=hl.2
  clear hl
  by_cases hlt:d < N
  ·have hdr:d < ls.reverse.length:=by simp;have:=HN.out;omega
   have hge:(0:Int)≤(N:Int) - 1 - (d:Int):=by omega
   have hi:((N:Int) - 1 - (d:Int))=((N - 1 - d:Nat):Int):=by omega
   have hdl:N - 1 - d < ls.length:=by have:=HN.out;omega
   have Hs:=Lib.hid (show tryAll xs k (ls.reverse.take (d+1))=IC xs k (tryAll xs k (ls.reverse.take d)) ls.reverse[d] by rw[BI _ _ hdr,Qw])
   have Hg:Hid (ls.reverse[d]=ls[N - 1 - d]):=Lib.hid (by rw[List.getElem_reverse];congr 1;have:=HN.out;omega)
   obtain⟨bi,oi,rfl,hci⟩:=M5.out.get (k:=N - 1 - d) (by simpa using hdl)
   simp only[List.getElem_map,BR]at hci
   have hpk:=Hlt.out ls[N - 1 - d] (List.getElem_mem hdl)
   rw[Hg.out]at Hs
   rw[hi]at hge⊢
   have Hd:Hid (d+1+(N - 1 - d)=N):=Lib.hid (by omega)
   clear hi hdr Hg
   generalize tryAll xs k (ls.reverse.take d)=s at *
   obtain⟨a,f⟩:=s
   generalize ls[N - 1 - d]=i at *
   clear hdl
   generalize N - 1 - d=z at *
   dsimp only at hl1 hl2⊢
   have hzN:z < N:=by have:=Hd.out;omega
   have AMi:(z:Int) < (N:Int):=by omega
   have hki:IntKind.i64.wrap ((k:Int) - (i:Int))=(k:Int) - (i:Int):=IntWalk.i64_in _ (by omega)
   go_wp2_with fail
   refine (vO _ n c i k xs _ Hn.out hx (by exact HA.out) (by omega) (by omega)).mono ?_
   rintro e w1 ⟨rfl,q2,rfl⟩
   have AGo:Hid (a < EM xs i k→IC xs k (a,f) i=(EM xs i k,k - i)):=Lib.hid (fun h=>if_pos h)
   have AGp:Hid (¬ a < EM xs i k→IC xs k (a,f) i=(a,f)):=Lib.hid (fun h=>if_neg h)
   generalize EM xs i k=m at *
   by_cases hz:a < m
   ·have zq:Hid (tryAll xs k (ls.reverse.take (d+1))=(m,k - i)):=Lib.hid (by rw[Hs.out];exact AGo.out hz)
    go_wp2_with fail
    go_quiet (fail)
    go_wp2_with fail
    go_roundw
    case rel=>exact⟨d+1,by omega,int_eq (by have:=Hd.out;omega),by rw[zq.out],by rw[zq.out];exact int_eq (by dsimp only;omega),_,rfl⟩
    case measure=>simp[intOf]
   ·have zq:Hid (tryAll xs k (ls.reverse.take (d+1))=(a,f)):=Lib.hid (by rw[Hs.out];exact AGp.out hz)
    go_wp2_with fail
    go_roundw
    case rel=>exact⟨d+1,by omega,int_eq (by have:=Hd.out;omega),by rw[zq.out],by rw[zq.out],_,rfl⟩
    case measure=>simp[intOf]
  ·obtain rfl:d=N:=by omega
   have FU:Hid (tryAll xs k (ls.reverse.take d)=longest xs k):=Lib.hid (by
    rw[List.take_of_length_le (by simp;have:=HN.out;omega)];exact Hl.out)
   rw[FU.out]at hl1 hl2⊢
   go_wp2_with fail
   go_ret2
   exact⟨rfl,_,rfl⟩
theorem AAj (A:Option Addr) (n c k b:Nat) (xs:List UInt8) (w:World) (hn:xs.length=n) (hx:n≤1000000) (hk:n < k+3) (hK:k≤n) :
  Calls Tryz.prog 187 #[.map (some b),.slice A n c,.int .i64 (k:Int)] w (TQ xs k w):=by
 have Hl:=Lib.hid (ZT xs k (by omega))
 have hI:¬ ((k:Int)+3≤(n:Int)):=by omega
 clear hn
 go_enter Tryz.func187,Tryz.ntmps187
 go_wp2_with fail
 go_ret2
 exact⟨by rw[Hl.out];rfl,0,rfl⟩
theorem ZU (A:Option Addr) (n c k base b:Nat) (xs:List UInt8) (w:World) (hn:xs.length=n) (hnc:n≤c) (hx:n≤1000000) (hA:BD w A xs) (hk:k≤n) (hI:IX w base b xs k) :
  Calls Tryz.prog 187 #[.map (some b),.slice A n c,.int .i64 (k:Int)] w (TQ xs k w):=by
 by_cases h:k+3≤n
 ·exact vN A n c k base b xs w hn hnc hx hA h hI
 ·exact AAj A n c k b xs w hn hx (by omega) hk
end Go.Proofs.YtabdianhoabhhaaGreatDoor.Match
namespace Go.Proofs.YtabdianhoabhhaaGreatDoor.Match
open Go Go.RowKit Go.Proofs.YtabdianhoabhhaaGreatDoor
set_option linter.unusedVariables false
theorem tyT:Bo Tryz.prog 206 244 (.agg #[.int .u8 0,.int .i64 0,.int .i64 0]) 3 24:=⟨Tryz.underlying206,by kernel_rfl,rfl,by omega⟩
def RN (t:Tok):List Value:=[Eh t.1,iv t.2.1,iv t.2.2]
theorem Ew.own {base b:Nat} {w w':World} (h:Ew base b w w') {F:Rk→List Nat} {B:Nat} (hI:Li w B b F) {base':Nat} {e:TypeId} {size n:Nat} {v:Value} {xs:List Value} (ho:w.ownsRow base' e size v n xs) (he:e≠3):w'.ownsRow base' e size v n xs:=by
 refine⟨ho.1,?_⟩
 rcases ho.2 with h0 | ⟨g,cap,cur,rfl,h1,h2,h3⟩
 ·exact Or.inl h0
 ·refine Or.inr ⟨g,cap,cur,rfl,h1,?_,h3⟩
  refine h.other g _ h2 (fun eb=>?_) (fun cs t fr ec=>by injection ec with e1 e2 e3;rw[←e2];exact he)
  obtain⟨_,es,clock,hb,_⟩:=hI
  rw[eb,hb]at h2;cases h2
theorem Li.grown {w w':World} {base b:Nat} {F:Rk→List Nat} (h:Li w base b F) {base':Nat} {e:TypeId} {size n:Nat} {v:Value} {xs:List Value} (ho:w.ownsRow base' e size v n xs) (hg:w.grownBy w' v.ownBlock) (he:e≠3):Li w' base b F:=
 h.keep fun k o hk ht=>by
  rw[hg.block k (Array.getElem?_eq_some_iff.1 hk).1 (fun eq=>?_)]
  ·exact hk
  ·rcases ho.2 with ⟨rfl,_⟩ | ⟨g,cap,cur,rfl,h1,h2,h3⟩
   ·simp[Value.ownBlock]at eq
   ·simp only[Value.ownBlock,Option.some.injEq]at eq
    subst eq
    rw[h2]at hk;injection hk with hk
    exact he (ht _ _ _ hk.symm)
def AEC (xs:List UInt8) (w:World) (e:Ending) (w':World):Prop:=
 (∃ v,e=.returned (.tuple #[v,.int .i64 0])∧w'.ownsRow w.heap.size 244 3 v (toks xs).length ((toks xs).flatMap RN))∧Below w.heap.size w w'
theorem mq {b:List UInt8} {k a m:Nat} {l:List Tok} (hk:k < b.length) (h:(longest b k).1=0∨(k+1 < b.length∧(longest b k).1 < (longest b (k+1)).1)):KM b (k,l)=(k+1,l++[(b[k],0,0)]):=by
 unfold KM
 rw[if_pos hk,if_pos h]
 simp only[List.getD_eq_getElem?_getD,List.getElem?_eq_getElem hk];rfl
theorem mr {b:List UInt8} {k:Nat} {l:List Tok} (hk:k < b.length) (h:¬ ((longest b k).1=0∨(k+1 < b.length∧(longest b k).1 < (longest b (k+1)).1))):KM b (k,l)=(k+(longest b k).1,l++[(0,((longest b k).1:Int),((longest b k).2:Int))]):=by
 unfold KM
 rw[if_pos hk,if_neg h]
set_option maxRecDepth 100000 in
set_option maxHeartbeats 4000000 in
theorem SX (A:Option Addr) (n c:Nat) (xs:List UInt8) (w:World) (hn:xs.length=n) (hnc:n≤c) (hx:n≤3000) (hA:BD w A xs) :
  Calls Tryz.prog 155 #[.slice A n c] w (AEC xs w):=by
 have Hn:=Lib.hid hn
 have HA:=Lib.hid hA
 clear hn hA
 have hnm:¬ (3000 < (n:Int)):=by omega
 have hmm:=@run_makeMap Tryz.prog
 go_enter Tryz.func155,Tryz.ntmps155
 go_wp2_with fail
 clear hmm
 go_loopw [5,6] (fun v i wr=>∃ V:Value,V=v∧∃ m k:Nat,∃ l:List Tok,Bj xs m=(k,l)∧k≤n∧l.length≤k∧i=.int .i64 (k:Int)∧wr.ownsRow w.heap.size 244 3 V l.length (l.flatMap RN)∧IX wr w.heap.size w.heap.size xs k∧Below w.heap.size w wr) (fun _ i _=>n - (intOf i).toNat)
 case atStart=>exact⟨_,rfl,0,0,[],rfl,Nat.zero_le _,Nat.le_refl _,rfl,World.ownsRow_nil _ _ _ _,Li.made w (Nat.le_refl _),(Below.refl _ w).alloc (Nat.le_refl _) _⟩
 case round=>
  obtain⟨v,rfl,m,k,l,hm,hk,hl,rfl,ho,hI,hb⟩:=hrel
  have Hm:=Lib.hid hm
  have Ho:=Lib.hid ho
  have HI:=Lib.hid hI
  have Hb:=Lib.hid hb
  clear hm ho hI hb
  by_cases hlt:k < n
  ·have hkl:k < xs.length:=by rw[Hn.out];exact hlt
   have HA1:=Lib.hid (HA.out.below Hb.out)
   go_wp2_with fail
   refine (ZU A n c k _ _ xs _ Hn.out hnc (by omega) HA1.out hk HI.out).mono ?_
   rintro e w1 ⟨rfl,hd⟩
   have hle:=Gj xs k
   have AKE:=hle.1
   have hsum:=hle.2.1
   have AED:=hle.2.2.1
   clear hle
   have HI1:Hid (IX w1 w.heap.size w.heap.size xs k):=Lib.hid (by obtain⟨q,rfl⟩:=hd;exact HI.out)
   have Ho1:Hid (w1.ownsRow w.heap.size 244 3 v l.length (l.flatMap RN)):=Lib.hid (by obtain⟨q,rfl⟩:=hd;exact Ho.out)
   have HA2:Hid (BD w1 A xs):=Lib.hid (by obtain⟨q,rfl⟩:=hd;exact HA1.out)
   have Hb1:Hid (Below w.heap.size w w1):=Lib.hid (by obtain⟨q,rfl⟩:=hd;exact below_drewN' Hb.out q)
   clear hd HI Ho HA1 Hb
   have Xl:Hid ((longest xs k).1=0∨(k+1 < xs.length∧(longest xs k).1 < (longest xs (k+1)).1)→Bj xs (m+1)=(k+1,l++[(xs[k],0,0)])):=Lib.hid (fun h=>by
    show KM xs (Bj xs m)=_
    rw[Hm.out];exact mq (a:=0) (m:=0) hkl h)
   have Xm:Hid (¬ ((longest xs k).1=0∨(k+1 < xs.length∧(longest xs k).1 < (longest xs (k+1)).1))→Bj xs (m+1)=(k+(longest xs k).1,l++[(0,((longest xs k).1:Int),((longest xs k).2:Int))])):=Lib.hid (fun h=>by
    show KM xs (Bj xs m)=_
    rw[Hm.out];exact mr hkl h)
   rw[Hn.out]at hsum Xl Xm
   generalize longest xs k=s at *
   obtain⟨a,f⟩:=s
   dsimp only at AKE hsum AED Xl Xm⊢
   go_wp2_with fail
   refine (CV A n c k _ _ xs _ Hn.out hnc (by omega) HA2.out hk HI1.out).mono ?_
   rintro e w2 ⟨rfl,hI2,hK2⟩
   have HI2:=Lib.hid hI2
   have au:=Lib.hid (hK2.own HI1.out Ho1.out (by decide))
   have Hb2:=Lib.hid (Hb1.out.trans hK2.below)
   clear hI2 hK2 HI1 Ho1 HA2 Hb1
   have hkx:k < xs.length:=hkl
   have hll:l.length≤3000:=by omega
   by_cases ha:a=0
   ·have U8:=Lib.hid (Xl.out (Or.inl ha))
    subst ha
    obtain⟨w3,hw3⟩:∃ w3,w3=w2:=⟨_,rfl⟩
    subst hw3
    clear Xl Xm
    obtain⟨bb,oo,rfl,hcell⟩:=(HA.out.below Hb2.out).get hkx
    generalize xs[k]=x at *
    have HI3:=Lib.hid (Li.alloc HI2.out (.cells #[.int .u8 (n8 x),.int .i64 0,.int .i64 0] 244))
    have Pv:=Lib.hid (AP au.out ((Below.refl w3.heap.size w3).alloc (Nat.le_refl _) (.cells #[.int .u8 (n8 x),.int .i64 0,.int .i64 0] 244)))
    have Hb3:=Lib.hid (Hb2.out.alloc Hb2.out.size (.cells #[.int .u8 (n8 x),.int .i64 0,.int .i64 0] 244))
    have M5:Hid (AR (w3.alloc (.cells #[.int .u8 (n8 x),.int .i64 0,.int .i64 0] 244)) (some ⟨w3.heap.size,0,none⟩) [.int .u8 (n8 x),.int .i64 0,.int .i64 0]):=Lib.hid (AR.of_heap (heap_alloc_new _ _) rfl)
    go_wp2_with (at_builtin;refine AY _ rfl (.tmp 53) (.tmp 59) _ rfl w.heap.size 244 _ 3 24 tyT v l.length (l.flatMap RN) rfl Pv.out (some ⟨w3.heap.size,0,none⟩) 1 1 [.int .u8 (n8 x),.int .i64 0,.int .i64 0] rfl rfl M5.out (by simp[Value.oneCell']) (by simp) (by unfold maxLen;omega) (by omega) Hb3.out.size ?_;intro v4 w4 DD hg4 _;have aj:=Lib.hid DD;have HI4:=Lib.hid (Li.grown HI3.out Pv.out hg4 (by decide));have Hb4:=Lib.hid (own_below Pv.out hg4 Hb3.out Hb3.out.size);clear DD hg4)
    go_roundw
    case rel=>exact⟨v4,rfl,m+1,k+1,_,U8.out,by omega,by simp;omega,by go_num,by rw[List.length_append,List.flatMap_append];exact aj.out,HI4.out,Hb4.out⟩
    case measure=>simp[intOf];omega
   ·have ha0:0 < a:=by omega
    by_cases hk1:k+1 < n
    ·have AKF:(k:Int)+1 < (n:Int):=by omega
     go_wp2_with fail
     have AGt:((k:Int)+1)=((k+1:Nat):Int):=by omega
     rw[AGt]
     refine (ZU A n c (k+1) _ _ xs _ Hn.out hnc (by omega) (HA.out.below Hb2.out) (by omega) HI2.out).mono ?_
     rintro e w3 ⟨rfl,hd⟩
     clear AGt
     have AGu:=(Gj xs (k+1)).1
     have HI2:Hid (IX w3 w.heap.size w.heap.size xs (k+1)):=Lib.hid (by obtain⟨q,rfl⟩:=hd;exact HI2.out)
     have au:Hid (w3.ownsRow w.heap.size 244 3 v l.length (l.flatMap RN)):=Lib.hid (by obtain⟨q,rfl⟩:=hd;exact au.out)
     have Hb2:Hid (Below w.heap.size w w3):=Lib.hid (by obtain⟨q,rfl⟩:=hd;exact below_drewN' Hb2.out q)
     clear hd
     generalize longest xs (k+1)=s2 at *
     obtain⟨a2,f2⟩:=s2
     dsimp only at AGu Xl Xm⊢
     by_cases hm2:a < a2
     ·have U8:=Lib.hid (Xl.out (Or.inr ⟨hk1,hm2⟩))
      clear Xl Xm
      obtain⟨bb,oo,rfl,hcell⟩:=(HA.out.below Hb2.out).get hkx
      generalize xs[k]=x at *
      have HI3:=Lib.hid (Li.alloc HI2.out (.cells #[.int .u8 (n8 x),.int .i64 0,.int .i64 0] 244))
      have Pv:=Lib.hid (AP au.out ((Below.refl w3.heap.size w3).alloc (Nat.le_refl _) (.cells #[.int .u8 (n8 x),.int .i64 0,.int .i64 0] 244)))
      have Hb3:=Lib.hid (Hb2.out.alloc Hb2.out.size (.cells #[.int .u8 (n8 x),.int .i64 0,.int .i64 0] 244))
      have M5:Hid (AR (w3.alloc (.cells #[.int .u8 (n8 x),.int .i64 0,.int .i64 0] 244)) (some ⟨w3.heap.size,0,none⟩) [.int .u8 (n8 x),.int .i64 0,.int .i64 0]):=Lib.hid (AR.of_heap (heap_alloc_new _ _) rfl)
      go_wp2_with (at_builtin;refine AY _ rfl (.tmp 53) (.tmp 59) _ rfl w.heap.size 244 _ 3 24 tyT v l.length (l.flatMap RN) rfl Pv.out (some ⟨w3.heap.size,0,none⟩) 1 1 [.int .u8 (n8 x),.int .i64 0,.int .i64 0] rfl rfl M5.out (by simp[Value.oneCell']) (by simp) (by unfold maxLen;omega) (by omega) Hb3.out.size ?_;intro v4 w4 DD hg4 _;have aj:=Lib.hid DD;have HI4:=Lib.hid (Li.grown HI3.out Pv.out hg4 (by decide));have Hb4:=Lib.hid (own_below Pv.out hg4 Hb3.out Hb3.out.size);clear DD hg4)
      go_roundw
      case rel=>exact⟨v4,rfl,m+1,k+1,_,U8.out,by omega,by simp;omega,by go_num,by rw[List.length_append,List.flatMap_append];exact aj.out,HI4.out,Hb4.out⟩
      case measure=>simp[intOf];omega
     ·have U8:=Lib.hid (Xm.out (by omega))
      clear Xl Xm
      have HI3:=Lib.hid (Li.alloc HI2.out (.cells #[.int .u8 0,.int .i64 (a:Int),.int .i64 (f:Int)] 244))
      have Pv:=Lib.hid (AP au.out ((Below.refl w3.heap.size w3).alloc (Nat.le_refl _) (.cells #[.int .u8 0,.int .i64 (a:Int),.int .i64 (f:Int)] 244)))
      have Hb3:=Lib.hid (Hb2.out.alloc Hb2.out.size (.cells #[.int .u8 0,.int .i64 (a:Int),.int .i64 (f:Int)] 244))
      have M5:Hid (AR (w3.alloc (.cells #[.int .u8 0,.int .i64 (a:Int),.int .i64 (f:Int)] 244)) (some ⟨w3.heap.size,0,none⟩) [.int .u8 0,.int .i64 (a:Int),.int .i64 (f:Int)]):=Lib.hid (AR.of_heap (heap_alloc_new _ _) rfl)
      have AKG:((a:Int) == 0)=false:=by simp;omega
      go_wp2_with (at_builtin;refine AY _ rfl (.tmp 63) (.tmp 67) _ rfl w.heap.size 244 _ 3 24 tyT v l.length (l.flatMap RN) rfl Pv.out (some ⟨w3.heap.size,0,none⟩) 1 1 [.int .u8 0,.int .i64 (a:Int),.int .i64 (f:Int)] rfl rfl M5.out (by simp[Value.oneCell']) (by simp) (by unfold maxLen;omega) (by omega) Hb3.out.size ?_;intro v4 w4 DD hg4 _;have aj:=Lib.hid DD;have HI4:=Lib.hid (Li.grown HI3.out Pv.out hg4 (by decide));have Hb4:=Lib.hid (own_below Pv.out hg4 Hb3.out Hb3.out.size);clear DD hg4)
      go_loopw [11] (fun t wx=>∃ j:Nat,1≤j∧j≤a∧t=.int .i64 (j:Int)∧IX wx w.heap.size w.heap.size xs (k+j)∧wx.ownsRow w.heap.size 244 3 v4 (l.length+1) (l.flatMap RN++[.int .u8 0,.int .i64 (a:Int),.int .i64 (f:Int)])∧Below w.heap.size w wx) (fun t _=>a - (intOf t).toNat)
      case atStart=>exact⟨1,Nat.le_refl _,by omega,rfl,HI4.out,aj.out,Hb4.out⟩
      case round=>
       obtain⟨j,hj1,hj,rfl,hIj,hoj,hbj⟩:=hrel
       have HIj:=Lib.hid hIj
       have Hoj:=Lib.hid hoj
       have Hbj:=Lib.hid hbj
       clear hIj hoj hbj
       by_cases hja:j < a
       ·have HAj:=Lib.hid (HA.out.below Hbj.out)
        go_wp2_with fail
        have hkj:((k:Int)+(j:Int))=((k+j:Nat):Int):=by omega
        rw[hkj]
        refine (CV A n c (k+j) _ _ xs _ Hn.out hnc (by omega) HAj.out (by omega) HIj.out).mono ?_
        rintro e w5 ⟨rfl,hI5,hK5⟩
        have HI5:=Lib.hid hI5
        have Ho5:=Lib.hid (hK5.own HIj.out Hoj.out (by decide))
        have Hb5:=Lib.hid (Hbj.out.trans hK5.below)
        clear hI5 hK5 hkj
        go_wp2_with fail
        go_roundw
        case rel=>exact⟨j+1,by omega,by omega,by go_num,HI5.out,Ho5.out,Hb5.out⟩
        case measure=>simp[intOf];omega
       ·obtain rfl:j=a:=by omega
        go_wp2_with fail
        go_roundw
        case rel=>exact⟨v4,rfl,m+1,k+j,_,U8.out,by omega,by simp;omega,by go_num,by rw[List.length_append,List.flatMap_append];exact Hoj.out,HIj.out,Hbj.out⟩
        case measure=>simp[intOf];omega
    ·have AKF:¬ ((k:Int)+1 < (n:Int)):=by omega
     have U8:=Lib.hid (Xm.out (by omega))
     obtain⟨w3,hw3⟩:∃ w3,w3=w2:=⟨_,rfl⟩
     subst hw3
     clear Xl Xm
     have HI3:=Lib.hid (Li.alloc HI2.out (.cells #[.int .u8 0,.int .i64 (a:Int),.int .i64 (f:Int)] 244))
     have Pv:=Lib.hid (AP au.out ((Below.refl w3.heap.size w3).alloc (Nat.le_refl _) (.cells #[.int .u8 0,.int .i64 (a:Int),.int .i64 (f:Int)] 244)))
     have Hb3:=Lib.hid (Hb2.out.alloc Hb2.out.size (.cells #[.int .u8 0,.int .i64 (a:Int),.int .i64 (f:Int)] 244))
     have M5:Hid (AR (w3.alloc (.cells #[.int .u8 0,.int .i64 (a:Int),.int .i64 (f:Int)] 244)) (some ⟨w3.heap.size,0,none⟩) [.int .u8 0,.int .i64 (a:Int),.int .i64 (f:Int)]):=Lib.hid (AR.of_heap (heap_alloc_new _ _) rfl)
     have AKG:((a:Int) == 0)=false:=by simp;omega
     go_wp2_with (at_builtin;refine AY _ rfl (.tmp 63) (.tmp 67) _ rfl w.heap.size 244 _ 3 24 tyT v l.length (l.flatMap RN) rfl Pv.out (some ⟨w3.heap.size,0,none⟩) 1 1 [.int .u8 0,.int .i64 (a:Int),.int .i64 (f:Int)] rfl rfl M5.out (by simp[Value.oneCell']) (by simp) (by unfold maxLen;omega) (by omega) Hb3.out.size ?_;intro v4 w4 DD hg4 _;have aj:=Lib.hid DD;have HI4:=Lib.hid (Li.grown HI3.out Pv.out hg4 (by decide));have Hb4:=Lib.hid (own_below Pv.out hg4 Hb3.out Hb3.out.size);clear DD hg4)
     go_loopw [11] (fun t wx=>∃ j:Nat,1≤j∧j≤a∧t=.int .i64 (j:Int)∧IX wx w.heap.size w.heap.size xs (k+j)∧wx.ownsRow w.heap.size 244 3 v4 (l.length+1) (l.flatMap RN++[.int .u8 0,.int .i64 (a:Int),.int .i64 (f:Int)])∧Below w.heap.size w wx) (fun t _=>a - (intOf t).toNat)
     case atStart=>exact⟨1,Nat.le_refl _,by omega,rfl,HI4.out,aj.out,Hb4.out⟩
     case round=>
      obtain⟨j,hj1,hj,rfl,hIj,hoj,hbj⟩:=hrel
      have HIj:=Lib.hid hIj
      have Hoj:=Lib.hid hoj
      have Hbj:=Lib.hid hbj
      clear hIj hoj hbj
      by_cases hja:j < a
      ·have HAj:=Lib.hid (HA.out.below Hbj.out)
       go_wp2_with fail
       have hkj:((k:Int)+(j:Int))=((k+j:Nat):Int):=by omega
       rw[hkj]
       refine (CV A n c (k+j) _ _ xs _ Hn.out hnc (by omega) HAj.out (by omega) HIj.out).mono ?_
       rintro e w5 ⟨rfl,hI5,hK5⟩
       have HI5:=Lib.hid hI5
       have Ho5:=Lib.hid (hK5.own HIj.out Hoj.out (by decide))
       have Hb5:=Lib.hid (Hbj.out.trans hK5.below)
       clear hI5 hK5 hkj
       go_wp2_with fail
       go_roundw
       case rel=>exact⟨j+1,by omega,by omega,by go_num,HI5.out,Ho5.out,Hb5.out⟩
       case measure=>simp[intOf];omega
      ·obtain rfl:j=a:=by omega
       go_wp2_with fail
       go_roundw
       case rel=>exact⟨v4,rfl,m+1,k+j,_,U8.out,by omega,by simp;omega,by go_num,by rw[List.length_append,List.flatMap_append];exact Hoj.out,HIj.out,Hbj.out⟩
       case measure=>simp[intOf];omega
  ·obtain rfl:k=n:=by omega
   have Hd:=Lib.hid (dw xs m (by rw[Hm.out,Hn.out];exact Nat.le_refl _))
   rw[Hm.out]at Hd
   go_wp2_with fail
   go_ret2
   exact⟨⟨_,rfl,by rw[←Hd.out];exact Ho.out⟩,Hb.out⟩
end Go.Proofs.YtabdianhoabhhaaGreatDoor.Match
namespace Go.Proofs.YtabdianhoabhhaaGreatDoor.AX
open Go Go.RowKit Go.Proofs.YtabdianhoabhhaaGreatDoor Go.Proofs.YtabdianhoabhhaaGreatDoor.Bits Go.Proofs.YtabdianhoabhhaaGreatDoor.Code Go.Proofs.YtabdianhoabhhaaGreatDoor.Inf Go.Proofs.YtabdianhoabhhaaGreatDoor.Match Go.Proofs.YtabdianhoabhhaaGreatDoor.SP Go.Proofs.YtabdianhoabhhaaGreatDoor.Rt
set_option linter.unusedVariables false
theorem iV:∀ (ts:List Tok) (n:Int),0≤n→(Ce ts n).1=0→n≤(Ce ts n).2∧∀ t∈ts,t.2.1=0∨t.2.2≤(Ce ts n).2
 | [],n,_,_=>⟨Int.le_refl _,fun t h=>by cases h⟩
 | x :: ts,n,hn,hk=>by
  simp only[Ce]at hk⊢
  have hx:(DN n x).1=0:=by
   by_cases h1:(DN n x).1=0
   ·exact h1
   ·rw[if_neg h1]at hk;exact hk
  rw[if_pos hx]at hk⊢
  have key:n≤(DN n x).2∧(x.2.1=0∨x.2.2≤n):=by
   unfold DN at hx⊢
   by_cases h1:x.2.1=0
   ·rw[if_pos h1]at hx⊢
    by_cases h2:x.2.2≠0
    ·rw[if_pos h2]at hx;simp at hx
    ·rw[if_neg h2];dsimp only;omega
   ·rw[if_neg h1]at hx⊢
    by_cases h2:x.1≠0
    ·rw[if_pos h2]at hx;simp at hx
    ·rw[if_neg h2]at hx⊢
     by_cases h3:x.2.1 < 3∨258 < x.2.1∨x.2.2 < 1
     ·rw[if_pos h3]at hx;simp at hx
     ·rw[if_neg h3]at hx⊢
      by_cases h4:n < x.2.2
      ·rw[if_pos h4]at hx;simp at hx
      ·rw[if_neg h4];dsimp only;omega
  obtain⟨h1,h2⟩:=iV ts (DN n x).2 (by omega) hk
  refine⟨by omega,fun t ht=>?_⟩
  rcases List.mem_cons.1 ht with rfl | ht
  ·rcases key.2 with h | h
   ·exact .inl h
   ·exact .inr (by omega)
  ·exact h2 t ht
theorem rP (b:List UInt8) (hb:b.length≤3000):∀ t∈toks b,qp t:=by
 intro t ht
 have h0:=SV b
 have h1:=Yd (toks b) 0 h0 t ht
 have h2:=(iV (toks b) 0 (Int.le_refl _) h0).2 t ht
 have h3:(Ce (toks b) 0).2=(b.length:Int):=by unfold toks;rw[Kh,Py]
 rw[h3]at h2
 unfold qp
 rcases h1 with h | ⟨a1,a2,a3⟩
 ·exact .inl h
 ·rcases h2 with h | h
  ·exact .inl h
  ·exact .inr ⟨t.2.1.toNat,t.2.2.toNat,by omega,by omega,by omega,by omega,by omega,by omega⟩
theorem VR {t:Tok} (h:qp t):Wq t:=by
 rcases h with h | ⟨s,f,h1,h2,h3,_⟩
 ·exact .inl h
 ·exact .inr ⟨s,f,h1,h2,by omega⟩
def NY (w:World) (base:Nat) (B:Option Addr) (xs:List UInt8):Prop:=∀ w':World,(∀ k,k < base→w'.heap[k]?=w.heap[k]?)→BD w' B xs
theorem NY.of {w:World} {B:Option Addr} {xs:List UInt8} {base:Nat} (h:BD w B xs) (hb:w.heap.size≤base):NY w base B xs:=fun w' hw hp=>by
 obtain⟨b,o,e,hc⟩:=h hp
 refine⟨b,o,e,fun j v hj=>?_⟩
 have h1:=hc j v hj
 have hlt:=block_lt_of_cell h1
 have h2:=hw b (by simpa using Nat.lt_of_lt_of_le hlt hb)
 rw[←h1]
 simp only[World.cell?,h2]
theorem NY.at {w w':World} {base:Nat} {B:Option Addr} {xs:List UInt8} (h:NY w base B xs) (hw:∀ k,k < base→w'.heap[k]?=w.heap[k]?):BD w' B xs:=h w' hw
theorem NY.trans {w w':World} {base:Nat} {B:Option Addr} {xs:List UInt8} (h:NY w base B xs) (hw:∀ k,k < base→w'.heap[k]?=w.heap[k]?):NY w' base B xs:=fun w2 h2=>h w2 fun k hk=>(h2 k hk).trans (hw k hk)
theorem Pz (lit far:List Nat) (l1:lit.length=286) (l2:far.length=30) (c1:Cd lit) (c2:Cd far):(Cy lit far).length≤5000:=by
 rw[Lv]
 have tA:=J5 lit 257 (by omega)
 have tB:=J5 far 1 (by omega)
 have cA:=Jb lit 257 c1
 have cB:=Jb far 1 c2
 generalize BQ lit 257=A at *
 generalize BQ far 1=B at *
 have qR:∀ y∈A++B,y≤15:=fun y hy=>by
  rcases List.mem_append.1 hy with hy | hy
  ·exact cA.le y hy
  ·exact cB.le y hy
 have hR:=Pt (A++B)
 have hok:=Ww (A++B) qR
 generalize Dk (A++B)=R at *
 obtain⟨s1,s2,s3,s4⟩:=Np R
 have h1:=Ja (L9 (D8 R)) 14 R (fun x hx=>Ya _ x (fun i=>Wv _ 7 i s3) (hok x hx))
 have h2:=Ja (fun n=>numBits n 3) 3 (BQ (BA.map fun k=>(D8 R).getD k 0) 4) (fun x _=>by rw[AJ];exact Nat.le_refl _)
 have h3:=J5 (BA.map fun k=>(D8 R).getD k 0) 4 (by rw[List.length_map];decide)
 have h4:(BA.map fun k=>(D8 R).getD k 0).length=19:=by rw[List.length_map];rfl
 rw[List.length_append]at hR
 simp only[List.length_append,AJ]
 omega
theorem VS (l:List Tok) (lit far:List Nat) (c1:Cd lit) (c2:Cd far):(En l lit far).length≤48*l.length+15:=by
 unfold En
 have h1:=Ja (GY lit far) 48 l (fun x _=>YU lit far x c1 c2)
 have h2:=c1.bits (i:=256)
 rw[List.length_append,Bv];omega
theorem rQ (r:List Bool) (b:List UInt8) (kind:Nat) (last:Bool) (hb:b.length≤3000):(J6 r b kind last).length≤r.length+200000:=by
 rw[iW,List.length_append]
 unfold Ld
 by_cases h0:kind=0
 ·rw[if_pos h0]
  simp only[List.length_append,AJ,List.length_singleton,List.length_replicate,BV]
  omega
 ·rw[if_neg h0]
  have ht:=Oi b
  by_cases h1:kind=1
  ·rw[if_pos h1]
   have:=VS (toks b) BU Ck Ra Rb
   simp only[List.length_append,AJ,List.length_singleton]
   omega
  ·rw[if_neg h1]
   obtain⟨l1,l2,l3,l4,_,_⟩:=Oj (toks b)
   have h2:=VS (toks b) _ _ l3 l4
   have h3:=Pz _ _ l1 l2 l3 l4
   simp only[List.length_append,AJ,List.length_singleton]
   omega
set_option maxRecDepth 100000 in
theorem Ol (base p:Nat) (r:List Bool) (w:World) (hr:CY w base p r) :
  Calls Tryz.prog 154 #[.pointer (some ⟨p,0,none⟩)] w fun e w'=>e=.returned (.tuple #[])∧CY w' base p (pad r)∧AB base Gd w w':=by
 obtain⟨hbp,v,hB,hO⟩:=hr
 have hc1:=hB.c1
 have hf1:=hB.frozen 1
 have HB:=Lib.hid hB
 have HO:=Lib.hid hO
 have AJk:Hid (CY (w.setCell ⟨p,1,none⟩ (.int .i64 0)) base p (pad r)):=Lib.hid (by
  refine⟨hbp,v,?_,?_⟩
  ·have e:(pad r).length % 8=0:=by rw[Nl];omega
   rw[e];exact hB.s1 _
  ·rw[qi];exact ownsRow_setCell_other hO (own_ne hO hB (by decide)) _)
 have HK:=Lib.hid ((AB.refl base Gd w).Dv hB (by simp[Gd]) hbp 1 (.int .i64 0))
 clear hB hO
 go_enter Tryz.func154,Tryz.ntmps154
 go_wp2_with fail
 go_end0
 exact⟨rfl,AJk.out,HK.out⟩
set_option maxRecDepth 100000 in
set_option maxHeartbeats 8000000 in
theorem zy (base p:Nat) (r:List Bool) (B:Option Addr) (nb cb:Nat) (xs:List UInt8) (kind:Nat) (last:Bool) (w:World) (hr:CY w base p r) (hB:NY w base B xs) (hn:xs.length=nb) (hnc:nb≤cb) (hx:nb≤3000) (hk:kind≤2) (hrl:r.length≤50000000) :
  Calls Tryz.prog 119 #[.pointer (some ⟨p,0,none⟩),.slice B nb cb,.int .i64 (kind:Int),.bool last] w fun e w'=>e=.returned (.tuple #[])∧CY w' base p (J6 r xs kind last)∧AB base Gd w w':=by
 have HR:=Lib.hid hr
 have HB:=Lib.hid hB
 have Hn:=Lib.hid hn
 clear hr hB hn
 cases last
 ·go_enter Tryz.func119,Tryz.ntmps119
  have HP:=Lib.hid (CV base p 0 1 r w HR.out (by omega) (by omega) (by omega))
  rw[show numBits 0 1=[false] from rfl,show (((0:Nat):Int))=0 from rfl]at HP
  go_wp2_with fail
  refine (HP.out).mono ?_
  rintro e w1 ⟨rfl,hrow,hkp⟩
  have HR1:=Lib.hid hrow
  have VT:=Lib.hid hkp
  clear hrow hkp HP HR
  have hl1:(r++[false]).length≤50000001:=by rw[List.length_append,List.length_singleton];omega
  have HP:=Lib.hid (CV base p kind 2 _ w1 HR1.out (by omega) (by omega) (by omega))
  go_wp2_with fail
  refine (HP.out).mono ?_
  rintro e w2 ⟨rfl,hrow,hkp⟩
  have HR2:=Lib.hid hrow
  have Fv:=Lib.hid (VT.out.trans hkp)
  clear hrow hkp HP HR1 VT
  have hl2:(r++[false]++numBits kind 2).length≤50000003:=by rw[List.length_append,AJ];omega
  by_cases hk0:kind=0
  ·have hk0':((kind:Int) == 0)=true:=by simp;omega
   have Lg:Hid (J6 r xs kind false=pad (r++[false]++numBits kind 2)++numBits nb 16++numBits (65535 - nb) 16++AO xs):=Lib.hid (by unfold J6;rw[if_pos hk0,Hn.out,hk0])
   generalize r++[false]++numBits kind 2=r2 at *
   have HP:=Lib.hid (Ol base p r2 w2 HR2.out)
   have hl3:(pad r2).length≤50000020:=by rw[Nl];omega
   clear hl1 hl2 hk0 HR2
   go_wp2_with fail
   refine (HP.out).mono ?_
   rintro e w3 ⟨rfl,hrow,hkp⟩
   have HR3:=Lib.hid hrow
   have NR:=Lib.hid (Fv.out.trans hkp)
   clear hrow hkp HP Fv
   have HP:=Lib.hid (CV base p nb 16 _ w3 HR3.out (by omega) (by omega) (by omega))
   go_wp2_with fail
   refine (HP.out).mono ?_
   rintro e w4 ⟨rfl,hrow,hkp⟩
   have HR4:=Lib.hid hrow
   have J2:=Lib.hid (NR.out.trans hkp)
   clear hrow hkp HP NR HR3
   have hl4:(pad r2++numBits nb 16).length≤50000040:=by rw[List.length_append,AJ];omega
   have ADC:=rR nb (by omega)
   have HP:=Lib.hid (CV base p (65535 - nb) 16 _ w4 HR4.out (by omega) (by omega) (by omega))
   go_wp2_with fail
   refine (HP.out).mono ?_
   rintro e w5 ⟨rfl,hrow,hkp⟩
   have Ye:=Lib.hid hrow
   have L6:=Lib.hid (J2.out.trans hkp)
   clear hrow hkp HP J2 HR4 ADC
   have hl5:(pad r2++numBits nb 16++numBits (65535 - nb) 16).length≤50000060:=by rw[List.length_append,AJ];omega
   generalize pad r2++numBits nb 16++numBits (65535 - nb) 16=r5 at *
   go_wp2_with fail
   go_loopw [37] (fun i wr=>∃ k:Nat,k≤nb∧i=.int .i64 (k:Int)∧CY wr base p (r5++AO (xs.take k))∧AB base Gd w wr) (fun i _=>nb - (intOf i).toNat)
   case atStart=>exact⟨0,Nat.zero_le _,rfl,by rw[List.take_zero];show CY w5 base p (r5++[]);rw[List.append_nil];exact Ye.out,L6.out⟩
   case round=>
    clear Ye L6
    obtain⟨k,hk,rfl,hrow,hkp⟩:=hrel
    have rT:=Lib.hid hrow
    have HKk:=Lib.hid hkp
    clear hrow hkp
    by_cases hlt:k < nb
    ·have hkl:k < xs.length:=by rw[Hn.out];exact hlt
     obtain⟨b,o,rfl,hc⟩:=(HB.out.at HKk.out.block).get hkl
     have RY:Hid (AO (xs.take (k+1))=AO (xs.take k)++bitsOf xs[k]):=Lib.hid (by rw[BI xs k hkl,C8];simp[AO])
     have hbl:(AO (xs.take k)).length≤24000:=by rw[BV,List.length_take];omega
     generalize xs[k]=x at *
     obtain⟨q,hq⟩:∃ q:Nat,(q:Int)=n8 x:=⟨x.toNat,rfl⟩
     have hx8:=Ql x
     have Hq:Hid (bitsOf x=numBits q 8):=Lib.hid (by unfold bitsOf;rw[show x.toNat=q by unfold n8 at hq;omega])
     rw[←hq]at hc hx8
     clear hq
     have AB6:IntKind.i64.wrap (q:Int)=(q:Int):=IntWalk.i64_in _ (by omega)
     have HP:=Lib.hid (CV base p q 8 _ wr rT.out (by omega) (by omega) (by rw[List.length_append];omega))
     rw[List.append_assoc,←Hq.out,←RY.out]at HP
     clear rT hbl
     go_wp2_with fail
     refine (HP.out).mono ?_
     rintro e w6 ⟨rfl,hrow,hkp⟩
     have LW:=Lib.hid hrow
     have LQ:=Lib.hid (HKk.out.trans hkp)
     clear hrow hkp HP HKk hc
     go_wp2_with fail
     go_roundw
     case rel=>exact⟨k+1,by omega,by go_num,LW.out,LQ.out⟩
     case measure=>simp[intOf];omega
    ·obtain rfl:nb=k:=by omega
     have bN:Hid (xs.take nb=xs):=Lib.hid (List.take_of_length_le (by rw[Hn.out];exact Nat.le_refl _))
     rw[bN.out,←Lg.out]at rT
     go_wp2_with fail
     refine bodyPost_ret (results_none rfl _ _ _) rfl ?_
     exact⟨rfl,rT.out,HKk.out⟩
  ·have hk0':((kind:Int) == 0)=false:=by rw[beq_eq_false_iff_ne];omega
   have bJ:=Lib.hid (SX B nb cb xs w2 Hn.out hnc hx (HB.out.at Fv.out.block))
   go_wp2_with fail
   refine (bJ.out).mono ?_
   rintro e w3 ⟨⟨v3,rfl,ho3⟩,hb3⟩
   obtain⟨A3,c3,rfl,hc3,_,hk3,_⟩:=D5 ho3
   have HR3:=Lib.hid (HR2.out.below hb3)
   have NR:=Lib.hid (Fv.out.trans (AB.of_below hb3 (Nat.le_trans HR2.out.1 (Nat.le_of_lt HR2.out.lt))))
   have HT3:Hid (Jw w3 244 A3 ((toks xs).flatMap qw)):=Lib.hid hk3
   have zn:=Lib.hid (rP xs (by rw[Hn.out];exact hx))
   have htl:=Oi xs
   rw[Hn.out]at htl
   have Hlen:=Lib.hid (Oj (toks xs))
   have SY:Hid (kind=1→J6 r xs kind false=r++[false]++numBits kind 2++En (toks xs) BU Ck):=Lib.hid (fun h=>by subst h;unfold J6;rw[if_neg (by omega),if_pos rfl])
   have Sa:Hid (kind=2→J6 r xs kind false=r++[false]++numBits kind 2++Cy (Cg (toks xs)).1 (Cg (toks xs)).2++En (toks xs) (Cg (toks xs)).1 (Cg (toks xs)).2):=Lib.hid (fun h=>by subst h;unfold J6;rw[if_neg (by omega),if_neg (by omega)])
   clear bJ ho3 hb3 hk3 HR2 Fv
   generalize r++[false]++numBits kind 2=r2 at *
   generalize toks xs=tx at *
   have Hm:=Lib.hid (show tx.length=tx.length from rfl)
   generalize hmt:tx.length=mt at *
   have Hmt:=Lib.hid hmt
   clear hmt Hm hk0
   go_wp2_with fail
   refine (Ps _).mono ?_
   rintro e w4 ⟨A4,c4,B4,d4,rfl,hoA,hoB,hb4⟩
   have HR4:=Lib.hid (HR3.out.below hb4)
   have J2:=Lib.hid (NR.out.trans (AB.of_below hb4 (Nat.le_trans HR3.out.1 (Nat.le_of_lt HR3.out.lt))))
   have Jv:=Lib.hid (HT3.out.below hb4)
   have HFA:Hid (Jw w4 3 A4 (BU.map Code.BR)):=Lib.hid (by obtain⟨A,c,e,_,_,h,_⟩:=D5 hoA;injection e with e;subst e;exact h)
   have HFB:Hid (Jw w4 3 B4 (Ck.map Code.BR)):=Lib.hid (by obtain⟨A,c,e,_,_,h,_⟩:=D5 hoB;injection e with e;subst e;exact h)
   clear hoA hoB hb4 HR3 NR HT3
   by_cases hk2:kind=2
   ·have ADE:((kind:Int) == 2)=true:=by simp;omega
    have Ho:=Lib.hid (Sa.out hk2)
    have HL:=Lib.hid (VQ A3 mt c3 tx w4 Hmt.out (by omega) Jv.out.Ib (fun t ht=>VR (zn.out t ht)))
    clear SY Sa HFA HFB hk2
    go_wp2_with fail
    refine (HL.out).mono ?_
    rintro e w5 ⟨⟨v1,v2,rfl,ho1,ho2⟩,hb5⟩
    obtain⟨l1,l2,l3,l4,l5,l6⟩:=Hlen.out
    obtain⟨A5,a5,rfl,ha5,_,hk5,_⟩:=D5 ho1
    obtain⟨B5,b5,rfl,ADF,_,Iu,_⟩:=D5 ho2
    obtain⟨bA,oA,_,rfl,_,_⟩:=hk5 (by rw[List.length_map,l1];omega)
    obtain⟨bB,oB,_,rfl,_,_⟩:=Iu (by rw[List.length_map,l2];omega)
    have Ye:=Lib.hid (HR4.out.below hb5)
    have L6:=Lib.hid (J2.out.trans (AB.of_below hb5 (Nat.le_trans HR4.out.1 (Nat.le_of_lt HR4.out.lt))))
    have Nq:=Lib.hid (Jv.out.below hb5)
    have HL5:=Lib.hid hk5
    have HL6:=Lib.hid Iu
    have HH:=Lib.hid (MB base p r2 bA oA a5 bB oB b5 (Cg tx).1 (Cg tx).2 w5 Ye.out HL5.out HL6.out l1 l2 ha5 ADF l3 l4 (by omega))
    have hhl:=Pz (Cg tx).1 (Cg tx).2 l1 l2 l3 l4
    have L1:=Lib.hid l1
    have L2:=Lib.hid l2
    have L3:=Lib.hid l3
    have L4:=Lib.hid l4
    clear HL ho1 ho2 hb5 hk5 Iu HR4 J2 Jv l1 l2 l3 l4 l5 l6 Hlen
    generalize (Cg tx).1=LA at *
    generalize (Cg tx).2=LB at *
    go_wp2_with fail
    refine (HH.out).mono ?_
    rintro e w6 ⟨rfl,hrow,hkp⟩
    have LW:=Lib.hid hrow
    have LQ:=Lib.hid (L6.out.trans hkp)
    have HB:=Lib.hid (Og base p _ A3 mt c3 tx (some ⟨bA,oA,none⟩) 286 a5 LA (some ⟨bB,oB,none⟩) 30 b5 LB w6 LW.out (Nq.out.keeps hkp (by decide)) (HL5.out.keeps hkp (by decide)) (HL6.out.keeps hkp (by decide))
     Hmt.out (by omega) L1.out L2.out (by omega) (by omega) (by omega) (by omega) L3.out L4.out zn.out (by rw[List.length_append];omega))
    rw[←Ho.out]at HB
    clear hrow hkp HH
    go_wp2_with fail
    refine (HB.out).mono ?_
    rintro e w7 ⟨rfl,hrow,hkp⟩
    have Ph:=Lib.hid hrow
    have Uw:=Lib.hid (LQ.out.trans hkp)
    clear hrow hkp
    go_wp2_with fail
    go_end0
    exact⟨rfl,Ph.out,Uw.out⟩
   ·have ADE:((kind:Int) == 2)=false:=by rw[beq_eq_false_iff_ne];omega
    have Ho:=Lib.hid (SY.out (by rw[beq_eq_false_iff_ne]at hk0';omega))
    have HB:=Lib.hid (Og base p r2 A3 mt c3 tx A4 288 c4 BU B4 32 d4 Ck w4 HR4.out Jv.out HFA.out HFB.out
     Hmt.out (by omega) (by simp[BU]) (by simp[Ck]) (by omega) (by omega) (by omega) (by omega) Ra Rb zn.out (by omega))
    rw[←Ho.out]at HB
    clear SY Sa hk2
    go_wp2_with fail
    refine (HB.out).mono ?_
    rintro e w7 ⟨rfl,hrow,hkp⟩
    have Ph:=Lib.hid hrow
    have Uw:=Lib.hid (J2.out.trans hkp)
    clear hrow hkp
    go_wp2_with fail
    go_end0
    exact⟨rfl,Ph.out,Uw.out⟩
 ·go_enter Tryz.func119,Tryz.ntmps119
  have HP:=Lib.hid (CV base p 1 1 r w HR.out (by omega) (by omega) (by omega))
  rw[show numBits 1 1=[true] from rfl,show (((1:Nat):Int))=1 from rfl]at HP
  go_wp2_with fail
  refine (HP.out).mono ?_
  rintro e w1 ⟨rfl,hrow,hkp⟩
  have HR1:=Lib.hid hrow
  have VT:=Lib.hid hkp
  clear hrow hkp HP HR
  have hl1:(r++[true]).length≤50000001:=by rw[List.length_append,List.length_singleton];omega
  have HP:=Lib.hid (CV base p kind 2 _ w1 HR1.out (by omega) (by omega) (by omega))
  go_wp2_with fail
  refine (HP.out).mono ?_
  rintro e w2 ⟨rfl,hrow,hkp⟩
  have HR2:=Lib.hid hrow
  have Fv:=Lib.hid (VT.out.trans hkp)
  clear hrow hkp HP HR1 VT
  have hl2:(r++[true]++numBits kind 2).length≤50000003:=by rw[List.length_append,AJ];omega
  by_cases hk0:kind=0
  ·have hk0':((kind:Int) == 0)=true:=by simp;omega
   have Lg:Hid (J6 r xs kind true=pad (r++[true]++numBits kind 2)++numBits nb 16++numBits (65535 - nb) 16++AO xs):=Lib.hid (by unfold J6;rw[if_pos hk0,Hn.out,hk0])
   generalize r++[true]++numBits kind 2=r2 at *
   have HP:=Lib.hid (Ol base p r2 w2 HR2.out)
   have hl3:(pad r2).length≤50000020:=by rw[Nl];omega
   clear hl1 hl2 hk0 HR2
   go_wp2_with fail
   refine (HP.out).mono ?_
   rintro e w3 ⟨rfl,hrow,hkp⟩
   have HR3:=Lib.hid hrow
   have NR:=Lib.hid (Fv.out.trans hkp)
   clear hrow hkp HP Fv
   have HP:=Lib.hid (CV base p nb 16 _ w3 HR3.out (by omega) (by omega) (by omega))
   go_wp2_with fail
   refine (HP.out).mono ?_
   rintro e w4 ⟨rfl,hrow,hkp⟩
   have HR4:=Lib.hid hrow
   have J2:=Lib.hid (NR.out.trans hkp)
   clear hrow hkp HP NR HR3
   have hl4:(pad r2++numBits nb 16).length≤50000040:=by rw[List.length_append,AJ];omega
   have ADC:=rR nb (by omega)
   have HP:=Lib.hid (CV base p (65535 - nb) 16 _ w4 HR4.out (by omega) (by omega) (by omega))
   go_wp2_with fail
   refine (HP.out).mono ?_
   rintro e w5 ⟨rfl,hrow,hkp⟩
   have Ye:=Lib.hid hrow
   have L6:=Lib.hid (J2.out.trans hkp)
   clear hrow hkp HP J2 HR4 ADC
   have hl5:(pad r2++numBits nb 16++numBits (65535 - nb) 16).length≤50000060:=by rw[List.length_append,AJ];omega
   generalize pad r2++numBits nb 16++numBits (65535 - nb) 16=r5 at *
   go_wp2_with fail
   go_loopw [37] (fun i wr=>∃ k:Nat,k≤nb∧i=.int .i64 (k:Int)∧CY wr base p (r5++AO (xs.take k))∧AB base Gd w wr) (fun i _=>nb - (intOf i).toNat)
   case atStart=>exact⟨0,Nat.zero_le _,rfl,by rw[List.take_zero];show CY w5 base p (r5++[]);rw[List.append_nil];exact Ye.out,L6.out⟩
   case round=>
    clear Ye L6
    obtain⟨k,hk,rfl,hrow,hkp⟩:=hrel
    have rT:=Lib.hid hrow
    have HKk:=Lib.hid hkp
    clear hrow hkp
    by_cases hlt:k < nb
    ·have hkl:k < xs.length:=by rw[Hn.out];exact hlt
     obtain⟨b,o,rfl,hc⟩:=(HB.out.at HKk.out.block).get hkl
     have RY:Hid (AO (xs.take (k+1))=AO (xs.take k)++bitsOf xs[k]):=Lib.hid (by rw[BI xs k hkl,C8];simp[AO])
     have hbl:(AO (xs.take k)).length≤24000:=by rw[BV,List.length_take];omega
     generalize xs[k]=x at *
     obtain⟨q,hq⟩:∃ q:Nat,(q:Int)=n8 x:=⟨x.toNat,rfl⟩
     have hx8:=Ql x
     have Hq:Hid (bitsOf x=numBits q 8):=Lib.hid (by unfold bitsOf;rw[show x.toNat=q by unfold n8 at hq;omega])
     rw[←hq]at hc hx8
     clear hq
     have AB6:IntKind.i64.wrap (q:Int)=(q:Int):=IntWalk.i64_in _ (by omega)
     have HP:=Lib.hid (CV base p q 8 _ wr rT.out (by omega) (by omega) (by rw[List.length_append];omega))
     rw[List.append_assoc,←Hq.out,←RY.out]at HP
     clear rT hbl
     go_wp2_with fail
     refine (HP.out).mono ?_
     rintro e w6 ⟨rfl,hrow,hkp⟩
     have LW:=Lib.hid hrow
     have LQ:=Lib.hid (HKk.out.trans hkp)
     clear hrow hkp HP HKk hc
     go_wp2_with fail
     go_roundw
     case rel=>exact⟨k+1,by omega,by go_num,LW.out,LQ.out⟩
     case measure=>simp[intOf];omega
    ·obtain rfl:nb=k:=by omega
     have bN:Hid (xs.take nb=xs):=Lib.hid (List.take_of_length_le (by rw[Hn.out];exact Nat.le_refl _))
     rw[bN.out,←Lg.out]at rT
     go_wp2_with fail
     refine bodyPost_ret (results_none rfl _ _ _) rfl ?_
     exact⟨rfl,rT.out,HKk.out⟩
  ·have hk0':((kind:Int) == 0)=false:=by rw[beq_eq_false_iff_ne];omega
   have bJ:=Lib.hid (SX B nb cb xs w2 Hn.out hnc hx (HB.out.at Fv.out.block))
   go_wp2_with fail
   refine (bJ.out).mono ?_
   rintro e w3 ⟨⟨v3,rfl,ho3⟩,hb3⟩
   obtain⟨A3,c3,rfl,hc3,_,hk3,_⟩:=D5 ho3
   have HR3:=Lib.hid (HR2.out.below hb3)
   have NR:=Lib.hid (Fv.out.trans (AB.of_below hb3 (Nat.le_trans HR2.out.1 (Nat.le_of_lt HR2.out.lt))))
   have HT3:Hid (Jw w3 244 A3 ((toks xs).flatMap qw)):=Lib.hid hk3
   have zn:=Lib.hid (rP xs (by rw[Hn.out];exact hx))
   have htl:=Oi xs
   rw[Hn.out]at htl
   have Hlen:=Lib.hid (Oj (toks xs))
   have SY:Hid (kind=1→J6 r xs kind true=r++[true]++numBits kind 2++En (toks xs) BU Ck):=Lib.hid (fun h=>by subst h;unfold J6;rw[if_neg (by omega),if_pos rfl])
   have Sa:Hid (kind=2→J6 r xs kind true=r++[true]++numBits kind 2++Cy (Cg (toks xs)).1 (Cg (toks xs)).2++En (toks xs) (Cg (toks xs)).1 (Cg (toks xs)).2):=Lib.hid (fun h=>by subst h;unfold J6;rw[if_neg (by omega),if_neg (by omega)])
   clear bJ ho3 hb3 hk3 HR2 Fv
   generalize r++[true]++numBits kind 2=r2 at *
   generalize toks xs=tx at *
   have Hm:=Lib.hid (show tx.length=tx.length from rfl)
   generalize hmt:tx.length=mt at *
   have Hmt:=Lib.hid hmt
   clear hmt Hm hk0
   go_wp2_with fail
   refine (Ps _).mono ?_
   rintro e w4 ⟨A4,c4,B4,d4,rfl,hoA,hoB,hb4⟩
   have HR4:=Lib.hid (HR3.out.below hb4)
   have J2:=Lib.hid (NR.out.trans (AB.of_below hb4 (Nat.le_trans HR3.out.1 (Nat.le_of_lt HR3.out.lt))))
   have Jv:=Lib.hid (HT3.out.below hb4)
   have HFA:Hid (Jw w4 3 A4 (BU.map Code.BR)):=Lib.hid (by obtain⟨A,c,e,_,_,h,_⟩:=D5 hoA;injection e with e;subst e;exact h)
   have HFB:Hid (Jw w4 3 B4 (Ck.map Code.BR)):=Lib.hid (by obtain⟨A,c,e,_,_,h,_⟩:=D5 hoB;injection e with e;subst e;exact h)
   clear hoA hoB hb4 HR3 NR HT3
   by_cases hk2:kind=2
   ·have ADE:((kind:Int) == 2)=true:=by simp;omega
    have Ho:=Lib.hid (Sa.out hk2)
    have HL:=Lib.hid (VQ A3 mt c3 tx w4 Hmt.out (by omega) Jv.out.Ib (fun t ht=>VR (zn.out t ht)))
    clear SY Sa HFA HFB hk2
    go_wp2_with fail
    refine (HL.out).mono ?_
    rintro e w5 ⟨⟨v1,v2,rfl,ho1,ho2⟩,hb5⟩
    obtain⟨l1,l2,l3,l4,l5,l6⟩:=Hlen.out
    obtain⟨A5,a5,rfl,ha5,_,hk5,_⟩:=D5 ho1
    obtain⟨B5,b5,rfl,ADF,_,Iu,_⟩:=D5 ho2
    obtain⟨bA,oA,_,rfl,_,_⟩:=hk5 (by rw[List.length_map,l1];omega)
    obtain⟨bB,oB,_,rfl,_,_⟩:=Iu (by rw[List.length_map,l2];omega)
    have Ye:=Lib.hid (HR4.out.below hb5)
    have L6:=Lib.hid (J2.out.trans (AB.of_below hb5 (Nat.le_trans HR4.out.1 (Nat.le_of_lt HR4.out.lt))))
    have Nq:=Lib.hid (Jv.out.below hb5)
    have HL5:=Lib.hid hk5
    have HL6:=Lib.hid Iu
    have HH:=Lib.hid (MB base p r2 bA oA a5 bB oB b5 (Cg tx).1 (Cg tx).2 w5 Ye.out HL5.out HL6.out l1 l2 ha5 ADF l3 l4 (by omega))
    have hhl:=Pz (Cg tx).1 (Cg tx).2 l1 l2 l3 l4
    have L1:=Lib.hid l1
    have L2:=Lib.hid l2
    have L3:=Lib.hid l3
    have L4:=Lib.hid l4
    clear HL ho1 ho2 hb5 hk5 Iu HR4 J2 Jv l1 l2 l3 l4 l5 l6 Hlen
    generalize (Cg tx).1=LA at *
    generalize (Cg tx).2=LB at *
    go_wp2_with fail
    refine (HH.out).mono ?_
    rintro e w6 ⟨rfl,hrow,hkp⟩
    have LW:=Lib.hid hrow
    have LQ:=Lib.hid (L6.out.trans hkp)
    have HB:=Lib.hid (Og base p _ A3 mt c3 tx (some ⟨bA,oA,none⟩) 286 a5 LA (some ⟨bB,oB,none⟩) 30 b5 LB w6 LW.out (Nq.out.keeps hkp (by decide)) (HL5.out.keeps hkp (by decide)) (HL6.out.keeps hkp (by decide))
     Hmt.out (by omega) L1.out L2.out (by omega) (by omega) (by omega) (by omega) L3.out L4.out zn.out (by rw[List.length_append];omega))
    rw[←Ho.out]at HB
    clear hrow hkp HH
    go_wp2_with fail
    refine (HB.out).mono ?_
    rintro e w7 ⟨rfl,hrow,hkp⟩
    have Ph:=Lib.hid hrow
    have Uw:=Lib.hid (LQ.out.trans hkp)
    clear hrow hkp
    go_wp2_with fail
    go_end0
    exact⟨rfl,Ph.out,Uw.out⟩
   ·have ADE:((kind:Int) == 2)=false:=by rw[beq_eq_false_iff_ne];omega
    have Ho:=Lib.hid (SY.out (by rw[beq_eq_false_iff_ne]at hk0';omega))
    have HB:=Lib.hid (Og base p r2 A3 mt c3 tx A4 288 c4 BU B4 32 d4 Ck w4 HR4.out Jv.out HFA.out HFB.out
     Hmt.out (by omega) (by simp[BU]) (by simp[Ck]) (by omega) (by omega) (by omega) (by omega) Ra Rb zn.out (by omega))
    rw[←Ho.out]at HB
    clear SY Sa hk2
    go_wp2_with fail
    refine (HB.out).mono ?_
    rintro e w7 ⟨rfl,hrow,hkp⟩
    have Ph:=Lib.hid hrow
    have Uw:=Lib.hid (J2.out.trans hkp)
    clear hrow hkp
    go_wp2_with fail
    go_end0
    exact⟨rfl,Ph.out,Uw.out⟩
end Go.Proofs.YtabdianhoabhhaaGreatDoor.AX
namespace Go.Proofs.YtabdianhoabhhaaGreatDoor.AX
open Go Go.RowKit Go.Proofs.YtabdianhoabhhaaGreatDoor Go.Proofs.YtabdianhoabhhaaGreatDoor.Bits Go.Proofs.YtabdianhoabhhaaGreatDoor.Code Go.Proofs.YtabdianhoabhhaaGreatDoor.Inf Go.Proofs.YtabdianhoabhhaaGreatDoor.SP Go.Proofs.YtabdianhoabhhaaGreatDoor.Rt
set_option linter.unusedVariables false
theorem Yf {w w':World} {A:Option Addr} {cs:List Value} {base:Nat} (h:AR w A cs) (hb:w.heap.size=base) (hw:∀ k,k < base→w'.heap[k]?=w.heap[k]?):AR w' A cs:=fun hp=>by
 obtain⟨b,o,e,hc⟩:=h hp
 refine⟨b,o,e,fun j v hj=>?_⟩
 have h1:=hc j v hj
 have hlt:=block_lt_of_cell h1
 have h2:=hw b (by rw[←hb];exact hlt)
 rw[←h1]
 simp only[World.cell?,h2]
theorem Sb (parts:List (List UInt8)) (ks:List Int):∀ f i n:Nat,IV parts ks f i n=0→(∀ j,i≤j→j < i+f→0≤ks.getD j 0∧ks.getD j 0≤2∧j < 40)∧(f≠0→n≤3000)∧n+((parts.drop i).take f).flatten.length≤max n 3000
 | 0,i,n,_=>⟨fun j h1 h2=>by omega,fun h=>absurd rfl h,by simp;omega⟩
 | f+1,i,n,h=>by
  unfold IV at h
  by_cases h1:3000 < n+(parts.getD i []).length∨40≤i
  ·rw[if_pos h1]at h;simp at h
  ·rw[if_neg h1]at h
   by_cases h2:ks.getD i 0 < 0∨2 < ks.getD i 0
   ·rw[if_pos h2]at h;simp at h
   ·rw[if_neg h2]at h
    obtain⟨a1,a2,a3⟩:=Sb parts ks f (i+1) (n+(parts.getD i []).length) h
    refine⟨fun j h3 h4=>?_,fun _=>by omega,?_⟩
    ·by_cases hj:j=i
     ·subst hj;omega
     ·exact a1 j (by omega) (by omega)
    ·rcases Nat.lt_or_ge i parts.length with hi | hi
     ·rw[List.drop_eq_getElem_cons hi,List.take_succ_cons,List.flatten_cons,List.length_append]
      rw[List.getD_eq_getElem?_getD,List.getElem?_eq_getElem hi]at a3 h1
      simp only[Option.getD_some]at a3 h1
      omega
     ·rw[List.drop_of_length_le hi];simp;omega
theorem kZ (parts:List (List UInt8)) (ks:List Int) (h:IV parts ks parts.length 0 0=0) (hl:ks.length=parts.length):(∀ k∈ks,0≤k∧k≤2)∧parts.length≤40∧parts.flatten.length≤3000:=by
 obtain⟨a1,a2,a3⟩:=Sb parts ks parts.length 0 0 h
 rw[List.drop_zero,List.take_length]at a3
 refine⟨fun k hk=>?_,?_,by omega⟩
 ·obtain⟨i,hi,rfl⟩:=List.mem_iff_getElem.1 hk
  have:=a1 i (by omega) (by omega)
  rw[List.getD_eq_getElem?_getD,List.getElem?_eq_getElem hi]at this
  exact⟨this.1,this.2.1⟩
 ·rcases Nat.eq_zero_or_pos parts.length with h0 | h0
  ·omega
  ·have:=(a1 (parts.length - 1) (by omega) (by omega)).2.2
   omega
theorem Yg (parts:List (List UInt8)) (i:Nat):(parts.getD i []).length≤parts.flatten.length:=by
 rcases Nat.lt_or_ge i parts.length with hi | hi
 ·have:=VU parts i hi
  have h2:=Es parts (i+1)
  rw[this,List.length_append]at h2
  omega
 ·rw[List.getD_eq_getElem?_getD,List.getElem?_eq_none hi];simp
theorem VV (parts:List (List UInt8)) (kinds:List Nat) (h:parts.flatten.length≤3000):∀ i,(DC parts kinds i).length≤200000*i
 | 0=>by show 0≤_;omega
 | i+1=>by
  have h1:=VV parts kinds h i
  have h2:=rQ (DC parts kinds i) (parts.getD i []) (kinds.getD i 0) (decide (i+1=parts.length)) (by have:=Yg parts i;omega)
  show (J6 _ _ _ _).length≤_
  omega
def EF (parts:List (List UInt8)) (ks:List Int):Int:=if parts.length=0∨parts.length≠ks.length then 4 else IV parts ks parts.length 0 0
def rU (parts:List (List UInt8)) (ks:List Int) (w:World) (e:Ending) (w':World):Prop:=
  (EF parts ks≠0∧e=.returned (.tuple #[.slice none 0 0,.int .i64 (EF parts ks)])∨
   EF parts ks=0∧∃ v,e=.returned (.tuple #[v,.int .i64 0])∧w'.ownsRow w.heap.size 5 1 v (Cu parts (BB ks)).length ((Cu parts (BB ks)).map Eh))∧Below w.heap.size w w'
set_option maxRecDepth 100000 in
set_option maxHeartbeats 4000000 in
theorem kQ (PA KA:Option Addr) (n cn m cm:Nat) (ps:List (Value×List UInt8)) (ks:List Int) (w:World) (hn:ps.length=n) (hm:ks.length=m) (hnx:n≤maxLen) (hmx:m≤maxLen) (hP:AR w PA (ps.map (·.1))) (hd:∀ q∈ps,Au w q.1 q.2) (hq:∀ q∈ps,q.2.length≤140737488351232) (hK:Lf w KA ks) :
  Calls Tryz.prog 83 #[.slice PA n cn,.slice KA m cm] w (rU (ps.map (·.2)) ks w):=by
 have HN:=Lib.hid hn
 have HM:=Lib.hid hm
 have HP:=Lib.hid hP
 have HD:=Lib.hid hd
 have HQ:=Lib.hid hq
 have HK:=Lib.hid hK
 have lp:(ps.map (·.2)).length=n:=by rw[List.length_map,hn]
 have Hp:Hid (∀ k (h:k < ps.length),(ps.map (·.2)).getD k []=ps[k].2):=Lib.hid (fun k h=>by rw[List.getD_eq_getElem?_getD,List.getElem?_map,List.getElem?_eq_getElem h];rfl)
 unfold maxLen at hnx hmx
 generalize ps.map (·.2)=parts at *
 have LP:=Lib.hid lp
 clear hn hm hP hd hq hK lp
 go_enter Tryz.func83,Tryz.ntmps83
 by_cases h0:n=0
 ·have hz:((n:Int) == 0)=true:=by simp;omega
  have He:Hid (EF parts ks=4):=Lib.hid (by unfold EF;rw[if_pos (by rw[LP.out];exact .inl h0)])
  clear h0
  go_wp2_with fail
  go_ret2
  exact⟨.inl ⟨by rw[He.out];decide,by rw[He.out];rfl⟩,Below.refl _ _⟩
 ·have hz:((n:Int) == 0)=false:=by rw[beq_eq_false_iff_ne];omega
  by_cases hnm:n=m
  ·subst hnm
   have He:Hid (EF parts ks=IV parts ks n 0 0):=Lib.hid (by unfold EF;rw[if_neg (by rw[LP.out,HM.out];omega),LP.out])
   have hne:((n:Int) == (n:Int))=true:=by simp
   clear h0
   go_wp2_with fail
   go_loop [6,24] (fun vs i=>∃ k s:Nat,k≤n∧i=.int .i64 (k:Int)∧vs=.int .i64 (s:Int)∧s≤3000∧IV parts ks n 0 0=IV parts ks (n - k) k s) (fun _ i=>n - (intOf i).toNat)
   case atStart=>exact⟨0,0,Nat.zero_le _,rfl,rfl,by omega,rfl⟩
   case round=>
    obtain⟨k,s,hk,rfl,rfl,hs,hpk⟩:=hrel
    have MH:=Lib.hid hpk
    clear hpk
    by_cases hlt:k < n
    ·have hkl:k < ps.length:=by rw[HN.out];exact hlt
     obtain⟨bP,oP,rfl,hcP⟩:=HP.out.get (k:=k) (by rw[List.length_map];exact hkl)
     rw[List.getElem_map]at hcP
     obtain⟨A,c,hv,hlc,hcm,hby⟩:=HD.out _ (List.getElem_mem hkl)
     rw[hv]at hcP
     have W9:=Lib.hid (Hp.out k hkl)
     have hlq:=HQ.out _ (List.getElem_mem hkl)
     generalize hxs:ps[k].2=xs at *
     clear hv hxs hby
     unfold maxLen at hcm
     generalize hlx:xs.length=lx at *
     have Hlx:=Lib.hid hlx
     have Yh:k < ks.length:=by rw[HM.out];exact hlt
     obtain⟨bK,oK,rfl,hcK⟩:=HK.out.get Yh
     have Hks:Hid (ks.getD k 0=ks[k]):=Lib.hid (by rw[List.getD_eq_getElem?_getD,List.getElem?_eq_getElem Yh];rfl)
     generalize ks[k]=z at *
     obtain⟨f,hf⟩:∃ f,n - k=f+1:=⟨n - k - 1,by omega⟩
     have Cw:Hid (IV parts ks n 0 0=if 3000 < s+lx∨40≤k then 2 else if z < 0∨2 < z then 3 else IV parts ks (n - (k+1)) (k+1) (s+lx)):=Lib.hid (by
      rw[MH.out,hf]
      conv=>lhs;unfold IV
      rw[W9.out,Hlx.out,Hks.out,show n - (k+1)=f by omega])
     have hsum:IntKind.i64.wrap ((s:Int)+(lx:Int))=((s+lx:Nat):Int):=by rw[show ((s:Int)+(lx:Int))=((s+lx:Nat):Int) by omega];exact IntWalk.i64_in _ (by omega)
     obtain⟨t,ht⟩:∃ t,t=s+lx:=⟨_,rfl⟩
     rw[←ht]at hsum Cw
     clear hlx hf ht
     by_cases h3:3000 < t
     ·have h3':(3000:Int) < (t:Int):=by omega
      have Hr:Hid (EF parts ks=2):=Lib.hid (by rw[He.out,Cw.out,if_pos (.inl h3)])
      clear h3
      go_wp2_with fail
      go_ret2
      exact⟨.inl ⟨by rw[Hr.out];decide,by rw[Hr.out];rfl⟩,Below.refl _ _⟩
     ·have h3':¬ (3000:Int) < (t:Int):=by omega
      by_cases h4:40≤k
      ·have h4':(40:Int)≤(k:Int):=by omega
       have Hr:Hid (EF parts ks=2):=Lib.hid (by rw[He.out,Cw.out,if_pos (.inr h4)])
       clear h3 h4
       go_wp2_with fail
       go_ret2
       exact⟨.inl ⟨by rw[Hr.out];decide,by rw[Hr.out];rfl⟩,Below.refl _ _⟩
      ·have h4':¬ (40:Int)≤(k:Int):=by omega
       by_cases h5:z < 0
       ·have Hr:Hid (EF parts ks=3):=Lib.hid (by rw[He.out,Cw.out,if_neg (by omega),if_pos (.inl h5)])
        clear h3 h4
        go_wp2_with fail
        go_ret2
        exact⟨.inl ⟨by rw[Hr.out];decide,by rw[Hr.out];rfl⟩,Below.refl _ _⟩
       ·by_cases h6:2 < z
        ·have Hr:Hid (EF parts ks=3):=Lib.hid (by rw[He.out,Cw.out,if_neg (by omega),if_pos (.inr h6)])
         clear h3 h4
         go_wp2_with fail
         go_ret2
         exact⟨.inl ⟨by rw[Hr.out];decide,by rw[Hr.out];rfl⟩,Below.refl _ _⟩
        ·have Hr:Hid (IV parts ks n 0 0=IV parts ks (n - (k+1)) (k+1) t):=Lib.hid (by rw[Cw.out,if_neg (by omega),if_neg (by omega)])
         clear h4
         go_wp2_with fail
         go_round
         case rel=>exact⟨k+1,t,by omega,by go_num,rfl,by omega,Hr.out⟩
         case measure=>simp[intOf];omega
    ·obtain rfl:n=k:=by omega
     have Hz:Hid (IV parts ks n 0 0=0):=Lib.hid (by rw[MH.out,Nat.sub_self];rfl)
     have He0:Hid (EF parts ks=0):=Lib.hid (by rw[He.out,Hz.out])
     obtain⟨q1,q2,q3⟩:=kZ parts ks (by rw[LP.out];exact Hz.out) (by rw[HM.out,LP.out])
     have Q1:=Lib.hid q1
     have Q3:=Lib.hid q3
     rw[LP.out]at q2
     have Qk:=Lib.hid (CY.new w (base:=w.heap.size) (Nat.le_refl _))
     have Hb0:=Lib.hid ((Below.refl w.heap.size w).alloc (Nat.le_refl _) (.cells #[.slice none 0 0,.int .i64 0] 128))
     clear q1 q3 MH
     go_wp2_with fail
     have HPb:=Lib.hid (HP.out.below Hb0.out)
     have HKb:=Lib.hid (HK.out.below Hb0.out)
     have HLw:Hid (∀ q∈ps,∃ A cap,q.1=.slice A q.2.length cap∧q.2.length≤cap∧NY (w.alloc (.cells #[.slice none 0 0,.int .i64 0] 128)) w.heap.size A q.2):=Lib.hid (fun q hq=>by
      obtain⟨A,c,h1,h2,h3,h4⟩:=HD.out q hq
      exact⟨A,c,h1,h2,(NY.of h4 (Nat.le_refl _)).trans (fun k hk=>Hb0.out.block k hk)⟩)
     obtain⟨n1,hn1⟩:∃ n1,n=n1+1:=⟨n - 1,by rw[beq_eq_false_iff_ne]at hz;omega⟩
     have hs1:IntKind.i64.wrap ((n:Int) - 1)=(n1:Int):=by rw[show (n:Int) - 1=(n1:Int) by omega];exact IntWalk.i64_in _ (by omega)
     have Hn1:=Lib.hid hn1
     clear hn1 hlt hs hk
     generalize hw3:w.alloc (.cells #[.slice none 0 0,.int .i64 0] 128)=w3 at *
     generalize hp0:w.heap.size=p0 at *
     have rV:=Lib.hid hp0
     clear hw3 hp0
     go_loopw [54] (fun i wr=>∃ k:Nat,k≤n∧i=.int .i64 (k:Int)∧CY wr p0 p0 (DC parts (BB ks) k)∧AB p0 Gd w3 wr) (fun i _=>n - (intOf i).toNat)
     case atStart=>exact⟨0,Nat.zero_le _,rfl,Qk.out,AB.refl _ _ _⟩
     case round=>
      clear Qk
      obtain⟨k,hk,rfl,hrow,hkp⟩:=hrel
      have Co:=Lib.hid hrow
      have NQ:=Lib.hid hkp
      have hrl:=VV parts (BB ks) Q3.out k
      clear hrow hkp
      by_cases hlt:k < n
      ·have hkl:k < ps.length:=by rw[HN.out];exact hlt
       have Hag:Hid (∀ j,j < p0→wr.heap[j]?=w.heap[j]?):=Lib.hid (fun j hj=>(NQ.out.block j hj).trans (Hb0.out.block j hj))
       obtain⟨bP,oP,rfl,hcP⟩:=(Yf HP.out rV.out Hag.out).get (k:=k) (by rw[List.length_map];exact hkl)
       rw[List.getElem_map]at hcP
       obtain⟨A,c,hv,hlc,hlow⟩:=HLw.out _ (List.getElem_mem hkl)
       rw[hv]at hcP
       have W9:=Lib.hid (Hp.out k hkl)
       have hx3:ps[k].2.length≤3000:=by rw[←W9.out];exact Nat.le_trans (Yg parts k) Q3.out
       generalize hxs:ps[k].2=xs at *
       have bZ:=Lib.hid hlow
       have Yh:k < ks.length:=by rw[HM.out];exact hlt
       obtain⟨bK,oK,rfl,hcK⟩:=Lf.get (Yf HK.out rV.out Hag.out) Yh
       have hz2:=Q1.out _ (List.getElem_mem Yh)
       have hgk:(BB ks).getD k 0=ks[k].toNat:=Rc ks k Yh
       generalize ks[k]=z at *
       obtain⟨zk,rfl⟩:=Int.eq_ofNat_of_zero_le hz2.1
       rw[Int.toNat_natCast]at hgk
       obtain⟨lb,hlb⟩:∃ b:Bool,b=((k:Int) == (n1:Int)):=⟨_,rfl⟩
       have Cw:Hid (DC parts (BB ks) (k+1)=J6 (DC parts (BB ks) k) xs zk lb):=Lib.hid (by
        show J6 _ _ _ _=_
        rw[W9.out,hgk]
        congr 1
        rw[hlb,LP.out,Hn1.out,Bool.eq_iff_iff]
        simp
        omega)
       have HO:=Lib.hid (zy p0 p0 (DC parts (BB ks) k) A xs.length c xs zk lb wr Co.out (bZ.out.trans NQ.out.block) rfl hlc hx3 (by omega) (by omega))
       rw[←Cw.out]at HO
       rw[hlb]at HO
       have hlx:=hx3
       generalize xs.length=lx at *
       clear hv hlow hxs hgk hlb hrl Co hlc hx3 hz2
       go_wp2_with fail
       refine (HO.out).mono ?_
       rintro e w5 ⟨rfl,hrow,hkp⟩
       have Ye:=Lib.hid hrow
       have L6:=Lib.hid (NQ.out.trans hkp)
       clear hrow hkp HO NQ
       go_wp2_with fail
       go_roundw
       case rel=>exact⟨k+1,by omega,by go_num,Ye.out,L6.out⟩
       case measure=>simp[intOf];omega
      ·obtain rfl:n=k:=by omega
       have Hbk:Hid (Below p0 w wr):=Lib.hid (Hb0.out.trans NQ.out.below)
       have HPk:Hid (Cu parts (BB ks)=pack (DC parts (BB ks) n)):=Lib.hid (by unfold Cu;rw[LP.out])
       obtain⟨hpp,v,hv1,hv2⟩:=Co.out
       have hby:=Lib.hid (VW p0 v _ wr hv1)
       have Hv2:=Lib.hid hv2
       clear hv1 hv2 hrl
       go_wp2_with fail
       refine (hby.out).mono ?_
       rintro e w5 ⟨rfl,rfl⟩
       go_wp2_with fail
       go_ret2
       exact⟨.inr ⟨He0.out,v,rfl,by rw[HPk.out,rV.out];exact Hv2.out⟩,by rw[rV.out];exact Hbk.out⟩
  ·have hne:((n:Int) == (m:Int))=false:=by rw[beq_eq_false_iff_ne];omega
   have He:Hid (EF parts ks=4):=Lib.hid (by unfold EF;rw[if_pos (by rw[LP.out,HM.out];exact .inr hnm)])
   clear h0 hnm
   go_wp2_with fail
   go_ret2
   exact⟨.inl ⟨by rw[He.out];decide,by rw[He.out];rfl⟩,Below.refl _ _⟩
end Go.Proofs.YtabdianhoabhhaaGreatDoor.AX
namespace Go.Proofs.YtabdianhoabhhaaGreatDoor
open Go Go.RowKit
set_option linter.unusedVariables false
def AQ (xs:List UInt8):ByteArray:=⟨xs.toArray⟩
theorem TA (xs ys:List UInt8):((AQ xs).toList == (AQ ys).toList)=decide (xs=ys):=by
 rw[ByteArray.toList_eq,ByteArray.toList_eq,Bool.eq_iff_iff];simp[AQ]
theorem QE (xs:List UInt8):strOfNums (xs.map n8)=AQ xs:=by
 unfold strOfNums AQ
 rw[List.map_map]
 have:((fun n=>UInt8.ofNat n.toNat) ∘ n8)=id:=by
  funext x;simp[n8]
 rw[this,List.map_id]
theorem Gi (A:Option Addr) (n c:Nat) (xs:List UInt8) (w:World) (hn:xs.length=n) (h:BD w A xs) :
  (convert 23 9 (.slice A n c)).run Tryz.prog w=.ok (.string (AQ xs)) w:=by
 rw[←QE]
 cases n with
 | zero=>
  have:xs=[]:=List.eq_nil_of_length_eq_zero hn
  subst this
  exact run_convert_bytes_zero w _ _ Tryz.underlying23 Tryz.underlying5 A c _ Tryz.underlying9
 | succ n=>
  obtain⟨b,o,rfl,_⟩:=AR.get h (k:=0) (by simp;omega)
  refine run_convert_bytes_arg w _ _ Tryz.underlying23 Tryz.underlying5 b o _ c _ (by simpa using hn) (fun i hi=>?_) _ Tryz.underlying9
  obtain⟨b',o',hb,hc⟩:=AR.get h (k:=i) (by simp;omega)
  injection hb with hb;injection hb with h1 h2 h3
  subst h1 h2
  rw[hc]
  have:i < xs.length:=by omega
  simp[List.getD,Eh,this]
set_option maxHeartbeats 400000 in
theorem Hw (A B:Option Addr) (n m ca cb:Nat) (xs ys:List UInt8) (w:World) (hn:xs.length=n) (hm:ys.length=m) (ha:BD w A xs) (hb:BD w B ys) :
  Calls Tryz.prog 22 #[.slice A n ca,.slice B m cb] w fun e w'=>e=.returned (.bool (decide (xs=ys)))∧w'=w:=by
 have k1:=Gi A n ca xs w hn ha
 have k2:=Gi B m cb ys w hm hb
 have K:=Lib.hid (TA xs ys)
 clear hn hm ha hb
 go_enter Tryz.func22,Tryz.ntmps22
 go_wp2_with fail
 go_ret
 exact⟨DX K.out,rfl⟩
end Go.Proofs.YtabdianhoabhhaaGreatDoor
namespace Go.Proofs.YtabdianhoabhhaaGreatDoor.AX
open Go Go.RowKit Go.Proofs.YtabdianhoabhhaaGreatDoor Go.Proofs.YtabdianhoabhhaaGreatDoor.Bits Go.Proofs.YtabdianhoabhhaaGreatDoor.Inf Go.Proofs.YtabdianhoabhhaaGreatDoor.SP Go.Proofs.YtabdianhoabhhaaGreatDoor.Rt
open Go.Proofs.YtabdianhoabhhaaGreatDoor.Code (BB BR ED)
set_option linter.unusedVariables false
theorem YT (xs:List UInt8) (k:Nat) (hx:xs.length≤3000) (hk:k≤2):EF [xs] [(k:Int)]=0:=by
 unfold EF
 rw[if_neg (by simp)]
 show IV [xs] [(k:Int)] 1 0 0=0
 unfold IV
 rw[if_neg (by simp;omega),if_neg (by simp;omega)]
 rfl
theorem qj (k:Nat):BB [(k:Int)]=[k]:=by simp[BB]
theorem kP (A:Option Addr) (n c k:Nat) (xs:List UInt8) (w:World) (hn:xs.length=n) (hnc:n≤c) (hcm:c≤maxLen) (hx:n≤3000) (hk:k≤2) (hA:BD w A xs) :
  Calls Tryz.prog 83 #[.slice (some ⟨w.heap.size,0,none⟩) 1 1,.slice (some ⟨w.heap.size+1,0,none⟩) 1 1] ((w.alloc (.cells #[.slice A n c] 23)).alloc (.cells #[.int .i64 (k:Int)] 3)) fun e w'=>
   (∃ v,e=.returned (.tuple #[v,.int .i64 0])∧w'.ownsRow w.heap.size 5 1 v (Cu [xs] [k]).length ((Cu [xs] [k]).map Eh))∧Below w.heap.size w w':=by
 have hb:Below w.heap.size w ((w.alloc (.cells #[.slice A n c] 23)).alloc (.cells #[.int .i64 (k:Int)] 3)):=((Below.refl _ _).alloc (Nat.le_refl _) _).alloc (by simp) _
 have h1:AX ((w.alloc (.cells #[.slice A n c] 23)).alloc (.cells #[.int .i64 (k:Int)] 3)) w.heap.size 23 #[.slice A n c]:=(AX.new w _ _).alloc _
 have h2:AX ((w.alloc (.cells #[.slice A n c] 23)).alloc (.cells #[.int .i64 (k:Int)] 3)) (w.heap.size+1) 3 #[.int .i64 (k:Int)]:=by
  have:=AX.new (w.alloc (.cells #[.slice A n c] 23)) 3 #[.int .i64 (k:Int)]
  rw[World.size_alloc]at this;exact this
 have he:=YT xs k (by omega) hk
 refine (kQ (some ⟨w.heap.size,0,none⟩) (some ⟨w.heap.size+1,0,none⟩) 1 1 1 1 [(.slice A n c,xs)] [(k:Int)] _ rfl rfl (by unfold maxLen;omega) (by unfold maxLen;omega) h1.kat.Ib ?_ ?_ ?_).mono ?_
 ·intro q hq
  rw[List.mem_singleton]at hq
  subst hq
  exact⟨A,c,by rw[hn],by rw[hn];exact hnc,hcm,hA.below hb⟩
 ·intro q hq
  rw[List.mem_singleton]at hq
  subst hq
  dsimp only
  omega
 ·exact h2.kat.Ib
 ·rintro e w' ⟨h,hb'⟩
  have hb2:Below w.heap.size w w':=hb.trans (hb'.mono hb.size)
  refine⟨?_,hb2⟩
  rcases h with ⟨h3,_⟩ | ⟨_,v,rfl,ho⟩
  ·exact absurd he h3
  ·rw[qj]at ho
   exact⟨v,rfl,Ai ho (by simp;omega)⟩
def Bg (xs:List UInt8):Nat→List UInt8×Nat
 | 0=>([],0)
 | k+1=>if k=0∨(Cu [xs] [k]).length < (Bg xs k).1.length then (Cu [xs] [k],k) else Bg xs k
theorem Gb (xs:List UInt8) (k:Nat) (h:k=0∨(Cu [xs] [k]).length < (Bg xs k).1.length):Bg xs (k+1)=(Cu [xs] [k],k):=by
 conv=>lhs;unfold Bg
 rw[if_pos h]
theorem Oe (xs:List UInt8) (k:Nat) (h:¬ (k=0∨(Cu [xs] [k]).length < (Bg xs k).1.length)):Bg xs (k+1)=Bg xs k:=by
 conv=>lhs;unfold Bg
 rw[if_neg h]
def ql (n:Nat) (xs:List UInt8) (w:World) (e:Ending) (w':World):Prop:=
  (3000 < n∧e=.returned (.tuple #[.slice none 0 0,.int .i64 0,.int .i64 2])∨
   n≤3000∧∃ v,e=.returned (.tuple #[v,.int .i64 ((Bg xs 3).2:Int),.int .i64 0])∧w'.ownsRow w.heap.size 5 1 v (Bg xs 3).1.length ((Bg xs 3).1.map Eh))∧Below w.heap.size w w'
set_option maxRecDepth 100000 in
set_option maxHeartbeats 1600000 in
theorem qm (A:Option Addr) (n c:Nat) (xs:List UInt8) (w:World) (hn:xs.length=n) (hnc:n≤c) (hcm:c≤maxLen) (hA:BD w A xs) :
  Calls Tryz.prog 62 #[.slice A n c] w (ql n xs w):=by
 have Hn:=Lib.hid hn
 have HA:=Lib.hid hA
 have Hcm:=Lib.hid hcm
 unfold maxLen at hcm
 clear hn hA
 go_enter Tryz.func62,Tryz.ntmps62
 by_cases h3:3000 < n
 ·have h3':(3000:Int) < (n:Int):=by omega
  go_wp2_with fail
  go_ret3
  exact⟨.inl ⟨h3,rfl⟩,Below.refl _ _⟩
 ·have h3':¬ (3000:Int) < (n:Int):=by omega
  have hle:n≤3000:=by omega
  clear h3
  go_wp2_with fail
  go_loopw [2,3,5] (fun vo vb vk wr=>∃ k:Nat,k≤3∧vk=.int .i64 (k:Int)∧vb=.int .i64 ((Bg xs k).2:Int)∧wr.ownsRow w.heap.size 5 1 vo (Bg xs k).1.length ((Bg xs k).1.map Eh)∧Below w.heap.size w wr) (fun _ _ vk _=>3 - (intOf vk).toNat)
  case atStart=>exact⟨0,by omega,rfl,rfl,World.ownsRow_nil ..,Below.refl _ _⟩
  case round=>
   obtain⟨k,hk,rfl,rfl,ho,hb⟩:=hrel
   have HO:=Lib.hid ho
   have Hb:=Lib.hid hb
   clear ho hb
   by_cases hlt:k < 3
   ·have hk2:(k:Int)≤2:=by omega
    have HP:=Lib.hid (kP A n c k xs wr Hn.out hnc Hcm.out hle (by omega) (HA.out.below Hb.out))
    have Hy:=Lib.hid (Gb xs k)
    have Hno:=Lib.hid (Oe xs k)
    go_wp2_with fail
    refine (HP.out).mono ?_
    rintro e w2 ⟨⟨v2,rfl,ho2⟩,hb2⟩
    have Cx:=Lib.hid (AP HO.out hb2)
    have Hb2:=Lib.hid (Hb.out.trans (hb2.mono Hb.out.size))
    have qo:=Lib.hid (Ai ho2 Hb.out.size)
    obtain⟨A2,c2,rfl,_⟩:=Ag ho2
    obtain⟨A1,c1,rfl,_⟩:=Ag HO.out
    clear ho2 hb2 HP HO Hb
    generalize Cu [xs] [k]=p at *
    generalize Bg xs k=s at *
    obtain⟨s1,s2⟩:=s
    dsimp only at Cx Hy Hno
    by_cases hc:k=0∨p.length < s1.length
    ·have He:=Lib.hid (Hy.out hc)
     by_cases hk0:k=0
     ·have hz:((k:Int) == 0)=true:=by simp;omega
      clear hc hk0 Hy Hno
      go_wp2_with fail
      go_roundw
      case rel=>exact⟨k+1,by omega,by go_num,by rw[He.out],by rw[He.out];exact qo.out,Hb2.out⟩
      case measure=>simp[intOf];omega
     ·have hz:((k:Int) == 0)=false:=by rw[beq_eq_false_iff_ne];omega
      have hl:(p.length:Int) < (s1.length:Int):=by omega
      clear hc hk0 Hy Hno
      go_wp2_with fail
      go_roundw
      case rel=>exact⟨k+1,by omega,by go_num,by rw[He.out],by rw[He.out];exact qo.out,Hb2.out⟩
      case measure=>simp[intOf];omega
    ·have He:=Lib.hid (Hno.out hc)
     have hz:((k:Int) == 0)=false:=by rw[beq_eq_false_iff_ne];omega
     have hl:¬ (p.length:Int) < (s1.length:Int):=by omega
     clear hc Hy Hno
     go_wp2_with fail
     go_roundw
     case rel=>exact⟨k+1,by omega,by go_num,by rw[He.out],by rw[He.out];exact Cx.out,Hb2.out⟩
     case measure=>simp[intOf];omega
   ·obtain rfl:k=3:=by omega
    have hk2:¬ ((3:Nat):Int)≤2:=by omega
    go_wp2_with fail
    go_ret3
    exact⟨.inr ⟨hle,_,rfl,HO.out⟩,Hb.out⟩
end Go.Proofs.YtabdianhoabhhaaGreatDoor.AX
namespace Go.Proofs.YtabdianhoabhhaaGreatDoor.M4
open Go Go.RowKit Go.Proofs.YtabdianhoabhhaaGreatDoor
set_option linter.unusedVariables false
theorem ty:Bo Tryz.prog 23 5 (.int .u8 0) 1 1:=⟨Tryz.underlying23,by kernel_rfl,rfl,by omega⟩
theorem DI (z:Array Value) (n:Nat):(Builtin.zeroCells z n).size=n*z.size:=by simp[Builtin.zeroCells]
set_option maxHeartbeats 400000 in
theorem MJ (n:Nat) (w:World) (hn:n*1≤140737488355328) :
  Calls Tryz.prog 57 #[.slice none 0 0,.int .i64 (n:Int)] w fun e w'=>∃ v,e=.returned v∧w'.ownsRow w.heap.size 5 1 v 0 []∧Below w.heap.size w w':=by
 by_cases h0:n=0
 ·subst h0
  go_enter Tryz.func57,Tryz.ntmps57
  go_wp2_with fail
  go_ret
  exact⟨_,rfl,World.ownsRow_nil _ _ _ _,Below.refl _ _⟩
 ·obtain⟨ht,i,hi,hz,hsize,hby,hzs,hsz⟩:=ty.parts
  have hpos:0 < n:=by omega
  have h1:¬ ((n:Int) < 0):=by omega
  have hp:(0:Int) < (n:Int):=by omega
  have AGJ:(n:Int)≤140737488355328:=by omega
  have hrun:=Lib.run_append_nil_zeros (P:=Tryz.prog) w 23 3 23 5 i (.int .u8 0) .i64 .i64 ht Tryz.underlying3 hi hz n hpos (by omega) (by omega) (by rw[hby];omega)
  have hcap:=grownCap_ge w n 0 5
  have hcm:=grownCap_le_maxLen w n 0 5 (by unfold maxLen;omega)
  have hsz2:(Builtin.zeroCells (Value.cells (.int .u8 0)) n++Builtin.zeroCells (Value.cells (.int .u8 0)) (grownCap w n 0 5 - n)).size=grownCap w n 0 5*1:=by
   rw[Array.size_append,DI,DI,hzs,←Nat.add_mul,Nat.add_sub_cancel' hcap]
  have hblk:(w.drew.alloc (.cells (Builtin.zeroCells (Value.cells (.int .u8 0)) n++Builtin.zeroCells (Value.cells (.int .u8 0)) (grownCap w n 0 5 - n)) 5)).heap[w.heap.size]?=some (.cells (Builtin.zeroCells (Value.cells (.int .u8 0)) n++Builtin.zeroCells (Value.cells (.int .u8 0)) (grownCap w n 0 5 - n)) 5 (0,0)):=heap_alloc_new w.drew _
  have hbel:Below w.heap.size w (w.drew.alloc (.cells (Builtin.zeroCells (Value.cells (.int .u8 0)) n++Builtin.zeroCells (Value.cells (.int .u8 0)) (grownCap w n 0 5 - n)) 5)):=((Below.refl _ _).drew).alloc (Nat.le_refl _) _
  generalize (w.drew.alloc (.cells (Builtin.zeroCells (Value.cells (.int .u8 0)) n++Builtin.zeroCells (Value.cells (.int .u8 0)) (grownCap w n 0 5 - n)) 5))=W at *
  generalize (Builtin.zeroCells (Value.cells (.int .u8 0)) n++Builtin.zeroCells (Value.cells (.int .u8 0)) (grownCap w n 0 5 - n))=cs at *
  generalize grownCap w n 0 5=cap at *
  have Sd:=Lib.hid hrun
  have Ou:=Lib.hid hsz2
  have Et:=Lib.hid hblk
  have tC:=Lib.hid hbel
  have hcm2:cap≤9223372036854775807:=by unfold maxLen at hcm;omega
  have Hcm:=Lib.hid hcm
  clear hrun hsz2 hblk hbel hi hz hsize hby hzs hsz ht hcm
  go_enter Tryz.func57,Tryz.ntmps57
  go_wp2_with (at_builtin;refine Lib.wpList_append_run _ rfl (.tmp 20) (.tmp 21) _ _ rfl _ _ rfl rfl _ _ Sd.out ?_)
  go_ret
  exact⟨_,rfl,Gv _ _ _ _ w.heap.size cap cs (Nat.le_refl _) Et.out Hcm.out Ou.out,tC.out⟩
def total (rows:List (Value×Nat×List Value)):Nat:=(rows.map (·.2.1)).sum
def cellsOf (rows:List (Value×Nat×List Value)):List Value:=(rows.map (·.2.2)).flatten
theorem Eu (rows:List (Value×Nat×List Value)) (k:Nat) (h:k < rows.length):total (rows.take (k+1))=total (rows.take k)+rows[k].2.1:=by
 unfold total;rw[BI _ _ h]
 simp only[List.map_append,List.map_cons,List.map_nil,List.sum_append,List.sum_cons,List.sum_nil,Nat.add_zero]
theorem GJ (rows:List (Value×Nat×List Value)) (k:Nat) (h:k < rows.length):cellsOf (rows.take (k+1))=cellsOf (rows.take k)++rows[k].2.2:=by
 unfold cellsOf;rw[BI _ _ h]
 simp only[List.map_append,List.map_cons,List.map_nil,List.flatten_append,List.flatten_cons,List.flatten_nil,List.append_nil]
theorem G7 (l:List Nat) (k:Nat):(l.take k).sum≤l.sum:=by
 induction l generalizing k with
 | nil=>simp
 | cons a l ih=>cases k with
  | zero=>simp
  | succ k=>simp only[List.take_succ_cons,List.sum_cons];have:=ih k;omega
theorem G8 (rows:List (Value×Nat×List Value)) (k:Nat):total (rows.take k)≤total rows:=by
 unfold total;rw[List.map_take];exact G7 _ _
set_option maxHeartbeats 800000 in
theorem I9 (A:Option Addr) (m c:Nat) (rows:List (Value×Nat×List Value)) (w:World) (hm:rows.length=m) (rJ:m≤4611686018427387904) (ha:AR w A (rows.map (·.1)))
  (hrows:∀ r∈rows,Od w 1 r.1 r.2.1 r.2.2) (h1:∀ r∈rows,∀ u∈r.2.2,u.oneCell'=true) (ht:total rows*1≤140737488355328) :
  Calls Tryz.prog 32 #[.slice A m c] w fun e w'=>∃ v,e=.returned v∧w'.ownsRow w.heap.size 5 1 v (total rows) (cellsOf rows)∧Below w.heap.size w w':=by
 have Hm:=Lib.hid hm
 have Ha:=Lib.hid ha
 have Qq:=Lib.hid hrows
 have H1:=Lib.hid h1
 have Ht:=Lib.hid ht
 clear hm ha hrows h1 ht
 go_enter Tryz.func32,Tryz.ntmps32
 go_wp2_with fail
 go_loop [3,11] (fun s i=>∃ k:Nat,k≤m∧i=.int .i64 k∧s=.int .i64 (total (rows.take k):Nat)) (fun _ i=>m - (intOf i).toNat)
 case atStart=>exact⟨0,Nat.zero_le _,rfl,rfl⟩
 case round=>
  obtain⟨k,hk,rfl,rfl⟩:=hrel
  by_cases hlt:k < m
  ·have hkr:k < rows.length:=by rw[Hm.out];exact hlt
   obtain⟨b,o,rfl,hcell⟩:=Ha.out.get (k:=k) (by simpa using hkr)
   obtain⟨B,cb,hv,hl1,hl2,hl3,hB,hB0⟩:=Qq.out rows[k] (List.getElem_mem hkr)
   simp only[List.getElem_map]at hcell
   rw[hv]at hcell
   have Hs:=Lib.hid (Eu rows k hkr)
   have htl:=G8 rows (k+1)
   rw[Hs.out]at htl
   have hb1:total (rows.take k)+rows[k].2.1≤140737488355328:=by have:=Ht.out;omega
   have hnn:0≤((total (rows.take k):Nat):Int)+((rows[k].2.1:Nat):Int):=by omega
   clear htl hB hB0 hl3 hv
   generalize total (rows.take k)=s0 at *
   generalize rows[k].2.1=n0 at *
   go_wp2_with fail
   go_round
   case rel=>exact⟨k+1,by omega,by go_num,by rw[Hs.out];go_num⟩
   case measure=>simp[intOf];omega
  ·have hk2:k=m:=by omega
   have FU:Hid (rows.take k=rows):=Lib.hid (List.take_of_length_le (by rw[Hm.out];omega))
   rw[FU.out]
   have htt:total rows≤140737488355328:=by have:=Ht.out;omega
   obtain⟨T,hT⟩:∃ T,T=total rows:=⟨_,rfl⟩
   rw[←hT]at htt⊢
   have HT:=Lib.hid hT
   clear hT FU hk2
   go_wp2_with fail
   refine (MJ T _ (by rw[HT.out];exact Ht.out)).mono ?_
   rintro e w1 ⟨v1,rfl,hown1,hb1⟩
   have Ho:=Lib.hid hown1
   have Hb:=Lib.hid hb1
   clear hown1 hb1
   go_wp2_with fail
   go_loopw [6,27] (fun s i wr=>∃ k:Nat,k≤m∧i=.int .i64 k∧wr.ownsRow w.heap.size 5 1 s (total (rows.take k)) (cellsOf (rows.take k))∧Below w.heap.size w wr) (fun _ i _=>m - (intOf i).toNat)
   case atStart=>exact⟨0,Nat.zero_le _,rfl,Ho.out,Hb.out⟩
   case round=>
    obtain⟨k,hk,rfl,hown,hbr⟩:=hrel
    rename_i v3 _ _ _ _ _ _ _ _ _
    have How:=Lib.hid hown
    have Gf:=Lib.hid hbr
    by_cases hlt:k < m
    ·have hkr:k < rows.length:=by rw[Hm.out];exact hlt
     obtain⟨b,o,rfl,hcell⟩:=(Ha.out.below hbr).get (k:=k) (by simpa using hkr)
     obtain⟨B,cb,hv,hl1,hl2,hl3,hB,hB0⟩:=(Qq.out rows[k] (List.getElem_mem hkr)).below hbr
     simp only[List.getElem_map]at hcell
     rw[hv]at hcell
     have Hs:=Lib.hid (Eu rows k hkr)
     have Hcs:=Lib.hid (GJ rows k hkr)
     have htl:=G8 rows (k+1)
     rw[Hs.out]at htl
     have hb1:total (rows.take k)+rows[k].2.1≤maxLen∧(total (rows.take k)+rows[k].2.1)*1≤140737488355328:=by
      have:=Ht.out;unfold maxLen;omega
     have HB:=Lib.hid hB
     have HB0:=Lib.hid hB0
     have ax:=Lib.hid hl3
     have Lg:=Lib.hid (H1.out rows[k] (List.getElem_mem hkr))
     have Hb1:=Lib.hid hb1
     clear htl hv hB hB0 hl3 hb1 hown hbr
     go_wp2_with (at_builtin;refine Lu rfl (.tmp 31) (.tmp 32) _ rfl 5 _ 1 1 ty _ _ _ rfl How.out Gf.out B _ cb _ rfl ax.out HB.out Lg.out HB0.out Hb1.out.1 Hb1.out.2 ?_;intro v4 w4 DD hb4 _ _;have tF:=Lib.hid DD;have Hb4:=Lib.hid hb4;clear DD hb4)
     go_roundw
     case rel=>exact⟨k+1,by omega,by go_num,by rw[Hs.out,Hcs.out];exact tF.out,Hb4.out⟩
     case measure=>simp[intOf];omega
    ·have FU:Hid (rows.take k=rows):=Lib.hid (List.take_of_length_le (by rw[Hm.out];omega))
     go_wp2_with fail
     go_ret
     exact⟨_,rfl,by have:=How.out;rw[FU.out]at this;exact this,Gf.out⟩
end Go.Proofs.YtabdianhoabhhaaGreatDoor.M4
namespace Go.Proofs.YtabdianhoabhhaaGreatDoor
open Go Go.RowKit
set_option linter.unusedVariables false
theorem cK {w:World} {A:Option Addr} {n c:Nat} {xs:List UInt8} (h:BD w A xs) (hn:xs.length=n) (hnc:n≤c) (hc:c≤maxLen):Od w 1 (.slice A n c) n (xs.map Eh):=by
 refine⟨A,c,rfl,hnc,hc,by rw[List.length_map,hn,Nat.mul_one],h,fun h0=>?_⟩
 rcases Nat.eq_zero_or_pos n with h1 | h1
 ·exact h1
 ·obtain⟨b,o,e,_⟩:=h (by rw[List.length_map];omega)
  rw[h0]at e;cases e
def ADK (q:Value×List UInt8):Value×Nat×List Value:=(q.1,q.2.length,q.2.map Eh)
theorem kz (l:List (Value×List UInt8)):M4.total (l.map ADK)=(l.map (·.2)).flatten.length:=by
 induction l with
 | nil=>rfl
 | cons q l ih=>
  unfold M4.total at ih⊢
  simp only[List.map_cons,List.sum_cons,List.flatten_cons,List.length_append]
  rw[ih];rfl
theorem lC (l:List (Value×List UInt8)):M4.cellsOf (l.map ADK)=(l.map (·.2)).flatten.map Eh:=by
 induction l with
 | nil=>rfl
 | cons q l ih=>
  unfold M4.cellsOf at ih⊢
  simp only[List.map_cons,List.flatten_cons,List.map_append]
  rw[ih];rfl
theorem Om (A:Option Addr) (m c:Nat) (l:List (Value×List UInt8)) (ys:List UInt8) (w:World) (hm:l.length=m) (rJ:m≤4611686018427387904) (ha:AR w A (l.map (·.1))) (hd:∀ q∈l,Au w q.1 q.2) (hy:(l.map (·.2)).flatten=ys) (ht:ys.length≤140737488355328) :
  Calls Tryz.prog 32 #[.slice A m c] w fun e w'=>(∃ v,e=.returned v∧w'.ownsRow w.heap.size 5 1 v ys.length (ys.map Eh))∧Below w.heap.size w w':=by
 have e1:=kz l
 have e2:=lC l
 rw[hy]at e1 e2
 refine (M4.I9 A m c (l.map ADK) w (by rw[List.length_map,hm]) rJ (by rw[List.map_map];exact ha) ?_ ?_ (by rw[e1];omega)).mono ?_
 ·intro r hr
  obtain⟨q,hq,rfl⟩:=List.mem_map.1 hr
  obtain⟨A',c',h1,h2,h3,h4⟩:=hd q hq
  show Od w 1 q.1 q.2.length (q.2.map Eh)
  rw[h1]
  exact cK h4 rfl h2 h3
 ·intro r hr
  obtain⟨q,hq,rfl⟩:=List.mem_map.1 hr
  exact Ia q.2
 ·rintro e w' ⟨v,rfl,ho,hb⟩
  rw[e1,e2]at ho
  exact⟨⟨v,rfl,ho⟩,hb⟩
end Go.Proofs.YtabdianhoabhhaaGreatDoor
namespace Go.Proofs.YtabdianhoabhhaaGreatDoor.Name
open Go
def AQ (l:List UInt8):ByteArray:=⟨l.toArray⟩
theorem Ej (l:List UInt8):(AQ l).data.toList=l:=by simp[AQ]
theorem Dz (l:List UInt8):(AQ l).size=l.length:=rfl
theorem TA {a b:List UInt8} (h:AQ a=AQ b):a=b:=by rw[←Ej a,h,Ej]
theorem Ze (l:List UInt8):(AQ l).toList=l:=by rw[Lib.toList_data,Ej]
theorem O9 (l:List UInt8) (a b:Nat):(AQ l).extract a b=AQ ((l.drop a).take (b - a)):=by
 apply ByteArray.ext
 simp[AQ]
def parts:List UInt8→List (List UInt8)
 | []=>[[]]
 | c :: l=>if c=47 then [] :: parts l else match parts l with | []=>[[c]] | p :: ps=>(c :: p) :: ps
theorem Qy (l:List UInt8) (h:(47:UInt8)∉l):parts l=[l]:=by
 induction l with
 | nil=>rfl
 | cons c l ih=>
  simp only[List.mem_cons,not_or]at h
  unfold parts
  rw[if_neg (fun e=>h.1 e.symm),ih h.2]
theorem Vw (p r:List UInt8) (h:(47:UInt8)∉p):parts (p++47 :: r)=p :: parts r:=by
 induction p with
 | nil=>simp[parts]
 | cons c p ih=>
  simp only[List.mem_cons,not_or]at h
  rw[List.cons_append]
  conv=>lhs;unfold parts
  rw[if_neg (fun e=>h.1 e.symm),ih h.2]
theorem nW (l:List UInt8):(parts l).length≤l.length+1:=by
 induction l with
 | nil=>simp[parts]
 | cons c l ih=>
  unfold parts
  split
  ·simp;omega
  ·split
   ·simp
   ·rename_i hp;rw[hp]at ih;simp at ih⊢;omega
theorem nX (l:List UInt8) (p:List UInt8) (hp:p∈parts l):p.length≤l.length:=by
 induction l generalizing p with
 | nil=>simp[parts]at hp;subst hp;simp
 | cons c l ih=>
  unfold parts at hp
  split at hp
  ·rcases List.mem_cons.1 hp with rfl | hp
   ·simp
   ·have:=ih p hp;simp;omega
  ·split at hp
   ·simp at hp;subst hp;simp
   ·rename_i q qs hq
    rcases List.mem_cons.1 hp with rfl | hp
    ·have:=ih q (by rw[hq];simp);simp;omega
    ·have:=ih p (by rw[hq];simp[hp]);simp;omega
theorem Mi:∀ (n:Nat) (l:List UInt8),l.length≤n→Lib.splitB (AQ [47]) 0 (Lib.countB (AQ l) (AQ [47])) (AQ l)=(parts l).map AQ
 | n,l,hn=>by
  have e1:Lib.indexB (AQ l) (AQ [47])=Lib.indexByte l 47:=by
   show Lib.index _ _=_
   rw[Ej,Ej,Lib.index_one]
  rcases Lib.indexB_cases (AQ l) (AQ [47]) with h | ⟨i,h,hi⟩
  ·rw[Lib.splitB_miss _ _ _ _ h]
   rw[e1]at h
   have hno:=Lib.indexByte_none h
   have:(47:UInt8)∉l:=fun hm=>by
    obtain⟨k,hk⟩:=List.mem_iff_getElem?.1 hm
    exact hno k hk
   rw[Qy l this];rfl
  ·rw[Lib.countB_hit _ _ i (by decide) h,Nat.add_comm,Lib.splitB_hit _ _ _ _ i h]
   rw[e1]at h
   obtain⟨h1,h2⟩:=Lib.indexByte_some h
   rw[Dz,Dz]at hi
   have hi':i < l.length:=by simp at hi;omega
   have hl:l=l.take i++47 :: l.drop (i+1):=by
    have hg:l[i]=47:=by rw[List.getElem?_eq_getElem hi']at h1;exact Option.some.inj h1
    conv=>lhs;rw[←List.take_append_drop i l,List.drop_eq_getElem_cons hi',hg]
   have hno:(47:UInt8)∉l.take i:=fun hm=>by
    obtain⟨k,hk⟩:=List.mem_iff_getElem?.1 hm
    rw[List.getElem?_take]at hk
    split at hk
    ·rename_i hki;exact h2 k hki hk
    ·cases hk
   have ex:(AQ l).extract (i+(AQ [47]).size) (AQ l).size=AQ (l.drop (i+1)):=by
    rw[O9,Dz,Dz]
    congr 1
    exact List.take_of_length_le (by simp)
   have ex2:(AQ l).extract 0 (i+0)=AQ (l.take i):=by rw[O9];simp
   rw[ex,ex2]
   match n,hn with
   | 0,hn=>omega
   | n+1,hn=>
    rw[Mi n (l.drop (i+1)) (by simp;omega)]
    conv=>rhs;rw[hl,Vw _ _ hno]
    rfl
theorem Zd (l:List UInt8):Lib.countB (AQ l) (AQ [47])+1=(parts l).length:=by
 have h1:=Lib.splitB_all (AQ [47]) (by decide) 0 _ (AQ l) rfl
 rw[Mi l.length l (Nat.le_refl _),List.length_map]at h1
 exact h1.symm
def GQ (c:UInt8):Bool:=(decide (97≤c.toNat) && decide (c.toNat≤122)) || ((decide (65≤c.toNat) && decide (c.toNat≤90)) || ((decide (48≤c.toNat) && decide (c.toNat≤57)) || decide (0≤Lib.indexByte [46,95,45] c)))
def D7 (p:List UInt8):Bool:=p.any (fun c=>!GQ c) || (decide (p=[]) || (decide (p=[46]) || decide (p=[46,46])))
def Cc (l:List UInt8):Int:=if 40 < l.length then 2 else if (parts l).any D7=true then 1 else 0
theorem Tc {l:List UInt8} (h:Cc l=0):l.length≤40∧∀ p∈parts l,D7 p=false:=by
 unfold Cc at h
 split at h
 ·omega
 ·split at h
  ·omega
  ·rename_i h1 h2
   refine⟨by omega,fun p hp=>?_⟩
   rw[Bool.not_eq_true,List.any_eq_false]at h2
   simpa using h2 p hp
end Go.Proofs.YtabdianhoabhhaaGreatDoor.Name
namespace Go.Proofs.YtabdianhoabhhaaGreatDoor.Merge
open Go
set_option linter.unusedVariables false
abbrev cb:=Lib.compareBytes
abbrev ci:=Lib.compareInt
theorem TU {a b:UInt8}:a < b↔a.toNat < b.toNat:=UInt8.lt_iff_toNat_lt
theorem ACQ {a b:UInt8} (h:a.toNat=b.toNat):a=b:=UInt8.toNat_inj.1 h
theorem AAt (a:List UInt8):cb a a=0:=by
 induction a with
 | nil=>rfl
 | cons x a ih=>simp only[cb,Lib.compareBytes];rw[if_neg (by rw[TU];omega),if_neg (by rw[TU];omega)];exact ih
theorem eF (a b:List UInt8):cb b a=- cb a b:=by
 induction a generalizing b with
 | nil=>cases b <;> rfl
 | cons x a ih=>
  cases b with
  | nil=>rfl
  | cons y b=>
   simp only[cb,Lib.compareBytes]
   by_cases h1:x < y
   ·rw[if_neg (by rw[TU]at *;omega),if_pos h1,if_pos h1];rfl
   ·by_cases h2:y < x
    ·rw[if_pos h2,if_neg h1,if_pos h2]
    ·rw[if_neg h2,if_neg h1,if_neg h1,if_neg h2];exact ih b
theorem ACR {a b:List UInt8} (h:cb a b=0):a=b:=by
 induction a generalizing b with
 | nil=>
  cases b with
  | nil=>rfl
  | cons y b=>simp[cb,Lib.compareBytes]at h
 | cons x a ih=>
  cases b with
  | nil=>simp[cb,Lib.compareBytes]at h
  | cons y b=>
   simp only[cb,Lib.compareBytes]at h
   by_cases h1:x < y
   ·rw[if_pos h1]at h;simp at h
   ·rw[if_neg h1]at h
    by_cases h2:y < x
    ·rw[if_pos h2]at h;simp at h
    ·rw[if_neg h2]at h
     rw[ih h,ACQ (a:=x) (b:=y) (by rw[TU]at *;omega)]
theorem vv {a b c:List UInt8} (h1:cb a b≤0) (h2:cb b c≤0):cb a c≤0:=by
 induction a generalizing b c with
 | nil=>cases c <;> simp[cb,Lib.compareBytes]
 | cons x a ih=>
  cases b with
  | nil=>simp[cb,Lib.compareBytes]at h1
  | cons y b=>
   cases c with
   | nil=>simp[cb,Lib.compareBytes]at h2
   | cons z c=>
    simp only[cb,Lib.compareBytes,TU]at *
    by_cases g1:x.toNat < y.toNat
    ·by_cases g2:y.toNat < z.toNat
     ·rw[if_pos (by omega)];omega
     ·rw[if_neg g2]at h2
      by_cases g3:z.toNat < y.toNat
      ·rw[if_pos g3]at h2;omega
      ·rw[if_pos (by omega)];omega
    ·rw[if_neg g1]at h1
     by_cases g1':y.toNat < x.toNat
     ·rw[if_pos g1']at h1;omega
     ·rw[if_neg g1']at h1
      by_cases g2:y.toNat < z.toNat
      ·rw[if_pos (by omega)];omega
      ·rw[if_neg g2]at h2
       by_cases g3:z.toNat < y.toNat
       ·rw[if_pos g3]at h2;omega
       ·rw[if_neg g3]at h2
        rw[if_neg (by omega),if_neg (by omega)]
        exact ih h1 h2
theorem Rp (a b:List UInt8):Op.bytesLess a b=decide (cb a b < 0):=by
 induction a generalizing b with
 | nil=>cases b <;> simp[cb,Lib.compareBytes,Op.bytesLess]
 | cons x a ih=>
  cases b with
  | nil=>simp[cb,Lib.compareBytes,Op.bytesLess]
  | cons y b=>
   simp only[cb,Lib.compareBytes,Op.bytesLess]
   by_cases g1:x < y
   ·simp[g1]
   ·by_cases g2:y < x
    ·have:(x == y)=false:=by rw[beq_eq_false_iff_ne];rintro rfl;rw[TU]at g2;omega
     simp[g1,g2,this]
    ·have:x=y:=ACQ (by rw[TU]at *;omega)
     subst this
     simp[g1,ih]
structure nO {α:Type} (f:α→α→Int):Prop where
 neg:∀ a b,f b a=- f a b
 trans:∀ {a b c},f a b≤0→f b c≤0→f a c≤0
def dx (x y:Int):Int:=if x≠0 then x else y
theorem nO.refl {α:Type} {f:α→α→Int} (h:nO f) (a:α):f a a=0:=by have:=h.neg a a;omega
theorem nO.wB {α:Type} {f:α→α→Int} (h:nO f) {a b c:α} (h1:f a b < 0) (h2:f b c≤0):f a c < 0:=by
 have h3:=h.trans (Int.le_of_lt h1) h2
 rcases (by omega:f a c < 0∨f a c=0) with h4 | h4
 ·exact h4
 ·have h5:f c a≤0:=by rw[h.neg a c];omega
  have h6:=h.trans h2 h5
  rw[h.neg a b]at h6;omega
theorem wC {α:Type} (k:α→List UInt8):nO (fun a b=>cb (k a) (k b)):=⟨fun a b=>eF _ _,fun {a b c} h1 h2=>vv h1 h2⟩
theorem IE {a b c:List UInt8} (h1:cb a b < 0) (h2:cb b c < 0):cb a c < 0:=(wC (fun x=>x)).wB h1 (Int.le_of_lt h2)
structure Fl where
 name:List UInt8
 bytes:List UInt8
 stamp:Int
 node:Int
 gone:Bool
theorem Fl.eq {a b:Fl} (h1:a.name=b.name) (h2:a.bytes=b.bytes) (h3:a.stamp=b.stamp) (h4:a.node=b.node) (h5:a.gone=b.gone):a=b:=by
 cases a;cases b;simp_all
def gi (b:Bool):Int:=if b=true then 1 else 0
def later (a b:Fl):Int:=dx (ci a.stamp b.stamp) (dx (ci a.node b.node) (dx (ci (gi a.gone) (gi b.gone)) (cb a.bytes b.bytes)))
def Gl (a b:Fl):Fl:=if later a b < 0 then b else a
theorem Vt {a b:Fl} (h:a.name=b.name):(Gl a b).name=a.name:=by unfold Gl;split <;> simp[h]
theorem AAw (a b:Fl):Gl a b=a∨Gl a b=b:=by unfold Gl;split <;> simp
def lk (l:List Fl) (n:List UInt8):Option Fl:=l.find? fun f=>decide (f.name=n)
def Pj (l:List Fl):Prop:=l.Pairwise fun a b=>cb a.name b.name < 0
theorem eP (n:List UInt8):lk [] n=none:=rfl
theorem EH (f:Fl) (l:List Fl) (n:List UInt8):lk (f :: l) n=if f.name=n then some f else lk l n:=by
 unfold lk
 by_cases h:f.name=n
 ·rw[List.find?_cons_of_pos (by simpa using h),if_pos h]
 ·rw[List.find?_cons_of_neg (by simpa using h),if_neg h]
theorem Ky {l:List Fl} {n:List UInt8}:lk l n=none↔∀ f∈l,f.name≠n:=by
 unfold lk;rw[List.find?_eq_none];simp
theorem TY {a b:List UInt8} (h:cb a b < 0):a≠b:=by rintro rfl;rw[AAt]at h;omega
def jo:Option Fl→Option Fl→Option Fl
 | none,y=>y
 | some a,none=>some a
 | some a,some b=>some (Gl a b)
theorem jT (x:Option Fl):jo x none=x:=by cases x <;> rfl
def CJ:List Fl→List Fl→List Fl
 | [],b=>b
 | x :: a,[]=>x :: a
 | x :: a,y :: b=>if cb x.name y.name < 0 then x :: CJ a (y :: b) else if 0 < cb x.name y.name then y :: CJ (x :: a) b else Gl x y :: CJ a b
termination_by a b=>a.length+b.length
theorem FV (b:List Fl):CJ [] b=b:=by rw[CJ]
theorem NI (a:List Fl):CJ a []=a:=by cases a <;> rw[CJ]
theorem Rm {x y:Fl} (a b:List Fl) (h:cb x.name y.name < 0):CJ (x :: a) (y :: b)=x :: CJ a (y :: b):=by rw[CJ,if_pos h]
theorem Rn {x y:Fl} (a b:List Fl) (h:0 < cb x.name y.name):CJ (x :: a) (y :: b)=y :: CJ (x :: a) b:=by rw[CJ,if_neg (by omega),if_pos h]
theorem Ro {x y:Fl} (a b:List Fl) (h:cb x.name y.name=0):CJ (x :: a) (y :: b)=Gl x y :: CJ a b:=by rw[CJ,if_neg (by omega),if_neg (by omega)]
theorem wE:∀ (k:Nat) (a b:List Fl),a.length+b.length≤k→∀ f∈CJ a b,f∈a∨f∈b:=by
 intro k
 induction k with
 | zero=>
  intro a b hk f hf
  have ha:a=[]:=List.eq_nil_of_length_eq_zero (by omega)
  subst ha;rw[FV]at hf;exact .inr hf
 | succ k ih=>
  intro a b hk f hf
  cases a with
  | nil=>rw[FV]at hf;exact .inr hf
  | cons x a=>
   cases b with
   | nil=>rw[NI]at hf;exact .inl hf
   | cons y b=>
    simp only[List.length_cons]at hk
    rcases (by omega:cb x.name y.name < 0∨0 < cb x.name y.name∨cb x.name y.name=0) with h | h | h
    ·rw[Rm a b h]at hf
     rcases List.mem_cons.1 hf with rfl | hf
     ·simp
     ·rcases ih a (y :: b) (by simp;omega) f hf with h | h
      ·simp[h]
      ·exact .inr h
    ·rw[Rn a b h]at hf
     rcases List.mem_cons.1 hf with rfl | hf
     ·simp
     ·rcases ih (x :: a) b (by simp;omega) f hf with h | h
      ·exact .inl h
      ·simp[h]
    ·rw[Ro a b h]at hf
     rcases List.mem_cons.1 hf with rfl | hf
     ·rcases AAw x y with h | h <;> rw[h] <;> simp
     ·rcases ih a b (by omega) f hf with h | h <;> simp[h]
theorem Rs {a b:List Fl} {f:Fl} (h:f∈CJ a b):f∈a∨f∈b:=wE _ a b (Nat.le_refl _) f h
theorem Zb:∀ (k:Nat) (a b:List Fl),a.length+b.length≤k→Pj a→Pj b→Pj (CJ a b)∧∀ n,lk (CJ a b) n=jo (lk a n) (lk b n):=by
 intro k
 induction k with
 | zero=>
  intro a b hk ha hb
  have h1:a=[]:=List.eq_nil_of_length_eq_zero (by omega)
  subst h1;rw[FV];exact⟨hb,fun n=>rfl⟩
 | succ k ih=>
  intro a b hk ha hb
  cases a with
  | nil=>rw[FV];exact⟨hb,fun n=>rfl⟩
  | cons x a=>
   cases b with
   | nil=>rw[NI];exact⟨ha,fun n=>by rw[eP,jT]⟩
   | cons y b=>
    simp only[List.length_cons]at hk
    obtain⟨a1,a2⟩:=List.pairwise_cons.1 ha
    obtain⟨b1,b2⟩:=List.pairwise_cons.1 hb
    rcases (by omega:cb x.name y.name < 0∨0 < cb x.name y.name∨cb x.name y.name=0) with h | h | h
    ·rw[Rm a b h]
     obtain⟨i1,i2⟩:=ih a (y :: b) (by simp;omega) a2 hb
     refine⟨List.pairwise_cons.2 ⟨fun f hf=>?_,i1⟩,fun n=>?_⟩
     ·rcases Rs hf with h2 | h2
      ·exact a1 f h2
      ·rcases List.mem_cons.1 h2 with rfl | h2
       ·exact h
       ·exact IE h (b1 f h2)
     ·rw[EH,i2,EH x a]
      by_cases e:x.name=n
      ·rw[if_pos e,if_pos e]
       have:lk (y :: b) n=none:=Ky.2 fun f hf=>by
        subst e
        rcases List.mem_cons.1 hf with rfl | hf
        ·exact (TY h).symm
        ·exact (TY (IE h (b1 f hf))).symm
       rw[this];rfl
      ·rw[if_neg e,if_neg e]
    ·have h':cb y.name x.name < 0:=by rw[eF x.name y.name];omega
     rw[Rn a b h]
     obtain⟨i1,i2⟩:=ih (x :: a) b (by simp;omega) ha b2
     refine⟨List.pairwise_cons.2 ⟨fun f hf=>?_,i1⟩,fun n=>?_⟩
     ·rcases Rs hf with h2 | h2
      ·rcases List.mem_cons.1 h2 with rfl | h2
       ·exact h'
       ·exact IE h' (a1 f h2)
      ·exact b1 f h2
     ·rw[EH,i2,EH y b]
      by_cases e:y.name=n
      ·rw[if_pos e,if_pos e]
       have:lk (x :: a) n=none:=Ky.2 fun f hf=>by
        subst e
        rcases List.mem_cons.1 hf with rfl | hf
        ·exact (TY h').symm
        ·exact (TY (IE h' (a1 f hf))).symm
       rw[this];rfl
      ·rw[if_neg e,if_neg e]
    ·have hxy:=ACR h
     rw[Ro a b h]
     obtain⟨i1,i2⟩:=ih a b (by omega) a2 b2
     refine⟨List.pairwise_cons.2 ⟨fun f hf=>?_,i1⟩,fun n=>?_⟩
     ·rw[Vt hxy]
      rcases Rs hf with h2 | h2
      ·exact a1 f h2
      ·rw[hxy];exact b1 f h2
     ·rw[EH,i2,EH x a,EH y b,Vt hxy]
      by_cases e:x.name=n
      ·rw[if_pos e,if_pos e,if_pos (hxy▸e)];rfl
      ·rw[if_neg e,if_neg e,if_neg (fun e2=>e (hxy.trans e2))]
theorem Eg {a b:List Fl} (ha:Pj a) (hb:Pj b):Pj (CJ a b):=(Zb _ a b (Nat.le_refl _) ha hb).1
def ET (f:Fl):Int:=
 if Name.Cc f.name≠0 then Name.Cc f.name else if 3000 < f.bytes.length then 2 else if f.stamp < 0∨1000000 < f.stamp∨f.node < 0∨4≤f.node then 3 else if f.gone=true∧f.bytes≠[] then 4 else 0
def za:Option (List UInt8)→List UInt8→Bool
 | none,_=>true
 | some q,n=>decide (cb q n < 0)
def QM:Option (List UInt8)→List Fl→Int
 | _,[]=>0
 | p,f :: l=>if ET f≠0 then ET f else if za p f.name=false then 4 else QM (some f.name) l
def Be (l:List Fl):Int:=if 12 < l.length then 2 else QM none l
theorem AAx (p:Option (List UInt8)) (l:List Fl):QM p l=0↔(∀ f∈l,ET f=0)∧Pj l∧(∀ q,p=some q→∀ f∈l,cb q f.name < 0):=by
 induction l generalizing p with
 | nil=>simp[QM,Pj]
 | cons f l ih=>
  simp only[QM]
  by_cases h1:ET f=0
  ·rw[if_neg (by simpa using h1)]
   by_cases h2:za p f.name=false
   ·rw[if_pos h2]
    constructor
    ·intro h;simp at h
    ·rintro⟨_,_,h3⟩
     cases p with
     | none=>cases h2
     | some q=>exact absurd (h3 q rfl f (by simp)) (by simpa [za] using h2)
   ·rw[if_neg h2,ih]
    constructor
    ·rintro⟨g1,g2,g3⟩
     refine⟨?_,List.pairwise_cons.2 ⟨fun x hx=>g3 _ rfl x hx,g2⟩,?_⟩
     ·intro x hx
      rcases List.mem_cons.1 hx with rfl | hx
      ·exact h1
      ·exact g1 x hx
     ·intro q hq x hx
      subst hq
      have hqf:cb q f.name < 0:=by simpa [za] using h2
      rcases List.mem_cons.1 hx with rfl | hx
      ·exact hqf
      ·exact IE hqf (g3 _ rfl x hx)
    ·rintro⟨g1,g2,g3⟩
     obtain⟨k1,k2⟩:=List.pairwise_cons.1 g2
     refine⟨fun x hx=>g1 x (by simp[hx]),k2,?_⟩
     intro q hq x hx
     injection hq with hq
     subst hq
     exact k1 x hx
  ·rw[if_pos h1]
   constructor
   ·intro h;exact absurd h h1
   ·rintro⟨g,_,_⟩;exact absurd (g f (by simp)) h1
theorem NH {l:List Fl}:Be l=0↔l.length≤12∧(∀ f∈l,ET f=0)∧Pj l:=by
 unfold Be
 split
 ·constructor
  ·intro h;simp at h
  ·intro h;omega
 ·rw[AAx]
  constructor
  ·rintro⟨a,b,_⟩;exact⟨by omega,a,b⟩
  ·rintro⟨_,a,b⟩;exact⟨a,b,fun q hq=>by cases hq⟩
def Br (a b:List Fl):Int×List Fl:=
 if Be a≠0 then (Be a,[]) else if Be b≠0 then (Be b,[]) else if 12 < (CJ a b).length then (11,[]) else (0,CJ a b)
theorem uB {a b l:List Fl} (h:Br a b=(0,l)):Be a=0∧Be b=0∧l=CJ a b∧l.length≤12:=by
 unfold Br at h
 by_cases h1:Be a=0
 ·rw[if_neg (by simpa using h1)]at h
  by_cases h2:Be b=0
  ·rw[if_neg (by simpa using h2)]at h
   split at h
   ·simp at h
   ·injection h with _ h;subst h;exact⟨h1,h2,rfl,by omega⟩
  ·rw[if_pos h2]at h;injection h with h;exact absurd h h2
 ·rw[if_pos h1]at h;injection h with h;exact absurd h h1
theorem Sz {a b:List Fl} (h1:Be a=0) (h2:Be b=0) (h3:(CJ a b).length≤12):Br a b=(0,CJ a b):=by
 unfold Br;rw[if_neg (by simpa using h1),if_neg (by simpa using h2),if_neg (by omega)]
theorem uC {a b:List Fl} (h1:Be a=0) (h2:Be b=0) (h3:(CJ a b).length≤12):Be (CJ a b)=0:=by
 rw[NH]at *
 refine⟨h3,fun f hf=>?_,Eg h1.2.2 h2.2.2⟩
 rcases Rs hf with h | h
 ·exact h1.2.1 f h
 ·exact h2.2.1 f h
end Go.Proofs.YtabdianhoabhhaaGreatDoor.Merge
namespace Go.Proofs
open Go.Shelf
def YtabdianhoabhhaaGreatDoor.Zx:Go.Shelf.Ren:=⟨fun | 146=>70 | 221=>92 | 268=>126 | 138=>127 | 143=>128 | 195=>167 | 197=>130 | 218=>168 | 219=>169 | 260=>170 | 217=>166 | 225=>207 | 224=>208 | 267=>209 | 266=>206 | 314=>235 | n=>n,fun | 9=>9 | 31=>47 | 3=>3 | 4=>4 | 0=>0 | 105=>182 | 21=>21 | 5=>5 | 46=>59 | 119=>266 | 139=>269 | 138=>268 | 146=>271 | 51=>41 | n=>n,fun | 1=>0 | 3=>1 | 4=>2 | n=>n⟩
theorem YtabdianhoabhhaaGreatDoor.AAy:Go.Proofs.Lays.n146 Tryz.prog YtabdianhoabhhaaGreatDoor.Zx:={
 mixed:=by kernel_rfl
 f138:=Tryz.func127.trans (congrArg some (by kernel_rfl))
 f143:=Tryz.func128.trans (congrArg some (by kernel_rfl))
 f146:=Tryz.func70.trans (congrArg some (by kernel_rfl))
 f195:=Tryz.func167.trans (congrArg some (by kernel_rfl))
 f197:=Tryz.func130.trans (congrArg some (by kernel_rfl))
 f217:=Tryz.func166.trans (congrArg some (by kernel_rfl))
 f218:=Tryz.func168.trans (congrArg some (by kernel_rfl))
 f219:=Tryz.func169.trans (congrArg some (by kernel_rfl))
 f221:=Tryz.func92.trans (congrArg some (by kernel_rfl))
 f224:=Tryz.func208.trans (congrArg some (by kernel_rfl))
 f225:=Tryz.func207.trans (congrArg some (by kernel_rfl))
 f260:=Tryz.func170.trans (congrArg some (by kernel_rfl))
 f266:=Tryz.func206.trans (congrArg some (by kernel_rfl))
 f267:=Tryz.func209.trans (congrArg some (by kernel_rfl))
 f268:=Tryz.func126.trans (congrArg some (by kernel_rfl))
 f314:=Tryz.func235.trans (congrArg some (by kernel_rfl))
 t0:=Tryz.underlying0
 a0:=Tryz.isAgg0
 z0:=Tryz.sizeOf0
 v0:=Tryz.zeroValue0
 t3:=Tryz.underlying3
 a3:=Tryz.isAgg3
 z3:=Tryz.sizeOf3
 v3:=Tryz.zeroValue3
 t4:=Tryz.underlying4
 a4:=Tryz.isAgg4
 z4:=Tryz.sizeOf4
 v4:=Tryz.zeroValue4
 t5:=Tryz.underlying5
 a5:=Tryz.isAgg5
 z5:=Tryz.sizeOf5
 v5:=Tryz.zeroValue5
 t9:=Tryz.underlying9
 a9:=Tryz.isAgg9
 z9:=Tryz.sizeOf9
 v9:=Tryz.zeroValue9
 t21:=Tryz.underlying21
 a21:=Tryz.isAgg21
 z21:=Tryz.sizeOf21
 v21:=Tryz.zeroValue21
 t31:=Tryz.underlying47
 a31:=Tryz.isAgg47
 z31:=Tryz.sizeOf47
 v31:=Tryz.zeroValue47
 t46:=Tryz.underlying59
 a46:=Tryz.isAgg59
 z46:=Tryz.sizeOf59
 v46:=Tryz.zeroValue59
 t51:=Tryz.underlying41
 a51:=Tryz.isAgg41
 z51:=Tryz.sizeOf41
 v51:=Tryz.zeroValue41
 t105:=Tryz.underlying182
 a105:=Tryz.isAgg182
 z105:=Tryz.sizeOf182
 v105:=Tryz.zeroValue182
 t119:=Tryz.underlying266
 a119:=Tryz.isAgg266
 z119:=Tryz.sizeOf266
 t138:=Tryz.underlying268
 a138:=Tryz.isAgg268
 z138:=Tryz.sizeOf268
 v138:=Tryz.zeroValue268
 t139:=Tryz.underlying269
 a139:=Tryz.isAgg269
 z139:=Tryz.sizeOf269
 v139:=Tryz.zeroValue269
 t146:=Tryz.underlying271
 a146:=Tryz.isAgg271
 z146:=Tryz.sizeOf271
 v146:=Tryz.zeroValue271
 g1:=by kernel_rfl
 g3:=by kernel_rfl
 g4:=by kernel_rfl }
def YtabdianhoabhhaaGreatDoor.Zy:Go.Shelf.Ren:=⟨fun | 137=>124 | 217=>166 | 266=>206 | n=>n,fun | 9=>9 | 5=>5 | 3=>3 | n=>n,fun | n=>n⟩
theorem YtabdianhoabhhaaGreatDoor.AAz:Go.Proofs.Lays.n137 Tryz.prog YtabdianhoabhhaaGreatDoor.Zy:={
 mixed:=by kernel_rfl
 f137:=Tryz.func124.trans (congrArg some (by kernel_rfl))
 f217:=Tryz.func166.trans (congrArg some (by kernel_rfl))
 f266:=Tryz.func206.trans (congrArg some (by kernel_rfl))
 t3:=Tryz.underlying3
 a3:=Tryz.isAgg3
 z3:=Tryz.sizeOf3
 v3:=Tryz.zeroValue3
 t5:=Tryz.underlying5
 a5:=Tryz.isAgg5
 z5:=Tryz.sizeOf5
 v5:=Tryz.zeroValue5
 t9:=Tryz.underlying9
 a9:=Tryz.isAgg9
 z9:=Tryz.sizeOf9
 v9:=Tryz.zeroValue9 }
end Go.Proofs
