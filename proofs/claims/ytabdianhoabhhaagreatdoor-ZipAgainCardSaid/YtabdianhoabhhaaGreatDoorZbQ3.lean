/- texts joined: InfOld ZipRdr RegTwo ConcatB CatB ZipHere ZipThere Two WeighCheck SortMem SortSwap SortIns SortSym1. -/
import Derived.Test.YtabdianhoabhhaaGreatDoorZbQ2
import Derived.Test.YtabdianhoabhhaaGreatDoorZbQ1
import Derived.Test.YtabdianhoabhhaaGreatDoorProg
import Derived.WalkSpells
import Derived.Lib.AppendZeros
import Derived.Lib.ConvBytes
import Derived.Deep.RegionLaw
import Derived.Test.YtabdianhoabhhaaGreatDoorWeighPure
import Derived.Test.YtabdianhoabhhaaGreatDoorSortPure
import Derived.Maps.AppendAt
import Derived.BigRegion
import Derived.BigQuiet
import Derived.StillTailTactics
namespace Go.Proofs.YtabdianhoabhhaaGreatDoor.Inf
open Go Go.RowKit Go.Proofs.YtabdianhoabhhaaGreatDoor Go.Proofs.YtabdianhoabhhaaGreatDoor.Bits Go.Proofs.YtabdianhoabhhaaGreatDoor.Code
set_option linter.unusedVariables false
set_option linter.unusedSimpArgs false
structure OldK (base B0:Nat) (T:List TypeId) (w w':World):Prop where
 os:w'.os=w.os
 tape:w'.tape=w.tape
 output:w'.output=w.output
 size:w.heap.size≤w'.heap.size
 block:∀ k,k < base→w'.heap[k]?=w.heap[k]?
 other:∀ (k:Nat) (o:Obj),k < B0→w.heap[k]?=some o→(∀ cs t fr,o=Obj.cells cs t fr→t∉T)→w'.heap[k]?=some o
section
variable {base B0:Nat} {T:List TypeId} {w w' w'':World}
theorem OldK.refl (base B0:Nat) (T:List TypeId) (w:World):OldK base B0 T w w:=⟨rfl,rfl,rfl,Nat.le_refl _,fun _ _=>rfl,fun _ _ _ h _=>h⟩
theorem OldK.trans (h:OldK base B0 T w w') (k:OldK base B0 T w' w''):OldK base B0 T w w'':=
 ⟨k.os.trans h.os,k.tape.trans h.tape,k.output.trans h.output,Nat.le_trans h.size k.size,fun i hi=>(k.block i hi).trans (h.block i hi),fun i o hi ho ht=>k.other i o hi (h.other i o hi ho ht) ht⟩
theorem OldK.keeps (h:OldK base B0 T w w') (k:Keeps base T w' w''):OldK base B0 T w w'':=
 h.trans ⟨k.os,k.tape,k.output,k.size,k.block,fun i o _ ho ht=>k.other i o ho ht⟩
theorem OldK.below (h:OldK base B0 T w w') (k:Below B0 w' w'') (hb:base≤B0):OldK base B0 T w w'':=
 h.trans ⟨k.os,k.tape,k.output,k.size,fun i hi=>k.block i (by omega),fun i o hi ho _=>by rw[k.block i hi];exact ho⟩
theorem OldK.toKeeps (h:OldK base w.heap.size T w w'):Keeps base T w w':=
 ⟨h.os,h.tape,h.output,h.size,h.block,fun k o ho ht=>h.other k o (by
  rcases Nat.lt_or_ge k w.heap.size with h | h
  ·exact h
  ·rw[Array.getElem?_eq_none h]at ho;cases ho) ho ht⟩
theorem OldK.blk (h:OldK base w.heap.size T w w') {g:Nat} {t:TypeId} {cs:Array Value} (hb:Blk w g t cs) (ht:t∉T):Blk w' g t cs:=h.toKeeps.blk hb ht
end
theorem step_app3 {P:Program} {ops:Array Oper} {o:Oper} {a:Act} {w:World} {K:Act→World→Prop} {Q:Exit→Act→World→Prop} {E:Prop} (hgd:o.guard=none) (s x:Operand) (t:TypeId)
  (hop:o.op=.call { callee:=.builtin .append,args:=#[s,x],argTypes:=#[t,t] })
  (base:Nat) (e:TypeId) (z:Value) (size bytes:Nat) (hT:SliceTy P t e z size bytes)
  (v:Value) (n:Nat) (xs:List Value) (hs:a.eval s=v) (hown:w.ownsRow base e size v n xs)
  (A:Option Addr) (m c:Nat) (news:List Value) (hx:a.eval x=.slice A m c) (hl:news.length=m*size) (hr:SlAt w A news) (h1:∀ u∈news,u.oneCell'=true)
  (hA:A=none→m=0) (h63:n+m≤maxLen) (hbytes:(n+m)*bytes≤140737488355328) (hbase:base≤w.heap.size)
  (hK:∀ v' w',w'.ownsRow base e size v' (n+m) (xs++news)→w.grownBy w' v.ownBlock→(v'.ownBlock=v.ownBlock∨v'.ownBlock=some w.heap.size)→K (a.put o.dst v') w') :
  if Region.wanted o (yielded ops a.tmps)=true then Oper.wp P o a w K Q else E:=by
 have hw:Region.wanted o (yielded ops a.tmps)=true:=by simp[Region.wanted,hgd]
 rw[if_pos hw]
 obtain⟨v',w',hrun,h2,h3,h4⟩:=run_app (P:=P) w base t o.type e z size bytes hT v n xs hown A m c news hl hr h1 hA h63 hbytes hbase
 unfold Oper.wp
 simp[execOp,hop,resolve,invoke,builtin,hs,hx,hrun,Result.andThen]
 exact hK _ _ h2 h3 h4
theorem InAt_.old {w w':World} {base B0:Nat} {T:List TypeId} {A:Option Addr} {n:Nat} {xs:List UInt8} (h:InAt_ w base A n xs) (hk:OldK base B0 T w w'):InAt_ w' base A n xs:=
 ⟨h.len,h.few,fun hp=>by
  obtain⟨b,o,e,hc⟩:=h.at_ hp
  refine⟨b,o,e,fun j v hj=>?_⟩
  rw[World.cell?_of_block (hk.block b (h.low b o e (by rw[←h.len];simpa using hp)))]
  exact hc j v hj,h.low⟩
set_option maxRecDepth 100000 in
set_option maxHeartbeats 1600000 in
theorem get_k (base g q:Nat) (A:Option Addr) (n c pos size:Nat) (xs:List UInt8) (w:World) (hq:base≤q) (b0:w.cell? ⟨g,0,none⟩=some (.pointer (some ⟨q,0,none⟩))) (hsrc:SrcAt w q A n c pos) (hp:pos≤8*n) (hi:InAt_ w base A n xs) (hs:size≤61) :
  Calls Tryz.prog 160 #[.pointer (some ⟨g,0,none⟩),.int .i64 (size:Int)] w fun e w'=>
   RPost (getR (bitsL xs) pos size) (fun a e w'=>e=.returned (.int .i64 (a.1:Int))∧SrcAt w' q A n c a.2∧a.2≤8*n) e w'∧Keeps q srcT w w':=by
 have Hrow:Hid ((bitsL xs).length=8*n):=Lib.hid (by rw[bitsL_length,hi.len])
 have HG:=Lib.hid (get_any q A n c pos size xs w hsrc hi.len hi.at_ hs hp hi.few (fun b o e hp=>by have:=hi.low b o e hp;omega))
 clear hi hsrc
 go_enter Tryz.func160,Tryz.ntmps160
 go_wp2_with fail
 refine (HG.out).mono ?_
 rintro e w2 ⟨hcase,hk2⟩
 have HK2:=Lib.hid hk2
 clear hk2 b0 HG
 rcases hcase with ⟨h1,rfl,hs2⟩ | ⟨h1,rfl,_⟩
 ·have HS2:=Lib.hid hs2
  clear hs2
  go_wp2_with fail
  go_ret
  exact⟨ok_rpost (a:=(num (((bitsL xs).drop pos).take size),pos+size)) (by unfold getR;rw[Hrow.out,if_pos h1]) ⟨rfl,HS2.out,h1⟩,HK2.out⟩
 ·go_wp2_with fail
  refine (fail_any 7 _).mono ?_
  rintro e w3 ⟨rfl,rfl⟩
  unfold stopE
  go_wp2_with fail
  exact⟨rfl,bad_rpost (by unfold getR;rw[Hrow.out,if_neg (by omega)]),HK2.out⟩
set_option maxRecDepth 100000 in
set_option maxHeartbeats 1600000 in
theorem sym_k (base tb g q tp:Nat) (A:Option Addr) (n c pos:Nat) (xs:List UInt8) (ls:List Nat) (w:World) (hq:base≤q) (b0:w.cell? ⟨g,0,none⟩=some (.pointer (some ⟨q,0,none⟩))) (hsrc:SrcAt w q A n c pos) (hp:pos≤8*n) (hi:InAt_ w base A n xs)
  (hT:TabAt w tb tp ls) (hl:∀ x∈ls,x≤15) (hr:room ls≤32768) (hlen:ls.length≤288) :
  Calls Tryz.prog 203 #[.pointer (some ⟨g,0,none⟩),.pointer (some ⟨tp,0,none⟩)] w fun e w'=>
   RPost (symR (bitsL xs) ls pos) (fun a e w'=>e=.returned (.int .i64 (a.1:Int))∧SrcAt w' q A n c a.2∧a.2≤8*n) e w'∧Keeps q srcT w w':=by
 have HG:=Lib.hid (tread_any tb tp q A n c pos xs ls w hT hsrc hi.len hi.at_ hp hi.few (fun b o e hp=>by have:=hi.low b o e hp;omega) hl hr hlen)
 clear hi hsrc hT hl hr hlen
 go_enter Tryz.func203,Tryz.ntmps203
 go_wp2_with fail
 refine (HG.out).mono ?_
 rintro e w2 ⟨⟨k,m,z,hn,rfl,hz⟩,hk2⟩
 have HK2:=Lib.hid hk2
 have HZ:=Lib.hid hz
 have HN:=Lib.hid hn
 clear hk2 hz hn b0 HG
 by_cases h0:z=0
 ·subst h0
  go_wp2_with fail
  go_ret
  refine⟨?_,HK2.out⟩
  unfold RPost symR
  rw[HN.out]
  exact⟨rfl,(HZ.out (by simp)).1,(HZ.out (by simp)).2⟩
 ·have hz1:(z != 0)=true:=by simpa using h0
  go_wp2_with fail
  refine (fail_any z _).mono ?_
  rintro e w3 ⟨rfl,rfl⟩
  unfold stopE
  go_wp2_with fail
  refine⟨rfl,?_,HK2.out⟩
  unfold RPost symR
  rw[HN.out,if_neg (show ¬ (k,m,z).2.2=0 from h0)]
  rfl
structure AgAt (w:World) (B gl gn n:Nat) (l:List Nat):Prop where
 gle:B≤gl
 row:∃ vl,Blk w gl 89 #[vl]∧w.ownsRow B 3 1 vl l.length (l.map natV)∧vl.ownBlock≠some gn
 num:Blk w gn 3 #[.int .i64 (n:Int)]
 fit:l.length≤n
 few:n≤1000
set_option maxRecDepth 100000 in
set_option maxHeartbeats 1600000 in
theorem again_any (B gl gn n v k:Nat) (l:List Nat) (w:World) (h:AgAt w B gl gn n l) (h1:1≤k) (hk:k≤1000) (hB:B≤w.heap.size) :
  Calls Tryz.prog 234 #[.int .i64 (v:Int),.int .i64 (k:Int),.pointer (some ⟨gl,0,none⟩),.pointer (some ⟨gn,0,none⟩)] w fun e w'=>
   RPost (againR n l v k) (fun m e w'=>e=.returned (.tuple #[])∧AgAt w' B gl gn n m) e w'∧Below B w w':=by
 obtain⟨hgl,⟨vl,hbl,hol,hne⟩,hbn,hfit,hfew⟩:=h
 obtain⟨Al,cl,rfl,_⟩:=own_slat hol
 obtain⟨L,hL⟩:∃ L,L=l.length:=⟨_,rfl⟩
 rw[←hL]at hbl hol hfit hne
 have HL:=Lib.hid hL
 have b0:w.cell? ⟨gl,0,none⟩=some (.slice Al L cl):=by rw[hbl.cell];rfl
 have b1:w.cell? ⟨gn,0,none⟩=some (.int .i64 (n:Int)):=by rw[hbn.cell];rfl
 have hlt:=hbl.lt
 have hltn:=hbn.lt
 have HBl:=Lib.hid hbl
 have HBn:=Lib.hid hbn
 have HOl:=Lib.hid hol
 have HNe:=Lib.hid hne
 clear hbl hol hbn hne hL
 have hw1:IntKind.i64.wrap ((L:Int)+(k:Int))=(L:Int)+(k:Int):=IntWalk.i64_in _ (by omega)
 by_cases hn:n < L+k
 ·have hn':(n:Int) < (L:Int)+(k:Int):=by omega
  have HU:Hid (againR n l v k=.bad 8):=Lib.hid (by unfold againR;rw[if_pos (by rw[←HL.out];exact hn)])
  go_enter Tryz.func234,Tryz.ntmps234
  go_wp2_with fail
  refine (fail_any 8 _).mono ?_
  rintro e w3 ⟨rfl,rfl⟩
  unfold stopE
  go_wp2_with fail
  exact⟨rfl,bad_rpost HU.out,Below.refl _ _⟩
 ·have hn':¬ (n:Int) < (L:Int)+(k:Int):=by omega
  have HU:Hid (againR n l v k=.ok (l++List.replicate k v)):=Lib.hid (by unfold againR;rw[if_neg (by rw[←HL.out];exact hn)])
  go_enter Tryz.func234,Tryz.ntmps234
  go_wp2_with fail
  refine wp_region_S (fun W=>W.cell? ⟨gl,0,none⟩=some (.slice Al L cl)) 6 (by kernel_rfl) ?_
  have hHeld:w.drew.cell? ⟨gl,0,none⟩=some (.slice Al L cl):=b0
  obtain⟨w2,hw2⟩:∃ w2,w2=w.drew:=⟨_,rfl⟩
  have Hb2:Hid (Below w.heap.size w w2):=Lib.hid (by rw[hw2];exact (Below.refl _ _).drew)
  rw[←hw2]at hHeld⊢
  clear hw2 b0 b1
  refine wpAnyS_takeT (i:=0) (v:=?va0) (by kernel_rfl) (by kernel_rfl) rfl (by kernel_rfl) (by kernel_rfl) (by kernel_rfl) (fun _ _ _ h=>h) (by rfl) (by assumption) ?hya0 ?resta0
  case hya0=>(intro W hSW;(try dsimp only at hSW);go_simp;try with_reducible rfl)
  (try simp only[Act.put,List.getElem_toArray,List.getElem_cons_zero,List.getElem_cons_succ,List.setIfInBounds_toArray,List.set_cons_zero,List.set_cons_succ])
  refine wpAnyS_takeT (i:=1) (v:=?va1) (by kernel_rfl) (by kernel_rfl) rfl (by kernel_rfl) (by kernel_rfl) (by kernel_rfl) (fun _ _ _ h=>h) (by rfl) (by assumption) ?hya1 ?resta1
  case hya1=>(intro W hSW;(try dsimp only at hSW);go_simp;try with_reducible rfl)
  (try simp only[Act.put,List.getElem_toArray,List.getElem_cons_zero,List.getElem_cons_succ,List.setIfInBounds_toArray,List.set_cons_zero,List.set_cons_succ])
  refine wpAnyS_takeT (i:=3) (v:=?va3) (by kernel_rfl) (by kernel_rfl) rfl (by kernel_rfl) (by kernel_rfl) (by kernel_rfl) (fun _ _ _ h=>h) (by rfl) (by assumption) ?hya3 ?resta3
  case hya3=>(intro W hSW;(try dsimp only at hSW);go_simp;try with_reducible rfl)
  (try simp only[Act.put,List.getElem_toArray,List.getElem_cons_zero,List.getElem_cons_succ,List.setIfInBounds_toArray,List.set_cons_zero,List.set_cons_succ])
  refine wpAnyS_only (i:=2) rfl (by kernel_rfl) (fun K hK=>?_)
  go_simp
  clear hHeld
  have Hb3:=Lib.hid (Hb2.out.alloc Hb2.out.size (.cells #[.int .i64 (v:Int)] 3))
  have Hv3:Hid (SlAt (w2.alloc (.cells #[.int .i64 (v:Int)] 3)) (some ⟨w2.heap.size,0,none⟩) [.int .i64 (v:Int)]):=Lib.hid (SlAt.of_heap (heap_alloc_new _ _) rfl)
  refine hK.out _ _ ((Blk.below HBl.out Hb3.out hlt).cell 0) (fun hHeld=>?_)
  clear hK K
  (try simp only[Act.put,List.getElem_toArray,List.getElem_cons_zero,List.getElem_cons_succ,List.setIfInBounds_toArray,List.set_cons_zero,List.set_cons_succ])
  generalize w2.alloc (.cells #[.int .i64 (v:Int)] 3)=w3 at *
  generalize w2.heap.size=g3 at *
  refine wpAnyS_only (i:=4) rfl (by kernel_rfl) (fun K hK=>?_)
  go_simp
  go_at_call 136
  refine (repeat1_any (some ⟨g3,0,none⟩) 1 k (v:Int) w3 Hv3.out h1 hk).mono ?_
  rintro e w4 ⟨⟨A4,rfl,hs4⟩,hb4⟩
  have Hb4:=Lib.hid (Hb3.out.trans (hb4.mono Hb3.out.size))
  have HS4:=Lib.hid hs4
  clear hb4 hs4 hHeld
  refine hK.out _ _ ((Blk.below HBl.out Hb4.out hlt).cell 0) (fun hHeld=>?_)
  clear hK K
  (try simp only[Act.put,List.getElem_toArray,List.getElem_cons_zero,List.getElem_cons_succ,List.setIfInBounds_toArray,List.set_cons_zero,List.set_cons_succ])
  have HOl4:=Lib.hid (own_keep HOl.out Hb4.out)
  have hBw4:B≤w4.heap.size:=Nat.le_trans hB Hb4.out.size
  obtain⟨X,hX⟩:∃ X,X=List.replicate k (Value.int .i64 (v:Int)):=⟨_,rfl⟩
  have HX:=Lib.hid hX
  have hXl:X.length=k*1:=by rw[hX];simp
  have HXo:Hid (∀ u∈X,u.oneCell'=true):=Lib.hid (by rw[hX];intro u hu;rw[List.eq_of_mem_replicate hu];rfl)
  rw[←hX]at HS4
  clear hX
  have hA4:A4=none→k=0:=fun e=>by
   obtain⟨b,o,e',_⟩:=HS4.out (by rw[hXl];omega)
   rw[e]at e'
   cases e'
  refine wpAnyS_only (i:=5) rfl (by kernel_rfl) (fun K hK=>?_)
  refine step_app3 rfl (.tmp 13) (.tmp 17) _ rfl B 3 _ 1 8 tyI (.slice Al L cl) L (l.map natV) (by simp[Act.eval]) HOl4.out A4 k k X (by simp[Act.eval]) hXl HS4.out HXo.out hA4 (by unfold maxLen;omega) (by omega) hBw4 ?_
  intro v5 w5 hown5 hg5 hwhere5
  have HO5:=Lib.hid hown5
  have HG5:=Lib.hid hg5
  have HW5:=Lib.hid hwhere5
  clear hown5 hg5 hwhere5 hHeld
  have HB4:=Lib.hid (Blk.below HBl.out Hb4.out hlt)
  have HBn4:=Lib.hid (Blk.below HBn.out Hb4.out hltn)
  have HB5:=Lib.hid (HB4.out.grown HG5.out (own_ne HOl4.out HB4.out (by decide)))
  have HBn5:=Lib.hid (HBn4.out.grown HG5.out HNe.out)
  have hlt4:=HBn4.out.lt
  refine hK.out _ _ (HB5.out.cell 0) (fun hHeld=>?_)
  clear hK K
  (try simp only[Act.put,List.getElem_toArray,List.getElem_cons_zero,List.getElem_cons_succ,List.setIfInBounds_toArray,List.set_cons_zero,List.set_cons_succ])
  obtain⟨A5,c5,rfl,_⟩:=own_slat HO5.out
  have f5:=HB5.out.frozen 0
  refine wpAnyS_last rfl (by kernel_rfl) (by kernel_rfl) (fun K hK=>?_)
  go_simp
  refine hK.out _ _ ?_
  clear hK K
  clear hHeld
  go_wp2_with fail
  go_end0
  have hb5:Below B w4 w5:=⟨HG5.out.os,HG5.out.tape,HG5.out.output,HG5.out.size,fun i hi=>HG5.out.block i (by omega) (fun e=>by have:=(HOl4.out.lt i e.symm).1;omega)⟩
  refine⟨ok_rpost HU.out ⟨rfl,hgl,⟨_,HB5.out.set_ 0 _,?_,?_⟩,HBn5.out.far (p:=⟨gl,0,none⟩) ?_ _,?_,hfew⟩,((Hb4.out.mono hB).trans hb5).setCell (p:=⟨gl,0,none⟩) hgl _⟩
  ·have h6:(w5.setCell ⟨gl,0,none⟩ (.slice A5 (L+k) c5)).ownsRow B 3 1 (.slice A5 (L+k) c5) (L+k) (l.map natV++X):=((Keeps.refl B [89] w5).setBlk HB5.out (by simp) hgl 0 _).own HO5.out (by decide)
   rw[List.length_append,List.length_replicate,←HL.out,List.map_append,List.map_replicate]
   rw[HX.out]at h6
   exact h6
  ·intro e
   rcases HW5.out with h | h
   ·exact HNe.out (h.symm.trans e)
   ·rw[h]at e
    injection e with e
    omega
  ·intro e
   have e:gn=gl:=e
   subst e
   have h1:=HBl.out
   have h2:=HBn.out
   unfold Blk at h1 h2
   rw[h1]at h2
   cases h2
  ·rw[List.length_append,List.length_replicate,←HL.out]
   omega
end Go.Proofs.YtabdianhoabhhaaGreatDoor.Inf
namespace Go.Proofs.YtabdianhoabhhaaGreatDoor.Zip
open Go Go.RowKit Go.Proofs.YtabdianhoabhhaaGreatDoor Go.Proofs.YtabdianhoabhhaaGreatDoor.Bits Go.Proofs.YtabdianhoabhhaaGreatDoor.Merge Go.Proofs.YtabdianhoabhhaaGreatDoor.Name
set_option linter.unusedVariables false
set_option linter.unusedSimpArgs false
def stopZ:Ending:=.panicked [{ v:=.iface 108 (.agg #[]),recovered:=false }]
def rdrT:List TypeId:=[112]
def RdrAt (w:World) (q:Nat) (A:Option Addr) (n c p:Nat):Prop:=Blk w q 112 #[.slice A n c,.int .i64 (p:Int)]
structure Within (A:Option Addr) (b:List UInt8) (A':Option Addr) (x:List UInt8):Prop where
 at_:∀ w,ByAt w A b→ByAt w A' x
 blk:0 < x.length→∃ a o o',A=some ⟨a,o,none⟩∧A'=some ⟨a,o',none⟩∧0 < b.length
theorem within_some (a o:Nat) (b:List UInt8) (p k:Nat):Within (some ⟨a,o,none⟩) b (some ⟨a,o+p,none⟩) ((b.drop p).take k):=
 ⟨fun w h=>(ByAt.drop h p).take k,fun h=>⟨a,o,o+p,rfl,rfl,by rw[List.length_take,List.length_drop]at h;omega⟩⟩
theorem within_nil (A A':Option Addr) (b:List UInt8):Within A b A' []:=⟨fun w h=>SlAt.nil,fun h=>by simp at h⟩
theorem Within.trans {A A' A'':Option Addr} {b x y:List UInt8} (h:Within A b A' x) (k:Within A' x A'' y):Within A b A'' y:=
 ⟨fun w hw=>k.at_ w (h.at_ w hw),fun hp=>by
  obtain⟨a,o,o',e,e',hx⟩:=k.blk hp
  obtain⟨a2,o2,o2',f,f',hb⟩:=h.blk hx
  rw[e]at f'
  injection f' with f'
  injection f' with f1 f2
  exact⟨a,o2,o',by rw[f,f1],e',hb⟩⟩
theorem take_zero (b:List UInt8) (p:Nat):(b.drop p).take 0=[]:=List.take_zero ..
def OPost {α:Type} (r:Option α) (ok:α→Ending→World→Prop) (e:Ending) (w':World):Prop:=match r with
 | none=>e=stopZ
 | some a=>ok a e w'
def TakeOk (q:Nat) (A:Option Addr) (n c p k:Nat) (b:List UInt8) (y:List UInt8×Nat) (e:Ending) (w':World):Prop:=
 y.2≤n∧y.1.length=k∧(∃ A',e=.returned (.slice A' k (c - p))∧k≤c - p∧Within A b A' y.1)∧RdrAt w' q A n c y.2
theorem take_none {b:List UInt8} {p k:Nat} (h:¬ p+k≤b.length):takeN b p k=none:=by unfold takeN;rw[if_neg h]
theorem take_some {b:List UInt8} {p k:Nat} (h:p+k≤b.length):takeN b p k=some ((b.drop p).take k,p+k):=by unfold takeN;rw[if_pos h]
set_option maxRecDepth 100000 in
set_option maxHeartbeats 1600000 in
theorem rdr_take (q:Nat) (A:Option Addr) (n c p k:Nat) (b:List UInt8) (w:World) (h:RdrAt w q A n c p) (hn:b.length=n) (hnc:n≤c) (hcm:c≤maxLen) (hp:p≤n) (hk:k < 4611686018427387904) (hA:ByAt w A b) (hkn:0 < n∨0 < k) :
  Calls Tryz.prog 86 #[.pointer (some ⟨q,0,none⟩),.int .i64 (k:Int)] w fun e w'=>
   OPost (takeN b p k) (TakeOk q A n c p k b) e w'∧Keeps q rdrT w w':=by
 have H:=Lib.hid h
 have Hn:=Lib.hid hn
 have HA:=Lib.hid hA
 unfold maxLen at hcm
 have e0:w.cell? ⟨q,0,none⟩=some (.slice A n c):=h.c0
 have e1:w.cell? ⟨q,1,none⟩=some (.int .i64 (p:Int)):=h.c1
 have z1:=h.frozen 1
 clear h hn hA
 go_enter Tryz.func86,Tryz.ntmps86
 have hd1:decide ((k:Int) < 0)=false:=by simp
 have hwr:IntKind.i64.wrap ((n:Int) - (p:Int))=(n:Int) - (p:Int):=IntWalk.i64_in _ (by omega)
 by_cases hlt:p+k≤n
 ·have hd2:decide ((n:Int) - (p:Int) < (k:Int))=false:=by simp;omega
  go_wp2_with fail
  go_quiet (fail)
  have HB1:Hid (Blk (w.drewN nq) q 112 #[.slice A n c,.int .i64 (p:Int)]):=Lib.hid (H.out.drewN nq)
  have HK1:Hid (Keeps q rdrT w (w.drewN nq)):=Lib.hid ((Keeps.refl q rdrT w).drewN nq)
  clear e0 e1 z1 hd1 hd2 hwr
  generalize w.drewN nq=w1 at *
  have e0:w1.cell? ⟨q,0,none⟩=some (.slice A n c):=HB1.out.c0
  have e1:w1.cell? ⟨q,1,none⟩=some (.int .i64 (p:Int)):=HB1.out.c1
  have z1:=HB1.out.frozen 1
  have hpk:IntKind.i64.wrap ((p:Int)+(k:Int))=((p+k:Nat):Int):=by
   rw[show (p:Int)+(k:Int)=((p+k:Nat):Int) by omega];exact IntWalk.i64_in _ (by omega)
  have hn0:0 < n:=by omega
  obtain⟨a,o,rfl,_⟩:=HA.out.get (k:=0) (by rw[Hn.out];exact hn0)
  have HB2:Hid (Blk (w1.setCell ⟨q,1,none⟩ (.int .i64 ((p:Int)+(k:Int)))) q 112 #[.slice (some ⟨a,o,none⟩) n c,.int .i64 ((p:Int)+(k:Int))]):=Lib.hid (HB1.out.s1 _)
  have HK2:Hid (Keeps q rdrT w (w1.setCell ⟨q,1,none⟩ (.int .i64 ((p:Int)+(k:Int))))):=Lib.hid (HK1.out.setBlk HB1.out (by simp[rdrT]) (Nat.le_refl _) 1 _)
  go_upto_region 4 with fail
  clear e0 e1 z1 hpk HB1 HK1
  generalize w1.setCell ⟨q,1,none⟩ (.int .i64 ((p:Int)+(k:Int)))=w2 at *
  have e0:w2.cell? ⟨q,0,none⟩=some (.slice (some ⟨a,o,none⟩) n c):=HB2.out.c0
  have e1:w2.cell? ⟨q,1,none⟩=some (.int .i64 ((p:Int)+(k:Int))):=HB2.out.c1
  have hm:(p:Int)+(k:Int) - (k:Int)=(p:Int):=by omega
  have hm2:IntKind.i64.wrap (p:Int)=(p:Int):=IntWalk.i64_in _ (by omega)
  have hc1:(p:Int)+(k:Int)≤(c:Int):=by omega
  have hc2:(p:Int)≤(p:Int)+(k:Int):=by omega
  by_cases hcp:c=p
  ·subst hcp
   obtain rfl:k=0:=by omega
   go_quiet (fail)
   have HB3:=Lib.hid (HB2.out.drewN nq)
   have HK3:=Lib.hid (HK2.out.drewN nq)
   clear e0 e1 HB2 HK2
   generalize w2.drewN nq=w3 at *
   go_wp2_with fail
   go_ret
   refine⟨?_,HK3.out⟩
   rw[take_some (by rw[Hn.out];omega)]
   refine⟨by omega,rfl,⟨_,by simp;rfl,by omega,within_nil _ _ _⟩,?_⟩
   have:=HB3.out
   rw[show (c:Int)+((0:Nat):Int)=((c+0:Nat):Int) by omega]at this
   exact this
  ·go_quiet (fail)
   have HB3:=Lib.hid (HB2.out.drewN nq)
   have HK3:=Lib.hid (HK2.out.drewN nq)
   clear e0 e1 HB2 HK2
   generalize w2.drewN nq=w3 at *
   rw[show p+k - p=k by omega]
   go_wp2_with fail
   go_ret
   refine⟨?_,HK3.out⟩
   rw[take_some (by rw[Hn.out];omega)]
   refine⟨hlt,by rw[List.length_take,List.length_drop,Hn.out];omega,⟨_,rfl,by omega,within_some _ _ _ _ _⟩,?_⟩
   have:=HB3.out
   rw[show (p:Int)+(k:Int)=((p+k:Nat):Int) by omega]at this
   exact this
 ·have hd2:decide ((n:Int) - (p:Int) < (k:Int))=true:=by simp;omega
  go_wp2_with fail
  go_quiet (fail)
  have HK1:Hid (Keeps q rdrT w (w.drewN nq)):=Lib.hid ((Keeps.refl q rdrT w).drewN nq)
  clear e0 e1 z1 hd1 hd2 hwr
  generalize w.drewN nq=w1 at *
  go_wp2_with fail
  refine⟨rfl,?_,HK1.out⟩
  rw[take_none (by rw[Hn.out];exact hlt)]
  rfl
theorem ofLow_snoc (l:List UInt8) (x:UInt8):ofLow (l++[x])=ofLow l+x.toNat*256 ^ l.length:=by
 induction l with
 | nil=>simp[ofLow]
 | cons y l ih=>
  rw[List.cons_append,ofLow,ih,ofLow,List.length_cons,Nat.pow_succ,Nat.mul_add,Nat.mul_comm (256 ^ l.length) 256,Nat.mul_left_comm x.toNat 256]
  omega
theorem or_byte (m i:Nat) (x:UInt8) (hm:m < 256 ^ i) (hi:i≤6):bits .or .i64 (m:Int) (wrap64 (n8 x*2 ^ (8*i)))=((m+x.toNat*256 ^ i:Nat):Int):=by
 have hp:(256:Nat) ^ i=2 ^ (8*i):=by rw[Nat.pow_mul]
 rw[hp]at hm⊢
 have h2:2 ^ (8*i)≤2 ^ 48:=Nat.pow_le_pow_right (by omega) (by omega)
 have hx:=x.toNat_lt
 have hb:x.toNat*2 ^ (8*i)≤255*2 ^ (8*i):=Nat.mul_le_mul_right _ (by omega)
 have e:n8 x*2 ^ (8*i)=((x.toNat*2 ^ (8*i):Nat):Int):=by unfold n8;simp
 have e2:wrap64 ((x.toNat*2 ^ (8*i):Nat):Int)=((x.toNat*2 ^ (8*i):Nat):Int):=by unfold wrap64;omega
 rw[e,e2,or_comm64,or64 _ _ (8*i) (Nat.mul_mod_left _ _) hm (by omega),Nat.add_comm]
structure LowAt (w:World) (q:Nat) (A:Option Addr) (b:List UInt8):Prop where
 at_:ByAt w A b
 low:∀ a o,A=some ⟨a,o,none⟩→0 < b.length→a < q
theorem LowAt.keeps {w w':World} {q:Nat} {A:Option Addr} {b:List UInt8} {T:List TypeId} (h:LowAt w q A b) (hk:Keeps q T w w'):LowAt w' q A b:=
 ⟨fun hp=>by
  obtain⟨a,o,e,hc⟩:=h.at_ hp
  refine⟨a,o,e,fun j v hj=>?_⟩
  rw[World.cell?_of_block (hk.block a (h.low a o e (by simpa using hp)))]
  exact hc j v hj,h.low⟩
theorem LowAt.within {w:World} {q q':Nat} {A A':Option Addr} {b x:List UInt8} (h:LowAt w q A b) (hw:Within A b A' x) (hq:q≤q'):LowAt w q' A' x:=
 ⟨hw.at_ w h.at_,fun a o e hp=>by
  obtain⟨a2,o2,o',f,f',hb⟩:=hw.blk hp
  rw[e]at f'
  injection f' with f'
  injection f' with f1 f2
  have:=h.low a2 o2 f hb
  omega⟩
def NumOk (q:Nat) (A:Option Addr) (n c p k:Nat) (b:List UInt8) (y:Nat×Nat) (e:Ending) (w':World):Prop:=
 y.2≤n∧y.1 < 256 ^ k∧e=.returned (.int .i64 (y.1:Int))∧RdrAt w' q A n c y.2
set_option maxRecDepth 100000 in
set_option maxHeartbeats 1600000 in
theorem rdr_num (q:Nat) (A:Option Addr) (n c p k:Nat) (b:List UInt8) (w:World) (h:RdrAt w q A n c p) (hn:b.length=n) (hnc:n≤c) (hcm:c≤maxLen) (hp:p≤n) (hk:k≤4) (hk1:0 < k) (hA:LowAt w q A b) :
  Calls Tryz.prog 87 #[.pointer (some ⟨q,0,none⟩),.int .i64 (k:Int)] w fun e w'=>
   OPost (numN b p k) (NumOk q A n c p k b) e w'∧Keeps q rdrT w w':=by
 have HT:=Lib.hid (rdr_take q A n c p k b w h hn hnc hcm hp (by omega) hA.at_ (.inr hk1))
 have HA:=Lib.hid hA
 have HN:Hid (numN b p k=(takeN b p k).bind fun x=>some (ofLow x.1,x.2)):=Lib.hid rfl
 clear h hA
 rw[HN.out]
 generalize takeN b p k=r at *
 go_enter Tryz.func87,Tryz.ntmps87
 go_wp2_with fail
 refine (HT.out).mono ?_
 rintro e w1 ⟨hr,hk1⟩
 have HK1:=Lib.hid hk1
 clear hk1 HN HT
 cases r with
 | none=>
  obtain rfl:e=stopZ:=hr
  unfold stopZ
  exact⟨rfl,rfl,HK1.out⟩
 | some y=>
  obtain⟨hy2,hyl,⟨A',rfl,hkc,hwi⟩,hrd⟩:=hr
  have HX:=Lib.hid ((HA.out.keeps HK1.out).within hwi (Nat.le_refl _))
  have HR:=Lib.hid hrd
  obtain⟨x,p2⟩:=y
  dsimp only at hy2 hyl HX HR⊢
  have Hxl:=Lib.hid hyl
  clear hwi hrd hyl
  go_wp2_with fail
  go_loopw [5,12] (fun va vi wr=>∃ i:Nat,i≤k∧vi=.int .i64 (i:Int)∧va=.int .i64 (ofLow (x.take i):Nat)∧wr=w1) (fun _ vi _=>k - (intOf vi).toNat)
  case atStart=>exact⟨0,Nat.zero_le _,rfl,rfl,rfl⟩
  case round=>
   obtain⟨i,hi,rfl,rfl,rfl⟩:=hrel
   by_cases hlt:i < k
   ·have hlt':(i:Int) < (k:Int):=by omega
    have hi0:(0:Int)≤(i:Int):=by omega
    have hix:i < x.length:=by rw[Hxl.out];exact hlt
    obtain⟨a,o,rfl,hcell⟩:=HX.out.at_.get (k:=i) hix
    have hlow:ofLow (x.take i) < 256 ^ i:=by have:=ofLow_lt (x.take i);rwa [List.length_take,Hxl.out,Nat.min_eq_left (by omega)]at this
    have Hsn:Hid (ofLow (x.take (i+1))=ofLow (x.take i)+(x[i]'hix).toNat*256 ^ i):=Lib.hid (by
     rw[List.take_succ_eq_append_getElem hix,ofLow_snoc,List.length_take,Nat.min_eq_left (by omega)])
    generalize ofLow (x.take i)=m at *
    generalize x[i]'hix=xb at *
    have hw8:IntKind.i64.wrap (8*(i:Int))=8*(i:Int):=IntWalk.i64_in _ (by omega)
    have h80:¬ 8*(i:Int) < 0:=by omega
    go_wp2_with fail
    refine⟨⟨i+1,by omega,by go_num,?_,trivial⟩,by simp[intOf];omega⟩
    rw[or_byte m i xb hlow (by omega),Hsn.out]
   ·obtain rfl:i=k:=by omega
    have hlt':¬ (i:Int) < (i:Int):=by omega
    go_wp2_with fail
    go_ret
    refine⟨⟨hy2,?_,?_,HR.out⟩,HK1.out⟩
    ·have:=ofLow_lt x;rwa [Hxl.out]at this
    ·have ht:x.take i=x:=List.take_of_length_le (by rw[Hxl.out];omega)
     rw[ht];rfl
end Go.Proofs.YtabdianhoabhhaaGreatDoor.Zip
namespace Go.Proofs.YtabdianhoabhhaaGreatDoor
open Go
set_option linter.unusedVariables false
section
variable {P:Program} {ops:Array Oper} {Q:Exit→Act→World→Prop} {md:Region.Mode} {S:World→Prop} {n:Nat}
theorem wpAnyS_two {i j:Nat} {oi oj:Oper} {fuel:Nat} {listed:Array Bool} {a:Act} {w:World} (hi:ops[i]?=some oi) (hj:ops[j]?=some oj) (hr:Region.ready md ops listed=[i,j])
  (h1:∀ K':Act→World→Prop,Shut (∀ a w,S w→(S w→wpAnyS P md ops Q S n fuel (listed.setIfInBounds i true) a w)→K' a w)→if Region.wanted oi (yielded ops a.tmps)=true then Oper.wp P oi a w K' Q else K' (a.put oi.dst undef) w)
  (h2:∀ K':Act→World→Prop,Shut (∀ a w,S w→(S w→wpAnyS P md ops Q S n fuel (listed.setIfInBounds j true) a w)→K' a w)→if Region.wanted oj (yielded ops a.tmps)=true then Oper.wp P oj a w K' Q else K' (a.put oj.dst undef) w) :
  wpAnyS P md ops Q S n (fuel+1) listed a w:=by
 refine⟨fun h0=>(by rw[hr]at h0;cases h0),fun k hk=>?_⟩
 rw[hr]at hk
 rcases List.mem_cons.1 hk with rfl | hk
 ·exact wpOp_step hi (fun K' hK=>h1 K' (fun a w hS hW=>hK a w ⟨fun _=>hS,hW hS⟩))
 ·rw[List.mem_singleton]at hk
  subst hk
  exact wpOp_step hj (fun K' hK=>h2 K' (fun a w hS hW=>hK a w ⟨fun _=>hS,hW hS⟩))
end
end Go.Proofs.YtabdianhoabhhaaGreatDoor
namespace Go.Proofs.YtabdianhoabhhaaGreatDoor.ConcatB
open Go Go.RowKit Go.Proofs.YtabdianhoabhhaaGreatDoor
set_option linter.unusedVariables false
theorem ty:SliceTy Tryz.prog 23 5 (.int .u8 0) 1 1:=⟨Tryz.underlying23,by kernel_rfl,rfl,by omega⟩
theorem zeroCells_size (z:Array Value) (n:Nat):(Builtin.zeroCells z n).size=n*z.size:=by simp[Builtin.zeroCells]
set_option maxHeartbeats 400000 in
theorem grow_any (n:Nat) (w:World) (hn:n*1≤140737488355328) :
  Calls Tryz.prog 57 #[.slice none 0 0,.int .i64 (n:Int)] w fun e w'=>∃ v,e=.returned v∧w'.ownsRow w.heap.size 5 1 v 0 []∧Below w.heap.size w w':=by
 by_cases h0:n=0
 ·subst h0
  go_enter Tryz.func57,Tryz.ntmps57
  go_wp2_with fail
  go_ret
  exact⟨_,rfl,World.ownsRow_nil _ _ _ _,Below.refl _ _⟩
 ·obtain⟨ht,i,hi,hz,hsize,hby,hzs,hsz⟩:=ty.parts
  have hpos:0 < n:=by omega
  have h1:¬ ((n:Int) < 0):=by omega
  have hp:(0:Int) < (n:Int):=by omega
  have hb63:(n:Int)≤140737488355328:=by omega
  have hrun:=Lib.run_append_nil_zeros (P:=Tryz.prog) w 23 3 23 5 i (.int .u8 0) .i64 .i64 ht Tryz.underlying3 hi hz n hpos (by omega) (by omega) (by rw[hby];omega)
  have hcap:=grownCap_ge w n 0 5
  have hcm:=grownCap_le_maxLen w n 0 5 (by unfold maxLen;omega)
  have hsz2:(Builtin.zeroCells (Value.cells (.int .u8 0)) n++Builtin.zeroCells (Value.cells (.int .u8 0)) (grownCap w n 0 5 - n)).size=grownCap w n 0 5*1:=by
   rw[Array.size_append,zeroCells_size,zeroCells_size,hzs,←Nat.add_mul,Nat.add_sub_cancel' hcap]
  have hblk:(w.drew.alloc (.cells (Builtin.zeroCells (Value.cells (.int .u8 0)) n++Builtin.zeroCells (Value.cells (.int .u8 0)) (grownCap w n 0 5 - n)) 5)).heap[w.heap.size]?=some (.cells (Builtin.zeroCells (Value.cells (.int .u8 0)) n++Builtin.zeroCells (Value.cells (.int .u8 0)) (grownCap w n 0 5 - n)) 5 (0,0)):=heap_alloc_new w.drew _
  have hbel:Below w.heap.size w (w.drew.alloc (.cells (Builtin.zeroCells (Value.cells (.int .u8 0)) n++Builtin.zeroCells (Value.cells (.int .u8 0)) (grownCap w n 0 5 - n)) 5)):=((Below.refl _ _).drew).alloc (Nat.le_refl _) _
  generalize (w.drew.alloc (.cells (Builtin.zeroCells (Value.cells (.int .u8 0)) n++Builtin.zeroCells (Value.cells (.int .u8 0)) (grownCap w n 0 5 - n)) 5))=W at *
  generalize (Builtin.zeroCells (Value.cells (.int .u8 0)) n++Builtin.zeroCells (Value.cells (.int .u8 0)) (grownCap w n 0 5 - n))=cs at *
  generalize grownCap w n 0 5=cap at *
  have Hrun:=Lib.hid hrun
  have Hsz:=Lib.hid hsz2
  have Hblk:=Lib.hid hblk
  have Hbel:=Lib.hid hbel
  have hcm2:cap≤9223372036854775807:=by unfold maxLen at hcm;omega
  have Hcm:=Lib.hid hcm
  clear hrun hsz2 hblk hbel hi hz hsize hby hzs hsz ht hcm
  go_enter Tryz.func57,Tryz.ntmps57
  go_wp2_with (at_builtin;refine Lib.wpList_append_run _ rfl (.tmp 20) (.tmp 21) _ _ rfl _ _ rfl rfl _ _ Hrun.out ?_)
  go_ret
  exact⟨_,rfl,own_zero _ _ _ _ w.heap.size cap cs (Nat.le_refl _) Hblk.out Hcm.out Hsz.out,Hbel.out⟩
def total (rows:List (Value×Nat×List Value)):Nat:=(rows.map (·.2.1)).sum
def cellsOf (rows:List (Value×Nat×List Value)):List Value:=(rows.map (·.2.2)).flatten
theorem total_snoc (rows:List (Value×Nat×List Value)) (k:Nat) (h:k < rows.length):total (rows.take (k+1))=total (rows.take k)+rows[k].2.1:=by
 unfold total;rw[take_snoc _ _ h]
 simp only[List.map_append,List.map_cons,List.map_nil,List.sum_append,List.sum_cons,List.sum_nil,Nat.add_zero]
theorem cellsOf_snoc (rows:List (Value×Nat×List Value)) (k:Nat) (h:k < rows.length):cellsOf (rows.take (k+1))=cellsOf (rows.take k)++rows[k].2.2:=by
 unfold cellsOf;rw[take_snoc _ _ h]
 simp only[List.map_append,List.map_cons,List.map_nil,List.flatten_append,List.flatten_cons,List.flatten_nil,List.append_nil]
theorem sum_take_le (l:List Nat) (k:Nat):(l.take k).sum≤l.sum:=by
 induction l generalizing k with
 | nil=>simp
 | cons a l ih=>cases k with
  | zero=>simp
  | succ k=>simp only[List.take_succ_cons,List.sum_cons];have:=ih k;omega
theorem total_le (rows:List (Value×Nat×List Value)) (k:Nat):total (rows.take k)≤total rows:=by
 unfold total;rw[List.map_take];exact sum_take_le _ _
set_option maxHeartbeats 800000 in
theorem concat_any (A:Option Addr) (m c:Nat) (rows:List (Value×Nat×List Value)) (w:World) (hm:rows.length=m) (hml:m≤4611686018427387904) (ha:SlAt w A (rows.map (·.1)))
  (hrows:∀ r∈rows,IsSl w 1 r.1 r.2.1 r.2.2) (h1:∀ r∈rows,∀ u∈r.2.2,u.oneCell'=true) (ht:total rows*1≤140737488355328) :
  Calls Tryz.prog 32 #[.slice A m c] w fun e w'=>∃ v,e=.returned v∧w'.ownsRow w.heap.size 5 1 v (total rows) (cellsOf rows)∧Below w.heap.size w w':=by
 have Hm:=Lib.hid hm
 have Ha:=Lib.hid ha
 have Hrows:=Lib.hid hrows
 have H1:=Lib.hid h1
 have Ht:=Lib.hid ht
 clear hm ha hrows h1 ht
 go_enter Tryz.func32,Tryz.ntmps32
 go_wp2_with fail
 go_loop [3,11] (fun s i=>∃ k:Nat,k≤m∧i=.int .i64 k∧s=.int .i64 (total (rows.take k):Nat)) (fun _ i=>m - (intOf i).toNat)
 case atStart=>exact⟨0,Nat.zero_le _,rfl,rfl⟩
 case round=>
  obtain⟨k,hk,rfl,rfl⟩:=hrel
  by_cases hlt:k < m
  ·have hkr:k < rows.length:=by rw[Hm.out];exact hlt
   obtain⟨b,o,rfl,hcell⟩:=Ha.out.get (k:=k) (by simpa using hkr)
   obtain⟨B,cb,hv,hl1,hl2,hl3,hB,hB0⟩:=Hrows.out rows[k] (List.getElem_mem hkr)
   simp only[List.getElem_map]at hcell
   rw[hv]at hcell
   have Hs:=Lib.hid (total_snoc rows k hkr)
   have htl:=total_le rows (k+1)
   rw[Hs.out]at htl
   have hb1:total (rows.take k)+rows[k].2.1≤140737488355328:=by have:=Ht.out;omega
   have hnn:0≤((total (rows.take k):Nat):Int)+((rows[k].2.1:Nat):Int):=by omega
   clear htl hB hB0 hl3 hv
   generalize total (rows.take k)=s0 at *
   generalize rows[k].2.1=n0 at *
   go_wp2_with fail
   go_round
   case rel=>exact⟨k+1,by omega,by go_num,by rw[Hs.out];go_num⟩
   case measure=>simp[intOf];omega
  ·have hk2:k=m:=by omega
   have Hall:Hid (rows.take k=rows):=Lib.hid (List.take_of_length_le (by rw[Hm.out];omega))
   rw[Hall.out]
   have htt:total rows≤140737488355328:=by have:=Ht.out;omega
   obtain⟨T,hT⟩:∃ T,T=total rows:=⟨_,rfl⟩
   rw[←hT]at htt⊢
   have HT:=Lib.hid hT
   clear hT Hall hk2
   go_wp2_with fail
   refine (grow_any T _ (by rw[HT.out];exact Ht.out)).mono ?_
   rintro e w1 ⟨v1,rfl,hown1,hb1⟩
   have Ho:=Lib.hid hown1
   have Hb:=Lib.hid hb1
   clear hown1 hb1
   go_wp2_with fail
   go_loopw [6,27] (fun s i wr=>∃ k:Nat,k≤m∧i=.int .i64 k∧wr.ownsRow w.heap.size 5 1 s (total (rows.take k)) (cellsOf (rows.take k))∧Below w.heap.size w wr) (fun _ i _=>m - (intOf i).toNat)
   case atStart=>exact⟨0,Nat.zero_le _,rfl,Ho.out,Hb.out⟩
   case round=>
    obtain⟨k,hk,rfl,hown,hbr⟩:=hrel
    rename_i v3 _ _ _ _ _ _ _ _ _
    have How:=Lib.hid hown
    have Hbr:=Lib.hid hbr
    by_cases hlt:k < m
    ·have hkr:k < rows.length:=by rw[Hm.out];exact hlt
     obtain⟨b,o,rfl,hcell⟩:=(Ha.out.below hbr).get (k:=k) (by simpa using hkr)
     obtain⟨B,cb,hv,hl1,hl2,hl3,hB,hB0⟩:=(Hrows.out rows[k] (List.getElem_mem hkr)).below hbr
     simp only[List.getElem_map]at hcell
     rw[hv]at hcell
     have Hs:=Lib.hid (total_snoc rows k hkr)
     have Hcs:=Lib.hid (cellsOf_snoc rows k hkr)
     have htl:=total_le rows (k+1)
     rw[Hs.out]at htl
     have hb1:total (rows.take k)+rows[k].2.1≤maxLen∧(total (rows.take k)+rows[k].2.1)*1≤140737488355328:=by
      have:=Ht.out;unfold maxLen;omega
     have HB:=Lib.hid hB
     have HB0:=Lib.hid hB0
     have Hl3:=Lib.hid hl3
     have Hone:=Lib.hid (H1.out rows[k] (List.getElem_mem hkr))
     have Hb1:=Lib.hid hb1
     clear htl hv hB hB0 hl3 hb1 hown hbr
     go_wp2_with (at_builtin;refine wpList_appb rfl (.tmp 31) (.tmp 32) _ rfl 5 _ 1 1 ty _ _ _ rfl How.out Hbr.out B _ cb _ rfl Hl3.out HB.out Hone.out HB0.out Hb1.out.1 Hb1.out.2 ?_;intro v4 w4 hown4 hb4 _ _;have How4:=Lib.hid hown4;have Hb4:=Lib.hid hb4;clear hown4 hb4)
     go_roundw
     case rel=>exact⟨k+1,by omega,by go_num,by rw[Hs.out,Hcs.out];exact How4.out,Hb4.out⟩
     case measure=>simp[intOf];omega
    ·have Hall:Hid (rows.take k=rows):=Lib.hid (List.take_of_length_le (by rw[Hm.out];omega))
     go_wp2_with fail
     go_ret
     exact⟨_,rfl,by have:=How.out;rw[Hall.out]at this;exact this,Hbr.out⟩
end Go.Proofs.YtabdianhoabhhaaGreatDoor.ConcatB
namespace Go.Proofs.YtabdianhoabhhaaGreatDoor
open Go Go.RowKit
set_option linter.unusedVariables false
theorem issl_bytes {w:World} {A:Option Addr} {n c:Nat} {xs:List UInt8} (h:ByAt w A xs) (hn:xs.length=n) (hnc:n≤c) (hc:c≤maxLen):IsSl w 1 (.slice A n c) n (xs.map u8v):=by
 refine⟨A,c,rfl,hnc,hc,by rw[List.length_map,hn,Nat.mul_one],h,fun h0=>?_⟩
 rcases Nat.eq_zero_or_pos n with h1 | h1
 ·exact h1
 ·obtain⟨b,o,e,_⟩:=h (by rw[List.length_map];omega)
  rw[h0]at e;cases e
def catR (q:Value×List UInt8):Value×Nat×List Value:=(q.1,q.2.length,q.2.map u8v)
theorem cat_total (l:List (Value×List UInt8)):ConcatB.total (l.map catR)=(l.map (·.2)).flatten.length:=by
 induction l with
 | nil=>rfl
 | cons q l ih=>
  unfold ConcatB.total at ih⊢
  simp only[List.map_cons,List.sum_cons,List.flatten_cons,List.length_append]
  rw[ih];rfl
theorem cat_cells (l:List (Value×List UInt8)):ConcatB.cellsOf (l.map catR)=(l.map (·.2)).flatten.map u8v:=by
 induction l with
 | nil=>rfl
 | cons q l ih=>
  unfold ConcatB.cellsOf at ih⊢
  simp only[List.map_cons,List.flatten_cons,List.map_append]
  rw[ih];rfl
theorem concat_bytes (A:Option Addr) (m c:Nat) (l:List (Value×List UInt8)) (ys:List UInt8) (w:World) (hm:l.length=m) (hml:m≤4611686018427387904) (ha:SlAt w A (l.map (·.1))) (hd:∀ q∈l,IsBytes w q.1 q.2) (hy:(l.map (·.2)).flatten=ys) (ht:ys.length≤140737488355328) :
  Calls Tryz.prog 32 #[.slice A m c] w fun e w'=>(∃ v,e=.returned v∧w'.ownsRow w.heap.size 5 1 v ys.length (ys.map u8v))∧Below w.heap.size w w':=by
 have e1:=cat_total l
 have e2:=cat_cells l
 rw[hy]at e1 e2
 refine (ConcatB.concat_any A m c (l.map catR) w (by rw[List.length_map,hm]) hml (by rw[List.map_map];exact ha) ?_ ?_ (by rw[e1];omega)).mono ?_
 ·intro r hr
  obtain⟨q,hq,rfl⟩:=List.mem_map.1 hr
  obtain⟨A',c',h1,h2,h3,h4⟩:=hd q hq
  show IsSl w 1 q.1 q.2.length (q.2.map u8v)
  rw[h1]
  exact issl_bytes h4 rfl h2 h3
 ·intro r hr
  obtain⟨q,hq,rfl⟩:=List.mem_map.1 hr
  exact u8s_one q.2
 ·rintro e w' ⟨v,rfl,ho,hb⟩
  rw[e1,e2]at ho
  exact⟨⟨v,rfl,ho⟩,hb⟩
end Go.Proofs.YtabdianhoabhhaaGreatDoor
namespace Go.Proofs.YtabdianhoabhhaaGreatDoor.Zip
open Go Go.RowKit Go.Proofs.YtabdianhoabhhaaGreatDoor Go.Proofs.YtabdianhoabhhaaGreatDoor.Bits Go.Proofs.YtabdianhoabhhaaGreatDoor.Merge Go.Proofs.YtabdianhoabhhaaGreatDoor.Name
set_option linter.unusedVariables false
set_option linter.unusedSimpArgs false
theorem OwnB.bytes {w:World} {base:Nat} {v:Value} {xs:List UInt8} (h:OwnB w base v xs):IsBytes w v xs:=by
 obtain⟨A,c,rfl,h1,h2,h3,_⟩:=h.slice
 exact⟨A,c,rfl,h1,h2,h3⟩
theorem _root_.Go.Proofs.YtabdianhoabhhaaGreatDoor.IsBytes.keep_ {w w':World} {v:Value} {xs:List UInt8} (h:IsBytes w v xs) (hb:Below w.heap.size w w'):IsBytes w' v xs:=by
 obtain⟨A,c,h0,h1,h2,h3⟩:=h
 exact⟨A,c,h0,h1,h2,ByAt.below h3 hb⟩
theorem EntAt.pbytes {w:World} {x:Ex} (h:EntAt w x):IsBytes w (slv x.pk) x.e.packed:=⟨x.pk.1,x.pk.2.2,by unfold slv;rw[h.plen],h.proom,h.pcap,h.pat⟩
theorem conv_str (l:List UInt8) (hl:l.length≤1000000) (w:World):∃ w' c,(convert 9 23 (.string (strB l))).run Tryz.prog w=.ok (.slice (some ⟨w.heap.size,0,none⟩) l.length c) w'∧l.length≤c∧c≤maxLen∧ByAt w' (some ⟨w.heap.size,0,none⟩) l∧Below w.heap.size w w':=by
 have h0:=Lib.run_convert_string_bytes (P:=Tryz.prog) w 9 23 5 (strB l) Tryz.underlying9 Tryz.underlying23 Tryz.underlying5
 rw[strB_size]at h0
 have e:Lib.bytesCells w 5 (strB l)=(l.map u8v++List.replicate (grownCap w (strB l).size 0 5 - (strB l).size) (Value.int .u8 0)).toArray:=by
  simp[Lib.bytesCells,strB]
  exact fun _ _=>rfl
 have hcap:=grownCap_ge w (strB l).size 0 5
 have hcm:=grownCap_le_maxLen w (strB l).size 0 5 (by rw[strB_size];unfold maxLen;omega)
 rw[strB_size]at e hcap hcm
 refine⟨_,_,h0,?_,?_,?_,?_⟩
 ·exact hcap
 ·exact hcm
 ·have h:=Lib.bytesWorld_at_new w 5 (strB l)
  rw[e]at h
  refine fun hp=>⟨w.heap.size,0,rfl,fun j v hj=>?_⟩
  rw[cell_of_row _ _ _ _ _ _ h]
  rw[Nat.zero_add,List.getElem?_toArray,List.getElem?_append_left (by
   rcases Nat.lt_or_ge j (l.map u8v).length with h1 | h1
   ·exact h1
   ·rw[List.getElem?_eq_none h1]at hj;cases hj)]
  exact hj
 ·refine⟨?_,?_,?_,by rw[Lib.bytesWorld_size];omega,fun k hk=>Lib.bytesWorld_at_old w _ _ k hk⟩ <;> rfl
theorem cat_new (rs:List (Value×List UInt8)) (ys:List UInt8) (n:Nat) (w:World) (hn:rs.length=n) (hr:∀ q∈rs,IsBytes w q.1 q.2) (hy:(rs.map (·.2)).flatten=ys) (ht:ys.length≤140737488355328) (hn2:n≤100) (cs:Array Value) (hc:cs=(rs.map (·.1)).toArray) :
  Calls Tryz.prog 32 #[.slice (some ⟨w.heap.size,0,none⟩) n n] (w.alloc (.cells cs 23)) fun e w'=>(∃ v,e=.returned v∧OwnB w' w.heap.size v ys)∧Below w.heap.size w w':=by
 have hba:Below w.heap.size w (w.alloc (.cells cs 23)):=(Below.refl _ _).alloc (Nat.le_refl _) _
 refine (concat_bytes (some ⟨w.heap.size,0,none⟩) n n rs ys _ hn (by omega) (SlAt.of_heap (heap_alloc_new _ _) (by rw[hc])) (fun q hq=>(hr q hq).keep_ hba) hy ht).mono ?_
 rintro e w' ⟨⟨v,rfl,ho⟩,hb⟩
 exact⟨⟨v,rfl,own_base ho hba.size⟩,hba.trans (hb.mono hba.size)⟩
set_option maxRecDepth 100000 in
set_option maxHeartbeats 3000000 in
theorem here_any (x:Ex) (w:World) (hg:Good x.e) (hx:EntAt w x) :
  Calls Tryz.prog 63 #[eV x] w fun e w'=>(∃ v,e=.returned v∧OwnB w' w.heap.size v (hereB x.e))∧Below w.heap.size w w':=by
 have HM:=Lib.hid (fun w'=>middle_any x w' hg hx.blen hx.plen)
 have HX:=Lib.hid (fun w'=>extra_any x w' hg)
 have HCv:=Lib.hid (conv_str x.e.f.name (by have:=hg.name;omega))
 have HPk:=Lib.hid hx.pbytes
 have hlen:=here_len x.e
 have hg1:=hg.name
 have hg2:=hg.packed
 clear hg hx
 unfold eV at HM HX⊢
 go_enter Tryz.func63,Tryz.ntmps63
 go_wp2_with fail
 refine wp_region_S (fun W=>Blk W w.heap.size 78 (eC x).toArray) 13 (by kernel_rfl) ?_
 have hba:Below w.heap.size w (w.alloc (.cells #[.string (strB x.e.f.name),slv x.bs,.int .i64 x.e.f.stamp,.int .i64 x.e.f.node,.bool x.e.f.gone,.int .i64 (x.e.method:Int),slv x.pk,.int .u32 (x.e.crc:Int),.int .i64 (x.at_:Int)] 78)).drew:=((Below.refl _ _).alloc (Nat.le_refl _) _).drew
 have HB1:Hid (Blk (w.alloc (.cells #[.string (strB x.e.f.name),slv x.bs,.int .i64 x.e.f.stamp,.int .i64 x.e.f.node,.bool x.e.f.gone,.int .i64 (x.e.method:Int),slv x.pk,.int .u32 (x.e.crc:Int),.int .i64 (x.at_:Int)] 78)).drew w.heap.size 78 (eC x).toArray):=Lib.hid (Blk.new w 78 #[.string (strB x.e.f.name),slv x.bs,.int .i64 x.e.f.stamp,.int .i64 x.e.f.node,.bool x.e.f.gone,.int .i64 (x.e.method:Int),slv x.pk,.int .u32 (x.e.crc:Int),.int .i64 (x.at_:Int)])
 have Hb1:=Lib.hid hba
 have HRp1:=Lib.hid (HPk.out.keep_ hba)
 have hHeld:=HB1.out
 generalize (w.alloc (.cells #[.string (strB x.e.f.name),slv x.bs,.int .i64 x.e.f.stamp,.int .i64 x.e.f.node,.bool x.e.f.gone,.int .i64 (x.e.method:Int),slv x.pk,.int .u32 (x.e.crc:Int),.int .i64 (x.at_:Int)] 78)).drew=w1 at *
 clear hba HPk
 refine wpAnyS_takeT (i:=1) (v:=?va1) (by kernel_rfl) (by kernel_rfl) rfl (by kernel_rfl) (by kernel_rfl) (by kernel_rfl) (fun _ _ _ h=>h) (by rfl) (by assumption) ?hya1 ?resta1
 case hya1=>(intro W hSW;obtain⟨c0,c1,c2,c3,c4,c5,c6,c7,c8⟩:=e_cells hSW;go_simp;try with_reducible rfl)
 (try simp only[Act.put,List.getElem_toArray,List.getElem_cons_zero,List.getElem_cons_succ,List.setIfInBounds_toArray,List.set_cons_zero,List.set_cons_succ])
 refine wpAnyS_takeT (i:=3) (v:=?va3) (by kernel_rfl) (by kernel_rfl) rfl (by kernel_rfl) (by kernel_rfl) (by kernel_rfl) (fun _ _ _ h=>h) (by rfl) (by assumption) ?hya3 ?resta3
 case hya3=>(intro W hSW;obtain⟨c0,c1,c2,c3,c4,c5,c6,c7,c8⟩:=e_cells hSW;go_simp;try with_reducible rfl)
 (try simp only[Act.put,List.getElem_toArray,List.getElem_cons_zero,List.getElem_cons_succ,List.setIfInBounds_toArray,List.set_cons_zero,List.set_cons_succ])
 refine wpAnyS_takeT (i:=4) (v:=?va4) (by kernel_rfl) (by kernel_rfl) rfl (by kernel_rfl) (by kernel_rfl) (by kernel_rfl) (fun _ _ _ h=>h) (by rfl) (by assumption) ?hya4 ?resta4
 case hya4=>(intro W hSW;obtain⟨c0,c1,c2,c3,c4,c5,c6,c7,c8⟩:=e_cells hSW;go_simp;try with_reducible rfl)
 (try simp only[Act.put,List.getElem_toArray,List.getElem_cons_zero,List.getElem_cons_succ,List.setIfInBounds_toArray,List.set_cons_zero,List.set_cons_succ])
 refine wpAnyS_takeT (i:=5) (v:=?va5) (by kernel_rfl) (by kernel_rfl) rfl (by kernel_rfl) (by kernel_rfl) (by kernel_rfl) (fun _ _ _ h=>h) (by rfl) (by assumption) ?hya5 ?resta5
 case hya5=>(intro W hSW;obtain⟨c0,c1,c2,c3,c4,c5,c6,c7,c8⟩:=e_cells hSW;go_simp;try with_reducible rfl)
 (try simp only[Act.put,List.getElem_toArray,List.getElem_cons_zero,List.getElem_cons_succ,List.setIfInBounds_toArray,List.set_cons_zero,List.set_cons_succ])
 refine wpAnyS_takeT (i:=7) (v:=?va7) (by kernel_rfl) (by kernel_rfl) rfl (by kernel_rfl) (by kernel_rfl) (by kernel_rfl) (fun _ _ _ h=>h) (by rfl) (by assumption) ?hya7 ?resta7
 case hya7=>(intro W hSW;obtain⟨c0,c1,c2,c3,c4,c5,c6,c7,c8⟩:=e_cells hSW;go_simp;try with_reducible rfl)
 (try simp only[Act.put,List.getElem_toArray,List.getElem_cons_zero,List.getElem_cons_succ,List.setIfInBounds_toArray,List.set_cons_zero,List.set_cons_succ])
 refine wpAnyS_takeT (i:=9) (v:=?va9) (by kernel_rfl) (by kernel_rfl) rfl (by kernel_rfl) (by kernel_rfl) (by kernel_rfl) (fun _ _ _ h=>h) (by rfl) (by assumption) ?hya9 ?resta9
 case hya9=>(intro W hSW;obtain⟨c0,c1,c2,c3,c4,c5,c6,c7,c8⟩:=e_cells hSW;go_simp;try with_reducible rfl)
 (try simp only[Act.put,List.getElem_toArray,List.getElem_cons_zero,List.getElem_cons_succ,List.setIfInBounds_toArray,List.set_cons_zero,List.set_cons_succ])
 refine wpAnyS_takeT (i:=10) (v:=?va10) (by kernel_rfl) (by kernel_rfl) rfl (by kernel_rfl) (by kernel_rfl) (by kernel_rfl) (fun _ _ _ h=>h) (by rfl) (by assumption) ?hya10 ?resta10
 case hya10=>(intro W hSW;obtain⟨c0,c1,c2,c3,c4,c5,c6,c7,c8⟩:=e_cells hSW;go_simp;try with_reducible rfl)
 (try simp only[Act.put,List.getElem_toArray,List.getElem_cons_zero,List.getElem_cons_succ,List.setIfInBounds_toArray,List.set_cons_zero,List.set_cons_succ])
 refine wpAnyS_two (i:=0) (j:=6) rfl rfl (by kernel_rfl) (fun K hK=>?_) (fun K hK=>?_)
 ·go_simp
  clear hHeld
  go_at_call 65
  refine (num_z w1.heap.size (.slice none 0 0) [] 67324752 4 67324752 4 w1 (OwnB.nil _ _) (Nat.le_refl _) rfl rfl (by omega) (by omega) (by simp)).mono ?_
  rintro e w2 ⟨⟨us,rfl,ho⟩,hb⟩
  obtain⟨As,cs,rfl,_⟩:=ho.slice
  have HRp2:=Lib.hid (HRp1.out.keep_ hb)
  have HB2:=Lib.hid (HB1.out.below hb HB1.out.lt)
  have Hb2:=Lib.hid (Hb1.out.trans (hb.mono Hb1.out.size))
  have HRs2:=Lib.hid ho.bytes
  clear ho hb
  refine hK.out _ _ HB2.out (fun hHeld=>?_)
  clear hK K
  (try simp only[Act.put,List.getElem_toArray,List.getElem_cons_zero,List.getElem_cons_succ,List.setIfInBounds_toArray,List.set_cons_zero,List.set_cons_succ])
  refine wpAnyS_two (i:=2) (j:=6) rfl rfl (by kernel_rfl) (fun K hK=>?_) (fun K hK=>?_)
  ·go_simp
   clear hHeld
   go_at_call 84
   refine (HM.out w2).mono ?_
   rintro e w3 ⟨⟨um,rfl,ho⟩,hb⟩
   obtain⟨Am,cm,rfl,_⟩:=ho.slice
   have HRp3:=Lib.hid (HRp2.out.keep_ hb)
   have HRs3:=Lib.hid (HRs2.out.keep_ hb)
   have HB3:=Lib.hid (HB2.out.below hb HB2.out.lt)
   have Hb3:=Lib.hid (Hb2.out.trans (hb.mono Hb2.out.size))
   have HRm3:=Lib.hid ho.bytes
   clear ho hb
   refine hK.out _ _ HB3.out (fun hHeld=>?_)
   clear hK K
   (try simp only[Act.put,List.getElem_toArray,List.getElem_cons_zero,List.getElem_cons_succ,List.setIfInBounds_toArray,List.set_cons_zero,List.set_cons_succ])
   refine wpAnyS_two (i:=6) (j:=8) rfl rfl (by kernel_rfl) (fun K hK=>?_) (fun K hK=>?_)
   ·obtain⟨w4,cn,hcv,hn1,hn2,hby,hb⟩:=HCv.out w3
    go_simp
    clear hHeld hcv
    have HRp4:=Lib.hid (HRp3.out.keep_ hb)
    have HRs4:=Lib.hid (HRs3.out.keep_ hb)
    have HRm4:=Lib.hid (HRm3.out.keep_ hb)
    have HB4:=Lib.hid (HB3.out.below hb HB3.out.lt)
    have Hb4:=Lib.hid (Hb3.out.trans (hb.mono Hb3.out.size))
    have HRn4:Hid (IsBytes w4 _ x.e.f.name):=Lib.hid ⟨_,cn,rfl,hn1,hn2,hby⟩
    clear hby hb hn1 hn2
    refine hK.out _ _ HB4.out (fun hHeld=>?_)
    clear hK K
    (try simp only[Act.put,List.getElem_toArray,List.getElem_cons_zero,List.getElem_cons_succ,List.setIfInBounds_toArray,List.set_cons_zero,List.set_cons_succ])
    refine wpAnyS_only (i:=8) rfl (by kernel_rfl) (fun K hK=>?_)
    go_simp
    clear hHeld
    go_at_call 85
    refine (HX.out w4).mono ?_
    rintro e w5 ⟨⟨ux,rfl,ho⟩,hb⟩
    obtain⟨Ax,cx,rfl,_⟩:=ho.slice
    have HRp5:=Lib.hid (HRp4.out.keep_ hb)
    have HRs5:=Lib.hid (HRs4.out.keep_ hb)
    have HRm5:=Lib.hid (HRm4.out.keep_ hb)
    have HRn5:=Lib.hid (HRn4.out.keep_ hb)
    have HB5:=Lib.hid (HB4.out.below hb HB4.out.lt)
    have Hb5:=Lib.hid (Hb4.out.trans (hb.mono Hb4.out.size))
    have HRx5:=Lib.hid ho.bytes
    clear ho hb
    refine hK.out _ _ HB5.out (fun hHeld=>?_)
    clear hK K
    (try simp only[Act.put,List.getElem_toArray,List.getElem_cons_zero,List.getElem_cons_succ,List.setIfInBounds_toArray,List.set_cons_zero,List.set_cons_succ])
    rw[show slv x.pk=Value.slice x.pk.1 x.pk.2.1 x.pk.2.2 from rfl]
    refine wpAnyS_only (i:=11) rfl (by kernel_rfl) (fun K hK=>?_)
    go_simp
    have HC:=Lib.hid (cat_new [(.slice As (([]:List UInt8)++lowB 4 67324752).length cs,signB),(.slice Am (middleB x.e).length cm,middleB x.e),(.slice (some ⟨w3.heap.size,0,none⟩) x.e.f.name.length cn,x.e.f.name),(.slice Ax (extraB x.e.f).length cx,extraB x.e.f),(.slice x.pk.1 x.pk.2.1 x.pk.2.2,x.e.packed)] (hereB x.e) 5 w5 rfl (by
     intro q hq
     simp only[List.mem_cons,List.not_mem_nil,or_false]at hq
     rcases hq with rfl | rfl | rfl | rfl | rfl
     ·exact HRs5.out
     ·exact HRm5.out
     ·exact HRn5.out
     ·exact HRx5.out
     ·exact HRp5.out
    ) (by simp only[List.map_cons,List.map_nil,List.flatten_cons,List.flatten_nil,List.append_nil,hereB,List.append_assoc]) (by omega) (by omega) _ rfl)
    have hba:Below w5.heap.size w5 (w5.alloc (.cells #[.slice As (([]:List UInt8)++lowB 4 67324752).length cs,.slice Am (middleB x.e).length cm,.slice (some ⟨w3.heap.size,0,none⟩) x.e.f.name.length cn,.slice Ax (extraB x.e.f).length cx,.slice x.pk.1 x.pk.2.1 x.pk.2.2] 23)):=(Below.refl _ _).alloc (Nat.le_refl _) _
    refine hK.out _ _ (HB5.out.below hba HB5.out.lt) (fun hHeld=>?_)
    clear hK K
    (try simp only[Act.put,List.getElem_toArray,List.getElem_cons_zero,List.getElem_cons_succ,List.setIfInBounds_toArray,List.set_cons_zero,List.set_cons_succ])
    refine wpAnyS_only (i:=12) rfl (by kernel_rfl) (fun K hK=>?_)
    go_simp
    go_at_call 32
    refine (HC.out).mono ?_
    rintro e wz ⟨⟨vz,rfl,hoz⟩,hbz⟩
    have Hoz:=Lib.hid hoz
    have Hbz:=Lib.hid (Hb5.out.trans (hbz.mono Hb5.out.size))
    refine hK.out _ _ (HB5.out.below hbz HB5.out.lt) (fun hHeld=>?_)
    clear hK K hoz hbz hba
    (try simp only[Act.put,List.getElem_toArray,List.getElem_cons_zero,List.getElem_cons_succ,List.setIfInBounds_toArray,List.set_cons_zero,List.set_cons_succ])
    refine wpAnyS_last rfl (by kernel_rfl) (by kernel_rfl) (fun K hK=>?_)
    go_simp
    refine hK.out _ _ ?_
    clear hK K hHeld
    go_wp2_with fail
    go_ret
    exact⟨⟨_,rfl,own_base Hoz.out Hb5.out.size⟩,Hbz.out⟩
   ·go_simp
    clear hHeld
    go_at_call 85
    refine (HX.out w3).mono ?_
    rintro e w4 ⟨⟨ux,rfl,ho⟩,hb⟩
    obtain⟨Ax,cx,rfl,_⟩:=ho.slice
    have HRp4:=Lib.hid (HRp3.out.keep_ hb)
    have HRs4:=Lib.hid (HRs3.out.keep_ hb)
    have HRm4:=Lib.hid (HRm3.out.keep_ hb)
    have HB4:=Lib.hid (HB3.out.below hb HB3.out.lt)
    have Hb4:=Lib.hid (Hb3.out.trans (hb.mono Hb3.out.size))
    have HRx4:=Lib.hid ho.bytes
    clear ho hb
    refine hK.out _ _ HB4.out (fun hHeld=>?_)
    clear hK K
    (try simp only[Act.put,List.getElem_toArray,List.getElem_cons_zero,List.getElem_cons_succ,List.setIfInBounds_toArray,List.set_cons_zero,List.set_cons_succ])
    refine wpAnyS_only (i:=6) rfl (by kernel_rfl) (fun K hK=>?_)
    obtain⟨w5,cn,hcv,hn1,hn2,hby,hb⟩:=HCv.out w4
    go_simp
    clear hHeld hcv
    have HRp5:=Lib.hid (HRp4.out.keep_ hb)
    have HRs5:=Lib.hid (HRs4.out.keep_ hb)
    have HRm5:=Lib.hid (HRm4.out.keep_ hb)
    have HRx5:=Lib.hid (HRx4.out.keep_ hb)
    have HB5:=Lib.hid (HB4.out.below hb HB4.out.lt)
    have Hb5:=Lib.hid (Hb4.out.trans (hb.mono Hb4.out.size))
    have HRn5:Hid (IsBytes w5 _ x.e.f.name):=Lib.hid ⟨_,cn,rfl,hn1,hn2,hby⟩
    clear hby hb hn1 hn2
    refine hK.out _ _ HB5.out (fun hHeld=>?_)
    clear hK K
    (try simp only[Act.put,List.getElem_toArray,List.getElem_cons_zero,List.getElem_cons_succ,List.setIfInBounds_toArray,List.set_cons_zero,List.set_cons_succ])
    rw[show slv x.pk=Value.slice x.pk.1 x.pk.2.1 x.pk.2.2 from rfl]
    refine wpAnyS_only (i:=11) rfl (by kernel_rfl) (fun K hK=>?_)
    go_simp
    have HC:=Lib.hid (cat_new [(.slice As (([]:List UInt8)++lowB 4 67324752).length cs,signB),(.slice Am (middleB x.e).length cm,middleB x.e),(.slice (some ⟨w4.heap.size,0,none⟩) x.e.f.name.length cn,x.e.f.name),(.slice Ax (extraB x.e.f).length cx,extraB x.e.f),(.slice x.pk.1 x.pk.2.1 x.pk.2.2,x.e.packed)] (hereB x.e) 5 w5 rfl (by
     intro q hq
     simp only[List.mem_cons,List.not_mem_nil,or_false]at hq
     rcases hq with rfl | rfl | rfl | rfl | rfl
     ·exact HRs5.out
     ·exact HRm5.out
     ·exact HRn5.out
     ·exact HRx5.out
     ·exact HRp5.out
    ) (by simp only[List.map_cons,List.map_nil,List.flatten_cons,List.flatten_nil,List.append_nil,hereB,List.append_assoc]) (by omega) (by omega) _ rfl)
    have hba:Below w5.heap.size w5 (w5.alloc (.cells #[.slice As (([]:List UInt8)++lowB 4 67324752).length cs,.slice Am (middleB x.e).length cm,.slice (some ⟨w4.heap.size,0,none⟩) x.e.f.name.length cn,.slice Ax (extraB x.e.f).length cx,.slice x.pk.1 x.pk.2.1 x.pk.2.2] 23)):=(Below.refl _ _).alloc (Nat.le_refl _) _
    refine hK.out _ _ (HB5.out.below hba HB5.out.lt) (fun hHeld=>?_)
    clear hK K
    (try simp only[Act.put,List.getElem_toArray,List.getElem_cons_zero,List.getElem_cons_succ,List.setIfInBounds_toArray,List.set_cons_zero,List.set_cons_succ])
    refine wpAnyS_only (i:=12) rfl (by kernel_rfl) (fun K hK=>?_)
    go_simp
    go_at_call 32
    refine (HC.out).mono ?_
    rintro e wz ⟨⟨vz,rfl,hoz⟩,hbz⟩
    have Hoz:=Lib.hid hoz
    have Hbz:=Lib.hid (Hb5.out.trans (hbz.mono Hb5.out.size))
    refine hK.out _ _ (HB5.out.below hbz HB5.out.lt) (fun hHeld=>?_)
    clear hK K hoz hbz hba
    (try simp only[Act.put,List.getElem_toArray,List.getElem_cons_zero,List.getElem_cons_succ,List.setIfInBounds_toArray,List.set_cons_zero,List.set_cons_succ])
    refine wpAnyS_last rfl (by kernel_rfl) (by kernel_rfl) (fun K hK=>?_)
    go_simp
    refine hK.out _ _ ?_
    clear hK K hHeld
    go_wp2_with fail
    go_ret
    exact⟨⟨_,rfl,own_base Hoz.out Hb5.out.size⟩,Hbz.out⟩
  ·obtain⟨w3,cn,hcv,hn1,hn2,hby,hb⟩:=HCv.out w2
   go_simp
   clear hHeld hcv
   have HRp3:=Lib.hid (HRp2.out.keep_ hb)
   have HRs3:=Lib.hid (HRs2.out.keep_ hb)
   have HB3:=Lib.hid (HB2.out.below hb HB2.out.lt)
   have Hb3:=Lib.hid (Hb2.out.trans (hb.mono Hb2.out.size))
   have HRn3:Hid (IsBytes w3 _ x.e.f.name):=Lib.hid ⟨_,cn,rfl,hn1,hn2,hby⟩
   clear hby hb hn1 hn2
   refine hK.out _ _ HB3.out (fun hHeld=>?_)
   clear hK K
   (try simp only[Act.put,List.getElem_toArray,List.getElem_cons_zero,List.getElem_cons_succ,List.setIfInBounds_toArray,List.set_cons_zero,List.set_cons_succ])
   refine wpAnyS_only (i:=2) rfl (by kernel_rfl) (fun K hK=>?_)
   go_simp
   clear hHeld
   go_at_call 84
   refine (HM.out w3).mono ?_
   rintro e w4 ⟨⟨um,rfl,ho⟩,hb⟩
   obtain⟨Am,cm,rfl,_⟩:=ho.slice
   have HRp4:=Lib.hid (HRp3.out.keep_ hb)
   have HRs4:=Lib.hid (HRs3.out.keep_ hb)
   have HRn4:=Lib.hid (HRn3.out.keep_ hb)
   have HB4:=Lib.hid (HB3.out.below hb HB3.out.lt)
   have Hb4:=Lib.hid (Hb3.out.trans (hb.mono Hb3.out.size))
   have HRm4:=Lib.hid ho.bytes
   clear ho hb
   refine hK.out _ _ HB4.out (fun hHeld=>?_)
   clear hK K
   (try simp only[Act.put,List.getElem_toArray,List.getElem_cons_zero,List.getElem_cons_succ,List.setIfInBounds_toArray,List.set_cons_zero,List.set_cons_succ])
   refine wpAnyS_only (i:=8) rfl (by kernel_rfl) (fun K hK=>?_)
   go_simp
   clear hHeld
   go_at_call 85
   refine (HX.out w4).mono ?_
   rintro e w5 ⟨⟨ux,rfl,ho⟩,hb⟩
   obtain⟨Ax,cx,rfl,_⟩:=ho.slice
   have HRp5:=Lib.hid (HRp4.out.keep_ hb)
   have HRs5:=Lib.hid (HRs4.out.keep_ hb)
   have HRn5:=Lib.hid (HRn4.out.keep_ hb)
   have HRm5:=Lib.hid (HRm4.out.keep_ hb)
   have HB5:=Lib.hid (HB4.out.below hb HB4.out.lt)
   have Hb5:=Lib.hid (Hb4.out.trans (hb.mono Hb4.out.size))
   have HRx5:=Lib.hid ho.bytes
   clear ho hb
   refine hK.out _ _ HB5.out (fun hHeld=>?_)
   clear hK K
   (try simp only[Act.put,List.getElem_toArray,List.getElem_cons_zero,List.getElem_cons_succ,List.setIfInBounds_toArray,List.set_cons_zero,List.set_cons_succ])
   rw[show slv x.pk=Value.slice x.pk.1 x.pk.2.1 x.pk.2.2 from rfl]
   refine wpAnyS_only (i:=11) rfl (by kernel_rfl) (fun K hK=>?_)
   go_simp
   have HC:=Lib.hid (cat_new [(.slice As (([]:List UInt8)++lowB 4 67324752).length cs,signB),(.slice Am (middleB x.e).length cm,middleB x.e),(.slice (some ⟨w2.heap.size,0,none⟩) x.e.f.name.length cn,x.e.f.name),(.slice Ax (extraB x.e.f).length cx,extraB x.e.f),(.slice x.pk.1 x.pk.2.1 x.pk.2.2,x.e.packed)] (hereB x.e) 5 w5 rfl (by
    intro q hq
    simp only[List.mem_cons,List.not_mem_nil,or_false]at hq
    rcases hq with rfl | rfl | rfl | rfl | rfl
    ·exact HRs5.out
    ·exact HRm5.out
    ·exact HRn5.out
    ·exact HRx5.out
    ·exact HRp5.out
   ) (by simp only[List.map_cons,List.map_nil,List.flatten_cons,List.flatten_nil,List.append_nil,hereB,List.append_assoc]) (by omega) (by omega) _ rfl)
   have hba:Below w5.heap.size w5 (w5.alloc (.cells #[.slice As (([]:List UInt8)++lowB 4 67324752).length cs,.slice Am (middleB x.e).length cm,.slice (some ⟨w2.heap.size,0,none⟩) x.e.f.name.length cn,.slice Ax (extraB x.e.f).length cx,.slice x.pk.1 x.pk.2.1 x.pk.2.2] 23)):=(Below.refl _ _).alloc (Nat.le_refl _) _
   refine hK.out _ _ (HB5.out.below hba HB5.out.lt) (fun hHeld=>?_)
   clear hK K
   (try simp only[Act.put,List.getElem_toArray,List.getElem_cons_zero,List.getElem_cons_succ,List.setIfInBounds_toArray,List.set_cons_zero,List.set_cons_succ])
   refine wpAnyS_only (i:=12) rfl (by kernel_rfl) (fun K hK=>?_)
   go_simp
   go_at_call 32
   refine (HC.out).mono ?_
   rintro e wz ⟨⟨vz,rfl,hoz⟩,hbz⟩
   have Hoz:=Lib.hid hoz
   have Hbz:=Lib.hid (Hb5.out.trans (hbz.mono Hb5.out.size))
   refine hK.out _ _ (HB5.out.below hbz HB5.out.lt) (fun hHeld=>?_)
   clear hK K hoz hbz hba
   (try simp only[Act.put,List.getElem_toArray,List.getElem_cons_zero,List.getElem_cons_succ,List.setIfInBounds_toArray,List.set_cons_zero,List.set_cons_succ])
   refine wpAnyS_last rfl (by kernel_rfl) (by kernel_rfl) (fun K hK=>?_)
   go_simp
   refine hK.out _ _ ?_
   clear hK K hHeld
   go_wp2_with fail
   go_ret
   exact⟨⟨_,rfl,own_base Hoz.out Hb5.out.size⟩,Hbz.out⟩
 ·obtain⟨w2,cn,hcv,hn1,hn2,hby,hb⟩:=HCv.out w1
  go_simp
  clear hHeld hcv
  have HRp2:=Lib.hid (HRp1.out.keep_ hb)
  have HB2:=Lib.hid (HB1.out.below hb HB1.out.lt)
  have Hb2:=Lib.hid (Hb1.out.trans (hb.mono Hb1.out.size))
  have HRn2:Hid (IsBytes w2 _ x.e.f.name):=Lib.hid ⟨_,cn,rfl,hn1,hn2,hby⟩
  clear hby hb hn1 hn2
  refine hK.out _ _ HB2.out (fun hHeld=>?_)
  clear hK K
  (try simp only[Act.put,List.getElem_toArray,List.getElem_cons_zero,List.getElem_cons_succ,List.setIfInBounds_toArray,List.set_cons_zero,List.set_cons_succ])
  refine wpAnyS_only (i:=0) rfl (by kernel_rfl) (fun K hK=>?_)
  go_simp
  clear hHeld
  go_at_call 65
  refine (num_z w2.heap.size (.slice none 0 0) [] 67324752 4 67324752 4 w2 (OwnB.nil _ _) (Nat.le_refl _) rfl rfl (by omega) (by omega) (by simp)).mono ?_
  rintro e w3 ⟨⟨us,rfl,ho⟩,hb⟩
  obtain⟨As,cs,rfl,_⟩:=ho.slice
  have HRp3:=Lib.hid (HRp2.out.keep_ hb)
  have HRn3:=Lib.hid (HRn2.out.keep_ hb)
  have HB3:=Lib.hid (HB2.out.below hb HB2.out.lt)
  have Hb3:=Lib.hid (Hb2.out.trans (hb.mono Hb2.out.size))
  have HRs3:=Lib.hid ho.bytes
  clear ho hb
  refine hK.out _ _ HB3.out (fun hHeld=>?_)
  clear hK K
  (try simp only[Act.put,List.getElem_toArray,List.getElem_cons_zero,List.getElem_cons_succ,List.setIfInBounds_toArray,List.set_cons_zero,List.set_cons_succ])
  refine wpAnyS_only (i:=2) rfl (by kernel_rfl) (fun K hK=>?_)
  go_simp
  clear hHeld
  go_at_call 84
  refine (HM.out w3).mono ?_
  rintro e w4 ⟨⟨um,rfl,ho⟩,hb⟩
  obtain⟨Am,cm,rfl,_⟩:=ho.slice
  have HRp4:=Lib.hid (HRp3.out.keep_ hb)
  have HRn4:=Lib.hid (HRn3.out.keep_ hb)
  have HRs4:=Lib.hid (HRs3.out.keep_ hb)
  have HB4:=Lib.hid (HB3.out.below hb HB3.out.lt)
  have Hb4:=Lib.hid (Hb3.out.trans (hb.mono Hb3.out.size))
  have HRm4:=Lib.hid ho.bytes
  clear ho hb
  refine hK.out _ _ HB4.out (fun hHeld=>?_)
  clear hK K
  (try simp only[Act.put,List.getElem_toArray,List.getElem_cons_zero,List.getElem_cons_succ,List.setIfInBounds_toArray,List.set_cons_zero,List.set_cons_succ])
  refine wpAnyS_only (i:=8) rfl (by kernel_rfl) (fun K hK=>?_)
  go_simp
  clear hHeld
  go_at_call 85
  refine (HX.out w4).mono ?_
  rintro e w5 ⟨⟨ux,rfl,ho⟩,hb⟩
  obtain⟨Ax,cx,rfl,_⟩:=ho.slice
  have HRp5:=Lib.hid (HRp4.out.keep_ hb)
  have HRn5:=Lib.hid (HRn4.out.keep_ hb)
  have HRs5:=Lib.hid (HRs4.out.keep_ hb)
  have HRm5:=Lib.hid (HRm4.out.keep_ hb)
  have HB5:=Lib.hid (HB4.out.below hb HB4.out.lt)
  have Hb5:=Lib.hid (Hb4.out.trans (hb.mono Hb4.out.size))
  have HRx5:=Lib.hid ho.bytes
  clear ho hb
  refine hK.out _ _ HB5.out (fun hHeld=>?_)
  clear hK K
  (try simp only[Act.put,List.getElem_toArray,List.getElem_cons_zero,List.getElem_cons_succ,List.setIfInBounds_toArray,List.set_cons_zero,List.set_cons_succ])
  rw[show slv x.pk=Value.slice x.pk.1 x.pk.2.1 x.pk.2.2 from rfl]
  refine wpAnyS_only (i:=11) rfl (by kernel_rfl) (fun K hK=>?_)
  go_simp
  have HC:=Lib.hid (cat_new [(.slice As (([]:List UInt8)++lowB 4 67324752).length cs,signB),(.slice Am (middleB x.e).length cm,middleB x.e),(.slice (some ⟨w1.heap.size,0,none⟩) x.e.f.name.length cn,x.e.f.name),(.slice Ax (extraB x.e.f).length cx,extraB x.e.f),(.slice x.pk.1 x.pk.2.1 x.pk.2.2,x.e.packed)] (hereB x.e) 5 w5 rfl (by
   intro q hq
   simp only[List.mem_cons,List.not_mem_nil,or_false]at hq
   rcases hq with rfl | rfl | rfl | rfl | rfl
   ·exact HRs5.out
   ·exact HRm5.out
   ·exact HRn5.out
   ·exact HRx5.out
   ·exact HRp5.out
  ) (by simp only[List.map_cons,List.map_nil,List.flatten_cons,List.flatten_nil,List.append_nil,hereB,List.append_assoc]) (by omega) (by omega) _ rfl)
  have hba:Below w5.heap.size w5 (w5.alloc (.cells #[.slice As (([]:List UInt8)++lowB 4 67324752).length cs,.slice Am (middleB x.e).length cm,.slice (some ⟨w1.heap.size,0,none⟩) x.e.f.name.length cn,.slice Ax (extraB x.e.f).length cx,.slice x.pk.1 x.pk.2.1 x.pk.2.2] 23)):=(Below.refl _ _).alloc (Nat.le_refl _) _
  refine hK.out _ _ (HB5.out.below hba HB5.out.lt) (fun hHeld=>?_)
  clear hK K
  (try simp only[Act.put,List.getElem_toArray,List.getElem_cons_zero,List.getElem_cons_succ,List.setIfInBounds_toArray,List.set_cons_zero,List.set_cons_succ])
  refine wpAnyS_only (i:=12) rfl (by kernel_rfl) (fun K hK=>?_)
  go_simp
  go_at_call 32
  refine (HC.out).mono ?_
  rintro e wz ⟨⟨vz,rfl,hoz⟩,hbz⟩
  have Hoz:=Lib.hid hoz
  have Hbz:=Lib.hid (Hb5.out.trans (hbz.mono Hb5.out.size))
  refine hK.out _ _ (HB5.out.below hbz HB5.out.lt) (fun hHeld=>?_)
  clear hK K hoz hbz hba
  (try simp only[Act.put,List.getElem_toArray,List.getElem_cons_zero,List.getElem_cons_succ,List.setIfInBounds_toArray,List.set_cons_zero,List.set_cons_succ])
  refine wpAnyS_last rfl (by kernel_rfl) (by kernel_rfl) (fun K hK=>?_)
  go_simp
  refine hK.out _ _ ?_
  clear hK K hHeld
  go_wp2_with fail
  go_ret
  exact⟨⟨_,rfl,own_base Hoz.out Hb5.out.size⟩,Hbz.out⟩
end Go.Proofs.YtabdianhoabhhaaGreatDoor.Zip
namespace Go.Proofs.YtabdianhoabhhaaGreatDoor.Zip
open Go Go.RowKit Go.Proofs.YtabdianhoabhhaaGreatDoor Go.Proofs.YtabdianhoabhhaaGreatDoor.Bits Go.Proofs.YtabdianhoabhhaaGreatDoor.Merge Go.Proofs.YtabdianhoabhhaaGreatDoor.Name
set_option linter.unusedVariables false
set_option linter.unusedSimpArgs false
set_option maxRecDepth 100000 in
set_option maxHeartbeats 3000000 in
theorem there_any (x:Ex) (w:World) (hg:Good x.e) (hx:EntAt w x) (hat:x.at_ < 4294967296) :
  Calls Tryz.prog 64 #[eV x] w fun e w'=>(∃ v,e=.returned v∧OwnB w' w.heap.size v (thereB x.e x.at_))∧Below w.heap.size w w':=by
 have HM:=Lib.hid (fun w'=>middle_any x w' hg hx.blen hx.plen)
 have HX:=Lib.hid (fun w'=>extra_any x w' hg)
 have HCv:=Lib.hid (conv_str x.e.f.name (by have:=hg.name;omega))
 have hlen:=there_len x.e x.at_
 have hml:=middle_len x.e
 have hg1:=hg.name
 clear hg hx
 unfold eV at HM HX⊢
 go_enter Tryz.func64,Tryz.ntmps64
 obtain⟨b,hb⟩:∃ b,b=w.heap.size+1:=⟨_,rfl⟩
 have hbel:Below w.heap.size w (w.alloc (.cells #[.string (strB x.e.f.name),slv x.bs,.int .i64 x.e.f.stamp,.int .i64 x.e.f.node,.bool x.e.f.gone,.int .i64 (x.e.method:Int),slv x.pk,.int .u32 (x.e.crc:Int),.int .i64 (x.at_:Int)] 78)):=(Below.refl _ _).alloc (Nat.le_refl _) _
 have hblk:Blk (w.alloc (.cells #[.string (strB x.e.f.name),slv x.bs,.int .i64 x.e.f.stamp,.int .i64 x.e.f.node,.bool x.e.f.gone,.int .i64 (x.e.method:Int),slv x.pk,.int .u32 (x.e.crc:Int),.int .i64 (x.at_:Int)] 78)) w.heap.size 78 (eC x).toArray:=Blk.new w 78 #[.string (strB x.e.f.name),slv x.bs,.int .i64 x.e.f.stamp,.int .i64 x.e.f.node,.bool x.e.f.gone,.int .i64 (x.e.method:Int),slv x.pk,.int .u32 (x.e.crc:Int),.int .i64 (x.at_:Int)]
 have hsz:(w.alloc (.cells #[.string (strB x.e.f.name),slv x.bs,.int .i64 x.e.f.stamp,.int .i64 x.e.f.node,.bool x.e.f.gone,.int .i64 (x.e.method:Int),slv x.pk,.int .u32 (x.e.crc:Int),.int .i64 (x.at_:Int)] 78)).heap.size=b:=by rw[hb];simp
 go_upto_region 1 with fail
 generalize w.alloc (.cells #[.string (strB x.e.f.name),slv x.bs,.int .i64 x.e.f.stamp,.int .i64 x.e.f.node,.bool x.e.f.gone,.int .i64 (x.e.method:Int),slv x.pk,.int .u32 (x.e.crc:Int),.int .i64 (x.at_:Int)] 78)=w1 at *
 have HB1:=Lib.hid hblk
 have Hb1:=Lib.hid hbel
 have hbs1:b≤w1.heap.size:=by omega
 clear hblk hbel
 have HN:=Lib.hid (num_z b (.slice none 0 0) _ 33639248 4 33639248 4 w1 (OwnB.nil _ _) hbs1 rfl rfl (by omega) (by omega) (by simp[lowB_len,middle_len]))
 go_wp2_with fail
 refine (HN.out).mono ?_
 rintro e w2 ⟨⟨v2,rfl,ho2⟩,hb2⟩
 have HB2:=Lib.hid (HB1.out.below hb2 (by omega))
 have Hb2:=Lib.hid (Hb1.out.trans (hb2.mono (by omega)))
 have hbs2:b≤w2.heap.size:=Nat.le_trans hbs1 hb2.size
 clear hb2 HN HB1 Hb1 hbs1
 have HN:=Lib.hid (num_z b v2 _ 20 2 20 2 w2 ho2 hbs2 rfl rfl (by omega) (by omega) (by simp[lowB_len,middle_len]))
 clear ho2
 go_wp2_with fail
 refine (HN.out).mono ?_
 rintro e w3 ⟨⟨v3,rfl,ho3⟩,hb3⟩
 have HB3:=Lib.hid (HB2.out.below hb3 (by omega))
 have Hb3:=Lib.hid (Hb2.out.trans (hb3.mono (by omega)))
 have hbs3:b≤w3.heap.size:=Nat.le_trans hbs2 hb3.size
 clear hb3 HN HB2 Hb2 hbs2
 obtain⟨c0,c1,c2,c3,c4,c5,c6,c7,c8⟩:=e_cells HB3.out
 have hl6:(([]:List UInt8)++lowB 4 33639248++lowB 2 20).length=6:=by simp[lowB_len]
 obtain⟨X3,hX3⟩:∃ X,X=([]:List UInt8)++lowB 4 33639248++lowB 2 20:=⟨_,rfl⟩
 rw[←hX3]at ho3 hl6
 obtain⟨A3,d3,rfl,h3l,_,_,_⟩:=ho3.slice
 rw[hl6]at ho3 h3l⊢
 have HX3:=Lib.hid hX3
 have HXl:=Lib.hid hl6
 clear hX3 hl6
 go_wp2_with fail
 refine (HM.out w3).mono ?_
 rintro e w4 ⟨⟨vm,rfl,hom⟩,hb4⟩
 obtain⟨Am,cm,rfl,hm1,hm2,hm3,hm4⟩:=hom.slice
 have Ho4:=Lib.hid (ho3.keep hb4)
 have Hm3:=Lib.hid hm3
 have Hm4:=Lib.hid hm4
 have HB4:=Lib.hid (HB3.out.below hb4 HB3.out.lt)
 have Hb4:=Lib.hid (Hb3.out.trans (hb4.mono (by omega)))
 have hbs4:b≤w4.heap.size:=Nat.le_trans hbs3 hb4.size
 clear hom hb4 hm3 hm4 ho3 HB3 Hb3 hbs3 c0 c1 c2 c3 c4 c5 c6 c7 c8 HM
 obtain⟨M,hM⟩:∃ M,M=middleB x.e:=⟨_,rfl⟩
 rw[←hM]at hml Hm3 Hm4 hm1⊢
 have HMe:=Lib.hid hM
 clear hM
 rw[hml]at hm1⊢
 go_wp2_with (at_builtin;refine wpList_app _ rfl (.tmp 6) (.tmp 8) _ rfl b 5 _ 1 1 ty8z _ 6 (X3.map u8v) rfl (by have:=Ho4.out;unfold OwnB at this;rw[HXl.out]at this;exact this) Am 26 cm (M.map u8v) rfl (by rw[List.length_map,hml]) Hm3.out (u8s_one M) (fun e=>absurd (Hm4.out e) (by omega)) (by unfold maxLen;omega) (by omega) hbs4 ?_;intro v5 w5 hown5 hg5 _;have Ho5:Hid (OwnB w5 b v5 (X3++M)):=Lib.hid (by unfold OwnB;rw[List.length_append,List.map_append,hml,HXl.out];exact hown5);have Hk5:=Lib.hid (own_below Ho4.out hg5 (Below.refl b w4) hbs4);clear hown5 hg5)
 have HB5:=Lib.hid (HB4.out.below Hk5.out (by omega))
 have Hb5:=Lib.hid (Hb4.out.trans (Hk5.out.mono (by omega)))
 have hbs5:b≤w5.heap.size:=Nat.le_trans hbs4 Hk5.out.size
 have ho5:OwnB w5 b v5 (([]:List UInt8)++lowB 4 33639248++lowB 2 20++middleB x.e):=by rw[←HX3.out,←HMe.out];exact Ho5.out
 clear Ho4 Ho5 Hk5 HB4 Hb4 hbs4 Hm3 Hm4
 have HN:=Lib.hid (num_z b v5 _ 0 10 0 10 w5 ho5 hbs5 rfl rfl (by omega) (by omega) (by simp[lowB_len,middle_len]))
 clear ho5
 refine (HN.out).mono ?_
 rintro e w6 ⟨⟨v6,rfl,ho6⟩,hb6⟩
 have HB6:=Lib.hid (HB5.out.below hb6 (by omega))
 have Hb6:=Lib.hid (Hb5.out.trans (hb6.mono (by omega)))
 have hbs6:b≤w6.heap.size:=Nat.le_trans hbs5 hb6.size
 clear hb6 HN HB5 Hb5 hbs5
 have HN:=Lib.hid (num_z b v6 _ x.at_ 4 (x.at_:Int) 4 w6 ho6 hbs6 rfl rfl (by omega) (by omega) (by simp[lowB_len,middle_len]))
 have HB6K:=HB6
 clear ho6
 obtain⟨c0,c1,c2,c3,c4,c5,c6,c7,c8⟩:=e_cells HB6K.out
 go_wp2_with fail
 refine (HN.out).mono ?_
 rintro e w7 ⟨⟨v7,rfl,ho7⟩,hb7⟩
 have HB7:=Lib.hid (HB6.out.below hb7 (by omega))
 have Hb7:=Lib.hid (Hb6.out.trans (hb7.mono (by omega)))
 have hbs7:b≤w7.heap.size:=Nat.le_trans hbs6 hb7.size
 clear c0 c1 c2 c3 c4 c5 c6 c7 c8 HB6K hb7 HN HB6 Hb6 hbs6
 obtain⟨XR,hXR⟩:∃ X,X=(([]:List UInt8)++lowB 4 33639248++lowB 2 20++middleB x.e++lowB 10 0++lowB 4 x.at_):=⟨_,rfl⟩
 rw[←hXR]at ho7
 have hxl:XR.length=46:=by rw[hXR];simp[lowB_len,middle_len]
 obtain⟨Ar,cr,rfl,hr1,hr2,hr3,_⟩:=ho7.slice
 have HRr7:Hid (IsBytes w7 (.slice Ar XR.length cr) XR):=Lib.hid ⟨Ar,cr,rfl,hr1,hr2,hr3⟩
 have HXR:=Lib.hid hXR
 have HXRl:=Lib.hid hxl
 clear ho7 hr3 hxl hXR
 go_wp2_with fail
 refine wp_region_S (fun W=>Blk W w.heap.size 78 (eC x).toArray) 9 (by kernel_rfl) ?_
 have hba:Below w7.heap.size w7 w7.drew:=(Below.refl _ _).drew
 have HB8:Hid (Blk w7.drew w.heap.size 78 (eC x).toArray):=Lib.hid HB7.out
 have Hb8:=Lib.hid (Hb7.out.drew)
 have HRr8:=Lib.hid (HRr7.out.keep_ hba)
 have hHeld:=HB8.out
 clear hba HRr7 HB7 Hb7 hbs7
 generalize w7.drew=w8 at *
 refine wpAnyS_takeT (i:=0) (v:=?vd0) (by kernel_rfl) (by kernel_rfl) rfl (by kernel_rfl) (by kernel_rfl) (by kernel_rfl) (fun _ _ _ h=>h) (by rfl) (by assumption) ?hyd0 ?restd0
 case hyd0=>(intro W hSW;obtain⟨c0,c1,c2,c3,c4,c5,c6,c7,c8⟩:=e_cells hSW;go_simp;try with_reducible rfl)
 (try simp only[Act.put,List.getElem_toArray,List.getElem_cons_zero,List.getElem_cons_succ,List.setIfInBounds_toArray,List.set_cons_zero,List.set_cons_succ])
 refine wpAnyS_takeT (i:=1) (v:=?vd1) (by kernel_rfl) (by kernel_rfl) rfl (by kernel_rfl) (by kernel_rfl) (by kernel_rfl) (fun _ _ _ h=>h) (by rfl) (by assumption) ?hyd1 ?restd1
 case hyd1=>(intro W hSW;obtain⟨c0,c1,c2,c3,c4,c5,c6,c7,c8⟩:=e_cells hSW;go_simp;try with_reducible rfl)
 (try simp only[Act.put,List.getElem_toArray,List.getElem_cons_zero,List.getElem_cons_succ,List.setIfInBounds_toArray,List.set_cons_zero,List.set_cons_succ])
 refine wpAnyS_takeT (i:=2) (v:=?vd2) (by kernel_rfl) (by kernel_rfl) rfl (by kernel_rfl) (by kernel_rfl) (by kernel_rfl) (fun _ _ _ h=>h) (by rfl) (by assumption) ?hyd2 ?restd2
 case hyd2=>(intro W hSW;obtain⟨c0,c1,c2,c3,c4,c5,c6,c7,c8⟩:=e_cells hSW;go_simp;try with_reducible rfl)
 (try simp only[Act.put,List.getElem_toArray,List.getElem_cons_zero,List.getElem_cons_succ,List.setIfInBounds_toArray,List.set_cons_zero,List.set_cons_succ])
 refine wpAnyS_takeT (i:=3) (v:=?vd3) (by kernel_rfl) (by kernel_rfl) rfl (by kernel_rfl) (by kernel_rfl) (by kernel_rfl) (fun _ _ _ h=>h) (by rfl) (by assumption) ?hyd3 ?restd3
 case hyd3=>(intro W hSW;obtain⟨c0,c1,c2,c3,c4,c5,c6,c7,c8⟩:=e_cells hSW;go_simp;try with_reducible rfl)
 (try simp only[Act.put,List.getElem_toArray,List.getElem_cons_zero,List.getElem_cons_succ,List.setIfInBounds_toArray,List.set_cons_zero,List.set_cons_succ])
 refine wpAnyS_takeT (i:=5) (v:=?vd5) (by kernel_rfl) (by kernel_rfl) rfl (by kernel_rfl) (by kernel_rfl) (by kernel_rfl) (fun _ _ _ h=>h) (by rfl) (by assumption) ?hyd5 ?restd5
 case hyd5=>(intro W hSW;obtain⟨c0,c1,c2,c3,c4,c5,c6,c7,c8⟩:=e_cells hSW;go_simp;try with_reducible rfl)
 (try simp only[Act.put,List.getElem_toArray,List.getElem_cons_zero,List.getElem_cons_succ,List.setIfInBounds_toArray,List.set_cons_zero,List.set_cons_succ])
 refine wpAnyS_two (i:=4) (j:=6) rfl rfl (by kernel_rfl) (fun K hK=>?_) (fun K hK=>?_)
 ·obtain⟨w9,cn,hcv,hn1,hn2,hby,hb⟩:=HCv.out w8
  go_simp
  clear hHeld hcv
  have HRr9:=Lib.hid (HRr8.out.keep_ hb)
  have HB9:=Lib.hid (HB8.out.below hb HB8.out.lt)
  have Hb9:=Lib.hid (Hb8.out.trans (hb.mono Hb8.out.size))
  have HRn9:Hid (IsBytes w9 _ x.e.f.name):=Lib.hid ⟨_,cn,rfl,hn1,hn2,hby⟩
  clear hby hb hn1 hn2
  refine hK.out _ _ HB9.out (fun hHeld=>?_)
  clear hK K
  (try simp only[Act.put,List.getElem_toArray,List.getElem_cons_zero,List.getElem_cons_succ,List.setIfInBounds_toArray,List.set_cons_zero,List.set_cons_succ])
  refine wpAnyS_only (i:=6) rfl (by kernel_rfl) (fun K hK=>?_)
  go_simp
  clear hHeld
  go_at_call 85
  refine (HX.out w9).mono ?_
  rintro e w10 ⟨⟨ux,rfl,ho⟩,hb⟩
  obtain⟨Ax,cx,rfl,_⟩:=ho.slice
  have HRr10:=Lib.hid (HRr9.out.keep_ hb)
  have HRn10:=Lib.hid (HRn9.out.keep_ hb)
  have HB10:=Lib.hid (HB9.out.below hb HB9.out.lt)
  have Hb10:=Lib.hid (Hb9.out.trans (hb.mono Hb9.out.size))
  have HRx10:=Lib.hid ho.bytes
  clear ho hb
  refine hK.out _ _ HB10.out (fun hHeld=>?_)
  clear hK K
  (try simp only[Act.put,List.getElem_toArray,List.getElem_cons_zero,List.getElem_cons_succ,List.setIfInBounds_toArray,List.set_cons_zero,List.set_cons_succ])
  refine wpAnyS_only (i:=7) rfl (by kernel_rfl) (fun K hK=>?_)
  go_simp
  have HC:=Lib.hid (cat_new [(.slice Ar XR.length cr,XR),(.slice (some ⟨w8.heap.size,0,none⟩) x.e.f.name.length cn,x.e.f.name),(.slice Ax (extraB x.e.f).length cx,extraB x.e.f)] (thereB x.e x.at_) 3 w10 rfl (by
   intro q hq
   simp only[List.mem_cons,List.not_mem_nil,or_false]at hq
   rcases hq with rfl | rfl | rfl
   ·exact HRr10.out
   ·exact HRn10.out
   ·exact HRx10.out
  ) (by simp only[List.map_cons,List.map_nil,List.flatten_cons,List.flatten_nil,List.append_nil,HXR.out,thereB,List.nil_append,List.append_assoc]) (by omega) (by omega) _ rfl)
  have hba:Below w10.heap.size w10 (w10.alloc (.cells #[.slice Ar XR.length cr,.slice (some ⟨w8.heap.size,0,none⟩) x.e.f.name.length cn,.slice Ax (extraB x.e.f).length cx] 23)):=(Below.refl _ _).alloc (Nat.le_refl _) _
  refine hK.out _ _ (HB10.out.below hba HB10.out.lt) (fun hHeld=>?_)
  clear hK K
  (try simp only[Act.put,List.getElem_toArray,List.getElem_cons_zero,List.getElem_cons_succ,List.setIfInBounds_toArray,List.set_cons_zero,List.set_cons_succ])
  refine wpAnyS_only (i:=8) rfl (by kernel_rfl) (fun K hK=>?_)
  go_simp
  go_at_call 32
  refine (HC.out).mono ?_
  rintro e wz ⟨⟨vz,rfl,hoz⟩,hbz⟩
  have Hoz:=Lib.hid hoz
  have Hbz:=Lib.hid (Hb10.out.trans (hbz.mono Hb10.out.size))
  refine hK.out _ _ (HB10.out.below hbz HB10.out.lt) (fun hHeld=>?_)
  clear hK K hoz hbz hba
  (try simp only[Act.put,List.getElem_toArray,List.getElem_cons_zero,List.getElem_cons_succ,List.setIfInBounds_toArray,List.set_cons_zero,List.set_cons_succ])
  refine wpAnyS_last rfl (by kernel_rfl) (by kernel_rfl) (fun K hK=>?_)
  go_simp
  refine hK.out _ _ ?_
  clear hK K hHeld
  go_wp2_with fail
  go_ret
  exact⟨⟨_,rfl,own_base Hoz.out Hb10.out.size⟩,Hbz.out⟩
 ·go_simp
  clear hHeld
  go_at_call 85
  refine (HX.out w8).mono ?_
  rintro e w9 ⟨⟨ux,rfl,ho⟩,hb⟩
  obtain⟨Ax,cx,rfl,_⟩:=ho.slice
  have HRr9:=Lib.hid (HRr8.out.keep_ hb)
  have HB9:=Lib.hid (HB8.out.below hb HB8.out.lt)
  have Hb9:=Lib.hid (Hb8.out.trans (hb.mono Hb8.out.size))
  have HRx9:=Lib.hid ho.bytes
  clear ho hb
  refine hK.out _ _ HB9.out (fun hHeld=>?_)
  clear hK K
  (try simp only[Act.put,List.getElem_toArray,List.getElem_cons_zero,List.getElem_cons_succ,List.setIfInBounds_toArray,List.set_cons_zero,List.set_cons_succ])
  refine wpAnyS_only (i:=4) rfl (by kernel_rfl) (fun K hK=>?_)
  obtain⟨w10,cn,hcv,hn1,hn2,hby,hb⟩:=HCv.out w9
  go_simp
  clear hHeld hcv
  have HRr10:=Lib.hid (HRr9.out.keep_ hb)
  have HRx10:=Lib.hid (HRx9.out.keep_ hb)
  have HB10:=Lib.hid (HB9.out.below hb HB9.out.lt)
  have Hb10:=Lib.hid (Hb9.out.trans (hb.mono Hb9.out.size))
  have HRn10:Hid (IsBytes w10 _ x.e.f.name):=Lib.hid ⟨_,cn,rfl,hn1,hn2,hby⟩
  clear hby hb hn1 hn2
  refine hK.out _ _ HB10.out (fun hHeld=>?_)
  clear hK K
  (try simp only[Act.put,List.getElem_toArray,List.getElem_cons_zero,List.getElem_cons_succ,List.setIfInBounds_toArray,List.set_cons_zero,List.set_cons_succ])
  refine wpAnyS_only (i:=7) rfl (by kernel_rfl) (fun K hK=>?_)
  go_simp
  have HC:=Lib.hid (cat_new [(.slice Ar XR.length cr,XR),(.slice (some ⟨w9.heap.size,0,none⟩) x.e.f.name.length cn,x.e.f.name),(.slice Ax (extraB x.e.f).length cx,extraB x.e.f)] (thereB x.e x.at_) 3 w10 rfl (by
   intro q hq
   simp only[List.mem_cons,List.not_mem_nil,or_false]at hq
   rcases hq with rfl | rfl | rfl
   ·exact HRr10.out
   ·exact HRn10.out
   ·exact HRx10.out
  ) (by simp only[List.map_cons,List.map_nil,List.flatten_cons,List.flatten_nil,List.append_nil,HXR.out,thereB,List.nil_append,List.append_assoc]) (by omega) (by omega) _ rfl)
  have hba:Below w10.heap.size w10 (w10.alloc (.cells #[.slice Ar XR.length cr,.slice (some ⟨w9.heap.size,0,none⟩) x.e.f.name.length cn,.slice Ax (extraB x.e.f).length cx] 23)):=(Below.refl _ _).alloc (Nat.le_refl _) _
  refine hK.out _ _ (HB10.out.below hba HB10.out.lt) (fun hHeld=>?_)
  clear hK K
  (try simp only[Act.put,List.getElem_toArray,List.getElem_cons_zero,List.getElem_cons_succ,List.setIfInBounds_toArray,List.set_cons_zero,List.set_cons_succ])
  refine wpAnyS_only (i:=8) rfl (by kernel_rfl) (fun K hK=>?_)
  go_simp
  go_at_call 32
  refine (HC.out).mono ?_
  rintro e wz ⟨⟨vz,rfl,hoz⟩,hbz⟩
  have Hoz:=Lib.hid hoz
  have Hbz:=Lib.hid (Hb10.out.trans (hbz.mono Hb10.out.size))
  refine hK.out _ _ (HB10.out.below hbz HB10.out.lt) (fun hHeld=>?_)
  clear hK K hoz hbz hba
  (try simp only[Act.put,List.getElem_toArray,List.getElem_cons_zero,List.getElem_cons_succ,List.setIfInBounds_toArray,List.set_cons_zero,List.set_cons_succ])
  refine wpAnyS_last rfl (by kernel_rfl) (by kernel_rfl) (fun K hK=>?_)
  go_simp
  refine hK.out _ _ ?_
  clear hK K hHeld
  go_wp2_with fail
  go_ret
  exact⟨⟨_,rfl,own_base Hoz.out Hb10.out.size⟩,Hbz.out⟩
end Go.Proofs.YtabdianhoabhhaaGreatDoor.Zip
namespace Go.Proofs.YtabdianhoabhhaaGreatDoor
open Go Go.RowKit
set_option linter.unusedVariables false
def Two (w0 w:World) (e:TypeId) (v1 v2:Value) (xs ys:List Value) (l:List (Nat×TypeId×Array Value)):Prop:=
 w.ownsRow w0.heap.size e 1 v1 xs.length xs∧w.ownsRow w0.heap.size e 1 v2 ys.length ys∧Below w0.heap.size w0 w∧
 (∀ g,v1.ownBlock=some g→v2.ownBlock≠some g)∧∀ p∈l,Blk w p.1 p.2.1 p.2.2∧v1.ownBlock≠some p.1∧v2.ownBlock≠some p.1
section
variable {w0 w:World} {e:TypeId} {v1 v2:Value} {xs ys:List Value} {l:List (Nat×TypeId×Array Value)}
theorem Two.symm (h:Two w0 w e v1 v2 xs ys l):Two w0 w e v2 v1 ys xs l:=
 ⟨h.2.1,h.1,h.2.2.1,fun g h1 h2=>h.2.2.2.1 g h2 h1,fun p hp=>⟨(h.2.2.2.2 p hp).1,(h.2.2.2.2 p hp).2.2,(h.2.2.2.2 p hp).2.1⟩⟩
theorem Two.clear (h:Two w0 w e v1 v2 xs ys l):Two w0 w e v1 v2 xs ys []:=⟨h.1,h.2.1,h.2.2.1,h.2.2.2.1,fun p hp=>by simp at hp⟩
theorem Two.drew (h:Two w0 w e v1 v2 xs ys l):Two w0 w.drew e v1 v2 xs ys l:=⟨h.1,h.2.1,h.2.2.1.drew,h.2.2.2.1,h.2.2.2.2⟩
theorem Two.alloc (h:Two w0 w e v1 v2 xs ys l) (t:TypeId) (cs:Array Value):Two w0 (w.alloc (.cells cs t)) e v1 v2 xs ys ((w.heap.size,t,cs) :: l):=by
 have hb:=(Below.refl w.heap.size w).alloc (Nat.le_refl _) (.cells cs t)
 refine⟨own_keep h.1 hb,own_keep h.2.1 hb,h.2.2.1.alloc h.2.2.1.size _,h.2.2.2.1,fun p hp=>?_⟩
 rcases List.mem_cons.1 hp with rfl | hp
 ·exact⟨Blk.new w t cs,fun hk=>by have:=(h.1.lt _ hk).2;omega,fun hk=>by have:=(h.2.1.lt _ hk).2;omega⟩
 ·exact⟨(h.2.2.2.2 p hp).1.alloc _,(h.2.2.2.2 p hp).2⟩
theorem Two.other (h:Two w0 w e v1 v2 xs ys l) (o:Obj):Two w0 (w.alloc o) e v1 v2 xs ys l:=by
 have hb:=(Below.refl w.heap.size w).alloc (Nat.le_refl _) o
 exact⟨own_keep h.1 hb,own_keep h.2.1 hb,h.2.2.1.alloc h.2.2.1.size _,h.2.2.2.1,fun p hp=>⟨(h.2.2.2.2 p hp).1.alloc _,(h.2.2.2.2 p hp).2⟩⟩
theorem Two.cell (h:Two w0 w e v1 v2 xs ys l) {g:Nat} {t:TypeId} {cs:Array Value} (hm:(g,t,cs)∈l) (i:Nat):w.cell? ⟨g,i,none⟩=cs[i]?:=(h.2.2.2.2 _ hm).1.cell i
theorem Two.lt (h:Two w0 w e v1 v2 xs ys l) {g:Nat} {t:TypeId} {cs:Array Value} (hm:(g,t,cs)∈l):g < w.heap.size:=(h.2.2.2.2 _ hm).1.lt
theorem own_far {w':World} {base size n:Nat} {v u:Value} {zs:List Value} (h:w.ownsRow base e size v n zs) (hg:w.grownBy w' u.ownBlock) (hd:∀ g,u.ownBlock=some g→v.ownBlock≠some g):w'.ownsRow base e size v n zs:=by
 refine⟨h.1,?_⟩
 rcases h.2 with hn | ⟨g,cap,cur,rfl,hbg,hk,r⟩
 ·exact .inl hn
 ·refine .inr ⟨g,cap,cur,rfl,hbg,?_,r⟩
  rw[hg.block g (lt_of_block hk) (fun hh=>hd g hh.symm (by simp[Value.ownBlock]))];exact hk
end
end Go.Proofs.YtabdianhoabhhaaGreatDoor
namespace Go.Proofs.YtabdianhoabhhaaGreatDoor.Weigh
open Go Go.RowKit Go.Proofs.YtabdianhoabhhaaGreatDoor
set_option linter.unusedVariables false
def badWant (x:Int):Bool:=decide (x < 0) || decide (1000000 < x)
def natsOf (zs:List Int):List Nat:=zs.map Int.toNat
def usedI (zs:List Int):Nat:=(zs.filter fun x=>decide (0 < x)).length
def chkW (zs:List Int) (most:Int):Int:=if 288 < zs.length then 2 else if zs.any badWant=true then 3 else if most < 1∨15 < most then 3 else if 2 ^ most.toNat < usedI zs then 11 else 0
theorem usedI_take (zs:List Int) (k:Nat) (h:k < zs.length):usedI (zs.take (k+1))=usedI (zs.take k)+if 0 < zs[k] then 1 else 0:=by
 unfold usedI
 rw[take_snoc _ _ h,List.filter_append,List.length_append]
 congr 1
 by_cases h0:0 < zs[k] <;> simp[h0]
theorem usedI_le (zs:List Int):usedI zs≤zs.length:=List.length_filter_le _ _
theorem wany_take (zs:List Int) (k:Nat) (h:k < zs.length) (h1:(zs.take k).any badWant=false) (h2:badWant zs[k]=false):(zs.take (k+1)).any badWant=false:=by
 rw[take_snoc _ _ h,List.any_append,h1];simp[h2]
theorem chkW_bad (zs:List Int) (most:Int) (k:Nat) (h:k < zs.length) (hl:zs.length≤288) (h2:badWant zs[k]=true):chkW zs most=3:=by
 unfold chkW
 rw[if_neg (by omega),if_pos (List.any_eq_true.2 ⟨_,List.getElem_mem h,h2⟩)]
theorem chkW_done (zs:List Int) (most:Int) (hl:zs.length≤288) (h:zs.any badWant=false):chkW zs most=if most < 1∨15 < most then 3 else if 2 ^ most.toNat < usedI zs then 11 else 0:=by
 unfold chkW
 rw[if_neg (by omega),if_neg (by rw[h];simp)]
theorem chkW_fine (zs:List Int) (most:Int) (h:chkW zs most=0):zs.length≤288∧(∀ x∈zs,0≤x∧x≤1000000)∧1≤most∧most≤15∧usedI zs≤2 ^ most.toNat:=by
 unfold chkW at h
 by_cases h1:288 < zs.length
 ·rw[if_pos h1]at h;omega
 ·rw[if_neg h1]at h
  by_cases h2:zs.any badWant=true
  ·rw[if_pos h2]at h;omega
  ·rw[if_neg h2]at h
   by_cases h3:most < 1∨15 < most
   ·rw[if_pos h3]at h;omega
   ·rw[if_neg h3]at h
    by_cases h4:2 ^ most.toNat < usedI zs
    ·rw[if_pos h4]at h;omega
    ·refine⟨by omega,fun x hx=>?_,by omega,by omega,by omega⟩
     rw[Bool.not_eq_true,List.any_eq_false]at h2
     have:=h2 x hx
     simp[badWant]at this
     omega
set_option maxRecDepth 100000 in
set_option maxHeartbeats 1600000 in
theorem checkW_any (A:Option Addr) (n c:Nat) (zs:List Int) (most:Int) (w:World) (hn:zs.length=n) (hx:n≤maxLen) (hA:InAt w A zs) :
  Calls Tryz.prog 224 #[.slice A n c,.int .i64 most] w fun e w'=>e=.returned (.int .i64 (chkW zs most))∧w'=w:=by
 by_cases hx2:288 < (n:Int)
 ·have Hc:Hid (chkW zs most=2):=Lib.hid (by unfold chkW;rw[if_pos (by omega)])
  unfold maxLen at hx
  clear hn hA
  go_enter Tryz.func224,Tryz.ntmps224
  go_wp2_with fail
  go_ret
  exact⟨ret_int Hc.out.symm,rfl⟩
 ·have Hn:=Lib.hid hn
  have HA:=Lib.hid hA
  clear hn hA hx
  go_enter Tryz.func224,Tryz.ntmps224
  go_wp2_with fail
  go_loop [5,13] (fun u i=>∃ k:Nat,k≤n∧i=.int .i64 (k:Int)∧(zs.take k).any badWant=false∧u=.int .i64 (usedI (zs.take k):Int)) (fun _ i=>n - (intOf i).toNat)
  case atStart=>exact⟨0,Nat.zero_le _,rfl,rfl,rfl⟩
  case round=>
   obtain⟨k,hk,rfl,hany,rfl⟩:=hrel
   have Hany:=Lib.hid hany
   clear hany
   have hus:=usedI_le (zs.take k)
   rw[List.length_take]at hus
   by_cases hlt:k < n
   ·have hkl:k < zs.length:=by rw[Hn.out];exact hlt
    obtain⟨b,o,rfl,hc⟩:=HA.out.get hkl
    have Hu:=Lib.hid (usedI_take zs k hkl)
    have Hany2:=Lib.hid (wany_take zs k hkl Hany.out)
    have Hbad:=Lib.hid (chkW_bad zs most k hkl (by rw[Hn.out];omega))
    generalize usedI (zs.take k)=u at *
    generalize zs[k]=z at *
    by_cases h1:z < 0
    ·have Hf:=Lib.hid (Hbad.out (by simp[badWant,h1]))
     clear Hbad Hany2 Hu
     go_wp2_with fail
     go_ret
     exact⟨ret_int Hf.out.symm,rfl⟩
    ·have d1:decide (z < 0)=false:=by simp;omega
     by_cases h2:1000000 < z
     ·have Hf:=Lib.hid (Hbad.out (by simp[badWant,h2]))
      clear Hbad Hany2 Hu
      go_wp2_with fail
      go_ret
      exact⟨ret_int Hf.out.symm,rfl⟩
     ·have Ha:=Lib.hid (Hany2.out (by simp[badWant];omega))
      clear Hbad Hany2
      by_cases h0:0 < z
      ·rw[if_pos h0]at Hu
       go_wp2_with fail
       go_round
       case rel=>exact⟨k+1,by omega,by go_num,Ha.out,by rw[Hu.out];go_num⟩
       case measure=>simp[intOf];omega
      ·rw[if_neg h0]at Hu
       go_wp2_with fail
       go_round
       case rel=>exact⟨k+1,by omega,by go_num,Ha.out,by rw[Hu.out];rfl⟩
       case measure=>simp[intOf];omega
   ·obtain rfl:k=n:=by omega
    have Htk:=Lib.hid (List.take_of_length_le (by rw[Hn.out];omega:zs.length≤k))
    have hal:=Hany.out
    rw[Htk.out]at hal hus⊢
    have Hf:=Lib.hid (chkW_done zs most (by rw[Hn.out];omega) hal)
    clear hal
    generalize usedI zs=u at *
    by_cases h1:most < 1
    ·rw[if_pos (.inl h1)]at Hf
     go_wp2_with fail
     go_ret
     exact⟨ret_int Hf.out.symm,rfl⟩
    ·have d1:decide (most < 1)=false:=by simp;omega
     by_cases h2:15 < most
     ·rw[if_pos (.inr h2)]at Hf
      go_wp2_with fail
      go_ret
      exact⟨ret_int Hf.out.symm,rfl⟩
     ·rw[if_neg (by omega)]at Hf
      obtain⟨L,rfl⟩:=Int.eq_ofNat_of_zero_le (by omega:0≤most)
      rw[Int.toNat_natCast]at Hf
      have h3:(2:Nat) ^ L≤2 ^ 15:=Nat.pow_le_pow_right (by omega) (by omega)
      have ht:(2:Int) ^ L=((2 ^ L:Nat):Int):=by simp
      generalize 2 ^ L=y at *
      by_cases h4:y < u
      ·rw[if_pos h4]at Hf
       go_wp2_with fail
       go_ret
       exact⟨ret_int Hf.out.symm,rfl⟩
      ·rw[if_neg h4]at Hf
       go_wp2_with fail
       go_ret
       exact⟨ret_int Hf.out.symm,rfl⟩
end Go.Proofs.YtabdianhoabhhaaGreatDoor.Weigh
namespace Go.Proofs.YtabdianhoabhhaaGreatDoor.Weigh
open Go Go.RowKit Go.Proofs.YtabdianhoabhhaaGreatDoor
set_option linter.unusedVariables false
abbrev Sl3:=Option Addr×Nat×Nat
def slv (s:Sl3):Value:=.slice s.1 s.2.1 s.2.2
abbrev El:=Nat×Sl3×List Nat
abbrev TE:=El×Nat
def nv (n:Nat):Value:=.int .i64 (n:Int)
def cellsE (e:TE):List Value:=[nv e.1.1,slv e.1.2.1]
def ekey (e:El):Nat:=e.1
def PkAt (w:World) (g:Nat) (rest:List Value) (d:List TE):Prop:=Blk w g 292 (d.flatMap cellsE++rest).toArray
theorem flat_len (d:List TE):(d.flatMap cellsE).length=d.length*2:=by
 induction d with
 | nil=>rfl
 | cons a d ih=>rw[List.flatMap_cons,List.length_append,ih];simp[cellsE];omega
theorem PkAt.c0 {w:World} {g:Nat} {rest:List Value} {X Y:List TE} {u:TE} (h:PkAt w g rest (X++u :: Y)) {i:Nat} (hi:i=X.length):w.cell? ⟨g,i*2,none⟩=some (nv u.1.1):=by
 subst hi
 rw[Blk.cell h,List.getElem?_toArray,List.flatMap_append,List.append_assoc,List.getElem?_append_right (by rw[flat_len];exact Nat.le_refl _),flat_len,Nat.sub_self]
 rfl
theorem PkAt.c1 {w:World} {g:Nat} {rest:List Value} {X Y:List TE} {u:TE} (h:PkAt w g rest (X++u :: Y)) {i:Nat} (hi:i=X.length):w.cell? ⟨g,i*2+1,none⟩=some (slv u.1.2.1):=by
 subst hi
 rw[Blk.cell h,List.getElem?_toArray,List.flatMap_append,List.append_assoc,List.getElem?_append_right (by rw[flat_len];omega),flat_len,show X.length*2+1 - X.length*2=1 by omega]
 rfl
theorem PkAt.mid {w:World} {g:Nat} {rest:List Value} {X Y Z:List TE} {u v:TE} (h:PkAt w g rest (X++u :: (Y++v :: Z))):PkAt w g rest ((X++u :: Y)++v :: Z):=by
 have e:(X++u :: Y)++v :: Z=X++u :: (Y++v :: Z):=by simp
 rw[e];exact h
theorem mid_len (X Y:List TE) (u:TE) {j:Nat} (h:j=X.length+1+Y.length):j=(X++u :: Y).length:=by rw[h];simp;omega
theorem set4 (A B C:List Value) (u0 u1 v0 v1 x0 x1 y0 y1:Value) :
  ((((A++u0 :: u1 :: (B++v0 :: v1 :: C)).set A.length x0).set (A.length+1) x1).set (A.length+2+B.length) y0).set (A.length+2+B.length+1) y1=A++x0 :: x1 :: (B++y0 :: y1 :: C):=by
 have s1:∀ (L:List Value) (M:List Value) (n:Nat) (x:Value),(L++M).set (L.length+n) x=L++M.set n x:=by
  intro L M n x
  rw[List.set_append_right _ _ (Nat.le_add_right _ _),Nat.add_sub_cancel_left]
 have h1:=s1 A (u0 :: u1 :: (B++v0 :: v1 :: C)) 0 x0
 rw[Nat.add_zero]at h1
 rw[h1,s1 A _ 1 x1,Nat.add_assoc A.length 2 B.length,s1 A _ (2+B.length) y0,Nat.add_assoc A.length,s1 A _ (2+B.length+1) y1]
 congr 1
 have h2:=s1 B (v0 :: v1 :: C) 0 y0
 rw[Nat.add_zero]at h2
 rw[show 2+B.length+1=(B.length+1)+1+1 by omega,show 2+B.length=B.length+1+1 by omega]
 show x0 :: x1 :: (((B++v0 :: v1 :: C).set B.length y0).set (B.length+1) y1)=_
 rw[h2,List.set_cons_zero,s1 B _ 1 y1]
 rfl
theorem comm4 (l:List Value) (a b c d:Nat) (x0 x1 y0 y1:Value) (h1:a≠c) (h2:a≠d) (h3:b≠c) (h4:b≠d):(((l.set c y0).set d y1).set a x0).set b x1=(((l.set a x0).set b x1).set c y0).set d y1:=by
 rw[List.set_comm y1 x0 (Ne.symm h2),List.set_comm y0 x0 (Ne.symm h1),List.set_comm y1 x1 (Ne.symm h4),List.set_comm y0 x1 (Ne.symm h3)]
theorem flat2 (X Y Z:List TE) (u v:TE) (rest:List Value):(X++u :: (Y++v :: Z)).flatMap cellsE++rest=X.flatMap cellsE++nv u.1.1 :: (slv u.1.2.1) :: (Y.flatMap cellsE++nv v.1.1 :: (slv v.1.2.1) :: (Z.flatMap cellsE++rest)):=by
 simp[List.flatMap_append,List.flatMap_cons,cellsE]
theorem blk_eq {w:World} {g:Nat} {t:TypeId} {cs ds:Array Value} (h:Blk w g t cs) (e:cs=ds):Blk w g t ds:=e▸h
theorem PkAt.swapU {w:World} {g:Nat} {rest:List Value} {X Y Z:List TE} {u v:TE} (h:PkAt w g rest (X++u :: (Y++v :: Z))) {i j:Nat} (hi:i=X.length) (hj:j=X.length+1+Y.length) :
  PkAt ((((w.setCell ⟨g,i*2,none⟩ (nv v.1.1)).setCell ⟨g,i*2+1,none⟩ (slv v.1.2.1)).setCell ⟨g,j*2,none⟩ (nv u.1.1)).setCell ⟨g,j*2+1,none⟩ (slv u.1.2.1)) g rest (X++v :: (Y++u :: Z)):=by
 subst hi hj
 have:=(((Blk.set_ h (X.length*2) (nv v.1.1)).set_ (X.length*2+1) (slv v.1.2.1)).set_ ((X.length+1+Y.length)*2) (nv u.1.1)).set_ ((X.length+1+Y.length)*2+1) (slv u.1.2.1)
 unfold PkAt
 refine blk_eq this ?_
 apply Array.ext'
 simp only[Array.toList_setIfInBounds]
 rw[flat2,flat2]
 have s:=set4 (X.flatMap cellsE) (Y.flatMap cellsE) (Z.flatMap cellsE++rest) (nv u.1.1) (slv u.1.2.1) (nv v.1.1) (slv v.1.2.1) (nv v.1.1) (slv v.1.2.1) (nv u.1.1) (slv u.1.2.1)
 rw[flat_len,flat_len]at s
 rw[←s,show (X.length+1+Y.length)*2=X.length*2+2+Y.length*2 by omega]
theorem PkAt.swapD {w:World} {g:Nat} {rest:List Value} {X Y Z:List TE} {u v:TE} (h:PkAt w g rest (X++u :: (Y++v :: Z))) {i j:Nat} (hi:i=X.length) (hj:j=X.length+1+Y.length) :
  PkAt ((((w.setCell ⟨g,j*2,none⟩ (nv u.1.1)).setCell ⟨g,j*2+1,none⟩ (slv u.1.2.1)).setCell ⟨g,i*2,none⟩ (nv v.1.1)).setCell ⟨g,i*2+1,none⟩ (slv v.1.2.1)) g rest (X++v :: (Y++u :: Z)):=by
 subst hi hj
 have:=(((Blk.set_ h ((X.length+1+Y.length)*2) (nv u.1.1)).set_ ((X.length+1+Y.length)*2+1) (slv u.1.2.1)).set_ (X.length*2) (nv v.1.1)).set_ (X.length*2+1) (slv v.1.2.1)
 unfold PkAt
 refine blk_eq this ?_
 apply Array.ext'
 simp only[Array.toList_setIfInBounds]
 rw[flat2,flat2]
 have s:=set4 (X.flatMap cellsE) (Y.flatMap cellsE) (Z.flatMap cellsE++rest) (nv u.1.1) (slv u.1.2.1) (nv v.1.1) (slv v.1.2.1) (nv v.1.1) (slv v.1.2.1) (nv u.1.1) (slv u.1.2.1)
 rw[flat_len,flat_len]at s
 rw[←s,show (X.length+1+Y.length)*2=X.length*2+2+Y.length*2 by omega]
 exact comm4 _ _ _ _ _ _ _ _ _ (by omega) (by omega) (by omega) (by omega)
theorem PkAt.pair {w:World} {g:Nat} {rest:List Value} {X Y Z:List TE} {uk ub uc ut vk vb vc vt:Nat} {ua va:Option Addr} {um vm:List Nat} (h:PkAt w g rest (X++((uk,(ua,ub,uc),um),ut) :: (Y++((vk,(va,vb,vc),vm),vt) :: Z))) {i j:Nat} (hi:i=X.length) (hj:j=X.length+1+Y.length) :
  w.cell? ⟨g,i*2,none⟩=some (.int .i64 (uk:Int))∧w.cell? ⟨g,i*2+1,none⟩=some (.slice ua ub uc)∧w.cell? ⟨g,j*2,none⟩=some (.int .i64 (vk:Int))∧w.cell? ⟨g,j*2+1,none⟩=some (.slice va vb vc)∧
  w.frozen? ⟨g,i*2,none⟩=false∧w.frozen? ⟨g,i*2+1,none⟩=false∧w.frozen? ⟨g,j*2,none⟩=false∧w.frozen? ⟨g,j*2+1,none⟩=false:=
 ⟨h.c0 hi,h.c1 hi,h.mid.c0 (mid_len X Y _ hj),h.mid.c1 (mid_len X Y _ hj),Blk.frozen h _,Blk.frozen h _,Blk.frozen h _,Blk.frozen h _⟩
def swW (w:World) (g i j:Nat) (u0 u1 v0 v1:Value):World:=(((w.setCell ⟨g,i*2,none⟩ u0).setCell ⟨g,i*2+1,none⟩ u1).setCell ⟨g,j*2,none⟩ v0).setCell ⟨g,j*2+1,none⟩ v1
theorem grown_set {w w':World} {g:Nat} (h:w.grownBy w' (some g)) (i:Nat) (u:Value):w.grownBy (w'.setCell ⟨g,i,none⟩ u) (some g):=
 ⟨h.os,h.tape,h.output,by simpa [World.setCell] using h.size,fun k hk hne=>by rw[Below.heap_setCell _ _ _ _ (by intro e;exact hne (by rw[e]))];exact h.block k hk hne⟩
theorem grown_drew {w w':World} {r:Option Nat} (h:w.grownBy w' r):w.grownBy w'.drew r:=⟨h.os,h.tape,h.output,h.size,h.block⟩
theorem grown_drewN {w w':World} {r:Option Nat} (h:w.grownBy w' r) (n:Nat):w.grownBy (w'.drewN n) r:=⟨h.os,h.tape,h.output,h.size,h.block⟩
theorem grown_below {w w' w'':World} {r:Option Nat} (h:w.grownBy w' r) (hb:Below w'.heap.size w' w''):w.grownBy w'' r:=
 ⟨hb.os.trans h.os,hb.tape.trans h.tape,hb.output.trans h.output,Nat.le_trans h.size hb.size,fun k hk hne=>(hb.block k (Nat.lt_of_lt_of_le hk h.size)).trans (h.block k hk hne)⟩
theorem grown_sw {w w':World} {g:Nat} (h:w.grownBy w' (some g)) (i j:Nat) (u0 u1 v0 v1:Value):w.grownBy (swW w' g i j u0 u1 v0 v1).drew (some g):=grown_drew (grown_set (grown_set (grown_set (grown_set h _ _) _ _) _ _) _ _)
end Go.Proofs.YtabdianhoabhhaaGreatDoor.Weigh
namespace Go.Proofs.YtabdianhoabhhaaGreatDoor.Weigh
open Go Go.RowKit Go.Proofs.YtabdianhoabhhaaGreatDoor
set_option linter.unusedVariables false
def srL (P U M V Q:List TE) (i:Nat):List TE:=P++V.take i++(U.drop i++(M++U.take i++(V.drop i++Q)))
theorem sr_here (P U M V Q:List TE) (i:Nat) (h1:i < U.length) (h2:i < V.length):srL P U M V Q i=(P++V.take i)++U[i] :: ((U.drop (i+1)++(M++U.take i))++V[i] :: (V.drop (i+1)++Q)):=by
 unfold srL
 rw[List.drop_eq_getElem_cons h1,List.drop_eq_getElem_cons h2]
 simp only[List.append_assoc,List.cons_append]
theorem sr_next (P U M V Q:List TE) (i:Nat) (h1:i < U.length) (h2:i < V.length):srL P U M V Q (i+1)=(P++V.take i)++V[i] :: ((U.drop (i+1)++(M++U.take i))++U[i] :: (V.drop (i+1)++Q)):=by
 unfold srL
 rw[List.take_succ_eq_append_getElem h1,List.take_succ_eq_append_getElem h2]
 simp only[List.append_assoc,List.cons_append,List.nil_append]
set_option maxRecDepth 100000 in
set_option maxHeartbeats 4000000 in
theorem swapRange_any (g N cap a b k:Nat) (rest:List Value) (P U M V Q:List TE) (cmp:Value) (w:World) (h:PkAt w g rest (P++U++(M++(V++Q)))) (hU:U.length=k) (hV:V.length=k) (ha:P.length=a) (hb:P.length+U.length+M.length=b)
  (hN:(P++U++(M++(V++Q))).length=N) (hN2:N≤1000000) :
  Calls Tryz.prog 258 #[.slice (some ⟨g,0,none⟩) N cap,.int .i64 (a:Int),.int .i64 (b:Int),.int .i64 (k:Int),cmp] w fun e w'=>e=.returned (.tuple #[])∧PkAt w' g rest (P++V++(M++(U++Q)))∧w.grownBy w' (some g):=by
 have hN3:P.length+U.length+M.length+V.length+Q.length=N:=by rw[←hN];simp;omega
 have h0:srL P U M V Q 0=P++U++(M++(V++Q)):=by simp[srL]
 have h1:srL P U M V Q k=P++V++(M++(U++Q)):=by unfold srL;rw[List.take_of_length_le (by omega),List.take_of_length_le (by omega),List.drop_of_length_le (by omega),List.drop_of_length_le (by omega)];simp
 rw[←h0]at h
 have H:=Lib.hid h
 have H1:=Lib.hid h1
 have HU:=Lib.hid hU
 have HV:=Lib.hid hV
 have HP:=Lib.hid ha
 have HB:=Lib.hid hb
 have hbk:b+k≤N:=by omega
 have hak:a+k≤b:=by omega
 clear h h0 h1 hN hN3 hU hV ha hb
 go_enter Tryz.func258,Tryz.ntmps258
 go_wp2_with fail
 go_loopw [10] (fun i wr=>∃ j:Nat,j≤k∧i=.int .i64 (j:Int)∧PkAt wr g rest (srL P U M V Q j)∧w.grownBy wr (some g)) (fun i _=>k - (intOf i).toNat)
 case atStart=>exact⟨0,Nat.zero_le _,rfl,H.out,World.grownBy.refl _ _⟩
 case round=>
  obtain⟨j,hj,rfl,hpk,hgr⟩:=hrel
  have Hgr:=Lib.hid hgr
  clear hgr
  by_cases hlt:j < k
  ·have e1:j < U.length:=by rw[HU.out];exact hlt
   have e2:j < V.length:=by rw[HV.out];exact hlt
   rw[sr_here P U M V Q j e1 e2]at hpk
   have hX:a+j=(P++V.take j).length:=by rw[List.length_append,List.length_take,HP.out,HV.out];omega
   have hY:b+j=(P++V.take j).length+1+(U.drop (j+1)++(M++U.take j)).length:=by
    have:=HU.out;have:=HV.out;have:=HP.out;have:=HB.out
    simp;omega
   have c0:=hpk.c0 hX
   have c1:=hpk.c1 hX
   have hpk2:PkAt wr g rest (((P++V.take j)++U[j] :: (U.drop (j+1)++(M++U.take j)))++V[j] :: (V.drop (j+1)++Q)):=by simpa using hpk
   have hY2:b+j=((P++V.take j)++U[j] :: (U.drop (j+1)++(M++U.take j))).length:=by rw[hY];simp;omega
   have c2:=hpk2.c0 hY2
   have c3:=hpk2.c1 hY2
   have f0:=Blk.frozen hpk ((a+j)*2)
   have f1:=Blk.frozen hpk ((a+j)*2+1)
   have f2:=Blk.frozen hpk ((b+j)*2)
   have f3:=Blk.frozen hpk ((b+j)*2+1)
   have Hsw:=Lib.hid (hpk.swapU hX hY)
   rw[←sr_next P U M V Q j e1 e2]at Hsw
   clear hpk hpk2 hX hY hY2
   generalize U[j].1.1=u0 at *
   generalize U[j].1.2.1=u1 at *
   generalize V[j].1.1=v0 at *
   generalize V[j].1.2.1=v1 at *
   obtain⟨ua,ul,uc⟩:=u1
   obtain⟨va,vl,vc⟩:=v1
   simp only[slv,nv]at c0 c1 c2 c3
   clear e1 e2
   go_wp2_with fail
   go_region
   have Hsw2:Hid (PkAt ((((wr.setCell ⟨g,(a+j)*2,none⟩ (.int .i64 (v0:Int))).setCell ⟨g,(a+j)*2+1,none⟩ (.slice va vl vc)).setCell ⟨g,(b+j)*2,none⟩ (.int .i64 (u0:Int))).setCell ⟨g,(b+j)*2+1,none⟩ (.slice ua ul uc)).drew g rest (srL P U M V Q (j+1))):=Hsw
   have Hgr2:=Lib.hid (grown_drew (grown_set (grown_set (grown_set (grown_set Hgr.out ((a+j)*2) (.int .i64 (v0:Int))) ((a+j)*2+1) (.slice va vl vc)) ((b+j)*2) (.int .i64 (u0:Int))) ((b+j)*2+1) (.slice ua ul uc)))
   generalize ((((wr.setCell ⟨g,(a+j)*2,none⟩ (.int .i64 (v0:Int))).setCell ⟨g,(a+j)*2+1,none⟩ (.slice va vl vc)).setCell ⟨g,(b+j)*2,none⟩ (.int .i64 (u0:Int))).setCell ⟨g,(b+j)*2+1,none⟩ (.slice ua ul uc)).drew=wq at *
   clear Hsw c0 c1 c2 c3 f0 f1 f2 f3
   go_wp2_with fail
   go_roundw
   case rel=>exact⟨j+1,by omega,by go_num,Hsw2.out,Hgr2.out⟩
   case measure=>simp[intOf];omega
  ·obtain rfl:j=k:=by omega
   have Hpk:=Lib.hid hpk
   clear hpk
   go_wp2_with fail
   go_end0
   exact⟨rfl,by rw[←H1.out];exact Hpk.out,Hgr.out⟩
def rtL (P A U V B Q:List TE):List TE:=(P++A)++U++([]++(V++(B++Q)))
set_option maxRecDepth 100000 in
set_option maxHeartbeats 4000000 in
theorem rotate_any (g N cap a m b:Nat) (rest:List Value) (P X Y Q:List TE) (cmp:Value) (w:World) (h:PkAt w g rest (P++X++(Y++Q))) (ha:P.length=a) (hm:a+X.length=m) (hb:m+Y.length=b) (hX:1≤X.length) (hY:1≤Y.length)
  (hN:(P++X++(Y++Q)).length=N) (hN2:N≤1000000) :
  Calls Tryz.prog 257 #[.slice (some ⟨g,0,none⟩) N cap,.int .i64 (a:Int),.int .i64 (m:Int),.int .i64 (b:Int),cmp] w fun e w'=>e=.returned (.tuple #[])∧PkAt w' g rest (P++Y++(X++Q))∧w.grownBy w' (some g):=by
 have hN3:P.length+X.length+Y.length+Q.length=N:=by rw[←hN];simp;omega
 have HN3:=Lib.hid hN3
 have H:=Lib.hid h
 have HP:=Lib.hid ha
 have ei:(m:Int) - (a:Int)=((X.length:Nat):Int):=by omega
 have ej:(b:Int) - (m:Int)=((Y.length:Nat):Int):=by omega
 have hmb:m≤b:=by omega
 have hbN:b≤N:=by omega
 have ham:a≤m:=by omega
 have Hx:=Lib.hid hX
 have Hy:=Lib.hid hY
 have Hm:=Lib.hid hm
 have Hb:=Lib.hid hb
 clear h hN hN3 ha hX hY hm hb
 generalize hxl:X.length=xl at *
 generalize hyl:Y.length=yl at *
 have Hxl:=Lib.hid hxl
 have Hyl:=Lib.hid hyl
 clear hxl hyl
 go_enter Tryz.func257,Tryz.ntmps257
 go_wp2_with fail
 go_loopw [10,11] (fun i j wr=>∃ A U V B:List TE,i=.int .i64 (U.length:Int)∧j=.int .i64 (V.length:Int)∧1≤U.length∧1≤V.length∧(P++A).length+U.length=m∧m+V.length≤b∧(rtL P A U V B Q).length=N∧Y++X=A++(V++U)++B∧PkAt wr g rest (rtL P A U V B Q)∧w.grownBy wr (some g)) (fun i j _=>(intOf i).toNat+(intOf j).toNat)
 case atStart=>
  refine⟨[],X,Y,[],by rw[Hxl.out],by rw[Hyl.out],by rw[Hxl.out];exact Hx.out,by rw[Hyl.out];exact Hy.out,?_,?_,?_,by simp,?_,World.grownBy.refl _ _⟩
  ·rw[List.append_nil,HP.out,Hxl.out];exact Hm.out
  ·rw[Hyl.out];exact Nat.le_of_eq Hb.out
  ·have:=HN3.out;have:=Hxl.out;have:=Hyl.out;simp[rtL];omega
  ·simpa [rtL] using H.out
 case round=>
  obtain⟨A,U,V,B,rfl,rfl,hu,hv,hA,hV,hL,htgt,hpk,hgr⟩:=hrel
  have Hgr:=Lib.hid hgr
  have Hpk:=Lib.hid hpk
  have Htgt:=Lib.hid htgt
  have HL:=Lib.hid hL
  have HA:=Lib.hid hA
  clear hgr hpk htgt hL
  obtain⟨i,hi⟩:∃ i,U.length=i:=⟨_,rfl⟩
  obtain⟨j,hj⟩:∃ j,V.length=j:=⟨_,rfl⟩
  obtain⟨p,hp⟩:∃ p,(P++A).length=p:=⟨_,rfl⟩
  have Hi:=Lib.hid hi
  have Hj:=Lib.hid hj
  have Hp:=Lib.hid hp
  rw[hi,hp]at hA
  rw[hi]at hu⊢
  rw[hj]at hv hV⊢
  clear hi hj hp
  have e1:(m:Int) - (i:Int)=(p:Int):=by omega
  by_cases hij:i=j
  ·have hne:((i:Int) != (j:Int))=false:=by simp;omega
   have hc:=swapRange_any g N cap p m i rest (P++A) U [] V (B++Q) cmp wr Hpk.out Hi.out (by rw[Hj.out];exact hij.symm) Hp.out (by rw[Hp.out,Hi.out];simpa using hA) HL.out hN2
   have Hc:=Lib.hid hc
   have Hfin:Hid ((P++A)++V++([]++(U++(B++Q)))=P++Y++(X++Q)):=Lib.hid (by
    have:=Htgt.out
    have h2:P++(Y++X)++Q=P++(A++(V++U)++B)++Q:=by rw[this]
    simp only[List.append_assoc,List.nil_append]at h2⊢
    exact h2.symm)
   clear hc hij
   go_wp2_with fail
   refine (Hc.out).mono ?_
   rintro e w2 ⟨rfl,hp2,hg2⟩
   rw[Hfin.out]at hp2
   have Hp2:=Lib.hid hp2
   have Hg2:=Lib.hid (Hgr.out.trans hg2)
   clear hp2 hg2
   go_wp2_with fail
   go_end0
   exact⟨rfl,Hp2.out,Hg2.out⟩
  ·have hne:((i:Int) != (j:Int))=true:=by simp;omega
   by_cases hlt:j < i
   ·have hU:U=U.take j++U.drop j:=(List.take_append_drop _ _).symm
    have hc:=swapRange_any g N cap p m j rest (P++A) (U.take j) (U.drop j) V (B++Q) cmp wr (by have:=Hpk.out;unfold rtL at this;rw[hU]at this;simpa only[List.append_assoc,List.nil_append] using this) (by rw[List.length_take,Hi.out];omega) Hj.out Hp.out
     (by rw[Hp.out,List.length_take,List.length_drop,Hi.out];omega) (by have:=HL.out;unfold rtL at this;rw[hU]at this;simpa only[List.append_assoc,List.nil_append] using this) hN2
    have Hc:=Lib.hid hc
    have e3:(i:Int) - (j:Int)=(((U.drop j).length:Nat):Int):=by rw[List.length_drop,Hi.out];omega
    have Hd:Hid ((U.drop j).length=i - j):=Lib.hid (by rw[List.length_drop,Hi.out])
    have Ht:Hid ((U.take j).length=j):=Lib.hid (by rw[List.length_take,Hi.out];omega)
    have Htg2:Hid (Y++X=(A++V)++(U.take j++U.drop j)++B):=Lib.hid (by rw[Htgt.out,List.take_append_drop];simp only[List.append_assoc])
    have hjI:(j:Int) < (i:Int):=by omega
    clear hc hij hU
    generalize U.drop j=U2 at *
    generalize U.take j=U1 at *
    generalize hd:U2.length=dd at *
    have Hdl:=Lib.hid hd
    clear hd
    go_wp2_with fail
    refine (Hc.out).mono ?_
    rintro e w2 ⟨rfl,hp2,hg2⟩
    have Hp2:Hid (PkAt w2 g rest (rtL P (A++V) U2 U1 B Q)):=Lib.hid (by unfold rtL;simpa only[List.append_assoc,List.nil_append] using hp2)
    have Hg2:=Lib.hid (Hgr.out.trans hg2)
    clear hp2 hg2
    go_wp2_with fail
    go_roundw
    case rel=>
     have a1:=Hd.out;have a2:=Ht.out;have a3:=Hdl.out;have a4:=Hj.out;have a5:=Hi.out;have a6:=Hp.out;have a7:=HL.out
     refine⟨A++V,U2,U1,B,by rw[a3],by rw[a2],by omega,by omega,?_,by omega,?_,Htg2.out,Hp2.out,Hg2.out⟩
     ·simp only[List.length_append]at a6⊢;omega
     ·unfold rtL at a7⊢;simp only[List.length_append,List.length_nil]at a7 a6⊢;omega
    case measure=>
     have a1:=Hd.out
     simp[intOf];omega
   ·have hV':V=V.take (j - i)++V.drop (j - i):=(List.take_append_drop _ _).symm
    have hc:=swapRange_any g N cap p (m+(j - i)) i rest (P++A) U (V.take (j - i)) (V.drop (j - i)) (B++Q) cmp wr (by have:=Hpk.out;unfold rtL at this;rw[hV']at this;simpa only[List.append_assoc,List.nil_append] using this) Hi.out (by rw[List.length_drop,Hj.out];omega) Hp.out
     (by rw[Hp.out,List.length_take,Hi.out,Hj.out];omega) (by have:=HL.out;unfold rtL at this;rw[hV']at this;simpa only[List.append_assoc,List.nil_append] using this) hN2
    have Hc:=Lib.hid hc
    have Hd:Hid ((V.drop (j - i)).length=i):=Lib.hid (by rw[List.length_drop,Hj.out];omega)
    have Ht:Hid ((V.take (j - i)).length=j - i):=Lib.hid (by rw[List.length_take,Hj.out];omega)
    have Htg2:Hid (Y++X=A++(V.take (j - i)++V.drop (j - i))++(U++B)):=Lib.hid (by rw[Htgt.out,List.take_append_drop];simp only[List.append_assoc])
    have hjI:¬ ((j:Int) < (i:Int)):=by omega
    obtain⟨q,hq⟩:∃ q,m+(j - i)=q:=⟨_,rfl⟩
    have e2:(m:Int)+(j:Int) - (i:Int)=(q:Int):=by omega
    obtain⟨r,hr⟩:∃ r,j - i=r:=⟨_,rfl⟩
    have e3:(j:Int) - (i:Int)=(r:Int):=by omega
    rw[hq]at Hc
    rw[hr]at Ht Hd Htg2 Hc
    have hrij:r+i=j:=by omega
    have hr1:1≤r:=by omega
    clear hc hij hV' hq hr
    generalize V.drop r=V2 at *
    generalize V.take r=V1 at *
    go_wp2_with fail
    refine (Hc.out).mono ?_
    rintro e w2 ⟨rfl,hp2,hg2⟩
    have Hp2:Hid (PkAt w2 g rest (rtL P A V2 V1 (U++B) Q)):=Lib.hid (by unfold rtL;simpa only[List.append_assoc,List.nil_append] using hp2)
    have Hg2:=Lib.hid (Hgr.out.trans hg2)
    clear hp2 hg2
    go_wp2_with fail
    go_roundw
    case rel=>
     have a1:=Hd.out;have a2:=Ht.out;have a4:=Hj.out;have a5:=Hi.out;have a6:=Hp.out;have a7:=HL.out
     refine⟨A,V2,V1,U++B,by rw[a1],by rw[a2],by omega,by omega,by rw[a6,a1];omega,by omega,?_,Htg2.out,Hp2.out,Hg2.out⟩
     unfold rtL at a7⊢;simp only[List.length_append,List.length_nil]at a7 a6⊢;omega
    case measure=>simp[intOf];omega
end Go.Proofs.YtabdianhoabhhaaGreatDoor.Weigh
namespace Go.Proofs.YtabdianhoabhhaaGreatDoor.Weigh
open Go Go.RowKit Go.Proofs.YtabdianhoabhhaaGreatDoor Go.Proofs.YtabdianhoabhhaaGreatDoor.SP
set_option linter.unusedVariables false
def Kb (d:List TE):Prop:=∀ e∈d,e.1.1≤1152921504606846976
theorem Kb.perm {d d':List TE} (h:Kb d) (p:d'.Perm d):Kb d':=fun e he=>h e (p.mem_iff.1 he)
theorem Kb.left {a b:List TE} (h:Kb (a++b)):Kb a:=fun e he=>h e (List.mem_append_left _ he)
theorem Kb.right {a b:List TE} (h:Kb (a++b)):Kb b:=fun e he=>h e (List.mem_append_right _ he)
theorem Kb.both {a b:List TE} (h:Kb a) (k:Kb b):Kb (a++b):=fun e he=>by
 rcases List.mem_append.1 he with h1 | h1
 ·exact h e h1
 ·exact k e h1
def cmpV:Value:=.func (.func 227) #[] #[]
theorem cmp_any (n m:Nat) (a b:Sl3) (w:World) (hn:n≤1152921504606846976) (hm:m≤1152921504606846976) :
  Calls Tryz.prog 227 #[.agg #[.int .i64 (n:Int),.slice a.1 a.2.1 a.2.2],.agg #[.int .i64 (m:Int),.slice b.1 b.2.1 b.2.2]] w fun e w'=>e=.returned (.int .i64 ((n:Int) - (m:Int)))∧Below w.heap.size w w':=by
 obtain⟨a1,a2,a3⟩:=a
 obtain⟨b1,b2,b3⟩:=b
 go_enter Tryz.func227,Tryz.ntmps227
 go_wp2
 go_ret
 exact⟨rfl,((Below.refl _ _).alloc (Nat.le_refl _) _).alloc (by simp) _⟩
theorem PkAt.below {w w':World} {g:Nat} {rest:List Value} {d:List TE} (h:PkAt w g rest d) (hb:Below w.heap.size w w'):PkAt w' g rest d:=Blk.below h hb (Blk.lt h)
def isL (P S':List TE) (x:TE) (R:List TE) (u:Nat):List TE:=(P++S'.take u)++x :: (S'.drop u++R)
theorem is_pre (P S':List TE) (x:TE) (R:List TE) (u:Nat) (h:u < S'.length):isL P S' x R (u+1)=(P++S'.take u)++S'[u] :: ([]++x :: (S'.drop (u+1)++R)):=by
 unfold isL
 rw[List.take_succ_eq_append_getElem h]
 simp only[List.append_assoc,List.cons_append,List.nil_append]
theorem is_post (P S':List TE) (x:TE) (R:List TE) (u:Nat) (h:u < S'.length):isL P S' x R u=(P++S'.take u)++x :: ([]++S'[u] :: (S'.drop (u+1)++R)):=by
 unfold isL
 rw[List.drop_eq_getElem_cons h]
 simp only[List.append_assoc,List.cons_append,List.nil_append]
theorem ins_sorted (S':List TE) (x:TE) (u:Nat) (hu:u≤S'.length) (hs:S'.Pairwise (lexP ekey)) (ht:∀ y∈S',y.2 < x.2) (h1:u=0∨∃ h:u - 1 < S'.length,S'[u - 1].1.1≤x.1.1) (h2:u=S'.length∨∃ h:u < S'.length,x.1.1 < S'[u].1.1) :
  (S'.take u++x :: S'.drop u).Pairwise (lexP ekey):=by
 refine put_sorted ekey x S' u hu hs ?_ ?_
 ·rcases h1 with h | ⟨h,k⟩
  ·exact .inl h
  ·refine .inr ⟨h,?_⟩
   have:=ht _ (List.getElem_mem h)
   unfold lexP ekey;omega
 ·rcases h2 with h | ⟨h,k⟩
  ·exact .inl h
  ·exact .inr ⟨h,.inl k⟩
theorem ins_perm (S' T:List TE) (x:TE) (u:Nat) (h:S'.Perm T):(S'.take u++x :: S'.drop u).Perm (T++[x]):=
 (put_perm x S' u).trans ((h.cons x).trans (List.perm_append_singleton x T).symm)
set_option maxRecDepth 100000 in
set_option maxHeartbeats 4000000 in
theorem insertion_any (g N cap a b:Nat) (rest:List Value) (P S Q:List TE) (w:World) (h:PkAt w g rest (P++S++Q)) (ha:P.length=a) (hb:a+S.length=b) (hr:Rise S) (hk:Kb S) (hN:(P++S++Q).length=N) (hN2:N≤1000000) :
  Calls Tryz.prog 254 #[.slice (some ⟨g,0,none⟩) N cap,.int .i64 (a:Int),.int .i64 (b:Int),cmpV] w fun e w'=>e=.returned (.tuple #[])∧(∃ S',PkAt w' g rest (P++S'++Q)∧S'.Perm S∧S'.Pairwise (lexP ekey))∧w.grownBy w' (some g):=by
 have hN3:P.length+S.length+Q.length=N:=by rw[←hN];simp;omega
 have H:=Lib.hid h
 have HP:=Lib.hid ha
 have HR:=Lib.hid hr
 have HK:=Lib.hid hk
 have HS:=Lib.hid hb
 have hbN:b≤N:=by omega
 have hab:a≤b:=by omega
 clear h hN hN3 ha hr hk hb
 unfold cmpV
 go_enter Tryz.func254,Tryz.ntmps254
 go_wp2_with fail
 go_loopw [8] (fun i wr=>∃ (t ti:Nat) (S':List TE),a+t=ti∧i=.int .i64 (ti:Int)∧1≤t∧(t≤S.length∨t=1)∧S'.Perm (S.take t)∧S'.Pairwise (lexP ekey)∧PkAt wr g rest (P++S'++(S.drop t++Q))∧w.grownBy wr (some g)) (fun i _=>b - (intOf i).toNat)
 case atStart=>
  refine⟨1,a+1,S.take 1,rfl,by go_num,Nat.le_refl _,.inr rfl,List.Perm.refl _,?_,?_,World.grownBy.refl _ _⟩
  ·rcases S with _ | ⟨x,S⟩
   ·exact List.Pairwise.nil
   ·exact List.pairwise_singleton _ _
  ·have:=H.out
   rw[List.append_assoc,←List.append_assoc (S.take 1),List.take_append_drop,←List.append_assoc];exact this
 case round=>
  obtain⟨t,ti,S',hti,rfl,ht1,htS,hperm,hsort,hpk,hgr⟩:=hrel
  have Hpk:=Lib.hid hpk
  have Hgr:=Lib.hid hgr
  have Hperm:=Lib.hid hperm
  have Hsort:=Lib.hid hsort
  have Hti:=Lib.hid hti
  clear hpk hgr hperm hsort
  by_cases hlt:ti < b
  ·have htl:t < S.length:=by have:=HS.out;omega
   have HSl:Hid (S'.length=t):=Lib.hid (by rw[Hperm.out.length_eq,List.length_take];omega)
   have Htag:Hid (∀ y∈S',y.2 < S[t].2):=Lib.hid (fun y hy=>by
    have h1:=Hperm.out.mem_iff.1 hy
    obtain⟨i,hi,rfl⟩:=List.mem_iff_getElem.1 h1
    rw[List.length_take]at hi
    rw[List.getElem_take]
    exact List.pairwise_iff_getElem.1 HR.out i t (by omega) htl (by omega))
   have Hkx:Hid (S[t].1.1≤1152921504606846976):=Lib.hid (HK.out _ (List.getElem_mem htl))
   have Hks:Hid (Kb S'):=Lib.hid (fun e he=>HK.out e (List.mem_of_mem_take (Hperm.out.mem_iff.1 he)))
   have Hst:Hid (P++S'++(S.drop t++Q)=isL P S' S[t] (S.drop (t+1)++Q) t):=Lib.hid (by
    unfold isL
    rw[List.drop_eq_getElem_cons htl,List.take_of_length_le (Nat.le_of_eq HSl.out),List.drop_of_length_le (Nat.le_of_eq HSl.out)]
    simp only[List.append_assoc,List.cons_append,List.nil_append])
   have Htk:Hid (S.take (t+1)=S.take t++[S[t]]):=Lib.hid (List.take_succ_eq_append_getElem htl)
   rw[Hst.out]at Hpk
   generalize S[t]=x at *
   clear Hst
   go_wp2_with fail
   go_loopw [9] (fun j wr=>∃ (u uj:Nat),a+u=uj∧j=.int .i64 (uj:Int)∧u≤t∧(u=S'.length∨∃ h:u < S'.length,x.1.1 < S'[u].1.1)∧PkAt wr g rest (isL P S' x (S.drop (t+1)++Q) u)∧w.grownBy wr (some g)) (fun j _=>(intOf j).toNat)
   case atStart=>exact⟨t,ti,Hti.out,rfl,Nat.le_refl _,.inl HSl.out.symm,Hpk.out,Hgr.out⟩
   case round=>
    obtain⟨u,uj,huj,rfl,hut,hux,hpk,hgr⟩:=hrel
    have Hgr2:=Lib.hid hgr
    have Hux:=Lib.hid hux
    clear hgr hux
    rcases u with _ | u
    ·have d0:decide (a < uj)=false:=by simp;omega
     have Hpk2:=Lib.hid hpk
     have Huj:=Lib.hid huj
     clear hpk huj
     have hpr:Hid (uj≤ti):=Lib.hid (by have:=Huj.out;have:=Hti.out;omega)
     go_wp2_with fail
     go_quiet (fail)
     go_wp2_with fail
     go_roundw
     case rel=>
      have a0:=HSl.out
      have hu0:(0:Nat)≤S'.length:=Nat.zero_le _
      have hso:=ins_sorted S' x 0 hu0 Hsort.out Htag.out (.inl rfl) Hux.out
      have hpe:=ins_perm S' _ x 0 Hperm.out
      rw[←Htk.out]at hpe
      exact⟨t+1,ti+1,_,by omega,by go_num,by omega,.inl (by omega),hpe,hso,by have:=Hpk2.out;unfold isL at this;show PkAt wr g rest _;simpa only[List.append_assoc,List.cons_append] using this,grown_drewN Hgr2.out _⟩
     case measure=>simp[intOf];omega
    ·obtain⟨jm,hjm⟩:∃ jm,a+u=jm:=⟨_,rfl⟩
     have hju:uj=jm+1:=by omega
     have hul:u < S'.length:=by rw[HSl.out];omega
     rw[is_pre P S' x _ u hul]at hpk
     have hX:jm=(P++S'.take u).length:=by rw[List.length_append,List.length_take,HP.out,HSl.out];omega
     have hY:uj=(P++S'.take u).length+1+([]:List TE).length:=by rw[←hX,hju];rfl
     have e1:(uj:Int) - 1=(jm:Int):=by omega
     have hw:IntKind.i64.wrap (jm:Int)=(jm:Int):=IntWalk.i64_in _ (by omega)
     have hpr:Hid (uj≤ti∧jm+1=uj∧a≤jm):=Lib.hid (by omega)
     have ha1:a < uj:=by omega
     have ha2:(a:Int) < (uj:Int):=by omega
     have hujN:uj < N:=by omega
     have hjmN:jm < N:=by omega
     have hpost:=is_post P S' x (S.drop (t+1)++Q) u hul
     have hky:=Hks.out _ (List.getElem_mem hul)
     have Hpk3:=Lib.hid hpk
     have hle:∀ h:u+1 - 1 < S'.length,S'[u+1 - 1]=S'[u]:=fun _=>rfl
     obtain⟨y,hy⟩:∃ y,S'[u]=y:=⟨_,rfl⟩
     rw[hy]at hpost hky Hpk3
     have Hy:Hid (∀ h:u < S'.length,S'[u]=y):=Lib.hid (fun _=>hy)
     have Hpost:=Lib.hid hpost
     have HX:=Lib.hid hX
     have HY:=Lib.hid hY
     have Huj:Hid (a+(u+1)=uj∧a+u=jm):=Lib.hid ⟨huj,hjm⟩
     clear hy hpost hpk hX hY huj hjm hju hle
     obtain⟨⟨xk,⟨xa,xb,xc⟩,xm⟩,xt⟩:=x
     obtain⟨⟨yk,⟨ya,yb,yc⟩,ym⟩,yt⟩:=y
     obtain⟨c0,c1,c2,c3,f0,f1,f2,f3⟩:=Hpk3.out.pair HX.out HY.out
     have hkx:=Hkx.out
     simp only at hky hkx
     by_cases hc:xk < yk
     ·have d1:(xk:Int) - (yk:Int) < 0:=by omega
      go_wp2_with fail
      go_still_tail 14,(by kernel_rfl)
      change wpList _ _ _ _ _ wr.drew
      have Hpkd:Hid (PkAt wr.drew g rest _):=Hpk3
      have Hgd:=Lib.hid (grown_drew Hgr2.out)
      generalize wr.drew=wd at *
      clear c0 c1 c2 c3 f0 f1 f2 f3
      go_wp2_with fail
      refine (cmp_any xk yk (xa,xb,xc) (ya,yb,yc) wd hkx hky).mono ?_
      rintro e w3 ⟨rfl,hb3⟩
      have Hpk4:=Lib.hid (Hpkd.out.below hb3)
      have Hg4:=Lib.hid (grown_below Hgd.out hb3)
      obtain⟨c0,c1,c2,c3,f0,f1,f2,f3⟩:=Hpk4.out.pair HX.out HY.out
      clear hb3 Hpkd Hgd
      go_wp2_with fail
      go_region
      have Hsw:Hid (PkAt (swW w3 g uj jm (.int .i64 (yk:Int)) (.slice ya yb yc) (.int .i64 (xk:Int)) (.slice xa xb xc)).drew g rest _):=Lib.hid (Hpk4.out.swapD HX.out HY.out)
      have Hgs:=Lib.hid (grown_sw Hg4.out uj jm (.int .i64 (yk:Int)) (.slice ya yb yc) (.int .i64 (xk:Int)) (.slice xa xb xc))
      rw[←Hpost.out]at Hsw
      unfold swW at Hsw Hgs
      generalize ((((w3.setCell ⟨g,uj*2,none⟩ (.int .i64 (yk:Int))).setCell ⟨g,uj*2+1,none⟩ (.slice ya yb yc)).setCell ⟨g,jm*2,none⟩ (.int .i64 (xk:Int))).setCell ⟨g,jm*2+1,none⟩ (.slice xa xb xc)).drew=wq at *
      clear c0 c1 c2 c3 f0 f1 f2 f3 Hpk4 Hg4
      go_wp2_with fail
      go_roundw
      case rel=>exact⟨u,jm,Huj.out.2,rfl,by omega,.inr ⟨hul,by rw[Hy.out];exact hc⟩,Hsw.out,Hgs.out⟩
      case measure=>simp[intOf];omega
     ·have d1:¬ ((xk:Int) - (yk:Int) < 0):=by omega
      have Hold:Hid (PkAt wr g rest (isL P S' ((xk,(xa,xb,xc),xm),xt) (S.drop (t+1)++Q) (u+1))):=Lib.hid (by rw[is_pre P S' _ _ u hul,Hy.out];exact Hpk3.out)
      go_wp2_with fail
      go_still_tail 14,(by kernel_rfl)
      change wpList _ _ _ _ _ wr.drew
      have Hpkd:Hid (PkAt wr.drew g rest _):=Hold
      have Hgd:=Lib.hid (grown_drew Hgr2.out)
      generalize wr.drew=wd at *
      clear c0 c1 c2 c3 f0 f1 f2 f3
      go_wp2_with fail
      refine (cmp_any xk yk (xa,xb,xc) (ya,yb,yc) wd hkx hky).mono ?_
      rintro e w3 ⟨rfl,hb3⟩
      have Hpk4:=Lib.hid (Hpkd.out.below hb3)
      have Hg4:=Lib.hid (grown_below Hgd.out hb3)
      clear hb3 Hpkd Hgd
      go_wp2_with fail
      go_roundw
      case rel=>
       have a0:=HSl.out
       have hu0:u+1≤S'.length:=hul
       have hso:=ins_sorted S' ((xk,(xa,xb,xc),xm),xt) (u+1) hu0 Hsort.out Htag.out (.inr ⟨hul,by rw[show S'[u+1 - 1]=S'[u] from rfl,Hy.out];show yk≤xk;omega⟩) Hux.out
       have hpe:=ins_perm S' _ ((xk,(xa,xb,xc),xm),xt) (u+1) Hperm.out
       rw[←Htk.out]at hpe
       exact⟨t+1,ti+1,_,by omega,by go_num,by omega,.inl (by omega),hpe,hso,by have:=Hpk4.out;unfold isL at this;simpa only[List.append_assoc,List.cons_append] using this,Hg4.out⟩
      case measure=>simp[intOf];omega
  ·have hall:S.length≤t:=by have:=HS.out;omega
   have Hp1:Hid (S'.Perm S):=Lib.hid (by have:=Hperm.out;rwa [List.take_of_length_le hall]at this)
   have Hpk1:Hid (PkAt wr g rest (P++S'++Q)):=Lib.hid (by have:=Hpk.out;rwa [List.drop_of_length_le hall,List.nil_append]at this)
   go_wp2_with fail
   go_end0
   exact⟨rfl,⟨S',Hpk1.out,Hp1.out,Hsort.out⟩,Hgr.out⟩
end Go.Proofs.YtabdianhoabhhaaGreatDoor.Weigh
namespace Go.Proofs.YtabdianhoabhhaaGreatDoor.Weigh
open Go Go.RowKit Go.Proofs.YtabdianhoabhhaaGreatDoor Go.Proofs.YtabdianhoabhhaaGreatDoor.SP
set_option linter.unusedVariables false
theorem put_up (x:TE) (R:List TE) (t:Nat) (ht:t≤R.length) (hs:R.Pairwise (lexP ekey)) (htag:∀ y∈R,x.2 < y.2) (h1:t=0∨∃ h:t - 1 < R.length,R[t - 1].1.1 < x.1.1) (h2:t=R.length∨∃ h:t < R.length,x.1.1≤R[t].1.1) :
  (R.take t++x :: R.drop t).Pairwise (lexP ekey):=by
 refine put_sorted ekey x R t ht hs ?_ ?_
 ·rcases h1 with h | ⟨h,k⟩
  ·exact .inl h
  ·exact .inr ⟨h,.inl k⟩
 ·rcases h2 with h | ⟨h,k⟩
  ·exact .inl h
  ·refine .inr ⟨h,?_⟩
   have:=htag _ (List.getElem_mem h)
   unfold lexP ekey;omega
theorem up_at (P R Q:List TE) (x:TE) (k:Nat) (h:k < R.length):P++[x]++(R++Q)=P++x :: (R.take k++R[k] :: (R.drop (k+1)++Q)):=by
 have:R=R.take k++R[k] :: R.drop (k+1):=by rw[←List.drop_eq_getElem_cons h,List.take_append_drop]
 conv=>lhs;rw[this]
 simp only[List.append_assoc,List.cons_append,List.nil_append]
def upL (P R Q:List TE) (x:TE) (s:Nat):List TE:=(P++R.take s)++x :: (R.drop s++Q)
theorem up_pre (P R Q:List TE) (x:TE) (s:Nat) (h:s < R.length):upL P R Q x s=(P++R.take s)++x :: ([]++R[s] :: (R.drop (s+1)++Q)):=by
 unfold upL
 rw[List.drop_eq_getElem_cons h]
 simp only[List.cons_append,List.nil_append]
theorem up_post (P R Q:List TE) (x:TE) (s:Nat) (h:s < R.length):upL P R Q x (s+1)=(P++R.take s)++R[s] :: ([]++x :: (R.drop (s+1)++Q)):=by
 unfold upL
 rw[List.take_succ_eq_append_getElem h]
 simp only[List.append_assoc,List.cons_append,List.nil_append]
set_option maxRecDepth 100000 in
set_option maxHeartbeats 8000000 in
theorem sym_up (g N cap a m b:Nat) (rest:List Value) (P R Q:List TE) (x:TE) (w:World) (h:PkAt w g rest (P++[x]++(R++Q))) (ha:P.length=a) (hm:a+1=m) (hb:m+R.length=b) (hR:1≤R.length)
  (hs:R.Pairwise (lexP ekey)) (htag:∀ y∈R,x.2 < y.2) (hkx:x.1.1≤1152921504606846976) (hk:Kb R) (hN:(P++[x]++(R++Q)).length=N) (hN2:N≤1000000) :
  Calls Tryz.prog 255 #[.slice (some ⟨g,0,none⟩) N cap,.int .i64 (a:Int),.int .i64 (m:Int),.int .i64 (b:Int),cmpV] w fun e w'=>e=.returned (.tuple #[])∧(∃ S',PkAt w' g rest (P++S'++Q)∧S'.Perm ([x]++R)∧S'.Pairwise (lexP ekey))∧w.grownBy w' (some g):=by
 have hN3:P.length+1+R.length+Q.length=N:=by rw[←hN];simp;omega
 have H:=Lib.hid h
 have HP:=Lib.hid ha
 have Hs:=Lib.hid hs
 have Htag:=Lib.hid htag
 have Hkx:=Lib.hid hkx
 have HK:=Lib.hid hk
 have Hb:=Lib.hid hb
 have hbN:b≤N:=by omega
 have hmb:m < b:=by omega
 have ham:a < m:=by omega
 have e1:(m:Int) - (a:Int)=1:=by omega
 have Hm:=Lib.hid hm
 clear h hN hN3 ha hs htag hkx hk hb hm hR
 obtain⟨⟨xk,⟨xa,xb,xc⟩,xm⟩,xt⟩:=x
 unfold cmpV
 go_enter Tryz.func255,Tryz.ntmps255
 go_wp2_with fail
 clear e1
 go_loopw [10,11] (fun iv jv wr=>∃ i j:Nat,iv=.int .i64 (i:Int)∧jv=.int .i64 (j:Int)∧m≤i∧i≤j∧j≤b∧(i=m∨∃ h:i - m - 1 < R.length,R[i - m - 1].1.1 < xk)∧(j=b∨∃ h:j - m < R.length,xk≤R[j - m].1.1)∧
  PkAt wr g rest (P++[((xk,(xa,xb,xc),xm),xt)]++(R++Q))∧w.grownBy wr (some g)) (fun iv jv _=>(intOf jv - intOf iv).toNat)
 case atStart=>exact⟨m,b,rfl,rfl,Nat.le_refl _,by omega,Nat.le_refl _,.inl rfl,.inl rfl,H.out,World.grownBy.refl _ _⟩
 case round=>
  obtain⟨i,j,rfl,rfl,hmi,hij,hjb,hI,hJ,hpk,hgr⟩:=hrel
  have HI:=Lib.hid hI
  have HJ:=Lib.hid hJ
  have Hgr:=Lib.hid hgr
  clear hI hJ hgr
  by_cases hlt:i < j
  ·obtain⟨q,hq⟩:∃ q,q=(i+j) / 2:=⟨_,rfl⟩
   have hqi:i≤q:=by omega
   have hqj:q < j:=by omega
   have hql:q - m < R.length:=by have:=Hb.out;omega
   have Hat:=Lib.hid (up_at P R Q ((xk,(xa,xb,xc),xm),xt) (q - m) hql)
   have Hpk:=Lib.hid hpk
   rw[Hat.out]at hpk
   have HX:Hid (a=P.length):=Lib.hid HP.out.symm
   have HY:Hid (q=P.length+1+(R.take (q - m)).length):=Lib.hid (by rw[List.length_take,HP.out];have:=Hm.out;omega)
   have hky:=HK.out _ (List.getElem_mem hql)
   obtain⟨y,hy⟩:∃ y,R[q - m]=y:=⟨_,rfl⟩
   have Hy:Hid (∀ h:q - m < R.length,R[q - m]=y):=Lib.hid (fun _=>hy)
   rw[hy]at hpk hky
   obtain⟨⟨yk,⟨ya,yb,yc⟩,ym⟩,yt⟩:=y
   obtain⟨c0,c1,c2,c3,f0,f1,f2,f3⟩:=hpk.pair HX.out HY.out
   have hkx:=Hkx.out
   simp only at hky hkx
   have e2:((i:Int)+(j:Int)) / 2=(q:Int):=by omega
   have hqN:q < N:=by omega
   have haN:a < N:=by omega
   clear hpk hy hq
   have Hgd:=Lib.hid (grown_drew Hgr.out)
   by_cases hc:yk < xk
   ·have d1:(yk:Int) - (xk:Int) < 0:=by omega
    go_wp2_with fail
    go_still_tail 9,(by kernel_rfl)
    change wpList _ _ _ _ _ wr.drew
    have Hpkd:Hid (PkAt wr.drew g rest _):=Hpk
    generalize wr.drew=wd at *
    clear c0 c1 c2 c3 f0 f1 f2 f3
    go_wp2_with fail
    refine (cmp_any yk xk (ya,yb,yc) (xa,xb,xc) wd hky hkx).mono ?_
    rintro e w3 ⟨rfl,hb3⟩
    have Hpk4:=Lib.hid (Hpkd.out.below hb3)
    have Hg4:=Lib.hid (grown_below Hgd.out hb3)
    clear hb3 Hpkd Hgd
    go_wp2_with fail
    go_roundw
    case rel=>exact⟨q+1,j,by go_num,rfl,by omega,by omega,hjb,.inr ⟨by omega,by
     have e9:q+1 - m - 1=q - m:=by omega
     have:=Hy.out hql
     simp only[e9,this];exact hc⟩,HJ.out,Hpk4.out,Hg4.out⟩
    case measure=>simp[intOf];omega
   ·have d1:¬ ((yk:Int) - (xk:Int) < 0):=by omega
    go_wp2_with fail
    go_still_tail 9,(by kernel_rfl)
    change wpList _ _ _ _ _ wr.drew
    have Hpkd:Hid (PkAt wr.drew g rest _):=Hpk
    generalize wr.drew=wd at *
    clear c0 c1 c2 c3 f0 f1 f2 f3
    go_wp2_with fail
    refine (cmp_any yk xk (ya,yb,yc) (xa,xb,xc) wd hky hkx).mono ?_
    rintro e w3 ⟨rfl,hb3⟩
    have Hpk4:=Lib.hid (Hpkd.out.below hb3)
    have Hg4:=Lib.hid (grown_below Hgd.out hb3)
    clear hb3 Hpkd Hgd
    go_wp2_with fail
    go_roundw
    case rel=>exact⟨i,q,rfl,rfl,hmi,hqi,by omega,HI.out,.inr ⟨hql,by rw[Hy.out hql];show xk≤yk;omega⟩,Hpk4.out,Hg4.out⟩
    case measure=>simp[intOf];omega
  ·obtain rfl:i=j:=by omega
   obtain⟨t,ht⟩:∃ t,a+t=i - 1:=⟨i - 1 - a,by have:=Hm.out;omega⟩
   have htm:i - m=t:=by have:=Hm.out;omega
   have htR:t≤R.length:=by have:=Hb.out;omega
   have hso:(R.take t++((xk,(xa,xb,xc),xm),xt) :: R.drop t).Pairwise (lexP ekey):=by
    refine put_up _ R t htR Hs.out Htag.out ?_ ?_
    ·rcases HI.out with h | ⟨h,k⟩
     ·left;omega
     ·right;simp only[htm]at h k;exact⟨h,k⟩
    ·rcases HJ.out with h | ⟨h,k⟩
     ·left;have:=Hb.out;omega
     ·right;simp only[htm]at h k;exact⟨h,k⟩
   have Hso:=Lib.hid hso
   have Hpk:Hid (PkAt wr g rest (upL P R Q ((xk,(xa,xb,xc),xm),xt) 0)):=Lib.hid (by
    have e:upL P R Q ((xk,(xa,xb,xc),xm),xt) 0=P++[((xk,(xa,xb,xc),xm),xt)]++(R++Q):=by simp[upL]
    rw[e];exact hpk)
   have Hfin:Hid (upL P R Q ((xk,(xa,xb,xc),xm),xt) t=P++(R.take t++((xk,(xa,xb,xc),xm),xt) :: R.drop t)++Q):=Lib.hid (by unfold upL;simp only[List.append_assoc,List.cons_append])
   have Hpe:Hid ((R.take t++((xk,(xa,xb,xc),xm),xt) :: R.drop t).Perm ([((xk,(xa,xb,xc),xm),xt)]++R)):=Lib.hid (put_perm _ R t)
   have Ht:=Lib.hid ht
   obtain⟨i1,hi1⟩:∃ i1,i=i1+1:=⟨i - 1,by omega⟩
   have e3:(i:Int) - 1=(i1:Int):=by omega
   have Hi1:Hid (a+t=i1):=Lib.hid (by omega)
   have hi1N:i1 < N:=by omega
   clear hpk hso ht htm HI HJ hi1
   go_wp2_with fail
   go_loopw [13] (fun kv wr=>∃ s k:Nat,kv=.int .i64 (k:Int)∧a+s=k∧s≤t∧PkAt wr g rest (upL P R Q ((xk,(xa,xb,xc),xm),xt) s)∧w.grownBy wr (some g)) (fun kv _=>i1 - (intOf kv).toNat)
   case atStart=>exact⟨0,a,rfl,rfl,Nat.zero_le _,Hpk.out,Hgr.out⟩
   case round=>
    obtain⟨s,k,rfl,hk,hst,hpk,hgr⟩:=hrel
    have Hgr2:=Lib.hid hgr
    have Hk:=Lib.hid hk
    clear hgr
    by_cases hlt:k < i1
    ·have hsl:s < R.length:=by have:=Hi1.out;omega
     have HX:Hid (k=(P++R.take s).length):=Lib.hid (by rw[List.length_append,List.length_take,HP.out];omega)
     have HY:Hid (k+1=(P++R.take s).length+1+([]:List TE).length):=Lib.hid (by rw[←HX.out];rfl)
     rw[up_pre P R Q _ s hsl]at hpk
     have hpost:=up_post P R Q ((xk,(xa,xb,xc),xm),xt) s hsl
     obtain⟨y,hy⟩:∃ y,R[s]=y:=⟨_,rfl⟩
     rw[hy]at hpk hpost
     obtain⟨⟨yk,⟨ya,yb,yc⟩,ym⟩,yt⟩:=y
     obtain⟨c0,c1,c2,c3,f0,f1,f2,f3⟩:=hpk.pair HX.out HY.out
     have Hsw:Hid (PkAt (swW wr g k (k+1) (.int .i64 (yk:Int)) (.slice ya yb yc) (.int .i64 (xk:Int)) (.slice xa xb xc)).drew g rest _):=Lib.hid (hpk.swapU HX.out HY.out)
     have Hgs:=Lib.hid (grown_sw Hgr2.out k (k+1) (.int .i64 (yk:Int)) (.slice ya yb yc) (.int .i64 (xk:Int)) (.slice xa xb xc))
     rw[←hpost]at Hsw
     unfold swW at Hsw Hgs
     clear hpk hy hpost
     go_wp2_with fail
     go_region
     generalize ((((wr.setCell ⟨g,k*2,none⟩ (.int .i64 (yk:Int))).setCell ⟨g,k*2+1,none⟩ (.slice ya yb yc)).setCell ⟨g,(k+1)*2,none⟩ (.int .i64 (xk:Int))).setCell ⟨g,(k+1)*2+1,none⟩ (.slice xa xb xc)).drew=wq at *
     clear c0 c1 c2 c3 f0 f1 f2 f3
     go_wp2_with fail
     go_roundw
     case rel=>exact⟨s+1,k+1,by go_num,by have:=Hk.out;omega,by have:=Hi1.out;omega,Hsw.out,Hgs.out⟩
     case measure=>simp[intOf];omega
    ·obtain rfl:s=t:=by have:=Hi1.out;omega
     obtain rfl:k=i1:=by have:=Hi1.out;omega
     rw[Hfin.out]at hpk
     have Hpk2:=Lib.hid hpk
     clear hpk
     go_wp2_with fail
     refine bodyPost_ret (results_none rfl _ _ _) rfl ?_
     exact⟨rfl,⟨_,Hpk2.out,Hpe.out,Hso.out⟩,Hgr2.out⟩
end Go.Proofs.YtabdianhoabhhaaGreatDoor.Weigh
