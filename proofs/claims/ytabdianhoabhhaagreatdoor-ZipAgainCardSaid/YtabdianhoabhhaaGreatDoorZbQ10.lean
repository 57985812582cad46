/- texts joined: ZipCatch ZipMore QuietTail MergeChk4 ZipPut ZipEnts. -/
import Derived.Test.YtabdianhoabhhaaGreatDoorZbQ9
import Derived.Test.YtabdianhoabhhaaGreatDoorZbQ8
import Derived.StillTail
import Derived.Deep.QuietTactic
import Derived.Test.YtabdianhoabhhaaGreatDoorZbQ1
import Derived.Lib.BytesEntry
import Derived.Laws.BytesArg
import Derived.Shelf.Bytes.SlSmallAll
import Derived.BigQuiet
import Derived.IntWalk
import Derived.Laws.Cover1
import Derived.Test.YtabdianhoabhhaaGreatDoorZbQ3
import Derived.Deep.CutRange
namespace Go.Proofs.YtabdianhoabhhaaGreatDoor.Zip
open Go Go.RowKit Go.Proofs.YtabdianhoabhhaaGreatDoor Go.Proofs.YtabdianhoabhhaaGreatDoor.Bits Go.Proofs.YtabdianhoabhhaaGreatDoor.Merge Go.Proofs.YtabdianhoabhhaaGreatDoor.Name
open Go.Proofs.YtabdianhoabhhaaGreatDoor.Inf (blk_ne)
set_option linter.unusedVariables false
set_option linter.unusedSimpArgs false
structure OutZ (w:World) (B g2 g3:Nat) (v2 v3:Value):Prop where
 le2:B≤g2
 le3:B≤g3
 b2:Blk w g2 76 #[v2]
 b3:Blk w g3 4 #[v3]
theorem OutZ.s2 {w:World} {B g2 g3:Nat} {v2 v3:Value} (h:OutZ w B g2 g3 v2 v3) (u:Value):OutZ (w.setCell ⟨g2,0,none⟩ u) B g2 g3 u v3:=
 ⟨h.le2,h.le3,h.b2.set_ 0 u,h.b3.far (p:=⟨g2,0,none⟩) (blk_ne h.b3 h.b2 (by decide)) u⟩
theorem OutZ.s3 {w:World} {B g2 g3:Nat} {v2 v3:Value} (h:OutZ w B g2 g3 v2 v3) (u:Value):OutZ (w.setCell ⟨g3,0,none⟩ u) B g2 g3 v2 u:=
 ⟨h.le2,h.le3,h.b2.far (p:=⟨g3,0,none⟩) (blk_ne h.b2 h.b3 (by decide)) u,h.b3.set_ 0 u⟩
theorem OutZ.below {w w':World} {B g2 g3:Nat} {v2 v3:Value} (h:OutZ w B g2 g3 v2 v3) (hb:Below w.heap.size w w'):OutZ w' B g2 g3 v2 v3:=
 ⟨h.le2,h.le3,h.b2.below hb h.b2.lt,h.b3.below hb h.b3.lt⟩
set_option maxRecDepth 100000 in
set_option maxHeartbeats 1600000 in
theorem catchz_panicking (B g2 g3:Nat) (v2 v3:Value) (older:List PanicEntry) (w:World) (hBw:B≤w.heap.size) (h:OutZ w B g2 g3 v2 v3) :
  CallsD Tryz.prog 66 #[.pointer (some ⟨g2,0,none⟩),.pointer (some ⟨g3,0,none⟩)] (.panicking ({ v:=.iface 108 (.agg #[]),recovered:=false } :: older)) w fun e u' w'=>
   e=.returned (.tuple #[])∧u'=.panicking ({ v:=.iface 108 (.agg #[]),recovered:=true } :: older)∧OutZ w' B g2 g3 (.slice none 0 0) (.bool false)∧Below B w w':=by
 have H:=Lib.hid h
 clear h
 refine callsD_of_wpS Tryz.func66 rfl fun c₀ cs hu=>?_
 apply wpS_seq
 apply wpS_region
 simp[wpOpsS,go_sem,recoverD,hu,Tryz.ntmps66,Exit.thenS]
 refine wpS_of_wp (wp_mono (Q:=fun e a w'=>e=.normal∧a.defers=[]∧OutZ w' B g2 g3 (.slice none 0 0) (.bool false)∧Below B w w') ?_ ?_)
 rotate_left
 ·rintro e a w' ⟨rfl,hd,h1,h2⟩
  cases c₀
  simp only at hu
  subst hu
  exact⟨hd,_,rfl,_,results_none rfl _ _ _,rfl,rfl,h1,h2⟩
 clear hu
 have has:∀ (v:Value) (W:World),(Instr.typeAssert (.iface 108 v) 20 108 true).run Tryz.prog W=.ok (.tuple #[v,.bool true]) W:=fun _ _=>by kernel_rfl
 have htm:#[.pointer (some ⟨g2,0,none⟩),.pointer (some ⟨g3,0,none⟩)]++((Array.replicate 14 undef).setIfInBounds 3 (.iface 108 (.agg #[]))).setIfInBounds 0 (.iface 108 (.agg #[]))=#[.pointer (some ⟨g2,0,none⟩),.pointer (some ⟨g3,0,none⟩),.iface 108 (.agg #[]),undef,undef,.iface 108 (.agg #[]),undef,undef,undef,undef,undef,undef,undef,undef,undef,undef]:=rfl
 rw[htm]
 clear htm
 have hb2:Below w.heap.size w (w.alloc (.cells #[] 108)):=(Below.refl _ _).alloc (Nat.le_refl _) _
 have H2:=Lib.hid (H.out.below hb2)
 have Hb2:=Lib.hid (hb2.mono hBw)
 clear hb2
 go_upto_region 5 with fail
 generalize w.alloc (.cells #[] 108)=w2 at *
 have c2:w2.cell? ⟨g2,0,none⟩=some v2:=H2.out.b2.cell 0
 have f2:=H2.out.b2.frozen 0
 have H3:=Lib.hid (H2.out.s2 (.slice none 0 0))
 have Hb3:=Lib.hid (Hb2.out.setCell (p:=⟨g2,0,none⟩) H2.out.le2 (.slice none 0 0))
 have c3:(w2.setCell ⟨g2,0,none⟩ (.slice none 0 0)).cell? ⟨g3,0,none⟩=some v3:=H3.out.b3.cell 0
 have f3:(w2.setCell ⟨g2,0,none⟩ (.slice none 0 0)).frozen? ⟨g3,0,none⟩=false:=H3.out.b3.frozen 0
 have H4:=Lib.hid (H3.out.s3 (.bool false))
 have Hb4:=Lib.hid (Hb3.out.setCell (p:=⟨g3,0,none⟩) H3.out.le3 (.bool false))
 go_wp2_with fail
 exact⟨H4.out,Hb4.out⟩
set_option maxRecDepth 100000 in
set_option maxHeartbeats 1600000 in
theorem catchz_idle (g2 g3:Nat) (w:World) :
  CallsD Tryz.prog 66 #[.pointer (some ⟨g2,0,none⟩),.pointer (some ⟨g3,0,none⟩)] .returning w fun e u' w'=>e=.returned (.tuple #[])∧u'=.returning∧w'=w:=by
 refine callsD_of_wpS Tryz.func66 rfl fun c₀ cs hu=>?_
 apply wpS_seq
 apply wpS_region
 simp[wpOpsS,go_sem,recoverD,hu,Tryz.ntmps66,Exit.thenS]
 refine wpS_of_wp (wp_mono (Q:=fun e a w'=>e=.normal∧a.defers=[]∧w'=w) ?_ ?_)
 rotate_left
 ·rintro e a w' ⟨rfl,hd,rfl⟩
  cases c₀
  simp only at hu
  subst hu
  exact⟨hd,_,rfl,_,results_none rfl _ _ _,rfl,rfl,rfl⟩
 clear hu
 go_wp2_with fail
end Go.Proofs.YtabdianhoabhhaaGreatDoor.Zip
namespace Go.Proofs.YtabdianhoabhhaaGreatDoor.Zip
open Go.Proofs.YtabdianhoabhhaaGreatDoor.Merge Go.Proofs.YtabdianhoabhhaaGreatDoor.Inf
set_option linter.unusedVariables false
def SmallE (b:List UInt8) (e:Ent):Prop:=e.packed.length≤b.length∧e.f.name.length≤b.length
theorem ents_small {b:List UInt8}:∀ (f p:Nat) (done l:List Ent),entsR b f p done=some l→(∀ e∈done,SmallE b e)→∀ e∈l,SmallE b e
 | 0,p,done,l,h,hd=>by
  unfold entsR at h
  injection h with h
  subst h;exact hd
 | f+1,p,done,l,h,hd=>by
  unfold entsR at h
  split at h
  ·obtain⟨⟨x,q⟩,h1,h2⟩:=bind_inv h
   refine ents_small f q (done++[x]) l h2 fun e he=>?_
   rcases List.mem_append.1 he with he | he
   ·exact hd e he
   ·rw[List.mem_singleton]at he
    subst he
    exact⟨(ent_good h1).2.2.2.1,(ent_good h1).2.2.2.2⟩
  ·injection h with h
   subst h;exact hd
theorem ents_count {b:List UInt8}:∀ (f p:Nat) (done l:List Ent),entsR b f p done=some l→done.length≤13→l.length≤13
 | 0,p,done,l,h,hd=>by
  unfold entsR at h
  injection h with h
  subst h;exact hd
 | f+1,p,done,l,h,hd=>by
  unfold entsR at h
  split at h
  ·rename_i hc
   obtain⟨⟨x,q⟩,h1,h2⟩:=bind_inv h
   refine ents_count f q (done++[x]) l h2 ?_
   rw[List.length_append,List.length_cons,List.length_nil]
   have:=hc.2.2
   omega
  ·injection h with h
   subst h;exact hd
structure EntsOk (b:List UInt8) (l:List Ent):Prop where
 good:∀ e∈l,Good e
 small:∀ e∈l,SmallE b e
 count:l.length≤13
theorem ents_ok {b:List UInt8} {l:List Ent} (h:entsR b 14 0 []=some l):EntsOk b l:=
 ⟨ents_good 14 0 [] l h (fun e h=>by cases h),ents_small 14 0 [] l h (fun e h=>by cases h),ents_count 14 0 [] l h (by simp)⟩
theorem laid_small {b:List UInt8} {l:List Ent} (h:EntsOk b l) (hb:b.length≤12000):(laidB l).length≤1000000:=by
 have key:∀ l:List Ent,(∀ e∈l,SmallE b e)→(l.map sizeE).sum≤36098*l.length:=by
  intro l
  induction l with
  | nil=>intro _;exact Nat.le_refl _
  | cons e l ih=>
   intro h
   have h1:=ih fun x hx=>h x (List.mem_cons_of_mem _ hx)
   obtain⟨h2,h3⟩:=h e (List.mem_cons_self ..)
   have hs:sizeE e=98+2*e.f.name.length+e.packed.length:=rfl
   rw[List.map_cons,List.sum_cons,List.length_cons,hs]
   omega
 rw[laid_len]
 have h1:=key l h.small
 have h2:=h.count
 omega
theorem EntsOk.bytes {b:List UInt8} {l:List Ent} (h:EntsOk b l) (hb:b.length≤12000):∀ e∈l,e.f.bytes.length≤12000:=fun e he=>by
 have h1:=bytes_few (h.good e he).bytes
 have h2:=(h.small e he).1
 omega
def entsO (b:List UInt8):Bool×List Ent:=match entsR b 14 0 [] with
 | none=>(false,[])
 | some l=>(decide (laidB l=b),l)
theorem entsO_ok (b:List UInt8):EntsOk b (entsO b).2:=by
 unfold entsO
 cases h:entsR b 14 0 [] with
 | none=>exact⟨(fun e h=>by cases h),(fun e h=>by cases h),by simp⟩
 | some l=>exact ents_ok h
def sumsE (l:List Ent):Bool:=l.all fun e=>sumN e.f.bytes == e.crc
theorem sumsE_snoc (l:List Ent) (e:Ent):sumsE (l++[e])=(sumsE l && sumN e.f.bytes == e.crc):=by simp[sumsE]
theorem read_long {b:List UInt8} (h:12000 < b.length):readR b=.bad 2:=by unfold readR;rw[if_pos h]
theorem read_eq {b:List UInt8} (h:¬ 12000 < b.length):readR b=if (entsO b).1=false then .bad 7 else if chkF ((entsO b).2.map Ent.f)≠0 then .bad 7 else if sumsE (entsO b).2=true then .ok ((entsO b).2.map Ent.f) else .bad 10:=by
 unfold readR entsO sumsE
 rw[if_neg h]
 cases entsR b 14 0 [] with
 | none=>rfl
 | some l=>
  dsimp only
  by_cases h1:laidB l=b
  ·rw[if_neg (show ¬ decide (laidB l=b)=false by simp[h1])]
   by_cases h2:chkF (l.map Ent.f)≠0
   ·rw[if_pos (.inr h2),if_pos h2]
   ·rw[if_neg (by rintro (h | h);exact h h1;exact h2 h),if_neg h2]
  ·rw[if_pos (.inl h1),if_pos (by simp[h1])]
end Go.Proofs.YtabdianhoabhhaaGreatDoor.Zip
namespace Go.Proofs.YtabdianhoabhhaaGreatDoor
open Go Go.RowKit
set_option linter.unusedVariables false
section
variable {P:Program} {ops:Array Oper} {md:Region.Mode} {C:World→Prop}
def wpAnyH (P:Program) (md:Region.Mode) (ops:Array Oper) (C:World→Prop) (n:Nat) (L:Array Bool→Act→Prop):Nat→Array Bool→Act→Prop
 | 0,listed,a=>L listed a
 | f+1,listed,a=>Region.ready md ops listed≠[]∧∀ i∈Region.ready md ops listed,i < n∧qOp P ops C i (wpAnyH P md ops C n L f (listed.setIfInBounds i true)) a
theorem wpAny_of_headH {n g:Nat} {L:Array Bool→Act→Prop} {Q':Exit→Act→World→Prop} (hL:∀ listed a w,C w→L listed a→wpAny P md ops Q' g listed a w) :
  ∀ (f:Nat) (listed:Array Bool) (a:Act) (w:World),C w→wpAnyH P md ops C n L f listed a→wpAny P md ops Q' (f+g) listed a w
 | 0,listed,a,w,hw,h=>by rw[Nat.zero_add];exact hL _ _ _ hw h
 | f+1,listed,a,w,hw,h=>by
  rw[show f+1+g=(f+g)+1 by omega]
  exact⟨fun h0=>absurd h0 h.1,fun i hi=>wpOp_of_qOp hw (fun a' w' hw' h'=>wpAny_of_headH hL f _ a' w' hw' h') (h.2 i hi).2⟩
theorem wpAnyH_first {n i:Nat} {oi:Oper} {v:Value} {L:Array Bool→Act→Prop} (hi:ops[i]?=some oi) (hsel:∀ (j:Nat) (o:Oper) cs b,ops[j]?=some o→o.op≠.select cs b)
  (hs:Region.sinkB md ops n=true) (hc:Region.chainB md ops n=true) (hn:n < ops.size) (hin:i < n)
  (hdone:∀ listed a,L listed a→∀ j∈Region.ready md ops listed,n≤j) :
  ∀ (f:Nat) (listed:Array Bool) (a:Act),HeadInv md ops n listed→
   (∀ j oj,ops[j]?=some oj→j≠i→listed.getD j true=false→(∀ e∈oj.after,Region.binds md e=true→e.on≠i)→oi.apart ops oj=true)→
   i∈Region.ready md ops listed→YieldsIn P ops C oi v a→
   wpAnyH P md ops C n L f (listed.setIfInBounds i true) (a.put oi.dst v)→wpAnyH P md ops C n L (f+1) listed a:=by
 intro f
 induction f with
 | zero=>
  intro listed a inv _ hr hy H
  have hun:=(mem_ready.1 hr).1
  refine⟨fun h=>(by rw[h]at hr;cases hr),fun j hj=>?_⟩
  have hjn:j < n:=by
   rcases Nat.lt_or_ge j n with h | h
   ·exact h
   ·exact absurd hj (tail_waits hs hc hn inv _ i rfl hin hun j h)
  refine⟨hjn,?_⟩
  by_cases hji:j=i
  ·subst hji;exact hy.qOp hi H
  ·have:=hdone _ _ H j (ready_mono hj hji)
   omega
 | succ f ih=>
  intro listed a inv hfree hr hy H
  have hun:=(mem_ready.1 hr).1
  refine⟨fun h=>(by rw[h]at hr;cases hr),fun j hj=>?_⟩
  have hjn:j < n:=by
   rcases Nat.lt_or_ge j n with h | h
   ·exact h
   ·exact absurd hj (tail_waits hs hc hn inv _ i rfl hin hun j h)
  refine⟨hjn,?_⟩
  by_cases hji:j=i
  ·subst hji;exact hy.qOp hi H
  ·have h1:=(H.2 j (ready_mono hj hji)).2
   obtain⟨hjun,oj,hoj,hall⟩:=mem_ready.1 hj
   have hnot:∀ e∈oj.after,Region.binds md e=true→e.on≠i:=fun e he hb heq=>by
    have h1:=hall e he hb
    rw[heq,getD_both hun]at h1
    cases h1
   have h2:=qOp_put hoj (hfree j oj hoj hji hjun hnot) (fun cs b=>hsel i oi cs b hi) (fun cs b=>hsel j oj cs b hoj) hy h1
   have hfree':∀ k ok,ops[k]?=some ok→k≠i→(listed.setIfInBounds j true).getD k true=false→
     (∀ e∈ok.after,Region.binds md e=true→e.on≠i)→oi.apart ops ok=true:=fun k ok hk hki hun hno=>by
    refine hfree k ok hk hki ?_ hno
    by_cases hjk:j=k
    ·subst hjk;exact hjun
    ·rw[getD_set_ne true hjk]at hun;exact hun
   refine qOp_mono (fun a' h3=>ih (listed.setIfInBounds j true) a' (inv.set hj hjn) hfree' (ready_mono hr (Ne.symm hji)) h3.1 ?_) h2
   rw[Array.setIfInBounds_comm _ _ hji]
   exact h3.2
theorem wpAnyH_lex {n g:Nat} {Lq:Act→Prop} (hsel:Region.noSelect ops=true) (hs:Region.sinkB md ops n=true) (hc:Region.chainB md ops n=true) (hn:n < ops.size) :
  ∀ (l:List Oper) (k:Nat) (listed:Array Bool) (a:Act),(∀ j,j < l.length→l[j]?=ops[k+j]?)→k+l.length=n→HeadInv md ops n listed→
  Region.lexHead md ops g l.length k listed=true→wpQuiet P ops C Lq l a→
  wpAnyH P md ops C n (fun listed' a'=>Region.seqB md ops g n listed'=true∧Lq a') l.length listed a
 | [],k,listed,a,_,hk,_,hB,h=>by
  have:k=n:=by simpa using hk
  subst this
  exact⟨by simpa [Region.lexHead] using hB,h⟩
 | o :: l,k,listed,a,hl,hk,inv,hB,h=>by
  have h0:ops[k]?=some o:=by simpa using (hl 0 (by simp)).symm
  simp only[List.length_cons,Region.lexHead,Bool.and_eq_true]at hB
  obtain⟨⟨hr,hf⟩,hB'⟩:=hB
  have hkn:k < n:=by simp only[List.length_cons]at hk;omega
  have hr':k∈Region.ready md ops listed:=by simpa using hr
  have hst:qOp P ops C k (wpQuiet P ops C Lq l) a:=by unfold qOp;simp only[h0];exact h
  obtain⟨v,hy,hK⟩:=yieldsIn_of_qOp h0 hst
  exact wpAnyH_first h0 (Region.noSelect_spec hsel) hs hc hn hkn (fun listed' a' hL=>seqB_ready hL.1) l.length listed a inv (Region.free_spec h0 hf) hr' hy
   (wpAnyH_lex hsel hs hc hn l (k+1) _ _ (fun j hj=>by have:=hl (j+1) (by simp;omega);simpa [Nat.add_assoc,Nat.add_comm 1 j] using this) (by simp only[List.length_cons]at hk;omega) (inv.set hr' hkn) hB' hK)
theorem wp_region_quiet_tail {id:Nat} {Q:Exit→Act→World→Prop} {a:Act} {w:World} {l:List Oper} (n:Nat) (hm:P.follows .mixedOrders=true) (hB:Region.lexTailB .any l.toArray n=true) (hC:C { w with drawn:=w.drawn+1 })
  (h:wpQuiet P l.toArray C (fun a'=>∀ w',C w'→wpList P l.toArray Q (l.drop n) a' w') (l.take n) a):(Code.region id l.toArray true).wp P Q a w:=by
 simp only[Region.lexTailB,Bool.and_eq_true,decide_eq_true_eq]at hB
 obtain⟨⟨⟨⟨hsel,hn⟩,hs⟩,hc⟩,hlex⟩:=hB
 have hn':n < l.length:=by simpa using hn
 have htl:(l.take n).length=n:=by simp;omega
 have hdl:(l.drop n).length=l.toArray.size - n:=by simp
 have inv0:HeadInv .any l.toArray n (Array.replicate l.toArray.size false):=
  ⟨by simp,fun j oj _ hl=>(by rw[getD_replicate_false]at hl;cases hl),fun t _ ht=>getD_in (by simpa using ht) (getD_replicate_false _ _)⟩
 have H:=wpAnyH_lex (C:=C) (md:=.any) (g:=l.toArray.size - n) hsel hs hc hn (l.take n) 0 _ a (fun j hj=>by
  have hj':j < n:=by rw[htl]at hj;exact hj
  simp[hj']) (by simpa using htl) inv0 (by rw[htl];exact hlex) h
 refine wp_region_any hm ?_
 have:=wpAny_of_headH (Q':=Q) (g:=l.toArray.size - n) (fun listed a' w' hw' hL=>by
  have:=wpAny_of_seq (md:=.any) (Q':=Q) (l.drop n) n listed a' w' (fun j=>by simp[List.getElem?_drop]) (by rw[hdl];exact hL.1) (hL.2 w' hw')
  rwa [hdl]at this) _ _ _ _ hC H
 rw[htl,show n+(l.toArray.size - n)=l.toArray.size by omega]at this
 exact this
end
structure BelowBy (w0:World) where
 w:World
 h:Below w0.heap.size w0 w
instance (w0:World):Inhabited (BelowBy w0):=⟨⟨w0,Below.refl _ _⟩⟩
theorem BelowBy.cell {w0:World} {a:Addr} {v:Value} (h:w0.cell? a=some v) (p:BelowBy w0):p.w.cell? a=some v:=cell_below p.h h
theorem belowBy_calls {P:Program} {f:FuncId} {args:Array Value} {w0:World} {p:BelowBy w0} {v:Value}
  (h:Calls P f args p.w fun e w'=>e=.returned v∧Below p.w.heap.size p.w w'):Calls P f args p.w fun e w'=>e=.returned v∧∃ q:BelowBy w0,w'=q.w:=
 h.mono fun e w' ⟨he,hb⟩=>⟨he,⟨w',p.h.trans (hb.mono p.h.size)⟩,rfl⟩
theorem belowBy_same {P:Program} {f:FuncId} {args:Array Value} {w0:World} {p:BelowBy w0} {v:Value}
  (h:Calls P f args p.w fun e w'=>e=.returned v∧w'=p.w):Calls P f args p.w fun e w'=>e=.returned v∧∃ q:BelowBy w0,w'=q.w:=
 h.mono fun e w' ⟨he,hb⟩=>⟨he,p,hb⟩
theorem wp_region_below_tail {P:Program} {id:Nat} {Q:Exit→Act→World→Prop} {a:Act} {w:World} {l:List Oper} (n:Nat) (hm:P.follows .mixedOrders=true) (hB:Region.lexTailB .any l.toArray n=true)
  (h:wpQuiet P l.toArray (fun w'=>∃ p:BelowBy w,w'=p.w) (fun a'=>∀ w',(∃ p:BelowBy w,w'=p.w)→wpList P l.toArray Q (l.drop n) a' w') (l.take n) a):(Code.region id l.toArray true).wp P Q a w:=
 wp_region_quiet_tail (C:=fun w'=>∃ p:BelowBy w,w'=p.w) n hm hB ⟨⟨{ w with drawn:=w.drawn+1 },⟨rfl,rfl,rfl,Nat.le_refl _,fun _ _=>rfl⟩⟩,rfl⟩ h
theorem wp_region_below {P:Program} {id:Nat} {Q:Exit→Act→World→Prop} {a:Act} {w:World} {l:List Oper} (hm:P.follows .mixedOrders=true) (hB:Region.lexB .any l.toArray=true)
  (h:wpQuiet P l.toArray (fun w'=>∃ p:BelowBy w,w'=p.w) (fun a'=>∀ w',(∃ p:BelowBy w,w'=p.w)→Q .normal a' w') l a):(Code.region id l.toArray true).wp P Q a w:=
 wp_region_quiet (C:=fun w'=>∃ p:BelowBy w,w'=p.w) hm hB ⟨⟨{ w with drawn:=w.drawn+1 },⟨rfl,rfl,rfl,Nat.le_refl _,fun _ _=>rfl⟩⟩,rfl⟩ (by simpa using h)
end Go.Proofs.YtabdianhoabhhaaGreatDoor
namespace Go.Proofs.YtabdianhoabhhaaGreatDoor.Merge
open Go Go.RowKit Go.Proofs.YtabdianhoabhhaaGreatDoor Go.Proofs.YtabdianhoabhhaaGreatDoor.Name
set_option linter.unusedVariables false
theorem bytesOf_map (xs:List UInt8):Lib.bytesOf (xs.map n8)=xs:=by
 unfold Lib.bytesOf
 rw[List.map_map]
 conv=>rhs;rw[←List.map_id xs]
 apply List.map_congr_left
 intro x _
 exact n8_back8 x
theorem run_bytesOf {P:Program} {w:World} {A:Option Addr} {xs:List UInt8} (n c:Nat) (hn:n=xs.length) (h:ByAt w A xs):(Extern.Bytes.bytesOf (.slice A n c)).run P w=.ok (Name.strB xs) w:=by
 subst hn
 by_cases h0:xs=[]
 ·subst h0
  cases A with
  | none=>rfl
  | some a=>rfl
 ·obtain⟨b,o,rfl,hc⟩:=h (by simpa using List.length_pos_iff.2 h0)
  have hl:=Lib.run_loadBytesX (P:=P) w (xs.map n8) ⟨b,o,none⟩ .empty (fun j x hj=>by
   rw[addr_add]
   refine hc j _ ?_
   rw[List.getElem?_map]at hj⊢
   cases hx:xs[j]? with
   | none=>rw[hx]at hj;cases hj
   | some y=>rw[hx]at hj;injection hj with hj;subst hj;rfl)
  rw[List.length_map,bytesOf_map]at hl
  have he:(⟨ByteArray.empty.data++xs.toArray⟩:ByteArray)=Name.strB xs:=by
   apply ByteArray.ext
   show (#[]:Array UInt8)++xs.toArray=xs.toArray
   simp
  rw[he]at hl
  exact hl
theorem run_compareSlices {P:Program} {w:World} {A B:Option Addr} {xs ys:List UInt8} (n c m d:Nat) (hn:n=xs.length) (hm:m=ys.length) (h1:ByAt w A xs) (h2:ByAt w B ys) :
  (Extern.BytealgCompare.compare #[.slice A n c,.slice B m d]).run P w=.ok (.int .i64 (cb xs ys)) w:=by
 change Sem.run P (do pure (goInt (Extern.BytealgCompare.cmp (←Extern.Bytes.bytesOf (.slice A n c)) (←Extern.Bytes.bytesOf (.slice B m d))))) w=_
 simp only[Sem.run_bind,run_bytesOf n c hn h1,run_bytesOf m d hm h2,Sem.run_pure,Result.andThen]
 rw[Lib.cmp_eq,strB_data,strB_data]
 rfl
set_option maxRecDepth 100000 in
set_option maxHeartbeats 400000 in
theorem bytesCompare_any (A B:Option Addr) (n c m d:Nat) (xs ys:List UInt8) (w:World) (hn:n=xs.length) (hm:m=ys.length) (h1:ByAt w A xs) (h2:ByAt w B ys) :
  Calls Tryz.prog 114 #[.slice A n c,.slice B m d] w fun e w'=>e=.returned (.int .i64 (cb xs ys))∧w'=w:=by
 have Hr:=Lib.hid (run_compareSlices (P:=Tryz.prog) n c m d hn hm h1 h2)
 clear hn hm h1 h2
 go_enter Tryz.func114,Tryz.ntmps114
 go_wp2_with fail
 rw[run_callFunc_extern Tryz.func142 (by kernel_rfl) (by kernel_rfl) (by kernel_rfl) (e:=Extern.BytealgCompare.compare) (by kernel_rfl),Hr.out]
 simp only[Result.andThen]
 rw[Oper.upon_value]
 go_wp2_with fail
 go_ret
 exact⟨rfl,rfl⟩
set_option maxRecDepth 100000 in
set_option maxHeartbeats 400000 in
theorem stringsCompare_any (a b:List UInt8) (w:World) :
  Calls Tryz.prog 75 #[.string (Name.strB a),.string (Name.strB b)] w fun e w'=>e=.returned (.int .i64 (cb a b))∧w'=w:=by
 have Hr:=Lib.hid (Lib.run_compareString (P:=Tryz.prog) (Name.strB a) (Name.strB b) w)
 go_enter Tryz.func75,Tryz.ntmps75
 go_wp2_with (first | go_in)
 rw[run_callFunc_extern Tryz.func140 (by kernel_rfl) (by kernel_rfl) (by kernel_rfl) (e:=Extern.BytealgCompare.compare) (by kernel_rfl),Hr.out]
 simp only[Result.andThen]
 rw[Oper.upon_value,strB_data,strB_data]
 go_wp2_with fail
 go_ret
 exact⟨rfl,rfl⟩
set_option maxHeartbeats 400000 in
theorem compareI_any (x y:Int) (w:World) :
  Calls Tryz.prog 113 #[.int .i64 x,.int .i64 y] w fun e w'=>e=.returned (.int .i64 (ci x y))∧w'=w:=by
 have h1:x < y→ci x y=-1:=fun h=>by unfold ci Lib.compareInt;rw[if_pos h]
 have h2:y < x→ci x y=1:=fun h=>by unfold ci Lib.compareInt;rw[if_neg (by omega),if_pos h]
 have h3:x=y→ci x y=0:=fun h=>by unfold ci Lib.compareInt;rw[if_neg (by omega),if_neg (by omega)]
 rcases (by omega:x < y∨y < x∨x=y) with h | h | h
 ·have H:=Lib.hid (h1 h)
  have h':¬ y < x:=by omega
  clear h1 h2 h3
  generalize ci x y=r at *
  go_enter Tryz.func113,Tryz.ntmps113
  go_wp2
  go_ret
  exact⟨by rw[H.out];rfl,rfl⟩
 ·have H:=Lib.hid (h2 h)
  have h':¬ x < y:=by omega
  clear h1 h2 h3
  generalize ci x y=r at *
  go_enter Tryz.func113,Tryz.ntmps113
  go_wp2
  go_ret
  exact⟨by rw[H.out];rfl,rfl⟩
 ·subst h
  have H:=Lib.hid (h3 rfl)
  clear h1 h2 h3
  generalize ci x x=r at *
  go_enter Tryz.func113,Tryz.ntmps113
  go_wp2
  go_ret
  exact⟨by rw[H.out];rfl,rfl⟩
def or4 (a b c d:Int):Int:=orI a (orI b (orI c d))
set_option maxRecDepth 100000 in
set_option maxHeartbeats 800000 in
theorem or4_any (g:Nat) (a b c d:Int) (w:World) (h:Blk w g 3 #[.int .i64 a,.int .i64 b,.int .i64 c,.int .i64 d]) :
  Calls Tryz.prog 112 #[.slice (some ⟨g,0,none⟩) 4 4] w fun e w'=>e=.returned (.int .i64 (or4 a b c d))∧w'=w:=by
 have h0:w.cell? ⟨g,0,none⟩=some (.int .i64 a):=by rw[h.cell];rfl
 have h1:w.cell? ⟨g,1,none⟩=some (.int .i64 b):=by rw[h.cell];rfl
 have h2:w.cell? ⟨g,2,none⟩=some (.int .i64 c):=by rw[h.cell];rfl
 have h3:w.cell? ⟨g,3,none⟩=some (.int .i64 d):=by rw[h.cell];rfl
 have Ha:Hid (a≠0→or4 a b c d=a):=Lib.hid (fun h=>by unfold or4 orI;rw[if_pos h])
 have Hb:Hid (a=0→b≠0→or4 a b c d=b):=Lib.hid (fun h h2=>by unfold or4 orI;rw[if_neg (by simpa using h),if_pos h2])
 have Hc:Hid (a=0→b=0→c≠0→or4 a b c d=c):=Lib.hid (fun h h2 h3=>by unfold or4 orI;rw[if_neg (by simpa using h),if_neg (by simpa using h2),if_pos h3])
 have Hd:Hid (a=0→b=0→c=0→or4 a b c d=d):=Lib.hid (fun h h2 h3=>by unfold or4 orI;rw[if_neg (by simpa using h),if_neg (by simpa using h2),if_neg (by simpa using h3)])
 clear h
 generalize or4 a b c d=r at *
 go_enter Tryz.func112,Tryz.ntmps112
 go_wp2_with fail
 go_loop [8] (fun i=>∃ k:Nat,k≤4∧i=.int .i64 (k:Int)∧(1≤k→a=0)∧(2≤k→b=0)∧(3≤k→c=0)∧(4≤k→d=0)) (fun i=>4 - (intOf i).toNat)
 case atStart=>exact⟨0,by omega,rfl,by omega,by omega,by omega,by omega⟩
 case round=>
  obtain⟨k,hk,rfl,k1,k2,k3,k4⟩:=hrel
  have K1:=Lib.hid k1
  have K2:=Lib.hid k2
  have K3:=Lib.hid k3
  have K4:=Lib.hid k4
  clear k1 k2 k3 k4
  rcases (by omega:k=0∨k=1∨k=2∨k=3∨k=4) with rfl | rfl | rfl | rfl | rfl
  ·by_cases hz:a=0
   ·subst hz
    go_wp2_with fail
    go_round
    case rel=>exact⟨1,by omega,by go_num,by simp,by omega,by omega,by omega⟩
    case measure=>simp[intOf]
   ·have hz':(a != 0)=true:=by simpa using hz
    go_wp2_with fail
    go_ret
    exact⟨by rw[Ha.out hz];rfl,rfl⟩
  ·have Z1:=Lib.hid (K1.out (by omega))
   by_cases hz:b=0
   ·subst hz
    go_wp2_with fail
    go_round
    case rel=>exact⟨2,by omega,by go_num,fun _=>Z1.out,by simp,by omega,by omega⟩
    case measure=>simp[intOf]
   ·have hz':(b != 0)=true:=by simpa using hz
    go_wp2_with fail
    go_ret
    exact⟨by rw[Hb.out Z1.out hz];rfl,rfl⟩
  ·have Z1:=Lib.hid (K1.out (by omega))
   have Z2:=Lib.hid (K2.out (by omega))
   by_cases hz:c=0
   ·subst hz
    go_wp2_with fail
    go_round
    case rel=>exact⟨3,by omega,by go_num,fun _=>Z1.out,fun _=>Z2.out,by simp,by omega⟩
    case measure=>simp[intOf]
   ·have hz':(c != 0)=true:=by simpa using hz
    go_wp2_with fail
    go_ret
    exact⟨by rw[Hc.out Z1.out Z2.out hz];rfl,rfl⟩
  ·have Z1:=Lib.hid (K1.out (by omega))
   have Z2:=Lib.hid (K2.out (by omega))
   have Z3:=Lib.hid (K3.out (by omega))
   by_cases hz:d=0
   ·subst hz
    go_wp2_with fail
    go_round
    case rel=>exact⟨4,by omega,by go_num,fun _=>Z1.out,fun _=>Z2.out,fun _=>Z3.out,by simp⟩
    case measure=>simp[intOf]
   ·have hz':(d != 0)=true:=by simpa using hz
    go_wp2_with fail
    go_ret
    exact⟨by rw[Hd.out Z1.out Z2.out Z3.out];rfl,rfl⟩
  ·have Z:=Lib.hid (Hd.out (K1.out (by omega)) (K2.out (by omega)) (K3.out (by omega)))
   have Z4:=Lib.hid (K4.out (by omega))
   go_wp2_with fail
   go_ret
   exact⟨by rw[Z.out,Z4.out];rfl,rfl⟩
set_option maxHeartbeats 400000 in
theorem goneI_any (x:Fx) (w:World) :
  Calls Tryz.prog 111 #[fV x] w fun e w'=>e=.returned (.int .i64 (gi x.1.gone))∧Below w.heap.size w w':=by
 obtain⟨⟨nm,bs,st,nd,gn⟩,A,n,c⟩:=x
 unfold fV slv
 dsimp only
 cases gn with
 | true=>
  go_enter Tryz.func111,Tryz.ntmps111
  go_wp2
  go_ret
  exact⟨rfl,(Below.refl _ _).alloc (Nat.le_refl _) _⟩
 | false=>
  go_enter Tryz.func111,Tryz.ntmps111
  go_wp2
  go_ret
  exact⟨rfl,(Below.refl _ _).alloc (Nat.le_refl _) _⟩
end Go.Proofs.YtabdianhoabhhaaGreatDoor.Merge
namespace Go.Proofs.YtabdianhoabhhaaGreatDoor.Merge
open Go Go.RowKit Go.Proofs.YtabdianhoabhhaaGreatDoor Go.Proofs.YtabdianhoabhhaaGreatDoor.Name
set_option linter.unusedVariables false
theorem later_or4 (a b:Fl):later a b=or4 (ci a.stamp b.stamp) (ci a.node b.node) (ci (gi a.gone) (gi b.gone)) (cb a.bytes b.bytes):=rfl
set_option maxRecDepth 100000 in
set_option maxHeartbeats 1600000 in
theorem newer_any (x y:Fx) (w:World) (hx:FileAt w x) (hy:FileAt w y) :
  Calls Tryz.prog 76 #[fV x,fV y] w fun e w'=>e=.returned (.int .i64 (later x.1 y.1))∧Below w.heap.size w w':=by
 obtain⟨⟨n1,b1,s1,d1,g1⟩,A1,l1,c1⟩:=x
 obtain⟨⟨n2,b2,s2,d2,g2⟩,A2,l2,c2⟩:=y
 have Hx:=Lib.hid hx
 have Hy:=Lib.hid hy
 clear hx hy
 unfold fV slv
 dsimp only
 obtain⟨w2,hw2⟩:∃ w2,w2=(w.alloc (.cells #[.string (Name.strB n1),.slice A1 l1 c1,.int .i64 s1,.int .i64 d1,.bool g1] 36)).alloc (.cells #[.string (Name.strB n2),.slice A2 l2 c2,.int .i64 s2,.int .i64 d2,.bool g2] 36):=⟨_,rfl⟩
 have hb2:Below w.heap.size w w2:=by rw[hw2];exact ((Below.refl _ _).alloc (Nat.le_refl _) _).alloc (by simp) _
 have B1:Blk w2 w.heap.size 36 #[.string (Name.strB n1),.slice A1 l1 c1,.int .i64 s1,.int .i64 d1,.bool g1]:=by rw[hw2];exact (Blk.new _ _ _).alloc _
 have B2:Blk w2 (w.heap.size+1) 36 #[.string (Name.strB n2),.slice A2 l2 c2,.int .i64 s2,.int .i64 d2,.bool g2]:=by
  rw[hw2]
  have:=Blk.new (w.alloc (.cells #[.string (Name.strB n1),.slice A1 l1 c1,.int .i64 s1,.int .i64 d1,.bool g1] 36)) 36 #[.string (Name.strB n2),.slice A2 l2 c2,.int .i64 s2,.int .i64 d2,.bool g2]
  simpa using this
 have Hx2:=Lib.hid (Hx.out.below hb2)
 have Hy2:=Lib.hid (Hy.out.below hb2)
 have Hb2:=Lib.hid hb2
 have p0:=fun p:BelowBy w2=>BelowBy.cell (show w2.cell? ⟨w.heap.size,0,none⟩=some (.string (Name.strB n1)) by rw[B1.cell];rfl) p
 have p1:=fun p:BelowBy w2=>BelowBy.cell (show w2.cell? ⟨w.heap.size,1,none⟩=some (.slice A1 l1 c1) by rw[B1.cell];rfl) p
 have p2:=fun p:BelowBy w2=>BelowBy.cell (show w2.cell? ⟨w.heap.size,2,none⟩=some (.int .i64 s1) by rw[B1.cell];rfl) p
 have p3:=fun p:BelowBy w2=>BelowBy.cell (show w2.cell? ⟨w.heap.size,3,none⟩=some (.int .i64 d1) by rw[B1.cell];rfl) p
 have p4:=fun p:BelowBy w2=>BelowBy.cell (show w2.cell? ⟨w.heap.size,4,none⟩=some (.bool g1) by rw[B1.cell];rfl) p
 have q0:=fun p:BelowBy w2=>BelowBy.cell (show w2.cell? ⟨w.heap.size+1,0,none⟩=some (.string (Name.strB n2)) by rw[B2.cell];rfl) p
 have q1:=fun p:BelowBy w2=>BelowBy.cell (show w2.cell? ⟨w.heap.size+1,1,none⟩=some (.slice A2 l2 c2) by rw[B2.cell];rfl) p
 have q2:=fun p:BelowBy w2=>BelowBy.cell (show w2.cell? ⟨w.heap.size+1,2,none⟩=some (.int .i64 s2) by rw[B2.cell];rfl) p
 have q3:=fun p:BelowBy w2=>BelowBy.cell (show w2.cell? ⟨w.heap.size+1,3,none⟩=some (.int .i64 d2) by rw[B2.cell];rfl) p
 have q4:=fun p:BelowBy w2=>BelowBy.cell (show w2.cell? ⟨w.heap.size+1,4,none⟩=some (.bool g2) by rw[B2.cell];rfl) p
 have HL:=Lib.hid (later_or4 ⟨n1,b1,s1,d1,g1⟩ ⟨n2,b2,s2,d2,g2⟩)
 have hl1:l1=b1.length:=Hx.out.len
 have hl2:l2=b2.length:=Hy.out.len
 have Hl1:=Lib.hid hl1
 have Hl2:=Lib.hid hl2
 have Hw2:=Lib.hid hw2.symm
 clear B1 B2 hb2 hl1 hl2 hw2
 go_enter Tryz.func76,Tryz.ntmps76
 go_wp2_with fail
 rw[Hw2.out]
 clear Hw2
 refine wp_region_below_tail 22 (by kernel_rfl) (by kernel_rfl) ?_
 simp only[List.take_succ_cons,List.take_zero,List.drop_succ_cons,List.drop_zero]
 repeat (quiet_step (first
  | exact belowBy_same (compareI_any _ _ _)
  | exact belowBy_calls (goneI_any (⟨n1,b1,s1,d1,g1⟩,A1,l1,c1) _)
  | exact belowBy_calls (goneI_any (⟨n2,b2,s2,d2,g2⟩,A2,l2,c2) _)
  | exact belowBy_same (bytesCompare_any _ _ _ _ _ _ _ _ _ Hl1.out Hl2.out (Hx2.out.below (BelowBy.h _)).at_ (Hy2.out.below (BelowBy.h _)).at_)))
 refine wpQuiet_nil ?_
 intro wq hq
 have hbq:Below w2.heap.size w2 wq:=by obtain⟨p,hp⟩:=hq;rw[hp];exact p.h
 clear hq
 have Hbq:=Lib.hid (Hb2.out.trans (hbq.mono Hb2.out.size))
 clear p0 p1 p2 p3 p4 q0 q1 q2 q3 q4 hbq
 have Bk:=Lib.hid (Blk.new wq 3 #[.int .i64 (ci s1 s2),.int .i64 (ci d1 d2),.int .i64 (ci (gi g1) (gi g2)),.int .i64 (cb b1 b2)])
 have Hb3:=Lib.hid (Hbq.out.alloc Hbq.out.size (.cells #[.int .i64 (ci s1 s2),.int .i64 (ci d1 d2),.int .i64 (ci (gi g1) (gi g2)),.int .i64 (cb b1 b2)] 3))
 go_wp2_with fail
 refine (or4_any _ _ _ _ _ _ Bk.out).mono ?_
 rintro e wx ⟨rfl,hw⟩
 have hw:=hw.symm
 subst hw
 go_wp2_with fail
 go_ret
 exact⟨by rw[HL.out];rfl,Hb3.out⟩
end Go.Proofs.YtabdianhoabhhaaGreatDoor.Merge
namespace Go.Proofs.YtabdianhoabhhaaGreatDoor.Merge
open Go Go.RowKit Go.Proofs.YtabdianhoabhhaaGreatDoor Go.Proofs.YtabdianhoabhhaaGreatDoor.Name
set_option linter.unusedVariables false
theorem strB_inj (xs ys:List UInt8):((Name.strB xs).toList == (Name.strB ys).toList)=decide (xs=ys):=by
 rw[ByteArray.toList_eq,ByteArray.toList_eq,Bool.eq_iff_iff];simp[Name.strB]
theorem strB_nums (xs:List UInt8):strOfNums (xs.map n8)=Name.strB xs:=by
 unfold strOfNums Name.strB
 rw[List.map_map]
 have:((fun n=>UInt8.ofNat n.toNat) ∘ n8)=id:=by
  funext x;simp[n8]
 rw[this,List.map_id]
theorem conv_bytes (A:Option Addr) (n c:Nat) (xs:List UInt8) (w:World) (hn:xs.length=n) (h:ByAt w A xs) :
  (convert 23 9 (.slice A n c)).run Tryz.prog w=.ok (.string (Name.strB xs)) w:=by
 rw[←strB_nums]
 cases n with
 | zero=>
  have:xs=[]:=List.eq_nil_of_length_eq_zero hn
  subst this
  exact run_convert_bytes_zero w _ _ Tryz.underlying23 Tryz.underlying5 A c _ Tryz.underlying9
 | succ n=>
  obtain⟨b,o,rfl,_⟩:=SlAt.get h (k:=0) (by simp;omega)
  refine run_convert_bytes_arg w _ _ Tryz.underlying23 Tryz.underlying5 b o _ c _ (by simpa using hn) (fun i hi=>?_) _ Tryz.underlying9
  obtain⟨b',o',hb,hc⟩:=SlAt.get h (k:=i) (by simp;omega)
  injection hb with hb;injection hb with h1 h2 h3
  subst h1 h2
  rw[hc]
  have:i < xs.length:=by omega
  simp[List.getD,u8v,this]
set_option maxHeartbeats 400000 in
theorem equal_any (A B:Option Addr) (n m ca cb:Nat) (xs ys:List UInt8) (w:World) (hn:xs.length=n) (hm:ys.length=m) (ha:ByAt w A xs) (hb:ByAt w B ys) :
  Calls Tryz.prog 22 #[.slice A n ca,.slice B m cb] w fun e w'=>e=.returned (.bool (decide (xs=ys)))∧w'=w:=by
 have k1:=conv_bytes A n ca xs w hn ha
 have k2:=conv_bytes B m cb ys w hm hb
 have K:Hid ((xs == ys)=decide (xs=ys)):=Lib.hid (by rw[Bool.eq_iff_iff];simp)
 clear hn hm ha hb
 go_enter Tryz.func22,Tryz.ntmps22
 go_wp2_with fail
 go_ret
 exact⟨ret_bool K.out,rfl⟩
theorem blk5 {w:World} {g:Nat} {t:TypeId} {v0 v1 v2 v3 v4:Value} (h:Blk w g t #[v0,v1,v2,v3,v4]) :
  w.cell? ⟨g,0,none⟩=some v0∧w.cell? ⟨g,1,none⟩=some v1∧w.cell? ⟨g,2,none⟩=some v2∧w.cell? ⟨g,3,none⟩=some v3∧w.cell? ⟨g,4,none⟩=some v4:=
 ⟨by rw[h.cell];rfl,by rw[h.cell];rfl,by rw[h.cell];rfl,by rw[h.cell];rfl,by rw[h.cell];rfl⟩
def sameF (a b:Fl):Bool:=decide (a.name=b.name) && decide (a.bytes=b.bytes) && decide (a.stamp=b.stamp) && decide (a.node=b.node) && decide (a.gone=b.gone)
theorem sameF_iff (a b:Fl):sameF a b=true↔a=b:=by
 cases a;cases b
 simp[sameF,and_assoc]
set_option maxHeartbeats 1600000 in
theorem sameFile_any (x y:Fx) (w:World) (hx:FileAt w x) (hy:FileAt w y) :
  Calls Tryz.prog 20 #[fV x,fV y] w fun e w'=>e=.returned (.bool (sameF x.1 y.1))∧Below w.heap.size w w':=by
 obtain⟨⟨n1,b1,s1,d1,g1⟩,A1,l1,c1⟩:=x
 obtain⟨⟨n2,b2,s2,d2,g2⟩,A2,l2,c2⟩:=y
 unfold fV slv
 dsimp only
 obtain⟨w2,hw2⟩:∃ w2,w2=(w.alloc (.cells #[.string (Name.strB n1),.slice A1 l1 c1,.int .i64 s1,.int .i64 d1,.bool g1] 36)).alloc (.cells #[.string (Name.strB n2),.slice A2 l2 c2,.int .i64 s2,.int .i64 d2,.bool g2] 36):=⟨_,rfl⟩
 have hb2:Below w.heap.size w w2:=by rw[hw2];exact ((Below.refl _ _).alloc (Nat.le_refl _) _).alloc (by simp) _
 have hl1:l1=b1.length:=hx.len
 have hl2:l2=b2.length:=hy.len
 have B1:Blk w2 w.heap.size 36 #[.string (Name.strB n1),.slice A1 l1 c1,.int .i64 s1,.int .i64 d1,.bool g1]:=by rw[hw2];exact (Blk.new _ _ _).alloc _
 have B2:Blk w2 (w.heap.size+1) 36 #[.string (Name.strB n2),.slice A2 l2 c2,.int .i64 s2,.int .i64 d2,.bool g2]:=by
  rw[hw2]
  have:=Blk.new (w.alloc (.cells #[.string (Name.strB n1),.slice A1 l1 c1,.int .i64 s1,.int .i64 d1,.bool g1] 36)) 36 #[.string (Name.strB n2),.slice A2 l2 c2,.int .i64 s2,.int .i64 d2,.bool g2]
  simpa using this
 have HB:=Lib.hid (And.intro B1 B2)
 have He:=Lib.hid (equal_any A1 A2 l1 l2 c1 c2 b1 b2 w2 hl1.symm hl2.symm (hx.below hb2).at_ (hy.below hb2).at_)
 have Hb2:=Lib.hid hb2
 have Hw2:=Lib.hid hw2.symm
 have Hsf:Hid (sameF ⟨n1,b1,s1,d1,g1⟩ ⟨n2,b2,s2,d2,g2⟩=(decide (n1=n2) && decide (b1=b2) && decide (s1=s2) && decide (d1=d2) && decide (g1=g2))):=Lib.hid rfl
 clear hb2 hw2 hl1 hl2 hx hy B1 B2
 by_cases h1:n1=n2
 ·subst h1
  by_cases h2:b1=b2
  ·rw[decide_eq_true h2]at He Hsf
   clear h2
   by_cases h3:s1=s2
   ·subst h3
    by_cases h4:d1=d2
    ·subst h4
     have e5:(g1 == g2)=decide (g1=g2):=by cases g1 <;> cases g2 <;> rfl
     have E5:=Lib.hid e5
     clear e5
     go_enter Tryz.func20,Tryz.ntmps20
     go_wp2_with fail
     rw[Hw2.out]
     refine (He.out).mono ?_
     rintro e w3 ⟨rfl,h⟩
     have h:=h.symm
     subst h
     have p:=blk5 HB.out.1
     have q:=blk5 HB.out.2
     obtain⟨p0,p1,p2,p3,p4⟩:=p
     obtain⟨q0,q1,q2,q3,q4⟩:=q
     go_wp2_with fail
     go_ret
     exact⟨ret_bool (by rw[Hsf.out];simp;exact E5.out),Hb2.out⟩
    ·have f4:(d1 == d2)=false:=by simp[h4]
     rw[decide_eq_false h4]at Hsf
     clear h4
     go_enter Tryz.func20,Tryz.ntmps20
     go_wp2_with fail
     rw[Hw2.out]
     refine (He.out).mono ?_
     rintro e w3 ⟨rfl,h⟩
     have h:=h.symm
     subst h
     have p:=blk5 HB.out.1
     have q:=blk5 HB.out.2
     obtain⟨p0,p1,p2,p3,p4⟩:=p
     obtain⟨q0,q1,q2,q3,q4⟩:=q
     go_wp2_with fail
     go_ret
     exact⟨ret_bool (by rw[Hsf.out];simp),Hb2.out⟩
   ·have f3:(s1 == s2)=false:=by simp[h3]
    rw[decide_eq_false h3]at Hsf
    clear h3
    go_enter Tryz.func20,Tryz.ntmps20
    go_wp2_with fail
    rw[Hw2.out]
    refine (He.out).mono ?_
    rintro e w3 ⟨rfl,h⟩
    have h:=h.symm
    subst h
    have p:=blk5 HB.out.1
    have q:=blk5 HB.out.2
    obtain⟨p0,p1,p2,p3,p4⟩:=p
    obtain⟨q0,q1,q2,q3,q4⟩:=q
    go_wp2_with fail
    go_ret
    exact⟨ret_bool (by rw[Hsf.out];simp),Hb2.out⟩
  ·rw[decide_eq_false h2]at He Hsf
   clear h2
   go_enter Tryz.func20,Tryz.ntmps20
   go_wp2_with fail
   rw[Hw2.out]
   refine (He.out).mono ?_
   rintro e w3 ⟨rfl,h⟩
   have h:=h.symm
   subst h
   have p:=blk5 HB.out.1
   have q:=blk5 HB.out.2
   obtain⟨p0,p1,p2,p3,p4⟩:=p
   obtain⟨q0,q1,q2,q3,q4⟩:=q
   go_wp2_with fail
   go_ret
   exact⟨ret_bool (by rw[Hsf.out];simp),Hb2.out⟩
 ·have f1:(n1 == n2)=false:=by simp[h1]
  rw[decide_eq_false h1]at Hsf
  clear h1
  go_enter Tryz.func20,Tryz.ntmps20
  go_wp2_with fail
  rw[Hw2.out]
  go_ret
  exact⟨ret_bool (by rw[Hsf.out];simp),Hb2.out⟩
end Go.Proofs.YtabdianhoabhhaaGreatDoor.Merge
namespace Go.Proofs.YtabdianhoabhhaaGreatDoor.Merge
open Go Go.RowKit Go.Proofs.YtabdianhoabhhaaGreatDoor Go.Proofs.YtabdianhoabhhaaGreatDoor.Name
set_option linter.unusedVariables false
def lastN (l:List Fl) (k:Nat):Option (List UInt8):=if k=0 then none else some (l.getD (k - 1) ⟨[],[],0,0,false⟩).name
theorem chkR_step (p:Option (List UInt8)) (f:Fl) (l:List Fl) (h1:fileE f=0) (h2:upB p f.name=true):chkR p (f :: l)=chkR (some f.name) l:=by
 simp only[chkR]
 rw[if_neg (by simpa using h1),if_neg (by rw[h2];simp)]
theorem chkR_bad (p:Option (List UInt8)) (f:Fl) (l:List Fl) (h1:fileE f≠0):chkR p (f :: l)=fileE f:=by
 simp only[chkR];rw[if_pos h1]
theorem chkR_down (p:Option (List UInt8)) (f:Fl) (l:List Fl) (h1:fileE f=0) (h2:upB p f.name=false):chkR p (f :: l)=4:=by
 simp only[chkR];rw[if_neg (by simpa using h1),if_pos h2]
theorem drop_cons {α:Type} (l:List α) (k:Nat) (h:k < l.length):l.drop k=l[k] :: l.drop (k+1):=(List.drop_eq_getElem_cons h)
def RestOk (l:List Fl) (k:Nat):Prop:=chkF l=chkR (lastN l k) (l.drop k)
theorem rest_zero (l:List Fl) (h:l.length≤12):RestOk l 0:=by unfold RestOk chkF lastN;rw[if_neg (by omega),if_pos rfl];rfl
theorem rest_next (l:List Fl) (k:Nat) (hk:k < l.length) (h:RestOk l k) (h1:fileE l[k]=0) (h2:upB (lastN l k) l[k].name=true):RestOk l (k+1):=by
 unfold RestOk at *
 rw[h,drop_cons l k hk,chkR_step _ _ _ h1 h2]
 congr 1
 unfold lastN
 rw[if_neg (by omega)]
 simp[List.getD_eq_getElem?_getD,hk]
theorem rest_end (l:List Fl) (k:Nat) (hk:k=l.length) (h:RestOk l k):chkF l=0:=by
 unfold RestOk at h
 rw[h,List.drop_of_length_le (by omega)]
 rfl
theorem rest_bad (l:List Fl) (k:Nat) (hk:k < l.length) (h:RestOk l k) (h1:fileE l[k]≠0):chkF l=fileE l[k]:=by
 unfold RestOk at h
 rw[h,drop_cons l k hk,chkR_bad _ _ _ h1]
theorem rest_down (l:List Fl) (k:Nat) (hk:k < l.length) (h:RestOk l k) (h1:fileE l[k]=0) (h2:upB (lastN l k) l[k].name=false):chkF l=4:=by
 unfold RestOk at h
 rw[h,drop_cons l k hk,chkR_down _ _ _ h1 h2]
theorem _root_.Go.RowKit.Below.drewN' {B:Nat} {a w:World} (h:Below B a w) (n:Nat):Below B a (w.drewN n):=⟨h.os,h.tape,h.output,h.size,h.block⟩
set_option maxRecDepth 100000 in
set_option maxHeartbeats 2000000 in
theorem check_any (v:Value) (l:List Fx) (w:World) (hm:ML w) (h:IsFiles w v l) :
  Calls Tryz.prog 17 #[v] w fun e w'=>e=.returned (.int .i64 (chkF (l.map Prod.fst)))∧Below w.heap.size w w':=by
 obtain⟨A,cap,rfl,hcap,hcm,hA,hA0,hdeep⟩:=h
 have HA:=Lib.hid hA
 have Hd:=Lib.hid hdeep
 have Hm:=Lib.hid hm
 clear hA hA0 hdeep hm
 have hcm':cap≤9223372036854775807:=by unfold maxLen at hcm;omega
 clear hcm
 obtain⟨n,hn⟩:∃ n,n=l.length:=⟨_,rfl⟩
 have Hn:=Lib.hid hn.symm
 rw[←hn]at hcap⊢
 clear hn
 by_cases h12:12 < n
 ·have Hc:Hid (chkF (l.map Prod.fst)=2):=Lib.hid (by unfold chkF;rw[List.length_map,Hn.out,if_pos h12])
  have h12i:(12:Int) < (n:Int):=by omega
  go_enter Tryz.func17,Tryz.ntmps17
  go_wp2_with fail
  go_ret
  exact⟨by rw[Hc.out];rfl,Below.refl _ _⟩
 ·have h12i:¬ (12:Int) < (n:Int):=by omega
  have H0:=Lib.hid (rest_zero (l.map Prod.fst) (by rw[List.length_map,Hn.out];omega))
  have Hnext:=Lib.hid (rest_next (l.map Prod.fst))
  have Hend:=Lib.hid (rest_end (l.map Prod.fst))
  have Hbad:=Lib.hid (rest_bad (l.map Prod.fst))
  have Hdown:=Lib.hid (rest_down (l.map Prod.fst))
  have HL:Hid ((l.map Prod.fst).length=n):=Lib.hid (by rw[List.length_map,Hn.out])
  have Hget:Hid (∀ k (hk:k < l.length) (hk2:k < (l.map Prod.fst).length),(l.map Prod.fst)[k]=l[k].1):=Lib.hid (fun k hk hk2=>by rw[List.getElem_map])
  generalize l.map Prod.fst=m at *
  go_enter Tryz.func17,Tryz.ntmps17
  go_wp2_with fail
  go_loopw [11] (fun i wr=>∃ k:Nat,k≤n∧i=.int .i64 (k:Int)∧RestOk m k∧Below w.heap.size w wr) (fun i _=>n - (intOf i).toNat)
  case atStart=>exact⟨0,Nat.zero_le _,rfl,H0.out,Below.refl _ _⟩
  case round=>
   obtain⟨k,hk,rfl,hr,hb⟩:=hrel
   have Hb:=Lib.hid hb
   have Hr:=Lib.hid hr
   clear hb hr
   by_cases hlt:k < n
   ·have hkl:k < l.length:=by rw[Hn.out];exact hlt
    have hkm:k < m.length:=by rw[HL.out];exact hlt
    obtain⟨b,o,rfl,hc0,hc1,hc2,hc3,hc4⟩:=files_cells (HA.out.below Hb.out) hkl
    have hfd:=Hd.out l[k] (List.getElem_mem hkl)
    have HNx:Hid (fileE l[k].1=0→upB (lastN m k) l[k].1.name=true→RestOk m (k+1)):=Lib.hid (fun h1 h2=>Hnext.out k hkm Hr.out (by rw[Hget.out k hkl hkm];exact h1) (by rw[Hget.out k hkl hkm];exact h2))
    have HBd:Hid (fileE l[k].1≠0→chkF m=fileE l[k].1):=Lib.hid (fun h1=>by rw[Hbad.out k hkm Hr.out (by rw[Hget.out k hkl hkm];exact h1),Hget.out k hkl hkm])
    have HDn:Hid (fileE l[k].1=0→upB (lastN m k) l[k].1.name=false→chkF m=4):=Lib.hid (fun h1 h2=>Hdown.out k hkm Hr.out (by rw[Hget.out k hkl hkm];exact h1) (by rw[Hget.out k hkl hkm];exact h2))
    have HPrev:Hid (k≠0→∃ q:List UInt8,lastN m k=some q∧wr.cell? ⟨b,o+(k - 1)*5,none⟩=some (.string (Name.strB q))):=Lib.hid (fun h0=>by
     have hk1:k - 1 < l.length:=by omega
     have hk2:k - 1 < m.length:=by omega
     obtain⟨b',o',e,hp0,_⟩:=files_cells (HA.out.below Hb.out) hk1
     injection e with e
     injection e with e1 e2 e3
     subst e1 e2
     refine⟨l[k - 1].1.name,?_,hp0⟩
     unfold lastN
     rw[if_neg h0]
     have:=Hget.out (k - 1) hk1 hk2
     simp[List.getD_eq_getElem?_getD,hk2,this])
    generalize l[k]=x at *
    obtain⟨⟨nm,bs,st,nd,gn⟩,As,ln,cp⟩:=x
    simp only[slv]at hc0 hc1 hc2 hc3 hc4 HNx HBd HDn hfd
    have Hln:Hid (ln=bs.length):=Lib.hid hfd.len
    have hnm:nm.length≤maxLen:=hfd.name
    clear hfd
    have HC:=Lib.hid (fun w' (hb:Below w.heap.size w w')=>checkN_any nm w' hnm (Hm.out.below hb))
    clear hnm
    go_wp2_with fail
    refine (HC.out _ (Hb.out.alloc Hb.out.size _)).mono ?_
    rintro e w2 ⟨rfl,hb2⟩
    have Hb2:=Lib.hid (stepN (Hb.out.alloc Hb.out.size (.cells #[.string (Name.strB nm),.slice As ln cp,.int .i64 st,.int .i64 nd,.bool gn] 36)) hb2)
    have BX:Hid (Blk w2 wr.heap.size 36 #[.string (Name.strB nm),.slice As ln cp,.int .i64 st,.int .i64 nd,.bool gn]):=Lib.hid ((Blk.new wr _ _).below hb2 (by simp))
    have e0:w2.cell? ⟨wr.heap.size,0,none⟩=some (.string (Name.strB nm)):=by rw[BX.out.cell];rfl
    have e1:w2.cell? ⟨wr.heap.size,1,none⟩=some (.slice As ln cp):=by rw[BX.out.cell];rfl
    have e2:w2.cell? ⟨wr.heap.size,2,none⟩=some (.int .i64 st):=by rw[BX.out.cell];rfl
    have e3:w2.cell? ⟨wr.heap.size,3,none⟩=some (.int .i64 nd):=by rw[BX.out.cell];rfl
    have e4:w2.cell? ⟨wr.heap.size,4,none⟩=some (.bool gn):=by rw[BX.out.cell];rfl
    have HP2:Hid (k≠0→∃ q:List UInt8,lastN m k=some q∧w2.cell? ⟨b,o+(k - 1)*5,none⟩=some (.string (Name.strB q))):=Lib.hid (fun h0=>by
     obtain⟨q,h1,h2⟩:=HPrev.out h0
     exact⟨q,h1,cell_below hb2 (cell_below ((Below.refl _ _).alloc (Nat.le_refl _) _) h2)⟩)
    have HF:Hid (fileE ⟨nm,bs,st,nd,gn⟩=if nameE nm≠0 then nameE nm else if 3000 < bs.length then 2 else if st < 0∨1000000 < st∨nd < 0∨4≤nd then 3 else if gn=true∧bs≠[] then 4 else 0):=Lib.hid rfl
    generalize fileE ⟨nm,bs,st,nd,gn⟩=fe at *
    clear hb2 HPrev hc0 hc1 hc2 hc3 hc4 HC
    by_cases g1:nameE nm=0
    ·rw[g1]at HF⊢
     by_cases g2:3000 < ln
     ·have Hfe:Hid (fe=2):=Lib.hid (by rw[HF.out,if_neg (by simp),if_pos (by rw[←Hln.out];exact g2)])
      have Hc:Hid (chkF m=2):=Lib.hid (by rw[HBd.out (by rw[Hfe.out];decide),Hfe.out])
      have g2i:(3000:Int) < (ln:Int):=by omega
      go_wp2_with fail
      go_ret
      exact⟨by rw[Hc.out];rfl,Hb2.out⟩
     ·have g2i:¬ (3000:Int) < (ln:Int):=by omega
      have G2:Hid (¬ 3000 < bs.length):=Lib.hid (by rw[←Hln.out];exact g2)
      by_cases g3:st < 0∨1000000 < st∨nd < 0∨4≤nd
      ·have Hfe:Hid (fe=3):=Lib.hid (by rw[HF.out,if_neg (by simp),if_neg G2.out,if_pos g3])
       have Hc:Hid (chkF m=3):=Lib.hid (by rw[HBd.out (by rw[Hfe.out];decide),Hfe.out])
       by_cases k1:st < 0
       ·go_wp2_with fail
        go_ret
        exact⟨by rw[Hc.out];rfl,Hb2.out⟩
       ·by_cases k2:1000000 < st
        ·go_wp2_with fail
         go_ret
         exact⟨by rw[Hc.out];rfl,Hb2.out⟩
        ·by_cases k3:nd < 0
         ·go_wp2_with fail
          go_ret
          exact⟨by rw[Hc.out];rfl,Hb2.out⟩
         ·have k4:4≤nd:=by omega
          go_wp2_with fail
          go_ret
          exact⟨by rw[Hc.out];rfl,Hb2.out⟩
      ·have k1:¬ st < 0:=by omega
       have k2:¬ 1000000 < st:=by omega
       have k3:¬ nd < 0:=by omega
       have k4:¬ 4≤nd:=by omega
       have HF2:Hid (fe=if gn=true∧bs≠[] then 4 else 0):=Lib.hid (by rw[HF.out,if_neg (by simp),if_neg G2.out,if_neg g3])
       clear g3
       by_cases g5:gn=true∧bs≠[]
       ·obtain⟨rfl,g6⟩:=g5
        have Hfe:Hid (fe=4):=Lib.hid (by rw[HF2.out,if_pos ⟨rfl,g6⟩])
        have Hc:Hid (chkF m=4):=Lib.hid (by rw[HBd.out (by rw[Hfe.out];decide),Hfe.out])
        have g5n:0 < ln:=by rw[Hln.out];exact List.length_pos_iff.2 g6
        have g5i:(0:Int) < (ln:Int):=by omega
        have g5d:decide ((0:Int) < (ln:Int))=true:=by simpa using g5i
        clear HNx HBd HDn HP2
        go_wp2_with fail
        go_big_quiet (fail)
        go_wp2_with fail
        go_ret
        exact⟨by rw[Hc.out];rfl,Hb2.out.drewN' _⟩
       ·have Hfe:Hid (fe=0):=Lib.hid (by rw[HF2.out,if_neg g5])
        cases gn with
        | true=>
         obtain rfl:ln=0:=by
          rw[Hln.out,List.length_eq_zero_iff]
          exact Classical.byContradiction fun e=>g5 ⟨rfl,e⟩
         clear g5
         by_cases hk0:k=0
         ·have Hnx:Hid (RestOk m (k+1)):=Lib.hid (HNx.out Hfe.out (by rw[hk0];rfl))
          subst hk0
          clear HNx HBd HDn HP2
          go_wp2_with fail
          go_big_quiet (fail)
          go_wp2_with fail
          go_roundw
          case rel=>exact⟨1,by omega,by go_num,Hnx.out,Hb2.out.drewN' _⟩
          case measure=>simp[intOf];omega
         ·have hkp:0 < k:=by omega
          obtain⟨q,hq1,hq2⟩:=HP2.out hk0
          have hkd:decide ((0:Int) < (k:Int))=true:=by simpa using hkp
          have hks:IntKind.i64.wrap ((k:Int) - 1)=(k:Int) - 1:=IntWalk.i64_in _ (by omega)
          have hk1:(0:Int)≤(k:Int) - 1:=by omega
          have hk2:((k:Int) - 1).toNat=k - 1:=by omega
          have hk3:((k:Int) - 1) < (n:Int):=by omega
          have hk4:k - 1 < n:=by omega
          have HNx2:=HNx.out Hfe.out
          have HDn2:=HDn.out Hfe.out
          rw[hq1]at HNx2 HDn2
          cases hle:Op.bytesLess q nm with
          | true=>
           have Hnx:Hid (RestOk m (k+1)):=Lib.hid (HNx2 (by show decide (cb q nm < 0)=_;rw[←less_cb];exact hle))
           clear HNx HBd HDn HP2 HNx2 HDn2 hq1
           go_wp2_with fail
           go_big_quiet (fail)
           go_wp2_with fail
           go_roundw
           case rel=>exact⟨k+1,by omega,by go_num,Hnx.out,Hb2.out.drewN' _⟩
           case measure=>simp[intOf];omega
          | false=>
           have Hc:Hid (chkF m=4):=Lib.hid (HDn2 (by show decide (cb q nm < 0)=_;rw[←less_cb];exact hle))
           clear HNx HBd HDn HP2 HNx2 HDn2 hq1
           go_wp2_with fail
           go_big_quiet (fail)
           go_wp2_with fail
           go_ret
           exact⟨by rw[Hc.out];rfl,Hb2.out.drewN' _⟩
        | false=>
         clear g5
         by_cases hk0:k=0
         ·have Hnx:Hid (RestOk m (k+1)):=Lib.hid (HNx.out Hfe.out (by rw[hk0];rfl))
          subst hk0
          clear HNx HBd HDn HP2
          go_wp2_with fail
          go_big_quiet (fail)
          go_wp2_with fail
          go_roundw
          case rel=>exact⟨1,by omega,by go_num,Hnx.out,Hb2.out.drewN' _⟩
          case measure=>simp[intOf];omega
         ·have hkp:0 < k:=by omega
          obtain⟨q,hq1,hq2⟩:=HP2.out hk0
          have hkd:decide ((0:Int) < (k:Int))=true:=by simpa using hkp
          have hks:IntKind.i64.wrap ((k:Int) - 1)=(k:Int) - 1:=IntWalk.i64_in _ (by omega)
          have hk1:(0:Int)≤(k:Int) - 1:=by omega
          have hk2:((k:Int) - 1).toNat=k - 1:=by omega
          have hk3:((k:Int) - 1) < (n:Int):=by omega
          have hk4:k - 1 < n:=by omega
          have HNx2:=HNx.out Hfe.out
          have HDn2:=HDn.out Hfe.out
          rw[hq1]at HNx2 HDn2
          cases hle:Op.bytesLess q nm with
          | true=>
           have Hnx:Hid (RestOk m (k+1)):=Lib.hid (HNx2 (by show decide (cb q nm < 0)=_;rw[←less_cb];exact hle))
           clear HNx HBd HDn HP2 HNx2 HDn2 hq1
           go_wp2_with fail
           go_big_quiet (fail)
           go_wp2_with fail
           go_roundw
           case rel=>exact⟨k+1,by omega,by go_num,Hnx.out,Hb2.out.drewN' _⟩
           case measure=>simp[intOf];omega
          | false=>
           have Hc:Hid (chkF m=4):=Lib.hid (HDn2 (by show decide (cb q nm < 0)=_;rw[←less_cb];exact hle))
           clear HNx HBd HDn HP2 HNx2 HDn2 hq1
           go_wp2_with fail
           go_big_quiet (fail)
           go_wp2_with fail
           go_ret
           exact⟨by rw[Hc.out];rfl,Hb2.out.drewN' _⟩
    ·have Hfe:Hid (fe=nameE nm):=Lib.hid (by rw[HF.out,if_pos g1])
     have Hc:Hid (chkF m=nameE nm):=Lib.hid (by rw[HBd.out (by rw[Hfe.out];exact g1),Hfe.out])
     generalize nameE nm=z at *
     have hz1:(z != 0)=true:=by simpa using g1
     go_wp2_with fail
     go_ret
     exact⟨by rw[Hc.out];rfl,Hb2.out⟩
   ·obtain rfl:k=n:=by omega
    have He:Hid (chkF m=0):=Lib.hid (Hend.out k (by rw[HL.out]) Hr.out)
    go_wp2_with fail
    go_ret
    exact⟨by rw[He.out];rfl,Hb.out⟩
end Go.Proofs.YtabdianhoabhhaaGreatDoor.Merge
namespace Go.Proofs.YtabdianhoabhhaaGreatDoor.Zip
open Go Go.RowKit Go.Proofs.YtabdianhoabhhaaGreatDoor Go.Proofs.YtabdianhoabhhaaGreatDoor.Bits Go.Proofs.YtabdianhoabhhaaGreatDoor.Merge Go.Proofs.YtabdianhoabhhaaGreatDoor.Name
open Go.Proofs.YtabdianhoabhhaaGreatDoor.Inf (OldK)
set_option linter.unusedVariables false
set_option linter.unusedSimpArgs false
theorem tyE:SliceTy Tryz.prog 76 78 (.agg #[.string ByteArray.empty,.slice none 0 0,.int .i64 0,.int .i64 0,.bool false,.int .i64 0,.slice none 0 0,.int .u32 0,.int .i64 0]) 9 112:=⟨Tryz.underlying76,by kernel_rfl,rfl,by omega⟩
structure EsOk (w wr:World) (x:Ex):Prop where
 len:x.bs.2.1=x.e.f.bytes.length
 room:x.e.f.bytes.length≤x.bs.2.2
 cap:x.bs.2.2≤maxLen
 at_:ByAt w x.bs.1 x.e.f.bytes
 pk:(x.pk=x.bs∧x.e.packed=x.e.f.bytes)∨OwnB wr w.heap.size (slv x.pk) x.e.packed
theorem EsOk.turn {w wr w':World} {x:Ex} (h:EsOk w wr x) (hk:∀ v xs,OwnB wr w.heap.size v xs→OwnB w' w.heap.size v xs):EsOk w w' x:=
 ⟨h.len,h.room,h.cap,h.at_,h.pk.imp id (hk _ _)⟩
theorem EsOk.entP {w wr:World} {x:Ex} (h:EsOk w wr x) (hb:Below w.heap.size w wr):EntP w.heap.size wr x:=fun w2 h2=>by
 have hb2:Below w.heap.size w w2:=hb.trans h2.toBelow
 rcases h.pk with ⟨h1,h3⟩ | ho
 ·exact⟨h.len,h.room,h.cap,ByAt.below h.at_ hb2,by rw[h1,h3];exact h.len,by rw[h1,h3];exact h.room,by rw[h1];exact h.cap,by rw[h1,h3];exact ByAt.below h.at_ hb2⟩
 ·have ho2:OwnB w2 w.heap.size (slv x.pk) x.e.packed:=h2.toKeeps.own ho (by decide)
  obtain⟨A,c,e,q1,q2,q3,_⟩:=ho2.slice
  unfold slv at e
  injection e with e1 e2 e3
  exact⟨h.len,h.room,h.cap,ByAt.below h.at_ hb2,e2,by rw[e3];exact q1,by rw[e3];exact q2,by rw[e1];exact q3⟩
theorem eC_one (x:Ex):∀ u∈eC x,u.oneCell'=true:=by
 intro u hu
 simp[eC,slv]at hu
 rcases hu with rfl | rfl | rfl | rfl | rfl | rfl | rfl | rfl | rfl <;> rfl
def PutPost (l:List Fl) (w:World) (e:Ending) (w':World):Prop:=
  (match writeR bestX l with
   | .bad z=>e=.returned (.tuple #[.slice none 0 0,.int .i64 z])
   | .ok b=>∃ vb,e=.returned (.tuple #[vb,.int .i64 0])∧OwnB w' w.heap.size vb b)∧Below w.heap.size w w'
theorem writeE_len {l:List Fl} (h:chkF l=0):(laidB (writeE bestX l)).length≤60000:=by
 obtain⟨h1,h2⟩:=chk_file h
 rw[laid_len]
 have key:∀ l:List Fl,(∀ f∈l,fileE f=0)→((writeE bestX l).map sizeE).sum≤3178*l.length:=by
  intro l
  induction l with
  | nil=>intro _;exact Nat.le_refl _
  | cons f l ih=>
   intro h
   have h3:=fileE_facts (h f (List.mem_cons_self ..))
   have h4:=ih fun g hg=>h g (List.mem_cons_of_mem _ hg)
   have h5:=entOf_len bestX f
   unfold writeE at h4⊢
   rw[List.map_cons,List.map_cons,List.sum_cons,List.length_cons]
   unfold sizeE at h4⊢
   rw[entOf_f]
   omega
 have:=key l h2
 omega
set_option maxRecDepth 100000 in
set_option maxHeartbeats 3000000 in
theorem put_any (v:Value) (l:List Fx) (w:World) (hm:ML w) (h:IsFiles w v l) :
  Calls Tryz.prog 12 #[v] w (PutPost (l.map Prod.fst) w):=by
 have HC:=Lib.hid (check_any v l w hm h)
 obtain⟨A,cap,rfl,hcap,hcm,hA,hA0,hdeep⟩:=h
 have HA:=Lib.hid hA
 have Hd:=Lib.hid hdeep
 obtain⟨n,hn⟩:∃ n,n=l.length:=⟨_,rfl⟩
 rw[←hn]at HC hcap⊢
 have Hn:=Lib.hid hn
 have HW:Hid (writeR bestX (l.map Prod.fst)=if chkF (l.map Prod.fst)≠0 then .bad (chkF (l.map Prod.fst)) else if 12000 < (laidB (writeE bestX (l.map Prod.fst))).length then .bad 11 else .ok (laidB (writeE bestX (l.map Prod.fst)))):=Lib.hid rfl
 have HK:=Lib.hid (@chk_file (l.map Prod.fst))
 have HG:=Lib.hid (@write_good bestX packs_best (l.map Prod.fst))
 have HL:=Lib.hid (@writeE_len (l.map Prod.fst))
 clear hA hA0 hdeep hn hm
 obtain⟨z,hz⟩:∃ z,z=chkF (l.map Prod.fst):=⟨_,rfl⟩
 rw[←hz]at HC HW HK HG HL
 obtain⟨B,hB⟩:∃ B,B=w.heap.size:=⟨_,rfl⟩
 have HB:=Lib.hid hB
 clear hz hB
 go_enter Tryz.func12,Tryz.ntmps12
 go_wp2_with fail
 refine (HC.out).mono ?_
 rintro e w1 ⟨rfl,hb1⟩
 have Hb1:=Lib.hid hb1
 clear hb1 HC
 by_cases hz:z=0
 ·subst hz
  have HK':=Lib.hid (HK.out rfl)
  have HG':=Lib.hid (HG.out rfl)
  have HL':=Lib.hid (HL.out rfl)
  have hn12:n≤12:=by have:=HK'.out.1;rw[List.length_map,←Hn.out]at this;exact this
  clear HK HG HL
  go_wp2_with fail
  go_loopw [5,16] (fun ve vi wr=>∃ (k:Nat) (xs:List Ex),k≤n∧vi=.int .i64 (k:Int)∧wr.ownsRow w.heap.size 78 9 ve k (xs.flatMap eC)∧xs.map Ex.e=(l.take k).map (fun f=>entOf bestX f.1)∧(∀ x∈xs,EsOk w wr x)∧Below w.heap.size w wr) (fun _ vi _=>n - (intOf vi).toNat)
  case atStart=>exact⟨0,[],Nat.zero_le _,rfl,World.ownsRow_nil _ _ _ _,rfl,(by simp),Hb1.out⟩
  case round=>
   obtain⟨k,xs,hk,rfl,ho,he,hx,hb⟩:=hrel
   have HO:=Lib.hid ho
   have HE:=Lib.hid he
   have HX:=Lib.hid hx
   have Hb:=Lib.hid hb
   clear ho he hx hb
   by_cases hlt:k < n
   ·have hlt':(k:Int) < (n:Int):=by omega
    have hk0:(0:Int)≤(k:Int):=by omega
    have hkl:k < l.length:=by rw[←Hn.out];exact hlt
    obtain⟨b,o,rfl,c0,c1,c2,c3,c4⟩:=files_cells (HA.out.below Hb.out) hkl
    obtain⟨f,hf⟩:∃ f,f=l[k]:=⟨_,rfl⟩
    have hfm:f∈l:=by rw[hf];exact List.getElem_mem hkl
    have HF:=Lib.hid ((Hd.out f hfm))
    have hf3:f.1.bytes.length≤3000:=(fileE_facts (HK'.out.2 f.1 (List.mem_map_of_mem hfm))).2.1
    have Hf3:=Lib.hid hf3
    have HTk:Hid (l.take (k+1)=l.take k++[f]):=Lib.hid (by rw[List.take_succ_eq_append_getElem hkl,←hf])
    rw[←hf]at c0 c1 c2 c3 c4
    clear hf hfm hf3
    unfold slv at c1
    go_upto_region 8 with fail
    have hB2:=Blk.new wr 36 #[.string (Name.strB f.1.name),.slice f.2.1 f.2.2.1 f.2.2.2,.int .i64 f.1.stamp,.int .i64 f.1.node,.bool f.1.gone]
    have hbel:Below wr.heap.size wr (wr.alloc (.cells #[.string (Name.strB f.1.name),.slice f.2.1 f.2.2.1 f.2.2.2,.int .i64 f.1.stamp,.int .i64 f.1.node,.bool f.1.gone] 36)):=(Below.refl _ _).alloc (Nat.le_refl _) _
    generalize wr.alloc (.cells #[.string (Name.strB f.1.name),.slice f.2.1 f.2.2.1 f.2.2.2,.int .i64 f.1.stamp,.int .i64 f.1.node,.bool f.1.gone] 36)=w2 at *
    have HB2:=Lib.hid hB2
    have HO2:=Lib.hid (own_keep HO.out hbel)
    have HX2:Hid (∀ x∈xs,EsOk w w2 x):=Lib.hid (fun x hx=>(HX.out x hx).turn fun v ys h=>own_keep h hbel)
    have Hb2:=Lib.hid (Hb.out.trans (hbel.mono Hb.out.size))
    have hs2:w.heap.size≤w2.heap.size:=Hb2.out.size
    have d0:w2.cell? ⟨wr.heap.size,0,none⟩=some (.string (Name.strB f.1.name)):=hB2.cell 0
    have d1:w2.cell? ⟨wr.heap.size,1,none⟩=some (.slice f.2.1 f.2.2.1 f.2.2.2):=hB2.cell 1
    have d2:w2.cell? ⟨wr.heap.size,2,none⟩=some (.int .i64 f.1.stamp):=hB2.cell 2
    have d3:w2.cell? ⟨wr.heap.size,3,none⟩=some (.int .i64 f.1.node):=hB2.cell 3
    have d4:w2.cell? ⟨wr.heap.size,4,none⟩=some (.bool f.1.gone):=hB2.cell 4
    have HOf:=Lib.hid (of_any f w2 (HF.out.below Hb2.out) Hf3.out)
    clear hB2 hbel HO HX Hb
    go_wp2_with fail
    refine (HOf.out).mono ?_
    rintro e w3 ⟨⟨pk,rfl,hpk⟩,hb3⟩
    obtain⟨x,hx⟩:∃ x:Ex,x =⟨entOf bestX f.1,f.2,pk,0⟩:=⟨_,rfl⟩
    have he:x.e=entOf bestX f.1:=by rw[hx]
    have hbs:x.bs=f.2:=by rw[hx]
    have hpx:x.pk=pk:=by rw[hx]
    rw[←hx]
    rw[←hpx,←he]at hpk
    have hof:EsOk w w3 x:=⟨by rw[hbs,he,entOf_f];exact HF.out.len,by rw[hbs,he,entOf_f];exact HF.out.room,by rw[hbs];exact HF.out.cap,by rw[hbs,he,entOf_f];exact HF.out.at_,by
     rcases hpk with ⟨h1,h2⟩ | h1
     ·exact .inl ⟨by rw[hbs];exact h1,by rw[he,entOf_f,←he];exact h2⟩
     ·exact .inr (own_base h1 hs2)⟩
    have HX3:Hid (∀ y∈xs++[x],EsOk w w3 y):=Lib.hid (fun y hy=>by
     rcases List.mem_append.1 hy with h | h
     ·exact (HX2.out y h).turn fun v ys h=>own_keep h hb3
     ·rw[List.mem_singleton.1 h];exact hof)
    have HE3:Hid ((xs++[x]).map Ex.e=(l.take (k+1)).map (fun f=>entOf bestX f.1)):=Lib.hid (by
     rw[HTk.out,List.map_append,List.map_append,HE.out]
     simp[he])
    have HO3:=Lib.hid (own_keep HO2.out hb3)
    have Hb3:=Lib.hid (Hb2.out.trans (hb3.mono hs2))
    have hs3:w.heap.size≤w3.heap.size:=Hb3.out.size
    have hxl:xs.length=k:=by
     have:=congrArg List.length HE.out
     rw[List.length_map,List.length_map,List.length_take]at this
     omega
    clear hpk hof hx he hbs hpx hb3 HOf HO2 HX2 Hb2 HE d0 d1 d2 d3 d4 HB2 hs2
    unfold eV
    have hbel:Below w3.heap.size w3 (w3.alloc (.cells #[.string (Name.strB x.e.f.name),slv x.bs,.int .i64 x.e.f.stamp,.int .i64 x.e.f.node,.bool x.e.f.gone,.int .i64 (x.e.method:Int),slv x.pk,.int .u32 (x.e.crc:Int),.int .i64 (x.at_:Int)] 78)):=(Below.refl _ _).alloc (Nat.le_refl _) _
    have HZ:Hid (SlAt (w3.alloc (.cells #[.string (Name.strB x.e.f.name),slv x.bs,.int .i64 x.e.f.stamp,.int .i64 x.e.f.node,.bool x.e.f.gone,.int .i64 (x.e.method:Int),slv x.pk,.int .u32 (x.e.crc:Int),.int .i64 (x.at_:Int)] 78)) (some ⟨w3.heap.size,0,none⟩) (eC x)):=Lib.hid (SlAt.of_heap (heap_alloc_new _ _) rfl)
    have HO4:=Lib.hid (own_keep HO3.out hbel)
    have HX4:Hid (∀ y∈xs++[x],EsOk w (w3.alloc (.cells #[.string (Name.strB x.e.f.name),slv x.bs,.int .i64 x.e.f.stamp,.int .i64 x.e.f.node,.bool x.e.f.gone,.int .i64 (x.e.method:Int),slv x.pk,.int .u32 (x.e.crc:Int),.int .i64 (x.at_:Int)] 78)) y):=Lib.hid (fun y hy=>(HX3.out y hy).turn fun v ys h=>own_keep h hbel)
    have Hb4:=Lib.hid (Hb3.out.trans (hbel.mono hs3))
    have hs4:w.heap.size≤(w3.alloc (.cells #[.string (Name.strB x.e.f.name),slv x.bs,.int .i64 x.e.f.stamp,.int .i64 x.e.f.node,.bool x.e.f.gone,.int .i64 (x.e.method:Int),slv x.pk,.int .u32 (x.e.crc:Int),.int .i64 (x.at_:Int)] 78)).heap.size:=Hb4.out.size
    clear hbel HO3 HX3 Hb3
    go_wp2_with (at_builtin;refine wpList_app _ rfl (.tmp 20) (.tmp 23) _ rfl w.heap.size 78 _ 9 112 tyE _ k (xs.flatMap eC) rfl HO4.out (some ⟨w3.heap.size,0,none⟩) 1 1 (eC x) rfl rfl HZ.out (eC_one x) (by simp) (by unfold maxLen;omega) (by omega) hs4 ?_;intro v5 w5 hown5 hg5 _;have HO5:=Lib.hid hown5;have HX5:Hid (∀ y∈xs++[x],EsOk w w5 y):=Lib.hid (fun y hy=>(HX4.out y hy).turn fun v ys h=>Weigh.own_grownV h HO4.out hg5 (by decide));have Hb5:=Lib.hid (own_below HO4.out hg5 Hb4.out hs4);clear hown5 hg5 HO4 HX4 Hb4 HZ hs4)
    go_roundw
    case rel=>exact⟨k+1,xs++[x],by omega,by go_num,by have:=HO5.out;simpa only[List.flatMap_append,List.flatMap_cons,List.flatMap_nil,List.append_nil] using this,HE3.out,HX5.out,Hb5.out⟩
    case measure=>simp[intOf];omega
   ·have hlt':¬ (k:Int) < (n:Int):=by omega
    obtain rfl:k=n:=by omega
    have hes:esOf xs=writeE bestX (l.map Prod.fst):=by
     unfold esOf writeE
     rw[HE.out,Hn.out,List.take_length,List.map_map]
     rfl
    have hxl:xs.length=k:=by
     have:=congrArg List.length HE.out
     rw[List.length_map,List.length_map,List.length_take,←Hn.out]at this
     omega
    have HXl:=Lib.hid hxl
    have hgx:∀ x∈xs,Good x.e:=fun x hx=>HG'.out x.e (by rw[←hes];exact List.mem_map_of_mem hx)
    have hpx:∀ x∈xs,EntP w.heap.size wr x:=fun x hx=>(HX.out x hx).entP Hb.out
    have hla:(laidB (esOf xs)).length≤1000000:=by rw[hes];have:=HL'.out;omega
    have HAr:=Lib.hid (archive_any w.heap.size u5 xs wr Hb.out.size (by rw[hxl];exact HO.out) hgx hpx (by rw[hxl];omega) hla)
    have Hes:=Lib.hid hes
    clear hgx hpx hla hes hxl
    go_wp2_with fail
    refine (HAr.out).mono ?_
    rintro e w2 ⟨⟨vb,rfl,hob⟩,_,hk2⟩
    have Hb2:=Lib.hid (Hb.out.trans hk2.toBelow)
    have HOb:=Lib.hid (own_base hob Hb.out.size)
    rw[Hes.out]at hob
    obtain⟨L,hL⟩:∃ L,L=laidB (writeE bestX (l.map Prod.fst)):=⟨_,rfl⟩
    rw[←hL]at hob HL' HW
    have HOb:=Lib.hid (own_base hob Hb.out.size)
    obtain⟨Ab,cb,rfl,hb1,hb2,_,_⟩:=hob.slice
    obtain⟨nl,hnl⟩:∃ nl,nl=L.length:=⟨_,rfl⟩
    rw[←hnl]at hb1 HL' HW⊢
    clear hk2 hob HAr hL
    by_cases h12:12000 < nl
    ·have h12':(12000:Int) < (nl:Int):=by omega
     go_wp2_with fail
     go_ret2
     refine⟨?_,Hb2.out⟩
     rw[HW.out,if_neg (by simp),if_pos h12]
     rfl
    ·have h12':¬ (12000:Int) < (nl:Int):=by omega
     go_wp2_with fail
     go_ret2
     refine⟨?_,Hb2.out⟩
     rw[HW.out,if_neg (by simp),if_neg h12]
     exact⟨_,rfl,HOb.out⟩
 ·have hz1:(z != 0)=true:=by simpa using hz
  go_wp2_with fail
  go_ret2
  refine⟨?_,Hb1.out⟩
  rw[HW.out,if_pos hz]
  rfl
end Go.Proofs.YtabdianhoabhhaaGreatDoor.Zip
namespace Go.Proofs.YtabdianhoabhhaaGreatDoor.Zip
open Go Go.RowKit Go.Proofs.YtabdianhoabhhaaGreatDoor Go.Proofs.YtabdianhoabhhaaGreatDoor.Bits Go.Proofs.YtabdianhoabhhaaGreatDoor.Merge Go.Proofs.YtabdianhoabhhaaGreatDoor.Name
open Go.Proofs.YtabdianhoabhhaaGreatDoor.Inf (blk_ne wp_calm)
set_option linter.unusedVariables false
set_option linter.unusedSimpArgs false
section
variable {P:Program} {ops:Array Oper} {Q:Exit→Act→World→Prop} {md:Region.Mode} {S:World→Prop} {n:Nat}
theorem wpAnyS_skipT {i:Nat} {oi:Oper} {fuel:Nat} {listed:Array Bool} {a:Act} {w:World} (hl:reachB md ops ops.size n i=true) (hcl:closedB md ops listed=true) (hi:ops[i]?=some oi)
  (hs:Region.noSelect ops=true) (hf:Region.free md ops listed i=true) (hr:(Region.ready md ops listed).contains i=true)
  (hQ:∀ c a w,Q (.panic c) (a.put oi.dst undef) w→Q (.panic c) a w) (hw:Region.wanted oi (yielded ops a.tmps)=false) (hS:S w)
  (h:wpAnyS P md ops Q S n fuel (listed.setIfInBounds i true) (a.put oi.dst undef) w):wpAnyS P md ops Q S n (fuel+1) listed a w:=
 wpAnyS_firstT hl hi (Region.noSelect_spec hs) hQ fuel listed a w (closed_of hcl) (Region.free_spec hi hf) (by simpa using hr) (.inr ⟨hw,rfl⟩) hS h
end
def StopQ (Q:Exit→Act→World→Prop) (ch:List PanicEntry) (D:List Deferred) (v2 v3:Value) (R:World→Prop):Exit→Act→World→Prop:=fun e a w=>
 (e=.normal∧Q .normal a w)∨(e=.panic ch∧(a.defers=D∧a.tmps.getD 2 undef=v2∧a.tmps.getD 3 undef=v3)∧R w)
theorem wp_stop {P:Program} {c:Code} {Q:Exit→Act→World→Prop} {a:Act} {w:World} (ch:List PanicEntry) (D:List Deferred) (v2 v3:Value) (R:World→Prop)
  (hp:∀ a w,a.defers=D→a.tmps.getD 2 undef=v2→a.tmps.getD 3 undef=v3→R w→Q (.panic ch) a w) (h:c.wp P (StopQ Q ch D v2 v3 R) a w):c.wp P Q a w:=
 wp_mono h (by
  rintro e a w (⟨rfl,h⟩ | ⟨rfl,⟨h1,h2,h3⟩,h4⟩)
  ·exact h
  ·exact hp a w h1 h2 h3 h4)
theorem getD_set_ne' (l:Array Value) (d t:Nat) (v:Value) (h:d≠t):(l.setIfInBounds d v).getD t undef=l.getD t undef:=by
 simp only[Array.getD_eq_getD_getElem?]
 rw[Array.getElem?_setIfInBounds_ne h]
theorem stop_put {Q:Exit→Act→World→Prop} {ch c:List PanicEntry} {D:List Deferred} {v2 v3:Value} {R:World→Prop} {a:Act} {w:World} {d:Tmp} {v:Value} (h2:d≠2) (h3:d≠3)
  (h:StopQ Q ch D v2 v3 R (.panic c) (a.put (some d) v) w):StopQ Q ch D v2 v3 R (.panic c) a w:=by
 rcases h with ⟨h,_⟩ | ⟨h,⟨h4,h5,h6⟩,h7⟩
 ·cases h
 ·refine .inr ⟨h,⟨h4,?_,?_⟩,h7⟩
  ·rw[←h5];exact (getD_set_ne' _ _ _ _ h2).symm
  ·rw[←h6];exact (getD_set_ne' _ _ _ _ h3).symm
theorem oper_app {P:Program} {o:Oper} {a:Act} {w:World} {K:Act→World→Prop} {Q:Exit→Act→World→Prop} (s x:Operand) (t:TypeId)
  (ho:o.op=.call { callee:=.builtin .append,args:=#[s,x],argTypes:=#[t,t] })
  (base:Nat) (e:TypeId) (z:Value) (size bytes:Nat) (hT:SliceTy P t e z size bytes)
  (v:Value) (n:Nat) (xs:List Value) (hs:a.eval s=v) (hown:w.ownsRow base e size v n xs)
  (A:Option Addr) (m c:Nat) (news:List Value) (hx:a.eval x=.slice A m c) (hl:news.length=m*size) (hr:SlAt w A news) (h1:∀ u∈news,u.oneCell'=true)
  (hA:A=none→m=0) (h63:n+m≤maxLen) (hbytes:(n+m)*bytes≤140737488355328) (hbase:base≤w.heap.size)
  (h:∀ v' w',w'.ownsRow base e size v' (n+m) (xs++news)→w.grownBy w' v.ownBlock→(v'.ownBlock=v.ownBlock∨v'.ownBlock=some w.heap.size)→K (a.put o.dst v') w'):Oper.wp P o a w K Q:=by
 obtain⟨v',w',hrun,h2,h3,h4⟩:=run_app (P:=P) w base t o.type e z size bytes hT v n xs hown A m c news hl hr h1 hA h63 hbytes hbase
 unfold Oper.wp execOp
 simp only[ho,resolve,invoke,builtin,Sem.run_bind,Sem.run_pure,Result.andThen_ok,List.map_toArray,List.map_cons,List.map_nil,hs,hx,hrun]
 exact h _ _ h2 h3 h4
theorem results2 {P:Program} {fn:Func} {p2 p3:Tmp} {t2 t3:TypeId} (h:fn.results=#[.cell p2 t2,.cell p3 t3]) (tmps:Array Value) (w:World) (a2 a3:Addr) (v2 v3:Value)
  (h2:tmps.getD p2 undef=.pointer (some a2)) (h3:tmps.getD p3 undef=.pointer (some a3)) (l2:(loadVar t2 a2).run P w=.ok v2 w) (l3:(loadVar t3 a3).run P w=.ok v3 w) :
  (results fn tmps).run P w=.ok (.tuple #[v2,v3]) w:=by
 have h2':tmps[p2]?.getD undef=.pointer (some a2):=by simpa using h2
 have h3':tmps[p3]?.getD undef=.pointer (some a3):=by simpa using h3
 simp[results,h,h2',h3',asAddr,l2,l3]
theorem lv_ents (w:World) (a:Addr) (v:Value) (h:w.cell? a=some v):(loadVar 76 a).run Tryz.prog w=.ok v w:=by
 simp[loadVar,run_underlying Tryz.underlying76,go_sem,h]
theorem lv_bool (w:World) (a:Addr) (v:Value) (h:w.cell? a=some v):(loadVar 4 a).run Tryz.prog w=.ok v w:=by
 simp[loadVar,run_underlying Tryz.underlying4,go_sem,h]
theorem results_z {w:World} {B g2 g3:Nat} {v2 v3:Value} (h:OutZ w B g2 g3 v2 v3) (tmps:Array Value) (h2:tmps.getD 2 undef=.pointer (some ⟨g2,0,none⟩)) (h3:tmps.getD 3 undef=.pointer (some ⟨g3,0,none⟩)) :
  (results Tryz.f47 tmps).run Tryz.prog w=.ok (.tuple #[v2,v3]) w:=
 results2 Tryz.results47 tmps w _ _ _ _ h2 h3 (lv_ents _ _ _ (h.b2.cell 0)) (lv_bool _ _ _ (h.b3.cell 0))
theorem outz_new (w:World):OutZ ((w.alloc (.cells #[.slice none 0 0] 76)).alloc (.cells #[.bool false] 4)) w.heap.size w.heap.size (w.heap.size+1) (.slice none 0 0) (.bool false):=by
 have b2:=(Blk.new w 76 #[.slice none 0 0]).alloc (.cells #[.bool false] 4)
 have b3:=Blk.new (w.alloc (.cells #[.slice none 0 0] 76)) 4 #[.bool false]
 simp only[World.size_alloc]at b2 b3
 exact⟨Nat.le_refl _,by omega,b2,b3⟩
theorem ReadE.keeps {w w':World} {B B0:Nat} {A:Option Addr} {b:List UInt8} {x:Ex} {e:Ent} {T:List TypeId} (h:ReadE w B A b x e) (hk:Keeps B0 T w w') (hu:5∉T):ReadE w' B A b x e:=
 ⟨h.is,h.at0,hk.own h.own hu,h.len,h.room,h.cap,h.within⟩
theorem ReadE.entP {w:World} {B:Nat} {A:Option Addr} {b:List UInt8} {x:Ex} (h:ReadE w B A b x x.e) (hl:LowAt w B A b):EntP B w x:=fun w2 h2=>by
 have ho2:OwnB w2 B (slv x.bs) x.e.f.bytes:=h2.toKeeps.own h.own (by decide)
 obtain⟨A',c,e,q1,q2,q3,_⟩:=ho2.slice
 unfold slv at e
 injection e with e1 e2 e3
 exact⟨e2,by rw[e3];exact q1,by rw[e3];exact q2,by rw[e1];exact q3,h.len,h.room,h.cap,h.within.at_ _ (hl.keeps h2.toKeeps).at_⟩
theorem readE_base {w:World} {B B':Nat} {A:Option Addr} {b:List UInt8} {x:Ex} {e:Ent} (h:ReadE w B A b x e) (hb:B'≤B):ReadE w B' A b x e:=
 ⟨h.is,h.at0,own_base h.own hb,h.len,h.room,h.cap,h.within⟩
structure EntsAt (w:World) (B g2 q:Nat) (A:Option Addr) (n c p:Nat) (b:List UInt8) (xs:List Ex) (l:List Ent) (vl:Value):Prop where
 rdr:RdrAt w q A n c p
 pn:p≤n
 low:LowAt w q A b
 res:Blk w g2 76 #[vl]
 own:w.ownsRow B 78 9 vl xs.length (xs.flatMap eC)
 is:xs.map Ex.e=l
 all:∀ x∈xs,ReadE w B A b x x.e
theorem EntsAt.below {w w':World} {B g2 q:Nat} {A:Option Addr} {n c p:Nat} {b:List UInt8} {xs:List Ex} {l:List Ent} {vl:Value} (h:EntsAt w B g2 q A n c p b xs l vl) (hb:Below w.heap.size w w'):EntsAt w' B g2 q A n c p b xs l vl:=
 ⟨Blk.below h.rdr hb (Blk.lt h.rdr),h.pn,⟨ByAt.below h.low.at_ hb,h.low.low⟩,h.res.below hb h.res.lt,own_keep h.own hb,h.is,fun x hx=>⟨(h.all x hx).is,(h.all x hx).at0,own_keep (h.all x hx).own hb,(h.all x hx).len,(h.all x hx).room,(h.all x hx).cap,(h.all x hx).within⟩⟩
def outT:List TypeId:=[76,4]
theorem cells3 {W:World} {q g2:Nat} {A:Option Addr} {n c p:Nat} {vl:Value} (h:RdrAt W q A n c p∧Blk W g2 76 #[vl]) :
  W.cell? ⟨q,0,none⟩=some (.slice A n c)∧W.cell? ⟨q,1,none⟩=some (.int .i64 (p:Int))∧W.cell? ⟨g2,0,none⟩=some vl:=⟨h.1.c0,h.1.c1,h.2.cell 0⟩
def EntsPost (R:Option (List Ent)) (A:Option Addr) (b:List UInt8) (w:World) (e:Ending) (w':World):Prop:=match R with
   | none=>e=.returned (.tuple #[.slice none 0 0,.bool false])
   | some l=>∃ (xs:List Ex) (vl:Value),e=.returned (.tuple #[vl,.bool (decide (laidB l=b))])∧xs.map Ex.e=l∧w'.ownsRow w.heap.size 78 9 vl xs.length ((atsL xs 0).flatMap eC)∧(∀ x∈xs,ReadE w' w.heap.size A b x x.e)
set_option maxRecDepth 100000 in
set_option maxHeartbeats 4000000 in
theorem entries_any (A:Option Addr) (n c:Nat) (b:List UInt8) (w:World) (hn:b.length=n) (hnc:n≤c) (hcm:c≤maxLen) (h12:n≤12000) (hA:ByAt w A b) :
  Calls Tryz.prog 47 #[.slice A n c] w fun e w'=>EntsPost (entsR b 14 0 []) A b w e w'∧Below w.heap.size w w':=by
 have hmf:∀ (fn:Fn) (first cap:Array Value) (w:World),(Instr.makeFunc fn first cap).run Tryz.prog w=.ok (.func fn first cap) w:=fun _ _ _ _=>rfl
 have Hn:=Lib.hid hn
 have HA:=Lib.hid hA
 obtain⟨R,hR⟩:∃ R,R=entsR b 14 0 []:=⟨_,rfl⟩
 rw[←hR]
 have HR:=Lib.hid hR
 clear hn hA hR
 go_enter_defers Tryz.func47,Tryz.ntmps47
 go_wp2_with fail
 have HOut:=Lib.hid (outz_new w)
 have hba:Below w.heap.size w ((w.alloc (.cells #[.slice none 0 0] 76)).alloc (.cells #[.bool false] 4)):=((Below.refl _ _).alloc (Nat.le_refl _) _).alloc (by simp only[World.size_alloc];omega) _
 have hsz:((w.alloc (.cells #[.slice none 0 0] 76)).alloc (.cells #[.bool false] 4)).heap.size=w.heap.size+1+1:=by simp
 generalize (w.alloc (.cells #[.slice none 0 0] 76)).alloc (.cells #[.bool false] 4)=w1 at *
 have hbr:Below w1.heap.size w1 (w1.alloc (.cells #[.slice A n c,.int .i64 0] 112)):=(Below.refl _ _).alloc (Nat.le_refl _) _
 have hR2:=Blk.new w1 112 #[.slice A n c,.int .i64 0]
 have HOut2:=Lib.hid (HOut.out.below hbr)
 have Hb2:Hid (Below w.heap.size w (w1.alloc (.cells #[.slice A n c,.int .i64 0] 112))):=Lib.hid (hba.trans (hbr.mono (by omega)))
 generalize w1.alloc (.cells #[.slice A n c,.int .i64 0] 112)=w2 at *
 have Hlow:Hid (LowAt w w.heap.size A b):=Lib.hid ⟨HA.out,fun a o e hp=>Inf.slat_lt8 (e▸HA.out) (by rw[List.length_map];exact hp)⟩
 obtain⟨g2,hg2⟩:∃ g2,g2=w.heap.size:=⟨_,rfl⟩
 obtain⟨g3,hg3⟩:∃ g3,g3=w.heap.size+1:=⟨_,rfl⟩
 obtain⟨q,hq⟩:∃ q,q=w.heap.size+1+1:=⟨_,rfl⟩
 rw[hsz,←hq]at hR2
 rw[←hq]
 rw[←hg3]at HOut HOut2⊢
 rw[←hg2]at Hlow HOut HOut2 Hb2⊢
 have hgq:g2≤q∧g2 < q∧g3 < q:=by omega
 have Hg2:=Lib.hid hg2
 have HE0:Hid (EntsAt w2 g2 g2 q A n c 0 b [] [] (.slice none 0 0)):=Lib.hid ⟨hR2,Nat.zero_le _,⟨ByAt.below HA.out (by rw[←hg2];exact Hb2.out),fun a o e hp=>by have:=Hlow.out.low a o e hp;omega⟩,HOut2.out.b2,World.ownsRow_nil _ _ _ _,rfl,by simp⟩
 have HB3:=Lib.hid HOut2.out.b3
 have hle3:g2≤g3:=HOut2.out.le3
 clear hg2 hg3 hq hba hbr hR2 HOut2 HOut hsz
 go_loopw [] (fun wr=>∃ (f p:Nat) (xs:List Ex) (l:List Ent) (vl:Value),f+l.length=14∧l.length≤13∧R=entsR b f p l∧EntsAt wr g2 g2 q A n c p b xs l vl∧Blk wr g3 4 #[.bool false]∧Below g2 w wr) (fun wr=>14 - (match wr.cell? ⟨g2,0,none⟩ with | some (.slice _ m _)=>m | _=>0))
 case atStart=>exact⟨14,0,[],[],_,rfl,by simp,HR.out,HE0.out,HB3.out,Hb2.out⟩
 case round=>
  obtain⟨f,p,xs,l,vl,hfl,hl13,hR,he,h3,hb⟩:=hrel
  obtain⟨Av,cv,rfl,hv1,hv2,_,_⟩:=own_slat he.own
  have Hxl:Hid (xs.length=l.length):=Lib.hid (by rw[←he.is,List.length_map])
  have Hwc:Hid (wr.cell? ⟨g2,0,none⟩=some (.slice Av xs.length cv)):=Lib.hid (he.res.cell 0)
  have HE:=Lib.hid he
  have H3:=Lib.hid h3
  have Hb:=Lib.hid hb
  obtain⟨f,rfl⟩:∃ f',f=f'+1:=⟨f - 1,by omega⟩
  have HRr:=Lib.hid (show R=if p+4≤b.length∧(b.drop p).take 4=signB∧l.length≤12 then (entR b p).bind fun x=>entsR b f x.2 (l++[x.1]) else some l from hR)
  clear hR he h3 hb HE0 HB3 Hb2
  go_upto_region 3 with fail
  go_cut [36] from 9 to 36 (fun bv wx=>bv=.bool (decide (p+4≤b.length∧(b.drop p).take 4=signB∧l.length≤12))∧EntsAt wx g2 g2 q A n c p b xs l (.slice Av xs.length cv)∧Blk wx g3 4 #[.bool false]∧Below g2 w wx)
  case first=>
   by_cases h4:p+4≤n
   ·have hbl:0 < b.length:=by rw[Hn.out];omega
    obtain⟨a,o,rfl,_⟩:=HA.out.get (k:=0) hbl
    refine wp_calm ?_
    refine wp_region_S (fun W=>RdrAt W q (some ⟨a,o,none⟩) n c p∧Blk W g2 76 #[.slice Av xs.length cv]) 27 (by kernel_rfl) ?_
    have hHeld:RdrAt wr.drew q (some ⟨a,o,none⟩) n c p∧Blk wr.drew g2 76 #[.slice Av xs.length cv]:=⟨HE.out.rdr,HE.out.res⟩
    have hnp:IntKind.i64.wrap ((n:Int) - (p:Int))=(n:Int) - (p:Int):=IntWalk.i64_in _ (by unfold maxLen at hcm;omega)
    have hg4:(4:Int)≤(n:Int) - (p:Int):=by omega
    have hpp:IntKind.i64.wrap ((p:Int)+4)=(p:Int)+4:=IntWalk.i64_in _ (by unfold maxLen at hcm;omega)
    have hc1:(p:Int)+4≤(c:Int):=by omega
    have hc2:(p:Int)≤(p:Int)+4:=by omega
    have hcp:¬ c=p:=by omega
    refine wpAnyS_takeT (i:=0) (v:=?va0) (by kernel_rfl) (by kernel_rfl) rfl (by kernel_rfl) (by kernel_rfl) (by kernel_rfl) (fun _ _ _ h=>by cases h.1) (by rfl) (by assumption) ?hya0 ?resta0
    case hya0=>(intro W hSW;obtain⟨k0,k1,k2⟩:=cells3 hSW;go_simp;try with_reducible rfl)
    (try simp only[Act.put,List.getElem_toArray,List.getElem_cons_zero,List.getElem_cons_succ,List.setIfInBounds_toArray,List.set_cons_zero,List.set_cons_succ])
    refine wpAnyS_takeT (i:=1) (v:=?va1) (by kernel_rfl) (by kernel_rfl) rfl (by kernel_rfl) (by kernel_rfl) (by kernel_rfl) (fun _ _ _ h=>by cases h.1) (by rfl) (by assumption) ?hya1 ?resta1
    case hya1=>(intro W hSW;obtain⟨k0,k1,k2⟩:=cells3 hSW;go_simp;try with_reducible rfl)
    (try simp only[Act.put,List.getElem_toArray,List.getElem_cons_zero,List.getElem_cons_succ,List.setIfInBounds_toArray,List.set_cons_zero,List.set_cons_succ])
    refine wpAnyS_takeT (i:=2) (v:=?va2) (by kernel_rfl) (by kernel_rfl) rfl (by kernel_rfl) (by kernel_rfl) (by kernel_rfl) (fun _ _ _ h=>by cases h.1) (by rfl) (by assumption) ?hya2 ?resta2
    case hya2=>(intro W hSW;obtain⟨k0,k1,k2⟩:=cells3 hSW;go_simp;try with_reducible rfl)
    (try simp only[Act.put,List.getElem_toArray,List.getElem_cons_zero,List.getElem_cons_succ,List.setIfInBounds_toArray,List.set_cons_zero,List.set_cons_succ])
    refine wpAnyS_takeT (i:=3) (v:=?va3) (by kernel_rfl) (by kernel_rfl) rfl (by kernel_rfl) (by kernel_rfl) (by kernel_rfl) (fun _ _ _ h=>by cases h.1) (by rfl) (by assumption) ?hya3 ?resta3
    case hya3=>(intro W hSW;obtain⟨k0,k1,k2⟩:=cells3 hSW;go_simp;try with_reducible rfl)
    (try simp only[Act.put,List.getElem_toArray,List.getElem_cons_zero,List.getElem_cons_succ,List.setIfInBounds_toArray,List.set_cons_zero,List.set_cons_succ])
    refine wpAnyS_takeT (i:=4) (v:=?va4) (by kernel_rfl) (by kernel_rfl) rfl (by kernel_rfl) (by kernel_rfl) (by kernel_rfl) (fun _ _ _ h=>by cases h.1) (by rfl) (by assumption) ?hya4 ?resta4
    case hya4=>(intro W hSW;obtain⟨k0,k1,k2⟩:=cells3 hSW;go_simp;try with_reducible rfl)
    (try simp only[Act.put,List.getElem_toArray,List.getElem_cons_zero,List.getElem_cons_succ,List.setIfInBounds_toArray,List.set_cons_zero,List.set_cons_succ])
    refine wpAnyS_takeT (i:=5) (v:=?va5) (by kernel_rfl) (by kernel_rfl) rfl (by kernel_rfl) (by kernel_rfl) (by kernel_rfl) (fun _ _ _ h=>by cases h.1) (by rfl) (by assumption) ?hya5 ?resta5
    case hya5=>(intro W hSW;obtain⟨k0,k1,k2⟩:=cells3 hSW;go_simp;try with_reducible rfl)
    (try simp only[Act.put,List.getElem_toArray,List.getElem_cons_zero,List.getElem_cons_succ,List.setIfInBounds_toArray,List.set_cons_zero,List.set_cons_succ])
    refine wpAnyS_takeT (i:=6) (v:=?va6) (by kernel_rfl) (by kernel_rfl) rfl (by kernel_rfl) (by kernel_rfl) (by kernel_rfl) (fun _ _ _ h=>by cases h.1) (by rfl) (by assumption) ?hya6 ?resta6
    case hya6=>(intro W hSW;obtain⟨k0,k1,k2⟩:=cells3 hSW;go_simp;try with_reducible rfl)
    (try simp only[Act.put,List.getElem_toArray,List.getElem_cons_zero,List.getElem_cons_succ,List.setIfInBounds_toArray,List.set_cons_zero,List.set_cons_succ])
    refine wpAnyS_takeT (i:=7) (v:=?va7) (by kernel_rfl) (by kernel_rfl) rfl (by kernel_rfl) (by kernel_rfl) (by kernel_rfl) (fun _ _ _ h=>by cases h.1) (by rfl) (by assumption) ?hya7 ?resta7
    case hya7=>(intro W hSW;obtain⟨k0,k1,k2⟩:=cells3 hSW;go_simp;try with_reducible rfl)
    (try simp only[Act.put,List.getElem_toArray,List.getElem_cons_zero,List.getElem_cons_succ,List.setIfInBounds_toArray,List.set_cons_zero,List.set_cons_succ])
    refine wpAnyS_takeT (i:=8) (v:=?va8) (by kernel_rfl) (by kernel_rfl) rfl (by kernel_rfl) (by kernel_rfl) (by kernel_rfl) (fun _ _ _ h=>by cases h.1) (by rfl) (by assumption) ?hya8 ?resta8
    case hya8=>(intro W hSW;obtain⟨k0,k1,k2⟩:=cells3 hSW;go_simp;try with_reducible rfl)
    (try simp only[Act.put,List.getElem_toArray,List.getElem_cons_zero,List.getElem_cons_succ,List.setIfInBounds_toArray,List.set_cons_zero,List.set_cons_succ])
    refine wpAnyS_takeT (i:=9) (v:=?va9) (by kernel_rfl) (by kernel_rfl) rfl (by kernel_rfl) (by kernel_rfl) (by kernel_rfl) (fun _ _ _ h=>by cases h.1) (by rfl) (by assumption) ?hya9 ?resta9
    case hya9=>(intro W hSW;obtain⟨k0,k1,k2⟩:=cells3 hSW;go_simp;try with_reducible rfl)
    (try simp only[Act.put,List.getElem_toArray,List.getElem_cons_zero,List.getElem_cons_succ,List.setIfInBounds_toArray,List.set_cons_zero,List.set_cons_succ])
    refine wpAnyS_takeT (i:=10) (v:=?va10) (by kernel_rfl) (by kernel_rfl) rfl (by kernel_rfl) (by kernel_rfl) (by kernel_rfl) (fun _ _ _ h=>by cases h.1) (by rfl) (by assumption) ?hya10 ?resta10
    case hya10=>(intro W hSW;obtain⟨k0,k1,k2⟩:=cells3 hSW;go_simp;try with_reducible rfl)
    (try simp only[Act.put,List.getElem_toArray,List.getElem_cons_zero,List.getElem_cons_succ,List.setIfInBounds_toArray,List.set_cons_zero,List.set_cons_succ])
    refine wpAnyS_takeT (i:=11) (v:=?va11) (by kernel_rfl) (by kernel_rfl) rfl (by kernel_rfl) (by kernel_rfl) (by kernel_rfl) (fun _ _ _ h=>by cases h.1) (by rfl) (by assumption) ?hya11 ?resta11
    case hya11=>(intro W hSW;obtain⟨k0,k1,k2⟩:=cells3 hSW;go_simp;try with_reducible rfl)
    (try simp only[Act.put,List.getElem_toArray,List.getElem_cons_zero,List.getElem_cons_succ,List.setIfInBounds_toArray,List.set_cons_zero,List.set_cons_succ])
    refine wpAnyS_takeT (i:=12) (v:=?va12) (by kernel_rfl) (by kernel_rfl) rfl (by kernel_rfl) (by kernel_rfl) (by kernel_rfl) (fun _ _ _ h=>by cases h.1) (by rfl) (by assumption) ?hya12 ?resta12
    case hya12=>(intro W hSW;obtain⟨k0,k1,k2⟩:=cells3 hSW;go_simp;try with_reducible rfl)
    (try simp only[Act.put,List.getElem_toArray,List.getElem_cons_zero,List.getElem_cons_succ,List.setIfInBounds_toArray,List.set_cons_zero,List.set_cons_succ])
    refine wpAnyS_takeT (i:=13) (v:=?va13) (by kernel_rfl) (by kernel_rfl) rfl (by kernel_rfl) (by kernel_rfl) (by kernel_rfl) (fun _ _ _ h=>by cases h.1) (by rfl) (by assumption) ?hya13 ?resta13
    case hya13=>(intro W hSW;obtain⟨k0,k1,k2⟩:=cells3 hSW;go_simp;try with_reducible rfl)
    (try simp only[Act.put,List.getElem_toArray,List.getElem_cons_zero,List.getElem_cons_succ,List.setIfInBounds_toArray,List.set_cons_zero,List.set_cons_succ])
    refine wpAnyS_takeT (i:=14) (v:=?va14) (by kernel_rfl) (by kernel_rfl) rfl (by kernel_rfl) (by kernel_rfl) (by kernel_rfl) (fun _ _ _ h=>by cases h.1) (by rfl) (by assumption) ?hya14 ?resta14
    case hya14=>(intro W hSW;obtain⟨k0,k1,k2⟩:=cells3 hSW;go_simp;try with_reducible rfl)
    (try simp only[Act.put,List.getElem_toArray,List.getElem_cons_zero,List.getElem_cons_succ,List.setIfInBounds_toArray,List.set_cons_zero,List.set_cons_succ])
    refine wpAnyS_takeT (i:=15) (v:=?va15) (by kernel_rfl) (by kernel_rfl) rfl (by kernel_rfl) (by kernel_rfl) (by kernel_rfl) (fun _ _ _ h=>by cases h.1) (by rfl) (by assumption) ?hya15 ?resta15
    case hya15=>(intro W hSW;obtain⟨k0,k1,k2⟩:=cells3 hSW;go_simp;try with_reducible rfl)
    (try simp only[Act.put,List.getElem_toArray,List.getElem_cons_zero,List.getElem_cons_succ,List.setIfInBounds_toArray,List.set_cons_zero,List.set_cons_succ])
    refine wpAnyS_takeT (i:=16) (v:=?va16) (by kernel_rfl) (by kernel_rfl) rfl (by kernel_rfl) (by kernel_rfl) (by kernel_rfl) (fun _ _ _ h=>by cases h.1) (by rfl) (by assumption) ?hya16 ?resta16
    case hya16=>(intro W hSW;obtain⟨k0,k1,k2⟩:=cells3 hSW;go_simp;try with_reducible rfl)
    (try simp only[Act.put,List.getElem_toArray,List.getElem_cons_zero,List.getElem_cons_succ,List.setIfInBounds_toArray,List.set_cons_zero,List.set_cons_succ])
    refine wpAnyS_takeT (i:=17) (v:=?va17) (by kernel_rfl) (by kernel_rfl) rfl (by kernel_rfl) (by kernel_rfl) (by kernel_rfl) (fun _ _ _ h=>by cases h.1) (by rfl) (by assumption) ?hya17 ?resta17
    case hya17=>(intro W hSW;obtain⟨k0,k1,k2⟩:=cells3 hSW;go_simp;try with_reducible rfl)
    (try simp only[Act.put,List.getElem_toArray,List.getElem_cons_zero,List.getElem_cons_succ,List.setIfInBounds_toArray,List.set_cons_zero,List.set_cons_succ])
    refine wpAnyS_takeT (i:=18) (v:=?va18) (by kernel_rfl) (by kernel_rfl) rfl (by kernel_rfl) (by kernel_rfl) (by kernel_rfl) (fun _ _ _ h=>by cases h.1) (by rfl) (by assumption) ?hya18 ?resta18
    case hya18=>(intro W hSW;obtain⟨k0,k1,k2⟩:=cells3 hSW;go_simp;try with_reducible rfl)
    (try simp only[Act.put,List.getElem_toArray,List.getElem_cons_zero,List.getElem_cons_succ,List.setIfInBounds_toArray,List.set_cons_zero,List.set_cons_succ])
    refine wpAnyS_takeT (i:=19) (v:=?va19) (by kernel_rfl) (by kernel_rfl) rfl (by kernel_rfl) (by kernel_rfl) (by kernel_rfl) (fun _ _ _ h=>by cases h.1) (by rfl) (by assumption) ?hya19 ?resta19
    case hya19=>(intro W hSW;obtain⟨k0,k1,k2⟩:=cells3 hSW;go_simp;try with_reducible rfl)
    (try simp only[Act.put,List.getElem_toArray,List.getElem_cons_zero,List.getElem_cons_succ,List.setIfInBounds_toArray,List.set_cons_zero,List.set_cons_succ])
    have hdr:Below wr.heap.size wr wr.drew:=(Below.refl _ _).drew
    have HEd:Hid (EntsAt wr.drew g2 g2 q (some ⟨a,o,none⟩) n c p b xs l (.slice Av xs.length cv)):=Lib.hid (HE.out.below hdr)
    have H3d:Hid (Blk wr.drew g3 4 #[.bool false]):=Lib.hid H3.out
    have Hbd:=Lib.hid (Hb.out.trans (hdr.mono (by rw[Hg2.out];exact Hb.out.size)))
    clear hdr HE H3 Hb
    generalize wr.drew=w3 at *
    refine wpAnyS_only (i:=20) rfl (by kernel_rfl) (fun K hK=>?_)
    go_simp
    clear hHeld
    go_at_call 65
    refine (num_z w3.heap.size (.slice none 0 0) [] 67324752 4 67324752 4 w3 (OwnB.nil _ _) (Nat.le_refl _) rfl rfl (by omega) (by omega) (by simp)).mono ?_
    rintro e w4 ⟨⟨u4,rfl,ho⟩,hb4⟩
    have HE4:Hid (EntsAt w4 g2 g2 q (some ⟨a,o,none⟩) n c p b xs l (.slice Av xs.length cv)):=Lib.hid (HEd.out.below hb4)
    have H34:Hid (Blk w4 g3 4 #[.bool false]):=Lib.hid (H3d.out.below hb4 H3d.out.lt)
    have Hb4:=Lib.hid (Hbd.out.trans (hb4.mono (by rw[Hg2.out];exact Hbd.out.size)))
    obtain⟨A4,c4,rfl,h41,h42,h43,h44⟩:=ho.slice
    have HS4:Hid (ByAt w4 A4 signB):=Lib.hid h43
    have HD4:Hid (ByAt w4 (some ⟨a,o+p,none⟩) ((b.drop p).take 4)):=Lib.hid ((ByAt.drop HE4.out.low.at_ p).take 4)
    rw[show (([]:List UInt8)++lowB 4 67324752).length=4 from by simp[lowB_len]]
    clear ho hb4 HEd H3d Hbd h43 h44
    refine hK.out _ _ ⟨HE4.out.rdr,HE4.out.res⟩ (fun hHeld=>?_)
    clear hK K
    (try simp only[Act.put,List.getElem_toArray,List.getElem_cons_zero,List.getElem_cons_succ,List.setIfInBounds_toArray,List.set_cons_zero,List.set_cons_succ])
    refine wpAnyS_only (i:=21) rfl (by kernel_rfl) (fun K hK=>?_)
    go_simp
    clear hHeld
    go_at_call 22
    rw[show ((p:Int)+4).toNat - p=4 by omega]
    refine (equal_bytes _ A4 4 4 (c - p) c4 ((b.drop p).take 4) signB w4 (by rw[List.length_take,List.length_drop,Hn.out];omega) (by decide) HD4.out HS4.out).mono ?_
    rintro e w5 ⟨rfl,rfl⟩
    refine hK.out _ _ ⟨HE4.out.rdr,HE4.out.res⟩ (fun hHeld=>?_)
    clear hK K
    (try simp only[Act.put,List.getElem_toArray,List.getElem_cons_zero,List.getElem_cons_succ,List.setIfInBounds_toArray,List.set_cons_zero,List.set_cons_succ])
    by_cases hs:(b.drop p).take 4=signB
    ·rw[show decide ((b.drop p).take 4=signB)=true from by simp[hs]]
     refine wpAnyS_takeT (i:=22) (v:=?va22) (by kernel_rfl) (by kernel_rfl) rfl (by kernel_rfl) (by kernel_rfl) (by kernel_rfl) (fun _ _ _ h=>by cases h.1) (by rfl) (by assumption) ?hya22 ?resta22
     case hya22=>(intro W hSW;obtain⟨k0,k1,k2⟩:=cells3 hSW;go_simp;try with_reducible rfl)
     (try simp only[Act.put,List.getElem_toArray,List.getElem_cons_zero,List.getElem_cons_succ,List.setIfInBounds_toArray,List.set_cons_zero,List.set_cons_succ])
     refine wpAnyS_takeT (i:=23) (v:=?va23) (by kernel_rfl) (by kernel_rfl) rfl (by kernel_rfl) (by kernel_rfl) (by kernel_rfl) (fun _ _ _ h=>by cases h.1) (by rfl) (by assumption) ?hya23 ?resta23
     case hya23=>(intro W hSW;obtain⟨k0,k1,k2⟩:=cells3 hSW;go_simp;try with_reducible rfl)
     (try simp only[Act.put,List.getElem_toArray,List.getElem_cons_zero,List.getElem_cons_succ,List.setIfInBounds_toArray,List.set_cons_zero,List.set_cons_succ])
     refine wpAnyS_takeT (i:=24) (v:=?va24) (by kernel_rfl) (by kernel_rfl) rfl (by kernel_rfl) (by kernel_rfl) (by kernel_rfl) (fun _ _ _ h=>by cases h.1) (by rfl) (by assumption) ?hya24 ?resta24
     case hya24=>(intro W hSW;obtain⟨k0,k1,k2⟩:=cells3 hSW;go_simp;try with_reducible rfl)
     (try simp only[Act.put,List.getElem_toArray,List.getElem_cons_zero,List.getElem_cons_succ,List.setIfInBounds_toArray,List.set_cons_zero,List.set_cons_succ])
     refine wpAnyS_takeT (i:=25) (v:=?va25) (by kernel_rfl) (by kernel_rfl) rfl (by kernel_rfl) (by kernel_rfl) (by kernel_rfl) (fun _ _ _ h=>by cases h.1) (by rfl) (by assumption) ?hya25 ?resta25
     case hya25=>(intro W hSW;obtain⟨k0,k1,k2⟩:=cells3 hSW;go_simp;try with_reducible rfl)
     (try simp only[Act.put,List.getElem_toArray,List.getElem_cons_zero,List.getElem_cons_succ,List.setIfInBounds_toArray,List.set_cons_zero,List.set_cons_succ])
     refine wpAnyS_takeT (i:=26) (v:=?va26) (by kernel_rfl) (by kernel_rfl) rfl (by kernel_rfl) (by kernel_rfl) (by kernel_rfl) (fun _ _ _ h=>by cases h.1) (by rfl) (by assumption) ?hya26 ?resta26
     case hya26=>(intro W hSW;obtain⟨k0,k1,k2⟩:=cells3 hSW;go_simp;try with_reducible rfl)
     (try simp only[Act.put,List.getElem_toArray,List.getElem_cons_zero,List.getElem_cons_succ,List.setIfInBounds_toArray,List.set_cons_zero,List.set_cons_succ])
     refine wpAnyS_last rfl (by kernel_rfl) (by kernel_rfl) (fun K hK=>?_)
     go_simp
     clear hHeld
     refine hK.out _ _ ⟨rfl,?_⟩
     clear hK K
     go_wp2_with fail
     go_meet
     case rel=>exact⟨by rw[Hn.out];simp[h4,hs];have:=Hxl.out;omega,HE4.out,H34.out,Hb4.out⟩
    ·rw[show decide ((b.drop p).take 4=signB)=false from by simp[hs]]
     refine wpAnyS_takeT (i:=22) (v:=?vn22) (by kernel_rfl) (by kernel_rfl) rfl (by kernel_rfl) (by kernel_rfl) (by kernel_rfl) (fun _ _ _ h=>by cases h.1) (by rfl) (by assumption) ?hyn22 ?restn22
     case hyn22=>(intro W hSW;obtain⟨k0,k1,k2⟩:=cells3 hSW;go_simp;try with_reducible rfl)
     (try simp only[Act.put,List.getElem_toArray,List.getElem_cons_zero,List.getElem_cons_succ,List.setIfInBounds_toArray,List.set_cons_zero,List.set_cons_succ])
     refine wpAnyS_takeT (i:=23) (v:=?vn23) (by kernel_rfl) (by kernel_rfl) rfl (by kernel_rfl) (by kernel_rfl) (by kernel_rfl) (fun _ _ _ h=>by cases h.1) (by rfl) (by assumption) ?hyn23 ?restn23
     case hyn23=>(intro W hSW;obtain⟨k0,k1,k2⟩:=cells3 hSW;go_simp;try with_reducible rfl)
     (try simp only[Act.put,List.getElem_toArray,List.getElem_cons_zero,List.getElem_cons_succ,List.setIfInBounds_toArray,List.set_cons_zero,List.set_cons_succ])
     refine wpAnyS_skipT (i:=24) (by kernel_rfl) (by kernel_rfl) rfl (by kernel_rfl) (by kernel_rfl) (by kernel_rfl) (fun _ _ _ h=>by cases h.1) (by rfl) (by assumption) ?_
     (try simp only[Act.put,List.getElem_toArray,List.getElem_cons_zero,List.getElem_cons_succ,List.setIfInBounds_toArray,List.set_cons_zero,List.set_cons_succ])
     refine wpAnyS_skipT (i:=25) (by kernel_rfl) (by kernel_rfl) rfl (by kernel_rfl) (by kernel_rfl) (by kernel_rfl) (fun _ _ _ h=>by cases h.1) (by rfl) (by assumption) ?_
     (try simp only[Act.put,List.getElem_toArray,List.getElem_cons_zero,List.getElem_cons_succ,List.setIfInBounds_toArray,List.set_cons_zero,List.set_cons_succ])
     refine wpAnyS_skipT (i:=26) (by kernel_rfl) (by kernel_rfl) rfl (by kernel_rfl) (by kernel_rfl) (by kernel_rfl) (fun _ _ _ h=>by cases h.1) (by rfl) (by assumption) ?_
     (try simp only[Act.put,List.getElem_toArray,List.getElem_cons_zero,List.getElem_cons_succ,List.setIfInBounds_toArray,List.set_cons_zero,List.set_cons_succ])
     refine wpAnyS_last rfl (by kernel_rfl) (by kernel_rfl) (fun K hK=>?_)
     go_simp
     clear hHeld
     refine hK.out _ _ ⟨rfl,?_⟩
     clear hK K
     go_wp2_with fail
     go_meet
     case rel=>exact⟨by simp[hs],HE4.out,H34.out,Hb4.out⟩
   ·refine wp_calm ?_
    refine wp_region_S (fun W=>RdrAt W q A n c p∧Blk W g2 76 #[.slice Av xs.length cv]) 27 (by kernel_rfl) ?_
    have hHeld:RdrAt wr.drew q A n c p∧Blk wr.drew g2 76 #[.slice Av xs.length cv]:=⟨HE.out.rdr,HE.out.res⟩
    have hnp:IntKind.i64.wrap ((n:Int) - (p:Int))=(n:Int) - (p:Int):=IntWalk.i64_in _ (by have:=HE.out.pn;unfold maxLen at hcm;omega)
    have hg4:¬ (4:Int)≤(n:Int) - (p:Int):=by omega
    refine wpAnyS_takeT (i:=0) (v:=?vs0) (by kernel_rfl) (by kernel_rfl) rfl (by kernel_rfl) (by kernel_rfl) (by kernel_rfl) (fun _ _ _ h=>by cases h.1) (by rfl) (by assumption) ?hys0 ?rests0
    case hys0=>(intro W hSW;obtain⟨k0,k1,k2⟩:=cells3 hSW;go_simp;try with_reducible rfl)
    (try simp only[Act.put,List.getElem_toArray,List.getElem_cons_zero,List.getElem_cons_succ,List.setIfInBounds_toArray,List.set_cons_zero,List.set_cons_succ])
    refine wpAnyS_takeT (i:=1) (v:=?vs1) (by kernel_rfl) (by kernel_rfl) rfl (by kernel_rfl) (by kernel_rfl) (by kernel_rfl) (fun _ _ _ h=>by cases h.1) (by rfl) (by assumption) ?hys1 ?rests1
    case hys1=>(intro W hSW;obtain⟨k0,k1,k2⟩:=cells3 hSW;go_simp;try with_reducible rfl)
    (try simp only[Act.put,List.getElem_toArray,List.getElem_cons_zero,List.getElem_cons_succ,List.setIfInBounds_toArray,List.set_cons_zero,List.set_cons_succ])
    refine wpAnyS_takeT (i:=2) (v:=?vs2) (by kernel_rfl) (by kernel_rfl) rfl (by kernel_rfl) (by kernel_rfl) (by kernel_rfl) (fun _ _ _ h=>by cases h.1) (by rfl) (by assumption) ?hys2 ?rests2
    case hys2=>(intro W hSW;obtain⟨k0,k1,k2⟩:=cells3 hSW;go_simp;try with_reducible rfl)
    (try simp only[Act.put,List.getElem_toArray,List.getElem_cons_zero,List.getElem_cons_succ,List.setIfInBounds_toArray,List.set_cons_zero,List.set_cons_succ])
    refine wpAnyS_takeT (i:=3) (v:=?vs3) (by kernel_rfl) (by kernel_rfl) rfl (by kernel_rfl) (by kernel_rfl) (by kernel_rfl) (fun _ _ _ h=>by cases h.1) (by rfl) (by assumption) ?hys3 ?rests3
    case hys3=>(intro W hSW;obtain⟨k0,k1,k2⟩:=cells3 hSW;go_simp;try with_reducible rfl)
    (try simp only[Act.put,List.getElem_toArray,List.getElem_cons_zero,List.getElem_cons_succ,List.setIfInBounds_toArray,List.set_cons_zero,List.set_cons_succ])
    refine wpAnyS_takeT (i:=4) (v:=?vs4) (by kernel_rfl) (by kernel_rfl) rfl (by kernel_rfl) (by kernel_rfl) (by kernel_rfl) (fun _ _ _ h=>by cases h.1) (by rfl) (by assumption) ?hys4 ?rests4
    case hys4=>(intro W hSW;obtain⟨k0,k1,k2⟩:=cells3 hSW;go_simp;try with_reducible rfl)
    (try simp only[Act.put,List.getElem_toArray,List.getElem_cons_zero,List.getElem_cons_succ,List.setIfInBounds_toArray,List.set_cons_zero,List.set_cons_succ])
    refine wpAnyS_takeT (i:=5) (v:=?vs5) (by kernel_rfl) (by kernel_rfl) rfl (by kernel_rfl) (by kernel_rfl) (by kernel_rfl) (fun _ _ _ h=>by cases h.1) (by rfl) (by assumption) ?hys5 ?rests5
    case hys5=>(intro W hSW;obtain⟨k0,k1,k2⟩:=cells3 hSW;go_simp;try with_reducible rfl)
    (try simp only[Act.put,List.getElem_toArray,List.getElem_cons_zero,List.getElem_cons_succ,List.setIfInBounds_toArray,List.set_cons_zero,List.set_cons_succ])
    refine wpAnyS_takeT (i:=6) (v:=?vs6) (by kernel_rfl) (by kernel_rfl) rfl (by kernel_rfl) (by kernel_rfl) (by kernel_rfl) (fun _ _ _ h=>by cases h.1) (by rfl) (by assumption) ?hys6 ?rests6
    case hys6=>(intro W hSW;obtain⟨k0,k1,k2⟩:=cells3 hSW;go_simp;try with_reducible rfl)
    (try simp only[Act.put,List.getElem_toArray,List.getElem_cons_zero,List.getElem_cons_succ,List.setIfInBounds_toArray,List.set_cons_zero,List.set_cons_succ])
    refine wpAnyS_takeT (i:=7) (v:=?vs7) (by kernel_rfl) (by kernel_rfl) rfl (by kernel_rfl) (by kernel_rfl) (by kernel_rfl) (fun _ _ _ h=>by cases h.1) (by rfl) (by assumption) ?hys7 ?rests7
    case hys7=>(intro W hSW;obtain⟨k0,k1,k2⟩:=cells3 hSW;go_simp;try with_reducible rfl)
    (try simp only[Act.put,List.getElem_toArray,List.getElem_cons_zero,List.getElem_cons_succ,List.setIfInBounds_toArray,List.set_cons_zero,List.set_cons_succ])
    refine wpAnyS_takeT (i:=8) (v:=?vs8) (by kernel_rfl) (by kernel_rfl) rfl (by kernel_rfl) (by kernel_rfl) (by kernel_rfl) (fun _ _ _ h=>by cases h.1) (by rfl) (by assumption) ?hys8 ?rests8
    case hys8=>(intro W hSW;obtain⟨k0,k1,k2⟩:=cells3 hSW;go_simp;try with_reducible rfl)
    (try simp only[Act.put,List.getElem_toArray,List.getElem_cons_zero,List.getElem_cons_succ,List.setIfInBounds_toArray,List.set_cons_zero,List.set_cons_succ])
    refine wpAnyS_skipT (i:=9) (by kernel_rfl) (by kernel_rfl) rfl (by kernel_rfl) (by kernel_rfl) (by kernel_rfl) (fun _ _ _ h=>by cases h.1) (by rfl) (by assumption) ?_
    (try simp only[Act.put,List.getElem_toArray,List.getElem_cons_zero,List.getElem_cons_succ,List.setIfInBounds_toArray,List.set_cons_zero,List.set_cons_succ])
    refine wpAnyS_skipT (i:=10) (by kernel_rfl) (by kernel_rfl) rfl (by kernel_rfl) (by kernel_rfl) (by kernel_rfl) (fun _ _ _ h=>by cases h.1) (by rfl) (by assumption) ?_
    (try simp only[Act.put,List.getElem_toArray,List.getElem_cons_zero,List.getElem_cons_succ,List.setIfInBounds_toArray,List.set_cons_zero,List.set_cons_succ])
    refine wpAnyS_skipT (i:=11) (by kernel_rfl) (by kernel_rfl) rfl (by kernel_rfl) (by kernel_rfl) (by kernel_rfl) (fun _ _ _ h=>by cases h.1) (by rfl) (by assumption) ?_
    (try simp only[Act.put,List.getElem_toArray,List.getElem_cons_zero,List.getElem_cons_succ,List.setIfInBounds_toArray,List.set_cons_zero,List.set_cons_succ])
    refine wpAnyS_skipT (i:=12) (by kernel_rfl) (by kernel_rfl) rfl (by kernel_rfl) (by kernel_rfl) (by kernel_rfl) (fun _ _ _ h=>by cases h.1) (by rfl) (by assumption) ?_
    (try simp only[Act.put,List.getElem_toArray,List.getElem_cons_zero,List.getElem_cons_succ,List.setIfInBounds_toArray,List.set_cons_zero,List.set_cons_succ])
    refine wpAnyS_skipT (i:=13) (by kernel_rfl) (by kernel_rfl) rfl (by kernel_rfl) (by kernel_rfl) (by kernel_rfl) (fun _ _ _ h=>by cases h.1) (by rfl) (by assumption) ?_
    (try simp only[Act.put,List.getElem_toArray,List.getElem_cons_zero,List.getElem_cons_succ,List.setIfInBounds_toArray,List.set_cons_zero,List.set_cons_succ])
    refine wpAnyS_skipT (i:=14) (by kernel_rfl) (by kernel_rfl) rfl (by kernel_rfl) (by kernel_rfl) (by kernel_rfl) (fun _ _ _ h=>by cases h.1) (by rfl) (by assumption) ?_
    (try simp only[Act.put,List.getElem_toArray,List.getElem_cons_zero,List.getElem_cons_succ,List.setIfInBounds_toArray,List.set_cons_zero,List.set_cons_succ])
    refine wpAnyS_skipT (i:=15) (by kernel_rfl) (by kernel_rfl) rfl (by kernel_rfl) (by kernel_rfl) (by kernel_rfl) (fun _ _ _ h=>by cases h.1) (by rfl) (by assumption) ?_
    (try simp only[Act.put,List.getElem_toArray,List.getElem_cons_zero,List.getElem_cons_succ,List.setIfInBounds_toArray,List.set_cons_zero,List.set_cons_succ])
    refine wpAnyS_skipT (i:=16) (by kernel_rfl) (by kernel_rfl) rfl (by kernel_rfl) (by kernel_rfl) (by kernel_rfl) (fun _ _ _ h=>by cases h.1) (by rfl) (by assumption) ?_
    (try simp only[Act.put,List.getElem_toArray,List.getElem_cons_zero,List.getElem_cons_succ,List.setIfInBounds_toArray,List.set_cons_zero,List.set_cons_succ])
    refine wpAnyS_skipT (i:=17) (by kernel_rfl) (by kernel_rfl) rfl (by kernel_rfl) (by kernel_rfl) (by kernel_rfl) (fun _ _ _ h=>by cases h.1) (by rfl) (by assumption) ?_
    (try simp only[Act.put,List.getElem_toArray,List.getElem_cons_zero,List.getElem_cons_succ,List.setIfInBounds_toArray,List.set_cons_zero,List.set_cons_succ])
    refine wpAnyS_skipT (i:=18) (by kernel_rfl) (by kernel_rfl) rfl (by kernel_rfl) (by kernel_rfl) (by kernel_rfl) (fun _ _ _ h=>by cases h.1) (by rfl) (by assumption) ?_
    (try simp only[Act.put,List.getElem_toArray,List.getElem_cons_zero,List.getElem_cons_succ,List.setIfInBounds_toArray,List.set_cons_zero,List.set_cons_succ])
    refine wpAnyS_skipT (i:=19) (by kernel_rfl) (by kernel_rfl) rfl (by kernel_rfl) (by kernel_rfl) (by kernel_rfl) (fun _ _ _ h=>by cases h.1) (by rfl) (by assumption) ?_
    (try simp only[Act.put,List.getElem_toArray,List.getElem_cons_zero,List.getElem_cons_succ,List.setIfInBounds_toArray,List.set_cons_zero,List.set_cons_succ])
    have hdr:Below wr.heap.size wr wr.drew:=(Below.refl _ _).drew
    have HEd:Hid (EntsAt wr.drew g2 g2 q A n c p b xs l (.slice Av xs.length cv)):=Lib.hid (HE.out.below hdr)
    have H3d:Hid (Blk wr.drew g3 4 #[.bool false]):=Lib.hid H3.out
    have Hbd:=Lib.hid (Hb.out.trans (hdr.mono (by rw[Hg2.out];exact Hb.out.size)))
    clear hdr HE H3 Hb
    generalize wr.drew=w3 at *
    refine wpAnyS_only (i:=20) rfl (by kernel_rfl) (fun K hK=>?_)
    go_simp
    refine hK.out _ _ ⟨HEd.out.rdr,HEd.out.res⟩ (fun hHeld=>?_)
    clear hK K
    (try simp only[Act.put,List.getElem_toArray,List.getElem_cons_zero,List.getElem_cons_succ,List.setIfInBounds_toArray,List.set_cons_zero,List.set_cons_succ])
    refine wpAnyS_only (i:=21) rfl (by kernel_rfl) (fun K hK=>?_)
    go_simp
    refine hK.out _ _ ⟨HEd.out.rdr,HEd.out.res⟩ (fun hHeld=>?_)
    clear hK K
    (try simp only[Act.put,List.getElem_toArray,List.getElem_cons_zero,List.getElem_cons_succ,List.setIfInBounds_toArray,List.set_cons_zero,List.set_cons_succ])
    refine wpAnyS_takeT (i:=22) (v:=?vs22) (by kernel_rfl) (by kernel_rfl) rfl (by kernel_rfl) (by kernel_rfl) (by kernel_rfl) (fun _ _ _ h=>by cases h.1) (by rfl) (by assumption) ?hys22 ?rests22
    case hys22=>(intro W hSW;obtain⟨k0,k1,k2⟩:=cells3 hSW;go_simp;try with_reducible rfl)
    (try simp only[Act.put,List.getElem_toArray,List.getElem_cons_zero,List.getElem_cons_succ,List.setIfInBounds_toArray,List.set_cons_zero,List.set_cons_succ])
    refine wpAnyS_takeT (i:=23) (v:=?vs23) (by kernel_rfl) (by kernel_rfl) rfl (by kernel_rfl) (by kernel_rfl) (by kernel_rfl) (fun _ _ _ h=>by cases h.1) (by rfl) (by assumption) ?hys23 ?rests23
    case hys23=>(intro W hSW;obtain⟨k0,k1,k2⟩:=cells3 hSW;go_simp;try with_reducible rfl)
    (try simp only[Act.put,List.getElem_toArray,List.getElem_cons_zero,List.getElem_cons_succ,List.setIfInBounds_toArray,List.set_cons_zero,List.set_cons_succ])
    refine wpAnyS_skipT (i:=24) (by kernel_rfl) (by kernel_rfl) rfl (by kernel_rfl) (by kernel_rfl) (by kernel_rfl) (fun _ _ _ h=>by cases h.1) (by rfl) (by assumption) ?_
    (try simp only[Act.put,List.getElem_toArray,List.getElem_cons_zero,List.getElem_cons_succ,List.setIfInBounds_toArray,List.set_cons_zero,List.set_cons_succ])
    refine wpAnyS_skipT (i:=25) (by kernel_rfl) (by kernel_rfl) rfl (by kernel_rfl) (by kernel_rfl) (by kernel_rfl) (fun _ _ _ h=>by cases h.1) (by rfl) (by assumption) ?_
    (try simp only[Act.put,List.getElem_toArray,List.getElem_cons_zero,List.getElem_cons_succ,List.setIfInBounds_toArray,List.set_cons_zero,List.set_cons_succ])
    refine wpAnyS_skipT (i:=26) (by kernel_rfl) (by kernel_rfl) rfl (by kernel_rfl) (by kernel_rfl) (by kernel_rfl) (fun _ _ _ h=>by cases h.1) (by rfl) (by assumption) ?_
    (try simp only[Act.put,List.getElem_toArray,List.getElem_cons_zero,List.getElem_cons_succ,List.setIfInBounds_toArray,List.set_cons_zero,List.set_cons_succ])
    refine wpAnyS_last rfl (by kernel_rfl) (by kernel_rfl) (fun K hK=>?_)
    go_simp
    clear hHeld
    refine hK.out _ _ ⟨rfl,?_⟩
    clear hK K
    go_wp2_with fail
    go_meet
    case rel=>exact⟨by rw[Hn.out];simp[h4],HEd.out,H3d.out,Hbd.out⟩
  case rest=>
   obtain⟨rfl,he,h3,hb⟩:=hcut
   have HE:=Lib.hid he
   have H3:=Lib.hid h3
   have Hb:=Lib.hid hb
   clear he h3 hb
   by_cases hc:p+4≤b.length∧(b.drop p).take 4=signB∧l.length≤12
   ·rw[show decide (p+4≤b.length∧(b.drop p).take 4=signB∧l.length≤12)=true from decide_eq_true hc]
    have HR2:=Lib.hid (HRr.out.trans (if_pos hc))
    have hn0:0 < n:=by rw[←Hn.out];omega
    have hx12:xs.length≤12:=by rw[Hxl.out];exact hc.2.2
    clear hc HRr
    go_upto_region 4 with fail
    refine wp_stop [{ v:=.iface 108 (.agg #[]),recovered:=false }] [{ target:=.fn (.func 66) #[.pointer (some ⟨g2,0,none⟩),.pointer (some ⟨g3,0,none⟩)],args:=#[] }] (.pointer (some ⟨g2,0,none⟩)) (.pointer (some ⟨g3,0,none⟩)) (fun W=>R=none∧OutZ W g2 g2 g3 (.slice Av xs.length cv) (.bool false)∧Below g2 w W) ?hp ?hw
    case hp=>
     rintro a W hd h2 h3 ⟨hRn,hout,hbW⟩
     show Leaves Tryz.prog Tryz.f47 a.tmps _ a.defers (.panicking _) W
     rw[hd]
     refine leaves_cons (by simp) (f:=66) (args:=#[.pointer (some ⟨g2,0,none⟩),.pointer (some ⟨g3,0,none⟩)]) (by simp[go_sem]) ?_
     refine (catchz_panicking g2 g2 g3 _ _ [] W (by have:=hbW.size;rw[Hg2.out];exact this) hout).mono ?_
     rintro e u' w8 ⟨rfl,rfl,hout8,hb8⟩
     refine⟨_,results_z hout8 _ h2 h3,?_,?_⟩
     ·unfold EntsPost
      rw[hRn]
     ·rw[←Hg2.out]
      exact hbW.trans hb8
    case hw=>
     refine wp_region_S (fun W=>Blk W g2 76 #[.slice Av xs.length cv]) 5 (by kernel_rfl) ?_
     have hHeld:Blk wc.drew g2 76 #[.slice Av xs.length cv]:=HE.out.res
     have hdr:Below wc.heap.size wc wc.drew:=(Below.refl _ _).drew
     have HEd:Hid (EntsAt wc.drew g2 g2 q A n c p b xs l (.slice Av xs.length cv)):=Lib.hid (HE.out.below hdr)
     have H3d:Hid (Blk wc.drew g3 4 #[.bool false]):=Lib.hid H3.out
     have Hbd:=Lib.hid (Hb.out.trans (hdr.mono (by rw[Hg2.out];exact Hb.out.size)))
     clear hdr HE H3 Hb
     generalize wc.drew=w3 at *
     refine wpAnyS_takeT (i:=0) (v:=?ve0) (by kernel_rfl) (by kernel_rfl) rfl (by kernel_rfl) (by kernel_rfl) (by kernel_rfl) (fun _ _ _ h=>stop_put (by decide) (by decide) h) (by rfl) (by assumption) ?hye0 ?reste0
     case hye0=>(intro W hSW;have k2:=hSW.cell 0;go_simp;try with_reducible rfl)
     (try simp only[Act.put,List.getElem_toArray,List.getElem_cons_zero,List.getElem_cons_succ,List.setIfInBounds_toArray,List.set_cons_zero,List.set_cons_succ])
     refine wpAnyS_takeT (i:=1) (v:=?ve1) (by kernel_rfl) (by kernel_rfl) rfl (by kernel_rfl) (by kernel_rfl) (by kernel_rfl) (fun _ _ _ h=>stop_put (by decide) (by decide) h) (by rfl) (by assumption) ?hye1 ?reste1
     case hye1=>(intro W hSW;have k2:=hSW.cell 0;go_simp;try with_reducible rfl)
     (try simp only[Act.put,List.getElem_toArray,List.getElem_cons_zero,List.getElem_cons_succ,List.setIfInBounds_toArray,List.set_cons_zero,List.set_cons_succ])
     refine wpAnyS_only (i:=2) rfl (by kernel_rfl) (fun K hK=>?_)
     go_simp
     clear hHeld
     go_at_call 67
     refine (entry_any q A n c p b w3 HEd.out.rdr Hn.out hnc hcm HEd.out.pn hn0 HEd.out.low).mono ?_
     rintro e w4 ⟨hr,hk⟩
     have hs3:g2≤w3.heap.size:=by rw[Hg2.out];exact Hbd.out.size
     have HRes4:Hid (Blk w4 g2 76 #[.slice Av xs.length cv]):=Lib.hid (hk.blk HEd.out.res (by decide))
     have H34:Hid (Blk w4 g3 4 #[.bool false]):=Lib.hid (hk.blk H3d.out (by decide))
     have HO4:=Lib.hid (hk.own HEd.out.own (by decide))
     have HLow4:=Lib.hid (HEd.out.low.keeps hk)
     have Hb4:Hid (Below g2 w w4):=Lib.hid (Hbd.out.trans (hk.below.mono hgq.1))
     have hs4:g2≤w4.heap.size:=Nat.le_trans hs3 hk.size
     have hAll4:∀ y∈xs,ReadE w4 g2 A b y y.e:=fun y hy=>(HEd.out.all y hy).keeps hk (by decide)
     have His:=Lib.hid HEd.out.is
     cases hent:entR b p with
     | none=>
      rw[hent]at hr
      obtain rfl:e=stopZ:=hr
      unfold stopZ
      exact .inr ⟨rfl,⟨rfl,rfl,rfl⟩,by rw[HR2.out,hent];rfl,⟨Nat.le_refl _,hle3,HRes4.out,H34.out⟩,Hb4.out⟩
     | some y=>
      rw[hent]at hr
      obtain⟨xe,p2⟩:=y
      obtain⟨hp2,⟨x,rfl,hre⟩,hrd⟩:=hr
      dsimp only at hp2 hre hrd
      have HR4:Hid (R=entsR b f p2 (l++[xe])):=Lib.hid (by rw[HR2.out,hent];rfl)
      have HAll4:Hid (∀ y∈xs++[x],ReadE w4 g2 A b y y.e):=Lib.hid (fun y hy=>by
       rcases List.mem_append.1 hy with h | h
       ·exact hAll4 y h
       ·rw[List.mem_singleton.1 h,hre.is];exact readE_base hre hs3)
      have His4:Hid ((xs++[x]).map Ex.e=l++[xe]):=Lib.hid (by rw[List.map_append,His.out,List.map_cons,List.map_nil,hre.is])
      have HRd4:=Lib.hid hrd
      clear hre hrd hAll4 hk HEd H3d Hbd hent HR2
      have hheld4:=HRes4.out
      refine hK.out _ _ hheld4 (fun hHeld=>?_)
      clear hK K hheld4
      (try simp only[Act.put,List.getElem_toArray,List.getElem_cons_zero,List.getElem_cons_succ,List.setIfInBounds_toArray,List.set_cons_zero,List.set_cons_succ])
      unfold eV
      refine wpAnyS_only (i:=3) rfl (by kernel_rfl) (fun K hK=>?_)
      go_simp
      clear hHeld
      have hba:Below w4.heap.size w4 (w4.alloc (.cells #[.string (Name.strB x.e.f.name),slv x.bs,.int .i64 x.e.f.stamp,.int .i64 x.e.f.node,.bool x.e.f.gone,.int .i64 (x.e.method:Int),slv x.pk,.int .u32 (x.e.crc:Int),.int .i64 (x.at_:Int)] 78)):=(Below.refl _ _).alloc (Nat.le_refl _) _
      have HZ:Hid (SlAt (w4.alloc (.cells #[.string (Name.strB x.e.f.name),slv x.bs,.int .i64 x.e.f.stamp,.int .i64 x.e.f.node,.bool x.e.f.gone,.int .i64 (x.e.method:Int),slv x.pk,.int .u32 (x.e.crc:Int),.int .i64 (x.at_:Int)] 78)) (some ⟨w4.heap.size,0,none⟩) (eC x)):=Lib.hid (SlAt.of_heap (heap_alloc_new _ _) rfl)
      have hheld5:=HRes4.out.below hba HRes4.out.lt
      refine hK.out _ _ hheld5 (fun hHeld=>?_)
      clear hK K hheld5
      (try simp only[Act.put,List.getElem_toArray,List.getElem_cons_zero,List.getElem_cons_succ,List.setIfInBounds_toArray,List.set_cons_zero,List.set_cons_succ])
      have HRes5:=Lib.hid hHeld
      have H35:=Lib.hid (H34.out.below hba H34.out.lt)
      have HO5:=Lib.hid (own_keep HO4.out hba)
      have hk5:Keeps q rdrT w4 (w4.alloc (.cells #[.string (Name.strB x.e.f.name),slv x.bs,.int .i64 x.e.f.stamp,.int .i64 x.e.f.node,.bool x.e.f.gone,.int .i64 (x.e.method:Int),slv x.pk,.int .u32 (x.e.crc:Int),.int .i64 (x.at_:Int)] 78)):=Keeps.of_below hba (Nat.le_of_lt (Blk.lt HRd4.out))
      have HLow5:=Lib.hid (HLow4.out.keeps hk5)
      have HRd5:=Lib.hid (Blk.below HRd4.out hba (Blk.lt HRd4.out))
      have HAll5:Hid (∀ y∈xs++[x],ReadE (w4.alloc (.cells #[.string (Name.strB x.e.f.name),slv x.bs,.int .i64 x.e.f.stamp,.int .i64 x.e.f.node,.bool x.e.f.gone,.int .i64 (x.e.method:Int),slv x.pk,.int .u32 (x.e.crc:Int),.int .i64 (x.at_:Int)] 78)) g2 A b y y.e):=Lib.hid (fun y hy=>(HAll4.out y hy).keeps hk5 (by decide))
      have Hb5:=Lib.hid (Hb4.out.trans (hba.mono hs4))
      have hs5:=Nat.le_trans hs4 hba.size
      clear hHeld hba hk5 HRes4 H34 HO4 HLow4 HRd4 HAll4 Hb4
      generalize w4.heap.size=gx at *
      generalize w4.alloc (.cells #[.string (Name.strB x.e.f.name),slv x.bs,.int .i64 x.e.f.stamp,.int .i64 x.e.f.node,.bool x.e.f.gone,.int .i64 (x.e.method:Int),slv x.pk,.int .u32 (x.e.crc:Int),.int .i64 (x.at_:Int)] 78)=w5 at *
      refine wpAnyS_only (i:=4) rfl (by kernel_rfl) (fun K hK=>?_)
      rw[if_pos (by rfl)]
      refine oper_app (.tmp 37) (.tmp 40) _ rfl g2 78 _ 9 112 tyE _ xs.length (xs.flatMap eC) rfl HO5.out (some ⟨gx,0,none⟩) 1 1 (eC x) rfl rfl HZ.out (eC_one x) (by simp) (by unfold maxLen;omega) (by omega) hs5 ?_
      intro v6 w6 hown6 hg6 _
      have hk6:Keeps g2 entT w5 w6:=(Keeps.refl _ _ _).grown HO5.out hg6 (by simp[entT]) hs5
      have HRes6:=Lib.hid (hk6.blk HRes5.out (by decide))
      have H36:=Lib.hid (hk6.blk H35.out (by decide))
      have HLow6:Hid (LowAt w6 g2 A b):=Lib.hid (LowAt.keeps ⟨HLow5.out.at_,Hlow.out.low⟩ hk6)
      have HRd6:=Lib.hid (hk6.blk HRd5.out (by decide))
      have HAll6:Hid (∀ y∈xs++[x],ReadE w6 g2 A b y y.e):=Lib.hid (fun y hy=>(HAll5.out y hy).keeps hk6 (by decide))
      have Hb6:=Lib.hid (Hb5.out.trans hk6.below)
      have HO6:=Lib.hid hown6
      have hheld6:=HRes6.out
      refine hK.out _ _ hheld6 (fun hHeld=>?_)
      clear hK K hheld6 hHeld hg6 hk6 hown6 HRes5 H35 HO5 HLow5 HRd5 HAll5 Hb5 HZ
      (try simp only[Act.put,List.getElem_toArray,List.getElem_cons_zero,List.getElem_cons_succ,List.setIfInBounds_toArray,List.set_cons_zero,List.set_cons_succ])
      obtain⟨A6,c6,rfl,_⟩:=own_slat HO6.out
      have k2:=HRes6.out.cell 0
      have z2:=HRes6.out.frozen 0
      refine wpAnyS_last rfl (by kernel_rfl) (by kernel_rfl) (fun K hK=>?_)
      go_simp
      clear k2 z2
      have hk7:Keeps g2 outT w6 (w6.setCell ⟨g2,0,none⟩ (.slice A6 (xs.length+1) c6)):=(Keeps.refl _ _ _).setBlk HRes6.out (by simp[outT]) (Nat.le_refl _) 0 _
      have HRes7:Hid (Blk (w6.setCell ⟨g2,0,none⟩ (.slice A6 (xs.length+1) c6)) g2 76 #[.slice A6 (xs.length+1) c6]):=Lib.hid (HRes6.out.set_ 0 (.slice A6 (xs.length+1) c6))
      have H37:=Lib.hid (H36.out.far (p:=⟨g2,0,none⟩) (blk_ne H36.out HRes6.out (by decide)) (.slice A6 (xs.length+1) c6))
      have HLow7:=Lib.hid (HLow6.out.keeps hk7)
      have HRd7:=Lib.hid (hk7.blk HRd6.out (by decide))
      have HAll7:Hid (∀ y∈xs++[x],ReadE (w6.setCell ⟨g2,0,none⟩ (.slice A6 (xs.length+1) c6)) g2 A b y y.e):=Lib.hid (fun y hy=>(HAll6.out y hy).keeps hk7 (by decide))
      have Hb7:=Lib.hid (Hb6.out.trans hk7.below)
      have HO7:=Lib.hid (hk7.own HO6.out (by decide))
      clear hk7 HRes6 H36 HLow6 HRd6 HAll6 Hb6 HO6
      refine hK.out _ _ (.inl ⟨rfl,?_⟩)
      clear hK K
      generalize w6.setCell ⟨g2,0,none⟩ (.slice A6 (xs.length+1) c6)=w7 at *
      go_wp2_with fail
      go_roundw
      case rel=>exact⟨f,p2,xs++[x],l++[xe],_,by rw[List.length_append,List.length_cons,List.length_nil];omega,by rw[List.length_append,List.length_cons,List.length_nil,←Hxl.out];omega,HR4.out,⟨HRd7.out,hp2,⟨HLow7.out.at_,fun a o e hp=>Nat.lt_of_lt_of_le (HLow7.out.low a o e hp) hgq.1⟩,HRes7.out,by rw[List.length_append,List.length_cons,List.length_nil,List.flatMap_append,List.flatMap_cons,List.flatMap_nil,List.append_nil];exact HO7.out,His4.out,HAll7.out⟩,H37.out,Hb7.out⟩
      case measure=>rw[HRes7.out.cell 0,Hwc.out];simp;omega
   ·rw[show decide (p+4≤b.length∧(b.drop p).take 4=signB∧l.length≤12)=false from decide_eq_false hc]
    have HR2:=Lib.hid (HRr.out.trans (if_neg hc))
    clear hc HRr
    have hok:=ents_ok (HR.out.symm.trans HR2.out)
    have Hok:=Lib.hid hok
    have hxl13:xs.length≤13:=by rw[Hxl.out];exact hok.count
    clear hok
    go_upto_region 5 with fail
    refine wp_calm ?_
    refine wp_region_S (fun W=>Blk W g2 76 #[.slice Av xs.length cv]) 6 (by kernel_rfl) ?_
    have hHeld:Blk wc.drew g2 76 #[.slice Av xs.length cv]:=HE.out.res
    have hdr:Below wc.heap.size wc wc.drew:=(Below.refl _ _).drew
    have HEd:Hid (EntsAt wc.drew g2 g2 q A n c p b xs l (.slice Av xs.length cv)):=Lib.hid (HE.out.below hdr)
    have H3d:Hid (Blk wc.drew g3 4 #[.bool false]):=Lib.hid H3.out
    have Hbd:=Lib.hid (Hb.out.trans (hdr.mono (by rw[Hg2.out];exact Hb.out.size)))
    clear hdr HE H3 Hb
    generalize wc.drew=w3 at *
    refine wpAnyS_takeT (i:=0) (v:=?vz0) (by kernel_rfl) (by kernel_rfl) rfl (by kernel_rfl) (by kernel_rfl) (by kernel_rfl) (fun _ _ _ h=>by cases h.1) (by rfl) (by assumption) ?hyz0 ?restz0
    case hyz0=>(intro W hSW;have k2:=hSW.cell 0;go_simp;try with_reducible rfl)
    (try simp only[Act.put,List.getElem_toArray,List.getElem_cons_zero,List.getElem_cons_succ,List.setIfInBounds_toArray,List.set_cons_zero,List.set_cons_succ])
    refine wpAnyS_takeT (i:=1) (v:=?vz1) (by kernel_rfl) (by kernel_rfl) rfl (by kernel_rfl) (by kernel_rfl) (by kernel_rfl) (fun _ _ _ h=>by cases h.1) (by rfl) (by assumption) ?hyz1 ?restz1
    case hyz1=>(intro W hSW;have k2:=hSW.cell 0;go_simp;try with_reducible rfl)
    (try simp only[Act.put,List.getElem_toArray,List.getElem_cons_zero,List.getElem_cons_succ,List.setIfInBounds_toArray,List.set_cons_zero,List.set_cons_succ])
    refine wpAnyS_takeT (i:=3) (v:=?vz3) (by kernel_rfl) (by kernel_rfl) rfl (by kernel_rfl) (by kernel_rfl) (by kernel_rfl) (fun _ _ _ h=>by cases h.1) (by rfl) (by assumption) ?hyz3 ?restz3
    case hyz3=>(intro W hSW;have k2:=hSW.cell 0;go_simp;try with_reducible rfl)
    (try simp only[Act.put,List.getElem_toArray,List.getElem_cons_zero,List.getElem_cons_succ,List.setIfInBounds_toArray,List.set_cons_zero,List.set_cons_succ])
    have hgd:∀ x∈xs,Good x.e:=fun x hx=>Hok.out.good x.e (by rw[←HEd.out.is];exact List.mem_map_of_mem hx)
    have hpp:∀ x∈xs,EntP g2 w3 x:=fun x hx=>(HEd.out.all x hx).entP ⟨HEd.out.low.at_,Hlow.out.low⟩
    have hlz:(laidB (esOf xs)).length≤1000000:=by
     rw[show esOf xs=l from HEd.out.is]
     exact laid_small Hok.out (by rw[Hn.out];exact h12)
    have HAr:=Lib.hid (archive_any g2 (.slice Av xs.length cv) xs w3 (by rw[Hg2.out];exact Hbd.out.size) HEd.out.own hgd hpp hxl13 hlz)
    clear hgd hpp hlz
    refine wpAnyS_only (i:=2) rfl (by kernel_rfl) (fun K hK=>?_)
    go_simp
    clear hHeld
    go_at_call 46
    refine (HAr.out).mono ?_
    rintro e w4 ⟨⟨vb,rfl,hob⟩,ho4,hk4⟩
    rw[show esOf xs=l from HEd.out.is]at hob
    have HO4:=Lib.hid ho4
    have HD4:Hid (ByAt w4 A b):=Lib.hid ((LowAt.keeps (q:=g2) (T:=entT) ⟨HEd.out.low.at_,Hlow.out.low⟩ hk4.toKeeps).at_)
    have HRe4:Hid (∀ x∈xs,ReadE w4 g2 A b x x.e):=Lib.hid (fun x hx=>(HEd.out.all x hx).keeps hk4.toKeeps (by decide))
    have HOut4:Hid (OutZ w4 g2 g2 g3 (.slice Av xs.length cv) (.bool false)):=Lib.hid ⟨Nat.le_refl _,hle3,hk4.blk HEd.out.res (by decide),hk4.blk H3d.out (by decide)⟩
    have Hb4:=Lib.hid (Hbd.out.trans hk4.toBelow)
    have His:=Lib.hid HEd.out.is
    obtain⟨Ab,cb,rfl,hb1,hb2,hb3,hb4⟩:=hob.slice
    have HS4:Hid (ByAt w4 Ab (laidB l)):=Lib.hid hb3
    have hheld4:=HOut4.out.b2
    clear hob ho4 hk4 hb3 hb4 HEd H3d Hbd
    refine hK.out _ _ hheld4 (fun hHeld=>?_)
    clear hK K hheld4
    (try simp only[Act.put,List.getElem_toArray,List.getElem_cons_zero,List.getElem_cons_succ,List.setIfInBounds_toArray,List.set_cons_zero,List.set_cons_succ])
    obtain⟨Ll,hLl⟩:∃ L,L=laidB l:=⟨_,rfl⟩
    rw[←hLl]at HS4⊢
    have HLl:=Lib.hid hLl
    clear hLl hb1
    obtain⟨nl,hnl⟩:∃ n,n=Ll.length:=⟨_,rfl⟩
    rw[←hnl]
    have Hnl:=Lib.hid hnl
    clear hnl
    refine wpAnyS_only (i:=4) rfl (by kernel_rfl) (fun K hK=>?_)
    go_simp
    clear hHeld
    go_at_call 22
    refine (equal_bytes Ab A nl n cb c Ll b w4 Hnl.out.symm Hn.out HS4.out HD4.out).mono ?_
    rintro e w5 ⟨rfl,rfl⟩
    have hheld4:=HOut4.out.b2
    refine hK.out _ _ hheld4 (fun hHeld=>?_)
    clear hK K
    (try simp only[Act.put,List.getElem_toArray,List.getElem_cons_zero,List.getElem_cons_succ,List.setIfInBounds_toArray,List.set_cons_zero,List.set_cons_succ])
    obtain⟨ob,hob⟩:∃ ob,ob=decide (Ll=b):=⟨_,rfl⟩
    rw[←hob]
    have Hob:=Lib.hid hob
    clear hob hheld4
    have k2:=hHeld.cell 0
    have z2:=hHeld.frozen 0
    refine wpAnyS_only (i:=5) rfl (by kernel_rfl) (fun K hK=>?_)
    go_simp
    clear hHeld k2 z2
    have HOut5:=Lib.hid (HOut4.out.s2 (.slice Av xs.length cv))
    have HK5:Hid (Keeps g2 outT w5 (w5.setCell ⟨g2,0,none⟩ (.slice Av xs.length cv))):=Lib.hid ((Keeps.refl _ _ _).setBlk HOut4.out.b2 (by simp[outT]) (Nat.le_refl _) 0 _)
    refine hK.out _ _ HOut5.out.b2 (fun hHeld=>?_)
    clear hK K
    (try simp only[Act.put,List.getElem_toArray,List.getElem_cons_zero,List.getElem_cons_succ,List.setIfInBounds_toArray,List.set_cons_zero,List.set_cons_succ])
    have k3:=HOut5.out.b3.cell 0
    have z3:=HOut5.out.b3.frozen 0
    refine wpAnyS_last rfl (by kernel_rfl) (by kernel_rfl) (fun K hK=>?_)
    go_simp
    clear hHeld k3 z3
    have HOut6:=Lib.hid (HOut5.out.s3 (.bool ob))
    have HK6:=Lib.hid (HK5.out.setBlk HOut5.out.b3 (by simp[outT]) hle3 0 (.bool ob))
    refine hK.out _ _ ⟨rfl,?_⟩
    clear hK K HOut4 HOut5 HK5
    go_wp2_with fail
    refine leaves_cons (f:=66) (args:=#[.pointer (some ⟨g2,0,none⟩),.pointer (some ⟨g3,0,none⟩)]) (by simp) (by simp[go_sem]) ?_
    refine (catchz_idle g2 g3 _).mono ?_
    rintro e u' w8 ⟨rfl,rfl,rfl⟩
    refine⟨_,results_z HOut6.out _ rfl rfl,?_,?_⟩
    ·unfold EntsPost
     rw[HR2.out]
     dsimp only
     rw[←HLl.out,←Hob.out,←Hg2.out]
     exact⟨xs,_,rfl,His.out,HK6.out.own HO4.out (by decide),fun x hx=>(HRe4.out x hx).keeps HK6.out (by decide)⟩
    ·rw[←Hg2.out]
     exact Hb4.out.trans HK6.out.below
end Go.Proofs.YtabdianhoabhhaaGreatDoor.Zip
