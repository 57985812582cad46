/- texts joined: ZipMore QuietTail MergeChk4 ZipPut ZipEnts. -/
import Derived.Test.YtabdianhoabhhaaGreatDoorShelfKeepsQ8
import Derived.StillTail
import Derived.Deep.QuietTactic
import Derived.Test.YtabdianhoabhhaaGreatDoorShelfKeepsQ1
import Derived.Test.YtabdianhoabhhaaGreatDoorShelfKeepsQ7
import Derived.Lib.BytesEntry
import Derived.Laws.BytesArg
import Derived.Shelf.Bytes.SlSmallAll
import Derived.BigQuiet
import Derived.IntWalk
import Derived.Laws.Cover1
import Derived.Test.YtabdianhoabhhaaGreatDoorShelfKeepsQ9
import Derived.Deep.CutRange
open List renaming getElem_toArray→l0A,getElem_cons_zero→l0B,getElem_cons_succ→l0C,setIfInBounds_toArray→l0D,set_cons_zero→l0E,set_cons_succ→l0F
namespace Go.Proofs.YtabdianhoabhhaaGreatDoor.Zip
open Go.Proofs.YtabdianhoabhhaaGreatDoor.Merge Go.Proofs.YtabdianhoabhhaaGreatDoor.Inf
set_option linter.unusedVariables false
def YS (b:List UInt8) (e:Dp):Prop:=e.packed.length≤b.length∧e.f.name.length≤b.length
theorem Ur {b:List UInt8}:∀ (f p:Nat) (done l:List Dp),Dt b f p done=some l→(∀ e∈done,YS b e)→∀ e∈l,YS b e
 | 0,p,done,l,h,hd=>by
  unfold Dt at h
  injection h with h
  subst h;exact hd
 | f+1,p,done,l,h,hd=>by
  unfold Dt at h
  split at h
  ·obtain⟨⟨x,q⟩,h1,h2⟩:=CG h
   refine Ur f q (done++[x]) l h2 fun e he=>?_
   rcases List.mem_append.1 he with he | he
   ·exact hd e he
   ·rw[List.mem_singleton]at he
    subst he
    exact⟨(Us h1).2.2.2.1,(Us h1).2.2.2.2⟩
  ·injection h with h
   subst h;exact hd
theorem Ut {b:List UInt8}:∀ (f p:Nat) (done l:List Dp),Dt b f p done=some l→done.length≤13→l.length≤13
 | 0,p,done,l,h,hd=>by
  unfold Dt at h
  injection h with h
  subst h;exact hd
 | f+1,p,done,l,h,hd=>by
  unfold Dt at h
  split at h
  ·rename_i hc
   obtain⟨⟨x,q⟩,h1,h2⟩:=CG h
   refine Ut f q (done++[x]) l h2 ?_
   rw[List.length_append,List.length_cons,List.length_nil]
   have:=hc.2.2
   omega
  ·injection h with h
   subst h;exact hd
structure Uu (b:List UInt8) (l:List Dp):Prop where
 good:∀ e∈l,Good e
 small:∀ e∈l,YS b e
 count:l.length≤13
theorem lD {b:List UInt8} {l:List Dp} (h:Dt b 14 0 []=some l):Uu b l:=
 ⟨NR 14 0 [] l h (fun e h=>by cases h),Ur 14 0 [] l h (fun e h=>by cases h),Ut 14 0 [] l h (by simp)⟩
theorem iK {b:List UInt8} {l:List Dp} (h:Uu b l) (hb:b.length≤12000):(laidB l).length≤1000000:=by
 have key:∀ l:List Dp,(∀ e∈l,YS b e)→(l.map KY).sum≤36098*l.length:=by
  intro l
  induction l with
  | nil=>intro _;exact Nat.le_refl _
  | cons e l ih=>
   intro h
   have h1:=ih fun x hx=>h x (List.mem_cons_of_mem _ hx)
   obtain⟨h2,h3⟩:=h e (List.mem_cons_self ..)
   have hs:KY e=98+2*e.f.name.length+e.packed.length:=rfl
   rw[List.map_cons,List.sum_cons,List.length_cons,hs]
   omega
 rw[KX]
 have h1:=key l h.small
 have h2:=h.count
 omega
theorem Uu.bytes {b:List UInt8} {l:List Dp} (h:Uu b l) (hb:b.length≤12000):∀ e∈l,e.f.bytes.length≤12000:=fun e he=>by
 have h1:=Wt (h.good e he).bytes
 have h2:=(h.small e he).1
 omega
def Kh (b:List UInt8):Bool×List Dp:=match Dt b 14 0 [] with
 | none=>(false,[])
 | some l=>(decide (laidB l=b),l)
theorem zV (b:List UInt8):Uu b (Kh b).2:=by
 unfold Kh
 cases h:Dt b 14 0 [] with
 | none=>exact⟨(fun e h=>by cases h),(fun e h=>by cases h),by simp⟩
 | some l=>exact lD h
def RI (l:List Dp):Bool:=l.all fun e=>GR e.f.bytes == e.crc
theorem iL (l:List Dp) (e:Dp):RI (l++[e])=(RI l && GR e.f.bytes == e.crc):=by simp[RI]
theorem Ws {b:List UInt8} (h:12000 < b.length):Dl b=.bad 2:=by unfold Dl;rw[if_pos h]
theorem lG {b:List UInt8} (h:¬ 12000 < b.length):Dl b=if (Kh b).1=false then .bad 7 else if Bb ((Kh b).2.map Dp.f)≠0 then .bad 7 else if RI (Kh b).2=true then .ok ((Kh b).2.map Dp.f) else .bad 10:=by
 unfold Dl Kh RI
 rw[if_neg h]
 cases Dt b 14 0 [] with
 | none=>rfl
 | some l=>
  dsimp only
  by_cases h1:laidB l=b
  ·rw[if_neg (show ¬ decide (laidB l=b)=false by simp[h1])]
   by_cases h2:Bb (l.map Dp.f)≠0
   ·rw[if_pos (.inr h2),if_pos h2]
   ·rw[if_neg (by rintro (h | h);exact h h1;exact h2 h),if_neg h2]
  ·rw[if_pos (.inl h1),if_pos (by simp[h1])]
end Go.Proofs.YtabdianhoabhhaaGreatDoor.Zip
namespace Go.Proofs.YtabdianhoabhhaaGreatDoor
open Go Go.RowKit
set_option linter.unusedVariables false
section
variable {P:Program} {ops:Array Oper} {md:Region.Mode} {C:World→Prop}
def wpAnyH (P:Program) (md:Region.Mode) (ops:Array Oper) (C:World→Prop) (n:Nat) (L:Array Bool→Act→Prop):Nat→Array Bool→Act→Prop
 | 0,listed,a=>L listed a
 | f+1,listed,a=>Region.ready md ops listed≠[]∧∀ i∈Region.ready md ops listed,i < n∧qOp P ops C i (wpAnyH P md ops C n L f (listed.setIfInBounds i true)) a
theorem Mr {n g:Nat} {L:Array Bool→Act→Prop} {Q':Exit→Act→World→Prop} (hL:∀ listed a w,C w→L listed a→wpAny P md ops Q' g listed a w) :
  ∀ (f:Nat) (listed:Array Bool) (a:Act) (w:World),C w→wpAnyH P md ops C n L f listed a→wpAny P md ops Q' (f+g) listed a w
 | 0,listed,a,w,hw,h=>by rw[Nat.zero_add];exact hL _ _ _ hw h
 | f+1,listed,a,w,hw,h=>by
  rw[show f+1+g=(f+g)+1 by omega]
  exact⟨fun h0=>absurd h0 h.1,fun i hi=>wpOp_of_qOp hw (fun a' w' hw' h'=>Mr hL f _ a' w' hw' h') (h.2 i hi).2⟩
theorem wpAnyH_first {n i:Nat} {oi:Oper} {v:Value} {L:Array Bool→Act→Prop} (hi:ops[i]?=some oi) (hsel:∀ (j:Nat) (o:Oper) cs b,ops[j]?=some o→o.op≠.select cs b)
  (hs:Region.sinkB md ops n=true) (hc:Region.chainB md ops n=true) (hn:n < ops.size) (hin:i < n)
  (hdone:∀ listed a,L listed a→∀ j∈Region.ready md ops listed,n≤j) :
  ∀ (f:Nat) (listed:Array Bool) (a:Act),HeadInv md ops n listed→
   (∀ j oj,ops[j]?=some oj→j≠i→listed.getD j true=false→(∀ e∈oj.after,Region.binds md e=true→e.on≠i)→oi.apart ops oj=true)→
   i∈Region.ready md ops listed→YieldsIn P ops C oi v a→
   wpAnyH P md ops C n L f (listed.setIfInBounds i true) (a.put oi.dst v)→wpAnyH P md ops C n L (f+1) listed a:=by
 intro f
 induction f with
 | zero=>
  intro listed a inv _ hr hy H
  have hun:=(mem_ready.1 hr).1
  refine⟨fun h=>(by rw[h]at hr;cases hr),fun j hj=>?_⟩
  have hjn:j < n:=by
   rcases Nat.lt_or_ge j n with h | h
   ·exact h
   ·exact absurd hj (tail_waits hs hc hn inv _ i rfl hin hun j h)
  refine⟨hjn,?_⟩
  by_cases hji:j=i
  ·subst hji;exact hy.qOp hi H
  ·have:=hdone _ _ H j (ready_mono hj hji)
   omega
 | succ f ih=>
  intro listed a inv hfree hr hy H
  have hun:=(mem_ready.1 hr).1
  refine⟨fun h=>(by rw[h]at hr;cases hr),fun j hj=>?_⟩
  have hjn:j < n:=by
   rcases Nat.lt_or_ge j n with h | h
   ·exact h
   ·exact absurd hj (tail_waits hs hc hn inv _ i rfl hin hun j h)
  refine⟨hjn,?_⟩
  by_cases hji:j=i
  ·subst hji;exact hy.qOp hi H
  ·have h1:=(H.2 j (ready_mono hj hji)).2
   obtain⟨hjun,oj,hoj,hall⟩:=mem_ready.1 hj
   have hnot:∀ e∈oj.after,Region.binds md e=true→e.on≠i:=fun e he hb heq=>by
    have h1:=hall e he hb
    rw[heq,getD_both hun]at h1
    cases h1
   have h2:=qOp_put hoj (hfree j oj hoj hji hjun hnot) (fun cs b=>hsel i oi cs b hi) (fun cs b=>hsel j oj cs b hoj) hy h1
   have hfree':∀ k ok,ops[k]?=some ok→k≠i→(listed.setIfInBounds j true).getD k true=false→
     (∀ e∈ok.after,Region.binds md e=true→e.on≠i)→oi.apart ops ok=true:=fun k ok hk hki hun hno=>by
    refine hfree k ok hk hki ?_ hno
    by_cases hjk:j=k
    ·subst hjk;exact hjun
    ·rw[getD_set_ne true hjk]at hun;exact hun
   refine qOp_mono (fun a' h3=>ih (listed.setIfInBounds j true) a' (inv.set hj hjn) hfree' (ready_mono hr (Ne.symm hji)) h3.1 ?_) h2
   rw[Array.setIfInBounds_comm _ _ hji]
   exact h3.2
theorem Tm {n g:Nat} {Lq:Act→Prop} (hsel:Region.noSelect ops=true) (hs:Region.sinkB md ops n=true) (hc:Region.chainB md ops n=true) (hn:n < ops.size) :
  ∀ (l:List Oper) (k:Nat) (listed:Array Bool) (a:Act),(∀ j,j < l.length→l[j]?=ops[k+j]?)→k+l.length=n→HeadInv md ops n listed→
  Region.lexHead md ops g l.length k listed=true→wpQuiet P ops C Lq l a→
  wpAnyH P md ops C n (fun listed' a'=>Region.seqB md ops g n listed'=true∧Lq a') l.length listed a
 | [],k,listed,a,_,hk,_,hB,h=>by
  have:k=n:=by simpa using hk
  subst this
  exact⟨by simpa [Region.lexHead] using hB,h⟩
 | o :: l,k,listed,a,hl,hk,inv,hB,h=>by
  have h0:ops[k]?=some o:=by simpa using (hl 0 (by simp)).symm
  simp only[List.length_cons,Region.lexHead,Bool.and_eq_true]at hB
  obtain⟨⟨hr,hf⟩,hB'⟩:=hB
  have hkn:k < n:=by simp only[List.length_cons]at hk;omega
  have hr':k∈Region.ready md ops listed:=by simpa using hr
  have hst:qOp P ops C k (wpQuiet P ops C Lq l) a:=by unfold qOp;simp only[h0];exact h
  obtain⟨v,hy,hK⟩:=yieldsIn_of_qOp h0 hst
  exact wpAnyH_first h0 (Region.noSelect_spec hsel) hs hc hn hkn (fun listed' a' hL=>seqB_ready hL.1) l.length listed a inv (Region.free_spec h0 hf) hr' hy
   (Tm hsel hs hc hn l (k+1) _ _ (fun j hj=>by have:=hl (j+1) (by simp;omega);simpa [Nat.add_assoc,Nat.add_comm 1 j] using this) (by simp only[List.length_cons]at hk;omega) (inv.set hr' hkn) hB' hK)
theorem Ms {id:Nat} {Q:Exit→Act→World→Prop} {a:Act} {w:World} {l:List Oper} (n:Nat) (hm:P.follows .mixedOrders=true) (hB:Region.lexTailB .any l.toArray n=true) (hC:C { w with drawn:=w.drawn+1 })
  (h:wpQuiet P l.toArray C (fun a'=>∀ w',C w'→wpList P l.toArray Q (l.drop n) a' w') (l.take n) a):(Code.region id l.toArray true).wp P Q a w:=by
 simp only[Region.lexTailB,Bool.and_eq_true,decide_eq_true_eq]at hB
 obtain⟨⟨⟨⟨hsel,hn⟩,hs⟩,hc⟩,hlex⟩:=hB
 have hn':n < l.length:=by simpa using hn
 have htl:(l.take n).length=n:=by simp;omega
 have hdl:(l.drop n).length=l.toArray.size - n:=by simp
 have inv0:HeadInv .any l.toArray n (Array.replicate l.toArray.size false):=
  ⟨by simp,fun j oj _ hl=>(by rw[getD_replicate_false]at hl;cases hl),fun t _ ht=>getD_in (by simpa using ht) (getD_replicate_false _ _)⟩
 have H:=Tm (C:=C) (md:=.any) (g:=l.toArray.size - n) hsel hs hc hn (l.take n) 0 _ a (fun j hj=>by
  have hj':j < n:=by rw[htl]at hj;exact hj
  simp[hj']) (by simpa using htl) inv0 (by rw[htl];exact hlex) h
 refine wp_region_any hm ?_
 have:=Mr (Q':=Q) (g:=l.toArray.size - n) (fun listed a' w' hw' hL=>by
  have:=wpAny_of_seq (md:=.any) (Q':=Q) (l.drop n) n listed a' w' (fun j=>by simp[List.getElem?_drop]) (by rw[hdl];exact hL.1) (hL.2 w' hw')
  rwa [hdl]at this) _ _ _ _ hC H
 rw[htl,show n+(l.toArray.size - n)=l.toArray.size by omega]at this
 exact this
end
structure Ap (w0:World) where
 w:World
 h:Below w0.heap.size w0 w
instance (w0:World):Inhabited (Ap w0):=⟨⟨w0,Below.refl _ _⟩⟩
theorem Ap.cell {w0:World} {a:Addr} {v:Value} (h:w0.cell? a=some v) (p:Ap w0):p.w.cell? a=some v:=cell_below p.h h
theorem Jv {P:Program} {f:FuncId} {args:Array Value} {w0:World} {p:Ap w0} {v:Value}
  (h:Calls P f args p.w fun e w'=>e=.returned v∧Below p.w.heap.size p.w w'):Calls P f args p.w fun e w'=>e=.returned v∧∃ q:Ap w0,w'=q.w:=
 h.mono fun e w' ⟨he,hb⟩=>⟨he,⟨w',p.h.trans (hb.mono p.h.size)⟩,rfl⟩
theorem LG {P:Program} {f:FuncId} {args:Array Value} {w0:World} {p:Ap w0} {v:Value}
  (h:Calls P f args p.w fun e w'=>e=.returned v∧w'=p.w):Calls P f args p.w fun e w'=>e=.returned v∧∃ q:Ap w0,w'=q.w:=
 h.mono fun e w' ⟨he,hb⟩=>⟨he,p,hb⟩
theorem Mo {P:Program} {id:Nat} {Q:Exit→Act→World→Prop} {a:Act} {w:World} {l:List Oper} (n:Nat) (hm:P.follows .mixedOrders=true) (hB:Region.lexTailB .any l.toArray n=true)
  (h:wpQuiet P l.toArray (fun w'=>∃ p:Ap w,w'=p.w) (fun a'=>∀ w',(∃ p:Ap w,w'=p.w)→wpList P l.toArray Q (l.drop n) a' w') (l.take n) a):(Code.region id l.toArray true).wp P Q a w:=
 Ms (C:=fun w'=>∃ p:Ap w,w'=p.w) n hm hB ⟨⟨{ w with drawn:=w.drawn+1 },⟨rfl,rfl,rfl,Nat.le_refl _,fun _ _=>rfl⟩⟩,rfl⟩ h
theorem Lp {P:Program} {id:Nat} {Q:Exit→Act→World→Prop} {a:Act} {w:World} {l:List Oper} (hm:P.follows .mixedOrders=true) (hB:Region.lexB .any l.toArray=true)
  (h:wpQuiet P l.toArray (fun w'=>∃ p:Ap w,w'=p.w) (fun a'=>∀ w',(∃ p:Ap w,w'=p.w)→Q .normal a' w') l a):(Code.region id l.toArray true).wp P Q a w:=
 wp_region_quiet (C:=fun w'=>∃ p:Ap w,w'=p.w) hm hB ⟨⟨{ w with drawn:=w.drawn+1 },⟨rfl,rfl,rfl,Nat.le_refl _,fun _ _=>rfl⟩⟩,rfl⟩ (by simpa using h)
end Go.Proofs.YtabdianhoabhhaaGreatDoor
namespace Go.Proofs.YtabdianhoabhhaaGreatDoor.Merge
open Go Go.RowKit Go.Proofs.YtabdianhoabhhaaGreatDoor Go.Proofs.YtabdianhoabhhaaGreatDoor.Name
set_option linter.unusedVariables false
theorem bytesOf_map (xs:List UInt8):Lib.bytesOf (xs.map n8)=xs:=by
 unfold Lib.bytesOf
 rw[List.map_map]
 conv=>rhs;rw[←List.map_id xs]
 apply List.map_congr_left
 intro x _
 exact Zq x
theorem Q5 {P:Program} {w:World} {A:Option Addr} {xs:List UInt8} (n c:Nat) (hn:n=xs.length) (h:BI w A xs):(Extern.Bytes.bytesOf (.slice A n c)).run P w=.ok (Name.AR xs) w:=by
 subst hn
 by_cases h0:xs=[]
 ·subst h0
  cases A with
  | none=>rfl
  | some a=>rfl
 ·obtain⟨b,o,rfl,hc⟩:=h (by simpa using List.length_pos_iff.2 h0)
  have hl:=Lib.run_loadBytesX (P:=P) w (xs.map n8) ⟨b,o,none⟩ .empty (fun j x hj=>by
   rw[addr_add]
   refine hc j _ ?_
   rw[List.getElem?_map]at hj⊢
   cases hx:xs[j]? with
   | none=>rw[hx]at hj;cases hj
   | some y=>rw[hx]at hj;injection hj with hj;subst hj;rfl)
  rw[List.length_map,bytesOf_map]at hl
  have he:(⟨ByteArray.empty.data++xs.toArray⟩:ByteArray)=Name.AR xs:=by
   apply ByteArray.ext
   show (#[]:Array UInt8)++xs.toArray=xs.toArray
   simp
  rw[he]at hl
  exact hl
theorem PK {P:Program} {w:World} {A B:Option Addr} {xs ys:List UInt8} (n c m d:Nat) (hn:n=xs.length) (hm:m=ys.length) (h1:BI w A xs) (h2:BI w B ys) :
  (Extern.BytealgCompare.compare #[.slice A n c,.slice B m d]).run P w=.ok (.int .i64 (cb xs ys)) w:=by
 change Sem.run P (do pure (goInt (Extern.BytealgCompare.cmp (←Extern.Bytes.bytesOf (.slice A n c)) (←Extern.Bytes.bytesOf (.slice B m d))))) w=_
 simp only[Sem.run_bind,Q5 n c hn h1,Q5 m d hm h2,Sem.run_pure,Result.andThen]
 rw[Lib.cmp_eq,Ej,Ej]
 rfl
set_option maxRecDepth 100000 in
set_option maxHeartbeats 400000 in
theorem QN (A B:Option Addr) (n c m d:Nat) (xs ys:List UInt8) (w:World) (hn:n=xs.length) (hm:m=ys.length) (h1:BI w A xs) (h2:BI w B ys) :
  Calls Tryz.prog 114 #[.slice A n c,.slice B m d] w fun e w'=>e=.returned (.int .i64 (cb xs ys))∧w'=w:=by
 have Hr:=Lib.hid (PK (P:=Tryz.prog) n c m d hn hm h1 h2)
 clear hn hm h1 h2
 go_enter Tryz.func114,Tryz.ntmps114
 go_wp2_with fail
 rw[run_callFunc_extern Tryz.func142 (by kernel_rfl) (by kernel_rfl) (by kernel_rfl) (e:=Extern.BytealgCompare.compare) (by kernel_rfl),Hr.out]
 simp only[Result.andThen]
 rw[Oper.upon_value]
 go_wp2_with fail
 go_ret
 exact⟨rfl,rfl⟩
set_option maxRecDepth 100000 in
set_option maxHeartbeats 400000 in
theorem OG (a b:List UInt8) (w:World) :
  Calls Tryz.prog 75 #[.string (Name.AR a),.string (Name.AR b)] w fun e w'=>e=.returned (.int .i64 (cb a b))∧w'=w:=by
 have Hr:=Lib.hid (Lib.run_compareString (P:=Tryz.prog) (Name.AR a) (Name.AR b) w)
 go_enter Tryz.func75,Tryz.ntmps75
 go_wp2_with (first | go_in)
 rw[run_callFunc_extern Tryz.func140 (by kernel_rfl) (by kernel_rfl) (by kernel_rfl) (e:=Extern.BytealgCompare.compare) (by kernel_rfl),Hr.out]
 simp only[Result.andThen]
 rw[Oper.upon_value,Ej,Ej]
 go_wp2_with fail
 go_ret
 exact⟨rfl,rfl⟩
set_option maxHeartbeats 400000 in
theorem Xz (x y:Int) (w:World) :
  Calls Tryz.prog 113 #[.int .i64 x,.int .i64 y] w fun e w'=>e=.returned (.int .i64 (ci x y))∧w'=w:=by
 have h1:x < y→ci x y=-1:=fun h=>by unfold ci Lib.compareInt;rw[if_pos h]
 have h2:y < x→ci x y=1:=fun h=>by unfold ci Lib.compareInt;rw[if_neg (by omega),if_pos h]
 have h3:x=y→ci x y=0:=fun h=>by unfold ci Lib.compareInt;rw[if_neg (by omega),if_neg (by omega)]
 rcases (by omega:x < y∨y < x∨x=y) with h | h | h
 ·have H:=Lib.hid (h1 h)
  have h':¬ y < x:=by omega
  clear h1 h2 h3
  generalize ci x y=r at *
  go_enter Tryz.func113,Tryz.ntmps113
  go_wp2
  go_ret
  exact⟨by rw[H.out];rfl,rfl⟩
 ·have H:=Lib.hid (h2 h)
  have h':¬ x < y:=by omega
  clear h1 h2 h3
  generalize ci x y=r at *
  go_enter Tryz.func113,Tryz.ntmps113
  go_wp2
  go_ret
  exact⟨by rw[H.out];rfl,rfl⟩
 ·subst h
  have H:=Lib.hid (h3 rfl)
  clear h1 h2 h3
  generalize ci x x=r at *
  go_enter Tryz.func113,Tryz.ntmps113
  go_wp2
  go_ret
  exact⟨by rw[H.out];rfl,rfl⟩
def ni (a b c d:Int):Int:=fB a (fB b (fB c d))
set_option maxRecDepth 100000 in
set_option maxHeartbeats 800000 in
theorem AA1 (g:Nat) (a b c d:Int) (w:World) (h:AV w g 3 #[.int .i64 a,.int .i64 b,.int .i64 c,.int .i64 d]) :
  Calls Tryz.prog 112 #[.slice (some ⟨g,0,none⟩) 4 4] w fun e w'=>e=.returned (.int .i64 (ni a b c d))∧w'=w:=by
 have h0:w.cell? ⟨g,0,none⟩=some (.int .i64 a):=by rw[h.cell];rfl
 have h1:w.cell? ⟨g,1,none⟩=some (.int .i64 b):=by rw[h.cell];rfl
 have h2:w.cell? ⟨g,2,none⟩=some (.int .i64 c):=by rw[h.cell];rfl
 have h3:w.cell? ⟨g,3,none⟩=some (.int .i64 d):=by rw[h.cell];rfl
 have Ha:Hid (a≠0→ni a b c d=a):=Lib.hid (fun h=>by unfold ni fB;rw[if_pos h])
 have Hb:Hid (a=0→b≠0→ni a b c d=b):=Lib.hid (fun h h2=>by unfold ni fB;rw[if_neg (by simpa using h),if_pos h2])
 have Hc:Hid (a=0→b=0→c≠0→ni a b c d=c):=Lib.hid (fun h h2 h3=>by unfold ni fB;rw[if_neg (by simpa using h),if_neg (by simpa using h2),if_pos h3])
 have Hd:Hid (a=0→b=0→c=0→ni a b c d=d):=Lib.hid (fun h h2 h3=>by unfold ni fB;rw[if_neg (by simpa using h),if_neg (by simpa using h2),if_neg (by simpa using h3)])
 clear h
 generalize ni a b c d=r at *
 go_enter Tryz.func112,Tryz.ntmps112
 go_wp2_with fail
 go_loop [8] (fun i=>∃ k:Nat,k≤4∧i=.int .i64 (k:Int)∧(1≤k→a=0)∧(2≤k→b=0)∧(3≤k→c=0)∧(4≤k→d=0)) (fun i=>4 - (intOf i).toNat)
 case atStart=>exact⟨0,by omega,rfl,by omega,by omega,by omega,by omega⟩
 case round=>
  obtain⟨k,hk,rfl,k1,k2,k3,k4⟩:=hrel
  have K1:=Lib.hid k1
  have K2:=Lib.hid k2
  have K3:=Lib.hid k3
  have K4:=Lib.hid k4
  clear k1 k2 k3 k4
  rcases (by omega:k=0∨k=1∨k=2∨k=3∨k=4) with rfl | rfl | rfl | rfl | rfl
  ·by_cases hz:a=0
   ·subst hz
    go_wp2_with fail
    go_round
    case rel=>exact⟨1,by omega,by go_num,by simp,by omega,by omega,by omega⟩
    case measure=>simp[intOf]
   ·have hz':(a != 0)=true:=by simpa using hz
    go_wp2_with fail
    go_ret
    exact⟨by rw[Ha.out hz];rfl,rfl⟩
  ·have Z1:=Lib.hid (K1.out (by omega))
   by_cases hz:b=0
   ·subst hz
    go_wp2_with fail
    go_round
    case rel=>exact⟨2,by omega,by go_num,fun _=>Z1.out,by simp,by omega,by omega⟩
    case measure=>simp[intOf]
   ·have hz':(b != 0)=true:=by simpa using hz
    go_wp2_with fail
    go_ret
    exact⟨by rw[Hb.out Z1.out hz];rfl,rfl⟩
  ·have Z1:=Lib.hid (K1.out (by omega))
   have Z2:=Lib.hid (K2.out (by omega))
   by_cases hz:c=0
   ·subst hz
    go_wp2_with fail
    go_round
    case rel=>exact⟨3,by omega,by go_num,fun _=>Z1.out,fun _=>Z2.out,by simp,by omega⟩
    case measure=>simp[intOf]
   ·have hz':(c != 0)=true:=by simpa using hz
    go_wp2_with fail
    go_ret
    exact⟨by rw[Hc.out Z1.out Z2.out hz];rfl,rfl⟩
  ·have Z1:=Lib.hid (K1.out (by omega))
   have Z2:=Lib.hid (K2.out (by omega))
   have Z3:=Lib.hid (K3.out (by omega))
   by_cases hz:d=0
   ·subst hz
    go_wp2_with fail
    go_round
    case rel=>exact⟨4,by omega,by go_num,fun _=>Z1.out,fun _=>Z2.out,fun _=>Z3.out,by simp⟩
    case measure=>simp[intOf]
   ·have hz':(d != 0)=true:=by simpa using hz
    go_wp2_with fail
    go_ret
    exact⟨by rw[Hd.out Z1.out Z2.out Z3.out];rfl,rfl⟩
  ·have Z:=Lib.hid (Hd.out (K1.out (by omega)) (K2.out (by omega)) (K3.out (by omega)))
   have Z4:=Lib.hid (K4.out (by omega))
   go_wp2_with fail
   go_ret
   exact⟨by rw[Z.out,Z4.out];rfl,rfl⟩
set_option maxHeartbeats 400000 in
theorem V7 (x:Fx) (w:World) :
  Calls Tryz.prog 111 #[fV x] w fun e w'=>e=.returned (.int .i64 (gi x.1.gone))∧Below w.heap.size w w':=by
 obtain⟨⟨nm,bs,st,nd,gn⟩,A,n,c⟩:=x
 unfold fV Cm
 dsimp only
 cases gn with
 | true=>
  go_enter Tryz.func111,Tryz.ntmps111
  go_wp2
  go_ret
  exact⟨rfl,(Below.refl _ _).alloc (Nat.le_refl _) _⟩
 | false=>
  go_enter Tryz.func111,Tryz.ntmps111
  go_wp2
  go_ret
  exact⟨rfl,(Below.refl _ _).alloc (Nat.le_refl _) _⟩
end Go.Proofs.YtabdianhoabhhaaGreatDoor.Merge
namespace Go.Proofs.YtabdianhoabhhaaGreatDoor.Merge
open Go Go.RowKit Go.Proofs.YtabdianhoabhhaaGreatDoor Go.Proofs.YtabdianhoabhhaaGreatDoor.Name
set_option linter.unusedVariables false
theorem ny (a b:Fl):later a b=ni (ci a.stamp b.stamp) (ci a.node b.node) (ci (gi a.gone) (gi b.gone)) (cb a.bytes b.bytes):=rfl
set_option maxRecDepth 100000 in
set_option maxHeartbeats 1600000 in
theorem ng (x y:Fx) (w:World) (hx:D9 w x) (hy:D9 w y) :
  Calls Tryz.prog 76 #[fV x,fV y] w fun e w'=>e=.returned (.int .i64 (later x.1 y.1))∧Below w.heap.size w w':=by
 obtain⟨⟨n1,b1,s1,d1,g1⟩,A1,l1,c1⟩:=x
 obtain⟨⟨n2,b2,s2,d2,g2⟩,A2,l2,c2⟩:=y
 have Hx:=Lib.hid hx
 have Hy:=Lib.hid hy
 clear hx hy
 unfold fV Cm
 dsimp only
 obtain⟨w2,hw2⟩:∃ w2,w2=(w.alloc (.cells #[.string (Name.AR n1),.slice A1 l1 c1,.int .i64 s1,.int .i64 d1,.bool g1] 36)).alloc (.cells #[.string (Name.AR n2),.slice A2 l2 c2,.int .i64 s2,.int .i64 d2,.bool g2] 36):=⟨_,rfl⟩
 have hb2:Below w.heap.size w w2:=by rw[hw2];exact ((Below.refl _ _).alloc (Nat.le_refl _) _).alloc (by simp) _
 have B1:AV w2 w.heap.size 36 #[.string (Name.AR n1),.slice A1 l1 c1,.int .i64 s1,.int .i64 d1,.bool g1]:=by rw[hw2];exact (AV.new _ _ _).alloc _
 have B2:AV w2 (w.heap.size+1) 36 #[.string (Name.AR n2),.slice A2 l2 c2,.int .i64 s2,.int .i64 d2,.bool g2]:=by
  rw[hw2]
  have:=AV.new (w.alloc (.cells #[.string (Name.AR n1),.slice A1 l1 c1,.int .i64 s1,.int .i64 d1,.bool g1] 36)) 36 #[.string (Name.AR n2),.slice A2 l2 c2,.int .i64 s2,.int .i64 d2,.bool g2]
  simpa using this
 have Hx2:=Lib.hid (Hx.out.below hb2)
 have Hy2:=Lib.hid (Hy.out.below hb2)
 have Hb2:=Lib.hid hb2
 have p0:=fun p:Ap w2=>Ap.cell (show w2.cell? ⟨w.heap.size,0,none⟩=some (.string (Name.AR n1)) by rw[B1.cell];rfl) p
 have p1:=fun p:Ap w2=>Ap.cell (show w2.cell? ⟨w.heap.size,1,none⟩=some (.slice A1 l1 c1) by rw[B1.cell];rfl) p
 have p2:=fun p:Ap w2=>Ap.cell (show w2.cell? ⟨w.heap.size,2,none⟩=some (.int .i64 s1) by rw[B1.cell];rfl) p
 have p3:=fun p:Ap w2=>Ap.cell (show w2.cell? ⟨w.heap.size,3,none⟩=some (.int .i64 d1) by rw[B1.cell];rfl) p
 have p4:=fun p:Ap w2=>Ap.cell (show w2.cell? ⟨w.heap.size,4,none⟩=some (.bool g1) by rw[B1.cell];rfl) p
 have q0:=fun p:Ap w2=>Ap.cell (show w2.cell? ⟨w.heap.size+1,0,none⟩=some (.string (Name.AR n2)) by rw[B2.cell];rfl) p
 have q1:=fun p:Ap w2=>Ap.cell (show w2.cell? ⟨w.heap.size+1,1,none⟩=some (.slice A2 l2 c2) by rw[B2.cell];rfl) p
 have q2:=fun p:Ap w2=>Ap.cell (show w2.cell? ⟨w.heap.size+1,2,none⟩=some (.int .i64 s2) by rw[B2.cell];rfl) p
 have q3:=fun p:Ap w2=>Ap.cell (show w2.cell? ⟨w.heap.size+1,3,none⟩=some (.int .i64 d2) by rw[B2.cell];rfl) p
 have q4:=fun p:Ap w2=>Ap.cell (show w2.cell? ⟨w.heap.size+1,4,none⟩=some (.bool g2) by rw[B2.cell];rfl) p
 have HL:=Lib.hid (ny ⟨n1,b1,s1,d1,g1⟩ ⟨n2,b2,s2,d2,g2⟩)
 have hl1:l1=b1.length:=Hx.out.len
 have hl2:l2=b2.length:=Hy.out.len
 have fD:=Lib.hid hl1
 have wQ:=Lib.hid hl2
 have Hw2:=Lib.hid hw2.symm
 clear B1 B2 hb2 hl1 hl2 hw2
 go_enter Tryz.func76,Tryz.ntmps76
 go_wp2_with fail
 rw[Hw2.out]
 clear Hw2
 refine Mo 22 (by kernel_rfl) (by kernel_rfl) ?_
 simp only[List.take_succ_cons,List.take_zero,List.drop_succ_cons,List.drop_zero]
 repeat (quiet_step (first
  | exact LG (Xz _ _ _)
  | exact Jv (V7 (⟨n1,b1,s1,d1,g1⟩,A1,l1,c1) _)
  | exact Jv (V7 (⟨n2,b2,s2,d2,g2⟩,A2,l2,c2) _)
  | exact LG (QN _ _ _ _ _ _ _ _ _ fD.out wQ.out (Hx2.out.below (Ap.h _)).at_ (Hy2.out.below (Ap.h _)).at_)))
 refine wpQuiet_nil ?_
 intro wq hq
 have hbq:Below w2.heap.size w2 wq:=by obtain⟨p,hp⟩:=hq;rw[hp];exact p.h
 clear hq
 have VB:=Lib.hid (Hb2.out.trans (hbq.mono Hb2.out.size))
 clear p0 p1 p2 p3 p4 q0 q1 q2 q3 q4 hbq
 have Bk:=Lib.hid (AV.new wq 3 #[.int .i64 (ci s1 s2),.int .i64 (ci d1 d2),.int .i64 (ci (gi g1) (gi g2)),.int .i64 (cb b1 b2)])
 have Hb3:=Lib.hid (VB.out.alloc VB.out.size (.cells #[.int .i64 (ci s1 s2),.int .i64 (ci d1 d2),.int .i64 (ci (gi g1) (gi g2)),.int .i64 (cb b1 b2)] 3))
 go_wp2_with fail
 refine (AA1 _ _ _ _ _ _ Bk.out).mono ?_
 rintro e wx ⟨rfl,hw⟩
 have hw:=hw.symm
 subst hw
 go_wp2_with fail
 go_ret
 exact⟨by rw[HL.out];rfl,Hb3.out⟩
end Go.Proofs.YtabdianhoabhhaaGreatDoor.Merge
namespace Go.Proofs.YtabdianhoabhhaaGreatDoor.Merge
open Go Go.RowKit Go.Proofs.YtabdianhoabhhaaGreatDoor Go.Proofs.YtabdianhoabhhaaGreatDoor.Name
set_option linter.unusedVariables false
theorem TF (xs ys:List UInt8):((Name.AR xs).toList == (Name.AR ys).toList)=decide (xs=ys):=by
 rw[ByteArray.toList_eq,ByteArray.toList_eq,Bool.eq_iff_iff];simp[Name.AR]
theorem QI (xs:List UInt8):strOfNums (xs.map n8)=Name.AR xs:=by
 unfold strOfNums Name.AR
 rw[List.map_map]
 have:((fun n=>UInt8.ofNat n.toNat) ∘ n8)=id:=by
  funext x;simp[n8]
 rw[this,List.map_id]
theorem Gl (A:Option Addr) (n c:Nat) (xs:List UInt8) (w:World) (hn:xs.length=n) (h:BI w A xs) :
  (convert 23 9 (.slice A n c)).run Tryz.prog w=.ok (.string (Name.AR xs)) w:=by
 rw[←QI]
 cases n with
 | zero=>
  have:xs=[]:=List.eq_nil_of_length_eq_zero hn
  subst this
  exact run_convert_bytes_zero w _ _ Tryz.underlying23 Tryz.underlying5 A c _ Tryz.underlying9
 | succ n=>
  obtain⟨b,o,rfl,_⟩:=AQ.get h (k:=0) (by simp;omega)
  refine run_convert_bytes_arg w _ _ Tryz.underlying23 Tryz.underlying5 b o _ c _ (by simpa using hn) (fun i hi=>?_) _ Tryz.underlying9
  obtain⟨b',o',hb,hc⟩:=AQ.get h (k:=i) (by simp;omega)
  injection hb with hb;injection hb with h1 h2 h3
  subst h1 h2
  rw[hc]
  have:i < xs.length:=by omega
  simp[List.getD,Eh,this]
set_option maxHeartbeats 400000 in
theorem oC (A B:Option Addr) (n m ca cb:Nat) (xs ys:List UInt8) (w:World) (hn:xs.length=n) (hm:ys.length=m) (ha:BI w A xs) (hb:BI w B ys) :
  Calls Tryz.prog 22 #[.slice A n ca,.slice B m cb] w fun e w'=>e=.returned (.bool (decide (xs=ys)))∧w'=w:=by
 have k1:=Gl A n ca xs w hn ha
 have k2:=Gl B m cb ys w hm hb
 have K:Hid ((xs == ys)=decide (xs=ys)):=Lib.hid (by rw[Bool.eq_iff_iff];simp)
 clear hn hm ha hb
 go_enter Tryz.func22,Tryz.ntmps22
 go_wp2_with fail
 go_ret
 exact⟨DN K.out,rfl⟩
theorem OH {w:World} {g:Nat} {t:TypeId} {v0 v1 v2 v3 v4:Value} (h:AV w g t #[v0,v1,v2,v3,v4]) :
  w.cell? ⟨g,0,none⟩=some v0∧w.cell? ⟨g,1,none⟩=some v1∧w.cell? ⟨g,2,none⟩=some v2∧w.cell? ⟨g,3,none⟩=some v3∧w.cell? ⟨g,4,none⟩=some v4:=
 ⟨by rw[h.cell];rfl,by rw[h.cell];rfl,by rw[h.cell];rfl,by rw[h.cell];rfl,by rw[h.cell];rfl⟩
def Qw (a b:Fl):Bool:=decide (a.name=b.name) && decide (a.bytes=b.bytes) && decide (a.stamp=b.stamp) && decide (a.node=b.node) && decide (a.gone=b.gone)
theorem Vq (a b:Fl):Qw a b=true↔a=b:=by
 cases a;cases b
 simp[Qw,and_assoc]
set_option maxHeartbeats 1600000 in
theorem XV (x y:Fx) (w:World) (hx:D9 w x) (hy:D9 w y) :
  Calls Tryz.prog 20 #[fV x,fV y] w fun e w'=>e=.returned (.bool (Qw x.1 y.1))∧Below w.heap.size w w':=by
 obtain⟨⟨n1,b1,s1,d1,g1⟩,A1,l1,c1⟩:=x
 obtain⟨⟨n2,b2,s2,d2,g2⟩,A2,l2,c2⟩:=y
 unfold fV Cm
 dsimp only
 obtain⟨w2,hw2⟩:∃ w2,w2=(w.alloc (.cells #[.string (Name.AR n1),.slice A1 l1 c1,.int .i64 s1,.int .i64 d1,.bool g1] 36)).alloc (.cells #[.string (Name.AR n2),.slice A2 l2 c2,.int .i64 s2,.int .i64 d2,.bool g2] 36):=⟨_,rfl⟩
 have hb2:Below w.heap.size w w2:=by rw[hw2];exact ((Below.refl _ _).alloc (Nat.le_refl _) _).alloc (by simp) _
 have hl1:l1=b1.length:=hx.len
 have hl2:l2=b2.length:=hy.len
 have B1:AV w2 w.heap.size 36 #[.string (Name.AR n1),.slice A1 l1 c1,.int .i64 s1,.int .i64 d1,.bool g1]:=by rw[hw2];exact (AV.new _ _ _).alloc _
 have B2:AV w2 (w.heap.size+1) 36 #[.string (Name.AR n2),.slice A2 l2 c2,.int .i64 s2,.int .i64 d2,.bool g2]:=by
  rw[hw2]
  have:=AV.new (w.alloc (.cells #[.string (Name.AR n1),.slice A1 l1 c1,.int .i64 s1,.int .i64 d1,.bool g1] 36)) 36 #[.string (Name.AR n2),.slice A2 l2 c2,.int .i64 s2,.int .i64 d2,.bool g2]
  simpa using this
 have HB:=Lib.hid (And.intro B1 B2)
 have He:=Lib.hid (oC A1 A2 l1 l2 c1 c2 b1 b2 w2 hl1.symm hl2.symm (hx.below hb2).at_ (hy.below hb2).at_)
 have Hb2:=Lib.hid hb2
 have Hw2:=Lib.hid hw2.symm
 have zw:Hid (Qw ⟨n1,b1,s1,d1,g1⟩ ⟨n2,b2,s2,d2,g2⟩=(decide (n1=n2) && decide (b1=b2) && decide (s1=s2) && decide (d1=d2) && decide (g1=g2))):=Lib.hid rfl
 clear hb2 hw2 hl1 hl2 hx hy B1 B2
 by_cases h1:n1=n2
 ·subst h1
  by_cases h2:b1=b2
  ·rw[decide_eq_true h2]at He zw
   clear h2
   by_cases h3:s1=s2
   ·subst h3
    by_cases h4:d1=d2
    ·subst h4
     have e5:(g1 == g2)=decide (g1=g2):=by cases g1 <;> cases g2 <;> rfl
     have E5:=Lib.hid e5
     clear e5
     go_enter Tryz.func20,Tryz.ntmps20
     go_wp2_with fail
     rw[Hw2.out]
     refine (He.out).mono ?_
     rintro e w3 ⟨rfl,h⟩
     have h:=h.symm
     subst h
     have p:=OH HB.out.1
     have q:=OH HB.out.2
     obtain⟨p0,p1,p2,p3,p4⟩:=p
     obtain⟨q0,q1,q2,q3,q4⟩:=q
     go_wp2_with fail
     go_ret
     exact⟨DN (by rw[zw.out];simp;exact E5.out),Hb2.out⟩
    ·have f4:(d1 == d2)=false:=by simp[h4]
     rw[decide_eq_false h4]at zw
     clear h4
     go_enter Tryz.func20,Tryz.ntmps20
     go_wp2_with fail
     rw[Hw2.out]
     refine (He.out).mono ?_
     rintro e w3 ⟨rfl,h⟩
     have h:=h.symm
     subst h
     have p:=OH HB.out.1
     have q:=OH HB.out.2
     obtain⟨p0,p1,p2,p3,p4⟩:=p
     obtain⟨q0,q1,q2,q3,q4⟩:=q
     go_wp2_with fail
     go_ret
     exact⟨DN (by rw[zw.out];simp),Hb2.out⟩
   ·have f3:(s1 == s2)=false:=by simp[h3]
    rw[decide_eq_false h3]at zw
    clear h3
    go_enter Tryz.func20,Tryz.ntmps20
    go_wp2_with fail
    rw[Hw2.out]
    refine (He.out).mono ?_
    rintro e w3 ⟨rfl,h⟩
    have h:=h.symm
    subst h
    have p:=OH HB.out.1
    have q:=OH HB.out.2
    obtain⟨p0,p1,p2,p3,p4⟩:=p
    obtain⟨q0,q1,q2,q3,q4⟩:=q
    go_wp2_with fail
    go_ret
    exact⟨DN (by rw[zw.out];simp),Hb2.out⟩
  ·rw[decide_eq_false h2]at He zw
   clear h2
   go_enter Tryz.func20,Tryz.ntmps20
   go_wp2_with fail
   rw[Hw2.out]
   refine (He.out).mono ?_
   rintro e w3 ⟨rfl,h⟩
   have h:=h.symm
   subst h
   have p:=OH HB.out.1
   have q:=OH HB.out.2
   obtain⟨p0,p1,p2,p3,p4⟩:=p
   obtain⟨q0,q1,q2,q3,q4⟩:=q
   go_wp2_with fail
   go_ret
   exact⟨DN (by rw[zw.out];simp),Hb2.out⟩
 ·have f1:(n1 == n2)=false:=by simp[h1]
  rw[decide_eq_false h1]at zw
  clear h1
  go_enter Tryz.func20,Tryz.ntmps20
  go_wp2_with fail
  rw[Hw2.out]
  go_ret
  exact⟨DN (by rw[zw.out];simp),Hb2.out⟩
end Go.Proofs.YtabdianhoabhhaaGreatDoor.Merge
namespace Go.Proofs.YtabdianhoabhhaaGreatDoor.Merge
open Go Go.RowKit Go.Proofs.YtabdianhoabhhaaGreatDoor Go.Proofs.YtabdianhoabhhaaGreatDoor.Name
set_option linter.unusedVariables false
def Nc (l:List Fl) (k:Nat):Option (List UInt8):=if k=0 then none else some (l.getD (k - 1) ⟨[],[],0,0,false⟩).name
theorem oD (p:Option (List UInt8)) (f:Fl) (l:List Fl) (h1:EW f=0) (h2:zx p f.name=true):QO p (f :: l)=QO (some f.name) l:=by
 simp only[QO]
 rw[if_neg (by simpa using h1),if_neg (by rw[h2];simp)]
theorem wR (p:Option (List UInt8)) (f:Fl) (l:List Fl) (h1:EW f≠0):QO p (f :: l)=EW f:=by
 simp only[QO];rw[if_pos h1]
theorem oH (p:Option (List UInt8)) (f:Fl) (l:List Fl) (h1:EW f=0) (h2:zx p f.name=false):QO p (f :: l)=4:=by
 simp only[QO];rw[if_neg (by simpa using h1),if_pos h2]
theorem drop_cons {α:Type} (l:List α) (k:Nat) (h:k < l.length):l.drop k=l[k] :: l.drop (k+1):=(List.drop_eq_getElem_cons h)
def Ez (l:List Fl) (k:Nat):Prop:=Bb l=QO (Nc l k) (l.drop k)
theorem oI (l:List Fl) (h:l.length≤12):Ez l 0:=by unfold Ez Bb Nc;rw[if_neg (by omega),if_pos rfl];rfl
theorem oJ (l:List Fl) (k:Nat) (hk:k < l.length) (h:Ez l k) (h1:EW l[k]=0) (h2:zx (Nc l k) l[k].name=true):Ez l (k+1):=by
 unfold Ez at *
 rw[h,drop_cons l k hk,oD _ _ _ h1 h2]
 congr 1
 unfold Nc
 rw[if_neg (by omega)]
 simp[List.getD_eq_getElem?_getD,hk]
theorem rest_end (l:List Fl) (k:Nat) (hk:k=l.length) (h:Ez l k):Bb l=0:=by
 unfold Ez at h
 rw[h,List.drop_of_length_le (by omega)]
 rfl
theorem wS (l:List Fl) (k:Nat) (hk:k < l.length) (h:Ez l k) (h1:EW l[k]≠0):Bb l=EW l[k]:=by
 unfold Ez at h
 rw[h,drop_cons l k hk,wR _ _ _ h1]
theorem oL (l:List Fl) (k:Nat) (hk:k < l.length) (h:Ez l k) (h1:EW l[k]=0) (h2:zx (Nc l k) l[k].name=false):Bb l=4:=by
 unfold Ez at h
 rw[h,drop_cons l k hk,oH _ _ _ h1 h2]
theorem _root_.Go.RowKit.Below.drewN' {B:Nat} {a w:World} (h:Below B a w) (n:Nat):Below B a (w.drewN n):=⟨h.os,h.tape,h.output,h.size,h.block⟩
set_option maxRecDepth 100000 in
set_option maxHeartbeats 2000000 in
theorem F7 (v:Value) (l:List Fx) (w:World) (hm:ML w) (h:CO w v l) :
  Calls Tryz.prog 17 #[v] w fun e w'=>e=.returned (.int .i64 (Bb (l.map Prod.fst)))∧Below w.heap.size w w':=by
 obtain⟨A,cap,rfl,hcap,hcm,hA,l9,MZ⟩:=h
 have HA:=Lib.hid hA
 have Hd:=Lib.hid MZ
 have Hm:=Lib.hid hm
 clear hA l9 MZ hm
 have hcm':cap≤9223372036854775807:=by unfold maxLen at hcm;omega
 clear hcm
 obtain⟨n,hn⟩:∃ n,n=l.length:=⟨_,rfl⟩
 have Hn:=Lib.hid hn.symm
 rw[←hn]at hcap⊢
 clear hn
 by_cases h12:12 < n
 ·have Hc:Hid (Bb (l.map Prod.fst)=2):=Lib.hid (by unfold Bb;rw[List.length_map,Hn.out,if_pos h12])
  have AKb:(12:Int) < (n:Int):=by omega
  go_enter Tryz.func17,Tryz.ntmps17
  go_wp2_with fail
  go_ret
  exact⟨by rw[Hc.out];rfl,Below.refl _ _⟩
 ·have AKb:¬ (12:Int) < (n:Int):=by omega
  have H0:=Lib.hid (oI (l.map Prod.fst) (by rw[List.length_map,Hn.out];omega))
  have Lr:=Lib.hid (oJ (l.map Prod.fst))
  have sj:=Lib.hid (rest_end (l.map Prod.fst))
  have QB:=Lib.hid (wS (l.map Prod.fst))
  have AG3:=Lib.hid (oL (l.map Prod.fst))
  have HL:Hid ((l.map Prod.fst).length=n):=Lib.hid (by rw[List.length_map,Hn.out])
  have XQ:Hid (∀ k (hk:k < l.length) (hk2:k < (l.map Prod.fst).length),(l.map Prod.fst)[k]=l[k].1):=Lib.hid (fun k hk hk2=>by rw[List.getElem_map])
  generalize l.map Prod.fst=m at *
  go_enter Tryz.func17,Tryz.ntmps17
  go_wp2_with fail
  go_loopw [11] (fun i wr=>∃ k:Nat,k≤n∧i=.int .i64 (k:Int)∧Ez m k∧Below w.heap.size w wr) (fun i _=>n - (intOf i).toNat)
  case atStart=>exact⟨0,Nat.zero_le _,rfl,H0.out,Below.refl _ _⟩
  case round=>
   obtain⟨k,hk,rfl,hr,hb⟩:=hrel
   have Hb:=Lib.hid hb
   have Hr:=Lib.hid hr
   clear hb hr
   by_cases hlt:k < n
   ·have hkl:k < l.length:=by rw[Hn.out];exact hlt
    have Yu:k < m.length:=by rw[HL.out];exact hlt
    obtain⟨b,o,rfl,hc0,hc1,hc2,hc3,hc4⟩:=GD (HA.out.below Hb.out) hkl
    have zl:=Hd.out l[k] (List.getElem_mem hkl)
    have rH:Hid (EW l[k].1=0→zx (Nc m k) l[k].1.name=true→Ez m (k+1)):=Lib.hid (fun h1 h2=>Lr.out k Yu Hr.out (by rw[XQ.out k hkl Yu];exact h1) (by rw[XQ.out k hkl Yu];exact h2))
    have Ya:Hid (EW l[k].1≠0→Bb m=EW l[k].1):=Lib.hid (fun h1=>by rw[QB.out k Yu Hr.out (by rw[XQ.out k hkl Yu];exact h1),XQ.out k hkl Yu])
    have HDn:Hid (EW l[k].1=0→zx (Nc m k) l[k].1.name=false→Bb m=4):=Lib.hid (fun h1 h2=>AG3.out k Yu Hr.out (by rw[XQ.out k hkl Yu];exact h1) (by rw[XQ.out k hkl Yu];exact h2))
    have ACV:Hid (k≠0→∃ q:List UInt8,Nc m k=some q∧wr.cell? ⟨b,o+(k - 1)*5,none⟩=some (.string (Name.AR q))):=Lib.hid (fun h0=>by
     have hk1:k - 1 < l.length:=by omega
     have hk2:k - 1 < m.length:=by omega
     obtain⟨b',o',e,hp0,_⟩:=GD (HA.out.below Hb.out) hk1
     injection e with e
     injection e with e1 e2 e3
     subst e1 e2
     refine⟨l[k - 1].1.name,?_,hp0⟩
     unfold Nc
     rw[if_neg h0]
     have:=XQ.out (k - 1) hk1 hk2
     simp[List.getD_eq_getElem?_getD,hk2,this])
    generalize l[k]=x at *
    obtain⟨⟨nm,bs,st,nd,gn⟩,As,ln,cp⟩:=x
    simp only[Cm]at hc0 hc1 hc2 hc3 hc4 rH Ya HDn zl
    have Hln:Hid (ln=bs.length):=Lib.hid zl.len
    have hnm:nm.length≤maxLen:=zl.name
    clear zl
    have HC:=Lib.hid (fun w' (hb:Below w.heap.size w w')=>fE nm w' hnm (Hm.out.below hb))
    clear hnm
    go_wp2_with fail
    refine (HC.out _ (Hb.out.alloc Hb.out.size _)).mono ?_
    rintro e w2 ⟨rfl,hb2⟩
    have Hb2:=Lib.hid (CK (Hb.out.alloc Hb.out.size (.cells #[.string (Name.AR nm),.slice As ln cp,.int .i64 st,.int .i64 nd,.bool gn] 36)) hb2)
    have BX:Hid (AV w2 wr.heap.size 36 #[.string (Name.AR nm),.slice As ln cp,.int .i64 st,.int .i64 nd,.bool gn]):=Lib.hid ((AV.new wr _ _).below hb2 (by simp))
    have e0:w2.cell? ⟨wr.heap.size,0,none⟩=some (.string (Name.AR nm)):=by rw[BX.out.cell];rfl
    have e1:w2.cell? ⟨wr.heap.size,1,none⟩=some (.slice As ln cp):=by rw[BX.out.cell];rfl
    have e2:w2.cell? ⟨wr.heap.size,2,none⟩=some (.int .i64 st):=by rw[BX.out.cell];rfl
    have e3:w2.cell? ⟨wr.heap.size,3,none⟩=some (.int .i64 nd):=by rw[BX.out.cell];rfl
    have e4:w2.cell? ⟨wr.heap.size,4,none⟩=some (.bool gn):=by rw[BX.out.cell];rfl
    have jr:Hid (k≠0→∃ q:List UInt8,Nc m k=some q∧w2.cell? ⟨b,o+(k - 1)*5,none⟩=some (.string (Name.AR q))):=Lib.hid (fun h0=>by
     obtain⟨q,h1,h2⟩:=ACV.out h0
     exact⟨q,h1,cell_below hb2 (cell_below ((Below.refl _ _).alloc (Nat.le_refl _) _) h2)⟩)
    have HF:Hid (EW ⟨nm,bs,st,nd,gn⟩=if Cg nm≠0 then Cg nm else if 3000 < bs.length then 2 else if st < 0∨1000000 < st∨nd < 0∨4≤nd then 3 else if gn=true∧bs≠[] then 4 else 0):=Lib.hid rfl
    generalize EW ⟨nm,bs,st,nd,gn⟩=fe at *
    clear hb2 ACV hc0 hc1 hc2 hc3 hc4 HC
    by_cases g1:Cg nm=0
    ·rw[g1]at HF⊢
     by_cases g2:3000 < ln
     ·have Yc:Hid (fe=2):=Lib.hid (by rw[HF.out,if_neg (by simp),if_pos (by rw[←Hln.out];exact g2)])
      have Hc:Hid (Bb m=2):=Lib.hid (by rw[Ya.out (by rw[Yc.out];decide),Yc.out])
      have g2i:(3000:Int) < (ln:Int):=by omega
      go_wp2_with fail
      go_ret
      exact⟨by rw[Hc.out];rfl,Hb2.out⟩
     ·have g2i:¬ (3000:Int) < (ln:Int):=by omega
      have G2:Hid (¬ 3000 < bs.length):=Lib.hid (by rw[←Hln.out];exact g2)
      by_cases g3:st < 0∨1000000 < st∨nd < 0∨4≤nd
      ·have Yc:Hid (fe=3):=Lib.hid (by rw[HF.out,if_neg (by simp),if_neg G2.out,if_pos g3])
       have Hc:Hid (Bb m=3):=Lib.hid (by rw[Ya.out (by rw[Yc.out];decide),Yc.out])
       by_cases k1:st < 0
       ·go_wp2_with fail
        go_ret
        exact⟨by rw[Hc.out];rfl,Hb2.out⟩
       ·by_cases k2:1000000 < st
        ·go_wp2_with fail
         go_ret
         exact⟨by rw[Hc.out];rfl,Hb2.out⟩
        ·by_cases k3:nd < 0
         ·go_wp2_with fail
          go_ret
          exact⟨by rw[Hc.out];rfl,Hb2.out⟩
         ·have k4:4≤nd:=by omega
          go_wp2_with fail
          go_ret
          exact⟨by rw[Hc.out];rfl,Hb2.out⟩
      ·have k1:¬ st < 0:=by omega
       have k2:¬ 1000000 < st:=by omega
       have k3:¬ nd < 0:=by omega
       have k4:¬ 4≤nd:=by omega
       have zy:Hid (fe=if gn=true∧bs≠[] then 4 else 0):=Lib.hid (by rw[HF.out,if_neg (by simp),if_neg G2.out,if_neg g3])
       clear g3
       by_cases g5:gn=true∧bs≠[]
       ·obtain⟨rfl,g6⟩:=g5
        have Yc:Hid (fe=4):=Lib.hid (by rw[zy.out,if_pos ⟨rfl,g6⟩])
        have Hc:Hid (Bb m=4):=Lib.hid (by rw[Ya.out (by rw[Yc.out];decide),Yc.out])
        have g5n:0 < ln:=by rw[Hln.out];exact List.length_pos_iff.2 g6
        have g5i:(0:Int) < (ln:Int):=by omega
        have g5d:decide ((0:Int) < (ln:Int))=true:=by simpa using g5i
        clear rH Ya HDn jr
        go_wp2_with fail
        go_big_quiet (fail)
        go_wp2_with fail
        go_ret
        exact⟨by rw[Hc.out];rfl,Hb2.out.drewN' _⟩
       ·have Yc:Hid (fe=0):=Lib.hid (by rw[zy.out,if_neg g5])
        cases gn with
        | true=>
         obtain rfl:ln=0:=by
          rw[Hln.out,List.length_eq_zero_iff]
          exact Classical.byContradiction fun e=>g5 ⟨rfl,e⟩
         clear g5
         by_cases hk0:k=0
         ·have Yk:Hid (Ez m (k+1)):=Lib.hid (rH.out Yc.out (by rw[hk0];rfl))
          subst hk0
          clear rH Ya HDn jr
          go_wp2_with fail
          go_big_quiet (fail)
          go_wp2_with fail
          go_roundw
          case rel=>exact⟨1,by omega,by go_num,Yk.out,Hb2.out.drewN' _⟩
          case measure=>simp[intOf];omega
         ·have hkp:0 < k:=by omega
          obtain⟨q,hq1,hq2⟩:=jr.out hk0
          have hkd:decide ((0:Int) < (k:Int))=true:=by simpa using hkp
          have hks:IntKind.i64.wrap ((k:Int) - 1)=(k:Int) - 1:=IntWalk.i64_in _ (by omega)
          have hk1:(0:Int)≤(k:Int) - 1:=by omega
          have hk2:((k:Int) - 1).toNat=k - 1:=by omega
          have hk3:((k:Int) - 1) < (n:Int):=by omega
          have hk4:k - 1 < n:=by omega
          have X0:=rH.out Yc.out
          have X4:=HDn.out Yc.out
          rw[hq1]at X0 X4
          cases hle:Op.bytesLess q nm with
          | true=>
           have Yk:Hid (Ez m (k+1)):=Lib.hid (X0 (by show decide (cb q nm < 0)=_;rw[←Ry];exact hle))
           clear rH Ya HDn jr X0 X4 hq1
           go_wp2_with fail
           go_big_quiet (fail)
           go_wp2_with fail
           go_roundw
           case rel=>exact⟨k+1,by omega,by go_num,Yk.out,Hb2.out.drewN' _⟩
           case measure=>simp[intOf];omega
          | false=>
           have Hc:Hid (Bb m=4):=Lib.hid (X4 (by show decide (cb q nm < 0)=_;rw[←Ry];exact hle))
           clear rH Ya HDn jr X0 X4 hq1
           go_wp2_with fail
           go_big_quiet (fail)
           go_wp2_with fail
           go_ret
           exact⟨by rw[Hc.out];rfl,Hb2.out.drewN' _⟩
        | false=>
         clear g5
         by_cases hk0:k=0
         ·have Yk:Hid (Ez m (k+1)):=Lib.hid (rH.out Yc.out (by rw[hk0];rfl))
          subst hk0
          clear rH Ya HDn jr
          go_wp2_with fail
          go_big_quiet (fail)
          go_wp2_with fail
          go_roundw
          case rel=>exact⟨1,by omega,by go_num,Yk.out,Hb2.out.drewN' _⟩
          case measure=>simp[intOf];omega
         ·have hkp:0 < k:=by omega
          obtain⟨q,hq1,hq2⟩:=jr.out hk0
          have hkd:decide ((0:Int) < (k:Int))=true:=by simpa using hkp
          have hks:IntKind.i64.wrap ((k:Int) - 1)=(k:Int) - 1:=IntWalk.i64_in _ (by omega)
          have hk1:(0:Int)≤(k:Int) - 1:=by omega
          have hk2:((k:Int) - 1).toNat=k - 1:=by omega
          have hk3:((k:Int) - 1) < (n:Int):=by omega
          have hk4:k - 1 < n:=by omega
          have X0:=rH.out Yc.out
          have X4:=HDn.out Yc.out
          rw[hq1]at X0 X4
          cases hle:Op.bytesLess q nm with
          | true=>
           have Yk:Hid (Ez m (k+1)):=Lib.hid (X0 (by show decide (cb q nm < 0)=_;rw[←Ry];exact hle))
           clear rH Ya HDn jr X0 X4 hq1
           go_wp2_with fail
           go_big_quiet (fail)
           go_wp2_with fail
           go_roundw
           case rel=>exact⟨k+1,by omega,by go_num,Yk.out,Hb2.out.drewN' _⟩
           case measure=>simp[intOf];omega
          | false=>
           have Hc:Hid (Bb m=4):=Lib.hid (X4 (by show decide (cb q nm < 0)=_;rw[←Ry];exact hle))
           clear rH Ya HDn jr X0 X4 hq1
           go_wp2_with fail
           go_big_quiet (fail)
           go_wp2_with fail
           go_ret
           exact⟨by rw[Hc.out];rfl,Hb2.out.drewN' _⟩
    ·have Yc:Hid (fe=Cg nm):=Lib.hid (by rw[HF.out,if_pos g1])
     have Hc:Hid (Bb m=Cg nm):=Lib.hid (by rw[Ya.out (by rw[Yc.out];exact g1),Yc.out])
     generalize Cg nm=z at *
     have hz1:(z != 0)=true:=by simpa using g1
     go_wp2_with fail
     go_ret
     exact⟨by rw[Hc.out];rfl,Hb2.out⟩
   ·obtain rfl:k=n:=by omega
    have He:Hid (Bb m=0):=Lib.hid (sj.out k (by rw[HL.out]) Hr.out)
    go_wp2_with fail
    go_ret
    exact⟨by rw[He.out];rfl,Hb.out⟩
end Go.Proofs.YtabdianhoabhhaaGreatDoor.Merge
namespace Go.Proofs.YtabdianhoabhhaaGreatDoor.Zip
open Go Go.RowKit Go.Proofs.YtabdianhoabhhaaGreatDoor Go.Proofs.YtabdianhoabhhaaGreatDoor.Bits Go.Proofs.YtabdianhoabhhaaGreatDoor.Merge Go.Proofs.YtabdianhoabhhaaGreatDoor.Name
open Go.Proofs.YtabdianhoabhhaaGreatDoor.Inf (DW)
set_option linter.unusedVariables false
set_option linter.unusedSimpArgs false
theorem tyE:Bj Tryz.prog 76 78 (.agg #[.string ByteArray.empty,.slice none 0 0,.int .i64 0,.int .i64 0,.bool false,.int .i64 0,.slice none 0 0,.int .u32 0,.int .i64 0]) 9 112:=⟨Tryz.underlying76,by kernel_rfl,rfl,by omega⟩
structure Uz (w wr:World) (x:Ex):Prop where
 len:x.bs.2.1=x.e.f.bytes.length
 room:x.e.f.bytes.length≤x.bs.2.2
 cap:x.bs.2.2≤maxLen
 at_:BI w x.bs.1 x.e.f.bytes
 pk:(x.pk=x.bs∧x.e.packed=x.e.f.bytes)∨BN wr w.heap.size (Cm x.pk) x.e.packed
theorem Uz.turn {w wr w':World} {x:Ex} (h:Uz w wr x) (hk:∀ v xs,BN wr w.heap.size v xs→BN w' w.heap.size v xs):Uz w w' x:=
 ⟨h.len,h.room,h.cap,h.at_,h.pk.imp id (hk _ _)⟩
theorem Uz.AFI {w wr:World} {x:Ex} (h:Uz w wr x) (hb:Below w.heap.size w wr):VQ w.heap.size wr x:=fun w2 h2=>by
 have hb2:Below w.heap.size w w2:=hb.trans h2.toBelow
 rcases h.pk with ⟨h1,h3⟩ | ho
 ·exact⟨h.len,h.room,h.cap,BI.below h.at_ hb2,by rw[h1,h3];exact h.len,by rw[h1,h3];exact h.room,by rw[h1];exact h.cap,by rw[h1,h3];exact BI.below h.at_ hb2⟩
 ·have ho2:BN w2 w.heap.size (Cm x.pk) x.e.packed:=h2.Ji.own ho (by decide)
  obtain⟨A,c,e,q1,q2,q3,_⟩:=ho2.slice
  unfold Cm at e
  injection e with e1 e2 e3
  exact⟨h.len,h.room,h.cap,BI.below h.at_ hb2,e2,by rw[e3];exact q1,by rw[e3];exact q2,by rw[e1];exact q3⟩
theorem zR (x:Ex):∀ u∈eC x,u.oneCell'=true:=by
 intro u hu
 simp[eC,Cm]at hu
 rcases hu with rfl | rfl | rfl | rfl | rfl | rfl | rfl | rfl | rfl <;> rfl
def j5 (l:List Fl) (w:World) (e:Ending) (w':World):Prop:=
  (match Ce Bw l with
   | .bad z=>e=.returned (.tuple #[.slice none 0 0,.int .i64 z])
   | .ok b=>∃ vb,e=.returned (.tuple #[vb,.int .i64 0])∧BN w' w.heap.size vb b)∧Below w.heap.size w w'
theorem iY {l:List Fl} (h:Bb l=0):(laidB (Bv Bw l)).length≤60000:=by
 obtain⟨h1,h2⟩:=Ev h
 rw[KX]
 have key:∀ l:List Fl,(∀ f∈l,EW f=0)→((Bv Bw l).map KY).sum≤3178*l.length:=by
  intro l
  induction l with
  | nil=>intro _;exact Nat.le_refl _
  | cons f l ih=>
   intro h
   have h3:=M6 (h f (List.mem_cons_self ..))
   have h4:=ih fun g hg=>h g (List.mem_cons_of_mem _ hg)
   have h5:=Ql Bw f
   unfold Bv at h4⊢
   rw[List.map_cons,List.map_cons,List.sum_cons,List.length_cons]
   unfold KY at h4⊢
   rw[Ip]
   omega
 have:=key l h2
 omega
set_option maxRecDepth 100000 in
set_option maxHeartbeats 3000000 in
theorem CW (v:Value) (l:List Fx) (w:World) (hm:ML w) (h:CO w v l) :
  Calls Tryz.prog 12 #[v] w (j5 (l.map Prod.fst) w):=by
 have HC:=Lib.hid (F7 v l w hm h)
 obtain⟨A,cap,rfl,hcap,hcm,hA,l9,MZ⟩:=h
 have HA:=Lib.hid hA
 have Hd:=Lib.hid MZ
 obtain⟨n,hn⟩:∃ n,n=l.length:=⟨_,rfl⟩
 rw[←hn]at HC hcap⊢
 have Hn:=Lib.hid hn
 have HW:Hid (Ce Bw (l.map Prod.fst)=if Bb (l.map Prod.fst)≠0 then .bad (Bb (l.map Prod.fst)) else if 12000 < (laidB (Bv Bw (l.map Prod.fst))).length then .bad 11 else .ok (laidB (Bv Bw (l.map Prod.fst)))):=Lib.hid rfl
 have HK:=Lib.hid (@Ev (l.map Prod.fst))
 have HG:=Lib.hid (@Lc Bw JI (l.map Prod.fst))
 have HL:=Lib.hid (@iY (l.map Prod.fst))
 clear hA l9 MZ hn hm
 obtain⟨z,hz⟩:∃ z,z=Bb (l.map Prod.fst):=⟨_,rfl⟩
 rw[←hz]at HC HW HK HG HL
 obtain⟨B,hB⟩:∃ B,B=w.heap.size:=⟨_,rfl⟩
 have HB:=Lib.hid hB
 clear hz hB
 go_enter Tryz.func12,Tryz.ntmps12
 go_wp2_with fail
 refine (HC.out).mono ?_
 rintro e w1 ⟨rfl,hb1⟩
 have Hb1:=Lib.hid hb1
 clear hb1 HC
 by_cases hz:z=0
 ·subst hz
  have HK':=Lib.hid (HK.out rfl)
  have HG':=Lib.hid (HG.out rfl)
  have HL':=Lib.hid (HL.out rfl)
  have AOG:n≤12:=by have:=HK'.out.1;rw[List.length_map,←Hn.out]at this;exact this
  clear HK HG HL
  go_wp2_with fail
  go_loopw [5,16] (fun ve vi wr=>∃ (k:Nat) (xs:List Ex),k≤n∧vi=.int .i64 (k:Int)∧wr.ownsRow w.heap.size 78 9 ve k (xs.flatMap eC)∧xs.map Ex.e=(l.take k).map (fun f=>FL Bw f.1)∧(∀ x∈xs,Uz w wr x)∧Below w.heap.size w wr) (fun _ vi _=>n - (intOf vi).toNat)
  case atStart=>exact⟨0,[],Nat.zero_le _,rfl,World.ownsRow_nil _ _ _ _,rfl,(by simp),Hb1.out⟩
  case round=>
   obtain⟨k,xs,hk,rfl,ho,he,hx,hb⟩:=hrel
   have HO:=Lib.hid ho
   have HE:=Lib.hid he
   have HX:=Lib.hid hx
   have Hb:=Lib.hid hb
   clear ho he hx hb
   by_cases hlt:k < n
   ·have hlt':(k:Int) < (n:Int):=by omega
    have hk0:(0:Int)≤(k:Int):=by omega
    have hkl:k < l.length:=by rw[←Hn.out];exact hlt
    obtain⟨b,o,rfl,c0,c1,c2,c3,c4⟩:=GD (HA.out.below Hb.out) hkl
    obtain⟨f,hf⟩:∃ f,f=l[k]:=⟨_,rfl⟩
    have hfm:f∈l:=by rw[hf];exact List.getElem_mem hkl
    have HF:=Lib.hid ((Hd.out f hfm))
    have hf3:f.1.bytes.length≤3000:=(M6 (HK'.out.2 f.1 (List.mem_map_of_mem hfm))).2.1
    have Hf3:=Lib.hid hf3
    have dA:Hid (l.take (k+1)=l.take k++[f]):=Lib.hid (by rw[List.take_succ_eq_append_getElem hkl,←hf])
    rw[←hf]at c0 c1 c2 c3 c4
    clear hf hfm hf3
    unfold Cm at c1
    go_upto_region 8 with fail
    have hB2:=AV.new wr 36 #[.string (Name.AR f.1.name),.slice f.2.1 f.2.2.1 f.2.2.2,.int .i64 f.1.stamp,.int .i64 f.1.node,.bool f.1.gone]
    have hbel:Below wr.heap.size wr (wr.alloc (.cells #[.string (Name.AR f.1.name),.slice f.2.1 f.2.2.1 f.2.2.2,.int .i64 f.1.stamp,.int .i64 f.1.node,.bool f.1.gone] 36)):=(Below.refl _ _).alloc (Nat.le_refl _) _
    generalize wr.alloc (.cells #[.string (Name.AR f.1.name),.slice f.2.1 f.2.2.1 f.2.2.2,.int .i64 f.1.stamp,.int .i64 f.1.node,.bool f.1.gone] 36)=w2 at *
    have HB2:=Lib.hid hB2
    have Cz:=Lib.hid (AP HO.out hbel)
    have HX2:Hid (∀ x∈xs,Uz w w2 x):=Lib.hid (fun x hx=>(HX.out x hx).turn fun v ys h=>AP h hbel)
    have Hb2:=Lib.hid (Hb.out.trans (hbel.mono Hb.out.size))
    have hs2:w.heap.size≤w2.heap.size:=Hb2.out.size
    have d0:w2.cell? ⟨wr.heap.size,0,none⟩=some (.string (Name.AR f.1.name)):=hB2.cell 0
    have d1:w2.cell? ⟨wr.heap.size,1,none⟩=some (.slice f.2.1 f.2.2.1 f.2.2.2):=hB2.cell 1
    have d2:w2.cell? ⟨wr.heap.size,2,none⟩=some (.int .i64 f.1.stamp):=hB2.cell 2
    have d3:w2.cell? ⟨wr.heap.size,3,none⟩=some (.int .i64 f.1.node):=hB2.cell 3
    have d4:w2.cell? ⟨wr.heap.size,4,none⟩=some (.bool f.1.gone):=hB2.cell 4
    have HOf:=Lib.hid (eZ f w2 (HF.out.below Hb2.out) Hf3.out)
    clear hB2 hbel HO HX Hb
    go_wp2_with fail
    refine (HOf.out).mono ?_
    rintro e w3 ⟨⟨pk,rfl,hpk⟩,hb3⟩
    obtain⟨x,hx⟩:∃ x:Ex,x =⟨FL Bw f.1,f.2,pk,0⟩:=⟨_,rfl⟩
    have he:x.e=FL Bw f.1:=by rw[hx]
    have hbs:x.bs=f.2:=by rw[hx]
    have hpx:x.pk=pk:=by rw[hx]
    rw[←hx]
    rw[←hpx,←he]at hpk
    have hof:Uz w w3 x:=⟨by rw[hbs,he,Ip];exact HF.out.len,by rw[hbs,he,Ip];exact HF.out.room,by rw[hbs];exact HF.out.cap,by rw[hbs,he,Ip];exact HF.out.at_,by
     rcases hpk with ⟨h1,h2⟩ | h1
     ·exact .inl ⟨by rw[hbs];exact h1,by rw[he,Ip,←he];exact h2⟩
     ·exact .inr (AZ h1 hs2)⟩
    have eD:Hid (∀ y∈xs++[x],Uz w w3 y):=Lib.hid (fun y hy=>by
     rcases List.mem_append.1 hy with h | h
     ·exact (HX2.out y h).turn fun v ys h=>AP h hb3
     ·rw[List.mem_singleton.1 h];exact hof)
    have zK:Hid ((xs++[x]).map Ex.e=(l.take (k+1)).map (fun f=>FL Bw f.1)):=Lib.hid (by
     rw[dA.out,List.map_append,List.map_append,HE.out]
     simp[he])
    have Xh:=Lib.hid (AP Cz.out hb3)
    have Hb3:=Lib.hid (Hb2.out.trans (hb3.mono hs2))
    have hs3:w.heap.size≤w3.heap.size:=Hb3.out.size
    have hxl:xs.length=k:=by
     have:=congrArg List.length HE.out
     rw[List.length_map,List.length_map,List.length_take]at this
     omega
    clear hpk hof hx he hbs hpx hb3 HOf Cz HX2 Hb2 HE d0 d1 d2 d3 d4 HB2 hs2
    unfold eV
    have hbel:Below w3.heap.size w3 (w3.alloc (.cells #[.string (Name.AR x.e.f.name),Cm x.bs,.int .i64 x.e.f.stamp,.int .i64 x.e.f.node,.bool x.e.f.gone,.int .i64 (x.e.method:Int),Cm x.pk,.int .u32 (x.e.crc:Int),.int .i64 (x.at_:Int)] 78)):=(Below.refl _ _).alloc (Nat.le_refl _) _
    have HZ:Hid (AQ (w3.alloc (.cells #[.string (Name.AR x.e.f.name),Cm x.bs,.int .i64 x.e.f.stamp,.int .i64 x.e.f.node,.bool x.e.f.gone,.int .i64 (x.e.method:Int),Cm x.pk,.int .u32 (x.e.crc:Int),.int .i64 (x.at_:Int)] 78)) (some ⟨w3.heap.size,0,none⟩) (eC x)):=Lib.hid (AQ.of_heap (heap_alloc_new _ _) rfl)
    have KQ:=Lib.hid (AP Xh.out hbel)
    have jZ:Hid (∀ y∈xs++[x],Uz w (w3.alloc (.cells #[.string (Name.AR x.e.f.name),Cm x.bs,.int .i64 x.e.f.stamp,.int .i64 x.e.f.node,.bool x.e.f.gone,.int .i64 (x.e.method:Int),Cm x.pk,.int .u32 (x.e.crc:Int),.int .i64 (x.at_:Int)] 78)) y):=Lib.hid (fun y hy=>(eD.out y hy).turn fun v ys h=>AP h hbel)
    have Hb4:=Lib.hid (Hb3.out.trans (hbel.mono hs3))
    have hs4:w.heap.size≤(w3.alloc (.cells #[.string (Name.AR x.e.f.name),Cm x.bs,.int .i64 x.e.f.stamp,.int .i64 x.e.f.node,.bool x.e.f.gone,.int .i64 (x.e.method:Int),Cm x.pk,.int .u32 (x.e.crc:Int),.int .i64 (x.at_:Int)] 78)).heap.size:=Hb4.out.size
    clear hbel Xh eD Hb3
    go_wp2_with (at_builtin;refine AY _ rfl (.tmp 20) (.tmp 23) _ rfl w.heap.size 78 _ 9 112 tyE _ k (xs.flatMap eC) rfl KQ.out (some ⟨w3.heap.size,0,none⟩) 1 1 (eC x) rfl rfl HZ.out (zR x) (by simp) (by unfold maxLen;omega) (by omega) hs4 ?_;intro v5 w5 hown5 hg5 _;have YY:=Lib.hid hown5;have nE:Hid (∀ y∈xs++[x],Uz w w5 y):=Lib.hid (fun y hy=>(jZ.out y hy).turn fun v ys h=>Cx.LX h KQ.out hg5 (by decide));have Hb5:=Lib.hid (own_below KQ.out hg5 Hb4.out hs4);clear hown5 hg5 KQ jZ Hb4 HZ hs4)
    go_roundw
    case rel=>exact⟨k+1,xs++[x],by omega,by go_num,by have:=YY.out;simpa only[List.flatMap_append,List.flatMap_cons,List.flatMap_nil,List.append_nil] using this,zK.out,nE.out,Hb5.out⟩
    case measure=>simp[intOf];omega
   ·have hlt':¬ (k:Int) < (n:Int):=by omega
    obtain rfl:k=n:=by omega
    have hes:Cr xs=Bv Bw (l.map Prod.fst):=by
     unfold Cr Bv
     rw[HE.out,Hn.out,List.take_length,List.map_map]
     rfl
    have hxl:xs.length=k:=by
     have:=congrArg List.length HE.out
     rw[List.length_map,List.length_map,List.length_take,←Hn.out]at this
     omega
    have HXl:=Lib.hid hxl
    have hgx:∀ x∈xs,Good x.e:=fun x hx=>HG'.out x.e (by rw[←hes];exact List.mem_map_of_mem hx)
    have hpx:∀ x∈xs,VQ w.heap.size wr x:=fun x hx=>(HX.out x hx).AFI Hb.out
    have hla:(laidB (Cr xs)).length≤1000000:=by rw[hes];have:=HL'.out;omega
    have HAr:=Lib.hid (RH w.heap.size u5 xs wr Hb.out.size (by rw[hxl];exact HO.out) hgx hpx (by rw[hxl];omega) hla)
    have Hes:=Lib.hid hes
    clear hgx hpx hla hes hxl
    go_wp2_with fail
    refine (HAr.out).mono ?_
    rintro e w2 ⟨⟨vb,rfl,UB⟩,_,hk2⟩
    have Hb2:=Lib.hid (Hb.out.trans hk2.toBelow)
    have HOb:=Lib.hid (AZ UB Hb.out.size)
    rw[Hes.out]at UB
    obtain⟨L,hL⟩:∃ L,L=laidB (Bv Bw (l.map Prod.fst)):=⟨_,rfl⟩
    rw[←hL]at UB HL' HW
    have HOb:=Lib.hid (AZ UB Hb.out.size)
    obtain⟨Ab,cb,rfl,hb1,hb2,_,_⟩:=UB.slice
    obtain⟨nl,hnl⟩:∃ nl,nl=L.length:=⟨_,rfl⟩
    rw[←hnl]at hb1 HL' HW⊢
    clear hk2 UB HAr hL
    by_cases h12:12000 < nl
    ·have AFK:(12000:Int) < (nl:Int):=by omega
     go_wp2_with fail
     go_ret2
     refine⟨?_,Hb2.out⟩
     rw[HW.out,if_neg (by simp),if_pos h12]
     rfl
    ·have AFK:¬ (12000:Int) < (nl:Int):=by omega
     go_wp2_with fail
     go_ret2
     refine⟨?_,Hb2.out⟩
     rw[HW.out,if_neg (by simp),if_neg h12]
     exact⟨_,rfl,HOb.out⟩
 ·have hz1:(z != 0)=true:=by simpa using hz
  go_wp2_with fail
  go_ret2
  refine⟨?_,Hb1.out⟩
  rw[HW.out,if_pos hz]
  rfl
end Go.Proofs.YtabdianhoabhhaaGreatDoor.Zip
namespace Go.Proofs.YtabdianhoabhhaaGreatDoor.Zip
open Go Go.RowKit Go.Proofs.YtabdianhoabhhaaGreatDoor Go.Proofs.YtabdianhoabhhaaGreatDoor.Bits Go.Proofs.YtabdianhoabhhaaGreatDoor.Merge Go.Proofs.YtabdianhoabhhaaGreatDoor.Name
open Go.Proofs.YtabdianhoabhhaaGreatDoor.Inf (EL FI)
set_option linter.unusedVariables false
set_option linter.unusedSimpArgs false
section
variable {P:Program} {ops:Array Oper} {Q:Exit→Act→World→Prop} {md:Region.Mode} {S:World→Prop} {n:Nat}
theorem BF {i:Nat} {oi:Oper} {fuel:Nat} {listed:Array Bool} {a:Act} {w:World} (hl:OL md ops ops.size n i=true) (hcl:R4 md ops listed=true) (hi:ops[i]?=some oi)
  (hs:Region.noSelect ops=true) (hf:Region.free md ops listed i=true) (hr:(Region.ready md ops listed).contains i=true)
  (hQ:∀ c a w,Q (.panic c) (a.put oi.dst undef) w→Q (.panic c) a w) (hw:Region.wanted oi (yielded ops a.tmps)=false) (hS:S w)
  (h:wpAnyS P md ops Q S n fuel (listed.setIfInBounds i true) (a.put oi.dst undef) w):wpAnyS P md ops Q S n (fuel+1) listed a w:=
 Ng hl hi (Region.noSelect_spec hs) hQ fuel listed a w (WE hcl) (Region.free_spec hi hf) (by simpa using hr) (.inr ⟨hw,rfl⟩) hS h
end
def zM (Q:Exit→Act→World→Prop) (ch:List PanicEntry) (D:List Deferred) (v2 v3:Value) (R:World→Prop):Exit→Act→World→Prop:=fun e a w=>
 (e=.normal∧Q .normal a w)∨(e=.panic ch∧(a.defers=D∧a.tmps.getD 2 undef=v2∧a.tmps.getD 3 undef=v3)∧R w)
theorem AB2 {P:Program} {c:Code} {Q:Exit→Act→World→Prop} {a:Act} {w:World} (ch:List PanicEntry) (D:List Deferred) (v2 v3:Value) (R:World→Prop)
  (hp:∀ a w,a.defers=D→a.tmps.getD 2 undef=v2→a.tmps.getD 3 undef=v3→R w→Q (.panic ch) a w) (h:c.wp P (zM Q ch D v2 v3 R) a w):c.wp P Q a w:=
 wp_mono h (by
  rintro e a w (⟨rfl,h⟩ | ⟨rfl,⟨h1,h2,h3⟩,h4⟩)
  ·exact h
  ·exact hp a w h1 h2 h3 h4)
theorem Pm (l:Array Value) (d t:Nat) (v:Value) (h:d≠t):(l.setIfInBounds d v).getD t undef=l.getD t undef:=by
 simp only[Array.getD_eq_getD_getElem?]
 rw[Array.getElem?_setIfInBounds_ne h]
theorem bE {Q:Exit→Act→World→Prop} {ch c:List PanicEntry} {D:List Deferred} {v2 v3:Value} {R:World→Prop} {a:Act} {w:World} {d:Tmp} {v:Value} (h2:d≠2) (h3:d≠3)
  (h:zM Q ch D v2 v3 R (.panic c) (a.put (some d) v) w):zM Q ch D v2 v3 R (.panic c) a w:=by
 rcases h with ⟨h,_⟩ | ⟨h,⟨h4,h5,h6⟩,h7⟩
 ·cases h
 ·refine .inr ⟨h,⟨h4,?_,?_⟩,h7⟩
  ·rw[←h5];exact (Pm _ _ _ _ h2).symm
  ·rw[←h6];exact (Pm _ _ _ _ h3).symm
theorem zN {P:Program} {o:Oper} {a:Act} {w:World} {K:Act→World→Prop} {Q:Exit→Act→World→Prop} (s x:Operand) (t:TypeId)
  (ho:o.op=.call { callee:=.builtin .append,args:=#[s,x],argTypes:=#[t,t] })
  (base:Nat) (e:TypeId) (z:Value) (size bytes:Nat) (hT:Bj P t e z size bytes)
  (v:Value) (n:Nat) (xs:List Value) (hs:a.eval s=v) (hown:w.ownsRow base e size v n xs)
  (A:Option Addr) (m c:Nat) (news:List Value) (hx:a.eval x=.slice A m c) (hl:news.length=m*size) (hr:AQ w A news) (h1:∀ u∈news,u.oneCell'=true)
  (hA:A=none→m=0) (h63:n+m≤maxLen) (hbytes:(n+m)*bytes≤140737488355328) (hbase:base≤w.heap.size)
  (h:∀ v' w',w'.ownsRow base e size v' (n+m) (xs++news)→w.grownBy w' v.ownBlock→(v'.ownBlock=v.ownBlock∨v'.ownBlock=some w.heap.size)→K (a.put o.dst v') w'):Oper.wp P o a w K Q:=by
 obtain⟨v',w',hrun,h2,h3,h4⟩:=GM (P:=P) w base t o.type e z size bytes hT v n xs hown A m c news hl hr h1 hA h63 hbytes hbase
 unfold Oper.wp execOp
 simp only[ho,resolve,invoke,builtin,Sem.run_bind,Sem.run_pure,Result.andThen_ok,List.map_toArray,List.map_cons,List.map_nil,hs,hx,hrun]
 exact h _ _ h2 h3 h4
theorem results2 {P:Program} {fn:Func} {p2 p3:Tmp} {t2 t3:TypeId} (h:fn.results=#[.cell p2 t2,.cell p3 t3]) (tmps:Array Value) (w:World) (a2 a3:Addr) (v2 v3:Value)
  (h2:tmps.getD p2 undef=.pointer (some a2)) (h3:tmps.getD p3 undef=.pointer (some a3)) (l2:(loadVar t2 a2).run P w=.ok v2 w) (l3:(loadVar t3 a3).run P w=.ok v3 w) :
  (results fn tmps).run P w=.ok (.tuple #[v2,v3]) w:=by
 have h2':tmps[p2]?.getD undef=.pointer (some a2):=by simpa using h2
 have h3':tmps[p3]?.getD undef=.pointer (some a3):=by simpa using h3
 simp[results,h,h2',h3',asAddr,l2,l3]
theorem AB3 (w:World) (a:Addr) (v:Value) (h:w.cell? a=some v):(loadVar 76 a).run Tryz.prog w=.ok v w:=by
 simp[loadVar,run_underlying Tryz.underlying76,go_sem,h]
theorem AB4 (w:World) (a:Addr) (v:Value) (h:w.cell? a=some v):(loadVar 4 a).run Tryz.prog w=.ok v w:=by
 simp[loadVar,run_underlying Tryz.underlying4,go_sem,h]
theorem Wo {w:World} {B g2 g3:Nat} {v2 v3:Value} (h:NW w B g2 g3 v2 v3) (tmps:Array Value) (h2:tmps.getD 2 undef=.pointer (some ⟨g2,0,none⟩)) (h3:tmps.getD 3 undef=.pointer (some ⟨g3,0,none⟩)) :
  (results Tryz.f47 tmps).run Tryz.prog w=.ok (.tuple #[v2,v3]) w:=
 results2 Tryz.results47 tmps w _ _ _ _ h2 h3 (AB3 _ _ _ (h.b2.cell 0)) (AB4 _ _ _ (h.b3.cell 0))
theorem zO (w:World):NW ((w.alloc (.cells #[.slice none 0 0] 76)).alloc (.cells #[.bool false] 4)) w.heap.size w.heap.size (w.heap.size+1) (.slice none 0 0) (.bool false):=by
 have b2:=(AV.new w 76 #[.slice none 0 0]).alloc (.cells #[.bool false] 4)
 have b3:=AV.new (w.alloc (.cells #[.slice none 0 0] 76)) 4 #[.bool false]
 simp only[World.size_alloc]at b2 b3
 exact⟨Nat.le_refl _,by omega,b2,b3⟩
theorem IZ.keeps {w w':World} {B B0:Nat} {A:Option Addr} {b:List UInt8} {x:Ex} {e:Dp} {T:List TypeId} (h:IZ w B A b x e) (hk:AJ B0 T w w') (hu:5∉T):IZ w' B A b x e:=
 ⟨h.is,h.at0,hk.own h.own hu,h.len,h.room,h.cap,h.within⟩
theorem IZ.AFI {w:World} {B:Nat} {A:Option Addr} {b:List UInt8} {x:Ex} (h:IZ w B A b x x.e) (hl:JU w B A b):VQ B w x:=fun w2 h2=>by
 have ho2:BN w2 B (Cm x.bs) x.e.f.bytes:=h2.Ji.own h.own (by decide)
 obtain⟨A',c,e,q1,q2,q3,_⟩:=ho2.slice
 unfold Cm at e
 injection e with e1 e2 e3
 exact⟨e2,by rw[e3];exact q1,by rw[e3];exact q2,by rw[e1];exact q3,h.len,h.room,h.cap,h.within.at_ _ (hl.keeps h2.Ji).at_⟩
theorem iJ {w:World} {B B':Nat} {A:Option Addr} {b:List UInt8} {x:Ex} {e:Dp} (h:IZ w B A b x e) (hb:B'≤B):IZ w B' A b x e:=
 ⟨h.is,h.at0,AZ h.own hb,h.len,h.room,h.cap,h.within⟩
structure JW (w:World) (B g2 q:Nat) (A:Option Addr) (n c p:Nat) (b:List UInt8) (xs:List Ex) (l:List Dp) (vl:Value):Prop where
 Me:JS w q A n c p
 pn:p≤n
 low:JU w q A b
 res:AV w g2 76 #[vl]
 own:w.ownsRow B 78 9 vl xs.length (xs.flatMap eC)
 is:xs.map Ex.e=l
 all:∀ x∈xs,IZ w B A b x x.e
theorem JW.below {w w':World} {B g2 q:Nat} {A:Option Addr} {n c p:Nat} {b:List UInt8} {xs:List Ex} {l:List Dp} {vl:Value} (h:JW w B g2 q A n c p b xs l vl) (hb:Below w.heap.size w w'):JW w' B g2 q A n c p b xs l vl:=
 ⟨AV.below h.Me hb (AV.lt h.Me),h.pn,⟨BI.below h.low.at_ hb,h.low.low⟩,h.res.below hb h.res.lt,AP h.own hb,h.is,fun x hx=>⟨(h.all x hx).is,(h.all x hx).at0,AP (h.all x hx).own hb,(h.all x hx).len,(h.all x hx).room,(h.all x hx).cap,(h.all x hx).within⟩⟩
def outT:List TypeId:=[76,4]
theorem cells3 {W:World} {q g2:Nat} {A:Option Addr} {n c p:Nat} {vl:Value} (h:JS W q A n c p∧AV W g2 76 #[vl]) :
  W.cell? ⟨q,0,none⟩=some (.slice A n c)∧W.cell? ⟨q,1,none⟩=some (.int .i64 (p:Int))∧W.cell? ⟨g2,0,none⟩=some vl:=⟨h.1.c0,h.1.c1,h.2.cell 0⟩
def Uo (R:Option (List Dp)) (A:Option Addr) (b:List UInt8) (w:World) (e:Ending) (w':World):Prop:=match R with
   | none=>e=.returned (.tuple #[.slice none 0 0,.bool false])
   | some l=>∃ (xs:List Ex) (vl:Value),e=.returned (.tuple #[vl,.bool (decide (laidB l=b))])∧xs.map Ex.e=l∧w'.ownsRow w.heap.size 78 9 vl xs.length ((ME xs 0).flatMap eC)∧(∀ x∈xs,IZ w' w.heap.size A b x x.e)
set_option maxRecDepth 100000 in
set_option maxHeartbeats 4000000 in
theorem bH (A:Option Addr) (n c:Nat) (b:List UInt8) (w:World) (hn:b.length=n) (hnc:n≤c) (hcm:c≤maxLen) (h12:n≤12000) (hA:BI w A b) :
  Calls Tryz.prog 47 #[.slice A n c] w fun e w'=>Uo (Dt b 14 0 []) A b w e w'∧Below w.heap.size w w':=by
 have hmf:∀ (fn:Fn) (first cap:Array Value) (w:World),(Instr.makeFunc fn first cap).run Tryz.prog w=.ok (.func fn first cap) w:=fun _ _ _ _=>rfl
 have Hn:=Lib.hid hn
 have HA:=Lib.hid hA
 obtain⟨R,hR⟩:∃ R,R=Dt b 14 0 []:=⟨_,rfl⟩
 rw[←hR]
 have HR:=Lib.hid hR
 clear hn hA hR
 go_enter_defers Tryz.func47,Tryz.ntmps47
 go_wp2_with fail
 have QM:=Lib.hid (zO w)
 have BA:Below w.heap.size w ((w.alloc (.cells #[.slice none 0 0] 76)).alloc (.cells #[.bool false] 4)):=((Below.refl _ _).alloc (Nat.le_refl _) _).alloc (by simp only[World.size_alloc];omega) _
 have hsz:((w.alloc (.cells #[.slice none 0 0] 76)).alloc (.cells #[.bool false] 4)).heap.size=w.heap.size+1+1:=by simp
 generalize (w.alloc (.cells #[.slice none 0 0] 76)).alloc (.cells #[.bool false] 4)=w1 at *
 have hbr:Below w1.heap.size w1 (w1.alloc (.cells #[.slice A n c,.int .i64 0] 112)):=(Below.refl _ _).alloc (Nat.le_refl _) _
 have hR2:=AV.new w1 112 #[.slice A n c,.int .i64 0]
 have Wp:=Lib.hid (QM.out.below hbr)
 have Hb2:Hid (Below w.heap.size w (w1.alloc (.cells #[.slice A n c,.int .i64 0] 112))):=Lib.hid (BA.trans (hbr.mono (by omega)))
 generalize w1.alloc (.cells #[.slice A n c,.int .i64 0] 112)=w2 at *
 have dM:Hid (JU w w.heap.size A b):=Lib.hid ⟨HA.out,fun a o e hp=>Inf.Zh (e▸HA.out) (by rw[List.length_map];exact hp)⟩
 obtain⟨g2,hg2⟩:∃ g2,g2=w.heap.size:=⟨_,rfl⟩
 obtain⟨g3,hg3⟩:∃ g3,g3=w.heap.size+1:=⟨_,rfl⟩
 obtain⟨q,hq⟩:∃ q,q=w.heap.size+1+1:=⟨_,rfl⟩
 rw[hsz,←hq]at hR2
 rw[←hq]
 rw[←hg3]at QM Wp⊢
 rw[←hg2]at dM QM Wp Hb2⊢
 have hgq:g2≤q∧g2 < q∧g3 < q:=by omega
 have Q0:=Lib.hid hg2
 have HE0:Hid (JW w2 g2 g2 q A n c 0 b [] [] (.slice none 0 0)):=Lib.hid ⟨hR2,Nat.zero_le _,⟨BI.below HA.out (by rw[←hg2];exact Hb2.out),fun a o e hp=>by have:=dM.out.low a o e hp;omega⟩,Wp.out.b2,World.ownsRow_nil _ _ _ _,rfl,by simp⟩
 have HB3:=Lib.hid Wp.out.b3
 have hle3:g2≤g3:=Wp.out.jY
 clear hg2 hg3 hq BA hbr hR2 Wp QM hsz
 go_loopw [] (fun wr=>∃ (f p:Nat) (xs:List Ex) (l:List Dp) (vl:Value),f+l.length=14∧l.length≤13∧R=Dt b f p l∧JW wr g2 g2 q A n c p b xs l vl∧AV wr g3 4 #[.bool false]∧Below g2 w wr) (fun wr=>14 - (match wr.cell? ⟨g2,0,none⟩ with | some (.slice _ m _)=>m | _=>0))
 case atStart=>exact⟨14,0,[],[],_,rfl,by simp,HR.out,HE0.out,HB3.out,Hb2.out⟩
 case round=>
  obtain⟨f,p,xs,l,vl,hfl,ANx,hR,he,h3,hb⟩:=hrel
  obtain⟨Av,cv,rfl,hv1,hv2,_,_⟩:=Ad he.own
  have aU:Hid (xs.length=l.length):=Lib.hid (by rw[←he.is,List.length_map])
  have Hwc:Hid (wr.cell? ⟨g2,0,none⟩=some (.slice Av xs.length cv)):=Lib.hid (he.res.cell 0)
  have HE:=Lib.hid he
  have H3:=Lib.hid h3
  have Hb:=Lib.hid hb
  obtain⟨f,rfl⟩:∃ f',f=f'+1:=⟨f - 1,by omega⟩
  have HRr:=Lib.hid (show R=if p+4≤b.length∧(b.drop p).take 4=Du∧l.length≤12 then (Ul b p).bind fun x=>Dt b f x.2 (l++[x.1]) else some l from hR)
  clear hR he h3 hb HE0 HB3 Hb2
  go_upto_region 3 with fail
  go_cut [36] from 9 to 36 (fun bv wx=>bv=.bool (decide (p+4≤b.length∧(b.drop p).take 4=Du∧l.length≤12))∧JW wx g2 g2 q A n c p b xs l (.slice Av xs.length cv)∧AV wx g3 4 #[.bool false]∧Below g2 w wx)
  case first=>
   by_cases h4:p+4≤n
   ·have hbl:0 < b.length:=by rw[Hn.out];omega
    obtain⟨a,o,rfl,_⟩:=HA.out.get (k:=0) hbl
    refine FI ?_
    refine Bp (fun W=>JS W q (some ⟨a,o,none⟩) n c p∧AV W g2 76 #[.slice Av xs.length cv]) 27 (by kernel_rfl) ?_
    have hHeld:JS wr.drew q (some ⟨a,o,none⟩) n c p∧AV wr.drew g2 76 #[.slice Av xs.length cv]:=⟨HE.out.Me,HE.out.res⟩
    have hnp:IntKind.i64.wrap ((n:Int) - (p:Int))=(n:Int) - (p:Int):=IntWalk.i64_in _ (by unfold maxLen at hcm;omega)
    have hg4:(4:Int)≤(n:Int) - (p:Int):=by omega
    have hpp:IntKind.i64.wrap ((p:Int)+4)=(p:Int)+4:=IntWalk.i64_in _ (by unfold maxLen at hcm;omega)
    have hc1:(p:Int)+4≤(c:Int):=by omega
    have hc2:(p:Int)≤(p:Int)+4:=by omega
    have hcp:¬ c=p:=by omega
    refine AA (i:=0) (v:=?zn) (by kernel_rfl) (by kernel_rfl) rfl (by kernel_rfl) (by kernel_rfl) (by kernel_rfl) (fun _ _ _ h=>by cases h.1) (by rfl) (by assumption) ?Js ?Jt
    case Js=>(intro W hSW;obtain⟨k0,k1,k2⟩:=cells3 hSW;go_simp;try with_reducible rfl)
    (try simp only[Act.put,l0A,l0B,l0C,l0D,l0E,l0F])
    refine AA (i:=1) (v:=?vG) (by kernel_rfl) (by kernel_rfl) rfl (by kernel_rfl) (by kernel_rfl) (by kernel_rfl) (fun _ _ _ h=>by cases h.1) (by rfl) (by assumption) ?JE ?JF
    case JE=>(intro W hSW;obtain⟨k0,k1,k2⟩:=cells3 hSW;go_simp;try with_reducible rfl)
    (try simp only[Act.put,l0A,l0B,l0C,l0D,l0E,l0F])
    refine AA (i:=2) (v:=?va2) (by kernel_rfl) (by kernel_rfl) rfl (by kernel_rfl) (by kernel_rfl) (by kernel_rfl) (fun _ _ _ h=>by cases h.1) (by rfl) (by assumption) ?OA ?OB
    case OA=>(intro W hSW;obtain⟨k0,k1,k2⟩:=cells3 hSW;go_simp;try with_reducible rfl)
    (try simp only[Act.put,l0A,l0B,l0C,l0D,l0E,l0F])
    refine AA (i:=3) (v:=?va3) (by kernel_rfl) (by kernel_rfl) rfl (by kernel_rfl) (by kernel_rfl) (by kernel_rfl) (fun _ _ _ h=>by cases h.1) (by rfl) (by assumption) ?K5 ?K6
    case K5=>(intro W hSW;obtain⟨k0,k1,k2⟩:=cells3 hSW;go_simp;try with_reducible rfl)
    (try simp only[Act.put,l0A,l0B,l0C,l0D,l0E,l0F])
    refine AA (i:=4) (v:=?va4) (by kernel_rfl) (by kernel_rfl) rfl (by kernel_rfl) (by kernel_rfl) (by kernel_rfl) (fun _ _ _ h=>by cases h.1) (by rfl) (by assumption) ?K7 ?K8
    case K7=>(intro W hSW;obtain⟨k0,k1,k2⟩:=cells3 hSW;go_simp;try with_reducible rfl)
    (try simp only[Act.put,l0A,l0B,l0C,l0D,l0E,l0F])
    refine AA (i:=5) (v:=?va5) (by kernel_rfl) (by kernel_rfl) rfl (by kernel_rfl) (by kernel_rfl) (by kernel_rfl) (fun _ _ _ h=>by cases h.1) (by rfl) (by assumption) ?K9 ?LC
    case K9=>(intro W hSW;obtain⟨k0,k1,k2⟩:=cells3 hSW;go_simp;try with_reducible rfl)
    (try simp only[Act.put,l0A,l0B,l0C,l0D,l0E,l0F])
    refine AA (i:=6) (v:=?va6) (by kernel_rfl) (by kernel_rfl) rfl (by kernel_rfl) (by kernel_rfl) (by kernel_rfl) (fun _ _ _ h=>by cases h.1) (by rfl) (by assumption) ?Xb ?Xc
    case Xb=>(intro W hSW;obtain⟨k0,k1,k2⟩:=cells3 hSW;go_simp;try with_reducible rfl)
    (try simp only[Act.put,l0A,l0B,l0C,l0D,l0E,l0F])
    refine AA (i:=7) (v:=?va7) (by kernel_rfl) (by kernel_rfl) rfl (by kernel_rfl) (by kernel_rfl) (by kernel_rfl) (fun _ _ _ h=>by cases h.1) (by rfl) (by assumption) ?Xd ?Xe
    case Xd=>(intro W hSW;obtain⟨k0,k1,k2⟩:=cells3 hSW;go_simp;try with_reducible rfl)
    (try simp only[Act.put,l0A,l0B,l0C,l0D,l0E,l0F])
    refine AA (i:=8) (v:=?va8) (by kernel_rfl) (by kernel_rfl) rfl (by kernel_rfl) (by kernel_rfl) (by kernel_rfl) (fun _ _ _ h=>by cases h.1) (by rfl) (by assumption) ?ADf ?ADg
    case ADf=>(intro W hSW;obtain⟨k0,k1,k2⟩:=cells3 hSW;go_simp;try with_reducible rfl)
    (try simp only[Act.put,l0A,l0B,l0C,l0D,l0E,l0F])
    refine AA (i:=9) (v:=?va9) (by kernel_rfl) (by kernel_rfl) rfl (by kernel_rfl) (by kernel_rfl) (by kernel_rfl) (fun _ _ _ h=>by cases h.1) (by rfl) (by assumption) ?di ?dm
    case di=>(intro W hSW;obtain⟨k0,k1,k2⟩:=cells3 hSW;go_simp;try with_reducible rfl)
    (try simp only[Act.put,l0A,l0B,l0C,l0D,l0E,l0F])
    refine AA (i:=10) (v:=?ADh) (by kernel_rfl) (by kernel_rfl) rfl (by kernel_rfl) (by kernel_rfl) (by kernel_rfl) (fun _ _ _ h=>by cases h.1) (by rfl) (by assumption) ?TM ?Xf
    case TM=>(intro W hSW;obtain⟨k0,k1,k2⟩:=cells3 hSW;go_simp;try with_reducible rfl)
    (try simp only[Act.put,l0A,l0B,l0C,l0D,l0E,l0F])
    refine AA (i:=11) (v:=?AKS) (by kernel_rfl) (by kernel_rfl) rfl (by kernel_rfl) (by kernel_rfl) (by kernel_rfl) (fun _ _ _ h=>by cases h.1) (by rfl) (by assumption) ?wB ?AAo
    case wB=>(intro W hSW;obtain⟨k0,k1,k2⟩:=cells3 hSW;go_simp;try with_reducible rfl)
    (try simp only[Act.put,l0A,l0B,l0C,l0D,l0E,l0F])
    refine AA (i:=12) (v:=?AKT) (by kernel_rfl) (by kernel_rfl) rfl (by kernel_rfl) (by kernel_rfl) (by kernel_rfl) (fun _ _ _ h=>by cases h.1) (by rfl) (by assumption) ?wC ?AAp
    case wC=>(intro W hSW;obtain⟨k0,k1,k2⟩:=cells3 hSW;go_simp;try with_reducible rfl)
    (try simp only[Act.put,l0A,l0B,l0C,l0D,l0E,l0F])
    refine AA (i:=13) (v:=?ANy) (by kernel_rfl) (by kernel_rfl) rfl (by kernel_rfl) (by kernel_rfl) (by kernel_rfl) (fun _ _ _ h=>by cases h.1) (by rfl) (by assumption) ?AIl ?AJZ
    case AIl=>(intro W hSW;obtain⟨k0,k1,k2⟩:=cells3 hSW;go_simp;try with_reducible rfl)
    (try simp only[Act.put,l0A,l0B,l0C,l0D,l0E,l0F])
    refine AA (i:=14) (v:=?ANz) (by kernel_rfl) (by kernel_rfl) rfl (by kernel_rfl) (by kernel_rfl) (by kernel_rfl) (fun _ _ _ h=>by cases h.1) (by rfl) (by assumption) ?AIm ?AJa
    case AIm=>(intro W hSW;obtain⟨k0,k1,k2⟩:=cells3 hSW;go_simp;try with_reducible rfl)
    (try simp only[Act.put,l0A,l0B,l0C,l0D,l0E,l0F])
    refine AA (i:=15) (v:=?AN0) (by kernel_rfl) (by kernel_rfl) rfl (by kernel_rfl) (by kernel_rfl) (by kernel_rfl) (fun _ _ _ h=>by cases h.1) (by rfl) (by assumption) ?AIn ?AJb
    case AIn=>(intro W hSW;obtain⟨k0,k1,k2⟩:=cells3 hSW;go_simp;try with_reducible rfl)
    (try simp only[Act.put,l0A,l0B,l0C,l0D,l0E,l0F])
    refine AA (i:=16) (v:=?AN1) (by kernel_rfl) (by kernel_rfl) rfl (by kernel_rfl) (by kernel_rfl) (by kernel_rfl) (fun _ _ _ h=>by cases h.1) (by rfl) (by assumption) ?AIo ?AJc
    case AIo=>(intro W hSW;obtain⟨k0,k1,k2⟩:=cells3 hSW;go_simp;try with_reducible rfl)
    (try simp only[Act.put,l0A,l0B,l0C,l0D,l0E,l0F])
    refine AA (i:=17) (v:=?AN2) (by kernel_rfl) (by kernel_rfl) rfl (by kernel_rfl) (by kernel_rfl) (by kernel_rfl) (fun _ _ _ h=>by cases h.1) (by rfl) (by assumption) ?AIp ?AJd
    case AIp=>(intro W hSW;obtain⟨k0,k1,k2⟩:=cells3 hSW;go_simp;try with_reducible rfl)
    (try simp only[Act.put,l0A,l0B,l0C,l0D,l0E,l0F])
    refine AA (i:=18) (v:=?AN3) (by kernel_rfl) (by kernel_rfl) rfl (by kernel_rfl) (by kernel_rfl) (by kernel_rfl) (fun _ _ _ h=>by cases h.1) (by rfl) (by assumption) ?AIq ?AJe
    case AIq=>(intro W hSW;obtain⟨k0,k1,k2⟩:=cells3 hSW;go_simp;try with_reducible rfl)
    (try simp only[Act.put,l0A,l0B,l0C,l0D,l0E,l0F])
    refine AA (i:=19) (v:=?AN4) (by kernel_rfl) (by kernel_rfl) rfl (by kernel_rfl) (by kernel_rfl) (by kernel_rfl) (fun _ _ _ h=>by cases h.1) (by rfl) (by assumption) ?AIr ?AJf
    case AIr=>(intro W hSW;obtain⟨k0,k1,k2⟩:=cells3 hSW;go_simp;try with_reducible rfl)
    (try simp only[Act.put,l0A,l0B,l0C,l0D,l0E,l0F])
    have hdr:Below wr.heap.size wr wr.drew:=(Below.refl _ _).drew
    have Oi:Hid (JW wr.drew g2 g2 q (some ⟨a,o,none⟩) n c p b xs l (.slice Av xs.length cv)):=Lib.hid (HE.out.below hdr)
    have zP:Hid (AV wr.drew g3 4 #[.bool false]):=Lib.hid H3.out
    have cK:=Lib.hid (Hb.out.trans (hdr.mono (by rw[Q0.out];exact Hb.out.size)))
    clear hdr HE H3 Hb
    generalize wr.drew=w3 at *
    refine AB (i:=20) rfl (by kernel_rfl) (fun K hK=>?_)
    go_simp
    clear hHeld
    go_at_call 65
    refine (EC w3.heap.size (.slice none 0 0) [] 67324752 4 67324752 4 w3 (BN.nil _ _) (Nat.le_refl _) rfl rfl (by omega) (by omega) (by simp)).mono ?_
    rintro e w4 ⟨⟨u4,rfl,ho⟩,hb4⟩
    have Ps:Hid (JW w4 g2 g2 q (some ⟨a,o,none⟩) n c p b xs l (.slice Av xs.length cv)):=Lib.hid (Oi.out.below hb4)
    have H34:Hid (AV w4 g3 4 #[.bool false]):=Lib.hid (zP.out.below hb4 zP.out.lt)
    have Hb4:=Lib.hid (cK.out.trans (hb4.mono (by rw[Q0.out];exact cK.out.size)))
    obtain⟨A4,c4,rfl,h41,h42,h43,h44⟩:=ho.slice
    have OC:Hid (BI w4 A4 Du):=Lib.hid h43
    have HD4:Hid (BI w4 (some ⟨a,o+p,none⟩) ((b.drop p).take 4)):=Lib.hid ((BI.drop Ps.out.low.at_ p).take 4)
    rw[show (([]:List UInt8)++Ai 4 67324752).length=4 from by simp[Ae]]
    clear ho hb4 Oi zP cK h43 h44
    refine hK.out _ _ ⟨Ps.out.Me,Ps.out.res⟩ (fun hHeld=>?_)
    clear hK K
    (try simp only[Act.put,l0A,l0B,l0C,l0D,l0E,l0F])
    refine AB (i:=21) rfl (by kernel_rfl) (fun K hK=>?_)
    go_simp
    clear hHeld
    go_at_call 22
    rw[show ((p:Int)+4).toNat - p=4 by omega]
    refine (IA _ A4 4 4 (c - p) c4 ((b.drop p).take 4) Du w4 (by rw[List.length_take,List.length_drop,Hn.out];omega) (by decide) HD4.out OC.out).mono ?_
    rintro e w5 ⟨rfl,rfl⟩
    refine hK.out _ _ ⟨Ps.out.Me,Ps.out.res⟩ (fun hHeld=>?_)
    clear hK K
    (try simp only[Act.put,l0A,l0B,l0C,l0D,l0E,l0F])
    by_cases hs:(b.drop p).take 4=Du
    ·rw[show decide ((b.drop p).take 4=Du)=true from by simp[hs]]
     refine AA (i:=22) (v:=?AN5) (by kernel_rfl) (by kernel_rfl) rfl (by kernel_rfl) (by kernel_rfl) (by kernel_rfl) (fun _ _ _ h=>by cases h.1) (by rfl) (by assumption) ?AIs ?AJg
     case AIs=>(intro W hSW;obtain⟨k0,k1,k2⟩:=cells3 hSW;go_simp;try with_reducible rfl)
     (try simp only[Act.put,l0A,l0B,l0C,l0D,l0E,l0F])
     refine AA (i:=23) (v:=?AN6) (by kernel_rfl) (by kernel_rfl) rfl (by kernel_rfl) (by kernel_rfl) (by kernel_rfl) (fun _ _ _ h=>by cases h.1) (by rfl) (by assumption) ?AIt ?AJh
     case AIt=>(intro W hSW;obtain⟨k0,k1,k2⟩:=cells3 hSW;go_simp;try with_reducible rfl)
     (try simp only[Act.put,l0A,l0B,l0C,l0D,l0E,l0F])
     refine AA (i:=24) (v:=?AN7) (by kernel_rfl) (by kernel_rfl) rfl (by kernel_rfl) (by kernel_rfl) (by kernel_rfl) (fun _ _ _ h=>by cases h.1) (by rfl) (by assumption) ?AIu ?AJi
     case AIu=>(intro W hSW;obtain⟨k0,k1,k2⟩:=cells3 hSW;go_simp;try with_reducible rfl)
     (try simp only[Act.put,l0A,l0B,l0C,l0D,l0E,l0F])
     refine AA (i:=25) (v:=?AN8) (by kernel_rfl) (by kernel_rfl) rfl (by kernel_rfl) (by kernel_rfl) (by kernel_rfl) (fun _ _ _ h=>by cases h.1) (by rfl) (by assumption) ?AIv ?AJj
     case AIv=>(intro W hSW;obtain⟨k0,k1,k2⟩:=cells3 hSW;go_simp;try with_reducible rfl)
     (try simp only[Act.put,l0A,l0B,l0C,l0D,l0E,l0F])
     refine AA (i:=26) (v:=?AN9) (by kernel_rfl) (by kernel_rfl) rfl (by kernel_rfl) (by kernel_rfl) (by kernel_rfl) (fun _ _ _ h=>by cases h.1) (by rfl) (by assumption) ?AIw ?AJk
     case AIw=>(intro W hSW;obtain⟨k0,k1,k2⟩:=cells3 hSW;go_simp;try with_reducible rfl)
     (try simp only[Act.put,l0A,l0B,l0C,l0D,l0E,l0F])
     refine BH rfl (by kernel_rfl) (by kernel_rfl) (fun K hK=>?_)
     go_simp
     clear hHeld
     refine hK.out _ _ ⟨rfl,?_⟩
     clear hK K
     go_wp2_with fail
     go_meet
     case rel=>exact⟨by rw[Hn.out];simp[h4,hs];have:=aU.out;omega,Ps.out,H34.out,Hb4.out⟩
    ·rw[show decide ((b.drop p).take 4=Du)=false from by simp[hs]]
     refine AA (i:=22) (v:=?AOA) (by kernel_rfl) (by kernel_rfl) rfl (by kernel_rfl) (by kernel_rfl) (by kernel_rfl) (fun _ _ _ h=>by cases h.1) (by rfl) (by assumption) ?AIx ?AJl
     case AIx=>(intro W hSW;obtain⟨k0,k1,k2⟩:=cells3 hSW;go_simp;try with_reducible rfl)
     (try simp only[Act.put,l0A,l0B,l0C,l0D,l0E,l0F])
     refine AA (i:=23) (v:=?AOB) (by kernel_rfl) (by kernel_rfl) rfl (by kernel_rfl) (by kernel_rfl) (by kernel_rfl) (fun _ _ _ h=>by cases h.1) (by rfl) (by assumption) ?AIy ?AJm
     case AIy=>(intro W hSW;obtain⟨k0,k1,k2⟩:=cells3 hSW;go_simp;try with_reducible rfl)
     (try simp only[Act.put,l0A,l0B,l0C,l0D,l0E,l0F])
     refine BF (i:=24) (by kernel_rfl) (by kernel_rfl) rfl (by kernel_rfl) (by kernel_rfl) (by kernel_rfl) (fun _ _ _ h=>by cases h.1) (by rfl) (by assumption) ?_
     (try simp only[Act.put,l0A,l0B,l0C,l0D,l0E,l0F])
     refine BF (i:=25) (by kernel_rfl) (by kernel_rfl) rfl (by kernel_rfl) (by kernel_rfl) (by kernel_rfl) (fun _ _ _ h=>by cases h.1) (by rfl) (by assumption) ?_
     (try simp only[Act.put,l0A,l0B,l0C,l0D,l0E,l0F])
     refine BF (i:=26) (by kernel_rfl) (by kernel_rfl) rfl (by kernel_rfl) (by kernel_rfl) (by kernel_rfl) (fun _ _ _ h=>by cases h.1) (by rfl) (by assumption) ?_
     (try simp only[Act.put,l0A,l0B,l0C,l0D,l0E,l0F])
     refine BH rfl (by kernel_rfl) (by kernel_rfl) (fun K hK=>?_)
     go_simp
     clear hHeld
     refine hK.out _ _ ⟨rfl,?_⟩
     clear hK K
     go_wp2_with fail
     go_meet
     case rel=>exact⟨by simp[hs],Ps.out,H34.out,Hb4.out⟩
   ·refine FI ?_
    refine Bp (fun W=>JS W q A n c p∧AV W g2 76 #[.slice Av xs.length cv]) 27 (by kernel_rfl) ?_
    have hHeld:JS wr.drew q A n c p∧AV wr.drew g2 76 #[.slice Av xs.length cv]:=⟨HE.out.Me,HE.out.res⟩
    have hnp:IntKind.i64.wrap ((n:Int) - (p:Int))=(n:Int) - (p:Int):=IntWalk.i64_in _ (by have:=HE.out.pn;unfold maxLen at hcm;omega)
    have hg4:¬ (4:Int)≤(n:Int) - (p:Int):=by omega
    refine AA (i:=0) (v:=?vs0) (by kernel_rfl) (by kernel_rfl) rfl (by kernel_rfl) (by kernel_rfl) (by kernel_rfl) (fun _ _ _ h=>by cases h.1) (by rfl) (by assumption) ?ALW ?ALX
    case ALW=>(intro W hSW;obtain⟨k0,k1,k2⟩:=cells3 hSW;go_simp;try with_reducible rfl)
    (try simp only[Act.put,l0A,l0B,l0C,l0D,l0E,l0F])
    refine AA (i:=1) (v:=?vs1) (by kernel_rfl) (by kernel_rfl) rfl (by kernel_rfl) (by kernel_rfl) (by kernel_rfl) (fun _ _ _ h=>by cases h.1) (by rfl) (by assumption) ?ALY ?ALZ
    case ALY=>(intro W hSW;obtain⟨k0,k1,k2⟩:=cells3 hSW;go_simp;try with_reducible rfl)
    (try simp only[Act.put,l0A,l0B,l0C,l0D,l0E,l0F])
    refine AA (i:=2) (v:=?vs2) (by kernel_rfl) (by kernel_rfl) rfl (by kernel_rfl) (by kernel_rfl) (by kernel_rfl) (fun _ _ _ h=>by cases h.1) (by rfl) (by assumption) ?ALa ?ALb
    case ALa=>(intro W hSW;obtain⟨k0,k1,k2⟩:=cells3 hSW;go_simp;try with_reducible rfl)
    (try simp only[Act.put,l0A,l0B,l0C,l0D,l0E,l0F])
    refine AA (i:=3) (v:=?vs3) (by kernel_rfl) (by kernel_rfl) rfl (by kernel_rfl) (by kernel_rfl) (by kernel_rfl) (fun _ _ _ h=>by cases h.1) (by rfl) (by assumption) ?ALc ?ALd
    case ALc=>(intro W hSW;obtain⟨k0,k1,k2⟩:=cells3 hSW;go_simp;try with_reducible rfl)
    (try simp only[Act.put,l0A,l0B,l0C,l0D,l0E,l0F])
    refine AA (i:=4) (v:=?vs4) (by kernel_rfl) (by kernel_rfl) rfl (by kernel_rfl) (by kernel_rfl) (by kernel_rfl) (fun _ _ _ h=>by cases h.1) (by rfl) (by assumption) ?ALe ?ALf
    case ALe=>(intro W hSW;obtain⟨k0,k1,k2⟩:=cells3 hSW;go_simp;try with_reducible rfl)
    (try simp only[Act.put,l0A,l0B,l0C,l0D,l0E,l0F])
    refine AA (i:=5) (v:=?vs5) (by kernel_rfl) (by kernel_rfl) rfl (by kernel_rfl) (by kernel_rfl) (by kernel_rfl) (fun _ _ _ h=>by cases h.1) (by rfl) (by assumption) ?ALg ?ALh
    case ALg=>(intro W hSW;obtain⟨k0,k1,k2⟩:=cells3 hSW;go_simp;try with_reducible rfl)
    (try simp only[Act.put,l0A,l0B,l0C,l0D,l0E,l0F])
    refine AA (i:=6) (v:=?vs6) (by kernel_rfl) (by kernel_rfl) rfl (by kernel_rfl) (by kernel_rfl) (by kernel_rfl) (fun _ _ _ h=>by cases h.1) (by rfl) (by assumption) ?ALi ?ALj
    case ALi=>(intro W hSW;obtain⟨k0,k1,k2⟩:=cells3 hSW;go_simp;try with_reducible rfl)
    (try simp only[Act.put,l0A,l0B,l0C,l0D,l0E,l0F])
    refine AA (i:=7) (v:=?vs7) (by kernel_rfl) (by kernel_rfl) rfl (by kernel_rfl) (by kernel_rfl) (by kernel_rfl) (fun _ _ _ h=>by cases h.1) (by rfl) (by assumption) ?ALk ?ALl
    case ALk=>(intro W hSW;obtain⟨k0,k1,k2⟩:=cells3 hSW;go_simp;try with_reducible rfl)
    (try simp only[Act.put,l0A,l0B,l0C,l0D,l0E,l0F])
    refine AA (i:=8) (v:=?vs8) (by kernel_rfl) (by kernel_rfl) rfl (by kernel_rfl) (by kernel_rfl) (by kernel_rfl) (fun _ _ _ h=>by cases h.1) (by rfl) (by assumption) ?ALm ?ALn
    case ALm=>(intro W hSW;obtain⟨k0,k1,k2⟩:=cells3 hSW;go_simp;try with_reducible rfl)
    (try simp only[Act.put,l0A,l0B,l0C,l0D,l0E,l0F])
    refine BF (i:=9) (by kernel_rfl) (by kernel_rfl) rfl (by kernel_rfl) (by kernel_rfl) (by kernel_rfl) (fun _ _ _ h=>by cases h.1) (by rfl) (by assumption) ?_
    (try simp only[Act.put,l0A,l0B,l0C,l0D,l0E,l0F])
    refine BF (i:=10) (by kernel_rfl) (by kernel_rfl) rfl (by kernel_rfl) (by kernel_rfl) (by kernel_rfl) (fun _ _ _ h=>by cases h.1) (by rfl) (by assumption) ?_
    (try simp only[Act.put,l0A,l0B,l0C,l0D,l0E,l0F])
    refine BF (i:=11) (by kernel_rfl) (by kernel_rfl) rfl (by kernel_rfl) (by kernel_rfl) (by kernel_rfl) (fun _ _ _ h=>by cases h.1) (by rfl) (by assumption) ?_
    (try simp only[Act.put,l0A,l0B,l0C,l0D,l0E,l0F])
    refine BF (i:=12) (by kernel_rfl) (by kernel_rfl) rfl (by kernel_rfl) (by kernel_rfl) (by kernel_rfl) (fun _ _ _ h=>by cases h.1) (by rfl) (by assumption) ?_
    (try simp only[Act.put,l0A,l0B,l0C,l0D,l0E,l0F])
    refine BF (i:=13) (by kernel_rfl) (by kernel_rfl) rfl (by kernel_rfl) (by kernel_rfl) (by kernel_rfl) (fun _ _ _ h=>by cases h.1) (by rfl) (by assumption) ?_
    (try simp only[Act.put,l0A,l0B,l0C,l0D,l0E,l0F])
    refine BF (i:=14) (by kernel_rfl) (by kernel_rfl) rfl (by kernel_rfl) (by kernel_rfl) (by kernel_rfl) (fun _ _ _ h=>by cases h.1) (by rfl) (by assumption) ?_
    (try simp only[Act.put,l0A,l0B,l0C,l0D,l0E,l0F])
    refine BF (i:=15) (by kernel_rfl) (by kernel_rfl) rfl (by kernel_rfl) (by kernel_rfl) (by kernel_rfl) (fun _ _ _ h=>by cases h.1) (by rfl) (by assumption) ?_
    (try simp only[Act.put,l0A,l0B,l0C,l0D,l0E,l0F])
    refine BF (i:=16) (by kernel_rfl) (by kernel_rfl) rfl (by kernel_rfl) (by kernel_rfl) (by kernel_rfl) (fun _ _ _ h=>by cases h.1) (by rfl) (by assumption) ?_
    (try simp only[Act.put,l0A,l0B,l0C,l0D,l0E,l0F])
    refine BF (i:=17) (by kernel_rfl) (by kernel_rfl) rfl (by kernel_rfl) (by kernel_rfl) (by kernel_rfl) (fun _ _ _ h=>by cases h.1) (by rfl) (by assumption) ?_
    (try simp only[Act.put,l0A,l0B,l0C,l0D,l0E,l0F])
    refine BF (i:=18) (by kernel_rfl) (by kernel_rfl) rfl (by kernel_rfl) (by kernel_rfl) (by kernel_rfl) (fun _ _ _ h=>by cases h.1) (by rfl) (by assumption) ?_
    (try simp only[Act.put,l0A,l0B,l0C,l0D,l0E,l0F])
    refine BF (i:=19) (by kernel_rfl) (by kernel_rfl) rfl (by kernel_rfl) (by kernel_rfl) (by kernel_rfl) (fun _ _ _ h=>by cases h.1) (by rfl) (by assumption) ?_
    (try simp only[Act.put,l0A,l0B,l0C,l0D,l0E,l0F])
    have hdr:Below wr.heap.size wr wr.drew:=(Below.refl _ _).drew
    have Oi:Hid (JW wr.drew g2 g2 q A n c p b xs l (.slice Av xs.length cv)):=Lib.hid (HE.out.below hdr)
    have zP:Hid (AV wr.drew g3 4 #[.bool false]):=Lib.hid H3.out
    have cK:=Lib.hid (Hb.out.trans (hdr.mono (by rw[Q0.out];exact Hb.out.size)))
    clear hdr HE H3 Hb
    generalize wr.drew=w3 at *
    refine AB (i:=20) rfl (by kernel_rfl) (fun K hK=>?_)
    go_simp
    refine hK.out _ _ ⟨Oi.out.Me,Oi.out.res⟩ (fun hHeld=>?_)
    clear hK K
    (try simp only[Act.put,l0A,l0B,l0C,l0D,l0E,l0F])
    refine AB (i:=21) rfl (by kernel_rfl) (fun K hK=>?_)
    go_simp
    refine hK.out _ _ ⟨Oi.out.Me,Oi.out.res⟩ (fun hHeld=>?_)
    clear hK K
    (try simp only[Act.put,l0A,l0B,l0C,l0D,l0E,l0F])
    refine AA (i:=22) (v:=?AOC) (by kernel_rfl) (by kernel_rfl) rfl (by kernel_rfl) (by kernel_rfl) (by kernel_rfl) (fun _ _ _ h=>by cases h.1) (by rfl) (by assumption) ?AIz ?AJn
    case AIz=>(intro W hSW;obtain⟨k0,k1,k2⟩:=cells3 hSW;go_simp;try with_reducible rfl)
    (try simp only[Act.put,l0A,l0B,l0C,l0D,l0E,l0F])
    refine AA (i:=23) (v:=?AOD) (by kernel_rfl) (by kernel_rfl) rfl (by kernel_rfl) (by kernel_rfl) (by kernel_rfl) (fun _ _ _ h=>by cases h.1) (by rfl) (by assumption) ?AI0 ?AJo
    case AI0=>(intro W hSW;obtain⟨k0,k1,k2⟩:=cells3 hSW;go_simp;try with_reducible rfl)
    (try simp only[Act.put,l0A,l0B,l0C,l0D,l0E,l0F])
    refine BF (i:=24) (by kernel_rfl) (by kernel_rfl) rfl (by kernel_rfl) (by kernel_rfl) (by kernel_rfl) (fun _ _ _ h=>by cases h.1) (by rfl) (by assumption) ?_
    (try simp only[Act.put,l0A,l0B,l0C,l0D,l0E,l0F])
    refine BF (i:=25) (by kernel_rfl) (by kernel_rfl) rfl (by kernel_rfl) (by kernel_rfl) (by kernel_rfl) (fun _ _ _ h=>by cases h.1) (by rfl) (by assumption) ?_
    (try simp only[Act.put,l0A,l0B,l0C,l0D,l0E,l0F])
    refine BF (i:=26) (by kernel_rfl) (by kernel_rfl) rfl (by kernel_rfl) (by kernel_rfl) (by kernel_rfl) (fun _ _ _ h=>by cases h.1) (by rfl) (by assumption) ?_
    (try simp only[Act.put,l0A,l0B,l0C,l0D,l0E,l0F])
    refine BH rfl (by kernel_rfl) (by kernel_rfl) (fun K hK=>?_)
    go_simp
    clear hHeld
    refine hK.out _ _ ⟨rfl,?_⟩
    clear hK K
    go_wp2_with fail
    go_meet
    case rel=>exact⟨by rw[Hn.out];simp[h4],Oi.out,zP.out,cK.out⟩
  case rest=>
   obtain⟨rfl,he,h3,hb⟩:=hcut
   have HE:=Lib.hid he
   have H3:=Lib.hid h3
   have Hb:=Lib.hid hb
   clear he h3 hb
   by_cases hc:p+4≤b.length∧(b.drop p).take 4=Du∧l.length≤12
   ·rw[show decide (p+4≤b.length∧(b.drop p).take 4=Du∧l.length≤12)=true from decide_eq_true hc]
    have HR2:=Lib.hid (HRr.out.trans (if_pos hc))
    have hn0:0 < n:=by rw[←Hn.out];omega
    have AOE:xs.length≤12:=by rw[aU.out];exact hc.2.2
    clear hc HRr
    go_upto_region 4 with fail
    refine AB2 [{ v:=.iface 108 (.agg #[]),recovered:=false }] [{ target:=.fn (.func 66) #[.pointer (some ⟨g2,0,none⟩),.pointer (some ⟨g3,0,none⟩)],args:=#[] }] (.pointer (some ⟨g2,0,none⟩)) (.pointer (some ⟨g3,0,none⟩)) (fun W=>R=none∧NW W g2 g2 g3 (.slice Av xs.length cv) (.bool false)∧Below g2 w W) ?hp ?hw
    case hp=>
     rintro a W hd h2 h3 ⟨hRn,hout,hbW⟩
     show Leaves Tryz.prog Tryz.f47 a.tmps _ a.defers (.panicking _) W
     rw[hd]
     refine leaves_cons (by simp) (f:=66) (args:=#[.pointer (some ⟨g2,0,none⟩),.pointer (some ⟨g3,0,none⟩)]) (by simp[go_sem]) ?_
     refine (Qh g2 g2 g3 _ _ [] W (by have:=hbW.size;rw[Q0.out];exact this) hout).mono ?_
     rintro e u' w8 ⟨rfl,rfl,vv,Kk⟩
     refine⟨_,Wo vv _ h2 h3,?_,?_⟩
     ·unfold Uo
      rw[hRn]
     ·rw[←Q0.out]
      exact hbW.trans Kk
    case hw=>
     refine Bp (fun W=>AV W g2 76 #[.slice Av xs.length cv]) 5 (by kernel_rfl) ?_
     have hHeld:AV wc.drew g2 76 #[.slice Av xs.length cv]:=HE.out.res
     have hdr:Below wc.heap.size wc wc.drew:=(Below.refl _ _).drew
     have Oi:Hid (JW wc.drew g2 g2 q A n c p b xs l (.slice Av xs.length cv)):=Lib.hid (HE.out.below hdr)
     have zP:Hid (AV wc.drew g3 4 #[.bool false]):=Lib.hid H3.out
     have cK:=Lib.hid (Hb.out.trans (hdr.mono (by rw[Q0.out];exact Hb.out.size)))
     clear hdr HE H3 Hb
     generalize wc.drew=w3 at *
     refine AA (i:=0) (v:=?ve0) (by kernel_rfl) (by kernel_rfl) rfl (by kernel_rfl) (by kernel_rfl) (by kernel_rfl) (fun _ _ _ h=>bE (by decide) (by decide) h) (by rfl) (by assumption) ?ALo ?ALp
     case ALo=>(intro W hSW;have k2:=hSW.cell 0;go_simp;try with_reducible rfl)
     (try simp only[Act.put,l0A,l0B,l0C,l0D,l0E,l0F])
     refine AA (i:=1) (v:=?ve1) (by kernel_rfl) (by kernel_rfl) rfl (by kernel_rfl) (by kernel_rfl) (by kernel_rfl) (fun _ _ _ h=>bE (by decide) (by decide) h) (by rfl) (by assumption) ?ALq ?ALr
     case ALq=>(intro W hSW;have k2:=hSW.cell 0;go_simp;try with_reducible rfl)
     (try simp only[Act.put,l0A,l0B,l0C,l0D,l0E,l0F])
     refine AB (i:=2) rfl (by kernel_rfl) (fun K hK=>?_)
     go_simp
     clear hHeld
     go_at_call 67
     refine (qc q A n c p b w3 Oi.out.Me Hn.out hnc hcm Oi.out.pn hn0 Oi.out.low).mono ?_
     rintro e w4 ⟨hr,hk⟩
     have hs3:g2≤w3.heap.size:=by rw[Q0.out];exact cK.out.size
     have bI:Hid (AV w4 g2 76 #[.slice Av xs.length cv]):=Lib.hid (hk.blk Oi.out.res (by decide))
     have H34:Hid (AV w4 g3 4 #[.bool false]):=Lib.hid (hk.blk zP.out (by decide))
     have KQ:=Lib.hid (hk.own Oi.out.own (by decide))
     have ACx:=Lib.hid (Oi.out.low.keeps hk)
     have Hb4:Hid (Below g2 w w4):=Lib.hid (cK.out.trans (hk.below.mono hgq.1))
     have hs4:g2≤w4.heap.size:=Nat.le_trans hs3 hk.size
     have ACy:∀ y∈xs,IZ w4 g2 A b y y.e:=fun y hy=>(Oi.out.all y hy).keeps hk (by decide)
     have His:=Lib.hid Oi.out.is
     cases hent:Ul b p with
     | none=>
      rw[hent]at hr
      obtain rfl:e=DT:=hr
      unfold DT
      exact .inr ⟨rfl,⟨rfl,rfl,rfl⟩,by rw[HR2.out,hent];rfl,⟨Nat.le_refl _,hle3,bI.out,H34.out⟩,Hb4.out⟩
     | some y=>
      rw[hent]at hr
      obtain⟨xe,p2⟩:=y
      obtain⟨hp2,⟨x,rfl,hre⟩,hrd⟩:=hr
      dsimp only at hp2 hre hrd
      have HR4:Hid (R=Dt b f p2 (l++[xe])):=Lib.hid (by rw[HR2.out,hent];rfl)
      have ACz:Hid (∀ y∈xs++[x],IZ w4 g2 A b y y.e):=Lib.hid (fun y hy=>by
       rcases List.mem_append.1 hy with h | h
       ·exact ACy y h
       ·rw[List.mem_singleton.1 h,hre.is];exact iJ hre hs3)
      have ALs:Hid ((xs++[x]).map Ex.e=l++[xe]):=Lib.hid (by rw[List.map_append,His.out,List.map_cons,List.map_nil,hre.is])
      have AB5:=Lib.hid hrd
      clear hre hrd ACy hk Oi zP cK hent HR2
      have M4:=bI.out
      refine hK.out _ _ M4 (fun hHeld=>?_)
      clear hK K M4
      (try simp only[Act.put,l0A,l0B,l0C,l0D,l0E,l0F])
      unfold eV
      refine AB (i:=3) rfl (by kernel_rfl) (fun K hK=>?_)
      go_simp
      clear hHeld
      have BA:Below w4.heap.size w4 (w4.alloc (.cells #[.string (Name.AR x.e.f.name),Cm x.bs,.int .i64 x.e.f.stamp,.int .i64 x.e.f.node,.bool x.e.f.gone,.int .i64 (x.e.method:Int),Cm x.pk,.int .u32 (x.e.crc:Int),.int .i64 (x.at_:Int)] 78)):=(Below.refl _ _).alloc (Nat.le_refl _) _
      have HZ:Hid (AQ (w4.alloc (.cells #[.string (Name.AR x.e.f.name),Cm x.bs,.int .i64 x.e.f.stamp,.int .i64 x.e.f.node,.bool x.e.f.gone,.int .i64 (x.e.method:Int),Cm x.pk,.int .u32 (x.e.crc:Int),.int .i64 (x.at_:Int)] 78)) (some ⟨w4.heap.size,0,none⟩) (eC x)):=Lib.hid (AQ.of_heap (heap_alloc_new _ _) rfl)
      have zQ:=bI.out.below BA bI.out.lt
      refine hK.out _ _ zQ (fun hHeld=>?_)
      clear hK K zQ
      (try simp only[Act.put,l0A,l0B,l0C,l0D,l0E,l0F])
      have AC0:=Lib.hid hHeld
      have H35:=Lib.hid (H34.out.below BA H34.out.lt)
      have YY:=Lib.hid (AP KQ.out BA)
      have hk5:AJ q Oe w4 (w4.alloc (.cells #[.string (Name.AR x.e.f.name),Cm x.bs,.int .i64 x.e.f.stamp,.int .i64 x.e.f.node,.bool x.e.f.gone,.int .i64 (x.e.method:Int),Cm x.pk,.int .u32 (x.e.crc:Int),.int .i64 (x.at_:Int)] 78)):=AJ.of_below BA (Nat.le_of_lt (AV.lt AB5.out))
      have AC1:=Lib.hid (ACx.out.keeps hk5)
      have AI1:=Lib.hid (AV.below AB5.out BA (AV.lt AB5.out))
      have AC2:Hid (∀ y∈xs++[x],IZ (w4.alloc (.cells #[.string (Name.AR x.e.f.name),Cm x.bs,.int .i64 x.e.f.stamp,.int .i64 x.e.f.node,.bool x.e.f.gone,.int .i64 (x.e.method:Int),Cm x.pk,.int .u32 (x.e.crc:Int),.int .i64 (x.at_:Int)] 78)) g2 A b y y.e):=Lib.hid (fun y hy=>(ACz.out y hy).keeps hk5 (by decide))
      have Hb5:=Lib.hid (Hb4.out.trans (BA.mono hs4))
      have hs5:=Nat.le_trans hs4 BA.size
      clear hHeld BA hk5 bI H34 KQ ACx AB5 ACz Hb4
      generalize w4.heap.size=gx at *
      generalize w4.alloc (.cells #[.string (Name.AR x.e.f.name),Cm x.bs,.int .i64 x.e.f.stamp,.int .i64 x.e.f.node,.bool x.e.f.gone,.int .i64 (x.e.method:Int),Cm x.pk,.int .u32 (x.e.crc:Int),.int .i64 (x.at_:Int)] 78)=w5 at *
      refine AB (i:=4) rfl (by kernel_rfl) (fun K hK=>?_)
      rw[if_pos (by rfl)]
      refine zN (.tmp 37) (.tmp 40) _ rfl g2 78 _ 9 112 tyE _ xs.length (xs.flatMap eC) rfl YY.out (some ⟨gx,0,none⟩) 1 1 (eC x) rfl rfl HZ.out (zR x) (by simp) (by unfold maxLen;omega) (by omega) hs5 ?_
      intro v6 w6 hown6 IJ _
      have Iw:AJ g2 Oa w5 w6:=(AJ.refl _ _ _).grown YY.out IJ (by simp[Oa]) hs5
      have Uq:=Lib.hid (Iw.blk AC0.out (by decide))
      have H36:=Lib.hid (Iw.blk H35.out (by decide))
      have AC3:Hid (JU w6 g2 A b):=Lib.hid (JU.keeps ⟨AC1.out.at_,dM.out.low⟩ Iw)
      have AI2:=Lib.hid (Iw.blk AI1.out (by decide))
      have AC4:Hid (∀ y∈xs++[x],IZ w6 g2 A b y y.e):=Lib.hid (fun y hy=>(AC2.out y hy).keeps Iw (by decide))
      have Jc:=Lib.hid (Hb5.out.trans Iw.below)
      have OD:=Lib.hid hown6
      have zS:=Uq.out
      refine hK.out _ _ zS (fun hHeld=>?_)
      clear hK K zS hHeld IJ Iw hown6 AC0 H35 YY AC1 AI1 AC2 Hb5 HZ
      (try simp only[Act.put,l0A,l0B,l0C,l0D,l0E,l0F])
      obtain⟨A6,c6,rfl,_⟩:=Ad OD.out
      have k2:=Uq.out.cell 0
      have z2:=Uq.out.frozen 0
      refine BH rfl (by kernel_rfl) (by kernel_rfl) (fun K hK=>?_)
      go_simp
      clear k2 z2
      have O7:AJ g2 outT w6 (w6.setCell ⟨g2,0,none⟩ (.slice A6 (xs.length+1) c6)):=(AJ.refl _ _ _).Dc Uq.out (by simp[outT]) (Nat.le_refl _) 0 _
      have AC5:Hid (AV (w6.setCell ⟨g2,0,none⟩ (.slice A6 (xs.length+1) c6)) g2 76 #[.slice A6 (xs.length+1) c6]):=Lib.hid (Uq.out.Ca 0 (.slice A6 (xs.length+1) c6))
      have H37:=Lib.hid (H36.out.far (p:=⟨g2,0,none⟩) (EL H36.out Uq.out (by decide)) (.slice A6 (xs.length+1) c6))
      have AC6:=Lib.hid (AC3.out.keeps O7)
      have ALt:=Lib.hid (O7.blk AI2.out (by decide))
      have AI3:Hid (∀ y∈xs++[x],IZ (w6.setCell ⟨g2,0,none⟩ (.slice A6 (xs.length+1) c6)) g2 A b y y.e):=Lib.hid (fun y hy=>(AC4.out y hy).keeps O7 (by decide))
      have FR:=Lib.hid (Jc.out.trans O7.below)
      have U9:=Lib.hid (O7.own OD.out (by decide))
      clear O7 Uq H36 AC3 AI2 AC4 Jc OD
      refine hK.out _ _ (.inl ⟨rfl,?_⟩)
      clear hK K
      generalize w6.setCell ⟨g2,0,none⟩ (.slice A6 (xs.length+1) c6)=w7 at *
      go_wp2_with fail
      go_roundw
      case rel=>exact⟨f,p2,xs++[x],l++[xe],_,by rw[List.length_append,List.length_cons,List.length_nil];omega,by rw[List.length_append,List.length_cons,List.length_nil,←aU.out];omega,HR4.out,⟨ALt.out,hp2,⟨AC6.out.at_,fun a o e hp=>Nat.lt_of_lt_of_le (AC6.out.low a o e hp) hgq.1⟩,AC5.out,by rw[List.length_append,List.length_cons,List.length_nil,List.flatMap_append,List.flatMap_cons,List.flatMap_nil,List.append_nil];exact U9.out,ALs.out,AI3.out⟩,H37.out,FR.out⟩
      case measure=>rw[AC5.out.cell 0,Hwc.out];simp;omega
   ·rw[show decide (p+4≤b.length∧(b.drop p).take 4=Du∧l.length≤12)=false from decide_eq_false hc]
    have HR2:=Lib.hid (HRr.out.trans (if_neg hc))
    clear hc HRr
    have hok:=lD (HR.out.symm.trans HR2.out)
    have Hok:=Lib.hid hok
    have AI4:xs.length≤13:=by rw[aU.out];exact hok.count
    clear hok
    go_upto_region 5 with fail
    refine FI ?_
    refine Bp (fun W=>AV W g2 76 #[.slice Av xs.length cv]) 6 (by kernel_rfl) ?_
    have hHeld:AV wc.drew g2 76 #[.slice Av xs.length cv]:=HE.out.res
    have hdr:Below wc.heap.size wc wc.drew:=(Below.refl _ _).drew
    have Oi:Hid (JW wc.drew g2 g2 q A n c p b xs l (.slice Av xs.length cv)):=Lib.hid (HE.out.below hdr)
    have zP:Hid (AV wc.drew g3 4 #[.bool false]):=Lib.hid H3.out
    have cK:=Lib.hid (Hb.out.trans (hdr.mono (by rw[Q0.out];exact Hb.out.size)))
    clear hdr HE H3 Hb
    generalize wc.drew=w3 at *
    refine AA (i:=0) (v:=?vz0) (by kernel_rfl) (by kernel_rfl) rfl (by kernel_rfl) (by kernel_rfl) (by kernel_rfl) (fun _ _ _ h=>by cases h.1) (by rfl) (by assumption) ?ALu ?ALv
    case ALu=>(intro W hSW;have k2:=hSW.cell 0;go_simp;try with_reducible rfl)
    (try simp only[Act.put,l0A,l0B,l0C,l0D,l0E,l0F])
    refine AA (i:=1) (v:=?vz1) (by kernel_rfl) (by kernel_rfl) rfl (by kernel_rfl) (by kernel_rfl) (by kernel_rfl) (fun _ _ _ h=>by cases h.1) (by rfl) (by assumption) ?ALw ?ALx
    case ALw=>(intro W hSW;have k2:=hSW.cell 0;go_simp;try with_reducible rfl)
    (try simp only[Act.put,l0A,l0B,l0C,l0D,l0E,l0F])
    refine AA (i:=3) (v:=?vz3) (by kernel_rfl) (by kernel_rfl) rfl (by kernel_rfl) (by kernel_rfl) (by kernel_rfl) (fun _ _ _ h=>by cases h.1) (by rfl) (by assumption) ?ALy ?ALz
    case ALy=>(intro W hSW;have k2:=hSW.cell 0;go_simp;try with_reducible rfl)
    (try simp only[Act.put,l0A,l0B,l0C,l0D,l0E,l0F])
    have hgd:∀ x∈xs,Good x.e:=fun x hx=>Hok.out.good x.e (by rw[←Oi.out.is];exact List.mem_map_of_mem hx)
    have hpp:∀ x∈xs,VQ g2 w3 x:=fun x hx=>(Oi.out.all x hx).AFI ⟨Oi.out.low.at_,dM.out.low⟩
    have hlz:(laidB (Cr xs)).length≤1000000:=by
     rw[show Cr xs=l from Oi.out.is]
     exact iK Hok.out (by rw[Hn.out];exact h12)
    have HAr:=Lib.hid (RH g2 (.slice Av xs.length cv) xs w3 (by rw[Q0.out];exact cK.out.size) Oi.out.own hgd hpp AI4 hlz)
    clear hgd hpp hlz
    refine AB (i:=2) rfl (by kernel_rfl) (fun K hK=>?_)
    go_simp
    clear hHeld
    go_at_call 46
    refine (HAr.out).mono ?_
    rintro e w4 ⟨⟨vb,rfl,UB⟩,SK,hk4⟩
    rw[show Cr xs=l from Oi.out.is]at UB
    have KQ:=Lib.hid SK
    have HD4:Hid (BI w4 A b):=Lib.hid ((JU.keeps (q:=g2) (T:=Oa) ⟨Oi.out.low.at_,dM.out.low⟩ hk4.Ji).at_)
    have AL0:Hid (∀ x∈xs,IZ w4 g2 A b x x.e):=Lib.hid (fun x hx=>(Oi.out.all x hx).keeps hk4.Ji (by decide))
    have bJ:Hid (NW w4 g2 g2 g3 (.slice Av xs.length cv) (.bool false)):=Lib.hid ⟨Nat.le_refl _,hle3,hk4.blk Oi.out.res (by decide),hk4.blk zP.out (by decide)⟩
    have Hb4:=Lib.hid (cK.out.trans hk4.toBelow)
    have His:=Lib.hid Oi.out.is
    obtain⟨Ab,cb,rfl,hb1,hb2,hb3,hb4⟩:=UB.slice
    have OC:Hid (BI w4 Ab (laidB l)):=Lib.hid hb3
    have M4:=bJ.out.b2
    clear UB SK hk4 hb3 hb4 Oi zP cK
    refine hK.out _ _ M4 (fun hHeld=>?_)
    clear hK K M4
    (try simp only[Act.put,l0A,l0B,l0C,l0D,l0E,l0F])
    obtain⟨Ll,hLl⟩:∃ L,L=laidB l:=⟨_,rfl⟩
    rw[←hLl]at OC⊢
    have Xm:=Lib.hid hLl
    clear hLl hb1
    obtain⟨nl,hnl⟩:∃ n,n=Ll.length:=⟨_,rfl⟩
    rw[←hnl]
    have Hnl:=Lib.hid hnl
    clear hnl
    refine AB (i:=4) rfl (by kernel_rfl) (fun K hK=>?_)
    go_simp
    clear hHeld
    go_at_call 22
    refine (IA Ab A nl n cb c Ll b w4 Hnl.out.symm Hn.out OC.out HD4.out).mono ?_
    rintro e w5 ⟨rfl,rfl⟩
    have M4:=bJ.out.b2
    refine hK.out _ _ M4 (fun hHeld=>?_)
    clear hK K
    (try simp only[Act.put,l0A,l0B,l0C,l0D,l0E,l0F])
    obtain⟨ob,UB⟩:∃ ob,ob=decide (Ll=b):=⟨_,rfl⟩
    rw[←UB]
    have Hob:=Lib.hid UB
    clear UB M4
    have k2:=hHeld.cell 0
    have z2:=hHeld.frozen 0
    refine AB (i:=5) rfl (by kernel_rfl) (fun K hK=>?_)
    go_simp
    clear hHeld k2 z2
    have Wq:=Lib.hid (bJ.out.s2 (.slice Av xs.length cv))
    have MM:Hid (AJ g2 outT w5 (w5.setCell ⟨g2,0,none⟩ (.slice Av xs.length cv))):=Lib.hid ((AJ.refl _ _ _).Dc bJ.out.b2 (by simp[outT]) (Nat.le_refl _) 0 _)
    refine hK.out _ _ Wq.out.b2 (fun hHeld=>?_)
    clear hK K
    (try simp only[Act.put,l0A,l0B,l0C,l0D,l0E,l0F])
    have k3:=Wq.out.b3.cell 0
    have z3:=Wq.out.b3.frozen 0
    refine BH rfl (by kernel_rfl) (by kernel_rfl) (fun K hK=>?_)
    go_simp
    clear hHeld k3 z3
    have vZ:=Lib.hid (Wq.out.s3 (.bool ob))
    have Lf:=Lib.hid (MM.out.Dc Wq.out.b3 (by simp[outT]) hle3 0 (.bool ob))
    refine hK.out _ _ ⟨rfl,?_⟩
    clear hK K bJ Wq MM
    go_wp2_with fail
    refine leaves_cons (f:=66) (args:=#[.pointer (some ⟨g2,0,none⟩),.pointer (some ⟨g3,0,none⟩)]) (by simp) (by simp[go_sem]) ?_
    refine (ay g2 g3 _).mono ?_
    rintro e u' w8 ⟨rfl,rfl,rfl⟩
    refine⟨_,Wo vZ.out _ rfl rfl,?_,?_⟩
    ·unfold Uo
     rw[HR2.out]
     dsimp only
     rw[←Xm.out,←Hob.out,←Q0.out]
     exact⟨xs,_,rfl,His.out,Lf.out.own KQ.out (by decide),fun x hx=>(AL0.out x hx).keeps Lf.out (by decide)⟩
    ·rw[←Q0.out]
     exact Hb4.out.trans Lf.out.below
end Go.Proofs.YtabdianhoabhhaaGreatDoor.Zip
