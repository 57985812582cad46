/- texts joined: BlkOne BlkPack EqualB BlkBest GzPure ZipRef ZipBest SumCrc ZipOf Name1 FuncS Name2 CloneFB. -/
import Derived.Test.YtabdianhoabhhaaGreatDoorZbQ7
import Derived.Test.YtabdianhoabhhaaGreatDoorZbQ2
import Derived.Test.YtabdianhoabhhaaGreatDoorZbQ1
import Derived.Test.YtabdianhoabhhaaGreatDoorProg
import Derived.Laws.BytesArg
import Derived.Shelf.Bytes.SlSmallAll
import Derived.WalkSpells
import Derived.Test.YtabdianhoabhhaaGreatDoorZbQ4
import Derived.Lib.SliceRun
import Derived.OneCell
namespace Go.Proofs.YtabdianhoabhhaaGreatDoor.Blk
open Go Go.RowKit Go.Proofs.YtabdianhoabhhaaGreatDoor Go.Proofs.YtabdianhoabhhaaGreatDoor.Bits Go.Proofs.YtabdianhoabhhaaGreatDoor.Code Go.Proofs.YtabdianhoabhhaaGreatDoor.Inf Go.Proofs.YtabdianhoabhhaaGreatDoor.Match Go.Proofs.YtabdianhoabhhaaGreatDoor.SP Go.Proofs.YtabdianhoabhhaaGreatDoor.Rt
set_option linter.unusedVariables false
theorem chk_far:∀ (ts:List Tok) (n:Int),0≤n→(chkAll ts n).1=0→n≤(chkAll ts n).2∧∀ t∈ts,t.2.1=0∨t.2.2≤(chkAll ts n).2
 | [],n,_,_=>⟨Int.le_refl _,fun t h=>by cases h⟩
 | x :: ts,n,hn,hk=>by
  simp only[chkAll]at hk⊢
  have hx:(chkTok n x).1=0:=by
   by_cases h1:(chkTok n x).1=0
   ·exact h1
   ·rw[if_neg h1]at hk;exact hk
  rw[if_pos hx]at hk⊢
  have key:n≤(chkTok n x).2∧(x.2.1=0∨x.2.2≤n):=by
   unfold chkTok at hx⊢
   by_cases h1:x.2.1=0
   ·rw[if_pos h1]at hx⊢
    by_cases h2:x.2.2≠0
    ·rw[if_pos h2]at hx;simp at hx
    ·rw[if_neg h2];dsimp only;omega
   ·rw[if_neg h1]at hx⊢
    by_cases h2:x.1≠0
    ·rw[if_pos h2]at hx;simp at hx
    ·rw[if_neg h2]at hx⊢
     by_cases h3:x.2.1 < 3∨258 < x.2.1∨x.2.2 < 1
     ·rw[if_pos h3]at hx;simp at hx
     ·rw[if_neg h3]at hx⊢
      by_cases h4:n < x.2.2
      ·rw[if_pos h4]at hx;simp at hx
      ·rw[if_neg h4];dsimp only;omega
  obtain⟨h1,h2⟩:=chk_far ts (chkTok n x).2 (by omega) hk
  refine⟨by omega,fun t ht=>?_⟩
  rcases List.mem_cons.1 ht with rfl | ht
  ·rcases key.2 with h | h
   ·exact .inl h
   ·exact .inr (by omega)
  ·exact h2 t ht
theorem toks_S (b:List UInt8) (hb:b.length≤3000):∀ t∈toks b,TokS t:=by
 intro t ht
 have h0:=toks_chk b
 have h1:=chk_tokR (toks b) 0 h0 t ht
 have h2:=(chk_far (toks b) 0 (Int.le_refl _) h0).2 t ht
 have h3:(chkAll (toks b) 0).2=(b.length:Int):=by unfold toks;rw[chkAll_titer,titer_end]
 rw[h3]at h2
 unfold TokS
 rcases h1 with h | ⟨a1,a2,a3⟩
 ·exact .inl h
 ·rcases h2 with h | h
  ·exact .inl h
  ·exact .inr ⟨t.2.1.toNat,t.2.2.toNat,by omega,by omega,by omega,by omega,by omega,by omega⟩
theorem tokS_fine {t:Tok} (h:TokS t):TokFine t:=by
 rcases h with h | ⟨s,f,h1,h2,h3,_⟩
 ·exact .inl h
 ·exact .inr ⟨s,f,h1,h2,by omega⟩
def LowBy (w:World) (base:Nat) (B:Option Addr) (xs:List UInt8):Prop:=∀ w':World,(∀ k,k < base→w'.heap[k]?=w.heap[k]?)→ByAt w' B xs
theorem LowBy.of {w:World} {B:Option Addr} {xs:List UInt8} {base:Nat} (h:ByAt w B xs) (hb:w.heap.size≤base):LowBy w base B xs:=fun w' hw hp=>by
 obtain⟨b,o,e,hc⟩:=h hp
 refine⟨b,o,e,fun j v hj=>?_⟩
 have h1:=hc j v hj
 have hlt:=block_lt_of_cell h1
 have h2:=hw b (by simpa using Nat.lt_of_lt_of_le hlt hb)
 rw[←h1]
 simp only[World.cell?,h2]
theorem LowBy.at {w w':World} {base:Nat} {B:Option Addr} {xs:List UInt8} (h:LowBy w base B xs) (hw:∀ k,k < base→w'.heap[k]?=w.heap[k]?):ByAt w' B xs:=h w' hw
theorem LowBy.trans {w w':World} {base:Nat} {B:Option Addr} {xs:List UInt8} (h:LowBy w base B xs) (hw:∀ k,k < base→w'.heap[k]?=w.heap[k]?):LowBy w' base B xs:=fun w2 h2=>h w2 fun k hk=>(h2 k hk).trans (hw k hk)
theorem headB_len (lit far:List Nat) (l1:lit.length=286) (l2:far.length=30) (c1:Cd lit) (c2:Cd far):(headB lit far).length≤5000:=by
 rw[headB_eq]
 have tA:=trim_len lit 257 (by omega)
 have tB:=trim_len far 1 (by omega)
 have cA:=trim_cd lit 257 c1
 have cB:=trim_cd far 1 c2
 generalize trimP lit 257=A at *
 generalize trimP far 1=B at *
 have h15:∀ y∈A++B,y≤15:=fun y hy=>by
  rcases List.mem_append.1 hy with hy | hy
  ·exact cA.le y hy
  ·exact cB.le y hy
 have hR:=runsP_len (A++B)
 have hok:=runs_ok (A++B) h15
 generalize runsP (A++B)=R at *
 obtain⟨s1,s2,s3,s4⟩:=sizes_fine R
 have h1:=flat_le (runB (sizesP R)) 14 R (fun x hx=>runB_len _ x (fun i=>getD_le _ 7 i s3) (hok x hx))
 have h2:=flat_le (fun n=>numBits n 3) 3 (trimP (orderL.map fun k=>(sizesP R).getD k 0) 4) (fun x _=>by rw[numBits_length];exact Nat.le_refl _)
 have h3:=trim_len (orderL.map fun k=>(sizesP R).getD k 0) 4 (by rw[List.length_map];decide)
 have h4:(orderL.map fun k=>(sizesP R).getD k 0).length=19:=by rw[List.length_map];rfl
 rw[List.length_append]at hR
 simp only[List.length_append,numBits_length]
 omega
theorem bodyB_len (l:List Tok) (lit far:List Nat) (c1:Cd lit) (c2:Cd far):(bodyB l lit far).length≤48*l.length+15:=by
 unfold bodyB
 have h1:=flat_le (tokB lit far) 48 l (fun x _=>tokB_len lit far x c1 c2)
 have h2:=c1.bits (i:=256)
 rw[List.length_append,codeB_length];omega
theorem oneB_len (r:List Bool) (b:List UInt8) (kind:Nat) (last:Bool) (hb:b.length≤3000):(oneB r b kind last).length≤r.length+200000:=by
 rw[oneB_eq,List.length_append]
 unfold oneS
 by_cases h0:kind=0
 ·rw[if_pos h0]
  simp only[List.length_append,numBits_length,List.length_singleton,List.length_replicate,bitsL_length]
  omega
 ·rw[if_neg h0]
  have ht:=toks_len b
  by_cases h1:kind=1
  ·rw[if_pos h1]
   have:=bodyB_len (toks b) fixedA fixedB fixA_cd fixB_cd
   simp only[List.length_append,numBits_length,List.length_singleton]
   omega
  ·rw[if_neg h1]
   obtain⟨l1,l2,l3,l4,_,_⟩:=lens_all (toks b)
   have h2:=bodyB_len (toks b) _ _ l3 l4
   have h3:=headB_len _ _ l1 l2 l3 l4
   simp only[List.length_append,numBits_length,List.length_singleton]
   omega
set_option maxRecDepth 100000 in
theorem fill_any (base p:Nat) (r:List Bool) (w:World) (hr:RowAt w base p r) :
  Calls Tryz.prog 154 #[.pointer (some ⟨p,0,none⟩)] w fun e w'=>e=.returned (.tuple #[])∧RowAt w' base p (pad r)∧Keeps base rowT w w':=by
 obtain⟨hbp,v,hB,hO⟩:=hr
 have hc1:=hB.c1
 have hf1:=hB.frozen 1
 have HB:=Lib.hid hB
 have HO:=Lib.hid hO
 have HRes:Hid (RowAt (w.setCell ⟨p,1,none⟩ (.int .i64 0)) base p (pad r)):=Lib.hid (by
  refine⟨hbp,v,?_,?_⟩
  ·have e:(pad r).length % 8=0:=by rw[pad_length];omega
   rw[e];exact hB.s1 _
  ·rw[pack_pad];exact ownsRow_setCell_other hO (own_ne hO hB (by decide)) _)
 have HK:=Lib.hid ((Keeps.refl base rowT w).setBlk hB (by simp[rowT]) hbp 1 (.int .i64 0))
 clear hB hO
 go_enter Tryz.func154,Tryz.ntmps154
 go_wp2_with fail
 go_end0
 exact⟨rfl,HRes.out,HK.out⟩
set_option maxRecDepth 100000 in
set_option maxHeartbeats 8000000 in
theorem one_any (base p:Nat) (r:List Bool) (B:Option Addr) (nb cb:Nat) (xs:List UInt8) (kind:Nat) (last:Bool) (w:World) (hr:RowAt w base p r) (hB:LowBy w base B xs) (hn:xs.length=nb) (hnc:nb≤cb) (hx:nb≤3000) (hk:kind≤2) (hrl:r.length≤50000000) :
  Calls Tryz.prog 119 #[.pointer (some ⟨p,0,none⟩),.slice B nb cb,.int .i64 (kind:Int),.bool last] w fun e w'=>e=.returned (.tuple #[])∧RowAt w' base p (oneB r xs kind last)∧Keeps base rowT w w':=by
 have HR:=Lib.hid hr
 have HB:=Lib.hid hB
 have Hn:=Lib.hid hn
 clear hr hB hn
 cases last
 ·go_enter Tryz.func119,Tryz.ntmps119
  have HP:=Lib.hid (put_any base p 0 1 r w HR.out (by omega) (by omega) (by omega))
  rw[show numBits 0 1=[false] from rfl,show (((0:Nat):Int))=0 from rfl]at HP
  go_wp2_with fail
  refine (HP.out).mono ?_
  rintro e w1 ⟨rfl,hrow,hkp⟩
  have HR1:=Lib.hid hrow
  have HK1:=Lib.hid hkp
  clear hrow hkp HP HR
  have hl1:(r++[false]).length≤50000001:=by rw[List.length_append,List.length_singleton];omega
  have HP:=Lib.hid (put_any base p kind 2 _ w1 HR1.out (by omega) (by omega) (by omega))
  go_wp2_with fail
  refine (HP.out).mono ?_
  rintro e w2 ⟨rfl,hrow,hkp⟩
  have HR2:=Lib.hid hrow
  have HK2:=Lib.hid (HK1.out.trans hkp)
  clear hrow hkp HP HR1 HK1
  have hl2:(r++[false]++numBits kind 2).length≤50000003:=by rw[List.length_append,numBits_length];omega
  by_cases hk0:kind=0
  ·have hk0':((kind:Int) == 0)=true:=by simp;omega
   have Hone:Hid (oneB r xs kind false=pad (r++[false]++numBits kind 2)++numBits nb 16++numBits (65535 - nb) 16++bitsL xs):=Lib.hid (by unfold oneB;rw[if_pos hk0,Hn.out,hk0])
   generalize r++[false]++numBits kind 2=r2 at *
   have HP:=Lib.hid (fill_any base p r2 w2 HR2.out)
   have hl3:(pad r2).length≤50000020:=by rw[pad_length];omega
   clear hl1 hl2 hk0 HR2
   go_wp2_with fail
   refine (HP.out).mono ?_
   rintro e w3 ⟨rfl,hrow,hkp⟩
   have HR3:=Lib.hid hrow
   have HK3:=Lib.hid (HK2.out.trans hkp)
   clear hrow hkp HP HK2
   have HP:=Lib.hid (put_any base p nb 16 _ w3 HR3.out (by omega) (by omega) (by omega))
   go_wp2_with fail
   refine (HP.out).mono ?_
   rintro e w4 ⟨rfl,hrow,hkp⟩
   have HR4:=Lib.hid hrow
   have HK4:=Lib.hid (HK3.out.trans hkp)
   clear hrow hkp HP HK3 HR3
   have hl4:(pad r2++numBits nb 16).length≤50000040:=by rw[List.length_append,numBits_length];omega
   have hxor:=xor16 nb (by omega)
   have HP:=Lib.hid (put_any base p (65535 - nb) 16 _ w4 HR4.out (by omega) (by omega) (by omega))
   go_wp2_with fail
   refine (HP.out).mono ?_
   rintro e w5 ⟨rfl,hrow,hkp⟩
   have HR5:=Lib.hid hrow
   have HK5:=Lib.hid (HK4.out.trans hkp)
   clear hrow hkp HP HK4 HR4 hxor
   have hl5:(pad r2++numBits nb 16++numBits (65535 - nb) 16).length≤50000060:=by rw[List.length_append,numBits_length];omega
   generalize pad r2++numBits nb 16++numBits (65535 - nb) 16=r5 at *
   go_wp2_with fail
   go_loopw [37] (fun i wr=>∃ k:Nat,k≤nb∧i=.int .i64 (k:Int)∧RowAt wr base p (r5++bitsL (xs.take k))∧Keeps base rowT w wr) (fun i _=>nb - (intOf i).toNat)
   case atStart=>exact⟨0,Nat.zero_le _,rfl,by rw[List.take_zero];show RowAt w5 base p (r5++[]);rw[List.append_nil];exact HR5.out,HK5.out⟩
   case round=>
    clear HR5 HK5
    obtain⟨k,hk,rfl,hrow,hkp⟩:=hrel
    have HRk:=Lib.hid hrow
    have HKk:=Lib.hid hkp
    clear hrow hkp
    by_cases hlt:k < nb
    ·have hkl:k < xs.length:=by rw[Hn.out];exact hlt
     obtain⟨b,o,rfl,hc⟩:=(HB.out.at HKk.out.block).get hkl
     have Htk:Hid (bitsL (xs.take (k+1))=bitsL (xs.take k)++bitsOf xs[k]):=Lib.hid (by rw[take_snoc xs k hkl,bitsL_append];simp[bitsL])
     have hbl:(bitsL (xs.take k)).length≤24000:=by rw[bitsL_length,List.length_take];omega
     generalize xs[k]=x at *
     obtain⟨q,hq⟩:∃ q:Nat,(q:Int)=n8 x:=⟨x.toNat,rfl⟩
     have hx8:=n8_bd x
     have Hq:Hid (bitsOf x=numBits q 8):=Lib.hid (by unfold bitsOf;rw[show x.toNat=q by unfold n8 at hq;omega])
     rw[←hq]at hc hx8
     clear hq
     have hconv:IntKind.i64.wrap (q:Int)=(q:Int):=IntWalk.i64_in _ (by omega)
     have HP:=Lib.hid (put_any base p q 8 _ wr HRk.out (by omega) (by omega) (by rw[List.length_append];omega))
     rw[List.append_assoc,←Hq.out,←Htk.out]at HP
     clear HRk hbl
     go_wp2_with fail
     refine (HP.out).mono ?_
     rintro e w6 ⟨rfl,hrow,hkp⟩
     have HR6:=Lib.hid hrow
     have HK6:=Lib.hid (HKk.out.trans hkp)
     clear hrow hkp HP HKk hc
     go_wp2_with fail
     go_roundw
     case rel=>exact⟨k+1,by omega,by go_num,HR6.out,HK6.out⟩
     case measure=>simp[intOf];omega
    ·obtain rfl:nb=k:=by omega
     have Hal:Hid (xs.take nb=xs):=Lib.hid (List.take_of_length_le (by rw[Hn.out];exact Nat.le_refl _))
     rw[Hal.out,←Hone.out]at HRk
     go_wp2_with fail
     refine bodyPost_ret (results_none rfl _ _ _) rfl ?_
     exact⟨rfl,HRk.out,HKk.out⟩
  ·have hk0':((kind:Int) == 0)=false:=by rw[beq_eq_false_iff_ne];omega
   have HTk:=Lib.hid (tokens_yes B nb cb xs w2 Hn.out hnc hx (HB.out.at HK2.out.block))
   go_wp2_with fail
   refine (HTk.out).mono ?_
   rintro e w3 ⟨⟨v3,rfl,ho3⟩,hb3⟩
   obtain⟨A3,c3,rfl,hc3,_,hk3,_⟩:=own_kat ho3
   have HR3:=Lib.hid (HR2.out.below hb3)
   have HK3:=Lib.hid (HK2.out.trans (Keeps.of_below hb3 (Nat.le_trans HR2.out.1 (Nat.le_of_lt HR2.out.lt))))
   have HT3:Hid (KAt w3 244 A3 ((toks xs).flatMap tokD)):=Lib.hid hk3
   have HTS:=Lib.hid (toks_S xs (by rw[Hn.out];exact hx))
   have htl:=toks_len xs
   rw[Hn.out]at htl
   have Hlen:=Lib.hid (lens_all (toks xs))
   have Hone1:Hid (kind=1→oneB r xs kind false=r++[false]++numBits kind 2++bodyB (toks xs) fixedA fixedB):=Lib.hid (fun h=>by subst h;unfold oneB;rw[if_neg (by omega),if_pos rfl])
   have Hone2:Hid (kind=2→oneB r xs kind false=r++[false]++numBits kind 2++headB (lensP (toks xs)).1 (lensP (toks xs)).2++bodyB (toks xs) (lensP (toks xs)).1 (lensP (toks xs)).2):=Lib.hid (fun h=>by subst h;unfold oneB;rw[if_neg (by omega),if_neg (by omega)])
   clear HTk ho3 hb3 hk3 HR2 HK2
   generalize r++[false]++numBits kind 2=r2 at *
   generalize toks xs=tx at *
   have Hm:=Lib.hid (show tx.length=tx.length from rfl)
   generalize hmt:tx.length=mt at *
   have Hmt:=Lib.hid hmt
   clear hmt Hm hk0
   go_wp2_with fail
   refine (fixed_any _).mono ?_
   rintro e w4 ⟨A4,c4,B4,d4,rfl,hoA,hoB,hb4⟩
   have HR4:=Lib.hid (HR3.out.below hb4)
   have HK4:=Lib.hid (HK3.out.trans (Keeps.of_below hb4 (Nat.le_trans HR3.out.1 (Nat.le_of_lt HR3.out.lt))))
   have HT4:=Lib.hid (HT3.out.below hb4)
   have HFA:Hid (KAt w4 3 A4 (fixedA.map Code.natV)):=Lib.hid (by obtain⟨A,c,e,_,_,h,_⟩:=own_kat hoA;injection e with e;subst e;exact h)
   have HFB:Hid (KAt w4 3 B4 (fixedB.map Code.natV)):=Lib.hid (by obtain⟨A,c,e,_,_,h,_⟩:=own_kat hoB;injection e with e;subst e;exact h)
   clear hoA hoB hb4 HR3 HK3 HT3
   by_cases hk2:kind=2
   ·have hk2':((kind:Int) == 2)=true:=by simp;omega
    have Ho:=Lib.hid (Hone2.out hk2)
    have HL:=Lib.hid (blens_any A3 mt c3 tx w4 Hmt.out (by omega) HT4.out.slat (fun t ht=>tokS_fine (HTS.out t ht)))
    clear Hone1 Hone2 HFA HFB hk2
    go_wp2_with fail
    refine (HL.out).mono ?_
    rintro e w5 ⟨⟨v1,v2,rfl,ho1,ho2⟩,hb5⟩
    obtain⟨l1,l2,l3,l4,l5,l6⟩:=Hlen.out
    obtain⟨A5,a5,rfl,ha5,_,hk5,_⟩:=own_kat ho1
    obtain⟨B5,b5,rfl,hb5',_,hk6,_⟩:=own_kat ho2
    obtain⟨bA,oA,_,rfl,_,_⟩:=hk5 (by rw[List.length_map,l1];omega)
    obtain⟨bB,oB,_,rfl,_,_⟩:=hk6 (by rw[List.length_map,l2];omega)
    have HR5:=Lib.hid (HR4.out.below hb5)
    have HK5:=Lib.hid (HK4.out.trans (Keeps.of_below hb5 (Nat.le_trans HR4.out.1 (Nat.le_of_lt HR4.out.lt))))
    have HT5:=Lib.hid (HT4.out.below hb5)
    have HL5:=Lib.hid hk5
    have HL6:=Lib.hid hk6
    have HH:=Lib.hid (head_any base p r2 bA oA a5 bB oB b5 (lensP tx).1 (lensP tx).2 w5 HR5.out HL5.out HL6.out l1 l2 ha5 hb5' l3 l4 (by omega))
    have hhl:=headB_len (lensP tx).1 (lensP tx).2 l1 l2 l3 l4
    have L1:=Lib.hid l1
    have L2:=Lib.hid l2
    have L3:=Lib.hid l3
    have L4:=Lib.hid l4
    clear HL ho1 ho2 hb5 hk5 hk6 HR4 HK4 HT4 l1 l2 l3 l4 l5 l6 Hlen
    generalize (lensP tx).1=LA at *
    generalize (lensP tx).2=LB at *
    go_wp2_with fail
    refine (HH.out).mono ?_
    rintro e w6 ⟨rfl,hrow,hkp⟩
    have HR6:=Lib.hid hrow
    have HK6:=Lib.hid (HK5.out.trans hkp)
    have HB:=Lib.hid (body_any base p _ A3 mt c3 tx (some ⟨bA,oA,none⟩) 286 a5 LA (some ⟨bB,oB,none⟩) 30 b5 LB w6 HR6.out (HT5.out.keeps hkp (by decide)) (HL5.out.keeps hkp (by decide)) (HL6.out.keeps hkp (by decide))
     Hmt.out (by omega) L1.out L2.out (by omega) (by omega) (by omega) (by omega) L3.out L4.out HTS.out (by rw[List.length_append];omega))
    rw[←Ho.out]at HB
    clear hrow hkp HH
    go_wp2_with fail
    refine (HB.out).mono ?_
    rintro e w7 ⟨rfl,hrow,hkp⟩
    have HR7:=Lib.hid hrow
    have HK7:=Lib.hid (HK6.out.trans hkp)
    clear hrow hkp
    go_wp2_with fail
    go_end0
    exact⟨rfl,HR7.out,HK7.out⟩
   ·have hk2':((kind:Int) == 2)=false:=by rw[beq_eq_false_iff_ne];omega
    have Ho:=Lib.hid (Hone1.out (by rw[beq_eq_false_iff_ne]at hk0';omega))
    have HB:=Lib.hid (body_any base p r2 A3 mt c3 tx A4 288 c4 fixedA B4 32 d4 fixedB w4 HR4.out HT4.out HFA.out HFB.out
     Hmt.out (by omega) (by simp[fixedA]) (by simp[fixedB]) (by omega) (by omega) (by omega) (by omega) fixA_cd fixB_cd HTS.out (by omega))
    rw[←Ho.out]at HB
    clear Hone1 Hone2 hk2
    go_wp2_with fail
    refine (HB.out).mono ?_
    rintro e w7 ⟨rfl,hrow,hkp⟩
    have HR7:=Lib.hid hrow
    have HK7:=Lib.hid (HK4.out.trans hkp)
    clear hrow hkp
    go_wp2_with fail
    go_end0
    exact⟨rfl,HR7.out,HK7.out⟩
 ·go_enter Tryz.func119,Tryz.ntmps119
  have HP:=Lib.hid (put_any base p 1 1 r w HR.out (by omega) (by omega) (by omega))
  rw[show numBits 1 1=[true] from rfl,show (((1:Nat):Int))=1 from rfl]at HP
  go_wp2_with fail
  refine (HP.out).mono ?_
  rintro e w1 ⟨rfl,hrow,hkp⟩
  have HR1:=Lib.hid hrow
  have HK1:=Lib.hid hkp
  clear hrow hkp HP HR
  have hl1:(r++[true]).length≤50000001:=by rw[List.length_append,List.length_singleton];omega
  have HP:=Lib.hid (put_any base p kind 2 _ w1 HR1.out (by omega) (by omega) (by omega))
  go_wp2_with fail
  refine (HP.out).mono ?_
  rintro e w2 ⟨rfl,hrow,hkp⟩
  have HR2:=Lib.hid hrow
  have HK2:=Lib.hid (HK1.out.trans hkp)
  clear hrow hkp HP HR1 HK1
  have hl2:(r++[true]++numBits kind 2).length≤50000003:=by rw[List.length_append,numBits_length];omega
  by_cases hk0:kind=0
  ·have hk0':((kind:Int) == 0)=true:=by simp;omega
   have Hone:Hid (oneB r xs kind true=pad (r++[true]++numBits kind 2)++numBits nb 16++numBits (65535 - nb) 16++bitsL xs):=Lib.hid (by unfold oneB;rw[if_pos hk0,Hn.out,hk0])
   generalize r++[true]++numBits kind 2=r2 at *
   have HP:=Lib.hid (fill_any base p r2 w2 HR2.out)
   have hl3:(pad r2).length≤50000020:=by rw[pad_length];omega
   clear hl1 hl2 hk0 HR2
   go_wp2_with fail
   refine (HP.out).mono ?_
   rintro e w3 ⟨rfl,hrow,hkp⟩
   have HR3:=Lib.hid hrow
   have HK3:=Lib.hid (HK2.out.trans hkp)
   clear hrow hkp HP HK2
   have HP:=Lib.hid (put_any base p nb 16 _ w3 HR3.out (by omega) (by omega) (by omega))
   go_wp2_with fail
   refine (HP.out).mono ?_
   rintro e w4 ⟨rfl,hrow,hkp⟩
   have HR4:=Lib.hid hrow
   have HK4:=Lib.hid (HK3.out.trans hkp)
   clear hrow hkp HP HK3 HR3
   have hl4:(pad r2++numBits nb 16).length≤50000040:=by rw[List.length_append,numBits_length];omega
   have hxor:=xor16 nb (by omega)
   have HP:=Lib.hid (put_any base p (65535 - nb) 16 _ w4 HR4.out (by omega) (by omega) (by omega))
   go_wp2_with fail
   refine (HP.out).mono ?_
   rintro e w5 ⟨rfl,hrow,hkp⟩
   have HR5:=Lib.hid hrow
   have HK5:=Lib.hid (HK4.out.trans hkp)
   clear hrow hkp HP HK4 HR4 hxor
   have hl5:(pad r2++numBits nb 16++numBits (65535 - nb) 16).length≤50000060:=by rw[List.length_append,numBits_length];omega
   generalize pad r2++numBits nb 16++numBits (65535 - nb) 16=r5 at *
   go_wp2_with fail
   go_loopw [37] (fun i wr=>∃ k:Nat,k≤nb∧i=.int .i64 (k:Int)∧RowAt wr base p (r5++bitsL (xs.take k))∧Keeps base rowT w wr) (fun i _=>nb - (intOf i).toNat)
   case atStart=>exact⟨0,Nat.zero_le _,rfl,by rw[List.take_zero];show RowAt w5 base p (r5++[]);rw[List.append_nil];exact HR5.out,HK5.out⟩
   case round=>
    clear HR5 HK5
    obtain⟨k,hk,rfl,hrow,hkp⟩:=hrel
    have HRk:=Lib.hid hrow
    have HKk:=Lib.hid hkp
    clear hrow hkp
    by_cases hlt:k < nb
    ·have hkl:k < xs.length:=by rw[Hn.out];exact hlt
     obtain⟨b,o,rfl,hc⟩:=(HB.out.at HKk.out.block).get hkl
     have Htk:Hid (bitsL (xs.take (k+1))=bitsL (xs.take k)++bitsOf xs[k]):=Lib.hid (by rw[take_snoc xs k hkl,bitsL_append];simp[bitsL])
     have hbl:(bitsL (xs.take k)).length≤24000:=by rw[bitsL_length,List.length_take];omega
     generalize xs[k]=x at *
     obtain⟨q,hq⟩:∃ q:Nat,(q:Int)=n8 x:=⟨x.toNat,rfl⟩
     have hx8:=n8_bd x
     have Hq:Hid (bitsOf x=numBits q 8):=Lib.hid (by unfold bitsOf;rw[show x.toNat=q by unfold n8 at hq;omega])
     rw[←hq]at hc hx8
     clear hq
     have hconv:IntKind.i64.wrap (q:Int)=(q:Int):=IntWalk.i64_in _ (by omega)
     have HP:=Lib.hid (put_any base p q 8 _ wr HRk.out (by omega) (by omega) (by rw[List.length_append];omega))
     rw[List.append_assoc,←Hq.out,←Htk.out]at HP
     clear HRk hbl
     go_wp2_with fail
     refine (HP.out).mono ?_
     rintro e w6 ⟨rfl,hrow,hkp⟩
     have HR6:=Lib.hid hrow
     have HK6:=Lib.hid (HKk.out.trans hkp)
     clear hrow hkp HP HKk hc
     go_wp2_with fail
     go_roundw
     case rel=>exact⟨k+1,by omega,by go_num,HR6.out,HK6.out⟩
     case measure=>simp[intOf];omega
    ·obtain rfl:nb=k:=by omega
     have Hal:Hid (xs.take nb=xs):=Lib.hid (List.take_of_length_le (by rw[Hn.out];exact Nat.le_refl _))
     rw[Hal.out,←Hone.out]at HRk
     go_wp2_with fail
     refine bodyPost_ret (results_none rfl _ _ _) rfl ?_
     exact⟨rfl,HRk.out,HKk.out⟩
  ·have hk0':((kind:Int) == 0)=false:=by rw[beq_eq_false_iff_ne];omega
   have HTk:=Lib.hid (tokens_yes B nb cb xs w2 Hn.out hnc hx (HB.out.at HK2.out.block))
   go_wp2_with fail
   refine (HTk.out).mono ?_
   rintro e w3 ⟨⟨v3,rfl,ho3⟩,hb3⟩
   obtain⟨A3,c3,rfl,hc3,_,hk3,_⟩:=own_kat ho3
   have HR3:=Lib.hid (HR2.out.below hb3)
   have HK3:=Lib.hid (HK2.out.trans (Keeps.of_below hb3 (Nat.le_trans HR2.out.1 (Nat.le_of_lt HR2.out.lt))))
   have HT3:Hid (KAt w3 244 A3 ((toks xs).flatMap tokD)):=Lib.hid hk3
   have HTS:=Lib.hid (toks_S xs (by rw[Hn.out];exact hx))
   have htl:=toks_len xs
   rw[Hn.out]at htl
   have Hlen:=Lib.hid (lens_all (toks xs))
   have Hone1:Hid (kind=1→oneB r xs kind true=r++[true]++numBits kind 2++bodyB (toks xs) fixedA fixedB):=Lib.hid (fun h=>by subst h;unfold oneB;rw[if_neg (by omega),if_pos rfl])
   have Hone2:Hid (kind=2→oneB r xs kind true=r++[true]++numBits kind 2++headB (lensP (toks xs)).1 (lensP (toks xs)).2++bodyB (toks xs) (lensP (toks xs)).1 (lensP (toks xs)).2):=Lib.hid (fun h=>by subst h;unfold oneB;rw[if_neg (by omega),if_neg (by omega)])
   clear HTk ho3 hb3 hk3 HR2 HK2
   generalize r++[true]++numBits kind 2=r2 at *
   generalize toks xs=tx at *
   have Hm:=Lib.hid (show tx.length=tx.length from rfl)
   generalize hmt:tx.length=mt at *
   have Hmt:=Lib.hid hmt
   clear hmt Hm hk0
   go_wp2_with fail
   refine (fixed_any _).mono ?_
   rintro e w4 ⟨A4,c4,B4,d4,rfl,hoA,hoB,hb4⟩
   have HR4:=Lib.hid (HR3.out.below hb4)
   have HK4:=Lib.hid (HK3.out.trans (Keeps.of_below hb4 (Nat.le_trans HR3.out.1 (Nat.le_of_lt HR3.out.lt))))
   have HT4:=Lib.hid (HT3.out.below hb4)
   have HFA:Hid (KAt w4 3 A4 (fixedA.map Code.natV)):=Lib.hid (by obtain⟨A,c,e,_,_,h,_⟩:=own_kat hoA;injection e with e;subst e;exact h)
   have HFB:Hid (KAt w4 3 B4 (fixedB.map Code.natV)):=Lib.hid (by obtain⟨A,c,e,_,_,h,_⟩:=own_kat hoB;injection e with e;subst e;exact h)
   clear hoA hoB hb4 HR3 HK3 HT3
   by_cases hk2:kind=2
   ·have hk2':((kind:Int) == 2)=true:=by simp;omega
    have Ho:=Lib.hid (Hone2.out hk2)
    have HL:=Lib.hid (blens_any A3 mt c3 tx w4 Hmt.out (by omega) HT4.out.slat (fun t ht=>tokS_fine (HTS.out t ht)))
    clear Hone1 Hone2 HFA HFB hk2
    go_wp2_with fail
    refine (HL.out).mono ?_
    rintro e w5 ⟨⟨v1,v2,rfl,ho1,ho2⟩,hb5⟩
    obtain⟨l1,l2,l3,l4,l5,l6⟩:=Hlen.out
    obtain⟨A5,a5,rfl,ha5,_,hk5,_⟩:=own_kat ho1
    obtain⟨B5,b5,rfl,hb5',_,hk6,_⟩:=own_kat ho2
    obtain⟨bA,oA,_,rfl,_,_⟩:=hk5 (by rw[List.length_map,l1];omega)
    obtain⟨bB,oB,_,rfl,_,_⟩:=hk6 (by rw[List.length_map,l2];omega)
    have HR5:=Lib.hid (HR4.out.below hb5)
    have HK5:=Lib.hid (HK4.out.trans (Keeps.of_below hb5 (Nat.le_trans HR4.out.1 (Nat.le_of_lt HR4.out.lt))))
    have HT5:=Lib.hid (HT4.out.below hb5)
    have HL5:=Lib.hid hk5
    have HL6:=Lib.hid hk6
    have HH:=Lib.hid (head_any base p r2 bA oA a5 bB oB b5 (lensP tx).1 (lensP tx).2 w5 HR5.out HL5.out HL6.out l1 l2 ha5 hb5' l3 l4 (by omega))
    have hhl:=headB_len (lensP tx).1 (lensP tx).2 l1 l2 l3 l4
    have L1:=Lib.hid l1
    have L2:=Lib.hid l2
    have L3:=Lib.hid l3
    have L4:=Lib.hid l4
    clear HL ho1 ho2 hb5 hk5 hk6 HR4 HK4 HT4 l1 l2 l3 l4 l5 l6 Hlen
    generalize (lensP tx).1=LA at *
    generalize (lensP tx).2=LB at *
    go_wp2_with fail
    refine (HH.out).mono ?_
    rintro e w6 ⟨rfl,hrow,hkp⟩
    have HR6:=Lib.hid hrow
    have HK6:=Lib.hid (HK5.out.trans hkp)
    have HB:=Lib.hid (body_any base p _ A3 mt c3 tx (some ⟨bA,oA,none⟩) 286 a5 LA (some ⟨bB,oB,none⟩) 30 b5 LB w6 HR6.out (HT5.out.keeps hkp (by decide)) (HL5.out.keeps hkp (by decide)) (HL6.out.keeps hkp (by decide))
     Hmt.out (by omega) L1.out L2.out (by omega) (by omega) (by omega) (by omega) L3.out L4.out HTS.out (by rw[List.length_append];omega))
    rw[←Ho.out]at HB
    clear hrow hkp HH
    go_wp2_with fail
    refine (HB.out).mono ?_
    rintro e w7 ⟨rfl,hrow,hkp⟩
    have HR7:=Lib.hid hrow
    have HK7:=Lib.hid (HK6.out.trans hkp)
    clear hrow hkp
    go_wp2_with fail
    go_end0
    exact⟨rfl,HR7.out,HK7.out⟩
   ·have hk2':((kind:Int) == 2)=false:=by rw[beq_eq_false_iff_ne];omega
    have Ho:=Lib.hid (Hone1.out (by rw[beq_eq_false_iff_ne]at hk0';omega))
    have HB:=Lib.hid (body_any base p r2 A3 mt c3 tx A4 288 c4 fixedA B4 32 d4 fixedB w4 HR4.out HT4.out HFA.out HFB.out
     Hmt.out (by omega) (by simp[fixedA]) (by simp[fixedB]) (by omega) (by omega) (by omega) (by omega) fixA_cd fixB_cd HTS.out (by omega))
    rw[←Ho.out]at HB
    clear Hone1 Hone2 hk2
    go_wp2_with fail
    refine (HB.out).mono ?_
    rintro e w7 ⟨rfl,hrow,hkp⟩
    have HR7:=Lib.hid hrow
    have HK7:=Lib.hid (HK4.out.trans hkp)
    clear hrow hkp
    go_wp2_with fail
    go_end0
    exact⟨rfl,HR7.out,HK7.out⟩
end Go.Proofs.YtabdianhoabhhaaGreatDoor.Blk
namespace Go.Proofs.YtabdianhoabhhaaGreatDoor.Blk
open Go Go.RowKit Go.Proofs.YtabdianhoabhhaaGreatDoor Go.Proofs.YtabdianhoabhhaaGreatDoor.Bits Go.Proofs.YtabdianhoabhhaaGreatDoor.Code Go.Proofs.YtabdianhoabhhaaGreatDoor.Inf Go.Proofs.YtabdianhoabhhaaGreatDoor.SP Go.Proofs.YtabdianhoabhhaaGreatDoor.Rt
set_option linter.unusedVariables false
theorem slat_low {w w':World} {A:Option Addr} {cs:List Value} {base:Nat} (h:SlAt w A cs) (hb:w.heap.size=base) (hw:∀ k,k < base→w'.heap[k]?=w.heap[k]?):SlAt w' A cs:=fun hp=>by
 obtain⟨b,o,e,hc⟩:=h hp
 refine⟨b,o,e,fun j v hj=>?_⟩
 have h1:=hc j v hj
 have hlt:=block_lt_of_cell h1
 have h2:=hw b (by rw[←hb];exact hlt)
 rw[←h1]
 simp only[World.cell?,h2]
theorem packE_zero (parts:List (List UInt8)) (ks:List Int):∀ f i n:Nat,packE parts ks f i n=0→(∀ j,i≤j→j < i+f→0≤ks.getD j 0∧ks.getD j 0≤2∧j < 40)∧(f≠0→n≤3000)∧n+((parts.drop i).take f).flatten.length≤max n 3000
 | 0,i,n,_=>⟨fun j h1 h2=>by omega,fun h=>absurd rfl h,by simp;omega⟩
 | f+1,i,n,h=>by
  unfold packE at h
  by_cases h1:3000 < n+(parts.getD i []).length∨40≤i
  ·rw[if_pos h1]at h;simp at h
  ·rw[if_neg h1]at h
   by_cases h2:ks.getD i 0 < 0∨2 < ks.getD i 0
   ·rw[if_pos h2]at h;simp at h
   ·rw[if_neg h2]at h
    obtain⟨a1,a2,a3⟩:=packE_zero parts ks f (i+1) (n+(parts.getD i []).length) h
    refine⟨fun j h3 h4=>?_,fun _=>by omega,?_⟩
    ·by_cases hj:j=i
     ·subst hj;omega
     ·exact a1 j (by omega) (by omega)
    ·rcases Nat.lt_or_ge i parts.length with hi | hi
     ·rw[List.drop_eq_getElem_cons hi,List.take_succ_cons,List.flatten_cons,List.length_append]
      rw[List.getD_eq_getElem?_getD,List.getElem?_eq_getElem hi]at a3 h1
      simp only[Option.getD_some]at a3 h1
      omega
     ·rw[List.drop_of_length_le hi];simp;omega
theorem packE_all (parts:List (List UInt8)) (ks:List Int) (h:packE parts ks parts.length 0 0=0) (hl:ks.length=parts.length):(∀ k∈ks,0≤k∧k≤2)∧parts.length≤40∧parts.flatten.length≤3000:=by
 obtain⟨a1,a2,a3⟩:=packE_zero parts ks parts.length 0 0 h
 rw[List.drop_zero,List.take_length]at a3
 refine⟨fun k hk=>?_,?_,by omega⟩
 ·obtain⟨i,hi,rfl⟩:=List.mem_iff_getElem.1 hk
  have:=a1 i (by omega) (by omega)
  rw[List.getD_eq_getElem?_getD,List.getElem?_eq_getElem hi]at this
  exact⟨this.1,this.2.1⟩
 ·rcases Nat.eq_zero_or_pos parts.length with h0 | h0
  ·omega
  ·have:=(a1 (parts.length - 1) (by omega) (by omega)).2.2
   omega
theorem part_len (parts:List (List UInt8)) (i:Nat):(parts.getD i []).length≤parts.flatten.length:=by
 rcases Nat.lt_or_ge i parts.length with hi | hi
 ·have:=flat_take parts i hi
  have h2:=flat_len parts (i+1)
  rw[this,List.length_append]at h2
  omega
 ·rw[List.getD_eq_getElem?_getD,List.getElem?_eq_none hi];simp
theorem packK_len (parts:List (List UInt8)) (kinds:List Nat) (h:parts.flatten.length≤3000):∀ i,(packK parts kinds i).length≤200000*i
 | 0=>by show 0≤_;omega
 | i+1=>by
  have h1:=packK_len parts kinds h i
  have h2:=oneB_len (packK parts kinds i) (parts.getD i []) (kinds.getD i 0) (decide (i+1=parts.length)) (by have:=part_len parts i;omega)
  show (oneB _ _ _ _).length≤_
  omega
def packErr (parts:List (List UInt8)) (ks:List Int):Int:=if parts.length=0∨parts.length≠ks.length then 4 else packE parts ks parts.length 0 0
def PackPost (parts:List (List UInt8)) (ks:List Int) (w:World) (e:Ending) (w':World):Prop:=
  (packErr parts ks≠0∧e=.returned (.tuple #[.slice none 0 0,.int .i64 (packErr parts ks)])∨
   packErr parts ks=0∧∃ v,e=.returned (.tuple #[v,.int .i64 0])∧w'.ownsRow w.heap.size 5 1 v (packB parts (lsOf ks)).length ((packB parts (lsOf ks)).map u8v))∧Below w.heap.size w w'
set_option maxRecDepth 100000 in
set_option maxHeartbeats 4000000 in
theorem bpack_any (PA KA:Option Addr) (n cn m cm:Nat) (ps:List (Value×List UInt8)) (ks:List Int) (w:World) (hn:ps.length=n) (hm:ks.length=m) (hnx:n≤maxLen) (hmx:m≤maxLen) (hP:SlAt w PA (ps.map (·.1))) (hd:∀ q∈ps,IsBytes w q.1 q.2) (hq:∀ q∈ps,q.2.length≤140737488351232) (hK:InAt w KA ks) :
  Calls Tryz.prog 83 #[.slice PA n cn,.slice KA m cm] w (PackPost (ps.map (·.2)) ks w):=by
 have HN:=Lib.hid hn
 have HM:=Lib.hid hm
 have HP:=Lib.hid hP
 have HD:=Lib.hid hd
 have HQ:=Lib.hid hq
 have HK:=Lib.hid hK
 have lp:(ps.map (·.2)).length=n:=by rw[List.length_map,hn]
 have Hp:Hid (∀ k (h:k < ps.length),(ps.map (·.2)).getD k []=ps[k].2):=Lib.hid (fun k h=>by rw[List.getD_eq_getElem?_getD,List.getElem?_map,List.getElem?_eq_getElem h];rfl)
 unfold maxLen at hnx hmx
 generalize ps.map (·.2)=parts at *
 have LP:=Lib.hid lp
 clear hn hm hP hd hq hK lp
 go_enter Tryz.func83,Tryz.ntmps83
 by_cases h0:n=0
 ·have hz:((n:Int) == 0)=true:=by simp;omega
  have He:Hid (packErr parts ks=4):=Lib.hid (by unfold packErr;rw[if_pos (by rw[LP.out];exact .inl h0)])
  clear h0
  go_wp2_with fail
  go_ret2
  exact⟨.inl ⟨by rw[He.out];decide,by rw[He.out];rfl⟩,Below.refl _ _⟩
 ·have hz:((n:Int) == 0)=false:=by rw[beq_eq_false_iff_ne];omega
  by_cases hnm:n=m
  ·subst hnm
   have He:Hid (packErr parts ks=packE parts ks n 0 0):=Lib.hid (by unfold packErr;rw[if_neg (by rw[LP.out,HM.out];omega),LP.out])
   have hne:((n:Int) == (n:Int))=true:=by simp
   clear h0
   go_wp2_with fail
   go_loop [6,24] (fun vs i=>∃ k s:Nat,k≤n∧i=.int .i64 (k:Int)∧vs=.int .i64 (s:Int)∧s≤3000∧packE parts ks n 0 0=packE parts ks (n - k) k s) (fun _ i=>n - (intOf i).toNat)
   case atStart=>exact⟨0,0,Nat.zero_le _,rfl,rfl,by omega,rfl⟩
   case round=>
    obtain⟨k,s,hk,rfl,rfl,hs,hpk⟩:=hrel
    have Hpk:=Lib.hid hpk
    clear hpk
    by_cases hlt:k < n
    ·have hkl:k < ps.length:=by rw[HN.out];exact hlt
     obtain⟨bP,oP,rfl,hcP⟩:=HP.out.get (k:=k) (by rw[List.length_map];exact hkl)
     rw[List.getElem_map]at hcP
     obtain⟨A,c,hv,hlc,hcm,hby⟩:=HD.out _ (List.getElem_mem hkl)
     rw[hv]at hcP
     have Hp2:=Lib.hid (Hp.out k hkl)
     have hlq:=HQ.out _ (List.getElem_mem hkl)
     generalize hxs:ps[k].2=xs at *
     clear hv hxs hby
     unfold maxLen at hcm
     generalize hlx:xs.length=lx at *
     have Hlx:=Lib.hid hlx
     have hkm:k < ks.length:=by rw[HM.out];exact hlt
     obtain⟨bK,oK,rfl,hcK⟩:=HK.out.get hkm
     have Hks:Hid (ks.getD k 0=ks[k]):=Lib.hid (by rw[List.getD_eq_getElem?_getD,List.getElem?_eq_getElem hkm];rfl)
     generalize ks[k]=z at *
     obtain⟨f,hf⟩:∃ f,n - k=f+1:=⟨n - k - 1,by omega⟩
     have Hst:Hid (packE parts ks n 0 0=if 3000 < s+lx∨40≤k then 2 else if z < 0∨2 < z then 3 else packE parts ks (n - (k+1)) (k+1) (s+lx)):=Lib.hid (by
      rw[Hpk.out,hf]
      conv=>lhs;unfold packE
      rw[Hp2.out,Hlx.out,Hks.out,show n - (k+1)=f by omega])
     have hsum:IntKind.i64.wrap ((s:Int)+(lx:Int))=((s+lx:Nat):Int):=by rw[show ((s:Int)+(lx:Int))=((s+lx:Nat):Int) by omega];exact IntWalk.i64_in _ (by omega)
     obtain⟨t,ht⟩:∃ t,t=s+lx:=⟨_,rfl⟩
     rw[←ht]at hsum Hst
     clear hlx hf ht
     by_cases h3:3000 < t
     ·have h3':(3000:Int) < (t:Int):=by omega
      have Hr:Hid (packErr parts ks=2):=Lib.hid (by rw[He.out,Hst.out,if_pos (.inl h3)])
      clear h3
      go_wp2_with fail
      go_ret2
      exact⟨.inl ⟨by rw[Hr.out];decide,by rw[Hr.out];rfl⟩,Below.refl _ _⟩
     ·have h3':¬ (3000:Int) < (t:Int):=by omega
      by_cases h4:40≤k
      ·have h4':(40:Int)≤(k:Int):=by omega
       have Hr:Hid (packErr parts ks=2):=Lib.hid (by rw[He.out,Hst.out,if_pos (.inr h4)])
       clear h3 h4
       go_wp2_with fail
       go_ret2
       exact⟨.inl ⟨by rw[Hr.out];decide,by rw[Hr.out];rfl⟩,Below.refl _ _⟩
      ·have h4':¬ (40:Int)≤(k:Int):=by omega
       by_cases h5:z < 0
       ·have Hr:Hid (packErr parts ks=3):=Lib.hid (by rw[He.out,Hst.out,if_neg (by omega),if_pos (.inl h5)])
        clear h3 h4
        go_wp2_with fail
        go_ret2
        exact⟨.inl ⟨by rw[Hr.out];decide,by rw[Hr.out];rfl⟩,Below.refl _ _⟩
       ·by_cases h6:2 < z
        ·have Hr:Hid (packErr parts ks=3):=Lib.hid (by rw[He.out,Hst.out,if_neg (by omega),if_pos (.inr h6)])
         clear h3 h4
         go_wp2_with fail
         go_ret2
         exact⟨.inl ⟨by rw[Hr.out];decide,by rw[Hr.out];rfl⟩,Below.refl _ _⟩
        ·have Hr:Hid (packE parts ks n 0 0=packE parts ks (n - (k+1)) (k+1) t):=Lib.hid (by rw[Hst.out,if_neg (by omega),if_neg (by omega)])
         clear h4
         go_wp2_with fail
         go_round
         case rel=>exact⟨k+1,t,by omega,by go_num,rfl,by omega,Hr.out⟩
         case measure=>simp[intOf];omega
    ·obtain rfl:n=k:=by omega
     have Hz:Hid (packE parts ks n 0 0=0):=Lib.hid (by rw[Hpk.out,Nat.sub_self];rfl)
     have He0:Hid (packErr parts ks=0):=Lib.hid (by rw[He.out,Hz.out])
     obtain⟨q1,q2,q3⟩:=packE_all parts ks (by rw[LP.out];exact Hz.out) (by rw[HM.out,LP.out])
     have Q1:=Lib.hid q1
     have Q3:=Lib.hid q3
     rw[LP.out]at q2
     have HRow0:=Lib.hid (RowAt.new w (base:=w.heap.size) (Nat.le_refl _))
     have Hb0:=Lib.hid ((Below.refl w.heap.size w).alloc (Nat.le_refl _) (.cells #[.slice none 0 0,.int .i64 0] 128))
     clear q1 q3 Hpk
     go_wp2_with fail
     have HPb:=Lib.hid (HP.out.below Hb0.out)
     have HKb:=Lib.hid (HK.out.below Hb0.out)
     have HLw:Hid (∀ q∈ps,∃ A cap,q.1=.slice A q.2.length cap∧q.2.length≤cap∧LowBy (w.alloc (.cells #[.slice none 0 0,.int .i64 0] 128)) w.heap.size A q.2):=Lib.hid (fun q hq=>by
      obtain⟨A,c,h1,h2,h3,h4⟩:=HD.out q hq
      exact⟨A,c,h1,h2,(LowBy.of h4 (Nat.le_refl _)).trans (fun k hk=>Hb0.out.block k hk)⟩)
     obtain⟨n1,hn1⟩:∃ n1,n=n1+1:=⟨n - 1,by rw[beq_eq_false_iff_ne]at hz;omega⟩
     have hs1:IntKind.i64.wrap ((n:Int) - 1)=(n1:Int):=by rw[show (n:Int) - 1=(n1:Int) by omega];exact IntWalk.i64_in _ (by omega)
     have Hn1:=Lib.hid hn1
     clear hn1 hlt hs hk
     generalize hw3:w.alloc (.cells #[.slice none 0 0,.int .i64 0] 128)=w3 at *
     generalize hp0:w.heap.size=p0 at *
     have Hp0:=Lib.hid hp0
     clear hw3 hp0
     go_loopw [54] (fun i wr=>∃ k:Nat,k≤n∧i=.int .i64 (k:Int)∧RowAt wr p0 p0 (packK parts (lsOf ks) k)∧Keeps p0 rowT w3 wr) (fun i _=>n - (intOf i).toNat)
     case atStart=>exact⟨0,Nat.zero_le _,rfl,HRow0.out,Keeps.refl _ _ _⟩
     case round=>
      clear HRow0
      obtain⟨k,hk,rfl,hrow,hkp⟩:=hrel
      have HRow:=Lib.hid hrow
      have HKp:=Lib.hid hkp
      have hrl:=packK_len parts (lsOf ks) Q3.out k
      clear hrow hkp
      by_cases hlt:k < n
      ·have hkl:k < ps.length:=by rw[HN.out];exact hlt
       have Hag:Hid (∀ j,j < p0→wr.heap[j]?=w.heap[j]?):=Lib.hid (fun j hj=>(HKp.out.block j hj).trans (Hb0.out.block j hj))
       obtain⟨bP,oP,rfl,hcP⟩:=(slat_low HP.out Hp0.out Hag.out).get (k:=k) (by rw[List.length_map];exact hkl)
       rw[List.getElem_map]at hcP
       obtain⟨A,c,hv,hlc,hlow⟩:=HLw.out _ (List.getElem_mem hkl)
       rw[hv]at hcP
       have Hp2:=Lib.hid (Hp.out k hkl)
       have hx3:ps[k].2.length≤3000:=by rw[←Hp2.out];exact Nat.le_trans (part_len parts k) Q3.out
       generalize hxs:ps[k].2=xs at *
       have Hlow:=Lib.hid hlow
       have hkm:k < ks.length:=by rw[HM.out];exact hlt
       obtain⟨bK,oK,rfl,hcK⟩:=InAt.get (slat_low HK.out Hp0.out Hag.out) hkm
       have hz2:=Q1.out _ (List.getElem_mem hkm)
       have hgk:(lsOf ks).getD k 0=ks[k].toNat:=getD_of ks k hkm
       generalize ks[k]=z at *
       obtain⟨zk,rfl⟩:=Int.eq_ofNat_of_zero_le hz2.1
       rw[Int.toNat_natCast]at hgk
       obtain⟨lb,hlb⟩:∃ b:Bool,b=((k:Int) == (n1:Int)):=⟨_,rfl⟩
       have Hst:Hid (packK parts (lsOf ks) (k+1)=oneB (packK parts (lsOf ks) k) xs zk lb):=Lib.hid (by
        show oneB _ _ _ _=_
        rw[Hp2.out,hgk]
        congr 1
        rw[hlb,LP.out,Hn1.out,Bool.eq_iff_iff]
        simp
        omega)
       have HO:=Lib.hid (one_any p0 p0 (packK parts (lsOf ks) k) A xs.length c xs zk lb wr HRow.out (Hlow.out.trans HKp.out.block) rfl hlc hx3 (by omega) (by omega))
       rw[←Hst.out]at HO
       rw[hlb]at HO
       have hlx:=hx3
       generalize xs.length=lx at *
       clear hv hlow hxs hgk hlb hrl HRow hlc hx3 hz2
       go_wp2_with fail
       refine (HO.out).mono ?_
       rintro e w5 ⟨rfl,hrow,hkp⟩
       have HR5:=Lib.hid hrow
       have HK5:=Lib.hid (HKp.out.trans hkp)
       clear hrow hkp HO HKp
       go_wp2_with fail
       go_roundw
       case rel=>exact⟨k+1,by omega,by go_num,HR5.out,HK5.out⟩
       case measure=>simp[intOf];omega
      ·obtain rfl:n=k:=by omega
       have Hbk:Hid (Below p0 w wr):=Lib.hid (Hb0.out.trans HKp.out.below)
       have HPk:Hid (packB parts (lsOf ks)=pack (packK parts (lsOf ks) n)):=Lib.hid (by unfold packB;rw[LP.out])
       obtain⟨hpp,v,hv1,hv2⟩:=HRow.out
       have hby:=Lib.hid (bytes_any p0 v _ wr hv1)
       have Hv2:=Lib.hid hv2
       clear hv1 hv2 hrl
       go_wp2_with fail
       refine (hby.out).mono ?_
       rintro e w5 ⟨rfl,rfl⟩
       go_wp2_with fail
       go_ret2
       exact⟨.inr ⟨He0.out,v,rfl,by rw[HPk.out,Hp0.out];exact Hv2.out⟩,by rw[Hp0.out];exact Hbk.out⟩
  ·have hne:((n:Int) == (m:Int))=false:=by rw[beq_eq_false_iff_ne];omega
   have He:Hid (packErr parts ks=4):=Lib.hid (by unfold packErr;rw[if_pos (by rw[LP.out,HM.out];exact .inr hnm)])
   clear h0 hnm
   go_wp2_with fail
   go_ret2
   exact⟨.inl ⟨by rw[He.out];decide,by rw[He.out];rfl⟩,Below.refl _ _⟩
end Go.Proofs.YtabdianhoabhhaaGreatDoor.Blk
namespace Go.Proofs.YtabdianhoabhhaaGreatDoor
open Go Go.RowKit
set_option linter.unusedVariables false
def strB (xs:List UInt8):ByteArray:=⟨xs.toArray⟩
theorem strB_inj (xs ys:List UInt8):((strB xs).toList == (strB ys).toList)=decide (xs=ys):=by
 rw[ByteArray.toList_eq,ByteArray.toList_eq,Bool.eq_iff_iff];simp[strB]
theorem strB_nums (xs:List UInt8):strOfNums (xs.map n8)=strB xs:=by
 unfold strOfNums strB
 rw[List.map_map]
 have:((fun n=>UInt8.ofNat n.toNat) ∘ n8)=id:=by
  funext x;simp[n8]
 rw[this,List.map_id]
theorem conv_bytes (A:Option Addr) (n c:Nat) (xs:List UInt8) (w:World) (hn:xs.length=n) (h:ByAt w A xs) :
  (convert 23 9 (.slice A n c)).run Tryz.prog w=.ok (.string (strB xs)) w:=by
 rw[←strB_nums]
 cases n with
 | zero=>
  have:xs=[]:=List.eq_nil_of_length_eq_zero hn
  subst this
  exact run_convert_bytes_zero w _ _ Tryz.underlying23 Tryz.underlying5 A c _ Tryz.underlying9
 | succ n=>
  obtain⟨b,o,rfl,_⟩:=SlAt.get h (k:=0) (by simp;omega)
  refine run_convert_bytes_arg w _ _ Tryz.underlying23 Tryz.underlying5 b o _ c _ (by simpa using hn) (fun i hi=>?_) _ Tryz.underlying9
  obtain⟨b',o',hb,hc⟩:=SlAt.get h (k:=i) (by simp;omega)
  injection hb with hb;injection hb with h1 h2 h3
  subst h1 h2
  rw[hc]
  have:i < xs.length:=by omega
  simp[List.getD,u8v,this]
set_option maxHeartbeats 400000 in
theorem equal_bytes (A B:Option Addr) (n m ca cb:Nat) (xs ys:List UInt8) (w:World) (hn:xs.length=n) (hm:ys.length=m) (ha:ByAt w A xs) (hb:ByAt w B ys) :
  Calls Tryz.prog 22 #[.slice A n ca,.slice B m cb] w fun e w'=>e=.returned (.bool (decide (xs=ys)))∧w'=w:=by
 have k1:=conv_bytes A n ca xs w hn ha
 have k2:=conv_bytes B m cb ys w hm hb
 have K:=Lib.hid (strB_inj xs ys)
 clear hn hm ha hb
 go_enter Tryz.func22,Tryz.ntmps22
 go_wp2_with fail
 go_ret
 exact⟨ret_bool K.out,rfl⟩
end Go.Proofs.YtabdianhoabhhaaGreatDoor
namespace Go.Proofs.YtabdianhoabhhaaGreatDoor.Blk
open Go Go.RowKit Go.Proofs.YtabdianhoabhhaaGreatDoor Go.Proofs.YtabdianhoabhhaaGreatDoor.Bits Go.Proofs.YtabdianhoabhhaaGreatDoor.Inf Go.Proofs.YtabdianhoabhhaaGreatDoor.SP Go.Proofs.YtabdianhoabhhaaGreatDoor.Rt
open Go.Proofs.YtabdianhoabhhaaGreatDoor.Code (lsOf natV nats)
set_option linter.unusedVariables false
theorem packErr_one (xs:List UInt8) (k:Nat) (hx:xs.length≤3000) (hk:k≤2):packErr [xs] [(k:Int)]=0:=by
 unfold packErr
 rw[if_neg (by simp)]
 show packE [xs] [(k:Int)] 1 0 0=0
 unfold packE
 rw[if_neg (by simp;omega),if_neg (by simp;omega)]
 rfl
theorem lsOf_one (k:Nat):lsOf [(k:Int)]=[k]:=by simp[lsOf]
theorem pack1_any (A:Option Addr) (n c k:Nat) (xs:List UInt8) (w:World) (hn:xs.length=n) (hnc:n≤c) (hcm:c≤maxLen) (hx:n≤3000) (hk:k≤2) (hA:ByAt w A xs) :
  Calls Tryz.prog 83 #[.slice (some ⟨w.heap.size,0,none⟩) 1 1,.slice (some ⟨w.heap.size+1,0,none⟩) 1 1] ((w.alloc (.cells #[.slice A n c] 23)).alloc (.cells #[.int .i64 (k:Int)] 3)) fun e w'=>
   (∃ v,e=.returned (.tuple #[v,.int .i64 0])∧w'.ownsRow w.heap.size 5 1 v (packB [xs] [k]).length ((packB [xs] [k]).map u8v))∧Below w.heap.size w w':=by
 have hb:Below w.heap.size w ((w.alloc (.cells #[.slice A n c] 23)).alloc (.cells #[.int .i64 (k:Int)] 3)):=((Below.refl _ _).alloc (Nat.le_refl _) _).alloc (by simp) _
 have h1:Blk ((w.alloc (.cells #[.slice A n c] 23)).alloc (.cells #[.int .i64 (k:Int)] 3)) w.heap.size 23 #[.slice A n c]:=(Blk.new w _ _).alloc _
 have h2:Blk ((w.alloc (.cells #[.slice A n c] 23)).alloc (.cells #[.int .i64 (k:Int)] 3)) (w.heap.size+1) 3 #[.int .i64 (k:Int)]:=by
  have:=Blk.new (w.alloc (.cells #[.slice A n c] 23)) 3 #[.int .i64 (k:Int)]
  rw[World.size_alloc]at this;exact this
 have he:=packErr_one xs k (by omega) hk
 refine (bpack_any (some ⟨w.heap.size,0,none⟩) (some ⟨w.heap.size+1,0,none⟩) 1 1 1 1 [(.slice A n c,xs)] [(k:Int)] _ rfl rfl (by unfold maxLen;omega) (by unfold maxLen;omega) h1.kat.slat ?_ ?_ ?_).mono ?_
 ·intro q hq
  rw[List.mem_singleton]at hq
  subst hq
  exact⟨A,c,by rw[hn],by rw[hn];exact hnc,hcm,hA.below hb⟩
 ·intro q hq
  rw[List.mem_singleton]at hq
  subst hq
  dsimp only
  omega
 ·exact h2.kat.slat
 ·rintro e w' ⟨h,hb'⟩
  have hb2:Below w.heap.size w w':=hb.trans (hb'.mono hb.size)
  refine⟨?_,hb2⟩
  rcases h with ⟨h3,_⟩ | ⟨_,v,rfl,ho⟩
  ·exact absurd he h3
  ·rw[lsOf_one]at ho
   exact⟨v,rfl,own_base ho (by simp;omega)⟩
def bestK (xs:List UInt8):Nat→List UInt8×Nat
 | 0=>([],0)
 | k+1=>if k=0∨(packB [xs] [k]).length < (bestK xs k).1.length then (packB [xs] [k],k) else bestK xs k
theorem bestK_yes (xs:List UInt8) (k:Nat) (h:k=0∨(packB [xs] [k]).length < (bestK xs k).1.length):bestK xs (k+1)=(packB [xs] [k],k):=by
 conv=>lhs;unfold bestK
 rw[if_pos h]
theorem bestK_no (xs:List UInt8) (k:Nat) (h:¬ (k=0∨(packB [xs] [k]).length < (bestK xs k).1.length)):bestK xs (k+1)=bestK xs k:=by
 conv=>lhs;unfold bestK
 rw[if_neg h]
def BestPost (n:Nat) (xs:List UInt8) (w:World) (e:Ending) (w':World):Prop:=
  (3000 < n∧e=.returned (.tuple #[.slice none 0 0,.int .i64 0,.int .i64 2])∨
   n≤3000∧∃ v,e=.returned (.tuple #[v,.int .i64 ((bestK xs 3).2:Int),.int .i64 0])∧w'.ownsRow w.heap.size 5 1 v (bestK xs 3).1.length ((bestK xs 3).1.map u8v))∧Below w.heap.size w w'
set_option maxRecDepth 100000 in
set_option maxHeartbeats 1600000 in
theorem best_any (A:Option Addr) (n c:Nat) (xs:List UInt8) (w:World) (hn:xs.length=n) (hnc:n≤c) (hcm:c≤maxLen) (hA:ByAt w A xs) :
  Calls Tryz.prog 62 #[.slice A n c] w (BestPost n xs w):=by
 have Hn:=Lib.hid hn
 have HA:=Lib.hid hA
 have Hcm:=Lib.hid hcm
 unfold maxLen at hcm
 clear hn hA
 go_enter Tryz.func62,Tryz.ntmps62
 by_cases h3:3000 < n
 ·have h3':(3000:Int) < (n:Int):=by omega
  go_wp2_with fail
  go_ret3
  exact⟨.inl ⟨h3,rfl⟩,Below.refl _ _⟩
 ·have h3':¬ (3000:Int) < (n:Int):=by omega
  have hle:n≤3000:=by omega
  clear h3
  go_wp2_with fail
  go_loopw [2,3,5] (fun vo vb vk wr=>∃ k:Nat,k≤3∧vk=.int .i64 (k:Int)∧vb=.int .i64 ((bestK xs k).2:Int)∧wr.ownsRow w.heap.size 5 1 vo (bestK xs k).1.length ((bestK xs k).1.map u8v)∧Below w.heap.size w wr) (fun _ _ vk _=>3 - (intOf vk).toNat)
  case atStart=>exact⟨0,by omega,rfl,rfl,World.ownsRow_nil ..,Below.refl _ _⟩
  case round=>
   obtain⟨k,hk,rfl,rfl,ho,hb⟩:=hrel
   have HO:=Lib.hid ho
   have Hb:=Lib.hid hb
   clear ho hb
   by_cases hlt:k < 3
   ·have hk2:(k:Int)≤2:=by omega
    have HP:=Lib.hid (pack1_any A n c k xs wr Hn.out hnc Hcm.out hle (by omega) (HA.out.below Hb.out))
    have Hy:=Lib.hid (bestK_yes xs k)
    have Hno:=Lib.hid (bestK_no xs k)
    go_wp2_with fail
    refine (HP.out).mono ?_
    rintro e w2 ⟨⟨v2,rfl,ho2⟩,hb2⟩
    have HO2:=Lib.hid (own_keep HO.out hb2)
    have Hb2:=Lib.hid (Hb.out.trans (hb2.mono Hb.out.size))
    have HN2:=Lib.hid (own_base ho2 Hb.out.size)
    obtain⟨A2,c2,rfl,_⟩:=own_slat ho2
    obtain⟨A1,c1,rfl,_⟩:=own_slat HO.out
    clear ho2 hb2 HP HO Hb
    generalize packB [xs] [k]=p at *
    generalize bestK xs k=s at *
    obtain⟨s1,s2⟩:=s
    dsimp only at HO2 Hy Hno
    by_cases hc:k=0∨p.length < s1.length
    ·have He:=Lib.hid (Hy.out hc)
     by_cases hk0:k=0
     ·have hz:((k:Int) == 0)=true:=by simp;omega
      clear hc hk0 Hy Hno
      go_wp2_with fail
      go_roundw
      case rel=>exact⟨k+1,by omega,by go_num,by rw[He.out],by rw[He.out];exact HN2.out,Hb2.out⟩
      case measure=>simp[intOf];omega
     ·have hz:((k:Int) == 0)=false:=by rw[beq_eq_false_iff_ne];omega
      have hl:(p.length:Int) < (s1.length:Int):=by omega
      clear hc hk0 Hy Hno
      go_wp2_with fail
      go_roundw
      case rel=>exact⟨k+1,by omega,by go_num,by rw[He.out],by rw[He.out];exact HN2.out,Hb2.out⟩
      case measure=>simp[intOf];omega
    ·have He:=Lib.hid (Hno.out hc)
     have hz:((k:Int) == 0)=false:=by rw[beq_eq_false_iff_ne];omega
     have hl:¬ (p.length:Int) < (s1.length:Int):=by omega
     clear hc Hy Hno
     go_wp2_with fail
     go_roundw
     case rel=>exact⟨k+1,by omega,by go_num,by rw[He.out],by rw[He.out];exact HO2.out,Hb2.out⟩
     case measure=>simp[intOf];omega
   ·obtain rfl:k=3:=by omega
    have hk2:¬ ((3:Nat):Int)≤2:=by omega
    go_wp2_with fail
    go_ret3
    exact⟨.inr ⟨hle,_,rfl,HO.out⟩,Hb.out⟩
end Go.Proofs.YtabdianhoabhhaaGreatDoor.Blk
namespace Go.Proofs.YtabdianhoabhhaaGreatDoor.Gz
open Go Go.RowKit Go.Proofs.YtabdianhoabhhaaGreatDoor Go.Proofs.YtabdianhoabhhaaGreatDoor.Bits Go.Proofs.YtabdianhoabhhaaGreatDoor.Inf Go.Proofs.YtabdianhoabhhaaGreatDoor.Rt Go.Proofs.YtabdianhoabhhaaGreatDoor.Blk
set_option linter.unusedVariables false
def sumN (xs:List UInt8):Nat:=(Sum.crc 0#32 xs).toNat
def tailS (c n:Nat):Nat→List Bool
 | 0=>[]
 | 1=>(numBits (c % 65536) 16++numBits (c / 65536) 16)
 | _=>(numBits (c % 65536) 16++numBits (c / 65536) 16)++numBits (n % 65536) 16++numBits (n / 65536) 16
def tl (xs:List UInt8):List UInt8:=pack (tailS (sumN xs) xs.length 2)
theorem sumN_lt (xs:List UInt8):sumN xs < 4294967296:=(Sum.crc 0#32 xs).isLt
theorem best_some (xs:List UInt8):∃ k,k≤2∧bestK xs 3=(packB [xs] [k],k):=by
 have h1:bestK xs 1=(packB [xs] [0],0):=bestK_yes xs 0 (.inl rfl)
 have step:∀ j,j≤2→(∃ k,k≤2∧bestK xs j=(packB [xs] [k],k))→∃ k,k≤2∧bestK xs (j+1)=(packB [xs] [k],k):=fun j hj h=>by
  by_cases hc:j=0∨(packB [xs] [j]).length < (bestK xs j).1.length
  ·exact⟨j,hj,bestK_yes xs j hc⟩
  ·rw[bestK_no xs j hc];exact h
 exact step 2 (by omega) (step 1 (by omega) ⟨0,by omega,h1⟩)
theorem best_back (xs more:List UInt8) (hx:xs.length≤3000) (h6:((bestK xs 3).1++more).length≤6000) :
  ∃ k,unpackR ((bestK xs 3).1++more)=.ok (xs,(bestK xs 3).1.length,[k]):=by
 obtain⟨k,hk,h⟩:=best_some xs
 rw[h]at h6⊢
 have:=unpack_pack [xs] [k] more (by simp) rfl (by simp;exact hk) (by simp;exact hx) h6
 exact⟨k,by rw[this];simp⟩
end Go.Proofs.YtabdianhoabhhaaGreatDoor.Gz
namespace Go.Proofs.YtabdianhoabhhaaGreatDoor.Zip
open Go.Proofs.YtabdianhoabhhaaGreatDoor.Merge Go.Proofs.YtabdianhoabhhaaGreatDoor.Inf Go.Proofs.YtabdianhoabhhaaGreatDoor.Bits Go.Proofs.YtabdianhoabhhaaGreatDoor.Code
set_option linter.unusedVariables false
set_option linter.unusedSimpArgs false
def Few {α:Type} (out:α→List UInt8) (r:Inf.Rd α):Prop:=∀ a,r=.ok a→(out a).length≤3000
theorem few_bad {α:Type} {out:α→List UInt8} {z:Int}:Few out (.bad z):=fun a h=>by cases h
theorem few_ok {α:Type} {out:α→List UInt8} {a:α} (h:(out a).length≤3000):Few out (.ok a):=fun b e=>by injection e with e;subst e;exact h
theorem few_then {α β:Type} {out:β→List UInt8} {r:Inf.Rd α} {f:α→Inf.Rd β} (h:∀ a,r=.ok a→Few out (f a)):Few out (r.then_ f):=by
 cases r with
 | bad z=>exact few_bad
 | ok a=>exact h a rfl
theorem few_ite {α:Type} {out:α→List UInt8} {c:Prop} [Decidable c] {r s:Inf.Rd α} (h:Few out r) (k:Few out s):Few out (if c then r else s):=by split <;> assumption
theorem few_push (o:List UInt8) (x:UInt8) (h:o.length≤3000):Few (fun a=>a) (pushR o x):=by
 unfold pushR
 split
 ·exact few_bad
 ·refine few_ok ?_
  rw[List.length_append,List.length_cons,List.length_nil];omega
theorem few_raw (row:List Bool):∀ (n p:Nat) (o:List UInt8),o.length≤3000→Few (fun a:Nat×List UInt8=>a.2) (rawR row n p o)
 | 0,p,o,h=>few_ok h
 | n+1,p,o,h=>by
  unfold rawR
  exact few_then fun x _=>few_then fun o' ho=>few_raw row n _ o' (few_push o _ h o' ho)
theorem few_copy (d:Nat):∀ (n:Nat) (o:List UInt8),o.length≤3000→Few (fun a=>a) (copyR d n o)
 | 0,o,h=>few_ok h
 | n+1,o,h=>by
  unfold copyR
  exact few_then fun o' ho=>few_copy d n o' (few_push o _ h o' ho)
theorem few_step (row:List Bool) (lit far:List Nat) (p:Nat) (o:List UInt8) (h:o.length≤3000):Few (fun a:Bool×Nat×List UInt8=>a.2.2) (bodyStep row lit far p o):=by
 unfold bodyStep
 refine few_then fun k _=>few_ite (few_then fun o' ho=>few_ok (few_push o _ h o' ho)) (few_ite (few_ok h) (few_ite few_bad (few_then fun x _=>few_then fun f _=>few_ite few_bad (few_then fun y _=>few_ite few_bad (few_then fun o' ho=>few_ok (few_copy _ _ o h o' ho))))))
theorem few_body (row:List Bool) (lit far:List Nat):∀ (f p:Nat) (o:List UInt8),o.length≤3000→Few (fun a:Nat×List UInt8=>a.2) (bodyR row lit far f p o)
 | 0,p,o,h=>few_bad
 | f+1,p,o,h=>by
  unfold bodyR
  refine few_then fun x hx=>?_
  have hs:=few_step row lit far p o h x hx
  exact few_ite (few_ok hs) (few_body row lit far f _ _ hs)
theorem few_block (row:List Bool) (p:Nat) (o:List UInt8) (h:o.length≤3000):Few (fun a:Bool×Nat×Nat×List UInt8=>a.2.2.2) (blockR row p o):=by
 unfold blockR
 refine few_then fun l _=>few_then fun k _=>few_ite (few_then fun x hx=>few_ok ?_) (few_ite (few_then fun x hx=>few_ok ?_) (few_ite (few_then fun hd _=>few_then fun x hx=>few_ok ?_) few_bad))
 ·unfold storedR at hx
  revert hx
  have:Few (fun a:Nat×List UInt8=>a.2) (storedR row k.2 o):=by
   unfold storedR
   exact few_then fun a _=>few_then fun b _=>few_ite few_bad (few_raw row _ _ o h)
  intro hx
  exact this x hx
 ·exact few_body row _ _ _ _ o h x hx
 ·exact few_body row _ _ _ _ o h x hx
theorem few_blocks (row:List Bool):∀ (f p:Nat) (o:List UInt8) (ks:List Nat),o.length≤3000→Few (fun a:Nat×List UInt8×List Nat=>a.2.1) (blocksR row f p o ks)
 | 0,p,o,ks,h=>few_bad
 | f+1,p,o,ks,h=>by
  unfold blocksR
  refine few_then fun x hx=>?_
  have hb:=few_block row p o h x hx
  exact few_ite (few_ok hb) (few_blocks row f _ _ _ hb)
theorem unpack_few {b out:List UInt8} {us:Nat} {ks:List Nat} (h:unpackR b=.ok (out,us,ks)):out.length≤3000:=by
 have:Few (fun a:List UInt8×Nat×List Nat=>a.1) (unpackR b):=by
  unfold unpackR
  exact few_ite few_bad (few_then fun x hx=>few_ok (few_blocks _ _ _ [] [] (by simp) x hx))
 exact this _ h
theorem bytes_few {m:Nat} {pk bs:List UInt8} (h:bytesR m pk=some bs):bs.length≤max 3000 pk.length:=by
 unfold bytesR at h
 split at h
 ·injection h with h;subst h;omega
 ·split at h
  ·split at h
   ·rename_i a ha
    split at h
    ·injection h with h
     subst h
     obtain⟨o,us,ks⟩:=a
     have:=unpack_few ha
     dsimp only;omega
    ·cases h
   ·cases h
  ·cases h
def lastB (b:List UInt8):List UInt8:=b.drop (b.length - 22)
end Go.Proofs.YtabdianhoabhhaaGreatDoor.Zip
namespace Go.Proofs.YtabdianhoabhhaaGreatDoor.Zip
open Go.Proofs.YtabdianhoabhhaaGreatDoor.Merge Go.Proofs.YtabdianhoabhhaaGreatDoor.Inf Go.Proofs.YtabdianhoabhhaaGreatDoor.Blk Go.Proofs.YtabdianhoabhhaaGreatDoor.Bits Go.Proofs.YtabdianhoabhhaaGreatDoor.Rt
set_option linter.unusedVariables false
def bestX (xs:List UInt8):List UInt8:=(bestK xs 3).1
theorem packs_best:Packs bestX:=fun xs h1 h2=>by
 obtain⟨k,hk⟩:=Gz.best_back xs [] h1 (by rw[List.append_nil];show (bestX xs).length≤6000;omega)
 rw[List.append_nil]at hk
 exact⟨[k],hk⟩
theorem best_two (xs:List UInt8):2≤(bestX xs).length:=by
 obtain⟨k,hk,h⟩:=Gz.best_some xs
 have e:packK [xs] [k] 1=oneS 0 xs k true:=by
  have:=packK_succ [xs] [k] 0
  rw[this]
  rfl
 have hl:(packB [xs] [k]).length=((oneS 0 xs k true).length+7) / 8:=by
  show (pack (packK [xs] [k] 1)).length=_
  rw[pack_length,e]
 unfold bestX
 rw[h]
 show 2≤(packB [xs] [k]).length
 rw[hl]
 have h9:9≤(oneS 0 xs k true).length:=by
  unfold oneS
  by_cases h0:k=0
  ·rw[if_pos h0]
   simp only[List.length_append,List.length_cons,List.length_nil,numBits_length,List.length_replicate]
   omega
  ·rw[if_neg h0]
   by_cases h1:k=1
   ·rw[if_pos h1]
    have:7≤(bodyB (Match.toks xs) fixedA fixedB).length:=by
     unfold bodyB
     rw[List.length_append,codeB_length]
     have:fixedA.getD 256 0=7:=by decide +kernel
     omega
    simp only[List.length_append,List.length_cons,List.length_nil,numBits_length]
    omega
   ·rw[if_neg h1]
    have:14≤(headB (lensP (Match.toks xs)).1 (lensP (Match.toks xs)).2).length:=by
     rw[headB_eq]
     simp only[List.length_append,numBits_length]
     omega
    simp only[List.length_append,List.length_cons,List.length_nil,numBits_length]
    omega
 omega
theorem small_as_is (f:Fl) (h:f.bytes.length≤2):entOf bestX f =⟨f,0,f.bytes,sumN f.bytes⟩:=by
 have:=best_two f.bytes
 unfold entOf
 rw[if_neg (by omega)]
end Go.Proofs.YtabdianhoabhhaaGreatDoor.Zip
namespace Go.Proofs.YtabdianhoabhhaaGreatDoor.Sum
open Go Go.RowKit Go.Proofs.YtabdianhoabhhaaGreatDoor
theorem tab_lt' (k:Nat) (h:k < 256):(k:Int)=n32 (stepN 0 (BitVec.ofNat 32 k)):=by
 unfold n32 stepN;simp;omega
def tabCs (k:Nat):Array Value:=((List.range 256).map fun i=>if i < k then Value.int .u32 (n32 (tab i)) else .int .u32 0).toArray
def tabV:Array Value:=tabCs 256
theorem tabCs_size (k:Nat):(tabCs k).size=256:=by simp[tabCs]
theorem tabCs_zero:tabCs 0=Tryz.zeroCells114:=by kernel_rfl
theorem tabCs_succ (k:Nat) (_h:k < 256):(tabCs k).setIfInBounds k (.int .u32 (n32 (tab k)))=tabCs (k+1):=by
 apply Array.ext
 ·simp[tabCs]
 ·intro i h1 h2
  simp[tabCs]
  by_cases e:k=i
  ·subst e;simp
  ·simp[e];by_cases h3:i < k
   ·rw[if_pos h3,if_pos (by omega)]
   ·rw[if_neg h3,if_neg (by omega)]
theorem tabV_get (k:Nat) (h:k < 256):tabV[k]?=some (.int .u32 (n32 (tab k))):=by
 simp[tabV,tabCs,h]
theorem tabV_one:tabV.all (·.oneCell')=true:=by
 simp[tabV,tabCs];intro i hi;rw[if_pos hi];rfl
attribute [local irreducible] tabCs
set_option maxRecDepth 100000 in
set_option maxHeartbeats 400000 in
theorem table_any (w:World):Calls Tryz.prog 68 #[] w fun e w'=>e=.returned (.agg tabV)∧Below w.heap.size w w':=by
 go_enter Tryz.func68,Tryz.ntmps68
 go_wp2
 go_loopw [4] (fun i wr=>∃ k:Nat,k≤256∧i=.int .i64 k∧Blk wr w.heap.size 114 (tabCs 0)∧Blk wr (w.heap.size+1) 114 (tabCs k)∧Below w.heap.size w wr) (fun i _=>256 - (intOf i).toNat)
 case atStart=>
  refine⟨0,by omega,rfl,?_,?_,?_⟩
  ·rw[tabCs_zero];exact (Blk.new w _ _).alloc _
  ·rw[tabCs_zero];have:=Blk.new (w.alloc (.cells Tryz.zeroCells114 114)) 114 Tryz.zeroCells114;simpa using this
  ·exact ((Below.refl _ _).alloc (Nat.le_refl _) _).alloc (by simp) _
 case round=>
  obtain⟨k,hk,rfl,hb0,hb1,hbl⟩:=hrel
  by_cases hlt:k < 256
  ·have hfz:=hb1.frozen k
   obtain⟨old,hold⟩:∃ old,(tabCs k)[k]?=some old:=⟨_,Array.getElem?_eq_getElem (by rw[tabCs_size];exact hlt)⟩
   have hcell:wr.cell? ⟨w.heap.size+1,k,none⟩=some old:=by rw[hb1.cell,hold]
   clear hold
   have Hst:=Lib.hid (hb1.set_ k (.int .u32 (n32 (tab k))))
   have Hb0:=Lib.hid hb0
   have Hbl:=Lib.hid hbl
   have H0:=Lib.hid (tab_lt' k hlt)
   have hbk:=Lib.hid hb1.lt
   clear hb0 hb1 hbl
   go_wp2
   go_loop [3,9] (fun c j=>∃ m:Nat,m≤8∧j=.int .i64 m∧c=.int .u32 (n32 (stepN m (BitVec.ofNat 32 k)))) (fun _ j=>8 - (intOf j).toNat)
   case atStart=>exact⟨0,by omega,rfl,int_eq H0.out⟩
   case round=>
    obtain⟨m,hm,rfl,rfl⟩:=hrel
    by_cases hm8:m < 8
    ·have Hs:Hid (stepN (m+1) (BitVec.ofNat 32 k)=(stepN m (BitVec.ofNat 32 k)) >>> 1 ^^^ (3988292384#32*(stepN m (BitVec.ofNat 32 k) &&& 1#32))):=Lib.hid rfl
     generalize stepN m (BitVec.ofNat 32 k)=c at *
     go_wp2
     go_round
     case rel=>exact⟨m+1,by omega,by go_num,by rw[Hs.out]⟩
     case measure=>simp[intOf];omega
    ·obtain rfl:m=8:=by omega
     have Ht:Hid (stepN 8 (BitVec.ofNat 32 k)=tab k):=Lib.hid rfl
     generalize stepN 8 (BitVec.ofNat 32 k)=c at *
     go_wp2
     go_roundw
     case rel=>
      refine⟨k+1,by omega,by go_num,?_,?_,?_⟩
      ·exact Hb0.out.far (by simp) _
      ·rw[←tabCs_succ k hlt,Ht.out];exact Hst.out
      ·exact Hbl.out.setCell (by simp) _
     case measure=>simp[intOf];omega
  ·obtain rfl:k=256:=by omega
   have hi:(Tryz.prog.info? 114).map (·.size)=some (tabCs 256).size:=by rw[tabCs_size];kernel_rfl
   have hh1:wr.heap[w.heap.size+1]?=some (.cells (tabCs 256) 114 (0,0)):=hb1
   have hh0:wr.heap[w.heap.size]?=some (.cells (tabCs 0) 114 (0,0)):=hb0
   have Hh0:=Lib.hid hh0
   have Hh1:=Lib.hid hh1
   have Hi:=Lib.hid hi
   have Hbl:=Lib.hid hbl
   clear hi hh1 hh0 hb0 hb1 hbl
   have Ho:=Lib.hid (show (tabCs 0).size=(tabCs 256).size by rw[tabCs_size,tabCs_size])
   go_wp2_with (first | (refine wpList_load_row rfl 114 (.tmp 1) rfl (w.heap.size+1) rfl 114 _ (0,0) _ Hh1.out Tryz.underlying114 rfl Hi.out ?_) | (refine wpList_store_row rfl 114 (.tmp 0) (.tmp 22) rfl w.heap.size (tabCs 256) rfl rfl 114 (tabCs 0) Hh0.out Hi.out Ho.out tabV_one ?_))
   refine bodyPost_ret (v:=.agg (tabCs 256)) (results_cell_row rfl _ _ w.heap.size 114 (tabCs 256) (0,0) _ rfl (setRow_heap _ _ _ _ _ _ Hh0.out) Tryz.underlying114 rfl Hi.out) rfl ⟨rfl,?_⟩
   exact Hbl.out.trans ⟨rfl,rfl,rfl,by simp,fun k hk=>setRow_other _ _ _ _ (by omega)⟩
theorem crcB_eq (c:W32) (x:UInt8):n32 (c >>> 8 ^^^ tab ((UInt8.ofBitVec (BitVec.setWidth 8 c)) ^^^ x).toNat)=n32 (crcB c x):=rfl
set_option maxRecDepth 100000 in
set_option maxHeartbeats 400000 in
theorem crc_any (c:W32) (ci:Int) (hci:ci=n32 c) (A:Option Addr) (n cap:Nat) (xs:List UInt8) (w:World) (hn:xs.length=n) (hm:n≤12000) (hc:ByAt w A xs) :
  Calls Tryz.prog 48 #[.int .u32 ci,.slice A n cap] w fun e w'=>e=.returned (.tuple #[.int .u32 (n32 (crc c xs)),.int .i64 0])∧Below w.heap.size w w':=by
 subst hci
 have Hn:=Lib.hid hn
 have Hc:=Lib.hid hc
 clear hn hc
 have h12:¬ (12000 < (n:Int)):=by omega
 have hi:(Tryz.prog.info? 114).map (·.size)=some tabV.size:=by rw[show tabV.size=256 from tabCs_size 256];kernel_rfl
 have Hi:=Lib.hid hi
 clear hi
 go_enter Tryz.func48,Tryz.ntmps48
 go_wp2_with (first | (go_at_call 68;refine (table_any _).mono ?_;rintro e w1 ⟨rfl,hb1⟩;have Hb1:=Lib.hid hb1;clear hb1) | (refine wpList_store_row rfl 114 (.tmp 6) (.tmp 13) rfl w1.heap.size tabV rfl rfl 114 _ (Blk.new w1 _ _) Hi.out (show _=tabV.size from (tabCs_size 256).symm) tabV_one ?_))
 have hbW:Below w.heap.size w ((w1.alloc (.cells Tryz.zeroCells114 114)).setRow w1.heap.size tabV):=
  (Hb1.out.alloc Hb1.out.size _).trans ⟨rfl,rfl,rfl,by simp,fun k hk=>setRow_other _ _ _ _ (by have:=Hb1.out.size;omega)⟩
 have hT:Blk ((w1.alloc (.cells Tryz.zeroCells114 114)).setRow w1.heap.size tabV) w1.heap.size 114 tabV:=(Blk.new w1 _ _).setRow _
 generalize (w1.alloc (.cells Tryz.zeroCells114 114)).setRow w1.heap.size tabV=W at *
 have HT:=Lib.hid hT
 have HW:=Lib.hid hbW
 clear hT hbW
 generalize w1.heap.size=g at *
 go_loop [7,18] (fun cc i=>∃ k:Nat,k≤n∧i=.int .i64 k∧cc=.int .u32 (n32 (crcL (~~~c) (xs.take k)))) (fun _ i=>n - (intOf i).toNat)
 case atStart=>exact⟨0,Nat.zero_le _,rfl,rfl⟩
 case round=>
  obtain⟨k,hk,rfl,rfl⟩:=hrel
  by_cases hlt:k < n
  ·have hkx:k < xs.length:=by rw[Hn.out];exact hlt
   obtain⟨b,o,rfl,hcell⟩:=(Hc.out.below HW.out).get hkx
   have Hs:Hid (n32 (crcL (~~~c) (xs.take (k+1)))=n32 ((crcL (~~~c) (xs.take k)) >>> 8 ^^^ tab ((UInt8.ofBitVec (BitVec.setWidth 8 (crcL (~~~c) (xs.take k)))) ^^^ xs[k]).toNat)):=Lib.hid (by rw[take_snoc _ _ hkx,crcL_snoc,crcB_eq])
   generalize crcL (~~~c) (xs.take k)=d at *
   generalize xs[k]=x at *
   generalize hy0:UInt8.ofBitVec (BitVec.setWidth 8 d) ^^^ x=y at *
   have hyb:=n8_bd y
   have hc2:W.cell? ⟨g,(n8 y).toNat,none⟩=some (.int .u32 (n32 (tab y.toNat))):=by
    rw[HT.out.cell];exact tabV_get _ y.toNat_lt
   go_wp2
   go_round
   case rel=>exact⟨k+1,by omega,by go_num,int_eq (by rw[Hs.out])⟩
   case measure=>simp[intOf];omega
  ·have Hk:Hid (xs.take k=xs):=Lib.hid (List.take_of_length_le (by rw[Hn.out];omega))
   go_wp2
   go_ret2
   exact⟨by rw[Hk.out];rfl,HW.out⟩
end Go.Proofs.YtabdianhoabhhaaGreatDoor.Sum
namespace Go.Proofs.YtabdianhoabhhaaGreatDoor.Zip
open Go Go.RowKit Go.Proofs.YtabdianhoabhhaaGreatDoor Go.Proofs.YtabdianhoabhhaaGreatDoor.Bits Go.Proofs.YtabdianhoabhhaaGreatDoor.Merge Go.Proofs.YtabdianhoabhhaaGreatDoor.Name Go.Proofs.YtabdianhoabhhaaGreatDoor.Blk
set_option linter.unusedVariables false
set_option linter.unusedSimpArgs false
theorem results_cell1 {P:Program} {fn:Func} {p:Tmp} {ty:TypeId} (h:fn.results=#[.cell p ty]) (tmps:Array Value) (w:World) (g:Nat) (t:TypeId) (cs:Array Value) (fr:Nat×Nat) (d:TypeDesc)
  (hp:tmps.getD p undef=.pointer (some ⟨g,0,none⟩)) (hg:w.heap[g]?=some (.cells cs t fr))
  (hu:P.underlying ty=some d) (hd:(match d with | .struct _ | .array _ _=>true | _=>false)=true) (hi:(P.info? ty).map (·.size)=some cs.size) :
  (results fn tmps).run P w=.ok (.agg cs) w:=by
 have hp':tmps[p]?.getD undef=.pointer (some ⟨g,0,none⟩):=by simpa using hp
 simp[results,h,hp',asAddr,run_loadVar_row w g t ty cs fr d hg hu hd hi]
theorem blk_nine {w:World} {g:Nat} {t:TypeId} {a0 a1 a2 a3 a4 a5 a6 a7 a8:Value} (h:Blk w g t #[a0,a1,a2,a3,a4,a5,a6,a7,a8]) (b0 b1 b2 b3 b4 b5 b6 b7 b8:Value):Blk (((((((((w.setCell ⟨g,0,none⟩ b0).setCell ⟨g,1,none⟩ b1).setCell ⟨g,2,none⟩ b2).setCell ⟨g,3,none⟩ b3).setCell ⟨g,4,none⟩ b4).setCell ⟨g,5,none⟩ b5).setCell ⟨g,6,none⟩ b6).setCell ⟨g,7,none⟩ b7).setCell ⟨g,8,none⟩ b8) g t #[b0,b1,b2,b3,b4,b5,b6,b7,b8]:=by
 have h0:Blk (w.setCell ⟨g,0,none⟩ b0) g t #[b0,a1,a2,a3,a4,a5,a6,a7,a8]:=h.set_ 0 b0
 have h1:Blk ((w.setCell ⟨g,0,none⟩ b0).setCell ⟨g,1,none⟩ b1) g t #[b0,b1,a2,a3,a4,a5,a6,a7,a8]:=h0.set_ 1 b1
 have h2:Blk (((w.setCell ⟨g,0,none⟩ b0).setCell ⟨g,1,none⟩ b1).setCell ⟨g,2,none⟩ b2) g t #[b0,b1,b2,a3,a4,a5,a6,a7,a8]:=h1.set_ 2 b2
 have h3:Blk ((((w.setCell ⟨g,0,none⟩ b0).setCell ⟨g,1,none⟩ b1).setCell ⟨g,2,none⟩ b2).setCell ⟨g,3,none⟩ b3) g t #[b0,b1,b2,b3,a4,a5,a6,a7,a8]:=h2.set_ 3 b3
 have h4:Blk (((((w.setCell ⟨g,0,none⟩ b0).setCell ⟨g,1,none⟩ b1).setCell ⟨g,2,none⟩ b2).setCell ⟨g,3,none⟩ b3).setCell ⟨g,4,none⟩ b4) g t #[b0,b1,b2,b3,b4,a5,a6,a7,a8]:=h3.set_ 4 b4
 have h5:Blk ((((((w.setCell ⟨g,0,none⟩ b0).setCell ⟨g,1,none⟩ b1).setCell ⟨g,2,none⟩ b2).setCell ⟨g,3,none⟩ b3).setCell ⟨g,4,none⟩ b4).setCell ⟨g,5,none⟩ b5) g t #[b0,b1,b2,b3,b4,b5,a6,a7,a8]:=h4.set_ 5 b5
 have h6:Blk (((((((w.setCell ⟨g,0,none⟩ b0).setCell ⟨g,1,none⟩ b1).setCell ⟨g,2,none⟩ b2).setCell ⟨g,3,none⟩ b3).setCell ⟨g,4,none⟩ b4).setCell ⟨g,5,none⟩ b5).setCell ⟨g,6,none⟩ b6) g t #[b0,b1,b2,b3,b4,b5,b6,a7,a8]:=h5.set_ 6 b6
 have h7:Blk ((((((((w.setCell ⟨g,0,none⟩ b0).setCell ⟨g,1,none⟩ b1).setCell ⟨g,2,none⟩ b2).setCell ⟨g,3,none⟩ b3).setCell ⟨g,4,none⟩ b4).setCell ⟨g,5,none⟩ b5).setCell ⟨g,6,none⟩ b6).setCell ⟨g,7,none⟩ b7) g t #[b0,b1,b2,b3,b4,b5,b6,b7,a8]:=h6.set_ 7 b7
 have h8:Blk (((((((((w.setCell ⟨g,0,none⟩ b0).setCell ⟨g,1,none⟩ b1).setCell ⟨g,2,none⟩ b2).setCell ⟨g,3,none⟩ b3).setCell ⟨g,4,none⟩ b4).setCell ⟨g,5,none⟩ b5).setCell ⟨g,6,none⟩ b6).setCell ⟨g,7,none⟩ b7).setCell ⟨g,8,none⟩ b8) g t #[b0,b1,b2,b3,b4,b5,b6,b7,b8]:=h7.set_ 8 b8
 exact h8
theorem below_nine {w0 w:World} {B g:Nat} (h:Below B w0 w) (hg:B≤g) (b0 b1 b2 b3 b4 b5 b6 b7 b8:Value):Below B w0 (((((((((w.setCell ⟨g,0,none⟩ b0).setCell ⟨g,1,none⟩ b1).setCell ⟨g,2,none⟩ b2).setCell ⟨g,3,none⟩ b3).setCell ⟨g,4,none⟩ b4).setCell ⟨g,5,none⟩ b5).setCell ⟨g,6,none⟩ b6).setCell ⟨g,7,none⟩ b7).setCell ⟨g,8,none⟩ b8):=(((((((((h.setCell (p:=⟨g,0,none⟩) hg b0).setCell (p:=⟨g,1,none⟩) hg b1).setCell (p:=⟨g,2,none⟩) hg b2).setCell (p:=⟨g,3,none⟩) hg b3).setCell (p:=⟨g,4,none⟩) hg b4).setCell (p:=⟨g,5,none⟩) hg b5).setCell (p:=⟨g,6,none⟩) hg b6).setCell (p:=⟨g,7,none⟩) hg b7).setCell (p:=⟨g,8,none⟩) hg b8)
theorem own_nine {w:World} {base:Nat} {e:TypeId} {size n g:Nat} {v:Value} {xs:List Value} (h:w.ownsRow base e size v n xs) (hg:g < base) (b0 b1 b2 b3 b4 b5 b6 b7 b8:Value):(((((((((w.setCell ⟨g,0,none⟩ b0).setCell ⟨g,1,none⟩ b1).setCell ⟨g,2,none⟩ b2).setCell ⟨g,3,none⟩ b3).setCell ⟨g,4,none⟩ b4).setCell ⟨g,5,none⟩ b5).setCell ⟨g,6,none⟩ b6).setCell ⟨g,7,none⟩ b7).setCell ⟨g,8,none⟩ b8).ownsRow base e size v n xs:=(ownsRow_setCell_below (ownsRow_setCell_below (ownsRow_setCell_below (ownsRow_setCell_below (ownsRow_setCell_below (ownsRow_setCell_below (ownsRow_setCell_below (ownsRow_setCell_below (ownsRow_setCell_below h (a:=⟨g,0,none⟩) hg b0) (a:=⟨g,1,none⟩) hg b1) (a:=⟨g,2,none⟩) hg b2) (a:=⟨g,3,none⟩) hg b3) (a:=⟨g,4,none⟩) hg b4) (a:=⟨g,5,none⟩) hg b5) (a:=⟨g,6,none⟩) hg b6) (a:=⟨g,7,none⟩) hg b7) (a:=⟨g,8,none⟩) hg b8)
set_option maxRecDepth 100000 in
set_option maxHeartbeats 1600000 in
theorem of_any (x:Fx) (w:World) (hx:FileAt w x) (h3:x.1.bytes.length≤3000) :
  Calls Tryz.prog 45 #[fV x] w fun e w'=>(∃ pk:Sl3,e=.returned (eV ⟨entOf bestX x.1,x.2,pk,0⟩)∧((pk=x.2∧(entOf bestX x.1).packed=x.1.bytes)∨OwnB w' w.heap.size (slv pk) (entOf bestX x.1).packed))∧Below w.heap.size w w':=by
 have HX:=Lib.hid hx
 obtain⟨⟨name,bytes,stamp,node,gone⟩,⟨bA,bn,bc⟩⟩:=x
 have hbn:bn=bytes.length:=hx.len
 have hbc:bytes.length≤bc:=hx.room
 have hcm:bc≤maxLen:=hx.cap
 unfold maxLen at hcm
 rw[←hbn]at hbc
 have Hbn:=Lib.hid hbn
 dsimp only at h3
 rw[←hbn]at h3
 unfold fV slv
 dsimp only
 have HA:Hid (ByAt w bA bytes):=Lib.hid hx.at_
 clear hx hbn
 go_enter Tryz.func45,Tryz.ntmps45
 go_upto_region 2 with fail
 have hF:=((Blk.new w 36 #[.string (Name.strB name),.slice bA bn bc,.int .i64 stamp,.int .i64 node,.bool gone]).alloc (.cells #[.string ⟨#[]⟩,.slice none 0 0,.int .i64 0,.int .i64 0,.bool false,.int .i64 0,.slice none 0 0,.int .u32 0,.int .i64 0] 78)).alloc (.cells #[.string (Name.strB name),.slice bA bn bc,.int .i64 stamp,.int .i64 node,.bool gone,.int .i64 0,.slice bA bn bc,.int .u32 0,.int .i64 0] 78)
 have hR:=(Blk.new (w.alloc (.cells #[.string (Name.strB name),.slice bA bn bc,.int .i64 stamp,.int .i64 node,.bool gone] 36)) 78 #[.string ⟨#[]⟩,.slice none 0 0,.int .i64 0,.int .i64 0,.bool false,.int .i64 0,.slice none 0 0,.int .u32 0,.int .i64 0]).alloc (.cells #[.string (Name.strB name),.slice bA bn bc,.int .i64 stamp,.int .i64 node,.bool gone,.int .i64 0,.slice bA bn bc,.int .u32 0,.int .i64 0] 78)
 have hE:=Blk.new ((w.alloc (.cells #[.string (Name.strB name),.slice bA bn bc,.int .i64 stamp,.int .i64 node,.bool gone] 36)).alloc (.cells #[.string ⟨#[]⟩,.slice none 0 0,.int .i64 0,.int .i64 0,.bool false,.int .i64 0,.slice none 0 0,.int .u32 0,.int .i64 0] 78)) 78 #[.string (Name.strB name),.slice bA bn bc,.int .i64 stamp,.int .i64 node,.bool gone,.int .i64 0,.slice bA bn bc,.int .u32 0,.int .i64 0]
 have hb:Below w.heap.size w (((w.alloc (.cells #[.string (Name.strB name),.slice bA bn bc,.int .i64 stamp,.int .i64 node,.bool gone] 36)).alloc (.cells #[.string ⟨#[]⟩,.slice none 0 0,.int .i64 0,.int .i64 0,.bool false,.int .i64 0,.slice none 0 0,.int .u32 0,.int .i64 0] 78)).alloc (.cells #[.string (Name.strB name),.slice bA bn bc,.int .i64 stamp,.int .i64 node,.bool gone,.int .i64 0,.slice bA bn bc,.int .u32 0,.int .i64 0] 78)):=
  (((Below.refl _ _).alloc (Nat.le_refl _) _).alloc (by simp only[World.size_alloc];omega) _).alloc (by simp only[World.size_alloc];omega) _
 simp only[World.size_alloc]at hF hR hE
 generalize (((w.alloc (.cells #[.string (Name.strB name),.slice bA bn bc,.int .i64 stamp,.int .i64 node,.bool gone] 36)).alloc (.cells #[.string ⟨#[]⟩,.slice none 0 0,.int .i64 0,.int .i64 0,.bool false,.int .i64 0,.slice none 0 0,.int .u32 0,.int .i64 0] 78)).alloc (.cells #[.string (Name.strB name),.slice bA bn bc,.int .i64 stamp,.int .i64 node,.bool gone,.int .i64 0,.slice bA bn bc,.int .u32 0,.int .i64 0] 78))=w1 at *
 obtain⟨g,hg⟩:∃ g,g=w.heap.size:=⟨_,rfl⟩
 rw[←hg]at hF hR hE hb⊢
 have Hg:=Lib.hid hg
 have HF1:=Lib.hid hF
 have HR1:=Lib.hid hR
 have HE1:=Lib.hid hE
 have Hb1:=Lib.hid hb
 have hs1:g+1+1 < w1.heap.size:=hE.lt
 have f1:w1.cell? ⟨g,1,none⟩=some (.slice bA bn bc):=hF.cell 1
 have HA1:Hid (ByAt w1 bA bytes):=Lib.hid (ByAt.below HA.out (by rw[←hg];exact hb))
 have HC:=Lib.hid (Sum.crc_any 0#32 0 rfl bA bn bc bytes w1 Hbn.out.symm (by omega) HA1.out)
 clear hF hR hE hb hg
 go_wp2_with fail
 refine (HC.out).mono ?_
 rintro e w2 ⟨rfl,hb2⟩
 have HF2:=Lib.hid (HF1.out.below hb2 (by omega))
 have HR2:=Lib.hid (HR1.out.below hb2 (by omega))
 have HE2:=Lib.hid (HE1.out.below hb2 (by omega))
 have Hb2:=Lib.hid (Hb1.out.trans (hb2.mono (by omega)))
 have hs2:g+1+1 < w2.heap.size:=HE2.out.lt
 have f1:w2.cell? ⟨g,1,none⟩=some (.slice bA bn bc):=HF2.out.cell 1
 have e7:w2.cell? ⟨g+1+1,7,none⟩=some (.int .u32 0):=HE2.out.cell 7
 have z7:=HE2.out.frozen 7
 have HA2:Hid (ByAt w2 bA bytes):=Lib.hid (HA1.out.below hb2)
 clear HC HF1 HR1 HE1 Hb1 HA1 hs1 hb2
 go_upto_region 3 with fail
 obtain⟨ci,hcv⟩:∃ ci:Int,ci=n32 (Sum.crc 0#32 bytes):=⟨_,rfl⟩
 rw[←hcv]
 have Hcv:=Lib.hid (show ci=((sumN bytes:Nat):Int) from hcv)
 have HF3:=Lib.hid (HF2.out.far (p:=⟨g+1+1,7,none⟩) (by show g≠g+1+1;omega) (.int .u32 ci))
 have HR3:=Lib.hid (HR2.out.far (p:=⟨g+1+1,7,none⟩) (by show g+1≠g+1+1;omega) (.int .u32 ci))
 have HE3:=Lib.hid (show Blk (w2.setCell ⟨g+1+1,7,none⟩ (.int .u32 ci)) (g+1+1) 78 #[.string (Name.strB name),.slice bA bn bc,.int .i64 stamp,.int .i64 node,.bool gone,.int .i64 0,.slice bA bn bc,.int .u32 ci,.int .i64 0] from HE2.out.set_ 7 (.int .u32 ci))
 have Hb3:=Lib.hid (Hb2.out.setCell (p:=⟨g+1+1,7,none⟩) (by show g≤g+1+1;omega) (.int .u32 ci))
 clear hcv e7 z7 f1 HA2 HF2 HR2 HE2 Hb2
 generalize w2.setCell ⟨g+1+1,7,none⟩ (.int .u32 ci)=w3 at *
 have hs3:g+1+1 < w3.heap.size:=HE3.out.lt
 have f1:w3.cell? ⟨g,1,none⟩=some (.slice bA bn bc):=HF3.out.cell 1
 have HA3:Hid (ByAt w3 bA bytes):=Lib.hid (ByAt.below HA.out (by rw[←Hg.out];exact Hb3.out))
 have HB:=Lib.hid (best_any bA bn bc bytes w3 Hbn.out.symm hbc (by unfold maxLen;omega) HA3.out)
 clear hs2
 go_wp2_with fail
 refine (HB.out).mono ?_
 rintro e w4 ⟨hh,hb4⟩
 rcases hh with ⟨h4,_⟩ | ⟨_,v4,rfl,ho4⟩
 ·omega
 obtain⟨A4,c4,rfl,h41,h42,hs4,hz4⟩:=own_slat ho4
 obtain⟨PB,hPB⟩:∃ PB,PB=(bestK bytes 3).1:=⟨_,rfl⟩
 rw[←hPB]at ho4 h41 hs4 hz4⊢
 have HO4:=Lib.hid ho4
 have HPB:=Lib.hid (show PB=bestX bytes from hPB)
 have HF4:=Lib.hid (HF3.out.below hb4 (by omega))
 have HR4:=Lib.hid (HR3.out.below hb4 (by omega))
 have HE4:=Lib.hid (HE3.out.below hb4 (by omega))
 have Hb4:=Lib.hid (Hb3.out.trans (hb4.mono (by omega)))
 have hs34:w3.heap.size≤w4.heap.size:=hb4.size
 have f1:w4.cell? ⟨g,1,none⟩=some (.slice bA bn bc):=HF4.out.cell 1
 obtain⟨np,hnp⟩:∃ np,np=PB.length:=⟨_,rfl⟩
 rw[←hnp]at ho4 h41 hz4⊢
 have Hnp:=Lib.hid hnp
 have H41:=Lib.hid h41
 have H42:=Lib.hid h42
 clear ho4 hs4 hz4 hPB HB HF3 HE3 HR3 Hb3 HA3 hb4 hnp
 generalize (bestK bytes 3).2=kd at *
 by_cases hlt:np < bn
 ·have hlt':(np:Int) < (bn:Int):=by omega
  have e5:w4.cell? ⟨g+1+1,5,none⟩=some (.int .i64 0):=HE4.out.cell 5
  have e6:w4.cell? ⟨g+1+1,6,none⟩=some (.slice bA bn bc):=HE4.out.cell 6
  have z5:=HE4.out.frozen 5
  have z6:=HE4.out.frozen 6
  have HE6:=Lib.hid (show Blk ((w4.setCell ⟨g+1+1,5,none⟩ (.int .i64 8)).setCell ⟨g+1+1,6,none⟩ (.slice A4 np c4)) (g+1+1) 78 #[.string (Name.strB name),.slice bA bn bc,.int .i64 stamp,.int .i64 node,.bool gone,.int .i64 8,.slice A4 np c4,.int .u32 ci,.int .i64 0] from (HE4.out.set_ 5 (.int .i64 8)).set_ 6 (.slice A4 np c4))
  have HR6:=Lib.hid ((HR4.out.far (p:=⟨g+1+1,5,none⟩) (by show g+1≠g+1+1;omega) (.int .i64 8)).far (p:=⟨g+1+1,6,none⟩) (by show g+1≠g+1+1;omega) (.slice A4 np c4))
  have Hb6:=Lib.hid ((Hb4.out.setCell (p:=⟨g+1+1,5,none⟩) (by show g≤g+1+1;omega) (.int .i64 8)).setCell (p:=⟨g+1+1,6,none⟩) (by show g≤g+1+1;omega) (.slice A4 np c4))
  have HO6:=Lib.hid (ownsRow_setCell_below (ownsRow_setCell_below HO4.out (a:=⟨g+1+1,5,none⟩) hs3 (.int .i64 8)) (a:=⟨g+1+1,6,none⟩) hs3 (.slice A4 np c4))
  go_upto_region 6 with fail
  clear e5 e6 z5 z6
  generalize (w4.setCell ⟨g+1+1,5,none⟩ (.int .i64 8)).setCell ⟨g+1+1,6,none⟩ (.slice A4 np c4)=w6 at *
  have e0:w6.cell? ⟨g+1+1,0,none⟩=some (.string (Name.strB name)):=HE6.out.cell 0
  have e1:w6.cell? ⟨g+1+1,1,none⟩=some (.slice bA bn bc):=HE6.out.cell 1
  have e2:w6.cell? ⟨g+1+1,2,none⟩=some (.int .i64 stamp):=HE6.out.cell 2
  have e3:w6.cell? ⟨g+1+1,3,none⟩=some (.int .i64 node):=HE6.out.cell 3
  have e4:w6.cell? ⟨g+1+1,4,none⟩=some (.bool gone):=HE6.out.cell 4
  have e5:w6.cell? ⟨g+1+1,5,none⟩=some (.int .i64 8):=HE6.out.cell 5
  have e6:w6.cell? ⟨g+1+1,6,none⟩=some (.slice A4 np c4):=HE6.out.cell 6
  have e7:w6.cell? ⟨g+1+1,7,none⟩=some (.int .u32 ci):=HE6.out.cell 7
  have e8:w6.cell? ⟨g+1+1,8,none⟩=some (.int .i64 0):=HE6.out.cell 8
  have q0:w6.cell? ⟨g+1,0,none⟩=some (.string ⟨#[]⟩):=HR6.out.cell 0
  have q1:w6.cell? ⟨g+1,1,none⟩=some (.slice none 0 0):=HR6.out.cell 1
  have q2:w6.cell? ⟨g+1,2,none⟩=some (.int .i64 0):=HR6.out.cell 2
  have q3:w6.cell? ⟨g+1,3,none⟩=some (.int .i64 0):=HR6.out.cell 3
  have q4:w6.cell? ⟨g+1,4,none⟩=some (.bool false):=HR6.out.cell 4
  have q5:w6.cell? ⟨g+1,5,none⟩=some (.int .i64 0):=HR6.out.cell 5
  have q6:w6.cell? ⟨g+1,6,none⟩=some (.slice none 0 0):=HR6.out.cell 6
  have q7:w6.cell? ⟨g+1,7,none⟩=some (.int .u32 0):=HR6.out.cell 7
  have q8:w6.cell? ⟨g+1,8,none⟩=some (.int .i64 0):=HR6.out.cell 8
  have z0:=HR6.out.frozen 0
  have z1:=HR6.out.frozen 1
  have z2:=HR6.out.frozen 2
  have z3:=HR6.out.frozen 3
  have z4:=HR6.out.frozen 4
  have z5:=HR6.out.frozen 5
  have z6:=HR6.out.frozen 6
  have z7:=HR6.out.frozen 7
  have z8:=HR6.out.frozen 8
  have HRx:=Lib.hid (blk_nine HR6.out (.string (Name.strB name)) (.slice bA bn bc) (.int .i64 stamp) (.int .i64 node) (.bool gone) (.int .i64 8) (.slice A4 np c4) (.int .u32 ci) (.int .i64 0))
  have Hbx:=Lib.hid (below_nine (g:=g+1) Hb6.out (by omega) (.string (Name.strB name)) (.slice bA bn bc) (.int .i64 stamp) (.int .i64 node) (.bool gone) (.int .i64 8) (.slice A4 np c4) (.int .u32 ci) (.int .i64 0))
  go_wp2_with fail
  refine bodyPost_ret (results_cell1 rfl _ _ (g+1) 78 #[.string (Name.strB name),.slice bA bn bc,.int .i64 stamp,.int .i64 node,.bool gone,.int .i64 8,.slice A4 np c4,.int .u32 ci,.int .i64 0] (0,0) _ rfl HRx.out Tryz.underlying78 rfl (by kernel_rfl)) rfl ?_
  have he:entOf bestX ⟨name,bytes,stamp,node,gone⟩ =⟨⟨name,bytes,stamp,node,gone⟩,8,bestX bytes,sumN bytes⟩:=by
   unfold entOf
   rw[if_pos (by show (bestX bytes).length < bytes.length;rw[←HPB.out,←Hnp.out,←Hbn.out];exact hlt)]
  rw[he]
  refine⟨⟨(A4,np,c4),?_,.inr ?_⟩,by rw[←Hg.out];exact Hbx.out⟩
  ·unfold eV slv
   rw[Hcv.out];rfl
  ·have h2:=own_nine HO6.out (show g+1 < w3.heap.size by omega) (.string (Name.strB name)) (.slice bA bn bc) (.int .i64 stamp) (.int .i64 node) (.bool gone) (.int .i64 8) (.slice A4 np c4) (.int .u32 ci) (.int .i64 0)
   rw[←HPB.out]
   unfold OwnB
   dsimp only
   rw[Hnp.out]at h2⊢
   exact own_base h2 (by rw[←Hg.out];omega)
 ·have hlt':¬ (np:Int) < (bn:Int):=by omega
  have e0:w4.cell? ⟨g+1+1,0,none⟩=some (.string (Name.strB name)):=HE4.out.cell 0
  have e1:w4.cell? ⟨g+1+1,1,none⟩=some (.slice bA bn bc):=HE4.out.cell 1
  have e2:w4.cell? ⟨g+1+1,2,none⟩=some (.int .i64 stamp):=HE4.out.cell 2
  have e3:w4.cell? ⟨g+1+1,3,none⟩=some (.int .i64 node):=HE4.out.cell 3
  have e4:w4.cell? ⟨g+1+1,4,none⟩=some (.bool gone):=HE4.out.cell 4
  have e5:w4.cell? ⟨g+1+1,5,none⟩=some (.int .i64 0):=HE4.out.cell 5
  have e6:w4.cell? ⟨g+1+1,6,none⟩=some (.slice bA bn bc):=HE4.out.cell 6
  have e7:w4.cell? ⟨g+1+1,7,none⟩=some (.int .u32 ci):=HE4.out.cell 7
  have e8:w4.cell? ⟨g+1+1,8,none⟩=some (.int .i64 0):=HE4.out.cell 8
  have q0:w4.cell? ⟨g+1,0,none⟩=some (.string ⟨#[]⟩):=HR4.out.cell 0
  have q1:w4.cell? ⟨g+1,1,none⟩=some (.slice none 0 0):=HR4.out.cell 1
  have q2:w4.cell? ⟨g+1,2,none⟩=some (.int .i64 0):=HR4.out.cell 2
  have q3:w4.cell? ⟨g+1,3,none⟩=some (.int .i64 0):=HR4.out.cell 3
  have q4:w4.cell? ⟨g+1,4,none⟩=some (.bool false):=HR4.out.cell 4
  have q5:w4.cell? ⟨g+1,5,none⟩=some (.int .i64 0):=HR4.out.cell 5
  have q6:w4.cell? ⟨g+1,6,none⟩=some (.slice none 0 0):=HR4.out.cell 6
  have q7:w4.cell? ⟨g+1,7,none⟩=some (.int .u32 0):=HR4.out.cell 7
  have q8:w4.cell? ⟨g+1,8,none⟩=some (.int .i64 0):=HR4.out.cell 8
  have z0:=HR4.out.frozen 0
  have z1:=HR4.out.frozen 1
  have z2:=HR4.out.frozen 2
  have z3:=HR4.out.frozen 3
  have z4:=HR4.out.frozen 4
  have z5:=HR4.out.frozen 5
  have z6:=HR4.out.frozen 6
  have z7:=HR4.out.frozen 7
  have z8:=HR4.out.frozen 8
  have HRx:=Lib.hid (blk_nine HR4.out (.string (Name.strB name)) (.slice bA bn bc) (.int .i64 stamp) (.int .i64 node) (.bool gone) (.int .i64 0) (.slice bA bn bc) (.int .u32 ci) (.int .i64 0))
  have Hbx:=Lib.hid (below_nine (g:=g+1) Hb4.out (by omega) (.string (Name.strB name)) (.slice bA bn bc) (.int .i64 stamp) (.int .i64 node) (.bool gone) (.int .i64 0) (.slice bA bn bc) (.int .u32 ci) (.int .i64 0))
  go_wp2_with fail
  refine bodyPost_ret (results_cell1 rfl _ _ (g+1) 78 #[.string (Name.strB name),.slice bA bn bc,.int .i64 stamp,.int .i64 node,.bool gone,.int .i64 0,.slice bA bn bc,.int .u32 ci,.int .i64 0] (0,0) _ rfl HRx.out Tryz.underlying78 rfl (by kernel_rfl)) rfl ?_
  have he:entOf bestX ⟨name,bytes,stamp,node,gone⟩ =⟨⟨name,bytes,stamp,node,gone⟩,0,bytes,sumN bytes⟩:=by
   unfold entOf
   rw[if_neg (by show ¬ (bestX bytes).length < bytes.length;rw[←HPB.out,←Hnp.out,←Hbn.out];exact hlt)]
  rw[he]
  refine⟨⟨(bA,bn,bc),?_,.inl ⟨rfl,rfl⟩⟩,by rw[←Hg.out];exact Hbx.out⟩
  unfold eV slv
  rw[Hcv.out];rfl
end Go.Proofs.YtabdianhoabhhaaGreatDoor.Zip
namespace Go.Proofs.YtabdianhoabhhaaGreatDoor.Name
open Go Go.RowKit Go.Proofs.YtabdianhoabhhaaGreatDoor
set_option linter.unusedVariables false
theorem strB_get (p:List UInt8) (k:Nat) (h:k < (strB p).size) (h2:k < p.length):(strB p)[k]=p[k]:=by
 show (p.toArray)[k]'h=p[k]
 exact List.getElem_toArray h
theorem strB_at (p:List UInt8) (k:Nat) (h2:k < p.length):∃ h:k < (strB p).size,((((strB p)[k]'h).toNat:Nat):Int)=n8 (p[k]'h2):=by
 have h:k < (strB p).size:=by rw[strB_size];exact h2
 exact⟨h,congrArg (fun u:UInt8=>((u.toNat:Nat):Int)) (strB_get p k h h2)⟩
attribute [go_sem] strB_toList
set_option maxRecDepth 100000 in
set_option maxHeartbeats 1600000 in
theorem bad_any (p:List UInt8) (w:World) (hp:p.length≤4000000) :
  Calls Tryz.prog 89 #[.string (strB p)] w fun e w'=>e=.returned (.bool (badPart p))∧w'=w:=by
 have Hz:Hid ((strB p).size=p.length):=Lib.hid (strB_size p)
 have hz:=Hz.out
 go_enter Tryz.func89,Tryz.ntmps89
 go_wp2_with fail
 go_loop [6] (fun i=>∃ k:Nat,k≤p.length∧i=.int .i64 (k:Int)∧∀ c∈p.take k,letterB c=true) (fun i=>p.length - (intOf i).toNat)
 case atStart=>exact⟨0,Nat.zero_le _,rfl,by simp⟩
 case round=>
  obtain⟨k,hk,rfl,hall⟩:=hrel
  have Hall:=Lib.hid hall
  clear hall
  by_cases hlt:k < p.length
  ·have HC:=Lib.hid (letter_any p[k] w)
   have Hy:Hid (letterB p[k]=false→badPart p=true):=Lib.hid (fun h=>by
    unfold badPart
    rw[Bool.or_eq_true];left
    exact List.any_eq_true.2 ⟨_,List.getElem_mem hlt,by simp[h]⟩)
   have Hn:Hid (letterB p[k]=true→∀ c∈p.take (k+1),letterB c=true):=Lib.hid (fun h c hc=>by
    rw[take_snoc _ _ hlt]at hc
    rcases List.mem_append.1 hc with hc | hc
    ·exact Hall.out c hc
    ·simp at hc;subst hc;exact h)
   obtain⟨hks,hg⟩:=strB_at p k hlt
   generalize p[k]'hlt=x at *
   go_wp2_with fail
   refine (HC.out).mono ?_
   rintro e wx ⟨rfl,hw⟩
   have hw:=hw.symm
   subst hw
   cases hL:letterB x with
   | true=>
    have Hn2:=Lib.hid (Hn.out hL)
    clear hL Hn Hy
    go_wp2_with fail
    go_round
    case rel=>exact⟨k+1,by omega,by go_num,Hn2.out⟩
    case measure=>simp[intOf];omega
   | false=>
    have Hy2:=Lib.hid (Hy.out hL)
    clear hL Hn Hy
    go_wp2_with fail
    go_ret
    exact⟨by rw[Hy2.out];rfl,rfl⟩
  ·obtain rfl:k=p.length:=by omega
   have ha:p.any (fun c=>!letterB c)=false:=by
    rw[List.any_eq_false]
    intro c hc
    have:=Hall.out c (by rw[List.take_of_length_le (Nat.le_refl _)];exact hc)
    simp[this]
   have HB:Hid (badPart p=(decide (p=[]) || (decide (p=[46]) || decide (p=[46,46])))):=Lib.hid (by unfold badPart;rw[ha];rfl)
   by_cases h1:p=[]
   ·subst h1
    have Hb:Hid (badPart []=true):=Lib.hid (by rw[HB.out];rfl)
    clear HB ha
    go_wp2_with fail
    go_ret
    exact⟨by rw[Hb.out];rfl,rfl⟩
   ·by_cases h2:p=[46]
    ·subst h2
     have Hb:Hid (badPart [46]=true):=Lib.hid (by rw[HB.out];rfl)
     clear HB ha
     go_wp2_with fail
     go_ret
     exact⟨by rw[Hb.out];rfl,rfl⟩
    ·by_cases h3:p=[46,46]
     ·subst h3
      have Hb:Hid (badPart [46,46]=true):=Lib.hid (by rw[HB.out];rfl)
      clear HB ha
      go_wp2_with fail
      go_ret
      exact⟨by rw[Hb.out];rfl,rfl⟩
     ·have Hb:Hid (badPart p=false):=Lib.hid (by rw[HB.out];simp[h1,h2,h3])
      clear HB ha
      go_wp2_with fail
      go_ret
      exact⟨by rw[Hb.out];exact ret_bool (by simp[h1,h2,h3]),rfl⟩
end Go.Proofs.YtabdianhoabhhaaGreatDoor.Name
namespace Go.Proofs.YtabdianhoabhhaaGreatDoor.Name
open Go Go.RowKit Go.Proofs.YtabdianhoabhhaaGreatDoor
set_option linter.unusedVariables false
def idxI {α:Type} (p:α→Bool) (l:List α):Int:=match l.findIdx? p with | some i=>(i:Int) | none=>-1
theorem idxI_here {α:Type} (p:α→Bool) (l:List α) (k:Nat) (h:k < l.length) (h1:∀ x∈l.take k,p x=false) (h2:p l[k]=true):idxI p l=(k:Int):=by
 have:l.findIdx? p=some k:=by
  rw[List.findIdx?_eq_some_iff_getElem]
  refine⟨h,h2,fun j hj=>?_⟩
  have:=h1 l[j] (by rw[List.mem_take_iff_getElem];exact⟨j,by omega,rfl⟩)
  simp[this]
 unfold idxI;rw[this]
theorem idxI_none {α:Type} (p:α→Bool) (l:List α) (h1:∀ x∈l,p x=false):idxI p l=-1:=by
 have:l.findIdx? p=none:=by rw[List.findIdx?_eq_none_iff];exact h1
 unfold idxI;rw[this]
theorem idxI_any {α:Type} (p:α→Bool) (l:List α):decide (0≤idxI p l)=l.any p:=by
 unfold idxI
 cases h:l.findIdx? p with
 | none=>
  rw[List.findIdx?_eq_none_iff]at h
  have:l.any p=false:=by rw[List.any_eq_false];intro x hx;simp[h x hx]
  rw[this];rfl
 | some i=>
  rw[List.findIdx?_eq_some_iff_getElem]at h
  obtain⟨h1,h2,_⟩:=h
  have:l.any p=true:=by rw[List.any_eq_true];exact⟨l[i],List.getElem_mem h1,h2⟩
  rw[this];simp
theorem not_take_succ {α:Type} (p:α→Bool) (l:List α) (k:Nat) (h:k < l.length) (h1:∀ x∈l.take k,p x=false) (h2:p l[k]=false):∀ x∈l.take (k+1),p x=false:=by
 rw[take_snoc _ _ h]
 intro x hx
 rcases List.mem_append.1 hx with hx | hx
 ·exact h1 x hx
 ·simp at hx;subst hx;exact h2
set_option maxHeartbeats 400000 in
theorem indexFunc_strs (A:Option Addr) (n c:Nat) (xs:List (List UInt8)) (g:FuncId) (cap:Array Value) (p:List UInt8→Bool) (w:World) (hn:xs.length=n) (hx:n≤maxLen) (ha:SlAt w A (xs.map sv))
  (hcf:∀ args w',(callFunc g args).run Tryz.prog w'=.ok (.enter g args) w')
  (hf:∀ x∈xs,∀ w',Below w.heap.size w w'→Calls Tryz.prog g (#[sv x]++cap) w' fun e w''=>e=.returned (.bool (p x))∧Below w'.heap.size w' w'') :
  Calls Tryz.prog 125 #[.slice A n c,.func (.func g) #[] cap] w fun e w'=>e=.returned (.int .i64 (idxI p xs))∧Below w.heap.size w w':=by
 unfold maxLen at hx
 have Hn:=Lib.hid hn
 have Ha:=Lib.hid ha
 have Hf:=Lib.hid hf
 clear hn ha hf
 go_enter Tryz.func125,Tryz.ntmps125
 go_wp2_with fail
 go_loopw [8] (fun i wr=>∃ k:Nat,k≤n∧i=.int .i64 k∧(∀ x∈xs.take k,p x=false)∧Below w.heap.size w wr) (fun i _=>n - (intOf i).toNat)
 case atStart=>exact⟨0,Nat.zero_le _,rfl,by simp,Below.refl _ _⟩
 case round=>
  obtain⟨k,hk,rfl,hno,hbr⟩:=hrel
  have Hno:=Lib.hid hno
  have Hbr:=Lib.hid hbr
  clear hno
  by_cases hlt:k < n
  ·have hkx:k < xs.length:=by rw[Hn.out];exact hlt
   obtain⟨b,o,rfl,hc⟩:=SlAt.get (Ha.out.below hbr) (k:=k) (by rw[List.length_map];exact hkx)
   rw[List.getElem_map]at hc
   have Hcall:=Lib.hid (Hf.out xs[k] (List.getElem_mem hkx) wr hbr)
   have Hy:=Lib.hid (idxI_here p xs k hkx Hno.out)
   have Hz:=Lib.hid (not_take_succ p xs k hkx Hno.out)
   generalize xs[k]=x at *
   unfold sv at hc Hcall
   clear hbr
   go_wp2_with fail
   refine (Hcall.out).mono ?_
   rintro e w1 ⟨rfl,hb1⟩
   have Hb1:=Lib.hid (Hbr.out.trans (hb1.mono Hbr.out.size))
   clear hb1
   cases hp:p x with
   | true=>
    have Hi:=Lib.hid (Hy.out hp)
    clear hp
    go_wp2_with fail
    go_ret
    exact⟨ret_int Hi.out.symm,Hb1.out⟩
   | false=>
    have Hi:=Lib.hid (Hz.out hp)
    clear hp
    go_wp2_with fail
    go_roundw
    case rel=>exact⟨k+1,by omega,by go_num,Hi.out,Hb1.out⟩
    case measure=>simp[intOf];omega
  ·have Hi:=Lib.hid (idxI_none p xs (by have:=Hno.out;rwa [List.take_of_length_le (by rw[Hn.out];omega)]at this))
   clear hbr
   go_wp2_with fail
   go_ret
   exact⟨ret_int Hi.out.symm,Hbr.out⟩
theorem containsFunc_strs (A:Option Addr) (n c:Nat) (xs:List (List UInt8)) (g:FuncId) (cap:Array Value) (p:List UInt8→Bool) (w:World) (hn:xs.length=n) (hx:n≤maxLen) (ha:SlAt w A (xs.map sv))
  (hcf:∀ args w',(callFunc g args).run Tryz.prog w'=.ok (.enter g args) w')
  (hf:∀ x∈xs,∀ w',Below w.heap.size w w'→Calls Tryz.prog g (#[sv x]++cap) w' fun e w''=>e=.returned (.bool (p x))∧Below w'.heap.size w' w'') :
  Calls Tryz.prog 91 #[.slice A n c,.func (.func g) #[] cap] w fun e w'=>e=.returned (.bool (xs.any p))∧Below w.heap.size w w':=by
 have Hany:=Lib.hid (idxI_any p xs)
 have Hcon:=Lib.hid (indexFunc_strs A n c xs g cap p w hn hx ha hcf hf)
 clear hn hx ha hcf hf
 go_enter Tryz.func91,Tryz.ntmps91
 go_wp2_with fail
 refine (Hcon.out).mono ?_
 rintro e w1 ⟨rfl,hb1⟩
 have Hb1:=Lib.hid hb1
 clear hb1
 go_wp2_with fail
 go_ret
 exact⟨ret_bool (by rw[←Hany.out]),Hb1.out⟩
end Go.Proofs.YtabdianhoabhhaaGreatDoor.Name
namespace Go.Proofs.YtabdianhoabhhaaGreatDoor.Name
open Go Go.RowKit Go.Proofs.YtabdianhoabhhaaGreatDoor
set_option linter.unusedVariables false
theorem stepN {w1 w2:World} (h:Below w1.heap.size w1 w2) {w3:World} (h2:Below w2.heap.size w2 w3):Below w1.heap.size w1 w3:=
 h.trans (h2.mono h.size)
theorem blk_slat {w:World} {g:Nat} {t:TypeId} {cs:List Value} (h:Blk w g t cs.toArray):SlAt w (some ⟨g,0,none⟩) cs:=fun _=>
 ⟨g,0,rfl,fun j v hj=>by rw[Nat.zero_add,h.cell];simpa using hj⟩
def PartsPost (s:List UInt8) (w:World) (e:Ending) (w':World):Prop:=
  (nameE s≠0∧e=.returned (.tuple #[.slice none 0 0,.int .i64 (nameE s)])∨
   nameE s=0∧∃ g,e=.returned (.tuple #[.slice (some ⟨g,0,none⟩) (parts s).length (parts s).length,.int .i64 0])∧w.heap.size≤g∧Blk w' g 9 ((parts s).map sv).toArray)∧Below w.heap.size w w'
set_option maxRecDepth 100000 in
set_option maxHeartbeats 1600000 in
theorem parts_any (s:List UInt8) (w:World) (hx:s.length≤maxLen) (hm:ML w) :
  Calls Tryz.prog 69 #[.string (strB s)] w (PartsPost s w):=by
 unfold PartsPost
 have hz:=strB_size s
 have hx':s.length≤9223372036854775807:=by unfold maxLen at hx;omega
 by_cases h40:40 < s.length
 ·have Hn:Hid (nameE s=2):=Lib.hid (by unfold nameE;rw[if_pos h40])
  have h40i:(40:Int) < (s.length:Int):=by omega
  go_enter Tryz.func69,Tryz.ntmps69
  go_wp2_with fail
  go_ret2
  exact⟨.inl ⟨by rw[Hn.out];decide,by rw[Hn.out];rfl⟩,Below.refl _ _⟩
 ·have h40i:¬ (40:Int) < (s.length:Int):=by omega
  have Hn:Hid (nameE s=if (parts s).any badPart=true then 1 else 0):=Lib.hid (by unfold nameE;rw[if_neg h40])
  have HS:=Lib.hid (split_any s w (by omega) hm)
  have Hl:Hid ((parts s).length≤41):=Lib.hid (by have:=parts_len s;omega)
  have Hp:Hid (∀ p∈parts s,p.length≤4000000):=Lib.hid (fun p hp=>by have:=parts_sum s p hp;omega)
  generalize parts s=ps at *
  obtain⟨n,hn⟩:∃ n,n=ps.length:=⟨_,rfl⟩
  have HN:=Lib.hid hn.symm
  rw[←hn]at HS Hl
  clear hm hn
  go_enter Tryz.func69,Tryz.ntmps69
  go_wp2_with fail
  refine (HS.out).mono ?_
  rintro e w1 ⟨rfl,hblk,hb1⟩
  have Hblk:=Lib.hid hblk
  have Hb1:=Lib.hid hb1
  clear hblk hb1
  obtain⟨g,hg⟩:∃ g,g=w.heap.size:=⟨_,rfl⟩
  have Hg:=Lib.hid hg
  rw[←hg]at Hblk⊢
  clear hg
  go_wp2_with fail
  refine (containsFunc_strs (some ⟨g,0,none⟩) n n ps 89 #[] badPart w1 HN.out (by have:=Hl.out;unfold maxLen;omega) (blk_slat Hblk.out) (fun _ _=>by kernel_rfl) (fun x hx w' _=>?_)).mono ?_
  ·refine (bad_any x w' (Hp.out x hx)).mono ?_
   rintro e w2 ⟨rfl,rfl⟩
   exact⟨rfl,Below.refl _ _⟩
  rintro e w2 ⟨rfl,hb2⟩
  have Hblk2:=Lib.hid (Hblk.out.below hb2 Hblk.out.lt)
  have Hb2:=Lib.hid (stepN Hb1.out hb2)
  clear hb2 Hblk Hb1
  cases hany:ps.any badPart with
  | true=>
   have Hf:Hid (nameE s=1):=Lib.hid (by rw[Hn.out,if_pos hany])
   go_wp2_with fail
   go_ret2
   exact⟨.inl ⟨by rw[Hf.out];decide,by rw[Hf.out];rfl⟩,Hb2.out⟩
  | false=>
   have Hf:Hid (nameE s=0):=Lib.hid (by rw[Hn.out,if_neg (by rw[hany];simp)])
   go_wp2_with fail
   go_ret2
   exact⟨.inr ⟨Hf.out,g,by rw[HN.out];rfl,by rw[Hg.out];exact Nat.le_refl _,Hblk2.out⟩,Hb2.out⟩
theorem parts_tuple {s:List UInt8} {w:World} {e:Ending} {w':World} (h:PartsPost s w e w'):∃ A n,e=.returned (.tuple #[.slice A n n,.int .i64 (nameE s)])∧(nameE s≠0→A=none∧n=0)∧(nameE s=0→n=(parts s).length∧∃ g,A=some ⟨g,0,none⟩∧w.heap.size≤g∧Blk w' g 9 ((parts s).map sv).toArray):=by
 rcases h.1 with ⟨h1,rfl⟩ | ⟨h1,g,rfl,hg,hblk⟩
 ·exact⟨none,0,rfl,fun _=>⟨rfl,rfl⟩,fun h=>absurd h h1⟩
 ·exact⟨_,_,by rw[h1],fun h=>absurd h1 h,fun _=>⟨rfl,g,rfl,hg,hblk⟩⟩
set_option maxRecDepth 100000 in
set_option maxHeartbeats 800000 in
theorem checkN_any (s:List UInt8) (w:World) (hx:s.length≤maxLen) (hm:ML w) :
  Calls Tryz.prog 50 #[.string (strB s)] w fun e w'=>e=.returned (.int .i64 (nameE s))∧Below w.heap.size w w':=by
 have HP:=Lib.hid (parts_any s w hx hm)
 clear hm
 go_enter Tryz.func50,Tryz.ntmps50
 go_wp2_with fail
 refine (HP.out).mono ?_
 intro e w1 hp
 have Hb1:=Lib.hid hp.2
 obtain⟨A,n,rfl,_,_⟩:=parts_tuple hp
 clear hp
 go_wp2_with fail
 go_ret
 exact⟨rfl,Hb1.out⟩
end Go.Proofs.YtabdianhoabhhaaGreatDoor.Name
namespace Go.Proofs.YtabdianhoabhhaaGreatDoor.CloneF
open Go Go.RowKit Go.Proofs.YtabdianhoabhhaaGreatDoor
set_option linter.unusedVariables false
theorem ty:SliceTy Tryz.prog 22 36 (.agg #[.string ByteArray.empty,.slice none 0 0,.int .i64 0,.int .i64 0,.bool false]) 5 64:=⟨Tryz.underlying22,by kernel_rfl,rfl,by omega⟩
set_option maxRecDepth 100000 in
set_option maxHeartbeats 400000 in
theorem clone_any (A:Option Addr) (n c:Nat) (cs:List Value) (w:World) (hl:cs.length=n*5) (hA:SlAt w A cs) (h0:A=none→n=0) (h1:∀ u∈cs,u.oneCell'=true) (hn:n≤maxLen) (hb:n*64≤140737488355328) :
  Calls Tryz.prog 116 #[.slice A n c] w fun e w'=>∃ v,e=.returned v∧w'.ownsRow w.heap.size 36 5 v n cs∧Below w.heap.size w w':=by
 have hq:=fun (w:World) (a:Option Addr) (l c:Nat)=>Lib.run_eql_slice_nil (P:=Tryz.prog) w 22 36 a l c 0 0 Tryz.underlying22
 rcases A with _ | ad
 ·obtain rfl:=h0 rfl
  have hcs:cs=[]:=List.eq_nil_of_length_eq_zero (by omega)
  subst hcs
  clear hA h0 h1 hl hn hb
  go_enter Tryz.func116,Tryz.ntmps116
  go_wp2_with fail
  go_ret
  exact⟨_,rfl,World.ownsRow_nil _ _ _ _,Below.refl _ _⟩
 ·have Hown:Hid ((w.alloc (.cells #[] 36)).ownsRow w.heap.size 36 5 (.slice (some ⟨w.heap.size,0,none⟩) 0 0) 0 []):=Lib.hid (own_zero _ _ _ _ w.heap.size 0 #[] (Nat.le_refl _) (heap_alloc_new w _) (by unfold maxLen;omega) (by simp))
  have Hsl:=Lib.hid (hA.alloc (.cells #[] 36))
  have Hb:=Lib.hid ((Below.refl w.heap.size w).alloc (Nat.le_refl _) (.cells #[] 36))
  have Hl:=Lib.hid hl
  have H1:=Lib.hid h1
  have Hn:Hid (0+n≤maxLen):=Lib.hid (by omega)
  have Hy:Hid ((0+n)*64≤140737488355328):=Lib.hid (by omega)
  clear hA h0 h1 hl hn hb
  go_enter Tryz.func116,Tryz.ntmps116
  go_wp2_with (at_builtin;refine wpList_app _ rfl (.tmp 5) (.tmp 6) _ rfl w.heap.size 36 _ 5 64 ty _ 0 [] rfl Hown.out (some ad) n c cs rfl Hl.out Hsl.out H1.out (by simp) Hn.out Hy.out Hb.out.size ?_;intro v2 w2 hown2 hg2 _;rw[List.nil_append,Nat.zero_add]at hown2;have Ho2:=Lib.hid hown2;have Hb2:=Lib.hid (own_below Hown.out hg2 Hb.out Hb.out.size);clear hown2 hg2)
  go_ret
  exact⟨_,rfl,Ho2.out,Hb2.out⟩
end Go.Proofs.YtabdianhoabhhaaGreatDoor.CloneF
namespace Go.Proofs.YtabdianhoabhhaaGreatDoor.CloneB
open Go Go.RowKit Go.Proofs.YtabdianhoabhhaaGreatDoor
set_option linter.unusedVariables false
theorem ty:SliceTy Tryz.prog 23 5 (.int .u8 0) 1 1:=⟨Tryz.underlying23,by kernel_rfl,rfl,by omega⟩
set_option maxRecDepth 100000 in
set_option maxHeartbeats 400000 in
theorem clone_any (A:Option Addr) (n c:Nat) (cs:List Value) (w:World) (hl:cs.length=n*1) (hA:SlAt w A cs) (h0:A=none→n=0) (h1:∀ u∈cs,u.oneCell'=true) (hn:n≤maxLen) (hb:n*1≤140737488355328) :
  Calls Tryz.prog 16 #[.slice A n c] w fun e w'=>∃ v,e=.returned v∧w'.ownsRow w.heap.size 5 1 v n cs∧Below w.heap.size w w':=by
 have hq:=fun (w:World) (a:Option Addr) (l c:Nat)=>Lib.run_eql_slice_nil (P:=Tryz.prog) w 23 5 a l c 0 0 Tryz.underlying23
 rcases A with _ | ad
 ·obtain rfl:=h0 rfl
  have hcs:cs=[]:=List.eq_nil_of_length_eq_zero (by omega)
  subst hcs
  clear hA h0 h1 hl hn hb
  go_enter Tryz.func16,Tryz.ntmps16
  go_wp2_with fail
  go_ret
  exact⟨_,rfl,World.ownsRow_nil _ _ _ _,Below.refl _ _⟩
 ·have Hown:Hid ((w.alloc (.cells #[] 5)).ownsRow w.heap.size 5 1 (.slice (some ⟨w.heap.size,0,none⟩) 0 0) 0 []):=Lib.hid (own_zero _ _ _ _ w.heap.size 0 #[] (Nat.le_refl _) (heap_alloc_new w _) (by unfold maxLen;omega) (by simp))
  have Hsl:=Lib.hid (hA.alloc (.cells #[] 5))
  have Hb:=Lib.hid ((Below.refl w.heap.size w).alloc (Nat.le_refl _) (.cells #[] 5))
  have Hl:=Lib.hid hl
  have H1:=Lib.hid h1
  have Hn:Hid (0+n≤maxLen):=Lib.hid (by omega)
  have Hy:Hid ((0+n)*1≤140737488355328):=Lib.hid (by omega)
  clear hA h0 h1 hl hn hb
  go_enter Tryz.func16,Tryz.ntmps16
  go_wp2_with (at_builtin;refine wpList_app _ rfl (.tmp 5) (.tmp 6) _ rfl w.heap.size 5 _ 1 1 ty _ 0 [] rfl Hown.out (some ad) n c cs rfl Hl.out Hsl.out H1.out (by simp) Hn.out Hy.out Hb.out.size ?_;intro v2 w2 hown2 hg2 _;rw[List.nil_append,Nat.zero_add]at hown2;have Ho2:=Lib.hid hown2;have Hb2:=Lib.hid (own_below Hown.out hg2 Hb.out Hb.out.size);clear hown2 hg2)
  go_ret
  exact⟨_,rfl,Ho2.out,Hb2.out⟩
end Go.Proofs.YtabdianhoabhhaaGreatDoor.CloneB
namespace Go.Proofs.YtabdianhoabhhaaGreatDoor.Merge
open Go Go.RowKit Go.Proofs.YtabdianhoabhhaaGreatDoor Go.Proofs.YtabdianhoabhhaaGreatDoor.Name
set_option linter.unusedVariables false
structure OwnF (w:World) (base:Nat) (x:Fx):Prop where
 own:w.ownsRow base 5 1 (slv x.2) x.1.bytes.length (x.1.bytes.map u8v)
 name:x.1.name.length≤maxLen
 stamp:wfI x.1.stamp
 node:wfI x.1.node
theorem OwnF.at_ {w:World} {base:Nat} {x:Fx} (h:OwnF w base x):FileAt w x:=by
 obtain⟨A,cap,e,h1,h2,h3,_⟩:=own_slat h.own
 obtain⟨f,A',n',c'⟩:=x
 simp only[slv,Value.slice.injEq]at e
 obtain⟨rfl,rfl,rfl⟩:=e
 exact⟨rfl,h1,h2,h3,h.name,h.stamp,h.node⟩
theorem OwnF.below {w w':World} {base:Nat} {x:Fx} (h:OwnF w base x) (hb:Below w.heap.size w w'):OwnF w' base x:=⟨own_keep h.own hb,h.name,h.stamp,h.node⟩
theorem OwnF.set_ {w:World} {base g:Nat} {x:Fx} {cs:Array Value} (h:OwnF w base x) (hg:Blk w g 36 cs) (i:Nat) (u:Value):OwnF (w.setCell ⟨g,i,none⟩ u) base x:=
 ⟨ownsRow_setCell_other h.own (a:=⟨g,i,none⟩) (own_ne h.own hg (by decide)) u,h.name,h.stamp,h.node⟩
theorem own_blk {w:World} {base size n cap g:Nat} {e:TypeId} {xs:List Value} (h:w.ownsRow base e size (.slice (some ⟨g,0,none⟩) n cap) n xs):base≤g∧∃ cs,Blk w g e cs:=by
 rcases h.2 with ⟨h1,_⟩ | ⟨g',cap',cur,hv,hb,hg,_⟩
 ·cases h1
 ·injection hv with hv
  injection hv with hv
  injection hv with hv
  subst hv
  exact⟨hb,cur,hg⟩
theorem fC_set (a b:List Fx) (x:Fx) (s:Sl3):((a++x :: b).flatMap fC).set (a.length*5+1) (slv s)=(a++(x.1,s) :: b).flatMap fC:=by
 rw[List.flatMap_append,List.flatMap_append,List.flatMap_cons,List.flatMap_cons,List.set_append_right _ _ (by rw[fCs_len];omega),fCs_len,Nat.add_sub_cancel_left]
 rfl
structure OwnFs (w:World) (base:Nat) (v:Value) (l:List Fx):Prop where
 row:w.ownsRow base 36 5 v l.length (l.flatMap fC)
 each:∀ x∈l,OwnF w base x
theorem OwnFs.below {w w':World} {base:Nat} {v:Value} {l:List Fx} (h:OwnFs w base v l) (hb:Below w.heap.size w w'):OwnFs w' base v l:=⟨own_keep h.row hb,fun x hx=>(h.each x hx).below hb⟩
theorem OwnF.base_ {w:World} {base base':Nat} {x:Fx} (h:OwnF w base x) (hb:base'≤base):OwnF w base' x:=⟨own_base h.own hb,h.name,h.stamp,h.node⟩
theorem OwnFs.base_ {w:World} {base base':Nat} {v:Value} {l:List Fx} (h:OwnFs w base v l) (hb:base'≤base):OwnFs w base' v l:=⟨own_base h.row hb,fun x hx=>(h.each x hx).base_ hb⟩
theorem OwnFs.nil (w:World) (base:Nat):OwnFs w base (.slice none 0 0) []:=⟨World.ownsRow_nil _ _ _ _,by simp⟩
def CopyPost (l:List Fx) (w:World) (e:Ending) (w':World):Prop:=
 ∃ v l',e=.returned v∧OwnFs w' w.heap.size v l'∧l'.map Prod.fst=l.map Prod.fst∧Below w.heap.size w w'
theorem own_files {w:World} {base n:Nat} {v:Value} {l:List Fx} (h:w.ownsRow base 36 5 v n (l.flatMap fC)) (hn:l.length=n) (hd:∀ x∈l,FileAt w x):IsFiles w v l:=by
 obtain⟨A,cap,rfl,h1,h2,h3,h4⟩:=own_slat h
 subst hn
 exact⟨A,cap,rfl,h1,h2,h3,fun e=>List.eq_nil_of_length_eq_zero (h4 e),hd⟩
theorem OwnFs.files {w:World} {base:Nat} {v:Value} {l:List Fx} (h:OwnFs w base v l):IsFiles w v l:=own_files h.row rfl fun x hx=>(h.each x hx).at_
set_option maxRecDepth 100000 in
set_option maxHeartbeats 4000000 in
theorem copy_any (v:Value) (l:List Fx) (w:World) (h:IsFiles w v l) (hl:l.length≤1000000) (hb:∀ x∈l,x.1.bytes.length≤1000000) :
  Calls Tryz.prog 78 #[v] w (CopyPost l w):=by
 obtain⟨A,cap,rfl,hcap,hcm,hA,hA0,hdeep⟩:=h
 have HC:=Lib.hid (CloneF.clone_any A l.length cap (l.flatMap fC) w (fCs_len l) hA (fun e=>by rw[hA0 e];rfl) (fCs_one l) (by unfold maxLen;omega) (by omega))
 have Hd:=Lib.hid hdeep
 have HB:=Lib.hid hb
 obtain⟨n,hn⟩:∃ n,n=l.length:=⟨_,rfl⟩
 have Hn:=Lib.hid hn.symm
 rw[←hn]at hl HC⊢
 clear hn hA hA0 hdeep hcap hcm hb
 unfold CopyPost
 go_enter Tryz.func78,Tryz.ntmps78
 go_wp2_with fail
 refine (HC.out).mono ?_
 rintro e w1 ⟨v1,rfl,hown,hb1⟩
 have Hown:=Lib.hid hown
 have Hb1:=Lib.hid hb1
 clear hown hb1 HC
 by_cases h0:n=0
 ·have hl0:l=[]:=List.eq_nil_of_length_eq_zero (by rw[Hn.out];exact h0)
  subst h0
  have HF:Hid (OwnFs w1 w.heap.size v1 []):=Lib.hid ⟨by rw[hl0]at Hown;exact Hown.out,by simp⟩
  obtain⟨A1,c1,rfl,_⟩:=own_slat Hown.out
  go_wp2_with fail
  go_loopw [10] (fun i wr=>i=.int .i64 0∧wr=w1) (fun _ _=>0)
  case atStart=>exact⟨rfl,rfl⟩
  case round=>
   obtain⟨rfl,rfl⟩:=hrel
   go_wp2_with fail
   go_ret
   exact⟨_,[],rfl,HF.out,by rw[hl0],Hb1.out⟩
 ·obtain⟨A1,c1,rfl,hc1,hc2,_,h4⟩:=own_slat Hown.out
  obtain⟨g,rfl⟩:∃ g,A1=some ⟨g,0,none⟩:=by
   rcases Hown.out.2 with ⟨h1,_⟩ | ⟨g,cap',cur,hv,_⟩
   ·injection h1 with h1 h2;exact absurd h2 h0
   ·injection hv with hv;exact⟨g,hv⟩
  obtain⟨hgb,_⟩:=own_blk Hown.out
  clear h4
  go_wp2_with fail
  go_loopw [10] (fun i wr=>∃ (k:Nat) (done:List Fx),k≤n∧i=.int .i64 (k:Int)∧done.length=k∧done.map Prod.fst=(l.take k).map Prod.fst∧wr.ownsRow w.heap.size 36 5 (.slice (some ⟨g,0,none⟩) n c1) n ((done++l.drop k).flatMap fC)∧(∀ x∈done,OwnF wr w.heap.size x)∧Below w.heap.size w wr) (fun i _=>n - (intOf i).toNat)
  case atStart=>exact⟨0,[],Nat.zero_le _,rfl,rfl,rfl,Hown.out,by simp,Hb1.out⟩
  case round=>
   obtain⟨k,done,hk,rfl,hdl,hdm,hown,hdo,hbr⟩:=hrel
   have Hdl:=Lib.hid hdl
   have Hdm:=Lib.hid hdm
   have Hownr:=Lib.hid hown
   have Hdo:=Lib.hid hdo
   have Hbr:=Lib.hid hbr
   clear hdl hdm hown hdo hbr
   by_cases hlt:k < n
   ·have hkl:k < l.length:=by rw[Hn.out];exact hlt
    have Hdrop:Hid (l.drop k=l[k] :: l.drop (k+1)):=Lib.hid (List.drop_eq_getElem_cons hkl)
    have hfd:=(Hd.out l[k] (List.getElem_mem hkl)).below Hbr.out
    have hbl:=HB.out l[k] (List.getElem_mem hkl)
    have Htake:Hid ((l.take (k+1)).map Prod.fst=(l.take k).map Prod.fst++[l[k].1]):=Lib.hid (by rw[take_snoc _ _ hkl,List.map_append];rfl)
    rw[Hdrop.out]at Hownr
    have Hfz:=fun j=>Hownr.out.frozenAt j
    have cell:=fun (j:Nat) (hj:j < 5)=>Hownr.out.cellAt (k*5+j) (by omega)
    have at_:∀ j,j < 5→((done++l[k] :: l.drop (k+1)).flatMap fC)[k*5+j]?=(fC l[k])[j]?:=fun j hj=>by
     rw[flat_at fC 5 fC_len _ k j (by rw[List.length_append,Hdl.out,List.length_cons];omega) hj]
     congr 2
     rw[List.getElem_append_right (by rw[Hdl.out];exact Nat.le_refl _)]
     simp[Hdl.out]
    generalize l[k]=x at *
    obtain⟨⟨nm,bs,st,nd,gn⟩,As,ln,cp⟩:=x
    have hc0:wr.cell? ⟨g,k*5,none⟩=some (.string (Name.strB nm)):=by have:=cell 0 (by omega);rw[at_ 0 (by omega)]at this;exact this
    have hc1':wr.cell? ⟨g,k*5+1,none⟩=some (.slice As ln cp):=by have:=cell 1 (by omega);rw[at_ 1 (by omega)]at this;exact this
    have hc2':wr.cell? ⟨g,k*5+2,none⟩=some (.int .i64 st):=by have:=cell 2 (by omega);rw[at_ 2 (by omega)]at this;exact this
    have hc3':wr.cell? ⟨g,k*5+3,none⟩=some (.int .i64 nd):=by have:=cell 3 (by omega);rw[at_ 3 (by omega)]at this;exact this
    have hc4':wr.cell? ⟨g,k*5+4,none⟩=some (.bool gn):=by have:=cell 4 (by omega);rw[at_ 4 (by omega)]at this;exact this
    clear cell at_ Hfz
    have hln:ln=bs.length:=hfd.len
    subst hln
    simp only at hbl
    have Hfd:=Lib.hid hfd
    have HCB:=Lib.hid (fun w' (hb:Below wr.heap.size wr w')=>CloneB.clone_any As bs.length cp (bs.map u8v) w' (by simp) (SlAt.below hfd.at_ hb) (fun e=>by
     have h5:=hfd.at_
     simp only at h5
     rcases Nat.eq_zero_or_pos bs.length with h6 | h6
     ·exact h6
     ·obtain⟨_,_,h7,_⟩:=h5 (by simpa using h6)
      rw[e]at h7;cases h7) (u8s_one bs) (by unfold maxLen;omega) (by omega))
    clear hfd
    have Hbox:=Lib.hid ((Below.refl wr.heap.size wr).alloc (Nat.le_refl _) (.cells #[.string (Name.strB nm),.slice As bs.length cp,.int .i64 st,.int .i64 nd,.bool gn] 36))
    go_wp2_with fail
    refine (HCB.out _ Hbox.out).mono ?_
    rintro e w2 ⟨v2,rfl,hown2,hb2⟩
    have hbw:=stepN Hbox.out hb2
    obtain⟨A2,c2,rfl,_,_,_,_⟩:=own_slat hown2
    have hownw:=own_keep Hownr.out hbw
    obtain⟨_,cs,hblk⟩:=own_blk hownw
    have HS:Hid ((w2.setCell ⟨g,k*5+1,none⟩ (.slice A2 bs.length c2)).ownsRow w.heap.size 36 5 (.slice (some ⟨g,0,none⟩) n c1) n ((done++[((⟨nm,bs,st,nd,gn⟩:Fl),((A2,bs.length,c2):Sl3))]++l.drop (k+1)).flatMap fC)):=Lib.hid (by
     have:=(hownw.stored (k*5+1) (.slice A2 bs.length c2)).1
     have e1:=fC_set done (l.drop (k+1)) (⟨nm,bs,st,nd,gn⟩,As,bs.length,cp) (A2,bs.length,c2)
     rw[Hdl.out]at e1
     rw[List.append_assoc]
     rw[←show (done++((⟨nm,bs,st,nd,gn⟩:Fl),((A2,bs.length,c2):Sl3)) :: l.drop (k+1)).flatMap fC=(done++([((⟨nm,bs,st,nd,gn⟩:Fl),((A2,bs.length,c2):Sl3))]++l.drop (k+1))).flatMap fC from rfl,←e1]
     exact this)
    have HO:Hid (∀ x∈done++[((⟨nm,bs,st,nd,gn⟩:Fl),((A2,bs.length,c2):Sl3))],OwnF (w2.setCell ⟨g,k*5+1,none⟩ (.slice A2 bs.length c2)) w.heap.size x):=Lib.hid (fun x hx=>by
     rcases List.mem_append.1 hx with hx | hx
     ·exact ((Hdo.out x hx).below hbw).set_ hblk _ _
     ·simp at hx
      subst hx
      have hn:OwnF w2 w.heap.size ((⟨nm,bs,st,nd,gn⟩:Fl),((A2,bs.length,c2):Sl3)):={ own:=own_base hown2 (by have:=Hbr.out.size;simp;omega),name:=Hfd.out.name,stamp:=Hfd.out.stamp,node:=Hfd.out.node }
      exact hn.set_ hblk _ _)
    have HBf:Hid (Below w.heap.size w (w2.setCell ⟨g,k*5+1,none⟩ (.slice A2 bs.length c2))):=Lib.hid ((stepN Hbr.out hbw).setCell (by exact hgb) _)
    have hcc:w2.cell? ⟨g,k*5+1,none⟩=some (.slice As bs.length cp):=cell_below hbw hc1'
    have hfz:w2.frozen? ⟨g,k*5+1,none⟩=false:=hownw.frozenAt _
    have hx1:w2.cell? ⟨wr.heap.size,1,none⟩=some (.slice As bs.length cp):=by
     have:=(Blk.new wr 36 #[.string (Name.strB nm),.slice As bs.length cp,.int .i64 st,.int .i64 nd,.bool gn]).below hb2 (by simp)
     rw[this.cell];rfl
    clear hown2 hb2 hbw hownw hblk
    go_wp2_with fail
    go_roundw
    case rel=>
     refine⟨k+1,_,by omega,by go_num,?_,?_,HS.out,HO.out,HBf.out⟩
     ·rw[List.length_append,Hdl.out];rfl
     ·rw[List.map_append,Hdm.out,Htake.out];rfl
    case measure=>simp[intOf];omega
   ·obtain rfl:k=n:=by omega
    have Hall:Hid (l.take k=l∧l.drop k=[]):=Lib.hid ⟨List.take_of_length_le (by rw[Hn.out];exact Nat.le_refl _),List.drop_of_length_le (by rw[Hn.out];exact Nat.le_refl _)⟩
    go_wp2_with fail
    go_ret
    refine⟨_,done,rfl,⟨?_,Hdo.out⟩,?_,Hbr.out⟩
    ·have:=Hownr.out
     rw[Hall.out.2,List.append_nil]at this
     rw[Hdl.out]
     exact this
    ·rw[Hdm.out,Hall.out.1]
end Go.Proofs.YtabdianhoabhhaaGreatDoor.Merge
