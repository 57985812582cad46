/- texts joined: BlkHead RtBlock BlkBody MatchIndex MatchFind MatchTok. -/
import Derived.Test.YtabdianhoabhhaaGreatDoorZbQ6
import Derived.StillTailTactics
import Derived.Test.YtabdianhoabhhaaGreatDoorZbQ4
import Derived.Test.YtabdianhoabhhaaGreatDoorZbQ1
import Derived.DeepKeys4
import Derived.WideKeyEntry
import Derived.Test.YtabdianhoabhhaaGreatDoorZbQ5
namespace Go.Proofs.YtabdianhoabhhaaGreatDoor.Blk
open Go Go.RowKit Go.Proofs.YtabdianhoabhhaaGreatDoor Go.Proofs.YtabdianhoabhhaaGreatDoor.Bits Go.Proofs.YtabdianhoabhhaaGreatDoor.Code Go.Proofs.YtabdianhoabhhaaGreatDoor.Inf Go.Proofs.YtabdianhoabhhaaGreatDoor.Match Go.Proofs.YtabdianhoabhhaaGreatDoor.SP Go.Proofs.YtabdianhoabhhaaGreatDoor.Rt
set_option linter.unusedVariables false
theorem ord_index (k:Nat) (h:k < 19) (W:World):(Instr.index 251 (.agg ordA) (.int .i64 (k:Int))).run Tryz.prog W=.ok (.int .i64 (orderL.getD k 0:Int)) W:=by
 have hu:=run_underlying (P:=Tryz.prog) Tryz.underlying251
 have hk:ordA[k]?=some (.int .i64 (orderL.getD k 0:Int)):=by
  rw[ordA_eq,List.getElem?_toArray,List.getElem?_map,List.getD_eq_getElem?_getD,List.getElem?_eq_getElem (show k < orderL.length from h)];rfl
 simp[Instr.index,hu,asIntOf,go_sem,hk]
 intro h19
 omega
theorem ord_get (k:Nat) (h:k < 19):orderL.getD k 0 < 19:=by
 rw[List.getD_eq_getElem?_getD,List.getElem?_eq_getElem (show k < orderL.length from h)]
 exact order_lt _ (List.getElem_mem _)
theorem ord_take (S:List Nat) (k:Nat) (h:k < 19):((orderL.take (k+1)).map fun j=>S.getD j 0)=((orderL.take k).map fun j=>S.getD j 0)++[S.getD (orderL.getD k 0) 0]:=by
 rw[take_snoc orderL k h,List.map_append,List.getD_eq_getElem?_getD (l:=orderL),List.getElem?_eq_getElem (show k < orderL.length from h)];rfl
theorem getD_le (S:List Nat) (c i:Nat) (h:∀ x∈S,x≤c):S.getD i 0≤c:=by
 rw[List.getD_eq_getElem?_getD]
 rcases Nat.lt_or_ge i S.length with h1 | h1
 ·rw[List.getElem?_eq_getElem h1];exact h _ (List.getElem_mem h1)
 ·rw[List.getElem?_eq_none h1];exact Nat.zero_le _
theorem codeOf_small (ls:List Nat) (i:Nat) (h:Cd ls):codeOf ls i≤32768:=by
 by_cases h0:ls.getD i 0=0
 ·unfold codeOf;rw[if_pos h0];omega
 ·have h1:=codeOf_lt ls i (getD_lt h0) h0 h.le h.room
  have h2:(2:Nat) ^ ls.getD i 0≤2 ^ 15:=Nat.pow_le_pow_right (by omega) h.bits
  omega
theorem codesL_getD (ls:List Nat) (i:Nat) (h:i < ls.length):(codesL ls).getD i 0=codeOf ls i:=by
 unfold codesL
 rw[List.getD_eq_getElem?_getD,List.getElem?_map,List.getElem?_range h];rfl
theorem runB_len (S:List Nat) (x:Nat×Nat×Nat) (hS:∀ i,S.getD i 0≤7) (h:RunOk x):(runB S x).length≤14:=by
 have:=hS x.1
 unfold runB
 unfold RunOk at h
 rw[List.length_append,codeB_length,numBits_length];omega
theorem kat_cell {w:World} {A:Option Addr} {l:List Nat} (h:KAt w 3 A (l.map natV)) {i:Nat} (hi:i < l.length):∃ b o,A=some ⟨b,o,none⟩∧w.cell? ⟨b,o+i,none⟩=some (.int .i64 (l.getD i 0:Int)):=by
 obtain⟨b,o,e,hc⟩:=h.slat.get (k:=i) (by rw[List.length_map];exact hi)
 refine⟨b,o,e,?_⟩
 rw[hc,List.getElem_map,List.getD_eq_getElem?_getD,List.getElem?_eq_getElem hi];rfl
theorem manyP_take (rs:List (Nat×Nat×Nat)) (k:Nat) (h:k < rs.length):manyP (rs.take (k+1))=bump (manyP (rs.take k)) rs[k].1:=by
 unfold manyP;rw[take_snoc rs k h,List.foldl_append];rfl
theorem manyP_sum (rs:List (Nat×Nat×Nat)):(manyP rs).sum≤rs.length:=by
 have key:∀ (rs:List (Nat×Nat×Nat)) (m:List Nat),(rs.foldl (fun m x=>bump m x.1) m).sum≤m.sum+rs.length:=by
  intro rs
  induction rs with
  | nil=>intro m;exact Nat.le_refl _
  | cons x rs ih=>
   intro m
   have h1:=ih (bump m x.1)
   have h2:=bump_sum_le m x.1
   rw[List.foldl_cons,List.length_cons];omega
 have h:=key rs (List.replicate 19 0)
 have z:(List.replicate 19 0:List Nat).sum=0:=by simp
 rw[z]at h
 unfold manyP;omega
theorem flat_le {α:Type} (f:α→List Bool) (c:Nat):∀ l:List α,(∀ x∈l,(f x).length≤c)→(l.flatMap f).length≤c*l.length
 | [],_=>by simp
 | a :: l,h=>by
  have h1:=h a List.mem_cons_self
  have h2:=flat_le f c l (fun x hx=>h x (List.mem_cons_of_mem _ hx))
  rw[List.flatMap_cons,List.length_append,List.length_cons,Nat.mul_succ];omega
theorem kat_take {w:World} {A:Option Addr} {l:List Nat} (h:KAt w 3 A (l.map natV)) (n:Nat):KAt w 3 A ((l.take n).map natV):=by
 rw[List.map_take];exact h.take n
theorem natV_one (l:List Nat):∀ u∈l.map natV,u.oneCell'=true:=by
 intro u hu;obtain⟨x,_,rfl⟩:=List.mem_map.1 hu;rfl
set_option maxRecDepth 100000 in
set_option maxHeartbeats 8000000 in
theorem head_any (base p:Nat) (r:List Bool) (bA oA ca bB oB cb:Nat) (lit far:List Nat) (w:World) (hr:RowAt w base p r) (hA:KAt w 3 (some ⟨bA,oA,none⟩) (lit.map natV)) (hB:KAt w 3 (some ⟨bB,oB,none⟩) (far.map natV))
  (l1:lit.length=286) (l2:far.length=30) (hca:286≤ca) (hcb:30≤cb) (c1:Cd lit) (c2:Cd far) (hrl:r.length≤60000000) :
  Calls Tryz.prog 158 #[.pointer (some ⟨p,0,none⟩),.slice (some ⟨bA,oA,none⟩) 286 ca,.slice (some ⟨bB,oB,none⟩) 30 cb] w fun e w'=>e=.returned (.tuple #[])∧RowAt w' base p (r++headB lit far)∧Keeps base rowT w w':=by
 obtain⟨a,ha⟩:∃ a,a=trimN lit 257 286:=⟨_,rfl⟩
 obtain⟨b,hb⟩:∃ b,b=trimN far 1 30:=⟨_,rfl⟩
 have ha1:257≤a∧a≤286:=by rw[ha];exact⟨trimN_ge lit 257 286 (by omega),trimN_le lit 257 286⟩
 have hb1:1≤b∧b≤30:=by rw[hb];exact⟨trimN_ge far 1 30 (by omega),trimN_le far 1 30⟩
 have eA:trimP lit 257=lit.take a:=by unfold trimP;rw[l1,←ha]
 have eB:trimP far 1=far.take b:=by unfold trimP;rw[l2,←hb]
 have hHd:=headB_eq lit far
 have cA:=trim_cd lit 257 c1
 have cB:=trim_cd far 1 c2
 rw[eA,eB]at hHd
 rw[eA]at cA
 rw[eB]at cB
 have HT1:=Lib.hid (trimmed_any bA oA 286 ca lit 257 w l1 hca (by omega) hA.slat (by omega))
 have HT2:=Lib.hid (trimmed_any bB oB 30 cb far 1 w l2 hcb (by omega) hB.slat (by omega))
 rw[←ha]at HT1
 rw[←hb]at HT2
 have HA:=Lib.hid (kat_take hA a)
 have HB:=Lib.hid (kat_take hB b)
 have lA:(lit.take a).length=a:=by rw[List.length_take];omega
 have lB:(far.take b).length=b:=by rw[List.length_take];omega
 have HR:=Lib.hid hr
 have HHd:=Lib.hid hHd
 have hbw:base≤w.heap.size:=Nat.le_trans hr.1 (Nat.le_of_lt hr.lt)
 clear hHd hr hA hB ha hb eA eB c1 c2 l1 l2
 generalize headB lit far=HB0 at *
 generalize lit.take a=A at *
 generalize far.take b=B at *
 have h15:∀ y∈A++B,y≤15:=fun y hy=>by
  rcases List.mem_append.1 hy with hy | hy
  ·exact cA.le y hy
  ·exact cB.le y hy
 have HOk:=Lib.hid (runs_ok (A++B) h15)
 have HRl:=Lib.hid (runsP_len (A++B))
 have H15:=Lib.hid h15
 have LA:=Lib.hid lA
 have LB:=Lib.hid lB
 clear h15 lA lB cA cB
 go_enter Tryz.func158,Tryz.ntmps158
 go_wp2_with fail
 refine (HT1.out).mono ?_
 rintro e w1 ⟨rfl,rfl⟩
 go_wp2_with fail
 refine (HT2.out).mono ?_
 rintro e w2 ⟨rfl,rfl⟩
 have Hown0:Hid ((w2.alloc (.cells #[] 3)).ownsRow w2.heap.size 3 1 (.slice (some ⟨w2.heap.size,0,none⟩) 0 0) 0 []):=Lib.hid (own_zero _ _ _ _ w2.heap.size 0 #[] (Nat.le_refl _) (heap_alloc_new w2 _) (by unfold maxLen;omega) (by simp))
 have Hb0:=Lib.hid ((Below.refl w2.heap.size w2).alloc (Nat.le_refl _) (.cells #[] 3))
 have HAs:=Lib.hid (HA.out.below Hb0.out).slat
 have HN1:Hid ((A.map natV).length=a*1):=Lib.hid (by rw[List.length_map,LA.out];omega)
 have HN2:Hid ((B.map natV).length=b*1):=Lib.hid (by rw[List.length_map,LB.out];omega)
 have HO1:=Lib.hid (natV_one A)
 have HO2:=Lib.hid (natV_one B)
 clear HT1 HT2
 go_wp2_with (at_builtin;first
  | (refine wpList_app _ rfl (.tmp 27) (.tmp 28) _ rfl w2.heap.size 3 _ 1 8 Inf.tyI _ 0 [] rfl Hown0.out (some ⟨bA,oA,none⟩) a ca (A.map natV) rfl HN1.out HAs.out HO1.out (by simp) (by unfold maxLen;omega) (by omega) Hb0.out.size ?_;intro v3 w3 hown3 hg3 _;have Hb3:=Lib.hid (own_below Hown0.out hg3 Hb0.out Hb0.out.size);rw[List.nil_append,Nat.zero_add]at hown3;have Ho3:=Lib.hid hown3;have HBs:=Lib.hid (HB.out.below Hb3.out).slat;clear hown3 hg3)
  | (refine wpList_app _ rfl (.tmp 29) (.tmp 30) _ rfl w2.heap.size 3 _ 1 8 Inf.tyI _ a (A.map natV) rfl Ho3.out (some ⟨bB,oB,none⟩) b cb (B.map natV) rfl HN2.out HBs.out HO2.out (by simp) (by unfold maxLen;omega) (by omega) Hb3.out.size ?_;intro v4 w4 hown4 hg4 _;have Hb4:=Lib.hid (own_below Ho3.out hg4 Hb3.out Hb3.out.size);have Ho4:=Lib.hid hown4;clear hown4 hg4))
 obtain⟨A4,c4,rfl,hc4,_,hs4,_⟩:=own_slat Ho4.out
 have HRun:=Lib.hid (runs_any A4 (a+b) c4 (A++B) w4 (by rw[List.length_append,LA.out,LB.out]) (by omega) (by rw[List.map_append];exact hs4) (fun x hx=>Nat.le_trans (H15.out x hx) (by omega)))
 have Hb4':=Lib.hid Hb4.out
 clear hs4 Ho4 Ho3 Hown0 Hb0 HAs HBs HN1 HN2 HO1 HO2 Hb3 HA HB
 go_wp2_with fail
 refine (HRun.out).mono ?_
 rintro e w5 ⟨⟨v5,rfl,ho5⟩,hb5⟩
 have Hb5:=Lib.hid (Hb4.out.trans (hb5.mono Hb4.out.size))
 obtain⟨nR,hnR⟩:∃ n,n=(runsP (A++B)).length:=⟨_,rfl⟩
 have hnR2:nR≤316:=by have h1:=HRl.out;rw[List.length_append,LA.out,LB.out]at h1;omega
 rw[←hnR]at ho5
 obtain⟨A5,c5,rfl,hc5,_,hs5,_⟩:=own_kat ho5
 have HnR:=Lib.hid hnR.symm
 have HS5:=Lib.hid hs5
 clear ho5 hb5 hs5 HRun Hb4 Hb4' hnR HRl
 generalize runsP (A++B)=R at *
 have hmk:∀ u:World,(Instr.makeSlice 89 (.int .i64 19) (.int .i64 19)).run Tryz.prog u=.ok (.slice (some ⟨u.heap.size,0,none⟩) 19 19) (u.alloc (.cells (nats (List.replicate 19 0)) 3)):=fun u=>by rw[←nats_zero];exact make_ints 19 (by omega) u
 have Hm0:Hid (Blk (w5.alloc (.cells (nats (List.replicate 19 0)) 3)) w5.heap.size 3 (nats (manyP (R.take 0)))):=Lib.hid (Blk.new _ _ _)
 have Hb6:=Lib.hid ((Below.refl w5.heap.size w5).alloc (Nat.le_refl _) (.cells (nats (List.replicate 19 0)) 3))
 obtain⟨zz,hzz⟩:∃ z,z=nats (List.replicate 19 0):=⟨_,rfl⟩
 rw[←hzz]at hmk Hm0 Hb6
 clear hzz
 go_wp2_with fail
 clear hmk
 go_loopw [37] (fun i wr=>∃ k:Nat,k≤nR∧i=.int .i64 (k:Int)∧Blk wr w5.heap.size 3 (nats (manyP (R.take k)))∧Below w5.heap.size w5 wr) (fun i _=>nR - (intOf i).toNat)
 case atStart=>exact⟨0,Nat.zero_le _,rfl,Hm0.out,Hb6.out⟩
 case round=>
  clear Hm0 Hb6
  obtain⟨k,hk,rfl,hm,hb⟩:=hrel
  have Hm:=Lib.hid hm
  have Hb:=Lib.hid hb
  clear hm hb
  by_cases hlt:k < nR
  ·have hkl:k < R.length:=by rw[HnR.out];exact hlt
   obtain⟨b5,o5,rfl,hc⟩:=slat_elem (size:=3) (fun _=>rfl) (by omega) (HS5.out.below Hb.out).slat hkl
   have hc0:=hc 0 _ rfl
   have hc1:=hc 1 _ rfl
   have hc2:=hc 2 _ rfl
   simp only[Nat.add_zero]at hc0
   have Htk:=Lib.hid (manyP_take R k hkl)
   have hok:=HOk.out _ (List.getElem_mem hkl)
   have hml:=many_len (R.take k)
   have hms:=manyP_sum (R.take k)
   have htl:(R.take k).length≤k:=by simp;omega
   clear hc
   generalize R[k]=x at *
   obtain⟨x0,x1,x2⟩:=x
   unfold RunOk at hok
   dsimp only at hc0 hc1 hc2 Htk hok
   generalize manyP (R.take k)=M at *
   have hcell:=nats_cell Hm.out (i:=x0) (by omega)
   have hfr:=Hm.out.frozen x0
   have hle:=getD_le_sum M x0
   have Hm2:=Lib.hid ((nats_bump Hm.out x0).alloc (.cells #[.int .i64 (x0:Int),.int .i64 (x1:Int),.int .i64 (x2:Int)] 250))
   have Hb2:=Lib.hid ((Hb.out.setCell (p:=⟨w5.heap.size,x0,none⟩) (Nat.le_refl _) (.int .i64 ((M.getD x0 0:Int)+1))).alloc (by rw[World.size_setCell];exact Hb.out.size) (.cells #[.int .i64 (x0:Int),.int .i64 (x1:Int),.int .i64 (x2:Int)] 250))
   have hlt5:=Hm.out.lt
   generalize M.getD x0 0=y at *
   have hy:y≤1000:=by omega
   clear hms
   go_wp2_with fail
   go_roundw
   case rel=>exact⟨k+1,by omega,by go_num,by rw[Htk.out];exact Hm2.out,Hb2.out⟩
   case measure=>simp[intOf];omega
  ·obtain rfl:nR=k:=by omega
   have Hal:Hid (R.take nR=R):=Lib.hid (List.take_of_length_le (by rw[HnR.out];exact Nat.le_refl _))
   rw[Hal.out]at Hm
   have hsum:=manyP_sum R
   rw[HnR.out]at hsum
   have HW:=Lib.hid (wlen_any (some ⟨w5.heap.size,0,none⟩) 19 19 (manyP R) 7 wr (many_len R) (by omega) (nats_kat Hm.out).slat (fun x hx=>by have:=le_sum _ x hx;omega) (by omega) (by omega) (by have:=Weigh.ones_le (manyP R);rw[many_len]at this;have p7:(2:Nat) ^ 7=128:=rfl;omega))
   clear hlt hsum Hal Hm
   go_wp2_with fail
   refine (HW.out).mono ?_
   rintro e w7 ⟨⟨v7,rfl,ho7⟩,hb7⟩
   have HS:=sizes_fine R
   have e7:lengthsP (manyP R) 7=sizesP R:=rfl
   rw[e7]at ho7
   obtain⟨A7,c7,rfl,hc7,_,hs7,_⟩:=own_kat ho7
   have HS7:=Lib.hid hs7
   have Hb7:=Lib.hid (Hb.out.trans (hb7.mono Hb.out.size))
   clear HW ho7 hb7 hs7 e7 Hb
   have HOr:=Lib.hid (order_any w7)
   go_wp2_with fail
   refine (HOr.out).mono ?_
   rintro e w8 ⟨rfl,hb8⟩
   have HS8:=Lib.hid (HS7.out.below hb8)
   have Hb8:=Lib.hid (Hb7.out.trans (hb8.mono Hb7.out.size))
   have hst:=store_ord w8
   have hb9:Below w8.heap.size w8 ((w8.alloc (.cells #[.int .i64 0,.int .i64 0,.int .i64 0,.int .i64 0,.int .i64 0,.int .i64 0,.int .i64 0,.int .i64 0,.int .i64 0,.int .i64 0,.int .i64 0,.int .i64 0,.int .i64 0,.int .i64 0,.int .i64 0,.int .i64 0,.int .i64 0,.int .i64 0,.int .i64 0] 251)).setRow w8.heap.size ordA):=below_setRow ((Below.refl _ _).alloc (Nat.le_refl _) _) (Nat.le_refl _) _
   have HS9:=Lib.hid (HS8.out.below hb9)
   have Hb9:=Lib.hid (Hb8.out.trans (hb9.mono Hb8.out.size))
   have Hor9:Hid (Blk ((w8.alloc (.cells #[.int .i64 0,.int .i64 0,.int .i64 0,.int .i64 0,.int .i64 0,.int .i64 0,.int .i64 0,.int .i64 0,.int .i64 0,.int .i64 0,.int .i64 0,.int .i64 0,.int .i64 0,.int .i64 0,.int .i64 0,.int .i64 0,.int .i64 0,.int .i64 0,.int .i64 0] 251)).setRow w8.heap.size ordA) w8.heap.size 251 ordA):=Lib.hid ((Blk.new _ _ _).setRow ordA)
   clear hb8 HOr HS7 Hb7 hb9 HS8 Hb8
   go_wp2_with (refine wpList_load_row rfl 251 (.tmp 13) rfl w8.heap.size rfl 251 ordA (0,0) _ Hor9.out Tryz.underlying251 rfl (by kernel_rfl) ?_)
   generalize ((w8.alloc (.cells #[.int .i64 0,.int .i64 0,.int .i64 0,.int .i64 0,.int .i64 0,.int .i64 0,.int .i64 0,.int .i64 0,.int .i64 0,.int .i64 0,.int .i64 0,.int .i64 0,.int .i64 0,.int .i64 0,.int .i64 0,.int .i64 0,.int .i64 0,.int .i64 0,.int .i64 0] 251)).setRow w8.heap.size ordA)=w9 at *
   clear Hor9 hst
   go_loopw [14,56] (fun vt i wr=>∃ k:Nat,k≤19∧i=.int .i64 (k:Int)∧wr.ownsRow w9.heap.size 3 1 vt k (((orderL.take k).map fun j=>(sizesP R).getD j 0).map natV)∧Below w9.heap.size w9 wr) (fun _ i _=>19 - (intOf i).toNat)
   case atStart=>exact⟨0,Nat.zero_le _,rfl,World.ownsRow_nil ..,Below.refl _ _⟩
   case round=>
    obtain⟨k,hk,rfl,ho,hb⟩:=hrel
    have HO:=Lib.hid ho
    have Hb:=Lib.hid hb
    clear ho hb
    by_cases hlt:k < 19
    ·have hidx:=ord_index k hlt
     obtain⟨q,hq⟩:∃ q,q=orderL.getD k 0:=⟨_,rfl⟩
     have hq19:q < 19:=by rw[hq];exact ord_get k hlt
     have Htk:=Lib.hid (ord_take (sizesP R) k hlt)
     rw[←hq]at hidx Htk
     clear hq
     obtain⟨b7,o7,rfl,hc7'⟩:=kat_cell (HS9.out.below Hb.out) (i:=q) (by rw[HS.1];exact hq19)
     have Hc7:=Lib.hid hc7'
     generalize hv:(sizesP R).getD q 0=v at *
     have hcell:=Hc7.out
     have hba:Below wr.heap.size wr (wr.alloc (.cells #[.int .i64 (v:Int)] 3)):=(Below.refl _ _).alloc (Nat.le_refl _) _
     have HO2:=Lib.hid (own_keep HO.out hba)
     have Hb2:=Lib.hid (Hb.out.trans (hba.mono Hb.out.size))
     have HZ:Hid (SlAt (wr.alloc (.cells #[.int .i64 (v:Int)] 3)) (some ⟨wr.heap.size,0,none⟩) [.int .i64 (v:Int)]):=Lib.hid (SlAt.of_heap (heap_alloc_new _ _) rfl)
     clear hba hv hc7' Hc7
     go_wp2_with (at_builtin;refine wpList_app _ rfl (.tmp 59) (.tmp 64) _ rfl w9.heap.size 3 _ 1 8 Inf.tyI _ k (((orderL.take k).map fun j=>(sizesP R).getD j 0).map natV) rfl HO2.out (some ⟨wr.heap.size,0,none⟩) 1 1 [.int .i64 (v:Int)] rfl rfl HZ.out (by simp[Value.oneCell']) (by simp) (by unfold maxLen;omega) (by omega) Hb2.out.size ?_;intro v8 w8 hown8 hg8 _;have Hb8:=Lib.hid (own_below HO2.out hg8 Hb2.out Hb2.out.size);have Ho8:=Lib.hid hown8;clear hown8 hg8)
     go_roundw
     case rel=>exact⟨k+1,by omega,by go_num,by rw[Htk.out,List.map_append];exact Ho8.out,Hb8.out⟩
     case measure=>simp[intOf];omega
    ·obtain rfl:k=19:=by omega
     have e19:(orderL.take 19).map (fun j=>(sizesP R).getD j 0)=orderL.map fun j=>(sizesP R).getD j 0:=rfl
     obtain⟨s1,s2,s3,s4⟩:=HS
     have hHd:=HHd.out
     have hSle:∀ i,(sizesP R).getD i 0≤7:=fun i=>getD_le _ 7 i s3
     have HSr:=Lib.hid (HS9.out.below Hb.out)
     have hho:=HO.out
     rw[e19]at hho
     generalize sizesP R=S at *
     generalize hT0:(orderL.map fun j=>S.getD j 0)=T0 at *
     have lT0:T0.length=19:=by rw[←hT0,List.length_map];rfl
     have hT7:∀ x∈T0,x≤7:=fun x hx=>by
      rw[←hT0]at hx
      obtain⟨y,_,rfl⟩:=List.mem_map.1 hx
      exact hSle y
     obtain⟨A8,c8,rfl,hc8,_,hk8,_⟩:=own_kat hho
     obtain⟨b8,o8,cur8,rfl,_,_⟩:=hk8 (by rw[List.length_map];omega)
     obtain⟨m,hm⟩:∃ m,m=trimN T0 4 19:=⟨_,rfl⟩
     have hm1:4≤m∧m≤19:=by rw[hm];exact⟨trimN_ge T0 4 19 (by omega),trimN_le T0 4 19⟩
     have HT:=Lib.hid (trimmed_any b8 o8 19 c8 T0 4 wr lT0 hc8 (by omega) hk8.slat (by omega))
     rw[←hm]at HT
     have eT:trimP T0 4=T0.take m:=by unfold trimP;rw[lT0,←hm]
     rw[eT]at hHd
     have lT:(T0.take m).length=m:=by rw[List.length_take];omega
     have hTt:∀ x∈T0.take m,x≤7:=fun x hx=>hT7 x (List.mem_of_mem_take hx)
     have HKT:=Lib.hid (kat_take hk8 m)
     generalize T0.take m=T at *
     have HHd2:=Lib.hid hHd
     have LT:=Lib.hid lT
     have HT7:=Lib.hid hTt
     have HSle:=Lib.hid hSle
     have HS1:=Lib.hid s1
     have HS2:=Lib.hid s2
     have Hbb:=Lib.hid (Hb5.out.trans ((Hb9.out.trans (Hb.out.mono Hb9.out.size)).mono Hb5.out.size))
     have HRow:=Lib.hid (HR.out.below Hbb.out)
     have HK:=Lib.hid (Keeps.of_below (T:=rowT) Hbb.out hbw)
     have HSR:=Lib.hid (HS5.out.below (Hb9.out.trans (Hb.out.mono Hb9.out.size)))
     clear hHd s1 s2 s3 s4 hT0 lT0 hT7 hk8 hho hm eT lT hTt HO e19 hSle HS9 Hb9 HS5 Hb5 Hbb Hb HR HHd
     go_wp2_with fail
     refine (HT.out).mono ?_
     rintro e w10 ⟨rfl,rfl⟩
     obtain⟨x1,hx1⟩:∃ x,x=a - 257:=⟨_,rfl⟩
     obtain⟨x2,hx2⟩:∃ x,x=b - 1:=⟨_,rfl⟩
     obtain⟨x3,hx3⟩:∃ x,x=m - 4:=⟨_,rfl⟩
     have hs1:IntKind.i64.wrap ((a:Int) - 257)=(x1:Int):=by rw[show (a:Int) - 257=(x1:Int) by omega];exact IntWalk.i64_in _ (by omega)
     have hs2:IntKind.i64.wrap ((b:Int) - 1)=(x2:Int):=by rw[show (b:Int) - 1=(x2:Int) by omega];exact IntWalk.i64_in _ (by omega)
     have hs3:IntKind.i64.wrap ((m:Int) - 4)=(x3:Int):=by rw[show (m:Int) - 4=(x3:Int) by omega];exact IntWalk.i64_in _ (by omega)
     have Hx1:Hid (A.length - 257=x1∧B.length - 1=x2∧T.length - 4=x3):=Lib.hid (by rw[LA.out,LB.out,LT.out];omega)
     have hx1':x1≤29:=by omega
     have hx2':x2≤29:=by omega
     have hx3':x3≤15:=by omega
     clear hx1 hx2 hx3 HT
     have HP:=Lib.hid (put_any base p x1 5 r w10 HRow.out (by omega) (by omega) (by omega))
     obtain⟨r1,hr1⟩:∃ z,z=r++numBits x1 5:=⟨_,rfl⟩
     have hl1:r1.length≤60000100:=by rw[hr1,List.length_append,numBits_length];omega
     rw[←hr1]at HP
     have Hr1:=Lib.hid hr1
     clear hr1 HRow
     go_wp2_with fail
     refine (HP.out).mono ?_
     rintro e w11 ⟨rfl,hrow,hkp⟩
     have HRow:=Lib.hid hrow
     have HKT2:=Lib.hid (HKT.out.keeps hkp (by decide))
     have HSr2:=Lib.hid (HSr.out.keeps hkp (by decide))
     have HSR2:=Lib.hid (HSR.out.keeps hkp (by decide))
     have HK2:=Lib.hid (HK.out.trans hkp)
     clear hrow hkp HKT HSr HSR HK HP
     have HP:=Lib.hid (put_any base p x2 5 r1 w11 HRow.out (by omega) (by omega) (by omega))
     obtain⟨r2,hr2⟩:∃ z,z=r1++numBits x2 5:=⟨_,rfl⟩
     have hl2:r2.length≤60000200:=by rw[hr2,List.length_append,numBits_length];omega
     rw[←hr2]at HP
     have Hr2:=Lib.hid hr2
     clear hr2 HRow
     go_wp2_with fail
     refine (HP.out).mono ?_
     rintro e w12 ⟨rfl,hrow,hkp⟩
     have HRow:=Lib.hid hrow
     have HKT:=Lib.hid (HKT2.out.keeps hkp (by decide))
     have HSr:=Lib.hid (HSr2.out.keeps hkp (by decide))
     have HSR:=Lib.hid (HSR2.out.keeps hkp (by decide))
     have HK:=Lib.hid (HK2.out.trans hkp)
     clear hrow hkp HKT2 HSr2 HSR2 HK2 HP
     have HP:=Lib.hid (put_any base p x3 4 r2 w12 HRow.out (by omega) (by omega) (by omega))
     obtain⟨r3,hr3⟩:∃ z,z=r2++numBits x3 4:=⟨_,rfl⟩
     have hl3:r3.length≤60000300:=by rw[hr3,List.length_append,numBits_length];omega
     rw[←hr3]at HP
     have Hr3:=Lib.hid hr3
     clear hr3 HRow
     go_wp2_with fail
     refine (HP.out).mono ?_
     rintro e w13 ⟨rfl,hrow,hkp⟩
     have HRow:=Lib.hid hrow
     have HKT2:=Lib.hid (HKT.out.keeps hkp (by decide))
     have HSr2:=Lib.hid (HSr.out.keeps hkp (by decide))
     have HSR2:=Lib.hid (HSR.out.keeps hkp (by decide))
     have HK2:=Lib.hid (HK.out.trans hkp)
     clear hrow hkp HKT HSr HSR HK HP hs1 hs2 hs3
     go_wp2_with fail
     go_loopw [86] (fun i wr=>∃ k:Nat,k≤m∧i=.int .i64 (k:Int)∧RowAt wr base p (r3++(T.take k).flatMap fun n=>numBits n 3)∧Keeps base rowT w13 wr) (fun i _=>m - (intOf i).toNat)
     case atStart=>exact⟨0,Nat.zero_le _,rfl,by rw[List.take_zero,List.flatMap_nil,List.append_nil];exact HRow.out,Keeps.refl _ _ _⟩
     case round=>
      clear HRow
      obtain⟨k,hk,rfl,hrow,hkp⟩:=hrel
      have HRow:=Lib.hid hrow
      have HKp:=Lib.hid hkp
      clear hrow hkp
      by_cases hlt:k < m
      ·have hkl:k < T.length:=by rw[LT.out];exact hlt
       obtain⟨bT,oT,hAT,hcell⟩:=kat_cell (HKT2.out.keeps HKp.out (by decide)) hkl
       injection hAT with hAT;injection hAT with e1 e2 e3;subst e1 e2
       have hv7:T.getD k 0≤7:=getD_le T 7 k HT7.out
       have Htk:Hid ((T.take (k+1)).flatMap (fun n=>numBits n 3)=((T.take k).flatMap fun n=>numBits n 3)++numBits (T.getD k 0) 3):=Lib.hid (by
        rw[take_snoc T k hkl,List.flatMap_append,List.getD_eq_getElem?_getD,List.getElem?_eq_getElem hkl];simp)
       have hfl:=flat_le (fun n=>numBits n 3) 3 (T.take k) (fun x _=>by rw[numBits_length];exact Nat.le_refl _)
       have htl:(T.take k).length≤k:=by simp;omega
       generalize T.getD k 0=v at *
       have HP:=Lib.hid (put_any base p v 3 _ wr HRow.out (by omega) (by omega) (by rw[List.length_append];omega))
       rw[List.append_assoc,←Htk.out]at HP
       clear HRow hfl htl
       go_wp2_with fail
       refine (HP.out).mono ?_
       rintro e w14 ⟨rfl,hrow,hkp⟩
       have HRow:=Lib.hid hrow
       have HKp2:=Lib.hid (HKp.out.trans hkp)
       clear hrow hkp HKp HP hcell
       go_wp2_with fail
       go_roundw
       case rel=>exact⟨k+1,by omega,by go_num,HRow.out,HKp2.out⟩
       case measure=>simp[intOf];omega
      ·obtain rfl:m=k:=by omega
       have Hal:Hid (T.take m=T):=Lib.hid (List.take_of_length_le (by rw[LT.out];exact Nat.le_refl _))
       rw[Hal.out]at HRow
       have hfl:=flat_le (fun n=>numBits n 3) 3 T (fun x _=>by rw[numBits_length];exact Nat.le_refl _)
       rw[LT.out]at hfl
       obtain⟨r4,hr4⟩:∃ z,z=r3++T.flatMap (fun n=>numBits n 3):=⟨_,rfl⟩
       have hl4:r4.length≤60000400:=by rw[hr4,List.length_append];omega
       rw[←hr4]at HRow
       have Hr4:=Lib.hid hr4
       have HSr:=Lib.hid (HSr2.out.keeps HKp.out (by decide))
       have HSR:=Lib.hid (HSR2.out.keeps HKp.out (by decide))
       have HK:=Lib.hid (HK2.out.trans HKp.out)
       have HCd:=Lib.hid (ccodes_any A7 19 c7 S wr HS1.out (by omega) HSr.out.slat HS2.out)
       clear hr4 hfl Hal HKp HK2 HSr2 HSR2 HKT2 hlt
       go_wp2_with fail
       refine (HCd.out).mono ?_
       rintro e w15 ⟨⟨g,rfl,hg,hBg⟩,hb15⟩
       have HRow2:=Lib.hid (HRow.out.below hb15)
       have hbr:=Nat.le_trans HRow.out.1 (Nat.le_of_lt HRow.out.lt)
       have HSr2:=Lib.hid (HSr.out.below hb15)
       have HSR2:=Lib.hid (HSR.out.below hb15)
       have HK2:=Lib.hid (HK.out.trans (Keeps.of_below hb15 hbr))
       have HG:=Lib.hid (nats_kat hBg)
       clear HCd hb15 hBg HRow HSr HSR HK hg hbr
       go_wp2_with fail
       have HFin:Hid (r++HB0=r4++R.flatMap (runB S)):=Lib.hid (by
        rw[HHd2.out,Hx1.out.1,Hx1.out.2.1,Hx1.out.2.2,Hr4.out,Hr3.out,Hr2.out,Hr1.out]
        simp only[List.append_assoc])
       clear HHd2 Hx1 Hr1 Hr2 Hr3 Hr4 HT7 LT
       go_loopw [101] (fun i wr=>∃ k:Nat,k≤nR∧i=.int .i64 (k:Int)∧RowAt wr base p (r4++(R.take k).flatMap (runB S))∧Keeps base rowT w15 wr) (fun i _=>nR - (intOf i).toNat)
       case atStart=>exact⟨0,Nat.zero_le _,rfl,by rw[List.take_zero,List.flatMap_nil,List.append_nil];exact HRow2.out,Keeps.refl _ _ _⟩
       case round=>
        clear HRow2
        obtain⟨k,hk,rfl,hrow,hkp⟩:=hrel
        have HRow:=Lib.hid hrow
        have HKp:=Lib.hid hkp
        clear hrow hkp
        by_cases hlt:k < nR
        ·have hkl:k < R.length:=by rw[HnR.out];exact hlt
         obtain⟨b5,o5,rfl,hc⟩:=slat_elem (size:=3) (fun _=>rfl) (by omega) (HSR2.out.keeps HKp.out (by decide)).slat hkl
         have hc0:=hc 0 _ rfl
         have hc1:=hc 1 _ rfl
         have hc2:=hc 2 _ rfl
         simp only[Nat.add_zero]at hc0
         have hok:=HOk.out _ (List.getElem_mem hkl)
         have hfl:=flat_le (runB S) 14 (R.take k) (fun x hx=>runB_len S x HSle.out (HOk.out x (List.mem_of_mem_take hx)))
         have htl:(R.take k).length≤k:=by simp;omega
         have Htk:Hid ((R.take (k+1)).flatMap (runB S)=(R.take k).flatMap (runB S)++runB S R[k]):=Lib.hid (by
          rw[take_snoc R k hkl,List.flatMap_append];simp)
         clear hc
         generalize R[k]=x at *
         obtain⟨x0,y1,y2⟩:=x
         unfold RunOk at hok
         dsimp only at hc0 hc1 hc2 hok
         have hbr:base≤wr.heap.size:=Nat.le_trans HRow.out.1 (Nat.le_of_lt HRow.out.lt)
         have hba:Below wr.heap.size wr (wr.alloc (.cells #[.int .i64 (x0:Int),.int .i64 (y1:Int),.int .i64 (y2:Int)] 250)):=(Below.refl _ _).alloc (Nat.le_refl _) _
         have HRowA:=Lib.hid (HRow.out.below hba)
         have HKpA:=Lib.hid (HKp.out.trans (Keeps.of_below hba hbr))
         have HNew:Hid (Blk (wr.alloc (.cells #[.int .i64 (x0:Int),.int .i64 (y1:Int),.int .i64 (y2:Int)] 250)) wr.heap.size 250 #[.int .i64 (x0:Int),.int .i64 (y1:Int),.int .i64 (y2:Int)]):=Lib.hid (Blk.new _ _ _)
         obtain⟨bS,oS,rfl,hcS⟩:=kat_cell (HSr2.out.keeps HKpA.out (by decide)) (i:=x0) (by rw[HS1.out];exact hok.1)
         obtain⟨bG,oG,hAG,hcG⟩:=kat_cell (HG.out.keeps HKpA.out (by decide)) (i:=x0) (by unfold codesL;rw[List.length_map,List.length_range,HS1.out];exact hok.1)
         injection hAG with hAG;injection hAG with e1 e2 e3;subst e1 e2
         rw[codesL_getD S x0 (by rw[HS1.out];exact hok.1)]at hcG
         have hcd:=codeOf_small S x0 HS2.out
         have hsz:=HSle.out x0
         have Hcb:Hid (runB S (x0,y1,y2)=hi (S.getD x0 0) (codeOf S x0)++numBits y1 y2):=Lib.hid rfl
         generalize codeOf S x0=cd at *
         generalize S.getD x0 0=sz at *
         have n0:(wr.alloc (.cells #[.int .i64 (x0:Int),.int .i64 (y1:Int),.int .i64 (y2:Int)] 250)).cell? ⟨wr.heap.size,0,none⟩=some (.int .i64 (x0:Int)):=by rw[HNew.out.cell];rfl
         clear hba HKp HRow
         go_wp2_with fail
         generalize wr.alloc (.cells #[.int .i64 (x0:Int),.int .i64 (y1:Int),.int .i64 (y2:Int)] 250)=wa at *
         generalize wr.heap.size=gx at *
         have hx0:x0 < 19:=hok.1
         have hx0':(x0:Int) < 19:=by omega
         have hcS':=hcS
         have hcG':=hcG
         simp only[Nat.zero_add]at hcS' hcG'
         go_still_tail 11,(by kernel_rfl)
         change wpList _ _ _ _ _ wa.drew
         have HRow:Hid (RowAt wa.drew base p (r4++(R.take k).flatMap (runB S))):=HRowA
         have HKd:=Lib.hid (HKpA.out.drew)
         have HNew2:Hid (Blk wa.drew gx 250 #[.int .i64 (x0:Int),.int .i64 (y1:Int),.int .i64 (y2:Int)]):=HNew
         clear HRowA HKpA HNew hcS hcG n0 hc0 hc1 hc2
         generalize wa.drew=wd at *
         have HP:=Lib.hid (code_any base p cd sz _ wd HRow.out (by omega) (by omega) (by rw[List.length_append];omega))
         clear HRow
         go_wp2_with fail
         refine (HP.out).mono ?_
         rintro e w17 ⟨rfl,hrow,hkp⟩
         have HRow:=Lib.hid hrow
         have HK17:=Lib.hid (HKd.out.trans hkp)
         have HN17:=Lib.hid (hkp.blk HNew2.out (by decide))
         have n1:w17.cell? ⟨gx,1,none⟩=some (.int .i64 (y1:Int)):=by rw[HN17.out.cell];rfl
         have n2:w17.cell? ⟨gx,2,none⟩=some (.int .i64 (y2:Int)):=by rw[HN17.out.cell];rfl
         clear hrow hkp HP HKd HNew2
         have HP:=Lib.hid (put_any base p y1 y2 _ w17 HRow.out (by omega) (by omega) (by rw[List.length_append,List.length_append,hi_length];omega))
         rw[List.append_assoc,List.append_assoc,←Hcb.out,←Htk.out]at HP
         clear HRow
         go_wp2_with fail
         refine (HP.out).mono ?_
         rintro e w18 ⟨rfl,hrow,hkp⟩
         have HRow:=Lib.hid hrow
         have HK18:=Lib.hid (HK17.out.trans hkp)
         clear hrow hkp HP HK17 HN17 n1 n2
         go_wp2_with fail
         go_roundw
         case rel=>exact⟨k+1,by omega,by go_num,HRow.out,HK18.out⟩
         case measure=>simp[intOf];omega
        ·obtain rfl:nR=k:=by omega
         have Hal:Hid (R.take nR=R):=Lib.hid (List.take_of_length_le (by rw[HnR.out];exact Nat.le_refl _))
         rw[Hal.out,←HFin.out]at HRow
         have HKf:=Lib.hid (HK2.out.trans HKp.out)
         go_wp2_with fail
         go_end0
         exact⟨rfl,HRow.out,HKf.out⟩
end Go.Proofs.YtabdianhoabhhaaGreatDoor.Blk
namespace Go.Proofs.YtabdianhoabhhaaGreatDoor.Rt
open Go.Proofs.YtabdianhoabhhaaGreatDoor.Bits Go.Proofs.YtabdianhoabhhaaGreatDoor.Code Go.Proofs.YtabdianhoabhhaaGreatDoor.Match Go.Proofs.YtabdianhoabhhaaGreatDoor.SP Go.Proofs.YtabdianhoabhhaaGreatDoor.Inf Go.Proofs.YtabdianhoabhhaaGreatDoor.Blk
set_option linter.unusedVariables false
def oneS (n:Nat) (b:List UInt8) (kind:Nat) (last:Bool):List Bool:=
 if kind=0 then [last]++numBits 0 2++List.replicate (8*((n+3+7) / 8) - (n+3)) false++numBits b.length 16++numBits (65535 - b.length) 16++bitsL b
 else if kind=1 then [last]++numBits 1 2++bodyB (toks b) fixedA fixedB
 else [last]++numBits kind 2++headB (lensP (toks b)).1 (lensP (toks b)).2++bodyB (toks b) (lensP (toks b)).1 (lensP (toks b)).2
theorem oneB_eq (r:List Bool) (b:List UInt8) (kind:Nat) (last:Bool):oneB r b kind last=r++oneS r.length b kind last:=by
 unfold oneB oneS
 by_cases h0:kind=0
 ·rw[if_pos h0,if_pos h0]
  unfold pad
  have e:(r++[last]++numBits 0 2).length=r.length+3:=by simp[numBits_length]
  rw[e]
  simp only[List.append_assoc]
 ·rw[if_neg h0,if_neg h0]
  by_cases h1:kind=1
  ·rw[if_pos h1,if_pos h1];simp only[List.append_assoc]
  ·rw[if_neg h1,if_neg h1];simp only[List.append_assoc]
theorem cstep_get (s:List Nat×List Nat) (t:Tok) (j:Nat):s.1.getD j 0≤(cstep s t).1.getD j 0∧s.2.getD j 0≤(cstep s t).2.getD j 0:=by
 unfold cstep
 split
 ·dsimp only;rw[bump_get];omega
 ·dsimp only;rw[bump_get,bump_get];omega
theorem counts_fold:∀ (ts:List Tok) (s:List Nat×List Nat) (j:Nat),s.1.getD j 0≤(ts.foldl cstep s).1.getD j 0∧s.2.getD j 0≤(ts.foldl cstep s).2.getD j 0
 | [],s,j=>⟨Nat.le_refl _,Nat.le_refl _⟩
 | t :: ts,s,j=>by
  have h1:=counts_fold ts (cstep s t) j
  have h2:=cstep_get s t j
  rw[List.foldl_cons];omega
def TokR (t:Tok):Prop:=t.2.1=0∨(3≤t.2.1∧t.2.1≤258∧1≤t.2.2)
theorem chk_tokR:∀ (ts:List Tok) (n:Int),(chkAll ts n).1=0→∀ t∈ts,TokR t
 | [],_,_,t,h=>by cases h
 | x :: ts,n,hk,t,h=>by
  simp only[chkAll]at hk
  have hx:(chkTok n x).1=0:=by
   by_cases h1:(chkTok n x).1=0
   ·exact h1
   ·rw[if_neg h1]at hk;exact hk
  rw[if_pos hx]at hk
  rcases List.mem_cons.1 h with rfl | h
  ·unfold chkTok at hx
   unfold TokR
   by_cases h1:t.2.1=0
   ·exact Or.inl h1
   ·rw[if_neg h1]at hx
    by_cases h2:t.1≠0
    ·rw[if_pos h2]at hx;simp at hx
    ·rw[if_neg h2]at hx
     by_cases h3:t.2.1 < 3∨258 < t.2.1∨t.2.2 < 1
     ·rw[if_pos h3]at hx;simp at hx
     ·exact Or.inr ⟨by omega,by omega,by omega⟩
  ·exact chk_tokR ts _ hk t h
theorem toks_chk (b:List UInt8):(chkAll (toks b) 0).1=0:=by unfold toks;rw[chkAll_titer]
theorem cstep_hit (s:List Nat×List Nat) (t:Tok) (h1:s.1.length=286) (h2:s.2.length=30):TokFit (cstep s t).1 (cstep s t).2 t:=by
 have k1:symS sameL t.2.1.toNat < 29:=symS_lt sameL _ (by decide)
 have k2:symS farL t.2.2.toNat < 30:=symS_lt farL _ (by decide)
 have hx:=t.1.toNat_lt
 unfold TokFit cstep
 by_cases h:t.2.1=0
 ·rw[if_pos h,if_pos h]
  dsimp only
  rw[bump_get,if_pos ⟨rfl,by omega⟩];omega
 ·rw[if_neg h,if_neg h]
  dsimp only
  rw[bump_get,bump_get,if_pos ⟨rfl,by omega⟩,if_pos ⟨rfl,by omega⟩];omega
theorem fit_mono {a b c d:List Nat} (h1:∀ j,a.getD j 0≠0→c.getD j 0≠0) (h2:∀ j,b.getD j 0≠0→d.getD j 0≠0) {t:Tok} (h:TokFit a b t):TokFit c d t:=by
 unfold TokFit at h⊢
 split
 ·rename_i h0;rw[if_pos h0]at h;exact h1 _ h
 ·rename_i h0;rw[if_neg h0]at h;exact⟨h1 _ h.1,h2 _ h.2⟩
theorem counts_fit_from:∀ (ts:List Tok) (s:List Nat×List Nat),s.1.length=286→s.2.length=30→∀ t∈ts,TokFit (ts.foldl cstep s).1 (ts.foldl cstep s).2 t
 | [],_,_,_,t,h=>by cases h
 | x :: ts,s,h1,h2,t,h=>by
  have hl:=cstep_len s x
  rw[List.foldl_cons]
  rcases List.mem_cons.1 h with rfl | h
  ·refine fit_mono (fun j hj=>?_) (fun j hj=>?_) (cstep_hit s t h1 h2)
   ·have:=(counts_fold ts (cstep s t) j).1;omega
   ·have:=(counts_fold ts (cstep s t) j).2;omega
  ·exact counts_fit_from ts _ (hl.1.trans h1) (hl.2.trans h2) t h
theorem counts_fit (ts:List Tok):∀ t∈ts,TokFit (countsP ts).1 (countsP ts).2 t:=fun t h=>by
 have h1:=counts_fit_from ts (List.replicate 286 0,List.replicate 30 0) List.length_replicate List.length_replicate t h
 refine fit_mono (fun j hj=>?_) (fun j hj=>hj) h1
 have e:(countsP ts).1.getD j 0=(countsK ts).1.getD j 0+if 256=j∧j < (countsK ts).1.length then 1 else 0:=bump_get _ _ _
 have e2:(countsK ts).1.getD j 0=(List.foldl cstep (List.replicate 286 0,List.replicate 30 0) ts).1.getD j 0:=rfl
 omega
theorem lens_all (ts:List Tok):(lensP ts).1.length=286∧(lensP ts).2.length=30∧Cd (lensP ts).1∧Cd (lensP ts).2∧(lensP ts).1.getD 256 0≠0∧∀ t∈ts,TokFit (lensP ts).1 (lensP ts).2 t:=by
 obtain⟨c1,c2⟩:=counts_len ts
 have o1:=Weigh.ones_le (countsP ts).1
 have o2:=Weigh.ones_le (countsP ts).2
 have p15:(2:Nat) ^ 15=32768:=rfl
 obtain⟨a1,a2,_,a4⟩:=lens_fine (countsP ts).1 15 (by omega) (by omega) (by omega)
 obtain⟨b1,b2,_,b4⟩:=lens_fine (countsP ts).2 15 (by omega) (by omega) (by omega)
 refine⟨a1.trans c1,b1.trans c2,a2,b2,fun h=>?_,fun t ht=>?_⟩
 ·have h1:=(a4 256).1 h
  have e:(countsP ts).1.getD 256 0=(countsK ts).1.getD 256 0+if 256=256∧256 < (countsK ts).1.length then 1 else 0:=bump_get _ _ _
  rw[if_pos ⟨rfl,by rw[(countsK_len ts).1];omega⟩]at e
  omega
 ·exact fit_mono (fun j hj h=>hj ((a4 j).1 h)) (fun j hj h=>hj ((b4 j).1 h)) (counts_fit ts t ht)
theorem fixA_cd:Cd fixedA:=⟨by decide +kernel,by decide +kernel⟩
theorem fixB_cd:Cd fixedB:=⟨by decide +kernel,by decide +kernel⟩
theorem fixA_get:∀ k < 288,fixedA.getD k 0≠0:=by decide +kernel
theorem fixB_get:∀ k < 32,fixedB.getD k 0≠0:=by decide +kernel
theorem fix_fit (t:Tok):TokFit fixedA fixedB t:=by
 have k1:symS sameL t.2.1.toNat < 29:=symS_lt sameL _ (by decide)
 have k2:symS farL t.2.2.toNat < 30:=symS_lt farL _ (by decide)
 have hx:=t.1.toNat_lt
 unfold TokFit
 split
 ·exact fixA_get _ (by omega)
 ·exact⟨fixA_get _ (by omega),fixB_get _ (by omega)⟩
theorem tokB_pos (lit far:List Nat) (t:Tok) (h:TokFit lit far t):1≤(tokB lit far t).length:=by
 unfold TokFit at h
 unfold tokB
 split
 ·rename_i h0;rw[if_pos h0]at h;rw[codeB_length];omega
 ·rename_i h0;rw[if_neg h0]at h
  simp only[List.length_append,codeB_length];omega
theorem body_long (lit far:List Nat):∀ ts:List Tok,(∀ t∈ts,TokFit lit far t)→ts.length≤(bodyB ts lit far).length
 | [],_=>Nat.zero_le _
 | t :: ts,h=>by
  have h1:=tokB_pos lit far t (h t List.mem_cons_self)
  have h2:=body_long lit far ts (fun x hx=>h x (List.mem_cons_of_mem _ hx))
  rw[bodyB_cons,List.length_append,List.length_cons];omega
theorem toks_has {row:List Bool} {lit far:List Nat} {p:Nat} {b out:List UInt8} (hc:Cd lit) (hd:Cd far) (he:lit.getD 256 0≠0) (hf:∀ t∈toks b,TokFit lit far t) (h:Has row p (bodyB (toks b) lit far)) (hl:out.length+b.length≤3000) :
  bodyR row lit far (row.length+1) p out=.ok (p+(bodyB (toks b) lit far).length,out++b):=by
 have hs:(toks b).foldl putTok out=out++b:=by
  have:=say_front out (toks b) [] (toks_chk b)
  rw[List.append_nil]at this
  rw[this]
  have e:(toks b).foldl putTok []=b:=expand_toks b
  rw[e]
 have hlen:=body_long lit far (toks b) hf
 have hle:=h.le
 have:=body_has hc hd he (toks b) p out (row.length+1) 0 h hf (toks_chk b) (Int.le_refl _) (by omega) (by rw[hs,List.length_append];exact hl) (by omega)
 rw[hs]at this
 exact this
theorem one_get {row:List Bool} {p:Nat} {l:Bool} (h:Has row p [l]):getR row p 1=.ok (l.toNat,p+1):=by
 have e:[l]=numBits l.toNat 1:=by cases l <;> rfl
 rw[e]at h
 exact get_has h (by cases l <;> decide)
theorem last_beq (l:Bool):(l.toNat == 1)=l:=by cases l <;> rfl
theorem block_has {row:List Bool} {p kind:Nat} {b out:List UInt8} {last:Bool} (h:Has row p (oneS p b kind last)) (hk:kind≤2) (hl:out.length+b.length≤3000) :
  blockR row p out=.ok (last,kind,p+(oneS p b kind last).length,out++b):=by
 unfold oneS at h⊢
 by_cases h0:kind=0
 ·subst h0
  rw[if_pos rfl]at h⊢
  have a1:=h.left.left.left.left.left
  have a2:=h.left.left.left.left.right
  have a4:=h.left.left.right
  have a5:=h.left.right
  have a6:=h.right
  simp only[List.length_append,numBits_length,List.length_singleton,List.length_replicate]at a2 a4 a5 a6⊢
  have ef:fillP (p+1+2)=p+(1+2+(8*((p+3+7) / 8) - (p+3))):=by unfold fillP;omega
  have hb16:b.length < 2 ^ 16:=by have:(2:Nat) ^ 16=65536:=rfl;omega
  have hc16:65535 - b.length < 2 ^ 16:=by have:(2:Nat) ^ 16=65536:=rfl;omega
  unfold blockR
  rw[one_get a1,thn]
  dsimp only
  rw[get_has a2 (by decide),thn]
  dsimp only
  rw[if_pos rfl]
  unfold storedR
  rw[ef,get_has a4 hb16,thn]
  dsimp only
  rw[get_has (by rw[Nat.add_assoc];exact a5) hc16,thn]
  dsimp only
  rw[if_neg (by omega),raw_has b _ out (by simp only[Nat.add_assoc]at a6⊢;exact a6) hl,thn,last_beq,bitsL_length]
  simp only[Nat.add_assoc]
 ·rw[if_neg h0]at h⊢
  by_cases h1:kind=1
  ·subst h1
   rw[if_pos rfl]at h⊢
   have a1:=h.left.left
   have a2:=h.left.right
   have a3:=h.right
   simp only[List.length_append,numBits_length,List.length_singleton]at a2 a3⊢
   unfold blockR
   rw[one_get a1,thn]
   dsimp only
   rw[get_has a2 (by decide),thn]
   dsimp only
   rw[if_neg (by omega),if_pos rfl,toks_has fixA_cd fixB_cd (fixA_get 256 (by omega)) (fun t _=>fix_fit t) (by rw[Nat.add_assoc];exact a3) hl,thn,last_beq]
   simp only[Nat.add_assoc]
  ·obtain rfl:kind=2:=by omega
   rw[if_neg h1]at h⊢
   obtain⟨l1,l2,l3,l4,l5,l6⟩:=lens_all (toks b)
   generalize (lensP (toks b)).1=lit at *
   generalize (lensP (toks b)).2=far at *
   have a1:=h.left.left.left
   have a2:=h.left.left.right
   have a3:=h.left.right
   have a4:=h.right
   simp only[List.length_append,numBits_length,List.length_singleton]at a2 a3 a4⊢
   unfold blockR
   rw[one_get a1,thn]
   dsimp only
   rw[get_has a2 (by decide),thn]
   dsimp only
   rw[if_neg (by omega),if_neg (by omega),if_pos rfl,head_has l3 l4 l1 l2 l5 (by rw[Nat.add_assoc];exact a3),thn]
   dsimp only
   rw[←trim_body (toks b) lit far 257 1]at a4⊢
   rw[toks_has (trim_cd lit 257 l3) (trim_cd far 1 l4) (by rw[trim_getD];exact l5) (fun t ht=>trim_fit lit far 257 1 t (l6 t ht)) (by simp only[Nat.add_assoc]at a4⊢;exact a4) hl,thn,last_beq]
   simp only[Nat.add_assoc]
theorem packK_succ (parts:List (List UInt8)) (kinds:List Nat) (i:Nat):packK parts kinds (i+1)=packK parts kinds i++oneS (packK parts kinds i).length (parts.getD i []) (kinds.getD i 0) (decide (i+1=parts.length)):=oneB_eq _ _ _ _
theorem packK_more (parts:List (List UInt8)) (kinds:List Nat) (i:Nat):∀ d,∃ t,packK parts kinds (i+d)=packK parts kinds i++t
 | 0=>⟨[],by simp⟩
 | d+1=>by
  obtain⟨t,ht⟩:=packK_more parts kinds i d
  exact⟨t++_,by rw[←Nat.add_assoc,packK_succ,ht,List.append_assoc]⟩
theorem oneS_long (n:Nat) (b:List UInt8) (kind:Nat) (last:Bool):1≤(oneS n b kind last).length:=by
 unfold oneS
 (repeat' split) <;> simp only[List.length_append,List.length_singleton] <;> omega
theorem packK_long (parts:List (List UInt8)) (kinds:List Nat):∀ i,i≤(packK parts kinds i).length
 | 0=>Nat.zero_le _
 | i+1=>by
  have h1:=packK_long parts kinds i
  have h2:=oneS_long (packK parts kinds i).length (parts.getD i []) (kinds.getD i 0) (decide (i+1=parts.length))
  rw[packK_succ,List.length_append];omega
theorem flat_take (parts:List (List UInt8)) (i:Nat) (h:i < parts.length):(parts.take (i+1)).flatten=(parts.take i).flatten++parts.getD i []:=by
 rw[List.take_succ_eq_append_getElem h,List.flatten_append,List.getD_eq_getElem?_getD,List.getElem?_eq_getElem h]
 simp
theorem flat_len (parts:List (List UInt8)):∀ i,(parts.take i).flatten.length≤parts.flatten.length:=fun i=>by
 have:parts.flatten=(parts.take i).flatten++(parts.drop i).flatten:=by rw[←List.flatten_append,List.take_append_drop]
 rw[this,List.length_append];omega
theorem blocks_has {row:List Bool} {parts:List (List UInt8)} {kinds:List Nat} (hr:Has row 0 (packK parts kinds parts.length)) (hk:kinds.length=parts.length) (hkk:∀ k∈kinds,k≤2) (hl:parts.flatten.length≤3000) :
  ∀ (m i fuel:Nat),i+m+1=parts.length→m < fuel→blocksR row fuel (packK parts kinds i).length (parts.take i).flatten (kinds.take i)=.ok ((packK parts kinds parts.length).length,parts.flatten,kinds)
 | m,i,0,_,hf=>absurd hf (by omega)
 | m,i,f+1,hi,hf=>by
  have hil:i < parts.length:=by omega
  have hik:i < kinds.length:=by omega
  obtain⟨t,ht⟩:=packK_more parts kinds (i+1) m
  rw[show i+1+m=parts.length by omega,packK_succ,List.append_assoc]at ht
  have hb:Has row (packK parts kinds i).length (oneS (packK parts kinds i).length (parts.getD i []) (kinds.getD i 0) (decide (i+1=parts.length))):=by
   rw[ht]at hr
   have:=hr.right.left
   rw[Nat.zero_add]at this
   exact this
  have hkind:kinds.getD i 0≤2:=by
   rw[List.getD_eq_getElem?_getD,List.getElem?_eq_getElem hik]
   exact hkk _ (List.getElem_mem hik)
  have hfl:=flat_take parts i hil
  have hfl2:=flat_len parts (i+1)
  rw[hfl,List.length_append]at hfl2
  have hB:=block_has (out:=(parts.take i).flatten) hb hkind (by omega)
  show (blockR row _ _).then_ _=_
  rw[hB,thn]
  dsimp only
  have hks:kinds.take i++[kinds.getD i 0]=kinds.take (i+1):=by
   rw[List.take_succ_eq_append_getElem hik,List.getD_eq_getElem?_getD,List.getElem?_eq_getElem hik];rfl
  have hp:(packK parts kinds i).length+(oneS (packK parts kinds i).length (parts.getD i []) (kinds.getD i 0) (decide (i+1=parts.length))).length=(packK parts kinds (i+1)).length:=by
   rw[packK_succ,List.length_append]
  rw[hp,hks,←hfl]
  by_cases hlast:i+1=parts.length
  ·rw[if_pos (by simpa using hlast),hlast,List.take_length,←hk,List.take_length]
  ·rw[if_neg (by simpa using hlast)]
   exact blocks_has hr hk hkk hl (m - 1) (i+1) f (by omega) (by omega)
theorem has_pack (l:List Bool) (more:List UInt8):Has (bitsL (pack l++more)) 0 l:=by
 refine⟨Nat.zero_le _,List.replicate (8*((l.length+7) / 8) - l.length) false++bitsL more,?_⟩
 rw[List.drop_zero,bitsL_append,bitsL_pack,List.append_assoc]
theorem unpack_pack (parts:List (List UInt8)) (kinds:List Nat) (more:List UInt8) (h0:parts≠[]) (hk:kinds.length=parts.length) (hkk:∀ k∈kinds,k≤2) (hl:parts.flatten.length≤3000) (h6:(packB parts kinds++more).length≤6000) :
  unpackR (packB parts kinds++more)=.ok (parts.flatten,(packB parts kinds).length,kinds):=by
 have hpos:0 < parts.length:=List.length_pos_iff.2 h0
 have hlong:=packK_long parts kinds parts.length
 have hlen:(packB parts kinds).length=((packK parts kinds parts.length).length+7) / 8:=pack_length _
 have hb:=blocks_has (has_pack (packK parts kinds parts.length) more) hk hkk hl (parts.length - 1) 0 (8*(packB parts kinds++more).length+1) (by omega) (by rw[List.length_append];omega)
 unfold unpackR
 rw[if_neg (by omega)]
 have e0:(packK parts kinds 0).length=0:=rfl
 rw[e0,List.take_zero,List.take_zero]at hb
 have hb':blocksR (bitsL (packB parts kinds++more)) (8*(packB parts kinds++more).length+1) 0 [] []=.ok ((packK parts kinds parts.length).length,parts.flatten,kinds):=hb
 rw[hb',thn]
 dsimp only
 rw[hlen]
end Go.Proofs.YtabdianhoabhhaaGreatDoor.Rt
namespace Go.Proofs.YtabdianhoabhhaaGreatDoor.Blk
open Go Go.RowKit Go.Proofs.YtabdianhoabhhaaGreatDoor Go.Proofs.YtabdianhoabhhaaGreatDoor.Bits Go.Proofs.YtabdianhoabhhaaGreatDoor.Code Go.Proofs.YtabdianhoabhhaaGreatDoor.Inf Go.Proofs.YtabdianhoabhhaaGreatDoor.Match Go.Proofs.YtabdianhoabhhaaGreatDoor.SP Go.Proofs.YtabdianhoabhhaaGreatDoor.Rt
set_option linter.unusedVariables false
set_option maxRecDepth 100000 in
set_option maxHeartbeats 1600000 in
theorem put1_any (base p g4 g8 g6 n c8 c6 k:Nat) (A8 A6:Option Addr) (lit:List Nat) (r:List Bool) (w:World) (hr:RowAt w base p r) (h4:w.cell? ⟨g4,0,none⟩=some (.pointer (some ⟨p,0,none⟩))) (h8:w.cell? ⟨g8,0,none⟩=some (.slice A8 n c8)) (h6:w.cell? ⟨g6,0,none⟩=some (.slice A6 n c6))
  (hC:KAt w 3 A8 ((codesL lit).map natV)) (hL:KAt w 3 A6 (lit.map natV)) (hn:lit.length=n) (hn2:n≤288) (hk:k < n) (hc:Cd lit) (hrl:r.length≤1000000000) :
  Calls Tryz.prog 198 #[.int .i64 (k:Int),.pointer (some ⟨g4,0,none⟩),.pointer (some ⟨g8,0,none⟩),.pointer (some ⟨g6,0,none⟩)] w fun e w'=>e=.returned (.tuple #[])∧RowAt w' base p (r++codeB lit k)∧Keeps base rowT w w':=by
 obtain⟨b8,o8,rfl,hc8⟩:=kat_cell hC (i:=k) (by unfold codesL;rw[List.length_map,List.length_range,hn];exact hk)
 obtain⟨b6,o6,rfl,hc6⟩:=kat_cell hL (i:=k) (by rw[hn];exact hk)
 rw[codesL_getD lit k (by rw[hn];exact hk)]at hc8
 have hcd:=codeOf_small lit k hc
 have hsz:=hc.bits (i:=k)
 have Hcb:Hid (codeB lit k=hi (lit.getD k 0) (codeOf lit k)):=Lib.hid rfl
 have HR:=Lib.hid hr
 have hk':(k:Int) < (n:Int):=by omega
 have hbs:=Lib.hid hr.1
 generalize codeOf lit k=cd at *
 generalize lit.getD k 0=sz at *
 clear hr hC hL hn hc
 go_enter Tryz.func198,Tryz.ntmps198
 go_wp2_with fail
 go_still_tail 9,(by kernel_rfl)
 change wpList _ _ _ _ _ w.drew
 have HRow:Hid (RowAt w.drew base p r):=HR
 have HKd:=Lib.hid ((Keeps.refl base rowT w).drew)
 clear h4 h8 h6 hc8 hc6 HR
 have HP:=Lib.hid (code_any base p cd sz r w.drew HRow.out (by omega) (by omega) (by omega))
 rw[←Hcb.out]at HP
 generalize w.drew=wd at *
 go_wp2_with fail
 refine (HP.out).mono ?_
 rintro e w2 ⟨rfl,hrow,hkp⟩
 have HRow2:=Lib.hid hrow
 have HK2:=Lib.hid (HKd.out.trans hkp)
 clear hrow hkp HP HRow HKd
 go_wp2_with fail
 go_end0
 exact⟨rfl,HRow2.out,HK2.out⟩
theorem ex_cell {w:World} {A:Option Addr} {l:List (Nat×Nat)} (h:KAt w 259 A (l.flatMap exC)) {i:Nat} (hi:i < l.length) :
  ∃ b o,A=some ⟨b,o,none⟩∧w.cell? ⟨b,o+i*2,none⟩=some (.int .i64 ((l.getD i (0,0)).1:Int))∧w.cell? ⟨b,o+i*2+1,none⟩=some (.int .i64 ((l.getD i (0,0)).2:Int)):=by
 obtain⟨b,o,e,hc⟩:=slat_elem (size:=2) (fun _=>rfl) (by omega) h.slat hi
 have h0:=hc 0 _ rfl
 have h1:=hc 1 _ rfl
 have eg:l.getD i (0,0)=l[i]:=by rw[List.getD_eq_getElem?_getD,List.getElem?_eq_getElem hi];rfl
 rw[eg]
 exact⟨b,o,e,h0,h1⟩
def TokS (t:Tok):Prop:=t.2.1=0∨∃ s f:Nat,t.2.1=(s:Int)∧t.2.2=(f:Int)∧3≤s∧s≤258∧1≤f∧f≤3000
theorem tokB_len (lit far:List Nat) (t:Tok) (hc:Cd lit) (hd:Cd far):(tokB lit far t).length≤48:=by
 unfold tokB
 split
 ·rw[codeB_length];have:=hc.bits (i:=t.1.toNat);omega
 ·simp only[List.length_append,codeB_length,numBits_length]
  have h1:=hc.bits (i:=257+symS sameL t.2.1.toNat)
  have h2:=hd.bits (i:=symS farL t.2.2.toNat)
  have h3:∀ k,(sameL.getD k (0,0)).2≤5:=fun k=>by
   rcases Nat.lt_or_ge k 29 with h | h
   ·exact (by decide:∀ k < 29,(sameL.getD k (0,0)).2≤5) k h
   ·rw[List.getD_eq_getElem?_getD,List.getElem?_eq_none (show sameL.length≤k from h)];exact Nat.zero_le _
  have h4:∀ k,(farL.getD k (0,0)).2≤13:=fun k=>by
   rcases Nat.lt_or_ge k 30 with h | h
   ·exact (by decide:∀ k < 30,(farL.getD k (0,0)).2≤13) k h
   ·rw[List.getD_eq_getElem?_getD,List.getElem?_eq_none (show farL.length≤k from h)];exact Nat.zero_le _
  have:=h3 (symS sameL t.2.1.toNat)
  have:=h4 (symS farL t.2.2.toNat)
  omega
set_option maxRecDepth 100000 in
set_option maxHeartbeats 8000000 in
theorem body_any (base p:Nat) (r:List Bool) (At:Option Addr) (mt ct:Nat) (l:List Tok) (A:Option Addr) (n ca:Nat) (lit:List Nat) (B:Option Addr) (m cb:Nat) (far:List Nat) (w:World) (hr:RowAt w base p r)
  (hT:KAt w 244 At (l.flatMap tokD)) (hA:KAt w 3 A (lit.map natV)) (hB:KAt w 3 B (far.map natV))
  (lt:l.length=mt) (hmt:mt≤3000) (l1:lit.length=n) (l2:far.length=m) (hn:n≤288) (hn0:286≤n) (hm:m≤32) (hm0:30≤m) (c1:Cd lit) (c2:Cd far) (hts:∀ t∈l,TokS t) (hrl:r.length≤100000000) :
  Calls Tryz.prog 159 #[.pointer (some ⟨p,0,none⟩),.slice At mt ct,.slice A n ca,.slice B m cb] w fun e w'=>e=.returned (.tuple #[])∧RowAt w' base p (r++bodyB l lit far)∧Keeps base rowT w w':=by
 have HR:=Lib.hid hr
 have HT:=Lib.hid hT
 have HA:=Lib.hid hA
 have HB:=Lib.hid hB
 have LT:=Lib.hid lt
 have L1:=Lib.hid l1
 have L2:=Lib.hid l2
 have C1:=Lib.hid c1
 have C2:=Lib.hid c2
 have HTS:=Lib.hid hts
 have hbw:base≤w.heap.size:=Nat.le_trans hr.1 (Nat.le_of_lt hr.lt)
 clear hr hT hA hB lt l1 l2 c1 c2 hts
 -- the boxes
 have Hb1:=Lib.hid (((Below.refl w.heap.size w).alloc (Nat.le_refl _) (.cells #[.pointer (some ⟨p,0,none⟩)] 166)).alloc (by simp) (.cells #[.slice A n ca] 89))
 have Hg4:Hid (Blk ((w.alloc (.cells #[.pointer (some ⟨p,0,none⟩)] 166)).alloc (.cells #[.slice A n ca] 89)) w.heap.size 166 #[.pointer (some ⟨p,0,none⟩)]):=Lib.hid ((Blk.new w _ _).alloc _)
 have Hg6:Hid (Blk ((w.alloc (.cells #[.pointer (some ⟨p,0,none⟩)] 166)).alloc (.cells #[.slice A n ca] 89)) (w.heap.size+1) 89 #[.slice A n ca]):=Lib.hid (by
  have:=Blk.new (w.alloc (.cells #[.pointer (some ⟨p,0,none⟩)] 166)) 89 #[.slice A n ca]
  rw[World.size_alloc]at this;exact this)
 have HC1:=Lib.hid (ccodes_any A n ca lit ((w.alloc (.cells #[.pointer (some ⟨p,0,none⟩)] 166)).alloc (.cells #[.slice A n ca] 89)) L1.out hn (HA.out.below Hb1.out).slat C1.out)
 go_enter Tryz.func159,Tryz.ntmps159
 go_wp2_with fail
 refine (HC1.out).mono ?_
 rintro e w1 ⟨⟨gl,rfl,hgl,hBl⟩,hb1⟩
 have Hg4':=Lib.hid (Hg4.out.below hb1 Hg4.out.lt)
 have Hg6':=Lib.hid (Hg6.out.below hb1 Hg6.out.lt)
 have Hb2:=Lib.hid (Hb1.out.trans (hb1.mono Hb1.out.size))
 have HGl:=Lib.hid (nats_kat hBl)
 clear HC1 hBl hb1 Hg4 Hg6 Hb1 hgl
 -- the box of the codes
 have hba:Below w1.heap.size w1 (w1.alloc (.cells #[.slice (some ⟨gl,0,none⟩) n n] 89)):=(Below.refl _ _).alloc (Nat.le_refl _) _
 have Hg8:Hid (Blk (w1.alloc (.cells #[.slice (some ⟨gl,0,none⟩) n n] 89)) w1.heap.size 89 #[.slice (some ⟨gl,0,none⟩) n n]):=Lib.hid (Blk.new _ _ _)
 have Hg4:=Lib.hid (Hg4'.out.below hba Hg4'.out.lt)
 have Hg6:=Lib.hid (Hg6'.out.below hba Hg6'.out.lt)
 have Hb3:=Lib.hid (Hb2.out.trans (hba.mono Hb2.out.size))
 have HGl2:=Lib.hid (HGl.out.below hba)
 have HC2:=Lib.hid (ccodes_any B m cb far (w1.alloc (.cells #[.slice (some ⟨gl,0,none⟩) n n] 89)) L2.out (by omega) (HB.out.below Hb3.out).slat C2.out)
 clear hba Hb2 Hg4' Hg6' HGl
 go_wp2_with fail
 refine (HC2.out).mono ?_
 rintro e w2 ⟨⟨gf,rfl,hgf,hBf⟩,hb2⟩
 have Hg4':=Lib.hid (Hg4.out.below hb2 Hg4.out.lt)
 have Hg6':=Lib.hid (Hg6.out.below hb2 Hg6.out.lt)
 have Hg8':=Lib.hid (Hg8.out.below hb2 Hg8.out.lt)
 have HGl:=Lib.hid (HGl2.out.below hb2)
 have HGf:=Lib.hid (nats_kat hBf)
 have Hb4:=Lib.hid (Hb3.out.trans (hb2.mono Hb3.out.size))
 clear HC2 hBf hb2 Hg4 Hg6 Hg8 Hb3 HGl2 hgf
 go_wp2_with fail
 refine (sames_any _).mono ?_
 rintro e w3 ⟨A3,c3,rfl,ho3,hb3⟩
 have Hg4:=Lib.hid (Hg4'.out.below hb3 Hg4'.out.lt)
 have Hg6:=Lib.hid (Hg6'.out.below hb3 Hg6'.out.lt)
 have Hg8:=Lib.hid (Hg8'.out.below hb3 Hg8'.out.lt)
 have HGl2:=Lib.hid (HGl.out.below hb3)
 have HGf2:=Lib.hid (HGf.out.below hb3)
 have Hb5:=Lib.hid (Hb4.out.trans (hb3.mono Hb4.out.size))
 have HS3:Hid (KAt w3 259 A3 (sameL.flatMap exC)):=Lib.hid (by obtain⟨A,c,e,_,_,h,_⟩:=own_kat ho3;injection e with e;subst e;exact h)
 clear hb3 ho3 Hg4' Hg6' Hg8' Hb4 HGl HGf
 go_wp2_with fail
 refine (fars_any _).mono ?_
 rintro e w4 ⟨A4,c4,rfl,ho4,hb4⟩
 have Hg4':=Lib.hid (Hg4.out.below hb4 Hg4.out.lt)
 have Hg6':=Lib.hid (Hg6.out.below hb4 Hg6.out.lt)
 have Hg8':=Lib.hid (Hg8.out.below hb4 Hg8.out.lt)
 have HGl:=Lib.hid (HGl2.out.below hb4)
 have HGf:=Lib.hid (HGf2.out.below hb4)
 have Hb6:=Lib.hid (Hb5.out.trans (hb4.mono Hb5.out.size))
 have HSa:=Lib.hid (HS3.out.below hb4)
 have HFa:Hid (KAt w4 259 A4 (farL.flatMap exC)):=Lib.hid (by obtain⟨A,c,e,_,_,h,_⟩:=own_kat ho4;injection e with e;subst e;exact h)
 have HRow0:=Lib.hid (HR.out.below Hb6.out)
 have HT4:=Lib.hid (HT.out.below Hb6.out)
 have HA4:=Lib.hid (HA.out.below Hb6.out)
 have HB4:=Lib.hid (HB.out.below Hb6.out)
 have HK4:=Lib.hid (Keeps.of_below (T:=rowT) Hb6.out hbw)
 clear hb4 ho4 Hg4 Hg6 Hg8 HGl2 HGf2 Hb5 Hb6 HS3 HR HT HA HB
 generalize hq4:w.heap.size=g4 at *
 generalize hq6:g4+1=g6 at *
 generalize w1.heap.size=g8 at *
 clear hq4 hq6
 go_wp2_with fail
 go_loopw [34] (fun i wr=>∃ k:Nat,k≤mt∧i=.int .i64 (k:Int)∧RowAt wr base p (r++(l.take k).flatMap (tokB lit far))∧Keeps base rowT w4 wr) (fun i _=>mt - (intOf i).toNat)
 case atStart=>exact⟨0,Nat.zero_le _,rfl,by rw[List.take_zero,List.flatMap_nil,List.append_nil];exact HRow0.out,Keeps.refl _ _ _⟩
 case round=>
  clear HRow0
  obtain⟨k,hk,rfl,hrow,hkp⟩:=hrel
  have HRow:=Lib.hid hrow
  have HKp:=Lib.hid hkp
  have Hg4:=Lib.hid (hkp.blk Hg4'.out (by decide))
  have Hg6:=Lib.hid (hkp.blk Hg6'.out (by decide))
  have Hg8:=Lib.hid (hkp.blk Hg8'.out (by decide))
  have hfl:=flat_le (tokB lit far) 48 (l.take k) (fun x hx=>tokB_len lit far x C1.out C2.out)
  have htl:(l.take k).length≤k:=by simp;omega
  have hrl2:(r++(l.take k).flatMap (tokB lit far)).length≤100200000:=by rw[List.length_append];omega
  clear hrow hkp hfl htl
  by_cases hlt:k < mt
  ·have hkl:k < l.length:=by rw[LT.out];exact hlt
   have HTk:=Lib.hid (HT4.out.keeps HKp.out (by decide))
   obtain⟨bt,ot,rfl,hc⟩:=slat_elem (size:=3) (fun _=>rfl) (by omega) HTk.out.slat hkl
   have hc0:=hc 0 _ rfl
   have hc1:=hc 1 _ rfl
   have hc2:=hc 2 _ rfl
   simp only[Nat.add_zero]at hc0
   have hts:=HTS.out _ (List.getElem_mem hkl)
   have Htk:Hid ((l.take (k+1)).flatMap (tokB lit far)=(l.take k).flatMap (tokB lit far)++tokB lit far l[k]):=Lib.hid (by
    rw[take_snoc l k hkl,List.flatMap_append];simp)
   clear hc HTk
   generalize l[k]=t at *
   obtain⟨x,s,f⟩:=t
   have hx8:=n8_bd x
   unfold TokS at hts
   dsimp only at hc0 hc1 hc2 hts
   simp only[u8v,iv]at hc0 hc1 hc2
   obtain⟨q,hq⟩:∃ q:Nat,(q:Int)=n8 x:=⟨x.toNat,rfl⟩
   have Hq:Hid (x.toNat=q):=Lib.hid (by unfold n8 at hq;omega)
   rw[←hq]at hc0 hx8
   clear hq
   generalize hr0:r++(l.take k).flatMap (tokB lit far)=rr at *
   have Hr0:=Lib.hid hr0
   clear hr0
   have hbr:base≤wr.heap.size:=Nat.le_trans HRow.out.1 (Nat.le_of_lt HRow.out.lt)
   by_cases hs:s=0
   ·subst hs
    have Htb:Hid (tokB lit far (x,0,f)=codeB lit q):=Lib.hid (by unfold tokB;rw[if_pos rfl,Hq.out])
    rw[Htb.out]at Htk
    have hba:Below wr.heap.size wr (wr.alloc (.cells #[.int .u8 (q:Int),.int .i64 0,.int .i64 f] 244)):=(Below.refl _ _).alloc (Nat.le_refl _) _
    have HKpA:=Lib.hid (HKp.out.trans (Keeps.of_below hba hbr))
    have hconv:IntKind.i64.wrap (q:Int)=(q:Int):=IntWalk.i64_in _ (by omega)
    have HP:=Lib.hid (put1_any base p g4 g8 g6 n n ca q _ _ lit rr (wr.alloc (.cells #[.int .u8 (q:Int),.int .i64 0,.int .i64 f] 244)) (HRow.out.below hba) (by rw[(Hg4.out.below hba Hg4.out.lt).cell];rfl) (by rw[(Hg8.out.below hba Hg8.out.lt).cell];rfl) (by rw[(Hg6.out.below hba Hg6.out.lt).cell];rfl)
     (HGl.out.keeps HKpA.out (by decide)) (HA4.out.keeps HKpA.out (by decide)) L1.out hn (by omega) C1.out (by omega))
    clear hts hba
    go_wp2_with fail
    refine (HP.out).mono ?_
    rintro e w6 ⟨rfl,hrow,hkp⟩
    have HRow6:=Lib.hid hrow
    have HK6:=Lib.hid (HKpA.out.trans hkp)
    clear hrow hkp HP HRow HKp HKpA
    go_wp2_with fail
    go_roundw
    case rel=>exact⟨k+1,by omega,by go_num,by rw[Htk.out,←List.append_assoc,Hr0.out];exact HRow6.out,HK6.out⟩
    case measure=>simp[intOf];omega
   ·obtain⟨s',f',rfl,rfl,hs3,hs258,hf1,hf3⟩:=hts.resolve_left hs
    have hs1:((s':Int) == 0)=false:=by rw[beq_eq_false_iff_ne];omega
    obtain⟨j1,hj1⟩:∃ j,j=symS sameL s':=⟨_,rfl⟩
    obtain⟨j2,hj2⟩:∃ j,j=symS farL f':=⟨_,rfl⟩
    have hl1:j1 < 29:=by rw[hj1];exact symS_lt sameL _ (by decide)
    have hl2:j2 < 30:=by rw[hj2];exact symS_lt farL _ (by decide)
    have hge1:(sameL.getD j1 (0,0)).1≤s':=by rw[hj1];exact symS_le sameL s' (by decide) hs3
    have hge2:(farL.getD j2 (0,0)).1≤f':=by rw[hj2];exact symS_le farL f' (by decide) hf1
    have hb5:(sameL.getD j1 (0,0)).2≤5:=(by decide:∀ k < 29,(sameL.getD k (0,0)).2≤5) j1 hl1
    have hb13:(farL.getD j2 (0,0)).2≤13:=(by decide:∀ k < 30,(farL.getD k (0,0)).2≤13) j2 hl2
    have Htb:Hid (rr++tokB lit far (x,(s':Int),(f':Int))=rr++codeB lit (257+j1)++numBits (s' - (sameL.getD j1 (0,0)).1) (sameL.getD j1 (0,0)).2++codeB far j2++numBits (f' - (farL.getD j2 (0,0)).1) (farL.getD j2 (0,0)).2):=Lib.hid (by
     unfold tokB
     rw[if_neg (by dsimp only;omega)]
     dsimp only
     rw[Int.toNat_natCast,Int.toNat_natCast,←hj1,←hj2]
     simp only[List.append_assoc])
    have hba:Below wr.heap.size wr (wr.alloc (.cells #[.int .u8 (q:Int),.int .i64 (s':Int),.int .i64 (f':Int)] 244)):=(Below.refl _ _).alloc (Nat.le_refl _) _
    have HKpA:=Lib.hid (HKp.out.trans (Keeps.of_below hba hbr))
    have Hn:=Lib.hid (Blk.new wr 244 #[.int .u8 (q:Int),.int .i64 (s':Int),.int .i64 (f':Int)])
    have Hr4:=Lib.hid (HRow.out.below hba)
    have Hs1:=Lib.hid (symbol_any A3 29 c3 sameL s' (wr.alloc (.cells #[.int .u8 (q:Int),.int .i64 (s':Int),.int .i64 (f':Int)] 244)) rfl (by omega) (HSa.out.keeps HKpA.out (by decide)).slat)
    rw[←hj1]at Hs1
    have Hj2:=Lib.hid hj2
    clear hts hba hj1 hj2 hs HRow HKp Hg4 Hg6 Hg8
    go_wp2_with fail
    refine (Hs1.out).mono ?_
    rintro e w5 ⟨rfl,hb⟩
    have Hr5:=Lib.hid (Hr4.out.below hb)
    have HK5:=Lib.hid (HKpA.out.trans (Keeps.of_below hb (Nat.le_trans hbr (by simp))))
    have Hn5:=Lib.hid (Hn.out.below hb Hn.out.lt)
    clear hb Hs1 Hr4 HKpA Hn hc0 hc1 hc2
    generalize wr.heap.size=gt at *
    have hsum:IntKind.i64.wrap (257+(j1:Int))=((257+j1:Nat):Int):=IntWalk.i64_in _ (by omega)
    have HP:=Lib.hid (put1_any base p g4 g8 g6 n n ca (257+j1) _ _ lit rr w5 Hr5.out (by rw[(HK5.out.blk Hg4'.out (by decide)).cell];rfl) (by rw[(HK5.out.blk Hg8'.out (by decide)).cell];rfl) (by rw[(HK5.out.blk Hg6'.out (by decide)).cell];rfl)
     (HGl.out.keeps HK5.out (by decide)) (HA4.out.keeps HK5.out (by decide)) L1.out hn (by omega) C1.out (by omega))
    have hcl:(codeB lit (257+j1)).length≤15:=by rw[codeB_length];exact C1.out.bits
    have hcf:(codeB far j2).length≤15:=by rw[codeB_length];exact C2.out.bits
    obtain⟨rr1,hrr1⟩:∃ z,z=rr++codeB lit (257+j1):=⟨_,rfl⟩
    have hl1':rr1.length≤100200100:=by rw[hrr1,List.length_append];omega
    rw[←hrr1]at HP Htb
    generalize hrx:257+j1=rx at *
    clear hrx hrr1 hcl
    go_wp2_with fail
    refine (HP.out).mono ?_
    rintro e w6 ⟨rfl,hrow,hkp⟩
    have Hr6:=Lib.hid hrow
    have HK6:=Lib.hid (HK5.out.trans hkp)
    have Hn6:=Lib.hid (hkp.blk Hn5.out (by decide))
    clear hrow hkp HP Hr5 HK5 Hn5 hsum
    -- how many more
    obtain⟨b3,o3,rfl,hd0,hd1⟩:=ex_cell (HSa.out.keeps HK6.out (by decide)) (i:=j1) (show j1 < 29 from hl1)
    have h4:w6.cell? ⟨g4,0,none⟩=some (.pointer (some ⟨p,0,none⟩)):=by rw[(HK6.out.blk Hg4'.out (by decide)).cell];rfl
    have hn1:w6.cell? ⟨gt,1,none⟩=some (.int .i64 (s':Int)):=by rw[Hn6.out.cell];rfl
    generalize (sameL.getD j1 (0,0)).1=fr1 at *
    generalize (sameL.getD j1 (0,0)).2=bi1 at *
    obtain⟨d1,hd1e⟩:∃ d,d=s' - fr1:=⟨_,rfl⟩
    have hsub1:IntKind.i64.wrap ((s':Int) - (fr1:Int))=(d1:Int):=by rw[show (s':Int) - (fr1:Int)=(d1:Int) by omega];exact IntWalk.i64_in _ (by omega)
    have hd1s:d1≤258:=by omega
    rw[←hd1e]at Htb
    have hl1i:(j1:Int) < 29:=by omega
    clear hd1e hge1
    go_wp2_with fail
    go_still_tail 14,(by kernel_rfl)
    change wpList _ _ _ _ _ w6.drew
    have Hr7:Hid (RowAt w6.drew base p rr1):=Hr6
    have HK7:=Lib.hid (HK6.out.drew)
    have Hn7:Hid (Blk w6.drew gt 244 #[.int .u8 (q:Int),.int .i64 (s':Int),.int .i64 (f':Int)]):=Hn6
    clear Hr6 HK6 Hn6 hd0 hd1 h4 hn1
    generalize w6.drew=w7 at *
    have HP:=Lib.hid (put_any base p d1 bi1 rr1 w7 Hr7.out (by omega) (by omega) (by omega))
    obtain⟨rr2,hrr2⟩:∃ z,z=rr1++numBits d1 bi1:=⟨_,rfl⟩
    have hl2':rr2.length≤100200200:=by rw[hrr2,List.length_append,numBits_length];omega
    rw[←hrr2]at HP Htb
    clear hrr2
    go_wp2_with fail
    refine (HP.out).mono ?_
    rintro e w8 ⟨rfl,hrow,hkp⟩
    have Hr8:=Lib.hid hrow
    have HK8:=Lib.hid (HK7.out.trans hkp)
    have Hn8:=Lib.hid (hkp.blk Hn7.out (by decide))
    clear hrow hkp HP Hr7 HK7 Hn7 hsub1
    -- which of how far
    have hn2:w8.cell? ⟨gt,2,none⟩=some (.int .i64 (f':Int)):=by rw[Hn8.out.cell];rfl
    have Hs2:=Lib.hid (symbol_any A4 30 c4 farL f' w8 rfl (by omega) (HFa.out.keeps HK8.out (by decide)).slat)
    rw[←Hj2.out]at Hs2
    go_wp2_with fail
    refine (Hs2.out).mono ?_
    rintro e w9 ⟨rfl,hb⟩
    have Hr9:=Lib.hid (Hr8.out.below hb)
    have HK9:=Lib.hid (HK8.out.trans (Keeps.of_below hb (Nat.le_trans Hr8.out.1 (Nat.le_of_lt Hr8.out.lt))))
    have Hn9:=Lib.hid (Hn8.out.below hb Hn8.out.lt)
    clear hb Hs2 Hr8 HK8 Hn8 hn2
    obtain⟨bF,oF,rfl,hcF⟩:=kat_cell (HB4.out.keeps HK9.out (by decide)) (i:=j2) (by rw[L2.out];omega)
    obtain⟨bG,oG,hAG,hcG⟩:=kat_cell (HGf.out.keeps HK9.out (by decide)) (i:=j2) (by unfold codesL;rw[List.length_map,List.length_range,L2.out];omega)
    injection hAG with hAG;injection hAG with e1 e2 e3;subst e1 e2
    rw[codesL_getD far j2 (by rw[L2.out];omega)]at hcG
    have hcd:=codeOf_small far j2 C2.out
    have hsz:=C2.out.bits (i:=j2)
    have Hcb:Hid (codeB far j2=hi (far.getD j2 0) (codeOf far j2)):=Lib.hid rfl
    have h4:w9.cell? ⟨g4,0,none⟩=some (.pointer (some ⟨p,0,none⟩)):=by rw[(HK9.out.blk Hg4'.out (by decide)).cell];rfl
    generalize codeOf far j2=cd at *
    generalize far.getD j2 0=sz at *
    simp only[Nat.zero_add]at hcG
    have hl2m:j2 < m:=by omega
    have hl2i:(j2:Int) < (m:Int):=by omega
    go_wp2_with fail
    go_still_tail 9,(by kernel_rfl)
    change wpList _ _ _ _ _ w9.drew
    have Hr10:Hid (RowAt w9.drew base p rr2):=Hr9
    have HK10:=Lib.hid (HK9.out.drew)
    have Hn10:Hid (Blk w9.drew gt 244 #[.int .u8 (q:Int),.int .i64 (s':Int),.int .i64 (f':Int)]):=Hn9
    clear Hr9 HK9 Hn9 hcF hcG h4
    generalize w9.drew=w10 at *
    have HP:=Lib.hid (code_any base p cd sz rr2 w10 Hr10.out (by omega) (by omega) (by omega))
    rw[←Hcb.out]at HP
    obtain⟨rr3,hrr3⟩:∃ z,z=rr2++codeB far j2:=⟨_,rfl⟩
    have hl3':rr3.length≤100200300:=by rw[hrr3,List.length_append];omega
    rw[←hrr3]at HP Htb
    clear hrr3 Hcb hcf
    go_wp2_with fail
    refine (HP.out).mono ?_
    rintro e w11 ⟨rfl,hrow,hkp⟩
    have Hr11:=Lib.hid hrow
    have HK11:=Lib.hid (HK10.out.trans hkp)
    have Hn11:=Lib.hid (hkp.blk Hn10.out (by decide))
    clear hrow hkp HP Hr10 HK10 Hn10
    -- how far more
    obtain⟨b5,o5,rfl,hd0,hd1⟩:=ex_cell (HFa.out.keeps HK11.out (by decide)) (i:=j2) (show j2 < 30 from hl2)
    have h4:w11.cell? ⟨g4,0,none⟩=some (.pointer (some ⟨p,0,none⟩)):=by rw[(HK11.out.blk Hg4'.out (by decide)).cell];rfl
    have hn2:w11.cell? ⟨gt,2,none⟩=some (.int .i64 (f':Int)):=by rw[Hn11.out.cell];rfl
    generalize (farL.getD j2 (0,0)).1=fr2 at *
    generalize (farL.getD j2 (0,0)).2=bi2 at *
    obtain⟨d2,hd2e⟩:∃ d,d=f' - fr2:=⟨_,rfl⟩
    have hsub2:IntKind.i64.wrap ((f':Int) - (fr2:Int))=(d2:Int):=by rw[show (f':Int) - (fr2:Int)=(d2:Int) by omega];exact IntWalk.i64_in _ (by omega)
    have hd2s:d2≤3000:=by omega
    rw[←hd2e]at Htb
    have hl2j:(j2:Int) < 30:=by omega
    clear hd2e hge2
    go_wp2_with fail
    go_still_tail 14,(by kernel_rfl)
    change wpList _ _ _ _ _ w11.drew
    have Hr12:Hid (RowAt w11.drew base p rr3):=Hr11
    have HK12:=Lib.hid (HK11.out.drew)
    clear Hr11 HK11 Hn11 hd0 hd1 h4 hn2
    generalize w11.drew=w12 at *
    have HP:=Lib.hid (put_any base p d2 bi2 rr3 w12 Hr12.out (by omega) (by omega) (by omega))
    rw[←Htb.out]at HP
    go_wp2_with fail
    refine (HP.out).mono ?_
    rintro e w13 ⟨rfl,hrow,hkp⟩
    have Hr13:=Lib.hid hrow
    have HK13:=Lib.hid (HK12.out.trans hkp)
    clear hrow hkp HP Hr12 HK12 hsub2
    go_wp2_with fail
    go_roundw
    case rel=>exact⟨k+1,by omega,by go_num,by rw[Htk.out,←List.append_assoc,Hr0.out];exact Hr13.out,HK13.out⟩
    case measure=>simp[intOf];omega
  ·obtain rfl:mt=k:=by omega
   have Hal:Hid (l.take mt=l):=Lib.hid (List.take_of_length_le (by rw[LT.out];exact Nat.le_refl _))
   rw[Hal.out]at HRow hrl2
   have HP:=Lib.hid (put1_any base p g4 g8 g6 n n ca 256 _ _ lit _ wr HRow.out (by rw[Hg4.out.cell];rfl) (by rw[Hg8.out.cell];rfl) (by rw[Hg6.out.cell];rfl)
     (HGl.out.keeps HKp.out (by decide)) (HA4.out.keeps HKp.out (by decide)) L1.out hn (by omega) C1.out (by omega))
   go_wp2_with fail
   refine (HP.out).mono ?_
   rintro e w6 ⟨rfl,hrow,hkp⟩
   have HRow6:=Lib.hid hrow
   have HK6:=Lib.hid (HK4.out.trans (HKp.out.trans hkp))
   clear hrow hkp HP HRow HKp
   go_wp2_with fail
   go_end0
   exact⟨rfl,by have:=HRow6.out;rw[List.append_assoc]at this;exact this,HK6.out⟩
end Go.Proofs.YtabdianhoabhhaaGreatDoor.Blk
namespace Go.Proofs.YtabdianhoabhhaaGreatDoor.Match
open Go Go.RowKit Go.Proofs.YtabdianhoabhhaaGreatDoor Go.MapKept
open Go.ChangeMaps (setBlock heap_setBlock_same heap_setBlock_other)
open Go.WideMaps (KeyLaw)
set_option linter.unusedVariables false
abbrev Tri:=UInt8×UInt8×UInt8
def kv (t:Tri):Value:=.agg #[u8v t.1,u8v t.2.1,u8v t.2.2]
theorem kv_inj {s t:Tri} (h:kv s=kv t):s=t:=by
 obtain⟨a,b,c⟩:=s
 obtain⟨a',b',c'⟩:=t
 simp only[kv,u8v,Value.agg.injEq,Array.mk.injEq,List.cons.injEq,Value.int.injEq,true_and,and_true]at h
 obtain⟨h1,h2,h3⟩:=h
 rw[n8_inj h1,n8_inj h2,n8_inj h3]
theorem lawK:KeyLaw Tryz.prog 287:=deep_law_laid (m:=2) (by kernel_rfl) (by omega) (of_decide_eq_true (by kernel_rfl)) (by kernel_rfl) (by kernel_rfl)
theorem kv_cells (t:Tri):(kv t).cells.toList=[u8v t.1,u8v t.2.1,u8v t.2.2]:=by simp[kv,Value.cells]
theorem u8_lit (x:UInt8) (d:Nat):Tryz.prog.keyLits (d+1) 5 [u8v x]=some [.int .u8 (n8 x)]:=by
 have hx:=n8_bd x
 have hw:(Lit.int .u8 (n8 x)).wf=true:=by simp[Lit.wf,IntKind.min,IntKind.max,IntKind.signed,IntKind.bits];omega
 simp[Program.keyLits,Tryz.underlying5,u8v,hw]
theorem tri_lits (t:Tri) (d:Nat):Tryz.prog.keyLits (d+2) 287 [u8v t.1,u8v t.2.1,u8v t.2.2]=some [.int .u8 (n8 t.1),.int .u8 (n8 t.2.1),.int .u8 (n8 t.2.2)]:=by
 have e1:Tryz.prog.cellsOf 287=3:=by kernel_rfl
 have e2:Tryz.prog.cellsOf 5=1:=by kernel_rfl
 rw[Program.keyLits.eq_def]
 simp only[Tryz.underlying287,e1,e2]
 rw[show List.range 3=[0,1,2] from rfl]
 simp[u8_lit]
theorem tri_types:∃ d,Tryz.prog.types.size+1=d+2:=by
 have:1≤Tryz.prog.types.size:=of_decide_eq_true (by kernel_rfl)
 exact⟨Tryz.prog.types.size - 1,by omega⟩
theorem kv_key (t:Tri):∃ kl,keyOf Tryz.prog 287 (kv t)=some kl:=by
 have h1:Tryz.prog.keyType 287=true:=by kernel_rfl
 have h2:(kv t).formed Tryz.prog 287=true:=by
  have:Tryz.prog.cellsOf 287=3:=by kernel_rfl
  simp[kv,Value.formed,Tryz.underlying287,this]
 obtain⟨d,hd⟩:=tri_types
 have h3:=tri_lits t d
 rw[←hd,←kv_cells]at h3
 refine⟨.string (keyBytes [.int .u8 (n8 t.1),.int .u8 (n8 t.2.1),.int .u8 (n8 t.2.2)]),?_⟩
 rw[keyOf,Tryz.underlying287]
 show (if (Tryz.prog.keyType 287 && (kv t).formed Tryz.prog 287)=true then _ else _)=_
 rw[h1,h2,h3]
 rfl
def natV (n:Nat):Value:=.int .i64 (n:Int)
theorem tyI:SliceTy Tryz.prog 89 3 (.int .i64 0) 1 8:=⟨Tryz.underlying89,by kernel_rfl,rfl,by omega⟩
def GAt (w:World) (base b:Nat) (F:Tri→List Nat):Prop:=
 base≤b∧∃ es clock,w.heap[b]?=some (.map es clock)∧Stamped es clock∧(∀ x∈es.toList,∃ t,x.key=kv t∧w.ownsRow base 3 1 x.val (F t).length ((F t).map natV))∧
  (∀ t,(∀ x∈es.toList,x.key≠kv t)→F t=[])∧(∀ x∈es.toList,∀ y∈es.toList,x.key≠y.key→x.val.ownBlock=none∨x.val.ownBlock≠y.val.ownBlock)
theorem GAt.lt {w:World} {base b:Nat} {F:Tri→List Nat} (h:GAt w base b F):b < w.heap.size:=by
 obtain⟨_,es,clock,hb,_⟩:=h
 exact (Array.getElem?_eq_some_iff.1 hb).1
theorem GAt.made (w:World) {base:Nat} (hb:base≤w.heap.size):GAt (w.alloc (.map #[] 0)) base w.heap.size (fun _=>[]):=
 ⟨hb,#[],0,heap_alloc_new w _,⟨by simp,by simp,by simp⟩,by simp,fun _ _=>rfl,by simp⟩
theorem GAt.keep {w w':World} {base b:Nat} {F:Tri→List Nat} (h:GAt w base b F) (hk:∀ (k:Nat) (o:Obj),w.heap[k]?=some o→(∀ cs t fr,o=Obj.cells cs t fr→t=3)→w'.heap[k]?=some o):GAt w' base b F:=by
 obtain⟨h0,es,clock,hb,hs,h1,h2,h3⟩:=h
 refine⟨h0,es,clock,hk _ _ hb (fun cs t fr e=>by cases e),hs,fun x hx=>?_,h2,h3⟩
 obtain⟨t,ht,hl,ho⟩:=h1 x hx
 refine⟨t,ht,hl,?_⟩
 rcases ho with ho | ⟨g,cap,cur,e1,e2,e3,e4⟩
 ·exact Or.inl ho
 ·exact Or.inr ⟨g,cap,cur,e1,e2,hk _ _ e3 (fun cs t fr e=>by cases e;rfl),e4⟩
theorem GAt.below {w w':World} {base b:Nat} {F:Tri→List Nat} (h:GAt w base b F) (hb:Below w.heap.size w w'):GAt w' base b F:=
 h.keep fun k o ho _=>by rw[hb.block k (Array.getElem?_eq_some_iff.1 ho).1];exact ho
theorem GAt.alloc {w:World} {base b:Nat} {F:Tri→List Nat} (h:GAt w base b F) (o:Obj):GAt (w.alloc o) base b F:=h.below ((Below.refl _ _).alloc (Nat.le_refl _) _)
theorem GAt.keeps {w w':World} {base base' b:Nat} {T:List TypeId} {F:Tri→List Nat} (h:GAt w base b F) (hk:Keeps base' T w w') (hT:3∉T):GAt w' base b F:=
 h.keep fun k o ho ht=>hk.other k o ho (fun cs t fr e=>by rw[ht cs t fr e];exact hT)
theorem GAt.look {w:World} {base b:Nat} {F:Tri→List Nat} (h:GAt w base b F) (t:Tri) :
  ∃ v,(Instr.lookup 239 (.map (some b)) (kv t) false).run Tryz.prog w=.ok v w∧w.ownsRow base 3 1 v (F t).length ((F t).map natV):=by
 obtain⟨h0,es,clock,hb,hs,h1,h2,h3⟩:=h
 obtain⟨kl,hkl⟩:=kv_key t
 have ht:Tryz.prog.underlying 239=some (.map 287 89):=Tryz.underlying239
 have hkeys:∀ x∈es.toList,∃ l,keyOf Tryz.prog 287 x.key=some l:=fun x hx=>by
  obtain⟨u,hu,_⟩:=h1 x hx
  rw[hu];exact kv_key u
 rcases lawK.find w hkl es.toList hkeys with ⟨g1,g2⟩ | ⟨j,e0,g1,g2,g3⟩
 ·refine⟨.slice none 0 0,by simp[Instr.lookup,run_underlying ht,MapKept.run_getObj_map hb,lawK.check w _ hkl,g1,Result.andThen],?_⟩
  rw[h2 t g2]
  exact World.ownsRow_nil _ _ _ _
 ·refine⟨e0.val,by simp[Instr.lookup,run_underlying ht,MapKept.run_getObj_map hb,lawK.check w _ hkl,g1,Result.andThen],?_⟩
  obtain⟨u,hu,ho⟩:=h1 e0 (List.mem_of_getElem? g2)
  have:t=u:=kv_inj (by rw[←g3,hu])
  rw[this];exact ho
def upd (F:Tri→List Nat) (t:Tri) (l:List Nat):Tri→List Nat:=fun u=>if u=t then l else F u
theorem row_not_map {w:World} {base b n:Nat} {v:Value} {xs:List Value} {es:Array MapEntry} {clock:Nat} (h:w.ownsRow base 3 1 v n xs) (hb:w.heap[b]?=some (.map es clock)):v.ownBlock≠some b:=by
 rcases h.2 with ⟨rfl,_⟩ | ⟨g,cap,cur,rfl,_,hg,_⟩
 ·simp[Value.ownBlock]
 ·intro e
  simp only[Value.ownBlock,Option.some.injEq]at e
  subst e
  rw[hb]at hg;cases hg
theorem row_lt {w:World} {base n g:Nat} {v:Value} {xs:List Value} (h:w.ownsRow base 3 1 v n xs) (hb:v.ownBlock=some g):g < w.heap.size:=by
 rcases h.2 with ⟨rfl,_⟩ | ⟨g',cap,cur,rfl,_,hg,_⟩
 ·simp[Value.ownBlock]at hb
 ·simp only[Value.ownBlock,Option.some.injEq]at hb
  subst hb
  exact (Array.getElem?_eq_some_iff.1 hg).1
theorem row_stay2 {w w':World} {base b n:Nat} {v:Value} {xs:List Value} (h:w.ownsRow base 3 1 v n xs) (hk:∀ (k:Nat),k < w.heap.size→v.ownBlock=some k→k≠b→w'.heap[k]?=w.heap[k]?) (hne:v.ownBlock≠some b):w'.ownsRow base 3 1 v n xs:=by
 refine⟨h.1,?_⟩
 rcases h.2 with h | ⟨g,cap,cur,rfl,h2,h3,h4⟩
 ·exact Or.inl h
 ·refine Or.inr ⟨g,cap,cur,rfl,h2,?_,h4⟩
  rw[hk g (Array.getElem?_eq_some_iff.1 h3).1 rfl (fun e=>hne (by simp[Value.ownBlock,e]))]
  exact h3
theorem row_stay {w w':World} {base b n:Nat} {v:Value} {xs:List Value} (h:w.ownsRow base 3 1 v n xs) (hk:∀ (k:Nat),k < w.heap.size→k≠b→w'.heap[k]?=w.heap[k]?) (hne:v.ownBlock≠some b):w'.ownsRow base 3 1 v n xs:=
 row_stay2 h (fun k hk1 _ hkb=>hk k hk1 hkb) hne
theorem GAt.entry {w:World} {base b:Nat} {F:Tri→List Nat} (h:GAt w base b F) (t:Tri) :
  ∃ v st w1,(Instr.mapEntry 239 (.map (some b)) (kv t)).run Tryz.prog w=.ok (.tuple #[v,goInt st]) w1∧w1.ownsRow base 3 1 v (F t).length ((F t).map natV)∧w.grownBy w1 (some b)∧w1.heap.size=w.heap.size∧v.ownBlock≠some b∧
   ∀ (w2:World) (v2:Value) (l:List Nat),w1.grownBy w2 v.ownBlock→w2.ownsRow base 3 1 v2 l.length (l.map natV)→(v2.ownBlock=v.ownBlock∨v2.ownBlock=some w.heap.size)→
    ∃ w3,(Instr.entryStore 239 (.map (some b)) (goInt st) v2).run Tryz.prog w2=.ok () w3∧GAt w3 base b (upd F t l)∧w2.grownBy w3 (some b):=by
 obtain⟨h0,es,clock,hb,⟨s1,s2,s3⟩,h1,h2,h3⟩:=h
 obtain⟨kl,hkl⟩:=kv_key t
 have ht:Tryz.prog.underlying 239=some (.map 287 89):=Tryz.underlying239
 have hkeys:∀ x∈es.toList,∃ l,keyOf Tryz.prog 287 x.key=some l:=fun x hx=>by
  obtain⟨u,hu,_⟩:=h1 x hx
  rw[hu];exact kv_key u
 have hblt:b < w.heap.size:=(Array.getElem?_eq_some_iff.1 hb).1
 have grow:∀ (u:World) (o:Obj) (es':Array MapEntry) (c':Nat),u.heap[b]?=some (.map es' c')→u.grownBy (setBlock u b o) (some b):=fun u o es' c' hu=>
  ⟨rfl,rfl,rfl,by simp[setBlock],fun i _ hi=>heap_setBlock_other hu _ (fun e1=>hi (by rw[e1]))⟩
 rcases lawK.find w hkl es.toList hkeys with ⟨g1,g2⟩ | ⟨j,e0,g1,g2,g3⟩
 ·have hF:=h2 t g2
  have hb1:(setBlock w b (.map (es.push ⟨kv t,.slice none 0 0,clock⟩) (clock+1))).heap[b]?=some (.map (es.push ⟨kv t,.slice none 0 0,clock⟩) (clock+1)):=heap_setBlock_same hb _
  refine⟨.slice none 0 0,clock,setBlock w b (.map (es.push ⟨kv t,.slice none 0 0,clock⟩) (clock+1)),?_,?_,grow _ _ _ _ hb,by simp[setBlock],by simp[Value.ownBlock],?_⟩
  ·simp[Instr.mapEntry,run_underlying ht,MapKept.run_getObj_map hb,lawK.check w false hkl,g1,MapKept.run_setObj_map _ hb,Result.andThen,setBlock]
  ·rw[hF];exact World.ownsRow_nil _ _ _ _
  ·intro w2 v2 l hg ho hv
   have hw2:w2.heap[b]?=some (.map (es.push ⟨kv t,.slice none 0 0,clock⟩) (clock+1)):=(hg.block b (by simpa [setBlock] using hblt) (by simp[Value.ownBlock])).trans hb1
   have hidx:(es.push ⟨kv t,.slice none 0 0,clock⟩).findIdx? (fun e=>((e.born:Nat):Int) == ((clock:Nat):Int))=some es.size:=by
    rw[WideElems.findIdx_arr]
    have:=WideElems.findIdx_born (l:=(es.push ⟨kv t,.slice none 0 0,clock⟩).toList) (j:=es.size) (e0:=⟨kv t,.slice none 0 0,clock⟩) (by
     simp only[Array.toList_push,List.map_append,List.map_cons,List.map_nil]
     refine List.nodup_append.2 ⟨s2,by simp,fun a ha c hc e1=>?_⟩
     simp only[List.mem_singleton]at hc
     obtain⟨x,hx,rfl⟩:=List.mem_map.1 ha
     have:=s1 x hx
     omega) (by simp)
    exact this
   have hmod:(es.push ⟨kv t,.slice none 0 0,clock⟩).modify es.size (fun e=>{ e with val:=v2 })=es.push ⟨kv t,v2,clock⟩:=by
    apply Array.ext'
    rw[Array.toList_modify,Array.toList_push,Array.toList_push,←Array.length_toList,WideElems.modify_last]
   refine⟨setBlock w2 b (.map (es.push ⟨kv t,v2,clock⟩) (clock+1)),by simp[Instr.entryStore,MapKept.run_getObj_map hw2,asInt,asIntOf,goInt,hidx,hmod,MapKept.run_setObj_map _ hw2,Result.andThen,setBlock],?_,grow _ _ _ _ hw2⟩
   have hkeep:∀ (k:Nat),k < w.heap.size→k≠b→w2.heap[k]?=w.heap[k]?:=fun k hk hkb=>by
    rw[hg.block k (by simpa [setBlock] using hk) (by simp[Value.ownBlock]),heap_setBlock_other hb _ hkb]
   refine⟨h0,es.push ⟨kv t,v2,clock⟩,clock+1,heap_setBlock_same hw2 _,⟨?_,?_,?_⟩,?_,?_,?_⟩
   ·intro x hx
    simp at hx
    rcases hx with hx | rfl
    ·have:=s1 x (by simpa using hx);omega
    ·exact Nat.lt_succ_self _
   ·simp only[Array.toList_push,List.map_append,List.map_cons,List.map_nil]
    refine List.nodup_append.2 ⟨s2,by simp,fun a ha c hc e1=>?_⟩
    simp only[List.mem_singleton]at hc
    obtain⟨x,hx,rfl⟩:=List.mem_map.1 ha
    have:=s1 x hx
    omega
   ·simp only[Array.toList_push,List.map_append,List.map_cons,List.map_nil]
    refine List.nodup_append.2 ⟨s3,by simp,fun a ha c hc e1=>?_⟩
    simp only[List.mem_singleton]at hc
    obtain⟨x,hx,rfl⟩:=List.mem_map.1 ha
    exact g2 x hx (e1.trans hc)
   ·intro x hx
    simp at hx
    rcases hx with hx | rfl
    ·obtain⟨u,hu,ho1⟩:=h1 x (by simpa using hx)
     have hne:u≠t:=fun e=>g2 x (by simpa using hx) (by rw[hu,e])
     refine⟨u,hu,?_⟩
     unfold upd;rw[if_neg hne]
     exact row_stay ho1 (fun k hk hkb=>by rw[heap_setBlock_other hw2 _ hkb,hkeep k hk hkb]) (row_not_map ho1 hb)
    ·refine⟨t,rfl,?_⟩
     unfold upd;rw[if_pos rfl]
     exact row_stay ho (fun k hk hkb=>heap_setBlock_other hw2 _ hkb) (row_not_map ho hw2)
   ·intro u hu
    have hne:u≠t:=fun e=>hu ⟨kv t,v2,clock⟩ (by simp) (by rw[e])
    unfold upd;rw[if_neg hne]
    exact h2 u (fun x hx=>hu x (by simp;exact Or.inl (by simpa using hx)))
   ·have far:∀ x∈es.toList,x.val.ownBlock=none∨x.val.ownBlock≠v2.ownBlock:=fun x hx=>by
     rcases hv with e | e
     ·rcases hq:x.val.ownBlock with _ | g
      ·exact Or.inl rfl
      ·right;rw[e];simp[Value.ownBlock]
     ·obtain⟨u,hu,ho1⟩:=h1 x hx
      rcases hq:x.val.ownBlock with _ | g
      ·exact Or.inl rfl
      ·right;rw[e];have:=row_lt ho1 hq;simp;omega
    intro x hx y hy hxy
    simp at hx hy
    rcases hx with hx | rfl <;> rcases hy with hy | rfl
    ·exact h3 x (by simpa using hx) y (by simpa using hy) hxy
    ·exact far x (by simpa using hx)
    ·rcases far y (by simpa using hy) with e | e
     ·rcases hq:v2.ownBlock with _ | g
      ·exact Or.inl rfl
      ·right;rw[e];simp
     ·exact Or.inr (fun e1=>e e1.symm)
    ·exact absurd rfl hxy
 ·have hj:es[j]?=some e0:=by simpa using g2
  have he0:e0∈es.toList:=List.mem_of_getElem? g2
  have hsame:es.modify j (fun e=>{ e with key:=kv t })=es:=by
   apply Array.ext'
   rw[Array.toList_modify,ChangeMaps.modify_eq_set _ _ _ _ g2]
   have:({ e0 with key:=kv t }:MapEntry)=e0:=by rw[←g3]
   rw[this]
   exact WideElems.set_self _ _ _ g2
  obtain⟨u0,hu0,ho0⟩:=h1 e0 he0
  have hut:t=u0:=kv_inj (by rw[←g3,hu0])
  subst hut
  have hbs:setBlock w b (.map es clock)=w:=by
   unfold setBlock
   have:w.heap.setIfInBounds b (.map es clock)=w.heap:=by
    apply Array.ext_getElem?
    intro i
    rw[Array.getElem?_setIfInBounds]
    split
    ·rename_i e;subst e;exact hb.symm
    ·rfl
   rw[this]
  refine⟨e0.val,e0.born,w,?_,ho0,⟨rfl,rfl,rfl,Nat.le_refl _,fun _ _ _=>rfl⟩,rfl,row_not_map ho0 hb,?_⟩
  ·have hr:(Instr.mapEntry 239 (.map (some b)) (kv t)).run Tryz.prog w=.ok (.tuple #[e0.val,goInt e0.born]) (setBlock w b (.map es clock)):=by
    simp[Instr.mapEntry,run_underlying ht,MapKept.run_getObj_map hb,lawK.check w false hkl,g1,hj,g3,lawK.stays w hkl,hsame,MapKept.run_setObj_map _ hb,Result.andThen,setBlock]
   rw[hr,hbs]
  ·intro w2 v2 l hg ho hv
   have hw2:w2.heap[b]?=some (.map es clock):=(hg.block b hblt (fun e=>row_not_map ho0 hb e.symm)).trans hb
   have hidx:es.findIdx? (fun e=>((e.born:Nat):Int) == ((e0.born:Nat):Int))=some j:=by
    rw[WideElems.findIdx_arr]
    exact WideElems.findIdx_born s2 g2
   refine⟨setBlock w2 b (.map (es.modify j (fun e=>{ e with val:=v2 })) clock),by simp[Instr.entryStore,MapKept.run_getObj_map hw2,asInt,asIntOf,goInt,hidx,MapKept.run_setObj_map _ hw2,Result.andThen,setBlock],?_,grow _ _ _ _ hw2⟩
   have hl:(es.modify j (fun e=>{ e with val:=v2 })).toList=es.toList.set j { e0 with val:=v2 }:=by
    rw[Array.toList_modify,ChangeMaps.modify_eq_set _ _ _ _ g2]
   have hjl:j < es.toList.length:=by
    rcases Nat.lt_or_ge j es.toList.length with h | h
    ·exact h
    ·rw[List.getElem?_eq_none h]at g2;cases g2
   have hmem:∀ x,x∈es.toList.set j { e0 with val:=v2 }→x={ e0 with val:=v2 }∨(x∈es.toList∧x.key≠kv t):=fun x hx=>by
    obtain⟨i,hi,rfl⟩:=List.mem_iff_getElem.1 hx
    by_cases hij:i=j
    ·subst hij;left;simp
    ·right
     have hil:i < es.toList.length:=by simpa using hi
     rw[List.getElem_set_ne (fun e=>hij e.symm)]
     refine⟨List.getElem_mem hil,fun e=>hij ?_⟩
     refine (List.getElem?_inj (l:=es.toList.map (·.key)) (by simpa using hil) s3).1 ?_
     rw[List.getElem?_map,List.getElem?_map,g2,List.getElem?_eq_getElem hil]
     simp only[Option.map_some]
     rw[e,g3]
   have hmaps:∀ {β:Type} (f:MapEntry→β),(f { e0 with val:=v2 }=f e0)→(es.toList.set j { e0 with val:=v2 }).map f=es.toList.map f:=fun {β} f hf=>by
    rw[List.map_set,hf]
    have:=WideElems.set_self (es.toList.map f) j (f e0) (by rw[List.getElem?_map,g2];rfl)
    exact this
   have hkeep:∀ (k:Nat),k < w.heap.size→some k≠e0.val.ownBlock→w2.heap[k]?=w.heap[k]?:=fun k hk hkb=>hg.block k hk hkb
   have hsame2:∀ (u:Tri),kv u=kv t→u=t:=fun u e=>kv_inj e
   refine⟨h0,es.modify j (fun e=>{ e with val:=v2 }),clock,heap_setBlock_same hw2 _,⟨?_,?_,?_⟩,?_,?_,?_⟩
   ·rw[hl];intro x hx
    rcases hmem x hx with rfl | ⟨hx,_⟩
    ·exact s1 e0 he0
    ·exact s1 x hx
   ·rw[hl,hmaps _ (by rfl)];exact s2
   ·rw[hl,hmaps _ (by rfl)];exact s3
   ·rw[hl];intro x hx
    rcases hmem x hx with rfl | ⟨hx,hne⟩
    ·refine⟨t,g3,?_⟩
     unfold upd;rw[if_pos rfl]
     exact row_stay ho (fun k hk hkb=>heap_setBlock_other hw2 _ hkb) (row_not_map ho hw2)
    ·obtain⟨u,hu,ho1⟩:=h1 x hx
     have hut:u≠t:=fun e=>hne (by rw[hu,e])
     refine⟨u,hu,?_⟩
     unfold upd;rw[if_neg hut]
     have hap:x.val.ownBlock=none∨x.val.ownBlock≠e0.val.ownBlock:=h3 x hx e0 he0 (by rw[g3];exact hne)
     refine row_stay2 ho1 (fun k hk hkx hkb=>?_) (row_not_map ho1 hb)
     rw[heap_setBlock_other hw2 _ hkb]
     refine hkeep k hk (fun e=>?_)
     rcases hap with e1 | e1
     ·rw[e1]at hkx;cases hkx
     ·exact e1 (hkx.trans e)
   ·rw[hl];intro u hu
    have hut:u≠t:=fun e=>hu { e0 with val:=v2 } (List.mem_iff_getElem.2 ⟨j,by simpa using hjl,by simp⟩) (by rw[e];exact g3)
    unfold upd;rw[if_neg hut]
    refine h2 u (fun x hx e=>?_)
    obtain⟨i,hi,rfl⟩:=List.mem_iff_getElem.1 hx
    have hij:j≠i:=fun e1=>by
     subst e1
     rw[List.getElem?_eq_getElem hi]at g2
     injection g2 with g2
     rw[g2,g3]at e
     exact hut (kv_inj e).symm
    exact hu es.toList[i] (List.mem_iff_getElem.2 ⟨i,by simpa using hi,by rw[List.getElem_set_ne hij]⟩) e
   ·have far:∀ x∈es.toList,x.key≠kv t→x.val.ownBlock=none∨x.val.ownBlock≠v2.ownBlock:=fun x hx hne=>by
     rcases hv with e | e
     ·rw[e];exact h3 x hx e0 he0 (by rw[g3];exact hne)
     ·obtain⟨u,hu,ho1⟩:=h1 x hx
      rcases hq:x.val.ownBlock with _ | g
      ·exact Or.inl rfl
      ·right;rw[e];have:=row_lt ho1 hq;simp;omega
    rw[hl];intro x hx y hy hxy
    rcases hmem x hx with rfl | ⟨hx,hnx⟩ <;> rcases hmem y hy with rfl | ⟨hy,hny⟩
    ·exact absurd rfl hxy
    ·rcases far y hy hny with e | e
     ·rcases hq:v2.ownBlock with _ | g
      ·exact Or.inl rfl
      ·right;rw[e];simp
     ·exact Or.inr (fun e1=>e e1.symm)
    ·exact far x hx hnx
    ·exact h3 x hx y hy hxy
end Go.Proofs.YtabdianhoabhhaaGreatDoor.Match
namespace Go.Proofs.YtabdianhoabhhaaGreatDoor.Match
open Go Go.RowKit Go.Proofs.YtabdianhoabhhaaGreatDoor
set_option linter.unusedVariables false
def tl (t:Tri):List UInt8:=[t.1,t.2.1,t.2.2]
theorem tl_inj {s t:Tri} (h:tl s=tl t):s=t:=by
 obtain⟨a,b,c⟩:=s
 obtain⟨a',b',c'⟩:=t
 simp[tl]at h
 obtain⟨rfl,rfl,rfl⟩:=h
 rfl
def IdxAt (w:World) (base b:Nat) (xs:List UInt8) (K:Nat):Prop:=GAt w base b (fun t=>occ xs (tl t) K)
theorem tri_eq (xs:List UInt8) (k:Nat) (h:k+3≤xs.length):tri xs k=tl (xs[k],xs[k+1],xs[k+2]):=by
 unfold tri tl
 rw[List.drop_eq_getElem_cons (by omega),List.drop_eq_getElem_cons (by omega),List.drop_eq_getElem_cons (by omega),List.take_succ_cons,List.take_succ_cons,List.take_succ_cons,List.take_zero]
theorem idx_next {w:World} {base b:Nat} {xs:List UInt8} {K:Nat} (hK:K+3≤xs.length) (t:Tri) (ht:tri xs K=tl t) (h:GAt w base b (upd (fun t=>occ xs (tl t) K) t (occ xs (tl t) K++[K]))):IdxAt w base b xs (K+1):=by
 unfold IdxAt
 have e:(fun t=>occ xs (tl t) (K+1))=upd (fun t=>occ xs (tl t) K) t (occ xs (tl t) K++[K]):=by
  funext u
  unfold upd
  rw[occ_succ]
  by_cases hu:u=t
  ·subst hu;rw[if_pos ⟨hK,ht⟩,if_pos rfl]
  ·rw[if_neg hu,if_neg (fun h=>hu (tl_inj (h.2.symm.trans ht)))];simp
 rw[e];exact h
theorem idx_stay {w:World} {base b:Nat} {xs:List UInt8} {K:Nat} (hK:¬ K+3≤xs.length) (h:IdxAt w base b xs K):IdxAt w base b xs (K+1):=by
 unfold IdxAt at h⊢
 have e:(fun t=>occ xs (tl t) (K+1))=(fun t=>occ xs (tl t) K):=by
  funext u;rw[occ_succ,if_neg (fun h=>hK h.1)];simp
 rw[e];exact h
structure KeepsM (base b:Nat) (w w':World):Prop where
 below:Below base w w'
 other:∀ (k:Nat) (o:Obj),w.heap[k]?=some o→k≠b→(∀ cs t fr,o=Obj.cells cs t fr→t≠3)→w'.heap[k]?=some o
section
variable {base b:Nat} {w w' w'':World}
theorem KeepsM.refl (base b:Nat) (w:World):KeepsM base b w w:=⟨Below.refl _ _,fun _ _ h _ _=>h⟩
theorem KeepsM.alloc (h:KeepsM base b w w') (hb:base≤w'.heap.size) (o:Obj):KeepsM base b w (w'.alloc o):=
 ⟨h.below.alloc hb o,fun k u hu hkb ht=>by
  have:=h.other k u hu hkb ht
  rw[Below.heap_alloc w' o k (Array.getElem?_eq_some_iff.1 this).1];exact this⟩
theorem KeepsM.map (h:KeepsM base b w w') (hbb:base≤b) (hb:base≤w'.heap.size) (hg:w'.grownBy w'' (some b)):KeepsM base b w w'':=
 ⟨h.below.trans ⟨hg.os,hg.tape,hg.output,hg.size,fun k hk=>hg.block k (by omega) (by simp;omega)⟩,fun k u hu hkb ht=>by
  have:=h.other k u hu hkb ht
  rw[hg.block k (Array.getElem?_eq_some_iff.1 this).1 (by simpa using hkb)];exact this⟩
theorem KeepsM.row (h:KeepsM base b w w') (hb:base≤w'.heap.size) {v:Value} {n:Nat} {xs:List Value} (ho:w'.ownsRow base 3 1 v n xs) (hg:w'.grownBy w'' v.ownBlock):KeepsM base b w w'':=by
 have key:∀ (k:Nat),v.ownBlock=some k→base≤k∧∃ cs fr,w'.heap[k]?=some (.cells cs 3 fr):=fun k hk=>by
  rcases ho.2 with ⟨rfl,_⟩ | ⟨g,cap,cur,rfl,h1,h2,_⟩
  ·simp[Value.ownBlock]at hk
  ·simp only[Value.ownBlock,Option.some.injEq]at hk
   subst hk;exact⟨h1,_,_,h2⟩
 refine⟨h.below.trans ⟨hg.os,hg.tape,hg.output,hg.size,fun k hk=>hg.block k (by omega) (fun e=>?_)⟩,fun k u hu hkb ht=>?_⟩
 ·have:=(key k e.symm).1;omega
 ·have:=h.other k u hu hkb ht
  rw[hg.block k (Array.getElem?_eq_some_iff.1 this).1 (fun e=>?_)]
  ·exact this
  ·obtain⟨_,cs,fr,hc⟩:=key k e.symm
   rw[this]at hc;injection hc with hc;subst hc
   exact ht _ _ _ rfl rfl
end
theorem run_arrayAt (w:World) (a:Option Addr) (m:Nat):(Instr.arrayAt 287 (.slice a 3 m)).run Tryz.prog w=.ok (.pointer a) w:=by
 simp[Instr.arrayAt,run_underlying Tryz.underlying287]
set_option maxRecDepth 100000 in
set_option maxHeartbeats 1600000 in
theorem put_yes (A:Option Addr) (n c K base b:Nat) (xs:List UInt8) (w:World) (hn:xs.length=n) (hnc:n≤c) (hx:n≤1000000) (hA:ByAt w A xs) (hk:K+3≤n) (hI:IdxAt w base b xs K) :
  Calls Tryz.prog 188 #[.map (some b),.slice A n c,.int .i64 (K:Int)] w fun e w'=>e=.returned (.tuple #[])∧IdxAt w' base b xs (K+1)∧KeepsM base b w w':=by
 have HI:=Lib.hid hI
 have Hn:=Lib.hid hn
 have hk':K+3≤xs.length:=by omega
 obtain⟨bb,o,rfl,hc0⟩:=hA.get (k:=K) (by omega)
 obtain⟨b',o',hb,hc1⟩:=hA.get (k:=K+1) (by omega)
 injection hb with hb;injection hb with e1 e2 e3;subst e1 e2
 obtain⟨b',o',hb,hc2⟩:=hA.get (k:=K+2) (by omega)
 injection hb with hb;injection hb with e1 e2 e3;subst e1 e2
 have Ht:=Lib.hid (tri_eq xs K hk')
 clear hI hA
 generalize xs[K]=x0 at *
 generalize xs[K+1]=x1 at *
 generalize xs[K+2]=x2 at *
 clear hn
 rw[←Nat.add_assoc]at hc1 hc2
 have g1:(K:Int)+3≤(c:Int):=by omega
 have g2:(0:Int)≤(K:Int)+3:=by omega
 have g3:¬ c=K:=by omega
 have ka:=run_arrayAt
 go_enter Tryz.func188,Tryz.ntmps188
 go_wp2_with fail
 have hblt:=HI.out.lt
 have hbb:=HI.out.1
 obtain⟨v,st,w1,hrun,hown,hg1,hsz1,hvb,hback⟩:=GAt.entry ((HI.out.alloc (.cells #[.int .u8 (n8 x0),.int .u8 (n8 x1),.int .u8 (n8 x2)] 287)).alloc (.cells #[.int .i64 (K:Int)] 3)) (x0,x1,x2)
 have hr:(Instr.mapEntry 239 (.map (some b)) (.agg #[.int .u8 (n8 x0),.int .u8 (n8 x1),.int .u8 (n8 x2)])).run Tryz.prog ((w.alloc (.cells #[.int .u8 (n8 x0),.int .u8 (n8 x1),.int .u8 (n8 x2)] 287)).alloc (.cells #[.int .i64 (K:Int)] 3))=.ok (.tuple #[v,goInt st]) w1:=hrun
 have Hback:=Lib.hid hback
 have Hown:=Lib.hid hown
 have Hg1:=Lib.hid hg1
 have Hvb:=Lib.hid hvb
 have Hsz1:=Lib.hid hsz1
 have Hr:=Lib.hid hr
 have Hol:=Lib.hid (occ_len xs (tl (x0,x1,x2)) K)
 have HSl:Hid (SlAt w1 (some ⟨w.heap.size+1,0,none⟩) [.int .i64 (K:Int)]):=Lib.hid (by
  have:=slat_one (w.alloc (.cells #[.int .u8 (n8 x0),.int .u8 (n8 x1),.int .u8 (n8 x2)] 287)) 3 (.int .i64 (K:Int))
  intro hp
  obtain⟨q,r,e,hq⟩:=this hp
  refine⟨q,r,by simpa using e,fun j u hj=>?_⟩
  have h1:=hq j u hj
  have eq:w.heap.size+1=q:=by simp at e;omega
  have a1:q < ((w.alloc (.cells #[.int .u8 (n8 x0),.int .u8 (n8 x1),.int .u8 (n8 x2)] 287)).alloc (.cells #[.int .i64 (K:Int)] 3)).heap.size:=by simp;omega
  have a2:some q≠some b:=by simp only[Option.some.injEq,ne_eq];omega
  rw[World.cell?_of_block (hg1.block q a1 a2)]
  exact h1)
 clear hback hown hg1 hvb hsz1 hr hrun
 generalize hls0:occ xs (tl (x0,x1,x2)) K=ls at *
 have Hls:=Lib.hid hls0
 clear hls0
 have hls:ls.length≤1000000:=by have:=Hol.out;omega
 rw[Hr.out]
 go_wp2_with (at_builtin;refine wpList_app _ rfl (.tmp 21) (.tmp 23) _ rfl base 3 _ 1 8 tyI v ls.length (ls.map natV) rfl Hown.out (some ⟨w.heap.size+1,0,none⟩) 1 1 [.int .i64 (K:Int)] rfl rfl HSl.out (by simp[Value.oneCell']) (by simp) (by unfold maxLen;omega) (by omega) (by have:=Hsz1.out;simp at this;omega) ?_;intro v2 w2 hown2 hg2 hl2)
 obtain⟨w3,hr3,hG,hg3⟩:=Hback.out w2 v2 (ls++[K]) hg2 (by rw[List.length_append,List.map_append];exact hown2) (by rw[←Hsz1.out];exact hl2)
 have HK:=Lib.hid ((((((KeepsM.refl base b w).alloc (by omega) (.cells #[.int .u8 (n8 x0),.int .u8 (n8 x1),.int .u8 (n8 x2)] 287)).alloc (by simp;omega) (.cells #[.int .i64 (K:Int)] 3)).map hbb (by simp;omega) Hg1.out).row (by have:=Hsz1.out;simp at this;omega) Hown.out hg2).map hbb (by have:=Hsz1.out;have:=hg2.size;simp at *;omega) hg3)
 have HG:=Lib.hid hG
 have Hr3:Hid ((Instr.entryStore 239 (.map (some b)) (.int .i64 st) v2).run Tryz.prog w2=.ok () w3):=Lib.hid hr3
 clear hG hg3 hr3 hown2 hg2 hl2
 rw[Hr3.out]
 go_wp2_with fail
 go_end0
 exact⟨rfl,idx_next (by rw[Hn.out];exact hk) _ Ht.out (by rw[Hls.out];exact HG.out),HK.out⟩
set_option maxHeartbeats 400000 in
theorem put_no (A:Option Addr) (n c K b:Nat) (w:World) (hx:n≤1000000) (hk:n < K+3) (hK:K≤n) :
  Calls Tryz.prog 188 #[.map (some b),.slice A n c,.int .i64 (K:Int)] w fun e w'=>e=.returned (.tuple #[])∧w'=w:=by
 have hI:¬ ((K:Int)+3≤(n:Int)):=by omega
 go_enter Tryz.func188,Tryz.ntmps188
 go_wp2_with fail
 go_end0
 exact⟨rfl,rfl⟩
theorem put_any (A:Option Addr) (n c K base b:Nat) (xs:List UInt8) (w:World) (hn:xs.length=n) (hnc:n≤c) (hx:n≤1000000) (hA:ByAt w A xs) (hK:K≤n) (hI:IdxAt w base b xs K) :
  Calls Tryz.prog 188 #[.map (some b),.slice A n c,.int .i64 (K:Int)] w fun e w'=>e=.returned (.tuple #[])∧IdxAt w' base b xs (K+1)∧KeepsM base b w w':=by
 by_cases h:K+3≤n
 ·exact put_yes A n c K base b xs w hn hnc hx hA h hI
 ·refine (put_no A n c K b w hx (by omega) hK).mono ?_
  rintro e w' ⟨rfl,rfl⟩
  exact⟨rfl,idx_stay (by omega) hI,KeepsM.refl _ _ _⟩
def FindPost (xs:List UInt8) (k:Nat) (w:World) (e:Ending) (w':World):Prop:=e=.returned (.tuple #[.int .i64 (((longest xs k).1:Nat):Int),.int .i64 (((longest xs k).2:Nat):Int)])∧∃ d,w'=w.drewN d
theorem tryAll_le (xs:List UInt8) (k:Nat) (l:List Nat) (h:∀ p∈l,p≤k):(tryAll xs k l).1≤258∧(tryAll xs k l).2≤k:=by
 have key:∀ (l:List Nat) (s:Nat×Nat),(∀ p∈l,p≤k)→s.1≤258∧s.2≤k→(l.foldl (tryAt xs k) s).1≤258∧(l.foldl (tryAt xs k) s).2≤k:=by
  intro l
  induction l with
  | nil=>intro s _ h;exact h
  | cons a l ih=>
   intro s hl hs
   refine ih _ (fun p hp=>hl p (by simp[hp])) ?_
   have:=same_le xs a k (hl a (by simp))
   unfold tryAt
   split
   ·exact⟨this.1,Nat.sub_le _ _⟩
   ·exact hs
 exact key l (0,0) h ⟨by simp,by simp⟩
set_option maxRecDepth 100000 in
set_option maxHeartbeats 1600000 in
theorem find_yes (A:Option Addr) (n c k base b:Nat) (xs:List UInt8) (w:World) (hn:xs.length=n) (hnc:n≤c) (hx:n≤1000000) (hA:ByAt w A xs) (hk:k+3≤n) (hI:IdxAt w base b xs k) :
  Calls Tryz.prog 187 #[.map (some b),.slice A n c,.int .i64 (k:Int)] w (FindPost xs k w):=by
 have Hn:=Lib.hid hn
 have HA:=Lib.hid hA
 have hk':k+3≤xs.length:=by omega
 obtain⟨bb,o,rfl,hc0⟩:=hA.get (k:=k) (by omega)
 obtain⟨b',o',hb,hc1⟩:=hA.get (k:=k+1) (by omega)
 injection hb with hb;injection hb with e1 e2 e3;subst e1 e2
 obtain⟨b',o',hb,hc2⟩:=hA.get (k:=k+2) (by omega)
 injection hb with hb;injection hb with e1 e2 e3;subst e1 e2
 have Hl:=Lib.hid (find_eq xs k hk')
 have Ht:=tri_eq xs k hk'
 rw[Ht]at Hl
 have Hlt:Hid (∀ p∈occ xs (tl (xs[k],xs[k+1],xs[k+2])) k,p < k):=Lib.hid (fun p hp=>(occ_lt xs _ k p hp).1)
 have Hol:=Lib.hid (occ_len xs (tl (xs[k],xs[k+1],xs[k+2])) k)
 obtain⟨v,hr,hown⟩:=hI.look (xs[k],xs[k+1],xs[k+2])
 simp only[kv,u8v]at hr
 obtain⟨B,cap,rfl,hv1,hv2,hsl,hv0⟩:=own_slat hown
 have Hsl:=Lib.hid hsl
 clear hI hA hown Ht hsl hv0
 generalize occ xs (tl (xs[k],xs[k+1],xs[k+2])) k=ls at *
 generalize xs[k]=x0 at *
 generalize xs[k+1]=x1 at *
 generalize xs[k+2]=x2 at *
 clear hn
 rw[←Nat.add_assoc]at hc1 hc2
 have g1:(k:Int)+3≤(c:Int):=by omega
 have g2:(0:Int)≤(k:Int)+3:=by omega
 have g3:¬ c=k:=by omega
 have ka:=run_arrayAt
 have hls:ls.length≤1000000:=by have:=Hol.out;omega
 generalize hN:ls.length=N at *
 have HN:=Lib.hid hN
 clear hN
 go_enter Tryz.func187,Tryz.ntmps187
 go_wp2_with fail
 clear hr hc0 hc1 hc2 ka
 go_loopw [6,7,9] (fun a f j wr=>∃ d:Nat,d≤N∧j=.int .i64 ((N:Int) - 1 - (d:Int))∧a=.int .i64 (((tryAll xs k (ls.reverse.take d)).1:Nat):Int)∧f=.int .i64 (((tryAll xs k (ls.reverse.take d)).2:Nat):Int)∧∃ d,wr=w.drewN d) (fun _ _ i _=>(intOf i+1).toNat)
 case atStart=>exact⟨0,Nat.zero_le _,by simp,rfl,rfl,0,rfl⟩
 case round=>
  obtain⟨d,hd,rfl,rfl,rfl,q,rfl⟩:=hrel
  have hl:=tryAll_le xs k (ls.reverse.take d) (fun p hp=>Nat.le_of_lt (Hlt.out p (by have:=List.mem_of_mem_take hp;simpa using this)))
  have hl1:=hl.1
  have hl2:=hl.2
  clear hl
  by_cases hlt:d < N
  ·have hdr:d < ls.reverse.length:=by simp;have:=HN.out;omega
   have hge:(0:Int)≤(N:Int) - 1 - (d:Int):=by omega
   have hi:((N:Int) - 1 - (d:Int))=((N - 1 - d:Nat):Int):=by omega
   have hdl:N - 1 - d < ls.length:=by have:=HN.out;omega
   have Hs:=Lib.hid (show tryAll xs k (ls.reverse.take (d+1))=tryAt xs k (tryAll xs k (ls.reverse.take d)) ls.reverse[d] by rw[take_snoc _ _ hdr,tryAll_snoc])
   have Hg:Hid (ls.reverse[d]=ls[N - 1 - d]):=Lib.hid (by rw[List.getElem_reverse];congr 1;have:=HN.out;omega)
   obtain⟨bi,oi,rfl,hci⟩:=Hsl.out.get (k:=N - 1 - d) (by simpa using hdl)
   simp only[List.getElem_map,natV]at hci
   have hpk:=Hlt.out ls[N - 1 - d] (List.getElem_mem hdl)
   rw[Hg.out]at Hs
   rw[hi]at hge⊢
   have Hd:Hid (d+1+(N - 1 - d)=N):=Lib.hid (by omega)
   clear hi hdr Hg
   generalize tryAll xs k (ls.reverse.take d)=s at *
   obtain⟨a,f⟩:=s
   generalize ls[N - 1 - d]=i at *
   clear hdl
   generalize N - 1 - d=z at *
   dsimp only at hl1 hl2⊢
   have hzN:z < N:=by have:=Hd.out;omega
   have hzN':(z:Int) < (N:Int):=by omega
   have hki:IntKind.i64.wrap ((k:Int) - (i:Int))=(k:Int) - (i:Int):=IntWalk.i64_in _ (by omega)
   go_wp2_with fail
   refine (same_any _ n c i k xs _ Hn.out hx (by exact HA.out) (by omega) (by omega)).mono ?_
   rintro e w1 ⟨rfl,q2,rfl⟩
   have htry1:Hid (a < sameN xs i k→tryAt xs k (a,f) i=(sameN xs i k,k - i)):=Lib.hid (fun h=>if_pos h)
   have htry2:Hid (¬ a < sameN xs i k→tryAt xs k (a,f) i=(a,f)):=Lib.hid (fun h=>if_neg h)
   generalize sameN xs i k=m at *
   by_cases hz:a < m
   ·have Hs2:Hid (tryAll xs k (ls.reverse.take (d+1))=(m,k - i)):=Lib.hid (by rw[Hs.out];exact htry1.out hz)
    go_wp2_with fail
    go_quiet (fail)
    go_wp2_with fail
    go_roundw
    case rel=>exact⟨d+1,by omega,int_eq (by have:=Hd.out;omega),by rw[Hs2.out],by rw[Hs2.out];exact int_eq (by dsimp only;omega),_,rfl⟩
    case measure=>simp[intOf]
   ·have Hs2:Hid (tryAll xs k (ls.reverse.take (d+1))=(a,f)):=Lib.hid (by rw[Hs.out];exact htry2.out hz)
    go_wp2_with fail
    go_roundw
    case rel=>exact⟨d+1,by omega,int_eq (by have:=Hd.out;omega),by rw[Hs2.out],by rw[Hs2.out],_,rfl⟩
    case measure=>simp[intOf]
  ·obtain rfl:d=N:=by omega
   have Hall:Hid (tryAll xs k (ls.reverse.take d)=longest xs k):=Lib.hid (by
    rw[List.take_of_length_le (by simp;have:=HN.out;omega)];exact Hl.out)
   rw[Hall.out]at hl1 hl2⊢
   go_wp2_with fail
   go_ret2
   exact⟨rfl,_,rfl⟩
theorem find_no (A:Option Addr) (n c k b:Nat) (xs:List UInt8) (w:World) (hn:xs.length=n) (hx:n≤1000000) (hk:n < k+3) (hK:k≤n) :
  Calls Tryz.prog 187 #[.map (some b),.slice A n c,.int .i64 (k:Int)] w (FindPost xs k w):=by
 have Hl:=Lib.hid (longest_end xs k (by omega))
 have hI:¬ ((k:Int)+3≤(n:Int)):=by omega
 clear hn
 go_enter Tryz.func187,Tryz.ntmps187
 go_wp2_with fail
 go_ret2
 exact⟨by rw[Hl.out];rfl,0,rfl⟩
theorem find_any (A:Option Addr) (n c k base b:Nat) (xs:List UInt8) (w:World) (hn:xs.length=n) (hnc:n≤c) (hx:n≤1000000) (hA:ByAt w A xs) (hk:k≤n) (hI:IdxAt w base b xs k) :
  Calls Tryz.prog 187 #[.map (some b),.slice A n c,.int .i64 (k:Int)] w (FindPost xs k w):=by
 by_cases h:k+3≤n
 ·exact find_yes A n c k base b xs w hn hnc hx hA h hI
 ·exact find_no A n c k b xs w hn hx (by omega) hk
end Go.Proofs.YtabdianhoabhhaaGreatDoor.Match
namespace Go.Proofs.YtabdianhoabhhaaGreatDoor.Match
open Go Go.RowKit Go.Proofs.YtabdianhoabhhaaGreatDoor
set_option linter.unusedVariables false
theorem tyT:SliceTy Tryz.prog 206 244 (.agg #[.int .u8 0,.int .i64 0,.int .i64 0]) 3 24:=⟨Tryz.underlying206,by kernel_rfl,rfl,by omega⟩
def tokC (t:Tok):List Value:=[u8v t.1,iv t.2.1,iv t.2.2]
theorem KeepsM.own {base b:Nat} {w w':World} (h:KeepsM base b w w') {F:Tri→List Nat} {B:Nat} (hI:GAt w B b F) {base':Nat} {e:TypeId} {size n:Nat} {v:Value} {xs:List Value} (ho:w.ownsRow base' e size v n xs) (he:e≠3):w'.ownsRow base' e size v n xs:=by
 refine⟨ho.1,?_⟩
 rcases ho.2 with h0 | ⟨g,cap,cur,rfl,h1,h2,h3⟩
 ·exact Or.inl h0
 ·refine Or.inr ⟨g,cap,cur,rfl,h1,?_,h3⟩
  refine h.other g _ h2 (fun eb=>?_) (fun cs t fr ec=>by injection ec with e1 e2 e3;rw[←e2];exact he)
  obtain⟨_,es,clock,hb,_⟩:=hI
  rw[eb,hb]at h2;cases h2
theorem GAt.grown {w w':World} {base b:Nat} {F:Tri→List Nat} (h:GAt w base b F) {base':Nat} {e:TypeId} {size n:Nat} {v:Value} {xs:List Value} (ho:w.ownsRow base' e size v n xs) (hg:w.grownBy w' v.ownBlock) (he:e≠3):GAt w' base b F:=
 h.keep fun k o hk ht=>by
  rw[hg.block k (Array.getElem?_eq_some_iff.1 hk).1 (fun eq=>?_)]
  ·exact hk
  ·rcases ho.2 with ⟨rfl,_⟩ | ⟨g,cap,cur,rfl,h1,h2,h3⟩
   ·simp[Value.ownBlock]at eq
   ·simp only[Value.ownBlock,Option.some.injEq]at eq
    subst eq
    rw[h2]at hk;injection hk with hk
    exact he (ht _ _ _ hk.symm)
def TokYes (xs:List UInt8) (w:World) (e:Ending) (w':World):Prop:=
 (∃ v,e=.returned (.tuple #[v,.int .i64 0])∧w'.ownsRow w.heap.size 244 3 v (toks xs).length ((toks xs).flatMap tokC))∧Below w.heap.size w w'
theorem tstep_lit {b:List UInt8} {k a m:Nat} {l:List Tok} (hk:k < b.length) (h:(longest b k).1=0∨(k+1 < b.length∧(longest b k).1 < (longest b (k+1)).1)):tstep b (k,l)=(k+1,l++[(b[k],0,0)]):=by
 unfold tstep
 rw[if_pos hk,if_pos h]
 simp only[List.getD_eq_getElem?_getD,List.getElem?_eq_getElem hk];rfl
theorem tstep_cpy {b:List UInt8} {k:Nat} {l:List Tok} (hk:k < b.length) (h:¬ ((longest b k).1=0∨(k+1 < b.length∧(longest b k).1 < (longest b (k+1)).1))):tstep b (k,l)=(k+(longest b k).1,l++[(0,((longest b k).1:Int),((longest b k).2:Int))]):=by
 unfold tstep
 rw[if_pos hk,if_neg h]
set_option maxRecDepth 100000 in
set_option maxHeartbeats 4000000 in
theorem tokens_yes (A:Option Addr) (n c:Nat) (xs:List UInt8) (w:World) (hn:xs.length=n) (hnc:n≤c) (hx:n≤3000) (hA:ByAt w A xs) :
  Calls Tryz.prog 155 #[.slice A n c] w (TokYes xs w):=by
 have Hn:=Lib.hid hn
 have HA:=Lib.hid hA
 clear hn hA
 have hnm:¬ (3000 < (n:Int)):=by omega
 have hmm:=@run_makeMap Tryz.prog
 go_enter Tryz.func155,Tryz.ntmps155
 go_wp2_with fail
 clear hmm
 go_loopw [5,6] (fun v i wr=>∃ V:Value,V=v∧∃ m k:Nat,∃ l:List Tok,titer xs m=(k,l)∧k≤n∧l.length≤k∧i=.int .i64 (k:Int)∧wr.ownsRow w.heap.size 244 3 V l.length (l.flatMap tokC)∧IdxAt wr w.heap.size w.heap.size xs k∧Below w.heap.size w wr) (fun _ i _=>n - (intOf i).toNat)
 case atStart=>exact⟨_,rfl,0,0,[],rfl,Nat.zero_le _,Nat.le_refl _,rfl,World.ownsRow_nil _ _ _ _,GAt.made w (Nat.le_refl _),(Below.refl _ w).alloc (Nat.le_refl _) _⟩
 case round=>
  obtain⟨v,rfl,m,k,l,hm,hk,hl,rfl,ho,hI,hb⟩:=hrel
  have Hm:=Lib.hid hm
  have Ho:=Lib.hid ho
  have HI:=Lib.hid hI
  have Hb:=Lib.hid hb
  clear hm ho hI hb
  by_cases hlt:k < n
  ·have hkl:k < xs.length:=by rw[Hn.out];exact hlt
   have HA1:=Lib.hid (HA.out.below Hb.out)
   go_wp2_with fail
   refine (find_any A n c k _ _ xs _ Hn.out hnc (by omega) HA1.out hk HI.out).mono ?_
   rintro e w1 ⟨rfl,hd⟩
   have hle:=longest_le xs k
   have h258:=hle.1
   have hsum:=hle.2.1
   have hfar:=hle.2.2.1
   clear hle
   have HI1:Hid (IdxAt w1 w.heap.size w.heap.size xs k):=Lib.hid (by obtain⟨q,rfl⟩:=hd;exact HI.out)
   have Ho1:Hid (w1.ownsRow w.heap.size 244 3 v l.length (l.flatMap tokC)):=Lib.hid (by obtain⟨q,rfl⟩:=hd;exact Ho.out)
   have HA2:Hid (ByAt w1 A xs):=Lib.hid (by obtain⟨q,rfl⟩:=hd;exact HA1.out)
   have Hb1:Hid (Below w.heap.size w w1):=Lib.hid (by obtain⟨q,rfl⟩:=hd;exact below_drewN' Hb.out q)
   clear hd HI Ho HA1 Hb
   have Hlit:Hid ((longest xs k).1=0∨(k+1 < xs.length∧(longest xs k).1 < (longest xs (k+1)).1)→titer xs (m+1)=(k+1,l++[(xs[k],0,0)])):=Lib.hid (fun h=>by
    show tstep xs (titer xs m)=_
    rw[Hm.out];exact tstep_lit (a:=0) (m:=0) hkl h)
   have Hcpy:Hid (¬ ((longest xs k).1=0∨(k+1 < xs.length∧(longest xs k).1 < (longest xs (k+1)).1))→titer xs (m+1)=(k+(longest xs k).1,l++[(0,((longest xs k).1:Int),((longest xs k).2:Int))])):=Lib.hid (fun h=>by
    show tstep xs (titer xs m)=_
    rw[Hm.out];exact tstep_cpy hkl h)
   rw[Hn.out]at hsum Hlit Hcpy
   generalize longest xs k=s at *
   obtain⟨a,f⟩:=s
   dsimp only at h258 hsum hfar Hlit Hcpy⊢
   go_wp2_with fail
   refine (put_any A n c k _ _ xs _ Hn.out hnc (by omega) HA2.out hk HI1.out).mono ?_
   rintro e w2 ⟨rfl,hI2,hK2⟩
   have HI2:=Lib.hid hI2
   have Ho2:=Lib.hid (hK2.own HI1.out Ho1.out (by decide))
   have Hb2:=Lib.hid (Hb1.out.trans hK2.below)
   clear hI2 hK2 HI1 Ho1 HA2 Hb1
   have hkx:k < xs.length:=hkl
   have hll:l.length≤3000:=by omega
   by_cases ha:a=0
   ·have Hnew:=Lib.hid (Hlit.out (Or.inl ha))
    subst ha
    obtain⟨w3,hw3⟩:∃ w3,w3=w2:=⟨_,rfl⟩
    subst hw3
    clear Hlit Hcpy
    obtain⟨bb,oo,rfl,hcell⟩:=(HA.out.below Hb2.out).get hkx
    generalize xs[k]=x at *
    have HI3:=Lib.hid (GAt.alloc HI2.out (.cells #[.int .u8 (n8 x),.int .i64 0,.int .i64 0] 244))
    have Ho3:=Lib.hid (own_keep Ho2.out ((Below.refl w3.heap.size w3).alloc (Nat.le_refl _) (.cells #[.int .u8 (n8 x),.int .i64 0,.int .i64 0] 244)))
    have Hb3:=Lib.hid (Hb2.out.alloc Hb2.out.size (.cells #[.int .u8 (n8 x),.int .i64 0,.int .i64 0] 244))
    have Hsl:Hid (SlAt (w3.alloc (.cells #[.int .u8 (n8 x),.int .i64 0,.int .i64 0] 244)) (some ⟨w3.heap.size,0,none⟩) [.int .u8 (n8 x),.int .i64 0,.int .i64 0]):=Lib.hid (SlAt.of_heap (heap_alloc_new _ _) rfl)
    go_wp2_with (at_builtin;refine wpList_app _ rfl (.tmp 53) (.tmp 59) _ rfl w.heap.size 244 _ 3 24 tyT v l.length (l.flatMap tokC) rfl Ho3.out (some ⟨w3.heap.size,0,none⟩) 1 1 [.int .u8 (n8 x),.int .i64 0,.int .i64 0] rfl rfl Hsl.out (by simp[Value.oneCell']) (by simp) (by unfold maxLen;omega) (by omega) Hb3.out.size ?_;intro v4 w4 hown4 hg4 _;have Ho4:=Lib.hid hown4;have HI4:=Lib.hid (GAt.grown HI3.out Ho3.out hg4 (by decide));have Hb4:=Lib.hid (own_below Ho3.out hg4 Hb3.out Hb3.out.size);clear hown4 hg4)
    go_roundw
    case rel=>exact⟨v4,rfl,m+1,k+1,_,Hnew.out,by omega,by simp;omega,by go_num,by rw[List.length_append,List.flatMap_append];exact Ho4.out,HI4.out,Hb4.out⟩
    case measure=>simp[intOf];omega
   ·have ha0:0 < a:=by omega
    by_cases hk1:k+1 < n
    ·have hk1':(k:Int)+1 < (n:Int):=by omega
     go_wp2_with fail
     have hk1i:((k:Int)+1)=((k+1:Nat):Int):=by omega
     rw[hk1i]
     refine (find_any A n c (k+1) _ _ xs _ Hn.out hnc (by omega) (HA.out.below Hb2.out) (by omega) HI2.out).mono ?_
     rintro e w3 ⟨rfl,hd⟩
     clear hk1i
     have h258':=(longest_le xs (k+1)).1
     have HI2:Hid (IdxAt w3 w.heap.size w.heap.size xs (k+1)):=Lib.hid (by obtain⟨q,rfl⟩:=hd;exact HI2.out)
     have Ho2:Hid (w3.ownsRow w.heap.size 244 3 v l.length (l.flatMap tokC)):=Lib.hid (by obtain⟨q,rfl⟩:=hd;exact Ho2.out)
     have Hb2:Hid (Below w.heap.size w w3):=Lib.hid (by obtain⟨q,rfl⟩:=hd;exact below_drewN' Hb2.out q)
     clear hd
     generalize longest xs (k+1)=s2 at *
     obtain⟨a2,f2⟩:=s2
     dsimp only at h258' Hlit Hcpy⊢
     by_cases hm2:a < a2
     ·have Hnew:=Lib.hid (Hlit.out (Or.inr ⟨hk1,hm2⟩))
      clear Hlit Hcpy
      obtain⟨bb,oo,rfl,hcell⟩:=(HA.out.below Hb2.out).get hkx
      generalize xs[k]=x at *
      have HI3:=Lib.hid (GAt.alloc HI2.out (.cells #[.int .u8 (n8 x),.int .i64 0,.int .i64 0] 244))
      have Ho3:=Lib.hid (own_keep Ho2.out ((Below.refl w3.heap.size w3).alloc (Nat.le_refl _) (.cells #[.int .u8 (n8 x),.int .i64 0,.int .i64 0] 244)))
      have Hb3:=Lib.hid (Hb2.out.alloc Hb2.out.size (.cells #[.int .u8 (n8 x),.int .i64 0,.int .i64 0] 244))
      have Hsl:Hid (SlAt (w3.alloc (.cells #[.int .u8 (n8 x),.int .i64 0,.int .i64 0] 244)) (some ⟨w3.heap.size,0,none⟩) [.int .u8 (n8 x),.int .i64 0,.int .i64 0]):=Lib.hid (SlAt.of_heap (heap_alloc_new _ _) rfl)
      go_wp2_with (at_builtin;refine wpList_app _ rfl (.tmp 53) (.tmp 59) _ rfl w.heap.size 244 _ 3 24 tyT v l.length (l.flatMap tokC) rfl Ho3.out (some ⟨w3.heap.size,0,none⟩) 1 1 [.int .u8 (n8 x),.int .i64 0,.int .i64 0] rfl rfl Hsl.out (by simp[Value.oneCell']) (by simp) (by unfold maxLen;omega) (by omega) Hb3.out.size ?_;intro v4 w4 hown4 hg4 _;have Ho4:=Lib.hid hown4;have HI4:=Lib.hid (GAt.grown HI3.out Ho3.out hg4 (by decide));have Hb4:=Lib.hid (own_below Ho3.out hg4 Hb3.out Hb3.out.size);clear hown4 hg4)
      go_roundw
      case rel=>exact⟨v4,rfl,m+1,k+1,_,Hnew.out,by omega,by simp;omega,by go_num,by rw[List.length_append,List.flatMap_append];exact Ho4.out,HI4.out,Hb4.out⟩
      case measure=>simp[intOf];omega
     ·have Hnew:=Lib.hid (Hcpy.out (by omega))
      clear Hlit Hcpy
      have HI3:=Lib.hid (GAt.alloc HI2.out (.cells #[.int .u8 0,.int .i64 (a:Int),.int .i64 (f:Int)] 244))
      have Ho3:=Lib.hid (own_keep Ho2.out ((Below.refl w3.heap.size w3).alloc (Nat.le_refl _) (.cells #[.int .u8 0,.int .i64 (a:Int),.int .i64 (f:Int)] 244)))
      have Hb3:=Lib.hid (Hb2.out.alloc Hb2.out.size (.cells #[.int .u8 0,.int .i64 (a:Int),.int .i64 (f:Int)] 244))
      have Hsl:Hid (SlAt (w3.alloc (.cells #[.int .u8 0,.int .i64 (a:Int),.int .i64 (f:Int)] 244)) (some ⟨w3.heap.size,0,none⟩) [.int .u8 0,.int .i64 (a:Int),.int .i64 (f:Int)]):=Lib.hid (SlAt.of_heap (heap_alloc_new _ _) rfl)
      have heq0:((a:Int) == 0)=false:=by simp;omega
      go_wp2_with (at_builtin;refine wpList_app _ rfl (.tmp 63) (.tmp 67) _ rfl w.heap.size 244 _ 3 24 tyT v l.length (l.flatMap tokC) rfl Ho3.out (some ⟨w3.heap.size,0,none⟩) 1 1 [.int .u8 0,.int .i64 (a:Int),.int .i64 (f:Int)] rfl rfl Hsl.out (by simp[Value.oneCell']) (by simp) (by unfold maxLen;omega) (by omega) Hb3.out.size ?_;intro v4 w4 hown4 hg4 _;have Ho4:=Lib.hid hown4;have HI4:=Lib.hid (GAt.grown HI3.out Ho3.out hg4 (by decide));have Hb4:=Lib.hid (own_below Ho3.out hg4 Hb3.out Hb3.out.size);clear hown4 hg4)
      go_loopw [11] (fun t wx=>∃ j:Nat,1≤j∧j≤a∧t=.int .i64 (j:Int)∧IdxAt wx w.heap.size w.heap.size xs (k+j)∧wx.ownsRow w.heap.size 244 3 v4 (l.length+1) (l.flatMap tokC++[.int .u8 0,.int .i64 (a:Int),.int .i64 (f:Int)])∧Below w.heap.size w wx) (fun t _=>a - (intOf t).toNat)
      case atStart=>exact⟨1,Nat.le_refl _,by omega,rfl,HI4.out,Ho4.out,Hb4.out⟩
      case round=>
       obtain⟨j,hj1,hj,rfl,hIj,hoj,hbj⟩:=hrel
       have HIj:=Lib.hid hIj
       have Hoj:=Lib.hid hoj
       have Hbj:=Lib.hid hbj
       clear hIj hoj hbj
       by_cases hja:j < a
       ·have HAj:=Lib.hid (HA.out.below Hbj.out)
        go_wp2_with fail
        have hkj:((k:Int)+(j:Int))=((k+j:Nat):Int):=by omega
        rw[hkj]
        refine (put_any A n c (k+j) _ _ xs _ Hn.out hnc (by omega) HAj.out (by omega) HIj.out).mono ?_
        rintro e w5 ⟨rfl,hI5,hK5⟩
        have HI5:=Lib.hid hI5
        have Ho5:=Lib.hid (hK5.own HIj.out Hoj.out (by decide))
        have Hb5:=Lib.hid (Hbj.out.trans hK5.below)
        clear hI5 hK5 hkj
        go_wp2_with fail
        go_roundw
        case rel=>exact⟨j+1,by omega,by omega,by go_num,HI5.out,Ho5.out,Hb5.out⟩
        case measure=>simp[intOf];omega
       ·obtain rfl:j=a:=by omega
        go_wp2_with fail
        go_roundw
        case rel=>exact⟨v4,rfl,m+1,k+j,_,Hnew.out,by omega,by simp;omega,by go_num,by rw[List.length_append,List.flatMap_append];exact Hoj.out,HIj.out,Hbj.out⟩
        case measure=>simp[intOf];omega
    ·have hk1':¬ ((k:Int)+1 < (n:Int)):=by omega
     have Hnew:=Lib.hid (Hcpy.out (by omega))
     obtain⟨w3,hw3⟩:∃ w3,w3=w2:=⟨_,rfl⟩
     subst hw3
     clear Hlit Hcpy
     have HI3:=Lib.hid (GAt.alloc HI2.out (.cells #[.int .u8 0,.int .i64 (a:Int),.int .i64 (f:Int)] 244))
     have Ho3:=Lib.hid (own_keep Ho2.out ((Below.refl w3.heap.size w3).alloc (Nat.le_refl _) (.cells #[.int .u8 0,.int .i64 (a:Int),.int .i64 (f:Int)] 244)))
     have Hb3:=Lib.hid (Hb2.out.alloc Hb2.out.size (.cells #[.int .u8 0,.int .i64 (a:Int),.int .i64 (f:Int)] 244))
     have Hsl:Hid (SlAt (w3.alloc (.cells #[.int .u8 0,.int .i64 (a:Int),.int .i64 (f:Int)] 244)) (some ⟨w3.heap.size,0,none⟩) [.int .u8 0,.int .i64 (a:Int),.int .i64 (f:Int)]):=Lib.hid (SlAt.of_heap (heap_alloc_new _ _) rfl)
     have heq0:((a:Int) == 0)=false:=by simp;omega
     go_wp2_with (at_builtin;refine wpList_app _ rfl (.tmp 63) (.tmp 67) _ rfl w.heap.size 244 _ 3 24 tyT v l.length (l.flatMap tokC) rfl Ho3.out (some ⟨w3.heap.size,0,none⟩) 1 1 [.int .u8 0,.int .i64 (a:Int),.int .i64 (f:Int)] rfl rfl Hsl.out (by simp[Value.oneCell']) (by simp) (by unfold maxLen;omega) (by omega) Hb3.out.size ?_;intro v4 w4 hown4 hg4 _;have Ho4:=Lib.hid hown4;have HI4:=Lib.hid (GAt.grown HI3.out Ho3.out hg4 (by decide));have Hb4:=Lib.hid (own_below Ho3.out hg4 Hb3.out Hb3.out.size);clear hown4 hg4)
     go_loopw [11] (fun t wx=>∃ j:Nat,1≤j∧j≤a∧t=.int .i64 (j:Int)∧IdxAt wx w.heap.size w.heap.size xs (k+j)∧wx.ownsRow w.heap.size 244 3 v4 (l.length+1) (l.flatMap tokC++[.int .u8 0,.int .i64 (a:Int),.int .i64 (f:Int)])∧Below w.heap.size w wx) (fun t _=>a - (intOf t).toNat)
     case atStart=>exact⟨1,Nat.le_refl _,by omega,rfl,HI4.out,Ho4.out,Hb4.out⟩
     case round=>
      obtain⟨j,hj1,hj,rfl,hIj,hoj,hbj⟩:=hrel
      have HIj:=Lib.hid hIj
      have Hoj:=Lib.hid hoj
      have Hbj:=Lib.hid hbj
      clear hIj hoj hbj
      by_cases hja:j < a
      ·have HAj:=Lib.hid (HA.out.below Hbj.out)
       go_wp2_with fail
       have hkj:((k:Int)+(j:Int))=((k+j:Nat):Int):=by omega
       rw[hkj]
       refine (put_any A n c (k+j) _ _ xs _ Hn.out hnc (by omega) HAj.out (by omega) HIj.out).mono ?_
       rintro e w5 ⟨rfl,hI5,hK5⟩
       have HI5:=Lib.hid hI5
       have Ho5:=Lib.hid (hK5.own HIj.out Hoj.out (by decide))
       have Hb5:=Lib.hid (Hbj.out.trans hK5.below)
       clear hI5 hK5 hkj
       go_wp2_with fail
       go_roundw
       case rel=>exact⟨j+1,by omega,by omega,by go_num,HI5.out,Ho5.out,Hb5.out⟩
       case measure=>simp[intOf];omega
      ·obtain rfl:j=a:=by omega
       go_wp2_with fail
       go_roundw
       case rel=>exact⟨v4,rfl,m+1,k+j,_,Hnew.out,by omega,by simp;omega,by go_num,by rw[List.length_append,List.flatMap_append];exact Hoj.out,HIj.out,Hbj.out⟩
       case measure=>simp[intOf];omega
  ·obtain rfl:k=n:=by omega
   have Hd:=Lib.hid (titer_done xs m (by rw[Hm.out,Hn.out];exact Nat.le_refl _))
   rw[Hm.out]at Hd
   go_wp2_with fail
   go_ret2
   exact⟨⟨_,rfl,by rw[←Hd.out];exact Ho.out⟩,Hb.out⟩
end Go.Proofs.YtabdianhoabhhaaGreatDoor.Match
