/- texts joined: BlkCounts BlkRuns WeighBd WeighBest RtBits RtLens WeighLen Row CodeCodes0 CodeRow BlkLens MatchSame. -/
import Derived.Test.YtabdianhoabhhaaGreatDoorZbQ4
import Derived.StillTailTactics
import Derived.Deep.CutRange
import Derived.Deep.RegionLaw
import Derived.Test.YtabdianhoabhhaaGreatDoorZbQ2
import Derived.Test.YtabdianhoabhhaaGreatDoorZbQ1
import Derived.Test.YtabdianhoabhhaaGreatDoorProg
import Derived.WalkSpells
namespace Go.Proofs.YtabdianhoabhhaaGreatDoor.Blk
open Go Go.RowKit Go.Proofs.YtabdianhoabhhaaGreatDoor Go.Proofs.YtabdianhoabhhaaGreatDoor.Bits Go.Proofs.YtabdianhoabhhaaGreatDoor.Code Go.Proofs.YtabdianhoabhhaaGreatDoor.Inf Go.Proofs.YtabdianhoabhhaaGreatDoor.Match
set_option linter.unusedVariables false
def tokD (t:Tok):List Value:=[u8v t.1,iv t.2.1,iv t.2.2]
def TokFine (t:Tok):Prop:=t.2.1=0∨(∃ s f:Nat,t.2.1=(s:Int)∧t.2.2=(f:Int)∧s≠0)
theorem countsK_take (l:List Tok) (k:Nat) (h:k < l.length):countsK (l.take (k+1))=cstep (countsK (l.take k)) l[k]:=by
 rw[take_snoc l k h,countsK_snoc]
theorem getD_le_sum (l:List Nat) (i:Nat):l.getD i 0≤l.sum:=by
 rw[List.getD_eq_getElem?_getD]
 rcases Nat.lt_or_ge i l.length with h | h
 ·rw[List.getElem?_eq_getElem h];exact le_sum l _ (List.getElem_mem h)
 ·rw[List.getElem?_eq_none h];exact Nat.zero_le _
theorem nats_cell {w:World} {g:Nat} {l:List Nat} (h:Blk w g 3 (nats l)) {i:Nat} (hi:i < l.length):w.cell? ⟨g,i,none⟩=some (.int .i64 (l.getD i 0:Int)):=by
 rw[h.cell,nats_get l i hi,List.getD_eq_getElem?_getD,List.getElem?_eq_getElem hi];rfl
theorem nats_bump {w:World} {g:Nat} {l:List Nat} (h:Blk w g 3 (nats l)) (i:Nat):Blk (w.setCell ⟨g,i,none⟩ (.int .i64 ((l.getD i 0:Int)+1))) g 3 (nats (bump l i)):=by
 have:=h.set_ i (.int .i64 ((l.getD i 0+1:Nat):Int))
 rw[nats_set]at this
 exact this
set_option maxRecDepth 100000 in
set_option maxHeartbeats 3000000 in
theorem counts_any (A:Option Addr) (m c:Nat) (l:List Tok) (w:World) (hm:l.length=m) (hx:m≤3000) (hA:SlAt w A (l.flatMap tokD)) (hf:∀ t∈l,TokFine t) :
    Calls Tryz.prog 189 #[.slice A m c] w fun e w'=>(∃ g1 g2,e=.returned (.tuple #[.slice (some ⟨g1,0,none⟩) 286 286,.slice (some ⟨g2,0,none⟩) 30 30])∧w.heap.size≤g1∧w.heap.size≤g2∧Blk w' g1 3 (nats (countsP l).1)∧Blk w' g2 3 (nats (countsP l).2))∧Below w.heap.size w w':=by
  have HM:=Lib.hid hm
  have HA:=Lib.hid hA
  have HF:=Lib.hid hf
  obtain⟨z1,hz1⟩:∃ z,z=nats (List.replicate 286 0):=⟨_,rfl⟩
  obtain⟨z2,hz2⟩:∃ z,z=nats (List.replicate 30 0):=⟨_,rfl⟩
  have hmk1:∀ u:World,(Instr.makeSlice 89 (.int .i64 286) (.int .i64 286)).run Tryz.prog u=.ok (.slice (some ⟨u.heap.size,0,none⟩) 286 286) (u.alloc (.cells z1 3)):=fun u=>by rw[hz1,←nats_zero];exact make_ints 286 (by omega) u
  have hmk2:∀ u:World,(Instr.makeSlice 89 (.int .i64 30) (.int .i64 30)).run Tryz.prog u=.ok (.slice (some ⟨u.heap.size,0,none⟩) 30 30) (u.alloc (.cells z2 3)):=fun u=>by rw[hz2,←nats_zero];exact make_ints 30 (by omega) u
  have Hz1:=Lib.hid hz1
  have Hz2:=Lib.hid hz2
  clear hz1 hz2
  clear hm hA hf
  go_enter Tryz.func189,Tryz.ntmps189
  go_wp2_with fail
  go_region
  all_goals (
    clear hmk1 hmk2
    first
    | (obtain⟨w1,hw1⟩:∃ x,x=((w.alloc (.cells z1 3)).alloc (.cells z2 3)).drew:=⟨_,rfl⟩
       obtain⟨g1,hg1⟩:∃ x,x=w.heap.size:=⟨_,rfl⟩
       obtain⟨g2,hg2⟩:∃ x,x=w.heap.size+1:=⟨_,rfl⟩
       rw[←hw1,←hg2,show Value.slice (some ⟨w.heap.size,0,none⟩) 286 286=Value.slice (some ⟨g1,0,none⟩) 286 286 by rw[hg1]]
       have HB1:Hid (Blk w1 g1 3 z1):=Lib.hid (by rw[hw1,hg1];exact ((Blk.new w _ _).alloc _).drew)
       have HB2:Hid (Blk w1 g2 3 z2):=Lib.hid (by have:=(Blk.new (w.alloc (.cells z1 3)) 3 z2).drew;rw[World.size_alloc]at this;rw[hw1,hg2];exact this)
       have Hb1:Hid (Below w.heap.size w w1):=Lib.hid (by rw[hw1];exact (((Below.refl _ _).alloc (Nat.le_refl _) _).alloc (by simp) _).drew)
       have Hne:Hid (g1≠g2):=Lib.hid (by omega)
       have Hge:Hid (w.heap.size≤g1∧w.heap.size≤g2):=Lib.hid (by omega)
       clear hw1 hg1 hg2)
    | (obtain⟨w1,hw1⟩:∃ x,x=((w.alloc (.cells z2 3)).alloc (.cells z1 3)).drew:=⟨_,rfl⟩
       obtain⟨g2,hg2⟩:∃ x,x=w.heap.size:=⟨_,rfl⟩
       obtain⟨g1,hg1⟩:∃ x,x=w.heap.size+1:=⟨_,rfl⟩
       rw[←hw1,←hg1,show Value.slice (some ⟨w.heap.size,0,none⟩) 30 30=Value.slice (some ⟨g2,0,none⟩) 30 30 by rw[hg2]]
       have HB2:Hid (Blk w1 g2 3 z2):=Lib.hid (by rw[hw1,hg2];exact ((Blk.new w _ _).alloc _).drew)
       have HB1:Hid (Blk w1 g1 3 z1):=Lib.hid (by have:=(Blk.new (w.alloc (.cells z2 3)) 3 z1).drew;rw[World.size_alloc]at this;rw[hw1,hg1];exact this)
       have Hb1:Hid (Below w.heap.size w w1):=Lib.hid (by rw[hw1];exact (((Below.refl _ _).alloc (Nat.le_refl _) _).alloc (by simp) _).drew)
       have Hne:Hid (g1≠g2):=Lib.hid (by omega)
       have Hge:Hid (w.heap.size≤g1∧w.heap.size≤g2):=Lib.hid (by omega)
       clear hw1 hg1 hg2)
    rw[Hz1.out]at HB1
    rw[Hz2.out]at HB2
    clear Hz1 Hz2
    go_wp2_with fail
    refine (sames_any _).mono ?_
    rintro e w2 ⟨A2,c2,rfl,ho2,hb2⟩
    have HB1':=Lib.hid (HB1.out.below hb2 HB1.out.lt)
    have HB2':=Lib.hid (HB2.out.below hb2 HB2.out.lt)
    have Hb2:=Lib.hid (Hb1.out.trans (hb2.mono Hb1.out.size))
    have HS:=Lib.hid ho2
    clear hb2 ho2 HB1 HB2 Hb1
    go_wp2_with fail
    refine (fars_any _).mono ?_
    rintro e w3 ⟨A3,c3,rfl,ho3,hb3⟩
    have HB1:=Lib.hid (HB1'.out.below hb3 HB1'.out.lt)
    have HB2:=Lib.hid (HB2'.out.below hb3 HB2'.out.lt)
    have Hb3:=Lib.hid (Hb2.out.trans (hb3.mono Hb2.out.size))
    have HS2:Hid (KAt w3 259 A2 (sameL.flatMap exC)):=Lib.hid (by obtain⟨A,c,e,_,_,h,_⟩:=own_kat (own_keep HS.out hb3);injection e with e;subst e;exact h)
    have HS3:Hid (KAt w3 259 A3 (farL.flatMap exC)):=Lib.hid (by obtain⟨A,c,e,_,_,h,_⟩:=own_kat ho3;injection e with e;subst e;exact h)
    clear hb3 ho3 HB1' HB2' Hb2 HS
    go_wp2_with fail
    go_loopw [14] (fun i wr=>∃ k:Nat,k≤m∧i=.int .i64 (k:Int)∧Blk wr g1 3 (nats (countsK (l.take k)).1)∧Blk wr g2 3 (nats (countsK (l.take k)).2)∧Keeps w.heap.size [3] w3 wr) (fun i _=>m - (intOf i).toNat)
    case atStart=>exact⟨0,Nat.zero_le _,rfl,HB1.out,HB2.out,Keeps.refl _ _ _⟩
    case round=>
      obtain⟨k,hk,rfl,hb1,hb2,hkp⟩:=hrel
      obtain⟨cl1,cl2⟩:=countsK_len (l.take k)
      obtain⟨cs1,cs2⟩:=countsK_sum (l.take k)
      have hlk:(l.take k).length≤k:=by simp;omega
      have Hbr:=Lib.hid (Hb3.out.trans hkp.below)
      have Hk:=Lib.hid hkp
      have H1:=Lib.hid hb1
      have H2:=Lib.hid hb2
      clear hb1 hb2 hkp
      by_cases hlt:k < m
      · have hkl:k < l.length:=by rw[HM.out];exact hlt
        obtain⟨b,o,rfl,hc⟩:=slat_elem (size:=3) (fun _=>rfl) (by omega) (HA.out.below Hbr.out) hkl
        have hc0:=hc 0 _ rfl
        have hc1:=hc 1 _ rfl
        have hc2:=hc 2 _ rfl
        simp only[Nat.add_zero]at hc0
        have Hstep:=Lib.hid (countsK_take l k hkl)
        have hfine:=HF.out _ (List.getElem_mem hkl)
        clear hc
        generalize l[k]=t at *
        obtain⟨x,s,f⟩:=t
        have hx8:=n8_bd x
        dsimp only at hc0 hc1 hc2 Hstep hfine
        simp only[u8v,iv]at hc0 hc1 hc2
        obtain⟨q,hq⟩:∃ q:Nat,(q:Int)=n8 x:=⟨x.toNat,rfl⟩
        have Hq:Hid (x.toNat=q):=Lib.hid (by unfold n8 at hq;omega)
        rw[←hq]at hc0 hx8
        clear hq
        generalize countsK (l.take k)=S at *
        obtain⟨S1,S2⟩:=S
        dsimp only at cl1 cl2 cs1 cs2 H1 H2
        obtain⟨tk,htk⟩:∃ tk,tk=Obj.cells #[.int .u8 (q:Int),.int .i64 s,.int .i64 f] 244:=⟨_,rfl⟩
        by_cases hs:s=0
        · subst hs
          have Hq2:Hid (cstep (S1,S2) (x,0,f)=(bump S1 q,S2)):=Lib.hid (by unfold cstep;rw[if_pos rfl,Hq.out])
          rw[Hq2.out]at Hstep
          have hcell:(wr.alloc (.cells #[.int .u8 (q:Int),.int .i64 0,.int .i64 f] 244)).cell? ⟨g1,q,none⟩=some (.int .i64 (S1.getD q 0:Int)):=nats_cell (H1.out.alloc _) (by omega)
          have hfr:(wr.alloc (.cells #[.int .u8 (q:Int),.int .i64 0,.int .i64 f] 244)).frozen? ⟨g1,q,none⟩=false:=(H1.out.alloc _).frozen q
          have hle:=getD_le_sum S1 q
          have hg1:=H1.out.lt
          have H1n:=Lib.hid ((nats_bump H1.out q).alloc (.cells #[.int .u8 (q:Int),.int .i64 0,.int .i64 f] 244))
          have H2n:=Lib.hid ((H2.out.far (p:=⟨g1,q,none⟩) (fun h=>Hne.out h.symm) (.int .i64 ((S1.getD q 0:Int)+1))).alloc (.cells #[.int .u8 (q:Int),.int .i64 0,.int .i64 f] 244))
          have Hkn:=Lib.hid ((Hk.out.setBlk H1.out (by simp) Hge.out.1 q (.int .i64 ((S1.getD q 0:Int)+1))).alloc (by rw[World.size_setCell];exact Nat.le_trans Hge.out.1 (Nat.le_of_lt hg1)) (.cells #[.int .u8 (q:Int),.int .i64 0,.int .i64 f] 244))
          generalize S1.getD q 0=y at *
          clear hfine htk
          go_wp2_with fail
          go_roundw
          case rel=>exact⟨k+1,by omega,by go_num,by rw[Hstep.out];exact H1n.out,by rw[Hstep.out];exact H2n.out,Hkn.out⟩
          case measure=>simp[intOf];omega
        · obtain⟨s',f',rfl,rfl,hs0⟩:=hfine.resolve_left hs
          have hs1:((s':Int) == 0)=false:=by rw[beq_eq_false_iff_ne];omega
          clear hs hs0 htk
          obtain⟨j1,hj1⟩:∃ j,j=symS sameL s':=⟨_,rfl⟩
          obtain⟨j2,hj2⟩:∃ j,j=symS farL f':=⟨_,rfl⟩
          have hl1:j1 < 29:=by rw[hj1];exact symS_lt sameL _ (by decide)
          have hl2:j2 < 30:=by rw[hj2];exact symS_lt farL _ (by decide)
          have Hq2:Hid (cstep (S1,S2) (x,(s':Int),(f':Int))=(bump S1 (257+j1),bump S2 j2)):=Lib.hid (by
            unfold cstep
            rw[if_neg (by dsimp only;intro h;rw[h]at hs1;simp at hs1)]
            dsimp only
            rw[Int.toNat_natCast,Int.toNat_natCast,←hj1,←hj2])
          rw[Hq2.out]at Hstep
          have hba:Below wr.heap.size wr (wr.alloc (.cells #[.int .u8 (q:Int),.int .i64 (s':Int),.int .i64 (f':Int)] 244)):=(Below.refl _ _).alloc (Nat.le_refl _) _
          have Hc1:=Lib.hid (symbol_any A2 29 c2 sameL s' (wr.alloc (.cells #[.int .u8 (q:Int),.int .i64 (s':Int),.int .i64 (f':Int)] 244)) rfl (by omega) ((HS2.out.keeps Hk.out (by simp)).below hba).slat)
          rw[←hj1]at Hc1
          have Hj2:=Lib.hid hj2
          clear hj1 hj2 hfine
          go_wp2_with fail
          refine (Hc1.out).mono ?_
          rintro e w5 ⟨rfl,hb5⟩
          have Ht5:Hid (Blk w5 wr.heap.size 244 #[.int .u8 (q:Int),.int .i64 (s':Int),.int .i64 (f':Int)]):=Lib.hid ((Blk.new wr _ _).below hb5 (Blk.new wr _ _).lt)
          have H15:=Lib.hid ((H1.out.alloc (.cells #[.int .u8 (q:Int),.int .i64 (s':Int),.int .i64 (f':Int)] 244)).below hb5 (H1.out.alloc _).lt)
          have H25:=Lib.hid ((H2.out.alloc (.cells #[.int .u8 (q:Int),.int .i64 (s':Int),.int .i64 (f':Int)] 244)).below hb5 (H2.out.alloc _).lt)
          have Hk5:=Lib.hid ((Hk.out.alloc (Nat.le_trans Hge.out.1 (Nat.le_of_lt H1.out.lt)) (.cells #[.int .u8 (q:Int),.int .i64 (s':Int),.int .i64 (f':Int)] 244)).trans (Keeps.of_below hb5 (Nat.le_trans Hge.out.1 (Nat.le_of_lt (H1.out.alloc _).lt))))
          have Hgt:Hid (g1 < wr.heap.size∧g2 < wr.heap.size):=Lib.hid ⟨H1.out.lt,H2.out.lt⟩
          clear hb5 hba Hc1
          generalize wr.heap.size=gt at *
          have hcell:=nats_cell H15.out (i:=257+j1) (by omega)
          have hfr:=H15.out.frozen (257+j1)
          have hle:=getD_le_sum S1 (257+j1)
          have H16:=Lib.hid (nats_bump H15.out (257+j1))
          have H26:=Lib.hid (H25.out.far (p:=⟨g1,257+j1,none⟩) (fun h=>Hne.out h.symm) (.int .i64 ((S1.getD (257+j1) 0:Int)+1)))
          have Ht6:=Lib.hid (Ht5.out.far (p:=⟨g1,257+j1,none⟩) (show gt≠g1 from by have:=Hgt.out;omega) (.int .i64 ((S1.getD (257+j1) 0:Int)+1)))
          have Hk6:=Lib.hid (Hk5.out.setBlk H15.out (by simp) Hge.out.1 (257+j1) (.int .i64 ((S1.getD (257+j1) 0:Int)+1)))
          generalize S1.getD (257+j1) 0=y at *
          have hsum:IntKind.i64.wrap (257+(j1:Int))=((257+j1:Nat):Int):=IntWalk.i64_in _ (by omega)
          generalize hr:257+j1=r at *
          have Hr:=Lib.hid hr
          have hr2:r < 286:=by omega
          clear hr H15 H25 Hk5
          have hc6:(w5.setCell ⟨g1,r,none⟩ (.int .i64 ((y:Int)+1))).cell? ⟨gt,2,none⟩=some (.int .i64 (f':Int)):=by rw[Ht6.out.cell];rfl
          have Hc2:=Lib.hid (symbol_any A3 30 c3 farL f' (w5.setCell ⟨g1,r,none⟩ (.int .i64 ((y:Int)+1))) rfl (by omega) (HS3.out.keeps Hk6.out (by simp)).slat)
          rw[←Hj2.out]at Hc2
          have H16':=H16
          go_wp2_with fail
          refine (Hc2.out).mono ?_
          rintro e w7 ⟨rfl,hb7⟩
          have H17:=Lib.hid (H16.out.below hb7 H16.out.lt)
          have H27:=Lib.hid (H26.out.below hb7 H26.out.lt)
          have Hk7:=Lib.hid (Hk6.out.trans (Keeps.of_below hb7 (Nat.le_trans Hge.out.1 (Nat.le_of_lt H16.out.lt))))
          clear hb7 hc6 Hc2 hcell hfr hle H16 H16' H26 Hk6
          have hcell:=nats_cell H27.out (i:=j2) (by omega)
          have hfr:=H27.out.frozen j2
          have hle:=getD_le_sum S2 j2
          have H18:=Lib.hid (H17.out.far (p:=⟨g2,j2,none⟩) Hne.out (.int .i64 ((S2.getD j2 0:Int)+1)))
          have H28:=Lib.hid (nats_bump H27.out j2)
          have Hk8:=Lib.hid (Hk7.out.setBlk H27.out (by simp) Hge.out.2 j2 (.int .i64 ((S2.getD j2 0:Int)+1)))
          generalize S2.getD j2 0=y2 at *
          clear H17 H27 Hk7 hsum
          go_wp2_with fail
          go_roundw
          case rel=>exact⟨k+1,by omega,by go_num,by rw[Hstep.out];exact H18.out,by rw[Hstep.out];exact H28.out,Hk8.out⟩
          case measure=>simp[intOf];omega
      · obtain rfl:k=m:=by omega
        have Hal:Hid (l.take k=l):=Lib.hid (List.take_of_length_le (by rw[HM.out];exact Nat.le_refl _))
        have He:Hid (countsP l=(bump (countsK (l.take k)).1 256,(countsK (l.take k)).2)):=Lib.hid (by rw[Hal.out];rfl)
        generalize countsK (l.take k)=S at *
        obtain⟨S1,S2⟩:=S
        dsimp only at cl1 cl2 cs1 cs2 H1 H2 He
        have hcell:=nats_cell H1.out (i:=256) (by omega)
        have hfr:=H1.out.frozen 256
        have hle:=getD_le_sum S1 256
        have H1n:=Lib.hid (nats_bump H1.out 256)
        have H2n:=Lib.hid (H2.out.far (p:=⟨g1,256,none⟩) (fun h=>Hne.out h.symm) (.int .i64 ((S1.getD 256 0:Int)+1)))
        have Hbn:=Lib.hid (Hb3.out.trans (Hk.out.setBlk H1.out (by simp) Hge.out.1 256 (.int .i64 ((S1.getD 256 0:Int)+1))).below)
        generalize S1.getD 256 0=y at *
        clear H1 H2 Hk
        go_wp2_with fail
        go_ret2
        exact⟨⟨g1,g2,rfl,Hge.out.1,Hge.out.2,by rw[He.out];exact H1n.out,by rw[He.out];exact H2n.out⟩,Hbn.out⟩)
end Go.Proofs.YtabdianhoabhhaaGreatDoor.Blk
namespace Go.Proofs.YtabdianhoabhhaaGreatDoor.Blk
set_option linter.unusedVariables false
theorem fillR_fuel (v:Nat):∀ (f g n:Nat),n≤f→n≤g→fillR v f n=fillR v g n
 | 0,0,n,_,_=>rfl
 | 0,g+1,n,h,_=>by
  obtain rfl:n=0:=by omega
  simp[fillR]
 | f+1,0,n,_,h=>by
  obtain rfl:n=0:=by omega
  simp[fillR]
 | f+1,g+1,n,h,k=>by
  unfold fillR
  by_cases h0:n=0
  ·rw[if_pos h0,if_pos h0]
  ·rw[if_neg h0,if_neg h0]
   by_cases h1:v=0∧11≤n
   ·rw[if_pos h1,if_pos h1,fillR_fuel v f g _ (by omega) (by omega)]
   ·rw[if_neg h1,if_neg h1]
    by_cases h2:v=0∧3≤n
    ·rw[if_pos h2,if_pos h2,fillR_fuel v f g _ (by omega) (by omega)]
    ·rw[if_neg h2,if_neg h2]
     by_cases h3:v≠0∧3≤n
     ·rw[if_pos h3,if_pos h3,fillR_fuel v f g _ (by omega) (by omega)]
     ·rw[if_neg h3,if_neg h3,fillR_fuel v f g _ (by omega) (by omega)]
def fillN (v n:Nat):List (Nat×Nat×Nat):=fillR v n n
theorem fillN_18 (n:Nat) (h:11≤n):fillN 0 n=(18,min n 138 - 11,7) :: fillN 0 (n - min n 138):=by
 obtain⟨m,rfl⟩:∃ m,n=m+1:=⟨n - 1,by omega⟩
 unfold fillN
 conv=>lhs;unfold fillR
 rw[if_neg (by omega),if_pos ⟨rfl,h⟩,fillR_fuel 0 m (m+1 - min (m+1) 138) _ (by omega) (by omega)]
theorem fillN_17 (n:Nat) (h:3≤n) (h2:n < 11):fillN 0 n=(17,min n 10 - 3,3) :: fillN 0 (n - min n 10):=by
 obtain⟨m,rfl⟩:∃ m,n=m+1:=⟨n - 1,by omega⟩
 unfold fillN
 conv=>lhs;unfold fillR
 rw[if_neg (by omega),if_neg (by omega),if_pos ⟨rfl,h⟩,fillR_fuel 0 m (m+1 - min (m+1) 10) _ (by omega) (by omega)]
theorem fillN_16 (v n:Nat) (hv:v≠0) (h:3≤n):fillN v n=(16,min n 6 - 3,2) :: fillN v (n - min n 6):=by
 obtain⟨m,rfl⟩:∃ m,n=m+1:=⟨n - 1,by omega⟩
 unfold fillN
 conv=>lhs;unfold fillR
 rw[if_neg (by omega),if_neg (fun k=>hv k.1),if_neg (fun k=>hv k.1),if_pos ⟨hv,h⟩,fillR_fuel v m (m+1 - min (m+1) 6) _ (by omega) (by omega)]
theorem fillN_one (v n:Nat) (h0:0 < n) (h:n < 3):fillN v n=(v,0,0) :: fillN v (n - 1):=by
 obtain⟨m,rfl⟩:∃ m,n=m+1:=⟨n - 1,by omega⟩
 unfold fillN
 conv=>lhs;unfold fillR
 rw[if_neg (by omega),if_neg (by omega),if_neg (by omega),if_neg (by omega)];rfl
theorem oneRun_eq (v n:Nat):oneRun v n=if v=0 then fillN 0 n else (v,0,0) :: fillN v (n - 1):=rfl
theorem runN_le (l:List Nat) (i:Nat) (h:i < l.length):1≤runN l i∧i+runN l i≤l.length:=by
 unfold runN
 have h1:=(List.takeWhile_prefix (l:=l.drop (i+1)) fun x=>x == l.getD i 0).length_le
 rw[List.length_drop]at h1
 omega
theorem runsF_fuel (l:List Nat):∀ (f g i:Nat),l.length≤f+i→l.length≤g+i→runsF l f i=runsF l g i
 | 0,0,i,_,_=>rfl
 | 0,g+1,i,h,_=>by unfold runsF;rw[if_pos (by omega)]
 | f+1,0,i,_,h=>by unfold runsF;rw[if_pos (by omega)]
 | f+1,g+1,i,h,k=>by
  unfold runsF
  by_cases h0:l.length≤i
  ·rw[if_pos h0,if_pos h0]
  ·have:=runN_le l i (by omega)
   rw[if_neg h0,if_neg h0,runsF_fuel l f g _ (by omega) (by omega)]
def runsI (l:List Nat) (i:Nat):List (Nat×Nat×Nat):=runsF l (l.length - i) i
theorem runsI_all (l:List Nat):runsP l=runsI l 0:=rfl
theorem runsI_end (l:List Nat) (i:Nat) (h:l.length≤i):runsI l i=[]:=by
 unfold runsI
 rw[show l.length - i=0 by omega];rfl
theorem runsI_step (l:List Nat) (i:Nat) (h:i < l.length):runsI l i=oneRun (l.getD i 0) (runN l i)++runsI l (i+runN l i):=by
 have:=runN_le l i h
 obtain⟨f,hf⟩:∃ f,l.length - i=f+1:=⟨l.length - i - 1,by omega⟩
 unfold runsI
 rw[hf]
 conv=>lhs;unfold runsF
 rw[if_neg (by omega),runsF_fuel l f (l.length - (i+runN l i)) _ (by omega) (by omega)]
def RunOk (x:Nat×Nat×Nat):Prop:=x.1 < 19∧x.2.1 < 128∧x.2.2≤7
theorem fillR_ok (v:Nat) (hv:v≤15):∀ (f n:Nat),∀ x∈fillR v f n,RunOk x
 | 0,n,x,h=>by simp[fillR]at h
 | f+1,n,x,h=>by
  unfold fillR at h
  by_cases h0:n=0
  ·rw[if_pos h0]at h;cases h
  ·rw[if_neg h0]at h
   by_cases h1:v=0∧11≤n
   ·rw[if_pos h1]at h
    rcases List.mem_cons.1 h with rfl | h
    ·(unfold RunOk;dsimp only;omega)
    ·exact fillR_ok v hv f _ x h
   ·rw[if_neg h1]at h
    by_cases h2:v=0∧3≤n
    ·rw[if_pos h2]at h
     rcases List.mem_cons.1 h with rfl | h
     ·(unfold RunOk;dsimp only;omega)
     ·exact fillR_ok v hv f _ x h
    ·rw[if_neg h2]at h
     by_cases h3:v≠0∧3≤n
     ·rw[if_pos h3]at h
      rcases List.mem_cons.1 h with rfl | h
      ·(unfold RunOk;dsimp only;omega)
      ·exact fillR_ok v hv f _ x h
     ·rw[if_neg h3]at h
      rcases List.mem_cons.1 h with rfl | h
      ·(unfold RunOk;dsimp only;omega)
      ·exact fillR_ok v hv f _ x h
theorem runsF_ok (l:List Nat) (hl:∀ y∈l,y≤15):∀ (f i:Nat),∀ x∈runsF l f i,RunOk x
 | 0,i,x,h=>by simp[runsF]at h
 | f+1,i,x,h=>by
  unfold runsF at h
  by_cases h0:l.length≤i
  ·rw[if_pos h0]at h;cases h
  ·rw[if_neg h0]at h
   have hv:l.getD i 0≤15:=by
    rw[List.getD_eq_getElem?_getD,List.getElem?_eq_getElem (by omega:i < l.length)]
    exact hl _ (List.getElem_mem _)
   rcases List.mem_append.1 h with h | h
   ·unfold oneRun at h
    by_cases h1:l.getD i 0=0
    ·rw[if_pos h1]at h;exact fillR_ok 0 (by omega) _ _ x h
    ·rw[if_neg h1]at h
     rcases List.mem_cons.1 h with rfl | h
     ·(unfold RunOk;dsimp only;omega)
     ·exact fillR_ok _ hv _ _ x h
   ·exact runsF_ok l hl f _ x h
theorem runs_ok (l:List Nat) (hl:∀ y∈l,y≤15):∀ x∈runsP l,RunOk x:=runsF_ok l hl _ _
end Go.Proofs.YtabdianhoabhhaaGreatDoor.Blk
namespace Go.Proofs.YtabdianhoabhhaaGreatDoor.Weigh
open Go Go.RowKit Go.Proofs.YtabdianhoabhhaaGreatDoor Go.Proofs.YtabdianhoabhhaaGreatDoor.SP
set_option linter.unusedVariables false
theorem step_app {P:Program} {ops:Array Oper} {o:Oper} {a:Act} {w:World} {K:Act→World→Prop} {Q:Exit→Act→World→Prop} {E:Prop} (hgd:o.guard=none) (s x:Operand) (t:TypeId)
  (hop:o.op=.call { callee:=.builtin .append,args:=#[s,x],argTypes:=#[t,t] })
  (base:Nat) (e:TypeId) (z:Value) (size bytes:Nat) (hT:SliceTy P t e z size bytes)
  (v:Value) (n:Nat) (xs:List Value) (hs:a.eval s=v) (hown:w.ownsRow base e size v n xs)
  (A:Option Addr) (m c:Nat) (news:List Value) (hx:a.eval x=.slice A m c) (hl:news.length=m*size) (hr:SlAt w A news) (h1:∀ u∈news,u.oneCell'=true)
  (hA:A=none→m=0) (h63:n+m≤maxLen) (hbytes:(n+m)*bytes≤140737488355328) (hbase:base≤w.heap.size)
  (hK:∀ v' w',w'.ownsRow base e size v' (n+m) (xs++news)→w.grownBy w' v.ownBlock→K (a.put o.dst v') w') :
  if Region.wanted o (yielded ops a.tmps)=true then Oper.wp P o a w K Q else E:=by
 have hw:Region.wanted o (yielded ops a.tmps)=true:=by simp[Region.wanted,hgd]
 rw[if_pos hw]
 obtain⟨v',w',hrun,h2,h3,h4⟩:=run_app (P:=P) w base t o.type e z size bytes hT v n xs hown A m c news hl hr h1 hA h63 hbytes hbase
 unfold Oper.wp
 simp[execOp,hop,resolve,invoke,builtin,hs,hx,hrun,Result.andThen]
 exact hK v' w' h2 h3
theorem own_low {w w':World} {base el size n m c g:Nat} {xs:List Value} {B:Nat} (h:w.ownsRow base el size (.slice (some ⟨g,0,none⟩) m c) n xs) (hb:Below B w w') (hg:g < B):w'.ownsRow base el size (.slice (some ⟨g,0,none⟩) m c) n xs:=by
 refine⟨h.1,?_⟩
 rcases h.2 with h1 | ⟨g',cap,cur,hv,hbg,hgb,r⟩
 ·exact .inl h1
 ·refine .inr ⟨g',cap,cur,hv,hbg,?_,r⟩
  have:g'=g:=by injection hv with hv;injection hv with hv;injection hv with hv;exact hv.symm
  subst this
  rw[hb.block g' hg];exact hgb
def BdP (t:Nat) (p:Pk):Prop:=p.1≤1000000*2 ^ t∧∀ x∈p.2,x≤2 ^ t
theorem BdP.up {t:Nat} {p:Pk} (h:BdP t p):BdP (t+1) p:=by
 obtain⟨h1,h2⟩:=h
 refine⟨by rw[Nat.pow_succ];omega,fun x hx=>?_⟩
 have:=h2 x hx
 rw[Nat.pow_succ];omega
theorem zip_mem (a b:List Nat) (x:Nat) (h:x∈List.zipWith (·+·) a b):∃ y∈a,∃ z∈b,x=y+z:=by
 induction a generalizing b with
 | nil=>simp at h
 | cons c a ih=>
  cases b with
  | nil=>simp at h
  | cons d b=>
   rw[List.zipWith_cons_cons,List.mem_cons]at h
   rcases h with h | h
   ·exact⟨c,by simp,d,by simp,h⟩
   ·obtain⟨y,hy,z,hz,e⟩:=ih b h
    exact⟨y,by simp[hy],z,by simp[hz],e⟩
theorem BdP.both {t:Nat} {p q:Pk} (h:BdP t p) (k:BdP t q):BdP (t+1) (both p q):=by
 obtain⟨h1,h2⟩:=h
 obtain⟨k1,k2⟩:=k
 refine⟨by show p.1+q.1≤_;rw[Nat.pow_succ];omega,fun x hx=>?_⟩
 obtain⟨y,hy,z,hz,rfl⟩:=zip_mem _ _ _ hx
 have:=h2 y hy
 have:=k2 z hz
 rw[Nat.pow_succ];omega
theorem pairs_two (l:List Pk) (a b:Pk) (j:Nat) (h:l.length=2*j):pairs (l++[a,b])=pairs l++[both a b]:=by
 induction j generalizing l with
 | zero=>
  have:l=[]:=List.eq_nil_of_length_eq_zero (by omega)
  subst this;rfl
 | succ j ih=>
  rcases l with _ | ⟨x,_ | ⟨y,l⟩⟩
  ·simp at h
  ·simp at h;omega
  ·simp only[List.cons_append,pairs]
   rw[ih l (by simp at h;omega)]
theorem pairs_cut (l:List Pk) (j:Nat) (h1:l.length≤2*j+1) (h2:2*j≤l.length):pairs (l.take (2*j))=pairs l:=by
 induction j generalizing l with
 | zero=>
  rcases l with _ | ⟨x,_ | ⟨y,l⟩⟩
  ·rfl
  ·rfl
  ·simp at h1
 | succ j ih=>
  rcases l with _ | ⟨x,_ | ⟨y,l⟩⟩
  ·simp at h2
  ·simp at h2;omega
  ·have e:2*(j+1)=2*j+1+1:=by omega
   rw[e,List.take_succ_cons,List.take_succ_cons]
   simp only[pairs]
   rw[ih l (by simp at h1;omega) (by simp at h2;omega)]
theorem pairs_mem (l:List Pk) (p:Pk) (h:p∈pairs l):∃ a∈l,∃ b∈l,p=both a b:=by
 have:∀ n,∀ l:List Pk,l.length≤n→p∈pairs l→∃ a∈l,∃ b∈l,p=both a b:=by
  intro n
  induction n with
  | zero=>intro l hl hp;rw[List.eq_nil_of_length_eq_zero (by omega:l.length=0)]at hp;simp[pairs]at hp
  | succ n ih=>
   intro l hl hp
   rcases l with _ | ⟨x,_ | ⟨y,l⟩⟩
   ·simp[pairs]at hp
   ·simp[pairs]at hp
   ·simp only[pairs,List.mem_cons]at hp
    rcases hp with hp | hp
    ·exact⟨x,by simp,y,by simp,hp⟩
    ·obtain⟨a,ha,b,hb,e⟩:=ih l (by simp at hl;omega) hp
     exact⟨a,by simp[ha],b,by simp[hb],e⟩
 exact this _ l (Nat.le_refl _) h
theorem rows_bd (one:List Pk) (h:∀ p∈one,BdP 0 p) (t:Nat):∀ p∈rowsP one t,BdP t p:=by
 induction t with
 | zero=>exact h
 | succ t ih=>
  intro p hp
  have h1:=(stab_perm pkey _).mem_iff.1 hp
  rcases List.mem_append.1 h1 with h2 | h2
  ·have:∀ s,BdP s p:=fun s=>by
    induction s with
    | zero=>exact h p h2
    | succ s ih=>exact ih.up
   exact this _
  ·obtain⟨a,ha,b,hb,rfl⟩:=pairs_mem _ p h2
   exact (ih a ha).both (ih b hb)
theorem ones_bd (ls:List Nat) (h:∀ x∈ls,x≤1000000):∀ p∈stab pkey (ones ls),BdP 0 p:=by
 intro p hp
 have h1:=(stab_perm pkey _).mem_iff.1 hp
 unfold ones at h1
 obtain⟨i,hi,rfl⟩:=List.mem_map.1 h1
 refine⟨?_,fun x hx=>?_⟩
 ·show ls.getD i 0≤_
  rw[List.getD_eq_getElem?_getD]
  by_cases hl:i < ls.length
  ·rw[List.getElem?_eq_getElem hl]
   have:=h _ (List.getElem_mem hl)
   simp;omega
  ·rw[List.getElem?_eq_none (by omega)];simp
 ·simp[unit]at hx
  obtain⟨j,_,rfl⟩:=hx
  split <;> simp
theorem bd_row {t:Nat} {e:El} (h:BdP t (f2 e)) (ht:t≤15):e.1≤40000000000∧∀ x∈e.2.2,x≤40000:=by
 have h2:(2:Nat) ^ t≤2 ^ 15:=Nat.pow_le_pow_right (by omega) ht
 refine⟨?_,fun x hx=>?_⟩
 ·have:=h.1
  show (f2 e).1≤_
  omega
 ·have:=h.2 x hx
  omega
theorem cellsP_split (es:List El) (k:Nat) (h:k < es.length):es.flatMap cellsP=(es.take k).flatMap cellsP++(nv es[k].1 :: slv es[k].2.1 :: (es.drop (k+1)).flatMap cellsP):=by
 have e:es=es.take k++es[k] :: es.drop (k+1):=by rw[←List.drop_eq_getElem_cons h,List.take_append_drop]
 conv=>lhs;rw[e]
 rw[List.flatMap_append,List.flatMap_cons];rfl
theorem cellsP_0 (es:List El) (k:Nat) (h:k < es.length):(es.flatMap cellsP)[k*2]?=some (nv es[k].1):=by
 have l:((es.take k).flatMap cellsP).length=k*2:=by rw[cellsP_len,List.length_take];omega
 rw[cellsP_split es k h,List.getElem?_append_right (by omega),l]
 simp
theorem cellsP_1 (es:List El) (k:Nat) (h:k < es.length):(es.flatMap cellsP)[k*2+1]?=some (slv es[k].2.1):=by
 have l:((es.take k).flatMap cellsP).length=k*2:=by rw[cellsP_len,List.length_take];omega
 rw[cellsP_split es k h,List.getElem?_append_right (by omega),l]
 simp
theorem addAll_snoc (n:Nat) (l:List Pk) (p:Pk):addAll n (l++[p])=List.zipWith (·+·) (addAll n l) p.2:=by simp[addAll]
theorem addAll_len (n:Nat) (l:List Pk) (h:∀ p∈l,p.2.length=n):(addAll n l).length=n:=by
 have:∀ m,∀ l:List Pk,l.length=m→(∀ p∈l,p.2.length=n)→(addAll n l).length=n:=by
  intro m
  induction m with
  | zero=>intro l hl _;rw[List.eq_nil_of_length_eq_zero hl];simp[addAll]
  | succ m ih=>
   intro l hl hp
   have hne:l≠[]:=fun e=>by rw[e]at hl;simp at hl
   rw[←List.dropLast_concat_getLast hne,addAll_snoc,List.length_zipWith,ih _ (by simp[hl]) (fun p hp'=>hp p ((List.dropLast_sublist l).subset hp')),hp _ (List.getLast_mem hne)]
   omega
 exact this _ l rfl h
theorem addAll_bd (n c:Nat) (l:List Pk) (h:∀ p∈l,∀ x∈p.2,x≤c):∀ x∈addAll n l,x≤c*l.length:=by
 have:∀ m,∀ l:List Pk,l.length=m→(∀ p∈l,∀ x∈p.2,x≤c)→∀ x∈addAll n l,x≤c*l.length:=by
  intro m
  induction m with
  | zero=>intro l hl _ x hx;rw[List.eq_nil_of_length_eq_zero hl]at hx;simp[addAll]at hx;omega
  | succ m ih=>
   intro l hl hp x hx
   have hne:l≠[]:=fun e=>by rw[e]at hl;simp at hl
   rw[←List.dropLast_concat_getLast hne,addAll_snoc]at hx
   obtain⟨y,hy,z,hz,rfl⟩:=zip_mem _ _ _ hx
   have h1:=ih l.dropLast (by simp[hl]) (fun p hp'=>hp p ((List.dropLast_sublist l).subset hp')) y hy
   have h2:=hp _ (List.getLast_mem hne) z hz
   rw[List.length_dropLast,hl,Nat.add_sub_cancel]at h1
   rw[hl,Nat.mul_succ];omega
 exact this _ l rfl h
theorem used_ones (zs:List Int):usedI zs=(ones (natsOf zs)).length:=by
 rw[used_len]
 unfold usedI used
 have e:natsOf zs=(List.range (natsOf zs).length).map (fun i=>(natsOf zs).getD i 0):=by
  apply List.ext_getElem
  ·simp
  ·intro i h1 h2
   simp[List.getD_eq_getElem?_getD,h1]
 have h:((natsOf zs).filter (fun x=>decide (0 < x))).length=((List.range (natsOf zs).length).filter fun i=>decide (0 < (natsOf zs).getD i 0)).length:=by
  conv=>lhs;rw[e]
  rw[List.filter_map,List.length_map];rfl
 rw[←h]
 unfold natsOf
 rw[List.filter_map,List.length_map]
 congr 1
 apply List.filter_congr
 intro x _
 simp[Function.comp]
theorem ones_le (ls:List Nat):(ones ls).length≤ls.length:=by
 rw[used_len]
 unfold used
 have:=List.length_filter_le (fun i=>decide (0 < ls.getD i 0)) (List.range ls.length)
 rwa [List.length_range]at this
end Go.Proofs.YtabdianhoabhhaaGreatDoor.Weigh
namespace Go.Proofs.YtabdianhoabhhaaGreatDoor.SP
set_option linter.unusedVariables false
def ValidZ (ps:List (Nat×Nat)) (L:Nat):Prop:=(∀ p∈ps,0 < p.1→1≤p.2∧p.2≤L)∧(ps.map fun p=>if 0 < p.1 then 2 ^ (L - p.2) else 0).sum≤2 ^ L
def costZ (ps:List (Nat×Nat)):Nat:=(ps.map fun p=>p.1*p.2).sum
theorem zip_range {β:Type} (g:Nat×Nat→β) (ls ms:List Nat) (h:ms.length=ls.length):(ls.zip ms).map g=(List.range ls.length).map fun i=>g (ls.getD i 0,ms.getD i 0):=by
 apply List.ext_getElem
 ·simp[h]
 ·intro i h1 h2
  simp at h1 h2
  simp[List.getD_eq_getElem?_getD,h2,h]
theorem costZ_cost (ls ms:List Nat) (h:ms.length=ls.length):costZ (ls.zip ms)=cost ls ms:=by
 unfold costZ cost
 rw[zip_range _ ls ms h]
theorem cost_used (ls ms:List Nat):cost ls ms=((used ls).map fun i=>ls.getD i 0*ms.getD i 0).sum:=sum_used ls _ (fun i _ h=>by rw[h];simp)
theorem wide_used (ls ms:List Nat) (f:Nat→Nat) (h:ms.length=ls.length):((ls.zip ms).map fun p=>if 0 < p.1 then f p.2 else 0).sum=((used ls).map fun i=>f (ms.getD i 0)).sum:=by
 rw[zip_range _ ls ms h,sum_used ls _ (fun i _ h=>by show (if 0 < ls.getD i 0 then _ else 0)=0;rw[h];rfl)]
 congr 1
 apply List.map_congr_left
 intro i hi
 have:=(used_mem ls i).1 hi
 rw[if_pos this.2]
theorem zip_mem_get (ls ms:List Nat) (h:ms.length=ls.length) (p:Nat×Nat) (hp:p∈ls.zip ms):∃ i,i < ls.length∧p=(ls.getD i 0,ms.getD i 0):=by
 obtain⟨i,hi,rfl⟩:=List.mem_iff_getElem.1 hp
 rw[List.length_zip]at hi
 have h1:i < ls.length:=by omega
 have h2:i < ms.length:=by omega
 exact⟨i,h1,by simp[List.getD_eq_getElem?_getD,h1,h2]⟩
theorem get_zip_mem (ls ms:List Nat) (h:ms.length=ls.length) (i:Nat) (hi:i < ls.length):(ls.getD i 0,ms.getD i 0)∈ls.zip ms:=by
 rw[List.mem_iff_getElem]
 have h2:i < ms.length:=by omega
 exact⟨i,by rw[List.length_zip];omega,by simp[List.getD_eq_getElem?_getD,hi,h2]⟩
theorem validZ_used (ls ms:List Nat) (L:Nat) (h:ms.length=ls.length):ValidZ (ls.zip ms) L↔(∀ i∈used ls,1≤ms.getD i 0∧ms.getD i 0≤L)∧((used ls).map fun i=>2 ^ (L - ms.getD i 0)).sum≤2 ^ L:=by
 unfold ValidZ
 rw[wide_used ls ms (fun x=>2 ^ (L - x)) h]
 constructor
 ·rintro⟨h1,h2⟩
  refine⟨fun i hi=>?_,h2⟩
  have:=(used_mem ls i).1 hi
  exact h1 _ (get_zip_mem ls ms h i this.1) this.2
 ·rintro⟨h1,h2⟩
  refine⟨fun p hp h0=>?_,h2⟩
  obtain⟨i,hi,rfl⟩:=zip_mem_get ls ms h p hp
  exact h1 i ((used_mem ls i).2 ⟨hi,h0⟩)
theorem best (ls:List Nat) (L:Nat) (hL:1≤L) (hn:(ones ls).length≤2 ^ L):(lengthsP ls L).length=ls.length∧ValidZ (ls.zip (lengthsP ls L)) L∧(∀ x∈lengthsP ls L,x≤L)∧
  ∀ ms:List Nat,ms.length=ls.length→ValidZ (ls.zip ms) L→costZ (ls.zip (lengthsP ls L))≤costZ (ls.zip ms):=by
 by_cases h2:2≤(ones ls).length
 ·obtain⟨h3,h4,h5,_⟩:=lengths_many ls L hL h2 hn
  refine⟨h3,(validZ_used ls _ L h3).2 ⟨fun i hi=>?_,Nat.le_of_eq h5⟩,fun x hx=>?_,fun ms hm hv=>?_⟩
  ·have hu:=(used_mem ls i).1 hi
   have:=h4 i hu.1
   refine⟨?_,this.2⟩
   rcases Nat.eq_zero_or_pos ((lengthsP ls L).getD i 0) with h | h
   ·have:=this.1.1 h;omega
   ·exact h
  ·obtain⟨i,hi,rfl⟩:=List.mem_iff_getElem.1 hx
   have:=(h4 i (by omega)).2
   simpa [List.getD_eq_getElem?_getD,hi] using this
  ·rw[costZ_cost _ _ h3,costZ_cost _ _ hm]
   obtain⟨v1,v2⟩:=(validZ_used ls ms L hm).1 hv
   exact lengths_best ls ms L hL h2 hn (fun i hi=>(v1 i hi).2) v2
 ·by_cases h0:(ones ls).length=0
  ·have hu:used ls=[]:=List.eq_nil_of_length_eq_zero (by rw[←used_len];exact h0)
   have hl:lengthsP ls L=List.replicate ls.length 0:=by unfold lengthsP;rw[if_pos h0]
   have h3:(lengthsP ls L).length=ls.length:=by rw[hl];simp
   refine⟨h3,(validZ_used ls _ L h3).2 ⟨by rw[hu];simp,by rw[hu];simp⟩,fun x hx=>?_,fun ms hm hv=>?_⟩
   ·rw[hl]at hx
    have:=(List.mem_replicate.1 hx).2
    omega
   ·rw[costZ_cost _ _ h3,cost_used,hu];simp
  ·have h1:(ones ls).length=1:=by omega
   have hul:(used ls).length=1:=by rw[←used_len];exact h1
   obtain⟨i,hu⟩:=List.length_eq_one_iff.1 hul
   have him:=(used_mem ls i).1 (by rw[hu];simp)
   have hl:lengthsP ls L=unit ls.length i:=by
    unfold lengthsP
    rw[if_neg h0,if_pos h1]
    unfold ones
    rw[hu];rfl
   have h3:(lengthsP ls L).length=ls.length:=by rw[hl,unit_len]
   have hg:(lengthsP ls L).getD i 0=1:=by rw[hl,unit_get _ _ _ him.1,if_pos rfl]
   refine⟨h3,(validZ_used ls _ L h3).2 ⟨?_,?_⟩,fun x hx=>?_,fun ms hm hv=>?_⟩
   ·rw[hu];intro j hj;simp at hj;subst hj;rw[hg];omega
   ·rw[hu]
    simp only[List.map_cons,List.map_nil,List.sum_cons,List.sum_nil,Nat.add_zero,hg]
    exact Nat.pow_le_pow_right (by omega) (by omega)
   ·rw[hl]at hx
    obtain⟨j,hj,rfl⟩:=List.mem_iff_getElem.1 hx
    have:(unit ls.length i).getD j 0≤1:=by rw[unit_get _ _ _ (by simpa [unit] using hj)];split <;> omega
    rw[List.getD_eq_getElem?_getD,List.getElem?_eq_getElem hj]at this
    simp at this;omega
   ·rw[costZ_cost _ _ h3,costZ_cost _ _ hm,cost_used,cost_used,hu]
    simp only[List.map_cons,List.map_nil,List.sum_cons,List.sum_nil,Nat.add_zero,hg]
    have hv1:=((validZ_used ls ms L hm).1 hv).1 i (by rw[hu];simp)
    exact Nat.mul_le_mul_left _ hv1.1
end Go.Proofs.YtabdianhoabhhaaGreatDoor.SP
namespace Go.Proofs.YtabdianhoabhhaaGreatDoor.Rt
open Go.Proofs.YtabdianhoabhhaaGreatDoor.Bits Go.Proofs.YtabdianhoabhhaaGreatDoor.Code Go.Proofs.YtabdianhoabhhaaGreatDoor.Match Go.Proofs.YtabdianhoabhhaaGreatDoor.SP Go.Proofs.YtabdianhoabhhaaGreatDoor.Inf Go.Proofs.YtabdianhoabhhaaGreatDoor.Blk
set_option linter.unusedVariables false
theorem thn {α β:Type} (a:α) (f:α→Inf.Rd β):(Inf.Rd.ok a).then_ f=f a:=rfl
def Has (row:List Bool) (p:Nat) (bs:List Bool):Prop:=p≤row.length∧∃ t,row.drop p=bs++t
section
variable {row a b bs:List Bool} {p:Nat}
theorem Has.le (h:Has row p bs):p+bs.length≤row.length:=by
 obtain⟨h1,t,h2⟩:=h
 have:=congrArg List.length h2
 rw[List.length_drop,List.length_append]at this;omega
theorem Has.left (h:Has row p (a++b)):Has row p a:=by
 obtain⟨h1,t,h2⟩:=h
 exact⟨h1,b++t,by rw[h2,List.append_assoc]⟩
theorem Has.right (h:Has row p (a++b)):Has row (p+a.length) b:=by
 have hl:=h.le
 obtain⟨h1,t,h2⟩:=h
 rw[List.length_append]at hl
 exact⟨by omega,t,by rw[←List.drop_drop,h2,List.append_assoc,List.drop_left]⟩
theorem get_has {n k:Nat} (h:Has row p (numBits n k)) (hn:n < 2 ^ k):getR row p k=.ok (n,p+k):=by
 have hl:=h.le
 rw[numBits_length]at hl
 unfold getR
 rw[if_pos hl]
 obtain⟨_,t,h2⟩:=h
 rw[h2,List.take_append_of_le_length (by rw[numBits_length];exact Nat.le_refl _),List.take_of_length_le (by rw[numBits_length];exact Nat.le_refl _),num_numBits,Nat.mod_eq_of_lt hn]
structure Cd (ls:List Nat):Prop where
 le:∀ x∈ls,x≤15
 room:room ls≤32768
theorem getD_lt {ls:List Nat} {i:Nat} (h:ls.getD i 0≠0):i < ls.length:=by
 rcases Nat.lt_or_ge i ls.length with h1 | h1
 ·exact h1
 ·rw[List.getD_eq_getElem?_getD,List.getElem?_eq_none h1]at h;exact absurd rfl h
theorem Cd.bits {ls:List Nat} (hc:Cd ls) {i:Nat}:ls.getD i 0≤15:=by
 rw[List.getD_eq_getElem?_getD]
 rcases Nat.lt_or_ge i ls.length with h1 | h1
 ·rw[List.getElem?_eq_getElem h1];exact hc.le _ (List.getElem_mem h1)
 ·rw[List.getElem?_eq_none h1];exact Nat.zero_le _
theorem sym_has {ls:List Nat} {i:Nat} (hc:Cd ls) (h:Has row p (codeB ls i)) (h0:ls.getD i 0≠0):symR row ls p=.ok (i,p+ls.getD i 0):=by
 obtain⟨_,t,h2⟩:=h
 have hn:=next_code ls i t (getD_lt h0) h0 hc.le hc.room
 unfold codeB at h2
 unfold symR
 rw[h2,hn];rfl
theorem codeB_length (ls:List Nat) (i:Nat):(codeB ls i).length=ls.getD i 0:=hi_length _ _
end
theorem ofNat_toNat8 (x:UInt8):UInt8.ofNat x.toNat=x:=by apply UInt8.toNat_inj.1;simp
theorem push_ok {out:List UInt8} (x:UInt8) (h:out.length < 3000):pushR out x=.ok (out++[x]):=by
 unfold pushR;rw[if_neg (by omega)]
theorem raw_has {row:List Bool}:∀ (b:List UInt8) (p:Nat) (out:List UInt8),Has row p (bitsL b)→out.length+b.length≤3000→rawR row b.length p out=.ok (p+8*b.length,out++b)
 | [],p,out,h,hl=>by simp[rawR]
 | x :: b,p,out,h,hl=>by
  rw[List.length_cons]at hl
  rw[bitsL_cons]at h
  have h1:=h.left
  have h2:=h.right
  rw[bitsOf_length]at h2
  have e:getR row p 8=.ok (x.toNat,p+8):=get_has h1 x.toNat_lt
  show (getR row p 8).then_ _=_
  rw[e,thn]
  dsimp only
  rw[ofNat_toNat8,push_ok x (by omega),thn,raw_has b (p+8) (out++[x]) h2 (by simp;omega),List.append_assoc]
  congr 2
  rw[List.length_cons];omega
theorem symK_max (l:List (Nat×Nat)) (n:Nat):∀ K j,symK l n K < j→j < K→n < (l.getD j (0,0)).1
 | 0,j,_,h=>absurd h (by omega)
 | K+1,j,h,hj=>by
  unfold symK at h
  split at h
  ·omega
  ·rename_i hn
   by_cases e:j=K
   ·subst e;omega
   ·exact symK_max l n K j h (by omega)
theorem sames_next:∀ k < 28,(sameL.getD (k+1) (0,0)).1≤(sameL.getD k (0,0)).1+2 ^ (sameL.getD k (0,0)).2:=by decide
theorem fars_next:∀ k < 29,(farL.getD (k+1) (0,0)).1≤(farL.getD k (0,0)).1+2 ^ (farL.getD k (0,0)).2:=by decide
theorem same_sym (n:Nat) (h1:3≤n) (h2:n≤258):symS sameL n < 29∧(sameL.getD (symS sameL n) (0,0)).1≤n∧n - (sameL.getD (symS sameL n) (0,0)).1 < 2 ^ (sameL.getD (symS sameL n) (0,0)).2:=by
 have h3:symS sameL n < 29:=symS_lt sameL n (by decide)
 have h4:=symS_le sameL n (by decide) h1
 have h5:=symK_max sameL n 29
 have e:symK sameL n 29=symS sameL n:=rfl
 rw[e]at h5
 refine⟨h3,h4,?_⟩
 generalize symS sameL n=k at *
 by_cases hk:k < 28
 ·have:=h5 (k+1) (by omega) (by omega)
  have:=sames_next k hk
  omega
 ·obtain rfl:k=28:=by omega
  have e28:sameL.getD 28 (0,0)=(258,0):=rfl
  rw[e28]at h4⊢
  dsimp only at h4⊢
  omega
theorem far_sym (n:Nat) (h1:1≤n) (h2:n≤3000):symS farL n < 30∧(farL.getD (symS farL n) (0,0)).1≤n∧n - (farL.getD (symS farL n) (0,0)).1 < 2 ^ (farL.getD (symS farL n) (0,0)).2:=by
 have h3:symS farL n < 30:=symS_lt farL n (by decide)
 have h4:=symS_le farL n (by decide) h1
 have h5:=symK_max farL n 30
 have e:symK farL n 30=symS farL n:=rfl
 rw[e]at h5
 refine⟨h3,h4,?_⟩
 generalize symS farL n=k at *
 by_cases hk:k < 29
 ·have:=h5 (k+1) (by omega) (by omega)
  have:=fars_next k hk
  omega
 ·obtain rfl:k=29:=by omega
  have e29:farL.getD 29 (0,0)=(24577,13):=rfl
  rw[e29]at h4
  dsimp only at h4
  omega
theorem cpy_succ' (d:Nat):∀ (n:Nat) (l:List UInt8),cpy d (n+1) l=cpy d n (l++[l.getD (l.length - d) 0])
 | 0,l=>rfl
 | n+1,l=>by
  have ih:=cpy_succ' d n l
  show cpy d (n+1) l++[(cpy d (n+1) l).getD ((cpy d (n+1) l).length - d) 0]=_
  rw[ih];rfl
theorem copy_ok (d:Nat):∀ (n:Nat) (out:List UInt8),out.length+n≤3000→copyR d n out=.ok (cpy d n out)
 | 0,out,_=>rfl
 | n+1,out,h=>by
  show (pushR out (out.getD (out.length - d) 0)).then_ _=_
  rw[push_ok _ (by omega),thn,copy_ok d n _ (by simp;omega),cpy_succ']
theorem cpy_front (o:List UInt8) (d:Nat) (h1:1≤d):∀ (n:Nat) (l:List UInt8),d≤l.length→cpy d n (o++l)=o++cpy d n l
 | 0,l,_=>rfl
 | n+1,l,h=>by
  show cpy d n (o++l)++[(cpy d n (o++l)).getD ((cpy d n (o++l)).length - d) 0]=o++(cpy d n l++[(cpy d n l).getD ((cpy d n l).length - d) 0])
  rw[cpy_front o d h1 n l h,←List.append_assoc]
  congr 2
  have hl:=cpy_length d n l
  rw[List.getD_eq_getElem?_getD,List.getD_eq_getElem?_getD,List.length_append,List.getElem?_append_right (by omega)]
  congr 2
  omega
theorem say_front (o:List UInt8):∀ (ts:List Tok) (l:List UInt8),(chkAll ts (l.length:Int)).1=0→ts.foldl putTok (o++l)=o++ts.foldl putTok l
 | [],l,_=>rfl
 | t :: ts,l,h=>by
  simp only[chkAll]at h
  have ht:(chkTok (l.length:Int) t).1=0:=by
   by_cases h1:(chkTok (l.length:Int) t).1=0
   ·exact h1
   ·rw[if_neg h1]at h;exact h
  rw[if_pos ht]at h
  rw[List.foldl_cons,List.foldl_cons]
  have hp:putTok (o++l) t=o++putTok l t∧(chkTok (l.length:Int) t).2=((putTok l t).length:Int):=by
   unfold chkTok at ht⊢
   unfold putTok
   by_cases h1:t.2.1=0
   ·rw[if_pos h1]at ht⊢
    rw[if_pos h1,if_pos h1]
    by_cases h2:t.2.2≠0
    ·rw[if_pos h2]at ht;simp at ht
    ·rw[if_neg h2];simp
   ·rw[if_neg h1]at ht⊢
    rw[if_neg h1,if_neg h1]
    by_cases h2:t.1≠0
    ·rw[if_pos h2]at ht;simp at ht
    ·rw[if_neg h2]at ht⊢
     by_cases h3:t.2.1 < 3∨258 < t.2.1∨t.2.2 < 1
     ·rw[if_pos h3]at ht;simp at ht
     ·rw[if_neg h3]at ht⊢
      by_cases h4:(l.length:Int) < t.2.2
      ·rw[if_pos h4]at ht;simp at ht
      ·rw[if_neg h4]
       refine⟨cpy_front o _ (by omega) _ l (by omega),?_⟩
       rw[cpy_length];dsimp only;omega
  rw[hp.1]
  rw[hp.2]at h
  exact say_front o ts (putTok l t) h
def TokFit (lit far:List Nat) (t:Tok):Prop:=
 if t.2.1=0 then lit.getD t.1.toNat 0≠0 else lit.getD (257+symS sameL t.2.1.toNat) 0≠0∧far.getD (symS farL t.2.2.toNat) 0≠0
theorem tok_lit {row:List Bool} {lit far:List Nat} {p:Nat} {out:List UInt8} {t:Tok} (hc:Cd lit) (h:Has row p (tokB lit far t)) (h0:t.2.1=0) (hf:TokFit lit far t) (hl:out.length < 3000) :
  bodyStep row lit far p out=.ok (false,p+(tokB lit far t).length,out++[t.1]):=by
 unfold tokB at h⊢
 unfold TokFit at hf
 rw[if_pos h0]at h hf⊢
 have hx:=t.1.toNat_lt
 unfold bodyStep
 rw[sym_has hc h hf,thn,codeB_length]
 dsimp only
 rw[if_pos (by omega),ofNat_toNat8,push_ok _ hl,thn]
theorem tok_cpy {row:List Bool} {lit far:List Nat} {p s f:Nat} {out:List UInt8} {x:UInt8} (hc:Cd lit) (hd:Cd far) (h:Has row p (tokB lit far (x,(s:Int),(f:Int)))) (hf:TokFit lit far (x,(s:Int),(f:Int)))
  (h1:3≤s) (h2:s≤258) (h3:1≤f) (h4:f≤3000) (h5:f≤out.length) (hl:out.length+s≤3000) :
  bodyStep row lit far p out=.ok (false,p+(tokB lit far (x,(s:Int),(f:Int))).length,cpy f s out):=by
 have hz:¬ ((x,(s:Int),(f:Int)):Tok).2.1=0:=by dsimp only;omega
 unfold tokB at h⊢
 unfold TokFit at hf
 rw[if_neg hz]at h hf⊢
 dsimp only at h hf⊢
 simp only[Int.toNat_natCast]at h hf⊢
 obtain⟨k1,k2,k3⟩:=same_sym s h1 h2
 obtain⟨g1,g2,g3⟩:=far_sym f h3 h4
 have a1:=h.left.left.left
 have a2:=h.left.left.right
 have a3:=h.left.right
 have a4:=h.right
 simp only[List.length_append,numBits_length,codeB_length]at a2 a3 a4⊢
 unfold bodyStep
 rw[sym_has hc a1 hf.1,thn]
 dsimp only
 rw[if_neg (by omega),if_neg (by omega),show 257+symS sameL s - 257=symS sameL s by omega,if_neg (by omega),get_has a2 k3,thn]
 dsimp only
 rw[sym_has hd (by simp only[Nat.add_assoc]at a3⊢;exact a3) hf.2,thn]
 dsimp only
 rw[if_neg (by omega),get_has (by simp only[Nat.add_assoc]at a4⊢;exact a4) g3,thn]
 dsimp only
 rw[show (farL.getD (symS farL f) (0,0)).1+(f - (farL.getD (symS farL f) (0,0)).1)=f by omega,show (sameL.getD (symS sameL s) (0,0)).1+(s - (sameL.getD (symS sameL s) (0,0)).1)=s by omega,if_neg (by omega),copy_ok f s out hl,thn]
 simp only[Nat.add_assoc]
theorem put_ge (l:List UInt8) (t:Tok):l.length≤(putTok l t).length:=by
 unfold putTok
 split
 ·simp
 ·rw[cpy_length];omega
theorem say_ge:∀ (ts:List Tok) (l:List UInt8),l.length≤(ts.foldl putTok l).length
 | [],l=>Nat.le_refl _
 | t :: ts,l=>Nat.le_trans (put_ge l t) (say_ge ts _)
theorem bodyB_cons (t:Tok) (ts:List Tok) (lit far:List Nat):bodyB (t :: ts) lit far=tokB lit far t++bodyB ts lit far:=by
 unfold bodyB;rw[List.flatMap_cons,List.append_assoc]
theorem body_has {row:List Bool} {lit far:List Nat} (hc:Cd lit) (hd:Cd far) (he:lit.getD 256 0≠0):∀ (ts:List Tok) (p:Nat) (out:List UInt8) (fuel:Nat) (n:Int),Has row p (bodyB ts lit far)→(∀ t∈ts,TokFit lit far t)→
  (chkAll ts n).1=0→0≤n→n≤(out.length:Int)→(ts.foldl putTok out).length≤3000→ts.length < fuel→bodyR row lit far fuel p out=.ok (p+(bodyB ts lit far).length,ts.foldl putTok out)
 | ts,p,out,0,n,_,_,_,_,_,_,hf=>absurd hf (by omega)
 | [],p,out,g+1,n,h,hfit,hk,hn0,hn,hl,hf=>by
  have h':Has row p (codeB lit 256):=h
  show (bodyStep row lit far p out).then_ _=_
  unfold bodyStep
  rw[sym_has hc h' he,thn]
  dsimp only
  rw[if_neg (by omega),if_pos rfl,thn,if_pos rfl]
  show Inf.Rd.ok _=Inf.Rd.ok (p+(codeB lit 256).length,out)
  rw[codeB_length]
 | t :: ts,p,out,g+1,n,h,hfit,hk,hn0,hn,hl,hf=>by
  rw[bodyB_cons]at h⊢
  have ha:=h.left
  have hb:=h.right
  have hft:=hfit t List.mem_cons_self
  rw[List.foldl_cons]at hl⊢
  have hl1:(putTok out t).length≤3000:=Nat.le_trans (say_ge ts (putTok out t)) hl
  simp only[chkAll]at hk
  have ht:(chkTok n t).1=0:=by
   by_cases h1:(chkTok n t).1=0
   ·exact h1
   ·rw[if_neg h1]at hk;exact hk
  rw[if_pos ht]at hk
  have key:bodyStep row lit far p out=.ok (false,p+(tokB lit far t).length,putTok out t)∧0≤(chkTok n t).2∧(chkTok n t).2≤((putTok out t).length:Int):=by
   obtain⟨x,s,f⟩:=t
   unfold chkTok at ht⊢
   unfold putTok at hl1⊢
   dsimp only at ht hl1⊢
   by_cases h1:s=0
   ·rw[if_pos h1]at ht hl1⊢
    rw[if_pos h1]
    by_cases h2:f≠0
    ·rw[if_pos h2]at ht;simp at ht
    ·rw[if_neg h2]
     rw[List.length_append,List.length_singleton]at hl1
     refine⟨tok_lit hc ha h1 hft (by omega),by dsimp only;omega,?_⟩
     rw[List.length_append,List.length_singleton];dsimp only;omega
   ·rw[if_neg h1]at ht hl1⊢
    rw[if_neg h1]
    by_cases h2:x≠0
    ·rw[if_pos h2]at ht;simp at ht
    ·rw[if_neg h2]at ht⊢
     by_cases h3:s < 3∨258 < s∨f < 1
     ·rw[if_pos h3]at ht;simp at ht
     ·rw[if_neg h3]at ht⊢
      by_cases h4:n < f
      ·rw[if_pos h4]at ht;simp at ht
      ·rw[if_neg h4]
       rw[cpy_length]at hl1⊢
       obtain⟨s',rfl⟩:=Int.eq_ofNat_of_zero_le (by omega:0≤s)
       obtain⟨f',rfl⟩:=Int.eq_ofNat_of_zero_le (by omega:0≤f)
       rw[Int.toNat_natCast]at hl1⊢
       rw[Int.toNat_natCast]
       refine⟨tok_cpy hc hd ha hft (by omega) (by omega) (by omega) (by omega) (by omega) (by omega),by dsimp only;omega,by dsimp only;omega⟩
  show (bodyStep row lit far p out).then_ _=_
  rw[key.1,thn]
  rw[if_neg (by simp)]
  dsimp only
  rw[body_has hc hd he ts _ _ g _ hb (fun t ht=>hfit t (List.mem_cons_of_mem _ ht)) hk key.2.1 key.2.2 hl (by simpa using hf)]
  rw[List.length_append,Nat.add_assoc]
end Go.Proofs.YtabdianhoabhhaaGreatDoor.Rt
namespace Go.Proofs.YtabdianhoabhhaaGreatDoor.Rt
open Go.Proofs.YtabdianhoabhhaaGreatDoor.Bits Go.Proofs.YtabdianhoabhhaaGreatDoor.Code Go.Proofs.YtabdianhoabhhaaGreatDoor.Match Go.Proofs.YtabdianhoabhhaaGreatDoor.SP Go.Proofs.YtabdianhoabhhaaGreatDoor.Inf Go.Proofs.YtabdianhoabhhaaGreatDoor.Blk
set_option linter.unusedVariables false
theorem one_unit (ls:List Nat) (L:Nat) (h1:(ones ls).length=1):∃ i,i < ls.length∧0 < ls.getD i 0∧(∀ j,j < ls.length→0 < ls.getD j 0→j=i)∧lengthsP ls L=unit ls.length i:=by
 have hul:(used ls).length=1:=by rw[←used_len];exact h1
 obtain⟨i,hu⟩:=List.length_eq_one_iff.1 hul
 have him:=(used_mem ls i).1 (by rw[hu];simp)
 refine⟨i,him.1,him.2,fun j hj h0=>?_,?_⟩
 ·have:=(used_mem ls j).2 ⟨hj,h0⟩
  rw[hu]at this
  simpa using this
 ·unfold lengthsP
  rw[if_neg (by omega),if_pos h1]
  unfold ones
  rw[hu];rfl
theorem no_len (ls:List Nat) (L:Nat) (h0:(ones ls).length=0):lengthsP ls L=List.replicate ls.length 0∧∀ i,ls.getD i 0=0:=by
 refine⟨by unfold lengthsP;rw[if_pos h0],fun i=>?_⟩
 rcases Nat.eq_zero_or_pos (ls.getD i 0) with h | h
 ·exact h
 ·have:=(used_mem ls i).2 ⟨getD_lt (by omega),h⟩
  have hu:used ls=[]:=List.eq_nil_of_length_eq_zero (by rw[←used_len];exact h0)
  rw[hu]at this;cases this
theorem rep_getD (n i:Nat):(List.replicate n 0).getD i 0=0:=by
 simp[List.getD_eq_getElem?_getD,List.getElem?_replicate];split <;> rfl
theorem room_rep (n:Nat):room (List.replicate n 0)=0:=by
 induction n with
 | zero=>rfl
 | succ n ih=>rw[List.replicate_succ'];rw[room_snoc,ih];rfl
theorem room_unit (n i:Nat) (h:i < n):room (unit n i)=16384:=by
 have key:∀ m,room ((List.range m).map fun j=>if j=i then 1 else 0)=if i < m then 16384 else 0:=by
  intro m
  induction m with
  | zero=>rfl
  | succ m ih=>
   rw[List.range_succ,List.map_append,List.map_cons,List.map_nil,room_snoc,ih]
   by_cases h1:m=i
   ·subst h1
    have e1:(if m < m then 16384 else 0)=0:=if_neg (by omega)
    have e2:(if m < m+1 then 16384 else 0)=16384:=if_pos (by omega)
    rw[e1,e2,if_pos rfl];rfl
   ·rw[if_neg h1]
    by_cases h2:i < m
    ·have e1:(if i < m then 16384 else 0)=16384:=if_pos h2
     have e2:(if i < m+1 then 16384 else 0)=16384:=if_pos (by omega)
     rw[e1,e2];rfl
    ·have e1:(if i < m then 16384 else 0)=0:=if_neg h2
     have e2:(if i < m+1 then 16384 else 0)=0:=if_neg (by omega)
     rw[e1,e2];rfl
 have:=key n
 rw[if_pos h]at this
 exact this
theorem lens_fine (ls:List Nat) (L:Nat) (hL:1≤L) (hL2:L≤15) (hn:(ones ls).length≤2 ^ L) :
  (lengthsP ls L).length=ls.length∧Cd (lengthsP ls L)∧(∀ x∈lengthsP ls L,x≤L)∧∀ i,(lengthsP ls L).getD i 0=0↔ls.getD i 0=0:=by
 obtain⟨b1,b2,b3,b4⟩:=best ls L hL hn
 have hout:∀ i,¬ i < ls.length→((lengthsP ls L).getD i 0=0↔ls.getD i 0=0):=fun i hi=>by
  rw[List.getD_eq_getElem?_getD,List.getD_eq_getElem?_getD,List.getElem?_eq_none (by omega),List.getElem?_eq_none (by omega)]
 by_cases h0:(ones ls).length=0
 ·obtain⟨e,hz⟩:=no_len ls L h0
  refine⟨b1,⟨fun x hx=>Nat.le_trans (b3 x hx) hL2,by rw[e,room_rep];omega⟩,b3,fun i=>?_⟩
  rw[e,rep_getD]
  exact⟨fun _=>hz i,fun _=>rfl⟩
 ·by_cases h1:(ones ls).length=1
  ·obtain⟨i,hi,hp,hu,e⟩:=one_unit ls L h1
   refine⟨b1,⟨fun x hx=>Nat.le_trans (b3 x hx) hL2,by rw[e,room_unit _ _ hi];omega⟩,b3,fun j=>?_⟩
   by_cases hj:j < ls.length
   ·rw[e,unit_get _ _ _ hj]
    by_cases hji:j=i
    ·subst hji;rw[if_pos rfl];omega
    ·rw[if_neg hji]
     refine⟨fun _=>?_,fun _=>rfl⟩
     rcases Nat.eq_zero_or_pos (ls.getD j 0) with h | h
     ·exact h
     ·exact absurd (hu j hj h) hji
   ·exact hout j hj
  ·obtain⟨h3,h4,h5,_⟩:=lengths_many ls L hL (by omega) hn
   refine⟨b1,⟨fun x hx=>Nat.le_trans (b3 x hx) hL2,?_⟩,b3,fun i=>?_⟩
   ·generalize hm:lengthsP ls L=m at *
    have hr:room m=(ls.zip m |>.map fun p=>if 0 < p.1 then 2 ^ (15 - p.2) else 0).sum:=by
     unfold room
     have e:m=(ls.zip m).map (·.2):=by rw[List.map_snd_zip (by omega)]
     conv=>lhs;rw[e]
     rw[List.map_map]
     congr 1
     apply List.map_congr_left
     intro p hp
     obtain⟨i,hi,rfl⟩:=zip_mem_get _ _ h3 p hp
     have:=(h4 i hi).1
     simp only[Function.comp]
     by_cases h0:ls.getD i 0=0
     ·rw[if_pos (this.2 h0),if_neg (by omega)]
     ·rw[if_neg (fun hh=>h0 (this.1 hh)),if_pos (by omega)]
    rw[hr,wide_used ls m (fun x=>2 ^ (15 - x)) h3]
    have e2:((used ls).map fun i=>2 ^ (15 - m.getD i 0))=(used ls).map fun i=>2 ^ (15 - L)*2 ^ (L - m.getD i 0):=by
     apply List.map_congr_left
     intro i hi
     have h6:=(h4 i ((used_mem _ i).1 hi).1).2
     rw[←Nat.pow_add,show 15 - L+(L - m.getD i 0)=15 - m.getD i 0 by omega]
    rw[e2]
    have e3:∀ l:List Nat,(l.map fun i=>2 ^ (15 - L)*2 ^ (L - m.getD i 0)).sum=2 ^ (15 - L)*(l.map fun i=>2 ^ (L - m.getD i 0)).sum:=by
     intro l
     induction l with
     | nil=>simp
     | cons a l ih=>simp only[List.map_cons,List.sum_cons,ih,Nat.mul_add]
    rw[e3,h5,←Nat.pow_add,show 15 - L+L=15 by omega]
    exact Nat.le_refl _
   ·by_cases hi:i < ls.length
    ·exact (h4 i hi).1
    ·exact hout i hi
theorem ordN_zeros (ls:List Nat) (n k:Nat) (hn:n≠0):ordN (ls++List.replicate k 0) n=ordN ls n:=by
 induction k with
 | zero=>rw[List.replicate_zero,List.append_nil]
 | succ k ih=>
  rw[List.replicate_succ',←List.append_assoc,ordN_snoc,ih,if_neg (fun h=>hn h.symm),List.append_nil]
theorem cnt_zeros (ls:List Nat) (n k:Nat):cnt (ls++List.replicate k 0) n=cnt ls n:=by
 unfold cnt
 by_cases h:n=0
 ·rw[if_pos h,if_pos h]
 ·rw[if_neg h,if_neg h,ordN_zeros _ _ _ h]
theorem first_zeros (ls:List Nat) (k:Nat):∀ n,first (ls++List.replicate k 0) n=first ls n
 | 0=>rfl
 | n+1=>by unfold first;rw[first_zeros ls k n,cnt_zeros]
theorem room_zeros (ls:List Nat) (k:Nat):room (ls++List.replicate k 0)=room ls:=by
 induction k with
 | zero=>rw[List.replicate_zero,List.append_nil]
 | succ k ih=>rw[List.replicate_succ',←List.append_assoc,room_snoc,ih,if_pos rfl,Nat.add_zero]
theorem getD_zeros (ls:List Nat) (k i:Nat):(ls++List.replicate k 0).getD i 0=ls.getD i 0:=by
 rw[List.getD_eq_getElem?_getD,List.getD_eq_getElem?_getD]
 rcases Nat.lt_or_ge i ls.length with h | h
 ·rw[List.getElem?_append_left h]
 ·rw[List.getElem?_append_right h,List.getElem?_eq_none h,List.getElem?_replicate];split <;> rfl
theorem code_zeros (ls:List Nat) (k i:Nat):codeB (ls++List.replicate k 0) i=codeB ls i:=by
 unfold codeB
 rw[getD_zeros]
 by_cases h0:ls.getD i 0=0
 ·rw[h0];rfl
 ·congr 1
  have hi:=getD_lt h0
  unfold codeOf
  rw[getD_zeros,if_neg h0,if_neg h0,first_zeros]
  unfold rank
  rw[getD_zeros,List.take_append_of_le_length (by omega)]
theorem trimN_zero (l:List Nat) (least:Nat):∀ n j,trimN l least n≤j→j < n→l.getD j 0=0
 | 0,j,_,h=>absurd h (by omega)
 | n+1,j,h,hj=>by
  unfold trimN at h
  split at h
  ·rename_i h1
   by_cases e:j=n
   ·subst e;exact h1.2
   ·exact trimN_zero l least n j h (by omega)
  ·omega
theorem trim_split (l:List Nat) (least:Nat):l=trimP l least++List.replicate (l.length - trimN l least l.length) 0:=by
 have hle:=trimN_le l least l.length
 have hz:=trimN_zero l least l.length
 unfold trimP
 generalize trimN l least l.length=m at *
 apply List.ext_getElem
 ·simp;omega
 ·intro i h1 h2
  by_cases hi:i < m
  ·rw[List.getElem_append_left (by simp;omega)];simp
  ·rw[List.getElem_append_right (by simp;omega),List.getElem_replicate]
   have:=hz i (by omega) h1
   rw[List.getD_eq_getElem?_getD,List.getElem?_eq_getElem h1]at this
   exact this
theorem trim_getD (l:List Nat) (least i:Nat):(trimP l least).getD i 0=l.getD i 0:=by
 conv=>rhs;rw[trim_split l least]
 rw[getD_zeros]
theorem trim_code (l:List Nat) (least i:Nat):codeB (trimP l least) i=codeB l i:=by
 conv=>rhs;rw[trim_split l least]
 rw[code_zeros]
theorem trim_cd (l:List Nat) (least:Nat) (h:Cd l):Cd (trimP l least):=by
 refine⟨fun x hx=>h.le x (List.mem_of_mem_take hx),?_⟩
 have:=h.room
 rw[trim_split l least,room_zeros]at this
 exact this
theorem trim_len (l:List Nat) (least:Nat) (h:least≤l.length):least≤(trimP l least).length∧(trimP l least).length≤l.length:=by
 have h1:=trimN_le l least l.length
 have h2:=trimN_ge l least l.length h
 unfold trimP
 rw[List.length_take];omega
theorem trim_tok (lit far:List Nat) (a b:Nat) (t:Tok):tokB (trimP lit a) (trimP far b) t=tokB lit far t:=by
 unfold tokB;simp only[trim_code]
theorem trim_body (ts:List Tok) (lit far:List Nat) (a b:Nat):bodyB ts (trimP lit a) (trimP far b)=bodyB ts lit far:=by
 unfold bodyB
 rw[trim_code]
 congr 1
 induction ts with
 | nil=>rfl
 | cons t ts ih=>rw[List.flatMap_cons,List.flatMap_cons,trim_tok,ih]
theorem trim_fit (lit far:List Nat) (a b:Nat) (t:Tok) (h:TokFit lit far t):TokFit (trimP lit a) (trimP far b) t:=by
 unfold TokFit at h⊢;simp only[trim_getD];exact h
theorem lsOf_zsOf (l:List Nat):lsOf (zsOf l)=l:=by
 unfold lsOf zsOf;rw[List.map_map]
 conv=>rhs;rw[←List.map_id l]
 apply List.map_congr_left
 intro x _;rfl
theorem table_ok (l:List Nat) (h:Cd l) (hl:l.length≤288):tableR (zsOf l)=.ok l:=by
 have hc:chkL (zsOf l)=0:=by
  unfold chkL
  rw[if_neg (by unfold zsOf;rw[List.length_map];omega),if_neg,lsOf_zsOf,if_neg (by have:=h.room;omega)]
  rw[Bool.not_eq_true,List.any_eq_false]
  intro x hx
  obtain⟨y,hy,rfl⟩:=List.mem_map.1 hx
  have:=h.le y hy
  have e:Int.ofNat y=(y:Int):=rfl
  rw[e]
  simp[badLen];omega
 unfold tableR
 rw[if_pos hc,lsOf_zsOf]
end Go.Proofs.YtabdianhoabhhaaGreatDoor.Rt
namespace Go.Proofs.YtabdianhoabhhaaGreatDoor.Weigh
open Go Go.RowKit Go.Proofs.YtabdianhoabhhaaGreatDoor Go.Proofs.YtabdianhoabhhaaGreatDoor.SP
set_option linter.unusedVariables false
theorem infoI:(Tryz.prog.info? 3).map (fun i=>(i.zero,i.size,i.bytes))=some (some (.int .i64 0),1,8):=by kernel_rfl
theorem make_ints (n:Nat) (hn:n≤1000000) (u:World):(Instr.makeSlice 89 (.int .i64 (n:Int)) (.int .i64 (n:Int))).run Tryz.prog u =
   .ok (.slice (some ⟨u.heap.size,0,none⟩) n n) (u.alloc (.cells (madeCells #[.int .i64 0] n) 3)):=by
 obtain⟨i0,hi,hz0,hz1,hz2⟩:=info_parts infoI
 have h:=run_make (P:=Tryz.prog) u 89 3 i0 (.int .i64 0) Tryz.underlying89 hi hz0 .i64 .i64 (n:Int) (n:Int) (by omega) (Int.le_refl _) (by rw[hz2];omega) (by omega)
 simpa [hz1,Value.cells] using h
theorem made_zero (n:Nat):madeCells #[.int .i64 0] n=((List.replicate n 0).map nv).toArray:=by
 unfold madeCells
 apply Array.ext'
 simp
 apply List.ext_getElem
 ·simp
 ·intro i h1 h2
  simp[nv,Nat.mod_one]
theorem own_made (w:World) (base n:Nat) (l:List Nat) (hb:base≤w.heap.size) (hl:l.length=n) (hn:n≤1000000):(w.alloc (.cells ((l.map nv).toArray) 3)).ownsRow base 3 1 (.slice (some ⟨w.heap.size,0,none⟩) n n) n (l.map nv):=
 ⟨by simp[hl],.inr ⟨w.heap.size,n,_,rfl,hb,heap_alloc_new w _,Nat.le_refl _,by unfold maxLen;omega,by simp[hl],by rw[List.toList_toArray,Nat.mul_one,List.take_of_length_le (by simp[hl])]⟩⟩
theorem tyP:SliceTy Tryz.prog 290 292 (.agg #[.int .i64 0,.slice none 0 0]) 2 32:=⟨Tryz.underlying290,by kernel_rfl,rfl,by omega⟩
def LenPost (zs:List Int) (most:Int) (w:World) (e:Ending) (w':World):Prop:=
  (chkW zs most≠0∧e=.returned (.tuple #[.slice none 0 0,.int .i64 (chkW zs most)])∨
   chkW zs most=0∧∃ v,e=.returned (.tuple #[v,.int .i64 0])∧w'.ownsRow w.heap.size 3 1 v zs.length ((lengthsP (natsOf zs) most.toNat).map nv))∧Below w.heap.size w w'
theorem natsOf_get (zs:List Int) (k:Nat) (h:k < zs.length):(natsOf zs).getD k 0=zs[k].toNat:=by simp[natsOf,List.getD_eq_getElem?_getD,h]
theorem natsOf_len (zs:List Int):(natsOf zs).length=zs.length:=by simp[natsOf]
theorem rows_ge (one:List Pk) (t:Nat):one.length≤(rowsP one t).length:=by
 cases t with
 | zero=>exact Nat.le_refl _
 | succ t=>rw[rows_len];exact Nat.le_add_right _ _
theorem f2_stab (es:List El):(stab ekey es).map f2=stab pkey (es.map f2):=stab_map pkey f2 es
set_option maxRecDepth 100000 in
set_option maxHeartbeats 8000000 in
theorem lengths_go (A:Option Addr) (n c L:Nat) (zs:List Int) (w:World) (hn:zs.length=n) (hx:n≤maxLen) (hA:InAt w A zs) (h0:chkW zs (L:Int)=0) :
    Calls Tryz.prog 190 #[.slice A n c,.int .i64 (L:Int)] w (LenPost zs L w):=by
  have Hn:=Lib.hid hn
  have HA:=Lib.hid hA
  have hc:=checkW_any A n c zs L w hn hx hA
  rw[h0]at hc
  have HC:=Lib.hid hc
  obtain⟨f1,f2,f3,f4,f5⟩:=chkW_fine zs L h0
  have H0:=Lib.hid h0
  have F2:=Lib.hid f2
  have F5:=Lib.hid f5
  have hn288:n≤288:=by omega
  have hL1:1≤L:=by omega
  have hL15:L≤15:=by omega
  have hmk:=make_ints n (by omega)
  have Hnl:Hid ((natsOf zs).length=n):=Lib.hid (by rw[natsOf_len];exact hn)
  clear hn hx hA h0 hc f1 f2 f3 f4 f5
  go_enter Tryz.func190,Tryz.ntmps190
  go_wp2_with fail
  refine (HC.out).mono ?_
  rintro e wx ⟨rfl,hw⟩
  have hw:=hw.symm
  subst hw
  go_wp2_with fail
  have Hout:=Lib.hid (own_made w w.heap.size n (List.replicate n 0) (Nat.le_refl _) (by simp) (by omega))
  rw[←made_zero]at Hout
  have Hb1:=Lib.hid ((Below.refl w.heap.size w).alloc (Nat.le_refl _) (.cells (madeCells #[.int .i64 0] n) 3))
  have Hs1:Hid ((w.alloc (.cells (madeCells #[.int .i64 0] n) 3)).heap.size=w.heap.size+1):=Lib.hid (by simp)
  generalize w.alloc (.cells (madeCells #[.int .i64 0] n) 3)=w1 at *
  generalize hg0:w.heap.size=g0 at *
  have Hg0:=Lib.hid hg0
  clear hg0
  go_loopw [8,31] (fun v i wr=>∃ (k:Nat) (es:List El),k≤n∧i=.int .i64 (k:Int)∧wr.ownsRow (g0+1) 292 2 v es.length (es.flatMap cellsP)∧(∀ e∈es,ManyAt wr (g0+1) n e)∧es.map f2=onesK (natsOf zs) k∧Below (g0+1) w1 wr) (fun _ i _=>n - (intOf i).toNat)
  case atStart=>exact⟨0,[],Nat.zero_le _,rfl,World.ownsRow_nil _ _ _ _,by simp,rfl,Below.refl _ _⟩
  case round=>
    obtain⟨k,es,hk,rfl,hown,hman,hones,hbr⟩:=hrel
    have Hown:=Lib.hid hown
    have Hman:=Lib.hid hman
    have Hones:=Lib.hid hones
    have Hbr:=Lib.hid hbr
    have hel:es.length≤288:=by
      have h1:=congrArg List.length hones
      rw[List.length_map]at h1
      have h2:(onesK (natsOf zs) k).length≤k:=by
        unfold onesK
        rw[List.length_map]
        have:=List.length_filter_le (fun i=>decide (0 < (natsOf zs).getD i 0)) (List.range k)
        rw[List.length_range]at this
        exact this
      omega
    clear hown hman hones hbr
    by_cases hlt:k < n
    · have hkl:k < zs.length:=by rw[Hn.out];exact hlt
      obtain⟨b,o,rfl,hcell⟩:=((HA.out.below (Hg0.out.symm▸Hb1.out)).below (Hbr.out.mono (by rw[Hs1.out];exact Nat.le_refl _))).get hkl
      have hz:=F2.out zs[k] (List.getElem_mem hkl)
      have Hd:=Lib.hid (natsOf_get zs k hkl)
      have Hnext:=Lib.hid (onesK_next (natsOf zs) k)
      rw[Hd.out,Hnl.out]at Hnext
      generalize zs[k]=z at *
      obtain⟨x,rfl⟩:=Int.eq_ofNat_of_zero_le hz.1
      rw[Int.toNat_natCast]at Hnext
      by_cases h0:x=0
      · subst h0
        rw[if_neg (by omega),List.append_nil]at Hnext
        go_wp2_with fail
        go_roundw
        case rel=>exact⟨k+1,es,by omega,by go_num,Hown.out,Hman.out,by rw[Hnext.out];exact Hones.out,Hbr.out⟩
        case measure=>simp[intOf];omega
      · have hx0:(0:Int) < (x:Int):=by omega
        rw[if_pos (by omega)]at Hnext
        go_upto_region 11 with fail
        have hm:=own_made wr (g0+1) n (List.replicate n 0) (by have:=Hbr.out.size;have:=Hs1.out;omega) (by simp) (by omega)
        rw[←made_zero]at hm
        have Hm:=Lib.hid (hm.alloc (.cells #[.int .i64 (x:Int),.slice (some ⟨wr.heap.size,0,none⟩) n n] 292))
        have hp:=Blk.new (wr.alloc (.cells (madeCells #[.int .i64 0] n) 3)) 292 #[.int .i64 (x:Int),.slice (some ⟨wr.heap.size,0,none⟩) n n]
        rw[show (wr.alloc (.cells (madeCells #[.int .i64 0] n) 3)).heap.size=wr.heap.size+1 by simp]at hp
        have Hp:=Lib.hid hp
        have HbW:=Lib.hid (((Below.refl wr.heap.size wr).alloc (Nat.le_refl _) (.cells (madeCells #[.int .i64 0] n) 3)).alloc (by simp) (.cells #[.int .i64 (x:Int),.slice (some ⟨wr.heap.size,0,none⟩) n n] 292))
        clear hm hp
        generalize (wr.alloc (.cells (madeCells #[.int .i64 0] n) 3)).alloc (.cells #[.int .i64 (x:Int),.slice (some ⟨wr.heap.size,0,none⟩) n n] 292)=W at *
        generalize hy0:wr.heap.size=y0 at *
        have Hy0:=Lib.hid hy0
        clear hy0
        have c1:=Hp.out.c1
        have ck:W.cell? ⟨y0,k,none⟩=some (.int .i64 0):=by rw[Hm.out.cellAt k (by omega)];simp[hlt,nv]
        have fk:=Hm.out.frozenAt k
        go_upto_region 12 with fail
        have Hm2:Hid ((W.setCell ⟨y0,k,none⟩ (.int .i64 1)).ownsRow (g0+1) 3 1 (.slice (some ⟨y0,0,none⟩) n n) n ((unit n k).map nv)):=Lib.hid (by
          have:=(Hm.out.stored k (.int .i64 1)).1
          rw[←unit_set,List.map_set];exact this)
        have Hp2:Hid (Blk (W.setCell ⟨y0,k,none⟩ (.int .i64 1)) (y0+1) 292 #[.int .i64 (x:Int),.slice (some ⟨y0,0,none⟩) n n]):=Lib.hid (Hp.out.far (by show y0+1≠y0;omega) _)
        have HbW2:Hid (Below wr.heap.size wr (W.setCell ⟨y0,k,none⟩ (.int .i64 1))):=Lib.hid (by rw[Hy0.out];exact HbW.out.setCell (Nat.le_refl _) _)
        clear Hm Hp HbW c1 ck fk
        generalize W.setCell ⟨y0,k,none⟩ (.int .i64 1)=W2 at *
        have Hown2:=Lib.hid ((own_keep Hown.out HbW2.out).alloc (.cells #[.int .i64 (x:Int),.slice (some ⟨y0,0,none⟩) n n] 292))
        have Hm3:=Lib.hid (Hm2.out.alloc (.cells #[.int .i64 (x:Int),.slice (some ⟨y0,0,none⟩) n n] 292))
        have Hb3:Hid (Below wr.heap.size wr (W2.alloc (.cells #[.int .i64 (x:Int),.slice (some ⟨y0,0,none⟩) n n] 292))):=Lib.hid (HbW2.out.alloc HbW2.out.size _)
        have Hsl:Hid (SlAt (W2.alloc (.cells #[.int .i64 (x:Int),.slice (some ⟨y0,0,none⟩) n n] 292)) (some ⟨W2.heap.size,0,none⟩) [.int .i64 (x:Int),.slice (some ⟨y0,0,none⟩) n n]):=Lib.hid (SlAt.of_heap (heap_alloc_new _ _) rfl)
        have Hbr3:=Lib.hid (Hbr.out.trans (Hb3.out.mono (by have:=Hbr.out.size;have:=Hs1.out;omega)))
        have hc0:=Hp2.out.c0
        have hc1:=Hp2.out.c1
        have Hbs:Hid (g0+1≤(W2.alloc (.cells #[.int .i64 (x:Int),.slice (some ⟨y0,0,none⟩) n n] 292)).heap.size):=Lib.hid (by have:=Hbr3.out.size;have:=Hs1.out;omega)
        go_wp2_with (at_builtin;refine wpList_app _ rfl (.tmp 47) (.tmp 49) _ rfl (g0+1) 292 _ 2 32 tyP u8 es.length (es.flatMap cellsP) rfl Hown2.out (some ⟨W2.heap.size,0,none⟩) 1 1 [.int .i64 (x:Int),.slice (some ⟨y0,0,none⟩) n n] rfl rfl Hsl.out (by simp[Value.oneCell']) (by simp) (by unfold maxLen;omega) (by omega) Hbs.out ?_;intro v4 w4 hown4 hg4 _;have Ho4:=Lib.hid hown4;have Hg4:=Lib.hid hg4;clear hown4 hg4)
        go_roundw
        case rel=>
          refine⟨k+1,es++[(x,(some ⟨y0,0,none⟩,n,n),unit n k)],by omega,by go_num,?_,?_,?_,?_⟩
          · rw[List.length_append,List.flatMap_append];exact Ho4.out
          · intro e he
            rcases List.mem_append.1 he with he | he
            · exact ((Hman.out e he).below Hb3.out).grownV Hown2.out Hg4.out
            · simp at he
              subst he
              exact ManyAt.grownV ⟨y0,n,rfl,Hm3.out⟩ Hown2.out Hg4.out
          · rw[List.map_append,Hones.out,Hnext.out];rfl
          · exact own_below Hown2.out Hg4.out Hbr3.out Hbs.out
        case measure=>simp[intOf];omega
    · obtain rfl:k=n:=by omega
      have hon:=Hones.out
      rw[←Hnl.out,onesK_all]at hon
      have Hon:=Lib.hid hon
      have Hon2:Hid ((ones (natsOf zs)).length=es.length):=Lib.hid (by rw[←hon,List.length_map])
      have Hbw:Hid (Below g0 w wr):=Lib.hid (Hb1.out.trans (Hbr.out.mono (by omega)))
      have Hout2:Hid (wr.ownsRow g0 3 1 (.slice (some ⟨g0,0,none⟩) k k) k ((List.replicate k 0).map nv)):=Lib.hid (by
        have:=Hout.out
        refine⟨this.1,?_⟩
        rcases this.2 with h1 | ⟨g',cap,cur,hv,hbg,hgb,r⟩
        · exact .inl h1
        · refine .inr ⟨g',cap,cur,hv,hbg,?_,r⟩
          have:g'=g0:=by injection hv with hv;injection hv with hv;injection hv with hv;exact hv.symm
          subst this
          rw[Hbr.out.block g' (by omega)];exact hgb)
      clear hon Hones
      obtain⟨N1,hN⟩:∃ N1,es.length=N1:=⟨_,rfl⟩
      have HN1:=Lib.hid hN
      rw[hN]at Hown Hon2 hel
      clear hN
      by_cases hN0:N1=0
      · have Hf:Hid (lengthsP (natsOf zs) (L:Int).toNat=List.replicate k 0):=Lib.hid (by unfold lengthsP;rw[if_pos (by rw[Hon2.out];exact hN0),Hnl.out])
        have e0:((N1:Int) == 0)=true:=by simp;omega
        obtain⟨A1,c1,hv,_,_,_,_⟩:=own_slat Hown.out
        subst hv
        clear hN0
        go_wp2_with fail
        go_ret2
        refine⟨.inr ⟨H0.out,_,rfl,?_⟩,by rw[Hg0.out];exact Hbw.out⟩
        rw[Hf.out,Hn.out,Hg0.out];exact Hout2.out
      · have e0:((N1:Int) == 0)=false:=by simp;omega
        obtain⟨g1,c1,hv,hg1,hg2⟩:=Hown.out.form (by omega)
        subst hv
        have Hg1:=Lib.hid hg1
        clear hg1 hg2
        by_cases hN1:N1=1
        · obtain⟨e,hee⟩:=List.length_eq_one_iff.1 (HN1.out.trans hN1)
          subst hee
          obtain⟨g',cap,he1,he2⟩:=Hman.out e (by simp)
          have hcell:wr.cell? ⟨g1,1,none⟩=some (.slice (some ⟨g',0,none⟩) k cap):=by
            rw[Hown.out.cellAt 1 (by omega)]
            show some (slv e.2.1)=_
            rw[he1];rfl
          have Hf:Hid (lengthsP (natsOf zs) (L:Int).toNat=e.2.2):=Lib.hid (by
            unfold lengthsP
            rw[if_neg (by rw[Hon2.out];exact hN0),if_pos (by rw[Hon2.out];exact hN1),←Hon.out];rfl)
          have He2:=Lib.hid he2
          have e1:((N1:Int) == 1)=true:=by simp;omega
          have e2:0 < N1:=by omega
          clear he1 he2 hN0 hN1
          go_wp2_with fail
          go_ret2
          refine⟨.inr ⟨H0.out,_,rfl,?_⟩,by rw[Hg0.out];exact Hbw.out⟩
          rw[Hf.out,Hn.out,Hg0.out];exact own_base He2.out (by omega)
        · have e1:((N1:Int) == 1)=false:=by simp;omega
          have hbd1:∀ e∈es,e.1≤1152921504606846976:=fun e he=>by
            have h1:f2 e∈stab pkey (ones (natsOf zs)):=(stab_perm pkey _).mem_iff.2 (by rw[←Hon.out];exact List.mem_map_of_mem he)
            have:=(bd_row (ones_bd (natsOf zs) (fun x hx=>by
              obtain⟨z,hz,rfl⟩:=List.mem_map.1 hx
              have:=F2.out z hz;omega) _ h1) (by omega)).1
            omega
          have Hr:=rising_any (g0+1) g1 N1 c1 es wr Hown.out (by omega) hbd1
          have HR:=Lib.hid Hr
          have hN2:2≤N1:=by omega
          have hN288:N1≤288:=by omega
          clear hN0 hN1 hbd1 Hr hel
          go_wp2_with fail
          refine (HR.out).mono ?_
          rintro e w2 ⟨rfl,hown2,hg2⟩
          have hsz1:g0+1≤wr.heap.size:=by have:=Hbr.out.size;have:=Hs1.out;omega
          have Hown2:=Lib.hid hown2
          have Hb2:=Lib.hid (own_below Hown.out hg2 Hbr.out hsz1)
          have Hman2:Hid (∀ e∈stab ekey es,ManyAt w2 (g0+1) k e):=Lib.hid (fun e he=>(Hman.out e ((stab_perm ekey es).mem_iff.1 he)).grownV Hown.out hg2)
          have Hone:Hid ((stab ekey es).map f2=stab pkey (ones (natsOf zs))):=Lib.hid (by rw[f2_stab,Hon.out])
          have Hln:Hid ((stab ekey es).length=N1):=Lib.hid (by rw[stab_length];exact HN1.out)
          have Hol:Hid ((stab pkey (ones (natsOf zs))).length=N1):=Lib.hid (by rw[stab_length];exact Hon2.out)
          have Hobd:Hid (∀ p∈stab pkey (ones (natsOf zs)),BdP 0 p):=Lib.hid (ones_bd (natsOf zs) (fun x hx=>by
            obtain⟨z,hz,rfl⟩:=List.mem_map.1 hx
            have:=F2.out z hz;omega))
          have HLP:Hid (lengthsP (natsOf zs) (L:Int).toNat=addAll k ((rowsP (stab pkey (ones (natsOf zs))) (L - 1)).take (2*N1 - 2))):=Lib.hid (by
            unfold lengthsP
            rw[if_neg (by rw[Hon2.out];omega),if_neg (by rw[Hon2.out];omega),Hon2.out,Hnl.out,Int.toNat_natCast])
          have Hus:Hid (N1≤2 ^ L):=Lib.hid (by
            have h1:=F5.out
            rw[Int.toNat_natCast]at h1
            have h2:=used_ones zs
            rw[Hon2.out]at h2
            omega)
          have Hk1:Hid (N1≤k):=Lib.hid (by have:=ones_le (natsOf zs);rw[Hon2.out,Hnl.out]at this;exact this)
          clear hown2 hg2 HR Hown Hbr Hman Hout2 Hbw hsz1 HC
          generalize stab ekey es=e1s at *
          generalize stab pkey (ones (natsOf zs))=one1 at *
          have hcb:N1*32≤140737488355328:=by omega
          go_wp2_with fail
          refine (CloneP.clone_any (some ⟨g1,0,none⟩) N1 c1 (e1s.flatMap cellsP) w2 (by rw[cellsP_len,Hln.out]) (by obtain⟨A9,c9,h9,_,_,h10,_⟩:=own_slat Hown2.out;injection h9 with h9;rw[h9];exact h10) (by simp) (cellsP_one e1s) (by unfold maxLen;omega) hcb).mono ?_
          rintro e w3 ⟨v3,rfl,hown3,hb3⟩
          have Hown3:Hid (w3.ownsRow (g0+1) 292 2 v3 e1s.length (e1s.flatMap cellsP)):=Lib.hid (by rw[Hln.out];exact own_base hown3 (by have:=Hb2.out.size;have:=Hs1.out;omega))
          have Hb3:=Lib.hid hb3
          clear hown3 hb3
          obtain⟨L1,hL⟩:∃ L1,L=L1+1:=⟨L - 1,by omega⟩
          have eL:(L:Int) - 1=(L1:Int):=by omega
          have HL:=Lib.hid hL
          have hL14:L1≤14:=by omega
          clear hL
          go_wp2_with fail
          clear eL
          go_loopw [13,70] (fun rv i wr=>∃ (t:Nat) (et:List El),t≤L1∧i=.int .i64 (t:Int)∧wr.ownsRow (g0+1) 292 2 rv et.length (et.flatMap cellsP)∧(∀ e∈et,ManyAt wr (g0+1) k e)∧et.map f2=rowsP one1 t∧Below w2.heap.size w2 wr) (fun _ i _=>L1 - (intOf i).toNat)
          case atStart=>exact⟨0,e1s,Nat.zero_le _,rfl,Hown3.out,fun e he=>(Hman2.out e he).below Hb3.out,Hone.out,Hb3.out⟩
          case round=>
            obtain⟨t,et,ht,rfl,hown,hman,hrow,hbr⟩:=hrel
            have Hman:=Lib.hid hman
            have Hrow:=Lib.hid hrow
            have Hbr:=Lib.hid hbr
            obtain⟨Nt,hNt⟩:∃ Nt,et.length=Nt:=⟨_,rfl⟩
            have HNt:=Lib.hid hNt
            have hNt2:Nt≤576:=by
              have h1:=(rows_big one1 t).1
              rw[←hrow,List.length_map,hNt,Hol.out]at h1
              omega
            have hNt1:N1≤Nt:=by
              have h1:=rows_ge one1 t
              rw[←hrow,List.length_map,hNt,Hol.out]at h1
              exact h1
            rw[hNt]at hown
            obtain⟨gr,cr,hv,hgr1,hgr2⟩:=hown.form (by omega)
            subst hv
            have Hown:=Lib.hid hown
            clear hown hman hrow hbr hNt
            by_cases hlt:t < L1
            · generalize hB:wr.heap.size=B at *
              have HB:=Lib.hid hB
              clear hB
              go_wp2_with fail
              go_loopw [14,15] (fun pv kv wx=>∃ (j:Nat) (ps:List El),kv=.int .i64 ((2*j:Nat):Int)∧2*j≤Nt∧wx.ownsRow B 292 2 pv ps.length (ps.flatMap cellsP)∧(∀ e∈ps,ManyAt wx (g0+1) k e)∧ps.map f2=pairs ((rowsP one1 t).take (2*j))∧Below B wr wx) (fun _ kv _=>Nt - (intOf kv).toNat)
              case atStart=>exact⟨0,[],rfl,Nat.zero_le _,World.ownsRow_nil _ _ _ _,by simp,rfl,Below.refl _ _⟩
              case round=>
                obtain⟨j,ps,rfl,hj,hown,hman,hps,hbr⟩:=hrel
                have Hpown:=Lib.hid hown
                have Hpman:=Lib.hid hman
                have Hps:=Lib.hid hps
                have Hbx:=Lib.hid hbr
                have hpl:ps.length≤576:=by
                  have h1:=congrArg List.length hps
                  rw[List.length_map,pairs_len,List.length_take]at h1
                  omega
                clear hown hman hps hbr
                obtain⟨kk,hkk⟩:∃ kk,kk=2*j:=⟨_,rfl⟩
                have e2:(kk:Int)+1=((kk+1:Nat):Int):=by omega
                obtain⟨kq,hkq⟩:∃ kq,kq=kk+1:=⟨_,rfl⟩
                rw[←hkq]at e2
                rw[←hkk]at hj⊢
                have Hkk:=Lib.hid (And.intro hkk hkq)
                clear hkk
                by_cases hlt2:kq < Nt
                · have hkl:kk < et.length:=by rw[HNt.out];omega
                  have hql:kq < et.length:=by rw[HNt.out];omega
                  have hrow2:=own_keep Hown.out (HB.out.symm▸Hbx.out)
                  have Hma:=Lib.hid ((Hman.out _ (List.getElem_mem hkl)).below (HB.out.symm▸Hbx.out))
                  have Hmb:=Lib.hid ((Hman.out _ (List.getElem_mem hql)).below (HB.out.symm▸Hbx.out))
                  obtain⟨ga,ca,hva,hSa⟩:=Hma.out.val
                  obtain⟨gb,cb,hvb,hSb⟩:=Hmb.out.val
                  have ck0:wr.cell? ⟨gr,kk*2,none⟩=some (.int .i64 (et[kk].1:Int)):=by rw[hrow2.cellAt (kk*2) (by omega),cellsP_0 et kk hkl];rfl
                  have ck1:wr.cell? ⟨gr,kk*2+1,none⟩=some (.slice (some ⟨ga,0,none⟩) k ca):=by rw[hrow2.cellAt (kk*2+1) (by omega),cellsP_1 et kk hkl,hva]
                  have cq0:wr.cell? ⟨gr,kq*2,none⟩=some (.int .i64 (et[kq].1:Int)):=by rw[hrow2.cellAt (kq*2) (by omega),cellsP_0 et kq hql];rfl
                  have cq1:wr.cell? ⟨gr,kq*2+1,none⟩=some (.slice (some ⟨gb,0,none⟩) k cb):=by rw[hrow2.cellAt (kq*2+1) (by omega),cellsP_1 et kq hql,hvb]
                  have hba:=bd_row (rows_bd one1 Hobd.out t _ (by rw[←Hrow.out];exact List.mem_map_of_mem (List.getElem_mem hkl))) (by omega)
                  have hbb:=bd_row (rows_bd one1 Hobd.out t _ (by rw[←Hrow.out];exact List.mem_map_of_mem (List.getElem_mem hql))) (by omega)
                  have hla:=Hma.out.len
                  have hlb:=Hmb.out.len
                  have Hsnoc:Hid (pairs ((rowsP one1 t).take (2*(j+1)))=pairs ((rowsP one1 t).take (2*j))++[both (f2 et[kk]) (f2 et[kq])]):=Lib.hid (by
                    have h1:=Hkk.out
                    have e:(rowsP one1 t).take (2*(j+1))=(rowsP one1 t).take (2*j)++[f2 et[kk],f2 et[kq]]:=by
                      rw[←Hrow.out,show 2*(j+1)=kk+1+1 by omega,←List.map_take,←List.map_take,List.take_succ_eq_append_getElem (by omega:kk+1 < et.length),List.take_succ_eq_append_getElem hkl,←h1.1]
                      have h3:et[kk+1]=et[kq]:=by simp only[h1.2]
                      rw[h3];simp only[List.map_append,List.map_cons,List.map_nil,List.append_assoc,List.cons_append,List.nil_append]
                    rw[e]
                    exact pairs_two _ _ _ j (by rw[←Hrow.out,List.length_take,List.length_map,HNt.out];omega))
                  obtain⟨x,hx⟩:∃ x,et[kk]=x:=⟨_,rfl⟩
                  obtain⟨y,hy⟩:∃ y,et[kq]=y:=⟨_,rfl⟩
                  rw[hx]at hSa ck0 hba hla Hsnoc
                  rw[hy]at hSb cq0 hbb hlb Hsnoc
                  have HSa:=Lib.hid hSa
                  have HSb:=Lib.hid hSb
                  have Hla:=Lib.hid hla
                  have Hlb:=Lib.hid hlb
                  have Hba:=Lib.hid hba
                  have Hbb:=Lib.hid hbb
                  have hkkN:kk < Nt:=by omega
                  obtain⟨sm,hsm⟩:∃ sm,x.1+y.1=sm:=⟨_,rfl⟩
                  have Hsm:=Lib.hid hsm
                  clear hsm
                  have hw:IntKind.i64.wrap (kq:Int)=(kq:Int):=IntWalk.i64_in _ (by omega)
                  have hn1:Hid (1≤k):=Lib.hid (by have:=Hk1.out;omega)
                  have Hgd:=Lib.hid (Hbx.out.drew)
                  clear hSa hSb hla hlb hba hbb hx hy hva hvb hrow2 Hma Hmb hkl hql hkq
                  go_wp2_with fail
                  go_region_law ((first
                    | (refine step_app rfl (.tmp 79) (.tmp 90) _ rfl B 292 _ 2 32 tyP u14 ps.length (ps.flatMap cellsP) (by simp[Act.eval]) Hp7.out (some ⟨w5.heap.size,0,none⟩) 1 1 [.int .i64 (sm:Int),.slice (some ⟨gm,0,none⟩) k cm] (by simp[Act.eval]) rfl Hs7.out (by simp[Value.oneCell']) (by simp) (by unfold maxLen;omega) (by omega) Hbs7.out ?_
                       intro v8 w8 hown8 hg8
                       have Ho8:=Lib.hid hown8
                       have Hg8:=Lib.hid hg8
                       clear hown8 hg8)
                    | (go_simp
                       go_at_call 229
                       refine (both_any x.1 y.1 k ca cb _ _ x.2.2 y.2.2 _ Hla.out Hlb.out hn1.out hn288 (by have:=Hba.out.1;omega) (by have:=Hbb.out.1;omega) (by exact HSa.out) (by exact HSb.out) (fun z hz=>by have:=Hba.out.2 z hz;omega) (fun z hz=>by have:=Hbb.out.2 z hz;omega)).mono ?_
                       rintro e w5 ⟨⟨gm,cm,rfl,hm5⟩,hb5⟩
                       rw[Hsm.out]
                       have Hm7:=Lib.hid (hm5.alloc (.cells #[.int .i64 (sm:Int),.slice (some ⟨gm,0,none⟩) k cm] 292))
                       have Hp7:=Lib.hid ((own_keep (own_drew Hpown.out) hb5).alloc (.cells #[.int .i64 (sm:Int),.slice (some ⟨gm,0,none⟩) k cm] 292))
                       have Hbw7:=Lib.hid (hb5.alloc hb5.size (.cells #[.int .i64 (sm:Int),.slice (some ⟨gm,0,none⟩) k cm] 292))
                       have Hb7:=Lib.hid ((Hbx.out.drew).trans (Hbw7.out.mono (by have:=Hbx.out.size;have:=HB.out;show B≤wr.heap.size;omega)))
                       have Hbs7:Hid (B≤(w5.alloc (.cells #[.int .i64 (sm:Int),.slice (some ⟨gm,0,none⟩) k cm] 292)).heap.size):=Lib.hid (by have:=Hb7.out.size;have:=HB.out;omega)
                       have Hs7:Hid (SlAt (w5.alloc (.cells #[.int .i64 (sm:Int),.slice (some ⟨gm,0,none⟩) k cm] 292)) (some ⟨w5.heap.size,0,none⟩) [.int .i64 (sm:Int),.slice (some ⟨gm,0,none⟩) k cm]):=Lib.hid (SlAt.of_heap (heap_alloc_new _ _) rfl)
                       have Hman7:Hid (∀ e∈ps,ManyAt (w5.alloc (.cells #[.int .i64 (sm:Int),.slice (some ⟨gm,0,none⟩) k cm] 292)) (g0+1) k e):=Lib.hid (fun e he=>ManyAt.below (w:=wr.drew) (by exact Hpman.out e he) Hbw7.out)
                       clear hm5 hb5)))
                  all_goals (
                    have Hb8:=Lib.hid (own_below Hp7.out Hg8.out Hb7.out Hbs7.out)
                    have Hman8:Hid (∀ e∈ps++[(sm,(some ⟨gm,0,none⟩,k,cm),List.zipWith (·+·) x.2.2 y.2.2)],ManyAt w8 (g0+1) k e):=Lib.hid (fun e he=>by
                      rcases List.mem_append.1 he with he | he
                      · exact (Hman7.out e he).grownV Hp7.out Hg8.out
                      · simp at he
                        subst he
                        have hle:g0+1≤wr.drew.heap.size:=by
                          show g0+1≤wr.heap.size
                          have h1:=Hb2.out.size;have h2:=Hs1.out;have h3:=Hbr.out.size;have h4:=Hbx.out.size;have h5:=HB.out;omega
                        have hmm:ManyAt (w5.alloc (.cells #[.int .i64 (sm:Int),.slice (some ⟨gm,0,none⟩) k cm] 292)) (g0+1) k (sm,(some ⟨gm,0,none⟩,k,cm),List.zipWith (·+·) x.2.2 y.2.2):=⟨gm,cm,rfl,own_base Hm7.out hle⟩
                        exact hmm.grownV Hp7.out Hg8.out)
                    have Hps8:Hid ((ps++([(sm,(some ⟨gm,0,none⟩,k,cm),List.zipWith (·+·) x.2.2 y.2.2)]:List El)).map f2=pairs ((rowsP one1 t).take (2*(j+1)))):=Lib.hid (by rw[Hsnoc.out,List.map_append,Hps.out,←Hsm.out];rfl)
                    clear Hm7 Hp7 Hb7 Hbs7 Hs7 Hman7 Hbw7 Hg8 ck0 ck1 cq0 cq1
                    go_wp2_with fail
                    go_roundw
                    case rel=>exact⟨j+1,_,int_eq (by have:=Hkk.out;omega),by have:=Hkk.out;omega,by rw[List.length_append,List.flatMap_append];exact Ho8.out,Hman8.out,Hps8.out,Hb8.out⟩
                    case measure=>simp[intOf];omega)
                · have Hpf:Hid (ps.map f2=pairs (rowsP one1 t)):=Lib.hid (by
                    have h1:=Hkk.out
                    have h2:(rowsP one1 t).length=Nt:=by rw[←Hrow.out,List.length_map,HNt.out]
                    rw[Hps.out]
                    exact pairs_cut _ j (by omega) (by omega))
                  obtain⟨PA,pc,hv,_,_,_,_⟩:=own_slat Hpown.out
                  subst hv
                  obtain⟨pl,hpl2⟩:∃ pl,ps.length=pl:=⟨_,rfl⟩
                  have Hpl:=Lib.hid hpl2
                  rw[hpl2]at Hpown⊢
                  have hplb:pl≤576:=by omega
                  clear hpl hpl2 Hkk Hps hkq
                  have H1o:=Lib.hid (own_keep (own_keep Hown2.out Hbr.out) (HB.out.symm▸Hbx.out))
                  have HIs1:Hid (IsSl (wr.alloc (.cells #[.slice (some ⟨g1,0,none⟩) N1 c1,.slice PA pl pc] 290)) 2 (.slice (some ⟨g1,0,none⟩) N1 c1) N1 (e1s.flatMap cellsP)):=Lib.hid (own_issl (H1o.out.alloc _))
                  have HIs2:Hid (IsSl (wr.alloc (.cells #[.slice (some ⟨g1,0,none⟩) N1 c1,.slice PA pl pc] 290)) 2 (.slice PA pl pc) pl (ps.flatMap cellsP)):=Lib.hid (own_issl (Hpown.out.alloc _))
                  have HSr:Hid (SlAt (wr.alloc (.cells #[.slice (some ⟨g1,0,none⟩) N1 c1,.slice PA pl pc] 290)) (some ⟨wr.heap.size,0,none⟩) [.slice (some ⟨g1,0,none⟩) N1 c1,.slice PA pl pc]):=Lib.hid (SlAt.of_heap (heap_alloc_new _ _) rfl)
                  have Hbw:Hid (Below wr.heap.size wr (wr.alloc (.cells #[.slice (some ⟨g1,0,none⟩) N1 c1,.slice PA pl pc] 290))):=Lib.hid ((Below.refl _ _).alloc (Nat.le_refl _) _)
                  go_wp2_with fail
                  refine (ConcatP.concat_any (some ⟨wr.heap.size,0,none⟩) 2 2 [(.slice (some ⟨g1,0,none⟩) N1 c1,N1,e1s.flatMap cellsP),(.slice PA pl pc,pl,ps.flatMap cellsP)] _ rfl (by omega) HSr.out (fun r hr=>by
                    simp at hr
                    rcases hr with rfl | rfl
                    · exact HIs1.out
                    · exact HIs2.out) (fun r hr=>by
                    simp at hr
                    rcases hr with rfl | rfl
                    · exact cellsP_one e1s
                    · exact cellsP_one ps) (by simp[ConcatP.total];omega)).mono ?_
                  rintro e w6 ⟨v6,rfl,hown6,hb6⟩
                  have hcc:ConcatP.cellsOf [(Value.slice (some ⟨g1,0,none⟩) N1 c1,N1,e1s.flatMap cellsP),(Value.slice PA pl pc,pl,ps.flatMap cellsP)]=(e1s++ps).flatMap cellsP:=by simp[ConcatP.cellsOf]
                  have htt:ConcatP.total [(Value.slice (some ⟨g1,0,none⟩) N1 c1,N1,e1s.flatMap cellsP),(Value.slice PA pl pc,pl,ps.flatMap cellsP)]=N1+pl:=by simp[ConcatP.total]
                  rw[hcc,htt]at hown6
                  obtain⟨NN,hNN⟩:∃ NN,N1+pl=NN:=⟨_,rfl⟩
                  rw[hNN]at hown6
                  obtain⟨g6,c6,hv6,hg6,hg62⟩:=hown6.form (by omega)
                  subst hv6
                  have Hsz6:Hid (g0+1≤wr.heap.size∧w2.heap.size≤wr.heap.size):=Lib.hid (by
                    have h1:=Hb2.out.size;have h2:=Hs1.out;have h3:=Hbr.out.size;have h4:=Hbx.out.size;have h5:=HB.out;omega)
                  have Hown6:=Lib.hid (own_base hown6 (by have h1:=Hbw.out.size;have:=Hsz6.out.2;omega:w2.heap.size≤_))
                  have Hb06:=Lib.hid (Hbr.out.trans ((Hbx.out.mono (by have h3:=Hbr.out.size;have h5:=HB.out;omega)).trans ((Hbw.out.mono Hsz6.out.2).trans (hb6.mono (by have h1:=Hbw.out.size;have:=Hsz6.out.2;omega)))))
                  have Hm1:Hid (∀ e∈e1s++ps,ManyAt w6 (g0+1) k e):=Lib.hid (fun e he=>by
                    rcases List.mem_append.1 he with he | he
                    · exact ((Hman2.out e he).below Hb06.out)
                    · exact (((Hpman.out e he).below Hbw.out).below hb6))
                  have Hmap:Hid ((stab ekey (e1s++ps)).map f2=rowsP one1 (t+1)):=Lib.hid (by rw[f2_stab,List.map_append,Hone.out,Hpf.out];rfl)
                  have Hr6:=Lib.hid (rising_any w2.heap.size g6 NN c6 (e1s++ps) w6 Hown6.out (by omega) (fun e he=>by
                    have h1:f2 e∈rowsP one1 (t+1):=by rw[←Hmap.out];exact List.mem_map_of_mem ((stab_perm ekey _).mem_iff.2 he)
                    have:=(bd_row (rows_bd one1 Hobd.out (t+1) _ h1) (by omega)).1
                    omega))
                  have Hlen6:Hid ((stab ekey (e1s++ps)).length=NN):=Lib.hid (by rw[stab_length,List.length_append,Hln.out,Hpl.out];exact hNN)
                  clear hown6 hb6 hcc htt hg6 hg62 HIs1 HIs2 HSr H1o Hpown Hpman
                  go_wp2_with fail
                  refine (Hr6.out).mono ?_
                  rintro e w7 ⟨rfl,hown7,hg7⟩
                  have Hown7:=Lib.hid (own_base hown7 (by have h1:=Hb2.out.size;have h2:=Hs1.out;omega:g0+1≤w2.heap.size))
                  have Hb07:=Lib.hid (own_below Hown6.out hg7 Hb06.out Hb06.out.size)
                  have Hm7:Hid (∀ e∈stab ekey (e1s++ps),ManyAt w7 (g0+1) k e):=Lib.hid (fun e he=>(Hm1.out e ((stab_perm ekey _).mem_iff.1 he)).grownV Hown6.out hg7)
                  clear hown7 hg7 Hr6
                  go_wp2_with fail
                  go_roundw
                  case rel=>exact⟨t+1,stab ekey (e1s++ps),by omega,by go_num,by rw[Hlen6.out];exact Hown7.out,Hm7.out,Hmap.out,Hb07.out⟩
                  case measure=>simp[intOf];omega
            · obtain rfl:t=L1:=by omega
              obtain⟨M,hM⟩:∃ M,M=2*N1 - 2:=⟨_,rfl⟩
              have hMN:M≤Nt:=by
                have h1:=rows_enough one1 L hL1 (by rw[Hol.out];exact Hus.out)
                rw[show L - 1=t by have:=HL.out;omega,←Hrow.out,List.length_map,HNt.out,Hol.out]at h1
                omega
              obtain⟨A9,c9,hv9,hcap,_,_,_⟩:=own_slat Hown.out
              injection hv9 with hv1 hv2 hv3
              subst hv3
              clear hv1 hv2
              have eM:2*(N1:Int) - 2=(M:Int):=by omega
              have hMc:M≤cr:=by omega
              have Hout3:Hid (wr.ownsRow g0 3 1 (.slice (some ⟨g0,0,none⟩) k k) k ((addAll k (([]:List El).map f2)).map nv)):=Lib.hid (by
                have h1:=own_low Hout.out (Hb2.out.trans (Hbr.out.mono (by have h1:=Hb2.out.size;have h2:=Hs1.out;omega))) (by omega:g0 < g0+1)
                simpa [addAll] using h1)
              have Hbw:Hid (Below g0 w wr):=Lib.hid (Hb1.out.trans ((Hb2.out.mono (by omega)).trans (Hbr.out.mono (by have h1:=Hb2.out.size;have h2:=Hs1.out;omega))))
              have HLP2:Hid (lengthsP (natsOf zs) (L:Int).toNat=addAll k ((et.map f2).take M)):=Lib.hid (by rw[HLP.out,hM,Hrow.out,show L - 1=t by have:=HL.out;omega])
              have Hlen:Hid (∀ e∈et,e.2.2.length=k):=Lib.hid (fun e he=>(Hman.out e he).len)
              have Hbd:Hid (∀ e∈et,∀ x∈e.2.2,x≤40000):=Lib.hid (fun e he=>(bd_row (rows_bd one1 Hobd.out t _ (by rw[←Hrow.out];exact List.mem_map_of_mem he)) (by omega)).2)
              clear hM Hout Hb2 Hman2 Hone Hln Hol Hobd HLP Hus Hown2 Hbr Hrow
              go_wp2_with fail
              clear eM
              go_loopw [106] (fun i wr=>∃ j:Nat,j≤M∧i=.int .i64 (j:Int)∧wr.ownsRow g0 3 1 (.slice (some ⟨g0,0,none⟩) k k) k ((addAll k ((et.map f2).take j)).map nv)∧wr.ownsRow (g0+1) 292 2 (.slice (some ⟨gr,0,none⟩) Nt cr) Nt (et.flatMap cellsP)∧(∀ e∈et,ManyAt wr (g0+1) k e)∧Below g0 w wr) (fun i _=>M - (intOf i).toNat)
              case atStart=>exact⟨0,Nat.zero_le _,rfl,by simpa using Hout3.out,Hown.out,Hman.out,Hbw.out⟩
              case round=>
                obtain⟨j,hj,rfl,hout,hown,hman,hbw⟩:=hrel
                have Hout:=Lib.hid hout
                have Howr:=Lib.hid hown
                have Hmanr:=Lib.hid hman
                have Hbwr:=Lib.hid hbw
                clear hout hman hbw
                by_cases hlt:j < M
                · have hjl:j < et.length:=by rw[HNt.out];omega
                  obtain⟨ga,ca,hva,_⟩:=(Hmanr.out _ (List.getElem_mem hjl)).val
                  have c0:wr.cell? ⟨gr,j*2,none⟩=some (.int .i64 (et[j].1:Int)):=by rw[hown.cellAt (j*2) (by omega),cellsP_0 et j hjl];rfl
                  have c1:wr.cell? ⟨gr,j*2+1,none⟩=some (.slice (some ⟨ga,0,none⟩) k ca):=by rw[hown.cellAt (j*2+1) (by omega),cellsP_1 et j hjl,hva]
                  have Hsn:Hid ((et.map f2).take (j+1)=(et.map f2).take j++[f2 et[j]]):=Lib.hid (by rw[List.take_succ_eq_append_getElem (by rw[List.length_map];exact hjl),List.getElem_map])
                  have Hme:=Lib.hid (List.getElem_mem hjl)
                  obtain⟨x,hx⟩:∃ x,et[j]=x:=⟨_,rfl⟩
                  rw[hx]at hva c0 Hsn Hme
                  have Hxl:=Lib.hid (Hlen.out x Hme.out)
                  have Hxb:=Lib.hid (Hbd.out x Hme.out)
                  have Hcl:Hid ((addAll k ((et.map f2).take j)).length=k):=Lib.hid (addAll_len k _ (fun p hp=>by
                    obtain⟨e,he,rfl⟩:=List.mem_map.1 (List.mem_of_mem_take hp)
                    exact Hlen.out e he))
                  have Hcb:Hid (∀ z∈addAll k ((et.map f2).take j),z≤100000000):=Lib.hid (fun z hz=>by
                    have:=addAll_bd k 40000 _ (fun p hp=>by
                      obtain⟨e,he,rfl⟩:=List.mem_map.1 (List.mem_of_mem_take hp)
                      exact Hbd.out e he) z hz
                    rw[List.length_take]at this
                    have h2:min j (et.map f2).length≤j:=Nat.min_le_left _ _
                    have h3:40000*min j (et.map f2).length≤40000*576:=Nat.mul_le_mul_left _ (by omega)
                    omega)
                  have Hva:=Lib.hid hva
                  have hjc:j < cr:=by omega
                  clear hown hva hx
                  generalize hcur:addAll k ((et.map f2).take j)=cur at *
                  have Hcur:=Lib.hid hcur
                  clear hcur
                  go_wp2_with fail
                  have Hout4:=Lib.hid (Hout.out.alloc (.cells #[.int .i64 (x.1:Int),.slice (some ⟨ga,0,none⟩) k ca] 292))
                  have Howr4:=Lib.hid (Howr.out.alloc (.cells #[.int .i64 (x.1:Int),.slice (some ⟨ga,0,none⟩) k ca] 292))
                  have Hman4:Hid (∀ e∈et,ManyAt (wr.alloc (.cells #[.int .i64 (x.1:Int),.slice (some ⟨ga,0,none⟩) k ca] 292)) (g0+1) k e):=Lib.hid (fun e he=>(Hmanr.out e he).below ((Below.refl _ _).alloc (Nat.le_refl _) _))
                  have Hbw4:=Lib.hid (Hbwr.out.alloc (by rw[←Hg0.out];exact Hbwr.out.size) (.cells #[.int .i64 (x.1:Int),.slice (some ⟨ga,0,none⟩) k ca] 292))
                  clear Hout Howr Hmanr Hbwr c0 c1
                  generalize wr.alloc (.cells #[.int .i64 (x.1:Int),.slice (some ⟨ga,0,none⟩) k ca] 292)=wq at *
                  go_loopw [113] (fun i wx=>∃ q:Nat,q≤k∧i=.int .i64 (q:Int)∧wx.ownsRow g0 3 1 (.slice (some ⟨g0,0,none⟩) k k) k ((addTo cur x.2.2 q).map nv)∧wx.ownsRow (g0+1) 292 2 (.slice (some ⟨gr,0,none⟩) Nt cr) Nt (et.flatMap cellsP)∧(∀ e∈et,ManyAt wx (g0+1) k e)∧Below g0 w wx) (fun i _=>k - (intOf i).toNat)
                  case atStart=>exact⟨0,Nat.zero_le _,rfl,by rw[addTo_zero];exact Hout4.out,Howr4.out,Hman4.out,Hbw4.out⟩
                  case round=>
                    obtain⟨q,hq,rfl,hout,hown,hman,hbw⟩:=hrel
                    have Howr5:=Lib.hid hown
                    have Hman5:=Lib.hid hman
                    have Hbw5:=Lib.hid hbw
                    clear hown hman hbw
                    by_cases hlt3:q < k
                    · have q1:q < cur.length:=by rw[Hcl.out];exact hlt3
                      have q2:q < x.2.2.length:=by rw[Hxl.out];exact hlt3
                      obtain⟨ga',ca',hva',hS⟩:=(Hman5.out x Hme.out).val
                      rw[Hva.out]at hva'
                      injection hva' with v1 v2 v3
                      injection v1 with v1
                      injection v1 with v1
                      subst v1
                      obtain⟨b9,o9,hb9,hc9⟩:=SlAt.get hS (k:=q) (by rw[List.length_map];exact q2)
                      injection hb9 with hb9
                      injection hb9 with hb91 hb92
                      subst hb91 hb92
                      have hcx:wr.cell? ⟨ga,q,none⟩=some (.int .i64 (x.2.2[q]:Int)):=by
                        have:=hc9
                        simpa [nv] using this
                      have hget:=addTo_get cur x.2.2 q q1 q2
                      have Hnext:=Lib.hid (addTo_next cur x.2.2 q q1 q2)
                      have hco:wr.cell? ⟨g0,q,none⟩=some (.int .i64 (cur[q]:Int)):=by rw[hout.cellAt q (by omega),List.getElem?_map,hget];rfl
                      have hfz:=hout.frozenAt q
                      have Hst:=Lib.hid (fun u=>(hout.stored q u).1)
                      have hb1:=Hcb.out _ (List.getElem_mem q1)
                      have hb2:=Hxb.out _ (List.getElem_mem q2)
                      generalize cur[q]=a1 at *
                      generalize x.2.2[q]=a2 at *
                      clear hout hget hc9 hS v2 v3
                      go_wp2_with fail
                      go_roundw
                      case rel=>
                        refine⟨q+1,by omega,by go_num,?_,ownsRow_setCell_other Howr5.out (by simp[Value.ownBlock];omega) _,fun e he=>(Hman5.out e he).set_ _ (by show g0 < g0+1;omega) _,Hbw5.out.setCell (Nat.le_refl _) _⟩
                        have:=Hst.out (.int .i64 ((a1:Int)+(a2:Int)))
                        rw[Hnext.out,List.map_set]
                        exact this
                      case measure=>simp[intOf];omega
                    · obtain rfl:q=k:=by omega
                      have hall:=addTo_all cur x.2.2 (by rw[Hcl.out,Hxl.out])
                      rw[Hcl.out]at hall
                      rw[hall]at hout
                      have Hout5:=Lib.hid hout
                      clear hout hall
                      go_wp2_with fail
                      go_roundw
                      case rel=>exact⟨j+1,by omega,by go_num,by rw[Hsn.out,addAll_snoc,Hcur.out];exact Hout5.out,Howr5.out,Hman5.out,Hbw5.out⟩
                      case measure=>simp[intOf];omega
                · obtain rfl:j=M:=by omega
                  go_wp2_with fail
                  go_ret2
                  refine⟨.inr ⟨H0.out,_,rfl,?_⟩,by rw[Hg0.out];exact Hbwr.out⟩
                  rw[HLP2.out,Hn.out,Hg0.out];exact Hout.out
theorem lengths_any (A:Option Addr) (n c:Nat) (zs:List Int) (most:Int) (w:World) (hn:zs.length=n) (hx:n≤maxLen) (hA:InAt w A zs) :
  Calls Tryz.prog 190 #[.slice A n c,.int .i64 most] w (LenPost zs most w):=by
 by_cases h0:chkW zs most=0
 ·obtain⟨L,rfl⟩:=Int.eq_ofNat_of_zero_le (by have:=chkW_fine zs most h0;omega:0≤most)
  exact lengths_go A n c L zs w hn hx hA h0
 ·have HC:=Lib.hid (checkW_any A n c zs most w hn hx hA)
  clear hn hx hA
  generalize hz:chkW zs most=z at *
  have Hz:=Lib.hid hz
  have h1:(z == 0)=false:=by simpa using h0
  clear hz
  go_enter Tryz.func190,Tryz.ntmps190
  go_wp2_with fail
  refine (HC.out).mono ?_
  rintro e wx ⟨rfl,rfl⟩
  go_wp2_with fail
  go_ret2
  exact⟨.inl ⟨by rw[Hz.out];exact h0,by rw[Hz.out];rfl⟩,Below.refl _ _⟩
end Go.Proofs.YtabdianhoabhhaaGreatDoor.Weigh
namespace Go.Proofs.YtabdianhoabhhaaGreatDoor.Bits
open Go Go.RowKit Go.Proofs.YtabdianhoabhhaaGreatDoor
set_option linter.unusedVariables false
def rowT:List TypeId:=[5,128]
def RowAt (w:World) (base p:Nat) (l:List Bool):Prop:=
 base≤p∧∃ v,Blk w p 128 #[v,.int .i64 ((l.length % 8:Nat):Int)]∧w.ownsRow base 5 1 v (pack l).length ((pack l).map u8v)
theorem RowAt.below {w w':World} {base p:Nat} {l:List Bool} (h:RowAt w base p l) (hb:Below w.heap.size w w'):RowAt w' base p l:=by
 obtain⟨h1,v,h2,h3⟩:=h
 exact⟨h1,v,h2.below hb h2.lt,own_keep h3 hb⟩
theorem RowAt.lt {w:World} {base p:Nat} {l:List Bool} (h:RowAt w base p l):p < w.heap.size:=by
 obtain⟨h1,v,h2,h3⟩:=h
 exact h2.lt
theorem RowAt.new (w:World) {base:Nat} (hb:base≤w.heap.size):RowAt (w.alloc (.cells #[.slice none 0 0,.int .i64 0] 128)) base w.heap.size []:=
 ⟨hb,.slice none 0 0,Blk.new w _ _,World.ownsRow_nil _ _ _ _⟩
theorem or_bit (y:UInt8) (b:Bool) (h:Nat) (hh:h < 8):bits .or .u8 (n8 y) (bitI b % 256*2 ^ h % 256)=n8 (y ||| UInt8.ofNat (b.toNat*2 ^ h)):=by
 have hy:=y.toNat_lt
 have hb:b.toNat≤1:=by cases b <;> simp
 have h2:2 ^ h≤2 ^ 7:=Nat.pow_le_pow_right (by omega) (by omega)
 have hbb:b.toNat*2 ^ h≤1*2 ^ h:=Nat.mul_le_mul_right _ hb
 have e:bitI b % 256*2 ^ h % 256=((b.toNat*2 ^ h:Nat):Int):=by
  unfold bitI
  rw[show (b.toNat:Int) % 256=(b.toNat:Int) by omega]
  have:((b.toNat:Int)*2 ^ h)=((b.toNat*2 ^ h:Nat):Int):=by simp
  rw[this,Int.emod_eq_of_lt (by omega) (by omega)]
 rw[e]
 unfold n8
 rw[u8_or_nat _ _ hy (by omega),UInt8.toNat_or,UInt8.toNat_ofNat',Nat.mod_eq_of_lt (by omega)]
theorem set_last (ys:List UInt8) (N:Nat) (x:UInt8) (h:ys.length=N):(ys.map u8v++[Value.int .u8 0]).set N (.int .u8 (n8 x))=(ys++[x]).map u8v:=by
 subst h;simp[u8v]
theorem byte_one (b:Bool) (h:Nat) (hh:h=0) (y:UInt8) (hy:y=0):y ||| UInt8.ofNat (b.toNat*2 ^ h)=byteOf [b]:=by
 subst hh hy;cases b <;> decide
theorem rowAt_mk {w:World} {base p g M cap h:Nat} {zs:List UInt8} {m:List Bool} (hbp:base≤p) (hB:Blk w p 128 #[.slice (some ⟨g,0,none⟩) (M+1) cap,.int .i64 (h:Int)]) (hh:h=m.length % 8)
  (hO:w.ownsRow base 5 1 (.slice (some ⟨g,0,none⟩) (M+1) cap) (M+1) (zs.map u8v)) (hz:pack m=zs):RowAt w base p m:=by
 have hl:M+1=(pack m).length:=by have:=hO.1;simp at this;rw[hz];omega
 rw[hl]at hB hO
 subst hh
 refine⟨hbp,_,hB,?_⟩
 rw[hz]at hO⊢
 exact hO
set_option maxRecDepth 100000 in
set_option maxHeartbeats 800000 in
theorem put_any (base p n size:Nat) (l:List Bool) (w:World) (h:RowAt w base p l) (hn:n < 9223372036854775808) (hs:size≤62) (hl:l.length+size≤1099511627776) :
  Calls Tryz.prog 79 #[.pointer (some ⟨p,0,none⟩),.int .i64 (n:Int),.int .i64 (size:Int)] w fun e w'=>e=.returned (.tuple #[])∧RowAt w' base p (l++numBits n size)∧Keeps base rowT w w':=by
 have H:=Lib.hid h
 clear h
 go_enter Tryz.func79,Tryz.ntmps79
 go_wp2_with fail
 go_loopw [8] (fun i wr=>∃ k:Nat,k≤size∧i=.int .i64 k∧RowAt wr base p (l++numBits n k)∧Keeps base rowT w wr) (fun i _=>size - (intOf i).toNat)
 case atStart=>exact⟨0,Nat.zero_le _,rfl,by simpa [numBits] using H.out,Keeps.refl _ _ _⟩
 case round=>
  obtain⟨k,hk,rfl,⟨hbp,v,hblk,hown⟩,hkeep⟩:=hrel
  by_cases hlt:k < size
  ·have Hs:=Lib.hid (numBits_succ n k)
   have Hb:=Lib.hid (and_bitI n k hn)
   have hlen:(l++numBits n k).length≤1099511627776:=by simp[numBits_length];omega
   generalize hm0:l++numBits n k=m at *
   have Hm0:=Lib.hid hm0
   clear hm0
   have Hblk:=Lib.hid hblk
   have hown':=hown
   have Hk:=Lib.hid hkeep
   have hand:=Hb.out
   generalize n.testBit k=b at *
   have hc0:wr.cell? ⟨p,0,none⟩=some v:=by rw[hblk.cell];rfl
   have hc1:wr.cell? ⟨p,1,none⟩=some (.int .i64 ((m.length % 8:Nat):Int)):=by rw[hblk.cell];rfl
   have hz0:wr.frozen? ⟨p,0,none⟩=false:=hblk.frozen 0
   have hz1:wr.frozen? ⟨p,1,none⟩=false:=hblk.frozen 1
   clear hblk hown hkeep
   by_cases h8:m.length % 8=0
   ·have Hm:=Lib.hid (pack_new m b h8)
    have Hp1:=Lib.hid hown'
    obtain⟨h,hh⟩:∃ h,h=m.length % 8:=⟨_,rfl⟩
    obtain⟨y,hy0'⟩:∃ y:UInt8,y=0:=⟨_,rfl⟩
    have HY0:Hid (Value.int .u8 0=.int .u8 (n8 y)):=Lib.hid (by rw[hy0'];rfl)
    have hh8:h < 8:=by omega
    have heq:(((h:Nat):Int) == 0)=true:=by simp;omega
    have Hb1:=Lib.hid (byte_one b h (by omega) y hy0')
    rw[←hh]at hc1 Hblk
    have Hh:=Lib.hid hh
    clear hy0' hh
    have hpl:(pack m).length≤1099511627776:=by rw[pack_length];omega
    clear h8 hown'
    generalize pack m=ys at *
    generalize hN:ys.length=N at *
    have HN:=Lib.hid hN
    clear hN
    have Hown2:=Lib.hid (Hp1.out.alloc (.cells #[.int .u8 0] 5))
    have Hsl:=Lib.hid (slat_one wr 5 (.int .u8 0))
    have Hk2:=Lib.hid (Hk.out.alloc (Nat.le_trans hbp (Nat.le_of_lt Hblk.out.lt)) (.cells #[.int .u8 0] 5))
    have Hblk2:=Lib.hid (Hblk.out.alloc (.cells #[.int .u8 0] 5))
    have Hbs:=Lib.hid (Nat.le_trans hbp (Nat.le_of_lt Hblk2.out.lt))
    go_wp2_with (at_builtin;refine wpList_app _ rfl (.tmp 20) (.tmp 21) _ rfl base 5 _ 1 1 ty8 v N (ys.map u8v) rfl Hown2.out (some ⟨wr.heap.size,0,none⟩) 1 1 [.int .u8 0] rfl rfl Hsl.out (by simp[Value.oneCell']) (by simp) (by unfold maxLen;omega) (by omega) Hbs.out ?_;intro v2 w2 hown2 hg2 _;obtain⟨g,cap,hv,hgb,hgl⟩:=hown2.form (by omega);subst hv;have Ho3:=Lib.hid hown2;have Hb3:=Lib.hid (Hblk2.out.grown hg2 (own_ne Hown2.out Hblk2.out (by decide)));have Hk3:=Lib.hid (Hk2.out.grown Hown2.out hg2 (by simp[rowT]) Hbs.out);clear hown2 hg2;have hd0:=Hb3.out.c0;have hd1:=Hb3.out.c1;have hy0:=Hb3.out.frozen 0)
    have HB:=Lib.hid (Hb3.out.s0 (.slice (some ⟨g,0,none⟩) (N+1) cap))
    have HO:=Lib.hid (ownsRow_setCell_other Ho3.out (a:=⟨p,0,none⟩) (by have:=own_ne Ho3.out Hb3.out (by decide);exact this) (.slice (some ⟨g,0,none⟩) (N+1) cap))
    have HK:=Lib.hid (Hk3.out.setBlk Hb3.out (by simp[rowT]) hbp 0 (.slice (some ⟨g,0,none⟩) (N+1) cap))
    generalize w2.setCell ⟨p,0,none⟩ (.slice (some ⟨g,0,none⟩) (N+1) cap)=W at *
    clear hd0 hd1 hy0 hc0 hc1 hz0 hz1
    have hcb:W.cell? ⟨g,N,none⟩=some (.int .u8 (n8 y)):=by rw[HO.out.cellAt N (by omega),List.getElem?_append_right (by simp;have:=HN.out;omega)];simp[HN.out];have:=HY0.out;injection this
    have hzb:W.frozen? ⟨g,N,none⟩=false:=HO.out.frozenAt N
    have hor:=or_bit y b h hh8
    have e0:=HB.out.c0
    have e1:=HB.out.c1
    generalize hx:y ||| UInt8.ofNat (b.toNat*2 ^ h)=x at *
    have Hx:=Lib.hid hx
    clear hx
    skip
    go_region
    have hpg:p≠g:=by
     have:=own_ne HO.out HB.out (by decide)
     intro hpg;subst hpg;exact this rfl
    have HB2:=Lib.hid ((HB.out.far (p:=⟨g,N,none⟩) hpg (.int .u8 (n8 x))).drew)
    have HO2:=Lib.hid (own_drew (HO.out.stored N (.int .u8 (n8 x))).1)
    have HK2:=Lib.hid ((HK.out.stored HO.out (by simp[rowT]) N (.int .u8 (n8 x))).drew)
    generalize (W.setCell ⟨g,N,none⟩ (.int .u8 (n8 x))).drew=W2 at *
    have f1:=HB2.out.c1
    have z1:=HB2.out.frozen 1
    clear hcb hzb hor e0 e1 hpg
    go_wp2_with fail
    go_roundw
    case rel=>
     refine⟨k+1,by omega,by go_num,?_,HK2.out.setBlk HB2.out (by simp[rowT]) hbp 1 _⟩
     rw[Hs.out,←List.append_assoc,Hm0.out]
     exact rowAt_mk (h:=(h+1) % 8) hbp (HB2.out.s1 _) (by have:=Hh.out;simp;omega) (ownsRow_setCell_other (by have:=HO2.out;rw[set_last ys N x HN.out]at this;exact this) (own_ne HO2.out HB2.out (by decide)) _) (zs:=ys++[x]) (by rw[Hm.out,Hb1.out])
    case measure=>simp[intOf];omega
   ·obtain⟨h,hh⟩:∃ h,h=m.length % 8:=⟨_,rfl⟩
    have hh0:0 < h:=by omega
    have hh8:h < 8:=by omega
    have hML:(pack m).length=m.length / 8+1:=by rw[pack_length];omega
    have Hm:=Lib.hid (pack_more m b h8)
    rw[←hh]at Hm hc1 Hblk
    have Hh:=Lib.hid hh
    clear h8 hh
    obtain⟨g,cap,hv,hgb,hgl⟩:=hown'.form (by omega)
    obtain⟨M,hM⟩:∃ M,M=m.length / 8:=⟨_,rfl⟩
    rw[←hM]at Hm hML
    have hy:∃ y,(pack m).getD M 0=y∧((pack m).map u8v)[M]?=some (.int .u8 (n8 y)):=⟨_,rfl,by
     rw[List.getElem?_map,List.getElem?_eq_getElem (by omega),List.getD_eq_getElem?_getD,List.getElem?_eq_getElem (by omega)];rfl⟩
    obtain⟨y,hy1,hy2⟩:=hy
    rw[hML]at hown' hv
    rw[hy1]at Hm
    have Hy2:=Lib.hid hy2
    have HML:=Lib.hid hML
    generalize pack m=ys at *
    subst hv
    have HO:=Lib.hid hown'
    have HB:=Hblk
    have HK:=Hk
    have hne:(((h:Nat):Int) == 0)=false:=by simp;omega
    have hMb:M≤1099511627776:=by omega
    clear hown' hy1 hy2 hML hM hc0 hc1
    have hcb:wr.cell? ⟨g,M,none⟩=some (.int .u8 (n8 y)):=by rw[HO.out.cellAt M (by omega)];exact Hy2.out
    have hzb:wr.frozen? ⟨g,M,none⟩=false:=HO.out.frozenAt M
    have hor:=or_bit y b h hh8
    have e0:=HB.out.c0
    have e1:=HB.out.c1
    generalize hx:y ||| UInt8.ofNat (b.toNat*2 ^ h)=x at *
    have Hx:=Lib.hid hx
    clear hx
    go_wp2_with fail
    go_region
    have hpg:p≠g:=by
     have:=own_ne HO.out HB.out (by decide)
     intro hpg;subst hpg;exact this rfl
    have HB2:=Lib.hid ((HB.out.far (p:=⟨g,M,none⟩) hpg (.int .u8 (n8 x))).drew)
    have HO2:=Lib.hid (own_drew (HO.out.stored M (.int .u8 (n8 x))).1)
    have HK2:=Lib.hid ((HK.out.stored HO.out (by simp[rowT]) M (.int .u8 (n8 x))).drew)
    generalize (wr.setCell ⟨g,M,none⟩ (.int .u8 (n8 x))).drew=W2 at *
    have f1:=HB2.out.c1
    have z1:=HB2.out.frozen 1
    clear hcb hzb hor e0 e1 hpg
    go_wp2_with fail
    go_roundw
    case rel=>
     refine⟨k+1,by omega,by go_num,?_,HK2.out.setBlk HB2.out (by simp[rowT]) hbp 1 _⟩
     rw[Hs.out,←List.append_assoc,Hm0.out]
     exact rowAt_mk (h:=(h+1) % 8) hbp (HB2.out.s1 _) (by have:=Hh.out;simp;omega) (ownsRow_setCell_other (by rw[List.map_set];exact HO2.out) (own_ne HO2.out HB2.out (by decide)) _) (zs:=ys.set M x) Hm.out
    case measure=>simp[intOf];omega
  ·obtain rfl:k=size:=by omega
   have Hr:=Lib.hid (show RowAt wr base p (l++numBits n k) from⟨hbp,v,hblk,hown⟩)
   have Hk:=Lib.hid hkeep
   clear hblk hown hkeep
   go_wp2_with fail
   go_end0
   exact⟨rfl,Hr.out,Hk.out⟩
theorem bytes_any (p:Nat) (v x:Value) (w:World) (h:Blk w p 128 #[v,x]) :
  Calls Tryz.prog 80 #[.pointer (some ⟨p,0,none⟩)] w fun e w'=>e=.returned v∧w=w':=by
 have hv0:=h.c0
 have H:=Lib.hid h
 clear h
 go_enter Tryz.func80,Tryz.ntmps80
 go_wp2
 go_ret
 exact⟨rfl,rfl⟩
end Go.Proofs.YtabdianhoabhhaaGreatDoor.Bits
namespace Go.Proofs.YtabdianhoabhhaaGreatDoor.Code
open Go Go.RowKit Go.Proofs.YtabdianhoabhhaaGreatDoor
set_option linter.unusedVariables false
set_option maxRecDepth 100000 in
set_option maxHeartbeats 1600000 in
theorem codes_any (A:Option Addr) (n c:Nat) (zs:List Int) (w:World) (hn:zs.length=n) (hA:InAt w A zs) (hc:chkL zs=0) :
  Calls Tryz.prog 232 #[.slice A n c] w fun e w'=>(∃ g,e=.returned (.slice (some ⟨g,0,none⟩) n n)∧w.heap.size≤g∧Blk w' g 3 (nats (codesL (lsOf zs))))∧Below w.heap.size w w':=by
 obtain⟨f1,f2,f3,f4,f5⟩:=chk_fine zs hc
 have hx:n≤288:=by omega
 have Hl:=Lib.hid (lsOf_len zs)
 rw[hn]at Hl
 have Hacc:Hid (∀ s,s≤15→first (lsOf zs) s+cnt (lsOf zs) s≤32768):=Lib.hid (fun s hs=>by
  have h1:=acc_le (lsOf zs) s hs f4 f3
  have h2:(2:Nat) ^ s≤2 ^ 15:=Nat.pow_le_pow_right (by omega) hs
  omega)
 have Hend:=Lib.hid (cst_end (lsOf zs) f4)
 have H5:=Lib.hid f5
 have Hn:=Lib.hid hn
 have HA:=Lib.hid hA
 have hmk:=make_ints n (by omega)
 have Hz:=Lib.hid (nats_zero n)
 have Hcz:=Lib.hid (cst_zero (lsOf zs))
 clear hn hA hc f1 f2 f3 f4 f5
 go_enter Tryz.func232,Tryz.ntmps232
 go_wp2_with fail
 clear hmk
 rw[Hz.out]
 generalize hg:w.heap.size=g at *
 have Hg:=Lib.hid hg
 clear hg
 go_loopw [4,5] (fun v s wr=>∃ t:Nat,t≤15∧s=.int .i64 ((t:Int)+1)∧v=.int .i64 ((first (lsOf zs) t+cnt (lsOf zs) t:Nat):Int)∧Blk wr g 3 (nats (cst (lsOf zs) (t+1) 0))∧Below w.heap.size w wr) (fun _ s _=>17 - (intOf s).toNat)
 case atStart=>exact⟨0,Nat.zero_le _,rfl,rfl,by rw[Hcz.out,Hl.out];have:=Blk.new w 3 (nats (List.replicate n 0));rw[Hg.out]at this;exact this,(Below.refl _ _).alloc (Nat.le_refl _) _⟩
 case round=>
  obtain⟨t,ht,rfl,rfl,hblk,hb⟩:=hrel
  have Hblk:=Lib.hid hblk
  have Hb:=Lib.hid hb
  clear hblk hb
  by_cases hlt:t < 15
  ·have hacc:=Hacc.out t ht
   have Hf:Hid (first (lsOf zs) (t+1)=2*(first (lsOf zs) t+cnt (lsOf zs) t)):=Lib.hid rfl
   generalize first (lsOf zs) t+cnt (lsOf zs) t=a at *
   go_wp2_with fail
   go_loopw [4,19] (fun v i wx=>∃ k:Nat,k≤n∧i=.int .i64 (k:Int)∧v=.int .i64 ((first (lsOf zs) (t+1)+(ordN ((lsOf zs).take k) (t+1)).length:Nat):Int)∧Blk wx g 3 (nats (cst (lsOf zs) (t+1) k))∧Below w.heap.size w wx) (fun _ i _=>n - (intOf i).toNat)
   case atStart=>exact⟨0,Nat.zero_le _,rfl,by rw[Hf.out];simp[ordN];omega,Hblk.out,Hb.out⟩
   case round=>
    obtain⟨k,hk,rfl,rfl,hblk,hbx⟩:=hrel
    have Hbk:=Lib.hid hblk
    have Hbx:=Lib.hid hbx
    clear hblk hbx
    have hol:(ordN ((lsOf zs).take k) (t+1)).length≤288:=by
     have h1:=ordN_len_le ((lsOf zs).take k) (t+1)
     have h2:((lsOf zs).take k).length≤k:=by simp;omega
     omega
    by_cases hkn:k < n
    ·have hkl:k < zs.length:=by rw[Hn.out];exact hkn
     have hkl2:k < (lsOf zs).length:=by rw[Hl.out];exact hkn
     obtain⟨b,o,rfl,hcell⟩:=(HA.out.below Hbx.out).get hkl
     have hz:=H5.out zs[k] (List.getElem_mem hkl)
     have Hd:=Lib.hid (getD_of zs k hkl)
     have Ht:=Lib.hid (ordN_take (lsOf zs) k (t+1) hkl2)
     have Hhit:=Lib.hid (cst_hit (lsOf zs) (t+1) k hkl2)
     have Hmiss:=Lib.hid (cst_miss (lsOf zs) (t+1) k)
     rw[Hd.out]at Ht Hhit Hmiss
     generalize zs[k]=z at *
     obtain⟨x,rfl⟩:=Int.eq_ofNat_of_zero_le hz.1
     rw[Int.toNat_natCast]at Ht Hhit Hmiss
     have hclen:k < (cst (lsOf zs) (t+1) k).length:=by rw[cst_length];exact hkl2
     have Hclen:=Lib.hid (cst_length (lsOf zs) (t+1) k)
     generalize first (lsOf zs) (t+1)=ff at *
     generalize hol2:(ordN ((lsOf zs).take k) (t+1)).length=q at *
     have Hq:=Lib.hid hol2
     clear hol2
     by_cases hxt:x=t+1
     ·have e1:((x:Int) == (t:Int)+1)=true:=by simp;omega
      have Hs:=Lib.hid (Hhit.out hxt (by omega))
      have Hr:Hid ((ordN ((lsOf zs).take (k+1)) (t+1)).length=q+1):=Lib.hid (by rw[Ht.out,if_pos hxt,List.length_append,Hq.out];rfl)
      clear Hhit Hmiss Ht hxt
      have hfz:=Hbk.out.frozen k
      have hff:ff+q≤1000000:=by have:=Hf.out;omega
      have hce:wr.cell? ⟨g,k,none⟩=some (.int .i64 (((cst (lsOf zs) (t+1) k)[k]'hclen:Nat):Int)):=by rw[Hbk.out.cell,nats_get _ _ hclen]
      go_wp2_with fail
      go_roundw
      case rel=>
       refine⟨k+1,by omega,by go_num,by rw[Hr.out];go_num,?_,?_⟩
       ·rw[Hs.out,←nats_set];exact Hbk.out.set_ k _
       ·exact Hbx.out.setCell (by show w.heap.size≤g;rw[Hg.out];exact Nat.le_refl _) _
      case measure=>simp[intOf];omega
     ·have e1:((x:Int) == (t:Int)+1)=false:=by simp;omega
      have Hs:=Lib.hid (Hmiss.out hxt)
      have Hr:Hid ((ordN ((lsOf zs).take (k+1)) (t+1)).length=q):=Lib.hid (by rw[Ht.out,if_neg hxt,List.append_nil,Hq.out])
      clear Hhit Hmiss Ht hxt
      go_wp2_with fail
      go_roundw
      case rel=>exact⟨k+1,by omega,by go_num,by rw[Hr.out],by rw[Hs.out];exact Hbk.out,Hbx.out⟩
      case measure=>simp[intOf];omega
    ·obtain rfl:k=n:=by omega
     have Hall:Hid ((lsOf zs).take k=lsOf zs):=Lib.hid (List.take_of_length_le (by rw[Hl.out];omega))
     have Hcn:=Lib.hid (cst_next (lsOf zs) (t+1))
     have Hcnt:Hid (cnt (lsOf zs) (t+1)=(ordN (lsOf zs) (t+1)).length):=Lib.hid (by unfold cnt;rw[if_neg (by omega)])
     rw[Hall.out,←Hcnt.out]
     rw[Hl.out]at Hcn
     go_wp2_with fail
     go_roundw
     case rel=>exact⟨t+1,by omega,by go_num,rfl,by rw[←Hcn.out];exact Hbk.out,Hbx.out⟩
     case measure=>simp[intOf];omega
  ·obtain rfl:t=15:=by omega
   go_wp2_with fail
   go_ret
   exact⟨⟨g,rfl,by rw[Hg.out];exact Nat.le_refl _,by rw[←Hend.out];exact Hblk.out⟩,Hb.out⟩
end Go.Proofs.YtabdianhoabhhaaGreatDoor.Code
namespace Go.Proofs.YtabdianhoabhhaaGreatDoor.Code
open Go Go.RowKit Go.Proofs.YtabdianhoabhhaaGreatDoor Go.Proofs.YtabdianhoabhhaaGreatDoor.Bits
set_option linter.unusedVariables false
theorem hi_get (s n j:Nat) (h:j < s):(hi s n)[j]'(by rw[hi_length];exact h)=n.testBit (s - 1 - j):=by
 unfold hi numBits
 simp
theorem hi_step (s n m:Nat) (h:m+1≤s):(hi s n).take (s - m)=(hi s n).take (s - (m+1))++numBits (n / 2 ^ m) 1:=by
 have e:s - m=(s - (m+1))+1:=by omega
 rw[e,take_snoc _ _ (by rw[hi_length];omega),hi_get _ _ _ (by omega)]
 congr 1
 simp[numBits]
 rw[show s - 1 - (s - (m+1))=m by omega,Nat.testBit]
 have h3:n / 2 ^ m % 2 < 2:=Nat.mod_lt _ (by omega)
 rw[Nat.shiftRight_eq_div_pow]
 by_cases h1:n / 2 ^ m % 2=1
 ·simp[h1]
 ·have:n / 2 ^ m % 2=0:=by omega
  simp[this]
set_option maxRecDepth 100000 in
set_option maxHeartbeats 800000 in
theorem code_any (base p n size:Nat) (l:List Bool) (w:World) (h:RowAt w base p l) (hn:n < 9223372036854775808) (hs:size≤62) (hl:l.length+size≤1099511627776) :
  Calls Tryz.prog 195 #[.pointer (some ⟨p,0,none⟩),.int .i64 (n:Int),.int .i64 (size:Int)] w fun e w'=>e=.returned (.tuple #[])∧RowAt w' base p (l++hi size n)∧Keeps base rowT w w':=by
 have H:=Lib.hid h
 clear h
 go_enter Tryz.func195,Tryz.ntmps195
 go_wp2_with fail
 go_loopw [6] (fun i wr=>∃ (m:Nat) (x:Int),m≤size∧x=(m:Int) - 1∧i=.int .i64 x∧RowAt wr base p (l++(hi size n).take (size - m))∧Keeps base rowT w wr) (fun i _=>(intOf i+1).toNat)
 case atStart=>exact⟨size,_,Nat.le_refl _,rfl,rfl,by simpa using H.out,Keeps.refl _ _ _⟩
 case round=>
  obtain⟨m,x,hm,hx,rfl,hrow,hk⟩:=hrel
  have Hrow:=Lib.hid hrow
  have Hk:=Lib.hid hk
  clear hrow hk
  rcases m with _ | m
  ·have hx0:x < 0:=by omega
   clear hx
   have Hf:Hid ((hi size n).take (size - 0)=hi size n):=Lib.hid (List.take_of_length_le (by rw[hi_length];omega))
   rw[Hf.out]at Hrow
   go_wp2_with fail
   go_end0
   exact⟨rfl,Hrow.out,Hk.out⟩
  ·obtain rfl:x=(m:Int):=by omega
   clear hx
   have hnd:n / 2 ^ m < 9223372036854775808:=Nat.lt_of_le_of_lt (Nat.div_le_self _ _) hn
   have hput:=put_any base p (n / 2 ^ m) 1 _ wr Hrow.out hnd (by omega) (by rw[List.length_append,List.length_take,hi_length];omega)
   have Hst:=Lib.hid (hi_step size n m hm)
   rw[List.append_assoc,←Hst.out]at hput
   have hdd:(n:Int) / 2 ^ m=((n / 2 ^ m:Nat):Int):=by simp
   have Hput:=Lib.hid hput
   clear hput
   generalize n / 2 ^ m=d at *
   go_wp2_with fail
   refine (Hput.out).mono ?_
   rintro e w1 ⟨rfl,hr1,hk1⟩
   have Hr1:=Lib.hid hr1
   have Hk1:=Lib.hid (Hk.out.trans hk1)
   clear hr1 hk1
   go_wp2_with fail
   go_roundw
   case rel=>exact⟨m,_,by omega,rfl,rfl,Hr1.out,Hk1.out⟩
   case measure=>simp[intOf]
theorem bcodes_any (A:Option Addr) (n c:Nat) (zs:List Int) (w:World) (hn:zs.length=n) (hx:n≤maxLen) (hA:InAt w A zs) :
  Calls Tryz.prog 194 #[.slice A n c] w fun e w'=>(chkL zs≠0∧e=.returned (.tuple #[.slice none 0 0,.int .i64 (chkL zs)])∨
   chkL zs=0∧∃ g,e=.returned (.tuple #[.slice (some ⟨g,0,none⟩) n n,.int .i64 0])∧w.heap.size≤g∧Blk w' g 3 (nats (codesL (lsOf zs))))∧Below w.heap.size w w':=by
 have Hc:=Lib.hid (check_any A n c zs w hn hx hA)
 have Hd:Hid (chkL zs=0→_):=Lib.hid (codes_any A n c zs w hn hA)
 clear hn hx hA
 go_enter Tryz.func194,Tryz.ntmps194
 go_wp2_with fail
 refine (Hc.out).mono ?_
 rintro e w1 ⟨rfl,rfl⟩
 by_cases h0:chkL zs=0
 ·have Hdd:=Lib.hid (Hd.out h0)
  rw[h0]
  have H0:=Lib.hid h0
  clear h0
  go_wp2_with fail
  refine (Hdd.out).mono ?_
  rintro e w2 ⟨⟨g,rfl,hg,hb⟩,hbw⟩
  have Hb:=Lib.hid hb
  have Hbw:=Lib.hid hbw
  clear hb hbw
  go_wp2_with fail
  go_ret2
  exact⟨.inr ⟨H0.out,g,rfl,hg,Hb.out⟩,Hbw.out⟩
 ·have H0:=Lib.hid h0
  generalize hz:chkL zs=z at *
  have Hz:=Lib.hid hz
  clear hz
  have h1:(z == 0)=false:=by simpa using h0
  go_wp2_with fail
  go_ret2
  exact⟨.inl ⟨by rw[Hz.out];exact h0,by rw[Hz.out];rfl⟩,Below.refl _ _⟩
end Go.Proofs.YtabdianhoabhhaaGreatDoor.Code
namespace Go.Proofs.YtabdianhoabhhaaGreatDoor.Blk
open Go Go.RowKit Go.Proofs.YtabdianhoabhhaaGreatDoor Go.Proofs.YtabdianhoabhhaaGreatDoor.Bits Go.Proofs.YtabdianhoabhhaaGreatDoor.Code Go.Proofs.YtabdianhoabhhaaGreatDoor.Inf Go.Proofs.YtabdianhoabhhaaGreatDoor.Match Go.Proofs.YtabdianhoabhhaaGreatDoor.SP Go.Proofs.YtabdianhoabhhaaGreatDoor.Rt
set_option linter.unusedVariables false
theorem natV_iv (ls:List Nat):(zsOf ls).map iv=ls.map natV:=by unfold zsOf;rw[List.map_map];rfl
theorem natsOf_zs (ls:List Nat):Weigh.natsOf (zsOf ls)=ls:=lsOf_zsOf ls
theorem zs_len (ls:List Nat):(zsOf ls).length=ls.length:=by unfold zsOf;rw[List.length_map]
theorem wlen_any (A:Option Addr) (n c:Nat) (ls:List Nat) (L:Nat) (w:World) (hn:ls.length=n) (hx:n≤288) (hA:SlAt w A (ls.map natV)) (hb:∀ x∈ls,x≤1000000) (hL:1≤L) (hL2:L≤15) (ho:(ones ls).length≤2 ^ L) :
  Calls Tryz.prog 190 #[.slice A n c,.int .i64 (L:Int)] w fun e w'=>(∃ v,e=.returned (.tuple #[v,.int .i64 0])∧w'.ownsRow w.heap.size 3 1 v n ((lengthsP ls L).map natV))∧Below w.heap.size w w':=by
 have hc:Weigh.chkW (zsOf ls) (L:Int)=0:=by
  unfold Weigh.chkW
  rw[if_neg (by rw[zs_len];omega),if_neg,if_neg (by omega),if_neg]
  ·rw[Weigh.used_ones,natsOf_zs,Int.toNat_natCast];omega
  ·rw[Bool.not_eq_true,List.any_eq_false]
   intro x hx
   obtain⟨y,hy,rfl⟩:=List.mem_map.1 hx
   have:=hb y hy
   have e:Int.ofNat y=(y:Int):=rfl
   rw[e]
   simp[Weigh.badWant];omega
 refine (Weigh.lengths_any A n c (zsOf ls) (L:Int) w (by rw[zs_len];exact hn) (by unfold maxLen;omega) (by unfold InAt;rw[natV_iv];exact hA)).mono ?_
 rintro e w' ⟨h,hb'⟩
 rcases h with ⟨h1,_⟩ | ⟨_,v,rfl,ho'⟩
 ·exact absurd hc h1
 ·refine⟨⟨v,rfl,?_⟩,hb'⟩
  rw[zs_len,natsOf_zs,Int.toNat_natCast,hn]at ho'
  exact ho'
theorem ccodes_any (A:Option Addr) (n c:Nat) (ls:List Nat) (w:World) (hn:ls.length=n) (hx:n≤288) (hA:SlAt w A (ls.map natV)) (hc:Cd ls) :
  Calls Tryz.prog 194 #[.slice A n c] w fun e w'=>(∃ g,e=.returned (.tuple #[.slice (some ⟨g,0,none⟩) n n,.int .i64 0])∧w.heap.size≤g∧Blk w' g 3 (nats (codesL ls)))∧Below w.heap.size w w':=by
 have h0:chkL (zsOf ls)=0:=by
  have:=table_ok ls hc (by omega)
  unfold tableR at this
  split at this
  ·assumption
  ·cases this
 refine (bcodes_any A n c (zsOf ls) w (by rw[zs_len];exact hn) (by unfold maxLen;omega) (by unfold InAt;rw[natV_iv];exact hA)).mono ?_
 rintro e w' ⟨h,hb'⟩
 rcases h with ⟨h1,_⟩ | ⟨_,g,rfl,hg,hB⟩
 ·exact absurd h0 h1
 ·rw[lsOf_zsOf]at hB
  exact⟨⟨g,rfl,hg,hB⟩,hb'⟩
theorem nats_kat {w:World} {g:Nat} {l:List Nat} (h:Blk w g 3 (nats l)):KAt w 3 (some ⟨g,0,none⟩) (l.map natV):=by
 have:=h.kat
 unfold nats at this
 rw[List.toList_toArray]at this
 exact this
set_option maxRecDepth 100000 in
set_option maxHeartbeats 1600000 in
theorem blens_any (A:Option Addr) (m c:Nat) (l:List Tok) (w:World) (hm:l.length=m) (hx:m≤3000) (hA:SlAt w A (l.flatMap tokD)) (hf:∀ t∈l,TokFine t) :
  Calls Tryz.prog 157 #[.slice A m c] w fun e w'=>(∃ v1 v2,e=.returned (.tuple #[v1,v2])∧w'.ownsRow w.heap.size 3 1 v1 286 ((lensP l).1.map natV)∧w'.ownsRow w.heap.size 3 1 v2 30 ((lensP l).2.map natV))∧Below w.heap.size w w':=by
 obtain⟨c1,c2⟩:=counts_len l
 obtain⟨s1,s2⟩:=counts_small l
 have HC:=Lib.hid (counts_any A m c l w hm hx hA hf)
 have HW1:=Lib.hid (fun g w' h=>wlen_any (some ⟨g,0,none⟩) 286 286 (countsP l).1 15 w' c1 (by omega) h (fun x hx=>by have:=s1 x hx;omega) (by omega) (by omega) (by have:=Weigh.ones_le (countsP l).1;have p15:(2:Nat) ^ 15=32768:=rfl;omega))
 have HW2:=Lib.hid (fun g w' h=>wlen_any (some ⟨g,0,none⟩) 30 30 (countsP l).2 15 w' c2 (by omega) h (fun x hx=>by have:=s2 x hx;omega) (by omega) (by omega) (by have:=Weigh.ones_le (countsP l).2;have p15:(2:Nat) ^ 15=32768:=rfl;omega))
 clear hm hA hf c1 c2 s1 s2
 go_enter Tryz.func157,Tryz.ntmps157
 go_wp2_with fail
 refine (HC.out).mono ?_
 rintro e w1 ⟨⟨g1,g2,rfl,hg1,hg2,hB1,hB2⟩,hb1⟩
 have H1:=Lib.hid hB1
 have H2:=Lib.hid hB2
 have Hb:=Lib.hid hb1
 clear hB1 hB2 hb1 hg1 hg2 HC
 go_wp2_with fail
 refine (HW1.out g1 w1 (nats_kat H1.out).slat).mono ?_
 rintro e w2 ⟨⟨v1,rfl,ho1⟩,hb2⟩
 have H22:=Lib.hid (H2.out.below hb2 H2.out.lt)
 have Hb2:=Lib.hid (Hb.out.trans (hb2.mono Hb.out.size))
 have Ho1:=Lib.hid (own_base ho1 Hb.out.size)
 clear hb2 ho1 H1 H2 HW1
 go_wp2_with fail
 refine (HW2.out g2 w2 (nats_kat H22.out).slat).mono ?_
 rintro e w3 ⟨⟨v2,rfl,ho2⟩,hb3⟩
 have Ho1':=Lib.hid (own_keep Ho1.out hb3)
 have Hb3:=Lib.hid (Hb2.out.trans (hb3.mono Hb2.out.size))
 have Ho2:=Lib.hid (own_base ho2 Hb2.out.size)
 clear hb3 ho2 H22 HW2 Ho1
 go_wp2_with fail
 go_ret2
 exact⟨⟨v1,v2,rfl,Ho1'.out,Ho2.out⟩,Hb3.out⟩
end Go.Proofs.YtabdianhoabhhaaGreatDoor.Blk
namespace Go.Proofs.YtabdianhoabhhaaGreatDoor.Match
open Go Go.RowKit Go.Proofs.YtabdianhoabhhaaGreatDoor
set_option linter.unusedVariables false
theorem drew2 (w:World) (a b:Nat):∃ d,(w.drewN a).drewN b=w.drewN d:=⟨_,World.drewN_drewN _ _ _⟩
theorem lay_sum (a b:Nat) (h:a+b≤1000000000):IntKind.i64.wrap ((a:Int)+(b:Int))=(a:Int)+(b:Int):=IntWalk.i64_in _ (by omega)
set_option maxRecDepth 100000 in
set_option maxHeartbeats 800000 in
theorem same_any (A:Option Addr) (n c i k:Nat) (xs:List UInt8) (w:World) (hn:xs.length=n) (hx:n≤1000000) (hA:ByAt w A xs) (hik:i≤k) (hk:k≤n) :
  Calls Tryz.prog 223 #[.slice A n c,.int .i64 (i:Int),.int .i64 (k:Int)] w fun e w'=>e=.returned (.int .i64 ((sameN xs i k:Nat):Int))∧∃ d,w'=w.drewN d:=by
 have Hn:=Lib.hid hn
 have HA:=Lib.hid hA
 clear hn hA
 go_enter Tryz.func223,Tryz.ntmps223
 go_wp2_with fail
 go_loopw [7] (fun v wr=>∃ m:Nat,m≤sameN xs i k∧m≤258∧k+m≤n∧v=.int .i64 m∧∃ d,wr=w.drewN d) (fun v _=>258 - (intOf v).toNat)
 case atStart=>exact⟨0,Nat.zero_le _,by omega,by omega,rfl,0,rfl⟩
 case round=>
  obtain⟨m,hm,hm2,hkm,rfl,d,rfl⟩:=hrel
  have HS:Hid (∀ _:True,True→(¬ (m < 258)∨¬ (k+m < xs.length)∨∃ (h:k+m < xs.length),xs[i+m]'(by omega)≠xs[k+m])→sameN xs i k=m):=Lib.hid (fun _ _ h=>same_stop xs i k m hik hm h)
  have HT:Hid (∀ (_:True) (h1:m < 258) (h2:k+m < xs.length),xs[i+m]'(by omega)=xs[k+m]→m+1≤sameN xs i k):=Lib.hid (fun _ h1 h2 h3=>same_step xs i k m hik hm h1 h2 h3)
  have Hm:=Lib.hid hm
  clear hm
  by_cases h1:m < 258
  ·have g1:decide ((m:Int) < 258)=true:=by simp;omega
   by_cases h2:k+m < n
   ·have g2:decide ((k:Int)+(m:Int) < (n:Int))=true:=by simp;omega
    have h2':k+m < xs.length:=by rw[Hn.out];exact h2
    have h3':i+m < xs.length:=by omega
    obtain⟨b,o,rfl,hc1⟩:=HA.out.get h2'
    obtain⟨b',o',hb,hc2⟩:=HA.out.get h3'
    injection hb with hb;injection hb with e1 e2 e3;subst e1 e2
    have s1:=lay_sum k m (by omega)
    have s2:=lay_sum i m (by omega)
    have p1:(0:Int)≤(k:Int)+(m:Int):=by omega
    have p2:(0:Int)≤(i:Int)+(m:Int):=by omega
    have q1:((k:Int)+(m:Int)).toNat=k+m:=by omega
    have q2:((i:Int)+(m:Int)).toNat=i+m:=by omega
    have r1:(k:Int)+(m:Int) < (n:Int):=by omega
    have r2:(i:Int)+(m:Int) < (n:Int):=by omega
    by_cases he:xs[i+m]=xs[k+m]
    ·have Hst:=Lib.hid (HT.out trivial h1 h2' he)
     have g3:(n8 xs[i+m] == n8 xs[k+m])=true:=by rw[he];simp
     have He:=Lib.hid he
     clear he HS HT
     generalize xs[k+m]=x at *
     generalize xs[i+m]=y at *
     go_wp2_with fail
     go_quiet (fail)
     go_wp2_with fail
     go_roundw
     case rel=>exact⟨m+1,Hst.out,by omega,by omega,by go_num,_,rfl⟩
     case measure=>simp[intOf];omega
    ·have Hst:=Lib.hid (HS.out trivial trivial (Or.inr (Or.inr ⟨h2',he⟩)))
     have g3:(n8 xs[i+m] == n8 xs[k+m])=false:=by rw[n8_beq];simpa using he
     have He:=Lib.hid he
     clear he HS HT
     generalize xs[k+m]=x at *
     generalize xs[i+m]=y at *
     go_wp2_with fail
     go_quiet (fail)
     go_wp2_with fail
     go_ret
     exact⟨ret_int (by rw[Hst.out]),drew2 w d _⟩
   ·have g2:decide ((k:Int)+(m:Int) < (n:Int))=false:=by simp;omega
    have s1:=lay_sum k m (by omega)
    have Hst:=Lib.hid (HS.out trivial trivial (Or.inr (Or.inl (by rw[Hn.out];exact h2))))
    clear HS HT
    go_wp2_with fail
    go_quiet (fail)
    go_wp2_with fail
    go_ret
    exact⟨ret_int (by rw[Hst.out]),drew2 w d _⟩
  ·have g1:decide ((m:Int) < 258)=false:=by simp;omega
   have Hst:=Lib.hid (HS.out trivial trivial (Or.inl h1))
   clear HS HT
   go_wp2_with fail
   go_quiet (fail)
   go_wp2_with fail
   go_ret
   exact⟨ret_int (by rw[Hst.out]),drew2 w d _⟩
end Go.Proofs.YtabdianhoabhhaaGreatDoor.Match
