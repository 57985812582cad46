/- texts joined: BlkCounts BlkRuns WeighCheck SortMem SortSwap SortIns SortSym1 SortSym2 SortSym3 SortStab CloneI WeighBoth CloneP ConcatP. -/
import Derived.Test.YtabdianhoabhhaaGreatDoorShelfKeepsQ1
import Derived.Test.YtabdianhoabhhaaGreatDoorSkWeighPure
import Derived.Test.YtabdianhoabhhaaGreatDoorProg
import Derived.WalkSpells
import Derived.Test.YtabdianhoabhhaaGreatDoorSkSortPure
import Derived.Maps.AppendAt
import Derived.BigRegion
import Derived.BigQuiet
import Derived.StillTailTactics
import Derived.Deep.CutRange
import Derived.Lib.SliceRun
import Derived.Lib.AppendZeros
namespace Go.Proofs.YtabdianhoabhhaaGreatDoor.AV
open Go Go.RowKit Go.Proofs.YtabdianhoabhhaaGreatDoor Go.Proofs.YtabdianhoabhhaaGreatDoor.Bits Go.Proofs.YtabdianhoabhhaaGreatDoor.Code Go.Proofs.YtabdianhoabhhaaGreatDoor.Inf Go.Proofs.YtabdianhoabhhaaGreatDoor.Match
set_option linter.unusedVariables false
def rq (t:Tok):List Value:=[Eh t.1,iv t.2.1,iv t.2.2]
def XC (t:Tok):Prop:=t.2.1=0∨(∃ s f:Nat,t.2.1=(s:Int)∧t.2.2=(f:Int)∧s≠0)
theorem XD (l:List Tok) (k:Nat) (h:k < l.length):CX (l.take (k+1))=DZ (CX (l.take k)) l[k]:=by
 rw[BJ l k h,XE]
theorem Gy (l:List Nat) (i:Nat):l.getD i 0≤l.sum:=by
 rw[List.getD_eq_getElem?_getD]
 rcases Nat.lt_or_ge i l.length with h | h
 ·rw[List.getElem?_eq_getElem h];exact XF l _ (List.getElem_mem h)
 ·rw[List.getElem?_eq_none h];exact Nat.zero_le _
theorem J6 {w:World} {g:Nat} {l:List Nat} (h:AV w g 3 (ED l)) {i:Nat} (hi:i < l.length):w.cell? ⟨g,i,none⟩=some (.int .i64 (l.getD i 0:Int)):=by
 rw[h.cell,SL l i hi,List.getD_eq_getElem?_getD,List.getElem?_eq_getElem hi];rfl
theorem J7 {w:World} {g:Nat} {l:List Nat} (h:AV w g 3 (ED l)) (i:Nat):AV (w.setCell ⟨g,i,none⟩ (.int .i64 ((l.getD i 0:Int)+1))) g 3 (ED (bump l i)):=by
 have:=h.Ca i (.int .i64 ((l.getD i 0+1:Nat):Int))
 rw[SN]at this
 exact this
set_option maxRecDepth 100000 in
set_option maxHeartbeats 3000000 in
theorem dE (A:Option Addr) (m c:Nat) (l:List Tok) (w:World) (hm:l.length=m) (hx:m≤3000) (hA:AQ w A (l.flatMap rq)) (hf:∀ t∈l,XC t) :
    Calls Tryz.prog 189 #[.slice A m c] w fun e w'=>(∃ g1 g2,e=.returned (.tuple #[.slice (some ⟨g1,0,none⟩) 286 286,.slice (some ⟨g2,0,none⟩) 30 30])∧w.heap.size≤g1∧w.heap.size≤g2∧AV w' g1 3 (ED (Cs l).1)∧AV w' g2 3 (ED (Cs l).2))∧Below w.heap.size w w':=by
  have HM:=Lib.hid hm
  have HA:=Lib.hid hA
  have HF:=Lib.hid hf
  obtain⟨z1,hz1⟩:∃ z,z=ED (List.replicate 286 0):=⟨_,rfl⟩
  obtain⟨z2,hz2⟩:∃ z,z=ED (List.replicate 30 0):=⟨_,rfl⟩
  have AJu:∀ u:World,(Instr.makeSlice 89 (.int .i64 286) (.int .i64 286)).run Tryz.prog u=.ok (.slice (some ⟨u.heap.size,0,none⟩) 286 286) (u.alloc (.cells z1 3)):=fun u=>by rw[hz1,←Ir];exact F6 286 (by omega) u
  have AJv:∀ u:World,(Instr.makeSlice 89 (.int .i64 30) (.int .i64 30)).run Tryz.prog u=.ok (.slice (some ⟨u.heap.size,0,none⟩) 30 30) (u.alloc (.cells z2 3)):=fun u=>by rw[hz2,←Ir];exact F6 30 (by omega) u
  have Hz1:=Lib.hid hz1
  have Hz2:=Lib.hid hz2
  clear hz1 hz2
  clear hm hA hf
  go_enter Tryz.func189,Tryz.ntmps189
  go_wp2_with fail
  go_region
  all_goals (
    clear AJu AJv
    first
    | (obtain⟨w1,hw1⟩:∃ x,x=((w.alloc (.cells z1 3)).alloc (.cells z2 3)).drew:=⟨_,rfl⟩
       obtain⟨g1,hg1⟩:∃ x,x=w.heap.size:=⟨_,rfl⟩
       obtain⟨g2,hg2⟩:∃ x,x=w.heap.size+1:=⟨_,rfl⟩
       rw[←hw1,←hg2,show Value.slice (some ⟨w.heap.size,0,none⟩) 286 286=Value.slice (some ⟨g1,0,none⟩) 286 286 by rw[hg1]]
       have HB1:Hid (AV w1 g1 3 z1):=Lib.hid (by rw[hw1,hg1];exact ((AV.new w _ _).alloc _).drew)
       have HB2:Hid (AV w1 g2 3 z2):=Lib.hid (by have:=(AV.new (w.alloc (.cells z1 3)) 3 z2).drew;rw[World.size_alloc]at this;rw[hw1,hg2];exact this)
       have Hb1:Hid (Below w.heap.size w w1):=Lib.hid (by rw[hw1];exact (((Below.refl _ _).alloc (Nat.le_refl _) _).alloc (by simp) _).drew)
       have lQ:Hid (g1≠g2):=Lib.hid (by omega)
       have r9:Hid (w.heap.size≤g1∧w.heap.size≤g2):=Lib.hid (by omega)
       clear hw1 hg1 hg2)
    | (obtain⟨w1,hw1⟩:∃ x,x=((w.alloc (.cells z2 3)).alloc (.cells z1 3)).drew:=⟨_,rfl⟩
       obtain⟨g2,hg2⟩:∃ x,x=w.heap.size:=⟨_,rfl⟩
       obtain⟨g1,hg1⟩:∃ x,x=w.heap.size+1:=⟨_,rfl⟩
       rw[←hw1,←hg1,show Value.slice (some ⟨w.heap.size,0,none⟩) 30 30=Value.slice (some ⟨g2,0,none⟩) 30 30 by rw[hg2]]
       have HB2:Hid (AV w1 g2 3 z2):=Lib.hid (by rw[hw1,hg2];exact ((AV.new w _ _).alloc _).drew)
       have HB1:Hid (AV w1 g1 3 z1):=Lib.hid (by have:=(AV.new (w.alloc (.cells z2 3)) 3 z1).drew;rw[World.size_alloc]at this;rw[hw1,hg1];exact this)
       have Hb1:Hid (Below w.heap.size w w1):=Lib.hid (by rw[hw1];exact (((Below.refl _ _).alloc (Nat.le_refl _) _).alloc (by simp) _).drew)
       have lQ:Hid (g1≠g2):=Lib.hid (by omega)
       have r9:Hid (w.heap.size≤g1∧w.heap.size≤g2):=Lib.hid (by omega)
       clear hw1 hg1 hg2)
    rw[Hz1.out]at HB1
    rw[Hz2.out]at HB2
    clear Hz1 Hz2
    go_wp2_with fail
    refine (Px _).mono ?_
    rintro e w2 ⟨A2,c2,rfl,ho2,hb2⟩
    have ADA:=Lib.hid (HB1.out.below hb2 HB1.out.lt)
    have ADB:=Lib.hid (HB2.out.below hb2 HB2.out.lt)
    have Hb2:=Lib.hid (Hb1.out.trans (hb2.mono Hb1.out.size))
    have HS:=Lib.hid ho2
    clear hb2 ho2 HB1 HB2 Hb1
    go_wp2_with fail
    refine (SI _).mono ?_
    rintro e w3 ⟨A3,c3,rfl,ho3,hb3⟩
    have HB1:=Lib.hid (ADA.out.below hb3 ADA.out.lt)
    have HB2:=Lib.hid (ADB.out.below hb3 ADB.out.lt)
    have Hb3:=Lib.hid (Hb2.out.trans (hb3.mono Hb2.out.size))
    have HS2:Hid (J2 w3 259 A2 (BB.flatMap Og)):=Lib.hid (by obtain⟨A,c,e,_,_,h,_⟩:=Dz (AP HS.out hb3);injection e with e;subst e;exact h)
    have lN:Hid (J2 w3 259 A3 (Br.flatMap Og)):=Lib.hid (by obtain⟨A,c,e,_,_,h,_⟩:=Dz ho3;injection e with e;subst e;exact h)
    clear hb3 ho3 ADA ADB Hb2 HS
    go_wp2_with fail
    go_loopw [14] (fun i wr=>∃ k:Nat,k≤m∧i=.int .i64 (k:Int)∧AV wr g1 3 (ED (CX (l.take k)).1)∧AV wr g2 3 (ED (CX (l.take k)).2)∧AJ w.heap.size [3] w3 wr) (fun i _=>m - (intOf i).toNat)
    case atStart=>exact⟨0,Nat.zero_le _,rfl,HB1.out,HB2.out,AJ.refl _ _ _⟩
    case round=>
      obtain⟨k,hk,rfl,hb1,hb2,hkp⟩:=hrel
      obtain⟨cl1,cl2⟩:=MN (l.take k)
      obtain⟨cs1,cs2⟩:=Qq (l.take k)
      have hlk:(l.take k).length≤k:=by simp;omega
      have GN:=Lib.hid (Hb3.out.trans hkp.below)
      have Hk:=Lib.hid hkp
      have H1:=Lib.hid hb1
      have H2:=Lib.hid hb2
      clear hb1 hb2 hkp
      by_cases hlt:k < m
      · have hkl:k < l.length:=by rw[HM.out];exact hlt
        obtain⟨b,o,rfl,hc⟩:=EI (size:=3) (fun _=>rfl) (by omega) (HA.out.below GN.out) hkl
        have hc0:=hc 0 _ rfl
        have hc1:=hc 1 _ rfl
        have hc2:=hc 2 _ rfl
        simp only[Nat.add_zero]at hc0
        have SQ:=Lib.hid (XD l k hkl)
        have iy:=HF.out _ (List.getElem_mem hkl)
        clear hc
        generalize l[k]=t at *
        obtain⟨x,s,f⟩:=t
        have hx8:=Qp x
        dsimp only at hc0 hc1 hc2 SQ iy
        simp only[Eh,iv]at hc0 hc1 hc2
        obtain⟨q,hq⟩:∃ q:Nat,(q:Int)=n8 x:=⟨x.toNat,rfl⟩
        have Hq:Hid (x.toNat=q):=Lib.hid (by unfold n8 at hq;omega)
        rw[←hq]at hc0 hx8
        clear hq
        generalize CX (l.take k)=S at *
        obtain⟨S1,S2⟩:=S
        dsimp only at cl1 cl2 cs1 cs2 H1 H2
        obtain⟨tk,htk⟩:∃ tk,tk=Obj.cells #[.int .u8 (q:Int),.int .i64 s,.int .i64 f] 244:=⟨_,rfl⟩
        by_cases hs:s=0
        · subst hs
          have Hq2:Hid (DZ (S1,S2) (x,0,f)=(bump S1 q,S2)):=Lib.hid (by unfold DZ;rw[if_pos rfl,Hq.out])
          rw[Hq2.out]at SQ
          have hcell:(wr.alloc (.cells #[.int .u8 (q:Int),.int .i64 0,.int .i64 f] 244)).cell? ⟨g1,q,none⟩=some (.int .i64 (S1.getD q 0:Int)):=J6 (H1.out.alloc _) (by omega)
          have hfr:(wr.alloc (.cells #[.int .u8 (q:Int),.int .i64 0,.int .i64 f] 244)).frozen? ⟨g1,q,none⟩=false:=(H1.out.alloc _).frozen q
          have hle:=Gy S1 q
          have hg1:=H1.out.lt
          have H1n:=Lib.hid ((J7 H1.out q).alloc (.cells #[.int .u8 (q:Int),.int .i64 0,.int .i64 f] 244))
          have H2n:=Lib.hid ((H2.out.far (p:=⟨g1,q,none⟩) (fun h=>lQ.out h.symm) (.int .i64 ((S1.getD q 0:Int)+1))).alloc (.cells #[.int .u8 (q:Int),.int .i64 0,.int .i64 f] 244))
          have Hkn:=Lib.hid ((Hk.out.Dc H1.out (by simp) r9.out.1 q (.int .i64 ((S1.getD q 0:Int)+1))).alloc (by rw[World.size_setCell];exact Nat.le_trans r9.out.1 (Nat.le_of_lt hg1)) (.cells #[.int .u8 (q:Int),.int .i64 0,.int .i64 f] 244))
          generalize S1.getD q 0=y at *
          clear iy htk
          go_wp2_with fail
          go_roundw
          case rel=>exact⟨k+1,by omega,by go_num,by rw[SQ.out];exact H1n.out,by rw[SQ.out];exact H2n.out,Hkn.out⟩
          case measure=>simp[intOf];omega
        · obtain⟨s',f',rfl,rfl,hs0⟩:=iy.resolve_left hs
          have hs1:((s':Int) == 0)=false:=by rw[beq_eq_false_iff_ne];omega
          clear hs hs0 htk
          obtain⟨j1,hj1⟩:∃ j,j=Di BB s':=⟨_,rfl⟩
          obtain⟨j2,hj2⟩:∃ j,j=Di Br f':=⟨_,rfl⟩
          have hl1:j1 < 29:=by rw[hj1];exact Gr BB _ (by decide)
          have hl2:j2 < 30:=by rw[hj2];exact Gr Br _ (by decide)
          have Hq2:Hid (DZ (S1,S2) (x,(s':Int),(f':Int))=(bump S1 (257+j1),bump S2 j2)):=Lib.hid (by
            unfold DZ
            rw[if_neg (by dsimp only;intro h;rw[h]at hs1;simp at hs1)]
            dsimp only
            rw[Int.toNat_natCast,Int.toNat_natCast,←hj1,←hj2])
          rw[Hq2.out]at SQ
          have BA:Below wr.heap.size wr (wr.alloc (.cells #[.int .u8 (q:Int),.int .i64 (s':Int),.int .i64 (f':Int)] 244)):=(Below.refl _ _).alloc (Nat.le_refl _) _
          have Hc1:=Lib.hid (Ko A2 29 c2 BB s' (wr.alloc (.cells #[.int .u8 (q:Int),.int .i64 (s':Int),.int .i64 (f':Int)] 244)) rfl (by omega) ((HS2.out.keeps Hk.out (by simp)).below BA).Ib)
          rw[←hj1]at Hc1
          have Hj2:=Lib.hid hj2
          clear hj1 hj2 iy
          go_wp2_with fail
          refine (Hc1.out).mono ?_
          rintro e w5 ⟨rfl,hb5⟩
          have Ht5:Hid (AV w5 wr.heap.size 244 #[.int .u8 (q:Int),.int .i64 (s':Int),.int .i64 (f':Int)]):=Lib.hid ((AV.new wr _ _).below hb5 (AV.new wr _ _).lt)
          have H15:=Lib.hid ((H1.out.alloc (.cells #[.int .u8 (q:Int),.int .i64 (s':Int),.int .i64 (f':Int)] 244)).below hb5 (H1.out.alloc _).lt)
          have H25:=Lib.hid ((H2.out.alloc (.cells #[.int .u8 (q:Int),.int .i64 (s':Int),.int .i64 (f':Int)] 244)).below hb5 (H2.out.alloc _).lt)
          have Hk5:=Lib.hid ((Hk.out.alloc (Nat.le_trans r9.out.1 (Nat.le_of_lt H1.out.lt)) (.cells #[.int .u8 (q:Int),.int .i64 (s':Int),.int .i64 (f':Int)] 244)).trans (AJ.of_below hb5 (Nat.le_trans r9.out.1 (Nat.le_of_lt (H1.out.alloc _).lt))))
          have Hgt:Hid (g1 < wr.heap.size∧g2 < wr.heap.size):=Lib.hid ⟨H1.out.lt,H2.out.lt⟩
          clear hb5 BA Hc1
          generalize wr.heap.size=gt at *
          have hcell:=J6 H15.out (i:=257+j1) (by omega)
          have hfr:=H15.out.frozen (257+j1)
          have hle:=Gy S1 (257+j1)
          have H16:=Lib.hid (J7 H15.out (257+j1))
          have H26:=Lib.hid (H25.out.far (p:=⟨g1,257+j1,none⟩) (fun h=>lQ.out h.symm) (.int .i64 ((S1.getD (257+j1) 0:Int)+1)))
          have Ht6:=Lib.hid (Ht5.out.far (p:=⟨g1,257+j1,none⟩) (show gt≠g1 from by have:=Hgt.out;omega) (.int .i64 ((S1.getD (257+j1) 0:Int)+1)))
          have Hk6:=Lib.hid (Hk5.out.Dc H15.out (by simp) r9.out.1 (257+j1) (.int .i64 ((S1.getD (257+j1) 0:Int)+1)))
          generalize S1.getD (257+j1) 0=y at *
          have hsum:IntKind.i64.wrap (257+(j1:Int))=((257+j1:Nat):Int):=IntWalk.i64_in _ (by omega)
          generalize hr:257+j1=r at *
          have Hr:=Lib.hid hr
          have hr2:r < 286:=by omega
          clear hr H15 H25 Hk5
          have hc6:(w5.setCell ⟨g1,r,none⟩ (.int .i64 ((y:Int)+1))).cell? ⟨gt,2,none⟩=some (.int .i64 (f':Int)):=by rw[Ht6.out.cell];rfl
          have Hc2:=Lib.hid (Ko A3 30 c3 Br f' (w5.setCell ⟨g1,r,none⟩ (.int .i64 ((y:Int)+1))) rfl (by omega) (lN.out.keeps Hk6.out (by simp)).Ib)
          rw[←Hj2.out]at Hc2
          have AJw:=H16
          go_wp2_with fail
          refine (Hc2.out).mono ?_
          rintro e w7 ⟨rfl,Iu⟩
          have H17:=Lib.hid (H16.out.below Iu H16.out.lt)
          have H27:=Lib.hid (H26.out.below Iu H26.out.lt)
          have Hk7:=Lib.hid (Hk6.out.trans (AJ.of_below Iu (Nat.le_trans r9.out.1 (Nat.le_of_lt H16.out.lt))))
          clear Iu hc6 Hc2 hcell hfr hle H16 AJw H26 Hk6
          have hcell:=J6 H27.out (i:=j2) (by omega)
          have hfr:=H27.out.frozen j2
          have hle:=Gy S2 j2
          have H18:=Lib.hid (H17.out.far (p:=⟨g2,j2,none⟩) lQ.out (.int .i64 ((S2.getD j2 0:Int)+1)))
          have H28:=Lib.hid (J7 H27.out j2)
          have Hk8:=Lib.hid (Hk7.out.Dc H27.out (by simp) r9.out.2 j2 (.int .i64 ((S2.getD j2 0:Int)+1)))
          generalize S2.getD j2 0=y2 at *
          clear H17 H27 Hk7 hsum
          go_wp2_with fail
          go_roundw
          case rel=>exact⟨k+1,by omega,by go_num,by rw[SQ.out];exact H18.out,by rw[SQ.out];exact H28.out,Hk8.out⟩
          case measure=>simp[intOf];omega
      · obtain rfl:k=m:=by omega
        have dD:Hid (l.take k=l):=Lib.hid (List.take_of_length_le (by rw[HM.out];exact Nat.le_refl _))
        have He:Hid (Cs l=(bump (CX (l.take k)).1 256,(CX (l.take k)).2)):=Lib.hid (by rw[dD.out];rfl)
        generalize CX (l.take k)=S at *
        obtain⟨S1,S2⟩:=S
        dsimp only at cl1 cl2 cs1 cs2 H1 H2 He
        have hcell:=J6 H1.out (i:=256) (by omega)
        have hfr:=H1.out.frozen 256
        have hle:=Gy S1 256
        have H1n:=Lib.hid (J7 H1.out 256)
        have H2n:=Lib.hid (H2.out.far (p:=⟨g1,256,none⟩) (fun h=>lQ.out h.symm) (.int .i64 ((S1.getD 256 0:Int)+1)))
        have lS:=Lib.hid (Hb3.out.trans (Hk.out.Dc H1.out (by simp) r9.out.1 256 (.int .i64 ((S1.getD 256 0:Int)+1))).below)
        generalize S1.getD 256 0=y at *
        clear H1 H2 Hk
        go_wp2_with fail
        go_ret2
        exact⟨⟨g1,g2,rfl,r9.out.1,r9.out.2,by rw[He.out];exact H1n.out,by rw[He.out];exact H2n.out⟩,lS.out⟩)
end Go.Proofs.YtabdianhoabhhaaGreatDoor.AV
namespace Go.Proofs.YtabdianhoabhhaaGreatDoor.AV
set_option linter.unusedVariables false
theorem Fh (v:Nat):∀ (f g n:Nat),n≤f→n≤g→D5 v f n=D5 v g n
 | 0,0,n,_,_=>rfl
 | 0,g+1,n,h,_=>by
  obtain rfl:n=0:=by omega
  simp[D5]
 | f+1,0,n,_,h=>by
  obtain rfl:n=0:=by omega
  simp[D5]
 | f+1,g+1,n,h,k=>by
  unfold D5
  by_cases h0:n=0
  ·rw[if_pos h0,if_pos h0]
  ·rw[if_neg h0,if_neg h0]
   by_cases h1:v=0∧11≤n
   ·rw[if_pos h1,if_pos h1,Fh v f g _ (by omega) (by omega)]
   ·rw[if_neg h1,if_neg h1]
    by_cases h2:v=0∧3≤n
    ·rw[if_pos h2,if_pos h2,Fh v f g _ (by omega) (by omega)]
    ·rw[if_neg h2,if_neg h2]
     by_cases h3:v≠0∧3≤n
     ·rw[if_pos h3,if_pos h3,Fh v f g _ (by omega) (by omega)]
     ·rw[if_neg h3,if_neg h3,Fh v f g _ (by omega) (by omega)]
def Cb (v n:Nat):List (Nat×Nat×Nat):=D5 v n n
theorem Yv (n:Nat) (h:11≤n):Cb 0 n=(18,min n 138 - 11,7) :: Cb 0 (n - min n 138):=by
 obtain⟨m,rfl⟩:∃ m,n=m+1:=⟨n - 1,by omega⟩
 unfold Cb
 conv=>lhs;unfold D5
 rw[if_neg (by omega),if_pos ⟨rfl,h⟩,Fh 0 m (m+1 - min (m+1) 138) _ (by omega) (by omega)]
theorem Yw (n:Nat) (h:3≤n) (h2:n < 11):Cb 0 n=(17,min n 10 - 3,3) :: Cb 0 (n - min n 10):=by
 obtain⟨m,rfl⟩:∃ m,n=m+1:=⟨n - 1,by omega⟩
 unfold Cb
 conv=>lhs;unfold D5
 rw[if_neg (by omega),if_neg (by omega),if_pos ⟨rfl,h⟩,Fh 0 m (m+1 - min (m+1) 10) _ (by omega) (by omega)]
theorem Yx (v n:Nat) (hv:v≠0) (h:3≤n):Cb v n=(16,min n 6 - 3,2) :: Cb v (n - min n 6):=by
 obtain⟨m,rfl⟩:∃ m,n=m+1:=⟨n - 1,by omega⟩
 unfold Cb
 conv=>lhs;unfold D5
 rw[if_neg (by omega),if_neg (fun k=>hv k.1),if_neg (fun k=>hv k.1),if_pos ⟨hv,h⟩,Fh v m (m+1 - min (m+1) 6) _ (by omega) (by omega)]
theorem M8 (v n:Nat) (h0:0 < n) (h:n < 3):Cb v n=(v,0,0) :: Cb v (n - 1):=by
 obtain⟨m,rfl⟩:∃ m,n=m+1:=⟨n - 1,by omega⟩
 unfold Cb
 conv=>lhs;unfold D5
 rw[if_neg (by omega),if_neg (by omega),if_neg (by omega),if_neg (by omega)];rfl
theorem Vi (v n:Nat):I9 v n=if v=0 then Cb 0 n else (v,0,0) :: Cb v (n - 1):=rfl
theorem Jf (l:List Nat) (i:Nat) (h:i < l.length):1≤runN l i∧i+runN l i≤l.length:=by
 unfold runN
 have h1:=(List.takeWhile_prefix (l:=l.drop (i+1)) fun x=>x == l.getD i 0).length_le
 rw[List.length_drop]at h1
 omega
theorem Sk (l:List Nat):∀ (f g i:Nat),l.length≤f+i→l.length≤g+i→FV l f i=FV l g i
 | 0,0,i,_,_=>rfl
 | 0,g+1,i,h,_=>by unfold FV;rw[if_pos (by omega)]
 | f+1,0,i,_,h=>by unfold FV;rw[if_pos (by omega)]
 | f+1,g+1,i,h,k=>by
  unfold FV
  by_cases h0:l.length≤i
  ·rw[if_pos h0,if_pos h0]
  ·have:=Jf l i (by omega)
   rw[if_neg h0,if_neg h0,Sk l f g _ (by omega) (by omega)]
def FW (l:List Nat) (i:Nat):List (Nat×Nat×Nat):=FV l (l.length - i) i
theorem lY (l:List Nat):Dk l=FW l 0:=rfl
theorem Vj (l:List Nat) (i:Nat) (h:l.length≤i):FW l i=[]:=by
 unfold FW
 rw[show l.length - i=0 by omega];rfl
theorem Nw (l:List Nat) (i:Nat) (h:i < l.length):FW l i=I9 (l.getD i 0) (runN l i)++FW l (i+runN l i):=by
 have:=Jf l i h
 obtain⟨f,hf⟩:∃ f,l.length - i=f+1:=⟨l.length - i - 1,by omega⟩
 unfold FW
 rw[hf]
 conv=>lhs;unfold FV
 rw[if_neg (by omega),Sk l f (l.length - (i+runN l i)) _ (by omega) (by omega)]
def Lg (x:Nat×Nat×Nat):Prop:=x.1 < 19∧x.2.1 < 128∧x.2.2≤7
theorem KC (v:Nat) (hv:v≤15):∀ (f n:Nat),∀ x∈D5 v f n,Lg x
 | 0,n,x,h=>by simp[D5]at h
 | f+1,n,x,h=>by
  unfold D5 at h
  by_cases h0:n=0
  ·rw[if_pos h0]at h;cases h
  ·rw[if_neg h0]at h
   by_cases h1:v=0∧11≤n
   ·rw[if_pos h1]at h
    rcases List.mem_cons.1 h with rfl | h
    ·(unfold Lg;dsimp only;omega)
    ·exact KC v hv f _ x h
   ·rw[if_neg h1]at h
    by_cases h2:v=0∧3≤n
    ·rw[if_pos h2]at h
     rcases List.mem_cons.1 h with rfl | h
     ·(unfold Lg;dsimp only;omega)
     ·exact KC v hv f _ x h
    ·rw[if_neg h2]at h
     by_cases h3:v≠0∧3≤n
     ·rw[if_pos h3]at h
      rcases List.mem_cons.1 h with rfl | h
      ·(unfold Lg;dsimp only;omega)
      ·exact KC v hv f _ x h
     ·rw[if_neg h3]at h
      rcases List.mem_cons.1 h with rfl | h
      ·(unfold Lg;dsimp only;omega)
      ·exact KC v hv f _ x h
theorem Yy (l:List Nat) (hl:∀ y∈l,y≤15):∀ (f i:Nat),∀ x∈FV l f i,Lg x
 | 0,i,x,h=>by simp[FV]at h
 | f+1,i,x,h=>by
  unfold FV at h
  by_cases h0:l.length≤i
  ·rw[if_pos h0]at h;cases h
  ·rw[if_neg h0]at h
   have hv:l.getD i 0≤15:=by
    rw[List.getD_eq_getElem?_getD,List.getElem?_eq_getElem (by omega:i < l.length)]
    exact hl _ (List.getElem_mem _)
   rcases List.mem_append.1 h with h | h
   ·unfold I9 at h
    by_cases h1:l.getD i 0=0
    ·rw[if_pos h1]at h;exact KC 0 (by omega) _ _ x h
    ·rw[if_neg h1]at h
     rcases List.mem_cons.1 h with rfl | h
     ·(unfold Lg;dsimp only;omega)
     ·exact KC _ hv _ _ x h
   ·exact Yy l hl f _ x h
theorem XH (l:List Nat) (hl:∀ y∈l,y≤15):∀ x∈Dk l,Lg x:=Yy l hl _ _
end Go.Proofs.YtabdianhoabhhaaGreatDoor.AV
namespace Go.Proofs.YtabdianhoabhhaaGreatDoor.Cx
open Go Go.RowKit Go.Proofs.YtabdianhoabhhaaGreatDoor
set_option linter.unusedVariables false
def FE (x:Int):Bool:=decide (x < 0) || decide (1000000 < x)
def CU (zs:List Int):List Nat:=zs.map Int.toNat
def Kc (zs:List Int):Nat:=(zs.filter fun x=>decide (0 < x)).length
def MV (zs:List Int) (most:Int):Int:=if 288 < zs.length then 2 else if zs.any FE=true then 3 else if most < 1∨15 < most then 3 else if 2 ^ most.toNat < Kc zs then 11 else 0
theorem gU (zs:List Int) (k:Nat) (h:k < zs.length):Kc (zs.take (k+1))=Kc (zs.take k)+if 0 < zs[k] then 1 else 0:=by
 unfold Kc
 rw[BJ _ _ h,List.filter_append,List.length_append]
 congr 1
 by_cases h0:0 < zs[k] <;> simp[h0]
theorem yM (zs:List Int):Kc zs≤zs.length:=List.length_filter_le _ _
theorem qL (zs:List Int) (k:Nat) (h:k < zs.length) (h1:(zs.take k).any FE=false) (h2:FE zs[k]=false):(zs.take (k+1)).any FE=false:=by
 rw[BJ _ _ h,List.any_append,h1];simp[h2]
theorem yN (zs:List Int) (most:Int) (k:Nat) (h:k < zs.length) (hl:zs.length≤288) (h2:FE zs[k]=true):MV zs most=3:=by
 unfold MV
 rw[if_neg (by omega),if_pos (List.any_eq_true.2 ⟨_,List.getElem_mem h,h2⟩)]
theorem qM (zs:List Int) (most:Int) (hl:zs.length≤288) (h:zs.any FE=false):MV zs most=if most < 1∨15 < most then 3 else if 2 ^ most.toNat < Kc zs then 11 else 0:=by
 unfold MV
 rw[if_neg (by omega),if_neg (by rw[h];simp)]
theorem We (zs:List Int) (most:Int) (h:MV zs most=0):zs.length≤288∧(∀ x∈zs,0≤x∧x≤1000000)∧1≤most∧most≤15∧Kc zs≤2 ^ most.toNat:=by
 unfold MV at h
 by_cases h1:288 < zs.length
 ·rw[if_pos h1]at h;omega
 ·rw[if_neg h1]at h
  by_cases h2:zs.any FE=true
  ·rw[if_pos h2]at h;omega
  ·rw[if_neg h2]at h
   by_cases h3:most < 1∨15 < most
   ·rw[if_pos h3]at h;omega
   ·rw[if_neg h3]at h
    by_cases h4:2 ^ most.toNat < Kc zs
    ·rw[if_pos h4]at h;omega
    ·refine⟨by omega,fun x hx=>?_,by omega,by omega,by omega⟩
     rw[Bool.not_eq_true,List.any_eq_false]at h2
     have:=h2 x hx
     simp[FE]at this
     omega
set_option maxRecDepth 100000 in
set_option maxHeartbeats 1600000 in
theorem Uc (A:Option Addr) (n c:Nat) (zs:List Int) (most:Int) (w:World) (hn:zs.length=n) (hx:n≤maxLen) (hA:Lv w A zs) :
  Calls Tryz.prog 224 #[.slice A n c,.int .i64 most] w fun e w'=>e=.returned (.int .i64 (MV zs most))∧w'=w:=by
 by_cases hx2:288 < (n:Int)
 ·have Hc:Hid (MV zs most=2):=Lib.hid (by unfold MV;rw[if_pos (by omega)])
  unfold maxLen at hx
  clear hn hA
  go_enter Tryz.func224,Tryz.ntmps224
  go_wp2_with fail
  go_ret
  exact⟨C9 Hc.out.symm,rfl⟩
 ·have Hn:=Lib.hid hn
  have HA:=Lib.hid hA
  clear hn hA hx
  go_enter Tryz.func224,Tryz.ntmps224
  go_wp2_with fail
  go_loop [5,13] (fun u i=>∃ k:Nat,k≤n∧i=.int .i64 (k:Int)∧(zs.take k).any FE=false∧u=.int .i64 (Kc (zs.take k):Int)) (fun _ i=>n - (intOf i).toNat)
  case atStart=>exact⟨0,Nat.zero_le _,rfl,rfl,rfl⟩
  case round=>
   obtain⟨k,hk,rfl,hany,rfl⟩:=hrel
   have XO:=Lib.hid hany
   clear hany
   have hus:=yM (zs.take k)
   rw[List.length_take]at hus
   by_cases hlt:k < n
   ·have hkl:k < zs.length:=by rw[Hn.out];exact hlt
    obtain⟨b,o,rfl,hc⟩:=HA.out.get hkl
    have Hu:=Lib.hid (gU zs k hkl)
    have Ox:=Lib.hid (qL zs k hkl XO.out)
    have QB:=Lib.hid (yN zs most k hkl (by rw[Hn.out];omega))
    generalize Kc (zs.take k)=u at *
    generalize zs[k]=z at *
    by_cases h1:z < 0
    ·have Hf:=Lib.hid (QB.out (by simp[FE,h1]))
     clear QB Ox Hu
     go_wp2_with fail
     go_ret
     exact⟨C9 Hf.out.symm,rfl⟩
    ·have d1:decide (z < 0)=false:=by simp;omega
     by_cases h2:1000000 < z
     ·have Hf:=Lib.hid (QB.out (by simp[FE,h2]))
      clear QB Ox Hu
      go_wp2_with fail
      go_ret
      exact⟨C9 Hf.out.symm,rfl⟩
     ·have Ha:=Lib.hid (Ox.out (by simp[FE];omega))
      clear QB Ox
      by_cases h0:0 < z
      ·rw[if_pos h0]at Hu
       go_wp2_with fail
       go_round
       case rel=>exact⟨k+1,by omega,by go_num,Ha.out,by rw[Hu.out];go_num⟩
       case measure=>simp[intOf];omega
      ·rw[if_neg h0]at Hu
       go_wp2_with fail
       go_round
       case rel=>exact⟨k+1,by omega,by go_num,Ha.out,by rw[Hu.out];rfl⟩
       case measure=>simp[intOf];omega
   ·obtain rfl:k=n:=by omega
    have Rb:=Lib.hid (List.take_of_length_le (by rw[Hn.out];omega:zs.length≤k))
    have hal:=XO.out
    rw[Rb.out]at hal hus⊢
    have Hf:=Lib.hid (qM zs most (by rw[Hn.out];omega) hal)
    clear hal
    generalize Kc zs=u at *
    by_cases h1:most < 1
    ·rw[if_pos (.inl h1)]at Hf
     go_wp2_with fail
     go_ret
     exact⟨C9 Hf.out.symm,rfl⟩
    ·have d1:decide (most < 1)=false:=by simp;omega
     by_cases h2:15 < most
     ·rw[if_pos (.inr h2)]at Hf
      go_wp2_with fail
      go_ret
      exact⟨C9 Hf.out.symm,rfl⟩
     ·rw[if_neg (by omega)]at Hf
      obtain⟨L,rfl⟩:=Int.eq_ofNat_of_zero_le (by omega:0≤most)
      rw[Int.toNat_natCast]at Hf
      have h3:(2:Nat) ^ L≤2 ^ 15:=Nat.pow_le_pow_right (by omega) (by omega)
      have ht:(2:Int) ^ L=((2 ^ L:Nat):Int):=by simp
      generalize 2 ^ L=y at *
      by_cases h4:y < u
      ·rw[if_pos h4]at Hf
       go_wp2_with fail
       go_ret
       exact⟨C9 Hf.out.symm,rfl⟩
      ·rw[if_neg h4]at Hf
       go_wp2_with fail
       go_ret
       exact⟨C9 Hf.out.symm,rfl⟩
end Go.Proofs.YtabdianhoabhhaaGreatDoor.Cx
namespace Go.Proofs.YtabdianhoabhhaaGreatDoor.Cx
open Go Go.RowKit Go.Proofs.YtabdianhoabhhaaGreatDoor
set_option linter.unusedVariables false
abbrev YW:=Option Addr×Nat×Nat
def Cm (s:YW):Value:=.slice s.1 s.2.1 s.2.2
abbrev El:=Nat×YW×List Nat
abbrev TE:=El×Nat
def nv (n:Nat):Value:=.int .i64 (n:Int)
def cellsE (e:TE):List Value:=[nv e.1.1,Cm e.1.2.1]
def CR (e:El):Nat:=e.1
def CE (w:World) (g:Nat) (rest:List Value) (d:List TE):Prop:=AV w g 292 (d.flatMap cellsE++rest).toArray
theorem Es (d:List TE):(d.flatMap cellsE).length=d.length*2:=by
 induction d with
 | nil=>rfl
 | cons a d ih=>rw[List.flatMap_cons,List.length_append,ih];simp[cellsE];omega
theorem CE.c0 {w:World} {g:Nat} {rest:List Value} {X Y:List TE} {u:TE} (h:CE w g rest (X++u :: Y)) {i:Nat} (hi:i=X.length):w.cell? ⟨g,i*2,none⟩=some (nv u.1.1):=by
 subst hi
 rw[AV.cell h,List.getElem?_toArray,List.flatMap_append,List.append_assoc,List.getElem?_append_right (by rw[Es];exact Nat.le_refl _),Es,Nat.sub_self]
 rfl
theorem CE.c1 {w:World} {g:Nat} {rest:List Value} {X Y:List TE} {u:TE} (h:CE w g rest (X++u :: Y)) {i:Nat} (hi:i=X.length):w.cell? ⟨g,i*2+1,none⟩=some (Cm u.1.2.1):=by
 subst hi
 rw[AV.cell h,List.getElem?_toArray,List.flatMap_append,List.append_assoc,List.getElem?_append_right (by rw[Es];omega),Es,show X.length*2+1 - X.length*2=1 by omega]
 rfl
theorem CE.mid {w:World} {g:Nat} {rest:List Value} {X Y Z:List TE} {u v:TE} (h:CE w g rest (X++u :: (Y++v :: Z))):CE w g rest ((X++u :: Y)++v :: Z):=by
 have e:(X++u :: Y)++v :: Z=X++u :: (Y++v :: Z):=by simp
 rw[e];exact h
theorem kH (X Y:List TE) (u:TE) {j:Nat} (h:j=X.length+1+Y.length):j=(X++u :: Y).length:=by rw[h];simp;omega
theorem AHm (A B C:List Value) (u0 u1 v0 v1 x0 x1 y0 y1:Value) :
  ((((A++u0 :: u1 :: (B++v0 :: v1 :: C)).set A.length x0).set (A.length+1) x1).set (A.length+2+B.length) y0).set (A.length+2+B.length+1) y1=A++x0 :: x1 :: (B++y0 :: y1 :: C):=by
 have s1:∀ (L:List Value) (M:List Value) (n:Nat) (x:Value),(L++M).set (L.length+n) x=L++M.set n x:=by
  intro L M n x
  rw[List.set_append_right _ _ (Nat.le_add_right _ _),Nat.add_sub_cancel_left]
 have h1:=s1 A (u0 :: u1 :: (B++v0 :: v1 :: C)) 0 x0
 rw[Nat.add_zero]at h1
 rw[h1,s1 A _ 1 x1,Nat.add_assoc A.length 2 B.length,s1 A _ (2+B.length) y0,Nat.add_assoc A.length,s1 A _ (2+B.length+1) y1]
 congr 1
 have h2:=s1 B (v0 :: v1 :: C) 0 y0
 rw[Nat.add_zero]at h2
 rw[show 2+B.length+1=(B.length+1)+1+1 by omega,show 2+B.length=B.length+1+1 by omega]
 show x0 :: x1 :: (((B++v0 :: v1 :: C).set B.length y0).set (B.length+1) y1)=_
 rw[h2,List.set_cons_zero,s1 B _ 1 y1]
 rfl
theorem AHn (l:List Value) (a b c d:Nat) (x0 x1 y0 y1:Value) (h1:a≠c) (h2:a≠d) (h3:b≠c) (h4:b≠d):(((l.set c y0).set d y1).set a x0).set b x1=(((l.set a x0).set b x1).set c y0).set d y1:=by
 rw[List.set_comm y1 x0 (Ne.symm h2),List.set_comm y0 x0 (Ne.symm h1),List.set_comm y1 x1 (Ne.symm h4),List.set_comm y0 x1 (Ne.symm h3)]
theorem kI (X Y Z:List TE) (u v:TE) (rest:List Value):(X++u :: (Y++v :: Z)).flatMap cellsE++rest=X.flatMap cellsE++nv u.1.1 :: (Cm u.1.2.1) :: (Y.flatMap cellsE++nv v.1.1 :: (Cm v.1.2.1) :: (Z.flatMap cellsE++rest)):=by
 simp[List.flatMap_append,List.flatMap_cons,cellsE]
theorem x9 {w:World} {g:Nat} {t:TypeId} {cs ds:Array Value} (h:AV w g t cs) (e:cs=ds):AV w g t ds:=e▸h
theorem CE.ACd {w:World} {g:Nat} {rest:List Value} {X Y Z:List TE} {u v:TE} (h:CE w g rest (X++u :: (Y++v :: Z))) {i j:Nat} (hi:i=X.length) (hj:j=X.length+1+Y.length) :
  CE ((((w.setCell ⟨g,i*2,none⟩ (nv v.1.1)).setCell ⟨g,i*2+1,none⟩ (Cm v.1.2.1)).setCell ⟨g,j*2,none⟩ (nv u.1.1)).setCell ⟨g,j*2+1,none⟩ (Cm u.1.2.1)) g rest (X++v :: (Y++u :: Z)):=by
 subst hi hj
 have:=(((AV.Ca h (X.length*2) (nv v.1.1)).Ca (X.length*2+1) (Cm v.1.2.1)).Ca ((X.length+1+Y.length)*2) (nv u.1.1)).Ca ((X.length+1+Y.length)*2+1) (Cm u.1.2.1)
 unfold CE
 refine x9 this ?_
 apply Array.ext'
 simp only[Array.toList_setIfInBounds]
 rw[kI,kI]
 have s:=AHm (X.flatMap cellsE) (Y.flatMap cellsE) (Z.flatMap cellsE++rest) (nv u.1.1) (Cm u.1.2.1) (nv v.1.1) (Cm v.1.2.1) (nv v.1.1) (Cm v.1.2.1) (nv u.1.1) (Cm u.1.2.1)
 rw[Es,Es]at s
 rw[←s,show (X.length+1+Y.length)*2=X.length*2+2+Y.length*2 by omega]
theorem CE.ACc {w:World} {g:Nat} {rest:List Value} {X Y Z:List TE} {u v:TE} (h:CE w g rest (X++u :: (Y++v :: Z))) {i j:Nat} (hi:i=X.length) (hj:j=X.length+1+Y.length) :
  CE ((((w.setCell ⟨g,j*2,none⟩ (nv u.1.1)).setCell ⟨g,j*2+1,none⟩ (Cm u.1.2.1)).setCell ⟨g,i*2,none⟩ (nv v.1.1)).setCell ⟨g,i*2+1,none⟩ (Cm v.1.2.1)) g rest (X++v :: (Y++u :: Z)):=by
 subst hi hj
 have:=(((AV.Ca h ((X.length+1+Y.length)*2) (nv u.1.1)).Ca ((X.length+1+Y.length)*2+1) (Cm u.1.2.1)).Ca (X.length*2) (nv v.1.1)).Ca (X.length*2+1) (Cm v.1.2.1)
 unfold CE
 refine x9 this ?_
 apply Array.ext'
 simp only[Array.toList_setIfInBounds]
 rw[kI,kI]
 have s:=AHm (X.flatMap cellsE) (Y.flatMap cellsE) (Z.flatMap cellsE++rest) (nv u.1.1) (Cm u.1.2.1) (nv v.1.1) (Cm v.1.2.1) (nv v.1.1) (Cm v.1.2.1) (nv u.1.1) (Cm u.1.2.1)
 rw[Es,Es]at s
 rw[←s,show (X.length+1+Y.length)*2=X.length*2+2+Y.length*2 by omega]
 exact AHn _ _ _ _ _ _ _ _ _ (by omega) (by omega) (by omega) (by omega)
theorem CE.pair {w:World} {g:Nat} {rest:List Value} {X Y Z:List TE} {uk ub uc ut vk vb vc vt:Nat} {ua va:Option Addr} {um vm:List Nat} (h:CE w g rest (X++((uk,(ua,ub,uc),um),ut) :: (Y++((vk,(va,vb,vc),vm),vt) :: Z))) {i j:Nat} (hi:i=X.length) (hj:j=X.length+1+Y.length) :
  w.cell? ⟨g,i*2,none⟩=some (.int .i64 (uk:Int))∧w.cell? ⟨g,i*2+1,none⟩=some (.slice ua ub uc)∧w.cell? ⟨g,j*2,none⟩=some (.int .i64 (vk:Int))∧w.cell? ⟨g,j*2+1,none⟩=some (.slice va vb vc)∧
  w.frozen? ⟨g,i*2,none⟩=false∧w.frozen? ⟨g,i*2+1,none⟩=false∧w.frozen? ⟨g,j*2,none⟩=false∧w.frozen? ⟨g,j*2+1,none⟩=false:=
 ⟨h.c0 hi,h.c1 hi,h.mid.c0 (kH X Y _ hj),h.mid.c1 (kH X Y _ hj),AV.frozen h _,AV.frozen h _,AV.frozen h _,AV.frozen h _⟩
def swW (w:World) (g i j:Nat) (u0 u1 v0 v1:Value):World:=(((w.setCell ⟨g,i*2,none⟩ u0).setCell ⟨g,i*2+1,none⟩ u1).setCell ⟨g,j*2,none⟩ v0).setCell ⟨g,j*2+1,none⟩ v1
theorem GJ {w w':World} {g:Nat} (h:w.grownBy w' (some g)) (i:Nat) (u:Value):w.grownBy (w'.setCell ⟨g,i,none⟩ u) (some g):=
 ⟨h.os,h.tape,h.output,by simpa [World.setCell] using h.size,fun k hk hne=>by rw[Below.heap_setCell _ _ _ _ (by intro e;exact hne (by rw[e]))];exact h.block k hk hne⟩
theorem Fy {w w':World} {r:Option Nat} (h:w.grownBy w' r):w.grownBy w'.drew r:=⟨h.os,h.tape,h.output,h.size,h.block⟩
theorem aQ {w w':World} {r:Option Nat} (h:w.grownBy w' r) (n:Nat):w.grownBy (w'.drewN n) r:=⟨h.os,h.tape,h.output,h.size,h.block⟩
theorem EX {w w' w'':World} {r:Option Nat} (h:w.grownBy w' r) (hb:Below w'.heap.size w' w''):w.grownBy w'' r:=
 ⟨hb.os.trans h.os,hb.tape.trans h.tape,hb.output.trans h.output,Nat.le_trans h.size hb.size,fun k hk hne=>(hb.block k (Nat.lt_of_lt_of_le hk h.size)).trans (h.block k hk hne)⟩
theorem UL {w w':World} {g:Nat} (h:w.grownBy w' (some g)) (i j:Nat) (u0 u1 v0 v1:Value):w.grownBy (swW w' g i j u0 u1 v0 v1).drew (some g):=Fy (GJ (GJ (GJ (GJ h _ _) _ _) _ _) _ _)
end Go.Proofs.YtabdianhoabhhaaGreatDoor.Cx
namespace Go.Proofs.YtabdianhoabhhaaGreatDoor.Cx
open Go Go.RowKit Go.Proofs.YtabdianhoabhhaaGreatDoor
set_option linter.unusedVariables false
def rP (P U M V Q:List TE) (i:Nat):List TE:=P++V.take i++(U.drop i++(M++U.take i++(V.drop i++Q)))
theorem ABS (P U M V Q:List TE) (i:Nat) (h1:i < U.length) (h2:i < V.length):rP P U M V Q i=(P++V.take i)++U[i] :: ((U.drop (i+1)++(M++U.take i))++V[i] :: (V.drop (i+1)++Q)):=by
 unfold rP
 rw[List.drop_eq_getElem_cons h1,List.drop_eq_getElem_cons h2]
 simp only[List.append_assoc,List.cons_append]
theorem ABT (P U M V Q:List TE) (i:Nat) (h1:i < U.length) (h2:i < V.length):rP P U M V Q (i+1)=(P++V.take i)++V[i] :: ((U.drop (i+1)++(M++U.take i))++U[i] :: (V.drop (i+1)++Q)):=by
 unfold rP
 rw[List.take_succ_eq_append_getElem h1,List.take_succ_eq_append_getElem h2]
 simp only[List.append_assoc,List.cons_append,List.nil_append]
set_option maxRecDepth 100000 in
set_option maxHeartbeats 4000000 in
theorem Jy (g N cap a b k:Nat) (rest:List Value) (P U M V Q:List TE) (cmp:Value) (w:World) (h:CE w g rest (P++U++(M++(V++Q)))) (hU:U.length=k) (hV:V.length=k) (ha:P.length=a) (hb:P.length+U.length+M.length=b)
  (hN:(P++U++(M++(V++Q))).length=N) (RP:N≤1000000) :
  Calls Tryz.prog 258 #[.slice (some ⟨g,0,none⟩) N cap,.int .i64 (a:Int),.int .i64 (b:Int),.int .i64 (k:Int),cmp] w fun e w'=>e=.returned (.tuple #[])∧CE w' g rest (P++V++(M++(U++Q)))∧w.grownBy w' (some g):=by
 have pY:P.length+U.length+M.length+V.length+Q.length=N:=by rw[←hN];simp;omega
 have h0:rP P U M V Q 0=P++U++(M++(V++Q)):=by simp[rP]
 have h1:rP P U M V Q k=P++V++(M++(U++Q)):=by unfold rP;rw[List.take_of_length_le (by omega),List.take_of_length_le (by omega),List.drop_of_length_le (by omega),List.drop_of_length_le (by omega)];simp
 rw[←h0]at h
 have H:=Lib.hid h
 have H1:=Lib.hid h1
 have HU:=Lib.hid hU
 have HV:=Lib.hid hV
 have HP:=Lib.hid ha
 have HB:=Lib.hid hb
 have hbk:b+k≤N:=by omega
 have hak:a+k≤b:=by omega
 clear h h0 h1 hN pY hU hV ha hb
 go_enter Tryz.func258,Tryz.ntmps258
 go_wp2_with fail
 go_loopw [10] (fun i wr=>∃ j:Nat,j≤k∧i=.int .i64 (j:Int)∧CE wr g rest (rP P U M V Q j)∧w.grownBy wr (some g)) (fun i _=>k - (intOf i).toNat)
 case atStart=>exact⟨0,Nat.zero_le _,rfl,H.out,World.grownBy.refl _ _⟩
 case round=>
  obtain⟨j,hj,rfl,hpk,hgr⟩:=hrel
  have QW:=Lib.hid hgr
  clear hgr
  by_cases hlt:j < k
  ·have e1:j < U.length:=by rw[HU.out];exact hlt
   have e2:j < V.length:=by rw[HV.out];exact hlt
   rw[ABS P U M V Q j e1 e2]at hpk
   have hX:a+j=(P++V.take j).length:=by rw[List.length_append,List.length_take,HP.out,HV.out];omega
   have hY:b+j=(P++V.take j).length+1+(U.drop (j+1)++(M++U.take j)).length:=by
    have:=HU.out;have:=HV.out;have:=HP.out;have:=HB.out
    simp;omega
   have c0:=hpk.c0 hX
   have c1:=hpk.c1 hX
   have AEl:CE wr g rest (((P++V.take j)++U[j] :: (U.drop (j+1)++(M++U.take j)))++V[j] :: (V.drop (j+1)++Q)):=by simpa using hpk
   have hY2:b+j=((P++V.take j)++U[j] :: (U.drop (j+1)++(M++U.take j))).length:=by rw[hY];simp;omega
   have c2:=AEl.c0 hY2
   have c3:=AEl.c1 hY2
   have f0:=AV.frozen hpk ((a+j)*2)
   have f1:=AV.frozen hpk ((a+j)*2+1)
   have f2:=AV.frozen hpk ((b+j)*2)
   have f3:=AV.frozen hpk ((b+j)*2+1)
   have gI:=Lib.hid (hpk.ACd hX hY)
   rw[←ABT P U M V Q j e1 e2]at gI
   clear hpk AEl hX hY hY2
   generalize U[j].1.1=u0 at *
   generalize U[j].1.2.1=u1 at *
   generalize V[j].1.1=v0 at *
   generalize V[j].1.2.1=v1 at *
   obtain⟨ua,ul,uc⟩:=u1
   obtain⟨va,vl,vc⟩:=v1
   simp only[Cm,nv]at c0 c1 c2 c3
   clear e1 e2
   go_wp2_with fail
   go_region
   have ALE:Hid (CE ((((wr.setCell ⟨g,(a+j)*2,none⟩ (.int .i64 (v0:Int))).setCell ⟨g,(a+j)*2+1,none⟩ (.slice va vl vc)).setCell ⟨g,(b+j)*2,none⟩ (.int .i64 (u0:Int))).setCell ⟨g,(b+j)*2+1,none⟩ (.slice ua ul uc)).drew g rest (rP P U M V Q (j+1))):=gI
   have UK:=Lib.hid (Fy (GJ (GJ (GJ (GJ QW.out ((a+j)*2) (.int .i64 (v0:Int))) ((a+j)*2+1) (.slice va vl vc)) ((b+j)*2) (.int .i64 (u0:Int))) ((b+j)*2+1) (.slice ua ul uc)))
   generalize ((((wr.setCell ⟨g,(a+j)*2,none⟩ (.int .i64 (v0:Int))).setCell ⟨g,(a+j)*2+1,none⟩ (.slice va vl vc)).setCell ⟨g,(b+j)*2,none⟩ (.int .i64 (u0:Int))).setCell ⟨g,(b+j)*2+1,none⟩ (.slice ua ul uc)).drew=wq at *
   clear gI c0 c1 c2 c3 f0 f1 f2 f3
   go_wp2_with fail
   go_roundw
   case rel=>exact⟨j+1,by omega,by go_num,ALE.out,UK.out⟩
   case measure=>simp[intOf];omega
  ·obtain rfl:j=k:=by omega
   have MW:=Lib.hid hpk
   clear hpk
   go_wp2_with fail
   go_end0
   exact⟨rfl,by rw[←H1.out];exact MW.out,QW.out⟩
def kK (P A U V B Q:List TE):List TE:=(P++A)++U++([]++(V++(B++Q)))
set_option maxRecDepth 100000 in
set_option maxHeartbeats 4000000 in
theorem gN (g N cap a m b:Nat) (rest:List Value) (P X Y Q:List TE) (cmp:Value) (w:World) (h:CE w g rest (P++X++(Y++Q))) (ha:P.length=a) (hm:a+X.length=m) (hb:m+Y.length=b) (hX:1≤X.length) (hY:1≤Y.length)
  (hN:(P++X++(Y++Q)).length=N) (RP:N≤1000000) :
  Calls Tryz.prog 257 #[.slice (some ⟨g,0,none⟩) N cap,.int .i64 (a:Int),.int .i64 (m:Int),.int .i64 (b:Int),cmp] w fun e w'=>e=.returned (.tuple #[])∧CE w' g rest (P++Y++(X++Q))∧w.grownBy w' (some g):=by
 have pY:P.length+X.length+Y.length+Q.length=N:=by rw[←hN];simp;omega
 have HN3:=Lib.hid pY
 have H:=Lib.hid h
 have HP:=Lib.hid ha
 have ei:(m:Int) - (a:Int)=((X.length:Nat):Int):=by omega
 have ej:(b:Int) - (m:Int)=((Y.length:Nat):Int):=by omega
 have hmb:m≤b:=by omega
 have hbN:b≤N:=by omega
 have ham:a≤m:=by omega
 have Hx:=Lib.hid hX
 have Hy:=Lib.hid hY
 have Hm:=Lib.hid hm
 have Hb:=Lib.hid hb
 clear h hN pY ha hX hY hm hb
 generalize hxl:X.length=xl at *
 generalize hyl:Y.length=yl at *
 have aU:=Lib.hid hxl
 have Hyl:=Lib.hid hyl
 clear hxl hyl
 go_enter Tryz.func257,Tryz.ntmps257
 go_wp2_with fail
 go_loopw [10,11] (fun i j wr=>∃ A U V B:List TE,i=.int .i64 (U.length:Int)∧j=.int .i64 (V.length:Int)∧1≤U.length∧1≤V.length∧(P++A).length+U.length=m∧m+V.length≤b∧(kK P A U V B Q).length=N∧Y++X=A++(V++U)++B∧CE wr g rest (kK P A U V B Q)∧w.grownBy wr (some g)) (fun i j _=>(intOf i).toNat+(intOf j).toNat)
 case atStart=>
  refine⟨[],X,Y,[],by rw[aU.out],by rw[Hyl.out],by rw[aU.out];exact Hx.out,by rw[Hyl.out];exact Hy.out,?_,?_,?_,by simp,?_,World.grownBy.refl _ _⟩
  ·rw[List.append_nil,HP.out,aU.out];exact Hm.out
  ·rw[Hyl.out];exact Nat.le_of_eq Hb.out
  ·have:=HN3.out;have:=aU.out;have:=Hyl.out;simp[kK];omega
  ·simpa [kK] using H.out
 case round=>
  obtain⟨A,U,V,B,rfl,rfl,hu,hv,hA,hV,hL,AHp,hpk,hgr⟩:=hrel
  have QW:=Lib.hid hgr
  have MW:=Lib.hid hpk
  have AEm:=Lib.hid AHp
  have HL:=Lib.hid hL
  have HA:=Lib.hid hA
  clear hgr hpk AHp hL
  obtain⟨i,hi⟩:∃ i,U.length=i:=⟨_,rfl⟩
  obtain⟨j,hj⟩:∃ j,V.length=j:=⟨_,rfl⟩
  obtain⟨p,hp⟩:∃ p,(P++A).length=p:=⟨_,rfl⟩
  have Hi:=Lib.hid hi
  have Hj:=Lib.hid hj
  have Hp:=Lib.hid hp
  rw[hi,hp]at hA
  rw[hi]at hu⊢
  rw[hj]at hv hV⊢
  clear hi hj hp
  have e1:(m:Int) - (i:Int)=(p:Int):=by omega
  by_cases hij:i=j
  ·have hne:((i:Int) != (j:Int))=false:=by simp;omega
   have hc:=Jy g N cap p m i rest (P++A) U [] V (B++Q) cmp wr MW.out Hi.out (by rw[Hj.out];exact hij.symm) Hp.out (by rw[Hp.out,Hi.out];simpa using hA) HL.out RP
   have Hc:=Lib.hid hc
   have UN:Hid ((P++A)++V++([]++(U++(B++Q)))=P++Y++(X++Q)):=Lib.hid (by
    have:=AEm.out
    have h2:P++(Y++X)++Q=P++(A++(V++U)++B)++Q:=by rw[this]
    simp only[List.append_assoc,List.nil_append]at h2⊢
    exact h2.symm)
   clear hc hij
   go_wp2_with fail
   refine (Hc.out).mono ?_
   rintro e w2 ⟨rfl,hp2,hg2⟩
   rw[UN.out]at hp2
   have XL:=Lib.hid hp2
   have Q0:=Lib.hid (QW.out.trans hg2)
   clear hp2 hg2
   go_wp2_with fail
   go_end0
   exact⟨rfl,XL.out,Q0.out⟩
  ·have hne:((i:Int) != (j:Int))=true:=by simp;omega
   by_cases hlt:j < i
   ·have hU:U=U.take j++U.drop j:=(List.take_append_drop _ _).symm
    have hc:=Jy g N cap p m j rest (P++A) (U.take j) (U.drop j) V (B++Q) cmp wr (by have:=MW.out;unfold kK at this;rw[hU]at this;simpa only[List.append_assoc,List.nil_append] using this) (by rw[List.length_take,Hi.out];omega) Hj.out Hp.out
     (by rw[Hp.out,List.length_take,List.length_drop,Hi.out];omega) (by have:=HL.out;unfold kK at this;rw[hU]at this;simpa only[List.append_assoc,List.nil_append] using this) RP
    have Hc:=Lib.hid hc
    have e3:(i:Int) - (j:Int)=(((U.drop j).length:Nat):Int):=by rw[List.length_drop,Hi.out];omega
    have Hd:Hid ((U.drop j).length=i - j):=Lib.hid (by rw[List.length_drop,Hi.out])
    have Ht:Hid ((U.take j).length=j):=Lib.hid (by rw[List.length_take,Hi.out];omega)
    have ABU:Hid (Y++X=(A++V)++(U.take j++U.drop j)++B):=Lib.hid (by rw[AEm.out,List.take_append_drop];simp only[List.append_assoc])
    have hjI:(j:Int) < (i:Int):=by omega
    clear hc hij hU
    generalize U.drop j=U2 at *
    generalize U.take j=U1 at *
    generalize hd:U2.length=dd at *
    have Hdl:=Lib.hid hd
    clear hd
    go_wp2_with fail
    refine (Hc.out).mono ?_
    rintro e w2 ⟨rfl,hp2,hg2⟩
    have XL:Hid (CE w2 g rest (kK P (A++V) U2 U1 B Q)):=Lib.hid (by unfold kK;simpa only[List.append_assoc,List.nil_append] using hp2)
    have Q0:=Lib.hid (QW.out.trans hg2)
    clear hp2 hg2
    go_wp2_with fail
    go_roundw
    case rel=>
     have a1:=Hd.out;have a2:=Ht.out;have a3:=Hdl.out;have a4:=Hj.out;have a5:=Hi.out;have a6:=Hp.out;have a7:=HL.out
     refine⟨A++V,U2,U1,B,by rw[a3],by rw[a2],by omega,by omega,?_,by omega,?_,ABU.out,XL.out,Q0.out⟩
     ·simp only[List.length_append]at a6⊢;omega
     ·unfold kK at a7⊢;simp only[List.length_append,List.length_nil]at a7 a6⊢;omega
    case measure=>
     have a1:=Hd.out
     simp[intOf];omega
   ·have hV':V=V.take (j - i)++V.drop (j - i):=(List.take_append_drop _ _).symm
    have hc:=Jy g N cap p (m+(j - i)) i rest (P++A) U (V.take (j - i)) (V.drop (j - i)) (B++Q) cmp wr (by have:=MW.out;unfold kK at this;rw[hV']at this;simpa only[List.append_assoc,List.nil_append] using this) Hi.out (by rw[List.length_drop,Hj.out];omega) Hp.out
     (by rw[Hp.out,List.length_take,Hi.out,Hj.out];omega) (by have:=HL.out;unfold kK at this;rw[hV']at this;simpa only[List.append_assoc,List.nil_append] using this) RP
    have Hc:=Lib.hid hc
    have Hd:Hid ((V.drop (j - i)).length=i):=Lib.hid (by rw[List.length_drop,Hj.out];omega)
    have Ht:Hid ((V.take (j - i)).length=j - i):=Lib.hid (by rw[List.length_take,Hj.out];omega)
    have ABU:Hid (Y++X=A++(V.take (j - i)++V.drop (j - i))++(U++B)):=Lib.hid (by rw[AEm.out,List.take_append_drop];simp only[List.append_assoc])
    have hjI:¬ ((j:Int) < (i:Int)):=by omega
    obtain⟨q,hq⟩:∃ q,m+(j - i)=q:=⟨_,rfl⟩
    have e2:(m:Int)+(j:Int) - (i:Int)=(q:Int):=by omega
    obtain⟨r,hr⟩:∃ r,j - i=r:=⟨_,rfl⟩
    have e3:(j:Int) - (i:Int)=(r:Int):=by omega
    rw[hq]at Hc
    rw[hr]at Ht Hd ABU Hc
    have ANf:r+i=j:=by omega
    have hr1:1≤r:=by omega
    clear hc hij hV' hq hr
    generalize V.drop r=V2 at *
    generalize V.take r=V1 at *
    go_wp2_with fail
    refine (Hc.out).mono ?_
    rintro e w2 ⟨rfl,hp2,hg2⟩
    have XL:Hid (CE w2 g rest (kK P A V2 V1 (U++B) Q)):=Lib.hid (by unfold kK;simpa only[List.append_assoc,List.nil_append] using hp2)
    have Q0:=Lib.hid (QW.out.trans hg2)
    clear hp2 hg2
    go_wp2_with fail
    go_roundw
    case rel=>
     have a1:=Hd.out;have a2:=Ht.out;have a4:=Hj.out;have a5:=Hi.out;have a6:=Hp.out;have a7:=HL.out
     refine⟨A,V2,V1,U++B,by rw[a1],by rw[a2],by omega,by omega,by rw[a6,a1];omega,by omega,?_,ABU.out,XL.out,Q0.out⟩
     unfold kK at a7⊢;simp only[List.length_append,List.length_nil]at a7 a6⊢;omega
    case measure=>simp[intOf];omega
end Go.Proofs.YtabdianhoabhhaaGreatDoor.Cx
namespace Go.Proofs.YtabdianhoabhhaaGreatDoor.Cx
open Go Go.RowKit Go.Proofs.YtabdianhoabhhaaGreatDoor Go.Proofs.YtabdianhoabhhaaGreatDoor.SP
set_option linter.unusedVariables false
def Kb (d:List TE):Prop:=∀ e∈d,e.1.1≤1152921504606846976
theorem Kb.perm {d d':List TE} (h:Kb d) (p:d'.Perm d):Kb d':=fun e he=>h e (p.mem_iff.1 he)
theorem Kb.left {a b:List TE} (h:Kb (a++b)):Kb a:=fun e he=>h e (List.mem_append_left _ he)
theorem Kb.right {a b:List TE} (h:Kb (a++b)):Kb b:=fun e he=>h e (List.mem_append_right _ he)
theorem Kb.both {a b:List TE} (h:Kb a) (k:Kb b):Kb (a++b):=fun e he=>by
 rcases List.mem_append.1 he with h1 | h1
 ·exact h e h1
 ·exact k e h1
def PT:Value:=.func (.func 227) #[] #[]
theorem Jj (n m:Nat) (a b:YW) (w:World) (hn:n≤1152921504606846976) (hm:m≤1152921504606846976) :
  Calls Tryz.prog 227 #[.agg #[.int .i64 (n:Int),.slice a.1 a.2.1 a.2.2],.agg #[.int .i64 (m:Int),.slice b.1 b.2.1 b.2.2]] w fun e w'=>e=.returned (.int .i64 ((n:Int) - (m:Int)))∧Below w.heap.size w w':=by
 obtain⟨a1,a2,a3⟩:=a
 obtain⟨b1,b2,b3⟩:=b
 go_enter Tryz.func227,Tryz.ntmps227
 go_wp2
 go_ret
 exact⟨rfl,((Below.refl _ _).alloc (Nat.le_refl _) _).alloc (by simp) _⟩
theorem CE.below {w w':World} {g:Nat} {rest:List Value} {d:List TE} (h:CE w g rest d) (hb:Below w.heap.size w w'):CE w' g rest d:=AV.below h hb (AV.lt h)
def bz (P S':List TE) (x:TE) (R:List TE) (u:Nat):List TE:=(P++S'.take u)++x :: (S'.drop u++R)
theorem gH (P S':List TE) (x:TE) (R:List TE) (u:Nat) (h:u < S'.length):bz P S' x R (u+1)=(P++S'.take u)++S'[u] :: ([]++x :: (S'.drop (u+1)++R)):=by
 unfold bz
 rw[List.take_succ_eq_append_getElem h]
 simp only[List.append_assoc,List.cons_append,List.nil_append]
theorem kG (P S':List TE) (x:TE) (R:List TE) (u:Nat) (h:u < S'.length):bz P S' x R u=(P++S'.take u)++x :: ([]++S'[u] :: (S'.drop (u+1)++R)):=by
 unfold bz
 rw[List.drop_eq_getElem_cons h]
 simp only[List.append_assoc,List.cons_append,List.nil_append]
theorem OU (S':List TE) (x:TE) (u:Nat) (hu:u≤S'.length) (hs:S'.Pairwise (Cq CR)) (ht:∀ y∈S',y.2 < x.2) (h1:u=0∨∃ h:u - 1 < S'.length,S'[u - 1].1.1≤x.1.1) (h2:u=S'.length∨∃ h:u < S'.length,x.1.1 < S'[u].1.1) :
  (S'.take u++x :: S'.drop u).Pairwise (Cq CR):=by
 refine UI CR x S' u hu hs ?_ ?_
 ·rcases h1 with h | ⟨h,k⟩
  ·exact .inl h
  ·refine .inr ⟨h,?_⟩
   have:=ht _ (List.getElem_mem h)
   unfold Cq CR;omega
 ·rcases h2 with h | ⟨h,k⟩
  ·exact .inl h
  ·exact .inr ⟨h,.inl k⟩
theorem UJ (S' T:List TE) (x:TE) (u:Nat) (h:S'.Perm T):(S'.take u++x :: S'.drop u).Perm (T++[x]):=
 (aP x S' u).trans ((h.cons x).trans (List.perm_append_singleton x T).symm)
set_option maxRecDepth 100000 in
set_option maxHeartbeats 4000000 in
theorem Nh (g N cap a b:Nat) (rest:List Value) (P S Q:List TE) (w:World) (h:CE w g rest (P++S++Q)) (ha:P.length=a) (hb:a+S.length=b) (hr:Ja S) (hk:Kb S) (hN:(P++S++Q).length=N) (RP:N≤1000000) :
  Calls Tryz.prog 254 #[.slice (some ⟨g,0,none⟩) N cap,.int .i64 (a:Int),.int .i64 (b:Int),PT] w fun e w'=>e=.returned (.tuple #[])∧(∃ S',CE w' g rest (P++S'++Q)∧S'.Perm S∧S'.Pairwise (Cq CR))∧w.grownBy w' (some g):=by
 have pY:P.length+S.length+Q.length=N:=by rw[←hN];simp;omega
 have H:=Lib.hid h
 have HP:=Lib.hid ha
 have HR:=Lib.hid hr
 have HK:=Lib.hid hk
 have HS:=Lib.hid hb
 have hbN:b≤N:=by omega
 have hab:a≤b:=by omega
 clear h hN pY ha hr hk hb
 unfold PT
 go_enter Tryz.func254,Tryz.ntmps254
 go_wp2_with fail
 go_loopw [8] (fun i wr=>∃ (t ti:Nat) (S':List TE),a+t=ti∧i=.int .i64 (ti:Int)∧1≤t∧(t≤S.length∨t=1)∧S'.Perm (S.take t)∧S'.Pairwise (Cq CR)∧CE wr g rest (P++S'++(S.drop t++Q))∧w.grownBy wr (some g)) (fun i _=>b - (intOf i).toNat)
 case atStart=>
  refine⟨1,a+1,S.take 1,rfl,by go_num,Nat.le_refl _,.inr rfl,List.Perm.refl _,?_,?_,World.grownBy.refl _ _⟩
  ·rcases S with _ | ⟨x,S⟩
   ·exact List.Pairwise.nil
   ·exact List.pairwise_singleton _ _
  ·have:=H.out
   rw[List.append_assoc,←List.append_assoc (S.take 1),List.take_append_drop,←List.append_assoc];exact this
 case round=>
  obtain⟨t,ti,S',hti,rfl,ht1,htS,hperm,hsort,hpk,hgr⟩:=hrel
  have MW:=Lib.hid hpk
  have QW:=Lib.hid hgr
  have WT:=Lib.hid hperm
  have xy:=Lib.hid hsort
  have Hti:=Lib.hid hti
  clear hpk hgr hperm hsort
  by_cases hlt:ti < b
  ·have htl:t < S.length:=by have:=HS.out;omega
   have HSl:Hid (S'.length=t):=Lib.hid (by rw[WT.out.length_eq,List.length_take];omega)
   have VL:Hid (∀ y∈S',y.2 < S[t].2):=Lib.hid (fun y hy=>by
    have h1:=WT.out.mem_iff.1 hy
    obtain⟨i,hi,rfl⟩:=List.mem_iff_getElem.1 h1
    rw[List.length_take]at hi
    rw[List.getElem_take]
    exact List.pairwise_iff_getElem.1 HR.out i t (by omega) htl (by omega))
   have Hkx:Hid (S[t].1.1≤1152921504606846976):=Lib.hid (HK.out _ (List.getElem_mem htl))
   have Hks:Hid (Kb S'):=Lib.hid (fun e he=>HK.out e (List.mem_of_mem_take (WT.out.mem_iff.1 he)))
   have Cy:Hid (P++S'++(S.drop t++Q)=bz P S' S[t] (S.drop (t+1)++Q) t):=Lib.hid (by
    unfold bz
    rw[List.drop_eq_getElem_cons htl,List.take_of_length_le (Nat.le_of_eq HSl.out),List.drop_of_length_le (Nat.le_of_eq HSl.out)]
    simp only[List.append_assoc,List.cons_append,List.nil_append])
   have Rb:Hid (S.take (t+1)=S.take t++[S[t]]):=Lib.hid (List.take_succ_eq_append_getElem htl)
   rw[Cy.out]at MW
   generalize S[t]=x at *
   clear Cy
   go_wp2_with fail
   go_loopw [9] (fun j wr=>∃ (u uj:Nat),a+u=uj∧j=.int .i64 (uj:Int)∧u≤t∧(u=S'.length∨∃ h:u < S'.length,x.1.1 < S'[u].1.1)∧CE wr g rest (bz P S' x (S.drop (t+1)++Q) u)∧w.grownBy wr (some g)) (fun j _=>(intOf j).toNat)
   case atStart=>exact⟨t,ti,Hti.out,rfl,Nat.le_refl _,.inl HSl.out.symm,MW.out,QW.out⟩
   case round=>
    obtain⟨u,uj,huj,rfl,hut,hux,hpk,hgr⟩:=hrel
    have UK:=Lib.hid hgr
    have Hux:=Lib.hid hux
    clear hgr hux
    rcases u with _ | u
    ·have d0:decide (a < uj)=false:=by simp;omega
     have xz:=Lib.hid hpk
     have Huj:=Lib.hid huj
     clear hpk huj
     have hpr:Hid (uj≤ti):=Lib.hid (by have:=Huj.out;have:=Hti.out;omega)
     go_wp2_with fail
     go_quiet (fail)
     go_wp2_with fail
     go_roundw
     case rel=>
      have a0:=HSl.out
      have hu0:(0:Nat)≤S'.length:=Nat.zero_le _
      have hso:=OU S' x 0 hu0 xy.out VL.out (.inl rfl) Hux.out
      have hpe:=UJ S' _ x 0 WT.out
      rw[←Rb.out]at hpe
      exact⟨t+1,ti+1,_,by omega,by go_num,by omega,.inl (by omega),hpe,hso,by have:=xz.out;unfold bz at this;show CE wr g rest _;simpa only[List.append_assoc,List.cons_append] using this,aQ UK.out _⟩
     case measure=>simp[intOf];omega
    ·obtain⟨jm,hjm⟩:∃ jm,a+u=jm:=⟨_,rfl⟩
     have hju:uj=jm+1:=by omega
     have xS:u < S'.length:=by rw[HSl.out];omega
     rw[gH P S' x _ u xS]at hpk
     have hX:jm=(P++S'.take u).length:=by rw[List.length_append,List.length_take,HP.out,HSl.out];omega
     have hY:uj=(P++S'.take u).length+1+([]:List TE).length:=by rw[←hX,hju];rfl
     have e1:(uj:Int) - 1=(jm:Int):=by omega
     have hw:IntKind.i64.wrap (jm:Int)=(jm:Int):=IntWalk.i64_in _ (by omega)
     have hpr:Hid (uj≤ti∧jm+1=uj∧a≤jm):=Lib.hid (by omega)
     have ha1:a < uj:=by omega
     have ha2:(a:Int) < (uj:Int):=by omega
     have ANd:uj < N:=by omega
     have ANe:jm < N:=by omega
     have hpost:=kG P S' x (S.drop (t+1)++Q) u xS
     have Rk:=Hks.out _ (List.getElem_mem xS)
     have aR:=Lib.hid hpk
     have hle:∀ h:u+1 - 1 < S'.length,S'[u+1 - 1]=S'[u]:=fun _=>rfl
     obtain⟨y,hy⟩:∃ y,S'[u]=y:=⟨_,rfl⟩
     rw[hy]at hpost Rk aR
     have Hy:Hid (∀ h:u < S'.length,S'[u]=y):=Lib.hid (fun _=>hy)
     have AHl:=Lib.hid hpost
     have HX:=Lib.hid hX
     have HY:=Lib.hid hY
     have Huj:Hid (a+(u+1)=uj∧a+u=jm):=Lib.hid ⟨huj,hjm⟩
     clear hy hpost hpk hX hY huj hjm hju hle
     obtain⟨⟨xk,⟨xa,xb,xc⟩,xm⟩,xt⟩:=x
     obtain⟨⟨yk,⟨ya,yb,yc⟩,ym⟩,yt⟩:=y
     obtain⟨c0,c1,c2,c3,f0,f1,f2,f3⟩:=aR.out.pair HX.out HY.out
     have hkx:=Hkx.out
     simp only at Rk hkx
     by_cases hc:xk < yk
     ·have d1:(xk:Int) - (yk:Int) < 0:=by omega
      go_wp2_with fail
      go_still_tail 14,(by kernel_rfl)
      change wpList _ _ _ _ _ wr.drew
      have JM:Hid (CE wr.drew g rest _):=aR
      have VM:=Lib.hid (Fy UK.out)
      generalize wr.drew=wd at *
      clear c0 c1 c2 c3 f0 f1 f2 f3
      go_wp2_with fail
      refine (Jj xk yk (xa,xb,xc) (ya,yb,yc) wd hkx Rk).mono ?_
      rintro e w3 ⟨rfl,hb3⟩
      have Mv:=Lib.hid (JM.out.below hb3)
      have J3:=Lib.hid (EX VM.out hb3)
      obtain⟨c0,c1,c2,c3,f0,f1,f2,f3⟩:=Mv.out.pair HX.out HY.out
      clear hb3 JM VM
      go_wp2_with fail
      go_region
      have gI:Hid (CE (swW w3 g uj jm (.int .i64 (yk:Int)) (.slice ya yb yc) (.int .i64 (xk:Int)) (.slice xa xb xc)).drew g rest _):=Lib.hid (Mv.out.ACc HX.out HY.out)
      have Hgs:=Lib.hid (UL J3.out uj jm (.int .i64 (yk:Int)) (.slice ya yb yc) (.int .i64 (xk:Int)) (.slice xa xb xc))
      rw[←AHl.out]at gI
      unfold swW at gI Hgs
      generalize ((((w3.setCell ⟨g,uj*2,none⟩ (.int .i64 (yk:Int))).setCell ⟨g,uj*2+1,none⟩ (.slice ya yb yc)).setCell ⟨g,jm*2,none⟩ (.int .i64 (xk:Int))).setCell ⟨g,jm*2+1,none⟩ (.slice xa xb xc)).drew=wq at *
      clear c0 c1 c2 c3 f0 f1 f2 f3 Mv J3
      go_wp2_with fail
      go_roundw
      case rel=>exact⟨u,jm,Huj.out.2,rfl,by omega,.inr ⟨xS,by rw[Hy.out];exact hc⟩,gI.out,Hgs.out⟩
      case measure=>simp[intOf];omega
     ·have d1:¬ ((xk:Int) - (yk:Int) < 0):=by omega
      have ALA:Hid (CE wr g rest (bz P S' ((xk,(xa,xb,xc),xm),xt) (S.drop (t+1)++Q) (u+1))):=Lib.hid (by rw[gH P S' _ _ u xS,Hy.out];exact aR.out)
      go_wp2_with fail
      go_still_tail 14,(by kernel_rfl)
      change wpList _ _ _ _ _ wr.drew
      have JM:Hid (CE wr.drew g rest _):=ALA
      have VM:=Lib.hid (Fy UK.out)
      generalize wr.drew=wd at *
      clear c0 c1 c2 c3 f0 f1 f2 f3
      go_wp2_with fail
      refine (Jj xk yk (xa,xb,xc) (ya,yb,yc) wd hkx Rk).mono ?_
      rintro e w3 ⟨rfl,hb3⟩
      have Mv:=Lib.hid (JM.out.below hb3)
      have J3:=Lib.hid (EX VM.out hb3)
      clear hb3 JM VM
      go_wp2_with fail
      go_roundw
      case rel=>
       have a0:=HSl.out
       have hu0:u+1≤S'.length:=xS
       have hso:=OU S' ((xk,(xa,xb,xc),xm),xt) (u+1) hu0 xy.out VL.out (.inr ⟨xS,by rw[show S'[u+1 - 1]=S'[u] from rfl,Hy.out];show yk≤xk;omega⟩) Hux.out
       have hpe:=UJ S' _ ((xk,(xa,xb,xc),xm),xt) (u+1) WT.out
       rw[←Rb.out]at hpe
       exact⟨t+1,ti+1,_,by omega,by go_num,by omega,.inl (by omega),hpe,hso,by have:=Mv.out;unfold bz at this;simpa only[List.append_assoc,List.cons_append] using this,J3.out⟩
      case measure=>simp[intOf];omega
  ·have hall:S.length≤t:=by have:=HS.out;omega
   have Hp1:Hid (S'.Perm S):=Lib.hid (by have:=WT.out;rwa [List.take_of_length_le hall]at this)
   have ALB:Hid (CE wr g rest (P++S'++Q)):=Lib.hid (by have:=MW.out;rwa [List.drop_of_length_le hall,List.nil_append]at this)
   go_wp2_with fail
   go_end0
   exact⟨rfl,⟨S',ALB.out,Hp1.out,xy.out⟩,QW.out⟩
end Go.Proofs.YtabdianhoabhhaaGreatDoor.Cx
namespace Go.Proofs.YtabdianhoabhhaaGreatDoor.Cx
open Go Go.RowKit Go.Proofs.YtabdianhoabhhaaGreatDoor Go.Proofs.YtabdianhoabhhaaGreatDoor.SP
set_option linter.unusedVariables false
theorem AEn (x:TE) (R:List TE) (t:Nat) (ht:t≤R.length) (hs:R.Pairwise (Cq CR)) (htag:∀ y∈R,x.2 < y.2) (h1:t=0∨∃ h:t - 1 < R.length,R[t - 1].1.1 < x.1.1) (h2:t=R.length∨∃ h:t < R.length,x.1.1≤R[t].1.1) :
  (R.take t++x :: R.drop t).Pairwise (Cq CR):=by
 refine UI CR x R t ht hs ?_ ?_
 ·rcases h1 with h | ⟨h,k⟩
  ·exact .inl h
  ·exact .inr ⟨h,.inl k⟩
 ·rcases h2 with h | ⟨h,k⟩
  ·exact .inl h
  ·refine .inr ⟨h,?_⟩
   have:=htag _ (List.getElem_mem h)
   unfold Cq CR;omega
theorem AHq (P R Q:List TE) (x:TE) (k:Nat) (h:k < R.length):P++[x]++(R++Q)=P++x :: (R.take k++R[k] :: (R.drop (k+1)++Q)):=by
 have:R=R.take k++R[k] :: R.drop (k+1):=by rw[←List.drop_eq_getElem_cons h,List.take_append_drop]
 conv=>lhs;rw[this]
 simp only[List.append_assoc,List.cons_append,List.nil_append]
def upL (P R Q:List TE) (x:TE) (s:Nat):List TE:=(P++R.take s)++x :: (R.drop s++Q)
theorem AEo (P R Q:List TE) (x:TE) (s:Nat) (h:s < R.length):upL P R Q x s=(P++R.take s)++x :: ([]++R[s] :: (R.drop (s+1)++Q)):=by
 unfold upL
 rw[List.drop_eq_getElem_cons h]
 simp only[List.cons_append,List.nil_append]
theorem ABV (P R Q:List TE) (x:TE) (s:Nat) (h:s < R.length):upL P R Q x (s+1)=(P++R.take s)++R[s] :: ([]++x :: (R.drop (s+1)++Q)):=by
 unfold upL
 rw[List.take_succ_eq_append_getElem h]
 simp only[List.append_assoc,List.cons_append,List.nil_append]
set_option maxRecDepth 100000 in
set_option maxHeartbeats 8000000 in
theorem AEp (g N cap a m b:Nat) (rest:List Value) (P R Q:List TE) (x:TE) (w:World) (h:CE w g rest (P++[x]++(R++Q))) (ha:P.length=a) (hm:a+1=m) (hb:m+R.length=b) (hR:1≤R.length)
  (hs:R.Pairwise (Cq CR)) (htag:∀ y∈R,x.2 < y.2) (hkx:x.1.1≤1152921504606846976) (hk:Kb R) (hN:(P++[x]++(R++Q)).length=N) (RP:N≤1000000) :
  Calls Tryz.prog 255 #[.slice (some ⟨g,0,none⟩) N cap,.int .i64 (a:Int),.int .i64 (m:Int),.int .i64 (b:Int),PT] w fun e w'=>e=.returned (.tuple #[])∧(∃ S',CE w' g rest (P++S'++Q)∧S'.Perm ([x]++R)∧S'.Pairwise (Cq CR))∧w.grownBy w' (some g):=by
 have pY:P.length+1+R.length+Q.length=N:=by rw[←hN];simp;omega
 have H:=Lib.hid h
 have HP:=Lib.hid ha
 have Hs:=Lib.hid hs
 have VL:=Lib.hid htag
 have Hkx:=Lib.hid hkx
 have HK:=Lib.hid hk
 have Hb:=Lib.hid hb
 have hbN:b≤N:=by omega
 have hmb:m < b:=by omega
 have ham:a < m:=by omega
 have e1:(m:Int) - (a:Int)=1:=by omega
 have Hm:=Lib.hid hm
 clear h hN pY ha hs htag hkx hk hb hm hR
 obtain⟨⟨xk,⟨xa,xb,xc⟩,xm⟩,xt⟩:=x
 unfold PT
 go_enter Tryz.func255,Tryz.ntmps255
 go_wp2_with fail
 clear e1
 go_loopw [10,11] (fun iv jv wr=>∃ i j:Nat,iv=.int .i64 (i:Int)∧jv=.int .i64 (j:Int)∧m≤i∧i≤j∧j≤b∧(i=m∨∃ h:i - m - 1 < R.length,R[i - m - 1].1.1 < xk)∧(j=b∨∃ h:j - m < R.length,xk≤R[j - m].1.1)∧
  CE wr g rest (P++[((xk,(xa,xb,xc),xm),xt)]++(R++Q))∧w.grownBy wr (some g)) (fun iv jv _=>(intOf jv - intOf iv).toNat)
 case atStart=>exact⟨m,b,rfl,rfl,Nat.le_refl _,by omega,Nat.le_refl _,.inl rfl,.inl rfl,H.out,World.grownBy.refl _ _⟩
 case round=>
  obtain⟨i,j,rfl,rfl,hmi,hij,hjb,hI,hJ,hpk,hgr⟩:=hrel
  have HI:=Lib.hid hI
  have HJ:=Lib.hid hJ
  have QW:=Lib.hid hgr
  clear hI hJ hgr
  by_cases hlt:i < j
  ·obtain⟨q,hq⟩:∃ q,q=(i+j) / 2:=⟨_,rfl⟩
   have hqi:i≤q:=by omega
   have hqj:q < j:=by omega
   have Q9:q - m < R.length:=by have:=Hb.out;omega
   have Hat:=Lib.hid (AHq P R Q ((xk,(xa,xb,xc),xm),xt) (q - m) Q9)
   have MW:=Lib.hid hpk
   rw[Hat.out]at hpk
   have HX:Hid (a=P.length):=Lib.hid HP.out.symm
   have HY:Hid (q=P.length+1+(R.take (q - m)).length):=Lib.hid (by rw[List.length_take,HP.out];have:=Hm.out;omega)
   have Rk:=HK.out _ (List.getElem_mem Q9)
   obtain⟨y,hy⟩:∃ y,R[q - m]=y:=⟨_,rfl⟩
   have Hy:Hid (∀ h:q - m < R.length,R[q - m]=y):=Lib.hid (fun _=>hy)
   rw[hy]at hpk Rk
   obtain⟨⟨yk,⟨ya,yb,yc⟩,ym⟩,yt⟩:=y
   obtain⟨c0,c1,c2,c3,f0,f1,f2,f3⟩:=hpk.pair HX.out HY.out
   have hkx:=Hkx.out
   simp only at Rk hkx
   have e2:((i:Int)+(j:Int)) / 2=(q:Int):=by omega
   have hqN:q < N:=by omega
   have haN:a < N:=by omega
   clear hpk hy hq
   have VM:=Lib.hid (Fy QW.out)
   by_cases hc:yk < xk
   ·have d1:(yk:Int) - (xk:Int) < 0:=by omega
    go_wp2_with fail
    go_still_tail 9,(by kernel_rfl)
    change wpList _ _ _ _ _ wr.drew
    have JM:Hid (CE wr.drew g rest _):=MW
    generalize wr.drew=wd at *
    clear c0 c1 c2 c3 f0 f1 f2 f3
    go_wp2_with fail
    refine (Jj yk xk (ya,yb,yc) (xa,xb,xc) wd Rk hkx).mono ?_
    rintro e w3 ⟨rfl,hb3⟩
    have Mv:=Lib.hid (JM.out.below hb3)
    have J3:=Lib.hid (EX VM.out hb3)
    clear hb3 JM VM
    go_wp2_with fail
    go_roundw
    case rel=>exact⟨q+1,j,by go_num,rfl,by omega,by omega,hjb,.inr ⟨by omega,by
     have e9:q+1 - m - 1=q - m:=by omega
     have:=Hy.out Q9
     simp only[e9,this];exact hc⟩,HJ.out,Mv.out,J3.out⟩
    case measure=>simp[intOf];omega
   ·have d1:¬ ((yk:Int) - (xk:Int) < 0):=by omega
    go_wp2_with fail
    go_still_tail 9,(by kernel_rfl)
    change wpList _ _ _ _ _ wr.drew
    have JM:Hid (CE wr.drew g rest _):=MW
    generalize wr.drew=wd at *
    clear c0 c1 c2 c3 f0 f1 f2 f3
    go_wp2_with fail
    refine (Jj yk xk (ya,yb,yc) (xa,xb,xc) wd Rk hkx).mono ?_
    rintro e w3 ⟨rfl,hb3⟩
    have Mv:=Lib.hid (JM.out.below hb3)
    have J3:=Lib.hid (EX VM.out hb3)
    clear hb3 JM VM
    go_wp2_with fail
    go_roundw
    case rel=>exact⟨i,q,rfl,rfl,hmi,hqi,by omega,HI.out,.inr ⟨Q9,by rw[Hy.out Q9];show xk≤yk;omega⟩,Mv.out,J3.out⟩
    case measure=>simp[intOf];omega
  ·obtain rfl:i=j:=by omega
   obtain⟨t,ht⟩:∃ t,a+t=i - 1:=⟨i - 1 - a,by have:=Hm.out;omega⟩
   have nD:i - m=t:=by have:=Hm.out;omega
   have htR:t≤R.length:=by have:=Hb.out;omega
   have hso:(R.take t++((xk,(xa,xb,xc),xm),xt) :: R.drop t).Pairwise (Cq CR):=by
    refine AEn _ R t htR Hs.out VL.out ?_ ?_
    ·rcases HI.out with h | ⟨h,k⟩
     ·left;omega
     ·right;simp only[nD]at h k;exact⟨h,k⟩
    ·rcases HJ.out with h | ⟨h,k⟩
     ·left;have:=Hb.out;omega
     ·right;simp only[nD]at h k;exact⟨h,k⟩
   have rO:=Lib.hid hso
   have MW:Hid (CE wr g rest (upL P R Q ((xk,(xa,xb,xc),xm),xt) 0)):=Lib.hid (by
    have e:upL P R Q ((xk,(xa,xb,xc),xm),xt) 0=P++[((xk,(xa,xb,xc),xm),xt)]++(R++Q):=by simp[upL]
    rw[e];exact hpk)
   have UN:Hid (upL P R Q ((xk,(xa,xb,xc),xm),xt) t=P++(R.take t++((xk,(xa,xb,xc),xm),xt) :: R.drop t)++Q):=Lib.hid (by unfold upL;simp only[List.append_assoc,List.cons_append])
   have gM:Hid ((R.take t++((xk,(xa,xb,xc),xm),xt) :: R.drop t).Perm ([((xk,(xa,xb,xc),xm),xt)]++R)):=Lib.hid (aP _ R t)
   have Ht:=Lib.hid ht
   obtain⟨i1,hi1⟩:∃ i1,i=i1+1:=⟨i - 1,by omega⟩
   have e3:(i:Int) - 1=(i1:Int):=by omega
   have Hi1:Hid (a+t=i1):=Lib.hid (by omega)
   have ANg:i1 < N:=by omega
   clear hpk hso ht nD HI HJ hi1
   go_wp2_with fail
   go_loopw [13] (fun kv wr=>∃ s k:Nat,kv=.int .i64 (k:Int)∧a+s=k∧s≤t∧CE wr g rest (upL P R Q ((xk,(xa,xb,xc),xm),xt) s)∧w.grownBy wr (some g)) (fun kv _=>i1 - (intOf kv).toNat)
   case atStart=>exact⟨0,a,rfl,rfl,Nat.zero_le _,MW.out,QW.out⟩
   case round=>
    obtain⟨s,k,rfl,hk,hst,hpk,hgr⟩:=hrel
    have UK:=Lib.hid hgr
    have Hk:=Lib.hid hk
    clear hgr
    by_cases hlt:k < i1
    ·have hsl:s < R.length:=by have:=Hi1.out;omega
     have HX:Hid (k=(P++R.take s).length):=Lib.hid (by rw[List.length_append,List.length_take,HP.out];omega)
     have HY:Hid (k+1=(P++R.take s).length+1+([]:List TE).length):=Lib.hid (by rw[←HX.out];rfl)
     rw[AEo P R Q _ s hsl]at hpk
     have hpost:=ABV P R Q ((xk,(xa,xb,xc),xm),xt) s hsl
     obtain⟨y,hy⟩:∃ y,R[s]=y:=⟨_,rfl⟩
     rw[hy]at hpk hpost
     obtain⟨⟨yk,⟨ya,yb,yc⟩,ym⟩,yt⟩:=y
     obtain⟨c0,c1,c2,c3,f0,f1,f2,f3⟩:=hpk.pair HX.out HY.out
     have gI:Hid (CE (swW wr g k (k+1) (.int .i64 (yk:Int)) (.slice ya yb yc) (.int .i64 (xk:Int)) (.slice xa xb xc)).drew g rest _):=Lib.hid (hpk.ACd HX.out HY.out)
     have Hgs:=Lib.hid (UL UK.out k (k+1) (.int .i64 (yk:Int)) (.slice ya yb yc) (.int .i64 (xk:Int)) (.slice xa xb xc))
     rw[←hpost]at gI
     unfold swW at gI Hgs
     clear hpk hy hpost
     go_wp2_with fail
     go_region
     generalize ((((wr.setCell ⟨g,k*2,none⟩ (.int .i64 (yk:Int))).setCell ⟨g,k*2+1,none⟩ (.slice ya yb yc)).setCell ⟨g,(k+1)*2,none⟩ (.int .i64 (xk:Int))).setCell ⟨g,(k+1)*2+1,none⟩ (.slice xa xb xc)).drew=wq at *
     clear c0 c1 c2 c3 f0 f1 f2 f3
     go_wp2_with fail
     go_roundw
     case rel=>exact⟨s+1,k+1,by go_num,by have:=Hk.out;omega,by have:=Hi1.out;omega,gI.out,Hgs.out⟩
     case measure=>simp[intOf];omega
    ·obtain rfl:s=t:=by have:=Hi1.out;omega
     obtain rfl:k=i1:=by have:=Hi1.out;omega
     rw[UN.out]at hpk
     have xz:=Lib.hid hpk
     clear hpk
     go_wp2_with fail
     refine bodyPost_ret (results_none rfl _ _ _) rfl ?_
     exact⟨rfl,⟨_,xz.out,gM.out,rO.out⟩,UK.out⟩
end Go.Proofs.YtabdianhoabhhaaGreatDoor.Cx
namespace Go.Proofs.YtabdianhoabhhaaGreatDoor.Cx
open Go Go.RowKit Go.Proofs.YtabdianhoabhhaaGreatDoor Go.Proofs.YtabdianhoabhhaaGreatDoor.SP
set_option linter.unusedVariables false
theorem AHr (P L Q:List TE) (x:TE) (k:Nat) (h:k < L.length):P++L++([x]++Q)=(P++L.take k)++L[k] :: (L.drop (k+1)++x :: Q):=by
 have:L=L.take k++L[k] :: L.drop (k+1):=by rw[←List.drop_eq_getElem_cons h,List.take_append_drop]
 conv=>lhs;rw[this]
 simp only[List.append_assoc,List.cons_append,List.nil_append]
set_option maxRecDepth 100000 in
set_option maxHeartbeats 8000000 in
theorem AEq (g N cap a m b:Nat) (rest:List Value) (P L Q:List TE) (x:TE) (w:World) (h:CE w g rest (P++L++([x]++Q))) (ha:P.length=a) (hm:a+L.length=m) (hb:m+1=b) (hR:2≤L.length)
  (hs:L.Pairwise (Cq CR)) (htag:∀ y∈L,y.2 < x.2) (hkx:x.1.1≤1152921504606846976) (hk:Kb L) (hN:(P++L++([x]++Q)).length=N) (RP:N≤1000000) :
  Calls Tryz.prog 255 #[.slice (some ⟨g,0,none⟩) N cap,.int .i64 (a:Int),.int .i64 (m:Int),.int .i64 (b:Int),PT] w fun e w'=>e=.returned (.tuple #[])∧(∃ S',CE w' g rest (P++S'++Q)∧S'.Perm (L++[x])∧S'.Pairwise (Cq CR))∧w.grownBy w' (some g):=by
 have pY:P.length+L.length+1+Q.length=N:=by rw[←hN];simp;omega
 have H:=Lib.hid h
 have HP:=Lib.hid ha
 have Hs:=Lib.hid hs
 have VL:=Lib.hid htag
 have Hkx:=Lib.hid hkx
 have HK:=Lib.hid hk
 have hbN:b≤N:=by omega
 have hmb:m < b:=by omega
 have ham:a < m:=by omega
 have e1:(m:Int) - (a:Int)=((L.length:Nat):Int):=by omega
 have e0:(((L.length:Nat):Int) == 1)=false:=by simp;omega
 have e2:(b:Int) - (m:Int)=1:=by omega
 have Hm:=Lib.hid hm
 clear h hN pY ha hs htag hkx hk hb hm hR
 generalize hll:L.length=ll at *
 have kL:=Lib.hid hll
 clear hll
 obtain⟨⟨xk,⟨xa,xb,xc⟩,xm⟩,xt⟩:=x
 unfold PT
 go_enter Tryz.func255,Tryz.ntmps255
 go_wp2_with fail
 clear e1 e0 e2
 go_loopw [14,15] (fun iv jv wr=>∃ i j:Nat,iv=.int .i64 (i:Int)∧jv=.int .i64 (j:Int)∧a≤i∧i≤j∧j≤m∧(i=a∨∃ h:i - a - 1 < L.length,L[i - a - 1].1.1≤xk)∧(j=m∨∃ h:j - a < L.length,xk < L[j - a].1.1)∧
  CE wr g rest (P++L++([((xk,(xa,xb,xc),xm),xt)]++Q))∧w.grownBy wr (some g)) (fun iv jv _=>(intOf jv - intOf iv).toNat)
 case atStart=>exact⟨a,m,rfl,rfl,Nat.le_refl _,by omega,Nat.le_refl _,.inl rfl,.inl rfl,H.out,World.grownBy.refl _ _⟩
 case round=>
  obtain⟨i,j,rfl,rfl,hmi,hij,hjb,hI,hJ,hpk,hgr⟩:=hrel
  have HI:=Lib.hid hI
  have HJ:=Lib.hid hJ
  have QW:=Lib.hid hgr
  clear hI hJ hgr
  by_cases hlt:i < j
  ·obtain⟨q,hq⟩:∃ q,q=(i+j) / 2:=⟨_,rfl⟩
   have hqi:i≤q:=by omega
   have hqj:q < j:=by omega
   have Q9:q - a < L.length:=by have:=Hm.out;have:=kL.out;omega
   have Hat:=Lib.hid (AHr P L Q ((xk,(xa,xb,xc),xm),xt) (q - a) Q9)
   have MW:=Lib.hid hpk
   rw[Hat.out]at hpk
   have HX:Hid (q=(P++L.take (q - a)).length):=Lib.hid (by rw[List.length_append,List.length_take,HP.out];omega)
   have HY:Hid (m=(P++L.take (q - a)).length+1+(L.drop (q - a+1)).length):=Lib.hid (by rw[←HX.out,List.length_drop];have:=Hm.out;have:=kL.out;omega)
   have Rk:=HK.out _ (List.getElem_mem Q9)
   obtain⟨y,hy⟩:∃ y,L[q - a]=y:=⟨_,rfl⟩
   have Hy:Hid (∀ h:q - a < L.length,L[q - a]=y):=Lib.hid (fun _=>hy)
   rw[hy]at hpk Rk
   obtain⟨⟨yk,⟨ya,yb,yc⟩,ym⟩,yt⟩:=y
   obtain⟨c0,c1,c2,c3,f0,f1,f2,f3⟩:=hpk.pair HX.out HY.out
   have hkx:=Hkx.out
   simp only at Rk hkx
   have e2:((i:Int)+(j:Int)) / 2=(q:Int):=by omega
   have hqN:q < N:=by omega
   have hmN:m < N:=by omega
   clear hpk hy hq
   have VM:=Lib.hid (Fy QW.out)
   by_cases hc:xk < yk
   ·have d1:(xk:Int) - (yk:Int) < 0:=by omega
    go_wp2_with fail
    go_still_tail 9,(by kernel_rfl)
    change wpList _ _ _ _ _ wr.drew
    have JM:Hid (CE wr.drew g rest _):=MW
    generalize wr.drew=wd at *
    clear c0 c1 c2 c3 f0 f1 f2 f3
    go_wp2_with fail
    refine (Jj xk yk (xa,xb,xc) (ya,yb,yc) wd hkx Rk).mono ?_
    rintro e w3 ⟨rfl,hb3⟩
    have Mv:=Lib.hid (JM.out.below hb3)
    have J3:=Lib.hid (EX VM.out hb3)
    clear hb3 JM VM
    go_wp2_with fail
    go_roundw
    case rel=>exact⟨i,q,rfl,rfl,hmi,hqi,by omega,HI.out,.inr ⟨Q9,by rw[Hy.out Q9];exact hc⟩,Mv.out,J3.out⟩
    case measure=>simp[intOf];omega
   ·have d1:decide ((xk:Int) - (yk:Int) < 0)=false:=by simp;omega
    have d2:¬ ((xk:Int) - (yk:Int) < 0):=by omega
    go_wp2_with fail
    go_still_tail 9,(by kernel_rfl)
    change wpList _ _ _ _ _ wr.drew
    have JM:Hid (CE wr.drew g rest _):=MW
    generalize wr.drew=wd at *
    clear c0 c1 c2 c3 f0 f1 f2 f3
    go_wp2_with fail
    refine (Jj xk yk (xa,xb,xc) (ya,yb,yc) wd hkx Rk).mono ?_
    rintro e w3 ⟨rfl,hb3⟩
    have Mv:=Lib.hid (JM.out.below hb3)
    have J3:=Lib.hid (EX VM.out hb3)
    clear hb3 JM VM
    go_wp2_with fail
    go_roundw
    case rel=>exact⟨q+1,j,by go_num,rfl,by omega,by omega,hjb,.inr ⟨by omega,by
     have e9:q+1 - a - 1=q - a:=by omega
     have:=Hy.out Q9
     simp only[e9,this];omega⟩,HJ.out,Mv.out,J3.out⟩
    case measure=>simp[intOf];omega
  ·obtain rfl:i=j:=by omega
   obtain⟨t,ht⟩:∃ t,a+t=i:=⟨i - a,by omega⟩
   have nD:i - a=t:=by omega
   have htR:t≤L.length:=by have:=Hm.out;have:=kL.out;omega
   have hso:(L.take t++((xk,(xa,xb,xc),xm),xt) :: L.drop t).Pairwise (Cq CR):=by
    refine OU L _ t htR Hs.out VL.out ?_ ?_
    ·rcases HI.out with h | ⟨h,k⟩
     ·left;omega
     ·right;simp only[nD]at h k;exact⟨h,k⟩
    ·rcases HJ.out with h | ⟨h,k⟩
     ·left;have:=Hm.out;have:=kL.out;omega
     ·right;simp only[nD]at h k;exact⟨h,k⟩
   have rO:=Lib.hid hso
   have MW:Hid (CE wr g rest (bz P L ((xk,(xa,xb,xc),xm),xt) Q L.length)):=Lib.hid (by
    have e:bz P L ((xk,(xa,xb,xc),xm),xt) Q L.length=P++L++([((xk,(xa,xb,xc),xm),xt)]++Q):=by simp[bz]
    rw[e];exact hpk)
   have UN:Hid (bz P L ((xk,(xa,xb,xc),xm),xt) Q t=P++(L.take t++((xk,(xa,xb,xc),xm),xt) :: L.drop t)++Q):=Lib.hid (by unfold bz;simp only[List.append_assoc,List.cons_append])
   have gM:Hid ((L.take t++((xk,(xa,xb,xc),xm),xt) :: L.drop t).Perm (L++[((xk,(xa,xb,xc),xm),xt)])):=Lib.hid (UJ L L _ t (List.Perm.refl _))
   have Ht:=Lib.hid ht
   clear hpk hso ht nD HI HJ
   go_wp2_with fail
   go_loopw [17] (fun kv wr=>∃ s k:Nat,kv=.int .i64 (k:Int)∧a+s=k∧t≤s∧s≤L.length∧CE wr g rest (bz P L ((xk,(xa,xb,xc),xm),xt) Q s)∧w.grownBy wr (some g)) (fun kv _=>(intOf kv).toNat)
   case atStart=>exact⟨L.length,m,rfl,by rw[kL.out];exact Hm.out,htR,Nat.le_refl _,MW.out,QW.out⟩
   case round=>
    obtain⟨s,k,rfl,hk,hst,hsL,hpk,hgr⟩:=hrel
    have UK:=Lib.hid hgr
    clear hgr
    by_cases hlt:i < k
    ·rcases s with _ | s
     ·exfalso;have:=Ht.out;omega
     obtain⟨k1,hk1⟩:∃ k1,a+s=k1:=⟨_,rfl⟩
     have hsl:s < L.length:=by omega
     have Hk:Hid (k=k1+1∧a+s=k1):=Lib.hid (by omega)
     have hkN:k < N:=by have:=Hm.out;have:=kL.out;omega
     have ANh:k1 < N:=by omega
     have e4:(k:Int) - 1=(k1:Int):=by omega
     have HX:Hid (k1=(P++L.take s).length):=Lib.hid (by rw[List.length_append,List.length_take,HP.out];omega)
     have HY:Hid (k=(P++L.take s).length+1+([]:List TE).length):=Lib.hid (by rw[←HX.out];exact Hk.out.1)
     rw[gH P L _ Q s hsl]at hpk
     have hpost:=kG P L ((xk,(xa,xb,xc),xm),xt) Q s hsl
     obtain⟨y,hy⟩:∃ y,L[s]=y:=⟨_,rfl⟩
     rw[hy]at hpk hpost
     obtain⟨⟨yk,⟨ya,yb,yc⟩,ym⟩,yt⟩:=y
     obtain⟨c0,c1,c2,c3,f0,f1,f2,f3⟩:=hpk.pair HX.out HY.out
     have gI:Hid (CE (swW wr g k k1 (.int .i64 (yk:Int)) (.slice ya yb yc) (.int .i64 (xk:Int)) (.slice xa xb xc)).drew g rest _):=Lib.hid (hpk.ACc HX.out HY.out)
     have Hgs:=Lib.hid (UL UK.out k k1 (.int .i64 (yk:Int)) (.slice ya yb yc) (.int .i64 (xk:Int)) (.slice xa xb xc))
     rw[←hpost]at gI
     unfold swW at gI Hgs
     clear hpk hy hpost hk hk1
     go_wp2_with fail
     go_region
     generalize ((((wr.setCell ⟨g,k*2,none⟩ (.int .i64 (yk:Int))).setCell ⟨g,k*2+1,none⟩ (.slice ya yb yc)).setCell ⟨g,k1*2,none⟩ (.int .i64 (xk:Int))).setCell ⟨g,k1*2+1,none⟩ (.slice xa xb xc)).drew=wq at *
     clear c0 c1 c2 c3 f0 f1 f2 f3
     go_wp2_with fail
     go_roundw
     case rel=>exact⟨s,k1,rfl,Hk.out.2,by have:=Ht.out;have:=Hk.out;omega,by omega,gI.out,Hgs.out⟩
     case measure=>have:=Hk.out;simp[intOf];omega
    ·obtain rfl:s=t:=by have:=Ht.out;omega
     obtain rfl:k=i:=by have:=Ht.out;omega
     rw[UN.out]at hpk
     have xz:=Lib.hid hpk
     clear hpk hk
     go_wp2_with fail
     refine bodyPost_ret (results_none rfl _ _ _) rfl ?_
     exact⟨rfl,⟨_,xz.out,gM.out,rO.out⟩,UK.out⟩
end Go.Proofs.YtabdianhoabhhaaGreatDoor.Cx
namespace Go.Proofs.YtabdianhoabhhaaGreatDoor.Cx
open Go Go.RowKit Go.Proofs.YtabdianhoabhhaaGreatDoor Go.Proofs.YtabdianhoabhhaaGreatDoor.SP
set_option linter.unusedVariables false
def ACe (F:Nat):Prop:=∀ (g N cap a m b:Nat) (rest:List Value) (P L R Q:List TE) (w:World),L.length+R.length≤F→CE w g rest (P++L++(R++Q))→P.length=a→a+L.length=m→m+R.length=b→1≤L.length→1≤R.length→
  L.Pairwise (Cq CR)→R.Pairwise (Cq CR)→(∀ x∈L,∀ y∈R,x.2 < y.2)→Kb L→Kb R→(P++L++(R++Q)).length=N→N≤1000000→
  Calls Tryz.prog 255 #[.slice (some ⟨g,0,none⟩) N cap,.int .i64 (a:Int),.int .i64 (m:Int),.int .i64 (b:Int),PT] w fun e w'=>e=.returned (.tuple #[])∧(∃ S',CE w' g rest (P++S'++Q)∧S'.Perm (L++R)∧S'.Pairwise (Cq CR))∧w.grownBy w' (some g)
theorem AHs (P L R Q:List TE) (k l:Nat) (h:k < L.length) (h2:l < R.length):P++L++(R++Q)=(P++L.take k)++L[k] :: ((L.drop (k+1)++R.take l)++R[l] :: (R.drop (l+1)++Q)):=by
 have e1:L=L.take k++L[k] :: L.drop (k+1):=by rw[←List.drop_eq_getElem_cons h,List.take_append_drop]
 have e2:R=R.take l++R[l] :: R.drop (l+1):=by rw[←List.drop_eq_getElem_cons h2,List.take_append_drop]
 conv=>lhs;rw[e1,e2]
 simp only[List.append_assoc,List.cons_append]
theorem kM (L1 L2 R1 R2 M1 M2:List TE) (p1:M1.Perm (L1++R1)) (p2:M2.Perm (L2++R2)) (s1:M1.Pairwise (Cq CR)) (s2:M2.Pairwise (Cq CR)) (hh:∀ x∈L1++R1,∀ y∈L2++R2,Cq CR x y) :
  (M1++M2).Perm ((L1++L2)++(R1++R2))∧(M1++M2).Pairwise (Cq CR):=by
 refine⟨(p1.append p2).trans ?_,aS M1 M2 _ _ p1 p2 s1 s2 hh⟩
 simp only[List.append_assoc]
 exact List.Perm.append_left L1 (List.perm_append_comm_assoc R1 L2 R2)
set_option maxRecDepth 100000 in
set_option maxHeartbeats 8000000 in
theorem ABW (F:Nat) (ih:ACe F) (g N cap a m b:Nat) (rest:List Value) (P L R Q:List TE) (w:World) (hF:L.length+R.length≤F+1) (h:CE w g rest (P++L++(R++Q))) (ha:P.length=a) (hm:a+L.length=m) (hb:m+R.length=b) (hL:2≤L.length) (hR:2≤R.length)
  (hsL:L.Pairwise (Cq CR)) (hsR:R.Pairwise (Cq CR)) (htag:∀ x∈L,∀ y∈R,x.2 < y.2) (hkL:Kb L) (hkR:Kb R) (hN:(P++L++(R++Q)).length=N) (RP:N≤1000000) :
  Calls Tryz.prog 255 #[.slice (some ⟨g,0,none⟩) N cap,.int .i64 (a:Int),.int .i64 (m:Int),.int .i64 (b:Int),PT] w fun e w'=>e=.returned (.tuple #[])∧(∃ S',CE w' g rest (P++S'++Q)∧S'.Perm (L++R)∧S'.Pairwise (Cq CR))∧w.grownBy w' (some g):=by
 have pY:P.length+L.length+R.length+Q.length=N:=by rw[←hN];simp;omega
 have HN3:=Lib.hid pY
 have Ih:=Lib.hid ih
 have HF:=Lib.hid hF
 have H:=Lib.hid h
 have HP:=Lib.hid ha
 have HsL:=Lib.hid hsL
 have HsR:=Lib.hid hsR
 have VL:=Lib.hid htag
 have HkL:=Lib.hid hkL
 have HkR:=Lib.hid hkR
 have hbN:b≤N:=by omega
 have hmb:m+2≤b:=by omega
 have ham:a+2≤m:=by omega
 have e1:(m:Int) - (a:Int)=((L.length:Nat):Int):=by omega
 have e0:(((L.length:Nat):Int) == 1)=false:=by simp;omega
 have e2:(b:Int) - (m:Int)=((R.length:Nat):Int):=by omega
 have e3:(((R.length:Nat):Int) == 1)=false:=by simp;omega
 obtain⟨mid,hmid⟩:∃ mid,mid=(a+b) / 2:=⟨_,rfl⟩
 have e4:((a:Int)+(b:Int)) / 2=(mid:Int):=by omega
 obtain⟨n,hn⟩:∃ n,n=mid+m:=⟨_,rfl⟩
 have e5:(mid:Int)+(m:Int)=(n:Int):=by omega
 obtain⟨p,hp⟩:∃ p,n=p+1:=⟨n - 1,by omega⟩
 have e6:(n:Int) - 1=(p:Int):=by omega
 have gP:Hid (a+b=2*mid∨a+b=2*mid+1):=Lib.hid (by omega)
 have Hn:=Lib.hid hn
 have Hp:=Lib.hid hp
 have Hm:=Lib.hid hm
 have Hb:=Lib.hid hb
 have hnN:n≤2000000:=by omega
 have hpN:p≤2000000:=by omega
 have hmN:mid≤1000000:=by omega
 clear h hN pY ha hsL hsR htag hkL hkR hb hm hL hR hmid hn hp ih hF
 generalize hll:L.length=ll at *
 have kL:=Lib.hid hll
 generalize hrl:R.length=rl at *
 have Hrl:=Lib.hid hrl
 clear hll hrl
 unfold PT
 go_enter Tryz.func255,Tryz.ntmps255
 go_upto_if 140 with fail
 clear e1 e0 e2 e3
 go_cut [20,21] from 129 to 148 (fun sv rv wx=>∃ s r:Nat,sv=.int .i64 (s:Int)∧rv=.int .i64 (r:Int)∧a≤s∧n≤s+b∧s≤r∧r≤m∧r≤mid∧(s=a∨s+b=n)∧(r=m∨r=mid)∧wx=w)
 case first=>
  by_cases hmm:mid < m
  ·have e7:(n:Int) - (b:Int)=((n - b:Nat):Int):=by have:=gP.out;have:=Hn.out;omega
   have YC:Hid (n - b+b=n):=Lib.hid (by have:=gP.out;have:=Hn.out;omega)
   generalize n - b=nb at *
   go_wp2_with fail
   go_meet
   case rel=>exact⟨nb,mid,rfl,rfl,by have:=gP.out;have:=Hn.out;have:=YC.out;omega,by have:=YC.out;omega,by have:=gP.out;have:=Hn.out;have:=YC.out;omega,by omega,Nat.le_refl _,.inr YC.out,.inr rfl,rfl⟩
  ·go_wp2_with fail
   go_meet
   case rel=>exact⟨a,m,rfl,rfl,Nat.le_refl _,by have:=gP.out;have:=Hn.out;omega,by omega,Nat.le_refl _,by omega,.inl rfl,.inl rfl,rfl⟩
 case rest=>
  obtain⟨s0,r0,rfl,rfl,k1,k2,k3,k4,k5,k6,k7,hw⟩:=hcut
  have hw:=hw.symm
  subst hw
  go_wp2_with fail
  go_loopw [20,21] (fun sv rv wr=>∃ s r:Nat,sv=.int .i64 (s:Int)∧rv=.int .i64 (r:Int)∧s0≤s∧s≤r∧r≤r0∧(s=s0∨∃ (h1:s - 1 - a < L.length) (h2:n - s - m < R.length),L[s - 1 - a].1.1≤R[n - s - m].1.1)∧
   (r=r0∨∃ (h1:r - a < L.length) (h2:n - 1 - r - m < R.length),R[n - 1 - r - m].1.1 < L[r - a].1.1)∧CE wr g rest (P++L++(R++Q))∧w.grownBy wr (some g)) (fun sv rv _=>(intOf rv - intOf sv).toNat)
  case atStart=>exact⟨s0,r0,rfl,rfl,Nat.le_refl _,k3,Nat.le_refl _,.inl rfl,.inl rfl,H.out,World.grownBy.refl _ _⟩
  case round=>
   obtain⟨s,r,rfl,rfl,hs0,Xi,hr0,hI,hJ,hpk,hgr⟩:=hrel
   have HI:=Lib.hid hI
   have HJ:=Lib.hid hJ
   have QW:=Lib.hid hgr
   have MW:=Lib.hid hpk
   clear hI hJ hgr
   by_cases hlt:s < r
   ·obtain⟨q,hq⟩:∃ q,q=(s+r) / 2:=⟨_,rfl⟩
    have hqi:s≤q:=by omega
    have hqj:q < r:=by omega
    obtain⟨z,hz⟩:∃ z,z=p - q:=⟨_,rfl⟩
    have hzp:z+q+1=n:=by have:=Hp.out;omega
    have hmz:m≤z:=by have:=Hn.out;omega
    have hzb:z < b:=by omega
    have Q9:q - a < L.length:=by have:=Hm.out;have:=kL.out;omega
    have hzl:z - m < R.length:=by have:=Hb.out;have:=Hrl.out;omega
    have Hat:=Lib.hid (AHs P L R Q (q - a) (z - m) Q9 hzl)
    rw[Hat.out]at hpk
    have HX:Hid (q=(P++L.take (q - a)).length):=Lib.hid (by rw[List.length_append,List.length_take,HP.out];omega)
    have HY:Hid (z=(P++L.take (q - a)).length+1+(L.drop (q - a+1)++R.take (z - m)).length):=Lib.hid (by rw[←HX.out,List.length_append,List.length_drop,List.length_take];have:=Hm.out;have:=kL.out;have:=Hrl.out;omega)
    have hkx:=HkL.out _ (List.getElem_mem Q9)
    have Rk:=HkR.out _ (List.getElem_mem hzl)
    obtain⟨x,hx⟩:∃ x,L[q - a]=x:=⟨_,rfl⟩
    obtain⟨y,hy⟩:∃ y,R[z - m]=y:=⟨_,rfl⟩
    have Hx:Hid (∀ h:q - a < L.length,L[q - a]=x):=Lib.hid (fun _=>hx)
    have Hy:Hid (∀ h:z - m < R.length,R[z - m]=y):=Lib.hid (fun _=>hy)
    rw[hx]at hpk hkx
    rw[hy]at hpk Rk
    obtain⟨⟨xk,⟨xa,xb,xc⟩,xm⟩,xt⟩:=x
    obtain⟨⟨yk,⟨ya,yb,yc⟩,ym⟩,yt⟩:=y
    obtain⟨c0,c1,c2,c3,f0,f1,f2,f3⟩:=hpk.pair HX.out HY.out
    simp only at Rk hkx
    have e2:((s:Int)+(r:Int)) / 2=(q:Int):=by omega
    have e3:(p:Int) - (q:Int)=(z:Int):=by omega
    have hw:IntKind.i64.wrap (z:Int)=(z:Int):=IntWalk.i64_in _ (by omega)
    have hqN:q < N:=by omega
    have hzN:z < N:=by omega
    have Hz:Hid (n - (q+1) - m=z - m∧n - 1 - q - m=z - m∧q+1 - 1 - a=q - a):=Lib.hid (by omega)
    clear hpk hx hy hq hz
    have VM:=Lib.hid (Fy QW.out)
    by_cases hc:yk < xk
    ·have d1:(yk:Int) - (xk:Int) < 0:=by omega
     go_wp2_with fail
     go_still_tail 11,(by kernel_rfl)
     change wpList _ _ _ _ _ wr.drew
     have JM:Hid (CE wr.drew g rest _):=MW
     generalize wr.drew=wd at *
     clear c0 c1 c2 c3 f0 f1 f2 f3
     go_wp2_with fail
     refine (Jj yk xk (ya,yb,yc) (xa,xb,xc) wd Rk hkx).mono ?_
     rintro e w3 ⟨rfl,hb3⟩
     have Mv:=Lib.hid (JM.out.below hb3)
     have J3:=Lib.hid (EX VM.out hb3)
     clear hb3 JM VM
     go_wp2_with fail
     go_roundw
     case rel=>exact⟨s,q,rfl,rfl,hs0,hqi,by omega,HI.out,.inr ⟨Q9,by rw[Hz.out.2.1];exact hzl,by
      have a1:=Hz.out.2.1
      have a2:=Hy.out hzl
      have a3:=Hx.out Q9
      simp only[a1,a2,a3];exact hc⟩,Mv.out,J3.out⟩
     case measure=>simp[intOf];omega
    ·have d1:decide ((yk:Int) - (xk:Int) < 0)=false:=by simp;omega
     have d2:¬ ((yk:Int) - (xk:Int) < 0):=by omega
     go_wp2_with fail
     go_still_tail 11,(by kernel_rfl)
     change wpList _ _ _ _ _ wr.drew
     have JM:Hid (CE wr.drew g rest _):=MW
     generalize wr.drew=wd at *
     clear c0 c1 c2 c3 f0 f1 f2 f3
     go_wp2_with fail
     refine (Jj yk xk (ya,yb,yc) (xa,xb,xc) wd Rk hkx).mono ?_
     rintro e w3 ⟨rfl,hb3⟩
     have Mv:=Lib.hid (JM.out.below hb3)
     have J3:=Lib.hid (EX VM.out hb3)
     clear hb3 JM VM
     go_wp2_with fail
     go_roundw
     case rel=>exact⟨q+1,r,by go_num,rfl,by omega,by omega,hr0,.inr ⟨by rw[Hz.out.2.2];exact Q9,by rw[Hz.out.1];exact hzl,by
      have a1:=Hz.out.1
      have a4:=Hz.out.2.2
      have a2:=Hy.out hzl
      have a3:=Hx.out Q9
      simp only[a1,a4,a2,a3];omega⟩,HJ.out,Mv.out,J3.out⟩
     case measure=>simp[intOf];omega
   ·obtain rfl:s=r:=by omega
    have hh1:s - a=0∨mid - s=R.length∨∃ (h1:s - a - 1 < L.length) (h2:mid - s < R.length),Cq CR L[s - a - 1] R[mid - s]:=by
     rcases HI.out with h | ⟨h1,h2,h3⟩
     ·rcases k6 with k | k
      ·left;omega
      ·right;left;have:=Hn.out;have:=Hb.out;have:=Hrl.out;omega
     ·right;right
      have a1:s - a - 1=s - 1 - a:=by omega
      have a2:mid - s=n - s - m:=by have:=Hn.out;omega
      simp only[a1,a2]
      refine⟨h1,h2,?_⟩
      have:=VL.out _ (List.getElem_mem h1) _ (List.getElem_mem h2)
      unfold Cq CR;omega
    have hh2:mid - s=0∨s - a=L.length∨∃ (h1:mid - s - 1 < R.length) (h2:s - a < L.length),Cq CR R[mid - s - 1] L[s - a]:=by
     rcases HJ.out with h | ⟨h1,h2,h3⟩
     ·rcases k7 with k | k
      ·right;left;have:=Hm.out;have:=kL.out;omega
      ·left;omega
     ·right;right
      have a2:mid - s - 1=n - 1 - s - m:=by have:=Hn.out;omega
      simp only[a2]
      exact⟨h2,h1,.inl h3⟩
    have ACf:=halves (le:=Cq CR) (fun a b c=>OV CR a b c) L R (s - a) (mid - s) (by have:=Hm.out;have:=kL.out;omega) (by have:=Hn.out;have:=Hb.out;have:=Hrl.out;omega) HsL.out HsR.out hh1 hh2
    have hL:L=L.take (s - a)++L.drop (s - a):=(List.take_append_drop _ _).symm
    have hR:R=R.take (mid - s)++R.drop (mid - s):=(List.take_append_drop _ _).symm
    have l1:(L.take (s - a)).length=s - a:=by rw[List.length_take];have:=Hm.out;have:=kL.out;omega
    have l2:(L.drop (s - a)).length=m - s:=by rw[List.length_drop];have:=Hm.out;have:=kL.out;omega
    have l3:(R.take (mid - s)).length=mid - s:=by rw[List.length_take];have:=Hn.out;have:=Hb.out;have:=Hrl.out;omega
    have l4:(R.drop (mid - s)).length=b - (n - s):=by rw[List.length_drop];have:=Hn.out;have:=Hb.out;have:=Hrl.out;omega
    generalize L.take (s - a)=L1 at *
    generalize L.drop (s - a)=L2 at *
    generalize R.take (mid - s)=R1 at *
    generalize R.drop (mid - s)=R2 at *
    obtain⟨en,hen⟩:∃ en,en=n - s:=⟨_,rfl⟩
    have e8:(n:Int) - (s:Int)=(en:Int):=by omega
    rw[←hen]at l4
    have Hen:Hid (en=m+(mid - s)):=Lib.hid (by have:=Hn.out;omega)
    have fD:=Lib.hid l1
    have wQ:=Lib.hid l2
    have bq:=Lib.hid l3
    have Hl4:=Lib.hid l4
    have HL:=Lib.hid hL
    have HR:=Lib.hid hR
    have ACg:=Lib.hid ACf
    have ANi:a≤s:=by omega
    have hsm:s≤m:=by omega
    have AMb:s≤mid:=by omega
    have ANj:en≤b:=by have:=Hen.out;have:=Hn.out;omega
    have ANk:m≤en:=by have:=Hen.out;omega
    clear hh1 hh2 ACf hL hR l1 l2 l3 l4 hen HI HJ k1 k2 k3 k4 k5 k6 k7 hpk
    have AHt:CE wr g rest ((P++L1)++L2++(R1++(R2++Q))):=by
     have:=MW.out
     rw[HL.out,HR.out]at this
     simpa only[List.append_assoc] using this
    have AEr:=Lib.hid AHt
    have HNN:Hid (((P++L1)++L2++(R1++(R2++Q))).length=N):=Lib.hid (by
     have h1:=HN3.out;have h2:=congrArg List.length HL.out;have h3:=congrArg List.length HR.out;have h4:=kL.out;have h5:=Hrl.out
     simp only[List.length_append]at h2 h3⊢
     omega)
    have Hp1:Hid ((P++L1).length=s):=Lib.hid (by rw[List.length_append,HP.out,fD.out];omega)
    clear AHt MW H
    go_upto_region 39 with fail
    clear e8
    go_cut [185] from 147 to 185 (fun v wx=>v=.bool (decide (s < m∧m < en))∧wx=wr)
    case first=>
     by_cases a1:s < m
     ·by_cases a2:m < en
      ·go_wp2_with fail
       go_meet
       case rel=>exact⟨by simp[a1,a2],rfl⟩
      ·go_wp2_with fail
       go_meet
       case rel=>exact⟨by simp[a2],rfl⟩
     ·go_wp2_with fail
      go_meet
      case rel=>exact⟨by simp[a1],rfl⟩
    case rest=>
     obtain⟨rfl,hw⟩:=hcut
     have hw:=hw.symm
     subst hw
     go_upto_if 185 with fail
     go_cut [20] from 178 to 191 (fun v wx=>v=.int .i64 (s:Int)∧CE wx g rest (P++L1++(R1++(L2++(R2++Q))))∧w.grownBy wx (some g))
     case first=>
      by_cases hr:s < m∧m < en
      ·rw[decide_eq_true hr]
       go_wp2_with fail
       refine (gN g N cap s m en rest (P++L1) L2 R1 (R2++Q) _ wr AEr.out Hp1.out (by rw[wQ.out];omega) (by rw[bq.out];exact Hen.out.symm) (by rw[wQ.out];omega) (by rw[bq.out];have:=Hen.out;omega) HNN.out RP).mono ?_
       rintro e w5 ⟨rfl,hp5,hg5⟩
       have Hp5:=Lib.hid hp5
       have Hg5:=Lib.hid (QW.out.trans hg5)
       clear hp5 hg5
       go_wp2_with fail
       go_meet
       case rel=>exact⟨rfl,by have:=Hp5.out;simpa only[List.append_assoc] using this,Hg5.out⟩
      ·rw[decide_eq_false hr]
       go_wp2_with fail
       go_meet
       case rel=>
        refine⟨rfl,?_,QW.out⟩
        have h1:=AEr.out
        have h2:L2=[]∨R1=[]:=by
         rcases Nat.lt_or_ge s m with h | h
         ·right;exact List.eq_nil_of_length_eq_zero (by rw[bq.out];have:=Hen.out;omega)
         ·left;exact List.eq_nil_of_length_eq_zero (by rw[wQ.out];omega)
        rcases h2 with rfl | rfl
        ·simpa only[List.append_assoc,List.nil_append] using h1
        ·simpa only[List.append_assoc,List.nil_append] using h1
     case rest=>
      obtain⟨rfl,ja,IJ⟩:=hcut
      have Hp6:=Lib.hid ja
      have VS:=Lib.hid IJ
      clear ja IJ AEr QW
      generalize wc=w6 at *
      go_upto_region 41 with fail
      go_cut [199] from 186 to 199 (fun v wx=>v=.bool (decide (a < s∧s < mid))∧wx=w6)
      case first=>
       by_cases a1:a < s
       ·by_cases a2:s < mid
        ·go_wp2_with fail
         go_meet
         case rel=>exact⟨by simp[a1,a2],rfl⟩
        ·go_wp2_with fail
         go_meet
         case rel=>exact⟨by simp[a2],rfl⟩
       ·go_wp2_with fail
        go_meet
        case rel=>exact⟨by simp[a1],rfl⟩
      case rest=>
       obtain⟨rfl,hw⟩:=hcut
       have hw:=hw.symm
       subst hw
       go_upto_if 199 with fail
       go_cut [20] from 192 to 205 (fun v wx=>v=.int .i64 (s:Int)∧(∃ M1,CE wx g rest (P++M1++(L2++(R2++Q)))∧M1.Perm (L1++R1)∧M1.Pairwise (Cq CR))∧w.grownBy wx (some g))
       case first=>
        by_cases hr:a < s∧s < mid
        ·rw[decide_eq_true hr]
         go_wp2_with fail
         refine (Ih.out g N cap a s mid rest P L1 R1 (L2++(R2++Q)) w6 (by rw[fD.out,bq.out];have:=HF.out;have:=gP.out;have:=Hm.out;have:=Hb.out;omega) Hp6.out HP.out (by rw[fD.out];omega) (by rw[bq.out];omega) (by rw[fD.out];omega) (by rw[bq.out];omega)
          ((EO _ _).1 (HL.out▸HsL.out)).1 ((EO _ _).1 (HR.out▸HsR.out)).1 (fun x hx y hy=>VL.out x (by rw[HL.out];exact List.mem_append_left _ hx) y (by rw[HR.out];exact List.mem_append_left _ hy)) (Kb.left (HL.out▸HkL.out)) (Kb.left (HR.out▸HkR.out)) (by rw[←HNN.out];simp;omega) RP).mono ?_
         rintro e w7 ⟨rfl,⟨M1,mr,hpe,hso⟩,ET⟩
         have RV:=Lib.hid mr
         have Hg7:=Lib.hid (VS.out.trans ET)
         have gM:=Lib.hid hpe
         have rO:=Lib.hid hso
         clear mr ET hpe hso
         go_wp2_with fail
         go_meet
         case rel=>exact⟨rfl,⟨M1,RV.out,gM.out,rO.out⟩,Hg7.out⟩
        ·rw[decide_eq_false hr]
         go_wp2_with fail
         go_meet
         case rel=>
          refine⟨rfl,⟨L1++R1,by have:=Hp6.out;simpa only[List.append_assoc] using this,List.Perm.refl _,?_⟩,VS.out⟩
          rcases Nat.lt_or_ge a s with h | h
          ·have:R1=[]:=List.eq_nil_of_length_eq_zero (by rw[bq.out];omega)
           subst this
           rw[List.append_nil];exact ((EO _ _).1 (HL.out▸HsL.out)).1
          ·have:L1=[]:=List.eq_nil_of_length_eq_zero (by rw[fD.out];omega)
           subst this
           rw[List.nil_append];exact ((EO _ _).1 (HR.out▸HsR.out)).1
       case rest=>
        obtain⟨rfl,⟨M1,hp8,hpe,hso⟩,Dj⟩:=hcut
        have Hp8:=Lib.hid hp8
        have MH:=Lib.hid Dj
        have gM:=Lib.hid hpe
        have rO:=Lib.hid hso
        have HM1:Hid ((P++M1).length=mid):=Lib.hid (by rw[List.length_append,HP.out,hpe.length_eq,List.length_append,fD.out,bq.out];omega)
        clear hp8 Dj hpe hso Hp6 VS
        generalize wc=w8 at *
        go_upto_region 43 with fail
        go_cut [213] from 200 to 213 (fun v wx=>v=.bool (decide (mid < en∧en < b))∧wx=w8)
        case first=>
         by_cases a1:mid < en
         ·by_cases a2:en < b
          ·go_wp2_with fail
           go_meet
           case rel=>exact⟨by simp[a1,a2],rfl⟩
          ·go_wp2_with fail
           go_meet
           case rel=>exact⟨by simp[a2],rfl⟩
         ·go_wp2_with fail
          go_meet
          case rel=>exact⟨by simp[a1],rfl⟩
        case rest=>
         obtain⟨rfl,hw⟩:=hcut
         have hw:=hw.symm
         subst hw
         by_cases hr:mid < en∧en < b
         ·rw[decide_eq_true hr]
          go_wp2_with fail
          refine (Ih.out g N cap mid en b rest (P++M1) L2 R2 Q w8 (by rw[wQ.out,Hl4.out];have:=HF.out;have:=gP.out;have:=Hm.out;have:=Hb.out;have:=Hen.out;omega) (by have:=Hp8.out;simpa only[List.append_assoc] using this) HM1.out (by rw[wQ.out];have:=Hen.out;omega) (by rw[Hl4.out];omega) (by rw[wQ.out];have:=Hen.out;omega) (by rw[Hl4.out];omega)
           ((EO _ _).1 (HL.out▸HsL.out)).2.1 ((EO _ _).1 (HR.out▸HsR.out)).2.1 (fun x hx y hy=>VL.out x (by rw[HL.out];exact List.mem_append_right _ hx) y (by rw[HR.out];exact List.mem_append_right _ hy)) (Kb.right (HL.out▸HkL.out)) (Kb.right (HR.out▸HkR.out)) (by have h1:=gM.out.length_eq;rw[←HNN.out];simp only[List.length_append]at h1⊢;omega) RP).mono ?_
          rintro e w9 ⟨rfl,⟨M2,hp9,AHu,AHv⟩,rG⟩
          have Hp9:=Lib.hid hp9
          have Hg9:=Lib.hid (MH.out.trans rG)
          have Oy:=Lib.hid (kM L1 L2 R1 R2 M1 M2 gM.out AHu rO.out AHv ACg.out)
          clear hp9 rG AHu AHv
          go_wp2_with fail
          go_end0
          exact⟨rfl,⟨M1++M2,by have:=Hp9.out;simpa only[List.append_assoc] using this,by rw[HL.out,HR.out];exact Oy.out.1,Oy.out.2⟩,Hg9.out⟩
         ·rw[decide_eq_false hr]
          have Oy:=Lib.hid (kM L1 L2 R1 R2 M1 (L2++R2) gM.out (List.Perm.refl _) rO.out (by
           rcases Nat.lt_or_ge mid en with h | h
           ·have:R2=[]:=List.eq_nil_of_length_eq_zero (by rw[Hl4.out];omega)
            subst this
            rw[List.append_nil];exact ((EO _ _).1 (HL.out▸HsL.out)).2.1
           ·have:L2=[]:=List.eq_nil_of_length_eq_zero (by rw[wQ.out];have:=Hen.out;omega)
            subst this
            rw[List.nil_append];exact ((EO _ _).1 (HR.out▸HsR.out)).2.1) ACg.out)
          go_wp2_with fail
          go_end0
          exact⟨rfl,⟨M1++(L2++R2),by have:=Hp8.out;simpa only[List.append_assoc] using this,by rw[HL.out,HR.out];exact Oy.out.1,Oy.out.2⟩,MH.out⟩
theorem kJ:∀ F,ACe F:=by
 intro F
 induction F with
 | zero=>intro g N cap a m b rest P L R Q w hF;intros;omega
 | succ F ih=>
  intro g N cap a m b rest P L R Q w hF h ha hm hb hL hR hsL hsR htag hkL hkR hN RP
  by_cases h1:L.length=1
  ·obtain⟨x,rfl⟩:=List.length_eq_one_iff.1 h1
   exact AEp g N cap a m b rest P R Q x w h ha hm hb hR hsR (fun y hy=>htag x (by simp) y hy) (hkL x (by simp)) hkR hN RP
  ·by_cases h2:R.length=1
   ·obtain⟨x,rfl⟩:=List.length_eq_one_iff.1 h2
    exact AEq g N cap a m b rest P L Q x w h ha hm hb (by omega) hsL (fun y hy=>htag y hy x (by simp)) (hkR x (by simp)) hkL hN RP
   ·exact ABW F ih g N cap a m b rest P L R Q w hF h ha hm hb (by omega) (by omega) hsL hsR htag hkL hkR hN RP
end Go.Proofs.YtabdianhoabhhaaGreatDoor.Cx
namespace Go.Proofs.YtabdianhoabhhaaGreatDoor.Cx
open Go Go.RowKit Go.Proofs.YtabdianhoabhhaaGreatDoor Go.Proofs.YtabdianhoabhhaaGreatDoor.SP
set_option linter.unusedVariables false
theorem Ahead.len {bs:Nat} {s0 s:List TE} (h:Ahead CR bs s0 s):s.Perm s0:=by
 have:=(h [] [] (Ch.nil CR bs)).perm
 simpa using this
set_option maxRecDepth 100000 in
set_option maxHeartbeats 8000000 in
theorem gL (g N cap:Nat) (rest:List Value) (d:List TE) (w:World) (h:CE w g rest d) (hN:d.length=N) (RP:N≤1000000) (hr:Ja d) (hk:Kb d) :
  Calls Tryz.prog 249 #[.slice (some ⟨g,0,none⟩) N cap,.int .i64 (N:Int),PT] w fun e w'=>e=.returned (.tuple #[])∧(∃ d',CE w' g rest d'∧d'.Perm d∧d'.Pairwise (Cq CR))∧w.grownBy w' (some g):=by
 have H:=Lib.hid h
 have HN:=Lib.hid hN
 have Hr:=Lib.hid hr
 have Hk:=Lib.hid hk
 clear h hN hr hk
 unfold PT
 go_enter Tryz.func249,Tryz.ntmps249
 go_wp2_with fail
 go_loopw [7,8] (fun av bv wr=>∃ (a:Nat) (S0 S D:List TE),av=.int .i64 (a:Int)∧bv=.int .i64 ((a:Int)+20)∧d=S0++D∧S.length=a∧S.length+D.length=N∧Ahead CR 20 S0 S∧CE wr g rest (S++D)∧w.grownBy wr (some g)) (fun _ bv _=>N+20 - (intOf bv).toNat)
 case atStart=>exact⟨0,[],[],d,rfl,rfl,rfl,rfl,by simpa using HN.out,Ahead.nil CR 20,H.out,World.grownBy.refl _ _⟩
 case round=>
  obtain⟨a,S0,S,D,rfl,rfl,hd,hS,hSD,hah,hpk,hgr⟩:=hrel
  have Hd:=Lib.hid hd
  have HS:=Lib.hid hS
  have Ye:=Lib.hid hSD
  have Hah:=Lib.hid hah
  have MW:=Lib.hid hpk
  have QW:=Lib.hid hgr
  have haN:a≤N:=by omega
  have HrD:Hid (Ja D):=Lib.hid (Ja.right (hd▸Hr.out))
  have HkD:Hid (Kb D):=Lib.hid (Kb.right (hd▸Hk.out))
  clear hd hS hSD hah hpk hgr
  by_cases hlt:a+20≤N
  ·have hD:D=D.take 20++D.drop 20:=(List.take_append_drop _ _).symm
   have l1:(D.take 20).length=20:=by rw[List.length_take];have:=Ye.out;have:=HS.out;omega
   have HD:=Lib.hid hD
   have fD:=Lib.hid l1
   generalize D.take 20=D1 at *
   generalize D.drop 20=D2 at *
   clear hD l1
   have Hc:=Lib.hid (Nh g N cap a (a+20) rest S D1 D2 wr (by have:=MW.out;rw[HD.out]at this;rw[List.append_assoc];exact this) HS.out (by rw[fD.out]) (Ja.left (HD.out▸HrD.out)) (Kb.left (HD.out▸HkD.out)) (by have h1:=congrArg List.length HD.out;have:=Ye.out;simp only[List.length_append]at h1⊢;omega) RP)
   have e1:(a:Int)+20=((a+20:Nat):Int):=by omega
   obtain⟨b,hb⟩:∃ b,a+20=b:=⟨_,rfl⟩
   rw[hb]at Hc e1 hlt
   have Hb:=Lib.hid hb
   rw[e1]
   have hle:(b:Int)≤(N:Int):=by omega
   clear hb e1
   go_wp2_with fail
   refine (Hc.out).mono ?_
   rintro e w2 ⟨rfl,⟨S',hp2,hpe,hso⟩,hg2⟩
   have XL:=Lib.hid hp2
   have Q0:=Lib.hid (QW.out.trans hg2)
   have gM:=Lib.hid hpe
   have rO:=Lib.hid hso
   clear hp2 hg2 hpe hso
   go_wp2_with fail
   go_roundw
   case rel=>
    have a1:=gM.out.length_eq;have a2:=fD.out;have a3:=HS.out;have a4:=Hb.out;have a5:=Ye.out;have a6:=congrArg List.length HD.out
    rw[List.length_append]at a6
    exact⟨b,S0++D1,S++S',D2,rfl,rfl,by rw[Hd.out,HD.out,List.append_assoc],by rw[List.length_append];omega,by rw[List.length_append];omega,Ahead.more CR Hah.out (by omega) gM.out rO.out,XL.out,Q0.out⟩
   case measure=>have:=Hb.out;simp[intOf];omega
  ·have Hc:=Lib.hid (Nh g N cap a N rest S D [] wr (by rw[List.append_nil];exact MW.out) HS.out (by have:=Ye.out;have:=HS.out;omega) HrD.out HkD.out (by have:=Ye.out;simp only[List.length_append,List.length_nil];omega) RP)
   have hle:¬ ((a:Int)+20≤(N:Int)):=by omega
   go_wp2_with fail
   refine (Hc.out).mono ?_
   rintro e w2 ⟨rfl,⟨S',hp2,hpe,hso⟩,hg2⟩
   rw[List.append_nil]at hp2
   have XL:=Lib.hid hp2
   have Q0:=Lib.hid (QW.out.trans hg2)
   have Hch:Hid (Ch CR 20 d (S++S')):=Lib.hid (by rw[Hd.out];exact Hah.out _ _ (.last D S' (by rw[hpe.length_eq];have:=Ye.out;have:=HS.out;omega) hpe hso))
   clear hp2 hg2 hpe hso Hc
   go_wp2_with fail
   clear Hd HS Ye Hah MW QW haN HrD HkD hle
   go_loopw [6] (fun bv wr=>∃ (bs:Nat) (d':List TE),bv=.int .i64 (bs:Int)∧1≤bs∧bs≤2000000∧Ch CR bs d d'∧CE wr g rest d'∧w.grownBy wr (some g)) (fun bv _=>N - (intOf bv).toNat)
   case atStart=>exact⟨20,_,rfl,by omega,by omega,Hch.out,XL.out,Q0.out⟩
   case round=>
    obtain⟨bs,d',rfl,hb1,hb2,hch,hpk,hgr⟩:=hrel
    have Hch:=Lib.hid hch
    have MW:=Lib.hid hpk
    have QW:=Lib.hid hgr
    have Hlen:Hid (d'.length=N):=Lib.hid (by rw[hch.perm.length_eq];exact HN.out)
    clear hch hpk hgr
    by_cases hbN:bs < N
    ·go_wp2_with fail
     go_loopw [7,8] (fun av bv wr=>∃ (a b:Nat) (S0 S D0 D:List TE),av=.int .i64 (a:Int)∧bv=.int .i64 (b:Int)∧b=a+2*bs∧d=S0++D0∧S.length=a∧S.length+D.length=N∧Ahead CR (2*bs) S0 S∧Ch CR bs D0 D∧CE wr g rest (S++D)∧w.grownBy wr (some g)) (fun _ bv _=>N+2*bs - (intOf bv).toNat)
     case atStart=>exact⟨0,2*bs,[],[],d,d',rfl,int_eq (by omega),by omega,rfl,rfl,by simpa using Hlen.out,Ahead.nil CR _,Hch.out,MW.out,QW.out⟩
     case round=>
      obtain⟨a,b,S0,S,D0,D,rfl,rfl,hb,hd,hS,hSD,hah,hch,hpk,hgr⟩:=hrel
      have Hd:=Lib.hid hd
      have HS:=Lib.hid hS
      have Ye:=Lib.hid hSD
      have Hah:=Lib.hid hah
      have AEj:=Lib.hid hch
      have aR:=Lib.hid hpk
      have AEk:=Lib.hid hgr
      have HB:=Lib.hid hb
      have haN:a≤N:=by omega
      have HrD:Hid (Ja D0):=Lib.hid (Ja.right (hd▸Hr.out))
      have HkD:Hid (Kb D):=Lib.hid ((Kb.right (hd▸Hk.out)).perm hch.perm)
      clear hd hS hSD hah hch hpk hgr hb
      by_cases hlt:b≤N
      ·obtain⟨s0,s,r0,r,q1,q2,q3,q4,q5,q6⟩:=Ch.split CR AEj.out (by have:=HB.out;have:=Ye.out;have:=HS.out;omega) (by omega)
       obtain⟨t0,t,u0,u,y1,y2,y3,y4,y5,y6⟩:=Ch.split CR q6 (by have:=HB.out;have:=Ye.out;have:=HS.out;have h1:=congrArg List.length q2;rw[List.length_append]at h1;omega) (by omega)
       subst q1 q2 y1 y2
       obtain⟨m,hm⟩:∃ m,a+bs=m:=⟨_,rfl⟩
       have em:(a:Int)+(bs:Int)=(m:Int):=by omega
       have Hm:=Lib.hid hm
       have fD:=Lib.hid q3
       have wQ:=Lib.hid y3
       have sW:=Lib.hid (And.intro q4 y4)
       have ALD:=Lib.hid y6
       have Hc:=Lib.hid (kJ (s.length+t.length) g N cap a m b rest S s t u wr (Nat.le_refl _) (by have:=aR.out;simpa only[List.append_assoc] using this) HS.out (by rw[q3];exact hm) (by rw[y3];have:=HB.out;omega) (by omega) (by omega) q5 y5
        (Ja.cross (a:=s0) (b:=t0) (by have:=HrD.out;rw[←List.append_assoc]at this;exact Ja.left this) q4 y4) (Kb.left HkD.out) (Kb.left (Kb.right HkD.out)) (by have:=Ye.out;simp only[List.length_append]at this⊢;omega) RP)
       have hmN:m≤N:=by have:=HB.out;omega
       clear hm q3 q4 q5 q6 y3 y4 y5 y6
       go_wp2_with fail
       refine (Hc.out).mono ?_
       rintro e w4 ⟨rfl,⟨M,Ro,hpe,hso⟩,hg4⟩
       have Hp4:=Lib.hid Ro
       have J3:=Lib.hid (AEk.out.trans hg4)
       have gM:=Lib.hid hpe
       have rO:=Lib.hid hso
       clear Ro hg4 hpe hso
       go_wp2_with fail
       go_roundw
       case rel=>
        have a1:=gM.out.length_eq;have a2:=fD.out;have a3:=HS.out;have a4:=HB.out;have a5:=Ye.out;have a6:=wQ.out
        rw[List.length_append]at a1
        simp only[List.length_append]at a5
        exact⟨b,b+2*bs,S0++(s0++t0),S++M,u0,u,rfl,int_eq (by omega),rfl,by rw[Hd.out];simp only[List.append_assoc],by rw[List.length_append];omega,by rw[List.length_append];omega,Ahead.more CR Hah.out (by omega) (gM.out.trans (sW.out.1.append sW.out.2)) rO.out,ALD.out,Hp4.out,J3.out⟩
       case measure=>have:=HB.out;simp[intOf];omega
      ·obtain⟨m,hm⟩:∃ m,a+bs=m:=⟨_,rfl⟩
       have em:(a:Int)+(bs:Int)=(m:Int):=by omega
       have Hm:=Lib.hid hm
       by_cases hmN:m < N
       ·obtain⟨s0,s,r0,r,q1,q2,q3,q4,q5,q6⟩:=Ch.split CR AEj.out (by have:=Ye.out;have:=HS.out;omega) (by omega)
        subst q1 q2
        have hrl:r.length < bs:=by have h1:=Ye.out;have h2:=HS.out;have h3:=HB.out;simp only[List.length_append]at h1;omega
        obtain⟨p1,p2⟩:=Ch.small CR q6 (by omega)
        have fD:=Lib.hid q3
        have sW:=Lib.hid (And.intro q4 p1)
        have Hc:=Lib.hid (kJ (s.length+r.length) g N cap a m N rest S s r [] wr (Nat.le_refl _) (by have:=aR.out;simpa only[List.append_assoc,List.append_nil] using this) HS.out (by rw[q3];exact hm) (by have h1:=Ye.out;have:=HS.out;simp only[List.length_append]at h1;omega) (by omega) (by have h1:=Ye.out;have:=HS.out;simp only[List.length_append]at h1;omega) q5 p2
         (Ja.cross (a:=s0) (b:=r0) HrD.out q4 p1) (Kb.left HkD.out) (Kb.right HkD.out) (by have:=Ye.out;simp only[List.length_append,List.length_nil]at this⊢;omega) RP)
        have Hrl:=Lib.hid hrl
        clear hm q3 q4 q5 q6 p1 p2 hrl
        go_wp2_with fail
        refine (Hc.out).mono ?_
        rintro e w4 ⟨rfl,⟨M,Ro,hpe,hso⟩,hg4⟩
        rw[List.append_nil]at Ro
        have Hp4:=Lib.hid Ro
        have J3:=Lib.hid (AEk.out.trans hg4)
        have UN:Hid (Ch CR (2*bs) d (S++M)):=Lib.hid (by
         rw[Hd.out]
         refine Hah.out _ _ (.last _ M ?_ (hpe.trans (sW.out.1.append sW.out.2)) hso)
         rw[hpe.length_eq,List.length_append];have:=fD.out;have:=Hrl.out;omega)
        clear Ro hg4 hpe hso
        go_wp2_with fail
        go_roundw
        case rel=>exact⟨2*bs,_,int_eq (by omega),by omega,by omega,UN.out,Hp4.out,J3.out⟩
        case measure=>simp[intOf];omega
       ·have hDl:D.length≤bs:=by have:=Ye.out;have:=HS.out;omega
        obtain⟨p1,p2⟩:=Ch.small CR AEj.out hDl
        have UN:Hid (Ch CR (2*bs) d (S++D)):=Lib.hid (by rw[Hd.out];exact Hah.out _ _ (.last _ D (by omega) p1 p2))
        clear hm p1 p2
        go_wp2_with fail
        go_roundw
        case rel=>exact⟨2*bs,_,int_eq (by omega),by omega,by omega,UN.out,aR.out,AEk.out⟩
        case measure=>simp[intOf];omega
    ·obtain⟨p1,p2⟩:=Ch.small CR Hch.out (by rw[Hlen.out];omega)
     have Hp1:=Lib.hid p1
     have XL:=Lib.hid p2
     clear p1 p2
     go_wp2_with fail
     go_end0
     exact⟨rfl,⟨d',MW.out,Hp1.out,XL.out⟩,QW.out⟩
def CP (e:El):List Value:=[nv e.1,Cm e.2.1]
def RB (w:World) (g:Nat) (rest:List Value) (l:List El):Prop:=AV w g 292 (l.flatMap CP++rest).toArray
theorem yD (w:World) (g:Nat) (rest:List Value) (d:List TE):CE w g rest d↔RB w g rest (d.map (·.1)):=by
 unfold CE RB
 rw[List.flatMap_map];rfl
set_option maxHeartbeats 800000 in
theorem UO (g N cap:Nat) (rest:List Value) (l:List El) (w:World) (h:RB w g rest l) (hN:l.length=N) (RP:N≤1000000) (hk:∀ e∈l,e.1≤1152921504606846976) :
  Calls Tryz.prog 226 #[.slice (some ⟨g,0,none⟩) N cap,PT] w fun e w'=>e=.returned (.tuple #[])∧RB w' g rest (CS CR l)∧w.grownBy w' (some g):=by
 have Hc:=Lib.hid (gL g N cap rest l.zipIdx w ((yD w g rest _).2 (by rw[List.zipIdx_map_fst];exact h)) (by simpa using hN) RP (aT l 0) (fun e he=>hk e.1 (by
  have:=List.mem_map_of_mem (f:=(·.1)) he
  rwa [List.zipIdx_map_fst]at this)))
 clear h hN hk
 unfold PT at *
 go_enter Tryz.func226,Tryz.ntmps226
 go_wp2_with fail
 refine (Hc.out).mono ?_
 rintro e w2 ⟨rfl,⟨d',hp,hpe,hso⟩,hg⟩
 have Hp:Hid (RB w2 g rest (CS CR l)):=Lib.hid (by
  rw[←RA CR l d' hpe hso];exact (yD _ _ _ _).1 hp)
 have Hg:=Lib.hid hg
 clear hp hpe hso hg
 go_wp2_with fail
 go_end0
 exact⟨rfl,Hp.out,Hg.out⟩
end Go.Proofs.YtabdianhoabhhaaGreatDoor.Cx
namespace Go.Proofs.YtabdianhoabhhaaGreatDoor.sw
open Go Go.RowKit Go.Proofs.YtabdianhoabhhaaGreatDoor
set_option linter.unusedVariables false
theorem ty:Bj Tryz.prog 89 3 (.int .i64 0) 1 8:=⟨Tryz.underlying89,by kernel_rfl,rfl,by omega⟩
set_option maxRecDepth 100000 in
set_option maxHeartbeats 400000 in
theorem Ei (A:Option Addr) (n c:Nat) (cs:List Value) (w:World) (hl:cs.length=n*1) (hA:AQ w A cs) (h0:A=none→n=0) (h1:∀ u∈cs,u.oneCell'=true) (hn:n≤maxLen) (hb:n*8≤140737488355328) :
  Calls Tryz.prog 250 #[.slice A n c] w fun e w'=>∃ v,e=.returned v∧w'.ownsRow w.heap.size 3 1 v n cs∧Below w.heap.size w w':=by
 have hq:=fun (w:World) (a:Option Addr) (l c:Nat)=>Lib.run_eql_slice_nil (P:=Tryz.prog) w 89 3 a l c 0 0 Tryz.underlying89
 rcases A with _ | ad
 ·obtain rfl:=h0 rfl
  have hcs:cs=[]:=List.eq_nil_of_length_eq_zero (by omega)
  subst hcs
  clear hA h0 h1 hl hn hb
  go_enter Tryz.func250,Tryz.ntmps250
  go_wp2_with fail
  go_ret
  exact⟨_,rfl,World.ownsRow_nil _ _ _ _,Below.refl _ _⟩
 ·have DK:Hid ((w.alloc (.cells #[] 3)).ownsRow w.heap.size 3 1 (.slice (some ⟨w.heap.size,0,none⟩) 0 0) 0 []):=Lib.hid (Gw _ _ _ _ w.heap.size 0 #[] (Nat.le_refl _) (heap_alloc_new w _) (by unfold maxLen;omega) (by simp))
  have NA:=Lib.hid (hA.alloc (.cells #[] 3))
  have Hb:=Lib.hid ((Below.refl w.heap.size w).alloc (Nat.le_refl _) (.cells #[] 3))
  have Hl:=Lib.hid hl
  have H1:=Lib.hid h1
  have Hn:Hid (0+n≤maxLen):=Lib.hid (by omega)
  have Hy:Hid ((0+n)*8≤140737488355328):=Lib.hid (by omega)
  clear hA h0 h1 hl hn hb
  go_enter Tryz.func250,Tryz.ntmps250
  go_wp2_with (at_builtin;refine AY _ rfl (.tmp 5) (.tmp 6) _ rfl w.heap.size 3 _ 1 8 ty _ 0 [] rfl DK.out (some ad) n c cs rfl Hl.out NA.out H1.out (by simp) Hn.out Hy.out Hb.out.size ?_;intro v2 w2 hown2 hg2 _;rw[List.nil_append,Nat.zero_add]at hown2;have bg:=Lib.hid hown2;have Hb2:=Lib.hid (own_below DK.out hg2 Hb.out Hb.out.size);clear hown2 hg2)
  go_ret
  exact⟨_,rfl,bg.out,Hb2.out⟩
end Go.Proofs.YtabdianhoabhhaaGreatDoor.sw
namespace Go.Proofs.YtabdianhoabhhaaGreatDoor.Cx
open Go Go.RowKit Go.Proofs.YtabdianhoabhhaaGreatDoor
set_option linter.unusedVariables false
def Ke (l1 l2:List Nat) (k:Nat):List Nat:=(List.zipWith (·+·) l1 l2).take k++l1.drop k
theorem WZ (l1 l2:List Nat) (k:Nat) (h1:k < l1.length) (h2:k < l2.length):(Ke l1 l2 k)[k]?=some l1[k]:=by
 unfold Ke
 have e:((List.zipWith (·+·) l1 l2).take k).length=k:=by rw[List.length_take,List.length_zipWith];omega
 rw[List.getElem?_append_right (by omega),e]
 simp[h1]
theorem Ua (l1 l2:List Nat) (k:Nat) (h1:k < l1.length) (h2:k < l2.length):Ke l1 l2 (k+1)=(Ke l1 l2 k).set k (l1[k]+l2[k]):=by
 unfold Ke
 rw[List.set_append_right _ _ (by simp;omega),List.drop_eq_getElem_cons h1]
 have e:k - ((List.zipWith (·+·) l1 l2).take k).length=0:=by simp;omega
 rw[e,List.set_cons_zero,BJ _ _ (by simp;omega)]
 simp
theorem Ub (l1 l2:List Nat):Ke l1 l2 0=l1:=by simp[Ke]
theorem Wd (l1 l2:List Nat) (h:l1.length=l2.length):Ke l1 l2 l1.length=List.zipWith (·+·) l1 l2:=by
 unfold Ke
 rw[List.drop_length,List.append_nil,List.take_of_length_le (by rw[List.length_zipWith];omega)]
theorem AEt (l:List Nat):∀ u∈l.map nv,u.oneCell'=true:=by
 intro u hu;obtain⟨x,_,rfl⟩:=List.mem_map.1 hu;rfl
set_option maxRecDepth 100000 in
set_option maxHeartbeats 1600000 in
theorem O0 (p q n ca cb:Nat) (A B:Option Addr) (l1 l2:List Nat) (w:World) (h1:l1.length=n) (h2:l2.length=n) (hn:1≤n) (hn2:n≤288) (hp:p≤1152921504606846976) (hq:q≤1152921504606846976) (hA:AQ w A (l1.map nv)) (hB:AQ w B (l2.map nv))
  (hb1:∀ x∈l1,x≤1152921504606846976) (hb2:∀ x∈l2,x≤1152921504606846976) :
  Calls Tryz.prog 229 #[.agg #[.int .i64 (p:Int),.slice A n ca],.agg #[.int .i64 (q:Int),.slice B n cb]] w fun e w'=>
   (∃ g cap,e=.returned (.agg #[.int .i64 ((p+q:Nat):Int),.slice (some ⟨g,0,none⟩) n cap])∧w'.ownsRow w.heap.size 3 1 (.slice (some ⟨g,0,none⟩) n cap) n ((List.zipWith (·+·) l1 l2).map nv))∧Below w.heap.size w w':=by
 have H1:=Lib.hid h1
 have H2:=Lib.hid h2
 have HA:=Lib.hid hA
 have HB:=Lib.hid hB
 have Hb1:=Lib.hid hb1
 have Hb2:=Lib.hid hb2
 obtain⟨bA,oA,hAe,_⟩:=HA.out (by simp;omega)
 subst hAe
 clear h1 h2 hA hB hb1 hb2
 have Qu:Hid ((((w.alloc (.cells #[.int .i64 (p:Int),.slice (some ⟨bA,oA,none⟩) n ca] 292)).alloc (.cells #[.int .i64 (q:Int),.slice B n cb] 292)).alloc (.cells #[.int .i64 0,.slice none 0 0] 292)).heap.size=w.heap.size+3):=Lib.hid (by simp)
 have Hw3:=Lib.hid ((((Below.refl w.heap.size w).alloc (Nat.le_refl _) (.cells #[.int .i64 (p:Int),.slice (some ⟨bA,oA,none⟩) n ca] 292)).alloc (by simp) (.cells #[.int .i64 (q:Int),.slice B n cb] 292)).alloc (by simp;omega) (.cells #[.int .i64 0,.slice none 0 0] 292))
 have hz:=AV.new ((w.alloc (.cells #[.int .i64 (p:Int),.slice (some ⟨bA,oA,none⟩) n ca] 292)).alloc (.cells #[.int .i64 (q:Int),.slice B n cb] 292)) 292 #[.int .i64 0,.slice none 0 0]
 have hy:=(AV.new (w.alloc (.cells #[.int .i64 (p:Int),.slice (some ⟨bA,oA,none⟩) n ca] 292)) 292 #[.int .i64 (q:Int),.slice B n cb]).alloc (.cells #[.int .i64 0,.slice none 0 0] 292)
 have hx:=((AV.new w 292 #[.int .i64 (p:Int),.slice (some ⟨bA,oA,none⟩) n ca]).alloc (.cells #[.int .i64 (q:Int),.slice B n cb] 292)).alloc (.cells #[.int .i64 0,.slice none 0 0] 292)
 have hs1:(w.alloc (.cells #[.int .i64 (p:Int),.slice (some ⟨bA,oA,none⟩) n ca] 292)).heap.size=w.heap.size+1:=by simp
 have hs2:((w.alloc (.cells #[.int .i64 (p:Int),.slice (some ⟨bA,oA,none⟩) n ca] 292)).alloc (.cells #[.int .i64 (q:Int),.slice B n cb] 292)).heap.size=w.heap.size+2:=by simp
 rw[hs2]at hz
 rw[hs1]at hy
 have Hx:=Lib.hid hx
 have Hy:=Lib.hid hy
 have Hz:=Lib.hid hz
 clear hx hy hz
 go_enter Tryz.func229,Tryz.ntmps229
 go_wp2_with fail
 clear hs1 hs2
 generalize ((w.alloc (.cells #[.int .i64 (p:Int),.slice (some ⟨bA,oA,none⟩) n ca] 292)).alloc (.cells #[.int .i64 (q:Int),.slice B n cb] 292)).alloc (.cells #[.int .i64 0,.slice none 0 0] 292)=w3 at *
 refine (sw.Ei (some ⟨bA,oA,none⟩) n ca (l1.map nv) w3 (by rw[List.length_map,H1.out];omega) (HA.out.below Hw3.out) (by simp) (AEt l1) (by unfold maxLen;omega) (by omega)).mono ?_
 rintro e w4 ⟨v,rfl,hown,hb4⟩
 obtain⟨g,cap,rfl,hg1,hg2⟩:=hown.form (by omega)
 have DK:=Lib.hid hown
 have Hb4:=Lib.hid hb4
 have Hx4:=Lib.hid (Hx.out.below hb4 Hx.out.lt)
 have Hy4:=Lib.hid (Hy.out.below hb4 Hy.out.lt)
 have Hz4:=Lib.hid (Hz.out.below hb4 Hz.out.lt)
 have Hlx:=Lib.hid Hx.out.lt
 have Hly:=Lib.hid Hy.out.lt
 have Hlz:=Lib.hid Hz.out.lt
 clear hown hb4 Hx Hy Hz
 have Hg1:=Lib.hid hg1
 have hy1:=Hy4.out.c1
 clear hg1 hg2
 generalize hx0:w.heap.size=x0 at *
 have Hx0:=Lib.hid hx0
 clear hx0
 go_wp2_with fail
 clear hy1
 go_loopw [14] (fun i wr=>∃ k:Nat,k≤n∧i=.int .i64 (k:Int)∧wr.ownsRow w3.heap.size 3 1 (.slice (some ⟨g,0,none⟩) n cap) n ((Ke l1 l2 k).map nv)∧Below w3.heap.size w3 wr) (fun i _=>n - (intOf i).toNat)
 case atStart=>exact⟨0,Nat.zero_le _,rfl,by rw[Ub];exact DK.out,Hb4.out⟩
 case round=>
  obtain⟨k,hk,rfl,hown,hbr⟩:=hrel
  have GN:=Lib.hid hbr
  by_cases hlt:k < n
  ·have h1:k < l1.length:=by rw[H1.out];exact hlt
   have h2:k < l2.length:=by rw[H2.out];exact hlt
   obtain⟨b,o,rfl,hc⟩:=AQ.get ((HB.out.below (Hx0.out.symm▸Hw3.out)).below hbr) (k:=k) (by rw[List.length_map];exact h2)
   have hget:=WZ l1 l2 k h1 h2
   have Lr:=Lib.hid (Ua l1 l2 k h1 h2)
   have hcg:wr.cell? ⟨g,k,none⟩=some (.int .i64 (l1[k]:Int)):=by rw[hown.cellAt k (by omega),List.getElem?_map,hget];rfl
   have hfz:=hown.frozenAt k
   have Cy:=Lib.hid (fun u=>(hown.stored k u).1)
   have hcb:wr.cell? ⟨b,o+k,none⟩=some (.int .i64 (l2[k]:Int)):=by rw[hc];simp[nv]
   have AEu:=Hb1.out _ (List.getElem_mem h1)
   have ANl:=Hb2.out _ (List.getElem_mem h2)
   generalize l1[k]=c1 at *
   generalize l2[k]=c2 at *
   clear hown hbr hget hc
   go_wp2_with fail
   go_roundw
   case rel=>
    refine⟨k+1,by omega,by go_num,?_,GN.out.setCell (by exact Hg1.out) _⟩
    have:=Cy.out (.int .i64 ((c1:Int)+(c2:Int)))
    rw[Lr.out,List.map_set]
    exact this
   case measure=>simp[intOf];omega
  ·obtain rfl:k=n:=by omega
   have FY:=Lib.hid (Wd l1 l2 (by rw[H1.out,H2.out]))
   rw[H1.out]at FY
   rw[FY.out]at hown
   have Gd:=Lib.hid hown
   have hx0:wr.cell? ⟨x0,0,none⟩=some (.int .i64 (p:Int)):=by rw[(show AV wr x0 _ _ from (hbr.block x0 Hlx.out).trans ((Hb4.out.block x0 Hlx.out).symm.trans Hx4.out)).cell];rfl
   have hy0:wr.cell? ⟨x0+1,0,none⟩=some (.int .i64 (q:Int)):=by rw[(show AV wr (x0+1) _ _ from (hbr.block (x0+1) Hly.out).trans ((Hb4.out.block (x0+1) Hly.out).symm.trans Hy4.out)).cell];rfl
   have hzb:AV wr (x0+2) 292 #[.int .i64 0,.slice none 0 0]:=(hbr.block (x0+2) Hlz.out).trans ((Hb4.out.block (x0+2) Hlz.out).symm.trans Hz4.out)
   have hz0:=hzb.c0
   have hz1:=hzb.c1
   have fz0:=hzb.frozen 0
   have fz1:=hzb.frozen 1
   have Hzb:=Lib.hid hzb
   clear hown hbr hzb
   go_wp2_with fail
   have UN:=Lib.hid ((Hzb.out.s0 (.int .i64 ((p:Int)+(q:Int)))).s1 (.slice (some ⟨g,0,none⟩) k cap))
   refine bodyPost_ret (results_cell_row rfl _ _ (x0+2) 292 #[.int .i64 ((p:Int)+(q:Int)),.slice (some ⟨g,0,none⟩) k cap] (0,0) _ rfl UN.out Tryz.underlying292 rfl (by kernel_rfl)) rfl ?_
   have AH0:g≠x0+2:=by have:=Hg1.out;have:=Hlz.out;omega
   refine⟨⟨g,cap,by rw[Int.natCast_add],?_⟩,?_⟩
   ·have h1:=ownsRow_setCell_other (ownsRow_setCell_other Gd.out (a:=⟨x0+2,0,none⟩) (by simp[Value.ownBlock];exact AH0) (.int .i64 ((p:Int)+(q:Int)))) (a:=⟨x0+2,1,none⟩) (by simp[Value.ownBlock];exact AH0) (.slice (some ⟨g,0,none⟩) k cap)
    exact AZ h1 (by rw[Hx0.out,Qu.out];omega)
   ·rw[Hx0.out]
    exact ((Hw3.out.trans (GN.out.mono (by rw[Qu.out];omega))).setCell (by show x0≤x0+2;omega) _).setCell (by show x0≤x0+2;omega) _
end Go.Proofs.YtabdianhoabhhaaGreatDoor.Cx
namespace Go.Proofs.YtabdianhoabhhaaGreatDoor.tC
open Go Go.RowKit Go.Proofs.YtabdianhoabhhaaGreatDoor
set_option linter.unusedVariables false
theorem ty:Bj Tryz.prog 290 292 (.agg #[.int .i64 0,.slice none 0 0]) 2 32:=⟨Tryz.underlying290,by kernel_rfl,rfl,by omega⟩
set_option maxRecDepth 100000 in
set_option maxHeartbeats 400000 in
theorem Ei (A:Option Addr) (n c:Nat) (cs:List Value) (w:World) (hl:cs.length=n*2) (hA:AQ w A cs) (h0:A=none→n=0) (h1:∀ u∈cs,u.oneCell'=true) (hn:n≤maxLen) (hb:n*32≤140737488355328) :
  Calls Tryz.prog 228 #[.slice A n c] w fun e w'=>∃ v,e=.returned v∧w'.ownsRow w.heap.size 292 2 v n cs∧Below w.heap.size w w':=by
 have hq:=fun (w:World) (a:Option Addr) (l c:Nat)=>Lib.run_eql_slice_nil (P:=Tryz.prog) w 290 292 a l c 0 0 Tryz.underlying290
 rcases A with _ | ad
 ·obtain rfl:=h0 rfl
  have hcs:cs=[]:=List.eq_nil_of_length_eq_zero (by omega)
  subst hcs
  clear hA h0 h1 hl hn hb
  go_enter Tryz.func228,Tryz.ntmps228
  go_wp2_with fail
  go_ret
  exact⟨_,rfl,World.ownsRow_nil _ _ _ _,Below.refl _ _⟩
 ·have DK:Hid ((w.alloc (.cells #[] 292)).ownsRow w.heap.size 292 2 (.slice (some ⟨w.heap.size,0,none⟩) 0 0) 0 []):=Lib.hid (Gw _ _ _ _ w.heap.size 0 #[] (Nat.le_refl _) (heap_alloc_new w _) (by unfold maxLen;omega) (by simp))
  have NA:=Lib.hid (hA.alloc (.cells #[] 292))
  have Hb:=Lib.hid ((Below.refl w.heap.size w).alloc (Nat.le_refl _) (.cells #[] 292))
  have Hl:=Lib.hid hl
  have H1:=Lib.hid h1
  have Hn:Hid (0+n≤maxLen):=Lib.hid (by omega)
  have Hy:Hid ((0+n)*32≤140737488355328):=Lib.hid (by omega)
  clear hA h0 h1 hl hn hb
  go_enter Tryz.func228,Tryz.ntmps228
  go_wp2_with (at_builtin;refine AY _ rfl (.tmp 5) (.tmp 6) _ rfl w.heap.size 292 _ 2 32 ty _ 0 [] rfl DK.out (some ad) n c cs rfl Hl.out NA.out H1.out (by simp) Hn.out Hy.out Hb.out.size ?_;intro v2 w2 hown2 hg2 _;rw[List.nil_append,Nat.zero_add]at hown2;have bg:=Lib.hid hown2;have Hb2:=Lib.hid (own_below DK.out hg2 Hb.out Hb.out.size);clear hown2 hg2)
  go_ret
  exact⟨_,rfl,bg.out,Hb2.out⟩
end Go.Proofs.YtabdianhoabhhaaGreatDoor.tC
namespace Go.Proofs.YtabdianhoabhhaaGreatDoor.Ky
open Go Go.RowKit Go.Proofs.YtabdianhoabhhaaGreatDoor
set_option linter.unusedVariables false
theorem ty:Bj Tryz.prog 290 292 (.agg #[.int .i64 0,.slice none 0 0]) 2 32:=⟨Tryz.underlying290,by kernel_rfl,rfl,by omega⟩
theorem DL (z:Array Value) (n:Nat):(Builtin.zeroCells z n).size=n*z.size:=by simp[Builtin.zeroCells]
set_option maxHeartbeats 400000 in
theorem Ma (n:Nat) (w:World) (hn:n*32≤140737488355328) :
  Calls Tryz.prog 251 #[.slice none 0 0,.int .i64 (n:Int)] w fun e w'=>∃ v,e=.returned v∧w'.ownsRow w.heap.size 292 2 v 0 []∧Below w.heap.size w w':=by
 by_cases h0:n=0
 ·subst h0
  go_enter Tryz.func251,Tryz.ntmps251
  go_wp2_with fail
  go_ret
  exact⟨_,rfl,World.ownsRow_nil _ _ _ _,Below.refl _ _⟩
 ·obtain⟨ht,i,hi,hz,hsize,hby,hzs,hsz⟩:=ty.parts
  have hpos:0 < n:=by omega
  have h1:¬ ((n:Int) < 0):=by omega
  have hp:(0:Int) < (n:Int):=by omega
  have AGJ:(n:Int)≤140737488355328:=by omega
  have hrun:=Lib.run_append_nil_zeros (P:=Tryz.prog) w 290 3 290 292 i (.agg #[.int .i64 0,.slice none 0 0]) .i64 .i64 ht Tryz.underlying3 hi hz n hpos (by omega) (by omega) (by rw[hby];omega)
  have hcap:=grownCap_ge w n 0 292
  have hcm:=grownCap_le_maxLen w n 0 292 (by unfold maxLen;omega)
  have hsz2:(Builtin.zeroCells (Value.cells (.agg #[.int .i64 0,.slice none 0 0])) n++Builtin.zeroCells (Value.cells (.agg #[.int .i64 0,.slice none 0 0])) (grownCap w n 0 292 - n)).size=grownCap w n 0 292*2:=by
   rw[Array.size_append,DL,DL,hzs,←Nat.add_mul,Nat.add_sub_cancel' hcap]
  have hblk:(w.drew.alloc (.cells (Builtin.zeroCells (Value.cells (.agg #[.int .i64 0,.slice none 0 0])) n++Builtin.zeroCells (Value.cells (.agg #[.int .i64 0,.slice none 0 0])) (grownCap w n 0 292 - n)) 292)).heap[w.heap.size]?=some (.cells (Builtin.zeroCells (Value.cells (.agg #[.int .i64 0,.slice none 0 0])) n++Builtin.zeroCells (Value.cells (.agg #[.int .i64 0,.slice none 0 0])) (grownCap w n 0 292 - n)) 292 (0,0)):=heap_alloc_new w.drew _
  have hbel:Below w.heap.size w (w.drew.alloc (.cells (Builtin.zeroCells (Value.cells (.agg #[.int .i64 0,.slice none 0 0])) n++Builtin.zeroCells (Value.cells (.agg #[.int .i64 0,.slice none 0 0])) (grownCap w n 0 292 - n)) 292)):=((Below.refl _ _).drew).alloc (Nat.le_refl _) _
  generalize (w.drew.alloc (.cells (Builtin.zeroCells (Value.cells (.agg #[.int .i64 0,.slice none 0 0])) n++Builtin.zeroCells (Value.cells (.agg #[.int .i64 0,.slice none 0 0])) (grownCap w n 0 292 - n)) 292))=W at *
  generalize (Builtin.zeroCells (Value.cells (.agg #[.int .i64 0,.slice none 0 0])) n++Builtin.zeroCells (Value.cells (.agg #[.int .i64 0,.slice none 0 0])) (grownCap w n 0 292 - n))=cs at *
  generalize grownCap w n 0 292=cap at *
  have Sl:=Lib.hid hrun
  have Qu:=Lib.hid hsz2
  have Et:=Lib.hid hblk
  have uJ:=Lib.hid hbel
  have hcm2:cap≤9223372036854775807:=by unfold maxLen at hcm;omega
  have Hcm:=Lib.hid hcm
  clear hrun hsz2 hblk hbel hi hz hsize hby hzs hsz ht hcm
  go_enter Tryz.func251,Tryz.ntmps251
  go_wp2_with (at_builtin;refine Lib.wpList_append_run _ rfl (.tmp 20) (.tmp 21) _ _ rfl _ _ rfl rfl _ _ Sl.out ?_)
  go_ret
  exact⟨_,rfl,Gw _ _ _ _ w.heap.size cap cs (Nat.le_refl _) Et.out Hcm.out Qu.out,uJ.out⟩
def total (rows:List (Value×Nat×List Value)):Nat:=(rows.map (·.2.1)).sum
def cellsOf (rows:List (Value×Nat×List Value)):List Value:=(rows.map (·.2.2)).flatten
theorem Eu (rows:List (Value×Nat×List Value)) (k:Nat) (h:k < rows.length):total (rows.take (k+1))=total (rows.take k)+rows[k].2.1:=by
 unfold total;rw[BJ _ _ h]
 simp only[List.map_append,List.map_cons,List.map_nil,List.sum_append,List.sum_cons,List.sum_nil,Nat.add_zero]
theorem GQ (rows:List (Value×Nat×List Value)) (k:Nat) (h:k < rows.length):cellsOf (rows.take (k+1))=cellsOf (rows.take k)++rows[k].2.2:=by
 unfold cellsOf;rw[BJ _ _ h]
 simp only[List.map_append,List.map_cons,List.map_nil,List.flatten_append,List.flatten_cons,List.flatten_nil,List.append_nil]
theorem G8 (l:List Nat) (k:Nat):(l.take k).sum≤l.sum:=by
 induction l generalizing k with
 | nil=>simp
 | cons a l ih=>cases k with
  | zero=>simp
  | succ k=>simp only[List.take_succ_cons,List.sum_cons];have:=ih k;omega
theorem G9 (rows:List (Value×Nat×List Value)) (k:Nat):total (rows.take k)≤total rows:=by
 unfold total;rw[List.map_take];exact G8 _ _
set_option maxHeartbeats 800000 in
theorem JA (A:Option Addr) (m c:Nat) (rows:List (Value×Nat×List Value)) (w:World) (hm:rows.length=m) (sK:m≤4611686018427387904) (ha:AQ w A (rows.map (·.1)))
  (hrows:∀ r∈rows,Ol w 2 r.1 r.2.1 r.2.2) (h1:∀ r∈rows,∀ u∈r.2.2,u.oneCell'=true) (ht:total rows*32≤140737488355328) :
  Calls Tryz.prog 230 #[.slice A m c] w fun e w'=>∃ v,e=.returned v∧w'.ownsRow w.heap.size 292 2 v (total rows) (cellsOf rows)∧Below w.heap.size w w':=by
 have Hm:=Lib.hid hm
 have Ha:=Lib.hid ha
 have Qv:=Lib.hid hrows
 have H1:=Lib.hid h1
 have Ht:=Lib.hid ht
 clear hm ha hrows h1 ht
 go_enter Tryz.func230,Tryz.ntmps230
 go_wp2_with fail
 go_loop [3,11] (fun s i=>∃ k:Nat,k≤m∧i=.int .i64 k∧s=.int .i64 (total (rows.take k):Nat)) (fun _ i=>m - (intOf i).toNat)
 case atStart=>exact⟨0,Nat.zero_le _,rfl,rfl⟩
 case round=>
  obtain⟨k,hk,rfl,rfl⟩:=hrel
  by_cases hlt:k < m
  ·have hkr:k < rows.length:=by rw[Hm.out];exact hlt
   obtain⟨b,o,rfl,hcell⟩:=Ha.out.get (k:=k) (by simpa using hkr)
   obtain⟨B,cb,hv,hl1,hl2,hl3,hB,hB0⟩:=Qv.out rows[k] (List.getElem_mem hkr)
   simp only[List.getElem_map]at hcell
   rw[hv]at hcell
   have Hs:=Lib.hid (Eu rows k hkr)
   have htl:=G9 rows (k+1)
   rw[Hs.out]at htl
   have hb1:total (rows.take k)+rows[k].2.1≤140737488355328:=by have:=Ht.out;omega
   have hnn:0≤((total (rows.take k):Nat):Int)+((rows[k].2.1:Nat):Int):=by omega
   clear htl hB hB0 hl3 hv
   generalize total (rows.take k)=s0 at *
   generalize rows[k].2.1=n0 at *
   go_wp2_with fail
   go_round
   case rel=>exact⟨k+1,by omega,by go_num,by rw[Hs.out];go_num⟩
   case measure=>simp[intOf];omega
  ·have hk2:k=m:=by omega
   have FY:Hid (rows.take k=rows):=Lib.hid (List.take_of_length_le (by rw[Hm.out];omega))
   rw[FY.out]
   have htt:total rows≤140737488355328:=by have:=Ht.out;omega
   obtain⟨T,hT⟩:∃ T,T=total rows:=⟨_,rfl⟩
   rw[←hT]at htt⊢
   have HT:=Lib.hid hT
   clear hT FY hk2
   go_wp2_with fail
   refine (Ma T _ (by rw[HT.out];exact Ht.out)).mono ?_
   rintro e w1 ⟨v1,rfl,hown1,hb1⟩
   have Ho:=Lib.hid hown1
   have Hb:=Lib.hid hb1
   clear hown1 hb1
   go_wp2_with fail
   go_loopw [6,27] (fun s i wr=>∃ k:Nat,k≤m∧i=.int .i64 k∧wr.ownsRow w.heap.size 292 2 s (total (rows.take k)) (cellsOf (rows.take k))∧Below w.heap.size w wr) (fun _ i _=>m - (intOf i).toNat)
   case atStart=>exact⟨0,Nat.zero_le _,rfl,Ho.out,Hb.out⟩
   case round=>
    obtain⟨k,hk,rfl,hown,hbr⟩:=hrel
    rename_i v3 _ _ _ _ _ _ _ _ _
    have How:=Lib.hid hown
    have GN:=Lib.hid hbr
    by_cases hlt:k < m
    ·have hkr:k < rows.length:=by rw[Hm.out];exact hlt
     obtain⟨b,o,rfl,hcell⟩:=(Ha.out.below hbr).get (k:=k) (by simpa using hkr)
     obtain⟨B,cb,hv,hl1,hl2,hl3,hB,hB0⟩:=(Qv.out rows[k] (List.getElem_mem hkr)).below hbr
     simp only[List.getElem_map]at hcell
     rw[hv]at hcell
     have Hs:=Lib.hid (Eu rows k hkr)
     have Hcs:=Lib.hid (GQ rows k hkr)
     have htl:=G9 rows (k+1)
     rw[Hs.out]at htl
     have hb1:total (rows.take k)+rows[k].2.1≤maxLen∧(total (rows.take k)+rows[k].2.1)*32≤140737488355328:=by
      have:=Ht.out;unfold maxLen;omega
     have HB:=Lib.hid hB
     have HB0:=Lib.hid hB0
     have bq:=Lib.hid hl3
     have Lx:=Lib.hid (H1.out rows[k] (List.getElem_mem hkr))
     have Hb1:=Lib.hid hb1
     clear htl hv hB hB0 hl3 hb1 hown hbr
     go_wp2_with (at_builtin;refine MI rfl (.tmp 31) (.tmp 32) _ rfl 292 _ 2 32 ty _ _ _ rfl How.out GN.out B _ cb _ rfl bq.out HB.out Lx.out HB0.out Hb1.out.1 Hb1.out.2 ?_;intro v4 w4 DJ hb4 _ _;have uK:=Lib.hid DJ;have Hb4:=Lib.hid hb4;clear DJ hb4)
     go_roundw
     case rel=>exact⟨k+1,by omega,by go_num,by rw[Hs.out,Hcs.out];exact uK.out,Hb4.out⟩
     case measure=>simp[intOf];omega
    ·have FY:Hid (rows.take k=rows):=Lib.hid (List.take_of_length_le (by rw[Hm.out];omega))
     go_wp2_with fail
     go_ret
     exact⟨_,rfl,by have:=How.out;rw[FY.out]at this;exact this,GN.out⟩
end Go.Proofs.YtabdianhoabhhaaGreatDoor.Ky
