/- texts joined: InfCodes InfBlock InfCatch InfMono InfUnpack InfNz ZipEntry ZipCatch. -/
import Derived.Test.YtabdianhoabhhaaGreatDoorShelfKeepsQ5
import Derived.Tactics
import Derived.Tactics2
import Derived.Defers
import Derived.Recover
import Derived.Test.YtabdianhoabhhaaGreatDoorShelfKeepsQ1
import Derived.Test.YtabdianhoabhhaaGreatDoorShelfKeepsQ7
import Derived.Test.YtabdianhoabhhaaGreatDoorShelfKeepsQ8
open List renaming getElem_toArray→l0A,getElem_cons_zero→l0B,getElem_cons_succ→l0C,setIfInBounds_toArray→l0D,set_cons_zero→l0E,set_cons_succ→l0F
namespace Go.Proofs.YtabdianhoabhhaaGreatDoor.Inf
open Go Go.RowKit Go.Proofs.YtabdianhoabhhaaGreatDoor Go.Proofs.YtabdianhoabhhaaGreatDoor.Bits Go.Proofs.YtabdianhoabhhaaGreatDoor.Code
set_option linter.unusedVariables false
set_option linter.unusedSimpArgs false
theorem Mf {w:World} {base b p:Nat} {zs:List Int} (h:TabAt w b p (BC zs)) (hb:base≤b) (hc:GK zs=0):Jr w base p (BC zs):=by
 obtain⟨h1,v,h2,h3⟩:=h
 obtain⟨c1,_,c2,c3,_⟩:=Sn zs hc
 exact⟨⟨Nat.le_trans hb h1,v,h2,AZ h3 hb⟩,c3,c2,by unfold BC;rw[List.length_map];exact c1⟩
theorem ZV {w:World} {base size n:Nat} {e:TypeId} {v:Value} {xs:List Value} (h:w.ownsRow base e size v n xs) (h0:0 < n):∃ g c,v=.slice (some ⟨g,0,none⟩) n c∧base≤g∧n≤c∧c≤maxLen∧AQ w (some ⟨g,0,none⟩) xs:=by
 obtain⟨A,c,rfl,h1,h2,h3,_⟩:=Ad h
 rcases h.2 with ⟨h1',_⟩ | ⟨g,cap',cur,hv,hb,hg,_⟩
 ·injection h1' with h1' h2';omega
 ·injection hv with hv;subst hv;exact⟨g,c,rfl,hb,h1,h2,h3⟩
theorem vL {w:World} {g:Nat} {xs:List Value} (h:AQ w (some ⟨g,0,none⟩) xs) {k:Nat} {v:Value} (hk:xs[k]?=some v):w.cell? ⟨g,k,none⟩=some v:=by
 obtain⟨b,o,e,hc⟩:=h (by
  rcases Nat.eq_zero_or_pos xs.length with h0 | h0
  ·rw[List.eq_nil_of_length_eq_zero h0]at hk;cases hk
  ·exact h0)
 injection e with e
 injection e with e1 e2
 subst e1 e2
 have:=hc k v hk
 rwa [Nat.zero_add]at this
theorem Jr.old {w w':World} {base p B0:Nat} {ls:List Nat} (h:Jr w base p ls) (hk:Below w.heap.size w w'):Jr w' base p ls:=by
 obtain⟨⟨h1,v,h2,h3⟩,h4,h5,h6⟩:=h
 exact⟨⟨h1,v,h2.below hk h2.lt,AP h3 hk⟩,h4,h5,h6⟩
theorem ZR (s:List Nat):(EZ s).map iv=s.map BR:=by
 unfold EZ
 rw[List.map_map]
 rfl
theorem nG:∀ j < 19,Aw.getD j 0 < 19:=by decide
set_option maxRecDepth 100000 in
set_option maxHeartbeats 4000000 in
theorem AAd (base g q:Nat) (A:Option Addr) (n c pos:Nat) (xs:List UInt8) (vo vk:Value) (w:World) (hq:base≤q) (hbw:base≤w.heap.size)
  (hb:AV w g 177 #[.pointer (some ⟨q,0,none⟩),vo,vk]) (hsrc:EB w q A n c pos) (hp:pos≤8*n) (hi:FJ w base A n xs) :
  Calls Tryz.prog 164 #[.pointer (some ⟨g,0,none⟩)] w fun e w'=>
   Eo (Mg (AO xs) pos) (fun a e w'=>∃ p1 p2,e=.returned (.tuple #[.pointer (some ⟨p1,0,none⟩),.pointer (some ⟨p2,0,none⟩)])∧Jr w' base p1 a.2.1∧Jr w' base p2 a.2.2∧EB w' q A n c a.1∧a.1≤8*n) e w'∧DW base w.heap.size Fp w w':=by
 obtain⟨R,hR⟩:∃ R,R=Mg (AO xs) pos:=⟨_,rfl⟩
 rw[←hR]
 unfold Mg at hR
 have HU:=Lib.hid hR
 have HB:=Lib.hid hb
 have HS:=Lib.hid hsrc
 have HI:=Lib.hid hi
 have U7:Hid (DW base w.heap.size Fp w w):=Lib.hid (DW.refl _ _ _ _)
 have HI1:=HI
 have HB1:=HB
 have dI:=HS
 have hp1:=hp
 have HG:=Lib.hid (TN base g q A n c pos 5 xs w hq (by rw[hb.cell];rfl) hsrc hp hi (by omega))
 have AM8:q < w.heap.size:=AV.lt hsrc
 clear hb hsrc hi hR
 go_enter Tryz.func164,Tryz.ntmps164
 go_wp2_with fail
 refine (HG.out).mono ?_
 rintro e w2 ⟨hr2,hk2⟩
 have Cz:=Lib.hid (U7.out.keeps (hk2.mono hq (fun _ h=>h)))
 cases hg2:CJ (AO xs) pos 5 with
 | bad z=>
  have he:=BK hr2 hg2
  subst he
  have HU:=Lib.hid (show R=.bad z by rw[HU.out,hg2];rfl)
  clear hr2 hk2 hg2
  unfold Bo
  go_wp2_with fail
  exact⟨rfl,Aj HU.out,Cz.out⟩
 | ok a=>
  obtain⟨he,hs2,hp2⟩:=BP hr2 hg2
  subst he
  have hx2:=Ep hg2
  replace HU:=Lib.hid (HU.out.trans (by rw[hg2,then_ok]))
  have HB2:=Lib.hid (hk2.blk HB1.out (by decide))
  have HI2:=Lib.hid (HI1.out.keeps (hk2.mono hq (fun _ h=>h)))
  have HS2:=Lib.hid hs2
  obtain⟨x,p2⟩:=a
  dsimp only at hx2 HU HS2 hp2⊢
  have hxb:x < 32:=hx2
  have zo:=Lib.hid hk2
  clear hr2 hk2 hg2 hs2 HG hx2
  obtain⟨m,hm⟩:∃ m,m=x+257:=⟨_,rfl⟩
  have hwm:IntKind.i64.wrap ((x:Int)+257)=(m:Int):=by rw[show (x:Int)+257=(m:Int) by omega];exact IntWalk.i64_in _ (by omega)
  rw[←hm]at HU
  have hm1:257≤m:=by omega
  have hm2:m < 289:=by omega
  have HG:=Lib.hid (TN base g q A n c p2 5 xs w2 hq (by rw[HB2.out.cell];rfl) HS2.out hp2 HI2.out (by omega))
  clear hm hxb
  go_wp2_with fail
  refine (HG.out).mono ?_
  rintro e w3 ⟨hr3,hk3⟩
  have Xh:=Lib.hid (Cz.out.keeps (hk3.mono hq (fun _ h=>h)))
  cases hg3:CJ (AO xs) p2 5 with
  | bad z=>
   have he:=BK hr3 hg3
   subst he
   have HU:=Lib.hid (show R=.bad z by rw[HU.out,hg3];rfl)
   clear hr3 hk3 hg3
   unfold Bo
   go_wp2_with fail
   exact⟨rfl,Aj HU.out,Xh.out⟩
  | ok a=>
   obtain⟨he,hs3,hp3⟩:=BP hr3 hg3
   subst he
   have hx3:=Ep hg3
   replace HU:=Lib.hid (HU.out.trans (by rw[hg3,then_ok]))
   have HB3:=Lib.hid (hk3.blk HB2.out (by decide))
   have HI3:=Lib.hid (HI2.out.keeps (hk3.mono hq (fun _ h=>h)))
   have lN:=Lib.hid hs3
   obtain⟨x,p3⟩:=a
   dsimp only at hx3 HU lN hp3⊢
   have hxb:x < 32:=hx3
   have zo:=Lib.hid hk3
   clear hr3 hk3 hg3 hs3 HG hx3
   obtain⟨d,hd⟩:∃ d,d=x+1:=⟨_,rfl⟩
   have hwd:IntKind.i64.wrap ((x:Int)+1)=(d:Int):=by rw[show (x:Int)+1=(d:Int) by omega];exact IntWalk.i64_in _ (by omega)
   rw[←hd]at HU
   have hd1:1≤d:=by omega
   have hd2:d < 33:=by omega
   have HG:=Lib.hid (TN base g q A n c p3 4 xs w3 hq (by rw[HB3.out.cell];rfl) lN.out hp3 HI3.out (by omega))
   clear hd hxb
   go_wp2_with fail
   refine (HG.out).mono ?_
   rintro e w4 ⟨hr4,hk4⟩
   have KQ:=Lib.hid (Xh.out.keeps (hk4.mono hq (fun _ h=>h)))
   cases hg4:CJ (AO xs) p3 4 with
   | bad z=>
    have he:=BK hr4 hg4
    subst he
    have HU:=Lib.hid (show R=.bad z by rw[HU.out,hg4];rfl)
    clear hr4 hk4 hg4
    unfold Bo
    go_wp2_with fail
    exact⟨rfl,Aj HU.out,KQ.out⟩
   | ok a=>
    obtain⟨he,hs4,Ro⟩:=BP hr4 hg4
    subst he
    have hx4:=Ep hg4
    replace HU:=Lib.hid (HU.out.trans (by rw[hg4,then_ok]))
    have F4:=Lib.hid (hk4.blk HB3.out (by decide))
    have HI4:=Lib.hid (HI3.out.keeps (hk4.mono hq (fun _ h=>h)))
    have OC:=Lib.hid hs4
    obtain⟨x,p4⟩:=a
    dsimp only at hx4 HU OC Ro⊢
    have hxb:x < 16:=hx4
    have zo:=Lib.hid hk4
    clear hr4 hk4 hg4 hs4 HG hx4
    obtain⟨C,hC⟩:∃ C,C=x+4:=⟨_,rfl⟩
    have hwC:IntKind.i64.wrap ((x:Int)+4)=(C:Int):=by rw[show (x:Int)+4=(C:Int) by omega];exact IntWalk.i64_in _ (by omega)
    rw[←hC]at HU
    have hC1:4≤C:=by omega
    have hC2:C≤19:=by omega
    clear hC hxb
    by_cases hbad:286 < m∨30 < d
    ·have HU:=Lib.hid (show R=.bad 8 by rw[HU.out,if_pos hbad])
     have hcnd:(decide ((m:Int) > 286) || decide ((d:Int) > 30))=true:=by
      rcases hbad with h | h
      ·have:(m:Int) > 286:=by omega
       simp[this]
      ·have:(d:Int) > 30:=by omega
       simp[this]
     rcases (by omega:286 < m∨(m≤286∧30 < d)) with h1 | ⟨h1,h2⟩
     ·have h1':(286:Int) < (m:Int):=by omega
      clear hcnd hbad
      go_wp2_with fail
      refine (Db 8 _).mono ?_
      rintro e w5 ⟨rfl,rfl⟩
      unfold Bo
      go_wp2_with fail
      exact⟨rfl,Aj HU.out,KQ.out⟩
     ·have h1':(m:Int)≤286:=by omega
      have h2':(30:Int) < (d:Int):=by omega
      clear hcnd hbad
      go_wp2_with fail
      refine (Db 8 _).mono ?_
      rintro e w5 ⟨rfl,rfl⟩
      unfold Bo
      go_wp2_with fail
      exact⟨rfl,Aj HU.out,KQ.out⟩
    ·replace HU:=Lib.hid (HU.out.trans (if_neg hbad))
     have hm3:m≤286:=by omega
     have hd3:d≤30:=by omega
     have hm':(m:Int)≤286:=by omega
     have hd':(d:Int)≤30:=by omega
     clear hbad hm2 hd2
     have hmk:∀ u:World,(Instr.makeSlice 89 (.int .i64 19) (.int .i64 19)).run Tryz.prog u=.ok (.slice (some ⟨u.heap.size,0,none⟩) 19 19) (u.alloc (.cells (ED (List.replicate 19 0)) 3)):=fun u=>by rw[←Ir];exact F6 19 (by omega) u
     have HOr:=Lib.hid (VV (w4.alloc (.cells (ED (List.replicate 19 0)) 3)))
     go_wp2_with fail
     refine (HOr.out).mono ?_
     rintro e w5 ⟨rfl,hb5⟩
     have hst:=P7 w5
     have hB4:=KQ.out.size
     have YY:Hid (DW base w.heap.size Fp w w5):=Lib.hid ((KQ.out.below ((Below.refl _ _).alloc hB4 _) hbw).below (hb5.mono (by simp;omega)) hbw)
     have bZ:Hid (EB w5 q A n c p4):=Lib.hid (AV.below ((OC.out.below ((Below.refl _ _).alloc (Nat.le_refl _) _) (AV.lt OC.out))) hb5 (by have:=AV.lt OC.out;simp;omega))
     obtain⟨F,hU,hF⟩:∃ F,(R=(JG (AO xs) (Aw.take C) p4 (List.replicate 19 0)).Ag F)∧F=_:=⟨_,HU.out,rfl⟩
     have HU:=Lib.hid hU
     have HF:=Lib.hid hF
     clear hU
     have Qu:Hid (AV w5 w4.heap.size 3 (ED (List.replicate 19 0))):=Lib.hid ((AV.new w4 3 (ED (List.replicate 19 0))).below hb5 (by simp))
     have hC':(C:Int)≤19:=by omega
     have hC0:(0:Int)≤(C:Int):=by omega
     have AAI:w4.heap.size < w5.heap.size:=by have:=AV.lt Qu.out;omega
     have hgs:w.heap.size≤w4.heap.size:=hB4
     clear hF hb5 HOr hmk
     go_wp2_with fail
     have hb6:Below w5.heap.size w5 ((w5.alloc (.cells #[.int .i64 0,.int .i64 0,.int .i64 0,.int .i64 0,.int .i64 0,.int .i64 0,.int .i64 0,.int .i64 0,.int .i64 0,.int .i64 0,.int .i64 0,.int .i64 0,.int .i64 0,.int .i64 0,.int .i64 0,.int .i64 0,.int .i64 0,.int .i64 0,.int .i64 0] 251)).setRow w5.heap.size Jo):=below_setRow ((Below.refl _ _).alloc (Nat.le_refl _) _) (Nat.le_refl _) _
     have OD:=Lib.hid (YY.out.below (hb6.mono YY.out.size) hbw)
     have Vy:=Lib.hid (AV.below bZ.out hb6 (AV.lt bZ.out))
     have nH:=Lib.hid (Qu.out.below hb6 AAI)
     have AGa:Hid (AV ((w5.alloc (.cells #[.int .i64 0,.int .i64 0,.int .i64 0,.int .i64 0,.int .i64 0,.int .i64 0,.int .i64 0,.int .i64 0,.int .i64 0,.int .i64 0,.int .i64 0,.int .i64 0,.int .i64 0,.int .i64 0,.int .i64 0,.int .i64 0,.int .i64 0,.int .i64 0,.int .i64 0] 251)).setRow w5.heap.size Jo) w5.heap.size 251 Jo):=Lib.hid ((AV.new _ _ _).setRow Jo)
     have hgo:w.heap.size≤w5.heap.size:=YY.out.size
     generalize ((w5.alloc (.cells #[.int .i64 0,.int .i64 0,.int .i64 0,.int .i64 0,.int .i64 0,.int .i64 0,.int .i64 0,.int .i64 0,.int .i64 0,.int .i64 0,.int .i64 0,.int .i64 0,.int .i64 0,.int .i64 0,.int .i64 0,.int .i64 0,.int .i64 0,.int .i64 0,.int .i64 0] 251)).setRow w5.heap.size Jo)=w6 at *
     generalize w4.heap.size=gs at *
     generalize w5.heap.size=go at *
     clear hst bZ Qu YY hb6
     go_loopw [33] (fun vi wr=>∃ (j p:Nat) (s:List Nat),j≤C∧vi=.int .i64 (j:Int)∧s.length=19∧R=(JG (AO xs) ((Aw.take C).drop j) p s).Ag F∧p≤8*n∧EB wr q A n c p∧AV wr gs 3 (ED s)∧AV wr go 251 Jo∧DW base w.heap.size Fp w wr) (fun vi _=>C - (intOf vi).toNat)
     case atStart=>exact⟨0,p4,List.replicate 19 0,Nat.zero_le _,rfl,rfl,HU.out,Ro,Vy.out,nH.out,AGa.out,OD.out⟩
     case round=>
      obtain⟨j,p,s,hj,rfl,hsl,hR,ZT,Xi,hsz,hor,hold⟩:=hrel
      have NA:=Lib.hid hsl
      clear HU OD Vy nH AGa hsl
      have HI6:=Lib.hid (HI.out.old hold)
      have Rp:=Lib.hid (hold.blk HB.out (by decide))
      have OD:=Lib.hid hold
      have Vy:=Lib.hid Xi
      have Qu:=Lib.hid hsz
      have Hor:=Lib.hid hor
      by_cases hlt:j < C
      ·obtain⟨k,hk⟩:∃ k,k=Aw.getD j 0:=⟨_,rfl⟩
       have AGb:k < 19:=by rw[hk];exact nG j (by omega)
       have hcell:wr.cell? ⟨go,j,none⟩=some (.int .i64 (k:Int)):=by
        have vM:j < Aw.length:=by show j < 19;omega
        rw[hor.cell,jB,List.getElem?_toArray,List.getElem?_map,List.getElem?_eq_getElem vM,hk,List.getD_eq_getElem?_getD,List.getElem?_eq_getElem vM]
        rfl
       have hdr:(Aw.take C).drop j=k :: (Aw.take C).drop (j+1):=by
        have vM:j < (Aw.take C).length:=by rw[List.length_take];show j < min C 19;omega
        rw[List.drop_eq_getElem_cons vM,hk,List.getElem_take,List.getD_eq_getElem?_getD,List.getElem?_eq_getElem (by show j < 19;omega)]
        rfl
       have HU:=Lib.hid (show R=((CJ (AO xs) p 3).Ag fun x=>JG (AO xs) ((Aw.take C).drop (j+1)) x.2 (s.set k x.1)).Ag F by rw[hR,hdr];rfl)
       have HG:=Lib.hid (TN base g q A n c p 3 xs wr hq (by rw[Rp.out.cell];rfl) Xi ZT HI6.out (by omega))
       have hjC:(j:Int) < (C:Int):=by omega
       have hj0:(0:Int)≤(j:Int):=by omega
       have hk0:(0:Int)≤(k:Int):=by omega
       have AMR:(k:Int) < 19:=by omega
       clear hk hdr hR hold Xi hsz hor
       go_wp2_with fail
       refine (HG.out).mono ?_
       rintro e w7 ⟨Jh,O7⟩
       have U9:=Lib.hid (OD.out.keeps (O7.mono hq (fun _ h=>h)))
       cases ET:CJ (AO xs) p 3 with
       | bad z=>
        have he:=BK Jh ET
        subst he
        have HU:=Lib.hid (show R=.bad z by rw[HU.out,ET];rfl)
        clear Jh O7 ET
        unfold Bo
        go_wp2_with fail
        exact⟨rfl,Aj HU.out,U9.out⟩
       | ok a=>
        obtain⟨he,hs7,mr⟩:=BP Jh ET
        subst he
        have hx7:=Ep ET
        replace HU:=Lib.hid (HU.out.trans (by rw[ET,then_ok]))
        have rF:=Lib.hid (O7.blk Rp.out (by decide))
        have HI7:=Lib.hid (HI6.out.keeps (O7.mono hq (fun _ h=>h)))
        have U8:=Lib.hid hs7
        obtain⟨x,p7⟩:=a
        dsimp only at hx7 HU U8 mr⊢
        have hxb:x < 8:=hx7
        have zo:=Lib.hid O7
        clear Jh O7 ET hs7 HG hx7
        have AD0:=Lib.hid (zo.out.blk Qu.out (by decide))
        have AKK:=Lib.hid (zo.out.blk Hor.out (by decide))
        have hc7:w7.cell? ⟨gs,k,none⟩=some (.int .i64 ((s.getD k 0:Nat):Int)):=by
         rw[AD0.out.cell,SL _ _ (by rw[NA.out];exact AGb),List.getD_eq_getElem?_getD,List.getElem?_eq_getElem (by rw[NA.out];exact AGb)]
         rfl
        have hf7:=AD0.out.frozen k
        have HU:=Lib.hid (show R=(JG (AO xs) ((Aw.take C).drop (j+1)) p7 (s.set k x)).Ag F from HU.out)
        generalize s.getD k 0=ov at hc7
        clear zo Qu Hor
        go_wp2_with fail
        go_roundw
        case rel=>exact⟨j+1,p7,s.set k x,by omega,by go_num,by rw[List.length_set];exact NA.out,HU.out,mr,AV.far U8.out (p:=⟨gs,k,none⟩) (by show q≠gs;omega) _,by rw[←SN];exact AD0.out.Ca k _,AKK.out.far (p:=⟨gs,k,none⟩) (by show go≠gs;omega) _,U9.out.below ((Below.refl _ _).setCell (p:=⟨gs,k,none⟩) hgs _) hbw⟩
        case measure=>simp[intOf];omega
      ·obtain rfl:j=C:=by omega
       have HU:=Lib.hid (show R=F (p,s) by rw[hR,List.drop_of_length_le (by rw[List.length_take];omega)];rfl)
       rw[HF.out]at HU
       dsimp only at HU
       have HT:=Lib.hid (Xj (some ⟨gs,0,none⟩) 19 19 (EZ s) wr (by unfold EZ;rw[List.length_map];exact NA.out) (by decide) (show AQ _ _ _ by rw[ZR];exact AQ.of_heap hsz (by simp[ED])))
       have hB6:=hold.size
       obtain⟨N,hN⟩:∃ N,N=m+d:=⟨_,rfl⟩
       have hwN:IntKind.i64.wrap ((m:Int)+(d:Int))=(N:Int):=by rw[show (m:Int)+(d:Int)=(N:Int) by omega];exact IntWalk.i64_in _ (by omega)
       have hN1:m < N:=by omega
       have RP:N≤316:=by omega
       have hNd:N - m=d:=by omega
       rw[←hN]at HU
       have vM:¬ (j:Int) < (j:Int):=by omega
       clear hN hR hold Xi hsz hor HF Qu Hor
       go_wp2_with fail
       refine (HT.out).mono ?_
       rintro e w8 ⟨hr8,Kk⟩
       have vN:=Lib.hid (OD.out.below (Kk.mono hB6) hbw)
       cases ht8:Em (EZ s) with
       | bad z=>
        have he:=BK hr8 ht8
        subst he
        have HU:=Lib.hid (show R=.bad z by rw[HU.out,ht8];rfl)
        clear hr8 Kk ht8
        unfold Bo
        go_wp2_with fail
        exact⟨rfl,Aj HU.out,vN.out⟩
       | ok ls=>
        obtain⟨hc8,tp,he,ht⟩:=BP hr8 ht8
        subst he
        have els:BC (EZ s)=ls:=by
         unfold Em at ht8
         rw[if_pos hc8]at ht8
         injection ht8
        rw[←els]at ht
        have HTb:=Lib.hid (show Jr w8 base tp ls by rw[←els];exact Mf ht (Nat.le_trans hbw hB6) hc8)
        replace HU:=Lib.hid (HU.out.trans (by rw[ht8,then_ok]))
        have zh:=Lib.hid (AV.below Vy.out Kk (AV.lt Vy.out))
        have Jq:=Lib.hid (Rp.out.below Kk (AV.lt Rp.out))
        have HI8:=Lib.hid (HI.out.old vN.out)
        have AKL:base≤w8.heap.size:=Nat.le_trans hbw vN.out.size
        have HL:=Lib.hid (nI base base g q tp A n c p N xs ls vo vk w8 hq AKL Jq.out zh.out ZT HI8.out HTb.out RP)
        clear hr8 Kk ht8 els ht hc8 HT
        go_wp2_with fail
        refine (HL.out).mono ?_
        rintro e w9 ⟨hr9,vK⟩
        have HO9:=Lib.hid (vN.out.trans (vK.mono vN.out.size))
        cases hl9:JZ (AO xs) ls N N p [] with
        | bad z=>
         have he:=BK hr9 hl9
         subst he
         have HU:=Lib.hid (show R=.bad z by rw[HU.out,hl9];rfl)
         clear hr9 vK hl9
         unfold Bo
         go_wp2_with fail
         exact⟨rfl,Aj HU.out,HO9.out⟩
        | ok a=>
         obtain⟨A9,c9,he,hll,hown,hs9,hp9⟩:=BP hr9 hl9
         subst he
         replace HU:=Lib.hid (HU.out.trans (by rw[hl9,then_ok]))
         obtain⟨p9,l⟩:=a
         dsimp only at hll hown hs9 hp9 HU⊢
         obtain⟨g9,c9',e9,rG,hc9,AM9,AGc⟩:=ZV hown (by omega)
         injection e9 with e1 e2 e3
         subst e1 e3
         have AAi:=Lib.hid hown
         have XI:=Lib.hid hs9
         obtain⟨v,hv⟩:∃ v,v=l.getD 256 0:=⟨_,rfl⟩
         have ACP:l[256]?=some v:=by rw[hv,List.getD_eq_getElem?_getD,List.getElem?_eq_getElem (by omega)];rfl
         have hc256:w9.cell? ⟨g9,256,none⟩=some (.int .i64 (v:Int)):=by
          exact vL AGc (by rw[List.getElem?_map,ACP];rfl)
         rw[←hv]at HU
         have AMS:(256:Int) < (N:Int):=by omega
         have Hl:=Lib.hid hll
         clear hr9 vK hl9 hown hs9 hv ACP hll AGc HL
         by_cases hv0:v=0
         ·subst hv0
          have HU:=Lib.hid (show R=.bad 8 by rw[HU.out,if_pos rfl])
          go_wp2_with fail
          refine (Db 8 _).mono ?_
          rintro e M7 ⟨rfl,rfl⟩
          unfold Bo
          go_wp2_with fail
          exact⟨rfl,Aj HU.out,HO9.out⟩
         ·replace HU:=Lib.hid (HU.out.trans (if_neg hv0))
          have hvb:((v:Int) == 0)=false:=by rw[beq_eq_false_iff_ne];omega
          clear hv0
          go_wp2_with fail
          have hmN:(m:Int)≤(N:Int):=by omega
          have hm0:(0:Int)≤(m:Int):=by omega
          have hNc:(N:Int)≤(c9:Int):=by omega
          have hmc:(m:Int)≤(c9:Int):=by omega
          have ANA:¬ (c9=m):=by omega
          have ANB:(m:Int)≠(c9:Int):=by omega
          refine Bp (fun _=>True) 9 (by kernel_rfl) ?_
          have hHeld:True:=True.intro
          obtain⟨M7,dx⟩:∃ M7,M7=w9.drew:=⟨_,rfl⟩
          have QL:Below w9.heap.size w9 M7:=by rw[dx];exact (Below.refl _ _).drew
          have AAi:=Lib.hid (AP AAi.out QL)
          have TP:=Lib.hid (AV.below XI.out QL (AV.lt XI.out))
          have AGd:=Lib.hid (HO9.out.below (QL.mono HO9.out.size) hbw)
          rw[←dx]
          clear dx QL hc256 XI HO9
          refine AA (i:=0) (v:=?zn) (by kernel_rfl) (by kernel_rfl) rfl (by kernel_rfl) (by kernel_rfl) (by kernel_rfl) (fun _ _ _ h=>h) (by rfl) (by assumption) ?Js ?Jt
          case Js=>(intro W hSW;(try dsimp only at hSW);go_simp;try with_reducible rfl)
          (try simp only[Act.put,l0A,l0B,l0C,l0D,l0E,l0F])
          refine AA (i:=1) (v:=?vG) (by kernel_rfl) (by kernel_rfl) rfl (by kernel_rfl) (by kernel_rfl) (by kernel_rfl) (fun _ _ _ h=>h) (by rfl) (by assumption) ?JE ?JF
          case JE=>(intro W hSW;(try dsimp only at hSW);go_simp;try with_reducible rfl)
          (try simp only[Act.put,l0A,l0B,l0C,l0D,l0E,l0F])
          refine AA (i:=2) (v:=?va2) (by kernel_rfl) (by kernel_rfl) rfl (by kernel_rfl) (by kernel_rfl) (by kernel_rfl) (fun _ _ _ h=>h) (by rfl) (by assumption) ?OA ?OB
          case OA=>(intro W hSW;(try dsimp only at hSW);go_simp;try with_reducible rfl)
          (try simp only[Act.put,l0A,l0B,l0C,l0D,l0E,l0F])
          refine AA (i:=4) (v:=?va4) (by kernel_rfl) (by kernel_rfl) rfl (by kernel_rfl) (by kernel_rfl) (by kernel_rfl) (fun _ _ _ h=>h) (by rfl) (by assumption) ?K7 ?K8
          case K7=>(intro W hSW;(try dsimp only at hSW);go_simp;try with_reducible rfl)
          (try simp only[Act.put,l0A,l0B,l0C,l0D,l0E,l0F])
          refine AA (i:=5) (v:=?va5) (by kernel_rfl) (by kernel_rfl) rfl (by kernel_rfl) (by kernel_rfl) (by kernel_rfl) (fun _ _ _ h=>h) (by rfl) (by assumption) ?K9 ?LC
          case K9=>(intro W hSW;(try dsimp only at hSW);go_simp;try with_reducible rfl)
          (try simp only[Act.put,l0A,l0B,l0C,l0D,l0E,l0F])
          refine AA (i:=6) (v:=?va6) (by kernel_rfl) (by kernel_rfl) rfl (by kernel_rfl) (by kernel_rfl) (by kernel_rfl) (fun _ _ _ h=>h) (by rfl) (by assumption) ?Xb ?Xc
          case Xb=>(intro W hSW;(try dsimp only at hSW);go_simp;try with_reducible rfl)
          (try simp only[Act.put,l0A,l0B,l0C,l0D,l0E,l0F])
          obtain⟨gb,ANC,eg,_,_,_,hsl⟩:=ZV AAi.out (by omega)
          injection eg with e1 e2 e3
          injection e1 with e1
          injection e1 with e1
          subst e1 e3
          have htake:(l.take m).length=m:=by rw[List.length_take,Hl.out];omega
          have hdrop:(l.drop m).length=d:=by rw[List.length_drop,Hl.out];exact hNd
          have HT1:=Lib.hid (fun W (h:AQ W (some ⟨g9,0,none⟩) ((l.map BR))) (cc:Nat)=>Xj (some ⟨g9,0,none⟩) m cc (EZ (l.take m)) W (by unfold EZ;rw[List.length_map];exact htake) (by unfold maxLen;omega) (show AQ _ _ _ by rw[ZR,List.map_take];exact AQ.take h m))
          have HT2:=Lib.hid (fun W (h:AQ W (some ⟨g9,0,none⟩) ((l.map BR))) (cc:Nat)=>Xj (some ⟨g9,m,none⟩) d cc (EZ (l.drop m)) W (by unfold EZ;rw[List.length_map];exact hdrop) (by unfold maxLen;omega) (show AQ _ _ _ by rw[ZR,List.map_drop];have:=AQ.drop h m;rwa [Nat.zero_add]at this))
          have NA:=Lib.hid hsl
          have AGe:=AGd.out.size
          clear hsl htake hdrop AAi
          refine AB (i:=3) rfl (by kernel_rfl) (fun K hK=>?_)
          go_simp
          clear hHeld
          go_at_call 205
          refine (HT1.out M7 NA.out _).mono ?_
          rintro e bW ⟨Xg,RQ⟩
          have AD1:=Lib.hid (AGd.out.below (RQ.mono AGe) hbw)
          cases Xk:Em (EZ (l.take m)) with
          | bad z=>
           have he:=BK Xg Xk
           subst he
           have HU:=Lib.hid (show R=.bad z by rw[HU.out,Xk];rfl)
           clear Xg RQ Xk
           unfold Bo
           go_wp2_with fail
           exact⟨rfl,Aj HU.out,AD1.out⟩
          | ok l1=>
           obtain⟨AD2,p1,he,ht⟩:=BP Xg Xk
           subst he
           have els:BC (EZ (l.take m))=l1:=by
            unfold Em at Xk
            rw[if_pos AD2]at Xk
            injection Xk
           rw[←els]at ht
           have AD3:=Lib.hid (show Jr bW base p1 l1 by rw[←els];exact Mf ht (Nat.le_trans hbw AGe) AD2)
           replace HU:=Lib.hid (HU.out.trans (by rw[Xk,then_ok]))
           have ZW:=Lib.hid (AV.below TP.out RQ (AV.lt TP.out))
           have NA:=Lib.hid (AQ.below NA.out RQ)
           have AGf:=AD1.out.size
           clear Xg RQ Xk els ht AD2 HT1 TP
           refine hK.out _ _ True.intro (fun hHeld=>?_)
           clear hK K
           (try simp only[Act.put,l0A,l0B,l0C,l0D,l0E,l0F])
           refine AB (i:=7) rfl (by kernel_rfl) (fun K hK=>?_)
           go_simp
           go_at_call 205
           refine (HT2.out bW NA.out _).mono ?_
           rintro e rz ⟨AAj,ZX⟩
           have AGg:=Lib.hid (AD1.out.below (ZX.mono AGf) hbw)
           cases Xl:Em (EZ (l.drop m)) with
           | bad z=>
            have he:=BK AAj Xl
            subst he
            have HU:=Lib.hid (show R=.bad z by rw[HU.out,Xl];rfl)
            clear AAj ZX Xl
            unfold Bo
            go_wp2_with fail
            exact⟨rfl,Aj HU.out,AGg.out⟩
           | ok l2=>
            obtain⟨AD4,p2',he,ht⟩:=BP AAj Xl
            subst he
            have els:BC (EZ (l.drop m))=l2:=by
             unfold Em at Xl
             rw[if_pos AD4]at Xl
             injection Xl
            rw[←els]at ht
            have AKM:=Lib.hid (show Jr rz base p2' l2 by rw[←els];exact Mf ht (Nat.le_trans hbw AGf) AD4)
            have AD3:=Lib.hid (AD3.out.old (B0:=0) ZX)
            replace HU:=Lib.hid (HU.out.trans (by rw[Xl,then_ok]))
            have nJ:=Lib.hid (AV.below ZW.out ZX (AV.lt ZW.out))
            clear AAj ZX Xl els ht AD4 HT2 ZW NA
            refine hK.out _ _ True.intro (fun hHeld=>?_)
            clear hK K
            (try simp only[Act.put,l0A,l0B,l0C,l0D,l0E,l0F])
            refine AB (i:=8) rfl (by kernel_rfl) (fun K hK=>?_)
            go_simp
            refine hK.out _ _ True.intro (fun hHeld=>?_)
            clear hK K
            (try simp only[Act.put,l0A,l0B,l0C,l0D,l0E,l0F])
            refine BH rfl (by kernel_rfl) (by kernel_rfl) (fun K hK=>?_)
            go_simp
            refine hK.out _ _ ?_
            clear hK K
            go_wp2_with fail
            go_ret2
            exact⟨Fa HU.out ⟨p1,p2',rfl,AD3.out,AKM.out,nJ.out,hp9⟩,AGg.out⟩
end Go.Proofs.YtabdianhoabhhaaGreatDoor.Inf
namespace Go.Proofs.YtabdianhoabhhaaGreatDoor.Inf
open Go Go.RowKit Go.Proofs.YtabdianhoabhhaaGreatDoor Go.Proofs.YtabdianhoabhhaaGreatDoor.Bits Go.Proofs.YtabdianhoabhhaaGreatDoor.Code
set_option linter.unusedVariables false
set_option linter.unusedSimpArgs false
def Md:List TypeId:=[177,213,5,3]
theorem kT2 {base:Nat} {w w':World} (hk:AJ base JC w w'):AJ base Md w w':=hk.mono (Nat.le_refl _) (fun t ht=>by simp only[JC,List.mem_cons,List.not_mem_nil,or_false]at ht;rcases ht with h | h | h <;> subst h <;> simp[Md])
theorem kT3 {base:Nat} {w w':World} (hk:AJ base Fp w w'):AJ base JC w w':=kT hk (Nat.le_refl _)
theorem ER.AAa {w w':World} {base g q:Nat} {A:Option Addr} {n c pos pos':Nat} {out:List UInt8} {ks:List Nat} (h:ER w base g q A n c pos out ks) (hk:AJ base Fp w w') (hs:EB w' q A n c pos') (hp:pos'≤8*n):ER w' base g q A n c pos' out ks:=by
 obtain⟨hg,hq,_,Jp,⟨vo,vk,hb,ho,hk'⟩,_⟩:=h
 exact⟨hg,hq,hp,Jp,⟨vo,vk,hk.blk hb (by decide),hk.own ho (by decide),hk.own hk' (by decide)⟩,hs⟩
theorem ER.Me {w:World} {base g q:Nat} {A:Option Addr} {n c pos:Nat} {out:List UInt8} {ks:List Nat} (h:ER w base g q A n c pos out ks):∃ vo vk,AV w g 177 #[.pointer (some ⟨q,0,none⟩),vo,vk]:=by
 obtain⟨_,_,_,_,⟨vo,vk,hb,_,_⟩,_⟩:=h
 exact⟨vo,vk,hb⟩
theorem FD (l:List Nat):BC (EZ l)=l:=by
 unfold BC EZ
 rw[List.map_map]
 exact (List.map_congr_left (fun x _=>by simp)).trans (List.map_id l)
theorem ZN:GK (EZ BU)=0:=by decide +kernel
theorem ZO:GK (EZ Co)=0:=by decide +kernel
set_option maxRecDepth 100000 in
set_option maxHeartbeats 1600000 in
theorem O6 {w:World} {base g q:Nat} {A:Option Addr} {n c pos:Nat} {out:List UInt8} {ks:List Nat} (h:ER w base g q A n c pos out ks):∃ vo Ak kl ck,kl=ks.length∧AV w g 177 #[.pointer (some ⟨q,0,none⟩),vo,.slice Ak kl ck]∧w.ownsRow base 5 1 vo out.length (out.map Eh)∧w.ownsRow base 3 1 (.slice Ak kl ck) kl (ks.map BR):=by
 obtain⟨_,_,_,_,⟨vo,vk,hb,ho,hk⟩,_⟩:=h
 obtain⟨Ak,ck,rfl,_⟩:=Ad hk
 exact⟨vo,Ak,_,ck,rfl,hb,ho,hk⟩
theorem dh {w:World} {o:Obj} {g:Nat} {t:TypeId} {a vo vk uq vk':Value} (h1:AV w g t #[a,vo,vk]) (h2:AV (w.alloc o) g t #[a,uq,vk']):vo=uq:=by
 have:=(h1.alloc o).symm.trans h2
 injection this with this
 injection this with this
 simp at this
 exact this.1
set_option maxRecDepth 100000 in
set_option maxHeartbeats 1600000 in
theorem AAb (base g q:Nat) (A:Option Addr) (n c pos:Nat) (xs:List UInt8) (out:List UInt8) (ks:List Nat) (w:World) (h:ER w base g q A n c pos out ks) (hi:FJ w base A n xs) (hn:n≤1000000) (hkl:ks.length≤1000000) :
  Calls Tryz.prog 122 #[.pointer (some ⟨g,0,none⟩)] w fun e w'=>
   Eo (Eb (AO xs) pos out) (fun a e w'=>e=.returned (.bool a.1)∧ER w' base g q A n c a.2.2.1 a.2.2.2 (ks++[a.2.1])) e w'∧AJ base Md w w':=by
 obtain⟨R,hR⟩:∃ R,R=Eb (AO xs) pos out:=⟨_,rfl⟩
 rw[←hR]
 unfold Eb at hR
 have HU:=Lib.hid hR
 have HR1:=Lib.hid h
 have HI:=Lib.hid hi
 have hq:=h.qle
 have HG:=Lib.hid (TI base g q A n c pos 1 xs out ks w h hi (by omega))
 clear h hi hR
 go_enter Tryz.func122,Tryz.ntmps122
 go_wp2_with fail
 refine (HG.out).mono ?_
 rintro e w2 ⟨hr2,hk2⟩
 have F3:=Lib.hid (kT2 hk2)
 have HI2:=Lib.hid (HI.out.keeps hk2)
 cases hg2:CJ (AO xs) pos 1 with
 | bad z=>
  have he:=BK hr2 hg2
  subst he
  have HU:=Lib.hid (show R=.bad z by rw[HU.out,hg2];rfl)
  clear hr2 hk2 hg2
  unfold Bo
  go_wp2_with fail
  exact⟨rfl,Aj HU.out,F3.out⟩
 | ok a=>
  obtain⟨he,AGP⟩:=BP hr2 hg2
  subst he
  replace HU:=Lib.hid (HU.out.trans (by rw[hg2,then_ok]))
  have HR2:=Lib.hid AGP
  obtain⟨x,p2⟩:=a
  dsimp only at HU HR2⊢
  obtain⟨lb,hlb⟩:∃ lb,lb=(x == 1):=⟨_,rfl⟩
  have AMz:((x:Int) == 1)=lb:=by
   rw[hlb,Bool.eq_iff_iff]
   simp only[beq_iff_eq]
   omega
  rw[←hlb]at HU
  have HG:=Lib.hid (TI base g q A n c p2 2 xs out ks w2 HR2.out HI2.out (by omega))
  clear hr2 hk2 hg2 AGP hlb
  go_wp2_with fail
  refine (HG.out).mono ?_
  rintro e w3 ⟨hr3,hk3⟩
  have NT:=Lib.hid (F3.out.trans (kT2 hk3))
  have HI3:=Lib.hid (HI2.out.keeps hk3)
  cases hg3:CJ (AO xs) p2 2 with
  | bad z=>
   have he:=BK hr3 hg3
   subst he
   have HU:=Lib.hid (show R=.bad z by rw[HU.out,hg3];rfl)
   clear hr3 hk3 hg3
   unfold Bo
   go_wp2_with fail
   exact⟨rfl,Aj HU.out,NT.out⟩
  | ok a=>
   obtain⟨he,uu⟩:=BP hr3 hg3
   subst he
   have hk4:=Ep hg3
   replace HU:=Lib.hid (HU.out.trans (by rw[hg3,then_ok]))
   have HR3:=Lib.hid uu
   obtain⟨k,p3⟩:=a
   dsimp only at HU HR3 hk4⊢
   clear hr3 hk3 hg3 uu HG
   rcases (by omega:k=0∨k=1∨k=2∨k=3) with hk | hk | hk | hk
   ·subst hk
    replace HU:=Lib.hid (HU.out.trans (if_pos rfl))
    have HG:=Lib.hid (uy base g q A n c p3 xs out ks w3 HR3.out HI3.out)
    have hrb:=HR3
    go_wp2_with fail
    refine (HG.out).mono ?_
    rintro e w4 ⟨hr4,hk4⟩
    have J5:=Lib.hid (NT.out.trans (kT2 hk4))
    cases hg4:Fe (AO xs) p3 out with
    | bad z=>
     have he:=BK hr4 hg4
     subst he
     have HU:=Lib.hid (show R=.bad z by rw[HU.out,hg4];rfl)
     clear hr4 hk4 hg4
     unfold Bo
     go_wp2_with fail
     exact⟨rfl,Aj HU.out,J5.out⟩
    | ok a=>
     obtain⟨he,ZP⟩:=BP hr4 hg4
     subst he
     replace HU:=Lib.hid (HU.out.trans (by rw[hg4,then_ok]))
     have HR4:=Lib.hid ZP
     obtain⟨p4,o4⟩:=a
     dsimp only at HU HR4⊢
     clear hr4 hk4 hg4 ZP HG hrb
     obtain⟨vo,Ak,kl,ck,uz,hb,ho,hkk⟩:=O6 HR4.out
     have hbw:base≤w4.heap.size:=HR4.out.bw
     have c2:w4.cell? ⟨g,2,none⟩=some (.slice Ak kl ck):=by rw[hb.cell];rfl
     have f2:=hb.frozen 2
     have hlt:=hb.lt
     have AGQ:kl≤1000000:=by omega
     have TJ:Below w4.heap.size w4 (w4.alloc (.cells #[.int .i64 0] 3)):=(Below.refl _ _).alloc (Nat.le_refl _) _
     have Cz:=Lib.hid (AP hkk TJ)
     have HB2:=Lib.hid (hb.below TJ hb.lt)
     have hbw2:base≤(w4.alloc (.cells #[.int .i64 0] 3)).heap.size:=Nat.le_trans hbw TJ.size
     have HZ:Hid (AQ (w4.alloc (.cells #[.int .i64 0] 3)) (some ⟨w4.heap.size,0,none⟩) [.int .i64 0]):=Lib.hid (AQ.of_heap (heap_alloc_new _ _) rfl)
     have ZQ:=Lib.hid uz
     have HKA:=Lib.hid (AJ.of_below (T:=Md) TJ hbw)
     clear hb ho hkk TJ uz
     go_wp2_with (at_builtin;refine AY _ rfl (.tmp 47) (.tmp 49) _ rfl base 3 _ 1 8 bX _ kl (ks.map BR) rfl Cz.out (some ⟨w4.heap.size,0,none⟩) 1 1 [.int .i64 0] rfl rfl HZ.out (by simp[Value.oneCell']) (by simp) (by unfold maxLen;omega) (by omega) hbw2 ?_;intro v8 w8 Au Dj _;obtain⟨A8,d8,rfl,_⟩:=Ad Au;have hkp:AJ base [3] (w4.alloc (.cells #[.int .i64 0] 3)) w8:=(AJ.refl _ _ _).grown Cz.out Dj (by simp) hbw2;have Jq:=Lib.hid (hkp.blk HB2.out (by decide));have qz:=Lib.hid hkp;have GL:=Lib.hid Au;have c8:w8.cell? ⟨g,2,none⟩=some (.slice Ak kl ck):=(Jq.out.cell 2).trans rfl;have f8:=Jq.out.frozen 2;clear Au Dj hkp)
     go_ret
     have hgg:base≤g:=by obtain⟨hg,_⟩:=HR4.out;exact hg
     have k8:AJ base [3] w4 w8:=(AJ.of_below ((Below.refl _ _).alloc (Nat.le_refl _) _) hbw).trans qz.out
     have k9:AJ base [177] w8 (w8.setCell ⟨g,2,none⟩ (.slice A8 (kl+1) d8)):=(AJ.refl _ _ _).Dc Jq.out (by simp) hgg 2 _
     have k89:AJ base [3,177] w4 (w8.setCell ⟨g,2,none⟩ (.slice A8 (kl+1) d8)):=(k8.mono (Nat.le_refl _) (by simp)).trans (k9.mono (Nat.le_refl _) (by simp))
     refine⟨Fa HU.out ⟨rfl,?_⟩,J5.out.trans (k89.mono (Nat.le_refl _) (by simp[Md]))⟩
     obtain⟨h1,h2,h3,h4,⟨uq,vk',h5,h6,h7⟩,h8⟩:=HR4.out
     have e5:uq=vo:=by
      have:=dh h5 HB2.out
      exact this
     subst e5
     refine⟨h1,h2,h3,h4,⟨uq,.slice A8 (kl+1) d8,Jq.out.Ca 2 _,k89.own h6 (by decide),?_⟩,k89.blk h8 (by decide)⟩
     have h9:=k9.own GL.out (by decide)
     rw[List.length_append,←ZQ.out,List.map_append]
     exact h9
   ·subst hk
    replace HU:=Lib.hid (HU.out.trans ((if_neg (by omega)).trans (if_pos rfl)))
    have HF:=Lib.hid (Pz w3)
    have AAc:base≤w3.heap.size:=HR3.out.bw
    go_wp2_with fail
    refine (HF.out).mono ?_
    rintro e w4 ⟨Aa,ca,Ab,cb,rfl,ha,hb,hb4⟩
    have J5:=Lib.hid (NT.out.trans (AJ.of_below hb4 AAc))
    have HI4:=Lib.hid (HI3.out.keeps (T:=JC) (AJ.of_below hb4 AAc))
    have HR4:=Lib.hid (HR3.out.below hb4)
    obtain⟨_,_,e1,_,_,sa,_⟩:=Ad ha
    injection e1 with e1 _ e2
    subst e1 e2
    obtain⟨_,_,e1,_,_,sb,_⟩:=Ad hb
    injection e1 with e1 _ e2
    subst e1 e2
    have SA:=Lib.hid sa
    have SB:=Lib.hid sb
    have HM:=Lib.hid (Sw Aa 288 ca (EZ BU) w4 (by decide) (show AQ _ _ _ by rw[ZR];exact sa) ZN)
    have u6:base≤w4.heap.size:=HR4.out.bw
    clear ha hb hb4 sa sb HF
    go_wp2_with fail
    refine (HM.out).mono ?_
    rintro e w5 ⟨⟨pa,rfl,hta⟩,hb5⟩
    rw[FD]at hta
    have HTa:Hid (Jr w5 base pa BU):=Lib.hid (by
     rw[←FD BU]at hta⊢
     exact Mf hta u6 ZN)
    have MM:=Lib.hid (J5.out.trans (AJ.of_below hb5 u6))
    have HI5:=Lib.hid (HI4.out.keeps (T:=JC) (AJ.of_below hb5 u6))
    have Yq:=Lib.hid (HR4.out.below hb5)
    have SB:=Lib.hid (AQ.below SB.out hb5)
    have HM:=Lib.hid (Sw Ab 32 cb (EZ Co) w5 (by decide) (show AQ _ _ _ by rw[ZR];exact SB.out) ZO)
    have ADd:base≤w5.heap.size:=Yq.out.bw
    clear hb5 hta
    go_wp2_with fail
    refine (HM.out).mono ?_
    rintro e w6 ⟨⟨pb,rfl,htb⟩,hb6⟩
    rw[FD]at htb
    have HTb:Hid (Jr w6 base pb Co):=Lib.hid (by
     rw[←FD Co]at htb⊢
     exact Mf htb ADd ZO)
    have HTa:=Lib.hid (HTa.out.old (B0:=0) hb6)
    have Lf:=Lib.hid (MM.out.trans (AJ.of_below hb6 ADd))
    have HI6:=Lib.hid (HI5.out.keeps (T:=JC) (AJ.of_below hb6 ADd))
    have Lh:=Lib.hid (Yq.out.below hb6)
    clear hb6 htb HM SA SB
    have HG:=Lib.hid (u7 base g q pa pb A n c p3 xs out ks BU Co w6 Lh.out HI6.out HTa.out HTb.out hn)
    have vB:(AO xs).length=(AO xs).length:=rfl
    clear vB
    go_wp2_with fail
    refine (HG.out).mono ?_
    rintro e w7 ⟨Jh,O7⟩
    have U6:=Lib.hid (Lf.out.trans (kT2 O7))
    cases ET:Ew (AO xs) BU Co ((AO xs).length+1) p3 out with
    | bad z=>
     have he:=BK Jh ET
     subst he
     have HU:=Lib.hid (show R=.bad z by rw[HU.out,ET];rfl)
     clear Jh O7 ET
     unfold Bo
     go_wp2_with fail
     exact⟨rfl,Aj HU.out,U6.out⟩
    | ok a=>
     obtain⟨he,TK⟩:=BP Jh ET
     subst he
     replace HU:=Lib.hid (HU.out.trans (by rw[ET,then_ok]))
     have Nv:=Lib.hid TK
     obtain⟨p7,o7⟩:=a
     dsimp only at HU Nv⊢
     clear Jh O7 ET TK HG
     obtain⟨vo,Ak,kl,ck,uz,hb,ho,hkk⟩:=O6 Nv.out
     have hbw:base≤w7.heap.size:=Nv.out.bw
     have c2:w7.cell? ⟨g,2,none⟩=some (.slice Ak kl ck):=by rw[hb.cell];rfl
     have f2:=hb.frozen 2
     have hlt:=hb.lt
     have AGQ:kl≤1000000:=by omega
     have TJ:Below w7.heap.size w7 (w7.alloc (.cells #[.int .i64 1] 3)):=(Below.refl _ _).alloc (Nat.le_refl _) _
     have Cz:=Lib.hid (AP hkk TJ)
     have HB2:=Lib.hid (hb.below TJ hb.lt)
     have hbw2:base≤(w7.alloc (.cells #[.int .i64 1] 3)).heap.size:=Nat.le_trans hbw TJ.size
     have HZ:Hid (AQ (w7.alloc (.cells #[.int .i64 1] 3)) (some ⟨w7.heap.size,0,none⟩) [.int .i64 1]):=Lib.hid (AQ.of_heap (heap_alloc_new _ _) rfl)
     have ZQ:=Lib.hid uz
     have HKA:=Lib.hid (AJ.of_below (T:=Md) TJ hbw)
     clear hb ho hkk TJ uz
     go_wp2_with (at_builtin;refine AY _ rfl (.tmp 47) (.tmp 49) _ rfl base 3 _ 1 8 bX _ kl (ks.map BR) rfl Cz.out (some ⟨w7.heap.size,0,none⟩) 1 1 [.int .i64 1] rfl rfl HZ.out (by simp[Value.oneCell']) (by simp) (by unfold maxLen;omega) (by omega) hbw2 ?_;intro v8 w8 Au Dj _;obtain⟨A8,d8,rfl,_⟩:=Ad Au;have hkp:AJ base [3] (w7.alloc (.cells #[.int .i64 1] 3)) w8:=(AJ.refl _ _ _).grown Cz.out Dj (by simp) hbw2;have Jq:=Lib.hid (hkp.blk HB2.out (by decide));have qz:=Lib.hid hkp;have GL:=Lib.hid Au;have c8:w8.cell? ⟨g,2,none⟩=some (.slice Ak kl ck):=(Jq.out.cell 2).trans rfl;have f8:=Jq.out.frozen 2;clear Au Dj hkp)
     go_ret
     have hgg:base≤g:=by obtain⟨hg,_⟩:=Nv.out;exact hg
     have k8:AJ base [3] w7 w8:=(AJ.of_below ((Below.refl _ _).alloc (Nat.le_refl _) _) hbw).trans qz.out
     have k9:AJ base [177] w8 (w8.setCell ⟨g,2,none⟩ (.slice A8 (kl+1) d8)):=(AJ.refl _ _ _).Dc Jq.out (by simp) hgg 2 _
     have k89:AJ base [3,177] w7 (w8.setCell ⟨g,2,none⟩ (.slice A8 (kl+1) d8)):=(k8.mono (Nat.le_refl _) (by simp)).trans (k9.mono (Nat.le_refl _) (by simp))
     refine⟨Fa HU.out ⟨rfl,?_⟩,U6.out.trans (k89.mono (Nat.le_refl _) (by simp[Md]))⟩
     obtain⟨h1,h2,h3,h4,⟨uq,vk',h5,h6,h7⟩,h8⟩:=Nv.out
     have e5:uq=vo:=by
      have:=dh h5 HB2.out
      exact this
     subst e5
     refine⟨h1,h2,h3,h4,⟨uq,.slice A8 (kl+1) d8,Jq.out.Ca 2 _,k89.own h6 (by decide),?_⟩,k89.blk h8 (by decide)⟩
     have h9:=k9.own GL.out (by decide)
     rw[List.length_append,←ZQ.out,List.map_append]
     exact h9
   ·subst hk
    replace HU:=Lib.hid (HU.out.trans ((if_neg (by omega)).trans ((if_neg (by omega)).trans (if_pos rfl))))
    obtain⟨vo0,vk0,AGR⟩:=HR3.out.Me
    have AAc:base≤w3.heap.size:=HR3.out.bw
    have HC:=Lib.hid (AAd base g q A n c p3 xs vo0 vk0 w3 hq AAc AGR HR3.out.src HR3.out.zm HI3.out)
    clear AGR
    go_wp2_with fail
    refine (HC.out).mono ?_
    rintro e w4 ⟨hr4,hk4⟩
    have hkk:=hk4.Ji
    have J5:=Lib.hid (NT.out.trans (kT2 (kT3 hkk)))
    cases hg4:Mg (AO xs) p3 with
    | bad z=>
     have he:=BK hr4 hg4
     subst he
     have HU:=Lib.hid (show R=.bad z by rw[HU.out,hg4];rfl)
     clear hr4 hk4 hg4 hkk
     unfold Bo
     go_wp2_with fail
     exact⟨rfl,Aj HU.out,J5.out⟩
    | ok a=>
     obtain⟨pa,pb,he,hta,htb,hs4,Ro⟩:=BP hr4 hg4
     subst he
     replace HU:=Lib.hid (HU.out.trans (by rw[hg4,then_ok]))
     have HI4:=Lib.hid (HI3.out.keeps hkk)
     have HR4:=Lib.hid (HR3.out.AAa hkk hs4 Ro)
     have HTa:=Lib.hid hta
     have HTb:=Lib.hid htb
     obtain⟨p4,la,lb'⟩:=a
     dsimp only at HU HR4 HTa HTb⊢
     clear hr4 hk4 hg4 hkk hta htb hs4 Ro HC
     have HG:=Lib.hid (u7 base g q pa pb A n c p4 xs out ks la lb' w4 HR4.out HI4.out HTa.out HTb.out hn)
     have vB:(AO xs).length=(AO xs).length:=rfl
     clear vB
     go_wp2_with fail
     refine (HG.out).mono ?_
     rintro e w7 ⟨Jh,O7⟩
     have U6:=Lib.hid (J5.out.trans (kT2 O7))
     cases ET:Ew (AO xs) la lb' ((AO xs).length+1) p4 out with
     | bad z=>
      have he:=BK Jh ET
      subst he
      have HU:=Lib.hid (show R=.bad z by rw[HU.out,ET];rfl)
      clear Jh O7 ET
      unfold Bo
      go_wp2_with fail
      exact⟨rfl,Aj HU.out,U6.out⟩
     | ok a=>
      obtain⟨he,TK⟩:=BP Jh ET
      subst he
      replace HU:=Lib.hid (HU.out.trans (by rw[ET,then_ok]))
      have Nv:=Lib.hid TK
      obtain⟨p7,o7⟩:=a
      dsimp only at HU Nv⊢
      clear Jh O7 ET TK HG
      obtain⟨vo,Ak,kl,ck,uz,hb,ho,hkk⟩:=O6 Nv.out
      have hbw:base≤w7.heap.size:=Nv.out.bw
      have c2:w7.cell? ⟨g,2,none⟩=some (.slice Ak kl ck):=by rw[hb.cell];rfl
      have f2:=hb.frozen 2
      have hlt:=hb.lt
      have AGQ:kl≤1000000:=by omega
      have TJ:Below w7.heap.size w7 (w7.alloc (.cells #[.int .i64 2] 3)):=(Below.refl _ _).alloc (Nat.le_refl _) _
      have Cz:=Lib.hid (AP hkk TJ)
      have HB2:=Lib.hid (hb.below TJ hb.lt)
      have hbw2:base≤(w7.alloc (.cells #[.int .i64 2] 3)).heap.size:=Nat.le_trans hbw TJ.size
      have HZ:Hid (AQ (w7.alloc (.cells #[.int .i64 2] 3)) (some ⟨w7.heap.size,0,none⟩) [.int .i64 2]):=Lib.hid (AQ.of_heap (heap_alloc_new _ _) rfl)
      have ZQ:=Lib.hid uz
      have HKA:=Lib.hid (AJ.of_below (T:=Md) TJ hbw)
      clear hb ho hkk TJ uz
      go_wp2_with (at_builtin;refine AY _ rfl (.tmp 47) (.tmp 49) _ rfl base 3 _ 1 8 bX _ kl (ks.map BR) rfl Cz.out (some ⟨w7.heap.size,0,none⟩) 1 1 [.int .i64 2] rfl rfl HZ.out (by simp[Value.oneCell']) (by simp) (by unfold maxLen;omega) (by omega) hbw2 ?_;intro v8 w8 Au Dj _;obtain⟨A8,d8,rfl,_⟩:=Ad Au;have hkp:AJ base [3] (w7.alloc (.cells #[.int .i64 2] 3)) w8:=(AJ.refl _ _ _).grown Cz.out Dj (by simp) hbw2;have Jq:=Lib.hid (hkp.blk HB2.out (by decide));have qz:=Lib.hid hkp;have GL:=Lib.hid Au;have c8:w8.cell? ⟨g,2,none⟩=some (.slice Ak kl ck):=(Jq.out.cell 2).trans rfl;have f8:=Jq.out.frozen 2;clear Au Dj hkp)
      go_ret
      have hgg:base≤g:=by obtain⟨hg,_⟩:=Nv.out;exact hg
      have k8:AJ base [3] w7 w8:=(AJ.of_below ((Below.refl _ _).alloc (Nat.le_refl _) _) hbw).trans qz.out
      have k9:AJ base [177] w8 (w8.setCell ⟨g,2,none⟩ (.slice A8 (kl+1) d8)):=(AJ.refl _ _ _).Dc Jq.out (by simp) hgg 2 _
      have k89:AJ base [3,177] w7 (w8.setCell ⟨g,2,none⟩ (.slice A8 (kl+1) d8)):=(k8.mono (Nat.le_refl _) (by simp)).trans (k9.mono (Nat.le_refl _) (by simp))
      refine⟨Fa HU.out ⟨rfl,?_⟩,U6.out.trans (k89.mono (Nat.le_refl _) (by simp[Md]))⟩
      obtain⟨h1,h2,h3,h4,⟨uq,vk',h5,h6,h7⟩,h8⟩:=Nv.out
      have e5:uq=vo:=by
       have:=dh h5 HB2.out
       exact this
      subst e5
      refine⟨h1,h2,h3,h4,⟨uq,.slice A8 (kl+1) d8,Jq.out.Ca 2 _,k89.own h6 (by decide),?_⟩,k89.blk h8 (by decide)⟩
      have h9:=k9.own GL.out (by decide)
      rw[List.length_append,←ZQ.out,List.map_append]
      exact h9
   ·replace HU:=Lib.hid (show R=.bad 4 from HU.out.trans (by rw[if_neg (by omega),if_neg (by omega),if_neg (by omega)]))
    subst hk
    go_wp2_with fail
    refine (Db 4 _).mono ?_
    rintro e w5 ⟨rfl,rfl⟩
    unfold Bo
    go_wp2_with fail
    exact⟨rfl,Aj HU.out,NT.out⟩
end Go.Proofs.YtabdianhoabhhaaGreatDoor.Inf
namespace Go.Proofs.YtabdianhoabhhaaGreatDoor.Inf
open Go Go.RowKit Go.Proofs.YtabdianhoabhhaaGreatDoor Go.Proofs.YtabdianhoabhhaaGreatDoor.Bits Go.Proofs.YtabdianhoabhhaaGreatDoor.Code
set_option linter.unusedVariables false
set_option linter.unusedSimpArgs false
structure EU (w:World) (B g2 g3 g4 g5:Nat) (v2 v3 v4 v5:Value):Prop where
 nA:B≤g2
 jY:B≤g3
 le4:B≤g4
 le5:B≤g5
 b2:AV w g2 23 #[v2]
 b3:AV w g3 3 #[v3]
 b4:AV w g4 89 #[v4]
 b5:AV w g5 24 #[v5]
theorem EL {w:World} {g g':Nat} {t t':TypeId} {cs cs':Array Value} (h:AV w g t cs) (h':AV w g' t' cs') (hne:t≠t'):g≠g':=by
 rintro rfl
 have:=h.symm.trans h'
 injection this with this
 injection this with _ e _
 exact hne e
theorem EU.s2 {w:World} {B g2 g3 g4 g5:Nat} {v2 v3 v4 v5:Value} (h:EU w B g2 g3 g4 g5 v2 v3 v4 v5) (u:Value):EU (w.setCell ⟨g2,0,none⟩ u) B g2 g3 g4 g5 u v3 v4 v5:=
 ⟨h.nA,h.jY,h.le4,h.le5,h.b2.Ca 0 u,h.b3.far (p:=⟨g2,0,none⟩) (EL h.b3 h.b2 (by decide)) u,h.b4.far (p:=⟨g2,0,none⟩) (EL h.b4 h.b2 (by decide)) u,h.b5.far (p:=⟨g2,0,none⟩) (EL h.b5 h.b2 (by decide)) u⟩
theorem EU.s3 {w:World} {B g2 g3 g4 g5:Nat} {v2 v3 v4 v5:Value} (h:EU w B g2 g3 g4 g5 v2 v3 v4 v5) (u:Value):EU (w.setCell ⟨g3,0,none⟩ u) B g2 g3 g4 g5 v2 u v4 v5:=
 ⟨h.nA,h.jY,h.le4,h.le5,h.b2.far (p:=⟨g3,0,none⟩) (EL h.b2 h.b3 (by decide)) u,h.b3.Ca 0 u,h.b4.far (p:=⟨g3,0,none⟩) (EL h.b4 h.b3 (by decide)) u,h.b5.far (p:=⟨g3,0,none⟩) (EL h.b5 h.b3 (by decide)) u⟩
theorem EU.s4 {w:World} {B g2 g3 g4 g5:Nat} {v2 v3 v4 v5:Value} (h:EU w B g2 g3 g4 g5 v2 v3 v4 v5) (u:Value):EU (w.setCell ⟨g4,0,none⟩ u) B g2 g3 g4 g5 v2 v3 u v5:=
 ⟨h.nA,h.jY,h.le4,h.le5,h.b2.far (p:=⟨g4,0,none⟩) (EL h.b2 h.b4 (by decide)) u,h.b3.far (p:=⟨g4,0,none⟩) (EL h.b3 h.b4 (by decide)) u,h.b4.Ca 0 u,h.b5.far (p:=⟨g4,0,none⟩) (EL h.b5 h.b4 (by decide)) u⟩
theorem EU.s5 {w:World} {B g2 g3 g4 g5:Nat} {v2 v3 v4 v5:Value} (h:EU w B g2 g3 g4 g5 v2 v3 v4 v5) (u:Value):EU (w.setCell ⟨g5,0,none⟩ u) B g2 g3 g4 g5 v2 v3 v4 u:=
 ⟨h.nA,h.jY,h.le4,h.le5,h.b2.far (p:=⟨g5,0,none⟩) (EL h.b2 h.b5 (by decide)) u,h.b3.far (p:=⟨g5,0,none⟩) (EL h.b3 h.b5 (by decide)) u,h.b4.far (p:=⟨g5,0,none⟩) (EL h.b4 h.b5 (by decide)) u,h.b5.Ca 0 u⟩
theorem EU.below {w w':World} {B g2 g3 g4 g5:Nat} {v2 v3 v4 v5:Value} (h:EU w B g2 g3 g4 g5 v2 v3 v4 v5) (hb:Below w.heap.size w w'):EU w' B g2 g3 g4 g5 v2 v3 v4 v5:=
 ⟨h.nA,h.jY,h.le4,h.le5,h.b2.below hb h.b2.lt,h.b3.below hb h.b3.lt,h.b4.below hb h.b4.lt,h.b5.below hb h.b5.lt⟩
structure AGY (w:World) (g2 g3 g4 g5:Nat) (v2 v3 v4 v5:Value):Prop where
 c2:w.cell? ⟨g2,0,none⟩=some v2
 c3:w.cell? ⟨g3,0,none⟩=some v3
 c4:w.cell? ⟨g4,0,none⟩=some v4
 c5:w.cell? ⟨g5,0,none⟩=some v5
 f2:w.frozen? ⟨g2,0,none⟩=false
 f3:w.frozen? ⟨g3,0,none⟩=false
 f4:w.frozen? ⟨g4,0,none⟩=false
 f5:w.frozen? ⟨g5,0,none⟩=false
theorem EU.cells {w:World} {B g2 g3 g4 g5:Nat} {v2 v3 v4 v5:Value} (h:EU w B g2 g3 g4 g5 v2 v3 v4 v5):AGY w g2 g3 g4 g5 v2 v3 v4 v5:=
 ⟨h.b2.cell 0,h.b3.cell 0,h.b4.cell 0,h.b5.cell 0,h.b2.frozen 0,h.b3.frozen 0,h.b4.frozen 0,h.b5.frozen 0⟩
set_option maxRecDepth 100000 in
set_option maxHeartbeats 1600000 in
theorem RO (B g2 g3 g4 g5:Nat) (v2 v3 v4 v5:Value) (x:Int) (older:List PanicEntry) (w:World) (hBw:B≤w.heap.size) (h:EU w B g2 g3 g4 g5 v2 v3 v4 v5) :
  CallsD Tryz.prog 120 #[.pointer (some ⟨g2,0,none⟩),.pointer (some ⟨g3,0,none⟩),.pointer (some ⟨g4,0,none⟩),.pointer (some ⟨g5,0,none⟩)] (.panicking ({ v:=.iface 171 (.agg #[.int .i64 x]),recovered:=false } :: older)) w fun e u' w'=>
   e=.returned (.tuple #[])∧u'=.panicking ({ v:=.iface 171 (.agg #[.int .i64 x]),recovered:=true } :: older)∧
    EU w' B g2 g3 g4 g5 (.slice none 0 0) (.int .i64 0) (.slice none 0 0) (.int .i64 x)∧Below B w w':=by
 have H:=Lib.hid h
 clear h
 refine callsD_of_wpS Tryz.func120 rfl fun c₀ cs hu=>?_
 apply wpS_seq
 apply wpS_region
 simp[wpOpsS,go_sem,recoverD,hu,Tryz.ntmps120,Exit.thenS]
 refine wpS_of_wp (wp_mono (Q:=fun e a w'=>e=.normal∧a.defers=[]∧EU w' B g2 g3 g4 g5 (.slice none 0 0) (.int .i64 0) (.slice none 0 0) (.int .i64 x)∧Below B w w') ?_ ?_)
 rotate_left
 ·rintro e a w' ⟨rfl,hd,h1,h2⟩
  cases c₀
  simp only at hu
  subst hu
  exact⟨hd,_,rfl,_,results_none rfl _ _ _,rfl,rfl,h1,h2⟩
 clear hu
 have nD:#[.pointer (some ⟨g2,0,none⟩),.pointer (some ⟨g3,0,none⟩),.pointer (some ⟨g4,0,none⟩),.pointer (some ⟨g5,0,none⟩)]++((Array.replicate 16 undef).setIfInBounds 3 (.iface 171 (.agg #[.int .i64 x]))).setIfInBounds 0 (.iface 171 (.agg #[.int .i64 x]))=#[.pointer (some ⟨g2,0,none⟩),.pointer (some ⟨g3,0,none⟩),.pointer (some ⟨g4,0,none⟩),.pointer (some ⟨g5,0,none⟩),.iface 171 (.agg #[.int .i64 x]),undef,undef,.iface 171 (.agg #[.int .i64 x]),undef,undef,undef,undef,undef,undef,undef,undef,undef,undef,undef,undef]:=rfl
 rw[nD]
 clear nD
 have has:∀ (v:Value) (W:World),(Instr.typeAssert (.iface 171 v) 20 171 true).run Tryz.prog W=.ok (.tuple #[v,.bool true]) W:=fun _ _=>by kernel_rfl
 go_wp2_with fail
 obtain⟨gx,hgx⟩:∃ gx,gx=w.heap.size:=⟨_,rfl⟩
 have hb2:Below w.heap.size w (w.alloc (.cells #[.int .i64 x] 171)):=(Below.refl _ _).alloc (Nat.le_refl _) _
 have H2:=Lib.hid (H.out.below hb2)
 have Hb2:=Lib.hid (hb2.mono hBw)
 have HX:Hid (AV (w.alloc (.cells #[.int .i64 x] 171)) gx 171 #[.int .i64 x]):=Lib.hid (by rw[hgx];exact AV.new _ _ _)
 clear hb2
 rw[←hgx]
 clear hgx
 generalize w.alloc (.cells #[.int .i64 x] 171)=w2 at *
 refine Bp (fun W=>W.cell? ⟨gx,0,none⟩=some (.int .i64 x)) 5 (by kernel_rfl) ?_
 have hHeld:w2.drew.cell? ⟨gx,0,none⟩=some (.int .i64 x):=HX.out.cell 0
 have H3:=Lib.hid (H2.out.below ((Below.refl _ _).drew))
 have Hb3:=Lib.hid (Hb2.out.trans ((Below.refl B w2).drew))
 have eD:Hid (AV w2.drew gx 171 #[.int .i64 x]):=Lib.hid HX.out
 clear H2 Hb2 HX
 generalize w2.drew=w3 at *
 refine AA (i:=0) (v:=?zn) (by kernel_rfl) (by kernel_rfl) rfl (by kernel_rfl) (by kernel_rfl) (by kernel_rfl) (fun _ _ _ h=>h) (by rfl) (by assumption) ?Js ?Jt
 case Js=>(intro W hSW;(try dsimp only at hSW);go_simp;try with_reducible rfl)
 (try simp only[Act.put,l0A,l0B,l0C,l0D,l0E,l0F])
 refine AA (i:=1) (v:=?vG) (by kernel_rfl) (by kernel_rfl) rfl (by kernel_rfl) (by kernel_rfl) (by kernel_rfl) (fun _ _ _ h=>h) (by rfl) (by assumption) ?JE ?JF
 case JE=>(intro W hSW;(try dsimp only at hSW);go_simp;try with_reducible rfl)
 (try simp only[Act.put,l0A,l0B,l0C,l0D,l0E,l0F])
 obtain⟨c2,c3,c4,c5,f2,f3,f4,f5⟩:=H3.out.cells
 refine AB (i:=2) rfl (by kernel_rfl) (fun K hK=>?_)
 go_simp
 have H4:=Lib.hid (H3.out.s2 (.slice none 0 0))
 have Hb4:=Lib.hid (Hb3.out.setCell (p:=⟨g2,0,none⟩) H3.out.nA (.slice none 0 0))
 have jZ:=Lib.hid (eD.out.far (p:=⟨g2,0,none⟩) (EL eD.out H3.out.b2 (by decide)) (.slice none 0 0))
 clear hHeld c2 c3 c4 c5 f2 f3 f4 f5
 refine hK.out _ _ (jZ.out.cell 0) (fun hHeld=>?_)
 clear hK K H3 Hb3 eD
 (try simp only[Act.put,l0A,l0B,l0C,l0D,l0E,l0F])
 generalize w3.setCell ⟨g2,0,none⟩ (.slice none 0 0)=w4 at *
 obtain⟨c2,c3,c4,c5,f2,f3,f4,f5⟩:=H4.out.cells
 refine AB (i:=3) rfl (by kernel_rfl) (fun K hK=>?_)
 go_simp
 have H5:=Lib.hid (H4.out.s3 (.int .i64 0))
 have Hb5:=Lib.hid (Hb4.out.setCell (p:=⟨g3,0,none⟩) H4.out.jY (.int .i64 0))
 have nE:=Lib.hid (jZ.out.far (p:=⟨g3,0,none⟩) (EL jZ.out H4.out.b3 (by decide)) (.int .i64 0))
 clear hHeld c2 c3 c4 c5 f2 f3 f4 f5
 refine hK.out _ _ (nE.out.cell 0) (fun hHeld=>?_)
 clear hK K H4 Hb4 jZ
 (try simp only[Act.put,l0A,l0B,l0C,l0D,l0E,l0F])
 generalize w4.setCell ⟨g3,0,none⟩ (.int .i64 0)=w5 at *
 obtain⟨c2,c3,c4,c5,f2,f3,f4,f5⟩:=H5.out.cells
 refine AB (i:=4) rfl (by kernel_rfl) (fun K hK=>?_)
 go_simp
 have H6:=Lib.hid (H5.out.s4 (.slice none 0 0))
 have Jc:=Lib.hid (Hb5.out.setCell (p:=⟨g4,0,none⟩) H5.out.le4 (.slice none 0 0))
 have HX6:=Lib.hid (nE.out.far (p:=⟨g4,0,none⟩) (EL nE.out H5.out.b4 (by decide)) (.slice none 0 0))
 clear hHeld c2 c3 c4 c5 f2 f3 f4 f5
 refine hK.out _ _ (HX6.out.cell 0) (fun hHeld=>?_)
 clear hK K H5 Hb5 nE
 (try simp only[Act.put,l0A,l0B,l0C,l0D,l0E,l0F])
 generalize w5.setCell ⟨g4,0,none⟩ (.slice none 0 0)=w6 at *
 obtain⟨c2,c3,c4,c5,f2,f3,f4,f5⟩:=H6.out.cells
 refine BH rfl (by kernel_rfl) (by kernel_rfl) (fun K hK=>?_)
 go_simp
 have H7:=Lib.hid (H6.out.s5 (.int .i64 x))
 have FR:=Lib.hid (Jc.out.setCell (p:=⟨g5,0,none⟩) H6.out.le5 (.int .i64 x))
 clear hHeld c2 c3 c4 c5 f2 f3 f4 f5
 refine hK.out _ _ ?_
 clear hK K
 exact⟨rfl,rfl,H7.out,FR.out⟩
set_option maxRecDepth 100000 in
set_option maxHeartbeats 1600000 in
theorem eF (g2 g3 g4 g5:Nat) (w:World) :
  CallsD Tryz.prog 120 #[.pointer (some ⟨g2,0,none⟩),.pointer (some ⟨g3,0,none⟩),.pointer (some ⟨g4,0,none⟩),.pointer (some ⟨g5,0,none⟩)] .returning w fun e u' w'=>e=.returned (.tuple #[])∧u'=.returning∧w'=w:=by
 refine callsD_of_wpS Tryz.func120 rfl fun c₀ cs hu=>?_
 apply wpS_seq
 apply wpS_region
 simp[wpOpsS,go_sem,recoverD,hu,Tryz.ntmps120,Exit.thenS]
 refine wpS_of_wp (wp_mono (Q:=fun e a w'=>e=.normal∧a.defers=[]∧w'=w) ?_ ?_)
 rotate_left
 ·rintro e a w' ⟨rfl,hd,rfl⟩
  cases c₀
  simp only at hu
  subst hu
  exact⟨hd,_,rfl,_,results_none rfl _ _ _,rfl,rfl,rfl⟩
 clear hu
 go_wp2_with fail
end Go.Proofs.YtabdianhoabhhaaGreatDoor.Inf
namespace Go.Proofs.YtabdianhoabhhaaGreatDoor.Inf
open Go.Proofs.YtabdianhoabhhaaGreatDoor.Bits Go.Proofs.YtabdianhoabhhaaGreatDoor.Code
set_option linter.unusedVariables false
theorem AU {α β:Type} {r:Rd α} {f:α→Rd β} {b:β} (h:r.Ag f=.ok b):∃ a,r=.ok a∧f a=.ok b:=by
 cases r with
 | bad e=>cases h
 | ok a=>exact⟨a,rfl,h⟩
theorem vP (p:Nat):p≤JH p:=by unfold JH;omega
theorem Mj {row:List Bool}:∀ {n p:Nat} {out:List UInt8} {a:Nat×List UInt8},Ig row n p out=.ok a→p≤row.length→p≤a.1∧a.1≤row.length
 | 0,p,out,a,h,hp=>by injection h with h;subst h;exact⟨Nat.le_refl _,hp⟩
 | n+1,p,out,a,h,hp=>by
  obtain⟨x,hx,h⟩:=AU h
  obtain⟨o,ho,h⟩:=AU h
  have h1:=Bh hx
  have h2:=Mj h (by omega)
  omega
theorem Mk {row:List Bool} {p:Nat} {out:List UInt8} {a:Nat×List UInt8} (h:Fe row p out=.ok a):p≤a.1∧a.1≤row.length:=by
 obtain⟨x,hx,h⟩:=AU h
 obtain⟨y,hy,h⟩:=AU h
 have h1:=Bh hx
 have h2:=Bh hy
 have h3:=vP p
 split at h
 ·cases h
 ·have h4:=Mj h (by omega)
  omega
theorem O9 {row:List Bool} {ls l:List Nat} {n p:Nat} {a:Nat×List Nat} (h:GU row ls n p l=.ok a) (hp:p≤row.length):p≤a.1∧a.1≤row.length:=by
 obtain⟨k,hk,h⟩:=AU h
 have h1:=Ie hk hp
 have key:∀ (q nb v add:Nat),((CJ row q nb).Ag fun x=>(Dm n l v (add+x.1)).Ag fun m=>Rd.ok (x.2,m))=.ok a→q≤a.1∧a.1≤row.length:=by
  intro q nb v add h
  obtain⟨x,hx,h⟩:=AU h
  obtain⟨m,_,h⟩:=AU h
  have:=Bh hx
  injection h with h
  subst h
  (try dsimp only)
  omega
 split at h
 ·split at h
  ·cases h
  ·have:=key _ _ _ _ h;omega
 ·split at h
  ·have:=key _ _ _ _ h;omega
  ·split at h
   ·have:=key _ _ _ _ h;omega
   ·obtain⟨m,_,h⟩:=AU h
    injection h with h
    subst h
    (try dsimp only)
    omega
theorem PD {row:List Bool} {ls:List Nat} {n:Nat}:∀ {f p:Nat} {l:List Nat} {a:Nat×List Nat},JZ row ls n f p l=.ok a→p≤row.length→p≤a.1∧a.1≤row.length
 | 0,p,l,a,h,hp=>by injection h with h;subst h;exact⟨Nat.le_refl _,hp⟩
 | f+1,p,l,a,h,hp=>by
  unfold JZ at h
  split at h
  ·injection h with h;subst h;exact⟨Nat.le_refl _,hp⟩
  ·obtain⟨x,hx,h⟩:=AU h
   have h1:=O9 hx hp
   have h2:=PD h h1.2
   omega
theorem Fu {row:List Bool}:∀ {ks:List Nat} {p:Nat} {s:List Nat} {a:Nat×List Nat},JG row ks p s=.ok a→p≤row.length→p≤a.1∧a.1≤row.length
 | [],p,s,a,h,hp=>by injection h with h;subst h;exact⟨Nat.le_refl _,hp⟩
 | k :: ks,p,s,a,h,hp=>by
  obtain⟨x,hx,h⟩:=AU h
  have h1:=Bh hx
  have h2:=Fu h (by omega)
  omega
theorem NI {row:List Bool} {p:Nat} {a:Nat×List Nat×List Nat} (h:Mg row p=.ok a):p≤a.1∧a.1≤row.length:=by
 obtain⟨x,hx,h⟩:=AU h
 obtain⟨y,hy,h⟩:=AU h
 obtain⟨z,hz,h⟩:=AU h
 have h1:=Bh hx
 have h2:=Bh hy
 have h3:=Bh hz
 split at h
 ·cases h
 ·obtain⟨s,hs,h⟩:=AU h
  obtain⟨t,_,h⟩:=AU h
  obtain⟨l,hl,h⟩:=AU h
  have h4:=Fu hs (by omega)
  have h5:=PD hl h4.2
  split at h
  ·cases h
  ·obtain⟨u,_,h⟩:=AU h
   obtain⟨v,_,h⟩:=AU h
   injection h with h
   subst h
   (try dsimp only)
   omega
theorem Ju {row:List Bool} {lit far:List Nat} {p:Nat} {out:List UInt8} {a:Bool×Nat×List UInt8} (h:CQ row lit far p out=.ok a) (hp:p≤row.length):p < a.2.1∧a.2.1≤row.length:=by
 obtain⟨k,hk,h⟩:=AU h
 have h1:=Ie hk hp
 split at h
 ·obtain⟨o,_,h⟩:=AU h
  injection h with h;subst h;dsimp only;omega
 ·split at h
  ·injection h with h;subst h;dsimp only;omega
  ·split at h
   ·cases h
   ·obtain⟨x,hx,h⟩:=AU h
    obtain⟨f,hf,h⟩:=AU h
    have h2:=Bh hx
    have h3:=Ie hf (by omega)
    split at h
    ·cases h
    ·obtain⟨y,hy,h⟩:=AU h
     have h4:=Bh hy
     split at h
     ·cases h
     ·obtain⟨o,_,h⟩:=AU h
      injection h with h;subst h;dsimp only;omega
theorem FH {row:List Bool} {lit far:List Nat}:∀ {f p:Nat} {out:List UInt8} {a:Nat×List UInt8},Ew row lit far f p out=.ok a→p≤row.length→p≤a.1∧a.1≤row.length
 | 0,p,out,a,h,hp=>by cases h
 | f+1,p,out,a,h,hp=>by
  obtain⟨x,hx,h⟩:=AU h
  have h1:=Ju hx hp
  split at h
  ·injection h with h;subst h;omega
  ·have h2:=FH h h1.2
   omega
theorem OE {row:List Bool} {p:Nat} {out:List UInt8} {a:Bool×Nat×Nat×List UInt8} (h:Eb row p out=.ok a):p < a.2.2.1∧a.2.2.1≤row.length:=by
 obtain⟨l,hl,h⟩:=AU h
 obtain⟨k,hk,h⟩:=AU h
 have h1:=Bh hl
 have h2:=Bh hk
 split at h
 ·obtain⟨x,hx,h⟩:=AU h
  have:=Mk hx
  injection h with h;subst h;dsimp only;omega
 ·split at h
  ·obtain⟨x,hx,h⟩:=AU h
   have:=FH hx (by omega)
   injection h with h;subst h;dsimp only;omega
  ·split at h
   ·obtain⟨y,hy,h⟩:=AU h
    obtain⟨x,hx,h⟩:=AU h
    have h3:=NI hy
    have:=FH hx h3.2
    injection h with h;subst h;dsimp only;omega
   ·cases h
variable {row:List Bool} {L:Nat}
end Go.Proofs.YtabdianhoabhhaaGreatDoor.Inf
namespace Go.Proofs.YtabdianhoabhhaaGreatDoor.Inf
open Go Go.RowKit Go.Proofs.YtabdianhoabhhaaGreatDoor Go.Proofs.YtabdianhoabhhaaGreatDoor.Bits Go.Proofs.YtabdianhoabhhaaGreatDoor.Code
set_option linter.unusedVariables false
set_option linter.unusedSimpArgs false
def Zf (w:World) (xs:List UInt8) (e:Ending) (w':World):Prop:=match CF xs with
 | .bad z=>e=.returned (.tuple #[.slice none 0 0,.int .i64 0,.slice none 0 0,.int .i64 z])
 | .ok a=>a.1.length≤3000∧∃ Ao co Ak ck,e=.returned (.tuple #[.slice Ao a.1.length co,.int .i64 (a.2.1:Int),.slice Ak a.2.2.length ck,.int .i64 0])∧
   w'.ownsRow w.heap.size 5 1 (.slice Ao a.1.length co) a.1.length (a.1.map Eh)∧w'.ownsRow w.heap.size 3 1 (.slice Ak a.2.2.length ck) a.2.2.length (a.2.2.map BR)
theorem vX {xs:List UInt8} (h:6000 < xs.length):CF xs=.bad 2:=by unfold CF;rw[if_pos h]
theorem vY {xs:List UInt8} (h:¬ 6000 < xs.length):CF xs=(Dq (AO xs) (8*xs.length+1) 0 [] []).Ag fun x=>.ok (x.2.1,(x.1+7) / 8,x.2.2):=by unfold CF;rw[if_neg h]
theorem results4 {P:Program} {fn:Func} {p2 p3 p4 p5:Tmp} {t2 t3 t4 t5:TypeId} (h:fn.results=#[.cell p2 t2,.cell p3 t3,.cell p4 t4,.cell p5 t5]) (tmps:Array Value) (w:World) (a2 a3 a4 a5:Addr) (v2 v3 v4 v5:Value)
  (h2:tmps.getD p2 undef=.pointer (some a2)) (h3:tmps.getD p3 undef=.pointer (some a3)) (h4:tmps.getD p4 undef=.pointer (some a4)) (h5:tmps.getD p5 undef=.pointer (some a5))
  (l2:(loadVar t2 a2).run P w=.ok v2 w) (l3:(loadVar t3 a3).run P w=.ok v3 w) (l4:(loadVar t4 a4).run P w=.ok v4 w) (l5:(loadVar t5 a5).run P w=.ok v5 w) :
  (results fn tmps).run P w=.ok (.tuple #[v2,v3,v4,v5]) w:=by
 have h2':tmps[p2]?.getD undef=.pointer (some a2):=by simpa using h2
 have h3':tmps[p3]?.getD undef=.pointer (some a3):=by simpa using h3
 have h4':tmps[p4]?.getD undef=.pointer (some a4):=by simpa using h4
 have h5':tmps[p5]?.getD undef=.pointer (some a5):=by simpa using h5
 simp[results,h,h2',h3',h4',h5',asAddr,l2,l3,l4,l5]
theorem AD6 (w:World) (a:Addr) (v:Value) (h:w.cell? a=some v):(loadVar 23 a).run Tryz.prog w=.ok v w:=by
 simp[loadVar,run_underlying Tryz.underlying23,go_sem,h]
theorem AD7 (w:World) (a:Addr) (v:Value) (h:w.cell? a=some v):(loadVar 3 a).run Tryz.prog w=.ok v w:=by
 simp[loadVar,run_underlying Tryz.underlying3,go_sem,h]
theorem AD8 (w:World) (a:Addr) (v:Value) (h:w.cell? a=some v):(loadVar 89 a).run Tryz.prog w=.ok v w:=by
 simp[loadVar,run_underlying Tryz.underlying89,go_sem,h]
theorem AD9 (w:World) (a:Addr) (v:Value) (h:w.cell? a=some v):(loadVar 24 a).run Tryz.prog w=.ok v w:=by
 simp[loadVar,run_underlying Tryz.underlying24,go_sem,h]
theorem EU.kept {w w':World} {B g2 g3 g4 g5:Nat} {T:List TypeId} {v2 v3 v4 v5:Value} (h:EU w B g2 g3 g4 g5 v2 v3 v4 v5) (hk:AJ w.heap.size T w w'):EU w' B g2 g3 g4 g5 v2 v3 v4 v5:=
 ⟨h.nA,h.jY,h.le4,h.le5,(hk.block g2 h.b2.lt).trans h.b2,(hk.block g3 h.b3.lt).trans h.b3,(hk.block g4 h.b4.lt).trans h.b4,(hk.block g5 h.b5.lt).trans h.b5⟩
theorem Zg {B:Nat} {T:List TypeId} {w w4 w':World} (h:Below B w w4) (hk:AJ w4.heap.size T w4 w') (hB:B≤w4.heap.size):Below B w w':=
 h.trans ⟨hk.os,hk.tape,hk.output,hk.size,fun k hkB=>hk.block k (by omega)⟩
theorem FI {P:Program} {c:Code} {Q:Exit→Act→World→Prop} {a:Act} {w:World} (h:c.wp P (fun e a w=>e=.normal∧Q .normal a w) a w):c.wp P Q a w:=
 wp_mono h (by rintro e a w ⟨rfl,h⟩;exact h)
structure Rest (w:World) (g B:Nat) (A:Option Addr) (n c p:Nat) (Ao:Option Addr) (ol co:Nat) (Ak:Option Addr) (kl ck:Nat) (o:List UInt8) (ks:List Nat):Prop where
 Me:AV w g 177 #[.pointer (some ⟨B,0,none⟩),.slice Ao ol co,.slice Ak kl ck]
 src:EB w B A n c p
 out:w.ownsRow B 5 1 (.slice Ao ol co) ol (o.map Eh)
 kinds:w.ownsRow B 3 1 (.slice Ak kl ck) kl (ks.map BR)
theorem Rest.held {w:World} {g B n c p ol co kl ck:Nat} {A Ao Ak:Option Addr} {o:List UInt8} {ks:List Nat} (h:Rest w g B A n c p Ao ol co Ak kl ck o ks):w.cell? ⟨g,0,none⟩=some (.pointer (some ⟨B,0,none⟩))∧w.cell? ⟨g,1,none⟩=some (.slice Ao ol co)∧w.cell? ⟨g,2,none⟩=some (.slice Ak kl ck):=⟨h.Me.cell 0,h.Me.cell 1,h.Me.cell 2⟩
theorem Rest.Ca {w:World} {g B n c p ol co kl ck x:Nat} {A Ao Ak:Option Addr} {o:List UInt8} {ks:List Nat} {t:TypeId} {cs:Array Value} (h:Rest w g B A n c p Ao ol co Ak kl ck o ks) (hx:AV w x t cs) (hB:x < B) (hg:g≠x) (u:Value):Rest (w.setCell ⟨x,0,none⟩ u) g B A n c p Ao ol co Ak kl ck o ks:=
 ⟨h.Me.far (p:=⟨x,0,none⟩) hg u,AV.far h.src (p:=⟨x,0,none⟩) (by show B≠x;omega) u,ownsRow_setCell_below h.out (a:=⟨x,0,none⟩) hB u,ownsRow_setCell_below h.kinds (a:=⟨x,0,none⟩) hB u⟩
set_option maxRecDepth 100000 in
set_option maxHeartbeats 1600000 in
theorem AEA (q:Nat) (A:Option Addr) (n c pos:Nat) (w:World) (h:EB w q A n c pos) (hp:pos≤8*n) (hn:n≤1099511627776) :
  Calls Tryz.prog 123 #[.pointer (some ⟨q,0,none⟩)] w fun e w'=>e=.returned (.int .i64 (((pos+7) / 8:Nat):Int))∧w'=w:=by
 have c1:w.cell? ⟨q,1,none⟩=some (.int .i64 (pos:Int)):=by rw[h.cell];rfl
 have h1:IntKind.i64.wrap ((pos:Int)+7)=(pos:Int)+7:=IntWalk.i64_in _ (by omega)
 have h4:((pos:Int)+7).tdiv 8=((pos:Int)+7) / 8:=Int.tdiv_eq_ediv_of_nonneg (by omega)
 have h2:IntKind.i64.wrap (((pos:Int)+7) / 8)=(((pos+7) / 8:Nat):Int):=by
  rw[show ((pos:Int)+7) / 8=(((pos+7) / 8:Nat):Int) by omega]
  exact IntWalk.i64_in _ (by omega)
 have hq:=AV.lt h
 clear h
 generalize (pos+7) / 8=u at *
 go_enter Tryz.func123,Tryz.ntmps123
 go_wp2_with fail
 go_ret
 exact⟨rfl,rfl⟩
theorem Mm {w:World} {g2 g3 g4 g5:Nat} {v2 v3 v4 v5:Value} (h:AGY w g2 g3 g4 g5 v2 v3 v4 v5) (tmps:Array Value)
  (h2:tmps.getD 2 undef=.pointer (some ⟨g2,0,none⟩)) (h3:tmps.getD 3 undef=.pointer (some ⟨g3,0,none⟩)) (h4:tmps.getD 4 undef=.pointer (some ⟨g4,0,none⟩)) (h5:tmps.getD 5 undef=.pointer (some ⟨g5,0,none⟩)) :
  (results Tryz.f88 tmps).run Tryz.prog w=.ok (.tuple #[v2,v3,v4,v5]) w:=
 results4 Tryz.results88 tmps w _ _ _ _ _ _ _ _ h2 h3 h4 h5 (AD6 _ _ _ h.c2) (AD7 _ _ _ h.c3) (AD8 _ _ _ h.c4) (AD9 _ _ _ h.c5)
theorem jf (w:World) (x:Value):EU ((((w.alloc (.cells #[.slice none 0 0] 23)).alloc (.cells #[.int .i64 0] 3)).alloc (.cells #[.slice none 0 0] 89)).alloc (.cells #[x] 24)) w.heap.size w.heap.size (w.heap.size+1) (w.heap.size+1+1) (w.heap.size+1+1+1) (.slice none 0 0) (.int .i64 0) (.slice none 0 0) x:=by
 have b2:=(((AV.new w 23 #[.slice none 0 0]).alloc (.cells #[.int .i64 0] 3)).alloc (.cells #[.slice none 0 0] 89)).alloc (.cells #[x] 24)
 have b3:=((AV.new (w.alloc (.cells #[.slice none 0 0] 23)) 3 #[.int .i64 0]).alloc (.cells #[.slice none 0 0] 89)).alloc (.cells #[x] 24)
 have b4:=(AV.new ((w.alloc (.cells #[.slice none 0 0] 23)).alloc (.cells #[.int .i64 0] 3)) 89 #[.slice none 0 0]).alloc (.cells #[x] 24)
 have b5:=AV.new (((w.alloc (.cells #[.slice none 0 0] 23)).alloc (.cells #[.int .i64 0] 3)).alloc (.cells #[.slice none 0 0] 89)) 24 #[x]
 simp only[World.size_alloc]at b2 b3 b4 b5
 exact⟨Nat.le_refl _,by omega,by omega,by omega,b2,b3,b4,b5⟩
theorem Zh {w:World} {b o:Nat} {cs:List Value} (h:AQ w (some ⟨b,o,none⟩) cs) (hp:0 < cs.length):b < w.heap.size:=by
 obtain⟨b',o',e,hc⟩:=h hp
 injection e with e
 injection e with e1 e2
 subst e1 e2
 obtain⟨x,hx⟩:∃ x,cs[0]?=some x:=⟨cs[0],List.getElem?_eq_getElem hp⟩
 exact block_lt_of_cell (hc 0 x hx)
theorem V4 (w:World) (x:Value):Below w.heap.size w ((((w.alloc (.cells #[.slice none 0 0] 23)).alloc (.cells #[.int .i64 0] 3)).alloc (.cells #[.slice none 0 0] 89)).alloc (.cells #[x] 24)):=
 ((((Below.refl _ _).alloc (Nat.le_refl _) _).alloc (by simp) _).alloc (by simp;omega) _).alloc (by simp;omega) _
set_option maxRecDepth 100000 in
set_option maxHeartbeats 1600000 in
theorem eY (A:Option Addr) (n c:Nat) (xs:List UInt8) (w:World) (hn:xs.length=n) (hx:n≤maxLen) (hA:BI w A xs) :
  Calls Tryz.prog 88 #[.slice A n c] w fun e w'=>Zf w xs e w'∧Below w.heap.size w w':=by
 unfold maxLen at hx
 have hmf:∀ (fn:Fn) (first cap:Array Value) (w:World),(Instr.makeFunc fn first cap).run Tryz.prog w=.ok (.func fn first cap) w:=fun _ _ _ _=>rfl
 have Hn:=Lib.hid hn
 have HA:=Lib.hid hA
 clear hn hA
 by_cases h6:6000 < n
 ·have h6':(6000:Int) < (n:Int):=by omega
  have HU:=Lib.hid (vX (show 6000 < xs.length by rw[Hn.out];exact h6))
  go_enter_defers Tryz.func88,Tryz.ntmps88
  go_wp2_with fail
  refine⟨_,Mm (jf w (.int .i64 2)).cells _ rfl rfl rfl rfl,?_,V4 w _⟩
  unfold Zf
  rw[HU.out]
 ·have h6':¬ (6000:Int) < (n:Int):=by omega
  have HU:=Lib.hid (vY (show ¬ 6000 < xs.length by rw[Hn.out];exact h6))
  go_enter_defers Tryz.func88,Tryz.ntmps88
  go_wp2_with fail
  have QM:=Lib.hid (jf w (.int .i64 0))
  have Hb4:=Lib.hid (V4 w (.int .i64 0))
  generalize ((((w.alloc (.cells #[.slice none 0 0] 23)).alloc (.cells #[.int .i64 0] 3)).alloc (.cells #[.slice none 0 0] 89)).alloc (.cells #[.int .i64 0] 24))=w4 at *
  generalize hg3:w.heap.size+1=g3 at *
  generalize hg4:g3+1=g4 at *
  generalize hg5:g4+1=g5 at *
  generalize hg2:w.heap.size=g2 at *
  have Q0:=Lib.hid hg2
  have cu:=Lib.hid (AQ.below HA.out (by rw[hg2];exact Hb4.out))
  have hBw:g2≤w4.heap.size:=by have:=Hb4.out.size;omega
  have hlow:∀ b o,A=some ⟨b,o,none⟩→0 < n→b < w4.heap.size:=fun b o e hp=>by
   have:=Zh (e▸HA.out) (by rw[List.length_map,Hn.out];exact hp)
   omega
  clear hg2 hg3 hg4 hg5 HA
  refine (eZ A n c w4).mono ?_
  rintro e w5 ⟨rfl,hsrc,hb5⟩
  have bZ:=Lib.hid hsrc
  have Hb5:=Lib.hid hb5
  clear hsrc hb5
  go_wp2_with fail
  obtain⟨G,hG⟩:∃ G:Nat×List UInt8×List Nat→Rd (List UInt8×Nat×List Nat),G=fun x=>.ok (x.2.1,(x.1+7) / 8,x.2.2):=⟨_,rfl⟩
  obtain⟨R,hR⟩:∃ R,R=CF xs:=⟨_,rfl⟩
  have HU:=Lib.hid (show R=(Dq (AO xs) (8*n+1) 0 [] []).Ag G by rw[hR,HU.out,hG,Hn.out])
  have HGd:=Lib.hid hG
  have HRd:=Lib.hid hR
  clear hG hR
  have hrow:(AO xs).length=8*n:=by rw[BV,Hn.out]
  have G7:=Lib.hid hrow
  clear hrow
  have hbx:Below w4.heap.size w4 (w5.alloc (.cells #[.pointer (some ⟨w4.heap.size,0,none⟩),.slice none 0 0,.slice none 0 0] 177)):=Hb5.out.alloc Hb5.out.size _
  have vZ:=Lib.hid (QM.out.below hbx)
  have Lf:Hid (AJ w4.heap.size Md w4 (w5.alloc (.cells #[.pointer (some ⟨w4.heap.size,0,none⟩),.slice none 0 0,.slice none 0 0] 177))):=Lib.hid (AJ.of_below hbx (Nat.le_refl _))
  have Lh:Hid (ER (w5.alloc (.cells #[.pointer (some ⟨w4.heap.size,0,none⟩),.slice none 0 0,.slice none 0 0] 177)) w4.heap.size w5.heap.size w4.heap.size A n c 0 [] []):=Lib.hid
   ⟨Hb5.out.size,Nat.le_refl _,by omega,by simp,⟨_,_,AV.new _ _ _,World.ownsRow_nil _ _ _ _,World.ownsRow_nil _ _ _ _⟩,AV.alloc bZ.out _⟩
  have HI4:Hid (FJ w4 w4.heap.size A n xs):=Lib.hid ⟨Hn.out,by omega,cu.out,hlow⟩
  generalize w5.alloc (.cells #[.pointer (some ⟨w4.heap.size,0,none⟩),.slice none 0 0,.slice none 0 0] 177)=w6 at *
  generalize w5.heap.size=g at *
  obtain⟨B,hB⟩:∃ B,B=w4.heap.size:=⟨_,rfl⟩
  rw[←hB]at Lf Lh HI4 hBw⊢
  have HBe:=Lib.hid hB
  clear hB hbx hlow bZ Hb5 cu
  go_loopw [] (fun wr=>∃ (f p:Nat) (o:List UInt8) (ks:List Nat),8*n+1≤p+f∧ks.length≤p∧R=(Dq (AO xs) f p o ks).Ag G∧ER wr B g B A n c p o ks∧AJ B Md w4 wr) (fun wr=>8*n - posOf B wr)
  case atStart=>exact⟨8*n+1,0,[],[],by omega,by simp,HU.out,Lh.out,Lf.out⟩
  case round=>
   obtain⟨f,p,o,ks,hpf,hkp,hR,hrd,hk⟩:=hrel
   have ZT:=hrd.zm
   obtain⟨f,rfl⟩:∃ f',f=f'+1:=⟨f - 1,by omega⟩
   have HU:=Lib.hid (show R=((Eb (AO xs) p o).Ag fun x=>if x.1=true then .ok (x.2.2.1,x.2.2.2,ks++[x.2.1]) else Dq (AO xs) f x.2.2.1 x.2.2.2 (ks++[x.2.1])).Ag G from hR)
   have AAg:Hid (posOf B wr=p):=Lib.hid (KP hrd.src)
   have HK:=Lib.hid hk
   have HIr:Hid (FJ wr B A n xs):=Lib.hid (HI4.out.keeps hk)
   have HBk:=Lib.hid (AAb B g B A n c p xs o ks wr hrd HIr.out (by omega) (by omega))
   have AMT:Hid (EU wr g2 g2 g3 g4 g5 (.slice none 0 0) (.int .i64 0) (.slice none 0 0) (.int .i64 0)):=Lib.hid (QM.out.kept (HBe.out▸hk))
   clear hR hrd hk Lh Lf vZ HIr
   go_wp2_with fail
   refine (HBk.out).mono ?_
   rintro e w7 ⟨Jh,O7⟩
   have U6:=Lib.hid (HK.out.trans O7)
   have vg:Hid (EU w7 g2 g2 g3 g4 g5 (.slice none 0 0) (.int .i64 0) (.slice none 0 0) (.int .i64 0)):=Lib.hid (QM.out.kept (HBe.out▸U6.out))
   have FR:Hid (Below g2 w w7):=Lib.hid (Zg Hb4.out (HBe.out▸U6.out) (HBe.out▸hBw))
   cases ET:Eb (AO xs) p o with
   | bad z=>
    have he:=BK Jh ET
    subst he
    have HU:=Lib.hid (show R=.bad z by rw[HU.out,ET];rfl)
    clear Jh O7 ET
    unfold Bo
    go_wp2_with fail
    refine leaves_cons (f:=120) (args:=#[.pointer (some ⟨g2,0,none⟩),.pointer (some ⟨g3,0,none⟩),.pointer (some ⟨g4,0,none⟩),.pointer (some ⟨g5,0,none⟩)]) (by simp) (by simp[go_sem]) ?_
    refine (RO g2 g2 g3 g4 g5 _ _ _ _ z [] w7 (Nat.le_trans (HBe.out▸hBw) U6.out.size |> fun h=>by have:=U6.out.size;have:=HBe.out;omega) vg.out).mono ?_
    rintro e u' w8 ⟨rfl,rfl,vv,Kk⟩
    refine⟨_,Mm vv.cells _ rfl rfl rfl rfl,?_,?_⟩
    ·unfold Zf
     rw[←HRd.out,HU.out]
    ·rw[Q0.out]
     exact FR.out.trans Kk
   | ok a=>
    obtain⟨he,TK⟩:=BP Jh ET
    subst he
    have hm:=OE ET
    rw[G7.out]at hm
    replace HU:=Lib.hid (HU.out.trans (by rw[ET,then_ok]))
    have Nv:=Lib.hid TK
    obtain⟨lb,k,p7,o7⟩:=a
    dsimp only at HU Nv hm⊢
    clear Jh O7 ET TK HBk
    cases lb with
    | false=>
     replace HU:=Lib.hid (HU.out.trans (by rw[if_neg (by simp)]))
     go_wp2_with fail
     go_roundw
     case rel=>exact⟨f,p7,o7,ks++[k],by omega,by simp;omega,HU.out,Nv.out,U6.out⟩
     case measure=>rw[AAg.out,KP Nv.out.src];omega
    | true=>
     replace HU:=Lib.hid (HU.out.trans (by rw[if_pos rfl,then_ok,HGd.out]))
     dsimp only at HU
     obtain⟨vo,Ak,kl,ck,uz,hb,ho,hkk⟩:=O6 Nv.out
     obtain⟨Ao,co,rfl,_⟩:=Ad ho
     obtain⟨ol,hol⟩:∃ ol,ol=o7.length:=⟨_,rfl⟩
     rw[←hol]at hb ho
     have YX:=Lib.hid hol
     have ZQ:=Lib.hid uz
     have U9:=Lib.hid ho
     have AGn:=Lib.hid hkk
     have HBR:=Lib.hid hb
     have U8:=Lib.hid Nv.out.src
     have Jp:=Nv.out.few
     have mr:=Nv.out.zm
     have hBB:g2≤B:=hBw
     have hBe:=HBe.out
     have hlt2:g2 < B:=by have:=QM.out.b2.lt;omega
     have hlt3:g3 < B:=by have:=QM.out.b3.lt;omega
     have AGl:g4 < B:=by have:=QM.out.b4.lt;omega
     have AAI:g5 < B:=by have:=QM.out.b5.lt;omega
     have hgB:B≤g:=by obtain⟨h1,_⟩:=Nv.out;exact h1
     clear hBe
     clear hol uz ho hkk hb QM Hb4 HI4
     go_wp2_with fail
     refine FI ?_
     refine Bp (fun W=>W.cell? ⟨g,0,none⟩=some (.pointer (some ⟨B,0,none⟩))∧W.cell? ⟨g,1,none⟩=some (.slice Ao ol co)∧W.cell? ⟨g,2,none⟩=some (.slice Ak kl ck)) 16 (by kernel_rfl) ?_
     have hHeld:w7.drew.cell? ⟨g,0,none⟩=some (.pointer (some ⟨B,0,none⟩))∧w7.drew.cell? ⟨g,1,none⟩=some (.slice Ao ol co)∧w7.drew.cell? ⟨g,2,none⟩=some (.slice Ak kl ck):=⟨HBR.out.cell 0,HBR.out.cell 1,HBR.out.cell 2⟩
     have H3:=Lib.hid (vg.out.below ((Below.refl _ _).drew))
     have Hb3:=Lib.hid (FR.out.trans ((Below.refl g2 w7).drew))
     have eD:Hid (Rest w7.drew g B A n c p7 Ao ol co Ak kl ck o7 (ks++[k])):=Lib.hid ⟨HBR.out,U8.out,U9.out,AGn.out⟩
     have HAt:=Lib.hid (AEA B A n c p7 w7.drew eD.out.src mr (by omega))
     clear vg FR HBR U9 AGn U8
     generalize w7.drew=w3 at *
     refine AA (i:=0) (v:=?zn) (by kernel_rfl) (by kernel_rfl) rfl (by kernel_rfl) (by kernel_rfl) (by kernel_rfl) (fun _ _ _ h=>by cases h.1) (by rfl) (by assumption) ?Js ?Jt
     case Js=>(intro W hSW;(try dsimp only at hSW);go_simp;try with_reducible rfl)
     (try simp only[Act.put,l0A,l0B,l0C,l0D,l0E,l0F])
     refine AA (i:=1) (v:=?vG) (by kernel_rfl) (by kernel_rfl) rfl (by kernel_rfl) (by kernel_rfl) (by kernel_rfl) (fun _ _ _ h=>by cases h.1) (by rfl) (by assumption) ?JE ?JF
     case JE=>(intro W hSW;(try dsimp only at hSW);go_simp;try with_reducible rfl)
     (try simp only[Act.put,l0A,l0B,l0C,l0D,l0E,l0F])
     refine AA (i:=2) (v:=?va2) (by kernel_rfl) (by kernel_rfl) rfl (by kernel_rfl) (by kernel_rfl) (by kernel_rfl) (fun _ _ _ h=>by cases h.1) (by rfl) (by assumption) ?OA ?OB
     case OA=>(intro W hSW;(try dsimp only at hSW);go_simp;try with_reducible rfl)
     (try simp only[Act.put,l0A,l0B,l0C,l0D,l0E,l0F])
     refine AA (i:=3) (v:=?va3) (by kernel_rfl) (by kernel_rfl) rfl (by kernel_rfl) (by kernel_rfl) (by kernel_rfl) (fun _ _ _ h=>by cases h.1) (by rfl) (by assumption) ?K5 ?K6
     case K5=>(intro W hSW;(try dsimp only at hSW);go_simp;try with_reducible rfl)
     (try simp only[Act.put,l0A,l0B,l0C,l0D,l0E,l0F])
     refine AA (i:=4) (v:=?va4) (by kernel_rfl) (by kernel_rfl) rfl (by kernel_rfl) (by kernel_rfl) (by kernel_rfl) (fun _ _ _ h=>by cases h.1) (by rfl) (by assumption) ?K7 ?K8
     case K7=>(intro W hSW;(try dsimp only at hSW);go_simp;try with_reducible rfl)
     (try simp only[Act.put,l0A,l0B,l0C,l0D,l0E,l0F])
     refine AA (i:=5) (v:=?va5) (by kernel_rfl) (by kernel_rfl) rfl (by kernel_rfl) (by kernel_rfl) (by kernel_rfl) (fun _ _ _ h=>by cases h.1) (by rfl) (by assumption) ?K9 ?LC
     case K9=>(intro W hSW;(try dsimp only at hSW);go_simp;try with_reducible rfl)
     (try simp only[Act.put,l0A,l0B,l0C,l0D,l0E,l0F])
     refine AA (i:=6) (v:=?va6) (by kernel_rfl) (by kernel_rfl) rfl (by kernel_rfl) (by kernel_rfl) (by kernel_rfl) (fun _ _ _ h=>by cases h.1) (by rfl) (by assumption) ?Xb ?Xc
     case Xb=>(intro W hSW;(try dsimp only at hSW);go_simp;try with_reducible rfl)
     (try simp only[Act.put,l0A,l0B,l0C,l0D,l0E,l0F])
     refine AA (i:=7) (v:=?va7) (by kernel_rfl) (by kernel_rfl) rfl (by kernel_rfl) (by kernel_rfl) (by kernel_rfl) (fun _ _ _ h=>by cases h.1) (by rfl) (by assumption) ?Xd ?Xe
     case Xd=>(intro W hSW;(try dsimp only at hSW);go_simp;try with_reducible rfl)
     (try simp only[Act.put,l0A,l0B,l0C,l0D,l0E,l0F])
     refine AA (i:=9) (v:=?va9) (by kernel_rfl) (by kernel_rfl) rfl (by kernel_rfl) (by kernel_rfl) (by kernel_rfl) (fun _ _ _ h=>by cases h.1) (by rfl) (by assumption) ?di ?dm
     case di=>(intro W hSW;(try dsimp only at hSW);go_simp;try with_reducible rfl)
     (try simp only[Act.put,l0A,l0B,l0C,l0D,l0E,l0F])
     refine AA (i:=10) (v:=?ADh) (by kernel_rfl) (by kernel_rfl) rfl (by kernel_rfl) (by kernel_rfl) (by kernel_rfl) (fun _ _ _ h=>by cases h.1) (by rfl) (by assumption) ?TM ?Xf
     case TM=>(intro W hSW;(try dsimp only at hSW);go_simp;try with_reducible rfl)
     (try simp only[Act.put,l0A,l0B,l0C,l0D,l0E,l0F])
     refine AA (i:=11) (v:=?AKS) (by kernel_rfl) (by kernel_rfl) rfl (by kernel_rfl) (by kernel_rfl) (by kernel_rfl) (fun _ _ _ h=>by cases h.1) (by rfl) (by assumption) ?wB ?AAo
     case wB=>(intro W hSW;(try dsimp only at hSW);go_simp;try with_reducible rfl)
     (try simp only[Act.put,l0A,l0B,l0C,l0D,l0E,l0F])
     refine AA (i:=12) (v:=?AKT) (by kernel_rfl) (by kernel_rfl) rfl (by kernel_rfl) (by kernel_rfl) (by kernel_rfl) (fun _ _ _ h=>by cases h.1) (by rfl) (by assumption) ?wC ?AAp
     case wC=>(intro W hSW;(try dsimp only at hSW);go_simp;try with_reducible rfl)
     (try simp only[Act.put,l0A,l0B,l0C,l0D,l0E,l0F])
     refine AB (i:=8) rfl (by kernel_rfl) (fun K hK=>?_)
     go_simp
     go_at_call 123
     refine (HAt.out).mono ?_
     rintro e w3' ⟨rfl,AKU⟩
     cases AKU
     refine hK.out _ _ hHeld (fun hHeld=>?_)
     clear hK K
     (try simp only[Act.put,l0A,l0B,l0C,l0D,l0E,l0F])
     obtain⟨us,hus⟩:∃ us,us=(p7+7) / 8:=⟨_,rfl⟩
     rw[←hus]at HU⊢
     clear hus
     obtain⟨c2,c3,c4,c5,f2,f3,f4,f5⟩:=H3.out.cells
     refine AB (i:=13) rfl (by kernel_rfl) (fun K hK=>?_)
     go_simp
     have H4:=Lib.hid (H3.out.s2 (.slice Ao ol co))
     have Hb4:=Lib.hid (Hb3.out.setCell (p:=⟨g2,0,none⟩) H3.out.nA (.slice Ao ol co))
     have jZ:=Lib.hid (eD.out.Ca H3.out.b2 hlt2 (by omega) (.slice Ao ol co))
     clear hHeld c2 c3 c4 c5 f2 f3 f4 f5
     refine hK.out _ _ jZ.out.held (fun hHeld=>?_)
     clear hK K H3 Hb3 eD
     (try simp only[Act.put,l0A,l0B,l0C,l0D,l0E,l0F])
     generalize w3.setCell ⟨g2,0,none⟩ (.slice Ao ol co)=w4 at *
     obtain⟨c2,c3,c4,c5,f2,f3,f4,f5⟩:=H4.out.cells
     refine AB (i:=14) rfl (by kernel_rfl) (fun K hK=>?_)
     go_simp
     have H5:=Lib.hid (H4.out.s3 (.int .i64 (us:Int)))
     have Hb5:=Lib.hid (Hb4.out.setCell (p:=⟨g3,0,none⟩) H4.out.jY (.int .i64 (us:Int)))
     have nE:=Lib.hid (jZ.out.Ca H4.out.b3 hlt3 (by omega) (.int .i64 (us:Int)))
     clear hHeld c2 c3 c4 c5 f2 f3 f4 f5
     refine hK.out _ _ nE.out.held (fun hHeld=>?_)
     clear hK K H4 Hb4 jZ
     (try simp only[Act.put,l0A,l0B,l0C,l0D,l0E,l0F])
     generalize w4.setCell ⟨g3,0,none⟩ (.int .i64 (us:Int))=w5 at *
     obtain⟨c2,c3,c4,c5,f2,f3,f4,f5⟩:=H5.out.cells
     refine AB (i:=15) rfl (by kernel_rfl) (fun K hK=>?_)
     go_simp
     have H6:=Lib.hid (H5.out.s4 (.slice Ak kl ck))
     have Jc:=Lib.hid (Hb5.out.setCell (p:=⟨g4,0,none⟩) H5.out.le4 (.slice Ak kl ck))
     have HX6:=Lib.hid (nE.out.Ca H5.out.b4 AGl (by omega) (.slice Ak kl ck))
     clear hHeld c2 c3 c4 c5 f2 f3 f4 f5
     refine hK.out _ _ HX6.out.held (fun hHeld=>?_)
     clear hK K H5 Hb5 nE
     (try simp only[Act.put,l0A,l0B,l0C,l0D,l0E,l0F])
     generalize w5.setCell ⟨g4,0,none⟩ (.slice Ak kl ck)=w6 at *
     obtain⟨c2,c3,c4,c5,f2,f3,f4,f5⟩:=H6.out.cells
     refine BH rfl (by kernel_rfl) (by kernel_rfl) (fun K hK=>?_)
     go_simp
     have H7:=Lib.hid (H6.out.s5 (.int .i64 0))
     have FR:=Lib.hid (Jc.out.setCell (p:=⟨g5,0,none⟩) H6.out.le5 (.int .i64 0))
     have HX7:=Lib.hid (HX6.out.Ca H6.out.b5 AAI (by omega) (.int .i64 0))
     clear hHeld c2 c3 c4 c5 f2 f3 f4 f5
     refine hK.out _ _ ⟨rfl,?_⟩
     clear hK K
     go_wp2_with fail
     refine leaves_cons (f:=120) (args:=#[.pointer (some ⟨g2,0,none⟩),.pointer (some ⟨g3,0,none⟩),.pointer (some ⟨g4,0,none⟩),.pointer (some ⟨g5,0,none⟩)]) (by simp) (by simp[go_sem]) ?_
     refine (eF g2 g3 g4 g5 _).mono ?_
     rintro e u' w8 ⟨rfl,rfl,rfl⟩
     refine⟨_,Mm H7.out.cells _ rfl rfl rfl rfl,?_,?_⟩
     ·unfold Zf
      rw[←HRd.out,HU.out]
      dsimp only
      have h1:=HX7.out.out
      have h2:=HX7.out.kinds
      rw[YX.out]at h1
      rw[ZQ.out]at h2
      refine⟨Jp,Ao,co,Ak,ck,?_,AZ h1 (by rw[Q0.out];exact hBB),AZ h2 (by rw[Q0.out];exact hBB)⟩
      rw[YX.out,ZQ.out]
     ·rw[Q0.out]
      exact FR.out
end Go.Proofs.YtabdianhoabhhaaGreatDoor.Inf
namespace Go.Proofs.YtabdianhoabhhaaGreatDoor.Inf
open Go.Proofs.YtabdianhoabhhaaGreatDoor.Bits Go.Proofs.YtabdianhoabhhaaGreatDoor.Code
set_option linter.unusedVariables false
def Nz {α:Type} (r:Rd α):Prop:=∀ z,r=.bad z→z≠0
theorem FK {α:Type} {a:α}:Nz (.ok a):=fun z h=>by cases h
theorem FN {α:Type} {z:Int} (h:z≠0):Nz (.bad z:Rd α):=fun y e=>by injection e with e;subst e;exact h
theorem Be {α β:Type} {r:Rd α} {f:α→Rd β} (h:Nz r) (hf:∀ a,Nz (f a)):Nz (r.Ag f):=by
 cases r with
 | bad e=>exact fun z hz=>h z (by injection hz with hz;rw[hz])
 | ok a=>exact hf a
theorem Dn {α:Type} {c:Prop} [Decidable c] {r s:Rd α} (h:Nz r) (k:Nz s):Nz (if c then r else s):=by split <;> assumption
theorem IP (row:List Bool) (p n:Nat):Nz (CJ row p n):=Dn FK (FN (by decide))
theorem eO (row:List Bool) (ls:List Nat) (p:Nat):Nz (IM row ls p):=by
 unfold IM
 split
 ·exact FK
 ·rename_i h;exact FN h
theorem Xp (out:List UInt8) (x:UInt8):Nz (Ef out x):=Dn (FN (by decide)) FK
theorem vT (row:List Bool):∀ (n p:Nat) (out:List UInt8),Nz (Ig row n p out)
 | 0,_,_=>FK
 | n+1,p,out=>Be (IP _ _ _) fun x=>Be (Xp _ _) fun o=>vT row n _ _
theorem TS (zs:List Int):Nz (Em zs):=Dn FK (FN (by decide))
theorem Za (n:Nat) (l:List Nat) (v k:Nat):Nz (Dm n l v k):=Dn (FN (by decide)) FK
theorem eP (row:List Bool) (ls:List Nat) (n p:Nat) (l:List Nat):Nz (GU row ls n p l):=by
 have key:∀ (q nb v add:Nat),Nz ((CJ row q nb).Ag fun x=>(Dm n l v (add+x.1)).Ag fun m=>Rd.ok (x.2,m)):=fun q nb v add=>Be (IP _ _ _) fun x=>Be (Za _ _ _ _) fun m=>FK
 exact Be (eO _ _ _) fun k=>Dn (Dn (FN (by decide)) (key _ _ _ _)) (Dn (key _ _ _ _) (Dn (key _ _ _ _) (Be (Za _ _ _ _) fun m=>FK)))
theorem vU (row:List Bool) (ls:List Nat) (n:Nat):∀ (f p:Nat) (l:List Nat),Nz (JZ row ls n f p l)
 | 0,_,_=>FK
 | f+1,p,l=>Dn FK (Be (eP _ _ _ _ _) fun x=>vU row ls n f _ _)
theorem Zb (row:List Bool):∀ (ks:List Nat) (p:Nat) (s:List Nat),Nz (JG row ks p s)
 | [],_,_=>FK
 | k :: ks,p,s=>Be (IP _ _ _) fun x=>Zb row ks _ _
theorem AAl (row:List Bool) (p:Nat):Nz (Mg row p):=
 Be (IP _ _ _) fun a=>Be (IP _ _ _) fun b=>Be (IP _ _ _) fun c=>Dn (FN (by decide)) (Be (Zb _ _ _ _) fun s=>Be (TS _) fun t=>
  Be (vU _ _ _ _ _ _) fun l=>Dn (FN (by decide)) (Be (TS _) fun x=>Be (TS _) fun y=>FK))
theorem jd (d:Nat):∀ (n:Nat) (out:List UInt8),Nz (JD d n out)
 | 0,_=>FK
 | n+1,out=>Be (Xp _ _) fun o=>jd d n o
theorem Zc (row:List Bool) (lit far:List Nat) (p:Nat) (out:List UInt8):Nz (CQ row lit far p out):=
 Be (eO _ _ _) fun k=>Dn (Be (Xp _ _) fun o=>FK) (Dn FK (Dn (FN (by decide)) (Be (IP _ _ _) fun x=>Be (eO _ _ _) fun f=>
  Dn (FN (by decide)) (Be (IP _ _ _) fun y=>Dn (FN (by decide)) (Be (jd _ _ _) fun o=>FK)))))
theorem Xq (row:List Bool) (lit far:List Nat):∀ (f p:Nat) (out:List UInt8),Nz (Ew row lit far f p out)
 | 0,_,_=>FN (by decide)
 | f+1,p,out=>Be (Zc _ _ _ _ _) fun x=>Dn FK (Xq row lit far f _ _)
theorem nL (row:List Bool) (p:Nat) (out:List UInt8):Nz (Fe row p out):=
 Be (IP _ _ _) fun x=>Be (IP _ _ _) fun y=>Dn (FN (by decide)) (vT _ _ _ _)
theorem vV (row:List Bool) (p:Nat) (out:List UInt8):Nz (Eb row p out):=
 Be (IP _ _ _) fun l=>Be (IP _ _ _) fun k=>Dn (Be (nL _ _ _) fun x=>FK) (Dn (Be (Xq _ _ _ _ _ _) fun x=>FK)
  (Dn (Be (AAl _ _) fun h=>Be (Xq _ _ _ _ _ _) fun x=>FK) (FN (by decide))))
theorem V3 (row:List Bool):∀ (f p:Nat) (out:List UInt8) (ks:List Nat),Nz (Dq row f p out ks)
 | 0,_,_,_=>FN (by decide)
 | f+1,p,out,ks=>Be (vV _ _ _) fun x=>Dn FK (V3 row f _ _ _)
theorem nM (b:List UInt8):Nz (CF b):=Dn (FN (by decide)) (Be (V3 _ _ _ _ _) fun x=>FK)
end Go.Proofs.YtabdianhoabhhaaGreatDoor.Inf
namespace Go.Proofs.YtabdianhoabhhaaGreatDoor.Zip
open Go Go.RowKit Go.Proofs.YtabdianhoabhhaaGreatDoor Go.Proofs.YtabdianhoabhhaaGreatDoor.Bits Go.Proofs.YtabdianhoabhhaaGreatDoor.Merge Go.Proofs.YtabdianhoabhhaaGreatDoor.Name
open Go.Proofs.YtabdianhoabhhaaGreatDoor.Inf (CF)
set_option linter.unusedVariables false
set_option linter.unusedSimpArgs false
def tR8 (me crc sz:Nat) (nm:List UInt8) (st nd go:Nat) (pd:List UInt8) (q:Nat):Option (Dp×Nat):=(FQ me pd).bind fun bs=>if bs.length=sz then some (⟨⟨nm,bs,(st:Int),(nd:Int),go == 1⟩,me,pd,crc⟩,q) else none
def tR7 (b:List UInt8) (me crc pk sz:Nat) (nm:List UInt8) (st nd go p:Nat):=(takeN b p pk).bind fun y=>tR8 me crc sz nm st nd go y.1 y.2
def tR6 (b:List UInt8) (me crc pk sz:Nat) (nm xs:List UInt8) (p st nd px:Nat):=(EE xs px 1).bind fun y=>tR7 b me crc pk sz nm st nd y.1 p
def tR5 (b:List UInt8) (me crc pk sz:Nat) (nm xs:List UInt8) (p st px:Nat):=(EE xs px 2).bind fun y=>tR6 b me crc pk sz nm xs p st y.1 y.2
def tR4 (b:List UInt8) (me crc pk sz:Nat) (nm xs:List UInt8) (p px:Nat):=(EE xs px 4).bind fun y=>tR5 b me crc pk sz nm xs p y.1 y.2
def tR3 (b:List UInt8) (me crc pk sz:Nat) (nm xs:List UInt8) (p:Nat):=(takeN xs 0 4).bind fun y=>tR4 b me crc pk sz nm xs p y.2
def tR2 (b:List UInt8) (me crc pk sz ex:Nat) (nm:List UInt8) (p:Nat):=(takeN b p ex).bind fun y=>tR3 b me crc pk sz nm y.1 y.2
def tR1 (b:List UInt8) (me crc pk sz lo ex p:Nat):=(takeN b p lo).bind fun y=>tR2 b me crc pk sz ex y.1 y.2
def eR7 (b:List UInt8) (me crc pk sz lo p:Nat):=(EE b p 2).bind fun y=>tR1 b me crc pk sz lo y.1 y.2
def eR6 (b:List UInt8) (me crc pk sz p:Nat):=(EE b p 2).bind fun y=>eR7 b me crc pk sz y.1 y.2
def eR5 (b:List UInt8) (me crc pk p:Nat):=(EE b p 4).bind fun y=>eR6 b me crc pk y.1 y.2
def eR4 (b:List UInt8) (me crc p:Nat):=(EE b p 4).bind fun y=>eR5 b me crc y.1 y.2
def eR3 (b:List UInt8) (me p:Nat):=(EE b p 4).bind fun y=>eR4 b me y.1 y.2
def eR2 (b:List UInt8) (me p:Nat):=(takeN b p 4).bind fun y=>eR3 b me y.2
def eR1 (b:List UInt8) (p:Nat):=(EE b p 2).bind fun y=>eR2 b y.1 y.2
def eR0 (b:List UInt8) (p:Nat):=(takeN b p 8).bind fun y=>eR1 b y.2
theorem ABx (b:List UInt8) (me crc pk sz lo ex p:Nat):az b me crc pk sz lo ex p=tR1 b me crc pk sz lo ex p:=by
 unfold az tR1 tR2 tR3 tR4 tR5 tR6 tR7 tR8 Qj
 simp only[Option.bind_assoc,Option.bind_some]
theorem AFF (b:List UInt8) (p:Nat):Ul b p=eR0 b p:=by
 unfold Ul eR0 eR1 eR2 eR3 eR4 eR5 eR6 eR7
 simp only[ABx]
theorem De {base:Nat} {T:List TypeId} {w w':World} (h:AJ base T w w') {p:Addr} (hp:w.heap.size≤p.block) (hb:base≤p.block) (u:Value):AJ base T w (w'.setCell p u):=by
 have hk:∀ k,k≠p.block→(w'.setCell p u).heap[k]?=w'.heap[k]?:=fun k hk=>Below.heap_setCell w' p u k hk
 refine⟨h.os,h.tape,h.output,by rw[World.size_setCell];exact h.size,fun k hkb=>(hk k (by omega)).trans (h.block k hkb),fun k o ho ht=>?_⟩
 have hlt:k < w.heap.size:=by
  rcases Nat.lt_or_ge k w.heap.size with h1 | h1
  ·exact h1
  ·rw[Array.getElem?_eq_none h1]at ho;cases ho
 rw[hk k (by omega)]
 exact h.other k o ho ht
theorem bC {w:World} {q g:Nat} {t:TypeId} {cs:Array Value} (h:AV w q t cs) (hq:q≠g) (b0 b1 b2 b3 b4 b5 b6 b7 b8:Value):AV (((((((((w.setCell ⟨g,0,none⟩ b0).setCell ⟨g,1,none⟩ b1).setCell ⟨g,2,none⟩ b2).setCell ⟨g,3,none⟩ b3).setCell ⟨g,4,none⟩ b4).setCell ⟨g,5,none⟩ b5).setCell ⟨g,6,none⟩ b6).setCell ⟨g,7,none⟩ b7).setCell ⟨g,8,none⟩ b8) q t cs:=(((((((((h.far (p:=⟨g,0,none⟩) hq b0).far (p:=⟨g,1,none⟩) hq b1).far (p:=⟨g,2,none⟩) hq b2).far (p:=⟨g,3,none⟩) hq b3).far (p:=⟨g,4,none⟩) hq b4).far (p:=⟨g,5,none⟩) hq b5).far (p:=⟨g,6,none⟩) hq b6).far (p:=⟨g,7,none⟩) hq b7).far (p:=⟨g,8,none⟩) hq b8)
theorem Um {w0 w:World} {base g:Nat} {T:List TypeId} (h:AJ base T w0 w) (hg:w0.heap.size≤g) (hb:base≤g) (b0 b1 b2 b3 b4 b5 b6 b7 b8:Value):AJ base T w0 (((((((((w.setCell ⟨g,0,none⟩ b0).setCell ⟨g,1,none⟩ b1).setCell ⟨g,2,none⟩ b2).setCell ⟨g,3,none⟩ b3).setCell ⟨g,4,none⟩ b4).setCell ⟨g,5,none⟩ b5).setCell ⟨g,6,none⟩ b6).setCell ⟨g,7,none⟩ b7).setCell ⟨g,8,none⟩ b8):=(De (De (De (De (De (De (De (De (De h (p:=⟨g,0,none⟩) hg hb b0) (p:=⟨g,1,none⟩) hg hb b1) (p:=⟨g,2,none⟩) hg hb b2) (p:=⟨g,3,none⟩) hg hb b3) (p:=⟨g,4,none⟩) hg hb b4) (p:=⟨g,5,none⟩) hg hb b5) (p:=⟨g,6,none⟩) hg hb b6) (p:=⟨g,7,none⟩) hg hb b7) (p:=⟨g,8,none⟩) hg hb b8)
def AFG:Array Value:=#[.string ⟨#[]⟩,.slice none 0 0,.int .i64 0,.int .i64 0,.bool false,.int .i64 0,.slice none 0 0,.int .u32 0,.int .i64 0]
structure JR (w0 w:World) (q g:Nat) (A:Option Addr) (n c p:Nat) (b:List UInt8) (cs:Array Value):Prop where
 Me:JS w q A n c p
 low:JU w q A b
 cur:AV w (g+1) 78 cs
 res:AV w g 78 AFG
 keep:AJ q Oe w0 w
 qg:q < g
 gs:w0.heap.size≤g
section
variable {w0 w w':World} {q g n c p p':Nat} {A:Option Addr} {b:List UInt8} {cs:Array Value}
theorem JR.call (h:JR w0 w q g A n c p b cs) (hk:AJ q Oe w w') (hr:JS w' q A n c p'):JR w0 w' q g A n c p' b cs:=
 ⟨hr,h.low.keeps hk,hk.blk h.cur (by decide),hk.blk h.res (by decide),h.keep.trans hk,h.qg,h.gs⟩
theorem JR.store (h:JR w0 w q g A n c p b cs) (i:Nat) (u:Value) {cs':Array Value} (hc:cs.setIfInBounds i u=cs'):JR w0 (w.setCell ⟨g+1,i,none⟩ u) q g A n c p b cs':=by
 have h1:=h.qg
 have h2:=h.gs
 have hk:AJ (g+1) Oe w (w.setCell ⟨g+1,i,none⟩ u)∨True:=.inr trivial
 refine⟨h.Me.far (p:=⟨g+1,i,none⟩) (by show q≠g+1;omega) u,?_,hc▸h.cur.Ca i u,h.res.far (p:=⟨g+1,i,none⟩) (by show g≠g+1;omega) u,De h.keep (p:=⟨g+1,i,none⟩) (by show w0.heap.size≤g+1;omega) (by show q≤g+1;omega) u,h1,h2⟩
 refine⟨fun hp=>?_,h.low.low⟩
 obtain⟨a,o,e,hx⟩:=h.low.at_ hp
 refine⟨a,o,e,fun j v hj=>?_⟩
 have:=h.low.low a o e (by simpa using hp)
 rw[World.cell?_of_block (Below.heap_setCell w ⟨g+1,i,none⟩ u a (by show a≠g+1;omega))]
 exact hx j v hj
theorem JR.below (h:JR w0 w q g A n c p b cs) (hb:Below w.heap.size w w'):JR w0 w' q g A n c p b cs:=
 ⟨AV.below h.Me hb (AV.lt h.Me),⟨BI.below h.low.at_ hb,h.low.low⟩,h.cur.below hb h.cur.lt,h.res.below hb h.res.lt,h.keep.trans (AJ.of_below hb (Nat.le_of_lt (AV.lt h.Me))),h.qg,h.gs⟩
theorem JR.side (h:JR w0 w q g A n c p b cs) {qx:Nat} (hx:g+1 < qx) (hk:AJ qx Oe w w'):JR w0 w' q g A n c p b cs:=by
 have h1:=h.qg
 refine⟨(hk.block q (by omega)).trans h.Me,h.low.keeps (q:=q) (T:=Oe) (hk.mono (by omega) fun _ h=>h),hk.blk h.cur (by decide),hk.blk h.res (by decide),h.keep.trans (hk.mono (by omega) fun _ h=>h),h.qg,h.gs⟩
theorem JR.fits (h:JR w0 w q g A n c p b cs):g+1 < w.heap.size:=h.cur.lt
end
structure IZ (w':World) (B:Nat) (A:Option Addr) (b:List UInt8) (x:Ex) (e:Dp):Prop where
 is:x.e=e
 at0:x.at_=0
 own:BN w' B (Cm x.bs) e.f.bytes
 len:x.pk.2.1=e.packed.length
 room:e.packed.length≤x.pk.2.2
 cap:x.pk.2.2≤maxLen
 within:Within A b x.pk.1 e.packed
def AIY (B q:Nat) (A:Option Addr) (n c:Nat) (b:List UInt8) (y:Dp×Nat) (e:Ending) (w':World):Prop:=
 y.2≤n∧(∃ x:Ex,e=.returned (eV x)∧IZ w' B A b x y.1)∧JS w' q A n c y.2
set_option maxRecDepth 100000 in
set_option maxHeartbeats 4000000 in
theorem qc (q:Nat) (A:Option Addr) (n c p0:Nat) (b:List UInt8) (w:World) (h:JS w q A n c p0) (hn:b.length=n) (hnc:n≤c) (hcm:c≤maxLen) (hp0:p0≤n) (hn0:0 < n) (hA:JU w q A b) :
  Calls Tryz.prog 67 #[.pointer (some ⟨q,0,none⟩)] w fun e w'=>zJ (Ul b p0) (AIY w.heap.size q A n c b) e w'∧AJ q Oe w w':=by
 obtain⟨R,hR⟩:∃ R,R=Ul b p0:=⟨_,rfl⟩
 rw[←hR]
 have HE0:=Lib.hid (show R=eR0 b p0 by rw[hR,AFF])
 have Hn:=Lib.hid hn
 have H:=Lib.hid h
 have HA:=Lib.hid hA
 obtain⟨g,hg⟩:∃ g,g=w.heap.size:=⟨_,rfl⟩
 have Hg:=Lib.hid hg
 have hqg:q < g:=by rw[hg];exact AV.lt h
 clear hR h hA hn
 go_enter Tryz.func67,Tryz.ntmps67
 go_upto_region 2 with fail
 have HS0:Hid (JR w ((w.alloc (.cells #[.string ⟨#[]⟩,.slice none 0 0,.int .i64 0,.int .i64 0,.bool false,.int .i64 0,.slice none 0 0,.int .u32 0,.int .i64 0] 78)).alloc (.cells #[.string ⟨#[]⟩,.slice none 0 0,.int .i64 0,.int .i64 0,.bool false,.int .i64 0,.slice none 0 0,.int .u32 0,.int .i64 0] 78)) q g A n c p0 b #[.string ⟨#[]⟩,.slice none 0 0,.int .i64 0,.int .i64 0,.bool false,.int .i64 0,.slice none 0 0,.int .u32 0,.int .i64 0]):=Lib.hid (by
  rw[hg]
  have hbel:Below w.heap.size w ((w.alloc (.cells #[.string ⟨#[]⟩,.slice none 0 0,.int .i64 0,.int .i64 0,.bool false,.int .i64 0,.slice none 0 0,.int .u32 0,.int .i64 0] 78)).alloc (.cells #[.string ⟨#[]⟩,.slice none 0 0,.int .i64 0,.int .i64 0,.bool false,.int .i64 0,.slice none 0 0,.int .u32 0,.int .i64 0] 78)):=((Below.refl _ _).alloc (Nat.le_refl _) _).alloc (by simp only[World.size_alloc];omega) _
  exact⟨AV.below H.out hbel (AV.lt H.out),⟨BI.below HA.out.at_ hbel,HA.out.low⟩,by have:=AV.new (w.alloc (.cells #[.string ⟨#[]⟩,.slice none 0 0,.int .i64 0,.int .i64 0,.bool false,.int .i64 0,.slice none 0 0,.int .u32 0,.int .i64 0] 78)) 78 #[.string ⟨#[]⟩,.slice none 0 0,.int .i64 0,.int .i64 0,.bool false,.int .i64 0,.slice none 0 0,.int .u32 0,.int .i64 0];rwa [World.size_alloc]at this,(AV.new w 78 #[.string ⟨#[]⟩,.slice none 0 0,.int .i64 0,.int .i64 0,.bool false,.int .i64 0,.slice none 0 0,.int .u32 0,.int .i64 0]).alloc _,AJ.of_below hbel (Nat.le_of_lt (AV.lt H.out)),AV.lt H.out,Nat.le_refl _⟩)
 rw[←hg]
 generalize (w.alloc (.cells #[.string ⟨#[]⟩,.slice none 0 0,.int .i64 0,.int .i64 0,.bool false,.int .i64 0,.slice none 0 0,.int .u32 0,.int .i64 0] 78)).alloc (.cells #[.string ⟨#[]⟩,.slice none 0 0,.int .i64 0,.int .i64 0,.bool false,.int .i64 0,.slice none 0 0,.int .u32 0,.int .i64 0] 78)=w1 at *
 clear hg H HA
 have HT:=Lib.hid (JV q A n c p0 8 b w1 HS0.out.Me Hn.out hnc hcm hp0 (by omega) HS0.out.low.at_ (.inl hn0))
 have HE:=Lib.hid (show R=(takeN b p0 8).bind fun y=>eR1 b y.2 from HE0.out)
 generalize takeN b p0 8=r at HT HE
 go_wp2_with fail
 refine (HT.out).mono ?_
 rintro e w2 ⟨hr,hk⟩
 have HK:=Lib.hid (HS0.out.keep.trans hk)
 rcases r with _ | ⟨x8,p1⟩
 ·obtain rfl:e=DT:=hr
  unfold DT
  exact⟨rfl,by rw[show R=none from HE.out];rfl,HK.out⟩
 obtain⟨hp1,hl0,⟨A0,rfl,hc0,hw0⟩,hrd⟩:=hr
 have HL0:=Lib.hid (show x8.length=8 from hl0)
 have HW0:=Lib.hid hw0
 clear hl0 hw0
 dsimp only at hp1 hrd
 have dI:=Lib.hid (HS0.out.call hk hrd)
 have HE1:=Lib.hid (show R=eR1 b p1 from HE.out)
 clear HT HE HK hk hrd HS0 HE0
 have HT:=Lib.hid (Io q A n c p1 2 b w2 dI.out.Me Hn.out hnc hcm hp1 (by omega) (by omega) dI.out.low)
 have HE:=Lib.hid (show R=(EE b p1 2).bind fun y=>eR2 b y.1 y.2 from HE1.out)
 generalize EE b p1 2=r at HT HE
 go_wp2_with fail
 refine (HT.out).mono ?_
 rintro e w3 ⟨hr,hk⟩
 have HK:=Lib.hid (dI.out.keep.trans hk)
 rcases r with _ | ⟨me,p2⟩
 ·obtain rfl:e=DT:=hr
  unfold DT
  exact⟨rfl,by rw[show R=none from HE.out];rfl,HK.out⟩
 obtain⟨hp2,hme,rfl,hrd⟩:=hr
 dsimp only at hp2 hme hrd
 have HS2:=Lib.hid (dI.out.call hk hrd)
 have HE2:=Lib.hid (show R=eR2 b me p2 from HE.out)
 clear HT HE HK hk hrd dI HE1
 have ec:w3.cell? ⟨g+1,5,none⟩=some (.int .i64 0):=HS2.out.cur.cell 5
 have zc:=HS2.out.cur.frozen 5
 have bD:=Lib.hid (HS2.out.store 5 (.int .i64 (me:Int)) (cs':=#[.string ⟨#[]⟩,.slice none 0 0,.int .i64 0,.int .i64 0,.bool false,.int .i64 (me:Int),.slice none 0 0,.int .u32 0,.int .i64 0]) rfl)
 go_upto_region 4 with fail
 clear ec zc HS2
 generalize w3.setCell ⟨g+1,5,none⟩ (.int .i64 (me:Int))=w4 at *
 have HS2:=bD
 clear bD
 have HT:=Lib.hid (JV q A n c p2 4 b w4 HS2.out.Me Hn.out hnc hcm hp2 (by omega) HS2.out.low.at_ (.inl hn0))
 have HE:=Lib.hid (show R=(takeN b p2 4).bind fun y=>eR3 b me y.2 from HE2.out)
 generalize takeN b p2 4=r at HT HE
 go_wp2_with fail
 refine (HT.out).mono ?_
 rintro e w5 ⟨hr,hk⟩
 have HK:=Lib.hid (HS2.out.keep.trans hk)
 rcases r with _ | ⟨x4,p3⟩
 ·obtain rfl:e=DT:=hr
  unfold DT
  exact⟨rfl,by rw[show R=none from HE.out];rfl,HK.out⟩
 obtain⟨hp3,hl2,⟨A2,rfl,hc2,hw2⟩,hrd⟩:=hr
 have HL2:=Lib.hid (show x4.length=4 from hl2)
 have HW2:=Lib.hid hw2
 clear hl2 hw2
 dsimp only at hp3 hrd
 have lN:=Lib.hid (HS2.out.call hk hrd)
 have zK:=Lib.hid (show R=eR3 b me p3 from HE.out)
 clear HT HE HK hk hrd HS2 HE2
 have HT:=Lib.hid (Io q A n c p3 4 b w5 lN.out.Me Hn.out hnc hcm hp3 (by omega) (by omega) lN.out.low)
 have HE:=Lib.hid (show R=(EE b p3 4).bind fun y=>eR4 b me y.1 y.2 from zK.out)
 generalize EE b p3 4=r at HT HE
 go_wp2_with fail
 refine (HT.out).mono ?_
 rintro e w6 ⟨hr,hk⟩
 have HK:=Lib.hid (lN.out.keep.trans hk)
 rcases r with _ | ⟨crc,p4⟩
 ·obtain rfl:e=DT:=hr
  unfold DT
  exact⟨rfl,by rw[show R=none from HE.out];rfl,HK.out⟩
 obtain⟨Ro,AFE,rfl,hrd⟩:=hr
 dsimp only at Ro AFE hrd
 have OC:=Lib.hid (lN.out.call hk hrd)
 have Ps:=Lib.hid (show R=eR4 b me crc p4 from HE.out)
 clear HT HE HK hk hrd lN zK
 have ec:w6.cell? ⟨g+1,7,none⟩=some (.int .u32 0):=OC.out.cur.cell 7
 have zc:=OC.out.cur.frozen 7
 have hwu:IntKind.u32.wrap (crc:Int)=(crc:Int):=by rw[IntKind.wrap_u32'];omega
 have ANv:(crc:Int) % 4294967296=(crc:Int):=by omega
 have bD:=Lib.hid (OC.out.store 7 (.int .u32 (crc:Int)) (cs':=#[.string ⟨#[]⟩,.slice none 0 0,.int .i64 0,.int .i64 0,.bool false,.int .i64 (me:Int),.slice none 0 0,.int .u32 (crc:Int),.int .i64 0]) rfl)
 go_upto_region 6 with fail
 clear ec zc OC
 generalize w6.setCell ⟨g+1,7,none⟩ (.int .u32 (crc:Int))=w7 at *
 have OC:=bD
 clear bD
 have HT:=Lib.hid (Io q A n c p4 4 b w7 OC.out.Me Hn.out hnc hcm Ro (by omega) (by omega) OC.out.low)
 have HE:=Lib.hid (show R=(EE b p4 4).bind fun y=>eR5 b me crc y.1 y.2 from Ps.out)
 generalize EE b p4 4=r at HT HE
 go_wp2_with fail
 refine (HT.out).mono ?_
 rintro e w8 ⟨hr,hk⟩
 have HK:=Lib.hid (OC.out.keep.trans hk)
 rcases r with _ | ⟨pk,p5⟩
 ·obtain rfl:e=DT:=hr
  unfold DT
  exact⟨rfl,by rw[show R=none from HE.out];rfl,HK.out⟩
 obtain⟨hp5,hpk,rfl,hrd⟩:=hr
 dsimp only at hp5 hpk hrd
 have bZ:=Lib.hid (OC.out.call hk hrd)
 have HE5:=Lib.hid (show R=eR5 b me crc pk p5 from HE.out)
 clear HT HE HK hk hrd OC Ps
 have HT:=Lib.hid (Io q A n c p5 4 b w8 bZ.out.Me Hn.out hnc hcm hp5 (by omega) (by omega) bZ.out.low)
 have HE:=Lib.hid (show R=(EE b p5 4).bind fun y=>eR6 b me crc pk y.1 y.2 from HE5.out)
 generalize EE b p5 4=r at HT HE
 go_wp2_with fail
 refine (HT.out).mono ?_
 rintro e w9 ⟨hr,hk⟩
 have HK:=Lib.hid (bZ.out.keep.trans hk)
 rcases r with _ | ⟨sz,p6⟩
 ·obtain rfl:e=DT:=hr
  unfold DT
  exact⟨rfl,by rw[show R=none from HE.out];rfl,HK.out⟩
 obtain⟨ja,hsz,rfl,hrd⟩:=hr
 dsimp only at ja hsz hrd
 have Vy:=Lib.hid (bZ.out.call hk hrd)
 have rQ:=Lib.hid (show R=eR6 b me crc pk sz p6 from HE.out)
 clear HT HE HK hk hrd bZ HE5
 have HT:=Lib.hid (Io q A n c p6 2 b w9 Vy.out.Me Hn.out hnc hcm ja (by omega) (by omega) Vy.out.low)
 have HE:=Lib.hid (show R=(EE b p6 2).bind fun y=>eR7 b me crc pk sz y.1 y.2 from rQ.out)
 generalize EE b p6 2=r at HT HE
 go_wp2_with fail
 refine (HT.out).mono ?_
 rintro e M7 ⟨hr,hk⟩
 have HK:=Lib.hid (Vy.out.keep.trans hk)
 rcases r with _ | ⟨lo,p7⟩
 ·obtain rfl:e=DT:=hr
  unfold DT
  exact⟨rfl,by rw[show R=none from HE.out];rfl,HK.out⟩
 obtain⟨mr,hlo,rfl,hrd⟩:=hr
 dsimp only at mr hlo hrd
 have U8:=Lib.hid (Vy.out.call hk hrd)
 have HE7:=Lib.hid (show R=eR7 b me crc pk sz lo p7 from HE.out)
 clear HT HE HK hk hrd Vy rQ
 have HT:=Lib.hid (Io q A n c p7 2 b M7 U8.out.Me Hn.out hnc hcm mr (by omega) (by omega) U8.out.low)
 have HE:=Lib.hid (show R=(EE b p7 2).bind fun y=>tR1 b me crc pk sz lo y.1 y.2 from HE7.out)
 generalize EE b p7 2=r at HT HE
 go_wp2_with fail
 refine (HT.out).mono ?_
 rintro e bW ⟨hr,hk⟩
 have HK:=Lib.hid (U8.out.keep.trans hk)
 rcases r with _ | ⟨ex,p8⟩
 ·obtain rfl:e=DT:=hr
  unfold DT
  exact⟨rfl,by rw[show R=none from HE.out];rfl,HK.out⟩
 obtain⟨hp8,hex,rfl,hrd⟩:=hr
 dsimp only at hp8 hex hrd
 have zh:=Lib.hid (U8.out.call hk hrd)
 have HE8:=Lib.hid (show R=tR1 b me crc pk sz lo ex p8 from HE.out)
 clear HT HE HK hk hrd U8 HE7
 have HT:=Lib.hid (JV q A n c p8 lo b bW zh.out.Me Hn.out hnc hcm hp8 (by omega) zh.out.low.at_ (.inl hn0))
 have HE:=Lib.hid (show R=(takeN b p8 lo).bind fun y=>tR2 b me crc pk sz ex y.1 y.2 from HE8.out)
 generalize takeN b p8 lo=r at HT HE
 go_wp2_with fail
 refine (HT.out).mono ?_
 rintro e rz ⟨hr,hk⟩
 have HK:=Lib.hid (zh.out.keep.trans hk)
 rcases r with _ | ⟨nm,p9⟩
 ·obtain rfl:e=DT:=hr
  unfold DT
  exact⟨rfl,by rw[show R=none from HE.out];rfl,HK.out⟩
 obtain⟨hp9,hl8,⟨A8,rfl,hc8,hw8⟩,hrd⟩:=hr
 have HL8:=Lib.hid (show nm.length=lo from hl8)
 have HW8:=Lib.hid hw8
 clear hl8 hw8
 dsimp only at hp9 hrd
 have XI:=Lib.hid (zh.out.call hk hrd)
 have HE9:=Lib.hid (show R=tR2 b me crc pk sz ex nm p9 from HE.out)
 clear HT HE HK hk hrd zh HE8
 have ec:rz.cell? ⟨g+1,0,none⟩=some (.string ⟨#[]⟩):=XI.out.cur.cell 0
 have zc:=XI.out.cur.frozen 0
 have hcv:(convert 23 9 (.slice A8 lo (c - p8))).run Tryz.prog rz=.ok (.string (Name.AR nm)) rz:=Gl A8 lo (c - p8) nm rz HL8.out (HW8.out.at_ _ XI.out.low.at_)
 have bD:=Lib.hid (XI.out.store 0 (.string (Name.AR nm)) (cs':=#[.string (Name.AR nm),.slice none 0 0,.int .i64 0,.int .i64 0,.bool false,.int .i64 (me:Int),.slice none 0 0,.int .u32 (crc:Int),.int .i64 0]) rfl)
 go_upto_region 9 with fail
 clear ec zc XI
 generalize rz.setCell ⟨g+1,0,none⟩ (.string (Name.AR nm))=w13 at *
 have XI:=bD
 clear bD
 have HT:=Lib.hid (JV q A n c p9 ex b w13 XI.out.Me Hn.out hnc hcm hp9 (by omega) XI.out.low.at_ (.inl hn0))
 have HE:=Lib.hid (show R=(takeN b p9 ex).bind fun y=>tR3 b me crc pk sz nm y.1 y.2 from HE9.out)
 generalize takeN b p9 ex=r at HT HE
 go_wp2_with fail
 refine (HT.out).mono ?_
 rintro e zi ⟨hr,hk⟩
 have HK:=Lib.hid (XI.out.keep.trans hk)
 rcases r with _ | ⟨xs,MF⟩
 ·obtain rfl:e=DT:=hr
  unfold DT
  exact⟨rfl,by rw[show R=none from HE.out];rfl,HK.out⟩
 obtain⟨AIZ,hl9,⟨A9,rfl,hc9,hw9⟩,hrd⟩:=hr
 have HL9:=Lib.hid (show xs.length=ex from hl9)
 have HW9:=Lib.hid hw9
 clear hl9 hw9
 dsimp only at AIZ hrd
 have TP:=Lib.hid (XI.out.call hk hrd)
 have AIa:=Lib.hid (show R=tR3 b me crc pk sz nm xs MF from HE.out)
 clear HT HE HK hk hrd XI HE9
 have hbx:Below zi.heap.size zi (zi.alloc (.cells #[.slice A9 ex (c - p9),.int .i64 0] 112)):=(Below.refl _ _).alloc (Nat.le_refl _) _
 have bD:=Lib.hid (TP.out.below hbx)
 have RX0:Hid (JS (zi.alloc (.cells #[.slice A9 ex (c - p9),.int .i64 0] 112)) zi.heap.size A9 ex (c - p9) 0):=Lib.hid (AV.new zi _ _)
 have hgx:g+1 < zi.heap.size:=TP.out.fits
 obtain⟨qx,hqx⟩:∃ qx,qx=zi.heap.size:=⟨_,rfl⟩
 rw[←hqx]at RX0 hgx
 have Hqx:=Lib.hid hqx
 clear hbx hqx
 go_upto_region 10 with fail
 rw[←Hqx.out]
 generalize zi.alloc (.cells #[.slice A9 ex (c - p9),.int .i64 0] 112)=w15 at *
 clear TP
 have TP:=bD
 clear bD
 have hcx:(c - p9)≤maxLen:=by omega
 have HT:=Lib.hid (JV qx A9 ex (c - p9) 0 4 xs w15 RX0.out HL9.out hc9 hcx (Nat.zero_le _) (by omega) (HW9.out.at_ _ TP.out.low.at_) (.inr (by omega)))
 have HE:=Lib.hid (show R=(takeN xs 0 4).bind fun y=>tR4 b me crc pk sz nm xs MF y.2 from AIa.out)
 generalize takeN xs 0 4=r at HT HE
 go_wp2_with fail
 refine (HT.out).mono ?_
 rintro e w16 ⟨hr,hk⟩
 have ZW:=Lib.hid (TP.out.side hgx hk)
 rcases r with _ | ⟨x0,y1⟩
 ·obtain rfl:e=DT:=hr
  unfold DT
  exact⟨rfl,by rw[show R=none from HE.out];rfl,ZW.out.keep⟩
 obtain⟨hy1,_,⟨_,rfl,_,_⟩,hrd⟩:=hr
 dsimp only at hy1 hrd
 have RX1:=Lib.hid hrd
 have AIb:=Lib.hid (show R=tR4 b me crc pk sz nm xs MF y1 from HE.out)
 clear HT HE hk hrd TP AIa RX0
 have HT:=Lib.hid (Io qx A9 ex (c - p9) y1 4 xs w16 RX1.out HL9.out hc9 hcx hy1 (by omega) (by omega) (ZW.out.low.within HW9.out (by omega)))
 have HE:=Lib.hid (show R=(EE xs y1 4).bind fun y=>tR5 b me crc pk sz nm xs MF y.1 y.2 from AIb.out)
 generalize EE xs y1 4=r at HT HE
 go_wp2_with fail
 refine (HT.out).mono ?_
 rintro e w17 ⟨hr,hk⟩
 have nJ:=Lib.hid (ZW.out.side hgx hk)
 rcases r with _ | ⟨st,y2⟩
 ·obtain rfl:e=DT:=hr
  unfold DT
  exact⟨rfl,by rw[show R=none from HE.out];rfl,nJ.out.keep⟩
 obtain⟨hy2,hst,rfl,hrd⟩:=hr
 dsimp only at hy2 hst hrd
 have RX2:=Lib.hid hrd
 have AIc:=Lib.hid (show R=tR5 b me crc pk sz nm xs MF st y2 from HE.out)
 clear HT HE hk hrd ZW AIb RX1
 have HT:=Lib.hid (Io qx A9 ex (c - p9) y2 2 xs w17 RX2.out HL9.out hc9 hcx hy2 (by omega) (by omega) (nJ.out.low.within HW9.out (by omega)))
 have HE:=Lib.hid (show R=(EE xs y2 2).bind fun y=>tR6 b me crc pk sz nm xs MF st y.1 y.2 from AIc.out)
 generalize EE xs y2 2=r at HT HE
 go_wp2_with fail
 refine (HT.out).mono ?_
 rintro e w18 ⟨hr,hk⟩
 have ABy:=Lib.hid (nJ.out.side hgx hk)
 rcases r with _ | ⟨nd,y3⟩
 ·obtain rfl:e=DT:=hr
  unfold DT
  exact⟨rfl,by rw[show R=none from HE.out];rfl,ABy.out.keep⟩
 obtain⟨hy3,hnd,rfl,hrd⟩:=hr
 dsimp only at hy3 hnd hrd
 have RX3:=Lib.hid hrd
 have AId:=Lib.hid (show R=tR6 b me crc pk sz nm xs MF st nd y3 from HE.out)
 clear HT HE hk hrd nJ AIc RX2
 have HT:=Lib.hid (Io qx A9 ex (c - p9) y3 1 xs w18 RX3.out HL9.out hc9 hcx hy3 (by omega) (by omega) (ABy.out.low.within HW9.out (by omega)))
 have HE:=Lib.hid (show R=(EE xs y3 1).bind fun y=>tR7 b me crc pk sz nm st nd y.1 MF from AId.out)
 generalize EE xs y3 1=r at HT HE
 go_wp2_with fail
 refine (HT.out).mono ?_
 rintro e w19 ⟨hr,hk⟩
 have NY:=Lib.hid (ABy.out.side hgx hk)
 rcases r with _ | ⟨go,y4⟩
 ·obtain rfl:e=DT:=hr
  unfold DT
  exact⟨rfl,by rw[show R=none from HE.out];rfl,NY.out.keep⟩
 obtain⟨hy4,hgo,rfl,hrd⟩:=hr
 dsimp only at hy4 hgo hrd
 have RX4:=Lib.hid hrd
 have AIe:=Lib.hid (show R=tR7 b me crc pk sz nm st nd go MF from HE.out)
 clear HT HE hk hrd ABy AId RX3
 have ec2:w19.cell? ⟨g+1,2,none⟩=some (.int .i64 0):=NY.out.cur.cell 2
 have zc2:=NY.out.cur.frozen 2
 have ec3:w19.cell? ⟨g+1,3,none⟩=some (.int .i64 0):=NY.out.cur.cell 3
 have zc3:=NY.out.cur.frozen 3
 have ec4:w19.cell? ⟨g+1,4,none⟩=some (.bool false):=NY.out.cur.cell 4
 have zc4:=NY.out.cur.frozen 4
 have HGo:Hid (((go:Int) == 1)=(go == 1)):=Lib.hid (by
  by_cases h:go=1
  ·subst h;rfl
  ·rw[show (go == 1)=false from by simp[h]];simp;omega)
 have ACv:=Lib.hid (NY.out.store 2 (.int .i64 (st:Int)) (cs':=#[.string (Name.AR nm),.slice none 0 0,.int .i64 (st:Int),.int .i64 0,.bool false,.int .i64 (me:Int),.slice none 0 0,.int .u32 (crc:Int),.int .i64 0]) rfl)
 have ACw:=Lib.hid (ACv.out.store 3 (.int .i64 (nd:Int)) (cs':=#[.string (Name.AR nm),.slice none 0 0,.int .i64 (st:Int),.int .i64 (nd:Int),.bool false,.int .i64 (me:Int),.slice none 0 0,.int .u32 (crc:Int),.int .i64 0]) rfl)
 have bD:=Lib.hid (ACw.out.store 4 (.bool ((go:Int) == 1)) (cs':=#[.string (Name.AR nm),.slice none 0 0,.int .i64 (st:Int),.int .i64 (nd:Int),.bool ((go:Int) == 1),.int .i64 (me:Int),.slice none 0 0,.int .u32 (crc:Int),.int .i64 0]) rfl)
 clear ACv ACw
 go_upto_region 12 with fail
 clear ec2 zc2 ec3 zc3 ec4 zc4 NY
 generalize ((w19.setCell ⟨g+1,2,none⟩ (.int .i64 (st:Int))).setCell ⟨g+1,3,none⟩ (.int .i64 (nd:Int))).setCell ⟨g+1,4,none⟩ (.bool ((go:Int) == 1))=w20 at *
 have NY:=bD
 clear bD
 rw[HGo.out]at NY
 clear HGo RX4
 have HT:=Lib.hid (JV q A n c MF pk b w20 NY.out.Me Hn.out hnc hcm AIZ (by omega) NY.out.low.at_ (.inl hn0))
 have HE:=Lib.hid (show R=(takeN b MF pk).bind fun y=>tR8 me crc sz nm st nd go y.1 y.2 from AIe.out)
 generalize takeN b MF pk=r at HT HE
 go_wp2_with fail
 refine (HT.out).mono ?_
 rintro e w21 ⟨hr,hk⟩
 have HK:=Lib.hid (NY.out.keep.trans hk)
 rcases r with _ | ⟨pd,p15⟩
 ·obtain rfl:e=DT:=hr
  unfold DT
  exact⟨rfl,by rw[show R=none from HE.out];rfl,HK.out⟩
 obtain⟨AFH,AIf,⟨RZ,rfl,AIg,AIh⟩,hrd⟩:=hr
 have Ra:=Lib.hid (show pd.length=pk from AIf)
 have ABz:=Lib.hid AIh
 clear AIf AIh
 dsimp only at AFH hrd
 have MG:=Lib.hid (NY.out.call hk hrd)
 have AIi:=Lib.hid (show R=tR8 me crc sz nm st nd go pd p15 from HE.out)
 clear HT HE HK hk hrd NY AIe
 have ec:w21.cell? ⟨g+1,6,none⟩=some (.slice none 0 0):=MG.out.cur.cell 6
 have zc:=MG.out.cur.frozen 6
 have bD:=Lib.hid (MG.out.store 6 (.slice RZ pk (c - MF)) (cs':=#[.string (Name.AR nm),.slice none 0 0,.int .i64 (st:Int),.int .i64 (nd:Int),.bool (go == 1),.int .i64 (me:Int),.slice RZ pk (c - MF),.int .u32 (crc:Int),.int .i64 0]) rfl)
 go_upto_region 13 with fail
 clear ec zc MG
 generalize w21.setCell ⟨g+1,6,none⟩ (.slice RZ pk (c - MF))=rR at *
 have MG:=bD
 clear bD
 have ec5:rR.cell? ⟨g+1,5,none⟩=some (.int .i64 (me:Int)):=MG.out.cur.cell 5
 have ec6:rR.cell? ⟨g+1,6,none⟩=some (.slice RZ pk (c - MF)):=MG.out.cur.cell 6
 have ec1:rR.cell? ⟨g+1,1,none⟩=some (.slice none 0 0):=MG.out.cur.cell 1
 have zc1:=MG.out.cur.frozen 1
 have AIj:pd.length=pk:=Ra.out
 have hpA:RZ=none→pk=0:=fun h=>by
  rcases Nat.eq_zero_or_pos pk with h0 | h0
  ·exact h0
  ·obtain⟨_,_,_,_,e,_⟩:=ABz.out.blk (by rw[AIj];exact h0)
   rw[h]at e;cases e
 have HpA:=Lib.hid hpA
 have hby:BI rR RZ pd:=ABz.out.at_ _ MG.out.low.at_
 have Hby:=Lib.hid hby
 have HE:=Lib.hid (show R=(FQ me pd).bind fun bs=>if bs.length=sz then some (⟨⟨nm,bs,(st:Int),(nd:Int),go == 1⟩,me,pd,crc⟩,p15) else none from AIi.out)
 clear hpA hby AIi AIj
 by_cases hm0:me=0
 ·have hm1:((me:Int) == 0)=true:=by rw[hm0];rfl
  have hbr:FQ me pd=some pd:=by unfold FQ;rw[if_pos hm0]
  have HC:=Lib.hid (Sm.Ei RZ pk (c - MF) (pd.map Eh) rR (by rw[List.length_map,Ra.out,Nat.mul_one]) Hby.out HpA.out (Ia pd) (by omega) (by omega))
  have HE2:Hid (R=if pd.length=sz then some (⟨⟨nm,pd,(st:Int),(nd:Int),go == 1⟩,me,pd,crc⟩,p15) else none):=Lib.hid (by rw[HE.out,hbr];rfl)
  have hbs:g+1 < rR.heap.size:=MG.out.fits
  clear HE hbr hm0
  go_wp2_with fail
  refine (HC.out).mono ?_
  rintro e w23 ⟨vb,rfl,UB,hbb⟩
  have Yi:=Lib.hid (MG.out.below hbb)
  obtain⟨Ab,cb,rfl,hb1,hb2,_,_⟩:=Ad UB
  have zL:BN w23 rR.heap.size (.slice Ab pk cb) pd:=by unfold BN;rw[Ra.out];exact UB
  have HOb:=Lib.hid (ownsRow_setCell_below zL (a:=⟨g+1,1,none⟩) hbs (.slice Ab pk cb))
  have ec1:w23.cell? ⟨g+1,1,none⟩=some (.slice none 0 0):=Yi.out.cur.cell 1
  have zc1:=Yi.out.cur.frozen 1
  have FP:=Lib.hid (Yi.out.store 1 (.slice Ab pk cb) (cs':=#[.string (Name.AR nm),.slice Ab pk cb,.int .i64 (st:Int),.int .i64 (nd:Int),.bool (go == 1),.int .i64 (me:Int),.slice RZ pk (c - MF),.int .u32 (crc:Int),.int .i64 0]) rfl)
  clear UB hbb HC MG
  go_upto_region 22 with fail
  clear ec1 zc1 Yi ec5 ec6 zL
  generalize w23.setCell ⟨g+1,1,none⟩ (.slice Ab pk cb)=La at *
  generalize hbase:rR.heap.size=base at *
  have e0:La.cell? ⟨g+1,0,none⟩=some (.string (Name.AR nm)):=FP.out.cur.cell 0
  have e1:La.cell? ⟨g+1,1,none⟩=some (.slice Ab pk cb):=FP.out.cur.cell 1
  have e2:La.cell? ⟨g+1,2,none⟩=some (.int .i64 (st:Int)):=FP.out.cur.cell 2
  have e3:La.cell? ⟨g+1,3,none⟩=some (.int .i64 (nd:Int)):=FP.out.cur.cell 3
  have e4:La.cell? ⟨g+1,4,none⟩=some (.bool (go == 1)):=FP.out.cur.cell 4
  have e5:La.cell? ⟨g+1,5,none⟩=some (.int .i64 (me:Int)):=FP.out.cur.cell 5
  have e6:La.cell? ⟨g+1,6,none⟩=some (.slice RZ pk (c - MF)):=FP.out.cur.cell 6
  have e7:La.cell? ⟨g+1,7,none⟩=some (.int .u32 (crc:Int)):=FP.out.cur.cell 7
  have e8:La.cell? ⟨g+1,8,none⟩=some (.int .i64 0):=FP.out.cur.cell 8
  have q0:La.cell? ⟨g,0,none⟩=some (.string ⟨#[]⟩):=FP.out.res.cell 0
  have q1:La.cell? ⟨g,1,none⟩=some (.slice none 0 0):=FP.out.res.cell 1
  have q2:La.cell? ⟨g,2,none⟩=some (.int .i64 0):=FP.out.res.cell 2
  have q3:La.cell? ⟨g,3,none⟩=some (.int .i64 0):=FP.out.res.cell 3
  have q4:La.cell? ⟨g,4,none⟩=some (.bool false):=FP.out.res.cell 4
  have q5:La.cell? ⟨g,5,none⟩=some (.int .i64 0):=FP.out.res.cell 5
  have q6:La.cell? ⟨g,6,none⟩=some (.slice none 0 0):=FP.out.res.cell 6
  have q7:La.cell? ⟨g,7,none⟩=some (.int .u32 0):=FP.out.res.cell 7
  have q8:La.cell? ⟨g,8,none⟩=some (.int .i64 0):=FP.out.res.cell 8
  have z0:=FP.out.res.frozen 0
  have z1:=FP.out.res.frozen 1
  have z2:=FP.out.res.frozen 2
  have z3:=FP.out.res.frozen 3
  have z4:=FP.out.res.frozen 4
  have z5:=FP.out.res.frozen 5
  have z6:=FP.out.res.frozen 6
  have z7:=FP.out.res.frozen 7
  have z8:=FP.out.res.frozen 8
  have Jw:=Lib.hid (Pj (show AV La g 78 #[.string ⟨#[]⟩,.slice none 0 0,.int .i64 0,.int .i64 0,.bool false,.int .i64 0,.slice none 0 0,.int .u32 0,.int .i64 0] from FP.out.res) (.string (Name.AR nm)) (.slice Ab pk cb) (.int .i64 (st:Int)) (.int .i64 (nd:Int)) (.bool (go == 1)) (.int .i64 (me:Int)) (.slice RZ pk (c - MF)) (.int .u32 (crc:Int)) (.int .i64 0))
  have zo:=Lib.hid (Um FP.out.keep FP.out.gs (Nat.le_of_lt hqg) (.string (Name.AR nm)) (.slice Ab pk cb) (.int .i64 (st:Int)) (.int .i64 (nd:Int)) (.bool (go == 1)) (.int .i64 (me:Int)) (.slice RZ pk (c - MF)) (.int .u32 (crc:Int)) (.int .i64 0))
  have HDx:=Lib.hid (bC FP.out.Me (Nat.ne_of_lt hqg) (.string (Name.AR nm)) (.slice Ab pk cb) (.int .i64 (st:Int)) (.int .i64 (nd:Int)) (.bool (go == 1)) (.int .i64 (me:Int)) (.slice RZ pk (c - MF)) (.int .u32 (crc:Int)) (.int .i64 0))
  have HOx:=Lib.hid (Un HOb.out (show g < base by omega) (.string (Name.AR nm)) (.slice Ab pk cb) (.int .i64 (st:Int)) (.int .i64 (nd:Int)) (.bool (go == 1)) (.int .i64 (me:Int)) (.slice RZ pk (c - MF)) (.int .u32 (crc:Int)) (.int .i64 0))
  by_cases hq:pk=sz
  ·have hq':(((pk:Nat):Int) != ((sz:Nat):Int))=false:=by simp[hq]
   have Hq:=Lib.hid hq
   clear hq
   go_wp2_with fail
   refine bodyPost_ret (Gu rfl _ _ g 78 #[.string (Name.AR nm),.slice Ab pk cb,.int .i64 (st:Int),.int .i64 (nd:Int),.bool (go == 1),.int .i64 (me:Int),.slice RZ pk (c - MF),.int .u32 (crc:Int),.int .i64 0] (0,0) _ rfl Jw.out Tryz.underlying78 rfl (by kernel_rfl)) rfl ?_
   refine⟨?_,zo.out⟩
   rw[HE2.out,Ra.out,if_pos Hq.out]
   exact⟨AFH,⟨⟨⟨⟨nm,pd,(st:Int),(nd:Int),go == 1⟩,me,pd,crc⟩,(Ab,pk,cb),(RZ,pk,(c - MF)),0⟩,rfl,⟨rfl,rfl,AZ HOx.out (by rw[←Hg.out];omega),Ra.out.symm,by rw[Ra.out];exact AIg,by show (c - MF)≤maxLen;omega,ABz.out⟩⟩,HDx.out⟩
  ·have hq':(((pk:Nat):Int) != ((sz:Nat):Int))=true:=by simp;omega
   have Hq:=Lib.hid hq
   clear hq
   go_wp2_with fail
   refine⟨rfl,?_,FP.out.keep⟩
   rw[HE2.out,Ra.out,if_neg Hq.out]
   rfl
 ·have hm1:((me:Int) == 0)=false:=by simp;omega
  by_cases hm8:me=8
  ·have hm2:((me:Int) == 8)=true:=by rw[hm8];rfl
   have hbr:FQ me pd=(match CF pd with
    | .ok a=>if a.2.1=pd.length then some a.1 else none
    | .bad _=>none):=by unfold FQ;rw[if_neg hm0,if_pos hm8];cases CF pd <;> rfl
   have HBr:=Lib.hid hbr
   have HU:=Lib.hid (Inf.eY RZ pk (c - MF) pd rR Ra.out (by omega) Hby.out)
   have hbs:g+1 < rR.heap.size:=MG.out.fits
   clear hbr hm0 hm8
   go_wp2_with fail
   refine (HU.out).mono ?_
   rintro e w23 ⟨hu,hbb⟩
   have Yi:=Lib.hid (MG.out.below hbb)
   have ec6:w23.cell? ⟨g+1,6,none⟩=some (.slice RZ pk (c - MF)):=Yi.out.cur.cell 6
   have ec1:w23.cell? ⟨g+1,1,none⟩=some (.slice none 0 0):=Yi.out.cur.cell 1
   have zc1:=Yi.out.cur.frozen 1
   have AB0:=Lib.hid HBr.out
   unfold Inf.Zf at hu
   rcases hr:CF pd with z | ⟨out,used,ks⟩
   ·rw[hr]at hu
    obtain rfl:=hu
    have hzz:(z == 0)=false:=by rw[beq_eq_false_iff_ne];exact Inf.nM _ z hr
    have hzn:(z != 0)=true:=by rw[bne,hzz];rfl
    have hR:R=none:=by rw[HE.out,AB0.out,hr];rfl
    have HR:=Lib.hid hR
    clear hr hR HBr AB0 HE HU MG hbb
    go_wp2_with fail
    exact⟨rfl,by rw[HR.out];rfl,Yi.out.keep⟩
   ·rw[hr]at hu
    obtain⟨hu3,Ao,co,Ak,ck,rfl,hoo,hok⟩:=hu
    dsimp only at hu3 hoo hok⊢
    have AIk:FQ me pd=if used=pd.length then some out else none:=by rw[AB0.out,hr]
    have AB1:=Lib.hid AIk
    obtain⟨_,_,e1,hco,ANw,_,_⟩:=Ad hoo
    injection e1 with e1 _ e2
    subst e1 e2
    obtain⟨no,hno⟩:∃ no,no=out.length:=⟨_,rfl⟩
    rw[←hno]at hoo hco hu3⊢
    have Hno:=Lib.hid hno.symm
    generalize ks.length=nk at *
    clear hr AIk HBr AB0 HU MG hbb hok hno
    by_cases huq:used=pk
    ·have hup:((used:Int) != (pk:Int))=false:=by simp[huq]
     have HE2:Hid (R=if out.length=sz then some (⟨⟨nm,out,(st:Int),(nd:Int),go == 1⟩,me,pd,crc⟩,p15) else none):=Lib.hid (by rw[HE.out,AB1.out,if_pos (by rw[Ra.out];exact huq)];rfl)
     have zL:BN w23 rR.heap.size (.slice Ao no co) out:=by unfold BN;rw[Hno.out];exact hoo
     have HOb:=Lib.hid (ownsRow_setCell_below zL (a:=⟨g+1,1,none⟩) hbs (.slice Ao no co))
     have FP:=Lib.hid (Yi.out.store 1 (.slice Ao no co) (cs':=#[.string (Name.AR nm),.slice Ao no co,.int .i64 (st:Int),.int .i64 (nd:Int),.bool (go == 1),.int .i64 (me:Int),.slice RZ pk (c - MF),.int .u32 (crc:Int),.int .i64 0]) rfl)
     have Huq:=Lib.hid huq
     clear hoo HE AB1 zL huq
     go_upto_region 22 with fail
     clear ec1 zc1 Yi ec5 ec6
     generalize w23.setCell ⟨g+1,1,none⟩ (.slice Ao no co)=La at *
     generalize hbase:rR.heap.size=base at *
     have e0:La.cell? ⟨g+1,0,none⟩=some (.string (Name.AR nm)):=FP.out.cur.cell 0
     have e1:La.cell? ⟨g+1,1,none⟩=some (.slice Ao no co):=FP.out.cur.cell 1
     have e2:La.cell? ⟨g+1,2,none⟩=some (.int .i64 (st:Int)):=FP.out.cur.cell 2
     have e3:La.cell? ⟨g+1,3,none⟩=some (.int .i64 (nd:Int)):=FP.out.cur.cell 3
     have e4:La.cell? ⟨g+1,4,none⟩=some (.bool (go == 1)):=FP.out.cur.cell 4
     have e5:La.cell? ⟨g+1,5,none⟩=some (.int .i64 (me:Int)):=FP.out.cur.cell 5
     have e6:La.cell? ⟨g+1,6,none⟩=some (.slice RZ pk (c - MF)):=FP.out.cur.cell 6
     have e7:La.cell? ⟨g+1,7,none⟩=some (.int .u32 (crc:Int)):=FP.out.cur.cell 7
     have e8:La.cell? ⟨g+1,8,none⟩=some (.int .i64 0):=FP.out.cur.cell 8
     have q0:La.cell? ⟨g,0,none⟩=some (.string ⟨#[]⟩):=FP.out.res.cell 0
     have q1:La.cell? ⟨g,1,none⟩=some (.slice none 0 0):=FP.out.res.cell 1
     have q2:La.cell? ⟨g,2,none⟩=some (.int .i64 0):=FP.out.res.cell 2
     have q3:La.cell? ⟨g,3,none⟩=some (.int .i64 0):=FP.out.res.cell 3
     have q4:La.cell? ⟨g,4,none⟩=some (.bool false):=FP.out.res.cell 4
     have q5:La.cell? ⟨g,5,none⟩=some (.int .i64 0):=FP.out.res.cell 5
     have q6:La.cell? ⟨g,6,none⟩=some (.slice none 0 0):=FP.out.res.cell 6
     have q7:La.cell? ⟨g,7,none⟩=some (.int .u32 0):=FP.out.res.cell 7
     have q8:La.cell? ⟨g,8,none⟩=some (.int .i64 0):=FP.out.res.cell 8
     have z0:=FP.out.res.frozen 0
     have z1:=FP.out.res.frozen 1
     have z2:=FP.out.res.frozen 2
     have z3:=FP.out.res.frozen 3
     have z4:=FP.out.res.frozen 4
     have z5:=FP.out.res.frozen 5
     have z6:=FP.out.res.frozen 6
     have z7:=FP.out.res.frozen 7
     have z8:=FP.out.res.frozen 8
     have Jw:=Lib.hid (Pj (show AV La g 78 #[.string ⟨#[]⟩,.slice none 0 0,.int .i64 0,.int .i64 0,.bool false,.int .i64 0,.slice none 0 0,.int .u32 0,.int .i64 0] from FP.out.res) (.string (Name.AR nm)) (.slice Ao no co) (.int .i64 (st:Int)) (.int .i64 (nd:Int)) (.bool (go == 1)) (.int .i64 (me:Int)) (.slice RZ pk (c - MF)) (.int .u32 (crc:Int)) (.int .i64 0))
     have zo:=Lib.hid (Um FP.out.keep FP.out.gs (Nat.le_of_lt hqg) (.string (Name.AR nm)) (.slice Ao no co) (.int .i64 (st:Int)) (.int .i64 (nd:Int)) (.bool (go == 1)) (.int .i64 (me:Int)) (.slice RZ pk (c - MF)) (.int .u32 (crc:Int)) (.int .i64 0))
     have HDx:=Lib.hid (bC FP.out.Me (Nat.ne_of_lt hqg) (.string (Name.AR nm)) (.slice Ao no co) (.int .i64 (st:Int)) (.int .i64 (nd:Int)) (.bool (go == 1)) (.int .i64 (me:Int)) (.slice RZ pk (c - MF)) (.int .u32 (crc:Int)) (.int .i64 0))
     have HOx:=Lib.hid (Un HOb.out (show g < base by omega) (.string (Name.AR nm)) (.slice Ao no co) (.int .i64 (st:Int)) (.int .i64 (nd:Int)) (.bool (go == 1)) (.int .i64 (me:Int)) (.slice RZ pk (c - MF)) (.int .u32 (crc:Int)) (.int .i64 0))
     by_cases hq:no=sz
     ·have hq':(((no:Nat):Int) != ((sz:Nat):Int))=false:=by simp[hq]
      have Hq:=Lib.hid hq
      clear hq
      go_wp2_with fail
      refine bodyPost_ret (Gu rfl _ _ g 78 #[.string (Name.AR nm),.slice Ao no co,.int .i64 (st:Int),.int .i64 (nd:Int),.bool (go == 1),.int .i64 (me:Int),.slice RZ pk (c - MF),.int .u32 (crc:Int),.int .i64 0] (0,0) _ rfl Jw.out Tryz.underlying78 rfl (by kernel_rfl)) rfl ?_
      refine⟨?_,zo.out⟩
      rw[HE2.out,Hno.out,if_pos Hq.out]
      exact⟨AFH,⟨⟨⟨⟨nm,out,(st:Int),(nd:Int),go == 1⟩,me,pd,crc⟩,(Ao,no,co),(RZ,pk,(c - MF)),0⟩,rfl,⟨rfl,rfl,AZ HOx.out (by rw[←Hg.out];omega),Ra.out.symm,by rw[Ra.out];exact AIg,by show (c - MF)≤maxLen;omega,ABz.out⟩⟩,HDx.out⟩
     ·have hq':(((no:Nat):Int) != ((sz:Nat):Int))=true:=by simp;omega
      have Hq:=Lib.hid hq
      clear hq
      go_wp2_with fail
      refine⟨rfl,?_,FP.out.keep⟩
      rw[HE2.out,Hno.out,if_neg Hq.out]
      rfl
    ·have hup:((used:Int) != (pk:Int))=true:=by simp;omega
     have HR:Hid (R=none):=Lib.hid (by rw[HE.out,AB1.out,if_neg (by rw[Ra.out];exact huq)];rfl)
     clear hoo HE AB1
     go_wp2_with fail
     exact⟨rfl,by rw[HR.out];rfl,Yi.out.keep⟩
  ·have hm2:((me:Int) == 8)=false:=by simp;omega
   have HR:Hid (R=none):=Lib.hid (by rw[HE.out];unfold FQ;rw[if_neg hm0,if_neg hm8];rfl)
   clear HE
   go_wp2_with fail
   exact⟨rfl,by rw[HR.out];rfl,MG.out.keep⟩
end Go.Proofs.YtabdianhoabhhaaGreatDoor.Zip
namespace Go.Proofs.YtabdianhoabhhaaGreatDoor.Zip
open Go Go.RowKit Go.Proofs.YtabdianhoabhhaaGreatDoor Go.Proofs.YtabdianhoabhhaaGreatDoor.Bits Go.Proofs.YtabdianhoabhhaaGreatDoor.Merge Go.Proofs.YtabdianhoabhhaaGreatDoor.Name
open Go.Proofs.YtabdianhoabhhaaGreatDoor.Inf (EL)
set_option linter.unusedVariables false
set_option linter.unusedSimpArgs false
structure NW (w:World) (B g2 g3:Nat) (v2 v3:Value):Prop where
 nA:B≤g2
 jY:B≤g3
 b2:AV w g2 76 #[v2]
 b3:AV w g3 4 #[v3]
theorem NW.s2 {w:World} {B g2 g3:Nat} {v2 v3:Value} (h:NW w B g2 g3 v2 v3) (u:Value):NW (w.setCell ⟨g2,0,none⟩ u) B g2 g3 u v3:=
 ⟨h.nA,h.jY,h.b2.Ca 0 u,h.b3.far (p:=⟨g2,0,none⟩) (EL h.b3 h.b2 (by decide)) u⟩
theorem NW.s3 {w:World} {B g2 g3:Nat} {v2 v3:Value} (h:NW w B g2 g3 v2 v3) (u:Value):NW (w.setCell ⟨g3,0,none⟩ u) B g2 g3 v2 u:=
 ⟨h.nA,h.jY,h.b2.far (p:=⟨g3,0,none⟩) (EL h.b2 h.b3 (by decide)) u,h.b3.Ca 0 u⟩
theorem NW.below {w w':World} {B g2 g3:Nat} {v2 v3:Value} (h:NW w B g2 g3 v2 v3) (hb:Below w.heap.size w w'):NW w' B g2 g3 v2 v3:=
 ⟨h.nA,h.jY,h.b2.below hb h.b2.lt,h.b3.below hb h.b3.lt⟩
set_option maxRecDepth 100000 in
set_option maxHeartbeats 1600000 in
theorem Qh (B g2 g3:Nat) (v2 v3:Value) (older:List PanicEntry) (w:World) (hBw:B≤w.heap.size) (h:NW w B g2 g3 v2 v3) :
  CallsD Tryz.prog 66 #[.pointer (some ⟨g2,0,none⟩),.pointer (some ⟨g3,0,none⟩)] (.panicking ({ v:=.iface 108 (.agg #[]),recovered:=false } :: older)) w fun e u' w'=>
   e=.returned (.tuple #[])∧u'=.panicking ({ v:=.iface 108 (.agg #[]),recovered:=true } :: older)∧NW w' B g2 g3 (.slice none 0 0) (.bool false)∧Below B w w':=by
 have H:=Lib.hid h
 clear h
 refine callsD_of_wpS Tryz.func66 rfl fun c₀ cs hu=>?_
 apply wpS_seq
 apply wpS_region
 simp[wpOpsS,go_sem,recoverD,hu,Tryz.ntmps66,Exit.thenS]
 refine wpS_of_wp (wp_mono (Q:=fun e a w'=>e=.normal∧a.defers=[]∧NW w' B g2 g3 (.slice none 0 0) (.bool false)∧Below B w w') ?_ ?_)
 rotate_left
 ·rintro e a w' ⟨rfl,hd,h1,h2⟩
  cases c₀
  simp only at hu
  subst hu
  exact⟨hd,_,rfl,_,results_none rfl _ _ _,rfl,rfl,h1,h2⟩
 clear hu
 have has:∀ (v:Value) (W:World),(Instr.typeAssert (.iface 108 v) 20 108 true).run Tryz.prog W=.ok (.tuple #[v,.bool true]) W:=fun _ _=>by kernel_rfl
 have nD:#[.pointer (some ⟨g2,0,none⟩),.pointer (some ⟨g3,0,none⟩)]++((Array.replicate 14 undef).setIfInBounds 3 (.iface 108 (.agg #[]))).setIfInBounds 0 (.iface 108 (.agg #[]))=#[.pointer (some ⟨g2,0,none⟩),.pointer (some ⟨g3,0,none⟩),.iface 108 (.agg #[]),undef,undef,.iface 108 (.agg #[]),undef,undef,undef,undef,undef,undef,undef,undef,undef,undef]:=rfl
 rw[nD]
 clear nD
 have hb2:Below w.heap.size w (w.alloc (.cells #[] 108)):=(Below.refl _ _).alloc (Nat.le_refl _) _
 have H2:=Lib.hid (H.out.below hb2)
 have Hb2:=Lib.hid (hb2.mono hBw)
 clear hb2
 go_upto_region 5 with fail
 generalize w.alloc (.cells #[] 108)=w2 at *
 have c2:w2.cell? ⟨g2,0,none⟩=some v2:=H2.out.b2.cell 0
 have f2:=H2.out.b2.frozen 0
 have H3:=Lib.hid (H2.out.s2 (.slice none 0 0))
 have Hb3:=Lib.hid (Hb2.out.setCell (p:=⟨g2,0,none⟩) H2.out.nA (.slice none 0 0))
 have c3:(w2.setCell ⟨g2,0,none⟩ (.slice none 0 0)).cell? ⟨g3,0,none⟩=some v3:=H3.out.b3.cell 0
 have f3:(w2.setCell ⟨g2,0,none⟩ (.slice none 0 0)).frozen? ⟨g3,0,none⟩=false:=H3.out.b3.frozen 0
 have H4:=Lib.hid (H3.out.s3 (.bool false))
 have Hb4:=Lib.hid (Hb3.out.setCell (p:=⟨g3,0,none⟩) H3.out.jY (.bool false))
 go_wp2_with fail
 exact⟨H4.out,Hb4.out⟩
set_option maxRecDepth 100000 in
set_option maxHeartbeats 1600000 in
theorem ay (g2 g3:Nat) (w:World) :
  CallsD Tryz.prog 66 #[.pointer (some ⟨g2,0,none⟩),.pointer (some ⟨g3,0,none⟩)] .returning w fun e u' w'=>e=.returned (.tuple #[])∧u'=.returning∧w'=w:=by
 refine callsD_of_wpS Tryz.func66 rfl fun c₀ cs hu=>?_
 apply wpS_seq
 apply wpS_region
 simp[wpOpsS,go_sem,recoverD,hu,Tryz.ntmps66,Exit.thenS]
 refine wpS_of_wp (wp_mono (Q:=fun e a w'=>e=.normal∧a.defers=[]∧w'=w) ?_ ?_)
 rotate_left
 ·rintro e a w' ⟨rfl,hd,rfl⟩
  cases c₀
  simp only at hu
  subst hu
  exact⟨hd,_,rfl,_,results_none rfl _ _ _,rfl,rfl,rfl⟩
 clear hu
 go_wp2_with fail
end Go.Proofs.YtabdianhoabhhaaGreatDoor.Zip
