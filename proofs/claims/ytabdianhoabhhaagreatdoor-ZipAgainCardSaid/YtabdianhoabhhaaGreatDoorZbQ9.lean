/- texts joined: InfCodes InfBlock InfCatch InfMono InfUnpack InfNz ZipEntry. -/
import Derived.Test.YtabdianhoabhhaaGreatDoorZbQ6
import Derived.Tactics
import Derived.Tactics2
import Derived.Defers
import Derived.Recover
import Derived.Test.YtabdianhoabhhaaGreatDoorZbQ1
import Derived.Test.YtabdianhoabhhaaGreatDoorZbQ3
import Derived.Test.YtabdianhoabhhaaGreatDoorZbQ8
namespace Go.Proofs.YtabdianhoabhhaaGreatDoor.Inf
open Go Go.RowKit Go.Proofs.YtabdianhoabhhaaGreatDoor Go.Proofs.YtabdianhoabhhaaGreatDoor.Bits Go.Proofs.YtabdianhoabhhaaGreatDoor.Code
set_option linter.unusedVariables false
set_option linter.unusedSimpArgs false
theorem tabAt_tb {w:World} {base b p:Nat} {zs:List Int} (h:TabAt w b p (lsOf zs)) (hb:base≤b) (hc:chkL zs=0):TbAt w base p (lsOf zs):=by
 obtain⟨h1,v,h2,h3⟩:=h
 obtain⟨c1,_,c2,c3,_⟩:=chk_fine zs hc
 exact⟨⟨Nat.le_trans hb h1,v,h2,own_base h3 hb⟩,c3,c2,by unfold lsOf;rw[List.length_map];exact c1⟩
theorem own_here {w:World} {base size n:Nat} {e:TypeId} {v:Value} {xs:List Value} (h:w.ownsRow base e size v n xs) (h0:0 < n):∃ g c,v=.slice (some ⟨g,0,none⟩) n c∧base≤g∧n≤c∧c≤maxLen∧SlAt w (some ⟨g,0,none⟩) xs:=by
 obtain⟨A,c,rfl,h1,h2,h3,_⟩:=own_slat h
 rcases h.2 with ⟨h1',_⟩ | ⟨g,cap',cur,hv,hb,hg,_⟩
 ·injection h1' with h1' h2';omega
 ·injection hv with hv;subst hv;exact⟨g,c,rfl,hb,h1,h2,h3⟩
theorem slat_nth {w:World} {g:Nat} {xs:List Value} (h:SlAt w (some ⟨g,0,none⟩) xs) {k:Nat} {v:Value} (hk:xs[k]?=some v):w.cell? ⟨g,k,none⟩=some v:=by
 obtain⟨b,o,e,hc⟩:=h (by
  rcases Nat.eq_zero_or_pos xs.length with h0 | h0
  ·rw[List.eq_nil_of_length_eq_zero h0]at hk;cases hk
  ·exact h0)
 injection e with e
 injection e with e1 e2
 subst e1 e2
 have:=hc k v hk
 rwa [Nat.zero_add]at this
theorem TbAt.old {w w':World} {base p B0:Nat} {ls:List Nat} (h:TbAt w base p ls) (hk:Below w.heap.size w w'):TbAt w' base p ls:=by
 obtain⟨⟨h1,v,h2,h3⟩,h4,h5,h6⟩:=h
 exact⟨⟨h1,v,h2.below hk h2.lt,own_keep h3 hk⟩,h4,h5,h6⟩
theorem zs_iv (s:List Nat):(zsOf s).map iv=s.map natV:=by
 unfold zsOf
 rw[List.map_map]
 rfl
theorem orderL_lt:∀ j < 19,orderL.getD j 0 < 19:=by decide
set_option maxRecDepth 100000 in
set_option maxHeartbeats 4000000 in
theorem codes_r (base g q:Nat) (A:Option Addr) (n c pos:Nat) (xs:List UInt8) (vo vk:Value) (w:World) (hq:base≤q) (hbw:base≤w.heap.size)
  (hb:Blk w g 177 #[.pointer (some ⟨q,0,none⟩),vo,vk]) (hsrc:SrcAt w q A n c pos) (hp:pos≤8*n) (hi:InAt_ w base A n xs) :
  Calls Tryz.prog 164 #[.pointer (some ⟨g,0,none⟩)] w fun e w'=>
   RPost (headR (bitsL xs) pos) (fun a e w'=>∃ p1 p2,e=.returned (.tuple #[.pointer (some ⟨p1,0,none⟩),.pointer (some ⟨p2,0,none⟩)])∧TbAt w' base p1 a.2.1∧TbAt w' base p2 a.2.2∧SrcAt w' q A n c a.1∧a.1≤8*n) e w'∧OldK base w.heap.size srcT w w':=by
 obtain⟨R,hR⟩:∃ R,R=headR (bitsL xs) pos:=⟨_,rfl⟩
 rw[←hR]
 unfold headR at hR
 have HU:=Lib.hid hR
 have HB:=Lib.hid hb
 have HS:=Lib.hid hsrc
 have HI:=Lib.hid hi
 have HO1:Hid (OldK base w.heap.size srcT w w):=Lib.hid (OldK.refl _ _ _ _)
 have HI1:=HI
 have HB1:=HB
 have HS1:=HS
 have hp1:=hp
 have HG:=Lib.hid (get_k base g q A n c pos 5 xs w hq (by rw[hb.cell];rfl) hsrc hp hi (by omega))
 have hqlt:q < w.heap.size:=Blk.lt hsrc
 clear hb hsrc hi hR
 go_enter Tryz.func164,Tryz.ntmps164
 go_wp2_with fail
 refine (HG.out).mono ?_
 rintro e w2 ⟨hr2,hk2⟩
 have HO2:=Lib.hid (HO1.out.keeps (hk2.mono hq (fun _ h=>h)))
 cases hg2:getR (bitsL xs) pos 5 with
 | bad z=>
  have he:=rpost_bad hr2 hg2
  subst he
  have HU:=Lib.hid (show R=.bad z by rw[HU.out,hg2];rfl)
  clear hr2 hk2 hg2
  unfold stopE
  go_wp2_with fail
  exact⟨rfl,bad_rpost HU.out,HO2.out⟩
 | ok a=>
  obtain⟨he,hs2,hp2⟩:=rpost_ok hr2 hg2
  subst he
  have hx2:=getR_lt hg2
  replace HU:=Lib.hid (HU.out.trans (by rw[hg2,then_ok]))
  have HB2:=Lib.hid (hk2.blk HB1.out (by decide))
  have HI2:=Lib.hid (HI1.out.keeps (hk2.mono hq (fun _ h=>h)))
  have HS2:=Lib.hid hs2
  obtain⟨x,p2⟩:=a
  dsimp only at hx2 HU HS2 hp2⊢
  have hxb:x < 32:=hx2
  have HKx:=Lib.hid hk2
  clear hr2 hk2 hg2 hs2 HG hx2
  obtain⟨m,hm⟩:∃ m,m=x+257:=⟨_,rfl⟩
  have hwm:IntKind.i64.wrap ((x:Int)+257)=(m:Int):=by rw[show (x:Int)+257=(m:Int) by omega];exact IntWalk.i64_in _ (by omega)
  rw[←hm]at HU
  have hm1:257≤m:=by omega
  have hm2:m < 289:=by omega
  have HG:=Lib.hid (get_k base g q A n c p2 5 xs w2 hq (by rw[HB2.out.cell];rfl) HS2.out hp2 HI2.out (by omega))
  clear hm hxb
  go_wp2_with fail
  refine (HG.out).mono ?_
  rintro e w3 ⟨hr3,hk3⟩
  have HO3:=Lib.hid (HO2.out.keeps (hk3.mono hq (fun _ h=>h)))
  cases hg3:getR (bitsL xs) p2 5 with
  | bad z=>
   have he:=rpost_bad hr3 hg3
   subst he
   have HU:=Lib.hid (show R=.bad z by rw[HU.out,hg3];rfl)
   clear hr3 hk3 hg3
   unfold stopE
   go_wp2_with fail
   exact⟨rfl,bad_rpost HU.out,HO3.out⟩
  | ok a=>
   obtain⟨he,hs3,hp3⟩:=rpost_ok hr3 hg3
   subst he
   have hx3:=getR_lt hg3
   replace HU:=Lib.hid (HU.out.trans (by rw[hg3,then_ok]))
   have HB3:=Lib.hid (hk3.blk HB2.out (by decide))
   have HI3:=Lib.hid (HI2.out.keeps (hk3.mono hq (fun _ h=>h)))
   have HS3:=Lib.hid hs3
   obtain⟨x,p3⟩:=a
   dsimp only at hx3 HU HS3 hp3⊢
   have hxb:x < 32:=hx3
   have HKx:=Lib.hid hk3
   clear hr3 hk3 hg3 hs3 HG hx3
   obtain⟨d,hd⟩:∃ d,d=x+1:=⟨_,rfl⟩
   have hwd:IntKind.i64.wrap ((x:Int)+1)=(d:Int):=by rw[show (x:Int)+1=(d:Int) by omega];exact IntWalk.i64_in _ (by omega)
   rw[←hd]at HU
   have hd1:1≤d:=by omega
   have hd2:d < 33:=by omega
   have HG:=Lib.hid (get_k base g q A n c p3 4 xs w3 hq (by rw[HB3.out.cell];rfl) HS3.out hp3 HI3.out (by omega))
   clear hd hxb
   go_wp2_with fail
   refine (HG.out).mono ?_
   rintro e w4 ⟨hr4,hk4⟩
   have HO4:=Lib.hid (HO3.out.keeps (hk4.mono hq (fun _ h=>h)))
   cases hg4:getR (bitsL xs) p3 4 with
   | bad z=>
    have he:=rpost_bad hr4 hg4
    subst he
    have HU:=Lib.hid (show R=.bad z by rw[HU.out,hg4];rfl)
    clear hr4 hk4 hg4
    unfold stopE
    go_wp2_with fail
    exact⟨rfl,bad_rpost HU.out,HO4.out⟩
   | ok a=>
    obtain⟨he,hs4,hp4⟩:=rpost_ok hr4 hg4
    subst he
    have hx4:=getR_lt hg4
    replace HU:=Lib.hid (HU.out.trans (by rw[hg4,then_ok]))
    have HB4:=Lib.hid (hk4.blk HB3.out (by decide))
    have HI4:=Lib.hid (HI3.out.keeps (hk4.mono hq (fun _ h=>h)))
    have HS4:=Lib.hid hs4
    obtain⟨x,p4⟩:=a
    dsimp only at hx4 HU HS4 hp4⊢
    have hxb:x < 16:=hx4
    have HKx:=Lib.hid hk4
    clear hr4 hk4 hg4 hs4 HG hx4
    obtain⟨C,hC⟩:∃ C,C=x+4:=⟨_,rfl⟩
    have hwC:IntKind.i64.wrap ((x:Int)+4)=(C:Int):=by rw[show (x:Int)+4=(C:Int) by omega];exact IntWalk.i64_in _ (by omega)
    rw[←hC]at HU
    have hC1:4≤C:=by omega
    have hC2:C≤19:=by omega
    clear hC hxb
    by_cases hbad:286 < m∨30 < d
    ·have HU:=Lib.hid (show R=.bad 8 by rw[HU.out,if_pos hbad])
     have hcnd:(decide ((m:Int) > 286) || decide ((d:Int) > 30))=true:=by
      rcases hbad with h | h
      ·have:(m:Int) > 286:=by omega
       simp[this]
      ·have:(d:Int) > 30:=by omega
       simp[this]
     rcases (by omega:286 < m∨(m≤286∧30 < d)) with h1 | ⟨h1,h2⟩
     ·have h1':(286:Int) < (m:Int):=by omega
      clear hcnd hbad
      go_wp2_with fail
      refine (fail_any 8 _).mono ?_
      rintro e w5 ⟨rfl,rfl⟩
      unfold stopE
      go_wp2_with fail
      exact⟨rfl,bad_rpost HU.out,HO4.out⟩
     ·have h1':(m:Int)≤286:=by omega
      have h2':(30:Int) < (d:Int):=by omega
      clear hcnd hbad
      go_wp2_with fail
      refine (fail_any 8 _).mono ?_
      rintro e w5 ⟨rfl,rfl⟩
      unfold stopE
      go_wp2_with fail
      exact⟨rfl,bad_rpost HU.out,HO4.out⟩
    ·replace HU:=Lib.hid (HU.out.trans (if_neg hbad))
     have hm3:m≤286:=by omega
     have hd3:d≤30:=by omega
     have hm':(m:Int)≤286:=by omega
     have hd':(d:Int)≤30:=by omega
     clear hbad hm2 hd2
     have hmk:∀ u:World,(Instr.makeSlice 89 (.int .i64 19) (.int .i64 19)).run Tryz.prog u=.ok (.slice (some ⟨u.heap.size,0,none⟩) 19 19) (u.alloc (.cells (nats (List.replicate 19 0)) 3)):=fun u=>by rw[←nats_zero];exact make_ints 19 (by omega) u
     have HOr:=Lib.hid (order_any (w4.alloc (.cells (nats (List.replicate 19 0)) 3)))
     go_wp2_with fail
     refine (HOr.out).mono ?_
     rintro e w5 ⟨rfl,hb5⟩
     have hst:=store_ord w5
     have hB4:=HO4.out.size
     have HO5:Hid (OldK base w.heap.size srcT w w5):=Lib.hid ((HO4.out.below ((Below.refl _ _).alloc hB4 _) hbw).below (hb5.mono (by simp;omega)) hbw)
     have HS5:Hid (SrcAt w5 q A n c p4):=Lib.hid (Blk.below ((HS4.out.below ((Below.refl _ _).alloc (Nat.le_refl _) _) (Blk.lt HS4.out))) hb5 (by have:=Blk.lt HS4.out;simp;omega))
     obtain⟨F,hU,hF⟩:∃ F,(R=(sizesR (bitsL xs) (orderL.take C) p4 (List.replicate 19 0)).then_ F)∧F=_:=⟨_,HU.out,rfl⟩
     have HU:=Lib.hid hU
     have HF:=Lib.hid hF
     clear hU
     have Hsz:Hid (Blk w5 w4.heap.size 3 (nats (List.replicate 19 0))):=Lib.hid ((Blk.new w4 3 (nats (List.replicate 19 0))).below hb5 (by simp))
     have hC':(C:Int)≤19:=by omega
     have hC0:(0:Int)≤(C:Int):=by omega
     have hlt5:w4.heap.size < w5.heap.size:=by have:=Blk.lt Hsz.out;omega
     have hgs:w.heap.size≤w4.heap.size:=hB4
     clear hF hb5 HOr hmk
     go_wp2_with fail
     have hb6:Below w5.heap.size w5 ((w5.alloc (.cells #[.int .i64 0,.int .i64 0,.int .i64 0,.int .i64 0,.int .i64 0,.int .i64 0,.int .i64 0,.int .i64 0,.int .i64 0,.int .i64 0,.int .i64 0,.int .i64 0,.int .i64 0,.int .i64 0,.int .i64 0,.int .i64 0,.int .i64 0,.int .i64 0,.int .i64 0] 251)).setRow w5.heap.size ordA):=below_setRow ((Below.refl _ _).alloc (Nat.le_refl _) _) (Nat.le_refl _) _
     have HO6:=Lib.hid (HO5.out.below (hb6.mono HO5.out.size) hbw)
     have HS6:=Lib.hid (Blk.below HS5.out hb6 (Blk.lt HS5.out))
     have Hsz6:=Lib.hid (Hsz.out.below hb6 hlt5)
     have Hor6:Hid (Blk ((w5.alloc (.cells #[.int .i64 0,.int .i64 0,.int .i64 0,.int .i64 0,.int .i64 0,.int .i64 0,.int .i64 0,.int .i64 0,.int .i64 0,.int .i64 0,.int .i64 0,.int .i64 0,.int .i64 0,.int .i64 0,.int .i64 0,.int .i64 0,.int .i64 0,.int .i64 0,.int .i64 0] 251)).setRow w5.heap.size ordA) w5.heap.size 251 ordA):=Lib.hid ((Blk.new _ _ _).setRow ordA)
     have hgo:w.heap.size≤w5.heap.size:=HO5.out.size
     generalize ((w5.alloc (.cells #[.int .i64 0,.int .i64 0,.int .i64 0,.int .i64 0,.int .i64 0,.int .i64 0,.int .i64 0,.int .i64 0,.int .i64 0,.int .i64 0,.int .i64 0,.int .i64 0,.int .i64 0,.int .i64 0,.int .i64 0,.int .i64 0,.int .i64 0,.int .i64 0,.int .i64 0] 251)).setRow w5.heap.size ordA)=w6 at *
     generalize w4.heap.size=gs at *
     generalize w5.heap.size=go at *
     clear hst HS5 Hsz HO5 hb6
     go_loopw [33] (fun vi wr=>∃ (j p:Nat) (s:List Nat),j≤C∧vi=.int .i64 (j:Int)∧s.length=19∧R=(sizesR (bitsL xs) ((orderL.take C).drop j) p s).then_ F∧p≤8*n∧SrcAt wr q A n c p∧Blk wr gs 3 (nats s)∧Blk wr go 251 ordA∧OldK base w.heap.size srcT w wr) (fun vi _=>C - (intOf vi).toNat)
     case atStart=>exact⟨0,p4,List.replicate 19 0,Nat.zero_le _,rfl,rfl,HU.out,hp4,HS6.out,Hsz6.out,Hor6.out,HO6.out⟩
     case round=>
      obtain⟨j,p,s,hj,rfl,hsl,hR,hple,hsr,hsz,hor,hold⟩:=hrel
      have Hsl:=Lib.hid hsl
      clear HU HO6 HS6 Hsz6 Hor6 hsl
      have HI6:=Lib.hid (HI.out.old hold)
      have HB6:=Lib.hid (hold.blk HB.out (by decide))
      have HO6:=Lib.hid hold
      have HS6:=Lib.hid hsr
      have Hsz:=Lib.hid hsz
      have Hor:=Lib.hid hor
      by_cases hlt:j < C
      ·obtain⟨k,hk⟩:∃ k,k=orderL.getD j 0:=⟨_,rfl⟩
       have hk19:k < 19:=by rw[hk];exact orderL_lt j (by omega)
       have hcell:wr.cell? ⟨go,j,none⟩=some (.int .i64 (k:Int)):=by
        have hj19:j < orderL.length:=by show j < 19;omega
        rw[hor.cell,ordA_eq,List.getElem?_toArray,List.getElem?_map,List.getElem?_eq_getElem hj19,hk,List.getD_eq_getElem?_getD,List.getElem?_eq_getElem hj19]
        rfl
       have hdr:(orderL.take C).drop j=k :: (orderL.take C).drop (j+1):=by
        have hj19:j < (orderL.take C).length:=by rw[List.length_take];show j < min C 19;omega
        rw[List.drop_eq_getElem_cons hj19,hk,List.getElem_take,List.getD_eq_getElem?_getD,List.getElem?_eq_getElem (by show j < 19;omega)]
        rfl
       have HU:=Lib.hid (show R=((getR (bitsL xs) p 3).then_ fun x=>sizesR (bitsL xs) ((orderL.take C).drop (j+1)) x.2 (s.set k x.1)).then_ F by rw[hR,hdr];rfl)
       have HG:=Lib.hid (get_k base g q A n c p 3 xs wr hq (by rw[HB6.out.cell];rfl) hsr hple HI6.out (by omega))
       have hjC:(j:Int) < (C:Int):=by omega
       have hj0:(0:Int)≤(j:Int):=by omega
       have hk0:(0:Int)≤(k:Int):=by omega
       have hk19':(k:Int) < 19:=by omega
       clear hk hdr hR hold hsr hsz hor
       go_wp2_with fail
       refine (HG.out).mono ?_
       rintro e w7 ⟨hr7,hk7⟩
       have HO7:=Lib.hid (HO6.out.keeps (hk7.mono hq (fun _ h=>h)))
       cases hg7:getR (bitsL xs) p 3 with
       | bad z=>
        have he:=rpost_bad hr7 hg7
        subst he
        have HU:=Lib.hid (show R=.bad z by rw[HU.out,hg7];rfl)
        clear hr7 hk7 hg7
        unfold stopE
        go_wp2_with fail
        exact⟨rfl,bad_rpost HU.out,HO7.out⟩
       | ok a=>
        obtain⟨he,hs7,hp7⟩:=rpost_ok hr7 hg7
        subst he
        have hx7:=getR_lt hg7
        replace HU:=Lib.hid (HU.out.trans (by rw[hg7,then_ok]))
        have HB7:=Lib.hid (hk7.blk HB6.out (by decide))
        have HI7:=Lib.hid (HI6.out.keeps (hk7.mono hq (fun _ h=>h)))
        have HS7:=Lib.hid hs7
        obtain⟨x,p7⟩:=a
        dsimp only at hx7 HU HS7 hp7⊢
        have hxb:x < 8:=hx7
        have HKx:=Lib.hid hk7
        clear hr7 hk7 hg7 hs7 HG hx7
        have Hsz7:=Lib.hid (HKx.out.blk Hsz.out (by decide))
        have Hor7:=Lib.hid (HKx.out.blk Hor.out (by decide))
        have hc7:w7.cell? ⟨gs,k,none⟩=some (.int .i64 ((s.getD k 0:Nat):Int)):=by
         rw[Hsz7.out.cell,nats_get _ _ (by rw[Hsl.out];exact hk19),List.getD_eq_getElem?_getD,List.getElem?_eq_getElem (by rw[Hsl.out];exact hk19)]
         rfl
        have hf7:=Hsz7.out.frozen k
        have HU:=Lib.hid (show R=(sizesR (bitsL xs) ((orderL.take C).drop (j+1)) p7 (s.set k x)).then_ F from HU.out)
        generalize s.getD k 0=ov at hc7
        clear HKx Hsz Hor
        go_wp2_with fail
        go_roundw
        case rel=>exact⟨j+1,p7,s.set k x,by omega,by go_num,by rw[List.length_set];exact Hsl.out,HU.out,hp7,Blk.far HS7.out (p:=⟨gs,k,none⟩) (by show q≠gs;omega) _,by rw[←nats_set];exact Hsz7.out.set_ k _,Hor7.out.far (p:=⟨gs,k,none⟩) (by show go≠gs;omega) _,HO7.out.below ((Below.refl _ _).setCell (p:=⟨gs,k,none⟩) hgs _) hbw⟩
        case measure=>simp[intOf];omega
      ·obtain rfl:j=C:=by omega
       have HU:=Lib.hid (show R=F (p,s) by rw[hR,List.drop_of_length_le (by rw[List.length_take];omega)];rfl)
       rw[HF.out]at HU
       dsimp only at HU
       have HT:=Lib.hid (table_r (some ⟨gs,0,none⟩) 19 19 (zsOf s) wr (by unfold zsOf;rw[List.length_map];exact Hsl.out) (by decide) (show SlAt _ _ _ by rw[zs_iv];exact SlAt.of_heap hsz (by simp[nats])))
       have hB6:=hold.size
       obtain⟨N,hN⟩:∃ N,N=m+d:=⟨_,rfl⟩
       have hwN:IntKind.i64.wrap ((m:Int)+(d:Int))=(N:Int):=by rw[show (m:Int)+(d:Int)=(N:Int) by omega];exact IntWalk.i64_in _ (by omega)
       have hN1:m < N:=by omega
       have hN2:N≤316:=by omega
       have hNd:N - m=d:=by omega
       rw[←hN]at HU
       have hj19:¬ (j:Int) < (j:Int):=by omega
       clear hN hR hold hsr hsz hor HF Hsz Hor
       go_wp2_with fail
       refine (HT.out).mono ?_
       rintro e w8 ⟨hr8,hb8⟩
       have HO8:=Lib.hid (HO6.out.below (hb8.mono hB6) hbw)
       cases ht8:tableR (zsOf s) with
       | bad z=>
        have he:=rpost_bad hr8 ht8
        subst he
        have HU:=Lib.hid (show R=.bad z by rw[HU.out,ht8];rfl)
        clear hr8 hb8 ht8
        unfold stopE
        go_wp2_with fail
        exact⟨rfl,bad_rpost HU.out,HO8.out⟩
       | ok ls=>
        obtain⟨hc8,tp,he,ht⟩:=rpost_ok hr8 ht8
        subst he
        have els:lsOf (zsOf s)=ls:=by
         unfold tableR at ht8
         rw[if_pos hc8]at ht8
         injection ht8
        rw[←els]at ht
        have HTb:=Lib.hid (show TbAt w8 base tp ls by rw[←els];exact tabAt_tb ht (Nat.le_trans hbw hB6) hc8)
        replace HU:=Lib.hid (HU.out.trans (by rw[ht8,then_ok]))
        have HS8:=Lib.hid (Blk.below HS6.out hb8 (Blk.lt HS6.out))
        have HB8:=Lib.hid (HB6.out.below hb8 (Blk.lt HB6.out))
        have HI8:=Lib.hid (HI.out.old HO8.out)
        have hbw8:base≤w8.heap.size:=Nat.le_trans hbw HO8.out.size
        have HL:=Lib.hid (lengths_r base base g q tp A n c p N xs ls vo vk w8 hq hbw8 HB8.out HS8.out hple HI8.out HTb.out hN2)
        clear hr8 hb8 ht8 els ht hc8 HT
        go_wp2_with fail
        refine (HL.out).mono ?_
        rintro e w9 ⟨hr9,hk9⟩
        have HO9:=Lib.hid (HO8.out.trans (hk9.mono HO8.out.size))
        cases hl9:lenR (bitsL xs) ls N N p [] with
        | bad z=>
         have he:=rpost_bad hr9 hl9
         subst he
         have HU:=Lib.hid (show R=.bad z by rw[HU.out,hl9];rfl)
         clear hr9 hk9 hl9
         unfold stopE
         go_wp2_with fail
         exact⟨rfl,bad_rpost HU.out,HO9.out⟩
        | ok a=>
         obtain⟨A9,c9,he,hll,hown,hs9,hp9⟩:=rpost_ok hr9 hl9
         subst he
         replace HU:=Lib.hid (HU.out.trans (by rw[hl9,then_ok]))
         obtain⟨p9,l⟩:=a
         dsimp only at hll hown hs9 hp9 HU⊢
         obtain⟨g9,c9',e9,hg9,hc9,hc9m,hsl9⟩:=own_here hown (by omega)
         injection e9 with e1 e2 e3
         subst e1 e3
         have HOwn:=Lib.hid hown
         have HS9:=Lib.hid hs9
         obtain⟨v,hv⟩:∃ v,v=l.getD 256 0:=⟨_,rfl⟩
         have hl256:l[256]?=some v:=by rw[hv,List.getD_eq_getElem?_getD,List.getElem?_eq_getElem (by omega)];rfl
         have hc256:w9.cell? ⟨g9,256,none⟩=some (.int .i64 (v:Int)):=by
          exact slat_nth hsl9 (by rw[List.getElem?_map,hl256];rfl)
         rw[←hv]at HU
         have hN256:(256:Int) < (N:Int):=by omega
         have Hl:=Lib.hid hll
         clear hr9 hk9 hl9 hown hs9 hv hl256 hll hsl9 HL
         by_cases hv0:v=0
         ·subst hv0
          have HU:=Lib.hid (show R=.bad 8 by rw[HU.out,if_pos rfl])
          go_wp2_with fail
          refine (fail_any 8 _).mono ?_
          rintro e w10 ⟨rfl,rfl⟩
          unfold stopE
          go_wp2_with fail
          exact⟨rfl,bad_rpost HU.out,HO9.out⟩
         ·replace HU:=Lib.hid (HU.out.trans (if_neg hv0))
          have hvb:((v:Int) == 0)=false:=by rw[beq_eq_false_iff_ne];omega
          clear hv0
          go_wp2_with fail
          have hmN:(m:Int)≤(N:Int):=by omega
          have hm0:(0:Int)≤(m:Int):=by omega
          have hNc:(N:Int)≤(c9:Int):=by omega
          have hmc:(m:Int)≤(c9:Int):=by omega
          have hmc':¬ (c9=m):=by omega
          have hmcn:(m:Int)≠(c9:Int):=by omega
          refine wp_region_S (fun _=>True) 9 (by kernel_rfl) ?_
          have hHeld:True:=True.intro
          obtain⟨w10,hw10⟩:∃ w10,w10=w9.drew:=⟨_,rfl⟩
          have hb10:Below w9.heap.size w9 w10:=by rw[hw10];exact (Below.refl _ _).drew
          have HOwn:=Lib.hid (own_keep HOwn.out hb10)
          have HS10:=Lib.hid (Blk.below HS9.out hb10 (Blk.lt HS9.out))
          have HO10:=Lib.hid (HO9.out.below (hb10.mono HO9.out.size) hbw)
          rw[←hw10]
          clear hw10 hb10 hc256 HS9 HO9
          refine wpAnyS_takeT (i:=0) (v:=?va0) (by kernel_rfl) (by kernel_rfl) rfl (by kernel_rfl) (by kernel_rfl) (by kernel_rfl) (fun _ _ _ h=>h) (by rfl) (by assumption) ?hya0 ?resta0
          case hya0=>(intro W hSW;(try dsimp only at hSW);go_simp;try with_reducible rfl)
          (try simp only[Act.put,List.getElem_toArray,List.getElem_cons_zero,List.getElem_cons_succ,List.setIfInBounds_toArray,List.set_cons_zero,List.set_cons_succ])
          refine wpAnyS_takeT (i:=1) (v:=?va1) (by kernel_rfl) (by kernel_rfl) rfl (by kernel_rfl) (by kernel_rfl) (by kernel_rfl) (fun _ _ _ h=>h) (by rfl) (by assumption) ?hya1 ?resta1
          case hya1=>(intro W hSW;(try dsimp only at hSW);go_simp;try with_reducible rfl)
          (try simp only[Act.put,List.getElem_toArray,List.getElem_cons_zero,List.getElem_cons_succ,List.setIfInBounds_toArray,List.set_cons_zero,List.set_cons_succ])
          refine wpAnyS_takeT (i:=2) (v:=?va2) (by kernel_rfl) (by kernel_rfl) rfl (by kernel_rfl) (by kernel_rfl) (by kernel_rfl) (fun _ _ _ h=>h) (by rfl) (by assumption) ?hya2 ?resta2
          case hya2=>(intro W hSW;(try dsimp only at hSW);go_simp;try with_reducible rfl)
          (try simp only[Act.put,List.getElem_toArray,List.getElem_cons_zero,List.getElem_cons_succ,List.setIfInBounds_toArray,List.set_cons_zero,List.set_cons_succ])
          refine wpAnyS_takeT (i:=4) (v:=?va4) (by kernel_rfl) (by kernel_rfl) rfl (by kernel_rfl) (by kernel_rfl) (by kernel_rfl) (fun _ _ _ h=>h) (by rfl) (by assumption) ?hya4 ?resta4
          case hya4=>(intro W hSW;(try dsimp only at hSW);go_simp;try with_reducible rfl)
          (try simp only[Act.put,List.getElem_toArray,List.getElem_cons_zero,List.getElem_cons_succ,List.setIfInBounds_toArray,List.set_cons_zero,List.set_cons_succ])
          refine wpAnyS_takeT (i:=5) (v:=?va5) (by kernel_rfl) (by kernel_rfl) rfl (by kernel_rfl) (by kernel_rfl) (by kernel_rfl) (fun _ _ _ h=>h) (by rfl) (by assumption) ?hya5 ?resta5
          case hya5=>(intro W hSW;(try dsimp only at hSW);go_simp;try with_reducible rfl)
          (try simp only[Act.put,List.getElem_toArray,List.getElem_cons_zero,List.getElem_cons_succ,List.setIfInBounds_toArray,List.set_cons_zero,List.set_cons_succ])
          refine wpAnyS_takeT (i:=6) (v:=?va6) (by kernel_rfl) (by kernel_rfl) rfl (by kernel_rfl) (by kernel_rfl) (by kernel_rfl) (fun _ _ _ h=>h) (by rfl) (by assumption) ?hya6 ?resta6
          case hya6=>(intro W hSW;(try dsimp only at hSW);go_simp;try with_reducible rfl)
          (try simp only[Act.put,List.getElem_toArray,List.getElem_cons_zero,List.getElem_cons_succ,List.setIfInBounds_toArray,List.set_cons_zero,List.set_cons_succ])
          obtain⟨gb,gcap,eg,_,_,_,hsl⟩:=own_here HOwn.out (by omega)
          injection eg with e1 e2 e3
          injection e1 with e1
          injection e1 with e1
          subst e1 e3
          have htake:(l.take m).length=m:=by rw[List.length_take,Hl.out];omega
          have hdrop:(l.drop m).length=d:=by rw[List.length_drop,Hl.out];exact hNd
          have HT1:=Lib.hid (fun W (h:SlAt W (some ⟨g9,0,none⟩) ((l.map natV))) (cc:Nat)=>table_r (some ⟨g9,0,none⟩) m cc (zsOf (l.take m)) W (by unfold zsOf;rw[List.length_map];exact htake) (by unfold maxLen;omega) (show SlAt _ _ _ by rw[zs_iv,List.map_take];exact SlAt.take h m))
          have HT2:=Lib.hid (fun W (h:SlAt W (some ⟨g9,0,none⟩) ((l.map natV))) (cc:Nat)=>table_r (some ⟨g9,m,none⟩) d cc (zsOf (l.drop m)) W (by unfold zsOf;rw[List.length_map];exact hdrop) (by unfold maxLen;omega) (show SlAt _ _ _ by rw[zs_iv,List.map_drop];have:=SlAt.drop h m;rwa [Nat.zero_add]at this))
          have Hsl:=Lib.hid hsl
          have hB10:=HO10.out.size
          clear hsl htake hdrop HOwn
          refine wpAnyS_only (i:=3) rfl (by kernel_rfl) (fun K hK=>?_)
          go_simp
          clear hHeld
          go_at_call 205
          refine (HT1.out w10 Hsl.out _).mono ?_
          rintro e w11 ⟨hr11,hb11⟩
          have HO11:=Lib.hid (HO10.out.below (hb11.mono hB10) hbw)
          cases ht11:tableR (zsOf (l.take m)) with
          | bad z=>
           have he:=rpost_bad hr11 ht11
           subst he
           have HU:=Lib.hid (show R=.bad z by rw[HU.out,ht11];rfl)
           clear hr11 hb11 ht11
           unfold stopE
           go_wp2_with fail
           exact⟨rfl,bad_rpost HU.out,HO11.out⟩
          | ok l1=>
           obtain⟨hc11,p1,he,ht⟩:=rpost_ok hr11 ht11
           subst he
           have els:lsOf (zsOf (l.take m))=l1:=by
            unfold tableR at ht11
            rw[if_pos hc11]at ht11
            injection ht11
           rw[←els]at ht
           have HTb1:=Lib.hid (show TbAt w11 base p1 l1 by rw[←els];exact tabAt_tb ht (Nat.le_trans hbw hB10) hc11)
           replace HU:=Lib.hid (HU.out.trans (by rw[ht11,then_ok]))
           have HS11:=Lib.hid (Blk.below HS10.out hb11 (Blk.lt HS10.out))
           have Hsl:=Lib.hid (SlAt.below Hsl.out hb11)
           have hB11:=HO11.out.size
           clear hr11 hb11 ht11 els ht hc11 HT1 HS10
           refine hK.out _ _ True.intro (fun hHeld=>?_)
           clear hK K
           (try simp only[Act.put,List.getElem_toArray,List.getElem_cons_zero,List.getElem_cons_succ,List.setIfInBounds_toArray,List.set_cons_zero,List.set_cons_succ])
           refine wpAnyS_only (i:=7) rfl (by kernel_rfl) (fun K hK=>?_)
           go_simp
           go_at_call 205
           refine (HT2.out w11 Hsl.out _).mono ?_
           rintro e w12 ⟨hr12,hb12⟩
           have HO12:=Lib.hid (HO11.out.below (hb12.mono hB11) hbw)
           cases ht12:tableR (zsOf (l.drop m)) with
           | bad z=>
            have he:=rpost_bad hr12 ht12
            subst he
            have HU:=Lib.hid (show R=.bad z by rw[HU.out,ht12];rfl)
            clear hr12 hb12 ht12
            unfold stopE
            go_wp2_with fail
            exact⟨rfl,bad_rpost HU.out,HO12.out⟩
           | ok l2=>
            obtain⟨hc12,p2',he,ht⟩:=rpost_ok hr12 ht12
            subst he
            have els:lsOf (zsOf (l.drop m))=l2:=by
             unfold tableR at ht12
             rw[if_pos hc12]at ht12
             injection ht12
            rw[←els]at ht
            have HTb2:=Lib.hid (show TbAt w12 base p2' l2 by rw[←els];exact tabAt_tb ht (Nat.le_trans hbw hB11) hc12)
            have HTb1:=Lib.hid (HTb1.out.old (B0:=0) hb12)
            replace HU:=Lib.hid (HU.out.trans (by rw[ht12,then_ok]))
            have HS12:=Lib.hid (Blk.below HS11.out hb12 (Blk.lt HS11.out))
            clear hr12 hb12 ht12 els ht hc12 HT2 HS11 Hsl
            refine hK.out _ _ True.intro (fun hHeld=>?_)
            clear hK K
            (try simp only[Act.put,List.getElem_toArray,List.getElem_cons_zero,List.getElem_cons_succ,List.setIfInBounds_toArray,List.set_cons_zero,List.set_cons_succ])
            refine wpAnyS_only (i:=8) rfl (by kernel_rfl) (fun K hK=>?_)
            go_simp
            refine hK.out _ _ True.intro (fun hHeld=>?_)
            clear hK K
            (try simp only[Act.put,List.getElem_toArray,List.getElem_cons_zero,List.getElem_cons_succ,List.setIfInBounds_toArray,List.set_cons_zero,List.set_cons_succ])
            refine wpAnyS_last rfl (by kernel_rfl) (by kernel_rfl) (fun K hK=>?_)
            go_simp
            refine hK.out _ _ ?_
            clear hK K
            go_wp2_with fail
            go_ret2
            exact⟨ok_rpost HU.out ⟨p1,p2',rfl,HTb1.out,HTb2.out,HS12.out,hp9⟩,HO12.out⟩
end Go.Proofs.YtabdianhoabhhaaGreatDoor.Inf
namespace Go.Proofs.YtabdianhoabhhaaGreatDoor.Inf
open Go Go.RowKit Go.Proofs.YtabdianhoabhhaaGreatDoor Go.Proofs.YtabdianhoabhhaaGreatDoor.Bits Go.Proofs.YtabdianhoabhhaaGreatDoor.Code
set_option linter.unusedVariables false
set_option linter.unusedSimpArgs false
def infT2:List TypeId:=[177,213,5,3]
theorem kT2 {base:Nat} {w w':World} (hk:Keeps base infT w w'):Keeps base infT2 w w':=hk.mono (Nat.le_refl _) (fun t ht=>by simp only[infT,List.mem_cons,List.not_mem_nil,or_false]at ht;rcases ht with h | h | h <;> subst h <;> simp[infT2])
theorem kT3 {base:Nat} {w w':World} (hk:Keeps base srcT w w'):Keeps base infT w w':=kT hk (Nat.le_refl _)
theorem RdAt.filledO {w w':World} {base g q:Nat} {A:Option Addr} {n c pos pos':Nat} {out:List UInt8} {ks:List Nat} (h:RdAt w base g q A n c pos out ks) (hk:Keeps base srcT w w') (hs:SrcAt w' q A n c pos') (hp:pos'≤8*n):RdAt w' base g q A n c pos' out ks:=by
 obtain⟨hg,hq,_,hfew,⟨vo,vk,hb,ho,hk'⟩,_⟩:=h
 exact⟨hg,hq,hp,hfew,⟨vo,vk,hk.blk hb (by decide),hk.own ho (by decide),hk.own hk' (by decide)⟩,hs⟩
theorem RdAt.rdr {w:World} {base g q:Nat} {A:Option Addr} {n c pos:Nat} {out:List UInt8} {ks:List Nat} (h:RdAt w base g q A n c pos out ks):∃ vo vk,Blk w g 177 #[.pointer (some ⟨q,0,none⟩),vo,vk]:=by
 obtain⟨_,_,_,_,⟨vo,vk,hb,_,_⟩,_⟩:=h
 exact⟨vo,vk,hb⟩
theorem lsOf_zsOf (l:List Nat):lsOf (zsOf l)=l:=by
 unfold lsOf zsOf
 rw[List.map_map]
 exact (List.map_congr_left (fun x _=>by simp)).trans (List.map_id l)
theorem chk_fixA:chkL (zsOf fixedA)=0:=by decide +kernel
theorem chk_fixB:chkL (zsOf fixedB)=0:=by decide +kernel
set_option maxRecDepth 100000 in
set_option maxHeartbeats 1600000 in
theorem kind_any {w:World} {base g q:Nat} {A:Option Addr} {n c pos:Nat} {out:List UInt8} {ks:List Nat} (h:RdAt w base g q A n c pos out ks):∃ vo Ak kl ck,kl=ks.length∧Blk w g 177 #[.pointer (some ⟨q,0,none⟩),vo,.slice Ak kl ck]∧w.ownsRow base 5 1 vo out.length (out.map u8v)∧w.ownsRow base 3 1 (.slice Ak kl ck) kl (ks.map natV):=by
 obtain⟨_,_,_,_,⟨vo,vk,hb,ho,hk⟩,_⟩:=h
 obtain⟨Ak,ck,rfl,_⟩:=own_slat hk
 exact⟨vo,Ak,_,ck,rfl,hb,ho,hk⟩
theorem hkl_vo {w:World} {o:Obj} {g:Nat} {t:TypeId} {a vo vk vo' vk':Value} (h1:Blk w g t #[a,vo,vk]) (h2:Blk (w.alloc o) g t #[a,vo',vk']):vo=vo':=by
 have:=(h1.alloc o).symm.trans h2
 injection this with this
 injection this with this
 simp at this
 exact this.1
set_option maxRecDepth 100000 in
set_option maxHeartbeats 1600000 in
theorem block_r (base g q:Nat) (A:Option Addr) (n c pos:Nat) (xs:List UInt8) (out:List UInt8) (ks:List Nat) (w:World) (h:RdAt w base g q A n c pos out ks) (hi:InAt_ w base A n xs) (hn:n≤1000000) (hkl:ks.length≤1000000) :
  Calls Tryz.prog 122 #[.pointer (some ⟨g,0,none⟩)] w fun e w'=>
   RPost (blockR (bitsL xs) pos out) (fun a e w'=>e=.returned (.bool a.1)∧RdAt w' base g q A n c a.2.2.1 a.2.2.2 (ks++[a.2.1])) e w'∧Keeps base infT2 w w':=by
 obtain⟨R,hR⟩:∃ R,R=blockR (bitsL xs) pos out:=⟨_,rfl⟩
 rw[←hR]
 unfold blockR at hR
 have HU:=Lib.hid hR
 have HR1:=Lib.hid h
 have HI:=Lib.hid hi
 have hq:=h.qle
 have HG:=Lib.hid (get_r base g q A n c pos 1 xs out ks w h hi (by omega))
 clear h hi hR
 go_enter Tryz.func122,Tryz.ntmps122
 go_wp2_with fail
 refine (HG.out).mono ?_
 rintro e w2 ⟨hr2,hk2⟩
 have HK2:=Lib.hid (kT2 hk2)
 have HI2:=Lib.hid (HI.out.keeps hk2)
 cases hg2:getR (bitsL xs) pos 1 with
 | bad z=>
  have he:=rpost_bad hr2 hg2
  subst he
  have HU:=Lib.hid (show R=.bad z by rw[HU.out,hg2];rfl)
  clear hr2 hk2 hg2
  unfold stopE
  go_wp2_with fail
  exact⟨rfl,bad_rpost HU.out,HK2.out⟩
 | ok a=>
  obtain⟨he,hrd2⟩:=rpost_ok hr2 hg2
  subst he
  replace HU:=Lib.hid (HU.out.trans (by rw[hg2,then_ok]))
  have HR2:=Lib.hid hrd2
  obtain⟨x,p2⟩:=a
  dsimp only at HU HR2⊢
  obtain⟨lb,hlb⟩:∃ lb,lb=(x == 1):=⟨_,rfl⟩
  have hlb':((x:Int) == 1)=lb:=by
   rw[hlb,Bool.eq_iff_iff]
   simp only[beq_iff_eq]
   omega
  rw[←hlb]at HU
  have HG:=Lib.hid (get_r base g q A n c p2 2 xs out ks w2 HR2.out HI2.out (by omega))
  clear hr2 hk2 hg2 hrd2 hlb
  go_wp2_with fail
  refine (HG.out).mono ?_
  rintro e w3 ⟨hr3,hk3⟩
  have HK3:=Lib.hid (HK2.out.trans (kT2 hk3))
  have HI3:=Lib.hid (HI2.out.keeps hk3)
  cases hg3:getR (bitsL xs) p2 2 with
  | bad z=>
   have he:=rpost_bad hr3 hg3
   subst he
   have HU:=Lib.hid (show R=.bad z by rw[HU.out,hg3];rfl)
   clear hr3 hk3 hg3
   unfold stopE
   go_wp2_with fail
   exact⟨rfl,bad_rpost HU.out,HK3.out⟩
  | ok a=>
   obtain⟨he,hrd3⟩:=rpost_ok hr3 hg3
   subst he
   have hk4:=getR_lt hg3
   replace HU:=Lib.hid (HU.out.trans (by rw[hg3,then_ok]))
   have HR3:=Lib.hid hrd3
   obtain⟨k,p3⟩:=a
   dsimp only at HU HR3 hk4⊢
   clear hr3 hk3 hg3 hrd3 HG
   rcases (by omega:k=0∨k=1∨k=2∨k=3) with hk | hk | hk | hk
   ·subst hk
    replace HU:=Lib.hid (HU.out.trans (if_pos rfl))
    have HG:=Lib.hid (stored_r base g q A n c p3 xs out ks w3 HR3.out HI3.out)
    have hrb:=HR3
    go_wp2_with fail
    refine (HG.out).mono ?_
    rintro e w4 ⟨hr4,hk4⟩
    have HK4:=Lib.hid (HK3.out.trans (kT2 hk4))
    cases hg4:storedR (bitsL xs) p3 out with
    | bad z=>
     have he:=rpost_bad hr4 hg4
     subst he
     have HU:=Lib.hid (show R=.bad z by rw[HU.out,hg4];rfl)
     clear hr4 hk4 hg4
     unfold stopE
     go_wp2_with fail
     exact⟨rfl,bad_rpost HU.out,HK4.out⟩
    | ok a=>
     obtain⟨he,hrd4⟩:=rpost_ok hr4 hg4
     subst he
     replace HU:=Lib.hid (HU.out.trans (by rw[hg4,then_ok]))
     have HR4:=Lib.hid hrd4
     obtain⟨p4,o4⟩:=a
     dsimp only at HU HR4⊢
     clear hr4 hk4 hg4 hrd4 HG hrb
     obtain⟨vo,Ak,kl,ck,ekl,hb,ho,hkk⟩:=kind_any HR4.out
     have hbw:base≤w4.heap.size:=HR4.out.bw
     have c2:w4.cell? ⟨g,2,none⟩=some (.slice Ak kl ck):=by rw[hb.cell];rfl
     have f2:=hb.frozen 2
     have hlt:=hb.lt
     have hkl1:kl≤1000000:=by omega
     have hbA:Below w4.heap.size w4 (w4.alloc (.cells #[.int .i64 0] 3)):=(Below.refl _ _).alloc (Nat.le_refl _) _
     have HO2:=Lib.hid (own_keep hkk hbA)
     have HB2:=Lib.hid (hb.below hbA hb.lt)
     have hbw2:base≤(w4.alloc (.cells #[.int .i64 0] 3)).heap.size:=Nat.le_trans hbw hbA.size
     have HZ:Hid (SlAt (w4.alloc (.cells #[.int .i64 0] 3)) (some ⟨w4.heap.size,0,none⟩) [.int .i64 0]):=Lib.hid (SlAt.of_heap (heap_alloc_new _ _) rfl)
     have Hekl:=Lib.hid ekl
     have HKA:=Lib.hid (Keeps.of_below (T:=infT2) hbA hbw)
     clear hb ho hkk hbA ekl
     go_wp2_with (at_builtin;refine wpList_app _ rfl (.tmp 47) (.tmp 49) _ rfl base 3 _ 1 8 tyI _ kl (ks.map natV) rfl HO2.out (some ⟨w4.heap.size,0,none⟩) 1 1 [.int .i64 0] rfl rfl HZ.out (by simp[Value.oneCell']) (by simp) (by unfold maxLen;omega) (by omega) hbw2 ?_;intro v8 w8 hown8 hg8 _;obtain⟨A8,d8,rfl,_⟩:=own_slat hown8;have hkp:Keeps base [3] (w4.alloc (.cells #[.int .i64 0] 3)) w8:=(Keeps.refl _ _ _).grown HO2.out hg8 (by simp) hbw2;have HB8:=Lib.hid (hkp.blk HB2.out (by decide));have HK8:=Lib.hid hkp;have Ho8:=Lib.hid hown8;have c8:w8.cell? ⟨g,2,none⟩=some (.slice Ak kl ck):=(HB8.out.cell 2).trans rfl;have f8:=HB8.out.frozen 2;clear hown8 hg8 hkp)
     go_ret
     have hgg:base≤g:=by obtain⟨hg,_⟩:=HR4.out;exact hg
     have k8:Keeps base [3] w4 w8:=(Keeps.of_below ((Below.refl _ _).alloc (Nat.le_refl _) _) hbw).trans HK8.out
     have k9:Keeps base [177] w8 (w8.setCell ⟨g,2,none⟩ (.slice A8 (kl+1) d8)):=(Keeps.refl _ _ _).setBlk HB8.out (by simp) hgg 2 _
     have k89:Keeps base [3,177] w4 (w8.setCell ⟨g,2,none⟩ (.slice A8 (kl+1) d8)):=(k8.mono (Nat.le_refl _) (by simp)).trans (k9.mono (Nat.le_refl _) (by simp))
     refine⟨ok_rpost HU.out ⟨rfl,?_⟩,HK4.out.trans (k89.mono (Nat.le_refl _) (by simp[infT2]))⟩
     obtain⟨h1,h2,h3,h4,⟨vo',vk',h5,h6,h7⟩,h8⟩:=HR4.out
     have e5:vo'=vo:=by
      have:=hkl_vo h5 HB2.out
      exact this
     subst e5
     refine⟨h1,h2,h3,h4,⟨vo',.slice A8 (kl+1) d8,HB8.out.set_ 2 _,k89.own h6 (by decide),?_⟩,k89.blk h8 (by decide)⟩
     have h9:=k9.own Ho8.out (by decide)
     rw[List.length_append,←Hekl.out,List.map_append]
     exact h9
   ·subst hk
    replace HU:=Lib.hid (HU.out.trans ((if_neg (by omega)).trans (if_pos rfl)))
    have HF:=Lib.hid (fixed_any w3)
    have hbw3:base≤w3.heap.size:=HR3.out.bw
    go_wp2_with fail
    refine (HF.out).mono ?_
    rintro e w4 ⟨Aa,ca,Ab,cb,rfl,ha,hb,hb4⟩
    have HK4:=Lib.hid (HK3.out.trans (Keeps.of_below hb4 hbw3))
    have HI4:=Lib.hid (HI3.out.keeps (T:=infT) (Keeps.of_below hb4 hbw3))
    have HR4:=Lib.hid (HR3.out.below hb4)
    obtain⟨_,_,e1,_,_,sa,_⟩:=own_slat ha
    injection e1 with e1 _ e2
    subst e1 e2
    obtain⟨_,_,e1,_,_,sb,_⟩:=own_slat hb
    injection e1 with e1 _ e2
    subst e1 e2
    have SA:=Lib.hid sa
    have SB:=Lib.hid sb
    have HM:=Lib.hid (make_any Aa 288 ca (zsOf fixedA) w4 (by decide) (show SlAt _ _ _ by rw[zs_iv];exact sa) chk_fixA)
    have hbw4:base≤w4.heap.size:=HR4.out.bw
    clear ha hb hb4 sa sb HF
    go_wp2_with fail
    refine (HM.out).mono ?_
    rintro e w5 ⟨⟨pa,rfl,hta⟩,hb5⟩
    rw[lsOf_zsOf]at hta
    have HTa:Hid (TbAt w5 base pa fixedA):=Lib.hid (by
     rw[←lsOf_zsOf fixedA]at hta⊢
     exact tabAt_tb hta hbw4 chk_fixA)
    have HK5:=Lib.hid (HK4.out.trans (Keeps.of_below hb5 hbw4))
    have HI5:=Lib.hid (HI4.out.keeps (T:=infT) (Keeps.of_below hb5 hbw4))
    have HR5:=Lib.hid (HR4.out.below hb5)
    have SB:=Lib.hid (SlAt.below SB.out hb5)
    have HM:=Lib.hid (make_any Ab 32 cb (zsOf fixedB) w5 (by decide) (show SlAt _ _ _ by rw[zs_iv];exact SB.out) chk_fixB)
    have hbw5:base≤w5.heap.size:=HR5.out.bw
    clear hb5 hta
    go_wp2_with fail
    refine (HM.out).mono ?_
    rintro e w6 ⟨⟨pb,rfl,htb⟩,hb6⟩
    rw[lsOf_zsOf]at htb
    have HTb:Hid (TbAt w6 base pb fixedB):=Lib.hid (by
     rw[←lsOf_zsOf fixedB]at htb⊢
     exact tabAt_tb htb hbw5 chk_fixB)
    have HTa:=Lib.hid (HTa.out.old (B0:=0) hb6)
    have HK6:=Lib.hid (HK5.out.trans (Keeps.of_below hb6 hbw5))
    have HI6:=Lib.hid (HI5.out.keeps (T:=infT) (Keeps.of_below hb6 hbw5))
    have HR6:=Lib.hid (HR5.out.below hb6)
    clear hb6 htb HM SA SB
    have HG:=Lib.hid (body_r base g q pa pb A n c p3 xs out ks fixedA fixedB w6 HR6.out HI6.out HTa.out HTb.out hn)
    have hwlen:(bitsL xs).length=(bitsL xs).length:=rfl
    clear hwlen
    go_wp2_with fail
    refine (HG.out).mono ?_
    rintro e w7 ⟨hr7,hk7⟩
    have HK7:=Lib.hid (HK6.out.trans (kT2 hk7))
    cases hg7:bodyR (bitsL xs) fixedA fixedB ((bitsL xs).length+1) p3 out with
    | bad z=>
     have he:=rpost_bad hr7 hg7
     subst he
     have HU:=Lib.hid (show R=.bad z by rw[HU.out,hg7];rfl)
     clear hr7 hk7 hg7
     unfold stopE
     go_wp2_with fail
     exact⟨rfl,bad_rpost HU.out,HK7.out⟩
    | ok a=>
     obtain⟨he,hrd7⟩:=rpost_ok hr7 hg7
     subst he
     replace HU:=Lib.hid (HU.out.trans (by rw[hg7,then_ok]))
     have HR7:=Lib.hid hrd7
     obtain⟨p7,o7⟩:=a
     dsimp only at HU HR7⊢
     clear hr7 hk7 hg7 hrd7 HG
     obtain⟨vo,Ak,kl,ck,ekl,hb,ho,hkk⟩:=kind_any HR7.out
     have hbw:base≤w7.heap.size:=HR7.out.bw
     have c2:w7.cell? ⟨g,2,none⟩=some (.slice Ak kl ck):=by rw[hb.cell];rfl
     have f2:=hb.frozen 2
     have hlt:=hb.lt
     have hkl1:kl≤1000000:=by omega
     have hbA:Below w7.heap.size w7 (w7.alloc (.cells #[.int .i64 1] 3)):=(Below.refl _ _).alloc (Nat.le_refl _) _
     have HO2:=Lib.hid (own_keep hkk hbA)
     have HB2:=Lib.hid (hb.below hbA hb.lt)
     have hbw2:base≤(w7.alloc (.cells #[.int .i64 1] 3)).heap.size:=Nat.le_trans hbw hbA.size
     have HZ:Hid (SlAt (w7.alloc (.cells #[.int .i64 1] 3)) (some ⟨w7.heap.size,0,none⟩) [.int .i64 1]):=Lib.hid (SlAt.of_heap (heap_alloc_new _ _) rfl)
     have Hekl:=Lib.hid ekl
     have HKA:=Lib.hid (Keeps.of_below (T:=infT2) hbA hbw)
     clear hb ho hkk hbA ekl
     go_wp2_with (at_builtin;refine wpList_app _ rfl (.tmp 47) (.tmp 49) _ rfl base 3 _ 1 8 tyI _ kl (ks.map natV) rfl HO2.out (some ⟨w7.heap.size,0,none⟩) 1 1 [.int .i64 1] rfl rfl HZ.out (by simp[Value.oneCell']) (by simp) (by unfold maxLen;omega) (by omega) hbw2 ?_;intro v8 w8 hown8 hg8 _;obtain⟨A8,d8,rfl,_⟩:=own_slat hown8;have hkp:Keeps base [3] (w7.alloc (.cells #[.int .i64 1] 3)) w8:=(Keeps.refl _ _ _).grown HO2.out hg8 (by simp) hbw2;have HB8:=Lib.hid (hkp.blk HB2.out (by decide));have HK8:=Lib.hid hkp;have Ho8:=Lib.hid hown8;have c8:w8.cell? ⟨g,2,none⟩=some (.slice Ak kl ck):=(HB8.out.cell 2).trans rfl;have f8:=HB8.out.frozen 2;clear hown8 hg8 hkp)
     go_ret
     have hgg:base≤g:=by obtain⟨hg,_⟩:=HR7.out;exact hg
     have k8:Keeps base [3] w7 w8:=(Keeps.of_below ((Below.refl _ _).alloc (Nat.le_refl _) _) hbw).trans HK8.out
     have k9:Keeps base [177] w8 (w8.setCell ⟨g,2,none⟩ (.slice A8 (kl+1) d8)):=(Keeps.refl _ _ _).setBlk HB8.out (by simp) hgg 2 _
     have k89:Keeps base [3,177] w7 (w8.setCell ⟨g,2,none⟩ (.slice A8 (kl+1) d8)):=(k8.mono (Nat.le_refl _) (by simp)).trans (k9.mono (Nat.le_refl _) (by simp))
     refine⟨ok_rpost HU.out ⟨rfl,?_⟩,HK7.out.trans (k89.mono (Nat.le_refl _) (by simp[infT2]))⟩
     obtain⟨h1,h2,h3,h4,⟨vo',vk',h5,h6,h7⟩,h8⟩:=HR7.out
     have e5:vo'=vo:=by
      have:=hkl_vo h5 HB2.out
      exact this
     subst e5
     refine⟨h1,h2,h3,h4,⟨vo',.slice A8 (kl+1) d8,HB8.out.set_ 2 _,k89.own h6 (by decide),?_⟩,k89.blk h8 (by decide)⟩
     have h9:=k9.own Ho8.out (by decide)
     rw[List.length_append,←Hekl.out,List.map_append]
     exact h9
   ·subst hk
    replace HU:=Lib.hid (HU.out.trans ((if_neg (by omega)).trans ((if_neg (by omega)).trans (if_pos rfl))))
    obtain⟨vo0,vk0,hrdr⟩:=HR3.out.rdr
    have hbw3:base≤w3.heap.size:=HR3.out.bw
    have HC:=Lib.hid (codes_r base g q A n c p3 xs vo0 vk0 w3 hq hbw3 hrdr HR3.out.src HR3.out.ple HI3.out)
    clear hrdr
    go_wp2_with fail
    refine (HC.out).mono ?_
    rintro e w4 ⟨hr4,hk4⟩
    have hkk:=hk4.toKeeps
    have HK4:=Lib.hid (HK3.out.trans (kT2 (kT3 hkk)))
    cases hg4:headR (bitsL xs) p3 with
    | bad z=>
     have he:=rpost_bad hr4 hg4
     subst he
     have HU:=Lib.hid (show R=.bad z by rw[HU.out,hg4];rfl)
     clear hr4 hk4 hg4 hkk
     unfold stopE
     go_wp2_with fail
     exact⟨rfl,bad_rpost HU.out,HK4.out⟩
    | ok a=>
     obtain⟨pa,pb,he,hta,htb,hs4,hp4⟩:=rpost_ok hr4 hg4
     subst he
     replace HU:=Lib.hid (HU.out.trans (by rw[hg4,then_ok]))
     have HI4:=Lib.hid (HI3.out.keeps hkk)
     have HR4:=Lib.hid (HR3.out.filledO hkk hs4 hp4)
     have HTa:=Lib.hid hta
     have HTb:=Lib.hid htb
     obtain⟨p4,la,lb'⟩:=a
     dsimp only at HU HR4 HTa HTb⊢
     clear hr4 hk4 hg4 hkk hta htb hs4 hp4 HC
     have HG:=Lib.hid (body_r base g q pa pb A n c p4 xs out ks la lb' w4 HR4.out HI4.out HTa.out HTb.out hn)
     have hwlen:(bitsL xs).length=(bitsL xs).length:=rfl
     clear hwlen
     go_wp2_with fail
     refine (HG.out).mono ?_
     rintro e w7 ⟨hr7,hk7⟩
     have HK7:=Lib.hid (HK4.out.trans (kT2 hk7))
     cases hg7:bodyR (bitsL xs) la lb' ((bitsL xs).length+1) p4 out with
     | bad z=>
      have he:=rpost_bad hr7 hg7
      subst he
      have HU:=Lib.hid (show R=.bad z by rw[HU.out,hg7];rfl)
      clear hr7 hk7 hg7
      unfold stopE
      go_wp2_with fail
      exact⟨rfl,bad_rpost HU.out,HK7.out⟩
     | ok a=>
      obtain⟨he,hrd7⟩:=rpost_ok hr7 hg7
      subst he
      replace HU:=Lib.hid (HU.out.trans (by rw[hg7,then_ok]))
      have HR7:=Lib.hid hrd7
      obtain⟨p7,o7⟩:=a
      dsimp only at HU HR7⊢
      clear hr7 hk7 hg7 hrd7 HG
      obtain⟨vo,Ak,kl,ck,ekl,hb,ho,hkk⟩:=kind_any HR7.out
      have hbw:base≤w7.heap.size:=HR7.out.bw
      have c2:w7.cell? ⟨g,2,none⟩=some (.slice Ak kl ck):=by rw[hb.cell];rfl
      have f2:=hb.frozen 2
      have hlt:=hb.lt
      have hkl1:kl≤1000000:=by omega
      have hbA:Below w7.heap.size w7 (w7.alloc (.cells #[.int .i64 2] 3)):=(Below.refl _ _).alloc (Nat.le_refl _) _
      have HO2:=Lib.hid (own_keep hkk hbA)
      have HB2:=Lib.hid (hb.below hbA hb.lt)
      have hbw2:base≤(w7.alloc (.cells #[.int .i64 2] 3)).heap.size:=Nat.le_trans hbw hbA.size
      have HZ:Hid (SlAt (w7.alloc (.cells #[.int .i64 2] 3)) (some ⟨w7.heap.size,0,none⟩) [.int .i64 2]):=Lib.hid (SlAt.of_heap (heap_alloc_new _ _) rfl)
      have Hekl:=Lib.hid ekl
      have HKA:=Lib.hid (Keeps.of_below (T:=infT2) hbA hbw)
      clear hb ho hkk hbA ekl
      go_wp2_with (at_builtin;refine wpList_app _ rfl (.tmp 47) (.tmp 49) _ rfl base 3 _ 1 8 tyI _ kl (ks.map natV) rfl HO2.out (some ⟨w7.heap.size,0,none⟩) 1 1 [.int .i64 2] rfl rfl HZ.out (by simp[Value.oneCell']) (by simp) (by unfold maxLen;omega) (by omega) hbw2 ?_;intro v8 w8 hown8 hg8 _;obtain⟨A8,d8,rfl,_⟩:=own_slat hown8;have hkp:Keeps base [3] (w7.alloc (.cells #[.int .i64 2] 3)) w8:=(Keeps.refl _ _ _).grown HO2.out hg8 (by simp) hbw2;have HB8:=Lib.hid (hkp.blk HB2.out (by decide));have HK8:=Lib.hid hkp;have Ho8:=Lib.hid hown8;have c8:w8.cell? ⟨g,2,none⟩=some (.slice Ak kl ck):=(HB8.out.cell 2).trans rfl;have f8:=HB8.out.frozen 2;clear hown8 hg8 hkp)
      go_ret
      have hgg:base≤g:=by obtain⟨hg,_⟩:=HR7.out;exact hg
      have k8:Keeps base [3] w7 w8:=(Keeps.of_below ((Below.refl _ _).alloc (Nat.le_refl _) _) hbw).trans HK8.out
      have k9:Keeps base [177] w8 (w8.setCell ⟨g,2,none⟩ (.slice A8 (kl+1) d8)):=(Keeps.refl _ _ _).setBlk HB8.out (by simp) hgg 2 _
      have k89:Keeps base [3,177] w7 (w8.setCell ⟨g,2,none⟩ (.slice A8 (kl+1) d8)):=(k8.mono (Nat.le_refl _) (by simp)).trans (k9.mono (Nat.le_refl _) (by simp))
      refine⟨ok_rpost HU.out ⟨rfl,?_⟩,HK7.out.trans (k89.mono (Nat.le_refl _) (by simp[infT2]))⟩
      obtain⟨h1,h2,h3,h4,⟨vo',vk',h5,h6,h7⟩,h8⟩:=HR7.out
      have e5:vo'=vo:=by
       have:=hkl_vo h5 HB2.out
       exact this
      subst e5
      refine⟨h1,h2,h3,h4,⟨vo',.slice A8 (kl+1) d8,HB8.out.set_ 2 _,k89.own h6 (by decide),?_⟩,k89.blk h8 (by decide)⟩
      have h9:=k9.own Ho8.out (by decide)
      rw[List.length_append,←Hekl.out,List.map_append]
      exact h9
   ·replace HU:=Lib.hid (show R=.bad 4 from HU.out.trans (by rw[if_neg (by omega),if_neg (by omega),if_neg (by omega)]))
    subst hk
    go_wp2_with fail
    refine (fail_any 4 _).mono ?_
    rintro e w5 ⟨rfl,rfl⟩
    unfold stopE
    go_wp2_with fail
    exact⟨rfl,bad_rpost HU.out,HK3.out⟩
end Go.Proofs.YtabdianhoabhhaaGreatDoor.Inf
namespace Go.Proofs.YtabdianhoabhhaaGreatDoor.Inf
open Go Go.RowKit Go.Proofs.YtabdianhoabhhaaGreatDoor Go.Proofs.YtabdianhoabhhaaGreatDoor.Bits Go.Proofs.YtabdianhoabhhaaGreatDoor.Code
set_option linter.unusedVariables false
set_option linter.unusedSimpArgs false
structure OutAt (w:World) (B g2 g3 g4 g5:Nat) (v2 v3 v4 v5:Value):Prop where
 le2:B≤g2
 le3:B≤g3
 le4:B≤g4
 le5:B≤g5
 b2:Blk w g2 23 #[v2]
 b3:Blk w g3 3 #[v3]
 b4:Blk w g4 89 #[v4]
 b5:Blk w g5 24 #[v5]
theorem blk_ne {w:World} {g g':Nat} {t t':TypeId} {cs cs':Array Value} (h:Blk w g t cs) (h':Blk w g' t' cs') (hne:t≠t'):g≠g':=by
 rintro rfl
 have:=h.symm.trans h'
 injection this with this
 injection this with _ e _
 exact hne e
theorem OutAt.s2 {w:World} {B g2 g3 g4 g5:Nat} {v2 v3 v4 v5:Value} (h:OutAt w B g2 g3 g4 g5 v2 v3 v4 v5) (u:Value):OutAt (w.setCell ⟨g2,0,none⟩ u) B g2 g3 g4 g5 u v3 v4 v5:=
 ⟨h.le2,h.le3,h.le4,h.le5,h.b2.set_ 0 u,h.b3.far (p:=⟨g2,0,none⟩) (blk_ne h.b3 h.b2 (by decide)) u,h.b4.far (p:=⟨g2,0,none⟩) (blk_ne h.b4 h.b2 (by decide)) u,h.b5.far (p:=⟨g2,0,none⟩) (blk_ne h.b5 h.b2 (by decide)) u⟩
theorem OutAt.s3 {w:World} {B g2 g3 g4 g5:Nat} {v2 v3 v4 v5:Value} (h:OutAt w B g2 g3 g4 g5 v2 v3 v4 v5) (u:Value):OutAt (w.setCell ⟨g3,0,none⟩ u) B g2 g3 g4 g5 v2 u v4 v5:=
 ⟨h.le2,h.le3,h.le4,h.le5,h.b2.far (p:=⟨g3,0,none⟩) (blk_ne h.b2 h.b3 (by decide)) u,h.b3.set_ 0 u,h.b4.far (p:=⟨g3,0,none⟩) (blk_ne h.b4 h.b3 (by decide)) u,h.b5.far (p:=⟨g3,0,none⟩) (blk_ne h.b5 h.b3 (by decide)) u⟩
theorem OutAt.s4 {w:World} {B g2 g3 g4 g5:Nat} {v2 v3 v4 v5:Value} (h:OutAt w B g2 g3 g4 g5 v2 v3 v4 v5) (u:Value):OutAt (w.setCell ⟨g4,0,none⟩ u) B g2 g3 g4 g5 v2 v3 u v5:=
 ⟨h.le2,h.le3,h.le4,h.le5,h.b2.far (p:=⟨g4,0,none⟩) (blk_ne h.b2 h.b4 (by decide)) u,h.b3.far (p:=⟨g4,0,none⟩) (blk_ne h.b3 h.b4 (by decide)) u,h.b4.set_ 0 u,h.b5.far (p:=⟨g4,0,none⟩) (blk_ne h.b5 h.b4 (by decide)) u⟩
theorem OutAt.s5 {w:World} {B g2 g3 g4 g5:Nat} {v2 v3 v4 v5:Value} (h:OutAt w B g2 g3 g4 g5 v2 v3 v4 v5) (u:Value):OutAt (w.setCell ⟨g5,0,none⟩ u) B g2 g3 g4 g5 v2 v3 v4 u:=
 ⟨h.le2,h.le3,h.le4,h.le5,h.b2.far (p:=⟨g5,0,none⟩) (blk_ne h.b2 h.b5 (by decide)) u,h.b3.far (p:=⟨g5,0,none⟩) (blk_ne h.b3 h.b5 (by decide)) u,h.b4.far (p:=⟨g5,0,none⟩) (blk_ne h.b4 h.b5 (by decide)) u,h.b5.set_ 0 u⟩
theorem OutAt.below {w w':World} {B g2 g3 g4 g5:Nat} {v2 v3 v4 v5:Value} (h:OutAt w B g2 g3 g4 g5 v2 v3 v4 v5) (hb:Below w.heap.size w w'):OutAt w' B g2 g3 g4 g5 v2 v3 v4 v5:=
 ⟨h.le2,h.le3,h.le4,h.le5,h.b2.below hb h.b2.lt,h.b3.below hb h.b3.lt,h.b4.below hb h.b4.lt,h.b5.below hb h.b5.lt⟩
structure OutC (w:World) (g2 g3 g4 g5:Nat) (v2 v3 v4 v5:Value):Prop where
 c2:w.cell? ⟨g2,0,none⟩=some v2
 c3:w.cell? ⟨g3,0,none⟩=some v3
 c4:w.cell? ⟨g4,0,none⟩=some v4
 c5:w.cell? ⟨g5,0,none⟩=some v5
 f2:w.frozen? ⟨g2,0,none⟩=false
 f3:w.frozen? ⟨g3,0,none⟩=false
 f4:w.frozen? ⟨g4,0,none⟩=false
 f5:w.frozen? ⟨g5,0,none⟩=false
theorem OutAt.cells {w:World} {B g2 g3 g4 g5:Nat} {v2 v3 v4 v5:Value} (h:OutAt w B g2 g3 g4 g5 v2 v3 v4 v5):OutC w g2 g3 g4 g5 v2 v3 v4 v5:=
 ⟨h.b2.cell 0,h.b3.cell 0,h.b4.cell 0,h.b5.cell 0,h.b2.frozen 0,h.b3.frozen 0,h.b4.frozen 0,h.b5.frozen 0⟩
set_option maxRecDepth 100000 in
set_option maxHeartbeats 1600000 in
theorem catch_panicking (B g2 g3 g4 g5:Nat) (v2 v3 v4 v5:Value) (x:Int) (older:List PanicEntry) (w:World) (hBw:B≤w.heap.size) (h:OutAt w B g2 g3 g4 g5 v2 v3 v4 v5) :
  CallsD Tryz.prog 120 #[.pointer (some ⟨g2,0,none⟩),.pointer (some ⟨g3,0,none⟩),.pointer (some ⟨g4,0,none⟩),.pointer (some ⟨g5,0,none⟩)] (.panicking ({ v:=.iface 171 (.agg #[.int .i64 x]),recovered:=false } :: older)) w fun e u' w'=>
   e=.returned (.tuple #[])∧u'=.panicking ({ v:=.iface 171 (.agg #[.int .i64 x]),recovered:=true } :: older)∧
    OutAt w' B g2 g3 g4 g5 (.slice none 0 0) (.int .i64 0) (.slice none 0 0) (.int .i64 x)∧Below B w w':=by
 have H:=Lib.hid h
 clear h
 refine callsD_of_wpS Tryz.func120 rfl fun c₀ cs hu=>?_
 apply wpS_seq
 apply wpS_region
 simp[wpOpsS,go_sem,recoverD,hu,Tryz.ntmps120,Exit.thenS]
 refine wpS_of_wp (wp_mono (Q:=fun e a w'=>e=.normal∧a.defers=[]∧OutAt w' B g2 g3 g4 g5 (.slice none 0 0) (.int .i64 0) (.slice none 0 0) (.int .i64 x)∧Below B w w') ?_ ?_)
 rotate_left
 ·rintro e a w' ⟨rfl,hd,h1,h2⟩
  cases c₀
  simp only at hu
  subst hu
  exact⟨hd,_,rfl,_,results_none rfl _ _ _,rfl,rfl,h1,h2⟩
 clear hu
 have htm:#[.pointer (some ⟨g2,0,none⟩),.pointer (some ⟨g3,0,none⟩),.pointer (some ⟨g4,0,none⟩),.pointer (some ⟨g5,0,none⟩)]++((Array.replicate 16 undef).setIfInBounds 3 (.iface 171 (.agg #[.int .i64 x]))).setIfInBounds 0 (.iface 171 (.agg #[.int .i64 x]))=#[.pointer (some ⟨g2,0,none⟩),.pointer (some ⟨g3,0,none⟩),.pointer (some ⟨g4,0,none⟩),.pointer (some ⟨g5,0,none⟩),.iface 171 (.agg #[.int .i64 x]),undef,undef,.iface 171 (.agg #[.int .i64 x]),undef,undef,undef,undef,undef,undef,undef,undef,undef,undef,undef,undef]:=rfl
 rw[htm]
 clear htm
 have has:∀ (v:Value) (W:World),(Instr.typeAssert (.iface 171 v) 20 171 true).run Tryz.prog W=.ok (.tuple #[v,.bool true]) W:=fun _ _=>by kernel_rfl
 go_wp2_with fail
 obtain⟨gx,hgx⟩:∃ gx,gx=w.heap.size:=⟨_,rfl⟩
 have hb2:Below w.heap.size w (w.alloc (.cells #[.int .i64 x] 171)):=(Below.refl _ _).alloc (Nat.le_refl _) _
 have H2:=Lib.hid (H.out.below hb2)
 have Hb2:=Lib.hid (hb2.mono hBw)
 have HX:Hid (Blk (w.alloc (.cells #[.int .i64 x] 171)) gx 171 #[.int .i64 x]):=Lib.hid (by rw[hgx];exact Blk.new _ _ _)
 clear hb2
 rw[←hgx]
 clear hgx
 generalize w.alloc (.cells #[.int .i64 x] 171)=w2 at *
 refine wp_region_S (fun W=>W.cell? ⟨gx,0,none⟩=some (.int .i64 x)) 5 (by kernel_rfl) ?_
 have hHeld:w2.drew.cell? ⟨gx,0,none⟩=some (.int .i64 x):=HX.out.cell 0
 have H3:=Lib.hid (H2.out.below ((Below.refl _ _).drew))
 have Hb3:=Lib.hid (Hb2.out.trans ((Below.refl B w2).drew))
 have HX3:Hid (Blk w2.drew gx 171 #[.int .i64 x]):=Lib.hid HX.out
 clear H2 Hb2 HX
 generalize w2.drew=w3 at *
 refine wpAnyS_takeT (i:=0) (v:=?va0) (by kernel_rfl) (by kernel_rfl) rfl (by kernel_rfl) (by kernel_rfl) (by kernel_rfl) (fun _ _ _ h=>h) (by rfl) (by assumption) ?hya0 ?resta0
 case hya0=>(intro W hSW;(try dsimp only at hSW);go_simp;try with_reducible rfl)
 (try simp only[Act.put,List.getElem_toArray,List.getElem_cons_zero,List.getElem_cons_succ,List.setIfInBounds_toArray,List.set_cons_zero,List.set_cons_succ])
 refine wpAnyS_takeT (i:=1) (v:=?va1) (by kernel_rfl) (by kernel_rfl) rfl (by kernel_rfl) (by kernel_rfl) (by kernel_rfl) (fun _ _ _ h=>h) (by rfl) (by assumption) ?hya1 ?resta1
 case hya1=>(intro W hSW;(try dsimp only at hSW);go_simp;try with_reducible rfl)
 (try simp only[Act.put,List.getElem_toArray,List.getElem_cons_zero,List.getElem_cons_succ,List.setIfInBounds_toArray,List.set_cons_zero,List.set_cons_succ])
 obtain⟨c2,c3,c4,c5,f2,f3,f4,f5⟩:=H3.out.cells
 refine wpAnyS_only (i:=2) rfl (by kernel_rfl) (fun K hK=>?_)
 go_simp
 have H4:=Lib.hid (H3.out.s2 (.slice none 0 0))
 have Hb4:=Lib.hid (Hb3.out.setCell (p:=⟨g2,0,none⟩) H3.out.le2 (.slice none 0 0))
 have HX4:=Lib.hid (HX3.out.far (p:=⟨g2,0,none⟩) (blk_ne HX3.out H3.out.b2 (by decide)) (.slice none 0 0))
 clear hHeld c2 c3 c4 c5 f2 f3 f4 f5
 refine hK.out _ _ (HX4.out.cell 0) (fun hHeld=>?_)
 clear hK K H3 Hb3 HX3
 (try simp only[Act.put,List.getElem_toArray,List.getElem_cons_zero,List.getElem_cons_succ,List.setIfInBounds_toArray,List.set_cons_zero,List.set_cons_succ])
 generalize w3.setCell ⟨g2,0,none⟩ (.slice none 0 0)=w4 at *
 obtain⟨c2,c3,c4,c5,f2,f3,f4,f5⟩:=H4.out.cells
 refine wpAnyS_only (i:=3) rfl (by kernel_rfl) (fun K hK=>?_)
 go_simp
 have H5:=Lib.hid (H4.out.s3 (.int .i64 0))
 have Hb5:=Lib.hid (Hb4.out.setCell (p:=⟨g3,0,none⟩) H4.out.le3 (.int .i64 0))
 have HX5:=Lib.hid (HX4.out.far (p:=⟨g3,0,none⟩) (blk_ne HX4.out H4.out.b3 (by decide)) (.int .i64 0))
 clear hHeld c2 c3 c4 c5 f2 f3 f4 f5
 refine hK.out _ _ (HX5.out.cell 0) (fun hHeld=>?_)
 clear hK K H4 Hb4 HX4
 (try simp only[Act.put,List.getElem_toArray,List.getElem_cons_zero,List.getElem_cons_succ,List.setIfInBounds_toArray,List.set_cons_zero,List.set_cons_succ])
 generalize w4.setCell ⟨g3,0,none⟩ (.int .i64 0)=w5 at *
 obtain⟨c2,c3,c4,c5,f2,f3,f4,f5⟩:=H5.out.cells
 refine wpAnyS_only (i:=4) rfl (by kernel_rfl) (fun K hK=>?_)
 go_simp
 have H6:=Lib.hid (H5.out.s4 (.slice none 0 0))
 have Hb6:=Lib.hid (Hb5.out.setCell (p:=⟨g4,0,none⟩) H5.out.le4 (.slice none 0 0))
 have HX6:=Lib.hid (HX5.out.far (p:=⟨g4,0,none⟩) (blk_ne HX5.out H5.out.b4 (by decide)) (.slice none 0 0))
 clear hHeld c2 c3 c4 c5 f2 f3 f4 f5
 refine hK.out _ _ (HX6.out.cell 0) (fun hHeld=>?_)
 clear hK K H5 Hb5 HX5
 (try simp only[Act.put,List.getElem_toArray,List.getElem_cons_zero,List.getElem_cons_succ,List.setIfInBounds_toArray,List.set_cons_zero,List.set_cons_succ])
 generalize w5.setCell ⟨g4,0,none⟩ (.slice none 0 0)=w6 at *
 obtain⟨c2,c3,c4,c5,f2,f3,f4,f5⟩:=H6.out.cells
 refine wpAnyS_last rfl (by kernel_rfl) (by kernel_rfl) (fun K hK=>?_)
 go_simp
 have H7:=Lib.hid (H6.out.s5 (.int .i64 x))
 have Hb7:=Lib.hid (Hb6.out.setCell (p:=⟨g5,0,none⟩) H6.out.le5 (.int .i64 x))
 clear hHeld c2 c3 c4 c5 f2 f3 f4 f5
 refine hK.out _ _ ?_
 clear hK K
 exact⟨rfl,rfl,H7.out,Hb7.out⟩
set_option maxRecDepth 100000 in
set_option maxHeartbeats 1600000 in
theorem catch_idle (g2 g3 g4 g5:Nat) (w:World) :
  CallsD Tryz.prog 120 #[.pointer (some ⟨g2,0,none⟩),.pointer (some ⟨g3,0,none⟩),.pointer (some ⟨g4,0,none⟩),.pointer (some ⟨g5,0,none⟩)] .returning w fun e u' w'=>e=.returned (.tuple #[])∧u'=.returning∧w'=w:=by
 refine callsD_of_wpS Tryz.func120 rfl fun c₀ cs hu=>?_
 apply wpS_seq
 apply wpS_region
 simp[wpOpsS,go_sem,recoverD,hu,Tryz.ntmps120,Exit.thenS]
 refine wpS_of_wp (wp_mono (Q:=fun e a w'=>e=.normal∧a.defers=[]∧w'=w) ?_ ?_)
 rotate_left
 ·rintro e a w' ⟨rfl,hd,rfl⟩
  cases c₀
  simp only at hu
  subst hu
  exact⟨hd,_,rfl,_,results_none rfl _ _ _,rfl,rfl,rfl⟩
 clear hu
 go_wp2_with fail
end Go.Proofs.YtabdianhoabhhaaGreatDoor.Inf
namespace Go.Proofs.YtabdianhoabhhaaGreatDoor.Inf
open Go.Proofs.YtabdianhoabhhaaGreatDoor.Bits Go.Proofs.YtabdianhoabhhaaGreatDoor.Code
set_option linter.unusedVariables false
theorem then_inv {α β:Type} {r:Rd α} {f:α→Rd β} {b:β} (h:r.then_ f=.ok b):∃ a,r=.ok a∧f a=.ok b:=by
 cases r with
 | bad e=>cases h
 | ok a=>exact⟨a,rfl,h⟩
theorem fillP_le (p:Nat):p≤fillP p:=by unfold fillP;omega
theorem raw_mono {row:List Bool}:∀ {n p:Nat} {out:List UInt8} {a:Nat×List UInt8},rawR row n p out=.ok a→p≤row.length→p≤a.1∧a.1≤row.length
 | 0,p,out,a,h,hp=>by injection h with h;subst h;exact⟨Nat.le_refl _,hp⟩
 | n+1,p,out,a,h,hp=>by
  obtain⟨x,hx,h⟩:=then_inv h
  obtain⟨o,ho,h⟩:=then_inv h
  have h1:=getR_pos hx
  have h2:=raw_mono h (by omega)
  omega
theorem stored_mono {row:List Bool} {p:Nat} {out:List UInt8} {a:Nat×List UInt8} (h:storedR row p out=.ok a):p≤a.1∧a.1≤row.length:=by
 obtain⟨x,hx,h⟩:=then_inv h
 obtain⟨y,hy,h⟩:=then_inv h
 have h1:=getR_pos hx
 have h2:=getR_pos hy
 have h3:=fillP_le p
 split at h
 ·cases h
 ·have h4:=raw_mono h (by omega)
  omega
theorem lenStep_mono {row:List Bool} {ls l:List Nat} {n p:Nat} {a:Nat×List Nat} (h:lenStep row ls n p l=.ok a) (hp:p≤row.length):p≤a.1∧a.1≤row.length:=by
 obtain⟨k,hk,h⟩:=then_inv h
 have h1:=symR_lt hk hp
 have key:∀ (q nb v add:Nat),((getR row q nb).then_ fun x=>(againR n l v (add+x.1)).then_ fun m=>Rd.ok (x.2,m))=.ok a→q≤a.1∧a.1≤row.length:=by
  intro q nb v add h
  obtain⟨x,hx,h⟩:=then_inv h
  obtain⟨m,_,h⟩:=then_inv h
  have:=getR_pos hx
  injection h with h
  subst h
  (try dsimp only)
  omega
 split at h
 ·split at h
  ·cases h
  ·have:=key _ _ _ _ h;omega
 ·split at h
  ·have:=key _ _ _ _ h;omega
  ·split at h
   ·have:=key _ _ _ _ h;omega
   ·obtain⟨m,_,h⟩:=then_inv h
    injection h with h
    subst h
    (try dsimp only)
    omega
theorem len_mono {row:List Bool} {ls:List Nat} {n:Nat}:∀ {f p:Nat} {l:List Nat} {a:Nat×List Nat},lenR row ls n f p l=.ok a→p≤row.length→p≤a.1∧a.1≤row.length
 | 0,p,l,a,h,hp=>by injection h with h;subst h;exact⟨Nat.le_refl _,hp⟩
 | f+1,p,l,a,h,hp=>by
  unfold lenR at h
  split at h
  ·injection h with h;subst h;exact⟨Nat.le_refl _,hp⟩
  ·obtain⟨x,hx,h⟩:=then_inv h
   have h1:=lenStep_mono hx hp
   have h2:=len_mono h h1.2
   omega
theorem sizes_mono {row:List Bool}:∀ {ks:List Nat} {p:Nat} {s:List Nat} {a:Nat×List Nat},sizesR row ks p s=.ok a→p≤row.length→p≤a.1∧a.1≤row.length
 | [],p,s,a,h,hp=>by injection h with h;subst h;exact⟨Nat.le_refl _,hp⟩
 | k :: ks,p,s,a,h,hp=>by
  obtain⟨x,hx,h⟩:=then_inv h
  have h1:=getR_pos hx
  have h2:=sizes_mono h (by omega)
  omega
theorem head_mono {row:List Bool} {p:Nat} {a:Nat×List Nat×List Nat} (h:headR row p=.ok a):p≤a.1∧a.1≤row.length:=by
 obtain⟨x,hx,h⟩:=then_inv h
 obtain⟨y,hy,h⟩:=then_inv h
 obtain⟨z,hz,h⟩:=then_inv h
 have h1:=getR_pos hx
 have h2:=getR_pos hy
 have h3:=getR_pos hz
 split at h
 ·cases h
 ·obtain⟨s,hs,h⟩:=then_inv h
  obtain⟨t,_,h⟩:=then_inv h
  obtain⟨l,hl,h⟩:=then_inv h
  have h4:=sizes_mono hs (by omega)
  have h5:=len_mono hl h4.2
  split at h
  ·cases h
  ·obtain⟨u,_,h⟩:=then_inv h
   obtain⟨v,_,h⟩:=then_inv h
   injection h with h
   subst h
   (try dsimp only)
   omega
theorem bodyStep_mono {row:List Bool} {lit far:List Nat} {p:Nat} {out:List UInt8} {a:Bool×Nat×List UInt8} (h:bodyStep row lit far p out=.ok a) (hp:p≤row.length):p < a.2.1∧a.2.1≤row.length:=by
 obtain⟨k,hk,h⟩:=then_inv h
 have h1:=symR_lt hk hp
 split at h
 ·obtain⟨o,_,h⟩:=then_inv h
  injection h with h;subst h;dsimp only;omega
 ·split at h
  ·injection h with h;subst h;dsimp only;omega
  ·split at h
   ·cases h
   ·obtain⟨x,hx,h⟩:=then_inv h
    obtain⟨f,hf,h⟩:=then_inv h
    have h2:=getR_pos hx
    have h3:=symR_lt hf (by omega)
    split at h
    ·cases h
    ·obtain⟨y,hy,h⟩:=then_inv h
     have h4:=getR_pos hy
     split at h
     ·cases h
     ·obtain⟨o,_,h⟩:=then_inv h
      injection h with h;subst h;dsimp only;omega
theorem body_mono {row:List Bool} {lit far:List Nat}:∀ {f p:Nat} {out:List UInt8} {a:Nat×List UInt8},bodyR row lit far f p out=.ok a→p≤row.length→p≤a.1∧a.1≤row.length
 | 0,p,out,a,h,hp=>by cases h
 | f+1,p,out,a,h,hp=>by
  obtain⟨x,hx,h⟩:=then_inv h
  have h1:=bodyStep_mono hx hp
  split at h
  ·injection h with h;subst h;omega
  ·have h2:=body_mono h h1.2
   omega
theorem block_mono {row:List Bool} {p:Nat} {out:List UInt8} {a:Bool×Nat×Nat×List UInt8} (h:blockR row p out=.ok a):p < a.2.2.1∧a.2.2.1≤row.length:=by
 obtain⟨l,hl,h⟩:=then_inv h
 obtain⟨k,hk,h⟩:=then_inv h
 have h1:=getR_pos hl
 have h2:=getR_pos hk
 split at h
 ·obtain⟨x,hx,h⟩:=then_inv h
  have:=stored_mono hx
  injection h with h;subst h;dsimp only;omega
 ·split at h
  ·obtain⟨x,hx,h⟩:=then_inv h
   have:=body_mono hx (by omega)
   injection h with h;subst h;dsimp only;omega
  ·split at h
   ·obtain⟨y,hy,h⟩:=then_inv h
    obtain⟨x,hx,h⟩:=then_inv h
    have h3:=head_mono hy
    have:=body_mono hx h3.2
    injection h with h;subst h;dsimp only;omega
   ·cases h
variable {row:List Bool} {L:Nat}
end Go.Proofs.YtabdianhoabhhaaGreatDoor.Inf
namespace Go.Proofs.YtabdianhoabhhaaGreatDoor.Inf
open Go Go.RowKit Go.Proofs.YtabdianhoabhhaaGreatDoor Go.Proofs.YtabdianhoabhhaaGreatDoor.Bits Go.Proofs.YtabdianhoabhhaaGreatDoor.Code
set_option linter.unusedVariables false
set_option linter.unusedSimpArgs false
def UPost (w:World) (xs:List UInt8) (e:Ending) (w':World):Prop:=match unpackR xs with
 | .bad z=>e=.returned (.tuple #[.slice none 0 0,.int .i64 0,.slice none 0 0,.int .i64 z])
 | .ok a=>a.1.length≤3000∧∃ Ao co Ak ck,e=.returned (.tuple #[.slice Ao a.1.length co,.int .i64 (a.2.1:Int),.slice Ak a.2.2.length ck,.int .i64 0])∧
   w'.ownsRow w.heap.size 5 1 (.slice Ao a.1.length co) a.1.length (a.1.map u8v)∧w'.ownsRow w.heap.size 3 1 (.slice Ak a.2.2.length ck) a.2.2.length (a.2.2.map natV)
theorem unp_long {xs:List UInt8} (h:6000 < xs.length):unpackR xs=.bad 2:=by unfold unpackR;rw[if_pos h]
theorem unp_some {xs:List UInt8} (h:¬ 6000 < xs.length):unpackR xs=(blocksR (bitsL xs) (8*xs.length+1) 0 [] []).then_ fun x=>.ok (x.2.1,(x.1+7) / 8,x.2.2):=by unfold unpackR;rw[if_neg h]
theorem results4 {P:Program} {fn:Func} {p2 p3 p4 p5:Tmp} {t2 t3 t4 t5:TypeId} (h:fn.results=#[.cell p2 t2,.cell p3 t3,.cell p4 t4,.cell p5 t5]) (tmps:Array Value) (w:World) (a2 a3 a4 a5:Addr) (v2 v3 v4 v5:Value)
  (h2:tmps.getD p2 undef=.pointer (some a2)) (h3:tmps.getD p3 undef=.pointer (some a3)) (h4:tmps.getD p4 undef=.pointer (some a4)) (h5:tmps.getD p5 undef=.pointer (some a5))
  (l2:(loadVar t2 a2).run P w=.ok v2 w) (l3:(loadVar t3 a3).run P w=.ok v3 w) (l4:(loadVar t4 a4).run P w=.ok v4 w) (l5:(loadVar t5 a5).run P w=.ok v5 w) :
  (results fn tmps).run P w=.ok (.tuple #[v2,v3,v4,v5]) w:=by
 have h2':tmps[p2]?.getD undef=.pointer (some a2):=by simpa using h2
 have h3':tmps[p3]?.getD undef=.pointer (some a3):=by simpa using h3
 have h4':tmps[p4]?.getD undef=.pointer (some a4):=by simpa using h4
 have h5':tmps[p5]?.getD undef=.pointer (some a5):=by simpa using h5
 simp[results,h,h2',h3',h4',h5',asAddr,l2,l3,l4,l5]
theorem lv_sl8 (w:World) (a:Addr) (v:Value) (h:w.cell? a=some v):(loadVar 23 a).run Tryz.prog w=.ok v w:=by
 simp[loadVar,run_underlying Tryz.underlying23,go_sem,h]
theorem lv_int (w:World) (a:Addr) (v:Value) (h:w.cell? a=some v):(loadVar 3 a).run Tryz.prog w=.ok v w:=by
 simp[loadVar,run_underlying Tryz.underlying3,go_sem,h]
theorem lv_sli (w:World) (a:Addr) (v:Value) (h:w.cell? a=some v):(loadVar 89 a).run Tryz.prog w=.ok v w:=by
 simp[loadVar,run_underlying Tryz.underlying89,go_sem,h]
theorem lv_err (w:World) (a:Addr) (v:Value) (h:w.cell? a=some v):(loadVar 24 a).run Tryz.prog w=.ok v w:=by
 simp[loadVar,run_underlying Tryz.underlying24,go_sem,h]
theorem OutAt.kept {w w':World} {B g2 g3 g4 g5:Nat} {T:List TypeId} {v2 v3 v4 v5:Value} (h:OutAt w B g2 g3 g4 g5 v2 v3 v4 v5) (hk:Keeps w.heap.size T w w'):OutAt w' B g2 g3 g4 g5 v2 v3 v4 v5:=
 ⟨h.le2,h.le3,h.le4,h.le5,(hk.block g2 h.b2.lt).trans h.b2,(hk.block g3 h.b3.lt).trans h.b3,(hk.block g4 h.b4.lt).trans h.b4,(hk.block g5 h.b5.lt).trans h.b5⟩
theorem below_keeps {B:Nat} {T:List TypeId} {w w4 w':World} (h:Below B w w4) (hk:Keeps w4.heap.size T w4 w') (hB:B≤w4.heap.size):Below B w w':=
 h.trans ⟨hk.os,hk.tape,hk.output,hk.size,fun k hkB=>hk.block k (by omega)⟩
theorem wp_calm {P:Program} {c:Code} {Q:Exit→Act→World→Prop} {a:Act} {w:World} (h:c.wp P (fun e a w=>e=.normal∧Q .normal a w) a w):c.wp P Q a w:=
 wp_mono h (by rintro e a w ⟨rfl,h⟩;exact h)
structure Rest (w:World) (g B:Nat) (A:Option Addr) (n c p:Nat) (Ao:Option Addr) (ol co:Nat) (Ak:Option Addr) (kl ck:Nat) (o:List UInt8) (ks:List Nat):Prop where
 rdr:Blk w g 177 #[.pointer (some ⟨B,0,none⟩),.slice Ao ol co,.slice Ak kl ck]
 src:SrcAt w B A n c p
 out:w.ownsRow B 5 1 (.slice Ao ol co) ol (o.map u8v)
 kinds:w.ownsRow B 3 1 (.slice Ak kl ck) kl (ks.map natV)
theorem Rest.held {w:World} {g B n c p ol co kl ck:Nat} {A Ao Ak:Option Addr} {o:List UInt8} {ks:List Nat} (h:Rest w g B A n c p Ao ol co Ak kl ck o ks):w.cell? ⟨g,0,none⟩=some (.pointer (some ⟨B,0,none⟩))∧w.cell? ⟨g,1,none⟩=some (.slice Ao ol co)∧w.cell? ⟨g,2,none⟩=some (.slice Ak kl ck):=⟨h.rdr.cell 0,h.rdr.cell 1,h.rdr.cell 2⟩
theorem Rest.set_ {w:World} {g B n c p ol co kl ck x:Nat} {A Ao Ak:Option Addr} {o:List UInt8} {ks:List Nat} {t:TypeId} {cs:Array Value} (h:Rest w g B A n c p Ao ol co Ak kl ck o ks) (hx:Blk w x t cs) (hB:x < B) (hg:g≠x) (u:Value):Rest (w.setCell ⟨x,0,none⟩ u) g B A n c p Ao ol co Ak kl ck o ks:=
 ⟨h.rdr.far (p:=⟨x,0,none⟩) hg u,Blk.far h.src (p:=⟨x,0,none⟩) (by show B≠x;omega) u,ownsRow_setCell_below h.out (a:=⟨x,0,none⟩) hB u,ownsRow_setCell_below h.kinds (a:=⟨x,0,none⟩) hB u⟩
set_option maxRecDepth 100000 in
set_option maxHeartbeats 1600000 in
theorem at_any (q:Nat) (A:Option Addr) (n c pos:Nat) (w:World) (h:SrcAt w q A n c pos) (hp:pos≤8*n) (hn:n≤1099511627776) :
  Calls Tryz.prog 123 #[.pointer (some ⟨q,0,none⟩)] w fun e w'=>e=.returned (.int .i64 (((pos+7) / 8:Nat):Int))∧w'=w:=by
 have c1:w.cell? ⟨q,1,none⟩=some (.int .i64 (pos:Int)):=by rw[h.cell];rfl
 have h1:IntKind.i64.wrap ((pos:Int)+7)=(pos:Int)+7:=IntWalk.i64_in _ (by omega)
 have h4:((pos:Int)+7).tdiv 8=((pos:Int)+7) / 8:=Int.tdiv_eq_ediv_of_nonneg (by omega)
 have h2:IntKind.i64.wrap (((pos:Int)+7) / 8)=(((pos+7) / 8:Nat):Int):=by
  rw[show ((pos:Int)+7) / 8=(((pos+7) / 8:Nat):Int) by omega]
  exact IntWalk.i64_in _ (by omega)
 have hq:=Blk.lt h
 clear h
 generalize (pos+7) / 8=u at *
 go_enter Tryz.func123,Tryz.ntmps123
 go_wp2_with fail
 go_ret
 exact⟨rfl,rfl⟩
theorem results_out {w:World} {g2 g3 g4 g5:Nat} {v2 v3 v4 v5:Value} (h:OutC w g2 g3 g4 g5 v2 v3 v4 v5) (tmps:Array Value)
  (h2:tmps.getD 2 undef=.pointer (some ⟨g2,0,none⟩)) (h3:tmps.getD 3 undef=.pointer (some ⟨g3,0,none⟩)) (h4:tmps.getD 4 undef=.pointer (some ⟨g4,0,none⟩)) (h5:tmps.getD 5 undef=.pointer (some ⟨g5,0,none⟩)) :
  (results Tryz.f88 tmps).run Tryz.prog w=.ok (.tuple #[v2,v3,v4,v5]) w:=
 results4 Tryz.results88 tmps w _ _ _ _ _ _ _ _ h2 h3 h4 h5 (lv_sl8 _ _ _ h.c2) (lv_int _ _ _ h.c3) (lv_sli _ _ _ h.c4) (lv_err _ _ _ h.c5)
theorem out_new (w:World) (x:Value):OutAt ((((w.alloc (.cells #[.slice none 0 0] 23)).alloc (.cells #[.int .i64 0] 3)).alloc (.cells #[.slice none 0 0] 89)).alloc (.cells #[x] 24)) w.heap.size w.heap.size (w.heap.size+1) (w.heap.size+1+1) (w.heap.size+1+1+1) (.slice none 0 0) (.int .i64 0) (.slice none 0 0) x:=by
 have b2:=(((Blk.new w 23 #[.slice none 0 0]).alloc (.cells #[.int .i64 0] 3)).alloc (.cells #[.slice none 0 0] 89)).alloc (.cells #[x] 24)
 have b3:=((Blk.new (w.alloc (.cells #[.slice none 0 0] 23)) 3 #[.int .i64 0]).alloc (.cells #[.slice none 0 0] 89)).alloc (.cells #[x] 24)
 have b4:=(Blk.new ((w.alloc (.cells #[.slice none 0 0] 23)).alloc (.cells #[.int .i64 0] 3)) 89 #[.slice none 0 0]).alloc (.cells #[x] 24)
 have b5:=Blk.new (((w.alloc (.cells #[.slice none 0 0] 23)).alloc (.cells #[.int .i64 0] 3)).alloc (.cells #[.slice none 0 0] 89)) 24 #[x]
 simp only[World.size_alloc]at b2 b3 b4 b5
 exact⟨Nat.le_refl _,by omega,by omega,by omega,b2,b3,b4,b5⟩
theorem slat_lt8 {w:World} {b o:Nat} {cs:List Value} (h:SlAt w (some ⟨b,o,none⟩) cs) (hp:0 < cs.length):b < w.heap.size:=by
 obtain⟨b',o',e,hc⟩:=h hp
 injection e with e
 injection e with e1 e2
 subst e1 e2
 obtain⟨x,hx⟩:∃ x,cs[0]?=some x:=⟨cs[0],List.getElem?_eq_getElem hp⟩
 exact block_lt_of_cell (hc 0 x hx)
theorem out_below (w:World) (x:Value):Below w.heap.size w ((((w.alloc (.cells #[.slice none 0 0] 23)).alloc (.cells #[.int .i64 0] 3)).alloc (.cells #[.slice none 0 0] 89)).alloc (.cells #[x] 24)):=
 ((((Below.refl _ _).alloc (Nat.le_refl _) _).alloc (by simp) _).alloc (by simp;omega) _).alloc (by simp;omega) _
set_option maxRecDepth 100000 in
set_option maxHeartbeats 1600000 in
theorem unpack_any (A:Option Addr) (n c:Nat) (xs:List UInt8) (w:World) (hn:xs.length=n) (hx:n≤maxLen) (hA:ByAt w A xs) :
  Calls Tryz.prog 88 #[.slice A n c] w fun e w'=>UPost w xs e w'∧Below w.heap.size w w':=by
 unfold maxLen at hx
 have hmf:∀ (fn:Fn) (first cap:Array Value) (w:World),(Instr.makeFunc fn first cap).run Tryz.prog w=.ok (.func fn first cap) w:=fun _ _ _ _=>rfl
 have Hn:=Lib.hid hn
 have HA:=Lib.hid hA
 clear hn hA
 by_cases h6:6000 < n
 ·have h6':(6000:Int) < (n:Int):=by omega
  have HU:=Lib.hid (unp_long (show 6000 < xs.length by rw[Hn.out];exact h6))
  go_enter_defers Tryz.func88,Tryz.ntmps88
  go_wp2_with fail
  refine⟨_,results_out (out_new w (.int .i64 2)).cells _ rfl rfl rfl rfl,?_,out_below w _⟩
  unfold UPost
  rw[HU.out]
 ·have h6':¬ (6000:Int) < (n:Int):=by omega
  have HU:=Lib.hid (unp_some (show ¬ 6000 < xs.length by rw[Hn.out];exact h6))
  go_enter_defers Tryz.func88,Tryz.ntmps88
  go_wp2_with fail
  have HOut:=Lib.hid (out_new w (.int .i64 0))
  have Hb4:=Lib.hid (out_below w (.int .i64 0))
  generalize ((((w.alloc (.cells #[.slice none 0 0] 23)).alloc (.cells #[.int .i64 0] 3)).alloc (.cells #[.slice none 0 0] 89)).alloc (.cells #[.int .i64 0] 24))=w4 at *
  generalize hg3:w.heap.size+1=g3 at *
  generalize hg4:g3+1=g4 at *
  generalize hg5:g4+1=g5 at *
  generalize hg2:w.heap.size=g2 at *
  have Hg2:=Lib.hid hg2
  have HA4:=Lib.hid (SlAt.below HA.out (by rw[hg2];exact Hb4.out))
  have hBw:g2≤w4.heap.size:=by have:=Hb4.out.size;omega
  have hlow:∀ b o,A=some ⟨b,o,none⟩→0 < n→b < w4.heap.size:=fun b o e hp=>by
   have:=slat_lt8 (e▸HA.out) (by rw[List.length_map,Hn.out];exact hp)
   omega
  clear hg2 hg3 hg4 hg5 HA
  refine (of_any A n c w4).mono ?_
  rintro e w5 ⟨rfl,hsrc,hb5⟩
  have HS5:=Lib.hid hsrc
  have Hb5:=Lib.hid hb5
  clear hsrc hb5
  go_wp2_with fail
  obtain⟨G,hG⟩:∃ G:Nat×List UInt8×List Nat→Rd (List UInt8×Nat×List Nat),G=fun x=>.ok (x.2.1,(x.1+7) / 8,x.2.2):=⟨_,rfl⟩
  obtain⟨R,hR⟩:∃ R,R=unpackR xs:=⟨_,rfl⟩
  have HU:=Lib.hid (show R=(blocksR (bitsL xs) (8*n+1) 0 [] []).then_ G by rw[hR,HU.out,hG,Hn.out])
  have HGd:=Lib.hid hG
  have HRd:=Lib.hid hR
  clear hG hR
  have hrow:(bitsL xs).length=8*n:=by rw[bitsL_length,Hn.out]
  have Hrow:=Lib.hid hrow
  clear hrow
  have hbx:Below w4.heap.size w4 (w5.alloc (.cells #[.pointer (some ⟨w4.heap.size,0,none⟩),.slice none 0 0,.slice none 0 0] 177)):=Hb5.out.alloc Hb5.out.size _
  have HOut6:=Lib.hid (HOut.out.below hbx)
  have HK6:Hid (Keeps w4.heap.size infT2 w4 (w5.alloc (.cells #[.pointer (some ⟨w4.heap.size,0,none⟩),.slice none 0 0,.slice none 0 0] 177))):=Lib.hid (Keeps.of_below hbx (Nat.le_refl _))
  have HR6:Hid (RdAt (w5.alloc (.cells #[.pointer (some ⟨w4.heap.size,0,none⟩),.slice none 0 0,.slice none 0 0] 177)) w4.heap.size w5.heap.size w4.heap.size A n c 0 [] []):=Lib.hid
   ⟨Hb5.out.size,Nat.le_refl _,by omega,by simp,⟨_,_,Blk.new _ _ _,World.ownsRow_nil _ _ _ _,World.ownsRow_nil _ _ _ _⟩,Blk.alloc HS5.out _⟩
  have HI4:Hid (InAt_ w4 w4.heap.size A n xs):=Lib.hid ⟨Hn.out,by omega,HA4.out,hlow⟩
  generalize w5.alloc (.cells #[.pointer (some ⟨w4.heap.size,0,none⟩),.slice none 0 0,.slice none 0 0] 177)=w6 at *
  generalize w5.heap.size=g at *
  obtain⟨B,hB⟩:∃ B,B=w4.heap.size:=⟨_,rfl⟩
  rw[←hB]at HK6 HR6 HI4 hBw⊢
  have HBe:=Lib.hid hB
  clear hB hbx hlow HS5 Hb5 HA4
  go_loopw [] (fun wr=>∃ (f p:Nat) (o:List UInt8) (ks:List Nat),8*n+1≤p+f∧ks.length≤p∧R=(blocksR (bitsL xs) f p o ks).then_ G∧RdAt wr B g B A n c p o ks∧Keeps B infT2 w4 wr) (fun wr=>8*n - posOf B wr)
  case atStart=>exact⟨8*n+1,0,[],[],by omega,by simp,HU.out,HR6.out,HK6.out⟩
  case round=>
   obtain⟨f,p,o,ks,hpf,hkp,hR,hrd,hk⟩:=hrel
   have hple:=hrd.ple
   obtain⟨f,rfl⟩:∃ f',f=f'+1:=⟨f - 1,by omega⟩
   have HU:=Lib.hid (show R=((blockR (bitsL xs) p o).then_ fun x=>if x.1=true then .ok (x.2.2.1,x.2.2.2,ks++[x.2.1]) else blocksR (bitsL xs) f x.2.2.1 x.2.2.2 (ks++[x.2.1])).then_ G from hR)
   have Hpos:Hid (posOf B wr=p):=Lib.hid (posOf_src hrd.src)
   have HK:=Lib.hid hk
   have HIr:Hid (InAt_ wr B A n xs):=Lib.hid (HI4.out.keeps hk)
   have HBk:=Lib.hid (block_r B g B A n c p xs o ks wr hrd HIr.out (by omega) (by omega))
   have HOutr:Hid (OutAt wr g2 g2 g3 g4 g5 (.slice none 0 0) (.int .i64 0) (.slice none 0 0) (.int .i64 0)):=Lib.hid (HOut.out.kept (HBe.out▸hk))
   clear hR hrd hk HR6 HK6 HOut6 HIr
   go_wp2_with fail
   refine (HBk.out).mono ?_
   rintro e w7 ⟨hr7,hk7⟩
   have HK7:=Lib.hid (HK.out.trans hk7)
   have HOut7:Hid (OutAt w7 g2 g2 g3 g4 g5 (.slice none 0 0) (.int .i64 0) (.slice none 0 0) (.int .i64 0)):=Lib.hid (HOut.out.kept (HBe.out▸HK7.out))
   have Hb7:Hid (Below g2 w w7):=Lib.hid (below_keeps Hb4.out (HBe.out▸HK7.out) (HBe.out▸hBw))
   cases hg7:blockR (bitsL xs) p o with
   | bad z=>
    have he:=rpost_bad hr7 hg7
    subst he
    have HU:=Lib.hid (show R=.bad z by rw[HU.out,hg7];rfl)
    clear hr7 hk7 hg7
    unfold stopE
    go_wp2_with fail
    refine leaves_cons (f:=120) (args:=#[.pointer (some ⟨g2,0,none⟩),.pointer (some ⟨g3,0,none⟩),.pointer (some ⟨g4,0,none⟩),.pointer (some ⟨g5,0,none⟩)]) (by simp) (by simp[go_sem]) ?_
    refine (catch_panicking g2 g2 g3 g4 g5 _ _ _ _ z [] w7 (Nat.le_trans (HBe.out▸hBw) HK7.out.size |> fun h=>by have:=HK7.out.size;have:=HBe.out;omega) HOut7.out).mono ?_
    rintro e u' w8 ⟨rfl,rfl,hout8,hb8⟩
    refine⟨_,results_out hout8.cells _ rfl rfl rfl rfl,?_,?_⟩
    ·unfold UPost
     rw[←HRd.out,HU.out]
    ·rw[Hg2.out]
     exact Hb7.out.trans hb8
   | ok a=>
    obtain⟨he,hrd7⟩:=rpost_ok hr7 hg7
    subst he
    have hm:=block_mono hg7
    rw[Hrow.out]at hm
    replace HU:=Lib.hid (HU.out.trans (by rw[hg7,then_ok]))
    have HR7:=Lib.hid hrd7
    obtain⟨lb,k,p7,o7⟩:=a
    dsimp only at HU HR7 hm⊢
    clear hr7 hk7 hg7 hrd7 HBk
    cases lb with
    | false=>
     replace HU:=Lib.hid (HU.out.trans (by rw[if_neg (by simp)]))
     go_wp2_with fail
     go_roundw
     case rel=>exact⟨f,p7,o7,ks++[k],by omega,by simp;omega,HU.out,HR7.out,HK7.out⟩
     case measure=>rw[Hpos.out,posOf_src HR7.out.src];omega
    | true=>
     replace HU:=Lib.hid (HU.out.trans (by rw[if_pos rfl,then_ok,HGd.out]))
     dsimp only at HU
     obtain⟨vo,Ak,kl,ck,ekl,hb,ho,hkk⟩:=kind_any HR7.out
     obtain⟨Ao,co,rfl,_⟩:=own_slat ho
     obtain⟨ol,hol⟩:∃ ol,ol=o7.length:=⟨_,rfl⟩
     rw[←hol]at hb ho
     have Hol:=Lib.hid hol
     have Hekl:=Lib.hid ekl
     have HO7:=Lib.hid ho
     have HKK7:=Lib.hid hkk
     have HBR:=Lib.hid hb
     have HS7:=Lib.hid HR7.out.src
     have hfew:=HR7.out.few
     have hp7:=HR7.out.ple
     have hBB:g2≤B:=hBw
     have hBe:=HBe.out
     have hlt2:g2 < B:=by have:=HOut.out.b2.lt;omega
     have hlt3:g3 < B:=by have:=HOut.out.b3.lt;omega
     have hlt4:g4 < B:=by have:=HOut.out.b4.lt;omega
     have hlt5:g5 < B:=by have:=HOut.out.b5.lt;omega
     have hgB:B≤g:=by obtain⟨h1,_⟩:=HR7.out;exact h1
     clear hBe
     clear hol ekl ho hkk hb HOut Hb4 HI4
     go_wp2_with fail
     refine wp_calm ?_
     refine wp_region_S (fun W=>W.cell? ⟨g,0,none⟩=some (.pointer (some ⟨B,0,none⟩))∧W.cell? ⟨g,1,none⟩=some (.slice Ao ol co)∧W.cell? ⟨g,2,none⟩=some (.slice Ak kl ck)) 16 (by kernel_rfl) ?_
     have hHeld:w7.drew.cell? ⟨g,0,none⟩=some (.pointer (some ⟨B,0,none⟩))∧w7.drew.cell? ⟨g,1,none⟩=some (.slice Ao ol co)∧w7.drew.cell? ⟨g,2,none⟩=some (.slice Ak kl ck):=⟨HBR.out.cell 0,HBR.out.cell 1,HBR.out.cell 2⟩
     have H3:=Lib.hid (HOut7.out.below ((Below.refl _ _).drew))
     have Hb3:=Lib.hid (Hb7.out.trans ((Below.refl g2 w7).drew))
     have HX3:Hid (Rest w7.drew g B A n c p7 Ao ol co Ak kl ck o7 (ks++[k])):=Lib.hid ⟨HBR.out,HS7.out,HO7.out,HKK7.out⟩
     have HAt:=Lib.hid (at_any B A n c p7 w7.drew HX3.out.src hp7 (by omega))
     clear HOut7 Hb7 HBR HO7 HKK7 HS7
     generalize w7.drew=w3 at *
     refine wpAnyS_takeT (i:=0) (v:=?va0) (by kernel_rfl) (by kernel_rfl) rfl (by kernel_rfl) (by kernel_rfl) (by kernel_rfl) (fun _ _ _ h=>by cases h.1) (by rfl) (by assumption) ?hya0 ?resta0
     case hya0=>(intro W hSW;(try dsimp only at hSW);go_simp;try with_reducible rfl)
     (try simp only[Act.put,List.getElem_toArray,List.getElem_cons_zero,List.getElem_cons_succ,List.setIfInBounds_toArray,List.set_cons_zero,List.set_cons_succ])
     refine wpAnyS_takeT (i:=1) (v:=?va1) (by kernel_rfl) (by kernel_rfl) rfl (by kernel_rfl) (by kernel_rfl) (by kernel_rfl) (fun _ _ _ h=>by cases h.1) (by rfl) (by assumption) ?hya1 ?resta1
     case hya1=>(intro W hSW;(try dsimp only at hSW);go_simp;try with_reducible rfl)
     (try simp only[Act.put,List.getElem_toArray,List.getElem_cons_zero,List.getElem_cons_succ,List.setIfInBounds_toArray,List.set_cons_zero,List.set_cons_succ])
     refine wpAnyS_takeT (i:=2) (v:=?va2) (by kernel_rfl) (by kernel_rfl) rfl (by kernel_rfl) (by kernel_rfl) (by kernel_rfl) (fun _ _ _ h=>by cases h.1) (by rfl) (by assumption) ?hya2 ?resta2
     case hya2=>(intro W hSW;(try dsimp only at hSW);go_simp;try with_reducible rfl)
     (try simp only[Act.put,List.getElem_toArray,List.getElem_cons_zero,List.getElem_cons_succ,List.setIfInBounds_toArray,List.set_cons_zero,List.set_cons_succ])
     refine wpAnyS_takeT (i:=3) (v:=?va3) (by kernel_rfl) (by kernel_rfl) rfl (by kernel_rfl) (by kernel_rfl) (by kernel_rfl) (fun _ _ _ h=>by cases h.1) (by rfl) (by assumption) ?hya3 ?resta3
     case hya3=>(intro W hSW;(try dsimp only at hSW);go_simp;try with_reducible rfl)
     (try simp only[Act.put,List.getElem_toArray,List.getElem_cons_zero,List.getElem_cons_succ,List.setIfInBounds_toArray,List.set_cons_zero,List.set_cons_succ])
     refine wpAnyS_takeT (i:=4) (v:=?va4) (by kernel_rfl) (by kernel_rfl) rfl (by kernel_rfl) (by kernel_rfl) (by kernel_rfl) (fun _ _ _ h=>by cases h.1) (by rfl) (by assumption) ?hya4 ?resta4
     case hya4=>(intro W hSW;(try dsimp only at hSW);go_simp;try with_reducible rfl)
     (try simp only[Act.put,List.getElem_toArray,List.getElem_cons_zero,List.getElem_cons_succ,List.setIfInBounds_toArray,List.set_cons_zero,List.set_cons_succ])
     refine wpAnyS_takeT (i:=5) (v:=?va5) (by kernel_rfl) (by kernel_rfl) rfl (by kernel_rfl) (by kernel_rfl) (by kernel_rfl) (fun _ _ _ h=>by cases h.1) (by rfl) (by assumption) ?hya5 ?resta5
     case hya5=>(intro W hSW;(try dsimp only at hSW);go_simp;try with_reducible rfl)
     (try simp only[Act.put,List.getElem_toArray,List.getElem_cons_zero,List.getElem_cons_succ,List.setIfInBounds_toArray,List.set_cons_zero,List.set_cons_succ])
     refine wpAnyS_takeT (i:=6) (v:=?va6) (by kernel_rfl) (by kernel_rfl) rfl (by kernel_rfl) (by kernel_rfl) (by kernel_rfl) (fun _ _ _ h=>by cases h.1) (by rfl) (by assumption) ?hya6 ?resta6
     case hya6=>(intro W hSW;(try dsimp only at hSW);go_simp;try with_reducible rfl)
     (try simp only[Act.put,List.getElem_toArray,List.getElem_cons_zero,List.getElem_cons_succ,List.setIfInBounds_toArray,List.set_cons_zero,List.set_cons_succ])
     refine wpAnyS_takeT (i:=7) (v:=?va7) (by kernel_rfl) (by kernel_rfl) rfl (by kernel_rfl) (by kernel_rfl) (by kernel_rfl) (fun _ _ _ h=>by cases h.1) (by rfl) (by assumption) ?hya7 ?resta7
     case hya7=>(intro W hSW;(try dsimp only at hSW);go_simp;try with_reducible rfl)
     (try simp only[Act.put,List.getElem_toArray,List.getElem_cons_zero,List.getElem_cons_succ,List.setIfInBounds_toArray,List.set_cons_zero,List.set_cons_succ])
     refine wpAnyS_takeT (i:=9) (v:=?va9) (by kernel_rfl) (by kernel_rfl) rfl (by kernel_rfl) (by kernel_rfl) (by kernel_rfl) (fun _ _ _ h=>by cases h.1) (by rfl) (by assumption) ?hya9 ?resta9
     case hya9=>(intro W hSW;(try dsimp only at hSW);go_simp;try with_reducible rfl)
     (try simp only[Act.put,List.getElem_toArray,List.getElem_cons_zero,List.getElem_cons_succ,List.setIfInBounds_toArray,List.set_cons_zero,List.set_cons_succ])
     refine wpAnyS_takeT (i:=10) (v:=?va10) (by kernel_rfl) (by kernel_rfl) rfl (by kernel_rfl) (by kernel_rfl) (by kernel_rfl) (fun _ _ _ h=>by cases h.1) (by rfl) (by assumption) ?hya10 ?resta10
     case hya10=>(intro W hSW;(try dsimp only at hSW);go_simp;try with_reducible rfl)
     (try simp only[Act.put,List.getElem_toArray,List.getElem_cons_zero,List.getElem_cons_succ,List.setIfInBounds_toArray,List.set_cons_zero,List.set_cons_succ])
     refine wpAnyS_takeT (i:=11) (v:=?va11) (by kernel_rfl) (by kernel_rfl) rfl (by kernel_rfl) (by kernel_rfl) (by kernel_rfl) (fun _ _ _ h=>by cases h.1) (by rfl) (by assumption) ?hya11 ?resta11
     case hya11=>(intro W hSW;(try dsimp only at hSW);go_simp;try with_reducible rfl)
     (try simp only[Act.put,List.getElem_toArray,List.getElem_cons_zero,List.getElem_cons_succ,List.setIfInBounds_toArray,List.set_cons_zero,List.set_cons_succ])
     refine wpAnyS_takeT (i:=12) (v:=?va12) (by kernel_rfl) (by kernel_rfl) rfl (by kernel_rfl) (by kernel_rfl) (by kernel_rfl) (fun _ _ _ h=>by cases h.1) (by rfl) (by assumption) ?hya12 ?resta12
     case hya12=>(intro W hSW;(try dsimp only at hSW);go_simp;try with_reducible rfl)
     (try simp only[Act.put,List.getElem_toArray,List.getElem_cons_zero,List.getElem_cons_succ,List.setIfInBounds_toArray,List.set_cons_zero,List.set_cons_succ])
     refine wpAnyS_only (i:=8) rfl (by kernel_rfl) (fun K hK=>?_)
     go_simp
     go_at_call 123
     refine (HAt.out).mono ?_
     rintro e w3' ⟨rfl,hw3'⟩
     cases hw3'
     refine hK.out _ _ hHeld (fun hHeld=>?_)
     clear hK K
     (try simp only[Act.put,List.getElem_toArray,List.getElem_cons_zero,List.getElem_cons_succ,List.setIfInBounds_toArray,List.set_cons_zero,List.set_cons_succ])
     obtain⟨us,hus⟩:∃ us,us=(p7+7) / 8:=⟨_,rfl⟩
     rw[←hus]at HU⊢
     clear hus
     obtain⟨c2,c3,c4,c5,f2,f3,f4,f5⟩:=H3.out.cells
     refine wpAnyS_only (i:=13) rfl (by kernel_rfl) (fun K hK=>?_)
     go_simp
     have H4:=Lib.hid (H3.out.s2 (.slice Ao ol co))
     have Hb4:=Lib.hid (Hb3.out.setCell (p:=⟨g2,0,none⟩) H3.out.le2 (.slice Ao ol co))
     have HX4:=Lib.hid (HX3.out.set_ H3.out.b2 hlt2 (by omega) (.slice Ao ol co))
     clear hHeld c2 c3 c4 c5 f2 f3 f4 f5
     refine hK.out _ _ HX4.out.held (fun hHeld=>?_)
     clear hK K H3 Hb3 HX3
     (try simp only[Act.put,List.getElem_toArray,List.getElem_cons_zero,List.getElem_cons_succ,List.setIfInBounds_toArray,List.set_cons_zero,List.set_cons_succ])
     generalize w3.setCell ⟨g2,0,none⟩ (.slice Ao ol co)=w4 at *
     obtain⟨c2,c3,c4,c5,f2,f3,f4,f5⟩:=H4.out.cells
     refine wpAnyS_only (i:=14) rfl (by kernel_rfl) (fun K hK=>?_)
     go_simp
     have H5:=Lib.hid (H4.out.s3 (.int .i64 (us:Int)))
     have Hb5:=Lib.hid (Hb4.out.setCell (p:=⟨g3,0,none⟩) H4.out.le3 (.int .i64 (us:Int)))
     have HX5:=Lib.hid (HX4.out.set_ H4.out.b3 hlt3 (by omega) (.int .i64 (us:Int)))
     clear hHeld c2 c3 c4 c5 f2 f3 f4 f5
     refine hK.out _ _ HX5.out.held (fun hHeld=>?_)
     clear hK K H4 Hb4 HX4
     (try simp only[Act.put,List.getElem_toArray,List.getElem_cons_zero,List.getElem_cons_succ,List.setIfInBounds_toArray,List.set_cons_zero,List.set_cons_succ])
     generalize w4.setCell ⟨g3,0,none⟩ (.int .i64 (us:Int))=w5 at *
     obtain⟨c2,c3,c4,c5,f2,f3,f4,f5⟩:=H5.out.cells
     refine wpAnyS_only (i:=15) rfl (by kernel_rfl) (fun K hK=>?_)
     go_simp
     have H6:=Lib.hid (H5.out.s4 (.slice Ak kl ck))
     have Hb6:=Lib.hid (Hb5.out.setCell (p:=⟨g4,0,none⟩) H5.out.le4 (.slice Ak kl ck))
     have HX6:=Lib.hid (HX5.out.set_ H5.out.b4 hlt4 (by omega) (.slice Ak kl ck))
     clear hHeld c2 c3 c4 c5 f2 f3 f4 f5
     refine hK.out _ _ HX6.out.held (fun hHeld=>?_)
     clear hK K H5 Hb5 HX5
     (try simp only[Act.put,List.getElem_toArray,List.getElem_cons_zero,List.getElem_cons_succ,List.setIfInBounds_toArray,List.set_cons_zero,List.set_cons_succ])
     generalize w5.setCell ⟨g4,0,none⟩ (.slice Ak kl ck)=w6 at *
     obtain⟨c2,c3,c4,c5,f2,f3,f4,f5⟩:=H6.out.cells
     refine wpAnyS_last rfl (by kernel_rfl) (by kernel_rfl) (fun K hK=>?_)
     go_simp
     have H7:=Lib.hid (H6.out.s5 (.int .i64 0))
     have Hb7:=Lib.hid (Hb6.out.setCell (p:=⟨g5,0,none⟩) H6.out.le5 (.int .i64 0))
     have HX7:=Lib.hid (HX6.out.set_ H6.out.b5 hlt5 (by omega) (.int .i64 0))
     clear hHeld c2 c3 c4 c5 f2 f3 f4 f5
     refine hK.out _ _ ⟨rfl,?_⟩
     clear hK K
     go_wp2_with fail
     refine leaves_cons (f:=120) (args:=#[.pointer (some ⟨g2,0,none⟩),.pointer (some ⟨g3,0,none⟩),.pointer (some ⟨g4,0,none⟩),.pointer (some ⟨g5,0,none⟩)]) (by simp) (by simp[go_sem]) ?_
     refine (catch_idle g2 g3 g4 g5 _).mono ?_
     rintro e u' w8 ⟨rfl,rfl,rfl⟩
     refine⟨_,results_out H7.out.cells _ rfl rfl rfl rfl,?_,?_⟩
     ·unfold UPost
      rw[←HRd.out,HU.out]
      dsimp only
      have h1:=HX7.out.out
      have h2:=HX7.out.kinds
      rw[Hol.out]at h1
      rw[Hekl.out]at h2
      refine⟨hfew,Ao,co,Ak,ck,?_,own_base h1 (by rw[Hg2.out];exact hBB),own_base h2 (by rw[Hg2.out];exact hBB)⟩
      rw[Hol.out,Hekl.out]
     ·rw[Hg2.out]
      exact Hb7.out
end Go.Proofs.YtabdianhoabhhaaGreatDoor.Inf
namespace Go.Proofs.YtabdianhoabhhaaGreatDoor.Inf
open Go.Proofs.YtabdianhoabhhaaGreatDoor.Bits Go.Proofs.YtabdianhoabhhaaGreatDoor.Code
set_option linter.unusedVariables false
def Nz {α:Type} (r:Rd α):Prop:=∀ z,r=.bad z→z≠0
theorem nz_ok {α:Type} {a:α}:Nz (.ok a):=fun z h=>by cases h
theorem nz_bad {α:Type} {z:Int} (h:z≠0):Nz (.bad z:Rd α):=fun y e=>by injection e with e;subst e;exact h
theorem nz_then {α β:Type} {r:Rd α} {f:α→Rd β} (h:Nz r) (hf:∀ a,Nz (f a)):Nz (r.then_ f):=by
 cases r with
 | bad e=>exact fun z hz=>h z (by injection hz with hz;rw[hz])
 | ok a=>exact hf a
theorem nz_ite {α:Type} {c:Prop} [Decidable c] {r s:Rd α} (h:Nz r) (k:Nz s):Nz (if c then r else s):=by split <;> assumption
theorem nz_get (row:List Bool) (p n:Nat):Nz (getR row p n):=nz_ite nz_ok (nz_bad (by decide))
theorem nz_sym (row:List Bool) (ls:List Nat) (p:Nat):Nz (symR row ls p):=by
 unfold symR
 split
 ·exact nz_ok
 ·rename_i h;exact nz_bad h
theorem nz_push (out:List UInt8) (x:UInt8):Nz (pushR out x):=nz_ite (nz_bad (by decide)) nz_ok
theorem nz_raw (row:List Bool):∀ (n p:Nat) (out:List UInt8),Nz (rawR row n p out)
 | 0,_,_=>nz_ok
 | n+1,p,out=>nz_then (nz_get _ _ _) fun x=>nz_then (nz_push _ _) fun o=>nz_raw row n _ _
theorem nz_table (zs:List Int):Nz (tableR zs):=nz_ite nz_ok (nz_bad (by decide))
theorem nz_again (n:Nat) (l:List Nat) (v k:Nat):Nz (againR n l v k):=nz_ite (nz_bad (by decide)) nz_ok
theorem nz_lenStep (row:List Bool) (ls:List Nat) (n p:Nat) (l:List Nat):Nz (lenStep row ls n p l):=by
 have key:∀ (q nb v add:Nat),Nz ((getR row q nb).then_ fun x=>(againR n l v (add+x.1)).then_ fun m=>Rd.ok (x.2,m)):=fun q nb v add=>nz_then (nz_get _ _ _) fun x=>nz_then (nz_again _ _ _ _) fun m=>nz_ok
 exact nz_then (nz_sym _ _ _) fun k=>nz_ite (nz_ite (nz_bad (by decide)) (key _ _ _ _)) (nz_ite (key _ _ _ _) (nz_ite (key _ _ _ _) (nz_then (nz_again _ _ _ _) fun m=>nz_ok)))
theorem nz_len (row:List Bool) (ls:List Nat) (n:Nat):∀ (f p:Nat) (l:List Nat),Nz (lenR row ls n f p l)
 | 0,_,_=>nz_ok
 | f+1,p,l=>nz_ite nz_ok (nz_then (nz_lenStep _ _ _ _ _) fun x=>nz_len row ls n f _ _)
theorem nz_sizes (row:List Bool):∀ (ks:List Nat) (p:Nat) (s:List Nat),Nz (sizesR row ks p s)
 | [],_,_=>nz_ok
 | k :: ks,p,s=>nz_then (nz_get _ _ _) fun x=>nz_sizes row ks _ _
theorem nz_head (row:List Bool) (p:Nat):Nz (headR row p):=
 nz_then (nz_get _ _ _) fun a=>nz_then (nz_get _ _ _) fun b=>nz_then (nz_get _ _ _) fun c=>nz_ite (nz_bad (by decide)) (nz_then (nz_sizes _ _ _ _) fun s=>nz_then (nz_table _) fun t=>
  nz_then (nz_len _ _ _ _ _ _) fun l=>nz_ite (nz_bad (by decide)) (nz_then (nz_table _) fun x=>nz_then (nz_table _) fun y=>nz_ok))
theorem nz_copy (d:Nat):∀ (n:Nat) (out:List UInt8),Nz (copyR d n out)
 | 0,_=>nz_ok
 | n+1,out=>nz_then (nz_push _ _) fun o=>nz_copy d n o
theorem nz_bodyStep (row:List Bool) (lit far:List Nat) (p:Nat) (out:List UInt8):Nz (bodyStep row lit far p out):=
 nz_then (nz_sym _ _ _) fun k=>nz_ite (nz_then (nz_push _ _) fun o=>nz_ok) (nz_ite nz_ok (nz_ite (nz_bad (by decide)) (nz_then (nz_get _ _ _) fun x=>nz_then (nz_sym _ _ _) fun f=>
  nz_ite (nz_bad (by decide)) (nz_then (nz_get _ _ _) fun y=>nz_ite (nz_bad (by decide)) (nz_then (nz_copy _ _ _) fun o=>nz_ok)))))
theorem nz_body (row:List Bool) (lit far:List Nat):∀ (f p:Nat) (out:List UInt8),Nz (bodyR row lit far f p out)
 | 0,_,_=>nz_bad (by decide)
 | f+1,p,out=>nz_then (nz_bodyStep _ _ _ _ _) fun x=>nz_ite nz_ok (nz_body row lit far f _ _)
theorem nz_stored (row:List Bool) (p:Nat) (out:List UInt8):Nz (storedR row p out):=
 nz_then (nz_get _ _ _) fun x=>nz_then (nz_get _ _ _) fun y=>nz_ite (nz_bad (by decide)) (nz_raw _ _ _ _)
theorem nz_block (row:List Bool) (p:Nat) (out:List UInt8):Nz (blockR row p out):=
 nz_then (nz_get _ _ _) fun l=>nz_then (nz_get _ _ _) fun k=>nz_ite (nz_then (nz_stored _ _ _) fun x=>nz_ok) (nz_ite (nz_then (nz_body _ _ _ _ _ _) fun x=>nz_ok)
  (nz_ite (nz_then (nz_head _ _) fun h=>nz_then (nz_body _ _ _ _ _ _) fun x=>nz_ok) (nz_bad (by decide))))
theorem nz_blocks (row:List Bool):∀ (f p:Nat) (out:List UInt8) (ks:List Nat),Nz (blocksR row f p out ks)
 | 0,_,_,_=>nz_bad (by decide)
 | f+1,p,out,ks=>nz_then (nz_block _ _ _) fun x=>nz_ite nz_ok (nz_blocks row f _ _ _)
theorem nz_unpack (b:List UInt8):Nz (unpackR b):=nz_ite (nz_bad (by decide)) (nz_then (nz_blocks _ _ _ _ _) fun x=>nz_ok)
end Go.Proofs.YtabdianhoabhhaaGreatDoor.Inf
namespace Go.Proofs.YtabdianhoabhhaaGreatDoor.Zip
open Go Go.RowKit Go.Proofs.YtabdianhoabhhaaGreatDoor Go.Proofs.YtabdianhoabhhaaGreatDoor.Bits Go.Proofs.YtabdianhoabhhaaGreatDoor.Merge Go.Proofs.YtabdianhoabhhaaGreatDoor.Name
open Go.Proofs.YtabdianhoabhhaaGreatDoor.Inf (unpackR)
set_option linter.unusedVariables false
set_option linter.unusedSimpArgs false
def tR8 (me crc sz:Nat) (nm:List UInt8) (st nd go:Nat) (pd:List UInt8) (q:Nat):Option (Ent×Nat):=(bytesR me pd).bind fun bs=>if bs.length=sz then some (⟨⟨nm,bs,(st:Int),(nd:Int),go == 1⟩,me,pd,crc⟩,q) else none
def tR7 (b:List UInt8) (me crc pk sz:Nat) (nm:List UInt8) (st nd go p:Nat):=(takeN b p pk).bind fun y=>tR8 me crc sz nm st nd go y.1 y.2
def tR6 (b:List UInt8) (me crc pk sz:Nat) (nm xs:List UInt8) (p st nd px:Nat):=(numN xs px 1).bind fun y=>tR7 b me crc pk sz nm st nd y.1 p
def tR5 (b:List UInt8) (me crc pk sz:Nat) (nm xs:List UInt8) (p st px:Nat):=(numN xs px 2).bind fun y=>tR6 b me crc pk sz nm xs p st y.1 y.2
def tR4 (b:List UInt8) (me crc pk sz:Nat) (nm xs:List UInt8) (p px:Nat):=(numN xs px 4).bind fun y=>tR5 b me crc pk sz nm xs p y.1 y.2
def tR3 (b:List UInt8) (me crc pk sz:Nat) (nm xs:List UInt8) (p:Nat):=(takeN xs 0 4).bind fun y=>tR4 b me crc pk sz nm xs p y.2
def tR2 (b:List UInt8) (me crc pk sz ex:Nat) (nm:List UInt8) (p:Nat):=(takeN b p ex).bind fun y=>tR3 b me crc pk sz nm y.1 y.2
def tR1 (b:List UInt8) (me crc pk sz lo ex p:Nat):=(takeN b p lo).bind fun y=>tR2 b me crc pk sz ex y.1 y.2
def eR7 (b:List UInt8) (me crc pk sz lo p:Nat):=(numN b p 2).bind fun y=>tR1 b me crc pk sz lo y.1 y.2
def eR6 (b:List UInt8) (me crc pk sz p:Nat):=(numN b p 2).bind fun y=>eR7 b me crc pk sz y.1 y.2
def eR5 (b:List UInt8) (me crc pk p:Nat):=(numN b p 4).bind fun y=>eR6 b me crc pk y.1 y.2
def eR4 (b:List UInt8) (me crc p:Nat):=(numN b p 4).bind fun y=>eR5 b me crc y.1 y.2
def eR3 (b:List UInt8) (me p:Nat):=(numN b p 4).bind fun y=>eR4 b me y.1 y.2
def eR2 (b:List UInt8) (me p:Nat):=(takeN b p 4).bind fun y=>eR3 b me y.2
def eR1 (b:List UInt8) (p:Nat):=(numN b p 2).bind fun y=>eR2 b y.1 y.2
def eR0 (b:List UInt8) (p:Nat):=(takeN b p 8).bind fun y=>eR1 b y.2
theorem tail_eq (b:List UInt8) (me crc pk sz lo ex p:Nat):tailR b me crc pk sz lo ex p=tR1 b me crc pk sz lo ex p:=by
 unfold tailR tR1 tR2 tR3 tR4 tR5 tR6 tR7 tR8 extraR
 simp only[Option.bind_assoc,Option.bind_some]
theorem ent_eq (b:List UInt8) (p:Nat):entR b p=eR0 b p:=by
 unfold entR eR0 eR1 eR2 eR3 eR4 eR5 eR6 eR7
 simp only[tail_eq]
theorem keeps_fresh {base:Nat} {T:List TypeId} {w w':World} (h:Keeps base T w w') {p:Addr} (hp:w.heap.size≤p.block) (hb:base≤p.block) (u:Value):Keeps base T w (w'.setCell p u):=by
 have hk:∀ k,k≠p.block→(w'.setCell p u).heap[k]?=w'.heap[k]?:=fun k hk=>Below.heap_setCell w' p u k hk
 refine⟨h.os,h.tape,h.output,by rw[World.size_setCell];exact h.size,fun k hkb=>(hk k (by omega)).trans (h.block k hkb),fun k o ho ht=>?_⟩
 have hlt:k < w.heap.size:=by
  rcases Nat.lt_or_ge k w.heap.size with h1 | h1
  ·exact h1
  ·rw[Array.getElem?_eq_none h1]at ho;cases ho
 rw[hk k (by omega)]
 exact h.other k o ho ht
theorem far_nine {w:World} {q g:Nat} {t:TypeId} {cs:Array Value} (h:Blk w q t cs) (hq:q≠g) (b0 b1 b2 b3 b4 b5 b6 b7 b8:Value):Blk (((((((((w.setCell ⟨g,0,none⟩ b0).setCell ⟨g,1,none⟩ b1).setCell ⟨g,2,none⟩ b2).setCell ⟨g,3,none⟩ b3).setCell ⟨g,4,none⟩ b4).setCell ⟨g,5,none⟩ b5).setCell ⟨g,6,none⟩ b6).setCell ⟨g,7,none⟩ b7).setCell ⟨g,8,none⟩ b8) q t cs:=(((((((((h.far (p:=⟨g,0,none⟩) hq b0).far (p:=⟨g,1,none⟩) hq b1).far (p:=⟨g,2,none⟩) hq b2).far (p:=⟨g,3,none⟩) hq b3).far (p:=⟨g,4,none⟩) hq b4).far (p:=⟨g,5,none⟩) hq b5).far (p:=⟨g,6,none⟩) hq b6).far (p:=⟨g,7,none⟩) hq b7).far (p:=⟨g,8,none⟩) hq b8)
theorem keeps_nine {w0 w:World} {base g:Nat} {T:List TypeId} (h:Keeps base T w0 w) (hg:w0.heap.size≤g) (hb:base≤g) (b0 b1 b2 b3 b4 b5 b6 b7 b8:Value):Keeps base T w0 (((((((((w.setCell ⟨g,0,none⟩ b0).setCell ⟨g,1,none⟩ b1).setCell ⟨g,2,none⟩ b2).setCell ⟨g,3,none⟩ b3).setCell ⟨g,4,none⟩ b4).setCell ⟨g,5,none⟩ b5).setCell ⟨g,6,none⟩ b6).setCell ⟨g,7,none⟩ b7).setCell ⟨g,8,none⟩ b8):=(keeps_fresh (keeps_fresh (keeps_fresh (keeps_fresh (keeps_fresh (keeps_fresh (keeps_fresh (keeps_fresh (keeps_fresh h (p:=⟨g,0,none⟩) hg hb b0) (p:=⟨g,1,none⟩) hg hb b1) (p:=⟨g,2,none⟩) hg hb b2) (p:=⟨g,3,none⟩) hg hb b3) (p:=⟨g,4,none⟩) hg hb b4) (p:=⟨g,5,none⟩) hg hb b5) (p:=⟨g,6,none⟩) hg hb b6) (p:=⟨g,7,none⟩) hg hb b7) (p:=⟨g,8,none⟩) hg hb b8)
def zerosE:Array Value:=#[.string ⟨#[]⟩,.slice none 0 0,.int .i64 0,.int .i64 0,.bool false,.int .i64 0,.slice none 0 0,.int .u32 0,.int .i64 0]
structure EntSt (w0 w:World) (q g:Nat) (A:Option Addr) (n c p:Nat) (b:List UInt8) (cs:Array Value):Prop where
 rdr:RdrAt w q A n c p
 low:LowAt w q A b
 cur:Blk w (g+1) 78 cs
 res:Blk w g 78 zerosE
 keep:Keeps q rdrT w0 w
 qg:q < g
 gs:w0.heap.size≤g
section
variable {w0 w w':World} {q g n c p p':Nat} {A:Option Addr} {b:List UInt8} {cs:Array Value}
theorem EntSt.call (h:EntSt w0 w q g A n c p b cs) (hk:Keeps q rdrT w w') (hr:RdrAt w' q A n c p'):EntSt w0 w' q g A n c p' b cs:=
 ⟨hr,h.low.keeps hk,hk.blk h.cur (by decide),hk.blk h.res (by decide),h.keep.trans hk,h.qg,h.gs⟩
theorem EntSt.store (h:EntSt w0 w q g A n c p b cs) (i:Nat) (u:Value) {cs':Array Value} (hc:cs.setIfInBounds i u=cs'):EntSt w0 (w.setCell ⟨g+1,i,none⟩ u) q g A n c p b cs':=by
 have h1:=h.qg
 have h2:=h.gs
 have hk:Keeps (g+1) rdrT w (w.setCell ⟨g+1,i,none⟩ u)∨True:=.inr trivial
 refine⟨h.rdr.far (p:=⟨g+1,i,none⟩) (by show q≠g+1;omega) u,?_,hc▸h.cur.set_ i u,h.res.far (p:=⟨g+1,i,none⟩) (by show g≠g+1;omega) u,keeps_fresh h.keep (p:=⟨g+1,i,none⟩) (by show w0.heap.size≤g+1;omega) (by show q≤g+1;omega) u,h1,h2⟩
 refine⟨fun hp=>?_,h.low.low⟩
 obtain⟨a,o,e,hx⟩:=h.low.at_ hp
 refine⟨a,o,e,fun j v hj=>?_⟩
 have:=h.low.low a o e (by simpa using hp)
 rw[World.cell?_of_block (Below.heap_setCell w ⟨g+1,i,none⟩ u a (by show a≠g+1;omega))]
 exact hx j v hj
theorem EntSt.below (h:EntSt w0 w q g A n c p b cs) (hb:Below w.heap.size w w'):EntSt w0 w' q g A n c p b cs:=
 ⟨Blk.below h.rdr hb (Blk.lt h.rdr),⟨ByAt.below h.low.at_ hb,h.low.low⟩,h.cur.below hb h.cur.lt,h.res.below hb h.res.lt,h.keep.trans (Keeps.of_below hb (Nat.le_of_lt (Blk.lt h.rdr))),h.qg,h.gs⟩
theorem EntSt.side (h:EntSt w0 w q g A n c p b cs) {qx:Nat} (hx:g+1 < qx) (hk:Keeps qx rdrT w w'):EntSt w0 w' q g A n c p b cs:=by
 have h1:=h.qg
 refine⟨(hk.block q (by omega)).trans h.rdr,h.low.keeps (q:=q) (T:=rdrT) (hk.mono (by omega) fun _ h=>h),hk.blk h.cur (by decide),hk.blk h.res (by decide),h.keep.trans (hk.mono (by omega) fun _ h=>h),h.qg,h.gs⟩
theorem EntSt.fits (h:EntSt w0 w q g A n c p b cs):g+1 < w.heap.size:=h.cur.lt
end
structure ReadE (w':World) (B:Nat) (A:Option Addr) (b:List UInt8) (x:Ex) (e:Ent):Prop where
 is:x.e=e
 at0:x.at_=0
 own:OwnB w' B (slv x.bs) e.f.bytes
 len:x.pk.2.1=e.packed.length
 room:e.packed.length≤x.pk.2.2
 cap:x.pk.2.2≤maxLen
 within:Within A b x.pk.1 e.packed
def EntOk (B q:Nat) (A:Option Addr) (n c:Nat) (b:List UInt8) (y:Ent×Nat) (e:Ending) (w':World):Prop:=
 y.2≤n∧(∃ x:Ex,e=.returned (eV x)∧ReadE w' B A b x y.1)∧RdrAt w' q A n c y.2
set_option maxRecDepth 100000 in
set_option maxHeartbeats 4000000 in
theorem entry_any (q:Nat) (A:Option Addr) (n c p0:Nat) (b:List UInt8) (w:World) (h:RdrAt w q A n c p0) (hn:b.length=n) (hnc:n≤c) (hcm:c≤maxLen) (hp0:p0≤n) (hn0:0 < n) (hA:LowAt w q A b) :
  Calls Tryz.prog 67 #[.pointer (some ⟨q,0,none⟩)] w fun e w'=>OPost (entR b p0) (EntOk w.heap.size q A n c b) e w'∧Keeps q rdrT w w':=by
 obtain⟨R,hR⟩:∃ R,R=entR b p0:=⟨_,rfl⟩
 rw[←hR]
 have HE0:=Lib.hid (show R=eR0 b p0 by rw[hR,ent_eq])
 have Hn:=Lib.hid hn
 have H:=Lib.hid h
 have HA:=Lib.hid hA
 obtain⟨g,hg⟩:∃ g,g=w.heap.size:=⟨_,rfl⟩
 have Hg:=Lib.hid hg
 have hqg:q < g:=by rw[hg];exact Blk.lt h
 clear hR h hA hn
 go_enter Tryz.func67,Tryz.ntmps67
 go_upto_region 2 with fail
 have HS0:Hid (EntSt w ((w.alloc (.cells #[.string ⟨#[]⟩,.slice none 0 0,.int .i64 0,.int .i64 0,.bool false,.int .i64 0,.slice none 0 0,.int .u32 0,.int .i64 0] 78)).alloc (.cells #[.string ⟨#[]⟩,.slice none 0 0,.int .i64 0,.int .i64 0,.bool false,.int .i64 0,.slice none 0 0,.int .u32 0,.int .i64 0] 78)) q g A n c p0 b #[.string ⟨#[]⟩,.slice none 0 0,.int .i64 0,.int .i64 0,.bool false,.int .i64 0,.slice none 0 0,.int .u32 0,.int .i64 0]):=Lib.hid (by
  rw[hg]
  have hbel:Below w.heap.size w ((w.alloc (.cells #[.string ⟨#[]⟩,.slice none 0 0,.int .i64 0,.int .i64 0,.bool false,.int .i64 0,.slice none 0 0,.int .u32 0,.int .i64 0] 78)).alloc (.cells #[.string ⟨#[]⟩,.slice none 0 0,.int .i64 0,.int .i64 0,.bool false,.int .i64 0,.slice none 0 0,.int .u32 0,.int .i64 0] 78)):=((Below.refl _ _).alloc (Nat.le_refl _) _).alloc (by simp only[World.size_alloc];omega) _
  exact⟨Blk.below H.out hbel (Blk.lt H.out),⟨ByAt.below HA.out.at_ hbel,HA.out.low⟩,by have:=Blk.new (w.alloc (.cells #[.string ⟨#[]⟩,.slice none 0 0,.int .i64 0,.int .i64 0,.bool false,.int .i64 0,.slice none 0 0,.int .u32 0,.int .i64 0] 78)) 78 #[.string ⟨#[]⟩,.slice none 0 0,.int .i64 0,.int .i64 0,.bool false,.int .i64 0,.slice none 0 0,.int .u32 0,.int .i64 0];rwa [World.size_alloc]at this,(Blk.new w 78 #[.string ⟨#[]⟩,.slice none 0 0,.int .i64 0,.int .i64 0,.bool false,.int .i64 0,.slice none 0 0,.int .u32 0,.int .i64 0]).alloc _,Keeps.of_below hbel (Nat.le_of_lt (Blk.lt H.out)),Blk.lt H.out,Nat.le_refl _⟩)
 rw[←hg]
 generalize (w.alloc (.cells #[.string ⟨#[]⟩,.slice none 0 0,.int .i64 0,.int .i64 0,.bool false,.int .i64 0,.slice none 0 0,.int .u32 0,.int .i64 0] 78)).alloc (.cells #[.string ⟨#[]⟩,.slice none 0 0,.int .i64 0,.int .i64 0,.bool false,.int .i64 0,.slice none 0 0,.int .u32 0,.int .i64 0] 78)=w1 at *
 clear hg H HA
 have HT:=Lib.hid (rdr_take q A n c p0 8 b w1 HS0.out.rdr Hn.out hnc hcm hp0 (by omega) HS0.out.low.at_ (.inl hn0))
 have HE:=Lib.hid (show R=(takeN b p0 8).bind fun y=>eR1 b y.2 from HE0.out)
 generalize takeN b p0 8=r at HT HE
 go_wp2_with fail
 refine (HT.out).mono ?_
 rintro e w2 ⟨hr,hk⟩
 have HK:=Lib.hid (HS0.out.keep.trans hk)
 rcases r with _ | ⟨x8,p1⟩
 ·obtain rfl:e=stopZ:=hr
  unfold stopZ
  exact⟨rfl,by rw[show R=none from HE.out];rfl,HK.out⟩
 obtain⟨hp1,hl0,⟨A0,rfl,hc0,hw0⟩,hrd⟩:=hr
 have HL0:=Lib.hid (show x8.length=8 from hl0)
 have HW0:=Lib.hid hw0
 clear hl0 hw0
 dsimp only at hp1 hrd
 have HS1:=Lib.hid (HS0.out.call hk hrd)
 have HE1:=Lib.hid (show R=eR1 b p1 from HE.out)
 clear HT HE HK hk hrd HS0 HE0
 have HT:=Lib.hid (rdr_num q A n c p1 2 b w2 HS1.out.rdr Hn.out hnc hcm hp1 (by omega) (by omega) HS1.out.low)
 have HE:=Lib.hid (show R=(numN b p1 2).bind fun y=>eR2 b y.1 y.2 from HE1.out)
 generalize numN b p1 2=r at HT HE
 go_wp2_with fail
 refine (HT.out).mono ?_
 rintro e w3 ⟨hr,hk⟩
 have HK:=Lib.hid (HS1.out.keep.trans hk)
 rcases r with _ | ⟨me,p2⟩
 ·obtain rfl:e=stopZ:=hr
  unfold stopZ
  exact⟨rfl,by rw[show R=none from HE.out];rfl,HK.out⟩
 obtain⟨hp2,hme,rfl,hrd⟩:=hr
 dsimp only at hp2 hme hrd
 have HS2:=Lib.hid (HS1.out.call hk hrd)
 have HE2:=Lib.hid (show R=eR2 b me p2 from HE.out)
 clear HT HE HK hk hrd HS1 HE1
 have ec:w3.cell? ⟨g+1,5,none⟩=some (.int .i64 0):=HS2.out.cur.cell 5
 have zc:=HS2.out.cur.frozen 5
 have HSx:=Lib.hid (HS2.out.store 5 (.int .i64 (me:Int)) (cs':=#[.string ⟨#[]⟩,.slice none 0 0,.int .i64 0,.int .i64 0,.bool false,.int .i64 (me:Int),.slice none 0 0,.int .u32 0,.int .i64 0]) rfl)
 go_upto_region 4 with fail
 clear ec zc HS2
 generalize w3.setCell ⟨g+1,5,none⟩ (.int .i64 (me:Int))=w4 at *
 have HS2:=HSx
 clear HSx
 have HT:=Lib.hid (rdr_take q A n c p2 4 b w4 HS2.out.rdr Hn.out hnc hcm hp2 (by omega) HS2.out.low.at_ (.inl hn0))
 have HE:=Lib.hid (show R=(takeN b p2 4).bind fun y=>eR3 b me y.2 from HE2.out)
 generalize takeN b p2 4=r at HT HE
 go_wp2_with fail
 refine (HT.out).mono ?_
 rintro e w5 ⟨hr,hk⟩
 have HK:=Lib.hid (HS2.out.keep.trans hk)
 rcases r with _ | ⟨x4,p3⟩
 ·obtain rfl:e=stopZ:=hr
  unfold stopZ
  exact⟨rfl,by rw[show R=none from HE.out];rfl,HK.out⟩
 obtain⟨hp3,hl2,⟨A2,rfl,hc2,hw2⟩,hrd⟩:=hr
 have HL2:=Lib.hid (show x4.length=4 from hl2)
 have HW2:=Lib.hid hw2
 clear hl2 hw2
 dsimp only at hp3 hrd
 have HS3:=Lib.hid (HS2.out.call hk hrd)
 have HE3:=Lib.hid (show R=eR3 b me p3 from HE.out)
 clear HT HE HK hk hrd HS2 HE2
 have HT:=Lib.hid (rdr_num q A n c p3 4 b w5 HS3.out.rdr Hn.out hnc hcm hp3 (by omega) (by omega) HS3.out.low)
 have HE:=Lib.hid (show R=(numN b p3 4).bind fun y=>eR4 b me y.1 y.2 from HE3.out)
 generalize numN b p3 4=r at HT HE
 go_wp2_with fail
 refine (HT.out).mono ?_
 rintro e w6 ⟨hr,hk⟩
 have HK:=Lib.hid (HS3.out.keep.trans hk)
 rcases r with _ | ⟨crc,p4⟩
 ·obtain rfl:e=stopZ:=hr
  unfold stopZ
  exact⟨rfl,by rw[show R=none from HE.out];rfl,HK.out⟩
 obtain⟨hp4,hcrc,rfl,hrd⟩:=hr
 dsimp only at hp4 hcrc hrd
 have HS4:=Lib.hid (HS3.out.call hk hrd)
 have HE4:=Lib.hid (show R=eR4 b me crc p4 from HE.out)
 clear HT HE HK hk hrd HS3 HE3
 have ec:w6.cell? ⟨g+1,7,none⟩=some (.int .u32 0):=HS4.out.cur.cell 7
 have zc:=HS4.out.cur.frozen 7
 have hwu:IntKind.u32.wrap (crc:Int)=(crc:Int):=by rw[IntKind.wrap_u32'];omega
 have hwu2:(crc:Int) % 4294967296=(crc:Int):=by omega
 have HSx:=Lib.hid (HS4.out.store 7 (.int .u32 (crc:Int)) (cs':=#[.string ⟨#[]⟩,.slice none 0 0,.int .i64 0,.int .i64 0,.bool false,.int .i64 (me:Int),.slice none 0 0,.int .u32 (crc:Int),.int .i64 0]) rfl)
 go_upto_region 6 with fail
 clear ec zc HS4
 generalize w6.setCell ⟨g+1,7,none⟩ (.int .u32 (crc:Int))=w7 at *
 have HS4:=HSx
 clear HSx
 have HT:=Lib.hid (rdr_num q A n c p4 4 b w7 HS4.out.rdr Hn.out hnc hcm hp4 (by omega) (by omega) HS4.out.low)
 have HE:=Lib.hid (show R=(numN b p4 4).bind fun y=>eR5 b me crc y.1 y.2 from HE4.out)
 generalize numN b p4 4=r at HT HE
 go_wp2_with fail
 refine (HT.out).mono ?_
 rintro e w8 ⟨hr,hk⟩
 have HK:=Lib.hid (HS4.out.keep.trans hk)
 rcases r with _ | ⟨pk,p5⟩
 ·obtain rfl:e=stopZ:=hr
  unfold stopZ
  exact⟨rfl,by rw[show R=none from HE.out];rfl,HK.out⟩
 obtain⟨hp5,hpk,rfl,hrd⟩:=hr
 dsimp only at hp5 hpk hrd
 have HS5:=Lib.hid (HS4.out.call hk hrd)
 have HE5:=Lib.hid (show R=eR5 b me crc pk p5 from HE.out)
 clear HT HE HK hk hrd HS4 HE4
 have HT:=Lib.hid (rdr_num q A n c p5 4 b w8 HS5.out.rdr Hn.out hnc hcm hp5 (by omega) (by omega) HS5.out.low)
 have HE:=Lib.hid (show R=(numN b p5 4).bind fun y=>eR6 b me crc pk y.1 y.2 from HE5.out)
 generalize numN b p5 4=r at HT HE
 go_wp2_with fail
 refine (HT.out).mono ?_
 rintro e w9 ⟨hr,hk⟩
 have HK:=Lib.hid (HS5.out.keep.trans hk)
 rcases r with _ | ⟨sz,p6⟩
 ·obtain rfl:e=stopZ:=hr
  unfold stopZ
  exact⟨rfl,by rw[show R=none from HE.out];rfl,HK.out⟩
 obtain⟨hp6,hsz,rfl,hrd⟩:=hr
 dsimp only at hp6 hsz hrd
 have HS6:=Lib.hid (HS5.out.call hk hrd)
 have HE6:=Lib.hid (show R=eR6 b me crc pk sz p6 from HE.out)
 clear HT HE HK hk hrd HS5 HE5
 have HT:=Lib.hid (rdr_num q A n c p6 2 b w9 HS6.out.rdr Hn.out hnc hcm hp6 (by omega) (by omega) HS6.out.low)
 have HE:=Lib.hid (show R=(numN b p6 2).bind fun y=>eR7 b me crc pk sz y.1 y.2 from HE6.out)
 generalize numN b p6 2=r at HT HE
 go_wp2_with fail
 refine (HT.out).mono ?_
 rintro e w10 ⟨hr,hk⟩
 have HK:=Lib.hid (HS6.out.keep.trans hk)
 rcases r with _ | ⟨lo,p7⟩
 ·obtain rfl:e=stopZ:=hr
  unfold stopZ
  exact⟨rfl,by rw[show R=none from HE.out];rfl,HK.out⟩
 obtain⟨hp7,hlo,rfl,hrd⟩:=hr
 dsimp only at hp7 hlo hrd
 have HS7:=Lib.hid (HS6.out.call hk hrd)
 have HE7:=Lib.hid (show R=eR7 b me crc pk sz lo p7 from HE.out)
 clear HT HE HK hk hrd HS6 HE6
 have HT:=Lib.hid (rdr_num q A n c p7 2 b w10 HS7.out.rdr Hn.out hnc hcm hp7 (by omega) (by omega) HS7.out.low)
 have HE:=Lib.hid (show R=(numN b p7 2).bind fun y=>tR1 b me crc pk sz lo y.1 y.2 from HE7.out)
 generalize numN b p7 2=r at HT HE
 go_wp2_with fail
 refine (HT.out).mono ?_
 rintro e w11 ⟨hr,hk⟩
 have HK:=Lib.hid (HS7.out.keep.trans hk)
 rcases r with _ | ⟨ex,p8⟩
 ·obtain rfl:e=stopZ:=hr
  unfold stopZ
  exact⟨rfl,by rw[show R=none from HE.out];rfl,HK.out⟩
 obtain⟨hp8,hex,rfl,hrd⟩:=hr
 dsimp only at hp8 hex hrd
 have HS8:=Lib.hid (HS7.out.call hk hrd)
 have HE8:=Lib.hid (show R=tR1 b me crc pk sz lo ex p8 from HE.out)
 clear HT HE HK hk hrd HS7 HE7
 have HT:=Lib.hid (rdr_take q A n c p8 lo b w11 HS8.out.rdr Hn.out hnc hcm hp8 (by omega) HS8.out.low.at_ (.inl hn0))
 have HE:=Lib.hid (show R=(takeN b p8 lo).bind fun y=>tR2 b me crc pk sz ex y.1 y.2 from HE8.out)
 generalize takeN b p8 lo=r at HT HE
 go_wp2_with fail
 refine (HT.out).mono ?_
 rintro e w12 ⟨hr,hk⟩
 have HK:=Lib.hid (HS8.out.keep.trans hk)
 rcases r with _ | ⟨nm,p9⟩
 ·obtain rfl:e=stopZ:=hr
  unfold stopZ
  exact⟨rfl,by rw[show R=none from HE.out];rfl,HK.out⟩
 obtain⟨hp9,hl8,⟨A8,rfl,hc8,hw8⟩,hrd⟩:=hr
 have HL8:=Lib.hid (show nm.length=lo from hl8)
 have HW8:=Lib.hid hw8
 clear hl8 hw8
 dsimp only at hp9 hrd
 have HS9:=Lib.hid (HS8.out.call hk hrd)
 have HE9:=Lib.hid (show R=tR2 b me crc pk sz ex nm p9 from HE.out)
 clear HT HE HK hk hrd HS8 HE8
 have ec:w12.cell? ⟨g+1,0,none⟩=some (.string ⟨#[]⟩):=HS9.out.cur.cell 0
 have zc:=HS9.out.cur.frozen 0
 have hcv:(convert 23 9 (.slice A8 lo (c - p8))).run Tryz.prog w12=.ok (.string (Name.strB nm)) w12:=conv_bytes A8 lo (c - p8) nm w12 HL8.out (HW8.out.at_ _ HS9.out.low.at_)
 have HSx:=Lib.hid (HS9.out.store 0 (.string (Name.strB nm)) (cs':=#[.string (Name.strB nm),.slice none 0 0,.int .i64 0,.int .i64 0,.bool false,.int .i64 (me:Int),.slice none 0 0,.int .u32 (crc:Int),.int .i64 0]) rfl)
 go_upto_region 9 with fail
 clear ec zc HS9
 generalize w12.setCell ⟨g+1,0,none⟩ (.string (Name.strB nm))=w13 at *
 have HS9:=HSx
 clear HSx
 have HT:=Lib.hid (rdr_take q A n c p9 ex b w13 HS9.out.rdr Hn.out hnc hcm hp9 (by omega) HS9.out.low.at_ (.inl hn0))
 have HE:=Lib.hid (show R=(takeN b p9 ex).bind fun y=>tR3 b me crc pk sz nm y.1 y.2 from HE9.out)
 generalize takeN b p9 ex=r at HT HE
 go_wp2_with fail
 refine (HT.out).mono ?_
 rintro e w14 ⟨hr,hk⟩
 have HK:=Lib.hid (HS9.out.keep.trans hk)
 rcases r with _ | ⟨xs,p10⟩
 ·obtain rfl:e=stopZ:=hr
  unfold stopZ
  exact⟨rfl,by rw[show R=none from HE.out];rfl,HK.out⟩
 obtain⟨hp10,hl9,⟨A9,rfl,hc9,hw9⟩,hrd⟩:=hr
 have HL9:=Lib.hid (show xs.length=ex from hl9)
 have HW9:=Lib.hid hw9
 clear hl9 hw9
 dsimp only at hp10 hrd
 have HS10:=Lib.hid (HS9.out.call hk hrd)
 have HE10:=Lib.hid (show R=tR3 b me crc pk sz nm xs p10 from HE.out)
 clear HT HE HK hk hrd HS9 HE9
 have hbx:Below w14.heap.size w14 (w14.alloc (.cells #[.slice A9 ex (c - p9),.int .i64 0] 112)):=(Below.refl _ _).alloc (Nat.le_refl _) _
 have HSx:=Lib.hid (HS10.out.below hbx)
 have RX0:Hid (RdrAt (w14.alloc (.cells #[.slice A9 ex (c - p9),.int .i64 0] 112)) w14.heap.size A9 ex (c - p9) 0):=Lib.hid (Blk.new w14 _ _)
 have hgx:g+1 < w14.heap.size:=HS10.out.fits
 obtain⟨qx,hqx⟩:∃ qx,qx=w14.heap.size:=⟨_,rfl⟩
 rw[←hqx]at RX0 hgx
 have Hqx:=Lib.hid hqx
 clear hbx hqx
 go_upto_region 10 with fail
 rw[←Hqx.out]
 generalize w14.alloc (.cells #[.slice A9 ex (c - p9),.int .i64 0] 112)=w15 at *
 clear HS10
 have HS10:=HSx
 clear HSx
 have hcx:(c - p9)≤maxLen:=by omega
 have HT:=Lib.hid (rdr_take qx A9 ex (c - p9) 0 4 xs w15 RX0.out HL9.out hc9 hcx (Nat.zero_le _) (by omega) (HW9.out.at_ _ HS10.out.low.at_) (.inr (by omega)))
 have HE:=Lib.hid (show R=(takeN xs 0 4).bind fun y=>tR4 b me crc pk sz nm xs p10 y.2 from HE10.out)
 generalize takeN xs 0 4=r at HT HE
 go_wp2_with fail
 refine (HT.out).mono ?_
 rintro e w16 ⟨hr,hk⟩
 have HS11:=Lib.hid (HS10.out.side hgx hk)
 rcases r with _ | ⟨x0,y1⟩
 ·obtain rfl:e=stopZ:=hr
  unfold stopZ
  exact⟨rfl,by rw[show R=none from HE.out];rfl,HS11.out.keep⟩
 obtain⟨hy1,_,⟨_,rfl,_,_⟩,hrd⟩:=hr
 dsimp only at hy1 hrd
 have RX1:=Lib.hid hrd
 have HE11:=Lib.hid (show R=tR4 b me crc pk sz nm xs p10 y1 from HE.out)
 clear HT HE hk hrd HS10 HE10 RX0
 have HT:=Lib.hid (rdr_num qx A9 ex (c - p9) y1 4 xs w16 RX1.out HL9.out hc9 hcx hy1 (by omega) (by omega) (HS11.out.low.within HW9.out (by omega)))
 have HE:=Lib.hid (show R=(numN xs y1 4).bind fun y=>tR5 b me crc pk sz nm xs p10 y.1 y.2 from HE11.out)
 generalize numN xs y1 4=r at HT HE
 go_wp2_with fail
 refine (HT.out).mono ?_
 rintro e w17 ⟨hr,hk⟩
 have HS12:=Lib.hid (HS11.out.side hgx hk)
 rcases r with _ | ⟨st,y2⟩
 ·obtain rfl:e=stopZ:=hr
  unfold stopZ
  exact⟨rfl,by rw[show R=none from HE.out];rfl,HS12.out.keep⟩
 obtain⟨hy2,hst,rfl,hrd⟩:=hr
 dsimp only at hy2 hst hrd
 have RX2:=Lib.hid hrd
 have HE12:=Lib.hid (show R=tR5 b me crc pk sz nm xs p10 st y2 from HE.out)
 clear HT HE hk hrd HS11 HE11 RX1
 have HT:=Lib.hid (rdr_num qx A9 ex (c - p9) y2 2 xs w17 RX2.out HL9.out hc9 hcx hy2 (by omega) (by omega) (HS12.out.low.within HW9.out (by omega)))
 have HE:=Lib.hid (show R=(numN xs y2 2).bind fun y=>tR6 b me crc pk sz nm xs p10 st y.1 y.2 from HE12.out)
 generalize numN xs y2 2=r at HT HE
 go_wp2_with fail
 refine (HT.out).mono ?_
 rintro e w18 ⟨hr,hk⟩
 have HS13:=Lib.hid (HS12.out.side hgx hk)
 rcases r with _ | ⟨nd,y3⟩
 ·obtain rfl:e=stopZ:=hr
  unfold stopZ
  exact⟨rfl,by rw[show R=none from HE.out];rfl,HS13.out.keep⟩
 obtain⟨hy3,hnd,rfl,hrd⟩:=hr
 dsimp only at hy3 hnd hrd
 have RX3:=Lib.hid hrd
 have HE13:=Lib.hid (show R=tR6 b me crc pk sz nm xs p10 st nd y3 from HE.out)
 clear HT HE hk hrd HS12 HE12 RX2
 have HT:=Lib.hid (rdr_num qx A9 ex (c - p9) y3 1 xs w18 RX3.out HL9.out hc9 hcx hy3 (by omega) (by omega) (HS13.out.low.within HW9.out (by omega)))
 have HE:=Lib.hid (show R=(numN xs y3 1).bind fun y=>tR7 b me crc pk sz nm st nd y.1 p10 from HE13.out)
 generalize numN xs y3 1=r at HT HE
 go_wp2_with fail
 refine (HT.out).mono ?_
 rintro e w19 ⟨hr,hk⟩
 have HS14:=Lib.hid (HS13.out.side hgx hk)
 rcases r with _ | ⟨go,y4⟩
 ·obtain rfl:e=stopZ:=hr
  unfold stopZ
  exact⟨rfl,by rw[show R=none from HE.out];rfl,HS14.out.keep⟩
 obtain⟨hy4,hgo,rfl,hrd⟩:=hr
 dsimp only at hy4 hgo hrd
 have RX4:=Lib.hid hrd
 have HE14:=Lib.hid (show R=tR7 b me crc pk sz nm st nd go p10 from HE.out)
 clear HT HE hk hrd HS13 HE13 RX3
 have ec2:w19.cell? ⟨g+1,2,none⟩=some (.int .i64 0):=HS14.out.cur.cell 2
 have zc2:=HS14.out.cur.frozen 2
 have ec3:w19.cell? ⟨g+1,3,none⟩=some (.int .i64 0):=HS14.out.cur.cell 3
 have zc3:=HS14.out.cur.frozen 3
 have ec4:w19.cell? ⟨g+1,4,none⟩=some (.bool false):=HS14.out.cur.cell 4
 have zc4:=HS14.out.cur.frozen 4
 have HGo:Hid (((go:Int) == 1)=(go == 1)):=Lib.hid (by
  by_cases h:go=1
  ·subst h;rfl
  ·rw[show (go == 1)=false from by simp[h]];simp;omega)
 have HS14a:=Lib.hid (HS14.out.store 2 (.int .i64 (st:Int)) (cs':=#[.string (Name.strB nm),.slice none 0 0,.int .i64 (st:Int),.int .i64 0,.bool false,.int .i64 (me:Int),.slice none 0 0,.int .u32 (crc:Int),.int .i64 0]) rfl)
 have HS14b:=Lib.hid (HS14a.out.store 3 (.int .i64 (nd:Int)) (cs':=#[.string (Name.strB nm),.slice none 0 0,.int .i64 (st:Int),.int .i64 (nd:Int),.bool false,.int .i64 (me:Int),.slice none 0 0,.int .u32 (crc:Int),.int .i64 0]) rfl)
 have HSx:=Lib.hid (HS14b.out.store 4 (.bool ((go:Int) == 1)) (cs':=#[.string (Name.strB nm),.slice none 0 0,.int .i64 (st:Int),.int .i64 (nd:Int),.bool ((go:Int) == 1),.int .i64 (me:Int),.slice none 0 0,.int .u32 (crc:Int),.int .i64 0]) rfl)
 clear HS14a HS14b
 go_upto_region 12 with fail
 clear ec2 zc2 ec3 zc3 ec4 zc4 HS14
 generalize ((w19.setCell ⟨g+1,2,none⟩ (.int .i64 (st:Int))).setCell ⟨g+1,3,none⟩ (.int .i64 (nd:Int))).setCell ⟨g+1,4,none⟩ (.bool ((go:Int) == 1))=w20 at *
 have HS14:=HSx
 clear HSx
 rw[HGo.out]at HS14
 clear HGo RX4
 have HT:=Lib.hid (rdr_take q A n c p10 pk b w20 HS14.out.rdr Hn.out hnc hcm hp10 (by omega) HS14.out.low.at_ (.inl hn0))
 have HE:=Lib.hid (show R=(takeN b p10 pk).bind fun y=>tR8 me crc sz nm st nd go y.1 y.2 from HE14.out)
 generalize takeN b p10 pk=r at HT HE
 go_wp2_with fail
 refine (HT.out).mono ?_
 rintro e w21 ⟨hr,hk⟩
 have HK:=Lib.hid (HS14.out.keep.trans hk)
 rcases r with _ | ⟨pd,p15⟩
 ·obtain rfl:e=stopZ:=hr
  unfold stopZ
  exact⟨rfl,by rw[show R=none from HE.out];rfl,HK.out⟩
 obtain⟨hp15,hl14,⟨A14,rfl,hc14,hw14⟩,hrd⟩:=hr
 have HL14:=Lib.hid (show pd.length=pk from hl14)
 have HW14:=Lib.hid hw14
 clear hl14 hw14
 dsimp only at hp15 hrd
 have HS15:=Lib.hid (HS14.out.call hk hrd)
 have HE15:=Lib.hid (show R=tR8 me crc sz nm st nd go pd p15 from HE.out)
 clear HT HE HK hk hrd HS14 HE14
 have ec:w21.cell? ⟨g+1,6,none⟩=some (.slice none 0 0):=HS15.out.cur.cell 6
 have zc:=HS15.out.cur.frozen 6
 have HSx:=Lib.hid (HS15.out.store 6 (.slice A14 pk (c - p10)) (cs':=#[.string (Name.strB nm),.slice none 0 0,.int .i64 (st:Int),.int .i64 (nd:Int),.bool (go == 1),.int .i64 (me:Int),.slice A14 pk (c - p10),.int .u32 (crc:Int),.int .i64 0]) rfl)
 go_upto_region 13 with fail
 clear ec zc HS15
 generalize w21.setCell ⟨g+1,6,none⟩ (.slice A14 pk (c - p10))=w22 at *
 have HS15:=HSx
 clear HSx
 have ec5:w22.cell? ⟨g+1,5,none⟩=some (.int .i64 (me:Int)):=HS15.out.cur.cell 5
 have ec6:w22.cell? ⟨g+1,6,none⟩=some (.slice A14 pk (c - p10)):=HS15.out.cur.cell 6
 have ec1:w22.cell? ⟨g+1,1,none⟩=some (.slice none 0 0):=HS15.out.cur.cell 1
 have zc1:=HS15.out.cur.frozen 1
 have hpdl:pd.length=pk:=HL14.out
 have hpA:A14=none→pk=0:=fun h=>by
  rcases Nat.eq_zero_or_pos pk with h0 | h0
  ·exact h0
  ·obtain⟨_,_,_,_,e,_⟩:=HW14.out.blk (by rw[hpdl];exact h0)
   rw[h]at e;cases e
 have HpA:=Lib.hid hpA
 have hby:ByAt w22 A14 pd:=HW14.out.at_ _ HS15.out.low.at_
 have Hby:=Lib.hid hby
 have HE:=Lib.hid (show R=(bytesR me pd).bind fun bs=>if bs.length=sz then some (⟨⟨nm,bs,(st:Int),(nd:Int),go == 1⟩,me,pd,crc⟩,p15) else none from HE15.out)
 clear hpA hby HE15 hpdl
 by_cases hm0:me=0
 ·have hm1:((me:Int) == 0)=true:=by rw[hm0];rfl
  have hbr:bytesR me pd=some pd:=by unfold bytesR;rw[if_pos hm0]
  have HC:=Lib.hid (CloneB.clone_any A14 pk (c - p10) (pd.map u8v) w22 (by rw[List.length_map,HL14.out,Nat.mul_one]) Hby.out HpA.out (u8s_one pd) (by omega) (by omega))
  have HE2:Hid (R=if pd.length=sz then some (⟨⟨nm,pd,(st:Int),(nd:Int),go == 1⟩,me,pd,crc⟩,p15) else none):=Lib.hid (by rw[HE.out,hbr];rfl)
  have hbs:g+1 < w22.heap.size:=HS15.out.fits
  clear HE hbr hm0
  go_wp2_with fail
  refine (HC.out).mono ?_
  rintro e w23 ⟨vb,rfl,hob,hbb⟩
  have HSa:=Lib.hid (HS15.out.below hbb)
  obtain⟨Ab,cb,rfl,hb1,hb2,_,_⟩:=own_slat hob
  have hob1:OwnB w23 w22.heap.size (.slice Ab pk cb) pd:=by unfold OwnB;rw[HL14.out];exact hob
  have HOb:=Lib.hid (ownsRow_setCell_below hob1 (a:=⟨g+1,1,none⟩) hbs (.slice Ab pk cb))
  have ec1:w23.cell? ⟨g+1,1,none⟩=some (.slice none 0 0):=HSa.out.cur.cell 1
  have zc1:=HSa.out.cur.frozen 1
  have HSb:=Lib.hid (HSa.out.store 1 (.slice Ab pk cb) (cs':=#[.string (Name.strB nm),.slice Ab pk cb,.int .i64 (st:Int),.int .i64 (nd:Int),.bool (go == 1),.int .i64 (me:Int),.slice A14 pk (c - p10),.int .u32 (crc:Int),.int .i64 0]) rfl)
  clear hob hbb HC HS15
  go_upto_region 22 with fail
  clear ec1 zc1 HSa ec5 ec6 hob1
  generalize w23.setCell ⟨g+1,1,none⟩ (.slice Ab pk cb)=w24 at *
  generalize hbase:w22.heap.size=base at *
  have e0:w24.cell? ⟨g+1,0,none⟩=some (.string (Name.strB nm)):=HSb.out.cur.cell 0
  have e1:w24.cell? ⟨g+1,1,none⟩=some (.slice Ab pk cb):=HSb.out.cur.cell 1
  have e2:w24.cell? ⟨g+1,2,none⟩=some (.int .i64 (st:Int)):=HSb.out.cur.cell 2
  have e3:w24.cell? ⟨g+1,3,none⟩=some (.int .i64 (nd:Int)):=HSb.out.cur.cell 3
  have e4:w24.cell? ⟨g+1,4,none⟩=some (.bool (go == 1)):=HSb.out.cur.cell 4
  have e5:w24.cell? ⟨g+1,5,none⟩=some (.int .i64 (me:Int)):=HSb.out.cur.cell 5
  have e6:w24.cell? ⟨g+1,6,none⟩=some (.slice A14 pk (c - p10)):=HSb.out.cur.cell 6
  have e7:w24.cell? ⟨g+1,7,none⟩=some (.int .u32 (crc:Int)):=HSb.out.cur.cell 7
  have e8:w24.cell? ⟨g+1,8,none⟩=some (.int .i64 0):=HSb.out.cur.cell 8
  have q0:w24.cell? ⟨g,0,none⟩=some (.string ⟨#[]⟩):=HSb.out.res.cell 0
  have q1:w24.cell? ⟨g,1,none⟩=some (.slice none 0 0):=HSb.out.res.cell 1
  have q2:w24.cell? ⟨g,2,none⟩=some (.int .i64 0):=HSb.out.res.cell 2
  have q3:w24.cell? ⟨g,3,none⟩=some (.int .i64 0):=HSb.out.res.cell 3
  have q4:w24.cell? ⟨g,4,none⟩=some (.bool false):=HSb.out.res.cell 4
  have q5:w24.cell? ⟨g,5,none⟩=some (.int .i64 0):=HSb.out.res.cell 5
  have q6:w24.cell? ⟨g,6,none⟩=some (.slice none 0 0):=HSb.out.res.cell 6
  have q7:w24.cell? ⟨g,7,none⟩=some (.int .u32 0):=HSb.out.res.cell 7
  have q8:w24.cell? ⟨g,8,none⟩=some (.int .i64 0):=HSb.out.res.cell 8
  have z0:=HSb.out.res.frozen 0
  have z1:=HSb.out.res.frozen 1
  have z2:=HSb.out.res.frozen 2
  have z3:=HSb.out.res.frozen 3
  have z4:=HSb.out.res.frozen 4
  have z5:=HSb.out.res.frozen 5
  have z6:=HSb.out.res.frozen 6
  have z7:=HSb.out.res.frozen 7
  have z8:=HSb.out.res.frozen 8
  have HRx:=Lib.hid (blk_nine (show Blk w24 g 78 #[.string ⟨#[]⟩,.slice none 0 0,.int .i64 0,.int .i64 0,.bool false,.int .i64 0,.slice none 0 0,.int .u32 0,.int .i64 0] from HSb.out.res) (.string (Name.strB nm)) (.slice Ab pk cb) (.int .i64 (st:Int)) (.int .i64 (nd:Int)) (.bool (go == 1)) (.int .i64 (me:Int)) (.slice A14 pk (c - p10)) (.int .u32 (crc:Int)) (.int .i64 0))
  have HKx:=Lib.hid (keeps_nine HSb.out.keep HSb.out.gs (Nat.le_of_lt hqg) (.string (Name.strB nm)) (.slice Ab pk cb) (.int .i64 (st:Int)) (.int .i64 (nd:Int)) (.bool (go == 1)) (.int .i64 (me:Int)) (.slice A14 pk (c - p10)) (.int .u32 (crc:Int)) (.int .i64 0))
  have HDx:=Lib.hid (far_nine HSb.out.rdr (Nat.ne_of_lt hqg) (.string (Name.strB nm)) (.slice Ab pk cb) (.int .i64 (st:Int)) (.int .i64 (nd:Int)) (.bool (go == 1)) (.int .i64 (me:Int)) (.slice A14 pk (c - p10)) (.int .u32 (crc:Int)) (.int .i64 0))
  have HOx:=Lib.hid (own_nine HOb.out (show g < base by omega) (.string (Name.strB nm)) (.slice Ab pk cb) (.int .i64 (st:Int)) (.int .i64 (nd:Int)) (.bool (go == 1)) (.int .i64 (me:Int)) (.slice A14 pk (c - p10)) (.int .u32 (crc:Int)) (.int .i64 0))
  by_cases hq:pk=sz
  ·have hq':(((pk:Nat):Int) != ((sz:Nat):Int))=false:=by simp[hq]
   have Hq:=Lib.hid hq
   clear hq
   go_wp2_with fail
   refine bodyPost_ret (results_cell1 rfl _ _ g 78 #[.string (Name.strB nm),.slice Ab pk cb,.int .i64 (st:Int),.int .i64 (nd:Int),.bool (go == 1),.int .i64 (me:Int),.slice A14 pk (c - p10),.int .u32 (crc:Int),.int .i64 0] (0,0) _ rfl HRx.out Tryz.underlying78 rfl (by kernel_rfl)) rfl ?_
   refine⟨?_,HKx.out⟩
   rw[HE2.out,HL14.out,if_pos Hq.out]
   exact⟨hp15,⟨⟨⟨⟨nm,pd,(st:Int),(nd:Int),go == 1⟩,me,pd,crc⟩,(Ab,pk,cb),(A14,pk,(c - p10)),0⟩,rfl,⟨rfl,rfl,own_base HOx.out (by rw[←Hg.out];omega),HL14.out.symm,by rw[HL14.out];exact hc14,by show (c - p10)≤maxLen;omega,HW14.out⟩⟩,HDx.out⟩
  ·have hq':(((pk:Nat):Int) != ((sz:Nat):Int))=true:=by simp;omega
   have Hq:=Lib.hid hq
   clear hq
   go_wp2_with fail
   refine⟨rfl,?_,HSb.out.keep⟩
   rw[HE2.out,HL14.out,if_neg Hq.out]
   rfl
 ·have hm1:((me:Int) == 0)=false:=by simp;omega
  by_cases hm8:me=8
  ·have hm2:((me:Int) == 8)=true:=by rw[hm8];rfl
   have hbr:bytesR me pd=(match unpackR pd with
    | .ok a=>if a.2.1=pd.length then some a.1 else none
    | .bad _=>none):=by unfold bytesR;rw[if_neg hm0,if_pos hm8];cases unpackR pd <;> rfl
   have HBr:=Lib.hid hbr
   have HU:=Lib.hid (Inf.unpack_any A14 pk (c - p10) pd w22 HL14.out (by omega) Hby.out)
   have hbs:g+1 < w22.heap.size:=HS15.out.fits
   clear hbr hm0 hm8
   go_wp2_with fail
   refine (HU.out).mono ?_
   rintro e w23 ⟨hu,hbb⟩
   have HSa:=Lib.hid (HS15.out.below hbb)
   have ec6:w23.cell? ⟨g+1,6,none⟩=some (.slice A14 pk (c - p10)):=HSa.out.cur.cell 6
   have ec1:w23.cell? ⟨g+1,1,none⟩=some (.slice none 0 0):=HSa.out.cur.cell 1
   have zc1:=HSa.out.cur.frozen 1
   have HBr2:=Lib.hid HBr.out
   unfold Inf.UPost at hu
   rcases hr:unpackR pd with z | ⟨out,used,ks⟩
   ·rw[hr]at hu
    obtain rfl:=hu
    have hzz:(z == 0)=false:=by rw[beq_eq_false_iff_ne];exact Inf.nz_unpack _ z hr
    have hzn:(z != 0)=true:=by rw[bne,hzz];rfl
    have hR:R=none:=by rw[HE.out,HBr2.out,hr];rfl
    have HR:=Lib.hid hR
    clear hr hR HBr HBr2 HE HU HS15 hbb
    go_wp2_with fail
    exact⟨rfl,by rw[HR.out];rfl,HSa.out.keep⟩
   ·rw[hr]at hu
    obtain⟨hu3,Ao,co,Ak,ck,rfl,hoo,hok⟩:=hu
    dsimp only at hu3 hoo hok⊢
    have hBr3:bytesR me pd=if used=pd.length then some out else none:=by rw[HBr2.out,hr]
    have HBr3:=Lib.hid hBr3
    obtain⟨_,_,e1,hco,hcox,_,_⟩:=own_slat hoo
    injection e1 with e1 _ e2
    subst e1 e2
    obtain⟨no,hno⟩:∃ no,no=out.length:=⟨_,rfl⟩
    rw[←hno]at hoo hco hu3⊢
    have Hno:=Lib.hid hno.symm
    generalize ks.length=nk at *
    clear hr hBr3 HBr HBr2 HU HS15 hbb hok hno
    by_cases huq:used=pk
    ·have hup:((used:Int) != (pk:Int))=false:=by simp[huq]
     have HE2:Hid (R=if out.length=sz then some (⟨⟨nm,out,(st:Int),(nd:Int),go == 1⟩,me,pd,crc⟩,p15) else none):=Lib.hid (by rw[HE.out,HBr3.out,if_pos (by rw[HL14.out];exact huq)];rfl)
     have hob1:OwnB w23 w22.heap.size (.slice Ao no co) out:=by unfold OwnB;rw[Hno.out];exact hoo
     have HOb:=Lib.hid (ownsRow_setCell_below hob1 (a:=⟨g+1,1,none⟩) hbs (.slice Ao no co))
     have HSb:=Lib.hid (HSa.out.store 1 (.slice Ao no co) (cs':=#[.string (Name.strB nm),.slice Ao no co,.int .i64 (st:Int),.int .i64 (nd:Int),.bool (go == 1),.int .i64 (me:Int),.slice A14 pk (c - p10),.int .u32 (crc:Int),.int .i64 0]) rfl)
     have Huq:=Lib.hid huq
     clear hoo HE HBr3 hob1 huq
     go_upto_region 22 with fail
     clear ec1 zc1 HSa ec5 ec6
     generalize w23.setCell ⟨g+1,1,none⟩ (.slice Ao no co)=w24 at *
     generalize hbase:w22.heap.size=base at *
     have e0:w24.cell? ⟨g+1,0,none⟩=some (.string (Name.strB nm)):=HSb.out.cur.cell 0
     have e1:w24.cell? ⟨g+1,1,none⟩=some (.slice Ao no co):=HSb.out.cur.cell 1
     have e2:w24.cell? ⟨g+1,2,none⟩=some (.int .i64 (st:Int)):=HSb.out.cur.cell 2
     have e3:w24.cell? ⟨g+1,3,none⟩=some (.int .i64 (nd:Int)):=HSb.out.cur.cell 3
     have e4:w24.cell? ⟨g+1,4,none⟩=some (.bool (go == 1)):=HSb.out.cur.cell 4
     have e5:w24.cell? ⟨g+1,5,none⟩=some (.int .i64 (me:Int)):=HSb.out.cur.cell 5
     have e6:w24.cell? ⟨g+1,6,none⟩=some (.slice A14 pk (c - p10)):=HSb.out.cur.cell 6
     have e7:w24.cell? ⟨g+1,7,none⟩=some (.int .u32 (crc:Int)):=HSb.out.cur.cell 7
     have e8:w24.cell? ⟨g+1,8,none⟩=some (.int .i64 0):=HSb.out.cur.cell 8
     have q0:w24.cell? ⟨g,0,none⟩=some (.string ⟨#[]⟩):=HSb.out.res.cell 0
     have q1:w24.cell? ⟨g,1,none⟩=some (.slice none 0 0):=HSb.out.res.cell 1
     have q2:w24.cell? ⟨g,2,none⟩=some (.int .i64 0):=HSb.out.res.cell 2
     have q3:w24.cell? ⟨g,3,none⟩=some (.int .i64 0):=HSb.out.res.cell 3
     have q4:w24.cell? ⟨g,4,none⟩=some (.bool false):=HSb.out.res.cell 4
     have q5:w24.cell? ⟨g,5,none⟩=some (.int .i64 0):=HSb.out.res.cell 5
     have q6:w24.cell? ⟨g,6,none⟩=some (.slice none 0 0):=HSb.out.res.cell 6
     have q7:w24.cell? ⟨g,7,none⟩=some (.int .u32 0):=HSb.out.res.cell 7
     have q8:w24.cell? ⟨g,8,none⟩=some (.int .i64 0):=HSb.out.res.cell 8
     have z0:=HSb.out.res.frozen 0
     have z1:=HSb.out.res.frozen 1
     have z2:=HSb.out.res.frozen 2
     have z3:=HSb.out.res.frozen 3
     have z4:=HSb.out.res.frozen 4
     have z5:=HSb.out.res.frozen 5
     have z6:=HSb.out.res.frozen 6
     have z7:=HSb.out.res.frozen 7
     have z8:=HSb.out.res.frozen 8
     have HRx:=Lib.hid (blk_nine (show Blk w24 g 78 #[.string ⟨#[]⟩,.slice none 0 0,.int .i64 0,.int .i64 0,.bool false,.int .i64 0,.slice none 0 0,.int .u32 0,.int .i64 0] from HSb.out.res) (.string (Name.strB nm)) (.slice Ao no co) (.int .i64 (st:Int)) (.int .i64 (nd:Int)) (.bool (go == 1)) (.int .i64 (me:Int)) (.slice A14 pk (c - p10)) (.int .u32 (crc:Int)) (.int .i64 0))
     have HKx:=Lib.hid (keeps_nine HSb.out.keep HSb.out.gs (Nat.le_of_lt hqg) (.string (Name.strB nm)) (.slice Ao no co) (.int .i64 (st:Int)) (.int .i64 (nd:Int)) (.bool (go == 1)) (.int .i64 (me:Int)) (.slice A14 pk (c - p10)) (.int .u32 (crc:Int)) (.int .i64 0))
     have HDx:=Lib.hid (far_nine HSb.out.rdr (Nat.ne_of_lt hqg) (.string (Name.strB nm)) (.slice Ao no co) (.int .i64 (st:Int)) (.int .i64 (nd:Int)) (.bool (go == 1)) (.int .i64 (me:Int)) (.slice A14 pk (c - p10)) (.int .u32 (crc:Int)) (.int .i64 0))
     have HOx:=Lib.hid (own_nine HOb.out (show g < base by omega) (.string (Name.strB nm)) (.slice Ao no co) (.int .i64 (st:Int)) (.int .i64 (nd:Int)) (.bool (go == 1)) (.int .i64 (me:Int)) (.slice A14 pk (c - p10)) (.int .u32 (crc:Int)) (.int .i64 0))
     by_cases hq:no=sz
     ·have hq':(((no:Nat):Int) != ((sz:Nat):Int))=false:=by simp[hq]
      have Hq:=Lib.hid hq
      clear hq
      go_wp2_with fail
      refine bodyPost_ret (results_cell1 rfl _ _ g 78 #[.string (Name.strB nm),.slice Ao no co,.int .i64 (st:Int),.int .i64 (nd:Int),.bool (go == 1),.int .i64 (me:Int),.slice A14 pk (c - p10),.int .u32 (crc:Int),.int .i64 0] (0,0) _ rfl HRx.out Tryz.underlying78 rfl (by kernel_rfl)) rfl ?_
      refine⟨?_,HKx.out⟩
      rw[HE2.out,Hno.out,if_pos Hq.out]
      exact⟨hp15,⟨⟨⟨⟨nm,out,(st:Int),(nd:Int),go == 1⟩,me,pd,crc⟩,(Ao,no,co),(A14,pk,(c - p10)),0⟩,rfl,⟨rfl,rfl,own_base HOx.out (by rw[←Hg.out];omega),HL14.out.symm,by rw[HL14.out];exact hc14,by show (c - p10)≤maxLen;omega,HW14.out⟩⟩,HDx.out⟩
     ·have hq':(((no:Nat):Int) != ((sz:Nat):Int))=true:=by simp;omega
      have Hq:=Lib.hid hq
      clear hq
      go_wp2_with fail
      refine⟨rfl,?_,HSb.out.keep⟩
      rw[HE2.out,Hno.out,if_neg Hq.out]
      rfl
    ·have hup:((used:Int) != (pk:Int))=true:=by simp;omega
     have HR:Hid (R=none):=Lib.hid (by rw[HE.out,HBr3.out,if_neg (by rw[HL14.out];exact huq)];rfl)
     clear hoo HE HBr3
     go_wp2_with fail
     exact⟨rfl,by rw[HR.out];rfl,HSa.out.keep⟩
  ·have hm2:((me:Int) == 8)=false:=by simp;omega
   have HR:Hid (R=none):=Lib.hid (by rw[HE.out];unfold bytesR;rw[if_neg hm0,if_neg hm8];rfl)
   clear HE
   go_wp2_with fail
   exact⟨rfl,by rw[HR.out];rfl,HS15.out.keep⟩
end Go.Proofs.YtabdianhoabhhaaGreatDoor.Zip
