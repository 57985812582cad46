/- texts joined: ShAdd ShCut KeepPure ShFact FuncN At2 ShelfKeepsWalk Door. -/
import Derived.Test.YtabdianhoabhhaaGreatDoorShelfKeepsQ11
import Derived.Test.YtabdianhoabhhaaGreatDoorShelfKeepsQ10
import Derived.Test.YtabdianhoabhhaaGreatDoorShelfKeepsQ7
import Derived.Test.YtabdianhoabhhaaGreatDoorShelfKeepsQ8
import Derived.Test.YtabdianhoabhhaaGreatDoorShelfKeepsQ6
import Derived.Test.YtabdianhoabhhaaGreatDoorShelfKeepsQ1
import Derived.Test.YtabdianhoabhhaaGreatDoorProg
import Derived.WalkSpells
import Derived.Test.YtabdianhoabhhaaGreatDoorRows
import Derived.HandedShaped
import Derived.ProofKit
import Derived.Shelf.Vars
import Derived.Lay
import Derived.LaidOnce
import Derived.SevenTiedAt
open List renaming getElem_toArray→l0A,getElem_cons_zero→l0B,getElem_cons_succ→l0C,setIfInBounds_toArray→l0D,set_cons_zero→l0E,set_cons_succ→l0F
namespace Go.Proofs.YtabdianhoabhhaaGreatDoor.KJ
open Go Go.RowKit Go.Proofs.YtabdianhoabhhaaGreatDoor Go.Proofs.YtabdianhoabhhaaGreatDoor.Bits Go.Proofs.YtabdianhoabhhaaGreatDoor.Merge Go.Proofs.YtabdianhoabhhaaGreatDoor.Name Go.Proofs.YtabdianhoabhhaaGreatDoor.Zip Go.Proofs.YtabdianhoabhhaaGreatDoor.Worlds
open Go.Proofs.YtabdianhoabhhaaGreatDoor.Inf (FI)
set_option linter.unusedVariables false
set_option linter.unusedSimpArgs false
set_option linter.constructorNameAsVariable false
theorem AEX (v:Value) (l:List Fl) (w:World) (hm:ML w) (h:Fs w v l):Calls Tryz.prog 12 #[v] w (j5 l w):=by
 obtain⟨lx,h1,rfl⟩:=h
 exact CW v lx w hm h1
theorem Z8 {BG:List UInt8→List UInt8} {l:List Fl} {z:Int} (h:Ce BG l=.bad z):z≠0:=by
 unfold Ce at h
 split at h
 ·rename_i hc
  injection h with h
  subst h;exact hc
 ·split at h
  ·injection h with h
   subst h;decide
  ·cases h
theorem fZ (g:Nat) (v1 v2:Value) (s t:List UInt8) (w:World) (hg:AQ w (some ⟨g,0,none⟩) [v1,v2]) (h1:BD w v1 s) (h2:BD w v2 t) (hl:(s++t).length≤140737488355328) :
  Calls Tryz.prog 32 #[.slice (some ⟨g,0,none⟩) 2 2] w fun e w'=>(∃ v,e=.returned v∧BN w' w.heap.size v (s++t))∧Below w.heap.size w w':=
 Ow (some ⟨g,0,none⟩) 2 2 [(v1,s),(v2,t)] (s++t) w rfl (by omega) hg (fun q hq=>by
  rcases List.mem_cons.1 hq with rfl | hq
  ·exact h1
  ·rw[List.mem_singleton.1 hq];exact h2) (by simp) hl
theorem BD.clone {w:World} {v:Value} {xs:List UInt8} (h:BD w v xs) (hl:xs.length≤140737488355328) :
  Calls Tryz.prog 16 #[v] w fun e w'=>(∃ v,e=.returned v∧BN w' w.heap.size v xs)∧Below w.heap.size w w':=by
 obtain⟨A,c,rfl,h1,h2,h3⟩:=h
 refine (Sm.Ei A xs.length c (xs.map Eh) w (by rw[List.length_map,Nat.mul_one]) h3 (fun h=>?_) (Ia xs) (by omega) (by omega)).mono ?_
 ·rcases Nat.eq_zero_or_pos xs.length with h0 | h0
  ·exact h0
  ·obtain⟨a,o,e,_⟩:=h3.get (k:=0) h0
   rw[h]at e;cases e
 ·rintro e w' ⟨v,rfl,ho,hb⟩
  exact⟨⟨v,rfl,ho⟩,hb⟩
theorem PE (BG:List UInt8→List UInt8) (s w:List UInt8) (l:List Fl):Kz BG s w l=if EK s w≠0 then .bad (EK s w)
 else match Ce BG l with
  | .bad z=>.bad z
  | .ok b=>if (Bt (Cc s w) l).1≠0 then .bad (Bt (Cc s w) l).1 else if 40000 < s.length+w.length+(Bf b).length then .bad 11 else .ok (s,w++Bf b):=rfl
set_option maxRecDepth 100000 in
set_option maxHeartbeats 4000000 in
theorem PR (x:Dx) (v1:Value) (l:List Fl) (w:World) (hm:ML w) (hd:Fq w x) (hsz:SzD x) (h1:Fs w v1 l) :
  Calls Tryz.prog 26 #[dV x,v1] w (JL (Kz Bw x.safe x.wait l) w):=by
 obtain⟨vs,s,vw,t⟩:=x
 obtain⟨A1,c1,e1,_,_,_⟩:=(show BD w vs s from hd.safe)
 obtain⟨A2,c2,e2,_,_,_⟩:=(show BD w vw t from hd.wait)
 subst e1 e2
 have HD:=Lib.hid hd
 have Hm:=Lib.hid hm
 have Qu:=Lib.hid hsz
 have HV:=Lib.hid h1
 have hck:=@Ic s t
 dsimp only
 generalize hns:s.length=ns at *
 generalize hnt:t.length=nt at *
 have VA:=Lib.hid hns
 have WQ:=Lib.hid hnt
 have HF:=Lib.hid (PE Bw s t l)
 rw[hns,hnt]at HF
 obtain⟨R,hR⟩:∃ R,R=Kz Bw s t l:=⟨_,rfl⟩
 rw[←hR]at HF⊢
 obtain⟨z,hz⟩:∃ z,z=EK s t:=⟨_,rfl⟩
 rw[←hz]at hck HF
 have Hz:=Lib.hid hz
 have Hck:=Lib.hid hck
 obtain⟨A0,c0,e0⟩:=h1.slice
 clear hm hz hck hd hns hnt hsz hR h1
 subst e0
 unfold dV
 dsimp only
 go_enter Tryz.func26,Tryz.ntmps26
 go_upto_region 1 with fail
 have h2:=PS w (.slice A1 ns c1) (.slice A2 nt c2)
 have HD1:=Lib.hid (HD.out.below h2.below)
 have HV1:=Lib.hid (HV.out.below h2.below)
 have HT1:=Lib.hid h2
 clear h2 HD HV
 generalize (w.alloc (.cells #[.slice A1 ns c1,.slice A2 nt c2] 52)).alloc (.cells #[.slice none 0 0,.slice none 0 0] 52)=w1 at *
 have k0:w1.cell? ⟨w.heap.size,0,none⟩=some (.slice A1 ns c1):=HT1.out.Oh.cell 0
 have k1:w1.cell? ⟨w.heap.size,1,none⟩=some (.slice A2 nt c2):=HT1.out.Oh.cell 1
 have HC:=Lib.hid (KW _ w1 (Hm.out.below HT1.out.below) HD1.out Qu.out)
 unfold dV Gp at HC
 dsimp only at HC
 rw[←Hz.out]at HC
 generalize l.length=nl at *
 go_wp2_with fail
 refine (HC.out).mono ?_
 rintro e w2 ⟨hr,hb2⟩
 have HT2:=Lib.hid (HT1.out.step hb2)
 have HD2:=Lib.hid (HD1.out.below hb2)
 have HV2:=Lib.hid (HV1.out.below hb2)
 clear k0 k1 hb2 HC HT1 HD1 HV1
 by_cases h0:z=0
 ·obtain⟨hlen,_,_⟩:=Hck.out.1 h0
  have YB:=Lib.hid (HF.out.trans (if_neg (fun h=>h h0)))
  subst h0
  rw[if_neg (by simp)]at hr
  obtain⟨vh,rfl,AEY⟩:=hr
  have hvh:=AEY.fs
  have HH2:=Lib.hid hvh
  have HP:=Lib.hid (AEX _ l w2 (Hm.out.below HT2.out.below) HV2.out)
  obtain⟨Ah,ch,eh⟩:=hvh.slice
  subst eh
  clear hvh HF
  go_wp2_with fail
  refine (HP.out).mono ?_
  rintro e w3 ⟨hp,hb3⟩
  have HT3:=Lib.hid (HT2.out.step hb3)
  have HD3:=Lib.hid (HD2.out.below hb3)
  have HV3:=Lib.hid (HV2.out.below hb3)
  have HH3:=Lib.hid (HH2.out.below hb3)
  clear hb3 HP HT2 HD2 HV2 HH2
  cases hw:Ce Bw l with
  | bad zz=>
   have HR:=Lib.hid (show R=.bad zz by rw[YB.out,hw])
   have hz1:(zz != 0)=true:=by simpa using Z8 hw
   rw[hw]at hp
   obtain rfl:=hp
   clear hw YB
   have Jw:=Lib.hid (Ct HT3.out.out (.slice none 0 0) (.slice none 0 0))
   have Ee:=Lib.hid (CY (g:=w.heap.size+1) HT3.out.below (by omega) (.slice none 0 0) (.slice none 0 0))
   have q0:w3.cell? ⟨w.heap.size+1,0,none⟩=some (.slice none 0 0):=HT3.out.out.cell 0
   have q1:w3.cell? ⟨w.heap.size+1,1,none⟩=some (.slice none 0 0):=HT3.out.out.cell 1
   have z0:=HT3.out.out.frozen 0
   have z1:=HT3.out.out.frozen 1
   go_wp2_with fail
   refine bodyPost_ret (DY rfl _ _ (w.heap.size+1) 52 #[.slice none 0 0,.slice none 0 0] (0,0) _ _ rfl rfl Jw.out Tryz.underlying52 rfl (by kernel_rfl)) rfl ?_
   unfold JL
   rw[HR.out]
   exact⟨rfl,Ee.out⟩
  | ok b=>
   have zy:=Lib.hid (show R=if (Bt (Cc s t) l).1≠0 then .bad (Bt (Cc s t) l).1 else if 40000 < ns+nt+(Bf b).length then .bad 11 else .ok (s,t++Bf b) by rw[YB.out,hw])
   have ZX:=(GA hw).2.2
   rw[hw]at hp
   obtain⟨vb,rfl,UB⟩:=hp
   obtain⟨Ab,cb,rfl,_,_,_,_⟩:=UB.slice
   have AEZ:=Lib.hid UB
   have HBo:=Lib.hid (AAV _ _ (Cc s t) l w3 (Hm.out.below HT3.out.below) HH3.out HV3.out)
   generalize (Cc s t).length=nh at *
   generalize (Bt (Cc s t) l).1=be at *
   generalize (Bt (Cc s t) l).2=bl at *
   obtain⟨nb,hnb⟩:∃ nb,nb=b.length:=⟨_,rfl⟩
   rw[←hnb]at UB AEZ ZX⊢
   have YC:=Lib.hid hnb
   clear hw UB YB hnb
   go_wp2_with fail
   refine (HBo.out).mono ?_
   rintro e w4 ⟨v4,rfl,hv4,hb4⟩
   have Jz:=Lib.hid (HT3.out.step hb4)
   have HD4:=Lib.hid (HD3.out.below hb4)
   have AEa:Hid (BN w4 w2.heap.size (.slice Ab nb cb) b):=Lib.hid (AEZ.out.keep hb4)
   clear hv4 hb4 HBo HT3 HD3 AEZ HH3 HV3
   by_cases hbe:be=0
   ·have mq:=Lib.hid (zy.out.trans (if_neg (fun h=>h hbe)))
    subst hbe
    obtain⟨hsb,htb⟩:=HD4.out
    have YV:=Lib.hid (MP Ab nb cb b w4 YC.out.symm (by omega) (by obtain⟨_,_,e,_,_,h,_⟩:=AEa.out.slice;injection e with e1 _ e2;subst e1 e2;exact h))
    have AEb:=Jz.out.below.size
    clear zy hsb htb
    go_wp2_with fail
    refine (YV.out).mono ?_
    rintro e w5 ⟨⟨v5,rfl,RJ⟩,hb5⟩
    have RJ:BN w5 w4.heap.size v5 (C8 b):=by unfold BN;rw[Hw];exact RJ
    obtain⟨A5,c5,rfl,_,_,_,_⟩:=RJ.slice
    have Nu:=Lib.hid (Jz.out.step hb5)
    have HD5:=Lib.hid (HD4.out.below hb5)
    have AHC:BD w5 (.slice Ab nb cb) b:=(AEa.out.keep hb5).bytes
    have pQ:=Lib.hid (R5 _ _ (C8 b) b w5 RJ.bytes AHC (by rw[List.length_append,Hw,←YC.out];omega))
    rw[Hw]at pQ⊢
    rw[show C8 b++b=Bf b from rfl]at pQ
    clear RJ hb5 AHC Jz HD4 AEa YV
    go_wp2_with fail
    refine (pQ.out).mono ?_
    rintro e w6 ⟨⟨v6,rfl,R6⟩,hb6⟩
    obtain⟨A6,c6,rfl,_,_,_,_⟩:=R6.slice
    have VC:=Lib.hid (Nu.out.step hb6)
    have HD6:=Lib.hid (HD5.out.below hb6)
    have hrl:(Bf b).length=8+nb:=by rw[DF,YC.out]
    rw[hrl]at mq R6⊢
    have Hrl:=Lib.hid hrl
    have OD:Hid (BN w6 w5.heap.size (.slice A6 (8+nb) c6) (Bf b)):=Lib.hid R6
    obtain⟨L,hL⟩:∃ L,L=8+nb:=⟨_,rfl⟩
    rw[←hL]at mq OD Hrl⊢
    have hL2:L≤12008:=by omega
    clear hrl R6 hb6 hL Nu HD5 pQ
    have k0:w6.cell? ⟨w.heap.size,0,none⟩=some (.slice A1 ns c1):=VC.out.Oh.cell 0
    have k1:w6.cell? ⟨w.heap.size,1,none⟩=some (.slice A2 nt c2):=VC.out.Oh.cell 1
    have hw1:IntKind.i64.wrap ((ns:Int)+(nt:Int))=(ns:Int)+(nt:Int):=IntWalk.i64_in _ (by omega)
    have hw2:IntKind.i64.wrap ((ns:Int)+(nt:Int)+(L:Int))=(ns:Int)+(nt:Int)+(L:Int):=IntWalk.i64_in _ (by omega)
    by_cases jy:40000 < ns+nt+L
    ·have xW:(40000:Int) < (ns:Int)+(nt:Int)+(L:Int):=by omega
     have HR:=Lib.hid (mq.out.trans (if_pos jy))
     have Jw:=Lib.hid (Ct VC.out.out (.slice none 0 0) (.slice none 0 0))
     have Ee:=Lib.hid (CY (g:=w.heap.size+1) VC.out.below (by omega) (.slice none 0 0) (.slice none 0 0))
     have q0:w6.cell? ⟨w.heap.size+1,0,none⟩=some (.slice none 0 0):=VC.out.out.cell 0
     have q1:w6.cell? ⟨w.heap.size+1,1,none⟩=some (.slice none 0 0):=VC.out.out.cell 1
     have z0:=VC.out.out.frozen 0
     have z1:=VC.out.out.frozen 1
     go_wp2_with fail
     refine bodyPost_ret (DY rfl _ _ (w.heap.size+1) 52 #[.slice none 0 0,.slice none 0 0] (0,0) _ _ rfl rfl Jw.out Tryz.underlying52 rfl (by kernel_rfl)) rfl ?_
     unfold JL
     rw[HR.out]
     exact⟨rfl,Ee.out⟩
    ·have xW:¬ (40000:Int) < (ns:Int)+(nt:Int)+(L:Int):=by omega
     have HR:=Lib.hid (mq.out.trans (if_neg jy))
     go_upto_region 13 with fail
     clear k0 k1
     refine FI ?_
     refine Bp (fun W=>AV W w.heap.size 52 #[.slice A1 ns c1,.slice A2 nt c2]) 10 (by kernel_rfl) ?_
     have hHeld:AV w6.drew w.heap.size 52 #[.slice A1 ns c1,.slice A2 nt c2]:=VC.out.Oh
     have hdr:Below w6.heap.size w6 w6.drew:=(Below.refl _ _).drew
     have HT7:=Lib.hid (VC.out.step hdr)
     have HD7:=Lib.hid (HD6.out.below hdr)
     have U9:=Lib.hid (OD.out.keep hdr)
     clear hdr VC HD6 OD
     generalize w6.drew=w7 at *
     refine AA (i:=0) (v:=?zn) (by kernel_rfl) (by kernel_rfl) rfl (by kernel_rfl) (by kernel_rfl) (by kernel_rfl) (fun _ _ _ h=>by cases h.1) (by rfl) (by assumption) ?Js ?Jt
     case Js=>(intro W hSW;have k0:=hSW.cell 0;have k1:=hSW.cell 1;go_simp;try with_reducible rfl)
     (try simp only[Act.put,l0A,l0B,l0C,l0D,l0E,l0F])
     refine AA (i:=1) (v:=?vG) (by kernel_rfl) (by kernel_rfl) rfl (by kernel_rfl) (by kernel_rfl) (by kernel_rfl) (fun _ _ _ h=>by cases h.1) (by rfl) (by assumption) ?JE ?JF
     case JE=>(intro W hSW;have k0:=hSW.cell 0;have k1:=hSW.cell 1;go_simp;try with_reducible rfl)
     (try simp only[Act.put,l0A,l0B,l0C,l0D,l0E,l0F])
     refine AA (i:=3) (v:=?va3) (by kernel_rfl) (by kernel_rfl) rfl (by kernel_rfl) (by kernel_rfl) (by kernel_rfl) (fun _ _ _ h=>by cases h.1) (by rfl) (by assumption) ?K5 ?K6
     case K5=>(intro W hSW;have k0:=hSW.cell 0;have k1:=hSW.cell 1;go_simp;try with_reducible rfl)
     (try simp only[Act.put,l0A,l0B,l0C,l0D,l0E,l0F])
     refine AA (i:=4) (v:=?va4) (by kernel_rfl) (by kernel_rfl) rfl (by kernel_rfl) (by kernel_rfl) (by kernel_rfl) (fun _ _ _ h=>by cases h.1) (by rfl) (by assumption) ?K7 ?K8
     case K7=>(intro W hSW;have k0:=hSW.cell 0;have k1:=hSW.cell 1;go_simp;try with_reducible rfl)
     (try simp only[Act.put,l0A,l0B,l0C,l0D,l0E,l0F])
     refine AA (i:=5) (v:=?va5) (by kernel_rfl) (by kernel_rfl) rfl (by kernel_rfl) (by kernel_rfl) (by kernel_rfl) (fun _ _ _ h=>by cases h.1) (by rfl) (by assumption) ?K9 ?LC
     case K9=>(intro W hSW;have k0:=hSW.cell 0;have k1:=hSW.cell 1;go_simp;try with_reducible rfl)
     (try simp only[Act.put,l0A,l0B,l0C,l0D,l0E,l0F])
     have AEc:w7.heap.size≤w7.heap.size:=Nat.le_refl _
     refine Fw (i:=2) (j:=6) rfl rfl (by kernel_rfl) (fun K hK=>?_) (fun K hK=>?_)
     ·go_simp
      clear hHeld
      go_at_call 16
      refine (BD.clone (HD7.out.safe) (by rw[VA.out];omega)).mono ?_
      rintro e w8 ⟨⟨vc,rfl,hoc⟩,hbc⟩
      obtain⟨Ac,cc,rfl,_,_,_,_⟩:=hoc.slice
      have HT8:=Lib.hid (HT7.out.step hbc)
      have HD8:=Lib.hid (HD7.out.below hbc)
      have vN:=Lib.hid (U9.out.keep hbc)
      rw[VA.out]at hoc⊢
      have AKk:Hid (BN w8 w7.heap.size (.slice Ac ns cc) s):=Lib.hid (AZ hoc AEc)
      have ABH:w7.heap.size≤w8.heap.size:=Nat.le_trans AEc hbc.size
      have UC:=HT8.out.Oh
      refine hK.out _ _ UC (fun hHeld=>?_)
      clear hK K hoc hbc UC
      (try simp only[Act.put,l0A,l0B,l0C,l0D,l0E,l0F])
      refine AB (i:=6) rfl (by kernel_rfl) (fun K hK=>?_)
      go_simp
      clear hHeld
      have BA:Below w8.heap.size w8 (w8.alloc (.cells #[.slice A2 nt c2,.slice A6 L c6] 23)):=(Below.refl _ _).alloc (Nat.le_refl _) _
      have xX:Hid (AQ (w8.alloc (.cells #[.slice A2 nt c2,.slice A6 L c6] 23)) (some ⟨w8.heap.size,0,none⟩) [.slice A2 nt c2,.slice A6 L c6]):=Lib.hid (AQ.of_heap (heap_alloc_new _ _) rfl)
      have HT9:=Lib.hid (HT8.out.step BA)
      have HD9:=Lib.hid (HD8.out.below BA)
      have HO9:=Lib.hid (vN.out.keep BA)
      have AEd:w7.heap.size≤(w8.alloc (.cells #[.slice A2 nt c2,.slice A6 L c6] 23)).heap.size:=Nat.le_trans ABH BA.size
      have AEe:=Lib.hid (AKk.out.keep BA)
      have UD:=HT9.out.Oh
      refine hK.out _ _ UD (fun hHeld=>?_)
      clear hK K BA UD
      (try simp only[Act.put,l0A,l0B,l0C,l0D,l0E,l0F])
      generalize w8.heap.size=gr at *
      generalize w8.alloc (.cells #[.slice A2 nt c2,.slice A6 L c6] 23)=w9 at *
      refine AB (i:=7) rfl (by kernel_rfl) (fun K hK=>?_)
      go_simp
      clear hHeld
      go_at_call 32
      refine (fZ _ _ _ t (Bf b) w9 xX.out HD9.out.wait HO9.out.bytes (by rw[List.length_append,WQ.out,Hrl.out];omega)).mono ?_
      rintro e wz ⟨⟨vz,rfl,QT⟩,hbz⟩
      obtain⟨Az,cz,rfl,_,_,_,_⟩:=QT.slice
      obtain⟨nz,hnz⟩:∃ nz,nz=(t++Bf b).length:=⟨_,rfl⟩
      rw[←hnz]at QT⊢
      have Z9:=Lib.hid (HT9.out.step hbz)
      have HOz:Hid (BN wz w7.heap.size (.slice Az nz cz) (t++Bf b)):=Lib.hid (AZ QT AEd)
      have YD:Hid (BN wz w7.heap.size (.slice Ac ns cc) s):=Lib.hid (AEe.out.keep hbz)
      have UE:=Z9.out.Oh
      refine hK.out _ _ UE (fun hHeld=>?_)
      clear hK K QT hbz hnz UE
      (try simp only[Act.put,l0A,l0B,l0C,l0D,l0E,l0F])
      refine AA (i:=8) (v:=?ANL) (by kernel_rfl) (by kernel_rfl) rfl (by kernel_rfl) (by kernel_rfl) (by kernel_rfl) (fun _ _ _ h=>by cases h.1) (by rfl) (by assumption) ?AHD ?AJL
      case AHD=>(intro W hSW;have k0:=hSW.cell 0;have k1:=hSW.cell 1;go_simp;try with_reducible rfl)
      (try simp only[Act.put,l0A,l0B,l0C,l0D,l0E,l0F])
      have q0:wz.cell? ⟨w.heap.size+1,0,none⟩=some (.slice none 0 0):=Z9.out.out.cell 0
      have q1:wz.cell? ⟨w.heap.size+1,1,none⟩=some (.slice none 0 0):=Z9.out.out.cell 1
      have z0:=Z9.out.out.frozen 0
      have z1:=Z9.out.out.frozen 1
      have hgg:w.heap.size+1 < w7.heap.size:=HT7.out.out.lt
      have Jw:=Lib.hid (Ct Z9.out.out (.slice Ac ns cc) (.slice Az nz cz))
      have Ee:=Lib.hid (CY (g:=w.heap.size+1) Z9.out.below (by omega) (.slice Ac ns cc) (.slice Az nz cz))
      have U7:=Lib.hid (Ij YD.out hgg (.slice Ac ns cc) (.slice Az nz cz))
      have Cz:=Lib.hid (Ij HOz.out hgg (.slice Ac ns cc) (.slice Az nz cz))
      have hIn:AV ((wz.setCell ⟨w.heap.size+1,0,none⟩ (.slice Ac ns cc)).setCell ⟨w.heap.size+1,1,none⟩ (.slice Az nz cz)) w.heap.size 52 #[.slice A1 ns c1,.slice A2 nt c2]:=(Z9.out.Oh.far (p:=⟨w.heap.size+1,0,none⟩) (by show w.heap.size≠w.heap.size+1;omega) _).far (p:=⟨w.heap.size+1,1,none⟩) (by show w.heap.size≠w.heap.size+1;omega) _
      refine AB (i:=9) rfl (by kernel_rfl) (fun K hK=>?_)
      go_simp
      clear hHeld q0 q1 z0 z1
      refine hK.out _ _ hIn (fun hHeld=>?_)
      clear hK K hIn
      (try simp only[Act.put,l0A,l0B,l0C,l0D,l0E,l0F])
      have xY:=HT7.out.below.size
      generalize (wz.setCell ⟨w.heap.size+1,0,none⟩ (.slice Ac ns cc)).setCell ⟨w.heap.size+1,1,none⟩ (.slice Az nz cz)=wx at *
      refine BH rfl (by kernel_rfl) (by kernel_rfl) (fun K hK=>?_)
      go_simp
      clear hHeld
      refine hK.out _ _ ⟨rfl,?_⟩
      clear hK K
      go_wp2_with fail
      refine bodyPost_ret (DY rfl _ _ (w.heap.size+1) 52 #[.slice Ac ns cc,.slice Az nz cz] (0,0) _ _ rfl rfl Jw.out Tryz.underlying52 rfl (by kernel_rfl)) rfl ?_
      unfold JL
      rw[HR.out]
      exact⟨⟨_,_,rfl,AZ U7.out xY,AZ Cz.out xY⟩,Ee.out⟩
     ·go_simp
      clear hHeld
      have BA:Below w7.heap.size w7 (w7.alloc (.cells #[.slice A2 nt c2,.slice A6 L c6] 23)):=(Below.refl _ _).alloc (Nat.le_refl _) _
      have AHE:Hid (AQ (w7.alloc (.cells #[.slice A2 nt c2,.slice A6 L c6] 23)) (some ⟨w7.heap.size,0,none⟩) [.slice A2 nt c2,.slice A6 L c6]):=Lib.hid (AQ.of_heap (heap_alloc_new _ _) rfl)
      have HT8:=Lib.hid (HT7.out.step BA)
      have HD8:=Lib.hid (HD7.out.below BA)
      have vN:=Lib.hid (U9.out.keep BA)
      have ABH:w7.heap.size≤(w7.alloc (.cells #[.slice A2 nt c2,.slice A6 L c6] 23)).heap.size:=Nat.le_trans AEc BA.size
      have UC:=HT8.out.Oh
      refine hK.out _ _ UC (fun hHeld=>?_)
      clear hK K BA UC
      (try simp only[Act.put,l0A,l0B,l0C,l0D,l0E,l0F])
      generalize w7.alloc (.cells #[.slice A2 nt c2,.slice A6 L c6] 23)=w8 at *
      refine AB (i:=2) rfl (by kernel_rfl) (fun K hK=>?_)
      go_simp
      clear hHeld
      go_at_call 16
      refine (BD.clone (HD8.out.safe) (by rw[VA.out];omega)).mono ?_
      rintro e w9 ⟨⟨vc,rfl,hoc⟩,hbc⟩
      obtain⟨Ac,cc,rfl,_,_,_,_⟩:=hoc.slice
      have HT9:=Lib.hid (HT8.out.step hbc)
      have HD9:=Lib.hid (HD8.out.below hbc)
      have HO9:=Lib.hid (vN.out.keep hbc)
      rw[VA.out]at hoc⊢
      have AEe:Hid (BN w9 w7.heap.size (.slice Ac ns cc) s):=Lib.hid (AZ hoc ABH)
      have AEd:w7.heap.size≤w9.heap.size:=Nat.le_trans ABH hbc.size
      have xX:=Lib.hid (AQ.below AHE.out hbc)
      have UD:=HT9.out.Oh
      refine hK.out _ _ UD (fun hHeld=>?_)
      clear hK K hoc hbc UD
      (try simp only[Act.put,l0A,l0B,l0C,l0D,l0E,l0F])
      refine AB (i:=7) rfl (by kernel_rfl) (fun K hK=>?_)
      go_simp
      clear hHeld
      go_at_call 32
      refine (fZ _ _ _ t (Bf b) w9 xX.out HD9.out.wait HO9.out.bytes (by rw[List.length_append,WQ.out,Hrl.out];omega)).mono ?_
      rintro e wz ⟨⟨vz,rfl,QT⟩,hbz⟩
      obtain⟨Az,cz,rfl,_,_,_,_⟩:=QT.slice
      obtain⟨nz,hnz⟩:∃ nz,nz=(t++Bf b).length:=⟨_,rfl⟩
      rw[←hnz]at QT⊢
      have Z9:=Lib.hid (HT9.out.step hbz)
      have HOz:Hid (BN wz w7.heap.size (.slice Az nz cz) (t++Bf b)):=Lib.hid (AZ QT AEd)
      have YD:Hid (BN wz w7.heap.size (.slice Ac ns cc) s):=Lib.hid (AEe.out.keep hbz)
      have UE:=Z9.out.Oh
      refine hK.out _ _ UE (fun hHeld=>?_)
      clear hK K QT hbz hnz UE
      (try simp only[Act.put,l0A,l0B,l0C,l0D,l0E,l0F])
      refine AA (i:=8) (v:=?ANM) (by kernel_rfl) (by kernel_rfl) rfl (by kernel_rfl) (by kernel_rfl) (by kernel_rfl) (fun _ _ _ h=>by cases h.1) (by rfl) (by assumption) ?AHF ?AJM
      case AHF=>(intro W hSW;have k0:=hSW.cell 0;have k1:=hSW.cell 1;go_simp;try with_reducible rfl)
      (try simp only[Act.put,l0A,l0B,l0C,l0D,l0E,l0F])
      have q0:wz.cell? ⟨w.heap.size+1,0,none⟩=some (.slice none 0 0):=Z9.out.out.cell 0
      have q1:wz.cell? ⟨w.heap.size+1,1,none⟩=some (.slice none 0 0):=Z9.out.out.cell 1
      have z0:=Z9.out.out.frozen 0
      have z1:=Z9.out.out.frozen 1
      have hgg:w.heap.size+1 < w7.heap.size:=HT7.out.out.lt
      have Jw:=Lib.hid (Ct Z9.out.out (.slice Ac ns cc) (.slice Az nz cz))
      have Ee:=Lib.hid (CY (g:=w.heap.size+1) Z9.out.below (by omega) (.slice Ac ns cc) (.slice Az nz cz))
      have U7:=Lib.hid (Ij YD.out hgg (.slice Ac ns cc) (.slice Az nz cz))
      have Cz:=Lib.hid (Ij HOz.out hgg (.slice Ac ns cc) (.slice Az nz cz))
      have hIn:AV ((wz.setCell ⟨w.heap.size+1,0,none⟩ (.slice Ac ns cc)).setCell ⟨w.heap.size+1,1,none⟩ (.slice Az nz cz)) w.heap.size 52 #[.slice A1 ns c1,.slice A2 nt c2]:=(Z9.out.Oh.far (p:=⟨w.heap.size+1,0,none⟩) (by show w.heap.size≠w.heap.size+1;omega) _).far (p:=⟨w.heap.size+1,1,none⟩) (by show w.heap.size≠w.heap.size+1;omega) _
      refine AB (i:=9) rfl (by kernel_rfl) (fun K hK=>?_)
      go_simp
      clear hHeld q0 q1 z0 z1
      refine hK.out _ _ hIn (fun hHeld=>?_)
      clear hK K hIn
      (try simp only[Act.put,l0A,l0B,l0C,l0D,l0E,l0F])
      have xY:=HT7.out.below.size
      generalize (wz.setCell ⟨w.heap.size+1,0,none⟩ (.slice Ac ns cc)).setCell ⟨w.heap.size+1,1,none⟩ (.slice Az nz cz)=wx at *
      refine BH rfl (by kernel_rfl) (by kernel_rfl) (fun K hK=>?_)
      go_simp
      clear hHeld
      refine hK.out _ _ ⟨rfl,?_⟩
      clear hK K
      go_wp2_with fail
      refine bodyPost_ret (DY rfl _ _ (w.heap.size+1) 52 #[.slice Ac ns cc,.slice Az nz cz] (0,0) _ _ rfl rfl Jw.out Tryz.underlying52 rfl (by kernel_rfl)) rfl ?_
      unfold JL
      rw[HR.out]
      exact⟨⟨_,_,rfl,AZ U7.out xY,AZ Cz.out xY⟩,Ee.out⟩
   ·have HR:=Lib.hid (zy.out.trans (if_pos hbe))
    have hz1:(be != 0)=true:=by simpa using hbe
    have Jw:=Lib.hid (Ct Jz.out.out (.slice none 0 0) (.slice none 0 0))
    have Ee:=Lib.hid (CY (g:=w.heap.size+1) Jz.out.below (by omega) (.slice none 0 0) (.slice none 0 0))
    have q0:w4.cell? ⟨w.heap.size+1,0,none⟩=some (.slice none 0 0):=Jz.out.out.cell 0
    have q1:w4.cell? ⟨w.heap.size+1,1,none⟩=some (.slice none 0 0):=Jz.out.out.cell 1
    have z0:=Jz.out.out.frozen 0
    have z1:=Jz.out.out.frozen 1
    go_wp2_with fail
    refine bodyPost_ret (DY rfl _ _ (w.heap.size+1) 52 #[.slice none 0 0,.slice none 0 0] (0,0) _ _ rfl rfl Jw.out Tryz.underlying52 rfl (by kernel_rfl)) rfl ?_
    unfold JL
    rw[HR.out]
    exact⟨rfl,Ee.out⟩
 ·have hz1:(z != 0)=true:=by simpa using h0
  have HR:=Lib.hid (HF.out.trans (if_pos h0))
  rw[if_pos h0]at hr
  obtain rfl:=hr
  have Jw:=Lib.hid (Ct HT2.out.out (.slice none 0 0) (.slice none 0 0))
  have Ee:=Lib.hid (CY (g:=w.heap.size+1) HT2.out.below (by omega) (.slice none 0 0) (.slice none 0 0))
  have q0:w2.cell? ⟨w.heap.size+1,0,none⟩=some (.slice none 0 0):=HT2.out.out.cell 0
  have q1:w2.cell? ⟨w.heap.size+1,1,none⟩=some (.slice none 0 0):=HT2.out.out.cell 1
  have z0:=HT2.out.out.frozen 0
  have z1:=HT2.out.out.frozen 1
  go_wp2_with fail
  refine bodyPost_ret (DY rfl _ _ (w.heap.size+1) 52 #[.slice none 0 0,.slice none 0 0] (0,0) _ _ rfl rfl Jw.out Tryz.underlying52 rfl (by kernel_rfl)) rfl ?_
  unfold JL
  rw[HR.out]
  exact⟨rfl,Ee.out⟩
end Go.Proofs.YtabdianhoabhhaaGreatDoor.KJ
namespace Go.Proofs.YtabdianhoabhhaaGreatDoor.KJ
open Go Go.RowKit Go.Proofs.YtabdianhoabhhaaGreatDoor Go.Proofs.YtabdianhoabhhaaGreatDoor.Bits Go.Proofs.YtabdianhoabhhaaGreatDoor.Merge Go.Proofs.YtabdianhoabhhaaGreatDoor.Name Go.Proofs.YtabdianhoabhhaaGreatDoor.Zip Go.Proofs.YtabdianhoabhhaaGreatDoor.Worlds
open Go.Proofs.YtabdianhoabhhaaGreatDoor.Inf (FI)
set_option linter.unusedVariables false
set_option linter.unusedSimpArgs false
set_option linter.constructorNameAsVariable false
theorem xZ {BG:List UInt8→List UInt8} {s w:List UInt8} {l:List Fl} {z:Int} (h:Kz BG s w l=.bad z):z≠0:=by
 rw[PE]at h
 split at h
 ·rename_i hc
  injection h with h
  subst h;exact hc
 ·split at h
  ·rename_i z' hz
   injection h with h
   subst h;exact Z8 hz
  ·split at h
   ·rename_i hb
    injection h with h
    subst h;exact hb
   ·split at h
    ·injection h with h
     subst h;decide
    ·cases h
def ed (s w:List UInt8) (n:Int):Inf.Rd (List UInt8×Nat):=
 if EK s w≠0 then .bad (EK s w) else if n < 0∨(w.length:Int) < n then .bad 3 else D6 (s++w.take n.toNat)
set_option maxRecDepth 100000 in
set_option maxHeartbeats 4000000 in
theorem j6 (x:Dx) (n:Int) (w:World) (hm:ML w) (hd:Fq w x) (hsz:SzD x) :
  Calls Tryz.prog 37 #[dV x,.int .i64 n] w (aB (ed x.safe x.wait n) w):=by
 obtain⟨vs,s,vw,t⟩:=x
 obtain⟨A1,c1,e1,_,_,_⟩:=(show BD w vs s from hd.safe)
 obtain⟨A2,c2,e2,hc2,hcm2,_⟩:=(show BD w vw t from hd.wait)
 subst e1 e2
 have HD:=Lib.hid hd
 have Hm:=Lib.hid hm
 have Qu:=Lib.hid hsz
 have hck:=@Ic s t
 dsimp only
 have HF:Hid (ed s t n=if EK s t≠0 then .bad (EK s t) else if n < 0∨(t.length:Int) < n then .bad 3 else D6 (s++t.take n.toNat)):=Lib.hid rfl
 generalize hns:s.length=ns at *
 generalize hnt:t.length=nt at *
 have VA:=Lib.hid hns
 have WQ:=Lib.hid hnt
 obtain⟨R,hR⟩:∃ R,R=ed s t n:=⟨_,rfl⟩
 rw[←hR]at HF⊢
 obtain⟨z,hz⟩:∃ z,z=EK s t:=⟨_,rfl⟩
 rw[←hz]at hck HF
 have Hz:=Lib.hid hz
 have Hck:=Lib.hid hck
 clear hm hz hck hd hns hnt hsz hR
 unfold dV
 dsimp only
 go_enter Tryz.func37,Tryz.ntmps37
 go_upto_region 1 with fail
 have h2:=PS w (.slice A1 ns c1) (.slice A2 nt c2)
 have HD1:=Lib.hid (HD.out.below h2.below)
 have HT1:=Lib.hid h2
 clear h2 HD
 generalize (w.alloc (.cells #[.slice A1 ns c1,.slice A2 nt c2] 52)).alloc (.cells #[.slice none 0 0,.slice none 0 0] 52)=w1 at *
 have k0:w1.cell? ⟨w.heap.size,0,none⟩=some (.slice A1 ns c1):=HT1.out.Oh.cell 0
 have k1:w1.cell? ⟨w.heap.size,1,none⟩=some (.slice A2 nt c2):=HT1.out.Oh.cell 1
 have HC:=Lib.hid (UF _ w1 (Hm.out.below HT1.out.below) HD1.out Qu.out)
 unfold dV at HC
 dsimp only at HC
 rw[←Hz.out]at HC
 go_wp2_with fail
 refine (HC.out).mono ?_
 rintro e w2 ⟨rfl,hb2⟩
 have HT2:=Lib.hid (HT1.out.step hb2)
 have HD2:=Lib.hid (HD1.out.below hb2)
 clear k0 k1 hb2 HC HT1 HD1
 have hgg:w.heap.size+1 < w2.heap.size:=HT2.out.out.lt
 by_cases h0:z=0
 ·obtain⟨hlen,_,_⟩:=Hck.out.1 h0
  have YB:=Lib.hid (HF.out.trans (if_neg (fun h=>h h0)))
  subst h0
  clear HF
  have k0:w2.cell? ⟨w.heap.size,0,none⟩=some (.slice A1 ns c1):=HT2.out.Oh.cell 0
  have k1:w2.cell? ⟨w.heap.size,1,none⟩=some (.slice A2 nt c2):=HT2.out.Oh.cell 1
  by_cases hneg:n < 0
  ·have HR:=Lib.hid (YB.out.trans (if_pos (.inl hneg)))
   have Jw:=Lib.hid (Ct HT2.out.out (.slice none 0 0) (.slice none 0 0))
   have Ee:=Lib.hid (CY (g:=w.heap.size+1) HT2.out.below (by omega) (.slice none 0 0) (.slice none 0 0))
   have q0:w2.cell? ⟨w.heap.size+1,0,none⟩=some (.slice none 0 0):=HT2.out.out.cell 0
   have q1:w2.cell? ⟨w.heap.size+1,1,none⟩=some (.slice none 0 0):=HT2.out.out.cell 1
   have z0:=HT2.out.out.frozen 0
   have z1:=HT2.out.out.frozen 1
   go_wp2_with fail
   refine bodyPost_ret (GI rfl _ _ (w.heap.size+1) 52 #[.slice none 0 0,.slice none 0 0] (0,0) _ _ _ rfl rfl rfl Jw.out Tryz.underlying52 rfl (by kernel_rfl)) rfl ?_
   unfold aB
   rw[HR.out]
   exact⟨rfl,Ee.out⟩
  ·by_cases hbig:(nt:Int) < n
   ·have HR:=Lib.hid (YB.out.trans (if_pos (.inr hbig)))
    have Jw:=Lib.hid (Ct HT2.out.out (.slice none 0 0) (.slice none 0 0))
    have Ee:=Lib.hid (CY (g:=w.heap.size+1) HT2.out.below (by omega) (.slice none 0 0) (.slice none 0 0))
    have q0:w2.cell? ⟨w.heap.size+1,0,none⟩=some (.slice none 0 0):=HT2.out.out.cell 0
    have q1:w2.cell? ⟨w.heap.size+1,1,none⟩=some (.slice none 0 0):=HT2.out.out.cell 1
    have z0:=HT2.out.out.frozen 0
    have z1:=HT2.out.out.frozen 1
    go_wp2_with fail
    refine bodyPost_ret (GI rfl _ _ (w.heap.size+1) 52 #[.slice none 0 0,.slice none 0 0] (0,0) _ _ _ rfl rfl rfl Jw.out Tryz.underlying52 rfl (by kernel_rfl)) rfl ?_
    unfold aB
    rw[HR.out]
    exact⟨rfl,Ee.out⟩
   ·have zq:=Lib.hid (YB.out.trans (if_neg (by omega)))
    obtain⟨k,hk⟩:∃ k:Nat,n=(k:Int):=⟨n.toNat,by omega⟩
    subst hk
    have hkn:k≤nt:=by omega
    rw[show ((k:Int)).toNat=k from rfl]at zq
    obtain⟨b,hb⟩:∃ b,b=s++t.take k:=⟨_,rfl⟩
    rw[←hb]at zq
    have hbl:b.length=ns+k:=by rw[hb,List.length_append,List.length_take,VA.out,WQ.out];omega
    have HR:=Lib.hid (show R=.ok (b.take (scan b).2,b.length - (scan b).2) by rw[zq.out];unfold D6;rw[if_neg (by omega)])
    have HRr:Hid (D6 b=.ok (b.take (scan b).2,b.length - (scan b).2)):=Lib.hid (by unfold D6;rw[if_neg (by omega)])
    have Hb:=Lib.hid hb
    have Hbl:=Lib.hid hbl
    clear zq YB hb hbl
    go_upto_region 6 with fail
    clear k0 k1
    have hs1:(k:Int)≤(c2:Int):=by omega
    refine FI ?_
    refine Bp (fun W=>AV W w.heap.size 52 #[.slice A1 ns c1,.slice A2 nt c2]) 14 (by kernel_rfl) ?_
    have hHeld:AV w2.drew w.heap.size 52 #[.slice A1 ns c1,.slice A2 nt c2]:=HT2.out.Oh
    have hdr:Below w2.heap.size w2 w2.drew:=(Below.refl _ _).drew
    have HT3:=Lib.hid (HT2.out.step hdr)
    have HD3:=Lib.hid (HD2.out.below hdr)
    clear hdr HT2 HD2
    generalize w2.drew=w3 at *
    refine AA (i:=0) (v:=?zn) (by kernel_rfl) (by kernel_rfl) rfl (by kernel_rfl) (by kernel_rfl) (by kernel_rfl) (fun _ _ _ h=>by cases h.1) (by rfl) (by assumption) ?Js ?Jt
    case Js=>(intro W hSW;have k0:=hSW.cell 0;have k1:=hSW.cell 1;go_simp;try with_reducible rfl)
    (try simp only[Act.put,l0A,l0B,l0C,l0D,l0E,l0F])
    refine AA (i:=1) (v:=?vG) (by kernel_rfl) (by kernel_rfl) rfl (by kernel_rfl) (by kernel_rfl) (by kernel_rfl) (fun _ _ _ h=>by cases h.1) (by rfl) (by assumption) ?JE ?JF
    case JE=>(intro W hSW;have k0:=hSW.cell 0;have k1:=hSW.cell 1;go_simp;try with_reducible rfl)
    (try simp only[Act.put,l0A,l0B,l0C,l0D,l0E,l0F])
    refine AA (i:=2) (v:=?va2) (by kernel_rfl) (by kernel_rfl) rfl (by kernel_rfl) (by kernel_rfl) (by kernel_rfl) (fun _ _ _ h=>by cases h.1) (by rfl) (by assumption) ?OA ?OB
    case OA=>(intro W hSW;have k0:=hSW.cell 0;have k1:=hSW.cell 1;go_simp;try with_reducible rfl)
    (try simp only[Act.put,l0A,l0B,l0C,l0D,l0E,l0F])
    refine AA (i:=3) (v:=?va3) (by kernel_rfl) (by kernel_rfl) rfl (by kernel_rfl) (by kernel_rfl) (by kernel_rfl) (fun _ _ _ h=>by cases h.1) (by rfl) (by assumption) ?K5 ?K6
    case K5=>(intro W hSW;have k0:=hSW.cell 0;have k1:=hSW.cell 1;go_simp;try with_reducible rfl)
    (try simp only[Act.put,l0A,l0B,l0C,l0D,l0E,l0F])
    refine AA (i:=4) (v:=?va4) (by kernel_rfl) (by kernel_rfl) rfl (by kernel_rfl) (by kernel_rfl) (by kernel_rfl) (fun _ _ _ h=>by cases h.1) (by rfl) (by assumption) ?K7 ?K8
    case K7=>(intro W hSW;have k0:=hSW.cell 0;have k1:=hSW.cell 1;go_simp;try with_reducible rfl)
    (try simp only[Act.put,l0A,l0B,l0C,l0D,l0E,l0F])
    refine AA (i:=5) (v:=?va5) (by kernel_rfl) (by kernel_rfl) rfl (by kernel_rfl) (by kernel_rfl) (by kernel_rfl) (fun _ _ _ h=>by cases h.1) (by rfl) (by assumption) ?K9 ?LC
    case K9=>(intro W hSW;have k0:=hSW.cell 0;have k1:=hSW.cell 1;go_simp;try with_reducible rfl)
    (try simp only[Act.put,l0A,l0B,l0C,l0D,l0E,l0F])
    refine AB (i:=6) rfl (by kernel_rfl) (fun K hK=>?_)
    go_simp
    clear hHeld
    have BA:Below w3.heap.size w3 (w3.alloc (.cells #[.slice A1 ns c1,.slice A2 k c2] 23)):=(Below.refl _ _).alloc (Nat.le_refl _) _
    have AHH:Hid (AQ (w3.alloc (.cells #[.slice A1 ns c1,.slice A2 k c2] 23)) (some ⟨w3.heap.size,0,none⟩) [.slice A1 ns c1,.slice A2 k c2]):=Lib.hid (AQ.of_heap (heap_alloc_new _ _) rfl)
    have Jz:=Lib.hid (HT3.out.step BA)
    have HD4:=Lib.hid (HD3.out.below BA)
    have Bq:=Jz.out.Oh
    refine hK.out _ _ Bq (fun hHeld=>?_)
    clear hK K BA Bq HT3 HD3
    (try simp only[Act.put,l0A,l0B,l0C,l0D,l0E,l0F])
    generalize w3.alloc (.cells #[.slice A1 ns c1,.slice A2 k c2] 23)=w4 at *
    refine AB (i:=7) rfl (by kernel_rfl) (fun K hK=>?_)
    go_simp
    clear hHeld
    go_at_call 32
    have htk:BD w4 (.slice A2 k c2) (t.take k):=by
     obtain⟨A',c',e,g1,g2,g3⟩:=(show BD w4 (.slice A2 nt c2) t from HD4.out.wait)
     injection e with e1 e2 e3
     subst e1 e3
     refine⟨A2,c2,?_,?_,g2,g3.take k⟩
     ·rw[List.length_take,WQ.out,Nat.min_eq_left hkn]
     ·rw[List.length_take,WQ.out,Nat.min_eq_left hkn];omega
    refine (fZ _ _ _ s (t.take k) w4 AHH.out HD4.out.safe htk (by rw[←Hb.out,Hbl.out];omega)).mono ?_
    rintro e w5 ⟨⟨v5,rfl,RJ⟩,hb5⟩
    rw[←Hb.out]at RJ
    obtain⟨A5,c5,rfl,AKl,AKm,AHI,_⟩:=RJ.slice
    have Nu:=Lib.hid (Jz.out.step hb5)
    have Bq:=Nu.out.Oh
    have HRv:=Lib.hid (aC A5 b.length c5 b w5 (Hm.out.below Nu.out.below) rfl AKl AKm AHI)
    refine hK.out _ _ Bq (fun hHeld=>?_)
    clear hK K hb5 Bq Jz HD4 RJ htk AHI
    (try simp only[Act.put,l0A,l0B,l0C,l0D,l0E,l0F])
    refine AB (i:=8) rfl (by kernel_rfl) (fun K hK=>?_)
    go_simp
    clear hHeld
    go_at_call 38
    refine (HRv.out).mono ?_
    rintro e w6 ⟨hr,hb6⟩
    rw[HRr.out]at hr
    obtain⟨v6,rfl,R6⟩:=hr
    dsimp only at R6⊢
    obtain⟨A6,c6,rfl,_,_,_,_⟩:=R6.slice
    have VC:=Lib.hid (Nu.out.step hb6)
    have AKn:=Nu.out.below.size
    have hg5:w.heap.size+1 < w5.heap.size:=Nu.out.out.lt
    obtain⟨L,hL⟩:∃ L,L=(b.take (scan b).2).length:=⟨_,rfl⟩
    rw[←hL]at R6⊢
    have OD:Hid (BN w6 w5.heap.size (.slice A6 L c6) (b.take (scan b).2)):=Lib.hid R6
    obtain⟨nl,hnl⟩:∃ nl,nl=b.length - (scan b).2:=⟨_,rfl⟩
    rw[←hnl]at HR⊢
    have Bq:=VC.out.Oh
    refine hK.out _ _ Bq (fun hHeld=>?_)
    clear hK K hb6 Bq Nu HRv R6 hL hnl
    (try simp only[Act.put,l0A,l0B,l0C,l0D,l0E,l0F])
    refine AA (i:=9) (v:=?vb9) (by kernel_rfl) (by kernel_rfl) rfl (by kernel_rfl) (by kernel_rfl) (by kernel_rfl) (fun _ _ _ h=>by cases h.1) (by rfl) (by assumption) ?dn ?dw
    case dn=>(intro W hSW;have k0:=hSW.cell 0;have k1:=hSW.cell 1;go_simp;try with_reducible rfl)
    (try simp only[Act.put,l0A,l0B,l0C,l0D,l0E,l0F])
    refine AA (i:=10) (v:=?AGV) (by kernel_rfl) (by kernel_rfl) rfl (by kernel_rfl) (by kernel_rfl) (by kernel_rfl) (fun _ _ _ h=>by cases h.1) (by rfl) (by assumption) ?ZU ?jX
    case ZU=>(intro W hSW;have k0:=hSW.cell 0;have k1:=hSW.cell 1;go_simp;try with_reducible rfl)
    (try simp only[Act.put,l0A,l0B,l0C,l0D,l0E,l0F])
    refine AA (i:=11) (v:=?AHJ) (by kernel_rfl) (by kernel_rfl) rfl (by kernel_rfl) (by kernel_rfl) (by kernel_rfl) (fun _ _ _ h=>by cases h.1) (by rfl) (by assumption) ?aD ?kC
    case aD=>(intro W hSW;have k0:=hSW.cell 0;have k1:=hSW.cell 1;go_simp;try with_reducible rfl)
    (try simp only[Act.put,l0A,l0B,l0C,l0D,l0E,l0F])
    have q0:w6.cell? ⟨w.heap.size+1,0,none⟩=some (.slice none 0 0):=VC.out.out.cell 0
    have q1:w6.cell? ⟨w.heap.size+1,1,none⟩=some (.slice none 0 0):=VC.out.out.cell 1
    have z0:=VC.out.out.frozen 0
    have z1:=VC.out.out.frozen 1
    have Jw:=Lib.hid (Ct VC.out.out (.slice A6 L c6) (.slice none 0 0))
    have Ee:=Lib.hid (CY (g:=w.heap.size+1) VC.out.below (by omega) (.slice A6 L c6) (.slice none 0 0))
    have U7:=Lib.hid (Ij OD.out hg5 (.slice A6 L c6) (.slice none 0 0))
    have hIn:AV ((w6.setCell ⟨w.heap.size+1,0,none⟩ (.slice A6 L c6)).setCell ⟨w.heap.size+1,1,none⟩ (.slice none 0 0)) w.heap.size 52 #[.slice A1 ns c1,.slice A2 nt c2]:=(VC.out.Oh.far (p:=⟨w.heap.size+1,0,none⟩) (by show w.heap.size≠w.heap.size+1;omega) _).far (p:=⟨w.heap.size+1,1,none⟩) (by show w.heap.size≠w.heap.size+1;omega) _
    refine AB (i:=12) rfl (by kernel_rfl) (fun K hK=>?_)
    go_simp
    clear hHeld q0 q1 z0 z1
    refine hK.out _ _ hIn (fun hHeld=>?_)
    clear hK K hIn
    (try simp only[Act.put,l0A,l0B,l0C,l0D,l0E,l0F])
    generalize (w6.setCell ⟨w.heap.size+1,0,none⟩ (.slice A6 L c6)).setCell ⟨w.heap.size+1,1,none⟩ (.slice none 0 0)=wx at *
    refine AB (i:=13) rfl (by kernel_rfl) (fun K hK=>?_)
    go_simp
    have Bq:=hHeld
    refine hK.out _ _ Bq (fun hHeld=>?_)
    clear hK K Bq
    (try simp only[Act.put,l0A,l0B,l0C,l0D,l0E,l0F])
    refine BH rfl (by kernel_rfl) (by kernel_rfl) (fun K hK=>?_)
    go_simp
    clear hHeld
    refine hK.out _ _ ⟨rfl,?_⟩
    clear hK K
    go_wp2_with fail
    refine bodyPost_ret (GI rfl _ _ (w.heap.size+1) 52 #[.slice A6 L c6,.slice none 0 0] (0,0) _ _ _ rfl rfl rfl Jw.out Tryz.underlying52 rfl (by kernel_rfl)) rfl ?_
    unfold aB
    rw[HR.out]
    exact⟨⟨_,rfl,AZ U7.out AKn⟩,Ee.out⟩
 ·have hz1:(z != 0)=true:=by simpa using h0
  have HR:=Lib.hid (HF.out.trans (if_pos h0))
  have Jw:=Lib.hid (Ct HT2.out.out (.slice none 0 0) (.slice none 0 0))
  have Ee:=Lib.hid (CY (g:=w.heap.size+1) HT2.out.below (by omega) (.slice none 0 0) (.slice none 0 0))
  have q0:w2.cell? ⟨w.heap.size+1,0,none⟩=some (.slice none 0 0):=HT2.out.out.cell 0
  have q1:w2.cell? ⟨w.heap.size+1,1,none⟩=some (.slice none 0 0):=HT2.out.out.cell 1
  have z0:=HT2.out.out.frozen 0
  have z1:=HT2.out.out.frozen 1
  go_wp2_with fail
  refine bodyPost_ret (GI rfl _ _ (w.heap.size+1) 52 #[.slice none 0 0,.slice none 0 0] (0,0) _ _ _ rfl rfl rfl Jw.out Tryz.underlying52 rfl (by kernel_rfl)) rfl ?_
  unfold aB
  rw[HR.out]
  exact⟨rfl,Ee.out⟩
end Go.Proofs.YtabdianhoabhhaaGreatDoor.KJ
namespace Go.Proofs.YtabdianhoabhhaaGreatDoor.KJ
open Go Go.Proofs.YtabdianhoabhhaaGreatDoor.Merge Go.Proofs.YtabdianhoabhhaaGreatDoor.Zip
open Go.Proofs.YtabdianhoabhhaaGreatDoor.Inf (Rd)
set_option linter.unusedVariables false
def KS (s w:List UInt8) (H:List (List Fl)) (kept:Nat):Prop:=
 ∃ xs,Rec s w xs kept∧H.length=xs.length+1∧(∀ j,j≤xs.length→Ea [] (xs.take j)=H[j]?)∧s.length+w.length≤40000
theorem KS.start:KS [] [] [[]] 0:=⟨[],⟨rfl,rfl,Nat.le_refl _,⟨[],rfl⟩⟩,rfl,fun j hj=>by
 obtain rfl:j=0:=by simpa using hj
 rfl,by simp⟩
theorem KS.len {s w:List UInt8} {H:List (List Fl)} {kept:Nat} (h:KS s w H kept):s.length+w.length≤40000∧kept < H.length∧0 < H.length:=by
 obtain⟨xs,h1,h2,_,h4⟩:=h
 have:=h1.kept
 exact⟨h4,by omega,by omega⟩
theorem KS.add {s w s' w':List UInt8} {H:List (List Fl)} {kept:Nat} {l:List Fl} (h:KS s w H kept) (ha:Kz Bw s w l=.ok (s',w')) :
  KS s' w' (H++[Cc s' w']) kept∧EK s' w'=0∧s'.length+w'.length≤40000:=by
 obtain⟨xs,h1,h2,h3,h4⟩:=h
 obtain⟨b,g1,g2⟩:=h1.add JI ha
 obtain⟨g3,m,g4,g5⟩:=g1.chk g2
 refine⟨⟨xs++[b],g1,by rw[List.length_append,List.length_append,h2];rfl,fun j hj=>?_,g2⟩,g3,g2⟩
 rw[List.length_append,List.length_cons,List.length_nil]at hj
 rcases Nat.lt_or_ge j (xs.length+1) with hl | hl
 ·rw[List.take_append_of_le_length (by omega),h3 j (by omega),List.getElem?_append_left (by omega)]
 ·obtain rfl:j=xs.length+1:=by omega
  rw[List.take_of_length_le (by simp),g4,←h2,List.getElem?_append_right (Nat.le_refl _),Nat.sub_self,g5]
  rfl
theorem KS.flush {s w:List UInt8} {H:List (List Fl)} {kept:Nat} (h:KS s w H kept):KS (s++w) [] H (H.length - 1)∧IL s w=.ok (s++w,[]):=by
 obtain⟨xs,h1,h2,h3,h4⟩:=h
 refine⟨⟨xs,?_,h2,h3,by rw[List.length_append];simp;exact h4⟩,?_⟩
 ·rw[h2,Nat.add_sub_cancel];exact h1.flush
 ·unfold IL
  rw[if_neg (fun h=>h (h1.chk h4).1)]
theorem TU {l:List Fl} (h:Bb l=0):(Bt l []).1=0:=by
 rw[O3 h Rm (by rw[KR];exact (Ev h).1)]
theorem KS.end_ {s w:List UInt8} {H:List (List Fl)} {kept k:Nat} (h:KS s w H kept) (hk:k≤w.length) :
  ∃ c lost m j,ed s w k=.ok (c,lost)∧c.take s.length=s∧EK c []=0∧Cc c []=m∧kept≤j∧H[j]?=some m∧c.length≤40000∧((∃ a,Kz Bw c [] []=.ok a)∨Kz Bw c [] []=.bad 11):=by
 obtain⟨xs,h1,h2,h3,h4⟩:=h
 obtain⟨hck,_⟩:=h1.chk h4
 obtain⟨j,mj,g1,g2,g3,g4,g5,t,g6⟩:=h1.cut hk
 have hx:(s++w.take k).length≤40000:=by rw[List.length_append,List.length_take];omega
 obtain⟨r1,r2⟩:=VG hx
 have hsc:=Vr (s++w.take k)
 rw[g4]at r1 r2 hsc
 dsimp only at r1 r2 hsc
 obtain⟨c,hc⟩:∃ c,c=(s++w.take k).take (recs (xs.take j)).length:=⟨_,rfl⟩
 rw[←hc]at r1 r2 hsc g6
 have hfi:Cc c []=mj:=by unfold Cc;rw[List.append_nil,hsc]
 have hcl:c.length≤40000:=by rw[hc,List.length_take];omega
 refine⟨c,(s++w.take k).length - (recs (xs.take j)).length,mj,j,?_,by rw[g6];exact List.take_left' rfl,r2,hfi,g1,by rw[←h3 j g2];exact g3,hcl,?_⟩
 ·unfold ed
  rw[if_neg (fun h=>h hck),if_neg (by omega)]
  show D6 (s++w.take k)=_
  unfold D6
  rw[if_neg (by omega),g4,←hc]
 ·have hcm:Bb mj=0:=by
   have:=ZI c
   rw[hsc]at this
   exact this
  rw[PE,if_neg (fun h=>h r2)]
  have hw:Ce Bw []=.ok (laidB []):=rfl
  rw[hw]
  dsimp only
  rw[hfi,if_neg (fun h=>h (TU hcm))]
  by_cases hl:40000 < c.length+([]:List UInt8).length+(Bf (laidB [])).length
  ·rw[if_pos hl];exact .inr rfl
  ·rw[if_neg hl];exact .inl ⟨_,rfl⟩
end Go.Proofs.YtabdianhoabhhaaGreatDoor.KJ
namespace Go.Proofs.YtabdianhoabhhaaGreatDoor.KJ
open Go Go.RowKit Go.Proofs.YtabdianhoabhhaaGreatDoor Go.Proofs.YtabdianhoabhhaaGreatDoor.Bits Go.Proofs.YtabdianhoabhhaaGreatDoor.Merge Go.Proofs.YtabdianhoabhhaaGreatDoor.Name Go.Proofs.YtabdianhoabhhaaGreatDoor.Zip Go.Proofs.YtabdianhoabhhaaGreatDoor.Worlds
set_option linter.unusedVariables false
set_option linter.unusedSimpArgs false
set_option linter.constructorNameAsVariable false
set_option maxHeartbeats 400000 in
theorem fu (A B:Option Addr) (n m ca cb:Nat) (xs ys:List UInt8) (w:World) (hn:xs.length=n) (hm:ys.length=m) (hnc:n≤ca) (hx:ca≤9223372036854775807) (hmx:m≤140737488355328) (ha:BI w A xs) (hb:BI w B ys) :
  Calls Tryz.prog 42 #[.slice A n ca,.slice B m cb] w fun e w'=>e=.returned (.bool (decide (xs.take m=ys)))∧w'=w:=by
 have Hn:=Lib.hid hn
 have Hm:=Lib.hid hm
 have HA:=Lib.hid (BI.take ha m)
 have HB:=Lib.hid hb
 clear hn hm ha hb
 go_enter Tryz.func42,Tryz.ntmps42
 by_cases hmn:m≤n
 ·have h1:(m:Int)≤(n:Int):=by omega
  have h2:(m:Int)≤(ca:Int):=by omega
  have h3:¬ ((n:Int) < (m:Int)):=by omega
  go_wp2_with fail
  refine (IA A B m m ca cb (xs.take m) ys w (by rw[List.length_take,Hn.out];omega) Hm.out HA.out HB.out).mono ?_
  rintro e w' ⟨rfl,rfl⟩
  go_wp2_with fail
  go_ret
  exact⟨rfl,rfl⟩
 ·have h1:¬ (m:Int)≤(n:Int):=by omega
  have h3:((n:Int) < (m:Int)):=by omega
  have Hd:Hid (decide (xs.take m=ys)=false):=Lib.hid (by
   rw[decide_eq_false_iff_not];intro h
   have:=congrArg List.length h
   rw[List.length_take,Hn.out,Hm.out]at this
   omega)
  clear hmn
  go_wp2_with fail
  go_ret
  exact⟨by rw[Hd.out];rfl,rfl⟩
def sA:Fl:=⟨[97],[],1,0,false⟩
def sB:Fl:=⟨[98],[],2,0,false⟩
theorem aF (f:Fl) (hf:f.bytes=[]) (hn:f.name.length=1) (hc:Bb [f]=0):∃ b,Ce Bw [f]=.ok b∧b.length=122:=by
 have hw:Bv Bw [f]=[⟨f,0,f.bytes,GR f.bytes⟩]:=by
  unfold Bv
  rw[List.map_cons,List.map_nil,aG f (by rw[hf];decide)]
 have hl:(laidB (Bv Bw [f])).length=122:=by
  rw[hw,KX]
  simp[KY,hf,hn]
 have h:Ce Bw [f]=.ok (laidB (Bv Bw [f])):=by
  unfold Ce
  rw[if_neg (fun h=>h hc),if_neg (by omega)]
 exact⟨_,h,hl⟩
theorem fw:∃ b1 b2,b1.length=122∧b2.length=122∧Kz Bw [] [] [sA]=.ok ([],Bf b1)∧IL [] (Bf b1)=.ok (Bf b1,[])∧Kz Bw (Bf b1) [] [sB]=.ok (Bf b1,Bf b2)∧ed (Bf b1) (Bf b2) 9=.ok (Bf b1,9)∧EK (Bf b1) []=0∧Cc (Bf b1) []=[sA]:=by
 have hA:Bb [sA]=0:=by decide +kernel
 have hB:Bb [sB]=0:=by decide +kernel
 obtain⟨b1,hw1,hl1⟩:=aF sA rfl rfl hA
 obtain⟨b2,hw2,hl2⟩:=aF sB rfl rfl hB
 obtain⟨g1,g2,g3⟩:=TD JI hw1
 have AHL:(Bt [sA] [sB]).1=0:=by decide +kernel
 have ha:Kz Bw (Bf b1) [] [sB]=.ok (Bf b1,Bf b2):=by
  rw[PE,if_neg (fun h=>h g2),hw2]
  dsimp only
  rw[g3,if_neg (fun h=>h AHL),if_neg (by simp[DF,hl1,hl2])]
  rfl
 have hrec:Rec (Bf b1) [] [b1] 1:=⟨by simp[recs],by simp[recs],by simp,⟨_,(ZJ JI hw1).2⟩⟩
 obtain⟨b,hr,hle⟩:=hrec.add JI ha
 have hwb:Bf b2=Bf b:=by
  have:=hr.wait
  simpa [recs] using this
 have hck:=(hr.chk hle).1
 obtain⟨j,mj,h1,h2,h3,h4,h5,h6⟩:=hr.cut (n:=9) (by rw[DF];omega)
 have hlb:b.length=122:=by
  have:=congrArg List.length hwb
  rw[DF,DF]at this
  omega
 have hj:j=1:=by
  rcases Nat.lt_or_ge j 2 with h | h
  ·omega
  ·exfalso
   have hj2:j=2:=by simp at h2;omega
   subst hj2
   have:=Rl (Bf b1++(Bf b2).take 9)
   rw[h4]at this
   simp[recs,DF,hl1,hlb,List.length_take,hl2]at this
 subst hj
 have hrl:(recs (([b1]++[b]).take 1)).length=130:=by simp[recs,DF,hl1]
 rw[hrl]at h4
 refine⟨b1,b2,hl1,hl2,?_,?_,ha,?_,g2,g3⟩
 ·rw[add_nil hA,hw1]
 ·unfold IL
  rw[if_neg (fun h=>h g1)]
  rfl
 ·unfold ed
  have h9:(Bf b2).length=130:=by rw[DF,hl2]
  rw[if_neg (fun h=>h hck),if_neg (by rw[h9];omega)]
  have AKo:(Bf b1++(Bf b2).take 9).length=139:=by rw[List.length_append,List.length_take,DF,h9,hl1];rfl
  show D6 (Bf b1++(Bf b2).take 9)=_
  unfold D6
  rw[if_neg (by omega),h4,AKo]
  have:(Bf b1++(Bf b2).take 9).take 130=Bf b1:=List.take_left' (by rw[DF,hl1])
  rw[this]
  rfl
def dT:List TypeId:=[52]
theorem WR (w:World) (f:Fl) (h:f.bytes=[]) (hn:f.name.length≤maxLen) (hs:l8 f.stamp) (hd:l8 f.node):Fs (w.alloc (.cells (fC (f,none,0,0)).toArray 36)) (.slice (some ⟨w.heap.size,0,none⟩) 1 1) [f]:=by
 have:=mU (n:=1) (l:=[(f,none,0,0)]) (AV.new w 36 ([((f,none,0,0):Fx)].flatMap fC).toArray) rfl (by omega) (fun x hx=>by
  rw[List.mem_singleton]at hx
  subst hx
  exact ZA _ _ h hn hs hd)
 exact this.fs
set_option maxRecDepth 100000 in
set_option maxHeartbeats 4000000 in
theorem aH (w:World) (hm:ML w) :
  Calls Tryz.prog 29 #[] w fun e w'=>e=.returned (.bool true)∧Below w.heap.size w w':=by
 obtain⟨b1,b2,hl1,hl2,ha1,hf1,ha2,hc1,hk1,hfi⟩:=fw
 have Hm:=Lib.hid hm
 have HA1:=Lib.hid ha1
 have YB:=Lib.hid hf1
 have HA2:=Lib.hid ha2
 have HC1:=Lib.hid hc1
 have Vd:=Lib.hid hk1
 have rJ:=Lib.hid hfi
 have hr1:(Bf b1).length=130:=by rw[DF,hl1]
 have hr2:(Bf b2).length=130:=by rw[DF,hl2]
 have HR1:=Lib.hid hr1
 have HR2:=Lib.hid hr2
 clear hm ha1 hf1 ha2 hc1 hk1 hfi hl1 hl2 hr1 hr2
 generalize Bf b1=r1 at *
 generalize Bf b2=r2 at *
 have HFa:Hid (Fs (w.alloc (.cells #[.string ⟨#[97]⟩,.slice none 0 0,.int .i64 1,.int .i64 0,.bool false] 36)) (.slice (some ⟨w.heap.size,0,none⟩) 1 1) [sA]):=Lib.hid (WR w sA rfl (by decide) rfl rfl)
 have hb1:Below w.heap.size w (w.alloc (.cells #[.string ⟨#[97]⟩,.slice none 0 0,.int .i64 1,.int .i64 0,.bool false] 36)):=(Below.refl _ _).alloc (Nat.le_refl _) _
 have Rq:=Lib.hid (PR ⟨.slice none 0 0,[],.slice none 0 0,[]⟩ _ [sA] _ (Hm.out.below hb1) ⟨(BN.nil _ 0).bytes,(BN.nil _ 0).bytes⟩ ⟨by simp,by simp⟩ HFa.out)
 unfold dV at Rq
 dsimp only at Rq
 rw[HA1.out]at Rq
 have Hb1:=Lib.hid hb1
 clear hb1
 go_enter Tryz.func29,Tryz.ntmps29
 go_wp2_with fail
 generalize w.alloc (.cells #[.string ⟨#[97]⟩,.slice none 0 0,.int .i64 1,.int .i64 0,.bool false] 36)=w1 at *
 refine (Rq.out).mono ?_
 rintro e w2 ⟨⟨vs,vw,rfl,hos,how⟩,hb2⟩
 dsimp only at hos how
 obtain⟨A1,c1,rfl,_,_,_,_⟩:=hos.slice
 obtain⟨A2,c2,rfl,_,_,_,_⟩:=how.slice
 rw[HR1.out]at how⊢
 simp only[List.length_nil]at hos⊢
 have Hb2:=Lib.hid (Hb1.out.trans (hb2.mono Hb1.out.size))
 have BA:Below w2.heap.size w2 (w2.alloc (.cells #[.slice A1 0 c1,.slice A2 130 c2] 52)):=(Below.refl _ _).alloc (Nat.le_refl _) _
 have HB3:=Lib.hid (AV.new w2 52 #[.slice A1 0 c1,.slice A2 130 c2])
 have Hb3:=Lib.hid (Hb2.out.trans (BA.mono Hb2.out.size))
 have Yd:=Lib.hid (QU ⟨.slice A1 0 c1,[],.slice A2 130 c2,r1⟩ _ (Hm.out.below Hb3.out) ⟨(hos.keep BA).bytes,(how.keep BA).bytes⟩ ⟨by simp,by show r1.length≤_;rw[HR1.out];omega⟩)
 unfold dV at Yd
 dsimp only at Yd
 rw[YB.out]at Yd
 have AKp:w.heap.size≤w2.heap.size:=Hb2.out.size
 clear hos how hb2 BA Rq Hb2 Hb1 HFa
 go_upto_region 2 with fail
 generalize hg1:w2.heap.size=g1 at *
 generalize w2.alloc (.cells #[.slice A1 0 c1,.slice A2 130 c2] 52)=w3 at *
 have k0:w3.cell? ⟨g1,0,none⟩=some (.slice A1 0 c1):=HB3.out.cell 0
 have k1:w3.cell? ⟨g1,1,none⟩=some (.slice A2 130 c2):=HB3.out.cell 1
 clear hg1
 go_wp2_with fail
 refine (Yd.out).mono ?_
 rintro e w4 ⟨⟨vs,vw,rfl,hos,how⟩,hb4⟩
 dsimp only at hos how
 obtain⟨A3,c3,rfl,_,_,_,_⟩:=hos.slice
 obtain⟨A4,c4,rfl,_,_,_,_⟩:=how.slice
 rw[HR1.out]at hos⊢
 simp only[List.length_nil]at how⊢
 have hB4:=HB3.out.below hb4 HB3.out.lt
 have Hb4:=Lib.hid (Hb3.out.trans (hb4.mono Hb3.out.size))
 have hk5:AJ g1 dT w4 ((w4.setCell ⟨g1,0,none⟩ (.slice A3 130 c3)).setCell ⟨g1,1,none⟩ (.slice A4 0 c4)):=((AJ.refl _ _ _).Dc hB4 (by simp[dT]) (Nat.le_refl _) 0 _).Dc (hB4.Ca 0 _) (by simp[dT]) (Nat.le_refl _) 1 _
 have JY:Hid (AV ((w4.setCell ⟨g1,0,none⟩ (.slice A3 130 c3)).setCell ⟨g1,1,none⟩ (.slice A4 0 c4)) g1 52 #[.slice A3 130 c3,.slice A4 0 c4]):=Lib.hid (Ct hB4 _ _)
 have Hb5:=Lib.hid (Hb4.out.trans (hk5.below.mono AKp))
 have AHM:=hk5.own hos (by decide)
 have AHN:=hk5.own how (by decide)
 have q0:w4.cell? ⟨g1,0,none⟩=some (.slice A1 0 c1):=hB4.cell 0
 have q1:w4.cell? ⟨g1,1,none⟩=some (.slice A2 130 c2):=hB4.cell 1
 have z0:=hB4.frozen 0
 have z1:=hB4.frozen 1
 clear k0 k1 hos how hk5 hb4 Yd Hb4 Hb3 HB3 hB4
 go_upto_region 3 with fail
 clear q0 q1 z0 z1
 generalize (w4.setCell ⟨g1,0,none⟩ (.slice A3 130 c3)).setCell ⟨g1,1,none⟩ (.slice A4 0 c4)=w5 at *
 have k0:w5.cell? ⟨g1,0,none⟩=some (.slice A3 130 c3):=JY.out.cell 0
 have k1:w5.cell? ⟨g1,1,none⟩=some (.slice A4 0 c4):=JY.out.cell 1
 have HFb:Hid (Fs (w5.alloc (.cells #[.string ⟨#[98]⟩,.slice none 0 0,.int .i64 2,.int .i64 0,.bool false] 36)) (.slice (some ⟨w5.heap.size,0,none⟩) 1 1) [sB]):=Lib.hid (WR w5 sB rfl (by decide) rfl rfl)
 have BA:Below w5.heap.size w5 (w5.alloc (.cells #[.string ⟨#[98]⟩,.slice none 0 0,.int .i64 2,.int .i64 0,.bool false] 36)):=(Below.refl _ _).alloc (Nat.le_refl _) _
 have Jc:=Lib.hid (Hb5.out.trans (BA.mono Hb5.out.size))
 have Rq:=Lib.hid (PR ⟨.slice A3 130 c3,r1,.slice A4 0 c4,[]⟩ _ [sB] _ (Hm.out.below Jc.out) ⟨(AP AHM BA |> fun h=>BN.bytes h),(AP AHN BA |> fun h=>BN.bytes h)⟩ ⟨by show r1.length≤_;rw[HR1.out];omega,by simp⟩ HFb.out)
 unfold dV at Rq
 dsimp only at Rq
 rw[HA2.out]at Rq
 clear BA AHM AHN Hb5 HFb
 go_wp2_with fail
 generalize w5.heap.size=g5 at *
 generalize w5.alloc (.cells #[.string ⟨#[98]⟩,.slice none 0 0,.int .i64 2,.int .i64 0,.bool false] 36)=w6 at *
 clear k0 k1 JY
 refine (Rq.out).mono ?_
 rintro e w7 ⟨⟨vs,vw,rfl,hos,how⟩,Iu⟩
 dsimp only at hos how
 obtain⟨A5,c5,rfl,_,_,_,_⟩:=hos.slice
 obtain⟨A6,c6,rfl,_,_,_,_⟩:=how.slice
 rw[HR1.out]at hos⊢
 rw[HR2.out]at how⊢
 have FR:=Lib.hid (Jc.out.trans (Iu.mono Jc.out.size))
 have BA:Below w7.heap.size w7 (w7.alloc (.cells #[.slice A5 130 c5,.slice A6 130 c6] 52)):=(Below.refl _ _).alloc (Nat.le_refl _) _
 have Jq:=Lib.hid (AV.new w7 52 #[.slice A5 130 c5,.slice A6 130 c6])
 have EJ:=Lib.hid (FR.out.trans (BA.mono FR.out.size))
 have rM:=Lib.hid (j6 ⟨.slice A5 130 c5,r1,.slice A6 130 c6,r2⟩ 9 _ (Hm.out.below EJ.out) ⟨(hos.keep BA).bytes,(how.keep BA).bytes⟩ ⟨by show r1.length≤_;rw[HR1.out];omega,by show r2.length≤_;rw[HR2.out];omega⟩)
 unfold dV at rM
 dsimp only at rM
 rw[HC1.out]at rM
 clear hos how Iu BA Rq FR Jc
 go_upto_region 4 with fail
 generalize w7.heap.size=g4 at *
 generalize w7.alloc (.cells #[.slice A5 130 c5,.slice A6 130 c6] 52)=w8 at *
 have k0:w8.cell? ⟨g4,0,none⟩=some (.slice A5 130 c5):=Jq.out.cell 0
 have k1:w8.cell? ⟨g4,1,none⟩=some (.slice A6 130 c6):=Jq.out.cell 1
 go_wp2_with fail
 refine (rM.out).mono ?_
 rintro e w9 ⟨⟨vs,rfl,hos⟩,VW⟩
 dsimp only at hos⊢
 obtain⟨A7,c7,rfl,_,_,_,_⟩:=hos.slice
 rw[HR1.out]at hos⊢
 have O8:=Lib.hid (Jq.out.below VW Jq.out.lt)
 have Sa:=Lib.hid (EJ.out.trans (VW.mono EJ.out.size))
 have BA:Below w9.heap.size w9 (w9.alloc (.cells #[.slice A7 130 c7,.slice none 0 0] 52)):=(Below.refl _ _).alloc (Nat.le_refl _) _
 have Mh:=Lib.hid (AV.new w9 52 #[.slice A7 130 c7,.slice none 0 0])
 have xg:=Lib.hid (O8.out.below BA O8.out.lt)
 have OT:=Lib.hid (Sa.out.trans (BA.mono Sa.out.size))
 have kD:=Lib.hid (KW ⟨.slice A7 130 c7,r1,.slice none 0 0,[]⟩ _ (Hm.out.below OT.out) ⟨(hos.keep BA).bytes,(BN.nil _ 0).bytes⟩ ⟨by show r1.length≤_;rw[HR1.out];omega,by simp⟩)
 unfold dV Gp at kD
 dsimp only at kD
 rw[Vd.out,rJ.out]at kD
 clear hos VW BA rM Sa EJ Jq O8 k0 k1
 go_upto_region 5 with fail
 generalize w9.heap.size=g6 at *
 generalize w9.alloc (.cells #[.slice A7 130 c7,.slice none 0 0] 52)=M7 at *
 have k0:M7.cell? ⟨g6,0,none⟩=some (.slice A7 130 c7):=Mh.out.cell 0
 have k1:M7.cell? ⟨g6,1,none⟩=some (.slice none 0 0):=Mh.out.cell 1
 go_wp2_with fail
 refine (kD.out).mono ?_
 rintro e bW ⟨hr,RQ⟩
 rw[if_neg (by simp)]at hr
 obtain⟨v,rfl,hv⟩:=hr
 obtain⟨A8,c8,rfl⟩:=hv.fs.slice
 have hB:=xg.out.below RQ xg.out.lt
 have AEf:=Lib.hid (OT.out.trans (RQ.mono OT.out.size))
 have k1':bW.cell? ⟨g4,1,none⟩=some (.slice A6 130 c6):=hB.cell 1
 clear k0 k1 RQ kD hB hv Mh xg OT
 simp only[List.length_cons,List.length_nil]
 go_wp2_with fail
 go_ret
 exact⟨rfl,AEf.out⟩
end Go.Proofs.YtabdianhoabhhaaGreatDoor.KJ
namespace Go.Proofs.YtabdianhoabhhaaGreatDoor.KJ
open Go Go.RowKit Go.Proofs.YtabdianhoabhhaaGreatDoor Go.Proofs.YtabdianhoabhhaaGreatDoor.Merge Go.Proofs.YtabdianhoabhhaaGreatDoor.Name
set_option linter.unusedVariables false
abbrev Nq:=YW×List Fl
def jV (x:Nq):Value:=.slice x.1.1 x.1.2.1 x.1.2.2
theorem ADa {w:World} {A:Option Addr} {xs:List Nq} (h:AQ w A (xs.map jV)) {k:Nat} (hk:k < xs.length) :
  ∃ b o,A=some ⟨b,o,none⟩∧w.cell? ⟨b,o+k,none⟩=some (.slice xs[k].1.1 xs[k].1.2.1 xs[k].1.2.2):=by
 obtain⟨b,o,e,hc⟩:=AQ.get h (k:=k) (by simpa using hk)
 exact⟨b,o,e,by rw[hc];simp[jV]⟩
set_option maxRecDepth 100000 in
set_option maxHeartbeats 400000 in
theorem RN (A:Option Addr) (n c:Nat) (xs:List Nq) (g:FuncId) (cap:Array Value) (p:Nq→Bool) (w:World) (hn:xs.length=n) (hx:n≤maxLen) (ha:AQ w A (xs.map jV))
  (hcf:∀ args w',(callFunc g args).run Tryz.prog w'=.ok (.enter g args) w')
  (hf:∀ x∈xs,∀ w',Below w.heap.size w w'→Calls Tryz.prog g (#[jV x]++cap) w' fun e w''=>e=.returned (.bool (p x))∧Below w'.heap.size w' w'') :
  Calls Tryz.prog 61 #[.slice A n c,.func (.func g) #[] cap] w fun e w'=>e=.returned (.int .i64 (ZL p xs))∧Below w.heap.size w w':=by
 unfold maxLen at hx
 have Hn:=Lib.hid hn
 have Ha:=Lib.hid ha
 have Hf:=Lib.hid hf
 clear hn ha hf
 unfold jV at Hf
 go_enter Tryz.func61,Tryz.ntmps61
 go_wp2_with fail
 go_loopw [8] (fun i wr=>∃ k:Nat,k≤n∧i=.int .i64 k∧(∀ x∈xs.take k,p x=false)∧Below w.heap.size w wr) (fun i _=>n - (intOf i).toNat)
 case atStart=>exact⟨0,Nat.zero_le _,rfl,by simp,Below.refl _ _⟩
 case round=>
  obtain⟨k,hk,rfl,hno,hbr⟩:=hrel
  have Hno:=Lib.hid hno
  have GN:=Lib.hid hbr
  clear hno
  by_cases hlt:k < n
  ·have hkx:k < xs.length:=by rw[Hn.out];exact hlt
   obtain⟨b,o,rfl,hc⟩:=ADa (AQ.below Ha.out hbr) hkx
   have Sy:=Lib.hid (Hf.out xs[k] (List.getElem_mem hkx) wr hbr)
   have Hy:=Lib.hid (Vt p xs k hkx Hno.out)
   have Hz:=Lib.hid (Na p xs k hkx Hno.out)
   generalize xs[k]=x at *
   clear hbr
   go_wp2_with fail
   refine (Sy.out).mono ?_
   rintro e w1 ⟨rfl,hb1⟩
   have Hb1:=Lib.hid (GN.out.trans (hb1.mono GN.out.size))
   clear hb1
   cases hp:p x with
   | true=>
    have Hi:=Lib.hid (Hy.out hp)
    clear hp
    go_wp2_with fail
    go_ret
    exact⟨C9 Hi.out.symm,Hb1.out⟩
   | false=>
    have Hi:=Lib.hid (Hz.out hp)
    clear hp
    go_wp2_with fail
    go_roundw
    case rel=>exact⟨k+1,by omega,by go_num,Hi.out,Hb1.out⟩
    case measure=>simp[intOf];omega
  ·have Hi:=Lib.hid (Vu p xs (by have:=Hno.out;rwa [List.take_of_length_le (by rw[Hn.out];omega)]at this))
   clear hbr
   go_wp2_with fail
   go_ret
   exact⟨C9 Hi.out.symm,GN.out⟩
theorem N8 (A:Option Addr) (n c:Nat) (xs:List Nq) (g:FuncId) (cap:Array Value) (p:Nq→Bool) (w:World) (hn:xs.length=n) (hx:n≤maxLen) (ha:AQ w A (xs.map jV))
  (hcf:∀ args w',(callFunc g args).run Tryz.prog w'=.ok (.enter g args) w')
  (hf:∀ x∈xs,∀ w',Below w.heap.size w w'→Calls Tryz.prog g (#[jV x]++cap) w' fun e w''=>e=.returned (.bool (p x))∧Below w'.heap.size w' w'') :
  Calls Tryz.prog 43 #[.slice A n c,.func (.func g) #[] cap] w fun e w'=>e=.returned (.bool (xs.any p))∧Below w.heap.size w w':=by
 have XO:=Lib.hid (ZM p xs)
 have ADb:=Lib.hid (RN A n c xs g cap p w hn hx ha hcf hf)
 clear hn hx ha hcf hf
 go_enter Tryz.func43,Tryz.ntmps43
 go_wp2_with fail
 refine (ADb.out).mono ?_
 rintro e w1 ⟨rfl,hb1⟩
 have Hb1:=Lib.hid hb1
 clear hb1
 go_wp2_with fail
 go_ret
 exact⟨DN (by rw[←XO.out]),Hb1.out⟩
end Go.Proofs.YtabdianhoabhhaaGreatDoor.KJ
namespace Go.Proofs.YtabdianhoabhhaaGreatDoor
open Go Go.RowKit
set_option linter.unusedVariables false
theorem AAD (k n:Int) (w:World) (h0:-9223372036854775808≤k) (h1:k≤9223372036854775807) (hn:0 < n) (hn2:n≤4611686018427387904) :
  Calls Tryz.prog 41 #[.int .i64 k,.int .i64 n] w fun e w'=>e=.returned (.int .i64 (k % n))∧w=w':=by
 have hne:(n == 0)=false:=by simp;omega
 have hb1:k.tmod n < n:=Int.tmod_lt_of_pos _ hn
 have hb2:-n < k.tmod n:=by
  have:=Int.tmod_lt_of_pos (-k) hn
  rw[Int.neg_tmod]at this;omega
 by_cases hneg:k.tmod n < 0
 ·have Hf:Hid (k.tmod n+n=k % n):=Lib.hid (by
   have h2:=Int.tmod_add_mul_tdiv k n
   have h3:(k.tmod n+n+n*(k.tdiv n - 1))=k:=by rw[Int.mul_sub,Int.mul_one];omega
   conv=>rhs;rw[←h3]
   rw[Int.add_mul_emod_self_left,Int.emod_eq_of_lt (by omega) (by omega)])
  go_enter Tryz.func41,Tryz.ntmps41
  go_wp2
  go_ret
  exact⟨C9 Hf.out,rfl⟩
 ·have hneg:0≤k.tmod n:=by omega
  have Hf:Hid (k.tmod n=k % n):=Lib.hid (by
   have h2:=Int.tmod_add_mul_tdiv k n
   conv=>rhs;rw[←h2]
   rw[Int.add_mul_emod_self_left,Int.emod_eq_of_lt (by omega) (by omega)])
  go_enter Tryz.func41,Tryz.ntmps41
  go_wp2
  go_ret
  exact⟨C9 Hf.out,rfl⟩
end Go.Proofs.YtabdianhoabhhaaGreatDoor
namespace Go.Proofs.YtabdianhoabhhaaGreatDoor.ShelfKeeps
open Go Go.RowKit Go.Proofs.YtabdianhoabhhaaGreatDoor Go.Proofs.YtabdianhoabhhaaGreatDoor.Bits Go.Proofs.YtabdianhoabhhaaGreatDoor.Merge Go.Proofs.YtabdianhoabhhaaGreatDoor.Name Go.Proofs.YtabdianhoabhhaaGreatDoor.Zip Go.Proofs.YtabdianhoabhhaaGreatDoor.Worlds Go.Proofs.YtabdianhoabhhaaGreatDoor.KJ
open Go.Proofs.YtabdianhoabhhaaGreatDoor.Inf (FI)
set_option linter.unusedVariables false
set_option linter.unusedSimpArgs false
set_option linter.constructorNameAsVariable false
theorem AKt {n:Int} (h:(Lit.int .i64 n).wf=true):-9223372036854775808≤n∧n≤9223372036854775807:=by
 simpa [Lit.wf,IntKind.min,IntKind.max,IntKind.signed,IntKind.bits] using h
theorem tyN:Bj Tryz.prog 67 22 (.slice none 0 0) 1 24:=⟨Tryz.underlying67,by kernel_rfl,rfl,by omega⟩
def nT:List TypeId:=[22]
structure Had (w:World) (B:Nat) (v:Value) (qs:List Nq):Prop where
 row:w.ownsRow B 22 1 v qs.length (qs.map jV)
 each:∀ q∈qs,VD w B (jV q) q.2
theorem Had.below {w w':World} {B:Nat} {v:Value} {qs:List Nq} (h:Had w B v qs) (hb:Below w.heap.size w w'):Had w' B v qs:=⟨AP h.row hb,fun q hq=>(h.each q hq).below hb⟩
theorem Had.keeps {w w':World} {B0 B:Nat} {T:List TypeId} {v:Value} {qs:List Nq} (h:Had w B v qs) (hk:AJ B0 T w w') (h1:36∉T) (h2:5∉T) (h3:22∉T):Had w' B v qs:=
 ⟨hk.own h.row h3,fun q hq=>(h.each q hq).keeps hk h1 h2⟩
structure L9 (w:World) (B g:Nat) (s t:List UInt8) (vs vw:Value):Prop where
 blk:AV w g 52 #[vs,vw]
 os:BN w B vs s
 ow:BN w B vw t
theorem L9.below {w w':World} {B g:Nat} {s t:List UInt8} {vs vw:Value} (h:L9 w B g s t vs vw) (hb:Below w.heap.size w w'):L9 w' B g s t vs vw:=⟨h.blk.below hb h.blk.lt,h.os.keep hb,h.ow.keep hb⟩
theorem L9.disk {w:World} {B g:Nat} {s t:List UInt8} {vs vw:Value} (h:L9 w B g s t vs vw):Fq w ⟨vs,s,vw,t⟩:=⟨h.os.bytes,h.ow.bytes⟩
theorem L9.keeps {w w':World} {B0 B g:Nat} {T:List TypeId} {s t:List UInt8} {vs vw:Value} (h:L9 w B g s t vs vw) (hk:AJ B0 T w w') (h1:52∉T) (h2:5∉T):L9 w' B g s t vs vw:=⟨hk.blk h.blk h1,hk.own h.os h2,hk.own h.ow h2⟩
theorem E9 {w:World} {g:Nat} {a0 a1:Value} (h:AV w g 52 #[a0,a1]) (b0 b1:Value):AJ g dT w ((w.setCell ⟨g,0,none⟩ b0).setCell ⟨g,1,none⟩ b1):=
 ((AJ.refl _ _ _).Dc h (by simp[dT]) (Nat.le_refl _) 0 _).Dc (h.Ca 0 _) (by simp[dT]) (Nat.le_refl _) 1 _
theorem L9.store {w:World} {B g:Nat} {s t s2 t2:List UInt8} {vs vw us uw:Value} (h:L9 w B g s t vs vw) (h1:BN w B us s2) (h2:BN w B uw t2):L9 ((w.setCell ⟨g,0,none⟩ us).setCell ⟨g,1,none⟩ uw) B g s2 t2 us uw:=
 ⟨Ct h.blk _ _,(E9 h.blk us uw).own h1 (by decide),(E9 h.blk us uw).own h2 (by decide)⟩
theorem xq {w:World} {B g:Nat} {s t:List UInt8} {vs vw:Value} (h:L9 w B g s t vs vw):∃ A1 c1 A2 c2,vs=.slice A1 s.length c1∧vw=.slice A2 t.length c2:=by
 obtain⟨A1,c1,h1,_⟩:=h.os.slice
 obtain⟨A2,c2,h2,_⟩:=h.ow.slice
 exact⟨A1,c1,A2,c2,h1,h2⟩
theorem xu:∀ args w',(callFunc 44 args).run Tryz.prog w'=.ok (.enter 44 args) w':=enters_of Tryz.func44 (by kernel_rfl) rfl
set_option maxRecDepth 100000 in
set_option maxHeartbeats 1000000 in
theorem TW (gl:Nat) (v1 v2:Value) (a b:List Fl) (w:World) (hg:AV w gl 22 #[v1]) (h1:Fs w v1 a) (h2:Fs w v2 b) :
  Calls Tryz.prog 44 #[v2,.pointer (some ⟨gl,0,none⟩)] w fun e w'=>e=.returned (.bool (BB a b))∧Below w.heap.size w w':=by
 have HS:=Lib.hid (jO v1 v2 a b w h1 h2)
 obtain⟨A1,c1,e1⟩:=h1.slice
 obtain⟨A2,c2,e2⟩:=h2.slice
 subst e1 e2
 generalize a.length=na at *
 generalize b.length=nb at *
 have k0:w.cell? ⟨gl,0,none⟩=some (.slice A1 na c1):=hg.cell 0
 obtain⟨sb,hsb⟩:∃ sb,sb=BB a b:=⟨_,rfl⟩
 rw[←hsb]at HS⊢
 clear hg h1 h2 hsb
 go_enter Tryz.func44,Tryz.ntmps44
 go_wp2_with fail
 refine (HS.out).mono ?_
 rintro e w1 ⟨rfl,hb1⟩
 have Hb1:=Lib.hid hb1
 clear hb1 k0
 go_wp2_with fail
 go_ret
 exact⟨rfl,Hb1.out⟩
set_option maxRecDepth 100000 in
set_option maxHeartbeats 6000000 in
theorem walk (W:World) (hm:ML W) (v0:Value) (ls:List Nx) (h0:IsL W nC (N7 W) v0 ls) (safe:Int) (ws:(Lit.int .i64 safe).wf=true) (cut:Int) (wc:(Lit.int .i64 cut).wf=true) :
  Calls Tryz.prog 10 #[v0,.int .i64 safe,.int .i64 cut] W fun e W'=>e=.returned (.bool true)∧Below W.heap.size W W':=by
 obtain⟨wc1,wc2⟩:=AKt wc
 obtain⟨A,cA,rfl,h1,h2,hA,l9,MZ⟩:=h0
 obtain⟨n,hn⟩:∃ n,n=ls.length:=⟨_,rfl⟩
 rw[←hn]at h1⊢
 have Hn:=Lib.hid hn
 have HA:=Lib.hid hA
 have Hd:=Lib.hid MZ
 have Hm:=Lib.hid hm
 obtain⟨B,hB⟩:∃ B,B=W.heap.size:=⟨_,rfl⟩
 have HB:=Lib.hid hB
 rw[←hB]
 unfold maxLen at h2
 clear hn hA MZ hm l9 hB ws wc
 go_enter Tryz.func10,Tryz.ntmps10
 go_upto_region 3 with fail
 rw[←HB.out]
 have BA:Below B W (W.alloc (.cells #[.slice none 0 0,.slice none 0 0] 52)):=by rw[HB.out];exact (Below.refl _ _).alloc (Nat.le_refl _) _
 have AHT:Below B W ((W.alloc (.cells #[.slice none 0 0,.slice none 0 0] 52)).alloc (.cells #[.slice none 0 0] 22)):=BA.alloc (by rw[World.size_alloc,←HB.out];omega) _
 have HD1:Hid (L9 ((W.alloc (.cells #[.slice none 0 0,.slice none 0 0] 52)).alloc (.cells #[.slice none 0 0] 22)) B B [] [] (.slice none 0 0) (.slice none 0 0)):=Lib.hid ⟨by rw[HB.out];exact (AV.new W 52 #[.slice none 0 0,.slice none 0 0]).alloc _,BN.nil _ _,BN.nil _ _⟩
 have hsz:(W.alloc (.cells #[.slice none 0 0,.slice none 0 0] 52)).heap.size=B+1:=by rw[World.size_alloc,HB.out]
 have HH1:Hid (Had ((W.alloc (.cells #[.slice none 0 0,.slice none 0 0] 52)).alloc (.cells #[.slice none 0 0] 22)) B (.slice (some ⟨B+1,0,none⟩) 1 1) [((none,0,0),[])]):=Lib.hid ⟨by
  have:=World.ownsRow_lit (base:=B) (size:=1) (e:=22) (W.alloc (.cells #[.slice none 0 0,.slice none 0 0] 52)) #[.slice none 0 0] 1 (by rw[hsz];omega) (by unfold maxLen;omega) rfl
  rw[hsz]at this
  exact this,fun q hq=>by
  rw[List.mem_singleton]at hq
  subst hq
  exact VD.nil _ _⟩
 have Hb1:=Lib.hid AHT
 clear BA AHT hsz
 generalize (W.alloc (.cells #[.slice none 0 0,.slice none 0 0] 52)).alloc (.cells #[.slice none 0 0] 22)=w1 at *
 obtain⟨m,hmd⟩:∃ m,m=min n 6:=⟨_,rfl⟩
 have hmin:min (n:Int) 6=(m:Int):=by omega
 have hmn:m≤n:=by omega
 have hm6:m≤6:=by omega
 have hmc:(m:Int)≤(cA:Int):=by omega
 have hm0:(0:Int)≤(m:Int):=by omega
 clear hmd
 go_upto_region 5 with fail
 clear hmin hmc
 go_loopw [8,9,26] (fun vh vk vi wr=>∃ (k kept:Nat) (s t:List UInt8) (vs vw:Value) (qs:List Nq),k≤m∧vi=.int .i64 (k:Int)∧vk=.int .i64 (kept:Int)∧qs.length≤k+1∧KS s t (qs.map Prod.snd) kept∧L9 wr B B s t vs vw∧Had wr B vh qs∧Below B W wr) (fun _ _ vi _=>m - (intOf vi).toNat)
 case atStart=>exact⟨0,0,[],[],_,_,[((none,0,0),[])],Nat.zero_le _,rfl,rfl,by simp,KS.start,HD1.out,HH1.out,Hb1.out⟩
 case round=>
  obtain⟨k,kept,s,t,vs,vw,qs,hk,rfl,rfl,Q9,hks,hdk,hhd,hb⟩:=hrel
  have hlen:=hks.len
  rw[List.length_map]at hlen
  obtain⟨hst,hkq,hq0⟩:=hlen
  obtain⟨A1,c1,A2,c2,rfl,rfl⟩:=xq hdk
  have Xi:B≤wr.heap.size:=by rw[HB.out];rw[HB.out]at hb;exact hb.size
  have HKs:=Lib.hid hks
  have xw:=Lib.hid hdk
  have YV:=Lib.hid hhd
  have Hb:=Lib.hid hb
  clear hks hdk hhd hb HD1 HH1 Hb1
  generalize hns:s.length=ns at *
  generalize hnt:t.length=nt at *
  have VA:=Lib.hid hns
  have WQ:=Lib.hid hnt
  clear hns hnt
  by_cases hlt:k < m
  ·have hlt':(k:Int) < (m:Int):=by omega
   have hk0:(0:Int)≤(k:Int):=by omega
   have hkl:k < ls.length:=by rw[←Hn.out];omega
   obtain⟨a,o,rfl,hcell⟩:=mV (AQ.below HA.out (show Below W.heap.size W wr by rw[←HB.out];exact Hb.out)) hkl
   have hnd:=Hd.out ls[k] (List.getElem_mem hkl)
   obtain⟨x,hx⟩:∃ x,x=ls[k]:=⟨_,rfl⟩
   rw[←hx]at hcell hnd
   unfold Cm at hcell
   have hfs:Fs wr (.slice x.1.1 x.1.2.1 x.1.2.2) (x.2.map Prod.fst):=(N7.below hnd (show Below W.heap.size W wr by rw[←HB.out];exact Hb.out)).fs
   have Rq:=Lib.hid (PR ⟨.slice A1 ns c1,s,.slice A2 nt c2,t⟩ _ (x.2.map Prod.fst) wr (Hm.out.below (by rw[←HB.out];exact Hb.out)) xw.out.disk ⟨by show s.length≤_;rw[VA.out];omega,by show t.length≤_;rw[WQ.out];omega⟩ hfs)
   unfold dV at Rq
   dsimp only at Rq
   clear hx hnd hfs
   generalize x.2.map Prod.fst=fl at *
   have k0:wr.cell? ⟨B,0,none⟩=some (.slice A1 ns c1):=xw.out.blk.cell 0
   have k1:wr.cell? ⟨B,1,none⟩=some (.slice A2 nt c2):=xw.out.blk.cell 1
   go_wp2_with fail
   refine (Rq.out).mono ?_
   rintro e w2 ⟨hr,hb2⟩
   have LV:=Lib.hid (xw.out.below hb2)
   have MU:=Lib.hid (YV.out.below hb2)
   have Hb2:=Lib.hid (Hb.out.trans (hb2.mono Xi))
   have hs2:B≤w2.heap.size:=Nat.le_trans Xi hb2.size
   clear hb2 xw YV Hb Rq k0 k1 hcell
   cases hadd:Kz Bw s t fl with
   | bad z=>
    rw[hadd]at hr
    obtain rfl:=hr
    unfold noD
    have hz1:(z != 0)=true:=by simpa using xZ hadd
    have BA:Below w2.heap.size w2 (w2.alloc (.cells #[.slice none 0 0,.slice none 0 0] 52)):=(Below.refl _ _).alloc (Nat.le_refl _) _
    have IQ:=Lib.hid (LV.out.below BA)
    have QV:=Lib.hid (MU.out.below BA)
    have Hb3:=Lib.hid (Hb2.out.trans (BA.mono hs2))
    clear BA LV MU Hb2 hadd
    go_upto_region 8 with fail
    generalize w2.alloc (.cells #[.slice none 0 0,.slice none 0 0] 52)=w3 at *
    go_wp2_with fail
    go_roundw
    case rel=>exact⟨k+1,kept,s,t,_,_,qs,by omega,by go_num,rfl,by omega,HKs.out,IQ.out,QV.out,Hb3.out⟩
    case measure=>simp[intOf];omega
   | ok a2=>
    obtain⟨s',t'⟩:=a2
    rw[hadd]at hr
    obtain⟨us,uw,rfl,hos,how⟩:=hr
    dsimp only at hos how
    obtain⟨AHU,ACb,AMY⟩:=HKs.out.add hadd
    obtain⟨A3,c3,rfl,_,_,_,_⟩:=hos.slice
    obtain⟨A4,c4,rfl,_,_,_,_⟩:=how.slice
    have AKu:=Lib.hid AHU
    have AHV:=Lib.hid ACb
    generalize hn3:s'.length=n3 at *
    generalize hn4:t'.length=n4 at *
    have Hn3:=Lib.hid hn3
    have Hn4:=Lib.hid hn4
    have hos:BN w2 B (.slice A3 n3 c3) s':=AZ hos Xi
    have how:BN w2 B (.slice A4 n4 c4) t':=AZ how Xi
    have BA:Below w2.heap.size w2 (w2.alloc (.cells #[.slice A3 n3 c3,.slice A4 n4 c4] 52)):=(Below.refl _ _).alloc (Nat.le_refl _) _
    have HB3:=Lib.hid (AV.new w2 52 #[.slice A3 n3 c3,.slice A4 n4 c4])
    have IQ:=Lib.hid (LV.out.below BA)
    have QV:=Lib.hid (MU.out.below BA)
    have AHW:=Lib.hid (BN.keep hos BA)
    have AHX:=Lib.hid (BN.keep how BA)
    have Hb3:=Lib.hid (Hb2.out.trans (BA.mono hs2))
    have hs3:=Nat.le_trans hs2 BA.size
    clear hos how BA LV MU Hb2 hn3 hn4 AHU ACb hadd
    go_upto_region 9 with fail
    generalize w2.heap.size=g2 at *
    generalize w2.alloc (.cells #[.slice A3 n3 c3,.slice A4 n4 c4] 52)=w3 at *
    have k0:w3.cell? ⟨g2,0,none⟩=some (.slice A3 n3 c3):=HB3.out.cell 0
    have k1:w3.cell? ⟨g2,1,none⟩=some (.slice A4 n4 c4):=HB3.out.cell 1
    have q0:w3.cell? ⟨B,0,none⟩=some (.slice A1 ns c1):=IQ.out.blk.cell 0
    have q1:w3.cell? ⟨B,1,none⟩=some (.slice A2 nt c2):=IQ.out.blk.cell 1
    have z0:=IQ.out.blk.frozen 0
    have z1:=IQ.out.blk.frozen 1
    have hk4:=E9 IQ.out.blk (.slice A3 n3 c3) (.slice A4 n4 c4)
    have KZ:=Lib.hid (IQ.out.store AHW.out AHX.out)
    have UG:=Lib.hid (QV.out.keeps hk4 (by decide) (by decide) (by decide))
    have Hb4:=Lib.hid (Hb3.out.trans hk4.below)
    have hs4:=Nat.le_trans hs3 hk4.size
    clear hk4
    go_upto_region 10 with fail
    clear k0 k1 q0 q1 z0 z1 IQ QV Hb3 HB3 AHW AHX
    generalize (w3.setCell ⟨B,0,none⟩ (.slice A3 n3 c3)).setCell ⟨B,1,none⟩ (.slice A4 n4 c4)=w4 at *
    have k0:w4.cell? ⟨B,0,none⟩=some (.slice A3 n3 c3):=KZ.out.blk.cell 0
    have k1:w4.cell? ⟨B,1,none⟩=some (.slice A4 n4 c4):=KZ.out.blk.cell 1
    have kD:=Lib.hid (KW ⟨.slice A3 n3 c3,s',.slice A4 n4 c4,t'⟩ w4 (Hm.out.below (by rw[←HB.out];exact Hb4.out)) KZ.out.disk ⟨by show s'.length≤_;rw[Hn3.out];omega,by show t'.length≤_;rw[Hn4.out];omega⟩)
    unfold dV Gp at kD
    dsimp only at kD
    rw[AHV.out]at kD
    generalize Cc s' t'=fm at *
    go_wp2_with fail
    refine (kD.out).mono ?_
    rintro e w5 ⟨hr,hb5⟩
    rw[if_neg (by simp)]at hr
    obtain⟨v5,rfl,hv5⟩:=hr
    have hv5:VD w5 B v5 fm:=hv5.Qr hs4
    obtain⟨A5,c5,e5⟩:=hv5.fs.slice
    subst e5
    generalize fm.length=nf at *
    have HV5:=Lib.hid hv5
    have AHY:=Lib.hid (KZ.out.below hb5)
    have pW:=Lib.hid (UG.out.below hb5)
    have Hb5:=Lib.hid (Hb4.out.trans (hb5.mono hs4))
    have hs5:=Nat.le_trans hs4 hb5.size
    clear hb5 hv5 kD KZ UG Hb4 k0 k1
    have BA:Below w5.heap.size w5 (w5.alloc (.cells #[.slice A5 nf c5] 22)):=(Below.refl _ _).alloc (Nat.le_refl _) _
    have HZ:Hid (AQ (w5.alloc (.cells #[.slice A5 nf c5] 22)) (some ⟨w5.heap.size,0,none⟩) [jV ((A5,nf,c5),fm)]):=Lib.hid (AQ.of_heap (heap_alloc_new _ _) rfl)
    have HV6:=Lib.hid (HV5.out.below BA)
    have AHZ:=Lib.hid (AHY.out.below BA)
    have ABN:=Lib.hid (pW.out.below BA)
    have Jc:=Lib.hid (Hb5.out.trans (BA.mono hs5))
    have hs6:B≤(w5.alloc (.cells #[.slice A5 nf c5] 22)).heap.size:=Nat.le_trans hs5 BA.size
    clear BA HV5 AHY pW Hb5
    obtain⟨ANU,AMZ⟩:∃ L,L=qs.length:=⟨_,rfl⟩
    go_upto_region 14 with (at_builtin;refine AY _ rfl (.tmp 47) (.tmp 49) _ rfl B 22 _ 1 24 tyN _ qs.length (qs.map jV) rfl ABN.out.row (some ⟨w5.heap.size,0,none⟩) 1 1 [jV ((A5,nf,c5),fm)] rfl rfl HZ.out (by simp[jV,Value.oneCell']) (by simp) (by unfold maxLen;omega) (by omega) hs6 ?_;intro v7 w7 WS ET _;have Hk7:=Lib.hid ((AJ.refl B nT _).grown ABN.out.row ET (by simp[nT]) hs6);have Nv:=Lib.hid WS;obtain⟨A7,c7,e7,_,_,_,_⟩:=Ad WS;subst e7;clear WS ET)
    have AEg:Hid (Had w7 B (.slice A7 (qs.length+1) c7) (qs++[((A5,nf,c5),fm)])):=Lib.hid ⟨by
     rw[List.length_append,List.map_append]
     exact Nv.out,fun q hq=>by
     rcases List.mem_append.1 hq with h | h
     ·exact (ABN.out.each q h).keeps Hk7.out (by decide) (by decide)
     ·rw[List.mem_singleton.1 h];exact HV6.out.keeps Hk7.out (by decide) (by decide)⟩
    have pX:=Lib.hid (AHZ.out.keeps Hk7.out (by decide) (by decide))
    have FR:=Lib.hid (Jc.out.trans Hk7.out.below)
    have hs7:=Nat.le_trans hs6 Hk7.out.size
    have AHa:Hid (KS s' t' ((qs++[((A5,nf,c5),fm)]).map Prod.snd) kept):=Lib.hid (by rw[List.map_append];exact AKu.out)
    have AHb:(qs++[((A5,nf,c5),fm)]).length=qs.length+1:=by rw[List.length_append];rfl
    have AEh:=Lib.hid AHb
    clear AHb Nv Hk7 HZ HV6 AHZ ABN Jc
    generalize qs++[((A5,nf,c5),fm)]=qs2 at *
    by_cases kF:(k:Int)=safe
    ·have hse:((k:Int) == safe)=true:=by rw[beq_iff_eq];exact kF
     clear kF
     have k0:w7.cell? ⟨B,0,none⟩=some (.slice A3 n3 c3):=pX.out.blk.cell 0
     have k1:w7.cell? ⟨B,1,none⟩=some (.slice A4 n4 c4):=pX.out.blk.cell 1
     obtain⟨AHc,hfl⟩:=AHa.out.flush
     have AKv:=Lib.hid AHc
     have Yd:=Lib.hid (QU ⟨.slice A3 n3 c3,s',.slice A4 n4 c4,t'⟩ w7 (Hm.out.below (by rw[←HB.out];exact FR.out)) pX.out.disk ⟨by show s'.length≤_;rw[Hn3.out];omega,by show t'.length≤_;rw[Hn4.out];omega⟩)
     unfold dV at Yd
     dsimp only at Yd
     rw[hfl]at Yd
     clear AHc hfl
     go_wp2_with fail
     refine (Yd.out).mono ?_
     rintro e w8 ⟨⟨us,uw,rfl,hos,how⟩,Kk⟩
     dsimp only at hos how
     obtain⟨A8,c8,rfl,_,_,_,_⟩:=hos.slice
     obtain⟨A9,c9,rfl,_,_,_,_⟩:=how.slice
     simp only[List.length_nil]at how⊢
     obtain⟨n8,hn8⟩:∃ n8,n8=(s'++t').length:=⟨_,rfl⟩
     rw[←hn8]at hos⊢
     have hos:BN w8 B (.slice A8 n8 c8) (s'++t'):=AZ hos hs7
     have how:BN w8 B (.slice A9 0 c9) []:=AZ how hs7
     have gG:=Lib.hid (pX.out.below Kk)
     have AHd:=Lib.hid (AEg.out.below Kk)
     have EJ:=Lib.hid (FR.out.trans (Kk.mono hs7))
     have hs8:=Nat.le_trans hs7 Kk.size
     have q0:w8.cell? ⟨B,0,none⟩=some (.slice A3 n3 c3):=gG.out.blk.cell 0
     have q1:w8.cell? ⟨B,1,none⟩=some (.slice A4 n4 c4):=gG.out.blk.cell 1
     have z0:=gG.out.blk.frozen 0
     have z1:=gG.out.blk.frozen 1
     have vK:=E9 gG.out.blk (.slice A8 n8 c8) (.slice A9 0 c9)
     have AKw:=Lib.hid (gG.out.store hos how)
     have AKx:=Lib.hid (AHd.out.keeps vK (by decide) (by decide) (by decide))
     have Sa:=Lib.hid (EJ.out.trans vK.below)
     clear hos how Kk vK Yd k0 k1 pX AEg FR hn8
     go_upto_region 16 with fail
     clear q0 q1 z0 z1 gG AHd EJ
     generalize (w8.setCell ⟨B,0,none⟩ (.slice A8 n8 c8)).setCell ⟨B,1,none⟩ (.slice A9 0 c9)=w9 at *
     have hwl:IntKind.i64.wrap (((qs.length+1:Nat):Int) - 1)=((qs.length:Nat):Int):=by
      rw[show ((qs.length+1:Nat):Int) - 1=((qs.length:Nat):Int) by omega];exact IntWalk.i64_in _ (by omega)
     have ANV:IntKind.i64.wrap (((qs.length:Nat):Int)+1 - 1)=((qs.length:Nat):Int):=by
      rw[show ((qs.length:Nat):Int)+1 - 1=((qs.length:Nat):Int) by omega];exact IntWalk.i64_in _ (by omega)
     go_wp2_with fail
     go_roundw
     case rel=>exact⟨k+1,qs.length,s'++t',[],_,_,qs2,by omega,by go_num,by go_num,by rw[AEh.out];omega,by have:=AKv.out;rw[List.length_map,AEh.out,Nat.add_sub_cancel]at this;exact this,AKw.out,AKx.out,Sa.out⟩
     case measure=>simp[intOf];omega
    ·have hse:((k:Int) == safe)=false:=by rw[beq_eq_false_iff_ne];exact kF
     clear kF
     go_wp2_with fail
     go_roundw
     case rel=>exact⟨k+1,kept,s',t',_,_,qs2,by omega,by go_num,rfl,by rw[AEh.out];omega,AHa.out,pX.out,AEg.out,FR.out⟩
     case measure=>simp[intOf];omega
  ·have hlt':¬ (k:Int) < (m:Int):=by omega
   have HAt:=Lib.hid (fun w=>AAD cut ((nt:Int)+1) w wc1 wc2 (by omega) (by omega))
   obtain⟨kk,hkk⟩:∃ kk:Nat,cut % ((nt:Int)+1)=(kk:Int):=⟨(cut % ((nt:Int)+1)).toNat,by have:=Int.emod_nonneg cut (show (nt:Int)+1≠0 by omega);omega⟩
   have hkt:kk≤nt:=by
    have:=Int.emod_lt_of_pos cut (show (0:Int) < (nt:Int)+1 by omega)
    omega
   rw[hkk]at HAt
   obtain⟨c,lost,mm,j,e1,e2,e3,e4,e5,e6,e7,e8⟩:=HKs.out.end_ (k:=kk) (by rw[WQ.out];exact hkt)
   have E2:=Lib.hid e2
   have E3:=Lib.hid e3
   have E4:=Lib.hid e4
   have E8:=Lib.hid e8
   have AKy:Hid ((qs.drop kept).any (fun q:Nq=>BB mm q.2)=true):=Lib.hid (by
    rw[List.any_eq_true]
    rw[List.getElem?_map]at e6
    cases hq:qs[j]? with
    | none=>rw[hq]at e6;cases e6
    | some q=>
     rw[hq]at e6
     injection e6 with e6
     refine⟨q,?_,?_⟩
     ·have:(qs.drop kept)[j - kept]?=some q:=by rw[List.getElem?_drop,show kept+(j - kept)=j by omega,hq]
      exact List.mem_of_getElem? this
     ·show BB mm q.2=true
      rw[e6];exact Sz mm)
   have rM:=Lib.hid (fun w (hb:Below B W w) (hd:Fq w _)=>j6 ⟨.slice A1 ns c1,s,.slice A2 nt c2,t⟩ (kk:Int) w (Hm.out.below (by rw[←HB.out];exact hb)) hd ⟨by show s.length≤_;rw[VA.out];omega,by show t.length≤_;rw[WQ.out];omega⟩)
   unfold dV at rM
   dsimp only at rM
   rw[e1]at rM
   have ANW:IntKind.i64.wrap ((nt:Int)+1)=(nt:Int)+1:=IntWalk.i64_in _ (by omega)
   obtain⟨gh,ch,hvh,_,_⟩:=YV.out.row.form (by omega)
   subst hvh
   obtain⟨A9,c9,eh,ANX,AKz,_,_⟩:=Ad YV.out.row
   injection eh with eh1 eh2 eh3
   subst eh1 eh3
   clear eh2
   clear e1 e2 e3 e4 e6 e8 hkk HKs
   generalize AHe:c.length=nc at *
   have Hnc:=Lib.hid AHe
   clear AHe
   go_upto_region 20 with fail
   go_cut [15,16,17] from 65 to 76 (fun v15 v16 v17 wx=>∃ (g5:Nat) (Ac:Option Addr) (cc:Nat),v15=.pointer (some ⟨g5,0,none⟩)∧v16=.int .i64 (lost:Int)∧v17=.int .i64 0∧AV wx g5 52 #[.slice Ac nc cc,.slice none 0 0]∧BN wx B (.slice Ac nc cc) c∧L9 wx B B s t (.slice A1 ns c1) (.slice A2 nt c2)∧Had wx B (.slice (some ⟨gh,0,none⟩) qs.length ch) qs∧Below B W wx)
   case first=>
    refine FI ?_
    refine Bp (fun W=>AV W B 52 #[.slice A1 ns c1,.slice A2 nt c2]) 15 (by kernel_rfl) ?_
    have hHeld:AV wr.drew B 52 #[.slice A1 ns c1,.slice A2 nt c2]:=xw.out.blk
    have hdr:Below wr.heap.size wr wr.drew:=(Below.refl _ _).drew
    have LV:=Lib.hid (xw.out.below hdr)
    have MU:=Lib.hid (YV.out.below hdr)
    have Hb2:=Lib.hid (Hb.out.trans (hdr.mono Xi))
    have hs2:B≤wr.drew.heap.size:=Nat.le_trans Xi hdr.size
    clear hdr xw YV Hb
    generalize wr.drew=w2 at *
    refine AA (i:=0) (v:=?zn) (by kernel_rfl) (by kernel_rfl) rfl (by kernel_rfl) (by kernel_rfl) (by kernel_rfl) (fun _ _ _ h=>by cases h.1) (by rfl) (by assumption) ?Js ?Jt
    case Js=>(intro W hSW;have k0:=hSW.cell 0;have k1:=hSW.cell 1;go_simp;try with_reducible rfl)
    (try simp only[Act.put,l0A,l0B,l0C,l0D,l0E,l0F])
    refine AA (i:=1) (v:=?vG) (by kernel_rfl) (by kernel_rfl) rfl (by kernel_rfl) (by kernel_rfl) (by kernel_rfl) (fun _ _ _ h=>by cases h.1) (by rfl) (by assumption) ?JE ?JF
    case JE=>(intro W hSW;have k0:=hSW.cell 0;have k1:=hSW.cell 1;go_simp;try with_reducible rfl)
    (try simp only[Act.put,l0A,l0B,l0C,l0D,l0E,l0F])
    refine AA (i:=2) (v:=?va2) (by kernel_rfl) (by kernel_rfl) rfl (by kernel_rfl) (by kernel_rfl) (by kernel_rfl) (fun _ _ _ h=>by cases h.1) (by rfl) (by assumption) ?OA ?OB
    case OA=>(intro W hSW;have k0:=hSW.cell 0;have k1:=hSW.cell 1;go_simp;try with_reducible rfl)
    (try simp only[Act.put,l0A,l0B,l0C,l0D,l0E,l0F])
    refine AA (i:=3) (v:=?va3) (by kernel_rfl) (by kernel_rfl) rfl (by kernel_rfl) (by kernel_rfl) (by kernel_rfl) (fun _ _ _ h=>by cases h.1) (by rfl) (by assumption) ?K5 ?K6
    case K5=>(intro W hSW;have k0:=hSW.cell 0;have k1:=hSW.cell 1;go_simp;try with_reducible rfl)
    (try simp only[Act.put,l0A,l0B,l0C,l0D,l0E,l0F])
    refine AA (i:=4) (v:=?va4) (by kernel_rfl) (by kernel_rfl) rfl (by kernel_rfl) (by kernel_rfl) (by kernel_rfl) (fun _ _ _ h=>by cases h.1) (by rfl) (by assumption) ?K7 ?K8
    case K7=>(intro W hSW;have k0:=hSW.cell 0;have k1:=hSW.cell 1;go_simp;try with_reducible rfl)
    (try simp only[Act.put,l0A,l0B,l0C,l0D,l0E,l0F])
    refine AA (i:=5) (v:=?va5) (by kernel_rfl) (by kernel_rfl) rfl (by kernel_rfl) (by kernel_rfl) (by kernel_rfl) (fun _ _ _ h=>by cases h.1) (by rfl) (by assumption) ?K9 ?LC
    case K9=>(intro W hSW;have k0:=hSW.cell 0;have k1:=hSW.cell 1;go_simp;try with_reducible rfl)
    (try simp only[Act.put,l0A,l0B,l0C,l0D,l0E,l0F])
    refine Fw (i:=6) (j:=12) rfl rfl (by kernel_rfl) (fun K hK=>?_) (fun K hK=>?_)
    ·go_simp
     go_at_call 41
     refine (HAt.out w2).mono ?_
     rintro e wq ⟨rfl,hwq⟩
     subst hwq
     have Bq:=LV.out.blk
     refine hK.out _ _ Bq (fun hHeld=>?_)
     clear hK K Bq
     (try simp only[Act.put,l0A,l0B,l0C,l0D,l0E,l0F])
     refine Fw (i:=7) (j:=12) rfl rfl (by kernel_rfl) (fun K hK=>?_) (fun K hK=>?_)
     ·go_simp
      go_at_call 37
      refine (rM.out w2 Hb2.out LV.out.disk).mono ?_
      rintro e w3 ⟨⟨vc,rfl,hoc⟩,hbz⟩
      dsimp only at hoc⊢
      obtain⟨Ac,cc,rfl,_,_,_,_⟩:=hoc.slice
      rw[Hnc.out]at hoc⊢
      have AK0:Hid (BN w3 B (.slice Ac nc cc) c):=Lib.hid (AZ hoc hs2)
      have IQ:=Lib.hid (LV.out.below hbz)
      have QV:=Lib.hid (MU.out.below hbz)
      have Hb3:=Lib.hid (Hb2.out.trans (hbz.mono hs2))
      have hs3:=Nat.le_trans hs2 hbz.size
      have Bq:=IQ.out.blk
      refine hK.out _ _ Bq (fun hHeld=>?_)
      clear hK K Bq hoc hbz LV MU Hb2
      (try simp only[Act.put,l0A,l0B,l0C,l0D,l0E,l0F])
      refine AA (i:=8) (v:=?vb8) (by kernel_rfl) (by kernel_rfl) rfl (by kernel_rfl) (by kernel_rfl) (by kernel_rfl) (fun _ _ _ h=>by cases h.1) (by rfl) (by assumption) ?vI ?vJ
      case vI=>(intro W hSW;have k0:=hSW.cell 0;have k1:=hSW.cell 1;go_simp;try with_reducible rfl)
      (try simp only[Act.put,l0A,l0B,l0C,l0D,l0E,l0F])
      refine AA (i:=9) (v:=?vb9) (by kernel_rfl) (by kernel_rfl) rfl (by kernel_rfl) (by kernel_rfl) (by kernel_rfl) (fun _ _ _ h=>by cases h.1) (by rfl) (by assumption) ?dn ?dw
      case dn=>(intro W hSW;have k0:=hSW.cell 0;have k1:=hSW.cell 1;go_simp;try with_reducible rfl)
      (try simp only[Act.put,l0A,l0B,l0C,l0D,l0E,l0F])
      refine AA (i:=10) (v:=?AGV) (by kernel_rfl) (by kernel_rfl) rfl (by kernel_rfl) (by kernel_rfl) (by kernel_rfl) (fun _ _ _ h=>by cases h.1) (by rfl) (by assumption) ?ZU ?jX
      case ZU=>(intro W hSW;have k0:=hSW.cell 0;have k1:=hSW.cell 1;go_simp;try with_reducible rfl)
      (try simp only[Act.put,l0A,l0B,l0C,l0D,l0E,l0F])
      refine AA (i:=11) (v:=?AHJ) (by kernel_rfl) (by kernel_rfl) rfl (by kernel_rfl) (by kernel_rfl) (by kernel_rfl) (fun _ _ _ h=>by cases h.1) (by rfl) (by assumption) ?aD ?kC
      case aD=>(intro W hSW;have k0:=hSW.cell 0;have k1:=hSW.cell 1;go_simp;try with_reducible rfl)
      (try simp only[Act.put,l0A,l0B,l0C,l0D,l0E,l0F])
      refine AB (i:=12) rfl (by kernel_rfl) (fun K hK=>?_)
      have hBl:B < w3.heap.size:=IQ.out.blk.lt
      go_simp
      have BA:Below w3.heap.size w3 (w3.alloc (.cells #[.slice none 0 0,.slice none 0 0] 52)):=(Below.refl _ _).alloc (Nat.le_refl _) _
      have Kl:=Lib.hid (AV.new w3 52 #[.slice none 0 0,.slice none 0 0])
      have KZ:=Lib.hid (IQ.out.below BA)
      have UG:=Lib.hid (QV.out.below BA)
      have Hb4:=Lib.hid (Hb3.out.trans (BA.mono hs3))
      have hs4:=Nat.le_trans hs3 BA.size
      have hg4:B≤w3.heap.size:=hs3
      have aJ:=Lib.hid (AK0.out.keep BA)
      have Bq:=KZ.out.blk
      refine hK.out _ _ Bq (fun hHeld=>?_)
      clear hK K Bq BA IQ QV Hb3
      (try simp only[Act.put,l0A,l0B,l0C,l0D,l0E,l0F])
      generalize w3.heap.size=g5 at *
      generalize w3.alloc (.cells #[.slice none 0 0,.slice none 0 0] 52)=w4 at *
      have HBg:B≠g5:=by omega
      have aK:B≤g5:=by omega
      have q0:w4.cell? ⟨g5,0,none⟩=some (.slice none 0 0):=Kl.out.cell 0
      have q1:w4.cell? ⟨g5,1,none⟩=some (.slice none 0 0):=Kl.out.cell 1
      have z0:=Kl.out.frozen 0
      have z1:=Kl.out.frozen 1
      have hgB:B≠g5:=HBg
      have hkz:=E9 Kl.out (.slice Ac nc cc) (.slice none 0 0)
      have HGz:=Lib.hid (Ct Kl.out (.slice Ac nc cc) (.slice none 0 0))
      have YD:=Lib.hid (hkz.own aJ.out (by decide))
      have UH:Hid (L9 _ B B s t (.slice A1 ns c1) (.slice A2 nt c2)):=Lib.hid ⟨(KZ.out.blk.far (p:=⟨g5,0,none⟩) hgB (.slice Ac nc cc)).far (p:=⟨g5,1,none⟩) hgB (.slice none 0 0),hkz.own KZ.out.os (by decide),hkz.own KZ.out.ow (by decide)⟩
      have xx:=Lib.hid (UG.out.keeps hkz (by decide) (by decide) (by decide))
      have aL:=Lib.hid (Hb4.out.trans (hkz.below.mono aK))
      refine AB (i:=13) rfl (by kernel_rfl) (fun K hK=>?_)
      go_simp
      clear q0 q1 z0 z1
      have Bq:=UH.out.blk
      refine hK.out _ _ Bq (fun hHeld=>?_)
      clear hK K Bq hkz
      (try simp only[Act.put,l0A,l0B,l0C,l0D,l0E,l0F])
      generalize (w4.setCell ⟨g5,0,none⟩ (.slice Ac nc cc)).setCell ⟨g5,1,none⟩ (.slice none 0 0)=wz at *
      refine AB (i:=14) rfl (by kernel_rfl) (fun K hK=>?_)
      go_simp
      have Bq:=UH.out.blk
      refine hK.out _ _ Bq (fun hHeld=>?_)
      clear hK K Bq
      (try simp only[Act.put,l0A,l0B,l0C,l0D,l0E,l0F])
      refine BH rfl (by kernel_rfl) (by kernel_rfl) (fun K hK=>?_)
      go_simp
      refine hK.out _ _ ⟨rfl,?_⟩
      clear hK K
      go_wp2_with fail
      go_meet
      case rel=>exact⟨g5,Ac,cc,rfl,rfl,rfl,HGz.out,YD.out,UH.out,xx.out,aL.out⟩
     ·have hBl:B < w2.heap.size:=LV.out.blk.lt
      go_simp
      have BA:Below w2.heap.size w2 (w2.alloc (.cells #[.slice none 0 0,.slice none 0 0] 52)):=(Below.refl _ _).alloc (Nat.le_refl _) _
      have HG3:=Lib.hid (AV.new w2 52 #[.slice none 0 0,.slice none 0 0])
      have IQ:=Lib.hid (LV.out.below BA)
      have QV:=Lib.hid (MU.out.below BA)
      have Hb3:=Lib.hid (Hb2.out.trans (BA.mono hs2))
      have hs3:=Nat.le_trans hs2 BA.size
      have hg3:B≤w2.heap.size:=hs2
      have Bq:=IQ.out.blk
      refine hK.out _ _ Bq (fun hHeld=>?_)
      clear hK K Bq BA LV MU Hb2
      (try simp only[Act.put,l0A,l0B,l0C,l0D,l0E,l0F])
      generalize w2.heap.size=g5 at *
      generalize w2.alloc (.cells #[.slice none 0 0,.slice none 0 0] 52)=w3 at *
      refine AB (i:=7) rfl (by kernel_rfl) (fun K hK=>?_)
      go_simp
      go_at_call 37
      refine (rM.out w3 Hb3.out IQ.out.disk).mono ?_
      rintro e w4 ⟨⟨vc,rfl,hoc⟩,hbz⟩
      dsimp only at hoc⊢
      obtain⟨Ac,cc,rfl,_,_,_,_⟩:=hoc.slice
      rw[Hnc.out]at hoc⊢
      have aJ:Hid (BN w4 B (.slice Ac nc cc) c):=Lib.hid (AZ hoc hs3)
      have KZ:=Lib.hid (IQ.out.below hbz)
      have UG:=Lib.hid (QV.out.below hbz)
      have Hb4:=Lib.hid (Hb3.out.trans (hbz.mono hs3))
      have hs4:=Nat.le_trans hs3 hbz.size
      have Kl:=Lib.hid (HG3.out.below hbz HG3.out.lt)
      have Bq:=KZ.out.blk
      refine hK.out _ _ Bq (fun hHeld=>?_)
      clear hK K Bq hoc hbz IQ QV Hb3
      (try simp only[Act.put,l0A,l0B,l0C,l0D,l0E,l0F])
      refine AA (i:=8) (v:=?vc8) (by kernel_rfl) (by kernel_rfl) rfl (by kernel_rfl) (by kernel_rfl) (by kernel_rfl) (fun _ _ _ h=>by cases h.1) (by rfl) (by assumption) ?AK1 ?AK2
      case AK1=>(intro W hSW;have k0:=hSW.cell 0;have k1:=hSW.cell 1;go_simp;try with_reducible rfl)
      (try simp only[Act.put,l0A,l0B,l0C,l0D,l0E,l0F])
      refine AA (i:=9) (v:=?vc9) (by kernel_rfl) (by kernel_rfl) rfl (by kernel_rfl) (by kernel_rfl) (by kernel_rfl) (fun _ _ _ h=>by cases h.1) (by rfl) (by assumption) ?AK3 ?AK4
      case AK3=>(intro W hSW;have k0:=hSW.cell 0;have k1:=hSW.cell 1;go_simp;try with_reducible rfl)
      (try simp only[Act.put,l0A,l0B,l0C,l0D,l0E,l0F])
      refine AA (i:=10) (v:=?ANZ) (by kernel_rfl) (by kernel_rfl) rfl (by kernel_rfl) (by kernel_rfl) (by kernel_rfl) (fun _ _ _ h=>by cases h.1) (by rfl) (by assumption) ?AHf ?AJP
      case AHf=>(intro W hSW;have k0:=hSW.cell 0;have k1:=hSW.cell 1;go_simp;try with_reducible rfl)
      (try simp only[Act.put,l0A,l0B,l0C,l0D,l0E,l0F])
      refine AA (i:=11) (v:=?ANa) (by kernel_rfl) (by kernel_rfl) rfl (by kernel_rfl) (by kernel_rfl) (by kernel_rfl) (fun _ _ _ h=>by cases h.1) (by rfl) (by assumption) ?AHg ?AJQ
      case AHg=>(intro W hSW;have k0:=hSW.cell 0;have k1:=hSW.cell 1;go_simp;try with_reducible rfl)
      (try simp only[Act.put,l0A,l0B,l0C,l0D,l0E,l0F])
      have HBg:B≠g5:=by omega
      have aK:B≤g5:=by omega
      have q0:w4.cell? ⟨g5,0,none⟩=some (.slice none 0 0):=Kl.out.cell 0
      have q1:w4.cell? ⟨g5,1,none⟩=some (.slice none 0 0):=Kl.out.cell 1
      have z0:=Kl.out.frozen 0
      have z1:=Kl.out.frozen 1
      have hgB:B≠g5:=HBg
      have hkz:=E9 Kl.out (.slice Ac nc cc) (.slice none 0 0)
      have HGz:=Lib.hid (Ct Kl.out (.slice Ac nc cc) (.slice none 0 0))
      have YD:=Lib.hid (hkz.own aJ.out (by decide))
      have UH:Hid (L9 _ B B s t (.slice A1 ns c1) (.slice A2 nt c2)):=Lib.hid ⟨(KZ.out.blk.far (p:=⟨g5,0,none⟩) hgB (.slice Ac nc cc)).far (p:=⟨g5,1,none⟩) hgB (.slice none 0 0),hkz.own KZ.out.os (by decide),hkz.own KZ.out.ow (by decide)⟩
      have xx:=Lib.hid (UG.out.keeps hkz (by decide) (by decide) (by decide))
      have aL:=Lib.hid (Hb4.out.trans (hkz.below.mono aK))
      refine AB (i:=13) rfl (by kernel_rfl) (fun K hK=>?_)
      go_simp
      clear q0 q1 z0 z1
      have Bq:=UH.out.blk
      refine hK.out _ _ Bq (fun hHeld=>?_)
      clear hK K Bq hkz
      (try simp only[Act.put,l0A,l0B,l0C,l0D,l0E,l0F])
      generalize (w4.setCell ⟨g5,0,none⟩ (.slice Ac nc cc)).setCell ⟨g5,1,none⟩ (.slice none 0 0)=wz at *
      refine AB (i:=14) rfl (by kernel_rfl) (fun K hK=>?_)
      go_simp
      have Bq:=UH.out.blk
      refine hK.out _ _ Bq (fun hHeld=>?_)
      clear hK K Bq
      (try simp only[Act.put,l0A,l0B,l0C,l0D,l0E,l0F])
      refine BH rfl (by kernel_rfl) (by kernel_rfl) (fun K hK=>?_)
      go_simp
      refine hK.out _ _ ⟨rfl,?_⟩
      clear hK K
      go_wp2_with fail
      go_meet
      case rel=>exact⟨g5,Ac,cc,rfl,rfl,rfl,HGz.out,YD.out,UH.out,xx.out,aL.out⟩
    ·have hBl:B < w2.heap.size:=LV.out.blk.lt
     go_simp
     have BA:Below w2.heap.size w2 (w2.alloc (.cells #[.slice none 0 0,.slice none 0 0] 52)):=(Below.refl _ _).alloc (Nat.le_refl _) _
     have HG3:=Lib.hid (AV.new w2 52 #[.slice none 0 0,.slice none 0 0])
     have IQ:=Lib.hid (LV.out.below BA)
     have QV:=Lib.hid (MU.out.below BA)
     have Hb3:=Lib.hid (Hb2.out.trans (BA.mono hs2))
     have hs3:=Nat.le_trans hs2 BA.size
     have hg3:B≤w2.heap.size:=hs2
     have Bq:=IQ.out.blk
     refine hK.out _ _ Bq (fun hHeld=>?_)
     clear hK K Bq BA LV MU Hb2
     (try simp only[Act.put,l0A,l0B,l0C,l0D,l0E,l0F])
     generalize w2.heap.size=g5 at *
     generalize w2.alloc (.cells #[.slice none 0 0,.slice none 0 0] 52)=w3 at *
     refine AB (i:=6) rfl (by kernel_rfl) (fun K hK=>?_)
     go_simp
     go_at_call 41
     refine (HAt.out w3).mono ?_
     rintro e wq ⟨rfl,hwq⟩
     subst hwq
     have Bq:=IQ.out.blk
     refine hK.out _ _ Bq (fun hHeld=>?_)
     clear hK K Bq
     (try simp only[Act.put,l0A,l0B,l0C,l0D,l0E,l0F])
     refine AB (i:=7) rfl (by kernel_rfl) (fun K hK=>?_)
     go_simp
     go_at_call 37
     refine (rM.out w3 Hb3.out IQ.out.disk).mono ?_
     rintro e w4 ⟨⟨vc,rfl,hoc⟩,hbz⟩
     dsimp only at hoc⊢
     obtain⟨Ac,cc,rfl,_,_,_,_⟩:=hoc.slice
     rw[Hnc.out]at hoc⊢
     have aJ:Hid (BN w4 B (.slice Ac nc cc) c):=Lib.hid (AZ hoc hs3)
     have KZ:=Lib.hid (IQ.out.below hbz)
     have UG:=Lib.hid (QV.out.below hbz)
     have Hb4:=Lib.hid (Hb3.out.trans (hbz.mono hs3))
     have hs4:=Nat.le_trans hs3 hbz.size
     have Kl:=Lib.hid (HG3.out.below hbz HG3.out.lt)
     have Bq:=KZ.out.blk
     refine hK.out _ _ Bq (fun hHeld=>?_)
     clear hK K Bq hoc hbz IQ QV Hb3
     (try simp only[Act.put,l0A,l0B,l0C,l0D,l0E,l0F])
     refine AA (i:=8) (v:=?vd8) (by kernel_rfl) (by kernel_rfl) rfl (by kernel_rfl) (by kernel_rfl) (by kernel_rfl) (fun _ _ _ h=>by cases h.1) (by rfl) (by assumption) ?AK5 ?AK6
     case AK5=>(intro W hSW;have k0:=hSW.cell 0;have k1:=hSW.cell 1;go_simp;try with_reducible rfl)
     (try simp only[Act.put,l0A,l0B,l0C,l0D,l0E,l0F])
     refine AA (i:=9) (v:=?vd9) (by kernel_rfl) (by kernel_rfl) rfl (by kernel_rfl) (by kernel_rfl) (by kernel_rfl) (fun _ _ _ h=>by cases h.1) (by rfl) (by assumption) ?AK7 ?AK8
     case AK7=>(intro W hSW;have k0:=hSW.cell 0;have k1:=hSW.cell 1;go_simp;try with_reducible rfl)
     (try simp only[Act.put,l0A,l0B,l0C,l0D,l0E,l0F])
     refine AA (i:=10) (v:=?ANb) (by kernel_rfl) (by kernel_rfl) rfl (by kernel_rfl) (by kernel_rfl) (by kernel_rfl) (fun _ _ _ h=>by cases h.1) (by rfl) (by assumption) ?AHh ?AJR
     case AHh=>(intro W hSW;have k0:=hSW.cell 0;have k1:=hSW.cell 1;go_simp;try with_reducible rfl)
     (try simp only[Act.put,l0A,l0B,l0C,l0D,l0E,l0F])
     refine AA (i:=11) (v:=?ANc) (by kernel_rfl) (by kernel_rfl) rfl (by kernel_rfl) (by kernel_rfl) (by kernel_rfl) (fun _ _ _ h=>by cases h.1) (by rfl) (by assumption) ?AHi ?AJS
     case AHi=>(intro W hSW;have k0:=hSW.cell 0;have k1:=hSW.cell 1;go_simp;try with_reducible rfl)
     (try simp only[Act.put,l0A,l0B,l0C,l0D,l0E,l0F])
     have HBg:B≠g5:=by omega
     have aK:B≤g5:=by omega
     have q0:w4.cell? ⟨g5,0,none⟩=some (.slice none 0 0):=Kl.out.cell 0
     have q1:w4.cell? ⟨g5,1,none⟩=some (.slice none 0 0):=Kl.out.cell 1
     have z0:=Kl.out.frozen 0
     have z1:=Kl.out.frozen 1
     have hgB:B≠g5:=HBg
     have hkz:=E9 Kl.out (.slice Ac nc cc) (.slice none 0 0)
     have HGz:=Lib.hid (Ct Kl.out (.slice Ac nc cc) (.slice none 0 0))
     have YD:=Lib.hid (hkz.own aJ.out (by decide))
     have UH:Hid (L9 _ B B s t (.slice A1 ns c1) (.slice A2 nt c2)):=Lib.hid ⟨(KZ.out.blk.far (p:=⟨g5,0,none⟩) hgB (.slice Ac nc cc)).far (p:=⟨g5,1,none⟩) hgB (.slice none 0 0),hkz.own KZ.out.os (by decide),hkz.own KZ.out.ow (by decide)⟩
     have xx:=Lib.hid (UG.out.keeps hkz (by decide) (by decide) (by decide))
     have aL:=Lib.hid (Hb4.out.trans (hkz.below.mono aK))
     refine AB (i:=13) rfl (by kernel_rfl) (fun K hK=>?_)
     go_simp
     clear q0 q1 z0 z1
     have Bq:=UH.out.blk
     refine hK.out _ _ Bq (fun hHeld=>?_)
     clear hK K Bq hkz
     (try simp only[Act.put,l0A,l0B,l0C,l0D,l0E,l0F])
     generalize (w4.setCell ⟨g5,0,none⟩ (.slice Ac nc cc)).setCell ⟨g5,1,none⟩ (.slice none 0 0)=wz at *
     refine AB (i:=14) rfl (by kernel_rfl) (fun K hK=>?_)
     go_simp
     have Bq:=UH.out.blk
     refine hK.out _ _ Bq (fun hHeld=>?_)
     clear hK K Bq
     (try simp only[Act.put,l0A,l0B,l0C,l0D,l0E,l0F])
     refine BH rfl (by kernel_rfl) (by kernel_rfl) (fun K hK=>?_)
     go_simp
     refine hK.out _ _ ⟨rfl,?_⟩
     clear hK K
     go_wp2_with fail
     go_meet
     case rel=>exact⟨g5,Ac,cc,rfl,rfl,rfl,HGz.out,YD.out,UH.out,xx.out,aL.out⟩
   case rest=>
    obtain⟨g5,Ac,cc,rfl,rfl,rfl,hg5,hoc,hdk,hhd,hbw⟩:=hcut
    have hsg:B≤wc.heap.size:=Nat.le_of_lt hdk.blk.lt
    have eQ:=Lib.hid hg5
    have HOc:=Lib.hid hoc
    have xw:=Lib.hid hdk
    have YV:=Lib.hid hhd
    have Hb:=Lib.hid hbw
    clear hg5 hoc hdk hhd hbw
    have AHj:=Lib.hid (aH wc (Hm.out.below (by rw[←HB.out];exact Hb.out)))
    have AMa:¬ (lost:Int) < 0:=by omega
    go_wp2_with fail
    refine (AHj.out).mono ?_
    rintro e w2 ⟨rfl,hb2⟩
    have HG2:=Lib.hid (eQ.out.below hb2 eQ.out.lt)
    have ABO:=Lib.hid (HOc.out.keep hb2)
    have LV:=Lib.hid (xw.out.below hb2)
    have MU:=Lib.hid (YV.out.below hb2)
    have Hb2:=Lib.hid (Hb.out.trans (hb2.mono hsg))
    have hs2:=Nat.le_trans hsg hb2.size
    clear hb2 eQ HOc xw YV Hb AHj
    have k0:w2.cell? ⟨B,0,none⟩=some (.slice A1 ns c1):=LV.out.blk.cell 0
    have q0:w2.cell? ⟨g5,0,none⟩=some (.slice Ac nc cc):=HG2.out.cell 0
    have q1:w2.cell? ⟨g5,1,none⟩=some (.slice none 0 0):=HG2.out.cell 1
    obtain⟨Ax,cx,ex,x1,x2,x3,_⟩:=ABO.out.slice
    injection ex with ex1 ex2 ex3
    subst ex1 ex3
    clear ex2
    obtain⟨Ay,cy,ey,y1,y2,y3,_⟩:=LV.out.os.slice
    injection ey with ey1 ey2 ey3
    subst ey1 ey3
    clear ey2
    have HHp:=Lib.hid (fu Ac A1 nc ns cc c1 c s w2 Hnc.out VA.out (by rw[←Hnc.out];exact x1) (by unfold maxLen at x2;omega) (by omega) x3 y3)
    rw[←VA.out,E2.out,show decide (s=s)=true by simp,VA.out]at HHp
    clear x1 x3 y1 y3
    go_wp2_with fail
    refine (HHp.out).mono ?_
    rintro e w3 ⟨rfl,rfl⟩
    have rJ:=Lib.hid (KW ⟨.slice Ac nc cc,c,.slice none 0 0,[]⟩ w3 (Hm.out.below (by rw[←HB.out];exact Hb2.out)) ⟨ABO.out.bytes,(BN.nil _ 0).bytes⟩ ⟨by show c.length≤_;rw[Hnc.out];omega,by simp⟩)
    unfold dV Gp at rJ
    dsimp only at rJ
    rw[E3.out,E4.out]at rJ
    go_wp2_with fail
    refine (rJ.out).mono ?_
    rintro e w4 ⟨hr,hb4⟩
    rw[if_neg (by simp)]at hr
    obtain⟨v4,rfl,hv4⟩:=hr
    obtain⟨A4,c4,e4⟩:=hv4.fs.slice
    subst e4
    have HV4:=Lib.hid hv4.fs
    generalize mm.length=nm at *
    have Kl:=Lib.hid (HG2.out.below hb4 HG2.out.lt)
    have aJ:=Lib.hid (ABO.out.keep hb4)
    have UG:=Lib.hid (MU.out.below hb4)
    have Hb4:=Lib.hid (Hb2.out.trans (hb4.mono hs2))
    have hs4:=Nat.le_trans hs2 hb4.size
    clear hb4 hv4 HG2 ABO MU Hb2 rJ HHp LV k0 q0 q1
    have BA:Below w4.heap.size w4 (w4.alloc (.cells #[.slice A4 nm c4] 22)):=(Below.refl _ _).alloc (Nat.le_refl _) _
    have sU:=Lib.hid (AV.new w4 22 #[.slice A4 nm c4])
    have HV5:=Lib.hid (HV4.out.below BA)
    have eQ:=Lib.hid (Kl.out.below BA Kl.out.lt)
    have AHk:=Lib.hid (aJ.out.keep BA)
    have pW:=Lib.hid (UG.out.below BA)
    have Hb5:=Lib.hid (Hb4.out.trans (BA.mono hs4))
    have hs5:=Nat.le_trans hs4 BA.size
    clear BA Kl aJ UG Hb4 HV4
    go_upto_region 24 with fail
    generalize w4.heap.size=gl at *
    generalize w4.alloc (.cells #[.slice A4 nm c4] 22)=w5 at *
    have hmf:∀ (fn:Fn) (first cap:Array Value) (w:World),(Instr.makeFunc fn first cap).run Tryz.prog w=.ok (.func fn first cap) w:=fun _ _ _ _=>rfl
    have hkc:(kept:Int)≤(ch:Int):=by omega
    have hkl:(kept:Int)≤(qs.length:Int):=by omega
    have hk0:(0:Int)≤(kept:Int):=by omega
    have hkne:¬ ch=kept:=by omega
    have Cj:Hid (AQ w5 (some ⟨gh,kept,none⟩) ((qs.drop kept).map jV)):=Lib.hid (by
     obtain⟨Az,cz,ez,_,_,z3,_⟩:=Ad pW.out.row
     injection ez with ez1 ez2 ez3
     subst ez1 ez3
     clear ez2
     have:=AQ.drop z3 kept
     rw[List.map_drop]
     simpa using this)
    have HCf:=Lib.hid (N8 (some ⟨gh,kept,none⟩) (qs.length - kept) (ch - kept) (qs.drop kept) 44 #[.pointer (some ⟨gl,0,none⟩)] (fun q=>BB mm q.2) w5 (by rw[List.length_drop]) (by unfold maxLen at AKz⊢;omega) Cj.out xu (fun q hq w' hb=>TW gl _ _ mm q.2 w' (sU.out.below hb sU.out.lt) (HV5.out.below hb) ((pW.out.each q (List.mem_of_mem_drop hq)).fs.below hb)))
    rw[AKy.out]at HCf
    go_wp2_with fail
    refine (HCf.out).mono ?_
    rintro e w6 ⟨rfl,hb6⟩
    have HG6:=Lib.hid (eQ.out.below hb6 eQ.out.lt)
    have AK9:=Lib.hid (AHk.out.keep hb6)
    have Jc:=Lib.hid (Hb5.out.trans (hb6.mono hs5))
    have hs6:=Nat.le_trans hs5 hb6.size
    clear hb6 eQ AHk pW Hb5 HCf Cj sU HV5
    have q0:w6.cell? ⟨g5,0,none⟩=some (.slice Ac nc cc):=HG6.out.cell 0
    have q1:w6.cell? ⟨g5,1,none⟩=some (.slice none 0 0):=HG6.out.cell 1
    have Rq:=Lib.hid (PR ⟨.slice Ac nc cc,c,.slice none 0 0,[]⟩ (.slice none 0 0) [] w6 (Hm.out.below (by rw[←HB.out];exact Jc.out)) ⟨AK9.out.bytes,(BN.nil _ 0).bytes⟩ ⟨by show c.length≤_;rw[Hnc.out];omega,by simp⟩ (Fs.nil _))
    unfold dV at Rq
    dsimp only at Rq
    go_wp2_with fail
    refine (Rq.out).mono ?_
    rintro e w7 ⟨hr,Iu⟩
    have FR:=Lib.hid (Jc.out.trans (Iu.mono hs6))
    rcases E8.out with ⟨a8,h8⟩ | h8
    ·rw[h8]at hr
     obtain⟨us,uw,rfl,_,_⟩:=hr
     clear Iu Rq q0 q1 h8
     go_wp2_with fail
     go_ret
     exact⟨rfl,FR.out⟩
    ·rw[h8]at hr
     obtain rfl:=hr
     unfold noD
     clear Iu Rq q0 q1 h8
     go_wp2_with fail
     go_ret
     exact⟨rfl,FR.out⟩
end Go.Proofs.YtabdianhoabhhaaGreatDoor.ShelfKeeps
namespace Go.Proofs.YtabdianhoabhhaaGreatDoor
open Go Go.ChangeShapes Go.WideShapes Go.ChangeAt Go.RowKit
theorem KO {H:Type} {enc:TypeId×Value→H} {a:Assume} {C:Checked} {os:Os} {f:FuncId} {fn:Func} {s:ChangeSpec} {conds:List PathCond} {apart fresh handsOn again:Bool} {X:World→Array Value→Prop}
  (own:ownKnob C.prog.godebug=none) (started:os.Started) (noInit:C.prog.inits.idxOf? f=none) (hfn:C.prog.funcs[f]?=some fn)
  (witness:∃ (w:World) (tape:Tape) (i:Input),w.os=os∧(w.forCall tape i).Shaped C.prog∧i.vars=[]∧Input.okWide C.prog (w.forCall tape i) .any w.heap.size f i∧
   ((s.pre enc C.prog fn conds apart (w.forCall tape i).memory i.args∧X (w.forCall tape i).memory i.args)∧sizedMet enc C.prog fn (OpenSpec.ofChange s) apart (w.forCall tape i).memory i.args)∧a.holds C.prog (lone (Frame.enter C.prog f i.args .normal) [] (w.forCall tape i)))
  (contract:∀ (W:World) (base:Nat) (args:Array Value) (ds gs:List (DataW H)) (before:List MemPlace),
   (∀ (j:Nat) t v,fn.params[j]?=some t→args[j]?=some v→Value.okWide C.prog W .any base t v)→
   DataW.Whole enc C.prog fn.params.toList s.vars apart W args.toList ds gs before→
   (DataW.weightsEach C.prog (fn.params.toList++s.plain.varTypes C.prog) (ds++gs)).all (·≤reachBytes)=true→
   W.ShapedOpen C.prog→
   Calls C.prog f args W fun e W'=>∃ v,e=.returned v∧s.post enc C.prog fn apart fresh handsOn again W args v W') :
  ReturnsInHanded a C os f .any (fun w args=>(s.pre enc C.prog fn conds apart w args∧X w args)∧sizedMet enc C.prog fn (OpenSpec.ofChange s) apart w args) (s.post enc C.prog fn apart fresh handsOn again):=by
 refine returnsInHanded_of_calls own started noInit witness ?_
 intro w tape i _ hsh _ hok hpre hholds
 obtain⟨_,_,_,fn',hfn',_,_,_,_,hval⟩:=hok
 have e:fn'=fn:=Option.some.inj (hfn'.symm.trans hfn)
 subst e
 obtain⟨⟨⟨ds,gs,before,hw,hc⟩,hx⟩,hz⟩:=hpre
 have hw':=DataW.Whole.of_heap (w':=w.forCall tape i) (by rfl) hw
 refine (contract (w.forCall tape i) w.heap.size i.args ds gs before hval hw' (hz.weights hw) hsh).mono fun e W' ⟨v,he,hp⟩=>?_
 subst he
 exact ChangeSpec.post_blind hp
theorem XY {W:World} (h:W.ShapedOpen Tryz.prog):Name.ML W:=
 cell_of_shapedOpen_int (g:=0) (t:=3) (zero:=#[.int .i64 0]) h (of_decide_eq_true (by kernel_rfl)) (by kernel_rfl) rfl (by kernel_rfl) (by kernel_rfl) Tryz.underlying3
end Go.Proofs.YtabdianhoabhhaaGreatDoor
