/- texts joined: ShAdd ShCut ShFact. -/
import Derived.Test.YtabdianhoabhhaaGreatDoorSbQ11
import Derived.Test.YtabdianhoabhhaaGreatDoorSbQ10
import Derived.Test.YtabdianhoabhhaaGreatDoorSbQ9
import Derived.Test.YtabdianhoabhhaaGreatDoorSbQ6
open List renaming getElem_toArray→l0A,getElem_cons_zero→l0B,getElem_cons_succ→l0C,setIfInBounds_toArray→l0D,set_cons_zero→l0E,set_cons_succ→l0F
namespace Go.Proofs.YtabdianhoabhhaaGreatDoor.Kn
open Go Go.RowKit Go.Proofs.YtabdianhoabhhaaGreatDoor Go.Proofs.YtabdianhoabhhaaGreatDoor.Bits Go.Proofs.YtabdianhoabhhaaGreatDoor.Merge Go.Proofs.YtabdianhoabhhaaGreatDoor.Name Go.Proofs.YtabdianhoabhhaaGreatDoor.Zip Go.Proofs.YtabdianhoabhhaaGreatDoor.Worlds
open Go.Proofs.YtabdianhoabhhaaGreatDoor.Inf (GN)
set_option linter.unusedVariables false
set_option linter.unusedSimpArgs false
set_option linter.constructorNameAsVariable false
theorem AER (v:Value) (l:List Fl) (w:World) (hm:ML w) (h:Fs w v l):Calls Tryz.prog 12 #[v] w (jW l w):=by
 obtain⟨lx,h1,rfl⟩:=h
 exact CV v lx w hm h1
theorem Zn {BC:List UInt8→List UInt8} {l:List Fl} {z:Int} (h:Cf BC l=.bad z):z≠0:=by
 unfold Cf at h
 split at h
 ·rename_i hc
  injection h with h
  subst h;exact hc
 ·split at h
  ·injection h with h
   subst h;decide
  ·cases h
theorem fA (g:Nat) (v1 v2:Value) (s t:List UInt8) (w:World) (hg:AR w (some ⟨g,0,none⟩) [v1,v2]) (h1:Au w v1 s) (h2:Au w v2 t) (hl:(s++t).length≤140737488355328) :
  Calls Tryz.prog 32 #[.slice (some ⟨g,0,none⟩) 2 2] w fun e w'=>(∃ v,e=.returned v∧BP w' w.heap.size v (s++t))∧Below w.heap.size w w':=
 Om (some ⟨g,0,none⟩) 2 2 [(v1,s),(v2,t)] (s++t) w rfl (by omega) hg (fun q hq=>by
  rcases List.mem_cons.1 hq with rfl | hq
  ·exact h1
  ·rw[List.mem_singleton.1 hq];exact h2) (by simp) hl
theorem Au.clone {w:World} {v:Value} {xs:List UInt8} (h:Au w v xs) (hl:xs.length≤140737488355328) :
  Calls Tryz.prog 16 #[v] w fun e w'=>(∃ v,e=.returned v∧BP w' w.heap.size v xs)∧Below w.heap.size w w':=by
 obtain⟨A,c,rfl,h1,h2,h3⟩:=h
 refine (Sg.Ei A xs.length c (xs.map Eh) w (by rw[List.length_map,Nat.mul_one]) h3 (fun h=>?_) (Ia xs) (by omega) (by omega)).mono ?_
 ·rcases Nat.eq_zero_or_pos xs.length with h0 | h0
  ·exact h0
  ·obtain⟨a,o,e,_⟩:=h3.get (k:=0) h0
   rw[h]at e;cases e
 ·rintro e w' ⟨v,rfl,ho,hb⟩
  exact⟨⟨v,rfl,ho⟩,hb⟩
theorem Tu (BC:List UInt8→List UInt8) (s w:List UInt8) (l:List Fl):NT BC s w l=if EY s w≠0 then .bad (EY s w)
 else match Cf BC l with
  | .bad z=>.bad z
  | .ok b=>if (Br (Cr s w) l).1≠0 then .bad (Br (Cr s w) l).1 else if 40000 < s.length+w.length+(Bf b).length then .bad 11 else .ok (s,w++Bf b):=rfl
set_option maxRecDepth 100000 in
set_option maxHeartbeats 4000000 in
theorem Xw (x:Dx) (v1:Value) (l:List Fl) (w:World) (hm:ML w) (hd:Db w x) (hsz:uI x) (h1:Fs w v1 l) :
  Calls Tryz.prog 26 #[dV x,v1] w (JJ (NT CK x.safe x.wait l) w):=by
 obtain⟨vs,s,vw,t⟩:=x
 obtain⟨A1,c1,e1,_,_,_⟩:=(show Au w vs s from hd.safe)
 obtain⟨A2,c2,e2,_,_,_⟩:=(show Au w vw t from hd.wait)
 subst e1 e2
 have HD:=Lib.hid hd
 have Hm:=Lib.hid hm
 have Ou:=Lib.hid hsz
 have HV:=Lib.hid h1
 have hck:=@Gq s t
 dsimp only
 generalize hns:s.length=ns at *
 generalize hnt:t.length=nt at *
 have RO:=Lib.hid hns
 have az:=Lib.hid hnt
 have HF:=Lib.hid (Tu CK s t l)
 rw[hns,hnt]at HF
 obtain⟨R,hR⟩:∃ R,R=NT CK s t l:=⟨_,rfl⟩
 rw[←hR]at HF⊢
 obtain⟨z,hz⟩:∃ z,z=EY s t:=⟨_,rfl⟩
 rw[←hz]at hck HF
 have Hz:=Lib.hid hz
 have Hck:=Lib.hid hck
 obtain⟨A0,c0,e0⟩:=h1.slice
 clear hm hz hck hd hns hnt hsz hR h1
 subst e0
 unfold dV
 dsimp only
 go_enter Tryz.func26,Tryz.ntmps26
 go_upto_region 1 with fail
 have h2:=PI w (.slice A1 ns c1) (.slice A2 nt c2)
 have HD1:=Lib.hid (HD.out.below h2.below)
 have HV1:=Lib.hid (HV.out.below h2.below)
 have HT1:=Lib.hid h2
 clear h2 HD HV
 generalize (w.alloc (.cells #[.slice A1 ns c1,.slice A2 nt c2] 52)).alloc (.cells #[.slice none 0 0,.slice none 0 0] 52)=w1 at *
 have k0:w1.cell? ⟨w.heap.size,0,none⟩=some (.slice A1 ns c1):=HT1.out.Oa.cell 0
 have k1:w1.cell? ⟨w.heap.size,1,none⟩=some (.slice A2 nt c2):=HT1.out.Oa.cell 1
 have HC:=Lib.hid (KP _ w1 (Hm.out.below HT1.out.below) HD1.out Ou.out)
 unfold dV Gm at HC
 dsimp only at HC
 rw[←Hz.out]at HC
 generalize l.length=nl at *
 go_wp2_with fail
 refine (HC.out).mono ?_
 rintro e w2 ⟨hr,hb2⟩
 have HT2:=Lib.hid (HT1.out.step hb2)
 have HD2:=Lib.hid (HD1.out.below hb2)
 have HV2:=Lib.hid (HV1.out.below hb2)
 clear k0 k1 hb2 HC HT1 HD1 HV1
 by_cases h0:z=0
 ·obtain⟨hlen,_,_⟩:=Hck.out.1 h0
  have Xx:=Lib.hid (HF.out.trans (if_neg (fun h=>h h0)))
  subst h0
  rw[if_neg (by simp)]at hr
  obtain⟨vh,rfl,AES⟩:=hr
  have hvh:=AES.fs
  have HH2:=Lib.hid hvh
  have HP:=Lib.hid (AER _ l w2 (Hm.out.below HT2.out.below) HV2.out)
  obtain⟨Ah,ch,eh⟩:=hvh.slice
  subst eh
  clear hvh HF
  go_wp2_with fail
  refine (HP.out).mono ?_
  rintro e w3 ⟨hp,hb3⟩
  have HT3:=Lib.hid (HT2.out.step hb3)
  have HD3:=Lib.hid (HD2.out.below hb3)
  have HV3:=Lib.hid (HV2.out.below hb3)
  have HH3:=Lib.hid (HH2.out.below hb3)
  clear hb3 HP HT2 HD2 HV2 HH2
  cases hw:Cf CK l with
  | bad zz=>
   have HR:=Lib.hid (show R=.bad zz by rw[Xx.out,hw])
   have hz1:(zz != 0)=true:=by simpa using Zn hw
   rw[hw]at hp
   obtain rfl:=hp
   clear hw Xx
   have Jt:=Lib.hid (Dc HT3.out.out (.slice none 0 0) (.slice none 0 0))
   have Ec:=Lib.hid (CX (g:=w.heap.size+1) HT3.out.below (by omega) (.slice none 0 0) (.slice none 0 0))
   have q0:w3.cell? ⟨w.heap.size+1,0,none⟩=some (.slice none 0 0):=HT3.out.out.cell 0
   have q1:w3.cell? ⟨w.heap.size+1,1,none⟩=some (.slice none 0 0):=HT3.out.out.cell 1
   have z0:=HT3.out.out.frozen 0
   have z1:=HT3.out.out.frozen 1
   go_wp2_with fail
   refine bodyPost_ret (DU rfl _ _ (w.heap.size+1) 52 #[.slice none 0 0,.slice none 0 0] (0,0) _ _ rfl rfl Jt.out Tryz.underlying52 rfl (by kernel_rfl)) rfl ?_
   unfold JJ
   rw[HR.out]
   exact⟨rfl,Ec.out⟩
  | ok b=>
   have zb:=Lib.hid (show R=if (Br (Cr s t) l).1≠0 then .bad (Br (Cr s t) l).1 else if 40000 < ns+nt+(Bf b).length then .bad 11 else .ok (s,t++Bf b) by rw[Xx.out,hw])
   have QJ:=(F4 hw).2.2
   rw[hw]at hp
   obtain⟨vb,rfl,Tv⟩:=hp
   obtain⟨Ab,cb,rfl,_,_,_,_⟩:=Tv.slice
   have AET:=Lib.hid Tv
   have HBo:=Lib.hid (AAL _ _ (Cr s t) l w3 (Hm.out.below HT3.out.below) HH3.out HV3.out)
   generalize (Cr s t).length=nh at *
   generalize (Br (Cr s t) l).1=be at *
   generalize (Br (Cr s t) l).2=bl at *
   obtain⟨nb,hnb⟩:∃ nb,nb=b.length:=⟨_,rfl⟩
   rw[←hnb]at Tv AET QJ⊢
   have VC:=Lib.hid hnb
   clear hw Tv Xx hnb
   go_wp2_with fail
   refine (HBo.out).mono ?_
   rintro e w4 ⟨v4,rfl,hv4,hb4⟩
   have Jv:=Lib.hid (HT3.out.step hb4)
   have HD4:=Lib.hid (HD3.out.below hb4)
   have AEU:Hid (BP w4 w2.heap.size (.slice Ab nb cb) b):=Lib.hid (AET.out.keep hb4)
   clear hv4 hb4 HBo HT3 HD3 AET HH3 HV3
   by_cases hbe:be=0
   ·have mI:=Lib.hid (zb.out.trans (if_neg (fun h=>h hbe)))
    subst hbe
    obtain⟨hsb,htb⟩:=HD4.out
    have HHd:=Lib.hid (MB Ab nb cb b w4 VC.out.symm (by omega) (by obtain⟨_,_,e,_,_,h,_⟩:=AEU.out.slice;injection e with e1 _ e2;subst e1 e2;exact h))
    have AEV:=Jv.out.below.size
    clear zb hsb htb
    go_wp2_with fail
    refine (HHd.out).mono ?_
    rintro e w5 ⟨⟨v5,rfl,RF⟩,hb5⟩
    have RF:BP w5 w4.heap.size v5 (Cy b):=by unfold BP;rw[G9];exact RF
    obtain⟨A5,c5,rfl,_,_,_,_⟩:=RF.slice
    have Nq:=Lib.hid (Jv.out.step hb5)
    have HD5:=Lib.hid (HD4.out.below hb5)
    have AHA:Au w5 (.slice Ab nb cb) b:=(AEU.out.keep hb5).bytes
    have oO:=Lib.hid (Rv _ _ (Cy b) b w5 RF.bytes AHA (by rw[List.length_append,G9,←VC.out];omega))
    rw[G9]at oO⊢
    rw[show Cy b++b=Bf b from rfl]at oO
    clear RF hb5 AHA Jv HD4 AEU HHd
    go_wp2_with fail
    refine (oO.out).mono ?_
    rintro e w6 ⟨⟨v6,rfl,Rw⟩,hb6⟩
    obtain⟨A6,c6,rfl,_,_,_,_⟩:=Rw.slice
    have U3:=Lib.hid (Nq.out.step hb6)
    have HD6:=Lib.hid (HD5.out.below hb6)
    have hrl:(Bf b).length=8+nb:=by rw[C9,VC.out]
    rw[hrl]at mI Rw⊢
    have Hrl:=Lib.hid hrl
    have Ny:Hid (BP w6 w5.heap.size (.slice A6 (8+nb) c6) (Bf b)):=Lib.hid Rw
    obtain⟨L,hL⟩:∃ L,L=8+nb:=⟨_,rfl⟩
    rw[←hL]at mI Ny Hrl⊢
    have hL2:L≤12008:=by omega
    clear hrl Rw hb6 hL Nq HD5 oO
    have k0:w6.cell? ⟨w.heap.size,0,none⟩=some (.slice A1 ns c1):=U3.out.Oa.cell 0
    have k1:w6.cell? ⟨w.heap.size,1,none⟩=some (.slice A2 nt c2):=U3.out.Oa.cell 1
    have hw1:IntKind.i64.wrap ((ns:Int)+(nt:Int))=(ns:Int)+(nt:Int):=IntWalk.i64_in _ (by omega)
    have hw2:IntKind.i64.wrap ((ns:Int)+(nt:Int)+(L:Int))=(ns:Int)+(nt:Int)+(L:Int):=IntWalk.i64_in _ (by omega)
    by_cases YQ:40000 < ns+nt+L
    ·have xB:(40000:Int) < (ns:Int)+(nt:Int)+(L:Int):=by omega
     have HR:=Lib.hid (mI.out.trans (if_pos YQ))
     have Jt:=Lib.hid (Dc U3.out.out (.slice none 0 0) (.slice none 0 0))
     have Ec:=Lib.hid (CX (g:=w.heap.size+1) U3.out.below (by omega) (.slice none 0 0) (.slice none 0 0))
     have q0:w6.cell? ⟨w.heap.size+1,0,none⟩=some (.slice none 0 0):=U3.out.out.cell 0
     have q1:w6.cell? ⟨w.heap.size+1,1,none⟩=some (.slice none 0 0):=U3.out.out.cell 1
     have z0:=U3.out.out.frozen 0
     have z1:=U3.out.out.frozen 1
     go_wp2_with fail
     refine bodyPost_ret (DU rfl _ _ (w.heap.size+1) 52 #[.slice none 0 0,.slice none 0 0] (0,0) _ _ rfl rfl Jt.out Tryz.underlying52 rfl (by kernel_rfl)) rfl ?_
     unfold JJ
     rw[HR.out]
     exact⟨rfl,Ec.out⟩
    ·have xB:¬ (40000:Int) < (ns:Int)+(nt:Int)+(L:Int):=by omega
     have HR:=Lib.hid (mI.out.trans (if_neg YQ))
     go_upto_region 13 with fail
     clear k0 k1
     refine GN ?_
     refine Bu (fun W=>AX W w.heap.size 52 #[.slice A1 ns c1,.slice A2 nt c2]) 10 (by kernel_rfl) ?_
     have hHeld:AX w6.drew w.heap.size 52 #[.slice A1 ns c1,.slice A2 nt c2]:=U3.out.Oa
     have hdr:Below w6.heap.size w6 w6.drew:=(Below.refl _ _).drew
     have zx:=Lib.hid (U3.out.step hdr)
     have HD7:=Lib.hid (HD6.out.below hdr)
     have Uz:=Lib.hid (Ny.out.keep hdr)
     clear hdr U3 HD6 Ny
     generalize w6.drew=w7 at *
     refine AA (i:=0) (v:=?va0) (by kernel_rfl) (by kernel_rfl) rfl (by kernel_rfl) (by kernel_rfl) (by kernel_rfl) (fun _ _ _ h=>by cases h.1) (by rfl) (by assumption) ?Kr ?Kt
     case Kr=>(intro W hSW;have k0:=hSW.cell 0;have k1:=hSW.cell 1;go_simp;try with_reducible rfl)
     (try simp only[Act.put,l0A,l0B,l0C,l0D,l0E,l0F])
     refine AA (i:=1) (v:=?zU) (by kernel_rfl) (by kernel_rfl) rfl (by kernel_rfl) (by kernel_rfl) (by kernel_rfl) (fun _ _ _ h=>by cases h.1) (by rfl) (by assumption) ?Jp ?Jq
     case Jp=>(intro W hSW;have k0:=hSW.cell 0;have k1:=hSW.cell 1;go_simp;try with_reducible rfl)
     (try simp only[Act.put,l0A,l0B,l0C,l0D,l0E,l0F])
     refine AA (i:=3) (v:=?va3) (by kernel_rfl) (by kernel_rfl) rfl (by kernel_rfl) (by kernel_rfl) (by kernel_rfl) (fun _ _ _ h=>by cases h.1) (by rfl) (by assumption) ?MR ?MS
     case MR=>(intro W hSW;have k0:=hSW.cell 0;have k1:=hSW.cell 1;go_simp;try with_reducible rfl)
     (try simp only[Act.put,l0A,l0B,l0C,l0D,l0E,l0F])
     refine AA (i:=4) (v:=?va4) (by kernel_rfl) (by kernel_rfl) rfl (by kernel_rfl) (by kernel_rfl) (by kernel_rfl) (fun _ _ _ h=>by cases h.1) (by rfl) (by assumption) ?MU ?MV
     case MU=>(intro W hSW;have k0:=hSW.cell 0;have k1:=hSW.cell 1;go_simp;try with_reducible rfl)
     (try simp only[Act.put,l0A,l0B,l0C,l0D,l0E,l0F])
     refine AA (i:=5) (v:=?va5) (by kernel_rfl) (by kernel_rfl) rfl (by kernel_rfl) (by kernel_rfl) (by kernel_rfl) (fun _ _ _ h=>by cases h.1) (by rfl) (by assumption) ?MW ?MX
     case MW=>(intro W hSW;have k0:=hSW.cell 0;have k1:=hSW.cell 1;go_simp;try with_reducible rfl)
     (try simp only[Act.put,l0A,l0B,l0C,l0D,l0E,l0F])
     have AEW:w7.heap.size≤w7.heap.size:=Nat.le_refl _
     refine JH (i:=2) (j:=6) rfl rfl (by kernel_rfl) (fun K hK=>?_) (fun K hK=>?_)
     ·go_simp
      clear hHeld
      go_at_call 16
      refine (Au.clone (HD7.out.safe) (by rw[RO.out];omega)).mono ?_
      rintro e w8 ⟨⟨vc,rfl,hoc⟩,hbc⟩
      obtain⟨Ac,cc,rfl,_,_,_,_⟩:=hoc.slice
      have HT8:=Lib.hid (zx.out.step hbc)
      have HD8:=Lib.hid (HD7.out.below hbc)
      have uh:=Lib.hid (Uz.out.keep hbc)
      rw[RO.out]at hoc⊢
      have AKS:Hid (BP w8 w7.heap.size (.slice Ac ns cc) s):=Lib.hid (Ai hoc AEW)
      have AA8:w7.heap.size≤w8.heap.size:=Nat.le_trans AEW hbc.size
      have Tw:=HT8.out.Oa
      refine hK.out _ _ Tw (fun hHeld=>?_)
      clear hK K hoc hbc Tw
      (try simp only[Act.put,l0A,l0B,l0C,l0D,l0E,l0F])
      refine AL (i:=6) rfl (by kernel_rfl) (fun K hK=>?_)
      go_simp
      clear hHeld
      have BH:Below w8.heap.size w8 (w8.alloc (.cells #[.slice A2 nt c2,.slice A6 L c6] 23)):=(Below.refl _ _).alloc (Nat.le_refl _) _
      have xC:Hid (AR (w8.alloc (.cells #[.slice A2 nt c2,.slice A6 L c6] 23)) (some ⟨w8.heap.size,0,none⟩) [.slice A2 nt c2,.slice A6 L c6]):=Lib.hid (AR.of_heap (heap_alloc_new _ _) rfl)
      have HT9:=Lib.hid (HT8.out.step BH)
      have HD9:=Lib.hid (HD8.out.below BH)
      have HO9:=Lib.hid (uh.out.keep BH)
      have AEX:w7.heap.size≤(w8.alloc (.cells #[.slice A2 nt c2,.slice A6 L c6] 23)).heap.size:=Nat.le_trans AA8 BH.size
      have AEY:=Lib.hid (AKS.out.keep BH)
      have Tx:=HT9.out.Oa
      refine hK.out _ _ Tx (fun hHeld=>?_)
      clear hK K BH Tx
      (try simp only[Act.put,l0A,l0B,l0C,l0D,l0E,l0F])
      generalize w8.heap.size=gr at *
      generalize w8.alloc (.cells #[.slice A2 nt c2,.slice A6 L c6] 23)=w9 at *
      refine AL (i:=7) rfl (by kernel_rfl) (fun K hK=>?_)
      go_simp
      clear hHeld
      go_at_call 32
      refine (fA _ _ _ t (Bf b) w9 xC.out HD9.out.wait HO9.out.bytes (by rw[List.length_append,az.out,Hrl.out];omega)).mono ?_
      rintro e wz ⟨⟨vz,rfl,QR⟩,hbz⟩
      obtain⟨Az,cz,rfl,_,_,_,_⟩:=QR.slice
      obtain⟨nz,hnz⟩:∃ nz,nz=(t++Bf b).length:=⟨_,rfl⟩
      rw[←hnz]at QR⊢
      have Zo:=Lib.hid (HT9.out.step hbz)
      have HOz:Hid (BP wz w7.heap.size (.slice Az nz cz) (t++Bf b)):=Lib.hid (Ai QR AEX)
      have AEZ:Hid (BP wz w7.heap.size (.slice Ac ns cc) s):=Lib.hid (AEY.out.keep hbz)
      have Tz:=Zo.out.Oa
      refine hK.out _ _ Tz (fun hHeld=>?_)
      clear hK K QR hbz hnz Tz
      (try simp only[Act.put,l0A,l0B,l0C,l0D,l0E,l0F])
      refine AA (i:=8) (v:=?AMl) (by kernel_rfl) (by kernel_rfl) rfl (by kernel_rfl) (by kernel_rfl) (by kernel_rfl) (fun _ _ _ h=>by cases h.1) (by rfl) (by assumption) ?AHB ?AI5
      case AHB=>(intro W hSW;have k0:=hSW.cell 0;have k1:=hSW.cell 1;go_simp;try with_reducible rfl)
      (try simp only[Act.put,l0A,l0B,l0C,l0D,l0E,l0F])
      have q0:wz.cell? ⟨w.heap.size+1,0,none⟩=some (.slice none 0 0):=Zo.out.out.cell 0
      have q1:wz.cell? ⟨w.heap.size+1,1,none⟩=some (.slice none 0 0):=Zo.out.out.cell 1
      have z0:=Zo.out.out.frozen 0
      have z1:=Zo.out.out.frozen 1
      have hgg:w.heap.size+1 < w7.heap.size:=zx.out.out.lt
      have Jt:=Lib.hid (Dc Zo.out.out (.slice Ac ns cc) (.slice Az nz cz))
      have Ec:=Lib.hid (CX (g:=w.heap.size+1) Zo.out.below (by omega) (.slice Ac ns cc) (.slice Az nz cz))
      have Ux:=Lib.hid (Ii AEZ.out hgg (.slice Ac ns cc) (.slice Az nz cz))
      have Cx:=Lib.hid (Ii HOz.out hgg (.slice Ac ns cc) (.slice Az nz cz))
      have hIn:AX ((wz.setCell ⟨w.heap.size+1,0,none⟩ (.slice Ac ns cc)).setCell ⟨w.heap.size+1,1,none⟩ (.slice Az nz cz)) w.heap.size 52 #[.slice A1 ns c1,.slice A2 nt c2]:=(Zo.out.Oa.far (p:=⟨w.heap.size+1,0,none⟩) (by show w.heap.size≠w.heap.size+1;omega) _).far (p:=⟨w.heap.size+1,1,none⟩) (by show w.heap.size≠w.heap.size+1;omega) _
      refine AL (i:=9) rfl (by kernel_rfl) (fun K hK=>?_)
      go_simp
      clear hHeld q0 q1 z0 z1
      refine hK.out _ _ hIn (fun hHeld=>?_)
      clear hK K hIn
      (try simp only[Act.put,l0A,l0B,l0C,l0D,l0E,l0F])
      have xD:=zx.out.below.size
      generalize (wz.setCell ⟨w.heap.size+1,0,none⟩ (.slice Ac ns cc)).setCell ⟨w.heap.size+1,1,none⟩ (.slice Az nz cz)=wx at *
      refine BM rfl (by kernel_rfl) (by kernel_rfl) (fun K hK=>?_)
      go_simp
      clear hHeld
      refine hK.out _ _ ⟨rfl,?_⟩
      clear hK K
      go_wp2_with fail
      refine bodyPost_ret (DU rfl _ _ (w.heap.size+1) 52 #[.slice Ac ns cc,.slice Az nz cz] (0,0) _ _ rfl rfl Jt.out Tryz.underlying52 rfl (by kernel_rfl)) rfl ?_
      unfold JJ
      rw[HR.out]
      exact⟨⟨_,_,rfl,Ai Ux.out xD,Ai Cx.out xD⟩,Ec.out⟩
     ·go_simp
      clear hHeld
      have BH:Below w7.heap.size w7 (w7.alloc (.cells #[.slice A2 nt c2,.slice A6 L c6] 23)):=(Below.refl _ _).alloc (Nat.le_refl _) _
      have AHC:Hid (AR (w7.alloc (.cells #[.slice A2 nt c2,.slice A6 L c6] 23)) (some ⟨w7.heap.size,0,none⟩) [.slice A2 nt c2,.slice A6 L c6]):=Lib.hid (AR.of_heap (heap_alloc_new _ _) rfl)
      have HT8:=Lib.hid (zx.out.step BH)
      have HD8:=Lib.hid (HD7.out.below BH)
      have uh:=Lib.hid (Uz.out.keep BH)
      have AA8:w7.heap.size≤(w7.alloc (.cells #[.slice A2 nt c2,.slice A6 L c6] 23)).heap.size:=Nat.le_trans AEW BH.size
      have Tw:=HT8.out.Oa
      refine hK.out _ _ Tw (fun hHeld=>?_)
      clear hK K BH Tw
      (try simp only[Act.put,l0A,l0B,l0C,l0D,l0E,l0F])
      generalize w7.alloc (.cells #[.slice A2 nt c2,.slice A6 L c6] 23)=w8 at *
      refine AL (i:=2) rfl (by kernel_rfl) (fun K hK=>?_)
      go_simp
      clear hHeld
      go_at_call 16
      refine (Au.clone (HD8.out.safe) (by rw[RO.out];omega)).mono ?_
      rintro e w9 ⟨⟨vc,rfl,hoc⟩,hbc⟩
      obtain⟨Ac,cc,rfl,_,_,_,_⟩:=hoc.slice
      have HT9:=Lib.hid (HT8.out.step hbc)
      have HD9:=Lib.hid (HD8.out.below hbc)
      have HO9:=Lib.hid (uh.out.keep hbc)
      rw[RO.out]at hoc⊢
      have AEY:Hid (BP w9 w7.heap.size (.slice Ac ns cc) s):=Lib.hid (Ai hoc AA8)
      have AEX:w7.heap.size≤w9.heap.size:=Nat.le_trans AA8 hbc.size
      have xC:=Lib.hid (AR.below AHC.out hbc)
      have Tx:=HT9.out.Oa
      refine hK.out _ _ Tx (fun hHeld=>?_)
      clear hK K hoc hbc Tx
      (try simp only[Act.put,l0A,l0B,l0C,l0D,l0E,l0F])
      refine AL (i:=7) rfl (by kernel_rfl) (fun K hK=>?_)
      go_simp
      clear hHeld
      go_at_call 32
      refine (fA _ _ _ t (Bf b) w9 xC.out HD9.out.wait HO9.out.bytes (by rw[List.length_append,az.out,Hrl.out];omega)).mono ?_
      rintro e wz ⟨⟨vz,rfl,QR⟩,hbz⟩
      obtain⟨Az,cz,rfl,_,_,_,_⟩:=QR.slice
      obtain⟨nz,hnz⟩:∃ nz,nz=(t++Bf b).length:=⟨_,rfl⟩
      rw[←hnz]at QR⊢
      have Zo:=Lib.hid (HT9.out.step hbz)
      have HOz:Hid (BP wz w7.heap.size (.slice Az nz cz) (t++Bf b)):=Lib.hid (Ai QR AEX)
      have AEZ:Hid (BP wz w7.heap.size (.slice Ac ns cc) s):=Lib.hid (AEY.out.keep hbz)
      have Tz:=Zo.out.Oa
      refine hK.out _ _ Tz (fun hHeld=>?_)
      clear hK K QR hbz hnz Tz
      (try simp only[Act.put,l0A,l0B,l0C,l0D,l0E,l0F])
      refine AA (i:=8) (v:=?AMm) (by kernel_rfl) (by kernel_rfl) rfl (by kernel_rfl) (by kernel_rfl) (by kernel_rfl) (fun _ _ _ h=>by cases h.1) (by rfl) (by assumption) ?AHD ?AI6
      case AHD=>(intro W hSW;have k0:=hSW.cell 0;have k1:=hSW.cell 1;go_simp;try with_reducible rfl)
      (try simp only[Act.put,l0A,l0B,l0C,l0D,l0E,l0F])
      have q0:wz.cell? ⟨w.heap.size+1,0,none⟩=some (.slice none 0 0):=Zo.out.out.cell 0
      have q1:wz.cell? ⟨w.heap.size+1,1,none⟩=some (.slice none 0 0):=Zo.out.out.cell 1
      have z0:=Zo.out.out.frozen 0
      have z1:=Zo.out.out.frozen 1
      have hgg:w.heap.size+1 < w7.heap.size:=zx.out.out.lt
      have Jt:=Lib.hid (Dc Zo.out.out (.slice Ac ns cc) (.slice Az nz cz))
      have Ec:=Lib.hid (CX (g:=w.heap.size+1) Zo.out.below (by omega) (.slice Ac ns cc) (.slice Az nz cz))
      have Ux:=Lib.hid (Ii AEZ.out hgg (.slice Ac ns cc) (.slice Az nz cz))
      have Cx:=Lib.hid (Ii HOz.out hgg (.slice Ac ns cc) (.slice Az nz cz))
      have hIn:AX ((wz.setCell ⟨w.heap.size+1,0,none⟩ (.slice Ac ns cc)).setCell ⟨w.heap.size+1,1,none⟩ (.slice Az nz cz)) w.heap.size 52 #[.slice A1 ns c1,.slice A2 nt c2]:=(Zo.out.Oa.far (p:=⟨w.heap.size+1,0,none⟩) (by show w.heap.size≠w.heap.size+1;omega) _).far (p:=⟨w.heap.size+1,1,none⟩) (by show w.heap.size≠w.heap.size+1;omega) _
      refine AL (i:=9) rfl (by kernel_rfl) (fun K hK=>?_)
      go_simp
      clear hHeld q0 q1 z0 z1
      refine hK.out _ _ hIn (fun hHeld=>?_)
      clear hK K hIn
      (try simp only[Act.put,l0A,l0B,l0C,l0D,l0E,l0F])
      have xD:=zx.out.below.size
      generalize (wz.setCell ⟨w.heap.size+1,0,none⟩ (.slice Ac ns cc)).setCell ⟨w.heap.size+1,1,none⟩ (.slice Az nz cz)=wx at *
      refine BM rfl (by kernel_rfl) (by kernel_rfl) (fun K hK=>?_)
      go_simp
      clear hHeld
      refine hK.out _ _ ⟨rfl,?_⟩
      clear hK K
      go_wp2_with fail
      refine bodyPost_ret (DU rfl _ _ (w.heap.size+1) 52 #[.slice Ac ns cc,.slice Az nz cz] (0,0) _ _ rfl rfl Jt.out Tryz.underlying52 rfl (by kernel_rfl)) rfl ?_
      unfold JJ
      rw[HR.out]
      exact⟨⟨_,_,rfl,Ai Ux.out xD,Ai Cx.out xD⟩,Ec.out⟩
   ·have HR:=Lib.hid (zb.out.trans (if_pos hbe))
    have hz1:(be != 0)=true:=by simpa using hbe
    have Jt:=Lib.hid (Dc Jv.out.out (.slice none 0 0) (.slice none 0 0))
    have Ec:=Lib.hid (CX (g:=w.heap.size+1) Jv.out.below (by omega) (.slice none 0 0) (.slice none 0 0))
    have q0:w4.cell? ⟨w.heap.size+1,0,none⟩=some (.slice none 0 0):=Jv.out.out.cell 0
    have q1:w4.cell? ⟨w.heap.size+1,1,none⟩=some (.slice none 0 0):=Jv.out.out.cell 1
    have z0:=Jv.out.out.frozen 0
    have z1:=Jv.out.out.frozen 1
    go_wp2_with fail
    refine bodyPost_ret (DU rfl _ _ (w.heap.size+1) 52 #[.slice none 0 0,.slice none 0 0] (0,0) _ _ rfl rfl Jt.out Tryz.underlying52 rfl (by kernel_rfl)) rfl ?_
    unfold JJ
    rw[HR.out]
    exact⟨rfl,Ec.out⟩
 ·have hz1:(z != 0)=true:=by simpa using h0
  have HR:=Lib.hid (HF.out.trans (if_pos h0))
  rw[if_pos h0]at hr
  obtain rfl:=hr
  have Jt:=Lib.hid (Dc HT2.out.out (.slice none 0 0) (.slice none 0 0))
  have Ec:=Lib.hid (CX (g:=w.heap.size+1) HT2.out.below (by omega) (.slice none 0 0) (.slice none 0 0))
  have q0:w2.cell? ⟨w.heap.size+1,0,none⟩=some (.slice none 0 0):=HT2.out.out.cell 0
  have q1:w2.cell? ⟨w.heap.size+1,1,none⟩=some (.slice none 0 0):=HT2.out.out.cell 1
  have z0:=HT2.out.out.frozen 0
  have z1:=HT2.out.out.frozen 1
  go_wp2_with fail
  refine bodyPost_ret (DU rfl _ _ (w.heap.size+1) 52 #[.slice none 0 0,.slice none 0 0] (0,0) _ _ rfl rfl Jt.out Tryz.underlying52 rfl (by kernel_rfl)) rfl ?_
  unfold JJ
  rw[HR.out]
  exact⟨rfl,Ec.out⟩
end Go.Proofs.YtabdianhoabhhaaGreatDoor.Kn
namespace Go.Proofs.YtabdianhoabhhaaGreatDoor.Kn
open Go Go.RowKit Go.Proofs.YtabdianhoabhhaaGreatDoor Go.Proofs.YtabdianhoabhhaaGreatDoor.Bits Go.Proofs.YtabdianhoabhhaaGreatDoor.Merge Go.Proofs.YtabdianhoabhhaaGreatDoor.Name Go.Proofs.YtabdianhoabhhaaGreatDoor.Zip Go.Proofs.YtabdianhoabhhaaGreatDoor.Worlds
open Go.Proofs.YtabdianhoabhhaaGreatDoor.Inf (GN)
set_option linter.unusedVariables false
set_option linter.unusedSimpArgs false
set_option linter.constructorNameAsVariable false
theorem xE {BC:List UInt8→List UInt8} {s w:List UInt8} {l:List Fl} {z:Int} (h:NT BC s w l=.bad z):z≠0:=by
 rw[Tu]at h
 split at h
 ·rename_i hc
  injection h with h
  subst h;exact hc
 ·split at h
  ·rename_i z' hz
   injection h with h
   subst h;exact Zn hz
  ·split at h
   ·rename_i hb
    injection h with h
    subst h;exact hb
   ·split at h
    ·injection h with h
     subst h;decide
    ·cases h
def xG (s w:List UInt8) (n:Int):Inf.Rd (List UInt8×Nat):=
 if EY s w≠0 then .bad (EY s w) else if n < 0∨(w.length:Int) < n then .bad 3 else DY (s++w.take n.toNat)
set_option maxRecDepth 100000 in
set_option maxHeartbeats 4000000 in
theorem AA9 (x:Dx) (n:Int) (w:World) (hm:ML w) (hd:Db w x) (hsz:uI x) :
  Calls Tryz.prog 37 #[dV x,.int .i64 n] w (Zq (xG x.safe x.wait n) w):=by
 obtain⟨vs,s,vw,t⟩:=x
 obtain⟨A1,c1,e1,_,_,_⟩:=(show Au w vs s from hd.safe)
 obtain⟨A2,c2,e2,hc2,hcm2,_⟩:=(show Au w vw t from hd.wait)
 subst e1 e2
 have HD:=Lib.hid hd
 have Hm:=Lib.hid hm
 have Ou:=Lib.hid hsz
 have hck:=@Gq s t
 dsimp only
 have HF:Hid (xG s t n=if EY s t≠0 then .bad (EY s t) else if n < 0∨(t.length:Int) < n then .bad 3 else DY (s++t.take n.toNat)):=Lib.hid rfl
 generalize hns:s.length=ns at *
 generalize hnt:t.length=nt at *
 have RO:=Lib.hid hns
 have az:=Lib.hid hnt
 obtain⟨R,hR⟩:∃ R,R=xG s t n:=⟨_,rfl⟩
 rw[←hR]at HF⊢
 obtain⟨z,hz⟩:∃ z,z=EY s t:=⟨_,rfl⟩
 rw[←hz]at hck HF
 have Hz:=Lib.hid hz
 have Hck:=Lib.hid hck
 clear hm hz hck hd hns hnt hsz hR
 unfold dV
 dsimp only
 go_enter Tryz.func37,Tryz.ntmps37
 go_upto_region 1 with fail
 have h2:=PI w (.slice A1 ns c1) (.slice A2 nt c2)
 have HD1:=Lib.hid (HD.out.below h2.below)
 have HT1:=Lib.hid h2
 clear h2 HD
 generalize (w.alloc (.cells #[.slice A1 ns c1,.slice A2 nt c2] 52)).alloc (.cells #[.slice none 0 0,.slice none 0 0] 52)=w1 at *
 have k0:w1.cell? ⟨w.heap.size,0,none⟩=some (.slice A1 ns c1):=HT1.out.Oa.cell 0
 have k1:w1.cell? ⟨w.heap.size,1,none⟩=some (.slice A2 nt c2):=HT1.out.Oa.cell 1
 have HC:=Lib.hid (PK _ w1 (Hm.out.below HT1.out.below) HD1.out Ou.out)
 unfold dV at HC
 dsimp only at HC
 rw[←Hz.out]at HC
 go_wp2_with fail
 refine (HC.out).mono ?_
 rintro e w2 ⟨rfl,hb2⟩
 have HT2:=Lib.hid (HT1.out.step hb2)
 have HD2:=Lib.hid (HD1.out.below hb2)
 clear k0 k1 hb2 HC HT1 HD1
 have hgg:w.heap.size+1 < w2.heap.size:=HT2.out.out.lt
 by_cases h0:z=0
 ·obtain⟨hlen,_,_⟩:=Hck.out.1 h0
  have Xx:=Lib.hid (HF.out.trans (if_neg (fun h=>h h0)))
  subst h0
  clear HF
  have k0:w2.cell? ⟨w.heap.size,0,none⟩=some (.slice A1 ns c1):=HT2.out.Oa.cell 0
  have k1:w2.cell? ⟨w.heap.size,1,none⟩=some (.slice A2 nt c2):=HT2.out.Oa.cell 1
  by_cases hneg:n < 0
  ·have HR:=Lib.hid (Xx.out.trans (if_pos (.inl hneg)))
   have Jt:=Lib.hid (Dc HT2.out.out (.slice none 0 0) (.slice none 0 0))
   have Ec:=Lib.hid (CX (g:=w.heap.size+1) HT2.out.below (by omega) (.slice none 0 0) (.slice none 0 0))
   have q0:w2.cell? ⟨w.heap.size+1,0,none⟩=some (.slice none 0 0):=HT2.out.out.cell 0
   have q1:w2.cell? ⟨w.heap.size+1,1,none⟩=some (.slice none 0 0):=HT2.out.out.cell 1
   have z0:=HT2.out.out.frozen 0
   have z1:=HT2.out.out.frozen 1
   go_wp2_with fail
   refine bodyPost_ret (GA rfl _ _ (w.heap.size+1) 52 #[.slice none 0 0,.slice none 0 0] (0,0) _ _ _ rfl rfl rfl Jt.out Tryz.underlying52 rfl (by kernel_rfl)) rfl ?_
   unfold Zq
   rw[HR.out]
   exact⟨rfl,Ec.out⟩
  ·by_cases hbig:(nt:Int) < n
   ·have HR:=Lib.hid (Xx.out.trans (if_pos (.inr hbig)))
    have Jt:=Lib.hid (Dc HT2.out.out (.slice none 0 0) (.slice none 0 0))
    have Ec:=Lib.hid (CX (g:=w.heap.size+1) HT2.out.below (by omega) (.slice none 0 0) (.slice none 0 0))
    have q0:w2.cell? ⟨w.heap.size+1,0,none⟩=some (.slice none 0 0):=HT2.out.out.cell 0
    have q1:w2.cell? ⟨w.heap.size+1,1,none⟩=some (.slice none 0 0):=HT2.out.out.cell 1
    have z0:=HT2.out.out.frozen 0
    have z1:=HT2.out.out.frozen 1
    go_wp2_with fail
    refine bodyPost_ret (GA rfl _ _ (w.heap.size+1) 52 #[.slice none 0 0,.slice none 0 0] (0,0) _ _ _ rfl rfl rfl Jt.out Tryz.underlying52 rfl (by kernel_rfl)) rfl ?_
    unfold Zq
    rw[HR.out]
    exact⟨rfl,Ec.out⟩
   ·have zX:=Lib.hid (Xx.out.trans (if_neg (by omega)))
    obtain⟨k,hk⟩:∃ k:Nat,n=(k:Int):=⟨n.toNat,by omega⟩
    subst hk
    have hkn:k≤nt:=by omega
    rw[show ((k:Int)).toNat=k from rfl]at zX
    obtain⟨b,hb⟩:∃ b,b=s++t.take k:=⟨_,rfl⟩
    rw[←hb]at zX
    have hbl:b.length=ns+k:=by rw[hb,List.length_append,List.length_take,RO.out,az.out];omega
    have HR:=Lib.hid (show R=.ok (b.take (scan b).2,b.length - (scan b).2) by rw[zX.out];unfold DY;rw[if_neg (by omega)])
    have HRr:Hid (DY b=.ok (b.take (scan b).2,b.length - (scan b).2)):=Lib.hid (by unfold DY;rw[if_neg (by omega)])
    have Hb:=Lib.hid hb
    have Hbl:=Lib.hid hbl
    clear zX Xx hb hbl
    go_upto_region 6 with fail
    clear k0 k1
    have hs1:(k:Int)≤(c2:Int):=by omega
    refine GN ?_
    refine Bu (fun W=>AX W w.heap.size 52 #[.slice A1 ns c1,.slice A2 nt c2]) 14 (by kernel_rfl) ?_
    have hHeld:AX w2.drew w.heap.size 52 #[.slice A1 ns c1,.slice A2 nt c2]:=HT2.out.Oa
    have hdr:Below w2.heap.size w2 w2.drew:=(Below.refl _ _).drew
    have HT3:=Lib.hid (HT2.out.step hdr)
    have HD3:=Lib.hid (HD2.out.below hdr)
    clear hdr HT2 HD2
    generalize w2.drew=w3 at *
    refine AA (i:=0) (v:=?va0) (by kernel_rfl) (by kernel_rfl) rfl (by kernel_rfl) (by kernel_rfl) (by kernel_rfl) (fun _ _ _ h=>by cases h.1) (by rfl) (by assumption) ?Kr ?Kt
    case Kr=>(intro W hSW;have k0:=hSW.cell 0;have k1:=hSW.cell 1;go_simp;try with_reducible rfl)
    (try simp only[Act.put,l0A,l0B,l0C,l0D,l0E,l0F])
    refine AA (i:=1) (v:=?zU) (by kernel_rfl) (by kernel_rfl) rfl (by kernel_rfl) (by kernel_rfl) (by kernel_rfl) (fun _ _ _ h=>by cases h.1) (by rfl) (by assumption) ?Jp ?Jq
    case Jp=>(intro W hSW;have k0:=hSW.cell 0;have k1:=hSW.cell 1;go_simp;try with_reducible rfl)
    (try simp only[Act.put,l0A,l0B,l0C,l0D,l0E,l0F])
    refine AA (i:=2) (v:=?va2) (by kernel_rfl) (by kernel_rfl) rfl (by kernel_rfl) (by kernel_rfl) (by kernel_rfl) (fun _ _ _ h=>by cases h.1) (by rfl) (by assumption) ?QG ?QH
    case QG=>(intro W hSW;have k0:=hSW.cell 0;have k1:=hSW.cell 1;go_simp;try with_reducible rfl)
    (try simp only[Act.put,l0A,l0B,l0C,l0D,l0E,l0F])
    refine AA (i:=3) (v:=?va3) (by kernel_rfl) (by kernel_rfl) rfl (by kernel_rfl) (by kernel_rfl) (by kernel_rfl) (fun _ _ _ h=>by cases h.1) (by rfl) (by assumption) ?MR ?MS
    case MR=>(intro W hSW;have k0:=hSW.cell 0;have k1:=hSW.cell 1;go_simp;try with_reducible rfl)
    (try simp only[Act.put,l0A,l0B,l0C,l0D,l0E,l0F])
    refine AA (i:=4) (v:=?va4) (by kernel_rfl) (by kernel_rfl) rfl (by kernel_rfl) (by kernel_rfl) (by kernel_rfl) (fun _ _ _ h=>by cases h.1) (by rfl) (by assumption) ?MU ?MV
    case MU=>(intro W hSW;have k0:=hSW.cell 0;have k1:=hSW.cell 1;go_simp;try with_reducible rfl)
    (try simp only[Act.put,l0A,l0B,l0C,l0D,l0E,l0F])
    refine AA (i:=5) (v:=?va5) (by kernel_rfl) (by kernel_rfl) rfl (by kernel_rfl) (by kernel_rfl) (by kernel_rfl) (fun _ _ _ h=>by cases h.1) (by rfl) (by assumption) ?MW ?MX
    case MW=>(intro W hSW;have k0:=hSW.cell 0;have k1:=hSW.cell 1;go_simp;try with_reducible rfl)
    (try simp only[Act.put,l0A,l0B,l0C,l0D,l0E,l0F])
    refine AL (i:=6) rfl (by kernel_rfl) (fun K hK=>?_)
    go_simp
    clear hHeld
    have BH:Below w3.heap.size w3 (w3.alloc (.cells #[.slice A1 ns c1,.slice A2 k c2] 23)):=(Below.refl _ _).alloc (Nat.le_refl _) _
    have AHF:Hid (AR (w3.alloc (.cells #[.slice A1 ns c1,.slice A2 k c2] 23)) (some ⟨w3.heap.size,0,none⟩) [.slice A1 ns c1,.slice A2 k c2]):=Lib.hid (AR.of_heap (heap_alloc_new _ _) rfl)
    have Jv:=Lib.hid (HT3.out.step BH)
    have HD4:=Lib.hid (HD3.out.below BH)
    have Mm:=Jv.out.Oa
    refine hK.out _ _ Mm (fun hHeld=>?_)
    clear hK K BH Mm HT3 HD3
    (try simp only[Act.put,l0A,l0B,l0C,l0D,l0E,l0F])
    generalize w3.alloc (.cells #[.slice A1 ns c1,.slice A2 k c2] 23)=w4 at *
    refine AL (i:=7) rfl (by kernel_rfl) (fun K hK=>?_)
    go_simp
    clear hHeld
    go_at_call 32
    have htk:Au w4 (.slice A2 k c2) (t.take k):=by
     obtain⟨A',c',e,g1,g2,g3⟩:=(show Au w4 (.slice A2 nt c2) t from HD4.out.wait)
     injection e with e1 e2 e3
     subst e1 e3
     refine⟨A2,c2,?_,?_,g2,g3.take k⟩
     ·rw[List.length_take,az.out,Nat.min_eq_left hkn]
     ·rw[List.length_take,az.out,Nat.min_eq_left hkn];omega
    refine (fA _ _ _ s (t.take k) w4 AHF.out HD4.out.safe htk (by rw[←Hb.out,Hbl.out];omega)).mono ?_
    rintro e w5 ⟨⟨v5,rfl,RF⟩,hb5⟩
    rw[←Hb.out]at RF
    obtain⟨A5,c5,rfl,AKT,AKU,AHG,_⟩:=RF.slice
    have Nq:=Lib.hid (Jv.out.step hb5)
    have Mm:=Nq.out.Oa
    have HRv:=Lib.hid (Q4 A5 b.length c5 b w5 (Hm.out.below Nq.out.below) rfl AKT AKU AHG)
    refine hK.out _ _ Mm (fun hHeld=>?_)
    clear hK K hb5 Mm Jv HD4 RF htk AHG
    (try simp only[Act.put,l0A,l0B,l0C,l0D,l0E,l0F])
    refine AL (i:=8) rfl (by kernel_rfl) (fun K hK=>?_)
    go_simp
    clear hHeld
    go_at_call 38
    refine (HRv.out).mono ?_
    rintro e w6 ⟨hr,hb6⟩
    rw[HRr.out]at hr
    obtain⟨v6,rfl,Rw⟩:=hr
    dsimp only at Rw⊢
    obtain⟨A6,c6,rfl,_,_,_,_⟩:=Rw.slice
    have U3:=Lib.hid (Nq.out.step hb6)
    have AKV:=Nq.out.below.size
    have hg5:w.heap.size+1 < w5.heap.size:=Nq.out.out.lt
    obtain⟨L,hL⟩:∃ L,L=(b.take (scan b).2).length:=⟨_,rfl⟩
    rw[←hL]at Rw⊢
    have Ny:Hid (BP w6 w5.heap.size (.slice A6 L c6) (b.take (scan b).2)):=Lib.hid Rw
    obtain⟨nl,hnl⟩:∃ nl,nl=b.length - (scan b).2:=⟨_,rfl⟩
    rw[←hnl]at HR⊢
    have Mm:=U3.out.Oa
    refine hK.out _ _ Mm (fun hHeld=>?_)
    clear hK K hb6 Mm Nq HRv Rw hL hnl
    (try simp only[Act.put,l0A,l0B,l0C,l0D,l0E,l0F])
    refine AA (i:=9) (v:=?vb9) (by kernel_rfl) (by kernel_rfl) rfl (by kernel_rfl) (by kernel_rfl) (by kernel_rfl) (fun _ _ _ h=>by cases h.1) (by rfl) (by assumption) ?uX ?uY
    case uX=>(intro W hSW;have k0:=hSW.cell 0;have k1:=hSW.cell 1;go_simp;try with_reducible rfl)
    (try simp only[Act.put,l0A,l0B,l0C,l0D,l0E,l0F])
    refine AA (i:=10) (v:=?AJy) (by kernel_rfl) (by kernel_rfl) rfl (by kernel_rfl) (by kernel_rfl) (by kernel_rfl) (fun _ _ _ h=>by cases h.1) (by rfl) (by assumption) ?uZ ?AAY
    case uZ=>(intro W hSW;have k0:=hSW.cell 0;have k1:=hSW.cell 1;go_simp;try with_reducible rfl)
    (try simp only[Act.put,l0A,l0B,l0C,l0D,l0E,l0F])
    refine AA (i:=11) (v:=?AKW) (by kernel_rfl) (by kernel_rfl) rfl (by kernel_rfl) (by kernel_rfl) (by kernel_rfl) (fun _ _ _ h=>by cases h.1) (by rfl) (by assumption) ?xH ?ABA
    case xH=>(intro W hSW;have k0:=hSW.cell 0;have k1:=hSW.cell 1;go_simp;try with_reducible rfl)
    (try simp only[Act.put,l0A,l0B,l0C,l0D,l0E,l0F])
    have q0:w6.cell? ⟨w.heap.size+1,0,none⟩=some (.slice none 0 0):=U3.out.out.cell 0
    have q1:w6.cell? ⟨w.heap.size+1,1,none⟩=some (.slice none 0 0):=U3.out.out.cell 1
    have z0:=U3.out.out.frozen 0
    have z1:=U3.out.out.frozen 1
    have Jt:=Lib.hid (Dc U3.out.out (.slice A6 L c6) (.slice none 0 0))
    have Ec:=Lib.hid (CX (g:=w.heap.size+1) U3.out.below (by omega) (.slice A6 L c6) (.slice none 0 0))
    have Ux:=Lib.hid (Ii Ny.out hg5 (.slice A6 L c6) (.slice none 0 0))
    have hIn:AX ((w6.setCell ⟨w.heap.size+1,0,none⟩ (.slice A6 L c6)).setCell ⟨w.heap.size+1,1,none⟩ (.slice none 0 0)) w.heap.size 52 #[.slice A1 ns c1,.slice A2 nt c2]:=(U3.out.Oa.far (p:=⟨w.heap.size+1,0,none⟩) (by show w.heap.size≠w.heap.size+1;omega) _).far (p:=⟨w.heap.size+1,1,none⟩) (by show w.heap.size≠w.heap.size+1;omega) _
    refine AL (i:=12) rfl (by kernel_rfl) (fun K hK=>?_)
    go_simp
    clear hHeld q0 q1 z0 z1
    refine hK.out _ _ hIn (fun hHeld=>?_)
    clear hK K hIn
    (try simp only[Act.put,l0A,l0B,l0C,l0D,l0E,l0F])
    generalize (w6.setCell ⟨w.heap.size+1,0,none⟩ (.slice A6 L c6)).setCell ⟨w.heap.size+1,1,none⟩ (.slice none 0 0)=wx at *
    refine AL (i:=13) rfl (by kernel_rfl) (fun K hK=>?_)
    go_simp
    have Mm:=hHeld
    refine hK.out _ _ Mm (fun hHeld=>?_)
    clear hK K Mm
    (try simp only[Act.put,l0A,l0B,l0C,l0D,l0E,l0F])
    refine BM rfl (by kernel_rfl) (by kernel_rfl) (fun K hK=>?_)
    go_simp
    clear hHeld
    refine hK.out _ _ ⟨rfl,?_⟩
    clear hK K
    go_wp2_with fail
    refine bodyPost_ret (GA rfl _ _ (w.heap.size+1) 52 #[.slice A6 L c6,.slice none 0 0] (0,0) _ _ _ rfl rfl rfl Jt.out Tryz.underlying52 rfl (by kernel_rfl)) rfl ?_
    unfold Zq
    rw[HR.out]
    exact⟨⟨_,rfl,Ai Ux.out AKV⟩,Ec.out⟩
 ·have hz1:(z != 0)=true:=by simpa using h0
  have HR:=Lib.hid (HF.out.trans (if_pos h0))
  have Jt:=Lib.hid (Dc HT2.out.out (.slice none 0 0) (.slice none 0 0))
  have Ec:=Lib.hid (CX (g:=w.heap.size+1) HT2.out.below (by omega) (.slice none 0 0) (.slice none 0 0))
  have q0:w2.cell? ⟨w.heap.size+1,0,none⟩=some (.slice none 0 0):=HT2.out.out.cell 0
  have q1:w2.cell? ⟨w.heap.size+1,1,none⟩=some (.slice none 0 0):=HT2.out.out.cell 1
  have z0:=HT2.out.out.frozen 0
  have z1:=HT2.out.out.frozen 1
  go_wp2_with fail
  refine bodyPost_ret (GA rfl _ _ (w.heap.size+1) 52 #[.slice none 0 0,.slice none 0 0] (0,0) _ _ _ rfl rfl rfl Jt.out Tryz.underlying52 rfl (by kernel_rfl)) rfl ?_
  unfold Zq
  rw[HR.out]
  exact⟨rfl,Ec.out⟩
set_option maxRecDepth 100000 in
set_option maxHeartbeats 4000000 in
theorem Zr (x:Dx) (w:World) (hm:ML w) (hd:Db w x) (hsz:uI x) :
  Calls Tryz.prog 27 #[dV x] w (JJ (MK CK x.safe x.wait) w):=by
 obtain⟨vs,s,vw,t⟩:=x
 obtain⟨A1,c1,e1,_,_,_⟩:=(show Au w vs s from hd.safe)
 obtain⟨A2,c2,e2,_,_,_⟩:=(show Au w vw t from hd.wait)
 subst e1 e2
 have HD:=Lib.hid hd
 have Hm:=Lib.hid hm
 have Ou:=Lib.hid hsz
 dsimp only
 have HF:Hid (MK CK s t=if EY s t≠0 then .bad (EY s t) else (NT CK [] [] (Cr s t)).Ad fun x=>IL x.1 x.2):=Lib.hid rfl
 generalize hns:s.length=ns at *
 generalize hnt:t.length=nt at *
 have RO:=Lib.hid hns
 have az:=Lib.hid hnt
 obtain⟨R,hR⟩:∃ R,R=MK CK s t:=⟨_,rfl⟩
 rw[←hR]at HF⊢
 obtain⟨z,hz⟩:∃ z,z=EY s t:=⟨_,rfl⟩
 rw[←hz]at HF
 have Hz:=Lib.hid hz
 clear hm hz hd hns hnt hsz hR
 unfold dV
 dsimp only
 go_enter Tryz.func27,Tryz.ntmps27
 go_upto_region 1 with fail
 have h2:=PI w (.slice A1 ns c1) (.slice A2 nt c2)
 have HD1:=Lib.hid (HD.out.below h2.below)
 have HT1:=Lib.hid h2
 clear h2 HD
 generalize (w.alloc (.cells #[.slice A1 ns c1,.slice A2 nt c2] 52)).alloc (.cells #[.slice none 0 0,.slice none 0 0] 52)=w1 at *
 have k0:w1.cell? ⟨w.heap.size,0,none⟩=some (.slice A1 ns c1):=HT1.out.Oa.cell 0
 have k1:w1.cell? ⟨w.heap.size,1,none⟩=some (.slice A2 nt c2):=HT1.out.Oa.cell 1
 have HC:=Lib.hid (KP _ w1 (Hm.out.below HT1.out.below) HD1.out Ou.out)
 unfold dV Gm at HC
 dsimp only at HC
 rw[←Hz.out]at HC
 go_wp2_with fail
 refine (HC.out).mono ?_
 rintro e w2 ⟨hr,hb2⟩
 have HT2:=Lib.hid (HT1.out.step hb2)
 clear k0 k1 hb2 HC HT1 HD1
 by_cases h0:z=0
 ·have Xx:=Lib.hid (HF.out.trans (if_neg (fun h=>h h0)))
  subst h0
  rw[if_neg (by simp)]at hr
  obtain⟨vh,rfl,AES⟩:=hr
  have hvh:=AES.fs
  clear HF
  generalize Cr s t=l at *
  have HA:=Lib.hid (Xw ⟨.slice none 0 0,[],.slice none 0 0,[]⟩ vh l w2 (Hm.out.below HT2.out.below) ⟨(BP.nil w2 0).bytes,(BP.nil w2 0).bytes⟩ ⟨by simp,by simp⟩ hvh)
  unfold dV at HA
  dsimp only at HA
  obtain⟨Ah,ch,eh⟩:=hvh.slice
  subst eh
  clear hvh
  generalize l.length=nl at *
  go_wp2_with fail
  refine (HA.out).mono ?_
  rintro e w3 ⟨hp,hb3⟩
  have HT3:=Lib.hid (HT2.out.step hb3)
  have AMn:w2.heap.size≤w3.heap.size:=hb3.size
  clear hb3 HA
  cases ha:NT CK [] [] l with
  | bad zz=>
   have HR:=Lib.hid (show R=.bad zz by rw[Xx.out,ha];rfl)
   have hz1:(zz != 0)=true:=by simpa using xE ha
   rw[ha]at hp
   obtain rfl:=hp
   unfold noD
   clear ha Xx
   have BH:Below w3.heap.size w3 (w3.alloc (.cells #[.slice none 0 0,.slice none 0 0] 52)):=(Below.refl _ _).alloc (Nat.le_refl _) _
   have Jv:=Lib.hid (HT3.out.step BH)
   clear BH
   go_upto_region 5 with fail
   generalize w3.alloc (.cells #[.slice none 0 0,.slice none 0 0] 52)=w4 at *
   have Jt:=Lib.hid (Dc Jv.out.out (.slice none 0 0) (.slice none 0 0))
   have Ec:=Lib.hid (CX (g:=w.heap.size+1) Jv.out.below (by omega) (.slice none 0 0) (.slice none 0 0))
   have q0:w4.cell? ⟨w.heap.size+1,0,none⟩=some (.slice none 0 0):=Jv.out.out.cell 0
   have q1:w4.cell? ⟨w.heap.size+1,1,none⟩=some (.slice none 0 0):=Jv.out.out.cell 1
   have z0:=Jv.out.out.frozen 0
   have z1:=Jv.out.out.frozen 1
   go_wp2_with fail
   refine bodyPost_ret (DU rfl _ _ (w.heap.size+1) 52 #[.slice none 0 0,.slice none 0 0] (0,0) _ _ rfl rfl Jt.out Tryz.underlying52 rfl (by kernel_rfl)) rfl ?_
   unfold JJ
   rw[HR.out]
   exact⟨rfl,Ec.out⟩
  | ok a=>
   have zX:=Lib.hid (show R=IL a.1 a.2 by rw[Xx.out,ha];rfl)
   obtain⟨as_,aw⟩:=a
   obtain⟨_,bb,hwb,_,rfl,haw,hal⟩:=jD ha
   rw[ha]at hp
   obtain⟨vs,vw,rfl,hov,how⟩:=hp
   dsimp only at hov how zX
   obtain⟨A3,c3,rfl,_,_,_,_⟩:=hov.slice
   obtain⟨A4,c4,rfl,_,_,_,_⟩:=how.slice
   have AMo:aw.length≤40000:=by rw[haw,List.length_append];simp only[List.length_nil]at hal⊢;omega
   clear ha Xx haw hal hwb
   have BH:Below w3.heap.size w3 (w3.alloc (.cells #[.slice A3 ([]:List UInt8).length c3,.slice A4 aw.length c4] 52)):=(Below.refl _ _).alloc (Nat.le_refl _) _
   have Jv:=Lib.hid (HT3.out.step BH)
   have E9:=Lib.hid (AX.new w3 52 #[.slice A3 ([]:List UInt8).length c3,.slice A4 aw.length c4])
   have qb:=Lib.hid (WB ⟨.slice A3 ([]:List UInt8).length c3,[],.slice A4 aw.length c4,aw⟩ _ (Hm.out.below Jv.out.below) ⟨(hov.keep BH).bytes,(how.keep BH).bytes⟩ ⟨by simp,by show aw.length≤_;omega⟩)
   unfold dV at qb
   dsimp only at qb
   rw[←zX.out]at qb
   simp only[List.length_nil]at qb E9 Jv⊢
   generalize aw.length=na at *
   go_upto_region 5 with fail
   clear BH hov how
   generalize w3.alloc (.cells #[.slice A3 0 c3,.slice A4 na c4] 52)=w4 at *
   have k0:w4.cell? ⟨w3.heap.size,0,none⟩=some (.slice A3 0 c3):=E9.out.cell 0
   have k1:w4.cell? ⟨w3.heap.size,1,none⟩=some (.slice A4 na c4):=E9.out.cell 1
   have hg4:w.heap.size+1 < w4.heap.size:=Jv.out.out.lt
   go_wp2_with fail
   refine (qb.out).mono ?_
   rintro e w5 ⟨hr,hb5⟩
   have Nq:=Lib.hid (Jv.out.step hb5)
   have AEV:=Jv.out.below.size
   clear hb5 qb k0 k1 E9
   cases hR:R with
   | bad zz=>
    rw[hR]at hr
    obtain rfl:=hr
    unfold noD
    have HR:=Lib.hid hR
    have Jt:=Lib.hid (Dc Nq.out.out (.slice none 0 0) (.slice none 0 0))
    have Ec:=Lib.hid (CX (g:=w.heap.size+1) Nq.out.below (by omega) (.slice none 0 0) (.slice none 0 0))
    have q0:w5.cell? ⟨w.heap.size+1,0,none⟩=some (.slice none 0 0):=Nq.out.out.cell 0
    have q1:w5.cell? ⟨w.heap.size+1,1,none⟩=some (.slice none 0 0):=Nq.out.out.cell 1
    have z0:=Nq.out.out.frozen 0
    have z1:=Nq.out.out.frozen 1
    go_wp2_with fail
    refine bodyPost_ret (DU rfl _ _ (w.heap.size+1) 52 #[.slice none 0 0,.slice none 0 0] (0,0) _ _ rfl rfl Jt.out Tryz.underlying52 rfl (by kernel_rfl)) rfl ?_
    unfold JJ
    rw[HR.out]
    exact⟨rfl,Ec.out⟩
   | ok y=>
    rw[hR]at hr
    obtain⟨ys,yw⟩:=y
    obtain⟨us,uw,rfl,hou,hov⟩:=hr
    dsimp only at hou hov
    obtain⟨A5,c5,rfl,_,_,_,_⟩:=hou.slice
    obtain⟨A6,c6,rfl,_,_,_,_⟩:=hov.slice
    obtain⟨n5,hn5⟩:∃ n,n=ys.length:=⟨_,rfl⟩
    obtain⟨n6,hn6⟩:∃ n,n=yw.length:=⟨_,rfl⟩
    rw[←hn5]at hou⊢
    rw[←hn6]at hov⊢
    have Jt:=Lib.hid (Dc Nq.out.out (.slice A5 n5 c5) (.slice A6 n6 c6))
    have Ec:=Lib.hid (CX (g:=w.heap.size+1) Nq.out.below (by omega) (.slice A5 n5 c5) (.slice A6 n6 c6))
    have Ux:Hid (BP _ w4.heap.size (.slice A5 n5 c5) ys):=Lib.hid (Ii hou hg4 (.slice A5 n5 c5) (.slice A6 n6 c6))
    have Cx:Hid (BP _ w4.heap.size (.slice A6 n6 c6) yw):=Lib.hid (Ii hov hg4 (.slice A5 n5 c5) (.slice A6 n6 c6))
    have q0:w5.cell? ⟨w.heap.size+1,0,none⟩=some (.slice none 0 0):=Nq.out.out.cell 0
    have q1:w5.cell? ⟨w.heap.size+1,1,none⟩=some (.slice none 0 0):=Nq.out.out.cell 1
    have z0:=Nq.out.out.frozen 0
    have z1:=Nq.out.out.frozen 1
    have rT:=Lib.hid hR
    clear hou hov hn5 hn6 hR
    go_wp2_with fail
    refine bodyPost_ret (DU rfl _ _ (w.heap.size+1) 52 #[.slice A5 n5 c5,.slice A6 n6 c6] (0,0) _ _ rfl rfl Jt.out Tryz.underlying52 rfl (by kernel_rfl)) rfl ?_
    unfold JJ
    rw[rT.out]
    exact⟨⟨_,_,rfl,Ai Ux.out AEV,Ai Cx.out AEV⟩,Ec.out⟩
 ·have hz1:(z != 0)=true:=by simpa using h0
  have HR:=Lib.hid (HF.out.trans (if_pos h0))
  rw[if_pos h0]at hr
  obtain rfl:=hr
  have Jt:=Lib.hid (Dc HT2.out.out (.slice none 0 0) (.slice none 0 0))
  have Ec:=Lib.hid (CX (g:=w.heap.size+1) HT2.out.below (by omega) (.slice none 0 0) (.slice none 0 0))
  have q0:w2.cell? ⟨w.heap.size+1,0,none⟩=some (.slice none 0 0):=HT2.out.out.cell 0
  have q1:w2.cell? ⟨w.heap.size+1,1,none⟩=some (.slice none 0 0):=HT2.out.out.cell 1
  have z0:=HT2.out.out.frozen 0
  have z1:=HT2.out.out.frozen 1
  go_wp2_with fail
  refine bodyPost_ret (DU rfl _ _ (w.heap.size+1) 52 #[.slice none 0 0,.slice none 0 0] (0,0) _ _ rfl rfl Jt.out Tryz.underlying52 rfl (by kernel_rfl)) rfl ?_
  unfold JJ
  rw[HR.out]
  exact⟨rfl,Ec.out⟩
end Go.Proofs.YtabdianhoabhhaaGreatDoor.Kn
namespace Go.Proofs.YtabdianhoabhhaaGreatDoor.Kn
open Go Go.RowKit Go.Proofs.YtabdianhoabhhaaGreatDoor Go.Proofs.YtabdianhoabhhaaGreatDoor.Bits Go.Proofs.YtabdianhoabhhaaGreatDoor.Merge Go.Proofs.YtabdianhoabhhaaGreatDoor.Name Go.Proofs.YtabdianhoabhhaaGreatDoor.Zip Go.Proofs.YtabdianhoabhhaaGreatDoor.Worlds
set_option linter.unusedVariables false
set_option linter.unusedSimpArgs false
set_option linter.constructorNameAsVariable false
set_option maxHeartbeats 400000 in
theorem T9 (A B:Option Addr) (n m ca cb:Nat) (xs ys:List UInt8) (w:World) (hn:xs.length=n) (hm:ys.length=m) (hnc:n≤ca) (hx:ca≤9223372036854775807) (hmx:m≤140737488355328) (ha:BD w A xs) (hb:BD w B ys) :
  Calls Tryz.prog 42 #[.slice A n ca,.slice B m cb] w fun e w'=>e=.returned (.bool (decide (xs.take m=ys)))∧w'=w:=by
 have Hn:=Lib.hid hn
 have Hm:=Lib.hid hm
 have HA:=Lib.hid (BD.take ha m)
 have HB:=Lib.hid hb
 clear hn hm ha hb
 go_enter Tryz.func42,Tryz.ntmps42
 by_cases hmn:m≤n
 ·have h1:(m:Int)≤(n:Int):=by omega
  have h2:(m:Int)≤(ca:Int):=by omega
  have h3:¬ ((n:Int) < (m:Int)):=by omega
  go_wp2_with fail
  refine (Hw A B m m ca cb (xs.take m) ys w (by rw[List.length_take,Hn.out];omega) Hm.out HA.out HB.out).mono ?_
  rintro e w' ⟨rfl,rfl⟩
  go_wp2_with fail
  go_ret
  exact⟨rfl,rfl⟩
 ·have h1:¬ (m:Int)≤(n:Int):=by omega
  have h3:((n:Int) < (m:Int)):=by omega
  have Hd:Hid (decide (xs.take m=ys)=false):=Lib.hid (by
   rw[decide_eq_false_iff_not];intro h
   have:=congrArg List.length h
   rw[List.length_take,Hn.out,Hm.out]at this
   omega)
  clear hmn
  go_wp2_with fail
  go_ret
  exact⟨by rw[Hd.out];rfl,rfl⟩
def sA:Fl:=⟨[97],[],1,0,false⟩
def sB:Fl:=⟨[98],[],2,0,false⟩
theorem Zt (f:Fl) (hf:f.bytes=[]) (hn:f.name.length=1) (hc:Be [f]=0):∃ b,Cf CK [f]=.ok b∧b.length=122:=by
 have hw:Bt CK [f]=[⟨f,0,f.bytes,GK f.bytes⟩]:=by
  unfold Bt
  rw[List.map_cons,List.map_nil,Zu f (by rw[hf];decide)]
 have hl:(laidB (Bt CK [f])).length=122:=by
  rw[hw,KQ]
  simp[KR,hf,hn]
 have h:Cf CK [f]=.ok (laidB (Bt CK [f])):=by
  unfold Cf
  rw[if_neg (fun h=>h hc),if_neg (by omega)]
 exact⟨_,h,hl⟩
theorem fD:∃ b1 b2,b1.length=122∧b2.length=122∧NT CK [] [] [sA]=.ok ([],Bf b1)∧IL [] (Bf b1)=.ok (Bf b1,[])∧NT CK (Bf b1) [] [sB]=.ok (Bf b1,Bf b2)∧xG (Bf b1) (Bf b2) 9=.ok (Bf b1,9)∧EY (Bf b1) []=0∧Cr (Bf b1) []=[sA]:=by
 have hA:Be [sA]=0:=by decide +kernel
 have hB:Be [sB]=0:=by decide +kernel
 obtain⟨b1,hw1,hl1⟩:=Zt sA rfl rfl hA
 obtain⟨b2,hw2,hl2⟩:=Zt sB rfl rfl hB
 obtain⟨g1,g2,g3⟩:=S9 JK hw1
 have AHH:(Br [sA] [sB]).1=0:=by decide +kernel
 have ha:NT CK (Bf b1) [] [sB]=.ok (Bf b1,Bf b2):=by
  rw[Tu,if_neg (fun h=>h g2),hw2]
  dsimp only
  rw[g3,if_neg (fun h=>h AHH),if_neg (by simp[C9,hl1,hl2])]
  rfl
 have hrec:Rec (Bf b1) [] [b1] 1:=⟨by simp[recs],by simp[recs],by simp,⟨_,(Y5 JK hw1).2⟩⟩
 obtain⟨b,hr,hle⟩:=hrec.add JK ha
 have hwb:Bf b2=Bf b:=by
  have:=hr.wait
  simpa [recs] using this
 have hck:=(hr.chk hle).1
 obtain⟨j,mj,h1,h2,h3,h4,h5,h6⟩:=hr.cut (n:=9) (by rw[C9];omega)
 have hlb:b.length=122:=by
  have:=congrArg List.length hwb
  rw[C9,C9]at this
  omega
 have hj:j=1:=by
  rcases Nat.lt_or_ge j 2 with h | h
  ·omega
  ·exfalso
   have hj2:j=2:=by simp at h2;omega
   subst hj2
   have:=NB (Bf b1++(Bf b2).take 9)
   rw[h4]at this
   simp[recs,C9,hl1,hlb,List.length_take,hl2]at this
 subst hj
 have hrl:(recs (([b1]++[b]).take 1)).length=130:=by simp[recs,C9,hl1]
 rw[hrl]at h4
 refine⟨b1,b2,hl1,hl2,?_,?_,ha,?_,g2,g3⟩
 ·rw[add_nil hA,hw1]
 ·unfold IL
  rw[if_neg (fun h=>h g1)]
  rfl
 ·unfold xG
  have h9:(Bf b2).length=130:=by rw[C9,hl2]
  rw[if_neg (fun h=>h hck),if_neg (by rw[h9];omega)]
  have AKX:(Bf b1++(Bf b2).take 9).length=139:=by rw[List.length_append,List.length_take,C9,h9,hl1];rfl
  show DY (Bf b1++(Bf b2).take 9)=_
  unfold DY
  rw[if_neg (by omega),h4,AKX]
  have:(Bf b1++(Bf b2).take 9).take 130=Bf b1:=List.take_left' (by rw[C9,hl1])
  rw[this]
  rfl
def dT:List TypeId:=[52]
theorem WC (w:World) (f:Fl) (h:f.bytes=[]) (hn:f.name.length≤maxLen) (hs:lD f.stamp) (hd:lD f.node):Fs (w.alloc (.cells (fC (f,none,0,0)).toArray 36)) (.slice (some ⟨w.heap.size,0,none⟩) 1 1) [f]:=by
 have:=lX (n:=1) (l:=[(f,none,0,0)]) (AX.new w 36 ([((f,none,0,0):Fx)].flatMap fC).toArray) rfl (by omega) (fun x hx=>by
  rw[List.mem_singleton]at hx
  subst hx
  exact Y0 _ _ h hn hs hd)
 exact this.fs
set_option maxRecDepth 100000 in
set_option maxHeartbeats 4000000 in
theorem Q5 (w:World) (hm:ML w) :
  Calls Tryz.prog 29 #[] w fun e w'=>e=.returned (.bool true)∧Below w.heap.size w w':=by
 obtain⟨b1,b2,hl1,hl2,ha1,hf1,ha2,hc1,hk1,hfi⟩:=fD
 have Hm:=Lib.hid hm
 have HA1:=Lib.hid ha1
 have Xx:=Lib.hid hf1
 have HA2:=Lib.hid ha2
 have HC1:=Lib.hid hc1
 have VT:=Lib.hid hk1
 have HFi:=Lib.hid hfi
 have hr1:(Bf b1).length=130:=by rw[C9,hl1]
 have hr2:(Bf b2).length=130:=by rw[C9,hl2]
 have HR1:=Lib.hid hr1
 have HR2:=Lib.hid hr2
 clear hm ha1 hf1 ha2 hc1 hk1 hfi hl1 hl2 hr1 hr2
 generalize Bf b1=r1 at *
 generalize Bf b2=r2 at *
 have HFa:Hid (Fs (w.alloc (.cells #[.string ⟨#[97]⟩,.slice none 0 0,.int .i64 1,.int .i64 0,.bool false] 36)) (.slice (some ⟨w.heap.size,0,none⟩) 1 1) [sA]):=Lib.hid (WC w sA rfl (by decide) rfl rfl)
 have hb1:Below w.heap.size w (w.alloc (.cells #[.string ⟨#[97]⟩,.slice none 0 0,.int .i64 1,.int .i64 0,.bool false] 36)):=(Below.refl _ _).alloc (Nat.le_refl _) _
 have mZ:=Lib.hid (Xw ⟨.slice none 0 0,[],.slice none 0 0,[]⟩ _ [sA] _ (Hm.out.below hb1) ⟨(BP.nil _ 0).bytes,(BP.nil _ 0).bytes⟩ ⟨by simp,by simp⟩ HFa.out)
 unfold dV at mZ
 dsimp only at mZ
 rw[HA1.out]at mZ
 have Hb1:=Lib.hid hb1
 clear hb1
 go_enter Tryz.func29,Tryz.ntmps29
 go_wp2_with fail
 generalize w.alloc (.cells #[.string ⟨#[97]⟩,.slice none 0 0,.int .i64 1,.int .i64 0,.bool false] 36)=w1 at *
 refine (mZ.out).mono ?_
 rintro e w2 ⟨⟨vs,vw,rfl,hos,how⟩,hb2⟩
 dsimp only at hos how
 obtain⟨A1,c1,rfl,_,_,_,_⟩:=hos.slice
 obtain⟨A2,c2,rfl,_,_,_,_⟩:=how.slice
 rw[HR1.out]at how⊢
 simp only[List.length_nil]at hos⊢
 have Hb2:=Lib.hid (Hb1.out.trans (hb2.mono Hb1.out.size))
 have BH:Below w2.heap.size w2 (w2.alloc (.cells #[.slice A1 0 c1,.slice A2 130 c2] 52)):=(Below.refl _ _).alloc (Nat.le_refl _) _
 have HB3:=Lib.hid (AX.new w2 52 #[.slice A1 0 c1,.slice A2 130 c2])
 have Hb3:=Lib.hid (Hb2.out.trans (BH.mono Hb2.out.size))
 have qb:=Lib.hid (WB ⟨.slice A1 0 c1,[],.slice A2 130 c2,r1⟩ _ (Hm.out.below Hb3.out) ⟨(hos.keep BH).bytes,(how.keep BH).bytes⟩ ⟨by simp,by show r1.length≤_;rw[HR1.out];omega⟩)
 unfold dV at qb
 dsimp only at qb
 rw[Xx.out]at qb
 have AKY:w.heap.size≤w2.heap.size:=Hb2.out.size
 clear hos how hb2 BH mZ Hb2 Hb1 HFa
 go_upto_region 2 with fail
 generalize hg1:w2.heap.size=g1 at *
 generalize w2.alloc (.cells #[.slice A1 0 c1,.slice A2 130 c2] 52)=w3 at *
 have k0:w3.cell? ⟨g1,0,none⟩=some (.slice A1 0 c1):=HB3.out.cell 0
 have k1:w3.cell? ⟨g1,1,none⟩=some (.slice A2 130 c2):=HB3.out.cell 1
 clear hg1
 go_wp2_with fail
 refine (qb.out).mono ?_
 rintro e w4 ⟨⟨vs,vw,rfl,hos,how⟩,hb4⟩
 dsimp only at hos how
 obtain⟨A3,c3,rfl,_,_,_,_⟩:=hos.slice
 obtain⟨A4,c4,rfl,_,_,_,_⟩:=how.slice
 rw[HR1.out]at hos⊢
 simp only[List.length_nil]at how⊢
 have hB4:=HB3.out.below hb4 HB3.out.lt
 have Hb4:=Lib.hid (Hb3.out.trans (hb4.mono Hb3.out.size))
 have hk5:AB g1 dT w4 ((w4.setCell ⟨g1,0,none⟩ (.slice A3 130 c3)).setCell ⟨g1,1,none⟩ (.slice A4 0 c4)):=((AB.refl _ _ _).Dv hB4 (by simp[dT]) (Nat.le_refl _) 0 _).Dv (hB4.Ca 0 _) (by simp[dT]) (Nat.le_refl _) 1 _
 have II:Hid (AX ((w4.setCell ⟨g1,0,none⟩ (.slice A3 130 c3)).setCell ⟨g1,1,none⟩ (.slice A4 0 c4)) g1 52 #[.slice A3 130 c3,.slice A4 0 c4]):=Lib.hid (Dc hB4 _ _)
 have Hb5:=Lib.hid (Hb4.out.trans (hk5.below.mono AKY))
 have AHI:=hk5.own hos (by decide)
 have AHJ:=hk5.own how (by decide)
 have q0:w4.cell? ⟨g1,0,none⟩=some (.slice A1 0 c1):=hB4.cell 0
 have q1:w4.cell? ⟨g1,1,none⟩=some (.slice A2 130 c2):=hB4.cell 1
 have z0:=hB4.frozen 0
 have z1:=hB4.frozen 1
 clear k0 k1 hos how hk5 hb4 qb Hb4 Hb3 HB3 hB4
 go_upto_region 3 with fail
 clear q0 q1 z0 z1
 generalize (w4.setCell ⟨g1,0,none⟩ (.slice A3 130 c3)).setCell ⟨g1,1,none⟩ (.slice A4 0 c4)=w5 at *
 have k0:w5.cell? ⟨g1,0,none⟩=some (.slice A3 130 c3):=II.out.cell 0
 have k1:w5.cell? ⟨g1,1,none⟩=some (.slice A4 0 c4):=II.out.cell 1
 have HFb:Hid (Fs (w5.alloc (.cells #[.string ⟨#[98]⟩,.slice none 0 0,.int .i64 2,.int .i64 0,.bool false] 36)) (.slice (some ⟨w5.heap.size,0,none⟩) 1 1) [sB]):=Lib.hid (WC w5 sB rfl (by decide) rfl rfl)
 have BH:Below w5.heap.size w5 (w5.alloc (.cells #[.string ⟨#[98]⟩,.slice none 0 0,.int .i64 2,.int .i64 0,.bool false] 36)):=(Below.refl _ _).alloc (Nat.le_refl _) _
 have Jl:=Lib.hid (Hb5.out.trans (BH.mono Hb5.out.size))
 have mZ:=Lib.hid (Xw ⟨.slice A3 130 c3,r1,.slice A4 0 c4,[]⟩ _ [sB] _ (Hm.out.below Jl.out) ⟨(AP AHI BH |> fun h=>BP.bytes h),(AP AHJ BH |> fun h=>BP.bytes h)⟩ ⟨by show r1.length≤_;rw[HR1.out];omega,by simp⟩ HFb.out)
 unfold dV at mZ
 dsimp only at mZ
 rw[HA2.out]at mZ
 clear BH AHI AHJ Hb5 HFb
 go_wp2_with fail
 generalize w5.heap.size=g5 at *
 generalize w5.alloc (.cells #[.string ⟨#[98]⟩,.slice none 0 0,.int .i64 2,.int .i64 0,.bool false] 36)=w6 at *
 clear k0 k1 II
 refine (mZ.out).mono ?_
 rintro e w7 ⟨⟨vs,vw,rfl,hos,how⟩,Ir⟩
 dsimp only at hos how
 obtain⟨A5,c5,rfl,_,_,_,_⟩:=hos.slice
 obtain⟨A6,c6,rfl,_,_,_,_⟩:=how.slice
 rw[HR1.out]at hos⊢
 rw[HR2.out]at how⊢
 have Fe:=Lib.hid (Jl.out.trans (Ir.mono Jl.out.size))
 have BH:Below w7.heap.size w7 (w7.alloc (.cells #[.slice A5 130 c5,.slice A6 130 c6] 52)):=(Below.refl _ _).alloc (Nat.le_refl _) _
 have JC:=Lib.hid (AX.new w7 52 #[.slice A5 130 c5,.slice A6 130 c6])
 have EG:=Lib.hid (Fe.out.trans (BH.mono Fe.out.size))
 have HCu:=Lib.hid (AA9 ⟨.slice A5 130 c5,r1,.slice A6 130 c6,r2⟩ 9 _ (Hm.out.below EG.out) ⟨(hos.keep BH).bytes,(how.keep BH).bytes⟩ ⟨by show r1.length≤_;rw[HR1.out];omega,by show r2.length≤_;rw[HR2.out];omega⟩)
 unfold dV at HCu
 dsimp only at HCu
 rw[HC1.out]at HCu
 clear hos how Ir BH mZ Fe Jl
 go_upto_region 4 with fail
 generalize w7.heap.size=g4 at *
 generalize w7.alloc (.cells #[.slice A5 130 c5,.slice A6 130 c6] 52)=w8 at *
 have k0:w8.cell? ⟨g4,0,none⟩=some (.slice A5 130 c5):=JC.out.cell 0
 have k1:w8.cell? ⟨g4,1,none⟩=some (.slice A6 130 c6):=JC.out.cell 1
 go_wp2_with fail
 refine (HCu.out).mono ?_
 rintro e w9 ⟨⟨vs,rfl,hos⟩,Px⟩
 dsimp only at hos⊢
 obtain⟨A7,c7,rfl,_,_,_,_⟩:=hos.slice
 rw[HR1.out]at hos⊢
 have KZ:=Lib.hid (JC.out.below Px JC.out.lt)
 have Pg:=Lib.hid (EG.out.trans (Px.mono EG.out.size))
 have BH:Below w9.heap.size w9 (w9.alloc (.cells #[.slice A7 130 c7,.slice none 0 0] 52)):=(Below.refl _ _).alloc (Nat.le_refl _) _
 have Ma:=Lib.hid (AX.new w9 52 #[.slice A7 130 c7,.slice none 0 0])
 have xI:=Lib.hid (KZ.out.below BH KZ.out.lt)
 have Mo:=Lib.hid (Pg.out.trans (BH.mono Pg.out.size))
 have jX:=Lib.hid (KP ⟨.slice A7 130 c7,r1,.slice none 0 0,[]⟩ _ (Hm.out.below Mo.out) ⟨(hos.keep BH).bytes,(BP.nil _ 0).bytes⟩ ⟨by show r1.length≤_;rw[HR1.out];omega,by simp⟩)
 unfold dV Gm at jX
 dsimp only at jX
 rw[VT.out,HFi.out]at jX
 clear hos Px BH HCu Pg EG JC KZ k0 k1
 go_upto_region 5 with fail
 generalize w9.heap.size=g6 at *
 generalize w9.alloc (.cells #[.slice A7 130 c7,.slice none 0 0] 52)=Le at *
 have k0:Le.cell? ⟨g6,0,none⟩=some (.slice A7 130 c7):=Ma.out.cell 0
 have k1:Le.cell? ⟨g6,1,none⟩=some (.slice none 0 0):=Ma.out.cell 1
 go_wp2_with fail
 refine (jX.out).mono ?_
 rintro e YW ⟨hr,RJ⟩
 rw[if_neg (by simp)]at hr
 obtain⟨v,rfl,hv⟩:=hr
 obtain⟨A8,c8,rfl⟩:=hv.fs.slice
 have hB:=xI.out.below RJ xI.out.lt
 have AEa:=Lib.hid (Mo.out.trans (RJ.mono Mo.out.size))
 have k1':YW.cell? ⟨g4,1,none⟩=some (.slice A6 130 c6):=hB.cell 1
 clear k0 k1 RJ jX hB hv Ma xI Mo
 simp only[List.length_cons,List.length_nil]
 go_wp2_with fail
 go_ret
 exact⟨rfl,AEa.out⟩
set_option maxRecDepth 100000 in
set_option maxHeartbeats 2000000 in
theorem WE (x y:Dx) (w:World) (hx:Db w x) (hy:Db w y) :
  Calls Tryz.prog 30 #[dV x,dV y] w fun e w'=>e=.returned (.bool (decide (x.safe=y.safe) && decide (x.wait=y.wait)))∧Below w.heap.size w w':=by
 obtain⟨vs,s,vw,t⟩:=x
 obtain⟨us,s2,uw,t2⟩:=y
 obtain⟨A1,c1,e1,_,_,g1⟩:=(show Au w vs s from hx.safe)
 obtain⟨A2,c2,e2,_,_,g2⟩:=(show Au w vw t from hx.wait)
 obtain⟨A3,c3,e3,_,_,g3⟩:=(show Au w us s2 from hy.safe)
 obtain⟨A4,c4,e4,_,_,g4⟩:=(show Au w uw t2 from hy.wait)
 subst e1 e2 e3 e4
 unfold dV
 dsimp only
 have BH:Below w.heap.size w ((w.alloc (.cells #[.slice A1 s.length c1,.slice A2 t.length c2] 52)).alloc (.cells #[.slice A3 s2.length c3,.slice A4 t2.length c4] 52)):=((Below.refl _ _).alloc (Nat.le_refl _) _).alloc (by simp only[World.size_alloc];omega) _
 have HB1:=Lib.hid ((AX.new w 52 #[.slice A1 s.length c1,.slice A2 t.length c2]).alloc (.cells #[.slice A3 s2.length c3,.slice A4 t2.length c4] 52))
 have hB2:=AX.new (w.alloc (.cells #[.slice A1 s.length c1,.slice A2 t.length c2] 52)) 52 #[.slice A3 s2.length c3,.slice A4 t2.length c4]
 simp only[World.size_alloc]at hB2
 have HB2:=Lib.hid hB2
 have HG1:=Lib.hid (BD.below g1 BH)
 have HG2:=Lib.hid (BD.below g2 BH)
 have HG3:=Lib.hid (BD.below g3 BH)
 have df:=Lib.hid (BD.below g4 BH)
 have Hb:=Lib.hid BH
 clear BH hB2 g1 g2 g3 g4 hx hy
 obtain⟨p1,hp1⟩:∃ p,p=decide (s=s2):=⟨_,rfl⟩
 obtain⟨p2,hp2⟩:∃ p,p=decide (t=t2):=⟨_,rfl⟩
 rw[←hp1,←hp2]
 have HP1:=Lib.hid hp1
 have YO:=Lib.hid hp2
 clear hp1 hp2
 go_enter Tryz.func30,Tryz.ntmps30
 go_upto_region 1 with fail
 generalize (w.alloc (.cells #[.slice A1 s.length c1,.slice A2 t.length c2] 52)).alloc (.cells #[.slice A3 s2.length c3,.slice A4 t2.length c4] 52)=w1 at *
 have k0:w1.cell? ⟨w.heap.size,0,none⟩=some (.slice A1 s.length c1):=HB1.out.cell 0
 have k1:w1.cell? ⟨w.heap.size,1,none⟩=some (.slice A2 t.length c2):=HB1.out.cell 1
 have k2:w1.cell? ⟨w.heap.size+1,0,none⟩=some (.slice A3 s2.length c3):=HB2.out.cell 0
 have k3:w1.cell? ⟨w.heap.size+1,1,none⟩=some (.slice A4 t2.length c4):=HB2.out.cell 1
 have E1:=Lib.hid (Hw A1 A3 s.length s2.length c1 c3 s s2 w1 rfl rfl HG1.out HG3.out)
 have E2:=Lib.hid (Hw A2 A4 t.length t2.length c2 c4 t t2 w1 rfl rfl HG2.out df.out)
 generalize s.length=n1 at *
 generalize t.length=n2 at *
 generalize s2.length=n3 at *
 generalize t2.length=n4 at *
 rw[←HP1.out]at E1
 rw[←YO.out]at E2
 go_wp2_with fail
 refine (E1.out).mono ?_
 rintro e w2 ⟨rfl,rfl⟩
 cases p1 with
 | false=>
  go_wp2_with fail
  go_ret
  exact⟨rfl,Hb.out⟩
 | true=>
  go_wp2_with fail
  refine (E2.out).mono ?_
  rintro e w3 ⟨rfl,rfl⟩
  go_wp2_with fail
  go_ret
  exact⟨rfl,Hb.out⟩
end Go.Proofs.YtabdianhoabhhaaGreatDoor.Kn
