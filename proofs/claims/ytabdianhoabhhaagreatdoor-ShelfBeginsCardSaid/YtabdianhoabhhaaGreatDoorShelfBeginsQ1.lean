/- texts joined: At2 ShelfBeginsWalk. -/
import Derived.Test.YtabdianhoabhhaaGreatDoorSbQ1
import Derived.Test.YtabdianhoabhhaaGreatDoorProg
import Derived.WalkSpells
import Derived.Test.YtabdianhoabhhaaGreatDoorSbQ12
namespace Go.Proofs.YtabdianhoabhhaaGreatDoor
open Go Go.RowKit
set_option linter.unusedVariables false
theorem zi (k n:Int) (w:World) (h0:-9223372036854775808≤k) (h1:k≤9223372036854775807) (hn:0 < n) (hn2:n≤4611686018427387904) :
  Calls Tryz.prog 41 #[.int .i64 k,.int .i64 n] w fun e w'=>e=.returned (.int .i64 (k % n))∧w=w':=by
 have hne:(n == 0)=false:=by simp;omega
 have hb1:k.tmod n < n:=Int.tmod_lt_of_pos _ hn
 have hb2:-n < k.tmod n:=by
  have:=Int.tmod_lt_of_pos (-k) hn
  rw[Int.neg_tmod]at this;omega
 by_cases hneg:k.tmod n < 0
 ·have Hf:Hid (k.tmod n+n=k % n):=Lib.hid (by
   have h2:=Int.tmod_add_mul_tdiv k n
   have h3:(k.tmod n+n+n*(k.tdiv n - 1))=k:=by rw[Int.mul_sub,Int.mul_one];omega
   conv=>rhs;rw[←h3]
   rw[Int.add_mul_emod_self_left,Int.emod_eq_of_lt (by omega) (by omega)])
  go_enter Tryz.func41,Tryz.ntmps41
  go_wp2
  go_ret
  exact⟨Da Hf.out,rfl⟩
 ·have hneg:0≤k.tmod n:=by omega
  have Hf:Hid (k.tmod n=k % n):=Lib.hid (by
   have h2:=Int.tmod_add_mul_tdiv k n
   conv=>rhs;rw[←h2]
   rw[Int.add_mul_emod_self_left,Int.emod_eq_of_lt (by omega) (by omega)])
  go_enter Tryz.func41,Tryz.ntmps41
  go_wp2
  go_ret
  exact⟨Da Hf.out,rfl⟩
end Go.Proofs.YtabdianhoabhhaaGreatDoor
namespace Go.Proofs.YtabdianhoabhhaaGreatDoor.ShelfBegins
open Go Go.RowKit Go.Proofs.YtabdianhoabhhaaGreatDoor Go.Proofs.YtabdianhoabhhaaGreatDoor.Bits Go.Proofs.YtabdianhoabhhaaGreatDoor.Merge Go.Proofs.YtabdianhoabhhaaGreatDoor.Name Go.Proofs.YtabdianhoabhhaaGreatDoor.Zip Go.Proofs.YtabdianhoabhhaaGreatDoor.Worlds Go.Proofs.YtabdianhoabhhaaGreatDoor.Kn
set_option linter.unusedVariables false
set_option linter.unusedSimpArgs false
set_option linter.constructorNameAsVariable false
theorem AKc {n:Int} (h:(Lit.int .i64 n).wf=true):-9223372036854775808≤n∧n≤9223372036854775807:=by
 simpa [Lit.wf,IntKind.min,IntKind.max,IntKind.signed,IntKind.bits] using h
theorem xL {b:List UInt8} (h:¬ 40000 < b.length):DY b=.ok (b.take (scan b).2,b.length - (scan b).2):=by unfold DY;rw[if_neg h]
set_option maxRecDepth 100000 in
set_option maxHeartbeats 4000000 in
theorem walk (W:World) (hm:ML W) (v0:Value) (b:List UInt8) (h0:Au W v0 b) (n:Int) (wn:(Lit.int .i64 n).wf=true) :
  Calls Tryz.prog 9 #[v0,.int .i64 n] W fun e W'=>e=.returned (.bool true)∧Below W.heap.size W W':=by
 obtain⟨A,c,rfl,h1,h2,hA⟩:=h0
 obtain⟨wn1,wn2⟩:=AKc wn
 have HF:Hid (∀ w,Below W.heap.size W w→Calls _ _ _ w _):=Lib.hid (fun w hb=>Q5 w (hm.below hb))
 have HRv:Hid (∀ w,Below W.heap.size W w→∀ A n c b (hn:b.length=n) (hnc:n≤c) (hcm:c≤maxLen) (hA:BD w A b),Calls _ _ _ w _):=Lib.hid (fun w hb A n c b hn hnc hcm hA=>Q4 A n c b w (hm.below hb) hn hnc hcm hA)
 have qZ:Hid (∀ w,Below W.heap.size W w→∀ (x:Dx) (hd:Db w x) (hsz:uI x),Calls _ _ _ w _):=Lib.hid (fun w hb x hd hsz=>PK x w (hm.below hb) hd hsz)
 have HA:=Lib.hid hA
 clear hm hA wn
 by_cases YQ:40000 < b.length
 ·have HR:=Lib.hid (show DY b=.bad 2 by unfold DY;rw[if_pos YQ])
  have HP:=Lib.hid (HRv.out W (Below.refl _ _) A b.length c b rfl h1 h2 HA.out)
  rw[HR.out]at HP
  generalize b.length=nb at *
  go_enter Tryz.func9,Tryz.ntmps9
  go_wp2_with fail
  refine (HP.out).mono ?_
  rintro e w2 ⟨rfl,hb2⟩
  unfold noD
  have Hb3:Hid (Below W.heap.size W (w2.alloc (.cells #[.slice none 0 0,.slice none 0 0] 52))):=Lib.hid (hb2.alloc hb2.size _)
  clear hb2
  go_upto_region 2 with fail
  generalize w2.alloc (.cells #[.slice none 0 0,.slice none 0 0] 52)=w3 at *
  go_wp2_with fail
  refine (HF.out _ Hb3.out).mono ?_
  rintro e w4 ⟨rfl,hb4⟩
  have Hb4:=Lib.hid (Hb3.out.trans (hb4.mono Hb3.out.size))
  clear hb4
  go_wp2_with fail
  refine (HF.out _ Hb4.out).mono ?_
  rintro e w5 ⟨rfl,hb5⟩
  have Hb5:=Lib.hid (Hb4.out.trans (hb5.mono Hb4.out.size))
  clear hb5
  go_wp2_with fail
  go_ret
  exact⟨rfl,Hb5.out⟩
 ·have HP:=Lib.hid (HRv.out W (Below.refl _ _) A b.length c b rfl h1 h2 HA.out)
  rw[xL YQ]at HP
  obtain⟨a1,a2⟩:=U6 (b:=b) (by omega)
  have hle:=NB b
  obtain⟨k,hk⟩:∃ k:Nat,n % ((b.length:Int)+1)=(k:Int):=⟨(n % ((b.length:Int)+1)).toNat,by have:=Int.emod_nonneg n (show (b.length:Int)+1≠0 by omega);omega⟩
  have hkb:k≤b.length:=by
   have:=Int.emod_lt_of_pos n (show (0:Int) < (b.length:Int)+1 by omega)
   omega
  obtain⟨t,ht⟩:=XM b k
  have hkr:=xL (b:=b.take k) (by rw[List.length_take];omega)
  have hle2:=NB (b.take k)
  have hlk:(b.take k).length=k:=by rw[List.length_take];omega
  rw[hlk]at hle2 hkr
  obtain⟨s,hs⟩:∃ s,s=b.take (scan b).2:=⟨_,rfl⟩
  obtain⟨s2,hs2⟩:∃ s,s=(b.take k).take (scan (b.take k)).2:=⟨_,rfl⟩
  have hsl:s.length=(scan b).2:=by rw[hs,List.length_take];omega
  have hsl2:s2.length=(scan (b.take k)).2:=by rw[hs2,List.length_take,hlk];omega
  have hpre:b.take s.length=s:=by rw[hsl,hs]
  rw[←hs]at HP a1 a2 ht
  rw[←hs2]at hkr ht
  have ACV:s.take s2.length=s2:=by rw[ht];exact List.take_left' rfl
  rw[←hsl]at HP hle
  rw[←hsl2]at hkr hle2
  have HA1:=Lib.hid a1
  have HA2:=Lib.hid a2
  have HKr:=Lib.hid hkr
  have AHP:=Lib.hid hpre
  have ACW:=Lib.hid ACV
  have HAt:=Lib.hid (fun w=>zi n ((b.length:Int)+1) w wn1 wn2 (by omega) (by omega))
  rw[hk]at HAt
  have Hlk:=Lib.hid hlk
  clear a1 a2 hkr ht hs hs2 hsl hsl2 hpre ACV hk hlk wn1 wn2
  obtain⟨nb,hnb⟩:∃ nb,nb=b.length:=⟨_,rfl⟩
  obtain⟨ns,hns⟩:∃ ns,ns=s.length:=⟨_,rfl⟩
  obtain⟨n2,hn2⟩:∃ n2,n2=s2.length:=⟨_,rfl⟩
  rw[←hnb]at HP hle YQ h1 hkb HAt⊢
  rw[←hns]at HP hle AHP
  rw[←hn2]at hle2 HKr ACW
  have VC:=Lib.hid hnb
  have RO:=Lib.hid hns
  have Hn2:=Lib.hid hn2
  have AL2:IntKind.i64.wrap ((nb:Int) - (ns:Int))=(nb:Int) - (ns:Int):=IntWalk.i64_in _ (by omega)
  have AEb:((nb - ns:Nat):Int)=(nb:Int) - (ns:Int):=by omega
  have AMt:IntKind.i64.wrap ((nb:Int)+1)=(nb:Int)+1:=IntWalk.i64_in _ (by omega)
  have hkc:(k:Int)≤(c:Int):=by omega
  clear hnb hns hn2
  go_enter Tryz.func9,Tryz.ntmps9
  go_wp2_with fail
  refine (HP.out).mono ?_
  rintro e w2 ⟨⟨vs,rfl,hos⟩,hb2⟩
  dsimp only at hos⊢
  obtain⟨A3,c3,rfl,_,_,_,_⟩:=hos.slice
  rw[←RO.out]at hos⊢
  rw[AEb]
  have BH:Below w2.heap.size w2 (w2.alloc (.cells #[.slice A3 ns c3,.slice none 0 0] 52)):=(Below.refl _ _).alloc (Nat.le_refl _) _
  have HB3:=Lib.hid (AX.new w2 52 #[.slice A3 ns c3,.slice none 0 0])
  have HD3:Hid (Db (w2.alloc (.cells #[.slice A3 ns c3,.slice none 0 0] 52)) ⟨.slice A3 ns c3,s,.slice none 0 0,[]⟩):=Lib.hid ⟨(hos.keep BH).bytes,(BP.nil _ 0).bytes⟩
  have Hb3:=Lib.hid (hb2.trans (BH.mono hb2.size))
  have HA3:=Lib.hid (BD.below HA.out (show Below W.heap.size W _ from Hb3.out))
  clear hos hb2 BH HP HA
  go_upto_region 2 with fail
  generalize w2.heap.size=g3 at *
  generalize w2.alloc (.cells #[.slice A3 ns c3,.slice none 0 0] 52)=w3 at *
  go_wp2_with fail
  refine (HF.out _ Hb3.out).mono ?_
  rintro e w4 ⟨rfl,hb4⟩
  have E9:=Lib.hid (HB3.out.below hb4 HB3.out.lt)
  have HD4:=Lib.hid (HD3.out.below hb4)
  have Wp:=Lib.hid (BD.below HA3.out hb4)
  have Hb4:=Lib.hid (Hb3.out.trans (hb4.mono Hb3.out.size))
  clear hb4 HB3 HD3 HA3 Hb3 HF
  go_wp2_with fail
  refine (HAt.out w4).mono ?_
  rintro e w5 ⟨rfl,rfl⟩
  have YO:=Lib.hid (HRv.out w4 Hb4.out A k c (b.take k) Hlk.out (by omega) h2 (Wp.out.take k))
  rw[HKr.out]at YO
  go_wp2_with fail
  refine (YO.out).mono ?_
  rintro e w6 ⟨⟨vs,rfl,hos⟩,hb6⟩
  dsimp only at hos⊢
  obtain⟨A5,c5,rfl,_,_,_,_⟩:=hos.slice
  rw[←Hn2.out]at hos⊢
  have BH:Below w6.heap.size w6 (w6.alloc (.cells #[.slice A5 n2 c5,.slice none 0 0] 52)):=(Below.refl _ _).alloc (Nat.le_refl _) _
  have xM:=hb6.trans (BH.mono hb6.size)
  have AEc:=Lib.hid (AX.new w6 52 #[.slice A5 n2 c5,.slice none 0 0])
  have HE7:Hid (Au (w6.alloc (.cells #[.slice A5 n2 c5,.slice none 0 0] 52)) (.slice A5 n2 c5) s2):=Lib.hid (hos.keep BH).bytes
  have ZE:=Lib.hid (E9.out.below xM E9.out.lt)
  have HD7:=Lib.hid (HD4.out.below xM)
  have zW:=Lib.hid (BD.below Wp.out xM)
  have Fe:=Lib.hid (Hb4.out.trans (xM.mono Hb4.out.size))
  clear hos hb6 BH xM YO E9 HD4 Wp Hb4 HAt
  go_upto_region 5 with fail
  generalize w6.heap.size=g7 at *
  generalize w6.alloc (.cells #[.slice A5 n2 c5,.slice none 0 0] 52)=w7 at *
  have k0:w7.cell? ⟨g3,0,none⟩=some (.slice A3 ns c3):=ZE.out.cell 0
  obtain⟨A3',c3',e3,q1,q2,q3⟩:=(show Au w7 (.slice A3 ns c3) s from HD7.out.safe)
  injection e3 with e31 e32 e33
  subst e31 e33
  have HP3:=Lib.hid (HRv.out w7 Fe.out A3 ns c3 s RO.out.symm (by rw[RO.out];exact q1) q2 q3)
  rw[HA1.out]at HP3
  clear e32 q1 q3
  go_wp2_with fail
  refine (HP3.out).mono ?_
  rintro e w8 ⟨⟨vs,rfl,hos⟩,LU⟩
  dsimp only at hos⊢
  obtain⟨A6,c6,rfl,_,_,_,_⟩:=hos.slice
  rw[←RO.out]at hos⊢
  have BH:Below w8.heap.size w8 (w8.alloc (.cells #[.slice A6 ns c6,.slice none 0 0] 52)):=(Below.refl _ _).alloc (Nat.le_refl _) _
  have fH:=LU.trans (BH.mono LU.size)
  have xN:=Lib.hid (AX.new w8 52 #[.slice A6 ns c6,.slice none 0 0])
  have HG9:Hid (Db (w8.alloc (.cells #[.slice A6 ns c6,.slice none 0 0] 52)) ⟨.slice A6 ns c6,s,.slice none 0 0,[]⟩):=Lib.hid ⟨(hos.keep BH).bytes,(BP.nil _ 0).bytes⟩
  have KZ:=Lib.hid (ZE.out.below fH ZE.out.lt)
  have xO:=Lib.hid (AEc.out.below fH AEc.out.lt)
  have HE9:=Lib.hid (HE7.out.Bq fH)
  have HD9:=Lib.hid (HD7.out.below fH)
  have HA9:=Lib.hid (BD.below zW.out fH)
  have Pg:=Lib.hid (Fe.out.trans (fH.mono Fe.out.size))
  clear hos LU BH fH HP3 ZE AEc HE7 HD7 zW Fe k0
  go_upto_region 6 with fail
  generalize w8.heap.size=g9 at *
  generalize w8.alloc (.cells #[.slice A6 ns c6,.slice none 0 0] 52)=w9 at *
  have k0:w9.cell? ⟨g3,0,none⟩=some (.slice A3 ns c3):=KZ.out.cell 0
  have k1:w9.cell? ⟨g3,1,none⟩=some (.slice none 0 0):=KZ.out.cell 1
  have k2:w9.cell? ⟨g7,0,none⟩=some (.slice A5 n2 c5):=xO.out.cell 0
  have k3:w9.cell? ⟨g9,0,none⟩=some (.slice A6 ns c6):=xN.out.cell 0
  have k4:w9.cell? ⟨g9,1,none⟩=some (.slice none 0 0):=xN.out.cell 1
  obtain⟨A3',c3',e3,q1,q2,q3⟩:=(show Au w9 (.slice A3 ns c3) s from HD9.out.safe)
  injection e3 with e31 e32 e33
  subst e31 e33
  obtain⟨A5',c5',e5,p1,p2,p3⟩:=HE9.out
  injection e5 with e51 e52 e53
  subst e51 e53
  have HH1:=Lib.hid (T9 A A3 nb ns c c3 b s w9 VC.out.symm RO.out.symm (by omega) (by unfold maxLen at h2;omega) (by omega) HA9.out q3)
  rw[AHP.out]at HH1
  have HH2:=Lib.hid (T9 A3 A5 ns n2 c3 c5 s s2 w9 RO.out.symm Hn2.out.symm (by rw[RO.out];exact q1) (by unfold maxLen at q2;omega) (by omega) q3 p3)
  rw[ACW.out]at HH2
  have xP:=Lib.hid (WE ⟨.slice A6 ns c6,s,.slice none 0 0,[]⟩ ⟨.slice A3 ns c3,s,.slice none 0 0,[]⟩ w9 HG9.out HD9.out)
  unfold dV at xP
  dsimp only at xP
  rw[show (decide (s=s) && decide (([]:List UInt8)=[]))=true by simp]at xP
  rw[show decide (s=s)=true by simp]at HH1
  rw[show decide (s2=s2)=true by simp]at HH2
  clear q1 q3 p1 p3 e32 e52
  go_wp2_with fail
  refine (HH1.out).mono ?_
  rintro e Le ⟨rfl,rfl⟩
  go_wp2_with fail
  refine (HH2.out).mono ?_
  rintro e YW ⟨rfl,rfl⟩
  go_wp2_with fail
  refine (xP.out).mono ?_
  rintro e bM ⟨rfl,QJ⟩
  have AHQ:=Lib.hid (KZ.out.below QJ KZ.out.lt)
  have AEd:=Lib.hid (Pg.out.trans (QJ.mono Pg.out.size))
  have HC:=Lib.hid (qZ.out bM AEd.out ⟨.slice A3 ns c3,s,.slice none 0 0,[]⟩ (HD9.out.below QJ) ⟨by show s.length≤_;rw[←RO.out];omega,by simp⟩)
  unfold dV at HC
  dsimp only at HC
  rw[HA2.out]at HC
  clear k0 k1 k2 k3 k4 QJ xP HH1 HH2 KZ xO xN HE9 HD9 HA9 HG9 Pg
  have k0:bM.cell? ⟨g3,0,none⟩=some (.slice A3 ns c3):=AHQ.out.cell 0
  have k1:bM.cell? ⟨g3,1,none⟩=some (.slice none 0 0):=AHQ.out.cell 1
  go_wp2_with fail
  refine (HC.out).mono ?_
  rintro e w13 ⟨rfl,AC3⟩
  have AKd:=Lib.hid (AEd.out.trans (AC3.mono AEd.out.size))
  clear AC3 k0 k1
  go_wp2_with fail
  go_ret
  exact⟨rfl,AKd.out⟩
end Go.Proofs.YtabdianhoabhhaaGreatDoor.ShelfBegins
