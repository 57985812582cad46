/- texts joined: ShelfPacksWalk Her0 DiskSz. -/
import Derived.Test.YtabdianhoabhhaaGreatDoorSbQ12
import Derived.Test.YtabdianhoabhhaaGreatDoorSbQ1
import Derived.SizedLaws
import Derived.Test.YtabdianhoabhhaaGreatDoorSbQ8
import Derived.Test.YtabdianhoabhhaaGreatDoorSbQ11
namespace Go.Proofs.YtabdianhoabhhaaGreatDoor.ShelfPacks
open Go Go.RowKit Go.Proofs.YtabdianhoabhhaaGreatDoor Go.Proofs.YtabdianhoabhhaaGreatDoor.Bits Go.Proofs.YtabdianhoabhhaaGreatDoor.Merge Go.Proofs.YtabdianhoabhhaaGreatDoor.Name Go.Proofs.YtabdianhoabhhaaGreatDoor.Zip Go.Proofs.YtabdianhoabhhaaGreatDoor.Worlds Go.Proofs.YtabdianhoabhhaaGreatDoor.Kn
set_option linter.unusedVariables false
set_option linter.unusedSimpArgs false
set_option linter.constructorNameAsVariable false
theorem ABF {BC:List UInt8→List UInt8} {s w:List UInt8} {z:Int} (h:MK BC s w=.bad z):z≠0:=by
 unfold MK at h
 split at h
 ·rename_i hc
  injection h with h
  subst h;exact hc
 ·cases ha:NT BC [] [] (Cr s w) with
  | bad zz=>
   rw[ha]at h
   injection h with h
   subst h;exact xE ha
  | ok a=>
   rw[ha]at h
   have h:IL a.1 a.2=.bad z:=h
   unfold IL at h
   split at h
   ·rename_i hc
    injection h with h
    subst h;exact hc
   ·cases h
set_option maxRecDepth 100000 in
set_option maxHeartbeats 4000000 in
theorem walk (W:World) (hm:ML W) (v0:Value) (x:Dx) (h0:v0=dV x∧Db W x) (hsz:uI x) :
  Calls Tryz.prog 11 #[v0] W fun e W'=>e=.returned (.bool true)∧Below W.heap.size W W':=by
 obtain⟨rfl,hd⟩:=h0
 have HF:Hid (∀ w,Below W.heap.size W w→Calls _ _ _ w _):=Lib.hid (fun w hb=>Q5 w (hm.below hb))
 obtain⟨vs,s,vw,t⟩:=x
 obtain⟨A1,c1,e1,_,_,_⟩:=(show Au W vs s from hd.safe)
 obtain⟨A2,c2,e2,_,_,_⟩:=(show Au W vw t from hd.wait)
 subst e1 e2
 generalize hns:s.length=ns at *
 generalize hnt:t.length=nt at *
 have HD:=Lib.hid hd
 have Hm:=Lib.hid hm
 have Ou:=Lib.hid hsz
 unfold dV
 dsimp only
 clear hm hd hsz hns hnt
 have BH:Below W.heap.size W (W.alloc (.cells #[.slice A1 ns c1,.slice A2 nt c2] 52)):=(Below.refl _ _).alloc (Nat.le_refl _) _
 have HB1:=Lib.hid (AX.new W 52 #[.slice A1 ns c1,.slice A2 nt c2])
 have HD1:=Lib.hid (HD.out.below BH)
 have Hb1:=Lib.hid BH
 clear BH HD
 have HP:=Lib.hid (Zr _ _ (Hm.out.below Hb1.out) HD1.out Ou.out)
 unfold dV at HP
 dsimp only at HP
 cases hR:MK CK s t with
 | bad z=>
  have hz1:(z != 0)=true:=by simpa using ABF hR
  rw[hR]at HP
  clear hR
  go_enter Tryz.func11,Tryz.ntmps11
  go_upto_region 1 with fail
  generalize W.alloc (.cells #[.slice A1 ns c1,.slice A2 nt c2] 52)=w1 at *
  have k0:w1.cell? ⟨W.heap.size,0,none⟩=some (.slice A1 ns c1):=HB1.out.cell 0
  have k1:w1.cell? ⟨W.heap.size,1,none⟩=some (.slice A2 nt c2):=HB1.out.cell 1
  go_wp2_with fail
  refine (HP.out).mono ?_
  rintro e w2 ⟨rfl,hb2⟩
  unfold noD
  have hb2':=Hb1.out.trans (hb2.mono Hb1.out.size)
  have Hb3:Hid (Below W.heap.size W (w2.alloc (.cells #[.slice none 0 0,.slice none 0 0] 52))):=Lib.hid (hb2'.alloc hb2'.size _)
  clear hb2 hb2'
  go_upto_region 2 with fail
  clear k0 k1
  generalize w2.alloc (.cells #[.slice none 0 0,.slice none 0 0] 52)=w3 at *
  go_wp2_with fail
  refine (HF.out _ Hb3.out).mono ?_
  rintro e w4 ⟨rfl,hb4⟩
  have Hb4:=Lib.hid (Hb3.out.trans (hb4.mono Hb3.out.size))
  clear hb4
  go_wp2_with fail
  refine (HF.out _ Hb4.out).mono ?_
  rintro e w5 ⟨rfl,hb5⟩
  have Hb5:=Lib.hid (Hb4.out.trans (hb5.mono Hb4.out.size))
  clear hb5
  go_wp2_with fail
  go_ret
  exact⟨rfl,Hb5.out⟩
 | ok a=>
  obtain⟨p,q⟩:=a
  obtain⟨r1,rfl,r3,r4,r5⟩:=dG JK hR
  have AHR:=(Gq.1 r3).1
  simp only[List.length_nil,Nat.add_zero]at AHR
  rw[hR]at HP
  have R1:=Lib.hid r1
  have R3:=Lib.hid r3
  have R4:=Lib.hid r4
  have R5:=Lib.hid r5
  clear hR r1 r3 r4 r5
  have jX:=Lib.hid (fun w (hb:Below W.heap.size W w) (hd:Db w _)=>KP ⟨.slice A1 ns c1,s,.slice A2 nt c2,t⟩ w (Hm.out.below hb) hd Ou.out)
  unfold dV Gm at jX
  dsimp only at jX
  rw[R1.out]at jX
  go_enter Tryz.func11,Tryz.ntmps11
  go_upto_region 1 with fail
  generalize W.alloc (.cells #[.slice A1 ns c1,.slice A2 nt c2] 52)=w1 at *
  have k0:w1.cell? ⟨W.heap.size,0,none⟩=some (.slice A1 ns c1):=HB1.out.cell 0
  have k1:w1.cell? ⟨W.heap.size,1,none⟩=some (.slice A2 nt c2):=HB1.out.cell 1
  go_wp2_with fail
  refine (HP.out).mono ?_
  rintro e w2 ⟨⟨us,uw,rfl,hos,how⟩,hb2⟩
  dsimp only at hos how
  obtain⟨A3,c3,rfl,_,_,_,_⟩:=hos.slice
  obtain⟨A4,c4,rfl,_,_,_,_⟩:=how.slice
  simp only[List.length_nil]at how⊢
  obtain⟨np,hnp⟩:∃ np,np=p.length:=⟨_,rfl⟩
  rw[←hnp]at hos AHR⊢
  have Hnp:=Lib.hid hnp
  have hbb:=Hb1.out.trans (hb2.mono Hb1.out.size)
  have BH:Below w2.heap.size w2 (w2.alloc (.cells #[.slice A3 np c3,.slice A4 0 c4] 52)):=(Below.refl _ _).alloc (Nat.le_refl _) _
  have HB3:=Lib.hid (AX.new w2 52 #[.slice A3 np c3,.slice A4 0 c4])
  have AEe:=Lib.hid ((HB1.out.below hb2 HB1.out.lt).below BH (HB1.out.below hb2 HB1.out.lt).lt)
  have HD3:=Lib.hid ((HD1.out.below hb2).below BH)
  have jZ:Hid (Db (w2.alloc (.cells #[.slice A3 np c3,.slice A4 0 c4] 52)) ⟨.slice A3 np c3,p,.slice A4 0 c4,[]⟩):=Lib.hid ⟨(hos.keep BH).bytes,(how.keep BH).bytes⟩
  have Hb3:=Lib.hid (hbb.trans (BH.mono hbb.size))
  have AHS:Hid (uI ⟨.slice A3 np c3,p,.slice A4 0 c4,[]⟩):=Lib.hid ⟨by show p.length≤_;omega,by simp⟩
  clear hos how hb2 hbb BH k0 k1 HP HD1 HB1 Hb1 hnp
  have HFp:=Lib.hid (fun w (hb:Below W.heap.size W w) (hd:Db w _)=>KP ⟨.slice A3 np c3,p,.slice A4 0 c4,[]⟩ w (Hm.out.below hb) hd AHS.out)
  have HPp:=Lib.hid (fun w (hb:Below W.heap.size W w) (hd:Db w _)=>Zr ⟨.slice A3 np c3,p,.slice A4 0 c4,[]⟩ w (Hm.out.below hb) hd AHS.out)
  unfold dV Gm at HFp
  unfold dV at HPp
  dsimp only at HFp HPp
  rw[R3.out,R4.out]at HFp
  rw[R5.out]at HPp
  generalize Cr s t=L at *
  go_upto_region 2 with fail
  generalize w2.heap.size=g3 at *
  generalize w2.alloc (.cells #[.slice A3 np c3,.slice A4 0 c4] 52)=w3 at *
  go_wp2_with fail
  refine (HF.out _ Hb3.out).mono ?_
  rintro e w4 ⟨rfl,hb4⟩
  have E9:=Lib.hid (HB3.out.below hb4 HB3.out.lt)
  have AEf:=Lib.hid (AEe.out.below hb4 AEe.out.lt)
  have HD4:=Lib.hid (HD3.out.below hb4)
  have OI:=Lib.hid (jZ.out.below hb4)
  have Hb4:=Lib.hid (Hb3.out.trans (hb4.mono Hb3.out.size))
  clear hb4 HB3 AEe HD3 jZ Hb3 HF
  have k0:w4.cell? ⟨W.heap.size,0,none⟩=some (.slice A1 ns c1):=AEf.out.cell 0
  have k1:w4.cell? ⟨W.heap.size,1,none⟩=some (.slice A2 nt c2):=AEf.out.cell 1
  go_wp2_with fail
  refine (jX.out w4 Hb4.out HD4.out).mono ?_
  rintro e w5 ⟨hr,hb5⟩
  rw[if_neg (by simp)]at hr
  obtain⟨v5,rfl,hv5⟩:=hr
  have HV5:=Lib.hid hv5.fs
  have II:=Lib.hid (E9.out.below hb5 E9.out.lt)
  have HE5:=Lib.hid (OI.out.below hb5)
  have Hb5:=Lib.hid (Hb4.out.trans (hb5.mono Hb4.out.size))
  clear hb5 hv5 E9 AEf HD4 OI Hb4 k0 k1 jX
  have k0:w5.cell? ⟨g3,0,none⟩=some (.slice A3 np c3):=II.out.cell 0
  have k1:w5.cell? ⟨g3,1,none⟩=some (.slice A4 0 c4):=II.out.cell 1
  go_wp2_with fail
  refine (HFp.out w5 Hb5.out HE5.out).mono ?_
  rintro e w6 ⟨hr,hb6⟩
  rw[if_neg (by simp)]at hr
  obtain⟨v6,rfl,hv6⟩:=hr
  have HV6:=Lib.hid hv6.fs
  have AHT:=Lib.hid (HV5.out.below hb6)
  have OZ:=Lib.hid (II.out.below hb6 II.out.lt)
  have bC:=Lib.hid (HE5.out.below hb6)
  have Jl:=Lib.hid (Hb5.out.trans (hb6.mono Hb5.out.size))
  clear hb6 hv6 HV5 II HE5 Hb5 k0 k1 HFp
  have k0:w6.cell? ⟨g3,0,none⟩=some (.slice A3 np c3):=OZ.out.cell 0
  have k1:w6.cell? ⟨g3,1,none⟩=some (.slice A4 0 c4):=OZ.out.cell 1
  go_wp2_with fail
  refine (HPp.out w6 Jl.out bC.out).mono ?_
  rintro e w7 ⟨⟨xs,xw,rfl,hos,how⟩,Ir⟩
  dsimp only at hos how
  obtain⟨A5,c5,rfl,_,_,_,_⟩:=hos.slice
  obtain⟨A6,c6,rfl,_,_,_,_⟩:=how.slice
  simp only[List.length_nil]at how⊢
  rw[←Hnp.out]at hos⊢
  have BH:Below w7.heap.size w7 (w7.alloc (.cells #[.slice A5 np c5,.slice A6 0 c6] 52)):=(Below.refl _ _).alloc (Nat.le_refl _) _
  have oW:=Ir.trans (BH.mono Ir.size)
  have AEg:=Lib.hid (AX.new w7 52 #[.slice A5 np c5,.slice A6 0 c6])
  have HG8:Hid (Db (w7.alloc (.cells #[.slice A5 np c5,.slice A6 0 c6] 52)) ⟨.slice A5 np c5,p,.slice A6 0 c6,[]⟩):=Lib.hid ⟨(hos.keep BH).bytes,(how.keep BH).bytes⟩
  have HV8:=Lib.hid (HV6.out.below oW)
  have AHU:=Lib.hid (AHT.out.below oW)
  have JC:=Lib.hid (OZ.out.below oW OZ.out.lt)
  have HE8:=Lib.hid (bC.out.below oW)
  have EG:=Lib.hid (Jl.out.trans (oW.mono Jl.out.size))
  clear hos how Ir BH oW HV6 AHT OZ bC Jl k0 k1 HPp
  go_upto_region 7 with fail
  generalize w7.heap.size=g8 at *
  generalize w7.alloc (.cells #[.slice A5 np c5,.slice A6 0 c6] 52)=w8 at *
  go_wp2_with fail
  refine (lW _ _ L w8 AHU.out HV8.out).mono ?_
  rintro e w9 ⟨rfl,Px⟩
  have KZ:=Lib.hid (JC.out.below Px JC.out.lt)
  have xO:=Lib.hid (AEg.out.below Px AEg.out.lt)
  have xP:=Lib.hid (WE ⟨.slice A3 np c3,p,.slice A4 0 c4,[]⟩ ⟨.slice A5 np c5,p,.slice A6 0 c6,[]⟩ w9 (HE8.out.below Px) (HG8.out.below Px))
  unfold dV at xP
  dsimp only at xP
  rw[show (decide (p=p) && decide (([]:List UInt8)=[]))=true by simp]at xP
  have Pg:=Lib.hid (EG.out.trans (Px.mono EG.out.size))
  clear Px AHU HV8 JC AEg HE8 HG8 EG
  have k0:w9.cell? ⟨g3,0,none⟩=some (.slice A3 np c3):=KZ.out.cell 0
  have k1:w9.cell? ⟨g3,1,none⟩=some (.slice A4 0 c4):=KZ.out.cell 1
  have k2:w9.cell? ⟨g8,0,none⟩=some (.slice A5 np c5):=xO.out.cell 0
  have k3:w9.cell? ⟨g8,1,none⟩=some (.slice A6 0 c6):=xO.out.cell 1
  go_wp2_with fail
  refine (xP.out).mono ?_
  rintro e Le ⟨rfl,MZ⟩
  have ui:=KZ.out.below MZ KZ.out.lt
  have Mo:=Lib.hid (Pg.out.trans (MZ.mono Pg.out.size))
  clear k0 k1 k2 k3 MZ xP
  have k1:Le.cell? ⟨g3,1,none⟩=some (.slice A4 0 c4):=ui.cell 1
  clear ui
  go_wp2_with fail
  go_ret
  exact⟨rfl,Mo.out⟩
end Go.Proofs.YtabdianhoabhhaaGreatDoor.ShelfPacks
namespace Go.Proofs.YtabdianhoabhhaaGreatDoor.Hr
open Go Go.RowKit Go.ChangeShapes Go.WideShapes Go.ChangeAt Go.Proofs.YtabdianhoabhhaaGreatDoor
set_option linter.unusedVariables false
structure Her {H:Type} (P:Program) (M:TypeId→DataW H→Prop) (K:Nat→Nat→Prop):Prop where
 slice:∀ {t e:TypeId} {es sp:List (DataW H)},P.underlying t=some (.slice e)→M t (.slice es sp)→(∀ d∈es,M e d)∧K es.length (P.bytesOf e)
 agg:∀ {t:TypeId} {fs:Array Field} {ps:List (DataW H)},P.underlying t=some (.struct fs)→M t (.agg ps)→∀ (j:Nat) (f:Field) (d:DataW H),fs[j]?=some f→ps[j]?=some d→M f.type d
 zero:∀ b,K 0 b
def Ko {H:Type} (P:Program) (t:TypeId) (d:DataW H):Prop:=(d.weights P t).all (·≤reachBytes)=true
def Nu (n b:Nat):Prop:=n*b≤140737488351232
theorem Qs {H:Type} {P:Program} {e:TypeId}:∀ {es:List (DataW H)} {d:DataW H},d∈es→∀ n∈d.weights P e,n∈DataW.weightsAll P e es
 | x :: es,d,hd,n,hn=>by
  simp only[DataW.weightsAll,List.mem_append]
  rcases List.mem_cons.1 hd with rfl | hd
  ·exact .inl hn
  ·exact .inr (Qs hd n hn)
theorem Gh {H:Type} (P:Program):Her (H:=H) P (Ko P) Nu where
 slice:=by
  intro t e es sp ht h
  unfold Ko at *
  rw[List.all_eq_true]at h
  refine⟨fun d hd=>?_,?_⟩
  ·rw[List.all_eq_true]
   intro n hn
   exact h n (by simp only[DataW.weights,ht,List.mem_cons,List.mem_append];exact .inr (.inl (Qs hd n hn)))
  ·have:=h ((es.length+sp.length)*P.bytesOf e) (by simp[DataW.weights,ht])
   rw[decide_eq_true_iff,Nat.add_mul]at this
   have hr:reachBytes=140737488351232:=by decide
   unfold Nu
   omega
 agg:=by
  intro t fs ps ht h j f d hj hd
  unfold Ko at *
  rw[List.all_eq_true]at h⊢
  intro n hn
  refine h n ?_
  simp only[DataW.weights,ht]
  exact DataW.weights_mem_each (ts:=fs.toList.map (·.type)) (j:=j) (by simp[hj]) hd n hn
 zero:=fun b=>by unfold Nu;omega
def RdM {α:Type} (H:Type) (enc:TypeId×Value→H) (P:Program) (w:World) (M:TypeId→DataW H→Prop) (t:TypeId) (cells:α→List Value) (deep:α→Prop):Prop:=
 ∀ (base:Nat) (spare:Nat→Bool) (held:Bool) (fuel:Nat) (cs:List Value) (x:DataW H×List MemPlace),DataW.trod enc P w base spare held fuel t cs=some x→M t x.1→∃ a,cs=cells a∧deep a
theorem Rd.m {α:Type} {H:Type} {enc:TypeId×Value→H} {P:Program} {w:World} {M:TypeId→DataW H→Prop} {t:TypeId} {cells:α→List Value} {deep:α→Prop} (h:Rd H enc P w t cells deep):RdM H enc P w M t cells deep:=
 fun base spare held fuel cs x hx _=>h base spare held fuel cs x hx
section
variable {H:Type} {enc:TypeId×Value→H} {P:Program} {w:World} {M:TypeId→DataW H→Prop} {K:Nat→Nat→Prop}
theorem mG {α:Type} [Inhabited α] {t e:TypeId} {cells:α→List Value} {deep:α→Prop} {size:Nat} (ht:P.underlying t=some (.slice e)) (hsz:P.cellsOf e=size) (hpos:0 < size) (hc:∀ a,(cells a).length=size) (hH:Her P M K) (he:RdM H enc P w M e cells deep)
  {base:Nat} {spare:Nat→Bool} {held:Bool} {fuel:Nat} {cs:List Value} {x:DataW H×List MemPlace} (h:DataW.trod enc P w base spare held fuel t cs=some x) (hM:M t x.1) :
  ∃ s:SlV α,cs=NC s∧uK w cells deep s∧K s.l.length (P.bytesOf e):=by
 rcases Deep.open_slice ht h with ⟨rfl,rfl⟩ | ⟨a,len,cap,m,n,D,Pl,rfl,hb,hl,hm,hmm,rfl,hel⟩
 ·exact⟨⟨none,0,[]⟩,rfl,⟨Nat.le_refl _,(by show (0:Nat)≤maxLen;unfold maxLen;omega),AR.nil,fun _=>rfl,fun a ha=>by simp at ha⟩,hH.zero _⟩
 ·rw[hsz]at hel
  have hlm:len≤m:=by rw[hmm];split <;> omega
  obtain⟨f,hf⟩:=Deep.choose_lt (α:=α) (p:=fun i a=>w.cells? base (Addr.add ‹Addr› (i*size)) size=some (cells a)∧deep a) (n:=len) (fun i hi=>by
   obtain⟨cs',h1,h2⟩:=hel i (by omega)
   obtain⟨a',rfl,hd⟩:=he _ _ _ _ _ _ h2 ((hH.slice ht hM).1 _ (List.mem_map_of_mem (List.mem_range.2 hi)))
   exact⟨a',h1,hd⟩)
  refine⟨⟨some a,cap,(List.range len).map f⟩,by simp[NC],⟨by simpa using hl,hm,?_,by simp,?_⟩,by have:=(hH.slice ht hM).2;simpa using this⟩
  ·intro hp
   have hlen:0 < len:=by
    rcases Nat.eq_zero_or_pos len with h0 | h0
    ·subst h0;simp at hp
    ·exact h0
   obtain⟨b,o,s⟩:=a
   have hs:s=none:=by
    obtain⟨h1,_⟩:=hf 0 hlen
    obtain⟨h2,h3⟩:=Kq h1
    have:=h3 0 ((cells (f 0))[0]'(by rw[hc];exact hpos)) (by simp)
    simp[Addr.add]at this
    exact cell_spot this
   subst hs
   refine⟨b,o,rfl,fun j v hj=>?_⟩
   obtain⟨a',h1,h2⟩:=flat_get cells size hc hpos _ _ _ hj
   have hjl:j / size < len:=by
    have:j / size < ((List.range len).map f).length:=by
     rcases Nat.lt_or_ge (j / size) ((List.range len).map f).length with h | h
     ·exact h
     ·rw[List.getElem?_eq_none h]at h1;cases h1
    simpa using this
   have ha':f (j / size)=a':=by simpa [hjl] using h1
   obtain⟨h3,_⟩:=hf _ hjl
   rw[ha',addr_add]at h3
   obtain⟨_,h4⟩:=Kq h3
   have h5:=h4 _ _ h2
   rw[addr_add]at h5
   rw[←h5]
   congr 2
   have:=Nat.div_add_mod j size
   rw[Nat.mul_comm]at this
   omega
  ·intro a' ha'
   simp at ha'
   obtain⟨i,hi,rfl⟩:=ha'
   exact (hf i hi).2
theorem QD {t e:TypeId} (hH:Her P M K) (ht:P.underlying t=some (.slice e)) (he:P.underlying e=some (.int .u8)) (hc:P.cellsOf e=1) :
  RdM H enc P w M t (fun p:Value×List UInt8=>[p.1]) (fun p=>Au w p.1 p.2∧K p.2.length (P.bytesOf e)):=by
 intro base spare held fuel cs x h hM
 obtain⟨A,len,cap,hcs⟩:∃ A len cap,cs=[Value.slice A len cap]:=by
  rcases open_ints ht he hc h with ⟨hcs,_⟩ | ⟨x,l,c,zs,hcs,_⟩
  ·exact⟨_,_,_,hcs⟩
  ·exact⟨_,_,_,hcs⟩
 subst hcs
 obtain⟨d,ps⟩:=x
 obtain⟨xs,hx,hl⟩:=IM (enc:=enc) ht he hc h
 refine⟨(_,xs),rfl,hx,?_⟩
 rw[←hl]
 dsimp only at hM
 cases d with
 | slice es sp=>exact (hH.slice ht hM).2
 | _=>exact hH.zero _
end
theorem dK {H:Type} {P:Program} {ts:List TypeId} {ds:List (DataW H)} (h:(DataW.weightsEach P ts ds).all (·≤reachBytes)=true) {j:Nat} {t:TypeId} {d:DataW H} (ht:ts[j]?=some t) (hd:ds[j]?=some d):Ko P t d:=by
 unfold Ko
 rw[List.all_eq_true]at h⊢
 exact fun n hn=>h n (DataW.weights_mem_each ht hd n hn)
theorem AFa {H:Type} {P:Program} {t e:TypeId} {d:DataW H} {n:Nat} (ht:P.underlying t=some (.slice e)) (hb:P.bytesOf e=1) (h:Ko P t d) (hn:XI d=n):n≤140737488351232:=by
 subst hn
 cases d with
 | slice es sp=>
  have:=((Gh P).slice ht h).2
  unfold Nu at this
  rw[hb]at this
  show es.length≤_
  omega
 | _=>exact Nat.zero_le _
theorem ACE {H:Type} {enc:TypeId×Value→H} {P:Program} {w:World} {t e u:TypeId} (ht:P.underlying t=some (.slice e)) (he:P.underlying e=some (.slice u)) (hu:P.underlying u=some (.int .u8)) (hc:P.cellsOf u=1) (hce:P.cellsOf e=1) (hb:P.bytesOf e=24) (hb1:P.bytesOf u=1)
  {base b0:Nat} {spare:Nat→Bool} {held:Bool} {r:Reach} {v:Value} {d:DataW H} {ps:List MemPlace} (hv:Value.okWide P w r b0 t v) (h:DataW.Trod enc P w base spare held t v d ps) (hM:Ko P t d) :
  ∃ l:List (Value×List UInt8),IsL w (fun p:Value×List UInt8=>[p.1]) (fun p=>Au w p.1 p.2∧p.2.length≤140737488351232) v l∧l.length≤140737488351232:=by
 obtain⟨A,len,cap,rfl⟩:=okWide_slice ht hv
 obtain⟨fuel,hf⟩:=h
 obtain⟨s,h1,h2,h3⟩:=mG ht hce (by omega) (fun _=>rfl) (Gh P) (QD (Gh P) he hu hc) hf hM
 unfold Nu at h3
 rw[hb]at h3
 refine⟨s.l,⟨s.A,s.cap,?_,?_⟩,by omega⟩
 ·simpa [Value.cells,NC] using h1
 ·obtain⟨k1,k2,k3,k4,k5⟩:=h2
  refine⟨k1,k2,k3,k4,fun a ha=>⟨(k5 a ha).1,?_⟩⟩
  have:=(k5 a ha).2
  unfold Nu at this
  rw[hb1]at this
  omega
end Go.Proofs.YtabdianhoabhhaaGreatDoor.Hr
namespace Go.Proofs.YtabdianhoabhhaaGreatDoor.Worlds
open Go Go.ChangeShapes Go.WideShapes Go.ChangeAt Go.RowKit Go.Proofs.YtabdianhoabhhaaGreatDoor Go.Proofs.YtabdianhoabhhaaGreatDoor.Name Go.Proofs.YtabdianhoabhhaaGreatDoor.Merge
set_option linter.unusedVariables false
section
variable {H:Type} {enc:TypeId×Value→H} {w:World}
set_option maxRecDepth 100000 in
theorem uH:Hr.RdM H enc Tryz.prog w (Hr.Ko Tryz.prog) 52 dC (fun x=>Db w x∧Kn.uI x):=by
 intro base spare held fuel cs x h hM
 obtain⟨xs,m,_,rfl,hl,hxl,hf⟩:=DataW.trod_struct Tryz.underlying52 h
 have hc:Tryz.prog.cellsOf 52=2:=by kernel_rfl
 have c2:Tryz.prog.cellsOf 23=1:=by kernel_rfl
 have c5:Tryz.prog.cellsOf 5=1:=by kernel_rfl
 have b5:Tryz.prog.bytesOf 5=1:=by kernel_rfl
 rw[hc]at hl
 match cs,xs,hl,(show xs.length=2 from hxl) with
 | [a,b],[y0,y1],_,_=>
  have h0:DataW.trod enc Tryz.prog w base spare held m 23 (List.take (Tryz.prog.cellsOf 23) (List.drop 0 [a,b]))=some y0:=hf 0 _ rfl
  have h1:DataW.trod enc Tryz.prog w base spare held m 23 (List.take (Tryz.prog.cellsOf 23) (List.drop 1 [a,b]))=some y1:=hf 1 _ rfl
  rw[c2]at h0 h1
  simp only[List.drop_zero,List.drop_succ_cons,List.take_succ_cons,List.take_zero]at h0 h1
  obtain⟨p,q0,w0,k0⟩:=Hr.QD (Hr.Gh Tryz.prog) Tryz.underlying23 Tryz.underlying5 c5 _ _ _ _ _ _ h0 ((Hr.Gh Tryz.prog).agg Tryz.underlying52 hM 0 _ _ rfl rfl)
  obtain⟨q,q1,w1,k1⟩:=Hr.QD (Hr.Gh Tryz.prog) Tryz.underlying23 Tryz.underlying5 c5 _ _ _ _ _ _ h1 ((Hr.Gh Tryz.prog).agg Tryz.underlying52 hM 1 _ _ rfl rfl)
  injection q0 with q0 _
  injection q1 with q1 _
  subst q0 q1
  rw[b5]at k0 k1
  unfold Hr.Nu at k0 k1
  exact⟨⟨p.1,p.2,q.1,q.2⟩,rfl,⟨w0,w1⟩,by show p.2.length≤_;omega,by show q.2.length≤_;omega⟩
set_option maxRecDepth 100000 in
theorem dH {base b0:Nat} {spare:Nat→Bool} {held:Bool} {r:Reach} {v:Value} {d:DataW H} {ps:List MemPlace} (hv:Value.okWide Tryz.prog w r b0 52 v) (h:DataW.Trod enc Tryz.prog w base spare held 52 v d ps) (hM:Hr.Ko Tryz.prog 52 d) :
  ∃ a:Dx,(v=dV a∧Db w a)∧Kn.uI a:=by
 simp only[Value.okWide,Tryz.underlying52]at hv
 obtain⟨cs,rfl,_,_⟩:=hv
 obtain⟨fuel,hf⟩:=h
 obtain⟨a,h1,h2,h3⟩:=uH _ _ _ _ _ _ hf hM
 refine⟨a,⟨?_,h2⟩,h3⟩
 simp only[Value.cells]at h1
 have:cs=(dC a).toArray:=by rw[←h1]
 rw[this]
 rfl
end
end Go.Proofs.YtabdianhoabhhaaGreatDoor.Worlds
