/- texts joined: ZipHere ZipThere Two ZipArch ZipRef ZipBest ZipOf Name1 FuncS Name2 CloneFB. -/
import Derived.Test.YtabdianhoabhhaaGreatDoorShelfKeepsQ7
import Derived.Lib.ConvBytes
import Derived.Test.YtabdianhoabhhaaGreatDoorShelfKeepsQ1
import Derived.Deep.RegionLaw
import Derived.Test.YtabdianhoabhhaaGreatDoorShelfKeepsQ4
import Derived.Test.YtabdianhoabhhaaGreatDoorShelfKeepsQ3
import Derived.Test.YtabdianhoabhhaaGreatDoorShelfKeepsQ6
import Derived.Test.YtabdianhoabhhaaGreatDoorProg
import Derived.WalkSpells
import Derived.Lib.SliceRun
import Derived.OneCell
open List renaming getElem_toArray→l0A,getElem_cons_zero→l0B,getElem_cons_succ→l0C,setIfInBounds_toArray→l0D,set_cons_zero→l0E,set_cons_succ→l0F
namespace Go.Proofs.YtabdianhoabhhaaGreatDoor.Zip
open Go Go.RowKit Go.Proofs.YtabdianhoabhhaaGreatDoor Go.Proofs.YtabdianhoabhhaaGreatDoor.Bits Go.Proofs.YtabdianhoabhhaaGreatDoor.Merge Go.Proofs.YtabdianhoabhhaaGreatDoor.Name
set_option linter.unusedVariables false
set_option linter.unusedSimpArgs false
theorem BN.bytes {w:World} {base:Nat} {v:Value} {xs:List UInt8} (h:BN w base v xs):BD w v xs:=by
 obtain⟨A,c,rfl,h1,h2,h3,_⟩:=h.slice
 exact⟨A,c,rfl,h1,h2,h3⟩
theorem _root_.Go.Proofs.YtabdianhoabhhaaGreatDoor.BD.Bu {w w':World} {v:Value} {xs:List UInt8} (h:BD w v xs) (hb:Below w.heap.size w w'):BD w' v xs:=by
 obtain⟨A,c,h0,h1,h2,h3⟩:=h
 exact⟨A,c,h0,h1,h2,BI.below h3 hb⟩
theorem Jm.AFL {w:World} {x:Ex} (h:Jm w x):BD w (Cm x.pk) x.e.packed:=⟨x.pk.1,x.pk.2.2,by unfold Cm;rw[h.zA],h.zB,h.AE6,h.pat⟩
theorem bL (l:List UInt8) (hl:l.length≤1000000) (w:World):∃ w' c,(convert 9 23 (.string (Name.AR l))).run Tryz.prog w=.ok (.slice (some ⟨w.heap.size,0,none⟩) l.length c) w'∧l.length≤c∧c≤maxLen∧BI w' (some ⟨w.heap.size,0,none⟩) l∧Below w.heap.size w w':=by
 have h0:=Lib.run_convert_string_bytes (P:=Tryz.prog) w 9 23 5 (Name.AR l) Tryz.underlying9 Tryz.underlying23 Tryz.underlying5
 rw[Name.Dy]at h0
 have e:Lib.bytesCells w 5 (Name.AR l)=(l.map Eh++List.replicate (grownCap w (Name.AR l).size 0 5 - (Name.AR l).size) (Value.int .u8 0)).toArray:=by
  simp[Lib.bytesCells,Name.AR]
  exact fun _ _=>rfl
 have hcap:=grownCap_ge w (Name.AR l).size 0 5
 have hcm:=grownCap_le_maxLen w (Name.AR l).size 0 5 (by rw[Name.Dy];unfold maxLen;omega)
 rw[Name.Dy]at e hcap hcm
 refine⟨_,_,h0,?_,?_,?_,?_⟩
 ·exact hcap
 ·exact hcm
 ·have h:=Lib.bytesWorld_at_new w 5 (Name.AR l)
  rw[e]at h
  refine fun hp=>⟨w.heap.size,0,rfl,fun j v hj=>?_⟩
  rw[cell_of_row _ _ _ _ _ _ h]
  rw[Nat.zero_add,List.getElem?_toArray,List.getElem?_append_left (by
   rcases Nat.lt_or_ge j (l.map Eh).length with h1 | h1
   ·exact h1
   ·rw[List.getElem?_eq_none h1]at hj;cases hj)]
  exact hj
 ·refine⟨?_,?_,?_,by rw[Lib.bytesWorld_size];omega,fun k hk=>Lib.bytesWorld_at_old w _ _ k hk⟩ <;> rfl
theorem LU (rs:List (Value×List UInt8)) (ys:List UInt8) (n:Nat) (w:World) (hn:rs.length=n) (hr:∀ q∈rs,BD w q.1 q.2) (hy:(rs.map (·.2)).flatten=ys) (ht:ys.length≤140737488355328) (hn2:n≤100) (cs:Array Value) (hc:cs=(rs.map (·.1)).toArray) :
  Calls Tryz.prog 32 #[.slice (some ⟨w.heap.size,0,none⟩) n n] (w.alloc (.cells cs 23)) fun e w'=>(∃ v,e=.returned v∧BN w' w.heap.size v ys)∧Below w.heap.size w w':=by
 have BA:Below w.heap.size w (w.alloc (.cells cs 23)):=(Below.refl _ _).alloc (Nat.le_refl _) _
 refine (Ow (some ⟨w.heap.size,0,none⟩) n n rs ys _ hn (by omega) (AQ.of_heap (heap_alloc_new _ _) (by rw[hc])) (fun q hq=>(hr q hq).Bu BA) hy ht).mono ?_
 rintro e w' ⟨⟨v,rfl,ho⟩,hb⟩
 exact⟨⟨v,rfl,AZ ho BA.size⟩,BA.trans (hb.mono BA.size)⟩
set_option maxRecDepth 100000 in
set_option maxHeartbeats 3000000 in
theorem zG (x:Ex) (w:World) (hg:Good x.e) (hx:Jm w x) :
  Calls Tryz.prog 63 #[eV x] w fun e w'=>(∃ v,e=.returned v∧BN w' w.heap.size v (Cu x.e))∧Below w.heap.size w w':=by
 have HM:=Lib.hid (fun w'=>Uk x w' hg hx.y8 hx.zA)
 have HX:=Lib.hid (fun w'=>Qi x w' hg)
 have HCv:=Lib.hid (bL x.e.f.name (by have:=hg.name;omega))
 have HPk:=Lib.hid hx.AFL
 have hlen:=Pn x.e
 have hg1:=hg.name
 have hg2:=hg.packed
 clear hg hx
 unfold eV at HM HX⊢
 go_enter Tryz.func63,Tryz.ntmps63
 go_wp2_with fail
 refine Bp (fun W=>AV W w.heap.size 78 (eC x).toArray) 13 (by kernel_rfl) ?_
 have BA:Below w.heap.size w (w.alloc (.cells #[.string (Name.AR x.e.f.name),Cm x.bs,.int .i64 x.e.f.stamp,.int .i64 x.e.f.node,.bool x.e.f.gone,.int .i64 (x.e.method:Int),Cm x.pk,.int .u32 (x.e.crc:Int),.int .i64 (x.at_:Int)] 78)).drew:=((Below.refl _ _).alloc (Nat.le_refl _) _).drew
 have HB1:Hid (AV (w.alloc (.cells #[.string (Name.AR x.e.f.name),Cm x.bs,.int .i64 x.e.f.stamp,.int .i64 x.e.f.node,.bool x.e.f.gone,.int .i64 (x.e.method:Int),Cm x.pk,.int .u32 (x.e.crc:Int),.int .i64 (x.at_:Int)] 78)).drew w.heap.size 78 (eC x).toArray):=Lib.hid (AV.new w 78 #[.string (Name.AR x.e.f.name),Cm x.bs,.int .i64 x.e.f.stamp,.int .i64 x.e.f.node,.bool x.e.f.gone,.int .i64 (x.e.method:Int),Cm x.pk,.int .u32 (x.e.crc:Int),.int .i64 (x.at_:Int)])
 have Hb1:=Lib.hid BA
 have AI8:=Lib.hid (HPk.out.Bu BA)
 have hHeld:=HB1.out
 generalize (w.alloc (.cells #[.string (Name.AR x.e.f.name),Cm x.bs,.int .i64 x.e.f.stamp,.int .i64 x.e.f.node,.bool x.e.f.gone,.int .i64 (x.e.method:Int),Cm x.pk,.int .u32 (x.e.crc:Int),.int .i64 (x.at_:Int)] 78)).drew=w1 at *
 clear BA HPk
 refine AA (i:=1) (v:=?vG) (by kernel_rfl) (by kernel_rfl) rfl (by kernel_rfl) (by kernel_rfl) (by kernel_rfl) (fun _ _ _ h=>h) (by rfl) (by assumption) ?JE ?JF
 case JE=>(intro W hSW;obtain⟨c0,c1,c2,c3,c4,c5,c6,c7,c8⟩:=Er hSW;go_simp;try with_reducible rfl)
 (try simp only[Act.put,l0A,l0B,l0C,l0D,l0E,l0F])
 refine AA (i:=3) (v:=?va3) (by kernel_rfl) (by kernel_rfl) rfl (by kernel_rfl) (by kernel_rfl) (by kernel_rfl) (fun _ _ _ h=>h) (by rfl) (by assumption) ?K5 ?K6
 case K5=>(intro W hSW;obtain⟨c0,c1,c2,c3,c4,c5,c6,c7,c8⟩:=Er hSW;go_simp;try with_reducible rfl)
 (try simp only[Act.put,l0A,l0B,l0C,l0D,l0E,l0F])
 refine AA (i:=4) (v:=?va4) (by kernel_rfl) (by kernel_rfl) rfl (by kernel_rfl) (by kernel_rfl) (by kernel_rfl) (fun _ _ _ h=>h) (by rfl) (by assumption) ?K7 ?K8
 case K7=>(intro W hSW;obtain⟨c0,c1,c2,c3,c4,c5,c6,c7,c8⟩:=Er hSW;go_simp;try with_reducible rfl)
 (try simp only[Act.put,l0A,l0B,l0C,l0D,l0E,l0F])
 refine AA (i:=5) (v:=?va5) (by kernel_rfl) (by kernel_rfl) rfl (by kernel_rfl) (by kernel_rfl) (by kernel_rfl) (fun _ _ _ h=>h) (by rfl) (by assumption) ?K9 ?LC
 case K9=>(intro W hSW;obtain⟨c0,c1,c2,c3,c4,c5,c6,c7,c8⟩:=Er hSW;go_simp;try with_reducible rfl)
 (try simp only[Act.put,l0A,l0B,l0C,l0D,l0E,l0F])
 refine AA (i:=7) (v:=?va7) (by kernel_rfl) (by kernel_rfl) rfl (by kernel_rfl) (by kernel_rfl) (by kernel_rfl) (fun _ _ _ h=>h) (by rfl) (by assumption) ?Xd ?Xe
 case Xd=>(intro W hSW;obtain⟨c0,c1,c2,c3,c4,c5,c6,c7,c8⟩:=Er hSW;go_simp;try with_reducible rfl)
 (try simp only[Act.put,l0A,l0B,l0C,l0D,l0E,l0F])
 refine AA (i:=9) (v:=?va9) (by kernel_rfl) (by kernel_rfl) rfl (by kernel_rfl) (by kernel_rfl) (by kernel_rfl) (fun _ _ _ h=>h) (by rfl) (by assumption) ?di ?dm
 case di=>(intro W hSW;obtain⟨c0,c1,c2,c3,c4,c5,c6,c7,c8⟩:=Er hSW;go_simp;try with_reducible rfl)
 (try simp only[Act.put,l0A,l0B,l0C,l0D,l0E,l0F])
 refine AA (i:=10) (v:=?ADh) (by kernel_rfl) (by kernel_rfl) rfl (by kernel_rfl) (by kernel_rfl) (by kernel_rfl) (fun _ _ _ h=>h) (by rfl) (by assumption) ?TM ?Xf
 case TM=>(intro W hSW;obtain⟨c0,c1,c2,c3,c4,c5,c6,c7,c8⟩:=Er hSW;go_simp;try with_reducible rfl)
 (try simp only[Act.put,l0A,l0B,l0C,l0D,l0E,l0F])
 refine Fw (i:=0) (j:=6) rfl rfl (by kernel_rfl) (fun K hK=>?_) (fun K hK=>?_)
 ·go_simp
  clear hHeld
  go_at_call 65
  refine (EC w1.heap.size (.slice none 0 0) [] 67324752 4 67324752 4 w1 (BN.nil _ _) (Nat.le_refl _) rfl rfl (by omega) (by omega) (by simp)).mono ?_
  rintro e w2 ⟨⟨us,rfl,ho⟩,hb⟩
  obtain⟨As,cs,rfl,_⟩:=ho.slice
  have AB7:=Lib.hid (AI8.out.Bu hb)
  have HB2:=Lib.hid (HB1.out.below hb HB1.out.lt)
  have Hb2:=Lib.hid (Hb1.out.trans (hb.mono Hb1.out.size))
  have AI9:=Lib.hid ho.bytes
  clear ho hb
  refine hK.out _ _ HB2.out (fun hHeld=>?_)
  clear hK K
  (try simp only[Act.put,l0A,l0B,l0C,l0D,l0E,l0F])
  refine Fw (i:=2) (j:=6) rfl rfl (by kernel_rfl) (fun K hK=>?_) (fun K hK=>?_)
  ·go_simp
   clear hHeld
   go_at_call 84
   refine (HM.out w2).mono ?_
   rintro e w3 ⟨⟨um,rfl,ho⟩,hb⟩
   obtain⟨Am,cm,rfl,_⟩:=ho.slice
   have qf:=Lib.hid (AB7.out.Bu hb)
   have qh:=Lib.hid (AI9.out.Bu hb)
   have HB3:=Lib.hid (HB2.out.below hb HB2.out.lt)
   have Hb3:=Lib.hid (Hb2.out.trans (hb.mono Hb2.out.size))
   have AJA:=Lib.hid ho.bytes
   clear ho hb
   refine hK.out _ _ HB3.out (fun hHeld=>?_)
   clear hK K
   (try simp only[Act.put,l0A,l0B,l0C,l0D,l0E,l0F])
   refine Fw (i:=6) (j:=8) rfl rfl (by kernel_rfl) (fun K hK=>?_) (fun K hK=>?_)
   ·obtain⟨w4,cn,hcv,hn1,hn2,hby,hb⟩:=HCv.out w3
    go_simp
    clear hHeld hcv
    have iM:=Lib.hid (qf.out.Bu hb)
    have iN:=Lib.hid (qh.out.Bu hb)
    have iO:=Lib.hid (AJA.out.Bu hb)
    have F4:=Lib.hid (HB3.out.below hb HB3.out.lt)
    have Hb4:=Lib.hid (Hb3.out.trans (hb.mono Hb3.out.size))
    have zW:Hid (BD w4 _ x.e.f.name):=Lib.hid ⟨_,cn,rfl,hn1,hn2,hby⟩
    clear hby hb hn1 hn2
    refine hK.out _ _ F4.out (fun hHeld=>?_)
    clear hK K
    (try simp only[Act.put,l0A,l0B,l0C,l0D,l0E,l0F])
    refine AB (i:=8) rfl (by kernel_rfl) (fun K hK=>?_)
    go_simp
    clear hHeld
    go_at_call 85
    refine (HX.out w4).mono ?_
    rintro e w5 ⟨⟨ux,rfl,ho⟩,hb⟩
    obtain⟨Ax,cx,rfl,_⟩:=ho.slice
    have iP:=Lib.hid (iM.out.Bu hb)
    have iQ:=Lib.hid (iN.out.Bu hb)
    have iR:=Lib.hid (iO.out.Bu hb)
    have iT:=Lib.hid (zW.out.Bu hb)
    have JY:=Lib.hid (F4.out.below hb F4.out.lt)
    have Hb5:=Lib.hid (Hb4.out.trans (hb.mono Hb4.out.size))
    have iU:=Lib.hid ho.bytes
    clear ho hb
    refine hK.out _ _ JY.out (fun hHeld=>?_)
    clear hK K
    (try simp only[Act.put,l0A,l0B,l0C,l0D,l0E,l0F])
    rw[show Cm x.pk=Value.slice x.pk.1 x.pk.2.1 x.pk.2.2 from rfl]
    refine AB (i:=11) rfl (by kernel_rfl) (fun K hK=>?_)
    go_simp
    have HC:=Lib.hid (LU [(.slice As (([]:List UInt8)++Ai 4 67324752).length cs,Du),(.slice Am (Bn x.e).length cm,Bn x.e),(.slice (some ⟨w3.heap.size,0,none⟩) x.e.f.name.length cn,x.e.f.name),(.slice Ax (Ba x.e.f).length cx,Ba x.e.f),(.slice x.pk.1 x.pk.2.1 x.pk.2.2,x.e.packed)] (Cu x.e) 5 w5 rfl (by
     intro q hq
     simp only[List.mem_cons,List.not_mem_nil,or_false]at hq
     rcases hq with rfl | rfl | rfl | rfl | rfl
     ·exact iQ.out
     ·exact iR.out
     ·exact iT.out
     ·exact iU.out
     ·exact iP.out
    ) (by simp only[List.map_cons,List.map_nil,List.flatten_cons,List.flatten_nil,List.append_nil,Cu,List.append_assoc]) (by omega) (by omega) _ rfl)
    have BA:Below w5.heap.size w5 (w5.alloc (.cells #[.slice As (([]:List UInt8)++Ai 4 67324752).length cs,.slice Am (Bn x.e).length cm,.slice (some ⟨w3.heap.size,0,none⟩) x.e.f.name.length cn,.slice Ax (Ba x.e.f).length cx,.slice x.pk.1 x.pk.2.1 x.pk.2.2] 23)):=(Below.refl _ _).alloc (Nat.le_refl _) _
    refine hK.out _ _ (JY.out.below BA JY.out.lt) (fun hHeld=>?_)
    clear hK K
    (try simp only[Act.put,l0A,l0B,l0C,l0D,l0E,l0F])
    refine AB (i:=12) rfl (by kernel_rfl) (fun K hK=>?_)
    go_simp
    go_at_call 32
    refine (HC.out).mono ?_
    rintro e wz ⟨⟨vz,rfl,QT⟩,hbz⟩
    have zX:=Lib.hid QT
    have aL:=Lib.hid (Hb5.out.trans (hbz.mono Hb5.out.size))
    refine hK.out _ _ (JY.out.below hbz JY.out.lt) (fun hHeld=>?_)
    clear hK K QT hbz BA
    (try simp only[Act.put,l0A,l0B,l0C,l0D,l0E,l0F])
    refine BH rfl (by kernel_rfl) (by kernel_rfl) (fun K hK=>?_)
    go_simp
    refine hK.out _ _ ?_
    clear hK K hHeld
    go_wp2_with fail
    go_ret
    exact⟨⟨_,rfl,AZ zX.out Hb5.out.size⟩,aL.out⟩
   ·go_simp
    clear hHeld
    go_at_call 85
    refine (HX.out w3).mono ?_
    rintro e w4 ⟨⟨ux,rfl,ho⟩,hb⟩
    obtain⟨Ax,cx,rfl,_⟩:=ho.slice
    have iM:=Lib.hid (qf.out.Bu hb)
    have iN:=Lib.hid (qh.out.Bu hb)
    have iO:=Lib.hid (AJA.out.Bu hb)
    have F4:=Lib.hid (HB3.out.below hb HB3.out.lt)
    have Hb4:=Lib.hid (Hb3.out.trans (hb.mono Hb3.out.size))
    have AL4:=Lib.hid ho.bytes
    clear ho hb
    refine hK.out _ _ F4.out (fun hHeld=>?_)
    clear hK K
    (try simp only[Act.put,l0A,l0B,l0C,l0D,l0E,l0F])
    refine AB (i:=6) rfl (by kernel_rfl) (fun K hK=>?_)
    obtain⟨w5,cn,hcv,hn1,hn2,hby,hb⟩:=HCv.out w4
    go_simp
    clear hHeld hcv
    have iP:=Lib.hid (iM.out.Bu hb)
    have iQ:=Lib.hid (iN.out.Bu hb)
    have iR:=Lib.hid (iO.out.Bu hb)
    have iU:=Lib.hid (AL4.out.Bu hb)
    have JY:=Lib.hid (F4.out.below hb F4.out.lt)
    have Hb5:=Lib.hid (Hb4.out.trans (hb.mono Hb4.out.size))
    have iT:Hid (BD w5 _ x.e.f.name):=Lib.hid ⟨_,cn,rfl,hn1,hn2,hby⟩
    clear hby hb hn1 hn2
    refine hK.out _ _ JY.out (fun hHeld=>?_)
    clear hK K
    (try simp only[Act.put,l0A,l0B,l0C,l0D,l0E,l0F])
    rw[show Cm x.pk=Value.slice x.pk.1 x.pk.2.1 x.pk.2.2 from rfl]
    refine AB (i:=11) rfl (by kernel_rfl) (fun K hK=>?_)
    go_simp
    have HC:=Lib.hid (LU [(.slice As (([]:List UInt8)++Ai 4 67324752).length cs,Du),(.slice Am (Bn x.e).length cm,Bn x.e),(.slice (some ⟨w4.heap.size,0,none⟩) x.e.f.name.length cn,x.e.f.name),(.slice Ax (Ba x.e.f).length cx,Ba x.e.f),(.slice x.pk.1 x.pk.2.1 x.pk.2.2,x.e.packed)] (Cu x.e) 5 w5 rfl (by
     intro q hq
     simp only[List.mem_cons,List.not_mem_nil,or_false]at hq
     rcases hq with rfl | rfl | rfl | rfl | rfl
     ·exact iQ.out
     ·exact iR.out
     ·exact iT.out
     ·exact iU.out
     ·exact iP.out
    ) (by simp only[List.map_cons,List.map_nil,List.flatten_cons,List.flatten_nil,List.append_nil,Cu,List.append_assoc]) (by omega) (by omega) _ rfl)
    have BA:Below w5.heap.size w5 (w5.alloc (.cells #[.slice As (([]:List UInt8)++Ai 4 67324752).length cs,.slice Am (Bn x.e).length cm,.slice (some ⟨w4.heap.size,0,none⟩) x.e.f.name.length cn,.slice Ax (Ba x.e.f).length cx,.slice x.pk.1 x.pk.2.1 x.pk.2.2] 23)):=(Below.refl _ _).alloc (Nat.le_refl _) _
    refine hK.out _ _ (JY.out.below BA JY.out.lt) (fun hHeld=>?_)
    clear hK K
    (try simp only[Act.put,l0A,l0B,l0C,l0D,l0E,l0F])
    refine AB (i:=12) rfl (by kernel_rfl) (fun K hK=>?_)
    go_simp
    go_at_call 32
    refine (HC.out).mono ?_
    rintro e wz ⟨⟨vz,rfl,QT⟩,hbz⟩
    have zX:=Lib.hid QT
    have aL:=Lib.hid (Hb5.out.trans (hbz.mono Hb5.out.size))
    refine hK.out _ _ (JY.out.below hbz JY.out.lt) (fun hHeld=>?_)
    clear hK K QT hbz BA
    (try simp only[Act.put,l0A,l0B,l0C,l0D,l0E,l0F])
    refine BH rfl (by kernel_rfl) (by kernel_rfl) (fun K hK=>?_)
    go_simp
    refine hK.out _ _ ?_
    clear hK K hHeld
    go_wp2_with fail
    go_ret
    exact⟨⟨_,rfl,AZ zX.out Hb5.out.size⟩,aL.out⟩
  ·obtain⟨w3,cn,hcv,hn1,hn2,hby,hb⟩:=HCv.out w2
   go_simp
   clear hHeld hcv
   have qf:=Lib.hid (AB7.out.Bu hb)
   have qh:=Lib.hid (AI9.out.Bu hb)
   have HB3:=Lib.hid (HB2.out.below hb HB2.out.lt)
   have Hb3:=Lib.hid (Hb2.out.trans (hb.mono Hb2.out.size))
   have AFM:Hid (BD w3 _ x.e.f.name):=Lib.hid ⟨_,cn,rfl,hn1,hn2,hby⟩
   clear hby hb hn1 hn2
   refine hK.out _ _ HB3.out (fun hHeld=>?_)
   clear hK K
   (try simp only[Act.put,l0A,l0B,l0C,l0D,l0E,l0F])
   refine AB (i:=2) rfl (by kernel_rfl) (fun K hK=>?_)
   go_simp
   clear hHeld
   go_at_call 84
   refine (HM.out w3).mono ?_
   rintro e w4 ⟨⟨um,rfl,ho⟩,hb⟩
   obtain⟨Am,cm,rfl,_⟩:=ho.slice
   have iM:=Lib.hid (qf.out.Bu hb)
   have iN:=Lib.hid (qh.out.Bu hb)
   have zW:=Lib.hid (AFM.out.Bu hb)
   have F4:=Lib.hid (HB3.out.below hb HB3.out.lt)
   have Hb4:=Lib.hid (Hb3.out.trans (hb.mono Hb3.out.size))
   have iO:=Lib.hid ho.bytes
   clear ho hb
   refine hK.out _ _ F4.out (fun hHeld=>?_)
   clear hK K
   (try simp only[Act.put,l0A,l0B,l0C,l0D,l0E,l0F])
   refine AB (i:=8) rfl (by kernel_rfl) (fun K hK=>?_)
   go_simp
   clear hHeld
   go_at_call 85
   refine (HX.out w4).mono ?_
   rintro e w5 ⟨⟨ux,rfl,ho⟩,hb⟩
   obtain⟨Ax,cx,rfl,_⟩:=ho.slice
   have iP:=Lib.hid (iM.out.Bu hb)
   have iQ:=Lib.hid (iN.out.Bu hb)
   have iT:=Lib.hid (zW.out.Bu hb)
   have iR:=Lib.hid (iO.out.Bu hb)
   have JY:=Lib.hid (F4.out.below hb F4.out.lt)
   have Hb5:=Lib.hid (Hb4.out.trans (hb.mono Hb4.out.size))
   have iU:=Lib.hid ho.bytes
   clear ho hb
   refine hK.out _ _ JY.out (fun hHeld=>?_)
   clear hK K
   (try simp only[Act.put,l0A,l0B,l0C,l0D,l0E,l0F])
   rw[show Cm x.pk=Value.slice x.pk.1 x.pk.2.1 x.pk.2.2 from rfl]
   refine AB (i:=11) rfl (by kernel_rfl) (fun K hK=>?_)
   go_simp
   have HC:=Lib.hid (LU [(.slice As (([]:List UInt8)++Ai 4 67324752).length cs,Du),(.slice Am (Bn x.e).length cm,Bn x.e),(.slice (some ⟨w2.heap.size,0,none⟩) x.e.f.name.length cn,x.e.f.name),(.slice Ax (Ba x.e.f).length cx,Ba x.e.f),(.slice x.pk.1 x.pk.2.1 x.pk.2.2,x.e.packed)] (Cu x.e) 5 w5 rfl (by
    intro q hq
    simp only[List.mem_cons,List.not_mem_nil,or_false]at hq
    rcases hq with rfl | rfl | rfl | rfl | rfl
    ·exact iQ.out
    ·exact iR.out
    ·exact iT.out
    ·exact iU.out
    ·exact iP.out
   ) (by simp only[List.map_cons,List.map_nil,List.flatten_cons,List.flatten_nil,List.append_nil,Cu,List.append_assoc]) (by omega) (by omega) _ rfl)
   have BA:Below w5.heap.size w5 (w5.alloc (.cells #[.slice As (([]:List UInt8)++Ai 4 67324752).length cs,.slice Am (Bn x.e).length cm,.slice (some ⟨w2.heap.size,0,none⟩) x.e.f.name.length cn,.slice Ax (Ba x.e.f).length cx,.slice x.pk.1 x.pk.2.1 x.pk.2.2] 23)):=(Below.refl _ _).alloc (Nat.le_refl _) _
   refine hK.out _ _ (JY.out.below BA JY.out.lt) (fun hHeld=>?_)
   clear hK K
   (try simp only[Act.put,l0A,l0B,l0C,l0D,l0E,l0F])
   refine AB (i:=12) rfl (by kernel_rfl) (fun K hK=>?_)
   go_simp
   go_at_call 32
   refine (HC.out).mono ?_
   rintro e wz ⟨⟨vz,rfl,QT⟩,hbz⟩
   have zX:=Lib.hid QT
   have aL:=Lib.hid (Hb5.out.trans (hbz.mono Hb5.out.size))
   refine hK.out _ _ (JY.out.below hbz JY.out.lt) (fun hHeld=>?_)
   clear hK K QT hbz BA
   (try simp only[Act.put,l0A,l0B,l0C,l0D,l0E,l0F])
   refine BH rfl (by kernel_rfl) (by kernel_rfl) (fun K hK=>?_)
   go_simp
   refine hK.out _ _ ?_
   clear hK K hHeld
   go_wp2_with fail
   go_ret
   exact⟨⟨_,rfl,AZ zX.out Hb5.out.size⟩,aL.out⟩
 ·obtain⟨w2,cn,hcv,hn1,hn2,hby,hb⟩:=HCv.out w1
  go_simp
  clear hHeld hcv
  have AB7:=Lib.hid (AI8.out.Bu hb)
  have HB2:=Lib.hid (HB1.out.below hb HB1.out.lt)
  have Hb2:=Lib.hid (Hb1.out.trans (hb.mono Hb1.out.size))
  have AL5:Hid (BD w2 _ x.e.f.name):=Lib.hid ⟨_,cn,rfl,hn1,hn2,hby⟩
  clear hby hb hn1 hn2
  refine hK.out _ _ HB2.out (fun hHeld=>?_)
  clear hK K
  (try simp only[Act.put,l0A,l0B,l0C,l0D,l0E,l0F])
  refine AB (i:=0) rfl (by kernel_rfl) (fun K hK=>?_)
  go_simp
  clear hHeld
  go_at_call 65
  refine (EC w2.heap.size (.slice none 0 0) [] 67324752 4 67324752 4 w2 (BN.nil _ _) (Nat.le_refl _) rfl rfl (by omega) (by omega) (by simp)).mono ?_
  rintro e w3 ⟨⟨us,rfl,ho⟩,hb⟩
  obtain⟨As,cs,rfl,_⟩:=ho.slice
  have qf:=Lib.hid (AB7.out.Bu hb)
  have AFM:=Lib.hid (AL5.out.Bu hb)
  have HB3:=Lib.hid (HB2.out.below hb HB2.out.lt)
  have Hb3:=Lib.hid (Hb2.out.trans (hb.mono Hb2.out.size))
  have qh:=Lib.hid ho.bytes
  clear ho hb
  refine hK.out _ _ HB3.out (fun hHeld=>?_)
  clear hK K
  (try simp only[Act.put,l0A,l0B,l0C,l0D,l0E,l0F])
  refine AB (i:=2) rfl (by kernel_rfl) (fun K hK=>?_)
  go_simp
  clear hHeld
  go_at_call 84
  refine (HM.out w3).mono ?_
  rintro e w4 ⟨⟨um,rfl,ho⟩,hb⟩
  obtain⟨Am,cm,rfl,_⟩:=ho.slice
  have iM:=Lib.hid (qf.out.Bu hb)
  have zW:=Lib.hid (AFM.out.Bu hb)
  have iN:=Lib.hid (qh.out.Bu hb)
  have F4:=Lib.hid (HB3.out.below hb HB3.out.lt)
  have Hb4:=Lib.hid (Hb3.out.trans (hb.mono Hb3.out.size))
  have iO:=Lib.hid ho.bytes
  clear ho hb
  refine hK.out _ _ F4.out (fun hHeld=>?_)
  clear hK K
  (try simp only[Act.put,l0A,l0B,l0C,l0D,l0E,l0F])
  refine AB (i:=8) rfl (by kernel_rfl) (fun K hK=>?_)
  go_simp
  clear hHeld
  go_at_call 85
  refine (HX.out w4).mono ?_
  rintro e w5 ⟨⟨ux,rfl,ho⟩,hb⟩
  obtain⟨Ax,cx,rfl,_⟩:=ho.slice
  have iP:=Lib.hid (iM.out.Bu hb)
  have iT:=Lib.hid (zW.out.Bu hb)
  have iQ:=Lib.hid (iN.out.Bu hb)
  have iR:=Lib.hid (iO.out.Bu hb)
  have JY:=Lib.hid (F4.out.below hb F4.out.lt)
  have Hb5:=Lib.hid (Hb4.out.trans (hb.mono Hb4.out.size))
  have iU:=Lib.hid ho.bytes
  clear ho hb
  refine hK.out _ _ JY.out (fun hHeld=>?_)
  clear hK K
  (try simp only[Act.put,l0A,l0B,l0C,l0D,l0E,l0F])
  rw[show Cm x.pk=Value.slice x.pk.1 x.pk.2.1 x.pk.2.2 from rfl]
  refine AB (i:=11) rfl (by kernel_rfl) (fun K hK=>?_)
  go_simp
  have HC:=Lib.hid (LU [(.slice As (([]:List UInt8)++Ai 4 67324752).length cs,Du),(.slice Am (Bn x.e).length cm,Bn x.e),(.slice (some ⟨w1.heap.size,0,none⟩) x.e.f.name.length cn,x.e.f.name),(.slice Ax (Ba x.e.f).length cx,Ba x.e.f),(.slice x.pk.1 x.pk.2.1 x.pk.2.2,x.e.packed)] (Cu x.e) 5 w5 rfl (by
   intro q hq
   simp only[List.mem_cons,List.not_mem_nil,or_false]at hq
   rcases hq with rfl | rfl | rfl | rfl | rfl
   ·exact iQ.out
   ·exact iR.out
   ·exact iT.out
   ·exact iU.out
   ·exact iP.out
  ) (by simp only[List.map_cons,List.map_nil,List.flatten_cons,List.flatten_nil,List.append_nil,Cu,List.append_assoc]) (by omega) (by omega) _ rfl)
  have BA:Below w5.heap.size w5 (w5.alloc (.cells #[.slice As (([]:List UInt8)++Ai 4 67324752).length cs,.slice Am (Bn x.e).length cm,.slice (some ⟨w1.heap.size,0,none⟩) x.e.f.name.length cn,.slice Ax (Ba x.e.f).length cx,.slice x.pk.1 x.pk.2.1 x.pk.2.2] 23)):=(Below.refl _ _).alloc (Nat.le_refl _) _
  refine hK.out _ _ (JY.out.below BA JY.out.lt) (fun hHeld=>?_)
  clear hK K
  (try simp only[Act.put,l0A,l0B,l0C,l0D,l0E,l0F])
  refine AB (i:=12) rfl (by kernel_rfl) (fun K hK=>?_)
  go_simp
  go_at_call 32
  refine (HC.out).mono ?_
  rintro e wz ⟨⟨vz,rfl,QT⟩,hbz⟩
  have zX:=Lib.hid QT
  have aL:=Lib.hid (Hb5.out.trans (hbz.mono Hb5.out.size))
  refine hK.out _ _ (JY.out.below hbz JY.out.lt) (fun hHeld=>?_)
  clear hK K QT hbz BA
  (try simp only[Act.put,l0A,l0B,l0C,l0D,l0E,l0F])
  refine BH rfl (by kernel_rfl) (by kernel_rfl) (fun K hK=>?_)
  go_simp
  refine hK.out _ _ ?_
  clear hK K hHeld
  go_wp2_with fail
  go_ret
  exact⟨⟨_,rfl,AZ zX.out Hb5.out.size⟩,aL.out⟩
end Go.Proofs.YtabdianhoabhhaaGreatDoor.Zip
namespace Go.Proofs.YtabdianhoabhhaaGreatDoor.Zip
open Go Go.RowKit Go.Proofs.YtabdianhoabhhaaGreatDoor Go.Proofs.YtabdianhoabhhaaGreatDoor.Bits Go.Proofs.YtabdianhoabhhaaGreatDoor.Merge Go.Proofs.YtabdianhoabhhaaGreatDoor.Name
set_option linter.unusedVariables false
set_option linter.unusedSimpArgs false
set_option maxRecDepth 100000 in
set_option maxHeartbeats 3000000 in
theorem qa (x:Ex) (w:World) (hg:Good x.e) (hx:Jm w x) (hat:x.at_ < 4294967296) :
  Calls Tryz.prog 64 #[eV x] w fun e w'=>(∃ v,e=.returned v∧BN w' w.heap.size v (EP x.e x.at_))∧Below w.heap.size w w':=by
 have HM:=Lib.hid (fun w'=>Uk x w' hg hx.y8 hx.zA)
 have HX:=Lib.hid (fun w'=>Qi x w' hg)
 have HCv:=Lib.hid (bL x.e.f.name (by have:=hg.name;omega))
 have hlen:=Qk x.e x.at_
 have sK:=EA x.e
 have hg1:=hg.name
 clear hg hx
 unfold eV at HM HX⊢
 go_enter Tryz.func64,Tryz.ntmps64
 obtain⟨b,hb⟩:∃ b,b=w.heap.size+1:=⟨_,rfl⟩
 have hbel:Below w.heap.size w (w.alloc (.cells #[.string (Name.AR x.e.f.name),Cm x.bs,.int .i64 x.e.f.stamp,.int .i64 x.e.f.node,.bool x.e.f.gone,.int .i64 (x.e.method:Int),Cm x.pk,.int .u32 (x.e.crc:Int),.int .i64 (x.at_:Int)] 78)):=(Below.refl _ _).alloc (Nat.le_refl _) _
 have hblk:AV (w.alloc (.cells #[.string (Name.AR x.e.f.name),Cm x.bs,.int .i64 x.e.f.stamp,.int .i64 x.e.f.node,.bool x.e.f.gone,.int .i64 (x.e.method:Int),Cm x.pk,.int .u32 (x.e.crc:Int),.int .i64 (x.at_:Int)] 78)) w.heap.size 78 (eC x).toArray:=AV.new w 78 #[.string (Name.AR x.e.f.name),Cm x.bs,.int .i64 x.e.f.stamp,.int .i64 x.e.f.node,.bool x.e.f.gone,.int .i64 (x.e.method:Int),Cm x.pk,.int .u32 (x.e.crc:Int),.int .i64 (x.at_:Int)]
 have hsz:(w.alloc (.cells #[.string (Name.AR x.e.f.name),Cm x.bs,.int .i64 x.e.f.stamp,.int .i64 x.e.f.node,.bool x.e.f.gone,.int .i64 (x.e.method:Int),Cm x.pk,.int .u32 (x.e.crc:Int),.int .i64 (x.at_:Int)] 78)).heap.size=b:=by rw[hb];simp
 go_upto_region 1 with fail
 generalize w.alloc (.cells #[.string (Name.AR x.e.f.name),Cm x.bs,.int .i64 x.e.f.stamp,.int .i64 x.e.f.node,.bool x.e.f.gone,.int .i64 (x.e.method:Int),Cm x.pk,.int .u32 (x.e.crc:Int),.int .i64 (x.at_:Int)] 78)=w1 at *
 have HB1:=Lib.hid hblk
 have Hb1:=Lib.hid hbel
 have Ob:b≤w1.heap.size:=by omega
 clear hblk hbel
 have HN:=Lib.hid (EC b (.slice none 0 0) _ 33639248 4 33639248 4 w1 (BN.nil _ _) Ob rfl rfl (by omega) (by omega) (by simp[Ae,EA]))
 go_wp2_with fail
 refine (HN.out).mono ?_
 rintro e w2 ⟨⟨v2,rfl,ho2⟩,hb2⟩
 have HB2:=Lib.hid (HB1.out.below hb2 (by omega))
 have Hb2:=Lib.hid (Hb1.out.trans (hb2.mono (by omega)))
 have Oc:b≤w2.heap.size:=Nat.le_trans Ob hb2.size
 clear hb2 HN HB1 Hb1 Ob
 have HN:=Lib.hid (EC b v2 _ 20 2 20 2 w2 ho2 Oc rfl rfl (by omega) (by omega) (by simp[Ae,EA]))
 clear ho2
 go_wp2_with fail
 refine (HN.out).mono ?_
 rintro e w3 ⟨⟨v3,rfl,ho3⟩,hb3⟩
 have HB3:=Lib.hid (HB2.out.below hb3 (by omega))
 have Hb3:=Lib.hid (Hb2.out.trans (hb3.mono (by omega)))
 have Ph:b≤w3.heap.size:=Nat.le_trans Oc hb3.size
 clear hb3 HN HB2 Hb2 Oc
 obtain⟨c0,c1,c2,c3,c4,c5,c6,c7,c8⟩:=Er HB3.out
 have hl6:(([]:List UInt8)++Ai 4 33639248++Ai 2 20).length=6:=by simp[Ae]
 obtain⟨X3,hX3⟩:∃ X,X=([]:List UInt8)++Ai 4 33639248++Ai 2 20:=⟨_,rfl⟩
 rw[←hX3]at ho3 hl6
 obtain⟨A3,d3,rfl,h3l,_,_,_⟩:=ho3.slice
 rw[hl6]at ho3 h3l⊢
 have eD:=Lib.hid hX3
 have HXl:=Lib.hid hl6
 clear hX3 hl6
 go_wp2_with fail
 refine (HM.out w3).mono ?_
 rintro e w4 ⟨⟨vm,rfl,hom⟩,hb4⟩
 obtain⟨Am,cm,rfl,hm1,hm2,hm3,hm4⟩:=hom.slice
 have bY:=Lib.hid (ho3.keep hb4)
 have Hm3:=Lib.hid hm3
 have Hm4:=Lib.hid hm4
 have F4:=Lib.hid (HB3.out.below hb4 HB3.out.lt)
 have Hb4:=Lib.hid (Hb3.out.trans (hb4.mono (by omega)))
 have NV:b≤w4.heap.size:=Nat.le_trans Ph hb4.size
 clear hom hb4 hm3 hm4 ho3 HB3 Hb3 Ph c0 c1 c2 c3 c4 c5 c6 c7 c8 HM
 obtain⟨M,hM⟩:∃ M,M=Bn x.e:=⟨_,rfl⟩
 rw[←hM]at sK Hm3 Hm4 hm1⊢
 have HMe:=Lib.hid hM
 clear hM
 rw[sK]at hm1⊢
 go_wp2_with (at_builtin;refine AY _ rfl (.tmp 6) (.tmp 8) _ rfl b 5 _ 1 1 zH _ 6 (X3.map Eh) rfl (by have:=bY.out;unfold BN at this;rw[HXl.out]at this;exact this) Am 26 cm (M.map Eh) rfl (by rw[List.length_map,sK]) Hm3.out (Ia M) (fun e=>absurd (Hm4.out e) (by omega)) (by unfold maxLen;omega) (by omega) NV ?_;intro v5 w5 hown5 hg5 _;have Ho5:Hid (BN w5 b v5 (X3++M)):=Lib.hid (by unfold BN;rw[List.length_append,List.map_append,sK,HXl.out];exact hown5);have Hk5:=Lib.hid (own_below bY.out hg5 (Below.refl b w4) NV);clear hown5 hg5)
 have JY:=Lib.hid (F4.out.below Hk5.out (by omega))
 have Hb5:=Lib.hid (Hb4.out.trans (Hk5.out.mono (by omega)))
 have Od:b≤w5.heap.size:=Nat.le_trans NV Hk5.out.size
 have RJ:BN w5 b v5 (([]:List UInt8)++Ai 4 33639248++Ai 2 20++Bn x.e):=by rw[←eD.out,←HMe.out];exact Ho5.out
 clear bY Ho5 Hk5 F4 Hb4 NV Hm3 Hm4
 have HN:=Lib.hid (EC b v5 _ 0 10 0 10 w5 RJ Od rfl rfl (by omega) (by omega) (by simp[Ae,EA]))
 clear RJ
 refine (HN.out).mono ?_
 rintro e w6 ⟨⟨v6,rfl,R6⟩,hb6⟩
 have Rp:=Lib.hid (JY.out.below hb6 (by omega))
 have Jc:=Lib.hid (Hb5.out.trans (hb6.mono (by omega)))
 have RY:b≤w6.heap.size:=Nat.le_trans Od hb6.size
 clear hb6 HN JY Hb5 Od
 have HN:=Lib.hid (EC b v6 _ x.at_ 4 (x.at_:Int) 4 w6 R6 RY rfl rfl (by omega) (by omega) (by simp[Ae,EA]))
 have AJE:=Rp
 clear R6
 obtain⟨c0,c1,c2,c3,c4,c5,c6,c7,c8⟩:=Er AJE.out
 go_wp2_with fail
 refine (HN.out).mono ?_
 rintro e w7 ⟨⟨v7,rfl,lW⟩,Iu⟩
 have rF:=Lib.hid (Rp.out.below Iu (by omega))
 have FR:=Lib.hid (Jc.out.trans (Iu.mono (by omega)))
 have YQ:b≤w7.heap.size:=Nat.le_trans RY Iu.size
 clear c0 c1 c2 c3 c4 c5 c6 c7 c8 AJE Iu HN Rp Jc RY
 obtain⟨XR,hXR⟩:∃ X,X=(([]:List UInt8)++Ai 4 33639248++Ai 2 20++Bn x.e++Ai 10 0++Ai 4 x.at_):=⟨_,rfl⟩
 rw[←hXR]at lW
 have hxl:XR.length=46:=by rw[hXR];simp[Ae,EA]
 obtain⟨Ar,cr,rfl,hr1,hr2,hr3,_⟩:=lW.slice
 have AJF:Hid (BD w7 (.slice Ar XR.length cr) XR):=Lib.hid ⟨Ar,cr,rfl,hr1,hr2,hr3⟩
 have HXR:=Lib.hid hXR
 have AOH:=Lib.hid hxl
 clear lW hr3 hxl hXR
 go_wp2_with fail
 refine Bp (fun W=>AV W w.heap.size 78 (eC x).toArray) 9 (by kernel_rfl) ?_
 have BA:Below w7.heap.size w7 w7.drew:=(Below.refl _ _).drew
 have Jq:Hid (AV w7.drew w.heap.size 78 (eC x).toArray):=Lib.hid rF.out
 have EJ:=Lib.hid (FR.out.drew)
 have AJG:=Lib.hid (AJF.out.Bu BA)
 have hHeld:=Jq.out
 clear BA AJF rF FR YQ
 generalize w7.drew=w8 at *
 refine AA (i:=0) (v:=?vd0) (by kernel_rfl) (by kernel_rfl) rfl (by kernel_rfl) (by kernel_rfl) (by kernel_rfl) (fun _ _ _ h=>h) (by rfl) (by assumption) ?AL7 ?AL8
 case AL7=>(intro W hSW;obtain⟨c0,c1,c2,c3,c4,c5,c6,c7,c8⟩:=Er hSW;go_simp;try with_reducible rfl)
 (try simp only[Act.put,l0A,l0B,l0C,l0D,l0E,l0F])
 refine AA (i:=1) (v:=?vd1) (by kernel_rfl) (by kernel_rfl) rfl (by kernel_rfl) (by kernel_rfl) (by kernel_rfl) (fun _ _ _ h=>h) (by rfl) (by assumption) ?AL9 ?AMA
 case AL9=>(intro W hSW;obtain⟨c0,c1,c2,c3,c4,c5,c6,c7,c8⟩:=Er hSW;go_simp;try with_reducible rfl)
 (try simp only[Act.put,l0A,l0B,l0C,l0D,l0E,l0F])
 refine AA (i:=2) (v:=?vd2) (by kernel_rfl) (by kernel_rfl) rfl (by kernel_rfl) (by kernel_rfl) (by kernel_rfl) (fun _ _ _ h=>h) (by rfl) (by assumption) ?AMB ?AMC
 case AMB=>(intro W hSW;obtain⟨c0,c1,c2,c3,c4,c5,c6,c7,c8⟩:=Er hSW;go_simp;try with_reducible rfl)
 (try simp only[Act.put,l0A,l0B,l0C,l0D,l0E,l0F])
 refine AA (i:=3) (v:=?vd3) (by kernel_rfl) (by kernel_rfl) rfl (by kernel_rfl) (by kernel_rfl) (by kernel_rfl) (fun _ _ _ h=>h) (by rfl) (by assumption) ?AMD ?AME
 case AMD=>(intro W hSW;obtain⟨c0,c1,c2,c3,c4,c5,c6,c7,c8⟩:=Er hSW;go_simp;try with_reducible rfl)
 (try simp only[Act.put,l0A,l0B,l0C,l0D,l0E,l0F])
 refine AA (i:=5) (v:=?vd5) (by kernel_rfl) (by kernel_rfl) rfl (by kernel_rfl) (by kernel_rfl) (by kernel_rfl) (fun _ _ _ h=>h) (by rfl) (by assumption) ?AMF ?AMG
 case AMF=>(intro W hSW;obtain⟨c0,c1,c2,c3,c4,c5,c6,c7,c8⟩:=Er hSW;go_simp;try with_reducible rfl)
 (try simp only[Act.put,l0A,l0B,l0C,l0D,l0E,l0F])
 refine Fw (i:=4) (j:=6) rfl rfl (by kernel_rfl) (fun K hK=>?_) (fun K hK=>?_)
 ·obtain⟨w9,cn,hcv,hn1,hn2,hby,hb⟩:=HCv.out w8
  go_simp
  clear hHeld hcv
  have AFO:=Lib.hid (AJG.out.Bu hb)
  have O8:=Lib.hid (Jq.out.below hb Jq.out.lt)
  have Sa:=Lib.hid (EJ.out.trans (hb.mono EJ.out.size))
  have AMH:Hid (BD w9 _ x.e.f.name):=Lib.hid ⟨_,cn,rfl,hn1,hn2,hby⟩
  clear hby hb hn1 hn2
  refine hK.out _ _ O8.out (fun hHeld=>?_)
  clear hK K
  (try simp only[Act.put,l0A,l0B,l0C,l0D,l0E,l0F])
  refine AB (i:=6) rfl (by kernel_rfl) (fun K hK=>?_)
  go_simp
  clear hHeld
  go_at_call 85
  refine (HX.out w9).mono ?_
  rintro e M7 ⟨⟨ux,rfl,ho⟩,hb⟩
  obtain⟨Ax,cx,rfl,_⟩:=ho.slice
  have ze:=Lib.hid (AFO.out.Bu hb)
  have zf:=Lib.hid (AMH.out.Bu hb)
  have Mh:=Lib.hid (O8.out.below hb O8.out.lt)
  have OT:=Lib.hid (Sa.out.trans (hb.mono Sa.out.size))
  have zg:=Lib.hid ho.bytes
  clear ho hb
  refine hK.out _ _ Mh.out (fun hHeld=>?_)
  clear hK K
  (try simp only[Act.put,l0A,l0B,l0C,l0D,l0E,l0F])
  refine AB (i:=7) rfl (by kernel_rfl) (fun K hK=>?_)
  go_simp
  have HC:=Lib.hid (LU [(.slice Ar XR.length cr,XR),(.slice (some ⟨w8.heap.size,0,none⟩) x.e.f.name.length cn,x.e.f.name),(.slice Ax (Ba x.e.f).length cx,Ba x.e.f)] (EP x.e x.at_) 3 M7 rfl (by
   intro q hq
   simp only[List.mem_cons,List.not_mem_nil,or_false]at hq
   rcases hq with rfl | rfl | rfl
   ·exact ze.out
   ·exact zf.out
   ·exact zg.out
  ) (by simp only[List.map_cons,List.map_nil,List.flatten_cons,List.flatten_nil,List.append_nil,HXR.out,EP,List.nil_append,List.append_assoc]) (by omega) (by omega) _ rfl)
  have BA:Below M7.heap.size M7 (M7.alloc (.cells #[.slice Ar XR.length cr,.slice (some ⟨w8.heap.size,0,none⟩) x.e.f.name.length cn,.slice Ax (Ba x.e.f).length cx] 23)):=(Below.refl _ _).alloc (Nat.le_refl _) _
  refine hK.out _ _ (Mh.out.below BA Mh.out.lt) (fun hHeld=>?_)
  clear hK K
  (try simp only[Act.put,l0A,l0B,l0C,l0D,l0E,l0F])
  refine AB (i:=8) rfl (by kernel_rfl) (fun K hK=>?_)
  go_simp
  go_at_call 32
  refine (HC.out).mono ?_
  rintro e wz ⟨⟨vz,rfl,QT⟩,hbz⟩
  have zX:=Lib.hid QT
  have aL:=Lib.hid (OT.out.trans (hbz.mono OT.out.size))
  refine hK.out _ _ (Mh.out.below hbz Mh.out.lt) (fun hHeld=>?_)
  clear hK K QT hbz BA
  (try simp only[Act.put,l0A,l0B,l0C,l0D,l0E,l0F])
  refine BH rfl (by kernel_rfl) (by kernel_rfl) (fun K hK=>?_)
  go_simp
  refine hK.out _ _ ?_
  clear hK K hHeld
  go_wp2_with fail
  go_ret
  exact⟨⟨_,rfl,AZ zX.out OT.out.size⟩,aL.out⟩
 ·go_simp
  clear hHeld
  go_at_call 85
  refine (HX.out w8).mono ?_
  rintro e w9 ⟨⟨ux,rfl,ho⟩,hb⟩
  obtain⟨Ax,cx,rfl,_⟩:=ho.slice
  have AFO:=Lib.hid (AJG.out.Bu hb)
  have O8:=Lib.hid (Jq.out.below hb Jq.out.lt)
  have Sa:=Lib.hid (EJ.out.trans (hb.mono EJ.out.size))
  have AMI:=Lib.hid ho.bytes
  clear ho hb
  refine hK.out _ _ O8.out (fun hHeld=>?_)
  clear hK K
  (try simp only[Act.put,l0A,l0B,l0C,l0D,l0E,l0F])
  refine AB (i:=4) rfl (by kernel_rfl) (fun K hK=>?_)
  obtain⟨M7,cn,hcv,hn1,hn2,hby,hb⟩:=HCv.out w9
  go_simp
  clear hHeld hcv
  have ze:=Lib.hid (AFO.out.Bu hb)
  have zg:=Lib.hid (AMI.out.Bu hb)
  have Mh:=Lib.hid (O8.out.below hb O8.out.lt)
  have OT:=Lib.hid (Sa.out.trans (hb.mono Sa.out.size))
  have zf:Hid (BD M7 _ x.e.f.name):=Lib.hid ⟨_,cn,rfl,hn1,hn2,hby⟩
  clear hby hb hn1 hn2
  refine hK.out _ _ Mh.out (fun hHeld=>?_)
  clear hK K
  (try simp only[Act.put,l0A,l0B,l0C,l0D,l0E,l0F])
  refine AB (i:=7) rfl (by kernel_rfl) (fun K hK=>?_)
  go_simp
  have HC:=Lib.hid (LU [(.slice Ar XR.length cr,XR),(.slice (some ⟨w9.heap.size,0,none⟩) x.e.f.name.length cn,x.e.f.name),(.slice Ax (Ba x.e.f).length cx,Ba x.e.f)] (EP x.e x.at_) 3 M7 rfl (by
   intro q hq
   simp only[List.mem_cons,List.not_mem_nil,or_false]at hq
   rcases hq with rfl | rfl | rfl
   ·exact ze.out
   ·exact zf.out
   ·exact zg.out
  ) (by simp only[List.map_cons,List.map_nil,List.flatten_cons,List.flatten_nil,List.append_nil,HXR.out,EP,List.nil_append,List.append_assoc]) (by omega) (by omega) _ rfl)
  have BA:Below M7.heap.size M7 (M7.alloc (.cells #[.slice Ar XR.length cr,.slice (some ⟨w9.heap.size,0,none⟩) x.e.f.name.length cn,.slice Ax (Ba x.e.f).length cx] 23)):=(Below.refl _ _).alloc (Nat.le_refl _) _
  refine hK.out _ _ (Mh.out.below BA Mh.out.lt) (fun hHeld=>?_)
  clear hK K
  (try simp only[Act.put,l0A,l0B,l0C,l0D,l0E,l0F])
  refine AB (i:=8) rfl (by kernel_rfl) (fun K hK=>?_)
  go_simp
  go_at_call 32
  refine (HC.out).mono ?_
  rintro e wz ⟨⟨vz,rfl,QT⟩,hbz⟩
  have zX:=Lib.hid QT
  have aL:=Lib.hid (OT.out.trans (hbz.mono OT.out.size))
  refine hK.out _ _ (Mh.out.below hbz Mh.out.lt) (fun hHeld=>?_)
  clear hK K QT hbz BA
  (try simp only[Act.put,l0A,l0B,l0C,l0D,l0E,l0F])
  refine BH rfl (by kernel_rfl) (by kernel_rfl) (fun K hK=>?_)
  go_simp
  refine hK.out _ _ ?_
  clear hK K hHeld
  go_wp2_with fail
  go_ret
  exact⟨⟨_,rfl,AZ zX.out OT.out.size⟩,aL.out⟩
end Go.Proofs.YtabdianhoabhhaaGreatDoor.Zip
namespace Go.Proofs.YtabdianhoabhhaaGreatDoor
open Go Go.RowKit
set_option linter.unusedVariables false
def Two (w0 w:World) (e:TypeId) (v1 v2:Value) (xs ys:List Value) (l:List (Nat×TypeId×Array Value)):Prop:=
 w.ownsRow w0.heap.size e 1 v1 xs.length xs∧w.ownsRow w0.heap.size e 1 v2 ys.length ys∧Below w0.heap.size w0 w∧
 (∀ g,v1.ownBlock=some g→v2.ownBlock≠some g)∧∀ p∈l,AV w p.1 p.2.1 p.2.2∧v1.ownBlock≠some p.1∧v2.ownBlock≠some p.1
section
variable {w0 w:World} {e:TypeId} {v1 v2:Value} {xs ys:List Value} {l:List (Nat×TypeId×Array Value)}
theorem Two.start (h:Below w0.heap.size w0 w):Two w0 w e (.slice none 0 0) (.slice none 0 0) [] [] []:=
 ⟨World.ownsRow_nil ..,World.ownsRow_nil ..,h,fun g hg=>by simp[Value.ownBlock]at hg,fun p hp=>by simp at hp⟩
theorem Two.symm (h:Two w0 w e v1 v2 xs ys l):Two w0 w e v2 v1 ys xs l:=
 ⟨h.2.1,h.1,h.2.2.1,fun g h1 h2=>h.2.2.2.1 g h2 h1,fun p hp=>⟨(h.2.2.2.2 p hp).1,(h.2.2.2.2 p hp).2.2,(h.2.2.2.2 p hp).2.1⟩⟩
theorem Two.clear (h:Two w0 w e v1 v2 xs ys l):Two w0 w e v1 v2 xs ys []:=⟨h.1,h.2.1,h.2.2.1,h.2.2.2.1,fun p hp=>by simp at hp⟩
theorem Two.drew (h:Two w0 w e v1 v2 xs ys l):Two w0 w.drew e v1 v2 xs ys l:=⟨h.1,h.2.1,h.2.2.1.drew,h.2.2.2.1,h.2.2.2.2⟩
theorem Two.alloc (h:Two w0 w e v1 v2 xs ys l) (t:TypeId) (cs:Array Value):Two w0 (w.alloc (.cells cs t)) e v1 v2 xs ys ((w.heap.size,t,cs) :: l):=by
 have hb:=(Below.refl w.heap.size w).alloc (Nat.le_refl _) (.cells cs t)
 refine⟨AP h.1 hb,AP h.2.1 hb,h.2.2.1.alloc h.2.2.1.size _,h.2.2.2.1,fun p hp=>?_⟩
 rcases List.mem_cons.1 hp with rfl | hp
 ·exact⟨AV.new w t cs,fun hk=>by have:=(h.1.lt _ hk).2;omega,fun hk=>by have:=(h.2.1.lt _ hk).2;omega⟩
 ·exact⟨(h.2.2.2.2 p hp).1.alloc _,(h.2.2.2.2 p hp).2⟩
theorem Two.other (h:Two w0 w e v1 v2 xs ys l) (o:Obj):Two w0 (w.alloc o) e v1 v2 xs ys l:=by
 have hb:=(Below.refl w.heap.size w).alloc (Nat.le_refl _) o
 exact⟨AP h.1 hb,AP h.2.1 hb,h.2.2.1.alloc h.2.2.1.size _,h.2.2.2.1,fun p hp=>⟨(h.2.2.2.2 p hp).1.alloc _,(h.2.2.2.2 p hp).2⟩⟩
theorem Two.cell (h:Two w0 w e v1 v2 xs ys l) {g:Nat} {t:TypeId} {cs:Array Value} (hm:(g,t,cs)∈l) (i:Nat):w.cell? ⟨g,i,none⟩=cs[i]?:=(h.2.2.2.2 _ hm).1.cell i
theorem Two.lt (h:Two w0 w e v1 v2 xs ys l) {g:Nat} {t:TypeId} {cs:Array Value} (hm:(g,t,cs)∈l):g < w.heap.size:=(h.2.2.2.2 _ hm).1.lt
theorem kQ {w':World} {base size n:Nat} {v u:Value} {zs:List Value} (h:w.ownsRow base e size v n zs) (hg:w.grownBy w' u.ownBlock) (hd:∀ g,u.ownBlock=some g→v.ownBlock≠some g):w'.ownsRow base e size v n zs:=by
 refine⟨h.1,?_⟩
 rcases h.2 with hn | ⟨g,cap,cur,rfl,hbg,hk,r⟩
 ·exact .inl hn
 ·refine .inr ⟨g,cap,cur,rfl,hbg,?_,r⟩
  rw[hg.block g (lt_of_block hk) (fun hh=>hd g hh.symm (by simp[Value.ownBlock]))];exact hk
end
end Go.Proofs.YtabdianhoabhhaaGreatDoor
namespace Go.Proofs.YtabdianhoabhhaaGreatDoor.Zip
open Go Go.RowKit Go.Proofs.YtabdianhoabhhaaGreatDoor Go.Proofs.YtabdianhoabhhaaGreatDoor.Bits Go.Proofs.YtabdianhoabhhaaGreatDoor.Merge Go.Proofs.YtabdianhoabhhaaGreatDoor.Name
open Go.Proofs.YtabdianhoabhhaaGreatDoor.Inf (DW)
set_option linter.unusedVariables false
set_option linter.unusedSimpArgs false
theorem _root_.Go.Proofs.YtabdianhoabhhaaGreatDoor.Inf.DW.less {base B0 B1:Nat} {T:List TypeId} {w w':World} (h:DW base B0 T w w') (hb:B1≤B0):DW base B1 T w w':=
 ⟨h.os,h.tape,h.output,h.size,h.block,fun k o hk=>h.other k o (by omega)⟩
theorem _root_.Go.Proofs.YtabdianhoabhhaaGreatDoor.Inf.DW.toBelow {base B0:Nat} {T:List TypeId} {w w':World} (h:DW base B0 T w w'):Below base w w':=⟨h.os,h.tape,h.output,h.size,h.block⟩
def Oa:List TypeId:=[78]
def VQ (B:Nat) (w:World) (x:Ex):Prop:=∀ w',DW B w.heap.size Oa w w'→Jm w' x
theorem VQ.at_ {B:Nat} {w:World} {x:Ex} (h:VQ B w x):Jm w x:=h w (DW.refl _ _ _ _)
theorem VQ.old {B:Nat} {w w1:World} {x:Ex} (h:VQ B w x) (hk:DW B w.heap.size Oa w w1):VQ B w1 x:=fun w2 h2=>h w2 (hk.trans (h2.less hk.size))
def setAt (x:Ex) (n:Nat):Ex:=⟨x.e,x.bs,x.pk,n⟩
theorem Jm.Ca {w:World} {x:Ex} (h:Jm w x) (n:Nat):Jm w (setAt x n):=⟨h.y8,h.y9,h.AE5,h.bat,h.zA,h.zB,h.AE6,h.pat⟩
def Cr (l:List Ex):List Dp:=l.map Ex.e
def ME:List Ex→Nat→List Ex
 | [],_=>[]
 | x :: l,n=>setAt x n :: ME l (n+(Cu x.e).length)
theorem LZ:∀ (l:List Ex) (n:Nat),(ME l n).length=l.length
 | [],_=>rfl
 | x :: l,n=>by unfold ME;rw[List.length_cons,LZ l,List.length_cons]
theorem ax:∀ (l:List Ex) (x:Ex) (n:Nat),ME (l++[x]) n=ME l n++[setAt x (n+(Bi (Cr l)).length)]
 | [],x,n=>by simp[ME,Cr,Bi]
 | y :: l,x,n=>by
  rw[List.cons_append,ME,ax l x,ME,List.cons_append]
  simp only[Cr,List.map_cons,Bi,List.flatMap_cons,List.length_append,Nat.add_assoc]
theorem AIM (l:List Ex) (n:Nat):Cr (ME l n)=Cr l:=by
 induction l generalizing n with
 | nil=>rfl
 | cons x l ih=>
  have h:=ih (n+(Cu x.e).length)
  unfold Cr at h⊢
  rw[ME,List.map_cons,h];rfl
def JQ (l:List Ex) (k:Nat):List Ex:=ME (l.take k) 0++l.drop k
theorem Ui (l:List Ex) (k:Nat) (h:k≤l.length):(JQ l k).length=l.length:=by
 unfold JQ;rw[List.length_append,LZ,List.length_take,List.length_drop];omega
theorem zC (l:List Ex) (k:Nat) (h:k < l.length):(JQ l k)[k]?=some l[k]:=by
 unfold JQ
 rw[List.getElem?_append_right (by rw[LZ,List.length_take];omega),LZ,List.length_take,List.getElem?_drop,show k+(k - min k l.length)=k by omega,List.getElem?_eq_getElem h]
theorem Wl (l:List Ex) (k:Nat) (h:k < l.length):JQ l (k+1)=(JQ l k).set k (setAt l[k] (Bi (Cr (l.take k))).length):=by
 unfold JQ
 rw[List.take_succ_eq_append_getElem h,ax,List.set_append_right _ _ (by rw[LZ,List.length_take];omega),LZ,List.length_take,show k - min k l.length=0 by omega,List.drop_eq_getElem_cons h,List.set_cons_zero,List.append_assoc,Nat.zero_add]
 rfl
theorem Wm:∀ (L:List Ex) (k n:Nat) (h:k < L.length),(L.flatMap eC).set (k*9+8) (.int .i64 (n:Int))=(L.set k (setAt (L[k]'h) n)).flatMap eC
 | [],k,n,h=>by simp at h
 | x :: L,0,n,h=>rfl
 | x :: L,k+1,n,h=>by
  have ih:=Wm L k n (by simpa using h)
  rw[List.flatMap_cons,List.set_append_right _ _ (by rw[YP];omega),YP,show (k+1)*9+8 - 9=k*9+8 by omega,ih]
  rfl
theorem Qf {w:World} {g:Nat} {L:List Ex} (h:AQ w (some ⟨g,0,none⟩) (L.flatMap eC)) {k:Nat} {x:Ex} (hk:L[k]?=some x) :
  w.cell? ⟨g,k*9,none⟩=some (.string (Name.AR x.e.f.name))∧w.cell? ⟨g,k*9+1,none⟩=some (Cm x.bs)∧w.cell? ⟨g,k*9+2,none⟩=some (.int .i64 x.e.f.stamp)∧w.cell? ⟨g,k*9+3,none⟩=some (.int .i64 x.e.f.node)∧w.cell? ⟨g,k*9+4,none⟩=some (.bool x.e.f.gone)∧
  w.cell? ⟨g,k*9+5,none⟩=some (.int .i64 (x.e.method:Int))∧w.cell? ⟨g,k*9+6,none⟩=some (Cm x.pk)∧w.cell? ⟨g,k*9+7,none⟩=some (.int .u32 (x.e.crc:Int))∧w.cell? ⟨g,k*9+8,none⟩=some (.int .i64 (x.at_:Int)):=by
 have hl:k < L.length:=by
  rcases Nat.lt_or_ge k L.length with h1 | h1
  ·exact h1
  ·rw[List.getElem?_eq_none h1]at hk;cases hk
 rw[List.getElem?_eq_getElem hl]at hk
 injection hk with hk
 obtain⟨b,o,e,hc⟩:=EI (size:=9) YP (by omega) h hl
 injection e with e
 injection e with e1 e2 e3
 subst e1 e2
 rw[hk]at hc
 simp only[Nat.zero_add]at hc
 exact⟨hc 0 _ rfl,hc 1 _ rfl,hc 2 _ rfl,hc 3 _ rfl,hc 4 _ rfl,hc 5 _ rfl,hc 6 _ rfl,hc 7 _ rfl,hc 8 _ rfl⟩
structure Qg (w:World) (B:Nat) (v1:Value) (xs:List UInt8) (v2:Value) (ys:List UInt8):Prop where
 one:BN w B v1 xs
 two:BN w B v2 ys
 apart:∀ g,v1.ownBlock=some g→v2.ownBlock≠some g
theorem Qg.keep {w w':World} {B:Nat} {v1 v2:Value} {xs ys:List UInt8} (h:Qg w B v1 xs v2 ys) (hb:Below w.heap.size w w'):Qg w' B v1 xs v2 ys:=⟨h.one.keep hb,h.two.keep hb,h.apart⟩
theorem Qg.symm {w:World} {B:Nat} {v1 v2:Value} {xs ys:List UInt8} (h:Qg w B v1 xs v2 ys):Qg w B v2 ys v1 xs:=⟨h.two,h.one,fun g h1 h2=>h.apart g h2 h1⟩
theorem Qg.grown {w w':World} {B:Nat} {v1 v2 v':Value} {xs ys zs:List UInt8} (h:Qg w B v1 xs v2 ys) (ho:BN w' B v' zs) (hg:w.grownBy w' v1.ownBlock) (hl:v'.ownBlock=v1.ownBlock∨v'.ownBlock=some w.heap.size):Qg w' B v' zs v2 ys:=by
 refine⟨ho,kQ h.two hg h.apart,fun g h1 h2=>?_⟩
 rcases hl with e | e
 ·exact h.apart g (by rw[←e];exact h1) h2
 ·rw[e]at h1
  injection h1 with h1
  have:=(h.two.lt _ h2).2
  omega
theorem Qg.store {w:World} {B B2:Nat} {v1 v2:Value} {xs ys:List UInt8} (h:Qg w B v1 xs v2 ys) {g m c n:Nat} {cs:List Value} (hown:w.ownsRow B2 78 9 (.slice (some ⟨g,0,none⟩) m c) n cs) (i:Nat) (u:Value):Qg (w.setCell ⟨g,i,none⟩ u) B v1 xs v2 ys:=by
 have hk:AJ B2 Oa w (w.setCell ⟨g,i,none⟩ u):=(AJ.refl _ _ _).stored hown (by simp[Oa]) i u
 exact⟨hk.own h.one (by decide),hk.own h.two (by decide),h.apart⟩
theorem Uj (l:List Ex) (k:Nat):(Bi (Cr (l.take k))).length+(Bc (Cr (l.take k)) 0).length+22≤(laidB (Cr l)).length:=by
 have e:laidB (Cr (l.take k))=Bi (Cr (l.take k))++Bc (Cr (l.take k)) 0++Im (Cr (l.take k)):=rfl
 have h1:(laidB (Cr (l.take k))).length=(Bi (Cr (l.take k))).length+(Bc (Cr (l.take k)) 0).length+22:=by rw[e,List.length_append,List.length_append,NQ]
 rw[←h1,KX,KX]
 have h2:((Cr l).map KY).sum=((Cr (l.take k)).map KY).sum+((Cr (l.drop k)).map KY).sum:=by
  conv=>lhs;rw[←List.take_append_drop k l]
  unfold Cr
  rw[List.map_append,List.map_append,List.sum_append]
 omega
theorem qY (l:List Ex) (k:Nat) (x:Ex) (h:l[k]?=some x):Bi (Cr (l.take (k+1)))=Bi (Cr (l.take k))++Cu x.e∧Bc (Cr (l.take (k+1))) 0=Bc (Cr (l.take k)) 0++EP x.e (Bi (Cr (l.take k))).length:=by
 have hl:k < l.length:=by
  rcases Nat.lt_or_ge k l.length with h1 | h1
  ·exact h1
  ·rw[List.getElem?_eq_none h1]at h;cases h
 rw[List.getElem?_eq_getElem hl]at h
 injection h with h
 have e:Cr (l.take (k+1))=Cr (l.take k)++[x.e]:=by
  unfold Cr
  rw[List.take_succ_eq_append_getElem hl,List.map_append,h];rfl
 rw[e,iH,RG,Nat.zero_add]
 exact⟨rfl,rfl⟩
theorem zD (l:List Ex) (k:Nat) (x:Ex) (h:l[k]?=some x):(JQ l (k+1))[k]?=some (setAt x (Bi (Cr (l.take k))).length):=by
 have hl:k < l.length:=by
  rcases Nat.lt_or_ge k l.length with h1 | h1
  ·exact h1
  ·rw[List.getElem?_eq_none h1]at h;cases h
 rw[Wl l k hl,List.getElem?_set_self (by rw[Ui l k (by omega)];exact hl)]
 rw[List.getElem?_eq_getElem hl]at h
 injection h with h
 rw[h]
theorem zF {w w':World} {base B0:Nat} {e:TypeId} {size n:Nat} {v:Value} {xs:List Value} (h:w.ownsRow base e size v n xs) (hv:∀ b,v.ownBlock=some b→b < B0) (hb:Below B0 w w'):w'.ownsRow base e size v n xs:=by
 obtain⟨h1,h2⟩:=h
 refine⟨h1,?_⟩
 rcases h2 with h | ⟨g,cap,cur,rfl,hbg,r⟩
 ·exact .inl h
 ·have hg:g < B0:=hv g rfl
  refine .inr ⟨g,cap,cur,rfl,hbg,?_⟩
  rw[hb.block g hg]
  exact r
theorem Wn {w:World} {B g c n k nb:Nat} {L:List Ex} {x:Ex} (h:w.ownsRow B 78 9 (.slice (some ⟨g,0,none⟩) n c) n (L.flatMap eC)) (hk:L[k]?=some (setAt x nb)) :
  w.cell? ⟨g,k*9,none⟩=some (.string (Name.AR x.e.f.name))∧w.cell? ⟨g,k*9+1,none⟩=some (Cm x.bs)∧w.cell? ⟨g,k*9+2,none⟩=some (.int .i64 x.e.f.stamp)∧w.cell? ⟨g,k*9+3,none⟩=some (.int .i64 x.e.f.node)∧w.cell? ⟨g,k*9+4,none⟩=some (.bool x.e.f.gone)∧
  w.cell? ⟨g,k*9+5,none⟩=some (.int .i64 (x.e.method:Int))∧w.cell? ⟨g,k*9+6,none⟩=some (Cm x.pk)∧w.cell? ⟨g,k*9+7,none⟩=some (.int .u32 (x.e.crc:Int))∧w.cell? ⟨g,k*9+8,none⟩=some (.int .i64 (nb:Int)):=by
 obtain⟨_,_,e1,_,_,hs,_⟩:=Ad h
 injection e1 with e1 _ e2
 subst e1 e2
 exact Qf hs hk
set_option maxRecDepth 100000 in
set_option maxHeartbeats 3000000 in
theorem RH (B:Nat) (v:Value) (l:List Ex) (w:World) (hB:B≤w.heap.size) (hown:w.ownsRow B 78 9 v l.length (l.flatMap eC)) (hg:∀ x∈l,Good x.e) (hp:∀ x∈l,VQ B w x) (hl:l.length≤13) (hz:(laidB (Cr l)).length≤1000000) :
  Calls Tryz.prog 46 #[v] w fun e w'=>(∃ vb,e=.returned vb∧BN w' w.heap.size vb (laidB (Cr l)))∧w'.ownsRow B 78 9 v l.length ((ME l 0).flatMap eC)∧DW B w.heap.size Oa w w':=by
 obtain⟨A,c,rfl,hlc,hcm,_,l9⟩:=Ad hown
 obtain⟨n,hn⟩:∃ n,n=l.length:=⟨_,rfl⟩
 rw[←hn]at hown hlc l9 hl⊢
 have Hn:=Lib.hid hn
 have HO:=Lib.hid hown
 have HP:=Lib.hid hp
 have HG:=Lib.hid hg
 have Hz:=Lib.hid hz
 obtain⟨B0,hB0⟩:∃ B0,B0=w.heap.size:=⟨_,rfl⟩
 rw[←hB0]at hB⊢
 have HB0:=Lib.hid hB0
 clear hn hown hp hg hz hB0
 go_enter Tryz.func46,Tryz.ntmps46
 go_wp2_with fail
 go_loopw [3,4,9] (fun vb vl vi wr=>∃ k,k≤n∧vi=.int .i64 (k:Int)∧Qg wr B0 vb (Bi (Cr (l.take k))) vl (Bc (Cr (l.take k)) 0)∧wr.ownsRow B 78 9 (.slice A n c) n ((JQ l k).flatMap eC)∧DW B B0 Oa w wr) (fun _ _ vi _=>n - (intOf vi).toNat)
 case atStart=>exact⟨0,Nat.zero_le _,rfl,⟨BN.nil _ _,BN.nil _ _,fun g hg=>by simp[Value.ownBlock]at hg⟩,by simpa [JQ,ME] using HO.out,DW.refl _ _ _ _⟩
 case round=>
  obtain⟨k,hk,rfl,ht,ho,hk1⟩:=hrel
  have HT:=Lib.hid ht
  have HOr:=Lib.hid ho
  have HKr:=Lib.hid hk1
  clear ht ho hk1
  by_cases hlt:k < n
  ·have hlt':(k:Int) < (n:Int):=by omega
   have hk0:(0:Int)≤(k:Int):=by omega
   obtain⟨g,cap,hv,_,_⟩:=HOr.out.form (by omega)
   injection hv with hv1 _ hv2
   subst hv1 hv2
   have hkl:k < l.length:=by rw[←Hn.out];exact hlt
   obtain⟨x,hx⟩:∃ x,l[k]?=some x:=⟨_,List.getElem?_eq_getElem hkl⟩
   have hxm:x∈l:=List.mem_of_getElem? hx
   have hsg:(JQ l k)[k]?=some x:=by rw[zC l k hkl,←hx,List.getElem?_eq_getElem hkl]
   obtain⟨_,_,e1,_,_,hsl,_⟩:=Ad HOr.out
   injection e1 with e1 _ e2
   subst e1 e2
   obtain⟨_,_,_,_,_,_,_,_,c8⟩:=Qf hsl hsg
   have f8:=HOr.out.frozenAt (k*9+8)
   have hht:=Uj l k
   have hz:=Hz.out
   obtain⟨Hk,hHk⟩:∃ H,H=Bi (Cr (l.take k)):=⟨_,rfl⟩
   obtain⟨Tk,hTk⟩:∃ T,T=Bc (Cr (l.take k)) 0:=⟨_,rfl⟩
   obtain⟨hn1,hn2⟩:=qY l k x hx
   have ABv:=zD l k x hx
   have hsn:=Wl l k hkl
   have hxk:l[k]=x:=by rw[List.getElem?_eq_getElem hkl]at hx;injection hx
   rw[←hHk]at hn1 hn2 hsn hht HT ABv
   rw[←hTk]at hn2 hht HT
   rw[hxk]at hsn
   obtain⟨nb,hnb⟩:∃ nb,nb=Hk.length:=⟨_,rfl⟩
   rw[←hnb]at hn2 hsn hht ABv
   have HSg:=Lib.hid ABv
   have HXw:=Lib.hid (HP.out x hxm)
   clear ABv
   have hset:((JQ l k).flatMap eC).set (k*9+8) (.int .i64 (nb:Int))=(JQ l (k+1)).flatMap eC:=by
    rw[Wm _ _ _ (by rw[Ui l k (by omega)];exact hkl),hsn]
    rw[List.getElem?_eq_getElem (by rw[Ui l k (by omega)];exact hkl)]at hsg
    injection hsg with hsg
    rw[hsg]
   have ANu:=Lib.hid hset
   have sI:=Lib.hid hn1
   have rY:=Lib.hid hn2
   have YC:=Lib.hid hnb
   have hgx:=HG.out x hxm
   have hpx:=(HP.out x hxm).old (by rw[←HB0.out];exact HKr.out)
   have HGx:=Lib.hid hgx
   have HPx:=Lib.hid hpx
   have hth:(Cu x.e).length≤1000000∧(EP x.e nb).length≤1000000:=by
    have h1:=Uj l (k+1)
    rw[hn1,hn2,List.length_append,List.length_append]at h1
    omega
   obtain⟨Ab,cb,rfl,hb1,hb2,_,_⟩:=HT.out.one.slice
   rw[←hnb]at hb1⊢
   have AE7:=(HOr.out.stored (k*9+8) (.int .i64 (nb:Int))).1
   rw[hset]at AE7
   have Cz:=Lib.hid AE7
   have HT2:=Lib.hid (HT.out.store HOr.out (k*9+8) (.int .i64 (nb:Int)))
   have F3:Hid (DW B B0 Oa w (wr.setCell ⟨g,k*9+8,none⟩ (.int .i64 (nb:Int)))):=Lib.hid (HKr.out.keeps ((AJ.refl B Oa wr).stored HOr.out (by simp[Oa]) _ _))
   have AIN:=Lib.hid (HPx.out.old (show DW B wr.heap.size Oa wr (wr.setCell ⟨g,k*9+8,none⟩ (.int .i64 (nb:Int))) from (DW.refl _ _ _ _).keeps ((AJ.refl B Oa wr).stored HOr.out (by simp[Oa]) _ _)))
   clear hset hn1 hn2 hnb hgx hpx hsg hsl AE7 hsn hxk hHk hTk HT HOr HKr HPx hx hxm
   go_upto_region 6 with fail
   generalize wr.setCell ⟨g,k*9+8,none⟩ (.int .i64 (nb:Int))=w2 at *
   obtain⟨d0,d1,d2,d3,d4,d5,d6,d7,d8⟩:=Wn Cz.out HSg.out
   have hB2:B0≤w2.heap.size:=by have:=F3.out.size;rw[←HB0.out]at this;exact this
   have HH:=Lib.hid (zG (setAt x nb) w2 HGx.out (AIN.out.at_.Ca nb))
   clear c8 f8 AIN
   go_wp2_with fail
   refine (HH.out).mono ?_
   rintro e w3 ⟨⟨vh,rfl,hoh⟩,hb3⟩
   obtain⟨Ah,ch,rfl,hh1,hh2,hh3,hh4⟩:=hoh.slice
   have Hh3:=Lib.hid (show BI w3 Ah (Cu x.e) from hh3)
   have Hh4:=Lib.hid (show Ah=none→(Cu x.e).length=0 from hh4)
   have HT3:=Lib.hid (HT2.out.keep hb3)
   have Xh:=Lib.hid (AP Cz.out hb3)
   have NT:=Lib.hid (F3.out.below (hb3.mono hB2) hB)
   have hB3:B0≤w3.heap.size:=Nat.le_trans hB2 hb3.size
   clear hoh hb3 hh3 hh4 HH HT2 Cz F3 d0 d1 d2 d3 d4 d5 d6 d7 d8
   rw[show (Cu (setAt x nb).e).length=(Cu x.e).length from rfl]
   obtain⟨Hx,hHx⟩:∃ Hx,Hx=Cu x.e:=⟨_,rfl⟩
   rw[←hHx]at Hh3 Hh4 sI⊢
   have ALT:Hx.length≤1000000:=by rw[hHx];exact hth.1
   obtain⟨hxl,AE8⟩:∃ n,n=Hx.length:=⟨_,rfl⟩
   rw[←AE8]at Hh4 ALT⊢
   have AIO:=Lib.hid AE8.symm
   clear AE8 hHx
   go_wp2_with (at_builtin;refine AY _ rfl (.tmp 18) (.tmp 23) _ rfl B0 5 _ 1 1 zH _ nb (Hk.map Eh) rfl (by have:=HT3.out.one;unfold BN at this;rw[←YC.out]at this;exact this) Ah hxl ch (Hx.map Eh) rfl (by rw[List.length_map,AIO.out,Nat.mul_one]) Hh3.out (Ia Hx) Hh4.out (by unfold maxLen;omega) (by omega) hB3 ?_;intro v4 w4 DJ hg4 ACr;have SK:BN w4 B0 v4 (Hk++Hx):=(by unfold BN;rw[List.length_append,List.map_append,←YC.out,AIO.out];exact DJ);have Jz:=Lib.hid (HT3.out.grown SK (by rw[←YC.out];exact hg4) (by rw[←YC.out];exact ACr));have KQ:=Lib.hid (Cx.LX Xh.out HT3.out.one (by rw[←YC.out];exact hg4) (by decide));have qZ:=Lib.hid (own_below HT3.out.one (by rw[←YC.out];exact hg4) (Below.refl B0 w3) hB3);have J5:=Lib.hid (NT.out.below qZ.out hB);have hB4:B0≤w4.heap.size:=Nat.le_trans hB3 qZ.out.size;obtain⟨d0,d1,d2,d3,d4,d5,d6,d7,d8⟩:=Wn KQ.out HSg.out;clear DJ hg4 ACr SK)
   have AIP:=HXw.out.old (by rw[←HB0.out];exact J5.out)
   have HH:=Lib.hid (qa (setAt x nb) w4 HGx.out (AIP.at_.Ca nb) (by show nb < 4294967296;omega))
   obtain⟨At,ct,rfl,ht1,ht2,_,_⟩:=Jz.out.two.slice
   obtain⟨ntk,AE9⟩:∃ n,n=Tk.length:=⟨_,rfl⟩
   rw[←AE9]at ht1 hht⊢
   have qb:=Lib.hid AE9
   clear AIP AE9 HT3 Xh NT qZ Hh3 Hh4
   go_wp2_with fail
   refine (HH.out).mono ?_
   rintro e w5 ⟨⟨vt,rfl,hot⟩,hb5⟩
   obtain⟨Ay,cy,rfl,hy1,hy2,hy3,hy4⟩:=hot.slice
   have Hy3:=Lib.hid (show BI w5 Ay (EP x.e nb) from hy3)
   have Hy4:=Lib.hid (show Ay=none→(EP x.e nb).length=0 from hy4)
   have Nu:=Lib.hid (Jz.out.symm.keep hb5)
   have YY:=Lib.hid (AP KQ.out hb5)
   have MM:=Lib.hid (J5.out.below (hb5.mono hB4) hB)
   have hB5:B0≤w5.heap.size:=Nat.le_trans hB4 hb5.size
   clear hot hb5 hy3 hy4 HH Jz KQ J5 d0 d1 d2 d3 d4 d5 d6 d7 d8
   rw[show (EP (setAt x nb).e (setAt x nb).at_).length=(EP x.e nb).length from rfl]
   obtain⟨Ty,hTy⟩:∃ Ty,Ty=EP x.e nb:=⟨_,rfl⟩
   rw[←hTy]at Hy3 Hy4 rY⊢
   have ALU:Ty.length≤1000000:=by rw[hTy];exact hth.2
   obtain⟨hyl,AFA⟩:∃ n,n=Ty.length:=⟨_,rfl⟩
   rw[←AFA]at Hy4 ALU⊢
   have AIQ:=Lib.hid AFA.symm
   clear AFA hTy
   go_wp2_with (at_builtin;refine AY _ rfl (.tmp 25) (.tmp 30) _ rfl B0 5 _ 1 1 zH _ ntk (Tk.map Eh) rfl (by have:=Nu.out.one;unfold BN at this;rw[←qb.out]at this;exact this) Ay hyl cy (Ty.map Eh) rfl (by rw[List.length_map,AIQ.out,Nat.mul_one]) Hy3.out (Ia Ty) Hy4.out (by unfold maxLen;omega) (by omega) hB5 ?_;intro v6 w6 hown6 IJ ACs;have R6:BN w6 B0 v6 (Tk++Ty):=(by unfold BN;rw[List.length_append,List.map_append,←qb.out,AIQ.out];exact hown6);have VC:=Lib.hid (Nu.out.grown R6 (by rw[←qb.out];exact IJ) (by rw[←qb.out];exact ACs));have OD:=Lib.hid (Cx.LX YY.out Nu.out.one (by rw[←qb.out];exact IJ) (by decide));have Hk6:=Lib.hid (own_below Nu.out.one (by rw[←qb.out];exact IJ) (Below.refl B0 w5) hB5);have Lf:=Lib.hid (MM.out.below Hk6.out hB);clear hown6 IJ ACs R6)
   go_roundw
   case rel=>exact⟨k+1,by omega,by go_num,by rw[sI.out,rY.out];exact VC.out.symm,OD.out,Lf.out⟩
   case measure=>simp[intOf];omega
  ·have hlt':¬ (k:Int) < (n:Int):=by omega
   obtain rfl:k=n:=by omega
   have htk:l.take k=l:=by rw[Hn.out];exact List.take_length
   have hst:JQ l k=ME l 0:=by unfold JQ;rw[htk,Hn.out,List.drop_length,List.append_nil]
   rw[htk]at HT
   rw[hst]at HOr
   have hle:(laidB (Cr l)).length=(Bi (Cr l)).length+(Bc (Cr l) 0).length+22:=by
    have e:laidB (Cr l)=Bi (Cr l)++Bc (Cr l) 0++Im (Cr l):=rfl
    rw[e,List.length_append,List.length_append,NQ]
   have hen:Im (Cr l)=Ai 4 101010256++Ai 4 0++Ai 2 k++Ai 2 k++Ai 4 (Bc (Cr l) 0).length++Ai 4 (Bi (Cr l)).length++Ai 2 0:=by
    unfold Im Cr;rw[List.length_map,←Hn.out]
   have hla:laidB (Cr l)=Bi (Cr l)++Bc (Cr l) 0++Im (Cr l):=rfl
   rw[hen]at hla
   have hz:=Hz.out
   have HLa:=Lib.hid hla
   obtain⟨Hk,hHk⟩:∃ H,H=Bi (Cr l):=⟨_,rfl⟩
   obtain⟨Tk,hTk⟩:∃ T,T=Bc (Cr l) 0:=⟨_,rfl⟩
   rw[←hHk,←hTk]at HT HLa hle
   obtain⟨L,hL⟩:∃ L,L=laidB (Cr l):=⟨_,rfl⟩
   rw[←hL]at HLa hle hz
   have HL:=Lib.hid hL
   clear htk hst hen hla hHk hTk hL
   obtain⟨nb,hnb⟩:∃ n,n=Hk.length:=⟨_,rfl⟩
   obtain⟨nt,hnt⟩:∃ n,n=Tk.length:=⟨_,rfl⟩
   obtain⟨Ab,cb,rfl,hb1,hb2,_,_⟩:=HT.out.one.slice
   obtain⟨At,ct,rfl,ht1,ht2,ht3,ht4⟩:=HT.out.two.slice
   rw[←hnb,←hnt]at HLa hle
   rw[←hnb]at hb1⊢
   rw[←hnt]at ht1 ht4⊢
   have YC:=Lib.hid hnb
   have WQ:=Lib.hid hnt
   have Ht3:=Lib.hid ht3
   have Ht4:=Lib.hid ht4
   have hBr:B0≤wr.heap.size:=by have:=HKr.out.size;rw[←HB0.out]at this;exact this
   obtain⟨X1,hX1⟩:∃ X,X=Hk++Tk:=⟨_,rfl⟩
   have hx1:X1.length=nb+nt:=by rw[hX1,List.length_append,←hnb,←hnt]
   rw[←hX1]at HLa
   have HX1:=Lib.hid hX1
   clear ht3 ht4 hnb hnt hX1
   go_wp2_with (at_builtin;refine AY _ rfl (.tmp 35) (.tmp 36) _ rfl B0 5 _ 1 1 zH _ nb (Hk.map Eh) rfl (by have:=HT.out.one;unfold BN at this;rw[←YC.out]at this;exact this) At nt ct (Tk.map Eh) rfl (by rw[List.length_map,←WQ.out,Nat.mul_one]) Ht3.out (Ia Tk) Ht4.out (by unfold maxLen;omega) (by omega) hBr ?_;intro v1 w1 hown1 hg1 AIR;have ho1:BN w1 B0 v1 X1:=(by unfold BN;rw[HX1.out,List.length_append,List.map_append,←YC.out,←WQ.out];exact hown1);have Hb1:=Lib.hid (own_below HT.out.one (by rw[←YC.out];exact hg1) (Below.refl B0 wr) hBr);have Ob:B0≤w1.heap.size:=Nat.le_trans hBr Hb1.out.size;clear hown1 hg1 AIR)
   have sI:=Lib.hid (EC B0 v1 _ 101010256 4 101010256 4 w1 ho1 Ob rfl rfl (by omega) (by omega) (by omega))
   clear ho1
   refine (sI.out).mono ?_
   rintro e w2 ⟨⟨v2,rfl,ho2⟩,hb2⟩
   have Hb2:=Lib.hid (Hb1.out.trans hb2)
   have Oc:B0≤w2.heap.size:=Nat.le_trans Ob hb2.size
   clear hb2 sI Hb1 Ob
   have rY:=Lib.hid (EC B0 v2 _ 0 4 0 4 w2 ho2 Oc rfl rfl (by omega) (by omega) (by simp only[List.length_append,Ae];omega))
   clear ho2
   go_wp2_with fail
   refine (rY.out).mono ?_
   rintro e w3 ⟨⟨v3,rfl,ho3⟩,hb3⟩
   have Hb3:=Lib.hid (Hb2.out.trans hb3)
   have Ph:B0≤w3.heap.size:=Nat.le_trans Oc hb3.size
   clear hb3 rY Hb2 Oc
   have HN3:=Lib.hid (EC B0 v3 _ k 2 (k:Int) 2 w3 ho3 Ph rfl rfl (by omega) (by omega) (by simp only[List.length_append,Ae];omega))
   clear ho3
   go_wp2_with fail
   refine (HN3.out).mono ?_
   rintro e w4 ⟨⟨v4,rfl,SK⟩,hb4⟩
   have Hb4:=Lib.hid (Hb3.out.trans hb4)
   have NV:B0≤w4.heap.size:=Nat.le_trans Ph hb4.size
   clear hb4 HN3 Hb3 Ph
   have HN4:=Lib.hid (EC B0 v4 _ k 2 (k:Int) 2 w4 SK NV rfl rfl (by omega) (by omega) (by simp only[List.length_append,Ae];omega))
   clear SK
   go_wp2_with fail
   refine (HN4.out).mono ?_
   rintro e w5 ⟨⟨v5,rfl,RJ⟩,hb5⟩
   have Hb5:=Lib.hid (Hb4.out.trans hb5)
   have Od:B0≤w5.heap.size:=Nat.le_trans NV hb5.size
   clear hb5 HN4 Hb4 NV
   have HN5:=Lib.hid (EC B0 v5 _ nt 4 (nt:Int) 4 w5 RJ Od rfl rfl (by omega) (by omega) (by simp only[List.length_append,Ae];omega))
   clear RJ
   go_wp2_with fail
   refine (HN5.out).mono ?_
   rintro e w6 ⟨⟨v6,rfl,R6⟩,hb6⟩
   have Jc:=Lib.hid (Hb5.out.trans hb6)
   have RY:B0≤w6.heap.size:=Nat.le_trans Od hb6.size
   clear hb6 HN5 Hb5 Od
   have HN6:=Lib.hid (EC B0 v6 _ nb 4 (nb:Int) 4 w6 R6 RY rfl rfl (by omega) (by omega) (by simp only[List.length_append,Ae];omega))
   clear R6
   go_wp2_with fail
   refine (HN6.out).mono ?_
   rintro e w7 ⟨⟨v7,rfl,lW⟩,Iu⟩
   have FR:=Lib.hid (Jc.out.trans Iu)
   have YQ:B0≤w7.heap.size:=Nat.le_trans RY Iu.size
   clear Iu HN6 Jc RY
   have HN7:=Lib.hid (EC B0 v7 _ 0 2 0 2 w7 lW YQ rfl rfl (by omega) (by omega) (by simp only[List.length_append,Ae];omega))
   clear lW
   go_wp2_with fail
   refine (HN7.out).mono ?_
   rintro e w8 ⟨⟨v8,rfl,ho8⟩,Kk⟩
   have EJ:=Lib.hid (FR.out.trans Kk)
   have ABw:B0≤w8.heap.size:=Nat.le_trans YQ Kk.size
   clear Kk HN7 FR YQ
   go_wp2_with fail
   go_ret
   refine⟨⟨_,rfl,?_⟩,?_,HKr.out.below EJ.out hB⟩
   ·rw[←HL.out,HLa.out]
    simp only[List.append_assoc]at ho8⊢;exact ho8
   ·exact zF HOr.out (fun b hb=>by have:=(HO.out.lt b (by simpa using hb)).2;rw[←HB0.out]at this;exact this) EJ.out
end Go.Proofs.YtabdianhoabhhaaGreatDoor.Zip
namespace Go.Proofs.YtabdianhoabhhaaGreatDoor.Zip
open Go.Proofs.YtabdianhoabhhaaGreatDoor.Merge Go.Proofs.YtabdianhoabhhaaGreatDoor.Inf Go.Proofs.YtabdianhoabhhaaGreatDoor.Bits Go.Proofs.YtabdianhoabhhaaGreatDoor.Code
set_option linter.unusedVariables false
set_option linter.unusedSimpArgs false
def cZ {α:Type} (out:α→List UInt8) (r:Inf.Rd α):Prop:=∀ a,r=.ok a→(out a).length≤3000
theorem Gv {α:Type} {out:α→List UInt8} {z:Int}:cZ out (.bad z):=fun a h=>by cases h
theorem IU {α:Type} {out:α→List UInt8} {a:α} (h:(out a).length≤3000):cZ out (.ok a):=fun b e=>by injection e with e;subst e;exact h
theorem Cn {α β:Type} {out:β→List UInt8} {r:Inf.Rd α} {f:α→Inf.Rd β} (h:∀ a,r=.ok a→cZ out (f a)):cZ out (r.Ag f):=by
 cases r with
 | bad z=>exact Gv
 | ok a=>exact h a rfl
theorem Fg {α:Type} {out:α→List UInt8} {c:Prop} [Decidable c] {r s:Inf.Rd α} (h:cZ out r) (k:cZ out s):cZ out (if c then r else s):=by split <;> assumption
theorem U0 (o:List UInt8) (x:UInt8) (h:o.length≤3000):cZ (fun a=>a) (Ef o x):=by
 unfold Ef
 split
 ·exact Gv
 ·refine IU ?_
  rw[List.length_append,List.length_cons,List.length_nil];omega
theorem lH (row:List Bool):∀ (n p:Nat) (o:List UInt8),o.length≤3000→cZ (fun a:Nat×List UInt8=>a.2) (Ig row n p o)
 | 0,p,o,h=>IU h
 | n+1,p,o,h=>by
  unfold Ig
  exact Cn fun x _=>Cn fun o' ho=>lH row n _ o' (U0 o _ h o' ho)
theorem bR (d:Nat):∀ (n:Nat) (o:List UInt8),o.length≤3000→cZ (fun a=>a) (JD d n o)
 | 0,o,h=>IU h
 | n+1,o,h=>by
  unfold JD
  exact Cn fun o' ho=>bR d n o' (U0 o _ h o' ho)
theorem za (row:List Bool) (lit far:List Nat) (p:Nat) (o:List UInt8) (h:o.length≤3000):cZ (fun a:Bool×Nat×List UInt8=>a.2.2) (CQ row lit far p o):=by
 unfold CQ
 refine Cn fun k _=>Fg (Cn fun o' ho=>IU (U0 o _ h o' ho)) (Fg (IU h) (Fg Gv (Cn fun x _=>Cn fun f _=>Fg Gv (Cn fun y _=>Fg Gv (Cn fun o' ho=>IU (bR _ _ o h o' ho))))))
theorem U3 (row:List Bool) (lit far:List Nat):∀ (f p:Nat) (o:List UInt8),o.length≤3000→cZ (fun a:Nat×List UInt8=>a.2) (Ew row lit far f p o)
 | 0,p,o,h=>Gv
 | f+1,p,o,h=>by
  unfold Ew
  refine Cn fun x hx=>?_
  have hs:=za row lit far p o h x hx
  exact Fg (IU hs) (U3 row lit far f _ _ hs)
theorem qo (row:List Bool) (p:Nat) (o:List UInt8) (h:o.length≤3000):cZ (fun a:Bool×Nat×Nat×List UInt8=>a.2.2.2) (Eb row p o):=by
 unfold Eb
 refine Cn fun l _=>Cn fun k _=>Fg (Cn fun x hx=>IU ?_) (Fg (Cn fun x hx=>IU ?_) (Fg (Cn fun hd _=>Cn fun x hx=>IU ?_) Gv))
 ·unfold Fe at hx
  revert hx
  have:cZ (fun a:Nat×List UInt8=>a.2) (Fe row k.2 o):=by
   unfold Fe
   exact Cn fun a _=>Cn fun b _=>Fg Gv (lH row _ _ o h)
  intro hx
  exact this x hx
 ·exact U3 row _ _ _ _ o h x hx
 ·exact U3 row _ _ _ _ o h x hx
theorem U4 (row:List Bool):∀ (f p:Nat) (o:List UInt8) (ks:List Nat),o.length≤3000→cZ (fun a:Nat×List UInt8×List Nat=>a.2.1) (Dq row f p o ks)
 | 0,p,o,ks,h=>Gv
 | f+1,p,o,ks,h=>by
  unfold Dq
  refine Cn fun x hx=>?_
  have hb:=qo row p o h x hx
  exact Fg (IU hb) (U4 row f _ _ _ hb)
theorem ic {b out:List UInt8} {us:Nat} {ks:List Nat} (h:CF b=.ok (out,us,ks)):out.length≤3000:=by
 have:cZ (fun a:List UInt8×Nat×List Nat=>a.1) (CF b):=by
  unfold CF
  exact Fg Gv (Cn fun x hx=>IU (U4 _ _ _ [] [] (by simp) x hx))
 exact this _ h
theorem Wt {m:Nat} {pk bs:List UInt8} (h:FQ m pk=some bs):bs.length≤max 3000 pk.length:=by
 unfold FQ at h
 split at h
 ·injection h with h;subst h;omega
 ·split at h
  ·split at h
   ·rename_i a ha
    split at h
    ·injection h with h
     subst h
     obtain⟨o,us,ks⟩:=a
     have:=ic ha
     dsimp only;omega
    ·cases h
   ·cases h
  ·cases h
def lastB (b:List UInt8):List UInt8:=b.drop (b.length - 22)
end Go.Proofs.YtabdianhoabhhaaGreatDoor.Zip
namespace Go.Proofs.YtabdianhoabhhaaGreatDoor.Zip
open Go.Proofs.YtabdianhoabhhaaGreatDoor.Merge Go.Proofs.YtabdianhoabhhaaGreatDoor.Inf Go.Proofs.YtabdianhoabhhaaGreatDoor.AV Go.Proofs.YtabdianhoabhhaaGreatDoor.Bits Go.Proofs.YtabdianhoabhhaaGreatDoor.Rt
set_option linter.unusedVariables false
def Bw (xs:List UInt8):List UInt8:=(Bg xs 3).1
theorem JI:KN Bw:=fun xs h1 h2=>by
 obtain⟨k,hk⟩:=Gz.Vx xs [] h1 (by rw[List.append_nil];show (Bw xs).length≤6000;omega)
 rw[List.append_nil]at hk
 exact⟨[k],hk⟩
theorem zI (xs:List UInt8):2≤(Bw xs).length:=by
 obtain⟨k,hk,h⟩:=Gz.Vw xs
 have e:DI [xs] [k] 1=Lu 0 xs k true:=by
  have:=Gh [xs] [k] 0
  rw[this]
  rfl
 have hl:(Cw [xs] [k]).length=((Lu 0 xs k true).length+7) / 8:=by
  show (pack (DI [xs] [k] 1)).length=_
  rw[BL,e]
 unfold Bw
 rw[h]
 show 2≤(Cw [xs] [k]).length
 rw[hl]
 have h9:9≤(Lu 0 xs k true).length:=by
  unfold Lu
  by_cases h0:k=0
  ·rw[if_pos h0]
   simp only[List.length_append,List.length_cons,List.length_nil,AL,List.length_replicate]
   omega
  ·rw[if_neg h0]
   by_cases h1:k=1
   ·rw[if_pos h1]
    have:7≤(En (Match.toks xs) BU Co).length:=by
     unfold En
     rw[List.length_append,Bz]
     have:BU.getD 256 0=7:=by decide +kernel
     omega
    simp only[List.length_append,List.length_cons,List.length_nil,AL]
    omega
   ·rw[if_neg h1]
    have:14≤(C8 (Ck (Match.toks xs)).1 (Ck (Match.toks xs)).2).length:=by
     rw[MJ]
     simp only[List.length_append,AL]
     omega
    simp only[List.length_append,List.length_cons,List.length_nil,AL]
    omega
 omega
theorem aG (f:Fl) (h:f.bytes.length≤2):FL Bw f =⟨f,0,f.bytes,GR f.bytes⟩:=by
 have:=zI f.bytes
 unfold FL
 rw[if_neg (by omega)]
end Go.Proofs.YtabdianhoabhhaaGreatDoor.Zip
namespace Go.Proofs.YtabdianhoabhhaaGreatDoor.Zip
open Go Go.RowKit Go.Proofs.YtabdianhoabhhaaGreatDoor Go.Proofs.YtabdianhoabhhaaGreatDoor.Bits Go.Proofs.YtabdianhoabhhaaGreatDoor.Merge Go.Proofs.YtabdianhoabhhaaGreatDoor.Name Go.Proofs.YtabdianhoabhhaaGreatDoor.AV
set_option linter.unusedVariables false
set_option linter.unusedSimpArgs false
theorem Gu {P:Program} {fn:Func} {p:Tmp} {ty:TypeId} (h:fn.results=#[.cell p ty]) (tmps:Array Value) (w:World) (g:Nat) (t:TypeId) (cs:Array Value) (fr:Nat×Nat) (d:TypeDesc)
  (hp:tmps.getD p undef=.pointer (some ⟨g,0,none⟩)) (hg:w.heap[g]?=some (.cells cs t fr))
  (hu:P.underlying ty=some d) (hd:(match d with | .struct _ | .array _ _=>true | _=>false)=true) (hi:(P.info? ty).map (·.size)=some cs.size) :
  (results fn tmps).run P w=.ok (.agg cs) w:=by
 have hp':tmps[p]?.getD undef=.pointer (some ⟨g,0,none⟩):=by simpa using hp
 simp[results,h,hp',asAddr,run_loadVar_row w g t ty cs fr d hg hu hd hi]
theorem Pj {w:World} {g:Nat} {t:TypeId} {a0 a1 a2 a3 a4 a5 a6 a7 a8:Value} (h:AV w g t #[a0,a1,a2,a3,a4,a5,a6,a7,a8]) (b0 b1 b2 b3 b4 b5 b6 b7 b8:Value):AV (((((((((w.setCell ⟨g,0,none⟩ b0).setCell ⟨g,1,none⟩ b1).setCell ⟨g,2,none⟩ b2).setCell ⟨g,3,none⟩ b3).setCell ⟨g,4,none⟩ b4).setCell ⟨g,5,none⟩ b5).setCell ⟨g,6,none⟩ b6).setCell ⟨g,7,none⟩ b7).setCell ⟨g,8,none⟩ b8) g t #[b0,b1,b2,b3,b4,b5,b6,b7,b8]:=by
 have h0:AV (w.setCell ⟨g,0,none⟩ b0) g t #[b0,a1,a2,a3,a4,a5,a6,a7,a8]:=h.Ca 0 b0
 have h1:AV ((w.setCell ⟨g,0,none⟩ b0).setCell ⟨g,1,none⟩ b1) g t #[b0,b1,a2,a3,a4,a5,a6,a7,a8]:=h0.Ca 1 b1
 have h2:AV (((w.setCell ⟨g,0,none⟩ b0).setCell ⟨g,1,none⟩ b1).setCell ⟨g,2,none⟩ b2) g t #[b0,b1,b2,a3,a4,a5,a6,a7,a8]:=h1.Ca 2 b2
 have h3:AV ((((w.setCell ⟨g,0,none⟩ b0).setCell ⟨g,1,none⟩ b1).setCell ⟨g,2,none⟩ b2).setCell ⟨g,3,none⟩ b3) g t #[b0,b1,b2,b3,a4,a5,a6,a7,a8]:=h2.Ca 3 b3
 have h4:AV (((((w.setCell ⟨g,0,none⟩ b0).setCell ⟨g,1,none⟩ b1).setCell ⟨g,2,none⟩ b2).setCell ⟨g,3,none⟩ b3).setCell ⟨g,4,none⟩ b4) g t #[b0,b1,b2,b3,b4,a5,a6,a7,a8]:=h3.Ca 4 b4
 have h5:AV ((((((w.setCell ⟨g,0,none⟩ b0).setCell ⟨g,1,none⟩ b1).setCell ⟨g,2,none⟩ b2).setCell ⟨g,3,none⟩ b3).setCell ⟨g,4,none⟩ b4).setCell ⟨g,5,none⟩ b5) g t #[b0,b1,b2,b3,b4,b5,a6,a7,a8]:=h4.Ca 5 b5
 have h6:AV (((((((w.setCell ⟨g,0,none⟩ b0).setCell ⟨g,1,none⟩ b1).setCell ⟨g,2,none⟩ b2).setCell ⟨g,3,none⟩ b3).setCell ⟨g,4,none⟩ b4).setCell ⟨g,5,none⟩ b5).setCell ⟨g,6,none⟩ b6) g t #[b0,b1,b2,b3,b4,b5,b6,a7,a8]:=h5.Ca 6 b6
 have h7:AV ((((((((w.setCell ⟨g,0,none⟩ b0).setCell ⟨g,1,none⟩ b1).setCell ⟨g,2,none⟩ b2).setCell ⟨g,3,none⟩ b3).setCell ⟨g,4,none⟩ b4).setCell ⟨g,5,none⟩ b5).setCell ⟨g,6,none⟩ b6).setCell ⟨g,7,none⟩ b7) g t #[b0,b1,b2,b3,b4,b5,b6,b7,a8]:=h6.Ca 7 b7
 have h8:AV (((((((((w.setCell ⟨g,0,none⟩ b0).setCell ⟨g,1,none⟩ b1).setCell ⟨g,2,none⟩ b2).setCell ⟨g,3,none⟩ b3).setCell ⟨g,4,none⟩ b4).setCell ⟨g,5,none⟩ b5).setCell ⟨g,6,none⟩ b6).setCell ⟨g,7,none⟩ b7).setCell ⟨g,8,none⟩ b8) g t #[b0,b1,b2,b3,b4,b5,b6,b7,b8]:=h7.Ca 8 b8
 exact h8
theorem Uv {w0 w:World} {B g:Nat} (h:Below B w0 w) (hg:B≤g) (b0 b1 b2 b3 b4 b5 b6 b7 b8:Value):Below B w0 (((((((((w.setCell ⟨g,0,none⟩ b0).setCell ⟨g,1,none⟩ b1).setCell ⟨g,2,none⟩ b2).setCell ⟨g,3,none⟩ b3).setCell ⟨g,4,none⟩ b4).setCell ⟨g,5,none⟩ b5).setCell ⟨g,6,none⟩ b6).setCell ⟨g,7,none⟩ b7).setCell ⟨g,8,none⟩ b8):=(((((((((h.setCell (p:=⟨g,0,none⟩) hg b0).setCell (p:=⟨g,1,none⟩) hg b1).setCell (p:=⟨g,2,none⟩) hg b2).setCell (p:=⟨g,3,none⟩) hg b3).setCell (p:=⟨g,4,none⟩) hg b4).setCell (p:=⟨g,5,none⟩) hg b5).setCell (p:=⟨g,6,none⟩) hg b6).setCell (p:=⟨g,7,none⟩) hg b7).setCell (p:=⟨g,8,none⟩) hg b8)
theorem Un {w:World} {base:Nat} {e:TypeId} {size n g:Nat} {v:Value} {xs:List Value} (h:w.ownsRow base e size v n xs) (hg:g < base) (b0 b1 b2 b3 b4 b5 b6 b7 b8:Value):(((((((((w.setCell ⟨g,0,none⟩ b0).setCell ⟨g,1,none⟩ b1).setCell ⟨g,2,none⟩ b2).setCell ⟨g,3,none⟩ b3).setCell ⟨g,4,none⟩ b4).setCell ⟨g,5,none⟩ b5).setCell ⟨g,6,none⟩ b6).setCell ⟨g,7,none⟩ b7).setCell ⟨g,8,none⟩ b8).ownsRow base e size v n xs:=(ownsRow_setCell_below (ownsRow_setCell_below (ownsRow_setCell_below (ownsRow_setCell_below (ownsRow_setCell_below (ownsRow_setCell_below (ownsRow_setCell_below (ownsRow_setCell_below (ownsRow_setCell_below h (a:=⟨g,0,none⟩) hg b0) (a:=⟨g,1,none⟩) hg b1) (a:=⟨g,2,none⟩) hg b2) (a:=⟨g,3,none⟩) hg b3) (a:=⟨g,4,none⟩) hg b4) (a:=⟨g,5,none⟩) hg b5) (a:=⟨g,6,none⟩) hg b6) (a:=⟨g,7,none⟩) hg b7) (a:=⟨g,8,none⟩) hg b8)
set_option maxRecDepth 100000 in
set_option maxHeartbeats 1600000 in
theorem eZ (x:Fx) (w:World) (hx:D9 w x) (h3:x.1.bytes.length≤3000) :
  Calls Tryz.prog 45 #[fV x] w fun e w'=>(∃ pk:YW,e=.returned (eV ⟨FL Bw x.1,x.2,pk,0⟩)∧((pk=x.2∧(FL Bw x.1).packed=x.1.bytes)∨BN w' w.heap.size (Cm pk) (FL Bw x.1).packed))∧Below w.heap.size w w':=by
 have HX:=Lib.hid hx
 obtain⟨⟨name,bytes,stamp,node,gone⟩,⟨bA,bn,bc⟩⟩:=x
 have hbn:bn=bytes.length:=hx.len
 have hbc:bytes.length≤bc:=hx.room
 have hcm:bc≤maxLen:=hx.cap
 unfold maxLen at hcm
 rw[←hbn]at hbc
 have lS:=Lib.hid hbn
 dsimp only at h3
 rw[←hbn]at h3
 unfold fV Cm
 dsimp only
 have HA:Hid (BI w bA bytes):=Lib.hid hx.at_
 clear hx hbn
 go_enter Tryz.func45,Tryz.ntmps45
 go_upto_region 2 with fail
 have hF:=((AV.new w 36 #[.string (Name.AR name),.slice bA bn bc,.int .i64 stamp,.int .i64 node,.bool gone]).alloc (.cells #[.string ⟨#[]⟩,.slice none 0 0,.int .i64 0,.int .i64 0,.bool false,.int .i64 0,.slice none 0 0,.int .u32 0,.int .i64 0] 78)).alloc (.cells #[.string (Name.AR name),.slice bA bn bc,.int .i64 stamp,.int .i64 node,.bool gone,.int .i64 0,.slice bA bn bc,.int .u32 0,.int .i64 0] 78)
 have hR:=(AV.new (w.alloc (.cells #[.string (Name.AR name),.slice bA bn bc,.int .i64 stamp,.int .i64 node,.bool gone] 36)) 78 #[.string ⟨#[]⟩,.slice none 0 0,.int .i64 0,.int .i64 0,.bool false,.int .i64 0,.slice none 0 0,.int .u32 0,.int .i64 0]).alloc (.cells #[.string (Name.AR name),.slice bA bn bc,.int .i64 stamp,.int .i64 node,.bool gone,.int .i64 0,.slice bA bn bc,.int .u32 0,.int .i64 0] 78)
 have hE:=AV.new ((w.alloc (.cells #[.string (Name.AR name),.slice bA bn bc,.int .i64 stamp,.int .i64 node,.bool gone] 36)).alloc (.cells #[.string ⟨#[]⟩,.slice none 0 0,.int .i64 0,.int .i64 0,.bool false,.int .i64 0,.slice none 0 0,.int .u32 0,.int .i64 0] 78)) 78 #[.string (Name.AR name),.slice bA bn bc,.int .i64 stamp,.int .i64 node,.bool gone,.int .i64 0,.slice bA bn bc,.int .u32 0,.int .i64 0]
 have hb:Below w.heap.size w (((w.alloc (.cells #[.string (Name.AR name),.slice bA bn bc,.int .i64 stamp,.int .i64 node,.bool gone] 36)).alloc (.cells #[.string ⟨#[]⟩,.slice none 0 0,.int .i64 0,.int .i64 0,.bool false,.int .i64 0,.slice none 0 0,.int .u32 0,.int .i64 0] 78)).alloc (.cells #[.string (Name.AR name),.slice bA bn bc,.int .i64 stamp,.int .i64 node,.bool gone,.int .i64 0,.slice bA bn bc,.int .u32 0,.int .i64 0] 78)):=
  (((Below.refl _ _).alloc (Nat.le_refl _) _).alloc (by simp only[World.size_alloc];omega) _).alloc (by simp only[World.size_alloc];omega) _
 simp only[World.size_alloc]at hF hR hE
 generalize (((w.alloc (.cells #[.string (Name.AR name),.slice bA bn bc,.int .i64 stamp,.int .i64 node,.bool gone] 36)).alloc (.cells #[.string ⟨#[]⟩,.slice none 0 0,.int .i64 0,.int .i64 0,.bool false,.int .i64 0,.slice none 0 0,.int .u32 0,.int .i64 0] 78)).alloc (.cells #[.string (Name.AR name),.slice bA bn bc,.int .i64 stamp,.int .i64 node,.bool gone,.int .i64 0,.slice bA bn bc,.int .u32 0,.int .i64 0] 78))=w1 at *
 obtain⟨g,hg⟩:∃ g,g=w.heap.size:=⟨_,rfl⟩
 rw[←hg]at hF hR hE hb⊢
 have Hg:=Lib.hid hg
 have YB:=Lib.hid hF
 have HR1:=Lib.hid hR
 have HE1:=Lib.hid hE
 have Hb1:=Lib.hid hb
 have hs1:g+1+1 < w1.heap.size:=hE.lt
 have f1:w1.cell? ⟨g,1,none⟩=some (.slice bA bn bc):=hF.cell 1
 have HA1:Hid (BI w1 bA bytes):=Lib.hid (BI.below HA.out (by rw[←hg];exact hb))
 have HC:=Lib.hid (Sum.YE 0#32 0 rfl bA bn bc bytes w1 lS.out.symm (by omega) HA1.out)
 clear hF hR hE hb hg
 go_wp2_with fail
 refine (HC.out).mono ?_
 rintro e w2 ⟨rfl,hb2⟩
 have zy:=Lib.hid (YB.out.below hb2 (by omega))
 have HR2:=Lib.hid (HR1.out.below hb2 (by omega))
 have HE2:=Lib.hid (HE1.out.below hb2 (by omega))
 have Hb2:=Lib.hid (Hb1.out.trans (hb2.mono (by omega)))
 have hs2:g+1+1 < w2.heap.size:=HE2.out.lt
 have f1:w2.cell? ⟨g,1,none⟩=some (.slice bA bn bc):=zy.out.cell 1
 have e7:w2.cell? ⟨g+1+1,7,none⟩=some (.int .u32 0):=HE2.out.cell 7
 have z7:=HE2.out.frozen 7
 have HA2:Hid (BI w2 bA bytes):=Lib.hid (HA1.out.below hb2)
 clear HC YB HR1 HE1 Hb1 HA1 hs1 hb2
 go_upto_region 3 with fail
 obtain⟨ci,hcv⟩:∃ ci:Int,ci=n32 (Sum.crc 0#32 bytes):=⟨_,rfl⟩
 rw[←hcv]
 have Hcv:=Lib.hid (show ci=((GR bytes:Nat):Int) from hcv)
 have mq:=Lib.hid (zy.out.far (p:=⟨g+1+1,7,none⟩) (by show g≠g+1+1;omega) (.int .u32 ci))
 have HR3:=Lib.hid (HR2.out.far (p:=⟨g+1+1,7,none⟩) (by show g+1≠g+1+1;omega) (.int .u32 ci))
 have zK:=Lib.hid (show AV (w2.setCell ⟨g+1+1,7,none⟩ (.int .u32 ci)) (g+1+1) 78 #[.string (Name.AR name),.slice bA bn bc,.int .i64 stamp,.int .i64 node,.bool gone,.int .i64 0,.slice bA bn bc,.int .u32 ci,.int .i64 0] from HE2.out.Ca 7 (.int .u32 ci))
 have Hb3:=Lib.hid (Hb2.out.setCell (p:=⟨g+1+1,7,none⟩) (by show g≤g+1+1;omega) (.int .u32 ci))
 clear hcv e7 z7 f1 HA2 zy HR2 HE2 Hb2
 generalize w2.setCell ⟨g+1+1,7,none⟩ (.int .u32 ci)=w3 at *
 have hs3:g+1+1 < w3.heap.size:=zK.out.lt
 have f1:w3.cell? ⟨g,1,none⟩=some (.slice bA bn bc):=mq.out.cell 1
 have HA3:Hid (BI w3 bA bytes):=Lib.hid (BI.below HA.out (by rw[←Hg.out];exact Hb3.out))
 have HB:=Lib.hid (rX bA bn bc bytes w3 lS.out.symm hbc (by unfold maxLen;omega) HA3.out)
 clear hs2
 go_wp2_with fail
 refine (HB.out).mono ?_
 rintro e w4 ⟨hh,hb4⟩
 rcases hh with ⟨h4,_⟩ | ⟨_,v4,rfl,SK⟩
 ·omega
 obtain⟨A4,c4,rfl,h41,h42,hs4,hz4⟩:=Ad SK
 obtain⟨PB,hPB⟩:∃ PB,PB=(Bg bytes 3).1:=⟨_,rfl⟩
 rw[←hPB]at SK h41 hs4 hz4⊢
 have KQ:=Lib.hid SK
 have HPB:=Lib.hid (show PB=Bw bytes from hPB)
 have HF4:=Lib.hid (mq.out.below hb4 (by omega))
 have HR4:=Lib.hid (HR3.out.below hb4 (by omega))
 have Ps:=Lib.hid (zK.out.below hb4 (by omega))
 have Hb4:=Lib.hid (Hb3.out.trans (hb4.mono (by omega)))
 have AOF:w3.heap.size≤w4.heap.size:=hb4.size
 have f1:w4.cell? ⟨g,1,none⟩=some (.slice bA bn bc):=HF4.out.cell 1
 obtain⟨np,hnp⟩:∃ np,np=PB.length:=⟨_,rfl⟩
 rw[←hnp]at SK h41 hz4⊢
 have Hnp:=Lib.hid hnp
 have H41:=Lib.hid h41
 have H42:=Lib.hid h42
 clear SK hs4 hz4 hPB HB mq zK HR3 Hb3 HA3 hb4 hnp
 generalize (Bg bytes 3).2=kd at *
 by_cases hlt:np < bn
 ·have hlt':(np:Int) < (bn:Int):=by omega
  have e5:w4.cell? ⟨g+1+1,5,none⟩=some (.int .i64 0):=Ps.out.cell 5
  have e6:w4.cell? ⟨g+1+1,6,none⟩=some (.slice bA bn bc):=Ps.out.cell 6
  have z5:=Ps.out.frozen 5
  have z6:=Ps.out.frozen 6
  have rQ:=Lib.hid (show AV ((w4.setCell ⟨g+1+1,5,none⟩ (.int .i64 8)).setCell ⟨g+1+1,6,none⟩ (.slice A4 np c4)) (g+1+1) 78 #[.string (Name.AR name),.slice bA bn bc,.int .i64 stamp,.int .i64 node,.bool gone,.int .i64 8,.slice A4 np c4,.int .u32 ci,.int .i64 0] from (Ps.out.Ca 5 (.int .i64 8)).Ca 6 (.slice A4 np c4))
  have Lh:=Lib.hid ((HR4.out.far (p:=⟨g+1+1,5,none⟩) (by show g+1≠g+1+1;omega) (.int .i64 8)).far (p:=⟨g+1+1,6,none⟩) (by show g+1≠g+1+1;omega) (.slice A4 np c4))
  have Jc:=Lib.hid ((Hb4.out.setCell (p:=⟨g+1+1,5,none⟩) (by show g≤g+1+1;omega) (.int .i64 8)).setCell (p:=⟨g+1+1,6,none⟩) (by show g≤g+1+1;omega) (.slice A4 np c4))
  have OD:=Lib.hid (ownsRow_setCell_below (ownsRow_setCell_below KQ.out (a:=⟨g+1+1,5,none⟩) hs3 (.int .i64 8)) (a:=⟨g+1+1,6,none⟩) hs3 (.slice A4 np c4))
  go_upto_region 6 with fail
  clear e5 e6 z5 z6
  generalize (w4.setCell ⟨g+1+1,5,none⟩ (.int .i64 8)).setCell ⟨g+1+1,6,none⟩ (.slice A4 np c4)=w6 at *
  have e0:w6.cell? ⟨g+1+1,0,none⟩=some (.string (Name.AR name)):=rQ.out.cell 0
  have e1:w6.cell? ⟨g+1+1,1,none⟩=some (.slice bA bn bc):=rQ.out.cell 1
  have e2:w6.cell? ⟨g+1+1,2,none⟩=some (.int .i64 stamp):=rQ.out.cell 2
  have e3:w6.cell? ⟨g+1+1,3,none⟩=some (.int .i64 node):=rQ.out.cell 3
  have e4:w6.cell? ⟨g+1+1,4,none⟩=some (.bool gone):=rQ.out.cell 4
  have e5:w6.cell? ⟨g+1+1,5,none⟩=some (.int .i64 8):=rQ.out.cell 5
  have e6:w6.cell? ⟨g+1+1,6,none⟩=some (.slice A4 np c4):=rQ.out.cell 6
  have e7:w6.cell? ⟨g+1+1,7,none⟩=some (.int .u32 ci):=rQ.out.cell 7
  have e8:w6.cell? ⟨g+1+1,8,none⟩=some (.int .i64 0):=rQ.out.cell 8
  have q0:w6.cell? ⟨g+1,0,none⟩=some (.string ⟨#[]⟩):=Lh.out.cell 0
  have q1:w6.cell? ⟨g+1,1,none⟩=some (.slice none 0 0):=Lh.out.cell 1
  have q2:w6.cell? ⟨g+1,2,none⟩=some (.int .i64 0):=Lh.out.cell 2
  have q3:w6.cell? ⟨g+1,3,none⟩=some (.int .i64 0):=Lh.out.cell 3
  have q4:w6.cell? ⟨g+1,4,none⟩=some (.bool false):=Lh.out.cell 4
  have q5:w6.cell? ⟨g+1,5,none⟩=some (.int .i64 0):=Lh.out.cell 5
  have q6:w6.cell? ⟨g+1,6,none⟩=some (.slice none 0 0):=Lh.out.cell 6
  have q7:w6.cell? ⟨g+1,7,none⟩=some (.int .u32 0):=Lh.out.cell 7
  have q8:w6.cell? ⟨g+1,8,none⟩=some (.int .i64 0):=Lh.out.cell 8
  have z0:=Lh.out.frozen 0
  have z1:=Lh.out.frozen 1
  have z2:=Lh.out.frozen 2
  have z3:=Lh.out.frozen 3
  have z4:=Lh.out.frozen 4
  have z5:=Lh.out.frozen 5
  have z6:=Lh.out.frozen 6
  have z7:=Lh.out.frozen 7
  have z8:=Lh.out.frozen 8
  have Jw:=Lib.hid (Pj Lh.out (.string (Name.AR name)) (.slice bA bn bc) (.int .i64 stamp) (.int .i64 node) (.bool gone) (.int .i64 8) (.slice A4 np c4) (.int .u32 ci) (.int .i64 0))
  have Ee:=Lib.hid (Uv (g:=g+1) Jc.out (by omega) (.string (Name.AR name)) (.slice bA bn bc) (.int .i64 stamp) (.int .i64 node) (.bool gone) (.int .i64 8) (.slice A4 np c4) (.int .u32 ci) (.int .i64 0))
  go_wp2_with fail
  refine bodyPost_ret (Gu rfl _ _ (g+1) 78 #[.string (Name.AR name),.slice bA bn bc,.int .i64 stamp,.int .i64 node,.bool gone,.int .i64 8,.slice A4 np c4,.int .u32 ci,.int .i64 0] (0,0) _ rfl Jw.out Tryz.underlying78 rfl (by kernel_rfl)) rfl ?_
  have he:FL Bw ⟨name,bytes,stamp,node,gone⟩ =⟨⟨name,bytes,stamp,node,gone⟩,8,Bw bytes,GR bytes⟩:=by
   unfold FL
   rw[if_pos (by show (Bw bytes).length < bytes.length;rw[←HPB.out,←Hnp.out,←lS.out];exact hlt)]
  rw[he]
  refine⟨⟨(A4,np,c4),?_,.inr ?_⟩,by rw[←Hg.out];exact Ee.out⟩
  ·unfold eV Cm
   rw[Hcv.out];rfl
  ·have h2:=Un OD.out (show g+1 < w3.heap.size by omega) (.string (Name.AR name)) (.slice bA bn bc) (.int .i64 stamp) (.int .i64 node) (.bool gone) (.int .i64 8) (.slice A4 np c4) (.int .u32 ci) (.int .i64 0)
   rw[←HPB.out]
   unfold BN
   dsimp only
   rw[Hnp.out]at h2⊢
   exact AZ h2 (by rw[←Hg.out];omega)
 ·have hlt':¬ (np:Int) < (bn:Int):=by omega
  have e0:w4.cell? ⟨g+1+1,0,none⟩=some (.string (Name.AR name)):=Ps.out.cell 0
  have e1:w4.cell? ⟨g+1+1,1,none⟩=some (.slice bA bn bc):=Ps.out.cell 1
  have e2:w4.cell? ⟨g+1+1,2,none⟩=some (.int .i64 stamp):=Ps.out.cell 2
  have e3:w4.cell? ⟨g+1+1,3,none⟩=some (.int .i64 node):=Ps.out.cell 3
  have e4:w4.cell? ⟨g+1+1,4,none⟩=some (.bool gone):=Ps.out.cell 4
  have e5:w4.cell? ⟨g+1+1,5,none⟩=some (.int .i64 0):=Ps.out.cell 5
  have e6:w4.cell? ⟨g+1+1,6,none⟩=some (.slice bA bn bc):=Ps.out.cell 6
  have e7:w4.cell? ⟨g+1+1,7,none⟩=some (.int .u32 ci):=Ps.out.cell 7
  have e8:w4.cell? ⟨g+1+1,8,none⟩=some (.int .i64 0):=Ps.out.cell 8
  have q0:w4.cell? ⟨g+1,0,none⟩=some (.string ⟨#[]⟩):=HR4.out.cell 0
  have q1:w4.cell? ⟨g+1,1,none⟩=some (.slice none 0 0):=HR4.out.cell 1
  have q2:w4.cell? ⟨g+1,2,none⟩=some (.int .i64 0):=HR4.out.cell 2
  have q3:w4.cell? ⟨g+1,3,none⟩=some (.int .i64 0):=HR4.out.cell 3
  have q4:w4.cell? ⟨g+1,4,none⟩=some (.bool false):=HR4.out.cell 4
  have q5:w4.cell? ⟨g+1,5,none⟩=some (.int .i64 0):=HR4.out.cell 5
  have q6:w4.cell? ⟨g+1,6,none⟩=some (.slice none 0 0):=HR4.out.cell 6
  have q7:w4.cell? ⟨g+1,7,none⟩=some (.int .u32 0):=HR4.out.cell 7
  have q8:w4.cell? ⟨g+1,8,none⟩=some (.int .i64 0):=HR4.out.cell 8
  have z0:=HR4.out.frozen 0
  have z1:=HR4.out.frozen 1
  have z2:=HR4.out.frozen 2
  have z3:=HR4.out.frozen 3
  have z4:=HR4.out.frozen 4
  have z5:=HR4.out.frozen 5
  have z6:=HR4.out.frozen 6
  have z7:=HR4.out.frozen 7
  have z8:=HR4.out.frozen 8
  have Jw:=Lib.hid (Pj HR4.out (.string (Name.AR name)) (.slice bA bn bc) (.int .i64 stamp) (.int .i64 node) (.bool gone) (.int .i64 0) (.slice bA bn bc) (.int .u32 ci) (.int .i64 0))
  have Ee:=Lib.hid (Uv (g:=g+1) Hb4.out (by omega) (.string (Name.AR name)) (.slice bA bn bc) (.int .i64 stamp) (.int .i64 node) (.bool gone) (.int .i64 0) (.slice bA bn bc) (.int .u32 ci) (.int .i64 0))
  go_wp2_with fail
  refine bodyPost_ret (Gu rfl _ _ (g+1) 78 #[.string (Name.AR name),.slice bA bn bc,.int .i64 stamp,.int .i64 node,.bool gone,.int .i64 0,.slice bA bn bc,.int .u32 ci,.int .i64 0] (0,0) _ rfl Jw.out Tryz.underlying78 rfl (by kernel_rfl)) rfl ?_
  have he:FL Bw ⟨name,bytes,stamp,node,gone⟩ =⟨⟨name,bytes,stamp,node,gone⟩,0,bytes,GR bytes⟩:=by
   unfold FL
   rw[if_neg (by show ¬ (Bw bytes).length < bytes.length;rw[←HPB.out,←Hnp.out,←lS.out];exact hlt)]
  rw[he]
  refine⟨⟨(bA,bn,bc),?_,.inl ⟨rfl,rfl⟩⟩,by rw[←Hg.out];exact Ee.out⟩
  unfold eV Cm
  rw[Hcv.out];rfl
end Go.Proofs.YtabdianhoabhhaaGreatDoor.Zip
namespace Go.Proofs.YtabdianhoabhhaaGreatDoor.Name
open Go Go.RowKit Go.Proofs.YtabdianhoabhhaaGreatDoor
set_option linter.unusedVariables false
theorem wY (p:List UInt8) (k:Nat) (h:k < (AR p).size) (h2:k < p.length):(AR p)[k]=p[k]:=by
 show (p.toArray)[k]'h=p[k]
 exact List.getElem_toArray h
theorem AA9 (p:List UInt8) (k:Nat) (h2:k < p.length):∃ h:k < (AR p).size,((((AR p)[k]'h).toNat:Nat):Int)=n8 (p[k]'h2):=by
 have h:k < (AR p).size:=by rw[Dy];exact h2
 exact⟨h,congrArg (fun u:UInt8=>((u.toNat:Nat):Int)) (wY p k h h2)⟩
attribute [go_sem] Zv
set_option maxRecDepth 100000 in
set_option maxHeartbeats 1600000 in
theorem ABA (p:List UInt8) (w:World) (hp:p.length≤4000000) :
  Calls Tryz.prog 89 #[.string (AR p)] w fun e w'=>e=.returned (.bool (D7 p))∧w'=w:=by
 have Hz:Hid ((AR p).size=p.length):=Lib.hid (Dy p)
 have hz:=Hz.out
 go_enter Tryz.func89,Tryz.ntmps89
 go_wp2_with fail
 go_loop [6] (fun i=>∃ k:Nat,k≤p.length∧i=.int .i64 (k:Int)∧∀ c∈p.take k,GX c=true) (fun i=>p.length - (intOf i).toNat)
 case atStart=>exact⟨0,Nat.zero_le _,rfl,by simp⟩
 case round=>
  obtain⟨k,hk,rfl,hall⟩:=hrel
  have FY:=Lib.hid hall
  clear hall
  by_cases hlt:k < p.length
  ·have HC:=Lib.hid (fK p[k] w)
   have Hy:Hid (GX p[k]=false→D7 p=true):=Lib.hid (fun h=>by
    unfold D7
    rw[Bool.or_eq_true];left
    exact List.any_eq_true.2 ⟨_,List.getElem_mem hlt,by simp[h]⟩)
   have Hn:Hid (GX p[k]=true→∀ c∈p.take (k+1),GX c=true):=Lib.hid (fun h c hc=>by
    rw[BJ _ _ hlt]at hc
    rcases List.mem_append.1 hc with hc | hc
    ·exact FY.out c hc
    ·simp at hc;subst hc;exact h)
   obtain⟨hks,hg⟩:=AA9 p k hlt
   generalize p[k]'hlt=x at *
   go_wp2_with fail
   refine (HC.out).mono ?_
   rintro e wx ⟨rfl,hw⟩
   have hw:=hw.symm
   subst hw
   cases hL:GX x with
   | true=>
    have Hn2:=Lib.hid (Hn.out hL)
    clear hL Hn Hy
    go_wp2_with fail
    go_round
    case rel=>exact⟨k+1,by omega,by go_num,Hn2.out⟩
    case measure=>simp[intOf];omega
   | false=>
    have Hy2:=Lib.hid (Hy.out hL)
    clear hL Hn Hy
    go_wp2_with fail
    go_ret
    exact⟨by rw[Hy2.out];rfl,rfl⟩
  ·obtain rfl:k=p.length:=by omega
   have ha:p.any (fun c=>!GX c)=false:=by
    rw[List.any_eq_false]
    intro c hc
    have:=FY.out c (by rw[List.take_of_length_le (Nat.le_refl _)];exact hc)
    simp[this]
   have HB:Hid (D7 p=(decide (p=[]) || (decide (p=[46]) || decide (p=[46,46])))):=Lib.hid (by unfold D7;rw[ha];rfl)
   by_cases h1:p=[]
   ·subst h1
    have Hb:Hid (D7 []=true):=Lib.hid (by rw[HB.out];rfl)
    clear HB ha
    go_wp2_with fail
    go_ret
    exact⟨by rw[Hb.out];rfl,rfl⟩
   ·by_cases h2:p=[46]
    ·subst h2
     have Hb:Hid (D7 [46]=true):=Lib.hid (by rw[HB.out];rfl)
     clear HB ha
     go_wp2_with fail
     go_ret
     exact⟨by rw[Hb.out];rfl,rfl⟩
    ·by_cases h3:p=[46,46]
     ·subst h3
      have Hb:Hid (D7 [46,46]=true):=Lib.hid (by rw[HB.out];rfl)
      clear HB ha
      go_wp2_with fail
      go_ret
      exact⟨by rw[Hb.out];rfl,rfl⟩
     ·have Hb:Hid (D7 p=false):=Lib.hid (by rw[HB.out];simp[h1,h2,h3])
      clear HB ha
      go_wp2_with fail
      go_ret
      exact⟨by rw[Hb.out];exact DN (by simp[h1,h2,h3]),rfl⟩
end Go.Proofs.YtabdianhoabhhaaGreatDoor.Name
namespace Go.Proofs.YtabdianhoabhhaaGreatDoor.Name
open Go Go.RowKit Go.Proofs.YtabdianhoabhhaaGreatDoor
set_option linter.unusedVariables false
def ZL {α:Type} (p:α→Bool) (l:List α):Int:=match l.findIdx? p with | some i=>(i:Int) | none=>-1
theorem Vt {α:Type} (p:α→Bool) (l:List α) (k:Nat) (h:k < l.length) (h1:∀ x∈l.take k,p x=false) (h2:p l[k]=true):ZL p l=(k:Int):=by
 have:l.findIdx? p=some k:=by
  rw[List.findIdx?_eq_some_iff_getElem]
  refine⟨h,h2,fun j hj=>?_⟩
  have:=h1 l[j] (by rw[List.mem_take_iff_getElem];exact⟨j,by omega,rfl⟩)
  simp[this]
 unfold ZL;rw[this]
theorem Vu {α:Type} (p:α→Bool) (l:List α) (h1:∀ x∈l,p x=false):ZL p l=-1:=by
 have:l.findIdx? p=none:=by rw[List.findIdx?_eq_none_iff];exact h1
 unfold ZL;rw[this]
theorem ZM {α:Type} (p:α→Bool) (l:List α):decide (0≤ZL p l)=l.any p:=by
 unfold ZL
 cases h:l.findIdx? p with
 | none=>
  rw[List.findIdx?_eq_none_iff]at h
  have:l.any p=false:=by rw[List.any_eq_false];intro x hx;simp[h x hx]
  rw[this];rfl
 | some i=>
  rw[List.findIdx?_eq_some_iff_getElem]at h
  obtain⟨h1,h2,_⟩:=h
  have:l.any p=true:=by rw[List.any_eq_true];exact⟨l[i],List.getElem_mem h1,h2⟩
  rw[this];simp
theorem Na {α:Type} (p:α→Bool) (l:List α) (k:Nat) (h:k < l.length) (h1:∀ x∈l.take k,p x=false) (h2:p l[k]=false):∀ x∈l.take (k+1),p x=false:=by
 rw[BJ _ _ h]
 intro x hx
 rcases List.mem_append.1 hx with hx | hx
 ·exact h1 x hx
 ·simp at hx;subst hx;exact h2
set_option maxHeartbeats 400000 in
theorem TG (A:Option Addr) (n c:Nat) (xs:List (List UInt8)) (g:FuncId) (cap:Array Value) (p:List UInt8→Bool) (w:World) (hn:xs.length=n) (hx:n≤maxLen) (ha:AQ w A (xs.map sv))
  (hcf:∀ args w',(callFunc g args).run Tryz.prog w'=.ok (.enter g args) w')
  (hf:∀ x∈xs,∀ w',Below w.heap.size w w'→Calls Tryz.prog g (#[sv x]++cap) w' fun e w''=>e=.returned (.bool (p x))∧Below w'.heap.size w' w'') :
  Calls Tryz.prog 125 #[.slice A n c,.func (.func g) #[] cap] w fun e w'=>e=.returned (.int .i64 (ZL p xs))∧Below w.heap.size w w':=by
 unfold maxLen at hx
 have Hn:=Lib.hid hn
 have Ha:=Lib.hid ha
 have Hf:=Lib.hid hf
 clear hn ha hf
 go_enter Tryz.func125,Tryz.ntmps125
 go_wp2_with fail
 go_loopw [8] (fun i wr=>∃ k:Nat,k≤n∧i=.int .i64 k∧(∀ x∈xs.take k,p x=false)∧Below w.heap.size w wr) (fun i _=>n - (intOf i).toNat)
 case atStart=>exact⟨0,Nat.zero_le _,rfl,by simp,Below.refl _ _⟩
 case round=>
  obtain⟨k,hk,rfl,hno,hbr⟩:=hrel
  have Hno:=Lib.hid hno
  have GN:=Lib.hid hbr
  clear hno
  by_cases hlt:k < n
  ·have hkx:k < xs.length:=by rw[Hn.out];exact hlt
   obtain⟨b,o,rfl,hc⟩:=AQ.get (Ha.out.below hbr) (k:=k) (by rw[List.length_map];exact hkx)
   rw[List.getElem_map]at hc
   have Sy:=Lib.hid (Hf.out xs[k] (List.getElem_mem hkx) wr hbr)
   have Hy:=Lib.hid (Vt p xs k hkx Hno.out)
   have Hz:=Lib.hid (Na p xs k hkx Hno.out)
   generalize xs[k]=x at *
   unfold sv at hc Sy
   clear hbr
   go_wp2_with fail
   refine (Sy.out).mono ?_
   rintro e w1 ⟨rfl,hb1⟩
   have Hb1:=Lib.hid (GN.out.trans (hb1.mono GN.out.size))
   clear hb1
   cases hp:p x with
   | true=>
    have Hi:=Lib.hid (Hy.out hp)
    clear hp
    go_wp2_with fail
    go_ret
    exact⟨C9 Hi.out.symm,Hb1.out⟩
   | false=>
    have Hi:=Lib.hid (Hz.out hp)
    clear hp
    go_wp2_with fail
    go_roundw
    case rel=>exact⟨k+1,by omega,by go_num,Hi.out,Hb1.out⟩
    case measure=>simp[intOf];omega
  ·have Hi:=Lib.hid (Vu p xs (by have:=Hno.out;rwa [List.take_of_length_le (by rw[Hn.out];omega)]at this))
   clear hbr
   go_wp2_with fail
   go_ret
   exact⟨C9 Hi.out.symm,GN.out⟩
theorem O4 (A:Option Addr) (n c:Nat) (xs:List (List UInt8)) (g:FuncId) (cap:Array Value) (p:List UInt8→Bool) (w:World) (hn:xs.length=n) (hx:n≤maxLen) (ha:AQ w A (xs.map sv))
  (hcf:∀ args w',(callFunc g args).run Tryz.prog w'=.ok (.enter g args) w')
  (hf:∀ x∈xs,∀ w',Below w.heap.size w w'→Calls Tryz.prog g (#[sv x]++cap) w' fun e w''=>e=.returned (.bool (p x))∧Below w'.heap.size w' w'') :
  Calls Tryz.prog 91 #[.slice A n c,.func (.func g) #[] cap] w fun e w'=>e=.returned (.bool (xs.any p))∧Below w.heap.size w w':=by
 have XO:=Lib.hid (ZM p xs)
 have ADb:=Lib.hid (TG A n c xs g cap p w hn hx ha hcf hf)
 clear hn hx ha hcf hf
 go_enter Tryz.func91,Tryz.ntmps91
 go_wp2_with fail
 refine (ADb.out).mono ?_
 rintro e w1 ⟨rfl,hb1⟩
 have Hb1:=Lib.hid hb1
 clear hb1
 go_wp2_with fail
 go_ret
 exact⟨DN (by rw[←XO.out]),Hb1.out⟩
end Go.Proofs.YtabdianhoabhhaaGreatDoor.Name
namespace Go.Proofs.YtabdianhoabhhaaGreatDoor.Name
open Go Go.RowKit Go.Proofs.YtabdianhoabhhaaGreatDoor
set_option linter.unusedVariables false
theorem CK {w1 w2:World} (h:Below w1.heap.size w1 w2) {w3:World} (h2:Below w2.heap.size w2 w3):Below w1.heap.size w1 w3:=
 h.trans (h2.mono h.size)
theorem ZB {w:World} {g:Nat} {t:TypeId} {cs:List Value} (h:AV w g t cs.toArray):AQ w (some ⟨g,0,none⟩) cs:=fun _=>
 ⟨g,0,rfl,fun j v hj=>by rw[Nat.zero_add,h.cell];simpa using hj⟩
def QP (s:List UInt8) (w:World) (e:Ending) (w':World):Prop:=
  (Cg s≠0∧e=.returned (.tuple #[.slice none 0 0,.int .i64 (Cg s)])∨
   Cg s=0∧∃ g,e=.returned (.tuple #[.slice (some ⟨g,0,none⟩) (parts s).length (parts s).length,.int .i64 0])∧w.heap.size≤g∧AV w' g 9 ((parts s).map sv).toArray)∧Below w.heap.size w w'
set_option maxRecDepth 100000 in
set_option maxHeartbeats 1600000 in
theorem oW (s:List UInt8) (w:World) (hx:s.length≤maxLen) (hm:ML w) :
  Calls Tryz.prog 69 #[.string (AR s)] w (QP s w):=by
 unfold QP
 have hz:=Dy s
 have hx':s.length≤9223372036854775807:=by unfold maxLen at hx;omega
 by_cases jy:40 < s.length
 ·have Hn:Hid (Cg s=2):=Lib.hid (by unfold Cg;rw[if_pos jy])
  have AKd:(40:Int) < (s.length:Int):=by omega
  go_enter Tryz.func69,Tryz.ntmps69
  go_wp2_with fail
  go_ret2
  exact⟨.inl ⟨by rw[Hn.out];decide,by rw[Hn.out];rfl⟩,Below.refl _ _⟩
 ·have AKd:¬ (40:Int) < (s.length:Int):=by omega
  have Hn:Hid (Cg s=if (parts s).any D7=true then 1 else 0):=Lib.hid (by unfold Cg;rw[if_neg jy])
  have HS:=Lib.hid (oV s w (by omega) hm)
  have Hl:Hid ((parts s).length≤41):=Lib.hid (by have:=oZ s;omega)
  have Hp:Hid (∀ p∈parts s,p.length≤4000000):=Lib.hid (fun p hp=>by have:=og s p hp;omega)
  generalize parts s=ps at *
  obtain⟨n,hn⟩:∃ n,n=ps.length:=⟨_,rfl⟩
  have HN:=Lib.hid hn.symm
  rw[←hn]at HS Hl
  clear hm hn
  go_enter Tryz.func69,Tryz.ntmps69
  go_wp2_with fail
  refine (HS.out).mono ?_
  rintro e w1 ⟨rfl,hblk,hb1⟩
  have Et:=Lib.hid hblk
  have Hb1:=Lib.hid hb1
  clear hblk hb1
  obtain⟨g,hg⟩:∃ g,g=w.heap.size:=⟨_,rfl⟩
  have Hg:=Lib.hid hg
  rw[←hg]at Et⊢
  clear hg
  go_wp2_with fail
  refine (O4 (some ⟨g,0,none⟩) n n ps 89 #[] D7 w1 HN.out (by have:=Hl.out;unfold maxLen;omega) (ZB Et.out) (fun _ _=>by kernel_rfl) (fun x hx w' _=>?_)).mono ?_
  ·refine (ABA x w' (Hp.out x hx)).mono ?_
   rintro e w2 ⟨rfl,rfl⟩
   exact⟨rfl,Below.refl _ _⟩
  rintro e w2 ⟨rfl,hb2⟩
  have Qt:=Lib.hid (Et.out.below hb2 Et.out.lt)
  have Hb2:=Lib.hid (CK Hb1.out hb2)
  clear hb2 Et Hb1
  cases hany:ps.any D7 with
  | true=>
   have Hf:Hid (Cg s=1):=Lib.hid (by rw[Hn.out,if_pos hany])
   go_wp2_with fail
   go_ret2
   exact⟨.inl ⟨by rw[Hf.out];decide,by rw[Hf.out];rfl⟩,Hb2.out⟩
  | false=>
   have Hf:Hid (Cg s=0):=Lib.hid (by rw[Hn.out,if_neg (by rw[hany];simp)])
   go_wp2_with fail
   go_ret2
   exact⟨.inr ⟨Hf.out,g,by rw[HN.out];rfl,by rw[Hg.out];exact Nat.le_refl _,Qt.out⟩,Hb2.out⟩
theorem Zw {s:List UInt8} {w:World} {e:Ending} {w':World} (h:QP s w e w'):∃ A n,e=.returned (.tuple #[.slice A n n,.int .i64 (Cg s)])∧(Cg s≠0→A=none∧n=0)∧(Cg s=0→n=(parts s).length∧∃ g,A=some ⟨g,0,none⟩∧w.heap.size≤g∧AV w' g 9 ((parts s).map sv).toArray):=by
 rcases h.1 with ⟨h1,rfl⟩ | ⟨h1,g,rfl,hg,hblk⟩
 ·exact⟨none,0,rfl,fun _=>⟨rfl,rfl⟩,fun h=>absurd h h1⟩
 ·exact⟨_,_,by rw[h1],fun h=>absurd h1 h,fun _=>⟨rfl,g,rfl,hg,hblk⟩⟩
set_option maxRecDepth 100000 in
set_option maxHeartbeats 800000 in
theorem fE (s:List UInt8) (w:World) (hx:s.length≤maxLen) (hm:ML w) :
  Calls Tryz.prog 50 #[.string (AR s)] w fun e w'=>e=.returned (.int .i64 (Cg s))∧Below w.heap.size w w':=by
 have HP:=Lib.hid (oW s w hx hm)
 clear hm
 go_enter Tryz.func50,Tryz.ntmps50
 go_wp2_with fail
 refine (HP.out).mono ?_
 intro e w1 hp
 have Hb1:=Lib.hid hp.2
 obtain⟨A,n,rfl,_,_⟩:=Zw hp
 clear hp
 go_wp2_with fail
 go_ret
 exact⟨rfl,Hb1.out⟩
end Go.Proofs.YtabdianhoabhhaaGreatDoor.Name
namespace Go.Proofs.YtabdianhoabhhaaGreatDoor.dS
open Go Go.RowKit Go.Proofs.YtabdianhoabhhaaGreatDoor
set_option linter.unusedVariables false
theorem ty:Bj Tryz.prog 22 36 (.agg #[.string ByteArray.empty,.slice none 0 0,.int .i64 0,.int .i64 0,.bool false]) 5 64:=⟨Tryz.underlying22,by kernel_rfl,rfl,by omega⟩
set_option maxRecDepth 100000 in
set_option maxHeartbeats 400000 in
theorem Ei (A:Option Addr) (n c:Nat) (cs:List Value) (w:World) (hl:cs.length=n*5) (hA:AQ w A cs) (h0:A=none→n=0) (h1:∀ u∈cs,u.oneCell'=true) (hn:n≤maxLen) (hb:n*64≤140737488355328) :
  Calls Tryz.prog 116 #[.slice A n c] w fun e w'=>∃ v,e=.returned v∧w'.ownsRow w.heap.size 36 5 v n cs∧Below w.heap.size w w':=by
 have hq:=fun (w:World) (a:Option Addr) (l c:Nat)=>Lib.run_eql_slice_nil (P:=Tryz.prog) w 22 36 a l c 0 0 Tryz.underlying22
 rcases A with _ | ad
 ·obtain rfl:=h0 rfl
  have hcs:cs=[]:=List.eq_nil_of_length_eq_zero (by omega)
  subst hcs
  clear hA h0 h1 hl hn hb
  go_enter Tryz.func116,Tryz.ntmps116
  go_wp2_with fail
  go_ret
  exact⟨_,rfl,World.ownsRow_nil _ _ _ _,Below.refl _ _⟩
 ·have DK:Hid ((w.alloc (.cells #[] 36)).ownsRow w.heap.size 36 5 (.slice (some ⟨w.heap.size,0,none⟩) 0 0) 0 []):=Lib.hid (Gw _ _ _ _ w.heap.size 0 #[] (Nat.le_refl _) (heap_alloc_new w _) (by unfold maxLen;omega) (by simp))
  have NA:=Lib.hid (hA.alloc (.cells #[] 36))
  have Hb:=Lib.hid ((Below.refl w.heap.size w).alloc (Nat.le_refl _) (.cells #[] 36))
  have Hl:=Lib.hid hl
  have H1:=Lib.hid h1
  have Hn:Hid (0+n≤maxLen):=Lib.hid (by omega)
  have Hy:Hid ((0+n)*64≤140737488355328):=Lib.hid (by omega)
  clear hA h0 h1 hl hn hb
  go_enter Tryz.func116,Tryz.ntmps116
  go_wp2_with (at_builtin;refine AY _ rfl (.tmp 5) (.tmp 6) _ rfl w.heap.size 36 _ 5 64 ty _ 0 [] rfl DK.out (some ad) n c cs rfl Hl.out NA.out H1.out (by simp) Hn.out Hy.out Hb.out.size ?_;intro v2 w2 hown2 hg2 _;rw[List.nil_append,Nat.zero_add]at hown2;have bg:=Lib.hid hown2;have Hb2:=Lib.hid (own_below DK.out hg2 Hb.out Hb.out.size);clear hown2 hg2)
  go_ret
  exact⟨_,rfl,bg.out,Hb2.out⟩
end Go.Proofs.YtabdianhoabhhaaGreatDoor.dS
namespace Go.Proofs.YtabdianhoabhhaaGreatDoor.Sm
open Go Go.RowKit Go.Proofs.YtabdianhoabhhaaGreatDoor
set_option linter.unusedVariables false
theorem ty:Bj Tryz.prog 23 5 (.int .u8 0) 1 1:=⟨Tryz.underlying23,by kernel_rfl,rfl,by omega⟩
set_option maxRecDepth 100000 in
set_option maxHeartbeats 400000 in
theorem Ei (A:Option Addr) (n c:Nat) (cs:List Value) (w:World) (hl:cs.length=n*1) (hA:AQ w A cs) (h0:A=none→n=0) (h1:∀ u∈cs,u.oneCell'=true) (hn:n≤maxLen) (hb:n*1≤140737488355328) :
  Calls Tryz.prog 16 #[.slice A n c] w fun e w'=>∃ v,e=.returned v∧w'.ownsRow w.heap.size 5 1 v n cs∧Below w.heap.size w w':=by
 have hq:=fun (w:World) (a:Option Addr) (l c:Nat)=>Lib.run_eql_slice_nil (P:=Tryz.prog) w 23 5 a l c 0 0 Tryz.underlying23
 rcases A with _ | ad
 ·obtain rfl:=h0 rfl
  have hcs:cs=[]:=List.eq_nil_of_length_eq_zero (by omega)
  subst hcs
  clear hA h0 h1 hl hn hb
  go_enter Tryz.func16,Tryz.ntmps16
  go_wp2_with fail
  go_ret
  exact⟨_,rfl,World.ownsRow_nil _ _ _ _,Below.refl _ _⟩
 ·have DK:Hid ((w.alloc (.cells #[] 5)).ownsRow w.heap.size 5 1 (.slice (some ⟨w.heap.size,0,none⟩) 0 0) 0 []):=Lib.hid (Gw _ _ _ _ w.heap.size 0 #[] (Nat.le_refl _) (heap_alloc_new w _) (by unfold maxLen;omega) (by simp))
  have NA:=Lib.hid (hA.alloc (.cells #[] 5))
  have Hb:=Lib.hid ((Below.refl w.heap.size w).alloc (Nat.le_refl _) (.cells #[] 5))
  have Hl:=Lib.hid hl
  have H1:=Lib.hid h1
  have Hn:Hid (0+n≤maxLen):=Lib.hid (by omega)
  have Hy:Hid ((0+n)*1≤140737488355328):=Lib.hid (by omega)
  clear hA h0 h1 hl hn hb
  go_enter Tryz.func16,Tryz.ntmps16
  go_wp2_with (at_builtin;refine AY _ rfl (.tmp 5) (.tmp 6) _ rfl w.heap.size 5 _ 1 1 ty _ 0 [] rfl DK.out (some ad) n c cs rfl Hl.out NA.out H1.out (by simp) Hn.out Hy.out Hb.out.size ?_;intro v2 w2 hown2 hg2 _;rw[List.nil_append,Nat.zero_add]at hown2;have bg:=Lib.hid hown2;have Hb2:=Lib.hid (own_below DK.out hg2 Hb.out Hb.out.size);clear hown2 hg2)
  go_ret
  exact⟨_,rfl,bg.out,Hb2.out⟩
end Go.Proofs.YtabdianhoabhhaaGreatDoor.Sm
namespace Go.Proofs.YtabdianhoabhhaaGreatDoor.Merge
open Go Go.RowKit Go.Proofs.YtabdianhoabhhaaGreatDoor Go.Proofs.YtabdianhoabhhaaGreatDoor.Name
set_option linter.unusedVariables false
structure Ny (w:World) (base:Nat) (x:Fx):Prop where
 own:w.ownsRow base 5 1 (Cm x.2) x.1.bytes.length (x.1.bytes.map Eh)
 name:x.1.name.length≤maxLen
 stamp:l8 x.1.stamp
 node:l8 x.1.node
theorem Ny.at_ {w:World} {base:Nat} {x:Fx} (h:Ny w base x):D9 w x:=by
 obtain⟨A,cap,e,h1,h2,h3,_⟩:=Ad h.own
 obtain⟨f,A',n',c'⟩:=x
 simp only[Cm,Value.slice.injEq]at e
 obtain⟨rfl,rfl,rfl⟩:=e
 exact⟨rfl,h1,h2,h3,h.name,h.stamp,h.node⟩
theorem Ny.below {w w':World} {base:Nat} {x:Fx} (h:Ny w base x) (hb:Below w.heap.size w w'):Ny w' base x:=⟨AP h.own hb,h.name,h.stamp,h.node⟩
theorem Ny.Ca {w:World} {base g:Nat} {x:Fx} {cs:Array Value} (h:Ny w base x) (hg:AV w g 36 cs) (i:Nat) (u:Value):Ny (w.setCell ⟨g,i,none⟩ u) base x:=
 ⟨ownsRow_setCell_other h.own (a:=⟨g,i,none⟩) (own_ne h.own hg (by decide)) u,h.name,h.stamp,h.node⟩
theorem jJ {w:World} {base size n cap g:Nat} {e:TypeId} {xs:List Value} (h:w.ownsRow base e size (.slice (some ⟨g,0,none⟩) n cap) n xs):base≤g∧∃ cs,AV w g e cs:=by
 rcases h.2 with ⟨h1,_⟩ | ⟨g',cap',cur,hv,hb,hg,_⟩
 ·cases h1
 ·injection hv with hv
  injection hv with hv
  injection hv with hv
  subst hv
  exact⟨hb,cur,hg⟩
theorem ADO (a b:List Fx) (x:Fx) (s:YW):((a++x :: b).flatMap fC).set (a.length*5+1) (Cm s)=(a++(x.1,s) :: b).flatMap fC:=by
 rw[List.flatMap_append,List.flatMap_append,List.flatMap_cons,List.flatMap_cons,List.set_append_right _ _ (by rw[Kt];omega),Kt,Nat.add_sub_cancel_left]
 rfl
structure FX (w:World) (base:Nat) (v:Value) (l:List Fx):Prop where
 row:w.ownsRow base 36 5 v l.length (l.flatMap fC)
 each:∀ x∈l,Ny w base x
theorem FX.below {w w':World} {base:Nat} {v:Value} {l:List Fx} (h:FX w base v l) (hb:Below w.heap.size w w'):FX w' base v l:=⟨AP h.row hb,fun x hx=>(h.each x hx).below hb⟩
theorem Ny.Qr {w:World} {base base':Nat} {x:Fx} (h:Ny w base x) (hb:base'≤base):Ny w base' x:=⟨AZ h.own hb,h.name,h.stamp,h.node⟩
theorem FX.Qr {w:World} {base base':Nat} {v:Value} {l:List Fx} (h:FX w base v l) (hb:base'≤base):FX w base' v l:=⟨AZ h.row hb,fun x hx=>(h.each x hx).Qr hb⟩
theorem FX.nil (w:World) (base:Nat):FX w base (.slice none 0 0) []:=⟨World.ownsRow_nil _ _ _ _,by simp⟩
def Y0 (l:List Fx) (w:World) (e:Ending) (w':World):Prop:=
 ∃ v l',e=.returned v∧FX w' w.heap.size v l'∧l'.map Prod.fst=l.map Prod.fst∧Below w.heap.size w w'
theorem QA {w:World} {base n:Nat} {v:Value} {l:List Fx} (h:w.ownsRow base 36 5 v n (l.flatMap fC)) (hn:l.length=n) (hd:∀ x∈l,D9 w x):CO w v l:=by
 obtain⟨A,cap,rfl,h1,h2,h3,h4⟩:=Ad h
 subst hn
 exact⟨A,cap,rfl,h1,h2,h3,fun e=>List.eq_nil_of_length_eq_zero (h4 e),hd⟩
theorem FX.files {w:World} {base:Nat} {v:Value} {l:List Fx} (h:FX w base v l):CO w v l:=QA h.row rfl fun x hx=>(h.each x hx).at_
set_option maxRecDepth 100000 in
set_option maxHeartbeats 4000000 in
theorem su (v:Value) (l:List Fx) (w:World) (h:CO w v l) (hl:l.length≤1000000) (hb:∀ x∈l,x.1.bytes.length≤1000000) :
  Calls Tryz.prog 78 #[v] w (Y0 l w):=by
 obtain⟨A,cap,rfl,hcap,hcm,hA,l9,MZ⟩:=h
 have HC:=Lib.hid (dS.Ei A l.length cap (l.flatMap fC) w (Kt l) hA (fun e=>by rw[l9 e];rfl) (XN l) (by unfold maxLen;omega) (by omega))
 have Hd:=Lib.hid MZ
 have HB:=Lib.hid hb
 obtain⟨n,hn⟩:∃ n,n=l.length:=⟨_,rfl⟩
 have Hn:=Lib.hid hn.symm
 rw[←hn]at hl HC⊢
 clear hn hA l9 MZ hcap hcm hb
 unfold Y0
 go_enter Tryz.func78,Tryz.ntmps78
 go_wp2_with fail
 refine (HC.out).mono ?_
 rintro e w1 ⟨v1,rfl,hown,hb1⟩
 have DK:=Lib.hid hown
 have Hb1:=Lib.hid hb1
 clear hown hb1 HC
 by_cases h0:n=0
 ·have hl0:l=[]:=List.eq_nil_of_length_eq_zero (by rw[Hn.out];exact h0)
  subst h0
  have HF:Hid (FX w1 w.heap.size v1 []):=Lib.hid ⟨by rw[hl0]at DK;exact DK.out,by simp⟩
  obtain⟨A1,c1,rfl,_⟩:=Ad DK.out
  go_wp2_with fail
  go_loopw [10] (fun i wr=>i=.int .i64 0∧wr=w1) (fun _ _=>0)
  case atStart=>exact⟨rfl,rfl⟩
  case round=>
   obtain⟨rfl,rfl⟩:=hrel
   go_wp2_with fail
   go_ret
   exact⟨_,[],rfl,HF.out,by rw[hl0],Hb1.out⟩
 ·obtain⟨A1,c1,rfl,hc1,hc2,_,h4⟩:=Ad DK.out
  obtain⟨g,rfl⟩:∃ g,A1=some ⟨g,0,none⟩:=by
   rcases DK.out.2 with ⟨h1,_⟩ | ⟨g,cap',cur,hv,_⟩
   ·injection h1 with h1 h2;exact absurd h2 h0
   ·injection hv with hv;exact⟨g,hv⟩
  obtain⟨hgb,_⟩:=jJ DK.out
  clear h4
  go_wp2_with fail
  go_loopw [10] (fun i wr=>∃ (k:Nat) (done:List Fx),k≤n∧i=.int .i64 (k:Int)∧done.length=k∧done.map Prod.fst=(l.take k).map Prod.fst∧wr.ownsRow w.heap.size 36 5 (.slice (some ⟨g,0,none⟩) n c1) n ((done++l.drop k).flatMap fC)∧(∀ x∈done,Ny wr w.heap.size x)∧Below w.heap.size w wr) (fun i _=>n - (intOf i).toNat)
  case atStart=>exact⟨0,[],Nat.zero_le _,rfl,rfl,rfl,DK.out,by simp,Hb1.out⟩
  case round=>
   obtain⟨k,done,hk,rfl,hdl,hdm,hown,hdo,hbr⟩:=hrel
   have Hdl:=Lib.hid hdl
   have Hdm:=Lib.hid hdm
   have Y1:=Lib.hid hown
   have Hdo:=Lib.hid hdo
   have GN:=Lib.hid hbr
   clear hdl hdm hown hdo hbr
   by_cases hlt:k < n
   ·have hkl:k < l.length:=by rw[Hn.out];exact hlt
    have AGC:Hid (l.drop k=l[k] :: l.drop (k+1)):=Lib.hid (List.drop_eq_getElem_cons hkl)
    have zl:=(Hd.out l[k] (List.getElem_mem hkl)).below GN.out
    have hbl:=HB.out l[k] (List.getElem_mem hkl)
    have AGD:Hid ((l.take (k+1)).map Prod.fst=(l.take k).map Prod.fst++[l[k].1]):=Lib.hid (by rw[BJ _ _ hkl,List.map_append];rfl)
    rw[AGC.out]at Y1
    have Hfz:=fun j=>Y1.out.frozenAt j
    have cell:=fun (j:Nat) (hj:j < 5)=>Y1.out.cellAt (k*5+j) (by omega)
    have at_:∀ j,j < 5→((done++l[k] :: l.drop (k+1)).flatMap fC)[k*5+j]?=(fC l[k])[j]?:=fun j hj=>by
     rw[jK fC 5 Ku _ k j (by rw[List.length_append,Hdl.out,List.length_cons];omega) hj]
     congr 2
     rw[List.getElem_append_right (by rw[Hdl.out];exact Nat.le_refl _)]
     simp[Hdl.out]
    generalize l[k]=x at *
    obtain⟨⟨nm,bs,st,nd,gn⟩,As,ln,cp⟩:=x
    have hc0:wr.cell? ⟨g,k*5,none⟩=some (.string (Name.AR nm)):=by have:=cell 0 (by omega);rw[at_ 0 (by omega)]at this;exact this
    have hc1':wr.cell? ⟨g,k*5+1,none⟩=some (.slice As ln cp):=by have:=cell 1 (by omega);rw[at_ 1 (by omega)]at this;exact this
    have hc2':wr.cell? ⟨g,k*5+2,none⟩=some (.int .i64 st):=by have:=cell 2 (by omega);rw[at_ 2 (by omega)]at this;exact this
    have AMt:wr.cell? ⟨g,k*5+3,none⟩=some (.int .i64 nd):=by have:=cell 3 (by omega);rw[at_ 3 (by omega)]at this;exact this
    have AMu:wr.cell? ⟨g,k*5+4,none⟩=some (.bool gn):=by have:=cell 4 (by omega);rw[at_ 4 (by omega)]at this;exact this
    clear cell at_ Hfz
    have hln:ln=bs.length:=zl.len
    subst hln
    simp only at hbl
    have Hfd:=Lib.hid zl
    have HCB:=Lib.hid (fun w' (hb:Below wr.heap.size wr w')=>Sm.Ei As bs.length cp (bs.map Eh) w' (by simp) (AQ.below zl.at_ hb) (fun e=>by
     have h5:=zl.at_
     simp only at h5
     rcases Nat.eq_zero_or_pos bs.length with h6 | h6
     ·exact h6
     ·obtain⟨_,_,h7,_⟩:=h5 (by simpa using h6)
      rw[e]at h7;cases h7) (Ia bs) (by unfold maxLen;omega) (by omega))
    clear zl
    have AGE:=Lib.hid ((Below.refl wr.heap.size wr).alloc (Nat.le_refl _) (.cells #[.string (Name.AR nm),.slice As bs.length cp,.int .i64 st,.int .i64 nd,.bool gn] 36))
    go_wp2_with fail
    refine (HCB.out _ AGE.out).mono ?_
    rintro e w2 ⟨v2,rfl,hown2,hb2⟩
    have hbw:=CK AGE.out hb2
    obtain⟨A2,c2,rfl,_,_,_,_⟩:=Ad hown2
    have jL:=AP Y1.out hbw
    obtain⟨_,cs,hblk⟩:=jJ jL
    have HS:Hid ((w2.setCell ⟨g,k*5+1,none⟩ (.slice A2 bs.length c2)).ownsRow w.heap.size 36 5 (.slice (some ⟨g,0,none⟩) n c1) n ((done++[((⟨nm,bs,st,nd,gn⟩:Fl),((A2,bs.length,c2):YW))]++l.drop (k+1)).flatMap fC)):=Lib.hid (by
     have:=(jL.stored (k*5+1) (.slice A2 bs.length c2)).1
     have e1:=ADO done (l.drop (k+1)) (⟨nm,bs,st,nd,gn⟩,As,bs.length,cp) (A2,bs.length,c2)
     rw[Hdl.out]at e1
     rw[List.append_assoc]
     rw[←show (done++((⟨nm,bs,st,nd,gn⟩:Fl),((A2,bs.length,c2):YW)) :: l.drop (k+1)).flatMap fC=(done++([((⟨nm,bs,st,nd,gn⟩:Fl),((A2,bs.length,c2):YW))]++l.drop (k+1))).flatMap fC from rfl,←e1]
     exact this)
    have HO:Hid (∀ x∈done++[((⟨nm,bs,st,nd,gn⟩:Fl),((A2,bs.length,c2):YW))],Ny (w2.setCell ⟨g,k*5+1,none⟩ (.slice A2 bs.length c2)) w.heap.size x):=Lib.hid (fun x hx=>by
     rcases List.mem_append.1 hx with hx | hx
     ·exact ((Hdo.out x hx).below hbw).Ca hblk _ _
     ·simp at hx
      subst hx
      have hn:Ny w2 w.heap.size ((⟨nm,bs,st,nd,gn⟩:Fl),((A2,bs.length,c2):YW)):={ own:=AZ hown2 (by have:=GN.out.size;simp;omega),name:=Hfd.out.name,stamp:=Hfd.out.stamp,node:=Hfd.out.node }
      exact hn.Ca hblk _ _)
    have HBf:Hid (Below w.heap.size w (w2.setCell ⟨g,k*5+1,none⟩ (.slice A2 bs.length c2))):=Lib.hid ((CK GN.out hbw).setCell (by exact hgb) _)
    have hcc:w2.cell? ⟨g,k*5+1,none⟩=some (.slice As bs.length cp):=cell_below hbw hc1'
    have hfz:w2.frozen? ⟨g,k*5+1,none⟩=false:=jL.frozenAt _
    have hx1:w2.cell? ⟨wr.heap.size,1,none⟩=some (.slice As bs.length cp):=by
     have:=(AV.new wr 36 #[.string (Name.AR nm),.slice As bs.length cp,.int .i64 st,.int .i64 nd,.bool gn]).below hb2 (by simp)
     rw[this.cell];rfl
    clear hown2 hb2 hbw jL hblk
    go_wp2_with fail
    go_roundw
    case rel=>
     refine⟨k+1,_,by omega,by go_num,?_,?_,HS.out,HO.out,HBf.out⟩
     ·rw[List.length_append,Hdl.out];rfl
     ·rw[List.map_append,Hdm.out,AGD.out];rfl
    case measure=>simp[intOf];omega
   ·obtain rfl:k=n:=by omega
    have FY:Hid (l.take k=l∧l.drop k=[]):=Lib.hid ⟨List.take_of_length_le (by rw[Hn.out];exact Nat.le_refl _),List.drop_of_length_le (by rw[Hn.out];exact Nat.le_refl _)⟩
    go_wp2_with fail
    go_ret
    refine⟨_,done,rfl,⟨?_,Hdo.out⟩,?_,GN.out⟩
    ·have:=Y1.out
     rw[FY.out.2,List.append_nil]at this
     rw[Hdl.out]
     exact this
    ·rw[Hdm.out,FY.out.1]
end Go.Proofs.YtabdianhoabhhaaGreatDoor.Merge
