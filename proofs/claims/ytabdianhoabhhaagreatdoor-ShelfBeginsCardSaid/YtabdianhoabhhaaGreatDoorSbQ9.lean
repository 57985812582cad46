/- texts joined: InfUnpack RegTwo SumCrc ShHead ZipNum ZipEnt ZipRdr ZipHere ZipThere Two. -/
import Derived.Test.YtabdianhoabhhaaGreatDoorSbQ8
import Derived.Test.YtabdianhoabhhaaGreatDoorSbQ4
import Derived.Test.YtabdianhoabhhaaGreatDoorProg
import Derived.WalkSpells
import Derived.Test.YtabdianhoabhhaaGreatDoorSbQ3
import Derived.Test.YtabdianhoabhhaaGreatDoorSbQ1
import Derived.Test.YtabdianhoabhhaaGreatDoorSbQ7
import Derived.StillTailTactics
import Derived.Deep.CutRange
import Derived.Deep.CutBlock
import Derived.Test.YtabdianhoabhhaaGreatDoorSbQ6
import Derived.Lib.ConvBytes
import Derived.Deep.RegionLaw
open List renaming getElem_toArray→l0A,getElem_cons_zero→l0B,getElem_cons_succ→l0C,setIfInBounds_toArray→l0D,set_cons_zero→l0E,set_cons_succ→l0F
namespace Go.Proofs.YtabdianhoabhhaaGreatDoor.Inf
open Go Go.RowKit Go.Proofs.YtabdianhoabhhaaGreatDoor Go.Proofs.YtabdianhoabhhaaGreatDoor.Bits Go.Proofs.YtabdianhoabhhaaGreatDoor.Code
set_option linter.unusedVariables false
set_option linter.unusedSimpArgs false
def ZO (w:World) (xs:List UInt8) (e:Ending) (w':World):Prop:=match CB xs with
 | .bad z=>e=.returned (.tuple #[.slice none 0 0,.int .i64 0,.slice none 0 0,.int .i64 z])
 | .ok a=>a.1.length≤3000∧∃ Ao co Ak ck,e=.returned (.tuple #[.slice Ao a.1.length co,.int .i64 (a.2.1:Int),.slice Ak a.2.2.length ck,.int .i64 0])∧
   w'.ownsRow w.heap.size 5 1 (.slice Ao a.1.length co) a.1.length (a.1.map Eh)∧w'.ownsRow w.heap.size 3 1 (.slice Ak a.2.2.length ck) a.2.2.length (a.2.2.map BR)
theorem vD {xs:List UInt8} (h:6000 < xs.length):CB xs=.bad 2:=by unfold CB;rw[if_pos h]
theorem vE {xs:List UInt8} (h:¬ 6000 < xs.length):CB xs=(Dq (AO xs) (8*xs.length+1) 0 [] []).Ad fun x=>.ok (x.2.1,(x.1+7) / 8,x.2.2):=by unfold CB;rw[if_neg h]
theorem results4 {P:Program} {fn:Func} {p2 p3 p4 p5:Tmp} {t2 t3 t4 t5:TypeId} (h:fn.results=#[.cell p2 t2,.cell p3 t3,.cell p4 t4,.cell p5 t5]) (tmps:Array Value) (w:World) (a2 a3 a4 a5:Addr) (v2 v3 v4 v5:Value)
  (h2:tmps.getD p2 undef=.pointer (some a2)) (h3:tmps.getD p3 undef=.pointer (some a3)) (h4:tmps.getD p4 undef=.pointer (some a4)) (h5:tmps.getD p5 undef=.pointer (some a5))
  (l2:(loadVar t2 a2).run P w=.ok v2 w) (l3:(loadVar t3 a3).run P w=.ok v3 w) (l4:(loadVar t4 a4).run P w=.ok v4 w) (l5:(loadVar t5 a5).run P w=.ok v5 w) :
  (results fn tmps).run P w=.ok (.tuple #[v2,v3,v4,v5]) w:=by
 have h2':tmps[p2]?.getD undef=.pointer (some a2):=by simpa using h2
 have h3':tmps[p3]?.getD undef=.pointer (some a3):=by simpa using h3
 have h4':tmps[p4]?.getD undef=.pointer (some a4):=by simpa using h4
 have h5':tmps[p5]?.getD undef=.pointer (some a5):=by simpa using h5
 simp[results,h,h2',h3',h4',h5',asAddr,l2,l3,l4,l5]
theorem AD2 (w:World) (a:Addr) (v:Value) (h:w.cell? a=some v):(loadVar 23 a).run Tryz.prog w=.ok v w:=by
 simp[loadVar,run_underlying Tryz.underlying23,go_sem,h]
theorem AD3 (w:World) (a:Addr) (v:Value) (h:w.cell? a=some v):(loadVar 3 a).run Tryz.prog w=.ok v w:=by
 simp[loadVar,run_underlying Tryz.underlying3,go_sem,h]
theorem AD4 (w:World) (a:Addr) (v:Value) (h:w.cell? a=some v):(loadVar 89 a).run Tryz.prog w=.ok v w:=by
 simp[loadVar,run_underlying Tryz.underlying89,go_sem,h]
theorem AD5 (w:World) (a:Addr) (v:Value) (h:w.cell? a=some v):(loadVar 24 a).run Tryz.prog w=.ok v w:=by
 simp[loadVar,run_underlying Tryz.underlying24,go_sem,h]
theorem ES.kept {w w':World} {B g2 g3 g4 g5:Nat} {T:List TypeId} {v2 v3 v4 v5:Value} (h:ES w B g2 g3 g4 g5 v2 v3 v4 v5) (hk:AB w.heap.size T w w'):ES w' B g2 g3 g4 g5 v2 v3 v4 v5:=
 ⟨h.mK,h.jF,h.le4,h.le5,(hk.block g2 h.b2.lt).trans h.b2,(hk.block g3 h.b3.lt).trans h.b3,(hk.block g4 h.b4.lt).trans h.b4,(hk.block g5 h.b5.lt).trans h.b5⟩
theorem ZP {B:Nat} {T:List TypeId} {w w4 w':World} (h:Below B w w4) (hk:AB w4.heap.size T w4 w') (hB:B≤w4.heap.size):Below B w w':=
 h.trans ⟨hk.os,hk.tape,hk.output,hk.size,fun k hkB=>hk.block k (by omega)⟩
theorem GN {P:Program} {c:Code} {Q:Exit→Act→World→Prop} {a:Act} {w:World} (h:c.wp P (fun e a w=>e=.normal∧Q .normal a w) a w):c.wp P Q a w:=
 wp_mono h (by rintro e a w ⟨rfl,h⟩;exact h)
structure Rest (w:World) (g B:Nat) (A:Option Addr) (n c p:Nat) (Ao:Option Addr) (ol co:Nat) (Ak:Option Addr) (kl ck:Nat) (o:List UInt8) (ks:List Nat):Prop where
 MO:AX w g 177 #[.pointer (some ⟨B,0,none⟩),.slice Ao ol co,.slice Ak kl ck]
 src:EB w B A n c p
 out:w.ownsRow B 5 1 (.slice Ao ol co) ol (o.map Eh)
 kinds:w.ownsRow B 3 1 (.slice Ak kl ck) kl (ks.map BR)
theorem Rest.held {w:World} {g B n c p ol co kl ck:Nat} {A Ao Ak:Option Addr} {o:List UInt8} {ks:List Nat} (h:Rest w g B A n c p Ao ol co Ak kl ck o ks):w.cell? ⟨g,0,none⟩=some (.pointer (some ⟨B,0,none⟩))∧w.cell? ⟨g,1,none⟩=some (.slice Ao ol co)∧w.cell? ⟨g,2,none⟩=some (.slice Ak kl ck):=⟨h.MO.cell 0,h.MO.cell 1,h.MO.cell 2⟩
theorem Rest.Ca {w:World} {g B n c p ol co kl ck x:Nat} {A Ao Ak:Option Addr} {o:List UInt8} {ks:List Nat} {t:TypeId} {cs:Array Value} (h:Rest w g B A n c p Ao ol co Ak kl ck o ks) (hx:AX w x t cs) (hB:x < B) (hg:g≠x) (u:Value):Rest (w.setCell ⟨x,0,none⟩ u) g B A n c p Ao ol co Ak kl ck o ks:=
 ⟨h.MO.far (p:=⟨x,0,none⟩) hg u,AX.far h.src (p:=⟨x,0,none⟩) (by show B≠x;omega) u,ownsRow_setCell_below h.out (a:=⟨x,0,none⟩) hB u,ownsRow_setCell_below h.kinds (a:=⟨x,0,none⟩) hB u⟩
set_option maxRecDepth 100000 in
set_option maxHeartbeats 1600000 in
theorem AD6 (q:Nat) (A:Option Addr) (n c pos:Nat) (w:World) (h:EB w q A n c pos) (hp:pos≤8*n) (hn:n≤1099511627776) :
  Calls Tryz.prog 123 #[.pointer (some ⟨q,0,none⟩)] w fun e w'=>e=.returned (.int .i64 (((pos+7) / 8:Nat):Int))∧w'=w:=by
 have c1:w.cell? ⟨q,1,none⟩=some (.int .i64 (pos:Int)):=by rw[h.cell];rfl
 have h1:IntKind.i64.wrap ((pos:Int)+7)=(pos:Int)+7:=IntWalk.i64_in _ (by omega)
 have h4:((pos:Int)+7).tdiv 8=((pos:Int)+7) / 8:=Int.tdiv_eq_ediv_of_nonneg (by omega)
 have h2:IntKind.i64.wrap (((pos:Int)+7) / 8)=(((pos+7) / 8:Nat):Int):=by
  rw[show ((pos:Int)+7) / 8=(((pos+7) / 8:Nat):Int) by omega]
  exact IntWalk.i64_in _ (by omega)
 have hq:=AX.lt h
 clear h
 generalize (pos+7) / 8=u at *
 go_enter Tryz.func123,Tryz.ntmps123
 go_wp2_with fail
 go_ret
 exact⟨rfl,rfl⟩
theorem Mg {w:World} {g2 g3 g4 g5:Nat} {v2 v3 v4 v5:Value} (h:AGX w g2 g3 g4 g5 v2 v3 v4 v5) (tmps:Array Value)
  (h2:tmps.getD 2 undef=.pointer (some ⟨g2,0,none⟩)) (h3:tmps.getD 3 undef=.pointer (some ⟨g3,0,none⟩)) (h4:tmps.getD 4 undef=.pointer (some ⟨g4,0,none⟩)) (h5:tmps.getD 5 undef=.pointer (some ⟨g5,0,none⟩)) :
  (results Tryz.f88 tmps).run Tryz.prog w=.ok (.tuple #[v2,v3,v4,v5]) w:=
 results4 Tryz.results88 tmps w _ _ _ _ _ _ _ _ h2 h3 h4 h5 (AD2 _ _ _ h.c2) (AD3 _ _ _ h.c3) (AD4 _ _ _ h.c4) (AD5 _ _ _ h.c5)
theorem jM (w:World) (x:Value):ES ((((w.alloc (.cells #[.slice none 0 0] 23)).alloc (.cells #[.int .i64 0] 3)).alloc (.cells #[.slice none 0 0] 89)).alloc (.cells #[x] 24)) w.heap.size w.heap.size (w.heap.size+1) (w.heap.size+1+1) (w.heap.size+1+1+1) (.slice none 0 0) (.int .i64 0) (.slice none 0 0) x:=by
 have b2:=(((AX.new w 23 #[.slice none 0 0]).alloc (.cells #[.int .i64 0] 3)).alloc (.cells #[.slice none 0 0] 89)).alloc (.cells #[x] 24)
 have b3:=((AX.new (w.alloc (.cells #[.slice none 0 0] 23)) 3 #[.int .i64 0]).alloc (.cells #[.slice none 0 0] 89)).alloc (.cells #[x] 24)
 have b4:=(AX.new ((w.alloc (.cells #[.slice none 0 0] 23)).alloc (.cells #[.int .i64 0] 3)) 89 #[.slice none 0 0]).alloc (.cells #[x] 24)
 have b5:=AX.new (((w.alloc (.cells #[.slice none 0 0] 23)).alloc (.cells #[.int .i64 0] 3)).alloc (.cells #[.slice none 0 0] 89)) 24 #[x]
 simp only[World.size_alloc]at b2 b3 b4 b5
 exact⟨Nat.le_refl _,by omega,by omega,by omega,b2,b3,b4,b5⟩
theorem ZQ {w:World} {b o:Nat} {cs:List Value} (h:AR w (some ⟨b,o,none⟩) cs) (hp:0 < cs.length):b < w.heap.size:=by
 obtain⟨b',o',e,hc⟩:=h hp
 injection e with e
 injection e with e1 e2
 subst e1 e2
 obtain⟨x,hx⟩:∃ x,cs[0]?=some x:=⟨cs[0],List.getElem?_eq_getElem hp⟩
 exact block_lt_of_cell (hc 0 x hx)
theorem Vp (w:World) (x:Value):Below w.heap.size w ((((w.alloc (.cells #[.slice none 0 0] 23)).alloc (.cells #[.int .i64 0] 3)).alloc (.cells #[.slice none 0 0] 89)).alloc (.cells #[x] 24)):=
 ((((Below.refl _ _).alloc (Nat.le_refl _) _).alloc (by simp) _).alloc (by simp;omega) _).alloc (by simp;omega) _
set_option maxRecDepth 100000 in
set_option maxHeartbeats 1600000 in
theorem dh (A:Option Addr) (n c:Nat) (xs:List UInt8) (w:World) (hn:xs.length=n) (hx:n≤maxLen) (hA:BD w A xs) :
  Calls Tryz.prog 88 #[.slice A n c] w fun e w'=>ZO w xs e w'∧Below w.heap.size w w':=by
 unfold maxLen at hx
 have hmf:∀ (fn:Fn) (first cap:Array Value) (w:World),(Instr.makeFunc fn first cap).run Tryz.prog w=.ok (.func fn first cap) w:=fun _ _ _ _=>rfl
 have Hn:=Lib.hid hn
 have HA:=Lib.hid hA
 clear hn hA
 by_cases h6:6000 < n
 ·have h6':(6000:Int) < (n:Int):=by omega
  have HU:=Lib.hid (vD (show 6000 < xs.length by rw[Hn.out];exact h6))
  go_enter_defers Tryz.func88,Tryz.ntmps88
  go_wp2_with fail
  refine⟨_,Mg (jM w (.int .i64 2)).cells _ rfl rfl rfl rfl,?_,Vp w _⟩
  unfold ZO
  rw[HU.out]
 ·have h6':¬ (6000:Int) < (n:Int):=by omega
  have HU:=Lib.hid (vE (show ¬ 6000 < xs.length by rw[Hn.out];exact h6))
  go_enter_defers Tryz.func88,Tryz.ntmps88
  go_wp2_with fail
  have QK:=Lib.hid (jM w (.int .i64 0))
  have Hb4:=Lib.hid (Vp w (.int .i64 0))
  generalize ((((w.alloc (.cells #[.slice none 0 0] 23)).alloc (.cells #[.int .i64 0] 3)).alloc (.cells #[.slice none 0 0] 89)).alloc (.cells #[.int .i64 0] 24))=w4 at *
  generalize hg3:w.heap.size+1=g3 at *
  generalize hg4:g3+1=g4 at *
  generalize hg5:g4+1=g5 at *
  generalize hg2:w.heap.size=g2 at *
  have Qv:=Lib.hid hg2
  have Wp:=Lib.hid (AR.below HA.out (by rw[hg2];exact Hb4.out))
  have hBw:g2≤w4.heap.size:=by have:=Hb4.out.size;omega
  have hlow:∀ b o,A=some ⟨b,o,none⟩→0 < n→b < w4.heap.size:=fun b o e hp=>by
   have:=ZQ (e▸HA.out) (by rw[List.length_map,Hn.out];exact hp)
   omega
  clear hg2 hg3 hg4 hg5 HA
  refine (di A n c w4).mono ?_
  rintro e w5 ⟨rfl,hsrc,hb5⟩
  have ak:=Lib.hid hsrc
  have Hb5:=Lib.hid hb5
  clear hsrc hb5
  go_wp2_with fail
  obtain⟨G,hG⟩:∃ G:Nat×List UInt8×List Nat→Rd (List UInt8×Nat×List Nat),G=fun x=>.ok (x.2.1,(x.1+7) / 8,x.2.2):=⟨_,rfl⟩
  obtain⟨R,hR⟩:∃ R,R=CB xs:=⟨_,rfl⟩
  have HU:=Lib.hid (show R=(Dq (AO xs) (8*n+1) 0 [] []).Ad G by rw[hR,HU.out,hG,Hn.out])
  have HGd:=Lib.hid hG
  have HRd:=Lib.hid hR
  clear hG hR
  have hrow:(AO xs).length=8*n:=by rw[BV,Hn.out]
  have G6:=Lib.hid hrow
  clear hrow
  have hbx:Below w4.heap.size w4 (w5.alloc (.cells #[.pointer (some ⟨w4.heap.size,0,none⟩),.slice none 0 0,.slice none 0 0] 177)):=Hb5.out.alloc Hb5.out.size _
  have vF:=Lib.hid (QK.out.below hbx)
  have LQ:Hid (AB w4.heap.size MN w4 (w5.alloc (.cells #[.pointer (some ⟨w4.heap.size,0,none⟩),.slice none 0 0,.slice none 0 0] 177))):=Lib.hid (AB.of_below hbx (Nat.le_refl _))
  have LW:Hid (EP (w5.alloc (.cells #[.pointer (some ⟨w4.heap.size,0,none⟩),.slice none 0 0,.slice none 0 0] 177)) w4.heap.size w5.heap.size w4.heap.size A n c 0 [] []):=Lib.hid
   ⟨Hb5.out.size,Nat.le_refl _,by omega,by simp,⟨_,_,AX.new _ _ _,World.ownsRow_nil _ _ _ _,World.ownsRow_nil _ _ _ _⟩,AX.alloc ak.out _⟩
  have HI4:Hid (FE w4 w4.heap.size A n xs):=Lib.hid ⟨Hn.out,by omega,Wp.out,hlow⟩
  generalize w5.alloc (.cells #[.pointer (some ⟨w4.heap.size,0,none⟩),.slice none 0 0,.slice none 0 0] 177)=w6 at *
  generalize w5.heap.size=g at *
  obtain⟨B,hB⟩:∃ B,B=w4.heap.size:=⟨_,rfl⟩
  rw[←hB]at LQ LW HI4 hBw⊢
  have HBe:=Lib.hid hB
  clear hB hbx hlow ak Hb5 Wp
  go_loopw [] (fun wr=>∃ (f p:Nat) (o:List UInt8) (ks:List Nat),8*n+1≤p+f∧ks.length≤p∧R=(Dq (AO xs) f p o ks).Ad G∧EP wr B g B A n c p o ks∧AB B MN w4 wr) (fun wr=>8*n - posOf B wr)
  case atStart=>exact⟨8*n+1,0,[],[],by omega,by simp,HU.out,LW.out,LQ.out⟩
  case round=>
   obtain⟨f,p,o,ks,hpf,hkp,hR,hrd,hk⟩:=hrel
   have ZC:=hrd.zT
   obtain⟨f,rfl⟩:∃ f',f=f'+1:=⟨f - 1,by omega⟩
   have HU:=Lib.hid (show R=((EZ (AO xs) p o).Ad fun x=>if x.1=true then .ok (x.2.2.1,x.2.2.2,ks++[x.2.1]) else Dq (AO xs) f x.2.2.1 x.2.2.2 (ks++[x.2.1])).Ad G from hR)
   have AAW:Hid (posOf B wr=p):=Lib.hid (KJ hrd.src)
   have HK:=Lib.hid hk
   have HIr:Hid (FE wr B A n xs):=Lib.hid (HI4.out.keeps hk)
   have HBk:=Lib.hid (AAR B g B A n c p xs o ks wr hrd HIr.out (by omega) (by omega))
   have ALx:Hid (ES wr g2 g2 g3 g4 g5 (.slice none 0 0) (.int .i64 0) (.slice none 0 0) (.int .i64 0)):=Lib.hid (QK.out.kept (HBe.out▸hk))
   clear hR hrd hk LW LQ vF HIr
   go_wp2_with fail
   refine (HBk.out).mono ?_
   rintro e w7 ⟨Je,O1⟩
   have Uw:=Lib.hid (HK.out.trans O1)
   have vG:Hid (ES w7 g2 g2 g3 g4 g5 (.slice none 0 0) (.int .i64 0) (.slice none 0 0) (.int .i64 0)):=Lib.hid (QK.out.kept (HBe.out▸Uw.out))
   have Fe:Hid (Below g2 w w7):=Lib.hid (ZP Hb4.out (HBe.out▸Uw.out) (HBe.out▸hBw))
   cases Ee:EZ (AO xs) p o with
   | bad z=>
    have he:=BJ Je Ee
    subst he
    have HU:=Lib.hid (show R=.bad z by rw[HU.out,Ee];rfl)
    clear Je O1 Ee
    unfold Bn
    go_wp2_with fail
    refine leaves_cons (f:=120) (args:=#[.pointer (some ⟨g2,0,none⟩),.pointer (some ⟨g3,0,none⟩),.pointer (some ⟨g4,0,none⟩),.pointer (some ⟨g5,0,none⟩)]) (by simp) (by simp[go_sem]) ?_
    refine (RH g2 g2 g3 g4 g5 _ _ _ _ z [] w7 (Nat.le_trans (HBe.out▸hBw) Uw.out.size |> fun h=>by have:=Uw.out.size;have:=HBe.out;omega) vG.out).mono ?_
    rintro e u' w8 ⟨rfl,rfl,vH,LU⟩
    refine⟨_,Mg vH.cells _ rfl rfl rfl rfl,?_,?_⟩
    ·unfold ZO
     rw[←HRd.out,HU.out]
    ·rw[Qv.out]
     exact Fe.out.trans LU
   | ok a=>
    obtain⟨he,TG⟩:=BO Je Ee
    subst he
    have hm:=N7 Ee
    rw[G6.out]at hm
    replace HU:=Lib.hid (HU.out.trans (by rw[Ee,then_ok]))
    have Ph:=Lib.hid TG
    obtain⟨lb,k,p7,o7⟩:=a
    dsimp only at HU Ph hm⊢
    clear Je O1 Ee TG HBk
    cases lb with
    | false=>
     replace HU:=Lib.hid (HU.out.trans (by rw[if_neg (by simp)]))
     go_wp2_with fail
     go_roundw
     case rel=>exact⟨f,p7,o7,ks++[k],by omega,by simp;omega,HU.out,Ph.out,Uw.out⟩
     case measure=>rw[AAW.out,KJ Ph.out.src];omega
    | true=>
     replace HU:=Lib.hid (HU.out.trans (by rw[if_pos rfl,then_ok,HGd.out]))
     dsimp only at HU
     obtain⟨vo,Ak,kl,ck,uO,hb,ho,hkk⟩:=O0 Ph.out
     obtain⟨Ao,co,rfl,_⟩:=Ag ho
     obtain⟨ol,hol⟩:∃ ol,ol=o7.length:=⟨_,rfl⟩
     rw[←hol]at hb ho
     have YJ:=Lib.hid hol
     have ZA:=Lib.hid uO
     have Uz:=Lib.hid ho
     have AGl:=Lib.hid hkk
     have HBR:=Lib.hid hb
     have Uy:=Lib.hid Ph.out.src
     have Jn:=Ph.out.few
     have mJ:=Ph.out.zT
     have hBB:g2≤B:=hBw
     have hBe:=HBe.out
     have hlt2:g2 < B:=by have:=QK.out.b2.lt;omega
     have hlt3:g3 < B:=by have:=QK.out.b3.lt;omega
     have AGj:g4 < B:=by have:=QK.out.b4.lt;omega
     have zw:g5 < B:=by have:=QK.out.b5.lt;omega
     have hgB:B≤g:=by obtain⟨h1,_⟩:=Ph.out;exact h1
     clear hBe
     clear hol uO ho hkk hb QK Hb4 HI4
     go_wp2_with fail
     refine GN ?_
     refine Bu (fun W=>W.cell? ⟨g,0,none⟩=some (.pointer (some ⟨B,0,none⟩))∧W.cell? ⟨g,1,none⟩=some (.slice Ao ol co)∧W.cell? ⟨g,2,none⟩=some (.slice Ak kl ck)) 16 (by kernel_rfl) ?_
     have hHeld:w7.drew.cell? ⟨g,0,none⟩=some (.pointer (some ⟨B,0,none⟩))∧w7.drew.cell? ⟨g,1,none⟩=some (.slice Ao ol co)∧w7.drew.cell? ⟨g,2,none⟩=some (.slice Ak kl ck):=⟨HBR.out.cell 0,HBR.out.cell 1,HBR.out.cell 2⟩
     have H3:=Lib.hid (vG.out.below ((Below.refl _ _).drew))
     have Hb3:=Lib.hid (Fe.out.trans ((Below.refl g2 w7).drew))
     have dQ:Hid (Rest w7.drew g B A n c p7 Ao ol co Ak kl ck o7 (ks++[k])):=Lib.hid ⟨HBR.out,Uy.out,Uz.out,AGl.out⟩
     have HAt:=Lib.hid (AD6 B A n c p7 w7.drew dQ.out.src mJ (by omega))
     clear vG Fe HBR Uz AGl Uy
     generalize w7.drew=w3 at *
     refine AA (i:=0) (v:=?va0) (by kernel_rfl) (by kernel_rfl) rfl (by kernel_rfl) (by kernel_rfl) (by kernel_rfl) (fun _ _ _ h=>by cases h.1) (by rfl) (by assumption) ?Kr ?Kt
     case Kr=>(intro W hSW;(try dsimp only at hSW);go_simp;try with_reducible rfl)
     (try simp only[Act.put,l0A,l0B,l0C,l0D,l0E,l0F])
     refine AA (i:=1) (v:=?zU) (by kernel_rfl) (by kernel_rfl) rfl (by kernel_rfl) (by kernel_rfl) (by kernel_rfl) (fun _ _ _ h=>by cases h.1) (by rfl) (by assumption) ?Jp ?Jq
     case Jp=>(intro W hSW;(try dsimp only at hSW);go_simp;try with_reducible rfl)
     (try simp only[Act.put,l0A,l0B,l0C,l0D,l0E,l0F])
     refine AA (i:=2) (v:=?va2) (by kernel_rfl) (by kernel_rfl) rfl (by kernel_rfl) (by kernel_rfl) (by kernel_rfl) (fun _ _ _ h=>by cases h.1) (by rfl) (by assumption) ?QG ?QH
     case QG=>(intro W hSW;(try dsimp only at hSW);go_simp;try with_reducible rfl)
     (try simp only[Act.put,l0A,l0B,l0C,l0D,l0E,l0F])
     refine AA (i:=3) (v:=?va3) (by kernel_rfl) (by kernel_rfl) rfl (by kernel_rfl) (by kernel_rfl) (by kernel_rfl) (fun _ _ _ h=>by cases h.1) (by rfl) (by assumption) ?MR ?MS
     case MR=>(intro W hSW;(try dsimp only at hSW);go_simp;try with_reducible rfl)
     (try simp only[Act.put,l0A,l0B,l0C,l0D,l0E,l0F])
     refine AA (i:=4) (v:=?va4) (by kernel_rfl) (by kernel_rfl) rfl (by kernel_rfl) (by kernel_rfl) (by kernel_rfl) (fun _ _ _ h=>by cases h.1) (by rfl) (by assumption) ?MU ?MV
     case MU=>(intro W hSW;(try dsimp only at hSW);go_simp;try with_reducible rfl)
     (try simp only[Act.put,l0A,l0B,l0C,l0D,l0E,l0F])
     refine AA (i:=5) (v:=?va5) (by kernel_rfl) (by kernel_rfl) rfl (by kernel_rfl) (by kernel_rfl) (by kernel_rfl) (fun _ _ _ h=>by cases h.1) (by rfl) (by assumption) ?MW ?MX
     case MW=>(intro W hSW;(try dsimp only at hSW);go_simp;try with_reducible rfl)
     (try simp only[Act.put,l0A,l0B,l0C,l0D,l0E,l0F])
     refine AA (i:=6) (v:=?va6) (by kernel_rfl) (by kernel_rfl) rfl (by kernel_rfl) (by kernel_rfl) (by kernel_rfl) (fun _ _ _ h=>by cases h.1) (by rfl) (by assumption) ?XP ?XQ
     case XP=>(intro W hSW;(try dsimp only at hSW);go_simp;try with_reducible rfl)
     (try simp only[Act.put,l0A,l0B,l0C,l0D,l0E,l0F])
     refine AA (i:=7) (v:=?va7) (by kernel_rfl) (by kernel_rfl) rfl (by kernel_rfl) (by kernel_rfl) (by kernel_rfl) (fun _ _ _ h=>by cases h.1) (by rfl) (by assumption) ?XT ?XU
     case XT=>(intro W hSW;(try dsimp only at hSW);go_simp;try with_reducible rfl)
     (try simp only[Act.put,l0A,l0B,l0C,l0D,l0E,l0F])
     refine AA (i:=9) (v:=?va9) (by kernel_rfl) (by kernel_rfl) rfl (by kernel_rfl) (by kernel_rfl) (by kernel_rfl) (fun _ _ _ h=>by cases h.1) (by rfl) (by assumption) ?dM ?dN
     case dM=>(intro W hSW;(try dsimp only at hSW);go_simp;try with_reducible rfl)
     (try simp only[Act.put,l0A,l0B,l0C,l0D,l0E,l0F])
     refine AA (i:=10) (v:=?ADb) (by kernel_rfl) (by kernel_rfl) rfl (by kernel_rfl) (by kernel_rfl) (by kernel_rfl) (fun _ _ _ h=>by cases h.1) (by rfl) (by assumption) ?TI ?XV
     case TI=>(intro W hSW;(try dsimp only at hSW);go_simp;try with_reducible rfl)
     (try simp only[Act.put,l0A,l0B,l0C,l0D,l0E,l0F])
     refine AA (i:=11) (v:=?AKA) (by kernel_rfl) (by kernel_rfl) rfl (by kernel_rfl) (by kernel_rfl) (by kernel_rfl) (fun _ _ _ h=>by cases h.1) (by rfl) (by assumption) ?vI ?AAf
     case vI=>(intro W hSW;(try dsimp only at hSW);go_simp;try with_reducible rfl)
     (try simp only[Act.put,l0A,l0B,l0C,l0D,l0E,l0F])
     refine AA (i:=12) (v:=?AKB) (by kernel_rfl) (by kernel_rfl) rfl (by kernel_rfl) (by kernel_rfl) (by kernel_rfl) (fun _ _ _ h=>by cases h.1) (by rfl) (by assumption) ?vJ ?AAg
     case vJ=>(intro W hSW;(try dsimp only at hSW);go_simp;try with_reducible rfl)
     (try simp only[Act.put,l0A,l0B,l0C,l0D,l0E,l0F])
     refine AL (i:=8) rfl (by kernel_rfl) (fun K hK=>?_)
     go_simp
     go_at_call 123
     refine (HAt.out).mono ?_
     rintro e w3' ⟨rfl,AKC⟩
     cases AKC
     refine hK.out _ _ hHeld (fun hHeld=>?_)
     clear hK K
     (try simp only[Act.put,l0A,l0B,l0C,l0D,l0E,l0F])
     obtain⟨us,hus⟩:∃ us,us=(p7+7) / 8:=⟨_,rfl⟩
     rw[←hus]at HU⊢
     clear hus
     obtain⟨c2,c3,c4,c5,f2,f3,f4,f5⟩:=H3.out.cells
     refine AL (i:=13) rfl (by kernel_rfl) (fun K hK=>?_)
     go_simp
     have H4:=Lib.hid (H3.out.s2 (.slice Ao ol co))
     have Hb4:=Lib.hid (Hb3.out.setCell (p:=⟨g2,0,none⟩) H3.out.mK (.slice Ao ol co))
     have jG:=Lib.hid (dQ.out.Ca H3.out.b2 hlt2 (by omega) (.slice Ao ol co))
     clear hHeld c2 c3 c4 c5 f2 f3 f4 f5
     refine hK.out _ _ jG.out.held (fun hHeld=>?_)
     clear hK K H3 Hb3 dQ
     (try simp only[Act.put,l0A,l0B,l0C,l0D,l0E,l0F])
     generalize w3.setCell ⟨g2,0,none⟩ (.slice Ao ol co)=w4 at *
     obtain⟨c2,c3,c4,c5,f2,f3,f4,f5⟩:=H4.out.cells
     refine AL (i:=14) rfl (by kernel_rfl) (fun K hK=>?_)
     go_simp
     have H5:=Lib.hid (H4.out.s3 (.int .i64 (us:Int)))
     have Hb5:=Lib.hid (Hb4.out.setCell (p:=⟨g3,0,none⟩) H4.out.jF (.int .i64 (us:Int)))
     have mO:=Lib.hid (jG.out.Ca H4.out.b3 hlt3 (by omega) (.int .i64 (us:Int)))
     clear hHeld c2 c3 c4 c5 f2 f3 f4 f5
     refine hK.out _ _ mO.out.held (fun hHeld=>?_)
     clear hK K H4 Hb4 jG
     (try simp only[Act.put,l0A,l0B,l0C,l0D,l0E,l0F])
     generalize w4.setCell ⟨g3,0,none⟩ (.int .i64 (us:Int))=w5 at *
     obtain⟨c2,c3,c4,c5,f2,f3,f4,f5⟩:=H5.out.cells
     refine AL (i:=15) rfl (by kernel_rfl) (fun K hK=>?_)
     go_simp
     have H6:=Lib.hid (H5.out.s4 (.slice Ak kl ck))
     have Jl:=Lib.hid (Hb5.out.setCell (p:=⟨g4,0,none⟩) H5.out.le4 (.slice Ak kl ck))
     have HX6:=Lib.hid (mO.out.Ca H5.out.b4 AGj (by omega) (.slice Ak kl ck))
     clear hHeld c2 c3 c4 c5 f2 f3 f4 f5
     refine hK.out _ _ HX6.out.held (fun hHeld=>?_)
     clear hK K H5 Hb5 mO
     (try simp only[Act.put,l0A,l0B,l0C,l0D,l0E,l0F])
     generalize w5.setCell ⟨g4,0,none⟩ (.slice Ak kl ck)=w6 at *
     obtain⟨c2,c3,c4,c5,f2,f3,f4,f5⟩:=H6.out.cells
     refine BM rfl (by kernel_rfl) (by kernel_rfl) (fun K hK=>?_)
     go_simp
     have H7:=Lib.hid (H6.out.s5 (.int .i64 0))
     have Fe:=Lib.hid (Jl.out.setCell (p:=⟨g5,0,none⟩) H6.out.le5 (.int .i64 0))
     have HX7:=Lib.hid (HX6.out.Ca H6.out.b5 zw (by omega) (.int .i64 0))
     clear hHeld c2 c3 c4 c5 f2 f3 f4 f5
     refine hK.out _ _ ⟨rfl,?_⟩
     clear hK K
     go_wp2_with fail
     refine leaves_cons (f:=120) (args:=#[.pointer (some ⟨g2,0,none⟩),.pointer (some ⟨g3,0,none⟩),.pointer (some ⟨g4,0,none⟩),.pointer (some ⟨g5,0,none⟩)]) (by simp) (by simp[go_sem]) ?_
     refine (dR g2 g3 g4 g5 _).mono ?_
     rintro e u' w8 ⟨rfl,rfl,rfl⟩
     refine⟨_,Mg H7.out.cells _ rfl rfl rfl rfl,?_,?_⟩
     ·unfold ZO
      rw[←HRd.out,HU.out]
      dsimp only
      have h1:=HX7.out.out
      have h2:=HX7.out.kinds
      rw[YJ.out]at h1
      rw[ZA.out]at h2
      refine⟨Jn,Ao,co,Ak,ck,?_,Ai h1 (by rw[Qv.out];exact hBB),Ai h2 (by rw[Qv.out];exact hBB)⟩
      rw[YJ.out,ZA.out]
     ·rw[Qv.out]
      exact Fe.out
end Go.Proofs.YtabdianhoabhhaaGreatDoor.Inf
namespace Go.Proofs.YtabdianhoabhhaaGreatDoor
open Go
set_option linter.unusedVariables false
section
variable {P:Program} {ops:Array Oper} {Q:Exit→Act→World→Prop} {md:Region.Mode} {S:World→Prop} {n:Nat}
theorem JH {i j:Nat} {oi oj:Oper} {fuel:Nat} {listed:Array Bool} {a:Act} {w:World} (hi:ops[i]?=some oi) (hj:ops[j]?=some oj) (hr:Region.ready md ops listed=[i,j])
  (h1:∀ K':Act→World→Prop,Shut (∀ a w,S w→(S w→wpAnyS P md ops Q S n fuel (listed.setIfInBounds i true) a w)→K' a w)→if Region.wanted oi (yielded ops a.tmps)=true then Oper.wp P oi a w K' Q else K' (a.put oi.dst undef) w)
  (h2:∀ K':Act→World→Prop,Shut (∀ a w,S w→(S w→wpAnyS P md ops Q S n fuel (listed.setIfInBounds j true) a w)→K' a w)→if Region.wanted oj (yielded ops a.tmps)=true then Oper.wp P oj a w K' Q else K' (a.put oj.dst undef) w) :
  wpAnyS P md ops Q S n (fuel+1) listed a w:=by
 refine⟨fun h0=>(by rw[hr]at h0;cases h0),fun k hk=>?_⟩
 rw[hr]at hk
 rcases List.mem_cons.1 hk with rfl | hk
 ·exact wpOp_step hi (fun K' hK=>h1 K' (fun a w hS hW=>hK a w ⟨fun _=>hS,hW hS⟩))
 ·rw[List.mem_singleton]at hk
  subst hk
  exact wpOp_step hj (fun K' hK=>h2 K' (fun a w hS hW=>hK a w ⟨fun _=>hS,hW hS⟩))
end
end Go.Proofs.YtabdianhoabhhaaGreatDoor
namespace Go.Proofs.YtabdianhoabhhaaGreatDoor.Sum
open Go Go.RowKit Go.Proofs.YtabdianhoabhhaaGreatDoor
theorem ABQ (k:Nat) (h:k < 256):(k:Int)=n32 (CG 0 (BitVec.ofNat 32 k)):=by
 unfold n32 CG;simp;omega
def Ez (k:Nat):Array Value:=((List.range 256).map fun i=>if i < k then Value.int .u32 (n32 (tab i)) else .int .u32 0).toArray
def QU:Array Value:=Ez 256
theorem Gn (k:Nat):(Ez k).size=256:=by simp[Ez]
theorem UH:Ez 0=Tryz.zeroCells114:=by kernel_rfl
theorem fU (k:Nat) (_h:k < 256):(Ez k).setIfInBounds k (.int .u32 (n32 (tab k)))=Ez (k+1):=by
 apply Array.ext
 ·simp[Ez]
 ·intro i h1 h2
  simp[Ez]
  by_cases e:k=i
  ·subst e;simp
  ·simp[e];by_cases h3:i < k
   ·rw[if_pos h3,if_pos (by omega)]
   ·rw[if_neg h3,if_neg (by omega)]
theorem xh (k:Nat) (h:k < 256):QU[k]?=some (.int .u32 (n32 (tab k))):=by
 simp[QU,Ez,h]
theorem aA:QU.all (·.oneCell')=true:=by
 simp[QU,Ez];intro i hi;rw[if_pos hi];rfl
attribute [local irreducible] Ez
set_option maxRecDepth 100000 in
set_option maxHeartbeats 400000 in
theorem og (w:World):Calls Tryz.prog 68 #[] w fun e w'=>e=.returned (.agg QU)∧Below w.heap.size w w':=by
 go_enter Tryz.func68,Tryz.ntmps68
 go_wp2
 go_loopw [4] (fun i wr=>∃ k:Nat,k≤256∧i=.int .i64 k∧AX wr w.heap.size 114 (Ez 0)∧AX wr (w.heap.size+1) 114 (Ez k)∧Below w.heap.size w wr) (fun i _=>256 - (intOf i).toNat)
 case atStart=>
  refine⟨0,by omega,rfl,?_,?_,?_⟩
  ·rw[UH];exact (AX.new w _ _).alloc _
  ·rw[UH];have:=AX.new (w.alloc (.cells Tryz.zeroCells114 114)) 114 Tryz.zeroCells114;simpa using this
  ·exact ((Below.refl _ _).alloc (Nat.le_refl _) _).alloc (by simp) _
 case round=>
  obtain⟨k,hk,rfl,hb0,hb1,hbl⟩:=hrel
  by_cases hlt:k < 256
  ·have hfz:=hb1.frozen k
   obtain⟨old,hold⟩:∃ old,(Ez k)[k]?=some old:=⟨_,Array.getElem?_eq_getElem (by rw[Gn];exact hlt)⟩
   have hcell:wr.cell? ⟨w.heap.size+1,k,none⟩=some old:=by rw[hb1.cell,hold]
   clear hold
   have Cw:=Lib.hid (hb1.Ca k (.int .u32 (n32 (tab k))))
   have Hb0:=Lib.hid hb0
   have Hbl:=Lib.hid hbl
   have H0:=Lib.hid (ABQ k hlt)
   have hbk:=Lib.hid hb1.lt
   clear hb0 hb1 hbl
   go_wp2
   go_loop [3,9] (fun c j=>∃ m:Nat,m≤8∧j=.int .i64 m∧c=.int .u32 (n32 (CG m (BitVec.ofNat 32 k)))) (fun _ j=>8 - (intOf j).toNat)
   case atStart=>exact⟨0,by omega,rfl,int_eq H0.out⟩
   case round=>
    obtain⟨m,hm,rfl,rfl⟩:=hrel
    by_cases hm8:m < 8
    ·have Hs:Hid (CG (m+1) (BitVec.ofNat 32 k)=(CG m (BitVec.ofNat 32 k)) >>> 1 ^^^ (3988292384#32*(CG m (BitVec.ofNat 32 k) &&& 1#32))):=Lib.hid rfl
     generalize CG m (BitVec.ofNat 32 k)=c at *
     go_wp2
     go_round
     case rel=>exact⟨m+1,by omega,by go_num,by rw[Hs.out]⟩
     case measure=>simp[intOf];omega
    ·obtain rfl:m=8:=by omega
     have Ht:Hid (CG 8 (BitVec.ofNat 32 k)=tab k):=Lib.hid rfl
     generalize CG 8 (BitVec.ofNat 32 k)=c at *
     go_wp2
     go_roundw
     case rel=>
      refine⟨k+1,by omega,by go_num,?_,?_,?_⟩
      ·exact Hb0.out.far (by simp) _
      ·rw[←fU k hlt,Ht.out];exact Cw.out
      ·exact Hbl.out.setCell (by simp) _
     case measure=>simp[intOf];omega
  ·obtain rfl:k=256:=by omega
   have hi:(Tryz.prog.info? 114).map (·.size)=some (Ez 256).size:=by rw[Gn];kernel_rfl
   have hh1:wr.heap[w.heap.size+1]?=some (.cells (Ez 256) 114 (0,0)):=hb1
   have hh0:wr.heap[w.heap.size]?=some (.cells (Ez 0) 114 (0,0)):=hb0
   have Hh0:=Lib.hid hh0
   have Hh1:=Lib.hid hh1
   have Hi:=Lib.hid hi
   have Hbl:=Lib.hid hbl
   clear hi hh1 hh0 hb0 hb1 hbl
   have Ho:=Lib.hid (show (Ez 0).size=(Ez 256).size by rw[Gn,Gn])
   go_wp2_with (first | (refine wpList_load_row rfl 114 (.tmp 1) rfl (w.heap.size+1) rfl 114 _ (0,0) _ Hh1.out Tryz.underlying114 rfl Hi.out ?_) | (refine wpList_store_row rfl 114 (.tmp 0) (.tmp 22) rfl w.heap.size (Ez 256) rfl rfl 114 (Ez 0) Hh0.out Hi.out Ho.out aA ?_))
   refine bodyPost_ret (v:=.agg (Ez 256)) (results_cell_row rfl _ _ w.heap.size 114 (Ez 256) (0,0) _ rfl (setRow_heap _ _ _ _ _ _ Hh0.out) Tryz.underlying114 rfl Hi.out) rfl ⟨rfl,?_⟩
   exact Hbl.out.trans ⟨rfl,rfl,rfl,by simp,fun k hk=>setRow_other _ _ _ _ (by omega)⟩
theorem ABR (c:Ik) (x:UInt8):n32 (c >>> 8 ^^^ tab ((UInt8.ofBitVec (BitVec.setWidth 8 c)) ^^^ x).toNat)=n32 (xn c x):=rfl
set_option maxRecDepth 100000 in
set_option maxHeartbeats 400000 in
theorem Xz (c:Ik) (ci:Int) (hci:ci=n32 c) (A:Option Addr) (n cap:Nat) (xs:List UInt8) (w:World) (hn:xs.length=n) (hm:n≤12000) (hc:BD w A xs) :
  Calls Tryz.prog 48 #[.int .u32 ci,.slice A n cap] w fun e w'=>e=.returned (.tuple #[.int .u32 (n32 (crc c xs)),.int .i64 0])∧Below w.heap.size w w':=by
 subst hci
 have Hn:=Lib.hid hn
 have Hc:=Lib.hid hc
 clear hn hc
 have h12:¬ (12000 < (n:Int)):=by omega
 have hi:(Tryz.prog.info? 114).map (·.size)=some QU.size:=by rw[show QU.size=256 from Gn 256];kernel_rfl
 have Hi:=Lib.hid hi
 clear hi
 go_enter Tryz.func48,Tryz.ntmps48
 go_wp2_with (first | (go_at_call 68;refine (og _).mono ?_;rintro e w1 ⟨rfl,hb1⟩;have Hb1:=Lib.hid hb1;clear hb1) | (refine wpList_store_row rfl 114 (.tmp 6) (.tmp 13) rfl w1.heap.size QU rfl rfl 114 _ (AX.new w1 _ _) Hi.out (show _=QU.size from (Gn 256).symm) aA ?_))
 have hbW:Below w.heap.size w ((w1.alloc (.cells Tryz.zeroCells114 114)).setRow w1.heap.size QU):=
  (Hb1.out.alloc Hb1.out.size _).trans ⟨rfl,rfl,rfl,by simp,fun k hk=>setRow_other _ _ _ _ (by have:=Hb1.out.size;omega)⟩
 have hT:AX ((w1.alloc (.cells Tryz.zeroCells114 114)).setRow w1.heap.size QU) w1.heap.size 114 QU:=(AX.new w1 _ _).setRow _
 generalize (w1.alloc (.cells Tryz.zeroCells114 114)).setRow w1.heap.size QU=W at *
 have HT:=Lib.hid hT
 have HW:=Lib.hid hbW
 clear hT hbW
 generalize w1.heap.size=g at *
 go_loop [7,18] (fun cc i=>∃ k:Nat,k≤n∧i=.int .i64 k∧cc=.int .u32 (n32 (PN (~~~c) (xs.take k)))) (fun _ i=>n - (intOf i).toNat)
 case atStart=>exact⟨0,Nat.zero_le _,rfl,rfl⟩
 case round=>
  obtain⟨k,hk,rfl,rfl⟩:=hrel
  by_cases hlt:k < n
  ·have hkx:k < xs.length:=by rw[Hn.out];exact hlt
   obtain⟨b,o,rfl,hcell⟩:=(Hc.out.below HW.out).get hkx
   have Hs:Hid (n32 (PN (~~~c) (xs.take (k+1)))=n32 ((PN (~~~c) (xs.take k)) >>> 8 ^^^ tab ((UInt8.ofBitVec (BitVec.setWidth 8 (PN (~~~c) (xs.take k)))) ^^^ xs[k]).toNat)):=Lib.hid (by rw[BI _ _ hkx,oh,ABR])
   generalize PN (~~~c) (xs.take k)=d at *
   generalize xs[k]=x at *
   generalize hy0:UInt8.ofBitVec (BitVec.setWidth 8 d) ^^^ x=y at *
   have hyb:=Ql y
   have hc2:W.cell? ⟨g,(n8 y).toNat,none⟩=some (.int .u32 (n32 (tab y.toNat))):=by
    rw[HT.out.cell];exact xh _ y.toNat_lt
   go_wp2
   go_round
   case rel=>exact⟨k+1,by omega,by go_num,int_eq (by rw[Hs.out])⟩
   case measure=>simp[intOf];omega
  ·have Hk:Hid (xs.take k=xs):=Lib.hid (List.take_of_length_le (by rw[Hn.out];omega))
   go_wp2
   go_ret2
   exact⟨by rw[Hk.out];rfl,HW.out⟩
theorem ABD (ci:Int) (A:Option Addr) (n cap:Nat) (w:World) (hm:12000 < n) (hx:n≤maxLen) :
  Calls Tryz.prog 48 #[.int .u32 ci,.slice A n cap] w fun e w'=>e=.returned (.tuple #[.int .u32 0,.int .i64 2])∧w=w':=by
 unfold maxLen at hx
 have h12:(12000 < (n:Int)):=by omega
 go_enter Tryz.func48,Tryz.ntmps48
 go_wp2
 go_ret2
 exact⟨rfl,rfl⟩
end Go.Proofs.YtabdianhoabhhaaGreatDoor.Sum
namespace Go.Proofs.YtabdianhoabhhaaGreatDoor.Kn
open Go Go.RowKit Go.Proofs.YtabdianhoabhhaaGreatDoor Go.Proofs.YtabdianhoabhhaaGreatDoor.Bits Go.Proofs.YtabdianhoabhhaaGreatDoor.Zip
open Go.Proofs.YtabdianhoabhhaaGreatDoor.Gz (IA Oz)
set_option linter.unusedVariables false
theorem oQ (n:Nat) (h:n < 9223372036854775808):bits .and .i64 (n:Int) 65535=((n % 65536:Nat):Int):=by
 have hx:BitVec.ofInt 64 (n:Int)=BitVec.ofNat 64 n:=by rw[BitVec.ofInt_natCast]
 show IntKind.i64.wrap ((BitVec.ofInt 64 (n:Int) &&& BitVec.ofInt 64 (65535:Int)).toNat:Int)=_
 have h1:(BitVec.ofInt 64 (n:Int) &&& BitVec.ofInt 64 (65535:Int)).toNat=n % 65536:=by
  rw[hx,BitVec.toNat_and,BitVec.toNat_ofNat,Nat.mod_eq_of_lt (by omega),show (BitVec.ofInt 64 (65535:Int)).toNat=2 ^ 16 - 1 from rfl,Nat.and_two_pow_sub_one_eq_mod]
 rw[h1];exact IntWalk.i64_in _ (by omega)
theorem fE (a b:Int) (k:Nat) (h:k < 2) (W:World):(Instr.index 129 (.agg #[.int .i64 a,.int .i64 b]) (.int .i64 (k:Int))).run Tryz.prog W=.ok (.int .i64 (if k=0 then a else b)) W:=by
 have hu:=run_underlying (P:=Tryz.prog) Tryz.underlying129
 obtain rfl | rfl:k=0∨k=1:=by omega
 ·simp[Instr.index,hu,asIntOf,go_sem]
 ·simp[Instr.index,hu,asIntOf,go_sem]
theorem fF (c n k:Nat) (h:k < 2):IA c n (k+1)=(IA c n k++numBits ((if k=0 then c else n) % 65536) 16)++numBits ((if k=0 then c else n) / 65536) 16:=by
 obtain rfl | rfl:k=0∨k=1:=by omega
 ·rfl
 ·rfl
theorem oU (c n k:Nat) (h:k≤2):(IA c n k).length≤64:=by
 obtain rfl | rfl | rfl:k=0∨k=1∨k=2:=by omega
 all_goals simp[IA,AJ]
theorem AHL (m:Nat):Ae 4 m=[UInt8.ofNat m,UInt8.ofNat (m / 256),UInt8.ofNat (m / 65536),UInt8.ofNat (m / 16777216)]:=by
 simp only[Ae,Nat.div_div_eq_div_mul]
theorem fG (c n:Nat):pack (IA c n 2)=Ae 4 c++Ae 4 n:=by
 have ht:IA c n 2=(numBits (c % 65536) 16++numBits (c / 65536) 16)++numBits (n % 65536) 16++numBits (n / 65536) 16:=rfl
 have e:∀ m k:Nat,UInt8.ofNat (m % 65536)=UInt8.ofNat m:=fun m _=>by
  apply UInt8.toNat_inj.1;rw[UInt8.toNat_ofNat',UInt8.toNat_ofNat'];omega
 have e2:∀ m:Nat,UInt8.ofNat (m % 65536 / 256)=UInt8.ofNat (m / 256):=fun m=>by
  apply UInt8.toNat_inj.1;rw[UInt8.toNat_ofNat',UInt8.toNat_ofNat'];omega
 rw[ht,Oz,Oz,Oz,Oz,←C8,←C8,←C8,Nk,e _ 0,e _ 0,e2,e2,AHL,AHL,Nat.div_div_eq_div_mul,Nat.div_div_eq_div_mul]
 rfl
theorem ABC (b:List UInt8):XJ b < 4294967296:=by
 unfold XJ
 split
 ·omega
 ·exact XO b
theorem xJ (A:Option Addr) (n cap:Nat) (xs:List UInt8) (w:World) (hn:xs.length=n) (hx:n≤maxLen) (hc:BD w A xs) :
  Calls Tryz.prog 48 #[.int .u32 0,.slice A n cap] w fun e w'=>(∃ z,e=.returned (.tuple #[.int .u32 ((XJ xs:Nat):Int),.int .i64 z]))∧Below w.heap.size w w':=by
 by_cases h:12000 < n
 ·refine (Sum.ABD 0 A n cap w h hx).mono ?_
  rintro e w' ⟨rfl,rfl⟩
  refine⟨⟨2,?_⟩,Below.refl _ _⟩
  unfold XJ
  rw[if_pos (by rw[hn];exact h)]
  rfl
 ·refine (Sum.Xz 0#32 0 rfl A n cap xs w hn (by omega) hc).mono ?_
  rintro e w' ⟨rfl,hb⟩
  refine⟨⟨0,?_⟩,hb⟩
  unfold XJ
  rw[if_neg (by rw[hn];exact h)]
  rfl
set_option maxRecDepth 100000 in
set_option maxHeartbeats 800000 in
theorem MB (A:Option Addr) (n c:Nat) (xs:List UInt8) (w:World) (hn:xs.length=n) (hx:n < 4294967296) (hA:BD w A xs) :
  Calls Tryz.prog 56 #[.slice A n c] w fun e w'=>(∃ v,e=.returned v∧w'.ownsRow w.heap.size 5 1 v 8 ((Cy xs).map Eh))∧Below w.heap.size w w':=by
 have HC:=Lib.hid (xJ A n c xs w hn (by unfold maxLen;omega) hA)
 have hS2:=ABC xs
 have HT:Hid (Cy xs=pack (IA n (XJ xs) 2)):=Lib.hid (by rw[fG];unfold Cy;rw[hn])
 have HL:=Lib.hid (G9 xs)
 generalize XJ xs=S at *
 clear hn hA
 go_enter Tryz.func56,Tryz.ntmps56
 go_wp2_with fail
 refine (HC.out).mono ?_
 rintro e w1 ⟨⟨z,rfl⟩,hb1⟩
 have Qk:=Lib.hid (CY.new w1 (base:=w1.heap.size) (Nat.le_refl _))
 have Hb1:=Lib.hid hb1
 have Hb0:=Lib.hid (hb1.alloc hb1.size (.cells #[.slice none 0 0,.int .i64 0] 128))
 have AMp:IntKind.i64.wrap (S:Int)=(S:Int):=IntWalk.i64_in _ (by omega)
 clear hb1 HC
 go_wp2_with fail
 generalize hw3:w1.alloc (.cells #[.slice none 0 0,.int .i64 0] 128)=w3 at *
 generalize hp0:w1.heap.size=p0 at *
 have rV:=Lib.hid hp0
 have Hw0:Hid (w.heap.size≤p0):=Lib.hid (by rw[←hp0];exact Hb1.out.size)
 clear hw3 hp0
 go_loopw [18] (fun i wr=>∃ k:Nat,k≤2∧i=.int .i64 (k:Int)∧CY wr p0 p0 (IA n S k)∧AB p0 Gd w3 wr) (fun i _=>2 - (intOf i).toNat)
 case atStart=>exact⟨0,by omega,rfl,Qk.out,AB.refl _ _ _⟩
 case round=>
  clear Qk
  obtain⟨k,hk,rfl,hrow,hkp⟩:=hrel
  have Co:=Lib.hid hrow
  have NQ:=Lib.hid hkp
  have hln:=oU n S k hk
  clear hrow hkp
  by_cases hlt:k < 2
  ·have hidx:=fE (n:Int) (S:Int) k hlt
   obtain⟨v,hv⟩:∃ v:Nat,v=if k=0 then n else S:=⟨_,rfl⟩
   have hvi:(if k=0 then (n:Int) else (S:Int))=(v:Int):=by rw[hv];split <;> rfl
   have hvl:v < 4294967296:=by rw[hv];split <;> omega
   have Cw:Hid (IA n S (k+1)=(IA n S k++numBits (v % 65536) 16)++numBits (v / 65536) 16):=Lib.hid (by rw[hv];exact fF n S k hlt)
   rw[hvi]at hidx
   have hand:=oQ v (by omega)
   have AKZ:(v:Int) / 65536=((v / 65536:Nat):Int):=by simp
   obtain⟨lo,hlo⟩:∃ lo,lo=v % 65536:=⟨_,rfl⟩
   obtain⟨hi,hhi⟩:∃ hi,hi=v / 65536:=⟨_,rfl⟩
   rw[←hlo]at hand Cw
   rw[←hhi]at AKZ Cw
   have hlo2:lo < 65536:=by omega
   have hhi2:hi < 65536:=by omega
   have HP1:=Lib.hid (CV p0 p0 lo 16 (IA n S k) wr Co.out (by omega) (by omega) (by omega))
   have hl2:(IA n S k++numBits lo 16).length≤80:=by rw[List.length_append,AJ];omega
   clear hv hvi hlo hhi
   go_wp2_with fail
   refine (HP1.out).mono ?_
   rintro e w5 ⟨rfl,qW,hk5⟩
   have YO:=Lib.hid (CV p0 p0 hi 16 (IA n S k++numBits lo 16) w5 qW (by omega) (by omega) (by omega))
   have L6:=Lib.hid (NQ.out.trans hk5)
   clear qW hk5 HP1 Co NQ
   go_wp2_with fail
   refine (YO.out).mono ?_
   rintro e w6 ⟨rfl,QI,Iu⟩
   have LW:Hid (CY w6 p0 p0 (IA n S (k+1))):=Lib.hid (by rw[Cw.out];exact QI)
   have LQ:=Lib.hid (L6.out.trans Iu)
   clear QI Iu YO L6
   go_wp2_with fail
   go_roundw
   case rel=>exact⟨k+1,by omega,by go_num,LW.out,LQ.out⟩
   case measure=>simp[intOf];omega
  ·obtain rfl:k=2:=by omega
   obtain⟨hpp,v,hv1,hv2⟩:=Co.out
   have hby:=Lib.hid (VW p0 v _ wr hv1)
   rw[←HT.out,HL.out]at hv2
   have Hv2:=Lib.hid hv2
   have Hbk:=Lib.hid (Hb0.out.trans (NQ.out.below.mono Hw0.out))
   clear hv1 hv2 hpp Co NQ
   go_wp2_with fail
   refine (hby.out).mono ?_
   rintro e w5 ⟨rfl,rfl⟩
   go_wp2_with fail
   go_ret
   exact⟨⟨v,rfl,Ai Hv2.out Hw0.out⟩,Hbk.out⟩
end Go.Proofs.YtabdianhoabhhaaGreatDoor.Kn
namespace Go.Proofs.YtabdianhoabhhaaGreatDoor.Zip
open Go Go.RowKit Go.Proofs.YtabdianhoabhhaaGreatDoor Go.Proofs.YtabdianhoabhhaaGreatDoor.Bits
set_option linter.unusedVariables false
set_option linter.unusedSimpArgs false
theorem yj:Bo Tryz.prog 23 5 (.int .u8 0) 1 1:=⟨Tryz.underlying23,by kernel_rfl,rfl,by omega⟩
theorem zJ (n k:Nat) (hn:n < 4611686018427387904):(n:Int) / 2 ^ min (8*k) 64 % 256=n8 (UInt8.ofNat (n / 256 ^ k)):=by
 unfold n8
 rw[UInt8.toNat_ofNat']
 have h:(2:Int) ^ min (8*k) 64=((2 ^ min (8*k) 64:Nat):Int):=by simp
 rw[h]
 have e:n / 2 ^ min (8*k) 64=n / 256 ^ k:=by
  have e8:(256:Nat) ^ k=2 ^ (8*k):=by rw[Nat.pow_mul]
  rw[e8]
  rcases Nat.lt_or_ge (8*k) 64 with hk | hk
  ·rw[Nat.min_eq_left (by omega)]
  ·rw[Nat.min_eq_right hk,Nat.div_eq_of_lt,Nat.div_eq_of_lt]
   ·exact Nat.lt_of_lt_of_le hn (Nat.le_trans (by decide) (Nat.pow_le_pow_right (by decide) hk))
   ·exact Nat.lt_of_lt_of_le hn (by decide)
 have:=congrArg (fun x:Nat=>((x % 256:Nat):Int)) e
 simpa using this
set_option maxRecDepth 100000 in
set_option maxHeartbeats 1600000 in
theorem gW (base:Nat) (v:Value) (xs:List UInt8) (n size:Nat) (w:World) (hown:w.ownsRow base 5 1 v xs.length (xs.map Eh)) (hb:base≤w.heap.size) (hs:size≤10) (hn:n < 4611686018427387904) (hx:xs.length≤1000000) :
  Calls Tryz.prog 65 #[v,.int .i64 (n:Int),.int .i64 (size:Int)] w fun e w'=>(∃ v',e=.returned v'∧w'.ownsRow base 5 1 v' (xs++Ae size n).length ((xs++Ae size n).map Eh))∧Below base w w':=by
 have HO:=Lib.hid hown
 go_enter Tryz.func65,Tryz.ntmps65
 go_wp2_with fail
 go_loopw [0,9] (fun vb vi wr=>∃ k:Nat,k≤size∧vi=.int .i64 (k:Int)∧wr.ownsRow base 5 1 vb (xs++Ae k n).length ((xs++Ae k n).map Eh)∧Below base w wr) (fun _ vi _=>size - (intOf vi).toNat)
 case atStart=>exact⟨0,Nat.zero_le _,rfl,by simpa [Ae] using HO.out,Below.refl _ _⟩
 case round=>
  obtain⟨k,hk,rfl,ho,hbr⟩:=hrel
  have Ho:=Lib.hid ho
  have Gf:=Lib.hid hbr
  clear ho hbr
  by_cases hlt:k < size
  ·have hlt':(k:Int) < (size:Int):=by omega
   have hw8:IntKind.i64.wrap (8*(k:Int))=8*(k:Int):=IntWalk.i64_in _ (by omega)
   have h80:¬ 8*(k:Int) < 0:=by omega
   have hki:IntKind.i64.wrap ((k:Int)+1)=((k+1:Nat):Int):=by rw[show (k:Int)+1=((k+1:Nat):Int) by omega];exact IntWalk.i64_in _ (by omega)
   have hby:=zJ n k hn
   have hsn:=We k n
   generalize UInt8.ofNat (n / 256 ^ k)=xb at *
   have Hsn:Hid ((xs++Ae (k+1) n)=(xs++Ae k n)++[xb]):=Lib.hid (by rw[hsn,List.append_assoc])
   have hll:(xs++Ae k n).length≤1000010:=by rw[List.length_append,AZ];omega
   generalize xs++Ae k n=ys at *
   generalize hyl:ys.length=yl at *
   have Hyl:=Lib.hid hyl
   have BH:Below wr.heap.size wr (wr.alloc (.cells #[.int .u8 (n8 xb)] 5)):=(Below.refl _ _).alloc (Nat.le_refl _) _
   have HOa:=Lib.hid (AP Ho.out BH)
   have Hba:=Lib.hid (Gf.out.trans (BH.mono (Nat.le_trans hb Gf.out.size)))
   have HZ:Hid (AR (wr.alloc (.cells #[.int .u8 (n8 xb)] 5)) (some ⟨wr.heap.size,0,none⟩) [.int .u8 (n8 xb)]):=Lib.hid (AR.of_heap (heap_alloc_new _ _) rfl)
   clear BH Ho Gf hyl hsn
   go_wp2_with (at_builtin;refine AY _ rfl (.tmp 12) (.tmp 18) _ rfl base 5 _ 1 1 yj _ yl (ys.map Eh) rfl HOa.out (some ⟨wr.heap.size,0,none⟩) 1 1 [.int .u8 (n8 xb)] rfl rfl HZ.out (by simp[Value.oneCell']) (by simp) (by unfold maxLen;omega) (by omega) (Nat.le_trans hb Hba.out.size) ?_;intro v8 w8 Aw Dj _;have uh:=Lib.hid Aw;have EG:=Lib.hid (own_below HOa.out Dj Hba.out (Nat.le_trans hb Hba.out.size));clear Aw Dj)
   go_roundw
   case rel=>exact⟨k+1,by omega,by go_num,by rw[Hsn.out,List.length_append,List.map_append,Hyl.out];exact uh.out,EG.out⟩
   case measure=>simp[intOf];omega
  ·obtain rfl:k=size:=by omega
   have hlt':¬ (k:Int) < (k:Int):=by omega
   go_wp2_with fail
   go_ret
   exact⟨⟨_,rfl,by have:=Ho.out;rw[List.length_append,List.map_append]at this;exact this⟩,Gf.out⟩
end Go.Proofs.YtabdianhoabhhaaGreatDoor.Zip
namespace Go.Proofs.YtabdianhoabhhaaGreatDoor.Zip
open Go Go.RowKit Go.Proofs.YtabdianhoabhhaaGreatDoor Go.Proofs.YtabdianhoabhhaaGreatDoor.Bits Go.Proofs.YtabdianhoabhhaaGreatDoor.Merge Go.Proofs.YtabdianhoabhhaaGreatDoor.Name
set_option linter.unusedVariables false
set_option linter.unusedSimpArgs false
structure Ex where
 e:Dp
 bs:Yn
 pk:Yn
 at_:Nat
def eC (x:Ex):List Value:=[.string (Name.AQ x.e.f.name),Cj x.bs,.int .i64 x.e.f.stamp,.int .i64 x.e.f.node,.bool x.e.f.gone,.int .i64 (x.e.method:Int),Cj x.pk,.int .u32 (x.e.crc:Int),.int .i64 (x.at_:Int)]
def eV (x:Ex):Value:=.agg #[.string (Name.AQ x.e.f.name),Cj x.bs,.int .i64 x.e.f.stamp,.int .i64 x.e.f.node,.bool x.e.f.gone,.int .i64 (x.e.method:Int),Cj x.pk,.int .u32 (x.e.crc:Int),.int .i64 (x.at_:Int)]
structure Jj (w:World) (x:Ex):Prop where
 yU:x.bs.2.1=x.e.f.bytes.length
 yV:x.e.f.bytes.length≤x.bs.2.2
 AE4:x.bs.2.2≤maxLen
 bat:BD w x.bs.1 x.e.f.bytes
 yX:x.pk.2.1=x.e.packed.length
 yY:x.e.packed.length≤x.pk.2.2
 AE5:x.pk.2.2≤maxLen
 pat:BD w x.pk.1 x.e.packed
theorem Jj.below {w w':World} {x:Ex} (h:Jj w x) (hb:Below w.heap.size w w'):Jj w' x:=⟨h.yU,h.yV,h.AE4,BD.below h.bat hb,h.yX,h.yY,h.AE5,BD.below h.pat hb⟩
theorem YD (x:Ex):(eC x).length=9:=rfl
theorem Er {w:World} {p:Nat} {x:Ex} (hB:AX w p 78 (eC x).toArray):w.cell? ⟨p,0,none⟩=some (.string (Name.AQ x.e.f.name))∧w.cell? ⟨p,1,none⟩=some (Cj x.bs)∧w.cell? ⟨p,2,none⟩=some (.int .i64 x.e.f.stamp)∧w.cell? ⟨p,3,none⟩=some (.int .i64 x.e.f.node)∧w.cell? ⟨p,4,none⟩=some (.bool x.e.f.gone)∧
  w.cell? ⟨p,5,none⟩=some (.int .i64 (x.e.method:Int))∧w.cell? ⟨p,6,none⟩=some (Cj x.pk)∧w.cell? ⟨p,7,none⟩=some (.int .u32 (x.e.crc:Int))∧w.cell? ⟨p,8,none⟩=some (.int .i64 (x.at_:Int)):=by
 refine⟨?_,?_,?_,?_,?_,?_,?_,?_,?_⟩ <;> rw[hB.cell] <;> rfl
def BP (w:World) (base:Nat) (v:Value) (xs:List UInt8):Prop:=w.ownsRow base 5 1 v xs.length (xs.map Eh)
theorem BP.nil (w:World) (base:Nat):BP w base (.slice none 0 0) []:=World.ownsRow_nil _ _ _ _
theorem BP.keep {w w':World} {base:Nat} {v:Value} {xs:List UInt8} (h:BP w base v xs) (hb:Below w.heap.size w w'):BP w' base v xs:=AP h hb
theorem BP.slice {w:World} {base:Nat} {v:Value} {xs:List UInt8} (h:BP w base v xs):∃ A c,v=.slice A xs.length c∧xs.length≤c∧c≤maxLen∧BD w A xs∧(A=none→xs.length=0):=Ag h
theorem AFA (base:Nat) (v:Value) (xs:List UInt8) (n size:Nat) (w:World) (h:BP w base v xs) (hb:base≤w.heap.size) (hs:size≤10) (hn:n < 4611686018427387904) (hx:xs.length≤1000000) :
  Calls Tryz.prog 65 #[v,.int .i64 (n:Int),.int .i64 (size:Int)] w fun e w'=>(∃ v',e=.returned v'∧BP w' base v' (xs++Ae size n))∧Below base w w':=gW base v xs n size w h hb hs hn hx
theorem EC (base:Nat) (v:Value) (xs:List UInt8) (n size:Nat) (z sz:Int) (w:World) (h:BP w base v xs) (hb:base≤w.heap.size) (hz:z=(n:Int)) (hsz:sz=(size:Int)) (hs:size≤10) (hn:n < 4611686018427387904) (hx:xs.length≤1000000) :
  Calls Tryz.prog 65 #[v,.int .i64 z,.int .i64 sz] w fun e w'=>(∃ v',e=.returned v'∧BP w' base v' (xs++Ae size n))∧Below base w w':=by
 rw[hz,hsz]
 exact AFA base v xs n size w h hb hs hn hx
set_option maxRecDepth 100000 in
set_option maxHeartbeats 1600000 in
theorem Qe (x:Ex) (w:World) (hg:Good x.e) :
  Calls Tryz.prog 85 #[eV x] w fun e w'=>(∃ v,e=.returned v∧BP w' w.heap.size v (Ba x.e.f))∧Below w.heap.size w w':=by
 obtain⟨⟨⟨name,bytes,stamp,node,gone⟩,method,packed,crc⟩,⟨bA,bn,bc⟩,⟨pA,pn,pc⟩,at_⟩:=x
 obtain⟨st,AFB⟩:∃ st:Nat,stamp=(st:Int):=⟨stamp.toNat,by have:=hg.stamp;dsimp only at this;omega⟩
 obtain⟨nd,AFC⟩:∃ nd:Nat,node=(nd:Int):=⟨node.toNat,by have:=hg.node;dsimp only at this;omega⟩
 subst AFB AFC
 have hst:st < 4294967296:=by have:=hg.stamp;dsimp only at this;omega
 have hnd:nd < 65536:=by have:=hg.node;dsimp only at this;omega
 have AFD:crc < 4294967296:=hg.crc
 have AIB:method < 65536:=by rcases hg.method with h | h <;> (dsimp only at h;omega)
 have ACp:packed.length < 4294967296:=hg.packed
 have ACq:bytes.length < 4294967296:=hg.size
 have AIC:name.length < 65536:=hg.name
 clear hg
 unfold eV Cj Ba
 dsimp only
 rw[Int.toNat_natCast,Int.toNat_natCast]
 generalize Name.AQ name=S at *
 have hgn:Nh gone≤1:=by unfold Nh;split <;> omega
 generalize AID:Nh gone=gn at *
 have YL:=Lib.hid AID.symm
 clear AID
 go_enter Tryz.func85,Tryz.ntmps85
 obtain⟨b,hb⟩:∃ b,b=w.heap.size+1:=⟨_,rfl⟩
 have hbel:Below w.heap.size w (w.alloc (.cells #[.string S,.slice bA bn bc,.int .i64 (st:Int),.int .i64 (nd:Int),.bool gone,.int .i64 (method:Int),.slice pA pn pc,.int .u32 (crc:Int),.int .i64 (at_:Int)] 78)):=(Below.refl _ _).alloc (Nat.le_refl _) _
 have hblk:AX (w.alloc (.cells #[.string S,.slice bA bn bc,.int .i64 (st:Int),.int .i64 (nd:Int),.bool gone,.int .i64 (method:Int),.slice pA pn pc,.int .u32 (crc:Int),.int .i64 (at_:Int)] 78)) w.heap.size 78 #[.string S,.slice bA bn bc,.int .i64 (st:Int),.int .i64 (nd:Int),.bool gone,.int .i64 (method:Int),.slice pA pn pc,.int .u32 (crc:Int),.int .i64 (at_:Int)]:=AX.new _ _ _
 have hsz:(w.alloc (.cells #[.string S,.slice bA bn bc,.int .i64 (st:Int),.int .i64 (nd:Int),.bool gone,.int .i64 (method:Int),.slice pA pn pc,.int .u32 (crc:Int),.int .i64 (at_:Int)] 78)).heap.size=b:=by rw[hb];simp
 go_upto_region 2 with fail
 generalize w.alloc (.cells #[.string S,.slice bA bn bc,.int .i64 (st:Int),.int .i64 (nd:Int),.bool gone,.int .i64 (method:Int),.slice pA pn pc,.int .u32 (crc:Int),.int .i64 (at_:Int)] 78)=w1 at *
 have HB1:=Lib.hid hblk
 have Hb1:=Lib.hid hbel
 have OU:b≤w1.heap.size:=by omega
 clear hblk hbel
 have c4:w1.cell? ⟨w.heap.size,4,none⟩=some (.bool gone):=HB1.out.cell 4
 go_upto_if 7 with fail
 go_cut [3] from 3 to 3 (fun v wx=>v=.int .i64 (gn:Int)∧wx=w1)
 case first=>
  cases gone with
  | true=>
   go_wp2_with fail
   go_meet
   case rel=>exact⟨by rw[YL.out];rfl,rfl⟩
  | false=>
   go_wp2_with fail
   go_meet
   case rel=>exact⟨by rw[YL.out];rfl,rfl⟩
 case rest=>
  obtain⟨rfl,rfl⟩:=hcut
  rename World=>w1
  clear c4 YL
  have HN:=Lib.hid (EC b (.slice none 0 0) _ 29297 2 29297 2 w1 (BP.nil _ _) OU rfl rfl (by omega) (by omega) (by simp[AZ]))
  go_wp2_with fail
  refine (HN.out).mono ?_
  rintro e w2 ⟨⟨v2,rfl,ho2⟩,hb2⟩
  have HB2:=Lib.hid (HB1.out.below hb2 (by omega))
  have Hb2:=Lib.hid (Hb1.out.trans (hb2.mono (by omega)))
  have OV:b≤w2.heap.size:=Nat.le_trans OU hb2.size
  clear hb2 HN HB1 Hb1 OU
  have HN:=Lib.hid (EC b v2 _ 7 2 7 2 w2 ho2 OV rfl rfl (by omega) (by omega) (by simp[AZ]))
  clear ho2
  go_wp2_with fail
  refine (HN.out).mono ?_
  rintro e w3 ⟨⟨v3,rfl,ho3⟩,hb3⟩
  have HB3:=Lib.hid (HB2.out.below hb3 (by omega))
  have Hb3:=Lib.hid (Hb2.out.trans (hb3.mono (by omega)))
  have PW:b≤w3.heap.size:=Nat.le_trans OV hb3.size
  clear hb3 HN HB2 Hb2 OV
  have c2:w3.cell? ⟨w.heap.size,2,none⟩=some (.int .i64 (st:Int)):=HB3.out.cell 2
  have HN:=Lib.hid (EC b v3 _ st 4 (st:Int) 4 w3 ho3 PW rfl rfl (by omega) (by omega) (by simp[AZ]))
  clear ho3
  go_wp2_with fail
  refine (HN.out).mono ?_
  rintro e w4 ⟨⟨v4,rfl,SF⟩,hb4⟩
  have E9:=Lib.hid (HB3.out.below hb4 (by omega))
  have Hb4:=Lib.hid (Hb3.out.trans (hb4.mono (by omega)))
  have NU:b≤w4.heap.size:=Nat.le_trans PW hb4.size
  clear hb4 HN HB3 Hb3 PW
  clear c2
  have c3:w4.cell? ⟨w.heap.size,3,none⟩=some (.int .i64 (nd:Int)):=E9.out.cell 3
  have HN:=Lib.hid (EC b v4 _ nd 2 (nd:Int) 2 w4 SF NU rfl rfl (by omega) (by omega) (by simp[AZ]))
  clear SF
  go_wp2_with fail
  refine (HN.out).mono ?_
  rintro e w5 ⟨⟨v5,rfl,RF⟩,hb5⟩
  have II:=Lib.hid (E9.out.below hb5 (by omega))
  have Hb5:=Lib.hid (Hb4.out.trans (hb5.mono (by omega)))
  have OW:b≤w5.heap.size:=Nat.le_trans NU hb5.size
  clear hb5 HN E9 Hb4 NU
  clear c3
  have HN:=Lib.hid (EC b v5 _ gn 1 (gn:Int) 1 w5 RF OW rfl rfl (by omega) (by omega) (by simp[AZ]))
  clear RF
  go_wp2_with fail
  refine (HN.out).mono ?_
  rintro e w6 ⟨⟨v6,rfl,Rw⟩,hb6⟩
  have OZ:=Lib.hid (II.out.below hb6 (by omega))
  have Jl:=Lib.hid (Hb5.out.trans (hb6.mono (by omega)))
  have RU:b≤w6.heap.size:=Nat.le_trans OW hb6.size
  clear hb6 HN II Hb5 OW
  go_wp2_with fail
  go_ret
  exact⟨⟨_,rfl,Ai Rw (by omega)⟩,Jl.out⟩
set_option maxRecDepth 100000 in
set_option maxHeartbeats 1600000 in
theorem Uc (x:Ex) (w:World) (hg:Good x.e) (hbl:x.bs.2.1=x.e.f.bytes.length) (hpl:x.pk.2.1=x.e.packed.length) :
  Calls Tryz.prog 84 #[eV x] w fun e w'=>(∃ v,e=.returned v∧BP w' w.heap.size v (Bl x.e))∧Below w.heap.size w w':=by
 have HX:=Lib.hid (fun w'=>Qe x w' hg)
 obtain⟨⟨⟨name,bytes,stamp,node,gone⟩,method,packed,crc⟩,⟨bA,bn,bc⟩,⟨pA,pn,pc⟩,at_⟩:=x
 obtain⟨st,AFB⟩:∃ st:Nat,stamp=(st:Int):=⟨stamp.toNat,by have:=hg.stamp;dsimp only at this;omega⟩
 obtain⟨nd,AFC⟩:∃ nd:Nat,node=(nd:Int):=⟨node.toNat,by have:=hg.node;dsimp only at this;omega⟩
 subst AFB AFC
 have hst:st < 4294967296:=by have:=hg.stamp;dsimp only at this;omega
 have hnd:nd < 65536:=by have:=hg.node;dsimp only at this;omega
 have AFD:crc < 4294967296:=hg.crc
 have AIB:method < 65536:=by rcases hg.method with h | h <;> (dsimp only at h;omega)
 have ACp:packed.length < 4294967296:=hg.packed
 have ACq:bytes.length < 4294967296:=hg.size
 have AIC:name.length < 65536:=hg.name
 unfold eV Cj at HX
 dsimp only at HX hbl hpl
 clear hg
 unfold eV Cj Bl
 dsimp only
 rw[←hbl]at ACq⊢
 rw[←hpl]at ACp⊢
 have hsn:(Name.AQ name).size=name.length:=Name.Dz name
 clear hbl hpl
 have hxl:=I5 (⟨name,bytes,(st:Int),(nd:Int),gone⟩:Fl)
 generalize Ba (⟨name,bytes,(st:Int),(nd:Int),gone⟩:Fl)=XB at *
 have HXl:Hid (XB.length=11):=Lib.hid hxl
 clear hxl
 generalize Name.AQ name=S at *
 generalize name.length=nl at *
 go_enter Tryz.func84,Tryz.ntmps84
 obtain⟨b,hb⟩:∃ b,b=w.heap.size+1:=⟨_,rfl⟩
 have hbel:Below w.heap.size w (w.alloc (.cells #[.string S,.slice bA bn bc,.int .i64 (st:Int),.int .i64 (nd:Int),.bool gone,.int .i64 (method:Int),.slice pA pn pc,.int .u32 (crc:Int),.int .i64 (at_:Int)] 78)):=(Below.refl _ _).alloc (Nat.le_refl _) _
 have hblk:AX (w.alloc (.cells #[.string S,.slice bA bn bc,.int .i64 (st:Int),.int .i64 (nd:Int),.bool gone,.int .i64 (method:Int),.slice pA pn pc,.int .u32 (crc:Int),.int .i64 (at_:Int)] 78)) w.heap.size 78 #[.string S,.slice bA bn bc,.int .i64 (st:Int),.int .i64 (nd:Int),.bool gone,.int .i64 (method:Int),.slice pA pn pc,.int .u32 (crc:Int),.int .i64 (at_:Int)]:=AX.new _ _ _
 have hsz:(w.alloc (.cells #[.string S,.slice bA bn bc,.int .i64 (st:Int),.int .i64 (nd:Int),.bool gone,.int .i64 (method:Int),.slice pA pn pc,.int .u32 (crc:Int),.int .i64 (at_:Int)] 78)).heap.size=b:=by rw[hb];simp
 go_upto_region 1 with fail
 generalize w.alloc (.cells #[.string S,.slice bA bn bc,.int .i64 (st:Int),.int .i64 (nd:Int),.bool gone,.int .i64 (method:Int),.slice pA pn pc,.int .u32 (crc:Int),.int .i64 (at_:Int)] 78)=w1 at *
 have HB1:=Lib.hid hblk
 have Hb1:=Lib.hid hbel
 have OU:b≤w1.heap.size:=by omega
 clear hblk hbel
 have HN:=Lib.hid (EC b (.slice none 0 0) _ 20 2 20 2 w1 (BP.nil _ _) OU rfl rfl (by omega) (by omega) (by simp[AZ]))
 go_wp2_with fail
 refine (HN.out).mono ?_
 rintro e w2 ⟨⟨v2,rfl,ho2⟩,hb2⟩
 have HB2:=Lib.hid (HB1.out.below hb2 (by omega))
 have Hb2:=Lib.hid (Hb1.out.trans (hb2.mono (by omega)))
 have OV:b≤w2.heap.size:=Nat.le_trans OU hb2.size
 clear hb2 HN HB1 Hb1 OU
 have HN:=Lib.hid (EC b v2 _ 0 2 0 2 w2 ho2 OV rfl rfl (by omega) (by omega) (by simp[AZ]))
 clear ho2
 go_wp2_with fail
 refine (HN.out).mono ?_
 rintro e w3 ⟨⟨v3,rfl,ho3⟩,hb3⟩
 have HB3:=Lib.hid (HB2.out.below hb3 (by omega))
 have Hb3:=Lib.hid (Hb2.out.trans (hb3.mono (by omega)))
 have PW:b≤w3.heap.size:=Nat.le_trans OV hb3.size
 clear hb3 HN HB2 Hb2 OV
 have c5:w3.cell? ⟨w.heap.size,5,none⟩=some (.int .i64 (method:Int)):=HB3.out.cell 5
 have HN:=Lib.hid (EC b v3 _ method 2 (method:Int) 2 w3 ho3 PW rfl rfl (by omega) (by omega) (by simp[AZ]))
 clear ho3
 go_wp2_with fail
 refine (HN.out).mono ?_
 rintro e w4 ⟨⟨v4,rfl,SF⟩,hb4⟩
 have E9:=Lib.hid (HB3.out.below hb4 (by omega))
 have Hb4:=Lib.hid (Hb3.out.trans (hb4.mono (by omega)))
 have NU:b≤w4.heap.size:=Nat.le_trans PW hb4.size
 clear hb4 HN HB3 Hb3 PW
 clear c5
 have HN:=Lib.hid (EC b v4 _ 0 4 0 4 w4 SF NU rfl rfl (by omega) (by omega) (by simp[AZ]))
 clear SF
 go_wp2_with fail
 refine (HN.out).mono ?_
 rintro e w5 ⟨⟨v5,rfl,RF⟩,hb5⟩
 have II:=Lib.hid (E9.out.below hb5 (by omega))
 have Hb5:=Lib.hid (Hb4.out.trans (hb5.mono (by omega)))
 have OW:b≤w5.heap.size:=Nat.le_trans NU hb5.size
 clear hb5 HN E9 Hb4 NU
 have hcw:IntKind.i64.wrap (crc:Int)=(crc:Int):=IntWalk.i64_in _ (by omega)
 have c7:w5.cell? ⟨w.heap.size,7,none⟩=some (.int .u32 (crc:Int)):=II.out.cell 7
 have HN:=Lib.hid (EC b v5 _ crc 4 (crc:Int) 4 w5 RF OW rfl rfl (by omega) (by omega) (by simp[AZ]))
 clear RF
 go_wp2_with fail
 refine (HN.out).mono ?_
 rintro e w6 ⟨⟨v6,rfl,Rw⟩,hb6⟩
 have OZ:=Lib.hid (II.out.below hb6 (by omega))
 have Jl:=Lib.hid (Hb5.out.trans (hb6.mono (by omega)))
 have RU:b≤w6.heap.size:=Nat.le_trans OW hb6.size
 clear hb6 HN II Hb5 OW
 clear c7 hcw
 have c6:w6.cell? ⟨w.heap.size,6,none⟩=some (.slice pA pn pc):=OZ.out.cell 6
 have HN:=Lib.hid (EC b v6 _ pn 4 (pn:Int) 4 w6 Rw RU rfl rfl (by omega) (by omega) (by simp[AZ]))
 clear Rw
 go_wp2_with fail
 refine (HN.out).mono ?_
 rintro e w7 ⟨⟨v7,rfl,kY⟩,Ir⟩
 have ZE:=Lib.hid (OZ.out.below Ir (by omega))
 have Fe:=Lib.hid (Jl.out.trans (Ir.mono (by omega)))
 have YE:b≤w7.heap.size:=Nat.le_trans RU Ir.size
 clear Ir HN OZ Jl RU
 clear c6
 have c1:w7.cell? ⟨w.heap.size,1,none⟩=some (.slice bA bn bc):=ZE.out.cell 1
 have HN:=Lib.hid (EC b v7 _ bn 4 (bn:Int) 4 w7 kY YE rfl rfl (by omega) (by omega) (by simp[AZ]))
 clear kY
 go_wp2_with fail
 refine (HN.out).mono ?_
 rintro e w8 ⟨⟨v8,rfl,ho8⟩,LU⟩
 have JC:=Lib.hid (ZE.out.below LU (by omega))
 have EG:=Lib.hid (Fe.out.trans (LU.mono (by omega)))
 have ABo:b≤w8.heap.size:=Nat.le_trans YE LU.size
 clear LU HN ZE Fe YE
 clear c1
 have c0:w8.cell? ⟨w.heap.size,0,none⟩=some (.string S):=JC.out.cell 0
 have HN:=Lib.hid (EC b v8 _ nl 2 (nl:Int) 2 w8 ho8 ABo rfl rfl (by omega) (by omega) (by simp[AZ]))
 clear ho8
 go_wp2_with fail
 refine (HN.out).mono ?_
 rintro e w9 ⟨⟨v9,rfl,ho9⟩,Px⟩
 have KZ:=Lib.hid (JC.out.below Px (by omega))
 have Pg:=Lib.hid (EG.out.trans (Px.mono (by omega)))
 have AIE:b≤w9.heap.size:=Nat.le_trans ABo Px.size
 clear Px HN JC EG ABo
 clear c0
 have c0:w9.cell? ⟨w.heap.size,0,none⟩=some (.string S):=KZ.out.cell 0
 have c1:w9.cell? ⟨w.heap.size,1,none⟩=some (.slice bA bn bc):=KZ.out.cell 1
 have c2:w9.cell? ⟨w.heap.size,2,none⟩=some (.int .i64 (st:Int)):=KZ.out.cell 2
 have c3:w9.cell? ⟨w.heap.size,3,none⟩=some (.int .i64 (nd:Int)):=KZ.out.cell 3
 have c4:w9.cell? ⟨w.heap.size,4,none⟩=some (.bool gone):=KZ.out.cell 4
 have c5:w9.cell? ⟨w.heap.size,5,none⟩=some (.int .i64 (method:Int)):=KZ.out.cell 5
 have c6:w9.cell? ⟨w.heap.size,6,none⟩=some (.slice pA pn pc):=KZ.out.cell 6
 have c7:w9.cell? ⟨w.heap.size,7,none⟩=some (.int .u32 (crc:Int)):=KZ.out.cell 7
 have c8:w9.cell? ⟨w.heap.size,8,none⟩=some (.int .i64 (at_:Int)):=KZ.out.cell 8
 go_wp2_with fail
 refine (HX.out w9).mono ?_
 rintro e Le ⟨⟨vx,rfl,hox⟩,MZ⟩
 obtain⟨Ax,cx,rfl,_⟩:=hox.slice
 rw[HXl.out]
 have AIF:=ho9.keep MZ
 have Mo:=Lib.hid (Pg.out.trans (MZ.mono (by omega)))
 have AIH:b≤Le.heap.size:=Nat.le_trans AIE MZ.size
 clear hox MZ KZ ho9 Pg AIE c0 c1 c2 c3 c4 c5 c6 c7 c8
 have HN:=Lib.hid (EC b v9 _ 11 2 11 2 Le AIF AIH rfl rfl (by omega) (by omega) (by simp[AZ]))
 clear AIF
 go_wp2_with fail
 refine (HN.out).mono ?_
 rintro e YW ⟨⟨v11,rfl,AKy⟩,RJ⟩
 have AEa:=Lib.hid (Mo.out.trans (RJ.mono (by omega)))
 clear RJ HN Mo
 go_wp2_with fail
 go_ret
 exact⟨⟨_,rfl,Ai AKy (by omega)⟩,AEa.out⟩
end Go.Proofs.YtabdianhoabhhaaGreatDoor.Zip
namespace Go.Proofs.YtabdianhoabhhaaGreatDoor.Zip
open Go Go.RowKit Go.Proofs.YtabdianhoabhhaaGreatDoor Go.Proofs.YtabdianhoabhhaaGreatDoor.Bits Go.Proofs.YtabdianhoabhhaaGreatDoor.Merge Go.Proofs.YtabdianhoabhhaaGreatDoor.Name
set_option linter.unusedVariables false
set_option linter.unusedSimpArgs false
def DK:Ending:=.panicked [{ v:=.iface 108 (.agg #[]),recovered:=false }]
def OX:List TypeId:=[112]
def JR (w:World) (q:Nat) (A:Option Addr) (n c p:Nat):Prop:=AX w q 112 #[.slice A n c,.int .i64 (p:Int)]
structure Within (A:Option Addr) (b:List UInt8) (A':Option Addr) (x:List UInt8):Prop where
 at_:∀ w,BD w A b→BD w A' x
 blk:0 < x.length→∃ a o o',A=some ⟨a,o,none⟩∧A'=some ⟨a,o',none⟩∧0 < b.length
theorem ae (a o:Nat) (b:List UInt8) (p k:Nat):Within (some ⟨a,o,none⟩) b (some ⟨a,o+p,none⟩) ((b.drop p).take k):=
 ⟨fun w h=>(BD.drop h p).take k,fun h=>⟨a,o,o+p,rfl,rfl,by rw[List.length_take,List.length_drop]at h;omega⟩⟩
theorem iH (A A':Option Addr) (b:List UInt8):Within A b A' []:=⟨fun w h=>AR.nil,fun h=>by simp at h⟩
theorem Within.trans {A A' A'':Option Addr} {b x y:List UInt8} (h:Within A b A' x) (k:Within A' x A'' y):Within A b A'' y:=
 ⟨fun w hw=>k.at_ w (h.at_ w hw),fun hp=>by
  obtain⟨a,o,o',e,e',hx⟩:=k.blk hp
  obtain⟨a2,o2,o2',f,f',hb⟩:=h.blk hx
  rw[e]at f'
  injection f' with f'
  injection f' with f1 f2
  exact⟨a,o2,o',by rw[f,f1],e',hb⟩⟩
theorem take_zero (b:List UInt8) (p:Nat):(b.drop p).take 0=[]:=List.take_zero ..
def yo {α:Type} (r:Option α) (ok:α→Ending→World→Prop) (e:Ending) (w':World):Prop:=match r with
 | none=>e=DK
 | some a=>ok a e w'
def AFM (q:Nat) (A:Option Addr) (n c p k:Nat) (b:List UInt8) (y:List UInt8×Nat) (e:Ending) (w':World):Prop:=
 y.2≤n∧y.1.length=k∧(∃ A',e=.returned (.slice A' k (c - p))∧k≤c - p∧Within A b A' y.1)∧JR w' q A n c y.2
theorem qL {b:List UInt8} {p k:Nat} (h:¬ p+k≤b.length):takeN b p k=none:=by unfold takeN;rw[if_neg h]
theorem Wm {b:List UInt8} {p k:Nat} (h:p+k≤b.length):takeN b p k=some ((b.drop p).take k,p+k):=by unfold takeN;rw[if_pos h]
set_option maxRecDepth 100000 in
set_option maxHeartbeats 1600000 in
theorem JU (q:Nat) (A:Option Addr) (n c p k:Nat) (b:List UInt8) (w:World) (h:JR w q A n c p) (hn:b.length=n) (hnc:n≤c) (hcm:c≤maxLen) (hp:p≤n) (hk:k < 4611686018427387904) (hA:BD w A b) (hkn:0 < n∨0 < k) :
  Calls Tryz.prog 86 #[.pointer (some ⟨q,0,none⟩),.int .i64 (k:Int)] w fun e w'=>
   yo (takeN b p k) (AFM q A n c p k b) e w'∧AB q OX w w':=by
 have H:=Lib.hid h
 have Hn:=Lib.hid hn
 have HA:=Lib.hid hA
 unfold maxLen at hcm
 have e0:w.cell? ⟨q,0,none⟩=some (.slice A n c):=h.c0
 have e1:w.cell? ⟨q,1,none⟩=some (.int .i64 (p:Int)):=h.c1
 have z1:=h.frozen 1
 clear h hn hA
 go_enter Tryz.func86,Tryz.ntmps86
 have hd1:decide ((k:Int) < 0)=false:=by simp
 have hwr:IntKind.i64.wrap ((n:Int) - (p:Int))=(n:Int) - (p:Int):=IntWalk.i64_in _ (by omega)
 by_cases hlt:p+k≤n
 ·have hd2:decide ((n:Int) - (p:Int) < (k:Int))=false:=by simp;omega
  go_wp2_with fail
  go_quiet (fail)
  have HB1:Hid (AX (w.drewN nq) q 112 #[.slice A n c,.int .i64 (p:Int)]):=Lib.hid (H.out.drewN nq)
  have VT:Hid (AB q OX w (w.drewN nq)):=Lib.hid ((AB.refl q OX w).drewN nq)
  clear e0 e1 z1 hd1 hd2 hwr
  generalize w.drewN nq=w1 at *
  have e0:w1.cell? ⟨q,0,none⟩=some (.slice A n c):=HB1.out.c0
  have e1:w1.cell? ⟨q,1,none⟩=some (.int .i64 (p:Int)):=HB1.out.c1
  have z1:=HB1.out.frozen 1
  have hpk:IntKind.i64.wrap ((p:Int)+(k:Int))=((p+k:Nat):Int):=by
   rw[show (p:Int)+(k:Int)=((p+k:Nat):Int) by omega];exact IntWalk.i64_in _ (by omega)
  have hn0:0 < n:=by omega
  obtain⟨a,o,rfl,_⟩:=HA.out.get (k:=0) (by rw[Hn.out];exact hn0)
  have HB2:Hid (AX (w1.setCell ⟨q,1,none⟩ (.int .i64 ((p:Int)+(k:Int)))) q 112 #[.slice (some ⟨a,o,none⟩) n c,.int .i64 ((p:Int)+(k:Int))]):=Lib.hid (HB1.out.s1 _)
  have Fv:Hid (AB q OX w (w1.setCell ⟨q,1,none⟩ (.int .i64 ((p:Int)+(k:Int))))):=Lib.hid (VT.out.Dv HB1.out (by simp[OX]) (Nat.le_refl _) 1 _)
  go_upto_region 4 with fail
  clear e0 e1 z1 hpk HB1 VT
  generalize w1.setCell ⟨q,1,none⟩ (.int .i64 ((p:Int)+(k:Int)))=w2 at *
  have e0:w2.cell? ⟨q,0,none⟩=some (.slice (some ⟨a,o,none⟩) n c):=HB2.out.c0
  have e1:w2.cell? ⟨q,1,none⟩=some (.int .i64 ((p:Int)+(k:Int))):=HB2.out.c1
  have hm:(p:Int)+(k:Int) - (k:Int)=(p:Int):=by omega
  have hm2:IntKind.i64.wrap (p:Int)=(p:Int):=IntWalk.i64_in _ (by omega)
  have hc1:(p:Int)+(k:Int)≤(c:Int):=by omega
  have hc2:(p:Int)≤(p:Int)+(k:Int):=by omega
  by_cases hcp:c=p
  ·subst hcp
   obtain rfl:k=0:=by omega
   go_quiet (fail)
   have HB3:=Lib.hid (HB2.out.drewN nq)
   have NR:=Lib.hid (Fv.out.drewN nq)
   clear e0 e1 HB2 Fv
   generalize w2.drewN nq=w3 at *
   go_wp2_with fail
   go_ret
   refine⟨?_,NR.out⟩
   rw[Wm (by rw[Hn.out];omega)]
   refine⟨by omega,rfl,⟨_,by simp;rfl,by omega,iH _ _ _⟩,?_⟩
   have:=HB3.out
   rw[show (c:Int)+((0:Nat):Int)=((c+0:Nat):Int) by omega]at this
   exact this
  ·go_quiet (fail)
   have HB3:=Lib.hid (HB2.out.drewN nq)
   have NR:=Lib.hid (Fv.out.drewN nq)
   clear e0 e1 HB2 Fv
   generalize w2.drewN nq=w3 at *
   rw[show p+k - p=k by omega]
   go_wp2_with fail
   go_ret
   refine⟨?_,NR.out⟩
   rw[Wm (by rw[Hn.out];omega)]
   refine⟨hlt,by rw[List.length_take,List.length_drop,Hn.out];omega,⟨_,rfl,by omega,ae _ _ _ _ _⟩,?_⟩
   have:=HB3.out
   rw[show (p:Int)+(k:Int)=((p+k:Nat):Int) by omega]at this
   exact this
 ·have hd2:decide ((n:Int) - (p:Int) < (k:Int))=true:=by simp;omega
  go_wp2_with fail
  go_quiet (fail)
  have VT:Hid (AB q OX w (w.drewN nq)):=Lib.hid ((AB.refl q OX w).drewN nq)
  clear e0 e1 z1 hd1 hd2 hwr
  generalize w.drewN nq=w1 at *
  go_wp2_with fail
  refine⟨rfl,?_,VT.out⟩
  rw[qL (by rw[Hn.out];exact hlt)]
  rfl
theorem iI (l:List UInt8) (x:UInt8):BL (l++[x])=BL l+x.toNat*256 ^ l.length:=by
 induction l with
 | nil=>simp[BL]
 | cons y l ih=>
  rw[List.cons_append,BL,ih,BL,List.length_cons,Nat.pow_succ,Nat.mul_add,Nat.mul_comm (256 ^ l.length) 256,Nat.mul_left_comm x.toNat 256]
  omega
theorem Rx (m i:Nat) (x:UInt8) (hm:m < 256 ^ i) (hi:i≤6):bits .or .i64 (m:Int) (wrap64 (n8 x*2 ^ (8*i)))=((m+x.toNat*256 ^ i:Nat):Int):=by
 have hp:(256:Nat) ^ i=2 ^ (8*i):=by rw[Nat.pow_mul]
 rw[hp]at hm⊢
 have h2:2 ^ (8*i)≤2 ^ 48:=Nat.pow_le_pow_right (by omega) (by omega)
 have hx:=x.toNat_lt
 have hb:x.toNat*2 ^ (8*i)≤255*2 ^ (8*i):=Nat.mul_le_mul_right _ (by omega)
 have e:n8 x*2 ^ (8*i)=((x.toNat*2 ^ (8*i):Nat):Int):=by unfold n8;simp
 have e2:wrap64 ((x.toNat*2 ^ (8*i):Nat):Int)=((x.toNat*2 ^ (8*i):Nat):Int):=by unfold wrap64;omega
 rw[e,e2,WI,ADO _ _ (8*i) (Nat.mul_mod_left _ _) hm (by omega),Nat.add_comm]
structure JS (w:World) (q:Nat) (A:Option Addr) (b:List UInt8):Prop where
 at_:BD w A b
 low:∀ a o,A=some ⟨a,o,none⟩→0 < b.length→a < q
theorem JS.keeps {w w':World} {q:Nat} {A:Option Addr} {b:List UInt8} {T:List TypeId} (h:JS w q A b) (hk:AB q T w w'):JS w' q A b:=
 ⟨fun hp=>by
  obtain⟨a,o,e,hc⟩:=h.at_ hp
  refine⟨a,o,e,fun j v hj=>?_⟩
  rw[World.cell?_of_block (hk.block a (h.low a o e (by simpa using hp)))]
  exact hc j v hj,h.low⟩
theorem JS.within {w:World} {q q':Nat} {A A':Option Addr} {b x:List UInt8} (h:JS w q A b) (hw:Within A b A' x) (hq:q≤q'):JS w q' A' x:=
 ⟨hw.at_ w h.at_,fun a o e hp=>by
  obtain⟨a2,o2,o',f,f',hb⟩:=hw.blk hp
  rw[e]at f'
  injection f' with f'
  injection f' with f1 f2
  have:=h.low a2 o2 f hb
  omega⟩
def AIv (q:Nat) (A:Option Addr) (n c p k:Nat) (b:List UInt8) (y:Nat×Nat) (e:Ending) (w':World):Prop:=
 y.2≤n∧y.1 < 256 ^ k∧e=.returned (.int .i64 (y.1:Int))∧JR w' q A n c y.2
set_option maxRecDepth 100000 in
set_option maxHeartbeats 1600000 in
theorem Im (q:Nat) (A:Option Addr) (n c p k:Nat) (b:List UInt8) (w:World) (h:JR w q A n c p) (hn:b.length=n) (hnc:n≤c) (hcm:c≤maxLen) (hp:p≤n) (hk:k≤4) (hk1:0 < k) (hA:JS w q A b) :
  Calls Tryz.prog 87 #[.pointer (some ⟨q,0,none⟩),.int .i64 (k:Int)] w fun e w'=>
   yo (EE b p k) (AIv q A n c p k b) e w'∧AB q OX w w':=by
 have HT:=Lib.hid (JU q A n c p k b w h hn hnc hcm hp (by omega) hA.at_ (.inr hk1))
 have HA:=Lib.hid hA
 have HN:Hid (EE b p k=(takeN b p k).bind fun x=>some (BL x.1,x.2)):=Lib.hid rfl
 clear h hA
 rw[HN.out]
 generalize takeN b p k=r at *
 go_enter Tryz.func87,Tryz.ntmps87
 go_wp2_with fail
 refine (HT.out).mono ?_
 rintro e w1 ⟨hr,hk1⟩
 have VT:=Lib.hid hk1
 clear hk1 HN HT
 cases r with
 | none=>
  obtain rfl:e=DK:=hr
  unfold DK
  exact⟨rfl,rfl,VT.out⟩
 | some y=>
  obtain⟨hy2,hyl,⟨A',rfl,hkc,hwi⟩,hrd⟩:=hr
  have HX:=Lib.hid ((HA.out.keeps VT.out).within hwi (Nat.le_refl _))
  have HR:=Lib.hid hrd
  obtain⟨x,p2⟩:=y
  dsimp only at hy2 hyl HX HR⊢
  have Z8:=Lib.hid hyl
  clear hwi hrd hyl
  go_wp2_with fail
  go_loopw [5,12] (fun va vi wr=>∃ i:Nat,i≤k∧vi=.int .i64 (i:Int)∧va=.int .i64 (BL (x.take i):Nat)∧wr=w1) (fun _ vi _=>k - (intOf vi).toNat)
  case atStart=>exact⟨0,Nat.zero_le _,rfl,rfl,rfl⟩
  case round=>
   obtain⟨i,hi,rfl,rfl,rfl⟩:=hrel
   by_cases hlt:i < k
   ·have hlt':(i:Int) < (k:Int):=by omega
    have hi0:(0:Int)≤(i:Int):=by omega
    have hix:i < x.length:=by rw[Z8.out];exact hlt
    obtain⟨a,o,rfl,hcell⟩:=HX.out.at_.get (k:=i) hix
    have hlow:BL (x.take i) < 256 ^ i:=by have:=Mx (x.take i);rwa [List.length_take,Z8.out,Nat.min_eq_left (by omega)]at this
    have Hsn:Hid (BL (x.take (i+1))=BL (x.take i)+(x[i]'hix).toNat*256 ^ i):=Lib.hid (by
     rw[List.take_succ_eq_append_getElem hix,iI,List.length_take,Nat.min_eq_left (by omega)])
    generalize BL (x.take i)=m at *
    generalize x[i]'hix=xb at *
    have hw8:IntKind.i64.wrap (8*(i:Int))=8*(i:Int):=IntWalk.i64_in _ (by omega)
    have h80:¬ 8*(i:Int) < 0:=by omega
    go_wp2_with fail
    refine⟨⟨i+1,by omega,by go_num,?_,trivial⟩,by simp[intOf];omega⟩
    rw[Rx m i xb hlow (by omega),Hsn.out]
   ·obtain rfl:i=k:=by omega
    have hlt':¬ (i:Int) < (i:Int):=by omega
    go_wp2_with fail
    go_ret
    refine⟨⟨hy2,?_,?_,HR.out⟩,VT.out⟩
    ·have:=Mx x;rwa [Z8.out]at this
    ·have ht:x.take i=x:=List.take_of_length_le (by rw[Z8.out];omega)
     rw[ht];rfl
end Go.Proofs.YtabdianhoabhhaaGreatDoor.Zip
namespace Go.Proofs.YtabdianhoabhhaaGreatDoor.Zip
open Go Go.RowKit Go.Proofs.YtabdianhoabhhaaGreatDoor Go.Proofs.YtabdianhoabhhaaGreatDoor.Bits Go.Proofs.YtabdianhoabhhaaGreatDoor.Merge Go.Proofs.YtabdianhoabhhaaGreatDoor.Name
set_option linter.unusedVariables false
set_option linter.unusedSimpArgs false
theorem BP.bytes {w:World} {base:Nat} {v:Value} {xs:List UInt8} (h:BP w base v xs):Au w v xs:=by
 obtain⟨A,c,rfl,h1,h2,h3,_⟩:=h.slice
 exact⟨A,c,rfl,h1,h2,h3⟩
theorem _root_.Go.Proofs.YtabdianhoabhhaaGreatDoor.Au.Bq {w w':World} {v:Value} {xs:List UInt8} (h:Au w v xs) (hb:Below w.heap.size w w'):Au w' v xs:=by
 obtain⟨A,c,h0,h1,h2,h3⟩:=h
 exact⟨A,c,h0,h1,h2,BD.below h3 hb⟩
theorem Jj.AFK {w:World} {x:Ex} (h:Jj w x):Au w (Cj x.pk) x.e.packed:=⟨x.pk.1,x.pk.2.2,by unfold Cj;rw[h.yX],h.yY,h.AE5,h.pat⟩
theorem aX (l:List UInt8) (hl:l.length≤1000000) (w:World):∃ w' c,(convert 9 23 (.string (Name.AQ l))).run Tryz.prog w=.ok (.slice (some ⟨w.heap.size,0,none⟩) l.length c) w'∧l.length≤c∧c≤maxLen∧BD w' (some ⟨w.heap.size,0,none⟩) l∧Below w.heap.size w w':=by
 have h0:=Lib.run_convert_string_bytes (P:=Tryz.prog) w 9 23 5 (Name.AQ l) Tryz.underlying9 Tryz.underlying23 Tryz.underlying5
 rw[Name.Dz]at h0
 have e:Lib.bytesCells w 5 (Name.AQ l)=(l.map Eh++List.replicate (grownCap w (Name.AQ l).size 0 5 - (Name.AQ l).size) (Value.int .u8 0)).toArray:=by
  simp[Lib.bytesCells,Name.AQ]
  exact fun _ _=>rfl
 have hcap:=grownCap_ge w (Name.AQ l).size 0 5
 have hcm:=grownCap_le_maxLen w (Name.AQ l).size 0 5 (by rw[Name.Dz];unfold maxLen;omega)
 rw[Name.Dz]at e hcap hcm
 refine⟨_,_,h0,?_,?_,?_,?_⟩
 ·exact hcap
 ·exact hcm
 ·have h:=Lib.bytesWorld_at_new w 5 (Name.AQ l)
  rw[e]at h
  refine fun hp=>⟨w.heap.size,0,rfl,fun j v hj=>?_⟩
  rw[cell_of_row _ _ _ _ _ _ h]
  rw[Nat.zero_add,List.getElem?_toArray,List.getElem?_append_left (by
   rcases Nat.lt_or_ge j (l.map Eh).length with h1 | h1
   ·exact h1
   ·rw[List.getElem?_eq_none h1]at hj;cases hj)]
  exact hj
 ·refine⟨?_,?_,?_,by rw[Lib.bytesWorld_size];omega,fun k hk=>Lib.bytesWorld_at_old w _ _ k hk⟩ <;> rfl
theorem K8 (rs:List (Value×List UInt8)) (ys:List UInt8) (n:Nat) (w:World) (hn:rs.length=n) (hr:∀ q∈rs,Au w q.1 q.2) (hy:(rs.map (·.2)).flatten=ys) (ht:ys.length≤140737488355328) (hn2:n≤100) (cs:Array Value) (hc:cs=(rs.map (·.1)).toArray) :
  Calls Tryz.prog 32 #[.slice (some ⟨w.heap.size,0,none⟩) n n] (w.alloc (.cells cs 23)) fun e w'=>(∃ v,e=.returned v∧BP w' w.heap.size v ys)∧Below w.heap.size w w':=by
 have BH:Below w.heap.size w (w.alloc (.cells cs 23)):=(Below.refl _ _).alloc (Nat.le_refl _) _
 refine (Om (some ⟨w.heap.size,0,none⟩) n n rs ys _ hn (by omega) (AR.of_heap (heap_alloc_new _ _) (by rw[hc])) (fun q hq=>(hr q hq).Bq BH) hy ht).mono ?_
 rintro e w' ⟨⟨v,rfl,ho⟩,hb⟩
 exact⟨⟨v,rfl,Ai ho BH.size⟩,BH.trans (hb.mono BH.size)⟩
set_option maxRecDepth 100000 in
set_option maxHeartbeats 3000000 in
theorem yh (x:Ex) (w:World) (hg:Good x.e) (hx:Jj w x) :
  Calls Tryz.prog 63 #[eV x] w fun e w'=>(∃ v,e=.returned v∧BP w' w.heap.size v (Cs x.e))∧Below w.heap.size w w':=by
 have HM:=Lib.hid (fun w'=>Uc x w' hg hx.yU hx.yX)
 have HX:=Lib.hid (fun w'=>Qe x w' hg)
 have HCv:=Lib.hid (aX x.e.f.name (by have:=hg.name;omega))
 have HPk:=Lib.hid hx.AFK
 have hlen:=PZ x.e
 have hg1:=hg.name
 have hg2:=hg.packed
 clear hg hx
 unfold eV at HM HX⊢
 go_enter Tryz.func63,Tryz.ntmps63
 go_wp2_with fail
 refine Bu (fun W=>AX W w.heap.size 78 (eC x).toArray) 13 (by kernel_rfl) ?_
 have BH:Below w.heap.size w (w.alloc (.cells #[.string (Name.AQ x.e.f.name),Cj x.bs,.int .i64 x.e.f.stamp,.int .i64 x.e.f.node,.bool x.e.f.gone,.int .i64 (x.e.method:Int),Cj x.pk,.int .u32 (x.e.crc:Int),.int .i64 (x.at_:Int)] 78)).drew:=((Below.refl _ _).alloc (Nat.le_refl _) _).drew
 have HB1:Hid (AX (w.alloc (.cells #[.string (Name.AQ x.e.f.name),Cj x.bs,.int .i64 x.e.f.stamp,.int .i64 x.e.f.node,.bool x.e.f.gone,.int .i64 (x.e.method:Int),Cj x.pk,.int .u32 (x.e.crc:Int),.int .i64 (x.at_:Int)] 78)).drew w.heap.size 78 (eC x).toArray):=Lib.hid (AX.new w 78 #[.string (Name.AQ x.e.f.name),Cj x.bs,.int .i64 x.e.f.stamp,.int .i64 x.e.f.node,.bool x.e.f.gone,.int .i64 (x.e.method:Int),Cj x.pk,.int .u32 (x.e.crc:Int),.int .i64 (x.at_:Int)])
 have Hb1:=Lib.hid BH
 have AIs:=Lib.hid (HPk.out.Bq BH)
 have hHeld:=HB1.out
 generalize (w.alloc (.cells #[.string (Name.AQ x.e.f.name),Cj x.bs,.int .i64 x.e.f.stamp,.int .i64 x.e.f.node,.bool x.e.f.gone,.int .i64 (x.e.method:Int),Cj x.pk,.int .u32 (x.e.crc:Int),.int .i64 (x.at_:Int)] 78)).drew=w1 at *
 clear BH HPk
 refine AA (i:=1) (v:=?zU) (by kernel_rfl) (by kernel_rfl) rfl (by kernel_rfl) (by kernel_rfl) (by kernel_rfl) (fun _ _ _ h=>h) (by rfl) (by assumption) ?Jp ?Jq
 case Jp=>(intro W hSW;obtain⟨c0,c1,c2,c3,c4,c5,c6,c7,c8⟩:=Er hSW;go_simp;try with_reducible rfl)
 (try simp only[Act.put,l0A,l0B,l0C,l0D,l0E,l0F])
 refine AA (i:=3) (v:=?va3) (by kernel_rfl) (by kernel_rfl) rfl (by kernel_rfl) (by kernel_rfl) (by kernel_rfl) (fun _ _ _ h=>h) (by rfl) (by assumption) ?MR ?MS
 case MR=>(intro W hSW;obtain⟨c0,c1,c2,c3,c4,c5,c6,c7,c8⟩:=Er hSW;go_simp;try with_reducible rfl)
 (try simp only[Act.put,l0A,l0B,l0C,l0D,l0E,l0F])
 refine AA (i:=4) (v:=?va4) (by kernel_rfl) (by kernel_rfl) rfl (by kernel_rfl) (by kernel_rfl) (by kernel_rfl) (fun _ _ _ h=>h) (by rfl) (by assumption) ?MU ?MV
 case MU=>(intro W hSW;obtain⟨c0,c1,c2,c3,c4,c5,c6,c7,c8⟩:=Er hSW;go_simp;try with_reducible rfl)
 (try simp only[Act.put,l0A,l0B,l0C,l0D,l0E,l0F])
 refine AA (i:=5) (v:=?va5) (by kernel_rfl) (by kernel_rfl) rfl (by kernel_rfl) (by kernel_rfl) (by kernel_rfl) (fun _ _ _ h=>h) (by rfl) (by assumption) ?MW ?MX
 case MW=>(intro W hSW;obtain⟨c0,c1,c2,c3,c4,c5,c6,c7,c8⟩:=Er hSW;go_simp;try with_reducible rfl)
 (try simp only[Act.put,l0A,l0B,l0C,l0D,l0E,l0F])
 refine AA (i:=7) (v:=?va7) (by kernel_rfl) (by kernel_rfl) rfl (by kernel_rfl) (by kernel_rfl) (by kernel_rfl) (fun _ _ _ h=>h) (by rfl) (by assumption) ?XT ?XU
 case XT=>(intro W hSW;obtain⟨c0,c1,c2,c3,c4,c5,c6,c7,c8⟩:=Er hSW;go_simp;try with_reducible rfl)
 (try simp only[Act.put,l0A,l0B,l0C,l0D,l0E,l0F])
 refine AA (i:=9) (v:=?va9) (by kernel_rfl) (by kernel_rfl) rfl (by kernel_rfl) (by kernel_rfl) (by kernel_rfl) (fun _ _ _ h=>h) (by rfl) (by assumption) ?dM ?dN
 case dM=>(intro W hSW;obtain⟨c0,c1,c2,c3,c4,c5,c6,c7,c8⟩:=Er hSW;go_simp;try with_reducible rfl)
 (try simp only[Act.put,l0A,l0B,l0C,l0D,l0E,l0F])
 refine AA (i:=10) (v:=?ADb) (by kernel_rfl) (by kernel_rfl) rfl (by kernel_rfl) (by kernel_rfl) (by kernel_rfl) (fun _ _ _ h=>h) (by rfl) (by assumption) ?TI ?XV
 case TI=>(intro W hSW;obtain⟨c0,c1,c2,c3,c4,c5,c6,c7,c8⟩:=Er hSW;go_simp;try with_reducible rfl)
 (try simp only[Act.put,l0A,l0B,l0C,l0D,l0E,l0F])
 refine JH (i:=0) (j:=6) rfl rfl (by kernel_rfl) (fun K hK=>?_) (fun K hK=>?_)
 ·go_simp
  clear hHeld
  go_at_call 65
  refine (EC w1.heap.size (.slice none 0 0) [] 67324752 4 67324752 4 w1 (BP.nil _ _) (Nat.le_refl _) rfl rfl (by omega) (by omega) (by simp)).mono ?_
  rintro e w2 ⟨⟨us,rfl,ho⟩,hb⟩
  obtain⟨As,cs,rfl,_⟩:=ho.slice
  have ABz:=Lib.hid (AIs.out.Bq hb)
  have HB2:=Lib.hid (HB1.out.below hb HB1.out.lt)
  have Hb2:=Lib.hid (Hb1.out.trans (hb.mono Hb1.out.size))
  have AIt:=Lib.hid ho.bytes
  clear ho hb
  refine hK.out _ _ HB2.out (fun hHeld=>?_)
  clear hK K
  (try simp only[Act.put,l0A,l0B,l0C,l0D,l0E,l0F])
  refine JH (i:=2) (j:=6) rfl rfl (by kernel_rfl) (fun K hK=>?_) (fun K hK=>?_)
  ·go_simp
   clear hHeld
   go_at_call 84
   refine (HM.out w2).mono ?_
   rintro e w3 ⟨⟨um,rfl,ho⟩,hb⟩
   obtain⟨Am,cm,rfl,_⟩:=ho.slice
   have qG:=Lib.hid (ABz.out.Bq hb)
   have qH:=Lib.hid (AIt.out.Bq hb)
   have HB3:=Lib.hid (HB2.out.below hb HB2.out.lt)
   have Hb3:=Lib.hid (Hb2.out.trans (hb.mono Hb2.out.size))
   have AIu:=Lib.hid ho.bytes
   clear ho hb
   refine hK.out _ _ HB3.out (fun hHeld=>?_)
   clear hK K
   (try simp only[Act.put,l0A,l0B,l0C,l0D,l0E,l0F])
   refine JH (i:=6) (j:=8) rfl rfl (by kernel_rfl) (fun K hK=>?_) (fun K hK=>?_)
   ·obtain⟨w4,cn,hcv,hn1,hn2,hby,hb⟩:=HCv.out w3
    go_simp
    clear hHeld hcv
    have gp:=Lib.hid (qG.out.Bq hb)
    have gq:=Lib.hid (qH.out.Bq hb)
    have gu:=Lib.hid (AIu.out.Bq hb)
    have E9:=Lib.hid (HB3.out.below hb HB3.out.lt)
    have Hb4:=Lib.hid (Hb3.out.trans (hb.mono Hb3.out.size))
    have zG:Hid (Au w4 _ x.e.f.name):=Lib.hid ⟨_,cn,rfl,hn1,hn2,hby⟩
    clear hby hb hn1 hn2
    refine hK.out _ _ E9.out (fun hHeld=>?_)
    clear hK K
    (try simp only[Act.put,l0A,l0B,l0C,l0D,l0E,l0F])
    refine AL (i:=8) rfl (by kernel_rfl) (fun K hK=>?_)
    go_simp
    clear hHeld
    go_at_call 85
    refine (HX.out w4).mono ?_
    rintro e w5 ⟨⟨ux,rfl,ho⟩,hb⟩
    obtain⟨Ax,cx,rfl,_⟩:=ho.slice
    have gy:=Lib.hid (gp.out.Bq hb)
    have gz:=Lib.hid (gq.out.Bq hb)
    have iA:=Lib.hid (gu.out.Bq hb)
    have iB:=Lib.hid (zG.out.Bq hb)
    have II:=Lib.hid (E9.out.below hb E9.out.lt)
    have Hb5:=Lib.hid (Hb4.out.trans (hb.mono Hb4.out.size))
    have iC:=Lib.hid ho.bytes
    clear ho hb
    refine hK.out _ _ II.out (fun hHeld=>?_)
    clear hK K
    (try simp only[Act.put,l0A,l0B,l0C,l0D,l0E,l0F])
    rw[show Cj x.pk=Value.slice x.pk.1 x.pk.2.1 x.pk.2.2 from rfl]
    refine AL (i:=11) rfl (by kernel_rfl) (fun K hK=>?_)
    go_simp
    have HC:=Lib.hid (K8 [(.slice As (([]:List UInt8)++Ae 4 67324752).length cs,Du),(.slice Am (Bl x.e).length cm,Bl x.e),(.slice (some ⟨w3.heap.size,0,none⟩) x.e.f.name.length cn,x.e.f.name),(.slice Ax (Ba x.e.f).length cx,Ba x.e.f),(.slice x.pk.1 x.pk.2.1 x.pk.2.2,x.e.packed)] (Cs x.e) 5 w5 rfl (by
     intro q hq
     simp only[List.mem_cons,List.not_mem_nil,or_false]at hq
     rcases hq with rfl | rfl | rfl | rfl | rfl
     ·exact gz.out
     ·exact iA.out
     ·exact iB.out
     ·exact iC.out
     ·exact gy.out
    ) (by simp only[List.map_cons,List.map_nil,List.flatten_cons,List.flatten_nil,List.append_nil,Cs,List.append_assoc]) (by omega) (by omega) _ rfl)
    have BH:Below w5.heap.size w5 (w5.alloc (.cells #[.slice As (([]:List UInt8)++Ae 4 67324752).length cs,.slice Am (Bl x.e).length cm,.slice (some ⟨w3.heap.size,0,none⟩) x.e.f.name.length cn,.slice Ax (Ba x.e.f).length cx,.slice x.pk.1 x.pk.2.1 x.pk.2.2] 23)):=(Below.refl _ _).alloc (Nat.le_refl _) _
    refine hK.out _ _ (II.out.below BH II.out.lt) (fun hHeld=>?_)
    clear hK K
    (try simp only[Act.put,l0A,l0B,l0C,l0D,l0E,l0F])
    refine AL (i:=12) rfl (by kernel_rfl) (fun K hK=>?_)
    go_simp
    go_at_call 32
    refine (HC.out).mono ?_
    rintro e wz ⟨⟨vz,rfl,QR⟩,hbz⟩
    have zH:=Lib.hid QR
    have zI:=Lib.hid (Hb5.out.trans (hbz.mono Hb5.out.size))
    refine hK.out _ _ (II.out.below hbz II.out.lt) (fun hHeld=>?_)
    clear hK K QR hbz BH
    (try simp only[Act.put,l0A,l0B,l0C,l0D,l0E,l0F])
    refine BM rfl (by kernel_rfl) (by kernel_rfl) (fun K hK=>?_)
    go_simp
    refine hK.out _ _ ?_
    clear hK K hHeld
    go_wp2_with fail
    go_ret
    exact⟨⟨_,rfl,Ai zH.out Hb5.out.size⟩,zI.out⟩
   ·go_simp
    clear hHeld
    go_at_call 85
    refine (HX.out w3).mono ?_
    rintro e w4 ⟨⟨ux,rfl,ho⟩,hb⟩
    obtain⟨Ax,cx,rfl,_⟩:=ho.slice
    have gp:=Lib.hid (qG.out.Bq hb)
    have gq:=Lib.hid (qH.out.Bq hb)
    have gu:=Lib.hid (AIu.out.Bq hb)
    have E9:=Lib.hid (HB3.out.below hb HB3.out.lt)
    have Hb4:=Lib.hid (Hb3.out.trans (hb.mono Hb3.out.size))
    have ALY:=Lib.hid ho.bytes
    clear ho hb
    refine hK.out _ _ E9.out (fun hHeld=>?_)
    clear hK K
    (try simp only[Act.put,l0A,l0B,l0C,l0D,l0E,l0F])
    refine AL (i:=6) rfl (by kernel_rfl) (fun K hK=>?_)
    obtain⟨w5,cn,hcv,hn1,hn2,hby,hb⟩:=HCv.out w4
    go_simp
    clear hHeld hcv
    have gy:=Lib.hid (gp.out.Bq hb)
    have gz:=Lib.hid (gq.out.Bq hb)
    have iA:=Lib.hid (gu.out.Bq hb)
    have iC:=Lib.hid (ALY.out.Bq hb)
    have II:=Lib.hid (E9.out.below hb E9.out.lt)
    have Hb5:=Lib.hid (Hb4.out.trans (hb.mono Hb4.out.size))
    have iB:Hid (Au w5 _ x.e.f.name):=Lib.hid ⟨_,cn,rfl,hn1,hn2,hby⟩
    clear hby hb hn1 hn2
    refine hK.out _ _ II.out (fun hHeld=>?_)
    clear hK K
    (try simp only[Act.put,l0A,l0B,l0C,l0D,l0E,l0F])
    rw[show Cj x.pk=Value.slice x.pk.1 x.pk.2.1 x.pk.2.2 from rfl]
    refine AL (i:=11) rfl (by kernel_rfl) (fun K hK=>?_)
    go_simp
    have HC:=Lib.hid (K8 [(.slice As (([]:List UInt8)++Ae 4 67324752).length cs,Du),(.slice Am (Bl x.e).length cm,Bl x.e),(.slice (some ⟨w4.heap.size,0,none⟩) x.e.f.name.length cn,x.e.f.name),(.slice Ax (Ba x.e.f).length cx,Ba x.e.f),(.slice x.pk.1 x.pk.2.1 x.pk.2.2,x.e.packed)] (Cs x.e) 5 w5 rfl (by
     intro q hq
     simp only[List.mem_cons,List.not_mem_nil,or_false]at hq
     rcases hq with rfl | rfl | rfl | rfl | rfl
     ·exact gz.out
     ·exact iA.out
     ·exact iB.out
     ·exact iC.out
     ·exact gy.out
    ) (by simp only[List.map_cons,List.map_nil,List.flatten_cons,List.flatten_nil,List.append_nil,Cs,List.append_assoc]) (by omega) (by omega) _ rfl)
    have BH:Below w5.heap.size w5 (w5.alloc (.cells #[.slice As (([]:List UInt8)++Ae 4 67324752).length cs,.slice Am (Bl x.e).length cm,.slice (some ⟨w4.heap.size,0,none⟩) x.e.f.name.length cn,.slice Ax (Ba x.e.f).length cx,.slice x.pk.1 x.pk.2.1 x.pk.2.2] 23)):=(Below.refl _ _).alloc (Nat.le_refl _) _
    refine hK.out _ _ (II.out.below BH II.out.lt) (fun hHeld=>?_)
    clear hK K
    (try simp only[Act.put,l0A,l0B,l0C,l0D,l0E,l0F])
    refine AL (i:=12) rfl (by kernel_rfl) (fun K hK=>?_)
    go_simp
    go_at_call 32
    refine (HC.out).mono ?_
    rintro e wz ⟨⟨vz,rfl,QR⟩,hbz⟩
    have zH:=Lib.hid QR
    have zI:=Lib.hid (Hb5.out.trans (hbz.mono Hb5.out.size))
    refine hK.out _ _ (II.out.below hbz II.out.lt) (fun hHeld=>?_)
    clear hK K QR hbz BH
    (try simp only[Act.put,l0A,l0B,l0C,l0D,l0E,l0F])
    refine BM rfl (by kernel_rfl) (by kernel_rfl) (fun K hK=>?_)
    go_simp
    refine hK.out _ _ ?_
    clear hK K hHeld
    go_wp2_with fail
    go_ret
    exact⟨⟨_,rfl,Ai zH.out Hb5.out.size⟩,zI.out⟩
  ·obtain⟨w3,cn,hcv,hn1,hn2,hby,hb⟩:=HCv.out w2
   go_simp
   clear hHeld hcv
   have qG:=Lib.hid (ABz.out.Bq hb)
   have qH:=Lib.hid (AIt.out.Bq hb)
   have HB3:=Lib.hid (HB2.out.below hb HB2.out.lt)
   have Hb3:=Lib.hid (Hb2.out.trans (hb.mono Hb2.out.size))
   have AFL:Hid (Au w3 _ x.e.f.name):=Lib.hid ⟨_,cn,rfl,hn1,hn2,hby⟩
   clear hby hb hn1 hn2
   refine hK.out _ _ HB3.out (fun hHeld=>?_)
   clear hK K
   (try simp only[Act.put,l0A,l0B,l0C,l0D,l0E,l0F])
   refine AL (i:=2) rfl (by kernel_rfl) (fun K hK=>?_)
   go_simp
   clear hHeld
   go_at_call 84
   refine (HM.out w3).mono ?_
   rintro e w4 ⟨⟨um,rfl,ho⟩,hb⟩
   obtain⟨Am,cm,rfl,_⟩:=ho.slice
   have gp:=Lib.hid (qG.out.Bq hb)
   have gq:=Lib.hid (qH.out.Bq hb)
   have zG:=Lib.hid (AFL.out.Bq hb)
   have E9:=Lib.hid (HB3.out.below hb HB3.out.lt)
   have Hb4:=Lib.hid (Hb3.out.trans (hb.mono Hb3.out.size))
   have gu:=Lib.hid ho.bytes
   clear ho hb
   refine hK.out _ _ E9.out (fun hHeld=>?_)
   clear hK K
   (try simp only[Act.put,l0A,l0B,l0C,l0D,l0E,l0F])
   refine AL (i:=8) rfl (by kernel_rfl) (fun K hK=>?_)
   go_simp
   clear hHeld
   go_at_call 85
   refine (HX.out w4).mono ?_
   rintro e w5 ⟨⟨ux,rfl,ho⟩,hb⟩
   obtain⟨Ax,cx,rfl,_⟩:=ho.slice
   have gy:=Lib.hid (gp.out.Bq hb)
   have gz:=Lib.hid (gq.out.Bq hb)
   have iB:=Lib.hid (zG.out.Bq hb)
   have iA:=Lib.hid (gu.out.Bq hb)
   have II:=Lib.hid (E9.out.below hb E9.out.lt)
   have Hb5:=Lib.hid (Hb4.out.trans (hb.mono Hb4.out.size))
   have iC:=Lib.hid ho.bytes
   clear ho hb
   refine hK.out _ _ II.out (fun hHeld=>?_)
   clear hK K
   (try simp only[Act.put,l0A,l0B,l0C,l0D,l0E,l0F])
   rw[show Cj x.pk=Value.slice x.pk.1 x.pk.2.1 x.pk.2.2 from rfl]
   refine AL (i:=11) rfl (by kernel_rfl) (fun K hK=>?_)
   go_simp
   have HC:=Lib.hid (K8 [(.slice As (([]:List UInt8)++Ae 4 67324752).length cs,Du),(.slice Am (Bl x.e).length cm,Bl x.e),(.slice (some ⟨w2.heap.size,0,none⟩) x.e.f.name.length cn,x.e.f.name),(.slice Ax (Ba x.e.f).length cx,Ba x.e.f),(.slice x.pk.1 x.pk.2.1 x.pk.2.2,x.e.packed)] (Cs x.e) 5 w5 rfl (by
    intro q hq
    simp only[List.mem_cons,List.not_mem_nil,or_false]at hq
    rcases hq with rfl | rfl | rfl | rfl | rfl
    ·exact gz.out
    ·exact iA.out
    ·exact iB.out
    ·exact iC.out
    ·exact gy.out
   ) (by simp only[List.map_cons,List.map_nil,List.flatten_cons,List.flatten_nil,List.append_nil,Cs,List.append_assoc]) (by omega) (by omega) _ rfl)
   have BH:Below w5.heap.size w5 (w5.alloc (.cells #[.slice As (([]:List UInt8)++Ae 4 67324752).length cs,.slice Am (Bl x.e).length cm,.slice (some ⟨w2.heap.size,0,none⟩) x.e.f.name.length cn,.slice Ax (Ba x.e.f).length cx,.slice x.pk.1 x.pk.2.1 x.pk.2.2] 23)):=(Below.refl _ _).alloc (Nat.le_refl _) _
   refine hK.out _ _ (II.out.below BH II.out.lt) (fun hHeld=>?_)
   clear hK K
   (try simp only[Act.put,l0A,l0B,l0C,l0D,l0E,l0F])
   refine AL (i:=12) rfl (by kernel_rfl) (fun K hK=>?_)
   go_simp
   go_at_call 32
   refine (HC.out).mono ?_
   rintro e wz ⟨⟨vz,rfl,QR⟩,hbz⟩
   have zH:=Lib.hid QR
   have zI:=Lib.hid (Hb5.out.trans (hbz.mono Hb5.out.size))
   refine hK.out _ _ (II.out.below hbz II.out.lt) (fun hHeld=>?_)
   clear hK K QR hbz BH
   (try simp only[Act.put,l0A,l0B,l0C,l0D,l0E,l0F])
   refine BM rfl (by kernel_rfl) (by kernel_rfl) (fun K hK=>?_)
   go_simp
   refine hK.out _ _ ?_
   clear hK K hHeld
   go_wp2_with fail
   go_ret
   exact⟨⟨_,rfl,Ai zH.out Hb5.out.size⟩,zI.out⟩
 ·obtain⟨w2,cn,hcv,hn1,hn2,hby,hb⟩:=HCv.out w1
  go_simp
  clear hHeld hcv
  have ABz:=Lib.hid (AIs.out.Bq hb)
  have HB2:=Lib.hid (HB1.out.below hb HB1.out.lt)
  have Hb2:=Lib.hid (Hb1.out.trans (hb.mono Hb1.out.size))
  have ALZ:Hid (Au w2 _ x.e.f.name):=Lib.hid ⟨_,cn,rfl,hn1,hn2,hby⟩
  clear hby hb hn1 hn2
  refine hK.out _ _ HB2.out (fun hHeld=>?_)
  clear hK K
  (try simp only[Act.put,l0A,l0B,l0C,l0D,l0E,l0F])
  refine AL (i:=0) rfl (by kernel_rfl) (fun K hK=>?_)
  go_simp
  clear hHeld
  go_at_call 65
  refine (EC w2.heap.size (.slice none 0 0) [] 67324752 4 67324752 4 w2 (BP.nil _ _) (Nat.le_refl _) rfl rfl (by omega) (by omega) (by simp)).mono ?_
  rintro e w3 ⟨⟨us,rfl,ho⟩,hb⟩
  obtain⟨As,cs,rfl,_⟩:=ho.slice
  have qG:=Lib.hid (ABz.out.Bq hb)
  have AFL:=Lib.hid (ALZ.out.Bq hb)
  have HB3:=Lib.hid (HB2.out.below hb HB2.out.lt)
  have Hb3:=Lib.hid (Hb2.out.trans (hb.mono Hb2.out.size))
  have qH:=Lib.hid ho.bytes
  clear ho hb
  refine hK.out _ _ HB3.out (fun hHeld=>?_)
  clear hK K
  (try simp only[Act.put,l0A,l0B,l0C,l0D,l0E,l0F])
  refine AL (i:=2) rfl (by kernel_rfl) (fun K hK=>?_)
  go_simp
  clear hHeld
  go_at_call 84
  refine (HM.out w3).mono ?_
  rintro e w4 ⟨⟨um,rfl,ho⟩,hb⟩
  obtain⟨Am,cm,rfl,_⟩:=ho.slice
  have gp:=Lib.hid (qG.out.Bq hb)
  have zG:=Lib.hid (AFL.out.Bq hb)
  have gq:=Lib.hid (qH.out.Bq hb)
  have E9:=Lib.hid (HB3.out.below hb HB3.out.lt)
  have Hb4:=Lib.hid (Hb3.out.trans (hb.mono Hb3.out.size))
  have gu:=Lib.hid ho.bytes
  clear ho hb
  refine hK.out _ _ E9.out (fun hHeld=>?_)
  clear hK K
  (try simp only[Act.put,l0A,l0B,l0C,l0D,l0E,l0F])
  refine AL (i:=8) rfl (by kernel_rfl) (fun K hK=>?_)
  go_simp
  clear hHeld
  go_at_call 85
  refine (HX.out w4).mono ?_
  rintro e w5 ⟨⟨ux,rfl,ho⟩,hb⟩
  obtain⟨Ax,cx,rfl,_⟩:=ho.slice
  have gy:=Lib.hid (gp.out.Bq hb)
  have iB:=Lib.hid (zG.out.Bq hb)
  have gz:=Lib.hid (gq.out.Bq hb)
  have iA:=Lib.hid (gu.out.Bq hb)
  have II:=Lib.hid (E9.out.below hb E9.out.lt)
  have Hb5:=Lib.hid (Hb4.out.trans (hb.mono Hb4.out.size))
  have iC:=Lib.hid ho.bytes
  clear ho hb
  refine hK.out _ _ II.out (fun hHeld=>?_)
  clear hK K
  (try simp only[Act.put,l0A,l0B,l0C,l0D,l0E,l0F])
  rw[show Cj x.pk=Value.slice x.pk.1 x.pk.2.1 x.pk.2.2 from rfl]
  refine AL (i:=11) rfl (by kernel_rfl) (fun K hK=>?_)
  go_simp
  have HC:=Lib.hid (K8 [(.slice As (([]:List UInt8)++Ae 4 67324752).length cs,Du),(.slice Am (Bl x.e).length cm,Bl x.e),(.slice (some ⟨w1.heap.size,0,none⟩) x.e.f.name.length cn,x.e.f.name),(.slice Ax (Ba x.e.f).length cx,Ba x.e.f),(.slice x.pk.1 x.pk.2.1 x.pk.2.2,x.e.packed)] (Cs x.e) 5 w5 rfl (by
   intro q hq
   simp only[List.mem_cons,List.not_mem_nil,or_false]at hq
   rcases hq with rfl | rfl | rfl | rfl | rfl
   ·exact gz.out
   ·exact iA.out
   ·exact iB.out
   ·exact iC.out
   ·exact gy.out
  ) (by simp only[List.map_cons,List.map_nil,List.flatten_cons,List.flatten_nil,List.append_nil,Cs,List.append_assoc]) (by omega) (by omega) _ rfl)
  have BH:Below w5.heap.size w5 (w5.alloc (.cells #[.slice As (([]:List UInt8)++Ae 4 67324752).length cs,.slice Am (Bl x.e).length cm,.slice (some ⟨w1.heap.size,0,none⟩) x.e.f.name.length cn,.slice Ax (Ba x.e.f).length cx,.slice x.pk.1 x.pk.2.1 x.pk.2.2] 23)):=(Below.refl _ _).alloc (Nat.le_refl _) _
  refine hK.out _ _ (II.out.below BH II.out.lt) (fun hHeld=>?_)
  clear hK K
  (try simp only[Act.put,l0A,l0B,l0C,l0D,l0E,l0F])
  refine AL (i:=12) rfl (by kernel_rfl) (fun K hK=>?_)
  go_simp
  go_at_call 32
  refine (HC.out).mono ?_
  rintro e wz ⟨⟨vz,rfl,QR⟩,hbz⟩
  have zH:=Lib.hid QR
  have zI:=Lib.hid (Hb5.out.trans (hbz.mono Hb5.out.size))
  refine hK.out _ _ (II.out.below hbz II.out.lt) (fun hHeld=>?_)
  clear hK K QR hbz BH
  (try simp only[Act.put,l0A,l0B,l0C,l0D,l0E,l0F])
  refine BM rfl (by kernel_rfl) (by kernel_rfl) (fun K hK=>?_)
  go_simp
  refine hK.out _ _ ?_
  clear hK K hHeld
  go_wp2_with fail
  go_ret
  exact⟨⟨_,rfl,Ai zH.out Hb5.out.size⟩,zI.out⟩
end Go.Proofs.YtabdianhoabhhaaGreatDoor.Zip
namespace Go.Proofs.YtabdianhoabhhaaGreatDoor.Zip
open Go Go.RowKit Go.Proofs.YtabdianhoabhhaaGreatDoor Go.Proofs.YtabdianhoabhhaaGreatDoor.Bits Go.Proofs.YtabdianhoabhhaaGreatDoor.Merge Go.Proofs.YtabdianhoabhhaaGreatDoor.Name
set_option linter.unusedVariables false
set_option linter.unusedSimpArgs false
set_option maxRecDepth 100000 in
set_option maxHeartbeats 3000000 in
theorem qC (x:Ex) (w:World) (hg:Good x.e) (hx:Jj w x) (hat:x.at_ < 4294967296) :
  Calls Tryz.prog 64 #[eV x] w fun e w'=>(∃ v,e=.returned v∧BP w' w.heap.size v (EO x.e x.at_))∧Below w.heap.size w w':=by
 have HM:=Lib.hid (fun w'=>Uc x w' hg hx.yU hx.yX)
 have HX:=Lib.hid (fun w'=>Qe x w' hg)
 have HCv:=Lib.hid (aX x.e.f.name (by have:=hg.name;omega))
 have hlen:=Qg x.e x.at_
 have rJ:=EA x.e
 have hg1:=hg.name
 clear hg hx
 unfold eV at HM HX⊢
 go_enter Tryz.func64,Tryz.ntmps64
 obtain⟨b,hb⟩:∃ b,b=w.heap.size+1:=⟨_,rfl⟩
 have hbel:Below w.heap.size w (w.alloc (.cells #[.string (Name.AQ x.e.f.name),Cj x.bs,.int .i64 x.e.f.stamp,.int .i64 x.e.f.node,.bool x.e.f.gone,.int .i64 (x.e.method:Int),Cj x.pk,.int .u32 (x.e.crc:Int),.int .i64 (x.at_:Int)] 78)):=(Below.refl _ _).alloc (Nat.le_refl _) _
 have hblk:AX (w.alloc (.cells #[.string (Name.AQ x.e.f.name),Cj x.bs,.int .i64 x.e.f.stamp,.int .i64 x.e.f.node,.bool x.e.f.gone,.int .i64 (x.e.method:Int),Cj x.pk,.int .u32 (x.e.crc:Int),.int .i64 (x.at_:Int)] 78)) w.heap.size 78 (eC x).toArray:=AX.new w 78 #[.string (Name.AQ x.e.f.name),Cj x.bs,.int .i64 x.e.f.stamp,.int .i64 x.e.f.node,.bool x.e.f.gone,.int .i64 (x.e.method:Int),Cj x.pk,.int .u32 (x.e.crc:Int),.int .i64 (x.at_:Int)]
 have hsz:(w.alloc (.cells #[.string (Name.AQ x.e.f.name),Cj x.bs,.int .i64 x.e.f.stamp,.int .i64 x.e.f.node,.bool x.e.f.gone,.int .i64 (x.e.method:Int),Cj x.pk,.int .u32 (x.e.crc:Int),.int .i64 (x.at_:Int)] 78)).heap.size=b:=by rw[hb];simp
 go_upto_region 1 with fail
 generalize w.alloc (.cells #[.string (Name.AQ x.e.f.name),Cj x.bs,.int .i64 x.e.f.stamp,.int .i64 x.e.f.node,.bool x.e.f.gone,.int .i64 (x.e.method:Int),Cj x.pk,.int .u32 (x.e.crc:Int),.int .i64 (x.at_:Int)] 78)=w1 at *
 have HB1:=Lib.hid hblk
 have Hb1:=Lib.hid hbel
 have OU:b≤w1.heap.size:=by omega
 clear hblk hbel
 have HN:=Lib.hid (EC b (.slice none 0 0) _ 33639248 4 33639248 4 w1 (BP.nil _ _) OU rfl rfl (by omega) (by omega) (by simp[AZ,EA]))
 go_wp2_with fail
 refine (HN.out).mono ?_
 rintro e w2 ⟨⟨v2,rfl,ho2⟩,hb2⟩
 have HB2:=Lib.hid (HB1.out.below hb2 (by omega))
 have Hb2:=Lib.hid (Hb1.out.trans (hb2.mono (by omega)))
 have OV:b≤w2.heap.size:=Nat.le_trans OU hb2.size
 clear hb2 HN HB1 Hb1 OU
 have HN:=Lib.hid (EC b v2 _ 20 2 20 2 w2 ho2 OV rfl rfl (by omega) (by omega) (by simp[AZ,EA]))
 clear ho2
 go_wp2_with fail
 refine (HN.out).mono ?_
 rintro e w3 ⟨⟨v3,rfl,ho3⟩,hb3⟩
 have HB3:=Lib.hid (HB2.out.below hb3 (by omega))
 have Hb3:=Lib.hid (Hb2.out.trans (hb3.mono (by omega)))
 have PW:b≤w3.heap.size:=Nat.le_trans OV hb3.size
 clear hb3 HN HB2 Hb2 OV
 obtain⟨c0,c1,c2,c3,c4,c5,c6,c7,c8⟩:=Er HB3.out
 have hl6:(([]:List UInt8)++Ae 4 33639248++Ae 2 20).length=6:=by simp[AZ]
 obtain⟨X3,hX3⟩:∃ X,X=([]:List UInt8)++Ae 4 33639248++Ae 2 20:=⟨_,rfl⟩
 rw[←hX3]at ho3 hl6
 obtain⟨A3,d3,rfl,h3l,_,_,_⟩:=ho3.slice
 rw[hl6]at ho3 h3l⊢
 have dQ:=Lib.hid hX3
 have HXl:=Lib.hid hl6
 clear hX3 hl6
 go_wp2_with fail
 refine (HM.out w3).mono ?_
 rintro e w4 ⟨⟨vm,rfl,hom⟩,hb4⟩
 obtain⟨Am,cm,rfl,hm1,hm2,hm3,hm4⟩:=hom.slice
 have aj:=Lib.hid (ho3.keep hb4)
 have Hm3:=Lib.hid hm3
 have Hm4:=Lib.hid hm4
 have E9:=Lib.hid (HB3.out.below hb4 HB3.out.lt)
 have Hb4:=Lib.hid (Hb3.out.trans (hb4.mono (by omega)))
 have NU:b≤w4.heap.size:=Nat.le_trans PW hb4.size
 clear hom hb4 hm3 hm4 ho3 HB3 Hb3 PW c0 c1 c2 c3 c4 c5 c6 c7 c8 HM
 obtain⟨M,hM⟩:∃ M,M=Bl x.e:=⟨_,rfl⟩
 rw[←hM]at rJ Hm3 Hm4 hm1⊢
 have HMe:=Lib.hid hM
 clear hM
 rw[rJ]at hm1⊢
 go_wp2_with (at_builtin;refine AY _ rfl (.tmp 6) (.tmp 8) _ rfl b 5 _ 1 1 yj _ 6 (X3.map Eh) rfl (by have:=aj.out;unfold BP at this;rw[HXl.out]at this;exact this) Am 26 cm (M.map Eh) rfl (by rw[List.length_map,rJ]) Hm3.out (Ia M) (fun e=>absurd (Hm4.out e) (by omega)) (by unfold maxLen;omega) (by omega) NU ?_;intro v5 w5 hown5 hg5 _;have Ho5:Hid (BP w5 b v5 (X3++M)):=Lib.hid (by unfold BP;rw[List.length_append,List.map_append,rJ,HXl.out];exact hown5);have Hk5:=Lib.hid (own_below aj.out hg5 (Below.refl b w4) NU);clear hown5 hg5)
 have II:=Lib.hid (E9.out.below Hk5.out (by omega))
 have Hb5:=Lib.hid (Hb4.out.trans (Hk5.out.mono (by omega)))
 have OW:b≤w5.heap.size:=Nat.le_trans NU Hk5.out.size
 have RF:BP w5 b v5 (([]:List UInt8)++Ae 4 33639248++Ae 2 20++Bl x.e):=by rw[←dQ.out,←HMe.out];exact Ho5.out
 clear aj Ho5 Hk5 E9 Hb4 NU Hm3 Hm4
 have HN:=Lib.hid (EC b v5 _ 0 10 0 10 w5 RF OW rfl rfl (by omega) (by omega) (by simp[AZ,EA]))
 clear RF
 refine (HN.out).mono ?_
 rintro e w6 ⟨⟨v6,rfl,Rw⟩,hb6⟩
 have OZ:=Lib.hid (II.out.below hb6 (by omega))
 have Jl:=Lib.hid (Hb5.out.trans (hb6.mono (by omega)))
 have RU:b≤w6.heap.size:=Nat.le_trans OW hb6.size
 clear hb6 HN II Hb5 OW
 have HN:=Lib.hid (EC b v6 _ x.at_ 4 (x.at_:Int) 4 w6 Rw RU rfl rfl (by omega) (by omega) (by simp[AZ,EA]))
 have AIy:=OZ
 clear Rw
 obtain⟨c0,c1,c2,c3,c4,c5,c6,c7,c8⟩:=Er AIy.out
 go_wp2_with fail
 refine (HN.out).mono ?_
 rintro e w7 ⟨⟨v7,rfl,kY⟩,Ir⟩
 have ZE:=Lib.hid (OZ.out.below Ir (by omega))
 have Fe:=Lib.hid (Jl.out.trans (Ir.mono (by omega)))
 have YE:b≤w7.heap.size:=Nat.le_trans RU Ir.size
 clear c0 c1 c2 c3 c4 c5 c6 c7 c8 AIy Ir HN OZ Jl RU
 obtain⟨XR,hXR⟩:∃ X,X=(([]:List UInt8)++Ae 4 33639248++Ae 2 20++Bl x.e++Ae 10 0++Ae 4 x.at_):=⟨_,rfl⟩
 rw[←hXR]at kY
 have hxl:XR.length=46:=by rw[hXR];simp[AZ,EA]
 obtain⟨Ar,cr,rfl,hr1,hr2,hr3,_⟩:=kY.slice
 have AIz:Hid (Au w7 (.slice Ar XR.length cr) XR):=Lib.hid ⟨Ar,cr,rfl,hr1,hr2,hr3⟩
 have HXR:=Lib.hid hXR
 have ANb:=Lib.hid hxl
 clear kY hr3 hxl hXR
 go_wp2_with fail
 refine Bu (fun W=>AX W w.heap.size 78 (eC x).toArray) 9 (by kernel_rfl) ?_
 have BH:Below w7.heap.size w7 w7.drew:=(Below.refl _ _).drew
 have JC:Hid (AX w7.drew w.heap.size 78 (eC x).toArray):=Lib.hid ZE.out
 have EG:=Lib.hid (Fe.out.drew)
 have AI0:=Lib.hid (AIz.out.Bq BH)
 have hHeld:=JC.out
 clear BH AIz ZE Fe YE
 generalize w7.drew=w8 at *
 refine AA (i:=0) (v:=?vd0) (by kernel_rfl) (by kernel_rfl) rfl (by kernel_rfl) (by kernel_rfl) (by kernel_rfl) (fun _ _ _ h=>h) (by rfl) (by assumption) ?ALb ?ALc
 case ALb=>(intro W hSW;obtain⟨c0,c1,c2,c3,c4,c5,c6,c7,c8⟩:=Er hSW;go_simp;try with_reducible rfl)
 (try simp only[Act.put,l0A,l0B,l0C,l0D,l0E,l0F])
 refine AA (i:=1) (v:=?vd1) (by kernel_rfl) (by kernel_rfl) rfl (by kernel_rfl) (by kernel_rfl) (by kernel_rfl) (fun _ _ _ h=>h) (by rfl) (by assumption) ?ALd ?ALe
 case ALd=>(intro W hSW;obtain⟨c0,c1,c2,c3,c4,c5,c6,c7,c8⟩:=Er hSW;go_simp;try with_reducible rfl)
 (try simp only[Act.put,l0A,l0B,l0C,l0D,l0E,l0F])
 refine AA (i:=2) (v:=?vd2) (by kernel_rfl) (by kernel_rfl) rfl (by kernel_rfl) (by kernel_rfl) (by kernel_rfl) (fun _ _ _ h=>h) (by rfl) (by assumption) ?ALf ?ALg
 case ALf=>(intro W hSW;obtain⟨c0,c1,c2,c3,c4,c5,c6,c7,c8⟩:=Er hSW;go_simp;try with_reducible rfl)
 (try simp only[Act.put,l0A,l0B,l0C,l0D,l0E,l0F])
 refine AA (i:=3) (v:=?vd3) (by kernel_rfl) (by kernel_rfl) rfl (by kernel_rfl) (by kernel_rfl) (by kernel_rfl) (fun _ _ _ h=>h) (by rfl) (by assumption) ?ALh ?ALi
 case ALh=>(intro W hSW;obtain⟨c0,c1,c2,c3,c4,c5,c6,c7,c8⟩:=Er hSW;go_simp;try with_reducible rfl)
 (try simp only[Act.put,l0A,l0B,l0C,l0D,l0E,l0F])
 refine AA (i:=5) (v:=?vd5) (by kernel_rfl) (by kernel_rfl) rfl (by kernel_rfl) (by kernel_rfl) (by kernel_rfl) (fun _ _ _ h=>h) (by rfl) (by assumption) ?ALj ?ALk
 case ALj=>(intro W hSW;obtain⟨c0,c1,c2,c3,c4,c5,c6,c7,c8⟩:=Er hSW;go_simp;try with_reducible rfl)
 (try simp only[Act.put,l0A,l0B,l0C,l0D,l0E,l0F])
 refine JH (i:=4) (j:=6) rfl rfl (by kernel_rfl) (fun K hK=>?_) (fun K hK=>?_)
 ·obtain⟨w9,cn,hcv,hn1,hn2,hby,hb⟩:=HCv.out w8
  go_simp
  clear hHeld hcv
  have AFN:=Lib.hid (AI0.out.Bq hb)
  have KZ:=Lib.hid (JC.out.below hb JC.out.lt)
  have Pg:=Lib.hid (EG.out.trans (hb.mono EG.out.size))
  have ALl:Hid (Au w9 _ x.e.f.name):=Lib.hid ⟨_,cn,rfl,hn1,hn2,hby⟩
  clear hby hb hn1 hn2
  refine hK.out _ _ KZ.out (fun hHeld=>?_)
  clear hK K
  (try simp only[Act.put,l0A,l0B,l0C,l0D,l0E,l0F])
  refine AL (i:=6) rfl (by kernel_rfl) (fun K hK=>?_)
  go_simp
  clear hHeld
  go_at_call 85
  refine (HX.out w9).mono ?_
  rintro e Le ⟨⟨ux,rfl,ho⟩,hb⟩
  obtain⟨Ax,cx,rfl,_⟩:=ho.slice
  have zN:=Lib.hid (AFN.out.Bq hb)
  have zO:=Lib.hid (ALl.out.Bq hb)
  have Ma:=Lib.hid (KZ.out.below hb KZ.out.lt)
  have Mo:=Lib.hid (Pg.out.trans (hb.mono Pg.out.size))
  have zP:=Lib.hid ho.bytes
  clear ho hb
  refine hK.out _ _ Ma.out (fun hHeld=>?_)
  clear hK K
  (try simp only[Act.put,l0A,l0B,l0C,l0D,l0E,l0F])
  refine AL (i:=7) rfl (by kernel_rfl) (fun K hK=>?_)
  go_simp
  have HC:=Lib.hid (K8 [(.slice Ar XR.length cr,XR),(.slice (some ⟨w8.heap.size,0,none⟩) x.e.f.name.length cn,x.e.f.name),(.slice Ax (Ba x.e.f).length cx,Ba x.e.f)] (EO x.e x.at_) 3 Le rfl (by
   intro q hq
   simp only[List.mem_cons,List.not_mem_nil,or_false]at hq
   rcases hq with rfl | rfl | rfl
   ·exact zN.out
   ·exact zO.out
   ·exact zP.out
  ) (by simp only[List.map_cons,List.map_nil,List.flatten_cons,List.flatten_nil,List.append_nil,HXR.out,EO,List.nil_append,List.append_assoc]) (by omega) (by omega) _ rfl)
  have BH:Below Le.heap.size Le (Le.alloc (.cells #[.slice Ar XR.length cr,.slice (some ⟨w8.heap.size,0,none⟩) x.e.f.name.length cn,.slice Ax (Ba x.e.f).length cx] 23)):=(Below.refl _ _).alloc (Nat.le_refl _) _
  refine hK.out _ _ (Ma.out.below BH Ma.out.lt) (fun hHeld=>?_)
  clear hK K
  (try simp only[Act.put,l0A,l0B,l0C,l0D,l0E,l0F])
  refine AL (i:=8) rfl (by kernel_rfl) (fun K hK=>?_)
  go_simp
  go_at_call 32
  refine (HC.out).mono ?_
  rintro e wz ⟨⟨vz,rfl,QR⟩,hbz⟩
  have zH:=Lib.hid QR
  have zI:=Lib.hid (Mo.out.trans (hbz.mono Mo.out.size))
  refine hK.out _ _ (Ma.out.below hbz Ma.out.lt) (fun hHeld=>?_)
  clear hK K QR hbz BH
  (try simp only[Act.put,l0A,l0B,l0C,l0D,l0E,l0F])
  refine BM rfl (by kernel_rfl) (by kernel_rfl) (fun K hK=>?_)
  go_simp
  refine hK.out _ _ ?_
  clear hK K hHeld
  go_wp2_with fail
  go_ret
  exact⟨⟨_,rfl,Ai zH.out Mo.out.size⟩,zI.out⟩
 ·go_simp
  clear hHeld
  go_at_call 85
  refine (HX.out w8).mono ?_
  rintro e w9 ⟨⟨ux,rfl,ho⟩,hb⟩
  obtain⟨Ax,cx,rfl,_⟩:=ho.slice
  have AFN:=Lib.hid (AI0.out.Bq hb)
  have KZ:=Lib.hid (JC.out.below hb JC.out.lt)
  have Pg:=Lib.hid (EG.out.trans (hb.mono EG.out.size))
  have ALm:=Lib.hid ho.bytes
  clear ho hb
  refine hK.out _ _ KZ.out (fun hHeld=>?_)
  clear hK K
  (try simp only[Act.put,l0A,l0B,l0C,l0D,l0E,l0F])
  refine AL (i:=4) rfl (by kernel_rfl) (fun K hK=>?_)
  obtain⟨Le,cn,hcv,hn1,hn2,hby,hb⟩:=HCv.out w9
  go_simp
  clear hHeld hcv
  have zN:=Lib.hid (AFN.out.Bq hb)
  have zP:=Lib.hid (ALm.out.Bq hb)
  have Ma:=Lib.hid (KZ.out.below hb KZ.out.lt)
  have Mo:=Lib.hid (Pg.out.trans (hb.mono Pg.out.size))
  have zO:Hid (Au Le _ x.e.f.name):=Lib.hid ⟨_,cn,rfl,hn1,hn2,hby⟩
  clear hby hb hn1 hn2
  refine hK.out _ _ Ma.out (fun hHeld=>?_)
  clear hK K
  (try simp only[Act.put,l0A,l0B,l0C,l0D,l0E,l0F])
  refine AL (i:=7) rfl (by kernel_rfl) (fun K hK=>?_)
  go_simp
  have HC:=Lib.hid (K8 [(.slice Ar XR.length cr,XR),(.slice (some ⟨w9.heap.size,0,none⟩) x.e.f.name.length cn,x.e.f.name),(.slice Ax (Ba x.e.f).length cx,Ba x.e.f)] (EO x.e x.at_) 3 Le rfl (by
   intro q hq
   simp only[List.mem_cons,List.not_mem_nil,or_false]at hq
   rcases hq with rfl | rfl | rfl
   ·exact zN.out
   ·exact zO.out
   ·exact zP.out
  ) (by simp only[List.map_cons,List.map_nil,List.flatten_cons,List.flatten_nil,List.append_nil,HXR.out,EO,List.nil_append,List.append_assoc]) (by omega) (by omega) _ rfl)
  have BH:Below Le.heap.size Le (Le.alloc (.cells #[.slice Ar XR.length cr,.slice (some ⟨w9.heap.size,0,none⟩) x.e.f.name.length cn,.slice Ax (Ba x.e.f).length cx] 23)):=(Below.refl _ _).alloc (Nat.le_refl _) _
  refine hK.out _ _ (Ma.out.below BH Ma.out.lt) (fun hHeld=>?_)
  clear hK K
  (try simp only[Act.put,l0A,l0B,l0C,l0D,l0E,l0F])
  refine AL (i:=8) rfl (by kernel_rfl) (fun K hK=>?_)
  go_simp
  go_at_call 32
  refine (HC.out).mono ?_
  rintro e wz ⟨⟨vz,rfl,QR⟩,hbz⟩
  have zH:=Lib.hid QR
  have zI:=Lib.hid (Mo.out.trans (hbz.mono Mo.out.size))
  refine hK.out _ _ (Ma.out.below hbz Ma.out.lt) (fun hHeld=>?_)
  clear hK K QR hbz BH
  (try simp only[Act.put,l0A,l0B,l0C,l0D,l0E,l0F])
  refine BM rfl (by kernel_rfl) (by kernel_rfl) (fun K hK=>?_)
  go_simp
  refine hK.out _ _ ?_
  clear hK K hHeld
  go_wp2_with fail
  go_ret
  exact⟨⟨_,rfl,Ai zH.out Mo.out.size⟩,zI.out⟩
end Go.Proofs.YtabdianhoabhhaaGreatDoor.Zip
namespace Go.Proofs.YtabdianhoabhhaaGreatDoor
open Go Go.RowKit
set_option linter.unusedVariables false
def Two (w0 w:World) (e:TypeId) (v1 v2:Value) (xs ys:List Value) (l:List (Nat×TypeId×Array Value)):Prop:=
 w.ownsRow w0.heap.size e 1 v1 xs.length xs∧w.ownsRow w0.heap.size e 1 v2 ys.length ys∧Below w0.heap.size w0 w∧
 (∀ g,v1.ownBlock=some g→v2.ownBlock≠some g)∧∀ p∈l,AX w p.1 p.2.1 p.2.2∧v1.ownBlock≠some p.1∧v2.ownBlock≠some p.1
section
variable {w0 w:World} {e:TypeId} {v1 v2:Value} {xs ys:List Value} {l:List (Nat×TypeId×Array Value)}
theorem Two.symm (h:Two w0 w e v1 v2 xs ys l):Two w0 w e v2 v1 ys xs l:=
 ⟨h.2.1,h.1,h.2.2.1,fun g h1 h2=>h.2.2.2.1 g h2 h1,fun p hp=>⟨(h.2.2.2.2 p hp).1,(h.2.2.2.2 p hp).2.2,(h.2.2.2.2 p hp).2.1⟩⟩
theorem Two.clear (h:Two w0 w e v1 v2 xs ys l):Two w0 w e v1 v2 xs ys []:=⟨h.1,h.2.1,h.2.2.1,h.2.2.2.1,fun p hp=>by simp at hp⟩
theorem Two.drew (h:Two w0 w e v1 v2 xs ys l):Two w0 w.drew e v1 v2 xs ys l:=⟨h.1,h.2.1,h.2.2.1.drew,h.2.2.2.1,h.2.2.2.2⟩
theorem Two.alloc (h:Two w0 w e v1 v2 xs ys l) (t:TypeId) (cs:Array Value):Two w0 (w.alloc (.cells cs t)) e v1 v2 xs ys ((w.heap.size,t,cs) :: l):=by
 have hb:=(Below.refl w.heap.size w).alloc (Nat.le_refl _) (.cells cs t)
 refine⟨AP h.1 hb,AP h.2.1 hb,h.2.2.1.alloc h.2.2.1.size _,h.2.2.2.1,fun p hp=>?_⟩
 rcases List.mem_cons.1 hp with rfl | hp
 ·exact⟨AX.new w t cs,fun hk=>by have:=(h.1.lt _ hk).2;omega,fun hk=>by have:=(h.2.1.lt _ hk).2;omega⟩
 ·exact⟨(h.2.2.2.2 p hp).1.alloc _,(h.2.2.2.2 p hp).2⟩
theorem Two.other (h:Two w0 w e v1 v2 xs ys l) (o:Obj):Two w0 (w.alloc o) e v1 v2 xs ys l:=by
 have hb:=(Below.refl w.heap.size w).alloc (Nat.le_refl _) o
 exact⟨AP h.1 hb,AP h.2.1 hb,h.2.2.1.alloc h.2.2.1.size _,h.2.2.2.1,fun p hp=>⟨(h.2.2.2.2 p hp).1.alloc _,(h.2.2.2.2 p hp).2⟩⟩
theorem Two.cell (h:Two w0 w e v1 v2 xs ys l) {g:Nat} {t:TypeId} {cs:Array Value} (hm:(g,t,cs)∈l) (i:Nat):w.cell? ⟨g,i,none⟩=cs[i]?:=(h.2.2.2.2 _ hm).1.cell i
theorem Two.lt (h:Two w0 w e v1 v2 xs ys l) {g:Nat} {t:TypeId} {cs:Array Value} (hm:(g,t,cs)∈l):g < w.heap.size:=(h.2.2.2.2 _ hm).1.lt
theorem jk {w':World} {base size n:Nat} {v u:Value} {zs:List Value} (h:w.ownsRow base e size v n zs) (hg:w.grownBy w' u.ownBlock) (hd:∀ g,u.ownBlock=some g→v.ownBlock≠some g):w'.ownsRow base e size v n zs:=by
 refine⟨h.1,?_⟩
 rcases h.2 with hn | ⟨g,cap,cur,rfl,hbg,hk,r⟩
 ·exact .inl hn
 ·refine .inr ⟨g,cap,cur,rfl,hbg,?_,r⟩
  rw[hg.block g (lt_of_block hk) (fun hh=>hd g hh.symm (by simp[Value.ownBlock]))];exact hk
end
end Go.Proofs.YtabdianhoabhhaaGreatDoor
