/- texts joined: ZipEnts ZipGet ZipNames ShScan ShChk ShFlush. -/
import Derived.Test.YtabdianhoabhhaaGreatDoorSbQ10
import Derived.Test.YtabdianhoabhhaaGreatDoorSbQ9
import Derived.Deep.CutRange
import Derived.Test.YtabdianhoabhhaaGreatDoorSbQ8
import Derived.Test.YtabdianhoabhhaaGreatDoorSbQ3
import Derived.Test.YtabdianhoabhhaaGreatDoorSbQ7
open List renaming getElem_toArray→l0A,getElem_cons_zero→l0B,getElem_cons_succ→l0C,setIfInBounds_toArray→l0D,set_cons_zero→l0E,set_cons_succ→l0F
namespace Go.Proofs.YtabdianhoabhhaaGreatDoor.Zip
open Go Go.RowKit Go.Proofs.YtabdianhoabhhaaGreatDoor Go.Proofs.YtabdianhoabhhaaGreatDoor.Bits Go.Proofs.YtabdianhoabhhaaGreatDoor.Merge Go.Proofs.YtabdianhoabhhaaGreatDoor.Name
open Go.Proofs.YtabdianhoabhhaaGreatDoor.Inf (EK GN)
set_option linter.unusedVariables false
set_option linter.unusedSimpArgs false
section
variable {P:Program} {ops:Array Oper} {Q:Exit→Act→World→Prop} {md:Region.Mode} {S:World→Prop} {n:Nat}
theorem BF {i:Nat} {oi:Oper} {fuel:Nat} {listed:Array Bool} {a:Act} {w:World} (hl:OC md ops ops.size n i=true) (hcl:Ru md ops listed=true) (hi:ops[i]?=some oi)
  (hs:Region.noSelect ops=true) (hf:Region.free md ops listed i=true) (hr:(Region.ready md ops listed).contains i=true)
  (hQ:∀ c a w,Q (.panic c) (a.put oi.dst undef) w→Q (.panic c) a w) (hw:Region.wanted oi (yielded ops a.tmps)=false) (hS:S w)
  (h:wpAnyS P md ops Q S n fuel (listed.setIfInBounds i true) (a.put oi.dst undef) w):wpAnyS P md ops Q S n (fuel+1) listed a w:=
 Nc hl hi (Region.noSelect_spec hs) hQ fuel listed a w (Vy hcl) (Region.free_spec hi hf) (by simpa using hr) (.inr ⟨hw,rfl⟩) hS h
end
def yx (Q:Exit→Act→World→Prop) (ch:List PanicEntry) (D:List Deferred) (v2 v3:Value) (R:World→Prop):Exit→Act→World→Prop:=fun e a w=>
 (e=.normal∧Q .normal a w)∨(e=.panic ch∧(a.defers=D∧a.tmps.getD 2 undef=v2∧a.tmps.getD 3 undef=v3)∧R w)
theorem ABu {P:Program} {c:Code} {Q:Exit→Act→World→Prop} {a:Act} {w:World} (ch:List PanicEntry) (D:List Deferred) (v2 v3:Value) (R:World→Prop)
  (hp:∀ a w,a.defers=D→a.tmps.getD 2 undef=v2→a.tmps.getD 3 undef=v3→R w→Q (.panic ch) a w) (h:c.wp P (yx Q ch D v2 v3 R) a w):c.wp P Q a w:=
 wp_mono h (by
  rintro e a w (⟨rfl,h⟩ | ⟨rfl,⟨h1,h2,h3⟩,h4⟩)
  ·exact h
  ·exact hp a w h1 h2 h3 h4)
theorem PY (l:Array Value) (d t:Nat) (v:Value) (h:d≠t):(l.setIfInBounds d v).getD t undef=l.getD t undef:=by
 simp only[Array.getD_eq_getD_getElem?]
 rw[Array.getElem?_setIfInBounds_ne h]
theorem aT {Q:Exit→Act→World→Prop} {ch c:List PanicEntry} {D:List Deferred} {v2 v3:Value} {R:World→Prop} {a:Act} {w:World} {d:Tmp} {v:Value} (h2:d≠2) (h3:d≠3)
  (h:yx Q ch D v2 v3 R (.panic c) (a.put (some d) v) w):yx Q ch D v2 v3 R (.panic c) a w:=by
 rcases h with ⟨h,_⟩ | ⟨h,⟨h4,h5,h6⟩,h7⟩
 ·cases h
 ·refine .inr ⟨h,⟨h4,?_,?_⟩,h7⟩
  ·rw[←h5];exact (PY _ _ _ _ h2).symm
  ·rw[←h6];exact (PY _ _ _ _ h3).symm
theorem yz {P:Program} {o:Oper} {a:Act} {w:World} {K:Act→World→Prop} {Q:Exit→Act→World→Prop} (s x:Operand) (t:TypeId)
  (ho:o.op=.call { callee:=.builtin .append,args:=#[s,x],argTypes:=#[t,t] })
  (base:Nat) (e:TypeId) (z:Value) (size bytes:Nat) (hT:Bo P t e z size bytes)
  (v:Value) (n:Nat) (xs:List Value) (hs:a.eval s=v) (hown:w.ownsRow base e size v n xs)
  (A:Option Addr) (m c:Nat) (news:List Value) (hx:a.eval x=.slice A m c) (hl:news.length=m*size) (hr:AR w A news) (h1:∀ u∈news,u.oneCell'=true)
  (hA:A=none→m=0) (h63:n+m≤maxLen) (hbytes:(n+m)*bytes≤140737488355328) (hbase:base≤w.heap.size)
  (h:∀ v' w',w'.ownsRow base e size v' (n+m) (xs++news)→w.grownBy w' v.ownBlock→(v'.ownBlock=v.ownBlock∨v'.ownBlock=some w.heap.size)→K (a.put o.dst v') w'):Oper.wp P o a w K Q:=by
 obtain⟨v',w',hrun,h2,h3,h4⟩:=GI (P:=P) w base t o.type e z size bytes hT v n xs hown A m c news hl hr h1 hA h63 hbytes hbase
 unfold Oper.wp execOp
 simp only[ho,resolve,invoke,builtin,Sem.run_bind,Sem.run_pure,Result.andThen_ok,List.map_toArray,List.map_cons,List.map_nil,hs,hx,hrun]
 exact h _ _ h2 h3 h4
theorem results2 {P:Program} {fn:Func} {p2 p3:Tmp} {t2 t3:TypeId} (h:fn.results=#[.cell p2 t2,.cell p3 t3]) (tmps:Array Value) (w:World) (a2 a3:Addr) (v2 v3:Value)
  (h2:tmps.getD p2 undef=.pointer (some a2)) (h3:tmps.getD p3 undef=.pointer (some a3)) (l2:(loadVar t2 a2).run P w=.ok v2 w) (l3:(loadVar t3 a3).run P w=.ok v3 w) :
  (results fn tmps).run P w=.ok (.tuple #[v2,v3]) w:=by
 have h2':tmps[p2]?.getD undef=.pointer (some a2):=by simpa using h2
 have h3':tmps[p3]?.getD undef=.pointer (some a3):=by simpa using h3
 simp[results,h,h2',h3',asAddr,l2,l3]
theorem ABv (w:World) (a:Addr) (v:Value) (h:w.cell? a=some v):(loadVar 76 a).run Tryz.prog w=.ok v w:=by
 simp[loadVar,run_underlying Tryz.underlying76,go_sem,h]
theorem ABw (w:World) (a:Addr) (v:Value) (h:w.cell? a=some v):(loadVar 4 a).run Tryz.prog w=.ok v w:=by
 simp[loadVar,run_underlying Tryz.underlying4,go_sem,h]
theorem WW {w:World} {B g2 g3:Nat} {v2 v3:Value} (h:NV w B g2 g3 v2 v3) (tmps:Array Value) (h2:tmps.getD 2 undef=.pointer (some ⟨g2,0,none⟩)) (h3:tmps.getD 3 undef=.pointer (some ⟨g3,0,none⟩)) :
  (results Tryz.f47 tmps).run Tryz.prog w=.ok (.tuple #[v2,v3]) w:=
 results2 Tryz.results47 tmps w _ _ _ _ h2 h3 (ABv _ _ _ (h.b2.cell 0)) (ABw _ _ _ (h.b3.cell 0))
theorem y7 (w:World):NV ((w.alloc (.cells #[.slice none 0 0] 76)).alloc (.cells #[.bool false] 4)) w.heap.size w.heap.size (w.heap.size+1) (.slice none 0 0) (.bool false):=by
 have b2:=(AX.new w 76 #[.slice none 0 0]).alloc (.cells #[.bool false] 4)
 have b3:=AX.new (w.alloc (.cells #[.slice none 0 0] 76)) 4 #[.bool false]
 simp only[World.size_alloc]at b2 b3
 exact⟨Nat.le_refl _,by omega,b2,b3⟩
theorem IZ.keeps {w w':World} {B B0:Nat} {A:Option Addr} {b:List UInt8} {x:Ex} {e:Dp} {T:List TypeId} (h:IZ w B A b x e) (hk:AB B0 T w w') (hu:5∉T):IZ w' B A b x e:=
 ⟨h.is,h.at0,hk.own h.own hu,h.len,h.room,h.cap,h.within⟩
theorem IZ.AFH {w:World} {B:Nat} {A:Option Addr} {b:List UInt8} {x:Ex} (h:IZ w B A b x x.e) (hl:JS w B A b):VI B w x:=fun w2 h2=>by
 have ho2:BP w2 B (Cj x.bs) x.e.f.bytes:=h2.Jf.own h.own (by decide)
 obtain⟨A',c,e,q1,q2,q3,_⟩:=ho2.slice
 unfold Cj at e
 injection e with e1 e2 e3
 exact⟨e2,by rw[e3];exact q1,by rw[e3];exact q2,by rw[e1];exact q3,h.len,h.room,h.cap,h.within.at_ _ (hl.keeps h2.Jf).at_⟩
theorem gX {w:World} {B B':Nat} {A:Option Addr} {b:List UInt8} {x:Ex} {e:Dp} (h:IZ w B A b x e) (hb:B'≤B):IZ w B' A b x e:=
 ⟨h.is,h.at0,Ai h.own hb,h.len,h.room,h.cap,h.within⟩
structure JV (w:World) (B g2 q:Nat) (A:Option Addr) (n c p:Nat) (b:List UInt8) (xs:List Ex) (l:List Dp) (vl:Value):Prop where
 MO:JR w q A n c p
 pn:p≤n
 low:JS w q A b
 res:AX w g2 76 #[vl]
 own:w.ownsRow B 78 9 vl xs.length (xs.flatMap eC)
 is:xs.map Ex.e=l
 all:∀ x∈xs,IZ w B A b x x.e
theorem JV.below {w w':World} {B g2 q:Nat} {A:Option Addr} {n c p:Nat} {b:List UInt8} {xs:List Ex} {l:List Dp} {vl:Value} (h:JV w B g2 q A n c p b xs l vl) (hb:Below w.heap.size w w'):JV w' B g2 q A n c p b xs l vl:=
 ⟨AX.below h.MO hb (AX.lt h.MO),h.pn,⟨BD.below h.low.at_ hb,h.low.low⟩,h.res.below hb h.res.lt,AP h.own hb,h.is,fun x hx=>⟨(h.all x hx).is,(h.all x hx).at0,AP (h.all x hx).own hb,(h.all x hx).len,(h.all x hx).room,(h.all x hx).cap,(h.all x hx).within⟩⟩
def outT:List TypeId:=[76,4]
theorem cells3 {W:World} {q g2:Nat} {A:Option Addr} {n c p:Nat} {vl:Value} (h:JR W q A n c p∧AX W g2 76 #[vl]) :
  W.cell? ⟨q,0,none⟩=some (.slice A n c)∧W.cell? ⟨q,1,none⟩=some (.int .i64 (p:Int))∧W.cell? ⟨g2,0,none⟩=some vl:=⟨h.1.c0,h.1.c1,h.2.cell 0⟩
def Ug (R:Option (List Dp)) (A:Option Addr) (b:List UInt8) (w:World) (e:Ending) (w':World):Prop:=match R with
   | none=>e=.returned (.tuple #[.slice none 0 0,.bool false])
   | some l=>∃ (xs:List Ex) (vl:Value),e=.returned (.tuple #[vl,.bool (decide (laidB l=b))])∧xs.map Ex.e=l∧w'.ownsRow w.heap.size 78 9 vl xs.length ((Lp xs 0).flatMap eC)∧(∀ x∈xs,IZ w' w.heap.size A b x x.e)
set_option maxRecDepth 100000 in
set_option maxHeartbeats 4000000 in
theorem aU (A:Option Addr) (n c:Nat) (b:List UInt8) (w:World) (hn:b.length=n) (hnc:n≤c) (hcm:c≤maxLen) (h12:n≤12000) (hA:BD w A b) :
  Calls Tryz.prog 47 #[.slice A n c] w fun e w'=>Ug (Dt b 14 0 []) A b w e w'∧Below w.heap.size w w':=by
 have hmf:∀ (fn:Fn) (first cap:Array Value) (w:World),(Instr.makeFunc fn first cap).run Tryz.prog w=.ok (.func fn first cap) w:=fun _ _ _ _=>rfl
 have Hn:=Lib.hid hn
 have HA:=Lib.hid hA
 obtain⟨R,hR⟩:∃ R,R=Dt b 14 0 []:=⟨_,rfl⟩
 rw[←hR]
 have HR:=Lib.hid hR
 clear hn hA hR
 go_enter_defers Tryz.func47,Tryz.ntmps47
 go_wp2_with fail
 have QK:=Lib.hid (y7 w)
 have BH:Below w.heap.size w ((w.alloc (.cells #[.slice none 0 0] 76)).alloc (.cells #[.bool false] 4)):=((Below.refl _ _).alloc (Nat.le_refl _) _).alloc (by simp only[World.size_alloc];omega) _
 have hsz:((w.alloc (.cells #[.slice none 0 0] 76)).alloc (.cells #[.bool false] 4)).heap.size=w.heap.size+1+1:=by simp
 generalize (w.alloc (.cells #[.slice none 0 0] 76)).alloc (.cells #[.bool false] 4)=w1 at *
 have hbr:Below w1.heap.size w1 (w1.alloc (.cells #[.slice A n c,.int .i64 0] 112)):=(Below.refl _ _).alloc (Nat.le_refl _) _
 have hR2:=AX.new w1 112 #[.slice A n c,.int .i64 0]
 have WX:=Lib.hid (QK.out.below hbr)
 have Hb2:Hid (Below w.heap.size w (w1.alloc (.cells #[.slice A n c,.int .i64 0] 112))):=Lib.hid (BH.trans (hbr.mono (by omega)))
 generalize w1.alloc (.cells #[.slice A n c,.int .i64 0] 112)=w2 at *
 have bZ:Hid (JS w w.heap.size A b):=Lib.hid ⟨HA.out,fun a o e hp=>Inf.ZQ (e▸HA.out) (by rw[List.length_map];exact hp)⟩
 obtain⟨g2,hg2⟩:∃ g2,g2=w.heap.size:=⟨_,rfl⟩
 obtain⟨g3,hg3⟩:∃ g3,g3=w.heap.size+1:=⟨_,rfl⟩
 obtain⟨q,hq⟩:∃ q,q=w.heap.size+1+1:=⟨_,rfl⟩
 rw[hsz,←hq]at hR2
 rw[←hq]
 rw[←hg3]at QK WX⊢
 rw[←hg2]at bZ QK WX Hb2⊢
 have hgq:g2≤q∧g2 < q∧g3 < q:=by omega
 have Qv:=Lib.hid hg2
 have HE0:Hid (JV w2 g2 g2 q A n c 0 b [] [] (.slice none 0 0)):=Lib.hid ⟨hR2,Nat.zero_le _,⟨BD.below HA.out (by rw[←hg2];exact Hb2.out),fun a o e hp=>by have:=bZ.out.low a o e hp;omega⟩,WX.out.b2,World.ownsRow_nil _ _ _ _,rfl,by simp⟩
 have HB3:=Lib.hid WX.out.b3
 have hle3:g2≤g3:=WX.out.jF
 clear hg2 hg3 hq BH hbr hR2 WX QK hsz
 go_loopw [] (fun wr=>∃ (f p:Nat) (xs:List Ex) (l:List Dp) (vl:Value),f+l.length=14∧l.length≤13∧R=Dt b f p l∧JV wr g2 g2 q A n c p b xs l vl∧AX wr g3 4 #[.bool false]∧Below g2 w wr) (fun wr=>14 - (match wr.cell? ⟨g2,0,none⟩ with | some (.slice _ m _)=>m | _=>0))
 case atStart=>exact⟨14,0,[],[],_,rfl,by simp,HR.out,HE0.out,HB3.out,Hb2.out⟩
 case round=>
  obtain⟨f,p,xs,l,vl,hfl,ANF,hR,he,h3,hb⟩:=hrel
  obtain⟨Av,cv,rfl,hv1,hv2,_,_⟩:=Ag he.own
  have Z8:Hid (xs.length=l.length):=Lib.hid (by rw[←he.is,List.length_map])
  have Hwc:Hid (wr.cell? ⟨g2,0,none⟩=some (.slice Av xs.length cv)):=Lib.hid (he.res.cell 0)
  have HE:=Lib.hid he
  have H3:=Lib.hid h3
  have Hb:=Lib.hid hb
  obtain⟨f,rfl⟩:∃ f',f=f'+1:=⟨f - 1,by omega⟩
  have HRr:=Lib.hid (show R=if p+4≤b.length∧(b.drop p).take 4=Du∧l.length≤12 then (Ud b p).bind fun x=>Dt b f x.2 (l++[x.1]) else some l from hR)
  clear hR he h3 hb HE0 HB3 Hb2
  go_upto_region 3 with fail
  go_cut [36] from 9 to 36 (fun bv wx=>bv=.bool (decide (p+4≤b.length∧(b.drop p).take 4=Du∧l.length≤12))∧JV wx g2 g2 q A n c p b xs l (.slice Av xs.length cv)∧AX wx g3 4 #[.bool false]∧Below g2 w wx)
  case first=>
   by_cases h4:p+4≤n
   ·have hbl:0 < b.length:=by rw[Hn.out];omega
    obtain⟨a,o,rfl,_⟩:=HA.out.get (k:=0) hbl
    refine GN ?_
    refine Bu (fun W=>JR W q (some ⟨a,o,none⟩) n c p∧AX W g2 76 #[.slice Av xs.length cv]) 27 (by kernel_rfl) ?_
    have hHeld:JR wr.drew q (some ⟨a,o,none⟩) n c p∧AX wr.drew g2 76 #[.slice Av xs.length cv]:=⟨HE.out.MO,HE.out.res⟩
    have hnp:IntKind.i64.wrap ((n:Int) - (p:Int))=(n:Int) - (p:Int):=IntWalk.i64_in _ (by unfold maxLen at hcm;omega)
    have hg4:(4:Int)≤(n:Int) - (p:Int):=by omega
    have hpp:IntKind.i64.wrap ((p:Int)+4)=(p:Int)+4:=IntWalk.i64_in _ (by unfold maxLen at hcm;omega)
    have hc1:(p:Int)+4≤(c:Int):=by omega
    have hc2:(p:Int)≤(p:Int)+4:=by omega
    have hcp:¬ c=p:=by omega
    refine AA (i:=0) (v:=?va0) (by kernel_rfl) (by kernel_rfl) rfl (by kernel_rfl) (by kernel_rfl) (by kernel_rfl) (fun _ _ _ h=>by cases h.1) (by rfl) (by assumption) ?Kr ?Kt
    case Kr=>(intro W hSW;obtain⟨k0,k1,k2⟩:=cells3 hSW;go_simp;try with_reducible rfl)
    (try simp only[Act.put,l0A,l0B,l0C,l0D,l0E,l0F])
    refine AA (i:=1) (v:=?zU) (by kernel_rfl) (by kernel_rfl) rfl (by kernel_rfl) (by kernel_rfl) (by kernel_rfl) (fun _ _ _ h=>by cases h.1) (by rfl) (by assumption) ?Jp ?Jq
    case Jp=>(intro W hSW;obtain⟨k0,k1,k2⟩:=cells3 hSW;go_simp;try with_reducible rfl)
    (try simp only[Act.put,l0A,l0B,l0C,l0D,l0E,l0F])
    refine AA (i:=2) (v:=?va2) (by kernel_rfl) (by kernel_rfl) rfl (by kernel_rfl) (by kernel_rfl) (by kernel_rfl) (fun _ _ _ h=>by cases h.1) (by rfl) (by assumption) ?QG ?QH
    case QG=>(intro W hSW;obtain⟨k0,k1,k2⟩:=cells3 hSW;go_simp;try with_reducible rfl)
    (try simp only[Act.put,l0A,l0B,l0C,l0D,l0E,l0F])
    refine AA (i:=3) (v:=?va3) (by kernel_rfl) (by kernel_rfl) rfl (by kernel_rfl) (by kernel_rfl) (by kernel_rfl) (fun _ _ _ h=>by cases h.1) (by rfl) (by assumption) ?MR ?MS
    case MR=>(intro W hSW;obtain⟨k0,k1,k2⟩:=cells3 hSW;go_simp;try with_reducible rfl)
    (try simp only[Act.put,l0A,l0B,l0C,l0D,l0E,l0F])
    refine AA (i:=4) (v:=?va4) (by kernel_rfl) (by kernel_rfl) rfl (by kernel_rfl) (by kernel_rfl) (by kernel_rfl) (fun _ _ _ h=>by cases h.1) (by rfl) (by assumption) ?MU ?MV
    case MU=>(intro W hSW;obtain⟨k0,k1,k2⟩:=cells3 hSW;go_simp;try with_reducible rfl)
    (try simp only[Act.put,l0A,l0B,l0C,l0D,l0E,l0F])
    refine AA (i:=5) (v:=?va5) (by kernel_rfl) (by kernel_rfl) rfl (by kernel_rfl) (by kernel_rfl) (by kernel_rfl) (fun _ _ _ h=>by cases h.1) (by rfl) (by assumption) ?MW ?MX
    case MW=>(intro W hSW;obtain⟨k0,k1,k2⟩:=cells3 hSW;go_simp;try with_reducible rfl)
    (try simp only[Act.put,l0A,l0B,l0C,l0D,l0E,l0F])
    refine AA (i:=6) (v:=?va6) (by kernel_rfl) (by kernel_rfl) rfl (by kernel_rfl) (by kernel_rfl) (by kernel_rfl) (fun _ _ _ h=>by cases h.1) (by rfl) (by assumption) ?XP ?XQ
    case XP=>(intro W hSW;obtain⟨k0,k1,k2⟩:=cells3 hSW;go_simp;try with_reducible rfl)
    (try simp only[Act.put,l0A,l0B,l0C,l0D,l0E,l0F])
    refine AA (i:=7) (v:=?va7) (by kernel_rfl) (by kernel_rfl) rfl (by kernel_rfl) (by kernel_rfl) (by kernel_rfl) (fun _ _ _ h=>by cases h.1) (by rfl) (by assumption) ?XT ?XU
    case XT=>(intro W hSW;obtain⟨k0,k1,k2⟩:=cells3 hSW;go_simp;try with_reducible rfl)
    (try simp only[Act.put,l0A,l0B,l0C,l0D,l0E,l0F])
    refine AA (i:=8) (v:=?va8) (by kernel_rfl) (by kernel_rfl) rfl (by kernel_rfl) (by kernel_rfl) (by kernel_rfl) (fun _ _ _ h=>by cases h.1) (by rfl) (by assumption) ?ADZ ?ADa
    case ADZ=>(intro W hSW;obtain⟨k0,k1,k2⟩:=cells3 hSW;go_simp;try with_reducible rfl)
    (try simp only[Act.put,l0A,l0B,l0C,l0D,l0E,l0F])
    refine AA (i:=9) (v:=?va9) (by kernel_rfl) (by kernel_rfl) rfl (by kernel_rfl) (by kernel_rfl) (by kernel_rfl) (fun _ _ _ h=>by cases h.1) (by rfl) (by assumption) ?dM ?dN
    case dM=>(intro W hSW;obtain⟨k0,k1,k2⟩:=cells3 hSW;go_simp;try with_reducible rfl)
    (try simp only[Act.put,l0A,l0B,l0C,l0D,l0E,l0F])
    refine AA (i:=10) (v:=?ADb) (by kernel_rfl) (by kernel_rfl) rfl (by kernel_rfl) (by kernel_rfl) (by kernel_rfl) (fun _ _ _ h=>by cases h.1) (by rfl) (by assumption) ?TI ?XV
    case TI=>(intro W hSW;obtain⟨k0,k1,k2⟩:=cells3 hSW;go_simp;try with_reducible rfl)
    (try simp only[Act.put,l0A,l0B,l0C,l0D,l0E,l0F])
    refine AA (i:=11) (v:=?AKA) (by kernel_rfl) (by kernel_rfl) rfl (by kernel_rfl) (by kernel_rfl) (by kernel_rfl) (fun _ _ _ h=>by cases h.1) (by rfl) (by assumption) ?vI ?AAf
    case vI=>(intro W hSW;obtain⟨k0,k1,k2⟩:=cells3 hSW;go_simp;try with_reducible rfl)
    (try simp only[Act.put,l0A,l0B,l0C,l0D,l0E,l0F])
    refine AA (i:=12) (v:=?AKB) (by kernel_rfl) (by kernel_rfl) rfl (by kernel_rfl) (by kernel_rfl) (by kernel_rfl) (fun _ _ _ h=>by cases h.1) (by rfl) (by assumption) ?vJ ?AAg
    case vJ=>(intro W hSW;obtain⟨k0,k1,k2⟩:=cells3 hSW;go_simp;try with_reducible rfl)
    (try simp only[Act.put,l0A,l0B,l0C,l0D,l0E,l0F])
    refine AA (i:=13) (v:=?ANG) (by kernel_rfl) (by kernel_rfl) rfl (by kernel_rfl) (by kernel_rfl) (by kernel_rfl) (fun _ _ _ h=>by cases h.1) (by rfl) (by assumption) ?AIV ?AJF
    case AIV=>(intro W hSW;obtain⟨k0,k1,k2⟩:=cells3 hSW;go_simp;try with_reducible rfl)
    (try simp only[Act.put,l0A,l0B,l0C,l0D,l0E,l0F])
    refine AA (i:=14) (v:=?ANH) (by kernel_rfl) (by kernel_rfl) rfl (by kernel_rfl) (by kernel_rfl) (by kernel_rfl) (fun _ _ _ h=>by cases h.1) (by rfl) (by assumption) ?AIW ?AJG
    case AIW=>(intro W hSW;obtain⟨k0,k1,k2⟩:=cells3 hSW;go_simp;try with_reducible rfl)
    (try simp only[Act.put,l0A,l0B,l0C,l0D,l0E,l0F])
    refine AA (i:=15) (v:=?ANI) (by kernel_rfl) (by kernel_rfl) rfl (by kernel_rfl) (by kernel_rfl) (by kernel_rfl) (fun _ _ _ h=>by cases h.1) (by rfl) (by assumption) ?AIX ?AJH
    case AIX=>(intro W hSW;obtain⟨k0,k1,k2⟩:=cells3 hSW;go_simp;try with_reducible rfl)
    (try simp only[Act.put,l0A,l0B,l0C,l0D,l0E,l0F])
    refine AA (i:=16) (v:=?ANJ) (by kernel_rfl) (by kernel_rfl) rfl (by kernel_rfl) (by kernel_rfl) (by kernel_rfl) (fun _ _ _ h=>by cases h.1) (by rfl) (by assumption) ?AIY ?AJI
    case AIY=>(intro W hSW;obtain⟨k0,k1,k2⟩:=cells3 hSW;go_simp;try with_reducible rfl)
    (try simp only[Act.put,l0A,l0B,l0C,l0D,l0E,l0F])
    refine AA (i:=17) (v:=?ANK) (by kernel_rfl) (by kernel_rfl) rfl (by kernel_rfl) (by kernel_rfl) (by kernel_rfl) (fun _ _ _ h=>by cases h.1) (by rfl) (by assumption) ?AIZ ?AJJ
    case AIZ=>(intro W hSW;obtain⟨k0,k1,k2⟩:=cells3 hSW;go_simp;try with_reducible rfl)
    (try simp only[Act.put,l0A,l0B,l0C,l0D,l0E,l0F])
    refine AA (i:=18) (v:=?ANL) (by kernel_rfl) (by kernel_rfl) rfl (by kernel_rfl) (by kernel_rfl) (by kernel_rfl) (fun _ _ _ h=>by cases h.1) (by rfl) (by assumption) ?AIa ?AJK
    case AIa=>(intro W hSW;obtain⟨k0,k1,k2⟩:=cells3 hSW;go_simp;try with_reducible rfl)
    (try simp only[Act.put,l0A,l0B,l0C,l0D,l0E,l0F])
    refine AA (i:=19) (v:=?ANM) (by kernel_rfl) (by kernel_rfl) rfl (by kernel_rfl) (by kernel_rfl) (by kernel_rfl) (fun _ _ _ h=>by cases h.1) (by rfl) (by assumption) ?AIb ?AJL
    case AIb=>(intro W hSW;obtain⟨k0,k1,k2⟩:=cells3 hSW;go_simp;try with_reducible rfl)
    (try simp only[Act.put,l0A,l0B,l0C,l0D,l0E,l0F])
    have hdr:Below wr.heap.size wr wr.drew:=(Below.refl _ _).drew
    have Ob:Hid (JV wr.drew g2 g2 q (some ⟨a,o,none⟩) n c p b xs l (.slice Av xs.length cv)):=Lib.hid (HE.out.below hdr)
    have y8:Hid (AX wr.drew g3 4 #[.bool false]):=Lib.hid H3.out
    have bE:=Lib.hid (Hb.out.trans (hdr.mono (by rw[Qv.out];exact Hb.out.size)))
    clear hdr HE H3 Hb
    generalize wr.drew=w3 at *
    refine AL (i:=20) rfl (by kernel_rfl) (fun K hK=>?_)
    go_simp
    clear hHeld
    go_at_call 65
    refine (EC w3.heap.size (.slice none 0 0) [] 67324752 4 67324752 4 w3 (BP.nil _ _) (Nat.le_refl _) rfl rfl (by omega) (by omega) (by simp)).mono ?_
    rintro e w4 ⟨⟨u4,rfl,ho⟩,hb4⟩
    have OI:Hid (JV w4 g2 g2 q (some ⟨a,o,none⟩) n c p b xs l (.slice Av xs.length cv)):=Lib.hid (Ob.out.below hb4)
    have H34:Hid (AX w4 g3 4 #[.bool false]):=Lib.hid (y8.out.below hb4 y8.out.lt)
    have Hb4:=Lib.hid (bE.out.trans (hb4.mono (by rw[Qv.out];exact bE.out.size)))
    obtain⟨A4,c4,rfl,h41,h42,h43,h44⟩:=ho.slice
    have Nw:Hid (BD w4 A4 Du):=Lib.hid h43
    have HD4:Hid (BD w4 (some ⟨a,o+p,none⟩) ((b.drop p).take 4)):=Lib.hid ((BD.drop OI.out.low.at_ p).take 4)
    rw[show (([]:List UInt8)++Ae 4 67324752).length=4 from by simp[AZ]]
    clear ho hb4 Ob y8 bE h43 h44
    refine hK.out _ _ ⟨OI.out.MO,OI.out.res⟩ (fun hHeld=>?_)
    clear hK K
    (try simp only[Act.put,l0A,l0B,l0C,l0D,l0E,l0F])
    refine AL (i:=21) rfl (by kernel_rfl) (fun K hK=>?_)
    go_simp
    clear hHeld
    go_at_call 22
    rw[show ((p:Int)+4).toNat - p=4 by omega]
    refine (Hw _ A4 4 4 (c - p) c4 ((b.drop p).take 4) Du w4 (by rw[List.length_take,List.length_drop,Hn.out];omega) (by decide) HD4.out Nw.out).mono ?_
    rintro e w5 ⟨rfl,rfl⟩
    refine hK.out _ _ ⟨OI.out.MO,OI.out.res⟩ (fun hHeld=>?_)
    clear hK K
    (try simp only[Act.put,l0A,l0B,l0C,l0D,l0E,l0F])
    by_cases hs:(b.drop p).take 4=Du
    ·rw[show decide ((b.drop p).take 4=Du)=true from by simp[hs]]
     refine AA (i:=22) (v:=?ANN) (by kernel_rfl) (by kernel_rfl) rfl (by kernel_rfl) (by kernel_rfl) (by kernel_rfl) (fun _ _ _ h=>by cases h.1) (by rfl) (by assumption) ?AIc ?AJM
     case AIc=>(intro W hSW;obtain⟨k0,k1,k2⟩:=cells3 hSW;go_simp;try with_reducible rfl)
     (try simp only[Act.put,l0A,l0B,l0C,l0D,l0E,l0F])
     refine AA (i:=23) (v:=?ANO) (by kernel_rfl) (by kernel_rfl) rfl (by kernel_rfl) (by kernel_rfl) (by kernel_rfl) (fun _ _ _ h=>by cases h.1) (by rfl) (by assumption) ?AId ?AJN
     case AId=>(intro W hSW;obtain⟨k0,k1,k2⟩:=cells3 hSW;go_simp;try with_reducible rfl)
     (try simp only[Act.put,l0A,l0B,l0C,l0D,l0E,l0F])
     refine AA (i:=24) (v:=?ANP) (by kernel_rfl) (by kernel_rfl) rfl (by kernel_rfl) (by kernel_rfl) (by kernel_rfl) (fun _ _ _ h=>by cases h.1) (by rfl) (by assumption) ?AIe ?AJO
     case AIe=>(intro W hSW;obtain⟨k0,k1,k2⟩:=cells3 hSW;go_simp;try with_reducible rfl)
     (try simp only[Act.put,l0A,l0B,l0C,l0D,l0E,l0F])
     refine AA (i:=25) (v:=?ANQ) (by kernel_rfl) (by kernel_rfl) rfl (by kernel_rfl) (by kernel_rfl) (by kernel_rfl) (fun _ _ _ h=>by cases h.1) (by rfl) (by assumption) ?AIf ?AJP
     case AIf=>(intro W hSW;obtain⟨k0,k1,k2⟩:=cells3 hSW;go_simp;try with_reducible rfl)
     (try simp only[Act.put,l0A,l0B,l0C,l0D,l0E,l0F])
     refine AA (i:=26) (v:=?ANR) (by kernel_rfl) (by kernel_rfl) rfl (by kernel_rfl) (by kernel_rfl) (by kernel_rfl) (fun _ _ _ h=>by cases h.1) (by rfl) (by assumption) ?AIg ?AJQ
     case AIg=>(intro W hSW;obtain⟨k0,k1,k2⟩:=cells3 hSW;go_simp;try with_reducible rfl)
     (try simp only[Act.put,l0A,l0B,l0C,l0D,l0E,l0F])
     refine BM rfl (by kernel_rfl) (by kernel_rfl) (fun K hK=>?_)
     go_simp
     clear hHeld
     refine hK.out _ _ ⟨rfl,?_⟩
     clear hK K
     go_wp2_with fail
     go_meet
     case rel=>exact⟨by rw[Hn.out];simp[h4,hs];have:=Z8.out;omega,OI.out,H34.out,Hb4.out⟩
    ·rw[show decide ((b.drop p).take 4=Du)=false from by simp[hs]]
     refine AA (i:=22) (v:=?ANT) (by kernel_rfl) (by kernel_rfl) rfl (by kernel_rfl) (by kernel_rfl) (by kernel_rfl) (fun _ _ _ h=>by cases h.1) (by rfl) (by assumption) ?AIh ?AJR
     case AIh=>(intro W hSW;obtain⟨k0,k1,k2⟩:=cells3 hSW;go_simp;try with_reducible rfl)
     (try simp only[Act.put,l0A,l0B,l0C,l0D,l0E,l0F])
     refine AA (i:=23) (v:=?ANU) (by kernel_rfl) (by kernel_rfl) rfl (by kernel_rfl) (by kernel_rfl) (by kernel_rfl) (fun _ _ _ h=>by cases h.1) (by rfl) (by assumption) ?AIi ?AJS
     case AIi=>(intro W hSW;obtain⟨k0,k1,k2⟩:=cells3 hSW;go_simp;try with_reducible rfl)
     (try simp only[Act.put,l0A,l0B,l0C,l0D,l0E,l0F])
     refine BF (i:=24) (by kernel_rfl) (by kernel_rfl) rfl (by kernel_rfl) (by kernel_rfl) (by kernel_rfl) (fun _ _ _ h=>by cases h.1) (by rfl) (by assumption) ?_
     (try simp only[Act.put,l0A,l0B,l0C,l0D,l0E,l0F])
     refine BF (i:=25) (by kernel_rfl) (by kernel_rfl) rfl (by kernel_rfl) (by kernel_rfl) (by kernel_rfl) (fun _ _ _ h=>by cases h.1) (by rfl) (by assumption) ?_
     (try simp only[Act.put,l0A,l0B,l0C,l0D,l0E,l0F])
     refine BF (i:=26) (by kernel_rfl) (by kernel_rfl) rfl (by kernel_rfl) (by kernel_rfl) (by kernel_rfl) (fun _ _ _ h=>by cases h.1) (by rfl) (by assumption) ?_
     (try simp only[Act.put,l0A,l0B,l0C,l0D,l0E,l0F])
     refine BM rfl (by kernel_rfl) (by kernel_rfl) (fun K hK=>?_)
     go_simp
     clear hHeld
     refine hK.out _ _ ⟨rfl,?_⟩
     clear hK K
     go_wp2_with fail
     go_meet
     case rel=>exact⟨by simp[hs],OI.out,H34.out,Hb4.out⟩
   ·refine GN ?_
    refine Bu (fun W=>JR W q A n c p∧AX W g2 76 #[.slice Av xs.length cv]) 27 (by kernel_rfl) ?_
    have hHeld:JR wr.drew q A n c p∧AX wr.drew g2 76 #[.slice Av xs.length cv]:=⟨HE.out.MO,HE.out.res⟩
    have hnp:IntKind.i64.wrap ((n:Int) - (p:Int))=(n:Int) - (p:Int):=IntWalk.i64_in _ (by have:=HE.out.pn;unfold maxLen at hcm;omega)
    have hg4:¬ (4:Int)≤(n:Int) - (p:Int):=by omega
    refine AA (i:=0) (v:=?vs0) (by kernel_rfl) (by kernel_rfl) rfl (by kernel_rfl) (by kernel_rfl) (by kernel_rfl) (fun _ _ _ h=>by cases h.1) (by rfl) (by assumption) ?AKz ?AK0
    case AKz=>(intro W hSW;obtain⟨k0,k1,k2⟩:=cells3 hSW;go_simp;try with_reducible rfl)
    (try simp only[Act.put,l0A,l0B,l0C,l0D,l0E,l0F])
    refine AA (i:=1) (v:=?vs1) (by kernel_rfl) (by kernel_rfl) rfl (by kernel_rfl) (by kernel_rfl) (by kernel_rfl) (fun _ _ _ h=>by cases h.1) (by rfl) (by assumption) ?AK1 ?AK2
    case AK1=>(intro W hSW;obtain⟨k0,k1,k2⟩:=cells3 hSW;go_simp;try with_reducible rfl)
    (try simp only[Act.put,l0A,l0B,l0C,l0D,l0E,l0F])
    refine AA (i:=2) (v:=?vs2) (by kernel_rfl) (by kernel_rfl) rfl (by kernel_rfl) (by kernel_rfl) (by kernel_rfl) (fun _ _ _ h=>by cases h.1) (by rfl) (by assumption) ?AK3 ?AK4
    case AK3=>(intro W hSW;obtain⟨k0,k1,k2⟩:=cells3 hSW;go_simp;try with_reducible rfl)
    (try simp only[Act.put,l0A,l0B,l0C,l0D,l0E,l0F])
    refine AA (i:=3) (v:=?vs3) (by kernel_rfl) (by kernel_rfl) rfl (by kernel_rfl) (by kernel_rfl) (by kernel_rfl) (fun _ _ _ h=>by cases h.1) (by rfl) (by assumption) ?AK5 ?AK6
    case AK5=>(intro W hSW;obtain⟨k0,k1,k2⟩:=cells3 hSW;go_simp;try with_reducible rfl)
    (try simp only[Act.put,l0A,l0B,l0C,l0D,l0E,l0F])
    refine AA (i:=4) (v:=?vs4) (by kernel_rfl) (by kernel_rfl) rfl (by kernel_rfl) (by kernel_rfl) (by kernel_rfl) (fun _ _ _ h=>by cases h.1) (by rfl) (by assumption) ?AK7 ?AK8
    case AK7=>(intro W hSW;obtain⟨k0,k1,k2⟩:=cells3 hSW;go_simp;try with_reducible rfl)
    (try simp only[Act.put,l0A,l0B,l0C,l0D,l0E,l0F])
    refine AA (i:=5) (v:=?vs5) (by kernel_rfl) (by kernel_rfl) rfl (by kernel_rfl) (by kernel_rfl) (by kernel_rfl) (fun _ _ _ h=>by cases h.1) (by rfl) (by assumption) ?AK9 ?ALA
    case AK9=>(intro W hSW;obtain⟨k0,k1,k2⟩:=cells3 hSW;go_simp;try with_reducible rfl)
    (try simp only[Act.put,l0A,l0B,l0C,l0D,l0E,l0F])
    refine AA (i:=6) (v:=?vs6) (by kernel_rfl) (by kernel_rfl) rfl (by kernel_rfl) (by kernel_rfl) (by kernel_rfl) (fun _ _ _ h=>by cases h.1) (by rfl) (by assumption) ?ALB ?ALC
    case ALB=>(intro W hSW;obtain⟨k0,k1,k2⟩:=cells3 hSW;go_simp;try with_reducible rfl)
    (try simp only[Act.put,l0A,l0B,l0C,l0D,l0E,l0F])
    refine AA (i:=7) (v:=?vs7) (by kernel_rfl) (by kernel_rfl) rfl (by kernel_rfl) (by kernel_rfl) (by kernel_rfl) (fun _ _ _ h=>by cases h.1) (by rfl) (by assumption) ?ALD ?ALE
    case ALD=>(intro W hSW;obtain⟨k0,k1,k2⟩:=cells3 hSW;go_simp;try with_reducible rfl)
    (try simp only[Act.put,l0A,l0B,l0C,l0D,l0E,l0F])
    refine AA (i:=8) (v:=?vs8) (by kernel_rfl) (by kernel_rfl) rfl (by kernel_rfl) (by kernel_rfl) (by kernel_rfl) (fun _ _ _ h=>by cases h.1) (by rfl) (by assumption) ?ALF ?ALG
    case ALF=>(intro W hSW;obtain⟨k0,k1,k2⟩:=cells3 hSW;go_simp;try with_reducible rfl)
    (try simp only[Act.put,l0A,l0B,l0C,l0D,l0E,l0F])
    refine BF (i:=9) (by kernel_rfl) (by kernel_rfl) rfl (by kernel_rfl) (by kernel_rfl) (by kernel_rfl) (fun _ _ _ h=>by cases h.1) (by rfl) (by assumption) ?_
    (try simp only[Act.put,l0A,l0B,l0C,l0D,l0E,l0F])
    refine BF (i:=10) (by kernel_rfl) (by kernel_rfl) rfl (by kernel_rfl) (by kernel_rfl) (by kernel_rfl) (fun _ _ _ h=>by cases h.1) (by rfl) (by assumption) ?_
    (try simp only[Act.put,l0A,l0B,l0C,l0D,l0E,l0F])
    refine BF (i:=11) (by kernel_rfl) (by kernel_rfl) rfl (by kernel_rfl) (by kernel_rfl) (by kernel_rfl) (fun _ _ _ h=>by cases h.1) (by rfl) (by assumption) ?_
    (try simp only[Act.put,l0A,l0B,l0C,l0D,l0E,l0F])
    refine BF (i:=12) (by kernel_rfl) (by kernel_rfl) rfl (by kernel_rfl) (by kernel_rfl) (by kernel_rfl) (fun _ _ _ h=>by cases h.1) (by rfl) (by assumption) ?_
    (try simp only[Act.put,l0A,l0B,l0C,l0D,l0E,l0F])
    refine BF (i:=13) (by kernel_rfl) (by kernel_rfl) rfl (by kernel_rfl) (by kernel_rfl) (by kernel_rfl) (fun _ _ _ h=>by cases h.1) (by rfl) (by assumption) ?_
    (try simp only[Act.put,l0A,l0B,l0C,l0D,l0E,l0F])
    refine BF (i:=14) (by kernel_rfl) (by kernel_rfl) rfl (by kernel_rfl) (by kernel_rfl) (by kernel_rfl) (fun _ _ _ h=>by cases h.1) (by rfl) (by assumption) ?_
    (try simp only[Act.put,l0A,l0B,l0C,l0D,l0E,l0F])
    refine BF (i:=15) (by kernel_rfl) (by kernel_rfl) rfl (by kernel_rfl) (by kernel_rfl) (by kernel_rfl) (fun _ _ _ h=>by cases h.1) (by rfl) (by assumption) ?_
    (try simp only[Act.put,l0A,l0B,l0C,l0D,l0E,l0F])
    refine BF (i:=16) (by kernel_rfl) (by kernel_rfl) rfl (by kernel_rfl) (by kernel_rfl) (by kernel_rfl) (fun _ _ _ h=>by cases h.1) (by rfl) (by assumption) ?_
    (try simp only[Act.put,l0A,l0B,l0C,l0D,l0E,l0F])
    refine BF (i:=17) (by kernel_rfl) (by kernel_rfl) rfl (by kernel_rfl) (by kernel_rfl) (by kernel_rfl) (fun _ _ _ h=>by cases h.1) (by rfl) (by assumption) ?_
    (try simp only[Act.put,l0A,l0B,l0C,l0D,l0E,l0F])
    refine BF (i:=18) (by kernel_rfl) (by kernel_rfl) rfl (by kernel_rfl) (by kernel_rfl) (by kernel_rfl) (fun _ _ _ h=>by cases h.1) (by rfl) (by assumption) ?_
    (try simp only[Act.put,l0A,l0B,l0C,l0D,l0E,l0F])
    refine BF (i:=19) (by kernel_rfl) (by kernel_rfl) rfl (by kernel_rfl) (by kernel_rfl) (by kernel_rfl) (fun _ _ _ h=>by cases h.1) (by rfl) (by assumption) ?_
    (try simp only[Act.put,l0A,l0B,l0C,l0D,l0E,l0F])
    have hdr:Below wr.heap.size wr wr.drew:=(Below.refl _ _).drew
    have Ob:Hid (JV wr.drew g2 g2 q A n c p b xs l (.slice Av xs.length cv)):=Lib.hid (HE.out.below hdr)
    have y8:Hid (AX wr.drew g3 4 #[.bool false]):=Lib.hid H3.out
    have bE:=Lib.hid (Hb.out.trans (hdr.mono (by rw[Qv.out];exact Hb.out.size)))
    clear hdr HE H3 Hb
    generalize wr.drew=w3 at *
    refine AL (i:=20) rfl (by kernel_rfl) (fun K hK=>?_)
    go_simp
    refine hK.out _ _ ⟨Ob.out.MO,Ob.out.res⟩ (fun hHeld=>?_)
    clear hK K
    (try simp only[Act.put,l0A,l0B,l0C,l0D,l0E,l0F])
    refine AL (i:=21) rfl (by kernel_rfl) (fun K hK=>?_)
    go_simp
    refine hK.out _ _ ⟨Ob.out.MO,Ob.out.res⟩ (fun hHeld=>?_)
    clear hK K
    (try simp only[Act.put,l0A,l0B,l0C,l0D,l0E,l0F])
    refine AA (i:=22) (v:=?ANV) (by kernel_rfl) (by kernel_rfl) rfl (by kernel_rfl) (by kernel_rfl) (by kernel_rfl) (fun _ _ _ h=>by cases h.1) (by rfl) (by assumption) ?AIj ?AJT
    case AIj=>(intro W hSW;obtain⟨k0,k1,k2⟩:=cells3 hSW;go_simp;try with_reducible rfl)
    (try simp only[Act.put,l0A,l0B,l0C,l0D,l0E,l0F])
    refine AA (i:=23) (v:=?ANW) (by kernel_rfl) (by kernel_rfl) rfl (by kernel_rfl) (by kernel_rfl) (by kernel_rfl) (fun _ _ _ h=>by cases h.1) (by rfl) (by assumption) ?AIk ?AJU
    case AIk=>(intro W hSW;obtain⟨k0,k1,k2⟩:=cells3 hSW;go_simp;try with_reducible rfl)
    (try simp only[Act.put,l0A,l0B,l0C,l0D,l0E,l0F])
    refine BF (i:=24) (by kernel_rfl) (by kernel_rfl) rfl (by kernel_rfl) (by kernel_rfl) (by kernel_rfl) (fun _ _ _ h=>by cases h.1) (by rfl) (by assumption) ?_
    (try simp only[Act.put,l0A,l0B,l0C,l0D,l0E,l0F])
    refine BF (i:=25) (by kernel_rfl) (by kernel_rfl) rfl (by kernel_rfl) (by kernel_rfl) (by kernel_rfl) (fun _ _ _ h=>by cases h.1) (by rfl) (by assumption) ?_
    (try simp only[Act.put,l0A,l0B,l0C,l0D,l0E,l0F])
    refine BF (i:=26) (by kernel_rfl) (by kernel_rfl) rfl (by kernel_rfl) (by kernel_rfl) (by kernel_rfl) (fun _ _ _ h=>by cases h.1) (by rfl) (by assumption) ?_
    (try simp only[Act.put,l0A,l0B,l0C,l0D,l0E,l0F])
    refine BM rfl (by kernel_rfl) (by kernel_rfl) (fun K hK=>?_)
    go_simp
    clear hHeld
    refine hK.out _ _ ⟨rfl,?_⟩
    clear hK K
    go_wp2_with fail
    go_meet
    case rel=>exact⟨by rw[Hn.out];simp[h4],Ob.out,y8.out,bE.out⟩
  case rest=>
   obtain⟨rfl,he,h3,hb⟩:=hcut
   have HE:=Lib.hid he
   have H3:=Lib.hid h3
   have Hb:=Lib.hid hb
   clear he h3 hb
   by_cases hc:p+4≤b.length∧(b.drop p).take 4=Du∧l.length≤12
   ·rw[show decide (p+4≤b.length∧(b.drop p).take 4=Du∧l.length≤12)=true from decide_eq_true hc]
    have HR2:=Lib.hid (HRr.out.trans (if_pos hc))
    have hn0:0 < n:=by rw[←Hn.out];omega
    have ANX:xs.length≤12:=by rw[Z8.out];exact hc.2.2
    clear hc HRr
    go_upto_region 4 with fail
    refine ABu [{ v:=.iface 108 (.agg #[]),recovered:=false }] [{ target:=.fn (.func 66) #[.pointer (some ⟨g2,0,none⟩),.pointer (some ⟨g3,0,none⟩)],args:=#[] }] (.pointer (some ⟨g2,0,none⟩)) (.pointer (some ⟨g3,0,none⟩)) (fun W=>R=none∧NV W g2 g2 g3 (.slice Av xs.length cv) (.bool false)∧Below g2 w W) ?hp ?hw
    case hp=>
     rintro a W hd h2 h3 ⟨hRn,hout,hbW⟩
     show Leaves Tryz.prog Tryz.f47 a.tmps _ a.defers (.panicking _) W
     rw[hd]
     refine leaves_cons (by simp) (f:=66) (args:=#[.pointer (some ⟨g2,0,none⟩),.pointer (some ⟨g3,0,none⟩)]) (by simp[go_sem]) ?_
     refine (Qd g2 g2 g3 _ _ [] W (by have:=hbW.size;rw[Qv.out];exact this) hout).mono ?_
     rintro e u' w8 ⟨rfl,rfl,vH,LU⟩
     refine⟨_,WW vH _ h2 h3,?_,?_⟩
     ·unfold Ug
      rw[hRn]
     ·rw[←Qv.out]
      exact hbW.trans LU
    case hw=>
     refine Bu (fun W=>AX W g2 76 #[.slice Av xs.length cv]) 5 (by kernel_rfl) ?_
     have hHeld:AX wc.drew g2 76 #[.slice Av xs.length cv]:=HE.out.res
     have hdr:Below wc.heap.size wc wc.drew:=(Below.refl _ _).drew
     have Ob:Hid (JV wc.drew g2 g2 q A n c p b xs l (.slice Av xs.length cv)):=Lib.hid (HE.out.below hdr)
     have y8:Hid (AX wc.drew g3 4 #[.bool false]):=Lib.hid H3.out
     have bE:=Lib.hid (Hb.out.trans (hdr.mono (by rw[Qv.out];exact Hb.out.size)))
     clear hdr HE H3 Hb
     generalize wc.drew=w3 at *
     refine AA (i:=0) (v:=?ve0) (by kernel_rfl) (by kernel_rfl) rfl (by kernel_rfl) (by kernel_rfl) (by kernel_rfl) (fun _ _ _ h=>aT (by decide) (by decide) h) (by rfl) (by assumption) ?ALH ?ALI
     case ALH=>(intro W hSW;have k2:=hSW.cell 0;go_simp;try with_reducible rfl)
     (try simp only[Act.put,l0A,l0B,l0C,l0D,l0E,l0F])
     refine AA (i:=1) (v:=?ve1) (by kernel_rfl) (by kernel_rfl) rfl (by kernel_rfl) (by kernel_rfl) (by kernel_rfl) (fun _ _ _ h=>aT (by decide) (by decide) h) (by rfl) (by assumption) ?ALJ ?ALK
     case ALJ=>(intro W hSW;have k2:=hSW.cell 0;go_simp;try with_reducible rfl)
     (try simp only[Act.put,l0A,l0B,l0C,l0D,l0E,l0F])
     refine AL (i:=2) rfl (by kernel_rfl) (fun K hK=>?_)
     go_simp
     clear hHeld
     go_at_call 67
     refine (qE q A n c p b w3 Ob.out.MO Hn.out hnc hcm Ob.out.pn hn0 Ob.out.low).mono ?_
     rintro e w4 ⟨hr,hk⟩
     have hs3:g2≤w3.heap.size:=by rw[Qv.out];exact bE.out.size
     have aV:Hid (AX w4 g2 76 #[.slice Av xs.length cv]):=Lib.hid (hk.blk Ob.out.res (by decide))
     have H34:Hid (AX w4 g3 4 #[.bool false]):=Lib.hid (hk.blk y8.out (by decide))
     have KL:=Lib.hid (hk.own Ob.out.own (by decide))
     have ACt:=Lib.hid (Ob.out.low.keeps hk)
     have Hb4:Hid (Below g2 w w4):=Lib.hid (bE.out.trans (hk.below.mono hgq.1))
     have hs4:g2≤w4.heap.size:=Nat.le_trans hs3 hk.size
     have ACu:∀ y∈xs,IZ w4 g2 A b y y.e:=fun y hy=>(Ob.out.all y hy).keeps hk (by decide)
     have His:=Lib.hid Ob.out.is
     cases hent:Ud b p with
     | none=>
      rw[hent]at hr
      obtain rfl:e=DK:=hr
      unfold DK
      exact .inr ⟨rfl,⟨rfl,rfl,rfl⟩,by rw[HR2.out,hent];rfl,⟨Nat.le_refl _,hle3,aV.out,H34.out⟩,Hb4.out⟩
     | some y=>
      rw[hent]at hr
      obtain⟨xe,p2⟩:=y
      obtain⟨hp2,⟨x,rfl,hre⟩,hrd⟩:=hr
      dsimp only at hp2 hre hrd
      have HR4:Hid (R=Dt b f p2 (l++[xe])):=Lib.hid (by rw[HR2.out,hent];rfl)
      have ACv:Hid (∀ y∈xs++[x],IZ w4 g2 A b y y.e):=Lib.hid (fun y hy=>by
       rcases List.mem_append.1 hy with h | h
       ·exact ACu y h
       ·rw[List.mem_singleton.1 h,hre.is];exact gX hre hs3)
      have ALM:Hid ((xs++[x]).map Ex.e=l++[xe]):=Lib.hid (by rw[List.map_append,His.out,List.map_cons,List.map_nil,hre.is])
      have ABx:=Lib.hid hrd
      clear hre hrd ACu hk Ob y8 bE hent HR2
      have Mw:=aV.out
      refine hK.out _ _ Mw (fun hHeld=>?_)
      clear hK K Mw
      (try simp only[Act.put,l0A,l0B,l0C,l0D,l0E,l0F])
      unfold eV
      refine AL (i:=3) rfl (by kernel_rfl) (fun K hK=>?_)
      go_simp
      clear hHeld
      have BH:Below w4.heap.size w4 (w4.alloc (.cells #[.string (Name.AQ x.e.f.name),Cj x.bs,.int .i64 x.e.f.stamp,.int .i64 x.e.f.node,.bool x.e.f.gone,.int .i64 (x.e.method:Int),Cj x.pk,.int .u32 (x.e.crc:Int),.int .i64 (x.at_:Int)] 78)):=(Below.refl _ _).alloc (Nat.le_refl _) _
      have HZ:Hid (AR (w4.alloc (.cells #[.string (Name.AQ x.e.f.name),Cj x.bs,.int .i64 x.e.f.stamp,.int .i64 x.e.f.node,.bool x.e.f.gone,.int .i64 (x.e.method:Int),Cj x.pk,.int .u32 (x.e.crc:Int),.int .i64 (x.at_:Int)] 78)) (some ⟨w4.heap.size,0,none⟩) (eC x)):=Lib.hid (AR.of_heap (heap_alloc_new _ _) rfl)
      have y9:=aV.out.below BH aV.out.lt
      refine hK.out _ _ y9 (fun hHeld=>?_)
      clear hK K y9
      (try simp only[Act.put,l0A,l0B,l0C,l0D,l0E,l0F])
      have ACw:=Lib.hid hHeld
      have H35:=Lib.hid (H34.out.below BH H34.out.lt)
      have YK:=Lib.hid (AP KL.out BH)
      have hk5:AB q OX w4 (w4.alloc (.cells #[.string (Name.AQ x.e.f.name),Cj x.bs,.int .i64 x.e.f.stamp,.int .i64 x.e.f.node,.bool x.e.f.gone,.int .i64 (x.e.method:Int),Cj x.pk,.int .u32 (x.e.crc:Int),.int .i64 (x.at_:Int)] 78)):=AB.of_below BH (Nat.le_of_lt (AX.lt ABx.out))
      have ACx:=Lib.hid (ACt.out.keeps hk5)
      have AIl:=Lib.hid (AX.below ABx.out BH (AX.lt ABx.out))
      have ACy:Hid (∀ y∈xs++[x],IZ (w4.alloc (.cells #[.string (Name.AQ x.e.f.name),Cj x.bs,.int .i64 x.e.f.stamp,.int .i64 x.e.f.node,.bool x.e.f.gone,.int .i64 (x.e.method:Int),Cj x.pk,.int .u32 (x.e.crc:Int),.int .i64 (x.at_:Int)] 78)) g2 A b y y.e):=Lib.hid (fun y hy=>(ACv.out y hy).keeps hk5 (by decide))
      have Hb5:=Lib.hid (Hb4.out.trans (BH.mono hs4))
      have hs5:=Nat.le_trans hs4 BH.size
      clear hHeld BH hk5 aV H34 KL ACt ABx ACv Hb4
      generalize w4.heap.size=gx at *
      generalize w4.alloc (.cells #[.string (Name.AQ x.e.f.name),Cj x.bs,.int .i64 x.e.f.stamp,.int .i64 x.e.f.node,.bool x.e.f.gone,.int .i64 (x.e.method:Int),Cj x.pk,.int .u32 (x.e.crc:Int),.int .i64 (x.at_:Int)] 78)=w5 at *
      refine AL (i:=4) rfl (by kernel_rfl) (fun K hK=>?_)
      rw[if_pos (by rfl)]
      refine yz (.tmp 37) (.tmp 40) _ rfl g2 78 _ 9 112 tyE _ xs.length (xs.flatMap eC) rfl YK.out (some ⟨gx,0,none⟩) 1 1 (eC x) rfl rfl HZ.out (zA x) (by simp) (by unfold maxLen;omega) (by omega) hs5 ?_
      intro v6 w6 hown6 IJ _
      have Iu:AB g2 OT w5 w6:=(AB.refl _ _ _).grown YK.out IJ (by simp[OT]) hs5
      have Uh:=Lib.hid (Iu.blk ACw.out (by decide))
      have H36:=Lib.hid (Iu.blk H35.out (by decide))
      have ACz:Hid (JS w6 g2 A b):=Lib.hid (JS.keeps ⟨ACx.out.at_,bZ.out.low⟩ Iu)
      have AIm:=Lib.hid (Iu.blk AIl.out (by decide))
      have AC0:Hid (∀ y∈xs++[x],IZ w6 g2 A b y y.e):=Lib.hid (fun y hy=>(ACy.out y hy).keeps Iu (by decide))
      have Jl:=Lib.hid (Hb5.out.trans Iu.below)
      have Ny:=Lib.hid hown6
      have zB:=Uh.out
      refine hK.out _ _ zB (fun hHeld=>?_)
      clear hK K zB hHeld IJ Iu hown6 ACw H35 YK ACx AIl ACy Hb5 HZ
      (try simp only[Act.put,l0A,l0B,l0C,l0D,l0E,l0F])
      obtain⟨A6,c6,rfl,_⟩:=Ag Ny.out
      have k2:=Uh.out.cell 0
      have z2:=Uh.out.frozen 0
      refine BM rfl (by kernel_rfl) (by kernel_rfl) (fun K hK=>?_)
      go_simp
      clear k2 z2
      have O1:AB g2 outT w6 (w6.setCell ⟨g2,0,none⟩ (.slice A6 (xs.length+1) c6)):=(AB.refl _ _ _).Dv Uh.out (by simp[outT]) (Nat.le_refl _) 0 _
      have AC1:Hid (AX (w6.setCell ⟨g2,0,none⟩ (.slice A6 (xs.length+1) c6)) g2 76 #[.slice A6 (xs.length+1) c6]):=Lib.hid (Uh.out.Ca 0 (.slice A6 (xs.length+1) c6))
      have H37:=Lib.hid (H36.out.far (p:=⟨g2,0,none⟩) (EK H36.out Uh.out (by decide)) (.slice A6 (xs.length+1) c6))
      have AC2:=Lib.hid (ACz.out.keeps O1)
      have ALN:=Lib.hid (O1.blk AIm.out (by decide))
      have AIn:Hid (∀ y∈xs++[x],IZ (w6.setCell ⟨g2,0,none⟩ (.slice A6 (xs.length+1) c6)) g2 A b y y.e):=Lib.hid (fun y hy=>(AC0.out y hy).keeps O1 (by decide))
      have Fe:=Lib.hid (Jl.out.trans O1.below)
      have Uz:=Lib.hid (O1.own Ny.out (by decide))
      clear O1 Uh H36 ACz AIm AC0 Jl Ny
      refine hK.out _ _ (.inl ⟨rfl,?_⟩)
      clear hK K
      generalize w6.setCell ⟨g2,0,none⟩ (.slice A6 (xs.length+1) c6)=w7 at *
      go_wp2_with fail
      go_roundw
      case rel=>exact⟨f,p2,xs++[x],l++[xe],_,by rw[List.length_append,List.length_cons,List.length_nil];omega,by rw[List.length_append,List.length_cons,List.length_nil,←Z8.out];omega,HR4.out,⟨ALN.out,hp2,⟨AC2.out.at_,fun a o e hp=>Nat.lt_of_lt_of_le (AC2.out.low a o e hp) hgq.1⟩,AC1.out,by rw[List.length_append,List.length_cons,List.length_nil,List.flatMap_append,List.flatMap_cons,List.flatMap_nil,List.append_nil];exact Uz.out,ALM.out,AIn.out⟩,H37.out,Fe.out⟩
      case measure=>rw[AC1.out.cell 0,Hwc.out];simp;omega
   ·rw[show decide (p+4≤b.length∧(b.drop p).take 4=Du∧l.length≤12)=false from decide_eq_false hc]
    have HR2:=Lib.hid (HRr.out.trans (if_neg hc))
    clear hc HRr
    have hok:=kI (HR.out.symm.trans HR2.out)
    have Hok:=Lib.hid hok
    have AIo:xs.length≤13:=by rw[Z8.out];exact hok.count
    clear hok
    go_upto_region 5 with fail
    refine GN ?_
    refine Bu (fun W=>AX W g2 76 #[.slice Av xs.length cv]) 6 (by kernel_rfl) ?_
    have hHeld:AX wc.drew g2 76 #[.slice Av xs.length cv]:=HE.out.res
    have hdr:Below wc.heap.size wc wc.drew:=(Below.refl _ _).drew
    have Ob:Hid (JV wc.drew g2 g2 q A n c p b xs l (.slice Av xs.length cv)):=Lib.hid (HE.out.below hdr)
    have y8:Hid (AX wc.drew g3 4 #[.bool false]):=Lib.hid H3.out
    have bE:=Lib.hid (Hb.out.trans (hdr.mono (by rw[Qv.out];exact Hb.out.size)))
    clear hdr HE H3 Hb
    generalize wc.drew=w3 at *
    refine AA (i:=0) (v:=?vz0) (by kernel_rfl) (by kernel_rfl) rfl (by kernel_rfl) (by kernel_rfl) (by kernel_rfl) (fun _ _ _ h=>by cases h.1) (by rfl) (by assumption) ?ALO ?ALP
    case ALO=>(intro W hSW;have k2:=hSW.cell 0;go_simp;try with_reducible rfl)
    (try simp only[Act.put,l0A,l0B,l0C,l0D,l0E,l0F])
    refine AA (i:=1) (v:=?vz1) (by kernel_rfl) (by kernel_rfl) rfl (by kernel_rfl) (by kernel_rfl) (by kernel_rfl) (fun _ _ _ h=>by cases h.1) (by rfl) (by assumption) ?ALQ ?ALR
    case ALQ=>(intro W hSW;have k2:=hSW.cell 0;go_simp;try with_reducible rfl)
    (try simp only[Act.put,l0A,l0B,l0C,l0D,l0E,l0F])
    refine AA (i:=3) (v:=?vz3) (by kernel_rfl) (by kernel_rfl) rfl (by kernel_rfl) (by kernel_rfl) (by kernel_rfl) (fun _ _ _ h=>by cases h.1) (by rfl) (by assumption) ?ALS ?ALT
    case ALS=>(intro W hSW;have k2:=hSW.cell 0;go_simp;try with_reducible rfl)
    (try simp only[Act.put,l0A,l0B,l0C,l0D,l0E,l0F])
    have hgd:∀ x∈xs,Good x.e:=fun x hx=>Hok.out.good x.e (by rw[←Ob.out.is];exact List.mem_map_of_mem hx)
    have hpp:∀ x∈xs,VI g2 w3 x:=fun x hx=>(Ob.out.all x hx).AFH ⟨Ob.out.low.at_,bZ.out.low⟩
    have hlz:(laidB (Cn xs)).length≤1000000:=by
     rw[show Cn xs=l from Ob.out.is]
     exact gY Hok.out (by rw[Hn.out];exact h12)
    have HAr:=Lib.hid (RB g2 (.slice Av xs.length cv) xs w3 (by rw[Qv.out];exact bE.out.size) Ob.out.own hgd hpp AIo hlz)
    clear hgd hpp hlz
    refine AL (i:=2) rfl (by kernel_rfl) (fun K hK=>?_)
    go_simp
    clear hHeld
    go_at_call 46
    refine (HAr.out).mono ?_
    rintro e w4 ⟨⟨vb,rfl,Tv⟩,SF,hk4⟩
    rw[show Cn xs=l from Ob.out.is]at Tv
    have KL:=Lib.hid SF
    have HD4:Hid (BD w4 A b):=Lib.hid ((JS.keeps (q:=g2) (T:=OT) ⟨Ob.out.low.at_,bZ.out.low⟩ hk4.Jf).at_)
    have ALU:Hid (∀ x∈xs,IZ w4 g2 A b x x.e):=Lib.hid (fun x hx=>(Ob.out.all x hx).keeps hk4.Jf (by decide))
    have aW:Hid (NV w4 g2 g2 g3 (.slice Av xs.length cv) (.bool false)):=Lib.hid ⟨Nat.le_refl _,hle3,hk4.blk Ob.out.res (by decide),hk4.blk y8.out (by decide)⟩
    have Hb4:=Lib.hid (bE.out.trans hk4.toBelow)
    have His:=Lib.hid Ob.out.is
    obtain⟨Ab,cb,rfl,hb1,hb2,hb3,hb4⟩:=Tv.slice
    have Nw:Hid (BD w4 Ab (laidB l)):=Lib.hid hb3
    have Mw:=aW.out.b2
    clear Tv SF hk4 hb3 hb4 Ob y8 bE
    refine hK.out _ _ Mw (fun hHeld=>?_)
    clear hK K Mw
    (try simp only[Act.put,l0A,l0B,l0C,l0D,l0E,l0F])
    obtain⟨Ll,hLl⟩:∃ L,L=laidB l:=⟨_,rfl⟩
    rw[←hLl]at Nw⊢
    have Xb:=Lib.hid hLl
    clear hLl hb1
    obtain⟨nl,hnl⟩:∃ n,n=Ll.length:=⟨_,rfl⟩
    rw[←hnl]
    have Hnl:=Lib.hid hnl
    clear hnl
    refine AL (i:=4) rfl (by kernel_rfl) (fun K hK=>?_)
    go_simp
    clear hHeld
    go_at_call 22
    refine (Hw Ab A nl n cb c Ll b w4 Hnl.out.symm Hn.out Nw.out HD4.out).mono ?_
    rintro e w5 ⟨rfl,rfl⟩
    have Mw:=aW.out.b2
    refine hK.out _ _ Mw (fun hHeld=>?_)
    clear hK K
    (try simp only[Act.put,l0A,l0B,l0C,l0D,l0E,l0F])
    obtain⟨ob,Tv⟩:∃ ob,ob=decide (Ll=b):=⟨_,rfl⟩
    rw[←Tv]
    have Hob:=Lib.hid Tv
    clear Tv Mw
    have k2:=hHeld.cell 0
    have z2:=hHeld.frozen 0
    refine AL (i:=5) rfl (by kernel_rfl) (fun K hK=>?_)
    go_simp
    clear hHeld k2 z2
    have WY:=Lib.hid (aW.out.s2 (.slice Av xs.length cv))
    have L6:Hid (AB g2 outT w5 (w5.setCell ⟨g2,0,none⟩ (.slice Av xs.length cv))):=Lib.hid ((AB.refl _ _ _).Dv aW.out.b2 (by simp[outT]) (Nat.le_refl _) 0 _)
    refine hK.out _ _ WY.out.b2 (fun hHeld=>?_)
    clear hK K
    (try simp only[Act.put,l0A,l0B,l0C,l0D,l0E,l0F])
    have k3:=WY.out.b3.cell 0
    have z3:=WY.out.b3.frozen 0
    refine BM rfl (by kernel_rfl) (by kernel_rfl) (fun K hK=>?_)
    go_simp
    clear hHeld k3 z3
    have vF:=Lib.hid (WY.out.s3 (.bool ob))
    have LQ:=Lib.hid (L6.out.Dv WY.out.b3 (by simp[outT]) hle3 0 (.bool ob))
    refine hK.out _ _ ⟨rfl,?_⟩
    clear hK K aW WY L6
    go_wp2_with fail
    refine leaves_cons (f:=66) (args:=#[.pointer (some ⟨g2,0,none⟩),.pointer (some ⟨g3,0,none⟩)]) (by simp) (by simp[go_sem]) ?_
    refine (aP g2 g3 _).mono ?_
    rintro e u' w8 ⟨rfl,rfl,rfl⟩
    refine⟨_,WW vF.out _ rfl rfl,?_,?_⟩
    ·unfold Ug
     rw[HR2.out]
     dsimp only
     rw[←Xb.out,←Hob.out,←Qv.out]
     exact⟨xs,_,rfl,His.out,LQ.out.own KL.out (by decide),fun x hx=>(ALU.out x hx).keeps LQ.out (by decide)⟩
    ·rw[←Qv.out]
     exact Hb4.out.trans LQ.out.below
end Go.Proofs.YtabdianhoabhhaaGreatDoor.Zip
namespace Go.Proofs.YtabdianhoabhhaaGreatDoor.Zip
open Go Go.RowKit Go.Proofs.YtabdianhoabhhaaGreatDoor Go.Proofs.YtabdianhoabhhaaGreatDoor.Bits Go.Proofs.YtabdianhoabhhaaGreatDoor.Merge Go.Proofs.YtabdianhoabhhaaGreatDoor.Name
set_option linter.unusedVariables false
set_option linter.unusedSimpArgs false
theorem kJ:∀ (l:List Ex) (n:Nat) (y:Ex),y∈Lp l n→∃ x∈l,∃ m,y=setAt x m
 | [],n,y,h=>by cases h
 | x :: l,n,y,h=>by
  unfold Lp at h
  rcases List.mem_cons.1 h with h | h
  ·exact⟨x,List.mem_cons_self ..,n,h⟩
  ·obtain⟨z,hz,m,hm⟩:=kJ l _ y h
   exact⟨z,List.mem_cons_of_mem _ hz,m,hm⟩
theorem YF (A:Option Addr) (n c:Nat) (b:List UInt8) (w:World) (hn:b.length=n) (hnc:n≤c) (hcm:c≤maxLen) (h12:n≤12000) (hA:BD w A b) :
  Calls Tryz.prog 47 #[.slice A n c] w fun e w'=>(∃ (ys:List Ex) (vl:Value),e=.returned (.tuple #[vl,.bool (KW b).1])∧ys.map Ex.e=(KW b).2∧w'.ownsRow w.heap.size 78 9 vl ys.length (ys.flatMap eC)∧(∀ y∈ys,BP w' w.heap.size (Cj y.bs) y.e.f.bytes))∧Below w.heap.size w w':=by
 refine (aU A n c b w hn hnc hcm h12 hA).mono ?_
 rintro e w' ⟨h,hb⟩
 refine⟨?_,hb⟩
 unfold KW
 cases hr:Dt b 14 0 [] with
 | none=>rw[hr]at h;exact⟨[],_,h,rfl,World.ownsRow_nil _ _ _ _,by simp⟩
 | some l=>
  rw[hr]at h
  obtain⟨xs,vl,h1,h2,h3,h4⟩:=h
  refine⟨Lp xs 0,vl,h1,(AH5 xs 0).trans h2,by rw[LF];exact h3,fun y hy=>?_⟩
  obtain⟨x,hx,m,rfl⟩:=kJ xs 0 y hy
  exact (h4 x hx).own
def zC (x:Ex):Fx:=(x.e.f,x.bs)
theorem zD (x:Int) (h:0≤x) (h2:x≤9223372036854775807):lD x:=by
 simp only[lD,Lit.wf,IntKind.min,IntKind.max,IntKind.signed,IntKind.bits]
 simp
 omega
theorem AFI {w:World} {B:Nat} {y:Ex} (hg:Good y.e) (ho:BP w B (Cj y.bs) y.e.f.bytes):D9 w (zC y):=by
 obtain⟨A,c,e,h1,h2,h3,_⟩:=ho.slice
 unfold Cj at e
 injection e with e1 e2 e3
 refine⟨e2,?_,?_,?_,?_,?_,?_⟩
 ·show _≤y.bs.2.2;rw[e3];exact h1
 ·show y.bs.2.2≤_;rw[e3];exact h2
 ·show BD w y.bs.1 _;rw[e1];exact h3
 ·have:=hg.name;show y.e.f.name.length≤maxLen;unfold maxLen;omega
 ·have:=hg.stamp;exact zD y.e.f.stamp (by omega) (by omega)
 ·have:=hg.node;exact zD y.e.f.node (by omega) (by omega)
theorem ALV (ys:List Ex):(ys.map zC).map Prod.fst=(ys.map Ex.e).map Dp.f:=by rw[List.map_map,List.map_map];rfl
def qF (R:Inf.Rd (List Fl)) (w:World) (e:Ending) (w':World):Prop:=
  (match R with
   | .bad z=>e=.returned (.tuple #[.slice none 0 0,.int .i64 z])
   | .ok l=>∃ v,e=.returned (.tuple #[v,.int .i64 0])∧Fs w' v l)∧Below w.heap.size w w'
def PM (b:List UInt8) (w:World) (e:Ending) (w':World):Prop:=qF (Dl b) w e w'
theorem ABy (a b:Nat):((a:Int) == (b:Int))=(a == b):=by rw[Bool.eq_iff_iff,beq_iff_eq,beq_iff_eq];omega
set_option maxRecDepth 100000 in
set_option maxHeartbeats 4000000 in
theorem M6 (A:Option Addr) (n c:Nat) (b:List UInt8) (w:World) (hm:ML w) (hn:b.length=n) (hnc:n≤c) (hcm:c≤maxLen) (hA:BD w A b) :
  Calls Tryz.prog 14 #[.slice A n c] w (PM b w):=by
 by_cases h12:12000 < n
 ·have AFJ:(12000:Int) < (n:Int):=by omega
  have HR:=Lib.hid (WZ (show 12000 < b.length by rw[hn];exact h12))
  clear hn hA
  go_enter Tryz.func14,Tryz.ntmps14
  go_wp2_with fail
  go_ret2
  unfold PM qF
  rw[HR.out]
  exact⟨rfl,Below.refl _ _⟩
 have AFJ:¬ (12000:Int) < (n:Int):=by omega
 have HE:=Lib.hid (YF A n c b w hn hnc hcm (by omega) hA)
 have HR:=Lib.hid (kK (show ¬ 12000 < b.length by rw[hn];exact h12))
 have hok:=zF b
 have HK:Hid (∀ e∈(KW b).2,Good e∧e.f.bytes.length≤12000):=Lib.hid (fun e he=>⟨hok.good e he,hok.bytes (by rw[hn];omega) e he⟩)
 have hcount:=hok.count
 have Hm:=Lib.hid hm
 clear hn hA hok hm
 obtain⟨ok,hok⟩:∃ ok,ok=(KW b).1:=⟨_,rfl⟩
 obtain⟨L,hL⟩:∃ L,L=(KW b).2:=⟨_,rfl⟩
 obtain⟨R,hRe⟩:∃ R,R=Dl b:=⟨_,rfl⟩
 unfold PM
 rw[←hRe]
 rw[←hok,←hL]at HE
 rw[←hok,←hL,←hRe]at HR
 rw[←hL]at HK hcount
 clear hok hL hRe
 obtain⟨B,hB⟩:∃ B,B=w.heap.size:=⟨_,rfl⟩
 rw[←hB]at HE
 have HB:=Lib.hid hB
 clear hB
 go_enter Tryz.func14,Tryz.ntmps14
 go_wp2_with fail
 refine (HE.out).mono ?_
 rintro e w1 ⟨⟨ys,vl,rfl,hys,hol,hby⟩,hb1⟩
 have Hys:=Lib.hid hys
 have HOl:=Lib.hid hol
 have HBy:=Lib.hid hby
 have Hb1:=Lib.hid hb1
 obtain⟨m,hm⟩:∃ m,m=ys.length:=⟨_,rfl⟩
 have rJ:m≤13:=by
  have:=congrArg List.length hys
  rw[List.length_map]at this
  omega
 rw[←hm]at HOl
 have Hml:=Lib.hid hm
 obtain⟨Al,cl,rfl,hl1,hl2,_,_⟩:=Ag HOl.out
 clear hys hol hby hb1 hm HE hcount
 go_wp2_with fail
 go_loopw [6,7,22] (fun vo vr vi wr=>∃ k,k≤m∧vi=.int .i64 (k:Int)∧vr=.bool (RD ((ys.take k).map Ex.e))∧wr.ownsRow B 36 5 vo k (((ys.take k).map zC).flatMap fC)∧wr.ownsRow B 78 9 (.slice Al m cl) m (ys.flatMap eC)∧(∀ y∈ys,BP wr B (Cj y.bs) y.e.f.bytes)∧Below B w wr) (fun _ _ vi _=>m - (intOf vi).toNat)
 case atStart=>exact⟨0,Nat.zero_le _,rfl,rfl,World.ownsRow_nil _ _ _ _,HOl.out,HBy.out,Hb1.out⟩
 case round=>
  obtain⟨k,hk,rfl,rfl,ho,he,hby,hb⟩:=hrel
  obtain⟨sv,hsv⟩:∃ sv,sv=RD ((ys.take k).map Ex.e):=⟨_,rfl⟩
  rw[←hsv]
  have HSv:=Lib.hid hsv.symm
  clear hsv
  have HO:=Lib.hid ho
  have HE:=Lib.hid he
  have HX:=Lib.hid hby
  have Hb:=Lib.hid hb
  clear ho he hby hb HOl HBy Hb1
  by_cases hlt:k < m
  ·have hlt':(k:Int) < (m:Int):=by omega
   have hk0:(0:Int)≤(k:Int):=by omega
   have hkl:k < ys.length:=by rw[←Hml.out];exact hlt
   obtain⟨g,cap,hv,_,_⟩:=HE.out.form (by omega)
   injection hv with hv1 _ hv2
   subst hv1 hv2
   obtain⟨x,hx⟩:∃ x,x=ys[k]:=⟨_,rfl⟩
   have hxm:x∈ys:=by rw[hx];exact List.getElem_mem hkl
   have hsg:ys[k]?=some x:=by rw[hx];exact List.getElem?_eq_getElem hkl
   obtain⟨_,_,e1,_,_,hsl,_⟩:=Ag HE.out
   injection e1 with e1 _ e2
   subst e1 e2
   obtain⟨c0,c1,c2,c3,c4,c5,c6,c7,c8⟩:=Qb hsl hsg
   have bJ:Hid (ys.take (k+1)=ys.take k++[x]):=Lib.hid (by rw[List.take_succ_eq_append_getElem hkl,←hx])
   have HXx:=Lib.hid (HX.out x hxm)
   have hxL:x.e∈L:=by rw[←Hys.out];exact List.mem_map_of_mem hxm
   have mI:=Lib.hid (HK.out x.e hxL).2
   unfold Cj at c1 c6
   clear hx hsg hsl hxm hxL
   have qY:B≤wr.heap.size:=by rw[HB.out];exact Hb.out.size
   go_upto_region 9 with fail
   have hB2:=AX.new wr 78 #[.string (Name.AQ x.e.f.name),.slice x.bs.1 x.bs.2.1 x.bs.2.2,.int .i64 x.e.f.stamp,.int .i64 x.e.f.node,.bool x.e.f.gone,.int .i64 (x.e.method:Int),.slice x.pk.1 x.pk.2.1 x.pk.2.2,.int .u32 (x.e.crc:Int),.int .i64 (x.at_:Int)]
   have hbel:Below wr.heap.size wr (wr.alloc (.cells #[.string (Name.AQ x.e.f.name),.slice x.bs.1 x.bs.2.1 x.bs.2.2,.int .i64 x.e.f.stamp,.int .i64 x.e.f.node,.bool x.e.f.gone,.int .i64 (x.e.method:Int),.slice x.pk.1 x.pk.2.1 x.pk.2.2,.int .u32 (x.e.crc:Int),.int .i64 (x.at_:Int)] 78)):=(Below.refl _ _).alloc (Nat.le_refl _) _
   generalize wr.alloc (.cells #[.string (Name.AQ x.e.f.name),.slice x.bs.1 x.bs.2.1 x.bs.2.2,.int .i64 x.e.f.stamp,.int .i64 x.e.f.node,.bool x.e.f.gone,.int .i64 (x.e.method:Int),.slice x.pk.1 x.pk.2.1 x.pk.2.2,.int .u32 (x.e.crc:Int),.int .i64 (x.at_:Int)] 78)=w2 at *
   have HB2:=Lib.hid hB2
   have Cx:=Lib.hid (AP HO.out hbel)
   have HE2:=Lib.hid (AP HE.out hbel)
   have HX2:Hid (∀ y∈ys,BP w2 B (Cj y.bs) y.e.f.bytes):=Lib.hid (fun y hy=>AP (HX.out y hy) hbel)
   have AIp:=Lib.hid (AP HXx.out hbel)
   have Hb2:=Lib.hid (Hb.out.trans (hbel.mono qY))
   have hs2:B≤w2.heap.size:=Nat.le_trans qY hbel.size
   have d0:w2.cell? ⟨wr.heap.size,0,none⟩=some (.string (Name.AQ x.e.f.name)):=hB2.cell 0
   have d1:w2.cell? ⟨wr.heap.size,1,none⟩=some (.slice x.bs.1 x.bs.2.1 x.bs.2.2):=hB2.cell 1
   have d2:w2.cell? ⟨wr.heap.size,2,none⟩=some (.int .i64 x.e.f.stamp):=hB2.cell 2
   have d3:w2.cell? ⟨wr.heap.size,3,none⟩=some (.int .i64 x.e.f.node):=hB2.cell 3
   have d4:w2.cell? ⟨wr.heap.size,4,none⟩=some (.bool x.e.f.gone):=hB2.cell 4
   have hgs:wr.heap.size < w2.heap.size:=hB2.lt
   clear hB2 HO HE HX Hb HXx c0 c1 c2 c3 c4 c5 c6 c7 c8 qY
   generalize wr.heap.size=ge at *
   have KX:Below w2.heap.size w2 (w2.alloc (.cells #[.string (Name.AQ x.e.f.name),.slice x.bs.1 x.bs.2.1 x.bs.2.2,.int .i64 x.e.f.stamp,.int .i64 x.e.f.node,.bool x.e.f.gone] 36)):=(Below.refl _ _).alloc (Nat.le_refl _) _
   have HZ:Hid (AR (w2.alloc (.cells #[.string (Name.AQ x.e.f.name),.slice x.bs.1 x.bs.2.1 x.bs.2.2,.int .i64 x.e.f.stamp,.int .i64 x.e.f.node,.bool x.e.f.gone] 36)) (some ⟨w2.heap.size,0,none⟩) (fC (zC x))):=Lib.hid (AR.of_heap (heap_alloc_new _ _) rfl)
   have XX:=Lib.hid (AP Cx.out KX)
   have jZ:=Lib.hid (AP HE2.out KX)
   have dQ:Hid (∀ y∈ys,BP (w2.alloc (.cells #[.string (Name.AQ x.e.f.name),.slice x.bs.1 x.bs.2.1 x.bs.2.2,.int .i64 x.e.f.stamp,.int .i64 x.e.f.node,.bool x.e.f.gone] 36)) B (Cj y.bs) y.e.f.bytes):=Lib.hid (fun y hy=>AP (HX2.out y hy) KX)
   have AIq:=Lib.hid (AP AIp.out KX)
   have HB3:=Lib.hid (HB2.out.below KX hgs)
   have Hb3:=Lib.hid (Hb2.out.trans (KX.mono hs2))
   have hs3:B≤(w2.alloc (.cells #[.string (Name.AQ x.e.f.name),.slice x.bs.1 x.bs.2.1 x.bs.2.2,.int .i64 x.e.f.stamp,.int .i64 x.e.f.node,.bool x.e.f.gone] 36)).heap.size:=Nat.le_trans hs2 KX.size
   clear hbel KX Cx HE2 HX2 AIp HB2 Hb2
   go_wp2_with (at_builtin;refine AY _ rfl (.tmp 26) (.tmp 29) _ rfl B 36 _ 5 64 cO.ty _ k (((ys.take k).map zC).flatMap fC) rfl XX.out (some ⟨w2.heap.size,0,none⟩) 1 1 (fC (zC x)) rfl rfl HZ.out (fun u hu=>XC [zC x] u (by simpa using hu)) (by simp) (by unfold maxLen;omega) (by omega) hs3 ?_;intro v4 w4 DD hg4 _;have qB:=Lib.hid ((AB.refl B [36] _).grown XX.out hg4 (by simp) hs3);have KL:=Lib.hid DD;have E9:=Lib.hid (qB.out.blk HB3.out (by decide));have d14:w4.cell? ⟨ge,1,none⟩=some (.slice x.bs.1 x.bs.2.1 x.bs.2.2):=E9.out.cell 1;clear DD hg4)
   have OI:=Lib.hid (qB.out.own jZ.out (by decide))
   have jG:Hid (∀ y∈ys,BP w4 B (Cj y.bs) y.e.f.bytes):=Lib.hid (fun y hy=>qB.out.own (dQ.out y hy) (by decide))
   have AIr:BP w4 B (Cj x.bs) x.e.f.bytes:=qB.out.own AIq.out (by decide)
   have Hb4:=Lib.hid (Hb3.out.trans qB.out.below)
   have hs4:B≤w4.heap.size:=Nat.le_trans hs3 qB.out.size
   obtain⟨Ax,cx,hxe,q1,q2,q3,_⟩:=AIr.slice
   unfold Cj at hxe
   injection hxe with hx1 hx2 hx3
   have HC:=Lib.hid (Sum.Xz 0#32 0 rfl x.bs.1 x.bs.2.1 x.bs.2.2 x.e.f.bytes w4 hx2.symm (by rw[hx2];exact mI.out) (by rw[hx1];exact q3))
   clear AIr hx1 hx2 hx3 q1 q2 q3 XX jZ dQ AIq HB3 Hb3 HZ qB hs3
   refine (HC.out).mono ?_
   rintro e w5 ⟨rfl,hb5⟩
   have YK:=Lib.hid (AP KL.out hb5)
   have HE5:=Lib.hid (AP OI.out hb5)
   have mO:Hid (∀ y∈ys,BP w5 B (Cj y.bs) y.e.f.bytes):=Lib.hid (fun y hy=>AP (jG.out y hy) hb5)
   have hB5:=E9.out.below hb5 E9.out.lt
   have Hb5:=Lib.hid (Hb4.out.trans (hb5.mono hs4))
   have d7:w5.cell? ⟨ge,7,none⟩=some (.int .u32 (x.e.crc:Int)):=hB5.cell 7
   obtain⟨ci,hcv⟩:∃ ci:Int,ci=n32 (Sum.crc 0#32 x.e.f.bytes):=⟨_,rfl⟩
   rw[←hcv]
   have Hcv:=Lib.hid (show ci=((GK x.e.f.bytes:Nat):Int) from hcv)
   have HSn:Hid (RD ((ys.take (k+1)).map Ex.e)=(sv && (ci == (x.e.crc:Int)))):=Lib.hid (by
    rw[bJ.out,List.map_append,List.map_cons,List.map_nil,gZ,HSv.out,hcv]
    congr 1
    exact (ABy _ _).symm)
   have Ny:Hid (w5.ownsRow B 36 5 v4 (k+1) (((ys.take (k+1)).map zC).flatMap fC)):=Lib.hid (by
    have:=YK.out
    rw[bJ.out]
    simpa only[List.map_append,List.map_cons,List.map_nil,List.flatMap_append,List.flatMap_cons,List.flatMap_nil,List.append_nil] using this)
   clear hcv hb5 hB5 HC KL OI jG E9 Hb4 d0 d1 d2 d3 d4 d14 YK
   cases sv with
   | false=>
    go_wp2_with fail
    go_roundw
    case rel=>exact⟨k+1,by omega,by go_num,by rw[HSn.out];rfl,Ny.out,HE5.out,mO.out,Hb5.out⟩
    case measure=>simp[intOf];omega
   | true=>
    go_wp2_with fail
    go_roundw
    case rel=>exact⟨k+1,by omega,by go_num,by rw[HSn.out];rfl,Ny.out,HE5.out,mO.out,Hb5.out⟩
    case measure=>simp[intOf];omega
  ·have hlt':¬ (k:Int) < (m:Int):=by omega
   obtain rfl:k=m:=by omega
   have htk:ys.take k=ys:=by rw[Hml.out];exact List.take_length
   rw[htk]at HO HSv
   rw[Hys.out]at HSv
   have hfs:(ys.map zC).map Prod.fst=L.map Dp.f:=by rw[ALV,Hys.out]
   have HF:Hid (CL wr _ (ys.map zC)):=Lib.hid (P5 HO.out (by rw[List.length_map];exact Hml.out.symm) (fun f hf=>by
    obtain⟨y,hy,rfl⟩:=List.mem_map.1 hf
    exact AFI (HK.out y.e (by rw[←Hys.out];exact List.mem_map_of_mem hy)).1 (HX.out y hy)))
   have hFs:=HF.out.fs
   rw[hfs]at hFs
   have jX:=Lib.hid hFs
   have HC:=Lib.hid (Fy _ (ys.map zC) wr (Hm.out.below (by rw[←HB.out];exact Hb.out)) HF.out)
   rw[hfs]at HC
   clear hfs htk hFs HO HE HX
   obtain⟨z,hz⟩:∃ z,z=Be (L.map Dp.f):=⟨_,rfl⟩
   rw[←hz]at HC HR
   rw[HSv.out]at HR
   clear hz
   cases ok with
   | false=>
    replace HR:=Lib.hid (show R=.bad 7 from HR.out.trans (if_pos rfl))
    go_wp2_with fail
    go_ret2
    unfold qF
    rw[HR.out]
    exact⟨rfl,by rw[←HB.out];exact Hb.out⟩
   | true=>
    replace HR:=Lib.hid (HR.out.trans (if_neg (by simp)))
    go_wp2_with fail
    refine (HC.out).mono ?_
    rintro e w2 ⟨rfl,hb2⟩
    have Hb2:=Lib.hid (Hb.out.trans (hb2.mono (by rw[HB.out];exact Hb.out.size)))
    have ALW:=Lib.hid (jX.out.below hb2)
    clear hb2 HC HF jX Hb
    by_cases hz:z=0
    ·replace HR:=Lib.hid (HR.out.trans (if_neg (fun h=>h hz)))
     subst hz
     cases sv with
     | false=>
      replace HR:=Lib.hid (show R=.bad 10 from HR.out.trans (if_neg (by simp)))
      go_wp2_with fail
      go_ret2
      unfold qF
      rw[HR.out]
      exact⟨rfl,by rw[←HB.out];exact Hb2.out⟩
     | true=>
      replace HR:=Lib.hid (show R=.ok (L.map Dp.f) from HR.out.trans (if_pos rfl))
      go_wp2_with fail
      go_ret2
      unfold qF
      rw[HR.out]
      exact⟨⟨_,rfl,ALW.out⟩,by rw[←HB.out];exact Hb2.out⟩
    ·replace HR:=Lib.hid (show R=.bad 7 from HR.out.trans (if_pos hz))
     have hz1:(z != 0)=true:=by simpa using hz
     go_wp2_with fail
     go_ret2
     unfold qF
     rw[HR.out]
     exact⟨rfl,by rw[←HB.out];exact Hb2.out⟩
end Go.Proofs.YtabdianhoabhhaaGreatDoor.Zip
namespace Go.Proofs.YtabdianhoabhhaaGreatDoor.Zip
open Go Go.RowKit Go.Proofs.YtabdianhoabhhaaGreatDoor Go.Proofs.YtabdianhoabhhaaGreatDoor.Bits Go.Proofs.YtabdianhoabhhaaGreatDoor.Merge Go.Proofs.YtabdianhoabhhaaGreatDoor.Name
set_option linter.unusedVariables false
set_option linter.unusedSimpArgs false
theorem jY {b:List UInt8} {z:Int} (h:Dl b=.bad z):z=2∨z=7∨z=10:=by
 by_cases hl:12000 < b.length
 ·rw[WZ hl]at h;injection h with h;exact .inl h.symm
 ·rw[kK hl]at h
  split at h
  ·injection h with h;exact .inr (.inl h.symm)
  ·split at h
   ·injection h with h;exact .inr (.inl h.symm)
   ·split at h
    ·cases h
    ·injection h with h;exact .inr (.inr h.symm)
end Go.Proofs.YtabdianhoabhhaaGreatDoor.Zip
namespace Go.Proofs.YtabdianhoabhhaaGreatDoor.Kn
open Go Go.RowKit Go.Proofs.YtabdianhoabhhaaGreatDoor Go.Proofs.YtabdianhoabhhaaGreatDoor.Bits Go.Proofs.YtabdianhoabhhaaGreatDoor.Merge Go.Proofs.YtabdianhoabhhaaGreatDoor.Name Go.Proofs.YtabdianhoabhhaaGreatDoor.Zip
open Go.Proofs.YtabdianhoabhhaaGreatDoor.Inf (GN)
set_option linter.unusedVariables false
set_option linter.unusedSimpArgs false
set_option linter.constructorNameAsVariable false
def Xy (w:World) (base:Nat) (v:Value) (l:List Fl):Prop:=∃ lx,FT w base v lx∧lx.map Prod.fst=l
theorem Xy.fs {w:World} {base:Nat} {v:Value} {l:List Fl} (h:Xy w base v l):Fs w v l:=by
 obtain⟨lx,h1,rfl⟩:=h
 exact h1.files.fs
theorem Xy.below {w w':World} {base:Nat} {v:Value} {l:List Fl} (h:Xy w base v l) (hb:Below w.heap.size w w'):Xy w' base v l:=by
 obtain⟨lx,h1,h2⟩:=h
 exact⟨lx,h1.below hb,h2⟩
theorem Xy.Si {w:World} {base base':Nat} {v:Value} {l:List Fl} (h:Xy w base v l) (hb:base'≤base):Xy w base' v l:=by
 obtain⟨lx,h1,h2⟩:=h
 exact⟨lx,h1.Si hb,h2⟩
theorem Xy.nil (w:World) (base:Nat):Xy w base (.slice none 0 0) []:=⟨[],FT.nil w base,rfl⟩
theorem Xy.keeps {w w':World} {B0 base:Nat} {T:List TypeId} {v:Value} {l:List Fl} (h:Xy w base v l) (hk:AB B0 T w w') (h1:36∉T) (h2:5∉T):Xy w' base v l:=by
 obtain⟨lx,⟨g1,g2⟩,h3⟩:=h
 exact⟨lx,⟨hk.own g1 h1,fun x hx=>⟨hk.own (g2 x hx).own h2,(g2 x hx).name,(g2 x hx).stamp,(g2 x hx).node⟩⟩,h3⟩
theorem xK (v1 v2:Value) (a b:List Fl) (w:World) (hm:ML w) (h1:Fs w v1 a) (h2:Fs w v2 b) :
  Calls Tryz.prog 55 #[v1,v2] w fun e w'=>∃ v,e=.returned (.tuple #[v,.int .i64 (Br a b).1])∧Xy w' w.heap.size v (Br a b).2∧Below w.heap.size w w':=by
 obtain⟨x,k1,rfl⟩:=h1
 obtain⟨y,k2,rfl⟩:=h2
 refine (Ov v1 v2 x y w hm k1 k2).mono ?_
 rintro e w' ⟨v,l',he,ho,hl,hb⟩
 exact⟨v,he,⟨l',ho,hl⟩,hb⟩
theorem Zv {r:List UInt8} (h:r.length < 8):FJ r=none:=by unfold FJ;rw[if_pos h]
theorem oV (b:List UInt8) (f u:Nat) (l:List Fl):IW b (f+1) u l=match FJ (b.drop u) with
  | none=>(l,u)
  | some x=>if (Br l x.1).1=0 then IW b f (u+(8+x.2)) (Br l x.1).2 else (l,u):=rfl
theorem four {r:List UInt8} (h:4≤r.length):∃ x0 x1 x2 x3 t,r=x0 :: x1 :: x2 :: x3 :: t:=by
 match r,h with
 | x0 :: x1 :: x2 :: x3 :: t,_=>exact⟨x0,x1,x2,x3,t,rfl⟩
theorem byte_at {w:World} {a o k:Nat} {xs:List UInt8} {x:UInt8} (h:BD w (some ⟨a,o,none⟩) xs) (hk:xs[k]?=some x):w.cell? ⟨a,o+k,none⟩=some (.int .u8 (n8 x)):=by
 have hl:k < xs.length:=by
  rcases Nat.lt_or_ge k xs.length with h1 | h1
  ·exact h1
  ·rw[List.getElem?_eq_none h1]at hk;cases hk
 obtain⟨b,o',e,hc⟩:=h.get hl
 injection e with e
 injection e with e1 e2
 subst e1 e2
 rw[List.getElem?_eq_getElem hl]at hk
 injection hk with hk
 rw[hc,hk]
theorem nG (x0 x1 x2 x3:UInt8):bits .or .i64 (bits .or .i64 (bits .or .i64 (n8 x0) (wrap64 (n8 x1*256))) (wrap64 (n8 x2*65536))) (wrap64 (n8 x3*16777216))=((x0.toNat+256*(x1.toNat+256*(x2.toNat+256*x3.toNat)):Nat):Int):=by
 have h0:=x0.toNat_lt
 have h1:=x1.toNat_lt
 have h2:=x2.toNat_lt
 have e1:bits .or .i64 (n8 x0) (wrap64 (n8 x1*256))=((x0.toNat+x1.toNat*256 ^ 1:Nat):Int):=Rx x0.toNat 1 x1 (by omega) (by omega)
 have e2:bits .or .i64 ((x0.toNat+x1.toNat*256 ^ 1:Nat):Int) (wrap64 (n8 x2*65536))=((x0.toNat+x1.toNat*256 ^ 1+x2.toNat*256 ^ 2:Nat):Int):=Rx _ 2 x2 (by omega) (by omega)
 have e3:bits .or .i64 ((x0.toNat+x1.toNat*256 ^ 1+x2.toNat*256 ^ 2:Nat):Int) (wrap64 (n8 x3*16777216))=((x0.toNat+x1.toNat*256 ^ 1+x2.toNat*256 ^ 2+x3.toNat*256 ^ 3:Nat):Int):=Rx _ 3 x3 (by omega) (by omega)
 rw[e1,e2,e3]
 congr 1
 omega
set_option maxRecDepth 100000 in
set_option maxHeartbeats 4000000 in
theorem Zp (A:Option Addr) (n c:Nat) (b:List UInt8) (w:World) (hm:ML w) (hn:b.length=n) (hnc:n≤c) (hcm:c≤maxLen) (YQ:n≤40000) (hA:BD w A b) :
  Calls Tryz.prog 60 #[.slice A n c] w fun e w'=>(∃ v,e=.returned (.tuple #[v,.int .i64 ((scan b).2:Int)])∧Xy w' w.heap.size v (scan b).1)∧Below w.heap.size w w':=by
 have Hm:=Lib.hid hm
 have Hn:=Lib.hid hn
 have HA:=Lib.hid hA
 obtain⟨R,hR⟩:∃ R,R=scan b:=⟨_,rfl⟩
 rw[←hR]
 have HR:=Lib.hid (show R=IW b (n+1) 0 [] by rw[hR,←hn];rfl)
 clear hn hA hm hR
 go_enter Tryz.func60,Tryz.ntmps60
 go_wp2_with fail
 go_loopw [2,3] (fun vl vu wr=>∃ (f u:Nat) (l:List Fl),R=IW b f u l∧u≤n∧n < f+u∧vu=.int .i64 (u:Int)∧Xy wr w.heap.size vl l∧Below w.heap.size w wr) (fun _ vu _=>n - (intOf vu).toNat)
 case atStart=>exact⟨n+1,0,[],HR.out,Nat.zero_le _,by omega,rfl,Xy.nil w _,Below.refl _ _⟩
 case round=>
  obtain⟨f,u,l,hR,hu,hfu,rfl,hl,hb⟩:=hrel
  obtain⟨f,rfl⟩:∃ f',f=f'+1:=⟨f - 1,by omega⟩
  rw[oV]at hR
  have HR:=Lib.hid hR
  have HL:=Lib.hid hl
  have Hb:=Lib.hid hb
  clear hR hl hb
  have hnu:IntKind.i64.wrap ((n:Int) - (u:Int))=(n:Int) - (u:Int):=IntWalk.i64_in _ (by omega)
  by_cases h8:n - u < 8
  ·have HRe:=Lib.hid (show R=(l,u) by rw[HR.out,Zv (by rw[List.length_drop,Hn.out];exact h8)])
   have h8':¬ (8:Int)≤(n:Int) - (u:Int):=by omega
   go_wp2_with fail
   go_ret2
   rw[HRe.out]
   exact⟨⟨_,rfl,HL.out⟩,Hb.out⟩
  ·have h8':(8:Int)≤(n:Int) - (u:Int):=by omega
   have hun:u < b.length:=by rw[Hn.out];omega
   obtain⟨a,o,rfl,_⟩:=HA.out.get (k:=u) hun
   obtain⟨r,hr⟩:∃ r,r=b.drop u:=⟨_,rfl⟩
   rw[←hr]at HR
   obtain⟨m,hm⟩:∃ m,m=n - u:=⟨_,rfl⟩
   have hrl:r.length=m:=by rw[hr,List.length_drop,Hn.out,hm]
   have HD:Hid (BD wr (some ⟨a,o+u,none⟩) r):=Lib.hid (by rw[hr];exact BD.drop (BD.below HA.out Hb.out) u)
   have hm8:8≤m:=by omega
   have hmn:m≤n:=by omega
   have hcu:¬ c=u:=by omega
   have huc:(u:Int)≤(c:Int):=by omega
   have AKa:(u:Int)≤(n:Int):=by omega
   have hu0:(0:Int)≤(u:Int):=by omega
   obtain⟨x0,x1,x2,x3,t,hxs⟩:=four (r:=r) (by omega)
   have k0:wr.cell? ⟨a,o+u,none⟩=some (.int .u8 (n8 x0)):=byte_at HD.out (k:=0) (x:=x0) (by rw[hxs];rfl)
   have k1:=byte_at HD.out (k:=1) (x:=x1) (by rw[hxs];rfl)
   have k2:=byte_at HD.out (k:=2) (x:=x2) (by rw[hxs];rfl)
   have k3:=byte_at HD.out (k:=3) (x:=x3) (by rw[hxs];rfl)
   have KL:Hid (BL (r.take 4)=x0.toNat+256*(x1.toNat+256*(x2.toNat+256*x3.toNat))):=Lib.hid (by rw[hxs];rfl)
   have Hrl:=Lib.hid hrl
   have Hme:=Lib.hid hm
   have Hr:=Lib.hid hr
   clear hrl hm hr hxs
   go_upto_region 3 with fail
   obtain⟨cm,hcm'⟩:∃ cm,cm=c - u:=⟨_,rfl⟩
   rw[←Hme.out,←hcm']
   have hmc:m≤cm:=by have:=Hme.out;omega
   have hcm2:cm≤maxLen:=by omega
   have hi0:0 < m:=by omega
   have hi1:(1:Int) < (m:Int):=by omega
   have hi2:(2:Int) < (m:Int):=by omega
   have hi3:(3:Int) < (m:Int):=by omega
   clear hcm' hnu h8' hcu huc AKa
   go_quiet (fail)
   rw[nG,←KL.out]
   obtain⟨N,hN⟩:∃ N,N=BL (r.take 4):=⟨_,rfl⟩
   rw[←hN]
   have AKb:N < 4294967296:=by
    have h0:=x0.toNat_lt
    have h1:=x1.toNat_lt
    have h2:=x2.toNat_lt
    have h3:=x3.toNat_lt
    rw[hN,KL.out];omega
   obtain⟨x,hx⟩:∃ x,x=(r.drop 8).take N:=⟨_,rfl⟩
   obtain⟨hd,hhd⟩:∃ hd,hd=(m - 8 < N∨Cy x≠r.take 8):=⟨_,rfl⟩
   have HFi:Hid (FJ r=if (m - 8 < N∨Cy x≠r.take 8) then none else match Dl x with
     | .ok fs=>some (fs,N)
     | .bad _=>none):=Lib.hid (by
    unfold FJ
    rw[Hrl.out,if_neg (by omega),←hN,←hx]
    rfl)
   obtain⟨Aq,hAq⟩:∃ Aq,Aq=if cm=8 then some (⟨a,o+u,none⟩:Addr) else some ⟨a,o+u+8,none⟩:=⟨_,rfl⟩
   have HXl:Hid (N≤m - 8→x.length=N):=Lib.hid (fun h=>by rw[hx,List.length_take,List.length_drop,Hrl.out];omega)
   have HXa:Hid (∀ W,BD W (some ⟨a,o+u,none⟩) r→N≤m - 8→BD W Aq x):=Lib.hid (fun W h hNm=>by
    rw[hAq,hx]
    by_cases hc8:cm=8
    ·rw[show (r.drop 8).take N=[] by rw[show N=0 by omega];rfl]
     exact AR.nil
    ·rw[if_neg hc8]
     exact (BD.drop h 8).take N)
   have HAe:=Lib.hid hAq.symm
   have HX:=Lib.hid hx
   clear hx hAq hd hhd
   have HN:=Lib.hid hN
   have hbd:Below wr.heap.size wr (wr.drewN nq):=(Below.refl _ _).drewN' nq
   have HD4:=Lib.hid (BD.below HD.out hbd)
   have HL4:=Lib.hid (HL.out.below hbd)
   have Hb4:=Lib.hid (Hb.out.trans (hbd.mono Hb.out.size))
   clear k0 k1 k2 k3 hbd hN HD HL Hb KL
   generalize wr.drewN nq=w4 at *
   go_upto_region 4 with fail
   go_cut [54] from 39 to 54 (fun bv wx=>bv=.bool (decide (m - 8 < N∨Cy x≠r.take 8))∧Below w4.heap.size w4 wx)
   case first=>
    have AMq:IntKind.i64.wrap ((m:Int) - 8)=(m:Int) - 8:=IntWalk.i64_in _ (by omega)
    refine GN ?_
    refine Bu (fun _=>True) 15 (by kernel_rfl) ?_
    have hHeld:True:=trivial
    have hdr:Below w4.heap.size w4 w4.drew:=(Below.refl _ _).drew
    have HD5:=Lib.hid (BD.below HD4.out hdr)
    have Hb5:=Lib.hid hdr
    clear hdr
    generalize w4.drew=w5 at *
    by_cases hNm:m - 8 < N
    ·have hNi:(m:Int) - 8 < (N:Int):=by omega
     refine AA (i:=0) (v:=?va0) (by kernel_rfl) (by kernel_rfl) rfl (by kernel_rfl) (by kernel_rfl) (by kernel_rfl) (fun _ _ _ h=>by cases h.1) (by rfl) (by assumption) ?Kr ?Kt
     case Kr=>(intro W hSW;go_simp;try with_reducible rfl)
     (try simp only[Act.put,l0A,l0B,l0C,l0D,l0E,l0F])
     refine AA (i:=1) (v:=?zU) (by kernel_rfl) (by kernel_rfl) rfl (by kernel_rfl) (by kernel_rfl) (by kernel_rfl) (fun _ _ _ h=>by cases h.1) (by rfl) (by assumption) ?Jp ?Jq
     case Jp=>(intro W hSW;go_simp;try with_reducible rfl)
     (try simp only[Act.put,l0A,l0B,l0C,l0D,l0E,l0F])
     refine AA (i:=2) (v:=?va2) (by kernel_rfl) (by kernel_rfl) rfl (by kernel_rfl) (by kernel_rfl) (by kernel_rfl) (fun _ _ _ h=>by cases h.1) (by rfl) (by assumption) ?QG ?QH
     case QG=>(intro W hSW;go_simp;try with_reducible rfl)
     (try simp only[Act.put,l0A,l0B,l0C,l0D,l0E,l0F])
     refine AA (i:=3) (v:=?va3) (by kernel_rfl) (by kernel_rfl) rfl (by kernel_rfl) (by kernel_rfl) (by kernel_rfl) (fun _ _ _ h=>by cases h.1) (by rfl) (by assumption) ?MR ?MS
     case MR=>(intro W hSW;go_simp;try with_reducible rfl)
     (try simp only[Act.put,l0A,l0B,l0C,l0D,l0E,l0F])
     refine AA (i:=4) (v:=?va4) (by kernel_rfl) (by kernel_rfl) rfl (by kernel_rfl) (by kernel_rfl) (by kernel_rfl) (fun _ _ _ h=>by cases h.1) (by rfl) (by assumption) ?MU ?MV
     case MU=>(intro W hSW;go_simp;try with_reducible rfl)
     (try simp only[Act.put,l0A,l0B,l0C,l0D,l0E,l0F])
     refine AA (i:=5) (v:=?va5) (by kernel_rfl) (by kernel_rfl) rfl (by kernel_rfl) (by kernel_rfl) (by kernel_rfl) (fun _ _ _ h=>by cases h.1) (by rfl) (by assumption) ?MW ?MX
     case MW=>(intro W hSW;go_simp;try with_reducible rfl)
     (try simp only[Act.put,l0A,l0B,l0C,l0D,l0E,l0F])
     refine BF (i:=6) (by kernel_rfl) (by kernel_rfl) rfl (by kernel_rfl) (by kernel_rfl) (by kernel_rfl) (fun _ _ _ h=>by cases h.1) (by rfl) (by assumption) ?_
     (try simp only[Act.put,l0A,l0B,l0C,l0D,l0E,l0F])
     refine BF (i:=7) (by kernel_rfl) (by kernel_rfl) rfl (by kernel_rfl) (by kernel_rfl) (by kernel_rfl) (fun _ _ _ h=>by cases h.1) (by rfl) (by assumption) ?_
     (try simp only[Act.put,l0A,l0B,l0C,l0D,l0E,l0F])
     refine BF (i:=8) (by kernel_rfl) (by kernel_rfl) rfl (by kernel_rfl) (by kernel_rfl) (by kernel_rfl) (fun _ _ _ h=>by cases h.1) (by rfl) (by assumption) ?_
     (try simp only[Act.put,l0A,l0B,l0C,l0D,l0E,l0F])
     refine BF (i:=9) (by kernel_rfl) (by kernel_rfl) rfl (by kernel_rfl) (by kernel_rfl) (by kernel_rfl) (fun _ _ _ h=>by cases h.1) (by rfl) (by assumption) ?_
     (try simp only[Act.put,l0A,l0B,l0C,l0D,l0E,l0F])
     refine BF (i:=11) (by kernel_rfl) (by kernel_rfl) rfl (by kernel_rfl) (by kernel_rfl) (by kernel_rfl) (fun _ _ _ h=>by cases h.1) (by rfl) (by assumption) ?_
     (try simp only[Act.put,l0A,l0B,l0C,l0D,l0E,l0F])
     refine BF (i:=12) (by kernel_rfl) (by kernel_rfl) rfl (by kernel_rfl) (by kernel_rfl) (by kernel_rfl) (fun _ _ _ h=>by cases h.1) (by rfl) (by assumption) ?_
     (try simp only[Act.put,l0A,l0B,l0C,l0D,l0E,l0F])
     refine AL (i:=10) rfl (by kernel_rfl) (fun K hK=>?_)
     go_simp
     refine hK.out _ _ trivial (fun hHeld=>?_)
     clear hK K
     (try simp only[Act.put,l0A,l0B,l0C,l0D,l0E,l0F])
     refine AL (i:=13) rfl (by kernel_rfl) (fun K hK=>?_)
     go_simp
     refine hK.out _ _ trivial (fun hHeld=>?_)
     clear hK K
     (try simp only[Act.put,l0A,l0B,l0C,l0D,l0E,l0F])
     refine BF (i:=14) (by kernel_rfl) (by kernel_rfl) rfl (by kernel_rfl) (by kernel_rfl) (by kernel_rfl) (fun _ _ _ h=>by cases h.1) (by rfl) (by assumption) ?_
     (try simp only[Act.put,l0A,l0B,l0C,l0D,l0E,l0F])
     refine BM rfl (by kernel_rfl) (by kernel_rfl) (fun K hK=>?_)
     go_simp
     clear hHeld
     refine hK.out _ _ ⟨rfl,?_⟩
     clear hK K
     go_wp2_with fail
     go_meet
     case rel=>exact⟨by simp[hNm],Hb5.out⟩
    ·have hNi:¬ (m:Int) - 8 < (N:Int):=by omega
     have hw8:IntKind.i64.wrap (8+(N:Int))=8+(N:Int):=IntWalk.i64_in _ (by omega)
     have hs1:(8:Int)≤8+(N:Int):=by omega
     have hs2:8+(N:Int)≤(cm:Int):=by omega
     have hs3:(8:Int)≤(cm:Int):=by omega
     refine AA (i:=0) (v:=?vb0) (by kernel_rfl) (by kernel_rfl) rfl (by kernel_rfl) (by kernel_rfl) (by kernel_rfl) (fun _ _ _ h=>by cases h.1) (by rfl) (by assumption) ?ADd ?ADe
     case ADd=>(intro W hSW;go_simp;try with_reducible rfl)
     (try simp only[Act.put,l0A,l0B,l0C,l0D,l0E,l0F])
     refine AA (i:=1) (v:=?vb1) (by kernel_rfl) (by kernel_rfl) rfl (by kernel_rfl) (by kernel_rfl) (by kernel_rfl) (fun _ _ _ h=>by cases h.1) (by rfl) (by assumption) ?ADf ?ADg
     case ADf=>(intro W hSW;go_simp;try with_reducible rfl)
     (try simp only[Act.put,l0A,l0B,l0C,l0D,l0E,l0F])
     refine AA (i:=2) (v:=?vb2) (by kernel_rfl) (by kernel_rfl) rfl (by kernel_rfl) (by kernel_rfl) (by kernel_rfl) (fun _ _ _ h=>by cases h.1) (by rfl) (by assumption) ?ADh ?ADi
     case ADh=>(intro W hSW;go_simp;try with_reducible rfl)
     (try simp only[Act.put,l0A,l0B,l0C,l0D,l0E,l0F])
     refine AA (i:=3) (v:=?vb3) (by kernel_rfl) (by kernel_rfl) rfl (by kernel_rfl) (by kernel_rfl) (by kernel_rfl) (fun _ _ _ h=>by cases h.1) (by rfl) (by assumption) ?ADj ?ADk
     case ADj=>(intro W hSW;go_simp;try with_reducible rfl)
     (try simp only[Act.put,l0A,l0B,l0C,l0D,l0E,l0F])
     refine AA (i:=4) (v:=?vb4) (by kernel_rfl) (by kernel_rfl) rfl (by kernel_rfl) (by kernel_rfl) (by kernel_rfl) (fun _ _ _ h=>by cases h.1) (by rfl) (by assumption) ?ADl ?ADm
     case ADl=>(intro W hSW;go_simp;try with_reducible rfl)
     (try simp only[Act.put,l0A,l0B,l0C,l0D,l0E,l0F])
     refine AA (i:=5) (v:=?vb5) (by kernel_rfl) (by kernel_rfl) rfl (by kernel_rfl) (by kernel_rfl) (by kernel_rfl) (fun _ _ _ h=>by cases h.1) (by rfl) (by assumption) ?ADn ?ADo
     case ADn=>(intro W hSW;go_simp;try with_reducible rfl)
     (try simp only[Act.put,l0A,l0B,l0C,l0D,l0E,l0F])
     refine AA (i:=6) (v:=?vb6) (by kernel_rfl) (by kernel_rfl) rfl (by kernel_rfl) (by kernel_rfl) (by kernel_rfl) (fun _ _ _ h=>by cases h.1) (by rfl) (by assumption) ?ADp ?ADq
     case ADp=>(intro W hSW;go_simp;try with_reducible rfl)
     (try simp only[Act.put,l0A,l0B,l0C,l0D,l0E,l0F])
     refine AA (i:=7) (v:=?vb7) (by kernel_rfl) (by kernel_rfl) rfl (by kernel_rfl) (by kernel_rfl) (by kernel_rfl) (fun _ _ _ h=>by cases h.1) (by rfl) (by assumption) ?ADr ?ADs
     case ADr=>(intro W hSW;go_simp;try with_reducible rfl)
     (try simp only[Act.put,l0A,l0B,l0C,l0D,l0E,l0F])
     refine AA (i:=8) (v:=?vb8) (by kernel_rfl) (by kernel_rfl) rfl (by kernel_rfl) (by kernel_rfl) (by kernel_rfl) (fun _ _ _ h=>by cases h.1) (by rfl) (by assumption) ?ADt ?ADu
     case ADt=>(intro W hSW;go_simp;try with_reducible rfl)
     (try simp only[Act.put,l0A,l0B,l0C,l0D,l0E,l0F])
     refine AA (i:=9) (v:=?vb9) (by kernel_rfl) (by kernel_rfl) rfl (by kernel_rfl) (by kernel_rfl) (by kernel_rfl) (fun _ _ _ h=>by cases h.1) (by rfl) (by assumption) ?uX ?uY
     case uX=>(intro W hSW;go_simp;try with_reducible rfl)
     (try simp only[Act.put,l0A,l0B,l0C,l0D,l0E,l0F])
     rw[HAe.out,show ((8:Int)+(N:Int)).toNat - 8=N by omega]
     refine AA (i:=11) (v:=?AKW) (by kernel_rfl) (by kernel_rfl) rfl (by kernel_rfl) (by kernel_rfl) (by kernel_rfl) (fun _ _ _ h=>by cases h.1) (by rfl) (by assumption) ?xH ?ABA
     case xH=>(intro W hSW;go_simp;try with_reducible rfl)
     (try simp only[Act.put,l0A,l0B,l0C,l0D,l0E,l0F])
     refine AA (i:=12) (v:=?AMr) (by kernel_rfl) (by kernel_rfl) rfl (by kernel_rfl) (by kernel_rfl) (by kernel_rfl) (fun _ _ _ h=>by cases h.1) (by rfl) (by assumption) ?AHM ?AI7
     case AHM=>(intro W hSW;go_simp;try with_reducible rfl)
     (try simp only[Act.put,l0A,l0B,l0C,l0D,l0E,l0F])
     have AHN:N≤m - 8:=by omega
     have HHd:=Lib.hid (MB Aq N (cm - 8) x w5 (HXl.out AHN) AKb (HXa.out w5 HD5.out AHN))
     refine AL (i:=10) rfl (by kernel_rfl) (fun K hK=>?_)
     go_simp
     clear hHeld
     go_at_call 56
     refine (HHd.out).mono ?_
     rintro e w6 ⟨⟨vh,rfl,hoh⟩,hb6⟩
     obtain⟨Ah,ch,rfl,_,_,hh3,_⟩:=Ag hoh
     have HH6:Hid (BD w6 Ah (Cy x)):=Lib.hid hh3
     have HD6:=Lib.hid (BD.below HD5.out hb6)
     have Jl:=Lib.hid (Hb5.out.trans (hb6.mono Hb5.out.size))
     clear hoh hh3 hb6 HD5 Hb5 HHd
     refine hK.out _ _ trivial (fun hHeld=>?_)
     clear hK K
     (try simp only[Act.put,l0A,l0B,l0C,l0D,l0E,l0F])
     refine AL (i:=13) rfl (by kernel_rfl) (fun K hK=>?_)
     go_simp
     clear hHeld
     go_at_call 82
     refine (l7 Ah (some ⟨a,o+u,none⟩) 8 8 ch cm (Cy x) (r.take 8) w6 (G9 x) (by rw[List.length_take,Hrl.out];omega) (by unfold maxLen;omega) (by unfold maxLen;omega) HH6.out (HD6.out.take 8)).mono ?_
     rintro e w7 ⟨rfl,q,rfl⟩
     have Fe:=Lib.hid (Jl.out.drewN' q)
     refine hK.out _ _ trivial (fun hHeld=>?_)
     clear hK K HH6 HD6 Jl
     (try simp only[Act.put,l0A,l0B,l0C,l0D,l0E,l0F])
     obtain⟨eb,heb⟩:∃ eb,eb=decide (Cy x=r.take 8):=⟨_,rfl⟩
     rw[←heb]
     have Heb:=Lib.hid heb
     clear heb
     generalize w6.drewN q=w7 at *
     refine AA (i:=14) (v:=?AMs) (by kernel_rfl) (by kernel_rfl) rfl (by kernel_rfl) (by kernel_rfl) (by kernel_rfl) (fun _ _ _ h=>by cases h.1) (by rfl) (by assumption) ?AHO ?AI8
     case AHO=>(intro W hSW;go_simp;try with_reducible rfl)
     (try simp only[Act.put,l0A,l0B,l0C,l0D,l0E,l0F])
     refine BM rfl (by kernel_rfl) (by kernel_rfl) (fun K hK=>?_)
     go_simp
     clear hHeld
     refine hK.out _ _ ⟨rfl,?_⟩
     clear hK K
     go_wp2_with fail
     go_meet
     case rel=>exact⟨by rw[Heb.out];simp[hNm],Fe.out⟩
   case rest=>
    obtain⟨rfl,hbx⟩:=hcut
    have HDc:=Lib.hid (BD.below HD4.out hbx)
    have HLc:=Lib.hid (HL4.out.below hbx)
    have Hbc:=Lib.hid (Hb4.out.trans (hbx.mono Hb4.out.size))
    clear hbx HD4 HL4 Hb4
    by_cases hbad:m - 8 < N∨Cy x≠r.take 8
    ·have HRe:=Lib.hid (show R=(l,u) by rw[HR.out,HFi.out,if_pos hbad])
     rw[show decide (m - 8 < N∨Cy x≠r.take 8)=true from decide_eq_true hbad]
     clear hbad HR HFi
     go_wp2_with fail
     go_ret2
     rw[HRe.out]
     exact⟨⟨_,rfl,HLc.out⟩,Hbc.out⟩
    ·have ABE:=Lib.hid (HFi.out.trans (if_neg hbad))
     rw[show decide (m - 8 < N∨Cy x≠r.take 8)=false from decide_eq_false hbad]
     have hNm:N≤m - 8:=by
      rcases Nat.lt_or_ge (m - 8) N with h | h
      ·exact absurd (Or.inl h) hbad
      ·exact h
     clear hbad HFi
     have hw8:IntKind.i64.wrap (8+(N:Int))=8+(N:Int):=IntWalk.i64_in _ (by omega)
     have hs1:(8:Int)≤8+(N:Int):=by omega
     have hs2:8+(N:Int)≤(cm:Int):=by omega
     have hs3:(8:Int)≤(cm:Int):=by omega
     have HGt:=Lib.hid (M6 Aq N (cm - 8) x wc (Hm.out.below Hbc.out) (HXl.out hNm) (by omega) (by omega) (HXa.out wc HDc.out hNm))
     have hAe:=HAe.out
     have h8N:((8:Int)+(N:Int)).toNat - 8=N:=by omega
     go_wp2_with fail
     clear hAe
     refine (HGt.out).mono ?_
     rintro e w8 ⟨hr,LU⟩
     have HL8:=Lib.hid (HLc.out.below LU)
     have EG:=Lib.hid (Hbc.out.trans (LU.mono Hbc.out.size))
     clear LU HLc Hbc HGt HDc
     cases hrd:Dl x with
     | bad z=>
      rw[hrd]at hr
      obtain rfl:=hr
      have HRe:=Lib.hid (show R=(l,u) by rw[HR.out,ABE.out,hrd])
      have hz1:(z != 0)=true:=by
       have:=jY hrd
       simp
       omega
      clear hrd ABE HR
      go_wp2_with fail
      go_ret2
      rw[HRe.out]
      exact⟨⟨_,rfl,HL8.out⟩,EG.out⟩
     | ok fs=>
      rw[hrd]at hr
      obtain⟨v8,rfl,hv8⟩:=hr
      have HR8:=Lib.hid (show R=if (Br l fs).1=0 then IW b f (u+(8+N)) (Br l fs).2 else (l,u) by rw[HR.out,ABE.out,hrd])
      have HB:=Lib.hid (xK _ v8 l fs w8 (Hm.out.below EG.out) HL8.out.fs hv8)
      clear hrd ABE HR hv8
      generalize (Br l fs).1=be at *
      generalize (Br l fs).2=bl at *
      go_wp2_with fail
      refine (HB.out).mono ?_
      rintro e w9 ⟨v9,rfl,hv9,Px⟩
      have HV9:=Lib.hid (hv9.Si EG.out.size)
      have HL9:=Lib.hid (HL8.out.below Px)
      have Pg:=Lib.hid (EG.out.trans (Px.mono EG.out.size))
      clear hv9 Px HB HL8 EG
      by_cases hbe:be=0
      ·have HR9:=Lib.hid (HR8.out.trans (if_pos hbe))
       subst hbe
       have hwu:IntKind.i64.wrap ((u:Int)+(8+(N:Int)))=((u+(8+N):Nat):Int):=by
        rw[show (u:Int)+(8+(N:Int))=((u+(8+N):Nat):Int) by omega];exact IntWalk.i64_in _ (by omega)
       have hmu:u+(8+N)≤n:=by have:=Hme.out;omega
       go_wp2_with fail
       go_roundw
       case rel=>exact⟨f,u+(8+N),bl,HR9.out,hmu,by omega,by go_num,HV9.out,Pg.out⟩
       case measure=>simp[intOf];omega
      ·have HRe:=Lib.hid (HR8.out.trans (if_neg hbe))
       have hz1:(be != 0)=true:=by simpa using hbe
       go_wp2_with fail
       go_ret2
       rw[HRe.out]
       exact⟨⟨_,rfl,HL9.out⟩,Pg.out⟩
   end Go.Proofs.YtabdianhoabhhaaGreatDoor.Kn
namespace Go.Proofs.YtabdianhoabhhaaGreatDoor.Kn
open Go Go.RowKit Go.Proofs.YtabdianhoabhhaaGreatDoor Go.Proofs.YtabdianhoabhhaaGreatDoor.Bits Go.Proofs.YtabdianhoabhhaaGreatDoor.Merge Go.Proofs.YtabdianhoabhhaaGreatDoor.Name Go.Proofs.YtabdianhoabhhaaGreatDoor.Zip Go.Proofs.YtabdianhoabhhaaGreatDoor.Worlds
set_option linter.unusedVariables false
set_option linter.unusedSimpArgs false
set_option linter.constructorNameAsVariable false
theorem _root_.Go.Proofs.YtabdianhoabhhaaGreatDoor.Worlds.Db.below {w w':World} {x:Dx} (h:Db w x) (hb:Below w.heap.size w w'):Db w' x:=⟨h.safe.Bq hb,h.wait.Bq hb⟩
def uI (x:Dx):Prop:=x.safe.length≤140737488355328∧x.wait.length≤140737488355328
theorem Rv (v1 v2:Value) (s t:List UInt8) (w:World) (h1:Au w v1 s) (h2:Au w v2 t) (hl:(s++t).length≤140737488355328) :
  Calls Tryz.prog 32 #[.slice (some ⟨w.heap.size,0,none⟩) 2 2] (w.alloc (.cells #[v1,v2] 23)) fun e w'=>(∃ v,e=.returned v∧BP w' w.heap.size v (s++t))∧Below w.heap.size w w':=
 K8 [(v1,s),(v2,t)] (s++t) 2 w rfl (fun q hq=>by
  rcases List.mem_cons.1 hq with rfl | hq
  ·exact h1
  ·rw[List.mem_singleton.1 hq];exact h2) (by simp) hl (by omega) _ rfl
theorem OH (v:Value) (b:List UInt8) (w:World) (hm:ML w) (h:Au w v b) (YQ:b.length≤40000) :
  Calls Tryz.prog 60 #[v] w fun e w'=>(∃ v,e=.returned (.tuple #[v,.int .i64 ((scan b).2:Int)])∧Xy w' w.heap.size v (scan b).1)∧Below w.heap.size w w':=by
 obtain⟨A,c,rfl,h1,h2,h3⟩:=h
 exact Zp A b.length c b w hm rfl h1 h2 YQ h3
set_option maxRecDepth 100000 in
set_option maxHeartbeats 2000000 in
theorem PK (x:Dx) (w:World) (hm:ML w) (hd:Db w x) (hsz:uI x) :
  Calls Tryz.prog 39 #[dV x] w fun e w'=>e=.returned (.int .i64 (EY x.safe x.wait))∧Below w.heap.size w w':=by
 obtain⟨vs,s,vw,t⟩:=x
 obtain⟨hs,ht⟩:=hd
 obtain⟨hl1,hl2⟩:=hsz
 dsimp only at hs ht hl1 hl2
 have HS:=Lib.hid hs
 have HT:=Lib.hid ht
 have Hm:=Lib.hid hm
 have qZ:Hid (EY s t=if 40000 < s.length+t.length then 2 else if (scan s).2≠s.length then 7 else if (scan (s++t)).2≠(s++t).length then 7 else 0):=Lib.hid rfl
 obtain⟨A1,c1,rfl,_,_,_⟩:=hs
 obtain⟨A2,c2,rfl,_,_,_⟩:=ht
 obtain⟨ns,hns⟩:∃ n,n=s.length:=⟨_,rfl⟩
 obtain⟨nt,hnt⟩:∃ n,n=t.length:=⟨_,rfl⟩
 rw[←hns]at qZ HS hl1
 rw[←hnt]at qZ HT hl2
 have RO:=Lib.hid hns.symm
 have az:=Lib.hid hnt.symm
 have Hlen:Hid ((s++t).length=ns+nt):=Lib.hid (by rw[List.length_append,←hns,←hnt])
 rw[Hlen.out]at qZ
 unfold dV
 dsimp only
 rw[←hns,←hnt]
 show Calls _ _ _ w fun e w'=>e=.returned (.int .i64 (EY s t))∧Below w.heap.size w w'
 obtain⟨z,hz⟩:∃ z,z=EY s t:=⟨_,rfl⟩
 rw[←hz]at qZ⊢
 clear hns hnt hm hz
 go_enter Tryz.func39,Tryz.ntmps39
 go_upto_region 1 with fail
 have HB1:=Lib.hid (AX.new w 52 #[.slice A1 ns c1,.slice A2 nt c2])
 have BH:Below w.heap.size w (w.alloc (.cells #[.slice A1 ns c1,.slice A2 nt c2] 52)):=(Below.refl _ _).alloc (Nat.le_refl _) _
 have bV:=Lib.hid (HS.out.Bq BH)
 have HT1:=Lib.hid (HT.out.Bq BH)
 have Hb1:=Lib.hid BH
 clear BH HS HT
 generalize w.alloc (.cells #[.slice A1 ns c1,.slice A2 nt c2] 52)=w1 at *
 have k0:w1.cell? ⟨w.heap.size,0,none⟩=some (.slice A1 ns c1):=HB1.out.cell 0
 have k1:w1.cell? ⟨w.heap.size,1,none⟩=some (.slice A2 nt c2):=HB1.out.cell 1
 have hw:IntKind.i64.wrap ((ns:Int)+(nt:Int))=(ns:Int)+(nt:Int):=IntWalk.i64_in _ (by omega)
 by_cases YQ:40000 < ns+nt
 ·have xB:(40000:Int) < (ns:Int)+(nt:Int):=by omega
  have HZ:=Lib.hid (qZ.out.trans (if_pos YQ))
  go_wp2_with fail
  go_ret
  exact⟨by rw[HZ.out];rfl,Hb1.out⟩
 ·have xB:¬ (40000:Int) < (ns:Int)+(nt:Int):=by omega
  have HZ:=Lib.hid (qZ.out.trans (if_neg YQ))
  have HSc:=Lib.hid (OH _ s w1 (Hm.out.below Hb1.out) bV.out (by rw[RO.out];omega))
  clear qZ
  generalize (scan s).2=u1 at *
  go_wp2_with fail
  refine (HSc.out).mono ?_
  rintro e w2 ⟨⟨v2,rfl,hv2⟩,hb2⟩
  have HB2:=Lib.hid (HB1.out.below hb2 HB1.out.lt)
  have HS2:=Lib.hid (bV.out.Bq hb2)
  have HT2:=Lib.hid (HT1.out.Bq hb2)
  have Hb2:=Lib.hid (Hb1.out.trans (hb2.mono Hb1.out.size))
  clear k0 k1 hb2 HSc HB1 bV HT1 Hb1 hv2
  have k0:w2.cell? ⟨w.heap.size,0,none⟩=some (.slice A1 ns c1):=HB2.out.cell 0
  have k1:w2.cell? ⟨w.heap.size,1,none⟩=some (.slice A2 nt c2):=HB2.out.cell 1
  by_cases hu:u1=ns
  ·have hu1:((u1:Int) != (ns:Int))=false:=by rw[bne_eq_false_iff_eq];omega
   have hu2:((u1:Int) == (ns:Int))=true:=by rw[beq_iff_eq];omega
   have HZ2:=Lib.hid (HZ.out.trans (if_neg (fun h=>h hu)))
   clear HZ hu
   have oO:=Lib.hid (Rv _ _ s t w2 HS2.out HT2.out (by rw[Hlen.out];omega))
   go_wp2_with fail
   refine (oO.out).mono ?_
   rintro e w3 ⟨⟨v3,rfl,ho3⟩,hb3⟩
   have AHE:=ho3.bytes
   have HB3:=Lib.hid (HB2.out.below hb3 HB2.out.lt)
   have Hb3:=Lib.hid (Hb2.out.trans (hb3.mono Hb2.out.size))
   obtain⟨A3,c3,rfl,_,_,_,_⟩:=ho3.slice
   have HSc:=Lib.hid (OH _ (s++t) w3 (Hm.out.below Hb3.out) AHE (by rw[Hlen.out];omega))
   rw[Hlen.out]at HSc⊢
   clear k0 k1 hb3 oO HB2 HS2 HT2 Hb2 ho3 AHE hu1 hu2
   generalize (scan (s++t)).2=u2 at *
   go_wp2_with fail
   refine (HSc.out).mono ?_
   rintro e w4 ⟨⟨v4,rfl,hv4⟩,hb4⟩
   have E9:=Lib.hid (HB3.out.below hb4 HB3.out.lt)
   have Hb4:=Lib.hid (Hb3.out.trans (hb4.mono Hb3.out.size))
   clear hb4 HSc HB3 Hb3 hv4
   have k0:w4.cell? ⟨w.heap.size,0,none⟩=some (.slice A1 ns c1):=E9.out.cell 0
   have k1:w4.cell? ⟨w.heap.size,1,none⟩=some (.slice A2 nt c2):=E9.out.cell 1
   by_cases hu:u2=ns+nt
   ·have hu1:((u2:Int) != (ns:Int)+(nt:Int))=false:=by rw[bne_eq_false_iff_eq];omega
    have hu2:((u2:Int) == (ns:Int)+(nt:Int))=true:=by rw[beq_iff_eq];omega
    have HZ3:=Lib.hid (HZ2.out.trans (if_neg (fun h=>h hu)))
    clear hu
    go_wp2_with fail
    go_ret
    exact⟨by rw[HZ3.out];rfl,Hb4.out⟩
   ·have hu1:((u2:Int) != (ns:Int)+(nt:Int))=true:=by rw[bne_iff_ne];omega
    have hu2:((u2:Int) == (ns:Int)+(nt:Int))=false:=by rw[beq_eq_false_iff_ne];omega
    have HZ3:=Lib.hid (HZ2.out.trans (if_pos hu))
    clear hu
    go_wp2_with fail
    go_ret
    exact⟨by rw[HZ3.out];rfl,Hb4.out⟩
  ·have hu1:((u1:Int) != (ns:Int))=true:=by rw[bne_iff_ne];omega
   have hu2:((u1:Int) == (ns:Int))=false:=by rw[beq_eq_false_iff_ne];omega
   have HZ2:=Lib.hid (HZ.out.trans (if_pos hu))
   clear hu
   go_wp2_with fail
   go_ret
   exact⟨by rw[HZ2.out];rfl,Hb2.out⟩
def fB (z:Int) (l:List Fl) (w:World) (e:Ending) (w':World):Prop:=
 (if z≠0 then e=.returned (.tuple #[.slice none 0 0,.int .i64 z]) else ∃ v,e=.returned (.tuple #[v,.int .i64 0])∧Xy w' w.heap.size v l)∧Below w.heap.size w w'
def Gm (s t:List UInt8) (w:World) (e:Ending) (w':World):Prop:=fB (EY s t) (Cr s t) w e w'
set_option maxRecDepth 100000 in
set_option maxHeartbeats 2000000 in
theorem KP (x:Dx) (w:World) (hm:ML w) (hd:Db w x) (hsz:uI x) :
  Calls Tryz.prog 35 #[dV x] w (Gm x.safe x.wait w):=by
 obtain⟨vs,s,vw,t⟩:=x
 obtain⟨A1,c1,e1,_,_,_⟩:=(show Au w vs s from hd.safe)
 obtain⟨A2,c2,e2,_,_,_⟩:=(show Au w vw t from hd.wait)
 subst e1 e2
 have HD:=Lib.hid hd
 have Hm:=Lib.hid hm
 have Ou:=Lib.hid hsz
 have hck:=@Gq s t
 unfold Gm
 dsimp only
 generalize hns:s.length=ns at *
 generalize hnt:t.length=nt at *
 have RO:=Lib.hid hns
 have az:=Lib.hid hnt
 obtain⟨z,hz⟩:∃ z,z=EY s t:=⟨_,rfl⟩
 rw[←hz]at hck⊢
 have Hz:=Lib.hid hz
 have Hck:=Lib.hid hck
 clear hm hz hck hd hns hnt hsz
 go_enter Tryz.func35,Tryz.ntmps35
 unfold dV
 go_upto_region 1 with fail
 have HB1:=Lib.hid (AX.new w 52 #[.slice A1 ns c1,.slice A2 nt c2])
 have BH:Below w.heap.size w (w.alloc (.cells #[.slice A1 ns c1,.slice A2 nt c2] 52)):=(Below.refl _ _).alloc (Nat.le_refl _) _
 have HD1:=Lib.hid (HD.out.below BH)
 have Hb1:=Lib.hid BH
 clear BH HD
 generalize w.alloc (.cells #[.slice A1 ns c1,.slice A2 nt c2] 52)=w1 at *
 have k0:w1.cell? ⟨w.heap.size,0,none⟩=some (.slice A1 ns c1):=HB1.out.cell 0
 have k1:w1.cell? ⟨w.heap.size,1,none⟩=some (.slice A2 nt c2):=HB1.out.cell 1
 have HC:=Lib.hid (PK _ w1 (Hm.out.below Hb1.out) HD1.out Ou.out)
 unfold dV at HC
 dsimp only at HC
 rw[←Hz.out]at HC
 go_wp2_with fail
 refine (HC.out).mono ?_
 rintro e w2 ⟨rfl,hb2⟩
 have HB2:=Lib.hid (HB1.out.below hb2 HB1.out.lt)
 have HD2:=Lib.hid (HD1.out.below hb2)
 have Hb2:=Lib.hid (Hb1.out.trans (hb2.mono Hb1.out.size))
 clear k0 k1 hb2 HC HB1 HD1 Hb1
 by_cases h0:z=0
 ·obtain⟨hlen,_,_⟩:=Hck.out.1 h0
  subst h0
  obtain⟨hs,ht⟩:=HD2.out
  have k0:w2.cell? ⟨w.heap.size,0,none⟩=some (.slice A1 ns c1):=HB2.out.cell 0
  have k1:w2.cell? ⟨w.heap.size,1,none⟩=some (.slice A2 nt c2):=HB2.out.cell 1
  have oO:=Lib.hid (Rv _ _ s t w2 hs ht (by rw[List.length_append,RO.out,az.out];omega))
  clear hs ht
  go_wp2_with fail
  refine (oO.out).mono ?_
  rintro e w3 ⟨⟨v3,rfl,ho3⟩,hb3⟩
  have Hb3:=Lib.hid (Hb2.out.trans (hb3.mono Hb2.out.size))
  have HSc:=Lib.hid (OH _ (s++t) w3 (Hm.out.below Hb3.out) ho3.bytes (by rw[List.length_append,RO.out,az.out];omega))
  clear k0 k1 hb3 oO HB2 HD2 Hb2 ho3
  go_wp2_with fail
  refine (HSc.out).mono ?_
  rintro e w4 ⟨⟨v4,rfl,hv4⟩,hb4⟩
  have Hb4:=Lib.hid (Hb3.out.trans (hb4.mono Hb3.out.size))
  have HV4:=Lib.hid (hv4.Si Hb3.out.size)
  clear hb4 HSc Hb3 hv4
  go_wp2_with fail
  go_ret2
  unfold fB
  rw[if_neg (by simp)]
  exact⟨⟨_,rfl,HV4.out⟩,Hb4.out⟩
 ·have hz1:(z != 0)=true:=by simpa using h0
  go_wp2_with fail
  go_ret2
  unfold fB
  rw[if_pos h0]
  exact⟨rfl,Hb2.out⟩
end Go.Proofs.YtabdianhoabhhaaGreatDoor.Kn
namespace Go.Proofs.YtabdianhoabhhaaGreatDoor.Kn
open Go Go.RowKit Go.Proofs.YtabdianhoabhhaaGreatDoor Go.Proofs.YtabdianhoabhhaaGreatDoor.Bits Go.Proofs.YtabdianhoabhhaaGreatDoor.Merge Go.Proofs.YtabdianhoabhhaaGreatDoor.Name Go.Proofs.YtabdianhoabhhaaGreatDoor.Zip Go.Proofs.YtabdianhoabhhaaGreatDoor.Worlds
set_option linter.unusedVariables false
set_option linter.unusedSimpArgs false
set_option linter.constructorNameAsVariable false
theorem DU {P:Program} {fn:Func} {p q:Tmp} {ty:TypeId} (h:fn.results=#[.cell p ty,.tmp q]) (tmps:Array Value) (w:World) (g:Nat) (t:TypeId) (cs:Array Value) (fr:Nat×Nat) (d:TypeDesc) (v:Value)
  (hp:tmps.getD p undef=.pointer (some ⟨g,0,none⟩)) (hq:tmps.getD q undef=v) (hg:w.heap[g]?=some (.cells cs t fr))
  (hu:P.underlying ty=some d) (hd:(match d with | .struct _ | .array _ _=>true | _=>false)=true) (hi:(P.info? ty).map (·.size)=some cs.size) :
  (results fn tmps).run P w=.ok (.tuple #[.agg cs,v]) w:=by
 have hp':tmps[p]?.getD undef=.pointer (some ⟨g,0,none⟩):=by simpa using hp
 have hq':tmps[q]?.getD undef=v:=by simpa using hq
 simp[results,h,hp',hq',asAddr,run_loadVar_row w g t ty cs fr d hg hu hd hi]
theorem GA {P:Program} {fn:Func} {p q r:Tmp} {ty:TypeId} (h:fn.results=#[.cell p ty,.tmp q,.tmp r]) (tmps:Array Value) (w:World) (g:Nat) (t:TypeId) (cs:Array Value) (fr:Nat×Nat) (d:TypeDesc) (v u:Value)
  (hp:tmps.getD p undef=.pointer (some ⟨g,0,none⟩)) (hq:tmps.getD q undef=v) (hr:tmps.getD r undef=u) (hg:w.heap[g]?=some (.cells cs t fr))
  (hu:P.underlying ty=some d) (hd:(match d with | .struct _ | .array _ _=>true | _=>false)=true) (hi:(P.info? ty).map (·.size)=some cs.size) :
  (results fn tmps).run P w=.ok (.tuple #[.agg cs,v,u]) w:=by
 have hp':tmps[p]?.getD undef=.pointer (some ⟨g,0,none⟩):=by simpa using hp
 have hq':tmps[q]?.getD undef=v:=by simpa using hq
 have hr':tmps[r]?.getD undef=u:=by simpa using hr
 simp[results,h,hp',hq',hr',asAddr,run_loadVar_row w g t ty cs fr d hg hu hd hi]
theorem Dc {w:World} {g:Nat} {t:TypeId} {a0 a1:Value} (h:AX w g t #[a0,a1]) (b0 b1:Value):AX ((w.setCell ⟨g,0,none⟩ b0).setCell ⟨g,1,none⟩ b1) g t #[b0,b1]:=by
 have h0:AX (w.setCell ⟨g,0,none⟩ b0) g t #[b0,a1]:=h.Ca 0 b0
 exact h0.Ca 1 b1
theorem CX {w0 w:World} {B g:Nat} (h:Below B w0 w) (hg:B≤g) (b0 b1:Value):Below B w0 ((w.setCell ⟨g,0,none⟩ b0).setCell ⟨g,1,none⟩ b1):=(h.setCell (p:=⟨g,0,none⟩) hg b0).setCell (p:=⟨g,1,none⟩) hg b1
theorem Ii {w:World} {base:Nat} {v:Value} {xs:List UInt8} {g:Nat} (h:BP w base v xs) (hg:g < base) (b0 b1:Value):BP ((w.setCell ⟨g,0,none⟩ b0).setCell ⟨g,1,none⟩ b1) base v xs:=
 ownsRow_setCell_below (ownsRow_setCell_below h (a:=⟨g,0,none⟩) hg b0) (a:=⟨g,1,none⟩) hg b1
def noD:Value:=.agg #[.slice none 0 0,.slice none 0 0]
def JJ (r:Inf.Rd (List UInt8×List UInt8)) (w:World) (e:Ending) (w':World):Prop:=
  (match r with
   | .bad z=>e=.returned (.tuple #[noD,.int .i64 z])
   | .ok a=>∃ vs vw,e=.returned (.tuple #[.agg #[vs,vw],.int .i64 0])∧BP w' w.heap.size vs a.1∧BP w' w.heap.size vw a.2)∧Below w.heap.size w w'
def Zq (r:Inf.Rd (List UInt8×Nat)) (w:World) (e:Ending) (w':World):Prop:=
  (match r with
   | .bad z=>e=.returned (.tuple #[noD,.int .i64 0,.int .i64 z])
   | .ok a=>∃ vs,e=.returned (.tuple #[.agg #[vs,.slice none 0 0],.int .i64 (a.2:Int),.int .i64 0])∧BP w' w.heap.size vs a.1)∧Below w.heap.size w w'
structure ABB (w0 w:World) (g gi:Nat) (v1 v2:Value):Prop where
 Oa:AX w gi 52 #[v1,v2]
 out:AX w g 52 #[.slice none 0 0,.slice none 0 0]
 below:Below w0.heap.size w0 w
theorem ABB.step {w0 w w':World} {g gi:Nat} {v1 v2:Value} (h:ABB w0 w g gi v1 v2) (hb:Below w.heap.size w w'):ABB w0 w' g gi v1 v2:=
 ⟨h.Oa.below hb h.Oa.lt,h.out.below hb h.out.lt,h.below.trans (hb.mono h.below.size)⟩
theorem PI (w:World) (v1 v2:Value):ABB w ((w.alloc (.cells #[v1,v2] 52)).alloc (.cells #[.slice none 0 0,.slice none 0 0] 52)) (w.heap.size+1) w.heap.size v1 v2:=by
 have h2:=AX.new (w.alloc (.cells #[v1,v2] 52)) 52 #[.slice none 0 0,.slice none 0 0]
 simp only[World.size_alloc]at h2
 exact⟨(AX.new w _ _).alloc _,h2,((Below.refl _ _).alloc (Nat.le_refl _) _).alloc (by simp only[World.size_alloc];omega) _⟩
set_option maxRecDepth 100000 in
set_option maxHeartbeats 2000000 in
theorem WB (x:Dx) (w:World) (hm:ML w) (hd:Db w x) (hsz:uI x) :
  Calls Tryz.prog 36 #[dV x] w (JJ (IL x.safe x.wait) w):=by
 obtain⟨vs,s,vw,t⟩:=x
 obtain⟨A1,c1,e1,_,_,_⟩:=(show Au w vs s from hd.safe)
 obtain⟨A2,c2,e2,_,_,_⟩:=(show Au w vw t from hd.wait)
 subst e1 e2
 have HD:=Lib.hid hd
 have Hm:=Lib.hid hm
 have Ou:=Lib.hid hsz
 have hck:=@Gq s t
 dsimp only
 generalize hns:s.length=ns at *
 generalize hnt:t.length=nt at *
 have RO:=Lib.hid hns
 have az:=Lib.hid hnt
 have HF:Hid (IL s t=if EY s t≠0 then .bad (EY s t) else .ok (s++t,[])):=Lib.hid rfl
 obtain⟨R,hR⟩:∃ R,R=IL s t:=⟨_,rfl⟩
 rw[←hR]at HF⊢
 obtain⟨z,hz⟩:∃ z,z=EY s t:=⟨_,rfl⟩
 rw[←hz]at hck HF
 have Hz:=Lib.hid hz
 have Hck:=Lib.hid hck
 clear hm hz hck hd hns hnt hsz hR
 unfold dV
 dsimp only
 go_enter Tryz.func36,Tryz.ntmps36
 go_upto_region 1 with fail
 have h2:=PI w (.slice A1 ns c1) (.slice A2 nt c2)
 have HD1:=Lib.hid (HD.out.below h2.below)
 have HT1:=Lib.hid h2
 clear h2 HD
 generalize (w.alloc (.cells #[.slice A1 ns c1,.slice A2 nt c2] 52)).alloc (.cells #[.slice none 0 0,.slice none 0 0] 52)=w1 at *
 have k0:w1.cell? ⟨w.heap.size,0,none⟩=some (.slice A1 ns c1):=HT1.out.Oa.cell 0
 have k1:w1.cell? ⟨w.heap.size,1,none⟩=some (.slice A2 nt c2):=HT1.out.Oa.cell 1
 have HC:=Lib.hid (PK _ w1 (Hm.out.below HT1.out.below) HD1.out Ou.out)
 unfold dV at HC
 dsimp only at HC
 rw[←Hz.out]at HC
 go_wp2_with fail
 refine (HC.out).mono ?_
 rintro e w2 ⟨rfl,hb2⟩
 have HT2:=Lib.hid (HT1.out.step hb2)
 have HD2:=Lib.hid (HD1.out.below hb2)
 clear k0 k1 hb2 HC HT1 HD1
 have hgg:w.heap.size+1 < w2.heap.size:=HT2.out.out.lt
 by_cases h0:z=0
 ·obtain⟨hlen,_,_⟩:=Hck.out.1 h0
  have HR:=Lib.hid (HF.out.trans (if_neg (fun h=>h h0)))
  subst h0
  obtain⟨hs,ht⟩:=HD2.out
  have k0:w2.cell? ⟨w.heap.size,0,none⟩=some (.slice A1 ns c1):=HT2.out.Oa.cell 0
  have k1:w2.cell? ⟨w.heap.size,1,none⟩=some (.slice A2 nt c2):=HT2.out.Oa.cell 1
  have oO:=Lib.hid (Rv _ _ s t w2 hs ht (by rw[List.length_append,RO.out,az.out];omega))
  clear hs ht
  go_wp2_with fail
  refine (oO.out).mono ?_
  rintro e w3 ⟨⟨v3,rfl,ho3⟩,hb3⟩
  obtain⟨A3,c3,rfl,_,_,_,_⟩:=ho3.slice
  obtain⟨L,hL⟩:∃ L,L=(s++t).length:=⟨_,rfl⟩
  rw[←hL]at ho3⊢
  clear hL
  have HT3:=Lib.hid (HT2.out.step hb3)
  have XX:=Lib.hid (Ii ho3 hgg (.slice A3 L c3) (.slice none 0 0))
  have Jt:=Lib.hid (Dc HT3.out.out (.slice A3 L c3) (.slice none 0 0))
  have Ec:=Lib.hid (CX (g:=w.heap.size+1) HT3.out.below (by omega) (.slice A3 L c3) (.slice none 0 0))
  have q0:w3.cell? ⟨w.heap.size+1,0,none⟩=some (.slice none 0 0):=HT3.out.out.cell 0
  have q1:w3.cell? ⟨w.heap.size+1,1,none⟩=some (.slice none 0 0):=HT3.out.out.cell 1
  have z0:=HT3.out.out.frozen 0
  have z1:=HT3.out.out.frozen 1
  have hss:=HT2.out.below.size
  clear k0 k1 hb3 oO HT2 HD2 ho3
  go_wp2_with fail
  refine bodyPost_ret (DU rfl _ _ (w.heap.size+1) 52 #[.slice A3 L c3,.slice none 0 0] (0,0) _ _ rfl rfl Jt.out Tryz.underlying52 rfl (by kernel_rfl)) rfl ?_
  unfold JJ
  rw[HR.out]
  exact⟨⟨_,_,rfl,Ai XX.out hss,BP.nil _ _⟩,Ec.out⟩
 ·have hz1:(z != 0)=true:=by simpa using h0
  have HR:=Lib.hid (HF.out.trans (if_pos h0))
  have Jt:=Lib.hid (Dc HT2.out.out (.slice none 0 0) (.slice none 0 0))
  have Ec:=Lib.hid (CX (g:=w.heap.size+1) HT2.out.below (by omega) (.slice none 0 0) (.slice none 0 0))
  have q0:w2.cell? ⟨w.heap.size+1,0,none⟩=some (.slice none 0 0):=HT2.out.out.cell 0
  have q1:w2.cell? ⟨w.heap.size+1,1,none⟩=some (.slice none 0 0):=HT2.out.out.cell 1
  have z0:=HT2.out.out.frozen 0
  have z1:=HT2.out.out.frozen 1
  go_wp2_with fail
  refine bodyPost_ret (DU rfl _ _ (w.heap.size+1) 52 #[.slice none 0 0,.slice none 0 0] (0,0) _ _ rfl rfl Jt.out Tryz.underlying52 rfl (by kernel_rfl)) rfl ?_
  unfold JJ
  rw[HR.out]
  exact⟨rfl,Ec.out⟩
set_option maxRecDepth 100000 in
set_option maxHeartbeats 2000000 in
theorem Q4 (A:Option Addr) (n c:Nat) (b:List UInt8) (w:World) (hm:ML w) (hn:b.length=n) (hnc:n≤c) (hcm:c≤maxLen) (hA:BD w A b) :
  Calls Tryz.prog 38 #[.slice A n c] w (Zq (DY b) w):=by
 have HF:Hid (DY b=if 40000 < n then .bad 2 else .ok (b.take (scan b).2,n - (scan b).2)):=Lib.hid (by rw[←hn];rfl)
 have hle:=NB b
 rw[hn]at hle
 have Hn:=Lib.hid hn
 have HA:=Lib.hid hA
 have Hm:=Lib.hid hm
 obtain⟨R,hR⟩:∃ R,R=DY b:=⟨_,rfl⟩
 rw[←hR]at HF⊢
 clear hm hn hA hR
 go_enter Tryz.func38,Tryz.ntmps38
 go_upto_region 1 with fail
 have HB1:=Lib.hid (AX.new w 52 #[.slice none 0 0,.slice none 0 0])
 have BH:Below w.heap.size w (w.alloc (.cells #[.slice none 0 0,.slice none 0 0] 52)):=(Below.refl _ _).alloc (Nat.le_refl _) _
 have HA1:=Lib.hid (BD.below HA.out BH)
 have Hb1:=Lib.hid BH
 clear BH HA
 generalize w.alloc (.cells #[.slice none 0 0,.slice none 0 0] 52)=w1 at *
 by_cases YQ:40000 < n
 ·have xB:(40000:Int) < (n:Int):=by omega
  have HR:=Lib.hid (HF.out.trans (if_pos YQ))
  have Jt:=Lib.hid (Dc HB1.out (.slice none 0 0) (.slice none 0 0))
  have Ec:=Lib.hid (CX (g:=w.heap.size) Hb1.out (by omega) (.slice none 0 0) (.slice none 0 0))
  have q0:w1.cell? ⟨w.heap.size,0,none⟩=some (.slice none 0 0):=HB1.out.cell 0
  have q1:w1.cell? ⟨w.heap.size,1,none⟩=some (.slice none 0 0):=HB1.out.cell 1
  have z0:=HB1.out.frozen 0
  have z1:=HB1.out.frozen 1
  go_wp2_with fail
  refine bodyPost_ret (GA rfl _ _ w.heap.size 52 #[.slice none 0 0,.slice none 0 0] (0,0) _ _ _ rfl rfl rfl Jt.out Tryz.underlying52 rfl (by kernel_rfl)) rfl ?_
  unfold Zq
  rw[HR.out]
  exact⟨rfl,Ec.out⟩
 ·have xB:¬ (40000:Int) < (n:Int):=by omega
  have HR:=Lib.hid (HF.out.trans (if_neg YQ))
  have HSc:=Lib.hid (Zp A n c b w1 (Hm.out.below Hb1.out) Hn.out hnc hcm (by omega) HA1.out)
  clear HF
  generalize (scan b).2=u at *
  go_wp2_with fail
  refine (HSc.out).mono ?_
  rintro e w2 ⟨⟨v2,rfl,hv2⟩,hb2⟩
  have HB2:=Lib.hid (HB1.out.below hb2 HB1.out.lt)
  have HA2:=Lib.hid (BD.below HA1.out hb2)
  have Hb2:=Lib.hid (Hb1.out.trans (hb2.mono Hb1.out.size))
  have hgg:w.heap.size < w2.heap.size:=HB2.out.lt
  clear hb2 HSc HB1 HA1 Hb1 hv2
  have hcu:(u:Int)≤(c:Int):=by omega
  have hu0:(0:Int)≤(u:Int):=by omega
  have hnu:IntKind.i64.wrap ((n:Int) - (u:Int))=((n - u:Nat):Int):=by
   rw[show (n:Int) - (u:Int)=((n - u:Nat):Int) by omega];exact IntWalk.i64_in _ (by omega)
  have HCl:=Lib.hid (Sg.Ei A u c ((b.take u).map Eh) w2 (by rw[List.length_map,List.length_take,Hn.out];omega) (HA2.out.take u) (fun h=>by
   rcases Nat.eq_zero_or_pos u with h0 | h0
   ·exact h0
   ·obtain⟨a,o,e,_⟩:=HA2.out.get (k:=0) (by rw[Hn.out];omega)
    rw[h]at e;cases e) (Ia _) (by unfold maxLen;omega) (by omega))
  obtain⟨nu,AHK⟩:∃ nu,nu=n - u:=⟨_,rfl⟩
  rw[←AHK]at hnu HR
  clear AHK
  go_wp2_with fail
  refine (HCl.out).mono ?_
  rintro e w3 ⟨v3,rfl,ho3,hb3⟩
  obtain⟨A3,c3,rfl,_,_,_,_⟩:=Ag ho3
  have ho3:BP w3 w2.heap.size (.slice A3 u c3) (b.take u):=by
   unfold BP
   rw[List.length_take,Hn.out,Nat.min_eq_left hle]
   exact ho3
  have HB3:=Lib.hid (HB2.out.below hb3 HB2.out.lt)
  have Hb3:=Lib.hid (Hb2.out.trans (hb3.mono Hb2.out.size))
  have XX:=Lib.hid (Ii ho3 hgg (.slice A3 u c3) (.slice none 0 0))
  have Jt:=Lib.hid (Dc HB3.out (.slice A3 u c3) (.slice none 0 0))
  have Ec:=Lib.hid (CX (g:=w.heap.size) Hb3.out (by omega) (.slice A3 u c3) (.slice none 0 0))
  have q0:w3.cell? ⟨w.heap.size,0,none⟩=some (.slice none 0 0):=HB3.out.cell 0
  have q1:w3.cell? ⟨w.heap.size,1,none⟩=some (.slice none 0 0):=HB3.out.cell 1
  have z0:=HB3.out.frozen 0
  have z1:=HB3.out.frozen 1
  have hss:=Hb2.out.size
  clear hb3 HCl HB2 HA2 ho3
  go_wp2_with fail
  refine bodyPost_ret (GA rfl _ _ w.heap.size 52 #[.slice A3 u c3,.slice none 0 0] (0,0) _ _ _ rfl rfl rfl Jt.out Tryz.underlying52 rfl (by kernel_rfl)) rfl ?_
  unfold Zq
  rw[HR.out]
  exact⟨⟨_,rfl,Ai XX.out hss⟩,Ec.out⟩
end Go.Proofs.YtabdianhoabhhaaGreatDoor.Kn
