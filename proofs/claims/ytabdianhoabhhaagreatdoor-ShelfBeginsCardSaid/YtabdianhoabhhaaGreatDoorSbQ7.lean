/- texts joined: Name0 File Name1 FuncS Name2 CloneFB DEqF QuietTail MergeChk4 DEqualF MergeBoth3 DSame. -/
import Derived.Test.YtabdianhoabhhaaGreatDoorSbQ6
import Derived.Test.YtabdianhoabhhaaGreatDoorSbQ1
import Derived.Test.YtabdianhoabhhaaGreatDoorProg
import Derived.WalkSpells
import Derived.Lib.SliceRun
import Derived.OneCell
import Derived.StillTail
import Derived.Deep.QuietTactic
import Derived.Lib.BytesEntry
import Derived.Laws.BytesArg
import Derived.Shelf.Bytes.SlSmallAll
import Derived.BigQuiet
import Derived.IntWalk
import Derived.Laws.Cover1
import Derived.Lib.AppendZeros
import Derived.Deep.RegionHeld3
import Derived.Deep.AppendLies
import Derived.Deep.DrawnRows
namespace Go.Proofs.YtabdianhoabhhaaGreatDoor.Name
open Go Go.RowKit Go.Shelf Go.Proofs.YtabdianhoabhhaaGreatDoor
set_option linter.unusedVariables false
def sv (p:List UInt8):Value:=.string (AQ p)
def ML (w:World):Prop:=∃ m,w.cell? ⟨0,0,none⟩=some (.int .i64 m)
theorem ML.below {w w':World} (h:ML w) (hb:Below w.heap.size w w'):ML w':=by
 obtain⟨m,hm⟩:=h
 exact⟨m,cell_below hb hm⟩
theorem Za (c:UInt8):(n8 c).toNat.toUInt8=c:=by unfold n8;simp
theorem nU (l:List UInt8) (w:World) (hl:l.length≤4000000) (hm:ML w) :
  Calls Tryz.prog 70 #[.string (AQ l),.string (AQ [47])] w fun e w'=>e=.returned (.slice (some ⟨w.heap.size,0,none⟩) (parts l).length (parts l).length)∧AX w' w.heap.size 9 ((parts l).map sv).toArray∧Below w.heap.size w w':=by
 obtain⟨m,hm⟩:=hm
 have c:Calls Tryz.prog 70 #[.string (AQ l),.string (AQ [47])] w _:=Any.strings_Split YtabdianhoabhhaaGreatDoor.AAy (by kernel_rfl) (AQ l) (AQ [47]) m w (by rw[Dz];omega) hm (by decide)
 refine c.mono ?_
 rintro e w' ⟨rfl,rfl⟩
 rw[Mi l.length l (Nat.le_refl _),Zd l]
 refine⟨rfl,?_,(Below.refl _ _).alloc (Nat.le_refl _) _⟩
 have e2:((parts l).map AQ).map Value.string=(parts l).map sv:=by rw[List.map_map];rfl
 rw[e2]
 exact AX.new w _ _
theorem VB (a:List UInt8) (x:UInt8) (w:World) :
  Calls Tryz.prog 124 #[.string (AQ a),.int .u8 (n8 x)] w fun e w'=>e=.returned (.int .i64 (Lib.indexByte a x))∧w'=w:=by
 have c:Calls Tryz.prog 124 #[.string (AQ a),.int .u8 (n8 x)] w _:=Any.strings_IndexByte YtabdianhoabhhaaGreatDoor.AAz (AQ a) (n8 x) w
 refine c.mono ?_
 rintro e w' ⟨rfl,rfl⟩
 rw[Ej,Za]
 exact⟨rfl,rfl⟩
set_option maxRecDepth 100000 in
set_option maxHeartbeats 1600000 in
theorem eQ (c:UInt8) (w:World) :
  Calls Tryz.prog 90 #[.int .u8 (n8 c)] w fun e w'=>e=.returned (.bool (GQ c))∧w'=w:=by
 have Hc:=Lib.hid (VB [46,95,45] c w)
 have HL:Hid (GQ c=((decide (97≤n8 c) && decide (n8 c≤122)) || ((decide (65≤n8 c) && decide (n8 c≤90)) || ((decide (48≤n8 c) && decide (n8 c≤57)) || decide (0≤Lib.indexByte [46,95,45] c))))):=Lib.hid (by
  unfold GQ n8
  congr 1
  ·congr 1 <;> (apply decide_eq_decide.2;omega)
  ·congr 1
   ·congr 1 <;> (apply decide_eq_decide.2;omega)
   ·congr 1
    congr 1 <;> (apply decide_eq_decide.2;omega))
 have hbd:=Ql c
 generalize Lib.indexByte [46,95,45] c=r at *
 generalize GQ c=b at *
 generalize n8 c=x at *
 rcases (by omega:x < 48∨(48≤x∧x≤57)∨(57 < x∧x < 65)∨(65≤x∧x≤90)∨(90 < x∧x < 97)∨(97≤x∧x≤122)∨122 < x) with h | h | h | h | h | h | h
 ·have d1:decide (97≤x)=false:=by simp;omega
  have d2:decide (x≤122)=true:=by simp;omega
  have d3:decide (65≤x)=false:=by simp;omega
  have d4:decide (x≤90)=true:=by simp;omega
  have d5:decide (48≤x)=false:=by simp;omega
  have d6:decide (x≤57)=true:=by simp;omega
  have Hb:Hid (b=decide (0≤r)):=Lib.hid (by rw[HL.out,d1,d2,d3,d4,d5,d6];simp)
  clear HL h
  go_enter Tryz.func90,Tryz.ntmps90
  go_wp2_with fail
  refine (Hc.out).mono ?_
  rintro e wx ⟨rfl,hw⟩
  have hw:=hw.symm
  subst hw
  go_wp2_with fail
  go_ret
  exact⟨by rw[Hb.out];rfl,rfl⟩
 ·have d1:decide (97≤x)=false:=by simp;omega
  have d2:decide (x≤122)=true:=by simp;omega
  have d3:decide (65≤x)=false:=by simp;omega
  have d4:decide (x≤90)=true:=by simp;omega
  have d5:decide (48≤x)=true:=by simp;omega
  have d6:decide (x≤57)=true:=by simp;omega
  have Hb:Hid (b=true):=Lib.hid (by rw[HL.out,d1,d2,d3,d4,d5,d6];simp)
  clear HL h
  go_enter Tryz.func90,Tryz.ntmps90
  go_wp2_with fail
  go_ret
  exact⟨by rw[Hb.out];rfl,rfl⟩
 ·have d1:decide (97≤x)=false:=by simp;omega
  have d2:decide (x≤122)=true:=by simp;omega
  have d3:decide (65≤x)=false:=by simp;omega
  have d4:decide (x≤90)=true:=by simp;omega
  have d5:decide (48≤x)=true:=by simp;omega
  have d6:decide (x≤57)=false:=by simp;omega
  have Hb:Hid (b=decide (0≤r)):=Lib.hid (by rw[HL.out,d1,d2,d3,d4,d5,d6];simp)
  clear HL h
  go_enter Tryz.func90,Tryz.ntmps90
  go_wp2_with fail
  refine (Hc.out).mono ?_
  rintro e wx ⟨rfl,hw⟩
  have hw:=hw.symm
  subst hw
  go_wp2_with fail
  go_ret
  exact⟨by rw[Hb.out];rfl,rfl⟩
 ·have d1:decide (97≤x)=false:=by simp;omega
  have d2:decide (x≤122)=true:=by simp;omega
  have d3:decide (65≤x)=true:=by simp;omega
  have d4:decide (x≤90)=true:=by simp;omega
  have d5:decide (48≤x)=true:=by simp;omega
  have d6:decide (x≤57)=false:=by simp;omega
  have Hb:Hid (b=true):=Lib.hid (by rw[HL.out,d1,d2,d3,d4,d5,d6];simp)
  clear HL h
  go_enter Tryz.func90,Tryz.ntmps90
  go_wp2_with fail
  go_ret
  exact⟨by rw[Hb.out];rfl,rfl⟩
 ·have d1:decide (97≤x)=false:=by simp;omega
  have d2:decide (x≤122)=true:=by simp;omega
  have d3:decide (65≤x)=true:=by simp;omega
  have d4:decide (x≤90)=false:=by simp;omega
  have d5:decide (48≤x)=true:=by simp;omega
  have d6:decide (x≤57)=false:=by simp;omega
  have Hb:Hid (b=decide (0≤r)):=Lib.hid (by rw[HL.out,d1,d2,d3,d4,d5,d6];simp)
  clear HL h
  go_enter Tryz.func90,Tryz.ntmps90
  go_wp2_with fail
  refine (Hc.out).mono ?_
  rintro e wx ⟨rfl,hw⟩
  have hw:=hw.symm
  subst hw
  go_wp2_with fail
  go_ret
  exact⟨by rw[Hb.out];rfl,rfl⟩
 ·have d1:decide (97≤x)=true:=by simp;omega
  have d2:decide (x≤122)=true:=by simp;omega
  have d3:decide (65≤x)=true:=by simp;omega
  have d4:decide (x≤90)=false:=by simp;omega
  have d5:decide (48≤x)=true:=by simp;omega
  have d6:decide (x≤57)=false:=by simp;omega
  have Hb:Hid (b=true):=Lib.hid (by rw[HL.out,d1,d2,d3,d4,d5,d6];simp)
  clear HL h
  go_enter Tryz.func90,Tryz.ntmps90
  go_wp2_with fail
  go_ret
  exact⟨by rw[Hb.out];rfl,rfl⟩
 ·have d1:decide (97≤x)=true:=by simp;omega
  have d2:decide (x≤122)=false:=by simp;omega
  have d3:decide (65≤x)=true:=by simp;omega
  have d4:decide (x≤90)=false:=by simp;omega
  have d5:decide (48≤x)=true:=by simp;omega
  have d6:decide (x≤57)=false:=by simp;omega
  have Hb:Hid (b=decide (0≤r)):=Lib.hid (by rw[HL.out,d1,d2,d3,d4,d5,d6];simp)
  clear HL h
  go_enter Tryz.func90,Tryz.ntmps90
  go_wp2_with fail
  refine (Hc.out).mono ?_
  rintro e wx ⟨rfl,hw⟩
  have hw:=hw.symm
  subst hw
  go_wp2_with fail
  go_ret
  exact⟨by rw[Hb.out];rfl,rfl⟩
end Go.Proofs.YtabdianhoabhhaaGreatDoor.Name
namespace Go.Proofs.YtabdianhoabhhaaGreatDoor.Merge
open Go Go.RowKit Go.Proofs.YtabdianhoabhhaaGreatDoor Go.Proofs.YtabdianhoabhhaaGreatDoor.Name
set_option linter.unusedVariables false
abbrev Yn:=Option Addr×Nat×Nat
def Cj (s:Yn):Value:=.slice s.1 s.2.1 s.2.2
abbrev Fx:=Fl×Yn
def fC (x:Fx):List Value:=[.string (Name.AQ x.1.name),Cj x.2,.int .i64 x.1.stamp,.int .i64 x.1.node,.bool x.1.gone]
def fV (x:Fx):Value:=.agg #[.string (Name.AQ x.1.name),Cj x.2,.int .i64 x.1.stamp,.int .i64 x.1.node,.bool x.1.gone]
structure D9 (w:World) (x:Fx):Prop where
 len:x.2.2.1=x.1.bytes.length
 room:x.1.bytes.length≤x.2.2.2
 cap:x.2.2.2≤maxLen
 at_:BD w x.2.1 x.1.bytes
 name:x.1.name.length≤maxLen
 stamp:lD x.1.stamp
 node:lD x.1.node
theorem D9.below {w w':World} {x:Fx} (h:D9 w x) (hb:Below w.heap.size w w'):D9 w' x:=⟨h.len,h.room,h.cap,AR.below h.at_ hb,h.name,h.stamp,h.node⟩
theorem D9.bytes {w:World} {x:Fx} (h:D9 w x):Au w (Cj x.2) x.1.bytes:=by
 obtain⟨x,A,n,c⟩:=x
 have:=h.len
 simp only at this
 subst this
 exact⟨A,c,rfl,h.room,h.cap,h.at_⟩
def CL (w:World) (v:Value) (l:List Fx):Prop:=IsL w fC (D9 w) v l
theorem CL.below {w w':World} {v:Value} {l:List Fx} (h:CL w v l) (hb:Below w.heap.size w w'):CL w' v l:=by
 obtain⟨A,cap,h1,h2,h3,h4,h5,h6⟩:=h
 exact⟨A,cap,h1,h2,h3,AR.below h4 hb,h5,fun a ha=>(h6 a ha).below hb⟩
theorem Kj (x:Fx):(fC x).length=5:=rfl
theorem Ki (l:List Fx):(l.flatMap fC).length=l.length*5:=by
 induction l with
 | nil=>rfl
 | cons a l ih=>rw[List.flatMap_cons,List.length_append,ih,Kj,List.length_cons];omega
theorem XC (l:List Fx):∀ u∈l.flatMap fC,u.oneCell'=true:=by
 intro u hu
 obtain⟨x,_,hx⟩:=List.mem_flatMap.1 hu
 simp[fC]at hx
 rcases hx with rfl | rfl | rfl | rfl | rfl <;> rfl
theorem F7 {w:World} {A:Option Addr} {l:List Fx} (h:AR w A (l.flatMap fC)) {k:Nat} (hk:k < l.length):∃ b o,A=some ⟨b,o,none⟩∧
  w.cell? ⟨b,o+k*5,none⟩=some (.string (Name.AQ l[k].1.name))∧w.cell? ⟨b,o+k*5+1,none⟩=some (Cj l[k].2)∧w.cell? ⟨b,o+k*5+2,none⟩=some (.int .i64 l[k].1.stamp)∧
  w.cell? ⟨b,o+k*5+3,none⟩=some (.int .i64 l[k].1.node)∧w.cell? ⟨b,o+k*5+4,none⟩=some (.bool l[k].1.gone):=by
 obtain⟨b,o,e,hc⟩:=EJ (size:=5) Kj (by omega) h hk
 exact⟨b,o,e,hc 0 _ rfl,hc 1 _ rfl,hc 2 _ rfl,hc 3 _ rfl,hc 4 _ rfl⟩
end Go.Proofs.YtabdianhoabhhaaGreatDoor.Merge
namespace Go.Proofs.YtabdianhoabhhaaGreatDoor.Name
open Go Go.RowKit Go.Proofs.YtabdianhoabhhaaGreatDoor
set_option linter.unusedVariables false
theorem wF (p:List UInt8) (k:Nat) (h:k < (AQ p).size) (h2:k < p.length):(AQ p)[k]=p[k]:=by
 show (p.toArray)[k]'h=p[k]
 exact List.getElem_toArray h
theorem AA0 (p:List UInt8) (k:Nat) (h2:k < p.length):∃ h:k < (AQ p).size,((((AQ p)[k]'h).toNat:Nat):Int)=n8 (p[k]'h2):=by
 have h:k < (AQ p).size:=by rw[Dz];exact h2
 exact⟨h,congrArg (fun u:UInt8=>((u.toNat:Nat):Int)) (wF p k h h2)⟩
attribute [go_sem] Ze
set_option maxRecDepth 100000 in
set_option maxHeartbeats 1600000 in
theorem AA1 (p:List UInt8) (w:World) (hp:p.length≤4000000) :
  Calls Tryz.prog 89 #[.string (AQ p)] w fun e w'=>e=.returned (.bool (D7 p))∧w'=w:=by
 have Hz:Hid ((AQ p).size=p.length):=Lib.hid (Dz p)
 have hz:=Hz.out
 go_enter Tryz.func89,Tryz.ntmps89
 go_wp2_with fail
 go_loop [6] (fun i=>∃ k:Nat,k≤p.length∧i=.int .i64 (k:Int)∧∀ c∈p.take k,GQ c=true) (fun i=>p.length - (intOf i).toNat)
 case atStart=>exact⟨0,Nat.zero_le _,rfl,by simp⟩
 case round=>
  obtain⟨k,hk,rfl,hall⟩:=hrel
  have FU:=Lib.hid hall
  clear hall
  by_cases hlt:k < p.length
  ·have HC:=Lib.hid (eQ p[k] w)
   have Hy:Hid (GQ p[k]=false→D7 p=true):=Lib.hid (fun h=>by
    unfold D7
    rw[Bool.or_eq_true];left
    exact List.any_eq_true.2 ⟨_,List.getElem_mem hlt,by simp[h]⟩)
   have Hn:Hid (GQ p[k]=true→∀ c∈p.take (k+1),GQ c=true):=Lib.hid (fun h c hc=>by
    rw[BI _ _ hlt]at hc
    rcases List.mem_append.1 hc with hc | hc
    ·exact FU.out c hc
    ·simp at hc;subst hc;exact h)
   obtain⟨hks,hg⟩:=AA0 p k hlt
   generalize p[k]'hlt=x at *
   go_wp2_with fail
   refine (HC.out).mono ?_
   rintro e wx ⟨rfl,hw⟩
   have hw:=hw.symm
   subst hw
   cases hL:GQ x with
   | true=>
    have Hn2:=Lib.hid (Hn.out hL)
    clear hL Hn Hy
    go_wp2_with fail
    go_round
    case rel=>exact⟨k+1,by omega,by go_num,Hn2.out⟩
    case measure=>simp[intOf];omega
   | false=>
    have Hy2:=Lib.hid (Hy.out hL)
    clear hL Hn Hy
    go_wp2_with fail
    go_ret
    exact⟨by rw[Hy2.out];rfl,rfl⟩
  ·obtain rfl:k=p.length:=by omega
   have ha:p.any (fun c=>!GQ c)=false:=by
    rw[List.any_eq_false]
    intro c hc
    have:=FU.out c (by rw[List.take_of_length_le (Nat.le_refl _)];exact hc)
    simp[this]
   have HB:Hid (D7 p=(decide (p=[]) || (decide (p=[46]) || decide (p=[46,46])))):=Lib.hid (by unfold D7;rw[ha];rfl)
   by_cases h1:p=[]
   ·subst h1
    have Hb:Hid (D7 []=true):=Lib.hid (by rw[HB.out];rfl)
    clear HB ha
    go_wp2_with fail
    go_ret
    exact⟨by rw[Hb.out];rfl,rfl⟩
   ·by_cases h2:p=[46]
    ·subst h2
     have Hb:Hid (D7 [46]=true):=Lib.hid (by rw[HB.out];rfl)
     clear HB ha
     go_wp2_with fail
     go_ret
     exact⟨by rw[Hb.out];rfl,rfl⟩
    ·by_cases h3:p=[46,46]
     ·subst h3
      have Hb:Hid (D7 [46,46]=true):=Lib.hid (by rw[HB.out];rfl)
      clear HB ha
      go_wp2_with fail
      go_ret
      exact⟨by rw[Hb.out];rfl,rfl⟩
     ·have Hb:Hid (D7 p=false):=Lib.hid (by rw[HB.out];simp[h1,h2,h3])
      clear HB ha
      go_wp2_with fail
      go_ret
      exact⟨by rw[Hb.out];exact DX (by simp[h1,h2,h3]),rfl⟩
end Go.Proofs.YtabdianhoabhhaaGreatDoor.Name
namespace Go.Proofs.YtabdianhoabhhaaGreatDoor.Name
open Go Go.RowKit Go.Proofs.YtabdianhoabhhaaGreatDoor
set_option linter.unusedVariables false
def dJ {α:Type} (p:α→Bool) (l:List α):Int:=match l.findIdx? p with | some i=>(i:Int) | none=>-1
theorem mE {α:Type} (p:α→Bool) (l:List α) (k:Nat) (h:k < l.length) (h1:∀ x∈l.take k,p x=false) (h2:p l[k]=true):dJ p l=(k:Int):=by
 have:l.findIdx? p=some k:=by
  rw[List.findIdx?_eq_some_iff_getElem]
  refine⟨h,h2,fun j hj=>?_⟩
  have:=h1 l[j] (by rw[List.mem_take_iff_getElem];exact⟨j,by omega,rfl⟩)
  simp[this]
 unfold dJ;rw[this]
theorem mF {α:Type} (p:α→Bool) (l:List α) (h1:∀ x∈l,p x=false):dJ p l=-1:=by
 have:l.findIdx? p=none:=by rw[List.findIdx?_eq_none_iff];exact h1
 unfold dJ;rw[this]
theorem uJ {α:Type} (p:α→Bool) (l:List α):decide (0≤dJ p l)=l.any p:=by
 unfold dJ
 cases h:l.findIdx? p with
 | none=>
  rw[List.findIdx?_eq_none_iff]at h
  have:l.any p=false:=by rw[List.any_eq_false];intro x hx;simp[h x hx]
  rw[this];rfl
 | some i=>
  rw[List.findIdx?_eq_some_iff_getElem]at h
  obtain⟨h1,h2,_⟩:=h
  have:l.any p=true:=by rw[List.any_eq_true];exact⟨l[i],List.getElem_mem h1,h2⟩
  rw[this];simp
theorem U7 {α:Type} (p:α→Bool) (l:List α) (k:Nat) (h:k < l.length) (h1:∀ x∈l.take k,p x=false) (h2:p l[k]=false):∀ x∈l.take (k+1),p x=false:=by
 rw[BI _ _ h]
 intro x hx
 rcases List.mem_append.1 hx with hx | hx
 ·exact h1 x hx
 ·simp at hx;subst hx;exact h2
set_option maxHeartbeats 400000 in
theorem TB (A:Option Addr) (n c:Nat) (xs:List (List UInt8)) (g:FuncId) (cap:Array Value) (p:List UInt8→Bool) (w:World) (hn:xs.length=n) (hx:n≤maxLen) (ha:AR w A (xs.map sv))
  (hcf:∀ args w',(callFunc g args).run Tryz.prog w'=.ok (.enter g args) w')
  (hf:∀ x∈xs,∀ w',Below w.heap.size w w'→Calls Tryz.prog g (#[sv x]++cap) w' fun e w''=>e=.returned (.bool (p x))∧Below w'.heap.size w' w'') :
  Calls Tryz.prog 125 #[.slice A n c,.func (.func g) #[] cap] w fun e w'=>e=.returned (.int .i64 (dJ p xs))∧Below w.heap.size w w':=by
 unfold maxLen at hx
 have Hn:=Lib.hid hn
 have Ha:=Lib.hid ha
 have Hf:=Lib.hid hf
 clear hn ha hf
 go_enter Tryz.func125,Tryz.ntmps125
 go_wp2_with fail
 go_loopw [8] (fun i wr=>∃ k:Nat,k≤n∧i=.int .i64 k∧(∀ x∈xs.take k,p x=false)∧Below w.heap.size w wr) (fun i _=>n - (intOf i).toNat)
 case atStart=>exact⟨0,Nat.zero_le _,rfl,by simp,Below.refl _ _⟩
 case round=>
  obtain⟨k,hk,rfl,hno,hbr⟩:=hrel
  have Hno:=Lib.hid hno
  have Gf:=Lib.hid hbr
  clear hno
  by_cases hlt:k < n
  ·have hkx:k < xs.length:=by rw[Hn.out];exact hlt
   obtain⟨b,o,rfl,hc⟩:=AR.get (Ha.out.below hbr) (k:=k) (by rw[List.length_map];exact hkx)
   rw[List.getElem_map]at hc
   have Yz:=Lib.hid (Hf.out xs[k] (List.getElem_mem hkx) wr hbr)
   have Hy:=Lib.hid (mE p xs k hkx Hno.out)
   have Hz:=Lib.hid (U7 p xs k hkx Hno.out)
   generalize xs[k]=x at *
   unfold sv at hc Yz
   clear hbr
   go_wp2_with fail
   refine (Yz.out).mono ?_
   rintro e w1 ⟨rfl,hb1⟩
   have Hb1:=Lib.hid (Gf.out.trans (hb1.mono Gf.out.size))
   clear hb1
   cases hp:p x with
   | true=>
    have Hi:=Lib.hid (Hy.out hp)
    clear hp
    go_wp2_with fail
    go_ret
    exact⟨Da Hi.out.symm,Hb1.out⟩
   | false=>
    have Hi:=Lib.hid (Hz.out hp)
    clear hp
    go_wp2_with fail
    go_roundw
    case rel=>exact⟨k+1,by omega,by go_num,Hi.out,Hb1.out⟩
    case measure=>simp[intOf];omega
  ·have Hi:=Lib.hid (mF p xs (by have:=Hno.out;rwa [List.take_of_length_le (by rw[Hn.out];omega)]at this))
   clear hbr
   go_wp2_with fail
   go_ret
   exact⟨Da Hi.out.symm,Gf.out⟩
theorem Oy (A:Option Addr) (n c:Nat) (xs:List (List UInt8)) (g:FuncId) (cap:Array Value) (p:List UInt8→Bool) (w:World) (hn:xs.length=n) (hx:n≤maxLen) (ha:AR w A (xs.map sv))
  (hcf:∀ args w',(callFunc g args).run Tryz.prog w'=.ok (.enter g args) w')
  (hf:∀ x∈xs,∀ w',Below w.heap.size w w'→Calls Tryz.prog g (#[sv x]++cap) w' fun e w''=>e=.returned (.bool (p x))∧Below w'.heap.size w' w'') :
  Calls Tryz.prog 91 #[.slice A n c,.func (.func g) #[] cap] w fun e w'=>e=.returned (.bool (xs.any p))∧Below w.heap.size w w':=by
 have cZ:=Lib.hid (uJ p xs)
 have AJs:=Lib.hid (TB A n c xs g cap p w hn hx ha hcf hf)
 clear hn hx ha hcf hf
 go_enter Tryz.func91,Tryz.ntmps91
 go_wp2_with fail
 refine (AJs.out).mono ?_
 rintro e w1 ⟨rfl,hb1⟩
 have Hb1:=Lib.hid hb1
 clear hb1
 go_wp2_with fail
 go_ret
 exact⟨DX (by rw[←cZ.out]),Hb1.out⟩
end Go.Proofs.YtabdianhoabhhaaGreatDoor.Name
namespace Go.Proofs.YtabdianhoabhhaaGreatDoor.Name
open Go Go.RowKit Go.Proofs.YtabdianhoabhhaaGreatDoor
set_option linter.unusedVariables false
theorem CG {w1 w2:World} (h:Below w1.heap.size w1 w2) {w3:World} (h2:Below w2.heap.size w2 w3):Below w1.heap.size w1 w3:=
 h.trans (h2.mono h.size)
theorem Y1 {w:World} {g:Nat} {t:TypeId} {cs:List Value} (h:AX w g t cs.toArray):AR w (some ⟨g,0,none⟩) cs:=fun _=>
 ⟨g,0,rfl,fun j v hj=>by rw[Nat.zero_add,h.cell];simpa using hj⟩
def QN (s:List UInt8) (w:World) (e:Ending) (w':World):Prop:=
  (Cc s≠0∧e=.returned (.tuple #[.slice none 0 0,.int .i64 (Cc s)])∨
   Cc s=0∧∃ g,e=.returned (.tuple #[.slice (some ⟨g,0,none⟩) (parts s).length (parts s).length,.int .i64 0])∧w.heap.size≤g∧AX w' g 9 ((parts s).map sv).toArray)∧Below w.heap.size w w'
set_option maxRecDepth 100000 in
set_option maxHeartbeats 1600000 in
theorem nV (s:List UInt8) (w:World) (hx:s.length≤maxLen) (hm:ML w) :
  Calls Tryz.prog 69 #[.string (AQ s)] w (QN s w):=by
 unfold QN
 have hz:=Dz s
 have hx':s.length≤9223372036854775807:=by unfold maxLen at hx;omega
 by_cases YQ:40 < s.length
 ·have Hn:Hid (Cc s=2):=Lib.hid (by unfold Cc;rw[if_pos YQ])
  have AKL:(40:Int) < (s.length:Int):=by omega
  go_enter Tryz.func69,Tryz.ntmps69
  go_wp2_with fail
  go_ret2
  exact⟨.inl ⟨by rw[Hn.out];decide,by rw[Hn.out];rfl⟩,Below.refl _ _⟩
 ·have AKL:¬ (40:Int) < (s.length:Int):=by omega
  have Hn:Hid (Cc s=if (parts s).any D7=true then 1 else 0):=Lib.hid (by unfold Cc;rw[if_neg YQ])
  have HS:=Lib.hid (nU s w (by omega) hm)
  have Hl:Hid ((parts s).length≤41):=Lib.hid (by have:=nW s;omega)
  have Hp:Hid (∀ p∈parts s,p.length≤4000000):=Lib.hid (fun p hp=>by have:=nX s p hp;omega)
  generalize parts s=ps at *
  obtain⟨n,hn⟩:∃ n,n=ps.length:=⟨_,rfl⟩
  have HN:=Lib.hid hn.symm
  rw[←hn]at HS Hl
  clear hm hn
  go_enter Tryz.func69,Tryz.ntmps69
  go_wp2_with fail
  refine (HS.out).mono ?_
  rintro e w1 ⟨rfl,hblk,hb1⟩
  have Et:=Lib.hid hblk
  have Hb1:=Lib.hid hb1
  clear hblk hb1
  obtain⟨g,hg⟩:∃ g,g=w.heap.size:=⟨_,rfl⟩
  have Hg:=Lib.hid hg
  rw[←hg]at Et⊢
  clear hg
  go_wp2_with fail
  refine (Oy (some ⟨g,0,none⟩) n n ps 89 #[] D7 w1 HN.out (by have:=Hl.out;unfold maxLen;omega) (Y1 Et.out) (fun _ _=>by kernel_rfl) (fun x hx w' _=>?_)).mono ?_
  ·refine (AA1 x w' (Hp.out x hx)).mono ?_
   rintro e w2 ⟨rfl,rfl⟩
   exact⟨rfl,Below.refl _ _⟩
  rintro e w2 ⟨rfl,hb2⟩
  have Qp:=Lib.hid (Et.out.below hb2 Et.out.lt)
  have Hb2:=Lib.hid (CG Hb1.out hb2)
  clear hb2 Et Hb1
  cases hany:ps.any D7 with
  | true=>
   have Hf:Hid (Cc s=1):=Lib.hid (by rw[Hn.out,if_pos hany])
   go_wp2_with fail
   go_ret2
   exact⟨.inl ⟨by rw[Hf.out];decide,by rw[Hf.out];rfl⟩,Hb2.out⟩
  | false=>
   have Hf:Hid (Cc s=0):=Lib.hid (by rw[Hn.out,if_neg (by rw[hany];simp)])
   go_wp2_with fail
   go_ret2
   exact⟨.inr ⟨Hf.out,g,by rw[HN.out];rfl,by rw[Hg.out];exact Nat.le_refl _,Qp.out⟩,Hb2.out⟩
theorem Zf {s:List UInt8} {w:World} {e:Ending} {w':World} (h:QN s w e w'):∃ A n,e=.returned (.tuple #[.slice A n n,.int .i64 (Cc s)])∧(Cc s≠0→A=none∧n=0)∧(Cc s=0→n=(parts s).length∧∃ g,A=some ⟨g,0,none⟩∧w.heap.size≤g∧AX w' g 9 ((parts s).map sv).toArray):=by
 rcases h.1 with ⟨h1,rfl⟩ | ⟨h1,g,rfl,hg,hblk⟩
 ·exact⟨none,0,rfl,fun _=>⟨rfl,rfl⟩,fun h=>absurd h h1⟩
 ·exact⟨_,_,by rw[h1],fun h=>absurd h1 h,fun _=>⟨rfl,g,rfl,hg,hblk⟩⟩
set_option maxRecDepth 100000 in
set_option maxHeartbeats 800000 in
theorem eD (s:List UInt8) (w:World) (hx:s.length≤maxLen) (hm:ML w) :
  Calls Tryz.prog 50 #[.string (AQ s)] w fun e w'=>e=.returned (.int .i64 (Cc s))∧Below w.heap.size w w':=by
 have HP:=Lib.hid (nV s w hx hm)
 clear hm
 go_enter Tryz.func50,Tryz.ntmps50
 go_wp2_with fail
 refine (HP.out).mono ?_
 intro e w1 hp
 have Hb1:=Lib.hid hp.2
 obtain⟨A,n,rfl,_,_⟩:=Zf hp
 clear hp
 go_wp2_with fail
 go_ret
 exact⟨rfl,Hb1.out⟩
end Go.Proofs.YtabdianhoabhhaaGreatDoor.Name
namespace Go.Proofs.YtabdianhoabhhaaGreatDoor.cO
open Go Go.RowKit Go.Proofs.YtabdianhoabhhaaGreatDoor
set_option linter.unusedVariables false
theorem ty:Bo Tryz.prog 22 36 (.agg #[.string ByteArray.empty,.slice none 0 0,.int .i64 0,.int .i64 0,.bool false]) 5 64:=⟨Tryz.underlying22,by kernel_rfl,rfl,by omega⟩
set_option maxRecDepth 100000 in
set_option maxHeartbeats 400000 in
theorem Ei (A:Option Addr) (n c:Nat) (cs:List Value) (w:World) (hl:cs.length=n*5) (hA:AR w A cs) (h0:A=none→n=0) (h1:∀ u∈cs,u.oneCell'=true) (hn:n≤maxLen) (hb:n*64≤140737488355328) :
  Calls Tryz.prog 116 #[.slice A n c] w fun e w'=>∃ v,e=.returned v∧w'.ownsRow w.heap.size 36 5 v n cs∧Below w.heap.size w w':=by
 have hq:=fun (w:World) (a:Option Addr) (l c:Nat)=>Lib.run_eql_slice_nil (P:=Tryz.prog) w 22 36 a l c 0 0 Tryz.underlying22
 rcases A with _ | ad
 ·obtain rfl:=h0 rfl
  have hcs:cs=[]:=List.eq_nil_of_length_eq_zero (by omega)
  subst hcs
  clear hA h0 h1 hl hn hb
  go_enter Tryz.func116,Tryz.ntmps116
  go_wp2_with fail
  go_ret
  exact⟨_,rfl,World.ownsRow_nil _ _ _ _,Below.refl _ _⟩
 ·have DF:Hid ((w.alloc (.cells #[] 36)).ownsRow w.heap.size 36 5 (.slice (some ⟨w.heap.size,0,none⟩) 0 0) 0 []):=Lib.hid (Gv _ _ _ _ w.heap.size 0 #[] (Nat.le_refl _) (heap_alloc_new w _) (by unfold maxLen;omega) (by simp))
  have M5:=Lib.hid (hA.alloc (.cells #[] 36))
  have Hb:=Lib.hid ((Below.refl w.heap.size w).alloc (Nat.le_refl _) (.cells #[] 36))
  have Hl:=Lib.hid hl
  have H1:=Lib.hid h1
  have Hn:Hid (0+n≤maxLen):=Lib.hid (by omega)
  have Hy:Hid ((0+n)*64≤140737488355328):=Lib.hid (by omega)
  clear hA h0 h1 hl hn hb
  go_enter Tryz.func116,Tryz.ntmps116
  go_wp2_with (at_builtin;refine AY _ rfl (.tmp 5) (.tmp 6) _ rfl w.heap.size 36 _ 5 64 ty _ 0 [] rfl DF.out (some ad) n c cs rfl Hl.out M5.out H1.out (by simp) Hn.out Hy.out Hb.out.size ?_;intro v2 w2 hown2 hg2 _;rw[List.nil_append,Nat.zero_add]at hown2;have au:=Lib.hid hown2;have Hb2:=Lib.hid (own_below DF.out hg2 Hb.out Hb.out.size);clear hown2 hg2)
  go_ret
  exact⟨_,rfl,au.out,Hb2.out⟩
end Go.Proofs.YtabdianhoabhhaaGreatDoor.cO
namespace Go.Proofs.YtabdianhoabhhaaGreatDoor.Sg
open Go Go.RowKit Go.Proofs.YtabdianhoabhhaaGreatDoor
set_option linter.unusedVariables false
theorem ty:Bo Tryz.prog 23 5 (.int .u8 0) 1 1:=⟨Tryz.underlying23,by kernel_rfl,rfl,by omega⟩
set_option maxRecDepth 100000 in
set_option maxHeartbeats 400000 in
theorem Ei (A:Option Addr) (n c:Nat) (cs:List Value) (w:World) (hl:cs.length=n*1) (hA:AR w A cs) (h0:A=none→n=0) (h1:∀ u∈cs,u.oneCell'=true) (hn:n≤maxLen) (hb:n*1≤140737488355328) :
  Calls Tryz.prog 16 #[.slice A n c] w fun e w'=>∃ v,e=.returned v∧w'.ownsRow w.heap.size 5 1 v n cs∧Below w.heap.size w w':=by
 have hq:=fun (w:World) (a:Option Addr) (l c:Nat)=>Lib.run_eql_slice_nil (P:=Tryz.prog) w 23 5 a l c 0 0 Tryz.underlying23
 rcases A with _ | ad
 ·obtain rfl:=h0 rfl
  have hcs:cs=[]:=List.eq_nil_of_length_eq_zero (by omega)
  subst hcs
  clear hA h0 h1 hl hn hb
  go_enter Tryz.func16,Tryz.ntmps16
  go_wp2_with fail
  go_ret
  exact⟨_,rfl,World.ownsRow_nil _ _ _ _,Below.refl _ _⟩
 ·have DF:Hid ((w.alloc (.cells #[] 5)).ownsRow w.heap.size 5 1 (.slice (some ⟨w.heap.size,0,none⟩) 0 0) 0 []):=Lib.hid (Gv _ _ _ _ w.heap.size 0 #[] (Nat.le_refl _) (heap_alloc_new w _) (by unfold maxLen;omega) (by simp))
  have M5:=Lib.hid (hA.alloc (.cells #[] 5))
  have Hb:=Lib.hid ((Below.refl w.heap.size w).alloc (Nat.le_refl _) (.cells #[] 5))
  have Hl:=Lib.hid hl
  have H1:=Lib.hid h1
  have Hn:Hid (0+n≤maxLen):=Lib.hid (by omega)
  have Hy:Hid ((0+n)*1≤140737488355328):=Lib.hid (by omega)
  clear hA h0 h1 hl hn hb
  go_enter Tryz.func16,Tryz.ntmps16
  go_wp2_with (at_builtin;refine AY _ rfl (.tmp 5) (.tmp 6) _ rfl w.heap.size 5 _ 1 1 ty _ 0 [] rfl DF.out (some ad) n c cs rfl Hl.out M5.out H1.out (by simp) Hn.out Hy.out Hb.out.size ?_;intro v2 w2 hown2 hg2 _;rw[List.nil_append,Nat.zero_add]at hown2;have au:=Lib.hid hown2;have Hb2:=Lib.hid (own_below DF.out hg2 Hb.out Hb.out.size);clear hown2 hg2)
  go_ret
  exact⟨_,rfl,au.out,Hb2.out⟩
end Go.Proofs.YtabdianhoabhhaaGreatDoor.Sg
namespace Go.Proofs.YtabdianhoabhhaaGreatDoor.Merge
open Go Go.RowKit Go.Proofs.YtabdianhoabhhaaGreatDoor Go.Proofs.YtabdianhoabhhaaGreatDoor.Name
set_option linter.unusedVariables false
structure Ns (w:World) (base:Nat) (x:Fx):Prop where
 own:w.ownsRow base 5 1 (Cj x.2) x.1.bytes.length (x.1.bytes.map Eh)
 name:x.1.name.length≤maxLen
 stamp:lD x.1.stamp
 node:lD x.1.node
theorem Ns.at_ {w:World} {base:Nat} {x:Fx} (h:Ns w base x):D9 w x:=by
 obtain⟨A,cap,e,h1,h2,h3,_⟩:=Ag h.own
 obtain⟨f,A',n',c'⟩:=x
 simp only[Cj,Value.slice.injEq]at e
 obtain⟨rfl,rfl,rfl⟩:=e
 exact⟨rfl,h1,h2,h3,h.name,h.stamp,h.node⟩
theorem Ns.below {w w':World} {base:Nat} {x:Fx} (h:Ns w base x) (hb:Below w.heap.size w w'):Ns w' base x:=⟨AP h.own hb,h.name,h.stamp,h.node⟩
theorem Ns.Ca {w:World} {base g:Nat} {x:Fx} {cs:Array Value} (h:Ns w base x) (hg:AX w g 36 cs) (i:Nat) (u:Value):Ns (w.setCell ⟨g,i,none⟩ u) base x:=
 ⟨ownsRow_setCell_other h.own (a:=⟨g,i,none⟩) (own_ne h.own hg (by decide)) u,h.name,h.stamp,h.node⟩
theorem ib {w:World} {base size n cap g:Nat} {e:TypeId} {xs:List Value} (h:w.ownsRow base e size (.slice (some ⟨g,0,none⟩) n cap) n xs):base≤g∧∃ cs,AX w g e cs:=by
 rcases h.2 with ⟨h1,_⟩ | ⟨g',cap',cur,hv,hb,hg,_⟩
 ·cases h1
 ·injection hv with hv
  injection hv with hv
  injection hv with hv
  subst hv
  exact⟨hb,cur,hg⟩
theorem ADL (a b:List Fx) (x:Fx) (s:Yn):((a++x :: b).flatMap fC).set (a.length*5+1) (Cj s)=(a++(x.1,s) :: b).flatMap fC:=by
 rw[List.flatMap_append,List.flatMap_append,List.flatMap_cons,List.flatMap_cons,List.set_append_right _ _ (by rw[Ki];omega),Ki,Nat.add_sub_cancel_left]
 rfl
structure FT (w:World) (base:Nat) (v:Value) (l:List Fx):Prop where
 row:w.ownsRow base 36 5 v l.length (l.flatMap fC)
 each:∀ x∈l,Ns w base x
theorem FT.below {w w':World} {base:Nat} {v:Value} {l:List Fx} (h:FT w base v l) (hb:Below w.heap.size w w'):FT w' base v l:=⟨AP h.row hb,fun x hx=>(h.each x hx).below hb⟩
theorem Ns.Si {w:World} {base base':Nat} {x:Fx} (h:Ns w base x) (hb:base'≤base):Ns w base' x:=⟨Ai h.own hb,h.name,h.stamp,h.node⟩
theorem FT.Si {w:World} {base base':Nat} {v:Value} {l:List Fx} (h:FT w base v l) (hb:base'≤base):FT w base' v l:=⟨Ai h.row hb,fun x hx=>(h.each x hx).Si hb⟩
theorem FT.nil (w:World) (base:Nat):FT w base (.slice none 0 0) []:=⟨World.ownsRow_nil _ _ _ _,by simp⟩
def Yo (l:List Fx) (w:World) (e:Ending) (w':World):Prop:=
 ∃ v l',e=.returned v∧FT w' w.heap.size v l'∧l'.map Prod.fst=l.map Prod.fst∧Below w.heap.size w w'
theorem P5 {w:World} {base n:Nat} {v:Value} {l:List Fx} (h:w.ownsRow base 36 5 v n (l.flatMap fC)) (hn:l.length=n) (hd:∀ x∈l,D9 w x):CL w v l:=by
 obtain⟨A,cap,rfl,h1,h2,h3,h4⟩:=Ag h
 subst hn
 exact⟨A,cap,rfl,h1,h2,h3,fun e=>List.eq_nil_of_length_eq_zero (h4 e),hd⟩
theorem FT.files {w:World} {base:Nat} {v:Value} {l:List Fx} (h:FT w base v l):CL w v l:=P5 h.row rfl fun x hx=>(h.each x hx).at_
set_option maxRecDepth 100000 in
set_option maxHeartbeats 4000000 in
theorem rZ (v:Value) (l:List Fx) (w:World) (h:CL w v l) (hl:l.length≤1000000) (hb:∀ x∈l,x.1.bytes.length≤1000000) :
  Calls Tryz.prog 78 #[v] w (Yo l w):=by
 obtain⟨A,cap,rfl,hcap,hcm,hA,ic,Qn⟩:=h
 have HC:=Lib.hid (cO.Ei A l.length cap (l.flatMap fC) w (Ki l) hA (fun e=>by rw[ic e];rfl) (XC l) (by unfold maxLen;omega) (by omega))
 have Hd:=Lib.hid Qn
 have HB:=Lib.hid hb
 obtain⟨n,hn⟩:∃ n,n=l.length:=⟨_,rfl⟩
 have Hn:=Lib.hid hn.symm
 rw[←hn]at hl HC⊢
 clear hn hA ic Qn hcap hcm hb
 unfold Yo
 go_enter Tryz.func78,Tryz.ntmps78
 go_wp2_with fail
 refine (HC.out).mono ?_
 rintro e w1 ⟨v1,rfl,hown,hb1⟩
 have DF:=Lib.hid hown
 have Hb1:=Lib.hid hb1
 clear hown hb1 HC
 by_cases h0:n=0
 ·have hl0:l=[]:=List.eq_nil_of_length_eq_zero (by rw[Hn.out];exact h0)
  subst h0
  have HF:Hid (FT w1 w.heap.size v1 []):=Lib.hid ⟨by rw[hl0]at DF;exact DF.out,by simp⟩
  obtain⟨A1,c1,rfl,_⟩:=Ag DF.out
  go_wp2_with fail
  go_loopw [10] (fun i wr=>i=.int .i64 0∧wr=w1) (fun _ _=>0)
  case atStart=>exact⟨rfl,rfl⟩
  case round=>
   obtain⟨rfl,rfl⟩:=hrel
   go_wp2_with fail
   go_ret
   exact⟨_,[],rfl,HF.out,by rw[hl0],Hb1.out⟩
 ·obtain⟨A1,c1,rfl,hc1,hc2,_,h4⟩:=Ag DF.out
  obtain⟨g,rfl⟩:∃ g,A1=some ⟨g,0,none⟩:=by
   rcases DF.out.2 with ⟨h1,_⟩ | ⟨g,cap',cur,hv,_⟩
   ·injection h1 with h1 h2;exact absurd h2 h0
   ·injection hv with hv;exact⟨g,hv⟩
  obtain⟨hgb,_⟩:=ib DF.out
  clear h4
  go_wp2_with fail
  go_loopw [10] (fun i wr=>∃ (k:Nat) (done:List Fx),k≤n∧i=.int .i64 (k:Int)∧done.length=k∧done.map Prod.fst=(l.take k).map Prod.fst∧wr.ownsRow w.heap.size 36 5 (.slice (some ⟨g,0,none⟩) n c1) n ((done++l.drop k).flatMap fC)∧(∀ x∈done,Ns wr w.heap.size x)∧Below w.heap.size w wr) (fun i _=>n - (intOf i).toNat)
  case atStart=>exact⟨0,[],Nat.zero_le _,rfl,rfl,rfl,DF.out,by simp,Hb1.out⟩
  case round=>
   obtain⟨k,done,hk,rfl,hdl,hdm,hown,hdo,hbr⟩:=hrel
   have Hdl:=Lib.hid hdl
   have Hdm:=Lib.hid hdm
   have Yp:=Lib.hid hown
   have Hdo:=Lib.hid hdo
   have Gf:=Lib.hid hbr
   clear hdl hdm hown hdo hbr
   by_cases hlt:k < n
   ·have hkl:k < l.length:=by rw[Hn.out];exact hlt
    have AGC:Hid (l.drop k=l[k] :: l.drop (k+1)):=Lib.hid (List.drop_eq_getElem_cons hkl)
    have zS:=(Hd.out l[k] (List.getElem_mem hkl)).below Gf.out
    have hbl:=HB.out l[k] (List.getElem_mem hkl)
    have AGD:Hid ((l.take (k+1)).map Prod.fst=(l.take k).map Prod.fst++[l[k].1]):=Lib.hid (by rw[BI _ _ hkl,List.map_append];rfl)
    rw[AGC.out]at Yp
    have Hfz:=fun j=>Yp.out.frozenAt j
    have cell:=fun (j:Nat) (hj:j < 5)=>Yp.out.cellAt (k*5+j) (by omega)
    have at_:∀ j,j < 5→((done++l[k] :: l.drop (k+1)).flatMap fC)[k*5+j]?=(fC l[k])[j]?:=fun j hj=>by
     rw[ig fC 5 Kj _ k j (by rw[List.length_append,Hdl.out,List.length_cons];omega) hj]
     congr 2
     rw[List.getElem_append_right (by rw[Hdl.out];exact Nat.le_refl _)]
     simp[Hdl.out]
    generalize l[k]=x at *
    obtain⟨⟨nm,bs,st,nd,gn⟩,As,ln,cp⟩:=x
    have hc0:wr.cell? ⟨g,k*5,none⟩=some (.string (Name.AQ nm)):=by have:=cell 0 (by omega);rw[at_ 0 (by omega)]at this;exact this
    have hc1':wr.cell? ⟨g,k*5+1,none⟩=some (.slice As ln cp):=by have:=cell 1 (by omega);rw[at_ 1 (by omega)]at this;exact this
    have hc2':wr.cell? ⟨g,k*5+2,none⟩=some (.int .i64 st):=by have:=cell 2 (by omega);rw[at_ 2 (by omega)]at this;exact this
    have AMK:wr.cell? ⟨g,k*5+3,none⟩=some (.int .i64 nd):=by have:=cell 3 (by omega);rw[at_ 3 (by omega)]at this;exact this
    have AML:wr.cell? ⟨g,k*5+4,none⟩=some (.bool gn):=by have:=cell 4 (by omega);rw[at_ 4 (by omega)]at this;exact this
    clear cell at_ Hfz
    have hln:ln=bs.length:=zS.len
    subst hln
    simp only at hbl
    have Hfd:=Lib.hid zS
    have HCB:=Lib.hid (fun w' (hb:Below wr.heap.size wr w')=>Sg.Ei As bs.length cp (bs.map Eh) w' (by simp) (AR.below zS.at_ hb) (fun e=>by
     have h5:=zS.at_
     simp only at h5
     rcases Nat.eq_zero_or_pos bs.length with h6 | h6
     ·exact h6
     ·obtain⟨_,_,h7,_⟩:=h5 (by simpa using h6)
      rw[e]at h7;cases h7) (Ia bs) (by unfold maxLen;omega) (by omega))
    clear zS
    have AGE:=Lib.hid ((Below.refl wr.heap.size wr).alloc (Nat.le_refl _) (.cells #[.string (Name.AQ nm),.slice As bs.length cp,.int .i64 st,.int .i64 nd,.bool gn] 36))
    go_wp2_with fail
    refine (HCB.out _ AGE.out).mono ?_
    rintro e w2 ⟨v2,rfl,hown2,hb2⟩
    have hbw:=CG AGE.out hb2
    obtain⟨A2,c2,rfl,_,_,_,_⟩:=Ag hown2
    have ik:=AP Yp.out hbw
    obtain⟨_,cs,hblk⟩:=ib ik
    have HS:Hid ((w2.setCell ⟨g,k*5+1,none⟩ (.slice A2 bs.length c2)).ownsRow w.heap.size 36 5 (.slice (some ⟨g,0,none⟩) n c1) n ((done++[((⟨nm,bs,st,nd,gn⟩:Fl),((A2,bs.length,c2):Yn))]++l.drop (k+1)).flatMap fC)):=Lib.hid (by
     have:=(ik.stored (k*5+1) (.slice A2 bs.length c2)).1
     have e1:=ADL done (l.drop (k+1)) (⟨nm,bs,st,nd,gn⟩,As,bs.length,cp) (A2,bs.length,c2)
     rw[Hdl.out]at e1
     rw[List.append_assoc]
     rw[←show (done++((⟨nm,bs,st,nd,gn⟩:Fl),((A2,bs.length,c2):Yn)) :: l.drop (k+1)).flatMap fC=(done++([((⟨nm,bs,st,nd,gn⟩:Fl),((A2,bs.length,c2):Yn))]++l.drop (k+1))).flatMap fC from rfl,←e1]
     exact this)
    have HO:Hid (∀ x∈done++[((⟨nm,bs,st,nd,gn⟩:Fl),((A2,bs.length,c2):Yn))],Ns (w2.setCell ⟨g,k*5+1,none⟩ (.slice A2 bs.length c2)) w.heap.size x):=Lib.hid (fun x hx=>by
     rcases List.mem_append.1 hx with hx | hx
     ·exact ((Hdo.out x hx).below hbw).Ca hblk _ _
     ·simp at hx
      subst hx
      have hn:Ns w2 w.heap.size ((⟨nm,bs,st,nd,gn⟩:Fl),((A2,bs.length,c2):Yn)):={ own:=Ai hown2 (by have:=Gf.out.size;simp;omega),name:=Hfd.out.name,stamp:=Hfd.out.stamp,node:=Hfd.out.node }
      exact hn.Ca hblk _ _)
    have HBf:Hid (Below w.heap.size w (w2.setCell ⟨g,k*5+1,none⟩ (.slice A2 bs.length c2))):=Lib.hid ((CG Gf.out hbw).setCell (by exact hgb) _)
    have hcc:w2.cell? ⟨g,k*5+1,none⟩=some (.slice As bs.length cp):=cell_below hbw hc1'
    have hfz:w2.frozen? ⟨g,k*5+1,none⟩=false:=ik.frozenAt _
    have hx1:w2.cell? ⟨wr.heap.size,1,none⟩=some (.slice As bs.length cp):=by
     have:=(AX.new wr 36 #[.string (Name.AQ nm),.slice As bs.length cp,.int .i64 st,.int .i64 nd,.bool gn]).below hb2 (by simp)
     rw[this.cell];rfl
    clear hown2 hb2 hbw ik hblk
    go_wp2_with fail
    go_roundw
    case rel=>
     refine⟨k+1,_,by omega,by go_num,?_,?_,HS.out,HO.out,HBf.out⟩
     ·rw[List.length_append,Hdl.out];rfl
     ·rw[List.map_append,Hdm.out,AGD.out];rfl
    case measure=>simp[intOf];omega
   ·obtain rfl:k=n:=by omega
    have FU:Hid (l.take k=l∧l.drop k=[]):=Lib.hid ⟨List.take_of_length_le (by rw[Hn.out];exact Nat.le_refl _),List.drop_of_length_le (by rw[Hn.out];exact Nat.le_refl _)⟩
    go_wp2_with fail
    go_ret
    refine⟨_,done,rfl,⟨?_,Hdo.out⟩,?_,Gf.out⟩
    ·have:=Yp.out
     rw[FU.out.2,List.append_nil]at this
     rw[Hdl.out]
     exact this
    ·rw[Hdm.out,FU.out.1]
end Go.Proofs.YtabdianhoabhhaaGreatDoor.Merge
namespace Go.Proofs.YtabdianhoabhhaaGreatDoor.Merge
open Go Go.RowKit Go.Proofs.YtabdianhoabhhaaGreatDoor
def ay {α β:Type} (p:α→β→Bool) (a:List α) (b:List β):Bool:=decide (a.length=b.length) && (a.zip b).all fun x=>p x.1 x.2
theorem ADS {α β:Type} {p:α→β→Bool} {a:List α} {b:List β} (h:a.length≠b.length):ay p a b=false:=by
 unfold ay;rw[decide_eq_false h];rfl
theorem tH {α β:Type} {p:α→β→Bool} {a:List α} {b:List β} {k:Nat} (hk:k < a.length) (hk2:k < b.length) (h:p a[k] b[k]=false):ay p a b=false:=by
 unfold ay
 have:(a.zip b).all (fun x=>p x.1 x.2)=false:=by
  rw[List.all_eq_false]
  refine⟨(a[k],b[k]),?_,by simp[h]⟩
  rw[List.mem_iff_getElem]
  exact⟨k,by rw[List.length_zip];omega,by simp⟩
 rw[this,Bool.and_false]
theorem tJ {α β:Type} {p:α→β→Bool} {a:List α} {b:List β} {k:Nat} (hk:k < a.length) (hk2:k < b.length) (h0:∀ x∈(a.zip b).take k,p x.1 x.2=true) (h:p a[k] b[k]=true):∀ x∈(a.zip b).take (k+1),p x.1 x.2=true:=by
 have hl:k < (a.zip b).length:=by rw[List.length_zip];omega
 rw[BI _ _ hl]
 intro x hx
 rcases List.mem_append.1 hx with hx | hx
 ·exact h0 x hx
 ·simp at hx;subst hx;exact h
theorem AAK {α β:Type} {p:α→β→Bool} {a:List α} {b:List β} {k:Nat} (hl:a.length=b.length) (hk:k=a.length) (h0:∀ x∈(a.zip b).take k,p x.1 x.2=true):ay p a b=true:=by
 unfold ay
 rw[List.take_of_length_le (by rw[List.length_zip];omega)]at h0
 rw[decide_eq_true hl,Bool.true_and,List.all_eq_true]
 exact h0
theorem XG {α β:Type} {p:α→α→Bool} {f:α→β} (hp:∀ x y,p x y=true↔f x=f y):∀ a b:List α,ay p a b=true↔a.map f=b.map f
 | [],[]=>by simp[ay]
 | [],y :: b=>by simp[ay]
 | x :: a,[]=>by simp[ay]
 | x :: a,y :: b=>by
  have ih:=XG hp a b
  have:ay p (x :: a) (y :: b)=true↔p x y=true∧ay p a b=true:=by simp[ay];constructor <;> (rintro⟨h1,h2,h3⟩;exact⟨h2,h1,h3⟩)
  rw[this,ih,hp,List.map_cons,List.map_cons,List.cons.injEq]
end Go.Proofs.YtabdianhoabhhaaGreatDoor.Merge
namespace Go.Proofs.YtabdianhoabhhaaGreatDoor
open Go Go.RowKit
set_option linter.unusedVariables false
section
variable {P:Program} {ops:Array Oper} {md:Region.Mode} {C:World→Prop}
def wpAnyH (P:Program) (md:Region.Mode) (ops:Array Oper) (C:World→Prop) (n:Nat) (L:Array Bool→Act→Prop):Nat→Array Bool→Act→Prop
 | 0,listed,a=>L listed a
 | f+1,listed,a=>Region.ready md ops listed≠[]∧∀ i∈Region.ready md ops listed,i < n∧qOp P ops C i (wpAnyH P md ops C n L f (listed.setIfInBounds i true)) a
theorem Mj {n g:Nat} {L:Array Bool→Act→Prop} {Q':Exit→Act→World→Prop} (hL:∀ listed a w,C w→L listed a→wpAny P md ops Q' g listed a w) :
  ∀ (f:Nat) (listed:Array Bool) (a:Act) (w:World),C w→wpAnyH P md ops C n L f listed a→wpAny P md ops Q' (f+g) listed a w
 | 0,listed,a,w,hw,h=>by rw[Nat.zero_add];exact hL _ _ _ hw h
 | f+1,listed,a,w,hw,h=>by
  rw[show f+1+g=(f+g)+1 by omega]
  exact⟨fun h0=>absurd h0 h.1,fun i hi=>wpOp_of_qOp hw (fun a' w' hw' h'=>Mj hL f _ a' w' hw' h') (h.2 i hi).2⟩
theorem wpAnyH_first {n i:Nat} {oi:Oper} {v:Value} {L:Array Bool→Act→Prop} (hi:ops[i]?=some oi) (hsel:∀ (j:Nat) (o:Oper) cs b,ops[j]?=some o→o.op≠.select cs b)
  (hs:Region.sinkB md ops n=true) (hc:Region.chainB md ops n=true) (hn:n < ops.size) (hin:i < n)
  (hdone:∀ listed a,L listed a→∀ j∈Region.ready md ops listed,n≤j) :
  ∀ (f:Nat) (listed:Array Bool) (a:Act),HeadInv md ops n listed→
   (∀ j oj,ops[j]?=some oj→j≠i→listed.getD j true=false→(∀ e∈oj.after,Region.binds md e=true→e.on≠i)→oi.apart ops oj=true)→
   i∈Region.ready md ops listed→YieldsIn P ops C oi v a→
   wpAnyH P md ops C n L f (listed.setIfInBounds i true) (a.put oi.dst v)→wpAnyH P md ops C n L (f+1) listed a:=by
 intro f
 induction f with
 | zero=>
  intro listed a inv _ hr hy H
  have hun:=(mem_ready.1 hr).1
  refine⟨fun h=>(by rw[h]at hr;cases hr),fun j hj=>?_⟩
  have hjn:j < n:=by
   rcases Nat.lt_or_ge j n with h | h
   ·exact h
   ·exact absurd hj (tail_waits hs hc hn inv _ i rfl hin hun j h)
  refine⟨hjn,?_⟩
  by_cases hji:j=i
  ·subst hji;exact hy.qOp hi H
  ·have:=hdone _ _ H j (ready_mono hj hji)
   omega
 | succ f ih=>
  intro listed a inv hfree hr hy H
  have hun:=(mem_ready.1 hr).1
  refine⟨fun h=>(by rw[h]at hr;cases hr),fun j hj=>?_⟩
  have hjn:j < n:=by
   rcases Nat.lt_or_ge j n with h | h
   ·exact h
   ·exact absurd hj (tail_waits hs hc hn inv _ i rfl hin hun j h)
  refine⟨hjn,?_⟩
  by_cases hji:j=i
  ·subst hji;exact hy.qOp hi H
  ·have h1:=(H.2 j (ready_mono hj hji)).2
   obtain⟨hjun,oj,hoj,hall⟩:=mem_ready.1 hj
   have hnot:∀ e∈oj.after,Region.binds md e=true→e.on≠i:=fun e he hb heq=>by
    have h1:=hall e he hb
    rw[heq,getD_both hun]at h1
    cases h1
   have h2:=qOp_put hoj (hfree j oj hoj hji hjun hnot) (fun cs b=>hsel i oi cs b hi) (fun cs b=>hsel j oj cs b hoj) hy h1
   have hfree':∀ k ok,ops[k]?=some ok→k≠i→(listed.setIfInBounds j true).getD k true=false→
     (∀ e∈ok.after,Region.binds md e=true→e.on≠i)→oi.apart ops ok=true:=fun k ok hk hki hun hno=>by
    refine hfree k ok hk hki ?_ hno
    by_cases hjk:j=k
    ·subst hjk;exact hjun
    ·rw[getD_set_ne true hjk]at hun;exact hun
   refine qOp_mono (fun a' h3=>ih (listed.setIfInBounds j true) a' (inv.set hj hjn) hfree' (ready_mono hr (Ne.symm hji)) h3.1 ?_) h2
   rw[Array.setIfInBounds_comm _ _ hji]
   exact h3.2
theorem Td {n g:Nat} {Lq:Act→Prop} (hsel:Region.noSelect ops=true) (hs:Region.sinkB md ops n=true) (hc:Region.chainB md ops n=true) (hn:n < ops.size) :
  ∀ (l:List Oper) (k:Nat) (listed:Array Bool) (a:Act),(∀ j,j < l.length→l[j]?=ops[k+j]?)→k+l.length=n→HeadInv md ops n listed→
  Region.lexHead md ops g l.length k listed=true→wpQuiet P ops C Lq l a→
  wpAnyH P md ops C n (fun listed' a'=>Region.seqB md ops g n listed'=true∧Lq a') l.length listed a
 | [],k,listed,a,_,hk,_,hB,h=>by
  have:k=n:=by simpa using hk
  subst this
  exact⟨by simpa [Region.lexHead] using hB,h⟩
 | o :: l,k,listed,a,hl,hk,inv,hB,h=>by
  have h0:ops[k]?=some o:=by simpa using (hl 0 (by simp)).symm
  simp only[List.length_cons,Region.lexHead,Bool.and_eq_true]at hB
  obtain⟨⟨hr,hf⟩,hB'⟩:=hB
  have hkn:k < n:=by simp only[List.length_cons]at hk;omega
  have hr':k∈Region.ready md ops listed:=by simpa using hr
  have hst:qOp P ops C k (wpQuiet P ops C Lq l) a:=by unfold qOp;simp only[h0];exact h
  obtain⟨v,hy,hK⟩:=yieldsIn_of_qOp h0 hst
  exact wpAnyH_first h0 (Region.noSelect_spec hsel) hs hc hn hkn (fun listed' a' hL=>seqB_ready hL.1) l.length listed a inv (Region.free_spec h0 hf) hr' hy
   (Td hsel hs hc hn l (k+1) _ _ (fun j hj=>by have:=hl (j+1) (by simp;omega);simpa [Nat.add_assoc,Nat.add_comm 1 j] using this) (by simp only[List.length_cons]at hk;omega) (inv.set hr' hkn) hB' hK)
theorem Mk {id:Nat} {Q:Exit→Act→World→Prop} {a:Act} {w:World} {l:List Oper} (n:Nat) (hm:P.follows .mixedOrders=true) (hB:Region.lexTailB .any l.toArray n=true) (hC:C { w with drawn:=w.drawn+1 })
  (h:wpQuiet P l.toArray C (fun a'=>∀ w',C w'→wpList P l.toArray Q (l.drop n) a' w') (l.take n) a):(Code.region id l.toArray true).wp P Q a w:=by
 simp only[Region.lexTailB,Bool.and_eq_true,decide_eq_true_eq]at hB
 obtain⟨⟨⟨⟨hsel,hn⟩,hs⟩,hc⟩,hlex⟩:=hB
 have hn':n < l.length:=by simpa using hn
 have htl:(l.take n).length=n:=by simp;omega
 have hdl:(l.drop n).length=l.toArray.size - n:=by simp
 have inv0:HeadInv .any l.toArray n (Array.replicate l.toArray.size false):=
  ⟨by simp,fun j oj _ hl=>(by rw[getD_replicate_false]at hl;cases hl),fun t _ ht=>getD_in (by simpa using ht) (getD_replicate_false _ _)⟩
 have H:=Td (C:=C) (md:=.any) (g:=l.toArray.size - n) hsel hs hc hn (l.take n) 0 _ a (fun j hj=>by
  have hj':j < n:=by rw[htl]at hj;exact hj
  simp[hj']) (by simpa using htl) inv0 (by rw[htl];exact hlex) h
 refine wp_region_any hm ?_
 have:=Mj (Q':=Q) (g:=l.toArray.size - n) (fun listed a' w' hw' hL=>by
  have:=wpAny_of_seq (md:=.any) (Q':=Q) (l.drop n) n listed a' w' (fun j=>by simp[List.getElem?_drop]) (by rw[hdl];exact hL.1) (hL.2 w' hw')
  rwa [hdl]at this) _ _ _ _ hC H
 rw[htl,show n+(l.toArray.size - n)=l.toArray.size by omega]at this
 exact this
end
structure Ap (w0:World) where
 w:World
 h:Below w0.heap.size w0 w
instance (w0:World):Inhabited (Ap w0):=⟨⟨w0,Below.refl _ _⟩⟩
theorem Ap.cell {w0:World} {a:Addr} {v:Value} (h:w0.cell? a=some v) (p:Ap w0):p.w.cell? a=some v:=cell_below p.h h
theorem Js {P:Program} {f:FuncId} {args:Array Value} {w0:World} {p:Ap w0} {v:Value}
  (h:Calls P f args p.w fun e w'=>e=.returned v∧Below p.w.heap.size p.w w'):Calls P f args p.w fun e w'=>e=.returned v∧∃ q:Ap w0,w'=q.w:=
 h.mono fun e w' ⟨he,hb⟩=>⟨he,⟨w',p.h.trans (hb.mono p.h.size)⟩,rfl⟩
theorem Kw {P:Program} {f:FuncId} {args:Array Value} {w0:World} {p:Ap w0} {v:Value}
  (h:Calls P f args p.w fun e w'=>e=.returned v∧w'=p.w):Calls P f args p.w fun e w'=>e=.returned v∧∃ q:Ap w0,w'=q.w:=
 h.mono fun e w' ⟨he,hb⟩=>⟨he,p,hb⟩
theorem Mh {P:Program} {id:Nat} {Q:Exit→Act→World→Prop} {a:Act} {w:World} {l:List Oper} (n:Nat) (hm:P.follows .mixedOrders=true) (hB:Region.lexTailB .any l.toArray n=true)
  (h:wpQuiet P l.toArray (fun w'=>∃ p:Ap w,w'=p.w) (fun a'=>∀ w',(∃ p:Ap w,w'=p.w)→wpList P l.toArray Q (l.drop n) a' w') (l.take n) a):(Code.region id l.toArray true).wp P Q a w:=
 Mk (C:=fun w'=>∃ p:Ap w,w'=p.w) n hm hB ⟨⟨{ w with drawn:=w.drawn+1 },⟨rfl,rfl,rfl,Nat.le_refl _,fun _ _=>rfl⟩⟩,rfl⟩ h
theorem La {P:Program} {id:Nat} {Q:Exit→Act→World→Prop} {a:Act} {w:World} {l:List Oper} (hm:P.follows .mixedOrders=true) (hB:Region.lexB .any l.toArray=true)
  (h:wpQuiet P l.toArray (fun w'=>∃ p:Ap w,w'=p.w) (fun a'=>∀ w',(∃ p:Ap w,w'=p.w)→Q .normal a' w') l a):(Code.region id l.toArray true).wp P Q a w:=
 wp_region_quiet (C:=fun w'=>∃ p:Ap w,w'=p.w) hm hB ⟨⟨{ w with drawn:=w.drawn+1 },⟨rfl,rfl,rfl,Nat.le_refl _,fun _ _=>rfl⟩⟩,rfl⟩ (by simpa using h)
end Go.Proofs.YtabdianhoabhhaaGreatDoor
namespace Go.Proofs.YtabdianhoabhhaaGreatDoor.Merge
open Go Go.RowKit Go.Proofs.YtabdianhoabhhaaGreatDoor Go.Proofs.YtabdianhoabhhaaGreatDoor.Name
set_option linter.unusedVariables false
theorem bytesOf_map (xs:List UInt8):Lib.bytesOf (xs.map n8)=xs:=by
 unfold Lib.bytesOf
 rw[List.map_map]
 conv=>rhs;rw[←List.map_id xs]
 apply List.map_congr_left
 intro x _
 exact Za x
theorem Qx {P:Program} {w:World} {A:Option Addr} {xs:List UInt8} (n c:Nat) (hn:n=xs.length) (h:BD w A xs):(Extern.Bytes.bytesOf (.slice A n c)).run P w=.ok (Name.AQ xs) w:=by
 subst hn
 by_cases h0:xs=[]
 ·subst h0
  cases A with
  | none=>rfl
  | some a=>rfl
 ·obtain⟨b,o,rfl,hc⟩:=h (by simpa using List.length_pos_iff.2 h0)
  have hl:=Lib.run_loadBytesX (P:=P) w (xs.map n8) ⟨b,o,none⟩ .empty (fun j x hj=>by
   rw[addr_add]
   refine hc j _ ?_
   rw[List.getElem?_map]at hj⊢
   cases hx:xs[j]? with
   | none=>rw[hx]at hj;cases hj
   | some y=>rw[hx]at hj;injection hj with hj;subst hj;rfl)
  rw[List.length_map,bytesOf_map]at hl
  have he:(⟨ByteArray.empty.data++xs.toArray⟩:ByteArray)=Name.AQ xs:=by
   apply ByteArray.ext
   show (#[]:Array UInt8)++xs.toArray=xs.toArray
   simp
  rw[he]at hl
  exact hl
theorem O8 {P:Program} {w:World} {A B:Option Addr} {xs ys:List UInt8} (n c m d:Nat) (hn:n=xs.length) (hm:m=ys.length) (h1:BD w A xs) (h2:BD w B ys) :
  (Extern.BytealgCompare.compare #[.slice A n c,.slice B m d]).run P w=.ok (.int .i64 (cb xs ys)) w:=by
 change Sem.run P (do pure (goInt (Extern.BytealgCompare.cmp (←Extern.Bytes.bytesOf (.slice A n c)) (←Extern.Bytes.bytesOf (.slice B m d))))) w=_
 simp only[Sem.run_bind,Qx n c hn h1,Qx m d hm h2,Sem.run_pure,Result.andThen]
 rw[Lib.cmp_eq,Ej,Ej]
 rfl
set_option maxRecDepth 100000 in
set_option maxHeartbeats 400000 in
theorem QL (A B:Option Addr) (n c m d:Nat) (xs ys:List UInt8) (w:World) (hn:n=xs.length) (hm:m=ys.length) (h1:BD w A xs) (h2:BD w B ys) :
  Calls Tryz.prog 114 #[.slice A n c,.slice B m d] w fun e w'=>e=.returned (.int .i64 (cb xs ys))∧w'=w:=by
 have Hr:=Lib.hid (O8 (P:=Tryz.prog) n c m d hn hm h1 h2)
 clear hn hm h1 h2
 go_enter Tryz.func114,Tryz.ntmps114
 go_wp2_with fail
 rw[run_callFunc_extern Tryz.func142 (by kernel_rfl) (by kernel_rfl) (by kernel_rfl) (e:=Extern.BytealgCompare.compare) (by kernel_rfl),Hr.out]
 simp only[Result.andThen]
 rw[Oper.upon_value]
 go_wp2_with fail
 go_ret
 exact⟨rfl,rfl⟩
set_option maxRecDepth 100000 in
set_option maxHeartbeats 400000 in
theorem N8 (a b:List UInt8) (w:World) :
  Calls Tryz.prog 75 #[.string (Name.AQ a),.string (Name.AQ b)] w fun e w'=>e=.returned (.int .i64 (cb a b))∧w'=w:=by
 have Hr:=Lib.hid (Lib.run_compareString (P:=Tryz.prog) (Name.AQ a) (Name.AQ b) w)
 go_enter Tryz.func75,Tryz.ntmps75
 go_wp2_with (first | go_in)
 rw[run_callFunc_extern Tryz.func140 (by kernel_rfl) (by kernel_rfl) (by kernel_rfl) (e:=Extern.BytealgCompare.compare) (by kernel_rfl),Hr.out]
 simp only[Result.andThen]
 rw[Oper.upon_value,Ej,Ej]
 go_wp2_with fail
 go_ret
 exact⟨rfl,rfl⟩
set_option maxHeartbeats 400000 in
theorem Xn (x y:Int) (w:World) :
  Calls Tryz.prog 113 #[.int .i64 x,.int .i64 y] w fun e w'=>e=.returned (.int .i64 (ci x y))∧w'=w:=by
 have h1:x < y→ci x y=-1:=fun h=>by unfold ci Lib.compareInt;rw[if_pos h]
 have h2:y < x→ci x y=1:=fun h=>by unfold ci Lib.compareInt;rw[if_neg (by omega),if_pos h]
 have h3:x=y→ci x y=0:=fun h=>by unfold ci Lib.compareInt;rw[if_neg (by omega),if_neg (by omega)]
 rcases (by omega:x < y∨y < x∨x=y) with h | h | h
 ·have H:=Lib.hid (h1 h)
  have h':¬ y < x:=by omega
  clear h1 h2 h3
  generalize ci x y=r at *
  go_enter Tryz.func113,Tryz.ntmps113
  go_wp2
  go_ret
  exact⟨by rw[H.out];rfl,rfl⟩
 ·have H:=Lib.hid (h2 h)
  have h':¬ x < y:=by omega
  clear h1 h2 h3
  generalize ci x y=r at *
  go_enter Tryz.func113,Tryz.ntmps113
  go_wp2
  go_ret
  exact⟨by rw[H.out];rfl,rfl⟩
 ·subst h
  have H:=Lib.hid (h3 rfl)
  clear h1 h2 h3
  generalize ci x x=r at *
  go_enter Tryz.func113,Tryz.ntmps113
  go_wp2
  go_ret
  exact⟨by rw[H.out];rfl,rfl⟩
def nG (a b c d:Int):Int:=dx a (dx b (dx c d))
set_option maxRecDepth 100000 in
set_option maxHeartbeats 800000 in
theorem AAs (g:Nat) (a b c d:Int) (w:World) (h:AX w g 3 #[.int .i64 a,.int .i64 b,.int .i64 c,.int .i64 d]) :
  Calls Tryz.prog 112 #[.slice (some ⟨g,0,none⟩) 4 4] w fun e w'=>e=.returned (.int .i64 (nG a b c d))∧w'=w:=by
 have h0:w.cell? ⟨g,0,none⟩=some (.int .i64 a):=by rw[h.cell];rfl
 have h1:w.cell? ⟨g,1,none⟩=some (.int .i64 b):=by rw[h.cell];rfl
 have h2:w.cell? ⟨g,2,none⟩=some (.int .i64 c):=by rw[h.cell];rfl
 have h3:w.cell? ⟨g,3,none⟩=some (.int .i64 d):=by rw[h.cell];rfl
 have Ha:Hid (a≠0→nG a b c d=a):=Lib.hid (fun h=>by unfold nG dx;rw[if_pos h])
 have Hb:Hid (a=0→b≠0→nG a b c d=b):=Lib.hid (fun h h2=>by unfold nG dx;rw[if_neg (by simpa using h),if_pos h2])
 have Hc:Hid (a=0→b=0→c≠0→nG a b c d=c):=Lib.hid (fun h h2 h3=>by unfold nG dx;rw[if_neg (by simpa using h),if_neg (by simpa using h2),if_pos h3])
 have Hd:Hid (a=0→b=0→c=0→nG a b c d=d):=Lib.hid (fun h h2 h3=>by unfold nG dx;rw[if_neg (by simpa using h),if_neg (by simpa using h2),if_neg (by simpa using h3)])
 clear h
 generalize nG a b c d=r at *
 go_enter Tryz.func112,Tryz.ntmps112
 go_wp2_with fail
 go_loop [8] (fun i=>∃ k:Nat,k≤4∧i=.int .i64 (k:Int)∧(1≤k→a=0)∧(2≤k→b=0)∧(3≤k→c=0)∧(4≤k→d=0)) (fun i=>4 - (intOf i).toNat)
 case atStart=>exact⟨0,by omega,rfl,by omega,by omega,by omega,by omega⟩
 case round=>
  obtain⟨k,hk,rfl,k1,k2,k3,k4⟩:=hrel
  have K1:=Lib.hid k1
  have K2:=Lib.hid k2
  have K3:=Lib.hid k3
  have K4:=Lib.hid k4
  clear k1 k2 k3 k4
  rcases (by omega:k=0∨k=1∨k=2∨k=3∨k=4) with rfl | rfl | rfl | rfl | rfl
  ·by_cases hz:a=0
   ·subst hz
    go_wp2_with fail
    go_round
    case rel=>exact⟨1,by omega,by go_num,by simp,by omega,by omega,by omega⟩
    case measure=>simp[intOf]
   ·have hz':(a != 0)=true:=by simpa using hz
    go_wp2_with fail
    go_ret
    exact⟨by rw[Ha.out hz];rfl,rfl⟩
  ·have Z1:=Lib.hid (K1.out (by omega))
   by_cases hz:b=0
   ·subst hz
    go_wp2_with fail
    go_round
    case rel=>exact⟨2,by omega,by go_num,fun _=>Z1.out,by simp,by omega,by omega⟩
    case measure=>simp[intOf]
   ·have hz':(b != 0)=true:=by simpa using hz
    go_wp2_with fail
    go_ret
    exact⟨by rw[Hb.out Z1.out hz];rfl,rfl⟩
  ·have Z1:=Lib.hid (K1.out (by omega))
   have Z2:=Lib.hid (K2.out (by omega))
   by_cases hz:c=0
   ·subst hz
    go_wp2_with fail
    go_round
    case rel=>exact⟨3,by omega,by go_num,fun _=>Z1.out,fun _=>Z2.out,by simp,by omega⟩
    case measure=>simp[intOf]
   ·have hz':(c != 0)=true:=by simpa using hz
    go_wp2_with fail
    go_ret
    exact⟨by rw[Hc.out Z1.out Z2.out hz];rfl,rfl⟩
  ·have Z1:=Lib.hid (K1.out (by omega))
   have Z2:=Lib.hid (K2.out (by omega))
   have Z3:=Lib.hid (K3.out (by omega))
   by_cases hz:d=0
   ·subst hz
    go_wp2_with fail
    go_round
    case rel=>exact⟨4,by omega,by go_num,fun _=>Z1.out,fun _=>Z2.out,fun _=>Z3.out,by simp⟩
    case measure=>simp[intOf]
   ·have hz':(d != 0)=true:=by simpa using hz
    go_wp2_with fail
    go_ret
    exact⟨by rw[Hd.out Z1.out Z2.out Z3.out];rfl,rfl⟩
  ·have Z:=Lib.hid (Hd.out (K1.out (by omega)) (K2.out (by omega)) (K3.out (by omega)))
   have Z4:=Lib.hid (K4.out (by omega))
   go_wp2_with fail
   go_ret
   exact⟨by rw[Z.out,Z4.out];rfl,rfl⟩
set_option maxHeartbeats 400000 in
theorem Vs (x:Fx) (w:World) :
  Calls Tryz.prog 111 #[fV x] w fun e w'=>e=.returned (.int .i64 (gi x.1.gone))∧Below w.heap.size w w':=by
 obtain⟨⟨nm,bs,st,nd,gn⟩,A,n,c⟩:=x
 unfold fV Cj
 dsimp only
 cases gn with
 | true=>
  go_enter Tryz.func111,Tryz.ntmps111
  go_wp2
  go_ret
  exact⟨rfl,(Below.refl _ _).alloc (Nat.le_refl _) _⟩
 | false=>
  go_enter Tryz.func111,Tryz.ntmps111
  go_wp2
  go_ret
  exact⟨rfl,(Below.refl _ _).alloc (Nat.le_refl _) _⟩
end Go.Proofs.YtabdianhoabhhaaGreatDoor.Merge
namespace Go.Proofs.YtabdianhoabhhaaGreatDoor.Merge
open Go Go.RowKit Go.Proofs.YtabdianhoabhhaaGreatDoor Go.Proofs.YtabdianhoabhhaaGreatDoor.Name
set_option linter.unusedVariables false
theorem nH (a b:Fl):later a b=nG (ci a.stamp b.stamp) (ci a.node b.node) (ci (gi a.gone) (gi b.gone)) (cb a.bytes b.bytes):=rfl
set_option maxRecDepth 100000 in
set_option maxHeartbeats 1600000 in
theorem nE (x y:Fx) (w:World) (hx:D9 w x) (hy:D9 w y) :
  Calls Tryz.prog 76 #[fV x,fV y] w fun e w'=>e=.returned (.int .i64 (later x.1 y.1))∧Below w.heap.size w w':=by
 obtain⟨⟨n1,b1,s1,d1,g1⟩,A1,l1,c1⟩:=x
 obtain⟨⟨n2,b2,s2,d2,g2⟩,A2,l2,c2⟩:=y
 have Hx:=Lib.hid hx
 have Hy:=Lib.hid hy
 clear hx hy
 unfold fV Cj
 dsimp only
 obtain⟨w2,hw2⟩:∃ w2,w2=(w.alloc (.cells #[.string (Name.AQ n1),.slice A1 l1 c1,.int .i64 s1,.int .i64 d1,.bool g1] 36)).alloc (.cells #[.string (Name.AQ n2),.slice A2 l2 c2,.int .i64 s2,.int .i64 d2,.bool g2] 36):=⟨_,rfl⟩
 have hb2:Below w.heap.size w w2:=by rw[hw2];exact ((Below.refl _ _).alloc (Nat.le_refl _) _).alloc (by simp) _
 have B1:AX w2 w.heap.size 36 #[.string (Name.AQ n1),.slice A1 l1 c1,.int .i64 s1,.int .i64 d1,.bool g1]:=by rw[hw2];exact (AX.new _ _ _).alloc _
 have B2:AX w2 (w.heap.size+1) 36 #[.string (Name.AQ n2),.slice A2 l2 c2,.int .i64 s2,.int .i64 d2,.bool g2]:=by
  rw[hw2]
  have:=AX.new (w.alloc (.cells #[.string (Name.AQ n1),.slice A1 l1 c1,.int .i64 s1,.int .i64 d1,.bool g1] 36)) 36 #[.string (Name.AQ n2),.slice A2 l2 c2,.int .i64 s2,.int .i64 d2,.bool g2]
  simpa using this
 have Hx2:=Lib.hid (Hx.out.below hb2)
 have Hy2:=Lib.hid (Hy.out.below hb2)
 have Hb2:=Lib.hid hb2
 have p0:=fun p:Ap w2=>Ap.cell (show w2.cell? ⟨w.heap.size,0,none⟩=some (.string (Name.AQ n1)) by rw[B1.cell];rfl) p
 have p1:=fun p:Ap w2=>Ap.cell (show w2.cell? ⟨w.heap.size,1,none⟩=some (.slice A1 l1 c1) by rw[B1.cell];rfl) p
 have p2:=fun p:Ap w2=>Ap.cell (show w2.cell? ⟨w.heap.size,2,none⟩=some (.int .i64 s1) by rw[B1.cell];rfl) p
 have p3:=fun p:Ap w2=>Ap.cell (show w2.cell? ⟨w.heap.size,3,none⟩=some (.int .i64 d1) by rw[B1.cell];rfl) p
 have p4:=fun p:Ap w2=>Ap.cell (show w2.cell? ⟨w.heap.size,4,none⟩=some (.bool g1) by rw[B1.cell];rfl) p
 have q0:=fun p:Ap w2=>Ap.cell (show w2.cell? ⟨w.heap.size+1,0,none⟩=some (.string (Name.AQ n2)) by rw[B2.cell];rfl) p
 have q1:=fun p:Ap w2=>Ap.cell (show w2.cell? ⟨w.heap.size+1,1,none⟩=some (.slice A2 l2 c2) by rw[B2.cell];rfl) p
 have q2:=fun p:Ap w2=>Ap.cell (show w2.cell? ⟨w.heap.size+1,2,none⟩=some (.int .i64 s2) by rw[B2.cell];rfl) p
 have q3:=fun p:Ap w2=>Ap.cell (show w2.cell? ⟨w.heap.size+1,3,none⟩=some (.int .i64 d2) by rw[B2.cell];rfl) p
 have q4:=fun p:Ap w2=>Ap.cell (show w2.cell? ⟨w.heap.size+1,4,none⟩=some (.bool g2) by rw[B2.cell];rfl) p
 have HL:=Lib.hid (nH ⟨n1,b1,s1,d1,g1⟩ ⟨n2,b2,s2,d2,g2⟩)
 have hl1:l1=b1.length:=Hx.out.len
 have hl2:l2=b2.length:=Hy.out.len
 have dz:=Lib.hid hl1
 have vY:=Lib.hid hl2
 have Hw2:=Lib.hid hw2.symm
 clear B1 B2 hb2 hl1 hl2 hw2
 go_enter Tryz.func76,Tryz.ntmps76
 go_wp2_with fail
 rw[Hw2.out]
 clear Hw2
 refine Mh 22 (by kernel_rfl) (by kernel_rfl) ?_
 simp only[List.take_succ_cons,List.take_zero,List.drop_succ_cons,List.drop_zero]
 repeat (quiet_step (first
  | exact Kw (Xn _ _ _)
  | exact Js (Vs (⟨n1,b1,s1,d1,g1⟩,A1,l1,c1) _)
  | exact Js (Vs (⟨n2,b2,s2,d2,g2⟩,A2,l2,c2) _)
  | exact Kw (QL _ _ _ _ _ _ _ _ _ dz.out vY.out (Hx2.out.below (Ap.h _)).at_ (Hy2.out.below (Ap.h _)).at_)))
 refine wpQuiet_nil ?_
 intro wq hq
 have hbq:Below w2.heap.size w2 wq:=by obtain⟨p,hp⟩:=hq;rw[hp];exact p.h
 clear hq
 have U0:=Lib.hid (Hb2.out.trans (hbq.mono Hb2.out.size))
 clear p0 p1 p2 p3 p4 q0 q1 q2 q3 q4 hbq
 have Bk:=Lib.hid (AX.new wq 3 #[.int .i64 (ci s1 s2),.int .i64 (ci d1 d2),.int .i64 (ci (gi g1) (gi g2)),.int .i64 (cb b1 b2)])
 have Hb3:=Lib.hid (U0.out.alloc U0.out.size (.cells #[.int .i64 (ci s1 s2),.int .i64 (ci d1 d2),.int .i64 (ci (gi g1) (gi g2)),.int .i64 (cb b1 b2)] 3))
 go_wp2_with fail
 refine (AAs _ _ _ _ _ _ Bk.out).mono ?_
 rintro e wx ⟨rfl,hw⟩
 have hw:=hw.symm
 subst hw
 go_wp2_with fail
 go_ret
 exact⟨by rw[HL.out];rfl,Hb3.out⟩
end Go.Proofs.YtabdianhoabhhaaGreatDoor.Merge
namespace Go.Proofs.YtabdianhoabhhaaGreatDoor.Merge
open Go Go.RowKit Go.Proofs.YtabdianhoabhhaaGreatDoor Go.Proofs.YtabdianhoabhhaaGreatDoor.Name
set_option linter.unusedVariables false
theorem TA (xs ys:List UInt8):((Name.AQ xs).toList == (Name.AQ ys).toList)=decide (xs=ys):=by
 rw[ByteArray.toList_eq,ByteArray.toList_eq,Bool.eq_iff_iff];simp[Name.AQ]
theorem QE (xs:List UInt8):strOfNums (xs.map n8)=Name.AQ xs:=by
 unfold strOfNums Name.AQ
 rw[List.map_map]
 have:((fun n=>UInt8.ofNat n.toNat) ∘ n8)=id:=by
  funext x;simp[n8]
 rw[this,List.map_id]
theorem Gi (A:Option Addr) (n c:Nat) (xs:List UInt8) (w:World) (hn:xs.length=n) (h:BD w A xs) :
  (convert 23 9 (.slice A n c)).run Tryz.prog w=.ok (.string (Name.AQ xs)) w:=by
 rw[←QE]
 cases n with
 | zero=>
  have:xs=[]:=List.eq_nil_of_length_eq_zero hn
  subst this
  exact run_convert_bytes_zero w _ _ Tryz.underlying23 Tryz.underlying5 A c _ Tryz.underlying9
 | succ n=>
  obtain⟨b,o,rfl,_⟩:=AR.get h (k:=0) (by simp;omega)
  refine run_convert_bytes_arg w _ _ Tryz.underlying23 Tryz.underlying5 b o _ c _ (by simpa using hn) (fun i hi=>?_) _ Tryz.underlying9
  obtain⟨b',o',hb,hc⟩:=AR.get h (k:=i) (by simp;omega)
  injection hb with hb;injection hb with h1 h2 h3
  subst h1 h2
  rw[hc]
  have:i < xs.length:=by omega
  simp[List.getD,Eh,this]
set_option maxHeartbeats 400000 in
theorem nI (A B:Option Addr) (n m ca cb:Nat) (xs ys:List UInt8) (w:World) (hn:xs.length=n) (hm:ys.length=m) (ha:BD w A xs) (hb:BD w B ys) :
  Calls Tryz.prog 22 #[.slice A n ca,.slice B m cb] w fun e w'=>e=.returned (.bool (decide (xs=ys)))∧w'=w:=by
 have k1:=Gi A n ca xs w hn ha
 have k2:=Gi B m cb ys w hm hb
 have K:Hid ((xs == ys)=decide (xs=ys)):=Lib.hid (by rw[Bool.eq_iff_iff];simp)
 clear hn hm ha hb
 go_enter Tryz.func22,Tryz.ntmps22
 go_wp2_with fail
 go_ret
 exact⟨DX K.out,rfl⟩
theorem N9 {w:World} {g:Nat} {t:TypeId} {v0 v1 v2 v3 v4:Value} (h:AX w g t #[v0,v1,v2,v3,v4]) :
  w.cell? ⟨g,0,none⟩=some v0∧w.cell? ⟨g,1,none⟩=some v1∧w.cell? ⟨g,2,none⟩=some v2∧w.cell? ⟨g,3,none⟩=some v3∧w.cell? ⟨g,4,none⟩=some v4:=
 ⟨by rw[h.cell];rfl,by rw[h.cell];rfl,by rw[h.cell];rfl,by rw[h.cell];rfl,by rw[h.cell];rfl⟩
def Qr (a b:Fl):Bool:=decide (a.name=b.name) && decide (a.bytes=b.bytes) && decide (a.stamp=b.stamp) && decide (a.node=b.node) && decide (a.gone=b.gone)
theorem Vh (a b:Fl):Qr a b=true↔a=b:=by
 cases a;cases b
 simp[Qr,and_assoc]
set_option maxHeartbeats 1600000 in
theorem XH (x y:Fx) (w:World) (hx:D9 w x) (hy:D9 w y) :
  Calls Tryz.prog 20 #[fV x,fV y] w fun e w'=>e=.returned (.bool (Qr x.1 y.1))∧Below w.heap.size w w':=by
 obtain⟨⟨n1,b1,s1,d1,g1⟩,A1,l1,c1⟩:=x
 obtain⟨⟨n2,b2,s2,d2,g2⟩,A2,l2,c2⟩:=y
 unfold fV Cj
 dsimp only
 obtain⟨w2,hw2⟩:∃ w2,w2=(w.alloc (.cells #[.string (Name.AQ n1),.slice A1 l1 c1,.int .i64 s1,.int .i64 d1,.bool g1] 36)).alloc (.cells #[.string (Name.AQ n2),.slice A2 l2 c2,.int .i64 s2,.int .i64 d2,.bool g2] 36):=⟨_,rfl⟩
 have hb2:Below w.heap.size w w2:=by rw[hw2];exact ((Below.refl _ _).alloc (Nat.le_refl _) _).alloc (by simp) _
 have hl1:l1=b1.length:=hx.len
 have hl2:l2=b2.length:=hy.len
 have B1:AX w2 w.heap.size 36 #[.string (Name.AQ n1),.slice A1 l1 c1,.int .i64 s1,.int .i64 d1,.bool g1]:=by rw[hw2];exact (AX.new _ _ _).alloc _
 have B2:AX w2 (w.heap.size+1) 36 #[.string (Name.AQ n2),.slice A2 l2 c2,.int .i64 s2,.int .i64 d2,.bool g2]:=by
  rw[hw2]
  have:=AX.new (w.alloc (.cells #[.string (Name.AQ n1),.slice A1 l1 c1,.int .i64 s1,.int .i64 d1,.bool g1] 36)) 36 #[.string (Name.AQ n2),.slice A2 l2 c2,.int .i64 s2,.int .i64 d2,.bool g2]
  simpa using this
 have HB:=Lib.hid (And.intro B1 B2)
 have He:=Lib.hid (nI A1 A2 l1 l2 c1 c2 b1 b2 w2 hl1.symm hl2.symm (hx.below hb2).at_ (hy.below hb2).at_)
 have Hb2:=Lib.hid hb2
 have Hw2:=Lib.hid hw2.symm
 have zZ:Hid (Qr ⟨n1,b1,s1,d1,g1⟩ ⟨n2,b2,s2,d2,g2⟩=(decide (n1=n2) && decide (b1=b2) && decide (s1=s2) && decide (d1=d2) && decide (g1=g2))):=Lib.hid rfl
 clear hb2 hw2 hl1 hl2 hx hy B1 B2
 by_cases h1:n1=n2
 ·subst h1
  by_cases h2:b1=b2
  ·rw[decide_eq_true h2]at He zZ
   clear h2
   by_cases h3:s1=s2
   ·subst h3
    by_cases h4:d1=d2
    ·subst h4
     have e5:(g1 == g2)=decide (g1=g2):=by cases g1 <;> cases g2 <;> rfl
     have E5:=Lib.hid e5
     clear e5
     go_enter Tryz.func20,Tryz.ntmps20
     go_wp2_with fail
     rw[Hw2.out]
     refine (He.out).mono ?_
     rintro e w3 ⟨rfl,h⟩
     have h:=h.symm
     subst h
     have p:=N9 HB.out.1
     have q:=N9 HB.out.2
     obtain⟨p0,p1,p2,p3,p4⟩:=p
     obtain⟨q0,q1,q2,q3,q4⟩:=q
     go_wp2_with fail
     go_ret
     exact⟨DX (by rw[zZ.out];simp;exact E5.out),Hb2.out⟩
    ·have f4:(d1 == d2)=false:=by simp[h4]
     rw[decide_eq_false h4]at zZ
     clear h4
     go_enter Tryz.func20,Tryz.ntmps20
     go_wp2_with fail
     rw[Hw2.out]
     refine (He.out).mono ?_
     rintro e w3 ⟨rfl,h⟩
     have h:=h.symm
     subst h
     have p:=N9 HB.out.1
     have q:=N9 HB.out.2
     obtain⟨p0,p1,p2,p3,p4⟩:=p
     obtain⟨q0,q1,q2,q3,q4⟩:=q
     go_wp2_with fail
     go_ret
     exact⟨DX (by rw[zZ.out];simp),Hb2.out⟩
   ·have f3:(s1 == s2)=false:=by simp[h3]
    rw[decide_eq_false h3]at zZ
    clear h3
    go_enter Tryz.func20,Tryz.ntmps20
    go_wp2_with fail
    rw[Hw2.out]
    refine (He.out).mono ?_
    rintro e w3 ⟨rfl,h⟩
    have h:=h.symm
    subst h
    have p:=N9 HB.out.1
    have q:=N9 HB.out.2
    obtain⟨p0,p1,p2,p3,p4⟩:=p
    obtain⟨q0,q1,q2,q3,q4⟩:=q
    go_wp2_with fail
    go_ret
    exact⟨DX (by rw[zZ.out];simp),Hb2.out⟩
  ·rw[decide_eq_false h2]at He zZ
   clear h2
   go_enter Tryz.func20,Tryz.ntmps20
   go_wp2_with fail
   rw[Hw2.out]
   refine (He.out).mono ?_
   rintro e w3 ⟨rfl,h⟩
   have h:=h.symm
   subst h
   have p:=N9 HB.out.1
   have q:=N9 HB.out.2
   obtain⟨p0,p1,p2,p3,p4⟩:=p
   obtain⟨q0,q1,q2,q3,q4⟩:=q
   go_wp2_with fail
   go_ret
   exact⟨DX (by rw[zZ.out];simp),Hb2.out⟩
 ·have f1:(n1 == n2)=false:=by simp[h1]
  rw[decide_eq_false h1]at zZ
  clear h1
  go_enter Tryz.func20,Tryz.ntmps20
  go_wp2_with fail
  rw[Hw2.out]
  go_ret
  exact⟨DX (by rw[zZ.out];simp),Hb2.out⟩
end Go.Proofs.YtabdianhoabhhaaGreatDoor.Merge
namespace Go.Proofs.YtabdianhoabhhaaGreatDoor.Merge
open Go Go.RowKit Go.Proofs.YtabdianhoabhhaaGreatDoor Go.Proofs.YtabdianhoabhhaaGreatDoor.Name
set_option linter.unusedVariables false
def Na (l:List Fl) (k:Nat):Option (List UInt8):=if k=0 then none else some (l.getD (k - 1) ⟨[],[],0,0,false⟩).name
theorem nJ (p:Option (List UInt8)) (f:Fl) (l:List Fl) (h1:ET f=0) (h2:za p f.name=true):QM p (f :: l)=QM (some f.name) l:=by
 simp only[QM]
 rw[if_neg (by simpa using h1),if_neg (by rw[h2];simp)]
theorem vZ (p:Option (List UInt8)) (f:Fl) (l:List Fl) (h1:ET f≠0):QM p (f :: l)=ET f:=by
 simp only[QM];rw[if_pos h1]
theorem nK (p:Option (List UInt8)) (f:Fl) (l:List Fl) (h1:ET f=0) (h2:za p f.name=false):QM p (f :: l)=4:=by
 simp only[QM];rw[if_neg (by simpa using h1),if_pos h2]
theorem drop_cons {α:Type} (l:List α) (k:Nat) (h:k < l.length):l.drop k=l[k] :: l.drop (k+1):=(List.drop_eq_getElem_cons h)
def Ey (l:List Fl) (k:Nat):Prop:=Be l=QM (Na l k) (l.drop k)
theorem nL (l:List Fl) (h:l.length≤12):Ey l 0:=by unfold Ey Be Na;rw[if_neg (by omega),if_pos rfl];rfl
theorem nM (l:List Fl) (k:Nat) (hk:k < l.length) (h:Ey l k) (h1:ET l[k]=0) (h2:za (Na l k) l[k].name=true):Ey l (k+1):=by
 unfold Ey at *
 rw[h,drop_cons l k hk,nJ _ _ _ h1 h2]
 congr 1
 unfold Na
 rw[if_neg (by omega)]
 simp[List.getD_eq_getElem?_getD,hk]
theorem rest_end (l:List Fl) (k:Nat) (hk:k=l.length) (h:Ey l k):Be l=0:=by
 unfold Ey at h
 rw[h,List.drop_of_length_le (by omega)]
 rfl
theorem vg (l:List Fl) (k:Nat) (hk:k < l.length) (h:Ey l k) (h1:ET l[k]≠0):Be l=ET l[k]:=by
 unfold Ey at h
 rw[h,drop_cons l k hk,vZ _ _ _ h1]
theorem nN (l:List Fl) (k:Nat) (hk:k < l.length) (h:Ey l k) (h1:ET l[k]=0) (h2:za (Na l k) l[k].name=false):Be l=4:=by
 unfold Ey at h
 rw[h,drop_cons l k hk,nK _ _ _ h1 h2]
theorem _root_.Go.RowKit.Below.drewN' {B:Nat} {a w:World} (h:Below B a w) (n:Nat):Below B a (w.drewN n):=⟨h.os,h.tape,h.output,h.size,h.block⟩
set_option maxRecDepth 100000 in
set_option maxHeartbeats 2000000 in
theorem Fy (v:Value) (l:List Fx) (w:World) (hm:ML w) (h:CL w v l) :
  Calls Tryz.prog 17 #[v] w fun e w'=>e=.returned (.int .i64 (Be (l.map Prod.fst)))∧Below w.heap.size w w':=by
 obtain⟨A,cap,rfl,hcap,hcm,hA,ic,Qn⟩:=h
 have HA:=Lib.hid hA
 have Hd:=Lib.hid Qn
 have Hm:=Lib.hid hm
 clear hA ic Qn hm
 have hcm':cap≤9223372036854775807:=by unfold maxLen at hcm;omega
 clear hcm
 obtain⟨n,hn⟩:∃ n,n=l.length:=⟨_,rfl⟩
 have Hn:=Lib.hid hn.symm
 rw[←hn]at hcap⊢
 clear hn
 by_cases h12:12 < n
 ·have Hc:Hid (Be (l.map Prod.fst)=2):=Lib.hid (by unfold Be;rw[List.length_map,Hn.out,if_pos h12])
  have AKJ:(12:Int) < (n:Int):=by omega
  go_enter Tryz.func17,Tryz.ntmps17
  go_wp2_with fail
  go_ret
  exact⟨by rw[Hc.out];rfl,Below.refl _ _⟩
 ·have AKJ:¬ (12:Int) < (n:Int):=by omega
  have H0:=Lib.hid (nL (l.map Prod.fst) (by rw[List.length_map,Hn.out];omega))
  have Lb:=Lib.hid (nM (l.map Prod.fst))
  have rY:=Lib.hid (rest_end (l.map Prod.fst))
  have P6:=Lib.hid (vg (l.map Prod.fst))
  have AG1:=Lib.hid (nN (l.map Prod.fst))
  have HL:Hid ((l.map Prod.fst).length=n):=Lib.hid (by rw[List.length_map,Hn.out])
  have XE:Hid (∀ k (hk:k < l.length) (hk2:k < (l.map Prod.fst).length),(l.map Prod.fst)[k]=l[k].1):=Lib.hid (fun k hk hk2=>by rw[List.getElem_map])
  generalize l.map Prod.fst=m at *
  go_enter Tryz.func17,Tryz.ntmps17
  go_wp2_with fail
  go_loopw [11] (fun i wr=>∃ k:Nat,k≤n∧i=.int .i64 (k:Int)∧Ey m k∧Below w.heap.size w wr) (fun i _=>n - (intOf i).toNat)
  case atStart=>exact⟨0,Nat.zero_le _,rfl,H0.out,Below.refl _ _⟩
  case round=>
   obtain⟨k,hk,rfl,hr,hb⟩:=hrel
   have Hb:=Lib.hid hb
   have Hr:=Lib.hid hr
   clear hb hr
   by_cases hlt:k < n
   ·have hkl:k < l.length:=by rw[Hn.out];exact hlt
    have Yh:k < m.length:=by rw[HL.out];exact hlt
    obtain⟨b,o,rfl,hc0,hc1,hc2,hc3,hc4⟩:=F7 (HA.out.below Hb.out) hkl
    have zS:=Hd.out l[k] (List.getElem_mem hkl)
    have qa:Hid (ET l[k].1=0→za (Na m k) l[k].1.name=true→Ey m (k+1)):=Lib.hid (fun h1 h2=>Lb.out k Yh Hr.out (by rw[XE.out k hkl Yh];exact h1) (by rw[XE.out k hkl Yh];exact h2))
    have YM:Hid (ET l[k].1≠0→Be m=ET l[k].1):=Lib.hid (fun h1=>by rw[P6.out k Yh Hr.out (by rw[XE.out k hkl Yh];exact h1),XE.out k hkl Yh])
    have HDn:Hid (ET l[k].1=0→za (Na m k) l[k].1.name=false→Be m=4):=Lib.hid (fun h1 h2=>AG1.out k Yh Hr.out (by rw[XE.out k hkl Yh];exact h1) (by rw[XE.out k hkl Yh];exact h2))
    have ACP:Hid (k≠0→∃ q:List UInt8,Na m k=some q∧wr.cell? ⟨b,o+(k - 1)*5,none⟩=some (.string (Name.AQ q))):=Lib.hid (fun h0=>by
     have hk1:k - 1 < l.length:=by omega
     have hk2:k - 1 < m.length:=by omega
     obtain⟨b',o',e,hp0,_⟩:=F7 (HA.out.below Hb.out) hk1
     injection e with e
     injection e with e1 e2 e3
     subst e1 e2
     refine⟨l[k - 1].1.name,?_,hp0⟩
     unfold Na
     rw[if_neg h0]
     have:=XE.out (k - 1) hk1 hk2
     simp[List.getD_eq_getElem?_getD,hk2,this])
    generalize l[k]=x at *
    obtain⟨⟨nm,bs,st,nd,gn⟩,As,ln,cp⟩:=x
    simp only[Cj]at hc0 hc1 hc2 hc3 hc4 qa YM HDn zS
    have Hln:Hid (ln=bs.length):=Lib.hid zS.len
    have hnm:nm.length≤maxLen:=zS.name
    clear zS
    have HC:=Lib.hid (fun w' (hb:Below w.heap.size w w')=>eD nm w' hnm (Hm.out.below hb))
    clear hnm
    go_wp2_with fail
    refine (HC.out _ (Hb.out.alloc Hb.out.size _)).mono ?_
    rintro e w2 ⟨rfl,hb2⟩
    have Hb2:=Lib.hid (CG (Hb.out.alloc Hb.out.size (.cells #[.string (Name.AQ nm),.slice As ln cp,.int .i64 st,.int .i64 nd,.bool gn] 36)) hb2)
    have BX:Hid (AX w2 wr.heap.size 36 #[.string (Name.AQ nm),.slice As ln cp,.int .i64 st,.int .i64 nd,.bool gn]):=Lib.hid ((AX.new wr _ _).below hb2 (by simp))
    have e0:w2.cell? ⟨wr.heap.size,0,none⟩=some (.string (Name.AQ nm)):=by rw[BX.out.cell];rfl
    have e1:w2.cell? ⟨wr.heap.size,1,none⟩=some (.slice As ln cp):=by rw[BX.out.cell];rfl
    have e2:w2.cell? ⟨wr.heap.size,2,none⟩=some (.int .i64 st):=by rw[BX.out.cell];rfl
    have e3:w2.cell? ⟨wr.heap.size,3,none⟩=some (.int .i64 nd):=by rw[BX.out.cell];rfl
    have e4:w2.cell? ⟨wr.heap.size,4,none⟩=some (.bool gn):=by rw[BX.out.cell];rfl
    have YO:Hid (k≠0→∃ q:List UInt8,Na m k=some q∧w2.cell? ⟨b,o+(k - 1)*5,none⟩=some (.string (Name.AQ q))):=Lib.hid (fun h0=>by
     obtain⟨q,h1,h2⟩:=ACP.out h0
     exact⟨q,h1,cell_below hb2 (cell_below ((Below.refl _ _).alloc (Nat.le_refl _) _) h2)⟩)
    have HF:Hid (ET ⟨nm,bs,st,nd,gn⟩=if Cc nm≠0 then Cc nm else if 3000 < bs.length then 2 else if st < 0∨1000000 < st∨nd < 0∨4≤nd then 3 else if gn=true∧bs≠[] then 4 else 0):=Lib.hid rfl
    generalize ET ⟨nm,bs,st,nd,gn⟩=fe at *
    clear hb2 ACP hc0 hc1 hc2 hc3 hc4 HC
    by_cases g1:Cc nm=0
    ·rw[g1]at HF⊢
     by_cases g2:3000 < ln
     ·have YP:Hid (fe=2):=Lib.hid (by rw[HF.out,if_neg (by simp),if_pos (by rw[←Hln.out];exact g2)])
      have Hc:Hid (Be m=2):=Lib.hid (by rw[YM.out (by rw[YP.out];decide),YP.out])
      have g2i:(3000:Int) < (ln:Int):=by omega
      go_wp2_with fail
      go_ret
      exact⟨by rw[Hc.out];rfl,Hb2.out⟩
     ·have g2i:¬ (3000:Int) < (ln:Int):=by omega
      have G2:Hid (¬ 3000 < bs.length):=Lib.hid (by rw[←Hln.out];exact g2)
      by_cases g3:st < 0∨1000000 < st∨nd < 0∨4≤nd
      ·have YP:Hid (fe=3):=Lib.hid (by rw[HF.out,if_neg (by simp),if_neg G2.out,if_pos g3])
       have Hc:Hid (Be m=3):=Lib.hid (by rw[YM.out (by rw[YP.out];decide),YP.out])
       by_cases k1:st < 0
       ·go_wp2_with fail
        go_ret
        exact⟨by rw[Hc.out];rfl,Hb2.out⟩
       ·by_cases k2:1000000 < st
        ·go_wp2_with fail
         go_ret
         exact⟨by rw[Hc.out];rfl,Hb2.out⟩
        ·by_cases k3:nd < 0
         ·go_wp2_with fail
          go_ret
          exact⟨by rw[Hc.out];rfl,Hb2.out⟩
         ·have k4:4≤nd:=by omega
          go_wp2_with fail
          go_ret
          exact⟨by rw[Hc.out];rfl,Hb2.out⟩
      ·have k1:¬ st < 0:=by omega
       have k2:¬ 1000000 < st:=by omega
       have k3:¬ nd < 0:=by omega
       have k4:¬ 4≤nd:=by omega
       have zb:Hid (fe=if gn=true∧bs≠[] then 4 else 0):=Lib.hid (by rw[HF.out,if_neg (by simp),if_neg G2.out,if_neg g3])
       clear g3
       by_cases g5:gn=true∧bs≠[]
       ·obtain⟨rfl,g6⟩:=g5
        have YP:Hid (fe=4):=Lib.hid (by rw[zb.out,if_pos ⟨rfl,g6⟩])
        have Hc:Hid (Be m=4):=Lib.hid (by rw[YM.out (by rw[YP.out];decide),YP.out])
        have g5n:0 < ln:=by rw[Hln.out];exact List.length_pos_iff.2 g6
        have g5i:(0:Int) < (ln:Int):=by omega
        have g5d:decide ((0:Int) < (ln:Int))=true:=by simpa using g5i
        clear qa YM HDn YO
        go_wp2_with fail
        go_big_quiet (fail)
        go_wp2_with fail
        go_ret
        exact⟨by rw[Hc.out];rfl,Hb2.out.drewN' _⟩
       ·have YP:Hid (fe=0):=Lib.hid (by rw[zb.out,if_neg g5])
        cases gn with
        | true=>
         obtain rfl:ln=0:=by
          rw[Hln.out,List.length_eq_zero_iff]
          exact Classical.byContradiction fun e=>g5 ⟨rfl,e⟩
         clear g5
         by_cases hk0:k=0
         ·have YY:Hid (Ey m (k+1)):=Lib.hid (qa.out YP.out (by rw[hk0];rfl))
          subst hk0
          clear qa YM HDn YO
          go_wp2_with fail
          go_big_quiet (fail)
          go_wp2_with fail
          go_roundw
          case rel=>exact⟨1,by omega,by go_num,YY.out,Hb2.out.drewN' _⟩
          case measure=>simp[intOf];omega
         ·have hkp:0 < k:=by omega
          obtain⟨q,hq1,hq2⟩:=YO.out hk0
          have hkd:decide ((0:Int) < (k:Int))=true:=by simpa using hkp
          have hks:IntKind.i64.wrap ((k:Int) - 1)=(k:Int) - 1:=IntWalk.i64_in _ (by omega)
          have hk1:(0:Int)≤(k:Int) - 1:=by omega
          have hk2:((k:Int) - 1).toNat=k - 1:=by omega
          have hk3:((k:Int) - 1) < (n:Int):=by omega
          have hk4:k - 1 < n:=by omega
          have Xo:=qa.out YP.out
          have Xp:=HDn.out YP.out
          rw[hq1]at Xo Xp
          cases hle:Op.bytesLess q nm with
          | true=>
           have YY:Hid (Ey m (k+1)):=Lib.hid (Xo (by show decide (cb q nm < 0)=_;rw[←Rp];exact hle))
           clear qa YM HDn YO Xo Xp hq1
           go_wp2_with fail
           go_big_quiet (fail)
           go_wp2_with fail
           go_roundw
           case rel=>exact⟨k+1,by omega,by go_num,YY.out,Hb2.out.drewN' _⟩
           case measure=>simp[intOf];omega
          | false=>
           have Hc:Hid (Be m=4):=Lib.hid (Xp (by show decide (cb q nm < 0)=_;rw[←Rp];exact hle))
           clear qa YM HDn YO Xo Xp hq1
           go_wp2_with fail
           go_big_quiet (fail)
           go_wp2_with fail
           go_ret
           exact⟨by rw[Hc.out];rfl,Hb2.out.drewN' _⟩
        | false=>
         clear g5
         by_cases hk0:k=0
         ·have YY:Hid (Ey m (k+1)):=Lib.hid (qa.out YP.out (by rw[hk0];rfl))
          subst hk0
          clear qa YM HDn YO
          go_wp2_with fail
          go_big_quiet (fail)
          go_wp2_with fail
          go_roundw
          case rel=>exact⟨1,by omega,by go_num,YY.out,Hb2.out.drewN' _⟩
          case measure=>simp[intOf];omega
         ·have hkp:0 < k:=by omega
          obtain⟨q,hq1,hq2⟩:=YO.out hk0
          have hkd:decide ((0:Int) < (k:Int))=true:=by simpa using hkp
          have hks:IntKind.i64.wrap ((k:Int) - 1)=(k:Int) - 1:=IntWalk.i64_in _ (by omega)
          have hk1:(0:Int)≤(k:Int) - 1:=by omega
          have hk2:((k:Int) - 1).toNat=k - 1:=by omega
          have hk3:((k:Int) - 1) < (n:Int):=by omega
          have hk4:k - 1 < n:=by omega
          have Xo:=qa.out YP.out
          have Xp:=HDn.out YP.out
          rw[hq1]at Xo Xp
          cases hle:Op.bytesLess q nm with
          | true=>
           have YY:Hid (Ey m (k+1)):=Lib.hid (Xo (by show decide (cb q nm < 0)=_;rw[←Rp];exact hle))
           clear qa YM HDn YO Xo Xp hq1
           go_wp2_with fail
           go_big_quiet (fail)
           go_wp2_with fail
           go_roundw
           case rel=>exact⟨k+1,by omega,by go_num,YY.out,Hb2.out.drewN' _⟩
           case measure=>simp[intOf];omega
          | false=>
           have Hc:Hid (Be m=4):=Lib.hid (Xp (by show decide (cb q nm < 0)=_;rw[←Rp];exact hle))
           clear qa YM HDn YO Xo Xp hq1
           go_wp2_with fail
           go_big_quiet (fail)
           go_wp2_with fail
           go_ret
           exact⟨by rw[Hc.out];rfl,Hb2.out.drewN' _⟩
    ·have YP:Hid (fe=Cc nm):=Lib.hid (by rw[HF.out,if_pos g1])
     have Hc:Hid (Be m=Cc nm):=Lib.hid (by rw[YM.out (by rw[YP.out];exact g1),YP.out])
     generalize Cc nm=z at *
     have hz1:(z != 0)=true:=by simpa using g1
     go_wp2_with fail
     go_ret
     exact⟨by rw[Hc.out];rfl,Hb2.out⟩
   ·obtain rfl:k=n:=by omega
    have He:Hid (Be m=0):=Lib.hid (rY.out k (by rw[HL.out]) Hr.out)
    go_wp2_with fail
    go_ret
    exact⟨by rw[He.out];rfl,Hb.out⟩
end Go.Proofs.YtabdianhoabhhaaGreatDoor.Merge
namespace Go.Proofs.YtabdianhoabhhaaGreatDoor.Merge
open Go Go.RowKit Go.Proofs.YtabdianhoabhhaaGreatDoor Go.Proofs.YtabdianhoabhhaaGreatDoor.Name
set_option linter.unusedVariables false
set_option maxRecDepth 100000 in
set_option maxHeartbeats 1600000 in
theorem RG (A B:Option Addr) (n m ca cb:Nat) (xs ys:List (Fx)) (g:FuncId) (cap:Array Value) (p:Fx→Fx→Bool) (w:World) (hn:xs.length=n) (hm:ys.length=m) (hx:n≤maxLen) (hy:m≤maxLen)
  (ha:AR w A (xs.flatMap fC)) (hb:AR w B (ys.flatMap fC))
  (hcf:∀ args w',(callFunc g args).run Tryz.prog w'=.ok (.enter g args) w')
  (hf:∀ x∈xs,∀ y∈ys,∀ w',Below w.heap.size w w'→Calls Tryz.prog g (#[fV x,fV y]++cap) w' fun e w''=>e=.returned (.bool (p x y))∧Below w'.heap.size w' w'') :
  Calls Tryz.prog 49 #[.slice A n ca,.slice B m cb,.func (.func g) #[] cap] w fun e w'=>e=.returned (.bool (ay p xs ys))∧Below w.heap.size w w':=by
 unfold maxLen at hx hy
 have Hn:=Lib.hid hn
 have Hm:=Lib.hid hm
 have Ha:=Lib.hid ha
 have Hb:=Lib.hid hb
 have Hf:=Lib.hid hf
 clear hn hm ha hb hf
 by_cases hnm:n=m
 ·subst hnm
  go_enter Tryz.func49,Tryz.ntmps49
  go_wp2_with fail
  go_loopw [17] (fun i wr=>∃ k:Nat,k≤n∧i=.int .i64 (k:Int)∧(∀ x∈(xs.zip ys).take k,p x.1 x.2=true)∧Below w.heap.size w wr) (fun i _=>n - (intOf i).toNat)
  case atStart=>exact⟨0,Nat.zero_le _,rfl,by simp,Below.refl _ _⟩
  case round=>
   obtain⟨k,hk,rfl,hall,hbr⟩:=hrel
   have FU:=Lib.hid hall
   have Gf:=Lib.hid hbr
   clear hall hbr
   by_cases hlt:k < n
   ·have hkx:k < xs.length:=by rw[Hn.out];exact hlt
    have Rh:k < ys.length:=by rw[Hm.out];exact hlt
    obtain⟨ba,oa,rfl,iT⟩:=EJ (size:=5) Kj (by omega) (Ha.out.below Gf.out) hkx
    obtain⟨bb,ob,rfl,hcb⟩:=EJ (size:=5) Kj (by omega) (Hb.out.below Gf.out) Rh
    have Yz:=Lib.hid (fun w' hb=>Hf.out xs[k] (List.getElem_mem hkx) ys[k] (List.getElem_mem Rh) w' hb)
    have Hy:=Lib.hid (tH (p:=p) hkx Rh)
    have Hz:=Lib.hid (tJ (p:=p) hkx Rh FU.out)
    generalize xs[k]=x at *
    generalize ys[k]=y at *
    obtain⟨⟨n1,b1,s1,d1,g1⟩,A1,l1,c1⟩:=x
    obtain⟨⟨n2,b2,s2,d2,g2⟩,A2,l2,c2⟩:=y
    have lU:wr.cell? ⟨ba,oa+k*5,none⟩=some (.string (Name.AQ n1)):=iT 0 _ rfl
    have lV:wr.cell? ⟨bb,ob+k*5,none⟩=some (.string (Name.AQ n2)):=hcb 0 _ rfl
    have tK:wr.cell? ⟨ba,oa+k*5+1,none⟩=some (.slice A1 l1 c1):=iT 1 _ rfl
    have tL:wr.cell? ⟨bb,ob+k*5+1,none⟩=some (.slice A2 l2 c2):=hcb 1 _ rfl
    have tN:wr.cell? ⟨ba,oa+k*5+2,none⟩=some (.int .i64 s1):=iT 2 _ rfl
    have tO:wr.cell? ⟨bb,ob+k*5+2,none⟩=some (.int .i64 s2):=hcb 2 _ rfl
    have tQ:wr.cell? ⟨ba,oa+k*5+3,none⟩=some (.int .i64 d1):=iT 3 _ rfl
    have tT:wr.cell? ⟨bb,ob+k*5+3,none⟩=some (.int .i64 d2):=hcb 3 _ rfl
    have tV:wr.cell? ⟨ba,oa+k*5+4,none⟩=some (.bool g1):=iT 4 _ rfl
    have tX:wr.cell? ⟨bb,ob+k*5+4,none⟩=some (.bool g2):=hcb 4 _ rfl
    have HA2:=Lib.hid (((Below.refl wr.heap.size wr).alloc (Nat.le_refl _) (.cells #[.string (Name.AQ n1),.slice A1 l1 c1,.int .i64 s1,.int .i64 d1,.bool g1] 36)).alloc (by simp) (.cells #[.string (Name.AQ n2),.slice A2 l2 c2,.int .i64 s2,.int .i64 d2,.bool g2] 36))
    have la:=block_lt_of_cell lU
    have lb:=block_lt_of_cell lV
    clear iT hcb Hf
    obtain⟨pv,hpv⟩:∃ pv,p ⟨⟨n1,b1,s1,d1,g1⟩,A1,l1,c1⟩ ⟨⟨n2,b2,s2,d2,g2⟩,A2,l2,c2⟩=pv:=⟨_,rfl⟩
    rw[hpv]at Yz Hy Hz
    clear hpv
    go_wp2_with fail
    refine (Yz.out _ (Gf.out.trans (HA2.out.mono Gf.out.size))).mono ?_
    rintro e w1 ⟨rfl,hb1⟩
    have Hb1:=Lib.hid (Gf.out.trans (CG HA2.out hb1 |>.mono Gf.out.size))
    clear hb1
    cases pv with
    | true=>
     have Hi:=Lib.hid (Hz.out rfl)
     go_wp2_with fail
     go_roundw
     case rel=>exact⟨k+1,by omega,by go_num,Hi.out,Hb1.out⟩
     case measure=>simp[intOf];omega
    | false=>
     have Hi:=Lib.hid (Hy.out rfl)
     go_wp2_with fail
     go_ret
     exact⟨DX Hi.out.symm,Hb1.out⟩
   ·have Hi:=Lib.hid (AAK (p:=p) (by rw[Hn.out,Hm.out]) (show k=xs.length by rw[Hn.out];omega) FU.out)
    go_wp2_with fail
    go_ret
    exact⟨DX Hi.out.symm,Gf.out⟩
 ·have Hi:=Lib.hid (ADS (p:=p) (a:=xs) (b:=ys) (by rw[Hn.out,Hm.out];exact hnm))
  have hne:decide ((n:Int)=(m:Int))=false:=decide_eq_false (by omega)
  have hni:¬ (n:Int)=(m:Int):=by omega
  clear hnm
  go_enter Tryz.func49,Tryz.ntmps49
  go_wp2_with fail
  go_ret
  exact⟨DX Hi.out.symm,Below.refl _ _⟩
end Go.Proofs.YtabdianhoabhhaaGreatDoor.Merge
namespace Go.Proofs.YtabdianhoabhhaaGreatDoor.Merge
open Go Go.RowKit Go.Proofs.YtabdianhoabhhaaGreatDoor Go.Proofs.YtabdianhoabhhaaGreatDoor.Name
set_option linter.unusedVariables false
theorem ZW (A:Option Addr) (n c k:Nat) (hk:k≤n) (w:World):(Instr.slice 22 (.slice A n c) (some (.int .i64 (k:Int))) none none).run Tryz.prog w=.ok (sliced A k n c 5) w:=by
 have ht:Tryz.prog.underlying 22=some (.slice (Tryz.prog.elem 22)):=by kernel_rfl
 have he:Tryz.prog.elem 22=36:=by kernel_rfl
 rw[run_slice_l _ _ _ _ _ ht .i64 (k:Int) (by omega) (by omega),he,Tryz.sizeOf36]
 simp[Result.andThen]
def adv (A:Option Addr) (c:Nat):Option Addr:=if c=1 then A else A.map (·.add 5)
theorem TT {w:World} {A:Option Addr} {n c:Nat} {x:Fx} {l:List Fx} (h:CL w (.slice A n c) (x :: l)) :
  (∀ w',(Instr.slice 22 (.slice A n c) (some (.int .i64 1)) none none).run Tryz.prog w'=.ok (.slice (adv A c) (n - 1) (c - 1)) w')∧CL w (.slice (adv A c) (n - 1) (c - 1)) l∧n=l.length+1:=by
 obtain⟨A0,c0,e,h1,h2,h3,h4,h5⟩:=h
 injection e with e1 e2 e3
 subst e1 e2 e3
 refine⟨fun w'=>?_,?_,rfl⟩
 ·have:=ZW A (x :: l).length c 1 (by simp) w'
  rw[show ((1:Nat):Int)=1 from rfl]at this
  rw[this]
  rfl
 ·refine⟨adv A c,c - 1,by simp,by simp at h1;omega,by omega,?_,?_,fun y hy=>h5 y (by simp[hy])⟩
  ·by_cases hl:l=[]
   ·subst hl;exact AR.nil
   ·have hlen:=List.length_pos_iff.2 hl
    obtain⟨b,o,e,_⟩:=h3 (by rw[Ki];simp)
    subst e
    have hc:¬ c=1:=by simp at h1;omega
    unfold adv
    rw[if_neg hc]
    show AR w (some ((⟨b,o,none⟩:Addr).add 5)) (l.flatMap fC)
    rw[addr_add]
    have:=h3.drop 5
    rw[List.flatMap_cons,List.drop_append_of_le_length (by rw[Kj];exact Nat.le_refl _),List.drop_of_length_le (by rw[Kj];exact Nat.le_refl _)]at this
    exact this
  ·intro e
   unfold adv at e
   split at e
   ·cases h4 e
   ·cases A with
    | none=>cases h4 rfl
    | some a=>cases e
end Go.Proofs.YtabdianhoabhhaaGreatDoor.Merge
namespace Go.Proofs.YtabdianhoabhhaaGreatDoor.Kv
open Go Go.RowKit Go.Proofs.YtabdianhoabhhaaGreatDoor
set_option linter.unusedVariables false
theorem ty:Bo Tryz.prog 22 36 ((.agg #[.string ByteArray.empty,.slice none 0 0,.int .i64 0,.int .i64 0,.bool false])) 5 64:=⟨Tryz.underlying22,by kernel_rfl,rfl,by omega⟩
theorem DI (z:Array Value) (n:Nat):(Builtin.zeroCells z n).size=n*z.size:=by simp[Builtin.zeroCells]
set_option maxHeartbeats 400000 in
theorem MJ (n:Nat) (w:World) (hn:n*64≤140737488355328) :
  Calls Tryz.prog 115 #[.slice none 0 0,.int .i64 (n:Int)] w fun e w'=>∃ v,e=.returned v∧w'.ownsRow w.heap.size 36 5 v 0 []∧Below w.heap.size w w':=by
 by_cases h0:n=0
 ·subst h0
  go_enter Tryz.func115,Tryz.ntmps115
  go_wp2_with fail
  go_ret
  exact⟨_,rfl,World.ownsRow_nil _ _ _ _,Below.refl _ _⟩
 ·obtain⟨ht,i,hi,hz,hsize,hby,hzs,hsz⟩:=ty.parts
  have hpos:0 < n:=by omega
  have h1:¬ ((n:Int) < 0):=by omega
  have hp:(0:Int) < (n:Int):=by omega
  have AGJ:(n:Int)≤140737488355328:=by omega
  have hrun:=Lib.run_append_nil_zeros (P:=Tryz.prog) w 22 3 22 36 i ((.agg #[.string ByteArray.empty,.slice none 0 0,.int .i64 0,.int .i64 0,.bool false])) .i64 .i64 ht Tryz.underlying3 hi hz n hpos (by omega) (by omega) (by rw[hby];omega)
  have hcap:=grownCap_ge w n 0 36
  have hcm:=grownCap_le_maxLen w n 0 36 (by unfold maxLen;omega)
  have hsz2:(Builtin.zeroCells (Value.cells ((.agg #[.string ByteArray.empty,.slice none 0 0,.int .i64 0,.int .i64 0,.bool false]))) n++Builtin.zeroCells (Value.cells ((.agg #[.string ByteArray.empty,.slice none 0 0,.int .i64 0,.int .i64 0,.bool false]))) (grownCap w n 0 36 - n)).size=grownCap w n 0 36*5:=by
   rw[Array.size_append,DI,DI,hzs,←Nat.add_mul,Nat.add_sub_cancel' hcap]
  have hblk:(w.drew.alloc (.cells (Builtin.zeroCells (Value.cells ((.agg #[.string ByteArray.empty,.slice none 0 0,.int .i64 0,.int .i64 0,.bool false]))) n++Builtin.zeroCells (Value.cells ((.agg #[.string ByteArray.empty,.slice none 0 0,.int .i64 0,.int .i64 0,.bool false]))) (grownCap w n 0 36 - n)) 36)).heap[w.heap.size]?=some (.cells (Builtin.zeroCells (Value.cells ((.agg #[.string ByteArray.empty,.slice none 0 0,.int .i64 0,.int .i64 0,.bool false]))) n++Builtin.zeroCells (Value.cells ((.agg #[.string ByteArray.empty,.slice none 0 0,.int .i64 0,.int .i64 0,.bool false]))) (grownCap w n 0 36 - n)) 36 (0,0)):=heap_alloc_new w.drew _
  have hbel:Below w.heap.size w (w.drew.alloc (.cells (Builtin.zeroCells (Value.cells ((.agg #[.string ByteArray.empty,.slice none 0 0,.int .i64 0,.int .i64 0,.bool false]))) n++Builtin.zeroCells (Value.cells ((.agg #[.string ByteArray.empty,.slice none 0 0,.int .i64 0,.int .i64 0,.bool false]))) (grownCap w n 0 36 - n)) 36)):=((Below.refl _ _).drew).alloc (Nat.le_refl _) _
  generalize (w.drew.alloc (.cells (Builtin.zeroCells (Value.cells ((.agg #[.string ByteArray.empty,.slice none 0 0,.int .i64 0,.int .i64 0,.bool false]))) n++Builtin.zeroCells (Value.cells ((.agg #[.string ByteArray.empty,.slice none 0 0,.int .i64 0,.int .i64 0,.bool false]))) (grownCap w n 0 36 - n)) 36))=W at *
  generalize (Builtin.zeroCells (Value.cells ((.agg #[.string ByteArray.empty,.slice none 0 0,.int .i64 0,.int .i64 0,.bool false]))) n++Builtin.zeroCells (Value.cells ((.agg #[.string ByteArray.empty,.slice none 0 0,.int .i64 0,.int .i64 0,.bool false]))) (grownCap w n 0 36 - n))=cs at *
  generalize grownCap w n 0 36=cap at *
  have Sd:=Lib.hid hrun
  have Ou:=Lib.hid hsz2
  have Et:=Lib.hid hblk
  have tC:=Lib.hid hbel
  have hcm2:cap≤9223372036854775807:=by unfold maxLen at hcm;omega
  have Hcm:=Lib.hid hcm
  clear hrun hsz2 hblk hbel hi hz hsize hby hzs hsz ht hcm
  go_enter Tryz.func115,Tryz.ntmps115
  go_wp2_with (at_builtin;refine Lib.wpList_append_run _ rfl (.tmp 20) (.tmp 21) _ _ rfl _ _ rfl rfl _ _ Sd.out ?_)
  go_ret
  exact⟨_,rfl,Gv _ _ _ _ w.heap.size cap cs (Nat.le_refl _) Et.out Hcm.out Ou.out,tC.out⟩
def total (rows:List (Value×Nat×List Value)):Nat:=(rows.map (·.2.1)).sum
def cellsOf (rows:List (Value×Nat×List Value)):List Value:=(rows.map (·.2.2)).flatten
theorem Eu (rows:List (Value×Nat×List Value)) (k:Nat) (h:k < rows.length):total (rows.take (k+1))=total (rows.take k)+rows[k].2.1:=by
 unfold total;rw[BI _ _ h]
 simp only[List.map_append,List.map_cons,List.map_nil,List.sum_append,List.sum_cons,List.sum_nil,Nat.add_zero]
theorem GJ (rows:List (Value×Nat×List Value)) (k:Nat) (h:k < rows.length):cellsOf (rows.take (k+1))=cellsOf (rows.take k)++rows[k].2.2:=by
 unfold cellsOf;rw[BI _ _ h]
 simp only[List.map_append,List.map_cons,List.map_nil,List.flatten_append,List.flatten_cons,List.flatten_nil,List.append_nil]
theorem G7 (l:List Nat) (k:Nat):(l.take k).sum≤l.sum:=by
 induction l generalizing k with
 | nil=>simp
 | cons a l ih=>cases k with
  | zero=>simp
  | succ k=>simp only[List.take_succ_cons,List.sum_cons];have:=ih k;omega
theorem G8 (rows:List (Value×Nat×List Value)) (k:Nat):total (rows.take k)≤total rows:=by
 unfold total;rw[List.map_take];exact G7 _ _
set_option maxHeartbeats 800000 in
theorem I9 (A:Option Addr) (m c:Nat) (rows:List (Value×Nat×List Value)) (w:World) (hm:rows.length=m) (rJ:m≤4611686018427387904) (ha:AR w A (rows.map (·.1)))
  (hrows:∀ r∈rows,Od w 5 r.1 r.2.1 r.2.2) (h1:∀ r∈rows,∀ u∈r.2.2,u.oneCell'=true) (ht:total rows*64≤140737488355328) :
  Calls Tryz.prog 77 #[.slice A m c] w fun e w'=>∃ v,e=.returned v∧w'.ownsRow w.heap.size 36 5 v (total rows) (cellsOf rows)∧Below w.heap.size w w':=by
 have Hm:=Lib.hid hm
 have Ha:=Lib.hid ha
 have Qq:=Lib.hid hrows
 have H1:=Lib.hid h1
 have Ht:=Lib.hid ht
 clear hm ha hrows h1 ht
 go_enter Tryz.func77,Tryz.ntmps77
 go_wp2_with fail
 go_loop [3,11] (fun s i=>∃ k:Nat,k≤m∧i=.int .i64 k∧s=.int .i64 (total (rows.take k):Nat)) (fun _ i=>m - (intOf i).toNat)
 case atStart=>exact⟨0,Nat.zero_le _,rfl,rfl⟩
 case round=>
  obtain⟨k,hk,rfl,rfl⟩:=hrel
  by_cases hlt:k < m
  ·have hkr:k < rows.length:=by rw[Hm.out];exact hlt
   obtain⟨b,o,rfl,hcell⟩:=Ha.out.get (k:=k) (by simpa using hkr)
   obtain⟨B,cb,hv,hl1,hl2,hl3,hB,hB0⟩:=Qq.out rows[k] (List.getElem_mem hkr)
   simp only[List.getElem_map]at hcell
   rw[hv]at hcell
   have Hs:=Lib.hid (Eu rows k hkr)
   have htl:=G8 rows (k+1)
   rw[Hs.out]at htl
   have hb1:total (rows.take k)+rows[k].2.1≤140737488355328:=by have:=Ht.out;omega
   have hnn:0≤((total (rows.take k):Nat):Int)+((rows[k].2.1:Nat):Int):=by omega
   clear htl hB hB0 hl3 hv
   generalize total (rows.take k)=s0 at *
   generalize rows[k].2.1=n0 at *
   go_wp2_with fail
   go_round
   case rel=>exact⟨k+1,by omega,by go_num,by rw[Hs.out];go_num⟩
   case measure=>simp[intOf];omega
  ·have hk2:k=m:=by omega
   have FU:Hid (rows.take k=rows):=Lib.hid (List.take_of_length_le (by rw[Hm.out];omega))
   rw[FU.out]
   have htt:total rows≤140737488355328:=by have:=Ht.out;omega
   obtain⟨T,hT⟩:∃ T,T=total rows:=⟨_,rfl⟩
   rw[←hT]at htt⊢
   have HT:=Lib.hid hT
   clear hT FU hk2
   go_wp2_with fail
   refine (MJ T _ (by rw[HT.out];exact Ht.out)).mono ?_
   rintro e w1 ⟨v1,rfl,hown1,hb1⟩
   have Ho:=Lib.hid hown1
   have Hb:=Lib.hid hb1
   clear hown1 hb1
   go_wp2_with fail
   go_loopw [6,27] (fun s i wr=>∃ k:Nat,k≤m∧i=.int .i64 k∧wr.ownsRow w.heap.size 36 5 s (total (rows.take k)) (cellsOf (rows.take k))∧Below w.heap.size w wr) (fun _ i _=>m - (intOf i).toNat)
   case atStart=>exact⟨0,Nat.zero_le _,rfl,Ho.out,Hb.out⟩
   case round=>
    obtain⟨k,hk,rfl,hown,hbr⟩:=hrel
    rename_i v3 _ _ _ _ _ _ _ _ _
    have How:=Lib.hid hown
    have Gf:=Lib.hid hbr
    by_cases hlt:k < m
    ·have hkr:k < rows.length:=by rw[Hm.out];exact hlt
     obtain⟨b,o,rfl,hcell⟩:=(Ha.out.below hbr).get (k:=k) (by simpa using hkr)
     obtain⟨B,cb,hv,hl1,hl2,hl3,hB,hB0⟩:=(Qq.out rows[k] (List.getElem_mem hkr)).below hbr
     simp only[List.getElem_map]at hcell
     rw[hv]at hcell
     have Hs:=Lib.hid (Eu rows k hkr)
     have Hcs:=Lib.hid (GJ rows k hkr)
     have htl:=G8 rows (k+1)
     rw[Hs.out]at htl
     have hb1:total (rows.take k)+rows[k].2.1≤maxLen∧(total (rows.take k)+rows[k].2.1)*64≤140737488355328:=by
      have:=Ht.out;unfold maxLen;omega
     have HB:=Lib.hid hB
     have HB0:=Lib.hid hB0
     have ax:=Lib.hid hl3
     have Lg:=Lib.hid (H1.out rows[k] (List.getElem_mem hkr))
     have Hb1:=Lib.hid hb1
     clear htl hv hB hB0 hl3 hb1 hown hbr
     go_wp2_with (at_builtin;refine Lu rfl (.tmp 31) (.tmp 32) _ rfl 36 _ 5 64 ty _ _ _ rfl How.out Gf.out B _ cb _ rfl ax.out HB.out Lg.out HB0.out Hb1.out.1 Hb1.out.2 ?_;intro v4 w4 DD hb4 _ _;have tF:=Lib.hid DD;have Hb4:=Lib.hid hb4;clear DD hb4)
     go_roundw
     case rel=>exact⟨k+1,by omega,by go_num,by rw[Hs.out,Hcs.out];exact tF.out,Hb4.out⟩
     case measure=>simp[intOf];omega
    ·have FU:Hid (rows.take k=rows):=Lib.hid (List.take_of_length_le (by rw[Hm.out];omega))
     go_wp2_with fail
     go_ret
     exact⟨_,rfl,by have:=How.out;rw[FU.out]at this;exact this,Gf.out⟩
end Go.Proofs.YtabdianhoabhhaaGreatDoor.Kv
namespace Go.Proofs.YtabdianhoabhhaaGreatDoor.Merge
open Go Go.RowKit Go.Proofs.YtabdianhoabhhaaGreatDoor Go.Proofs.YtabdianhoabhhaaGreatDoor.Name
set_option linter.unusedVariables false
theorem KN {P:Program} {ops:Array Oper} {o:Oper} {a:Act} {w:World} {K:Act→World→Prop} {Q:Exit→Act→World→Prop} {E:Prop} (hgd:o.guard=none) (s x:Operand) (t:TypeId)
  (hop:o.op=.call { callee:=.builtin .append,args:=#[s,x],argTypes:=#[t,t] })
  (base:Nat) (e:TypeId) (z:Value) (size bytes:Nat) (hT:Bo P t e z size bytes)
  (v:Value) (n:Nat) (xs:List Value) (hs:a.eval s=v) (hown:w.ownsRow base e size v n xs)
  (A:Option Addr) (m c:Nat) (news:List Value) (hx:a.eval x=.slice A m c) (hl:news.length=m*size) (hr:AR w A news) (h1:∀ u∈news,u.oneCell'=true)
  (hA:A=none→m=0) (h63:n+m≤maxLen) (hbytes:(n+m)*bytes≤140737488355328) (hbase:base≤w.heap.size)
  (hK:∀ v' w',w'.ownsRow base e size v' (n+m) (xs++news)→w.grownBy w' v.ownBlock→K (a.put o.dst v') w') :
  if Region.wanted o (yielded ops a.tmps)=true then Oper.wp P o a w K Q else E:=by
 have hw:Region.wanted o (yielded ops a.tmps)=true:=by simp[Region.wanted,hgd]
 rw[if_pos hw]
 obtain⟨v',w',hrun,h2,h3,h4⟩:=GI (P:=P) w base t o.type e z size bytes hT v n xs hown A m c news hl hr h1 hA h63 hbytes hbase
 unfold Oper.wp
 simp[execOp,hop,resolve,invoke,builtin,hs,hx,hrun,Result.andThen]
 exact hK v' w' h2 h3
def ZX (am bm:List Fl) (w:World) (e:Ending) (w':World):Prop:=
 ∃ v l',e=.returned (.tuple #[v,.int .i64 (Br am bm).1])∧FT w' w.heap.size v l'∧l'.map Prod.fst=(Br am bm).2∧Below w.heap.size w w'
theorem AAl {am bm:List Fl} (h:Be am≠0):Br am bm=(Be am,[]):=by unfold Br;rw[if_pos h]
theorem AAm {am bm:List Fl} (h:Be am=0) (h2:Be bm≠0):Br am bm=(Be bm,[]):=by unfold Br;rw[if_neg (by simpa using h),if_pos h2]
theorem AAn {am bm:List Fl} (h:Be am=0) (h2:Be bm=0) (h3:12 < (CJ am bm).length):Br am bm=(11,[]):=by unfold Br;rw[if_neg (by simpa using h),if_neg (by simpa using h2),if_pos h3]
theorem AAo {a b:Fl} (h:later a b < 0):Gl a b=b:=by unfold Gl;rw[if_pos h]
theorem AAp {a b:Fl} (h:¬ later a b < 0):Gl a b=a:=by unfold Gl;rw[if_neg h]
theorem O7 {w w':World} (hb:Below w.heap.size w w') {p0 p1 p2 p3 p4:Addr} {v0 v1 v2 v3 v4:Value} (h:w.cell? p0=some v0∧w.cell? p1=some v1∧w.cell? p2=some v2∧w.cell? p3=some v3∧w.cell? p4=some v4) :
  w'.cell? p0=some v0∧w'.cell? p1=some v1∧w'.cell? p2=some v2∧w'.cell? p3=some v3∧w'.cell? p4=some v4:=
 ⟨cell_below hb h.1,cell_below hb h.2.1,cell_below hb h.2.2.1,cell_below hb h.2.2.2.1,cell_below hb h.2.2.2.2⟩
theorem AGx {α:Type} {os ar br:List α} {x:α} (u:α) (hu:u∈os++[x]∨u∈ar∨u∈br):u∈os∨u∈x :: ar∨u∈br:=by
 simp at hu⊢;rcases hu with (h | h) | h | h <;> simp[h]
theorem AGy {α:Type} {os ar br:List α} {y:α} (u:α) (hu:u∈os++[y]∨u∈ar∨u∈br):u∈os∨u∈ar∨u∈y :: br:=by
 simp at hu⊢;rcases hu with (h | h) | h | h <;> simp[h]
theorem ACO {α:Type} {os ar br:List α} {x y f:α} (hf:f=x∨f=y) (u:α) (hu:u∈os++[f]∨u∈ar∨u∈br):u∈os∨u∈x :: ar∨u∈y :: br:=by
 simp at hu⊢;rcases hu with (h | h) | h | h
 ·simp[h]
 ·rcases hf with rfl | rfl <;> simp[h]
 ·simp[h]
 ·simp[h]
def nA:Value→Nat | .slice _ n _=>n | _=>0
theorem tyF:Bo Tryz.prog 22 36 (.agg #[.string ByteArray.empty,.slice none 0 0,.int .i64 0,.int .i64 0,.bool false]) 5 64:=⟨Tryz.underlying22,by kernel_rfl,rfl,by omega⟩
set_option maxRecDepth 100000 in
set_option maxHeartbeats 4000000 in
theorem Ov (v1 v2:Value) (a b:List Fx) (w:World) (hm:ML w) (h1:CL w v1 a) (h2:CL w v2 b) :
  Calls Tryz.prog 55 #[v1,v2] w (ZX (a.map Prod.fst) (b.map Prod.fst) w):=by
 have HC1:=Lib.hid (fun w' (hb:Below w.heap.size w w')=>Fy v1 a w' (hm.below hb) (h1.below hb))
 have HC2:=Lib.hid (fun w' (hb:Below w.heap.size w w')=>Fy v2 b w' (hm.below hb) (h2.below hb))
 have H1:=Lib.hid h1
 have H2:=Lib.hid h2
 obtain⟨A,c,rfl,_⟩:=h1
 obtain⟨B,d,rfl,_⟩:=h2
 obtain⟨n,hn⟩:∃ n,n=a.length:=⟨_,rfl⟩
 obtain⟨m,hm'⟩:∃ m,m=b.length:=⟨_,rfl⟩
 have Hn:=Lib.hid hn
 have Hm:=Lib.hid hm'
 have HR1:=Lib.hid (AAl (am:=a.map Prod.fst) (bm:=b.map Prod.fst))
 have HR2:=Lib.hid (AAm (am:=a.map Prod.fst) (bm:=b.map Prod.fst))
 have HR3:=Lib.hid (AAn (am:=a.map Prod.fst) (bm:=b.map Prod.fst))
 have HR4:=Lib.hid (Sz (a:=a.map Prod.fst) (b:=b.map Prod.fst))
 have VT:Hid (Be (a.map Prod.fst)=0→a.length≤12∧∀ x∈a,x.1.bytes.length≤3000):=Lib.hid (fun h=>by
  rw[NH]at h
  refine⟨by have:=h.1;rwa [List.length_map]at this,fun x hx=>?_⟩
  have:=h.2.1 x.1 (List.mem_map_of_mem hx)
  unfold ET at this
  split at this
  ·rename_i g;exact absurd this g
  ·split at this
   ·simp at this
   ·omega)
 have Fv:Hid (Be (b.map Prod.fst)=0→b.length≤12∧∀ x∈b,x.1.bytes.length≤3000):=Lib.hid (fun h=>by
  rw[NH]at h
  refine⟨by have:=h.1;rwa [List.length_map]at this,fun x hx=>?_⟩
  have:=h.2.1 x.1 (List.mem_map_of_mem hx)
  unfold ET at this
  split at this
  ·rename_i g;exact absurd this g
  ·split at this
   ·simp at this
   ·omega)
 rw[←hn]at HC1 H1⊢
 rw[←hm']at HC2 H2⊢
 clear hm hn hm'
 unfold ZX
 generalize hR:Br (a.map Prod.fst) (b.map Prod.fst)=R at *
 clear hR
 have i0:∀ w,(Instr.index 124 (.agg #[.slice A n c,.slice B m d]) (.int .i64 0)).run Tryz.prog w=.ok (.slice A n c) w:=fun _=>by kernel_rfl
 have i1:∀ w,(Instr.index 124 (.agg #[.slice A n c,.slice B m d]) (.int .i64 1)).run Tryz.prog w=.ok (.slice B m d) w:=fun _=>by kernel_rfl
 go_enter Tryz.func55,Tryz.ntmps55
 go_wp2_with fail
 go_loopw [15] (fun i wx=>∃ k:Nat,k≤2∧i=.int .i64 (k:Int)∧Below w.heap.size w wx∧(1≤k→Be (a.map Prod.fst)=0)∧(2≤k→Be (b.map Prod.fst)=0)) (fun i _=>2 - (intOf i).toNat)
 case atStart=>exact⟨0,Nat.zero_le _,rfl,Below.refl _ _,by simp,by simp⟩
 case round=>
  obtain⟨k,hk,rfl,hb,h1,h2⟩:=hrel
  have Hb:=Lib.hid hb
  have K1:=Lib.hid h1
  have K2:=Lib.hid h2
  clear hb h1 h2
  rcases (by omega:k=0∨k=1∨k=2) with rfl | rfl | rfl
  ·go_wp2_with fail
   refine (HC1.out _ Hb.out).mono ?_
   rintro e wx ⟨rfl,hbx⟩
   have Ec:=Lib.hid (CG Hb.out hbx)
   clear hbx
   by_cases he:Be (a.map Prod.fst)=0
   ·rw[he]
    go_wp2_with fail
    go_roundw
    case rel=>exact⟨1,by omega,by go_num,Ec.out,fun _=>he,by simp⟩
    case measure=>simp[intOf]
   ·have HU:=Lib.hid (HR1.out he)
    generalize Be (a.map Prod.fst)=z at *
    have hz1:(z != 0)=true:=by simpa using he
    go_wp2_with fail
    go_ret2
    exact⟨_,[],by rw[HU.out];rfl,FT.nil _ _,by rw[HU.out];rfl,Ec.out⟩
  ·have hs0:=K1.out (Nat.le_refl _)
   go_wp2_with fail
   refine (HC2.out _ Hb.out).mono ?_
   rintro e wx ⟨rfl,hbx⟩
   have Ec:=Lib.hid (CG Hb.out hbx)
   clear hbx
   by_cases he:Be (b.map Prod.fst)=0
   ·rw[he]
    go_wp2_with fail
    go_roundw
    case rel=>exact⟨2,by omega,by go_num,Ec.out,fun _=>hs0,fun _=>he⟩
    case measure=>simp[intOf]
   ·have HU:=Lib.hid (HR2.out hs0 he)
    generalize Be (b.map Prod.fst)=z at *
    have hz1:(z != 0)=true:=by simpa using he
    go_wp2_with fail
    go_ret2
    exact⟨_,[],by rw[HU.out];rfl,FT.nil _ _,by rw[HU.out];rfl,Ec.out⟩
  ·have iT:=K1.out (by omega)
   have hcb:=K2.out (by omega)
   have Ye:=Lib.hid (HR3.out iT hcb)
   have LW:=Lib.hid (HR4.out iT hcb)
   obtain⟨AMj,_⟩:=VT.out iT
   obtain⟨QJ,_⟩:=Fv.out hcb
   have YM:Hid (∀ x:Fx,(x∈a∨x∈b)→x.1.bytes.length≤3000):=Lib.hid (fun x hx=>by
    rcases hx with h | h
    ·exact (VT.out iT).2 x h
    ·exact (Fv.out hcb).2 x h)
   clear HR1 HR2 HR3 HR4 HC1 HC2 iT hcb K1 K2 VT Fv
   rw[show ((2:Nat):Int)=(2:Int) from rfl]
   go_wp2_with fail
   go_loopw [0,1,9] (fun va vb vo wx=>∃ ar br os:List Fx,CL w va ar∧CL w vb br∧wx.ownsRow w.heap.size 36 5 vo os.length (os.flatMap fC)∧(∀ x∈os,D9 w x)∧
    (∀ x:Fx,(x∈os∨x∈ar∨x∈br)→(x∈a∨x∈b))∧
    CJ (a.map Prod.fst) (b.map Prod.fst)=os.map Prod.fst++CJ (ar.map Prod.fst) (br.map Prod.fst)∧os.length+ar.length+br.length≤24∧Below w.heap.size w wx) (fun va vb _ _=>nA va+nA vb)
   case atStart=>exact⟨a,b,[],H1.out,H2.out,World.ownsRow_nil _ _ _ _,by simp,by simp,rfl,by simp;omega,Hb.out⟩
   case round=>
    obtain⟨ar,br,os,hfa,hfb,hown,hos,hmem,heq,hlen,hbx⟩:=hrel
    have Hfa:=Lib.hid hfa
    have Hfb:=Lib.hid hfb
    have DF:=Lib.hid hown
    have Hos:=Lib.hid hos
    have nD:=Lib.hid hmem
    have Heq:=Lib.hid heq
    have Hlen:=Lib.hid hlen
    have Ec:=Lib.hid hbx
    clear hfa hfb hown hos hmem heq hlen hbx Hb
    obtain⟨A1,c1,rfl,ha1,ha2,hsa,ha0,hda⟩:=Hfa.out
    obtain⟨B1,d1,rfl,hb1,hb2,hsb,hb0,hdb⟩:=Hfb.out
    have Hsa:=Lib.hid hsa
    have Hsb:=Lib.hid hsb
    have Ha0:=Lib.hid ha0
    have Hb0:=Lib.hid hb0
    have Hda:=Lib.hid hda
    have Hdb:=Lib.hid hdb
    have zY:=Lib.hid (And.intro ha1 ha2)
    have VJ:=Lib.hid (And.intro hb1 hb2)
    clear hsa hsb ha0 hb0 hda hdb ha1 ha2 hb1 hb2
    by_cases hz:ar=[]∨br=[]
    ·obtain⟨Ao,co,rfl,_,_,_,_⟩:=Ag DF.out
     have Hfs:Hid (∀ w',Below w.heap.size w w'→∀ x∈os++ar++br,D9 w' x):=Lib.hid (fun w' hb x hx=>by
      rcases List.mem_append.1 hx with hx | hx
      ·rcases List.mem_append.1 hx with hx | hx
       ·exact (Hos.out x hx).below hb
       ·exact (Hda.out x hx).below hb
      ·exact (Hdb.out x hx).below hb)
     have Hbl:Hid (∀ x∈os++ar++br,x.1.bytes.length≤3000):=Lib.hid (fun x hx=>by
      refine YM.out x (nD.out x ?_)
      simpa [or_assoc] using hx)
     have AAq:Hid (CJ (a.map Prod.fst) (b.map Prod.fst)=(os++ar++br).map Prod.fst):=Lib.hid (by
      rw[Heq.out,List.map_append,List.map_append,List.append_assoc]
      congr 1
      rcases hz with h | h
      ·rw[h];simp[FV]
      ·rw[h];simp[NI])
     obtain⟨an,han⟩:∃ an,an=ar.length:=⟨_,rfl⟩
     obtain⟨bn,hbn⟩:∃ bn,bn=br.length:=⟨_,rfl⟩
     have Han:=Lib.hid han
     have kV:=Lib.hid hbn
     rw[←han]at zY⊢
     rw[←hbn]at VJ⊢
     clear han hbn
     have hz2:an=0∨(0 < an∧bn=0):=by
      rcases hz with h | h
      ·left;rw[Han.out,h];rfl
      ·rcases Nat.eq_zero_or_pos an with h2 | h2
       ·exact .inl h2
       ·exact .inr ⟨h2,by rw[kV.out,h];rfl⟩
     clear hz
     have HC:Hid (∀ w',Below wr.heap.size wr w'→AR w' (some ⟨wr.heap.size,0,none⟩) [.slice Ao os.length co,.slice A1 an c1,.slice B1 bn d1]→Calls Tryz.prog 77 #[.slice (some ⟨wr.heap.size,0,none⟩) 3 3] w' fun e w2=>∃ v,e=.returned v∧CL w2 v (os++ar++br)∧Below w'.heap.size w' w2):=Lib.hid (fun w' hb hs=>by
      have hbw:=Ec.out.trans (hb.mono Ec.out.size)
      refine (Kv.I9 (some ⟨wr.heap.size,0,none⟩) 3 3 [(.slice Ao os.length co,os.length,os.flatMap fC),(.slice A1 an c1,an,ar.flatMap fC),(.slice B1 bn d1,bn,br.flatMap fC)] w' rfl (by omega) hs ?_ ?_ ?_).mono ?_
      ·intro r hr
       simp only[List.mem_cons,List.not_mem_nil,or_false]at hr
       rcases hr with rfl | rfl | rfl
       ·obtain⟨A9,c9,h1,h2,h3,h4,h5⟩:=Ag DF.out
        exact⟨A9,c9,h1,h2,h3,Ki _,AR.below h4 hb,h5⟩
       ·exact⟨A1,c1,rfl,zY.out.1,zY.out.2,by rw[Ki,Han.out],AR.below Hsa.out hbw,fun e=>by rw[Han.out,Ha0.out e];rfl⟩
       ·exact⟨B1,d1,rfl,VJ.out.1,VJ.out.2,by rw[Ki,kV.out],AR.below Hsb.out hbw,fun e=>by rw[kV.out,Hb0.out e];rfl⟩
      ·intro r hr
       simp only[List.mem_cons,List.not_mem_nil,or_false]at hr
       rcases hr with rfl | rfl | rfl <;> exact XC _
      ·simp only[Kv.total,List.map_cons,List.map_nil,List.sum_cons,List.sum_nil]
       have h1:=Hlen.out
       have h2:=Han.out
       have h3:=kV.out
       omega
      ·rintro e w2 ⟨v,rfl,hown2,hb2⟩
       refine⟨v,rfl,P5 (base:=w'.heap.size) (n:=Kv.total [(.slice Ao os.length co,os.length,os.flatMap fC),(.slice A1 an c1,an,ar.flatMap fC),(.slice B1 bn d1,bn,br.flatMap fC)]) ?_ ?_ (fun x hx=>Hfs.out _ (hbw.trans (hb2.mono hbw.size)) x hx),hb2⟩
       ·have e1:Kv.cellsOf [(.slice Ao os.length co,os.length,os.flatMap fC),(.slice A1 an c1,an,ar.flatMap fC),(.slice B1 bn d1,bn,br.flatMap fC)]=(os++ar++br).flatMap fC:=by simp[Kv.cellsOf]
        rw[e1]at hown2
        exact hown2
       ·simp[Kv.total,Han.out,kV.out])
     have Hnw:=Lib.hid ((Below.refl wr.heap.size wr).alloc (Nat.le_refl _) (.cells #[.slice Ao os.length co,.slice A1 an c1,.slice B1 bn d1] 22))
     have RO:Hid (AR (wr.alloc (.cells #[.slice Ao os.length co,.slice A1 an c1,.slice B1 bn d1] 22)) (some ⟨wr.heap.size,0,none⟩) [.slice Ao os.length co,.slice A1 an c1,.slice B1 bn d1]):=Lib.hid (AR.of_heap (heap_alloc_new _ _) rfl)
     have ax:Hid ((os++ar++br).length≤24):=Lib.hid (by have:=Hlen.out;simp;omega)
     obtain⟨rs,hrs⟩:∃ rs,rs=os++ar++br:=⟨_,rfl⟩
     rw[←hrs]at Hfs Hbl AAq HC ax
     clear hrs Heq Hlen nD YM Hos DF Hda Hdb Hsa Hsb Ha0 Hb0 Hfa Hfb Han kV zY VJ
     obtain⟨N,hN⟩:∃ N,N=rs.length:=⟨_,rfl⟩
     have HN:=Lib.hid hN
     clear hN
     rcases hz2 with rfl | ⟨hz3,rfl⟩
     all_goals (
      go_wp2_with fail
      refine (HC.out _ Hnw.out RO.out).mono ?_
      rintro e w2 ⟨v,rfl,hf2,hb2⟩
      have Hf2:=Lib.hid hf2
      have Hb2:=Lib.hid ((Ec.out.trans (Hnw.out.mono Ec.out.size)).trans (hb2.mono (by have:=Ec.out.size;have:=Hnw.out.size;omega)))
      clear hf2 hb2
      obtain⟨A2,c2,rfl,_⟩:=Hf2.out
      rw[←HN.out]at Hf2⊢
      by_cases h12:12 < N
      ·have HU:=Lib.hid (Ye.out (by rw[AAq.out,List.length_map,←HN.out];exact h12))
       go_wp2_with fail
       go_ret2
       exact⟨_,[],by rw[HU.out];rfl,FT.nil _ _,by rw[HU.out];rfl,Hb2.out⟩
      ·have HU:=Lib.hid (LW.out (by rw[AAq.out,List.length_map,←HN.out];omega))
       have HCo:=Lib.hid (rZ _ rs _ Hf2.out (by rw[←HN.out];omega) (fun x hx=>by have:=Hbl.out x hx;omega))
       go_wp2_with fail
       refine (HCo.out).mono ?_
       rintro e w3 ⟨v3,l3,rfl,ho3,he3,hb3⟩
       have Pv:=Lib.hid (ho3.Si Hb2.out.size)
       have He3:=Lib.hid he3
       have Hb3:=Lib.hid (Hb2.out.trans (hb3.mono Hb2.out.size))
       clear ho3 he3 hb3
       go_wp2_with fail
       go_ret2
       exact⟨_,l3,by rw[HU.out];rfl,Pv.out,by rw[HU.out,He3.out,AAq.out],Hb3.out⟩)
    ·obtain⟨x,ar',rfl⟩:∃ x l,ar=x :: l:=by
      cases ar with
      | nil=>exact absurd (.inl rfl) hz
      | cons x l=>exact⟨x,l,rfl⟩
     obtain⟨y,br',rfl⟩:∃ y l,br=y :: l:=by
      cases br with
      | nil=>exact absurd (.inr rfl) hz
      | cons x l=>exact⟨x,l,rfl⟩
     clear hz Ye LW YM
     obtain⟨htA,hfA,hnA⟩:=TT Hfa.out
     obtain⟨htB,hfB,hnB⟩:=TT Hfb.out
     have HfA:=Lib.hid hfA
     have HfB:=Lib.hid hfB
     have Hfx:Hid (D9 w x):=Lib.hid (Hda.out x (by simp))
     have Hfy:Hid (D9 w y):=Lib.hid (Hdb.out y (by simp))
     obtain⟨ba,oa,rfl,lU,tK,tN,tQ,tV⟩:=F7 Hsa.out (k:=0) (by simp)
     obtain⟨bb,ob,rfl,lV,tL,tO,tT,tX⟩:=F7 Hsb.out (k:=0) (by simp)
     simp only[Nat.zero_mul,Nat.add_zero,List.getElem_cons_zero]at lU tK tN tQ tV lV tL tO tT tX
     obtain⟨an,han⟩:∃ an,an=(x :: ar').length:=⟨_,rfl⟩
     obtain⟨bn,hbn⟩:∃ bn,bn=(y :: br').length:=⟨_,rfl⟩
     rw[←han]at htA HfA hnA Hfa⊢
     rw[←hbn]at htB HfB hnB Hfb⊢
     have HnA:=Lib.hid hnA
     have HnB:=Lib.hid hnB
     have ha1:0 < an:=by omega
     have hb1:0 < bn:=by omega
     have ha2:(0:Int) < (an:Int):=by omega
     have hb2:(0:Int) < (bn:Int):=by omega
     have ha3:decide ((0:Int) < (an:Int))=true:=decide_eq_true ha2
     have hb3:decide ((0:Int) < (bn:Int))=true:=decide_eq_true hb2
     have hle:os.length≤24:=by have:=Hlen.out;omega
     have AAr:Hid (os.length+ar'.length+br'.length+2≤24):=Lib.hid (by have:=Hlen.out;simp at this;omega)
     clear hfA hfB han hbn hnA hnB Hlen Hsa Hsb Ha0 Hb0 Hda Hdb
     obtain⟨⟨n1,b1,s1,d1,g1⟩,A3,l3,c3⟩:=x
     obtain⟨⟨n2,b2,s2,d2,g2⟩,A4,l4,c4⟩:=y
     simp only[Cj]at lU tK tN tQ tV lV tL tO tT tX
     have qa0:=fun p:Ap wr=>Ap.cell (show wr.cell? ⟨ba,oa,none⟩=_ from cell_below Ec.out lU) p
     have qb0:=fun p:Ap wr=>Ap.cell (show wr.cell? ⟨bb,ob,none⟩=_ from cell_below Ec.out lV) p
     have zY:=Lib.hid (And.intro lU (And.intro tK (And.intro tN (And.intro tQ tV))))
     have VJ:=Lib.hid (And.intro lV (And.intro tL (And.intro tO (And.intro tT tX))))
     clear lU tK tN tQ tV lV tL tO tT tX
     go_wp2_with fail
     refine La (by kernel_rfl) (by kernel_rfl) ?_
     repeat (quiet_step (first | exact Kw (N8 _ _ _)))
     refine wpQuiet_nil ?_
     intro wq hq
     have hbq:Below wr.heap.size wr wq:=by obtain⟨p,hp⟩:=hq;rw[hp];exact p.h
     have U0:=Lib.hid (Ec.out.trans (hbq.mono Ec.out.size))
     have jP:=Lib.hid (AP DF.out hbq)
     clear hq hbq qa0 qb0 Ec DF
     obtain⟨lU,tK,tN,tQ,tV⟩:=zY.out
     obtain⟨lV,tL,tO,tT,tX⟩:=VJ.out
     have ea0:=cell_below U0.out lU
     have ea1:=cell_below U0.out tK
     have ea2:=cell_below U0.out tN
     have ea3:=cell_below U0.out tQ
     have ea4:=cell_below U0.out tV
     have eb0:=cell_below U0.out lV
     have eb1:=cell_below U0.out tL
     have eb2:=cell_below U0.out tO
     have eb3:=cell_below U0.out tT
     have eb4:=cell_below U0.out tX
     clear lU tK tN tQ tV lV tL tO tT tX
     have HL:=Lib.hid (Rm (x:=(⟨n1,b1,s1,d1,g1⟩:Fl)) (y:=(⟨n2,b2,s2,d2,g2⟩:Fl)) (ar'.map Prod.fst) (br'.map Prod.fst))
     have HG:=Lib.hid (Rn (x:=(⟨n1,b1,s1,d1,g1⟩:Fl)) (y:=(⟨n2,b2,s2,d2,g2⟩:Fl)) (ar'.map Prod.fst) (br'.map Prod.fst))
     have HE:=Lib.hid (Ro (x:=(⟨n1,b1,s1,d1,g1⟩:Fl)) (y:=(⟨n2,b2,s2,d2,g2⟩:Fl)) (ar'.map Prod.fst) (br'.map Prod.fst))
     obtain⟨z,hz⟩:∃ z,cb n1 n2=z:=⟨_,rfl⟩
     have Hz:=Lib.hid hz
     rw[hz]
     clear hz
     rcases (by omega:z < 0∨0 < z∨z=0) with h | h | rfl
     ·have hd1:decide (z < 0)=true:=decide_eq_true h
      have hd2:decide (z > 0)=false:=decide_eq_false (by omega)
      have RP:Hid ((wq.drew.alloc (.cells #[.string (Name.AQ n1),.slice A3 l3 c3,.int .i64 s1,.int .i64 d1,.bool g1] 36)).ownsRow w.heap.size 36 5 u9 os.length (os.flatMap fC)):=Lib.hid ((I6 jP.out).alloc _)
      have Fe:Hid (Below w.heap.size w (wq.drew.alloc (.cells #[.string (Name.AQ n1),.slice A3 l3 c3,.int .i64 s1,.int .i64 d1,.bool g1] 36))):=Lib.hid (U0.out.drew.alloc U0.out.size _)
      have jQ:Hid (AR (wq.drew.alloc (.cells #[.string (Name.AQ n1),.slice A3 l3 c3,.int .i64 s1,.int .i64 d1,.bool g1] 36)) (some ⟨wq.heap.size,0,none⟩) [.string (Name.AQ n1),.slice A3 l3 c3,.int .i64 s1,.int .i64 d1,.bool g1]):=Lib.hid (AR.of_heap (heap_alloc_new _ _) rfl)
      go_wp2_with fail
      go_region_held3 (fun W=>W.cell? ⟨ba,oa,none⟩=some (.string (Name.AQ n1))∧W.cell? ⟨ba,oa+1,none⟩=some (.slice A3 l3 c3)∧W.cell? ⟨ba,oa+2,none⟩=some (.int .i64 s1)∧W.cell? ⟨ba,oa+3,none⟩=some (.int .i64 d1)∧W.cell? ⟨ba,oa+4,none⟩=some (.bool g1)) (first | exact O7 U0.out.drew zY.out | exact O7 Fe.out zY.out | exact O7 (own_below RP.out Lt.out Fe.out Fe.out.size) zY.out) ((refine KN rfl (.tmp 66) (.tmp 70) _ rfl w.heap.size 36 _ 5 64 tyF u9 os.length (os.flatMap fC) (by simp[Act.eval]) RP.out (some ⟨wq.heap.size,0,none⟩) 1 1 [.string (Name.AQ n1),.slice A3 l3 c3,.int .i64 s1,.int .i64 d1,.bool g1] (by simp[Act.eval]) rfl jQ.out (by simp[Value.oneCell']) (by simp) (by unfold maxLen;omega) (by omega) Fe.out.size ?_;intro v8 w8 Aw Dj;have GH:=Lib.hid Aw;have Lt:=Lib.hid Dj;clear Aw Dj))
      all_goals (
       have EG:=Lib.hid (own_below RP.out Lt.out Fe.out Fe.out.size)
       clear RP Fe jQ Lt
       go_wp2_with fail
       go_roundw
       case rel=>skip;exact⟨ar',(⟨n2,b2,s2,d2,g2⟩,A4,l4,c4) :: br',os++[(⟨n1,b1,s1,d1,g1⟩,A3,l3,c3)],HfA.out,Hfb.out,by rw[List.length_append,List.flatMap_append];exact GH.out,(fun u hu=>by
         rcases List.mem_append.1 hu with hu | hu
         ·exact Hos.out u hu
         ·rw[List.mem_singleton.1 hu];exact Hfx.out),(fun u hu=>nD.out u (AGx u hu)),by rw[Heq.out,List.map_cons,List.map_cons,HL.out (by rw[Hz.out];exact h),List.map_append,List.append_assoc];rfl,by have:=AAr.out;simp;omega,EG.out⟩
       case measure=>simp[nA];omega)
     ·have hd1:decide (z < 0)=false:=decide_eq_false (by omega)
      have hd2:decide (z > 0)=true:=decide_eq_true h
      have RP:Hid ((wq.drew.alloc (.cells #[.string (Name.AQ n2),.slice A4 l4 c4,.int .i64 s2,.int .i64 d2,.bool g2] 36)).ownsRow w.heap.size 36 5 u9 os.length (os.flatMap fC)):=Lib.hid ((I6 jP.out).alloc _)
      have Fe:Hid (Below w.heap.size w (wq.drew.alloc (.cells #[.string (Name.AQ n2),.slice A4 l4 c4,.int .i64 s2,.int .i64 d2,.bool g2] 36))):=Lib.hid (U0.out.drew.alloc U0.out.size _)
      have jQ:Hid (AR (wq.drew.alloc (.cells #[.string (Name.AQ n2),.slice A4 l4 c4,.int .i64 s2,.int .i64 d2,.bool g2] 36)) (some ⟨wq.heap.size,0,none⟩) [.string (Name.AQ n2),.slice A4 l4 c4,.int .i64 s2,.int .i64 d2,.bool g2]):=Lib.hid (AR.of_heap (heap_alloc_new _ _) rfl)
      go_wp2_with fail
      go_region_held3 (fun W=>W.cell? ⟨bb,ob,none⟩=some (.string (Name.AQ n2))∧W.cell? ⟨bb,ob+1,none⟩=some (.slice A4 l4 c4)∧W.cell? ⟨bb,ob+2,none⟩=some (.int .i64 s2)∧W.cell? ⟨bb,ob+3,none⟩=some (.int .i64 d2)∧W.cell? ⟨bb,ob+4,none⟩=some (.bool g2)) (first | exact O7 U0.out.drew VJ.out | exact O7 Fe.out VJ.out | exact O7 (own_below RP.out Lt.out Fe.out Fe.out.size) VJ.out) ((refine KN rfl (.tmp 77) (.tmp 81) _ rfl w.heap.size 36 _ 5 64 tyF u9 os.length (os.flatMap fC) (by simp[Act.eval]) RP.out (some ⟨wq.heap.size,0,none⟩) 1 1 [.string (Name.AQ n2),.slice A4 l4 c4,.int .i64 s2,.int .i64 d2,.bool g2] (by simp[Act.eval]) rfl jQ.out (by simp[Value.oneCell']) (by simp) (by unfold maxLen;omega) (by omega) Fe.out.size ?_;intro v8 w8 Aw Dj;have GH:=Lib.hid Aw;have Lt:=Lib.hid Dj;clear Aw Dj))
      all_goals (
       have EG:=Lib.hid (own_below RP.out Lt.out Fe.out Fe.out.size)
       clear RP Fe jQ Lt
       go_wp2_with fail
       go_roundw
       case rel=>skip;exact⟨(⟨n1,b1,s1,d1,g1⟩,A3,l3,c3) :: ar',br',os++[(⟨n2,b2,s2,d2,g2⟩,A4,l4,c4)],Hfa.out,HfB.out,by rw[List.length_append,List.flatMap_append];exact GH.out,(fun u hu=>by
         rcases List.mem_append.1 hu with hu | hu
         ·exact Hos.out u hu
         ·rw[List.mem_singleton.1 hu];exact Hfy.out),(fun u hu=>nD.out u (AGy u hu)),by rw[Heq.out,List.map_cons,List.map_cons,HG.out (by rw[Hz.out];exact h),List.map_append,List.append_assoc];rfl,by have:=AAr.out;simp;omega,EG.out⟩
       case measure=>simp[nA];omega)
     ·have ZY:=Lib.hid (U0.out.alloc U0.out.size (.cells #[.string (Name.AQ n1),.slice A3 l3 c3,.int .i64 s1,.int .i64 d1,.bool g1] 36))
      have B3:=Lib.hid (AX.new wq 36 #[.string (Name.AQ n1),.slice A3 l3 c3,.int .i64 s1,.int .i64 d1,.bool g1])
      have ZZ:=Lib.hid (jP.out.alloc (.cells #[.string (Name.AQ n1),.slice A3 l3 c3,.int .i64 s1,.int .i64 d1,.bool g1] 36))
      have kU:Hid (u9.ownBlock≠some wq.heap.size):=Lib.hid (fun h=>by have:=(jP.out.lt _ h).2;omega)
      have vX:Hid (∀ k:Nat,w.heap.size≤(⟨wq.heap.size,k,none⟩:Addr).block):=Lib.hid (fun _=>U0.out.size)
      obtain⟨w3,hw3⟩:∃ w3,w3=wq.alloc (.cells #[.string (Name.AQ n1),.slice A3 l3 c3,.int .i64 s1,.int .i64 d1,.bool g1] 36):=⟨_,rfl⟩
      rw[←hw3]at ZY B3 ZZ
      have Hw3:=Lib.hid hw3.symm
      clear hw3
      go_wp2_with fail
      rw[Hw3.out]
      clear Hw3 ea0 ea1 ea2 ea3 ea4 eb0 eb1 eb2 eb3 eb4
      have AGz:=Lib.hid (Hfx.out.below ZY.out)
      have AG0:=Lib.hid (Hfy.out.below ZY.out)
      obtain⟨lU,tK,tN,tQ,tV⟩:=O7 ZY.out zY.out
      obtain⟨lV,tL,tO,tT,tX⟩:=O7 ZY.out VJ.out
      have p0:=fun p:Ap w3=>Ap.cell lU p
      have q0:=fun p:Ap w3=>Ap.cell lV p
      have p1:=fun p:Ap w3=>Ap.cell tK p
      have q1:=fun p:Ap w3=>Ap.cell tL p
      have p2:=fun p:Ap w3=>Ap.cell tN p
      have q2:=fun p:Ap w3=>Ap.cell tO p
      have p3:=fun p:Ap w3=>Ap.cell tQ p
      have q3:=fun p:Ap w3=>Ap.cell tT p
      have p4:=fun p:Ap w3=>Ap.cell tV p
      have q4:=fun p:Ap w3=>Ap.cell tX p
      clear lU tK tN tQ tV lV tL tO tT tX
      refine La (by kernel_rfl) (by kernel_rfl) ?_
      repeat (quiet_step (first | exact Js (nE (⟨n1,b1,s1,d1,g1⟩,A3,l3,c3) (⟨n2,b2,s2,d2,g2⟩,A4,l4,c4) _ (AGz.out.below (Ap.h _)) (AG0.out.below (Ap.h _)))))
      refine wpQuiet_nil ?_
      intro w4 hq
      have hb4:Below w3.heap.size w3 w4:=by obtain⟨p,hp⟩:=hq;rw[hp];exact p.h
      have Hb4:=Lib.hid (ZY.out.trans (hb4.mono ZY.out.size))
      have B4:=Lib.hid (B3.out.below hb4 B3.out.lt)
      have jR:=Lib.hid (AP ZZ.out hb4)
      clear hq hb4 AGz AG0 B3 ZZ ZY p0 p1 p2 p3 p4 q0 q1 q2 q3 q4
      obtain⟨z2,hz2⟩:∃ z2,later (⟨n1,b1,s1,d1,g1⟩:Fl) ⟨n2,b2,s2,d2,g2⟩=z2:=⟨_,rfl⟩
      have Hz2:=Lib.hid hz2
      try simp only
      rw[hz2]
      clear hz2
      by_cases h:z2 < 0
      ·have hd3:decide (z2 < 0)=true:=decide_eq_true h
       obtain⟨eb0,eb1,eb2,eb3,eb4⟩:=O7 Hb4.out VJ.out
       obtain⟨ex0,ex1,ex2,ex3,ex4⟩:=N9 B4.out
       have hf0:=B4.out.frozen 0
       have hf1:=B4.out.frozen 1
       have hf2:=B4.out.frozen 2
       have hf3:=B4.out.frozen 3
       have hf4:=B4.out.frozen 4
       have B5:Hid (AX (((((w4.setCell ⟨wq.heap.size,0,none⟩ (.string (Name.AQ n2))).setCell ⟨wq.heap.size,1,none⟩ (.slice A4 l4 c4)).setCell ⟨wq.heap.size,2,none⟩ (.int .i64 s2)).setCell ⟨wq.heap.size,3,none⟩ (.int .i64 d2)).setCell ⟨wq.heap.size,4,none⟩ (.bool g2)) wq.heap.size 36 #[.string (Name.AQ n2),.slice A4 l4 c4,.int .i64 s2,.int .i64 d2,.bool g2]):=Lib.hid (((((B4.out.Ca 0 (.string (Name.AQ n2))).Ca 1 (.slice A4 l4 c4)).Ca 2 (.int .i64 s2)).Ca 3 (.int .i64 d2)).Ca 4 (.bool g2))
       have jS:=Lib.hid (ownsRow_setCell_other (ownsRow_setCell_other (ownsRow_setCell_other (ownsRow_setCell_other (ownsRow_setCell_other jR.out (a:=⟨wq.heap.size,0,none⟩) kU.out (.string (Name.AQ n2))) (a:=⟨wq.heap.size,1,none⟩) kU.out (.slice A4 l4 c4)) (a:=⟨wq.heap.size,2,none⟩) kU.out (.int .i64 s2)) (a:=⟨wq.heap.size,3,none⟩) kU.out (.int .i64 d2)) (a:=⟨wq.heap.size,4,none⟩) kU.out (.bool g2))
       have Hb5:=Lib.hid (((((Hb4.out.setCell (show w.heap.size≤(⟨wq.heap.size,0,none⟩:Addr).block from vX.out 0) (.string (Name.AQ n2))).setCell (show w.heap.size≤(⟨wq.heap.size,1,none⟩:Addr).block from vX.out 1) (.slice A4 l4 c4)).setCell (show w.heap.size≤(⟨wq.heap.size,2,none⟩:Addr).block from vX.out 2) (.int .i64 s2)).setCell (show w.heap.size≤(⟨wq.heap.size,3,none⟩:Addr).block from vX.out 3) (.int .i64 d2)).setCell (show w.heap.size≤(⟨wq.heap.size,4,none⟩:Addr).block from vX.out 4) (.bool g2))
       obtain⟨w5,hw5⟩:∃ w5,w5=(((((w4.setCell ⟨wq.heap.size,0,none⟩ (.string (Name.AQ n2))).setCell ⟨wq.heap.size,1,none⟩ (.slice A4 l4 c4)).setCell ⟨wq.heap.size,2,none⟩ (.int .i64 s2)).setCell ⟨wq.heap.size,3,none⟩ (.int .i64 d2)).setCell ⟨wq.heap.size,4,none⟩ (.bool g2)):=⟨_,rfl⟩
       rw[←hw5]at B5 jS Hb5
       have Hw5:=Lib.hid hw5.symm
       clear hw5
       go_wp2_with fail
       rw[Hw5.out]
       clear Hw5 eb0 eb1 eb2 eb3 eb4 ex0 ex1 ex2 ex3 ex4 hf0 hf1 hf2 hf3 hf4 B4 jR Hb4
       have RP:Hid ((w5.drew.alloc (.cells #[.string (Name.AQ n2),.slice A4 l4 c4,.int .i64 s2,.int .i64 d2,.bool g2] 36)).ownsRow w.heap.size 36 5 u9 os.length (os.flatMap fC)):=Lib.hid ((I6 jS.out).alloc _)
       have Fe:Hid (Below w.heap.size w (w5.drew.alloc (.cells #[.string (Name.AQ n2),.slice A4 l4 c4,.int .i64 s2,.int .i64 d2,.bool g2] 36))):=Lib.hid (Hb5.out.drew.alloc Hb5.out.size _)
       have jQ:Hid (AR (w5.drew.alloc (.cells #[.string (Name.AQ n2),.slice A4 l4 c4,.int .i64 s2,.int .i64 d2,.bool g2] 36)) (some ⟨w5.heap.size,0,none⟩) [.string (Name.AQ n2),.slice A4 l4 c4,.int .i64 s2,.int .i64 d2,.bool g2]):=Lib.hid (AR.of_heap (heap_alloc_new _ _) rfl)
       go_wp2_with fail
       go_region_held3 (fun W=>W.cell? ⟨wq.heap.size,0,none⟩=some (.string (Name.AQ n2))∧W.cell? ⟨wq.heap.size,1,none⟩=some (.slice A4 l4 c4)∧W.cell? ⟨wq.heap.size,2,none⟩=some (.int .i64 s2)∧W.cell? ⟨wq.heap.size,3,none⟩=some (.int .i64 d2)∧W.cell? ⟨wq.heap.size,4,none⟩=some (.bool g2)) (first | exact N9 B5.out.drew | exact N9 (B5.out.drew.alloc _) | exact N9 ((B5.out.drew.alloc _).grown Lt.out kU.out)) ((refine KN rfl (.tmp 55) (.tmp 57) _ rfl w.heap.size 36 _ 5 64 tyF u9 os.length (os.flatMap fC) (by simp[Act.eval]) RP.out (some ⟨w5.heap.size,0,none⟩) 1 1 [.string (Name.AQ n2),.slice A4 l4 c4,.int .i64 s2,.int .i64 d2,.bool g2] (by simp[Act.eval]) rfl jQ.out (by simp[Value.oneCell']) (by simp) (by unfold maxLen;omega) (by omega) Fe.out.size ?_;intro v8 w8 Aw Dj;have GH:=Lib.hid Aw;have Lt:=Lib.hid Dj;clear Aw Dj))
       all_goals (
        have EG:=Lib.hid (own_below RP.out Lt.out Fe.out Fe.out.size)
        clear RP Fe jQ Lt
        go_wp2_with fail
        go_roundw
        case rel=>skip;exact⟨ar',br',os++[(⟨n2,b2,s2,d2,g2⟩,A4,l4,c4)],HfA.out,HfB.out,by rw[List.length_append,List.flatMap_append];exact GH.out,(fun u hu=>by
          rcases List.mem_append.1 hu with hu | hu
          ·exact Hos.out u hu
          ·rw[List.mem_singleton.1 hu];exact Hfy.out),(fun u hu=>nD.out u (ACO (by simp) u hu)),by rw[Heq.out,List.map_cons,List.map_cons,HE.out Hz.out,AAo (by have:=Hz2.out;omega),List.map_append,List.append_assoc];rfl,by have:=AAr.out;simp;omega,EG.out⟩
        case measure=>simp[nA];omega)
      ·have hd3:decide (z2 < 0)=false:=decide_eq_false h
       have B5:=B4
       have jS:=jR
       have Hb5:=Hb4
       clear B4 jR Hb4
       have RP:Hid ((w4.drew.alloc (.cells #[.string (Name.AQ n1),.slice A3 l3 c3,.int .i64 s1,.int .i64 d1,.bool g1] 36)).ownsRow w.heap.size 36 5 u9 os.length (os.flatMap fC)):=Lib.hid ((I6 jS.out).alloc _)
       have Fe:Hid (Below w.heap.size w (w4.drew.alloc (.cells #[.string (Name.AQ n1),.slice A3 l3 c3,.int .i64 s1,.int .i64 d1,.bool g1] 36))):=Lib.hid (Hb5.out.drew.alloc Hb5.out.size _)
       have jQ:Hid (AR (w4.drew.alloc (.cells #[.string (Name.AQ n1),.slice A3 l3 c3,.int .i64 s1,.int .i64 d1,.bool g1] 36)) (some ⟨w4.heap.size,0,none⟩) [.string (Name.AQ n1),.slice A3 l3 c3,.int .i64 s1,.int .i64 d1,.bool g1]):=Lib.hid (AR.of_heap (heap_alloc_new _ _) rfl)
       go_wp2_with fail
       go_region_held3 (fun W=>W.cell? ⟨wq.heap.size,0,none⟩=some (.string (Name.AQ n1))∧W.cell? ⟨wq.heap.size,1,none⟩=some (.slice A3 l3 c3)∧W.cell? ⟨wq.heap.size,2,none⟩=some (.int .i64 s1)∧W.cell? ⟨wq.heap.size,3,none⟩=some (.int .i64 d1)∧W.cell? ⟨wq.heap.size,4,none⟩=some (.bool g1)) (first | exact N9 B5.out.drew | exact N9 (B5.out.drew.alloc _) | exact N9 ((B5.out.drew.alloc _).grown Lt.out kU.out)) ((refine KN rfl (.tmp 55) (.tmp 57) _ rfl w.heap.size 36 _ 5 64 tyF u9 os.length (os.flatMap fC) (by simp[Act.eval]) RP.out (some ⟨w4.heap.size,0,none⟩) 1 1 [.string (Name.AQ n1),.slice A3 l3 c3,.int .i64 s1,.int .i64 d1,.bool g1] (by simp[Act.eval]) rfl jQ.out (by simp[Value.oneCell']) (by simp) (by unfold maxLen;omega) (by omega) Fe.out.size ?_;intro v8 w8 Aw Dj;have GH:=Lib.hid Aw;have Lt:=Lib.hid Dj;clear Aw Dj))
       all_goals (
        have EG:=Lib.hid (own_below RP.out Lt.out Fe.out Fe.out.size)
        clear RP Fe jQ Lt
        go_wp2_with fail
        go_roundw
        case rel=>skip;exact⟨ar',br',os++[(⟨n1,b1,s1,d1,g1⟩,A3,l3,c3)],HfA.out,HfB.out,by rw[List.length_append,List.flatMap_append];exact GH.out,(fun u hu=>by
          rcases List.mem_append.1 hu with hu | hu
          ·exact Hos.out u hu
          ·rw[List.mem_singleton.1 hu];exact Hfx.out),(fun u hu=>nD.out u (ACO (by simp) u hu)),by rw[Heq.out,List.map_cons,List.map_cons,HE.out Hz.out,AAp (by have:=Hz2.out;omega),List.map_append,List.append_assoc];rfl,by have:=AAr.out;simp;omega,EG.out⟩
        case measure=>simp[nA];omega)
end Go.Proofs.YtabdianhoabhhaaGreatDoor.Merge
namespace Go.Proofs.YtabdianhoabhhaaGreatDoor.Merge
open Go Go.RowKit Go.Proofs.YtabdianhoabhhaaGreatDoor Go.Proofs.YtabdianhoabhhaaGreatDoor.Name
set_option linter.unusedVariables false
def tY (a b:List Fx):Bool:=ay (fun x y=>Qr x.1 y.1) a b
theorem dE (a b:List Fx):tY a b=true↔a.map Prod.fst=b.map Prod.fst:=XG (fun x y=>Vh x.1 y.1) a b
theorem CL.le {w:World} {v:Value} {l:List Fx} (h:CL w v l):l.length≤maxLen:=by obtain⟨A,c,_,h1,h2,_⟩:=h;omega
theorem AJr:∀ args w',(callFunc 20 args).run Tryz.prog w'=.ok (.enter 20 args) w':=enters_of Tryz.func20 (by kernel_rfl) rfl
set_option maxHeartbeats 400000 in
theorem U5 (v1 v2:Value) (a b:List Fx) (w:World) (h1:CL w v1 a) (h2:CL w v2 b) :
  Calls Tryz.prog 15 #[v1,v2] w fun e w'=>e=.returned (.bool (tY a b))∧Below w.heap.size w w':=by
 obtain⟨A,ca,rfl,a1,a2,a3,a4,a5⟩:=h1
 obtain⟨B,cb,rfl,b1,b2,b3,b4,b5⟩:=h2
 have HC:=Lib.hid (RG A B a.length b.length ca cb a b 20 #[] (fun x y=>Qr x.1 y.1) w rfl rfl (by omega) (by omega) a3 b3 AJr (fun x hx y hy w' hb=>XH x y w' ((a5 x hx).below hb) ((b5 y hy).below hb)))
 obtain⟨n,hn⟩:∃ n,n=a.length:=⟨_,rfl⟩
 obtain⟨m,hm⟩:∃ m,m=b.length:=⟨_,rfl⟩
 rw[←hn,←hm]at HC⊢
 clear a1 a2 a3 a4 a5 b1 b2 b3 b4 b5 hn hm
 go_enter Tryz.func15,Tryz.ntmps15
 go_wp2_with fail
 refine (HC.out).mono ?_
 rintro e w1 ⟨rfl,hb⟩
 have Hb:=Lib.hid hb
 clear hb HC
 go_wp2_with fail
 go_ret
 exact⟨rfl,Hb.out⟩
end Go.Proofs.YtabdianhoabhhaaGreatDoor.Merge
