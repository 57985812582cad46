/- texts joined: BlkLens MatchSame BlkRunsW RtHead InfFail InfStored InfTable InfFixed ShelfMul InfRepeat RegS RegT InfOld. -/
import Derived.Test.YtabdianhoabhhaaGreatDoorShelfKeepsQ2
import Derived.Test.YtabdianhoabhhaaGreatDoorShelfKeepsQ3
import Derived.Test.YtabdianhoabhhaaGreatDoorShelfKeepsQ1
import Derived.WalkSmall
import Derived.Shelf.Bits.Mul64
import Derived.Test.YtabdianhoabhhaaGreatDoorProg
import Derived.Laws.CopyOwn
import Derived.StillTailTactics
import Derived.Deep.RegionHeld3
import Derived.Deep.RegionLaw
open List renaming getElem_toArray→l0A,getElem_cons_zero→l0B,getElem_cons_succ→l0C,setIfInBounds_toArray→l0D,set_cons_zero→l0E,set_cons_succ→l0F
namespace Go.Proofs.YtabdianhoabhhaaGreatDoor.AV
open Go Go.RowKit Go.Proofs.YtabdianhoabhhaaGreatDoor Go.Proofs.YtabdianhoabhhaaGreatDoor.Bits Go.Proofs.YtabdianhoabhhaaGreatDoor.Code Go.Proofs.YtabdianhoabhhaaGreatDoor.Inf Go.Proofs.YtabdianhoabhhaaGreatDoor.Match Go.Proofs.YtabdianhoabhhaaGreatDoor.SP Go.Proofs.YtabdianhoabhhaaGreatDoor.Rt
set_option linter.unusedVariables false
theorem jD (ls:List Nat):(EZ ls).map iv=ls.map BR:=by unfold EZ;rw[List.map_map];rfl
theorem VX (ls:List Nat):Cx.CU (EZ ls)=ls:=FD ls
theorem XJ (ls:List Nat):(EZ ls).length=ls.length:=by unfold EZ;rw[List.length_map]
theorem SY (A:Option Addr) (n c:Nat) (ls:List Nat) (L:Nat) (w:World) (hn:ls.length=n) (hx:n≤288) (hA:AQ w A (ls.map BR)) (hb:∀ x∈ls,x≤1000000) (hL:1≤L) (hL2:L≤15) (ho:(ones ls).length≤2 ^ L) :
  Calls Tryz.prog 190 #[.slice A n c,.int .i64 (L:Int)] w fun e w'=>(∃ v,e=.returned (.tuple #[v,.int .i64 0])∧w'.ownsRow w.heap.size 3 1 v n ((AX ls L).map BR))∧Below w.heap.size w w':=by
 have hc:Cx.MV (EZ ls) (L:Int)=0:=by
  unfold Cx.MV
  rw[if_neg (by rw[XJ];omega),if_neg,if_neg (by omega),if_neg]
  ·rw[Cx.VY,VX,Int.toNat_natCast];omega
  ·rw[Bool.not_eq_true,List.any_eq_false]
   intro x hx
   obtain⟨y,hy,rfl⟩:=List.mem_map.1 hx
   have:=hb y hy
   have e:Int.ofNat y=(y:Int):=rfl
   rw[e]
   simp[Cx.FE];omega
 refine (Cx.Yo A n c (EZ ls) (L:Int) w (by rw[XJ];exact hn) (by unfold maxLen;omega) (by unfold Lv;rw[jD];exact hA)).mono ?_
 rintro e w' ⟨h,hb'⟩
 rcases h with ⟨h1,_⟩ | ⟨_,v,rfl,ho'⟩
 ·exact absurd hc h1
 ·refine⟨⟨v,rfl,?_⟩,hb'⟩
  rw[XJ,VX,Int.toNat_natCast,hn]at ho'
  exact ho'
theorem Nr (A:Option Addr) (n c:Nat) (ls:List Nat) (w:World) (hn:ls.length=n) (hx:n≤288) (hA:AQ w A (ls.map BR)) (hc:Cd ls) :
  Calls Tryz.prog 194 #[.slice A n c] w fun e w'=>(∃ g,e=.returned (.tuple #[.slice (some ⟨g,0,none⟩) n n,.int .i64 0])∧w.heap.size≤g∧AV w' g 3 (ED (I8 ls)))∧Below w.heap.size w w':=by
 have h0:GK (EZ ls)=0:=by
  have:=Oq ls hc (by omega)
  unfold Em at this
  split at this
  ·assumption
  ·cases this
 refine (dL A n c (EZ ls) w (by rw[XJ];exact hn) (by unfold maxLen;omega) (by unfold Lv;rw[jD];exact hA)).mono ?_
 rintro e w' ⟨h,hb'⟩
 rcases h with ⟨h1,_⟩ | ⟨_,g,rfl,hg,hB⟩
 ·exact absurd h0 h1
 ·rw[FD]at hB
  exact⟨⟨g,rfl,hg,hB⟩,hb'⟩
theorem J4 {w:World} {g:Nat} {l:List Nat} (h:AV w g 3 (ED l)):J2 w 3 (some ⟨g,0,none⟩) (l.map BR):=by
 have:=h.kat
 unfold ED at this
 rw[List.toList_toArray]at this
 exact this
set_option maxRecDepth 100000 in
set_option maxHeartbeats 1600000 in
theorem VZ (A:Option Addr) (m c:Nat) (l:List Tok) (w:World) (hm:l.length=m) (hx:m≤3000) (hA:AQ w A (l.flatMap rq)) (hf:∀ t∈l,XC t) :
  Calls Tryz.prog 157 #[.slice A m c] w fun e w'=>(∃ v1 v2,e=.returned (.tuple #[v1,v2])∧w'.ownsRow w.heap.size 3 1 v1 286 ((Ck l).1.map BR)∧w'.ownsRow w.heap.size 3 1 v2 30 ((Ck l).2.map BR))∧Below w.heap.size w w':=by
 obtain⟨c1,c2⟩:=Sb l
 obtain⟨s1,s2⟩:=XK l
 have HC:=Lib.hid (dE A m c l w hm hx hA hf)
 have HW1:=Lib.hid (fun g w' h=>SY (some ⟨g,0,none⟩) 286 286 (Cs l).1 15 w' c1 (by omega) h (fun x hx=>by have:=s1 x hx;omega) (by omega) (by omega) (by have:=Cx.Kq (Cs l).1;have p15:(2:Nat) ^ 15=32768:=rfl;omega))
 have HW2:=Lib.hid (fun g w' h=>SY (some ⟨g,0,none⟩) 30 30 (Cs l).2 15 w' c2 (by omega) h (fun x hx=>by have:=s2 x hx;omega) (by omega) (by omega) (by have:=Cx.Kq (Cs l).2;have p15:(2:Nat) ^ 15=32768:=rfl;omega))
 clear hm hA hf c1 c2 s1 s2
 go_enter Tryz.func157,Tryz.ntmps157
 go_wp2_with fail
 refine (HC.out).mono ?_
 rintro e w1 ⟨⟨g1,g2,rfl,hg1,hg2,hB1,hB2⟩,hb1⟩
 have H1:=Lib.hid hB1
 have H2:=Lib.hid hB2
 have Hb:=Lib.hid hb1
 clear hB1 hB2 hb1 hg1 hg2 HC
 go_wp2_with fail
 refine (HW1.out g1 w1 (J4 H1.out).Ib).mono ?_
 rintro e w2 ⟨⟨v1,rfl,ho1⟩,hb2⟩
 have H22:=Lib.hid (H2.out.below hb2 H2.out.lt)
 have Hb2:=Lib.hid (Hb.out.trans (hb2.mono Hb.out.size))
 have Ho1:=Lib.hid (AZ ho1 Hb.out.size)
 clear hb2 ho1 H1 H2 HW1
 go_wp2_with fail
 refine (HW2.out g2 w2 (J4 H22.out).Ib).mono ?_
 rintro e w3 ⟨⟨v2,rfl,ho2⟩,hb3⟩
 have AJ3:=Lib.hid (AP Ho1.out hb3)
 have Hb3:=Lib.hid (Hb2.out.trans (hb3.mono Hb2.out.size))
 have bg:=Lib.hid (AZ ho2 Hb2.out.size)
 clear hb3 ho2 H22 HW2 Ho1
 go_wp2_with fail
 go_ret2
 exact⟨⟨v1,v2,rfl,AJ3.out,bg.out⟩,Hb3.out⟩
end Go.Proofs.YtabdianhoabhhaaGreatDoor.AV
namespace Go.Proofs.YtabdianhoabhhaaGreatDoor.Match
open Go Go.RowKit Go.Proofs.YtabdianhoabhhaaGreatDoor
set_option linter.unusedVariables false
theorem wO (w:World) (a b:Nat):∃ d,(w.drewN a).drewN b=w.drewN d:=⟨_,World.drewN_drewN _ _ _⟩
theorem Ri (a b:Nat) (h:a+b≤1000000000):IntKind.i64.wrap ((a:Int)+(b:Int))=(a:Int)+(b:Int):=IntWalk.i64_in _ (by omega)
set_option maxRecDepth 100000 in
set_option maxHeartbeats 800000 in
theorem TW (A:Option Addr) (n c i k:Nat) (xs:List UInt8) (w:World) (hn:xs.length=n) (hx:n≤1000000) (hA:BI w A xs) (hik:i≤k) (hk:k≤n) :
  Calls Tryz.prog 223 #[.slice A n c,.int .i64 (i:Int),.int .i64 (k:Int)] w fun e w'=>e=.returned (.int .i64 ((EN xs i k:Nat):Int))∧∃ d,w'=w.drewN d:=by
 have Hn:=Lib.hid hn
 have HA:=Lib.hid hA
 clear hn hA
 go_enter Tryz.func223,Tryz.ntmps223
 go_wp2_with fail
 go_loopw [7] (fun v wr=>∃ m:Nat,m≤EN xs i k∧m≤258∧k+m≤n∧v=.int .i64 m∧∃ d,wr=w.drewN d) (fun v _=>258 - (intOf v).toNat)
 case atStart=>exact⟨0,Nat.zero_le _,by omega,by omega,rfl,0,rfl⟩
 case round=>
  obtain⟨m,hm,hm2,Yu,rfl,d,rfl⟩:=hrel
  have HS:Hid (∀ _:True,True→(¬ (m < 258)∨¬ (k+m < xs.length)∨∃ (h:k+m < xs.length),xs[i+m]'(by omega)≠xs[k+m])→EN xs i k=m):=Lib.hid (fun _ _ h=>nQ xs i k m hik hm h)
  have HT:Hid (∀ (_:True) (h1:m < 258) (h2:k+m < xs.length),xs[i+m]'(by omega)=xs[k+m]→m+1≤EN xs i k):=Lib.hid (fun _ h1 h2 h3=>NJ xs i k m hik hm h1 h2 h3)
  have Hm:=Lib.hid hm
  clear hm
  by_cases h1:m < 258
  ·have g1:decide ((m:Int) < 258)=true:=by simp;omega
   by_cases h2:k+m < n
   ·have g2:decide ((k:Int)+(m:Int) < (n:Int))=true:=by simp;omega
    have h2':k+m < xs.length:=by rw[Hn.out];exact h2
    have h3':i+m < xs.length:=by omega
    obtain⟨b,o,rfl,hc1⟩:=HA.out.get h2'
    obtain⟨b',o',hb,hc2⟩:=HA.out.get h3'
    injection hb with hb;injection hb with e1 e2 e3;subst e1 e2
    have s1:=Ri k m (by omega)
    have s2:=Ri i m (by omega)
    have p1:(0:Int)≤(k:Int)+(m:Int):=by omega
    have p2:(0:Int)≤(i:Int)+(m:Int):=by omega
    have q1:((k:Int)+(m:Int)).toNat=k+m:=by omega
    have q2:((i:Int)+(m:Int)).toNat=i+m:=by omega
    have r1:(k:Int)+(m:Int) < (n:Int):=by omega
    have r2:(i:Int)+(m:Int) < (n:Int):=by omega
    by_cases he:xs[i+m]=xs[k+m]
    ·have Cy:=Lib.hid (HT.out trivial h1 h2' he)
     have g3:(n8 xs[i+m] == n8 xs[k+m])=true:=by rw[he];simp
     have He:=Lib.hid he
     clear he HS HT
     generalize xs[k+m]=x at *
     generalize xs[i+m]=y at *
     go_wp2_with fail
     go_quiet (fail)
     go_wp2_with fail
     go_roundw
     case rel=>exact⟨m+1,Cy.out,by omega,by omega,by go_num,_,rfl⟩
     case measure=>simp[intOf];omega
    ·have Cy:=Lib.hid (HS.out trivial trivial (Or.inr (Or.inr ⟨h2',he⟩)))
     have g3:(n8 xs[i+m] == n8 xs[k+m])=false:=by rw[AEF];simpa using he
     have He:=Lib.hid he
     clear he HS HT
     generalize xs[k+m]=x at *
     generalize xs[i+m]=y at *
     go_wp2_with fail
     go_quiet (fail)
     go_wp2_with fail
     go_ret
     exact⟨C9 (by rw[Cy.out]),wO w d _⟩
   ·have g2:decide ((k:Int)+(m:Int) < (n:Int))=false:=by simp;omega
    have s1:=Ri k m (by omega)
    have Cy:=Lib.hid (HS.out trivial trivial (Or.inr (Or.inl (by rw[Hn.out];exact h2))))
    clear HS HT
    go_wp2_with fail
    go_quiet (fail)
    go_wp2_with fail
    go_ret
    exact⟨C9 (by rw[Cy.out]),wO w d _⟩
  ·have g1:decide ((m:Int) < 258)=false:=by simp;omega
   have Cy:=Lib.hid (HS.out trivial trivial (Or.inl h1))
   clear HS HT
   go_wp2_with fail
   go_quiet (fail)
   go_wp2_with fail
   go_ret
   exact⟨C9 (by rw[Cy.out]),wO w d _⟩
end Go.Proofs.YtabdianhoabhhaaGreatDoor.Match
namespace Go.Proofs.YtabdianhoabhhaaGreatDoor.AV
open Go Go.RowKit Go.Proofs.YtabdianhoabhhaaGreatDoor Go.Proofs.YtabdianhoabhhaaGreatDoor.Bits Go.Proofs.YtabdianhoabhhaaGreatDoor.Code Go.Proofs.YtabdianhoabhhaaGreatDoor.Inf Go.Proofs.YtabdianhoabhhaaGreatDoor.Match
set_option linter.unusedVariables false
theorem Iy (v:Nat):∀ f n:Nat,(D5 v f n).length≤n
 | 0,n=>by simp[D5]
 | f+1,n=>by
  unfold D5
  by_cases h0:n=0
  ·rw[if_pos h0];simp
  ·rw[if_neg h0]
   by_cases h1:v=0∧11≤n
   ·rw[if_pos h1,List.length_cons];have:=Iy v f (n - min n 138);omega
   ·rw[if_neg h1]
    by_cases h2:v=0∧3≤n
    ·rw[if_pos h2,List.length_cons];have:=Iy v f (n - min n 10);omega
    ·rw[if_neg h2]
     by_cases h3:v≠0∧3≤n
     ·rw[if_pos h3,List.length_cons];have:=Iy v f (n - min n 6);omega
     ·rw[if_neg h3,List.length_cons];have:=Iy v f (n - 1);omega
theorem Vk (l:List Nat):∀ f i:Nat,(FV l f i).length≤l.length - i
 | 0,i=>by simp[FV]
 | f+1,i=>by
  unfold FV
  by_cases h0:l.length≤i
  ·rw[if_pos h0];simp
  ·have hr:=Jf l i (by omega)
   have h1:=Vk l f (i+AV.runN l i)
   have h2:(I9 (l.getD i 0) (AV.runN l i)).length≤AV.runN l i:=by
    unfold I9
    by_cases hv:l.getD i 0=0
    ·rw[if_pos hv];exact Iy _ _ _
    ·rw[if_neg hv,List.length_cons];have:=Iy (l.getD i 0) (AV.runN l i - 1) (AV.runN l i - 1);omega
   rw[if_neg h0,List.length_append];omega
theorem P5 (l:List Nat):(Dk l).length≤l.length:=by have:=Vk l l.length 0;unfold Dk;omega
theorem lZ (l:List Nat) (i c:Nat) (h1:1≤c) (h2:c≤AV.runN l i) (h3:i+c < l.length) (h4:l[i+c]=l[i]'(by omega)):c+1≤AV.runN l i:=by
 unfold AV.runN at h2⊢
 have e:l.getD i 0=l[i]'(by omega):=by rw[List.getD_eq_getElem?_getD,List.getElem?_eq_getElem (by omega)];rfl
 have hd:(l.drop (i+1))[c - 1]'(by rw[List.length_drop];omega)=l[i+c]:=by
  rw[List.getElem_drop];congr 1;omega
 have:=Match.jI (fun x=>x == l.getD i 0) (l.drop (i+1)) (c - 1) (by omega) (by rw[List.length_drop];omega) (by rw[hd,h4,e];simp)
 omega
theorem lg (l:List Nat) (i c:Nat) (h1:1≤c) (h2:c≤AV.runN l i) (hi:i < l.length) (h:i+c=l.length∨∃ h3:i+c < l.length,l[i+c]≠l[i]):AV.runN l i=c:=by
 have hle:=(Jf l i hi).2
 rcases Nat.lt_or_ge c (AV.runN l i) with hlt | hge
 ·rcases h with h | ⟨h3,h4⟩
  ·omega
  ·unfold AV.runN at hlt
   have e:l.getD i 0=l[i]:=by rw[List.getD_eq_getElem?_getD,List.getElem?_eq_getElem hi];rfl
   obtain⟨hn,hp⟩:=Match.XM (fun x=>x == l.getD i 0) (l.drop (i+1)) (c - 1) (by omega)
   have hd:(l.drop (i+1))[c - 1]'hn=l[i+c]:=by
    rw[List.getElem_drop];congr 1;omega
   rw[hd,e]at hp
   exact absurd (by simpa using hp) h4
 ·omega
theorem Yz (l:List Nat) (i j:Nat) (hi:i < l.length) (h:j < AV.runN l i):∃ h2:i+j < l.length,l[i+j]=l[i]:=by
 have hle:=(Jf l i hi).2
 have hij:i+j < l.length:=by omega
 refine⟨hij,?_⟩
 rcases Nat.eq_zero_or_pos j with h0 | h0
 ·subst h0;rfl
 ·unfold AV.runN at h
  have e:l.getD i 0=l[i]:=by rw[List.getD_eq_getElem?_getD,List.getElem?_eq_getElem hi];rfl
  have h':j - 1 < ((l.drop (i+1)).takeWhile fun x=>x == l.getD i 0).length:=Nat.sub_lt_left_of_lt_add (by omega) h
  obtain⟨hn,hp⟩:=Match.XM _ _ _ h'
  have hd:(l.drop (i+1))[j - 1]'hn=l[i+j]'(by omega):=by
   rw[List.getElem_drop];congr 1;omega
  rw[hd,e]at hp
  simpa using hp
def IK (x:Nat×Nat×Nat):List Value:=[.int .i64 (x.1:Int),.int .i64 (x.2.1:Int),.int .i64 (x.2.2:Int)]
theorem Li:Bj Tryz.prog 247 250 (.agg #[.int .i64 0,.int .i64 0,.int .i64 0]) 3 24:=⟨Tryz.underlying247,by kernel_rfl,rfl,by omega⟩
theorem Lj (ac:List (Nat×Nat×Nat)) (x:Nat×Nat×Nat):(ac++[x]).flatMap IK=ac.flatMap IK++IK x:=by rw[List.flatMap_append];simp
theorem KD {P:Program} (ts:Array TypeId) (t:TypeId) (a b:Int) (w:World) :
  (Builtin.min_ ts t #[.int .i64 a,.int .i64 b]).run P w=.ok (.int .i64 (min a b)) w:=by
 simp[Builtin.min_,Builtin.min2]
 (repeat' split) <;> omega
set_option maxRecDepth 100000 in
set_option maxHeartbeats 4000000 in
theorem sJ (A:Option Addr) (n c:Nat) (l:List Nat) (w:World) (hm:l.length=n) (hx:n≤1000) (hA:AQ w A (l.map BR)) (hv:∀ x∈l,x≤1000) :
  Calls Tryz.prog 192 #[.slice A n c] w fun e w'=>(∃ v,e=.returned v∧w'.ownsRow w.heap.size 250 3 v (Dk l).length ((Dk l).flatMap IK))∧Below w.heap.size w w':=by
 have HM:=Lib.hid hm
 have HA:=Lib.hid hA
 have HV:=Lib.hid hv
 have HL:=Lib.hid (P5 l)
 clear hm hA hv
 go_enter Tryz.func192,Tryz.ntmps192
 go_wp2_with fail
 go_loopw [3,4] (fun vo vi wr=>∃ (i:Nat) (ac:List (Nat×Nat×Nat)),i≤n∧vi=.int .i64 (i:Int)∧ac++FW l i=Dk l∧wr.ownsRow w.heap.size 250 3 vo ac.length (ac.flatMap IK)∧Below w.heap.size w wr) (fun _ vi _=>n - (intOf vi).toNat)
 case atStart=>exact⟨0,[],Nat.zero_le _,rfl,rfl,World.ownsRow_nil ..,Below.refl _ _⟩
 case round=>
  obtain⟨i,ac,hi,rfl,hac,ho,hb⟩:=hrel
  have NU:=Lib.hid hac
  have HO:=Lib.hid ho
  have Hb:=Lib.hid hb
  clear hac ho hb
  by_cases hlt:i < n
  ·have hil:i < l.length:=by rw[HM.out];exact hlt
   obtain⟨bA,oA,rfl,hc0'⟩:=(HA.out.below Hb.out).get (k:=i) (by simpa using hil)
   have HC0:=Lib.hid hc0'
   obtain⟨v,hv⟩:∃ v,v=l[i]:=⟨_,rfl⟩
   have Hv:=Lib.hid hv
   have hvd:Hid (l.getD i 0=v):=Lib.hid (by rw[List.getD_eq_getElem?_getD,List.getElem?_eq_getElem hil,hv];rfl)
   have hv1:v≤1000:=by rw[hv];exact HV.out _ (List.getElem_mem hil)
   clear hc0' hv
   obtain⟨wo,hwo⟩:∃ wo,wo=wr:=⟨_,rfl⟩
   rw[←hwo]at HC0 HO Hb⊢
   clear hwo wr
   go_wp2_with fail
   go_loopw [5] (fun vn wr=>∃ q:Nat,1≤q∧q≤AV.runN l i∧i+q≤n∧vn=.int .i64 (q:Int)∧∃ d,wr=wo.drewN d) (fun vn _=>n - (intOf vn).toNat)
   case atStart=>exact⟨1,Nat.le_refl _,(Jf l i hil).1,by omega,rfl,0,rfl⟩
   case round=>
    obtain⟨q,hq1,hq2,hq3,rfl,d,rfl⟩:=hrel
    have HS:Hid (_→AV.runN l i=q):=Lib.hid (lg l i q hq1 hq2 hil)
    have HT:Hid (∀ (h3:i+q < l.length),l[i+q]=l[i]→q+1≤AV.runN l i):=Lib.hid (fun h3 h4=>lZ l i q hq1 hq2 h3 h4)
    have Hq2:=Lib.hid hq2
    clear hq2
    have s1:=Ri i q (by omega)
    by_cases h2:i+q < n
    ·have h3':i+q < l.length:=by rw[HM.out];exact h2
     obtain⟨b',o',hbb,hc1⟩:=(HA.out.below Hb.out).get (k:=i+q) (by simpa using h3')
     injection hbb with hbb;injection hbb with e1 e2 e3;subst e1 e2
     have hc0:=HC0.out
     simp only[List.getElem_map,BR]at hc0 hc1
     rw[←Hv.out]at hc0
     have g2:decide ((i:Int)+(q:Int) < (n:Int))=true:=by simp;omega
     have p1:(0:Int)≤(i:Int)+(q:Int):=by omega
     have q1:((i:Int)+(q:Int)).toNat=i+q:=by omega
     have r1:(i:Int)+(q:Int) < (n:Int):=by omega
     by_cases he:l[i+q]=v
     ·have Cy:=Lib.hid (HT.out h3' (he.trans Hv.out))
      rw[he]at hc1
      have g3:((v:Int) == (v:Int))=true:=by simp
      clear he HS HT
      go_wp2_with fail
      go_quiet (fail)
      go_wp2_with fail
      go_roundw
      case rel=>exact⟨q+1,by omega,Cy.out,by omega,by go_num,_,rfl⟩
      case measure=>simp[intOf];omega
     ·have Cy:=Lib.hid (HS.out (Or.inr ⟨h3',fun h=>he (h.trans Hv.out.symm)⟩))
      have g3:((l[i+q]:Int) == (v:Int))=false:=by rw[beq_eq_false_iff_ne];omega
      generalize l[i+q]=x at *
      clear he HS HT
      go_wp2_with fail
      go_quiet (fail)
      have U7:Hid (((wo.drewN d).drewN nq).ownsRow w.heap.size 250 3 _ ac.length (ac.flatMap IK)):=HO
      have Hb1:=Lib.hid (below_drewN' (below_drewN' Hb.out d) nq)
      obtain⟨k,hk⟩:∃ k,i+q=k+1:=⟨i+q - 1,by omega⟩
      obtain⟨hk2,hk3⟩:=Yz l i (q - 1) hil (by have:=Cy.out;omega)
      have Sl:Hid (FW l i=(if v=0 then Cb 0 q++FW l (k+1) else (v,0,0) :: (Cb v (q - 1)++FW l (k+1)))):=Lib.hid (by
       rw[Nw l i hil,Cy.out,Vi,hvd.out,hk]
       split <;> rfl)
      obtain⟨b',o',hbb,hck⟩:=(HA.out.below Hb1.out).get (k:=k) (by rw[List.length_map];omega)
      injection hbb with hbb;injection hbb with e1 e2 e3;subst e1 e2
      have hkv:∀ h:k < l.length,l[k]=v:=fun h=>by
       rw[Hv.out,←hk3];congr 1;omega
      simp only[List.getElem_map,BR]at hck
      rw[hkv (by omega)]at hck
      have hsk:IntKind.i64.wrap ((i:Int)+(q:Int))=(k:Int)+1:=by rw[show (i:Int)+(q:Int)=(k:Int)+1 by omega];exact IntWalk.i64_in _ (by omega)
      have AJ5:IntKind.i64.wrap ((k:Int)+1 - 1)=(k:Int):=by rw[show (k:Int)+1 - 1=(k:Int) by omega];exact IntWalk.i64_in _ (by omega)
      have hkn:k < n:=by omega
      have hik:i≤k:=by omega
      generalize (wo.drewN d).drewN nq=w1 at *
      clear s1 hk hk2 hk3 hkv HC0 g2 HO Hb
      clear g3 hc0 hc1 p1 q1 r1
      by_cases hv0:v=0
      ·have hz:((v:Int) == 0)=true:=by simp;omega
       have dN:=Lib.hid hv0
       clear hv0
       go_wp2_with fail
       go_loopw [3,5] (fun vo vn wr=>∃ (q:Nat) (ac:List (Nat×Nat×Nat)),q≤n∧vn=.int .i64 (q:Int)∧ac++(Cb v q++FW l (k+1))=Dk l∧wr.ownsRow w.heap.size 250 3 vo ac.length (ac.flatMap IK)∧Below w.heap.size w wr) (fun _ vn _=>(intOf vn).toNat)
       case atStart=>exact⟨q,ac,by omega,rfl,by have:=NU.out;rw[Sl.out,if_pos dN.out]at this;rw[dN.out];exact this,U7.out,Hb1.out⟩
       case round=>
        clear U7 Hb1
        have ADK:=NU
        clear NU
        clear Cy hq1 hq3
        obtain⟨q,ac,hq,rfl,hac,ho,hb⟩:=hrel
        have NU:=Lib.hid hac
        have HO:=Lib.hid ho
        have Hb:=Lib.hid hb
        have si:ac.length≤1000:=by have h1:=congrArg List.length hac;rw[List.length_append]at h1;have h2:=HL.out;have h3:=HM.out;omega
        clear hac ho hb
        by_cases hq0:0 < q
        ·have ADL:(0:Int) < (q:Int):=by omega
         by_cases h11:11≤q
         ·have ADM:(11:Int)≤(q:Int):=by omega
          obtain⟨x,hx2⟩:∃ x,x=min q 138 - 11:=⟨_,rfl⟩
          obtain⟨r,hr2⟩:∃ r,r=q - min q 138:=⟨_,rfl⟩
          have Hf:Hid (Cb v q=(18,x,7) :: Cb v r):=Lib.hid (by rw[hx2,hr2];rw[dN.out];exact Yv q h11)
          have hmin:∀ (ts:Array TypeId) (ty:TypeId) (W:World),(Builtin.min_ ts ty #[.int .i64 (q:Int),.int .i64 138]).run Tryz.prog W=.ok (.int .i64 ((x:Int)+11)) W:=fun ts ty W=>by rw[KD,show min (q:Int) 138=(x:Int)+11 by omega]
          have hs1:IntKind.i64.wrap ((x:Int)+11 - 11)=(x:Int):=by rw[show (x:Int)+11 - 11=(x:Int) by omega];exact IntWalk.i64_in _ (by omega)
          have hs2:IntKind.i64.wrap ((q:Int) - ((x:Int)+11))=(r:Int):=by rw[show (q:Int) - ((x:Int)+11)=(r:Int) by omega];exact IntWalk.i64_in _ (by omega)
          have hrq:r < q:=by omega
          have hx3:x≤1000:=by omega
          clear hx2 hr2
          have BA:Below wr.heap.size wr (wr.alloc (.cells #[.int .i64 18,.int .i64 (x:Int),.int .i64 7] 250)):=(Below.refl _ _).alloc (Nat.le_refl _) _
          have Cz:=Lib.hid (AP HO.out BA)
          have Hb2:=Lib.hid (Hb.out.trans (BA.mono Hb.out.size))
          have HZ:Hid (AQ (wr.alloc (.cells #[.int .i64 18,.int .i64 (x:Int),.int .i64 7] 250)) (some ⟨wr.heap.size,0,none⟩) [.int .i64 18,.int .i64 (x:Int),.int .i64 7]):=Lib.hid (AQ.of_heap (heap_alloc_new _ _) rfl)
          clear BA
          go_wp2_with (at_builtin;refine AY _ rfl (.tmp 70) (.tmp 74) _ rfl w.heap.size 250 _ 3 24 Li _ ac.length (ac.flatMap IK) rfl Cz.out (some ⟨wr.heap.size,0,none⟩) 1 1 [.int .i64 18,.int .i64 (x:Int),.int .i64 7] rfl rfl HZ.out (by simp[Value.oneCell']) (by simp) (by unfold maxLen;omega) (by omega) Hb2.out.size ?_;intro v8 w8 Au Dj _;have EJ:=Lib.hid (own_below Cz.out Dj Hb2.out Hb2.out.size);have GL:=Lib.hid Au;clear Au Dj)
          go_roundw
          case rel=>exact⟨r,ac++[(18,x,7)],by omega,by go_num,by rw[←NU.out,Hf.out];simp,by rw[Lj,List.length_append];exact GL.out,EJ.out⟩
          case measure=>simp[intOf];omega
         ·have ADM:¬ (11:Int)≤(q:Int):=by omega
          by_cases h3:3≤q
          ·have h3':(3:Int)≤(q:Int):=by omega
           obtain⟨x,hx2⟩:∃ x,x=min q 10 - 3:=⟨_,rfl⟩
           obtain⟨r,hr2⟩:∃ r,r=q - min q 10:=⟨_,rfl⟩
           have Hf:Hid (Cb v q=(17,x,3) :: Cb v r):=Lib.hid (by rw[hx2,hr2];rw[dN.out];exact Yw q h3 (by omega))
           have hmin:∀ (ts:Array TypeId) (ty:TypeId) (W:World),(Builtin.min_ ts ty #[.int .i64 (q:Int),.int .i64 10]).run Tryz.prog W=.ok (.int .i64 ((x:Int)+3)) W:=fun ts ty W=>by rw[KD,show min (q:Int) 10=(x:Int)+3 by omega]
           have hs1:IntKind.i64.wrap ((x:Int)+3 - 3)=(x:Int):=by rw[show (x:Int)+3 - 3=(x:Int) by omega];exact IntWalk.i64_in _ (by omega)
           have hs2:IntKind.i64.wrap ((q:Int) - ((x:Int)+3))=(r:Int):=by rw[show (q:Int) - ((x:Int)+3)=(r:Int) by omega];exact IntWalk.i64_in _ (by omega)
           have hrq:r < q:=by omega
           have hx3:x≤1000:=by omega
           clear hx2 hr2
           have BA:Below wr.heap.size wr (wr.alloc (.cells #[.int .i64 17,.int .i64 (x:Int),.int .i64 3] 250)):=(Below.refl _ _).alloc (Nat.le_refl _) _
           have Cz:=Lib.hid (AP HO.out BA)
           have Hb2:=Lib.hid (Hb.out.trans (BA.mono Hb.out.size))
           have HZ:Hid (AQ (wr.alloc (.cells #[.int .i64 17,.int .i64 (x:Int),.int .i64 3] 250)) (some ⟨wr.heap.size,0,none⟩) [.int .i64 17,.int .i64 (x:Int),.int .i64 3]):=Lib.hid (AQ.of_heap (heap_alloc_new _ _) rfl)
           clear BA
           go_wp2_with (at_builtin;refine AY _ rfl (.tmp 88) (.tmp 92) _ rfl w.heap.size 250 _ 3 24 Li _ ac.length (ac.flatMap IK) rfl Cz.out (some ⟨wr.heap.size,0,none⟩) 1 1 [.int .i64 17,.int .i64 (x:Int),.int .i64 3] rfl rfl HZ.out (by simp[Value.oneCell']) (by simp) (by unfold maxLen;omega) (by omega) Hb2.out.size ?_;intro v8 w8 Au Dj _;have EJ:=Lib.hid (own_below Cz.out Dj Hb2.out Hb2.out.size);have GL:=Lib.hid Au;clear Au Dj)
           go_roundw
           case rel=>exact⟨r,ac++[(17,x,3)],by omega,by go_num,by rw[←NU.out,Hf.out];simp,by rw[Lj,List.length_append];exact GL.out,EJ.out⟩
           case measure=>simp[intOf];omega
          ·have h3':¬ (3:Int)≤(q:Int):=by omega
           obtain⟨r,hr2⟩:∃ r,r=q - 1:=⟨_,rfl⟩
           have Hf:Hid (Cb v q=(v,0,0) :: Cb v r):=Lib.hid (by rw[hr2];exact M8 v q (by omega) (by omega))
           have hs2:IntKind.i64.wrap ((q:Int) - 1)=(r:Int):=by rw[show (q:Int) - 1=(r:Int) by omega];exact IntWalk.i64_in _ (by omega)
           have hrq:r < q:=by omega
           clear hr2
           have BA:Below wr.heap.size wr (wr.alloc (.cells #[.int .i64 (v:Int),.int .i64 0,.int .i64 0] 250)):=(Below.refl _ _).alloc (Nat.le_refl _) _
           have Cz:=Lib.hid (AP HO.out BA)
           have Hb2:=Lib.hid (Hb.out.trans (BA.mono Hb.out.size))
           have HZ:Hid (AQ (wr.alloc (.cells #[.int .i64 (v:Int),.int .i64 0,.int .i64 0] 250)) (some ⟨wr.heap.size,0,none⟩) [.int .i64 (v:Int),.int .i64 0,.int .i64 0]):=Lib.hid (AQ.of_heap (heap_alloc_new _ _) rfl)
           clear BA
           go_wp2_with (at_builtin;refine AY _ rfl (.tmp 54) (.tmp 57) _ rfl w.heap.size 250 _ 3 24 Li _ ac.length (ac.flatMap IK) rfl Cz.out (some ⟨wr.heap.size,0,none⟩) 1 1 [.int .i64 (v:Int),.int .i64 0,.int .i64 0] rfl rfl HZ.out (by simp[Value.oneCell']) (by simp) (by unfold maxLen;omega) (by omega) Hb2.out.size ?_;intro v8 w8 Au Dj _;have EJ:=Lib.hid (own_below Cz.out Dj Hb2.out Hb2.out.size);have GL:=Lib.hid Au;clear Au Dj)
           go_roundw
           case rel=>exact⟨r,ac++[(v,0,0)],by omega,by go_num,by rw[←NU.out,Hf.out];simp,by rw[Lj,List.length_append];exact GL.out,EJ.out⟩
           case measure=>simp[intOf];omega
        ·obtain rfl:q=0:=by omega
         have dO:Hid (ac++FW l (k+1)=Dk l):=NU
         go_wp2_with fail
         go_roundw
         case rel=>exact⟨k+1,ac,by omega,by go_num,dO.out,HO.out,Hb.out⟩
         case measure=>simp[intOf];omega
      ·have hz:((v:Int) == 0)=false:=by rw[beq_eq_false_iff_ne];omega
       have dN:=Lib.hid hv0
       obtain⟨r0,hr0⟩:∃ r,r=q - 1:=⟨_,rfl⟩
       have hs0:IntKind.i64.wrap ((q:Int) - 1)=(r0:Int):=by rw[show (q:Int) - 1=(r0:Int) by omega];exact IntWalk.i64_in _ (by omega)
       have si:ac.length≤1000:=by have h1:=congrArg List.length NU.out;rw[List.length_append]at h1;have h2:=HL.out;have h3:=HM.out;omega
       have BA:Below w1.heap.size w1 (w1.alloc (.cells #[.int .i64 (v:Int),.int .i64 0,.int .i64 0] 250)):=(Below.refl _ _).alloc (Nat.le_refl _) _
       have Cz:=Lib.hid (AP U7.out BA)
       have Hb2:=Lib.hid (Hb1.out.trans (BA.mono Hb1.out.size))
       have HZ:Hid (AQ (w1.alloc (.cells #[.int .i64 (v:Int),.int .i64 0,.int .i64 0] 250)) (some ⟨w1.heap.size,0,none⟩) [.int .i64 (v:Int),.int .i64 0,.int .i64 0]):=Lib.hid (AQ.of_heap (heap_alloc_new _ _) rfl)
       clear BA hv0
       go_wp2_with (at_builtin;refine AY _ rfl (.tmp 45) (.tmp 48) _ rfl w.heap.size 250 _ 3 24 Li _ ac.length (ac.flatMap IK) rfl Cz.out (some ⟨w1.heap.size,0,none⟩) 1 1 [.int .i64 (v:Int),.int .i64 0,.int .i64 0] rfl rfl HZ.out (by simp[Value.oneCell']) (by simp) (by unfold maxLen;omega) (by omega) Hb2.out.size ?_;intro v8 w8 Au Dj _;have EJ:=Lib.hid (own_below Cz.out Dj Hb2.out Hb2.out.size);have GL:=Lib.hid Au;clear Au Dj)
       go_loopw [3,5] (fun vo vn wr=>∃ (q:Nat) (ac:List (Nat×Nat×Nat)),q≤n∧vn=.int .i64 (q:Int)∧ac++(Cb v q++FW l (k+1))=Dk l∧wr.ownsRow w.heap.size 250 3 vo ac.length (ac.flatMap IK)∧Below w.heap.size w wr) (fun _ vn _=>(intOf vn).toNat)
       case atStart=>exact⟨q - 1,ac++[(v,0,0)],by omega,by rw[show ((q - 1:Nat):Int)=(r0:Int) by omega],by have:=NU.out;rw[Sl.out,if_neg dN.out]at this;rw[←this];simp,by rw[Lj,List.length_append];exact GL.out,EJ.out⟩
       case round=>
        clear U7 Hb1
        have ADK:=NU
        clear NU
        clear Cy hq1 hq3
        obtain⟨q,ac,hq,rfl,hac,ho,hb⟩:=hrel
        have NU:=Lib.hid hac
        have HO:=Lib.hid ho
        have Hb:=Lib.hid hb
        have si:ac.length≤1000:=by have h1:=congrArg List.length hac;rw[List.length_append]at h1;have h2:=HL.out;have h3:=HM.out;omega
        clear hac ho hb
        by_cases hq0:0 < q
        ·have ADL:(0:Int) < (q:Int):=by omega
         by_cases h3:3≤q
         ·have h3':(3:Int)≤(q:Int):=by omega
          obtain⟨x,hx2⟩:∃ x,x=min q 6 - 3:=⟨_,rfl⟩
          obtain⟨r,hr2⟩:∃ r,r=q - min q 6:=⟨_,rfl⟩
          have Hf:Hid (Cb v q=(16,x,2) :: Cb v r):=Lib.hid (by rw[hx2,hr2];exact Yx v q dN.out h3)
          have hmin:∀ (ts:Array TypeId) (ty:TypeId) (W:World),(Builtin.min_ ts ty #[.int .i64 (q:Int),.int .i64 6]).run Tryz.prog W=.ok (.int .i64 ((x:Int)+3)) W:=fun ts ty W=>by rw[KD,show min (q:Int) 6=(x:Int)+3 by omega]
          have hs1:IntKind.i64.wrap ((x:Int)+3 - 3)=(x:Int):=by rw[show (x:Int)+3 - 3=(x:Int) by omega];exact IntWalk.i64_in _ (by omega)
          have hs2:IntKind.i64.wrap ((q:Int) - ((x:Int)+3))=(r:Int):=by rw[show (q:Int) - ((x:Int)+3)=(r:Int) by omega];exact IntWalk.i64_in _ (by omega)
          have hrq:r < q:=by omega
          have hx3:x≤1000:=by omega
          clear hx2 hr2
          have BA:Below wr.heap.size wr (wr.alloc (.cells #[.int .i64 16,.int .i64 (x:Int),.int .i64 2] 250)):=(Below.refl _ _).alloc (Nat.le_refl _) _
          have Cz:=Lib.hid (AP HO.out BA)
          have Hb2:=Lib.hid (Hb.out.trans (BA.mono Hb.out.size))
          have HZ:Hid (AQ (wr.alloc (.cells #[.int .i64 16,.int .i64 (x:Int),.int .i64 2] 250)) (some ⟨wr.heap.size,0,none⟩) [.int .i64 16,.int .i64 (x:Int),.int .i64 2]):=Lib.hid (AQ.of_heap (heap_alloc_new _ _) rfl)
          clear BA
          go_wp2_with (at_builtin;refine AY _ rfl (.tmp 106) (.tmp 110) _ rfl w.heap.size 250 _ 3 24 Li _ ac.length (ac.flatMap IK) rfl Cz.out (some ⟨wr.heap.size,0,none⟩) 1 1 [.int .i64 16,.int .i64 (x:Int),.int .i64 2] rfl rfl HZ.out (by simp[Value.oneCell']) (by simp) (by unfold maxLen;omega) (by omega) Hb2.out.size ?_;intro v8 w8 Au Dj _;have EJ:=Lib.hid (own_below Cz.out Dj Hb2.out Hb2.out.size);have GL:=Lib.hid Au;clear Au Dj)
          go_roundw
          case rel=>exact⟨r,ac++[(16,x,2)],by omega,by go_num,by rw[←NU.out,Hf.out];simp,by rw[Lj,List.length_append];exact GL.out,EJ.out⟩
          case measure=>simp[intOf];omega
         ·have h3':¬ (3:Int)≤(q:Int):=by omega
          obtain⟨r,hr2⟩:∃ r,r=q - 1:=⟨_,rfl⟩
          have Hf:Hid (Cb v q=(v,0,0) :: Cb v r):=Lib.hid (by rw[hr2];exact M8 v q (by omega) (by omega))
          have hs2:IntKind.i64.wrap ((q:Int) - 1)=(r:Int):=by rw[show (q:Int) - 1=(r:Int) by omega];exact IntWalk.i64_in _ (by omega)
          have hrq:r < q:=by omega
          clear hr2
          have BA:Below wr.heap.size wr (wr.alloc (.cells #[.int .i64 (v:Int),.int .i64 0,.int .i64 0] 250)):=(Below.refl _ _).alloc (Nat.le_refl _) _
          have Cz:=Lib.hid (AP HO.out BA)
          have Hb2:=Lib.hid (Hb.out.trans (BA.mono Hb.out.size))
          have HZ:Hid (AQ (wr.alloc (.cells #[.int .i64 (v:Int),.int .i64 0,.int .i64 0] 250)) (some ⟨wr.heap.size,0,none⟩) [.int .i64 (v:Int),.int .i64 0,.int .i64 0]):=Lib.hid (AQ.of_heap (heap_alloc_new _ _) rfl)
          clear BA
          go_wp2_with (at_builtin;refine AY _ rfl (.tmp 54) (.tmp 57) _ rfl w.heap.size 250 _ 3 24 Li _ ac.length (ac.flatMap IK) rfl Cz.out (some ⟨wr.heap.size,0,none⟩) 1 1 [.int .i64 (v:Int),.int .i64 0,.int .i64 0] rfl rfl HZ.out (by simp[Value.oneCell']) (by simp) (by unfold maxLen;omega) (by omega) Hb2.out.size ?_;intro v8 w8 Au Dj _;have EJ:=Lib.hid (own_below Cz.out Dj Hb2.out Hb2.out.size);have GL:=Lib.hid Au;clear Au Dj)
          go_roundw
          case rel=>exact⟨r,ac++[(v,0,0)],by omega,by go_num,by rw[←NU.out,Hf.out];simp,by rw[Lj,List.length_append];exact GL.out,EJ.out⟩
          case measure=>simp[intOf];omega
        ·obtain rfl:q=0:=by omega
         have dO:Hid (ac++FW l (k+1)=Dk l):=NU
         go_wp2_with fail
         go_roundw
         case rel=>exact⟨k+1,ac,by omega,by go_num,dO.out,HO.out,Hb.out⟩
         case measure=>simp[intOf];omega
    ·have g2:decide ((i:Int)+(q:Int) < (n:Int))=false:=by simp;omega
     have Cy:=Lib.hid (HS.out (Or.inl (by rw[HM.out];omega)))
     clear HS HT
     go_wp2_with fail
     go_quiet (fail)
     have U7:Hid (((wo.drewN d).drewN nq).ownsRow w.heap.size 250 3 _ ac.length (ac.flatMap IK)):=HO
     have Hb1:=Lib.hid (below_drewN' (below_drewN' Hb.out d) nq)
     obtain⟨k,hk⟩:∃ k,i+q=k+1:=⟨i+q - 1,by omega⟩
     obtain⟨hk2,hk3⟩:=Yz l i (q - 1) hil (by have:=Cy.out;omega)
     have Sl:Hid (FW l i=(if v=0 then Cb 0 q++FW l (k+1) else (v,0,0) :: (Cb v (q - 1)++FW l (k+1)))):=Lib.hid (by
      rw[Nw l i hil,Cy.out,Vi,hvd.out,hk]
      split <;> rfl)
     obtain⟨b',o',hbb,hck⟩:=(HA.out.below Hb1.out).get (k:=k) (by rw[List.length_map];omega)
     injection hbb with hbb;injection hbb with e1 e2 e3;subst e1 e2
     have hkv:∀ h:k < l.length,l[k]=v:=fun h=>by
      rw[Hv.out,←hk3];congr 1;omega
     simp only[List.getElem_map,BR]at hck
     rw[hkv (by omega)]at hck
     have hsk:IntKind.i64.wrap ((i:Int)+(q:Int))=(k:Int)+1:=by rw[show (i:Int)+(q:Int)=(k:Int)+1 by omega];exact IntWalk.i64_in _ (by omega)
     have AJ5:IntKind.i64.wrap ((k:Int)+1 - 1)=(k:Int):=by rw[show (k:Int)+1 - 1=(k:Int) by omega];exact IntWalk.i64_in _ (by omega)
     have hkn:k < n:=by omega
     have hik:i≤k:=by omega
     generalize (wo.drewN d).drewN nq=w1 at *
     clear s1 hk hk2 hk3 hkv HC0 g2 HO Hb
     skip
     by_cases hv0:v=0
     ·have hz:((v:Int) == 0)=true:=by simp;omega
      have dN:=Lib.hid hv0
      clear hv0
      go_wp2_with fail
      go_loopw [3,5] (fun vo vn wr=>∃ (q:Nat) (ac:List (Nat×Nat×Nat)),q≤n∧vn=.int .i64 (q:Int)∧ac++(Cb v q++FW l (k+1))=Dk l∧wr.ownsRow w.heap.size 250 3 vo ac.length (ac.flatMap IK)∧Below w.heap.size w wr) (fun _ vn _=>(intOf vn).toNat)
      case atStart=>exact⟨q,ac,by omega,rfl,by have:=NU.out;rw[Sl.out,if_pos dN.out]at this;rw[dN.out];exact this,U7.out,Hb1.out⟩
      case round=>
       clear U7 Hb1
       have ADK:=NU
       clear NU
       clear Cy hq1 hq3
       obtain⟨q,ac,hq,rfl,hac,ho,hb⟩:=hrel
       have NU:=Lib.hid hac
       have HO:=Lib.hid ho
       have Hb:=Lib.hid hb
       have si:ac.length≤1000:=by have h1:=congrArg List.length hac;rw[List.length_append]at h1;have h2:=HL.out;have h3:=HM.out;omega
       clear hac ho hb
       by_cases hq0:0 < q
       ·have ADL:(0:Int) < (q:Int):=by omega
        by_cases h11:11≤q
        ·have ADM:(11:Int)≤(q:Int):=by omega
         obtain⟨x,hx2⟩:∃ x,x=min q 138 - 11:=⟨_,rfl⟩
         obtain⟨r,hr2⟩:∃ r,r=q - min q 138:=⟨_,rfl⟩
         have Hf:Hid (Cb v q=(18,x,7) :: Cb v r):=Lib.hid (by rw[hx2,hr2];rw[dN.out];exact Yv q h11)
         have hmin:∀ (ts:Array TypeId) (ty:TypeId) (W:World),(Builtin.min_ ts ty #[.int .i64 (q:Int),.int .i64 138]).run Tryz.prog W=.ok (.int .i64 ((x:Int)+11)) W:=fun ts ty W=>by rw[KD,show min (q:Int) 138=(x:Int)+11 by omega]
         have hs1:IntKind.i64.wrap ((x:Int)+11 - 11)=(x:Int):=by rw[show (x:Int)+11 - 11=(x:Int) by omega];exact IntWalk.i64_in _ (by omega)
         have hs2:IntKind.i64.wrap ((q:Int) - ((x:Int)+11))=(r:Int):=by rw[show (q:Int) - ((x:Int)+11)=(r:Int) by omega];exact IntWalk.i64_in _ (by omega)
         have hrq:r < q:=by omega
         have hx3:x≤1000:=by omega
         clear hx2 hr2
         have BA:Below wr.heap.size wr (wr.alloc (.cells #[.int .i64 18,.int .i64 (x:Int),.int .i64 7] 250)):=(Below.refl _ _).alloc (Nat.le_refl _) _
         have Cz:=Lib.hid (AP HO.out BA)
         have Hb2:=Lib.hid (Hb.out.trans (BA.mono Hb.out.size))
         have HZ:Hid (AQ (wr.alloc (.cells #[.int .i64 18,.int .i64 (x:Int),.int .i64 7] 250)) (some ⟨wr.heap.size,0,none⟩) [.int .i64 18,.int .i64 (x:Int),.int .i64 7]):=Lib.hid (AQ.of_heap (heap_alloc_new _ _) rfl)
         clear BA
         go_wp2_with (at_builtin;refine AY _ rfl (.tmp 70) (.tmp 74) _ rfl w.heap.size 250 _ 3 24 Li _ ac.length (ac.flatMap IK) rfl Cz.out (some ⟨wr.heap.size,0,none⟩) 1 1 [.int .i64 18,.int .i64 (x:Int),.int .i64 7] rfl rfl HZ.out (by simp[Value.oneCell']) (by simp) (by unfold maxLen;omega) (by omega) Hb2.out.size ?_;intro v8 w8 Au Dj _;have EJ:=Lib.hid (own_below Cz.out Dj Hb2.out Hb2.out.size);have GL:=Lib.hid Au;clear Au Dj)
         go_roundw
         case rel=>exact⟨r,ac++[(18,x,7)],by omega,by go_num,by rw[←NU.out,Hf.out];simp,by rw[Lj,List.length_append];exact GL.out,EJ.out⟩
         case measure=>simp[intOf];omega
        ·have ADM:¬ (11:Int)≤(q:Int):=by omega
         by_cases h3:3≤q
         ·have h3':(3:Int)≤(q:Int):=by omega
          obtain⟨x,hx2⟩:∃ x,x=min q 10 - 3:=⟨_,rfl⟩
          obtain⟨r,hr2⟩:∃ r,r=q - min q 10:=⟨_,rfl⟩
          have Hf:Hid (Cb v q=(17,x,3) :: Cb v r):=Lib.hid (by rw[hx2,hr2];rw[dN.out];exact Yw q h3 (by omega))
          have hmin:∀ (ts:Array TypeId) (ty:TypeId) (W:World),(Builtin.min_ ts ty #[.int .i64 (q:Int),.int .i64 10]).run Tryz.prog W=.ok (.int .i64 ((x:Int)+3)) W:=fun ts ty W=>by rw[KD,show min (q:Int) 10=(x:Int)+3 by omega]
          have hs1:IntKind.i64.wrap ((x:Int)+3 - 3)=(x:Int):=by rw[show (x:Int)+3 - 3=(x:Int) by omega];exact IntWalk.i64_in _ (by omega)
          have hs2:IntKind.i64.wrap ((q:Int) - ((x:Int)+3))=(r:Int):=by rw[show (q:Int) - ((x:Int)+3)=(r:Int) by omega];exact IntWalk.i64_in _ (by omega)
          have hrq:r < q:=by omega
          have hx3:x≤1000:=by omega
          clear hx2 hr2
          have BA:Below wr.heap.size wr (wr.alloc (.cells #[.int .i64 17,.int .i64 (x:Int),.int .i64 3] 250)):=(Below.refl _ _).alloc (Nat.le_refl _) _
          have Cz:=Lib.hid (AP HO.out BA)
          have Hb2:=Lib.hid (Hb.out.trans (BA.mono Hb.out.size))
          have HZ:Hid (AQ (wr.alloc (.cells #[.int .i64 17,.int .i64 (x:Int),.int .i64 3] 250)) (some ⟨wr.heap.size,0,none⟩) [.int .i64 17,.int .i64 (x:Int),.int .i64 3]):=Lib.hid (AQ.of_heap (heap_alloc_new _ _) rfl)
          clear BA
          go_wp2_with (at_builtin;refine AY _ rfl (.tmp 88) (.tmp 92) _ rfl w.heap.size 250 _ 3 24 Li _ ac.length (ac.flatMap IK) rfl Cz.out (some ⟨wr.heap.size,0,none⟩) 1 1 [.int .i64 17,.int .i64 (x:Int),.int .i64 3] rfl rfl HZ.out (by simp[Value.oneCell']) (by simp) (by unfold maxLen;omega) (by omega) Hb2.out.size ?_;intro v8 w8 Au Dj _;have EJ:=Lib.hid (own_below Cz.out Dj Hb2.out Hb2.out.size);have GL:=Lib.hid Au;clear Au Dj)
          go_roundw
          case rel=>exact⟨r,ac++[(17,x,3)],by omega,by go_num,by rw[←NU.out,Hf.out];simp,by rw[Lj,List.length_append];exact GL.out,EJ.out⟩
          case measure=>simp[intOf];omega
         ·have h3':¬ (3:Int)≤(q:Int):=by omega
          obtain⟨r,hr2⟩:∃ r,r=q - 1:=⟨_,rfl⟩
          have Hf:Hid (Cb v q=(v,0,0) :: Cb v r):=Lib.hid (by rw[hr2];exact M8 v q (by omega) (by omega))
          have hs2:IntKind.i64.wrap ((q:Int) - 1)=(r:Int):=by rw[show (q:Int) - 1=(r:Int) by omega];exact IntWalk.i64_in _ (by omega)
          have hrq:r < q:=by omega
          clear hr2
          have BA:Below wr.heap.size wr (wr.alloc (.cells #[.int .i64 (v:Int),.int .i64 0,.int .i64 0] 250)):=(Below.refl _ _).alloc (Nat.le_refl _) _
          have Cz:=Lib.hid (AP HO.out BA)
          have Hb2:=Lib.hid (Hb.out.trans (BA.mono Hb.out.size))
          have HZ:Hid (AQ (wr.alloc (.cells #[.int .i64 (v:Int),.int .i64 0,.int .i64 0] 250)) (some ⟨wr.heap.size,0,none⟩) [.int .i64 (v:Int),.int .i64 0,.int .i64 0]):=Lib.hid (AQ.of_heap (heap_alloc_new _ _) rfl)
          clear BA
          go_wp2_with (at_builtin;refine AY _ rfl (.tmp 54) (.tmp 57) _ rfl w.heap.size 250 _ 3 24 Li _ ac.length (ac.flatMap IK) rfl Cz.out (some ⟨wr.heap.size,0,none⟩) 1 1 [.int .i64 (v:Int),.int .i64 0,.int .i64 0] rfl rfl HZ.out (by simp[Value.oneCell']) (by simp) (by unfold maxLen;omega) (by omega) Hb2.out.size ?_;intro v8 w8 Au Dj _;have EJ:=Lib.hid (own_below Cz.out Dj Hb2.out Hb2.out.size);have GL:=Lib.hid Au;clear Au Dj)
          go_roundw
          case rel=>exact⟨r,ac++[(v,0,0)],by omega,by go_num,by rw[←NU.out,Hf.out];simp,by rw[Lj,List.length_append];exact GL.out,EJ.out⟩
          case measure=>simp[intOf];omega
       ·obtain rfl:q=0:=by omega
        have dO:Hid (ac++FW l (k+1)=Dk l):=NU
        go_wp2_with fail
        go_roundw
        case rel=>exact⟨k+1,ac,by omega,by go_num,dO.out,HO.out,Hb.out⟩
        case measure=>simp[intOf];omega
     ·have hz:((v:Int) == 0)=false:=by rw[beq_eq_false_iff_ne];omega
      have dN:=Lib.hid hv0
      obtain⟨r0,hr0⟩:∃ r,r=q - 1:=⟨_,rfl⟩
      have hs0:IntKind.i64.wrap ((q:Int) - 1)=(r0:Int):=by rw[show (q:Int) - 1=(r0:Int) by omega];exact IntWalk.i64_in _ (by omega)
      have si:ac.length≤1000:=by have h1:=congrArg List.length NU.out;rw[List.length_append]at h1;have h2:=HL.out;have h3:=HM.out;omega
      have BA:Below w1.heap.size w1 (w1.alloc (.cells #[.int .i64 (v:Int),.int .i64 0,.int .i64 0] 250)):=(Below.refl _ _).alloc (Nat.le_refl _) _
      have Cz:=Lib.hid (AP U7.out BA)
      have Hb2:=Lib.hid (Hb1.out.trans (BA.mono Hb1.out.size))
      have HZ:Hid (AQ (w1.alloc (.cells #[.int .i64 (v:Int),.int .i64 0,.int .i64 0] 250)) (some ⟨w1.heap.size,0,none⟩) [.int .i64 (v:Int),.int .i64 0,.int .i64 0]):=Lib.hid (AQ.of_heap (heap_alloc_new _ _) rfl)
      clear BA hv0
      go_wp2_with (at_builtin;refine AY _ rfl (.tmp 45) (.tmp 48) _ rfl w.heap.size 250 _ 3 24 Li _ ac.length (ac.flatMap IK) rfl Cz.out (some ⟨w1.heap.size,0,none⟩) 1 1 [.int .i64 (v:Int),.int .i64 0,.int .i64 0] rfl rfl HZ.out (by simp[Value.oneCell']) (by simp) (by unfold maxLen;omega) (by omega) Hb2.out.size ?_;intro v8 w8 Au Dj _;have EJ:=Lib.hid (own_below Cz.out Dj Hb2.out Hb2.out.size);have GL:=Lib.hid Au;clear Au Dj)
      go_loopw [3,5] (fun vo vn wr=>∃ (q:Nat) (ac:List (Nat×Nat×Nat)),q≤n∧vn=.int .i64 (q:Int)∧ac++(Cb v q++FW l (k+1))=Dk l∧wr.ownsRow w.heap.size 250 3 vo ac.length (ac.flatMap IK)∧Below w.heap.size w wr) (fun _ vn _=>(intOf vn).toNat)
      case atStart=>exact⟨q - 1,ac++[(v,0,0)],by omega,by rw[show ((q - 1:Nat):Int)=(r0:Int) by omega],by have:=NU.out;rw[Sl.out,if_neg dN.out]at this;rw[←this];simp,by rw[Lj,List.length_append];exact GL.out,EJ.out⟩
      case round=>
       clear U7 Hb1
       have ADK:=NU
       clear NU
       clear Cy hq1 hq3
       obtain⟨q,ac,hq,rfl,hac,ho,hb⟩:=hrel
       have NU:=Lib.hid hac
       have HO:=Lib.hid ho
       have Hb:=Lib.hid hb
       have si:ac.length≤1000:=by have h1:=congrArg List.length hac;rw[List.length_append]at h1;have h2:=HL.out;have h3:=HM.out;omega
       clear hac ho hb
       by_cases hq0:0 < q
       ·have ADL:(0:Int) < (q:Int):=by omega
        by_cases h3:3≤q
        ·have h3':(3:Int)≤(q:Int):=by omega
         obtain⟨x,hx2⟩:∃ x,x=min q 6 - 3:=⟨_,rfl⟩
         obtain⟨r,hr2⟩:∃ r,r=q - min q 6:=⟨_,rfl⟩
         have Hf:Hid (Cb v q=(16,x,2) :: Cb v r):=Lib.hid (by rw[hx2,hr2];exact Yx v q dN.out h3)
         have hmin:∀ (ts:Array TypeId) (ty:TypeId) (W:World),(Builtin.min_ ts ty #[.int .i64 (q:Int),.int .i64 6]).run Tryz.prog W=.ok (.int .i64 ((x:Int)+3)) W:=fun ts ty W=>by rw[KD,show min (q:Int) 6=(x:Int)+3 by omega]
         have hs1:IntKind.i64.wrap ((x:Int)+3 - 3)=(x:Int):=by rw[show (x:Int)+3 - 3=(x:Int) by omega];exact IntWalk.i64_in _ (by omega)
         have hs2:IntKind.i64.wrap ((q:Int) - ((x:Int)+3))=(r:Int):=by rw[show (q:Int) - ((x:Int)+3)=(r:Int) by omega];exact IntWalk.i64_in _ (by omega)
         have hrq:r < q:=by omega
         have hx3:x≤1000:=by omega
         clear hx2 hr2
         have BA:Below wr.heap.size wr (wr.alloc (.cells #[.int .i64 16,.int .i64 (x:Int),.int .i64 2] 250)):=(Below.refl _ _).alloc (Nat.le_refl _) _
         have Cz:=Lib.hid (AP HO.out BA)
         have Hb2:=Lib.hid (Hb.out.trans (BA.mono Hb.out.size))
         have HZ:Hid (AQ (wr.alloc (.cells #[.int .i64 16,.int .i64 (x:Int),.int .i64 2] 250)) (some ⟨wr.heap.size,0,none⟩) [.int .i64 16,.int .i64 (x:Int),.int .i64 2]):=Lib.hid (AQ.of_heap (heap_alloc_new _ _) rfl)
         clear BA
         go_wp2_with (at_builtin;refine AY _ rfl (.tmp 106) (.tmp 110) _ rfl w.heap.size 250 _ 3 24 Li _ ac.length (ac.flatMap IK) rfl Cz.out (some ⟨wr.heap.size,0,none⟩) 1 1 [.int .i64 16,.int .i64 (x:Int),.int .i64 2] rfl rfl HZ.out (by simp[Value.oneCell']) (by simp) (by unfold maxLen;omega) (by omega) Hb2.out.size ?_;intro v8 w8 Au Dj _;have EJ:=Lib.hid (own_below Cz.out Dj Hb2.out Hb2.out.size);have GL:=Lib.hid Au;clear Au Dj)
         go_roundw
         case rel=>exact⟨r,ac++[(16,x,2)],by omega,by go_num,by rw[←NU.out,Hf.out];simp,by rw[Lj,List.length_append];exact GL.out,EJ.out⟩
         case measure=>simp[intOf];omega
        ·have h3':¬ (3:Int)≤(q:Int):=by omega
         obtain⟨r,hr2⟩:∃ r,r=q - 1:=⟨_,rfl⟩
         have Hf:Hid (Cb v q=(v,0,0) :: Cb v r):=Lib.hid (by rw[hr2];exact M8 v q (by omega) (by omega))
         have hs2:IntKind.i64.wrap ((q:Int) - 1)=(r:Int):=by rw[show (q:Int) - 1=(r:Int) by omega];exact IntWalk.i64_in _ (by omega)
         have hrq:r < q:=by omega
         clear hr2
         have BA:Below wr.heap.size wr (wr.alloc (.cells #[.int .i64 (v:Int),.int .i64 0,.int .i64 0] 250)):=(Below.refl _ _).alloc (Nat.le_refl _) _
         have Cz:=Lib.hid (AP HO.out BA)
         have Hb2:=Lib.hid (Hb.out.trans (BA.mono Hb.out.size))
         have HZ:Hid (AQ (wr.alloc (.cells #[.int .i64 (v:Int),.int .i64 0,.int .i64 0] 250)) (some ⟨wr.heap.size,0,none⟩) [.int .i64 (v:Int),.int .i64 0,.int .i64 0]):=Lib.hid (AQ.of_heap (heap_alloc_new _ _) rfl)
         clear BA
         go_wp2_with (at_builtin;refine AY _ rfl (.tmp 54) (.tmp 57) _ rfl w.heap.size 250 _ 3 24 Li _ ac.length (ac.flatMap IK) rfl Cz.out (some ⟨wr.heap.size,0,none⟩) 1 1 [.int .i64 (v:Int),.int .i64 0,.int .i64 0] rfl rfl HZ.out (by simp[Value.oneCell']) (by simp) (by unfold maxLen;omega) (by omega) Hb2.out.size ?_;intro v8 w8 Au Dj _;have EJ:=Lib.hid (own_below Cz.out Dj Hb2.out Hb2.out.size);have GL:=Lib.hid Au;clear Au Dj)
         go_roundw
         case rel=>exact⟨r,ac++[(v,0,0)],by omega,by go_num,by rw[←NU.out,Hf.out];simp,by rw[Lj,List.length_append];exact GL.out,EJ.out⟩
         case measure=>simp[intOf];omega
       ·obtain rfl:q=0:=by omega
        have dO:Hid (ac++FW l (k+1)=Dk l):=NU
        go_wp2_with fail
        go_roundw
        case rel=>exact⟨k+1,ac,by omega,by go_num,dO.out,HO.out,Hb.out⟩
        case measure=>simp[intOf];omega
  ·obtain rfl:i=n:=by omega
   have sj:Hid (ac=Dk l):=Lib.hid (by have:=NU.out;rw[Vj l i (by rw[HM.out];exact Nat.le_refl _),List.append_nil]at this;exact this)
   go_wp2_with fail
   go_ret
   exact⟨⟨_,rfl,by rw[←sj.out];exact HO.out⟩,Hb.out⟩
end Go.Proofs.YtabdianhoabhhaaGreatDoor.AV
namespace Go.Proofs.YtabdianhoabhhaaGreatDoor.Rt
open Go.Proofs.YtabdianhoabhhaaGreatDoor.Bits Go.Proofs.YtabdianhoabhhaaGreatDoor.Code Go.Proofs.YtabdianhoabhhaaGreatDoor.Match Go.Proofs.YtabdianhoabhhaaGreatDoor.SP Go.Proofs.YtabdianhoabhhaaGreatDoor.Inf Go.Proofs.YtabdianhoabhhaaGreatDoor.AV
set_option linter.unusedVariables false
def Cf (l:List Nat) (x:Nat×Nat×Nat):List Nat:=
 if x.1=16 then l++List.replicate (3+x.2.1) (l.getLastD 0) else if x.1=17 then l++List.replicate (3+x.2.1) 0 else if x.1=18 then l++List.replicate (11+x.2.1) 0 else l++[x.1]
def JK (x:Nat×Nat×Nat):Prop:=(x.1=16∧x.2.2=2∧x.2.1 < 4)∨(x.1=17∧x.2.2=3∧x.2.1 < 8)∨(x.1=18∧x.2.2=7∧x.2.1 < 128)∨(x.1≤15∧x.2.1=0∧x.2.2=0)
theorem OM (l:List Nat) (x:Nat×Nat×Nat):l.length < (Cf l x).length:=by
 unfold Cf
 (repeat' split) <;> simp <;> omega
theorem YA:∀ (xs:List (Nat×Nat×Nat)) (l:List Nat),l.length≤(xs.foldl Cf l).length
 | [],l=>Nat.le_refl _
 | x :: xs,l=>Nat.le_trans (Nat.le_of_lt (OM l x)) (YA xs _)
theorem PQ (n:Nat) (l:List Nat) (v k:Nat) (h:l.length+k≤n):Dm n l v k=.ok (l++List.replicate k v):=by
 unfold Dm;rw[if_neg (by omega)]
def MO (sz:List Nat) (x:Nat×Nat×Nat):List Bool:=ES sz x.1++numBits x.2.1 x.2.2
theorem xJ {row:List Bool} {sz l:List Nat} {p n:Nat} {x:Nat×Nat×Nat} (hc:Cd sz) (h:Has row p (MO sz x)) (h0:sz.getD x.1 0≠0) (hx:JK x) (hl:l=[]→x.1≠16) (hn:(Cf l x).length≤n) :
  GU row sz n p l=.ok (p+(MO sz x).length,Cf l x):=by
 obtain⟨a,b,c⟩:=x
 unfold MO at h⊢
 unfold JK at hx
 unfold Cf at hn⊢
 dsimp only at *
 have h1:=h.left
 have h2:=h.right
 rw[Bz]at h2
 rw[List.length_append,Bz,AL]
 unfold GU
 rw[PN hc h1 h0,thn]
 dsimp only
 rcases hx with ⟨rfl,rfl,h3⟩ | ⟨rfl,rfl,h3⟩ | ⟨rfl,rfl,h3⟩ | ⟨h3,rfl,rfl⟩
 ·rw[if_pos rfl]at hn⊢
  rw[if_pos rfl,if_neg (fun e=>hl e rfl),EH h2 h3,thn]
  dsimp only
  rw[List.length_append,List.length_replicate]at hn
  rw[PQ n l _ _ (by omega),thn,Nat.add_assoc]
 ·rw[if_neg (by omega),if_pos rfl]at hn⊢
  rw[if_neg (by omega),if_pos rfl,EH h2 h3,thn]
  dsimp only
  rw[List.length_append,List.length_replicate]at hn
  rw[PQ n l _ _ (by omega),thn,Nat.add_assoc]
 ·rw[if_neg (by omega),if_neg (by omega),if_pos rfl]at hn⊢
  rw[if_neg (by omega),if_neg (by omega),if_pos rfl,EH h2 h3,thn]
  dsimp only
  rw[List.length_append,List.length_replicate]at hn
  rw[PQ n l _ _ (by omega),thn,Nat.add_assoc]
 ·rw[if_neg (by omega),if_neg (by omega),if_neg (by omega)]at hn⊢
  rw[if_neg (by omega),if_neg (by omega),if_neg (by omega)]
  rw[List.length_append,List.length_singleton]at hn
  rw[PQ n l _ _ (by omega),thn,Nat.add_zero]
  rfl
theorem Z5 {row:List Bool} {sz:List Nat} {n:Nat} (hc:Cd sz):∀ (xs:List (Nat×Nat×Nat)) (p:Nat) (l:List Nat) (fuel:Nat),Has row p (xs.flatMap (MO sz))→(∀ x∈xs,sz.getD x.1 0≠0∧JK x)→(l=[]→∀ x,xs.head?=some x→x.1≠16)→
  (xs.foldl Cf l).length=n→n≤fuel+l.length→JZ row sz n fuel p l=.ok (p+(xs.flatMap (MO sz)).length,xs.foldl Cf l)
 | [],p,l,0,h,hx,hh,hn,hf=>by simp[JZ]
 | [],p,l,f+1,h,hx,hh,hn,hf=>by
  have:l.length=n:=hn
  unfold JZ
  rw[if_pos (by omega)]
  simp
 | x :: xs,p,l,0,h,hx,hh,hn,hf=>by
  rw[List.foldl_cons]at hn
  have h1:=OM l x
  have h2:=YA xs (Cf l x)
  omega
 | x :: xs,p,l,f+1,h,hx,hh,hn,hf=>by
  rw[List.foldl_cons]at hn⊢
  rw[List.flatMap_cons]at h⊢
  have h1:=OM l x
  have h2:=YA xs (Cf l x)
  obtain⟨h3,h4⟩:=hx x List.mem_cons_self
  unfold JZ
  rw[if_neg (by omega),xJ hc h.left h3 h4 (fun e=>hh e x rfl) (by omega),thn]
  dsimp only
  rw[Z5 hc xs _ _ f h.right (fun y hy=>hx y (List.mem_cons_of_mem _ hy)) (fun e=>by rw[e]at h1;simp at h1) hn (by omega),List.length_append,Nat.add_assoc]
theorem LK (l:List Nat) (v k:Nat) (h:0 < k):(l++List.replicate k v).getLastD 0=v:=by
 obtain⟨j,rfl⟩:∃ j,k=j+1:=⟨k - 1,by omega⟩
 rw[List.replicate_succ',←List.append_assoc]
 simp
theorem I1 (v:Nat) (hv:v≤15):∀ (f n:Nat) (l:List Nat),n≤f→(v≠0→l.getLastD 0=v)→(D5 v f n).foldl Cf l=l++List.replicate n v
 | 0,n,l,h,_=>by
  obtain rfl:n=0:=by omega
  simp[D5]
 | f+1,n,l,h,hl=>by
  unfold D5
  by_cases h0:n=0
  ·rw[if_pos h0,h0];simp
  ·rw[if_neg h0]
   by_cases h1:v=0∧11≤n
   ·rw[if_pos h1,List.foldl_cons]
    obtain⟨rfl,h1⟩:=h1
    have e:Cf l (18,min n 138 - 11,7)=l++List.replicate (min n 138) 0:=by
     unfold Cf
     rw[if_neg (by dsimp only;omega),if_neg (by dsimp only;omega),if_pos rfl]
     dsimp only
     rw[show 11+(min n 138 - 11)=min n 138 by omega]
    rw[e,I1 0 (by omega) f _ _ (by omega) (fun h=>absurd rfl h),List.append_assoc,List.replicate_append_replicate]
    congr 2;omega
   ·rw[if_neg h1]
    by_cases h2:v=0∧3≤n
    ·rw[if_pos h2,List.foldl_cons]
     obtain⟨rfl,h2⟩:=h2
     have e:Cf l (17,min n 10 - 3,3)=l++List.replicate (min n 10) 0:=by
      unfold Cf
      rw[if_neg (by dsimp only;omega),if_pos rfl]
      dsimp only
      rw[show 3+(min n 10 - 3)=min n 10 by omega]
     rw[e,I1 0 (by omega) f _ _ (by omega) (fun h=>absurd rfl h),List.append_assoc,List.replicate_append_replicate]
     congr 2;omega
    ·rw[if_neg h2]
     by_cases h3:v≠0∧3≤n
     ·rw[if_pos h3,List.foldl_cons]
      have e:Cf l (16,min n 6 - 3,2)=l++List.replicate (min n 6) v:=by
       unfold Cf
       rw[if_pos rfl]
       dsimp only
       rw[show 3+(min n 6 - 3)=min n 6 by omega,hl h3.1]
      rw[e,I1 v hv f _ _ (by omega) (fun _=>LK l v _ (by omega)),List.append_assoc,List.replicate_append_replicate]
      congr 2;omega
     ·rw[if_neg h3,List.foldl_cons]
      have e:Cf l (v,0,0)=l++List.replicate 1 v:=by
       unfold Cf
       dsimp only
       rw[if_neg (by omega),if_neg (by omega),if_neg (by omega)];rfl
      rw[e,I1 v hv f _ _ (by omega) (fun _=>LK l v 1 (by omega)),List.append_assoc,List.replicate_append_replicate]
      congr 2;omega
theorem xK (v n:Nat) (hv:v≤15) (hn:1≤n) (l:List Nat):(I9 v n).foldl Cf l=l++List.replicate n v:=by
 unfold I9
 by_cases h:v=0
 ·subst h
  rw[if_pos rfl,I1 0 (by omega) n n l (Nat.le_refl _) (fun h=>absurd rfl h)]
 ·rw[if_neg h,List.foldl_cons]
  have e:Cf l (v,0,0)=l++List.replicate 1 v:=by
   unfold Cf
   dsimp only
   rw[if_neg (by omega),if_neg (by omega),if_neg (by omega)];rfl
  rw[e,I1 v hv _ _ _ (Nat.le_refl _) (fun _=>LK l v 1 (by omega)),List.append_assoc,List.replicate_append_replicate]
  congr 2;omega
theorem AEV (l:List Nat) (v:Nat):l.takeWhile (fun x=>x == v)=List.replicate (l.takeWhile (fun x=>x == v)).length v:=by
 refine List.eq_replicate_iff.2 ⟨rfl,fun x hx=>?_⟩
 have:=List.all_takeWhile (p:=fun x=>x == v) (l:=l)
 rw[List.all_eq_true]at this
 simpa using this x hx
theorem xL (l:List Nat) (i:Nat) (h:i < l.length):l.take (i+AV.runN l i)=l.take i++List.replicate (AV.runN l i) (l.getD i 0):=by
 have e:l.getD i 0=l[i]:=by rw[List.getD_eq_getElem?_getD,List.getElem?_eq_getElem h];rfl
 unfold AV.runN
 rw[e,List.take_add,List.drop_eq_getElem_cons h,Nat.add_comm 1,List.take_succ_cons,List.replicate_succ]
 congr 2
 have hp:=List.takeWhile_prefix (l:=l.drop (i+1)) fun x=>x == l[i]
 rw[←List.prefix_iff_eq_take.1 hp]
 exact AEV _ _
theorem WK (l:List Nat) (hl:∀ y∈l,y≤15):∀ (f i:Nat),l.length≤f+i→i≤l.length→(FV l f i).foldl Cf (l.take i)=l
 | 0,i,h,h2=>by
  obtain rfl:i=l.length:=by omega
  simp[FV]
 | f+1,i,h,h2=>by
  unfold FV
  by_cases h0:l.length≤i
  ·rw[if_pos h0]
   obtain rfl:i=l.length:=by omega
   simp
  ·have hr:=Jf l i (by omega)
   have hv:l.getD i 0≤15:=by
    rw[List.getD_eq_getElem?_getD,List.getElem?_eq_getElem (by omega:i < l.length)]
    exact hl _ (List.getElem_mem _)
   rw[if_neg h0,List.foldl_append,xK _ _ hv hr.1,←xL l i (by omega),WK l hl f _ (by omega) hr.2]
theorem xM (l:List Nat) (hl:∀ y∈l,y≤15):(Dk l).foldl Cf []=l:=by
 have:=WK l hl l.length 0 (by omega) (by omega)
 rw[List.take_zero]at this
 exact this
theorem I4 (v:Nat) (hv:v≤15):∀ (f n:Nat),∀ x∈D5 v f n,JK x
 | 0,n,x,h=>by simp[D5]at h
 | f+1,n,x,h=>by
  unfold D5 at h
  by_cases h0:n=0
  ·rw[if_pos h0]at h;cases h
  ·rw[if_neg h0]at h
   by_cases h1:v=0∧11≤n
   ·rw[if_pos h1]at h
    rcases List.mem_cons.1 h with rfl | h
    ·(unfold JK;dsimp only;omega)
    ·exact I4 v hv f _ x h
   ·rw[if_neg h1]at h
    by_cases h2:v=0∧3≤n
    ·rw[if_pos h2]at h
     rcases List.mem_cons.1 h with rfl | h
     ·(unfold JK;dsimp only;omega)
     ·exact I4 v hv f _ x h
    ·rw[if_neg h2]at h
     by_cases h3:v≠0∧3≤n
     ·rw[if_pos h3]at h
      rcases List.mem_cons.1 h with rfl | h
      ·(unfold JK;dsimp only;omega)
      ·exact I4 v hv f _ x h
     ·rw[if_neg h3]at h
      rcases List.mem_cons.1 h with rfl | h
      ·(unfold JK;dsimp only;omega)
      ·exact I4 v hv f _ x h
theorem WL (l:List Nat) (hl:∀ y∈l,y≤15):∀ (f i:Nat),∀ x∈FV l f i,JK x
 | 0,i,x,h=>by simp[FV]at h
 | f+1,i,x,h=>by
  unfold FV at h
  by_cases h0:l.length≤i
  ·rw[if_pos h0]at h;cases h
  ·rw[if_neg h0]at h
   have hv:l.getD i 0≤15:=by
    rw[List.getD_eq_getElem?_getD,List.getElem?_eq_getElem (by omega:i < l.length)]
    exact hl _ (List.getElem_mem _)
   rcases List.mem_append.1 h with h | h
   ·unfold I9 at h
    by_cases h1:l.getD i 0=0
    ·rw[if_pos h1]at h;exact I4 0 (by omega) _ _ x h
    ·rw[if_neg h1]at h
     rcases List.mem_cons.1 h with rfl | h
     ·(unfold JK;dsimp only;omega)
     ·exact I4 _ hv _ _ x h
   ·exact WL l hl f _ x h
theorem xN (v n:Nat) (hv:v≤15) (hn:1≤n) (r:List (Nat×Nat×Nat)):∀ x,(I9 v n++r).head?=some x→x.1≠16:=by
 intro x hx
 unfold I9 at hx
 by_cases h:v=0
 ·subst h
  rw[if_pos rfl]at hx
  obtain⟨m,rfl⟩:∃ m,n=m+1:=⟨n - 1,by omega⟩
  unfold D5 at hx
  rw[if_neg (by omega)]at hx
  by_cases h1:(0:Nat)=0∧11≤m+1
  ·rw[if_pos h1,List.cons_append,List.head?_cons]at hx
   injection hx with hx
   rw[←hx];dsimp only;omega
  ·rw[if_neg h1]at hx
   by_cases h2:(0:Nat)=0∧3≤m+1
   ·rw[if_pos h2,List.cons_append,List.head?_cons]at hx
    injection hx with hx
    rw[←hx];dsimp only;omega
   ·rw[if_neg h2,if_neg (by omega),List.cons_append,List.head?_cons]at hx
    injection hx with hx
    rw[←hx];dsimp only;omega
 ·rw[if_neg h,List.cons_append,List.head?_cons]at hx
  injection hx with hx
  rw[←hx];dsimp only;omega
theorem pJ (l:List Nat) (hl:∀ y∈l,y≤15):∀ x,(Dk l).head?=some x→x.1≠16:=by
 intro x hx
 rw[lY]at hx
 rcases Nat.eq_zero_or_pos l.length with h | h
 ·rw[Vj l 0 (by omega)]at hx;cases hx
 ·rw[Nw l 0 h]at hx
  refine xN _ _ ?_ (Jf l 0 h).1 _ x hx
  rw[List.getD_eq_getElem?_getD,List.getElem?_eq_getElem h]
  exact hl _ (List.getElem_mem _)
theorem GY (l:List Nat) (i j:Nat):(bump l i).getD j 0=l.getD j 0+if i=j∧j < l.length then 1 else 0:=by
 unfold bump
 simp only[List.getD_eq_getElem?_getD,List.getElem?_set]
 by_cases h:i=j
 ·subst h
  by_cases hl:i < l.length
  ·rw[if_pos rfl,if_pos hl,if_pos ⟨rfl,hl⟩];rfl
  ·rw[if_pos rfl,if_neg hl,if_neg (fun h=>hl h.2),List.getElem?_eq_none (by omega)];rfl
 ·rw[if_neg h,if_neg (fun hh=>h hh.1)];rfl
theorem QS:∀ (rs:List (Nat×Nat×Nat)) (m:List Nat) (j:Nat),m.length=19→(rs.foldl (fun m x=>bump m x.1) m).length=19∧m.getD j 0≤(rs.foldl (fun m x=>bump m x.1) m).getD j 0∧((∃ x∈rs,x.1=j)→j < 19→0 < (rs.foldl (fun m x=>bump m x.1) m).getD j 0)
 | [],m,j,h=>⟨h,Nat.le_refl _,fun⟨x,hx,_⟩=>by cases hx⟩
 | x :: rs,m,j,h=>by
  obtain⟨h1,h2,h3⟩:=QS rs (bump m x.1) j (by rw[MX];exact h)
  rw[GY]at h2
  refine⟨h1,?_,?_⟩
  ·rw[List.foldl_cons];omega
  ·rintro⟨y,hy,hj⟩ hlt
   rw[List.foldl_cons]
   rcases List.mem_cons.1 hy with rfl | hy
   ·rw[if_pos ⟨hj,by omega⟩]at h2;omega
   ·exact h3 ⟨y,hy,hj⟩ hlt
theorem MS (rs:List (Nat×Nat×Nat)):(FU rs).length=19:=(QS rs _ 0 List.length_replicate).1
theorem xO (rs:List (Nat×Nat×Nat)) (x:Nat×Nat×Nat) (h:x∈rs) (h19:x.1 < 19):(FU rs).getD x.1 0≠0:=by
 have:=(QS rs (List.replicate 19 0) x.1 List.length_replicate).2.2 ⟨x,h,rfl⟩ h19
 unfold FU;omega
def D8 (rs:List (Nat×Nat×Nat)):List Nat:=AX (FU rs) 7
theorem Ns (rs:List (Nat×Nat×Nat)):(D8 rs).length=19∧Cd (D8 rs)∧(∀ x∈D8 rs,x≤7)∧∀ i,(D8 rs).getD i 0=0↔(FU rs).getD i 0=0:=by
 have h:=Cx.Kq (FU rs)
 rw[MS]at h
 obtain⟨h1,h2,h3,h4⟩:=QQ (FU rs) 7 (by omega) (by omega) (by have:(2:Nat) ^ 7=128:=rfl;omega)
 exact⟨h1.trans (MS rs),h2,h3,h4⟩
theorem WM {row:List Bool} {v:Nat→Nat} (hv:∀ k,v k < 8):∀ (ks:List Nat) (p:Nat) (s:List Nat),Has row p ((ks.map v).flatMap fun n=>numBits n 3)→JG row ks p s=.ok (p+3*ks.length,ks.foldl (fun s k=>s.set k (v k)) s)
 | [],p,s,h=>rfl
 | k :: ks,p,s,h=>by
  rw[List.map_cons,List.flatMap_cons]at h
  have h2:=h.right
  rw[AL]at h2
  show (CJ row p 3).Ag _=_
  rw[EH h.left (hv k),thn]
  dsimp only
  rw[WM hv ks _ _ h2,List.foldl_cons,List.length_cons]
  congr 2;omega
theorem ABG (l:List Nat) (i j x:Nat) (h:i < l.length):(l.set i x).getD j 0=if i=j then x else l.getD j 0:=by
 simp only[List.getD_eq_getElem?_getD,List.getElem?_set]
 by_cases e:i=j
 ·subst e;rw[if_pos rfl,if_pos h,if_pos rfl];rfl
 ·rw[if_neg e,if_neg e]
theorem Z6 (v:Nat→Nat):∀ (ks s:List Nat) (j:Nat),(∀ k∈ks,k < s.length)→(ks.foldl (fun s k=>s.set k (v k)) s).length=s.length∧(ks.foldl (fun s k=>s.set k (v k)) s).getD j 0=if j∈ks then v j else s.getD j 0
 | [],s,j,_=>⟨rfl,by rw[if_neg (by simp)];rfl⟩
 | k :: ks,s,j,h=>by
  obtain⟨h1,h2⟩:=Z6 v ks (s.set k (v k)) j (fun x hx=>by rw[List.length_set];exact h x (List.mem_cons_of_mem _ hx))
  rw[List.foldl_cons]
  refine⟨by rw[h1,List.length_set],?_⟩
  rw[h2,ABG _ _ _ _ (h k List.mem_cons_self)]
  by_cases e:k=j
  ·subst e
   rw[if_pos rfl,if_pos (List.mem_cons_self)]
   split <;> rfl
  ·rw[if_neg e]
   by_cases hj:j∈ks
   ·rw[if_pos hj,if_pos (List.mem_cons_of_mem _ hj)]
   ·rw[if_neg hj,if_neg (fun hm=>by rcases List.mem_cons.1 hm with rfl | hm;exact e rfl;exact hj hm)]
theorem xP (a b:List Nat) (h:a.length=b.length) (hg:∀ j,a.getD j 0=b.getD j 0):a=b:=by
 apply List.ext_getElem h
 intro i h1 h2
 have:=hg i
 rw[List.getD_eq_getElem?_getD,List.getD_eq_getElem?_getD,List.getElem?_eq_getElem h1,List.getElem?_eq_getElem h2]at this
 exact this
theorem pK:∀ j < 19,∃ q < 19,Aw.getD q 0=j:=by decide
theorem Yl:∀ k∈Aw,k < 19:=by decide
theorem xQ (S:List Nat) (h:S.length=19):(Aw.take (BQ (Aw.map fun k=>S.getD k 0) 4).length).foldl (fun s k=>s.set k (S.getD k 0)) (List.replicate 19 0)=S:=by
 have hlen:(BQ (Aw.map fun k=>S.getD k 0) 4).length=Ed (Aw.map fun k=>S.getD k 0) 4 19:=by
  unfold BQ
  rw[List.length_take]
  have:=G6 (Aw.map fun k=>S.getD k 0) 4 19
  have e:(Aw.map fun k=>S.getD k 0).length=19:=by rw[List.length_map];rfl
  rw[e];omega
 have hz:=OO (Aw.map fun k=>S.getD k 0) 4 19
 rw[hlen]
 generalize Ed (Aw.map fun k=>S.getD k 0) 4 19=m at *
 have hf:=fun j=>Z6 (fun k=>S.getD k 0) (Aw.take m) (List.replicate 19 0) j (fun k hk=>by rw[List.length_replicate];exact Yl k (List.mem_of_mem_take hk))
 refine xP _ _ ?_ (fun j=>?_)
 ·rw[(hf 0).1,List.length_replicate,h]
 ·rw[(hf j).2]
  by_cases hj:j∈Aw.take m
  ·rw[if_pos hj]
  ·rw[if_neg hj,Z7]
   by_cases h19:j < 19
   ·obtain⟨q,hq,hqj⟩:=pK j h19
    have hqm:m≤q:=by
     rcases Nat.lt_or_ge q m with h1 | h1
     ·exfalso
      apply hj
      rw[←hqj,List.getD_eq_getElem?_getD,List.getElem?_eq_getElem (show q < Aw.length from hq)]
      exact List.mem_take_iff_getElem.2 ⟨q,by show q < min m 19;omega,rfl⟩
     ·exact h1
    have:=hz q hqm hq
    rw[List.getD_eq_getElem?_getD,List.getElem?_map,List.getElem?_eq_getElem (show q < Aw.length from hq)]at this
    rw[List.getD_eq_getElem?_getD,List.getElem?_eq_getElem (show q < Aw.length from hq)]at hqj
    have e:Aw[q]'(show q < Aw.length from hq)=j:=hqj
    rw[e]at this
    exact this.symm
   ·rw[List.getD_eq_getElem?_getD,List.getElem?_eq_none (by omega)];rfl
theorem MJ (lit far:List Nat):C8 lit far=numBits ((BQ lit 257).length - 257) 5++numBits ((BQ far 1).length - 1) 5 ++
 numBits ((BQ (Aw.map fun k=>(D8 (Dk (BQ lit 257++BQ far 1))).getD k 0) 4).length - 4) 4 ++
 (BQ (Aw.map fun k=>(D8 (Dk (BQ lit 257++BQ far 1))).getD k 0) 4).flatMap (fun n=>numBits n 3) ++
 (Dk (BQ lit 257++BQ far 1)).flatMap (MO (D8 (Dk (BQ lit 257++BQ far 1)))):=rfl
theorem xG {row:List Bool} {p:Nat} {lit far:List Nat} (AKi:Cd lit) (AEH:Cd far) (l1:lit.length=286) (l2:far.length=30) (he:lit.getD 256 0≠0) (h:Has row p (C8 lit far)) :
  Mg row p=.ok (p+(C8 lit far).length,BQ lit 257,BQ far 1):=by
 rw[MJ]at h⊢
 have tA:=J8 lit 257 (by omega)
 have tB:=J8 far 1 (by omega)
 have cA:=Je lit 257 AKi
 have cB:=Je far 1 AEH
 have eA:=QR lit 257 256
 rw[l1]at tA
 rw[l2]at tB
 generalize BQ lit 257=A at *
 generalize BQ far 1=B at *
 have rA:∀ y∈A++B,y≤15:=fun y hy=>by
  rcases List.mem_append.1 hy with hy | hy
  ·exact cA.le y hy
  ·exact cB.le y hy
 have hall:=xM (A++B) rA
 have hhead:=pJ (A++B) rA
 have hfit:∀ x∈Dk (A++B),JK x:=WL (A++B) rA _ _
 have hok:=XH (A++B) rA
 generalize Dk (A++B)=R at *
 obtain⟨s1,s2,s3,s4⟩:=Ns R
 have AHB:=fun x hx=>xO R x hx (hok x hx).1
 generalize D8 R=S at *
 have hv:∀ k,S.getD k 0 < 8:=fun k=>by
  rw[List.getD_eq_getElem?_getD]
  rcases Nat.lt_or_ge k S.length with h1 | h1
  ·rw[List.getElem?_eq_getElem h1];have:=s3 _ (List.getElem_mem h1);show S[k] < 8;omega
  ·rw[List.getElem?_eq_none h1];show 0 < 8;omega
 have htold:=xQ S s1
 have ANK:4≤(BQ (Aw.map fun k=>S.getD k 0) 4).length∧(BQ (Aw.map fun k=>S.getD k 0) 4).length≤19:=by
  have:=J8 (Aw.map fun k=>S.getD k 0) 4 (by rw[List.length_map];decide)
  rw[List.length_map]at this
  exact this
 have hT:BQ (Aw.map fun k=>S.getD k 0) 4=(Aw.take (BQ (Aw.map fun k=>S.getD k 0) 4).length).map fun k=>S.getD k 0:=by
  rw[List.map_take]
  conv=>lhs;unfold BQ
  congr 1
  unfold BQ
  rw[List.length_take]
  have:=G6 (Aw.map fun k=>S.getD k 0) 4 (Aw.map fun k=>S.getD k 0).length
  omega
 have a1:=h.left.left.left.left
 have a2:=h.left.left.left.right
 have a3:=h.left.left.right
 have a4:=h.left.right
 have a5:=h.right
 rw[hT]at a4
 simp only[List.length_append,AL]at a2 a3 a4 a5⊢
 have hfl:((BQ (Aw.map fun k=>S.getD k 0) 4).flatMap fun n=>numBits n 3).length=3*(BQ (Aw.map fun k=>S.getD k 0) 4).length:=by
  generalize BQ (Aw.map fun k=>S.getD k 0) 4=T
  induction T with
  | nil=>rfl
  | cons a T ih=>rw[List.flatMap_cons,List.length_append,ih,AL,List.length_cons];omega
 rw[hfl]at a5⊢
 generalize (BQ (Aw.map fun k=>S.getD k 0) 4).length=m at *
 have p5:(2:Nat) ^ 5=32:=rfl
 have p4:(2:Nat) ^ 4=16:=rfl
 unfold Mg
 rw[EH a1 (by omega),thn]
 dsimp only
 rw[EH a2 (by omega),thn]
 dsimp only
 rw[EH (by rw[Nat.add_assoc];exact a3) (by omega),thn]
 dsimp only
 rw[if_neg (by omega),show A.length - 257+257=A.length by omega,show B.length - 1+1=B.length by omega,show m - 4+4=m by omega]
 have hor:(Aw.take m).length=m:=by rw[List.length_take];show min m 19=m;omega
 rw[WM hv (Aw.take m) _ _ (by rw[Nat.add_assoc,Nat.add_assoc];rw[Nat.add_assoc]at a4;exact a4),thn]
 dsimp only
 rw[htold,Oq S s2 (by omega),thn]
 have hlen:(R.foldl Cf []).length=A.length+B.length:=by rw[hall,List.length_append]
 rw[Z5 s2 R _ [] (A.length+B.length) (by rw[hor];simp only[Nat.add_assoc]at a5⊢;exact a5) (fun x hx=>⟨fun h0=>AHB x hx ((s4 x.1).1 h0),hfit x hx⟩) (fun _=>hhead) hlen (by simp),thn,hall]
 dsimp only
 have AKj:(A++B).getD 256 0=A.getD 256 0:=by
  rw[List.getD_eq_getElem?_getD,List.getD_eq_getElem?_getD,List.getElem?_append_left (by omega)]
 rw[AKj,eA,if_neg he,List.take_left,List.drop_left,Oq A cA (by omega),thn,Oq B cB (by omega),thn]
 rw[hor]
 simp only[Nat.add_assoc]
end Go.Proofs.YtabdianhoabhhaaGreatDoor.Rt
namespace Go.Proofs.YtabdianhoabhhaaGreatDoor.Inf
open Go Go.RowKit Go.Proofs.YtabdianhoabhhaaGreatDoor Go.Proofs.YtabdianhoabhhaaGreatDoor.Bits Go.Proofs.YtabdianhoabhhaaGreatDoor.Code
set_option linter.unusedVariables false
def Bo (x:Int):Ending:=.panicked [{ v:=.iface 171 (.agg #[.int .i64 x]),recovered:=false }]
set_option maxRecDepth 100000 in
theorem Db (x:Int) (w:World):Calls Tryz.prog 165 #[.int .i64 x] w fun e w'=>e=Bo x∧w'=w:=by
 go_enter Tryz.func165,Tryz.ntmps165
 go_wp2_with fail
 exact⟨rfl,rfl,rfl⟩
def JC:List TypeId:=[177,213,5]
structure FJ (w:World) (base:Nat) (A:Option Addr) (n:Nat) (xs:List UInt8):Prop where
 len:xs.length=n
 few:n≤1099511627776
 at_:BI w A xs
 low:∀ b o,A=some ⟨b,o,none⟩→0 < n→b < base
theorem FJ.keeps {w w':World} {base:Nat} {T:List TypeId} {A:Option Addr} {n:Nat} {xs:List UInt8} (h:FJ w base A n xs) (hk:AJ base T w w'):FJ w' base A n xs:=
 ⟨h.len,h.few,AQ.tQ h.at_ hk (fun b o e hp=>h.low b o e (by rw[←h.len];simpa using hp)),h.low⟩
structure ER (w:World) (base g q:Nat) (A:Option Addr) (n c pos:Nat) (out:List UInt8) (ks:List Nat):Prop where
 gle:base≤g
 qle:base≤q
 zm:pos≤8*n
 few:out.length≤3000
 blk:∃ vo vk,AV w g 177 #[.pointer (some ⟨q,0,none⟩),vo,vk]∧w.ownsRow base 5 1 vo out.length (out.map Eh)∧w.ownsRow base 3 1 vk ks.length (ks.map BR)
 src:EB w q A n c pos
theorem ER.below {w w':World} {base g q:Nat} {A:Option Addr} {n c pos:Nat} {out:List UInt8} {ks:List Nat} (h:ER w base g q A n c pos out ks) (hb:Below w.heap.size w w'):ER w' base g q A n c pos out ks:=by
 obtain⟨h1,h2,h3,h8,⟨vo,vk,h4,h5,h6⟩,h7⟩:=h
 exact⟨h1,h2,h3,h8,⟨vo,vk,h4.below hb h4.lt,AP h5 hb,AP h6 hb⟩,AV.below h7 hb h7.lt⟩
def Eo {α:Type} (r:Rd α) (ok:α→Ending→World→Prop) (e:Ending) (w':World):Prop:=match r with | .bad x=>e=Bo x | .ok a=>ok a e w'
theorem kT {base q:Nat} {w w':World} (hk:AJ q Fp w w') (hq:base≤q):AJ base JC w w':=
 hk.mono hq (fun t ht=>by simp only[Fp,List.mem_singleton]at ht;subst ht;simp[JC])
set_option maxRecDepth 100000 in
set_option maxHeartbeats 1600000 in
theorem TI (base g q:Nat) (A:Option Addr) (n c pos size:Nat) (xs:List UInt8) (out:List UInt8) (ks:List Nat) (w:World) (h:ER w base g q A n c pos out ks) (hi:FJ w base A n xs) (hs:size≤61) :
  Calls Tryz.prog 160 #[.pointer (some ⟨g,0,none⟩),.int .i64 (size:Int)] w fun e w'=>
   Eo (CJ (AO xs) pos size) (fun a e w'=>e=.returned (.int .i64 (a.1:Int))∧ER w' base g q A n c a.2 out ks) e w'∧AJ base JC w w':=by
 have HI:=Lib.hid hi
 have G7:Hid ((AO xs).length=8*n):=Lib.hid (by rw[BV,hi.len])
 have HG:=Lib.hid (NB q A n c pos size xs w h.src hi.len hi.at_ hs h.zm hi.few (fun b o e hp=>by have:=hi.low b o e hp;have:=h.qle;omega))
 have HR:=Lib.hid h
 obtain⟨hg,hq,hp,Jp,⟨vo,vk,hb,ho,hk⟩,hsrc⟩:=h
 have b0:w.cell? ⟨g,0,none⟩=some (.pointer (some ⟨q,0,none⟩)):=by rw[hb.cell];rfl
 have HB:=Lib.hid hb
 have HO:=Lib.hid ho
 have HK:=Lib.hid hk
 clear hi hb ho hk hsrc
 go_enter Tryz.func160,Tryz.ntmps160
 go_wp2_with fail
 refine (HG.out).mono ?_
 rintro e w2 ⟨hcase,hk2⟩
 have F3:=Lib.hid hk2
 clear hk2 b0 HG
 rcases hcase with ⟨h1,rfl,hs2⟩ | ⟨h1,rfl,_⟩
 ·have HS2:=Lib.hid hs2
  clear hs2
  go_wp2_with fail
  go_ret
  refine⟨?_,kT F3.out hq⟩
  unfold Eo CJ
  rw[G7.out,if_pos h1]
  exact⟨rfl,hg,hq,h1,Jp,⟨vo,vk,F3.out.blk HB.out (by decide),F3.out.own HO.out (by decide),F3.out.own HK.out (by decide)⟩,HS2.out⟩
 ·go_wp2_with fail
  refine (Db 7 _).mono ?_
  rintro e w3 ⟨rfl,rfl⟩
  unfold Bo
  go_wp2_with fail
  refine⟨rfl,?_,kT F3.out hq⟩
  unfold Eo CJ
  rw[G7.out,if_neg (by omega)]
  rfl
set_option maxRecDepth 100000 in
set_option maxHeartbeats 1600000 in
theorem ACN (base g q tp:Nat) (A:Option Addr) (n c pos:Nat) (xs:List UInt8) (out:List UInt8) (ks ls:List Nat) (w:World) (h:ER w base g q A n c pos out ks) (hi:FJ w base A n xs)
  (hT:TabAt w base tp ls) (hl:∀ x∈ls,x≤15) (hr:room ls≤32768) (hlen:ls.length≤288) :
  Calls Tryz.prog 203 #[.pointer (some ⟨g,0,none⟩),.pointer (some ⟨tp,0,none⟩)] w fun e w'=>
   Eo (IM (AO xs) ls pos) (fun a e w'=>e=.returned (.int .i64 (a.1:Int))∧ER w' base g q A n c a.2 out ks) e w'∧AJ base JC w w':=by
 have HG:=Lib.hid (Vl base tp q A n c pos xs ls w hT h.src hi.len hi.at_ h.zm hi.few (fun b o e hp=>by have:=hi.low b o e hp;have:=h.qle;omega) hl hr hlen)
 obtain⟨hg,hq,hp,Jp,⟨vo,vk,hb,ho,hk⟩,hsrc⟩:=h
 have b0:w.cell? ⟨g,0,none⟩=some (.pointer (some ⟨q,0,none⟩)):=by rw[hb.cell];rfl
 have HB:=Lib.hid hb
 have HO:=Lib.hid ho
 have HK:=Lib.hid hk
 clear hi hb ho hk hsrc hT hl hr hlen
 go_enter Tryz.func203,Tryz.ntmps203
 go_wp2_with fail
 refine (HG.out).mono ?_
 rintro e w2 ⟨⟨k,m,z,hn,rfl,hz⟩,hk2⟩
 have F3:=Lib.hid hk2
 have HZ:=Lib.hid hz
 have HN:=Lib.hid hn
 clear hk2 hz hn b0 HG
 by_cases h0:z=0
 ·subst h0
  go_wp2_with fail
  go_ret
  refine⟨?_,kT F3.out hq⟩
  unfold Eo IM
  rw[HN.out]
  exact⟨rfl,hg,hq,(HZ.out (by simp)).2,Jp,⟨vo,vk,F3.out.blk HB.out (by decide),F3.out.own HO.out (by decide),F3.out.own HK.out (by decide)⟩,(HZ.out (by simp)).1⟩
 ·have hz1:(z != 0)=true:=by simpa using h0
  go_wp2_with fail
  refine (Db z _).mono ?_
  rintro e w3 ⟨rfl,rfl⟩
  unfold Bo
  go_wp2_with fail
  refine⟨rfl,?_,kT F3.out hq⟩
  unfold Eo IM
  rw[HN.out,if_neg (show ¬ (k,m,z).2.2=0 from h0)]
  rfl
theorem AKN:Bj Tryz.prog 23 5 (.int .u8 0) 1 1:=⟨Tryz.underlying23,by kernel_rfl,rfl,by omega⟩
set_option maxRecDepth 100000 in
set_option maxHeartbeats 1600000 in
theorem vE (base g q:Nat) (A:Option Addr) (n c pos:Nat) (x:UInt8) (out:List UInt8) (ks:List Nat) (w:World) (h:ER w base g q A n c pos out ks) :
  Calls Tryz.prog 202 #[.pointer (some ⟨g,0,none⟩),Eh x] w fun e w'=>
   Eo (Ef out x) (fun o e w'=>e=.returned (.tuple #[])∧ER w' base g q A n c pos o ks) e w'∧AJ base JC w w':=by
 obtain⟨hg,hq,hp,Jp,⟨vo,vk,hb,ho,hk⟩,hsrc⟩:=h
 obtain⟨Ao,co,rfl,_⟩:=Ad ho
 obtain⟨ol,hol⟩:∃ ol,ol=out.length:=⟨_,rfl⟩
 have hout:=Jp
 rw[←hol]at hb ho hout
 have hbw:base≤w.heap.size:=by have:=hb.lt;omega
 have YX:=Lib.hid hol
 have b1:w.cell? ⟨g,1,none⟩=some (.slice Ao ol co):=by rw[hb.cell];rfl
 have f1:=hb.frozen 1
 have hlt:=hb.lt
 have HB:=Lib.hid hb
 have HO:=Lib.hid ho
 have HK:=Lib.hid hk
 have HS:=Lib.hid hsrc
 clear hb ho hk hsrc hol
 unfold Eh
 by_cases h3:ol=3000
 ·have h3':(ol:Int)=3000:=by omega
  have h3b:((ol:Int) == 3000)=true:=by simpa using h3'
  go_enter Tryz.func202,Tryz.ntmps202
  go_wp2_with fail
  refine (Db 2 _).mono ?_
  rintro e w3 ⟨rfl,rfl⟩
  unfold Bo
  go_wp2_with fail
  refine⟨rfl,?_,AJ.refl _ _ _⟩
  unfold Eo Ef
  rw[if_pos (by rw[←YX.out];exact h3)]
  rfl
 ·have h3':¬ (ol:Int)=3000:=by omega
  have h3b:((ol:Int) == 3000)=false:=by simpa using h3'
  go_enter Tryz.func202,Tryz.ntmps202
  have TJ:Below w.heap.size w (w.alloc (.cells #[.int .u8 (n8 x)] 5)):=(Below.refl _ _).alloc (Nat.le_refl _) _
  have Cz:=Lib.hid (AP HO.out TJ)
  have HB2:=Lib.hid (HB.out.below TJ HB.out.lt)
  have HKA:Hid (AJ base JC w (w.alloc (.cells #[.int .u8 (n8 x)] 5))):=Lib.hid (AJ.of_below TJ hbw)
  have hbw2:base≤(w.alloc (.cells #[.int .u8 (n8 x)] 5)).heap.size:=Nat.le_trans hbw TJ.size
  have HZ:Hid (AQ (w.alloc (.cells #[.int .u8 (n8 x)] 5)) (some ⟨w.heap.size,0,none⟩) [.int .u8 (n8 x)]):=Lib.hid (AQ.of_heap (heap_alloc_new _ _) rfl)
  clear TJ
  go_wp2_with (at_builtin;refine AY _ rfl (.tmp 15) (.tmp 17) _ rfl base 5 _ 1 1 AKN _ ol (out.map Eh) rfl Cz.out (some ⟨w.heap.size,0,none⟩) 1 1 [.int .u8 (n8 x)] rfl rfl HZ.out (by simp[Value.oneCell']) (by simp) (by unfold maxLen;omega) (by omega) hbw2 ?_;intro v8 w8 Au Dj _;obtain⟨A8,d8,rfl,_⟩:=Ad Au;have hkp:AJ base [5] (w.alloc (.cells #[.int .u8 (n8 x)] 5)) w8:=(AJ.refl _ _ _).grown Cz.out Dj (by simp) hbw2;have Jq:=Lib.hid (hkp.blk HB2.out (by decide));have qz:=Lib.hid hkp;have GL:=Lib.hid Au;have c8:w8.cell? ⟨g,1,none⟩=some (.slice Ao ol co):=(Jq.out.cell 1).trans rfl;have f8:=Jq.out.frozen 1;clear Au Dj hkp)
  go_end0
  have k8:AJ base JC w w8:=HKA.out.trans (qz.out.mono (Nat.le_refl _) (fun t ht=>by rw[List.mem_singleton]at ht;subst ht;simp[JC]))
  refine⟨?_,k8.Dc Jq.out (by simp[JC]) hg 1 _⟩
  unfold Eo Ef
  rw[if_neg (by rw[←YX.out];exact h3)]
  have hw9:AJ base [177] w8 (w8.setCell ⟨g,1,none⟩ (.slice A8 (ol+1) d8)):=(AJ.refl _ _ _).Dc Jq.out (by simp) hg 1 _
  have hkk:AJ base [5,177] w (w8.setCell ⟨g,1,none⟩ (.slice A8 (ol+1) d8)):=((AJ.of_below ((Below.refl _ _).alloc (Nat.le_refl _) _) hbw).trans (qz.out.mono (Nat.le_refl _) (by simp))).trans (hw9.mono (Nat.le_refl _) (by simp))
  refine⟨rfl,hg,hq,hp,by rw[List.length_append,←YX.out];simp;omega,⟨_,vk,Jq.out.Ca 1 _,?_,hkk.own HK.out (by decide)⟩,hkk.blk HS.out (by decide)⟩
  have h9:=hw9.own GL.out (by decide)
  rw[List.length_append,←YX.out,List.map_append]
  exact h9
end Go.Proofs.YtabdianhoabhhaaGreatDoor.Inf
namespace Go.Proofs.YtabdianhoabhhaaGreatDoor.Inf
open Go Go.RowKit Go.Proofs.YtabdianhoabhhaaGreatDoor Go.Proofs.YtabdianhoabhhaaGreatDoor.Bits Go.Proofs.YtabdianhoabhhaaGreatDoor.Code
set_option linter.unusedVariables false
theorem ER.bw {w:World} {base g q:Nat} {A:Option Addr} {n c pos:Nat} {out:List UInt8} {ks:List Nat} (h:ER w base g q A n c pos out ks):base≤w.heap.size:=by
 obtain⟨h1,_,_,_,⟨vo,vk,h4,_,_⟩,_⟩:=h
 have:=h4.lt
 omega
theorem ER.AKR {w:World} {base g q:Nat} {A:Option Addr} {n c pos:Nat} {out:List UInt8} {ks:List Nat} (h:ER w base g q A n c pos out ks):w.cell? ⟨g,0,none⟩=some (.pointer (some ⟨q,0,none⟩)):=by
 obtain⟨_,_,_,_,⟨vo,vk,h4,_,_⟩,_⟩:=h
 rw[h4.cell];rfl
theorem sQ (n:Nat) (h:n < 65536):Go.bits .xor .i64 (n:Int) 65535=((65535 - n:Nat):Int):=by
 have hx:n ^^^ 65535=65535 - n:=by
  apply Nat.eq_of_testBit_eq
  intro i
  have e1:(65535 - n).testBit i=(decide (i < 16) && !n.testBit i):=by
   rw[show 65535 - n=2 ^ 16 - (n+1) by omega]
   exact Nat.testBit_two_pow_sub_succ (by omega) i
  have e2:(65535:Nat).testBit i=decide (i < 16):=by
   rw[show (65535:Nat)=2 ^ 16 - 1 by decide,Nat.testBit_two_pow_sub_one]
  rw[Nat.testBit_xor,e1,e2]
  by_cases hi:i < 16
  ·simp[hi]
  ·have:n.testBit i=false:=Nat.testBit_lt_two_pow (Nat.lt_of_lt_of_le h (show 65536≤2 ^ i from by rw[show (65536:Nat)=2 ^ 16 by decide];exact Nat.pow_le_pow_right (by omega) (by omega)))
   simp[hi,this]
 show IntKind.i64.wrap ((BitVec.ofInt 64 (n:Int) ^^^ BitVec.ofInt 64 (65535:Int)).toNat:Int)=_
 have h1:(BitVec.ofInt 64 (n:Int) ^^^ BitVec.ofInt 64 (65535:Int)).toNat=65535 - n:=by
  rw[BitVec.toNat_xor,BitVec.ofInt_natCast,BitVec.toNat_ofNat,Nat.mod_eq_of_lt (by omega),show (BitVec.ofInt 64 (65535:Int)).toNat=65535 from rfl,hx]
 rw[h1]
 exact IntWalk.i64_in _ (by omega)
set_option maxRecDepth 100000 in
set_option maxHeartbeats 1600000 in
theorem Ov (q:Nat) (A:Option Addr) (n c pos:Nat) (w:World) (h:EB w q A n c pos) (hp:pos≤8*n) (hn:n≤1099511627776) :
  Calls Tryz.prog 201 #[.pointer (some ⟨q,0,none⟩)] w fun e w'=>e=.returned (.tuple #[])∧EB w' q A n c (JH pos)∧AJ q Fp w w':=by
 have c1:w.cell? ⟨q,1,none⟩=some (.int .i64 (pos:Int)):=by rw[h.cell];rfl
 have f1:=AV.frozen h 1
 have HS:=Lib.hid h
 have h1:IntKind.i64.wrap ((pos:Int)+7)=(pos:Int)+7:=IntWalk.i64_in _ (by omega)
 have h2:IntKind.i64.wrap (((pos:Int)+7) / 8)=((pos:Int)+7) / 8:=IntWalk.i64_in _ (by omega)
 have h3:IntKind.i64.wrap (((pos:Int)+7) / 8*8)=((JH pos:Nat):Int):=by
  rw[show ((pos:Int)+7) / 8*8=((JH pos:Nat):Int) by unfold JH;omega]
  exact IntWalk.i64_in _ (by unfold JH;omega)
 have h4:((pos:Int)+7).tdiv 8=((pos:Int)+7) / 8:=Int.tdiv_eq_ediv_of_nonneg (by omega)
 have hq:=AV.lt h
 clear h
 go_enter Tryz.func201,Tryz.ntmps201
 go_wp2_with fail
 go_end0
 exact⟨rfl,HS.out.Ca 1 _,(AJ.refl _ _ _).Dc HS.out (by simp[Fp]) (Nat.le_refl _) 1 _⟩
theorem BK {α:Type} {r:Rd α} {ok:α→Ending→World→Prop} {e:Ending} {w:World} {x:Int} (h:Eo r ok e w) (hr:r=.bad x):e=Bo x:=by rw[hr]at h;exact h
theorem BP {α:Type} {r:Rd α} {ok:α→Ending→World→Prop} {e:Ending} {w:World} {a:α} (h:Eo r ok e w) (hr:r=.ok a):ok a e w:=by rw[hr]at h;exact h
theorem Aj {α:Type} {r:Rd α} {ok:α→Ending→World→Prop} {w:World} {x:Int} (hr:r=.bad x):Eo r ok (Bo x) w:=by rw[hr];rfl
theorem Fa {α:Type} {r:Rd α} {ok:α→Ending→World→Prop} {e:Ending} {w:World} {a:α} (hr:r=.ok a) (h:ok a e w):Eo r ok e w:=by rw[hr];exact h
theorem ER.filled {w w':World} {base g q:Nat} {A:Option Addr} {n c pos pos':Nat} {out:List UInt8} {ks:List Nat} (h:ER w base g q A n c pos out ks) (hk:AJ q Fp w w') (hs:EB w' q A n c pos') (hp:pos'≤8*n):ER w' base g q A n c pos' out ks:=by
 obtain⟨hg,hq,_,Jp,⟨vo,vk,hb,ho,hk'⟩,_⟩:=h
 exact⟨hg,hq,hp,Jp,⟨vo,vk,hk.blk hb (by decide),hk.own ho (by decide),hk.own hk' (by decide)⟩,hs⟩
theorem Ep {row:List Bool} {p n:Nat} {a:Nat×Nat} (h:CJ row p n=.ok a):a.1 < 2 ^ n:=by
 unfold CJ at h
 split at h
 ·injection h with h
  subst h
  exact Nat.lt_of_lt_of_le (Pt _) (Nat.pow_le_pow_right (by omega) (by rw[List.length_take];omega))
 ·cases h
set_option maxRecDepth 100000 in
set_option maxHeartbeats 4000000 in
theorem uy (base g q:Nat) (A:Option Addr) (n c pos:Nat) (xs:List UInt8) (out:List UInt8) (ks:List Nat) (w:World) (h:ER w base g q A n c pos out ks) (hi:FJ w base A n xs) :
  Calls Tryz.prog 161 #[.pointer (some ⟨g,0,none⟩)] w fun e w'=>
   Eo (Fe (AO xs) pos out) (fun a e w'=>e=.returned (.tuple #[])∧ER w' base g q A n c a.1 a.2 ks) e w'∧AJ base JC w w':=by
 obtain⟨R,hR⟩:∃ R,R=Fe (AO xs) pos out:=⟨_,rfl⟩
 have HU:=Lib.hid (show R=(CJ (AO xs) (JH pos) 16).Ag fun x=>(CJ (AO xs) x.2 16).Ag fun y=>if x.1+y.1≠65535 then .bad 4 else Ig (AO xs) x.1 y.2 out from hR)
 rw[←hR]
 clear hR
 have HI:=Lib.hid hi
 have H:=Lib.hid h
 have hle:JH pos≤8*n:=by have:=h.zm;unfold JH;omega
 have HF:=Lib.hid (Ov q A n c pos w h.src h.zm hi.few)
 have b0:=h.AKR
 have hq:=h.qle
 clear h hi
 go_enter Tryz.func161,Tryz.ntmps161
 go_wp2_with fail
 refine (HF.out).mono ?_
 rintro e w2 ⟨rfl,hs2,hk2⟩
 have F3:=Lib.hid (kT hk2 hq)
 have H2:=Lib.hid (H.out.filled hk2 hs2 hle)
 have HI2:=Lib.hid (HI.out.keeps F3.out)
 have HG:=Lib.hid (TI base g q A n c (JH pos) 16 xs out ks w2 H2.out HI2.out (by omega))
 clear hs2 hk2 b0 HF
 go_wp2_with fail
 refine (HG.out).mono ?_
 rintro e w3 ⟨hr3,hk3⟩
 have NT:=Lib.hid (F3.out.trans hk3)
 have HI3:=Lib.hid (HI2.out.keeps hk3)
 cases hg3:CJ (AO xs) (JH pos) 16 with
 | bad z=>
  have he:=BK hr3 hg3
  subst he
  have HU:=Lib.hid (show R=.bad z by rw[HU.out,hg3];rfl)
  clear hr3 hk3 hg3
  unfold Bo
  go_wp2_with fail
  exact⟨rfl,Aj HU.out,NT.out⟩
 | ok x=>
  obtain⟨he,uu⟩:=BP hr3 hg3
  subst he
  have hx:=Ep hg3
  have HU:=Lib.hid (show R=(CJ (AO xs) x.2 16).Ag fun y=>if x.1+y.1≠65535 then .bad 4 else Ig (AO xs) x.1 y.2 out by rw[HU.out,hg3];rfl)
  have H3:=Lib.hid uu
  have HG:=Lib.hid (TI base g q A n c x.2 16 xs out ks w3 H3.out HI3.out (by omega))
  obtain⟨nb,p3⟩:=x
  dsimp only at hx HU H3 HG⊢
  clear hr3 hk3 hg3 uu
  go_wp2_with fail
  refine (HG.out).mono ?_
  rintro e w4 ⟨hr4,hk4⟩
  have J5:=Lib.hid (NT.out.trans hk4)
  have HI4:=Lib.hid (HI3.out.keeps hk4)
  cases hg4:CJ (AO xs) p3 16 with
  | bad z=>
   have he:=BK hr4 hg4
   subst he
   have HU:=Lib.hid (show R=.bad z by rw[HU.out,hg4];rfl)
   clear hr4 hk4 hg4
   unfold Bo
   go_wp2_with fail
   exact⟨rfl,Aj HU.out,J5.out⟩
  | ok y=>
   obtain⟨he,ZP⟩:=BP hr4 hg4
   subst he
   have hy:=Ep hg4
   have HU:=Lib.hid (show R=if nb+y.1≠65535 then .bad 4 else Ig (AO xs) nb y.2 out by rw[HU.out,hg4];rfl)
   have H4:=Lib.hid ZP
   obtain⟨mb,p4⟩:=y
   dsimp only at hy HU H4⊢
   have hxr:=sQ nb (by omega)
   clear hr4 hk4 hg4 ZP HG
   by_cases hne:nb+mb=65535
   ·have HU:=Lib.hid (show R=Ig (AO xs) nb p4 out by rw[HU.out,if_neg (by omega)])
    have hq1:(((65535 - nb:Nat):Int) != (mb:Int))=false:=by
     have:((65535 - nb:Nat):Int)=(mb:Int):=by omega
     rw[this];simp
    have ANG:nb≤65535:=by omega
    clear hne
    go_wp2_with fail
    go_loopw [19] (fun vi wr=>∃ (j p:Nat) (o:List UInt8),j≤nb∧vi=.int .i64 (j:Int)∧Ig (AO xs) nb p4 out=Ig (AO xs) (nb - j) p o∧ER wr base g q A n c p o ks∧AJ base JC w wr∧FJ wr base A n xs) (fun vi _=>nb - (intOf vi).toNat)
    case atStart=>exact⟨0,p4,out,Nat.zero_le _,rfl,rfl,H4.out,J5.out,HI4.out⟩
    case round=>
     obtain⟨j,p,o,hj,rfl,hraw,hrd,hk,hin⟩:=hrel
     have VI:=Lib.hid hraw
     have HR:=Lib.hid hrd
     have HK:=Lib.hid hk
     have HIn:=Lib.hid hin
     clear hraw hrd hk hin
     by_cases hlt:j < nb
     ·have HU:=Lib.hid (show R=(CJ (AO xs) p 8).Ag fun x=>(Ef o (UInt8.ofNat x.1)).Ag fun o=>Ig (AO xs) (nb - (j+1)) x.2 o by
       rw[HU.out,VI.out,show nb - j=(nb - (j+1))+1 by omega];rfl)
      have HG:=Lib.hid (TI base g q A n c p 8 xs o ks wr HR.out HIn.out (by omega))
      have VI:=Lib.hid (show Ig (AO xs) nb p4 out=(CJ (AO xs) p 8).Ag fun x=>(Ef o (UInt8.ofNat x.1)).Ag fun o=>Ig (AO xs) (nb - (j+1)) x.2 o by
       rw[VI.out,show nb - j=(nb - (j+1))+1 by omega];rfl)
      go_wp2_with fail
      refine (HG.out).mono ?_
      rintro e w5 ⟨rE,hk5⟩
      have MM:=Lib.hid (HK.out.trans hk5)
      have HI5:=Lib.hid (HIn.out.keeps hk5)
      cases hg5:CJ (AO xs) p 8 with
      | bad z=>
       have he:=BK rE hg5
       subst he
       have HU:=Lib.hid (show R=.bad z by rw[HU.out,hg5];rfl)
       clear rE hk5 hg5
       unfold Bo
       go_wp2_with fail
       exact⟨rfl,Aj HU.out,MM.out⟩
      | ok x=>
       obtain⟨he,vF⟩:=BP rE hg5
       subst he
       have hx5:=Ep hg5
       have HU:=Lib.hid (show R=(Ef o (UInt8.ofNat x.1)).Ag fun o=>Ig (AO xs) (nb - (j+1)) x.2 o by rw[HU.out,hg5];rfl)
       have VI:=Lib.hid (show Ig (AO xs) nb p4 out=(Ef o (UInt8.ofNat x.1)).Ag fun o=>Ig (AO xs) (nb - (j+1)) x.2 o by rw[VI.out,hg5];rfl)
       have H5:=Lib.hid vF
       obtain⟨bx,p5⟩:=x
       dsimp only at hx5 HU VI H5⊢
       have HP:=Lib.hid (vE base g q A n c p5 (UInt8.ofNat bx) o ks w5 H5.out)
       have hcv:Eh (UInt8.ofNat bx)=.int .u8 (bx:Int):=by
        unfold Eh n8
        have:(UInt8.ofNat bx).toNat=bx:=by show bx % 2 ^ 8=bx;omega
        rw[this]
       rw[hcv]at HP
       clear rE hk5 hg5 vF HG
       go_wp2_with fail
       refine (HP.out).mono ?_
       rintro e w6 ⟨QK,Iw⟩
       have Lf:=Lib.hid (MM.out.trans Iw)
       have HI6:=Lib.hid (HI5.out.keeps Iw)
       cases IJ:Ef o (UInt8.ofNat bx) with
       | bad z=>
        have he:=BK QK IJ
        subst he
        have HU:=Lib.hid (show R=.bad z by rw[HU.out,IJ];rfl)
        clear QK Iw IJ
        unfold Bo
        go_wp2_with fail
        exact⟨rfl,Aj HU.out,Lf.out⟩
       | ok o2=>
        obtain⟨he,vH⟩:=BP QK IJ
        subst he
        have VI:=Lib.hid (show Ig (AO xs) nb p4 out=Ig (AO xs) (nb - (j+1)) p5 o2 by rw[VI.out,IJ];rfl)
        have H6:=Lib.hid vH
        clear QK Iw IJ vH hx5 hcv HP
        go_wp2_with fail
        go_roundw
        case rel=>exact⟨j+1,p5,o2,by omega,by go_num,VI.out,H6.out,Lf.out,HI6.out⟩
        case measure=>simp[intOf];omega
     ·obtain rfl:j=nb:=by omega
      have HU:=Lib.hid (show R=.ok (p,o) by rw[HU.out,VI.out,Nat.sub_self];rfl)
      go_wp2_with fail
      go_end0
      exact⟨Fa HU.out ⟨rfl,HR.out⟩,HK.out⟩
   ·have HU:=Lib.hid (show R=.bad 4 by rw[HU.out,if_pos hne])
    have hq1:(((65535 - nb:Nat):Int) != (mb:Int))=true:=by
     simp only[bne_iff_ne,ne_eq]
     omega
    clear hne
    go_wp2_with fail
    refine (Db 4 _).mono ?_
    rintro e w5 ⟨rfl,rfl⟩
    unfold Bo
    go_wp2_with fail
    exact⟨rfl,Aj HU.out,J5.out⟩
end Go.Proofs.YtabdianhoabhhaaGreatDoor.Inf
namespace Go.Proofs.YtabdianhoabhhaaGreatDoor.Inf
open Go Go.RowKit Go.Proofs.YtabdianhoabhhaaGreatDoor Go.Proofs.YtabdianhoabhhaaGreatDoor.Bits Go.Proofs.YtabdianhoabhhaaGreatDoor.Code
set_option linter.unusedVariables false
set_option maxRecDepth 100000 in
set_option maxHeartbeats 1600000 in
theorem Xj (A:Option Addr) (n c:Nat) (zs:List Int) (w:World) (hn:zs.length=n) (hx:n≤maxLen) (hA:Lv w A zs) :
  Calls Tryz.prog 205 #[.slice A n c] w fun e w'=>
   Eo (Em zs) (fun ls e w'=>GK zs=0∧∃ p,e=.returned (.pointer (some ⟨p,0,none⟩))∧TabAt w' w.heap.size p ls) e w'∧Below w.heap.size w w':=by
 have zt:=Lib.hid (F7 A n c zs w hn hx hA)
 have HA:=Lib.hid hA
 have Hn:=Lib.hid hn
 clear hA hn
 go_enter Tryz.func205,Tryz.ntmps205
 go_wp2_with fail
 refine (zt.out).mono ?_
 rintro e w2 ⟨rfl,hw2⟩
 have hb2:Below w.heap.size w w2:=by
  first
   | exact hw2
   | (obtain⟨d,rfl⟩:=hw2;exact (Below.refl _ _).drewN' d)
   | (rw[hw2];exact Below.refl _ _)
 have Hb2:=Lib.hid hb2
 clear hw2 hb2 zt
 obtain⟨z,hz⟩:∃ z,z=GK zs:=⟨_,rfl⟩
 rw[←hz]
 by_cases h0:z=0
 ·subst h0
  have HM:=Lib.hid (Sw A n c zs w2 Hn.out (AQ.below HA.out Hb2.out) hz.symm)
  have Hz:=Lib.hid hz.symm
  clear hz
  go_wp2_with fail
  refine (HM.out).mono ?_
  rintro e w3 ⟨⟨p,rfl,ht⟩,hb3⟩
  have HT:=Lib.hid ht
  have Hb3:=Lib.hid hb3
  clear ht hb3 HM
  go_wp2_with fail
  go_ret
  refine⟨Fa (a:=BC zs) (by unfold Em;rw[if_pos Hz.out]) ⟨Hz.out,p,rfl,?_⟩,Hb2.out.trans (Hb3.out.mono Hb2.out.size)⟩
  obtain⟨h1,v,h2,h3⟩:=HT.out
  exact⟨Nat.le_trans Hb2.out.size h1,v,h2,AZ h3 Hb2.out.size⟩
 ·have hz1:(z != 0)=true:=by simpa using h0
  have Hz:=Lib.hid (show GK zs≠0 by rw[←hz];exact h0)
  clear hz
  go_wp2_with fail
  refine (Db 8 _).mono ?_
  rintro e w3 ⟨rfl,rfl⟩
  unfold Bo
  go_wp2_with fail
  exact⟨rfl,Aj (by unfold Em;rw[if_neg Hz.out]),Hb2.out⟩
end Go.Proofs.YtabdianhoabhhaaGreatDoor.Inf
namespace Go.Proofs
open Go.Shelf
def YtabdianhoabhhaaGreatDoor.aM:Go.Shelf.Ren:=⟨fun | 212=>175 | 263=>211 | 264=>212 | n=>n,fun | 46=>59 | 51=>41 | 146=>271 | 53=>205 | 148=>273 | n=>n,fun | n=>n⟩
theorem YtabdianhoabhhaaGreatDoor.AAn:Go.Proofs.Lays.n212 Tryz.prog YtabdianhoabhhaaGreatDoor.aM:={
 mixed:=by kernel_rfl
 f212:=Tryz.func175.trans (congrArg some (by kernel_rfl))
 f263:=Tryz.func211.trans (congrArg some (by kernel_rfl))
 f264:=Tryz.func212.trans (congrArg some (by kernel_rfl))
 t46:=Tryz.underlying59
 a46:=Tryz.isAgg59
 z46:=Tryz.sizeOf59
 v46:=Tryz.zeroValue59
 t51:=Tryz.underlying41
 a51:=Tryz.isAgg41
 z51:=Tryz.sizeOf41
 v51:=Tryz.zeroValue41
 t53:=Tryz.underlying205
 a53:=Tryz.isAgg205
 z53:=Tryz.sizeOf205
 v53:=Tryz.zeroValue205
 t146:=Tryz.underlying271
 a146:=Tryz.isAgg271
 z146:=Tryz.sizeOf271
 v146:=Tryz.zeroValue271
 t148:=Tryz.underlying273
 a148:=Tryz.isAgg273
 z148:=Tryz.sizeOf273
 v148:=Tryz.zeroValue273 }
end Go.Proofs
namespace Go.Proofs.YtabdianhoabhhaaGreatDoor.Inf
open Go Go.RowKit Go.Proofs.YtabdianhoabhhaaGreatDoor Go.Proofs.YtabdianhoabhhaaGreatDoor.Code
set_option linter.unusedVariables false
set_option linter.unusedSimpArgs false
def FO (v:Int) (k n:Nat):List Value:=List.replicate n (.int .i64 v)++List.replicate (k - n) (.int .i64 0)
theorem TT (v:Int) (k n:Nat) (h:n≤k):(FO v k n).length=k:=by simp[FO];omega
theorem eU (v:Int) (k:Nat):FO v k k=List.replicate k (.int .i64 v):=by simp[FO]
theorem Ze (v:Int) (k:Nat):madeCells #[.int .i64 0] k=(FO v k 0).toArray:=by
 rw[Ir]
 unfold ED FO BR
 simp
theorem Qz (v:Int) (k n m:Nat) (h:n+m≤k):splice (FO v k n) n (List.replicate m (.int .i64 v))=FO v k (n+m):=by
 unfold splice FO
 rw[List.length_replicate,List.take_append_of_le_length (by simp),List.take_of_length_le (by simp),List.drop_append,List.drop_of_length_le (by simp)]
 simp only[List.length_replicate,List.nil_append,List.drop_replicate]
 rw[←List.append_assoc,List.replicate_append_replicate]
 congr 2
 omega
theorem eX (v:Int) (k n j:Nat) (h:j < n):(FO v k n)[j]?=some (.int .i64 v):=by
 unfold FO
 rw[List.getElem?_append_left (by simp;omega),List.getElem?_replicate,if_pos h]
theorem vW {w:World} {A:Option Addr} {X:List Value} (h:AQ w A X):0 < X.length→∃ ad,A=some ad∧∀ j v,X[j]?=some v→w.cell? (ad.add j)=some v:=fun hp=>by
 obtain⟨b,o,e,hc⟩:=h hp
 exact⟨_,e,fun j v hj=>by
  have:=hc j v hj
  by_cases hj0:j=0
  ·subst hj0;simpa [Addr.add] using this
  ·simpa [Addr.add,hj0] using this⟩
theorem ACR:(Tryz.prog.info? 3).map (·.size)=some 1:=by kernel_rfl
set_option maxRecDepth 100000 in
set_option maxHeartbeats 1600000 in
theorem Zd (A:Option Addr) (c k:Nat) (v:Int) (w:World) (hA:AQ w A [.int .i64 v]) (h1:1≤k) (hk:k≤1000) :
    Calls Tryz.prog 136 #[.slice A 1 c,.int .i64 (k:Int)] w fun e w'=>(∃ A',e=.returned (.slice A' k k)∧AQ w' A' (List.replicate k (.int .i64 v)))∧Below w.heap.size w w':=by
  have hv1:k < 18446744073709551616:=by omega
  have HM:Hid (∀ W,Calls Tryz.prog 175 #[.int .u64 1,.int .u64 (k:Int)] W fun e w'=>e=.returned (.tuple #[.int .u64 0,.int .u64 (k:Int)])∧w'=W):=Lib.hid (fun W=>by
    have h:=Any.bits_Mul YtabdianhoabhhaaGreatDoor.AAn 1 k (by omega) hv1 W
    rw[Nat.one_mul,Nat.div_eq_of_lt hv1,Nat.mod_eq_of_lt hv1]at h
    exact h)
  have hmk:=F6 k (by omega)
  have HA:=Lib.hid hA
  have Hz:=Lib.hid (Ze v k)
  clear hA hv1
  go_enter Tryz.func136,Tryz.ntmps136
  go_wp2_with fail
  refine (HM.out _).mono ?_
  rintro e w2 ⟨rfl,rfl⟩
  obtain⟨g,hg⟩:∃ g,g=w2.heap.size:=⟨_,rfl⟩
  have Hg:=Lib.hid hg
  obtain⟨X,hX⟩:∃ X,X=[Value.int .i64 v]:=⟨_,rfl⟩
  have HX:=Lib.hid hX
  rw[←hX]at HA
  obtain⟨r0,hr0⟩:∃ r,r=FO v k 0:=⟨_,rfl⟩
  rw[←hr0]at Hz
  have zq:=Lib.hid hr0
  have hk1:X.length=Nat.min 1 k:=by rw[hX];exact (Nat.min_eq_left h1).symm
  have hX1:X.length=1:=by rw[hX];rfl
  have Hr0:Hid (r0.length=k):=Lib.hid (by rw[hr0];exact TT v k 0 (by omega))
  have Lx:Hid (∀ u∈X,u.oneCell'=true):=Lib.hid (by rw[hX];simp[Value.oneCell'])
  have HMk:Hid (∀ (u:World),(Instr.makeSlice 89 (.int .i64 (k:Int)) (.int .i64 (k:Int))).run Tryz.prog u=.ok (.slice (some ⟨u.heap.size,0,none⟩) k k) (u.alloc (.cells r0.toArray 3))):=Lib.hid (fun u=>by rw[hmk u,Hz.out])
  replace hmk:=HMk.out w2
  rw[←hg]at hmk
  have VH:Hid ((w2.alloc (.cells r0.toArray 3)).heap[g]?=some (.cells r0.toArray 3 (0,0))):=Lib.hid (by rw[hg];exact heap_alloc_new _ _)
  have Hb1:Hid (Below w2.heap.size w2 (w2.alloc (.cells r0.toArray 3))):=Lib.hid ((Below.refl _ _).alloc (Nat.le_refl _) _)
  have HA1:=Lib.hid (vW (HA.out.below Hb1.out))
  clear HM HMk hg hX hr0 Hz
  generalize w2.alloc (.cells r0.toArray 3)=w3 at *
  go_wp2_with (with_reducible refine wpList_copy_splice (o:=⟨some 33,_,_,_,_,_⟩) ?hgd (.tmp 31) (.tmp 32) 89 89 ?ho 3 ?hu ?hsz (some ⟨g,0,none⟩) A k k 1 c ?hd ?hs g 0 r0 3 ?hg X ?hn ?hpos ?hfit ?h1 w2.heap.size w2 ?hb ?hBg ?h;(case hgd=>(rfl));(case ho=>(rfl));(case hu=>(exact Tryz.underlying89));(case hsz=>(exact ACR));(case hd=>(simp[Act.eval]));(case hs=>(simp[Act.eval]));(case hg=>(exact VH.out));(case hn=>(exact hk1));(case hpos=>(exact (fun hp=>⟨rfl,HA1.out hp⟩)));(case hfit=>(rw[hX1,Hr0.out];omega));(case h1=>(exact Lx.out));(case hb=>(exact Hb1.out));(case hBg=>(rw[Hg.out];exact Nat.le_refl _));intro w4 Kl hB4;rw[hX1];have F4:=Lib.hid hB4;clear hB4)
  have Kl:Hid (w4.heap[g]?=some (.cells (FO v k 1).toArray 3 (0,0))):=Lib.hid (by
    rw[Kl.out,zq.out,HX.out]
    exact congrArg (fun l=>some (Obj.cells (List.toArray l) 3 (0,0))) (Qz v k 0 1 (by omega)))
  clear Hb1 HA1 VH HA Hr0 hk1 hX1 Lx HX zq hmk
  go_loopw [8] (fun vn wr=>∃ n:Nat,1≤n∧n≤k∧vn=.int .i64 (n:Int)∧wr.heap[g]?=some (.cells (FO v k n).toArray 3 (0,0))∧Below w2.heap.size w2 wr) (fun vn _=>k - (intOf vn).toNat)
  case atStart=>exact⟨1,by omega,h1,rfl,Kl.out,F4.out⟩
  case round=>
    obtain⟨n,hn1,hnk,rfl,hg,hb⟩:=hrel
    have HG:=Lib.hid hg
    have HB:=Lib.hid hb
    clear hg hb Kl F4
    by_cases hlt:n < k
    · obtain⟨m,hm⟩:∃ m,m=Nat.min n (k - n):=⟨_,rfl⟩
      have hm1:1≤m∧n+m≤k:=by rw[hm];show 1≤min n (k - n)∧n+min n (k - n)≤k;omega
      obtain⟨X,hX⟩:∃ X,X=List.replicate m (Value.int .i64 v):=⟨_,rfl⟩
      have hXl:X.length=m:=by rw[hX];simp
      have Lx:Hid (∀ u∈X,u.oneCell'=true):=Lib.hid (by rw[hX];intro u hu;rw[List.eq_of_mem_replicate hu];rfl)
      obtain⟨r0,hr0⟩:∃ r,r=FO v k n:=⟨_,rfl⟩
      have Hrl:Hid (r0.length=k):=Lib.hid (by rw[hr0];exact TT v k n hnk)
      have HS:Hid (splice r0 n X=FO v k (n+m)):=Lib.hid (by rw[hr0,hX];exact Qz v k n m hm1.2)
      have HA:Hid (AQ wr (some ⟨g,0,none⟩) X):=Lib.hid (fun _=>⟨g,0,rfl,fun j u hj=>by
        rw[cell_of_row wr g _ _ _ _ HG.out]
        have hjm:j < m:=by
          rcases Nat.lt_or_ge j m with h | h
          · exact h
          · rw[hX,List.getElem?_eq_none (by simp;omega)]at hj;cases hj
        rw[hX,List.getElem?_replicate,if_pos hjm]at hj
        rw[←hj,Nat.zero_add,List.getElem?_toArray]
        exact eX v k n j (by have:m≤n:=(by rw[hm];exact Nat.min_le_left _ _);omega)⟩)
      rw[←hr0]at HG
      have hwn:IntKind.i64.wrap ((n:Int)+(m:Int))=((n+m:Nat):Int):=by rw[show (n:Int)+(m:Int)=((n+m:Nat):Int) by omega];exact IntWalk.i64_in _ (by omega)
      have hlt':(n:Int) < (k:Int):=by omega
      have hkn:¬ k=n:=by omega
      have Hm:=Lib.hid hm
      clear hm hX hr0
      go_wp2_with fail
      have hbd:Below wr.heap.size wr wr.drew:=(Below.refl _ _).drew
      have HGd:=Lib.hid (show wr.drew.heap[g]?=some (.cells r0.toArray 3 (0,0)) from HG.out)
      have Rq:=Lib.hid (vW (HA.out.below hbd))
      have Ya:=Lib.hid (show Below w2.heap.size w2 wr.drew from HB.out.drew)
      have Hmn:Hid (X.length=Nat.min n (k - n)):=Lib.hid (by rw[hXl];exact Hm.out)
      clear hbd HG HA HB Hm
      go_region_law ((first
        | (refine step_copy_splice rfl (.tmp 41) (.tmp 44) 89 89 rfl 3 Tryz.underlying89 ACR (some ⟨g,n,none⟩) (some ⟨g,0,none⟩) (k - n) (k - n) n k (by simp[Act.eval,Act.put,hkn]) (by simp[Act.eval,Act.put,hkn]) g n r0 3 HGd.out X Hmn.out (fun hp=>⟨rfl,Rq.out hp⟩) (by rw[hXl,Hrl.out];exact hm1.2) Lx.out w2.heap.size w2 Ya.out (by rw[Hg.out];exact Nat.le_refl _) ?_
           intro w4 Kl hB4
           rw[hXl]
           have F4:=Lib.hid hB4
           clear hB4)))
      rw[HS.out]at Kl
      simp only[Act.put,l0A,l0B,l0C,l0D,l0E,l0F]
      go_roundw
      case rel=>
        first
        | exact⟨_,_,_,_,_,_,_,_,⟨n+m,by omega,by omega,rfl,Kl.out,F4.out⟩,rfl⟩
        | exact⟨_,_,_,_,_,_,_,_,_,⟨n+m,by omega,by omega,rfl,Kl.out,F4.out⟩,rfl⟩
        | exact⟨_,_,_,_,_,_,_,_,_,_,⟨n+m,by omega,by omega,rfl,Kl.out,F4.out⟩,rfl⟩
        | exact⟨_,_,_,_,_,_,_,_,_,_,_,⟨n+m,by omega,by omega,rfl,Kl.out,F4.out⟩,rfl⟩
        | exact⟨_,_,_,_,_,_,_,_,_,_,_,_,⟨n+m,by omega,by omega,rfl,Kl.out,F4.out⟩,rfl⟩
        | exact⟨_,_,_,_,_,_,_,_,_,_,_,_,_,⟨n+m,by omega,by omega,rfl,Kl.out,F4.out⟩,rfl⟩
        | exact⟨_,_,_,_,_,_,_,_,_,_,_,_,_,_,⟨n+m,by omega,by omega,rfl,Kl.out,F4.out⟩,rfl⟩
      case measure=>simp[intOf];omega
    · obtain rfl:n=k:=by omega
      have hlt':¬ (n:Int) < (n:Int):=by omega
      go_wp2_with fail
      go_ret
      exact⟨⟨_,rfl,AQ.of_heap HG.out (by rw[eU])⟩,HB.out⟩
end Go.Proofs.YtabdianhoabhhaaGreatDoor.Inf
namespace Go.Proofs.YtabdianhoabhhaaGreatDoor
open Go
set_option linter.unusedVariables false
section
variable {P:Program} {ops:Array Oper} {Q:Exit→Act→World→Prop} {md:Region.Mode} {S:World→Prop} {n:Nat}
def lastB (md:Region.Mode) (ops:Array Oper) (n i:Nat):Bool:=
 match ops[n]? with
 | none=>false
 | some o=>o.after.any fun e=>Region.binds md e && e.on == i
def wpAnyS (P:Program) (md:Region.Mode) (ops:Array Oper) (Q:Exit→Act→World→Prop) (S:World→Prop) (n:Nat):Nat→Array Bool→Act→World→Prop
 | 0,listed,a,w=>Region.ready md ops listed=[]∧Q .normal a w
 | fuel+1,listed,a,w=>
  (Region.ready md ops listed=[]→Q .normal a w)∧
  ∀ i∈Region.ready md ops listed,wpOp P ops Q i (fun a' w'=>(i≠n→S w')∧wpAnyS P md ops Q S n fuel (listed.setIfInBounds i true) a' w') a w
theorem Tp:∀ (fuel:Nat) (listed:Array Bool) (a:Act) (w:World),wpAnyS P md ops Q S n fuel listed a w→wpAny P md ops Q fuel listed a w
 | 0,_,_,_,h=>h
 | fuel+1,_,_,_,h=>⟨h.1,fun i hi=>wpOp_mono (fun a' w' h'=>Tp fuel _ a' w' h'.2) (h.2 i hi)⟩
theorem wpAnyS_first {i:Nat} {oi:Oper} {v:Value} (hl:lastB md ops n i=true) (hi:ops[i]?=some oi) (hsel:∀ (j:Nat) (o:Oper) cs b,ops[j]?=some o→o.op≠.select cs b)
  (hQ:∀ c a w,Q (.panic c) (a.put oi.dst v) w→Q (.panic c) a w) :
  ∀ (fuel:Nat) (listed:Array Bool) (a:Act) (w:World),
   (∀ j oj,ops[j]?=some oj→j≠i→listed.getD j true=false→(∀ e∈oj.after,Region.binds md e=true→e.on≠i)→oi.apart ops oj=true)→
   i∈Region.ready md ops listed→YieldsIf P ops S oi v a→S w→
   wpAnyS P md ops Q S n fuel (listed.setIfInBounds i true) (a.put oi.dst v) w→wpAnyS P md ops Q S n (fuel+1) listed a w:=by
 intro fuel
 induction fuel with
 | zero=>
  intro listed a w _ hr hy hS H
  refine⟨fun h=>(by rw[h]at hr;cases hr),fun j hj=>?_⟩
  by_cases hji:j=i
  ·subst hji;exact hy.wpOp hi hS ⟨fun _=>hS,H⟩
  ·have:=ready_mono hj hji
   rw[H.1]at this
   cases this
 | succ fuel ih=>
  intro listed a w hfree hr hy hS H
  refine⟨fun h=>(by rw[h]at hr;cases hr),fun j hj=>?_⟩
  by_cases hji:j=i
  ·subst hji;exact hy.wpOp hi hS ⟨fun _=>hS,H⟩
  ·have h1:=H.2 j (ready_mono hj hji)
   obtain⟨hjun,oj,hoj,hall⟩:=mem_ready.1 hj
   have hnot:∀ e∈oj.after,Region.binds md e=true→e.on≠i:=fun e he hb heq=>by
    have h1:=hall e he hb
    have h0:=(mem_ready.1 hr).1
    rw[heq]at h1
    rcases Nat.lt_or_ge i listed.size with h' | h'
    ·simp[h']at h0 h1;rw[h0]at h1;cases h1
    ·simp[Array.getElem?_eq_none h']at h1
   have hjn:j≠n:=fun e=>by
    subst e
    unfold lastB at hl
    rw[hoj]at hl
    simp only at hl
    rw[Array.any_eq_true]at hl
    obtain⟨m,hm,he⟩:=hl
    simp only[Bool.and_eq_true,beq_iff_eq]at he
    exact hnot _ (Array.getElem_mem hm) he.1 he.2
   have h2:=wpOp_putIf hoj (hfree j oj hoj hji hjun hnot) (fun cs b=>hsel i oi cs b hi) (fun cs b=>hsel j oj cs b hoj) hQ hy h1
   have hfree':∀ k ok,ops[k]?=some ok→k≠i→(listed.setIfInBounds j true).getD k true=false→
     (∀ e∈ok.after,Region.binds md e=true→e.on≠i)→oi.apart ops ok=true:=fun k ok hk hki hun hno=>by
    refine hfree k ok hk hki ?_ hno
    by_cases hjk:j=k
    ·subst hjk;exact hjun
    ·rw[getD_set_ne true hjk]at hun;exact hun
   refine wpOp_mono (fun a' w' h3=>⟨h3.2.1,ih (listed.setIfInBounds j true) a' w' hfree' (ready_mono hr (Ne.symm hji)) h3.1 (h3.2.1 hjn) ?_⟩) h2
   rw[Array.setIfInBounds_comm _ _ hji]
   exact h3.2.2
theorem BO {i:Nat} {oi:Oper} {v:Value} {fuel:Nat} {listed:Array Bool} {a:Act} {w:World} (hl:lastB md ops n i=true) (hi:ops[i]?=some oi)
  (hs:Region.noSelect ops=true) (hf:Region.free md ops listed i=true) (hr:(Region.ready md ops listed).contains i=true)
  (hQ:∀ c a w,Q (.panic c) (a.put oi.dst v) w→Q (.panic c) a w) (hw:Region.wanted oi (yielded ops a.tmps)=true) (hS:S w) (hy:∀ w,S w→(execOp a.eval oi).run P w=.ok (.value v) w)
  (h:wpAnyS P md ops Q S n fuel (listed.setIfInBounds i true) (a.put oi.dst v) w):wpAnyS P md ops Q S n (fuel+1) listed a w:=
 wpAnyS_first hl hi (Region.noSelect_spec hs) hQ fuel listed a w (Region.free_spec hi hf) (by simpa using hr) (.inl ⟨hw,hy⟩) hS h
theorem AB {i:Nat} {o:Oper} {fuel:Nat} {listed:Array Bool} {a:Act} {w:World} (hi:ops[i]?=some o) (hr:Region.ready md ops listed=[i])
  (h:∀ K':Act→World→Prop,Shut (∀ a w,S w→(S w→wpAnyS P md ops Q S n fuel (listed.setIfInBounds i true) a w)→K' a w)→if Region.wanted o (yielded ops a.tmps)=true then Oper.wp P o a w K' Q else K' (a.put o.dst undef) w) :
  wpAnyS P md ops Q S n (fuel+1) listed a w:=by
 refine⟨fun h0=>(by rw[hr]at h0;cases h0),fun j hj=>?_⟩
 rw[hr,List.mem_singleton]at hj
 subst hj
 exact wpOp_step hi (fun K' hK=>h K' (fun a w hS hW=>hK a w ⟨fun _=>hS,hW hS⟩))
theorem BH {o:Oper} {fuel:Nat} {listed:Array Bool} {a:Act} {w:World} (hi:ops[n]?=some o) (hr:Region.ready md ops listed=[n]) (hd:Region.ready md ops (listed.setIfInBounds n true)=[])
  (h:∀ K':Act→World→Prop,Shut (∀ a w,Q .normal a w→K' a w)→if Region.wanted o (yielded ops a.tmps)=true then Oper.wp P o a w K' Q else K' (a.put o.dst undef) w) :
  wpAnyS P md ops Q S n (fuel+1) listed a w:=by
 refine⟨fun h0=>(by rw[hr]at h0;cases h0),fun j hj=>?_⟩
 rw[hr,List.mem_singleton]at hj
 subst hj
 refine wpOp_step hi (fun K' hK=>h K' (fun a w hq=>hK a w ⟨fun hh=>absurd rfl hh,?_⟩))
 cases fuel with
 | zero=>exact⟨hd,hq⟩
 | succ f=>exact⟨fun _=>hq,by rw[hd];simp⟩
theorem Bp (S:World→Prop) (n:Nat) {id:Nat} {a:Act} {w:World} (hm:P.follows .mixedOrders=true)
  (h:wpAnyS P .any ops Q S n ops.size (Array.replicate ops.size false) a w.drew):(Code.region id ops true).wp P Q a w:=
 wp_region_any hm (Tp _ _ _ _ h)
end
end Go.Proofs.YtabdianhoabhhaaGreatDoor
namespace Go.Proofs.YtabdianhoabhhaaGreatDoor
open Go
set_option linter.unusedVariables false
section
variable {P:Program} {ops:Array Oper} {Q:Exit→Act→World→Prop} {md:Region.Mode} {S:World→Prop} {n:Nat}
def OL (md:Region.Mode) (ops:Array Oper):Nat→Nat→Nat→Bool
 | 0,_,_=>false
 | f+1,n,i=>match ops[n]? with
  | none=>false
  | some o=>o.after.any fun e=>Region.binds md e && (e.on == i || OL md ops f e.on i)
def Closed (md:Region.Mode) (ops:Array Oper) (listed:Array Bool):Prop:=∀ j o,ops[j]?=some o→listed.getD j false=true→∀ e∈o.after,Region.binds md e=true→listed.getD e.on false=true
def R4 (md:Region.Mode) (ops:Array Oper) (listed:Array Bool):Bool:=(List.range ops.size).all fun j=>match ops[j]? with
 | none=>true
 | some o=>!listed.getD j false || o.after.all fun e=>!Region.binds md e || listed.getD e.on false
theorem WE {listed:Array Bool} (h:R4 md ops listed=true):Closed md ops listed:=by
 intro j o ho hl e he hb
 unfold R4 at h
 rw[List.all_eq_true]at h
 have hj:j < ops.size:=by
  rcases Nat.lt_or_ge j ops.size with h1 | h1
  ·exact h1
  ·rw[Array.getElem?_eq_none h1]at ho;cases ho
 have h1:=h j (List.mem_range.2 hj)
 rw[ho]at h1
 simp only[hl,Bool.not_true,Bool.false_or,Array.all_eq_true]at h1
 obtain⟨m,hm,rfl⟩:=Array.mem_iff_getElem.1 he
 have h2:=h1 m hm
 rw[hb]at h2
 simpa using h2
theorem fM {listed:Array Bool} (h:Closed md ops listed) {j:Nat} (hj:j∈Region.ready md ops listed):Closed md ops (listed.setIfInBounds j true):=by
 intro k o ho hl e he hb
 by_cases hkj:k=j
 ·subst hkj
  obtain⟨_,o',ho',hall⟩:=mem_ready.1 hj
  rw[ho]at ho'
  injection ho' with ho'
  subst ho'
  exact getD_set_true (hall e he hb)
 ·rw[getD_set_ne false (Ne.symm hkj)]at hl
  exact getD_set_true (h k o ho hl e he hb)
theorem PM {listed:Array Bool} (h:Closed md ops listed):∀ (f n i:Nat),OL md ops f n i=true→(∀ o,ops[n]?=some o→∀ e∈o.after,Region.binds md e=true→listed.getD e.on false=true)→listed.getD i false=true
 | 0,n,i,hr,_=>by cases hr
 | f+1,n,i,hr,hn=>by
  unfold OL at hr
  cases ho:ops[n]? with
  | none=>rw[ho]at hr;cases hr
  | some o=>
   rw[ho]at hr
   simp only at hr
   rw[Array.any_eq_true]at hr
   obtain⟨m,hm,he⟩:=hr
   simp only[Bool.and_eq_true,Bool.or_eq_true,beq_iff_eq]at he
   have hl:=hn o ho _ (Array.getElem_mem hm) he.1
   rcases he.2 with h1 | h1
   ·rw[h1]at hl;exact hl
   ·exact PM h f _ i h1 (fun o' ho' e' he' hb'=>h _ o' ho' hl e' he' hb')
theorem om {listed:Array Bool} (h:Closed md ops listed) {f i:Nat} (hl:OL md ops f n i=true) (hr:i∈Region.ready md ops listed):n∉Region.ready md ops listed:=fun hn=>by
 obtain⟨_,o,ho,hall⟩:=mem_ready.1 hn
 have h1:=PM h f n i hl (fun o' ho' e he hb=>by
  rw[ho]at ho'
  injection ho' with ho'
  subst ho'
  exact hall e he hb)
 have h0:=(mem_ready.1 hr).1
 rcases Nat.lt_or_ge i listed.size with h' | h'
 ·simp[h']at h0 h1
  rw[h0]at h1
  cases h1
 ·simp[Array.getElem?_eq_none h']at h1
theorem Ng {f i:Nat} {oi:Oper} {v:Value} (hl:OL md ops f n i=true) (hi:ops[i]?=some oi) (hsel:∀ (j:Nat) (o:Oper) cs b,ops[j]?=some o→o.op≠.select cs b)
  (hQ:∀ c a w,Q (.panic c) (a.put oi.dst v) w→Q (.panic c) a w) :
  ∀ (fuel:Nat) (listed:Array Bool) (a:Act) (w:World),Closed md ops listed→
   (∀ j oj,ops[j]?=some oj→j≠i→listed.getD j true=false→(∀ e∈oj.after,Region.binds md e=true→e.on≠i)→oi.apart ops oj=true)→
   i∈Region.ready md ops listed→YieldsIf P ops S oi v a→S w→
   wpAnyS P md ops Q S n fuel (listed.setIfInBounds i true) (a.put oi.dst v) w→wpAnyS P md ops Q S n (fuel+1) listed a w:=by
 intro fuel
 induction fuel with
 | zero=>
  intro listed a w _ _ hr hy hS H
  refine⟨fun h=>(by rw[h]at hr;cases hr),fun j hj=>?_⟩
  by_cases hji:j=i
  ·subst hji;exact hy.wpOp hi hS ⟨fun _=>hS,H⟩
  ·have:=ready_mono hj hji
   rw[H.1]at this
   cases this
 | succ fuel ih=>
  intro listed a w hc hfree hr hy hS H
  refine⟨fun h=>(by rw[h]at hr;cases hr),fun j hj=>?_⟩
  by_cases hji:j=i
  ·subst hji;exact hy.wpOp hi hS ⟨fun _=>hS,H⟩
  ·have h1:=H.2 j (ready_mono hj hji)
   obtain⟨hjun,oj,hoj,hall⟩:=mem_ready.1 hj
   have hnot:∀ e∈oj.after,Region.binds md e=true→e.on≠i:=fun e he hb heq=>by
    have h1:=hall e he hb
    have h0:=(mem_ready.1 hr).1
    rw[heq]at h1
    rcases Nat.lt_or_ge i listed.size with h' | h'
    ·simp[h']at h0 h1;rw[h0]at h1;cases h1
    ·simp[Array.getElem?_eq_none h']at h1
   have hjn:j≠n:=fun e=>by
    subst e
    exact om hc hl hr hj
   have h2:=wpOp_putIf hoj (hfree j oj hoj hji hjun hnot) (fun cs b=>hsel i oi cs b hi) (fun cs b=>hsel j oj cs b hoj) hQ hy h1
   have hfree':∀ k ok,ops[k]?=some ok→k≠i→(listed.setIfInBounds j true).getD k true=false→
     (∀ e∈ok.after,Region.binds md e=true→e.on≠i)→oi.apart ops ok=true:=fun k ok hk hki hun hno=>by
    refine hfree k ok hk hki ?_ hno
    by_cases hjk:j=k
    ·subst hjk;exact hjun
    ·rw[getD_set_ne true hjk]at hun;exact hun
   refine wpOp_mono (fun a' w' h3=>⟨h3.2.1,ih (listed.setIfInBounds j true) a' w' (fM hc hj) hfree' (ready_mono hr (Ne.symm hji)) h3.1 (h3.2.1 hjn) ?_⟩) h2
   rw[Array.setIfInBounds_comm _ _ hji]
   exact h3.2.2
theorem AA {i:Nat} {oi:Oper} {v:Value} {fuel:Nat} {listed:Array Bool} {a:Act} {w:World} (hl:OL md ops ops.size n i=true) (hcl:R4 md ops listed=true) (hi:ops[i]?=some oi)
  (hs:Region.noSelect ops=true) (hf:Region.free md ops listed i=true) (hr:(Region.ready md ops listed).contains i=true)
  (hQ:∀ c a w,Q (.panic c) (a.put oi.dst v) w→Q (.panic c) a w) (hw:Region.wanted oi (yielded ops a.tmps)=true) (hS:S w) (hy:∀ w,S w→(execOp a.eval oi).run P w=.ok (.value v) w)
  (h:wpAnyS P md ops Q S n fuel (listed.setIfInBounds i true) (a.put oi.dst v) w):wpAnyS P md ops Q S n (fuel+1) listed a w:=
 Ng hl hi (Region.noSelect_spec hs) hQ fuel listed a w (WE hcl) (Region.free_spec hi hf) (by simpa using hr) (.inl ⟨hw,hy⟩) hS h
end
end Go.Proofs.YtabdianhoabhhaaGreatDoor
namespace Go.Proofs.YtabdianhoabhhaaGreatDoor.Inf
open Go Go.RowKit Go.Proofs.YtabdianhoabhhaaGreatDoor Go.Proofs.YtabdianhoabhhaaGreatDoor.Bits Go.Proofs.YtabdianhoabhhaaGreatDoor.Code
set_option linter.unusedVariables false
set_option linter.unusedSimpArgs false
structure DW (base B0:Nat) (T:List TypeId) (w w':World):Prop where
 os:w'.os=w.os
 tape:w'.tape=w.tape
 output:w'.output=w.output
 size:w.heap.size≤w'.heap.size
 block:∀ k,k < base→w'.heap[k]?=w.heap[k]?
 other:∀ (k:Nat) (o:Obj),k < B0→w.heap[k]?=some o→(∀ cs t fr,o=Obj.cells cs t fr→t∉T)→w'.heap[k]?=some o
section
variable {base B0:Nat} {T:List TypeId} {w w' w'':World}
theorem DW.refl (base B0:Nat) (T:List TypeId) (w:World):DW base B0 T w w:=⟨rfl,rfl,rfl,Nat.le_refl _,fun _ _=>rfl,fun _ _ _ h _=>h⟩
theorem DW.trans (h:DW base B0 T w w') (k:DW base B0 T w' w''):DW base B0 T w w'':=
 ⟨k.os.trans h.os,k.tape.trans h.tape,k.output.trans h.output,Nat.le_trans h.size k.size,fun i hi=>(k.block i hi).trans (h.block i hi),fun i o hi ho ht=>k.other i o hi (h.other i o hi ho ht) ht⟩
theorem DW.keeps (h:DW base B0 T w w') (k:AJ base T w' w''):DW base B0 T w w'':=
 h.trans ⟨k.os,k.tape,k.output,k.size,k.block,fun i o _ ho ht=>k.other i o ho ht⟩
theorem DW.below (h:DW base B0 T w w') (k:Below B0 w' w'') (hb:base≤B0):DW base B0 T w w'':=
 h.trans ⟨k.os,k.tape,k.output,k.size,fun i hi=>k.block i (by omega),fun i o hi ho _=>by rw[k.block i hi];exact ho⟩
theorem DW.Ji (h:DW base w.heap.size T w w'):AJ base T w w':=
 ⟨h.os,h.tape,h.output,h.size,h.block,fun k o ho ht=>h.other k o (by
  rcases Nat.lt_or_ge k w.heap.size with h | h
  ·exact h
  ·rw[Array.getElem?_eq_none h]at ho;cases ho) ho ht⟩
theorem DW.blk (h:DW base w.heap.size T w w') {g:Nat} {t:TypeId} {cs:Array Value} (hb:AV w g t cs) (ht:t∉T):AV w' g t cs:=h.Ji.blk hb ht
end
theorem nN {P:Program} {ops:Array Oper} {o:Oper} {a:Act} {w:World} {K:Act→World→Prop} {Q:Exit→Act→World→Prop} {E:Prop} (hgd:o.guard=none) (s x:Operand) (t:TypeId)
  (hop:o.op=.call { callee:=.builtin .append,args:=#[s,x],argTypes:=#[t,t] })
  (base:Nat) (e:TypeId) (z:Value) (size bytes:Nat) (hT:Bj P t e z size bytes)
  (v:Value) (n:Nat) (xs:List Value) (hs:a.eval s=v) (hown:w.ownsRow base e size v n xs)
  (A:Option Addr) (m c:Nat) (news:List Value) (hx:a.eval x=.slice A m c) (hl:news.length=m*size) (hr:AQ w A news) (h1:∀ u∈news,u.oneCell'=true)
  (hA:A=none→m=0) (h63:n+m≤maxLen) (hbytes:(n+m)*bytes≤140737488355328) (hbase:base≤w.heap.size)
  (hK:∀ v' w',w'.ownsRow base e size v' (n+m) (xs++news)→w.grownBy w' v.ownBlock→(v'.ownBlock=v.ownBlock∨v'.ownBlock=some w.heap.size)→K (a.put o.dst v') w') :
  if Region.wanted o (yielded ops a.tmps)=true then Oper.wp P o a w K Q else E:=by
 have hw:Region.wanted o (yielded ops a.tmps)=true:=by simp[Region.wanted,hgd]
 rw[if_pos hw]
 obtain⟨v',w',hrun,h2,h3,h4⟩:=GM (P:=P) w base t o.type e z size bytes hT v n xs hown A m c news hl hr h1 hA h63 hbytes hbase
 unfold Oper.wp
 simp[execOp,hop,resolve,invoke,builtin,hs,hx,hrun,Result.andThen]
 exact hK _ _ h2 h3 h4
theorem FJ.old {w w':World} {base B0:Nat} {T:List TypeId} {A:Option Addr} {n:Nat} {xs:List UInt8} (h:FJ w base A n xs) (hk:DW base B0 T w w'):FJ w' base A n xs:=
 ⟨h.len,h.few,fun hp=>by
  obtain⟨b,o,e,hc⟩:=h.at_ hp
  refine⟨b,o,e,fun j v hj=>?_⟩
  rw[World.cell?_of_block (hk.block b (h.low b o e (by rw[←h.len];simpa using hp)))]
  exact hc j v hj,h.low⟩
set_option maxRecDepth 100000 in
set_option maxHeartbeats 1600000 in
theorem TN (base g q:Nat) (A:Option Addr) (n c pos size:Nat) (xs:List UInt8) (w:World) (hq:base≤q) (b0:w.cell? ⟨g,0,none⟩=some (.pointer (some ⟨q,0,none⟩))) (hsrc:EB w q A n c pos) (hp:pos≤8*n) (hi:FJ w base A n xs) (hs:size≤61) :
  Calls Tryz.prog 160 #[.pointer (some ⟨g,0,none⟩),.int .i64 (size:Int)] w fun e w'=>
   Eo (CJ (AO xs) pos size) (fun a e w'=>e=.returned (.int .i64 (a.1:Int))∧EB w' q A n c a.2∧a.2≤8*n) e w'∧AJ q Fp w w':=by
 have G7:Hid ((AO xs).length=8*n):=Lib.hid (by rw[BV,hi.len])
 have HG:=Lib.hid (NB q A n c pos size xs w hsrc hi.len hi.at_ hs hp hi.few (fun b o e hp=>by have:=hi.low b o e hp;omega))
 clear hi hsrc
 go_enter Tryz.func160,Tryz.ntmps160
 go_wp2_with fail
 refine (HG.out).mono ?_
 rintro e w2 ⟨hcase,hk2⟩
 have F3:=Lib.hid hk2
 clear hk2 b0 HG
 rcases hcase with ⟨h1,rfl,hs2⟩ | ⟨h1,rfl,_⟩
 ·have HS2:=Lib.hid hs2
  clear hs2
  go_wp2_with fail
  go_ret
  exact⟨Fa (a:=(num (((AO xs).drop pos).take size),pos+size)) (by unfold CJ;rw[G7.out,if_pos h1]) ⟨rfl,HS2.out,h1⟩,F3.out⟩
 ·go_wp2_with fail
  refine (Db 7 _).mono ?_
  rintro e w3 ⟨rfl,rfl⟩
  unfold Bo
  go_wp2_with fail
  exact⟨rfl,Aj (by unfold CJ;rw[G7.out,if_neg (by omega)]),F3.out⟩
set_option maxRecDepth 100000 in
set_option maxHeartbeats 1600000 in
theorem AGi (base tb g q tp:Nat) (A:Option Addr) (n c pos:Nat) (xs:List UInt8) (ls:List Nat) (w:World) (hq:base≤q) (b0:w.cell? ⟨g,0,none⟩=some (.pointer (some ⟨q,0,none⟩))) (hsrc:EB w q A n c pos) (hp:pos≤8*n) (hi:FJ w base A n xs)
  (hT:TabAt w tb tp ls) (hl:∀ x∈ls,x≤15) (hr:room ls≤32768) (hlen:ls.length≤288) :
  Calls Tryz.prog 203 #[.pointer (some ⟨g,0,none⟩),.pointer (some ⟨tp,0,none⟩)] w fun e w'=>
   Eo (IM (AO xs) ls pos) (fun a e w'=>e=.returned (.int .i64 (a.1:Int))∧EB w' q A n c a.2∧a.2≤8*n) e w'∧AJ q Fp w w':=by
 have HG:=Lib.hid (Vl tb tp q A n c pos xs ls w hT hsrc hi.len hi.at_ hp hi.few (fun b o e hp=>by have:=hi.low b o e hp;omega) hl hr hlen)
 clear hi hsrc hT hl hr hlen
 go_enter Tryz.func203,Tryz.ntmps203
 go_wp2_with fail
 refine (HG.out).mono ?_
 rintro e w2 ⟨⟨k,m,z,hn,rfl,hz⟩,hk2⟩
 have F3:=Lib.hid hk2
 have HZ:=Lib.hid hz
 have HN:=Lib.hid hn
 clear hk2 hz hn b0 HG
 by_cases h0:z=0
 ·subst h0
  go_wp2_with fail
  go_ret
  refine⟨?_,F3.out⟩
  unfold Eo IM
  rw[HN.out]
  exact⟨rfl,(HZ.out (by simp)).1,(HZ.out (by simp)).2⟩
 ·have hz1:(z != 0)=true:=by simpa using h0
  go_wp2_with fail
  refine (Db z _).mono ?_
  rintro e w3 ⟨rfl,rfl⟩
  unfold Bo
  go_wp2_with fail
  refine⟨rfl,?_,F3.out⟩
  unfold Eo IM
  rw[HN.out,if_neg (show ¬ (k,m,z).2.2=0 from h0)]
  rfl
structure RS (w:World) (B gl gn n:Nat) (l:List Nat):Prop where
 gle:B≤gl
 row:∃ vl,AV w gl 89 #[vl]∧w.ownsRow B 3 1 vl l.length (l.map BR)∧vl.ownBlock≠some gn
 num:AV w gn 3 #[.int .i64 (n:Int)]
 fit:l.length≤n
 few:n≤1000
set_option maxRecDepth 100000 in
set_option maxHeartbeats 1600000 in
theorem NH (B gl gn n v k:Nat) (l:List Nat) (w:World) (h:RS w B gl gn n l) (h1:1≤k) (hk:k≤1000) (hB:B≤w.heap.size) :
  Calls Tryz.prog 234 #[.int .i64 (v:Int),.int .i64 (k:Int),.pointer (some ⟨gl,0,none⟩),.pointer (some ⟨gn,0,none⟩)] w fun e w'=>
   Eo (Dm n l v k) (fun m e w'=>e=.returned (.tuple #[])∧RS w' B gl gn n m) e w'∧Below B w w':=by
 obtain⟨hgl,⟨vl,hbl,hol,hne⟩,hbn,hfit,Jp⟩:=h
 obtain⟨Al,cl,rfl,_⟩:=Ad hol
 obtain⟨L,hL⟩:∃ L,L=l.length:=⟨_,rfl⟩
 rw[←hL]at hbl hol hfit hne
 have HL:=Lib.hid hL
 have b0:w.cell? ⟨gl,0,none⟩=some (.slice Al L cl):=by rw[hbl.cell];rfl
 have b1:w.cell? ⟨gn,0,none⟩=some (.int .i64 (n:Int)):=by rw[hbn.cell];rfl
 have hlt:=hbl.lt
 have AKO:=hbn.lt
 have HBl:=Lib.hid hbl
 have HBn:=Lib.hid hbn
 have HOl:=Lib.hid hol
 have HNe:=Lib.hid hne
 clear hbl hol hbn hne hL
 have hw1:IntKind.i64.wrap ((L:Int)+(k:Int))=(L:Int)+(k:Int):=IntWalk.i64_in _ (by omega)
 by_cases hn:n < L+k
 ·have hn':(n:Int) < (L:Int)+(k:Int):=by omega
  have HU:Hid (Dm n l v k=.bad 8):=Lib.hid (by unfold Dm;rw[if_pos (by rw[←HL.out];exact hn)])
  go_enter Tryz.func234,Tryz.ntmps234
  go_wp2_with fail
  refine (Db 8 _).mono ?_
  rintro e w3 ⟨rfl,rfl⟩
  unfold Bo
  go_wp2_with fail
  exact⟨rfl,Aj HU.out,Below.refl _ _⟩
 ·have hn':¬ (n:Int) < (L:Int)+(k:Int):=by omega
  have HU:Hid (Dm n l v k=.ok (l++List.replicate k v)):=Lib.hid (by unfold Dm;rw[if_neg (by rw[←HL.out];exact hn)])
  go_enter Tryz.func234,Tryz.ntmps234
  go_wp2_with fail
  refine Bp (fun W=>W.cell? ⟨gl,0,none⟩=some (.slice Al L cl)) 6 (by kernel_rfl) ?_
  have hHeld:w.drew.cell? ⟨gl,0,none⟩=some (.slice Al L cl):=b0
  obtain⟨w2,hw2⟩:∃ w2,w2=w.drew:=⟨_,rfl⟩
  have Hb2:Hid (Below w.heap.size w w2):=Lib.hid (by rw[hw2];exact (Below.refl _ _).drew)
  rw[←hw2]at hHeld⊢
  clear hw2 b0 b1
  refine AA (i:=0) (v:=?zn) (by kernel_rfl) (by kernel_rfl) rfl (by kernel_rfl) (by kernel_rfl) (by kernel_rfl) (fun _ _ _ h=>h) (by rfl) (by assumption) ?Js ?Jt
  case Js=>(intro W hSW;(try dsimp only at hSW);go_simp;try with_reducible rfl)
  (try simp only[Act.put,l0A,l0B,l0C,l0D,l0E,l0F])
  refine AA (i:=1) (v:=?vG) (by kernel_rfl) (by kernel_rfl) rfl (by kernel_rfl) (by kernel_rfl) (by kernel_rfl) (fun _ _ _ h=>h) (by rfl) (by assumption) ?JE ?JF
  case JE=>(intro W hSW;(try dsimp only at hSW);go_simp;try with_reducible rfl)
  (try simp only[Act.put,l0A,l0B,l0C,l0D,l0E,l0F])
  refine AA (i:=3) (v:=?va3) (by kernel_rfl) (by kernel_rfl) rfl (by kernel_rfl) (by kernel_rfl) (by kernel_rfl) (fun _ _ _ h=>h) (by rfl) (by assumption) ?K5 ?K6
  case K5=>(intro W hSW;(try dsimp only at hSW);go_simp;try with_reducible rfl)
  (try simp only[Act.put,l0A,l0B,l0C,l0D,l0E,l0F])
  refine AB (i:=2) rfl (by kernel_rfl) (fun K hK=>?_)
  go_simp
  clear hHeld
  have Hb3:=Lib.hid (Hb2.out.alloc Hb2.out.size (.cells #[.int .i64 (v:Int)] 3))
  have Hv3:Hid (AQ (w2.alloc (.cells #[.int .i64 (v:Int)] 3)) (some ⟨w2.heap.size,0,none⟩) [.int .i64 (v:Int)]):=Lib.hid (AQ.of_heap (heap_alloc_new _ _) rfl)
  refine hK.out _ _ ((AV.below HBl.out Hb3.out hlt).cell 0) (fun hHeld=>?_)
  clear hK K
  (try simp only[Act.put,l0A,l0B,l0C,l0D,l0E,l0F])
  generalize w2.alloc (.cells #[.int .i64 (v:Int)] 3)=w3 at *
  generalize w2.heap.size=g3 at *
  refine AB (i:=4) rfl (by kernel_rfl) (fun K hK=>?_)
  go_simp
  go_at_call 136
  refine (Zd (some ⟨g3,0,none⟩) 1 k (v:Int) w3 Hv3.out h1 hk).mono ?_
  rintro e w4 ⟨⟨A4,rfl,hs4⟩,hb4⟩
  have Hb4:=Lib.hid (Hb3.out.trans (hb4.mono Hb3.out.size))
  have OC:=Lib.hid hs4
  clear hb4 hs4 hHeld
  refine hK.out _ _ ((AV.below HBl.out Hb4.out hlt).cell 0) (fun hHeld=>?_)
  clear hK K
  (try simp only[Act.put,l0A,l0B,l0C,l0D,l0E,l0F])
  have AD5:=Lib.hid (AP HOl.out Hb4.out)
  have AKP:B≤w4.heap.size:=Nat.le_trans hB Hb4.out.size
  obtain⟨X,hX⟩:∃ X,X=List.replicate k (Value.int .i64 (v:Int)):=⟨_,rfl⟩
  have HX:=Lib.hid hX
  have hXl:X.length=k*1:=by rw[hX];simp
  have HXo:Hid (∀ u∈X,u.oneCell'=true):=Lib.hid (by rw[hX];intro u hu;rw[List.eq_of_mem_replicate hu];rfl)
  rw[←hX]at OC
  clear hX
  have hA4:A4=none→k=0:=fun e=>by
   obtain⟨b,o,e',_⟩:=OC.out (by rw[hXl];omega)
   rw[e]at e'
   cases e'
  refine AB (i:=5) rfl (by kernel_rfl) (fun K hK=>?_)
  refine nN rfl (.tmp 13) (.tmp 17) _ rfl B 3 _ 1 8 bX (.slice Al L cl) L (l.map BR) (by simp[Act.eval]) AD5.out A4 k k X (by simp[Act.eval]) hXl OC.out HXo.out hA4 (by unfold maxLen;omega) (by omega) AKP ?_
  intro v5 w5 hown5 hg5 je
  have YY:=Lib.hid hown5
  have eQ:=Lib.hid hg5
  have HW5:=Lib.hid je
  clear hown5 hg5 je hHeld
  have F4:=Lib.hid (AV.below HBl.out Hb4.out hlt)
  have AGk:=Lib.hid (AV.below HBn.out Hb4.out AKO)
  have JY:=Lib.hid (F4.out.grown eQ.out (own_ne AD5.out F4.out (by decide)))
  have AKQ:=Lib.hid (AGk.out.grown eQ.out HNe.out)
  have AGl:=AGk.out.lt
  refine hK.out _ _ (JY.out.cell 0) (fun hHeld=>?_)
  clear hK K
  (try simp only[Act.put,l0A,l0B,l0C,l0D,l0E,l0F])
  obtain⟨A5,c5,rfl,_⟩:=Ad YY.out
  have f5:=JY.out.frozen 0
  refine BH rfl (by kernel_rfl) (by kernel_rfl) (fun K hK=>?_)
  go_simp
  refine hK.out _ _ ?_
  clear hK K
  clear hHeld
  go_wp2_with fail
  go_end0
  have hb5:Below B w4 w5:=⟨eQ.out.os,eQ.out.tape,eQ.out.output,eQ.out.size,fun i hi=>eQ.out.block i (by omega) (fun e=>by have:=(AD5.out.lt i e.symm).1;omega)⟩
  refine⟨Fa HU.out ⟨rfl,hgl,⟨_,JY.out.Ca 0 _,?_,?_⟩,AKQ.out.far (p:=⟨gl,0,none⟩) ?_ _,?_,Jp⟩,((Hb4.out.mono hB).trans hb5).setCell (p:=⟨gl,0,none⟩) hgl _⟩
  ·have h6:(w5.setCell ⟨gl,0,none⟩ (.slice A5 (L+k) c5)).ownsRow B 3 1 (.slice A5 (L+k) c5) (L+k) (l.map BR++X):=((AJ.refl B [89] w5).Dc JY.out (by simp) hgl 0 _).own YY.out (by decide)
   rw[List.length_append,List.length_replicate,←HL.out,List.map_append,List.map_replicate]
   rw[HX.out]at h6
   exact h6
  ·intro e
   rcases HW5.out with h | h
   ·exact HNe.out (h.symm.trans e)
   ·rw[h]at e
    injection e with e
    omega
  ·intro e
   have e:gn=gl:=e
   subst e
   have h1:=HBl.out
   have h2:=HBn.out
   unfold AV at h1 h2
   rw[h1]at h2
   cases h2
  ·rw[List.length_append,List.length_replicate,←HL.out]
   omega
end Go.Proofs.YtabdianhoabhhaaGreatDoor.Inf
