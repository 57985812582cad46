/- texts joined: BlkRunsW RtHead InfBody InfLen InfOrd. -/
import Derived.Test.YtabdianhoabhhaaGreatDoorZbQ5
import Derived.Test.YtabdianhoabhhaaGreatDoorZbQ2
import Derived.StillTailTactics
import Derived.Test.YtabdianhoabhhaaGreatDoorZbQ3
import Derived.Laws.Tables
import Derived.Laws.Rows
namespace Go.Proofs.YtabdianhoabhhaaGreatDoor.Blk
open Go Go.RowKit Go.Proofs.YtabdianhoabhhaaGreatDoor Go.Proofs.YtabdianhoabhhaaGreatDoor.Bits Go.Proofs.YtabdianhoabhhaaGreatDoor.Code Go.Proofs.YtabdianhoabhhaaGreatDoor.Inf Go.Proofs.YtabdianhoabhhaaGreatDoor.Match
set_option linter.unusedVariables false
theorem fillR_len (v:Nat):∀ f n:Nat,(fillR v f n).length≤n
 | 0,n=>by simp[fillR]
 | f+1,n=>by
  unfold fillR
  by_cases h0:n=0
  ·rw[if_pos h0];simp
  ·rw[if_neg h0]
   by_cases h1:v=0∧11≤n
   ·rw[if_pos h1,List.length_cons];have:=fillR_len v f (n - min n 138);omega
   ·rw[if_neg h1]
    by_cases h2:v=0∧3≤n
    ·rw[if_pos h2,List.length_cons];have:=fillR_len v f (n - min n 10);omega
    ·rw[if_neg h2]
     by_cases h3:v≠0∧3≤n
     ·rw[if_pos h3,List.length_cons];have:=fillR_len v f (n - min n 6);omega
     ·rw[if_neg h3,List.length_cons];have:=fillR_len v f (n - 1);omega
theorem runsF_len (l:List Nat):∀ f i:Nat,(runsF l f i).length≤l.length - i
 | 0,i=>by simp[runsF]
 | f+1,i=>by
  unfold runsF
  by_cases h0:l.length≤i
  ·rw[if_pos h0];simp
  ·have hr:=runN_le l i (by omega)
   have h1:=runsF_len l f (i+Blk.runN l i)
   have h2:(oneRun (l.getD i 0) (Blk.runN l i)).length≤Blk.runN l i:=by
    unfold oneRun
    by_cases hv:l.getD i 0=0
    ·rw[if_pos hv];exact fillR_len _ _ _
    ·rw[if_neg hv,List.length_cons];have:=fillR_len (l.getD i 0) (Blk.runN l i - 1) (Blk.runN l i - 1);omega
   rw[if_neg h0,List.length_append];omega
theorem runsP_len (l:List Nat):(runsP l).length≤l.length:=by have:=runsF_len l l.length 0;unfold runsP;omega
theorem runN_more (l:List Nat) (i c:Nat) (h1:1≤c) (h2:c≤Blk.runN l i) (h3:i+c < l.length) (h4:l[i+c]=l[i]'(by omega)):c+1≤Blk.runN l i:=by
 unfold Blk.runN at h2⊢
 have e:l.getD i 0=l[i]'(by omega):=by rw[List.getD_eq_getElem?_getD,List.getElem?_eq_getElem (by omega)];rfl
 have hd:(l.drop (i+1))[c - 1]'(by rw[List.length_drop];omega)=l[i+c]:=by
  rw[List.getElem_drop];congr 1;omega
 have:=Match.tw_step (fun x=>x == l.getD i 0) (l.drop (i+1)) (c - 1) (by omega) (by rw[List.length_drop];omega) (by rw[hd,h4,e];simp)
 omega
theorem runN_stop (l:List Nat) (i c:Nat) (h1:1≤c) (h2:c≤Blk.runN l i) (hi:i < l.length) (h:i+c=l.length∨∃ h3:i+c < l.length,l[i+c]≠l[i]):Blk.runN l i=c:=by
 have hle:=(runN_le l i hi).2
 rcases Nat.lt_or_ge c (Blk.runN l i) with hlt | hge
 ·rcases h with h | ⟨h3,h4⟩
  ·omega
  ·unfold Blk.runN at hlt
   have e:l.getD i 0=l[i]:=by rw[List.getD_eq_getElem?_getD,List.getElem?_eq_getElem hi];rfl
   obtain⟨hn,hp⟩:=Match.tw_get (fun x=>x == l.getD i 0) (l.drop (i+1)) (c - 1) (by omega)
   have hd:(l.drop (i+1))[c - 1]'hn=l[i+c]:=by
    rw[List.getElem_drop];congr 1;omega
   rw[hd,e]at hp
   exact absurd (by simpa using hp) h4
 ·omega
theorem runN_get (l:List Nat) (i j:Nat) (hi:i < l.length) (h:j < Blk.runN l i):∃ h2:i+j < l.length,l[i+j]=l[i]:=by
 have hle:=(runN_le l i hi).2
 have hij:i+j < l.length:=by omega
 refine⟨hij,?_⟩
 rcases Nat.eq_zero_or_pos j with h0 | h0
 ·subst h0;rfl
 ·unfold Blk.runN at h
  have e:l.getD i 0=l[i]:=by rw[List.getD_eq_getElem?_getD,List.getElem?_eq_getElem hi];rfl
  have h':j - 1 < ((l.drop (i+1)).takeWhile fun x=>x == l.getD i 0).length:=Nat.sub_lt_left_of_lt_add (by omega) h
  obtain⟨hn,hp⟩:=Match.tw_get _ _ _ h'
  have hd:(l.drop (i+1))[j - 1]'hn=l[i+j]'(by omega):=by
   rw[List.getElem_drop];congr 1;omega
  rw[hd,e]at hp
  simpa using hp
def runC (x:Nat×Nat×Nat):List Value:=[.int .i64 (x.1:Int),.int .i64 (x.2.1:Int),.int .i64 (x.2.2:Int)]
theorem tyRun:SliceTy Tryz.prog 247 250 (.agg #[.int .i64 0,.int .i64 0,.int .i64 0]) 3 24:=⟨Tryz.underlying247,by kernel_rfl,rfl,by omega⟩
theorem snocC (ac:List (Nat×Nat×Nat)) (x:Nat×Nat×Nat):(ac++[x]).flatMap runC=ac.flatMap runC++runC x:=by rw[List.flatMap_append];simp
theorem run_min2 {P:Program} (ts:Array TypeId) (t:TypeId) (a b:Int) (w:World) :
  (Builtin.min_ ts t #[.int .i64 a,.int .i64 b]).run P w=.ok (.int .i64 (min a b)) w:=by
 simp[Builtin.min_,Builtin.min2]
 (repeat' split) <;> omega
set_option maxRecDepth 100000 in
set_option maxHeartbeats 4000000 in
theorem runs_any (A:Option Addr) (n c:Nat) (l:List Nat) (w:World) (hm:l.length=n) (hx:n≤1000) (hA:SlAt w A (l.map natV)) (hv:∀ x∈l,x≤1000) :
  Calls Tryz.prog 192 #[.slice A n c] w fun e w'=>(∃ v,e=.returned v∧w'.ownsRow w.heap.size 250 3 v (runsP l).length ((runsP l).flatMap runC))∧Below w.heap.size w w':=by
 have HM:=Lib.hid hm
 have HA:=Lib.hid hA
 have HV:=Lib.hid hv
 have HL:=Lib.hid (runsP_len l)
 clear hm hA hv
 go_enter Tryz.func192,Tryz.ntmps192
 go_wp2_with fail
 go_loopw [3,4] (fun vo vi wr=>∃ (i:Nat) (ac:List (Nat×Nat×Nat)),i≤n∧vi=.int .i64 (i:Int)∧ac++runsI l i=runsP l∧wr.ownsRow w.heap.size 250 3 vo ac.length (ac.flatMap runC)∧Below w.heap.size w wr) (fun _ vi _=>n - (intOf vi).toNat)
 case atStart=>exact⟨0,[],Nat.zero_le _,rfl,rfl,World.ownsRow_nil ..,Below.refl _ _⟩
 case round=>
  obtain⟨i,ac,hi,rfl,hac,ho,hb⟩:=hrel
  have Hac:=Lib.hid hac
  have HO:=Lib.hid ho
  have Hb:=Lib.hid hb
  clear hac ho hb
  by_cases hlt:i < n
  ·have hil:i < l.length:=by rw[HM.out];exact hlt
   obtain⟨bA,oA,rfl,hc0'⟩:=(HA.out.below Hb.out).get (k:=i) (by simpa using hil)
   have HC0:=Lib.hid hc0'
   obtain⟨v,hv⟩:∃ v,v=l[i]:=⟨_,rfl⟩
   have Hv:=Lib.hid hv
   have hvd:Hid (l.getD i 0=v):=Lib.hid (by rw[List.getD_eq_getElem?_getD,List.getElem?_eq_getElem hil,hv];rfl)
   have hv1:v≤1000:=by rw[hv];exact HV.out _ (List.getElem_mem hil)
   clear hc0' hv
   obtain⟨wo,hwo⟩:∃ wo,wo=wr:=⟨_,rfl⟩
   rw[←hwo]at HC0 HO Hb⊢
   clear hwo wr
   go_wp2_with fail
   go_loopw [5] (fun vn wr=>∃ q:Nat,1≤q∧q≤Blk.runN l i∧i+q≤n∧vn=.int .i64 (q:Int)∧∃ d,wr=wo.drewN d) (fun vn _=>n - (intOf vn).toNat)
   case atStart=>exact⟨1,Nat.le_refl _,(runN_le l i hil).1,by omega,rfl,0,rfl⟩
   case round=>
    obtain⟨q,hq1,hq2,hq3,rfl,d,rfl⟩:=hrel
    have HS:Hid (_→Blk.runN l i=q):=Lib.hid (runN_stop l i q hq1 hq2 hil)
    have HT:Hid (∀ (h3:i+q < l.length),l[i+q]=l[i]→q+1≤Blk.runN l i):=Lib.hid (fun h3 h4=>runN_more l i q hq1 hq2 h3 h4)
    have Hq2:=Lib.hid hq2
    clear hq2
    have s1:=lay_sum i q (by omega)
    by_cases h2:i+q < n
    ·have h3':i+q < l.length:=by rw[HM.out];exact h2
     obtain⟨b',o',hbb,hc1⟩:=(HA.out.below Hb.out).get (k:=i+q) (by simpa using h3')
     injection hbb with hbb;injection hbb with e1 e2 e3;subst e1 e2
     have hc0:=HC0.out
     simp only[List.getElem_map,natV]at hc0 hc1
     rw[←Hv.out]at hc0
     have g2:decide ((i:Int)+(q:Int) < (n:Int))=true:=by simp;omega
     have p1:(0:Int)≤(i:Int)+(q:Int):=by omega
     have q1:((i:Int)+(q:Int)).toNat=i+q:=by omega
     have r1:(i:Int)+(q:Int) < (n:Int):=by omega
     by_cases he:l[i+q]=v
     ·have Hst:=Lib.hid (HT.out h3' (he.trans Hv.out))
      rw[he]at hc1
      have g3:((v:Int) == (v:Int))=true:=by simp
      clear he HS HT
      go_wp2_with fail
      go_quiet (fail)
      go_wp2_with fail
      go_roundw
      case rel=>exact⟨q+1,by omega,Hst.out,by omega,by go_num,_,rfl⟩
      case measure=>simp[intOf];omega
     ·have Hst:=Lib.hid (HS.out (Or.inr ⟨h3',fun h=>he (h.trans Hv.out.symm)⟩))
      have g3:((l[i+q]:Int) == (v:Int))=false:=by rw[beq_eq_false_iff_ne];omega
      generalize l[i+q]=x at *
      clear he HS HT
      go_wp2_with fail
      go_quiet (fail)
      have HO1:Hid (((wo.drewN d).drewN nq).ownsRow w.heap.size 250 3 _ ac.length (ac.flatMap runC)):=HO
      have Hb1:=Lib.hid (below_drewN' (below_drewN' Hb.out d) nq)
      obtain⟨k,hk⟩:∃ k,i+q=k+1:=⟨i+q - 1,by omega⟩
      obtain⟨hk2,hk3⟩:=runN_get l i (q - 1) hil (by have:=Hst.out;omega)
      have Hrun:Hid (runsI l i=(if v=0 then fillN 0 q++runsI l (k+1) else (v,0,0) :: (fillN v (q - 1)++runsI l (k+1)))):=Lib.hid (by
       rw[runsI_step l i hil,Hst.out,oneRun_eq,hvd.out,hk]
       split <;> rfl)
      obtain⟨b',o',hbb,hck⟩:=(HA.out.below Hb1.out).get (k:=k) (by rw[List.length_map];omega)
      injection hbb with hbb;injection hbb with e1 e2 e3;subst e1 e2
      have hkv:∀ h:k < l.length,l[k]=v:=fun h=>by
       rw[Hv.out,←hk3];congr 1;omega
      simp only[List.getElem_map,natV]at hck
      rw[hkv (by omega)]at hck
      have hsk:IntKind.i64.wrap ((i:Int)+(q:Int))=(k:Int)+1:=by rw[show (i:Int)+(q:Int)=(k:Int)+1 by omega];exact IntWalk.i64_in _ (by omega)
      have hsk2:IntKind.i64.wrap ((k:Int)+1 - 1)=(k:Int):=by rw[show (k:Int)+1 - 1=(k:Int) by omega];exact IntWalk.i64_in _ (by omega)
      have hkn:k < n:=by omega
      have hik:i≤k:=by omega
      generalize (wo.drewN d).drewN nq=w1 at *
      clear s1 hk hk2 hk3 hkv HC0 g2 HO Hb
      clear g3 hc0 hc1 p1 q1 r1
      by_cases hv0:v=0
      ·have hz:((v:Int) == 0)=true:=by simp;omega
       have Hv0:=Lib.hid hv0
       clear hv0
       go_wp2_with fail
       go_loopw [3,5] (fun vo vn wr=>∃ (q:Nat) (ac:List (Nat×Nat×Nat)),q≤n∧vn=.int .i64 (q:Int)∧ac++(fillN v q++runsI l (k+1))=runsP l∧wr.ownsRow w.heap.size 250 3 vo ac.length (ac.flatMap runC)∧Below w.heap.size w wr) (fun _ vn _=>(intOf vn).toNat)
       case atStart=>exact⟨q,ac,by omega,rfl,by have:=Hac.out;rw[Hrun.out,if_pos Hv0.out]at this;rw[Hv0.out];exact this,HO1.out,Hb1.out⟩
       case round=>
        clear HO1 Hb1
        have Hac1:=Hac
        clear Hac
        clear Hst hq1 hq3
        obtain⟨q,ac,hq,rfl,hac,ho,hb⟩:=hrel
        have Hac:=Lib.hid hac
        have HO:=Lib.hid ho
        have Hb:=Lib.hid hb
        have hacl:ac.length≤1000:=by have h1:=congrArg List.length hac;rw[List.length_append]at h1;have h2:=HL.out;have h3:=HM.out;omega
        clear hac ho hb
        by_cases hq0:0 < q
        ·have hq0':(0:Int) < (q:Int):=by omega
         by_cases h11:11≤q
         ·have h11':(11:Int)≤(q:Int):=by omega
          obtain⟨x,hx2⟩:∃ x,x=min q 138 - 11:=⟨_,rfl⟩
          obtain⟨r,hr2⟩:∃ r,r=q - min q 138:=⟨_,rfl⟩
          have Hf:Hid (fillN v q=(18,x,7) :: fillN v r):=Lib.hid (by rw[hx2,hr2];rw[Hv0.out];exact fillN_18 q h11)
          have hmin:∀ (ts:Array TypeId) (ty:TypeId) (W:World),(Builtin.min_ ts ty #[.int .i64 (q:Int),.int .i64 138]).run Tryz.prog W=.ok (.int .i64 ((x:Int)+11)) W:=fun ts ty W=>by rw[run_min2,show min (q:Int) 138=(x:Int)+11 by omega]
          have hs1:IntKind.i64.wrap ((x:Int)+11 - 11)=(x:Int):=by rw[show (x:Int)+11 - 11=(x:Int) by omega];exact IntWalk.i64_in _ (by omega)
          have hs2:IntKind.i64.wrap ((q:Int) - ((x:Int)+11))=(r:Int):=by rw[show (q:Int) - ((x:Int)+11)=(r:Int) by omega];exact IntWalk.i64_in _ (by omega)
          have hrq:r < q:=by omega
          have hx3:x≤1000:=by omega
          clear hx2 hr2
          have hba:Below wr.heap.size wr (wr.alloc (.cells #[.int .i64 18,.int .i64 (x:Int),.int .i64 7] 250)):=(Below.refl _ _).alloc (Nat.le_refl _) _
          have HO2:=Lib.hid (own_keep HO.out hba)
          have Hb2:=Lib.hid (Hb.out.trans (hba.mono Hb.out.size))
          have HZ:Hid (SlAt (wr.alloc (.cells #[.int .i64 18,.int .i64 (x:Int),.int .i64 7] 250)) (some ⟨wr.heap.size,0,none⟩) [.int .i64 18,.int .i64 (x:Int),.int .i64 7]):=Lib.hid (SlAt.of_heap (heap_alloc_new _ _) rfl)
          clear hba
          go_wp2_with (at_builtin;refine wpList_app _ rfl (.tmp 70) (.tmp 74) _ rfl w.heap.size 250 _ 3 24 tyRun _ ac.length (ac.flatMap runC) rfl HO2.out (some ⟨wr.heap.size,0,none⟩) 1 1 [.int .i64 18,.int .i64 (x:Int),.int .i64 7] rfl rfl HZ.out (by simp[Value.oneCell']) (by simp) (by unfold maxLen;omega) (by omega) Hb2.out.size ?_;intro v8 w8 hown8 hg8 _;have Hb8:=Lib.hid (own_below HO2.out hg8 Hb2.out Hb2.out.size);have Ho8:=Lib.hid hown8;clear hown8 hg8)
          go_roundw
          case rel=>exact⟨r,ac++[(18,x,7)],by omega,by go_num,by rw[←Hac.out,Hf.out];simp,by rw[snocC,List.length_append];exact Ho8.out,Hb8.out⟩
          case measure=>simp[intOf];omega
         ·have h11':¬ (11:Int)≤(q:Int):=by omega
          by_cases h3:3≤q
          ·have h3':(3:Int)≤(q:Int):=by omega
           obtain⟨x,hx2⟩:∃ x,x=min q 10 - 3:=⟨_,rfl⟩
           obtain⟨r,hr2⟩:∃ r,r=q - min q 10:=⟨_,rfl⟩
           have Hf:Hid (fillN v q=(17,x,3) :: fillN v r):=Lib.hid (by rw[hx2,hr2];rw[Hv0.out];exact fillN_17 q h3 (by omega))
           have hmin:∀ (ts:Array TypeId) (ty:TypeId) (W:World),(Builtin.min_ ts ty #[.int .i64 (q:Int),.int .i64 10]).run Tryz.prog W=.ok (.int .i64 ((x:Int)+3)) W:=fun ts ty W=>by rw[run_min2,show min (q:Int) 10=(x:Int)+3 by omega]
           have hs1:IntKind.i64.wrap ((x:Int)+3 - 3)=(x:Int):=by rw[show (x:Int)+3 - 3=(x:Int) by omega];exact IntWalk.i64_in _ (by omega)
           have hs2:IntKind.i64.wrap ((q:Int) - ((x:Int)+3))=(r:Int):=by rw[show (q:Int) - ((x:Int)+3)=(r:Int) by omega];exact IntWalk.i64_in _ (by omega)
           have hrq:r < q:=by omega
           have hx3:x≤1000:=by omega
           clear hx2 hr2
           have hba:Below wr.heap.size wr (wr.alloc (.cells #[.int .i64 17,.int .i64 (x:Int),.int .i64 3] 250)):=(Below.refl _ _).alloc (Nat.le_refl _) _
           have HO2:=Lib.hid (own_keep HO.out hba)
           have Hb2:=Lib.hid (Hb.out.trans (hba.mono Hb.out.size))
           have HZ:Hid (SlAt (wr.alloc (.cells #[.int .i64 17,.int .i64 (x:Int),.int .i64 3] 250)) (some ⟨wr.heap.size,0,none⟩) [.int .i64 17,.int .i64 (x:Int),.int .i64 3]):=Lib.hid (SlAt.of_heap (heap_alloc_new _ _) rfl)
           clear hba
           go_wp2_with (at_builtin;refine wpList_app _ rfl (.tmp 88) (.tmp 92) _ rfl w.heap.size 250 _ 3 24 tyRun _ ac.length (ac.flatMap runC) rfl HO2.out (some ⟨wr.heap.size,0,none⟩) 1 1 [.int .i64 17,.int .i64 (x:Int),.int .i64 3] rfl rfl HZ.out (by simp[Value.oneCell']) (by simp) (by unfold maxLen;omega) (by omega) Hb2.out.size ?_;intro v8 w8 hown8 hg8 _;have Hb8:=Lib.hid (own_below HO2.out hg8 Hb2.out Hb2.out.size);have Ho8:=Lib.hid hown8;clear hown8 hg8)
           go_roundw
           case rel=>exact⟨r,ac++[(17,x,3)],by omega,by go_num,by rw[←Hac.out,Hf.out];simp,by rw[snocC,List.length_append];exact Ho8.out,Hb8.out⟩
           case measure=>simp[intOf];omega
          ·have h3':¬ (3:Int)≤(q:Int):=by omega
           obtain⟨r,hr2⟩:∃ r,r=q - 1:=⟨_,rfl⟩
           have Hf:Hid (fillN v q=(v,0,0) :: fillN v r):=Lib.hid (by rw[hr2];exact fillN_one v q (by omega) (by omega))
           have hs2:IntKind.i64.wrap ((q:Int) - 1)=(r:Int):=by rw[show (q:Int) - 1=(r:Int) by omega];exact IntWalk.i64_in _ (by omega)
           have hrq:r < q:=by omega
           clear hr2
           have hba:Below wr.heap.size wr (wr.alloc (.cells #[.int .i64 (v:Int),.int .i64 0,.int .i64 0] 250)):=(Below.refl _ _).alloc (Nat.le_refl _) _
           have HO2:=Lib.hid (own_keep HO.out hba)
           have Hb2:=Lib.hid (Hb.out.trans (hba.mono Hb.out.size))
           have HZ:Hid (SlAt (wr.alloc (.cells #[.int .i64 (v:Int),.int .i64 0,.int .i64 0] 250)) (some ⟨wr.heap.size,0,none⟩) [.int .i64 (v:Int),.int .i64 0,.int .i64 0]):=Lib.hid (SlAt.of_heap (heap_alloc_new _ _) rfl)
           clear hba
           go_wp2_with (at_builtin;refine wpList_app _ rfl (.tmp 54) (.tmp 57) _ rfl w.heap.size 250 _ 3 24 tyRun _ ac.length (ac.flatMap runC) rfl HO2.out (some ⟨wr.heap.size,0,none⟩) 1 1 [.int .i64 (v:Int),.int .i64 0,.int .i64 0] rfl rfl HZ.out (by simp[Value.oneCell']) (by simp) (by unfold maxLen;omega) (by omega) Hb2.out.size ?_;intro v8 w8 hown8 hg8 _;have Hb8:=Lib.hid (own_below HO2.out hg8 Hb2.out Hb2.out.size);have Ho8:=Lib.hid hown8;clear hown8 hg8)
           go_roundw
           case rel=>exact⟨r,ac++[(v,0,0)],by omega,by go_num,by rw[←Hac.out,Hf.out];simp,by rw[snocC,List.length_append];exact Ho8.out,Hb8.out⟩
           case measure=>simp[intOf];omega
        ·obtain rfl:q=0:=by omega
         have Hac2:Hid (ac++runsI l (k+1)=runsP l):=Hac
         go_wp2_with fail
         go_roundw
         case rel=>exact⟨k+1,ac,by omega,by go_num,Hac2.out,HO.out,Hb.out⟩
         case measure=>simp[intOf];omega
      ·have hz:((v:Int) == 0)=false:=by rw[beq_eq_false_iff_ne];omega
       have Hv0:=Lib.hid hv0
       obtain⟨r0,hr0⟩:∃ r,r=q - 1:=⟨_,rfl⟩
       have hs0:IntKind.i64.wrap ((q:Int) - 1)=(r0:Int):=by rw[show (q:Int) - 1=(r0:Int) by omega];exact IntWalk.i64_in _ (by omega)
       have hacl:ac.length≤1000:=by have h1:=congrArg List.length Hac.out;rw[List.length_append]at h1;have h2:=HL.out;have h3:=HM.out;omega
       have hba:Below w1.heap.size w1 (w1.alloc (.cells #[.int .i64 (v:Int),.int .i64 0,.int .i64 0] 250)):=(Below.refl _ _).alloc (Nat.le_refl _) _
       have HO2:=Lib.hid (own_keep HO1.out hba)
       have Hb2:=Lib.hid (Hb1.out.trans (hba.mono Hb1.out.size))
       have HZ:Hid (SlAt (w1.alloc (.cells #[.int .i64 (v:Int),.int .i64 0,.int .i64 0] 250)) (some ⟨w1.heap.size,0,none⟩) [.int .i64 (v:Int),.int .i64 0,.int .i64 0]):=Lib.hid (SlAt.of_heap (heap_alloc_new _ _) rfl)
       clear hba hv0
       go_wp2_with (at_builtin;refine wpList_app _ rfl (.tmp 45) (.tmp 48) _ rfl w.heap.size 250 _ 3 24 tyRun _ ac.length (ac.flatMap runC) rfl HO2.out (some ⟨w1.heap.size,0,none⟩) 1 1 [.int .i64 (v:Int),.int .i64 0,.int .i64 0] rfl rfl HZ.out (by simp[Value.oneCell']) (by simp) (by unfold maxLen;omega) (by omega) Hb2.out.size ?_;intro v8 w8 hown8 hg8 _;have Hb8:=Lib.hid (own_below HO2.out hg8 Hb2.out Hb2.out.size);have Ho8:=Lib.hid hown8;clear hown8 hg8)
       go_loopw [3,5] (fun vo vn wr=>∃ (q:Nat) (ac:List (Nat×Nat×Nat)),q≤n∧vn=.int .i64 (q:Int)∧ac++(fillN v q++runsI l (k+1))=runsP l∧wr.ownsRow w.heap.size 250 3 vo ac.length (ac.flatMap runC)∧Below w.heap.size w wr) (fun _ vn _=>(intOf vn).toNat)
       case atStart=>exact⟨q - 1,ac++[(v,0,0)],by omega,by rw[show ((q - 1:Nat):Int)=(r0:Int) by omega],by have:=Hac.out;rw[Hrun.out,if_neg Hv0.out]at this;rw[←this];simp,by rw[snocC,List.length_append];exact Ho8.out,Hb8.out⟩
       case round=>
        clear HO1 Hb1
        have Hac1:=Hac
        clear Hac
        clear Hst hq1 hq3
        obtain⟨q,ac,hq,rfl,hac,ho,hb⟩:=hrel
        have Hac:=Lib.hid hac
        have HO:=Lib.hid ho
        have Hb:=Lib.hid hb
        have hacl:ac.length≤1000:=by have h1:=congrArg List.length hac;rw[List.length_append]at h1;have h2:=HL.out;have h3:=HM.out;omega
        clear hac ho hb
        by_cases hq0:0 < q
        ·have hq0':(0:Int) < (q:Int):=by omega
         by_cases h3:3≤q
         ·have h3':(3:Int)≤(q:Int):=by omega
          obtain⟨x,hx2⟩:∃ x,x=min q 6 - 3:=⟨_,rfl⟩
          obtain⟨r,hr2⟩:∃ r,r=q - min q 6:=⟨_,rfl⟩
          have Hf:Hid (fillN v q=(16,x,2) :: fillN v r):=Lib.hid (by rw[hx2,hr2];exact fillN_16 v q Hv0.out h3)
          have hmin:∀ (ts:Array TypeId) (ty:TypeId) (W:World),(Builtin.min_ ts ty #[.int .i64 (q:Int),.int .i64 6]).run Tryz.prog W=.ok (.int .i64 ((x:Int)+3)) W:=fun ts ty W=>by rw[run_min2,show min (q:Int) 6=(x:Int)+3 by omega]
          have hs1:IntKind.i64.wrap ((x:Int)+3 - 3)=(x:Int):=by rw[show (x:Int)+3 - 3=(x:Int) by omega];exact IntWalk.i64_in _ (by omega)
          have hs2:IntKind.i64.wrap ((q:Int) - ((x:Int)+3))=(r:Int):=by rw[show (q:Int) - ((x:Int)+3)=(r:Int) by omega];exact IntWalk.i64_in _ (by omega)
          have hrq:r < q:=by omega
          have hx3:x≤1000:=by omega
          clear hx2 hr2
          have hba:Below wr.heap.size wr (wr.alloc (.cells #[.int .i64 16,.int .i64 (x:Int),.int .i64 2] 250)):=(Below.refl _ _).alloc (Nat.le_refl _) _
          have HO2:=Lib.hid (own_keep HO.out hba)
          have Hb2:=Lib.hid (Hb.out.trans (hba.mono Hb.out.size))
          have HZ:Hid (SlAt (wr.alloc (.cells #[.int .i64 16,.int .i64 (x:Int),.int .i64 2] 250)) (some ⟨wr.heap.size,0,none⟩) [.int .i64 16,.int .i64 (x:Int),.int .i64 2]):=Lib.hid (SlAt.of_heap (heap_alloc_new _ _) rfl)
          clear hba
          go_wp2_with (at_builtin;refine wpList_app _ rfl (.tmp 106) (.tmp 110) _ rfl w.heap.size 250 _ 3 24 tyRun _ ac.length (ac.flatMap runC) rfl HO2.out (some ⟨wr.heap.size,0,none⟩) 1 1 [.int .i64 16,.int .i64 (x:Int),.int .i64 2] rfl rfl HZ.out (by simp[Value.oneCell']) (by simp) (by unfold maxLen;omega) (by omega) Hb2.out.size ?_;intro v8 w8 hown8 hg8 _;have Hb8:=Lib.hid (own_below HO2.out hg8 Hb2.out Hb2.out.size);have Ho8:=Lib.hid hown8;clear hown8 hg8)
          go_roundw
          case rel=>exact⟨r,ac++[(16,x,2)],by omega,by go_num,by rw[←Hac.out,Hf.out];simp,by rw[snocC,List.length_append];exact Ho8.out,Hb8.out⟩
          case measure=>simp[intOf];omega
         ·have h3':¬ (3:Int)≤(q:Int):=by omega
          obtain⟨r,hr2⟩:∃ r,r=q - 1:=⟨_,rfl⟩
          have Hf:Hid (fillN v q=(v,0,0) :: fillN v r):=Lib.hid (by rw[hr2];exact fillN_one v q (by omega) (by omega))
          have hs2:IntKind.i64.wrap ((q:Int) - 1)=(r:Int):=by rw[show (q:Int) - 1=(r:Int) by omega];exact IntWalk.i64_in _ (by omega)
          have hrq:r < q:=by omega
          clear hr2
          have hba:Below wr.heap.size wr (wr.alloc (.cells #[.int .i64 (v:Int),.int .i64 0,.int .i64 0] 250)):=(Below.refl _ _).alloc (Nat.le_refl _) _
          have HO2:=Lib.hid (own_keep HO.out hba)
          have Hb2:=Lib.hid (Hb.out.trans (hba.mono Hb.out.size))
          have HZ:Hid (SlAt (wr.alloc (.cells #[.int .i64 (v:Int),.int .i64 0,.int .i64 0] 250)) (some ⟨wr.heap.size,0,none⟩) [.int .i64 (v:Int),.int .i64 0,.int .i64 0]):=Lib.hid (SlAt.of_heap (heap_alloc_new _ _) rfl)
          clear hba
          go_wp2_with (at_builtin;refine wpList_app _ rfl (.tmp 54) (.tmp 57) _ rfl w.heap.size 250 _ 3 24 tyRun _ ac.length (ac.flatMap runC) rfl HO2.out (some ⟨wr.heap.size,0,none⟩) 1 1 [.int .i64 (v:Int),.int .i64 0,.int .i64 0] rfl rfl HZ.out (by simp[Value.oneCell']) (by simp) (by unfold maxLen;omega) (by omega) Hb2.out.size ?_;intro v8 w8 hown8 hg8 _;have Hb8:=Lib.hid (own_below HO2.out hg8 Hb2.out Hb2.out.size);have Ho8:=Lib.hid hown8;clear hown8 hg8)
          go_roundw
          case rel=>exact⟨r,ac++[(v,0,0)],by omega,by go_num,by rw[←Hac.out,Hf.out];simp,by rw[snocC,List.length_append];exact Ho8.out,Hb8.out⟩
          case measure=>simp[intOf];omega
        ·obtain rfl:q=0:=by omega
         have Hac2:Hid (ac++runsI l (k+1)=runsP l):=Hac
         go_wp2_with fail
         go_roundw
         case rel=>exact⟨k+1,ac,by omega,by go_num,Hac2.out,HO.out,Hb.out⟩
         case measure=>simp[intOf];omega
    ·have g2:decide ((i:Int)+(q:Int) < (n:Int))=false:=by simp;omega
     have Hst:=Lib.hid (HS.out (Or.inl (by rw[HM.out];omega)))
     clear HS HT
     go_wp2_with fail
     go_quiet (fail)
     have HO1:Hid (((wo.drewN d).drewN nq).ownsRow w.heap.size 250 3 _ ac.length (ac.flatMap runC)):=HO
     have Hb1:=Lib.hid (below_drewN' (below_drewN' Hb.out d) nq)
     obtain⟨k,hk⟩:∃ k,i+q=k+1:=⟨i+q - 1,by omega⟩
     obtain⟨hk2,hk3⟩:=runN_get l i (q - 1) hil (by have:=Hst.out;omega)
     have Hrun:Hid (runsI l i=(if v=0 then fillN 0 q++runsI l (k+1) else (v,0,0) :: (fillN v (q - 1)++runsI l (k+1)))):=Lib.hid (by
      rw[runsI_step l i hil,Hst.out,oneRun_eq,hvd.out,hk]
      split <;> rfl)
     obtain⟨b',o',hbb,hck⟩:=(HA.out.below Hb1.out).get (k:=k) (by rw[List.length_map];omega)
     injection hbb with hbb;injection hbb with e1 e2 e3;subst e1 e2
     have hkv:∀ h:k < l.length,l[k]=v:=fun h=>by
      rw[Hv.out,←hk3];congr 1;omega
     simp only[List.getElem_map,natV]at hck
     rw[hkv (by omega)]at hck
     have hsk:IntKind.i64.wrap ((i:Int)+(q:Int))=(k:Int)+1:=by rw[show (i:Int)+(q:Int)=(k:Int)+1 by omega];exact IntWalk.i64_in _ (by omega)
     have hsk2:IntKind.i64.wrap ((k:Int)+1 - 1)=(k:Int):=by rw[show (k:Int)+1 - 1=(k:Int) by omega];exact IntWalk.i64_in _ (by omega)
     have hkn:k < n:=by omega
     have hik:i≤k:=by omega
     generalize (wo.drewN d).drewN nq=w1 at *
     clear s1 hk hk2 hk3 hkv HC0 g2 HO Hb
     skip
     by_cases hv0:v=0
     ·have hz:((v:Int) == 0)=true:=by simp;omega
      have Hv0:=Lib.hid hv0
      clear hv0
      go_wp2_with fail
      go_loopw [3,5] (fun vo vn wr=>∃ (q:Nat) (ac:List (Nat×Nat×Nat)),q≤n∧vn=.int .i64 (q:Int)∧ac++(fillN v q++runsI l (k+1))=runsP l∧wr.ownsRow w.heap.size 250 3 vo ac.length (ac.flatMap runC)∧Below w.heap.size w wr) (fun _ vn _=>(intOf vn).toNat)
      case atStart=>exact⟨q,ac,by omega,rfl,by have:=Hac.out;rw[Hrun.out,if_pos Hv0.out]at this;rw[Hv0.out];exact this,HO1.out,Hb1.out⟩
      case round=>
       clear HO1 Hb1
       have Hac1:=Hac
       clear Hac
       clear Hst hq1 hq3
       obtain⟨q,ac,hq,rfl,hac,ho,hb⟩:=hrel
       have Hac:=Lib.hid hac
       have HO:=Lib.hid ho
       have Hb:=Lib.hid hb
       have hacl:ac.length≤1000:=by have h1:=congrArg List.length hac;rw[List.length_append]at h1;have h2:=HL.out;have h3:=HM.out;omega
       clear hac ho hb
       by_cases hq0:0 < q
       ·have hq0':(0:Int) < (q:Int):=by omega
        by_cases h11:11≤q
        ·have h11':(11:Int)≤(q:Int):=by omega
         obtain⟨x,hx2⟩:∃ x,x=min q 138 - 11:=⟨_,rfl⟩
         obtain⟨r,hr2⟩:∃ r,r=q - min q 138:=⟨_,rfl⟩
         have Hf:Hid (fillN v q=(18,x,7) :: fillN v r):=Lib.hid (by rw[hx2,hr2];rw[Hv0.out];exact fillN_18 q h11)
         have hmin:∀ (ts:Array TypeId) (ty:TypeId) (W:World),(Builtin.min_ ts ty #[.int .i64 (q:Int),.int .i64 138]).run Tryz.prog W=.ok (.int .i64 ((x:Int)+11)) W:=fun ts ty W=>by rw[run_min2,show min (q:Int) 138=(x:Int)+11 by omega]
         have hs1:IntKind.i64.wrap ((x:Int)+11 - 11)=(x:Int):=by rw[show (x:Int)+11 - 11=(x:Int) by omega];exact IntWalk.i64_in _ (by omega)
         have hs2:IntKind.i64.wrap ((q:Int) - ((x:Int)+11))=(r:Int):=by rw[show (q:Int) - ((x:Int)+11)=(r:Int) by omega];exact IntWalk.i64_in _ (by omega)
         have hrq:r < q:=by omega
         have hx3:x≤1000:=by omega
         clear hx2 hr2
         have hba:Below wr.heap.size wr (wr.alloc (.cells #[.int .i64 18,.int .i64 (x:Int),.int .i64 7] 250)):=(Below.refl _ _).alloc (Nat.le_refl _) _
         have HO2:=Lib.hid (own_keep HO.out hba)
         have Hb2:=Lib.hid (Hb.out.trans (hba.mono Hb.out.size))
         have HZ:Hid (SlAt (wr.alloc (.cells #[.int .i64 18,.int .i64 (x:Int),.int .i64 7] 250)) (some ⟨wr.heap.size,0,none⟩) [.int .i64 18,.int .i64 (x:Int),.int .i64 7]):=Lib.hid (SlAt.of_heap (heap_alloc_new _ _) rfl)
         clear hba
         go_wp2_with (at_builtin;refine wpList_app _ rfl (.tmp 70) (.tmp 74) _ rfl w.heap.size 250 _ 3 24 tyRun _ ac.length (ac.flatMap runC) rfl HO2.out (some ⟨wr.heap.size,0,none⟩) 1 1 [.int .i64 18,.int .i64 (x:Int),.int .i64 7] rfl rfl HZ.out (by simp[Value.oneCell']) (by simp) (by unfold maxLen;omega) (by omega) Hb2.out.size ?_;intro v8 w8 hown8 hg8 _;have Hb8:=Lib.hid (own_below HO2.out hg8 Hb2.out Hb2.out.size);have Ho8:=Lib.hid hown8;clear hown8 hg8)
         go_roundw
         case rel=>exact⟨r,ac++[(18,x,7)],by omega,by go_num,by rw[←Hac.out,Hf.out];simp,by rw[snocC,List.length_append];exact Ho8.out,Hb8.out⟩
         case measure=>simp[intOf];omega
        ·have h11':¬ (11:Int)≤(q:Int):=by omega
         by_cases h3:3≤q
         ·have h3':(3:Int)≤(q:Int):=by omega
          obtain⟨x,hx2⟩:∃ x,x=min q 10 - 3:=⟨_,rfl⟩
          obtain⟨r,hr2⟩:∃ r,r=q - min q 10:=⟨_,rfl⟩
          have Hf:Hid (fillN v q=(17,x,3) :: fillN v r):=Lib.hid (by rw[hx2,hr2];rw[Hv0.out];exact fillN_17 q h3 (by omega))
          have hmin:∀ (ts:Array TypeId) (ty:TypeId) (W:World),(Builtin.min_ ts ty #[.int .i64 (q:Int),.int .i64 10]).run Tryz.prog W=.ok (.int .i64 ((x:Int)+3)) W:=fun ts ty W=>by rw[run_min2,show min (q:Int) 10=(x:Int)+3 by omega]
          have hs1:IntKind.i64.wrap ((x:Int)+3 - 3)=(x:Int):=by rw[show (x:Int)+3 - 3=(x:Int) by omega];exact IntWalk.i64_in _ (by omega)
          have hs2:IntKind.i64.wrap ((q:Int) - ((x:Int)+3))=(r:Int):=by rw[show (q:Int) - ((x:Int)+3)=(r:Int) by omega];exact IntWalk.i64_in _ (by omega)
          have hrq:r < q:=by omega
          have hx3:x≤1000:=by omega
          clear hx2 hr2
          have hba:Below wr.heap.size wr (wr.alloc (.cells #[.int .i64 17,.int .i64 (x:Int),.int .i64 3] 250)):=(Below.refl _ _).alloc (Nat.le_refl _) _
          have HO2:=Lib.hid (own_keep HO.out hba)
          have Hb2:=Lib.hid (Hb.out.trans (hba.mono Hb.out.size))
          have HZ:Hid (SlAt (wr.alloc (.cells #[.int .i64 17,.int .i64 (x:Int),.int .i64 3] 250)) (some ⟨wr.heap.size,0,none⟩) [.int .i64 17,.int .i64 (x:Int),.int .i64 3]):=Lib.hid (SlAt.of_heap (heap_alloc_new _ _) rfl)
          clear hba
          go_wp2_with (at_builtin;refine wpList_app _ rfl (.tmp 88) (.tmp 92) _ rfl w.heap.size 250 _ 3 24 tyRun _ ac.length (ac.flatMap runC) rfl HO2.out (some ⟨wr.heap.size,0,none⟩) 1 1 [.int .i64 17,.int .i64 (x:Int),.int .i64 3] rfl rfl HZ.out (by simp[Value.oneCell']) (by simp) (by unfold maxLen;omega) (by omega) Hb2.out.size ?_;intro v8 w8 hown8 hg8 _;have Hb8:=Lib.hid (own_below HO2.out hg8 Hb2.out Hb2.out.size);have Ho8:=Lib.hid hown8;clear hown8 hg8)
          go_roundw
          case rel=>exact⟨r,ac++[(17,x,3)],by omega,by go_num,by rw[←Hac.out,Hf.out];simp,by rw[snocC,List.length_append];exact Ho8.out,Hb8.out⟩
          case measure=>simp[intOf];omega
         ·have h3':¬ (3:Int)≤(q:Int):=by omega
          obtain⟨r,hr2⟩:∃ r,r=q - 1:=⟨_,rfl⟩
          have Hf:Hid (fillN v q=(v,0,0) :: fillN v r):=Lib.hid (by rw[hr2];exact fillN_one v q (by omega) (by omega))
          have hs2:IntKind.i64.wrap ((q:Int) - 1)=(r:Int):=by rw[show (q:Int) - 1=(r:Int) by omega];exact IntWalk.i64_in _ (by omega)
          have hrq:r < q:=by omega
          clear hr2
          have hba:Below wr.heap.size wr (wr.alloc (.cells #[.int .i64 (v:Int),.int .i64 0,.int .i64 0] 250)):=(Below.refl _ _).alloc (Nat.le_refl _) _
          have HO2:=Lib.hid (own_keep HO.out hba)
          have Hb2:=Lib.hid (Hb.out.trans (hba.mono Hb.out.size))
          have HZ:Hid (SlAt (wr.alloc (.cells #[.int .i64 (v:Int),.int .i64 0,.int .i64 0] 250)) (some ⟨wr.heap.size,0,none⟩) [.int .i64 (v:Int),.int .i64 0,.int .i64 0]):=Lib.hid (SlAt.of_heap (heap_alloc_new _ _) rfl)
          clear hba
          go_wp2_with (at_builtin;refine wpList_app _ rfl (.tmp 54) (.tmp 57) _ rfl w.heap.size 250 _ 3 24 tyRun _ ac.length (ac.flatMap runC) rfl HO2.out (some ⟨wr.heap.size,0,none⟩) 1 1 [.int .i64 (v:Int),.int .i64 0,.int .i64 0] rfl rfl HZ.out (by simp[Value.oneCell']) (by simp) (by unfold maxLen;omega) (by omega) Hb2.out.size ?_;intro v8 w8 hown8 hg8 _;have Hb8:=Lib.hid (own_below HO2.out hg8 Hb2.out Hb2.out.size);have Ho8:=Lib.hid hown8;clear hown8 hg8)
          go_roundw
          case rel=>exact⟨r,ac++[(v,0,0)],by omega,by go_num,by rw[←Hac.out,Hf.out];simp,by rw[snocC,List.length_append];exact Ho8.out,Hb8.out⟩
          case measure=>simp[intOf];omega
       ·obtain rfl:q=0:=by omega
        have Hac2:Hid (ac++runsI l (k+1)=runsP l):=Hac
        go_wp2_with fail
        go_roundw
        case rel=>exact⟨k+1,ac,by omega,by go_num,Hac2.out,HO.out,Hb.out⟩
        case measure=>simp[intOf];omega
     ·have hz:((v:Int) == 0)=false:=by rw[beq_eq_false_iff_ne];omega
      have Hv0:=Lib.hid hv0
      obtain⟨r0,hr0⟩:∃ r,r=q - 1:=⟨_,rfl⟩
      have hs0:IntKind.i64.wrap ((q:Int) - 1)=(r0:Int):=by rw[show (q:Int) - 1=(r0:Int) by omega];exact IntWalk.i64_in _ (by omega)
      have hacl:ac.length≤1000:=by have h1:=congrArg List.length Hac.out;rw[List.length_append]at h1;have h2:=HL.out;have h3:=HM.out;omega
      have hba:Below w1.heap.size w1 (w1.alloc (.cells #[.int .i64 (v:Int),.int .i64 0,.int .i64 0] 250)):=(Below.refl _ _).alloc (Nat.le_refl _) _
      have HO2:=Lib.hid (own_keep HO1.out hba)
      have Hb2:=Lib.hid (Hb1.out.trans (hba.mono Hb1.out.size))
      have HZ:Hid (SlAt (w1.alloc (.cells #[.int .i64 (v:Int),.int .i64 0,.int .i64 0] 250)) (some ⟨w1.heap.size,0,none⟩) [.int .i64 (v:Int),.int .i64 0,.int .i64 0]):=Lib.hid (SlAt.of_heap (heap_alloc_new _ _) rfl)
      clear hba hv0
      go_wp2_with (at_builtin;refine wpList_app _ rfl (.tmp 45) (.tmp 48) _ rfl w.heap.size 250 _ 3 24 tyRun _ ac.length (ac.flatMap runC) rfl HO2.out (some ⟨w1.heap.size,0,none⟩) 1 1 [.int .i64 (v:Int),.int .i64 0,.int .i64 0] rfl rfl HZ.out (by simp[Value.oneCell']) (by simp) (by unfold maxLen;omega) (by omega) Hb2.out.size ?_;intro v8 w8 hown8 hg8 _;have Hb8:=Lib.hid (own_below HO2.out hg8 Hb2.out Hb2.out.size);have Ho8:=Lib.hid hown8;clear hown8 hg8)
      go_loopw [3,5] (fun vo vn wr=>∃ (q:Nat) (ac:List (Nat×Nat×Nat)),q≤n∧vn=.int .i64 (q:Int)∧ac++(fillN v q++runsI l (k+1))=runsP l∧wr.ownsRow w.heap.size 250 3 vo ac.length (ac.flatMap runC)∧Below w.heap.size w wr) (fun _ vn _=>(intOf vn).toNat)
      case atStart=>exact⟨q - 1,ac++[(v,0,0)],by omega,by rw[show ((q - 1:Nat):Int)=(r0:Int) by omega],by have:=Hac.out;rw[Hrun.out,if_neg Hv0.out]at this;rw[←this];simp,by rw[snocC,List.length_append];exact Ho8.out,Hb8.out⟩
      case round=>
       clear HO1 Hb1
       have Hac1:=Hac
       clear Hac
       clear Hst hq1 hq3
       obtain⟨q,ac,hq,rfl,hac,ho,hb⟩:=hrel
       have Hac:=Lib.hid hac
       have HO:=Lib.hid ho
       have Hb:=Lib.hid hb
       have hacl:ac.length≤1000:=by have h1:=congrArg List.length hac;rw[List.length_append]at h1;have h2:=HL.out;have h3:=HM.out;omega
       clear hac ho hb
       by_cases hq0:0 < q
       ·have hq0':(0:Int) < (q:Int):=by omega
        by_cases h3:3≤q
        ·have h3':(3:Int)≤(q:Int):=by omega
         obtain⟨x,hx2⟩:∃ x,x=min q 6 - 3:=⟨_,rfl⟩
         obtain⟨r,hr2⟩:∃ r,r=q - min q 6:=⟨_,rfl⟩
         have Hf:Hid (fillN v q=(16,x,2) :: fillN v r):=Lib.hid (by rw[hx2,hr2];exact fillN_16 v q Hv0.out h3)
         have hmin:∀ (ts:Array TypeId) (ty:TypeId) (W:World),(Builtin.min_ ts ty #[.int .i64 (q:Int),.int .i64 6]).run Tryz.prog W=.ok (.int .i64 ((x:Int)+3)) W:=fun ts ty W=>by rw[run_min2,show min (q:Int) 6=(x:Int)+3 by omega]
         have hs1:IntKind.i64.wrap ((x:Int)+3 - 3)=(x:Int):=by rw[show (x:Int)+3 - 3=(x:Int) by omega];exact IntWalk.i64_in _ (by omega)
         have hs2:IntKind.i64.wrap ((q:Int) - ((x:Int)+3))=(r:Int):=by rw[show (q:Int) - ((x:Int)+3)=(r:Int) by omega];exact IntWalk.i64_in _ (by omega)
         have hrq:r < q:=by omega
         have hx3:x≤1000:=by omega
         clear hx2 hr2
         have hba:Below wr.heap.size wr (wr.alloc (.cells #[.int .i64 16,.int .i64 (x:Int),.int .i64 2] 250)):=(Below.refl _ _).alloc (Nat.le_refl _) _
         have HO2:=Lib.hid (own_keep HO.out hba)
         have Hb2:=Lib.hid (Hb.out.trans (hba.mono Hb.out.size))
         have HZ:Hid (SlAt (wr.alloc (.cells #[.int .i64 16,.int .i64 (x:Int),.int .i64 2] 250)) (some ⟨wr.heap.size,0,none⟩) [.int .i64 16,.int .i64 (x:Int),.int .i64 2]):=Lib.hid (SlAt.of_heap (heap_alloc_new _ _) rfl)
         clear hba
         go_wp2_with (at_builtin;refine wpList_app _ rfl (.tmp 106) (.tmp 110) _ rfl w.heap.size 250 _ 3 24 tyRun _ ac.length (ac.flatMap runC) rfl HO2.out (some ⟨wr.heap.size,0,none⟩) 1 1 [.int .i64 16,.int .i64 (x:Int),.int .i64 2] rfl rfl HZ.out (by simp[Value.oneCell']) (by simp) (by unfold maxLen;omega) (by omega) Hb2.out.size ?_;intro v8 w8 hown8 hg8 _;have Hb8:=Lib.hid (own_below HO2.out hg8 Hb2.out Hb2.out.size);have Ho8:=Lib.hid hown8;clear hown8 hg8)
         go_roundw
         case rel=>exact⟨r,ac++[(16,x,2)],by omega,by go_num,by rw[←Hac.out,Hf.out];simp,by rw[snocC,List.length_append];exact Ho8.out,Hb8.out⟩
         case measure=>simp[intOf];omega
        ·have h3':¬ (3:Int)≤(q:Int):=by omega
         obtain⟨r,hr2⟩:∃ r,r=q - 1:=⟨_,rfl⟩
         have Hf:Hid (fillN v q=(v,0,0) :: fillN v r):=Lib.hid (by rw[hr2];exact fillN_one v q (by omega) (by omega))
         have hs2:IntKind.i64.wrap ((q:Int) - 1)=(r:Int):=by rw[show (q:Int) - 1=(r:Int) by omega];exact IntWalk.i64_in _ (by omega)
         have hrq:r < q:=by omega
         clear hr2
         have hba:Below wr.heap.size wr (wr.alloc (.cells #[.int .i64 (v:Int),.int .i64 0,.int .i64 0] 250)):=(Below.refl _ _).alloc (Nat.le_refl _) _
         have HO2:=Lib.hid (own_keep HO.out hba)
         have Hb2:=Lib.hid (Hb.out.trans (hba.mono Hb.out.size))
         have HZ:Hid (SlAt (wr.alloc (.cells #[.int .i64 (v:Int),.int .i64 0,.int .i64 0] 250)) (some ⟨wr.heap.size,0,none⟩) [.int .i64 (v:Int),.int .i64 0,.int .i64 0]):=Lib.hid (SlAt.of_heap (heap_alloc_new _ _) rfl)
         clear hba
         go_wp2_with (at_builtin;refine wpList_app _ rfl (.tmp 54) (.tmp 57) _ rfl w.heap.size 250 _ 3 24 tyRun _ ac.length (ac.flatMap runC) rfl HO2.out (some ⟨wr.heap.size,0,none⟩) 1 1 [.int .i64 (v:Int),.int .i64 0,.int .i64 0] rfl rfl HZ.out (by simp[Value.oneCell']) (by simp) (by unfold maxLen;omega) (by omega) Hb2.out.size ?_;intro v8 w8 hown8 hg8 _;have Hb8:=Lib.hid (own_below HO2.out hg8 Hb2.out Hb2.out.size);have Ho8:=Lib.hid hown8;clear hown8 hg8)
         go_roundw
         case rel=>exact⟨r,ac++[(v,0,0)],by omega,by go_num,by rw[←Hac.out,Hf.out];simp,by rw[snocC,List.length_append];exact Ho8.out,Hb8.out⟩
         case measure=>simp[intOf];omega
       ·obtain rfl:q=0:=by omega
        have Hac2:Hid (ac++runsI l (k+1)=runsP l):=Hac
        go_wp2_with fail
        go_roundw
        case rel=>exact⟨k+1,ac,by omega,by go_num,Hac2.out,HO.out,Hb.out⟩
        case measure=>simp[intOf];omega
  ·obtain rfl:i=n:=by omega
   have Hend:Hid (ac=runsP l):=Lib.hid (by have:=Hac.out;rw[runsI_end l i (by rw[HM.out];exact Nat.le_refl _),List.append_nil]at this;exact this)
   go_wp2_with fail
   go_ret
   exact⟨⟨_,rfl,by rw[←Hend.out];exact HO.out⟩,Hb.out⟩
end Go.Proofs.YtabdianhoabhhaaGreatDoor.Blk
namespace Go.Proofs.YtabdianhoabhhaaGreatDoor.Rt
open Go.Proofs.YtabdianhoabhhaaGreatDoor.Bits Go.Proofs.YtabdianhoabhhaaGreatDoor.Code Go.Proofs.YtabdianhoabhhaaGreatDoor.Match Go.Proofs.YtabdianhoabhhaaGreatDoor.SP Go.Proofs.YtabdianhoabhhaaGreatDoor.Inf Go.Proofs.YtabdianhoabhhaaGreatDoor.Blk
set_option linter.unusedVariables false
def runStep (l:List Nat) (x:Nat×Nat×Nat):List Nat:=
 if x.1=16 then l++List.replicate (3+x.2.1) (l.getLastD 0) else if x.1=17 then l++List.replicate (3+x.2.1) 0 else if x.1=18 then l++List.replicate (11+x.2.1) 0 else l++[x.1]
def RunFit (x:Nat×Nat×Nat):Prop:=(x.1=16∧x.2.2=2∧x.2.1 < 4)∨(x.1=17∧x.2.2=3∧x.2.1 < 8)∨(x.1=18∧x.2.2=7∧x.2.1 < 128)∨(x.1≤15∧x.2.1=0∧x.2.2=0)
theorem runStep_gt (l:List Nat) (x:Nat×Nat×Nat):l.length < (runStep l x).length:=by
 unfold runStep
 (repeat' split) <;> simp <;> omega
theorem runs_ge:∀ (xs:List (Nat×Nat×Nat)) (l:List Nat),l.length≤(xs.foldl runStep l).length
 | [],l=>Nat.le_refl _
 | x :: xs,l=>Nat.le_trans (Nat.le_of_lt (runStep_gt l x)) (runs_ge xs _)
theorem again_ok (n:Nat) (l:List Nat) (v k:Nat) (h:l.length+k≤n):againR n l v k=.ok (l++List.replicate k v):=by
 unfold againR;rw[if_neg (by omega)]
def runB (sz:List Nat) (x:Nat×Nat×Nat):List Bool:=codeB sz x.1++numBits x.2.1 x.2.2
theorem step_has {row:List Bool} {sz l:List Nat} {p n:Nat} {x:Nat×Nat×Nat} (hc:Cd sz) (h:Has row p (runB sz x)) (h0:sz.getD x.1 0≠0) (hx:RunFit x) (hl:l=[]→x.1≠16) (hn:(runStep l x).length≤n) :
  lenStep row sz n p l=.ok (p+(runB sz x).length,runStep l x):=by
 obtain⟨a,b,c⟩:=x
 unfold runB at h⊢
 unfold RunFit at hx
 unfold runStep at hn⊢
 dsimp only at *
 have h1:=h.left
 have h2:=h.right
 rw[codeB_length]at h2
 rw[List.length_append,codeB_length,numBits_length]
 unfold lenStep
 rw[sym_has hc h1 h0,thn]
 dsimp only
 rcases hx with ⟨rfl,rfl,h3⟩ | ⟨rfl,rfl,h3⟩ | ⟨rfl,rfl,h3⟩ | ⟨h3,rfl,rfl⟩
 ·rw[if_pos rfl]at hn⊢
  rw[if_pos rfl,if_neg (fun e=>hl e rfl),get_has h2 h3,thn]
  dsimp only
  rw[List.length_append,List.length_replicate]at hn
  rw[again_ok n l _ _ (by omega),thn,Nat.add_assoc]
 ·rw[if_neg (by omega),if_pos rfl]at hn⊢
  rw[if_neg (by omega),if_pos rfl,get_has h2 h3,thn]
  dsimp only
  rw[List.length_append,List.length_replicate]at hn
  rw[again_ok n l _ _ (by omega),thn,Nat.add_assoc]
 ·rw[if_neg (by omega),if_neg (by omega),if_pos rfl]at hn⊢
  rw[if_neg (by omega),if_neg (by omega),if_pos rfl,get_has h2 h3,thn]
  dsimp only
  rw[List.length_append,List.length_replicate]at hn
  rw[again_ok n l _ _ (by omega),thn,Nat.add_assoc]
 ·rw[if_neg (by omega),if_neg (by omega),if_neg (by omega)]at hn⊢
  rw[if_neg (by omega),if_neg (by omega),if_neg (by omega)]
  rw[List.length_append,List.length_singleton]at hn
  rw[again_ok n l _ _ (by omega),thn,Nat.add_zero]
  rfl
theorem lens_has {row:List Bool} {sz:List Nat} {n:Nat} (hc:Cd sz):∀ (xs:List (Nat×Nat×Nat)) (p:Nat) (l:List Nat) (fuel:Nat),Has row p (xs.flatMap (runB sz))→(∀ x∈xs,sz.getD x.1 0≠0∧RunFit x)→(l=[]→∀ x,xs.head?=some x→x.1≠16)→
  (xs.foldl runStep l).length=n→n≤fuel+l.length→lenR row sz n fuel p l=.ok (p+(xs.flatMap (runB sz)).length,xs.foldl runStep l)
 | [],p,l,0,h,hx,hh,hn,hf=>by simp[lenR]
 | [],p,l,f+1,h,hx,hh,hn,hf=>by
  have:l.length=n:=hn
  unfold lenR
  rw[if_pos (by omega)]
  simp
 | x :: xs,p,l,0,h,hx,hh,hn,hf=>by
  rw[List.foldl_cons]at hn
  have h1:=runStep_gt l x
  have h2:=runs_ge xs (runStep l x)
  omega
 | x :: xs,p,l,f+1,h,hx,hh,hn,hf=>by
  rw[List.foldl_cons]at hn⊢
  rw[List.flatMap_cons]at h⊢
  have h1:=runStep_gt l x
  have h2:=runs_ge xs (runStep l x)
  obtain⟨h3,h4⟩:=hx x List.mem_cons_self
  unfold lenR
  rw[if_neg (by omega),step_has hc h.left h3 h4 (fun e=>hh e x rfl) (by omega),thn]
  dsimp only
  rw[lens_has hc xs _ _ f h.right (fun y hy=>hx y (List.mem_cons_of_mem _ hy)) (fun e=>by rw[e]at h1;simp at h1) hn (by omega),List.length_append,Nat.add_assoc]
theorem getLastD_rep (l:List Nat) (v k:Nat) (h:0 < k):(l++List.replicate k v).getLastD 0=v:=by
 obtain⟨j,rfl⟩:∃ j,k=j+1:=⟨k - 1,by omega⟩
 rw[List.replicate_succ',←List.append_assoc]
 simp
theorem fill_said (v:Nat) (hv:v≤15):∀ (f n:Nat) (l:List Nat),n≤f→(v≠0→l.getLastD 0=v)→(fillR v f n).foldl runStep l=l++List.replicate n v
 | 0,n,l,h,_=>by
  obtain rfl:n=0:=by omega
  simp[fillR]
 | f+1,n,l,h,hl=>by
  unfold fillR
  by_cases h0:n=0
  ·rw[if_pos h0,h0];simp
  ·rw[if_neg h0]
   by_cases h1:v=0∧11≤n
   ·rw[if_pos h1,List.foldl_cons]
    obtain⟨rfl,h1⟩:=h1
    have e:runStep l (18,min n 138 - 11,7)=l++List.replicate (min n 138) 0:=by
     unfold runStep
     rw[if_neg (by dsimp only;omega),if_neg (by dsimp only;omega),if_pos rfl]
     dsimp only
     rw[show 11+(min n 138 - 11)=min n 138 by omega]
    rw[e,fill_said 0 (by omega) f _ _ (by omega) (fun h=>absurd rfl h),List.append_assoc,List.replicate_append_replicate]
    congr 2;omega
   ·rw[if_neg h1]
    by_cases h2:v=0∧3≤n
    ·rw[if_pos h2,List.foldl_cons]
     obtain⟨rfl,h2⟩:=h2
     have e:runStep l (17,min n 10 - 3,3)=l++List.replicate (min n 10) 0:=by
      unfold runStep
      rw[if_neg (by dsimp only;omega),if_pos rfl]
      dsimp only
      rw[show 3+(min n 10 - 3)=min n 10 by omega]
     rw[e,fill_said 0 (by omega) f _ _ (by omega) (fun h=>absurd rfl h),List.append_assoc,List.replicate_append_replicate]
     congr 2;omega
    ·rw[if_neg h2]
     by_cases h3:v≠0∧3≤n
     ·rw[if_pos h3,List.foldl_cons]
      have e:runStep l (16,min n 6 - 3,2)=l++List.replicate (min n 6) v:=by
       unfold runStep
       rw[if_pos rfl]
       dsimp only
       rw[show 3+(min n 6 - 3)=min n 6 by omega,hl h3.1]
      rw[e,fill_said v hv f _ _ (by omega) (fun _=>getLastD_rep l v _ (by omega)),List.append_assoc,List.replicate_append_replicate]
      congr 2;omega
     ·rw[if_neg h3,List.foldl_cons]
      have e:runStep l (v,0,0)=l++List.replicate 1 v:=by
       unfold runStep
       dsimp only
       rw[if_neg (by omega),if_neg (by omega),if_neg (by omega)];rfl
      rw[e,fill_said v hv f _ _ (by omega) (fun _=>getLastD_rep l v 1 (by omega)),List.append_assoc,List.replicate_append_replicate]
      congr 2;omega
theorem one_said (v n:Nat) (hv:v≤15) (hn:1≤n) (l:List Nat):(oneRun v n).foldl runStep l=l++List.replicate n v:=by
 unfold oneRun
 by_cases h:v=0
 ·subst h
  rw[if_pos rfl,fill_said 0 (by omega) n n l (Nat.le_refl _) (fun h=>absurd rfl h)]
 ·rw[if_neg h,List.foldl_cons]
  have e:runStep l (v,0,0)=l++List.replicate 1 v:=by
   unfold runStep
   dsimp only
   rw[if_neg (by omega),if_neg (by omega),if_neg (by omega)];rfl
  rw[e,fill_said v hv _ _ _ (Nat.le_refl _) (fun _=>getLastD_rep l v 1 (by omega)),List.append_assoc,List.replicate_append_replicate]
  congr 2;omega
theorem tw_rep (l:List Nat) (v:Nat):l.takeWhile (fun x=>x == v)=List.replicate (l.takeWhile (fun x=>x == v)).length v:=by
 refine List.eq_replicate_iff.2 ⟨rfl,fun x hx=>?_⟩
 have:=List.all_takeWhile (p:=fun x=>x == v) (l:=l)
 rw[List.all_eq_true]at this
 simpa using this x hx
theorem take_run (l:List Nat) (i:Nat) (h:i < l.length):l.take (i+Blk.runN l i)=l.take i++List.replicate (Blk.runN l i) (l.getD i 0):=by
 have e:l.getD i 0=l[i]:=by rw[List.getD_eq_getElem?_getD,List.getElem?_eq_getElem h];rfl
 unfold Blk.runN
 rw[e,List.take_add,List.drop_eq_getElem_cons h,Nat.add_comm 1,List.take_succ_cons,List.replicate_succ]
 congr 2
 have hp:=List.takeWhile_prefix (l:=l.drop (i+1)) fun x=>x == l[i]
 rw[←List.prefix_iff_eq_take.1 hp]
 exact tw_rep _ _
theorem runs_said (l:List Nat) (hl:∀ y∈l,y≤15):∀ (f i:Nat),l.length≤f+i→i≤l.length→(runsF l f i).foldl runStep (l.take i)=l
 | 0,i,h,h2=>by
  obtain rfl:i=l.length:=by omega
  simp[runsF]
 | f+1,i,h,h2=>by
  unfold runsF
  by_cases h0:l.length≤i
  ·rw[if_pos h0]
   obtain rfl:i=l.length:=by omega
   simp
  ·have hr:=runN_le l i (by omega)
   have hv:l.getD i 0≤15:=by
    rw[List.getD_eq_getElem?_getD,List.getElem?_eq_getElem (by omega:i < l.length)]
    exact hl _ (List.getElem_mem _)
   rw[if_neg h0,List.foldl_append,one_said _ _ hv hr.1,←take_run l i (by omega),runs_said l hl f _ (by omega) hr.2]
theorem runs_all (l:List Nat) (hl:∀ y∈l,y≤15):(runsP l).foldl runStep []=l:=by
 have:=runs_said l hl l.length 0 (by omega) (by omega)
 rw[List.take_zero]at this
 exact this
theorem fillR_fit (v:Nat) (hv:v≤15):∀ (f n:Nat),∀ x∈fillR v f n,RunFit x
 | 0,n,x,h=>by simp[fillR]at h
 | f+1,n,x,h=>by
  unfold fillR at h
  by_cases h0:n=0
  ·rw[if_pos h0]at h;cases h
  ·rw[if_neg h0]at h
   by_cases h1:v=0∧11≤n
   ·rw[if_pos h1]at h
    rcases List.mem_cons.1 h with rfl | h
    ·(unfold RunFit;dsimp only;omega)
    ·exact fillR_fit v hv f _ x h
   ·rw[if_neg h1]at h
    by_cases h2:v=0∧3≤n
    ·rw[if_pos h2]at h
     rcases List.mem_cons.1 h with rfl | h
     ·(unfold RunFit;dsimp only;omega)
     ·exact fillR_fit v hv f _ x h
    ·rw[if_neg h2]at h
     by_cases h3:v≠0∧3≤n
     ·rw[if_pos h3]at h
      rcases List.mem_cons.1 h with rfl | h
      ·(unfold RunFit;dsimp only;omega)
      ·exact fillR_fit v hv f _ x h
     ·rw[if_neg h3]at h
      rcases List.mem_cons.1 h with rfl | h
      ·(unfold RunFit;dsimp only;omega)
      ·exact fillR_fit v hv f _ x h
theorem runsF_fit (l:List Nat) (hl:∀ y∈l,y≤15):∀ (f i:Nat),∀ x∈runsF l f i,RunFit x
 | 0,i,x,h=>by simp[runsF]at h
 | f+1,i,x,h=>by
  unfold runsF at h
  by_cases h0:l.length≤i
  ·rw[if_pos h0]at h;cases h
  ·rw[if_neg h0]at h
   have hv:l.getD i 0≤15:=by
    rw[List.getD_eq_getElem?_getD,List.getElem?_eq_getElem (by omega:i < l.length)]
    exact hl _ (List.getElem_mem _)
   rcases List.mem_append.1 h with h | h
   ·unfold oneRun at h
    by_cases h1:l.getD i 0=0
    ·rw[if_pos h1]at h;exact fillR_fit 0 (by omega) _ _ x h
    ·rw[if_neg h1]at h
     rcases List.mem_cons.1 h with rfl | h
     ·(unfold RunFit;dsimp only;omega)
     ·exact fillR_fit _ hv _ _ x h
   ·exact runsF_fit l hl f _ x h
theorem run_head (v n:Nat) (hv:v≤15) (hn:1≤n) (r:List (Nat×Nat×Nat)):∀ x,(oneRun v n++r).head?=some x→x.1≠16:=by
 intro x hx
 unfold oneRun at hx
 by_cases h:v=0
 ·subst h
  rw[if_pos rfl]at hx
  obtain⟨m,rfl⟩:∃ m,n=m+1:=⟨n - 1,by omega⟩
  unfold fillR at hx
  rw[if_neg (by omega)]at hx
  by_cases h1:(0:Nat)=0∧11≤m+1
  ·rw[if_pos h1,List.cons_append,List.head?_cons]at hx
   injection hx with hx
   rw[←hx];dsimp only;omega
  ·rw[if_neg h1]at hx
   by_cases h2:(0:Nat)=0∧3≤m+1
   ·rw[if_pos h2,List.cons_append,List.head?_cons]at hx
    injection hx with hx
    rw[←hx];dsimp only;omega
   ·rw[if_neg h2,if_neg (by omega),List.cons_append,List.head?_cons]at hx
    injection hx with hx
    rw[←hx];dsimp only;omega
 ·rw[if_neg h,List.cons_append,List.head?_cons]at hx
  injection hx with hx
  rw[←hx];dsimp only;omega
theorem runs_head (l:List Nat) (hl:∀ y∈l,y≤15):∀ x,(runsP l).head?=some x→x.1≠16:=by
 intro x hx
 rw[runsI_all]at hx
 rcases Nat.eq_zero_or_pos l.length with h | h
 ·rw[runsI_end l 0 (by omega)]at hx;cases hx
 ·rw[runsI_step l 0 h]at hx
  refine run_head _ _ ?_ (runN_le l 0 h).1 _ x hx
  rw[List.getD_eq_getElem?_getD,List.getElem?_eq_getElem h]
  exact hl _ (List.getElem_mem _)
theorem bump_get (l:List Nat) (i j:Nat):(bump l i).getD j 0=l.getD j 0+if i=j∧j < l.length then 1 else 0:=by
 unfold bump
 simp only[List.getD_eq_getElem?_getD,List.getElem?_set]
 by_cases h:i=j
 ·subst h
  by_cases hl:i < l.length
  ·rw[if_pos rfl,if_pos hl,if_pos ⟨rfl,hl⟩];rfl
  ·rw[if_pos rfl,if_neg hl,if_neg (fun h=>hl h.2),List.getElem?_eq_none (by omega)];rfl
 ·rw[if_neg h,if_neg (fun hh=>h hh.1)];rfl
theorem many_fold:∀ (rs:List (Nat×Nat×Nat)) (m:List Nat) (j:Nat),m.length=19→(rs.foldl (fun m x=>bump m x.1) m).length=19∧m.getD j 0≤(rs.foldl (fun m x=>bump m x.1) m).getD j 0∧((∃ x∈rs,x.1=j)→j < 19→0 < (rs.foldl (fun m x=>bump m x.1) m).getD j 0)
 | [],m,j,h=>⟨h,Nat.le_refl _,fun⟨x,hx,_⟩=>by cases hx⟩
 | x :: rs,m,j,h=>by
  obtain⟨h1,h2,h3⟩:=many_fold rs (bump m x.1) j (by rw[bump_len];exact h)
  rw[bump_get]at h2
  refine⟨h1,?_,?_⟩
  ·rw[List.foldl_cons];omega
  ·rintro⟨y,hy,hj⟩ hlt
   rw[List.foldl_cons]
   rcases List.mem_cons.1 hy with rfl | hy
   ·rw[if_pos ⟨hj,by omega⟩]at h2;omega
   ·exact h3 ⟨y,hy,hj⟩ hlt
theorem many_len (rs:List (Nat×Nat×Nat)):(manyP rs).length=19:=(many_fold rs _ 0 List.length_replicate).1
theorem many_pos (rs:List (Nat×Nat×Nat)) (x:Nat×Nat×Nat) (h:x∈rs) (h19:x.1 < 19):(manyP rs).getD x.1 0≠0:=by
 have:=(many_fold rs (List.replicate 19 0) x.1 List.length_replicate).2.2 ⟨x,h,rfl⟩ h19
 unfold manyP;omega
def sizesP (rs:List (Nat×Nat×Nat)):List Nat:=lengthsP (manyP rs) 7
theorem sizes_fine (rs:List (Nat×Nat×Nat)):(sizesP rs).length=19∧Cd (sizesP rs)∧(∀ x∈sizesP rs,x≤7)∧∀ i,(sizesP rs).getD i 0=0↔(manyP rs).getD i 0=0:=by
 have h:=Weigh.ones_le (manyP rs)
 rw[many_len]at h
 obtain⟨h1,h2,h3,h4⟩:=lens_fine (manyP rs) 7 (by omega) (by omega) (by have:(2:Nat) ^ 7=128:=rfl;omega)
 exact⟨h1.trans (many_len rs),h2,h3,h4⟩
theorem sizes_has {row:List Bool} {v:Nat→Nat} (hv:∀ k,v k < 8):∀ (ks:List Nat) (p:Nat) (s:List Nat),Has row p ((ks.map v).flatMap fun n=>numBits n 3)→sizesR row ks p s=.ok (p+3*ks.length,ks.foldl (fun s k=>s.set k (v k)) s)
 | [],p,s,h=>rfl
 | k :: ks,p,s,h=>by
  rw[List.map_cons,List.flatMap_cons]at h
  have h2:=h.right
  rw[numBits_length]at h2
  show (getR row p 3).then_ _=_
  rw[get_has h.left (hv k),thn]
  dsimp only
  rw[sizes_has hv ks _ _ h2,List.foldl_cons,List.length_cons]
  congr 2;omega
theorem set_get (l:List Nat) (i j x:Nat) (h:i < l.length):(l.set i x).getD j 0=if i=j then x else l.getD j 0:=by
 simp only[List.getD_eq_getElem?_getD,List.getElem?_set]
 by_cases e:i=j
 ·subst e;rw[if_pos rfl,if_pos h,if_pos rfl];rfl
 ·rw[if_neg e,if_neg e]
theorem fold_set (v:Nat→Nat):∀ (ks s:List Nat) (j:Nat),(∀ k∈ks,k < s.length)→(ks.foldl (fun s k=>s.set k (v k)) s).length=s.length∧(ks.foldl (fun s k=>s.set k (v k)) s).getD j 0=if j∈ks then v j else s.getD j 0
 | [],s,j,_=>⟨rfl,by rw[if_neg (by simp)];rfl⟩
 | k :: ks,s,j,h=>by
  obtain⟨h1,h2⟩:=fold_set v ks (s.set k (v k)) j (fun x hx=>by rw[List.length_set];exact h x (List.mem_cons_of_mem _ hx))
  rw[List.foldl_cons]
  refine⟨by rw[h1,List.length_set],?_⟩
  rw[h2,set_get _ _ _ _ (h k List.mem_cons_self)]
  by_cases e:k=j
  ·subst e
   rw[if_pos rfl,if_pos (List.mem_cons_self)]
   split <;> rfl
  ·rw[if_neg e]
   by_cases hj:j∈ks
   ·rw[if_pos hj,if_pos (List.mem_cons_of_mem _ hj)]
   ·rw[if_neg hj,if_neg (fun hm=>by rcases List.mem_cons.1 hm with rfl | hm;exact e rfl;exact hj hm)]
theorem ext_getD (a b:List Nat) (h:a.length=b.length) (hg:∀ j,a.getD j 0=b.getD j 0):a=b:=by
 apply List.ext_getElem h
 intro i h1 h2
 have:=hg i
 rw[List.getD_eq_getElem?_getD,List.getD_eq_getElem?_getD,List.getElem?_eq_getElem h1,List.getElem?_eq_getElem h2]at this
 exact this
theorem order_all:∀ j < 19,∃ q < 19,orderL.getD q 0=j:=by decide
theorem order_lt:∀ k∈orderL,k < 19:=by decide
theorem told_all (S:List Nat) (h:S.length=19):(orderL.take (trimP (orderL.map fun k=>S.getD k 0) 4).length).foldl (fun s k=>s.set k (S.getD k 0)) (List.replicate 19 0)=S:=by
 have hlen:(trimP (orderL.map fun k=>S.getD k 0) 4).length=trimN (orderL.map fun k=>S.getD k 0) 4 19:=by
  unfold trimP
  rw[List.length_take]
  have:=trimN_le (orderL.map fun k=>S.getD k 0) 4 19
  have e:(orderL.map fun k=>S.getD k 0).length=19:=by rw[List.length_map];rfl
  rw[e];omega
 have hz:=trimN_zero (orderL.map fun k=>S.getD k 0) 4 19
 rw[hlen]
 generalize trimN (orderL.map fun k=>S.getD k 0) 4 19=m at *
 have hf:=fun j=>fold_set (fun k=>S.getD k 0) (orderL.take m) (List.replicate 19 0) j (fun k hk=>by rw[List.length_replicate];exact order_lt k (List.mem_of_mem_take hk))
 refine ext_getD _ _ ?_ (fun j=>?_)
 ·rw[(hf 0).1,List.length_replicate,h]
 ·rw[(hf j).2]
  by_cases hj:j∈orderL.take m
  ·rw[if_pos hj]
  ·rw[if_neg hj,rep_getD]
   by_cases h19:j < 19
   ·obtain⟨q,hq,hqj⟩:=order_all j h19
    have hqm:m≤q:=by
     rcases Nat.lt_or_ge q m with h1 | h1
     ·exfalso
      apply hj
      rw[←hqj,List.getD_eq_getElem?_getD,List.getElem?_eq_getElem (show q < orderL.length from hq)]
      exact List.mem_take_iff_getElem.2 ⟨q,by show q < min m 19;omega,rfl⟩
     ·exact h1
    have:=hz q hqm hq
    rw[List.getD_eq_getElem?_getD,List.getElem?_map,List.getElem?_eq_getElem (show q < orderL.length from hq)]at this
    rw[List.getD_eq_getElem?_getD,List.getElem?_eq_getElem (show q < orderL.length from hq)]at hqj
    have e:orderL[q]'(show q < orderL.length from hq)=j:=hqj
    rw[e]at this
    exact this.symm
   ·rw[List.getD_eq_getElem?_getD,List.getElem?_eq_none (by omega)];rfl
theorem headB_eq (lit far:List Nat):headB lit far=numBits ((trimP lit 257).length - 257) 5++numBits ((trimP far 1).length - 1) 5 ++
 numBits ((trimP (orderL.map fun k=>(sizesP (runsP (trimP lit 257++trimP far 1))).getD k 0) 4).length - 4) 4 ++
 (trimP (orderL.map fun k=>(sizesP (runsP (trimP lit 257++trimP far 1))).getD k 0) 4).flatMap (fun n=>numBits n 3) ++
 (runsP (trimP lit 257++trimP far 1)).flatMap (runB (sizesP (runsP (trimP lit 257++trimP far 1)))):=rfl
theorem head_has {row:List Bool} {p:Nat} {lit far:List Nat} (hlit:Cd lit) (hfar:Cd far) (l1:lit.length=286) (l2:far.length=30) (he:lit.getD 256 0≠0) (h:Has row p (headB lit far)) :
  headR row p=.ok (p+(headB lit far).length,trimP lit 257,trimP far 1):=by
 rw[headB_eq]at h⊢
 have tA:=trim_len lit 257 (by omega)
 have tB:=trim_len far 1 (by omega)
 have cA:=trim_cd lit 257 hlit
 have cB:=trim_cd far 1 hfar
 have eA:=trim_getD lit 257 256
 rw[l1]at tA
 rw[l2]at tB
 generalize trimP lit 257=A at *
 generalize trimP far 1=B at *
 have h15:∀ y∈A++B,y≤15:=fun y hy=>by
  rcases List.mem_append.1 hy with hy | hy
  ·exact cA.le y hy
  ·exact cB.le y hy
 have hall:=runs_all (A++B) h15
 have hhead:=runs_head (A++B) h15
 have hfit:∀ x∈runsP (A++B),RunFit x:=runsF_fit (A++B) h15 _ _
 have hok:=runs_ok (A++B) h15
 generalize runsP (A++B)=R at *
 obtain⟨s1,s2,s3,s4⟩:=sizes_fine R
 have hmany:=fun x hx=>many_pos R x hx (hok x hx).1
 generalize sizesP R=S at *
 have hv:∀ k,S.getD k 0 < 8:=fun k=>by
  rw[List.getD_eq_getElem?_getD]
  rcases Nat.lt_or_ge k S.length with h1 | h1
  ·rw[List.getElem?_eq_getElem h1];have:=s3 _ (List.getElem_mem h1);show S[k] < 8;omega
  ·rw[List.getElem?_eq_none h1];show 0 < 8;omega
 have htold:=told_all S s1
 have hTle:4≤(trimP (orderL.map fun k=>S.getD k 0) 4).length∧(trimP (orderL.map fun k=>S.getD k 0) 4).length≤19:=by
  have:=trim_len (orderL.map fun k=>S.getD k 0) 4 (by rw[List.length_map];decide)
  rw[List.length_map]at this
  exact this
 have hT:trimP (orderL.map fun k=>S.getD k 0) 4=(orderL.take (trimP (orderL.map fun k=>S.getD k 0) 4).length).map fun k=>S.getD k 0:=by
  rw[List.map_take]
  conv=>lhs;unfold trimP
  congr 1
  unfold trimP
  rw[List.length_take]
  have:=trimN_le (orderL.map fun k=>S.getD k 0) 4 (orderL.map fun k=>S.getD k 0).length
  omega
 have a1:=h.left.left.left.left
 have a2:=h.left.left.left.right
 have a3:=h.left.left.right
 have a4:=h.left.right
 have a5:=h.right
 rw[hT]at a4
 simp only[List.length_append,numBits_length]at a2 a3 a4 a5⊢
 have hfl:((trimP (orderL.map fun k=>S.getD k 0) 4).flatMap fun n=>numBits n 3).length=3*(trimP (orderL.map fun k=>S.getD k 0) 4).length:=by
  generalize trimP (orderL.map fun k=>S.getD k 0) 4=T
  induction T with
  | nil=>rfl
  | cons a T ih=>rw[List.flatMap_cons,List.length_append,ih,numBits_length,List.length_cons];omega
 rw[hfl]at a5⊢
 generalize (trimP (orderL.map fun k=>S.getD k 0) 4).length=m at *
 have p5:(2:Nat) ^ 5=32:=rfl
 have p4:(2:Nat) ^ 4=16:=rfl
 unfold headR
 rw[get_has a1 (by omega),thn]
 dsimp only
 rw[get_has a2 (by omega),thn]
 dsimp only
 rw[get_has (by rw[Nat.add_assoc];exact a3) (by omega),thn]
 dsimp only
 rw[if_neg (by omega),show A.length - 257+257=A.length by omega,show B.length - 1+1=B.length by omega,show m - 4+4=m by omega]
 have hor:(orderL.take m).length=m:=by rw[List.length_take];show min m 19=m;omega
 rw[sizes_has hv (orderL.take m) _ _ (by rw[Nat.add_assoc,Nat.add_assoc];rw[Nat.add_assoc]at a4;exact a4),thn]
 dsimp only
 rw[htold,table_ok S s2 (by omega),thn]
 have hlen:(R.foldl runStep []).length=A.length+B.length:=by rw[hall,List.length_append]
 rw[lens_has s2 R _ [] (A.length+B.length) (by rw[hor];simp only[Nat.add_assoc]at a5⊢;exact a5) (fun x hx=>⟨fun h0=>hmany x hx ((s4 x.1).1 h0),hfit x hx⟩) (fun _=>hhead) hlen (by simp),thn,hall]
 dsimp only
 have e256:(A++B).getD 256 0=A.getD 256 0:=by
  rw[List.getD_eq_getElem?_getD,List.getD_eq_getElem?_getD,List.getElem?_append_left (by omega)]
 rw[e256,eA,if_neg he,List.take_left,List.drop_left,table_ok A cA (by omega),thn,table_ok B cB (by omega),thn]
 rw[hor]
 simp only[Nat.add_assoc]
end Go.Proofs.YtabdianhoabhhaaGreatDoor.Rt
namespace Go.Proofs.YtabdianhoabhhaaGreatDoor.Inf
open Go Go.RowKit Go.Proofs.YtabdianhoabhhaaGreatDoor Go.Proofs.YtabdianhoabhhaaGreatDoor.Bits Go.Proofs.YtabdianhoabhhaaGreatDoor.Code
set_option linter.unusedVariables false
set_option linter.unusedSimpArgs false
def posOf (q:Nat) (w:World):Nat:=match w.cell? ⟨q,1,none⟩ with
 | some (.int _ p)=>p.toNat
 | _=>0
theorem posOf_src {w:World} {q n c pos:Nat} {A:Option Addr} (h:SrcAt w q A n c pos):posOf q w=pos:=by
 unfold posOf
 rw[show w.cell? ⟨q,1,none⟩=some (.int .i64 (pos:Int)) by rw[Blk.cell h];rfl]
 simp
theorem nxt_pos (ls:List Nat) (row:List Bool):∀ (k n i m:Nat),1≤n→nxt ls row k n=(i,m,0)→n≤m∧m≤row.length:=fun k n i m hn h=>by
 have:=nxt_take ls row row.length (Nat.le_refl _) k n i m hn h
 exact⟨this.1,this.2.1⟩
theorem symR_lt {row:List Bool} {ls:List Nat} {p:Nat} {a:Nat×Nat} (h:symR row ls p=.ok a) (hp:p≤row.length):p < a.2∧a.2≤row.length:=by
 unfold symR at h
 split at h
 ·rename_i hz
  injection h with h
  obtain⟨i,m,z,hn⟩:∃ i m z,next ls (row.drop p)=(i,m,z):=⟨_,_,_,rfl⟩
  rw[hn]at h hz
  dsimp only at h hz
  subst hz h
  have:=nxt_pos ls (row.drop p) 15 1 i m (Nat.le_refl _) hn
  rw[List.length_drop]at this
  dsimp only
  omega
 ·cases h
theorem symR_place {row:List Bool} {ls:List Nat} {p:Nat} {a:Nat×Nat} (h:symR row ls p=.ok a):a.1 < ls.length:=by
 unfold symR at h
 split at h
 ·rename_i hz
  injection h with h
  subst h
  dsimp only
  unfold next at hz⊢
  have key:∀ (k n:Nat),(nxt ls (row.drop p) k n).2.2=0→(nxt ls (row.drop p) k n).1 < ls.length:=by
   intro k
   induction k with
   | zero=>intro n h;simp[nxt]at h
   | succ k ih=>
    intro n h
    by_cases h1:(row.drop p).length < n
    ·rw[nxt_torn _ _ _ _ h1]at h
     simp at h
    ·cases hf:findC ls n (val ((row.drop p).take n)) with
     | some j=>
      rw[nxt_hit ls _ k n j (by omega) hf]
      exact (findC_inv ls n _ j hf).1
     | none=>
      rw[nxt_miss ls _ k n (by omega) hf]at h⊢
      exact ih (n+1) h
  exact key 15 1 hz
 ·cases h
structure TbAt (w:World) (base p:Nat) (ls:List Nat):Prop where
 tab:TabAt w base p ls
 le:∀ x∈ls,x≤15
 room:room ls≤32768
 len:ls.length≤288
theorem TbAt.keeps {w w':World} {base p:Nat} {ls:List Nat} (h:TbAt w base p ls) (hk:Keeps base infT w w'):TbAt w' base p ls:=by
 obtain⟨⟨h1,v,h2,h3⟩,h4,h5,h6⟩:=h
 exact⟨⟨h1,v,hk.blk h2 (by decide),hk.own h3 (by decide)⟩,h4,h5,h6⟩
theorem ex_cells {w:World} {A:Option Addr} {l:List (Nat×Nat)} (h:SlAt w A (l.flatMap exC)) {k:Nat} (hk:k < l.length):∃ b o,A=some ⟨b,o,none⟩∧w.cell? ⟨b,o+k*2,none⟩=some (.int .i64 (l[k].1:Int))∧w.cell? ⟨b,o+k*2+1,none⟩=some (.int .i64 (l[k].2:Int)):=by
 have e:l.flatMap exC=(l.take k).flatMap exC++(exC l[k]++(l.drop (k+1)).flatMap exC):=by
  rw[←List.flatMap_cons,←List.flatMap_append,←List.drop_eq_getElem_cons hk,List.take_append_drop]
 have hl:((l.take k).flatMap exC).length=k*2:=by rw[exC_len,List.length_take];omega
 obtain⟨b,o,ea,hc⟩:=h (by rw[exC_len];omega)
 refine⟨b,o,ea,hc (k*2) _ ?_,hc (k*2+1) _ ?_⟩
 ·rw[e,List.getElem?_append_right (by omega),hl,Nat.sub_self]
  rfl
 ·rw[e,List.getElem?_append_right (by omega),hl,show k*2+1 - k*2=1 by omega]
  rfl
theorem conv8 (k:Nat) (h:k < 256):u8v (UInt8.ofNat k)=.int .u8 (k:Int):=by
 unfold u8v n8
 have:(UInt8.ofNat k).toNat=k:=by show k % 2 ^ 8=k;omega
 rw[this]
theorem sameL_bd:∀ k < 29,(sameL.getD k (0,0)).1≤258∧(sameL.getD k (0,0)).2≤5:=by decide
theorem farL_bd:∀ k < 30,(1≤(farL.getD k (0,0)).1∧(farL.getD k (0,0)).1≤24577)∧(farL.getD k (0,0)).2≤13:=by decide
theorem ex_at {w:World} {base n c:Nat} {A:Option Addr} {l:List (Nat×Nat)} (h:w.ownsRow base 259 2 (.slice A n c) n (l.flatMap exC)) {k:Nat} (hk:k < l.length):∃ b o,A=some ⟨b,o,none⟩∧w.cell? ⟨b,o+k*2,none⟩=some (.int .i64 ((l.getD k (0,0)).1:Int))∧w.cell? ⟨b,o+k*2+1,none⟩=some (.int .i64 ((l.getD k (0,0)).2:Int)):=by
 have hg:l.getD k (0,0)=l[k]:=by rw[List.getD_eq_getElem?_getD,List.getElem?_eq_getElem hk];rfl
 rw[hg]
 obtain⟨A',c',e,_,_,h3,_⟩:=own_slat h
 injection e with e1 e2 e3
 subst e1
 exact ex_cells h3 hk
structure Bd (w0:World) (base:Nat) (A:Option Addr) (n:Nat) (xs:List UInt8) (tl tf:Nat) (lit far:List Nat) (As:Option Addr) (cs:Nat) (Af:Option Addr) (cf:Nat) (w:World):Prop where
 keep:Keeps base infT w0 w
 inp:InAt_ w base A n xs
 tbl:TbAt w base tl lit
 tbf:TbAt w base tf far
 so:w.ownsRow base 259 2 (.slice As 29 cs) 29 (sameL.flatMap exC)
 fo:w.ownsRow base 259 2 (.slice Af 30 cf) 30 (farL.flatMap exC)
theorem Bd.keeps {w0 w w':World} {base:Nat} {A:Option Addr} {n:Nat} {xs:List UInt8} {tl tf:Nat} {lit far:List Nat} {As Af:Option Addr} {cs cf:Nat} (h:Bd w0 base A n xs tl tf lit far As cs Af cf w) (hk:Keeps base infT w w'):Bd w0 base A n xs tl tf lit far As cs Af cf w':=
 ⟨h.keep.trans hk,h.inp.keeps hk,h.tbl.keeps hk,h.tbf.keeps hk,hk.own h.so (by decide),hk.own h.fo (by decide)⟩
theorem getR_pos {row:List Bool} {p n:Nat} {a:Nat×Nat} (h:getR row p n=.ok a):a.2=p+n∧p+n≤row.length:=by
 unfold getR at h
 split at h
 ·injection h with h
  subst h
  exact⟨rfl,by assumption⟩
 ·cases h
theorem pushR_len {o o2:List UInt8} {x:UInt8} (h:pushR o x=.ok o2):o2.length=o.length+1:=by
 unfold pushR at h
 split at h
 ·cases h
 ·injection h with h
  subst h
  simp
theorem RdAt.out1 {w:World} {base g q:Nat} {A:Option Addr} {n c pos:Nat} {out:List UInt8} {ks:List Nat} (h:RdAt w base g q A n c pos out ks):∃ Ao ol co,ol=out.length∧w.cell? ⟨g,1,none⟩=some (.slice Ao ol co)∧ol≤3000∧SlAt w Ao (out.map u8v):=by
 obtain⟨hg,hq,hp,hfew,⟨vo,vk,hb,ho,hk⟩,hsrc⟩:=h
 obtain⟨Ao,co,rfl,_,_,h3,_⟩:=own_slat ho
 exact⟨Ao,_,co,rfl,by rw[hb.cell];rfl,hfew,h3⟩
theorem RdAt.outd {w:World} {base g q:Nat} {A:Option Addr} {n c pos:Nat} {out:List UInt8} {ks:List Nat} (h:RdAt w base g q A n c pos out ks) (h0:0 < out.length):∃ b o ol co,ol=out.length∧w.cell? ⟨g,1,none⟩=some (.slice (some ⟨b,o,none⟩) ol co)∧∀ i,i < ol→w.cell? ⟨b,o+i,none⟩=some (u8v (out.getD i 0)):=by
 obtain⟨Ao,ol,co,e,h1,_,h3⟩:=h.out1
 obtain⟨b,o,rfl,hc⟩:=h3 (by rw[List.length_map];exact h0)
 refine⟨b,o,ol,co,e,h1,fun i hi=>hc i _ ?_⟩
 rw[List.getElem?_map,List.getD_eq_getElem?_getD,List.getElem?_eq_getElem (by omega)]
 rfl
set_option maxRecDepth 100000 in
set_option maxHeartbeats 8000000 in
theorem body_r (base g q tl tf:Nat) (A:Option Addr) (n c pos:Nat) (xs:List UInt8) (out:List UInt8) (ks lit far:List Nat) (w:World) (h:RdAt w base g q A n c pos out ks) (hi:InAt_ w base A n xs) (hl:TbAt w base tl lit) (hf:TbAt w base tf far) (hn:n≤1000000) :
  Calls Tryz.prog 162 #[.pointer (some ⟨g,0,none⟩),.pointer (some ⟨tl,0,none⟩),.pointer (some ⟨tf,0,none⟩)] w fun e w'=>
   RPost (bodyR (bitsL xs) lit far ((bitsL xs).length+1) pos out) (fun a e w'=>e=.returned (.tuple #[])∧RdAt w' base g q A n c a.1 a.2 ks) e w'∧Keeps base infT w w':=by
 obtain⟨R,hR⟩:∃ R,R=bodyR (bitsL xs) lit far ((bitsL xs).length+1) pos out:=⟨_,rfl⟩
 have hrow:(bitsL xs).length=8*n:=by rw[bitsL_length,hi.len]
 have Hrow:=Lib.hid hrow
 rw[←hR]
 rw[hrow]at hR
 have HU:=Lib.hid hR
 have H:=Lib.hid h
 have HI:=Lib.hid hi
 have HL:=Lib.hid hl
 have HFr:=Lib.hid hf
 have HS:=Lib.hid (sames_any w)
 have hp:=h.ple
 have hbw:=h.bw
 clear h hi hl hf hR hrow
 go_enter Tryz.func162,Tryz.ntmps162
 go_wp2_with fail
 refine (HS.out).mono ?_
 rintro e w2 ⟨As,cs,rfl,hs,hb2⟩
 have HFa:=Lib.hid (fars_any w2)
 have HSo:=Lib.hid hs
 have Hb2:=Lib.hid hb2
 clear hs hb2 HS
 go_wp2_with fail
 refine (HFa.out).mono ?_
 rintro e w3 ⟨Af,cf,rfl,hfo,hb3⟩
 have HSo:=Lib.hid (own_base (own_keep HSo.out hb3) hbw)
 have HFo:=Lib.hid (own_base hfo (Nat.le_trans hbw Hb2.out.size))
 have Hb3:=Lib.hid (Hb2.out.trans (hb3.mono Hb2.out.size))
 have HK3:Hid (Keeps base infT w w3):=Lib.hid (Keeps.of_below Hb3.out hbw)
 have H3:=Lib.hid (H.out.below Hb3.out)
 have HI3:=Lib.hid (HI.out.keeps HK3.out)
 have HL3:=Lib.hid (HL.out.keeps HK3.out)
 have HF3:=Lib.hid (HFr.out.keeps HK3.out)
 clear hfo hb3 HFa H HI HL HFr Hb2 Hb3
 go_wp2_with fail
 go_loopw [] (fun wr=>∃ (f p:Nat) (o:List UInt8),8*n+1≤p+f∧R=bodyR (bitsL xs) lit far f p o∧RdAt wr base g q A n c p o ks∧Keeps base infT w wr∧InAt_ wr base A n xs∧TbAt wr base tl lit∧TbAt wr base tf far∧wr.ownsRow base 259 2 (.slice As 29 cs) 29 (sameL.flatMap exC)∧wr.ownsRow base 259 2 (.slice Af 30 cf) 30 (farL.flatMap exC)) (fun wr=>8*n - posOf q wr)
 case atStart=>exact⟨8*n+1,pos,out,by omega,HU.out,H3.out,HK3.out,HI3.out,HL3.out,HF3.out,HSo.out,HFo.out⟩
 case round=>
  obtain⟨f,p,o,hpf,hR,hrd,hk,hin,hlt,hft,hso,hfo⟩:=hrel
  have hple:=hrd.ple
  obtain⟨f,rfl⟩:∃ f',f=f'+1:=⟨f - 1,by omega⟩
  have HU:=Lib.hid (show R=(bodyStep (bitsL xs) lit far p o).then_ fun x=>if x.1=true then .ok x.2 else bodyR (bitsL xs) lit far f x.2.1 x.2.2 from hR)
  have Hpos:Hid (posOf q wr=p):=Lib.hid (posOf_src hrd.src)
  have HK:=Lib.hid hk
  have HL:=Lib.hid hlt
  have HF:=Lib.hid hft
  have HSo:=Lib.hid hso
  have HFo:=Lib.hid hfo
  have HG:=Lib.hid (sym_r base g q tl A n c p xs o ks lit wr hrd hin hlt.tab hlt.le hlt.room hlt.len)
  have HIn:=Lib.hid hin
  clear hR hrd hk hin hlt hft hso hfo H3 HK3 HI3 HL3 HF3
  go_wp2_with fail
  refine (HG.out).mono ?_
  rintro e w4 ⟨hr4,hk4⟩
  have HK4:=Lib.hid (HK.out.trans hk4)
  have HI4:=Lib.hid (HIn.out.keeps hk4)
  have HL4:=Lib.hid (HL.out.keeps hk4)
  have HF4:=Lib.hid (HF.out.keeps hk4)
  have HSo4:=Lib.hid (hk4.own HSo.out (by decide))
  have HFo4:=Lib.hid (hk4.own HFo.out (by decide))
  cases hg4:symR (bitsL xs) lit p with
  | bad z=>
   have he:=rpost_bad hr4 hg4
   subst he
   have HU:=Lib.hid (show R=.bad z by rw[HU.out];unfold bodyStep;rw[hg4];rfl)
   clear hr4 hk4 hg4
   unfold stopE
   go_wp2_with fail
   exact⟨rfl,bad_rpost HU.out,HK4.out⟩
  | ok a=>
   obtain⟨he,hrd4⟩:=rpost_ok hr4 hg4
   subst he
   have hp4:=symR_lt hg4 (by rw[Hrow.out];exact hple)
   rw[Hrow.out]at hp4
   have hpl:=symR_place hg4
   have hl288:=HL.out.len
   have Hst:=Lib.hid (show bodyStep (bitsL xs) lit far p o=_ by unfold bodyStep;rw[hg4,then_ok])
   have H4:=Lib.hid hrd4
   obtain⟨k,p4⟩:=a
   dsimp only at hp4 hpl Hst H4⊢
   clear hr4 hk4 hg4 hrd4 HG HIn HL HF HSo HFo
   rcases (by omega:k < 256∨k=256∨256 < k) with hc | hc | hc
   ·have HP:=Lib.hid (put_r base g q A n c p4 (UInt8.ofNat k) o ks w4 H4.out)
    rw[conv8 k hc]at HP
    have Hst:=Lib.hid (show bodyStep (bitsL xs) lit far p o=(pushR o (UInt8.ofNat k)).then_ fun o=>.ok (false,p4,o) by rw[Hst.out,if_pos hc])
    have hc':(k:Int) < 256:=by omega
    have hc8:k < 2 ^ 8:=hc
    clear hc
    go_wp2_with fail
    refine (HP.out).mono ?_
    rintro e w5 ⟨hr5,hk5⟩
    have HK5:=Lib.hid (HK4.out.trans hk5)
    have HI5:=Lib.hid (HI4.out.keeps hk5)
    have HL5:=Lib.hid (HL4.out.keeps hk5)
    have HF5:=Lib.hid (HF4.out.keeps hk5)
    have HSo5:=Lib.hid (hk5.own HSo4.out (by decide))
    have HFo5:=Lib.hid (hk5.own HFo4.out (by decide))
    cases hg5:pushR o (UInt8.ofNat k) with
    | bad z=>
     have he:=rpost_bad hr5 hg5
     subst he
     have HU:=Lib.hid (show R=.bad z by rw[HU.out,Hst.out,hg5];rfl)
     clear hr5 hk5 hg5
     unfold stopE
     go_wp2_with fail
     exact⟨rfl,bad_rpost HU.out,HK5.out⟩
    | ok o2=>
     obtain⟨he,hrd5⟩:=rpost_ok hr5 hg5
     subst he
     have HU:=Lib.hid (show R=bodyR (bitsL xs) lit far f p4 o2 by rw[HU.out,Hst.out,hg5];rfl)
     have H5:=Lib.hid hrd5
     clear hr5 hk5 hg5 hrd5 HP
     go_wp2_with fail
     go_roundw
     case rel=>exact⟨f,p4,o2,by omega,HU.out,H5.out,HK5.out,HI5.out,HL5.out,HF5.out,HSo5.out,HFo5.out⟩
     case measure=>
      rw[Hpos.out,posOf_src H5.out.src]
      omega
   ·have HU:=Lib.hid (show R=.ok (p4,o) by rw[HU.out,Hst.out,if_neg (by omega),if_pos hc];rfl)
    subst hc
    go_wp2_with fail
    refine bodyPost_ret (results_none rfl _ _ _) rfl ?_
    exact⟨ok_rpost HU.out ⟨rfl,H4.out⟩,HK4.out⟩
   ·obtain⟨j,rfl⟩:∃ j,k=j+257:=⟨k - 257,by omega⟩
    have hc1:¬ ((j+257:Nat):Int) < 256:=by omega
    have hc2:(((j+257:Nat):Int) == 256)=false:=by rw[beq_eq_false_iff_ne];omega
    have hc3:((j+257:Nat):Int) - 257=(j:Int):=by omega
    have hw3:IntKind.i64.wrap (j:Int)=(j:Int):=IntWalk.i64_in _ (by omega)
    by_cases h29:29≤j
    ·have HU:=Lib.hid (show R=.bad 8 by rw[HU.out,Hst.out,if_neg (by omega),if_neg (by omega),if_pos (by omega)];rfl)
     have h29':(29:Int)≤(j:Int):=by omega
     clear hc
     go_wp2_with fail
     refine (fail_any 8 _).mono ?_
     rintro e w5 ⟨rfl,rfl⟩
     unfold stopE
     go_wp2_with fail
     exact⟨rfl,bad_rpost HU.out,HK4.out⟩
    ·obtain⟨bs,os,hAs,hc0,hc1⟩:=ex_at HSo4.out (k:=j) (by show j < 29;omega)
     have hSS:Hid (∀ W:World,W.ownsRow base 259 2 (.slice As 29 cs) 29 (sameL.flatMap exC)→W.cell? ⟨bs,os+j*2,none⟩=some (.int .i64 ((sameL.getD j (0,0)).1:Int))∧W.cell? ⟨bs,os+j*2+1,none⟩=some (.int .i64 ((sameL.getD j (0,0)).2:Int))):=Lib.hid (fun (W:World) hW=>by
      obtain⟨b',o',e,h1,h2⟩:=ex_at hW (k:=j) (by show j < 29;omega)
      rw[hAs]at e
      injection e with e
      injection e with e1 e2
      subst e1 e2
      exact⟨h1,h2⟩)
     obtain⟨hfr,hbt⟩:=sameL_bd j (by omega)
     have Hst:=Lib.hid (show bodyStep (bitsL xs) lit far p o=(getR (bitsL xs) p4 (sameL.getD j (0,0)).2).then_ fun x=>(symR (bitsL xs) far x.2).then_ fun f=>
        if 30≤f.1 then .bad 8
        else (getR (bitsL xs) f.2 (farL.getD f.1 (0,0)).2).then_ fun y=>
         if o.length < (farL.getD f.1 (0,0)).1+y.1 then .bad 9
         else (copyR ((farL.getD f.1 (0,0)).1+y.1) ((sameL.getD j (0,0)).1+x.1) o).then_ fun o=>.ok (false,y.2,o) by
      rw[Hst.out,if_neg (by omega),if_neg (by omega),if_neg (by omega),show j+257 - 257=j by omega])
     generalize sameL.getD j (0,0)=ex at *
     obtain⟨fr,bt⟩:=ex
     dsimp only at hc0 hc1 hfr hbt hSS Hst
     subst hAs
     have HG:=Lib.hid (fun W (hr:RdAt W base g q A n c p4 o ks) (hi:InAt_ W base A n xs)=>get_r base g q A n c p4 bt xs o ks W hr hi (by omega))
     have hj0:(0:Int)≤(j:Int):=by omega
     have hj29:(j:Int) < 29:=by omega
     have h29n:¬ (29:Int)≤(j:Int):=by omega
     have HB4:=Lib.hid (show Bd w base A n xs tl tf lit far (some ⟨bs,os,none⟩) cs Af cf w4 from⟨HK4.out,HI4.out,HL4.out,HF4.out,HSo4.out,HFo4.out⟩)
     have hbw4:base≤w4.heap.size:=H4.out.bw
     clear hc h29 HK4 HI4 HL4 HF4 HSo4 HFo4
     go_wp2_with fail
     refine wp_region_S (fun W=>W.cell? ⟨bs,os+j*2,none⟩=some (.int .i64 (fr:Int))∧W.cell? ⟨bs,os+j*2+1,none⟩=some (.int .i64 (bt:Int))) 13 (by kernel_rfl) ?_
     obtain⟨w5,hw5⟩:∃ w5,w5=w4.drew:=⟨_,rfl⟩
     have hb5:Below w4.heap.size w4 w5:=by rw[hw5];exact (Below.refl _ _).drew
     have H5:=Lib.hid (H4.out.below hb5)
     have HB5:=Lib.hid (HB4.out.keeps (Keeps.of_below hb5 hbw4))
     rw[←hw5]
     have hHeld:=hSS.out w5 HB5.out.so
     clear hw5 hb5 hc0 hc1
     refine wpAnyS_take (i:=0) (v:=?va0) (by kernel_rfl) rfl (by kernel_rfl) (by kernel_rfl) (by kernel_rfl) (fun _ _ _ h=>h) (by rfl) (by assumption) ?hya0 ?resta0
     case hya0=>(intro W hSW;(try dsimp only at hSW);go_simp;try with_reducible rfl)
     (try simp only[Act.put,List.getElem_toArray,List.getElem_cons_zero,List.getElem_cons_succ,List.setIfInBounds_toArray,List.set_cons_zero,List.set_cons_succ])
     refine wpAnyS_take (i:=1) (v:=?va1) (by kernel_rfl) rfl (by kernel_rfl) (by kernel_rfl) (by kernel_rfl) (fun _ _ _ h=>h) (by rfl) (by assumption) ?hya1 ?resta1
     case hya1=>(intro W hSW;(try dsimp only at hSW);go_simp;try with_reducible rfl)
     (try simp only[Act.put,List.getElem_toArray,List.getElem_cons_zero,List.getElem_cons_succ,List.setIfInBounds_toArray,List.set_cons_zero,List.set_cons_succ])
     refine wpAnyS_take (i:=2) (v:=?va2) (by kernel_rfl) rfl (by kernel_rfl) (by kernel_rfl) (by kernel_rfl) (fun _ _ _ h=>h) (by rfl) (by assumption) ?hya2 ?resta2
     case hya2=>(intro W hSW;(try dsimp only at hSW);go_simp;try with_reducible rfl)
     (try simp only[Act.put,List.getElem_toArray,List.getElem_cons_zero,List.getElem_cons_succ,List.setIfInBounds_toArray,List.set_cons_zero,List.set_cons_succ])
     refine wpAnyS_take (i:=3) (v:=?va3) (by kernel_rfl) rfl (by kernel_rfl) (by kernel_rfl) (by kernel_rfl) (fun _ _ _ h=>h) (by rfl) (by assumption) ?hya3 ?resta3
     case hya3=>(intro W hSW;(try dsimp only at hSW);go_simp;try with_reducible rfl)
     (try simp only[Act.put,List.getElem_toArray,List.getElem_cons_zero,List.getElem_cons_succ,List.setIfInBounds_toArray,List.set_cons_zero,List.set_cons_succ])
     refine wpAnyS_take (i:=4) (v:=?va4) (by kernel_rfl) rfl (by kernel_rfl) (by kernel_rfl) (by kernel_rfl) (fun _ _ _ h=>h) (by rfl) (by assumption) ?hya4 ?resta4
     case hya4=>(intro W hSW;(try dsimp only at hSW);go_simp;try with_reducible rfl)
     (try simp only[Act.put,List.getElem_toArray,List.getElem_cons_zero,List.getElem_cons_succ,List.setIfInBounds_toArray,List.set_cons_zero,List.set_cons_succ])
     refine wpAnyS_take (i:=5) (v:=?va5) (by kernel_rfl) rfl (by kernel_rfl) (by kernel_rfl) (by kernel_rfl) (fun _ _ _ h=>h) (by rfl) (by assumption) ?hya5 ?resta5
     case hya5=>(intro W hSW;(try dsimp only at hSW);go_simp;try with_reducible rfl)
     (try simp only[Act.put,List.getElem_toArray,List.getElem_cons_zero,List.getElem_cons_succ,List.setIfInBounds_toArray,List.set_cons_zero,List.set_cons_succ])
     refine wpAnyS_take (i:=6) (v:=?va6) (by kernel_rfl) rfl (by kernel_rfl) (by kernel_rfl) (by kernel_rfl) (fun _ _ _ h=>h) (by rfl) (by assumption) ?hya6 ?resta6
     case hya6=>(intro W hSW;(try dsimp only at hSW);go_simp;try with_reducible rfl)
     (try simp only[Act.put,List.getElem_toArray,List.getElem_cons_zero,List.getElem_cons_succ,List.setIfInBounds_toArray,List.set_cons_zero,List.set_cons_succ])
     refine wpAnyS_take (i:=7) (v:=?va7) (by kernel_rfl) rfl (by kernel_rfl) (by kernel_rfl) (by kernel_rfl) (fun _ _ _ h=>h) (by rfl) (by assumption) ?hya7 ?resta7
     case hya7=>(intro W hSW;(try dsimp only at hSW);go_simp;try with_reducible rfl)
     (try simp only[Act.put,List.getElem_toArray,List.getElem_cons_zero,List.getElem_cons_succ,List.setIfInBounds_toArray,List.set_cons_zero,List.set_cons_succ])
     refine wpAnyS_take (i:=8) (v:=?va8) (by kernel_rfl) rfl (by kernel_rfl) (by kernel_rfl) (by kernel_rfl) (fun _ _ _ h=>h) (by rfl) (by assumption) ?hya8 ?resta8
     case hya8=>(intro W hSW;(try dsimp only at hSW);go_simp;try with_reducible rfl)
     (try simp only[Act.put,List.getElem_toArray,List.getElem_cons_zero,List.getElem_cons_succ,List.setIfInBounds_toArray,List.set_cons_zero,List.set_cons_succ])
     refine wpAnyS_take (i:=9) (v:=?va9) (by kernel_rfl) rfl (by kernel_rfl) (by kernel_rfl) (by kernel_rfl) (fun _ _ _ h=>h) (by rfl) (by assumption) ?hya9 ?resta9
     case hya9=>(intro W hSW;(try dsimp only at hSW);go_simp;try with_reducible rfl)
     (try simp only[Act.put,List.getElem_toArray,List.getElem_cons_zero,List.getElem_cons_succ,List.setIfInBounds_toArray,List.set_cons_zero,List.set_cons_succ])
     refine wpAnyS_take (i:=10) (v:=?va10) (by kernel_rfl) rfl (by kernel_rfl) (by kernel_rfl) (by kernel_rfl) (fun _ _ _ h=>h) (by rfl) (by assumption) ?hya10 ?resta10
     case hya10=>(intro W hSW;(try dsimp only at hSW);go_simp;try with_reducible rfl)
     (try simp only[Act.put,List.getElem_toArray,List.getElem_cons_zero,List.getElem_cons_succ,List.setIfInBounds_toArray,List.set_cons_zero,List.set_cons_succ])
     refine wpAnyS_only (i:=11) rfl (by kernel_rfl) (fun K hK=>?_)
     go_simp
     clear hHeld
     go_at_call 160
     refine (HG.out w5 H5.out HB5.out.inp).mono ?_
     rintro e w6 ⟨hr6,hk6⟩
     have HB6:=Lib.hid (HB5.out.keeps hk6)
     cases hg6:getR (bitsL xs) p4 bt with
     | bad z=>
      have he:=rpost_bad hr6 hg6
      subst he
      have HU:=Lib.hid (show R=.bad z by rw[HU.out,Hst.out,hg6];rfl)
      clear hr6 hk6 hg6
      unfold stopE
      go_wp2_with fail
      exact⟨rfl,bad_rpost HU.out,HB6.out.keep⟩
     | ok a=>
      obtain⟨he,hrd6⟩:=rpost_ok hr6 hg6
      subst he
      have hx:=getR_lt hg6
      have hq6:=getR_pos hg6
      replace Hst:=Lib.hid (Hst.out.trans (by rw[hg6,then_ok]))
      have H6:=Lib.hid hrd6
      obtain⟨x,p6⟩:=a
      dsimp only at hx hq6 Hst H6⊢
      have hx32:x < 32:=Nat.lt_of_lt_of_le hx (Nat.le_trans (Nat.pow_le_pow_right (by omega) hbt) (by decide))
      have hwx:IntKind.i64.wrap ((fr:Int)+(x:Int))=((fr+x:Nat):Int):=by rw[show (fr:Int)+(x:Int)=((fr+x:Nat):Int) by omega];exact IntWalk.i64_in _ (by omega)
      have hm300:fr+x≤300:=by omega
      clear hr6 hk6 hg6 hrd6 hx HG
      refine hK.out _ _ (hSS.out w6 HB6.out.so) (fun hHeld=>?_)
      clear hK K
      (try simp only[Act.put,List.getElem_toArray,List.getElem_cons_zero,List.getElem_cons_succ,List.setIfInBounds_toArray,List.set_cons_zero,List.set_cons_succ])
      refine wpAnyS_only (i:=12) rfl (by kernel_rfl) (fun K hK=>?_)
      go_simp
      rw[show (fr:Int)+(x:Int)=((fr+x:Nat):Int) by omega]
      refine hK.out _ _ (hSS.out w6 HB6.out.so) (fun hHeld=>?_)
      clear hK K hHeld
      (try simp only[Act.put,List.getElem_toArray,List.getElem_cons_zero,List.getElem_cons_succ,List.setIfInBounds_toArray,List.set_cons_zero,List.set_cons_succ])
      generalize hmm:fr+x=m at *
      refine wpAnyS_last rfl (by kernel_rfl) (by kernel_rfl) (fun K hK=>?_)
      go_simp
      refine hK.out _ _ ?_
      clear hK K
      have HY:=Lib.hid (sym_r base g q tf A n c p6 xs o ks far w6 H6.out HB6.out.inp HB6.out.tbf.tab HB6.out.tbf.le HB6.out.tbf.room HB6.out.tbf.len)
      have hf288:=HB6.out.tbf.len
      have hple6:=H6.out.ple
      go_wp2_with fail
      refine (HY.out).mono ?_
      rintro e w7 ⟨hr7,hk7⟩
      have HB7:=Lib.hid (HB6.out.keeps hk7)
      cases hg7:symR (bitsL xs) far p6 with
      | bad z=>
       have he:=rpost_bad hr7 hg7
       subst he
       have HU:=Lib.hid (show R=.bad z by rw[HU.out,Hst.out,hg7];rfl)
       clear hr7 hk7 hg7
       unfold stopE
       go_wp2_with fail
       exact⟨rfl,bad_rpost HU.out,HB7.out.keep⟩
      | ok a=>
       obtain⟨he,hrd7⟩:=rpost_ok hr7 hg7
       subst he
       have hp7:=symR_lt hg7 (by rw[Hrow.out];exact hple6)
       rw[Hrow.out]at hp7
       have hpl7:=symR_place hg7
       replace Hst:=Lib.hid (Hst.out.trans (by rw[hg7,then_ok]))
       have H7:=Lib.hid hrd7
       obtain⟨j2,p7⟩:=a
       dsimp only at hp7 hpl7 Hst H7⊢
       clear hr7 hk7 hg7 hrd7 HY
       have hj20:(0:Int)≤(j2:Int):=by omega
       by_cases h30:30≤j2
       ·have HU:=Lib.hid (show R=.bad 8 by rw[HU.out,Hst.out,if_pos h30];rfl)
        have h30':(30:Int)≤(j2:Int):=by omega
        go_wp2_with fail
        refine (fail_any 8 _).mono ?_
        rintro e w8 ⟨rfl,rfl⟩
        unfold stopE
        go_wp2_with fail
        exact⟨rfl,bad_rpost HU.out,HB7.out.keep⟩
       ·replace Hst:=Lib.hid (Hst.out.trans (if_neg h30))
        obtain⟨bf,of,hAf,_,_⟩:=ex_at HB7.out.fo (k:=j2) (by show j2 < 30;omega)
        have hSF:Hid (∀ W:World,W.ownsRow base 259 2 (.slice Af 30 cf) 30 (farL.flatMap exC)→W.cell? ⟨bf,of+j2*2,none⟩=some (.int .i64 ((farL.getD j2 (0,0)).1:Int))∧W.cell? ⟨bf,of+j2*2+1,none⟩=some (.int .i64 ((farL.getD j2 (0,0)).2:Int))):=Lib.hid (fun (W:World) hW=>by
         obtain⟨b',o',e,h1,h2⟩:=ex_at hW (k:=j2) (by show j2 < 30;omega)
         rw[hAf]at e
         injection e with e
         injection e with e1 e2
         subst e1 e2
         exact⟨h1,h2⟩)
        obtain⟨hfr2,hbt2⟩:=farL_bd j2 (by omega)
        generalize farL.getD j2 (0,0)=ex at Hst hSF hfr2 hbt2
        obtain⟨fr2,bt2⟩:=ex
        dsimp only at hfr2 hbt2 hSF Hst
        subst hAf
        have HG:=Lib.hid (fun W (hr:RdAt W base g q A n c p7 o ks) (hi:InAt_ W base A n xs)=>get_r base g q A n c p7 bt2 xs o ks W hr hi (by omega))
        have hj230:(j2:Int) < 30:=by omega
        have h30n:¬ (30:Int)≤(j2:Int):=by omega
        have hbw7:base≤w7.heap.size:=H7.out.bw
        clear h30
        go_wp2_with fail
        refine wp_region_S (fun W=>W.cell? ⟨bf,of+j2*2,none⟩=some (.int .i64 (fr2:Int))∧W.cell? ⟨bf,of+j2*2+1,none⟩=some (.int .i64 (bt2:Int))) 13 (by kernel_rfl) ?_
        obtain⟨w8,hw8⟩:∃ w8,w8=w7.drew:=⟨_,rfl⟩
        have hb8:Below w7.heap.size w7 w8:=by rw[hw8];exact (Below.refl _ _).drew
        have H8:=Lib.hid (H7.out.below hb8)
        have HB8:=Lib.hid (HB7.out.keeps (Keeps.of_below hb8 hbw7))
        rw[←hw8]
        have hHeld:=hSF.out w8 HB8.out.fo
        clear hw8 hb8
        refine wpAnyS_take (i:=0) (v:=?vb0) (by kernel_rfl) rfl (by kernel_rfl) (by kernel_rfl) (by kernel_rfl) (fun _ _ _ h=>h) (by rfl) (by assumption) ?hyb0 ?restb0
        case hyb0=>(intro W hSW;(try dsimp only at hSW);go_simp;try with_reducible rfl)
        (try simp only[Act.put,List.getElem_toArray,List.getElem_cons_zero,List.getElem_cons_succ,List.setIfInBounds_toArray,List.set_cons_zero,List.set_cons_succ])
        refine wpAnyS_take (i:=1) (v:=?vb1) (by kernel_rfl) rfl (by kernel_rfl) (by kernel_rfl) (by kernel_rfl) (fun _ _ _ h=>h) (by rfl) (by assumption) ?hyb1 ?restb1
        case hyb1=>(intro W hSW;(try dsimp only at hSW);go_simp;try with_reducible rfl)
        (try simp only[Act.put,List.getElem_toArray,List.getElem_cons_zero,List.getElem_cons_succ,List.setIfInBounds_toArray,List.set_cons_zero,List.set_cons_succ])
        refine wpAnyS_take (i:=2) (v:=?vb2) (by kernel_rfl) rfl (by kernel_rfl) (by kernel_rfl) (by kernel_rfl) (fun _ _ _ h=>h) (by rfl) (by assumption) ?hyb2 ?restb2
        case hyb2=>(intro W hSW;(try dsimp only at hSW);go_simp;try with_reducible rfl)
        (try simp only[Act.put,List.getElem_toArray,List.getElem_cons_zero,List.getElem_cons_succ,List.setIfInBounds_toArray,List.set_cons_zero,List.set_cons_succ])
        refine wpAnyS_take (i:=3) (v:=?vb3) (by kernel_rfl) rfl (by kernel_rfl) (by kernel_rfl) (by kernel_rfl) (fun _ _ _ h=>h) (by rfl) (by assumption) ?hyb3 ?restb3
        case hyb3=>(intro W hSW;(try dsimp only at hSW);go_simp;try with_reducible rfl)
        (try simp only[Act.put,List.getElem_toArray,List.getElem_cons_zero,List.getElem_cons_succ,List.setIfInBounds_toArray,List.set_cons_zero,List.set_cons_succ])
        refine wpAnyS_take (i:=4) (v:=?vb4) (by kernel_rfl) rfl (by kernel_rfl) (by kernel_rfl) (by kernel_rfl) (fun _ _ _ h=>h) (by rfl) (by assumption) ?hyb4 ?restb4
        case hyb4=>(intro W hSW;(try dsimp only at hSW);go_simp;try with_reducible rfl)
        (try simp only[Act.put,List.getElem_toArray,List.getElem_cons_zero,List.getElem_cons_succ,List.setIfInBounds_toArray,List.set_cons_zero,List.set_cons_succ])
        refine wpAnyS_take (i:=5) (v:=?vb5) (by kernel_rfl) rfl (by kernel_rfl) (by kernel_rfl) (by kernel_rfl) (fun _ _ _ h=>h) (by rfl) (by assumption) ?hyb5 ?restb5
        case hyb5=>(intro W hSW;(try dsimp only at hSW);go_simp;try with_reducible rfl)
        (try simp only[Act.put,List.getElem_toArray,List.getElem_cons_zero,List.getElem_cons_succ,List.setIfInBounds_toArray,List.set_cons_zero,List.set_cons_succ])
        refine wpAnyS_take (i:=6) (v:=?vb6) (by kernel_rfl) rfl (by kernel_rfl) (by kernel_rfl) (by kernel_rfl) (fun _ _ _ h=>h) (by rfl) (by assumption) ?hyb6 ?restb6
        case hyb6=>(intro W hSW;(try dsimp only at hSW);go_simp;try with_reducible rfl)
        (try simp only[Act.put,List.getElem_toArray,List.getElem_cons_zero,List.getElem_cons_succ,List.setIfInBounds_toArray,List.set_cons_zero,List.set_cons_succ])
        refine wpAnyS_take (i:=7) (v:=?vb7) (by kernel_rfl) rfl (by kernel_rfl) (by kernel_rfl) (by kernel_rfl) (fun _ _ _ h=>h) (by rfl) (by assumption) ?hyb7 ?restb7
        case hyb7=>(intro W hSW;(try dsimp only at hSW);go_simp;try with_reducible rfl)
        (try simp only[Act.put,List.getElem_toArray,List.getElem_cons_zero,List.getElem_cons_succ,List.setIfInBounds_toArray,List.set_cons_zero,List.set_cons_succ])
        refine wpAnyS_take (i:=8) (v:=?vb8) (by kernel_rfl) rfl (by kernel_rfl) (by kernel_rfl) (by kernel_rfl) (fun _ _ _ h=>h) (by rfl) (by assumption) ?hyb8 ?restb8
        case hyb8=>(intro W hSW;(try dsimp only at hSW);go_simp;try with_reducible rfl)
        (try simp only[Act.put,List.getElem_toArray,List.getElem_cons_zero,List.getElem_cons_succ,List.setIfInBounds_toArray,List.set_cons_zero,List.set_cons_succ])
        refine wpAnyS_take (i:=9) (v:=?vb9) (by kernel_rfl) rfl (by kernel_rfl) (by kernel_rfl) (by kernel_rfl) (fun _ _ _ h=>h) (by rfl) (by assumption) ?hyb9 ?restb9
        case hyb9=>(intro W hSW;(try dsimp only at hSW);go_simp;try with_reducible rfl)
        (try simp only[Act.put,List.getElem_toArray,List.getElem_cons_zero,List.getElem_cons_succ,List.setIfInBounds_toArray,List.set_cons_zero,List.set_cons_succ])
        refine wpAnyS_take (i:=10) (v:=?vb10) (by kernel_rfl) rfl (by kernel_rfl) (by kernel_rfl) (by kernel_rfl) (fun _ _ _ h=>h) (by rfl) (by assumption) ?hyb10 ?restb10
        case hyb10=>(intro W hSW;(try dsimp only at hSW);go_simp;try with_reducible rfl)
        (try simp only[Act.put,List.getElem_toArray,List.getElem_cons_zero,List.getElem_cons_succ,List.setIfInBounds_toArray,List.set_cons_zero,List.set_cons_succ])
        refine wpAnyS_only (i:=11) rfl (by kernel_rfl) (fun K hK=>?_)
        go_simp
        clear hHeld
        go_at_call 160
        refine (HG.out w8 H8.out HB8.out.inp).mono ?_
        rintro e w9 ⟨hr9,hk9⟩
        have HB9:=Lib.hid (HB8.out.keeps hk9)
        cases hg9:getR (bitsL xs) p7 bt2 with
        | bad z=>
         have he:=rpost_bad hr9 hg9
         subst he
         have HU:=Lib.hid (show R=.bad z by rw[HU.out,Hst.out,hg9];rfl)
         clear hr9 hk9 hg9
         unfold stopE
         go_wp2_with fail
         exact⟨rfl,bad_rpost HU.out,HB9.out.keep⟩
        | ok a=>
         obtain⟨he,hrd9⟩:=rpost_ok hr9 hg9
         subst he
         have hy:=getR_lt hg9
         have hq9:=getR_pos hg9
         replace Hst:=Lib.hid (Hst.out.trans (by rw[hg9,then_ok]))
         have H9:=Lib.hid hrd9
         obtain⟨y,p9⟩:=a
         dsimp only at hy hq9 Hst H9⊢
         have hy8k:y < 8192:=Nat.lt_of_lt_of_le hy (Nat.le_trans (Nat.pow_le_pow_right (by omega) hbt2) (by decide))
         have hwy:IntKind.i64.wrap ((fr2:Int)+(y:Int))=((fr2+y:Nat):Int):=by rw[show (fr2:Int)+(y:Int)=((fr2+y:Nat):Int) by omega];exact IntWalk.i64_in _ (by omega)
         have hd0:1≤fr2+y:=by have:=hfr2.1;omega
         have hd1:fr2+y≤40000:=by omega
         clear hr9 hk9 hg9 hrd9 hy HG
         refine hK.out _ _ (hSF.out w9 HB9.out.fo) (fun hHeld=>?_)
         clear hK K
         (try simp only[Act.put,List.getElem_toArray,List.getElem_cons_zero,List.getElem_cons_succ,List.setIfInBounds_toArray,List.set_cons_zero,List.set_cons_succ])
         refine wpAnyS_only (i:=12) rfl (by kernel_rfl) (fun K hK=>?_)
         go_simp
         rw[show (fr2:Int)+(y:Int)=((fr2+y:Nat):Int) by omega]
         refine hK.out _ _ (hSF.out w9 HB9.out.fo) (fun hHeld=>?_)
         clear hK K hHeld
         (try simp only[Act.put,List.getElem_toArray,List.getElem_cons_zero,List.getElem_cons_succ,List.setIfInBounds_toArray,List.set_cons_zero,List.set_cons_succ])
         generalize hdd:fr2+y=d at *
         refine wpAnyS_last rfl (by kernel_rfl) (by kernel_rfl) (fun K hK=>?_)
         go_simp
         refine hK.out _ _ ?_
         clear hK K hSS hSF
         obtain⟨Ao,ol,co,hol,b1,ho3,_⟩:=H9.out.out1
         have Hol:=Lib.hid hol
         by_cases hd:ol < d
         ·have HU:=Lib.hid (show R=.bad 9 by rw[HU.out,Hst.out,if_pos (by rw[←hol];exact hd)];rfl)
          have hd':(ol:Int) < (d:Int):=by omega
          clear hol
          go_wp2_with fail
          refine (fail_any 9 _).mono ?_
          rintro e w10 ⟨rfl,rfl⟩
          unfold stopE
          go_wp2_with fail
          exact⟨rfl,bad_rpost HU.out,HB9.out.keep⟩
         ·have hst:bodyStep (bitsL xs) lit far p o=(copyR d m o).then_ fun o=>.ok (false,p9,o):=Hst.out.trans (if_neg (by rw[←hol];exact hd))
          have HU:=Lib.hid (show R=(copyR d m o).then_ fun o=>bodyR (bitsL xs) lit far f p9 o by rw[HU.out,hst];cases copyR d m o <;> rfl)
          have hd':¬ (ol:Int) < (d:Int):=by omega
          have hdo:d≤o.length:=by rw[←hol];omega
          clear hol hst
          go_wp2_with fail
          go_loopw [77] (fun vi wr=>∃ (k r:Nat) (o':List UInt8),k+r=m∧vi=.int .i64 (k:Int)∧d≤o'.length∧R=(copyR d r o').then_ (fun o=>bodyR (bitsL xs) lit far f p9 o)∧RdAt wr base g q A n c p9 o' ks∧Bd w base A n xs tl tf lit far (some ⟨bs,os,none⟩) cs (some ⟨bf,of,none⟩) cf wr) (fun vi _=>m - (intOf vi).toNat)
          case atStart=>exact⟨0,m,o,by omega,rfl,hdo,HU.out,H9.out,HB9.out⟩
          case round=>
           obtain⟨k,r,o',hkr,rfl,hdo',hR,hrd,hbd⟩:=hrel
           have HU:=Lib.hid hR
           have HR:=Lib.hid hrd
           have HB:=Lib.hid hbd
           clear hR hrd hbd HB9 H9 HB8 H8
           by_cases hlt:k < m
           ·obtain⟨r,rfl⟩:∃ r',r=r'+1:=⟨r - 1,by omega⟩
            obtain⟨b,oo,ol,co,hol,hb1,hsl⟩:=HR.out.outd (by omega)
            have hbwr:base≤wr.heap.size:=HR.out.bw
            have hfew:=HR.out.few
            obtain⟨ix,hix⟩:∃ ix,ix=ol - d:=⟨_,rfl⟩
            have hcx:=hsl ix (by omega)
            have HU:=Lib.hid (show R=(pushR o' (o'.getD ix 0)).then_ fun o=>(copyR d r o).then_ (fun o=>bodyR (bitsL xs) lit far f p9 o) by
             rw[HU.out,hix,hol]
             show ((pushR o' (o'.getD (o'.length - d) 0)).then_ fun o=>copyR d r o).then_ _=_
             cases pushR o' (o'.getD (o'.length - d) 0) <;> rfl)
            have hwi:IntKind.i64.wrap ((ol:Int) - (d:Int))=(ix:Int):=by rw[show (ol:Int) - (d:Int)=(ix:Int) by omega];exact IntWalk.i64_in _ (by omega)
            have hki:IntKind.i64.wrap ((k:Int)+1)=((k+1:Nat):Int):=by rw[show (k:Int)+1=((k+1:Nat):Int) by omega];exact IntWalk.i64_in _ (by omega)
            have hix1:(ix:Int) < (ol:Int):=by omega
            have hix0:(0:Int)≤(ix:Int):=by omega
            have hlt':(k:Int) < (m:Int):=by omega
            generalize o'.getD ix 0=bx at *
            have HP:=Lib.hid (fun W (hr:RdAt W base g q A n c p9 o' ks)=>put_r base g q A n c p9 bx o' ks W hr)
            clear hix hol hsl
            go_wp2_with fail
            go_still_tail 14,(by kernel_rfl)
            obtain⟨w10,hw10⟩:∃ w10,w10=wr.drew:=⟨_,rfl⟩
            have hb10:Below wr.heap.size wr w10:=by rw[hw10];exact (Below.refl _ _).drew
            have H10:=Lib.hid (HR.out.below hb10)
            have HB10:=Lib.hid (HB.out.keeps (Keeps.of_below hb10 hbwr))
            change wpList _ _ _ _ _ wr.drew
            rw[←hw10]
            clear hw10 hb10 hb1 hcx
            go_wp2_with fail
            refine (HP.out w10 H10.out).mono ?_
            rintro e w11 ⟨hr11,hk11⟩
            have HB11:=Lib.hid (HB10.out.keeps hk11)
            cases hg11:pushR o' bx with
            | bad z=>
             have he:=rpost_bad hr11 hg11
             subst he
             have HU:=Lib.hid (show R=.bad z by rw[HU.out,hg11];rfl)
             clear hr11 hk11 hg11
             unfold stopE
             go_wp2_with fail
             exact⟨rfl,bad_rpost HU.out,HB11.out.keep⟩
            | ok o2=>
             obtain⟨he,hrd11⟩:=rpost_ok hr11 hg11
             subst he
             have ho2:=pushR_len hg11
             have HU:=Lib.hid (show R=(copyR d r o2).then_ (fun o=>bodyR (bitsL xs) lit far f p9 o) by rw[HU.out,hg11];rfl)
             have H11:=Lib.hid hrd11
             clear hr11 hk11 hg11 hrd11 HP
             go_wp2_with fail
             go_roundw
             case rel=>exact⟨k+1,r,o2,by omega,rfl,by omega,HU.out,H11.out,HB11.out⟩
             case measure=>
              show m - (k+1) < m - k
              omega
           ·have hlt':¬ (k:Int) < (m:Int):=by omega
            have HU:=Lib.hid (show R=bodyR (bitsL xs) lit far f p9 o' by rw[HU.out,show r=0 by omega];rfl)
            go_wp2_with fail
            go_roundw
            case rel=>exact⟨f,p9,o',by omega,HU.out,HR.out,HB.out.keep,HB.out.inp,HB.out.tbl,HB.out.tbf,HB.out.so,HB.out.fo⟩
            case measure=>
             rw[Hpos.out,posOf_src HR.out.src]
             omega
end Go.Proofs.YtabdianhoabhhaaGreatDoor.Inf
namespace Go.Proofs.YtabdianhoabhhaaGreatDoor.Inf
open Go Go.RowKit Go.Proofs.YtabdianhoabhhaaGreatDoor Go.Proofs.YtabdianhoabhhaaGreatDoor.Bits Go.Proofs.YtabdianhoabhhaaGreatDoor.Code
set_option linter.unusedVariables false
set_option linter.unusedSimpArgs false
theorem AgAt.keeps {w w':World} {B gl gn n:Nat} {l:List Nat} {base:Nat} (h:AgAt w B gl gn n l) (hk:Keeps base srcT w w'):AgAt w' B gl gn n l:=by
 obtain⟨hgl,⟨vl,hbl,hol,hne⟩,hbn,hfit,hfew⟩:=h
 exact⟨hgl,⟨vl,hk.blk hbl (by decide),hk.own hol (by decide),hne⟩,hk.blk hbn (by decide),hfit,hfew⟩
theorem AgAt.at_ {w:World} {B gl gn n:Nat} {l:List Nat} (h:AgAt w B gl gn n l):∃ Al cl,w.cell? ⟨gl,0,none⟩=some (.slice Al l.length cl)∧w.cell? ⟨gn,0,none⟩=some (.int .i64 (n:Int)):=by
 obtain⟨hgl,⟨vl,hbl,hol,hne⟩,hbn,hfit,hfew⟩:=h
 obtain⟨Al,cl,rfl,_⟩:=own_slat hol
 exact⟨Al,cl,by rw[hbl.cell];rfl,by rw[hbn.cell];rfl⟩
def lenAt (gl:Nat) (w:World):Nat:=match w.cell? ⟨gl,0,none⟩ with
 | some (.slice _ L _)=>L
 | _=>0
theorem lenAt_ag {w:World} {B gl gn n:Nat} {l:List Nat} (h:AgAt w B gl gn n l):lenAt gl w=l.length:=by
 obtain⟨Al,cl,h1,_⟩:=h.at_
 unfold lenAt
 rw[h1]
theorem AgAt.last {w:World} {B gl gn n:Nat} {l:List Nat} (h:AgAt w B gl gn n l) (h0:l≠[]):∃ b o cl,(∀ W T base,Keeps base T w W→89∉T→3∉T→W.cell? ⟨gl,0,none⟩=some (.slice (some ⟨b,o,none⟩) l.length cl)∧W.cell? ⟨b,o+(l.length - 1),none⟩=some (.int .i64 (l.getLastD 0:Int))):=by
 obtain⟨hgl,⟨vl,hbl,hol,hne⟩,hbn,hfit,hfew⟩:=h
 obtain⟨Al,cl,rfl,_,_,hsl,_⟩:=own_slat hol
 have hp:0 < l.length:=List.length_pos_iff.2 h0
 obtain⟨b,o,rfl,_⟩:=hsl (by rw[List.length_map];exact hp)
 refine⟨b,o,cl,fun W T base hk h1 h2=>⟨by rw[(hk.blk hbl h1).cell];rfl,?_⟩⟩
 obtain⟨A',c',e,_,_,hs',_⟩:=own_slat (hk.own hol h2)
 injection e with e1 e2 e3
 subst e1
 obtain⟨b',o',e,hc⟩:=hs' (by rw[List.length_map];exact hp)
 injection e with e
 injection e with e1 e2 e3
 subst e1 e2
 refine hc (l.length - 1) _ ?_
 rw[List.getElem?_map,List.getElem?_eq_getElem (by omega)]
 have e:l[l.length - 1]'(by omega)=l.getLastD 0:=by
  rw[List.getLastD_eq_getLast?,List.getLast?_eq_getElem?,List.getElem?_eq_getElem (by omega)];rfl
 rw[e]
 rfl
theorem againR_len {n:Nat} {l m:List Nat} {v k:Nat} (h:againR n l v k=.ok m):m.length=l.length+k∧m.length≤n:=by
 unfold againR at h
 split at h
 ·cases h
 ·injection h with h
  subst h
  simp
  omega
set_option maxRecDepth 100000 in
set_option maxHeartbeats 4000000 in
theorem lengths_r (base tb g q tp:Nat) (A:Option Addr) (n c pos N:Nat) (xs:List UInt8) (ls:List Nat) (vo vk:Value) (w:World) (hq:base≤q) (hbw:base≤w.heap.size)
  (hb:Blk w g 177 #[.pointer (some ⟨q,0,none⟩),vo,vk]) (hsrc:SrcAt w q A n c pos) (hp:pos≤8*n) (hi:InAt_ w base A n xs) (hT:TbAt w tb tp ls) (hN:N≤316) :
  Calls Tryz.prog 204 #[.pointer (some ⟨g,0,none⟩),.pointer (some ⟨tp,0,none⟩),.int .i64 (N:Int)] w fun e w'=>
   RPost (lenR (bitsL xs) ls N N pos []) (fun a e w'=>∃ A' c',e=.returned (.slice A' N c')∧a.2.length=N∧w'.ownsRow w.heap.size 3 1 (.slice A' N c') N (a.2.map natV)∧SrcAt w' q A n c a.1∧a.1≤8*n) e w'∧OldK base w.heap.size srcT w w':=by
 obtain⟨R,hR⟩:∃ R,R=lenR (bitsL xs) ls N N pos []:=⟨_,rfl⟩
 rw[←hR]
 have HU:=Lib.hid hR
 have HB:=Lib.hid hb
 have HS:=Lib.hid hsrc
 have HI:=Lib.hid hi
 have HT:=Lib.hid hT
 clear hb hsrc hi hT hR
 go_enter Tryz.func204,Tryz.ntmps204
 go_wp2_with fail
 generalize hg:w.heap.size=gn at *
 have Hgn:=Lib.hid hg
 have HOld:Hid (OldK base gn srcT w w):=Lib.hid (OldK.refl _ _ _ _)
 have hb2:Below gn w ((w.alloc (.cells #[.int .i64 (N:Int)] 3)).alloc (.cells #[.slice none 0 0] 89)):=by
  have h1:Below gn w (w.alloc (.cells #[.int .i64 (N:Int)] 3)):=(Below.refl _ _).alloc (by omega) _
  exact h1.alloc (by rw[←hg];simp) _
 have hqgn:q < gn:=by have:=Blk.lt HS.out;omega
 have HO2:=Lib.hid (HOld.out.below hb2 hbw)
 have HS2:=Lib.hid (Blk.below HS.out hb2 hqgn)
 have HG2:Hid (AgAt ((w.alloc (.cells #[.int .i64 (N:Int)] 3)).alloc (.cells #[.slice none 0 0] 89)) gn (gn+1) gn N []):=Lib.hid (by
  refine⟨by omega,⟨.slice none 0 0,?_,⟨rfl,.inl ⟨rfl,rfl⟩⟩,by simp[Value.ownBlock]⟩,?_,Nat.zero_le _,by omega⟩
  ·have:=Blk.new (w.alloc (.cells #[.int .i64 (N:Int)] 3)) 89 #[.slice none 0 0]
   simpa [hg] using this
  ·have:=(Blk.new w 3 #[.int .i64 (N:Int)]).alloc (.cells #[.slice none 0 0] 89)
   rw[hg]at this
   exact this)
 clear hg hb2 HOld
 generalize ((w.alloc (.cells #[.int .i64 (N:Int)] 3)).alloc (.cells #[.slice none 0 0] 89))=w2 at *
 go_loopw [] (fun wr=>∃ (f p:Nat) (l:List Nat),N≤l.length+f∧R=lenR (bitsL xs) ls N f p l∧AgAt wr gn (gn+1) gn N l∧SrcAt wr q A n c p∧p≤8*n∧OldK base gn srcT w wr) (fun wr=>N - lenAt (gn+1) wr)
 case atStart=>exact⟨N,pos,[],by simp,HU.out,HG2.out,HS2.out,hp,HO2.out⟩
 case round=>
  obtain⟨f,p,l,hf,hR,hag,hsrc,hple,hold⟩:=hrel
  have hla:Hid (lenAt (gn+1) wr=l.length):=Lib.hid (lenAt_ag hag)
  obtain⟨Al,cl,hcl,hcn⟩:=hag.at_
  have HA:=Lib.hid hag
  have HS:=Lib.hid hsrc
  have HO:=Lib.hid hold
  have HU:=Lib.hid hR
  clear hag hsrc hold hR HO2 HS2 HG2
  obtain⟨L,hL⟩:∃ L,L=l.length:=⟨_,rfl⟩
  rw[←hL]at hf hla hcl
  have HLl:=Lib.hid hL
  clear hL
  by_cases hlt:L < N
  ·have hlt':(L:Int) < (N:Int):=by omega
   obtain⟨f,rfl⟩:∃ f',f=f'+1:=⟨f - 1,by omega⟩
   have HU:=Lib.hid (show R=(lenStep (bitsL xs) ls N p l).then_ fun x=>lenR (bitsL xs) ls N f x.1 x.2 by
    rw[HU.out]
    show (if N≤l.length then _ else _)=_
    rw[if_neg (by rw[←HLl.out];omega)])
   have HIr:=Lib.hid (HI.out.old HO.out)
   have HBr:Hid (Blk wr g 177 #[.pointer (some ⟨q,0,none⟩),vo,vk]):=Lib.hid ((Hgn.out▸HO.out:OldK base w.heap.size srcT w wr).blk HB.out (by decide))
   have HTr:Hid (TabAt wr tb tp ls):=Lib.hid (by
    obtain⟨⟨t1,v,t2,t3⟩,_⟩:=HT.out
    have hk:=(Hgn.out▸HO.out:OldK base w.heap.size srcT w wr).toKeeps
    exact⟨t1,v,hk.blk t2 (by decide),hk.own t3 (by decide)⟩)
   have HY:=Lib.hid (sym_k base tb g q tp A n c p xs ls wr hq (by rw[HBr.out.cell];rfl) HS.out hple HIr.out HTr.out HT.out.le HT.out.room HT.out.len)
   have hls:=HT.out.len
   go_wp2_with fail
   refine (HY.out).mono ?_
   rintro e w4 ⟨hr4,hk4⟩
   have HK4:=Lib.hid hk4
   have HO4:=Lib.hid (HO.out.keeps (hk4.mono hq (fun _ h=>h)))
   have HA4:=Lib.hid (HA.out.keeps hk4)
   cases hg4:symR (bitsL xs) ls p with
   | bad z=>
    have he:=rpost_bad hr4 hg4
    subst he
    have HU:=Lib.hid (show R=.bad z by rw[HU.out];unfold lenStep;rw[hg4];rfl)
    clear hr4 hk4 hg4
    unfold stopE
    go_wp2_with fail
    exact⟨rfl,bad_rpost HU.out,Hgn.out.symm▸HO4.out⟩
   | ok a=>
    obtain⟨he,hs4,hp4⟩:=rpost_ok hr4 hg4
    subst he
    have hpl:=symR_place hg4
    have Hst:=Lib.hid (show lenStep (bitsL xs) ls N p l=_ by unfold lenStep;rw[hg4,then_ok])
    have HS4:=Lib.hid hs4
    obtain⟨k,p4⟩:=a
    dsimp only at hp4 hpl Hst HS4⊢
    clear hr4 hk4 hg4 hs4 HY
    have HB4:Hid (Blk w4 g 177 #[.pointer (some ⟨q,0,none⟩),vo,vk]):=Lib.hid (HK4.out.blk HBr.out (by decide))
    have HI4:=Lib.hid (HI.out.old HO4.out)
    have hB4:gn≤w4.heap.size:=by have:=HO4.out.size;have:=Hgn.out;omega
    by_cases h16:k=16
    ·subst h16
     replace Hst:=Lib.hid (Hst.out.trans (if_pos rfl))
     by_cases hl0:l=[]
     ·have hL0:L=0:=by rw[HLl.out,hl0];rfl
      have HU:=Lib.hid (show R=.bad 8 by rw[HU.out,Hst.out,if_pos hl0];rfl)
      subst hL0
      obtain⟨Al4,cl4,hcl4,_⟩:=HA4.out.at_
      rw[←HLl.out]at hcl4
      go_wp2_with fail
      refine (fail_any 8 _).mono ?_
      rintro e w5 ⟨rfl,rfl⟩
      unfold stopE
      go_wp2_with fail
      exact⟨rfl,bad_rpost HU.out,Hgn.out.symm▸HO4.out⟩
     ·replace Hst:=Lib.hid (Hst.out.trans (if_neg hl0))
      have hL1:1≤L:=by
       rw[HLl.out]
       exact List.length_pos_iff.2 hl0
      obtain⟨bl,ol,cl4,hSS⟩:=HA4.out.last hl0
      rw[←HLl.out]at hSS
      obtain⟨ix,hix⟩:∃ ix,ix=L - 1:=⟨_,rfl⟩
      rw[←hix]at hSS
      have HSS:=Lib.hid hSS
      have hwi:IntKind.i64.wrap ((L:Int) - 1)=(ix:Int):=by rw[show (L:Int) - 1=(ix:Int) by omega];exact IntWalk.i64_in _ (by omega)
      have hix0:(0:Int)≤(ix:Int):=by omega
      have hix1:(ix:Int) < (L:Int):=by omega
      clear hix
      have hLb:((L:Int) == 0)=false:=by rw[beq_eq_false_iff_ne];omega
      have hcl4:=(hSS w4 [] 0 (Keeps.refl _ _ _) (by simp) (by simp)).1
      generalize l.getLastD 0=la at Hst HSS hcl4
      have HG:=Lib.hid (get_k base g q A n c p4 2 xs w4.drew hq (by show w4.cell? _=_;rw[HB4.out.cell];rfl) HS4.out hp4 (HI4.out.keeps ((Keeps.refl base [] w4).drew)) (by omega))
      clear hSS
      go_wp2_with fail
      refine wp_region_S (fun W=>W.cell? ⟨gn+1,0,none⟩=some (.slice (some ⟨bl,ol,none⟩) L cl4)∧W.cell? ⟨bl,ol+ix,none⟩=some (.int .i64 (la:Int))) 10 (by kernel_rfl) ?_
      have hHeld:=HSS.out w4.drew [] 0 ((Keeps.refl _ _ _).drew) (by simp) (by simp)
      have HA4:=Lib.hid (HA4.out.keeps (base:=0) ((Keeps.refl _ _ _).drew))
      have HO4:Hid (OldK base gn srcT w w4.drew):=Lib.hid (HO4.out.keeps ((Keeps.refl _ _ _).drew))
      have HSS:Hid (∀ W base,Keeps base srcT w4.drew W→W.cell? ⟨gn+1,0,none⟩=some (.slice (some ⟨bl,ol,none⟩) L cl4)∧W.cell? ⟨bl,ol+ix,none⟩=some (.int .i64 (la:Int))):=Lib.hid (fun W B' hk=>HSS.out W srcT 0 (((Keeps.refl 0 srcT w4).drew).trans (hk.mono (Nat.zero_le _) (fun _ h=>h))) (by decide) (by decide))
      have hB4:gn≤w4.drew.heap.size:=hB4
      clear hcl4 HK4 HS4 HB4 HI4
      generalize w4.drew=w4 at *
      refine wpAnyS_takeT (i:=0) (v:=?va0) (by kernel_rfl) (by kernel_rfl) rfl (by kernel_rfl) (by kernel_rfl) (by kernel_rfl) (fun _ _ _ h=>h) (by rfl) (by assumption) ?hya0 ?resta0
      case hya0=>(intro W hSW;(try dsimp only at hSW);go_simp;try with_reducible rfl)
      (try simp only[Act.put,List.getElem_toArray,List.getElem_cons_zero,List.getElem_cons_succ,List.setIfInBounds_toArray,List.set_cons_zero,List.set_cons_succ])
      refine wpAnyS_takeT (i:=1) (v:=?va1) (by kernel_rfl) (by kernel_rfl) rfl (by kernel_rfl) (by kernel_rfl) (by kernel_rfl) (fun _ _ _ h=>h) (by rfl) (by assumption) ?hya1 ?resta1
      case hya1=>(intro W hSW;(try dsimp only at hSW);go_simp;try with_reducible rfl)
      (try simp only[Act.put,List.getElem_toArray,List.getElem_cons_zero,List.getElem_cons_succ,List.setIfInBounds_toArray,List.set_cons_zero,List.set_cons_succ])
      refine wpAnyS_takeT (i:=2) (v:=?va2) (by kernel_rfl) (by kernel_rfl) rfl (by kernel_rfl) (by kernel_rfl) (by kernel_rfl) (fun _ _ _ h=>h) (by rfl) (by assumption) ?hya2 ?resta2
      case hya2=>(intro W hSW;(try dsimp only at hSW);go_simp;try with_reducible rfl)
      (try simp only[Act.put,List.getElem_toArray,List.getElem_cons_zero,List.getElem_cons_succ,List.setIfInBounds_toArray,List.set_cons_zero,List.set_cons_succ])
      refine wpAnyS_takeT (i:=3) (v:=?va3) (by kernel_rfl) (by kernel_rfl) rfl (by kernel_rfl) (by kernel_rfl) (by kernel_rfl) (fun _ _ _ h=>h) (by rfl) (by assumption) ?hya3 ?resta3
      case hya3=>(intro W hSW;(try dsimp only at hSW);go_simp;try with_reducible rfl)
      (try simp only[Act.put,List.getElem_toArray,List.getElem_cons_zero,List.getElem_cons_succ,List.setIfInBounds_toArray,List.set_cons_zero,List.set_cons_succ])
      refine wpAnyS_takeT (i:=4) (v:=?va4) (by kernel_rfl) (by kernel_rfl) rfl (by kernel_rfl) (by kernel_rfl) (by kernel_rfl) (fun _ _ _ h=>h) (by rfl) (by assumption) ?hya4 ?resta4
      case hya4=>(intro W hSW;(try dsimp only at hSW);go_simp;try with_reducible rfl)
      (try simp only[Act.put,List.getElem_toArray,List.getElem_cons_zero,List.getElem_cons_succ,List.setIfInBounds_toArray,List.set_cons_zero,List.set_cons_succ])
      refine wpAnyS_takeT (i:=5) (v:=?va5) (by kernel_rfl) (by kernel_rfl) rfl (by kernel_rfl) (by kernel_rfl) (by kernel_rfl) (fun _ _ _ h=>h) (by rfl) (by assumption) ?hya5 ?resta5
      case hya5=>(intro W hSW;(try dsimp only at hSW);go_simp;try with_reducible rfl)
      (try simp only[Act.put,List.getElem_toArray,List.getElem_cons_zero,List.getElem_cons_succ,List.setIfInBounds_toArray,List.set_cons_zero,List.set_cons_succ])
      refine wpAnyS_takeT (i:=6) (v:=?va6) (by kernel_rfl) (by kernel_rfl) rfl (by kernel_rfl) (by kernel_rfl) (by kernel_rfl) (fun _ _ _ h=>h) (by rfl) (by assumption) ?hya6 ?resta6
      case hya6=>(intro W hSW;(try dsimp only at hSW);go_simp;try with_reducible rfl)
      (try simp only[Act.put,List.getElem_toArray,List.getElem_cons_zero,List.getElem_cons_succ,List.setIfInBounds_toArray,List.set_cons_zero,List.set_cons_succ])
      refine wpAnyS_takeT (i:=7) (v:=?va7) (by kernel_rfl) (by kernel_rfl) rfl (by kernel_rfl) (by kernel_rfl) (by kernel_rfl) (fun _ _ _ h=>h) (by rfl) (by assumption) ?hya7 ?resta7
      case hya7=>(intro W hSW;(try dsimp only at hSW);go_simp;try with_reducible rfl)
      (try simp only[Act.put,List.getElem_toArray,List.getElem_cons_zero,List.getElem_cons_succ,List.setIfInBounds_toArray,List.set_cons_zero,List.set_cons_succ])
      refine wpAnyS_only (i:=8) rfl (by kernel_rfl) (fun K hK=>?_)
      go_simp
      clear hHeld
      go_at_call 160
      refine (HG.out).mono ?_
      rintro e w6 ⟨hr6,hk6⟩
      have HO6:=Lib.hid (HO4.out.keeps (hk6.mono hq (fun _ h=>h)))
      have HA6:=Lib.hid (HA4.out.keeps hk6)
      have HK6:=Lib.hid hk6
      have hB6:gn≤w6.heap.size:=Nat.le_trans hB4 hk6.size
      cases hg6:getR (bitsL xs) p4 2 with
      | bad z=>
       have he:=rpost_bad hr6 hg6
       subst he
       have HU:=Lib.hid (show R=.bad z by rw[HU.out,Hst.out,hg6];rfl)
       clear hr6 hk6 hg6
       unfold stopE
       go_wp2_with fail
       exact⟨rfl,bad_rpost HU.out,Hgn.out.symm▸HO6.out⟩
      | ok a=>
       obtain⟨he,hs6,hp6⟩:=rpost_ok hr6 hg6
       subst he
       have hx:=getR_lt hg6
       replace Hst:=Lib.hid (Hst.out.trans (by rw[hg6,then_ok]))
       have HS6:=Lib.hid hs6
       obtain⟨x,p6⟩:=a
       dsimp only at hp6 hx Hst HS6⊢
       have hx':x < 4:=hx
       obtain⟨y,hy⟩:∃ y,y=3+x:=⟨_,rfl⟩
       rw[←hy]at Hst
       have hwx:IntKind.i64.wrap ((3:Int)+(x:Int))=(y:Int):=by rw[show (3:Int)+(x:Int)=(y:Int) by omega];exact IntWalk.i64_in _ (by omega)
       have hy1:1≤y:=by omega
       have hy2:y≤1000:=by omega
       clear hr6 hk6 hg6 hs6 HG hy hx hx'
       refine hK.out _ _ (HSS.out w6 q HK6.out) (fun hHeld=>?_)
       clear hK K
       (try simp only[Act.put,List.getElem_toArray,List.getElem_cons_zero,List.getElem_cons_succ,List.setIfInBounds_toArray,List.set_cons_zero,List.set_cons_succ])
       refine wpAnyS_only (i:=9) rfl (by kernel_rfl) (fun K hK=>?_)
       go_simp
       refine hK.out _ _ (HSS.out w6 q HK6.out) (fun hHeld=>?_)
       clear hK K hHeld
       (try simp only[Act.put,List.getElem_toArray,List.getElem_cons_zero,List.getElem_cons_succ,List.setIfInBounds_toArray,List.set_cons_zero,List.set_cons_succ])
       refine wpAnyS_last rfl (by kernel_rfl) (by kernel_rfl) (fun K hK=>?_)
       go_simp
       go_at_call 234
       refine (again_any gn (gn+1) gn N la y l w6 HA6.out (by omega) (by omega) hB6).mono ?_
       rintro e w7 ⟨hr7,hb7⟩
       have HO7:=Lib.hid (HO6.out.below hb7 hbw)
       have HS7:=Lib.hid (Blk.below HS6.out hb7 hqgn)
       cases hg7:againR N l la y with
       | bad z=>
        have he:=rpost_bad hr7 hg7
        subst he
        have HU:=Lib.hid (show R=.bad z by rw[HU.out,Hst.out,hg7];rfl)
        clear hr7 hb7 hg7
        unfold stopE
        go_wp2_with fail
        exact⟨rfl,bad_rpost HU.out,Hgn.out.symm▸HO7.out⟩
       | ok m=>
        obtain⟨he,ha7⟩:=rpost_ok hr7 hg7
        subst he
        have hm7:=againR_len hg7
        have Hl7:Hid (lenAt (gn+1) w7=m.length):=Lib.hid (lenAt_ag ha7)
        have HU:=Lib.hid (show R=lenR (bitsL xs) ls N f p6 m by rw[HU.out,Hst.out,hg7];rfl)
        have HA7:=Lib.hid ha7
        clear hr7 hb7 hg7 ha7
        refine hK.out _ _ ?_
        clear hK K
        go_wp2_with fail
        go_roundw
        case rel=>exact⟨f,p6,m,by have:=HLl.out;omega,HU.out,HA7.out,HS7.out,hp6,HO7.out⟩
        case measure=>rw[hla.out,Hl7.out];have:=HLl.out;omega
    ·replace Hst:=Lib.hid (Hst.out.trans (if_neg h16))
     have hb16:((k:Int) == 16)=false:=by rw[beq_eq_false_iff_ne];omega
     by_cases h17:k=17
     ·subst h17
      replace Hst:=Lib.hid (Hst.out.trans (if_pos rfl))
      have HG:=Lib.hid (get_k base g q A n c p4 3 xs w4 hq (by rw[HB4.out.cell];rfl) HS4.out hp4 HI4.out (by omega))
      go_wp2_with fail
      refine (HG.out).mono ?_
      rintro e w6 ⟨hr6,hk6⟩
      have HO6:=Lib.hid (HO4.out.keeps (hk6.mono hq (fun _ h=>h)))
      have HA6:=Lib.hid (HA4.out.keeps hk6)
      have HK6:=Lib.hid hk6
      have hB6:gn≤w6.heap.size:=Nat.le_trans hB4 hk6.size
      cases hg6:getR (bitsL xs) p4 3 with
      | bad z=>
       have he:=rpost_bad hr6 hg6
       subst he
       have HU:=Lib.hid (show R=.bad z by rw[HU.out,Hst.out,hg6];rfl)
       clear hr6 hk6 hg6
       unfold stopE
       go_wp2_with fail
       exact⟨rfl,bad_rpost HU.out,Hgn.out.symm▸HO6.out⟩
      | ok a=>
       obtain⟨he,hs6,hp6⟩:=rpost_ok hr6 hg6
       subst he
       have hx:=getR_lt hg6
       replace Hst:=Lib.hid (Hst.out.trans (by rw[hg6,then_ok]))
       have HS6:=Lib.hid hs6
       obtain⟨x,p6⟩:=a
       dsimp only at hp6 hx Hst HS6⊢
       have hx':x < 8:=hx
       obtain⟨y,hy⟩:∃ y,y=3+x:=⟨_,rfl⟩
       rw[←hy]at Hst
       have hwx:IntKind.i64.wrap ((3:Int)+(x:Int))=(y:Int):=by rw[show (3:Int)+(x:Int)=(y:Int) by omega];exact IntWalk.i64_in _ (by omega)
       have hy1:1≤y:=by omega
       have hy2:y≤1000:=by omega
       clear hr6 hk6 hg6 hs6 HG hy hx hx'
       go_wp2_with fail
       refine (again_any gn (gn+1) gn N 0 y l w6 HA6.out (by omega) (by omega) hB6).mono ?_
       rintro e w7 ⟨hr7,hb7⟩
       have HO7:=Lib.hid (HO6.out.below hb7 hbw)
       have HS7:=Lib.hid (Blk.below HS6.out hb7 hqgn)
       cases hg7:againR N l 0 y with
       | bad z=>
        have he:=rpost_bad hr7 hg7
        subst he
        have HU:=Lib.hid (show R=.bad z by rw[HU.out,Hst.out,hg7];rfl)
        clear hr7 hb7 hg7
        unfold stopE
        go_wp2_with fail
        exact⟨rfl,bad_rpost HU.out,Hgn.out.symm▸HO7.out⟩
       | ok m=>
        obtain⟨he,ha7⟩:=rpost_ok hr7 hg7
        subst he
        have hm7:=againR_len hg7
        have Hl7:Hid (lenAt (gn+1) w7=m.length):=Lib.hid (lenAt_ag ha7)
        have HU:=Lib.hid (show R=lenR (bitsL xs) ls N f p6 m by rw[HU.out,Hst.out,hg7];rfl)
        have HA7:=Lib.hid ha7
        clear hr7 hb7 hg7 ha7
        go_wp2_with fail
        go_roundw
        case rel=>exact⟨f,p6,m,by have:=HLl.out;omega,HU.out,HA7.out,HS7.out,hp6,HO7.out⟩
        case measure=>rw[hla.out,Hl7.out];have:=HLl.out;omega
     ·replace Hst:=Lib.hid (Hst.out.trans (if_neg h17))
      have hb17:((k:Int) == 17)=false:=by rw[beq_eq_false_iff_ne];omega
      by_cases h18:k=18
      ·subst h18
       replace Hst:=Lib.hid (Hst.out.trans (if_pos rfl))
       have HG:=Lib.hid (get_k base g q A n c p4 7 xs w4 hq (by rw[HB4.out.cell];rfl) HS4.out hp4 HI4.out (by omega))
       go_wp2_with fail
       refine (HG.out).mono ?_
       rintro e w6 ⟨hr6,hk6⟩
       have HO6:=Lib.hid (HO4.out.keeps (hk6.mono hq (fun _ h=>h)))
       have HA6:=Lib.hid (HA4.out.keeps hk6)
       have HK6:=Lib.hid hk6
       have hB6:gn≤w6.heap.size:=Nat.le_trans hB4 hk6.size
       cases hg6:getR (bitsL xs) p4 7 with
       | bad z=>
        have he:=rpost_bad hr6 hg6
        subst he
        have HU:=Lib.hid (show R=.bad z by rw[HU.out,Hst.out,hg6];rfl)
        clear hr6 hk6 hg6
        unfold stopE
        go_wp2_with fail
        exact⟨rfl,bad_rpost HU.out,Hgn.out.symm▸HO6.out⟩
       | ok a=>
        obtain⟨he,hs6,hp6⟩:=rpost_ok hr6 hg6
        subst he
        have hx:=getR_lt hg6
        replace Hst:=Lib.hid (Hst.out.trans (by rw[hg6,then_ok]))
        have HS6:=Lib.hid hs6
        obtain⟨x,p6⟩:=a
        dsimp only at hp6 hx Hst HS6⊢
        have hx':x < 128:=hx
        obtain⟨y,hy⟩:∃ y,y=11+x:=⟨_,rfl⟩
        rw[←hy]at Hst
        have hwx:IntKind.i64.wrap ((11:Int)+(x:Int))=(y:Int):=by rw[show (11:Int)+(x:Int)=(y:Int) by omega];exact IntWalk.i64_in _ (by omega)
        have hy1:1≤y:=by omega
        have hy2:y≤1000:=by omega
        clear hr6 hk6 hg6 hs6 HG hy hx hx'
        go_wp2_with fail
        refine (again_any gn (gn+1) gn N 0 y l w6 HA6.out (by omega) (by omega) hB6).mono ?_
        rintro e w7 ⟨hr7,hb7⟩
        have HO7:=Lib.hid (HO6.out.below hb7 hbw)
        have HS7:=Lib.hid (Blk.below HS6.out hb7 hqgn)
        cases hg7:againR N l 0 y with
        | bad z=>
         have he:=rpost_bad hr7 hg7
         subst he
         have HU:=Lib.hid (show R=.bad z by rw[HU.out,Hst.out,hg7];rfl)
         clear hr7 hb7 hg7
         unfold stopE
         go_wp2_with fail
         exact⟨rfl,bad_rpost HU.out,Hgn.out.symm▸HO7.out⟩
        | ok m=>
         obtain⟨he,ha7⟩:=rpost_ok hr7 hg7
         subst he
         have hm7:=againR_len hg7
         have Hl7:Hid (lenAt (gn+1) w7=m.length):=Lib.hid (lenAt_ag ha7)
         have HU:=Lib.hid (show R=lenR (bitsL xs) ls N f p6 m by rw[HU.out,Hst.out,hg7];rfl)
         have HA7:=Lib.hid ha7
         clear hr7 hb7 hg7 ha7
         go_wp2_with fail
         go_roundw
         case rel=>exact⟨f,p6,m,by have:=HLl.out;omega,HU.out,HA7.out,HS7.out,hp6,HO7.out⟩
         case measure=>rw[hla.out,Hl7.out];have:=HLl.out;omega
      ·replace Hst:=Lib.hid (Hst.out.trans (if_neg h18))
       have hb18:((k:Int) == 18)=false:=by rw[beq_eq_false_iff_ne];omega
       go_wp2_with fail
       refine (again_any gn (gn+1) gn N k 1 l w4 HA4.out (by omega) (by omega) hB4).mono ?_
       rintro e w7 ⟨hr7,hb7⟩
       have HO7:=Lib.hid (HO4.out.below hb7 hbw)
       have HS7:=Lib.hid (Blk.below HS4.out hb7 hqgn)
       cases hg7:againR N l k 1 with
       | bad z=>
        have he:=rpost_bad hr7 hg7
        subst he
        have HU:=Lib.hid (show R=.bad z by rw[HU.out,Hst.out,hg7];rfl)
        clear hr7 hb7 hg7
        unfold stopE
        go_wp2_with fail
        exact⟨rfl,bad_rpost HU.out,Hgn.out.symm▸HO7.out⟩
       | ok m=>
        obtain⟨he,ha7⟩:=rpost_ok hr7 hg7
        subst he
        have hm7:=againR_len hg7
        have Hl7:Hid (lenAt (gn+1) w7=m.length):=Lib.hid (lenAt_ag ha7)
        have HU:=Lib.hid (show R=lenR (bitsL xs) ls N f p4 m by rw[HU.out,Hst.out,hg7];rfl)
        have HA7:=Lib.hid ha7
        clear hr7 hb7 hg7 ha7
        go_wp2_with fail
        go_roundw
        case rel=>exact⟨f,p4,m,by have:=HLl.out;omega,HU.out,HA7.out,HS7.out,hp4,HO7.out⟩
        case measure=>rw[hla.out,Hl7.out];have:=HLl.out;omega
  ·have hlt':¬ (L:Int) < (N:Int):=by omega
   have hfit:=HA.out.fit
   rw[←HLl.out]at hfit
   obtain rfl:L=N:=by omega
   go_wp2_with fail
   go_ret
   refine⟨ok_rpost (a:=(p,l)) ?_ ⟨Al,cl,rfl,HLl.out.symm,?_,HS.out,hple⟩,Hgn.out.symm▸HO.out⟩
   ·rw[HU.out]
    cases f with
    | zero=>rfl
    | succ f=>
     show (if L≤l.length then _ else _)=_
     rw[if_pos (by rw[←HLl.out];exact Nat.le_refl _)]
   ·obtain⟨vl,hbl,hol,_⟩:=HA.out.row
    rw[hbl.cell]at hcl
    have e:vl=.slice Al L cl:=by simpa using hcl
    rw[e,←HLl.out]at hol
    rw[Hgn.out]
    exact hol
end Go.Proofs.YtabdianhoabhhaaGreatDoor.Inf
namespace Go.Proofs.YtabdianhoabhhaaGreatDoor.Inf
open Go Go.RowKit Go.Proofs.YtabdianhoabhhaaGreatDoor Go.Proofs.YtabdianhoabhhaaGreatDoor.Bits Go.Proofs.YtabdianhoabhhaaGreatDoor.Code
set_option linter.unusedVariables false
set_option linter.unusedSimpArgs false
theorem wpList_build' {P:Program} {ops:Array Oper} {rest:List Oper} {o:Oper} {a:Act} {w:World} {Q:Exit→Act→World→Prop} (hg:o.guard=none) (t:TypeId) (parts:Array (Nat×Operand)) (ho:o.op=.build t parts) (cells:Array Value)
  (hf:P.built t (parts.map fun (i,x)=>(i,a.eval x)).toList=some cells) (h:wpList P ops Q rest (a.put o.dst (.agg cells)) w):wpList P ops Q (o :: rest) a w:=
 wpList_build hg t parts ho (by rw[hf];rfl) (by rw[hf];exact h)
theorem OldK.setRow {base B0:Nat} {T:List TypeId} {w w':World} (h:OldK base B0 T w w') {g:Nat} (hb:base≤g) (hB:B0≤g) (cs:Array Value):OldK base B0 T w (w'.setRow g cs):=
 ⟨h.os,h.tape,h.output,by rw[setRow_size];exact h.size,fun k hk=>(setRow_other w' g k cs (by omega)).trans (h.block k hk),fun k o hk ho ht=>(setRow_other w' g k cs (by omega)).trans (h.other k o hk ho ht)⟩
theorem below_setRow {B:Nat} {w w':World} (h:Below B w w') {g:Nat} (hB:B≤g) (cs:Array Value):Below B w (w'.setRow g cs):=
 ⟨h.os,h.tape,h.output,by rw[setRow_size];exact h.size,fun k hk=>(setRow_other w' g k cs (by omega)).trans (h.block k hk)⟩
theorem OldK.mono {base B0 B1:Nat} {T:List TypeId} {w w':World} (h:OldK base B0 T w w') (hB:B1≤B0):OldK base B1 T w w':=⟨h.os,h.tape,h.output,h.size,h.block,fun k o hk ho ht=>h.other k o (by omega) ho ht⟩
def ordA:Array Value:=#[.int .i64 16,.int .i64 17,.int .i64 18,.int .i64 0,.int .i64 8,.int .i64 7,.int .i64 9,.int .i64 6,.int .i64 10,.int .i64 5,.int .i64 11,.int .i64 4,.int .i64 12,.int .i64 3,.int .i64 13,.int .i64 2,.int .i64 14,.int .i64 1,.int .i64 15]
theorem ordA_eq:ordA=(orderL.map natV).toArray:=rfl
theorem store_ord (W:World) (old:Array Value) (h:old.size=19):(storeCells ⟨W.heap.size,0,none⟩ ordA.toList).run Tryz.prog (W.alloc (.cells old 251))=.ok () ((W.alloc (.cells old 251)).setRow W.heap.size ordA):=by
 have:=run_storeCells_from (P:=Tryz.prog) W.heap.size 251 ordA.toList 0 old (W.alloc (.cells old 251)) (heap_alloc_new _ _) (by rw[h];rfl) (by decide)
 rw[this]
 congr 2
set_option maxRecDepth 100000 in
set_option maxHeartbeats 1600000 in
theorem order_any (w:World):Calls Tryz.prog 193 #[] w fun e w'=>e=.returned (.agg ordA)∧Below w.heap.size w w':=by
 go_enter Tryz.func193,Tryz.ntmps193
 have hst:=store_ord w
 go_wp2_with (refine wpList_build' rfl _ _ rfl ordA (by kernel_rfl) ?_)
 refine bodyPost_ret (results_cell_row rfl _ _ w.heap.size 251 ordA (0,0) _ rfl (setRow_heap _ _ _ _ _ _ (heap_alloc_new _ _)) Tryz.underlying251 rfl (by kernel_rfl)) rfl ?_
 exact⟨rfl,below_setRow ((Below.refl _ _).alloc (Nat.le_refl _) _) (Nat.le_refl _) _⟩
end Go.Proofs.YtabdianhoabhhaaGreatDoor.Inf
