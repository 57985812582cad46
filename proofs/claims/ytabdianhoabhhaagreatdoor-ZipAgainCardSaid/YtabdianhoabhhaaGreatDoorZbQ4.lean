/- texts joined: SortSym2 SortSym3 SortStab CloneI WeighBoth CloneP ConcatP WeighRow ZipArch MatchPure BlkPure BlkSym BlkSum Kat. -/
import Derived.Test.YtabdianhoabhhaaGreatDoorZbQ3
import Derived.Deep.CutRange
import Derived.Test.YtabdianhoabhhaaGreatDoorZbQ1
import Derived.Test.YtabdianhoabhhaaGreatDoorProg
import Derived.WalkSpells
import Derived.Lib.SliceRun
import Derived.Lib.AppendZeros
import Derived.Test.YtabdianhoabhhaaGreatDoorWords
import Derived.Test.YtabdianhoabhhaaGreatDoorWeighPure
import Derived.Test.YtabdianhoabhhaaGreatDoorZbQ2
import Derived.BigQuiet
namespace Go.Proofs.YtabdianhoabhhaaGreatDoor.Weigh
open Go Go.RowKit Go.Proofs.YtabdianhoabhhaaGreatDoor Go.Proofs.YtabdianhoabhhaaGreatDoor.SP
set_option linter.unusedVariables false
theorem dn_at (P L Q:List TE) (x:TE) (k:Nat) (h:k < L.length):P++L++([x]++Q)=(P++L.take k)++L[k] :: (L.drop (k+1)++x :: Q):=by
 have:L=L.take k++L[k] :: L.drop (k+1):=by rw[←List.drop_eq_getElem_cons h,List.take_append_drop]
 conv=>lhs;rw[this]
 simp only[List.append_assoc,List.cons_append,List.nil_append]
set_option maxRecDepth 100000 in
set_option maxHeartbeats 8000000 in
theorem sym_dn (g N cap a m b:Nat) (rest:List Value) (P L Q:List TE) (x:TE) (w:World) (h:PkAt w g rest (P++L++([x]++Q))) (ha:P.length=a) (hm:a+L.length=m) (hb:m+1=b) (hR:2≤L.length)
  (hs:L.Pairwise (lexP ekey)) (htag:∀ y∈L,y.2 < x.2) (hkx:x.1.1≤1152921504606846976) (hk:Kb L) (hN:(P++L++([x]++Q)).length=N) (hN2:N≤1000000) :
  Calls Tryz.prog 255 #[.slice (some ⟨g,0,none⟩) N cap,.int .i64 (a:Int),.int .i64 (m:Int),.int .i64 (b:Int),cmpV] w fun e w'=>e=.returned (.tuple #[])∧(∃ S',PkAt w' g rest (P++S'++Q)∧S'.Perm (L++[x])∧S'.Pairwise (lexP ekey))∧w.grownBy w' (some g):=by
 have hN3:P.length+L.length+1+Q.length=N:=by rw[←hN];simp;omega
 have H:=Lib.hid h
 have HP:=Lib.hid ha
 have Hs:=Lib.hid hs
 have Htag:=Lib.hid htag
 have Hkx:=Lib.hid hkx
 have HK:=Lib.hid hk
 have hbN:b≤N:=by omega
 have hmb:m < b:=by omega
 have ham:a < m:=by omega
 have e1:(m:Int) - (a:Int)=((L.length:Nat):Int):=by omega
 have e0:(((L.length:Nat):Int) == 1)=false:=by simp;omega
 have e2:(b:Int) - (m:Int)=1:=by omega
 have Hm:=Lib.hid hm
 clear h hN hN3 ha hs htag hkx hk hb hm hR
 generalize hll:L.length=ll at *
 have Hll:=Lib.hid hll
 clear hll
 obtain⟨⟨xk,⟨xa,xb,xc⟩,xm⟩,xt⟩:=x
 unfold cmpV
 go_enter Tryz.func255,Tryz.ntmps255
 go_wp2_with fail
 clear e1 e0 e2
 go_loopw [14,15] (fun iv jv wr=>∃ i j:Nat,iv=.int .i64 (i:Int)∧jv=.int .i64 (j:Int)∧a≤i∧i≤j∧j≤m∧(i=a∨∃ h:i - a - 1 < L.length,L[i - a - 1].1.1≤xk)∧(j=m∨∃ h:j - a < L.length,xk < L[j - a].1.1)∧
  PkAt wr g rest (P++L++([((xk,(xa,xb,xc),xm),xt)]++Q))∧w.grownBy wr (some g)) (fun iv jv _=>(intOf jv - intOf iv).toNat)
 case atStart=>exact⟨a,m,rfl,rfl,Nat.le_refl _,by omega,Nat.le_refl _,.inl rfl,.inl rfl,H.out,World.grownBy.refl _ _⟩
 case round=>
  obtain⟨i,j,rfl,rfl,hmi,hij,hjb,hI,hJ,hpk,hgr⟩:=hrel
  have HI:=Lib.hid hI
  have HJ:=Lib.hid hJ
  have Hgr:=Lib.hid hgr
  clear hI hJ hgr
  by_cases hlt:i < j
  ·obtain⟨q,hq⟩:∃ q,q=(i+j) / 2:=⟨_,rfl⟩
   have hqi:i≤q:=by omega
   have hqj:q < j:=by omega
   have hql:q - a < L.length:=by have:=Hm.out;have:=Hll.out;omega
   have Hat:=Lib.hid (dn_at P L Q ((xk,(xa,xb,xc),xm),xt) (q - a) hql)
   have Hpk:=Lib.hid hpk
   rw[Hat.out]at hpk
   have HX:Hid (q=(P++L.take (q - a)).length):=Lib.hid (by rw[List.length_append,List.length_take,HP.out];omega)
   have HY:Hid (m=(P++L.take (q - a)).length+1+(L.drop (q - a+1)).length):=Lib.hid (by rw[←HX.out,List.length_drop];have:=Hm.out;have:=Hll.out;omega)
   have hky:=HK.out _ (List.getElem_mem hql)
   obtain⟨y,hy⟩:∃ y,L[q - a]=y:=⟨_,rfl⟩
   have Hy:Hid (∀ h:q - a < L.length,L[q - a]=y):=Lib.hid (fun _=>hy)
   rw[hy]at hpk hky
   obtain⟨⟨yk,⟨ya,yb,yc⟩,ym⟩,yt⟩:=y
   obtain⟨c0,c1,c2,c3,f0,f1,f2,f3⟩:=hpk.pair HX.out HY.out
   have hkx:=Hkx.out
   simp only at hky hkx
   have e2:((i:Int)+(j:Int)) / 2=(q:Int):=by omega
   have hqN:q < N:=by omega
   have hmN:m < N:=by omega
   clear hpk hy hq
   have Hgd:=Lib.hid (grown_drew Hgr.out)
   by_cases hc:xk < yk
   ·have d1:(xk:Int) - (yk:Int) < 0:=by omega
    go_wp2_with fail
    go_still_tail 9,(by kernel_rfl)
    change wpList _ _ _ _ _ wr.drew
    have Hpkd:Hid (PkAt wr.drew g rest _):=Hpk
    generalize wr.drew=wd at *
    clear c0 c1 c2 c3 f0 f1 f2 f3
    go_wp2_with fail
    refine (cmp_any xk yk (xa,xb,xc) (ya,yb,yc) wd hkx hky).mono ?_
    rintro e w3 ⟨rfl,hb3⟩
    have Hpk4:=Lib.hid (Hpkd.out.below hb3)
    have Hg4:=Lib.hid (grown_below Hgd.out hb3)
    clear hb3 Hpkd Hgd
    go_wp2_with fail
    go_roundw
    case rel=>exact⟨i,q,rfl,rfl,hmi,hqi,by omega,HI.out,.inr ⟨hql,by rw[Hy.out hql];exact hc⟩,Hpk4.out,Hg4.out⟩
    case measure=>simp[intOf];omega
   ·have d1:decide ((xk:Int) - (yk:Int) < 0)=false:=by simp;omega
    have d2:¬ ((xk:Int) - (yk:Int) < 0):=by omega
    go_wp2_with fail
    go_still_tail 9,(by kernel_rfl)
    change wpList _ _ _ _ _ wr.drew
    have Hpkd:Hid (PkAt wr.drew g rest _):=Hpk
    generalize wr.drew=wd at *
    clear c0 c1 c2 c3 f0 f1 f2 f3
    go_wp2_with fail
    refine (cmp_any xk yk (xa,xb,xc) (ya,yb,yc) wd hkx hky).mono ?_
    rintro e w3 ⟨rfl,hb3⟩
    have Hpk4:=Lib.hid (Hpkd.out.below hb3)
    have Hg4:=Lib.hid (grown_below Hgd.out hb3)
    clear hb3 Hpkd Hgd
    go_wp2_with fail
    go_roundw
    case rel=>exact⟨q+1,j,by go_num,rfl,by omega,by omega,hjb,.inr ⟨by omega,by
     have e9:q+1 - a - 1=q - a:=by omega
     have:=Hy.out hql
     simp only[e9,this];omega⟩,HJ.out,Hpk4.out,Hg4.out⟩
    case measure=>simp[intOf];omega
  ·obtain rfl:i=j:=by omega
   obtain⟨t,ht⟩:∃ t,a+t=i:=⟨i - a,by omega⟩
   have htm:i - a=t:=by omega
   have htR:t≤L.length:=by have:=Hm.out;have:=Hll.out;omega
   have hso:(L.take t++((xk,(xa,xb,xc),xm),xt) :: L.drop t).Pairwise (lexP ekey):=by
    refine ins_sorted L _ t htR Hs.out Htag.out ?_ ?_
    ·rcases HI.out with h | ⟨h,k⟩
     ·left;omega
     ·right;simp only[htm]at h k;exact⟨h,k⟩
    ·rcases HJ.out with h | ⟨h,k⟩
     ·left;have:=Hm.out;have:=Hll.out;omega
     ·right;simp only[htm]at h k;exact⟨h,k⟩
   have Hso:=Lib.hid hso
   have Hpk:Hid (PkAt wr g rest (isL P L ((xk,(xa,xb,xc),xm),xt) Q L.length)):=Lib.hid (by
    have e:isL P L ((xk,(xa,xb,xc),xm),xt) Q L.length=P++L++([((xk,(xa,xb,xc),xm),xt)]++Q):=by simp[isL]
    rw[e];exact hpk)
   have Hfin:Hid (isL P L ((xk,(xa,xb,xc),xm),xt) Q t=P++(L.take t++((xk,(xa,xb,xc),xm),xt) :: L.drop t)++Q):=Lib.hid (by unfold isL;simp only[List.append_assoc,List.cons_append])
   have Hpe:Hid ((L.take t++((xk,(xa,xb,xc),xm),xt) :: L.drop t).Perm (L++[((xk,(xa,xb,xc),xm),xt)])):=Lib.hid (ins_perm L L _ t (List.Perm.refl _))
   have Ht:=Lib.hid ht
   clear hpk hso ht htm HI HJ
   go_wp2_with fail
   go_loopw [17] (fun kv wr=>∃ s k:Nat,kv=.int .i64 (k:Int)∧a+s=k∧t≤s∧s≤L.length∧PkAt wr g rest (isL P L ((xk,(xa,xb,xc),xm),xt) Q s)∧w.grownBy wr (some g)) (fun kv _=>(intOf kv).toNat)
   case atStart=>exact⟨L.length,m,rfl,by rw[Hll.out];exact Hm.out,htR,Nat.le_refl _,Hpk.out,Hgr.out⟩
   case round=>
    obtain⟨s,k,rfl,hk,hst,hsL,hpk,hgr⟩:=hrel
    have Hgr2:=Lib.hid hgr
    clear hgr
    by_cases hlt:i < k
    ·rcases s with _ | s
     ·exfalso;have:=Ht.out;omega
     obtain⟨k1,hk1⟩:∃ k1,a+s=k1:=⟨_,rfl⟩
     have hsl:s < L.length:=by omega
     have Hk:Hid (k=k1+1∧a+s=k1):=Lib.hid (by omega)
     have hkN:k < N:=by have:=Hm.out;have:=Hll.out;omega
     have hk1N:k1 < N:=by omega
     have e4:(k:Int) - 1=(k1:Int):=by omega
     have HX:Hid (k1=(P++L.take s).length):=Lib.hid (by rw[List.length_append,List.length_take,HP.out];omega)
     have HY:Hid (k=(P++L.take s).length+1+([]:List TE).length):=Lib.hid (by rw[←HX.out];exact Hk.out.1)
     rw[is_pre P L _ Q s hsl]at hpk
     have hpost:=is_post P L ((xk,(xa,xb,xc),xm),xt) Q s hsl
     obtain⟨y,hy⟩:∃ y,L[s]=y:=⟨_,rfl⟩
     rw[hy]at hpk hpost
     obtain⟨⟨yk,⟨ya,yb,yc⟩,ym⟩,yt⟩:=y
     obtain⟨c0,c1,c2,c3,f0,f1,f2,f3⟩:=hpk.pair HX.out HY.out
     have Hsw:Hid (PkAt (swW wr g k k1 (.int .i64 (yk:Int)) (.slice ya yb yc) (.int .i64 (xk:Int)) (.slice xa xb xc)).drew g rest _):=Lib.hid (hpk.swapD HX.out HY.out)
     have Hgs:=Lib.hid (grown_sw Hgr2.out k k1 (.int .i64 (yk:Int)) (.slice ya yb yc) (.int .i64 (xk:Int)) (.slice xa xb xc))
     rw[←hpost]at Hsw
     unfold swW at Hsw Hgs
     clear hpk hy hpost hk hk1
     go_wp2_with fail
     go_region
     generalize ((((wr.setCell ⟨g,k*2,none⟩ (.int .i64 (yk:Int))).setCell ⟨g,k*2+1,none⟩ (.slice ya yb yc)).setCell ⟨g,k1*2,none⟩ (.int .i64 (xk:Int))).setCell ⟨g,k1*2+1,none⟩ (.slice xa xb xc)).drew=wq at *
     clear c0 c1 c2 c3 f0 f1 f2 f3
     go_wp2_with fail
     go_roundw
     case rel=>exact⟨s,k1,rfl,Hk.out.2,by have:=Ht.out;have:=Hk.out;omega,by omega,Hsw.out,Hgs.out⟩
     case measure=>have:=Hk.out;simp[intOf];omega
    ·obtain rfl:s=t:=by have:=Ht.out;omega
     obtain rfl:k=i:=by have:=Ht.out;omega
     rw[Hfin.out]at hpk
     have Hpk2:=Lib.hid hpk
     clear hpk hk
     go_wp2_with fail
     refine bodyPost_ret (results_none rfl _ _ _) rfl ?_
     exact⟨rfl,⟨_,Hpk2.out,Hpe.out,Hso.out⟩,Hgr2.out⟩
end Go.Proofs.YtabdianhoabhhaaGreatDoor.Weigh
namespace Go.Proofs.YtabdianhoabhhaaGreatDoor.Weigh
open Go Go.RowKit Go.Proofs.YtabdianhoabhhaaGreatDoor Go.Proofs.YtabdianhoabhhaaGreatDoor.SP
set_option linter.unusedVariables false
def SymAt (F:Nat):Prop:=∀ (g N cap a m b:Nat) (rest:List Value) (P L R Q:List TE) (w:World),L.length+R.length≤F→PkAt w g rest (P++L++(R++Q))→P.length=a→a+L.length=m→m+R.length=b→1≤L.length→1≤R.length→
  L.Pairwise (lexP ekey)→R.Pairwise (lexP ekey)→(∀ x∈L,∀ y∈R,x.2 < y.2)→Kb L→Kb R→(P++L++(R++Q)).length=N→N≤1000000→
  Calls Tryz.prog 255 #[.slice (some ⟨g,0,none⟩) N cap,.int .i64 (a:Int),.int .i64 (m:Int),.int .i64 (b:Int),cmpV] w fun e w'=>e=.returned (.tuple #[])∧(∃ S',PkAt w' g rest (P++S'++Q)∧S'.Perm (L++R)∧S'.Pairwise (lexP ekey))∧w.grownBy w' (some g)
theorem md_at (P L R Q:List TE) (k l:Nat) (h:k < L.length) (h2:l < R.length):P++L++(R++Q)=(P++L.take k)++L[k] :: ((L.drop (k+1)++R.take l)++R[l] :: (R.drop (l+1)++Q)):=by
 have e1:L=L.take k++L[k] :: L.drop (k+1):=by rw[←List.drop_eq_getElem_cons h,List.take_append_drop]
 have e2:R=R.take l++R[l] :: R.drop (l+1):=by rw[←List.drop_eq_getElem_cons h2,List.take_append_drop]
 conv=>lhs;rw[e1,e2]
 simp only[List.append_assoc,List.cons_append]
theorem md_done (L1 L2 R1 R2 M1 M2:List TE) (p1:M1.Perm (L1++R1)) (p2:M2.Perm (L2++R2)) (s1:M1.Pairwise (lexP ekey)) (s2:M2.Pairwise (lexP ekey)) (hh:∀ x∈L1++R1,∀ y∈L2++R2,lexP ekey x y) :
  (M1++M2).Perm ((L1++L2)++(R1++R2))∧(M1++M2).Pairwise (lexP ekey):=by
 refine⟨(p1.append p2).trans ?_,join_sorted M1 M2 _ _ p1 p2 s1 s2 hh⟩
 simp only[List.append_assoc]
 exact List.Perm.append_left L1 (List.perm_append_comm_assoc R1 L2 R2)
set_option maxRecDepth 100000 in
set_option maxHeartbeats 8000000 in
theorem sym_mid (F:Nat) (ih:SymAt F) (g N cap a m b:Nat) (rest:List Value) (P L R Q:List TE) (w:World) (hF:L.length+R.length≤F+1) (h:PkAt w g rest (P++L++(R++Q))) (ha:P.length=a) (hm:a+L.length=m) (hb:m+R.length=b) (hL:2≤L.length) (hR:2≤R.length)
  (hsL:L.Pairwise (lexP ekey)) (hsR:R.Pairwise (lexP ekey)) (htag:∀ x∈L,∀ y∈R,x.2 < y.2) (hkL:Kb L) (hkR:Kb R) (hN:(P++L++(R++Q)).length=N) (hN2:N≤1000000) :
  Calls Tryz.prog 255 #[.slice (some ⟨g,0,none⟩) N cap,.int .i64 (a:Int),.int .i64 (m:Int),.int .i64 (b:Int),cmpV] w fun e w'=>e=.returned (.tuple #[])∧(∃ S',PkAt w' g rest (P++S'++Q)∧S'.Perm (L++R)∧S'.Pairwise (lexP ekey))∧w.grownBy w' (some g):=by
 have hN3:P.length+L.length+R.length+Q.length=N:=by rw[←hN];simp;omega
 have HN3:=Lib.hid hN3
 have Ih:=Lib.hid ih
 have HF:=Lib.hid hF
 have H:=Lib.hid h
 have HP:=Lib.hid ha
 have HsL:=Lib.hid hsL
 have HsR:=Lib.hid hsR
 have Htag:=Lib.hid htag
 have HkL:=Lib.hid hkL
 have HkR:=Lib.hid hkR
 have hbN:b≤N:=by omega
 have hmb:m+2≤b:=by omega
 have ham:a+2≤m:=by omega
 have e1:(m:Int) - (a:Int)=((L.length:Nat):Int):=by omega
 have e0:(((L.length:Nat):Int) == 1)=false:=by simp;omega
 have e2:(b:Int) - (m:Int)=((R.length:Nat):Int):=by omega
 have e3:(((R.length:Nat):Int) == 1)=false:=by simp;omega
 obtain⟨mid,hmid⟩:∃ mid,mid=(a+b) / 2:=⟨_,rfl⟩
 have e4:((a:Int)+(b:Int)) / 2=(mid:Int):=by omega
 obtain⟨n,hn⟩:∃ n,n=mid+m:=⟨_,rfl⟩
 have e5:(mid:Int)+(m:Int)=(n:Int):=by omega
 obtain⟨p,hp⟩:∃ p,n=p+1:=⟨n - 1,by omega⟩
 have e6:(n:Int) - 1=(p:Int):=by omega
 have Hmid:Hid (a+b=2*mid∨a+b=2*mid+1):=Lib.hid (by omega)
 have Hn:=Lib.hid hn
 have Hp:=Lib.hid hp
 have Hm:=Lib.hid hm
 have Hb:=Lib.hid hb
 have hnN:n≤2000000:=by omega
 have hpN:p≤2000000:=by omega
 have hmN:mid≤1000000:=by omega
 clear h hN hN3 ha hsL hsR htag hkL hkR hb hm hL hR hmid hn hp ih hF
 generalize hll:L.length=ll at *
 have Hll:=Lib.hid hll
 generalize hrl:R.length=rl at *
 have Hrl:=Lib.hid hrl
 clear hll hrl
 unfold cmpV
 go_enter Tryz.func255,Tryz.ntmps255
 go_upto_if 140 with fail
 clear e1 e0 e2 e3
 go_cut [20,21] from 129 to 148 (fun sv rv wx=>∃ s r:Nat,sv=.int .i64 (s:Int)∧rv=.int .i64 (r:Int)∧a≤s∧n≤s+b∧s≤r∧r≤m∧r≤mid∧(s=a∨s+b=n)∧(r=m∨r=mid)∧wx=w)
 case first=>
  by_cases hmm:mid < m
  ·have e7:(n:Int) - (b:Int)=((n - b:Nat):Int):=by have:=Hmid.out;have:=Hn.out;omega
   have Hnb:Hid (n - b+b=n):=Lib.hid (by have:=Hmid.out;have:=Hn.out;omega)
   generalize n - b=nb at *
   go_wp2_with fail
   go_meet
   case rel=>exact⟨nb,mid,rfl,rfl,by have:=Hmid.out;have:=Hn.out;have:=Hnb.out;omega,by have:=Hnb.out;omega,by have:=Hmid.out;have:=Hn.out;have:=Hnb.out;omega,by omega,Nat.le_refl _,.inr Hnb.out,.inr rfl,rfl⟩
  ·go_wp2_with fail
   go_meet
   case rel=>exact⟨a,m,rfl,rfl,Nat.le_refl _,by have:=Hmid.out;have:=Hn.out;omega,by omega,Nat.le_refl _,by omega,.inl rfl,.inl rfl,rfl⟩
 case rest=>
  obtain⟨s0,r0,rfl,rfl,k1,k2,k3,k4,k5,k6,k7,hw⟩:=hcut
  have hw:=hw.symm
  subst hw
  go_wp2_with fail
  go_loopw [20,21] (fun sv rv wr=>∃ s r:Nat,sv=.int .i64 (s:Int)∧rv=.int .i64 (r:Int)∧s0≤s∧s≤r∧r≤r0∧(s=s0∨∃ (h1:s - 1 - a < L.length) (h2:n - s - m < R.length),L[s - 1 - a].1.1≤R[n - s - m].1.1)∧
   (r=r0∨∃ (h1:r - a < L.length) (h2:n - 1 - r - m < R.length),R[n - 1 - r - m].1.1 < L[r - a].1.1)∧PkAt wr g rest (P++L++(R++Q))∧w.grownBy wr (some g)) (fun sv rv _=>(intOf rv - intOf sv).toNat)
  case atStart=>exact⟨s0,r0,rfl,rfl,Nat.le_refl _,k3,Nat.le_refl _,.inl rfl,.inl rfl,H.out,World.grownBy.refl _ _⟩
  case round=>
   obtain⟨s,r,rfl,rfl,hs0,hsr,hr0,hI,hJ,hpk,hgr⟩:=hrel
   have HI:=Lib.hid hI
   have HJ:=Lib.hid hJ
   have Hgr:=Lib.hid hgr
   have Hpk:=Lib.hid hpk
   clear hI hJ hgr
   by_cases hlt:s < r
   ·obtain⟨q,hq⟩:∃ q,q=(s+r) / 2:=⟨_,rfl⟩
    have hqi:s≤q:=by omega
    have hqj:q < r:=by omega
    obtain⟨z,hz⟩:∃ z,z=p - q:=⟨_,rfl⟩
    have hzp:z+q+1=n:=by have:=Hp.out;omega
    have hmz:m≤z:=by have:=Hn.out;omega
    have hzb:z < b:=by omega
    have hql:q - a < L.length:=by have:=Hm.out;have:=Hll.out;omega
    have hzl:z - m < R.length:=by have:=Hb.out;have:=Hrl.out;omega
    have Hat:=Lib.hid (md_at P L R Q (q - a) (z - m) hql hzl)
    rw[Hat.out]at hpk
    have HX:Hid (q=(P++L.take (q - a)).length):=Lib.hid (by rw[List.length_append,List.length_take,HP.out];omega)
    have HY:Hid (z=(P++L.take (q - a)).length+1+(L.drop (q - a+1)++R.take (z - m)).length):=Lib.hid (by rw[←HX.out,List.length_append,List.length_drop,List.length_take];have:=Hm.out;have:=Hll.out;have:=Hrl.out;omega)
    have hkx:=HkL.out _ (List.getElem_mem hql)
    have hky:=HkR.out _ (List.getElem_mem hzl)
    obtain⟨x,hx⟩:∃ x,L[q - a]=x:=⟨_,rfl⟩
    obtain⟨y,hy⟩:∃ y,R[z - m]=y:=⟨_,rfl⟩
    have Hx:Hid (∀ h:q - a < L.length,L[q - a]=x):=Lib.hid (fun _=>hx)
    have Hy:Hid (∀ h:z - m < R.length,R[z - m]=y):=Lib.hid (fun _=>hy)
    rw[hx]at hpk hkx
    rw[hy]at hpk hky
    obtain⟨⟨xk,⟨xa,xb,xc⟩,xm⟩,xt⟩:=x
    obtain⟨⟨yk,⟨ya,yb,yc⟩,ym⟩,yt⟩:=y
    obtain⟨c0,c1,c2,c3,f0,f1,f2,f3⟩:=hpk.pair HX.out HY.out
    simp only at hky hkx
    have e2:((s:Int)+(r:Int)) / 2=(q:Int):=by omega
    have e3:(p:Int) - (q:Int)=(z:Int):=by omega
    have hw:IntKind.i64.wrap (z:Int)=(z:Int):=IntWalk.i64_in _ (by omega)
    have hqN:q < N:=by omega
    have hzN:z < N:=by omega
    have Hz:Hid (n - (q+1) - m=z - m∧n - 1 - q - m=z - m∧q+1 - 1 - a=q - a):=Lib.hid (by omega)
    clear hpk hx hy hq hz
    have Hgd:=Lib.hid (grown_drew Hgr.out)
    by_cases hc:yk < xk
    ·have d1:(yk:Int) - (xk:Int) < 0:=by omega
     go_wp2_with fail
     go_still_tail 11,(by kernel_rfl)
     change wpList _ _ _ _ _ wr.drew
     have Hpkd:Hid (PkAt wr.drew g rest _):=Hpk
     generalize wr.drew=wd at *
     clear c0 c1 c2 c3 f0 f1 f2 f3
     go_wp2_with fail
     refine (cmp_any yk xk (ya,yb,yc) (xa,xb,xc) wd hky hkx).mono ?_
     rintro e w3 ⟨rfl,hb3⟩
     have Hpk4:=Lib.hid (Hpkd.out.below hb3)
     have Hg4:=Lib.hid (grown_below Hgd.out hb3)
     clear hb3 Hpkd Hgd
     go_wp2_with fail
     go_roundw
     case rel=>exact⟨s,q,rfl,rfl,hs0,hqi,by omega,HI.out,.inr ⟨hql,by rw[Hz.out.2.1];exact hzl,by
      have a1:=Hz.out.2.1
      have a2:=Hy.out hzl
      have a3:=Hx.out hql
      simp only[a1,a2,a3];exact hc⟩,Hpk4.out,Hg4.out⟩
     case measure=>simp[intOf];omega
    ·have d1:decide ((yk:Int) - (xk:Int) < 0)=false:=by simp;omega
     have d2:¬ ((yk:Int) - (xk:Int) < 0):=by omega
     go_wp2_with fail
     go_still_tail 11,(by kernel_rfl)
     change wpList _ _ _ _ _ wr.drew
     have Hpkd:Hid (PkAt wr.drew g rest _):=Hpk
     generalize wr.drew=wd at *
     clear c0 c1 c2 c3 f0 f1 f2 f3
     go_wp2_with fail
     refine (cmp_any yk xk (ya,yb,yc) (xa,xb,xc) wd hky hkx).mono ?_
     rintro e w3 ⟨rfl,hb3⟩
     have Hpk4:=Lib.hid (Hpkd.out.below hb3)
     have Hg4:=Lib.hid (grown_below Hgd.out hb3)
     clear hb3 Hpkd Hgd
     go_wp2_with fail
     go_roundw
     case rel=>exact⟨q+1,r,by go_num,rfl,by omega,by omega,hr0,.inr ⟨by rw[Hz.out.2.2];exact hql,by rw[Hz.out.1];exact hzl,by
      have a1:=Hz.out.1
      have a4:=Hz.out.2.2
      have a2:=Hy.out hzl
      have a3:=Hx.out hql
      simp only[a1,a4,a2,a3];omega⟩,HJ.out,Hpk4.out,Hg4.out⟩
     case measure=>simp[intOf];omega
   ·obtain rfl:s=r:=by omega
    have hh1:s - a=0∨mid - s=R.length∨∃ (h1:s - a - 1 < L.length) (h2:mid - s < R.length),lexP ekey L[s - a - 1] R[mid - s]:=by
     rcases HI.out with h | ⟨h1,h2,h3⟩
     ·rcases k6 with k | k
      ·left;omega
      ·right;left;have:=Hn.out;have:=Hb.out;have:=Hrl.out;omega
     ·right;right
      have a1:s - a - 1=s - 1 - a:=by omega
      have a2:mid - s=n - s - m:=by have:=Hn.out;omega
      simp only[a1,a2]
      refine⟨h1,h2,?_⟩
      have:=Htag.out _ (List.getElem_mem h1) _ (List.getElem_mem h2)
      unfold lexP ekey;omega
    have hh2:mid - s=0∨s - a=L.length∨∃ (h1:mid - s - 1 < R.length) (h2:s - a < L.length),lexP ekey R[mid - s - 1] L[s - a]:=by
     rcases HJ.out with h | ⟨h1,h2,h3⟩
     ·rcases k7 with k | k
      ·right;left;have:=Hm.out;have:=Hll.out;omega
      ·left;omega
     ·right;right
      have a2:mid - s - 1=n - 1 - s - m:=by have:=Hn.out;omega
      simp only[a2]
      exact⟨h2,h1,.inl h3⟩
    have hhalf:=halves (le:=lexP ekey) (fun a b c=>lexP_trans ekey a b c) L R (s - a) (mid - s) (by have:=Hm.out;have:=Hll.out;omega) (by have:=Hn.out;have:=Hb.out;have:=Hrl.out;omega) HsL.out HsR.out hh1 hh2
    have hL:L=L.take (s - a)++L.drop (s - a):=(List.take_append_drop _ _).symm
    have hR:R=R.take (mid - s)++R.drop (mid - s):=(List.take_append_drop _ _).symm
    have l1:(L.take (s - a)).length=s - a:=by rw[List.length_take];have:=Hm.out;have:=Hll.out;omega
    have l2:(L.drop (s - a)).length=m - s:=by rw[List.length_drop];have:=Hm.out;have:=Hll.out;omega
    have l3:(R.take (mid - s)).length=mid - s:=by rw[List.length_take];have:=Hn.out;have:=Hb.out;have:=Hrl.out;omega
    have l4:(R.drop (mid - s)).length=b - (n - s):=by rw[List.length_drop];have:=Hn.out;have:=Hb.out;have:=Hrl.out;omega
    generalize L.take (s - a)=L1 at *
    generalize L.drop (s - a)=L2 at *
    generalize R.take (mid - s)=R1 at *
    generalize R.drop (mid - s)=R2 at *
    obtain⟨en,hen⟩:∃ en,en=n - s:=⟨_,rfl⟩
    have e8:(n:Int) - (s:Int)=(en:Int):=by omega
    rw[←hen]at l4
    have Hen:Hid (en=m+(mid - s)):=Lib.hid (by have:=Hn.out;omega)
    have Hl1:=Lib.hid l1
    have Hl2:=Lib.hid l2
    have Hl3:=Lib.hid l3
    have Hl4:=Lib.hid l4
    have HL:=Lib.hid hL
    have HR:=Lib.hid hR
    have Hhalf:=Lib.hid hhalf
    have hsas:a≤s:=by omega
    have hsm:s≤m:=by omega
    have hsmid:s≤mid:=by omega
    have henb:en≤b:=by have:=Hen.out;have:=Hn.out;omega
    have henm:m≤en:=by have:=Hen.out;omega
    clear hh1 hh2 hhalf hL hR l1 l2 l3 l4 hen HI HJ k1 k2 k3 k4 k5 k6 k7 hpk
    have hpk5:PkAt wr g rest ((P++L1)++L2++(R1++(R2++Q))):=by
     have:=Hpk.out
     rw[HL.out,HR.out]at this
     simpa only[List.append_assoc] using this
    have Hpk5:=Lib.hid hpk5
    have HNN:Hid (((P++L1)++L2++(R1++(R2++Q))).length=N):=Lib.hid (by
     have h1:=HN3.out;have h2:=congrArg List.length HL.out;have h3:=congrArg List.length HR.out;have h4:=Hll.out;have h5:=Hrl.out
     simp only[List.length_append]at h2 h3⊢
     omega)
    have Hp1:Hid ((P++L1).length=s):=Lib.hid (by rw[List.length_append,HP.out,Hl1.out];omega)
    clear hpk5 Hpk H
    go_upto_region 39 with fail
    clear e8
    go_cut [185] from 147 to 185 (fun v wx=>v=.bool (decide (s < m∧m < en))∧wx=wr)
    case first=>
     by_cases a1:s < m
     ·by_cases a2:m < en
      ·go_wp2_with fail
       go_meet
       case rel=>exact⟨by simp[a1,a2],rfl⟩
      ·go_wp2_with fail
       go_meet
       case rel=>exact⟨by simp[a2],rfl⟩
     ·go_wp2_with fail
      go_meet
      case rel=>exact⟨by simp[a1],rfl⟩
    case rest=>
     obtain⟨rfl,hw⟩:=hcut
     have hw:=hw.symm
     subst hw
     go_upto_if 185 with fail
     go_cut [20] from 178 to 191 (fun v wx=>v=.int .i64 (s:Int)∧PkAt wx g rest (P++L1++(R1++(L2++(R2++Q))))∧w.grownBy wx (some g))
     case first=>
      by_cases hr:s < m∧m < en
      ·rw[decide_eq_true hr]
       go_wp2_with fail
       refine (rotate_any g N cap s m en rest (P++L1) L2 R1 (R2++Q) _ wr Hpk5.out Hp1.out (by rw[Hl2.out];omega) (by rw[Hl3.out];exact Hen.out.symm) (by rw[Hl2.out];omega) (by rw[Hl3.out];have:=Hen.out;omega) HNN.out hN2).mono ?_
       rintro e w5 ⟨rfl,hp5,hg5⟩
       have Hp5:=Lib.hid hp5
       have Hg5:=Lib.hid (Hgr.out.trans hg5)
       clear hp5 hg5
       go_wp2_with fail
       go_meet
       case rel=>exact⟨rfl,by have:=Hp5.out;simpa only[List.append_assoc] using this,Hg5.out⟩
      ·rw[decide_eq_false hr]
       go_wp2_with fail
       go_meet
       case rel=>
        refine⟨rfl,?_,Hgr.out⟩
        have h1:=Hpk5.out
        have h2:L2=[]∨R1=[]:=by
         rcases Nat.lt_or_ge s m with h | h
         ·right;exact List.eq_nil_of_length_eq_zero (by rw[Hl3.out];have:=Hen.out;omega)
         ·left;exact List.eq_nil_of_length_eq_zero (by rw[Hl2.out];omega)
        rcases h2 with rfl | rfl
        ·simpa only[List.append_assoc,List.nil_append] using h1
        ·simpa only[List.append_assoc,List.nil_append] using h1
     case rest=>
      obtain⟨rfl,hp6,hg6⟩:=hcut
      have Hp6:=Lib.hid hp6
      have Hg6:=Lib.hid hg6
      clear hp6 hg6 Hpk5 Hgr
      generalize wc=w6 at *
      go_upto_region 41 with fail
      go_cut [199] from 186 to 199 (fun v wx=>v=.bool (decide (a < s∧s < mid))∧wx=w6)
      case first=>
       by_cases a1:a < s
       ·by_cases a2:s < mid
        ·go_wp2_with fail
         go_meet
         case rel=>exact⟨by simp[a1,a2],rfl⟩
        ·go_wp2_with fail
         go_meet
         case rel=>exact⟨by simp[a2],rfl⟩
       ·go_wp2_with fail
        go_meet
        case rel=>exact⟨by simp[a1],rfl⟩
      case rest=>
       obtain⟨rfl,hw⟩:=hcut
       have hw:=hw.symm
       subst hw
       go_upto_if 199 with fail
       go_cut [20] from 192 to 205 (fun v wx=>v=.int .i64 (s:Int)∧(∃ M1,PkAt wx g rest (P++M1++(L2++(R2++Q)))∧M1.Perm (L1++R1)∧M1.Pairwise (lexP ekey))∧w.grownBy wx (some g))
       case first=>
        by_cases hr:a < s∧s < mid
        ·rw[decide_eq_true hr]
         go_wp2_with fail
         refine (Ih.out g N cap a s mid rest P L1 R1 (L2++(R2++Q)) w6 (by rw[Hl1.out,Hl3.out];have:=HF.out;have:=Hmid.out;have:=Hm.out;have:=Hb.out;omega) Hp6.out HP.out (by rw[Hl1.out];omega) (by rw[Hl3.out];omega) (by rw[Hl1.out];omega) (by rw[Hl3.out];omega)
          ((pw_append _ _).1 (HL.out▸HsL.out)).1 ((pw_append _ _).1 (HR.out▸HsR.out)).1 (fun x hx y hy=>Htag.out x (by rw[HL.out];exact List.mem_append_left _ hx) y (by rw[HR.out];exact List.mem_append_left _ hy)) (Kb.left (HL.out▸HkL.out)) (Kb.left (HR.out▸HkR.out)) (by rw[←HNN.out];simp;omega) hN2).mono ?_
         rintro e w7 ⟨rfl,⟨M1,hp7,hpe,hso⟩,hg7⟩
         have Hp7:=Lib.hid hp7
         have Hg7:=Lib.hid (Hg6.out.trans hg7)
         have Hpe:=Lib.hid hpe
         have Hso:=Lib.hid hso
         clear hp7 hg7 hpe hso
         go_wp2_with fail
         go_meet
         case rel=>exact⟨rfl,⟨M1,Hp7.out,Hpe.out,Hso.out⟩,Hg7.out⟩
        ·rw[decide_eq_false hr]
         go_wp2_with fail
         go_meet
         case rel=>
          refine⟨rfl,⟨L1++R1,by have:=Hp6.out;simpa only[List.append_assoc] using this,List.Perm.refl _,?_⟩,Hg6.out⟩
          rcases Nat.lt_or_ge a s with h | h
          ·have:R1=[]:=List.eq_nil_of_length_eq_zero (by rw[Hl3.out];omega)
           subst this
           rw[List.append_nil];exact ((pw_append _ _).1 (HL.out▸HsL.out)).1
          ·have:L1=[]:=List.eq_nil_of_length_eq_zero (by rw[Hl1.out];omega)
           subst this
           rw[List.nil_append];exact ((pw_append _ _).1 (HR.out▸HsR.out)).1
       case rest=>
        obtain⟨rfl,⟨M1,hp8,hpe,hso⟩,hg8⟩:=hcut
        have Hp8:=Lib.hid hp8
        have Hg8:=Lib.hid hg8
        have Hpe:=Lib.hid hpe
        have Hso:=Lib.hid hso
        have HM1:Hid ((P++M1).length=mid):=Lib.hid (by rw[List.length_append,HP.out,hpe.length_eq,List.length_append,Hl1.out,Hl3.out];omega)
        clear hp8 hg8 hpe hso Hp6 Hg6
        generalize wc=w8 at *
        go_upto_region 43 with fail
        go_cut [213] from 200 to 213 (fun v wx=>v=.bool (decide (mid < en∧en < b))∧wx=w8)
        case first=>
         by_cases a1:mid < en
         ·by_cases a2:en < b
          ·go_wp2_with fail
           go_meet
           case rel=>exact⟨by simp[a1,a2],rfl⟩
          ·go_wp2_with fail
           go_meet
           case rel=>exact⟨by simp[a2],rfl⟩
         ·go_wp2_with fail
          go_meet
          case rel=>exact⟨by simp[a1],rfl⟩
        case rest=>
         obtain⟨rfl,hw⟩:=hcut
         have hw:=hw.symm
         subst hw
         by_cases hr:mid < en∧en < b
         ·rw[decide_eq_true hr]
          go_wp2_with fail
          refine (Ih.out g N cap mid en b rest (P++M1) L2 R2 Q w8 (by rw[Hl2.out,Hl4.out];have:=HF.out;have:=Hmid.out;have:=Hm.out;have:=Hb.out;have:=Hen.out;omega) (by have:=Hp8.out;simpa only[List.append_assoc] using this) HM1.out (by rw[Hl2.out];have:=Hen.out;omega) (by rw[Hl4.out];omega) (by rw[Hl2.out];have:=Hen.out;omega) (by rw[Hl4.out];omega)
           ((pw_append _ _).1 (HL.out▸HsL.out)).2.1 ((pw_append _ _).1 (HR.out▸HsR.out)).2.1 (fun x hx y hy=>Htag.out x (by rw[HL.out];exact List.mem_append_right _ hx) y (by rw[HR.out];exact List.mem_append_right _ hy)) (Kb.right (HL.out▸HkL.out)) (Kb.right (HR.out▸HkR.out)) (by have h1:=Hpe.out.length_eq;rw[←HNN.out];simp only[List.length_append]at h1⊢;omega) hN2).mono ?_
          rintro e w9 ⟨rfl,⟨M2,hp9,hpe2,hso2⟩,hg9⟩
          have Hp9:=Lib.hid hp9
          have Hg9:=Lib.hid (Hg8.out.trans hg9)
          have Hdone:=Lib.hid (md_done L1 L2 R1 R2 M1 M2 Hpe.out hpe2 Hso.out hso2 Hhalf.out)
          clear hp9 hg9 hpe2 hso2
          go_wp2_with fail
          go_end0
          exact⟨rfl,⟨M1++M2,by have:=Hp9.out;simpa only[List.append_assoc] using this,by rw[HL.out,HR.out];exact Hdone.out.1,Hdone.out.2⟩,Hg9.out⟩
         ·rw[decide_eq_false hr]
          have Hdone:=Lib.hid (md_done L1 L2 R1 R2 M1 (L2++R2) Hpe.out (List.Perm.refl _) Hso.out (by
           rcases Nat.lt_or_ge mid en with h | h
           ·have:R2=[]:=List.eq_nil_of_length_eq_zero (by rw[Hl4.out];omega)
            subst this
            rw[List.append_nil];exact ((pw_append _ _).1 (HL.out▸HsL.out)).2.1
           ·have:L2=[]:=List.eq_nil_of_length_eq_zero (by rw[Hl2.out];have:=Hen.out;omega)
            subst this
            rw[List.nil_append];exact ((pw_append _ _).1 (HR.out▸HsR.out)).2.1) Hhalf.out)
          go_wp2_with fail
          go_end0
          exact⟨rfl,⟨M1++(L2++R2),by have:=Hp8.out;simpa only[List.append_assoc] using this,by rw[HL.out,HR.out];exact Hdone.out.1,Hdone.out.2⟩,Hg8.out⟩
theorem sym_any:∀ F,SymAt F:=by
 intro F
 induction F with
 | zero=>intro g N cap a m b rest P L R Q w hF;intros;omega
 | succ F ih=>
  intro g N cap a m b rest P L R Q w hF h ha hm hb hL hR hsL hsR htag hkL hkR hN hN2
  by_cases h1:L.length=1
  ·obtain⟨x,rfl⟩:=List.length_eq_one_iff.1 h1
   exact sym_up g N cap a m b rest P R Q x w h ha hm hb hR hsR (fun y hy=>htag x (by simp) y hy) (hkL x (by simp)) hkR hN hN2
  ·by_cases h2:R.length=1
   ·obtain⟨x,rfl⟩:=List.length_eq_one_iff.1 h2
    exact sym_dn g N cap a m b rest P L Q x w h ha hm hb (by omega) hsL (fun y hy=>htag y hy x (by simp)) (hkR x (by simp)) hkL hN hN2
   ·exact sym_mid F ih g N cap a m b rest P L R Q w hF h ha hm hb (by omega) (by omega) hsL hsR htag hkL hkR hN hN2
end Go.Proofs.YtabdianhoabhhaaGreatDoor.Weigh
namespace Go.Proofs.YtabdianhoabhhaaGreatDoor.Weigh
open Go Go.RowKit Go.Proofs.YtabdianhoabhhaaGreatDoor Go.Proofs.YtabdianhoabhhaaGreatDoor.SP
set_option linter.unusedVariables false
theorem Ahead.len {bs:Nat} {s0 s:List TE} (h:Ahead ekey bs s0 s):s.Perm s0:=by
 have:=(h [] [] (Ch.nil ekey bs)).perm
 simpa using this
set_option maxRecDepth 100000 in
set_option maxHeartbeats 8000000 in
theorem stable_any (g N cap:Nat) (rest:List Value) (d:List TE) (w:World) (h:PkAt w g rest d) (hN:d.length=N) (hN2:N≤1000000) (hr:Rise d) (hk:Kb d) :
  Calls Tryz.prog 249 #[.slice (some ⟨g,0,none⟩) N cap,.int .i64 (N:Int),cmpV] w fun e w'=>e=.returned (.tuple #[])∧(∃ d',PkAt w' g rest d'∧d'.Perm d∧d'.Pairwise (lexP ekey))∧w.grownBy w' (some g):=by
 have H:=Lib.hid h
 have HN:=Lib.hid hN
 have Hr:=Lib.hid hr
 have Hk:=Lib.hid hk
 clear h hN hr hk
 unfold cmpV
 go_enter Tryz.func249,Tryz.ntmps249
 go_wp2_with fail
 go_loopw [7,8] (fun av bv wr=>∃ (a:Nat) (S0 S D:List TE),av=.int .i64 (a:Int)∧bv=.int .i64 ((a:Int)+20)∧d=S0++D∧S.length=a∧S.length+D.length=N∧Ahead ekey 20 S0 S∧PkAt wr g rest (S++D)∧w.grownBy wr (some g)) (fun _ bv _=>N+20 - (intOf bv).toNat)
 case atStart=>exact⟨0,[],[],d,rfl,rfl,rfl,rfl,by simpa using HN.out,Ahead.nil ekey 20,H.out,World.grownBy.refl _ _⟩
 case round=>
  obtain⟨a,S0,S,D,rfl,rfl,hd,hS,hSD,hah,hpk,hgr⟩:=hrel
  have Hd:=Lib.hid hd
  have HS:=Lib.hid hS
  have HSD:=Lib.hid hSD
  have Hah:=Lib.hid hah
  have Hpk:=Lib.hid hpk
  have Hgr:=Lib.hid hgr
  have haN:a≤N:=by omega
  have HrD:Hid (Rise D):=Lib.hid (Rise.right (hd▸Hr.out))
  have HkD:Hid (Kb D):=Lib.hid (Kb.right (hd▸Hk.out))
  clear hd hS hSD hah hpk hgr
  by_cases hlt:a+20≤N
  ·have hD:D=D.take 20++D.drop 20:=(List.take_append_drop _ _).symm
   have l1:(D.take 20).length=20:=by rw[List.length_take];have:=HSD.out;have:=HS.out;omega
   have HD:=Lib.hid hD
   have Hl1:=Lib.hid l1
   generalize D.take 20=D1 at *
   generalize D.drop 20=D2 at *
   clear hD l1
   have Hc:=Lib.hid (insertion_any g N cap a (a+20) rest S D1 D2 wr (by have:=Hpk.out;rw[HD.out]at this;rw[List.append_assoc];exact this) HS.out (by rw[Hl1.out]) (Rise.left (HD.out▸HrD.out)) (Kb.left (HD.out▸HkD.out)) (by have h1:=congrArg List.length HD.out;have:=HSD.out;simp only[List.length_append]at h1⊢;omega) hN2)
   have e1:(a:Int)+20=((a+20:Nat):Int):=by omega
   obtain⟨b,hb⟩:∃ b,a+20=b:=⟨_,rfl⟩
   rw[hb]at Hc e1 hlt
   have Hb:=Lib.hid hb
   rw[e1]
   have hle:(b:Int)≤(N:Int):=by omega
   clear hb e1
   go_wp2_with fail
   refine (Hc.out).mono ?_
   rintro e w2 ⟨rfl,⟨S',hp2,hpe,hso⟩,hg2⟩
   have Hp2:=Lib.hid hp2
   have Hg2:=Lib.hid (Hgr.out.trans hg2)
   have Hpe:=Lib.hid hpe
   have Hso:=Lib.hid hso
   clear hp2 hg2 hpe hso
   go_wp2_with fail
   go_roundw
   case rel=>
    have a1:=Hpe.out.length_eq;have a2:=Hl1.out;have a3:=HS.out;have a4:=Hb.out;have a5:=HSD.out;have a6:=congrArg List.length HD.out
    rw[List.length_append]at a6
    exact⟨b,S0++D1,S++S',D2,rfl,rfl,by rw[Hd.out,HD.out,List.append_assoc],by rw[List.length_append];omega,by rw[List.length_append];omega,Ahead.more ekey Hah.out (by omega) Hpe.out Hso.out,Hp2.out,Hg2.out⟩
   case measure=>have:=Hb.out;simp[intOf];omega
  ·have Hc:=Lib.hid (insertion_any g N cap a N rest S D [] wr (by rw[List.append_nil];exact Hpk.out) HS.out (by have:=HSD.out;have:=HS.out;omega) HrD.out HkD.out (by have:=HSD.out;simp only[List.length_append,List.length_nil];omega) hN2)
   have hle:¬ ((a:Int)+20≤(N:Int)):=by omega
   go_wp2_with fail
   refine (Hc.out).mono ?_
   rintro e w2 ⟨rfl,⟨S',hp2,hpe,hso⟩,hg2⟩
   rw[List.append_nil]at hp2
   have Hp2:=Lib.hid hp2
   have Hg2:=Lib.hid (Hgr.out.trans hg2)
   have Hch:Hid (Ch ekey 20 d (S++S')):=Lib.hid (by rw[Hd.out];exact Hah.out _ _ (.last D S' (by rw[hpe.length_eq];have:=HSD.out;have:=HS.out;omega) hpe hso))
   clear hp2 hg2 hpe hso Hc
   go_wp2_with fail
   clear Hd HS HSD Hah Hpk Hgr haN HrD HkD hle
   go_loopw [6] (fun bv wr=>∃ (bs:Nat) (d':List TE),bv=.int .i64 (bs:Int)∧1≤bs∧bs≤2000000∧Ch ekey bs d d'∧PkAt wr g rest d'∧w.grownBy wr (some g)) (fun bv _=>N - (intOf bv).toNat)
   case atStart=>exact⟨20,_,rfl,by omega,by omega,Hch.out,Hp2.out,Hg2.out⟩
   case round=>
    obtain⟨bs,d',rfl,hb1,hb2,hch,hpk,hgr⟩:=hrel
    have Hch:=Lib.hid hch
    have Hpk:=Lib.hid hpk
    have Hgr:=Lib.hid hgr
    have Hlen:Hid (d'.length=N):=Lib.hid (by rw[hch.perm.length_eq];exact HN.out)
    clear hch hpk hgr
    by_cases hbN:bs < N
    ·go_wp2_with fail
     go_loopw [7,8] (fun av bv wr=>∃ (a b:Nat) (S0 S D0 D:List TE),av=.int .i64 (a:Int)∧bv=.int .i64 (b:Int)∧b=a+2*bs∧d=S0++D0∧S.length=a∧S.length+D.length=N∧Ahead ekey (2*bs) S0 S∧Ch ekey bs D0 D∧PkAt wr g rest (S++D)∧w.grownBy wr (some g)) (fun _ bv _=>N+2*bs - (intOf bv).toNat)
     case atStart=>exact⟨0,2*bs,[],[],d,d',rfl,int_eq (by omega),by omega,rfl,rfl,by simpa using Hlen.out,Ahead.nil ekey _,Hch.out,Hpk.out,Hgr.out⟩
     case round=>
      obtain⟨a,b,S0,S,D0,D,rfl,rfl,hb,hd,hS,hSD,hah,hch,hpk,hgr⟩:=hrel
      have Hd:=Lib.hid hd
      have HS:=Lib.hid hS
      have HSD:=Lib.hid hSD
      have Hah:=Lib.hid hah
      have Hchd:=Lib.hid hch
      have Hpk3:=Lib.hid hpk
      have Hgr3:=Lib.hid hgr
      have HB:=Lib.hid hb
      have haN:a≤N:=by omega
      have HrD:Hid (Rise D0):=Lib.hid (Rise.right (hd▸Hr.out))
      have HkD:Hid (Kb D):=Lib.hid ((Kb.right (hd▸Hk.out)).perm hch.perm)
      clear hd hS hSD hah hch hpk hgr hb
      by_cases hlt:b≤N
      ·obtain⟨s0,s,r0,r,q1,q2,q3,q4,q5,q6⟩:=Ch.split ekey Hchd.out (by have:=HB.out;have:=HSD.out;have:=HS.out;omega) (by omega)
       obtain⟨t0,t,u0,u,y1,y2,y3,y4,y5,y6⟩:=Ch.split ekey q6 (by have:=HB.out;have:=HSD.out;have:=HS.out;have h1:=congrArg List.length q2;rw[List.length_append]at h1;omega) (by omega)
       subst q1 q2 y1 y2
       obtain⟨m,hm⟩:∃ m,a+bs=m:=⟨_,rfl⟩
       have em:(a:Int)+(bs:Int)=(m:Int):=by omega
       have Hm:=Lib.hid hm
       have Hl1:=Lib.hid q3
       have Hl2:=Lib.hid y3
       have Hp0:=Lib.hid (And.intro q4 y4)
       have Hch6:=Lib.hid y6
       have Hc:=Lib.hid (sym_any (s.length+t.length) g N cap a m b rest S s t u wr (Nat.le_refl _) (by have:=Hpk3.out;simpa only[List.append_assoc] using this) HS.out (by rw[q3];exact hm) (by rw[y3];have:=HB.out;omega) (by omega) (by omega) q5 y5
        (Rise.cross (a:=s0) (b:=t0) (by have:=HrD.out;rw[←List.append_assoc]at this;exact Rise.left this) q4 y4) (Kb.left HkD.out) (Kb.left (Kb.right HkD.out)) (by have:=HSD.out;simp only[List.length_append]at this⊢;omega) hN2)
       have hmN:m≤N:=by have:=HB.out;omega
       clear hm q3 q4 q5 q6 y3 y4 y5 y6
       go_wp2_with fail
       refine (Hc.out).mono ?_
       rintro e w4 ⟨rfl,⟨M,hp4,hpe,hso⟩,hg4⟩
       have Hp4:=Lib.hid hp4
       have Hg4:=Lib.hid (Hgr3.out.trans hg4)
       have Hpe:=Lib.hid hpe
       have Hso:=Lib.hid hso
       clear hp4 hg4 hpe hso
       go_wp2_with fail
       go_roundw
       case rel=>
        have a1:=Hpe.out.length_eq;have a2:=Hl1.out;have a3:=HS.out;have a4:=HB.out;have a5:=HSD.out;have a6:=Hl2.out
        rw[List.length_append]at a1
        simp only[List.length_append]at a5
        exact⟨b,b+2*bs,S0++(s0++t0),S++M,u0,u,rfl,int_eq (by omega),rfl,by rw[Hd.out];simp only[List.append_assoc],by rw[List.length_append];omega,by rw[List.length_append];omega,Ahead.more ekey Hah.out (by omega) (Hpe.out.trans (Hp0.out.1.append Hp0.out.2)) Hso.out,Hch6.out,Hp4.out,Hg4.out⟩
       case measure=>have:=HB.out;simp[intOf];omega
      ·obtain⟨m,hm⟩:∃ m,a+bs=m:=⟨_,rfl⟩
       have em:(a:Int)+(bs:Int)=(m:Int):=by omega
       have Hm:=Lib.hid hm
       by_cases hmN:m < N
       ·obtain⟨s0,s,r0,r,q1,q2,q3,q4,q5,q6⟩:=Ch.split ekey Hchd.out (by have:=HSD.out;have:=HS.out;omega) (by omega)
        subst q1 q2
        have hrl:r.length < bs:=by have h1:=HSD.out;have h2:=HS.out;have h3:=HB.out;simp only[List.length_append]at h1;omega
        obtain⟨p1,p2⟩:=Ch.small ekey q6 (by omega)
        have Hl1:=Lib.hid q3
        have Hp0:=Lib.hid (And.intro q4 p1)
        have Hc:=Lib.hid (sym_any (s.length+r.length) g N cap a m N rest S s r [] wr (Nat.le_refl _) (by have:=Hpk3.out;simpa only[List.append_assoc,List.append_nil] using this) HS.out (by rw[q3];exact hm) (by have h1:=HSD.out;have:=HS.out;simp only[List.length_append]at h1;omega) (by omega) (by have h1:=HSD.out;have:=HS.out;simp only[List.length_append]at h1;omega) q5 p2
         (Rise.cross (a:=s0) (b:=r0) HrD.out q4 p1) (Kb.left HkD.out) (Kb.right HkD.out) (by have:=HSD.out;simp only[List.length_append,List.length_nil]at this⊢;omega) hN2)
        have Hrl:=Lib.hid hrl
        clear hm q3 q4 q5 q6 p1 p2 hrl
        go_wp2_with fail
        refine (Hc.out).mono ?_
        rintro e w4 ⟨rfl,⟨M,hp4,hpe,hso⟩,hg4⟩
        rw[List.append_nil]at hp4
        have Hp4:=Lib.hid hp4
        have Hg4:=Lib.hid (Hgr3.out.trans hg4)
        have Hfin:Hid (Ch ekey (2*bs) d (S++M)):=Lib.hid (by
         rw[Hd.out]
         refine Hah.out _ _ (.last _ M ?_ (hpe.trans (Hp0.out.1.append Hp0.out.2)) hso)
         rw[hpe.length_eq,List.length_append];have:=Hl1.out;have:=Hrl.out;omega)
        clear hp4 hg4 hpe hso
        go_wp2_with fail
        go_roundw
        case rel=>exact⟨2*bs,_,int_eq (by omega),by omega,by omega,Hfin.out,Hp4.out,Hg4.out⟩
        case measure=>simp[intOf];omega
       ·have hDl:D.length≤bs:=by have:=HSD.out;have:=HS.out;omega
        obtain⟨p1,p2⟩:=Ch.small ekey Hchd.out hDl
        have Hfin:Hid (Ch ekey (2*bs) d (S++D)):=Lib.hid (by rw[Hd.out];exact Hah.out _ _ (.last _ D (by omega) p1 p2))
        clear hm p1 p2
        go_wp2_with fail
        go_roundw
        case rel=>exact⟨2*bs,_,int_eq (by omega),by omega,by omega,Hfin.out,Hpk3.out,Hgr3.out⟩
        case measure=>simp[intOf];omega
    ·obtain⟨p1,p2⟩:=Ch.small ekey Hch.out (by rw[Hlen.out];omega)
     have Hp1:=Lib.hid p1
     have Hp2:=Lib.hid p2
     clear p1 p2
     go_wp2_with fail
     go_end0
     exact⟨rfl,⟨d',Hpk.out,Hp1.out,Hp2.out⟩,Hgr.out⟩
def cellsP (e:El):List Value:=[nv e.1,slv e.2.1]
def RowPk (w:World) (g:Nat) (rest:List Value) (l:List El):Prop:=Blk w g 292 (l.flatMap cellsP++rest).toArray
theorem pk_row (w:World) (g:Nat) (rest:List Value) (d:List TE):PkAt w g rest d↔RowPk w g rest (d.map (·.1)):=by
 unfold PkAt RowPk
 rw[List.flatMap_map];rfl
set_option maxHeartbeats 800000 in
theorem sortStable_any (g N cap:Nat) (rest:List Value) (l:List El) (w:World) (h:RowPk w g rest l) (hN:l.length=N) (hN2:N≤1000000) (hk:∀ e∈l,e.1≤1152921504606846976) :
  Calls Tryz.prog 226 #[.slice (some ⟨g,0,none⟩) N cap,cmpV] w fun e w'=>e=.returned (.tuple #[])∧RowPk w' g rest (stab ekey l)∧w.grownBy w' (some g):=by
 have Hc:=Lib.hid (stable_any g N cap rest l.zipIdx w ((pk_row w g rest _).2 (by rw[List.zipIdx_map_fst];exact h)) (by simpa using hN) hN2 (rise_zip l 0) (fun e he=>hk e.1 (by
  have:=List.mem_map_of_mem (f:=(·.1)) he
  rwa [List.zipIdx_map_fst]at this)))
 clear h hN hk
 unfold cmpV at *
 go_enter Tryz.func226,Tryz.ntmps226
 go_wp2_with fail
 refine (Hc.out).mono ?_
 rintro e w2 ⟨rfl,⟨d',hp,hpe,hso⟩,hg⟩
 have Hp:Hid (RowPk w2 g rest (stab ekey l)):=Lib.hid (by
  rw[←stab_unique ekey l d' hpe hso];exact (pk_row _ _ _ _).1 hp)
 have Hg:=Lib.hid hg
 clear hp hpe hso hg
 go_wp2_with fail
 go_end0
 exact⟨rfl,Hp.out,Hg.out⟩
end Go.Proofs.YtabdianhoabhhaaGreatDoor.Weigh
namespace Go.Proofs.YtabdianhoabhhaaGreatDoor.CloneI
open Go Go.RowKit Go.Proofs.YtabdianhoabhhaaGreatDoor
set_option linter.unusedVariables false
theorem ty:SliceTy Tryz.prog 89 3 (.int .i64 0) 1 8:=⟨Tryz.underlying89,by kernel_rfl,rfl,by omega⟩
set_option maxRecDepth 100000 in
set_option maxHeartbeats 400000 in
theorem clone_any (A:Option Addr) (n c:Nat) (cs:List Value) (w:World) (hl:cs.length=n*1) (hA:SlAt w A cs) (h0:A=none→n=0) (h1:∀ u∈cs,u.oneCell'=true) (hn:n≤maxLen) (hb:n*8≤140737488355328) :
  Calls Tryz.prog 250 #[.slice A n c] w fun e w'=>∃ v,e=.returned v∧w'.ownsRow w.heap.size 3 1 v n cs∧Below w.heap.size w w':=by
 have hq:=fun (w:World) (a:Option Addr) (l c:Nat)=>Lib.run_eql_slice_nil (P:=Tryz.prog) w 89 3 a l c 0 0 Tryz.underlying89
 rcases A with _ | ad
 ·obtain rfl:=h0 rfl
  have hcs:cs=[]:=List.eq_nil_of_length_eq_zero (by omega)
  subst hcs
  clear hA h0 h1 hl hn hb
  go_enter Tryz.func250,Tryz.ntmps250
  go_wp2_with fail
  go_ret
  exact⟨_,rfl,World.ownsRow_nil _ _ _ _,Below.refl _ _⟩
 ·have Hown:Hid ((w.alloc (.cells #[] 3)).ownsRow w.heap.size 3 1 (.slice (some ⟨w.heap.size,0,none⟩) 0 0) 0 []):=Lib.hid (own_zero _ _ _ _ w.heap.size 0 #[] (Nat.le_refl _) (heap_alloc_new w _) (by unfold maxLen;omega) (by simp))
  have Hsl:=Lib.hid (hA.alloc (.cells #[] 3))
  have Hb:=Lib.hid ((Below.refl w.heap.size w).alloc (Nat.le_refl _) (.cells #[] 3))
  have Hl:=Lib.hid hl
  have H1:=Lib.hid h1
  have Hn:Hid (0+n≤maxLen):=Lib.hid (by omega)
  have Hy:Hid ((0+n)*8≤140737488355328):=Lib.hid (by omega)
  clear hA h0 h1 hl hn hb
  go_enter Tryz.func250,Tryz.ntmps250
  go_wp2_with (at_builtin;refine wpList_app _ rfl (.tmp 5) (.tmp 6) _ rfl w.heap.size 3 _ 1 8 ty _ 0 [] rfl Hown.out (some ad) n c cs rfl Hl.out Hsl.out H1.out (by simp) Hn.out Hy.out Hb.out.size ?_;intro v2 w2 hown2 hg2 _;rw[List.nil_append,Nat.zero_add]at hown2;have Ho2:=Lib.hid hown2;have Hb2:=Lib.hid (own_below Hown.out hg2 Hb.out Hb.out.size);clear hown2 hg2)
  go_ret
  exact⟨_,rfl,Ho2.out,Hb2.out⟩
end Go.Proofs.YtabdianhoabhhaaGreatDoor.CloneI
namespace Go.Proofs.YtabdianhoabhhaaGreatDoor.Weigh
open Go Go.RowKit Go.Proofs.YtabdianhoabhhaaGreatDoor
set_option linter.unusedVariables false
def addTo (l1 l2:List Nat) (k:Nat):List Nat:=(List.zipWith (·+·) l1 l2).take k++l1.drop k
theorem addTo_get (l1 l2:List Nat) (k:Nat) (h1:k < l1.length) (h2:k < l2.length):(addTo l1 l2 k)[k]?=some l1[k]:=by
 unfold addTo
 have e:((List.zipWith (·+·) l1 l2).take k).length=k:=by rw[List.length_take,List.length_zipWith];omega
 rw[List.getElem?_append_right (by omega),e]
 simp[h1]
theorem addTo_next (l1 l2:List Nat) (k:Nat) (h1:k < l1.length) (h2:k < l2.length):addTo l1 l2 (k+1)=(addTo l1 l2 k).set k (l1[k]+l2[k]):=by
 unfold addTo
 rw[List.set_append_right _ _ (by simp;omega),List.drop_eq_getElem_cons h1]
 have e:k - ((List.zipWith (·+·) l1 l2).take k).length=0:=by simp;omega
 rw[e,List.set_cons_zero,take_snoc _ _ (by simp;omega)]
 simp
theorem addTo_zero (l1 l2:List Nat):addTo l1 l2 0=l1:=by simp[addTo]
theorem addTo_all (l1 l2:List Nat) (h:l1.length=l2.length):addTo l1 l2 l1.length=List.zipWith (·+·) l1 l2:=by
 unfold addTo
 rw[List.drop_length,List.append_nil,List.take_of_length_le (by rw[List.length_zipWith];omega)]
theorem nv_one (l:List Nat):∀ u∈l.map nv,u.oneCell'=true:=by
 intro u hu;obtain⟨x,_,rfl⟩:=List.mem_map.1 hu;rfl
set_option maxRecDepth 100000 in
set_option maxHeartbeats 1600000 in
theorem both_any (p q n ca cb:Nat) (A B:Option Addr) (l1 l2:List Nat) (w:World) (h1:l1.length=n) (h2:l2.length=n) (hn:1≤n) (hn2:n≤288) (hp:p≤1152921504606846976) (hq:q≤1152921504606846976) (hA:SlAt w A (l1.map nv)) (hB:SlAt w B (l2.map nv))
  (hb1:∀ x∈l1,x≤1152921504606846976) (hb2:∀ x∈l2,x≤1152921504606846976) :
  Calls Tryz.prog 229 #[.agg #[.int .i64 (p:Int),.slice A n ca],.agg #[.int .i64 (q:Int),.slice B n cb]] w fun e w'=>
   (∃ g cap,e=.returned (.agg #[.int .i64 ((p+q:Nat):Int),.slice (some ⟨g,0,none⟩) n cap])∧w'.ownsRow w.heap.size 3 1 (.slice (some ⟨g,0,none⟩) n cap) n ((List.zipWith (·+·) l1 l2).map nv))∧Below w.heap.size w w':=by
 have H1:=Lib.hid h1
 have H2:=Lib.hid h2
 have HA:=Lib.hid hA
 have HB:=Lib.hid hB
 have Hb1:=Lib.hid hb1
 have Hb2:=Lib.hid hb2
 obtain⟨bA,oA,hAe,_⟩:=HA.out (by simp;omega)
 subst hAe
 clear h1 h2 hA hB hb1 hb2
 have Hsz:Hid ((((w.alloc (.cells #[.int .i64 (p:Int),.slice (some ⟨bA,oA,none⟩) n ca] 292)).alloc (.cells #[.int .i64 (q:Int),.slice B n cb] 292)).alloc (.cells #[.int .i64 0,.slice none 0 0] 292)).heap.size=w.heap.size+3):=Lib.hid (by simp)
 have Hw3:=Lib.hid ((((Below.refl w.heap.size w).alloc (Nat.le_refl _) (.cells #[.int .i64 (p:Int),.slice (some ⟨bA,oA,none⟩) n ca] 292)).alloc (by simp) (.cells #[.int .i64 (q:Int),.slice B n cb] 292)).alloc (by simp;omega) (.cells #[.int .i64 0,.slice none 0 0] 292))
 have hz:=Blk.new ((w.alloc (.cells #[.int .i64 (p:Int),.slice (some ⟨bA,oA,none⟩) n ca] 292)).alloc (.cells #[.int .i64 (q:Int),.slice B n cb] 292)) 292 #[.int .i64 0,.slice none 0 0]
 have hy:=(Blk.new (w.alloc (.cells #[.int .i64 (p:Int),.slice (some ⟨bA,oA,none⟩) n ca] 292)) 292 #[.int .i64 (q:Int),.slice B n cb]).alloc (.cells #[.int .i64 0,.slice none 0 0] 292)
 have hx:=((Blk.new w 292 #[.int .i64 (p:Int),.slice (some ⟨bA,oA,none⟩) n ca]).alloc (.cells #[.int .i64 (q:Int),.slice B n cb] 292)).alloc (.cells #[.int .i64 0,.slice none 0 0] 292)
 have hs1:(w.alloc (.cells #[.int .i64 (p:Int),.slice (some ⟨bA,oA,none⟩) n ca] 292)).heap.size=w.heap.size+1:=by simp
 have hs2:((w.alloc (.cells #[.int .i64 (p:Int),.slice (some ⟨bA,oA,none⟩) n ca] 292)).alloc (.cells #[.int .i64 (q:Int),.slice B n cb] 292)).heap.size=w.heap.size+2:=by simp
 rw[hs2]at hz
 rw[hs1]at hy
 have Hx:=Lib.hid hx
 have Hy:=Lib.hid hy
 have Hz:=Lib.hid hz
 clear hx hy hz
 go_enter Tryz.func229,Tryz.ntmps229
 go_wp2_with fail
 clear hs1 hs2
 generalize ((w.alloc (.cells #[.int .i64 (p:Int),.slice (some ⟨bA,oA,none⟩) n ca] 292)).alloc (.cells #[.int .i64 (q:Int),.slice B n cb] 292)).alloc (.cells #[.int .i64 0,.slice none 0 0] 292)=w3 at *
 refine (CloneI.clone_any (some ⟨bA,oA,none⟩) n ca (l1.map nv) w3 (by rw[List.length_map,H1.out];omega) (HA.out.below Hw3.out) (by simp) (nv_one l1) (by unfold maxLen;omega) (by omega)).mono ?_
 rintro e w4 ⟨v,rfl,hown,hb4⟩
 obtain⟨g,cap,rfl,hg1,hg2⟩:=hown.form (by omega)
 have Hown:=Lib.hid hown
 have Hb4:=Lib.hid hb4
 have Hx4:=Lib.hid (Hx.out.below hb4 Hx.out.lt)
 have Hy4:=Lib.hid (Hy.out.below hb4 Hy.out.lt)
 have Hz4:=Lib.hid (Hz.out.below hb4 Hz.out.lt)
 have Hlx:=Lib.hid Hx.out.lt
 have Hly:=Lib.hid Hy.out.lt
 have Hlz:=Lib.hid Hz.out.lt
 clear hown hb4 Hx Hy Hz
 have Hg1:=Lib.hid hg1
 have hy1:=Hy4.out.c1
 clear hg1 hg2
 generalize hx0:w.heap.size=x0 at *
 have Hx0:=Lib.hid hx0
 clear hx0
 go_wp2_with fail
 clear hy1
 go_loopw [14] (fun i wr=>∃ k:Nat,k≤n∧i=.int .i64 (k:Int)∧wr.ownsRow w3.heap.size 3 1 (.slice (some ⟨g,0,none⟩) n cap) n ((addTo l1 l2 k).map nv)∧Below w3.heap.size w3 wr) (fun i _=>n - (intOf i).toNat)
 case atStart=>exact⟨0,Nat.zero_le _,rfl,by rw[addTo_zero];exact Hown.out,Hb4.out⟩
 case round=>
  obtain⟨k,hk,rfl,hown,hbr⟩:=hrel
  have Hbr:=Lib.hid hbr
  by_cases hlt:k < n
  ·have h1:k < l1.length:=by rw[H1.out];exact hlt
   have h2:k < l2.length:=by rw[H2.out];exact hlt
   obtain⟨b,o,rfl,hc⟩:=SlAt.get ((HB.out.below (Hx0.out.symm▸Hw3.out)).below hbr) (k:=k) (by rw[List.length_map];exact h2)
   have hget:=addTo_get l1 l2 k h1 h2
   have Hnext:=Lib.hid (addTo_next l1 l2 k h1 h2)
   have hcg:wr.cell? ⟨g,k,none⟩=some (.int .i64 (l1[k]:Int)):=by rw[hown.cellAt k (by omega),List.getElem?_map,hget];rfl
   have hfz:=hown.frozenAt k
   have Hst:=Lib.hid (fun u=>(hown.stored k u).1)
   have hcb:wr.cell? ⟨b,o+k,none⟩=some (.int .i64 (l2[k]:Int)):=by rw[hc];simp[nv]
   have hbd1:=Hb1.out _ (List.getElem_mem h1)
   have hbd2:=Hb2.out _ (List.getElem_mem h2)
   generalize l1[k]=c1 at *
   generalize l2[k]=c2 at *
   clear hown hbr hget hc
   go_wp2_with fail
   go_roundw
   case rel=>
    refine⟨k+1,by omega,by go_num,?_,Hbr.out.setCell (by exact Hg1.out) _⟩
    have:=Hst.out (.int .i64 ((c1:Int)+(c2:Int)))
    rw[Hnext.out,List.map_set]
    exact this
   case measure=>simp[intOf];omega
  ·obtain rfl:k=n:=by omega
   have Hall:=Lib.hid (addTo_all l1 l2 (by rw[H1.out,H2.out]))
   rw[H1.out]at Hall
   rw[Hall.out]at hown
   have Hown2:=Lib.hid hown
   have hx0:wr.cell? ⟨x0,0,none⟩=some (.int .i64 (p:Int)):=by rw[(show Blk wr x0 _ _ from (hbr.block x0 Hlx.out).trans ((Hb4.out.block x0 Hlx.out).symm.trans Hx4.out)).cell];rfl
   have hy0:wr.cell? ⟨x0+1,0,none⟩=some (.int .i64 (q:Int)):=by rw[(show Blk wr (x0+1) _ _ from (hbr.block (x0+1) Hly.out).trans ((Hb4.out.block (x0+1) Hly.out).symm.trans Hy4.out)).cell];rfl
   have hzb:Blk wr (x0+2) 292 #[.int .i64 0,.slice none 0 0]:=(hbr.block (x0+2) Hlz.out).trans ((Hb4.out.block (x0+2) Hlz.out).symm.trans Hz4.out)
   have hz0:=hzb.c0
   have hz1:=hzb.c1
   have fz0:=hzb.frozen 0
   have fz1:=hzb.frozen 1
   have Hzb:=Lib.hid hzb
   clear hown hbr hzb
   go_wp2_with fail
   have Hfin:=Lib.hid ((Hzb.out.s0 (.int .i64 ((p:Int)+(q:Int)))).s1 (.slice (some ⟨g,0,none⟩) k cap))
   refine bodyPost_ret (results_cell_row rfl _ _ (x0+2) 292 #[.int .i64 ((p:Int)+(q:Int)),.slice (some ⟨g,0,none⟩) k cap] (0,0) _ rfl Hfin.out Tryz.underlying292 rfl (by kernel_rfl)) rfl ?_
   have hgne:g≠x0+2:=by have:=Hg1.out;have:=Hlz.out;omega
   refine⟨⟨g,cap,by rw[Int.natCast_add],?_⟩,?_⟩
   ·have h1:=ownsRow_setCell_other (ownsRow_setCell_other Hown2.out (a:=⟨x0+2,0,none⟩) (by simp[Value.ownBlock];exact hgne) (.int .i64 ((p:Int)+(q:Int)))) (a:=⟨x0+2,1,none⟩) (by simp[Value.ownBlock];exact hgne) (.slice (some ⟨g,0,none⟩) k cap)
    exact own_base h1 (by rw[Hx0.out,Hsz.out];omega)
   ·rw[Hx0.out]
    exact ((Hw3.out.trans (Hbr.out.mono (by rw[Hsz.out];omega))).setCell (by show x0≤x0+2;omega) _).setCell (by show x0≤x0+2;omega) _
end Go.Proofs.YtabdianhoabhhaaGreatDoor.Weigh
namespace Go.Proofs.YtabdianhoabhhaaGreatDoor.CloneP
open Go Go.RowKit Go.Proofs.YtabdianhoabhhaaGreatDoor
set_option linter.unusedVariables false
theorem ty:SliceTy Tryz.prog 290 292 (.agg #[.int .i64 0,.slice none 0 0]) 2 32:=⟨Tryz.underlying290,by kernel_rfl,rfl,by omega⟩
set_option maxRecDepth 100000 in
set_option maxHeartbeats 400000 in
theorem clone_any (A:Option Addr) (n c:Nat) (cs:List Value) (w:World) (hl:cs.length=n*2) (hA:SlAt w A cs) (h0:A=none→n=0) (h1:∀ u∈cs,u.oneCell'=true) (hn:n≤maxLen) (hb:n*32≤140737488355328) :
  Calls Tryz.prog 228 #[.slice A n c] w fun e w'=>∃ v,e=.returned v∧w'.ownsRow w.heap.size 292 2 v n cs∧Below w.heap.size w w':=by
 have hq:=fun (w:World) (a:Option Addr) (l c:Nat)=>Lib.run_eql_slice_nil (P:=Tryz.prog) w 290 292 a l c 0 0 Tryz.underlying290
 rcases A with _ | ad
 ·obtain rfl:=h0 rfl
  have hcs:cs=[]:=List.eq_nil_of_length_eq_zero (by omega)
  subst hcs
  clear hA h0 h1 hl hn hb
  go_enter Tryz.func228,Tryz.ntmps228
  go_wp2_with fail
  go_ret
  exact⟨_,rfl,World.ownsRow_nil _ _ _ _,Below.refl _ _⟩
 ·have Hown:Hid ((w.alloc (.cells #[] 292)).ownsRow w.heap.size 292 2 (.slice (some ⟨w.heap.size,0,none⟩) 0 0) 0 []):=Lib.hid (own_zero _ _ _ _ w.heap.size 0 #[] (Nat.le_refl _) (heap_alloc_new w _) (by unfold maxLen;omega) (by simp))
  have Hsl:=Lib.hid (hA.alloc (.cells #[] 292))
  have Hb:=Lib.hid ((Below.refl w.heap.size w).alloc (Nat.le_refl _) (.cells #[] 292))
  have Hl:=Lib.hid hl
  have H1:=Lib.hid h1
  have Hn:Hid (0+n≤maxLen):=Lib.hid (by omega)
  have Hy:Hid ((0+n)*32≤140737488355328):=Lib.hid (by omega)
  clear hA h0 h1 hl hn hb
  go_enter Tryz.func228,Tryz.ntmps228
  go_wp2_with (at_builtin;refine wpList_app _ rfl (.tmp 5) (.tmp 6) _ rfl w.heap.size 292 _ 2 32 ty _ 0 [] rfl Hown.out (some ad) n c cs rfl Hl.out Hsl.out H1.out (by simp) Hn.out Hy.out Hb.out.size ?_;intro v2 w2 hown2 hg2 _;rw[List.nil_append,Nat.zero_add]at hown2;have Ho2:=Lib.hid hown2;have Hb2:=Lib.hid (own_below Hown.out hg2 Hb.out Hb.out.size);clear hown2 hg2)
  go_ret
  exact⟨_,rfl,Ho2.out,Hb2.out⟩
end Go.Proofs.YtabdianhoabhhaaGreatDoor.CloneP
namespace Go.Proofs.YtabdianhoabhhaaGreatDoor.ConcatP
open Go Go.RowKit Go.Proofs.YtabdianhoabhhaaGreatDoor
set_option linter.unusedVariables false
theorem ty:SliceTy Tryz.prog 290 292 (.agg #[.int .i64 0,.slice none 0 0]) 2 32:=⟨Tryz.underlying290,by kernel_rfl,rfl,by omega⟩
theorem zeroCells_size (z:Array Value) (n:Nat):(Builtin.zeroCells z n).size=n*z.size:=by simp[Builtin.zeroCells]
set_option maxHeartbeats 400000 in
theorem grow_any (n:Nat) (w:World) (hn:n*32≤140737488355328) :
  Calls Tryz.prog 251 #[.slice none 0 0,.int .i64 (n:Int)] w fun e w'=>∃ v,e=.returned v∧w'.ownsRow w.heap.size 292 2 v 0 []∧Below w.heap.size w w':=by
 by_cases h0:n=0
 ·subst h0
  go_enter Tryz.func251,Tryz.ntmps251
  go_wp2_with fail
  go_ret
  exact⟨_,rfl,World.ownsRow_nil _ _ _ _,Below.refl _ _⟩
 ·obtain⟨ht,i,hi,hz,hsize,hby,hzs,hsz⟩:=ty.parts
  have hpos:0 < n:=by omega
  have h1:¬ ((n:Int) < 0):=by omega
  have hp:(0:Int) < (n:Int):=by omega
  have hb63:(n:Int)≤140737488355328:=by omega
  have hrun:=Lib.run_append_nil_zeros (P:=Tryz.prog) w 290 3 290 292 i (.agg #[.int .i64 0,.slice none 0 0]) .i64 .i64 ht Tryz.underlying3 hi hz n hpos (by omega) (by omega) (by rw[hby];omega)
  have hcap:=grownCap_ge w n 0 292
  have hcm:=grownCap_le_maxLen w n 0 292 (by unfold maxLen;omega)
  have hsz2:(Builtin.zeroCells (Value.cells (.agg #[.int .i64 0,.slice none 0 0])) n++Builtin.zeroCells (Value.cells (.agg #[.int .i64 0,.slice none 0 0])) (grownCap w n 0 292 - n)).size=grownCap w n 0 292*2:=by
   rw[Array.size_append,zeroCells_size,zeroCells_size,hzs,←Nat.add_mul,Nat.add_sub_cancel' hcap]
  have hblk:(w.drew.alloc (.cells (Builtin.zeroCells (Value.cells (.agg #[.int .i64 0,.slice none 0 0])) n++Builtin.zeroCells (Value.cells (.agg #[.int .i64 0,.slice none 0 0])) (grownCap w n 0 292 - n)) 292)).heap[w.heap.size]?=some (.cells (Builtin.zeroCells (Value.cells (.agg #[.int .i64 0,.slice none 0 0])) n++Builtin.zeroCells (Value.cells (.agg #[.int .i64 0,.slice none 0 0])) (grownCap w n 0 292 - n)) 292 (0,0)):=heap_alloc_new w.drew _
  have hbel:Below w.heap.size w (w.drew.alloc (.cells (Builtin.zeroCells (Value.cells (.agg #[.int .i64 0,.slice none 0 0])) n++Builtin.zeroCells (Value.cells (.agg #[.int .i64 0,.slice none 0 0])) (grownCap w n 0 292 - n)) 292)):=((Below.refl _ _).drew).alloc (Nat.le_refl _) _
  generalize (w.drew.alloc (.cells (Builtin.zeroCells (Value.cells (.agg #[.int .i64 0,.slice none 0 0])) n++Builtin.zeroCells (Value.cells (.agg #[.int .i64 0,.slice none 0 0])) (grownCap w n 0 292 - n)) 292))=W at *
  generalize (Builtin.zeroCells (Value.cells (.agg #[.int .i64 0,.slice none 0 0])) n++Builtin.zeroCells (Value.cells (.agg #[.int .i64 0,.slice none 0 0])) (grownCap w n 0 292 - n))=cs at *
  generalize grownCap w n 0 292=cap at *
  have Hrun:=Lib.hid hrun
  have Hsz:=Lib.hid hsz2
  have Hblk:=Lib.hid hblk
  have Hbel:=Lib.hid hbel
  have hcm2:cap≤9223372036854775807:=by unfold maxLen at hcm;omega
  have Hcm:=Lib.hid hcm
  clear hrun hsz2 hblk hbel hi hz hsize hby hzs hsz ht hcm
  go_enter Tryz.func251,Tryz.ntmps251
  go_wp2_with (at_builtin;refine Lib.wpList_append_run _ rfl (.tmp 20) (.tmp 21) _ _ rfl _ _ rfl rfl _ _ Hrun.out ?_)
  go_ret
  exact⟨_,rfl,own_zero _ _ _ _ w.heap.size cap cs (Nat.le_refl _) Hblk.out Hcm.out Hsz.out,Hbel.out⟩
def total (rows:List (Value×Nat×List Value)):Nat:=(rows.map (·.2.1)).sum
def cellsOf (rows:List (Value×Nat×List Value)):List Value:=(rows.map (·.2.2)).flatten
theorem total_snoc (rows:List (Value×Nat×List Value)) (k:Nat) (h:k < rows.length):total (rows.take (k+1))=total (rows.take k)+rows[k].2.1:=by
 unfold total;rw[take_snoc _ _ h]
 simp only[List.map_append,List.map_cons,List.map_nil,List.sum_append,List.sum_cons,List.sum_nil,Nat.add_zero]
theorem cellsOf_snoc (rows:List (Value×Nat×List Value)) (k:Nat) (h:k < rows.length):cellsOf (rows.take (k+1))=cellsOf (rows.take k)++rows[k].2.2:=by
 unfold cellsOf;rw[take_snoc _ _ h]
 simp only[List.map_append,List.map_cons,List.map_nil,List.flatten_append,List.flatten_cons,List.flatten_nil,List.append_nil]
theorem sum_take_le (l:List Nat) (k:Nat):(l.take k).sum≤l.sum:=by
 induction l generalizing k with
 | nil=>simp
 | cons a l ih=>cases k with
  | zero=>simp
  | succ k=>simp only[List.take_succ_cons,List.sum_cons];have:=ih k;omega
theorem total_le (rows:List (Value×Nat×List Value)) (k:Nat):total (rows.take k)≤total rows:=by
 unfold total;rw[List.map_take];exact sum_take_le _ _
set_option maxHeartbeats 800000 in
theorem concat_any (A:Option Addr) (m c:Nat) (rows:List (Value×Nat×List Value)) (w:World) (hm:rows.length=m) (hml:m≤4611686018427387904) (ha:SlAt w A (rows.map (·.1)))
  (hrows:∀ r∈rows,IsSl w 2 r.1 r.2.1 r.2.2) (h1:∀ r∈rows,∀ u∈r.2.2,u.oneCell'=true) (ht:total rows*32≤140737488355328) :
  Calls Tryz.prog 230 #[.slice A m c] w fun e w'=>∃ v,e=.returned v∧w'.ownsRow w.heap.size 292 2 v (total rows) (cellsOf rows)∧Below w.heap.size w w':=by
 have Hm:=Lib.hid hm
 have Ha:=Lib.hid ha
 have Hrows:=Lib.hid hrows
 have H1:=Lib.hid h1
 have Ht:=Lib.hid ht
 clear hm ha hrows h1 ht
 go_enter Tryz.func230,Tryz.ntmps230
 go_wp2_with fail
 go_loop [3,11] (fun s i=>∃ k:Nat,k≤m∧i=.int .i64 k∧s=.int .i64 (total (rows.take k):Nat)) (fun _ i=>m - (intOf i).toNat)
 case atStart=>exact⟨0,Nat.zero_le _,rfl,rfl⟩
 case round=>
  obtain⟨k,hk,rfl,rfl⟩:=hrel
  by_cases hlt:k < m
  ·have hkr:k < rows.length:=by rw[Hm.out];exact hlt
   obtain⟨b,o,rfl,hcell⟩:=Ha.out.get (k:=k) (by simpa using hkr)
   obtain⟨B,cb,hv,hl1,hl2,hl3,hB,hB0⟩:=Hrows.out rows[k] (List.getElem_mem hkr)
   simp only[List.getElem_map]at hcell
   rw[hv]at hcell
   have Hs:=Lib.hid (total_snoc rows k hkr)
   have htl:=total_le rows (k+1)
   rw[Hs.out]at htl
   have hb1:total (rows.take k)+rows[k].2.1≤140737488355328:=by have:=Ht.out;omega
   have hnn:0≤((total (rows.take k):Nat):Int)+((rows[k].2.1:Nat):Int):=by omega
   clear htl hB hB0 hl3 hv
   generalize total (rows.take k)=s0 at *
   generalize rows[k].2.1=n0 at *
   go_wp2_with fail
   go_round
   case rel=>exact⟨k+1,by omega,by go_num,by rw[Hs.out];go_num⟩
   case measure=>simp[intOf];omega
  ·have hk2:k=m:=by omega
   have Hall:Hid (rows.take k=rows):=Lib.hid (List.take_of_length_le (by rw[Hm.out];omega))
   rw[Hall.out]
   have htt:total rows≤140737488355328:=by have:=Ht.out;omega
   obtain⟨T,hT⟩:∃ T,T=total rows:=⟨_,rfl⟩
   rw[←hT]at htt⊢
   have HT:=Lib.hid hT
   clear hT Hall hk2
   go_wp2_with fail
   refine (grow_any T _ (by rw[HT.out];exact Ht.out)).mono ?_
   rintro e w1 ⟨v1,rfl,hown1,hb1⟩
   have Ho:=Lib.hid hown1
   have Hb:=Lib.hid hb1
   clear hown1 hb1
   go_wp2_with fail
   go_loopw [6,27] (fun s i wr=>∃ k:Nat,k≤m∧i=.int .i64 k∧wr.ownsRow w.heap.size 292 2 s (total (rows.take k)) (cellsOf (rows.take k))∧Below w.heap.size w wr) (fun _ i _=>m - (intOf i).toNat)
   case atStart=>exact⟨0,Nat.zero_le _,rfl,Ho.out,Hb.out⟩
   case round=>
    obtain⟨k,hk,rfl,hown,hbr⟩:=hrel
    rename_i v3 _ _ _ _ _ _ _ _ _
    have How:=Lib.hid hown
    have Hbr:=Lib.hid hbr
    by_cases hlt:k < m
    ·have hkr:k < rows.length:=by rw[Hm.out];exact hlt
     obtain⟨b,o,rfl,hcell⟩:=(Ha.out.below hbr).get (k:=k) (by simpa using hkr)
     obtain⟨B,cb,hv,hl1,hl2,hl3,hB,hB0⟩:=(Hrows.out rows[k] (List.getElem_mem hkr)).below hbr
     simp only[List.getElem_map]at hcell
     rw[hv]at hcell
     have Hs:=Lib.hid (total_snoc rows k hkr)
     have Hcs:=Lib.hid (cellsOf_snoc rows k hkr)
     have htl:=total_le rows (k+1)
     rw[Hs.out]at htl
     have hb1:total (rows.take k)+rows[k].2.1≤maxLen∧(total (rows.take k)+rows[k].2.1)*32≤140737488355328:=by
      have:=Ht.out;unfold maxLen;omega
     have HB:=Lib.hid hB
     have HB0:=Lib.hid hB0
     have Hl3:=Lib.hid hl3
     have Hone:=Lib.hid (H1.out rows[k] (List.getElem_mem hkr))
     have Hb1:=Lib.hid hb1
     clear htl hv hB hB0 hl3 hb1 hown hbr
     go_wp2_with (at_builtin;refine wpList_appb rfl (.tmp 31) (.tmp 32) _ rfl 292 _ 2 32 ty _ _ _ rfl How.out Hbr.out B _ cb _ rfl Hl3.out HB.out Hone.out HB0.out Hb1.out.1 Hb1.out.2 ?_;intro v4 w4 hown4 hb4 _ _;have How4:=Lib.hid hown4;have Hb4:=Lib.hid hb4;clear hown4 hb4)
     go_roundw
     case rel=>exact⟨k+1,by omega,by go_num,by rw[Hs.out,Hcs.out];exact How4.out,Hb4.out⟩
     case measure=>simp[intOf];omega
    ·have Hall:Hid (rows.take k=rows):=Lib.hid (List.take_of_length_le (by rw[Hm.out];omega))
     go_wp2_with fail
     go_ret
     exact⟨_,rfl,by have:=How.out;rw[Hall.out]at this;exact this,Hbr.out⟩
end Go.Proofs.YtabdianhoabhhaaGreatDoor.ConcatP
namespace Go.Proofs.YtabdianhoabhhaaGreatDoor.Weigh
open Go Go.RowKit Go.Proofs.YtabdianhoabhhaaGreatDoor Go.Proofs.YtabdianhoabhhaaGreatDoor.SP
set_option linter.unusedVariables false
def f2 (e:El):Pk:=(e.1,e.2.2)
def ManyAt (w:World) (base m:Nat) (e:El):Prop:=∃ g cap,e.2.1=(some ⟨g,0,none⟩,m,cap)∧w.ownsRow base 3 1 (.slice (some ⟨g,0,none⟩) m cap) m (e.2.2.map nv)
theorem ManyAt.below {w w':World} {base m:Nat} {e:El} (h:ManyAt w base m e) (hb:Below w.heap.size w w'):ManyAt w' base m e:=by
 obtain⟨g,cap,h1,h2⟩:=h
 exact⟨g,cap,h1,own_keep h2 hb⟩
theorem ManyAt.base {w:World} {base base' m:Nat} {e:El} (h:ManyAt w base m e) (hb:base'≤base):ManyAt w base' m e:=by
 obtain⟨g,cap,h1,h2⟩:=h
 exact⟨g,cap,h1,own_base h2 hb⟩
theorem own_grown {w w':World} {base size n g:Nat} {el t:TypeId} {v:Value} {xs:List Value} {cs:Array Value} (h:w.ownsRow base el size v n xs) (hg:w.grownBy w' (some g)) (hb:Blk w g t cs) (hne:el≠t):w'.ownsRow base el size v n xs:=by
 refine⟨h.1,?_⟩
 have h0:=own_ne h hb hne
 rcases h.2 with h1 | ⟨g',cap,cur,rfl,hbg,hgb,r⟩
 ·exact .inl h1
 ·refine .inr ⟨g',cap,cur,rfl,hbg,?_,r⟩
  have hne2:g'≠g:=by simpa [Value.ownBlock] using h0
  rw[hg.block g' (lt_of_block hgb) (by intro e;injection e with e;exact hne2 e)];exact hgb
theorem own_grownV {w w':World} {b1 b2 s1 s2 n1 n2:Nat} {el t:TypeId} {v1 v2:Value} {x1 x2:List Value} (h:w.ownsRow b1 el s1 v1 n1 x1) (ho:w.ownsRow b2 t s2 v2 n2 x2) (hg:w.grownBy w' v2.ownBlock) (hne:el≠t):w'.ownsRow b1 el s1 v1 n1 x1:=by
 rcases ho.2 with ⟨rfl,_⟩ | ⟨g,cap,cur,rfl,_,hgb,_⟩
 ·refine⟨h.1,?_⟩
  rcases h.2 with h1 | ⟨g',cap,cur,rfl,hbg,hgb,r⟩
  ·exact .inl h1
  ·refine .inr ⟨g',cap,cur,rfl,hbg,?_,r⟩
   rw[hg.block g' (lt_of_block hgb) (by simp[Value.ownBlock])];exact hgb
 ·exact own_grown h hg hgb hne
theorem ManyAt.grownV {w w':World} {base m b2 s2 n2:Nat} {e:El} {v2:Value} {x2:List Value} (h:ManyAt w base m e) (ho:w.ownsRow b2 292 s2 v2 n2 x2) (hg:w.grownBy w' v2.ownBlock):ManyAt w' base m e:=by
 obtain⟨g',cap,h1,h2⟩:=h
 exact⟨g',cap,h1,own_grownV h2 ho hg (by decide)⟩
theorem ManyAt.grown {w w':World} {base m g:Nat} {e:El} {cs:Array Value} (h:ManyAt w base m e) (hg:w.grownBy w' (some g)) (hb:Blk w g 292 cs):ManyAt w' base m e:=by
 obtain⟨g',cap,h1,h2⟩:=h
 exact⟨g',cap,h1,own_grown h2 hg hb (by decide)⟩
theorem ManyAt.set_ {w:World} {base m:Nat} {e:El} (h:ManyAt w base m e) (p:Addr) (hp:p.block < base) (u:Value):ManyAt (w.setCell p u) base m e:=by
 obtain⟨g,cap,h1,h2⟩:=h
 refine⟨g,cap,h1,ownsRow_setCell_other h2 ?_ u⟩
 have:=(h2.lt g rfl).1
 simp[Value.ownBlock];omega
theorem ManyAt.len {w:World} {base m:Nat} {e:El} (h:ManyAt w base m e):e.2.2.length=m:=by
 obtain⟨g,cap,h1,h2⟩:=h
 have:=h2.1;simpa using this
theorem ManyAt.val {w:World} {base m:Nat} {e:El} (h:ManyAt w base m e):∃ g cap,slv e.2.1=.slice (some ⟨g,0,none⟩) m cap∧SlAt w (some ⟨g,0,none⟩) (e.2.2.map nv):=by
 obtain⟨g,cap,h1,h2⟩:=h
 obtain⟨A,c,h3,_,_,h4,_⟩:=own_slat h2
 injection h3 with h3
 subst h3
 exact⟨g,cap,by rw[h1];rfl,h4⟩
theorem cellsP_len (es:List El):(es.flatMap cellsP).length=es.length*2:=by
 induction es with
 | nil=>rfl
 | cons a d ih=>rw[List.flatMap_cons,List.length_append,ih];simp[cellsP];omega
theorem cellsP_one (es:List El):∀ u∈es.flatMap cellsP,u.oneCell'=true:=by
 intro u hu
 obtain⟨e,_,he⟩:=List.mem_flatMap.1 hu
 simp[cellsP]at he
 rcases he with rfl | rfl <;> rfl
theorem own_row {w:World} {base g n cap:Nat} {es:List El} (h:w.ownsRow base 292 2 (.slice (some ⟨g,0,none⟩) n cap) n (es.flatMap cellsP)) :
  ∃ rest,RowPk w g rest es∧es.length=n∧n*2+rest.length=cap*2∧base≤g∧n≤cap∧cap≤maxLen:=by
 have hl:=h.1
 rw[cellsP_len]at hl
 rcases h.2 with ⟨h1,_⟩ | ⟨g',cap',cur,hv,hbg,hgb,hnc,hcm,hcs,htk⟩
 ·cases h1
 ·injection hv with h1 h2 h3
  injection h1 with h1
  injection h1 with h1
  subst h1 h3
  refine⟨cur.toList.drop (n*2),?_,by omega,?_,hbg,hnc,hcm⟩
  ·unfold RowPk
   rw[←htk,List.take_append_drop]
   exact hgb
  ·rw[List.length_drop,Array.length_toList,hcs];omega
theorem row_own {w:World} {base g n cap:Nat} {rest:List Value} {es:List El} (h:RowPk w g rest es) (hl:es.length=n) (hr:n*2+rest.length=cap*2) (hb:base≤g) (hn:n≤cap) (hc:cap≤maxLen) :
  w.ownsRow base 292 2 (.slice (some ⟨g,0,none⟩) n cap) n (es.flatMap cellsP):=by
 refine⟨by rw[cellsP_len,hl],.inr ⟨g,cap,_,rfl,hb,h,hn,hc,?_,?_⟩⟩
 ·rw[List.size_toArray,List.length_append,cellsP_len,hl,hr]
 ·rw[List.toList_toArray,List.take_append_of_le_length (by rw[cellsP_len,hl];exact Nat.le_refl _),List.take_of_length_le (by rw[cellsP_len,hl];exact Nat.le_refl _)]
set_option maxHeartbeats 800000 in
theorem rising_any (base g n cap:Nat) (es:List El) (w:World) (h:w.ownsRow base 292 2 (.slice (some ⟨g,0,none⟩) n cap) n (es.flatMap cellsP)) (hN:n≤1000000) (hk:∀ e∈es,e.1≤1152921504606846976) :
  Calls Tryz.prog 225 #[.slice (some ⟨g,0,none⟩) n cap] w fun e w'=>e=.returned (.slice (some ⟨g,0,none⟩) n cap)∧w'.ownsRow base 292 2 (.slice (some ⟨g,0,none⟩) n cap) n ((stab ekey es).flatMap cellsP)∧w.grownBy w' (some g):=by
 obtain⟨rest,h1,h2,h3,h4,h5,h6⟩:=own_row h
 have Hc:=Lib.hid (sortStable_any g n cap rest es w h1 h2 hN hk)
 have Hx:=Lib.hid (And.intro h2 (And.intro h3 (And.intro h4 (And.intro h5 h6))))
 clear h h1 h2 h3 h4 h5 h6 hk
 unfold cmpV at Hc
 go_enter Tryz.func225,Tryz.ntmps225
 go_wp2_with fail
 refine (Hc.out).mono ?_
 rintro e w2 ⟨rfl,hp,hg⟩
 have Hp:=Lib.hid hp
 have Hg:=Lib.hid hg
 clear hp hg
 go_wp2_with fail
 go_ret
 exact⟨rfl,row_own Hp.out (by rw[stab_length];exact Hx.out.1) Hx.out.2.1 Hx.out.2.2.1 Hx.out.2.2.2.1 Hx.out.2.2.2.2,Hg.out⟩
def onesK (ls:List Nat) (k:Nat):List Pk:=(((List.range k).filter fun i=>decide (0 < ls.getD i 0)).map fun i=>(ls.getD i 0,unit ls.length i))
theorem onesK_all (ls:List Nat):onesK ls ls.length=ones ls:=rfl
theorem onesK_next (ls:List Nat) (k:Nat):onesK ls (k+1)=onesK ls k++if 0 < ls.getD k 0 then [(ls.getD k 0,unit ls.length k)] else []:=by
 unfold onesK
 rw[List.range_succ,List.filter_append,List.map_append]
 congr 1
 by_cases h:0 < ls.getD k 0
 ·rw[if_pos h,List.filter_cons_of_pos (by simpa using h)];rfl
 ·rw[if_neg h,List.filter_cons_of_neg (by simpa using h)];rfl
theorem unit_set (n i:Nat):(List.replicate n 0).set i 1=unit n i:=by
 apply List.ext_getElem
 ·simp[unit]
 ·intro j h1 h2
  simp[unit,List.getElem_set]
  by_cases hx:i=j
  ·simp[hx]
  ·rw[if_neg hx,if_neg (fun e=>hx e.symm)]
end Go.Proofs.YtabdianhoabhhaaGreatDoor.Weigh
namespace Go.Proofs.YtabdianhoabhhaaGreatDoor.Zip
open Go Go.RowKit Go.Proofs.YtabdianhoabhhaaGreatDoor Go.Proofs.YtabdianhoabhhaaGreatDoor.Bits Go.Proofs.YtabdianhoabhhaaGreatDoor.Merge Go.Proofs.YtabdianhoabhhaaGreatDoor.Name
open Go.Proofs.YtabdianhoabhhaaGreatDoor.Inf (OldK)
set_option linter.unusedVariables false
set_option linter.unusedSimpArgs false
theorem _root_.Go.Proofs.YtabdianhoabhhaaGreatDoor.Inf.OldK.less {base B0 B1:Nat} {T:List TypeId} {w w':World} (h:OldK base B0 T w w') (hb:B1≤B0):OldK base B1 T w w':=
 ⟨h.os,h.tape,h.output,h.size,h.block,fun k o hk=>h.other k o (by omega)⟩
theorem _root_.Go.Proofs.YtabdianhoabhhaaGreatDoor.Inf.OldK.toBelow {base B0:Nat} {T:List TypeId} {w w':World} (h:OldK base B0 T w w'):Below base w w':=⟨h.os,h.tape,h.output,h.size,h.block⟩
def entT:List TypeId:=[78]
def EntP (B:Nat) (w:World) (x:Ex):Prop:=∀ w',OldK B w.heap.size entT w w'→EntAt w' x
theorem EntP.at_ {B:Nat} {w:World} {x:Ex} (h:EntP B w x):EntAt w x:=h w (OldK.refl _ _ _ _)
theorem EntP.old {B:Nat} {w w1:World} {x:Ex} (h:EntP B w x) (hk:OldK B w.heap.size entT w w1):EntP B w1 x:=fun w2 h2=>h w2 (hk.trans (h2.less hk.size))
def setAt (x:Ex) (n:Nat):Ex:=⟨x.e,x.bs,x.pk,n⟩
theorem EntAt.set_ {w:World} {x:Ex} (h:EntAt w x) (n:Nat):EntAt w (setAt x n):=⟨h.blen,h.broom,h.bcap,h.bat,h.plen,h.proom,h.pcap,h.pat⟩
def esOf (l:List Ex):List Ent:=l.map Ex.e
def atsL:List Ex→Nat→List Ex
 | [],_=>[]
 | x :: l,n=>setAt x n :: atsL l (n+(hereB x.e).length)
theorem ats_len:∀ (l:List Ex) (n:Nat),(atsL l n).length=l.length
 | [],_=>rfl
 | x :: l,n=>by unfold atsL;rw[List.length_cons,ats_len l,List.length_cons]
theorem ats_snoc:∀ (l:List Ex) (x:Ex) (n:Nat),atsL (l++[x]) n=atsL l n++[setAt x (n+(heres (esOf l)).length)]
 | [],x,n=>by simp[atsL,esOf,heres]
 | y :: l,x,n=>by
  rw[List.cons_append,atsL,ats_snoc l x,atsL,List.cons_append]
  simp only[esOf,List.map_cons,heres,List.flatMap_cons,List.length_append,Nat.add_assoc]
theorem ats_e (l:List Ex) (n:Nat):esOf (atsL l n)=esOf l:=by
 induction l generalizing n with
 | nil=>rfl
 | cons x l ih=>
  have h:=ih (n+(hereB x.e).length)
  unfold esOf at h⊢
  rw[atsL,List.map_cons,h];rfl
def stepL (l:List Ex) (k:Nat):List Ex:=atsL (l.take k) 0++l.drop k
theorem step_len (l:List Ex) (k:Nat) (h:k≤l.length):(stepL l k).length=l.length:=by
 unfold stepL;rw[List.length_append,ats_len,List.length_take,List.length_drop];omega
theorem step_get (l:List Ex) (k:Nat) (h:k < l.length):(stepL l k)[k]?=some l[k]:=by
 unfold stepL
 rw[List.getElem?_append_right (by rw[ats_len,List.length_take];omega),ats_len,List.length_take,List.getElem?_drop,show k+(k - min k l.length)=k by omega,List.getElem?_eq_getElem h]
theorem step_next (l:List Ex) (k:Nat) (h:k < l.length):stepL l (k+1)=(stepL l k).set k (setAt l[k] (heres (esOf (l.take k))).length):=by
 unfold stepL
 rw[List.take_succ_eq_append_getElem h,ats_snoc,List.set_append_right _ _ (by rw[ats_len,List.length_take];omega),ats_len,List.length_take,show k - min k l.length=0 by omega,List.drop_eq_getElem_cons h,List.set_cons_zero,List.append_assoc,Nat.zero_add]
 rfl
theorem flat_set8:∀ (L:List Ex) (k n:Nat) (h:k < L.length),(L.flatMap eC).set (k*9+8) (.int .i64 (n:Int))=(L.set k (setAt (L[k]'h) n)).flatMap eC
 | [],k,n,h=>by simp at h
 | x :: L,0,n,h=>rfl
 | x :: L,k+1,n,h=>by
  have ih:=flat_set8 L k n (by simpa using h)
  rw[List.flatMap_cons,List.set_append_right _ _ (by rw[eC_len];omega),eC_len,show (k+1)*9+8 - 9=k*9+8 by omega,ih]
  rfl
theorem row_cells {w:World} {g:Nat} {L:List Ex} (h:SlAt w (some ⟨g,0,none⟩) (L.flatMap eC)) {k:Nat} {x:Ex} (hk:L[k]?=some x) :
  w.cell? ⟨g,k*9,none⟩=some (.string (strB x.e.f.name))∧w.cell? ⟨g,k*9+1,none⟩=some (slv x.bs)∧w.cell? ⟨g,k*9+2,none⟩=some (.int .i64 x.e.f.stamp)∧w.cell? ⟨g,k*9+3,none⟩=some (.int .i64 x.e.f.node)∧w.cell? ⟨g,k*9+4,none⟩=some (.bool x.e.f.gone)∧
  w.cell? ⟨g,k*9+5,none⟩=some (.int .i64 (x.e.method:Int))∧w.cell? ⟨g,k*9+6,none⟩=some (slv x.pk)∧w.cell? ⟨g,k*9+7,none⟩=some (.int .u32 (x.e.crc:Int))∧w.cell? ⟨g,k*9+8,none⟩=some (.int .i64 (x.at_:Int)):=by
 have hl:k < L.length:=by
  rcases Nat.lt_or_ge k L.length with h1 | h1
  ·exact h1
  ·rw[List.getElem?_eq_none h1]at hk;cases hk
 rw[List.getElem?_eq_getElem hl]at hk
 injection hk with hk
 obtain⟨b,o,e,hc⟩:=slat_elem (size:=9) eC_len (by omega) h hl
 injection e with e
 injection e with e1 e2 e3
 subst e1 e2
 rw[hk]at hc
 simp only[Nat.zero_add]at hc
 exact⟨hc 0 _ rfl,hc 1 _ rfl,hc 2 _ rfl,hc 3 _ rfl,hc 4 _ rfl,hc 5 _ rfl,hc 6 _ rfl,hc 7 _ rfl,hc 8 _ rfl⟩
structure TwoB (w:World) (B:Nat) (v1:Value) (xs:List UInt8) (v2:Value) (ys:List UInt8):Prop where
 one:OwnB w B v1 xs
 two:OwnB w B v2 ys
 apart:∀ g,v1.ownBlock=some g→v2.ownBlock≠some g
theorem TwoB.keep {w w':World} {B:Nat} {v1 v2:Value} {xs ys:List UInt8} (h:TwoB w B v1 xs v2 ys) (hb:Below w.heap.size w w'):TwoB w' B v1 xs v2 ys:=⟨h.one.keep hb,h.two.keep hb,h.apart⟩
theorem TwoB.symm {w:World} {B:Nat} {v1 v2:Value} {xs ys:List UInt8} (h:TwoB w B v1 xs v2 ys):TwoB w B v2 ys v1 xs:=⟨h.two,h.one,fun g h1 h2=>h.apart g h2 h1⟩
theorem TwoB.grown {w w':World} {B:Nat} {v1 v2 v':Value} {xs ys zs:List UInt8} (h:TwoB w B v1 xs v2 ys) (ho:OwnB w' B v' zs) (hg:w.grownBy w' v1.ownBlock) (hl:v'.ownBlock=v1.ownBlock∨v'.ownBlock=some w.heap.size):TwoB w' B v' zs v2 ys:=by
 refine⟨ho,own_far h.two hg h.apart,fun g h1 h2=>?_⟩
 rcases hl with e | e
 ·exact h.apart g (by rw[←e];exact h1) h2
 ·rw[e]at h1
  injection h1 with h1
  have:=(h.two.lt _ h2).2
  omega
theorem TwoB.store {w:World} {B B2:Nat} {v1 v2:Value} {xs ys:List UInt8} (h:TwoB w B v1 xs v2 ys) {g m c n:Nat} {cs:List Value} (hown:w.ownsRow B2 78 9 (.slice (some ⟨g,0,none⟩) m c) n cs) (i:Nat) (u:Value):TwoB (w.setCell ⟨g,i,none⟩ u) B v1 xs v2 ys:=by
 have hk:Keeps B2 entT w (w.setCell ⟨g,i,none⟩ u):=(Keeps.refl _ _ _).stored hown (by simp[entT]) i u
 exact⟨hk.own h.one (by decide),hk.own h.two (by decide),h.apart⟩
theorem heres_take (l:List Ex) (k:Nat):(heres (esOf (l.take k))).length+(theres (esOf (l.take k)) 0).length+22≤(laidB (esOf l)).length:=by
 have e:laidB (esOf (l.take k))=heres (esOf (l.take k))++theres (esOf (l.take k)) 0++endB (esOf (l.take k)):=rfl
 have h1:(laidB (esOf (l.take k))).length=(heres (esOf (l.take k))).length+(theres (esOf (l.take k)) 0).length+22:=by rw[e,List.length_append,List.length_append,end_len]
 rw[←h1,laid_len,laid_len]
 have h2:((esOf l).map sizeE).sum=((esOf (l.take k)).map sizeE).sum+((esOf (l.drop k)).map sizeE).sum:=by
  conv=>lhs;rw[←List.take_append_drop k l]
  unfold esOf
  rw[List.map_append,List.map_append,List.sum_append]
 omega
theorem esOf_next (l:List Ex) (k:Nat) (x:Ex) (h:l[k]?=some x):heres (esOf (l.take (k+1)))=heres (esOf (l.take k))++hereB x.e∧theres (esOf (l.take (k+1))) 0=theres (esOf (l.take k)) 0++thereB x.e (heres (esOf (l.take k))).length:=by
 have hl:k < l.length:=by
  rcases Nat.lt_or_ge k l.length with h1 | h1
  ·exact h1
  ·rw[List.getElem?_eq_none h1]at h;cases h
 rw[List.getElem?_eq_getElem hl]at h
 injection h with h
 have e:esOf (l.take (k+1))=esOf (l.take k)++[x.e]:=by
  unfold esOf
  rw[List.take_succ_eq_append_getElem hl,List.map_append,h];rfl
 rw[e,heres_snoc,theres_snoc,Nat.zero_add]
 exact⟨rfl,rfl⟩
theorem step_got (l:List Ex) (k:Nat) (x:Ex) (h:l[k]?=some x):(stepL l (k+1))[k]?=some (setAt x (heres (esOf (l.take k))).length):=by
 have hl:k < l.length:=by
  rcases Nat.lt_or_ge k l.length with h1 | h1
  ·exact h1
  ·rw[List.getElem?_eq_none h1]at h;cases h
 rw[step_next l k hl,List.getElem?_set_self (by rw[step_len l k (by omega)];exact hl)]
 rw[List.getElem?_eq_getElem hl]at h
 injection h with h
 rw[h]
theorem own_lowB {w w':World} {base B0:Nat} {e:TypeId} {size n:Nat} {v:Value} {xs:List Value} (h:w.ownsRow base e size v n xs) (hv:∀ b,v.ownBlock=some b→b < B0) (hb:Below B0 w w'):w'.ownsRow base e size v n xs:=by
 obtain⟨h1,h2⟩:=h
 refine⟨h1,?_⟩
 rcases h2 with h | ⟨g,cap,cur,rfl,hbg,r⟩
 ·exact .inl h
 ·have hg:g < B0:=hv g rfl
  refine .inr ⟨g,cap,cur,rfl,hbg,?_⟩
  rw[hb.block g hg]
  exact r
theorem own_cells {w:World} {B g c n k nb:Nat} {L:List Ex} {x:Ex} (h:w.ownsRow B 78 9 (.slice (some ⟨g,0,none⟩) n c) n (L.flatMap eC)) (hk:L[k]?=some (setAt x nb)) :
  w.cell? ⟨g,k*9,none⟩=some (.string (strB x.e.f.name))∧w.cell? ⟨g,k*9+1,none⟩=some (slv x.bs)∧w.cell? ⟨g,k*9+2,none⟩=some (.int .i64 x.e.f.stamp)∧w.cell? ⟨g,k*9+3,none⟩=some (.int .i64 x.e.f.node)∧w.cell? ⟨g,k*9+4,none⟩=some (.bool x.e.f.gone)∧
  w.cell? ⟨g,k*9+5,none⟩=some (.int .i64 (x.e.method:Int))∧w.cell? ⟨g,k*9+6,none⟩=some (slv x.pk)∧w.cell? ⟨g,k*9+7,none⟩=some (.int .u32 (x.e.crc:Int))∧w.cell? ⟨g,k*9+8,none⟩=some (.int .i64 (nb:Int)):=by
 obtain⟨_,_,e1,_,_,hs,_⟩:=own_slat h
 injection e1 with e1 _ e2
 subst e1 e2
 exact row_cells hs hk
set_option maxRecDepth 100000 in
set_option maxHeartbeats 3000000 in
theorem archive_any (B:Nat) (v:Value) (l:List Ex) (w:World) (hB:B≤w.heap.size) (hown:w.ownsRow B 78 9 v l.length (l.flatMap eC)) (hg:∀ x∈l,Good x.e) (hp:∀ x∈l,EntP B w x) (hl:l.length≤13) (hz:(laidB (esOf l)).length≤1000000) :
  Calls Tryz.prog 46 #[v] w fun e w'=>(∃ vb,e=.returned vb∧OwnB w' w.heap.size vb (laidB (esOf l)))∧w'.ownsRow B 78 9 v l.length ((atsL l 0).flatMap eC)∧OldK B w.heap.size entT w w':=by
 obtain⟨A,c,rfl,hlc,hcm,_,hA0⟩:=own_slat hown
 obtain⟨n,hn⟩:∃ n,n=l.length:=⟨_,rfl⟩
 rw[←hn]at hown hlc hA0 hl⊢
 have Hn:=Lib.hid hn
 have HO:=Lib.hid hown
 have HP:=Lib.hid hp
 have HG:=Lib.hid hg
 have Hz:=Lib.hid hz
 obtain⟨B0,hB0⟩:∃ B0,B0=w.heap.size:=⟨_,rfl⟩
 rw[←hB0]at hB⊢
 have HB0:=Lib.hid hB0
 clear hn hown hp hg hz hB0
 go_enter Tryz.func46,Tryz.ntmps46
 go_wp2_with fail
 go_loopw [3,4,9] (fun vb vl vi wr=>∃ k,k≤n∧vi=.int .i64 (k:Int)∧TwoB wr B0 vb (heres (esOf (l.take k))) vl (theres (esOf (l.take k)) 0)∧wr.ownsRow B 78 9 (.slice A n c) n ((stepL l k).flatMap eC)∧OldK B B0 entT w wr) (fun _ _ vi _=>n - (intOf vi).toNat)
 case atStart=>exact⟨0,Nat.zero_le _,rfl,⟨OwnB.nil _ _,OwnB.nil _ _,fun g hg=>by simp[Value.ownBlock]at hg⟩,by simpa [stepL,atsL] using HO.out,OldK.refl _ _ _ _⟩
 case round=>
  obtain⟨k,hk,rfl,ht,ho,hk1⟩:=hrel
  have HT:=Lib.hid ht
  have HOr:=Lib.hid ho
  have HKr:=Lib.hid hk1
  clear ht ho hk1
  by_cases hlt:k < n
  ·have hlt':(k:Int) < (n:Int):=by omega
   have hk0:(0:Int)≤(k:Int):=by omega
   obtain⟨g,cap,hv,_,_⟩:=HOr.out.form (by omega)
   injection hv with hv1 _ hv2
   subst hv1 hv2
   have hkl:k < l.length:=by rw[←Hn.out];exact hlt
   obtain⟨x,hx⟩:∃ x,l[k]?=some x:=⟨_,List.getElem?_eq_getElem hkl⟩
   have hxm:x∈l:=List.mem_of_getElem? hx
   have hsg:(stepL l k)[k]?=some x:=by rw[step_get l k hkl,←hx,List.getElem?_eq_getElem hkl]
   obtain⟨_,_,e1,_,_,hsl,_⟩:=own_slat HOr.out
   injection e1 with e1 _ e2
   subst e1 e2
   obtain⟨_,_,_,_,_,_,_,_,c8⟩:=row_cells hsl hsg
   have f8:=HOr.out.frozenAt (k*9+8)
   have hht:=heres_take l k
   have hz:=Hz.out
   obtain⟨Hk,hHk⟩:∃ H,H=heres (esOf (l.take k)):=⟨_,rfl⟩
   obtain⟨Tk,hTk⟩:∃ T,T=theres (esOf (l.take k)) 0:=⟨_,rfl⟩
   obtain⟨hn1,hn2⟩:=esOf_next l k x hx
   have hsg2:=step_got l k x hx
   have hsn:=step_next l k hkl
   have hxk:l[k]=x:=by rw[List.getElem?_eq_getElem hkl]at hx;injection hx
   rw[←hHk]at hn1 hn2 hsn hht HT hsg2
   rw[←hTk]at hn2 hht HT
   rw[hxk]at hsn
   obtain⟨nb,hnb⟩:∃ nb,nb=Hk.length:=⟨_,rfl⟩
   rw[←hnb]at hn2 hsn hht hsg2
   have HSg:=Lib.hid hsg2
   have HXw:=Lib.hid (HP.out x hxm)
   clear hsg2
   have hset:((stepL l k).flatMap eC).set (k*9+8) (.int .i64 (nb:Int))=(stepL l (k+1)).flatMap eC:=by
    rw[flat_set8 _ _ _ (by rw[step_len l k (by omega)];exact hkl),hsn]
    rw[List.getElem?_eq_getElem (by rw[step_len l k (by omega)];exact hkl)]at hsg
    injection hsg with hsg
    rw[hsg]
   have Hset:=Lib.hid hset
   have HN1:=Lib.hid hn1
   have HN2:=Lib.hid hn2
   have Hnb:=Lib.hid hnb
   have hgx:=HG.out x hxm
   have hpx:=(HP.out x hxm).old (by rw[←HB0.out];exact HKr.out)
   have HGx:=Lib.hid hgx
   have HPx:=Lib.hid hpx
   have hth:(hereB x.e).length≤1000000∧(thereB x.e nb).length≤1000000:=by
    have h1:=heres_take l (k+1)
    rw[hn1,hn2,List.length_append,List.length_append]at h1
    omega
   obtain⟨Ab,cb,rfl,hb1,hb2,_,_⟩:=HT.out.one.slice
   rw[←hnb]at hb1⊢
   have hno1:=(HOr.out.stored (k*9+8) (.int .i64 (nb:Int))).1
   rw[hset]at hno1
   have HO2:=Lib.hid hno1
   have HT2:=Lib.hid (HT.out.store HOr.out (k*9+8) (.int .i64 (nb:Int)))
   have HK2:Hid (OldK B B0 entT w (wr.setCell ⟨g,k*9+8,none⟩ (.int .i64 (nb:Int)))):=Lib.hid (HKr.out.keeps ((Keeps.refl B entT wr).stored HOr.out (by simp[entT]) _ _))
   have HPx2:=Lib.hid (HPx.out.old (show OldK B wr.heap.size entT wr (wr.setCell ⟨g,k*9+8,none⟩ (.int .i64 (nb:Int))) from (OldK.refl _ _ _ _).keeps ((Keeps.refl B entT wr).stored HOr.out (by simp[entT]) _ _)))
   clear hset hn1 hn2 hnb hgx hpx hsg hsl hno1 hsn hxk hHk hTk HT HOr HKr HPx hx hxm
   go_upto_region 6 with fail
   generalize wr.setCell ⟨g,k*9+8,none⟩ (.int .i64 (nb:Int))=w2 at *
   obtain⟨d0,d1,d2,d3,d4,d5,d6,d7,d8⟩:=own_cells HO2.out HSg.out
   have hB2:B0≤w2.heap.size:=by have:=HK2.out.size;rw[←HB0.out]at this;exact this
   have HH:=Lib.hid (here_any (setAt x nb) w2 HGx.out (HPx2.out.at_.set_ nb))
   clear c8 f8 HPx2
   go_wp2_with fail
   refine (HH.out).mono ?_
   rintro e w3 ⟨⟨vh,rfl,hoh⟩,hb3⟩
   obtain⟨Ah,ch,rfl,hh1,hh2,hh3,hh4⟩:=hoh.slice
   have Hh3:=Lib.hid (show ByAt w3 Ah (hereB x.e) from hh3)
   have Hh4:=Lib.hid (show Ah=none→(hereB x.e).length=0 from hh4)
   have HT3:=Lib.hid (HT2.out.keep hb3)
   have HO3:=Lib.hid (own_keep HO2.out hb3)
   have HK3:=Lib.hid (HK2.out.below (hb3.mono hB2) hB)
   have hB3:B0≤w3.heap.size:=Nat.le_trans hB2 hb3.size
   clear hoh hb3 hh3 hh4 HH HT2 HO2 HK2 d0 d1 d2 d3 d4 d5 d6 d7 d8
   rw[show (hereB (setAt x nb).e).length=(hereB x.e).length from rfl]
   obtain⟨Hx,hHx⟩:∃ Hx,Hx=hereB x.e:=⟨_,rfl⟩
   rw[←hHx]at Hh3 Hh4 HN1⊢
   have hthx:Hx.length≤1000000:=by rw[hHx];exact hth.1
   obtain⟨hxl,hhxl⟩:∃ n,n=Hx.length:=⟨_,rfl⟩
   rw[←hhxl]at Hh4 hthx⊢
   have Hhxl:=Lib.hid hhxl.symm
   clear hhxl hHx
   go_wp2_with (at_builtin;refine wpList_app _ rfl (.tmp 18) (.tmp 23) _ rfl B0 5 _ 1 1 ty8z _ nb (Hk.map u8v) rfl (by have:=HT3.out.one;unfold OwnB at this;rw[←Hnb.out]at this;exact this) Ah hxl ch (Hx.map u8v) rfl (by rw[List.length_map,Hhxl.out,Nat.mul_one]) Hh3.out (u8s_one Hx) Hh4.out (by unfold maxLen;omega) (by omega) hB3 ?_;intro v4 w4 hown4 hg4 hloc4;have ho4:OwnB w4 B0 v4 (Hk++Hx):=(by unfold OwnB;rw[List.length_append,List.map_append,←Hnb.out,Hhxl.out];exact hown4);have HT4:=Lib.hid (HT3.out.grown ho4 (by rw[←Hnb.out];exact hg4) (by rw[←Hnb.out];exact hloc4));have HO4:=Lib.hid (Weigh.own_grownV HO3.out HT3.out.one (by rw[←Hnb.out];exact hg4) (by decide));have Hk4:=Lib.hid (own_below HT3.out.one (by rw[←Hnb.out];exact hg4) (Below.refl B0 w3) hB3);have HK4:=Lib.hid (HK3.out.below Hk4.out hB);have hB4:B0≤w4.heap.size:=Nat.le_trans hB3 Hk4.out.size;obtain⟨d0,d1,d2,d3,d4,d5,d6,d7,d8⟩:=own_cells HO4.out HSg.out;clear hown4 hg4 hloc4 ho4)
   have hpx4:=HXw.out.old (by rw[←HB0.out];exact HK4.out)
   have HH:=Lib.hid (there_any (setAt x nb) w4 HGx.out (hpx4.at_.set_ nb) (by show nb < 4294967296;omega))
   obtain⟨At,ct,rfl,ht1,ht2,_,_⟩:=HT4.out.two.slice
   obtain⟨ntk,hntk⟩:∃ n,n=Tk.length:=⟨_,rfl⟩
   rw[←hntk]at ht1 hht⊢
   have Hntk:=Lib.hid hntk
   clear hpx4 hntk HT3 HO3 HK3 Hk4 Hh3 Hh4
   go_wp2_with fail
   refine (HH.out).mono ?_
   rintro e w5 ⟨⟨vt,rfl,hot⟩,hb5⟩
   obtain⟨Ay,cy,rfl,hy1,hy2,hy3,hy4⟩:=hot.slice
   have Hy3:=Lib.hid (show ByAt w5 Ay (thereB x.e nb) from hy3)
   have Hy4:=Lib.hid (show Ay=none→(thereB x.e nb).length=0 from hy4)
   have HT5:=Lib.hid (HT4.out.symm.keep hb5)
   have HO5:=Lib.hid (own_keep HO4.out hb5)
   have HK5:=Lib.hid (HK4.out.below (hb5.mono hB4) hB)
   have hB5:B0≤w5.heap.size:=Nat.le_trans hB4 hb5.size
   clear hot hb5 hy3 hy4 HH HT4 HO4 HK4 d0 d1 d2 d3 d4 d5 d6 d7 d8
   rw[show (thereB (setAt x nb).e (setAt x nb).at_).length=(thereB x.e nb).length from rfl]
   obtain⟨Ty,hTy⟩:∃ Ty,Ty=thereB x.e nb:=⟨_,rfl⟩
   rw[←hTy]at Hy3 Hy4 HN2⊢
   have hthy:Ty.length≤1000000:=by rw[hTy];exact hth.2
   obtain⟨hyl,hhyl⟩:∃ n,n=Ty.length:=⟨_,rfl⟩
   rw[←hhyl]at Hy4 hthy⊢
   have Hhyl:=Lib.hid hhyl.symm
   clear hhyl hTy
   go_wp2_with (at_builtin;refine wpList_app _ rfl (.tmp 25) (.tmp 30) _ rfl B0 5 _ 1 1 ty8z _ ntk (Tk.map u8v) rfl (by have:=HT5.out.one;unfold OwnB at this;rw[←Hntk.out]at this;exact this) Ay hyl cy (Ty.map u8v) rfl (by rw[List.length_map,Hhyl.out,Nat.mul_one]) Hy3.out (u8s_one Ty) Hy4.out (by unfold maxLen;omega) (by omega) hB5 ?_;intro v6 w6 hown6 hg6 hloc6;have ho6:OwnB w6 B0 v6 (Tk++Ty):=(by unfold OwnB;rw[List.length_append,List.map_append,←Hntk.out,Hhyl.out];exact hown6);have HT6:=Lib.hid (HT5.out.grown ho6 (by rw[←Hntk.out];exact hg6) (by rw[←Hntk.out];exact hloc6));have HO6:=Lib.hid (Weigh.own_grownV HO5.out HT5.out.one (by rw[←Hntk.out];exact hg6) (by decide));have Hk6:=Lib.hid (own_below HT5.out.one (by rw[←Hntk.out];exact hg6) (Below.refl B0 w5) hB5);have HK6:=Lib.hid (HK5.out.below Hk6.out hB);clear hown6 hg6 hloc6 ho6)
   go_roundw
   case rel=>exact⟨k+1,by omega,by go_num,by rw[HN1.out,HN2.out];exact HT6.out.symm,HO6.out,HK6.out⟩
   case measure=>simp[intOf];omega
  ·have hlt':¬ (k:Int) < (n:Int):=by omega
   obtain rfl:k=n:=by omega
   have htk:l.take k=l:=by rw[Hn.out];exact List.take_length
   have hst:stepL l k=atsL l 0:=by unfold stepL;rw[htk,Hn.out,List.drop_length,List.append_nil]
   rw[htk]at HT
   rw[hst]at HOr
   have hle:(laidB (esOf l)).length=(heres (esOf l)).length+(theres (esOf l) 0).length+22:=by
    have e:laidB (esOf l)=heres (esOf l)++theres (esOf l) 0++endB (esOf l):=rfl
    rw[e,List.length_append,List.length_append,end_len]
   have hen:endB (esOf l)=lowB 4 101010256++lowB 4 0++lowB 2 k++lowB 2 k++lowB 4 (theres (esOf l) 0).length++lowB 4 (heres (esOf l)).length++lowB 2 0:=by
    unfold endB esOf;rw[List.length_map,←Hn.out]
   have hla:laidB (esOf l)=heres (esOf l)++theres (esOf l) 0++endB (esOf l):=rfl
   rw[hen]at hla
   have hz:=Hz.out
   have HLa:=Lib.hid hla
   obtain⟨Hk,hHk⟩:∃ H,H=heres (esOf l):=⟨_,rfl⟩
   obtain⟨Tk,hTk⟩:∃ T,T=theres (esOf l) 0:=⟨_,rfl⟩
   rw[←hHk,←hTk]at HT HLa hle
   obtain⟨L,hL⟩:∃ L,L=laidB (esOf l):=⟨_,rfl⟩
   rw[←hL]at HLa hle hz
   have HL:=Lib.hid hL
   clear htk hst hen hla hHk hTk hL
   obtain⟨nb,hnb⟩:∃ n,n=Hk.length:=⟨_,rfl⟩
   obtain⟨nt,hnt⟩:∃ n,n=Tk.length:=⟨_,rfl⟩
   obtain⟨Ab,cb,rfl,hb1,hb2,_,_⟩:=HT.out.one.slice
   obtain⟨At,ct,rfl,ht1,ht2,ht3,ht4⟩:=HT.out.two.slice
   rw[←hnb,←hnt]at HLa hle
   rw[←hnb]at hb1⊢
   rw[←hnt]at ht1 ht4⊢
   have Hnb:=Lib.hid hnb
   have Hnt:=Lib.hid hnt
   have Ht3:=Lib.hid ht3
   have Ht4:=Lib.hid ht4
   have hBr:B0≤wr.heap.size:=by have:=HKr.out.size;rw[←HB0.out]at this;exact this
   obtain⟨X1,hX1⟩:∃ X,X=Hk++Tk:=⟨_,rfl⟩
   have hx1:X1.length=nb+nt:=by rw[hX1,List.length_append,←hnb,←hnt]
   rw[←hX1]at HLa
   have HX1:=Lib.hid hX1
   clear ht3 ht4 hnb hnt hX1
   go_wp2_with (at_builtin;refine wpList_app _ rfl (.tmp 35) (.tmp 36) _ rfl B0 5 _ 1 1 ty8z _ nb (Hk.map u8v) rfl (by have:=HT.out.one;unfold OwnB at this;rw[←Hnb.out]at this;exact this) At nt ct (Tk.map u8v) rfl (by rw[List.length_map,←Hnt.out,Nat.mul_one]) Ht3.out (u8s_one Tk) Ht4.out (by unfold maxLen;omega) (by omega) hBr ?_;intro v1 w1 hown1 hg1 hloc1;have ho1:OwnB w1 B0 v1 X1:=(by unfold OwnB;rw[HX1.out,List.length_append,List.map_append,←Hnb.out,←Hnt.out];exact hown1);have Hb1:=Lib.hid (own_below HT.out.one (by rw[←Hnb.out];exact hg1) (Below.refl B0 wr) hBr);have hbs1:B0≤w1.heap.size:=Nat.le_trans hBr Hb1.out.size;clear hown1 hg1 hloc1)
   have HN1:=Lib.hid (num_z B0 v1 _ 101010256 4 101010256 4 w1 ho1 hbs1 rfl rfl (by omega) (by omega) (by omega))
   clear ho1
   refine (HN1.out).mono ?_
   rintro e w2 ⟨⟨v2,rfl,ho2⟩,hb2⟩
   have Hb2:=Lib.hid (Hb1.out.trans hb2)
   have hbs2:B0≤w2.heap.size:=Nat.le_trans hbs1 hb2.size
   clear hb2 HN1 Hb1 hbs1
   have HN2:=Lib.hid (num_z B0 v2 _ 0 4 0 4 w2 ho2 hbs2 rfl rfl (by omega) (by omega) (by simp only[List.length_append,lowB_len];omega))
   clear ho2
   go_wp2_with fail
   refine (HN2.out).mono ?_
   rintro e w3 ⟨⟨v3,rfl,ho3⟩,hb3⟩
   have Hb3:=Lib.hid (Hb2.out.trans hb3)
   have hbs3:B0≤w3.heap.size:=Nat.le_trans hbs2 hb3.size
   clear hb3 HN2 Hb2 hbs2
   have HN3:=Lib.hid (num_z B0 v3 _ k 2 (k:Int) 2 w3 ho3 hbs3 rfl rfl (by omega) (by omega) (by simp only[List.length_append,lowB_len];omega))
   clear ho3
   go_wp2_with fail
   refine (HN3.out).mono ?_
   rintro e w4 ⟨⟨v4,rfl,ho4⟩,hb4⟩
   have Hb4:=Lib.hid (Hb3.out.trans hb4)
   have hbs4:B0≤w4.heap.size:=Nat.le_trans hbs3 hb4.size
   clear hb4 HN3 Hb3 hbs3
   have HN4:=Lib.hid (num_z B0 v4 _ k 2 (k:Int) 2 w4 ho4 hbs4 rfl rfl (by omega) (by omega) (by simp only[List.length_append,lowB_len];omega))
   clear ho4
   go_wp2_with fail
   refine (HN4.out).mono ?_
   rintro e w5 ⟨⟨v5,rfl,ho5⟩,hb5⟩
   have Hb5:=Lib.hid (Hb4.out.trans hb5)
   have hbs5:B0≤w5.heap.size:=Nat.le_trans hbs4 hb5.size
   clear hb5 HN4 Hb4 hbs4
   have HN5:=Lib.hid (num_z B0 v5 _ nt 4 (nt:Int) 4 w5 ho5 hbs5 rfl rfl (by omega) (by omega) (by simp only[List.length_append,lowB_len];omega))
   clear ho5
   go_wp2_with fail
   refine (HN5.out).mono ?_
   rintro e w6 ⟨⟨v6,rfl,ho6⟩,hb6⟩
   have Hb6:=Lib.hid (Hb5.out.trans hb6)
   have hbs6:B0≤w6.heap.size:=Nat.le_trans hbs5 hb6.size
   clear hb6 HN5 Hb5 hbs5
   have HN6:=Lib.hid (num_z B0 v6 _ nb 4 (nb:Int) 4 w6 ho6 hbs6 rfl rfl (by omega) (by omega) (by simp only[List.length_append,lowB_len];omega))
   clear ho6
   go_wp2_with fail
   refine (HN6.out).mono ?_
   rintro e w7 ⟨⟨v7,rfl,ho7⟩,hb7⟩
   have Hb7:=Lib.hid (Hb6.out.trans hb7)
   have hbs7:B0≤w7.heap.size:=Nat.le_trans hbs6 hb7.size
   clear hb7 HN6 Hb6 hbs6
   have HN7:=Lib.hid (num_z B0 v7 _ 0 2 0 2 w7 ho7 hbs7 rfl rfl (by omega) (by omega) (by simp only[List.length_append,lowB_len];omega))
   clear ho7
   go_wp2_with fail
   refine (HN7.out).mono ?_
   rintro e w8 ⟨⟨v8,rfl,ho8⟩,hb8⟩
   have Hb8:=Lib.hid (Hb7.out.trans hb8)
   have hbs8:B0≤w8.heap.size:=Nat.le_trans hbs7 hb8.size
   clear hb8 HN7 Hb7 hbs7
   go_wp2_with fail
   go_ret
   refine⟨⟨_,rfl,?_⟩,?_,HKr.out.below Hb8.out hB⟩
   ·rw[←HL.out,HLa.out]
    simp only[List.append_assoc]at ho8⊢;exact ho8
   ·exact own_lowB HOr.out (fun b hb=>by have:=(HO.out.lt b (by simpa using hb)).2;rw[←HB0.out]at this;exact this) Hb8.out
end Go.Proofs.YtabdianhoabhhaaGreatDoor.Zip
namespace Go.Proofs.YtabdianhoabhhaaGreatDoor.Match
set_option linter.unusedVariables false
def sameN (b:List UInt8) (i k:Nat):Nat:=(((b.drop i).zip ((b.drop k).take 258)).takeWhile (fun p=>p.1 == p.2)).length
theorem tw_le {α:Type} (p:α→Bool) (l:List α):(l.takeWhile p).length≤l.length:=by
 induction l with
 | nil=>simp
 | cons a l ih=>simp only[List.takeWhile_cons];split <;> simp <;> omega
theorem tw_step {α:Type} (p:α→Bool) (l:List α) (n:Nat) (h:n≤(l.takeWhile p).length) (hn:n < l.length) (hp:p l[n]=true):n+1≤(l.takeWhile p).length:=by
 induction l generalizing n with
 | nil=>simp at hn
 | cons a l ih=>
  simp only[List.takeWhile_cons]at h⊢
  cases n with
  | zero=>simp at hp;simp[hp]
  | succ n=>
   cases hpa:p a with
   | false=>simp[hpa]at h
   | true=>
    simp only[hpa,if_true,List.length_cons]at h⊢
    have:=ih n (by omega) (by simpa using hn) (by simpa using hp)
    omega
theorem tw_get {α:Type} (p:α→Bool) (l:List α) (n:Nat) (h:n < (l.takeWhile p).length):∃ hn:n < l.length,p l[n]=true:=by
 induction l generalizing n with
 | nil=>simp at h
 | cons a l ih=>
  simp only[List.takeWhile_cons]at h
  cases hpa:p a with
  | false=>simp[hpa]at h
  | true=>
   simp only[hpa,if_true,List.length_cons]at h
   cases n with
   | zero=>exact⟨by simp,by simpa using hpa⟩
   | succ n=>
    obtain⟨h1,h2⟩:=ih n (by omega)
    exact⟨by simpa using h1,by simpa using h2⟩
theorem zip_len (b:List UInt8) (i k:Nat) (hik:i≤k):((b.drop i).zip ((b.drop k).take 258)).length=min 258 (b.length - k):=by
 simp;omega
theorem same_le (b:List UInt8) (i k:Nat) (hik:i≤k):sameN b i k≤258∧sameN b i k≤b.length - k:=by
 have:=tw_le (fun p:UInt8×UInt8=>p.1 == p.2) ((b.drop i).zip ((b.drop k).take 258))
 rw[zip_len b i k hik]at this
 unfold sameN;omega
theorem same_step (b:List UInt8) (i k n:Nat) (hik:i≤k) (h:n≤sameN b i k) (h1:n < 258) (h2:k+n < b.length) (h3:b[i+n]'(by omega)=b[k+n]):n+1≤sameN b i k:=by
 refine tw_step _ _ n h (by rw[zip_len b i k hik];omega) ?_
 simpa using h3
theorem same_stop (b:List UInt8) (i k n:Nat) (hik:i≤k) (h:n≤sameN b i k) (hs:¬ (n < 258)∨¬ (k+n < b.length)∨∃ (h:k+n < b.length),b[i+n]'(by omega)≠b[k+n]):sameN b i k=n:=by
 rcases Nat.lt_or_ge n (sameN b i k) with hlt | hge
 ·have hl:=same_le b i k hik
  rcases hs with hs | hs | ⟨h2,h3⟩
  ·omega
  ·omega
  ·obtain⟨_,hp⟩:=tw_get _ _ n hlt
   simp at hp
   exact absurd hp h3
 ·omega
theorem same_get (b:List UInt8) (i k n:Nat) (hik:i≤k) (h:n < sameN b i k):∃ h2:k+n < b.length,b[i+n]'(by omega)=b[k+n]:=by
 have hl:=same_le b i k hik
 obtain⟨_,hp⟩:=tw_get _ _ n h
 simp at hp
 exact⟨by omega,hp⟩
def tryAt (b:List UInt8) (k:Nat) (s:Nat×Nat) (i:Nat):Nat×Nat:=if s.1 < sameN b i k then (sameN b i k,k - i) else s
def longD (b:List UInt8) (k:Nat):Nat→Nat×Nat
 | 0=>(0,0)
 | d+1=>tryAt b k (longD b k d) (k - (d+1))
def cut3 (s:Nat×Nat):Nat×Nat:=if s.1 < 3 then (0,0) else s
def longest (b:List UInt8) (k:Nat):Nat×Nat:=cut3 (longD b k k)
theorem longD_le (b:List UInt8) (k d:Nat) (hd:d≤k):(longD b k d).1≤258∧(longD b k d).1≤b.length - k∧(longD b k d).2≤d∧(0 < (longD b k d).1→0 < (longD b k d).2∧(longD b k d).1=sameN b (k - (longD b k d).2) k):=by
 induction d with
 | zero=>simp[longD]
 | succ d ih=>
  obtain⟨h1,h2,h3,h4⟩:=ih (by omega)
  have hs:=same_le b (k - (d+1)) k (by omega)
  unfold longD tryAt
  split
  ·refine⟨hs.1,hs.2,by simp;omega,fun _=>⟨by simp;omega,?_⟩⟩
   have:k - (k - (k - (d+1)))=k - (d+1):=by omega
   simp[this]
  ·exact⟨h1,h2,by omega,h4⟩
theorem longest_le (b:List UInt8) (k:Nat):(longest b k).1≤258∧(longest b k).1≤b.length - k∧(longest b k).2≤k∧(0 < (longest b k).1→3≤(longest b k).1∧0 < (longest b k).2∧(longest b k).1=sameN b (k - (longest b k).2) k):=by
 obtain⟨h1,h2,h3,h4⟩:=longD_le b k k (Nat.le_refl _)
 by_cases h:(longD b k k).1 < 3
 ·have:longest b k=(0,0):=by unfold longest cut3;rw[if_pos h]
  rw[this];simp
 ·have:longest b k=longD b k k:=by unfold longest cut3;rw[if_neg h]
  rw[this]
  exact⟨h1,h2,h3,fun h=>⟨by omega,h4 h⟩⟩
theorem longest_zero (b:List UInt8) (k:Nat) (h:(longest b k).1=0):longest b k=(0,0):=by
 by_cases h':(longD b k k).1 < 3
 ·unfold longest cut3;rw[if_pos h']
 ·have:longest b k=longD b k k:=by unfold longest cut3;rw[if_neg h']
  rw[this]at h;omega
def tri (b:List UInt8) (k:Nat):List UInt8:=(b.drop k).take 3
def occ (b:List UInt8) (t:List UInt8) (K:Nat):List Nat:=(List.range K).filter fun p=>decide (p+3≤b.length) && (tri b p == t)
theorem occ_succ (b:List UInt8) (t:List UInt8) (K:Nat):occ b t (K+1)=occ b t K++if K+3≤b.length∧tri b K=t then [K] else []:=by
 unfold occ
 rw[List.range_succ,List.filter_append]
 by_cases h1:K+3≤b.length <;> by_cases h2:tri b K=t <;> simp[h1,h2]
theorem occ_lt (b:List UInt8) (t:List UInt8) (K:Nat):∀ p∈occ b t K,p < K∧p+3≤b.length∧tri b p=t:=by
 intro p hp
 unfold occ at hp
 simpa using hp
theorem occ_len (b:List UInt8) (t:List UInt8) (K:Nat):(occ b t K).length≤K:=by
 have:=List.length_filter_le (fun p=>decide (p+3≤b.length) && (tri b p == t)) (List.range K)
 simpa [occ] using this
theorem tri_same (b:List UInt8) (i k:Nat) (hik:i≤k) (hk:k+3≤b.length):tri b i=tri b k↔3≤sameN b i k:=by
 have e:∀ j,j+3≤b.length→∃ (h:j+3≤b.length),tri b j=[b[j],b[j+1],b[j+2]]:=by
  intro j h
  refine⟨h,?_⟩
  unfold tri
  rw[List.drop_eq_getElem_cons (by omega),List.drop_eq_getElem_cons (by omega),List.drop_eq_getElem_cons (by omega),List.take_succ_cons,List.take_succ_cons,List.take_succ_cons,List.take_zero]
 obtain⟨h1,e1⟩:=e i (by omega)
 obtain⟨h2,e2⟩:=e k hk
 rw[e1,e2]
 constructor
 ·intro h
  simp at h
  obtain⟨a1,a2,a3⟩:=h
  have s1:=same_step b i k 0 hik (by omega) (by omega) (by omega) a1
  have s2:=same_step b i k 1 hik s1 (by omega) (by omega) a2
  exact same_step b i k 2 hik s2 (by omega) (by omega) a3
 ·intro h
  obtain⟨_,a1⟩:=same_get b i k 0 hik (by omega)
  obtain⟨_,a2⟩:=same_get b i k 1 hik (by omega)
  obtain⟨_,a3⟩:=same_get b i k 2 hik (by omega)
  simp at a1 a2 a3⊢
  exact⟨a1,a2,a3⟩
def tryAll (b:List UInt8) (k:Nat) (l:List Nat):Nat×Nat:=l.foldl (tryAt b k) (0,0)
theorem tryAll_snoc (b:List UInt8) (k:Nat) (l:List Nat) (i:Nat):tryAll b k (l++[i])=tryAt b k (tryAll b k l) i:=by
 unfold tryAll;rw[List.foldl_append];rfl
theorem longD_eq (b:List UInt8) (k d:Nat) (hd:d≤k):longD b k d=tryAll b k ((List.range' (k - d) d).reverse):=by
 induction d with
 | zero=>simp[longD,tryAll]
 | succ d ih=>
  have:List.range' (k - (d+1)) (d+1)=(k - (d+1)) :: List.range' (k - d) d:=by
   rw[List.range'_succ];congr 2;omega
  rw[this,List.reverse_cons,tryAll_snoc,←ih (by omega)]
  rfl
theorem filt_fold (b:List UInt8) (k:Nat) (l:List Nat) (q:Nat→Bool) (hq:∀ i∈l,q i=true↔3≤sameN b i k) :
  (tryAll b k l).1 < 3∧tryAll b k (l.filter q)=(0,0)∨3≤(tryAll b k l).1∧tryAll b k (l.filter q)=tryAll b k l:=by
 have key:∀ (l:List Nat) (s t:Nat×Nat),(∀ i∈l,q i=true↔3≤sameN b i k)→(s.1 < 3∧t=(0,0)∨3≤s.1∧t=s)→
   ((l.foldl (tryAt b k) s).1 < 3∧(l.filter q).foldl (tryAt b k) t=(0,0)∨3≤(l.foldl (tryAt b k) s).1∧(l.filter q).foldl (tryAt b k) t=l.foldl (tryAt b k) s):=by
  intro l
  induction l with
  | nil=>intro s t _ h;simpa using h
  | cons a l ih=>
   intro s t hl h
   have ha:=hl a (by simp)
   have hl':∀ i∈l,q i=true↔3≤sameN b i k:=fun i hi=>hl i (by simp[hi])
   cases hqa:q a with
   | true=>
    rw[List.filter_cons_of_pos hqa,List.foldl_cons,List.foldl_cons]
    refine ih _ _ hl' ?_
    have h3:=ha.1 hqa
    unfold tryAt
    rcases h with ⟨h1,rfl⟩ | ⟨h1,rfl⟩
    ·rw[if_pos (by omega),if_pos (by simp;omega)]
     exact Or.inr ⟨h3,rfl⟩
    ·split
     ·exact Or.inr ⟨h3,rfl⟩
     ·exact Or.inr ⟨h1,rfl⟩
   | false=>
    rw[List.filter_cons_of_neg (by simp[hqa]),List.foldl_cons]
    refine ih _ _ hl' ?_
    have h3:¬ 3≤sameN b a k:=fun h=>by rw[ha.2 h]at hqa;cases hqa
    unfold tryAt
    rcases h with ⟨h1,rfl⟩ | ⟨h1,rfl⟩
    ·split
     ·exact Or.inl ⟨by simp;omega,rfl⟩
     ·exact Or.inl ⟨h1,rfl⟩
    ·rw[if_neg (by omega)]
     exact Or.inr ⟨h1,rfl⟩
 exact key l (0,0) (0,0) hq (Or.inl ⟨by simp,rfl⟩)
theorem find_eq (b:List UInt8) (k:Nat) (hk:k+3≤b.length):tryAll b k ((occ b (tri b k) k).reverse)=longest b k:=by
 have e:(occ b (tri b k) k).reverse=((List.range' 0 k).reverse).filter (fun p=>decide (p+3≤b.length) && (tri b p == tri b k)):=by
  unfold occ;rw[List.filter_reverse,List.range_eq_range']
 rw[e]
 have hf:=filt_fold b k ((List.range' 0 k).reverse) (fun p=>decide (p+3≤b.length) && (tri b p == tri b k)) (by
  intro i hi
  simp at hi
  rw[←tri_same b i k (by omega) hk]
  simp
  intro _;omega)
 have el:longD b k k=tryAll b k ((List.range' 0 k).reverse):=by rw[longD_eq b k k (Nat.le_refl _)];simp
 unfold longest cut3
 rw[el]
 rcases hf with ⟨h1,h2⟩ | ⟨h1,h2⟩
 ·rw[if_pos h1,h2]
 ·rw[if_neg (by omega),h2]
theorem longest_end (b:List UInt8) (k:Nat) (hk:b.length < k+3):longest b k=(0,0):=by
 refine longest_zero b k ?_
 obtain⟨h1,h2,h3,h4⟩:=longest_le b k
 rcases Nat.eq_zero_or_pos (longest b k).1 with h | h
 ·exact h
 ·have:=h4 h;omega
abbrev Tok:=UInt8×Int×Int
def tstep (b:List UInt8) (s:Nat×List Tok):Nat×List Tok:=
 if s.1 < b.length then
  if (longest b s.1).1=0∨(s.1+1 < b.length∧(longest b s.1).1 < (longest b (s.1+1)).1) then (s.1+1,s.2++[(b.getD s.1 0,0,0)])
  else (s.1+(longest b s.1).1,s.2++[(0,((longest b s.1).1:Int),((longest b s.1).2:Int))])
 else s
def titer (b:List UInt8):Nat→Nat×List Tok
 | 0=>(0,[])
 | m+1=>tstep b (titer b m)
def toks (b:List UInt8):List Tok:=(titer b b.length).2
theorem tstep_done (b:List UInt8) (s:Nat×List Tok) (h:b.length≤s.1):tstep b s=s:=by unfold tstep;rw[if_neg (by omega)]
theorem titer_le (b:List UInt8) (m:Nat):(titer b m).1≤b.length∧(b.length≤(titer b m).1∨m≤(titer b m).1)∧(titer b m).2.length≤(titer b m).1:=by
 induction m with
 | zero=>simp[titer]
 | succ m ih=>
  obtain⟨h1,h2,h3⟩:=ih
  have hl:=longest_le b (titer b m).1
  unfold titer tstep
  by_cases ha:(titer b m).1 < b.length
  ·rw[if_pos ha]
   by_cases hb:(longest b (titer b m).1).1=0∨((titer b m).1+1 < b.length∧(longest b (titer b m).1).1 < (longest b ((titer b m).1+1)).1)
   ·rw[if_pos hb];simp;omega
   ·rw[if_neg hb];simp
    have:0 < (longest b (titer b m).1).1:=by omega
    omega
  ·rw[if_neg ha];omega
theorem titer_add (b:List UInt8) (m j:Nat) (h:b.length≤(titer b m).1):titer b (m+j)=titer b m:=by
 induction j with
 | zero=>rfl
 | succ j ih=>show tstep b (titer b (m+j))=_;rw[ih,tstep_done b _ h]
theorem titer_done (b:List UInt8) (m:Nat) (h:b.length≤(titer b m).1):(titer b m).2=toks b:=by
 unfold toks
 have h2:b.length≤(titer b b.length).1:=by have:=(titer_le b b.length).2.1;omega
 rcases Nat.le_total m b.length with hm | hm
 ·obtain⟨j,hj⟩:=Nat.exists_eq_add_of_le hm
  rw[hj,titer_add b m j h]
 ·obtain⟨j,hj⟩:=Nat.exists_eq_add_of_le hm
  have:=titer_add b b.length j h2
  rw[hj,this]
def cpy (d:Nat):Nat→List UInt8→List UInt8
 | 0,l=>l
 | n+1,l=>cpy d n l++[(cpy d n l).getD ((cpy d n l).length - d) 0]
def putTok (l:List UInt8) (t:Tok):List UInt8:=if t.2.1=0 then l++[t.1] else cpy t.2.2.toNat t.2.1.toNat l
def expand (ts:List Tok):List UInt8:=ts.foldl putTok []
theorem cpy_length (d n:Nat) (l:List UInt8):(cpy d n l).length=l.length+n:=by
 induction n with
 | zero=>rfl
 | succ n ih=>simp[cpy,ih];omega
theorem cpy_take (b:List UInt8) (k d n:Nat) (hd0:0 < d) (hd:d≤k) (hn:n≤sameN b (k - d) k):cpy d n (b.take k)=b.take (k+n):=by
 induction n with
 | zero=>rfl
 | succ n ih=>
  obtain⟨h2,h3⟩:=same_get b (k - d) k n (by omega) (by omega)
  have e:=ih (by omega)
  simp only[cpy]
  rw[e]
  have hlen:(b.take (k+n)).length=k+n:=by simp;omega
  rw[hlen,←Nat.add_assoc,List.take_succ_eq_append_getElem h2]
  congr 2
  rw[List.getD_eq_getElem?_getD,List.getElem?_take,if_pos (by omega),List.getElem?_eq_getElem (by omega)]
  have:k+n - d=k - d+n:=by omega
  simp only[this,Option.getD_some]
  exact h3
theorem expand_titer (b:List UInt8) (m:Nat):expand (titer b m).2=b.take (titer b m).1:=by
 induction m with
 | zero=>simp[titer,expand]
 | succ m ih=>
  have hle:=titer_le b m
  have hl:=longest_le b (titer b m).1
  unfold titer tstep
  by_cases ha:(titer b m).1 < b.length
  ·rw[if_pos ha]
   by_cases hb:(longest b (titer b m).1).1=0∨((titer b m).1+1 < b.length∧(longest b (titer b m).1).1 < (longest b ((titer b m).1+1)).1)
   ·rw[if_pos hb]
    unfold expand at ih⊢
    rw[List.foldl_append,ih]
    simp only[List.foldl_cons,List.foldl_nil,putTok,if_true]
    rw[List.take_succ_eq_append_getElem ha,List.getD_eq_getElem?_getD,List.getElem?_eq_getElem ha];rfl
   ·rw[if_neg hb]
    unfold expand at ih⊢
    rw[List.foldl_append,ih]
    have h0:0 < (longest b (titer b m).1).1:=by omega
    obtain⟨h3,h4,h5⟩:=hl.2.2.2 h0
    simp only[List.foldl_cons,List.foldl_nil,putTok]
    rw[if_neg (by omega)]
    simp only[Int.toNat_natCast]
    exact cpy_take b _ _ _ h4 hl.2.2.1 (by omega)
  ·rw[if_neg ha];exact ih
theorem titer_end (b:List UInt8):(titer b b.length).1=b.length:=by
 have:=titer_le b b.length;omega
theorem expand_toks (b:List UInt8):expand (toks b)=b:=by
 unfold toks;rw[expand_titer,titer_end,List.take_length]
theorem toks_len (b:List UInt8):(toks b).length≤b.length:=by
 have:=titer_le b b.length;unfold toks;omega
def chkTok (n:Int) (t:Tok):Int×Int:=
 if t.2.1=0 then (if t.2.2≠0 then (4,n) else (0,n+1))
 else if t.1≠0 then (4,n)
 else if t.2.1 < 3∨258 < t.2.1∨t.2.2 < 1 then (3,n)
 else if n < t.2.2 then (9,n)
 else (0,n+t.2.1)
def chkAll:List Tok→Int→Int×Int
 | [],n=>(0,n)
 | t :: ts,n=>if (chkTok n t).1=0 then chkAll ts (chkTok n t).2 else ((chkTok n t).1,n)
theorem chkAll_append (a c:List Tok) (n:Int) (h:(chkAll a n).1=0):chkAll (a++c) n=chkAll c (chkAll a n).2:=by
 induction a generalizing n with
 | nil=>rfl
 | cons t a ih=>
  simp only[List.cons_append,chkAll]at h⊢
  split
  ·rename_i h1;rw[if_pos h1]at h;rw[ih _ h]
  ·rename_i h1;rw[if_neg h1]at h;exact absurd h h1
theorem chkTok_ok (n s f:Int) (h1:3≤s) (h2:s≤258) (h3:1≤f) (h4:f≤n):chkTok n (0,s,f)=(0,n+s):=by
 unfold chkTok
 dsimp only
 rw[if_neg (by omega),if_neg (by simp),if_neg (by omega),if_neg (by omega)]
theorem chkAll_titer (b:List UInt8) (m:Nat):chkAll (titer b m).2 0=(0,((titer b m).1:Int)):=by
 induction m with
 | zero=>simp[titer,chkAll]
 | succ m ih=>
  have hl:=longest_le b (titer b m).1
  unfold titer tstep
  by_cases ha:(titer b m).1 < b.length
  ·rw[if_pos ha]
   by_cases hb:(longest b (titer b m).1).1=0∨((titer b m).1+1 < b.length∧(longest b (titer b m).1).1 < (longest b ((titer b m).1+1)).1)
   ·rw[if_pos hb,chkAll_append _ _ _ (by rw[ih]),ih]
    simp[chkAll,chkTok]
   ·rw[if_neg hb,chkAll_append _ _ _ (by rw[ih]),ih]
    have h0:0 < (longest b (titer b m).1).1:=by omega
    obtain⟨h3,h4,h5⟩:=hl.2.2.2 h0
    have e:=chkTok_ok ((titer b m).1:Int) ((longest b (titer b m).1).1:Int) ((longest b (titer b m).1).2:Int) (by omega) (by omega) (by omega) (by omega)
    unfold chkAll chkAll
    rw[e]
    simp
  ·rw[if_neg ha];exact ih
end Go.Proofs.YtabdianhoabhhaaGreatDoor.Match
namespace Go.Proofs.YtabdianhoabhhaaGreatDoor.Blk
open Go.Proofs.YtabdianhoabhhaaGreatDoor Go.Proofs.YtabdianhoabhhaaGreatDoor.Bits Go.Proofs.YtabdianhoabhhaaGreatDoor.Code Go.Proofs.YtabdianhoabhhaaGreatDoor.Match Go.Proofs.YtabdianhoabhhaaGreatDoor.SP
set_option linter.unusedVariables false
def symK (l:List (Nat×Nat)) (n:Nat):Nat→Nat
 | 0=>0
 | k+1=>if (l.getD k (0,0)).1≤n then k else symK l n k
def symS (l:List (Nat×Nat)) (n:Nat):Nat:=symK l n l.length
theorem symK_lt (l:List (Nat×Nat)) (n:Nat):∀ k,0 < k→symK l n k < k
 | 0,h=>absurd h (by omega)
 | k+1,_=>by
  unfold symK
  split
  ·omega
  ·rcases Nat.eq_zero_or_pos k with h | h
   ·subst h;show symK l n 0 < 1;unfold symK;omega
   ·have:=symK_lt l n k h;omega
theorem symS_lt (l:List (Nat×Nat)) (n:Nat) (h:0 < l.length):symS l n < l.length:=symK_lt l n _ h
theorem symK_le (l:List (Nat×Nat)) (n:Nat) (h0:(l.getD 0 (0,0)).1≤n):∀ k,0 < k→(l.getD (symK l n k) (0,0)).1≤n
 | 0,h=>absurd h (by omega)
 | k+1,_=>by
  unfold symK
  split
  ·assumption
  ·rcases Nat.eq_zero_or_pos k with h | h
   ·subst h;exact h0
   ·exact symK_le l n h0 k h
theorem symS_le (l:List (Nat×Nat)) (n:Nat) (h:0 < l.length) (h0:(l.getD 0 (0,0)).1≤n):(l.getD (symS l n) (0,0)).1≤n:=symK_le l n h0 _ h
def bump (l:List Nat) (i:Nat):List Nat:=l.set i (l.getD i 0+1)
theorem bump_len (l:List Nat) (i:Nat):(bump l i).length=l.length:=by simp[bump]
theorem bump_sum (l:List Nat) (i:Nat) (h:i < l.length):(bump l i).sum=l.sum+1:=by
 unfold bump
 induction l generalizing i with
 | nil=>simp at h
 | cons a l ih=>
  cases i with
  | zero=>simp;omega
  | succ i=>
   have:=ih i (by simpa using h)
   simp only[List.set_cons_succ,List.sum_cons,List.getD_cons_succ]
   rw[this];omega
def cstep (s:List Nat×List Nat) (t:Tok):List Nat×List Nat:=
 if t.2.1=0 then (bump s.1 t.1.toNat,s.2) else (bump s.1 (257+symS Inf.sameL t.2.1.toNat),bump s.2 (symS Inf.farL t.2.2.toNat))
def countsK (l:List Tok):List Nat×List Nat:=l.foldl cstep (List.replicate 286 0,List.replicate 30 0)
def countsP (l:List Tok):List Nat×List Nat:=(bump (countsK l).1 256,(countsK l).2)
theorem countsK_snoc (l:List Tok) (t:Tok):countsK (l++[t])=cstep (countsK l) t:=by unfold countsK;rw[List.foldl_append];rfl
theorem cstep_len (s:List Nat×List Nat) (t:Tok):(cstep s t).1.length=s.1.length∧(cstep s t).2.length=s.2.length:=by
 unfold cstep
 split
 ·exact⟨bump_len _ _,rfl⟩
 ·exact⟨bump_len _ _,bump_len _ _⟩
theorem countsK_len (l:List Tok):(countsK l).1.length=286∧(countsK l).2.length=30:=by
 unfold countsK
 have key:∀ (l:List Tok) (s:List Nat×List Nat),(l.foldl cstep s).1.length=s.1.length∧(l.foldl cstep s).2.length=s.2.length:=by
  intro l
  induction l with
  | nil=>intro s;exact⟨rfl,rfl⟩
  | cons t l ih=>intro s;rw[List.foldl_cons];have h:=ih (cstep s t);have k:=cstep_len s t;exact⟨h.1.trans k.1,h.2.trans k.2⟩
 obtain⟨h1,h2⟩:=key l (List.replicate 286 0,List.replicate 30 0)
 exact⟨h1.trans List.length_replicate,h2.trans List.length_replicate⟩
def lensP (l:List Tok):List Nat×List Nat:=(lengthsP (countsP l).1 15,lengthsP (countsP l).2 15)
def fillR (v:Nat):Nat→Nat→List (Nat×Nat×Nat)
 | 0,_=>[]
 | f+1,n=>
  if n=0 then []
  else if v=0∧11≤n then (18,min n 138 - 11,7) :: fillR v f (n - min n 138)
  else if v=0∧3≤n then (17,min n 10 - 3,3) :: fillR v f (n - min n 10)
  else if v≠0∧3≤n then (16,min n 6 - 3,2) :: fillR v f (n - min n 6)
  else (v,0,0) :: fillR v f (n - 1)
def runN (l:List Nat) (i:Nat):Nat:=1+((l.drop (i+1)).takeWhile fun x=>x == l.getD i 0).length
def oneRun (v n:Nat):List (Nat×Nat×Nat):=if v=0 then fillR 0 n n else (v,0,0) :: fillR v (n - 1) (n - 1)
def runsF (l:List Nat):Nat→Nat→List (Nat×Nat×Nat)
 | 0,_=>[]
 | f+1,i=>if l.length≤i then [] else oneRun (l.getD i 0) (runN l i)++runsF l f (i+runN l i)
def runsP (l:List Nat):List (Nat×Nat×Nat):=runsF l l.length 0
def trimN (l:List Nat) (least:Nat):Nat→Nat
 | 0=>0
 | n+1=>if least < n+1∧l.getD n 0=0 then trimN l least n else n+1
def trimP (l:List Nat) (least:Nat):List Nat:=l.take (trimN l least l.length)
theorem trimN_le (l:List Nat) (least:Nat):∀ n,trimN l least n≤n
 | 0=>Nat.le_refl _
 | n+1=>by
  unfold trimN
  split
  ·exact Nat.le_succ_of_le (trimN_le l least n)
  ·exact Nat.le_refl _
theorem trimN_ge (l:List Nat) (least:Nat):∀ n,least≤n→least≤trimN l least n
 | 0,h=>h
 | n+1,h=>by
  unfold trimN
  split
  ·exact trimN_ge l least n (by omega)
  ·exact h
def manyP (rs:List (Nat×Nat×Nat)):List Nat:=rs.foldl (fun m x=>bump m x.1) (List.replicate 19 0)
def codeB (ls:List Nat) (i:Nat):List Bool:=hi (ls.getD i 0) (codeOf ls i)
def headB (lit far:List Nat):List Bool:=
 numBits ((trimP lit 257).length - 257) 5++numBits ((trimP far 1).length - 1) 5 ++
 numBits ((trimP (Inf.orderL.map fun k=>(lengthsP (manyP (runsP (trimP lit 257++trimP far 1))) 7).getD k 0) 4).length - 4) 4 ++
 (trimP (Inf.orderL.map fun k=>(lengthsP (manyP (runsP (trimP lit 257++trimP far 1))) 7).getD k 0) 4).flatMap (fun n=>numBits n 3) ++
 (runsP (trimP lit 257++trimP far 1)).flatMap fun x=>codeB (lengthsP (manyP (runsP (trimP lit 257++trimP far 1))) 7) x.1++numBits x.2.1 x.2.2
def tokB (lit far:List Nat) (t:Tok):List Bool:=
 if t.2.1=0 then codeB lit t.1.toNat
 else codeB lit (257+symS Inf.sameL t.2.1.toNat)++numBits (t.2.1.toNat - (Inf.sameL.getD (symS Inf.sameL t.2.1.toNat) (0,0)).1) (Inf.sameL.getD (symS Inf.sameL t.2.1.toNat) (0,0)).2 ++
  codeB far (symS Inf.farL t.2.2.toNat)++numBits (t.2.2.toNat - (Inf.farL.getD (symS Inf.farL t.2.2.toNat) (0,0)).1) (Inf.farL.getD (symS Inf.farL t.2.2.toNat) (0,0)).2
def bodyB (l:List Tok) (lit far:List Nat):List Bool:=l.flatMap (tokB lit far)++codeB lit 256
def oneB (r:List Bool) (b:List UInt8) (kind:Nat) (last:Bool):List Bool:=
 if kind=0 then pad (r++[last]++numBits 0 2)++numBits b.length 16++numBits (65535 - b.length) 16++bitsL b
 else if kind=1 then r++[last]++numBits 1 2++bodyB (toks b) Inf.fixedA Inf.fixedB
 else r++[last]++numBits kind 2++headB (lensP (toks b)).1 (lensP (toks b)).2++bodyB (toks b) (lensP (toks b)).1 (lensP (toks b)).2
def packK (parts:List (List UInt8)) (kinds:List Nat):Nat→List Bool
 | 0=>[]
 | i+1=>oneB (packK parts kinds i) (parts.getD i []) (kinds.getD i 0) (decide (i+1=parts.length))
def packB (parts:List (List UInt8)) (kinds:List Nat):List UInt8:=pack (packK parts kinds parts.length)
def packE (parts:List (List UInt8)) (kinds:List Int):Nat→Nat→Nat→Int
 | 0,_,_=>0
 | f+1,i,n=>if 3000 < n+(parts.getD i []).length∨40≤i then 2 else if kinds.getD i 0 < 0∨2 < kinds.getD i 0 then 3 else packE parts kinds f (i+1) (n+(parts.getD i []).length)
end Go.Proofs.YtabdianhoabhhaaGreatDoor.Blk
namespace Go.Proofs.YtabdianhoabhhaaGreatDoor.Blk
open Go Go.RowKit Go.Proofs.YtabdianhoabhhaaGreatDoor Go.Proofs.YtabdianhoabhhaaGreatDoor.Bits Go.Proofs.YtabdianhoabhhaaGreatDoor.Code Go.Proofs.YtabdianhoabhhaaGreatDoor.Inf
set_option linter.unusedVariables false
theorem symK_succ (l:List (Nat×Nat)) (n k:Nat) (h:k < l.length):symK l n (k+1)=if l[k].1≤n then k else symK l n k:=by
 show (if (l.getD k (0,0)).1≤n then k else symK l n k)=_
 rw[List.getD_eq_getElem?_getD,List.getElem?_eq_getElem h];rfl
set_option maxRecDepth 100000 in
set_option maxHeartbeats 1600000 in
theorem symbol_any (A:Option Addr) (m c:Nat) (l:List (Nat×Nat)) (n:Nat) (w:World) (hm:l.length=m) (hx:m≤1000) (hA:SlAt w A (l.flatMap exC)) :
  Calls Tryz.prog 199 #[.slice A m c,.int .i64 (n:Int)] w fun e w'=>e=.returned (.int .i64 (symS l n:Int))∧Below w.heap.size w w':=by
 have HM:=Lib.hid hm
 have HA:=Lib.hid hA
 clear hm hA
 go_enter Tryz.func199,Tryz.ntmps199
 go_wp2_with fail
 go_loopw [5,10] (fun r i wr=>∃ k:Nat,k≤m∧i=.int .i64 (k:Int)∧r=.int .i64 (symK l n k:Int)∧Below w.heap.size w wr) (fun _ i _=>m - (intOf i).toNat)
 case atStart=>exact⟨0,Nat.zero_le _,rfl,rfl,Below.refl _ _⟩
 case round=>
  obtain⟨k,hk,rfl,rfl,hb⟩:=hrel
  have Hb:=Lib.hid hb
  clear hb
  by_cases hlt:k < m
  ·have hkl:k < l.length:=by rw[HM.out];exact hlt
   obtain⟨b,o,rfl,hc⟩:=slat_elem (size:=2) (fun _=>rfl) (by omega) (HA.out.below Hb.out) hkl
   have hc0:=hc 0 _ rfl
   have hc1:=hc 1 _ rfl
   have Hs:=Lib.hid (symK_succ l n k hkl)
   simp only[Nat.add_zero]at hc0
   clear hc
   generalize l[k]=x at *
   obtain⟨x0,x1⟩:=x
   dsimp only at hc0 hc1 Hs
   generalize symK l n k=s at *
   have Hb2:=Lib.hid (Hb.out.alloc Hb.out.size (.cells #[.int .i64 (x0:Int),.int .i64 (x1:Int)] 259))
   by_cases h:x0≤n
   ·have hi:(x0:Int)≤(n:Int):=by omega
    rw[if_pos h]at Hs
    go_wp2_with fail
    go_roundw
    case rel=>exact⟨k+1,by omega,by go_num,by rw[Hs.out],Hb2.out⟩
    case measure=>simp[intOf];omega
   ·have hi:¬ (x0:Int)≤(n:Int):=by omega
    rw[if_neg h]at Hs
    go_wp2_with fail
    go_roundw
    case rel=>exact⟨k+1,by omega,by go_num,by rw[Hs.out],Hb2.out⟩
    case measure=>simp[intOf];omega
  ·obtain rfl:k=m:=by omega
   have Hs:Hid (symS l n=symK l n k):=Lib.hid (by unfold symS;rw[HM.out])
   rw[←Hs.out]
   go_wp2_with fail
   go_ret
   exact⟨rfl,Hb.out⟩
theorem trimN_more (l:List Nat) (least k:Nat) (h:least < k+1) (h2:k < l.length) (h0:l[k]=0):trimN l least (k+1)=trimN l least k:=by
 conv=>lhs;unfold trimN
 rw[if_pos ⟨h,by rw[List.getD_eq_getElem?_getD,List.getElem?_eq_getElem h2];exact h0⟩]
theorem trimN_last (l:List Nat) (least k:Nat) (h:¬ least < k):trimN l least k=k:=by
 cases k with
 | zero=>rfl
 | succ k=>unfold trimN;rw[if_neg (fun hh=>h hh.1)]
theorem trimN_end (l:List Nat) (least k:Nat) (h2:k < l.length) (h0:l[k]≠0):trimN l least (k+1)=k+1:=by
 unfold trimN
 rw[if_neg (fun hh=>h0 (by have:=hh.2;rw[List.getD_eq_getElem?_getD,List.getElem?_eq_getElem h2]at this;exact this))]
set_option maxRecDepth 100000 in
set_option maxHeartbeats 1600000 in
theorem trimmed_any (b o m c:Nat) (l:List Nat) (least:Nat) (w:World) (hm:l.length=m) (hmc:m≤c) (hx:m≤1000) (hA:SlAt w (some ⟨b,o,none⟩) (l.map natV)) (hl:least≤1000) :
  Calls Tryz.prog 191 #[.slice (some ⟨b,o,none⟩) m c,.int .i64 (least:Int)] w fun e w'=>e=.returned (.slice (some ⟨b,o,none⟩) (trimN l least m) c)∧w'=w:=by
 have HM:=Lib.hid hm
 have HA:=Lib.hid hA
 clear hm hA
 go_enter Tryz.func191,Tryz.ntmps191
 go_wp2_with fail
 go_loop [5] (fun i=>∃ k:Nat,k≤m∧i=.int .i64 (k:Int)∧trimN l least m=trimN l least k) (fun i=>(intOf i).toNat)
 case atStart=>exact⟨m,Nat.le_refl _,rfl,rfl⟩
 case round=>
  obtain⟨k,hk,rfl,ht⟩:=hrel
  have Ht:=Lib.hid ht
  clear ht
  by_cases hlt:least < k
  ·obtain⟨j,rfl⟩:∃ j,k=j+1:=⟨k - 1,by omega⟩
   have hjl:j < l.length:=by rw[HM.out];omega
   obtain⟨b',o',e,hc⟩:=HA.out.get (k:=j) (by simpa using hjl)
   injection e with e
   injection e with e1 e2
   subst e1 e2
   simp only[List.getElem_map,natV]at hc
   have hw:IntKind.i64.wrap ((j:Int)+1 - 1)=(j:Int):=by rw[show (j:Int)+1 - 1=(j:Int) by omega];exact IntWalk.i64_in _ (by omega)
   have hli:(least:Int) < (j:Int)+1:=by omega
   by_cases h0:l[j]=0
   ·have Hn:=Lib.hid (Ht.out.trans (trimN_more l least j hlt hjl h0))
    rw[h0]at hc
    clear h0
    go_wp2_with fail
    go_round
    case rel=>exact⟨j,by omega,rfl,Hn.out⟩
    case measure=>simp[intOf]
   ·have Hn:=Lib.hid (Ht.out.trans (trimN_end l least j hjl h0))
    generalize hx0:l[j]=x0 at *
    have hz:((x0:Int) == 0)=false:=by rw[beq_eq_false_iff_ne];omega
    clear hx0 h0
    go_wp2_with fail
    go_ret
    exact⟨by rw[Hn.out];rfl,rfl⟩
  ·have Hn:=Lib.hid (Ht.out.trans (trimN_last l least k hlt))
   have hb:¬ (least:Int) < (k:Int):=by omega
   have hkc:(k:Int)≤(c:Int):=by omega
   clear hlt
   go_wp2_with fail
   go_ret
   exact⟨by rw[Hn.out];rfl,rfl⟩
end Go.Proofs.YtabdianhoabhhaaGreatDoor.Blk
namespace Go.Proofs.YtabdianhoabhhaaGreatDoor.Blk
open Go.Proofs.YtabdianhoabhhaaGreatDoor.Match
set_option linter.unusedVariables false
theorem bump_sum_le (l:List Nat) (i:Nat):(bump l i).sum≤l.sum+1:=by
 by_cases h:i < l.length
 ·rw[bump_sum l i h];exact Nat.le_refl _
 ·unfold bump
  rw[List.set_eq_of_length_le (by omega)];omega
theorem countsK_sum (l:List Tok):(countsK l).1.sum≤l.length∧(countsK l).2.sum≤l.length:=by
 have key:∀ (l:List Tok) (s:List Nat×List Nat),(l.foldl cstep s).1.sum≤s.1.sum+l.length∧(l.foldl cstep s).2.sum≤s.2.sum+l.length:=by
  intro l
  induction l with
  | nil=>intro s;exact⟨Nat.le_refl _,Nat.le_refl _⟩
  | cons t l ih=>
   intro s
   rw[List.foldl_cons,List.length_cons]
   have h:=ih (cstep s t)
   have k:(cstep s t).1.sum≤s.1.sum+1∧(cstep s t).2.sum≤s.2.sum+1:=by
    unfold cstep
    split
    ·exact⟨bump_sum_le _ _,by show s.2.sum≤_;omega⟩
    ·exact⟨bump_sum_le _ _,bump_sum_le _ _⟩
   omega
 have z:∀ n,(List.replicate n 0).sum=0:=by intro n;simp
 have h:=key l (List.replicate 286 0,List.replicate 30 0)
 rw[z,z,Nat.zero_add]at h
 exact h
theorem le_sum (l:List Nat) (x:Nat) (h:x∈l):x≤l.sum:=by
 induction l with
 | nil=>cases h
 | cons a l ih=>
  rw[List.sum_cons]
  rcases List.mem_cons.1 h with rfl | h
  ·omega
  ·have:=ih h;omega
theorem counts_small (l:List Tok):(∀ x∈(countsP l).1,x≤l.length+1)∧∀ x∈(countsP l).2,x≤l.length:=by
 have h:=countsK_sum l
 constructor
 ·intro x hx
  have h1:=le_sum _ x hx
  have h2:=bump_sum_le (countsK l).1 256
  have h3:(countsP l).1=bump (countsK l).1 256:=rfl
  rw[h3]at h1
  omega
 ·intro x hx
  have h1:=le_sum _ x hx
  have h3:(countsP l).2=(countsK l).2:=rfl
  rw[h3]at h1
  omega
theorem counts_len (l:List Tok):(countsP l).1.length=286∧(countsP l).2.length=30:=by
 have h:=countsK_len l
 exact⟨(bump_len _ _).trans h.1,h.2⟩
end Go.Proofs.YtabdianhoabhhaaGreatDoor.Blk
namespace Go.Proofs.YtabdianhoabhhaaGreatDoor
open Go Go.RowKit
set_option linter.unusedVariables false
def KAt (w:World) (e:TypeId) (A:Option Addr) (cs:List Value):Prop:=
 0 < cs.length→∃ b o cur,A=some ⟨b,o,none⟩∧w.heap[b]?=some (.cells cur e (0,0))∧∀ j v,cs[j]?=some v→cur[o+j]?=some v
section
variable {w w':World} {e:TypeId} {A:Option Addr} {cs:List Value}
theorem KAt.slat (h:KAt w e A cs):SlAt w A cs:=fun hp=>by
 obtain⟨b,o,cur,hA,hb,hc⟩:=h hp
 exact⟨b,o,hA,fun j v hj=>by rw[cell_of_row w b _ cur e (0,0) hb];exact hc j v hj⟩
theorem KAt.keeps {base:Nat} {T:List TypeId} (h:KAt w e A cs) (hk:Keeps base T w w') (ht:e∉T):KAt w' e A cs:=fun hp=>by
 obtain⟨b,o,cur,hA,hb,hc⟩:=h hp
 exact⟨b,o,cur,hA,hk.other b _ hb fun cs' t' fr he=>by injection he with e1 e2;rw[←e2];exact ht,hc⟩
theorem KAt.below (h:KAt w e A cs) (hb:Below w.heap.size w w'):KAt w' e A cs:=fun hp=>by
 obtain⟨b,o,cur,hA,hh,hc⟩:=h hp
 exact⟨b,o,cur,hA,by rw[hb.block b (lt_of_block hh)];exact hh,hc⟩
theorem KAt.nil:KAt w e A []:=fun h=>absurd h (by simp)
theorem KAt.take (h:KAt w e A cs) (n:Nat):KAt w e A (cs.take n):=fun hp=>by
 obtain⟨b,o,cur,hA,hb,hc⟩:=h (by simp at hp;omega)
 refine⟨b,o,cur,hA,hb,fun j v hj=>hc j v ?_⟩
 rw[List.getElem?_take]at hj
 split at hj
 ·exact hj
 ·cases hj
theorem KAt.drop {b o:Nat} (h:KAt w e (some ⟨b,o,none⟩) cs) (n:Nat):KAt w e (some ⟨b,o+n,none⟩) (cs.drop n):=fun hp=>by
 obtain⟨b',o',cur,hA,hb,hc⟩:=h (by simp at hp;omega)
 injection hA with hA;injection hA with e1 e2 e3
 subst e1 e2
 refine⟨b,o+n,cur,rfl,hb,fun j v hj=>?_⟩
 rw[List.getElem?_drop]at hj
 rw[Nat.add_assoc]
 exact hc _ _ hj
theorem own_kat {base size n:Nat} {v:Value} (hown:w.ownsRow base e size v n cs):∃ A cap,v=.slice A n cap∧n≤cap∧cap≤maxLen∧KAt w e A cs∧(A=none→n=0):=by
 rcases hown.2 with ⟨rfl,rfl⟩ | ⟨g,cap,cur,rfl,hbg,hg,hnc,hcm,hcs,htake⟩
 ·have:cs=[]:=List.eq_nil_of_length_eq_zero (by simpa using hown.1)
  subst this
  exact⟨none,0,rfl,Nat.le_refl _,by unfold maxLen;omega,KAt.nil,fun _=>rfl⟩
 ·refine⟨_,cap,rfl,hnc,hcm,fun _=>⟨g,0,cur,rfl,hg,fun j u hu=>?_⟩,by simp⟩
  rw[←htake,List.getElem?_take]at hu
  split at hu
  ·simpa using hu
  ·cases hu
theorem Blk.kat {g:Nat} {a:Array Value} (h:Blk w g e a):KAt w e (some ⟨g,0,none⟩) a.toList:=fun _=>⟨g,0,a,rfl,h,fun j v hj=>by simpa using hj⟩
theorem Below.keeps {base:Nat} {T:List TypeId} (h:Below w.heap.size w w') (hb:base≤w.heap.size):Keeps base T w w':=Keeps.of_below h hb
end
end Go.Proofs.YtabdianhoabhhaaGreatDoor
