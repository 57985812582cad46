/- texts joined: ZipArch ZipRef ZipBest ZipOf ZipEntry ZipCatch ZipMore ZipPut. -/
import Derived.Test.YtabdianhoabhhaaGreatDoorSbQ9
import Derived.Test.YtabdianhoabhhaaGreatDoorSbQ4
import Derived.Test.YtabdianhoabhhaaGreatDoorSbQ3
import Derived.Test.YtabdianhoabhhaaGreatDoorSbQ8
import Derived.Test.YtabdianhoabhhaaGreatDoorSbQ6
import Derived.Test.YtabdianhoabhhaaGreatDoorSbQ7
namespace Go.Proofs.YtabdianhoabhhaaGreatDoor.Zip
open Go Go.RowKit Go.Proofs.YtabdianhoabhhaaGreatDoor Go.Proofs.YtabdianhoabhhaaGreatDoor.Bits Go.Proofs.YtabdianhoabhhaaGreatDoor.Merge Go.Proofs.YtabdianhoabhhaaGreatDoor.Name
open Go.Proofs.YtabdianhoabhhaaGreatDoor.Inf (DR)
set_option linter.unusedVariables false
set_option linter.unusedSimpArgs false
theorem _root_.Go.Proofs.YtabdianhoabhhaaGreatDoor.Inf.DR.less {base B0 B1:Nat} {T:List TypeId} {w w':World} (h:DR base B0 T w w') (hb:B1≤B0):DR base B1 T w w':=
 ⟨h.os,h.tape,h.output,h.size,h.block,fun k o hk=>h.other k o (by omega)⟩
theorem _root_.Go.Proofs.YtabdianhoabhhaaGreatDoor.Inf.DR.toBelow {base B0:Nat} {T:List TypeId} {w w':World} (h:DR base B0 T w w'):Below base w w':=⟨h.os,h.tape,h.output,h.size,h.block⟩
def OT:List TypeId:=[78]
def VI (B:Nat) (w:World) (x:Ex):Prop:=∀ w',DR B w.heap.size OT w w'→Jj w' x
theorem VI.at_ {B:Nat} {w:World} {x:Ex} (h:VI B w x):Jj w x:=h w (DR.refl _ _ _ _)
theorem VI.old {B:Nat} {w w1:World} {x:Ex} (h:VI B w x) (hk:DR B w.heap.size OT w w1):VI B w1 x:=fun w2 h2=>h w2 (hk.trans (h2.less hk.size))
def setAt (x:Ex) (n:Nat):Ex:=⟨x.e,x.bs,x.pk,n⟩
theorem Jj.Ca {w:World} {x:Ex} (h:Jj w x) (n:Nat):Jj w (setAt x n):=⟨h.yU,h.yV,h.AE4,h.bat,h.yX,h.yY,h.AE5,h.pat⟩
def Cn (l:List Ex):List Dp:=l.map Ex.e
def Lp:List Ex→Nat→List Ex
 | [],_=>[]
 | x :: l,n=>setAt x n :: Lp l (n+(Cs x.e).length)
theorem LF:∀ (l:List Ex) (n:Nat),(Lp l n).length=l.length
 | [],_=>rfl
 | x :: l,n=>by unfold Lp;rw[List.length_cons,LF l,List.length_cons]
theorem aO:∀ (l:List Ex) (x:Ex) (n:Nat),Lp (l++[x]) n=Lp l n++[setAt x (n+(Bi (Cn l)).length)]
 | [],x,n=>by simp[Lp,Cn,Bi]
 | y :: l,x,n=>by
  rw[List.cons_append,Lp,aO l x,Lp,List.cons_append]
  simp only[Cn,List.map_cons,Bi,List.flatMap_cons,List.length_append,Nat.add_assoc]
theorem AH5 (l:List Ex) (n:Nat):Cn (Lp l n)=Cn l:=by
 induction l generalizing n with
 | nil=>rfl
 | cons x l ih=>
  have h:=ih (n+(Cs x.e).length)
  unfold Cn at h⊢
  rw[Lp,List.map_cons,h];rfl
def JP (l:List Ex) (k:Nat):List Ex:=Lp (l.take k) 0++l.drop k
theorem Ua (l:List Ex) (k:Nat) (h:k≤l.length):(JP l k).length=l.length:=by
 unfold JP;rw[List.length_append,LF,List.length_take,List.length_drop];omega
theorem yZ (l:List Ex) (k:Nat) (h:k < l.length):(JP l k)[k]?=some l[k]:=by
 unfold JP
 rw[List.getElem?_append_right (by rw[LF,List.length_take];omega),LF,List.length_take,List.getElem?_drop,show k+(k - min k l.length)=k by omega,List.getElem?_eq_getElem h]
theorem WT (l:List Ex) (k:Nat) (h:k < l.length):JP l (k+1)=(JP l k).set k (setAt l[k] (Bi (Cn (l.take k))).length):=by
 unfold JP
 rw[List.take_succ_eq_append_getElem h,aO,List.set_append_right _ _ (by rw[LF,List.length_take];omega),LF,List.length_take,show k - min k l.length=0 by omega,List.drop_eq_getElem_cons h,List.set_cons_zero,List.append_assoc,Nat.zero_add]
 rfl
theorem WU:∀ (L:List Ex) (k n:Nat) (h:k < L.length),(L.flatMap eC).set (k*9+8) (.int .i64 (n:Int))=(L.set k (setAt (L[k]'h) n)).flatMap eC
 | [],k,n,h=>by simp at h
 | x :: L,0,n,h=>rfl
 | x :: L,k+1,n,h=>by
  have ih:=WU L k n (by simpa using h)
  rw[List.flatMap_cons,List.set_append_right _ _ (by rw[YD];omega),YD,show (k+1)*9+8 - 9=k*9+8 by omega,ih]
  rfl
theorem Qb {w:World} {g:Nat} {L:List Ex} (h:AR w (some ⟨g,0,none⟩) (L.flatMap eC)) {k:Nat} {x:Ex} (hk:L[k]?=some x) :
  w.cell? ⟨g,k*9,none⟩=some (.string (Name.AQ x.e.f.name))∧w.cell? ⟨g,k*9+1,none⟩=some (Cj x.bs)∧w.cell? ⟨g,k*9+2,none⟩=some (.int .i64 x.e.f.stamp)∧w.cell? ⟨g,k*9+3,none⟩=some (.int .i64 x.e.f.node)∧w.cell? ⟨g,k*9+4,none⟩=some (.bool x.e.f.gone)∧
  w.cell? ⟨g,k*9+5,none⟩=some (.int .i64 (x.e.method:Int))∧w.cell? ⟨g,k*9+6,none⟩=some (Cj x.pk)∧w.cell? ⟨g,k*9+7,none⟩=some (.int .u32 (x.e.crc:Int))∧w.cell? ⟨g,k*9+8,none⟩=some (.int .i64 (x.at_:Int)):=by
 have hl:k < L.length:=by
  rcases Nat.lt_or_ge k L.length with h1 | h1
  ·exact h1
  ·rw[List.getElem?_eq_none h1]at hk;cases hk
 rw[List.getElem?_eq_getElem hl]at hk
 injection hk with hk
 obtain⟨b,o,e,hc⟩:=EJ (size:=9) YD (by omega) h hl
 injection e with e
 injection e with e1 e2 e3
 subst e1 e2
 rw[hk]at hc
 simp only[Nat.zero_add]at hc
 exact⟨hc 0 _ rfl,hc 1 _ rfl,hc 2 _ rfl,hc 3 _ rfl,hc 4 _ rfl,hc 5 _ rfl,hc 6 _ rfl,hc 7 _ rfl,hc 8 _ rfl⟩
structure Qc (w:World) (B:Nat) (v1:Value) (xs:List UInt8) (v2:Value) (ys:List UInt8):Prop where
 one:BP w B v1 xs
 two:BP w B v2 ys
 apart:∀ g,v1.ownBlock=some g→v2.ownBlock≠some g
theorem Qc.keep {w w':World} {B:Nat} {v1 v2:Value} {xs ys:List UInt8} (h:Qc w B v1 xs v2 ys) (hb:Below w.heap.size w w'):Qc w' B v1 xs v2 ys:=⟨h.one.keep hb,h.two.keep hb,h.apart⟩
theorem Qc.symm {w:World} {B:Nat} {v1 v2:Value} {xs ys:List UInt8} (h:Qc w B v1 xs v2 ys):Qc w B v2 ys v1 xs:=⟨h.two,h.one,fun g h1 h2=>h.apart g h2 h1⟩
theorem Qc.grown {w w':World} {B:Nat} {v1 v2 v':Value} {xs ys zs:List UInt8} (h:Qc w B v1 xs v2 ys) (ho:BP w' B v' zs) (hg:w.grownBy w' v1.ownBlock) (hl:v'.ownBlock=v1.ownBlock∨v'.ownBlock=some w.heap.size):Qc w' B v' zs v2 ys:=by
 refine⟨ho,jk h.two hg h.apart,fun g h1 h2=>?_⟩
 rcases hl with e | e
 ·exact h.apart g (by rw[←e];exact h1) h2
 ·rw[e]at h1
  injection h1 with h1
  have:=(h.two.lt _ h2).2
  omega
theorem Qc.store {w:World} {B B2:Nat} {v1 v2:Value} {xs ys:List UInt8} (h:Qc w B v1 xs v2 ys) {g m c n:Nat} {cs:List Value} (hown:w.ownsRow B2 78 9 (.slice (some ⟨g,0,none⟩) m c) n cs) (i:Nat) (u:Value):Qc (w.setCell ⟨g,i,none⟩ u) B v1 xs v2 ys:=by
 have hk:AB B2 OT w (w.setCell ⟨g,i,none⟩ u):=(AB.refl _ _ _).stored hown (by simp[OT]) i u
 exact⟨hk.own h.one (by decide),hk.own h.two (by decide),h.apart⟩
theorem Ub (l:List Ex) (k:Nat):(Bi (Cn (l.take k))).length+(Bb (Cn (l.take k)) 0).length+22≤(laidB (Cn l)).length:=by
 have e:laidB (Cn (l.take k))=Bi (Cn (l.take k))++Bb (Cn (l.take k)) 0++Il (Cn (l.take k)):=rfl
 have h1:(laidB (Cn (l.take k))).length=(Bi (Cn (l.take k))).length+(Bb (Cn (l.take k)) 0).length+22:=by rw[e,List.length_append,List.length_append,NM]
 rw[←h1,KQ,KQ]
 have h2:((Cn l).map KR).sum=((Cn (l.take k)).map KR).sum+((Cn (l.drop k)).map KR).sum:=by
  conv=>lhs;rw[←List.take_append_drop k l]
  unfold Cn
  rw[List.map_append,List.map_append,List.sum_append]
 omega
theorem qA (l:List Ex) (k:Nat) (x:Ex) (h:l[k]?=some x):Bi (Cn (l.take (k+1)))=Bi (Cn (l.take k))++Cs x.e∧Bb (Cn (l.take (k+1))) 0=Bb (Cn (l.take k)) 0++EO x.e (Bi (Cn (l.take k))).length:=by
 have hl:k < l.length:=by
  rcases Nat.lt_or_ge k l.length with h1 | h1
  ·exact h1
  ·rw[List.getElem?_eq_none h1]at h;cases h
 rw[List.getElem?_eq_getElem hl]at h
 injection h with h
 have e:Cn (l.take (k+1))=Cn (l.take k)++[x.e]:=by
  unfold Cn
  rw[List.take_succ_eq_append_getElem hl,List.map_append,h];rfl
 rw[e,gV,RA,Nat.zero_add]
 exact⟨rfl,rfl⟩
theorem yf (l:List Ex) (k:Nat) (x:Ex) (h:l[k]?=some x):(JP l (k+1))[k]?=some (setAt x (Bi (Cn (l.take k))).length):=by
 have hl:k < l.length:=by
  rcases Nat.lt_or_ge k l.length with h1 | h1
  ·exact h1
  ·rw[List.getElem?_eq_none h1]at h;cases h
 rw[WT l k hl,List.getElem?_set_self (by rw[Ua l k (by omega)];exact hl)]
 rw[List.getElem?_eq_getElem hl]at h
 injection h with h
 rw[h]
theorem yg {w w':World} {base B0:Nat} {e:TypeId} {size n:Nat} {v:Value} {xs:List Value} (h:w.ownsRow base e size v n xs) (hv:∀ b,v.ownBlock=some b→b < B0) (hb:Below B0 w w'):w'.ownsRow base e size v n xs:=by
 obtain⟨h1,h2⟩:=h
 refine⟨h1,?_⟩
 rcases h2 with h | ⟨g,cap,cur,rfl,hbg,r⟩
 ·exact .inl h
 ·have hg:g < B0:=hv g rfl
  refine .inr ⟨g,cap,cur,rfl,hbg,?_⟩
  rw[hb.block g hg]
  exact r
theorem WV {w:World} {B g c n k nb:Nat} {L:List Ex} {x:Ex} (h:w.ownsRow B 78 9 (.slice (some ⟨g,0,none⟩) n c) n (L.flatMap eC)) (hk:L[k]?=some (setAt x nb)) :
  w.cell? ⟨g,k*9,none⟩=some (.string (Name.AQ x.e.f.name))∧w.cell? ⟨g,k*9+1,none⟩=some (Cj x.bs)∧w.cell? ⟨g,k*9+2,none⟩=some (.int .i64 x.e.f.stamp)∧w.cell? ⟨g,k*9+3,none⟩=some (.int .i64 x.e.f.node)∧w.cell? ⟨g,k*9+4,none⟩=some (.bool x.e.f.gone)∧
  w.cell? ⟨g,k*9+5,none⟩=some (.int .i64 (x.e.method:Int))∧w.cell? ⟨g,k*9+6,none⟩=some (Cj x.pk)∧w.cell? ⟨g,k*9+7,none⟩=some (.int .u32 (x.e.crc:Int))∧w.cell? ⟨g,k*9+8,none⟩=some (.int .i64 (nb:Int)):=by
 obtain⟨_,_,e1,_,_,hs,_⟩:=Ag h
 injection e1 with e1 _ e2
 subst e1 e2
 exact Qb hs hk
set_option maxRecDepth 100000 in
set_option maxHeartbeats 3000000 in
theorem RB (B:Nat) (v:Value) (l:List Ex) (w:World) (hB:B≤w.heap.size) (hown:w.ownsRow B 78 9 v l.length (l.flatMap eC)) (hg:∀ x∈l,Good x.e) (hp:∀ x∈l,VI B w x) (hl:l.length≤13) (hz:(laidB (Cn l)).length≤1000000) :
  Calls Tryz.prog 46 #[v] w fun e w'=>(∃ vb,e=.returned vb∧BP w' w.heap.size vb (laidB (Cn l)))∧w'.ownsRow B 78 9 v l.length ((Lp l 0).flatMap eC)∧DR B w.heap.size OT w w':=by
 obtain⟨A,c,rfl,hlc,hcm,_,ic⟩:=Ag hown
 obtain⟨n,hn⟩:∃ n,n=l.length:=⟨_,rfl⟩
 rw[←hn]at hown hlc ic hl⊢
 have Hn:=Lib.hid hn
 have HO:=Lib.hid hown
 have HP:=Lib.hid hp
 have HG:=Lib.hid hg
 have Hz:=Lib.hid hz
 obtain⟨B0,hB0⟩:∃ B0,B0=w.heap.size:=⟨_,rfl⟩
 rw[←hB0]at hB⊢
 have HB0:=Lib.hid hB0
 clear hn hown hp hg hz hB0
 go_enter Tryz.func46,Tryz.ntmps46
 go_wp2_with fail
 go_loopw [3,4,9] (fun vb vl vi wr=>∃ k,k≤n∧vi=.int .i64 (k:Int)∧Qc wr B0 vb (Bi (Cn (l.take k))) vl (Bb (Cn (l.take k)) 0)∧wr.ownsRow B 78 9 (.slice A n c) n ((JP l k).flatMap eC)∧DR B B0 OT w wr) (fun _ _ vi _=>n - (intOf vi).toNat)
 case atStart=>exact⟨0,Nat.zero_le _,rfl,⟨BP.nil _ _,BP.nil _ _,fun g hg=>by simp[Value.ownBlock]at hg⟩,by simpa [JP,Lp] using HO.out,DR.refl _ _ _ _⟩
 case round=>
  obtain⟨k,hk,rfl,ht,ho,hk1⟩:=hrel
  have HT:=Lib.hid ht
  have HOr:=Lib.hid ho
  have HKr:=Lib.hid hk1
  clear ht ho hk1
  by_cases hlt:k < n
  ·have hlt':(k:Int) < (n:Int):=by omega
   have hk0:(0:Int)≤(k:Int):=by omega
   obtain⟨g,cap,hv,_,_⟩:=HOr.out.form (by omega)
   injection hv with hv1 _ hv2
   subst hv1 hv2
   have hkl:k < l.length:=by rw[←Hn.out];exact hlt
   obtain⟨x,hx⟩:∃ x,l[k]?=some x:=⟨_,List.getElem?_eq_getElem hkl⟩
   have hxm:x∈l:=List.mem_of_getElem? hx
   have hsg:(JP l k)[k]?=some x:=by rw[yZ l k hkl,←hx,List.getElem?_eq_getElem hkl]
   obtain⟨_,_,e1,_,_,hsl,_⟩:=Ag HOr.out
   injection e1 with e1 _ e2
   subst e1 e2
   obtain⟨_,_,_,_,_,_,_,_,c8⟩:=Qb hsl hsg
   have f8:=HOr.out.frozenAt (k*9+8)
   have hht:=Ub l k
   have hz:=Hz.out
   obtain⟨Hk,hHk⟩:∃ H,H=Bi (Cn (l.take k)):=⟨_,rfl⟩
   obtain⟨Tk,hTk⟩:∃ T,T=Bb (Cn (l.take k)) 0:=⟨_,rfl⟩
   obtain⟨hn1,hn2⟩:=qA l k x hx
   have ABn:=yf l k x hx
   have hsn:=WT l k hkl
   have hxk:l[k]=x:=by rw[List.getElem?_eq_getElem hkl]at hx;injection hx
   rw[←hHk]at hn1 hn2 hsn hht HT ABn
   rw[←hTk]at hn2 hht HT
   rw[hxk]at hsn
   obtain⟨nb,hnb⟩:∃ nb,nb=Hk.length:=⟨_,rfl⟩
   rw[←hnb]at hn2 hsn hht ABn
   have HSg:=Lib.hid ABn
   have HXw:=Lib.hid (HP.out x hxm)
   clear ABn
   have hset:((JP l k).flatMap eC).set (k*9+8) (.int .i64 (nb:Int))=(JP l (k+1)).flatMap eC:=by
    rw[WU _ _ _ (by rw[Ua l k (by omega)];exact hkl),hsn]
    rw[List.getElem?_eq_getElem (by rw[Ua l k (by omega)];exact hkl)]at hsg
    injection hsg with hsg
    rw[hsg]
   have ANB:=Lib.hid hset
   have rG:=Lib.hid hn1
   have qo:=Lib.hid hn2
   have VC:=Lib.hid hnb
   have hgx:=HG.out x hxm
   have hpx:=(HP.out x hxm).old (by rw[←HB0.out];exact HKr.out)
   have HGx:=Lib.hid hgx
   have HPx:=Lib.hid hpx
   have hth:(Cs x.e).length≤1000000∧(EO x.e nb).length≤1000000:=by
    have h1:=Ub l (k+1)
    rw[hn1,hn2,List.length_append,List.length_append]at h1
    omega
   obtain⟨Ab,cb,rfl,hb1,hb2,_,_⟩:=HT.out.one.slice
   rw[←hnb]at hb1⊢
   have AE6:=(HOr.out.stored (k*9+8) (.int .i64 (nb:Int))).1
   rw[hset]at AE6
   have Cx:=Lib.hid AE6
   have HT2:=Lib.hid (HT.out.store HOr.out (k*9+8) (.int .i64 (nb:Int)))
   have Fv:Hid (DR B B0 OT w (wr.setCell ⟨g,k*9+8,none⟩ (.int .i64 (nb:Int)))):=Lib.hid (HKr.out.keeps ((AB.refl B OT wr).stored HOr.out (by simp[OT]) _ _))
   have AH6:=Lib.hid (HPx.out.old (show DR B wr.heap.size OT wr (wr.setCell ⟨g,k*9+8,none⟩ (.int .i64 (nb:Int))) from (DR.refl _ _ _ _).keeps ((AB.refl B OT wr).stored HOr.out (by simp[OT]) _ _)))
   clear hset hn1 hn2 hnb hgx hpx hsg hsl AE6 hsn hxk hHk hTk HT HOr HKr HPx hx hxm
   go_upto_region 6 with fail
   generalize wr.setCell ⟨g,k*9+8,none⟩ (.int .i64 (nb:Int))=w2 at *
   obtain⟨d0,d1,d2,d3,d4,d5,d6,d7,d8⟩:=WV Cx.out HSg.out
   have hB2:B0≤w2.heap.size:=by have:=Fv.out.size;rw[←HB0.out]at this;exact this
   have HH:=Lib.hid (yh (setAt x nb) w2 HGx.out (AH6.out.at_.Ca nb))
   clear c8 f8 AH6
   go_wp2_with fail
   refine (HH.out).mono ?_
   rintro e w3 ⟨⟨vh,rfl,hoh⟩,hb3⟩
   obtain⟨Ah,ch,rfl,hh1,hh2,hh3,hh4⟩:=hoh.slice
   have Hh3:=Lib.hid (show BD w3 Ah (Cs x.e) from hh3)
   have Hh4:=Lib.hid (show Ah=none→(Cs x.e).length=0 from hh4)
   have HT3:=Lib.hid (HT2.out.keep hb3)
   have XX:=Lib.hid (AP Cx.out hb3)
   have NR:=Lib.hid (Fv.out.below (hb3.mono hB2) hB)
   have hB3:B0≤w3.heap.size:=Nat.le_trans hB2 hb3.size
   clear hoh hb3 hh3 hh4 HH HT2 Cx Fv d0 d1 d2 d3 d4 d5 d6 d7 d8
   rw[show (Cs (setAt x nb).e).length=(Cs x.e).length from rfl]
   obtain⟨Hx,hHx⟩:∃ Hx,Hx=Cs x.e:=⟨_,rfl⟩
   rw[←hHx]at Hh3 Hh4 rG⊢
   have AKw:Hx.length≤1000000:=by rw[hHx];exact hth.1
   obtain⟨hxl,AE7⟩:∃ n,n=Hx.length:=⟨_,rfl⟩
   rw[←AE7]at Hh4 AKw⊢
   have AH7:=Lib.hid AE7.symm
   clear AE7 hHx
   go_wp2_with (at_builtin;refine AY _ rfl (.tmp 18) (.tmp 23) _ rfl B0 5 _ 1 1 yj _ nb (Hk.map Eh) rfl (by have:=HT3.out.one;unfold BP at this;rw[←VC.out]at this;exact this) Ah hxl ch (Hx.map Eh) rfl (by rw[List.length_map,AH7.out,Nat.mul_one]) Hh3.out (Ia Hx) Hh4.out (by unfold maxLen;omega) (by omega) hB3 ?_;intro v4 w4 DD hg4 ACn;have SF:BP w4 B0 v4 (Hk++Hx):=(by unfold BP;rw[List.length_append,List.map_append,←VC.out,AH7.out];exact DD);have Jv:=Lib.hid (HT3.out.grown SF (by rw[←VC.out];exact hg4) (by rw[←VC.out];exact ACn));have KL:=Lib.hid (Cv.LC XX.out HT3.out.one (by rw[←VC.out];exact hg4) (by decide));have qB:=Lib.hid (own_below HT3.out.one (by rw[←VC.out];exact hg4) (Below.refl B0 w3) hB3);have J2:=Lib.hid (NR.out.below qB.out hB);have hB4:B0≤w4.heap.size:=Nat.le_trans hB3 qB.out.size;obtain⟨d0,d1,d2,d3,d4,d5,d6,d7,d8⟩:=WV KL.out HSg.out;clear DD hg4 ACn SF)
   have AH8:=HXw.out.old (by rw[←HB0.out];exact J2.out)
   have HH:=Lib.hid (qC (setAt x nb) w4 HGx.out (AH8.at_.Ca nb) (by show nb < 4294967296;omega))
   obtain⟨At,ct,rfl,ht1,ht2,_,_⟩:=Jv.out.two.slice
   obtain⟨ntk,AE8⟩:∃ n,n=Tk.length:=⟨_,rfl⟩
   rw[←AE8]at ht1 hht⊢
   have qD:=Lib.hid AE8
   clear AH8 AE8 HT3 XX NR qB Hh3 Hh4
   go_wp2_with fail
   refine (HH.out).mono ?_
   rintro e w5 ⟨⟨vt,rfl,hot⟩,hb5⟩
   obtain⟨Ay,cy,rfl,hy1,hy2,hy3,hy4⟩:=hot.slice
   have Hy3:=Lib.hid (show BD w5 Ay (EO x.e nb) from hy3)
   have Hy4:=Lib.hid (show Ay=none→(EO x.e nb).length=0 from hy4)
   have Nq:=Lib.hid (Jv.out.symm.keep hb5)
   have YK:=Lib.hid (AP KL.out hb5)
   have L6:=Lib.hid (J2.out.below (hb5.mono hB4) hB)
   have hB5:B0≤w5.heap.size:=Nat.le_trans hB4 hb5.size
   clear hot hb5 hy3 hy4 HH Jv KL J2 d0 d1 d2 d3 d4 d5 d6 d7 d8
   rw[show (EO (setAt x nb).e (setAt x nb).at_).length=(EO x.e nb).length from rfl]
   obtain⟨Ty,hTy⟩:∃ Ty,Ty=EO x.e nb:=⟨_,rfl⟩
   rw[←hTy]at Hy3 Hy4 qo⊢
   have AKx:Ty.length≤1000000:=by rw[hTy];exact hth.2
   obtain⟨hyl,AE9⟩:∃ n,n=Ty.length:=⟨_,rfl⟩
   rw[←AE9]at Hy4 AKx⊢
   have AH9:=Lib.hid AE9.symm
   clear AE9 hTy
   go_wp2_with (at_builtin;refine AY _ rfl (.tmp 25) (.tmp 30) _ rfl B0 5 _ 1 1 yj _ ntk (Tk.map Eh) rfl (by have:=Nq.out.one;unfold BP at this;rw[←qD.out]at this;exact this) Ay hyl cy (Ty.map Eh) rfl (by rw[List.length_map,AH9.out,Nat.mul_one]) Hy3.out (Ia Ty) Hy4.out (by unfold maxLen;omega) (by omega) hB5 ?_;intro v6 w6 hown6 IJ ACo;have Rw:BP w6 B0 v6 (Tk++Ty):=(by unfold BP;rw[List.length_append,List.map_append,←qD.out,AH9.out];exact hown6);have U3:=Lib.hid (Nq.out.grown Rw (by rw[←qD.out];exact IJ) (by rw[←qD.out];exact ACo));have Ny:=Lib.hid (Cv.LC YK.out Nq.out.one (by rw[←qD.out];exact IJ) (by decide));have Hk6:=Lib.hid (own_below Nq.out.one (by rw[←qD.out];exact IJ) (Below.refl B0 w5) hB5);have LQ:=Lib.hid (L6.out.below Hk6.out hB);clear hown6 IJ ACo Rw)
   go_roundw
   case rel=>exact⟨k+1,by omega,by go_num,by rw[rG.out,qo.out];exact U3.out.symm,Ny.out,LQ.out⟩
   case measure=>simp[intOf];omega
  ·have hlt':¬ (k:Int) < (n:Int):=by omega
   obtain rfl:k=n:=by omega
   have htk:l.take k=l:=by rw[Hn.out];exact List.take_length
   have hst:JP l k=Lp l 0:=by unfold JP;rw[htk,Hn.out,List.drop_length,List.append_nil]
   rw[htk]at HT
   rw[hst]at HOr
   have hle:(laidB (Cn l)).length=(Bi (Cn l)).length+(Bb (Cn l) 0).length+22:=by
    have e:laidB (Cn l)=Bi (Cn l)++Bb (Cn l) 0++Il (Cn l):=rfl
    rw[e,List.length_append,List.length_append,NM]
   have hen:Il (Cn l)=Ae 4 101010256++Ae 4 0++Ae 2 k++Ae 2 k++Ae 4 (Bb (Cn l) 0).length++Ae 4 (Bi (Cn l)).length++Ae 2 0:=by
    unfold Il Cn;rw[List.length_map,←Hn.out]
   have hla:laidB (Cn l)=Bi (Cn l)++Bb (Cn l) 0++Il (Cn l):=rfl
   rw[hen]at hla
   have hz:=Hz.out
   have HLa:=Lib.hid hla
   obtain⟨Hk,hHk⟩:∃ H,H=Bi (Cn l):=⟨_,rfl⟩
   obtain⟨Tk,hTk⟩:∃ T,T=Bb (Cn l) 0:=⟨_,rfl⟩
   rw[←hHk,←hTk]at HT HLa hle
   obtain⟨L,hL⟩:∃ L,L=laidB (Cn l):=⟨_,rfl⟩
   rw[←hL]at HLa hle hz
   have HL:=Lib.hid hL
   clear htk hst hen hla hHk hTk hL
   obtain⟨nb,hnb⟩:∃ n,n=Hk.length:=⟨_,rfl⟩
   obtain⟨nt,hnt⟩:∃ n,n=Tk.length:=⟨_,rfl⟩
   obtain⟨Ab,cb,rfl,hb1,hb2,_,_⟩:=HT.out.one.slice
   obtain⟨At,ct,rfl,ht1,ht2,ht3,ht4⟩:=HT.out.two.slice
   rw[←hnb,←hnt]at HLa hle
   rw[←hnb]at hb1⊢
   rw[←hnt]at ht1 ht4⊢
   have VC:=Lib.hid hnb
   have az:=Lib.hid hnt
   have Ht3:=Lib.hid ht3
   have Ht4:=Lib.hid ht4
   have hBr:B0≤wr.heap.size:=by have:=HKr.out.size;rw[←HB0.out]at this;exact this
   obtain⟨X1,hX1⟩:∃ X,X=Hk++Tk:=⟨_,rfl⟩
   have hx1:X1.length=nb+nt:=by rw[hX1,List.length_append,←hnb,←hnt]
   rw[←hX1]at HLa
   have HX1:=Lib.hid hX1
   clear ht3 ht4 hnb hnt hX1
   go_wp2_with (at_builtin;refine AY _ rfl (.tmp 35) (.tmp 36) _ rfl B0 5 _ 1 1 yj _ nb (Hk.map Eh) rfl (by have:=HT.out.one;unfold BP at this;rw[←VC.out]at this;exact this) At nt ct (Tk.map Eh) rfl (by rw[List.length_map,←az.out,Nat.mul_one]) Ht3.out (Ia Tk) Ht4.out (by unfold maxLen;omega) (by omega) hBr ?_;intro v1 w1 hown1 hg1 AIA;have ho1:BP w1 B0 v1 X1:=(by unfold BP;rw[HX1.out,List.length_append,List.map_append,←VC.out,←az.out];exact hown1);have Hb1:=Lib.hid (own_below HT.out.one (by rw[←VC.out];exact hg1) (Below.refl B0 wr) hBr);have OU:B0≤w1.heap.size:=Nat.le_trans hBr Hb1.out.size;clear hown1 hg1 AIA)
   have rG:=Lib.hid (EC B0 v1 _ 101010256 4 101010256 4 w1 ho1 OU rfl rfl (by omega) (by omega) (by omega))
   clear ho1
   refine (rG.out).mono ?_
   rintro e w2 ⟨⟨v2,rfl,ho2⟩,hb2⟩
   have Hb2:=Lib.hid (Hb1.out.trans hb2)
   have OV:B0≤w2.heap.size:=Nat.le_trans OU hb2.size
   clear hb2 rG Hb1 OU
   have qo:=Lib.hid (EC B0 v2 _ 0 4 0 4 w2 ho2 OV rfl rfl (by omega) (by omega) (by simp only[List.length_append,AZ];omega))
   clear ho2
   go_wp2_with fail
   refine (qo.out).mono ?_
   rintro e w3 ⟨⟨v3,rfl,ho3⟩,hb3⟩
   have Hb3:=Lib.hid (Hb2.out.trans hb3)
   have PW:B0≤w3.heap.size:=Nat.le_trans OV hb3.size
   clear hb3 qo Hb2 OV
   have HN3:=Lib.hid (EC B0 v3 _ k 2 (k:Int) 2 w3 ho3 PW rfl rfl (by omega) (by omega) (by simp only[List.length_append,AZ];omega))
   clear ho3
   go_wp2_with fail
   refine (HN3.out).mono ?_
   rintro e w4 ⟨⟨v4,rfl,SF⟩,hb4⟩
   have Hb4:=Lib.hid (Hb3.out.trans hb4)
   have NU:B0≤w4.heap.size:=Nat.le_trans PW hb4.size
   clear hb4 HN3 Hb3 PW
   have HN4:=Lib.hid (EC B0 v4 _ k 2 (k:Int) 2 w4 SF NU rfl rfl (by omega) (by omega) (by simp only[List.length_append,AZ];omega))
   clear SF
   go_wp2_with fail
   refine (HN4.out).mono ?_
   rintro e w5 ⟨⟨v5,rfl,RF⟩,hb5⟩
   have Hb5:=Lib.hid (Hb4.out.trans hb5)
   have OW:B0≤w5.heap.size:=Nat.le_trans NU hb5.size
   clear hb5 HN4 Hb4 NU
   have HN5:=Lib.hid (EC B0 v5 _ nt 4 (nt:Int) 4 w5 RF OW rfl rfl (by omega) (by omega) (by simp only[List.length_append,AZ];omega))
   clear RF
   go_wp2_with fail
   refine (HN5.out).mono ?_
   rintro e w6 ⟨⟨v6,rfl,Rw⟩,hb6⟩
   have Jl:=Lib.hid (Hb5.out.trans hb6)
   have RU:B0≤w6.heap.size:=Nat.le_trans OW hb6.size
   clear hb6 HN5 Hb5 OW
   have HN6:=Lib.hid (EC B0 v6 _ nb 4 (nb:Int) 4 w6 Rw RU rfl rfl (by omega) (by omega) (by simp only[List.length_append,AZ];omega))
   clear Rw
   go_wp2_with fail
   refine (HN6.out).mono ?_
   rintro e w7 ⟨⟨v7,rfl,kY⟩,Ir⟩
   have Fe:=Lib.hid (Jl.out.trans Ir)
   have YE:B0≤w7.heap.size:=Nat.le_trans RU Ir.size
   clear Ir HN6 Jl RU
   have HN7:=Lib.hid (EC B0 v7 _ 0 2 0 2 w7 kY YE rfl rfl (by omega) (by omega) (by simp only[List.length_append,AZ];omega))
   clear kY
   go_wp2_with fail
   refine (HN7.out).mono ?_
   rintro e w8 ⟨⟨v8,rfl,ho8⟩,LU⟩
   have EG:=Lib.hid (Fe.out.trans LU)
   have ABo:B0≤w8.heap.size:=Nat.le_trans YE LU.size
   clear LU HN7 Fe YE
   go_wp2_with fail
   go_ret
   refine⟨⟨_,rfl,?_⟩,?_,HKr.out.below EG.out hB⟩
   ·rw[←HL.out,HLa.out]
    simp only[List.append_assoc]at ho8⊢;exact ho8
   ·exact yg HOr.out (fun b hb=>by have:=(HO.out.lt b (by simpa using hb)).2;rw[←HB0.out]at this;exact this) EG.out
end Go.Proofs.YtabdianhoabhhaaGreatDoor.Zip
namespace Go.Proofs.YtabdianhoabhhaaGreatDoor.Zip
open Go.Proofs.YtabdianhoabhhaaGreatDoor.Merge Go.Proofs.YtabdianhoabhhaaGreatDoor.Inf Go.Proofs.YtabdianhoabhhaaGreatDoor.Bits Go.Proofs.YtabdianhoabhhaaGreatDoor.Code
set_option linter.unusedVariables false
set_option linter.unusedSimpArgs false
def bI {α:Type} (out:α→List UInt8) (r:Inf.Rd α):Prop:=∀ a,r=.ok a→(out a).length≤3000
theorem Gu {α:Type} {out:α→List UInt8} {z:Int}:bI out (.bad z):=fun a h=>by cases h
theorem IU {α:Type} {out:α→List UInt8} {a:α} (h:(out a).length≤3000):bI out (.ok a):=fun b e=>by injection e with e;subst e;exact h
theorem Ci {α β:Type} {out:β→List UInt8} {r:Inf.Rd α} {f:α→Inf.Rd β} (h:∀ a,r=.ok a→bI out (f a)):bI out (r.Ad f):=by
 cases r with
 | bad z=>exact Gu
 | ok a=>exact h a rfl
theorem Fb {α:Type} {out:α→List UInt8} {c:Prop} [Decidable c] {r s:Inf.Rd α} (h:bI out r) (k:bI out s):bI out (if c then r else s):=by split <;> assumption
theorem Us (o:List UInt8) (x:UInt8) (h:o.length≤3000):bI (fun a=>a) (Ef o x):=by
 unfold Ef
 split
 ·exact Gu
 ·refine IU ?_
  rw[List.length_append,List.length_cons,List.length_nil];omega
theorem kL (row:List Bool):∀ (n p:Nat) (o:List UInt8),o.length≤3000→bI (fun a:Nat×List UInt8=>a.2) (Ie row n p o)
 | 0,p,o,h=>IU h
 | n+1,p,o,h=>by
  unfold Ie
  exact Ci fun x _=>Ci fun o' ho=>kL row n _ o' (Us o _ h o' ho)
theorem af (d:Nat):∀ (n:Nat) (o:List UInt8),o.length≤3000→bI (fun a=>a) (JD d n o)
 | 0,o,h=>IU h
 | n+1,o,h=>by
  unfold JD
  exact Ci fun o' ho=>af d n o' (Us o _ h o' ho)
theorem zL (row:List Bool) (lit far:List Nat) (p:Nat) (o:List UInt8) (h:o.length≤3000):bI (fun a:Bool×Nat×List UInt8=>a.2.2) (CP row lit far p o):=by
 unfold CP
 refine Ci fun k _=>Fb (Ci fun o' ho=>IU (Us o _ h o' ho)) (Fb (IU h) (Fb Gu (Ci fun x _=>Ci fun f _=>Fb Gu (Ci fun y _=>Fb Gu (Ci fun o' ho=>IU (af _ _ o h o' ho))))))
theorem Ut (row:List Bool) (lit far:List Nat):∀ (f p:Nat) (o:List UInt8),o.length≤3000→bI (fun a:Nat×List UInt8=>a.2) (Ev row lit far f p o)
 | 0,p,o,h=>Gu
 | f+1,p,o,h=>by
  unfold Ev
  refine Ci fun x hx=>?_
  have hs:=zL row lit far p o h x hx
  exact Fb (IU hs) (Ut row lit far f _ _ hs)
theorem qM (row:List Bool) (p:Nat) (o:List UInt8) (h:o.length≤3000):bI (fun a:Bool×Nat×Nat×List UInt8=>a.2.2.2) (EZ row p o):=by
 unfold EZ
 refine Ci fun l _=>Ci fun k _=>Fb (Ci fun x hx=>IU ?_) (Fb (Ci fun x hx=>IU ?_) (Fb (Ci fun hd _=>Ci fun x hx=>IU ?_) Gu))
 ·unfold FZ at hx
  revert hx
  have:bI (fun a:Nat×List UInt8=>a.2) (FZ row k.2 o):=by
   unfold FZ
   exact Ci fun a _=>Ci fun b _=>Fb Gu (kL row _ _ o h)
  intro hx
  exact this x hx
 ·exact Ut row _ _ _ _ o h x hx
 ·exact Ut row _ _ _ _ o h x hx
theorem Uu (row:List Bool):∀ (f p:Nat) (o:List UInt8) (ks:List Nat),o.length≤3000→bI (fun a:Nat×List UInt8×List Nat=>a.2.1) (Dq row f p o ks)
 | 0,p,o,ks,h=>Gu
 | f+1,p,o,ks,h=>by
  unfold Dq
  refine Ci fun x hx=>?_
  have hb:=qM row p o h x hx
  exact Fb (IU hb) (Uu row f _ _ _ hb)
theorem iJ {b out:List UInt8} {us:Nat} {ks:List Nat} (h:CB b=.ok (out,us,ks)):out.length≤3000:=by
 have:bI (fun a:List UInt8×Nat×List Nat=>a.1) (CB b):=by
  unfold CB
  exact Fb Gu (Ci fun x hx=>IU (Uu _ _ _ [] [] (by simp) x hx))
 exact this _ h
theorem Wd {m:Nat} {pk bs:List UInt8} (h:FN m pk=some bs):bs.length≤max 3000 pk.length:=by
 unfold FN at h
 split at h
 ·injection h with h;subst h;omega
 ·split at h
  ·split at h
   ·rename_i a ha
    split at h
    ·injection h with h
     subst h
     obtain⟨o,us,ks⟩:=a
     have:=iJ ha
     dsimp only;omega
    ·cases h
   ·cases h
  ·cases h
def lastB (b:List UInt8):List UInt8:=b.drop (b.length - 22)
end Go.Proofs.YtabdianhoabhhaaGreatDoor.Zip
namespace Go.Proofs.YtabdianhoabhhaaGreatDoor.Zip
open Go.Proofs.YtabdianhoabhhaaGreatDoor.Merge Go.Proofs.YtabdianhoabhhaaGreatDoor.Inf Go.Proofs.YtabdianhoabhhaaGreatDoor.AX Go.Proofs.YtabdianhoabhhaaGreatDoor.Bits Go.Proofs.YtabdianhoabhhaaGreatDoor.Rt
set_option linter.unusedVariables false
def CK (xs:List UInt8):List UInt8:=(Bg xs 3).1
theorem JK:KI CK:=fun xs h1 h2=>by
 obtain⟨k,hk⟩:=Gz.Vl xs [] h1 (by rw[List.append_nil];show (CK xs).length≤6000;omega)
 rw[List.append_nil]at hk
 exact⟨[k],hk⟩
theorem yn (xs:List UInt8):2≤(CK xs).length:=by
 obtain⟨k,hk,h⟩:=Gz.Vk xs
 have e:DC [xs] [k] 1=Ld 0 xs k true:=by
  have:=Gc [xs] [k] 0
  rw[this]
  rfl
 have hl:(Cu [xs] [k]).length=((Ld 0 xs k true).length+7) / 8:=by
  show (pack (DC [xs] [k] 1)).length=_
  rw[BK,e]
 unfold CK
 rw[h]
 show 2≤(Cu [xs] [k]).length
 rw[hl]
 have h9:9≤(Ld 0 xs k true).length:=by
  unfold Ld
  by_cases h0:k=0
  ·rw[if_pos h0]
   simp only[List.length_append,List.length_cons,List.length_nil,AJ,List.length_replicate]
   omega
  ·rw[if_neg h0]
   by_cases h1:k=1
   ·rw[if_pos h1]
    have:7≤(En (Match.toks xs) BU Ck).length:=by
     unfold En
     rw[List.length_append,Bv]
     have:BU.getD 256 0=7:=by decide +kernel
     omega
    simp only[List.length_append,List.length_cons,List.length_nil,AJ]
    omega
   ·rw[if_neg h1]
    have:14≤(Cy (Cg (Match.toks xs)).1 (Cg (Match.toks xs)).2).length:=by
     rw[Lv]
     simp only[List.length_append,AJ]
     omega
    simp only[List.length_append,List.length_cons,List.length_nil,AJ]
    omega
 omega
theorem Zu (f:Fl) (h:f.bytes.length≤2):FI CK f =⟨f,0,f.bytes,GK f.bytes⟩:=by
 have:=yn f.bytes
 unfold FI
 rw[if_neg (by omega)]
end Go.Proofs.YtabdianhoabhhaaGreatDoor.Zip
namespace Go.Proofs.YtabdianhoabhhaaGreatDoor.Zip
open Go Go.RowKit Go.Proofs.YtabdianhoabhhaaGreatDoor Go.Proofs.YtabdianhoabhhaaGreatDoor.Bits Go.Proofs.YtabdianhoabhhaaGreatDoor.Merge Go.Proofs.YtabdianhoabhhaaGreatDoor.Name Go.Proofs.YtabdianhoabhhaaGreatDoor.AX
set_option linter.unusedVariables false
set_option linter.unusedSimpArgs false
theorem Gt {P:Program} {fn:Func} {p:Tmp} {ty:TypeId} (h:fn.results=#[.cell p ty]) (tmps:Array Value) (w:World) (g:Nat) (t:TypeId) (cs:Array Value) (fr:Nat×Nat) (d:TypeDesc)
  (hp:tmps.getD p undef=.pointer (some ⟨g,0,none⟩)) (hg:w.heap[g]?=some (.cells cs t fr))
  (hu:P.underlying ty=some d) (hd:(match d with | .struct _ | .array _ _=>true | _=>false)=true) (hi:(P.info? ty).map (·.size)=some cs.size) :
  (results fn tmps).run P w=.ok (.agg cs) w:=by
 have hp':tmps[p]?.getD undef=.pointer (some ⟨g,0,none⟩):=by simpa using hp
 simp[results,h,hp',asAddr,run_loadVar_row w g t ty cs fr d hg hu hd hi]
theorem PX {w:World} {g:Nat} {t:TypeId} {a0 a1 a2 a3 a4 a5 a6 a7 a8:Value} (h:AX w g t #[a0,a1,a2,a3,a4,a5,a6,a7,a8]) (b0 b1 b2 b3 b4 b5 b6 b7 b8:Value):AX (((((((((w.setCell ⟨g,0,none⟩ b0).setCell ⟨g,1,none⟩ b1).setCell ⟨g,2,none⟩ b2).setCell ⟨g,3,none⟩ b3).setCell ⟨g,4,none⟩ b4).setCell ⟨g,5,none⟩ b5).setCell ⟨g,6,none⟩ b6).setCell ⟨g,7,none⟩ b7).setCell ⟨g,8,none⟩ b8) g t #[b0,b1,b2,b3,b4,b5,b6,b7,b8]:=by
 have h0:AX (w.setCell ⟨g,0,none⟩ b0) g t #[b0,a1,a2,a3,a4,a5,a6,a7,a8]:=h.Ca 0 b0
 have h1:AX ((w.setCell ⟨g,0,none⟩ b0).setCell ⟨g,1,none⟩ b1) g t #[b0,b1,a2,a3,a4,a5,a6,a7,a8]:=h0.Ca 1 b1
 have h2:AX (((w.setCell ⟨g,0,none⟩ b0).setCell ⟨g,1,none⟩ b1).setCell ⟨g,2,none⟩ b2) g t #[b0,b1,b2,a3,a4,a5,a6,a7,a8]:=h1.Ca 2 b2
 have h3:AX ((((w.setCell ⟨g,0,none⟩ b0).setCell ⟨g,1,none⟩ b1).setCell ⟨g,2,none⟩ b2).setCell ⟨g,3,none⟩ b3) g t #[b0,b1,b2,b3,a4,a5,a6,a7,a8]:=h2.Ca 3 b3
 have h4:AX (((((w.setCell ⟨g,0,none⟩ b0).setCell ⟨g,1,none⟩ b1).setCell ⟨g,2,none⟩ b2).setCell ⟨g,3,none⟩ b3).setCell ⟨g,4,none⟩ b4) g t #[b0,b1,b2,b3,b4,a5,a6,a7,a8]:=h3.Ca 4 b4
 have h5:AX ((((((w.setCell ⟨g,0,none⟩ b0).setCell ⟨g,1,none⟩ b1).setCell ⟨g,2,none⟩ b2).setCell ⟨g,3,none⟩ b3).setCell ⟨g,4,none⟩ b4).setCell ⟨g,5,none⟩ b5) g t #[b0,b1,b2,b3,b4,b5,a6,a7,a8]:=h4.Ca 5 b5
 have h6:AX (((((((w.setCell ⟨g,0,none⟩ b0).setCell ⟨g,1,none⟩ b1).setCell ⟨g,2,none⟩ b2).setCell ⟨g,3,none⟩ b3).setCell ⟨g,4,none⟩ b4).setCell ⟨g,5,none⟩ b5).setCell ⟨g,6,none⟩ b6) g t #[b0,b1,b2,b3,b4,b5,b6,a7,a8]:=h5.Ca 6 b6
 have h7:AX ((((((((w.setCell ⟨g,0,none⟩ b0).setCell ⟨g,1,none⟩ b1).setCell ⟨g,2,none⟩ b2).setCell ⟨g,3,none⟩ b3).setCell ⟨g,4,none⟩ b4).setCell ⟨g,5,none⟩ b5).setCell ⟨g,6,none⟩ b6).setCell ⟨g,7,none⟩ b7) g t #[b0,b1,b2,b3,b4,b5,b6,b7,a8]:=h6.Ca 7 b7
 have h8:AX (((((((((w.setCell ⟨g,0,none⟩ b0).setCell ⟨g,1,none⟩ b1).setCell ⟨g,2,none⟩ b2).setCell ⟨g,3,none⟩ b3).setCell ⟨g,4,none⟩ b4).setCell ⟨g,5,none⟩ b5).setCell ⟨g,6,none⟩ b6).setCell ⟨g,7,none⟩ b7).setCell ⟨g,8,none⟩ b8) g t #[b0,b1,b2,b3,b4,b5,b6,b7,b8]:=h7.Ca 8 b8
 exact h8
theorem Um {w0 w:World} {B g:Nat} (h:Below B w0 w) (hg:B≤g) (b0 b1 b2 b3 b4 b5 b6 b7 b8:Value):Below B w0 (((((((((w.setCell ⟨g,0,none⟩ b0).setCell ⟨g,1,none⟩ b1).setCell ⟨g,2,none⟩ b2).setCell ⟨g,3,none⟩ b3).setCell ⟨g,4,none⟩ b4).setCell ⟨g,5,none⟩ b5).setCell ⟨g,6,none⟩ b6).setCell ⟨g,7,none⟩ b7).setCell ⟨g,8,none⟩ b8):=(((((((((h.setCell (p:=⟨g,0,none⟩) hg b0).setCell (p:=⟨g,1,none⟩) hg b1).setCell (p:=⟨g,2,none⟩) hg b2).setCell (p:=⟨g,3,none⟩) hg b3).setCell (p:=⟨g,4,none⟩) hg b4).setCell (p:=⟨g,5,none⟩) hg b5).setCell (p:=⟨g,6,none⟩) hg b6).setCell (p:=⟨g,7,none⟩) hg b7).setCell (p:=⟨g,8,none⟩) hg b8)
theorem Uf {w:World} {base:Nat} {e:TypeId} {size n g:Nat} {v:Value} {xs:List Value} (h:w.ownsRow base e size v n xs) (hg:g < base) (b0 b1 b2 b3 b4 b5 b6 b7 b8:Value):(((((((((w.setCell ⟨g,0,none⟩ b0).setCell ⟨g,1,none⟩ b1).setCell ⟨g,2,none⟩ b2).setCell ⟨g,3,none⟩ b3).setCell ⟨g,4,none⟩ b4).setCell ⟨g,5,none⟩ b5).setCell ⟨g,6,none⟩ b6).setCell ⟨g,7,none⟩ b7).setCell ⟨g,8,none⟩ b8).ownsRow base e size v n xs:=(ownsRow_setCell_below (ownsRow_setCell_below (ownsRow_setCell_below (ownsRow_setCell_below (ownsRow_setCell_below (ownsRow_setCell_below (ownsRow_setCell_below (ownsRow_setCell_below (ownsRow_setCell_below h (a:=⟨g,0,none⟩) hg b0) (a:=⟨g,1,none⟩) hg b1) (a:=⟨g,2,none⟩) hg b2) (a:=⟨g,3,none⟩) hg b3) (a:=⟨g,4,none⟩) hg b4) (a:=⟨g,5,none⟩) hg b5) (a:=⟨g,6,none⟩) hg b6) (a:=⟨g,7,none⟩) hg b7) (a:=⟨g,8,none⟩) hg b8)
set_option maxRecDepth 100000 in
set_option maxHeartbeats 1600000 in
theorem di (x:Fx) (w:World) (hx:D9 w x) (h3:x.1.bytes.length≤3000) :
  Calls Tryz.prog 45 #[fV x] w fun e w'=>(∃ pk:Yn,e=.returned (eV ⟨FI CK x.1,x.2,pk,0⟩)∧((pk=x.2∧(FI CK x.1).packed=x.1.bytes)∨BP w' w.heap.size (Cj pk) (FI CK x.1).packed))∧Below w.heap.size w w':=by
 have HX:=Lib.hid hx
 obtain⟨⟨name,bytes,stamp,node,gone⟩,⟨bA,bn,bc⟩⟩:=x
 have hbn:bn=bytes.length:=hx.len
 have hbc:bytes.length≤bc:=hx.room
 have hcm:bc≤maxLen:=hx.cap
 unfold maxLen at hcm
 rw[←hbn]at hbc
 have kV:=Lib.hid hbn
 dsimp only at h3
 rw[←hbn]at h3
 unfold fV Cj
 dsimp only
 have HA:Hid (BD w bA bytes):=Lib.hid hx.at_
 clear hx hbn
 go_enter Tryz.func45,Tryz.ntmps45
 go_upto_region 2 with fail
 have hF:=((AX.new w 36 #[.string (Name.AQ name),.slice bA bn bc,.int .i64 stamp,.int .i64 node,.bool gone]).alloc (.cells #[.string ⟨#[]⟩,.slice none 0 0,.int .i64 0,.int .i64 0,.bool false,.int .i64 0,.slice none 0 0,.int .u32 0,.int .i64 0] 78)).alloc (.cells #[.string (Name.AQ name),.slice bA bn bc,.int .i64 stamp,.int .i64 node,.bool gone,.int .i64 0,.slice bA bn bc,.int .u32 0,.int .i64 0] 78)
 have hR:=(AX.new (w.alloc (.cells #[.string (Name.AQ name),.slice bA bn bc,.int .i64 stamp,.int .i64 node,.bool gone] 36)) 78 #[.string ⟨#[]⟩,.slice none 0 0,.int .i64 0,.int .i64 0,.bool false,.int .i64 0,.slice none 0 0,.int .u32 0,.int .i64 0]).alloc (.cells #[.string (Name.AQ name),.slice bA bn bc,.int .i64 stamp,.int .i64 node,.bool gone,.int .i64 0,.slice bA bn bc,.int .u32 0,.int .i64 0] 78)
 have hE:=AX.new ((w.alloc (.cells #[.string (Name.AQ name),.slice bA bn bc,.int .i64 stamp,.int .i64 node,.bool gone] 36)).alloc (.cells #[.string ⟨#[]⟩,.slice none 0 0,.int .i64 0,.int .i64 0,.bool false,.int .i64 0,.slice none 0 0,.int .u32 0,.int .i64 0] 78)) 78 #[.string (Name.AQ name),.slice bA bn bc,.int .i64 stamp,.int .i64 node,.bool gone,.int .i64 0,.slice bA bn bc,.int .u32 0,.int .i64 0]
 have hb:Below w.heap.size w (((w.alloc (.cells #[.string (Name.AQ name),.slice bA bn bc,.int .i64 stamp,.int .i64 node,.bool gone] 36)).alloc (.cells #[.string ⟨#[]⟩,.slice none 0 0,.int .i64 0,.int .i64 0,.bool false,.int .i64 0,.slice none 0 0,.int .u32 0,.int .i64 0] 78)).alloc (.cells #[.string (Name.AQ name),.slice bA bn bc,.int .i64 stamp,.int .i64 node,.bool gone,.int .i64 0,.slice bA bn bc,.int .u32 0,.int .i64 0] 78)):=
  (((Below.refl _ _).alloc (Nat.le_refl _) _).alloc (by simp only[World.size_alloc];omega) _).alloc (by simp only[World.size_alloc];omega) _
 simp only[World.size_alloc]at hF hR hE
 generalize (((w.alloc (.cells #[.string (Name.AQ name),.slice bA bn bc,.int .i64 stamp,.int .i64 node,.bool gone] 36)).alloc (.cells #[.string ⟨#[]⟩,.slice none 0 0,.int .i64 0,.int .i64 0,.bool false,.int .i64 0,.slice none 0 0,.int .u32 0,.int .i64 0] 78)).alloc (.cells #[.string (Name.AQ name),.slice bA bn bc,.int .i64 stamp,.int .i64 node,.bool gone,.int .i64 0,.slice bA bn bc,.int .u32 0,.int .i64 0] 78))=w1 at *
 obtain⟨g,hg⟩:∃ g,g=w.heap.size:=⟨_,rfl⟩
 rw[←hg]at hF hR hE hb⊢
 have Hg:=Lib.hid hg
 have Xx:=Lib.hid hF
 have HR1:=Lib.hid hR
 have HE1:=Lib.hid hE
 have Hb1:=Lib.hid hb
 have hs1:g+1+1 < w1.heap.size:=hE.lt
 have f1:w1.cell? ⟨g,1,none⟩=some (.slice bA bn bc):=hF.cell 1
 have HA1:Hid (BD w1 bA bytes):=Lib.hid (BD.below HA.out (by rw[←hg];exact hb))
 have HC:=Lib.hid (Sum.Xz 0#32 0 rfl bA bn bc bytes w1 kV.out.symm (by omega) HA1.out)
 clear hF hR hE hb hg
 go_wp2_with fail
 refine (HC.out).mono ?_
 rintro e w2 ⟨rfl,hb2⟩
 have zb:=Lib.hid (Xx.out.below hb2 (by omega))
 have HR2:=Lib.hid (HR1.out.below hb2 (by omega))
 have HE2:=Lib.hid (HE1.out.below hb2 (by omega))
 have Hb2:=Lib.hid (Hb1.out.trans (hb2.mono (by omega)))
 have hs2:g+1+1 < w2.heap.size:=HE2.out.lt
 have f1:w2.cell? ⟨g,1,none⟩=some (.slice bA bn bc):=zb.out.cell 1
 have e7:w2.cell? ⟨g+1+1,7,none⟩=some (.int .u32 0):=HE2.out.cell 7
 have z7:=HE2.out.frozen 7
 have HA2:Hid (BD w2 bA bytes):=Lib.hid (HA1.out.below hb2)
 clear HC Xx HR1 HE1 Hb1 HA1 hs1 hb2
 go_upto_region 3 with fail
 obtain⟨ci,hcv⟩:∃ ci:Int,ci=n32 (Sum.crc 0#32 bytes):=⟨_,rfl⟩
 rw[←hcv]
 have Hcv:=Lib.hid (show ci=((GK bytes:Nat):Int) from hcv)
 have mI:=Lib.hid (zb.out.far (p:=⟨g+1+1,7,none⟩) (by show g≠g+1+1;omega) (.int .u32 ci))
 have HR3:=Lib.hid (HR2.out.far (p:=⟨g+1+1,7,none⟩) (by show g+1≠g+1+1;omega) (.int .u32 ci))
 have jZ:=Lib.hid (show AX (w2.setCell ⟨g+1+1,7,none⟩ (.int .u32 ci)) (g+1+1) 78 #[.string (Name.AQ name),.slice bA bn bc,.int .i64 stamp,.int .i64 node,.bool gone,.int .i64 0,.slice bA bn bc,.int .u32 ci,.int .i64 0] from HE2.out.Ca 7 (.int .u32 ci))
 have Hb3:=Lib.hid (Hb2.out.setCell (p:=⟨g+1+1,7,none⟩) (by show g≤g+1+1;omega) (.int .u32 ci))
 clear hcv e7 z7 f1 HA2 zb HR2 HE2 Hb2
 generalize w2.setCell ⟨g+1+1,7,none⟩ (.int .u32 ci)=w3 at *
 have hs3:g+1+1 < w3.heap.size:=jZ.out.lt
 have f1:w3.cell? ⟨g,1,none⟩=some (.slice bA bn bc):=mI.out.cell 1
 have HA3:Hid (BD w3 bA bytes):=Lib.hid (BD.below HA.out (by rw[←Hg.out];exact Hb3.out))
 have HB:=Lib.hid (qm bA bn bc bytes w3 kV.out.symm hbc (by unfold maxLen;omega) HA3.out)
 clear hs2
 go_wp2_with fail
 refine (HB.out).mono ?_
 rintro e w4 ⟨hh,hb4⟩
 rcases hh with ⟨h4,_⟩ | ⟨_,v4,rfl,SF⟩
 ·omega
 obtain⟨A4,c4,rfl,h41,h42,hs4,hz4⟩:=Ag SF
 obtain⟨PB,hPB⟩:∃ PB,PB=(Bg bytes 3).1:=⟨_,rfl⟩
 rw[←hPB]at SF h41 hs4 hz4⊢
 have KL:=Lib.hid SF
 have HPB:=Lib.hid (show PB=CK bytes from hPB)
 have HF4:=Lib.hid (mI.out.below hb4 (by omega))
 have HR4:=Lib.hid (HR3.out.below hb4 (by omega))
 have OI:=Lib.hid (jZ.out.below hb4 (by omega))
 have Hb4:=Lib.hid (Hb3.out.trans (hb4.mono (by omega)))
 have ANZ:w3.heap.size≤w4.heap.size:=hb4.size
 have f1:w4.cell? ⟨g,1,none⟩=some (.slice bA bn bc):=HF4.out.cell 1
 obtain⟨np,hnp⟩:∃ np,np=PB.length:=⟨_,rfl⟩
 rw[←hnp]at SF h41 hz4⊢
 have Hnp:=Lib.hid hnp
 have H41:=Lib.hid h41
 have H42:=Lib.hid h42
 clear SF hs4 hz4 hPB HB mI jZ HR3 Hb3 HA3 hb4 hnp
 generalize (Bg bytes 3).2=kd at *
 by_cases hlt:np < bn
 ·have hlt':(np:Int) < (bn:Int):=by omega
  have e5:w4.cell? ⟨g+1+1,5,none⟩=some (.int .i64 0):=OI.out.cell 5
  have e6:w4.cell? ⟨g+1+1,6,none⟩=some (.slice bA bn bc):=OI.out.cell 6
  have z5:=OI.out.frozen 5
  have z6:=OI.out.frozen 6
  have bC:=Lib.hid (show AX ((w4.setCell ⟨g+1+1,5,none⟩ (.int .i64 8)).setCell ⟨g+1+1,6,none⟩ (.slice A4 np c4)) (g+1+1) 78 #[.string (Name.AQ name),.slice bA bn bc,.int .i64 stamp,.int .i64 node,.bool gone,.int .i64 8,.slice A4 np c4,.int .u32 ci,.int .i64 0] from (OI.out.Ca 5 (.int .i64 8)).Ca 6 (.slice A4 np c4))
  have LW:=Lib.hid ((HR4.out.far (p:=⟨g+1+1,5,none⟩) (by show g+1≠g+1+1;omega) (.int .i64 8)).far (p:=⟨g+1+1,6,none⟩) (by show g+1≠g+1+1;omega) (.slice A4 np c4))
  have Jl:=Lib.hid ((Hb4.out.setCell (p:=⟨g+1+1,5,none⟩) (by show g≤g+1+1;omega) (.int .i64 8)).setCell (p:=⟨g+1+1,6,none⟩) (by show g≤g+1+1;omega) (.slice A4 np c4))
  have Ny:=Lib.hid (ownsRow_setCell_below (ownsRow_setCell_below KL.out (a:=⟨g+1+1,5,none⟩) hs3 (.int .i64 8)) (a:=⟨g+1+1,6,none⟩) hs3 (.slice A4 np c4))
  go_upto_region 6 with fail
  clear e5 e6 z5 z6
  generalize (w4.setCell ⟨g+1+1,5,none⟩ (.int .i64 8)).setCell ⟨g+1+1,6,none⟩ (.slice A4 np c4)=w6 at *
  have e0:w6.cell? ⟨g+1+1,0,none⟩=some (.string (Name.AQ name)):=bC.out.cell 0
  have e1:w6.cell? ⟨g+1+1,1,none⟩=some (.slice bA bn bc):=bC.out.cell 1
  have e2:w6.cell? ⟨g+1+1,2,none⟩=some (.int .i64 stamp):=bC.out.cell 2
  have e3:w6.cell? ⟨g+1+1,3,none⟩=some (.int .i64 node):=bC.out.cell 3
  have e4:w6.cell? ⟨g+1+1,4,none⟩=some (.bool gone):=bC.out.cell 4
  have e5:w6.cell? ⟨g+1+1,5,none⟩=some (.int .i64 8):=bC.out.cell 5
  have e6:w6.cell? ⟨g+1+1,6,none⟩=some (.slice A4 np c4):=bC.out.cell 6
  have e7:w6.cell? ⟨g+1+1,7,none⟩=some (.int .u32 ci):=bC.out.cell 7
  have e8:w6.cell? ⟨g+1+1,8,none⟩=some (.int .i64 0):=bC.out.cell 8
  have q0:w6.cell? ⟨g+1,0,none⟩=some (.string ⟨#[]⟩):=LW.out.cell 0
  have q1:w6.cell? ⟨g+1,1,none⟩=some (.slice none 0 0):=LW.out.cell 1
  have q2:w6.cell? ⟨g+1,2,none⟩=some (.int .i64 0):=LW.out.cell 2
  have q3:w6.cell? ⟨g+1,3,none⟩=some (.int .i64 0):=LW.out.cell 3
  have q4:w6.cell? ⟨g+1,4,none⟩=some (.bool false):=LW.out.cell 4
  have q5:w6.cell? ⟨g+1,5,none⟩=some (.int .i64 0):=LW.out.cell 5
  have q6:w6.cell? ⟨g+1,6,none⟩=some (.slice none 0 0):=LW.out.cell 6
  have q7:w6.cell? ⟨g+1,7,none⟩=some (.int .u32 0):=LW.out.cell 7
  have q8:w6.cell? ⟨g+1,8,none⟩=some (.int .i64 0):=LW.out.cell 8
  have z0:=LW.out.frozen 0
  have z1:=LW.out.frozen 1
  have z2:=LW.out.frozen 2
  have z3:=LW.out.frozen 3
  have z4:=LW.out.frozen 4
  have z5:=LW.out.frozen 5
  have z6:=LW.out.frozen 6
  have z7:=LW.out.frozen 7
  have z8:=LW.out.frozen 8
  have Jt:=Lib.hid (PX LW.out (.string (Name.AQ name)) (.slice bA bn bc) (.int .i64 stamp) (.int .i64 node) (.bool gone) (.int .i64 8) (.slice A4 np c4) (.int .u32 ci) (.int .i64 0))
  have Ec:=Lib.hid (Um (g:=g+1) Jl.out (by omega) (.string (Name.AQ name)) (.slice bA bn bc) (.int .i64 stamp) (.int .i64 node) (.bool gone) (.int .i64 8) (.slice A4 np c4) (.int .u32 ci) (.int .i64 0))
  go_wp2_with fail
  refine bodyPost_ret (Gt rfl _ _ (g+1) 78 #[.string (Name.AQ name),.slice bA bn bc,.int .i64 stamp,.int .i64 node,.bool gone,.int .i64 8,.slice A4 np c4,.int .u32 ci,.int .i64 0] (0,0) _ rfl Jt.out Tryz.underlying78 rfl (by kernel_rfl)) rfl ?_
  have he:FI CK ⟨name,bytes,stamp,node,gone⟩ =⟨⟨name,bytes,stamp,node,gone⟩,8,CK bytes,GK bytes⟩:=by
   unfold FI
   rw[if_pos (by show (CK bytes).length < bytes.length;rw[←HPB.out,←Hnp.out,←kV.out];exact hlt)]
  rw[he]
  refine⟨⟨(A4,np,c4),?_,.inr ?_⟩,by rw[←Hg.out];exact Ec.out⟩
  ·unfold eV Cj
   rw[Hcv.out];rfl
  ·have h2:=Uf Ny.out (show g+1 < w3.heap.size by omega) (.string (Name.AQ name)) (.slice bA bn bc) (.int .i64 stamp) (.int .i64 node) (.bool gone) (.int .i64 8) (.slice A4 np c4) (.int .u32 ci) (.int .i64 0)
   rw[←HPB.out]
   unfold BP
   dsimp only
   rw[Hnp.out]at h2⊢
   exact Ai h2 (by rw[←Hg.out];omega)
 ·have hlt':¬ (np:Int) < (bn:Int):=by omega
  have e0:w4.cell? ⟨g+1+1,0,none⟩=some (.string (Name.AQ name)):=OI.out.cell 0
  have e1:w4.cell? ⟨g+1+1,1,none⟩=some (.slice bA bn bc):=OI.out.cell 1
  have e2:w4.cell? ⟨g+1+1,2,none⟩=some (.int .i64 stamp):=OI.out.cell 2
  have e3:w4.cell? ⟨g+1+1,3,none⟩=some (.int .i64 node):=OI.out.cell 3
  have e4:w4.cell? ⟨g+1+1,4,none⟩=some (.bool gone):=OI.out.cell 4
  have e5:w4.cell? ⟨g+1+1,5,none⟩=some (.int .i64 0):=OI.out.cell 5
  have e6:w4.cell? ⟨g+1+1,6,none⟩=some (.slice bA bn bc):=OI.out.cell 6
  have e7:w4.cell? ⟨g+1+1,7,none⟩=some (.int .u32 ci):=OI.out.cell 7
  have e8:w4.cell? ⟨g+1+1,8,none⟩=some (.int .i64 0):=OI.out.cell 8
  have q0:w4.cell? ⟨g+1,0,none⟩=some (.string ⟨#[]⟩):=HR4.out.cell 0
  have q1:w4.cell? ⟨g+1,1,none⟩=some (.slice none 0 0):=HR4.out.cell 1
  have q2:w4.cell? ⟨g+1,2,none⟩=some (.int .i64 0):=HR4.out.cell 2
  have q3:w4.cell? ⟨g+1,3,none⟩=some (.int .i64 0):=HR4.out.cell 3
  have q4:w4.cell? ⟨g+1,4,none⟩=some (.bool false):=HR4.out.cell 4
  have q5:w4.cell? ⟨g+1,5,none⟩=some (.int .i64 0):=HR4.out.cell 5
  have q6:w4.cell? ⟨g+1,6,none⟩=some (.slice none 0 0):=HR4.out.cell 6
  have q7:w4.cell? ⟨g+1,7,none⟩=some (.int .u32 0):=HR4.out.cell 7
  have q8:w4.cell? ⟨g+1,8,none⟩=some (.int .i64 0):=HR4.out.cell 8
  have z0:=HR4.out.frozen 0
  have z1:=HR4.out.frozen 1
  have z2:=HR4.out.frozen 2
  have z3:=HR4.out.frozen 3
  have z4:=HR4.out.frozen 4
  have z5:=HR4.out.frozen 5
  have z6:=HR4.out.frozen 6
  have z7:=HR4.out.frozen 7
  have z8:=HR4.out.frozen 8
  have Jt:=Lib.hid (PX HR4.out (.string (Name.AQ name)) (.slice bA bn bc) (.int .i64 stamp) (.int .i64 node) (.bool gone) (.int .i64 0) (.slice bA bn bc) (.int .u32 ci) (.int .i64 0))
  have Ec:=Lib.hid (Um (g:=g+1) Hb4.out (by omega) (.string (Name.AQ name)) (.slice bA bn bc) (.int .i64 stamp) (.int .i64 node) (.bool gone) (.int .i64 0) (.slice bA bn bc) (.int .u32 ci) (.int .i64 0))
  go_wp2_with fail
  refine bodyPost_ret (Gt rfl _ _ (g+1) 78 #[.string (Name.AQ name),.slice bA bn bc,.int .i64 stamp,.int .i64 node,.bool gone,.int .i64 0,.slice bA bn bc,.int .u32 ci,.int .i64 0] (0,0) _ rfl Jt.out Tryz.underlying78 rfl (by kernel_rfl)) rfl ?_
  have he:FI CK ⟨name,bytes,stamp,node,gone⟩ =⟨⟨name,bytes,stamp,node,gone⟩,0,bytes,GK bytes⟩:=by
   unfold FI
   rw[if_neg (by show ¬ (CK bytes).length < bytes.length;rw[←HPB.out,←Hnp.out,←kV.out];exact hlt)]
  rw[he]
  refine⟨⟨(bA,bn,bc),?_,.inl ⟨rfl,rfl⟩⟩,by rw[←Hg.out];exact Ec.out⟩
  unfold eV Cj
  rw[Hcv.out];rfl
end Go.Proofs.YtabdianhoabhhaaGreatDoor.Zip
namespace Go.Proofs.YtabdianhoabhhaaGreatDoor.Zip
open Go Go.RowKit Go.Proofs.YtabdianhoabhhaaGreatDoor Go.Proofs.YtabdianhoabhhaaGreatDoor.Bits Go.Proofs.YtabdianhoabhhaaGreatDoor.Merge Go.Proofs.YtabdianhoabhhaaGreatDoor.Name
open Go.Proofs.YtabdianhoabhhaaGreatDoor.Inf (CB)
set_option linter.unusedVariables false
set_option linter.unusedSimpArgs false
def tR8 (me crc sz:Nat) (nm:List UInt8) (st nd go:Nat) (pd:List UInt8) (q:Nat):Option (Dp×Nat):=(FN me pd).bind fun bs=>if bs.length=sz then some (⟨⟨nm,bs,(st:Int),(nd:Int),go == 1⟩,me,pd,crc⟩,q) else none
def tR7 (b:List UInt8) (me crc pk sz:Nat) (nm:List UInt8) (st nd go p:Nat):=(takeN b p pk).bind fun y=>tR8 me crc sz nm st nd go y.1 y.2
def tR6 (b:List UInt8) (me crc pk sz:Nat) (nm xs:List UInt8) (p st nd px:Nat):=(EE xs px 1).bind fun y=>tR7 b me crc pk sz nm st nd y.1 p
def tR5 (b:List UInt8) (me crc pk sz:Nat) (nm xs:List UInt8) (p st px:Nat):=(EE xs px 2).bind fun y=>tR6 b me crc pk sz nm xs p st y.1 y.2
def tR4 (b:List UInt8) (me crc pk sz:Nat) (nm xs:List UInt8) (p px:Nat):=(EE xs px 4).bind fun y=>tR5 b me crc pk sz nm xs p y.1 y.2
def tR3 (b:List UInt8) (me crc pk sz:Nat) (nm xs:List UInt8) (p:Nat):=(takeN xs 0 4).bind fun y=>tR4 b me crc pk sz nm xs p y.2
def tR2 (b:List UInt8) (me crc pk sz ex:Nat) (nm:List UInt8) (p:Nat):=(takeN b p ex).bind fun y=>tR3 b me crc pk sz nm y.1 y.2
def tR1 (b:List UInt8) (me crc pk sz lo ex p:Nat):=(takeN b p lo).bind fun y=>tR2 b me crc pk sz ex y.1 y.2
def eR7 (b:List UInt8) (me crc pk sz lo p:Nat):=(EE b p 2).bind fun y=>tR1 b me crc pk sz lo y.1 y.2
def eR6 (b:List UInt8) (me crc pk sz p:Nat):=(EE b p 2).bind fun y=>eR7 b me crc pk sz y.1 y.2
def eR5 (b:List UInt8) (me crc pk p:Nat):=(EE b p 4).bind fun y=>eR6 b me crc pk y.1 y.2
def eR4 (b:List UInt8) (me crc p:Nat):=(EE b p 4).bind fun y=>eR5 b me crc y.1 y.2
def eR3 (b:List UInt8) (me p:Nat):=(EE b p 4).bind fun y=>eR4 b me y.1 y.2
def eR2 (b:List UInt8) (me p:Nat):=(takeN b p 4).bind fun y=>eR3 b me y.2
def eR1 (b:List UInt8) (p:Nat):=(EE b p 2).bind fun y=>eR2 b y.1 y.2
def eR0 (b:List UInt8) (p:Nat):=(takeN b p 8).bind fun y=>eR1 b y.2
theorem ABp (b:List UInt8) (me crc pk sz lo ex p:Nat):aQ b me crc pk sz lo ex p=tR1 b me crc pk sz lo ex p:=by
 unfold aQ tR1 tR2 tR3 tR4 tR5 tR6 tR7 tR8 Qf
 simp only[Option.bind_assoc,Option.bind_some]
theorem AFE (b:List UInt8) (p:Nat):Ud b p=eR0 b p:=by
 unfold Ud eR0 eR1 eR2 eR3 eR4 eR5 eR6 eR7
 simp only[ABp]
theorem De {base:Nat} {T:List TypeId} {w w':World} (h:AB base T w w') {p:Addr} (hp:w.heap.size≤p.block) (hb:base≤p.block) (u:Value):AB base T w (w'.setCell p u):=by
 have hk:∀ k,k≠p.block→(w'.setCell p u).heap[k]?=w'.heap[k]?:=fun k hk=>Below.heap_setCell w' p u k hk
 refine⟨h.os,h.tape,h.output,by rw[World.size_setCell];exact h.size,fun k hkb=>(hk k (by omega)).trans (h.block k hkb),fun k o ho ht=>?_⟩
 have hlt:k < w.heap.size:=by
  rcases Nat.lt_or_ge k w.heap.size with h1 | h1
  ·exact h1
  ·rw[Array.getElem?_eq_none h1]at ho;cases ho
 rw[hk k (by omega)]
 exact h.other k o ho ht
theorem aR {w:World} {q g:Nat} {t:TypeId} {cs:Array Value} (h:AX w q t cs) (hq:q≠g) (b0 b1 b2 b3 b4 b5 b6 b7 b8:Value):AX (((((((((w.setCell ⟨g,0,none⟩ b0).setCell ⟨g,1,none⟩ b1).setCell ⟨g,2,none⟩ b2).setCell ⟨g,3,none⟩ b3).setCell ⟨g,4,none⟩ b4).setCell ⟨g,5,none⟩ b5).setCell ⟨g,6,none⟩ b6).setCell ⟨g,7,none⟩ b7).setCell ⟨g,8,none⟩ b8) q t cs:=(((((((((h.far (p:=⟨g,0,none⟩) hq b0).far (p:=⟨g,1,none⟩) hq b1).far (p:=⟨g,2,none⟩) hq b2).far (p:=⟨g,3,none⟩) hq b3).far (p:=⟨g,4,none⟩) hq b4).far (p:=⟨g,5,none⟩) hq b5).far (p:=⟨g,6,none⟩) hq b6).far (p:=⟨g,7,none⟩) hq b7).far (p:=⟨g,8,none⟩) hq b8)
theorem Ue {w0 w:World} {base g:Nat} {T:List TypeId} (h:AB base T w0 w) (hg:w0.heap.size≤g) (hb:base≤g) (b0 b1 b2 b3 b4 b5 b6 b7 b8:Value):AB base T w0 (((((((((w.setCell ⟨g,0,none⟩ b0).setCell ⟨g,1,none⟩ b1).setCell ⟨g,2,none⟩ b2).setCell ⟨g,3,none⟩ b3).setCell ⟨g,4,none⟩ b4).setCell ⟨g,5,none⟩ b5).setCell ⟨g,6,none⟩ b6).setCell ⟨g,7,none⟩ b7).setCell ⟨g,8,none⟩ b8):=(De (De (De (De (De (De (De (De (De h (p:=⟨g,0,none⟩) hg hb b0) (p:=⟨g,1,none⟩) hg hb b1) (p:=⟨g,2,none⟩) hg hb b2) (p:=⟨g,3,none⟩) hg hb b3) (p:=⟨g,4,none⟩) hg hb b4) (p:=⟨g,5,none⟩) hg hb b5) (p:=⟨g,6,none⟩) hg hb b6) (p:=⟨g,7,none⟩) hg hb b7) (p:=⟨g,8,none⟩) hg hb b8)
def AFF:Array Value:=#[.string ⟨#[]⟩,.slice none 0 0,.int .i64 0,.int .i64 0,.bool false,.int .i64 0,.slice none 0 0,.int .u32 0,.int .i64 0]
structure JQ (w0 w:World) (q g:Nat) (A:Option Addr) (n c p:Nat) (b:List UInt8) (cs:Array Value):Prop where
 MO:JR w q A n c p
 low:JS w q A b
 cur:AX w (g+1) 78 cs
 res:AX w g 78 AFF
 keep:AB q OX w0 w
 qg:q < g
 gs:w0.heap.size≤g
section
variable {w0 w w':World} {q g n c p p':Nat} {A:Option Addr} {b:List UInt8} {cs:Array Value}
theorem JQ.call (h:JQ w0 w q g A n c p b cs) (hk:AB q OX w w') (hr:JR w' q A n c p'):JQ w0 w' q g A n c p' b cs:=
 ⟨hr,h.low.keeps hk,hk.blk h.cur (by decide),hk.blk h.res (by decide),h.keep.trans hk,h.qg,h.gs⟩
theorem JQ.store (h:JQ w0 w q g A n c p b cs) (i:Nat) (u:Value) {cs':Array Value} (hc:cs.setIfInBounds i u=cs'):JQ w0 (w.setCell ⟨g+1,i,none⟩ u) q g A n c p b cs':=by
 have h1:=h.qg
 have h2:=h.gs
 have hk:AB (g+1) OX w (w.setCell ⟨g+1,i,none⟩ u)∨True:=.inr trivial
 refine⟨h.MO.far (p:=⟨g+1,i,none⟩) (by show q≠g+1;omega) u,?_,hc▸h.cur.Ca i u,h.res.far (p:=⟨g+1,i,none⟩) (by show g≠g+1;omega) u,De h.keep (p:=⟨g+1,i,none⟩) (by show w0.heap.size≤g+1;omega) (by show q≤g+1;omega) u,h1,h2⟩
 refine⟨fun hp=>?_,h.low.low⟩
 obtain⟨a,o,e,hx⟩:=h.low.at_ hp
 refine⟨a,o,e,fun j v hj=>?_⟩
 have:=h.low.low a o e (by simpa using hp)
 rw[World.cell?_of_block (Below.heap_setCell w ⟨g+1,i,none⟩ u a (by show a≠g+1;omega))]
 exact hx j v hj
theorem JQ.below (h:JQ w0 w q g A n c p b cs) (hb:Below w.heap.size w w'):JQ w0 w' q g A n c p b cs:=
 ⟨AX.below h.MO hb (AX.lt h.MO),⟨BD.below h.low.at_ hb,h.low.low⟩,h.cur.below hb h.cur.lt,h.res.below hb h.res.lt,h.keep.trans (AB.of_below hb (Nat.le_of_lt (AX.lt h.MO))),h.qg,h.gs⟩
theorem JQ.side (h:JQ w0 w q g A n c p b cs) {qx:Nat} (hx:g+1 < qx) (hk:AB qx OX w w'):JQ w0 w' q g A n c p b cs:=by
 have h1:=h.qg
 refine⟨(hk.block q (by omega)).trans h.MO,h.low.keeps (q:=q) (T:=OX) (hk.mono (by omega) fun _ h=>h),hk.blk h.cur (by decide),hk.blk h.res (by decide),h.keep.trans (hk.mono (by omega) fun _ h=>h),h.qg,h.gs⟩
theorem JQ.fits (h:JQ w0 w q g A n c p b cs):g+1 < w.heap.size:=h.cur.lt
end
structure IZ (w':World) (B:Nat) (A:Option Addr) (b:List UInt8) (x:Ex) (e:Dp):Prop where
 is:x.e=e
 at0:x.at_=0
 own:BP w' B (Cj x.bs) e.f.bytes
 len:x.pk.2.1=e.packed.length
 room:e.packed.length≤x.pk.2.2
 cap:x.pk.2.2≤maxLen
 within:Within A b x.pk.1 e.packed
def AII (B q:Nat) (A:Option Addr) (n c:Nat) (b:List UInt8) (y:Dp×Nat) (e:Ending) (w':World):Prop:=
 y.2≤n∧(∃ x:Ex,e=.returned (eV x)∧IZ w' B A b x y.1)∧JR w' q A n c y.2
set_option maxRecDepth 100000 in
set_option maxHeartbeats 4000000 in
theorem qE (q:Nat) (A:Option Addr) (n c p0:Nat) (b:List UInt8) (w:World) (h:JR w q A n c p0) (hn:b.length=n) (hnc:n≤c) (hcm:c≤maxLen) (hp0:p0≤n) (hn0:0 < n) (hA:JS w q A b) :
  Calls Tryz.prog 67 #[.pointer (some ⟨q,0,none⟩)] w fun e w'=>yo (Ud b p0) (AII w.heap.size q A n c b) e w'∧AB q OX w w':=by
 obtain⟨R,hR⟩:∃ R,R=Ud b p0:=⟨_,rfl⟩
 rw[←hR]
 have HE0:=Lib.hid (show R=eR0 b p0 by rw[hR,AFE])
 have Hn:=Lib.hid hn
 have H:=Lib.hid h
 have HA:=Lib.hid hA
 obtain⟨g,hg⟩:∃ g,g=w.heap.size:=⟨_,rfl⟩
 have Hg:=Lib.hid hg
 have hqg:q < g:=by rw[hg];exact AX.lt h
 clear hR h hA hn
 go_enter Tryz.func67,Tryz.ntmps67
 go_upto_region 2 with fail
 have HS0:Hid (JQ w ((w.alloc (.cells #[.string ⟨#[]⟩,.slice none 0 0,.int .i64 0,.int .i64 0,.bool false,.int .i64 0,.slice none 0 0,.int .u32 0,.int .i64 0] 78)).alloc (.cells #[.string ⟨#[]⟩,.slice none 0 0,.int .i64 0,.int .i64 0,.bool false,.int .i64 0,.slice none 0 0,.int .u32 0,.int .i64 0] 78)) q g A n c p0 b #[.string ⟨#[]⟩,.slice none 0 0,.int .i64 0,.int .i64 0,.bool false,.int .i64 0,.slice none 0 0,.int .u32 0,.int .i64 0]):=Lib.hid (by
  rw[hg]
  have hbel:Below w.heap.size w ((w.alloc (.cells #[.string ⟨#[]⟩,.slice none 0 0,.int .i64 0,.int .i64 0,.bool false,.int .i64 0,.slice none 0 0,.int .u32 0,.int .i64 0] 78)).alloc (.cells #[.string ⟨#[]⟩,.slice none 0 0,.int .i64 0,.int .i64 0,.bool false,.int .i64 0,.slice none 0 0,.int .u32 0,.int .i64 0] 78)):=((Below.refl _ _).alloc (Nat.le_refl _) _).alloc (by simp only[World.size_alloc];omega) _
  exact⟨AX.below H.out hbel (AX.lt H.out),⟨BD.below HA.out.at_ hbel,HA.out.low⟩,by have:=AX.new (w.alloc (.cells #[.string ⟨#[]⟩,.slice none 0 0,.int .i64 0,.int .i64 0,.bool false,.int .i64 0,.slice none 0 0,.int .u32 0,.int .i64 0] 78)) 78 #[.string ⟨#[]⟩,.slice none 0 0,.int .i64 0,.int .i64 0,.bool false,.int .i64 0,.slice none 0 0,.int .u32 0,.int .i64 0];rwa [World.size_alloc]at this,(AX.new w 78 #[.string ⟨#[]⟩,.slice none 0 0,.int .i64 0,.int .i64 0,.bool false,.int .i64 0,.slice none 0 0,.int .u32 0,.int .i64 0]).alloc _,AB.of_below hbel (Nat.le_of_lt (AX.lt H.out)),AX.lt H.out,Nat.le_refl _⟩)
 rw[←hg]
 generalize (w.alloc (.cells #[.string ⟨#[]⟩,.slice none 0 0,.int .i64 0,.int .i64 0,.bool false,.int .i64 0,.slice none 0 0,.int .u32 0,.int .i64 0] 78)).alloc (.cells #[.string ⟨#[]⟩,.slice none 0 0,.int .i64 0,.int .i64 0,.bool false,.int .i64 0,.slice none 0 0,.int .u32 0,.int .i64 0] 78)=w1 at *
 clear hg H HA
 have HT:=Lib.hid (JU q A n c p0 8 b w1 HS0.out.MO Hn.out hnc hcm hp0 (by omega) HS0.out.low.at_ (.inl hn0))
 have HE:=Lib.hid (show R=(takeN b p0 8).bind fun y=>eR1 b y.2 from HE0.out)
 generalize takeN b p0 8=r at HT HE
 go_wp2_with fail
 refine (HT.out).mono ?_
 rintro e w2 ⟨hr,hk⟩
 have HK:=Lib.hid (HS0.out.keep.trans hk)
 rcases r with _ | ⟨x8,p1⟩
 ·obtain rfl:e=DK:=hr
  unfold DK
  exact⟨rfl,by rw[show R=none from HE.out];rfl,HK.out⟩
 obtain⟨hp1,hl0,⟨A0,rfl,hc0,hw0⟩,hrd⟩:=hr
 have HL0:=Lib.hid (show x8.length=8 from hl0)
 have HW0:=Lib.hid hw0
 clear hl0 hw0
 dsimp only at hp1 hrd
 have bV:=Lib.hid (HS0.out.call hk hrd)
 have HE1:=Lib.hid (show R=eR1 b p1 from HE.out)
 clear HT HE HK hk hrd HS0 HE0
 have HT:=Lib.hid (Im q A n c p1 2 b w2 bV.out.MO Hn.out hnc hcm hp1 (by omega) (by omega) bV.out.low)
 have HE:=Lib.hid (show R=(EE b p1 2).bind fun y=>eR2 b y.1 y.2 from HE1.out)
 generalize EE b p1 2=r at HT HE
 go_wp2_with fail
 refine (HT.out).mono ?_
 rintro e w3 ⟨hr,hk⟩
 have HK:=Lib.hid (bV.out.keep.trans hk)
 rcases r with _ | ⟨me,p2⟩
 ·obtain rfl:e=DK:=hr
  unfold DK
  exact⟨rfl,by rw[show R=none from HE.out];rfl,HK.out⟩
 obtain⟨hp2,hme,rfl,hrd⟩:=hr
 dsimp only at hp2 hme hrd
 have HS2:=Lib.hid (bV.out.call hk hrd)
 have HE2:=Lib.hid (show R=eR2 b me p2 from HE.out)
 clear HT HE HK hk hrd bV HE1
 have ec:w3.cell? ⟨g+1,5,none⟩=some (.int .i64 0):=HS2.out.cur.cell 5
 have zc:=HS2.out.cur.frozen 5
 have aS:=Lib.hid (HS2.out.store 5 (.int .i64 (me:Int)) (cs':=#[.string ⟨#[]⟩,.slice none 0 0,.int .i64 0,.int .i64 0,.bool false,.int .i64 (me:Int),.slice none 0 0,.int .u32 0,.int .i64 0]) rfl)
 go_upto_region 4 with fail
 clear ec zc HS2
 generalize w3.setCell ⟨g+1,5,none⟩ (.int .i64 (me:Int))=w4 at *
 have HS2:=aS
 clear aS
 have HT:=Lib.hid (JU q A n c p2 4 b w4 HS2.out.MO Hn.out hnc hcm hp2 (by omega) HS2.out.low.at_ (.inl hn0))
 have HE:=Lib.hid (show R=(takeN b p2 4).bind fun y=>eR3 b me y.2 from HE2.out)
 generalize takeN b p2 4=r at HT HE
 go_wp2_with fail
 refine (HT.out).mono ?_
 rintro e w5 ⟨hr,hk⟩
 have HK:=Lib.hid (HS2.out.keep.trans hk)
 rcases r with _ | ⟨x4,p3⟩
 ·obtain rfl:e=DK:=hr
  unfold DK
  exact⟨rfl,by rw[show R=none from HE.out];rfl,HK.out⟩
 obtain⟨hp3,hl2,⟨A2,rfl,hc2,hw2⟩,hrd⟩:=hr
 have HL2:=Lib.hid (show x4.length=4 from hl2)
 have HW2:=Lib.hid hw2
 clear hl2 hw2
 dsimp only at hp3 hrd
 have kS:=Lib.hid (HS2.out.call hk hrd)
 have jZ:=Lib.hid (show R=eR3 b me p3 from HE.out)
 clear HT HE HK hk hrd HS2 HE2
 have HT:=Lib.hid (Im q A n c p3 4 b w5 kS.out.MO Hn.out hnc hcm hp3 (by omega) (by omega) kS.out.low)
 have HE:=Lib.hid (show R=(EE b p3 4).bind fun y=>eR4 b me y.1 y.2 from jZ.out)
 generalize EE b p3 4=r at HT HE
 go_wp2_with fail
 refine (HT.out).mono ?_
 rintro e w6 ⟨hr,hk⟩
 have HK:=Lib.hid (kS.out.keep.trans hk)
 rcases r with _ | ⟨crc,p4⟩
 ·obtain rfl:e=DK:=hr
  unfold DK
  exact⟨rfl,by rw[show R=none from HE.out];rfl,HK.out⟩
 obtain⟨Rj,AFD,rfl,hrd⟩:=hr
 dsimp only at Rj AFD hrd
 have Nw:=Lib.hid (kS.out.call hk hrd)
 have OI:=Lib.hid (show R=eR4 b me crc p4 from HE.out)
 clear HT HE HK hk hrd kS jZ
 have ec:w6.cell? ⟨g+1,7,none⟩=some (.int .u32 0):=Nw.out.cur.cell 7
 have zc:=Nw.out.cur.frozen 7
 have hwu:IntKind.u32.wrap (crc:Int)=(crc:Int):=by rw[IntKind.wrap_u32'];omega
 have ANC:(crc:Int) % 4294967296=(crc:Int):=by omega
 have aS:=Lib.hid (Nw.out.store 7 (.int .u32 (crc:Int)) (cs':=#[.string ⟨#[]⟩,.slice none 0 0,.int .i64 0,.int .i64 0,.bool false,.int .i64 (me:Int),.slice none 0 0,.int .u32 (crc:Int),.int .i64 0]) rfl)
 go_upto_region 6 with fail
 clear ec zc Nw
 generalize w6.setCell ⟨g+1,7,none⟩ (.int .u32 (crc:Int))=w7 at *
 have Nw:=aS
 clear aS
 have HT:=Lib.hid (Im q A n c p4 4 b w7 Nw.out.MO Hn.out hnc hcm Rj (by omega) (by omega) Nw.out.low)
 have HE:=Lib.hid (show R=(EE b p4 4).bind fun y=>eR5 b me crc y.1 y.2 from OI.out)
 generalize EE b p4 4=r at HT HE
 go_wp2_with fail
 refine (HT.out).mono ?_
 rintro e w8 ⟨hr,hk⟩
 have HK:=Lib.hid (Nw.out.keep.trans hk)
 rcases r with _ | ⟨pk,p5⟩
 ·obtain rfl:e=DK:=hr
  unfold DK
  exact⟨rfl,by rw[show R=none from HE.out];rfl,HK.out⟩
 obtain⟨hp5,hpk,rfl,hrd⟩:=hr
 dsimp only at hp5 hpk hrd
 have ak:=Lib.hid (Nw.out.call hk hrd)
 have HE5:=Lib.hid (show R=eR5 b me crc pk p5 from HE.out)
 clear HT HE HK hk hrd Nw OI
 have HT:=Lib.hid (Im q A n c p5 4 b w8 ak.out.MO Hn.out hnc hcm hp5 (by omega) (by omega) ak.out.low)
 have HE:=Lib.hid (show R=(EE b p5 4).bind fun y=>eR6 b me crc pk y.1 y.2 from HE5.out)
 generalize EE b p5 4=r at HT HE
 go_wp2_with fail
 refine (HT.out).mono ?_
 rintro e w9 ⟨hr,hk⟩
 have HK:=Lib.hid (ak.out.keep.trans hk)
 rcases r with _ | ⟨sz,p6⟩
 ·obtain rfl:e=DK:=hr
  unfold DK
  exact⟨rfl,by rw[show R=none from HE.out];rfl,HK.out⟩
 obtain⟨jH,hsz,rfl,hrd⟩:=hr
 dsimp only at jH hsz hrd
 have Vm:=Lib.hid (ak.out.call hk hrd)
 have bC:=Lib.hid (show R=eR6 b me crc pk sz p6 from HE.out)
 clear HT HE HK hk hrd ak HE5
 have HT:=Lib.hid (Im q A n c p6 2 b w9 Vm.out.MO Hn.out hnc hcm jH (by omega) (by omega) Vm.out.low)
 have HE:=Lib.hid (show R=(EE b p6 2).bind fun y=>eR7 b me crc pk sz y.1 y.2 from bC.out)
 generalize EE b p6 2=r at HT HE
 go_wp2_with fail
 refine (HT.out).mono ?_
 rintro e Le ⟨hr,hk⟩
 have HK:=Lib.hid (Vm.out.keep.trans hk)
 rcases r with _ | ⟨lo,p7⟩
 ·obtain rfl:e=DK:=hr
  unfold DK
  exact⟨rfl,by rw[show R=none from HE.out];rfl,HK.out⟩
 obtain⟨mJ,hlo,rfl,hrd⟩:=hr
 dsimp only at mJ hlo hrd
 have Uy:=Lib.hid (Vm.out.call hk hrd)
 have HE7:=Lib.hid (show R=eR7 b me crc pk sz lo p7 from HE.out)
 clear HT HE HK hk hrd Vm bC
 have HT:=Lib.hid (Im q A n c p7 2 b Le Uy.out.MO Hn.out hnc hcm mJ (by omega) (by omega) Uy.out.low)
 have HE:=Lib.hid (show R=(EE b p7 2).bind fun y=>tR1 b me crc pk sz lo y.1 y.2 from HE7.out)
 generalize EE b p7 2=r at HT HE
 go_wp2_with fail
 refine (HT.out).mono ?_
 rintro e YW ⟨hr,hk⟩
 have HK:=Lib.hid (Uy.out.keep.trans hk)
 rcases r with _ | ⟨ex,p8⟩
 ·obtain rfl:e=DK:=hr
  unfold DK
  exact⟨rfl,by rw[show R=none from HE.out];rfl,HK.out⟩
 obtain⟨hp8,hex,rfl,hrd⟩:=hr
 dsimp only at hp8 hex hrd
 have zQ:=Lib.hid (Uy.out.call hk hrd)
 have HE8:=Lib.hid (show R=tR1 b me crc pk sz lo ex p8 from HE.out)
 clear HT HE HK hk hrd Uy HE7
 have HT:=Lib.hid (JU q A n c p8 lo b YW zQ.out.MO Hn.out hnc hcm hp8 (by omega) zQ.out.low.at_ (.inl hn0))
 have HE:=Lib.hid (show R=(takeN b p8 lo).bind fun y=>tR2 b me crc pk sz ex y.1 y.2 from HE8.out)
 generalize takeN b p8 lo=r at HT HE
 go_wp2_with fail
 refine (HT.out).mono ?_
 rintro e bM ⟨hr,hk⟩
 have HK:=Lib.hid (zQ.out.keep.trans hk)
 rcases r with _ | ⟨nm,p9⟩
 ·obtain rfl:e=DK:=hr
  unfold DK
  exact⟨rfl,by rw[show R=none from HE.out];rfl,HK.out⟩
 obtain⟨hp9,hl8,⟨A8,rfl,hc8,hw8⟩,hrd⟩:=hr
 have HL8:=Lib.hid (show nm.length=lo from hl8)
 have HW8:=Lib.hid hw8
 clear hl8 hw8
 dsimp only at hp9 hrd
 have Wx:=Lib.hid (zQ.out.call hk hrd)
 have HE9:=Lib.hid (show R=tR2 b me crc pk sz ex nm p9 from HE.out)
 clear HT HE HK hk hrd zQ HE8
 have ec:bM.cell? ⟨g+1,0,none⟩=some (.string ⟨#[]⟩):=Wx.out.cur.cell 0
 have zc:=Wx.out.cur.frozen 0
 have hcv:(convert 23 9 (.slice A8 lo (c - p8))).run Tryz.prog bM=.ok (.string (Name.AQ nm)) bM:=Gi A8 lo (c - p8) nm bM HL8.out (HW8.out.at_ _ Wx.out.low.at_)
 have aS:=Lib.hid (Wx.out.store 0 (.string (Name.AQ nm)) (cs':=#[.string (Name.AQ nm),.slice none 0 0,.int .i64 0,.int .i64 0,.bool false,.int .i64 (me:Int),.slice none 0 0,.int .u32 (crc:Int),.int .i64 0]) rfl)
 go_upto_region 9 with fail
 clear ec zc Wx
 generalize bM.setCell ⟨g+1,0,none⟩ (.string (Name.AQ nm))=w13 at *
 have Wx:=aS
 clear aS
 have HT:=Lib.hid (JU q A n c p9 ex b w13 Wx.out.MO Hn.out hnc hcm hp9 (by omega) Wx.out.low.at_ (.inl hn0))
 have HE:=Lib.hid (show R=(takeN b p9 ex).bind fun y=>tR3 b me crc pk sz nm y.1 y.2 from HE9.out)
 generalize takeN b p9 ex=r at HT HE
 go_wp2_with fail
 refine (HT.out).mono ?_
 rintro e zR ⟨hr,hk⟩
 have HK:=Lib.hid (Wx.out.keep.trans hk)
 rcases r with _ | ⟨xs,Lr⟩
 ·obtain rfl:e=DK:=hr
  unfold DK
  exact⟨rfl,by rw[show R=none from HE.out];rfl,HK.out⟩
 obtain⟨AIJ,hl9,⟨A9,rfl,hc9,hw9⟩,hrd⟩:=hr
 have HL9:=Lib.hid (show xs.length=ex from hl9)
 have HW9:=Lib.hid hw9
 clear hl9 hw9
 dsimp only at AIJ hrd
 have TK:=Lib.hid (Wx.out.call hk hrd)
 have AIK:=Lib.hid (show R=tR3 b me crc pk sz nm xs Lr from HE.out)
 clear HT HE HK hk hrd Wx HE9
 have hbx:Below zR.heap.size zR (zR.alloc (.cells #[.slice A9 ex (c - p9),.int .i64 0] 112)):=(Below.refl _ _).alloc (Nat.le_refl _) _
 have aS:=Lib.hid (TK.out.below hbx)
 have RX0:Hid (JR (zR.alloc (.cells #[.slice A9 ex (c - p9),.int .i64 0] 112)) zR.heap.size A9 ex (c - p9) 0):=Lib.hid (AX.new zR _ _)
 have hgx:g+1 < zR.heap.size:=TK.out.fits
 obtain⟨qx,hqx⟩:∃ qx,qx=zR.heap.size:=⟨_,rfl⟩
 rw[←hqx]at RX0 hgx
 have Hqx:=Lib.hid hqx
 clear hbx hqx
 go_upto_region 10 with fail
 rw[←Hqx.out]
 generalize zR.alloc (.cells #[.slice A9 ex (c - p9),.int .i64 0] 112)=w15 at *
 clear TK
 have TK:=aS
 clear aS
 have hcx:(c - p9)≤maxLen:=by omega
 have HT:=Lib.hid (JU qx A9 ex (c - p9) 0 4 xs w15 RX0.out HL9.out hc9 hcx (Nat.zero_le _) (by omega) (HW9.out.at_ _ TK.out.low.at_) (.inr (by omega)))
 have HE:=Lib.hid (show R=(takeN xs 0 4).bind fun y=>tR4 b me crc pk sz nm xs Lr y.2 from AIK.out)
 generalize takeN xs 0 4=r at HT HE
 go_wp2_with fail
 refine (HT.out).mono ?_
 rintro e w16 ⟨hr,hk⟩
 have ZG:=Lib.hid (TK.out.side hgx hk)
 rcases r with _ | ⟨x0,y1⟩
 ·obtain rfl:e=DK:=hr
  unfold DK
  exact⟨rfl,by rw[show R=none from HE.out];rfl,ZG.out.keep⟩
 obtain⟨hy1,_,⟨_,rfl,_,_⟩,hrd⟩:=hr
 dsimp only at hy1 hrd
 have RX1:=Lib.hid hrd
 have AIL:=Lib.hid (show R=tR4 b me crc pk sz nm xs Lr y1 from HE.out)
 clear HT HE hk hrd TK AIK RX0
 have HT:=Lib.hid (Im qx A9 ex (c - p9) y1 4 xs w16 RX1.out HL9.out hc9 hcx hy1 (by omega) (by omega) (ZG.out.low.within HW9.out (by omega)))
 have HE:=Lib.hid (show R=(EE xs y1 4).bind fun y=>tR5 b me crc pk sz nm xs Lr y.1 y.2 from AIL.out)
 generalize EE xs y1 4=r at HT HE
 go_wp2_with fail
 refine (HT.out).mono ?_
 rintro e w17 ⟨hr,hk⟩
 have mU:=Lib.hid (ZG.out.side hgx hk)
 rcases r with _ | ⟨st,y2⟩
 ·obtain rfl:e=DK:=hr
  unfold DK
  exact⟨rfl,by rw[show R=none from HE.out];rfl,mU.out.keep⟩
 obtain⟨hy2,hst,rfl,hrd⟩:=hr
 dsimp only at hy2 hst hrd
 have RX2:=Lib.hid hrd
 have AIM:=Lib.hid (show R=tR5 b me crc pk sz nm xs Lr st y2 from HE.out)
 clear HT HE hk hrd ZG AIL RX1
 have HT:=Lib.hid (Im qx A9 ex (c - p9) y2 2 xs w17 RX2.out HL9.out hc9 hcx hy2 (by omega) (by omega) (mU.out.low.within HW9.out (by omega)))
 have HE:=Lib.hid (show R=(EE xs y2 2).bind fun y=>tR6 b me crc pk sz nm xs Lr st y.1 y.2 from AIM.out)
 generalize EE xs y2 2=r at HT HE
 go_wp2_with fail
 refine (HT.out).mono ?_
 rintro e w18 ⟨hr,hk⟩
 have ABq:=Lib.hid (mU.out.side hgx hk)
 rcases r with _ | ⟨nd,y3⟩
 ·obtain rfl:e=DK:=hr
  unfold DK
  exact⟨rfl,by rw[show R=none from HE.out];rfl,ABq.out.keep⟩
 obtain⟨hy3,hnd,rfl,hrd⟩:=hr
 dsimp only at hy3 hnd hrd
 have RX3:=Lib.hid hrd
 have AIN:=Lib.hid (show R=tR6 b me crc pk sz nm xs Lr st nd y3 from HE.out)
 clear HT HE hk hrd mU AIM RX2
 have HT:=Lib.hid (Im qx A9 ex (c - p9) y3 1 xs w18 RX3.out HL9.out hc9 hcx hy3 (by omega) (by omega) (ABq.out.low.within HW9.out (by omega)))
 have HE:=Lib.hid (show R=(EE xs y3 1).bind fun y=>tR7 b me crc pk sz nm st nd y.1 Lr from AIN.out)
 generalize EE xs y3 1=r at HT HE
 go_wp2_with fail
 refine (HT.out).mono ?_
 rintro e w19 ⟨hr,hk⟩
 have NW:=Lib.hid (ABq.out.side hgx hk)
 rcases r with _ | ⟨go,y4⟩
 ·obtain rfl:e=DK:=hr
  unfold DK
  exact⟨rfl,by rw[show R=none from HE.out];rfl,NW.out.keep⟩
 obtain⟨hy4,hgo,rfl,hrd⟩:=hr
 dsimp only at hy4 hgo hrd
 have RX4:=Lib.hid hrd
 have AIO:=Lib.hid (show R=tR7 b me crc pk sz nm st nd go Lr from HE.out)
 clear HT HE hk hrd ABq AIN RX3
 have ec2:w19.cell? ⟨g+1,2,none⟩=some (.int .i64 0):=NW.out.cur.cell 2
 have zc2:=NW.out.cur.frozen 2
 have ec3:w19.cell? ⟨g+1,3,none⟩=some (.int .i64 0):=NW.out.cur.cell 3
 have zc3:=NW.out.cur.frozen 3
 have ec4:w19.cell? ⟨g+1,4,none⟩=some (.bool false):=NW.out.cur.cell 4
 have zc4:=NW.out.cur.frozen 4
 have HGo:Hid (((go:Int) == 1)=(go == 1)):=Lib.hid (by
  by_cases h:go=1
  ·subst h;rfl
  ·rw[show (go == 1)=false from by simp[h]];simp;omega)
 have ACr:=Lib.hid (NW.out.store 2 (.int .i64 (st:Int)) (cs':=#[.string (Name.AQ nm),.slice none 0 0,.int .i64 (st:Int),.int .i64 0,.bool false,.int .i64 (me:Int),.slice none 0 0,.int .u32 (crc:Int),.int .i64 0]) rfl)
 have ACs:=Lib.hid (ACr.out.store 3 (.int .i64 (nd:Int)) (cs':=#[.string (Name.AQ nm),.slice none 0 0,.int .i64 (st:Int),.int .i64 (nd:Int),.bool false,.int .i64 (me:Int),.slice none 0 0,.int .u32 (crc:Int),.int .i64 0]) rfl)
 have aS:=Lib.hid (ACs.out.store 4 (.bool ((go:Int) == 1)) (cs':=#[.string (Name.AQ nm),.slice none 0 0,.int .i64 (st:Int),.int .i64 (nd:Int),.bool ((go:Int) == 1),.int .i64 (me:Int),.slice none 0 0,.int .u32 (crc:Int),.int .i64 0]) rfl)
 clear ACr ACs
 go_upto_region 12 with fail
 clear ec2 zc2 ec3 zc3 ec4 zc4 NW
 generalize ((w19.setCell ⟨g+1,2,none⟩ (.int .i64 (st:Int))).setCell ⟨g+1,3,none⟩ (.int .i64 (nd:Int))).setCell ⟨g+1,4,none⟩ (.bool ((go:Int) == 1))=w20 at *
 have NW:=aS
 clear aS
 rw[HGo.out]at NW
 clear HGo RX4
 have HT:=Lib.hid (JU q A n c Lr pk b w20 NW.out.MO Hn.out hnc hcm AIJ (by omega) NW.out.low.at_ (.inl hn0))
 have HE:=Lib.hid (show R=(takeN b Lr pk).bind fun y=>tR8 me crc sz nm st nd go y.1 y.2 from AIO.out)
 generalize takeN b Lr pk=r at HT HE
 go_wp2_with fail
 refine (HT.out).mono ?_
 rintro e w21 ⟨hr,hk⟩
 have HK:=Lib.hid (NW.out.keep.trans hk)
 rcases r with _ | ⟨pd,p15⟩
 ·obtain rfl:e=DK:=hr
  unfold DK
  exact⟨rfl,by rw[show R=none from HE.out];rfl,HK.out⟩
 obtain⟨AFG,AIP,⟨RV,rfl,AIQ,AIR⟩,hrd⟩:=hr
 have RX:=Lib.hid (show pd.length=pk from AIP)
 have ABr:=Lib.hid AIR
 clear AIP AIR
 dsimp only at AFG hrd
 have Ls:=Lib.hid (NW.out.call hk hrd)
 have AIS:=Lib.hid (show R=tR8 me crc sz nm st nd go pd p15 from HE.out)
 clear HT HE HK hk hrd NW AIO
 have ec:w21.cell? ⟨g+1,6,none⟩=some (.slice none 0 0):=Ls.out.cur.cell 6
 have zc:=Ls.out.cur.frozen 6
 have aS:=Lib.hid (Ls.out.store 6 (.slice RV pk (c - Lr)) (cs':=#[.string (Name.AQ nm),.slice none 0 0,.int .i64 (st:Int),.int .i64 (nd:Int),.bool (go == 1),.int .i64 (me:Int),.slice RV pk (c - Lr),.int .u32 (crc:Int),.int .i64 0]) rfl)
 go_upto_region 13 with fail
 clear ec zc Ls
 generalize w21.setCell ⟨g+1,6,none⟩ (.slice RV pk (c - Lr))=qf at *
 have Ls:=aS
 clear aS
 have ec5:qf.cell? ⟨g+1,5,none⟩=some (.int .i64 (me:Int)):=Ls.out.cur.cell 5
 have ec6:qf.cell? ⟨g+1,6,none⟩=some (.slice RV pk (c - Lr)):=Ls.out.cur.cell 6
 have ec1:qf.cell? ⟨g+1,1,none⟩=some (.slice none 0 0):=Ls.out.cur.cell 1
 have zc1:=Ls.out.cur.frozen 1
 have AIT:pd.length=pk:=RX.out
 have hpA:RV=none→pk=0:=fun h=>by
  rcases Nat.eq_zero_or_pos pk with h0 | h0
  ·exact h0
  ·obtain⟨_,_,_,_,e,_⟩:=ABr.out.blk (by rw[AIT];exact h0)
   rw[h]at e;cases e
 have HpA:=Lib.hid hpA
 have hby:BD qf RV pd:=ABr.out.at_ _ Ls.out.low.at_
 have Hby:=Lib.hid hby
 have HE:=Lib.hid (show R=(FN me pd).bind fun bs=>if bs.length=sz then some (⟨⟨nm,bs,(st:Int),(nd:Int),go == 1⟩,me,pd,crc⟩,p15) else none from AIS.out)
 clear hpA hby AIS AIT
 by_cases hm0:me=0
 ·have hm1:((me:Int) == 0)=true:=by rw[hm0];rfl
  have hbr:FN me pd=some pd:=by unfold FN;rw[if_pos hm0]
  have HC:=Lib.hid (Sg.Ei RV pk (c - Lr) (pd.map Eh) qf (by rw[List.length_map,RX.out,Nat.mul_one]) Hby.out HpA.out (Ia pd) (by omega) (by omega))
  have HE2:Hid (R=if pd.length=sz then some (⟨⟨nm,pd,(st:Int),(nd:Int),go == 1⟩,me,pd,crc⟩,p15) else none):=Lib.hid (by rw[HE.out,hbr];rfl)
  have hbs:g+1 < qf.heap.size:=Ls.out.fits
  clear HE hbr hm0
  go_wp2_with fail
  refine (HC.out).mono ?_
  rintro e w23 ⟨vb,rfl,Tv,hbb⟩
  have YV:=Lib.hid (Ls.out.below hbb)
  obtain⟨Ab,cb,rfl,hb1,hb2,_,_⟩:=Ag Tv
  have yu:BP w23 qf.heap.size (.slice Ab pk cb) pd:=by unfold BP;rw[RX.out];exact Tv
  have HOb:=Lib.hid (ownsRow_setCell_below yu (a:=⟨g+1,1,none⟩) hbs (.slice Ab pk cb))
  have ec1:w23.cell? ⟨g+1,1,none⟩=some (.slice none 0 0):=YV.out.cur.cell 1
  have zc1:=YV.out.cur.frozen 1
  have FM:=Lib.hid (YV.out.store 1 (.slice Ab pk cb) (cs':=#[.string (Name.AQ nm),.slice Ab pk cb,.int .i64 (st:Int),.int .i64 (nd:Int),.bool (go == 1),.int .i64 (me:Int),.slice RV pk (c - Lr),.int .u32 (crc:Int),.int .i64 0]) rfl)
  clear Tv hbb HC Ls
  go_upto_region 22 with fail
  clear ec1 zc1 YV ec5 ec6 yu
  generalize w23.setCell ⟨g+1,1,none⟩ (.slice Ab pk cb)=LG at *
  generalize hbase:qf.heap.size=base at *
  have e0:LG.cell? ⟨g+1,0,none⟩=some (.string (Name.AQ nm)):=FM.out.cur.cell 0
  have e1:LG.cell? ⟨g+1,1,none⟩=some (.slice Ab pk cb):=FM.out.cur.cell 1
  have e2:LG.cell? ⟨g+1,2,none⟩=some (.int .i64 (st:Int)):=FM.out.cur.cell 2
  have e3:LG.cell? ⟨g+1,3,none⟩=some (.int .i64 (nd:Int)):=FM.out.cur.cell 3
  have e4:LG.cell? ⟨g+1,4,none⟩=some (.bool (go == 1)):=FM.out.cur.cell 4
  have e5:LG.cell? ⟨g+1,5,none⟩=some (.int .i64 (me:Int)):=FM.out.cur.cell 5
  have e6:LG.cell? ⟨g+1,6,none⟩=some (.slice RV pk (c - Lr)):=FM.out.cur.cell 6
  have e7:LG.cell? ⟨g+1,7,none⟩=some (.int .u32 (crc:Int)):=FM.out.cur.cell 7
  have e8:LG.cell? ⟨g+1,8,none⟩=some (.int .i64 0):=FM.out.cur.cell 8
  have q0:LG.cell? ⟨g,0,none⟩=some (.string ⟨#[]⟩):=FM.out.res.cell 0
  have q1:LG.cell? ⟨g,1,none⟩=some (.slice none 0 0):=FM.out.res.cell 1
  have q2:LG.cell? ⟨g,2,none⟩=some (.int .i64 0):=FM.out.res.cell 2
  have q3:LG.cell? ⟨g,3,none⟩=some (.int .i64 0):=FM.out.res.cell 3
  have q4:LG.cell? ⟨g,4,none⟩=some (.bool false):=FM.out.res.cell 4
  have q5:LG.cell? ⟨g,5,none⟩=some (.int .i64 0):=FM.out.res.cell 5
  have q6:LG.cell? ⟨g,6,none⟩=some (.slice none 0 0):=FM.out.res.cell 6
  have q7:LG.cell? ⟨g,7,none⟩=some (.int .u32 0):=FM.out.res.cell 7
  have q8:LG.cell? ⟨g,8,none⟩=some (.int .i64 0):=FM.out.res.cell 8
  have z0:=FM.out.res.frozen 0
  have z1:=FM.out.res.frozen 1
  have z2:=FM.out.res.frozen 2
  have z3:=FM.out.res.frozen 3
  have z4:=FM.out.res.frozen 4
  have z5:=FM.out.res.frozen 5
  have z6:=FM.out.res.frozen 6
  have z7:=FM.out.res.frozen 7
  have z8:=FM.out.res.frozen 8
  have Jt:=Lib.hid (PX (show AX LG g 78 #[.string ⟨#[]⟩,.slice none 0 0,.int .i64 0,.int .i64 0,.bool false,.int .i64 0,.slice none 0 0,.int .u32 0,.int .i64 0] from FM.out.res) (.string (Name.AQ nm)) (.slice Ab pk cb) (.int .i64 (st:Int)) (.int .i64 (nd:Int)) (.bool (go == 1)) (.int .i64 (me:Int)) (.slice RV pk (c - Lr)) (.int .u32 (crc:Int)) (.int .i64 0))
  have zV:=Lib.hid (Ue FM.out.keep FM.out.gs (Nat.le_of_lt hqg) (.string (Name.AQ nm)) (.slice Ab pk cb) (.int .i64 (st:Int)) (.int .i64 (nd:Int)) (.bool (go == 1)) (.int .i64 (me:Int)) (.slice RV pk (c - Lr)) (.int .u32 (crc:Int)) (.int .i64 0))
  have HDx:=Lib.hid (aR FM.out.MO (Nat.ne_of_lt hqg) (.string (Name.AQ nm)) (.slice Ab pk cb) (.int .i64 (st:Int)) (.int .i64 (nd:Int)) (.bool (go == 1)) (.int .i64 (me:Int)) (.slice RV pk (c - Lr)) (.int .u32 (crc:Int)) (.int .i64 0))
  have HOx:=Lib.hid (Uf HOb.out (show g < base by omega) (.string (Name.AQ nm)) (.slice Ab pk cb) (.int .i64 (st:Int)) (.int .i64 (nd:Int)) (.bool (go == 1)) (.int .i64 (me:Int)) (.slice RV pk (c - Lr)) (.int .u32 (crc:Int)) (.int .i64 0))
  by_cases hq:pk=sz
  ·have hq':(((pk:Nat):Int) != ((sz:Nat):Int))=false:=by simp[hq]
   have Hq:=Lib.hid hq
   clear hq
   go_wp2_with fail
   refine bodyPost_ret (Gt rfl _ _ g 78 #[.string (Name.AQ nm),.slice Ab pk cb,.int .i64 (st:Int),.int .i64 (nd:Int),.bool (go == 1),.int .i64 (me:Int),.slice RV pk (c - Lr),.int .u32 (crc:Int),.int .i64 0] (0,0) _ rfl Jt.out Tryz.underlying78 rfl (by kernel_rfl)) rfl ?_
   refine⟨?_,zV.out⟩
   rw[HE2.out,RX.out,if_pos Hq.out]
   exact⟨AFG,⟨⟨⟨⟨nm,pd,(st:Int),(nd:Int),go == 1⟩,me,pd,crc⟩,(Ab,pk,cb),(RV,pk,(c - Lr)),0⟩,rfl,⟨rfl,rfl,Ai HOx.out (by rw[←Hg.out];omega),RX.out.symm,by rw[RX.out];exact AIQ,by show (c - Lr)≤maxLen;omega,ABr.out⟩⟩,HDx.out⟩
  ·have hq':(((pk:Nat):Int) != ((sz:Nat):Int))=true:=by simp;omega
   have Hq:=Lib.hid hq
   clear hq
   go_wp2_with fail
   refine⟨rfl,?_,FM.out.keep⟩
   rw[HE2.out,RX.out,if_neg Hq.out]
   rfl
 ·have hm1:((me:Int) == 0)=false:=by simp;omega
  by_cases hm8:me=8
  ·have hm2:((me:Int) == 8)=true:=by rw[hm8];rfl
   have hbr:FN me pd=(match CB pd with
    | .ok a=>if a.2.1=pd.length then some a.1 else none
    | .bad _=>none):=by unfold FN;rw[if_neg hm0,if_pos hm8];cases CB pd <;> rfl
   have HBr:=Lib.hid hbr
   have HU:=Lib.hid (Inf.dh RV pk (c - Lr) pd qf RX.out (by omega) Hby.out)
   have hbs:g+1 < qf.heap.size:=Ls.out.fits
   clear hbr hm0 hm8
   go_wp2_with fail
   refine (HU.out).mono ?_
   rintro e w23 ⟨hu,hbb⟩
   have YV:=Lib.hid (Ls.out.below hbb)
   have ec6:w23.cell? ⟨g+1,6,none⟩=some (.slice RV pk (c - Lr)):=YV.out.cur.cell 6
   have ec1:w23.cell? ⟨g+1,1,none⟩=some (.slice none 0 0):=YV.out.cur.cell 1
   have zc1:=YV.out.cur.frozen 1
   have ABs:=Lib.hid HBr.out
   unfold Inf.ZO at hu
   rcases hr:CB pd with z | ⟨out,used,ks⟩
   ·rw[hr]at hu
    obtain rfl:=hu
    have hzz:(z == 0)=false:=by rw[beq_eq_false_iff_ne];exact Inf.mX _ z hr
    have hzn:(z != 0)=true:=by rw[bne,hzz];rfl
    have hR:R=none:=by rw[HE.out,ABs.out,hr];rfl
    have HR:=Lib.hid hR
    clear hr hR HBr ABs HE HU Ls hbb
    go_wp2_with fail
    exact⟨rfl,by rw[HR.out];rfl,YV.out.keep⟩
   ·rw[hr]at hu
    obtain⟨hu3,Ao,co,Ak,ck,rfl,hoo,hok⟩:=hu
    dsimp only at hu3 hoo hok⊢
    have AIU:FN me pd=if used=pd.length then some out else none:=by rw[ABs.out,hr]
    have ABt:=Lib.hid AIU
    obtain⟨_,_,e1,hco,ANE,_,_⟩:=Ag hoo
    injection e1 with e1 _ e2
    subst e1 e2
    obtain⟨no,hno⟩:∃ no,no=out.length:=⟨_,rfl⟩
    rw[←hno]at hoo hco hu3⊢
    have Hno:=Lib.hid hno.symm
    generalize ks.length=nk at *
    clear hr AIU HBr ABs HU Ls hbb hok hno
    by_cases huq:used=pk
    ·have hup:((used:Int) != (pk:Int))=false:=by simp[huq]
     have HE2:Hid (R=if out.length=sz then some (⟨⟨nm,out,(st:Int),(nd:Int),go == 1⟩,me,pd,crc⟩,p15) else none):=Lib.hid (by rw[HE.out,ABt.out,if_pos (by rw[RX.out];exact huq)];rfl)
     have yu:BP w23 qf.heap.size (.slice Ao no co) out:=by unfold BP;rw[Hno.out];exact hoo
     have HOb:=Lib.hid (ownsRow_setCell_below yu (a:=⟨g+1,1,none⟩) hbs (.slice Ao no co))
     have FM:=Lib.hid (YV.out.store 1 (.slice Ao no co) (cs':=#[.string (Name.AQ nm),.slice Ao no co,.int .i64 (st:Int),.int .i64 (nd:Int),.bool (go == 1),.int .i64 (me:Int),.slice RV pk (c - Lr),.int .u32 (crc:Int),.int .i64 0]) rfl)
     have Huq:=Lib.hid huq
     clear hoo HE ABt yu huq
     go_upto_region 22 with fail
     clear ec1 zc1 YV ec5 ec6
     generalize w23.setCell ⟨g+1,1,none⟩ (.slice Ao no co)=LG at *
     generalize hbase:qf.heap.size=base at *
     have e0:LG.cell? ⟨g+1,0,none⟩=some (.string (Name.AQ nm)):=FM.out.cur.cell 0
     have e1:LG.cell? ⟨g+1,1,none⟩=some (.slice Ao no co):=FM.out.cur.cell 1
     have e2:LG.cell? ⟨g+1,2,none⟩=some (.int .i64 (st:Int)):=FM.out.cur.cell 2
     have e3:LG.cell? ⟨g+1,3,none⟩=some (.int .i64 (nd:Int)):=FM.out.cur.cell 3
     have e4:LG.cell? ⟨g+1,4,none⟩=some (.bool (go == 1)):=FM.out.cur.cell 4
     have e5:LG.cell? ⟨g+1,5,none⟩=some (.int .i64 (me:Int)):=FM.out.cur.cell 5
     have e6:LG.cell? ⟨g+1,6,none⟩=some (.slice RV pk (c - Lr)):=FM.out.cur.cell 6
     have e7:LG.cell? ⟨g+1,7,none⟩=some (.int .u32 (crc:Int)):=FM.out.cur.cell 7
     have e8:LG.cell? ⟨g+1,8,none⟩=some (.int .i64 0):=FM.out.cur.cell 8
     have q0:LG.cell? ⟨g,0,none⟩=some (.string ⟨#[]⟩):=FM.out.res.cell 0
     have q1:LG.cell? ⟨g,1,none⟩=some (.slice none 0 0):=FM.out.res.cell 1
     have q2:LG.cell? ⟨g,2,none⟩=some (.int .i64 0):=FM.out.res.cell 2
     have q3:LG.cell? ⟨g,3,none⟩=some (.int .i64 0):=FM.out.res.cell 3
     have q4:LG.cell? ⟨g,4,none⟩=some (.bool false):=FM.out.res.cell 4
     have q5:LG.cell? ⟨g,5,none⟩=some (.int .i64 0):=FM.out.res.cell 5
     have q6:LG.cell? ⟨g,6,none⟩=some (.slice none 0 0):=FM.out.res.cell 6
     have q7:LG.cell? ⟨g,7,none⟩=some (.int .u32 0):=FM.out.res.cell 7
     have q8:LG.cell? ⟨g,8,none⟩=some (.int .i64 0):=FM.out.res.cell 8
     have z0:=FM.out.res.frozen 0
     have z1:=FM.out.res.frozen 1
     have z2:=FM.out.res.frozen 2
     have z3:=FM.out.res.frozen 3
     have z4:=FM.out.res.frozen 4
     have z5:=FM.out.res.frozen 5
     have z6:=FM.out.res.frozen 6
     have z7:=FM.out.res.frozen 7
     have z8:=FM.out.res.frozen 8
     have Jt:=Lib.hid (PX (show AX LG g 78 #[.string ⟨#[]⟩,.slice none 0 0,.int .i64 0,.int .i64 0,.bool false,.int .i64 0,.slice none 0 0,.int .u32 0,.int .i64 0] from FM.out.res) (.string (Name.AQ nm)) (.slice Ao no co) (.int .i64 (st:Int)) (.int .i64 (nd:Int)) (.bool (go == 1)) (.int .i64 (me:Int)) (.slice RV pk (c - Lr)) (.int .u32 (crc:Int)) (.int .i64 0))
     have zV:=Lib.hid (Ue FM.out.keep FM.out.gs (Nat.le_of_lt hqg) (.string (Name.AQ nm)) (.slice Ao no co) (.int .i64 (st:Int)) (.int .i64 (nd:Int)) (.bool (go == 1)) (.int .i64 (me:Int)) (.slice RV pk (c - Lr)) (.int .u32 (crc:Int)) (.int .i64 0))
     have HDx:=Lib.hid (aR FM.out.MO (Nat.ne_of_lt hqg) (.string (Name.AQ nm)) (.slice Ao no co) (.int .i64 (st:Int)) (.int .i64 (nd:Int)) (.bool (go == 1)) (.int .i64 (me:Int)) (.slice RV pk (c - Lr)) (.int .u32 (crc:Int)) (.int .i64 0))
     have HOx:=Lib.hid (Uf HOb.out (show g < base by omega) (.string (Name.AQ nm)) (.slice Ao no co) (.int .i64 (st:Int)) (.int .i64 (nd:Int)) (.bool (go == 1)) (.int .i64 (me:Int)) (.slice RV pk (c - Lr)) (.int .u32 (crc:Int)) (.int .i64 0))
     by_cases hq:no=sz
     ·have hq':(((no:Nat):Int) != ((sz:Nat):Int))=false:=by simp[hq]
      have Hq:=Lib.hid hq
      clear hq
      go_wp2_with fail
      refine bodyPost_ret (Gt rfl _ _ g 78 #[.string (Name.AQ nm),.slice Ao no co,.int .i64 (st:Int),.int .i64 (nd:Int),.bool (go == 1),.int .i64 (me:Int),.slice RV pk (c - Lr),.int .u32 (crc:Int),.int .i64 0] (0,0) _ rfl Jt.out Tryz.underlying78 rfl (by kernel_rfl)) rfl ?_
      refine⟨?_,zV.out⟩
      rw[HE2.out,Hno.out,if_pos Hq.out]
      exact⟨AFG,⟨⟨⟨⟨nm,out,(st:Int),(nd:Int),go == 1⟩,me,pd,crc⟩,(Ao,no,co),(RV,pk,(c - Lr)),0⟩,rfl,⟨rfl,rfl,Ai HOx.out (by rw[←Hg.out];omega),RX.out.symm,by rw[RX.out];exact AIQ,by show (c - Lr)≤maxLen;omega,ABr.out⟩⟩,HDx.out⟩
     ·have hq':(((no:Nat):Int) != ((sz:Nat):Int))=true:=by simp;omega
      have Hq:=Lib.hid hq
      clear hq
      go_wp2_with fail
      refine⟨rfl,?_,FM.out.keep⟩
      rw[HE2.out,Hno.out,if_neg Hq.out]
      rfl
    ·have hup:((used:Int) != (pk:Int))=true:=by simp;omega
     have HR:Hid (R=none):=Lib.hid (by rw[HE.out,ABt.out,if_neg (by rw[RX.out];exact huq)];rfl)
     clear hoo HE ABt
     go_wp2_with fail
     exact⟨rfl,by rw[HR.out];rfl,YV.out.keep⟩
  ·have hm2:((me:Int) == 8)=false:=by simp;omega
   have HR:Hid (R=none):=Lib.hid (by rw[HE.out];unfold FN;rw[if_neg hm0,if_neg hm8];rfl)
   clear HE
   go_wp2_with fail
   exact⟨rfl,by rw[HR.out];rfl,Ls.out.keep⟩
end Go.Proofs.YtabdianhoabhhaaGreatDoor.Zip
namespace Go.Proofs.YtabdianhoabhhaaGreatDoor.Zip
open Go Go.RowKit Go.Proofs.YtabdianhoabhhaaGreatDoor Go.Proofs.YtabdianhoabhhaaGreatDoor.Bits Go.Proofs.YtabdianhoabhhaaGreatDoor.Merge Go.Proofs.YtabdianhoabhhaaGreatDoor.Name
open Go.Proofs.YtabdianhoabhhaaGreatDoor.Inf (EK)
set_option linter.unusedVariables false
set_option linter.unusedSimpArgs false
structure NV (w:World) (B g2 g3:Nat) (v2 v3:Value):Prop where
 mK:B≤g2
 jF:B≤g3
 b2:AX w g2 76 #[v2]
 b3:AX w g3 4 #[v3]
theorem NV.s2 {w:World} {B g2 g3:Nat} {v2 v3:Value} (h:NV w B g2 g3 v2 v3) (u:Value):NV (w.setCell ⟨g2,0,none⟩ u) B g2 g3 u v3:=
 ⟨h.mK,h.jF,h.b2.Ca 0 u,h.b3.far (p:=⟨g2,0,none⟩) (EK h.b3 h.b2 (by decide)) u⟩
theorem NV.s3 {w:World} {B g2 g3:Nat} {v2 v3:Value} (h:NV w B g2 g3 v2 v3) (u:Value):NV (w.setCell ⟨g3,0,none⟩ u) B g2 g3 v2 u:=
 ⟨h.mK,h.jF,h.b2.far (p:=⟨g3,0,none⟩) (EK h.b2 h.b3 (by decide)) u,h.b3.Ca 0 u⟩
theorem NV.below {w w':World} {B g2 g3:Nat} {v2 v3:Value} (h:NV w B g2 g3 v2 v3) (hb:Below w.heap.size w w'):NV w' B g2 g3 v2 v3:=
 ⟨h.mK,h.jF,h.b2.below hb h.b2.lt,h.b3.below hb h.b3.lt⟩
set_option maxRecDepth 100000 in
set_option maxHeartbeats 1600000 in
theorem Qd (B g2 g3:Nat) (v2 v3:Value) (older:List PanicEntry) (w:World) (hBw:B≤w.heap.size) (h:NV w B g2 g3 v2 v3) :
  CallsD Tryz.prog 66 #[.pointer (some ⟨g2,0,none⟩),.pointer (some ⟨g3,0,none⟩)] (.panicking ({ v:=.iface 108 (.agg #[]),recovered:=false } :: older)) w fun e u' w'=>
   e=.returned (.tuple #[])∧u'=.panicking ({ v:=.iface 108 (.agg #[]),recovered:=true } :: older)∧NV w' B g2 g3 (.slice none 0 0) (.bool false)∧Below B w w':=by
 have H:=Lib.hid h
 clear h
 refine callsD_of_wpS Tryz.func66 rfl fun c₀ cs hu=>?_
 apply wpS_seq
 apply wpS_region
 simp[wpOpsS,go_sem,recoverD,hu,Tryz.ntmps66,Exit.thenS]
 refine wpS_of_wp (wp_mono (Q:=fun e a w'=>e=.normal∧a.defers=[]∧NV w' B g2 g3 (.slice none 0 0) (.bool false)∧Below B w w') ?_ ?_)
 rotate_left
 ·rintro e a w' ⟨rfl,hd,h1,h2⟩
  cases c₀
  simp only at hu
  subst hu
  exact⟨hd,_,rfl,_,results_none rfl _ _ _,rfl,rfl,h1,h2⟩
 clear hu
 have has:∀ (v:Value) (W:World),(Instr.typeAssert (.iface 108 v) 20 108 true).run Tryz.prog W=.ok (.tuple #[v,.bool true]) W:=fun _ _=>by kernel_rfl
 have mM:#[.pointer (some ⟨g2,0,none⟩),.pointer (some ⟨g3,0,none⟩)]++((Array.replicate 14 undef).setIfInBounds 3 (.iface 108 (.agg #[]))).setIfInBounds 0 (.iface 108 (.agg #[]))=#[.pointer (some ⟨g2,0,none⟩),.pointer (some ⟨g3,0,none⟩),.iface 108 (.agg #[]),undef,undef,.iface 108 (.agg #[]),undef,undef,undef,undef,undef,undef,undef,undef,undef,undef]:=rfl
 rw[mM]
 clear mM
 have hb2:Below w.heap.size w (w.alloc (.cells #[] 108)):=(Below.refl _ _).alloc (Nat.le_refl _) _
 have H2:=Lib.hid (H.out.below hb2)
 have Hb2:=Lib.hid (hb2.mono hBw)
 clear hb2
 go_upto_region 5 with fail
 generalize w.alloc (.cells #[] 108)=w2 at *
 have c2:w2.cell? ⟨g2,0,none⟩=some v2:=H2.out.b2.cell 0
 have f2:=H2.out.b2.frozen 0
 have H3:=Lib.hid (H2.out.s2 (.slice none 0 0))
 have Hb3:=Lib.hid (Hb2.out.setCell (p:=⟨g2,0,none⟩) H2.out.mK (.slice none 0 0))
 have c3:(w2.setCell ⟨g2,0,none⟩ (.slice none 0 0)).cell? ⟨g3,0,none⟩=some v3:=H3.out.b3.cell 0
 have f3:(w2.setCell ⟨g2,0,none⟩ (.slice none 0 0)).frozen? ⟨g3,0,none⟩=false:=H3.out.b3.frozen 0
 have H4:=Lib.hid (H3.out.s3 (.bool false))
 have Hb4:=Lib.hid (Hb3.out.setCell (p:=⟨g3,0,none⟩) H3.out.jF (.bool false))
 go_wp2_with fail
 exact⟨H4.out,Hb4.out⟩
set_option maxRecDepth 100000 in
set_option maxHeartbeats 1600000 in
theorem aP (g2 g3:Nat) (w:World) :
  CallsD Tryz.prog 66 #[.pointer (some ⟨g2,0,none⟩),.pointer (some ⟨g3,0,none⟩)] .returning w fun e u' w'=>e=.returned (.tuple #[])∧u'=.returning∧w'=w:=by
 refine callsD_of_wpS Tryz.func66 rfl fun c₀ cs hu=>?_
 apply wpS_seq
 apply wpS_region
 simp[wpOpsS,go_sem,recoverD,hu,Tryz.ntmps66,Exit.thenS]
 refine wpS_of_wp (wp_mono (Q:=fun e a w'=>e=.normal∧a.defers=[]∧w'=w) ?_ ?_)
 rotate_left
 ·rintro e a w' ⟨rfl,hd,rfl⟩
  cases c₀
  simp only at hu
  subst hu
  exact⟨hd,_,rfl,_,results_none rfl _ _ _,rfl,rfl,rfl⟩
 clear hu
 go_wp2_with fail
end Go.Proofs.YtabdianhoabhhaaGreatDoor.Zip
namespace Go.Proofs.YtabdianhoabhhaaGreatDoor.Zip
open Go.Proofs.YtabdianhoabhhaaGreatDoor.Merge Go.Proofs.YtabdianhoabhhaaGreatDoor.Inf
set_option linter.unusedVariables false
def YG (b:List UInt8) (e:Dp):Prop:=e.packed.length≤b.length∧e.f.name.length≤b.length
theorem Ui {b:List UInt8}:∀ (f p:Nat) (done l:List Dp),Dt b f p done=some l→(∀ e∈done,YG b e)→∀ e∈l,YG b e
 | 0,p,done,l,h,hd=>by
  unfold Dt at h
  injection h with h
  subst h;exact hd
 | f+1,p,done,l,h,hd=>by
  unfold Dt at h
  split at h
  ·obtain⟨⟨x,q⟩,h1,h2⟩:=CE h
   refine Ui f q (done++[x]) l h2 fun e he=>?_
   rcases List.mem_append.1 he with he | he
   ·exact hd e he
   ·rw[List.mem_singleton]at he
    subst he
    exact⟨(Uj h1).2.2.2.1,(Uj h1).2.2.2.2⟩
  ·injection h with h
   subst h;exact hd
theorem Uk {b:List UInt8}:∀ (f p:Nat) (done l:List Dp),Dt b f p done=some l→done.length≤13→l.length≤13
 | 0,p,done,l,h,hd=>by
  unfold Dt at h
  injection h with h
  subst h;exact hd
 | f+1,p,done,l,h,hd=>by
  unfold Dt at h
  split at h
  ·rename_i hc
   obtain⟨⟨x,q⟩,h1,h2⟩:=CE h
   refine Uk f q (done++[x]) l h2 ?_
   rw[List.length_append,List.length_cons,List.length_nil]
   have:=hc.2.2
   omega
  ·injection h with h
   subst h;exact hd
structure Ul (b:List UInt8) (l:List Dp):Prop where
 good:∀ e∈l,Good e
 small:∀ e∈l,YG b e
 count:l.length≤13
theorem kI {b:List UInt8} {l:List Dp} (h:Dt b 14 0 []=some l):Ul b l:=
 ⟨NP 14 0 [] l h (fun e h=>by cases h),Ui 14 0 [] l h (fun e h=>by cases h),Uk 14 0 [] l h (by simp)⟩
theorem gY {b:List UInt8} {l:List Dp} (h:Ul b l) (hb:b.length≤12000):(laidB l).length≤1000000:=by
 have key:∀ l:List Dp,(∀ e∈l,YG b e)→(l.map KR).sum≤36098*l.length:=by
  intro l
  induction l with
  | nil=>intro _;exact Nat.le_refl _
  | cons e l ih=>
   intro h
   have h1:=ih fun x hx=>h x (List.mem_cons_of_mem _ hx)
   obtain⟨h2,h3⟩:=h e (List.mem_cons_self ..)
   have hs:KR e=98+2*e.f.name.length+e.packed.length:=rfl
   rw[List.map_cons,List.sum_cons,List.length_cons,hs]
   omega
 rw[KQ]
 have h1:=key l h.small
 have h2:=h.count
 omega
theorem Ul.bytes {b:List UInt8} {l:List Dp} (h:Ul b l) (hb:b.length≤12000):∀ e∈l,e.f.bytes.length≤12000:=fun e he=>by
 have h1:=Wd (h.good e he).bytes
 have h2:=(h.small e he).1
 omega
def KW (b:List UInt8):Bool×List Dp:=match Dt b 14 0 [] with
 | none=>(false,[])
 | some l=>(decide (laidB l=b),l)
theorem zF (b:List UInt8):Ul b (KW b).2:=by
 unfold KW
 cases h:Dt b 14 0 [] with
 | none=>exact⟨(fun e h=>by cases h),(fun e h=>by cases h),by simp⟩
 | some l=>exact kI h
def RD (l:List Dp):Bool:=l.all fun e=>GK e.f.bytes == e.crc
theorem gZ (l:List Dp) (e:Dp):RD (l++[e])=(RD l && GK e.f.bytes == e.crc):=by simp[RD]
theorem WZ {b:List UInt8} (h:12000 < b.length):Dl b=.bad 2:=by unfold Dl;rw[if_pos h]
theorem kK {b:List UInt8} (h:¬ 12000 < b.length):Dl b=if (KW b).1=false then .bad 7 else if Be ((KW b).2.map Dp.f)≠0 then .bad 7 else if RD (KW b).2=true then .ok ((KW b).2.map Dp.f) else .bad 10:=by
 unfold Dl KW RD
 rw[if_neg h]
 cases Dt b 14 0 [] with
 | none=>rfl
 | some l=>
  dsimp only
  by_cases h1:laidB l=b
  ·rw[if_neg (show ¬ decide (laidB l=b)=false by simp[h1])]
   by_cases h2:Be (l.map Dp.f)≠0
   ·rw[if_pos (.inr h2),if_pos h2]
   ·rw[if_neg (by rintro (h | h);exact h h1;exact h2 h),if_neg h2]
  ·rw[if_pos (.inl h1),if_pos (by simp[h1])]
end Go.Proofs.YtabdianhoabhhaaGreatDoor.Zip
namespace Go.Proofs.YtabdianhoabhhaaGreatDoor.Zip
open Go Go.RowKit Go.Proofs.YtabdianhoabhhaaGreatDoor Go.Proofs.YtabdianhoabhhaaGreatDoor.Bits Go.Proofs.YtabdianhoabhhaaGreatDoor.Merge Go.Proofs.YtabdianhoabhhaaGreatDoor.Name
open Go.Proofs.YtabdianhoabhhaaGreatDoor.Inf (DR)
set_option linter.unusedVariables false
set_option linter.unusedSimpArgs false
theorem tyE:Bo Tryz.prog 76 78 (.agg #[.string ByteArray.empty,.slice none 0 0,.int .i64 0,.int .i64 0,.bool false,.int .i64 0,.slice none 0 0,.int .u32 0,.int .i64 0]) 9 112:=⟨Tryz.underlying76,by kernel_rfl,rfl,by omega⟩
structure Ur (w wr:World) (x:Ex):Prop where
 len:x.bs.2.1=x.e.f.bytes.length
 room:x.e.f.bytes.length≤x.bs.2.2
 cap:x.bs.2.2≤maxLen
 at_:BD w x.bs.1 x.e.f.bytes
 pk:(x.pk=x.bs∧x.e.packed=x.e.f.bytes)∨BP wr w.heap.size (Cj x.pk) x.e.packed
theorem Ur.turn {w wr w':World} {x:Ex} (h:Ur w wr x) (hk:∀ v xs,BP wr w.heap.size v xs→BP w' w.heap.size v xs):Ur w w' x:=
 ⟨h.len,h.room,h.cap,h.at_,h.pk.imp id (hk _ _)⟩
theorem Ur.AFH {w wr:World} {x:Ex} (h:Ur w wr x) (hb:Below w.heap.size w wr):VI w.heap.size wr x:=fun w2 h2=>by
 have hb2:Below w.heap.size w w2:=hb.trans h2.toBelow
 rcases h.pk with ⟨h1,h3⟩ | ho
 ·exact⟨h.len,h.room,h.cap,BD.below h.at_ hb2,by rw[h1,h3];exact h.len,by rw[h1,h3];exact h.room,by rw[h1];exact h.cap,by rw[h1,h3];exact BD.below h.at_ hb2⟩
 ·have ho2:BP w2 w.heap.size (Cj x.pk) x.e.packed:=h2.Jf.own ho (by decide)
  obtain⟨A,c,e,q1,q2,q3,_⟩:=ho2.slice
  unfold Cj at e
  injection e with e1 e2 e3
  exact⟨h.len,h.room,h.cap,BD.below h.at_ hb2,e2,by rw[e3];exact q1,by rw[e3];exact q2,by rw[e1];exact q3⟩
theorem zA (x:Ex):∀ u∈eC x,u.oneCell'=true:=by
 intro u hu
 simp[eC,Cj]at hu
 rcases hu with rfl | rfl | rfl | rfl | rfl | rfl | rfl | rfl | rfl <;> rfl
def jW (l:List Fl) (w:World) (e:Ending) (w':World):Prop:=
  (match Cf CK l with
   | .bad z=>e=.returned (.tuple #[.slice none 0 0,.int .i64 z])
   | .ok b=>∃ vb,e=.returned (.tuple #[vb,.int .i64 0])∧BP w' w.heap.size vb b)∧Below w.heap.size w w'
theorem iG {l:List Fl} (h:Be l=0):(laidB (Bt CK l)).length≤60000:=by
 obtain⟨h1,h2⟩:=FW h
 rw[KQ]
 have key:∀ l:List Fl,(∀ f∈l,ET f=0)→((Bt CK l).map KR).sum≤3178*l.length:=by
  intro l
  induction l with
  | nil=>intro _;exact Nat.le_refl _
  | cons f l ih=>
   intro h
   have h3:=M0 (h f (List.mem_cons_self ..))
   have h4:=ih fun g hg=>h g (List.mem_cons_of_mem _ hg)
   have h5:=Qh CK f
   unfold Bt at h4⊢
   rw[List.map_cons,List.map_cons,List.sum_cons,List.length_cons]
   unfold KR at h4⊢
   rw[Io]
   omega
 have:=key l h2
 omega
set_option maxRecDepth 100000 in
set_option maxHeartbeats 3000000 in
theorem CV (v:Value) (l:List Fx) (w:World) (hm:ML w) (h:CL w v l) :
  Calls Tryz.prog 12 #[v] w (jW (l.map Prod.fst) w):=by
 have HC:=Lib.hid (Fy v l w hm h)
 obtain⟨A,cap,rfl,hcap,hcm,hA,ic,Qn⟩:=h
 have HA:=Lib.hid hA
 have Hd:=Lib.hid Qn
 obtain⟨n,hn⟩:∃ n,n=l.length:=⟨_,rfl⟩
 rw[←hn]at HC hcap⊢
 have Hn:=Lib.hid hn
 have HW:Hid (Cf CK (l.map Prod.fst)=if Be (l.map Prod.fst)≠0 then .bad (Be (l.map Prod.fst)) else if 12000 < (laidB (Bt CK (l.map Prod.fst))).length then .bad 11 else .ok (laidB (Bt CK (l.map Prod.fst)))):=Lib.hid rfl
 have HK:=Lib.hid (@FW (l.map Prod.fst))
 have HG:=Lib.hid (@LJ CK JK (l.map Prod.fst))
 have HL:=Lib.hid (@iG (l.map Prod.fst))
 clear hA ic Qn hn hm
 obtain⟨z,hz⟩:∃ z,z=Be (l.map Prod.fst):=⟨_,rfl⟩
 rw[←hz]at HC HW HK HG HL
 obtain⟨B,hB⟩:∃ B,B=w.heap.size:=⟨_,rfl⟩
 have HB:=Lib.hid hB
 clear hz hB
 go_enter Tryz.func12,Tryz.ntmps12
 go_wp2_with fail
 refine (HC.out).mono ?_
 rintro e w1 ⟨rfl,hb1⟩
 have Hb1:=Lib.hid hb1
 clear hb1 HC
 by_cases hz:z=0
 ·subst hz
  have HK':=Lib.hid (HK.out rfl)
  have HG':=Lib.hid (HG.out rfl)
  have HL':=Lib.hid (HL.out rfl)
  have ANa:n≤12:=by have:=HK'.out.1;rw[List.length_map,←Hn.out]at this;exact this
  clear HK HG HL
  go_wp2_with fail
  go_loopw [5,16] (fun ve vi wr=>∃ (k:Nat) (xs:List Ex),k≤n∧vi=.int .i64 (k:Int)∧wr.ownsRow w.heap.size 78 9 ve k (xs.flatMap eC)∧xs.map Ex.e=(l.take k).map (fun f=>FI CK f.1)∧(∀ x∈xs,Ur w wr x)∧Below w.heap.size w wr) (fun _ vi _=>n - (intOf vi).toNat)
  case atStart=>exact⟨0,[],Nat.zero_le _,rfl,World.ownsRow_nil _ _ _ _,rfl,(by simp),Hb1.out⟩
  case round=>
   obtain⟨k,xs,hk,rfl,ho,he,hx,hb⟩:=hrel
   have HO:=Lib.hid ho
   have HE:=Lib.hid he
   have HX:=Lib.hid hx
   have Hb:=Lib.hid hb
   clear ho he hx hb
   by_cases hlt:k < n
   ·have hlt':(k:Int) < (n:Int):=by omega
    have hk0:(0:Int)≤(k:Int):=by omega
    have hkl:k < l.length:=by rw[←Hn.out];exact hlt
    obtain⟨b,o,rfl,c0,c1,c2,c3,c4⟩:=F7 (HA.out.below Hb.out) hkl
    obtain⟨f,hf⟩:∃ f,f=l[k]:=⟨_,rfl⟩
    have hfm:f∈l:=by rw[hf];exact List.getElem_mem hkl
    have HF:=Lib.hid ((Hd.out f hfm))
    have hf3:f.1.bytes.length≤3000:=(M0 (HK'.out.2 f.1 (List.mem_map_of_mem hfm))).2.1
    have Hf3:=Lib.hid hf3
    have bJ:Hid (l.take (k+1)=l.take k++[f]):=Lib.hid (by rw[List.take_succ_eq_append_getElem hkl,←hf])
    rw[←hf]at c0 c1 c2 c3 c4
    clear hf hfm hf3
    unfold Cj at c1
    go_upto_region 8 with fail
    have hB2:=AX.new wr 36 #[.string (Name.AQ f.1.name),.slice f.2.1 f.2.2.1 f.2.2.2,.int .i64 f.1.stamp,.int .i64 f.1.node,.bool f.1.gone]
    have hbel:Below wr.heap.size wr (wr.alloc (.cells #[.string (Name.AQ f.1.name),.slice f.2.1 f.2.2.1 f.2.2.2,.int .i64 f.1.stamp,.int .i64 f.1.node,.bool f.1.gone] 36)):=(Below.refl _ _).alloc (Nat.le_refl _) _
    generalize wr.alloc (.cells #[.string (Name.AQ f.1.name),.slice f.2.1 f.2.2.1 f.2.2.2,.int .i64 f.1.stamp,.int .i64 f.1.node,.bool f.1.gone] 36)=w2 at *
    have HB2:=Lib.hid hB2
    have Cx:=Lib.hid (AP HO.out hbel)
    have HX2:Hid (∀ x∈xs,Ur w w2 x):=Lib.hid (fun x hx=>(HX.out x hx).turn fun v ys h=>AP h hbel)
    have Hb2:=Lib.hid (Hb.out.trans (hbel.mono Hb.out.size))
    have hs2:w.heap.size≤w2.heap.size:=Hb2.out.size
    have d0:w2.cell? ⟨wr.heap.size,0,none⟩=some (.string (Name.AQ f.1.name)):=hB2.cell 0
    have d1:w2.cell? ⟨wr.heap.size,1,none⟩=some (.slice f.2.1 f.2.2.1 f.2.2.2):=hB2.cell 1
    have d2:w2.cell? ⟨wr.heap.size,2,none⟩=some (.int .i64 f.1.stamp):=hB2.cell 2
    have d3:w2.cell? ⟨wr.heap.size,3,none⟩=some (.int .i64 f.1.node):=hB2.cell 3
    have d4:w2.cell? ⟨wr.heap.size,4,none⟩=some (.bool f.1.gone):=hB2.cell 4
    have HOf:=Lib.hid (di f w2 (HF.out.below Hb2.out) Hf3.out)
    clear hB2 hbel HO HX Hb
    go_wp2_with fail
    refine (HOf.out).mono ?_
    rintro e w3 ⟨⟨pk,rfl,hpk⟩,hb3⟩
    obtain⟨x,hx⟩:∃ x:Ex,x =⟨FI CK f.1,f.2,pk,0⟩:=⟨_,rfl⟩
    have he:x.e=FI CK f.1:=by rw[hx]
    have hbs:x.bs=f.2:=by rw[hx]
    have hpx:x.pk=pk:=by rw[hx]
    rw[←hx]
    rw[←hpx,←he]at hpk
    have hof:Ur w w3 x:=⟨by rw[hbs,he,Io];exact HF.out.len,by rw[hbs,he,Io];exact HF.out.room,by rw[hbs];exact HF.out.cap,by rw[hbs,he,Io];exact HF.out.at_,by
     rcases hpk with ⟨h1,h2⟩ | h1
     ·exact .inl ⟨by rw[hbs];exact h1,by rw[he,Io,←he];exact h2⟩
     ·exact .inr (Ai h1 hs2)⟩
    have dQ:Hid (∀ y∈xs++[x],Ur w w3 y):=Lib.hid (fun y hy=>by
     rcases List.mem_append.1 hy with h | h
     ·exact (HX2.out y h).turn fun v ys h=>AP h hb3
     ·rw[List.mem_singleton.1 h];exact hof)
    have jZ:Hid ((xs++[x]).map Ex.e=(l.take (k+1)).map (fun f=>FI CK f.1)):=Lib.hid (by
     rw[bJ.out,List.map_append,List.map_append,HE.out]
     simp[he])
    have XX:=Lib.hid (AP Cx.out hb3)
    have Hb3:=Lib.hid (Hb2.out.trans (hb3.mono hs2))
    have hs3:w.heap.size≤w3.heap.size:=Hb3.out.size
    have hxl:xs.length=k:=by
     have:=congrArg List.length HE.out
     rw[List.length_map,List.length_map,List.length_take]at this
     omega
    clear hpk hof hx he hbs hpx hb3 HOf Cx HX2 Hb2 HE d0 d1 d2 d3 d4 HB2 hs2
    unfold eV
    have hbel:Below w3.heap.size w3 (w3.alloc (.cells #[.string (Name.AQ x.e.f.name),Cj x.bs,.int .i64 x.e.f.stamp,.int .i64 x.e.f.node,.bool x.e.f.gone,.int .i64 (x.e.method:Int),Cj x.pk,.int .u32 (x.e.crc:Int),.int .i64 (x.at_:Int)] 78)):=(Below.refl _ _).alloc (Nat.le_refl _) _
    have HZ:Hid (AR (w3.alloc (.cells #[.string (Name.AQ x.e.f.name),Cj x.bs,.int .i64 x.e.f.stamp,.int .i64 x.e.f.node,.bool x.e.f.gone,.int .i64 (x.e.method:Int),Cj x.pk,.int .u32 (x.e.crc:Int),.int .i64 (x.at_:Int)] 78)) (some ⟨w3.heap.size,0,none⟩) (eC x)):=Lib.hid (AR.of_heap (heap_alloc_new _ _) rfl)
    have KL:=Lib.hid (AP XX.out hbel)
    have jG:Hid (∀ y∈xs++[x],Ur w (w3.alloc (.cells #[.string (Name.AQ x.e.f.name),Cj x.bs,.int .i64 x.e.f.stamp,.int .i64 x.e.f.node,.bool x.e.f.gone,.int .i64 (x.e.method:Int),Cj x.pk,.int .u32 (x.e.crc:Int),.int .i64 (x.at_:Int)] 78)) y):=Lib.hid (fun y hy=>(dQ.out y hy).turn fun v ys h=>AP h hbel)
    have Hb4:=Lib.hid (Hb3.out.trans (hbel.mono hs3))
    have hs4:w.heap.size≤(w3.alloc (.cells #[.string (Name.AQ x.e.f.name),Cj x.bs,.int .i64 x.e.f.stamp,.int .i64 x.e.f.node,.bool x.e.f.gone,.int .i64 (x.e.method:Int),Cj x.pk,.int .u32 (x.e.crc:Int),.int .i64 (x.at_:Int)] 78)).heap.size:=Hb4.out.size
    clear hbel XX dQ Hb3
    go_wp2_with (at_builtin;refine AY _ rfl (.tmp 20) (.tmp 23) _ rfl w.heap.size 78 _ 9 112 tyE _ k (xs.flatMap eC) rfl KL.out (some ⟨w3.heap.size,0,none⟩) 1 1 (eC x) rfl rfl HZ.out (zA x) (by simp) (by unfold maxLen;omega) (by omega) hs4 ?_;intro v5 w5 hown5 hg5 _;have YK:=Lib.hid hown5;have mO:Hid (∀ y∈xs++[x],Ur w w5 y):=Lib.hid (fun y hy=>(jG.out y hy).turn fun v ys h=>Cv.LC h KL.out hg5 (by decide));have Hb5:=Lib.hid (own_below KL.out hg5 Hb4.out hs4);clear hown5 hg5 KL jG Hb4 HZ hs4)
    go_roundw
    case rel=>exact⟨k+1,xs++[x],by omega,by go_num,by have:=YK.out;simpa only[List.flatMap_append,List.flatMap_cons,List.flatMap_nil,List.append_nil] using this,jZ.out,mO.out,Hb5.out⟩
    case measure=>simp[intOf];omega
   ·have hlt':¬ (k:Int) < (n:Int):=by omega
    obtain rfl:k=n:=by omega
    have hes:Cn xs=Bt CK (l.map Prod.fst):=by
     unfold Cn Bt
     rw[HE.out,Hn.out,List.take_length,List.map_map]
     rfl
    have hxl:xs.length=k:=by
     have:=congrArg List.length HE.out
     rw[List.length_map,List.length_map,List.length_take,←Hn.out]at this
     omega
    have HXl:=Lib.hid hxl
    have hgx:∀ x∈xs,Good x.e:=fun x hx=>HG'.out x.e (by rw[←hes];exact List.mem_map_of_mem hx)
    have hpx:∀ x∈xs,VI w.heap.size wr x:=fun x hx=>(HX.out x hx).AFH Hb.out
    have hla:(laidB (Cn xs)).length≤1000000:=by rw[hes];have:=HL'.out;omega
    have HAr:=Lib.hid (RB w.heap.size u5 xs wr Hb.out.size (by rw[hxl];exact HO.out) hgx hpx (by rw[hxl];omega) hla)
    have Hes:=Lib.hid hes
    clear hgx hpx hla hes hxl
    go_wp2_with fail
    refine (HAr.out).mono ?_
    rintro e w2 ⟨⟨vb,rfl,Tv⟩,_,hk2⟩
    have Hb2:=Lib.hid (Hb.out.trans hk2.toBelow)
    have HOb:=Lib.hid (Ai Tv Hb.out.size)
    rw[Hes.out]at Tv
    obtain⟨L,hL⟩:∃ L,L=laidB (Bt CK (l.map Prod.fst)):=⟨_,rfl⟩
    rw[←hL]at Tv HL' HW
    have HOb:=Lib.hid (Ai Tv Hb.out.size)
    obtain⟨Ab,cb,rfl,hb1,hb2,_,_⟩:=Tv.slice
    obtain⟨nl,hnl⟩:∃ nl,nl=L.length:=⟨_,rfl⟩
    rw[←hnl]at hb1 HL' HW⊢
    clear hk2 Tv HAr hL
    by_cases h12:12000 < nl
    ·have AFJ:(12000:Int) < (nl:Int):=by omega
     go_wp2_with fail
     go_ret2
     refine⟨?_,Hb2.out⟩
     rw[HW.out,if_neg (by simp),if_pos h12]
     rfl
    ·have AFJ:¬ (12000:Int) < (nl:Int):=by omega
     go_wp2_with fail
     go_ret2
     refine⟨?_,Hb2.out⟩
     rw[HW.out,if_neg (by simp),if_neg h12]
     exact⟨_,rfl,HOb.out⟩
 ·have hz1:(z != 0)=true:=by simpa using hz
  go_wp2_with fail
  go_ret2
  refine⟨?_,Hb1.out⟩
  rw[HW.out,if_pos hz]
  rfl
end Go.Proofs.YtabdianhoabhhaaGreatDoor.Zip
