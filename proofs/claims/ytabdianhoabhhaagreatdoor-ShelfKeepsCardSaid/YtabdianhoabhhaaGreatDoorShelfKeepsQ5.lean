/- texts joined: InfBody InfLen InfOrd BlkHead RtBlock BlkBody. -/
import Derived.Test.YtabdianhoabhhaaGreatDoorShelfKeepsQ4
import Derived.StillTailTactics
import Derived.Laws.Tables
import Derived.Laws.Rows
open List renaming getElem_toArray→l0A,getElem_cons_zero→l0B,getElem_cons_succ→l0C,setIfInBounds_toArray→l0D,set_cons_zero→l0E,set_cons_succ→l0F
namespace Go.Proofs.YtabdianhoabhhaaGreatDoor.Inf
open Go Go.RowKit Go.Proofs.YtabdianhoabhhaaGreatDoor Go.Proofs.YtabdianhoabhhaaGreatDoor.Bits Go.Proofs.YtabdianhoabhhaaGreatDoor.Code
set_option linter.unusedVariables false
set_option linter.unusedSimpArgs false
def posOf (q:Nat) (w:World):Nat:=match w.cell? ⟨q,1,none⟩ with
 | some (.int _ p)=>p.toNat
 | _=>0
theorem KP {w:World} {q n c pos:Nat} {A:Option Addr} (h:EB w q A n c pos):posOf q w=pos:=by
 unfold posOf
 rw[show w.cell? ⟨q,1,none⟩=some (.int .i64 (pos:Int)) by rw[AV.cell h];rfl]
 simp
theorem AAe (ls:List Nat) (row:List Bool):∀ (k n i m:Nat),1≤n→QC ls row k n=(i,m,0)→n≤m∧m≤row.length:=fun k n i m hn h=>by
 have:=TL ls row row.length (Nat.le_refl _) k n i m hn h
 exact⟨this.1,this.2.1⟩
theorem Ie {row:List Bool} {ls:List Nat} {p:Nat} {a:Nat×Nat} (h:IM row ls p=.ok a) (hp:p≤row.length):p < a.2∧a.2≤row.length:=by
 unfold IM at h
 split at h
 ·rename_i hz
  injection h with h
  obtain⟨i,m,z,hn⟩:∃ i m z,next ls (row.drop p)=(i,m,z):=⟨_,_,_,rfl⟩
  rw[hn]at h hz
  dsimp only at h hz
  subst hz h
  have:=AAe ls (row.drop p) 15 1 i m (Nat.le_refl _) hn
  rw[List.length_drop]at this
  dsimp only
  omega
 ·cases h
theorem N9 {row:List Bool} {ls:List Nat} {p:Nat} {a:Nat×Nat} (h:IM row ls p=.ok a):a.1 < ls.length:=by
 unfold IM at h
 split at h
 ·rename_i hz
  injection h with h
  subst h
  dsimp only
  unfold next at hz⊢
  have key:∀ (k n:Nat),(QC ls (row.drop p) k n).2.2=0→(QC ls (row.drop p) k n).1 < ls.length:=by
   intro k
   induction k with
   | zero=>intro n h;simp[QC]at h
   | succ k ih=>
    intro n h
    by_cases h1:(row.drop p).length < n
    ·rw[KG _ _ _ _ h1]at h
     simp at h
    ·cases hf:JB ls n (val ((row.drop p).take n)) with
     | some j=>
      rw[NC ls _ k n j (by omega) hf]
      exact (mM ls n _ j hf).1
     | none=>
      rw[KF ls _ k n (by omega) hf]at h⊢
      exact ih (n+1) h
  exact key 15 1 hz
 ·cases h
structure Jr (w:World) (base p:Nat) (ls:List Nat):Prop where
 tab:TabAt w base p ls
 le:∀ x∈ls,x≤15
 room:room ls≤32768
 len:ls.length≤288
theorem Jr.keeps {w w':World} {base p:Nat} {ls:List Nat} (h:Jr w base p ls) (hk:AJ base JC w w'):Jr w' base p ls:=by
 obtain⟨⟨h1,v,h2,h3⟩,h4,h5,h6⟩:=h
 exact⟨⟨h1,v,hk.blk h2 (by decide),hk.own h3 (by decide)⟩,h4,h5,h6⟩
theorem vC {w:World} {A:Option Addr} {l:List (Nat×Nat)} (h:AQ w A (l.flatMap Og)) {k:Nat} (hk:k < l.length):∃ b o,A=some ⟨b,o,none⟩∧w.cell? ⟨b,o+k*2,none⟩=some (.int .i64 (l[k].1:Int))∧w.cell? ⟨b,o+k*2+1,none⟩=some (.int .i64 (l[k].2:Int)):=by
 have e:l.flatMap Og=(l.take k).flatMap Og++(Og l[k]++(l.drop (k+1)).flatMap Og):=by
  rw[←List.flatMap_cons,←List.flatMap_append,←List.drop_eq_getElem_cons hk,List.take_append_drop]
 have hl:((l.take k).flatMap Og).length=k*2:=by rw[jA,List.length_take];omega
 obtain⟨b,o,ea,hc⟩:=h (by rw[jA];omega)
 refine⟨b,o,ea,hc (k*2) _ ?_,hc (k*2+1) _ ?_⟩
 ·rw[e,List.getElem?_append_right (by omega),hl,Nat.sub_self]
  rfl
 ·rw[e,List.getElem?_append_right (by omega),hl,show k*2+1 - k*2=1 by omega]
  rfl
theorem AGS (k:Nat) (h:k < 256):Eh (UInt8.ofNat k)=.int .u8 (k:Int):=by
 unfold Eh n8
 have:(UInt8.ofNat k).toNat=k:=by show k % 2 ^ 8=k;omega
 rw[this]
theorem vD:∀ k < 29,(BB.getD k (0,0)).1≤258∧(BB.getD k (0,0)).2≤5:=by decide
theorem AAf:∀ k < 30,(1≤(Br.getD k (0,0)).1∧(Br.getD k (0,0)).1≤24577)∧(Br.getD k (0,0)).2≤13:=by decide
theorem jW {w:World} {base n c:Nat} {A:Option Addr} {l:List (Nat×Nat)} (h:w.ownsRow base 259 2 (.slice A n c) n (l.flatMap Og)) {k:Nat} (hk:k < l.length):∃ b o,A=some ⟨b,o,none⟩∧w.cell? ⟨b,o+k*2,none⟩=some (.int .i64 ((l.getD k (0,0)).1:Int))∧w.cell? ⟨b,o+k*2+1,none⟩=some (.int .i64 ((l.getD k (0,0)).2:Int)):=by
 have hg:l.getD k (0,0)=l[k]:=by rw[List.getD_eq_getElem?_getD,List.getElem?_eq_getElem hk];rfl
 rw[hg]
 obtain⟨A',c',e,_,_,h3,_⟩:=Ad h
 injection e with e1 e2 e3
 subst e1
 exact vC h3 hk
structure Bd (w0:World) (base:Nat) (A:Option Addr) (n:Nat) (xs:List UInt8) (tl tf:Nat) (lit far:List Nat) (As:Option Addr) (cs:Nat) (Af:Option Addr) (cf:Nat) (w:World):Prop where
 keep:AJ base JC w0 w
 inp:FJ w base A n xs
 tbl:Jr w base tl lit
 tbf:Jr w base tf far
 so:w.ownsRow base 259 2 (.slice As 29 cs) 29 (BB.flatMap Og)
 fo:w.ownsRow base 259 2 (.slice Af 30 cf) 30 (Br.flatMap Og)
theorem Bd.keeps {w0 w w':World} {base:Nat} {A:Option Addr} {n:Nat} {xs:List UInt8} {tl tf:Nat} {lit far:List Nat} {As Af:Option Addr} {cs cf:Nat} (h:Bd w0 base A n xs tl tf lit far As cs Af cf w) (hk:AJ base JC w w'):Bd w0 base A n xs tl tf lit far As cs Af cf w':=
 ⟨h.keep.trans hk,h.inp.keeps hk,h.tbl.keeps hk,h.tbf.keeps hk,hk.own h.so (by decide),hk.own h.fo (by decide)⟩
theorem Bh {row:List Bool} {p n:Nat} {a:Nat×Nat} (h:CJ row p n=.ok a):a.2=p+n∧p+n≤row.length:=by
 unfold CJ at h
 split at h
 ·injection h with h
  subst h
  exact⟨rfl,by assumption⟩
 ·cases h
theorem mo {o o2:List UInt8} {x:UInt8} (h:Ef o x=.ok o2):o2.length=o.length+1:=by
 unfold Ef at h
 split at h
 ·cases h
 ·injection h with h
  subst h
  simp
theorem ER.AGT {w:World} {base g q:Nat} {A:Option Addr} {n c pos:Nat} {out:List UInt8} {ks:List Nat} (h:ER w base g q A n c pos out ks):∃ Ao ol co,ol=out.length∧w.cell? ⟨g,1,none⟩=some (.slice Ao ol co)∧ol≤3000∧AQ w Ao (out.map Eh):=by
 obtain⟨hg,hq,hp,Jp,⟨vo,vk,hb,ho,hk⟩,hsrc⟩:=h
 obtain⟨Ao,co,rfl,_,_,h3,_⟩:=Ad ho
 exact⟨Ao,_,co,rfl,by rw[hb.cell];rfl,Jp,h3⟩
theorem ER.AKC {w:World} {base g q:Nat} {A:Option Addr} {n c pos:Nat} {out:List UInt8} {ks:List Nat} (h:ER w base g q A n c pos out ks) (h0:0 < out.length):∃ b o ol co,ol=out.length∧w.cell? ⟨g,1,none⟩=some (.slice (some ⟨b,o,none⟩) ol co)∧∀ i,i < ol→w.cell? ⟨b,o+i,none⟩=some (Eh (out.getD i 0)):=by
 obtain⟨Ao,ol,co,e,h1,_,h3⟩:=h.AGT
 obtain⟨b,o,rfl,hc⟩:=h3 (by rw[List.length_map];exact h0)
 refine⟨b,o,ol,co,e,h1,fun i hi=>hc i _ ?_⟩
 rw[List.getElem?_map,List.getD_eq_getElem?_getD,List.getElem?_eq_getElem (by omega)]
 rfl
set_option maxRecDepth 100000 in
set_option maxHeartbeats 8000000 in
theorem u7 (base g q tl tf:Nat) (A:Option Addr) (n c pos:Nat) (xs:List UInt8) (out:List UInt8) (ks lit far:List Nat) (w:World) (h:ER w base g q A n c pos out ks) (hi:FJ w base A n xs) (hl:Jr w base tl lit) (hf:Jr w base tf far) (hn:n≤1000000) :
  Calls Tryz.prog 162 #[.pointer (some ⟨g,0,none⟩),.pointer (some ⟨tl,0,none⟩),.pointer (some ⟨tf,0,none⟩)] w fun e w'=>
   Eo (Ew (AO xs) lit far ((AO xs).length+1) pos out) (fun a e w'=>e=.returned (.tuple #[])∧ER w' base g q A n c a.1 a.2 ks) e w'∧AJ base JC w w':=by
 obtain⟨R,hR⟩:∃ R,R=Ew (AO xs) lit far ((AO xs).length+1) pos out:=⟨_,rfl⟩
 have hrow:(AO xs).length=8*n:=by rw[BV,hi.len]
 have G7:=Lib.hid hrow
 rw[←hR]
 rw[hrow]at hR
 have HU:=Lib.hid hR
 have H:=Lib.hid h
 have HI:=Lib.hid hi
 have HL:=Lib.hid hl
 have HFr:=Lib.hid hf
 have HS:=Lib.hid (Px w)
 have hp:=h.zm
 have hbw:=h.bw
 clear h hi hl hf hR hrow
 go_enter Tryz.func162,Tryz.ntmps162
 go_wp2_with fail
 refine (HS.out).mono ?_
 rintro e w2 ⟨As,cs,rfl,hs,hb2⟩
 have HFa:=Lib.hid (SI w2)
 have HSo:=Lib.hid hs
 have Hb2:=Lib.hid hb2
 clear hs hb2 HS
 go_wp2_with fail
 refine (HFa.out).mono ?_
 rintro e w3 ⟨Af,cf,rfl,hfo,hb3⟩
 have HSo:=Lib.hid (AZ (AP HSo.out hb3) hbw)
 have HFo:=Lib.hid (AZ hfo (Nat.le_trans hbw Hb2.out.size))
 have Hb3:=Lib.hid (Hb2.out.trans (hb3.mono Hb2.out.size))
 have NT:Hid (AJ base JC w w3):=Lib.hid (AJ.of_below Hb3.out hbw)
 have H3:=Lib.hid (H.out.below Hb3.out)
 have HI3:=Lib.hid (HI.out.keeps NT.out)
 have HL3:=Lib.hid (HL.out.keeps NT.out)
 have mq:=Lib.hid (HFr.out.keeps NT.out)
 clear hfo hb3 HFa H HI HL HFr Hb2 Hb3
 go_wp2_with fail
 go_loopw [] (fun wr=>∃ (f p:Nat) (o:List UInt8),8*n+1≤p+f∧R=Ew (AO xs) lit far f p o∧ER wr base g q A n c p o ks∧AJ base JC w wr∧FJ wr base A n xs∧Jr wr base tl lit∧Jr wr base tf far∧wr.ownsRow base 259 2 (.slice As 29 cs) 29 (BB.flatMap Og)∧wr.ownsRow base 259 2 (.slice Af 30 cf) 30 (Br.flatMap Og)) (fun wr=>8*n - posOf q wr)
 case atStart=>exact⟨8*n+1,pos,out,by omega,HU.out,H3.out,NT.out,HI3.out,HL3.out,mq.out,HSo.out,HFo.out⟩
 case round=>
  obtain⟨f,p,o,hpf,hR,hrd,hk,hin,hlt,hft,hso,hfo⟩:=hrel
  have ZT:=hrd.zm
  obtain⟨f,rfl⟩:∃ f',f=f'+1:=⟨f - 1,by omega⟩
  have HU:=Lib.hid (show R=(CQ (AO xs) lit far p o).Ag fun x=>if x.1=true then .ok x.2 else Ew (AO xs) lit far f x.2.1 x.2.2 from hR)
  have AAg:Hid (posOf q wr=p):=Lib.hid (KP hrd.src)
  have HK:=Lib.hid hk
  have HL:=Lib.hid hlt
  have HF:=Lib.hid hft
  have HSo:=Lib.hid hso
  have HFo:=Lib.hid hfo
  have HG:=Lib.hid (ACN base g q tl A n c p xs o ks lit wr hrd hin hlt.tab hlt.le hlt.room hlt.len)
  have HIn:=Lib.hid hin
  clear hR hrd hk hin hlt hft hso hfo H3 NT HI3 HL3 mq
  go_wp2_with fail
  refine (HG.out).mono ?_
  rintro e w4 ⟨hr4,hk4⟩
  have J5:=Lib.hid (HK.out.trans hk4)
  have HI4:=Lib.hid (HIn.out.keeps hk4)
  have HL4:=Lib.hid (HL.out.keeps hk4)
  have HF4:=Lib.hid (HF.out.keeps hk4)
  have AAh:=Lib.hid (hk4.own HSo.out (by decide))
  have ADe:=Lib.hid (hk4.own HFo.out (by decide))
  cases hg4:IM (AO xs) lit p with
  | bad z=>
   have he:=BK hr4 hg4
   subst he
   have HU:=Lib.hid (show R=.bad z by rw[HU.out];unfold CQ;rw[hg4];rfl)
   clear hr4 hk4 hg4
   unfold Bo
   go_wp2_with fail
   exact⟨rfl,Aj HU.out,J5.out⟩
  | ok a=>
   obtain⟨he,ZP⟩:=BP hr4 hg4
   subst he
   have Ro:=Ie hg4 (by rw[G7.out];exact ZT)
   rw[G7.out]at Ro
   have hpl:=N9 hg4
   have AMN:=HL.out.len
   have Cy:=Lib.hid (show CQ (AO xs) lit far p o=_ by unfold CQ;rw[hg4,then_ok])
   have H4:=Lib.hid ZP
   obtain⟨k,p4⟩:=a
   dsimp only at Ro hpl Cy H4⊢
   clear hr4 hk4 hg4 ZP HG HIn HL HF HSo HFo
   rcases (by omega:k < 256∨k=256∨256 < k) with hc | hc | hc
   ·have HP:=Lib.hid (vE base g q A n c p4 (UInt8.ofNat k) o ks w4 H4.out)
    rw[AGS k hc]at HP
    have Cy:=Lib.hid (show CQ (AO xs) lit far p o=(Ef o (UInt8.ofNat k)).Ag fun o=>.ok (false,p4,o) by rw[Cy.out,if_pos hc])
    have hc':(k:Int) < 256:=by omega
    have hc8:k < 2 ^ 8:=hc
    clear hc
    go_wp2_with fail
    refine (HP.out).mono ?_
    rintro e w5 ⟨rE,hk5⟩
    have MM:=Lib.hid (J5.out.trans hk5)
    have HI5:=Lib.hid (HI4.out.keeps hk5)
    have sU:=Lib.hid (HL4.out.keeps hk5)
    have HF5:=Lib.hid (HF4.out.keeps hk5)
    have AKD:=Lib.hid (hk5.own AAh.out (by decide))
    have AKE:=Lib.hid (hk5.own ADe.out (by decide))
    cases hg5:Ef o (UInt8.ofNat k) with
    | bad z=>
     have he:=BK rE hg5
     subst he
     have HU:=Lib.hid (show R=.bad z by rw[HU.out,Cy.out,hg5];rfl)
     clear rE hk5 hg5
     unfold Bo
     go_wp2_with fail
     exact⟨rfl,Aj HU.out,MM.out⟩
    | ok o2=>
     obtain⟨he,vF⟩:=BP rE hg5
     subst he
     have HU:=Lib.hid (show R=Ew (AO xs) lit far f p4 o2 by rw[HU.out,Cy.out,hg5];rfl)
     have H5:=Lib.hid vF
     clear rE hk5 hg5 vF HP
     go_wp2_with fail
     go_roundw
     case rel=>exact⟨f,p4,o2,by omega,HU.out,H5.out,MM.out,HI5.out,sU.out,HF5.out,AKD.out,AKE.out⟩
     case measure=>
      rw[AAg.out,KP H5.out.src]
      omega
   ·have HU:=Lib.hid (show R=.ok (p4,o) by rw[HU.out,Cy.out,if_neg (by omega),if_pos hc];rfl)
    subst hc
    go_wp2_with fail
    refine bodyPost_ret (results_none rfl _ _ _) rfl ?_
    exact⟨Fa HU.out ⟨rfl,H4.out⟩,J5.out⟩
   ·obtain⟨j,rfl⟩:∃ j,k=j+257:=⟨k - 257,by omega⟩
    have hc1:¬ ((j+257:Nat):Int) < 256:=by omega
    have hc2:(((j+257:Nat):Int) == 256)=false:=by rw[beq_eq_false_iff_ne];omega
    have hc3:((j+257:Nat):Int) - 257=(j:Int):=by omega
    have hw3:IntKind.i64.wrap (j:Int)=(j:Int):=IntWalk.i64_in _ (by omega)
    by_cases h29:29≤j
    ·have HU:=Lib.hid (show R=.bad 8 by rw[HU.out,Cy.out,if_neg (by omega),if_neg (by omega),if_pos (by omega)];rfl)
     have AM0:(29:Int)≤(j:Int):=by omega
     clear hc
     go_wp2_with fail
     refine (Db 8 _).mono ?_
     rintro e w5 ⟨rfl,rfl⟩
     unfold Bo
     go_wp2_with fail
     exact⟨rfl,Aj HU.out,J5.out⟩
    ·obtain⟨bs,os,hAs,hc0,hc1⟩:=jW AAh.out (k:=j) (by show j < 29;omega)
     have hSS:Hid (∀ W:World,W.ownsRow base 259 2 (.slice As 29 cs) 29 (BB.flatMap Og)→W.cell? ⟨bs,os+j*2,none⟩=some (.int .i64 ((BB.getD j (0,0)).1:Int))∧W.cell? ⟨bs,os+j*2+1,none⟩=some (.int .i64 ((BB.getD j (0,0)).2:Int))):=Lib.hid (fun (W:World) hW=>by
      obtain⟨b',o',e,h1,h2⟩:=jW hW (k:=j) (by show j < 29;omega)
      rw[hAs]at e
      injection e with e
      injection e with e1 e2
      subst e1 e2
      exact⟨h1,h2⟩)
     obtain⟨hfr,hbt⟩:=vD j (by omega)
     have Cy:=Lib.hid (show CQ (AO xs) lit far p o=(CJ (AO xs) p4 (BB.getD j (0,0)).2).Ag fun x=>(IM (AO xs) far x.2).Ag fun f=>
        if 30≤f.1 then .bad 8
        else (CJ (AO xs) f.2 (Br.getD f.1 (0,0)).2).Ag fun y=>
         if o.length < (Br.getD f.1 (0,0)).1+y.1 then .bad 9
         else (JD ((Br.getD f.1 (0,0)).1+y.1) ((BB.getD j (0,0)).1+x.1) o).Ag fun o=>.ok (false,y.2,o) by
      rw[Cy.out,if_neg (by omega),if_neg (by omega),if_neg (by omega),show j+257 - 257=j by omega])
     generalize BB.getD j (0,0)=ex at *
     obtain⟨fr,bt⟩:=ex
     dsimp only at hc0 hc1 hfr hbt hSS Cy
     subst hAs
     have HG:=Lib.hid (fun W (hr:ER W base g q A n c p4 o ks) (hi:FJ W base A n xs)=>TI base g q A n c p4 bt xs o ks W hr hi (by omega))
     have hj0:(0:Int)≤(j:Int):=by omega
     have AM1:(j:Int) < 29:=by omega
     have AM2:¬ (29:Int)≤(j:Int):=by omega
     have F4:=Lib.hid (show Bd w base A n xs tl tf lit far (some ⟨bs,os,none⟩) cs Af cf w4 from⟨J5.out,HI4.out,HL4.out,HF4.out,AAh.out,ADe.out⟩)
     have u6:base≤w4.heap.size:=H4.out.bw
     clear hc h29 J5 HI4 HL4 HF4 AAh ADe
     go_wp2_with fail
     refine Bp (fun W=>W.cell? ⟨bs,os+j*2,none⟩=some (.int .i64 (fr:Int))∧W.cell? ⟨bs,os+j*2+1,none⟩=some (.int .i64 (bt:Int))) 13 (by kernel_rfl) ?_
     obtain⟨w5,hw5⟩:∃ w5,w5=w4.drew:=⟨_,rfl⟩
     have hb5:Below w4.heap.size w4 w5:=by rw[hw5];exact (Below.refl _ _).drew
     have H5:=Lib.hid (H4.out.below hb5)
     have JY:=Lib.hid (F4.out.keeps (AJ.of_below hb5 u6))
     rw[←hw5]
     have hHeld:=hSS.out w5 JY.out.so
     clear hw5 hb5 hc0 hc1
     refine BO (i:=0) (v:=?zn) (by kernel_rfl) rfl (by kernel_rfl) (by kernel_rfl) (by kernel_rfl) (fun _ _ _ h=>h) (by rfl) (by assumption) ?Js ?Jt
     case Js=>(intro W hSW;(try dsimp only at hSW);go_simp;try with_reducible rfl)
     (try simp only[Act.put,l0A,l0B,l0C,l0D,l0E,l0F])
     refine BO (i:=1) (v:=?vG) (by kernel_rfl) rfl (by kernel_rfl) (by kernel_rfl) (by kernel_rfl) (fun _ _ _ h=>h) (by rfl) (by assumption) ?JE ?JF
     case JE=>(intro W hSW;(try dsimp only at hSW);go_simp;try with_reducible rfl)
     (try simp only[Act.put,l0A,l0B,l0C,l0D,l0E,l0F])
     refine BO (i:=2) (v:=?va2) (by kernel_rfl) rfl (by kernel_rfl) (by kernel_rfl) (by kernel_rfl) (fun _ _ _ h=>h) (by rfl) (by assumption) ?OA ?OB
     case OA=>(intro W hSW;(try dsimp only at hSW);go_simp;try with_reducible rfl)
     (try simp only[Act.put,l0A,l0B,l0C,l0D,l0E,l0F])
     refine BO (i:=3) (v:=?va3) (by kernel_rfl) rfl (by kernel_rfl) (by kernel_rfl) (by kernel_rfl) (fun _ _ _ h=>h) (by rfl) (by assumption) ?K5 ?K6
     case K5=>(intro W hSW;(try dsimp only at hSW);go_simp;try with_reducible rfl)
     (try simp only[Act.put,l0A,l0B,l0C,l0D,l0E,l0F])
     refine BO (i:=4) (v:=?va4) (by kernel_rfl) rfl (by kernel_rfl) (by kernel_rfl) (by kernel_rfl) (fun _ _ _ h=>h) (by rfl) (by assumption) ?K7 ?K8
     case K7=>(intro W hSW;(try dsimp only at hSW);go_simp;try with_reducible rfl)
     (try simp only[Act.put,l0A,l0B,l0C,l0D,l0E,l0F])
     refine BO (i:=5) (v:=?va5) (by kernel_rfl) rfl (by kernel_rfl) (by kernel_rfl) (by kernel_rfl) (fun _ _ _ h=>h) (by rfl) (by assumption) ?K9 ?LC
     case K9=>(intro W hSW;(try dsimp only at hSW);go_simp;try with_reducible rfl)
     (try simp only[Act.put,l0A,l0B,l0C,l0D,l0E,l0F])
     refine BO (i:=6) (v:=?va6) (by kernel_rfl) rfl (by kernel_rfl) (by kernel_rfl) (by kernel_rfl) (fun _ _ _ h=>h) (by rfl) (by assumption) ?Xb ?Xc
     case Xb=>(intro W hSW;(try dsimp only at hSW);go_simp;try with_reducible rfl)
     (try simp only[Act.put,l0A,l0B,l0C,l0D,l0E,l0F])
     refine BO (i:=7) (v:=?va7) (by kernel_rfl) rfl (by kernel_rfl) (by kernel_rfl) (by kernel_rfl) (fun _ _ _ h=>h) (by rfl) (by assumption) ?Xd ?Xe
     case Xd=>(intro W hSW;(try dsimp only at hSW);go_simp;try with_reducible rfl)
     (try simp only[Act.put,l0A,l0B,l0C,l0D,l0E,l0F])
     refine BO (i:=8) (v:=?va8) (by kernel_rfl) rfl (by kernel_rfl) (by kernel_rfl) (by kernel_rfl) (fun _ _ _ h=>h) (by rfl) (by assumption) ?ADf ?ADg
     case ADf=>(intro W hSW;(try dsimp only at hSW);go_simp;try with_reducible rfl)
     (try simp only[Act.put,l0A,l0B,l0C,l0D,l0E,l0F])
     refine BO (i:=9) (v:=?va9) (by kernel_rfl) rfl (by kernel_rfl) (by kernel_rfl) (by kernel_rfl) (fun _ _ _ h=>h) (by rfl) (by assumption) ?di ?dm
     case di=>(intro W hSW;(try dsimp only at hSW);go_simp;try with_reducible rfl)
     (try simp only[Act.put,l0A,l0B,l0C,l0D,l0E,l0F])
     refine BO (i:=10) (v:=?ADh) (by kernel_rfl) rfl (by kernel_rfl) (by kernel_rfl) (by kernel_rfl) (fun _ _ _ h=>h) (by rfl) (by assumption) ?TM ?Xf
     case TM=>(intro W hSW;(try dsimp only at hSW);go_simp;try with_reducible rfl)
     (try simp only[Act.put,l0A,l0B,l0C,l0D,l0E,l0F])
     refine AB (i:=11) rfl (by kernel_rfl) (fun K hK=>?_)
     go_simp
     clear hHeld
     go_at_call 160
     refine (HG.out w5 H5.out JY.out.inp).mono ?_
     rintro e w6 ⟨QK,Iw⟩
     have Rp:=Lib.hid (JY.out.keeps Iw)
     cases IJ:CJ (AO xs) p4 bt with
     | bad z=>
      have he:=BK QK IJ
      subst he
      have HU:=Lib.hid (show R=.bad z by rw[HU.out,Cy.out,IJ];rfl)
      clear QK Iw IJ
      unfold Bo
      go_wp2_with fail
      exact⟨rfl,Aj HU.out,Rp.out.keep⟩
     | ok a=>
      obtain⟨he,vH⟩:=BP QK IJ
      subst he
      have hx:=Ep IJ
      have hq6:=Bh IJ
      replace Cy:=Lib.hid (Cy.out.trans (by rw[IJ,then_ok]))
      have H6:=Lib.hid vH
      obtain⟨x,p6⟩:=a
      dsimp only at hx hq6 Cy H6⊢
      have hx32:x < 32:=Nat.lt_of_lt_of_le hx (Nat.le_trans (Nat.pow_le_pow_right (by omega) hbt) (by decide))
      have hwx:IntKind.i64.wrap ((fr:Int)+(x:Int))=((fr+x:Nat):Int):=by rw[show (fr:Int)+(x:Int)=((fr+x:Nat):Int) by omega];exact IntWalk.i64_in _ (by omega)
      have AMO:fr+x≤300:=by omega
      clear QK Iw IJ vH hx HG
      refine hK.out _ _ (hSS.out w6 Rp.out.so) (fun hHeld=>?_)
      clear hK K
      (try simp only[Act.put,l0A,l0B,l0C,l0D,l0E,l0F])
      refine AB (i:=12) rfl (by kernel_rfl) (fun K hK=>?_)
      go_simp
      rw[show (fr:Int)+(x:Int)=((fr+x:Nat):Int) by omega]
      refine hK.out _ _ (hSS.out w6 Rp.out.so) (fun hHeld=>?_)
      clear hK K hHeld
      (try simp only[Act.put,l0A,l0B,l0C,l0D,l0E,l0F])
      generalize hmm:fr+x=m at *
      refine BH rfl (by kernel_rfl) (by kernel_rfl) (fun K hK=>?_)
      go_simp
      refine hK.out _ _ ?_
      clear hK K
      have HY:=Lib.hid (ACN base g q tf A n c p6 xs o ks far w6 H6.out Rp.out.inp Rp.out.tbf.tab Rp.out.tbf.le Rp.out.tbf.room Rp.out.tbf.len)
      have AMP:=Rp.out.tbf.len
      have AGU:=H6.out.zm
      go_wp2_with fail
      refine (HY.out).mono ?_
      rintro e w7 ⟨Jh,O7⟩
      have rF:=Lib.hid (Rp.out.keeps O7)
      cases ET:IM (AO xs) far p6 with
      | bad z=>
       have he:=BK Jh ET
       subst he
       have HU:=Lib.hid (show R=.bad z by rw[HU.out,Cy.out,ET];rfl)
       clear Jh O7 ET
       unfold Bo
       go_wp2_with fail
       exact⟨rfl,Aj HU.out,rF.out.keep⟩
      | ok a=>
       obtain⟨he,TK⟩:=BP Jh ET
       subst he
       have mr:=Ie ET (by rw[G7.out];exact AGU)
       rw[G7.out]at mr
       have AKF:=N9 ET
       replace Cy:=Lib.hid (Cy.out.trans (by rw[ET,then_ok]))
       have H7:=Lib.hid TK
       obtain⟨j2,p7⟩:=a
       dsimp only at mr AKF Cy H7⊢
       clear Jh O7 ET TK HY
       have AM3:(0:Int)≤(j2:Int):=by omega
       by_cases h30:30≤j2
       ·have HU:=Lib.hid (show R=.bad 8 by rw[HU.out,Cy.out,if_pos h30];rfl)
        have AM4:(30:Int)≤(j2:Int):=by omega
        go_wp2_with fail
        refine (Db 8 _).mono ?_
        rintro e w8 ⟨rfl,rfl⟩
        unfold Bo
        go_wp2_with fail
        exact⟨rfl,Aj HU.out,rF.out.keep⟩
       ·replace Cy:=Lib.hid (Cy.out.trans (if_neg h30))
        obtain⟨bf,of,hAf,_,_⟩:=jW rF.out.fo (k:=j2) (by show j2 < 30;omega)
        have hSF:Hid (∀ W:World,W.ownsRow base 259 2 (.slice Af 30 cf) 30 (Br.flatMap Og)→W.cell? ⟨bf,of+j2*2,none⟩=some (.int .i64 ((Br.getD j2 (0,0)).1:Int))∧W.cell? ⟨bf,of+j2*2+1,none⟩=some (.int .i64 ((Br.getD j2 (0,0)).2:Int))):=Lib.hid (fun (W:World) hW=>by
         obtain⟨b',o',e,h1,h2⟩:=jW hW (k:=j2) (by show j2 < 30;omega)
         rw[hAf]at e
         injection e with e
         injection e with e1 e2
         subst e1 e2
         exact⟨h1,h2⟩)
        obtain⟨hfr2,ADi⟩:=AAf j2 (by omega)
        generalize Br.getD j2 (0,0)=ex at Cy hSF hfr2 ADi
        obtain⟨iw,bt2⟩:=ex
        dsimp only at hfr2 ADi hSF Cy
        subst hAf
        have HG:=Lib.hid (fun W (hr:ER W base g q A n c p7 o ks) (hi:FJ W base A n xs)=>TI base g q A n c p7 bt2 xs o ks W hr hi (by omega))
        have AMQ:(j2:Int) < 30:=by omega
        have AM5:¬ (30:Int)≤(j2:Int):=by omega
        have AKG:base≤w7.heap.size:=H7.out.bw
        clear h30
        go_wp2_with fail
        refine Bp (fun W=>W.cell? ⟨bf,of+j2*2,none⟩=some (.int .i64 (iw:Int))∧W.cell? ⟨bf,of+j2*2+1,none⟩=some (.int .i64 (bt2:Int))) 13 (by kernel_rfl) ?_
        obtain⟨w8,hw8⟩:∃ w8,w8=w7.drew:=⟨_,rfl⟩
        have Kk:Below w7.heap.size w7 w8:=by rw[hw8];exact (Below.refl _ _).drew
        have H8:=Lib.hid (H7.out.below Kk)
        have Jq:=Lib.hid (rF.out.keeps (AJ.of_below Kk AKG))
        rw[←hw8]
        have hHeld:=hSF.out w8 Jq.out.fo
        clear hw8 Kk
        refine BO (i:=0) (v:=?vb0) (by kernel_rfl) rfl (by kernel_rfl) (by kernel_rfl) (by kernel_rfl) (fun _ _ _ h=>h) (by rfl) (by assumption) ?ADj ?ADk
        case ADj=>(intro W hSW;(try dsimp only at hSW);go_simp;try with_reducible rfl)
        (try simp only[Act.put,l0A,l0B,l0C,l0D,l0E,l0F])
        refine BO (i:=1) (v:=?vb1) (by kernel_rfl) rfl (by kernel_rfl) (by kernel_rfl) (by kernel_rfl) (fun _ _ _ h=>h) (by rfl) (by assumption) ?ADl ?ADm
        case ADl=>(intro W hSW;(try dsimp only at hSW);go_simp;try with_reducible rfl)
        (try simp only[Act.put,l0A,l0B,l0C,l0D,l0E,l0F])
        refine BO (i:=2) (v:=?vb2) (by kernel_rfl) rfl (by kernel_rfl) (by kernel_rfl) (by kernel_rfl) (fun _ _ _ h=>h) (by rfl) (by assumption) ?ADn ?ADo
        case ADn=>(intro W hSW;(try dsimp only at hSW);go_simp;try with_reducible rfl)
        (try simp only[Act.put,l0A,l0B,l0C,l0D,l0E,l0F])
        refine BO (i:=3) (v:=?vb3) (by kernel_rfl) rfl (by kernel_rfl) (by kernel_rfl) (by kernel_rfl) (fun _ _ _ h=>h) (by rfl) (by assumption) ?ADp ?ADq
        case ADp=>(intro W hSW;(try dsimp only at hSW);go_simp;try with_reducible rfl)
        (try simp only[Act.put,l0A,l0B,l0C,l0D,l0E,l0F])
        refine BO (i:=4) (v:=?vb4) (by kernel_rfl) rfl (by kernel_rfl) (by kernel_rfl) (by kernel_rfl) (fun _ _ _ h=>h) (by rfl) (by assumption) ?ADr ?ADs
        case ADr=>(intro W hSW;(try dsimp only at hSW);go_simp;try with_reducible rfl)
        (try simp only[Act.put,l0A,l0B,l0C,l0D,l0E,l0F])
        refine BO (i:=5) (v:=?vb5) (by kernel_rfl) rfl (by kernel_rfl) (by kernel_rfl) (by kernel_rfl) (fun _ _ _ h=>h) (by rfl) (by assumption) ?ADt ?ADu
        case ADt=>(intro W hSW;(try dsimp only at hSW);go_simp;try with_reducible rfl)
        (try simp only[Act.put,l0A,l0B,l0C,l0D,l0E,l0F])
        refine BO (i:=6) (v:=?vb6) (by kernel_rfl) rfl (by kernel_rfl) (by kernel_rfl) (by kernel_rfl) (fun _ _ _ h=>h) (by rfl) (by assumption) ?ADv ?ADw
        case ADv=>(intro W hSW;(try dsimp only at hSW);go_simp;try with_reducible rfl)
        (try simp only[Act.put,l0A,l0B,l0C,l0D,l0E,l0F])
        refine BO (i:=7) (v:=?vb7) (by kernel_rfl) rfl (by kernel_rfl) (by kernel_rfl) (by kernel_rfl) (fun _ _ _ h=>h) (by rfl) (by assumption) ?ADx ?ADy
        case ADx=>(intro W hSW;(try dsimp only at hSW);go_simp;try with_reducible rfl)
        (try simp only[Act.put,l0A,l0B,l0C,l0D,l0E,l0F])
        refine BO (i:=8) (v:=?vb8) (by kernel_rfl) rfl (by kernel_rfl) (by kernel_rfl) (by kernel_rfl) (fun _ _ _ h=>h) (by rfl) (by assumption) ?vI ?vJ
        case vI=>(intro W hSW;(try dsimp only at hSW);go_simp;try with_reducible rfl)
        (try simp only[Act.put,l0A,l0B,l0C,l0D,l0E,l0F])
        refine BO (i:=9) (v:=?vb9) (by kernel_rfl) rfl (by kernel_rfl) (by kernel_rfl) (by kernel_rfl) (fun _ _ _ h=>h) (by rfl) (by assumption) ?dn ?dw
        case dn=>(intro W hSW;(try dsimp only at hSW);go_simp;try with_reducible rfl)
        (try simp only[Act.put,l0A,l0B,l0C,l0D,l0E,l0F])
        refine BO (i:=10) (v:=?AGV) (by kernel_rfl) rfl (by kernel_rfl) (by kernel_rfl) (by kernel_rfl) (fun _ _ _ h=>h) (by rfl) (by assumption) ?ZU ?jX
        case ZU=>(intro W hSW;(try dsimp only at hSW);go_simp;try with_reducible rfl)
        (try simp only[Act.put,l0A,l0B,l0C,l0D,l0E,l0F])
        refine AB (i:=11) rfl (by kernel_rfl) (fun K hK=>?_)
        go_simp
        clear hHeld
        go_at_call 160
        refine (HG.out w8 H8.out Jq.out.inp).mono ?_
        rintro e w9 ⟨hr9,vK⟩
        have O8:=Lib.hid (Jq.out.keeps vK)
        cases rG:CJ (AO xs) p7 bt2 with
        | bad z=>
         have he:=BK hr9 rG
         subst he
         have HU:=Lib.hid (show R=.bad z by rw[HU.out,Cy.out,rG];rfl)
         clear hr9 vK rG
         unfold Bo
         go_wp2_with fail
         exact⟨rfl,Aj HU.out,O8.out.keep⟩
        | ok a=>
         obtain⟨he,AGW⟩:=BP hr9 rG
         subst he
         have hy:=Ep rG
         have hq9:=Bh rG
         replace Cy:=Lib.hid (Cy.out.trans (by rw[rG,then_ok]))
         have H9:=Lib.hid AGW
         obtain⟨y,p9⟩:=a
         dsimp only at hy hq9 Cy H9⊢
         have AM6:y < 8192:=Nat.lt_of_lt_of_le hy (Nat.le_trans (Nat.pow_le_pow_right (by omega) ADi) (by decide))
         have hwy:IntKind.i64.wrap ((iw:Int)+(y:Int))=((iw+y:Nat):Int):=by rw[show (iw:Int)+(y:Int)=((iw+y:Nat):Int) by omega];exact IntWalk.i64_in _ (by omega)
         have hd0:1≤iw+y:=by have:=hfr2.1;omega
         have hd1:iw+y≤40000:=by omega
         clear hr9 vK rG AGW hy HG
         refine hK.out _ _ (hSF.out w9 O8.out.fo) (fun hHeld=>?_)
         clear hK K
         (try simp only[Act.put,l0A,l0B,l0C,l0D,l0E,l0F])
         refine AB (i:=12) rfl (by kernel_rfl) (fun K hK=>?_)
         go_simp
         rw[show (iw:Int)+(y:Int)=((iw+y:Nat):Int) by omega]
         refine hK.out _ _ (hSF.out w9 O8.out.fo) (fun hHeld=>?_)
         clear hK K hHeld
         (try simp only[Act.put,l0A,l0B,l0C,l0D,l0E,l0F])
         generalize hdd:iw+y=d at *
         refine BH rfl (by kernel_rfl) (by kernel_rfl) (fun K hK=>?_)
         go_simp
         refine hK.out _ _ ?_
         clear hK K hSS hSF
         obtain⟨Ao,ol,co,hol,b1,ho3,_⟩:=H9.out.AGT
         have YX:=Lib.hid hol
         by_cases hd:ol < d
         ·have HU:=Lib.hid (show R=.bad 9 by rw[HU.out,Cy.out,if_pos (by rw[←hol];exact hd)];rfl)
          have hd':(ol:Int) < (d:Int):=by omega
          clear hol
          go_wp2_with fail
          refine (Db 9 _).mono ?_
          rintro e M7 ⟨rfl,rfl⟩
          unfold Bo
          go_wp2_with fail
          exact⟨rfl,Aj HU.out,O8.out.keep⟩
         ·have hst:CQ (AO xs) lit far p o=(JD d m o).Ag fun o=>.ok (false,p9,o):=Cy.out.trans (if_neg (by rw[←hol];exact hd))
          have HU:=Lib.hid (show R=(JD d m o).Ag fun o=>Ew (AO xs) lit far f p9 o by rw[HU.out,hst];cases JD d m o <;> rfl)
          have hd':¬ (ol:Int) < (d:Int):=by omega
          have hdo:d≤o.length:=by rw[←hol];omega
          clear hol hst
          go_wp2_with fail
          go_loopw [77] (fun vi wr=>∃ (k r:Nat) (o':List UInt8),k+r=m∧vi=.int .i64 (k:Int)∧d≤o'.length∧R=(JD d r o').Ag (fun o=>Ew (AO xs) lit far f p9 o)∧ER wr base g q A n c p9 o' ks∧Bd w base A n xs tl tf lit far (some ⟨bs,os,none⟩) cs (some ⟨bf,of,none⟩) cf wr) (fun vi _=>m - (intOf vi).toNat)
          case atStart=>exact⟨0,m,o,by omega,rfl,hdo,HU.out,H9.out,O8.out⟩
          case round=>
           obtain⟨k,r,o',hkr,rfl,AM7,hR,hrd,hbd⟩:=hrel
           have HU:=Lib.hid hR
           have HR:=Lib.hid hrd
           have HB:=Lib.hid hbd
           clear hR hrd hbd O8 H9 Jq H8
           by_cases hlt:k < m
           ·obtain⟨r,rfl⟩:∃ r',r=r'+1:=⟨r - 1,by omega⟩
            obtain⟨b,oo,ol,co,hol,hb1,hsl⟩:=HR.out.AKC (by omega)
            have AKH:base≤wr.heap.size:=HR.out.bw
            have Jp:=HR.out.few
            obtain⟨ix,hix⟩:∃ ix,ix=ol - d:=⟨_,rfl⟩
            have hcx:=hsl ix (by omega)
            have HU:=Lib.hid (show R=(Ef o' (o'.getD ix 0)).Ag fun o=>(JD d r o).Ag (fun o=>Ew (AO xs) lit far f p9 o) by
             rw[HU.out,hix,hol]
             show ((Ef o' (o'.getD (o'.length - d) 0)).Ag fun o=>JD d r o).Ag _=_
             cases Ef o' (o'.getD (o'.length - d) 0) <;> rfl)
            have hwi:IntKind.i64.wrap ((ol:Int) - (d:Int))=(ix:Int):=by rw[show (ol:Int) - (d:Int)=(ix:Int) by omega];exact IntWalk.i64_in _ (by omega)
            have hki:IntKind.i64.wrap ((k:Int)+1)=((k+1:Nat):Int):=by rw[show (k:Int)+1=((k+1:Nat):Int) by omega];exact IntWalk.i64_in _ (by omega)
            have AKI:(ix:Int) < (ol:Int):=by omega
            have AKJ:(0:Int)≤(ix:Int):=by omega
            have hlt':(k:Int) < (m:Int):=by omega
            generalize o'.getD ix 0=bx at *
            have HP:=Lib.hid (fun W (hr:ER W base g q A n c p9 o' ks)=>vE base g q A n c p9 bx o' ks W hr)
            clear hix hol hsl
            go_wp2_with fail
            go_still_tail 14,(by kernel_rfl)
            obtain⟨M7,dx⟩:∃ M7,M7=wr.drew:=⟨_,rfl⟩
            have QL:Below wr.heap.size wr M7:=by rw[dx];exact (Below.refl _ _).drew
            have H10:=Lib.hid (HR.out.below QL)
            have Mh:=Lib.hid (HB.out.keeps (AJ.of_below QL AKH))
            change wpList _ _ _ _ _ wr.drew
            rw[←dx]
            clear dx QL hb1 hcx
            go_wp2_with fail
            refine (HP.out M7 H10.out).mono ?_
            rintro e bW ⟨Xg,ADz⟩
            have AGX:=Lib.hid (Mh.out.keeps ADz)
            cases dz:Ef o' bx with
            | bad z=>
             have he:=BK Xg dz
             subst he
             have HU:=Lib.hid (show R=.bad z by rw[HU.out,dz];rfl)
             clear Xg ADz dz
             unfold Bo
             go_wp2_with fail
             exact⟨rfl,Aj HU.out,AGX.out.keep⟩
            | ok o2=>
             obtain⟨he,ACO⟩:=BP Xg dz
             subst he
             have ho2:=mo dz
             have HU:=Lib.hid (show R=(JD d r o2).Ag (fun o=>Ew (AO xs) lit far f p9 o) by rw[HU.out,dz];rfl)
             have H11:=Lib.hid ACO
             clear Xg ADz dz ACO HP
             go_wp2_with fail
             go_roundw
             case rel=>exact⟨k+1,r,o2,by omega,rfl,by omega,HU.out,H11.out,AGX.out⟩
             case measure=>
              show m - (k+1) < m - k
              omega
           ·have hlt':¬ (k:Int) < (m:Int):=by omega
            have HU:=Lib.hid (show R=Ew (AO xs) lit far f p9 o' by rw[HU.out,show r=0 by omega];rfl)
            go_wp2_with fail
            go_roundw
            case rel=>exact⟨f,p9,o',by omega,HU.out,HR.out,HB.out.keep,HB.out.inp,HB.out.tbl,HB.out.tbf,HB.out.so,HB.out.fo⟩
            case measure=>
             rw[AAg.out,KP HR.out.src]
             omega
end Go.Proofs.YtabdianhoabhhaaGreatDoor.Inf
namespace Go.Proofs.YtabdianhoabhhaaGreatDoor.Inf
open Go Go.RowKit Go.Proofs.YtabdianhoabhhaaGreatDoor Go.Proofs.YtabdianhoabhhaaGreatDoor.Bits Go.Proofs.YtabdianhoabhhaaGreatDoor.Code
set_option linter.unusedVariables false
set_option linter.unusedSimpArgs false
theorem RS.keeps {w w':World} {B gl gn n:Nat} {l:List Nat} {base:Nat} (h:RS w B gl gn n l) (hk:AJ base Fp w w'):RS w' B gl gn n l:=by
 obtain⟨hgl,⟨vl,hbl,hol,hne⟩,hbn,hfit,Jp⟩:=h
 exact⟨hgl,⟨vl,hk.blk hbl (by decide),hk.own hol (by decide),hne⟩,hk.blk hbn (by decide),hfit,Jp⟩
theorem RS.at_ {w:World} {B gl gn n:Nat} {l:List Nat} (h:RS w B gl gn n l):∃ Al cl,w.cell? ⟨gl,0,none⟩=some (.slice Al l.length cl)∧w.cell? ⟨gn,0,none⟩=some (.int .i64 (n:Int)):=by
 obtain⟨hgl,⟨vl,hbl,hol,hne⟩,hbn,hfit,Jp⟩:=h
 obtain⟨Al,cl,rfl,_⟩:=Ad hol
 exact⟨Al,cl,by rw[hbl.cell];rfl,by rw[hbn.cell];rfl⟩
def Qy (gl:Nat) (w:World):Nat:=match w.cell? ⟨gl,0,none⟩ with
 | some (.slice _ L _)=>L
 | _=>0
theorem Mi {w:World} {B gl gn n:Nat} {l:List Nat} (h:RS w B gl gn n l):Qy gl w=l.length:=by
 obtain⟨Al,cl,h1,_⟩:=h.at_
 unfold Qy
 rw[h1]
theorem RS.last {w:World} {B gl gn n:Nat} {l:List Nat} (h:RS w B gl gn n l) (h0:l≠[]):∃ b o cl,(∀ W T base,AJ base T w W→89∉T→3∉T→W.cell? ⟨gl,0,none⟩=some (.slice (some ⟨b,o,none⟩) l.length cl)∧W.cell? ⟨b,o+(l.length - 1),none⟩=some (.int .i64 (l.getLastD 0:Int))):=by
 obtain⟨hgl,⟨vl,hbl,hol,hne⟩,hbn,hfit,Jp⟩:=h
 obtain⟨Al,cl,rfl,_,_,hsl,_⟩:=Ad hol
 have hp:0 < l.length:=List.length_pos_iff.2 h0
 obtain⟨b,o,rfl,_⟩:=hsl (by rw[List.length_map];exact hp)
 refine⟨b,o,cl,fun W T base hk h1 h2=>⟨by rw[(hk.blk hbl h1).cell];rfl,?_⟩⟩
 obtain⟨A',c',e,_,_,hs',_⟩:=Ad (hk.own hol h2)
 injection e with e1 e2 e3
 subst e1
 obtain⟨b',o',e,hc⟩:=hs' (by rw[List.length_map];exact hp)
 injection e with e
 injection e with e1 e2 e3
 subst e1 e2
 refine hc (l.length - 1) _ ?_
 rw[List.getElem?_map,List.getElem?_eq_getElem (by omega)]
 have e:l[l.length - 1]'(by omega)=l.getLastD 0:=by
  rw[List.getLastD_eq_getLast?,List.getLast?_eq_getElem?,List.getElem?_eq_getElem (by omega)];rfl
 rw[e]
 rfl
theorem LD {n:Nat} {l m:List Nat} {v k:Nat} (h:Dm n l v k=.ok m):m.length=l.length+k∧m.length≤n:=by
 unfold Dm at h
 split at h
 ·cases h
 ·injection h with h
  subst h
  simp
  omega
set_option maxRecDepth 100000 in
set_option maxHeartbeats 4000000 in
theorem nI (base tb g q tp:Nat) (A:Option Addr) (n c pos N:Nat) (xs:List UInt8) (ls:List Nat) (vo vk:Value) (w:World) (hq:base≤q) (hbw:base≤w.heap.size)
  (hb:AV w g 177 #[.pointer (some ⟨q,0,none⟩),vo,vk]) (hsrc:EB w q A n c pos) (hp:pos≤8*n) (hi:FJ w base A n xs) (hT:Jr w tb tp ls) (hN:N≤316) :
  Calls Tryz.prog 204 #[.pointer (some ⟨g,0,none⟩),.pointer (some ⟨tp,0,none⟩),.int .i64 (N:Int)] w fun e w'=>
   Eo (JZ (AO xs) ls N N pos []) (fun a e w'=>∃ A' c',e=.returned (.slice A' N c')∧a.2.length=N∧w'.ownsRow w.heap.size 3 1 (.slice A' N c') N (a.2.map BR)∧EB w' q A n c a.1∧a.1≤8*n) e w'∧DW base w.heap.size Fp w w':=by
 obtain⟨R,hR⟩:∃ R,R=JZ (AO xs) ls N N pos []:=⟨_,rfl⟩
 rw[←hR]
 have HU:=Lib.hid hR
 have HB:=Lib.hid hb
 have HS:=Lib.hid hsrc
 have HI:=Lib.hid hi
 have HT:=Lib.hid hT
 clear hb hsrc hi hT hR
 go_enter Tryz.func204,Tryz.ntmps204
 go_wp2_with fail
 generalize hg:w.heap.size=gn at *
 have YZ:=Lib.hid hg
 have AGh:Hid (DW base gn Fp w w):=Lib.hid (DW.refl _ _ _ _)
 have hb2:Below gn w ((w.alloc (.cells #[.int .i64 (N:Int)] 3)).alloc (.cells #[.slice none 0 0] 89)):=by
  have h1:Below gn w (w.alloc (.cells #[.int .i64 (N:Int)] 3)):=(Below.refl _ _).alloc (by omega) _
  exact h1.alloc (by rw[←hg];simp) _
 have vO:q < gn:=by have:=AV.lt HS.out;omega
 have Cz:=Lib.hid (AGh.out.below hb2 hbw)
 have HS2:=Lib.hid (AV.below HS.out hb2 vO)
 have HG2:Hid (RS ((w.alloc (.cells #[.int .i64 (N:Int)] 3)).alloc (.cells #[.slice none 0 0] 89)) gn (gn+1) gn N []):=Lib.hid (by
  refine⟨by omega,⟨.slice none 0 0,?_,⟨rfl,.inl ⟨rfl,rfl⟩⟩,by simp[Value.ownBlock]⟩,?_,Nat.zero_le _,by omega⟩
  ·have:=AV.new (w.alloc (.cells #[.int .i64 (N:Int)] 3)) 89 #[.slice none 0 0]
   simpa [hg] using this
  ·have:=(AV.new w 3 #[.int .i64 (N:Int)]).alloc (.cells #[.slice none 0 0] 89)
   rw[hg]at this
   exact this)
 clear hg hb2 AGh
 generalize ((w.alloc (.cells #[.int .i64 (N:Int)] 3)).alloc (.cells #[.slice none 0 0] 89))=w2 at *
 go_loopw [] (fun wr=>∃ (f p:Nat) (l:List Nat),N≤l.length+f∧R=JZ (AO xs) ls N f p l∧RS wr gn (gn+1) gn N l∧EB wr q A n c p∧p≤8*n∧DW base gn Fp w wr) (fun wr=>N - Qy (gn+1) wr)
 case atStart=>exact⟨N,pos,[],by simp,HU.out,HG2.out,HS2.out,hp,Cz.out⟩
 case round=>
  obtain⟨f,p,l,hf,hR,hag,hsrc,ZT,hold⟩:=hrel
  have hla:Hid (Qy (gn+1) wr=l.length):=Lib.hid (Mi hag)
  obtain⟨Al,cl,hcl,hcn⟩:=hag.at_
  have HA:=Lib.hid hag
  have HS:=Lib.hid hsrc
  have HO:=Lib.hid hold
  have HU:=Lib.hid hR
  clear hag hsrc hold hR Cz HS2 HG2
  obtain⟨L,hL⟩:∃ L,L=l.length:=⟨_,rfl⟩
  rw[←hL]at hf hla hcl
  have Xm:=Lib.hid hL
  clear hL
  by_cases hlt:L < N
  ·have hlt':(L:Int) < (N:Int):=by omega
   obtain⟨f,rfl⟩:∃ f',f=f'+1:=⟨f - 1,by omega⟩
   have HU:=Lib.hid (show R=(GU (AO xs) ls N p l).Ag fun x=>JZ (AO xs) ls N f x.1 x.2 by
    rw[HU.out]
    show (if N≤l.length then _ else _)=_
    rw[if_neg (by rw[←Xm.out];omega)])
   have HIr:=Lib.hid (HI.out.old HO.out)
   have HBr:Hid (AV wr g 177 #[.pointer (some ⟨q,0,none⟩),vo,vk]):=Lib.hid ((YZ.out▸HO.out:DW base w.heap.size Fp w wr).blk HB.out (by decide))
   have HTr:Hid (TabAt wr tb tp ls):=Lib.hid (by
    obtain⟨⟨t1,v,t2,t3⟩,_⟩:=HT.out
    have hk:=(YZ.out▸HO.out:DW base w.heap.size Fp w wr).Ji
    exact⟨t1,v,hk.blk t2 (by decide),hk.own t3 (by decide)⟩)
   have HY:=Lib.hid (AGi base tb g q tp A n c p xs ls wr hq (by rw[HBr.out.cell];rfl) HS.out ZT HIr.out HTr.out HT.out.le HT.out.room HT.out.len)
   have hls:=HT.out.len
   go_wp2_with fail
   refine (HY.out).mono ?_
   rintro e w4 ⟨hr4,hk4⟩
   have J5:=Lib.hid hk4
   have KQ:=Lib.hid (HO.out.keeps (hk4.mono hq (fun _ h=>h)))
   have cu:=Lib.hid (HA.out.keeps hk4)
   cases hg4:IM (AO xs) ls p with
   | bad z=>
    have he:=BK hr4 hg4
    subst he
    have HU:=Lib.hid (show R=.bad z by rw[HU.out];unfold GU;rw[hg4];rfl)
    clear hr4 hk4 hg4
    unfold Bo
    go_wp2_with fail
    exact⟨rfl,Aj HU.out,YZ.out.symm▸KQ.out⟩
   | ok a=>
    obtain⟨he,hs4,Ro⟩:=BP hr4 hg4
    subst he
    have hpl:=N9 hg4
    have Cy:=Lib.hid (show GU (AO xs) ls N p l=_ by unfold GU;rw[hg4,then_ok])
    have OC:=Lib.hid hs4
    obtain⟨k,p4⟩:=a
    dsimp only at Ro hpl Cy OC⊢
    clear hr4 hk4 hg4 hs4 HY
    have F4:Hid (AV w4 g 177 #[.pointer (some ⟨q,0,none⟩),vo,vk]):=Lib.hid (J5.out.blk HBr.out (by decide))
    have HI4:=Lib.hid (HI.out.old KQ.out)
    have hB4:gn≤w4.heap.size:=by have:=KQ.out.size;have:=YZ.out;omega
    by_cases h16:k=16
    ·subst h16
     replace Cy:=Lib.hid (Cy.out.trans (if_pos rfl))
     by_cases hl0:l=[]
     ·have hL0:L=0:=by rw[Xm.out,hl0];rfl
      have HU:=Lib.hid (show R=.bad 8 by rw[HU.out,Cy.out,if_pos hl0];rfl)
      subst hL0
      obtain⟨Al4,cl4,AAk,_⟩:=cu.out.at_
      rw[←Xm.out]at AAk
      go_wp2_with fail
      refine (Db 8 _).mono ?_
      rintro e w5 ⟨rfl,rfl⟩
      unfold Bo
      go_wp2_with fail
      exact⟨rfl,Aj HU.out,YZ.out.symm▸KQ.out⟩
     ·replace Cy:=Lib.hid (Cy.out.trans (if_neg hl0))
      have hL1:1≤L:=by
       rw[Xm.out]
       exact List.length_pos_iff.2 hl0
      obtain⟨bl,ol,cl4,hSS⟩:=cu.out.last hl0
      rw[←Xm.out]at hSS
      obtain⟨ix,hix⟩:∃ ix,ix=L - 1:=⟨_,rfl⟩
      rw[←hix]at hSS
      have HSS:=Lib.hid hSS
      have hwi:IntKind.i64.wrap ((L:Int) - 1)=(ix:Int):=by rw[show (L:Int) - 1=(ix:Int) by omega];exact IntWalk.i64_in _ (by omega)
      have AKJ:(0:Int)≤(ix:Int):=by omega
      have AKI:(ix:Int) < (L:Int):=by omega
      clear hix
      have hLb:((L:Int) == 0)=false:=by rw[beq_eq_false_iff_ne];omega
      have AAk:=(hSS w4 [] 0 (AJ.refl _ _ _) (by simp) (by simp)).1
      generalize l.getLastD 0=la at Cy HSS AAk
      have HG:=Lib.hid (TN base g q A n c p4 2 xs w4.drew hq (by show w4.cell? _=_;rw[F4.out.cell];rfl) OC.out Ro (HI4.out.keeps ((AJ.refl base [] w4).drew)) (by omega))
      clear hSS
      go_wp2_with fail
      refine Bp (fun W=>W.cell? ⟨gn+1,0,none⟩=some (.slice (some ⟨bl,ol,none⟩) L cl4)∧W.cell? ⟨bl,ol+ix,none⟩=some (.int .i64 (la:Int))) 10 (by kernel_rfl) ?_
      have hHeld:=HSS.out w4.drew [] 0 ((AJ.refl _ _ _).drew) (by simp) (by simp)
      have cu:=Lib.hid (cu.out.keeps (base:=0) ((AJ.refl _ _ _).drew))
      have KQ:Hid (DW base gn Fp w w4.drew):=Lib.hid (KQ.out.keeps ((AJ.refl _ _ _).drew))
      have HSS:Hid (∀ W base,AJ base Fp w4.drew W→W.cell? ⟨gn+1,0,none⟩=some (.slice (some ⟨bl,ol,none⟩) L cl4)∧W.cell? ⟨bl,ol+ix,none⟩=some (.int .i64 (la:Int))):=Lib.hid (fun W B' hk=>HSS.out W Fp 0 (((AJ.refl 0 Fp w4).drew).trans (hk.mono (Nat.zero_le _) (fun _ h=>h))) (by decide) (by decide))
      have hB4:gn≤w4.drew.heap.size:=hB4
      clear AAk J5 OC F4 HI4
      generalize w4.drew=w4 at *
      refine AA (i:=0) (v:=?zn) (by kernel_rfl) (by kernel_rfl) rfl (by kernel_rfl) (by kernel_rfl) (by kernel_rfl) (fun _ _ _ h=>h) (by rfl) (by assumption) ?Js ?Jt
      case Js=>(intro W hSW;(try dsimp only at hSW);go_simp;try with_reducible rfl)
      (try simp only[Act.put,l0A,l0B,l0C,l0D,l0E,l0F])
      refine AA (i:=1) (v:=?vG) (by kernel_rfl) (by kernel_rfl) rfl (by kernel_rfl) (by kernel_rfl) (by kernel_rfl) (fun _ _ _ h=>h) (by rfl) (by assumption) ?JE ?JF
      case JE=>(intro W hSW;(try dsimp only at hSW);go_simp;try with_reducible rfl)
      (try simp only[Act.put,l0A,l0B,l0C,l0D,l0E,l0F])
      refine AA (i:=2) (v:=?va2) (by kernel_rfl) (by kernel_rfl) rfl (by kernel_rfl) (by kernel_rfl) (by kernel_rfl) (fun _ _ _ h=>h) (by rfl) (by assumption) ?OA ?OB
      case OA=>(intro W hSW;(try dsimp only at hSW);go_simp;try with_reducible rfl)
      (try simp only[Act.put,l0A,l0B,l0C,l0D,l0E,l0F])
      refine AA (i:=3) (v:=?va3) (by kernel_rfl) (by kernel_rfl) rfl (by kernel_rfl) (by kernel_rfl) (by kernel_rfl) (fun _ _ _ h=>h) (by rfl) (by assumption) ?K5 ?K6
      case K5=>(intro W hSW;(try dsimp only at hSW);go_simp;try with_reducible rfl)
      (try simp only[Act.put,l0A,l0B,l0C,l0D,l0E,l0F])
      refine AA (i:=4) (v:=?va4) (by kernel_rfl) (by kernel_rfl) rfl (by kernel_rfl) (by kernel_rfl) (by kernel_rfl) (fun _ _ _ h=>h) (by rfl) (by assumption) ?K7 ?K8
      case K7=>(intro W hSW;(try dsimp only at hSW);go_simp;try with_reducible rfl)
      (try simp only[Act.put,l0A,l0B,l0C,l0D,l0E,l0F])
      refine AA (i:=5) (v:=?va5) (by kernel_rfl) (by kernel_rfl) rfl (by kernel_rfl) (by kernel_rfl) (by kernel_rfl) (fun _ _ _ h=>h) (by rfl) (by assumption) ?K9 ?LC
      case K9=>(intro W hSW;(try dsimp only at hSW);go_simp;try with_reducible rfl)
      (try simp only[Act.put,l0A,l0B,l0C,l0D,l0E,l0F])
      refine AA (i:=6) (v:=?va6) (by kernel_rfl) (by kernel_rfl) rfl (by kernel_rfl) (by kernel_rfl) (by kernel_rfl) (fun _ _ _ h=>h) (by rfl) (by assumption) ?Xb ?Xc
      case Xb=>(intro W hSW;(try dsimp only at hSW);go_simp;try with_reducible rfl)
      (try simp only[Act.put,l0A,l0B,l0C,l0D,l0E,l0F])
      refine AA (i:=7) (v:=?va7) (by kernel_rfl) (by kernel_rfl) rfl (by kernel_rfl) (by kernel_rfl) (by kernel_rfl) (fun _ _ _ h=>h) (by rfl) (by assumption) ?Xd ?Xe
      case Xd=>(intro W hSW;(try dsimp only at hSW);go_simp;try with_reducible rfl)
      (try simp only[Act.put,l0A,l0B,l0C,l0D,l0E,l0F])
      refine AB (i:=8) rfl (by kernel_rfl) (fun K hK=>?_)
      go_simp
      clear hHeld
      go_at_call 160
      refine (HG.out).mono ?_
      rintro e w6 ⟨QK,Iw⟩
      have OD:=Lib.hid (KQ.out.keeps (Iw.mono hq (fun _ h=>h)))
      have HA6:=Lib.hid (cu.out.keeps Iw)
      have Lf:=Lib.hid Iw
      have hB6:gn≤w6.heap.size:=Nat.le_trans hB4 Iw.size
      cases IJ:CJ (AO xs) p4 2 with
      | bad z=>
       have he:=BK QK IJ
       subst he
       have HU:=Lib.hid (show R=.bad z by rw[HU.out,Cy.out,IJ];rfl)
       clear QK Iw IJ
       unfold Bo
       go_wp2_with fail
       exact⟨rfl,Aj HU.out,YZ.out.symm▸OD.out⟩
      | ok a=>
       obtain⟨he,hs6,ja⟩:=BP QK IJ
       subst he
       have hx:=Ep IJ
       replace Cy:=Lib.hid (Cy.out.trans (by rw[IJ,then_ok]))
       have Vy:=Lib.hid hs6
       obtain⟨x,p6⟩:=a
       dsimp only at ja hx Cy Vy⊢
       have hx':x < 4:=hx
       obtain⟨y,hy⟩:∃ y,y=3+x:=⟨_,rfl⟩
       rw[←hy]at Cy
       have hwx:IntKind.i64.wrap ((3:Int)+(x:Int))=(y:Int):=by rw[show (3:Int)+(x:Int)=(y:Int) by omega];exact IntWalk.i64_in _ (by omega)
       have hy1:1≤y:=by omega
       have hy2:y≤1000:=by omega
       clear QK Iw IJ hs6 HG hy hx hx'
       refine hK.out _ _ (HSS.out w6 q Lf.out) (fun hHeld=>?_)
       clear hK K
       (try simp only[Act.put,l0A,l0B,l0C,l0D,l0E,l0F])
       refine AB (i:=9) rfl (by kernel_rfl) (fun K hK=>?_)
       go_simp
       refine hK.out _ _ (HSS.out w6 q Lf.out) (fun hHeld=>?_)
       clear hK K hHeld
       (try simp only[Act.put,l0A,l0B,l0C,l0D,l0E,l0F])
       refine BH rfl (by kernel_rfl) (by kernel_rfl) (fun K hK=>?_)
       go_simp
       go_at_call 234
       refine (NH gn (gn+1) gn N la y l w6 HA6.out (by omega) (by omega) hB6).mono ?_
       rintro e w7 ⟨Jh,Iu⟩
       have U9:=Lib.hid (OD.out.below Iu hbw)
       have U8:=Lib.hid (AV.below Vy.out Iu vO)
       cases ET:Dm N l la y with
       | bad z=>
        have he:=BK Jh ET
        subst he
        have HU:=Lib.hid (show R=.bad z by rw[HU.out,Cy.out,ET];rfl)
        clear Jh Iu ET
        unfold Bo
        go_wp2_with fail
        exact⟨rfl,Aj HU.out,YZ.out.symm▸U9.out⟩
       | ok m=>
        obtain⟨he,eG⟩:=BP Jh ET
        subst he
        have hm7:=LD ET
        have Hl7:Hid (Qy (gn+1) w7=m.length):=Lib.hid (Mi eG)
        have HU:=Lib.hid (show R=JZ (AO xs) ls N f p6 m by rw[HU.out,Cy.out,ET];rfl)
        have HA7:=Lib.hid eG
        clear Jh Iu ET eG
        refine hK.out _ _ ?_
        clear hK K
        go_wp2_with fail
        go_roundw
        case rel=>exact⟨f,p6,m,by have:=Xm.out;omega,HU.out,HA7.out,U8.out,ja,U9.out⟩
        case measure=>rw[hla.out,Hl7.out];have:=Xm.out;omega
    ·replace Cy:=Lib.hid (Cy.out.trans (if_neg h16))
     have AGj:((k:Int) == 16)=false:=by rw[beq_eq_false_iff_ne];omega
     by_cases h17:k=17
     ·subst h17
      replace Cy:=Lib.hid (Cy.out.trans (if_pos rfl))
      have HG:=Lib.hid (TN base g q A n c p4 3 xs w4 hq (by rw[F4.out.cell];rfl) OC.out Ro HI4.out (by omega))
      go_wp2_with fail
      refine (HG.out).mono ?_
      rintro e w6 ⟨QK,Iw⟩
      have OD:=Lib.hid (KQ.out.keeps (Iw.mono hq (fun _ h=>h)))
      have HA6:=Lib.hid (cu.out.keeps Iw)
      have Lf:=Lib.hid Iw
      have hB6:gn≤w6.heap.size:=Nat.le_trans hB4 Iw.size
      cases IJ:CJ (AO xs) p4 3 with
      | bad z=>
       have he:=BK QK IJ
       subst he
       have HU:=Lib.hid (show R=.bad z by rw[HU.out,Cy.out,IJ];rfl)
       clear QK Iw IJ
       unfold Bo
       go_wp2_with fail
       exact⟨rfl,Aj HU.out,YZ.out.symm▸OD.out⟩
      | ok a=>
       obtain⟨he,hs6,ja⟩:=BP QK IJ
       subst he
       have hx:=Ep IJ
       replace Cy:=Lib.hid (Cy.out.trans (by rw[IJ,then_ok]))
       have Vy:=Lib.hid hs6
       obtain⟨x,p6⟩:=a
       dsimp only at ja hx Cy Vy⊢
       have hx':x < 8:=hx
       obtain⟨y,hy⟩:∃ y,y=3+x:=⟨_,rfl⟩
       rw[←hy]at Cy
       have hwx:IntKind.i64.wrap ((3:Int)+(x:Int))=(y:Int):=by rw[show (3:Int)+(x:Int)=(y:Int) by omega];exact IntWalk.i64_in _ (by omega)
       have hy1:1≤y:=by omega
       have hy2:y≤1000:=by omega
       clear QK Iw IJ hs6 HG hy hx hx'
       go_wp2_with fail
       refine (NH gn (gn+1) gn N 0 y l w6 HA6.out (by omega) (by omega) hB6).mono ?_
       rintro e w7 ⟨Jh,Iu⟩
       have U9:=Lib.hid (OD.out.below Iu hbw)
       have U8:=Lib.hid (AV.below Vy.out Iu vO)
       cases ET:Dm N l 0 y with
       | bad z=>
        have he:=BK Jh ET
        subst he
        have HU:=Lib.hid (show R=.bad z by rw[HU.out,Cy.out,ET];rfl)
        clear Jh Iu ET
        unfold Bo
        go_wp2_with fail
        exact⟨rfl,Aj HU.out,YZ.out.symm▸U9.out⟩
       | ok m=>
        obtain⟨he,eG⟩:=BP Jh ET
        subst he
        have hm7:=LD ET
        have Hl7:Hid (Qy (gn+1) w7=m.length):=Lib.hid (Mi eG)
        have HU:=Lib.hid (show R=JZ (AO xs) ls N f p6 m by rw[HU.out,Cy.out,ET];rfl)
        have HA7:=Lib.hid eG
        clear Jh Iu ET eG
        go_wp2_with fail
        go_roundw
        case rel=>exact⟨f,p6,m,by have:=Xm.out;omega,HU.out,HA7.out,U8.out,ja,U9.out⟩
        case measure=>rw[hla.out,Hl7.out];have:=Xm.out;omega
     ·replace Cy:=Lib.hid (Cy.out.trans (if_neg h17))
      have ANE:((k:Int) == 17)=false:=by rw[beq_eq_false_iff_ne];omega
      by_cases h18:k=18
      ·subst h18
       replace Cy:=Lib.hid (Cy.out.trans (if_pos rfl))
       have HG:=Lib.hid (TN base g q A n c p4 7 xs w4 hq (by rw[F4.out.cell];rfl) OC.out Ro HI4.out (by omega))
       go_wp2_with fail
       refine (HG.out).mono ?_
       rintro e w6 ⟨QK,Iw⟩
       have OD:=Lib.hid (KQ.out.keeps (Iw.mono hq (fun _ h=>h)))
       have HA6:=Lib.hid (cu.out.keeps Iw)
       have Lf:=Lib.hid Iw
       have hB6:gn≤w6.heap.size:=Nat.le_trans hB4 Iw.size
       cases IJ:CJ (AO xs) p4 7 with
       | bad z=>
        have he:=BK QK IJ
        subst he
        have HU:=Lib.hid (show R=.bad z by rw[HU.out,Cy.out,IJ];rfl)
        clear QK Iw IJ
        unfold Bo
        go_wp2_with fail
        exact⟨rfl,Aj HU.out,YZ.out.symm▸OD.out⟩
       | ok a=>
        obtain⟨he,hs6,ja⟩:=BP QK IJ
        subst he
        have hx:=Ep IJ
        replace Cy:=Lib.hid (Cy.out.trans (by rw[IJ,then_ok]))
        have Vy:=Lib.hid hs6
        obtain⟨x,p6⟩:=a
        dsimp only at ja hx Cy Vy⊢
        have hx':x < 128:=hx
        obtain⟨y,hy⟩:∃ y,y=11+x:=⟨_,rfl⟩
        rw[←hy]at Cy
        have hwx:IntKind.i64.wrap ((11:Int)+(x:Int))=(y:Int):=by rw[show (11:Int)+(x:Int)=(y:Int) by omega];exact IntWalk.i64_in _ (by omega)
        have hy1:1≤y:=by omega
        have hy2:y≤1000:=by omega
        clear QK Iw IJ hs6 HG hy hx hx'
        go_wp2_with fail
        refine (NH gn (gn+1) gn N 0 y l w6 HA6.out (by omega) (by omega) hB6).mono ?_
        rintro e w7 ⟨Jh,Iu⟩
        have U9:=Lib.hid (OD.out.below Iu hbw)
        have U8:=Lib.hid (AV.below Vy.out Iu vO)
        cases ET:Dm N l 0 y with
        | bad z=>
         have he:=BK Jh ET
         subst he
         have HU:=Lib.hid (show R=.bad z by rw[HU.out,Cy.out,ET];rfl)
         clear Jh Iu ET
         unfold Bo
         go_wp2_with fail
         exact⟨rfl,Aj HU.out,YZ.out.symm▸U9.out⟩
        | ok m=>
         obtain⟨he,eG⟩:=BP Jh ET
         subst he
         have hm7:=LD ET
         have Hl7:Hid (Qy (gn+1) w7=m.length):=Lib.hid (Mi eG)
         have HU:=Lib.hid (show R=JZ (AO xs) ls N f p6 m by rw[HU.out,Cy.out,ET];rfl)
         have HA7:=Lib.hid eG
         clear Jh Iu ET eG
         go_wp2_with fail
         go_roundw
         case rel=>exact⟨f,p6,m,by have:=Xm.out;omega,HU.out,HA7.out,U8.out,ja,U9.out⟩
         case measure=>rw[hla.out,Hl7.out];have:=Xm.out;omega
      ·replace Cy:=Lib.hid (Cy.out.trans (if_neg h18))
       have ANF:((k:Int) == 18)=false:=by rw[beq_eq_false_iff_ne];omega
       go_wp2_with fail
       refine (NH gn (gn+1) gn N k 1 l w4 cu.out (by omega) (by omega) hB4).mono ?_
       rintro e w7 ⟨Jh,Iu⟩
       have U9:=Lib.hid (KQ.out.below Iu hbw)
       have U8:=Lib.hid (AV.below OC.out Iu vO)
       cases ET:Dm N l k 1 with
       | bad z=>
        have he:=BK Jh ET
        subst he
        have HU:=Lib.hid (show R=.bad z by rw[HU.out,Cy.out,ET];rfl)
        clear Jh Iu ET
        unfold Bo
        go_wp2_with fail
        exact⟨rfl,Aj HU.out,YZ.out.symm▸U9.out⟩
       | ok m=>
        obtain⟨he,eG⟩:=BP Jh ET
        subst he
        have hm7:=LD ET
        have Hl7:Hid (Qy (gn+1) w7=m.length):=Lib.hid (Mi eG)
        have HU:=Lib.hid (show R=JZ (AO xs) ls N f p4 m by rw[HU.out,Cy.out,ET];rfl)
        have HA7:=Lib.hid eG
        clear Jh Iu ET eG
        go_wp2_with fail
        go_roundw
        case rel=>exact⟨f,p4,m,by have:=Xm.out;omega,HU.out,HA7.out,U8.out,Ro,U9.out⟩
        case measure=>rw[hla.out,Hl7.out];have:=Xm.out;omega
  ·have hlt':¬ (L:Int) < (N:Int):=by omega
   have hfit:=HA.out.fit
   rw[←Xm.out]at hfit
   obtain rfl:L=N:=by omega
   go_wp2_with fail
   go_ret
   refine⟨Fa (a:=(p,l)) ?_ ⟨Al,cl,rfl,Xm.out.symm,?_,HS.out,ZT⟩,YZ.out.symm▸HO.out⟩
   ·rw[HU.out]
    cases f with
    | zero=>rfl
    | succ f=>
     show (if L≤l.length then _ else _)=_
     rw[if_pos (by rw[←Xm.out];exact Nat.le_refl _)]
   ·obtain⟨vl,hbl,hol,_⟩:=HA.out.row
    rw[hbl.cell]at hcl
    have e:vl=.slice Al L cl:=by simpa using hcl
    rw[e,←Xm.out]at hol
    rw[YZ.out]
    exact hol
end Go.Proofs.YtabdianhoabhhaaGreatDoor.Inf
namespace Go.Proofs.YtabdianhoabhhaaGreatDoor.Inf
open Go Go.RowKit Go.Proofs.YtabdianhoabhhaaGreatDoor Go.Proofs.YtabdianhoabhhaaGreatDoor.Bits Go.Proofs.YtabdianhoabhhaaGreatDoor.Code
set_option linter.unusedVariables false
set_option linter.unusedSimpArgs false
theorem wpList_build' {P:Program} {ops:Array Oper} {rest:List Oper} {o:Oper} {a:Act} {w:World} {Q:Exit→Act→World→Prop} (hg:o.guard=none) (t:TypeId) (parts:Array (Nat×Operand)) (ho:o.op=.build t parts) (cells:Array Value)
  (hf:P.built t (parts.map fun (i,x)=>(i,a.eval x)).toList=some cells) (h:wpList P ops Q rest (a.put o.dst (.agg cells)) w):wpList P ops Q (o :: rest) a w:=
 wpList_build hg t parts ho (by rw[hf];rfl) (by rw[hf];exact h)
theorem DW.setRow {base B0:Nat} {T:List TypeId} {w w':World} (h:DW base B0 T w w') {g:Nat} (hb:base≤g) (hB:B0≤g) (cs:Array Value):DW base B0 T w (w'.setRow g cs):=
 ⟨h.os,h.tape,h.output,by rw[setRow_size];exact h.size,fun k hk=>(setRow_other w' g k cs (by omega)).trans (h.block k hk),fun k o hk ho ht=>(setRow_other w' g k cs (by omega)).trans (h.other k o hk ho ht)⟩
theorem below_setRow {B:Nat} {w w':World} (h:Below B w w') {g:Nat} (hB:B≤g) (cs:Array Value):Below B w (w'.setRow g cs):=
 ⟨h.os,h.tape,h.output,by rw[setRow_size];exact h.size,fun k hk=>(setRow_other w' g k cs (by omega)).trans (h.block k hk)⟩
theorem DW.mono {base B0 B1:Nat} {T:List TypeId} {w w':World} (h:DW base B0 T w w') (hB:B1≤B0):DW base B1 T w w':=⟨h.os,h.tape,h.output,h.size,h.block,fun k o hk ho ht=>h.other k o (by omega) ho ht⟩
def Jo:Array Value:=#[.int .i64 16,.int .i64 17,.int .i64 18,.int .i64 0,.int .i64 8,.int .i64 7,.int .i64 9,.int .i64 6,.int .i64 10,.int .i64 5,.int .i64 11,.int .i64 4,.int .i64 12,.int .i64 3,.int .i64 13,.int .i64 2,.int .i64 14,.int .i64 1,.int .i64 15]
theorem jB:Jo=(Aw.map BR).toArray:=rfl
theorem P7 (W:World) (old:Array Value) (h:old.size=19):(storeCells ⟨W.heap.size,0,none⟩ Jo.toList).run Tryz.prog (W.alloc (.cells old 251))=.ok () ((W.alloc (.cells old 251)).setRow W.heap.size Jo):=by
 have:=run_storeCells_from (P:=Tryz.prog) W.heap.size 251 Jo.toList 0 old (W.alloc (.cells old 251)) (heap_alloc_new _ _) (by rw[h];rfl) (by decide)
 rw[this]
 congr 2
set_option maxRecDepth 100000 in
set_option maxHeartbeats 1600000 in
theorem VV (w:World):Calls Tryz.prog 193 #[] w fun e w'=>e=.returned (.agg Jo)∧Below w.heap.size w w':=by
 go_enter Tryz.func193,Tryz.ntmps193
 have hst:=P7 w
 go_wp2_with (refine wpList_build' rfl _ _ rfl Jo (by kernel_rfl) ?_)
 refine bodyPost_ret (results_cell_row rfl _ _ w.heap.size 251 Jo (0,0) _ rfl (setRow_heap _ _ _ _ _ _ (heap_alloc_new _ _)) Tryz.underlying251 rfl (by kernel_rfl)) rfl ?_
 exact⟨rfl,below_setRow ((Below.refl _ _).alloc (Nat.le_refl _) _) (Nat.le_refl _) _⟩
end Go.Proofs.YtabdianhoabhhaaGreatDoor.Inf
namespace Go.Proofs.YtabdianhoabhhaaGreatDoor.AV
open Go Go.RowKit Go.Proofs.YtabdianhoabhhaaGreatDoor Go.Proofs.YtabdianhoabhhaaGreatDoor.Bits Go.Proofs.YtabdianhoabhhaaGreatDoor.Code Go.Proofs.YtabdianhoabhhaaGreatDoor.Inf Go.Proofs.YtabdianhoabhhaaGreatDoor.Match Go.Proofs.YtabdianhoabhhaaGreatDoor.SP Go.Proofs.YtabdianhoabhhaaGreatDoor.Rt
set_option linter.unusedVariables false
theorem lV (k:Nat) (h:k < 19) (W:World):(Instr.index 251 (.agg Jo) (.int .i64 (k:Int))).run Tryz.prog W=.ok (.int .i64 (Aw.getD k 0:Int)) W:=by
 have hu:=run_underlying (P:=Tryz.prog) Tryz.underlying251
 have hk:Jo[k]?=some (.int .i64 (Aw.getD k 0:Int)):=by
  rw[jB,List.getElem?_toArray,List.getElem?_map,List.getD_eq_getElem?_getD,List.getElem?_eq_getElem (show k < Aw.length from h)];rfl
 simp[Instr.index,hu,asIntOf,go_sem,hk]
 intro h19
 omega
theorem AAH (k:Nat) (h:k < 19):Aw.getD k 0 < 19:=by
 rw[List.getD_eq_getElem?_getD,List.getElem?_eq_getElem (show k < Aw.length from h)]
 exact Yl _ (List.getElem_mem _)
theorem sG (S:List Nat) (k:Nat) (h:k < 19):((Aw.take (k+1)).map fun j=>S.getD j 0)=((Aw.take k).map fun j=>S.getD j 0)++[S.getD (Aw.getD k 0) 0]:=by
 rw[BJ Aw k h,List.map_append,List.getD_eq_getElem?_getD (l:=Aw),List.getElem?_eq_getElem (show k < Aw.length from h)];rfl
theorem XG (S:List Nat) (c i:Nat) (h:∀ x∈S,x≤c):S.getD i 0≤c:=by
 rw[List.getD_eq_getElem?_getD]
 rcases Nat.lt_or_ge i S.length with h1 | h1
 ·rw[List.getElem?_eq_getElem h1];exact h _ (List.getElem_mem h1)
 ·rw[List.getElem?_eq_none h1];exact Nat.zero_le _
theorem Kn (ls:List Nat) (i:Nat) (h:Cd ls):codeOf ls i≤32768:=by
 by_cases h0:ls.getD i 0=0
 ·unfold codeOf;rw[if_pos h0];omega
 ·have h1:=VT ls i (getD_lt h0) h0 h.le h.room
  have h2:(2:Nat) ^ ls.getD i 0≤2 ^ 15:=Nat.pow_le_pow_right (by omega) h.bits
  omega
theorem MK (ls:List Nat) (i:Nat) (h:i < ls.length):(I8 ls).getD i 0=codeOf ls i:=by
 unfold I8
 rw[List.getD_eq_getElem?_getD,List.getElem?_map,List.getElem?_range h];rfl
theorem Ym (S:List Nat) (x:Nat×Nat×Nat) (hS:∀ i,S.getD i 0≤7) (h:Lg x):(MO S x).length≤14:=by
 have:=hS x.1
 unfold MO
 unfold Lg at h
 rw[List.length_append,Bz,AL];omega
theorem Gx {w:World} {A:Option Addr} {l:List Nat} (h:J2 w 3 A (l.map BR)) {i:Nat} (hi:i < l.length):∃ b o,A=some ⟨b,o,none⟩∧w.cell? ⟨b,o+i,none⟩=some (.int .i64 (l.getD i 0:Int)):=by
 obtain⟨b,o,e,hc⟩:=h.Ib.get (k:=i) (by rw[List.length_map];exact hi)
 refine⟨b,o,e,?_⟩
 rw[hc,List.getElem_map,List.getD_eq_getElem?_getD,List.getElem?_eq_getElem hi];rfl
theorem dH (rs:List (Nat×Nat×Nat)) (k:Nat) (h:k < rs.length):FU (rs.take (k+1))=bump (FU (rs.take k)) rs[k].1:=by
 unfold FU;rw[BJ rs k h,List.foldl_append];rfl
theorem VU (rs:List (Nat×Nat×Nat)):(FU rs).sum≤rs.length:=by
 have key:∀ (rs:List (Nat×Nat×Nat)) (m:List Nat),(rs.foldl (fun m x=>bump m x.1) m).sum≤m.sum+rs.length:=by
  intro rs
  induction rs with
  | nil=>intro m;exact Nat.le_refl _
  | cons x rs ih=>
   intro m
   have h1:=ih (bump m x.1)
   have h2:=G5 m x.1
   rw[List.foldl_cons,List.length_cons];omega
 have h:=key rs (List.replicate 19 0)
 have z:(List.replicate 19 0:List Nat).sum=0:=by simp
 rw[z]at h
 unfold FU;omega
theorem Jd {α:Type} (f:α→List Bool) (c:Nat):∀ l:List α,(∀ x∈l,(f x).length≤c)→(l.flatMap f).length≤c*l.length
 | [],_=>by simp
 | a :: l,h=>by
  have h1:=h a List.mem_cons_self
  have h2:=Jd f c l (fun x hx=>h x (List.mem_cons_of_mem _ hx))
  rw[List.flatMap_cons,List.length_append,List.length_cons,Nat.mul_succ];omega
theorem SX {w:World} {A:Option Addr} {l:List Nat} (h:J2 w 3 A (l.map BR)) (n:Nat):J2 w 3 A ((l.take n).map BR):=by
 rw[List.map_take];exact h.take n
theorem Yn (l:List Nat):∀ u∈l.map BR,u.oneCell'=true:=by
 intro u hu;obtain⟨x,_,rfl⟩:=List.mem_map.1 hu;rfl
set_option maxRecDepth 100000 in
set_option maxHeartbeats 8000000 in
theorem MP (base p:Nat) (r:List Bool) (bA oA ca bB oB cb:Nat) (lit far:List Nat) (w:World) (hr:CZ w base p r) (hA:J2 w 3 (some ⟨bA,oA,none⟩) (lit.map BR)) (hB:J2 w 3 (some ⟨bB,oB,none⟩) (far.map BR))
  (l1:lit.length=286) (l2:far.length=30) (jC:286≤ca) (hcb:30≤cb) (c1:Cd lit) (c2:Cd far) (hrl:r.length≤60000000) :
  Calls Tryz.prog 158 #[.pointer (some ⟨p,0,none⟩),.slice (some ⟨bA,oA,none⟩) 286 ca,.slice (some ⟨bB,oB,none⟩) 30 cb] w fun e w'=>e=.returned (.tuple #[])∧CZ w' base p (r++C8 lit far)∧AJ base Gi w w':=by
 obtain⟨a,ha⟩:∃ a,a=Ed lit 257 286:=⟨_,rfl⟩
 obtain⟨b,hb⟩:∃ b,b=Ed far 1 30:=⟨_,rfl⟩
 have ha1:257≤a∧a≤286:=by rw[ha];exact⟨MQ lit 257 286 (by omega),G6 lit 257 286⟩
 have hb1:1≤b∧b≤30:=by rw[hb];exact⟨MQ far 1 30 (by omega),G6 far 1 30⟩
 have eA:BQ lit 257=lit.take a:=by unfold BQ;rw[l1,←ha]
 have eB:BQ far 1=far.take b:=by unfold BQ;rw[l2,←hb]
 have hHd:=MJ lit far
 have cA:=Je lit 257 c1
 have cB:=Je far 1 c2
 rw[eA,eB]at hHd
 rw[eA]at cA
 rw[eB]at cB
 have HT1:=Lib.hid (MR bA oA 286 ca lit 257 w l1 jC (by omega) hA.Ib (by omega))
 have HT2:=Lib.hid (MR bB oB 30 cb far 1 w l2 hcb (by omega) hB.Ib (by omega))
 rw[←ha]at HT1
 rw[←hb]at HT2
 have HA:=Lib.hid (SX hA a)
 have HB:=Lib.hid (SX hB b)
 have lA:(lit.take a).length=a:=by rw[List.length_take];omega
 have lB:(far.take b).length=b:=by rw[List.length_take];omega
 have HR:=Lib.hid hr
 have YV:=Lib.hid hHd
 have hbw:base≤w.heap.size:=Nat.le_trans hr.1 (Nat.le_of_lt hr.lt)
 clear hHd hr hA hB ha hb eA eB c1 c2 l1 l2
 generalize C8 lit far=HB0 at *
 generalize lit.take a=A at *
 generalize far.take b=B at *
 have rA:∀ y∈A++B,y≤15:=fun y hy=>by
  rcases List.mem_append.1 hy with hy | hy
  ·exact cA.le y hy
  ·exact cB.le y hy
 have HOk:=Lib.hid (XH (A++B) rA)
 have HRl:=Lib.hid (P5 (A++B))
 have H15:=Lib.hid rA
 have LA:=Lib.hid lA
 have LB:=Lib.hid lB
 clear rA lA lB cA cB
 go_enter Tryz.func158,Tryz.ntmps158
 go_wp2_with fail
 refine (HT1.out).mono ?_
 rintro e w1 ⟨rfl,rfl⟩
 go_wp2_with fail
 refine (HT2.out).mono ?_
 rintro e w2 ⟨rfl,rfl⟩
 have sH:Hid ((w2.alloc (.cells #[] 3)).ownsRow w2.heap.size 3 1 (.slice (some ⟨w2.heap.size,0,none⟩) 0 0) 0 []):=Lib.hid (Gw _ _ _ _ w2.heap.size 0 #[] (Nat.le_refl _) (heap_alloc_new w2 _) (by unfold maxLen;omega) (by simp))
 have Hb0:=Lib.hid ((Below.refl w2.heap.size w2).alloc (Nat.le_refl _) (.cells #[] 3))
 have HAs:=Lib.hid (HA.out.below Hb0.out).Ib
 have sI:Hid ((A.map BR).length=a*1):=Lib.hid (by rw[List.length_map,LA.out];omega)
 have rY:Hid ((B.map BR).length=b*1):=Lib.hid (by rw[List.length_map,LB.out];omega)
 have U7:=Lib.hid (Yn A)
 have Cz:=Lib.hid (Yn B)
 clear HT1 HT2
 go_wp2_with (at_builtin;first
  | (refine AY _ rfl (.tmp 27) (.tmp 28) _ rfl w2.heap.size 3 _ 1 8 Inf.bX _ 0 [] rfl sH.out (some ⟨bA,oA,none⟩) a ca (A.map BR) rfl sI.out HAs.out U7.out (by simp) (by unfold maxLen;omega) (by omega) Hb0.out.size ?_;intro v3 w3 hown3 hg3 _;have Hb3:=Lib.hid (own_below sH.out hg3 Hb0.out Hb0.out.size);rw[List.nil_append,Nat.zero_add]at hown3;have P6:=Lib.hid hown3;have HBs:=Lib.hid (HB.out.below Hb3.out).Ib;clear hown3 hg3)
  | (refine AY _ rfl (.tmp 29) (.tmp 30) _ rfl w2.heap.size 3 _ 1 8 Inf.bX _ a (A.map BR) rfl P6.out (some ⟨bB,oB,none⟩) b cb (B.map BR) rfl rY.out HBs.out Cz.out (by simp) (by unfold maxLen;omega) (by omega) Hb3.out.size ?_;intro v4 w4 DJ hg4 _;have Hb4:=Lib.hid (own_below P6.out hg4 Hb3.out Hb3.out.size);have bY:=Lib.hid DJ;clear DJ hg4))
 obtain⟨A4,c4,rfl,hc4,_,hs4,_⟩:=Ad bY.out
 have AF6:=Lib.hid (sJ A4 (a+b) c4 (A++B) w4 (by rw[List.length_append,LA.out,LB.out]) (by omega) (by rw[List.map_append];exact hs4) (fun x hx=>Nat.le_trans (H15.out x hx) (by omega)))
 have AJx:=Lib.hid Hb4.out
 clear hs4 bY P6 sH Hb0 HAs HBs sI rY U7 Cz Hb3 HA HB
 go_wp2_with fail
 refine (AF6.out).mono ?_
 rintro e w5 ⟨⟨v5,rfl,RJ⟩,hb5⟩
 have Hb5:=Lib.hid (Hb4.out.trans (hb5.mono Hb4.out.size))
 obtain⟨nR,hnR⟩:∃ n,n=(Dk (A++B)).length:=⟨_,rfl⟩
 have AMo:nR≤316:=by have h1:=HRl.out;rw[List.length_append,LA.out,LB.out]at h1;omega
 rw[←hnR]at RJ
 obtain⟨A5,c5,rfl,hc5,_,hs5,_⟩:=Dz RJ
 have HnR:=Lib.hid hnR.symm
 have bZ:=Lib.hid hs5
 clear RJ hb5 hs5 AF6 Hb4 AJx hnR HRl
 generalize Dk (A++B)=R at *
 have hmk:∀ u:World,(Instr.makeSlice 89 (.int .i64 19) (.int .i64 19)).run Tryz.prog u=.ok (.slice (some ⟨u.heap.size,0,none⟩) 19 19) (u.alloc (.cells (ED (List.replicate 19 0)) 3)):=fun u=>by rw[←Ir];exact F6 19 (by omega) u
 have Hm0:Hid (AV (w5.alloc (.cells (ED (List.replicate 19 0)) 3)) w5.heap.size 3 (ED (FU (R.take 0)))):=Lib.hid (AV.new _ _ _)
 have Jc:=Lib.hid ((Below.refl w5.heap.size w5).alloc (Nat.le_refl _) (.cells (ED (List.replicate 19 0)) 3))
 obtain⟨zz,hzz⟩:∃ z,z=ED (List.replicate 19 0):=⟨_,rfl⟩
 rw[←hzz]at hmk Hm0 Jc
 clear hzz
 go_wp2_with fail
 clear hmk
 go_loopw [37] (fun i wr=>∃ k:Nat,k≤nR∧i=.int .i64 (k:Int)∧AV wr w5.heap.size 3 (ED (FU (R.take k)))∧Below w5.heap.size w5 wr) (fun i _=>nR - (intOf i).toNat)
 case atStart=>exact⟨0,Nat.zero_le _,rfl,Hm0.out,Jc.out⟩
 case round=>
  clear Hm0 Jc
  obtain⟨k,hk,rfl,hm,hb⟩:=hrel
  have Hm:=Lib.hid hm
  have Hb:=Lib.hid hb
  clear hm hb
  by_cases hlt:k < nR
  ·have hkl:k < R.length:=by rw[HnR.out];exact hlt
   obtain⟨b5,o5,rfl,hc⟩:=EI (size:=3) (fun _=>rfl) (by omega) (bZ.out.below Hb.out).Ib hkl
   have hc0:=hc 0 _ rfl
   have hc1:=hc 1 _ rfl
   have hc2:=hc 2 _ rfl
   simp only[Nat.add_zero]at hc0
   have Rb:=Lib.hid (dH R k hkl)
   have hok:=HOk.out _ (List.getElem_mem hkl)
   have sK:=MS (R.take k)
   have hms:=VU (R.take k)
   have htl:(R.take k).length≤k:=by simp;omega
   clear hc
   generalize R[k]=x at *
   obtain⟨x0,x1,x2⟩:=x
   unfold Lg at hok
   dsimp only at hc0 hc1 hc2 Rb hok
   generalize FU (R.take k)=M at *
   have hcell:=J6 Hm.out (i:=x0) (by omega)
   have hfr:=Hm.out.frozen x0
   have hle:=Gy M x0
   have Hm2:=Lib.hid ((J7 Hm.out x0).alloc (.cells #[.int .i64 (x0:Int),.int .i64 (x1:Int),.int .i64 (x2:Int)] 250))
   have Hb2:=Lib.hid ((Hb.out.setCell (p:=⟨w5.heap.size,x0,none⟩) (Nat.le_refl _) (.int .i64 ((M.getD x0 0:Int)+1))).alloc (by rw[World.size_setCell];exact Hb.out.size) (.cells #[.int .i64 (x0:Int),.int .i64 (x1:Int),.int .i64 (x2:Int)] 250))
   have AAI:=Hm.out.lt
   generalize M.getD x0 0=y at *
   have hy:y≤1000:=by omega
   clear hms
   go_wp2_with fail
   go_roundw
   case rel=>exact⟨k+1,by omega,by go_num,by rw[Rb.out];exact Hm2.out,Hb2.out⟩
   case measure=>simp[intOf];omega
  ·obtain rfl:nR=k:=by omega
   have dD:Hid (R.take nR=R):=Lib.hid (List.take_of_length_le (by rw[HnR.out];exact Nat.le_refl _))
   rw[dD.out]at Hm
   have hsum:=VU R
   rw[HnR.out]at hsum
   have HW:=Lib.hid (SY (some ⟨w5.heap.size,0,none⟩) 19 19 (FU R) 7 wr (MS R) (by omega) (J4 Hm.out).Ib (fun x hx=>by have:=XF _ x hx;omega) (by omega) (by omega) (by have:=Cx.Kq (FU R);rw[MS]at this;have p7:(2:Nat) ^ 7=128:=rfl;omega))
   clear hlt hsum dD Hm
   go_wp2_with fail
   refine (HW.out).mono ?_
   rintro e w7 ⟨⟨v7,rfl,lW⟩,Iu⟩
   have HS:=Ns R
   have e7:AX (FU R) 7=D8 R:=rfl
   rw[e7]at lW
   obtain⟨A7,c7,rfl,hc7,_,hs7,_⟩:=Dz lW
   have U8:=Lib.hid hs7
   have FR:=Lib.hid (Hb.out.trans (Iu.mono Hb.out.size))
   clear HW lW Iu hs7 e7 Hb
   have HOr:=Lib.hid (VV w7)
   go_wp2_with fail
   refine (HOr.out).mono ?_
   rintro e w8 ⟨rfl,Kk⟩
   have zh:=Lib.hid (U8.out.below Kk)
   have EJ:=Lib.hid (FR.out.trans (Kk.mono FR.out.size))
   have hst:=P7 w8
   have VW:Below w8.heap.size w8 ((w8.alloc (.cells #[.int .i64 0,.int .i64 0,.int .i64 0,.int .i64 0,.int .i64 0,.int .i64 0,.int .i64 0,.int .i64 0,.int .i64 0,.int .i64 0,.int .i64 0,.int .i64 0,.int .i64 0,.int .i64 0,.int .i64 0,.int .i64 0,.int .i64 0,.int .i64 0,.int .i64 0] 251)).setRow w8.heap.size Jo):=below_setRow ((Below.refl _ _).alloc (Nat.le_refl _) _) (Nat.le_refl _) _
   have XI:=Lib.hid (zh.out.below VW)
   have Sa:=Lib.hid (EJ.out.trans (VW.mono EJ.out.size))
   have AF7:Hid (AV ((w8.alloc (.cells #[.int .i64 0,.int .i64 0,.int .i64 0,.int .i64 0,.int .i64 0,.int .i64 0,.int .i64 0,.int .i64 0,.int .i64 0,.int .i64 0,.int .i64 0,.int .i64 0,.int .i64 0,.int .i64 0,.int .i64 0,.int .i64 0,.int .i64 0,.int .i64 0,.int .i64 0] 251)).setRow w8.heap.size Jo) w8.heap.size 251 Jo):=Lib.hid ((AV.new _ _ _).setRow Jo)
   clear Kk HOr U8 FR VW zh EJ
   go_wp2_with (refine wpList_load_row rfl 251 (.tmp 13) rfl w8.heap.size rfl 251 Jo (0,0) _ AF7.out Tryz.underlying251 rfl (by kernel_rfl) ?_)
   generalize ((w8.alloc (.cells #[.int .i64 0,.int .i64 0,.int .i64 0,.int .i64 0,.int .i64 0,.int .i64 0,.int .i64 0,.int .i64 0,.int .i64 0,.int .i64 0,.int .i64 0,.int .i64 0,.int .i64 0,.int .i64 0,.int .i64 0,.int .i64 0,.int .i64 0,.int .i64 0,.int .i64 0] 251)).setRow w8.heap.size Jo)=w9 at *
   clear AF7 hst
   go_loopw [14,56] (fun vt i wr=>∃ k:Nat,k≤19∧i=.int .i64 (k:Int)∧wr.ownsRow w9.heap.size 3 1 vt k (((Aw.take k).map fun j=>(D8 R).getD j 0).map BR)∧Below w9.heap.size w9 wr) (fun _ i _=>19 - (intOf i).toNat)
   case atStart=>exact⟨0,Nat.zero_le _,rfl,World.ownsRow_nil ..,Below.refl _ _⟩
   case round=>
    obtain⟨k,hk,rfl,ho,hb⟩:=hrel
    have HO:=Lib.hid ho
    have Hb:=Lib.hid hb
    clear ho hb
    by_cases hlt:k < 19
    ·have hidx:=lV k hlt
     obtain⟨q,hq⟩:∃ q,q=Aw.getD k 0:=⟨_,rfl⟩
     have AJy:q < 19:=by rw[hq];exact AAH k hlt
     have Rb:=Lib.hid (sG (D8 R) k hlt)
     rw[←hq]at hidx Rb
     clear hq
     obtain⟨b7,o7,rfl,AF8⟩:=Gx (XI.out.below Hb.out) (i:=q) (by rw[HS.1];exact AJy)
     have Hc7:=Lib.hid AF8
     generalize hv:(D8 R).getD q 0=v at *
     have hcell:=Hc7.out
     have BA:Below wr.heap.size wr (wr.alloc (.cells #[.int .i64 (v:Int)] 3)):=(Below.refl _ _).alloc (Nat.le_refl _) _
     have Cz:=Lib.hid (AP HO.out BA)
     have Hb2:=Lib.hid (Hb.out.trans (BA.mono Hb.out.size))
     have HZ:Hid (AQ (wr.alloc (.cells #[.int .i64 (v:Int)] 3)) (some ⟨wr.heap.size,0,none⟩) [.int .i64 (v:Int)]):=Lib.hid (AQ.of_heap (heap_alloc_new _ _) rfl)
     clear BA hv AF8 Hc7
     go_wp2_with (at_builtin;refine AY _ rfl (.tmp 59) (.tmp 64) _ rfl w9.heap.size 3 _ 1 8 Inf.bX _ k (((Aw.take k).map fun j=>(D8 R).getD j 0).map BR) rfl Cz.out (some ⟨wr.heap.size,0,none⟩) 1 1 [.int .i64 (v:Int)] rfl rfl HZ.out (by simp[Value.oneCell']) (by simp) (by unfold maxLen;omega) (by omega) Hb2.out.size ?_;intro v8 w8 Au Dj _;have EJ:=Lib.hid (own_below Cz.out Dj Hb2.out Hb2.out.size);have GL:=Lib.hid Au;clear Au Dj)
     go_roundw
     case rel=>exact⟨k+1,by omega,by go_num,by rw[Rb.out,List.map_append];exact GL.out,EJ.out⟩
     case measure=>simp[intOf];omega
    ·obtain rfl:k=19:=by omega
     have e19:(Aw.take 19).map (fun j=>(D8 R).getD j 0)=Aw.map fun j=>(D8 R).getD j 0:=rfl
     obtain⟨s1,s2,s3,s4⟩:=HS
     have hHd:=YV.out
     have ADC:∀ i,(D8 R).getD i 0≤7:=fun i=>XG _ 7 i s3
     have rC:=Lib.hid (XI.out.below Hb.out)
     have hho:=HO.out
     rw[e19]at hho
     generalize D8 R=S at *
     generalize hT0:(Aw.map fun j=>S.getD j 0)=T0 at *
     have lT0:T0.length=19:=by rw[←hT0,List.length_map];rfl
     have hT7:∀ x∈T0,x≤7:=fun x hx=>by
      rw[←hT0]at hx
      obtain⟨y,_,rfl⟩:=List.mem_map.1 hx
      exact ADC y
     obtain⟨A8,c8,rfl,hc8,_,hk8,_⟩:=Dz hho
     obtain⟨b8,o8,AMp,rfl,_,_⟩:=hk8 (by rw[List.length_map];omega)
     obtain⟨m,hm⟩:∃ m,m=Ed T0 4 19:=⟨_,rfl⟩
     have hm1:4≤m∧m≤19:=by rw[hm];exact⟨MQ T0 4 19 (by omega),G6 T0 4 19⟩
     have HT:=Lib.hid (MR b8 o8 19 c8 T0 4 wr lT0 hc8 (by omega) hk8.Ib (by omega))
     rw[←hm]at HT
     have eT:BQ T0 4=T0.take m:=by unfold BQ;rw[lT0,←hm]
     rw[eT]at hHd
     have lT:(T0.take m).length=m:=by rw[List.length_take];omega
     have hTt:∀ x∈T0.take m,x≤7:=fun x hx=>hT7 x (List.mem_of_mem_take hx)
     have HKT:=Lib.hid (SX hk8 m)
     generalize T0.take m=T at *
     have MU:=Lib.hid hHd
     have LT:=Lib.hid lT
     have HT7:=Lib.hid hTt
     have AF9:=Lib.hid ADC
     have dI:=Lib.hid s1
     have HS2:=Lib.hid s2
     have Hbb:=Lib.hid (Hb5.out.trans ((Sa.out.trans (Hb.out.mono Sa.out.size)).mono Hb5.out.size))
     have Cj:=Lib.hid (HR.out.below Hbb.out)
     have HK:=Lib.hid (AJ.of_below (T:=Gi) Hbb.out hbw)
     have HSR:=Lib.hid (bZ.out.below (Sa.out.trans (Hb.out.mono Sa.out.size)))
     clear hHd s1 s2 s3 s4 hT0 lT0 hT7 hk8 hho hm eT lT hTt HO e19 ADC XI Sa bZ Hb5 Hbb Hb HR YV
     go_wp2_with fail
     refine (HT.out).mono ?_
     rintro e M7 ⟨rfl,rfl⟩
     obtain⟨x1,hx1⟩:∃ x,x=a - 257:=⟨_,rfl⟩
     obtain⟨x2,hx2⟩:∃ x,x=b - 1:=⟨_,rfl⟩
     obtain⟨x3,hx3⟩:∃ x,x=m - 4:=⟨_,rfl⟩
     have hs1:IntKind.i64.wrap ((a:Int) - 257)=(x1:Int):=by rw[show (a:Int) - 257=(x1:Int) by omega];exact IntWalk.i64_in _ (by omega)
     have hs2:IntKind.i64.wrap ((b:Int) - 1)=(x2:Int):=by rw[show (b:Int) - 1=(x2:Int) by omega];exact IntWalk.i64_in _ (by omega)
     have hs3:IntKind.i64.wrap ((m:Int) - 4)=(x3:Int):=by rw[show (m:Int) - 4=(x3:Int) by omega];exact IntWalk.i64_in _ (by omega)
     have Hx1:Hid (A.length - 257=x1∧B.length - 1=x2∧T.length - 4=x3):=Lib.hid (by rw[LA.out,LB.out,LT.out];omega)
     have AMq:x1≤29:=by omega
     have AMr:x2≤29:=by omega
     have AMs:x3≤15:=by omega
     clear hx1 hx2 hx3 HT
     have HP:=Lib.hid (CW base p x1 5 r M7 Cj.out (by omega) (by omega) (by omega))
     obtain⟨r1,hr1⟩:∃ z,z=r++numBits x1 5:=⟨_,rfl⟩
     have hl1:r1.length≤60000100:=by rw[hr1,List.length_append,AL];omega
     rw[←hr1]at HP
     have Hr1:=Lib.hid hr1
     clear hr1 Cj
     go_wp2_with fail
     refine (HP.out).mono ?_
     rintro e bW ⟨rfl,hrow,hkp⟩
     have Cj:=Lib.hid hrow
     have sM:=Lib.hid (HKT.out.keeps hkp (by decide))
     have dJ:=Lib.hid (rC.out.keeps hkp (by decide))
     have dK:=Lib.hid (HSR.out.keeps hkp (by decide))
     have F3:=Lib.hid (HK.out.trans hkp)
     clear hrow hkp HKT rC HSR HK HP
     have HP:=Lib.hid (CW base p x2 5 r1 bW Cj.out (by omega) (by omega) (by omega))
     obtain⟨r2,hr2⟩:∃ z,z=r1++numBits x2 5:=⟨_,rfl⟩
     have hl2:r2.length≤60000200:=by rw[hr2,List.length_append,AL];omega
     rw[←hr2]at HP
     have Hr2:=Lib.hid hr2
     clear hr2 Cj
     go_wp2_with fail
     refine (HP.out).mono ?_
     rintro e rz ⟨rfl,hrow,hkp⟩
     have Cj:=Lib.hid hrow
     have HKT:=Lib.hid (sM.out.keeps hkp (by decide))
     have rC:=Lib.hid (dJ.out.keeps hkp (by decide))
     have HSR:=Lib.hid (dK.out.keeps hkp (by decide))
     have HK:=Lib.hid (F3.out.trans hkp)
     clear hrow hkp sM dJ dK F3 HP
     have HP:=Lib.hid (CW base p x3 4 r2 rz Cj.out (by omega) (by omega) (by omega))
     obtain⟨r3,hr3⟩:∃ z,z=r2++numBits x3 4:=⟨_,rfl⟩
     have hl3:r3.length≤60000300:=by rw[hr3,List.length_append,AL];omega
     rw[←hr3]at HP
     have Hr3:=Lib.hid hr3
     clear hr3 Cj
     go_wp2_with fail
     refine (HP.out).mono ?_
     rintro e w13 ⟨rfl,hrow,hkp⟩
     have Cj:=Lib.hid hrow
     have sM:=Lib.hid (HKT.out.keeps hkp (by decide))
     have dJ:=Lib.hid (rC.out.keeps hkp (by decide))
     have dK:=Lib.hid (HSR.out.keeps hkp (by decide))
     have F3:=Lib.hid (HK.out.trans hkp)
     clear hrow hkp HKT rC HSR HK HP hs1 hs2 hs3
     go_wp2_with fail
     go_loopw [86] (fun i wr=>∃ k:Nat,k≤m∧i=.int .i64 (k:Int)∧CZ wr base p (r3++(T.take k).flatMap fun n=>numBits n 3)∧AJ base Gi w13 wr) (fun i _=>m - (intOf i).toNat)
     case atStart=>exact⟨0,Nat.zero_le _,rfl,by rw[List.take_zero,List.flatMap_nil,List.append_nil];exact Cj.out,AJ.refl _ _ _⟩
     case round=>
      clear Cj
      obtain⟨k,hk,rfl,hrow,hkp⟩:=hrel
      have Cj:=Lib.hid hrow
      have NS:=Lib.hid hkp
      clear hrow hkp
      by_cases hlt:k < m
      ·have hkl:k < T.length:=by rw[LT.out];exact hlt
       obtain⟨bT,oT,hAT,hcell⟩:=Gx (sM.out.keeps NS.out (by decide)) hkl
       injection hAT with hAT;injection hAT with e1 e2 e3;subst e1 e2
       have hv7:T.getD k 0≤7:=XG T 7 k HT7.out
       have Rb:Hid ((T.take (k+1)).flatMap (fun n=>numBits n 3)=((T.take k).flatMap fun n=>numBits n 3)++numBits (T.getD k 0) 3):=Lib.hid (by
        rw[BJ T k hkl,List.flatMap_append,List.getD_eq_getElem?_getD,List.getElem?_eq_getElem hkl];simp)
       have hfl:=Jd (fun n=>numBits n 3) 3 (T.take k) (fun x _=>by rw[AL];exact Nat.le_refl _)
       have htl:(T.take k).length≤k:=by simp;omega
       generalize T.getD k 0=v at *
       have HP:=Lib.hid (CW base p v 3 _ wr Cj.out (by omega) (by omega) (by rw[List.length_append];omega))
       rw[List.append_assoc,←Rb.out]at HP
       clear Cj hfl htl
       go_wp2_with fail
       refine (HP.out).mono ?_
       rintro e zi ⟨rfl,hrow,hkp⟩
       have Cj:=Lib.hid hrow
       have AJz:=Lib.hid (NS.out.trans hkp)
       clear hrow hkp NS HP hcell
       go_wp2_with fail
       go_roundw
       case rel=>exact⟨k+1,by omega,by go_num,Cj.out,AJz.out⟩
       case measure=>simp[intOf];omega
      ·obtain rfl:m=k:=by omega
       have dD:Hid (T.take m=T):=Lib.hid (List.take_of_length_le (by rw[LT.out];exact Nat.le_refl _))
       rw[dD.out]at Cj
       have hfl:=Jd (fun n=>numBits n 3) 3 T (fun x _=>by rw[AL];exact Nat.le_refl _)
       rw[LT.out]at hfl
       obtain⟨r4,hr4⟩:∃ z,z=r3++T.flatMap (fun n=>numBits n 3):=⟨_,rfl⟩
       have hl4:r4.length≤60000400:=by rw[hr4,List.length_append];omega
       rw[←hr4]at Cj
       have Hr4:=Lib.hid hr4
       have rC:=Lib.hid (dJ.out.keeps NS.out (by decide))
       have HSR:=Lib.hid (dK.out.keeps NS.out (by decide))
       have HK:=Lib.hid (F3.out.trans NS.out)
       have HCd:=Lib.hid (Nr A7 19 c7 S wr dI.out (by omega) rC.out.Ib HS2.out)
       clear hr4 hfl dD NS F3 dJ dK sM hlt
       go_wp2_with fail
       refine (HCd.out).mono ?_
       rintro e w15 ⟨⟨g,rfl,hg,hBg⟩,sN⟩
       have il:=Lib.hid (Cj.out.below sN)
       have hbr:=Nat.le_trans Cj.out.1 (Nat.le_of_lt Cj.out.lt)
       have dJ:=Lib.hid (rC.out.below sN)
       have dK:=Lib.hid (HSR.out.below sN)
       have F3:=Lib.hid (HK.out.trans (AJ.of_below sN hbr))
       have HG:=Lib.hid (J4 hBg)
       clear HCd sN hBg Cj rC HSR HK hg hbr
       go_wp2_with fail
       have HFin:Hid (r++HB0=r4++R.flatMap (MO S)):=Lib.hid (by
        rw[MU.out,Hx1.out.1,Hx1.out.2.1,Hx1.out.2.2,Hr4.out,Hr3.out,Hr2.out,Hr1.out]
        simp only[List.append_assoc])
       clear MU Hx1 Hr1 Hr2 Hr3 Hr4 HT7 LT
       go_loopw [101] (fun i wr=>∃ k:Nat,k≤nR∧i=.int .i64 (k:Int)∧CZ wr base p (r4++(R.take k).flatMap (MO S))∧AJ base Gi w15 wr) (fun i _=>nR - (intOf i).toNat)
       case atStart=>exact⟨0,Nat.zero_le _,rfl,by rw[List.take_zero,List.flatMap_nil,List.append_nil];exact il.out,AJ.refl _ _ _⟩
       case round=>
        clear il
        obtain⟨k,hk,rfl,hrow,hkp⟩:=hrel
        have Cj:=Lib.hid hrow
        have NS:=Lib.hid hkp
        clear hrow hkp
        by_cases hlt:k < nR
        ·have hkl:k < R.length:=by rw[HnR.out];exact hlt
         obtain⟨b5,o5,rfl,hc⟩:=EI (size:=3) (fun _=>rfl) (by omega) (dK.out.keeps NS.out (by decide)).Ib hkl
         have hc0:=hc 0 _ rfl
         have hc1:=hc 1 _ rfl
         have hc2:=hc 2 _ rfl
         simp only[Nat.add_zero]at hc0
         have hok:=HOk.out _ (List.getElem_mem hkl)
         have hfl:=Jd (MO S) 14 (R.take k) (fun x hx=>Ym S x AF9.out (HOk.out x (List.mem_of_mem_take hx)))
         have htl:(R.take k).length≤k:=by simp;omega
         have Rb:Hid ((R.take (k+1)).flatMap (MO S)=(R.take k).flatMap (MO S)++MO S R[k]):=Lib.hid (by
          rw[BJ R k hkl,List.flatMap_append];simp)
         clear hc
         generalize R[k]=x at *
         obtain⟨x0,y1,y2⟩:=x
         unfold Lg at hok
         dsimp only at hc0 hc1 hc2 hok
         have hbr:base≤wr.heap.size:=Nat.le_trans Cj.out.1 (Nat.le_of_lt Cj.out.lt)
         have BA:Below wr.heap.size wr (wr.alloc (.cells #[.int .i64 (x0:Int),.int .i64 (y1:Int),.int .i64 (y2:Int)] 250)):=(Below.refl _ _).alloc (Nat.le_refl _) _
         have ACF:=Lib.hid (Cj.out.below BA)
         have Py:=Lib.hid (NS.out.trans (AJ.of_below BA hbr))
         have ADE:Hid (AV (wr.alloc (.cells #[.int .i64 (x0:Int),.int .i64 (y1:Int),.int .i64 (y2:Int)] 250)) wr.heap.size 250 #[.int .i64 (x0:Int),.int .i64 (y1:Int),.int .i64 (y2:Int)]):=Lib.hid (AV.new _ _ _)
         obtain⟨bS,oS,rfl,hcS⟩:=Gx (dJ.out.keeps Py.out (by decide)) (i:=x0) (by rw[dI.out];exact hok.1)
         obtain⟨bG,oG,hAG,hcG⟩:=Gx (HG.out.keeps Py.out (by decide)) (i:=x0) (by unfold I8;rw[List.length_map,List.length_range,dI.out];exact hok.1)
         injection hAG with hAG;injection hAG with e1 e2 e3;subst e1 e2
         rw[MK S x0 (by rw[dI.out];exact hok.1)]at hcG
         have hcd:=Kn S x0 HS2.out
         have hsz:=AF9.out x0
         have VR:Hid (MO S (x0,y1,y2)=hi (S.getD x0 0) (codeOf S x0)++numBits y1 y2):=Lib.hid rfl
         generalize codeOf S x0=cd at *
         generalize S.getD x0 0=sz at *
         have n0:(wr.alloc (.cells #[.int .i64 (x0:Int),.int .i64 (y1:Int),.int .i64 (y2:Int)] 250)).cell? ⟨wr.heap.size,0,none⟩=some (.int .i64 (x0:Int)):=by rw[ADE.out.cell];rfl
         clear BA NS Cj
         go_wp2_with fail
         generalize wr.alloc (.cells #[.int .i64 (x0:Int),.int .i64 (y1:Int),.int .i64 (y2:Int)] 250)=wa at *
         generalize wr.heap.size=gx at *
         have hx0:x0 < 19:=hok.1
         have hx0':(x0:Int) < 19:=by omega
         have AJ0:=hcS
         have AJ1:=hcG
         simp only[Nat.zero_add]at AJ0 AJ1
         go_still_tail 11,(by kernel_rfl)
         change wpList _ _ _ _ _ wa.drew
         have Cj:Hid (CZ wa.drew base p (r4++(R.take k).flatMap (MO S))):=ACF
         have HKd:=Lib.hid (Py.out.drew)
         have ACG:Hid (AV wa.drew gx 250 #[.int .i64 (x0:Int),.int .i64 (y1:Int),.int .i64 (y2:Int)]):=ADE
         clear ACF Py ADE hcS hcG n0 hc0 hc1 hc2
         generalize wa.drew=wd at *
         have HP:=Lib.hid (SH base p cd sz _ wd Cj.out (by omega) (by omega) (by rw[List.length_append];omega))
         clear Cj
         go_wp2_with fail
         refine (HP.out).mono ?_
         rintro e w17 ⟨rfl,hrow,hkp⟩
         have Cj:=Lib.hid hrow
         have AGA:=Lib.hid (HKd.out.trans hkp)
         have ADF:=Lib.hid (hkp.blk ACG.out (by decide))
         have n1:w17.cell? ⟨gx,1,none⟩=some (.int .i64 (y1:Int)):=by rw[ADF.out.cell];rfl
         have n2:w17.cell? ⟨gx,2,none⟩=some (.int .i64 (y2:Int)):=by rw[ADF.out.cell];rfl
         clear hrow hkp HP HKd ACG
         have HP:=Lib.hid (CW base p y1 y2 _ w17 Cj.out (by omega) (by omega) (by rw[List.length_append,List.length_append,Df];omega))
         rw[List.append_assoc,List.append_assoc,←VR.out,←Rb.out]at HP
         clear Cj
         go_wp2_with fail
         refine (HP.out).mono ?_
         rintro e w18 ⟨rfl,hrow,hkp⟩
         have Cj:=Lib.hid hrow
         have AJ2:=Lib.hid (AGA.out.trans hkp)
         clear hrow hkp HP AGA ADF n1 n2
         go_wp2_with fail
         go_roundw
         case rel=>exact⟨k+1,by omega,by go_num,Cj.out,AJ2.out⟩
         case measure=>simp[intOf];omega
        ·obtain rfl:nR=k:=by omega
         have dD:Hid (R.take nR=R):=Lib.hid (List.take_of_length_le (by rw[HnR.out];exact Nat.le_refl _))
         rw[dD.out,←HFin.out]at Cj
         have HKf:=Lib.hid (F3.out.trans NS.out)
         go_wp2_with fail
         go_end0
         exact⟨rfl,Cj.out,HKf.out⟩
end Go.Proofs.YtabdianhoabhhaaGreatDoor.AV
namespace Go.Proofs.YtabdianhoabhhaaGreatDoor.Rt
open Go.Proofs.YtabdianhoabhhaaGreatDoor.Bits Go.Proofs.YtabdianhoabhhaaGreatDoor.Code Go.Proofs.YtabdianhoabhhaaGreatDoor.Match Go.Proofs.YtabdianhoabhhaaGreatDoor.SP Go.Proofs.YtabdianhoabhhaaGreatDoor.Inf Go.Proofs.YtabdianhoabhhaaGreatDoor.AV
set_option linter.unusedVariables false
def Lu (n:Nat) (b:List UInt8) (kind:Nat) (last:Bool):List Bool:=
 if kind=0 then [last]++numBits 0 2++List.replicate (8*((n+3+7) / 8) - (n+3)) false++numBits b.length 16++numBits (65535 - b.length) 16++AO b
 else if kind=1 then [last]++numBits 1 2++En (toks b) BU Co
 else [last]++numBits kind 2++C8 (Ck (toks b)).1 (Ck (toks b)).2++En (toks b) (Ck (toks b)).1 (Ck (toks b)).2
theorem jF (r:List Bool) (b:List UInt8) (kind:Nat) (last:Bool):J9 r b kind last=r++Lu r.length b kind last:=by
 unfold J9 Lu
 by_cases h0:kind=0
 ·rw[if_pos h0,if_pos h0]
  unfold pad
  have e:(r++[last]++numBits 0 2).length=r.length+3:=by simp[AL]
  rw[e]
  simp only[List.append_assoc]
 ·rw[if_neg h0,if_neg h0]
  by_cases h1:kind=1
  ·rw[if_pos h1,if_pos h1];simp only[List.append_assoc]
  ·rw[if_neg h1,if_neg h1];simp only[List.append_assoc]
theorem oz (s:List Nat×List Nat) (t:Tok) (j:Nat):s.1.getD j 0≤(DZ s t).1.getD j 0∧s.2.getD j 0≤(DZ s t).2.getD j 0:=by
 unfold DZ
 split
 ·dsimp only;rw[GY];omega
 ·dsimp only;rw[GY,GY];omega
theorem Mt:∀ (ts:List Tok) (s:List Nat×List Nat) (j:Nat),s.1.getD j 0≤(ts.foldl DZ s).1.getD j 0∧s.2.getD j 0≤(ts.foldl DZ s).2.getD j 0
 | [],s,j=>⟨Nat.le_refl _,Nat.le_refl _⟩
 | t :: ts,s,j=>by
  have h1:=Mt ts (DZ s t) j
  have h2:=oz s t j
  rw[List.foldl_cons];omega
def AHA (t:Tok):Prop:=t.2.1=0∨(3≤t.2.1∧t.2.1≤258∧1≤t.2.2)
theorem Yp:∀ (ts:List Tok) (n:Int),(Ci ts n).1=0→∀ t∈ts,AHA t
 | [],_,_,t,h=>by cases h
 | x :: ts,n,hk,t,h=>by
  simp only[Ci]at hk
  have hx:(DV n x).1=0:=by
   by_cases h1:(DV n x).1=0
   ·exact h1
   ·rw[if_neg h1]at hk;exact hk
  rw[if_pos hx]at hk
  rcases List.mem_cons.1 h with rfl | h
  ·unfold DV at hx
   unfold AHA
   by_cases h1:t.2.1=0
   ·exact Or.inl h1
   ·rw[if_neg h1]at hx
    by_cases h2:t.1≠0
    ·rw[if_pos h2]at hx;simp at hx
    ·rw[if_neg h2]at hx
     by_cases h3:t.2.1 < 3∨258 < t.2.1∨t.2.2 < 1
     ·rw[if_pos h3]at hx;simp at hx
     ·exact Or.inr ⟨by omega,by omega,by omega⟩
  ·exact Yp ts _ hk t h
theorem Sc (b:List UInt8):(Ci (toks b) 0).1=0:=by unfold toks;rw[Kr]
theorem pE (s:List Nat×List Nat) (t:Tok) (h1:s.1.length=286) (h2:s.2.length=30):Dv (DZ s t).1 (DZ s t).2 t:=by
 have k1:Di BB t.2.1.toNat < 29:=Gr BB _ (by decide)
 have k2:Di Br t.2.2.toNat < 30:=Gr Br _ (by decide)
 have hx:=t.1.toNat_lt
 unfold Dv DZ
 by_cases h:t.2.1=0
 ·rw[if_pos h,if_pos h]
  dsimp only
  rw[GY,if_pos ⟨rfl,by omega⟩];omega
 ·rw[if_neg h,if_neg h]
  dsimp only
  rw[GY,GY,if_pos ⟨rfl,by omega⟩,if_pos ⟨rfl,by omega⟩];omega
theorem Tv {a b c d:List Nat} (h1:∀ j,a.getD j 0≠0→c.getD j 0≠0) (h2:∀ j,b.getD j 0≠0→d.getD j 0≠0) {t:Tok} (h:Dv a b t):Dv c d t:=by
 unfold Dv at h⊢
 split
 ·rename_i h0;rw[if_pos h0]at h;exact h1 _ h
 ·rename_i h0;rw[if_neg h0]at h;exact⟨h1 _ h.1,h2 _ h.2⟩
theorem Lt:∀ (ts:List Tok) (s:List Nat×List Nat),s.1.length=286→s.2.length=30→∀ t∈ts,Dv (ts.foldl DZ s).1 (ts.foldl DZ s).2 t
 | [],_,_,_,t,h=>by cases h
 | x :: ts,s,h1,h2,t,h=>by
  have hl:=Vh s x
  rw[List.foldl_cons]
  rcases List.mem_cons.1 h with rfl | h
  ·refine Tv (fun j hj=>?_) (fun j hj=>?_) (pE s t h1 h2)
   ·have:=(Mt ts (DZ s t) j).1;omega
   ·have:=(Mt ts (DZ s t) j).2;omega
  ·exact Lt ts _ (hl.1.trans h1) (hl.2.trans h2) t h
theorem fP (ts:List Tok):∀ t∈ts,Dv (Cs ts).1 (Cs ts).2 t:=fun t h=>by
 have h1:=Lt ts (List.replicate 286 0,List.replicate 30 0) List.length_replicate List.length_replicate t h
 refine Tv (fun j hj=>?_) (fun j hj=>hj) h1
 have e:(Cs ts).1.getD j 0=(CX ts).1.getD j 0+if 256=j∧j < (CX ts).1.length then 1 else 0:=GY _ _ _
 have e2:(CX ts).1.getD j 0=(List.foldl DZ (List.replicate 286 0,List.replicate 30 0) ts).1.getD j 0:=rfl
 omega
theorem Ou (ts:List Tok):(Ck ts).1.length=286∧(Ck ts).2.length=30∧Cd (Ck ts).1∧Cd (Ck ts).2∧(Ck ts).1.getD 256 0≠0∧∀ t∈ts,Dv (Ck ts).1 (Ck ts).2 t:=by
 obtain⟨c1,c2⟩:=Sb ts
 have o1:=Cx.Kq (Cs ts).1
 have o2:=Cx.Kq (Cs ts).2
 have p15:(2:Nat) ^ 15=32768:=rfl
 obtain⟨a1,a2,_,a4⟩:=QQ (Cs ts).1 15 (by omega) (by omega) (by omega)
 obtain⟨b1,b2,_,b4⟩:=QQ (Cs ts).2 15 (by omega) (by omega) (by omega)
 refine⟨a1.trans c1,b1.trans c2,a2,b2,fun h=>?_,fun t ht=>?_⟩
 ·have h1:=(a4 256).1 h
  have e:(Cs ts).1.getD 256 0=(CX ts).1.getD 256 0+if 256=256∧256 < (CX ts).1.length then 1 else 0:=GY _ _ _
  rw[if_pos ⟨rfl,by rw[(MN ts).1];omega⟩]at e
  omega
 ·exact Tv (fun j hj h=>hj ((a4 j).1 h)) (fun j hj h=>hj ((b4 j).1 h)) (fP ts t ht)
theorem Re:Cd BU:=⟨by decide +kernel,by decide +kernel⟩
theorem Rf:Cd Co:=⟨by decide +kernel,by decide +kernel⟩
theorem Tw:∀ k < 288,BU.getD k 0≠0:=by decide +kernel
theorem xD:∀ k < 32,Co.getD k 0≠0:=by decide +kernel
theorem ABF (t:Tok):Dv BU Co t:=by
 have k1:Di BB t.2.1.toNat < 29:=Gr BB _ (by decide)
 have k2:Di Br t.2.2.toNat < 30:=Gr Br _ (by decide)
 have hx:=t.1.toNat_lt
 unfold Dv
 split
 ·exact Tw _ (by omega)
 ·exact⟨Tw _ (by omega),xD _ (by omega)⟩
theorem xE (lit far:List Nat) (t:Tok) (h:Dv lit far t):1≤(Gc lit far t).length:=by
 unfold Dv at h
 unfold Gc
 split
 ·rename_i h0;rw[if_pos h0]at h;rw[Bz];omega
 ·rename_i h0;rw[if_neg h0]at h
  simp only[List.length_append,Bz];omega
theorem WJ (lit far:List Nat):∀ ts:List Tok,(∀ t∈ts,Dv lit far t)→ts.length≤(En ts lit far).length
 | [],_=>Nat.zero_le _
 | t :: ts,h=>by
  have h1:=xE lit far t (h t List.mem_cons_self)
  have h2:=WJ lit far ts (fun x hx=>h x (List.mem_cons_of_mem _ hx))
  rw[Tu,List.length_append,List.length_cons];omega
theorem Z0 {row:List Bool} {lit far:List Nat} {p:Nat} {b out:List UInt8} (hc:Cd lit) (hd:Cd far) (he:lit.getD 256 0≠0) (hf:∀ t∈toks b,Dv lit far t) (h:Has row p (En (toks b) lit far)) (hl:out.length+b.length≤3000) :
  Ew row lit far (row.length+1) p out=.ok (p+(En (toks b) lit far).length,out++b):=by
 have hs:(toks b).foldl DX out=out++b:=by
  have:=WI out (toks b) [] (Sc b)
  rw[List.append_nil]at this
  rw[this]
  have e:(toks b).foldl DX []=b:=Zl b
  rw[e]
 have hlen:=WJ lit far (toks b) hf
 have hle:=h.le
 have:=Zz hc hd he (toks b) p out (row.length+1) 0 h hf (Sc b) (Int.le_refl _) (by omega) (by rw[hs,List.length_append];exact hl) (by omega)
 rw[hs]at this
 exact this
theorem X9 {row:List Bool} {p:Nat} {l:Bool} (h:Has row p [l]):CJ row p 1=.ok (l.toNat,p+1):=by
 have e:[l]=numBits l.toNat 1:=by cases l <;> rfl
 rw[e]at h
 exact EH h (by cases l <;> decide)
theorem Tx (l:Bool):(l.toNat == 1)=l:=by cases l <;> rfl
theorem pF {row:List Bool} {p kind:Nat} {b out:List UInt8} {last:Bool} (h:Has row p (Lu p b kind last)) (hk:kind≤2) (hl:out.length+b.length≤3000) :
  Eb row p out=.ok (last,kind,p+(Lu p b kind last).length,out++b):=by
 unfold Lu at h⊢
 by_cases h0:kind=0
 ·subst h0
  rw[if_pos rfl]at h⊢
  have a1:=h.left.left.left.left.left
  have a2:=h.left.left.left.left.right
  have a4:=h.left.left.right
  have a5:=h.left.right
  have a6:=h.right
  simp only[List.length_append,AL,List.length_singleton,List.length_replicate]at a2 a4 a5 a6⊢
  have ef:JH (p+1+2)=p+(1+2+(8*((p+3+7) / 8) - (p+3))):=by unfold JH;omega
  have AGj:b.length < 2 ^ 16:=by have:(2:Nat) ^ 16=65536:=rfl;omega
  have hc16:65535 - b.length < 2 ^ 16:=by have:(2:Nat) ^ 16=65536:=rfl;omega
  unfold Eb
  rw[X9 a1,thn]
  dsimp only
  rw[EH a2 (by decide),thn]
  dsimp only
  rw[if_pos rfl]
  unfold Fe
  rw[ef,EH a4 AGj,thn]
  dsimp only
  rw[EH (by rw[Nat.add_assoc];exact a5) hc16,thn]
  dsimp only
  rw[if_neg (by omega),j3 b _ out (by simp only[Nat.add_assoc]at a6⊢;exact a6) hl,thn,Tx,BV]
  simp only[Nat.add_assoc]
 ·rw[if_neg h0]at h⊢
  by_cases h1:kind=1
  ·subst h1
   rw[if_pos rfl]at h⊢
   have a1:=h.left.left
   have a2:=h.left.right
   have a3:=h.right
   simp only[List.length_append,AL,List.length_singleton]at a2 a3⊢
   unfold Eb
   rw[X9 a1,thn]
   dsimp only
   rw[EH a2 (by decide),thn]
   dsimp only
   rw[if_neg (by omega),if_pos rfl,Z0 Re Rf (Tw 256 (by omega)) (fun t _=>ABF t) (by rw[Nat.add_assoc];exact a3) hl,thn,Tx]
   simp only[Nat.add_assoc]
  ·obtain rfl:kind=2:=by omega
   rw[if_neg h1]at h⊢
   obtain⟨l1,l2,l3,l4,l5,l6⟩:=Ou (toks b)
   generalize (Ck (toks b)).1=lit at *
   generalize (Ck (toks b)).2=far at *
   have a1:=h.left.left.left
   have a2:=h.left.left.right
   have a3:=h.left.right
   have a4:=h.right
   simp only[List.length_append,AL,List.length_singleton]at a2 a3 a4⊢
   unfold Eb
   rw[X9 a1,thn]
   dsimp only
   rw[EH a2 (by decide),thn]
   dsimp only
   rw[if_neg (by omega),if_neg (by omega),if_pos rfl,xG l3 l4 l1 l2 l5 (by rw[Nat.add_assoc];exact a3),thn]
   dsimp only
   rw[←pG (toks b) lit far 257 1]at a4⊢
   rw[Z0 (Je lit 257 l3) (Je far 1 l4) (by rw[QR];exact l5) (fun t ht=>xH lit far 257 1 t (l6 t ht)) (by simp only[Nat.add_assoc]at a4⊢;exact a4) hl,thn,Tx]
   simp only[Nat.add_assoc]
theorem Gh (parts:List (List UInt8)) (kinds:List Nat) (i:Nat):DI parts kinds (i+1)=DI parts kinds i++Lu (DI parts kinds i).length (parts.getD i []) (kinds.getD i 0) (decide (i+1=parts.length)):=jF _ _ _ _
theorem Tz (parts:List (List UInt8)) (kinds:List Nat) (i:Nat):∀ d,∃ t,DI parts kinds (i+d)=DI parts kinds i++t
 | 0=>⟨[],by simp⟩
 | d+1=>by
  obtain⟨t,ht⟩:=Tz parts kinds i d
  exact⟨t++_,by rw[←Nat.add_assoc,Gh,ht,List.append_assoc]⟩
theorem pI (n:Nat) (b:List UInt8) (kind:Nat) (last:Bool):1≤(Lu n b kind last).length:=by
 unfold Lu
 (repeat' split) <;> simp only[List.length_append,List.length_singleton] <;> omega
theorem T9 (parts:List (List UInt8)) (kinds:List Nat):∀ i,i≤(DI parts kinds i).length
 | 0=>Nat.zero_le _
 | i+1=>by
  have h1:=T9 parts kinds i
  have h2:=pI (DI parts kinds i).length (parts.getD i []) (kinds.getD i 0) (decide (i+1=parts.length))
  rw[Gh,List.length_append];omega
theorem Ve (parts:List (List UInt8)) (i:Nat) (h:i < parts.length):(parts.take (i+1)).flatten=(parts.take i).flatten++parts.getD i []:=by
 rw[List.take_succ_eq_append_getElem h,List.flatten_append,List.getD_eq_getElem?_getD,List.getElem?_eq_getElem h]
 simp
theorem Es (parts:List (List UInt8)):∀ i,(parts.take i).flatten.length≤parts.flatten.length:=fun i=>by
 have:parts.flatten=(parts.take i).flatten++(parts.drop i).flatten:=by rw[←List.flatten_append,List.take_append_drop]
 rw[this,List.length_append];omega
theorem UA {row:List Bool} {parts:List (List UInt8)} {kinds:List Nat} (hr:Has row 0 (DI parts kinds parts.length)) (hk:kinds.length=parts.length) (hkk:∀ k∈kinds,k≤2) (hl:parts.flatten.length≤3000) :
  ∀ (m i fuel:Nat),i+m+1=parts.length→m < fuel→Dq row fuel (DI parts kinds i).length (parts.take i).flatten (kinds.take i)=.ok ((DI parts kinds parts.length).length,parts.flatten,kinds)
 | m,i,0,_,hf=>absurd hf (by omega)
 | m,i,f+1,hi,hf=>by
  have hil:i < parts.length:=by omega
  have hik:i < kinds.length:=by omega
  obtain⟨t,ht⟩:=Tz parts kinds (i+1) m
  rw[show i+1+m=parts.length by omega,Gh,List.append_assoc]at ht
  have hb:Has row (DI parts kinds i).length (Lu (DI parts kinds i).length (parts.getD i []) (kinds.getD i 0) (decide (i+1=parts.length))):=by
   rw[ht]at hr
   have:=hr.right.left
   rw[Nat.zero_add]at this
   exact this
  have hkind:kinds.getD i 0≤2:=by
   rw[List.getD_eq_getElem?_getD,List.getElem?_eq_getElem hik]
   exact hkk _ (List.getElem_mem hik)
  have hfl:=Ve parts i hil
  have AKh:=Es parts (i+1)
  rw[hfl,List.length_append]at AKh
  have hB:=pF (out:=(parts.take i).flatten) hb hkind (by omega)
  show (Eb row _ _).Ag _=_
  rw[hB,thn]
  dsimp only
  have hks:kinds.take i++[kinds.getD i 0]=kinds.take (i+1):=by
   rw[List.take_succ_eq_append_getElem hik,List.getD_eq_getElem?_getD,List.getElem?_eq_getElem hik];rfl
  have hp:(DI parts kinds i).length+(Lu (DI parts kinds i).length (parts.getD i []) (kinds.getD i 0) (decide (i+1=parts.length))).length=(DI parts kinds (i+1)).length:=by
   rw[Gh,List.length_append]
  rw[hp,hks,←hfl]
  by_cases hlast:i+1=parts.length
  ·rw[if_pos (by simpa using hlast),hlast,List.take_length,←hk,List.take_length]
  ·rw[if_neg (by simpa using hlast)]
   exact UA hr hk hkk hl (m - 1) (i+1) f (by omega) (by omega)
theorem xI (l:List Bool) (more:List UInt8):Has (AO (pack l++more)) 0 l:=by
 refine⟨Nat.zero_le _,List.replicate (8*((l.length+7) / 8) - l.length) false++AO more,?_⟩
 rw[List.drop_zero,DD,Nl,List.append_assoc]
theorem unpack_pack (parts:List (List UInt8)) (kinds:List Nat) (more:List UInt8) (h0:parts≠[]) (hk:kinds.length=parts.length) (hkk:∀ k∈kinds,k≤2) (hl:parts.flatten.length≤3000) (h6:(Cw parts kinds++more).length≤6000) :
  CF (Cw parts kinds++more)=.ok (parts.flatten,(Cw parts kinds).length,kinds):=by
 have hpos:0 < parts.length:=List.length_pos_iff.2 h0
 have hlong:=T9 parts kinds parts.length
 have hlen:(Cw parts kinds).length=((DI parts kinds parts.length).length+7) / 8:=BL _
 have hb:=UA (xI (DI parts kinds parts.length) more) hk hkk hl (parts.length - 1) 0 (8*(Cw parts kinds++more).length+1) (by omega) (by rw[List.length_append];omega)
 unfold CF
 rw[if_neg (by omega)]
 have e0:(DI parts kinds 0).length=0:=rfl
 rw[e0,List.take_zero,List.take_zero]at hb
 have hb':Dq (AO (Cw parts kinds++more)) (8*(Cw parts kinds++more).length+1) 0 [] []=.ok ((DI parts kinds parts.length).length,parts.flatten,kinds):=hb
 rw[hb',thn]
 dsimp only
 rw[hlen]
end Go.Proofs.YtabdianhoabhhaaGreatDoor.Rt
namespace Go.Proofs.YtabdianhoabhhaaGreatDoor.AV
open Go Go.RowKit Go.Proofs.YtabdianhoabhhaaGreatDoor Go.Proofs.YtabdianhoabhhaaGreatDoor.Bits Go.Proofs.YtabdianhoabhhaaGreatDoor.Code Go.Proofs.YtabdianhoabhhaaGreatDoor.Inf Go.Proofs.YtabdianhoabhhaaGreatDoor.Match Go.Proofs.YtabdianhoabhhaaGreatDoor.SP Go.Proofs.YtabdianhoabhhaaGreatDoor.Rt
set_option linter.unusedVariables false
set_option maxRecDepth 100000 in
set_option maxHeartbeats 1600000 in
theorem SG (base p g4 g8 g6 n c8 c6 k:Nat) (A8 A6:Option Addr) (lit:List Nat) (r:List Bool) (w:World) (hr:CZ w base p r) (h4:w.cell? ⟨g4,0,none⟩=some (.pointer (some ⟨p,0,none⟩))) (h8:w.cell? ⟨g8,0,none⟩=some (.slice A8 n c8)) (h6:w.cell? ⟨g6,0,none⟩=some (.slice A6 n c6))
  (hC:J2 w 3 A8 ((I8 lit).map BR)) (hL:J2 w 3 A6 (lit.map BR)) (hn:lit.length=n) (hn2:n≤288) (hk:k < n) (hc:Cd lit) (hrl:r.length≤1000000000) :
  Calls Tryz.prog 198 #[.int .i64 (k:Int),.pointer (some ⟨g4,0,none⟩),.pointer (some ⟨g8,0,none⟩),.pointer (some ⟨g6,0,none⟩)] w fun e w'=>e=.returned (.tuple #[])∧CZ w' base p (r++ES lit k)∧AJ base Gi w w':=by
 obtain⟨b8,o8,rfl,hc8⟩:=Gx hC (i:=k) (by unfold I8;rw[List.length_map,List.length_range,hn];exact hk)
 obtain⟨b6,o6,rfl,hc6⟩:=Gx hL (i:=k) (by rw[hn];exact hk)
 rw[MK lit k (by rw[hn];exact hk)]at hc8
 have hcd:=Kn lit k hc
 have hsz:=hc.bits (i:=k)
 have VR:Hid (ES lit k=hi (lit.getD k 0) (codeOf lit k)):=Lib.hid rfl
 have HR:=Lib.hid hr
 have hk':(k:Int) < (n:Int):=by omega
 have hbs:=Lib.hid hr.1
 generalize codeOf lit k=cd at *
 generalize lit.getD k 0=sz at *
 clear hr hC hL hn hc
 go_enter Tryz.func198,Tryz.ntmps198
 go_wp2_with fail
 go_still_tail 9,(by kernel_rfl)
 change wpList _ _ _ _ _ w.drew
 have Cj:Hid (CZ w.drew base p r):=HR
 have HKd:=Lib.hid ((AJ.refl base Gi w).drew)
 clear h4 h8 h6 hc8 hc6 HR
 have HP:=Lib.hid (SH base p cd sz r w.drew Cj.out (by omega) (by omega) (by omega))
 rw[←VR.out]at HP
 generalize w.drew=wd at *
 go_wp2_with fail
 refine (HP.out).mono ?_
 rintro e w2 ⟨rfl,hrow,hkp⟩
 have il:=Lib.hid hrow
 have F3:=Lib.hid (HKd.out.trans hkp)
 clear hrow hkp HP Cj HKd
 go_wp2_with fail
 go_end0
 exact⟨rfl,il.out,F3.out⟩
theorem iq {w:World} {A:Option Addr} {l:List (Nat×Nat)} (h:J2 w 259 A (l.flatMap Og)) {i:Nat} (hi:i < l.length) :
  ∃ b o,A=some ⟨b,o,none⟩∧w.cell? ⟨b,o+i*2,none⟩=some (.int .i64 ((l.getD i (0,0)).1:Int))∧w.cell? ⟨b,o+i*2+1,none⟩=some (.int .i64 ((l.getD i (0,0)).2:Int)):=by
 obtain⟨b,o,e,hc⟩:=EI (size:=2) (fun _=>rfl) (by omega) h.Ib hi
 have h0:=hc 0 _ rfl
 have h1:=hc 1 _ rfl
 have eg:l.getD i (0,0)=l[i]:=by rw[List.getD_eq_getElem?_getD,List.getElem?_eq_getElem hi];rfl
 rw[eg]
 exact⟨b,o,e,h0,h1⟩
def rZ (t:Tok):Prop:=t.2.1=0∨∃ s f:Nat,t.2.1=(s:Int)∧t.2.2=(f:Int)∧3≤s∧s≤258∧1≤f∧f≤3000
theorem Yh (lit far:List Nat) (t:Tok) (hc:Cd lit) (hd:Cd far):(Gc lit far t).length≤48:=by
 unfold Gc
 split
 ·rw[Bz];have:=hc.bits (i:=t.1.toNat);omega
 ·simp only[List.length_append,Bz,AL]
  have h1:=hc.bits (i:=257+Di BB t.2.1.toNat)
  have h2:=hd.bits (i:=Di Br t.2.2.toNat)
  have h3:∀ k,(BB.getD k (0,0)).2≤5:=fun k=>by
   rcases Nat.lt_or_ge k 29 with h | h
   ·exact (by decide:∀ k < 29,(BB.getD k (0,0)).2≤5) k h
   ·rw[List.getD_eq_getElem?_getD,List.getElem?_eq_none (show BB.length≤k from h)];exact Nat.zero_le _
  have h4:∀ k,(Br.getD k (0,0)).2≤13:=fun k=>by
   rcases Nat.lt_or_ge k 30 with h | h
   ·exact (by decide:∀ k < 30,(Br.getD k (0,0)).2≤13) k h
   ·rw[List.getD_eq_getElem?_getD,List.getElem?_eq_none (show Br.length≤k from h)];exact Nat.zero_le _
  have:=h3 (Di BB t.2.1.toNat)
  have:=h4 (Di Br t.2.2.toNat)
  omega
set_option maxRecDepth 100000 in
set_option maxHeartbeats 8000000 in
theorem Oo (base p:Nat) (r:List Bool) (At:Option Addr) (mt ct:Nat) (l:List Tok) (A:Option Addr) (n ca:Nat) (lit:List Nat) (B:Option Addr) (m cb:Nat) (far:List Nat) (w:World) (hr:CZ w base p r)
  (hT:J2 w 244 At (l.flatMap rq)) (hA:J2 w 3 A (lit.map BR)) (hB:J2 w 3 B (far.map BR))
  (lt:l.length=mt) (hmt:mt≤3000) (l1:lit.length=n) (l2:far.length=m) (hn:n≤288) (hn0:286≤n) (hm:m≤32) (hm0:30≤m) (c1:Cd lit) (c2:Cd far) (hts:∀ t∈l,rZ t) (hrl:r.length≤100000000) :
  Calls Tryz.prog 159 #[.pointer (some ⟨p,0,none⟩),.slice At mt ct,.slice A n ca,.slice B m cb] w fun e w'=>e=.returned (.tuple #[])∧CZ w' base p (r++En l lit far)∧AJ base Gi w w':=by
 have HR:=Lib.hid hr
 have HT:=Lib.hid hT
 have HA:=Lib.hid hA
 have HB:=Lib.hid hB
 have LT:=Lib.hid lt
 have L1:=Lib.hid l1
 have L2:=Lib.hid l2
 have C1:=Lib.hid c1
 have C2:=Lib.hid c2
 have HTS:=Lib.hid hts
 have hbw:base≤w.heap.size:=Nat.le_trans hr.1 (Nat.le_of_lt hr.lt)
 clear hr hT hA hB lt l1 l2 c1 c2 hts
 -- the boxes
 have Hb1:=Lib.hid (((Below.refl w.heap.size w).alloc (Nat.le_refl _) (.cells #[.pointer (some ⟨p,0,none⟩)] 166)).alloc (by simp) (.cells #[.slice A n ca] 89))
 have J3:Hid (AV ((w.alloc (.cells #[.pointer (some ⟨p,0,none⟩)] 166)).alloc (.cells #[.slice A n ca] 89)) w.heap.size 166 #[.pointer (some ⟨p,0,none⟩)]):=Lib.hid ((AV.new w _ _).alloc _)
 have VS:Hid (AV ((w.alloc (.cells #[.pointer (some ⟨p,0,none⟩)] 166)).alloc (.cells #[.slice A n ca] 89)) (w.heap.size+1) 89 #[.slice A n ca]):=Lib.hid (by
  have:=AV.new (w.alloc (.cells #[.pointer (some ⟨p,0,none⟩)] 166)) 89 #[.slice A n ca]
  rw[World.size_alloc]at this;exact this)
 have HC1:=Lib.hid (Nr A n ca lit ((w.alloc (.cells #[.pointer (some ⟨p,0,none⟩)] 166)).alloc (.cells #[.slice A n ca] 89)) L1.out hn (HA.out.below Hb1.out).Ib C1.out)
 go_enter Tryz.func159,Tryz.ntmps159
 go_wp2_with fail
 refine (HC1.out).mono ?_
 rintro e w1 ⟨⟨gl,rfl,hgl,hBl⟩,hb1⟩
 have Pw:=Lib.hid (J3.out.below hb1 J3.out.lt)
 have VE:=Lib.hid (VS.out.below hb1 VS.out.lt)
 have Hb2:=Lib.hid (Hb1.out.trans (hb1.mono Hb1.out.size))
 have HGl:=Lib.hid (J4 hBl)
 clear HC1 hBl hb1 J3 VS Hb1 hgl
 -- the box of the codes
 have BA:Below w1.heap.size w1 (w1.alloc (.cells #[.slice (some ⟨gl,0,none⟩) n n] 89)):=(Below.refl _ _).alloc (Nat.le_refl _) _
 have MH:Hid (AV (w1.alloc (.cells #[.slice (some ⟨gl,0,none⟩) n n] 89)) w1.heap.size 89 #[.slice (some ⟨gl,0,none⟩) n n]):=Lib.hid (AV.new _ _ _)
 have J3:=Lib.hid (Pw.out.below BA Pw.out.lt)
 have VS:=Lib.hid (VE.out.below BA VE.out.lt)
 have Hb3:=Lib.hid (Hb2.out.trans (BA.mono Hb2.out.size))
 have ru:=Lib.hid (HGl.out.below BA)
 have HC2:=Lib.hid (Nr B m cb far (w1.alloc (.cells #[.slice (some ⟨gl,0,none⟩) n n] 89)) L2.out (by omega) (HB.out.below Hb3.out).Ib C2.out)
 clear BA Hb2 Pw VE HGl
 go_wp2_with fail
 refine (HC2.out).mono ?_
 rintro e w2 ⟨⟨gf,rfl,hgf,hBf⟩,hb2⟩
 have Pw:=Lib.hid (J3.out.below hb2 J3.out.lt)
 have VE:=Lib.hid (VS.out.below hb2 VS.out.lt)
 have lM:=Lib.hid (MH.out.below hb2 MH.out.lt)
 have HGl:=Lib.hid (ru.out.below hb2)
 have HGf:=Lib.hid (J4 hBf)
 have Hb4:=Lib.hid (Hb3.out.trans (hb2.mono Hb3.out.size))
 clear HC2 hBf hb2 J3 VS MH Hb3 ru hgf
 go_wp2_with fail
 refine (Px _).mono ?_
 rintro e w3 ⟨A3,c3,rfl,ho3,hb3⟩
 have J3:=Lib.hid (Pw.out.below hb3 Pw.out.lt)
 have VS:=Lib.hid (VE.out.below hb3 VE.out.lt)
 have MH:=Lib.hid (lM.out.below hb3 lM.out.lt)
 have ru:=Lib.hid (HGl.out.below hb3)
 have AFv:=Lib.hid (HGf.out.below hb3)
 have Hb5:=Lib.hid (Hb4.out.trans (hb3.mono Hb4.out.size))
 have lN:Hid (J2 w3 259 A3 (BB.flatMap Og)):=Lib.hid (by obtain⟨A,c,e,_,_,h,_⟩:=Dz ho3;injection e with e;subst e;exact h)
 clear hb3 ho3 Pw VE lM Hb4 HGl HGf
 go_wp2_with fail
 refine (SI _).mono ?_
 rintro e w4 ⟨A4,c4,rfl,SK,hb4⟩
 have Pw:=Lib.hid (J3.out.below hb4 J3.out.lt)
 have VE:=Lib.hid (VS.out.below hb4 VS.out.lt)
 have lM:=Lib.hid (MH.out.below hb4 MH.out.lt)
 have HGl:=Lib.hid (ru.out.below hb4)
 have HGf:=Lib.hid (AFv.out.below hb4)
 have Jc:=Lib.hid (Hb5.out.trans (hb4.mono Hb5.out.size))
 have Yi:=Lib.hid (lN.out.below hb4)
 have HFa:Hid (J2 w4 259 A4 (Br.flatMap Og)):=Lib.hid (by obtain⟨A,c,e,_,_,h,_⟩:=Dz SK;injection e with e;subst e;exact h)
 have Qo:=Lib.hid (HR.out.below Jc.out)
 have Jz:=Lib.hid (HT.out.below Jc.out)
 have cu:=Lib.hid (HA.out.below Jc.out)
 have F4:=Lib.hid (HB.out.below Jc.out)
 have J5:=Lib.hid (AJ.of_below (T:=Gi) Jc.out hbw)
 clear hb4 SK J3 VS MH ru AFv Hb5 Jc lN HR HT HA HB
 generalize hq4:w.heap.size=g4 at *
 generalize hq6:g4+1=g6 at *
 generalize w1.heap.size=g8 at *
 clear hq4 hq6
 go_wp2_with fail
 go_loopw [34] (fun i wr=>∃ k:Nat,k≤mt∧i=.int .i64 (k:Int)∧CZ wr base p (r++(l.take k).flatMap (Gc lit far))∧AJ base Gi w4 wr) (fun i _=>mt - (intOf i).toNat)
 case atStart=>exact⟨0,Nat.zero_le _,rfl,by rw[List.take_zero,List.flatMap_nil,List.append_nil];exact Qo.out,AJ.refl _ _ _⟩
 case round=>
  clear Qo
  obtain⟨k,hk,rfl,hrow,hkp⟩:=hrel
  have Cj:=Lib.hid hrow
  have NS:=Lib.hid hkp
  have J3:=Lib.hid (hkp.blk Pw.out (by decide))
  have VS:=Lib.hid (hkp.blk VE.out (by decide))
  have MH:=Lib.hid (hkp.blk lM.out (by decide))
  have hfl:=Jd (Gc lit far) 48 (l.take k) (fun x hx=>Yh lit far x C1.out C2.out)
  have htl:(l.take k).length≤k:=by simp;omega
  have hrl2:(r++(l.take k).flatMap (Gc lit far)).length≤100200000:=by rw[List.length_append];omega
  clear hrow hkp hfl htl
  by_cases hlt:k < mt
  ·have hkl:k < l.length:=by rw[LT.out];exact hlt
   have dA:=Lib.hid (Jz.out.keeps NS.out (by decide))
   obtain⟨bt,ot,rfl,hc⟩:=EI (size:=3) (fun _=>rfl) (by omega) dA.out.Ib hkl
   have hc0:=hc 0 _ rfl
   have hc1:=hc 1 _ rfl
   have hc2:=hc 2 _ rfl
   simp only[Nat.add_zero]at hc0
   have hts:=HTS.out _ (List.getElem_mem hkl)
   have Rb:Hid ((l.take (k+1)).flatMap (Gc lit far)=(l.take k).flatMap (Gc lit far)++Gc lit far l[k]):=Lib.hid (by
    rw[BJ l k hkl,List.flatMap_append];simp)
   clear hc dA
   generalize l[k]=t at *
   obtain⟨x,s,f⟩:=t
   have hx8:=Qp x
   unfold rZ at hts
   dsimp only at hc0 hc1 hc2 hts
   simp only[Eh,iv]at hc0 hc1 hc2
   obtain⟨q,hq⟩:∃ q:Nat,(q:Int)=n8 x:=⟨x.toNat,rfl⟩
   have Hq:Hid (x.toNat=q):=Lib.hid (by unfold n8 at hq;omega)
   rw[←hq]at hc0 hx8
   clear hq
   generalize hr0:r++(l.take k).flatMap (Gc lit far)=rr at *
   have Hr0:=Lib.hid hr0
   clear hr0
   have hbr:base≤wr.heap.size:=Nat.le_trans Cj.out.1 (Nat.le_of_lt Cj.out.lt)
   by_cases hs:s=0
   ·subst hs
    have Htb:Hid (Gc lit far (x,0,f)=ES lit q):=Lib.hid (by unfold Gc;rw[if_pos rfl,Hq.out])
    rw[Htb.out]at Rb
    have BA:Below wr.heap.size wr (wr.alloc (.cells #[.int .u8 (q:Int),.int .i64 0,.int .i64 f] 244)):=(Below.refl _ _).alloc (Nat.le_refl _) _
    have Py:=Lib.hid (NS.out.trans (AJ.of_below BA hbr))
    have ACE:IntKind.i64.wrap (q:Int)=(q:Int):=IntWalk.i64_in _ (by omega)
    have HP:=Lib.hid (SG base p g4 g8 g6 n n ca q _ _ lit rr (wr.alloc (.cells #[.int .u8 (q:Int),.int .i64 0,.int .i64 f] 244)) (Cj.out.below BA) (by rw[(J3.out.below BA J3.out.lt).cell];rfl) (by rw[(MH.out.below BA MH.out.lt).cell];rfl) (by rw[(VS.out.below BA VS.out.lt).cell];rfl)
     (HGl.out.keeps Py.out (by decide)) (cu.out.keeps Py.out (by decide)) L1.out hn (by omega) C1.out (by omega))
    clear hts BA
    go_wp2_with fail
    refine (HP.out).mono ?_
    rintro e w6 ⟨rfl,hrow,hkp⟩
    have ry:=Lib.hid hrow
    have Lf:=Lib.hid (Py.out.trans hkp)
    clear hrow hkp HP Cj NS Py
    go_wp2_with fail
    go_roundw
    case rel=>exact⟨k+1,by omega,by go_num,by rw[Rb.out,←List.append_assoc,Hr0.out];exact ry.out,Lf.out⟩
    case measure=>simp[intOf];omega
   ·obtain⟨s',f',rfl,rfl,hs3,AMJ,hf1,hf3⟩:=hts.resolve_left hs
    have hs1:((s':Int) == 0)=false:=by rw[beq_eq_false_iff_ne];omega
    obtain⟨j1,hj1⟩:∃ j,j=Di BB s':=⟨_,rfl⟩
    obtain⟨j2,hj2⟩:∃ j,j=Di Br f':=⟨_,rfl⟩
    have hl1:j1 < 29:=by rw[hj1];exact Gr BB _ (by decide)
    have hl2:j2 < 30:=by rw[hj2];exact Gr Br _ (by decide)
    have AJq:(BB.getD j1 (0,0)).1≤s':=by rw[hj1];exact Rc BB s' (by decide) hs3
    have AJr:(Br.getD j2 (0,0)).1≤f':=by rw[hj2];exact Rc Br f' (by decide) hf1
    have hb5:(BB.getD j1 (0,0)).2≤5:=(by decide:∀ k < 29,(BB.getD k (0,0)).2≤5) j1 hl1
    have AMe:(Br.getD j2 (0,0)).2≤13:=(by decide:∀ k < 30,(Br.getD k (0,0)).2≤13) j2 hl2
    have Htb:Hid (rr++Gc lit far (x,(s':Int),(f':Int))=rr++ES lit (257+j1)++numBits (s' - (BB.getD j1 (0,0)).1) (BB.getD j1 (0,0)).2++ES far j2++numBits (f' - (Br.getD j2 (0,0)).1) (Br.getD j2 (0,0)).2):=Lib.hid (by
     unfold Gc
     rw[if_neg (by dsimp only;omega)]
     dsimp only
     rw[Int.toNat_natCast,Int.toNat_natCast,←hj1,←hj2]
     simp only[List.append_assoc])
    have BA:Below wr.heap.size wr (wr.alloc (.cells #[.int .u8 (q:Int),.int .i64 (s':Int),.int .i64 (f':Int)] 244)):=(Below.refl _ _).alloc (Nat.le_refl _) _
    have Py:=Lib.hid (NS.out.trans (AJ.of_below BA hbr))
    have Hn:=Lib.hid (AV.new wr 244 #[.int .u8 (q:Int),.int .i64 (s':Int),.int .i64 (f':Int)])
    have Hr4:=Lib.hid (Cj.out.below BA)
    have dB:=Lib.hid (Ko A3 29 c3 BB s' (wr.alloc (.cells #[.int .u8 (q:Int),.int .i64 (s':Int),.int .i64 (f':Int)] 244)) rfl (by omega) (Yi.out.keeps Py.out (by decide)).Ib)
    rw[←hj1]at dB
    have Hj2:=Lib.hid hj2
    clear hts BA hj1 hj2 hs Cj NS J3 VS MH
    go_wp2_with fail
    refine (dB.out).mono ?_
    rintro e w5 ⟨rfl,hb⟩
    have Hr5:=Lib.hid (Hr4.out.below hb)
    have MM:=Lib.hid (Py.out.trans (AJ.of_below hb (Nat.le_trans hbr (by simp))))
    have Hn5:=Lib.hid (Hn.out.below hb Hn.out.lt)
    clear hb dB Hr4 Py Hn hc0 hc1 hc2
    generalize wr.heap.size=gt at *
    have hsum:IntKind.i64.wrap (257+(j1:Int))=((257+j1:Nat):Int):=IntWalk.i64_in _ (by omega)
    have HP:=Lib.hid (SG base p g4 g8 g6 n n ca (257+j1) _ _ lit rr w5 Hr5.out (by rw[(MM.out.blk Pw.out (by decide)).cell];rfl) (by rw[(MM.out.blk lM.out (by decide)).cell];rfl) (by rw[(MM.out.blk VE.out (by decide)).cell];rfl)
     (HGl.out.keeps MM.out (by decide)) (cu.out.keeps MM.out (by decide)) L1.out hn (by omega) C1.out (by omega))
    have hcl:(ES lit (257+j1)).length≤15:=by rw[Bz];exact C1.out.bits
    have hcf:(ES far j2).length≤15:=by rw[Bz];exact C2.out.bits
    obtain⟨rr1,AC7⟩:∃ z,z=rr++ES lit (257+j1):=⟨_,rfl⟩
    have AMf:rr1.length≤100200100:=by rw[AC7,List.length_append];omega
    rw[←AC7]at HP Htb
    generalize hrx:257+j1=rx at *
    clear hrx AC7 hcl
    go_wp2_with fail
    refine (HP.out).mono ?_
    rintro e w6 ⟨rfl,hrow,hkp⟩
    have Hr6:=Lib.hid hrow
    have Lf:=Lib.hid (MM.out.trans hkp)
    have Hn6:=Lib.hid (hkp.blk Hn5.out (by decide))
    clear hrow hkp HP Hr5 MM Hn5 hsum
    -- how many more
    obtain⟨b3,o3,rfl,hd0,hd1⟩:=iq (Yi.out.keeps Lf.out (by decide)) (i:=j1) (show j1 < 29 from hl1)
    have h4:w6.cell? ⟨g4,0,none⟩=some (.pointer (some ⟨p,0,none⟩)):=by rw[(Lf.out.blk Pw.out (by decide)).cell];rfl
    have hn1:w6.cell? ⟨gt,1,none⟩=some (.int .i64 (s':Int)):=by rw[Hn6.out.cell];rfl
    generalize (BB.getD j1 (0,0)).1=fr1 at *
    generalize (BB.getD j1 (0,0)).2=bi1 at *
    obtain⟨d1,AFw⟩:∃ d,d=s' - fr1:=⟨_,rfl⟩
    have AFx:IntKind.i64.wrap ((s':Int) - (fr1:Int))=(d1:Int):=by rw[show (s':Int) - (fr1:Int)=(d1:Int) by omega];exact IntWalk.i64_in _ (by omega)
    have AMg:d1≤258:=by omega
    rw[←AFw]at Htb
    have AMh:(j1:Int) < 29:=by omega
    clear AFw AJq
    go_wp2_with fail
    go_still_tail 14,(by kernel_rfl)
    change wpList _ _ _ _ _ w6.drew
    have Hr7:Hid (CZ w6.drew base p rr1):=Hr6
    have U6:=Lib.hid (Lf.out.drew)
    have Hn7:Hid (AV w6.drew gt 244 #[.int .u8 (q:Int),.int .i64 (s':Int),.int .i64 (f':Int)]):=Hn6
    clear Hr6 Lf Hn6 hd0 hd1 h4 hn1
    generalize w6.drew=w7 at *
    have HP:=Lib.hid (CW base p d1 bi1 rr1 w7 Hr7.out (by omega) (by omega) (by omega))
    obtain⟨rr2,AC8⟩:∃ z,z=rr1++numBits d1 bi1:=⟨_,rfl⟩
    have AMi:rr2.length≤100200200:=by rw[AC8,List.length_append,AL];omega
    rw[←AC8]at HP Htb
    clear AC8
    go_wp2_with fail
    refine (HP.out).mono ?_
    rintro e w8 ⟨rfl,hrow,hkp⟩
    have Hr8:=Lib.hid hrow
    have qz:=Lib.hid (U6.out.trans hkp)
    have Hn8:=Lib.hid (hkp.blk Hn7.out (by decide))
    clear hrow hkp HP Hr7 U6 Hn7 AFx
    -- which of how far
    have hn2:w8.cell? ⟨gt,2,none⟩=some (.int .i64 (f':Int)):=by rw[Hn8.out.cell];rfl
    have Hs2:=Lib.hid (Ko A4 30 c4 Br f' w8 rfl (by omega) (HFa.out.keeps qz.out (by decide)).Ib)
    rw[←Hj2.out]at Hs2
    go_wp2_with fail
    refine (Hs2.out).mono ?_
    rintro e w9 ⟨rfl,hb⟩
    have Hr9:=Lib.hid (Hr8.out.below hb)
    have HK9:=Lib.hid (qz.out.trans (AJ.of_below hb (Nat.le_trans Hr8.out.1 (Nat.le_of_lt Hr8.out.lt))))
    have Hn9:=Lib.hid (Hn8.out.below hb Hn8.out.lt)
    clear hb Hs2 Hr8 qz Hn8 hn2
    obtain⟨bF,oF,rfl,hcF⟩:=Gx (F4.out.keeps HK9.out (by decide)) (i:=j2) (by rw[L2.out];omega)
    obtain⟨bG,oG,hAG,hcG⟩:=Gx (HGf.out.keeps HK9.out (by decide)) (i:=j2) (by unfold I8;rw[List.length_map,List.length_range,L2.out];omega)
    injection hAG with hAG;injection hAG with e1 e2 e3;subst e1 e2
    rw[MK far j2 (by rw[L2.out];omega)]at hcG
    have hcd:=Kn far j2 C2.out
    have hsz:=C2.out.bits (i:=j2)
    have VR:Hid (ES far j2=hi (far.getD j2 0) (codeOf far j2)):=Lib.hid rfl
    have h4:w9.cell? ⟨g4,0,none⟩=some (.pointer (some ⟨p,0,none⟩)):=by rw[(HK9.out.blk Pw.out (by decide)).cell];rfl
    generalize codeOf far j2=cd at *
    generalize far.getD j2 0=sz at *
    simp only[Nat.zero_add]at hcG
    have AMj:j2 < m:=by omega
    have AMk:(j2:Int) < (m:Int):=by omega
    go_wp2_with fail
    go_still_tail 9,(by kernel_rfl)
    change wpList _ _ _ _ _ w9.drew
    have AFy:Hid (CZ w9.drew base p rr2):=Hr9
    have AFz:=Lib.hid (HK9.out.drew)
    have AF0:Hid (AV w9.drew gt 244 #[.int .u8 (q:Int),.int .i64 (s':Int),.int .i64 (f':Int)]):=Hn9
    clear Hr9 HK9 Hn9 hcF hcG h4
    generalize w9.drew=M7 at *
    have HP:=Lib.hid (SH base p cd sz rr2 M7 AFy.out (by omega) (by omega) (by omega))
    rw[←VR.out]at HP
    obtain⟨rr3,AC9⟩:∃ z,z=rr2++ES far j2:=⟨_,rfl⟩
    have AMl:rr3.length≤100200300:=by rw[AC9,List.length_append];omega
    rw[←AC9]at HP Htb
    clear AC9 VR hcf
    go_wp2_with fail
    refine (HP.out).mono ?_
    rintro e bW ⟨rfl,hrow,hkp⟩
    have AF1:=Lib.hid hrow
    have AAG:=Lib.hid (AFz.out.trans hkp)
    have AF2:=Lib.hid (hkp.blk AF0.out (by decide))
    clear hrow hkp HP AFy AFz AF0
    -- how far more
    obtain⟨b5,o5,rfl,hd0,hd1⟩:=iq (HFa.out.keeps AAG.out (by decide)) (i:=j2) (show j2 < 30 from hl2)
    have h4:bW.cell? ⟨g4,0,none⟩=some (.pointer (some ⟨p,0,none⟩)):=by rw[(AAG.out.blk Pw.out (by decide)).cell];rfl
    have hn2:bW.cell? ⟨gt,2,none⟩=some (.int .i64 (f':Int)):=by rw[AF2.out.cell];rfl
    generalize (Br.getD j2 (0,0)).1=iw at *
    generalize (Br.getD j2 (0,0)).2=bi2 at *
    obtain⟨d2,AF3⟩:∃ d,d=f' - iw:=⟨_,rfl⟩
    have hsub2:IntKind.i64.wrap ((f':Int) - (iw:Int))=(d2:Int):=by rw[show (f':Int) - (iw:Int)=(d2:Int) by omega];exact IntWalk.i64_in _ (by omega)
    have AMm:d2≤3000:=by omega
    rw[←AF3]at Htb
    have AMn:(j2:Int) < 30:=by omega
    clear AF3 AJr
    go_wp2_with fail
    go_still_tail 14,(by kernel_rfl)
    change wpList _ _ _ _ _ bW.drew
    have AF4:Hid (CZ bW.drew base p rr3):=AF1
    have AF5:=Lib.hid (AAG.out.drew)
    clear AF1 AAG AF2 hd0 hd1 h4 hn2
    generalize bW.drew=rz at *
    have HP:=Lib.hid (CW base p d2 bi2 rr3 rz AF4.out (by omega) (by omega) (by omega))
    rw[←Htb.out]at HP
    go_wp2_with fail
    refine (HP.out).mono ?_
    rintro e w13 ⟨rfl,hrow,hkp⟩
    have AJs:=Lib.hid hrow
    have AJt:=Lib.hid (AF5.out.trans hkp)
    clear hrow hkp HP AF4 AF5 hsub2
    go_wp2_with fail
    go_roundw
    case rel=>exact⟨k+1,by omega,by go_num,by rw[Rb.out,←List.append_assoc,Hr0.out];exact AJs.out,AJt.out⟩
    case measure=>simp[intOf];omega
  ·obtain rfl:mt=k:=by omega
   have dD:Hid (l.take mt=l):=Lib.hid (List.take_of_length_le (by rw[LT.out];exact Nat.le_refl _))
   rw[dD.out]at Cj hrl2
   have HP:=Lib.hid (SG base p g4 g8 g6 n n ca 256 _ _ lit _ wr Cj.out (by rw[J3.out.cell];rfl) (by rw[MH.out.cell];rfl) (by rw[VS.out.cell];rfl)
     (HGl.out.keeps NS.out (by decide)) (cu.out.keeps NS.out (by decide)) L1.out hn (by omega) C1.out (by omega))
   go_wp2_with fail
   refine (HP.out).mono ?_
   rintro e w6 ⟨rfl,hrow,hkp⟩
   have ry:=Lib.hid hrow
   have Lf:=Lib.hid (J5.out.trans (NS.out.trans hkp))
   clear hrow hkp HP Cj NS
   go_wp2_with fail
   go_end0
   exact⟨rfl,by have:=ry.out;rw[List.append_assoc]at this;exact this,Lf.out⟩
end Go.Proofs.YtabdianhoabhhaaGreatDoor.AV
