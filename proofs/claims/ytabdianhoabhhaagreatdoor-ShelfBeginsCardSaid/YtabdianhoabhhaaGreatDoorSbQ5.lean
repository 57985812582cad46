/- texts joined: InfBody InfLen InfOrd BlkHead RtBlock BlkBody. -/
import Derived.Test.YtabdianhoabhhaaGreatDoorSbQ4
import Derived.StillTailTactics
import Derived.Laws.Tables
import Derived.Laws.Rows
open List renaming getElem_toArray→l0A,getElem_cons_zero→l0B,getElem_cons_succ→l0C,setIfInBounds_toArray→l0D,set_cons_zero→l0E,set_cons_succ→l0F
namespace Go.Proofs.YtabdianhoabhhaaGreatDoor.Inf
open Go Go.RowKit Go.Proofs.YtabdianhoabhhaaGreatDoor Go.Proofs.YtabdianhoabhhaaGreatDoor.Bits Go.Proofs.YtabdianhoabhhaaGreatDoor.Code
set_option linter.unusedVariables false
set_option linter.unusedSimpArgs false
def posOf (q:Nat) (w:World):Nat:=match w.cell? ⟨q,1,none⟩ with
 | some (.int _ p)=>p.toNat
 | _=>0
theorem KJ {w:World} {q n c pos:Nat} {A:Option Addr} (h:EB w q A n c pos):posOf q w=pos:=by
 unfold posOf
 rw[show w.cell? ⟨q,1,none⟩=some (.int .i64 (pos:Int)) by rw[AX.cell h];rfl]
 simp
theorem AAU (ls:List Nat) (row:List Bool):∀ (k n i m:Nat),1≤n→P7 ls row k n=(i,m,0)→n≤m∧m≤row.length:=fun k n i m hn h=>by
 have:=TH ls row row.length (Nat.le_refl _) k n i m hn h
 exact⟨this.1,this.2.1⟩
theorem Ic {row:List Bool} {ls:List Nat} {p:Nat} {a:Nat×Nat} (h:IP row ls p=.ok a) (hp:p≤row.length):p < a.2∧a.2≤row.length:=by
 unfold IP at h
 split at h
 ·rename_i hz
  injection h with h
  obtain⟨i,m,z,hn⟩:∃ i m z,next ls (row.drop p)=(i,m,z):=⟨_,_,_,rfl⟩
  rw[hn]at h hz
  dsimp only at h hz
  subst hz h
  have:=AAU ls (row.drop p) 15 1 i m (Nat.le_refl _) hn
  rw[List.length_drop]at this
  dsimp only
  omega
 ·cases h
theorem Nv {row:List Bool} {ls:List Nat} {p:Nat} {a:Nat×Nat} (h:IP row ls p=.ok a):a.1 < ls.length:=by
 unfold IP at h
 split at h
 ·rename_i hz
  injection h with h
  subst h
  dsimp only
  unfold next at hz⊢
  have key:∀ (k n:Nat),(P7 ls (row.drop p) k n).2.2=0→(P7 ls (row.drop p) k n).1 < ls.length:=by
   intro k
   induction k with
   | zero=>intro n h;simp[P7]at h
   | succ k ih=>
    intro n h
    by_cases h1:(row.drop p).length < n
    ·rw[KD _ _ _ _ h1]at h
     simp at h
    ·cases hf:JA ls n (val ((row.drop p).take n)) with
     | some j=>
      rw[M7 ls _ k n j (by omega) hf]
      exact (lN ls n _ j hf).1
     | none=>
      rw[KC ls _ k n (by omega) hf]at h⊢
      exact ih (n+1) h
  exact key 15 1 hz
 ·cases h
structure Jo (w:World) (base p:Nat) (ls:List Nat):Prop where
 tab:TabAt w base p ls
 le:∀ x∈ls,x≤15
 room:room ls≤32768
 len:ls.length≤288
theorem Jo.keeps {w w':World} {base p:Nat} {ls:List Nat} (h:Jo w base p ls) (hk:AB base JB w w'):Jo w' base p ls:=by
 obtain⟨⟨h1,v,h2,h3⟩,h4,h5,h6⟩:=h
 exact⟨⟨h1,v,hk.blk h2 (by decide),hk.own h3 (by decide)⟩,h4,h5,h6⟩
theorem uS {w:World} {A:Option Addr} {l:List (Nat×Nat)} (h:AR w A (l.flatMap OY)) {k:Nat} (hk:k < l.length):∃ b o,A=some ⟨b,o,none⟩∧w.cell? ⟨b,o+k*2,none⟩=some (.int .i64 (l[k].1:Int))∧w.cell? ⟨b,o+k*2+1,none⟩=some (.int .i64 (l[k].2:Int)):=by
 have e:l.flatMap OY=(l.take k).flatMap OY++(OY l[k]++(l.drop (k+1)).flatMap OY):=by
  rw[←List.flatMap_cons,←List.flatMap_append,←List.drop_eq_getElem_cons hk,List.take_append_drop]
 have hl:((l.take k).flatMap OY).length=k*2:=by rw[iQ,List.length_take];omega
 obtain⟨b,o,ea,hc⟩:=h (by rw[iQ];omega)
 refine⟨b,o,ea,hc (k*2) _ ?_,hc (k*2+1) _ ?_⟩
 ·rw[e,List.getElem?_append_right (by omega),hl,Nat.sub_self]
  rfl
 ·rw[e,List.getElem?_append_right (by omega),hl,show k*2+1 - k*2=1 by omega]
  rfl
theorem AGS (k:Nat) (h:k < 256):Eh (UInt8.ofNat k)=.int .u8 (k:Int):=by
 unfold Eh n8
 have:(UInt8.ofNat k).toNat=k:=by show k % 2 ^ 8=k;omega
 rw[this]
theorem uT:∀ k < 29,(BG.getD k (0,0)).1≤258∧(BG.getD k (0,0)).2≤5:=by decide
theorem AAV:∀ k < 30,(1≤(Bp.getD k (0,0)).1∧(Bp.getD k (0,0)).1≤24577)∧(Bp.getD k (0,0)).2≤13:=by decide
theorem jE {w:World} {base n c:Nat} {A:Option Addr} {l:List (Nat×Nat)} (h:w.ownsRow base 259 2 (.slice A n c) n (l.flatMap OY)) {k:Nat} (hk:k < l.length):∃ b o,A=some ⟨b,o,none⟩∧w.cell? ⟨b,o+k*2,none⟩=some (.int .i64 ((l.getD k (0,0)).1:Int))∧w.cell? ⟨b,o+k*2+1,none⟩=some (.int .i64 ((l.getD k (0,0)).2:Int)):=by
 have hg:l.getD k (0,0)=l[k]:=by rw[List.getD_eq_getElem?_getD,List.getElem?_eq_getElem hk];rfl
 rw[hg]
 obtain⟨A',c',e,_,_,h3,_⟩:=Ag h
 injection e with e1 e2 e3
 subst e1
 exact uS h3 hk
structure Bd (w0:World) (base:Nat) (A:Option Addr) (n:Nat) (xs:List UInt8) (tl tf:Nat) (lit far:List Nat) (As:Option Addr) (cs:Nat) (Af:Option Addr) (cf:Nat) (w:World):Prop where
 keep:AB base JB w0 w
 inp:FE w base A n xs
 tbl:Jo w base tl lit
 tbf:Jo w base tf far
 so:w.ownsRow base 259 2 (.slice As 29 cs) 29 (BG.flatMap OY)
 fo:w.ownsRow base 259 2 (.slice Af 30 cf) 30 (Bp.flatMap OY)
theorem Bd.keeps {w0 w w':World} {base:Nat} {A:Option Addr} {n:Nat} {xs:List UInt8} {tl tf:Nat} {lit far:List Nat} {As Af:Option Addr} {cs cf:Nat} (h:Bd w0 base A n xs tl tf lit far As cs Af cf w) (hk:AB base JB w w'):Bd w0 base A n xs tl tf lit far As cs Af cf w':=
 ⟨h.keep.trans hk,h.inp.keeps hk,h.tbl.keeps hk,h.tbf.keeps hk,hk.own h.so (by decide),hk.own h.fo (by decide)⟩
theorem Bh {row:List Bool} {p n:Nat} {a:Nat×Nat} (h:CF row p n=.ok a):a.2=p+n∧p+n≤row.length:=by
 unfold CF at h
 split at h
 ·injection h with h
  subst h
  exact⟨rfl,by assumption⟩
 ·cases h
theorem mH {o o2:List UInt8} {x:UInt8} (h:Ef o x=.ok o2):o2.length=o.length+1:=by
 unfold Ef at h
 split at h
 ·cases h
 ·injection h with h
  subst h
  simp
theorem EP.AGT {w:World} {base g q:Nat} {A:Option Addr} {n c pos:Nat} {out:List UInt8} {ks:List Nat} (h:EP w base g q A n c pos out ks):∃ Ao ol co,ol=out.length∧w.cell? ⟨g,1,none⟩=some (.slice Ao ol co)∧ol≤3000∧AR w Ao (out.map Eh):=by
 obtain⟨hg,hq,hp,Jn,⟨vo,vk,hb,ho,hk⟩,hsrc⟩:=h
 obtain⟨Ao,co,rfl,_,_,h3,_⟩:=Ag ho
 exact⟨Ao,_,co,rfl,by rw[hb.cell];rfl,Jn,h3⟩
theorem EP.AJt {w:World} {base g q:Nat} {A:Option Addr} {n c pos:Nat} {out:List UInt8} {ks:List Nat} (h:EP w base g q A n c pos out ks) (h0:0 < out.length):∃ b o ol co,ol=out.length∧w.cell? ⟨g,1,none⟩=some (.slice (some ⟨b,o,none⟩) ol co)∧∀ i,i < ol→w.cell? ⟨b,o+i,none⟩=some (Eh (out.getD i 0)):=by
 obtain⟨Ao,ol,co,e,h1,_,h3⟩:=h.AGT
 obtain⟨b,o,rfl,hc⟩:=h3 (by rw[List.length_map];exact h0)
 refine⟨b,o,ol,co,e,h1,fun i hi=>hc i _ ?_⟩
 rw[List.getElem?_map,List.getD_eq_getElem?_getD,List.getElem?_eq_getElem (by omega)]
 rfl
set_option maxRecDepth 100000 in
set_option maxHeartbeats 8000000 in
theorem uQ (base g q tl tf:Nat) (A:Option Addr) (n c pos:Nat) (xs:List UInt8) (out:List UInt8) (ks lit far:List Nat) (w:World) (h:EP w base g q A n c pos out ks) (hi:FE w base A n xs) (hl:Jo w base tl lit) (hf:Jo w base tf far) (hn:n≤1000000) :
  Calls Tryz.prog 162 #[.pointer (some ⟨g,0,none⟩),.pointer (some ⟨tl,0,none⟩),.pointer (some ⟨tf,0,none⟩)] w fun e w'=>
   Eo (Ev (AO xs) lit far ((AO xs).length+1) pos out) (fun a e w'=>e=.returned (.tuple #[])∧EP w' base g q A n c a.1 a.2 ks) e w'∧AB base JB w w':=by
 obtain⟨R,hR⟩:∃ R,R=Ev (AO xs) lit far ((AO xs).length+1) pos out:=⟨_,rfl⟩
 have hrow:(AO xs).length=8*n:=by rw[BV,hi.len]
 have G6:=Lib.hid hrow
 rw[←hR]
 rw[hrow]at hR
 have HU:=Lib.hid hR
 have H:=Lib.hid h
 have HI:=Lib.hid hi
 have HL:=Lib.hid hl
 have HFr:=Lib.hid hf
 have HS:=Lib.hid (Pp w)
 have hp:=h.zT
 have hbw:=h.bw
 clear h hi hl hf hR hrow
 go_enter Tryz.func162,Tryz.ntmps162
 go_wp2_with fail
 refine (HS.out).mono ?_
 rintro e w2 ⟨As,cs,rfl,hs,hb2⟩
 have HFa:=Lib.hid (SE w2)
 have HSo:=Lib.hid hs
 have Hb2:=Lib.hid hb2
 clear hs hb2 HS
 go_wp2_with fail
 refine (HFa.out).mono ?_
 rintro e w3 ⟨Af,cf,rfl,hfo,hb3⟩
 have HSo:=Lib.hid (Ai (AP HSo.out hb3) hbw)
 have HFo:=Lib.hid (Ai hfo (Nat.le_trans hbw Hb2.out.size))
 have Hb3:=Lib.hid (Hb2.out.trans (hb3.mono Hb2.out.size))
 have NR:Hid (AB base JB w w3):=Lib.hid (AB.of_below Hb3.out hbw)
 have H3:=Lib.hid (H.out.below Hb3.out)
 have HI3:=Lib.hid (HI.out.keeps NR.out)
 have HL3:=Lib.hid (HL.out.keeps NR.out)
 have mI:=Lib.hid (HFr.out.keeps NR.out)
 clear hfo hb3 HFa H HI HL HFr Hb2 Hb3
 go_wp2_with fail
 go_loopw [] (fun wr=>∃ (f p:Nat) (o:List UInt8),8*n+1≤p+f∧R=Ev (AO xs) lit far f p o∧EP wr base g q A n c p o ks∧AB base JB w wr∧FE wr base A n xs∧Jo wr base tl lit∧Jo wr base tf far∧wr.ownsRow base 259 2 (.slice As 29 cs) 29 (BG.flatMap OY)∧wr.ownsRow base 259 2 (.slice Af 30 cf) 30 (Bp.flatMap OY)) (fun wr=>8*n - posOf q wr)
 case atStart=>exact⟨8*n+1,pos,out,by omega,HU.out,H3.out,NR.out,HI3.out,HL3.out,mI.out,HSo.out,HFo.out⟩
 case round=>
  obtain⟨f,p,o,hpf,hR,hrd,hk,hin,hlt,hft,hso,hfo⟩:=hrel
  have ZC:=hrd.zT
  obtain⟨f,rfl⟩:∃ f',f=f'+1:=⟨f - 1,by omega⟩
  have HU:=Lib.hid (show R=(CP (AO xs) lit far p o).Ad fun x=>if x.1=true then .ok x.2 else Ev (AO xs) lit far f x.2.1 x.2.2 from hR)
  have AAW:Hid (posOf q wr=p):=Lib.hid (KJ hrd.src)
  have HK:=Lib.hid hk
  have HL:=Lib.hid hlt
  have HF:=Lib.hid hft
  have HSo:=Lib.hid hso
  have HFo:=Lib.hid hfo
  have HG:=Lib.hid (ACF base g q tl A n c p xs o ks lit wr hrd hin hlt.tab hlt.le hlt.room hlt.len)
  have HIn:=Lib.hid hin
  clear hR hrd hk hin hlt hft hso hfo H3 NR HI3 HL3 mI
  go_wp2_with fail
  refine (HG.out).mono ?_
  rintro e w4 ⟨hr4,hk4⟩
  have J2:=Lib.hid (HK.out.trans hk4)
  have HI4:=Lib.hid (HIn.out.keeps hk4)
  have HL4:=Lib.hid (HL.out.keeps hk4)
  have HF4:=Lib.hid (HF.out.keeps hk4)
  have AAX:=Lib.hid (hk4.own HSo.out (by decide))
  have ADY:=Lib.hid (hk4.own HFo.out (by decide))
  cases hg4:IP (AO xs) lit p with
  | bad z=>
   have he:=BJ hr4 hg4
   subst he
   have HU:=Lib.hid (show R=.bad z by rw[HU.out];unfold CP;rw[hg4];rfl)
   clear hr4 hk4 hg4
   unfold Bn
   go_wp2_with fail
   exact⟨rfl,Aj HU.out,J2.out⟩
  | ok a=>
   obtain⟨he,Y9⟩:=BO hr4 hg4
   subst he
   have Rj:=Ic hg4 (by rw[G6.out];exact ZC)
   rw[G6.out]at Rj
   have hpl:=Nv hg4
   have ALr:=HL.out.len
   have Cw:=Lib.hid (show CP (AO xs) lit far p o=_ by unfold CP;rw[hg4,then_ok])
   have H4:=Lib.hid Y9
   obtain⟨k,p4⟩:=a
   dsimp only at Rj hpl Cw H4⊢
   clear hr4 hk4 hg4 Y9 HG HIn HL HF HSo HFo
   rcases (by omega:k < 256∨k=256∨256 < k) with hc | hc | hc
   ·have HP:=Lib.hid (uU base g q A n c p4 (UInt8.ofNat k) o ks w4 H4.out)
    rw[AGS k hc]at HP
    have Cw:=Lib.hid (show CP (AO xs) lit far p o=(Ef o (UInt8.ofNat k)).Ad fun o=>.ok (false,p4,o) by rw[Cw.out,if_pos hc])
    have hc':(k:Int) < 256:=by omega
    have hc8:k < 2 ^ 8:=hc
    clear hc
    go_wp2_with fail
    refine (HP.out).mono ?_
    rintro e w5 ⟨qW,hk5⟩
    have L6:=Lib.hid (J2.out.trans hk5)
    have HI5:=Lib.hid (HI4.out.keeps hk5)
    have HL5:=Lib.hid (HL4.out.keeps hk5)
    have HF5:=Lib.hid (HF4.out.keeps hk5)
    have AJu:=Lib.hid (hk5.own AAX.out (by decide))
    have AJv:=Lib.hid (hk5.own ADY.out (by decide))
    cases hg5:Ef o (UInt8.ofNat k) with
    | bad z=>
     have he:=BJ qW hg5
     subst he
     have HU:=Lib.hid (show R=.bad z by rw[HU.out,Cw.out,hg5];rfl)
     clear qW hk5 hg5
     unfold Bn
     go_wp2_with fail
     exact⟨rfl,Aj HU.out,L6.out⟩
    | ok o2=>
     obtain⟨he,uV⟩:=BO qW hg5
     subst he
     have HU:=Lib.hid (show R=Ev (AO xs) lit far f p4 o2 by rw[HU.out,Cw.out,hg5];rfl)
     have H5:=Lib.hid uV
     clear qW hk5 hg5 uV HP
     go_wp2_with fail
     go_roundw
     case rel=>exact⟨f,p4,o2,by omega,HU.out,H5.out,L6.out,HI5.out,HL5.out,HF5.out,AJu.out,AJv.out⟩
     case measure=>
      rw[AAW.out,KJ H5.out.src]
      omega
   ·have HU:=Lib.hid (show R=.ok (p4,o) by rw[HU.out,Cw.out,if_neg (by omega),if_pos hc];rfl)
    subst hc
    go_wp2_with fail
    refine bodyPost_ret (results_none rfl _ _ _) rfl ?_
    exact⟨FX HU.out ⟨rfl,H4.out⟩,J2.out⟩
   ·obtain⟨j,rfl⟩:∃ j,k=j+257:=⟨k - 257,by omega⟩
    have hc1:¬ ((j+257:Nat):Int) < 256:=by omega
    have hc2:(((j+257:Nat):Int) == 256)=false:=by rw[beq_eq_false_iff_ne];omega
    have hc3:((j+257:Nat):Int) - 257=(j:Int):=by omega
    have hw3:IntKind.i64.wrap (j:Int)=(j:Int):=IntWalk.i64_in _ (by omega)
    by_cases h29:29≤j
    ·have HU:=Lib.hid (show R=.bad 8 by rw[HU.out,Cw.out,if_neg (by omega),if_neg (by omega),if_pos (by omega)];rfl)
     have AMR:(29:Int)≤(j:Int):=by omega
     clear hc
     go_wp2_with fail
     refine (DZ 8 _).mono ?_
     rintro e w5 ⟨rfl,rfl⟩
     unfold Bn
     go_wp2_with fail
     exact⟨rfl,Aj HU.out,J2.out⟩
    ·obtain⟨bs,os,hAs,hc0,hc1⟩:=jE AAX.out (k:=j) (by show j < 29;omega)
     have hSS:Hid (∀ W:World,W.ownsRow base 259 2 (.slice As 29 cs) 29 (BG.flatMap OY)→W.cell? ⟨bs,os+j*2,none⟩=some (.int .i64 ((BG.getD j (0,0)).1:Int))∧W.cell? ⟨bs,os+j*2+1,none⟩=some (.int .i64 ((BG.getD j (0,0)).2:Int))):=Lib.hid (fun (W:World) hW=>by
      obtain⟨b',o',e,h1,h2⟩:=jE hW (k:=j) (by show j < 29;omega)
      rw[hAs]at e
      injection e with e
      injection e with e1 e2
      subst e1 e2
      exact⟨h1,h2⟩)
     obtain⟨hfr,hbt⟩:=uT j (by omega)
     have Cw:=Lib.hid (show CP (AO xs) lit far p o=(CF (AO xs) p4 (BG.getD j (0,0)).2).Ad fun x=>(IP (AO xs) far x.2).Ad fun f=>
        if 30≤f.1 then .bad 8
        else (CF (AO xs) f.2 (Bp.getD f.1 (0,0)).2).Ad fun y=>
         if o.length < (Bp.getD f.1 (0,0)).1+y.1 then .bad 9
         else (JD ((Bp.getD f.1 (0,0)).1+y.1) ((BG.getD j (0,0)).1+x.1) o).Ad fun o=>.ok (false,y.2,o) by
      rw[Cw.out,if_neg (by omega),if_neg (by omega),if_neg (by omega),show j+257 - 257=j by omega])
     generalize BG.getD j (0,0)=ex at *
     obtain⟨fr,bt⟩:=ex
     dsimp only at hc0 hc1 hfr hbt hSS Cw
     subst hAs
     have HG:=Lib.hid (fun W (hr:EP W base g q A n c p4 o ks) (hi:FE W base A n xs)=>TD base g q A n c p4 bt xs o ks W hr hi (by omega))
     have hj0:(0:Int)≤(j:Int):=by omega
     have AMS:(j:Int) < 29:=by omega
     have AMT:¬ (29:Int)≤(j:Int):=by omega
     have E9:=Lib.hid (show Bd w base A n xs tl tf lit far (some ⟨bs,os,none⟩) cs Af cf w4 from⟨J2.out,HI4.out,HL4.out,HF4.out,AAX.out,ADY.out⟩)
     have uP:base≤w4.heap.size:=H4.out.bw
     clear hc h29 J2 HI4 HL4 HF4 AAX ADY
     go_wp2_with fail
     refine Bu (fun W=>W.cell? ⟨bs,os+j*2,none⟩=some (.int .i64 (fr:Int))∧W.cell? ⟨bs,os+j*2+1,none⟩=some (.int .i64 (bt:Int))) 13 (by kernel_rfl) ?_
     obtain⟨w5,hw5⟩:∃ w5,w5=w4.drew:=⟨_,rfl⟩
     have hb5:Below w4.heap.size w4 w5:=by rw[hw5];exact (Below.refl _ _).drew
     have H5:=Lib.hid (H4.out.below hb5)
     have II:=Lib.hid (E9.out.keeps (AB.of_below hb5 uP))
     rw[←hw5]
     have hHeld:=hSS.out w5 II.out.so
     clear hw5 hb5 hc0 hc1
     refine BN (i:=0) (v:=?va0) (by kernel_rfl) rfl (by kernel_rfl) (by kernel_rfl) (by kernel_rfl) (fun _ _ _ h=>h) (by rfl) (by assumption) ?Kr ?Kt
     case Kr=>(intro W hSW;(try dsimp only at hSW);go_simp;try with_reducible rfl)
     (try simp only[Act.put,l0A,l0B,l0C,l0D,l0E,l0F])
     refine BN (i:=1) (v:=?zU) (by kernel_rfl) rfl (by kernel_rfl) (by kernel_rfl) (by kernel_rfl) (fun _ _ _ h=>h) (by rfl) (by assumption) ?Jp ?Jq
     case Jp=>(intro W hSW;(try dsimp only at hSW);go_simp;try with_reducible rfl)
     (try simp only[Act.put,l0A,l0B,l0C,l0D,l0E,l0F])
     refine BN (i:=2) (v:=?va2) (by kernel_rfl) rfl (by kernel_rfl) (by kernel_rfl) (by kernel_rfl) (fun _ _ _ h=>h) (by rfl) (by assumption) ?QG ?QH
     case QG=>(intro W hSW;(try dsimp only at hSW);go_simp;try with_reducible rfl)
     (try simp only[Act.put,l0A,l0B,l0C,l0D,l0E,l0F])
     refine BN (i:=3) (v:=?va3) (by kernel_rfl) rfl (by kernel_rfl) (by kernel_rfl) (by kernel_rfl) (fun _ _ _ h=>h) (by rfl) (by assumption) ?MR ?MS
     case MR=>(intro W hSW;(try dsimp only at hSW);go_simp;try with_reducible rfl)
     (try simp only[Act.put,l0A,l0B,l0C,l0D,l0E,l0F])
     refine BN (i:=4) (v:=?va4) (by kernel_rfl) rfl (by kernel_rfl) (by kernel_rfl) (by kernel_rfl) (fun _ _ _ h=>h) (by rfl) (by assumption) ?MU ?MV
     case MU=>(intro W hSW;(try dsimp only at hSW);go_simp;try with_reducible rfl)
     (try simp only[Act.put,l0A,l0B,l0C,l0D,l0E,l0F])
     refine BN (i:=5) (v:=?va5) (by kernel_rfl) rfl (by kernel_rfl) (by kernel_rfl) (by kernel_rfl) (fun _ _ _ h=>h) (by rfl) (by assumption) ?MW ?MX
     case MW=>(intro W hSW;(try dsimp only at hSW);go_simp;try with_reducible rfl)
     (try simp only[Act.put,l0A,l0B,l0C,l0D,l0E,l0F])
     refine BN (i:=6) (v:=?va6) (by kernel_rfl) rfl (by kernel_rfl) (by kernel_rfl) (by kernel_rfl) (fun _ _ _ h=>h) (by rfl) (by assumption) ?XP ?XQ
     case XP=>(intro W hSW;(try dsimp only at hSW);go_simp;try with_reducible rfl)
     (try simp only[Act.put,l0A,l0B,l0C,l0D,l0E,l0F])
     refine BN (i:=7) (v:=?va7) (by kernel_rfl) rfl (by kernel_rfl) (by kernel_rfl) (by kernel_rfl) (fun _ _ _ h=>h) (by rfl) (by assumption) ?XT ?XU
     case XT=>(intro W hSW;(try dsimp only at hSW);go_simp;try with_reducible rfl)
     (try simp only[Act.put,l0A,l0B,l0C,l0D,l0E,l0F])
     refine BN (i:=8) (v:=?va8) (by kernel_rfl) rfl (by kernel_rfl) (by kernel_rfl) (by kernel_rfl) (fun _ _ _ h=>h) (by rfl) (by assumption) ?ADZ ?ADa
     case ADZ=>(intro W hSW;(try dsimp only at hSW);go_simp;try with_reducible rfl)
     (try simp only[Act.put,l0A,l0B,l0C,l0D,l0E,l0F])
     refine BN (i:=9) (v:=?va9) (by kernel_rfl) rfl (by kernel_rfl) (by kernel_rfl) (by kernel_rfl) (fun _ _ _ h=>h) (by rfl) (by assumption) ?dM ?dN
     case dM=>(intro W hSW;(try dsimp only at hSW);go_simp;try with_reducible rfl)
     (try simp only[Act.put,l0A,l0B,l0C,l0D,l0E,l0F])
     refine BN (i:=10) (v:=?ADb) (by kernel_rfl) rfl (by kernel_rfl) (by kernel_rfl) (by kernel_rfl) (fun _ _ _ h=>h) (by rfl) (by assumption) ?TI ?XV
     case TI=>(intro W hSW;(try dsimp only at hSW);go_simp;try with_reducible rfl)
     (try simp only[Act.put,l0A,l0B,l0C,l0D,l0E,l0F])
     refine AL (i:=11) rfl (by kernel_rfl) (fun K hK=>?_)
     go_simp
     clear hHeld
     go_at_call 160
     refine (HG.out w5 H5.out II.out.inp).mono ?_
     rintro e w6 ⟨QI,Iu⟩
     have OZ:=Lib.hid (II.out.keeps Iu)
     cases IJ:CF (AO xs) p4 bt with
     | bad z=>
      have he:=BJ QI IJ
      subst he
      have HU:=Lib.hid (show R=.bad z by rw[HU.out,Cw.out,IJ];rfl)
      clear QI Iu IJ
      unfold Bn
      go_wp2_with fail
      exact⟨rfl,Aj HU.out,OZ.out.keep⟩
     | ok a=>
      obtain⟨he,uW⟩:=BO QI IJ
      subst he
      have hx:=Ep IJ
      have hq6:=Bh IJ
      replace Cw:=Lib.hid (Cw.out.trans (by rw[IJ,then_ok]))
      have H6:=Lib.hid uW
      obtain⟨x,p6⟩:=a
      dsimp only at hx hq6 Cw H6⊢
      have hx32:x < 32:=Nat.lt_of_lt_of_le hx (Nat.le_trans (Nat.pow_le_pow_right (by omega) hbt) (by decide))
      have hwx:IntKind.i64.wrap ((fr:Int)+(x:Int))=((fr+x:Nat):Int):=by rw[show (fr:Int)+(x:Int)=((fr+x:Nat):Int) by omega];exact IntWalk.i64_in _ (by omega)
      have ALs:fr+x≤300:=by omega
      clear QI Iu IJ uW hx HG
      refine hK.out _ _ (hSS.out w6 OZ.out.so) (fun hHeld=>?_)
      clear hK K
      (try simp only[Act.put,l0A,l0B,l0C,l0D,l0E,l0F])
      refine AL (i:=12) rfl (by kernel_rfl) (fun K hK=>?_)
      go_simp
      rw[show (fr:Int)+(x:Int)=((fr+x:Nat):Int) by omega]
      refine hK.out _ _ (hSS.out w6 OZ.out.so) (fun hHeld=>?_)
      clear hK K hHeld
      (try simp only[Act.put,l0A,l0B,l0C,l0D,l0E,l0F])
      generalize hmm:fr+x=m at *
      refine BM rfl (by kernel_rfl) (by kernel_rfl) (fun K hK=>?_)
      go_simp
      refine hK.out _ _ ?_
      clear hK K
      have HY:=Lib.hid (ACF base g q tf A n c p6 xs o ks far w6 H6.out OZ.out.inp OZ.out.tbf.tab OZ.out.tbf.le OZ.out.tbf.room OZ.out.tbf.len)
      have ALt:=OZ.out.tbf.len
      have AGU:=H6.out.zT
      go_wp2_with fail
      refine (HY.out).mono ?_
      rintro e w7 ⟨Je,O1⟩
      have ZE:=Lib.hid (OZ.out.keeps O1)
      cases Ee:IP (AO xs) far p6 with
      | bad z=>
       have he:=BJ Je Ee
       subst he
       have HU:=Lib.hid (show R=.bad z by rw[HU.out,Cw.out,Ee];rfl)
       clear Je O1 Ee
       unfold Bn
       go_wp2_with fail
       exact⟨rfl,Aj HU.out,ZE.out.keep⟩
      | ok a=>
       obtain⟨he,TG⟩:=BO Je Ee
       subst he
       have mJ:=Ic Ee (by rw[G6.out];exact AGU)
       rw[G6.out]at mJ
       have AJw:=Nv Ee
       replace Cw:=Lib.hid (Cw.out.trans (by rw[Ee,then_ok]))
       have H7:=Lib.hid TG
       obtain⟨j2,p7⟩:=a
       dsimp only at mJ AJw Cw H7⊢
       clear Je O1 Ee TG HY
       have AMU:(0:Int)≤(j2:Int):=by omega
       by_cases h30:30≤j2
       ·have HU:=Lib.hid (show R=.bad 8 by rw[HU.out,Cw.out,if_pos h30];rfl)
        have AMV:(30:Int)≤(j2:Int):=by omega
        go_wp2_with fail
        refine (DZ 8 _).mono ?_
        rintro e w8 ⟨rfl,rfl⟩
        unfold Bn
        go_wp2_with fail
        exact⟨rfl,Aj HU.out,ZE.out.keep⟩
       ·replace Cw:=Lib.hid (Cw.out.trans (if_neg h30))
        obtain⟨bf,of,hAf,_,_⟩:=jE ZE.out.fo (k:=j2) (by show j2 < 30;omega)
        have hSF:Hid (∀ W:World,W.ownsRow base 259 2 (.slice Af 30 cf) 30 (Bp.flatMap OY)→W.cell? ⟨bf,of+j2*2,none⟩=some (.int .i64 ((Bp.getD j2 (0,0)).1:Int))∧W.cell? ⟨bf,of+j2*2+1,none⟩=some (.int .i64 ((Bp.getD j2 (0,0)).2:Int))):=Lib.hid (fun (W:World) hW=>by
         obtain⟨b',o',e,h1,h2⟩:=jE hW (k:=j2) (by show j2 < 30;omega)
         rw[hAf]at e
         injection e with e
         injection e with e1 e2
         subst e1 e2
         exact⟨h1,h2⟩)
        obtain⟨hfr2,ADc⟩:=AAV j2 (by omega)
        generalize Bp.getD j2 (0,0)=ex at Cw hSF hfr2 ADc
        obtain⟨iO,bt2⟩:=ex
        dsimp only at hfr2 ADc hSF Cw
        subst hAf
        have HG:=Lib.hid (fun W (hr:EP W base g q A n c p7 o ks) (hi:FE W base A n xs)=>TD base g q A n c p7 bt2 xs o ks W hr hi (by omega))
        have ALu:(j2:Int) < 30:=by omega
        have AMW:¬ (30:Int)≤(j2:Int):=by omega
        have AJx:base≤w7.heap.size:=H7.out.bw
        clear h30
        go_wp2_with fail
        refine Bu (fun W=>W.cell? ⟨bf,of+j2*2,none⟩=some (.int .i64 (iO:Int))∧W.cell? ⟨bf,of+j2*2+1,none⟩=some (.int .i64 (bt2:Int))) 13 (by kernel_rfl) ?_
        obtain⟨w8,hw8⟩:∃ w8,w8=w7.drew:=⟨_,rfl⟩
        have LU:Below w7.heap.size w7 w8:=by rw[hw8];exact (Below.refl _ _).drew
        have H8:=Lib.hid (H7.out.below LU)
        have JC:=Lib.hid (ZE.out.keeps (AB.of_below LU AJx))
        rw[←hw8]
        have hHeld:=hSF.out w8 JC.out.fo
        clear hw8 LU
        refine BN (i:=0) (v:=?vb0) (by kernel_rfl) rfl (by kernel_rfl) (by kernel_rfl) (by kernel_rfl) (fun _ _ _ h=>h) (by rfl) (by assumption) ?ADd ?ADe
        case ADd=>(intro W hSW;(try dsimp only at hSW);go_simp;try with_reducible rfl)
        (try simp only[Act.put,l0A,l0B,l0C,l0D,l0E,l0F])
        refine BN (i:=1) (v:=?vb1) (by kernel_rfl) rfl (by kernel_rfl) (by kernel_rfl) (by kernel_rfl) (fun _ _ _ h=>h) (by rfl) (by assumption) ?ADf ?ADg
        case ADf=>(intro W hSW;(try dsimp only at hSW);go_simp;try with_reducible rfl)
        (try simp only[Act.put,l0A,l0B,l0C,l0D,l0E,l0F])
        refine BN (i:=2) (v:=?vb2) (by kernel_rfl) rfl (by kernel_rfl) (by kernel_rfl) (by kernel_rfl) (fun _ _ _ h=>h) (by rfl) (by assumption) ?ADh ?ADi
        case ADh=>(intro W hSW;(try dsimp only at hSW);go_simp;try with_reducible rfl)
        (try simp only[Act.put,l0A,l0B,l0C,l0D,l0E,l0F])
        refine BN (i:=3) (v:=?vb3) (by kernel_rfl) rfl (by kernel_rfl) (by kernel_rfl) (by kernel_rfl) (fun _ _ _ h=>h) (by rfl) (by assumption) ?ADj ?ADk
        case ADj=>(intro W hSW;(try dsimp only at hSW);go_simp;try with_reducible rfl)
        (try simp only[Act.put,l0A,l0B,l0C,l0D,l0E,l0F])
        refine BN (i:=4) (v:=?vb4) (by kernel_rfl) rfl (by kernel_rfl) (by kernel_rfl) (by kernel_rfl) (fun _ _ _ h=>h) (by rfl) (by assumption) ?ADl ?ADm
        case ADl=>(intro W hSW;(try dsimp only at hSW);go_simp;try with_reducible rfl)
        (try simp only[Act.put,l0A,l0B,l0C,l0D,l0E,l0F])
        refine BN (i:=5) (v:=?vb5) (by kernel_rfl) rfl (by kernel_rfl) (by kernel_rfl) (by kernel_rfl) (fun _ _ _ h=>h) (by rfl) (by assumption) ?ADn ?ADo
        case ADn=>(intro W hSW;(try dsimp only at hSW);go_simp;try with_reducible rfl)
        (try simp only[Act.put,l0A,l0B,l0C,l0D,l0E,l0F])
        refine BN (i:=6) (v:=?vb6) (by kernel_rfl) rfl (by kernel_rfl) (by kernel_rfl) (by kernel_rfl) (fun _ _ _ h=>h) (by rfl) (by assumption) ?ADp ?ADq
        case ADp=>(intro W hSW;(try dsimp only at hSW);go_simp;try with_reducible rfl)
        (try simp only[Act.put,l0A,l0B,l0C,l0D,l0E,l0F])
        refine BN (i:=7) (v:=?vb7) (by kernel_rfl) rfl (by kernel_rfl) (by kernel_rfl) (by kernel_rfl) (fun _ _ _ h=>h) (by rfl) (by assumption) ?ADr ?ADs
        case ADr=>(intro W hSW;(try dsimp only at hSW);go_simp;try with_reducible rfl)
        (try simp only[Act.put,l0A,l0B,l0C,l0D,l0E,l0F])
        refine BN (i:=8) (v:=?vb8) (by kernel_rfl) rfl (by kernel_rfl) (by kernel_rfl) (by kernel_rfl) (fun _ _ _ h=>h) (by rfl) (by assumption) ?ADt ?ADu
        case ADt=>(intro W hSW;(try dsimp only at hSW);go_simp;try with_reducible rfl)
        (try simp only[Act.put,l0A,l0B,l0C,l0D,l0E,l0F])
        refine BN (i:=9) (v:=?vb9) (by kernel_rfl) rfl (by kernel_rfl) (by kernel_rfl) (by kernel_rfl) (fun _ _ _ h=>h) (by rfl) (by assumption) ?uX ?uY
        case uX=>(intro W hSW;(try dsimp only at hSW);go_simp;try with_reducible rfl)
        (try simp only[Act.put,l0A,l0B,l0C,l0D,l0E,l0F])
        refine BN (i:=10) (v:=?AJy) (by kernel_rfl) rfl (by kernel_rfl) (by kernel_rfl) (by kernel_rfl) (fun _ _ _ h=>h) (by rfl) (by assumption) ?uZ ?AAY
        case uZ=>(intro W hSW;(try dsimp only at hSW);go_simp;try with_reducible rfl)
        (try simp only[Act.put,l0A,l0B,l0C,l0D,l0E,l0F])
        refine AL (i:=11) rfl (by kernel_rfl) (fun K hK=>?_)
        go_simp
        clear hHeld
        go_at_call 160
        refine (HG.out w8 H8.out JC.out.inp).mono ?_
        rintro e w9 ⟨hr9,hk9⟩
        have KZ:=Lib.hid (JC.out.keeps hk9)
        cases qX:CF (AO xs) p7 bt2 with
        | bad z=>
         have he:=BJ hr9 qX
         subst he
         have HU:=Lib.hid (show R=.bad z by rw[HU.out,Cw.out,qX];rfl)
         clear hr9 hk9 qX
         unfold Bn
         go_wp2_with fail
         exact⟨rfl,Aj HU.out,KZ.out.keep⟩
        | ok a=>
         obtain⟨he,AGV⟩:=BO hr9 qX
         subst he
         have hy:=Ep qX
         have hq9:=Bh qX
         replace Cw:=Lib.hid (Cw.out.trans (by rw[qX,then_ok]))
         have H9:=Lib.hid AGV
         obtain⟨y,p9⟩:=a
         dsimp only at hy hq9 Cw H9⊢
         have AMX:y < 8192:=Nat.lt_of_lt_of_le hy (Nat.le_trans (Nat.pow_le_pow_right (by omega) ADc) (by decide))
         have hwy:IntKind.i64.wrap ((iO:Int)+(y:Int))=((iO+y:Nat):Int):=by rw[show (iO:Int)+(y:Int)=((iO+y:Nat):Int) by omega];exact IntWalk.i64_in _ (by omega)
         have hd0:1≤iO+y:=by have:=hfr2.1;omega
         have hd1:iO+y≤40000:=by omega
         clear hr9 hk9 qX AGV hy HG
         refine hK.out _ _ (hSF.out w9 KZ.out.fo) (fun hHeld=>?_)
         clear hK K
         (try simp only[Act.put,l0A,l0B,l0C,l0D,l0E,l0F])
         refine AL (i:=12) rfl (by kernel_rfl) (fun K hK=>?_)
         go_simp
         rw[show (iO:Int)+(y:Int)=((iO+y:Nat):Int) by omega]
         refine hK.out _ _ (hSF.out w9 KZ.out.fo) (fun hHeld=>?_)
         clear hK K hHeld
         (try simp only[Act.put,l0A,l0B,l0C,l0D,l0E,l0F])
         generalize hdd:iO+y=d at *
         refine BM rfl (by kernel_rfl) (by kernel_rfl) (fun K hK=>?_)
         go_simp
         refine hK.out _ _ ?_
         clear hK K hSS hSF
         obtain⟨Ao,ol,co,hol,b1,ho3,_⟩:=H9.out.AGT
         have YJ:=Lib.hid hol
         by_cases hd:ol < d
         ·have HU:=Lib.hid (show R=.bad 9 by rw[HU.out,Cw.out,if_pos (by rw[←hol];exact hd)];rfl)
          have hd':(ol:Int) < (d:Int):=by omega
          clear hol
          go_wp2_with fail
          refine (DZ 9 _).mono ?_
          rintro e Le ⟨rfl,rfl⟩
          unfold Bn
          go_wp2_with fail
          exact⟨rfl,Aj HU.out,KZ.out.keep⟩
         ·have hst:CP (AO xs) lit far p o=(JD d m o).Ad fun o=>.ok (false,p9,o):=Cw.out.trans (if_neg (by rw[←hol];exact hd))
          have HU:=Lib.hid (show R=(JD d m o).Ad fun o=>Ev (AO xs) lit far f p9 o by rw[HU.out,hst];cases JD d m o <;> rfl)
          have hd':¬ (ol:Int) < (d:Int):=by omega
          have hdo:d≤o.length:=by rw[←hol];omega
          clear hol hst
          go_wp2_with fail
          go_loopw [77] (fun vi wr=>∃ (k r:Nat) (o':List UInt8),k+r=m∧vi=.int .i64 (k:Int)∧d≤o'.length∧R=(JD d r o').Ad (fun o=>Ev (AO xs) lit far f p9 o)∧EP wr base g q A n c p9 o' ks∧Bd w base A n xs tl tf lit far (some ⟨bs,os,none⟩) cs (some ⟨bf,of,none⟩) cf wr) (fun vi _=>m - (intOf vi).toNat)
          case atStart=>exact⟨0,m,o,by omega,rfl,hdo,HU.out,H9.out,KZ.out⟩
          case round=>
           obtain⟨k,r,o',hkr,rfl,AMY,hR,hrd,hbd⟩:=hrel
           have HU:=Lib.hid hR
           have HR:=Lib.hid hrd
           have HB:=Lib.hid hbd
           clear hR hrd hbd KZ H9 JC H8
           by_cases hlt:k < m
           ·obtain⟨r,rfl⟩:∃ r',r=r'+1:=⟨r - 1,by omega⟩
            obtain⟨b,oo,ol,co,hol,hb1,hsl⟩:=HR.out.AJt (by omega)
            have AJz:base≤wr.heap.size:=HR.out.bw
            have Jn:=HR.out.few
            obtain⟨ix,hix⟩:∃ ix,ix=ol - d:=⟨_,rfl⟩
            have hcx:=hsl ix (by omega)
            have HU:=Lib.hid (show R=(Ef o' (o'.getD ix 0)).Ad fun o=>(JD d r o).Ad (fun o=>Ev (AO xs) lit far f p9 o) by
             rw[HU.out,hix,hol]
             show ((Ef o' (o'.getD (o'.length - d) 0)).Ad fun o=>JD d r o).Ad _=_
             cases Ef o' (o'.getD (o'.length - d) 0) <;> rfl)
            have hwi:IntKind.i64.wrap ((ol:Int) - (d:Int))=(ix:Int):=by rw[show (ol:Int) - (d:Int)=(ix:Int) by omega];exact IntWalk.i64_in _ (by omega)
            have hki:IntKind.i64.wrap ((k:Int)+1)=((k+1:Nat):Int):=by rw[show (k:Int)+1=((k+1:Nat):Int) by omega];exact IntWalk.i64_in _ (by omega)
            have AJ0:(ix:Int) < (ol:Int):=by omega
            have AJ1:(0:Int)≤(ix:Int):=by omega
            have hlt':(k:Int) < (m:Int):=by omega
            generalize o'.getD ix 0=bx at *
            have HP:=Lib.hid (fun W (hr:EP W base g q A n c p9 o' ks)=>uU base g q A n c p9 bx o' ks W hr)
            clear hix hol hsl
            go_wp2_with fail
            go_still_tail 14,(by kernel_rfl)
            obtain⟨Le,dO⟩:∃ Le,Le=wr.drew:=⟨_,rfl⟩
            have MZ:Below wr.heap.size wr Le:=by rw[dO];exact (Below.refl _ _).drew
            have H10:=Lib.hid (HR.out.below MZ)
            have Ma:=Lib.hid (HB.out.keeps (AB.of_below MZ AJz))
            change wpList _ _ _ _ _ wr.drew
            rw[←dO]
            clear dO MZ hb1 hcx
            go_wp2_with fail
            refine (HP.out Le H10.out).mono ?_
            rintro e YW ⟨XW,ADv⟩
            have AGW:=Lib.hid (Ma.out.keeps ADv)
            cases dP:Ef o' bx with
            | bad z=>
             have he:=BJ XW dP
             subst he
             have HU:=Lib.hid (show R=.bad z by rw[HU.out,dP];rfl)
             clear XW ADv dP
             unfold Bn
             go_wp2_with fail
             exact⟨rfl,Aj HU.out,AGW.out.keep⟩
            | ok o2=>
             obtain⟨he,ACG⟩:=BO XW dP
             subst he
             have ho2:=mH dP
             have HU:=Lib.hid (show R=(JD d r o2).Ad (fun o=>Ev (AO xs) lit far f p9 o) by rw[HU.out,dP];rfl)
             have H11:=Lib.hid ACG
             clear XW ADv dP ACG HP
             go_wp2_with fail
             go_roundw
             case rel=>exact⟨k+1,r,o2,by omega,rfl,by omega,HU.out,H11.out,AGW.out⟩
             case measure=>
              show m - (k+1) < m - k
              omega
           ·have hlt':¬ (k:Int) < (m:Int):=by omega
            have HU:=Lib.hid (show R=Ev (AO xs) lit far f p9 o' by rw[HU.out,show r=0 by omega];rfl)
            go_wp2_with fail
            go_roundw
            case rel=>exact⟨f,p9,o',by omega,HU.out,HR.out,HB.out.keep,HB.out.inp,HB.out.tbl,HB.out.tbf,HB.out.so,HB.out.fo⟩
            case measure=>
             rw[AAW.out,KJ HR.out.src]
             omega
end Go.Proofs.YtabdianhoabhhaaGreatDoor.Inf
namespace Go.Proofs.YtabdianhoabhhaaGreatDoor.Inf
open Go Go.RowKit Go.Proofs.YtabdianhoabhhaaGreatDoor Go.Proofs.YtabdianhoabhhaaGreatDoor.Bits Go.Proofs.YtabdianhoabhhaaGreatDoor.Code
set_option linter.unusedVariables false
set_option linter.unusedSimpArgs false
theorem RL.keeps {w w':World} {B gl gn n:Nat} {l:List Nat} {base:Nat} (h:RL w B gl gn n l) (hk:AB base Fh w w'):RL w' B gl gn n l:=by
 obtain⟨hgl,⟨vl,hbl,hol,hne⟩,hbn,hfit,Jn⟩:=h
 exact⟨hgl,⟨vl,hk.blk hbl (by decide),hk.own hol (by decide),hne⟩,hk.blk hbn (by decide),hfit,Jn⟩
theorem RL.at_ {w:World} {B gl gn n:Nat} {l:List Nat} (h:RL w B gl gn n l):∃ Al cl,w.cell? ⟨gl,0,none⟩=some (.slice Al l.length cl)∧w.cell? ⟨gn,0,none⟩=some (.int .i64 (n:Int)):=by
 obtain⟨hgl,⟨vl,hbl,hol,hne⟩,hbn,hfit,Jn⟩:=h
 obtain⟨Al,cl,rfl,_⟩:=Ag hol
 exact⟨Al,cl,by rw[hbl.cell];rfl,by rw[hbn.cell];rfl⟩
def Qt (gl:Nat) (w:World):Nat:=match w.cell? ⟨gl,0,none⟩ with
 | some (.slice _ L _)=>L
 | _=>0
theorem Mc {w:World} {B gl gn n:Nat} {l:List Nat} (h:RL w B gl gn n l):Qt gl w=l.length:=by
 obtain⟨Al,cl,h1,_⟩:=h.at_
 unfold Qt
 rw[h1]
theorem RL.last {w:World} {B gl gn n:Nat} {l:List Nat} (h:RL w B gl gn n l) (h0:l≠[]):∃ b o cl,(∀ W T base,AB base T w W→89∉T→3∉T→W.cell? ⟨gl,0,none⟩=some (.slice (some ⟨b,o,none⟩) l.length cl)∧W.cell? ⟨b,o+(l.length - 1),none⟩=some (.int .i64 (l.getLastD 0:Int))):=by
 obtain⟨hgl,⟨vl,hbl,hol,hne⟩,hbn,hfit,Jn⟩:=h
 obtain⟨Al,cl,rfl,_,_,hsl,_⟩:=Ag hol
 have hp:0 < l.length:=List.length_pos_iff.2 h0
 obtain⟨b,o,rfl,_⟩:=hsl (by rw[List.length_map];exact hp)
 refine⟨b,o,cl,fun W T base hk h1 h2=>⟨by rw[(hk.blk hbl h1).cell];rfl,?_⟩⟩
 obtain⟨A',c',e,_,_,hs',_⟩:=Ag (hk.own hol h2)
 injection e with e1 e2 e3
 subst e1
 obtain⟨b',o',e,hc⟩:=hs' (by rw[List.length_map];exact hp)
 injection e with e
 injection e with e1 e2 e3
 subst e1 e2
 refine hc (l.length - 1) _ ?_
 rw[List.getElem?_map,List.getElem?_eq_getElem (by omega)]
 have e:l[l.length - 1]'(by omega)=l.getLastD 0:=by
  rw[List.getLastD_eq_getLast?,List.getLast?_eq_getElem?,List.getElem?_eq_getElem (by omega)];rfl
 rw[e]
 rfl
theorem Ku {n:Nat} {l m:List Nat} {v k:Nat} (h:Dm n l v k=.ok m):m.length=l.length+k∧m.length≤n:=by
 unfold Dm at h
 split at h
 ·cases h
 ·injection h with h
  subst h
  simp
  omega
set_option maxRecDepth 100000 in
set_option maxHeartbeats 4000000 in
theorem mR (base tb g q tp:Nat) (A:Option Addr) (n c pos N:Nat) (xs:List UInt8) (ls:List Nat) (vo vk:Value) (w:World) (hq:base≤q) (hbw:base≤w.heap.size)
  (hb:AX w g 177 #[.pointer (some ⟨q,0,none⟩),vo,vk]) (hsrc:EB w q A n c pos) (hp:pos≤8*n) (hi:FE w base A n xs) (hT:Jo w tb tp ls) (hN:N≤316) :
  Calls Tryz.prog 204 #[.pointer (some ⟨g,0,none⟩),.pointer (some ⟨tp,0,none⟩),.int .i64 (N:Int)] w fun e w'=>
   Eo (JX (AO xs) ls N N pos []) (fun a e w'=>∃ A' c',e=.returned (.slice A' N c')∧a.2.length=N∧w'.ownsRow w.heap.size 3 1 (.slice A' N c') N (a.2.map BR)∧EB w' q A n c a.1∧a.1≤8*n) e w'∧DR base w.heap.size Fh w w':=by
 obtain⟨R,hR⟩:∃ R,R=JX (AO xs) ls N N pos []:=⟨_,rfl⟩
 rw[←hR]
 have HU:=Lib.hid hR
 have HB:=Lib.hid hb
 have HS:=Lib.hid hsrc
 have HI:=Lib.hid hi
 have HT:=Lib.hid hT
 clear hb hsrc hi hT hR
 go_enter Tryz.func204,Tryz.ntmps204
 go_wp2_with fail
 generalize hg:w.heap.size=gn at *
 have YL:=Lib.hid hg
 have AGf:Hid (DR base gn Fh w w):=Lib.hid (DR.refl _ _ _ _)
 have hb2:Below gn w ((w.alloc (.cells #[.int .i64 (N:Int)] 3)).alloc (.cells #[.slice none 0 0] 89)):=by
  have h1:Below gn w (w.alloc (.cells #[.int .i64 (N:Int)] 3)):=(Below.refl _ _).alloc (by omega) _
  exact h1.alloc (by rw[←hg];simp) _
 have uo:q < gn:=by have:=AX.lt HS.out;omega
 have Cx:=Lib.hid (AGf.out.below hb2 hbw)
 have HS2:=Lib.hid (AX.below HS.out hb2 uo)
 have HG2:Hid (RL ((w.alloc (.cells #[.int .i64 (N:Int)] 3)).alloc (.cells #[.slice none 0 0] 89)) gn (gn+1) gn N []):=Lib.hid (by
  refine⟨by omega,⟨.slice none 0 0,?_,⟨rfl,.inl ⟨rfl,rfl⟩⟩,by simp[Value.ownBlock]⟩,?_,Nat.zero_le _,by omega⟩
  ·have:=AX.new (w.alloc (.cells #[.int .i64 (N:Int)] 3)) 89 #[.slice none 0 0]
   simpa [hg] using this
  ·have:=(AX.new w 3 #[.int .i64 (N:Int)]).alloc (.cells #[.slice none 0 0] 89)
   rw[hg]at this
   exact this)
 clear hg hb2 AGf
 generalize ((w.alloc (.cells #[.int .i64 (N:Int)] 3)).alloc (.cells #[.slice none 0 0] 89))=w2 at *
 go_loopw [] (fun wr=>∃ (f p:Nat) (l:List Nat),N≤l.length+f∧R=JX (AO xs) ls N f p l∧RL wr gn (gn+1) gn N l∧EB wr q A n c p∧p≤8*n∧DR base gn Fh w wr) (fun wr=>N - Qt (gn+1) wr)
 case atStart=>exact⟨N,pos,[],by simp,HU.out,HG2.out,HS2.out,hp,Cx.out⟩
 case round=>
  obtain⟨f,p,l,hf,hR,hag,hsrc,ZC,hold⟩:=hrel
  have hla:Hid (Qt (gn+1) wr=l.length):=Lib.hid (Mc hag)
  obtain⟨Al,cl,hcl,hcn⟩:=hag.at_
  have HA:=Lib.hid hag
  have HS:=Lib.hid hsrc
  have HO:=Lib.hid hold
  have HU:=Lib.hid hR
  clear hag hsrc hold hR Cx HS2 HG2
  obtain⟨L,hL⟩:∃ L,L=l.length:=⟨_,rfl⟩
  rw[←hL]at hf hla hcl
  have Xb:=Lib.hid hL
  clear hL
  by_cases hlt:L < N
  ·have hlt':(L:Int) < (N:Int):=by omega
   obtain⟨f,rfl⟩:∃ f',f=f'+1:=⟨f - 1,by omega⟩
   have HU:=Lib.hid (show R=(GL (AO xs) ls N p l).Ad fun x=>JX (AO xs) ls N f x.1 x.2 by
    rw[HU.out]
    show (if N≤l.length then _ else _)=_
    rw[if_neg (by rw[←Xb.out];omega)])
   have HIr:=Lib.hid (HI.out.old HO.out)
   have HBr:Hid (AX wr g 177 #[.pointer (some ⟨q,0,none⟩),vo,vk]):=Lib.hid ((YL.out▸HO.out:DR base w.heap.size Fh w wr).blk HB.out (by decide))
   have HTr:Hid (TabAt wr tb tp ls):=Lib.hid (by
    obtain⟨⟨t1,v,t2,t3⟩,_⟩:=HT.out
    have hk:=(YL.out▸HO.out:DR base w.heap.size Fh w wr).Jf
    exact⟨t1,v,hk.blk t2 (by decide),hk.own t3 (by decide)⟩)
   have HY:=Lib.hid (AGg base tb g q tp A n c p xs ls wr hq (by rw[HBr.out.cell];rfl) HS.out ZC HIr.out HTr.out HT.out.le HT.out.room HT.out.len)
   have hls:=HT.out.len
   go_wp2_with fail
   refine (HY.out).mono ?_
   rintro e w4 ⟨hr4,hk4⟩
   have J2:=Lib.hid hk4
   have KL:=Lib.hid (HO.out.keeps (hk4.mono hq (fun _ h=>h)))
   have Wp:=Lib.hid (HA.out.keeps hk4)
   cases hg4:IP (AO xs) ls p with
   | bad z=>
    have he:=BJ hr4 hg4
    subst he
    have HU:=Lib.hid (show R=.bad z by rw[HU.out];unfold GL;rw[hg4];rfl)
    clear hr4 hk4 hg4
    unfold Bn
    go_wp2_with fail
    exact⟨rfl,Aj HU.out,YL.out.symm▸KL.out⟩
   | ok a=>
    obtain⟨he,hs4,Rj⟩:=BO hr4 hg4
    subst he
    have hpl:=Nv hg4
    have Cw:=Lib.hid (show GL (AO xs) ls N p l=_ by unfold GL;rw[hg4,then_ok])
    have Nw:=Lib.hid hs4
    obtain⟨k,p4⟩:=a
    dsimp only at Rj hpl Cw Nw⊢
    clear hr4 hk4 hg4 hs4 HY
    have E9:Hid (AX w4 g 177 #[.pointer (some ⟨q,0,none⟩),vo,vk]):=Lib.hid (J2.out.blk HBr.out (by decide))
    have HI4:=Lib.hid (HI.out.old KL.out)
    have hB4:gn≤w4.heap.size:=by have:=KL.out.size;have:=YL.out;omega
    by_cases h16:k=16
    ·subst h16
     replace Cw:=Lib.hid (Cw.out.trans (if_pos rfl))
     by_cases hl0:l=[]
     ·have hL0:L=0:=by rw[Xb.out,hl0];rfl
      have HU:=Lib.hid (show R=.bad 8 by rw[HU.out,Cw.out,if_pos hl0];rfl)
      subst hL0
      obtain⟨Al4,cl4,AAb,_⟩:=Wp.out.at_
      rw[←Xb.out]at AAb
      go_wp2_with fail
      refine (DZ 8 _).mono ?_
      rintro e w5 ⟨rfl,rfl⟩
      unfold Bn
      go_wp2_with fail
      exact⟨rfl,Aj HU.out,YL.out.symm▸KL.out⟩
     ·replace Cw:=Lib.hid (Cw.out.trans (if_neg hl0))
      have hL1:1≤L:=by
       rw[Xb.out]
       exact List.length_pos_iff.2 hl0
      obtain⟨bl,ol,cl4,hSS⟩:=Wp.out.last hl0
      rw[←Xb.out]at hSS
      obtain⟨ix,hix⟩:∃ ix,ix=L - 1:=⟨_,rfl⟩
      rw[←hix]at hSS
      have HSS:=Lib.hid hSS
      have hwi:IntKind.i64.wrap ((L:Int) - 1)=(ix:Int):=by rw[show (L:Int) - 1=(ix:Int) by omega];exact IntWalk.i64_in _ (by omega)
      have AJ1:(0:Int)≤(ix:Int):=by omega
      have AJ0:(ix:Int) < (L:Int):=by omega
      clear hix
      have hLb:((L:Int) == 0)=false:=by rw[beq_eq_false_iff_ne];omega
      have AAb:=(hSS w4 [] 0 (AB.refl _ _ _) (by simp) (by simp)).1
      generalize l.getLastD 0=la at Cw HSS AAb
      have HG:=Lib.hid (TJ base g q A n c p4 2 xs w4.drew hq (by show w4.cell? _=_;rw[E9.out.cell];rfl) Nw.out Rj (HI4.out.keeps ((AB.refl base [] w4).drew)) (by omega))
      clear hSS
      go_wp2_with fail
      refine Bu (fun W=>W.cell? ⟨gn+1,0,none⟩=some (.slice (some ⟨bl,ol,none⟩) L cl4)∧W.cell? ⟨bl,ol+ix,none⟩=some (.int .i64 (la:Int))) 10 (by kernel_rfl) ?_
      have hHeld:=HSS.out w4.drew [] 0 ((AB.refl _ _ _).drew) (by simp) (by simp)
      have Wp:=Lib.hid (Wp.out.keeps (base:=0) ((AB.refl _ _ _).drew))
      have KL:Hid (DR base gn Fh w w4.drew):=Lib.hid (KL.out.keeps ((AB.refl _ _ _).drew))
      have HSS:Hid (∀ W base,AB base Fh w4.drew W→W.cell? ⟨gn+1,0,none⟩=some (.slice (some ⟨bl,ol,none⟩) L cl4)∧W.cell? ⟨bl,ol+ix,none⟩=some (.int .i64 (la:Int))):=Lib.hid (fun W B' hk=>HSS.out W Fh 0 (((AB.refl 0 Fh w4).drew).trans (hk.mono (Nat.zero_le _) (fun _ h=>h))) (by decide) (by decide))
      have hB4:gn≤w4.drew.heap.size:=hB4
      clear AAb J2 Nw E9 HI4
      generalize w4.drew=w4 at *
      refine AA (i:=0) (v:=?va0) (by kernel_rfl) (by kernel_rfl) rfl (by kernel_rfl) (by kernel_rfl) (by kernel_rfl) (fun _ _ _ h=>h) (by rfl) (by assumption) ?Kr ?Kt
      case Kr=>(intro W hSW;(try dsimp only at hSW);go_simp;try with_reducible rfl)
      (try simp only[Act.put,l0A,l0B,l0C,l0D,l0E,l0F])
      refine AA (i:=1) (v:=?zU) (by kernel_rfl) (by kernel_rfl) rfl (by kernel_rfl) (by kernel_rfl) (by kernel_rfl) (fun _ _ _ h=>h) (by rfl) (by assumption) ?Jp ?Jq
      case Jp=>(intro W hSW;(try dsimp only at hSW);go_simp;try with_reducible rfl)
      (try simp only[Act.put,l0A,l0B,l0C,l0D,l0E,l0F])
      refine AA (i:=2) (v:=?va2) (by kernel_rfl) (by kernel_rfl) rfl (by kernel_rfl) (by kernel_rfl) (by kernel_rfl) (fun _ _ _ h=>h) (by rfl) (by assumption) ?QG ?QH
      case QG=>(intro W hSW;(try dsimp only at hSW);go_simp;try with_reducible rfl)
      (try simp only[Act.put,l0A,l0B,l0C,l0D,l0E,l0F])
      refine AA (i:=3) (v:=?va3) (by kernel_rfl) (by kernel_rfl) rfl (by kernel_rfl) (by kernel_rfl) (by kernel_rfl) (fun _ _ _ h=>h) (by rfl) (by assumption) ?MR ?MS
      case MR=>(intro W hSW;(try dsimp only at hSW);go_simp;try with_reducible rfl)
      (try simp only[Act.put,l0A,l0B,l0C,l0D,l0E,l0F])
      refine AA (i:=4) (v:=?va4) (by kernel_rfl) (by kernel_rfl) rfl (by kernel_rfl) (by kernel_rfl) (by kernel_rfl) (fun _ _ _ h=>h) (by rfl) (by assumption) ?MU ?MV
      case MU=>(intro W hSW;(try dsimp only at hSW);go_simp;try with_reducible rfl)
      (try simp only[Act.put,l0A,l0B,l0C,l0D,l0E,l0F])
      refine AA (i:=5) (v:=?va5) (by kernel_rfl) (by kernel_rfl) rfl (by kernel_rfl) (by kernel_rfl) (by kernel_rfl) (fun _ _ _ h=>h) (by rfl) (by assumption) ?MW ?MX
      case MW=>(intro W hSW;(try dsimp only at hSW);go_simp;try with_reducible rfl)
      (try simp only[Act.put,l0A,l0B,l0C,l0D,l0E,l0F])
      refine AA (i:=6) (v:=?va6) (by kernel_rfl) (by kernel_rfl) rfl (by kernel_rfl) (by kernel_rfl) (by kernel_rfl) (fun _ _ _ h=>h) (by rfl) (by assumption) ?XP ?XQ
      case XP=>(intro W hSW;(try dsimp only at hSW);go_simp;try with_reducible rfl)
      (try simp only[Act.put,l0A,l0B,l0C,l0D,l0E,l0F])
      refine AA (i:=7) (v:=?va7) (by kernel_rfl) (by kernel_rfl) rfl (by kernel_rfl) (by kernel_rfl) (by kernel_rfl) (fun _ _ _ h=>h) (by rfl) (by assumption) ?XT ?XU
      case XT=>(intro W hSW;(try dsimp only at hSW);go_simp;try with_reducible rfl)
      (try simp only[Act.put,l0A,l0B,l0C,l0D,l0E,l0F])
      refine AL (i:=8) rfl (by kernel_rfl) (fun K hK=>?_)
      go_simp
      clear hHeld
      go_at_call 160
      refine (HG.out).mono ?_
      rintro e w6 ⟨QI,Iu⟩
      have Ny:=Lib.hid (KL.out.keeps (Iu.mono hq (fun _ h=>h)))
      have HA6:=Lib.hid (Wp.out.keeps Iu)
      have LQ:=Lib.hid Iu
      have hB6:gn≤w6.heap.size:=Nat.le_trans hB4 Iu.size
      cases IJ:CF (AO xs) p4 2 with
      | bad z=>
       have he:=BJ QI IJ
       subst he
       have HU:=Lib.hid (show R=.bad z by rw[HU.out,Cw.out,IJ];rfl)
       clear QI Iu IJ
       unfold Bn
       go_wp2_with fail
       exact⟨rfl,Aj HU.out,YL.out.symm▸Ny.out⟩
      | ok a=>
       obtain⟨he,hs6,jH⟩:=BO QI IJ
       subst he
       have hx:=Ep IJ
       replace Cw:=Lib.hid (Cw.out.trans (by rw[IJ,then_ok]))
       have Vm:=Lib.hid hs6
       obtain⟨x,p6⟩:=a
       dsimp only at jH hx Cw Vm⊢
       have hx':x < 4:=hx
       obtain⟨y,hy⟩:∃ y,y=3+x:=⟨_,rfl⟩
       rw[←hy]at Cw
       have hwx:IntKind.i64.wrap ((3:Int)+(x:Int))=(y:Int):=by rw[show (3:Int)+(x:Int)=(y:Int) by omega];exact IntWalk.i64_in _ (by omega)
       have hy1:1≤y:=by omega
       have hy2:y≤1000:=by omega
       clear QI Iu IJ hs6 HG hy hx hx'
       refine hK.out _ _ (HSS.out w6 q LQ.out) (fun hHeld=>?_)
       clear hK K
       (try simp only[Act.put,l0A,l0B,l0C,l0D,l0E,l0F])
       refine AL (i:=9) rfl (by kernel_rfl) (fun K hK=>?_)
       go_simp
       refine hK.out _ _ (HSS.out w6 q LQ.out) (fun hHeld=>?_)
       clear hK K hHeld
       (try simp only[Act.put,l0A,l0B,l0C,l0D,l0E,l0F])
       refine BM rfl (by kernel_rfl) (by kernel_rfl) (fun K hK=>?_)
       go_simp
       go_at_call 234
       refine (ND gn (gn+1) gn N la y l w6 HA6.out (by omega) (by omega) hB6).mono ?_
       rintro e w7 ⟨Je,Ir⟩
       have Uz:=Lib.hid (Ny.out.below Ir hbw)
       have Uy:=Lib.hid (AX.below Vm.out Ir uo)
       cases Ee:Dm N l la y with
       | bad z=>
        have he:=BJ Je Ee
        subst he
        have HU:=Lib.hid (show R=.bad z by rw[HU.out,Cw.out,Ee];rfl)
        clear Je Ir Ee
        unfold Bn
        go_wp2_with fail
        exact⟨rfl,Aj HU.out,YL.out.symm▸Uz.out⟩
       | ok m=>
        obtain⟨he,dS⟩:=BO Je Ee
        subst he
        have hm7:=Ku Ee
        have Hl7:Hid (Qt (gn+1) w7=m.length):=Lib.hid (Mc dS)
        have HU:=Lib.hid (show R=JX (AO xs) ls N f p6 m by rw[HU.out,Cw.out,Ee];rfl)
        have zW:=Lib.hid dS
        clear Je Ir Ee dS
        refine hK.out _ _ ?_
        clear hK K
        go_wp2_with fail
        go_roundw
        case rel=>exact⟨f,p6,m,by have:=Xb.out;omega,HU.out,zW.out,Uy.out,jH,Uz.out⟩
        case measure=>rw[hla.out,Hl7.out];have:=Xb.out;omega
    ·replace Cw:=Lib.hid (Cw.out.trans (if_neg h16))
     have AGh:((k:Int) == 16)=false:=by rw[beq_eq_false_iff_ne];omega
     by_cases h17:k=17
     ·subst h17
      replace Cw:=Lib.hid (Cw.out.trans (if_pos rfl))
      have HG:=Lib.hid (TJ base g q A n c p4 3 xs w4 hq (by rw[E9.out.cell];rfl) Nw.out Rj HI4.out (by omega))
      go_wp2_with fail
      refine (HG.out).mono ?_
      rintro e w6 ⟨QI,Iu⟩
      have Ny:=Lib.hid (KL.out.keeps (Iu.mono hq (fun _ h=>h)))
      have HA6:=Lib.hid (Wp.out.keeps Iu)
      have LQ:=Lib.hid Iu
      have hB6:gn≤w6.heap.size:=Nat.le_trans hB4 Iu.size
      cases IJ:CF (AO xs) p4 3 with
      | bad z=>
       have he:=BJ QI IJ
       subst he
       have HU:=Lib.hid (show R=.bad z by rw[HU.out,Cw.out,IJ];rfl)
       clear QI Iu IJ
       unfold Bn
       go_wp2_with fail
       exact⟨rfl,Aj HU.out,YL.out.symm▸Ny.out⟩
      | ok a=>
       obtain⟨he,hs6,jH⟩:=BO QI IJ
       subst he
       have hx:=Ep IJ
       replace Cw:=Lib.hid (Cw.out.trans (by rw[IJ,then_ok]))
       have Vm:=Lib.hid hs6
       obtain⟨x,p6⟩:=a
       dsimp only at jH hx Cw Vm⊢
       have hx':x < 8:=hx
       obtain⟨y,hy⟩:∃ y,y=3+x:=⟨_,rfl⟩
       rw[←hy]at Cw
       have hwx:IntKind.i64.wrap ((3:Int)+(x:Int))=(y:Int):=by rw[show (3:Int)+(x:Int)=(y:Int) by omega];exact IntWalk.i64_in _ (by omega)
       have hy1:1≤y:=by omega
       have hy2:y≤1000:=by omega
       clear QI Iu IJ hs6 HG hy hx hx'
       go_wp2_with fail
       refine (ND gn (gn+1) gn N 0 y l w6 HA6.out (by omega) (by omega) hB6).mono ?_
       rintro e w7 ⟨Je,Ir⟩
       have Uz:=Lib.hid (Ny.out.below Ir hbw)
       have Uy:=Lib.hid (AX.below Vm.out Ir uo)
       cases Ee:Dm N l 0 y with
       | bad z=>
        have he:=BJ Je Ee
        subst he
        have HU:=Lib.hid (show R=.bad z by rw[HU.out,Cw.out,Ee];rfl)
        clear Je Ir Ee
        unfold Bn
        go_wp2_with fail
        exact⟨rfl,Aj HU.out,YL.out.symm▸Uz.out⟩
       | ok m=>
        obtain⟨he,dS⟩:=BO Je Ee
        subst he
        have hm7:=Ku Ee
        have Hl7:Hid (Qt (gn+1) w7=m.length):=Lib.hid (Mc dS)
        have HU:=Lib.hid (show R=JX (AO xs) ls N f p6 m by rw[HU.out,Cw.out,Ee];rfl)
        have zW:=Lib.hid dS
        clear Je Ir Ee dS
        go_wp2_with fail
        go_roundw
        case rel=>exact⟨f,p6,m,by have:=Xb.out;omega,HU.out,zW.out,Uy.out,jH,Uz.out⟩
        case measure=>rw[hla.out,Hl7.out];have:=Xb.out;omega
     ·replace Cw:=Lib.hid (Cw.out.trans (if_neg h17))
      have AMe:((k:Int) == 17)=false:=by rw[beq_eq_false_iff_ne];omega
      by_cases h18:k=18
      ·subst h18
       replace Cw:=Lib.hid (Cw.out.trans (if_pos rfl))
       have HG:=Lib.hid (TJ base g q A n c p4 7 xs w4 hq (by rw[E9.out.cell];rfl) Nw.out Rj HI4.out (by omega))
       go_wp2_with fail
       refine (HG.out).mono ?_
       rintro e w6 ⟨QI,Iu⟩
       have Ny:=Lib.hid (KL.out.keeps (Iu.mono hq (fun _ h=>h)))
       have HA6:=Lib.hid (Wp.out.keeps Iu)
       have LQ:=Lib.hid Iu
       have hB6:gn≤w6.heap.size:=Nat.le_trans hB4 Iu.size
       cases IJ:CF (AO xs) p4 7 with
       | bad z=>
        have he:=BJ QI IJ
        subst he
        have HU:=Lib.hid (show R=.bad z by rw[HU.out,Cw.out,IJ];rfl)
        clear QI Iu IJ
        unfold Bn
        go_wp2_with fail
        exact⟨rfl,Aj HU.out,YL.out.symm▸Ny.out⟩
       | ok a=>
        obtain⟨he,hs6,jH⟩:=BO QI IJ
        subst he
        have hx:=Ep IJ
        replace Cw:=Lib.hid (Cw.out.trans (by rw[IJ,then_ok]))
        have Vm:=Lib.hid hs6
        obtain⟨x,p6⟩:=a
        dsimp only at jH hx Cw Vm⊢
        have hx':x < 128:=hx
        obtain⟨y,hy⟩:∃ y,y=11+x:=⟨_,rfl⟩
        rw[←hy]at Cw
        have hwx:IntKind.i64.wrap ((11:Int)+(x:Int))=(y:Int):=by rw[show (11:Int)+(x:Int)=(y:Int) by omega];exact IntWalk.i64_in _ (by omega)
        have hy1:1≤y:=by omega
        have hy2:y≤1000:=by omega
        clear QI Iu IJ hs6 HG hy hx hx'
        go_wp2_with fail
        refine (ND gn (gn+1) gn N 0 y l w6 HA6.out (by omega) (by omega) hB6).mono ?_
        rintro e w7 ⟨Je,Ir⟩
        have Uz:=Lib.hid (Ny.out.below Ir hbw)
        have Uy:=Lib.hid (AX.below Vm.out Ir uo)
        cases Ee:Dm N l 0 y with
        | bad z=>
         have he:=BJ Je Ee
         subst he
         have HU:=Lib.hid (show R=.bad z by rw[HU.out,Cw.out,Ee];rfl)
         clear Je Ir Ee
         unfold Bn
         go_wp2_with fail
         exact⟨rfl,Aj HU.out,YL.out.symm▸Uz.out⟩
        | ok m=>
         obtain⟨he,dS⟩:=BO Je Ee
         subst he
         have hm7:=Ku Ee
         have Hl7:Hid (Qt (gn+1) w7=m.length):=Lib.hid (Mc dS)
         have HU:=Lib.hid (show R=JX (AO xs) ls N f p6 m by rw[HU.out,Cw.out,Ee];rfl)
         have zW:=Lib.hid dS
         clear Je Ir Ee dS
         go_wp2_with fail
         go_roundw
         case rel=>exact⟨f,p6,m,by have:=Xb.out;omega,HU.out,zW.out,Uy.out,jH,Uz.out⟩
         case measure=>rw[hla.out,Hl7.out];have:=Xb.out;omega
      ·replace Cw:=Lib.hid (Cw.out.trans (if_neg h18))
       have AMf:((k:Int) == 18)=false:=by rw[beq_eq_false_iff_ne];omega
       go_wp2_with fail
       refine (ND gn (gn+1) gn N k 1 l w4 Wp.out (by omega) (by omega) hB4).mono ?_
       rintro e w7 ⟨Je,Ir⟩
       have Uz:=Lib.hid (KL.out.below Ir hbw)
       have Uy:=Lib.hid (AX.below Nw.out Ir uo)
       cases Ee:Dm N l k 1 with
       | bad z=>
        have he:=BJ Je Ee
        subst he
        have HU:=Lib.hid (show R=.bad z by rw[HU.out,Cw.out,Ee];rfl)
        clear Je Ir Ee
        unfold Bn
        go_wp2_with fail
        exact⟨rfl,Aj HU.out,YL.out.symm▸Uz.out⟩
       | ok m=>
        obtain⟨he,dS⟩:=BO Je Ee
        subst he
        have hm7:=Ku Ee
        have Hl7:Hid (Qt (gn+1) w7=m.length):=Lib.hid (Mc dS)
        have HU:=Lib.hid (show R=JX (AO xs) ls N f p4 m by rw[HU.out,Cw.out,Ee];rfl)
        have zW:=Lib.hid dS
        clear Je Ir Ee dS
        go_wp2_with fail
        go_roundw
        case rel=>exact⟨f,p4,m,by have:=Xb.out;omega,HU.out,zW.out,Uy.out,Rj,Uz.out⟩
        case measure=>rw[hla.out,Hl7.out];have:=Xb.out;omega
  ·have hlt':¬ (L:Int) < (N:Int):=by omega
   have hfit:=HA.out.fit
   rw[←Xb.out]at hfit
   obtain rfl:L=N:=by omega
   go_wp2_with fail
   go_ret
   refine⟨FX (a:=(p,l)) ?_ ⟨Al,cl,rfl,Xb.out.symm,?_,HS.out,ZC⟩,YL.out.symm▸HO.out⟩
   ·rw[HU.out]
    cases f with
    | zero=>rfl
    | succ f=>
     show (if L≤l.length then _ else _)=_
     rw[if_pos (by rw[←Xb.out];exact Nat.le_refl _)]
   ·obtain⟨vl,hbl,hol,_⟩:=HA.out.row
    rw[hbl.cell]at hcl
    have e:vl=.slice Al L cl:=by simpa using hcl
    rw[e,←Xb.out]at hol
    rw[YL.out]
    exact hol
end Go.Proofs.YtabdianhoabhhaaGreatDoor.Inf
namespace Go.Proofs.YtabdianhoabhhaaGreatDoor.Inf
open Go Go.RowKit Go.Proofs.YtabdianhoabhhaaGreatDoor Go.Proofs.YtabdianhoabhhaaGreatDoor.Bits Go.Proofs.YtabdianhoabhhaaGreatDoor.Code
set_option linter.unusedVariables false
set_option linter.unusedSimpArgs false
theorem wpList_build' {P:Program} {ops:Array Oper} {rest:List Oper} {o:Oper} {a:Act} {w:World} {Q:Exit→Act→World→Prop} (hg:o.guard=none) (t:TypeId) (parts:Array (Nat×Operand)) (ho:o.op=.build t parts) (cells:Array Value)
  (hf:P.built t (parts.map fun (i,x)=>(i,a.eval x)).toList=some cells) (h:wpList P ops Q rest (a.put o.dst (.agg cells)) w):wpList P ops Q (o :: rest) a w:=
 wpList_build hg t parts ho (by rw[hf];rfl) (by rw[hf];exact h)
theorem DR.setRow {base B0:Nat} {T:List TypeId} {w w':World} (h:DR base B0 T w w') {g:Nat} (hb:base≤g) (hB:B0≤g) (cs:Array Value):DR base B0 T w (w'.setRow g cs):=
 ⟨h.os,h.tape,h.output,by rw[setRow_size];exact h.size,fun k hk=>(setRow_other w' g k cs (by omega)).trans (h.block k hk),fun k o hk ho ht=>(setRow_other w' g k cs (by omega)).trans (h.other k o hk ho ht)⟩
theorem below_setRow {B:Nat} {w w':World} (h:Below B w w') {g:Nat} (hB:B≤g) (cs:Array Value):Below B w (w'.setRow g cs):=
 ⟨h.os,h.tape,h.output,by rw[setRow_size];exact h.size,fun k hk=>(setRow_other w' g k cs (by omega)).trans (h.block k hk)⟩
theorem DR.mono {base B0 B1:Nat} {T:List TypeId} {w w':World} (h:DR base B0 T w w') (hB:B1≤B0):DR base B1 T w w':=⟨h.os,h.tape,h.output,h.size,h.block,fun k o hk ho ht=>h.other k o (by omega) ho ht⟩
def Jm:Array Value:=#[.int .i64 16,.int .i64 17,.int .i64 18,.int .i64 0,.int .i64 8,.int .i64 7,.int .i64 9,.int .i64 6,.int .i64 10,.int .i64 5,.int .i64 11,.int .i64 4,.int .i64 12,.int .i64 3,.int .i64 13,.int .i64 2,.int .i64 14,.int .i64 1,.int .i64 15]
theorem iR:Jm=(BA.map BR).toArray:=rfl
theorem Pw (W:World) (old:Array Value) (h:old.size=19):(storeCells ⟨W.heap.size,0,none⟩ Jm.toList).run Tryz.prog (W.alloc (.cells old 251))=.ok () ((W.alloc (.cells old 251)).setRow W.heap.size Jm):=by
 have:=run_storeCells_from (P:=Tryz.prog) W.heap.size 251 Jm.toList 0 old (W.alloc (.cells old 251)) (heap_alloc_new _ _) (by rw[h];rfl) (by decide)
 rw[this]
 congr 2
set_option maxRecDepth 100000 in
set_option maxHeartbeats 1600000 in
theorem VN (w:World):Calls Tryz.prog 193 #[] w fun e w'=>e=.returned (.agg Jm)∧Below w.heap.size w w':=by
 go_enter Tryz.func193,Tryz.ntmps193
 have hst:=Pw w
 go_wp2_with (refine wpList_build' rfl _ _ rfl Jm (by kernel_rfl) ?_)
 refine bodyPost_ret (results_cell_row rfl _ _ w.heap.size 251 Jm (0,0) _ rfl (setRow_heap _ _ _ _ _ _ (heap_alloc_new _ _)) Tryz.underlying251 rfl (by kernel_rfl)) rfl ?_
 exact⟨rfl,below_setRow ((Below.refl _ _).alloc (Nat.le_refl _) _) (Nat.le_refl _) _⟩
end Go.Proofs.YtabdianhoabhhaaGreatDoor.Inf
namespace Go.Proofs.YtabdianhoabhhaaGreatDoor.AX
open Go Go.RowKit Go.Proofs.YtabdianhoabhhaaGreatDoor Go.Proofs.YtabdianhoabhhaaGreatDoor.Bits Go.Proofs.YtabdianhoabhhaaGreatDoor.Code Go.Proofs.YtabdianhoabhhaaGreatDoor.Inf Go.Proofs.YtabdianhoabhhaaGreatDoor.Match Go.Proofs.YtabdianhoabhhaaGreatDoor.SP Go.Proofs.YtabdianhoabhhaaGreatDoor.Rt
set_option linter.unusedVariables false
theorem kX (k:Nat) (h:k < 19) (W:World):(Instr.index 251 (.agg Jm) (.int .i64 (k:Int))).run Tryz.prog W=.ok (.int .i64 (BA.getD k 0:Int)) W:=by
 have hu:=run_underlying (P:=Tryz.prog) Tryz.underlying251
 have hk:Jm[k]?=some (.int .i64 (BA.getD k 0:Int)):=by
  rw[iR,List.getElem?_toArray,List.getElem?_map,List.getD_eq_getElem?_getD,List.getElem?_eq_getElem (show k < BA.length from h)];rfl
 simp[Instr.index,hu,asIntOf,go_sem,hk]
 intro h19
 omega
theorem zu (k:Nat) (h:k < 19):BA.getD k 0 < 19:=by
 rw[List.getD_eq_getElem?_getD,List.getElem?_eq_getElem (show k < BA.length from h)]
 exact YZ _ (List.getElem_mem _)
theorem rE (S:List Nat) (k:Nat) (h:k < 19):((BA.take (k+1)).map fun j=>S.getD j 0)=((BA.take k).map fun j=>S.getD j 0)++[S.getD (BA.getD k 0) 0]:=by
 rw[BI BA k h,List.map_append,List.getD_eq_getElem?_getD (l:=BA),List.getElem?_eq_getElem (show k < BA.length from h)];rfl
theorem Wv (S:List Nat) (c i:Nat) (h:∀ x∈S,x≤c):S.getD i 0≤c:=by
 rw[List.getD_eq_getElem?_getD]
 rcases Nat.lt_or_ge i S.length with h1 | h1
 ·rw[List.getElem?_eq_getElem h1];exact h _ (List.getElem_mem h1)
 ·rw[List.getElem?_eq_none h1];exact Nat.zero_le _
theorem Kc (ls:List Nat) (i:Nat) (h:Cd ls):codeOf ls i≤32768:=by
 by_cases h0:ls.getD i 0=0
 ·unfold codeOf;rw[if_pos h0];omega
 ·have h1:=VL ls i (getD_lt h0) h0 h.le h.room
  have h2:(2:Nat) ^ ls.getD i 0≤2 ^ 15:=Nat.pow_le_pow_right (by omega) h.bits
  omega
theorem Lx (ls:List Nat) (i:Nat) (h:i < ls.length):(I7 ls).getD i 0=codeOf ls i:=by
 unfold I7
 rw[List.getD_eq_getElem?_getD,List.getElem?_map,List.getElem?_range h];rfl
theorem Ya (S:List Nat) (x:Nat×Nat×Nat) (hS:∀ i,S.getD i 0≤7) (h:LV x):(L9 S x).length≤14:=by
 have:=hS x.1
 unfold L9
 unfold LV at h
 rw[List.length_append,Bv,AJ];omega
theorem Gw {w:World} {A:Option Addr} {l:List Nat} (h:Jw w 3 A (l.map BR)) {i:Nat} (hi:i < l.length):∃ b o,A=some ⟨b,o,none⟩∧w.cell? ⟨b,o+i,none⟩=some (.int .i64 (l.getD i 0:Int)):=by
 obtain⟨b,o,e,hc⟩:=h.Ib.get (k:=i) (by rw[List.length_map];exact hi)
 refine⟨b,o,e,?_⟩
 rw[hc,List.getElem_map,List.getD_eq_getElem?_getD,List.getElem?_eq_getElem hi];rfl
theorem bU (rs:List (Nat×Nat×Nat)) (k:Nat) (h:k < rs.length):FP (rs.take (k+1))=bump (FP (rs.take k)) rs[k].1:=by
 unfold FP;rw[BI rs k h,List.foldl_append];rfl
theorem VM (rs:List (Nat×Nat×Nat)):(FP rs).sum≤rs.length:=by
 have key:∀ (rs:List (Nat×Nat×Nat)) (m:List Nat),(rs.foldl (fun m x=>bump m x.1) m).sum≤m.sum+rs.length:=by
  intro rs
  induction rs with
  | nil=>intro m;exact Nat.le_refl _
  | cons x rs ih=>
   intro m
   have h1:=ih (bump m x.1)
   have h2:=Gy m x.1
   rw[List.foldl_cons,List.length_cons];omega
 have h:=key rs (List.replicate 19 0)
 have z:(List.replicate 19 0:List Nat).sum=0:=by simp
 rw[z]at h
 unfold FP;omega
theorem Ja {α:Type} (f:α→List Bool) (c:Nat):∀ l:List α,(∀ x∈l,(f x).length≤c)→(l.flatMap f).length≤c*l.length
 | [],_=>by simp
 | a :: l,h=>by
  have h1:=h a List.mem_cons_self
  have h2:=Ja f c l (fun x hx=>h x (List.mem_cons_of_mem _ hx))
  rw[List.flatMap_cons,List.length_append,List.length_cons,Nat.mul_succ];omega
theorem SN {w:World} {A:Option Addr} {l:List Nat} (h:Jw w 3 A (l.map BR)) (n:Nat):Jw w 3 A ((l.take n).map BR):=by
 rw[List.map_take];exact h.take n
theorem Yb (l:List Nat):∀ u∈l.map BR,u.oneCell'=true:=by
 intro u hu;obtain⟨x,_,rfl⟩:=List.mem_map.1 hu;rfl
set_option maxRecDepth 100000 in
set_option maxHeartbeats 8000000 in
theorem MB (base p:Nat) (r:List Bool) (bA oA ca bB oB cb:Nat) (lit far:List Nat) (w:World) (hr:CY w base p r) (hA:Jw w 3 (some ⟨bA,oA,none⟩) (lit.map BR)) (hB:Jw w 3 (some ⟨bB,oB,none⟩) (far.map BR))
  (l1:lit.length=286) (l2:far.length=30) (iT:286≤ca) (hcb:30≤cb) (c1:Cd lit) (c2:Cd far) (hrl:r.length≤60000000) :
  Calls Tryz.prog 158 #[.pointer (some ⟨p,0,none⟩),.slice (some ⟨bA,oA,none⟩) 286 ca,.slice (some ⟨bB,oB,none⟩) 30 cb] w fun e w'=>e=.returned (.tuple #[])∧CY w' base p (r++Cy lit far)∧AB base Gd w w':=by
 obtain⟨a,ha⟩:∃ a,a=Eb lit 257 286:=⟨_,rfl⟩
 obtain⟨b,hb⟩:∃ b,b=Eb far 1 30:=⟨_,rfl⟩
 have ha1:257≤a∧a≤286:=by rw[ha];exact⟨MC lit 257 286 (by omega),G5 lit 257 286⟩
 have hb1:1≤b∧b≤30:=by rw[hb];exact⟨MC far 1 30 (by omega),G5 far 1 30⟩
 have eA:BQ lit 257=lit.take a:=by unfold BQ;rw[l1,←ha]
 have eB:BQ far 1=far.take b:=by unfold BQ;rw[l2,←hb]
 have hHd:=Lv lit far
 have cA:=Jb lit 257 c1
 have cB:=Jb far 1 c2
 rw[eA,eB]at hHd
 rw[eA]at cA
 rw[eB]at cB
 have HT1:=Lib.hid (ME bA oA 286 ca lit 257 w l1 iT (by omega) hA.Ib (by omega))
 have HT2:=Lib.hid (ME bB oB 30 cb far 1 w l2 hcb (by omega) hB.Ib (by omega))
 rw[←ha]at HT1
 rw[←hb]at HT2
 have HA:=Lib.hid (SN hA a)
 have HB:=Lib.hid (SN hB b)
 have lA:(lit.take a).length=a:=by rw[List.length_take];omega
 have lB:(far.take b).length=b:=by rw[List.length_take];omega
 have HR:=Lib.hid hr
 have HHd:=Lib.hid hHd
 have hbw:base≤w.heap.size:=Nat.le_trans hr.1 (Nat.le_of_lt hr.lt)
 clear hHd hr hA hB ha hb eA eB c1 c2 l1 l2
 generalize Cy lit far=HB0 at *
 generalize lit.take a=A at *
 generalize far.take b=B at *
 have qR:∀ y∈A++B,y≤15:=fun y hy=>by
  rcases List.mem_append.1 hy with hy | hy
  ·exact cA.le y hy
  ·exact cB.le y hy
 have HOk:=Lib.hid (Ww (A++B) qR)
 have HRl:=Lib.hid (Pt (A++B))
 have H15:=Lib.hid qR
 have LA:=Lib.hid lA
 have LB:=Lib.hid lB
 clear qR lA lB cA cB
 go_enter Tryz.func158,Tryz.ntmps158
 go_wp2_with fail
 refine (HT1.out).mono ?_
 rintro e w1 ⟨rfl,rfl⟩
 go_wp2_with fail
 refine (HT2.out).mono ?_
 rintro e w2 ⟨rfl,rfl⟩
 have rF:Hid ((w2.alloc (.cells #[] 3)).ownsRow w2.heap.size 3 1 (.slice (some ⟨w2.heap.size,0,none⟩) 0 0) 0 []):=Lib.hid (Gv _ _ _ _ w2.heap.size 0 #[] (Nat.le_refl _) (heap_alloc_new w2 _) (by unfold maxLen;omega) (by simp))
 have Hb0:=Lib.hid ((Below.refl w2.heap.size w2).alloc (Nat.le_refl _) (.cells #[] 3))
 have HAs:=Lib.hid (HA.out.below Hb0.out).Ib
 have rG:Hid ((A.map BR).length=a*1):=Lib.hid (by rw[List.length_map,LA.out];omega)
 have qo:Hid ((B.map BR).length=b*1):=Lib.hid (by rw[List.length_map,LB.out];omega)
 have Ux:=Lib.hid (Yb A)
 have Cx:=Lib.hid (Yb B)
 clear HT1 HT2
 go_wp2_with (at_builtin;first
  | (refine AY _ rfl (.tmp 27) (.tmp 28) _ rfl w2.heap.size 3 _ 1 8 Inf.ai _ 0 [] rfl rF.out (some ⟨bA,oA,none⟩) a ca (A.map BR) rfl rG.out HAs.out Ux.out (by simp) (by unfold maxLen;omega) (by omega) Hb0.out.size ?_;intro v3 w3 hown3 hg3 _;have Hb3:=Lib.hid (own_below rF.out hg3 Hb0.out Hb0.out.size);rw[List.nil_append,Nat.zero_add]at hown3;have Pv:=Lib.hid hown3;have HBs:=Lib.hid (HB.out.below Hb3.out).Ib;clear hown3 hg3)
  | (refine AY _ rfl (.tmp 29) (.tmp 30) _ rfl w2.heap.size 3 _ 1 8 Inf.ai _ a (A.map BR) rfl Pv.out (some ⟨bB,oB,none⟩) b cb (B.map BR) rfl qo.out HBs.out Cx.out (by simp) (by unfold maxLen;omega) (by omega) Hb3.out.size ?_;intro v4 w4 DD hg4 _;have Hb4:=Lib.hid (own_below Pv.out hg4 Hb3.out Hb3.out.size);have aj:=Lib.hid DD;clear DD hg4))
 obtain⟨A4,c4,rfl,hc4,_,hs4,_⟩:=Ag aj.out
 have AF5:=Lib.hid (rH A4 (a+b) c4 (A++B) w4 (by rw[List.length_append,LA.out,LB.out]) (by omega) (by rw[List.map_append];exact hs4) (fun x hx=>Nat.le_trans (H15.out x hx) (by omega)))
 have AJd:=Lib.hid Hb4.out
 clear hs4 aj Pv rF Hb0 HAs HBs rG qo Ux Cx Hb3 HA HB
 go_wp2_with fail
 refine (AF5.out).mono ?_
 rintro e w5 ⟨⟨v5,rfl,RF⟩,hb5⟩
 have Hb5:=Lib.hid (Hb4.out.trans (hb5.mono Hb4.out.size))
 obtain⟨nR,hnR⟩:∃ n,n=(Dk (A++B)).length:=⟨_,rfl⟩
 have AMF:nR≤316:=by have h1:=HRl.out;rw[List.length_append,LA.out,LB.out]at h1;omega
 rw[←hnR]at RF
 obtain⟨A5,c5,rfl,hc5,_,hs5,_⟩:=D5 RF
 have HnR:=Lib.hid hnR.symm
 have ak:=Lib.hid hs5
 clear RF hb5 hs5 AF5 Hb4 AJd hnR HRl
 generalize Dk (A++B)=R at *
 have hmk:∀ u:World,(Instr.makeSlice 89 (.int .i64 19) (.int .i64 19)).run Tryz.prog u=.ok (.slice (some ⟨u.heap.size,0,none⟩) 19 19) (u.alloc (.cells (ED (List.replicate 19 0)) 3)):=fun u=>by rw[←Iq];exact Fw 19 (by omega) u
 have Hm0:Hid (AX (w5.alloc (.cells (ED (List.replicate 19 0)) 3)) w5.heap.size 3 (ED (FP (R.take 0)))):=Lib.hid (AX.new _ _ _)
 have Jl:=Lib.hid ((Below.refl w5.heap.size w5).alloc (Nat.le_refl _) (.cells (ED (List.replicate 19 0)) 3))
 obtain⟨zz,hzz⟩:∃ z,z=ED (List.replicate 19 0):=⟨_,rfl⟩
 rw[←hzz]at hmk Hm0 Jl
 clear hzz
 go_wp2_with fail
 clear hmk
 go_loopw [37] (fun i wr=>∃ k:Nat,k≤nR∧i=.int .i64 (k:Int)∧AX wr w5.heap.size 3 (ED (FP (R.take k)))∧Below w5.heap.size w5 wr) (fun i _=>nR - (intOf i).toNat)
 case atStart=>exact⟨0,Nat.zero_le _,rfl,Hm0.out,Jl.out⟩
 case round=>
  clear Hm0 Jl
  obtain⟨k,hk,rfl,hm,hb⟩:=hrel
  have Hm:=Lib.hid hm
  have Hb:=Lib.hid hb
  clear hm hb
  by_cases hlt:k < nR
  ·have hkl:k < R.length:=by rw[HnR.out];exact hlt
   obtain⟨b5,o5,rfl,hc⟩:=EJ (size:=3) (fun _=>rfl) (by omega) (ak.out.below Hb.out).Ib hkl
   have hc0:=hc 0 _ rfl
   have hc1:=hc 1 _ rfl
   have hc2:=hc 2 _ rfl
   simp only[Nat.add_zero]at hc0
   have RY:=Lib.hid (bU R k hkl)
   have hok:=HOk.out _ (List.getElem_mem hkl)
   have rJ:=MF (R.take k)
   have hms:=VM (R.take k)
   have htl:(R.take k).length≤k:=by simp;omega
   clear hc
   generalize R[k]=x at *
   obtain⟨x0,x1,x2⟩:=x
   unfold LV at hok
   dsimp only at hc0 hc1 hc2 RY hok
   generalize FP (R.take k)=M at *
   have hcell:=J3 Hm.out (i:=x0) (by omega)
   have hfr:=Hm.out.frozen x0
   have hle:=Gx M x0
   have Hm2:=Lib.hid ((J4 Hm.out x0).alloc (.cells #[.int .i64 (x0:Int),.int .i64 (x1:Int),.int .i64 (x2:Int)] 250))
   have Hb2:=Lib.hid ((Hb.out.setCell (p:=⟨w5.heap.size,x0,none⟩) (Nat.le_refl _) (.int .i64 ((M.getD x0 0:Int)+1))).alloc (by rw[World.size_setCell];exact Hb.out.size) (.cells #[.int .i64 (x0:Int),.int .i64 (x1:Int),.int .i64 (x2:Int)] 250))
   have zw:=Hm.out.lt
   generalize M.getD x0 0=y at *
   have hy:y≤1000:=by omega
   clear hms
   go_wp2_with fail
   go_roundw
   case rel=>exact⟨k+1,by omega,by go_num,by rw[RY.out];exact Hm2.out,Hb2.out⟩
   case measure=>simp[intOf];omega
  ·obtain rfl:nR=k:=by omega
   have bN:Hid (R.take nR=R):=Lib.hid (List.take_of_length_le (by rw[HnR.out];exact Nat.le_refl _))
   rw[bN.out]at Hm
   have hsum:=VM R
   rw[HnR.out]at hsum
   have HW:=Lib.hid (SQ (some ⟨w5.heap.size,0,none⟩) 19 19 (FP R) 7 wr (MF R) (by omega) (Jz Hm.out).Ib (fun x hx=>by have:=Wu _ x hx;omega) (by omega) (by omega) (by have:=Cv.Kg (FP R);rw[MF]at this;have p7:(2:Nat) ^ 7=128:=rfl;omega))
   clear hlt hsum bN Hm
   go_wp2_with fail
   refine (HW.out).mono ?_
   rintro e w7 ⟨⟨v7,rfl,kY⟩,Ir⟩
   have HS:=Np R
   have e7:AV (FP R) 7=D8 R:=rfl
   rw[e7]at kY
   obtain⟨A7,c7,rfl,hc7,_,hs7,_⟩:=D5 kY
   have Uy:=Lib.hid hs7
   have Fe:=Lib.hid (Hb.out.trans (Ir.mono Hb.out.size))
   clear HW kY Ir hs7 e7 Hb
   have HOr:=Lib.hid (VN w7)
   go_wp2_with fail
   refine (HOr.out).mono ?_
   rintro e w8 ⟨rfl,LU⟩
   have zQ:=Lib.hid (Uy.out.below LU)
   have EG:=Lib.hid (Fe.out.trans (LU.mono Fe.out.size))
   have hst:=Pw w8
   have Px:Below w8.heap.size w8 ((w8.alloc (.cells #[.int .i64 0,.int .i64 0,.int .i64 0,.int .i64 0,.int .i64 0,.int .i64 0,.int .i64 0,.int .i64 0,.int .i64 0,.int .i64 0,.int .i64 0,.int .i64 0,.int .i64 0,.int .i64 0,.int .i64 0,.int .i64 0,.int .i64 0,.int .i64 0,.int .i64 0] 251)).setRow w8.heap.size Jm):=below_setRow ((Below.refl _ _).alloc (Nat.le_refl _) _) (Nat.le_refl _) _
   have Wx:=Lib.hid (zQ.out.below Px)
   have Pg:=Lib.hid (EG.out.trans (Px.mono EG.out.size))
   have AF6:Hid (AX ((w8.alloc (.cells #[.int .i64 0,.int .i64 0,.int .i64 0,.int .i64 0,.int .i64 0,.int .i64 0,.int .i64 0,.int .i64 0,.int .i64 0,.int .i64 0,.int .i64 0,.int .i64 0,.int .i64 0,.int .i64 0,.int .i64 0,.int .i64 0,.int .i64 0,.int .i64 0,.int .i64 0] 251)).setRow w8.heap.size Jm) w8.heap.size 251 Jm):=Lib.hid ((AX.new _ _ _).setRow Jm)
   clear LU HOr Uy Fe Px zQ EG
   go_wp2_with (refine wpList_load_row rfl 251 (.tmp 13) rfl w8.heap.size rfl 251 Jm (0,0) _ AF6.out Tryz.underlying251 rfl (by kernel_rfl) ?_)
   generalize ((w8.alloc (.cells #[.int .i64 0,.int .i64 0,.int .i64 0,.int .i64 0,.int .i64 0,.int .i64 0,.int .i64 0,.int .i64 0,.int .i64 0,.int .i64 0,.int .i64 0,.int .i64 0,.int .i64 0,.int .i64 0,.int .i64 0,.int .i64 0,.int .i64 0,.int .i64 0,.int .i64 0] 251)).setRow w8.heap.size Jm)=w9 at *
   clear AF6 hst
   go_loopw [14,56] (fun vt i wr=>∃ k:Nat,k≤19∧i=.int .i64 (k:Int)∧wr.ownsRow w9.heap.size 3 1 vt k (((BA.take k).map fun j=>(D8 R).getD j 0).map BR)∧Below w9.heap.size w9 wr) (fun _ i _=>19 - (intOf i).toNat)
   case atStart=>exact⟨0,Nat.zero_le _,rfl,World.ownsRow_nil ..,Below.refl _ _⟩
   case round=>
    obtain⟨k,hk,rfl,ho,hb⟩:=hrel
    have HO:=Lib.hid ho
    have Hb:=Lib.hid hb
    clear ho hb
    by_cases hlt:k < 19
    ·have hidx:=kX k hlt
     obtain⟨q,hq⟩:∃ q,q=BA.getD k 0:=⟨_,rfl⟩
     have AJe:q < 19:=by rw[hq];exact zu k hlt
     have RY:=Lib.hid (rE (D8 R) k hlt)
     rw[←hq]at hidx RY
     clear hq
     obtain⟨b7,o7,rfl,AF7⟩:=Gw (Wx.out.below Hb.out) (i:=q) (by rw[HS.1];exact AJe)
     have Hc7:=Lib.hid AF7
     generalize hv:(D8 R).getD q 0=v at *
     have hcell:=Hc7.out
     have BH:Below wr.heap.size wr (wr.alloc (.cells #[.int .i64 (v:Int)] 3)):=(Below.refl _ _).alloc (Nat.le_refl _) _
     have Cx:=Lib.hid (AP HO.out BH)
     have Hb2:=Lib.hid (Hb.out.trans (BH.mono Hb.out.size))
     have HZ:Hid (AR (wr.alloc (.cells #[.int .i64 (v:Int)] 3)) (some ⟨wr.heap.size,0,none⟩) [.int .i64 (v:Int)]):=Lib.hid (AR.of_heap (heap_alloc_new _ _) rfl)
     clear BH hv AF7 Hc7
     go_wp2_with (at_builtin;refine AY _ rfl (.tmp 59) (.tmp 64) _ rfl w9.heap.size 3 _ 1 8 Inf.ai _ k (((BA.take k).map fun j=>(D8 R).getD j 0).map BR) rfl Cx.out (some ⟨wr.heap.size,0,none⟩) 1 1 [.int .i64 (v:Int)] rfl rfl HZ.out (by simp[Value.oneCell']) (by simp) (by unfold maxLen;omega) (by omega) Hb2.out.size ?_;intro v8 w8 Aw Dj _;have EG:=Lib.hid (own_below Cx.out Dj Hb2.out Hb2.out.size);have GH:=Lib.hid Aw;clear Aw Dj)
     go_roundw
     case rel=>exact⟨k+1,by omega,by go_num,by rw[RY.out,List.map_append];exact GH.out,EG.out⟩
     case measure=>simp[intOf];omega
    ·obtain rfl:k=19:=by omega
     have e19:(BA.take 19).map (fun j=>(D8 R).getD j 0)=BA.map fun j=>(D8 R).getD j 0:=rfl
     obtain⟨s1,s2,s3,s4⟩:=HS
     have hHd:=HHd.out
     have AC9:∀ i,(D8 R).getD i 0≤7:=fun i=>Wv _ 7 i s3
     have qU:=Lib.hid (Wx.out.below Hb.out)
     have hho:=HO.out
     rw[e19]at hho
     generalize D8 R=S at *
     generalize hT0:(BA.map fun j=>S.getD j 0)=T0 at *
     have lT0:T0.length=19:=by rw[←hT0,List.length_map];rfl
     have hT7:∀ x∈T0,x≤7:=fun x hx=>by
      rw[←hT0]at hx
      obtain⟨y,_,rfl⟩:=List.mem_map.1 hx
      exact AC9 y
     obtain⟨A8,c8,rfl,hc8,_,hk8,_⟩:=D5 hho
     obtain⟨b8,o8,AMG,rfl,_,_⟩:=hk8 (by rw[List.length_map];omega)
     obtain⟨m,hm⟩:∃ m,m=Eb T0 4 19:=⟨_,rfl⟩
     have hm1:4≤m∧m≤19:=by rw[hm];exact⟨MC T0 4 19 (by omega),G5 T0 4 19⟩
     have HT:=Lib.hid (ME b8 o8 19 c8 T0 4 wr lT0 hc8 (by omega) hk8.Ib (by omega))
     rw[←hm]at HT
     have eT:BQ T0 4=T0.take m:=by unfold BQ;rw[lT0,←hm]
     rw[eT]at hHd
     have lT:(T0.take m).length=m:=by rw[List.length_take];omega
     have hTt:∀ x∈T0.take m,x≤7:=fun x hx=>hT7 x (List.mem_of_mem_take hx)
     have HKT:=Lib.hid (SN hk8 m)
     generalize T0.take m=T at *
     have AF8:=Lib.hid hHd
     have LT:=Lib.hid lT
     have zx:=Lib.hid hTt
     have AF9:=Lib.hid AC9
     have bV:=Lib.hid s1
     have HS2:=Lib.hid s2
     have Hbb:=Lib.hid (Hb5.out.trans ((Pg.out.trans (Hb.out.mono Pg.out.size)).mono Hb5.out.size))
     have Co:=Lib.hid (HR.out.below Hbb.out)
     have HK:=Lib.hid (AB.of_below (T:=Gd) Hbb.out hbw)
     have HSR:=Lib.hid (ak.out.below (Pg.out.trans (Hb.out.mono Pg.out.size)))
     clear hHd s1 s2 s3 s4 hT0 lT0 hT7 hk8 hho hm eT lT hTt HO e19 AC9 Wx Pg ak Hb5 Hbb Hb HR HHd
     go_wp2_with fail
     refine (HT.out).mono ?_
     rintro e Le ⟨rfl,rfl⟩
     obtain⟨x1,hx1⟩:∃ x,x=a - 257:=⟨_,rfl⟩
     obtain⟨x2,hx2⟩:∃ x,x=b - 1:=⟨_,rfl⟩
     obtain⟨x3,hx3⟩:∃ x,x=m - 4:=⟨_,rfl⟩
     have hs1:IntKind.i64.wrap ((a:Int) - 257)=(x1:Int):=by rw[show (a:Int) - 257=(x1:Int) by omega];exact IntWalk.i64_in _ (by omega)
     have hs2:IntKind.i64.wrap ((b:Int) - 1)=(x2:Int):=by rw[show (b:Int) - 1=(x2:Int) by omega];exact IntWalk.i64_in _ (by omega)
     have hs3:IntKind.i64.wrap ((m:Int) - 4)=(x3:Int):=by rw[show (m:Int) - 4=(x3:Int) by omega];exact IntWalk.i64_in _ (by omega)
     have Hx1:Hid (A.length - 257=x1∧B.length - 1=x2∧T.length - 4=x3):=Lib.hid (by rw[LA.out,LB.out,LT.out];omega)
     have AMH:x1≤29:=by omega
     have AMI:x2≤29:=by omega
     have AMJ:x3≤15:=by omega
     clear hx1 hx2 hx3 HT
     have HP:=Lib.hid (CV base p x1 5 r Le Co.out (by omega) (by omega) (by omega))
     obtain⟨r1,hr1⟩:∃ z,z=r++numBits x1 5:=⟨_,rfl⟩
     have hl1:r1.length≤60000100:=by rw[hr1,List.length_append,AJ];omega
     rw[←hr1]at HP
     have Hr1:=Lib.hid hr1
     clear hr1 Co
     go_wp2_with fail
     refine (HP.out).mono ?_
     rintro e YW ⟨rfl,hrow,hkp⟩
     have Co:=Lib.hid hrow
     have rM:=Lib.hid (HKT.out.keeps hkp (by decide))
     have bW:=Lib.hid (qU.out.keeps hkp (by decide))
     have bX:=Lib.hid (HSR.out.keeps hkp (by decide))
     have Fv:=Lib.hid (HK.out.trans hkp)
     clear hrow hkp HKT qU HSR HK HP
     have HP:=Lib.hid (CV base p x2 5 r1 YW Co.out (by omega) (by omega) (by omega))
     obtain⟨r2,hr2⟩:∃ z,z=r1++numBits x2 5:=⟨_,rfl⟩
     have hl2:r2.length≤60000200:=by rw[hr2,List.length_append,AJ];omega
     rw[←hr2]at HP
     have Hr2:=Lib.hid hr2
     clear hr2 Co
     go_wp2_with fail
     refine (HP.out).mono ?_
     rintro e bM ⟨rfl,hrow,hkp⟩
     have Co:=Lib.hid hrow
     have HKT:=Lib.hid (rM.out.keeps hkp (by decide))
     have qU:=Lib.hid (bW.out.keeps hkp (by decide))
     have HSR:=Lib.hid (bX.out.keeps hkp (by decide))
     have HK:=Lib.hid (Fv.out.trans hkp)
     clear hrow hkp rM bW bX Fv HP
     have HP:=Lib.hid (CV base p x3 4 r2 bM Co.out (by omega) (by omega) (by omega))
     obtain⟨r3,hr3⟩:∃ z,z=r2++numBits x3 4:=⟨_,rfl⟩
     have hl3:r3.length≤60000300:=by rw[hr3,List.length_append,AJ];omega
     rw[←hr3]at HP
     have Hr3:=Lib.hid hr3
     clear hr3 Co
     go_wp2_with fail
     refine (HP.out).mono ?_
     rintro e w13 ⟨rfl,hrow,hkp⟩
     have Co:=Lib.hid hrow
     have rM:=Lib.hid (HKT.out.keeps hkp (by decide))
     have bW:=Lib.hid (qU.out.keeps hkp (by decide))
     have bX:=Lib.hid (HSR.out.keeps hkp (by decide))
     have Fv:=Lib.hid (HK.out.trans hkp)
     clear hrow hkp HKT qU HSR HK HP hs1 hs2 hs3
     go_wp2_with fail
     go_loopw [86] (fun i wr=>∃ k:Nat,k≤m∧i=.int .i64 (k:Int)∧CY wr base p (r3++(T.take k).flatMap fun n=>numBits n 3)∧AB base Gd w13 wr) (fun i _=>m - (intOf i).toNat)
     case atStart=>exact⟨0,Nat.zero_le _,rfl,by rw[List.take_zero,List.flatMap_nil,List.append_nil];exact Co.out,AB.refl _ _ _⟩
     case round=>
      clear Co
      obtain⟨k,hk,rfl,hrow,hkp⟩:=hrel
      have Co:=Lib.hid hrow
      have NQ:=Lib.hid hkp
      clear hrow hkp
      by_cases hlt:k < m
      ·have hkl:k < T.length:=by rw[LT.out];exact hlt
       obtain⟨bT,oT,hAT,hcell⟩:=Gw (rM.out.keeps NQ.out (by decide)) hkl
       injection hAT with hAT;injection hAT with e1 e2 e3;subst e1 e2
       have hv7:T.getD k 0≤7:=Wv T 7 k zx.out
       have RY:Hid ((T.take (k+1)).flatMap (fun n=>numBits n 3)=((T.take k).flatMap fun n=>numBits n 3)++numBits (T.getD k 0) 3):=Lib.hid (by
        rw[BI T k hkl,List.flatMap_append,List.getD_eq_getElem?_getD,List.getElem?_eq_getElem hkl];simp)
       have hfl:=Ja (fun n=>numBits n 3) 3 (T.take k) (fun x _=>by rw[AJ];exact Nat.le_refl _)
       have htl:(T.take k).length≤k:=by simp;omega
       generalize T.getD k 0=v at *
       have HP:=Lib.hid (CV base p v 3 _ wr Co.out (by omega) (by omega) (by rw[List.length_append];omega))
       rw[List.append_assoc,←RY.out]at HP
       clear Co hfl htl
       go_wp2_with fail
       refine (HP.out).mono ?_
       rintro e zR ⟨rfl,hrow,hkp⟩
       have Co:=Lib.hid hrow
       have AJf:=Lib.hid (NQ.out.trans hkp)
       clear hrow hkp NQ HP hcell
       go_wp2_with fail
       go_roundw
       case rel=>exact⟨k+1,by omega,by go_num,Co.out,AJf.out⟩
       case measure=>simp[intOf];omega
      ·obtain rfl:m=k:=by omega
       have bN:Hid (T.take m=T):=Lib.hid (List.take_of_length_le (by rw[LT.out];exact Nat.le_refl _))
       rw[bN.out]at Co
       have hfl:=Ja (fun n=>numBits n 3) 3 T (fun x _=>by rw[AJ];exact Nat.le_refl _)
       rw[LT.out]at hfl
       obtain⟨r4,hr4⟩:∃ z,z=r3++T.flatMap (fun n=>numBits n 3):=⟨_,rfl⟩
       have hl4:r4.length≤60000400:=by rw[hr4,List.length_append];omega
       rw[←hr4]at Co
       have Hr4:=Lib.hid hr4
       have qU:=Lib.hid (bW.out.keeps NQ.out (by decide))
       have HSR:=Lib.hid (bX.out.keeps NQ.out (by decide))
       have HK:=Lib.hid (Fv.out.trans NQ.out)
       have HCd:=Lib.hid (Nn A7 19 c7 S wr bV.out (by omega) qU.out.Ib HS2.out)
       clear hr4 hfl bN NQ Fv bW bX rM hlt
       go_wp2_with fail
       refine (HCd.out).mono ?_
       rintro e w15 ⟨⟨g,rfl,hg,hBg⟩,rO⟩
       have iM:=Lib.hid (Co.out.below rO)
       have hbr:=Nat.le_trans Co.out.1 (Nat.le_of_lt Co.out.lt)
       have bW:=Lib.hid (qU.out.below rO)
       have bX:=Lib.hid (HSR.out.below rO)
       have Fv:=Lib.hid (HK.out.trans (AB.of_below rO hbr))
       have HG:=Lib.hid (Jz hBg)
       clear HCd rO hBg Co qU HSR HK hg hbr
       go_wp2_with fail
       have HFin:Hid (r++HB0=r4++R.flatMap (L9 S)):=Lib.hid (by
        rw[AF8.out,Hx1.out.1,Hx1.out.2.1,Hx1.out.2.2,Hr4.out,Hr3.out,Hr2.out,Hr1.out]
        simp only[List.append_assoc])
       clear AF8 Hx1 Hr1 Hr2 Hr3 Hr4 zx LT
       go_loopw [101] (fun i wr=>∃ k:Nat,k≤nR∧i=.int .i64 (k:Int)∧CY wr base p (r4++(R.take k).flatMap (L9 S))∧AB base Gd w15 wr) (fun i _=>nR - (intOf i).toNat)
       case atStart=>exact⟨0,Nat.zero_le _,rfl,by rw[List.take_zero,List.flatMap_nil,List.append_nil];exact iM.out,AB.refl _ _ _⟩
       case round=>
        clear iM
        obtain⟨k,hk,rfl,hrow,hkp⟩:=hrel
        have Co:=Lib.hid hrow
        have NQ:=Lib.hid hkp
        clear hrow hkp
        by_cases hlt:k < nR
        ·have hkl:k < R.length:=by rw[HnR.out];exact hlt
         obtain⟨b5,o5,rfl,hc⟩:=EJ (size:=3) (fun _=>rfl) (by omega) (bX.out.keeps NQ.out (by decide)).Ib hkl
         have hc0:=hc 0 _ rfl
         have hc1:=hc 1 _ rfl
         have hc2:=hc 2 _ rfl
         simp only[Nat.add_zero]at hc0
         have hok:=HOk.out _ (List.getElem_mem hkl)
         have hfl:=Ja (L9 S) 14 (R.take k) (fun x hx=>Ya S x AF9.out (HOk.out x (List.mem_of_mem_take hx)))
         have htl:(R.take k).length≤k:=by simp;omega
         have RY:Hid ((R.take (k+1)).flatMap (L9 S)=(R.take k).flatMap (L9 S)++L9 S R[k]):=Lib.hid (by
          rw[BI R k hkl,List.flatMap_append];simp)
         clear hc
         generalize R[k]=x at *
         obtain⟨x0,y1,y2⟩:=x
         unfold LV at hok
         dsimp only at hc0 hc1 hc2 hok
         have hbr:base≤wr.heap.size:=Nat.le_trans Co.out.1 (Nat.le_of_lt Co.out.lt)
         have BH:Below wr.heap.size wr (wr.alloc (.cells #[.int .i64 (x0:Int),.int .i64 (y1:Int),.int .i64 (y2:Int)] 250)):=(Below.refl _ _).alloc (Nat.le_refl _) _
         have AB7:=Lib.hid (Co.out.below BH)
         have Pq:=Lib.hid (NQ.out.trans (AB.of_below BH hbr))
         have ADA:Hid (AX (wr.alloc (.cells #[.int .i64 (x0:Int),.int .i64 (y1:Int),.int .i64 (y2:Int)] 250)) wr.heap.size 250 #[.int .i64 (x0:Int),.int .i64 (y1:Int),.int .i64 (y2:Int)]):=Lib.hid (AX.new _ _ _)
         obtain⟨bS,oS,rfl,hcS⟩:=Gw (bW.out.keeps Pq.out (by decide)) (i:=x0) (by rw[bV.out];exact hok.1)
         obtain⟨bG,oG,hAG,hcG⟩:=Gw (HG.out.keeps Pq.out (by decide)) (i:=x0) (by unfold I7;rw[List.length_map,List.length_range,bV.out];exact hok.1)
         injection hAG with hAG;injection hAG with e1 e2 e3;subst e1 e2
         rw[Lx S x0 (by rw[bV.out];exact hok.1)]at hcG
         have hcd:=Kc S x0 HS2.out
         have hsz:=AF9.out x0
         have VJ:Hid (L9 S (x0,y1,y2)=hi (S.getD x0 0) (codeOf S x0)++numBits y1 y2):=Lib.hid rfl
         generalize codeOf S x0=cd at *
         generalize S.getD x0 0=sz at *
         have n0:(wr.alloc (.cells #[.int .i64 (x0:Int),.int .i64 (y1:Int),.int .i64 (y2:Int)] 250)).cell? ⟨wr.heap.size,0,none⟩=some (.int .i64 (x0:Int)):=by rw[ADA.out.cell];rfl
         clear BH NQ Co
         go_wp2_with fail
         generalize wr.alloc (.cells #[.int .i64 (x0:Int),.int .i64 (y1:Int),.int .i64 (y2:Int)] 250)=wa at *
         generalize wr.heap.size=gx at *
         have hx0:x0 < 19:=hok.1
         have hx0':(x0:Int) < 19:=by omega
         have AJg:=hcS
         have AJh:=hcG
         simp only[Nat.zero_add]at AJg AJh
         go_still_tail 11,(by kernel_rfl)
         change wpList _ _ _ _ _ wa.drew
         have Co:Hid (CY wa.drew base p (r4++(R.take k).flatMap (L9 S))):=AB7
         have HKd:=Lib.hid (Pq.out.drew)
         have AB8:Hid (AX wa.drew gx 250 #[.int .i64 (x0:Int),.int .i64 (y1:Int),.int .i64 (y2:Int)]):=ADA
         clear AB7 Pq ADA hcS hcG n0 hc0 hc1 hc2
         generalize wa.drew=wd at *
         have HP:=Lib.hid (SC base p cd sz _ wd Co.out (by omega) (by omega) (by rw[List.length_append];omega))
         clear Co
         go_wp2_with fail
         refine (HP.out).mono ?_
         rintro e w17 ⟨rfl,hrow,hkp⟩
         have Co:=Lib.hid hrow
         have AGA:=Lib.hid (HKd.out.trans hkp)
         have ADB:=Lib.hid (hkp.blk AB8.out (by decide))
         have n1:w17.cell? ⟨gx,1,none⟩=some (.int .i64 (y1:Int)):=by rw[ADB.out.cell];rfl
         have n2:w17.cell? ⟨gx,2,none⟩=some (.int .i64 (y2:Int)):=by rw[ADB.out.cell];rfl
         clear hrow hkp HP HKd AB8
         have HP:=Lib.hid (CV base p y1 y2 _ w17 Co.out (by omega) (by omega) (by rw[List.length_append,List.length_append,Df];omega))
         rw[List.append_assoc,List.append_assoc,←VJ.out,←RY.out]at HP
         clear Co
         go_wp2_with fail
         refine (HP.out).mono ?_
         rintro e w18 ⟨rfl,hrow,hkp⟩
         have Co:=Lib.hid hrow
         have AJi:=Lib.hid (AGA.out.trans hkp)
         clear hrow hkp HP AGA ADB n1 n2
         go_wp2_with fail
         go_roundw
         case rel=>exact⟨k+1,by omega,by go_num,Co.out,AJi.out⟩
         case measure=>simp[intOf];omega
        ·obtain rfl:nR=k:=by omega
         have bN:Hid (R.take nR=R):=Lib.hid (List.take_of_length_le (by rw[HnR.out];exact Nat.le_refl _))
         rw[bN.out,←HFin.out]at Co
         have HKf:=Lib.hid (Fv.out.trans NQ.out)
         go_wp2_with fail
         go_end0
         exact⟨rfl,Co.out,HKf.out⟩
end Go.Proofs.YtabdianhoabhhaaGreatDoor.AX
namespace Go.Proofs.YtabdianhoabhhaaGreatDoor.Rt
open Go.Proofs.YtabdianhoabhhaaGreatDoor.Bits Go.Proofs.YtabdianhoabhhaaGreatDoor.Code Go.Proofs.YtabdianhoabhhaaGreatDoor.Match Go.Proofs.YtabdianhoabhhaaGreatDoor.SP Go.Proofs.YtabdianhoabhhaaGreatDoor.Inf Go.Proofs.YtabdianhoabhhaaGreatDoor.AX
set_option linter.unusedVariables false
def Ld (n:Nat) (b:List UInt8) (kind:Nat) (last:Bool):List Bool:=
 if kind=0 then [last]++numBits 0 2++List.replicate (8*((n+3+7) / 8) - (n+3)) false++numBits b.length 16++numBits (65535 - b.length) 16++AO b
 else if kind=1 then [last]++numBits 1 2++En (toks b) BU Ck
 else [last]++numBits kind 2++Cy (Cg (toks b)).1 (Cg (toks b)).2++En (toks b) (Cg (toks b)).1 (Cg (toks b)).2
theorem iW (r:List Bool) (b:List UInt8) (kind:Nat) (last:Bool):J6 r b kind last=r++Ld r.length b kind last:=by
 unfold J6 Ld
 by_cases h0:kind=0
 ·rw[if_pos h0,if_pos h0]
  unfold pad
  have e:(r++[last]++numBits 0 2).length=r.length+3:=by simp[AJ]
  rw[e]
  simp only[List.append_assoc]
 ·rw[if_neg h0,if_neg h0]
  by_cases h1:kind=1
  ·rw[if_pos h1,if_pos h1];simp only[List.append_assoc]
  ·rw[if_neg h1,if_neg h1];simp only[List.append_assoc]
theorem ny (s:List Nat×List Nat) (t:Tok) (j:Nat):s.1.getD j 0≤(DV s t).1.getD j 0∧s.2.getD j 0≤(DV s t).2.getD j 0:=by
 unfold DV
 split
 ·dsimp only;rw[GR];omega
 ·dsimp only;rw[GR,GR];omega
theorem Ml:∀ (ts:List Tok) (s:List Nat×List Nat) (j:Nat),s.1.getD j 0≤(ts.foldl DV s).1.getD j 0∧s.2.getD j 0≤(ts.foldl DV s).2.getD j 0
 | [],s,j=>⟨Nat.le_refl _,Nat.le_refl _⟩
 | t :: ts,s,j=>by
  have h1:=Ml ts (DV s t) j
  have h2:=ny s t j
  rw[List.foldl_cons];omega
def AG8 (t:Tok):Prop:=t.2.1=0∨(3≤t.2.1∧t.2.1≤258∧1≤t.2.2)
theorem Yd:∀ (ts:List Tok) (n:Int),(Ce ts n).1=0→∀ t∈ts,AG8 t
 | [],_,_,t,h=>by cases h
 | x :: ts,n,hk,t,h=>by
  simp only[Ce]at hk
  have hx:(DN n x).1=0:=by
   by_cases h1:(DN n x).1=0
   ·exact h1
   ·rw[if_neg h1]at hk;exact hk
  rw[if_pos hx]at hk
  rcases List.mem_cons.1 h with rfl | h
  ·unfold DN at hx
   unfold AG8
   by_cases h1:t.2.1=0
   ·exact Or.inl h1
   ·rw[if_neg h1]at hx
    by_cases h2:t.1≠0
    ·rw[if_pos h2]at hx;simp at hx
    ·rw[if_neg h2]at hx
     by_cases h3:t.2.1 < 3∨258 < t.2.1∨t.2.2 < 1
     ·rw[if_pos h3]at hx;simp at hx
     ·exact Or.inr ⟨by omega,by omega,by omega⟩
  ·exact Yd ts _ hk t h
theorem SV (b:List UInt8):(Ce (toks b) 0).1=0:=by unfold toks;rw[Kh]
theorem oC (s:List Nat×List Nat) (t:Tok) (h1:s.1.length=286) (h2:s.2.length=30):Dw (DV s t).1 (DV s t).2 t:=by
 have k1:Di BG t.2.1.toNat < 29:=Gp BG _ (by decide)
 have k2:Di Bp t.2.2.toNat < 30:=Gp Bp _ (by decide)
 have hx:=t.1.toNat_lt
 unfold Dw DV
 by_cases h:t.2.1=0
 ·rw[if_pos h,if_pos h]
  dsimp only
  rw[GR,if_pos ⟨rfl,by omega⟩];omega
 ·rw[if_neg h,if_neg h]
  dsimp only
  rw[GR,GR,if_pos ⟨rfl,by omega⟩,if_pos ⟨rfl,by omega⟩];omega
theorem Tj {a b c d:List Nat} (h1:∀ j,a.getD j 0≠0→c.getD j 0≠0) (h2:∀ j,b.getD j 0≠0→d.getD j 0≠0) {t:Tok} (h:Dw a b t):Dw c d t:=by
 unfold Dw at h⊢
 split
 ·rename_i h0;rw[if_pos h0]at h;exact h1 _ h
 ·rename_i h0;rw[if_neg h0]at h;exact⟨h1 _ h.1,h2 _ h.2⟩
theorem Lc:∀ (ts:List Tok) (s:List Nat×List Nat),s.1.length=286→s.2.length=30→∀ t∈ts,Dw (ts.foldl DV s).1 (ts.foldl DV s).2 t
 | [],_,_,_,t,h=>by cases h
 | x :: ts,s,h1,h2,t,h=>by
  have hl:=VX s x
  rw[List.foldl_cons]
  rcases List.mem_cons.1 h with rfl | h
  ·refine Tj (fun j hj=>?_) (fun j hj=>?_) (oC s t h1 h2)
   ·have:=(Ml ts (DV s t) j).1;omega
   ·have:=(Ml ts (DV s t) j).2;omega
  ·exact Lc ts _ (hl.1.trans h1) (hl.2.trans h2) t h
theorem eZ (ts:List Tok):∀ t∈ts,Dw (Cq ts).1 (Cq ts).2 t:=fun t h=>by
 have h1:=Lc ts (List.replicate 286 0,List.replicate 30 0) List.length_replicate List.length_replicate t h
 refine Tj (fun j hj=>?_) (fun j hj=>hj) h1
 have e:(Cq ts).1.getD j 0=(CW ts).1.getD j 0+if 256=j∧j < (CW ts).1.length then 1 else 0:=GR _ _ _
 have e2:(CW ts).1.getD j 0=(List.foldl DV (List.replicate 286 0,List.replicate 30 0) ts).1.getD j 0:=rfl
 omega
theorem Oj (ts:List Tok):(Cg ts).1.length=286∧(Cg ts).2.length=30∧Cd (Cg ts).1∧Cd (Cg ts).2∧(Cg ts).1.getD 256 0≠0∧∀ t∈ts,Dw (Cg ts).1 (Cg ts).2 t:=by
 obtain⟨c1,c2⟩:=SS ts
 have o1:=Cv.Kg (Cq ts).1
 have o2:=Cv.Kg (Cq ts).2
 have p15:(2:Nat) ^ 15=32768:=rfl
 obtain⟨a1,a2,_,a4⟩:=QO (Cq ts).1 15 (by omega) (by omega) (by omega)
 obtain⟨b1,b2,_,b4⟩:=QO (Cq ts).2 15 (by omega) (by omega) (by omega)
 refine⟨a1.trans c1,b1.trans c2,a2,b2,fun h=>?_,fun t ht=>?_⟩
 ·have h1:=(a4 256).1 h
  have e:(Cq ts).1.getD 256 0=(CW ts).1.getD 256 0+if 256=256∧256 < (CW ts).1.length then 1 else 0:=GR _ _ _
  rw[if_pos ⟨rfl,by rw[(L8 ts).1];omega⟩]at e
  omega
 ·exact Tj (fun j hj h=>hj ((a4 j).1 h)) (fun j hj h=>hj ((b4 j).1 h)) (eZ ts t ht)
theorem Ra:Cd BU:=⟨by decide +kernel,by decide +kernel⟩
theorem Rb:Cd Ck:=⟨by decide +kernel,by decide +kernel⟩
theorem Tm:∀ k < 288,BU.getD k 0≠0:=by decide +kernel
theorem wO:∀ k < 32,Ck.getD k 0≠0:=by decide +kernel
theorem AA6 (t:Tok):Dw BU Ck t:=by
 have k1:Di BG t.2.1.toNat < 29:=Gp BG _ (by decide)
 have k2:Di Bp t.2.2.toNat < 30:=Gp Bp _ (by decide)
 have hx:=t.1.toNat_lt
 unfold Dw
 split
 ·exact Tm _ (by omega)
 ·exact⟨Tm _ (by omega),wO _ (by omega)⟩
theorem wP (lit far:List Nat) (t:Tok) (h:Dw lit far t):1≤(GY lit far t).length:=by
 unfold Dw at h
 unfold GY
 split
 ·rename_i h0;rw[if_pos h0]at h;rw[Bv];omega
 ·rename_i h0;rw[if_neg h0]at h
  simp only[List.length_append,Bv];omega
theorem V5 (lit far:List Nat):∀ ts:List Tok,(∀ t∈ts,Dw lit far t)→ts.length≤(En ts lit far).length
 | [],_=>Nat.zero_le _
 | t :: ts,h=>by
  have h1:=wP lit far t (h t List.mem_cons_self)
  have h2:=V5 lit far ts (fun x hx=>h x (List.mem_cons_of_mem _ hx))
  rw[Ti,List.length_append,List.length_cons];omega
theorem Zj {row:List Bool} {lit far:List Nat} {p:Nat} {b out:List UInt8} (hc:Cd lit) (hd:Cd far) (he:lit.getD 256 0≠0) (hf:∀ t∈toks b,Dw lit far t) (h:Has row p (En (toks b) lit far)) (hl:out.length+b.length≤3000) :
  Ev row lit far (row.length+1) p out=.ok (p+(En (toks b) lit far).length,out++b):=by
 have hs:(toks b).foldl DT out=out++b:=by
  have:=V4 out (toks b) [] (SV b)
  rw[List.append_nil]at this
  rw[this]
  have e:(toks b).foldl DT []=b:=ZV b
  rw[e]
 have hlen:=V5 lit far (toks b) hf
 have hle:=h.le
 have:=Zi hc hd he (toks b) p out (row.length+1) 0 h hf (SV b) (Int.le_refl _) (by omega) (by rw[hs,List.length_append];exact hl) (by omega)
 rw[hs]at this
 exact this
theorem Xu {row:List Bool} {p:Nat} {l:Bool} (h:Has row p [l]):CF row p 1=.ok (l.toNat,p+1):=by
 have e:[l]=numBits l.toNat 1:=by cases l <;> rfl
 rw[e]at h
 exact EI h (by cases l <;> decide)
theorem Tn (l:Bool):(l.toNat == 1)=l:=by cases l <;> rfl
theorem oD {row:List Bool} {p kind:Nat} {b out:List UInt8} {last:Bool} (h:Has row p (Ld p b kind last)) (hk:kind≤2) (hl:out.length+b.length≤3000) :
  EZ row p out=.ok (last,kind,p+(Ld p b kind last).length,out++b):=by
 unfold Ld at h⊢
 by_cases h0:kind=0
 ·subst h0
  rw[if_pos rfl]at h⊢
  have a1:=h.left.left.left.left.left
  have a2:=h.left.left.left.left.right
  have a4:=h.left.left.right
  have a5:=h.left.right
  have a6:=h.right
  simp only[List.length_append,AJ,List.length_singleton,List.length_replicate]at a2 a4 a5 a6⊢
  have ef:JF (p+1+2)=p+(1+2+(8*((p+3+7) / 8) - (p+3))):=by unfold JF;omega
  have AGh:b.length < 2 ^ 16:=by have:(2:Nat) ^ 16=65536:=rfl;omega
  have hc16:65535 - b.length < 2 ^ 16:=by have:(2:Nat) ^ 16=65536:=rfl;omega
  unfold EZ
  rw[Xu a1,thn]
  dsimp only
  rw[EI a2 (by decide),thn]
  dsimp only
  rw[if_pos rfl]
  unfold FZ
  rw[ef,EI a4 AGh,thn]
  dsimp only
  rw[EI (by rw[Nat.add_assoc];exact a5) hc16,thn]
  dsimp only
  rw[if_neg (by omega),jU b _ out (by simp only[Nat.add_assoc]at a6⊢;exact a6) hl,thn,Tn,BV]
  simp only[Nat.add_assoc]
 ·rw[if_neg h0]at h⊢
  by_cases h1:kind=1
  ·subst h1
   rw[if_pos rfl]at h⊢
   have a1:=h.left.left
   have a2:=h.left.right
   have a3:=h.right
   simp only[List.length_append,AJ,List.length_singleton]at a2 a3⊢
   unfold EZ
   rw[Xu a1,thn]
   dsimp only
   rw[EI a2 (by decide),thn]
   dsimp only
   rw[if_neg (by omega),if_pos rfl,Zj Ra Rb (Tm 256 (by omega)) (fun t _=>AA6 t) (by rw[Nat.add_assoc];exact a3) hl,thn,Tn]
   simp only[Nat.add_assoc]
  ·obtain rfl:kind=2:=by omega
   rw[if_neg h1]at h⊢
   obtain⟨l1,l2,l3,l4,l5,l6⟩:=Oj (toks b)
   generalize (Cg (toks b)).1=lit at *
   generalize (Cg (toks b)).2=far at *
   have a1:=h.left.left.left
   have a2:=h.left.left.right
   have a3:=h.left.right
   have a4:=h.right
   simp only[List.length_append,AJ,List.length_singleton]at a2 a3 a4⊢
   unfold EZ
   rw[Xu a1,thn]
   dsimp only
   rw[EI a2 (by decide),thn]
   dsimp only
   rw[if_neg (by omega),if_neg (by omega),if_pos rfl,wQ l3 l4 l1 l2 l5 (by rw[Nat.add_assoc];exact a3),thn]
   dsimp only
   rw[←oH (toks b) lit far 257 1]at a4⊢
   rw[Zj (Jb lit 257 l3) (Jb far 1 l4) (by rw[QP];exact l5) (fun t ht=>wR lit far 257 1 t (l6 t ht)) (by simp only[Nat.add_assoc]at a4⊢;exact a4) hl,thn,Tn]
   simp only[Nat.add_assoc]
theorem Gc (parts:List (List UInt8)) (kinds:List Nat) (i:Nat):DC parts kinds (i+1)=DC parts kinds i++Ld (DC parts kinds i).length (parts.getD i []) (kinds.getD i 0) (decide (i+1=parts.length)):=iW _ _ _ _
theorem Tp (parts:List (List UInt8)) (kinds:List Nat) (i:Nat):∀ d,∃ t,DC parts kinds (i+d)=DC parts kinds i++t
 | 0=>⟨[],by simp⟩
 | d+1=>by
  obtain⟨t,ht⟩:=Tp parts kinds i d
  exact⟨t++_,by rw[←Nat.add_assoc,Gc,ht,List.append_assoc]⟩
theorem oI (n:Nat) (b:List UInt8) (kind:Nat) (last:Bool):1≤(Ld n b kind last).length:=by
 unfold Ld
 (repeat' split) <;> simp only[List.length_append,List.length_singleton] <;> omega
theorem Tq (parts:List (List UInt8)) (kinds:List Nat):∀ i,i≤(DC parts kinds i).length
 | 0=>Nat.zero_le _
 | i+1=>by
  have h1:=Tq parts kinds i
  have h2:=oI (DC parts kinds i).length (parts.getD i []) (kinds.getD i 0) (decide (i+1=parts.length))
  rw[Gc,List.length_append];omega
theorem VU (parts:List (List UInt8)) (i:Nat) (h:i < parts.length):(parts.take (i+1)).flatten=(parts.take i).flatten++parts.getD i []:=by
 rw[List.take_succ_eq_append_getElem h,List.flatten_append,List.getD_eq_getElem?_getD,List.getElem?_eq_getElem h]
 simp
theorem Es (parts:List (List UInt8)):∀ i,(parts.take i).flatten.length≤parts.flatten.length:=fun i=>by
 have:parts.flatten=(parts.take i).flatten++(parts.drop i).flatten:=by rw[←List.flatten_append,List.take_append_drop]
 rw[this,List.length_append];omega
theorem Tt {row:List Bool} {parts:List (List UInt8)} {kinds:List Nat} (hr:Has row 0 (DC parts kinds parts.length)) (hk:kinds.length=parts.length) (hkk:∀ k∈kinds,k≤2) (hl:parts.flatten.length≤3000) :
  ∀ (m i fuel:Nat),i+m+1=parts.length→m < fuel→Dq row fuel (DC parts kinds i).length (parts.take i).flatten (kinds.take i)=.ok ((DC parts kinds parts.length).length,parts.flatten,kinds)
 | m,i,0,_,hf=>absurd hf (by omega)
 | m,i,f+1,hi,hf=>by
  have hil:i < parts.length:=by omega
  have hik:i < kinds.length:=by omega
  obtain⟨t,ht⟩:=Tp parts kinds (i+1) m
  rw[show i+1+m=parts.length by omega,Gc,List.append_assoc]at ht
  have hb:Has row (DC parts kinds i).length (Ld (DC parts kinds i).length (parts.getD i []) (kinds.getD i 0) (decide (i+1=parts.length))):=by
   rw[ht]at hr
   have:=hr.right.left
   rw[Nat.zero_add]at this
   exact this
  have hkind:kinds.getD i 0≤2:=by
   rw[List.getD_eq_getElem?_getD,List.getElem?_eq_getElem hik]
   exact hkk _ (List.getElem_mem hik)
  have hfl:=VU parts i hil
  have AKP:=Es parts (i+1)
  rw[hfl,List.length_append]at AKP
  have hB:=oD (out:=(parts.take i).flatten) hb hkind (by omega)
  show (EZ row _ _).Ad _=_
  rw[hB,thn]
  dsimp only
  have hks:kinds.take i++[kinds.getD i 0]=kinds.take (i+1):=by
   rw[List.take_succ_eq_append_getElem hik,List.getD_eq_getElem?_getD,List.getElem?_eq_getElem hik];rfl
  have hp:(DC parts kinds i).length+(Ld (DC parts kinds i).length (parts.getD i []) (kinds.getD i 0) (decide (i+1=parts.length))).length=(DC parts kinds (i+1)).length:=by
   rw[Gc,List.length_append]
  rw[hp,hks,←hfl]
  by_cases hlast:i+1=parts.length
  ·rw[if_pos (by simpa using hlast),hlast,List.take_length,←hk,List.take_length]
  ·rw[if_neg (by simpa using hlast)]
   exact Tt hr hk hkk hl (m - 1) (i+1) f (by omega) (by omega)
theorem wS (l:List Bool) (more:List UInt8):Has (AO (pack l++more)) 0 l:=by
 refine⟨Nat.zero_le _,List.replicate (8*((l.length+7) / 8) - l.length) false++AO more,?_⟩
 rw[List.drop_zero,C8,Nj,List.append_assoc]
theorem unpack_pack (parts:List (List UInt8)) (kinds:List Nat) (more:List UInt8) (h0:parts≠[]) (hk:kinds.length=parts.length) (hkk:∀ k∈kinds,k≤2) (hl:parts.flatten.length≤3000) (h6:(Cu parts kinds++more).length≤6000) :
  CB (Cu parts kinds++more)=.ok (parts.flatten,(Cu parts kinds).length,kinds):=by
 have hpos:0 < parts.length:=List.length_pos_iff.2 h0
 have hlong:=Tq parts kinds parts.length
 have hlen:(Cu parts kinds).length=((DC parts kinds parts.length).length+7) / 8:=BK _
 have hb:=Tt (wS (DC parts kinds parts.length) more) hk hkk hl (parts.length - 1) 0 (8*(Cu parts kinds++more).length+1) (by omega) (by rw[List.length_append];omega)
 unfold CB
 rw[if_neg (by omega)]
 have e0:(DC parts kinds 0).length=0:=rfl
 rw[e0,List.take_zero,List.take_zero]at hb
 have hb':Dq (AO (Cu parts kinds++more)) (8*(Cu parts kinds++more).length+1) 0 [] []=.ok ((DC parts kinds parts.length).length,parts.flatten,kinds):=hb
 rw[hb',thn]
 dsimp only
 rw[hlen]
end Go.Proofs.YtabdianhoabhhaaGreatDoor.Rt
namespace Go.Proofs.YtabdianhoabhhaaGreatDoor.AX
open Go Go.RowKit Go.Proofs.YtabdianhoabhhaaGreatDoor Go.Proofs.YtabdianhoabhhaaGreatDoor.Bits Go.Proofs.YtabdianhoabhhaaGreatDoor.Code Go.Proofs.YtabdianhoabhhaaGreatDoor.Inf Go.Proofs.YtabdianhoabhhaaGreatDoor.Match Go.Proofs.YtabdianhoabhhaaGreatDoor.SP Go.Proofs.YtabdianhoabhhaaGreatDoor.Rt
set_option linter.unusedVariables false
set_option maxRecDepth 100000 in
set_option maxHeartbeats 1600000 in
theorem R9 (base p g4 g8 g6 n c8 c6 k:Nat) (A8 A6:Option Addr) (lit:List Nat) (r:List Bool) (w:World) (hr:CY w base p r) (h4:w.cell? ⟨g4,0,none⟩=some (.pointer (some ⟨p,0,none⟩))) (h8:w.cell? ⟨g8,0,none⟩=some (.slice A8 n c8)) (h6:w.cell? ⟨g6,0,none⟩=some (.slice A6 n c6))
  (hC:Jw w 3 A8 ((I7 lit).map BR)) (hL:Jw w 3 A6 (lit.map BR)) (hn:lit.length=n) (hn2:n≤288) (hk:k < n) (hc:Cd lit) (hrl:r.length≤1000000000) :
  Calls Tryz.prog 198 #[.int .i64 (k:Int),.pointer (some ⟨g4,0,none⟩),.pointer (some ⟨g8,0,none⟩),.pointer (some ⟨g6,0,none⟩)] w fun e w'=>e=.returned (.tuple #[])∧CY w' base p (r++ER lit k)∧AB base Gd w w':=by
 obtain⟨b8,o8,rfl,hc8⟩:=Gw hC (i:=k) (by unfold I7;rw[List.length_map,List.length_range,hn];exact hk)
 obtain⟨b6,o6,rfl,hc6⟩:=Gw hL (i:=k) (by rw[hn];exact hk)
 rw[Lx lit k (by rw[hn];exact hk)]at hc8
 have hcd:=Kc lit k hc
 have hsz:=hc.bits (i:=k)
 have VJ:Hid (ER lit k=hi (lit.getD k 0) (codeOf lit k)):=Lib.hid rfl
 have HR:=Lib.hid hr
 have hk':(k:Int) < (n:Int):=by omega
 have hbs:=Lib.hid hr.1
 generalize codeOf lit k=cd at *
 generalize lit.getD k 0=sz at *
 clear hr hC hL hn hc
 go_enter Tryz.func198,Tryz.ntmps198
 go_wp2_with fail
 go_still_tail 9,(by kernel_rfl)
 change wpList _ _ _ _ _ w.drew
 have Co:Hid (CY w.drew base p r):=HR
 have HKd:=Lib.hid ((AB.refl base Gd w).drew)
 clear h4 h8 h6 hc8 hc6 HR
 have HP:=Lib.hid (SC base p cd sz r w.drew Co.out (by omega) (by omega) (by omega))
 rw[←VJ.out]at HP
 generalize w.drew=wd at *
 go_wp2_with fail
 refine (HP.out).mono ?_
 rintro e w2 ⟨rfl,hrow,hkp⟩
 have iM:=Lib.hid hrow
 have Fv:=Lib.hid (HKd.out.trans hkp)
 clear hrow hkp HP Co HKd
 go_wp2_with fail
 go_end0
 exact⟨rfl,iM.out,Fv.out⟩
theorem iN {w:World} {A:Option Addr} {l:List (Nat×Nat)} (h:Jw w 259 A (l.flatMap OY)) {i:Nat} (hi:i < l.length) :
  ∃ b o,A=some ⟨b,o,none⟩∧w.cell? ⟨b,o+i*2,none⟩=some (.int .i64 ((l.getD i (0,0)).1:Int))∧w.cell? ⟨b,o+i*2+1,none⟩=some (.int .i64 ((l.getD i (0,0)).2:Int)):=by
 obtain⟨b,o,e,hc⟩:=EJ (size:=2) (fun _=>rfl) (by omega) h.Ib hi
 have h0:=hc 0 _ rfl
 have h1:=hc 1 _ rfl
 have eg:l.getD i (0,0)=l[i]:=by rw[List.getD_eq_getElem?_getD,List.getElem?_eq_getElem hi];rfl
 rw[eg]
 exact⟨b,o,e,h0,h1⟩
def qp (t:Tok):Prop:=t.2.1=0∨∃ s f:Nat,t.2.1=(s:Int)∧t.2.2=(f:Int)∧3≤s∧s≤258∧1≤f∧f≤3000
theorem YU (lit far:List Nat) (t:Tok) (hc:Cd lit) (hd:Cd far):(GY lit far t).length≤48:=by
 unfold GY
 split
 ·rw[Bv];have:=hc.bits (i:=t.1.toNat);omega
 ·simp only[List.length_append,Bv,AJ]
  have h1:=hc.bits (i:=257+Di BG t.2.1.toNat)
  have h2:=hd.bits (i:=Di Bp t.2.2.toNat)
  have h3:∀ k,(BG.getD k (0,0)).2≤5:=fun k=>by
   rcases Nat.lt_or_ge k 29 with h | h
   ·exact (by decide:∀ k < 29,(BG.getD k (0,0)).2≤5) k h
   ·rw[List.getD_eq_getElem?_getD,List.getElem?_eq_none (show BG.length≤k from h)];exact Nat.zero_le _
  have h4:∀ k,(Bp.getD k (0,0)).2≤13:=fun k=>by
   rcases Nat.lt_or_ge k 30 with h | h
   ·exact (by decide:∀ k < 30,(Bp.getD k (0,0)).2≤13) k h
   ·rw[List.getD_eq_getElem?_getD,List.getElem?_eq_none (show Bp.length≤k from h)];exact Nat.zero_le _
  have:=h3 (Di BG t.2.1.toNat)
  have:=h4 (Di Bp t.2.2.toNat)
  omega
set_option maxRecDepth 100000 in
set_option maxHeartbeats 8000000 in
theorem Og (base p:Nat) (r:List Bool) (At:Option Addr) (mt ct:Nat) (l:List Tok) (A:Option Addr) (n ca:Nat) (lit:List Nat) (B:Option Addr) (m cb:Nat) (far:List Nat) (w:World) (hr:CY w base p r)
  (hT:Jw w 244 At (l.flatMap qw)) (hA:Jw w 3 A (lit.map BR)) (hB:Jw w 3 B (far.map BR))
  (lt:l.length=mt) (hmt:mt≤3000) (l1:lit.length=n) (l2:far.length=m) (hn:n≤288) (hn0:286≤n) (hm:m≤32) (hm0:30≤m) (c1:Cd lit) (c2:Cd far) (hts:∀ t∈l,qp t) (hrl:r.length≤100000000) :
  Calls Tryz.prog 159 #[.pointer (some ⟨p,0,none⟩),.slice At mt ct,.slice A n ca,.slice B m cb] w fun e w'=>e=.returned (.tuple #[])∧CY w' base p (r++En l lit far)∧AB base Gd w w':=by
 have HR:=Lib.hid hr
 have HT:=Lib.hid hT
 have HA:=Lib.hid hA
 have HB:=Lib.hid hB
 have LT:=Lib.hid lt
 have L1:=Lib.hid l1
 have L2:=Lib.hid l2
 have C1:=Lib.hid c1
 have C2:=Lib.hid c2
 have zn:=Lib.hid hts
 have hbw:base≤w.heap.size:=Nat.le_trans hr.1 (Nat.le_of_lt hr.lt)
 clear hr hT hA hB lt l1 l2 c1 c2 hts
 -- the boxes
 have Hb1:=Lib.hid (((Below.refl w.heap.size w).alloc (Nat.le_refl _) (.cells #[.pointer (some ⟨p,0,none⟩)] 166)).alloc (by simp) (.cells #[.slice A n ca] 89))
 have Jy:Hid (AX ((w.alloc (.cells #[.pointer (some ⟨p,0,none⟩)] 166)).alloc (.cells #[.slice A n ca] 89)) w.heap.size 166 #[.pointer (some ⟨p,0,none⟩)]):=Lib.hid ((AX.new w _ _).alloc _)
 have VK:Hid (AX ((w.alloc (.cells #[.pointer (some ⟨p,0,none⟩)] 166)).alloc (.cells #[.slice A n ca] 89)) (w.heap.size+1) 89 #[.slice A n ca]):=Lib.hid (by
  have:=AX.new (w.alloc (.cells #[.pointer (some ⟨p,0,none⟩)] 166)) 89 #[.slice A n ca]
  rw[World.size_alloc]at this;exact this)
 have HC1:=Lib.hid (Nn A n ca lit ((w.alloc (.cells #[.pointer (some ⟨p,0,none⟩)] 166)).alloc (.cells #[.slice A n ca] 89)) L1.out hn (HA.out.below Hb1.out).Ib C1.out)
 go_enter Tryz.func159,Tryz.ntmps159
 go_wp2_with fail
 refine (HC1.out).mono ?_
 rintro e w1 ⟨⟨gl,rfl,hgl,hBl⟩,hb1⟩
 have Po:=Lib.hid (Jy.out.below hb1 Jy.out.lt)
 have U4:=Lib.hid (VK.out.below hb1 VK.out.lt)
 have Hb2:=Lib.hid (Hb1.out.trans (hb1.mono Hb1.out.size))
 have zo:=Lib.hid (Jz hBl)
 clear HC1 hBl hb1 Jy VK Hb1 hgl
 -- the box of the codes
 have BH:Below w1.heap.size w1 (w1.alloc (.cells #[.slice (some ⟨gl,0,none⟩) n n] 89)):=(Below.refl _ _).alloc (Nat.le_refl _) _
 have Lt:Hid (AX (w1.alloc (.cells #[.slice (some ⟨gl,0,none⟩) n n] 89)) w1.heap.size 89 #[.slice (some ⟨gl,0,none⟩) n n]):=Lib.hid (AX.new _ _ _)
 have Jy:=Lib.hid (Po.out.below BH Po.out.lt)
 have VK:=Lib.hid (U4.out.below BH U4.out.lt)
 have Hb3:=Lib.hid (Hb2.out.trans (BH.mono Hb2.out.size))
 have qy:=Lib.hid (zo.out.below BH)
 have HC2:=Lib.hid (Nn B m cb far (w1.alloc (.cells #[.slice (some ⟨gl,0,none⟩) n n] 89)) L2.out (by omega) (HB.out.below Hb3.out).Ib C2.out)
 clear BH Hb2 Po U4 zo
 go_wp2_with fail
 refine (HC2.out).mono ?_
 rintro e w2 ⟨⟨gf,rfl,hgf,hBf⟩,hb2⟩
 have Po:=Lib.hid (Jy.out.below hb2 Jy.out.lt)
 have U4:=Lib.hid (VK.out.below hb2 VK.out.lt)
 have kR:=Lib.hid (Lt.out.below hb2 Lt.out.lt)
 have zo:=Lib.hid (qy.out.below hb2)
 have HGf:=Lib.hid (Jz hBf)
 have Hb4:=Lib.hid (Hb3.out.trans (hb2.mono Hb3.out.size))
 clear HC2 hBf hb2 Jy VK Lt Hb3 qy hgf
 go_wp2_with fail
 refine (Pp _).mono ?_
 rintro e w3 ⟨A3,c3,rfl,ho3,hb3⟩
 have Jy:=Lib.hid (Po.out.below hb3 Po.out.lt)
 have VK:=Lib.hid (U4.out.below hb3 U4.out.lt)
 have Lt:=Lib.hid (kR.out.below hb3 kR.out.lt)
 have qy:=Lib.hid (zo.out.below hb3)
 have AFu:=Lib.hid (HGf.out.below hb3)
 have Hb5:=Lib.hid (Hb4.out.trans (hb3.mono Hb4.out.size))
 have kS:Hid (Jw w3 259 A3 (BG.flatMap OY)):=Lib.hid (by obtain⟨A,c,e,_,_,h,_⟩:=D5 ho3;injection e with e;subst e;exact h)
 clear hb3 ho3 Po U4 kR Hb4 zo HGf
 go_wp2_with fail
 refine (SE _).mono ?_
 rintro e w4 ⟨A4,c4,rfl,SF,hb4⟩
 have Po:=Lib.hid (Jy.out.below hb4 Jy.out.lt)
 have U4:=Lib.hid (VK.out.below hb4 VK.out.lt)
 have kR:=Lib.hid (Lt.out.below hb4 Lt.out.lt)
 have zo:=Lib.hid (qy.out.below hb4)
 have HGf:=Lib.hid (AFu.out.below hb4)
 have Jl:=Lib.hid (Hb5.out.trans (hb4.mono Hb5.out.size))
 have YV:=Lib.hid (kS.out.below hb4)
 have HFa:Hid (Jw w4 259 A4 (Bp.flatMap OY)):=Lib.hid (by obtain⟨A,c,e,_,_,h,_⟩:=D5 SF;injection e with e;subst e;exact h)
 have Qk:=Lib.hid (HR.out.below Jl.out)
 have Jv:=Lib.hid (HT.out.below Jl.out)
 have Wp:=Lib.hid (HA.out.below Jl.out)
 have E9:=Lib.hid (HB.out.below Jl.out)
 have J2:=Lib.hid (AB.of_below (T:=Gd) Jl.out hbw)
 clear hb4 SF Jy VK Lt qy AFu Hb5 Jl kS HR HT HA HB
 generalize hq4:w.heap.size=g4 at *
 generalize hq6:g4+1=g6 at *
 generalize w1.heap.size=g8 at *
 clear hq4 hq6
 go_wp2_with fail
 go_loopw [34] (fun i wr=>∃ k:Nat,k≤mt∧i=.int .i64 (k:Int)∧CY wr base p (r++(l.take k).flatMap (GY lit far))∧AB base Gd w4 wr) (fun i _=>mt - (intOf i).toNat)
 case atStart=>exact⟨0,Nat.zero_le _,rfl,by rw[List.take_zero,List.flatMap_nil,List.append_nil];exact Qk.out,AB.refl _ _ _⟩
 case round=>
  clear Qk
  obtain⟨k,hk,rfl,hrow,hkp⟩:=hrel
  have Co:=Lib.hid hrow
  have NQ:=Lib.hid hkp
  have Jy:=Lib.hid (hkp.blk Po.out (by decide))
  have VK:=Lib.hid (hkp.blk U4.out (by decide))
  have Lt:=Lib.hid (hkp.blk kR.out (by decide))
  have hfl:=Ja (GY lit far) 48 (l.take k) (fun x hx=>YU lit far x C1.out C2.out)
  have htl:(l.take k).length≤k:=by simp;omega
  have hrl2:(r++(l.take k).flatMap (GY lit far)).length≤100200000:=by rw[List.length_append];omega
  clear hrow hkp hfl htl
  by_cases hlt:k < mt
  ·have hkl:k < l.length:=by rw[LT.out];exact hlt
   have bJ:=Lib.hid (Jv.out.keeps NQ.out (by decide))
   obtain⟨bt,ot,rfl,hc⟩:=EJ (size:=3) (fun _=>rfl) (by omega) bJ.out.Ib hkl
   have hc0:=hc 0 _ rfl
   have hc1:=hc 1 _ rfl
   have hc2:=hc 2 _ rfl
   simp only[Nat.add_zero]at hc0
   have hts:=zn.out _ (List.getElem_mem hkl)
   have RY:Hid ((l.take (k+1)).flatMap (GY lit far)=(l.take k).flatMap (GY lit far)++GY lit far l[k]):=Lib.hid (by
    rw[BI l k hkl,List.flatMap_append];simp)
   clear hc bJ
   generalize l[k]=t at *
   obtain⟨x,s,f⟩:=t
   have hx8:=Ql x
   unfold qp at hts
   dsimp only at hc0 hc1 hc2 hts
   simp only[Eh,iv]at hc0 hc1 hc2
   obtain⟨q,hq⟩:∃ q:Nat,(q:Int)=n8 x:=⟨x.toNat,rfl⟩
   have Hq:Hid (x.toNat=q):=Lib.hid (by unfold n8 at hq;omega)
   rw[←hq]at hc0 hx8
   clear hq
   generalize hr0:r++(l.take k).flatMap (GY lit far)=rr at *
   have Hr0:=Lib.hid hr0
   clear hr0
   have hbr:base≤wr.heap.size:=Nat.le_trans Co.out.1 (Nat.le_of_lt Co.out.lt)
   by_cases hs:s=0
   ·subst hs
    have Htb:Hid (GY lit far (x,0,f)=ER lit q):=Lib.hid (by unfold GY;rw[if_pos rfl,Hq.out])
    rw[Htb.out]at RY
    have BH:Below wr.heap.size wr (wr.alloc (.cells #[.int .u8 (q:Int),.int .i64 0,.int .i64 f] 244)):=(Below.refl _ _).alloc (Nat.le_refl _) _
    have Pq:=Lib.hid (NQ.out.trans (AB.of_below BH hbr))
    have AB6:IntKind.i64.wrap (q:Int)=(q:Int):=IntWalk.i64_in _ (by omega)
    have HP:=Lib.hid (R9 base p g4 g8 g6 n n ca q _ _ lit rr (wr.alloc (.cells #[.int .u8 (q:Int),.int .i64 0,.int .i64 f] 244)) (Co.out.below BH) (by rw[(Jy.out.below BH Jy.out.lt).cell];rfl) (by rw[(Lt.out.below BH Lt.out.lt).cell];rfl) (by rw[(VK.out.below BH VK.out.lt).cell];rfl)
     (zo.out.keeps Pq.out (by decide)) (Wp.out.keeps Pq.out (by decide)) L1.out hn (by omega) C1.out (by omega))
    clear hts BH
    go_wp2_with fail
    refine (HP.out).mono ?_
    rintro e w6 ⟨rfl,hrow,hkp⟩
    have qz:=Lib.hid hrow
    have LQ:=Lib.hid (Pq.out.trans hkp)
    clear hrow hkp HP Co NQ Pq
    go_wp2_with fail
    go_roundw
    case rel=>exact⟨k+1,by omega,by go_num,by rw[RY.out,←List.append_assoc,Hr0.out];exact qz.out,LQ.out⟩
    case measure=>simp[intOf];omega
   ·obtain⟨s',f',rfl,rfl,hs3,ALn,hf1,hf3⟩:=hts.resolve_left hs
    have hs1:((s':Int) == 0)=false:=by rw[beq_eq_false_iff_ne];omega
    obtain⟨j1,hj1⟩:∃ j,j=Di BG s':=⟨_,rfl⟩
    obtain⟨j2,hj2⟩:∃ j,j=Di Bp f':=⟨_,rfl⟩
    have hl1:j1 < 29:=by rw[hj1];exact Gp BG _ (by decide)
    have hl2:j2 < 30:=by rw[hj2];exact Gp Bp _ (by decide)
    have AJW:(BG.getD j1 (0,0)).1≤s':=by rw[hj1];exact RZ BG s' (by decide) hs3
    have AJX:(Bp.getD j2 (0,0)).1≤f':=by rw[hj2];exact RZ Bp f' (by decide) hf1
    have hb5:(BG.getD j1 (0,0)).2≤5:=(by decide:∀ k < 29,(BG.getD k (0,0)).2≤5) j1 hl1
    have AC3:(Bp.getD j2 (0,0)).2≤13:=(by decide:∀ k < 30,(Bp.getD k (0,0)).2≤13) j2 hl2
    have Htb:Hid (rr++GY lit far (x,(s':Int),(f':Int))=rr++ER lit (257+j1)++numBits (s' - (BG.getD j1 (0,0)).1) (BG.getD j1 (0,0)).2++ER far j2++numBits (f' - (Bp.getD j2 (0,0)).1) (Bp.getD j2 (0,0)).2):=Lib.hid (by
     unfold GY
     rw[if_neg (by dsimp only;omega)]
     dsimp only
     rw[Int.toNat_natCast,Int.toNat_natCast,←hj1,←hj2]
     simp only[List.append_assoc])
    have BH:Below wr.heap.size wr (wr.alloc (.cells #[.int .u8 (q:Int),.int .i64 (s':Int),.int .i64 (f':Int)] 244)):=(Below.refl _ _).alloc (Nat.le_refl _) _
    have Pq:=Lib.hid (NQ.out.trans (AB.of_below BH hbr))
    have Hn:=Lib.hid (AX.new wr 244 #[.int .u8 (q:Int),.int .i64 (s':Int),.int .i64 (f':Int)])
    have Hr4:=Lib.hid (Co.out.below BH)
    have bL:=Lib.hid (Ke A3 29 c3 BG s' (wr.alloc (.cells #[.int .u8 (q:Int),.int .i64 (s':Int),.int .i64 (f':Int)] 244)) rfl (by omega) (YV.out.keeps Pq.out (by decide)).Ib)
    rw[←hj1]at bL
    have Hj2:=Lib.hid hj2
    clear hts BH hj1 hj2 hs Co NQ Jy VK Lt
    go_wp2_with fail
    refine (bL.out).mono ?_
    rintro e w5 ⟨rfl,hb⟩
    have Hr5:=Lib.hid (Hr4.out.below hb)
    have L6:=Lib.hid (Pq.out.trans (AB.of_below hb (Nat.le_trans hbr (by simp))))
    have Hn5:=Lib.hid (Hn.out.below hb Hn.out.lt)
    clear hb bL Hr4 Pq Hn hc0 hc1 hc2
    generalize wr.heap.size=gt at *
    have hsum:IntKind.i64.wrap (257+(j1:Int))=((257+j1:Nat):Int):=IntWalk.i64_in _ (by omega)
    have HP:=Lib.hid (R9 base p g4 g8 g6 n n ca (257+j1) _ _ lit rr w5 Hr5.out (by rw[(L6.out.blk Po.out (by decide)).cell];rfl) (by rw[(L6.out.blk kR.out (by decide)).cell];rfl) (by rw[(L6.out.blk U4.out (by decide)).cell];rfl)
     (zo.out.keeps L6.out (by decide)) (Wp.out.keeps L6.out (by decide)) L1.out hn (by omega) C1.out (by omega))
    have hcl:(ER lit (257+j1)).length≤15:=by rw[Bv];exact C1.out.bits
    have hcf:(ER far j2).length≤15:=by rw[Bv];exact C2.out.bits
    obtain⟨rr1,AC4⟩:∃ z,z=rr++ER lit (257+j1):=⟨_,rfl⟩
    have AL6:rr1.length≤100200100:=by rw[AC4,List.length_append];omega
    rw[←AC4]at HP Htb
    generalize hrx:257+j1=rx at *
    clear hrx AC4 hcl
    go_wp2_with fail
    refine (HP.out).mono ?_
    rintro e w6 ⟨rfl,hrow,hkp⟩
    have Hr6:=Lib.hid hrow
    have LQ:=Lib.hid (L6.out.trans hkp)
    have Hn6:=Lib.hid (hkp.blk Hn5.out (by decide))
    clear hrow hkp HP Hr5 L6 Hn5 hsum
    -- how many more
    obtain⟨b3,o3,rfl,hd0,hd1⟩:=iN (YV.out.keeps LQ.out (by decide)) (i:=j1) (show j1 < 29 from hl1)
    have h4:w6.cell? ⟨g4,0,none⟩=some (.pointer (some ⟨p,0,none⟩)):=by rw[(LQ.out.blk Po.out (by decide)).cell];rfl
    have hn1:w6.cell? ⟨gt,1,none⟩=some (.int .i64 (s':Int)):=by rw[Hn6.out.cell];rfl
    generalize (BG.getD j1 (0,0)).1=fr1 at *
    generalize (BG.getD j1 (0,0)).2=bi1 at *
    obtain⟨d1,AFv⟩:∃ d,d=s' - fr1:=⟨_,rfl⟩
    have AFw:IntKind.i64.wrap ((s':Int) - (fr1:Int))=(d1:Int):=by rw[show (s':Int) - (fr1:Int)=(d1:Int) by omega];exact IntWalk.i64_in _ (by omega)
    have AL7:d1≤258:=by omega
    rw[←AFv]at Htb
    have AL8:(j1:Int) < 29:=by omega
    clear AFv AJW
    go_wp2_with fail
    go_still_tail 14,(by kernel_rfl)
    change wpList _ _ _ _ _ w6.drew
    have Hr7:Hid (CY w6.drew base p rr1):=Hr6
    have Uw:=Lib.hid (LQ.out.drew)
    have Hn7:Hid (AX w6.drew gt 244 #[.int .u8 (q:Int),.int .i64 (s':Int),.int .i64 (f':Int)]):=Hn6
    clear Hr6 LQ Hn6 hd0 hd1 h4 hn1
    generalize w6.drew=w7 at *
    have HP:=Lib.hid (CV base p d1 bi1 rr1 w7 Hr7.out (by omega) (by omega) (by omega))
    obtain⟨rr2,AC5⟩:∃ z,z=rr1++numBits d1 bi1:=⟨_,rfl⟩
    have AL9:rr2.length≤100200200:=by rw[AC5,List.length_append,AJ];omega
    rw[←AC5]at HP Htb
    clear AC5
    go_wp2_with fail
    refine (HP.out).mono ?_
    rintro e w8 ⟨rfl,hrow,hkp⟩
    have Hr8:=Lib.hid hrow
    have qQ:=Lib.hid (Uw.out.trans hkp)
    have Hn8:=Lib.hid (hkp.blk Hn7.out (by decide))
    clear hrow hkp HP Hr7 Uw Hn7 AFw
    -- which of how far
    have hn2:w8.cell? ⟨gt,2,none⟩=some (.int .i64 (f':Int)):=by rw[Hn8.out.cell];rfl
    have zq:=Lib.hid (Ke A4 30 c4 Bp f' w8 rfl (by omega) (HFa.out.keeps qQ.out (by decide)).Ib)
    rw[←Hj2.out]at zq
    go_wp2_with fail
    refine (zq.out).mono ?_
    rintro e w9 ⟨rfl,hb⟩
    have Hr9:=Lib.hid (Hr8.out.below hb)
    have HK9:=Lib.hid (qQ.out.trans (AB.of_below hb (Nat.le_trans Hr8.out.1 (Nat.le_of_lt Hr8.out.lt))))
    have Hn9:=Lib.hid (Hn8.out.below hb Hn8.out.lt)
    clear hb zq Hr8 qQ Hn8 hn2
    obtain⟨bF,oF,rfl,hcF⟩:=Gw (E9.out.keeps HK9.out (by decide)) (i:=j2) (by rw[L2.out];omega)
    obtain⟨bG,oG,hAG,hcG⟩:=Gw (HGf.out.keeps HK9.out (by decide)) (i:=j2) (by unfold I7;rw[List.length_map,List.length_range,L2.out];omega)
    injection hAG with hAG;injection hAG with e1 e2 e3;subst e1 e2
    rw[Lx far j2 (by rw[L2.out];omega)]at hcG
    have hcd:=Kc far j2 C2.out
    have hsz:=C2.out.bits (i:=j2)
    have VJ:Hid (ER far j2=hi (far.getD j2 0) (codeOf far j2)):=Lib.hid rfl
    have h4:w9.cell? ⟨g4,0,none⟩=some (.pointer (some ⟨p,0,none⟩)):=by rw[(HK9.out.blk Po.out (by decide)).cell];rfl
    generalize codeOf far j2=cd at *
    generalize far.getD j2 0=sz at *
    simp only[Nat.zero_add]at hcG
    have AMA:j2 < m:=by omega
    have AMB:(j2:Int) < (m:Int):=by omega
    go_wp2_with fail
    go_still_tail 9,(by kernel_rfl)
    change wpList _ _ _ _ _ w9.drew
    have AFx:Hid (CY w9.drew base p rr2):=Hr9
    have AFy:=Lib.hid (HK9.out.drew)
    have AFz:Hid (AX w9.drew gt 244 #[.int .u8 (q:Int),.int .i64 (s':Int),.int .i64 (f':Int)]):=Hn9
    clear Hr9 HK9 Hn9 hcF hcG h4
    generalize w9.drew=Le at *
    have HP:=Lib.hid (SC base p cd sz rr2 Le AFx.out (by omega) (by omega) (by omega))
    rw[←VJ.out]at HP
    obtain⟨rr3,AC6⟩:∃ z,z=rr2++ER far j2:=⟨_,rfl⟩
    have AMC:rr3.length≤100200300:=by rw[AC6,List.length_append];omega
    rw[←AC6]at HP Htb
    clear AC6 VJ hcf
    go_wp2_with fail
    refine (HP.out).mono ?_
    rintro e YW ⟨rfl,hrow,hkp⟩
    have AF0:=Lib.hid hrow
    have zt:=Lib.hid (AFy.out.trans hkp)
    have AF1:=Lib.hid (hkp.blk AFz.out (by decide))
    clear hrow hkp HP AFx AFy AFz
    -- how far more
    obtain⟨b5,o5,rfl,hd0,hd1⟩:=iN (HFa.out.keeps zt.out (by decide)) (i:=j2) (show j2 < 30 from hl2)
    have h4:YW.cell? ⟨g4,0,none⟩=some (.pointer (some ⟨p,0,none⟩)):=by rw[(zt.out.blk Po.out (by decide)).cell];rfl
    have hn2:YW.cell? ⟨gt,2,none⟩=some (.int .i64 (f':Int)):=by rw[AF1.out.cell];rfl
    generalize (Bp.getD j2 (0,0)).1=iO at *
    generalize (Bp.getD j2 (0,0)).2=bi2 at *
    obtain⟨d2,AF2⟩:∃ d,d=f' - iO:=⟨_,rfl⟩
    have hsub2:IntKind.i64.wrap ((f':Int) - (iO:Int))=(d2:Int):=by rw[show (f':Int) - (iO:Int)=(d2:Int) by omega];exact IntWalk.i64_in _ (by omega)
    have AMD:d2≤3000:=by omega
    rw[←AF2]at Htb
    have AME:(j2:Int) < 30:=by omega
    clear AF2 AJX
    go_wp2_with fail
    go_still_tail 14,(by kernel_rfl)
    change wpList _ _ _ _ _ YW.drew
    have AF3:Hid (CY YW.drew base p rr3):=AF0
    have AF4:=Lib.hid (zt.out.drew)
    clear AF0 zt AF1 hd0 hd1 h4 hn2
    generalize YW.drew=bM at *
    have HP:=Lib.hid (CV base p d2 bi2 rr3 bM AF3.out (by omega) (by omega) (by omega))
    rw[←Htb.out]at HP
    go_wp2_with fail
    refine (HP.out).mono ?_
    rintro e w13 ⟨rfl,hrow,hkp⟩
    have AJY:=Lib.hid hrow
    have AJZ:=Lib.hid (AF4.out.trans hkp)
    clear hrow hkp HP AF3 AF4 hsub2
    go_wp2_with fail
    go_roundw
    case rel=>exact⟨k+1,by omega,by go_num,by rw[RY.out,←List.append_assoc,Hr0.out];exact AJY.out,AJZ.out⟩
    case measure=>simp[intOf];omega
  ·obtain rfl:mt=k:=by omega
   have bN:Hid (l.take mt=l):=Lib.hid (List.take_of_length_le (by rw[LT.out];exact Nat.le_refl _))
   rw[bN.out]at Co hrl2
   have HP:=Lib.hid (R9 base p g4 g8 g6 n n ca 256 _ _ lit _ wr Co.out (by rw[Jy.out.cell];rfl) (by rw[Lt.out.cell];rfl) (by rw[VK.out.cell];rfl)
     (zo.out.keeps NQ.out (by decide)) (Wp.out.keeps NQ.out (by decide)) L1.out hn (by omega) C1.out (by omega))
   go_wp2_with fail
   refine (HP.out).mono ?_
   rintro e w6 ⟨rfl,hrow,hkp⟩
   have qz:=Lib.hid hrow
   have LQ:=Lib.hid (J2.out.trans (NQ.out.trans hkp))
   clear hrow hkp HP Co NQ
   go_wp2_with fail
   go_end0
   exact⟨rfl,by have:=qz.out;rw[List.append_assoc]at this;exact this,LQ.out⟩
end Go.Proofs.YtabdianhoabhhaaGreatDoor.AX
