/- texts joined: ZipEnt CodeCheck Nats Row0 Src CodeTable CodeNext InfFail InfStored InfTable BlkFixed InfFixed ShelfMul InfRepeat RegS RegT. -/
import Derived.Test.YtabdianhoabhhaaGreatDoorZbQ1
import Derived.StillTailTactics
import Derived.Deep.CutRange
import Derived.Deep.CutBlock
import Derived.WalkSpells
import Derived.Deep.QuietTactic
import Derived.BigQuiet
import Derived.Test.YtabdianhoabhhaaGreatDoorProg
import Derived.WalkSmall
import Derived.Shelf.Bits.Mul64
import Derived.Laws.CopyOwn
import Derived.Deep.RegionHeld3
import Derived.Deep.RegionLaw
namespace Go.Proofs.YtabdianhoabhhaaGreatDoor.Zip
open Go Go.RowKit Go.Proofs.YtabdianhoabhhaaGreatDoor Go.Proofs.YtabdianhoabhhaaGreatDoor.Bits Go.Proofs.YtabdianhoabhhaaGreatDoor.Merge Go.Proofs.YtabdianhoabhhaaGreatDoor.Name
set_option linter.unusedVariables false
set_option linter.unusedSimpArgs false
structure Ex where
 e:Ent
 bs:Sl3
 pk:Sl3
 at_:Nat
def eC (x:Ex):List Value:=[.string (strB x.e.f.name),slv x.bs,.int .i64 x.e.f.stamp,.int .i64 x.e.f.node,.bool x.e.f.gone,.int .i64 (x.e.method:Int),slv x.pk,.int .u32 (x.e.crc:Int),.int .i64 (x.at_:Int)]
def eV (x:Ex):Value:=.agg #[.string (strB x.e.f.name),slv x.bs,.int .i64 x.e.f.stamp,.int .i64 x.e.f.node,.bool x.e.f.gone,.int .i64 (x.e.method:Int),slv x.pk,.int .u32 (x.e.crc:Int),.int .i64 (x.at_:Int)]
structure EntAt (w:World) (x:Ex):Prop where
 blen:x.bs.2.1=x.e.f.bytes.length
 broom:x.e.f.bytes.length≤x.bs.2.2
 bcap:x.bs.2.2≤maxLen
 bat:ByAt w x.bs.1 x.e.f.bytes
 plen:x.pk.2.1=x.e.packed.length
 proom:x.e.packed.length≤x.pk.2.2
 pcap:x.pk.2.2≤maxLen
 pat:ByAt w x.pk.1 x.e.packed
theorem EntAt.below {w w':World} {x:Ex} (h:EntAt w x) (hb:Below w.heap.size w w'):EntAt w' x:=⟨h.blen,h.broom,h.bcap,ByAt.below h.bat hb,h.plen,h.proom,h.pcap,ByAt.below h.pat hb⟩
theorem eC_len (x:Ex):(eC x).length=9:=rfl
theorem e_cells {w:World} {p:Nat} {x:Ex} (hB:Blk w p 78 (eC x).toArray):w.cell? ⟨p,0,none⟩=some (.string (strB x.e.f.name))∧w.cell? ⟨p,1,none⟩=some (slv x.bs)∧w.cell? ⟨p,2,none⟩=some (.int .i64 x.e.f.stamp)∧w.cell? ⟨p,3,none⟩=some (.int .i64 x.e.f.node)∧w.cell? ⟨p,4,none⟩=some (.bool x.e.f.gone)∧
  w.cell? ⟨p,5,none⟩=some (.int .i64 (x.e.method:Int))∧w.cell? ⟨p,6,none⟩=some (slv x.pk)∧w.cell? ⟨p,7,none⟩=some (.int .u32 (x.e.crc:Int))∧w.cell? ⟨p,8,none⟩=some (.int .i64 (x.at_:Int)):=by
 refine⟨?_,?_,?_,?_,?_,?_,?_,?_,?_⟩ <;> rw[hB.cell] <;> rfl
def OwnB (w:World) (base:Nat) (v:Value) (xs:List UInt8):Prop:=w.ownsRow base 5 1 v xs.length (xs.map u8v)
theorem OwnB.nil (w:World) (base:Nat):OwnB w base (.slice none 0 0) []:=World.ownsRow_nil _ _ _ _
theorem OwnB.keep {w w':World} {base:Nat} {v:Value} {xs:List UInt8} (h:OwnB w base v xs) (hb:Below w.heap.size w w'):OwnB w' base v xs:=own_keep h hb
theorem OwnB.slice {w:World} {base:Nat} {v:Value} {xs:List UInt8} (h:OwnB w base v xs):∃ A c,v=.slice A xs.length c∧xs.length≤c∧c≤maxLen∧ByAt w A xs∧(A=none→xs.length=0):=own_slat h
theorem num_on (base:Nat) (v:Value) (xs:List UInt8) (n size:Nat) (w:World) (h:OwnB w base v xs) (hb:base≤w.heap.size) (hs:size≤10) (hn:n < 4611686018427387904) (hx:xs.length≤1000000) :
  Calls Tryz.prog 65 #[v,.int .i64 (n:Int),.int .i64 (size:Int)] w fun e w'=>(∃ v',e=.returned v'∧OwnB w' base v' (xs++lowB size n))∧Below base w w':=number_any base v xs n size w h hb hs hn hx
theorem num_z (base:Nat) (v:Value) (xs:List UInt8) (n size:Nat) (z sz:Int) (w:World) (h:OwnB w base v xs) (hb:base≤w.heap.size) (hz:z=(n:Int)) (hsz:sz=(size:Int)) (hs:size≤10) (hn:n < 4611686018427387904) (hx:xs.length≤1000000) :
  Calls Tryz.prog 65 #[v,.int .i64 z,.int .i64 sz] w fun e w'=>(∃ v',e=.returned v'∧OwnB w' base v' (xs++lowB size n))∧Below base w w':=by
 rw[hz,hsz]
 exact num_on base v xs n size w h hb hs hn hx
set_option maxRecDepth 100000 in
set_option maxHeartbeats 1600000 in
theorem extra_any (x:Ex) (w:World) (hg:Good x.e) :
  Calls Tryz.prog 85 #[eV x] w fun e w'=>(∃ v,e=.returned v∧OwnB w' w.heap.size v (extraB x.e.f))∧Below w.heap.size w w':=by
 obtain⟨⟨⟨name,bytes,stamp,node,gone⟩,method,packed,crc⟩,⟨bA,bn,bc⟩,⟨pA,pn,pc⟩,at_⟩:=x
 obtain⟨st,hst0⟩:∃ st:Nat,stamp=(st:Int):=⟨stamp.toNat,by have:=hg.stamp;dsimp only at this;omega⟩
 obtain⟨nd,hnd0⟩:∃ nd:Nat,node=(nd:Int):=⟨node.toNat,by have:=hg.node;dsimp only at this;omega⟩
 subst hst0 hnd0
 have hst:st < 4294967296:=by have:=hg.stamp;dsimp only at this;omega
 have hnd:nd < 65536:=by have:=hg.node;dsimp only at this;omega
 have hcrc:crc < 4294967296:=hg.crc
 have hmeth:method < 65536:=by rcases hg.method with h | h <;> (dsimp only at h;omega)
 have hplen:packed.length < 4294967296:=hg.packed
 have hblen:bytes.length < 4294967296:=hg.size
 have hnlen:name.length < 65536:=hg.name
 clear hg
 unfold eV slv extraB
 dsimp only
 rw[Int.toNat_natCast,Int.toNat_natCast]
 generalize strB name=S at *
 have hgn:goneN gone≤1:=by unfold goneN;split <;> omega
 generalize hgn0:goneN gone=gn at *
 have Hgn:=Lib.hid hgn0.symm
 clear hgn0
 go_enter Tryz.func85,Tryz.ntmps85
 obtain⟨b,hb⟩:∃ b,b=w.heap.size+1:=⟨_,rfl⟩
 have hbel:Below w.heap.size w (w.alloc (.cells #[.string S,.slice bA bn bc,.int .i64 (st:Int),.int .i64 (nd:Int),.bool gone,.int .i64 (method:Int),.slice pA pn pc,.int .u32 (crc:Int),.int .i64 (at_:Int)] 78)):=(Below.refl _ _).alloc (Nat.le_refl _) _
 have hblk:Blk (w.alloc (.cells #[.string S,.slice bA bn bc,.int .i64 (st:Int),.int .i64 (nd:Int),.bool gone,.int .i64 (method:Int),.slice pA pn pc,.int .u32 (crc:Int),.int .i64 (at_:Int)] 78)) w.heap.size 78 #[.string S,.slice bA bn bc,.int .i64 (st:Int),.int .i64 (nd:Int),.bool gone,.int .i64 (method:Int),.slice pA pn pc,.int .u32 (crc:Int),.int .i64 (at_:Int)]:=Blk.new _ _ _
 have hsz:(w.alloc (.cells #[.string S,.slice bA bn bc,.int .i64 (st:Int),.int .i64 (nd:Int),.bool gone,.int .i64 (method:Int),.slice pA pn pc,.int .u32 (crc:Int),.int .i64 (at_:Int)] 78)).heap.size=b:=by rw[hb];simp
 go_upto_region 2 with fail
 generalize w.alloc (.cells #[.string S,.slice bA bn bc,.int .i64 (st:Int),.int .i64 (nd:Int),.bool gone,.int .i64 (method:Int),.slice pA pn pc,.int .u32 (crc:Int),.int .i64 (at_:Int)] 78)=w1 at *
 have HB1:=Lib.hid hblk
 have Hb1:=Lib.hid hbel
 have hbs1:b≤w1.heap.size:=by omega
 clear hblk hbel
 have c4:w1.cell? ⟨w.heap.size,4,none⟩=some (.bool gone):=HB1.out.cell 4
 go_upto_if 7 with fail
 go_cut [3] from 3 to 3 (fun v wx=>v=.int .i64 (gn:Int)∧wx=w1)
 case first=>
  cases gone with
  | true=>
   go_wp2_with fail
   go_meet
   case rel=>exact⟨by rw[Hgn.out];rfl,rfl⟩
  | false=>
   go_wp2_with fail
   go_meet
   case rel=>exact⟨by rw[Hgn.out];rfl,rfl⟩
 case rest=>
  obtain⟨rfl,rfl⟩:=hcut
  rename World=>w1
  clear c4 Hgn
  have HN:=Lib.hid (num_z b (.slice none 0 0) _ 29297 2 29297 2 w1 (OwnB.nil _ _) hbs1 rfl rfl (by omega) (by omega) (by simp[lowB_len]))
  go_wp2_with fail
  refine (HN.out).mono ?_
  rintro e w2 ⟨⟨v2,rfl,ho2⟩,hb2⟩
  have HB2:=Lib.hid (HB1.out.below hb2 (by omega))
  have Hb2:=Lib.hid (Hb1.out.trans (hb2.mono (by omega)))
  have hbs2:b≤w2.heap.size:=Nat.le_trans hbs1 hb2.size
  clear hb2 HN HB1 Hb1 hbs1
  have HN:=Lib.hid (num_z b v2 _ 7 2 7 2 w2 ho2 hbs2 rfl rfl (by omega) (by omega) (by simp[lowB_len]))
  clear ho2
  go_wp2_with fail
  refine (HN.out).mono ?_
  rintro e w3 ⟨⟨v3,rfl,ho3⟩,hb3⟩
  have HB3:=Lib.hid (HB2.out.below hb3 (by omega))
  have Hb3:=Lib.hid (Hb2.out.trans (hb3.mono (by omega)))
  have hbs3:b≤w3.heap.size:=Nat.le_trans hbs2 hb3.size
  clear hb3 HN HB2 Hb2 hbs2
  have c2:w3.cell? ⟨w.heap.size,2,none⟩=some (.int .i64 (st:Int)):=HB3.out.cell 2
  have HN:=Lib.hid (num_z b v3 _ st 4 (st:Int) 4 w3 ho3 hbs3 rfl rfl (by omega) (by omega) (by simp[lowB_len]))
  clear ho3
  go_wp2_with fail
  refine (HN.out).mono ?_
  rintro e w4 ⟨⟨v4,rfl,ho4⟩,hb4⟩
  have HB4:=Lib.hid (HB3.out.below hb4 (by omega))
  have Hb4:=Lib.hid (Hb3.out.trans (hb4.mono (by omega)))
  have hbs4:b≤w4.heap.size:=Nat.le_trans hbs3 hb4.size
  clear hb4 HN HB3 Hb3 hbs3
  clear c2
  have c3:w4.cell? ⟨w.heap.size,3,none⟩=some (.int .i64 (nd:Int)):=HB4.out.cell 3
  have HN:=Lib.hid (num_z b v4 _ nd 2 (nd:Int) 2 w4 ho4 hbs4 rfl rfl (by omega) (by omega) (by simp[lowB_len]))
  clear ho4
  go_wp2_with fail
  refine (HN.out).mono ?_
  rintro e w5 ⟨⟨v5,rfl,ho5⟩,hb5⟩
  have HB5:=Lib.hid (HB4.out.below hb5 (by omega))
  have Hb5:=Lib.hid (Hb4.out.trans (hb5.mono (by omega)))
  have hbs5:b≤w5.heap.size:=Nat.le_trans hbs4 hb5.size
  clear hb5 HN HB4 Hb4 hbs4
  clear c3
  have HN:=Lib.hid (num_z b v5 _ gn 1 (gn:Int) 1 w5 ho5 hbs5 rfl rfl (by omega) (by omega) (by simp[lowB_len]))
  clear ho5
  go_wp2_with fail
  refine (HN.out).mono ?_
  rintro e w6 ⟨⟨v6,rfl,ho6⟩,hb6⟩
  have HB6:=Lib.hid (HB5.out.below hb6 (by omega))
  have Hb6:=Lib.hid (Hb5.out.trans (hb6.mono (by omega)))
  have hbs6:b≤w6.heap.size:=Nat.le_trans hbs5 hb6.size
  clear hb6 HN HB5 Hb5 hbs5
  go_wp2_with fail
  go_ret
  exact⟨⟨_,rfl,own_base ho6 (by omega)⟩,Hb6.out⟩
set_option maxRecDepth 100000 in
set_option maxHeartbeats 1600000 in
theorem middle_any (x:Ex) (w:World) (hg:Good x.e) (hbl:x.bs.2.1=x.e.f.bytes.length) (hpl:x.pk.2.1=x.e.packed.length) :
  Calls Tryz.prog 84 #[eV x] w fun e w'=>(∃ v,e=.returned v∧OwnB w' w.heap.size v (middleB x.e))∧Below w.heap.size w w':=by
 have HX:=Lib.hid (fun w'=>extra_any x w' hg)
 obtain⟨⟨⟨name,bytes,stamp,node,gone⟩,method,packed,crc⟩,⟨bA,bn,bc⟩,⟨pA,pn,pc⟩,at_⟩:=x
 obtain⟨st,hst0⟩:∃ st:Nat,stamp=(st:Int):=⟨stamp.toNat,by have:=hg.stamp;dsimp only at this;omega⟩
 obtain⟨nd,hnd0⟩:∃ nd:Nat,node=(nd:Int):=⟨node.toNat,by have:=hg.node;dsimp only at this;omega⟩
 subst hst0 hnd0
 have hst:st < 4294967296:=by have:=hg.stamp;dsimp only at this;omega
 have hnd:nd < 65536:=by have:=hg.node;dsimp only at this;omega
 have hcrc:crc < 4294967296:=hg.crc
 have hmeth:method < 65536:=by rcases hg.method with h | h <;> (dsimp only at h;omega)
 have hplen:packed.length < 4294967296:=hg.packed
 have hblen:bytes.length < 4294967296:=hg.size
 have hnlen:name.length < 65536:=hg.name
 unfold eV slv at HX
 dsimp only at HX hbl hpl
 clear hg
 unfold eV slv middleB
 dsimp only
 rw[←hbl]at hblen⊢
 rw[←hpl]at hplen⊢
 have hsn:(strB name).size=name.length:=strB_size name
 clear hbl hpl
 have hxl:=extra_len (⟨name,bytes,(st:Int),(nd:Int),gone⟩:Fl)
 generalize extraB (⟨name,bytes,(st:Int),(nd:Int),gone⟩:Fl)=XB at *
 have HXl:Hid (XB.length=11):=Lib.hid hxl
 clear hxl
 generalize strB name=S at *
 generalize name.length=nl at *
 go_enter Tryz.func84,Tryz.ntmps84
 obtain⟨b,hb⟩:∃ b,b=w.heap.size+1:=⟨_,rfl⟩
 have hbel:Below w.heap.size w (w.alloc (.cells #[.string S,.slice bA bn bc,.int .i64 (st:Int),.int .i64 (nd:Int),.bool gone,.int .i64 (method:Int),.slice pA pn pc,.int .u32 (crc:Int),.int .i64 (at_:Int)] 78)):=(Below.refl _ _).alloc (Nat.le_refl _) _
 have hblk:Blk (w.alloc (.cells #[.string S,.slice bA bn bc,.int .i64 (st:Int),.int .i64 (nd:Int),.bool gone,.int .i64 (method:Int),.slice pA pn pc,.int .u32 (crc:Int),.int .i64 (at_:Int)] 78)) w.heap.size 78 #[.string S,.slice bA bn bc,.int .i64 (st:Int),.int .i64 (nd:Int),.bool gone,.int .i64 (method:Int),.slice pA pn pc,.int .u32 (crc:Int),.int .i64 (at_:Int)]:=Blk.new _ _ _
 have hsz:(w.alloc (.cells #[.string S,.slice bA bn bc,.int .i64 (st:Int),.int .i64 (nd:Int),.bool gone,.int .i64 (method:Int),.slice pA pn pc,.int .u32 (crc:Int),.int .i64 (at_:Int)] 78)).heap.size=b:=by rw[hb];simp
 go_upto_region 1 with fail
 generalize w.alloc (.cells #[.string S,.slice bA bn bc,.int .i64 (st:Int),.int .i64 (nd:Int),.bool gone,.int .i64 (method:Int),.slice pA pn pc,.int .u32 (crc:Int),.int .i64 (at_:Int)] 78)=w1 at *
 have HB1:=Lib.hid hblk
 have Hb1:=Lib.hid hbel
 have hbs1:b≤w1.heap.size:=by omega
 clear hblk hbel
 have HN:=Lib.hid (num_z b (.slice none 0 0) _ 20 2 20 2 w1 (OwnB.nil _ _) hbs1 rfl rfl (by omega) (by omega) (by simp[lowB_len]))
 go_wp2_with fail
 refine (HN.out).mono ?_
 rintro e w2 ⟨⟨v2,rfl,ho2⟩,hb2⟩
 have HB2:=Lib.hid (HB1.out.below hb2 (by omega))
 have Hb2:=Lib.hid (Hb1.out.trans (hb2.mono (by omega)))
 have hbs2:b≤w2.heap.size:=Nat.le_trans hbs1 hb2.size
 clear hb2 HN HB1 Hb1 hbs1
 have HN:=Lib.hid (num_z b v2 _ 0 2 0 2 w2 ho2 hbs2 rfl rfl (by omega) (by omega) (by simp[lowB_len]))
 clear ho2
 go_wp2_with fail
 refine (HN.out).mono ?_
 rintro e w3 ⟨⟨v3,rfl,ho3⟩,hb3⟩
 have HB3:=Lib.hid (HB2.out.below hb3 (by omega))
 have Hb3:=Lib.hid (Hb2.out.trans (hb3.mono (by omega)))
 have hbs3:b≤w3.heap.size:=Nat.le_trans hbs2 hb3.size
 clear hb3 HN HB2 Hb2 hbs2
 have c5:w3.cell? ⟨w.heap.size,5,none⟩=some (.int .i64 (method:Int)):=HB3.out.cell 5
 have HN:=Lib.hid (num_z b v3 _ method 2 (method:Int) 2 w3 ho3 hbs3 rfl rfl (by omega) (by omega) (by simp[lowB_len]))
 clear ho3
 go_wp2_with fail
 refine (HN.out).mono ?_
 rintro e w4 ⟨⟨v4,rfl,ho4⟩,hb4⟩
 have HB4:=Lib.hid (HB3.out.below hb4 (by omega))
 have Hb4:=Lib.hid (Hb3.out.trans (hb4.mono (by omega)))
 have hbs4:b≤w4.heap.size:=Nat.le_trans hbs3 hb4.size
 clear hb4 HN HB3 Hb3 hbs3
 clear c5
 have HN:=Lib.hid (num_z b v4 _ 0 4 0 4 w4 ho4 hbs4 rfl rfl (by omega) (by omega) (by simp[lowB_len]))
 clear ho4
 go_wp2_with fail
 refine (HN.out).mono ?_
 rintro e w5 ⟨⟨v5,rfl,ho5⟩,hb5⟩
 have HB5:=Lib.hid (HB4.out.below hb5 (by omega))
 have Hb5:=Lib.hid (Hb4.out.trans (hb5.mono (by omega)))
 have hbs5:b≤w5.heap.size:=Nat.le_trans hbs4 hb5.size
 clear hb5 HN HB4 Hb4 hbs4
 have hcw:IntKind.i64.wrap (crc:Int)=(crc:Int):=IntWalk.i64_in _ (by omega)
 have c7:w5.cell? ⟨w.heap.size,7,none⟩=some (.int .u32 (crc:Int)):=HB5.out.cell 7
 have HN:=Lib.hid (num_z b v5 _ crc 4 (crc:Int) 4 w5 ho5 hbs5 rfl rfl (by omega) (by omega) (by simp[lowB_len]))
 clear ho5
 go_wp2_with fail
 refine (HN.out).mono ?_
 rintro e w6 ⟨⟨v6,rfl,ho6⟩,hb6⟩
 have HB6:=Lib.hid (HB5.out.below hb6 (by omega))
 have Hb6:=Lib.hid (Hb5.out.trans (hb6.mono (by omega)))
 have hbs6:b≤w6.heap.size:=Nat.le_trans hbs5 hb6.size
 clear hb6 HN HB5 Hb5 hbs5
 clear c7 hcw
 have c6:w6.cell? ⟨w.heap.size,6,none⟩=some (.slice pA pn pc):=HB6.out.cell 6
 have HN:=Lib.hid (num_z b v6 _ pn 4 (pn:Int) 4 w6 ho6 hbs6 rfl rfl (by omega) (by omega) (by simp[lowB_len]))
 clear ho6
 go_wp2_with fail
 refine (HN.out).mono ?_
 rintro e w7 ⟨⟨v7,rfl,ho7⟩,hb7⟩
 have HB7:=Lib.hid (HB6.out.below hb7 (by omega))
 have Hb7:=Lib.hid (Hb6.out.trans (hb7.mono (by omega)))
 have hbs7:b≤w7.heap.size:=Nat.le_trans hbs6 hb7.size
 clear hb7 HN HB6 Hb6 hbs6
 clear c6
 have c1:w7.cell? ⟨w.heap.size,1,none⟩=some (.slice bA bn bc):=HB7.out.cell 1
 have HN:=Lib.hid (num_z b v7 _ bn 4 (bn:Int) 4 w7 ho7 hbs7 rfl rfl (by omega) (by omega) (by simp[lowB_len]))
 clear ho7
 go_wp2_with fail
 refine (HN.out).mono ?_
 rintro e w8 ⟨⟨v8,rfl,ho8⟩,hb8⟩
 have HB8:=Lib.hid (HB7.out.below hb8 (by omega))
 have Hb8:=Lib.hid (Hb7.out.trans (hb8.mono (by omega)))
 have hbs8:b≤w8.heap.size:=Nat.le_trans hbs7 hb8.size
 clear hb8 HN HB7 Hb7 hbs7
 clear c1
 have c0:w8.cell? ⟨w.heap.size,0,none⟩=some (.string S):=HB8.out.cell 0
 have HN:=Lib.hid (num_z b v8 _ nl 2 (nl:Int) 2 w8 ho8 hbs8 rfl rfl (by omega) (by omega) (by simp[lowB_len]))
 clear ho8
 go_wp2_with fail
 refine (HN.out).mono ?_
 rintro e w9 ⟨⟨v9,rfl,ho9⟩,hb9⟩
 have HB9:=Lib.hid (HB8.out.below hb9 (by omega))
 have Hb9:=Lib.hid (Hb8.out.trans (hb9.mono (by omega)))
 have hbs9:b≤w9.heap.size:=Nat.le_trans hbs8 hb9.size
 clear hb9 HN HB8 Hb8 hbs8
 clear c0
 have c0:w9.cell? ⟨w.heap.size,0,none⟩=some (.string S):=HB9.out.cell 0
 have c1:w9.cell? ⟨w.heap.size,1,none⟩=some (.slice bA bn bc):=HB9.out.cell 1
 have c2:w9.cell? ⟨w.heap.size,2,none⟩=some (.int .i64 (st:Int)):=HB9.out.cell 2
 have c3:w9.cell? ⟨w.heap.size,3,none⟩=some (.int .i64 (nd:Int)):=HB9.out.cell 3
 have c4:w9.cell? ⟨w.heap.size,4,none⟩=some (.bool gone):=HB9.out.cell 4
 have c5:w9.cell? ⟨w.heap.size,5,none⟩=some (.int .i64 (method:Int)):=HB9.out.cell 5
 have c6:w9.cell? ⟨w.heap.size,6,none⟩=some (.slice pA pn pc):=HB9.out.cell 6
 have c7:w9.cell? ⟨w.heap.size,7,none⟩=some (.int .u32 (crc:Int)):=HB9.out.cell 7
 have c8:w9.cell? ⟨w.heap.size,8,none⟩=some (.int .i64 (at_:Int)):=HB9.out.cell 8
 go_wp2_with fail
 refine (HX.out w9).mono ?_
 rintro e w10 ⟨⟨vx,rfl,hox⟩,hb10⟩
 obtain⟨Ax,cx,rfl,_⟩:=hox.slice
 rw[HXl.out]
 have ho10:=ho9.keep hb10
 have Hb10:=Lib.hid (Hb9.out.trans (hb10.mono (by omega)))
 have hbs10:b≤w10.heap.size:=Nat.le_trans hbs9 hb10.size
 clear hox hb10 HB9 ho9 Hb9 hbs9 c0 c1 c2 c3 c4 c5 c6 c7 c8
 have HN:=Lib.hid (num_z b v9 _ 11 2 11 2 w10 ho10 hbs10 rfl rfl (by omega) (by omega) (by simp[lowB_len]))
 clear ho10
 go_wp2_with fail
 refine (HN.out).mono ?_
 rintro e w11 ⟨⟨v11,rfl,ho11⟩,hb11⟩
 have Hb11:=Lib.hid (Hb10.out.trans (hb11.mono (by omega)))
 clear hb11 HN Hb10
 go_wp2_with fail
 go_ret
 exact⟨⟨_,rfl,own_base ho11 (by omega)⟩,Hb11.out⟩
end Go.Proofs.YtabdianhoabhhaaGreatDoor.Zip
namespace Go.Proofs.YtabdianhoabhhaaGreatDoor.Code
open Go Go.RowKit Go.Proofs.YtabdianhoabhhaaGreatDoor
set_option linter.unusedVariables false
theorem any_take (zs:List Int) (k:Nat) (h:k < zs.length) (h1:(zs.take k).any badLen=false) (h2:badLen zs[k]=false):(zs.take (k+1)).any badLen=false:=by
 rw[take_snoc _ _ h,List.any_append,h1];simp[h2]
theorem chk_range (zs:List Int) (k:Nat) (h:k < zs.length) (hl:zs.length≤288) (h2:badLen zs[k]=true):chkL zs=3:=by
 unfold chkL
 rw[if_neg (by omega),if_pos (List.any_eq_true.2 ⟨_,List.getElem_mem h,h2⟩)]
theorem chk_done (zs:List Int) (hl:zs.length≤288) (h:zs.any badLen=false):chkL zs=if 32768 < room (lsOf zs) then 8 else 0:=by
 unfold chkL
 rw[if_neg (by omega),if_neg (by rw[h];simp)]
theorem two_up (m:Nat):(2:Int) ^ m=((2 ^ m:Nat):Int):=by simp
set_option maxRecDepth 100000 in
set_option maxHeartbeats 1600000 in
theorem check_few (A:Option Addr) (n c:Nat) (zs:List Int) (w:World) (hn:zs.length=n) (hx:n≤288) (hA:InAt w A zs) :
  Calls Tryz.prog 231 #[.slice A n c] w fun e w'=>e=.returned (.int .i64 (chkL zs))∧w'=w:=by
 have Hn:=Lib.hid hn
 have HA:=Lib.hid hA
 clear hn hA
 have hnm:¬ (288 < (n:Int)):=by omega
 go_enter Tryz.func231,Tryz.ntmps231
 go_wp2_with fail
 go_loop [3,11] (fun r i=>∃ k:Nat,k≤n∧i=.int .i64 (k:Int)∧(zs.take k).any badLen=false∧r=.int .i64 ((room (lsOf (zs.take k)):Nat):Int)) (fun _ i=>n - (intOf i).toNat)
 case atStart=>exact⟨0,Nat.zero_le _,rfl,rfl,rfl⟩
 case round=>
  obtain⟨k,hk,rfl,hany,rfl⟩:=hrel
  have Hany:=Lib.hid hany
  clear hany
  have hroom:room (lsOf (zs.take k))≤9437184:=by
   have h1:=room_le (lsOf (zs.take k))
   have h2:(lsOf (zs.take k)).length≤288:=by unfold lsOf;rw[List.length_map,List.length_take];omega
   omega
  by_cases hlt:k < n
  ·have hkl:k < zs.length:=by rw[Hn.out];exact hlt
   obtain⟨b,o,rfl,hc⟩:=HA.out.get hkl
   have Hr:=Lib.hid (room_take zs k hkl)
   have Hany2:=Lib.hid (any_take zs k hkl Hany.out)
   have Hbad:=Lib.hid (chk_range zs k hkl (by rw[Hn.out];exact hx))
   generalize room (lsOf (zs.take k))=r at *
   generalize zs[k]=z at *
   by_cases h1:z < 0
   ·have Hf:=Lib.hid (Hbad.out (by simp[badLen,h1]))
    clear Hbad Hany2 Hr
    go_wp2_with fail
    go_ret
    exact⟨ret_int Hf.out.symm,rfl⟩
   ·by_cases h2:15 < z
    ·have Hf:=Lib.hid (Hbad.out (by simp[badLen,h2]))
     clear Hbad Hany2 Hr
     go_wp2_with fail
     go_ret
     exact⟨ret_int Hf.out.symm,rfl⟩
    ·obtain⟨x,rfl⟩:=Int.eq_ofNat_of_zero_le (by omega:0≤z)
     have Ha:=Lib.hid (Hany2.out (by simp[badLen];omega))
     rw[Int.toNat_natCast]at Hr
     clear Hbad Hany2
     by_cases h0:x=0
     ·subst h0
      have Hr':Hid (room (lsOf (zs.take (k+1)))=r):=Lib.hid (by rw[Hr.out];rfl)
      go_wp2_with fail
      go_round
      case rel=>exact⟨k+1,by omega,by go_num,Ha.out,by rw[Hr'.out]⟩
      case measure=>simp[intOf];omega
     ·have hx1:1≤x:=by omega
      have h0i:(0:Int) < (x:Int):=by omega
      have Hr':Hid (room (lsOf (zs.take (k+1)))=r+2 ^ (15 - x)):=Lib.hid (by rw[Hr.out,if_neg h0])
      have h3:(2:Nat) ^ (15 - x)≤2 ^ 15:=Nat.pow_le_pow_right (by omega) (by omega)
      have ht:=two_up (15 - x)
      generalize 2 ^ (15 - x)=y at *
      go_wp2_with fail
      go_round
      case rel=>exact⟨k+1,by omega,by go_num,Ha.out,by rw[Hr'.out];go_num⟩
      case measure=>simp[intOf];omega
  ·obtain rfl:k=n:=by omega
   have hal:=Hany.out
   have Htk:=Lib.hid (List.take_of_length_le (by rw[Hn.out];omega:zs.length≤k))
   rw[Htk.out]at hal hroom⊢
   have Hf:=Lib.hid (chk_done zs (by rw[Hn.out];exact hx) hal)
   clear hal
   generalize room (lsOf zs)=r at *
   by_cases h3:32768 < r
   ·have Hr:Hid (chkL zs=8):=Lib.hid (by rw[Hf.out,if_pos h3])
    go_wp2_with fail
    go_ret
    exact⟨ret_int Hr.out.symm,rfl⟩
   ·have Hr:Hid (chkL zs=0):=Lib.hid (by rw[Hf.out,if_neg h3])
    go_wp2_with fail
    go_ret
    exact⟨ret_int Hr.out.symm,rfl⟩
theorem check_any (A:Option Addr) (n c:Nat) (zs:List Int) (w:World) (hn:zs.length=n) (hx:n≤maxLen) (hA:InAt w A zs) :
  Calls Tryz.prog 231 #[.slice A n c] w fun e w'=>e=.returned (.int .i64 (chkL zs))∧w'=w:=by
 by_cases h:n≤288
 ·exact check_few A n c zs w hn h hA
 ·have Hc:Hid (chkL zs=2):=Lib.hid (by unfold chkL;rw[if_pos (by omega)])
  have hnm:288 < (n:Int):=by omega
  unfold maxLen at hx
  clear hn hA
  go_enter Tryz.func231,Tryz.ntmps231
  go_wp2_with fail
  go_ret
  exact⟨ret_int Hc.out.symm,rfl⟩
end Go.Proofs.YtabdianhoabhhaaGreatDoor.Code
namespace Go.Proofs.YtabdianhoabhhaaGreatDoor.Code
open Go Go.RowKit Go.Proofs.YtabdianhoabhhaaGreatDoor
set_option linter.unusedVariables false
def natV (n:Nat):Value:=.int .i64 (n:Int)
theorem infoI:(Tryz.prog.info? 3).map (fun i=>(i.zero,i.size,i.bytes))=some (some (.int .i64 0),1,8):=by kernel_rfl
theorem make_ints (n:Nat) (hn:n≤1000000) (u:World):(Instr.makeSlice 89 (.int .i64 (n:Int)) (.int .i64 (n:Int))).run Tryz.prog u =
   .ok (.slice (some ⟨u.heap.size,0,none⟩) n n) (u.alloc (.cells (madeCells #[.int .i64 0] n) 3)):=by
 obtain⟨i0,hi,hz0,hz1,hz2⟩:=info_parts infoI
 have h:=run_make (P:=Tryz.prog) u 89 3 i0 (.int .i64 0) Tryz.underlying89 hi hz0 .i64 .i64 (n:Int) (n:Int) (by omega) (Int.le_refl _) (by rw[hz2];omega) (by omega)
 simpa [hz1,Value.cells] using h
def nats (l:List Nat):Array Value:=(l.map natV).toArray
theorem nats_zero (n:Nat):madeCells #[.int .i64 0] n=nats (List.replicate n 0):=by
 unfold madeCells nats
 apply Array.ext'
 simp
 apply List.ext_getElem
 ·simp
 ·intro i h1 h2
  simp[natV,Nat.mod_one]
theorem nats_set (l:List Nat) (i x:Nat):(nats l).setIfInBounds i (.int .i64 (x:Int))=nats (l.set i x):=by
 unfold nats
 apply Array.ext'
 simp[List.map_set,natV]
theorem nats_get (l:List Nat) (i:Nat) (h:i < l.length):(nats l)[i]?=some (.int .i64 (l[i]:Int)):=by
 simp[nats,h,natV]
theorem getD_of (zs:List Int) (k:Nat) (h:k < zs.length):(lsOf zs).getD k 0=zs[k].toNat:=by
 simp[lsOf,List.getD_eq_getElem?_getD,h]
theorem lsOf_len (zs:List Int):(lsOf zs).length=zs.length:=by simp[lsOf]
end Go.Proofs.YtabdianhoabhhaaGreatDoor.Code
namespace Go.Proofs.YtabdianhoabhhaaGreatDoor.Bits
open Go Go.RowKit Go.Proofs.YtabdianhoabhhaaGreatDoor
set_option linter.unusedVariables false
theorem ty8:SliceTy Tryz.prog 23 5 (.int .u8 0) 1 1:=⟨Tryz.underlying23,by kernel_rfl,rfl,by omega⟩
theorem and_bit64 (n k:Nat) (h:n < 9223372036854775808):bits .and .i64 ((n:Int) / 2 ^ k) 1=((n.testBit k).toNat:Int):=by
 have h2:(n:Int) / 2 ^ k=((n / 2 ^ k:Nat):Int):=by simp
 have hlt:n / 2 ^ k < 9223372036854775808:=Nat.lt_of_le_of_lt (Nat.div_le_self _ _) h
 have hx:BitVec.ofInt 64 ((n / 2 ^ k:Nat):Int)=BitVec.ofNat 64 (n / 2 ^ k):=by rw[BitVec.ofInt_natCast]
 rw[h2]
 show IntKind.i64.wrap ((BitVec.ofInt 64 ((n / 2 ^ k:Nat):Int) &&& BitVec.ofInt 64 (1:Int)).toNat:Int)=_
 have h1:(BitVec.ofInt 64 ((n / 2 ^ k:Nat):Int) &&& BitVec.ofInt 64 (1:Int)).toNat=(n / 2 ^ k) % 2:=by
  rw[hx,BitVec.toNat_and,BitVec.toNat_ofNat,Nat.mod_eq_of_lt (by omega),show (BitVec.ofInt 64 (1:Int)).toNat=1 from rfl,nat_mask1]
 rw[h1,Nat.toNat_testBit];exact IntWalk.i64_in _ (by omega)
def bitI (b:Bool):Int:=(b.toNat:Int)
theorem and_bitI (n k:Nat) (h:n < 9223372036854775808):bits .and .i64 ((n:Int) / 2 ^ k) 1=bitI (n.testBit k):=and_bit64 n k h
end Go.Proofs.YtabdianhoabhhaaGreatDoor.Bits
namespace Go.Proofs.YtabdianhoabhhaaGreatDoor.Bits
open Go Go.RowKit Go.Proofs.YtabdianhoabhhaaGreatDoor
set_option linter.unusedVariables false
def SrcAt (w:World) (p:Nat) (A:Option Addr) (n c:Nat) (pos:Nat):Prop:=Blk w p 213 #[.slice A n c,.int .i64 (pos:Int)]
def srcT:List TypeId:=[213]
theorem u8_and_bitI (x:UInt8) (r:Nat):bits .and .u8 (n8 x / 2 ^ r) 1=bitI (x.toNat.testBit r):=by
 have hx:=x.toNat_lt
 have hlt:x.toNat / 2 ^ r < 256:=Nat.lt_of_le_of_lt (Nat.div_le_self _ _) hx
 have h2:n8 x / 2 ^ r=((x.toNat / 2 ^ r:Nat):Int):=by unfold n8;simp
 rw[h2,show (1:Int)=((1:Nat):Int) from rfl,u8_and_nat _ _ hlt (by omega),nat_mask1]
 unfold bitI;rw[Nat.toNat_testBit]
theorem bitI_bd (b:Bool):0≤bitI b∧bitI b≤1:=by cases b <;> decide
theorem or64 (a b i:Nat) (ha:a % 2 ^ i=0) (hb:b < 2 ^ i) (hs:a+b < 9223372036854775808):bits .or .i64 (a:Int) (b:Int)=((a+b:Nat):Int):=by
 have h1:BitVec.ofInt 64 (a:Int)=BitVec.ofNat 64 a:=by rw[BitVec.ofInt_natCast]
 have h2:BitVec.ofInt 64 (b:Int)=BitVec.ofNat 64 b:=by rw[BitVec.ofInt_natCast]
 show IntKind.i64.wrap ((BitVec.ofInt 64 (a:Int) ||| BitVec.ofInt 64 (b:Int)).toNat:Int)=_
 rw[h1,h2,BitVec.toNat_or,BitVec.toNat_ofNat,BitVec.toNat_ofNat,Nat.mod_eq_of_lt (by omega),Nat.mod_eq_of_lt (by omega),nat_join i a b ha hb]
 exact IntWalk.i64_in _ (by omega)
theorem or_comm64 (a b:Int):bits .or .i64 a b=bits .or .i64 b a:=by
 show IntKind.i64.wrap ((BitVec.ofInt 64 a ||| BitVec.ofInt 64 b).toNat:Int)=IntKind.i64.wrap ((BitVec.ofInt 64 b ||| BitVec.ofInt 64 a).toNat:Int)
 rw[BitVec.or_comm]
theorem or_bit64 (n k:Nat) (b:Bool) (hn:n < 2 ^ k) (hk:k≤61):bits .or .i64 (n:Int) (wrap64 (bitI b*2 ^ k))=((n+b.toNat*2 ^ k:Nat):Int):=by
 have h2:2 ^ k≤2 ^ 61:=Nat.pow_le_pow_right (by omega) hk
 have hb:b.toNat≤1:=by cases b <;> simp
 have hbb:b.toNat*2 ^ k≤1*2 ^ k:=Nat.mul_le_mul_right _ hb
 have e:bitI b*2 ^ k=((b.toNat*2 ^ k:Nat):Int):=by unfold bitI;simp
 have e2:wrap64 ((b.toNat*2 ^ k:Nat):Int)=((b.toNat*2 ^ k:Nat):Int):=by unfold wrap64;omega
 rw[e,e2,or_comm64,or64 _ _ k (Nat.mul_mod_left _ _) hn (by omega),Nat.add_comm]
theorem slat_setCell {w:World} {A:Option Addr} {cs:List Value} (h:SlAt w A cs) {p:Addr} (hne:∀ b o,A=some ⟨b,o,none⟩→0 < cs.length→b≠p.block) (u:Value):SlAt (w.setCell p u) A cs:=fun hp=>by
 obtain⟨b,o,e,hc⟩:=h hp
 refine⟨b,o,e,fun j v hj=>?_⟩
 rw[World.cell?_of_block (Below.heap_setCell w p u b (hne b o e hp))]
 exact hc j v hj
theorem num_take_snoc (l:List Bool) (k:Nat) (h:k < l.length):num (l.take (k+1))=num (l.take k)+l[k].toNat*2 ^ k:=by
 rw[take_snoc _ _ h,num_append]
 simp[num,Nat.min_eq_left (Nat.le_of_lt h)]
 exact Nat.mul_comm _ _
theorem of_any (A:Option Addr) (n c:Nat) (w:World) :
  Calls Tryz.prog 121 #[.slice A n c] w fun e w'=>e=.returned (.pointer (some ⟨w.heap.size,0,none⟩))∧SrcAt w' w.heap.size A n c 0∧Below w.heap.size w w':=by
 go_enter Tryz.func121,Tryz.ntmps121
 go_wp2
 go_ret
 exact⟨rfl,Blk.new w _ _,(Below.refl _ _).alloc (Nat.le_refl _) _⟩
def GetPost (p:Nat) (A:Option Addr) (n c pos size:Nat) (xs:List UInt8) (w:World) (e:Ending) (w':World):Prop:=
  (pos+size≤8*n∧e=.returned (.tuple #[.int .i64 (num (((bitsL xs).drop pos).take size):Nat),.bool true])∧SrcAt w' p A n c (pos+size)∨
   8*n < pos+size∧e=.returned (.tuple #[.int .i64 0,.bool false])∧∃ q,SrcAt w' p A n c q)∧Keeps p srcT w w'
set_option maxRecDepth 100000 in
set_option maxHeartbeats 1600000 in
theorem get_any (p:Nat) (A:Option Addr) (n c pos size:Nat) (xs:List UInt8) (w:World) (h:SrcAt w p A n c pos) (hn:xs.length=n) (hA:ByAt w A xs) (hs:size≤61) (hp:pos≤8*n) (hnn:n≤1099511627776) (hbx:∀ b o,A=some ⟨b,o,none⟩→0 < n→b≠p) :
  Calls Tryz.prog 200 #[.pointer (some ⟨p,0,none⟩),.int .i64 (size:Int)] w (GetPost p A n c pos size xs w):=by
 have H:=Lib.hid h
 have Hn:=Lib.hid hn
 have HA:=Lib.hid hA
 have Hbx:=Lib.hid hbx
 clear h hn hA hbx
 go_enter Tryz.func200,Tryz.ntmps200
 go_wp2_with fail
 go_loopw [6,9] (fun a i wr=>∃ k:Nat,k≤size∧pos+k≤8*n∧i=.int .i64 k∧a=.int .i64 (num (((bitsL xs).drop pos).take k):Nat)∧SrcAt wr p A n c (pos+k)∧Keeps p srcT w wr∧ByAt wr A xs) (fun _ i _=>size - (intOf i).toNat)
 case atStart=>exact⟨0,Nat.zero_le _,hp,rfl,rfl,H.out,Keeps.refl _ _ _,HA.out⟩
 case round=>
  obtain⟨k,hk,hpk,rfl,rfl,hsrc,hkeep,hby⟩:=hrel
  have Hsrc:=Lib.hid hsrc
  have Hkeep:=Lib.hid hkeep
  have Hby:=Lib.hid hby
  have e0:=hsrc.c0
  have e1:=hsrc.c1
  have z1:=hsrc.frozen 1
  obtain⟨q,hq⟩:∃ q,q=pos+k:=⟨_,rfl⟩
  rw[←hq]at e1 hpk Hsrc
  have Hq:=Lib.hid hq
  clear hsrc hkeep hby hq
  by_cases hlt:k < size
  ·by_cases hin:q < 8*n
   ·have hql:q < (bitsL xs).length:=by rw[bitsL_length,Hn.out];exact hin
    have hkd:k < ((bitsL xs).drop pos).length:=by rw[List.length_drop];have:=Hq.out;omega
    have hx:q / 8 < xs.length:=by rw[Hn.out];omega
    obtain⟨b,o,rfl,hc⟩:=Hby.out.get hx
    have Hnum:=Lib.hid (num_take_snoc ((bitsL xs).drop pos) k hkd)
    have hbit:((bitsL xs).drop pos)[k]=xs[q / 8].toNat.testBit (q % 8):=by
     have h1:=bitsL_get xs q (by rw[Hn.out];exact hin)
     rw[List.getElem_drop]
     have h2:(bitsL xs)[pos+k]?=(bitsL xs)[q]?:=by rw[Hq.out]
     rw[h1]at h2
     have h3:(bitsL xs)[pos+k]'(by have:=Hq.out;omega)=xs[q / 8].toNat.testBit (q % 8):=by
      have h4:=List.getElem?_eq_getElem (l:=bitsL xs) (i:=pos+k) (by have:=Hq.out;omega)
      rw[h4]at h2
      injection h2 with h2
      rw[h2];simp[List.getD,hx]
     exact h3
    rw[hbit]at Hnum
    have hnlt:num (((bitsL xs).drop pos).take k) < 2 ^ k:=by
     have:=num_lt (((bitsL xs).drop pos).take k)
     rwa [List.length_take,Nat.min_eq_left (by omega)]at this
    have hor:=or_bit64 _ k (xs[q / 8].toNat.testBit (q % 8)) hnlt (by omega)
    have hand:=u8_and_bitI xs[q / 8] (q % 8)
    generalize num (((bitsL xs).drop pos).take k)=m at *
    generalize xs[q / 8]=x at *
    generalize x.toNat.testBit (q % 8)=bb at *
    have hbb:=bitI_bd bb
    have hr8:q % 8 < 8:=by omega
    have hge:¬ (8*(n:Int)≤(q:Int)):=by omega
    clear hbit hx
    go_wp2_with fail
    go_quiet (fail)
    go_wp2_with fail
    go_quiet (fail)
    go_wp2_with fail
    go_roundw
    case rel=>
     refine⟨k+1,by omega,by have:=Hq.out;omega,by go_num,int_eq (by rw[Hnum.out];simp),?_,?_,?_⟩
     ·have h2:((pos+(k+1):Nat):Int)=(q:Int)+1:=by have:=Hq.out;omega
      unfold SrcAt
      rw[h2];exact Blk.s1 (Blk.drewN Hsrc.out _) _
     ·exact (Hkeep.out.drewN _).setBlk (Hsrc.out.drewN _) (by simp[srcT]) (Nat.le_refl _) 1 _
     ·exact slat_setCell (Hby.out) (fun b' o' e _=>Hbx.out b' o' e (by omega)) _
    case measure=>simp[intOf];omega
   ·have hge:8*(n:Int)≤(q:Int):=by omega
    go_wp2_with fail
    go_quiet (fail)
    go_wp2_with fail
    go_ret2
    exact⟨.inr ⟨by have:=Hq.out;omega,rfl,q,Hsrc.out⟩,Hkeep.out.drewN _⟩
  ·have hk2:k=size:=by omega
   have Hk2:=Lib.hid hk2
   clear hk2
   go_wp2_with fail
   go_ret2
   refine⟨.inl ⟨by have:=Hq.out;have:=Hk2.out;omega,by rw[←Hk2.out];rfl,?_⟩,Hkeep.out⟩
   have h1:=Hsrc.out
   rw[Hq.out,Hk2.out]at h1
   exact h1
end Go.Proofs.YtabdianhoabhhaaGreatDoor.Bits
namespace Go.Proofs.YtabdianhoabhhaaGreatDoor.Code
open Go Go.RowKit Go.Proofs.YtabdianhoabhhaaGreatDoor Go.Proofs.YtabdianhoabhhaaGreatDoor.Bits
set_option linter.unusedVariables false
theorem tyI:SliceTy Tryz.prog 89 3 (.int .i64 0) 1 8:=⟨Tryz.underlying89,by kernel_rfl,rfl,by omega⟩
def tab (cs:List Nat) (v:Value):Array Value:=(cs.map natV++[v]).toArray
theorem tab_get (cs:List Nat) (v:Value) (i:Nat) (h:i < cs.length):(tab cs v)[i]?=some (.int .i64 (cs[i]:Int)):=by
 simp[tab,List.getElem?_append_left,h,natV]
theorem tab_last (cs:List Nat) (v:Value):(tab cs v)[cs.length]?=some v:=by
 simp[tab]
theorem tab_set (cs:List Nat) (v:Value) (i x:Nat) (h:i < cs.length):(tab cs v).setIfInBounds i (.int .i64 (x:Int))=tab (cs.set i x) v:=by
 unfold tab
 apply Array.ext'
 simp[natV,h]
theorem tab_setv (cs:List Nat) (v u:Value):(tab cs v).setIfInBounds cs.length u=tab cs u:=by
 unfold tab
 apply Array.ext'
 simp
def cnk (ls:List Nat) (k:Nat):List Nat:=(List.range 16).map fun s=>(ordN (ls.take k) s).length
theorem cnk_length (ls:List Nat) (k:Nat):(cnk ls k).length=16:=by simp[cnk]
theorem cnk_zero (ls:List Nat):cnk ls 0=List.replicate 16 0:=by simp[cnk,ordN];decide
theorem cnk_get (ls:List Nat) (k s:Nat) (h:s < 16):(cnk ls k)[s]'(by rw[cnk_length];exact h)=(ordN (ls.take k) s).length:=by simp[cnk]
theorem cnk_next (ls:List Nat) (k:Nat) (h:k < ls.length) (h15:ls.getD k 0 < 16):cnk ls (k+1)=(cnk ls k).set (ls.getD k 0) ((ordN (ls.take k) (ls.getD k 0)).length+1):=by
 apply List.ext_getElem
 ·simp[cnk]
 ·intro i h1 h2
  have hi:i < 16:=by simpa [cnk] using h1
  rw[cnk_get _ _ _ hi,ordN_take ls k i h,List.getElem_set]
  by_cases hx:ls.getD k 0=i
  ·rw[if_pos hx,if_pos hx,hx];simp
  ·rw[if_neg hx,if_neg hx,cnk_get _ _ _ hi];simp
def cntL (ls:List Nat):List Nat:=(List.range 16).map (cnt ls)
theorem cntL_of (ls:List Nat):(cnk ls ls.length).set 0 0=cntL ls:=by
 apply List.ext_getElem
 ·simp[cnk,cntL]
 ·intro i h1 h2
  have hi:i < 16:=by simpa [cnk] using h1
  rw[List.getElem_set]
  simp only[cntL,List.getElem_map,List.getElem_range]
  by_cases hx:0=i
  ·rw[if_pos hx,←hx];rfl
  ·rw[if_neg hx,cnk_get _ _ _ hi,List.take_length];unfold cnt;rw[if_neg (by omega)]
theorem cntL_length (ls:List Nat):(cntL ls).length=16:=by simp[cntL]
theorem cntL_get (ls:List Nat) (s:Nat) (h:s < 16):(cntL ls)[s]'(by rw[cntL_length];exact h)=cnt ls s:=by simp[cntL]
def TabAt (w:World) (base p:Nat) (ls:List Nat):Prop:=base≤p∧∃ v,Blk w p 264 (tab (cntL ls) v)∧w.ownsRow base 3 1 v (ordUp ls 15).length ((ordUp ls 15).map natV)
theorem ordUp_le (ls:List Nat) (t:Nat):(ordUp ls t).length≤t*ls.length:=by
 induction t with
 | zero=>simp[ordUp]
 | succ t ih=>
  rw[ordUp_succ,List.length_append,Nat.succ_mul]
  have:=ordN_len_le ls (t+1)
  omega
set_option maxRecDepth 100000 in
set_option maxHeartbeats 1600000 in
theorem make_any (A:Option Addr) (n c:Nat) (zs:List Int) (w:World) (hn:zs.length=n) (hA:InAt w A zs) (hc:chkL zs=0) :
  Calls Tryz.prog 163 #[.slice A n c] w fun e w'=>(∃ p,e=.returned (.pointer (some ⟨p,0,none⟩))∧TabAt w' w.heap.size p (lsOf zs))∧Below w.heap.size w w':=by
 obtain⟨f1,f2,f3,f4,f5⟩:=chk_fine zs hc
 have hx:n≤288:=by omega
 have Hl:=Lib.hid (lsOf_len zs)
 rw[hn]at Hl
 have H5:=Lib.hid f5
 have Hn:=Lib.hid hn
 have HA:=Lib.hid hA
 have Hcz:=Lib.hid (cnk_zero (lsOf zs))
 clear hn hA hc f1 f2 f3 f4 f5
 go_enter Tryz.func163,Tryz.ntmps163
 go_wp2_with fail
 generalize hg:w.heap.size=g at *
 have Hg:=Lib.hid hg
 clear hg
 go_loopw [13] (fun i wr=>∃ k:Nat,k≤n∧i=.int .i64 (k:Int)∧Blk wr g 264 (tab (cnk (lsOf zs) k) (.slice none 0 0))∧Below w.heap.size w wr) (fun i _=>n - (intOf i).toNat)
 case atStart=>
  refine⟨0,Nat.zero_le _,rfl,?_,(Below.refl _ _).alloc (Nat.le_refl _) _⟩
  rw[Hcz.out,←Hg.out];exact Blk.new w _ _
 case round=>
  obtain⟨k,hk,rfl,hblk,hb⟩:=hrel
  have Hblk:=Lib.hid hblk
  have Hb:=Lib.hid hb
  clear hblk hb
  by_cases hlt:k < n
  ·have hkl:k < zs.length:=by rw[Hn.out];exact hlt
   have hkl2:k < (lsOf zs).length:=by rw[Hl.out];exact hlt
   obtain⟨b,o,rfl,hcell⟩:=(HA.out.below Hb.out).get hkl
   have hz:=H5.out zs[k] (List.getElem_mem hkl)
   have Hd:=Lib.hid (getD_of zs k hkl)
   have Hs:=Lib.hid (cnk_next (lsOf zs) k hkl2)
   rw[Hd.out]at Hs
   generalize zs[k]=z at *
   obtain⟨x,rfl⟩:=Int.eq_ofNat_of_zero_le hz.1
   rw[Int.toNat_natCast]at Hs
   have hx16:x < 16:=by omega
   have hxl:x < (cnk (lsOf zs) k).length:=by rw[cnk_length];exact hx16
   have hcc:wr.cell? ⟨g,x,none⟩=some (.int .i64 ((ordN ((lsOf zs).take k) x).length:Int)):=by rw[Hblk.out.cell,tab_get _ _ _ hxl,cnk_get _ _ _ hx16]
   have hfz:=Hblk.out.frozen x
   have hq:(ordN ((lsOf zs).take k) x).length≤288:=by
    have h1:=ordN_len_le ((lsOf zs).take k) x
    have h2:((lsOf zs).take k).length≤k:=by simp;omega
    omega
   generalize (ordN ((lsOf zs).take k) x).length=q at *
   go_wp2_with fail
   go_region
   go_wp2_with fail
   go_roundw
   case rel=>
    refine⟨k+1,by omega,by go_num,?_,?_⟩
    ·rw[Hs.out hx16,←tab_set _ _ _ _ hxl];exact (Hblk.out.set_ x _).drew
    ·exact (Hb.out.setCell (by show w.heap.size≤g;rw[Hg.out];exact Nat.le_refl _) _).drew
   case measure=>simp[intOf];omega
  ·obtain rfl:k=n:=by omega
   have h0l:0 < (cnk (lsOf zs) k).length:=by rw[cnk_length];omega
   have Hlen:=Lib.hid (cnk_length (lsOf zs) k)
   have Hcf:Hid ((cnk (lsOf zs) k).set 0 0=cntL (lsOf zs)):=Lib.hid (by rw[←cntL_of,Hl.out])
   have hfz:=Hblk.out.frozen 0
   have hcc:wr.cell? ⟨g,0,none⟩=some (.int .i64 (((cnk (lsOf zs) k)[0]'h0l:Nat):Int)):=by rw[Hblk.out.cell,tab_get _ _ _ h0l]
   generalize (cnk (lsOf zs) k)[0]'h0l=q at *
   have Hb1:=Lib.hid (Hb.out.setCell (p:=⟨g,0,none⟩) (by show w.heap.size≤g;rw[Hg.out];exact Nat.le_refl _) (.int .i64 0))
   have Hblk1:Hid (Blk (wr.setCell ⟨g,0,none⟩ (.int .i64 0)) g 264 (tab (cntL (lsOf zs)) (.slice none 0 0))):=Lib.hid (by
    rw[←Hcf.out]
    have:=tab_set (cnk (lsOf zs) k) (.slice none 0 0) 0 0 h0l
    rw[←this];exact Hblk.out.set_ 0 _)
   go_wp2_with fail
   clear hcc hfz
   generalize wr.setCell ⟨g,0,none⟩ (.int .i64 0)=wz at *
   clear Hb Hblk Hcf
   go_loopw [6] (fun s wo=>∃ t:Nat,t≤15∧s=.int .i64 ((t:Int)+1)∧(∃ v,Blk wo g 264 (tab (cntL (lsOf zs)) v)∧wo.ownsRow w.heap.size 3 1 v (ordUp (lsOf zs) t).length ((ordUp (lsOf zs) t).map natV))∧Below w.heap.size w wo) (fun s _=>17 - (intOf s).toNat)
   case atStart=>exact⟨0,Nat.zero_le _,rfl,⟨_,Hblk1.out,⟨rfl,.inl ⟨rfl,rfl⟩⟩⟩,Hb1.out⟩
   case round=>
    obtain⟨t,ht,rfl,⟨v,hblk,hown⟩,hb⟩:=hrel
    have Hblk:=Lib.hid hblk
    have Hown:=Lib.hid hown
    have Hb:=Lib.hid hb
    clear hblk hb hown
    by_cases hlt:t < 15
    ·have e15:decide ((t:Int)+1≤15)=true:=by simp;omega
     go_wp2_with fail
     clear e15
     go_loopw [38] (fun i wx=>∃ j:Nat,j≤k∧i=.int .i64 (j:Int)∧(∃ v,Blk wx g 264 (tab (cntL (lsOf zs)) v)∧wx.ownsRow w.heap.size 3 1 v (ordUp (lsOf zs) t++ordN ((lsOf zs).take j) (t+1)).length ((ordUp (lsOf zs) t++ordN ((lsOf zs).take j) (t+1)).map natV))∧Below w.heap.size w wx) (fun i _=>k - (intOf i).toNat)
     case atStart=>exact⟨0,Nat.zero_le _,rfl,⟨v,Hblk.out,by simpa [ordN] using Hown.out⟩,Hb.out⟩
     case round=>
      obtain⟨j,hj,rfl,⟨v2,hblk,hown⟩,hb⟩:=hrel
      by_cases hjk:j < k
      ·have hjl:j < zs.length:=by rw[Hn.out];exact hjk
       have hjl2:j < (lsOf zs).length:=by rw[Hl.out];exact hjk
       obtain⟨b,o,rfl,hcell⟩:=(HA.out.below hb).get hjl
       have hz:=H5.out zs[j] (List.getElem_mem hjl)
       have Hd:=Lib.hid (getD_of zs j hjl)
       have Ht:=Lib.hid (ordN_take (lsOf zs) j (t+1) hjl2)
       rw[Hd.out]at Ht
       have hN:(ordUp (lsOf zs) t++ordN ((lsOf zs).take j) (t+1)).length≤100000:=by
        rw[List.length_append]
        have h1:=ordUp_le (lsOf zs) t
        have h2:=ordN_len_le ((lsOf zs).take j) (t+1)
        have h3:((lsOf zs).take j).length≤j:=by simp;omega
        rw[Hl.out]at h1
        have h4:t*k≤15*k:=Nat.mul_le_mul_right _ ht
        omega
       generalize zs[j]=z at *
       obtain⟨x,rfl⟩:=Int.eq_ofNat_of_zero_le hz.1
       rw[Int.toNat_natCast]at Ht
       generalize hys:ordUp (lsOf zs) t++ordN ((lsOf zs).take j) (t+1)=ys at *
       have Hys:=Lib.hid hys
       clear hys
       generalize hNN:ys.length=N at *
       have HN:=Lib.hid hNN
       clear hNN
       by_cases hxt:x=t+1
       ·have e1:((x:Int) == (t:Int)+1)=true:=by simp;omega
        have Hr:Hid (ordUp (lsOf zs) t++ordN ((lsOf zs).take (j+1)) (t+1)=ys++[j]):=Lib.hid (by rw[Ht.out,if_pos hxt,←List.append_assoc,Hys.out])
        clear Ht hxt
        have hc16:wr.cell? ⟨g,16,none⟩=some v2:=by rw[hblk.cell,←cntL_length (lsOf zs),tab_last]
        have Hown2:=Lib.hid (hown.alloc (.cells #[.int .i64 (j:Int)] 3))
        have Hsl:=Lib.hid (slat_one wr 3 (.int .i64 (j:Int)))
        have Hblk2:=Lib.hid (hblk.alloc (.cells #[.int .i64 (j:Int)] 3))
        have Hb2:=Lib.hid (hb.alloc hb.size (.cells #[.int .i64 (j:Int)] 3))
        have Hbs:=Lib.hid Hb2.out.size
        clear hblk hown hb
        go_wp2_with (at_builtin;refine wpList_app _ rfl (.tmp 50) (.tmp 52) _ rfl w.heap.size 3 _ 1 8 tyI v2 N (ys.map natV) rfl Hown2.out (some ⟨wr.heap.size,0,none⟩) 1 1 [.int .i64 (j:Int)] rfl rfl Hsl.out (by simp[Value.oneCell']) (by simp) (by unfold maxLen;omega) (by omega) Hbs.out ?_;intro v3 w3 hown3 hg3 _;obtain⟨g3,c3,hv3,_,_⟩:=hown3.form (by omega);subst hv3;have Ho3:=Lib.hid hown3;have Hb3:=Lib.hid (Hblk2.out.grown hg3 (own_ne Hown2.out Hblk2.out (by decide)));have Hk3:=Lib.hid (own_below Hown2.out hg3 Hb2.out Hbs.out);clear hown3 hg3;have hy16:=Hb3.out.frozen 16;have hd16:w3.cell? ⟨g,16,none⟩=some v2:=(by rw[Hb3.out.cell,←cntL_length (lsOf zs),tab_last]))
        go_roundw
        case rel=>
         refine⟨j+1,by omega,by go_num,⟨Go.Value.slice (some ⟨g3,0,none⟩) (N+1) c3,?_,?_⟩,?_⟩
         ·have:=tab_setv (cntL (lsOf zs)) v2 (Go.Value.slice (some ⟨g3,0,none⟩) (N+1) c3)
          rw[cntL_length]at this
          rw[←this];exact Hb3.out.set_ 16 _
         ·rw[Hr.out,List.length_append,HN.out,List.map_append]
          exact ownsRow_setCell_other Ho3.out (a:=⟨g,16,none⟩) (by exact own_ne Ho3.out Hb3.out (by decide)) _
         ·exact Hk3.out.setCell (by show w.heap.size≤g;rw[Hg.out];exact Nat.le_refl _) _
        case measure=>simp[intOf];omega
       ·have e1:((x:Int) == (t:Int)+1)=false:=by simp;omega
        have Hr:Hid (ordUp (lsOf zs) t++ordN ((lsOf zs).take (j+1)) (t+1)=ys):=Lib.hid (by rw[Ht.out,if_neg hxt,List.append_nil,Hys.out])
        have Hblk:=Lib.hid hblk
        have Hown:=Lib.hid hown
        have Hb:=Lib.hid hb
        clear Ht hxt hblk hown hb
        go_wp2_with fail
        go_roundw
        case rel=>exact⟨j+1,by omega,by go_num,⟨v2,Hblk.out,by rw[Hr.out,HN.out];exact Hown.out⟩,Hb.out⟩
        case measure=>simp[intOf];omega
      ·obtain rfl:j=k:=by omega
       have Hall:Hid ((lsOf zs).take j=lsOf zs):=Lib.hid (List.take_of_length_le (by rw[Hl.out];omega))
       have Hblk:=Lib.hid hblk
       have Hown:=Lib.hid hown
       have Hb:=Lib.hid hb
       clear hblk hown hb
       rw[Hall.out,←ordUp_succ]at Hown
       go_wp2_with fail
       go_roundw
       case rel=>exact⟨t+1,by omega,by go_num,⟨v2,Hblk.out,Hown.out⟩,Hb.out⟩
       case measure=>simp[intOf];omega
    ·obtain rfl:t=15:=by omega
     go_wp2_with fail
     go_ret
     exact⟨⟨g,rfl,by rw[Hg.out];exact Nat.le_refl _,v,Hblk.out,Hown.out⟩,Hb.out⟩
end Go.Proofs.YtabdianhoabhhaaGreatDoor.Code
namespace Go.Proofs.YtabdianhoabhhaaGreatDoor.Code
open Go Go.RowKit Go.Proofs.YtabdianhoabhhaaGreatDoor Go.Proofs.YtabdianhoabhhaaGreatDoor.Bits
set_option linter.unusedVariables false
theorem val_next (row:List Bool) (t:Nat) (h:t < row.length):val (row.take (t+1))=2*val (row.take t)+num ((row.drop t).take 1):=by
 rw[take_snoc _ _ h,val_snoc,List.drop_eq_getElem_cons h]
 show 2*_+_=2*_+num [row[t]]
 simp[num]
theorem one_bit (l:List Bool):num (l.take 1)≤1:=by
 have:=num_lt (l.take 1)
 have h2:(l.take 1).length≤1:=by rw[List.length_take];omega
 have h3:2 ^ (l.take 1).length≤2 ^ 1:=Nat.pow_le_pow_right (by omega) h2
 omega
theorem or_next (v b:Nat) (hv:v≤1000000) (hb:b≤1):Go.bits .or .i64 (2*(v:Int)) (b:Int)=((2*v+b:Nat):Int):=by
 have:=or64 (2*v) b 1 (by omega) (by omega) (by omega)
 rwa [Int.natCast_mul]at this
theorem SlAt.keepsB {w w':World} {A:Option Addr} {cs:List Value} {q:Nat} {T:List TypeId} (h:SlAt w A cs) (hk:Keeps q T w w') (hlt:∀ b o,A=some ⟨b,o,none⟩→0 < cs.length→b < q):SlAt w' A cs:=fun hp=>by
 obtain⟨b,o,e,hc⟩:=h hp
 refine⟨b,o,e,fun j v hj=>?_⟩
 rw[World.cell?_of_block (hk.block b (hlt b o e hp))]
 exact hc j v hj
def NextPost (q:Nat) (A:Option Addr) (n c pos:Nat) (xs:List UInt8) (ls:List Nat) (w:World) (e:Ending) (w':World):Prop:=
 (∃ k m x,next ls ((bitsL xs).drop pos)=(k,m,x)∧e=.returned (.tuple #[.int .i64 (k:Int),.int .i64 x])∧(x=0→SrcAt w' q A n c (pos+m)∧pos+m≤8*n))∧Keeps q srcT w w'
theorem TabAt.keeps {w w':World} {base p q:Nat} {ls:List Nat} (h:TabAt w base p ls) (hk:Keeps q srcT w w'):TabAt w' base p ls:=by
 obtain⟨h1,v,h2,h3⟩:=h
 exact⟨h1,v,hk.blk h2 (by simp[srcT]),hk.own h3 (by simp[srcT])⟩
theorem TabAt.cnt {w:World} {base p:Nat} {ls:List Nat} (h:TabAt w base p ls) (s:Nat) (hs:s < 16):w.cell? ⟨p,s,none⟩=some (.int .i64 (cnt ls s:Int)):=by
 obtain⟨h1,v,h2,h3⟩:=h
 rw[h2.cell,tab_get _ _ _ (by rw[cntL_length];exact hs),cntL_get _ _ hs]
theorem TabAt.ord {w:World} {base p:Nat} {ls:List Nat} (h:TabAt w base p ls):∃ A cap,w.cell? ⟨p,16,none⟩=some (.slice A (ordUp ls 15).length cap)∧SlAt w A ((ordUp ls 15).map natV):=by
 obtain⟨h1,v,h2,h3⟩:=h
 obtain⟨A,cap,rfl,_,_,h4,_⟩:=own_slat h3
 exact⟨A,cap,by rw[h2.cell,←cntL_length ls,tab_last],h4⟩
set_option maxRecDepth 100000 in
set_option maxHeartbeats 1600000 in
theorem tread_any (base p q:Nat) (A:Option Addr) (n c pos:Nat) (xs:List UInt8) (ls:List Nat) (w:World) (hT:TabAt w base p ls) (hS:SrcAt w q A n c pos) (hn:xs.length=n) (hA:ByAt w A xs) (hp:pos≤8*n) (hnn:n≤1099511627776)
  (hbx:∀ b o,A=some ⟨b,o,none⟩→0 < n→b < q) (hl:∀ x∈ls,x≤15) (hr:room ls≤32768) (hlen:ls.length≤288) :
  Calls Tryz.prog 233 #[.pointer (some ⟨p,0,none⟩),.pointer (some ⟨q,0,none⟩)] w (NextPost q A n c pos xs ls w):=by
 have HT:=Lib.hid hT
 have HS:=Lib.hid hS
 have Hn:=Lib.hid hn
 have HA:=Lib.hid hA
 have Hbx:=Lib.hid hbx
 have Hacc:Hid (∀ s,s≤15→first ls s+cnt ls s≤32768):=Lib.hid (fun s hs=>by
  have h1:=acc_le ls s hs hl hr
  have h2:(2:Nat) ^ s≤2 ^ 15:=Nat.pow_le_pow_right (by omega) hs
  omega)
 have Hlen:=Lib.hid hlen
 clear hT hS hn hA hbx hl hr
 go_enter Tryz.func233,Tryz.ntmps233
 go_wp2_with fail
 go_loopw [6,7,8,9] (fun cd ft at_ sz wr=>∃ t:Nat,t≤15∧sz=.int .i64 ((t:Int)+1)∧cd=.int .i64 ((2*val (((bitsL xs).drop pos).take t):Nat):Int)∧ft=.int .i64 ((first ls (t+1):Nat):Int)∧at_=.int .i64 ((ordUp ls t).length:Int)∧
  first ls (t+1)≤2*val (((bitsL xs).drop pos).take t)∧pos+t≤8*n∧next ls ((bitsL xs).drop pos)=nxt ls ((bitsL xs).drop pos) (15 - t) (t+1)∧SrcAt wr q A n c (pos+t)∧TabAt wr base p ls∧ByAt wr A xs∧Keeps q srcT w wr) (fun _ _ _ sz _=>17 - (intOf sz).toNat)
 case atStart=>exact⟨0,Nat.zero_le _,rfl,rfl,rfl,rfl,by simp[first,cnt,val_nil],hp,rfl,HS.out,HT.out,HA.out,Keeps.refl _ _ _⟩
 case round=>
  obtain⟨t,ht,rfl,rfl,rfl,rfl,hfi,hpt,hnx,hsrc,htab,hby,hk⟩:=hrel
  have Hnx:=Lib.hid hnx
  have Htab:=Lib.hid htab
  have Hk:=Lib.hid hk
  have hrl:((bitsL xs).drop pos).length=8*n - pos:=by rw[List.length_drop,bitsL_length,Hn.out]
  have Hrl:=Lib.hid hrl
  by_cases hlt:t < 15
  ·have Hget:=Lib.hid (get_any q A n c (pos+t) 1 xs wr hsrc Hn.out hby (by omega) hpt hnn (fun b o e h=>Nat.ne_of_lt (Hbx.out b o e h)))
   have Hbyr:=Lib.hid hby
   clear hsrc htab hby hk hnx hrl
   go_wp2_with fail
   refine (Hget.out).mono ?_
   rintro e w1 ⟨hg,hk1⟩
   have Hk1:=Lib.hid (Hk.out.trans hk1)
   have Htab1:=Lib.hid (Htab.out.keeps hk1)
   have Hby:Hid (ByAt w1 A xs):=Lib.hid (SlAt.keepsB Hbyr.out hk1 (fun b o e h=>Hbx.out b o e (by rw[List.length_map,Hn.out]at h;exact h)))
   clear Hbyr
   clear hk1
   rcases hg with ⟨hfit,rfl,hs3⟩ | ⟨hno,rfl,q3,hs3⟩
   ·have Hs3:=Lib.hid hs3
    clear hs3
    have htl:t < ((bitsL xs).drop pos).length:=by rw[Hrl.out];omega
    have Hval:=Lib.hid (val_next _ t htl)
    rw[List.drop_drop]at Hval
    have hb1:=one_bit ((bitsL xs).drop (pos+t))
    have hvl:=val_lt (((bitsL xs).drop pos).take t)
    have hv2:val (((bitsL xs).drop pos).take t)≤32768:=by
     have h1:(((bitsL xs).drop pos).take t).length≤15:=by rw[List.length_take];omega
     have h2:(2:Nat) ^ (((bitsL xs).drop pos).take t).length≤2 ^ 15:=Nat.pow_le_pow_right (by omega) h1
     omega
    generalize num (((bitsL xs).drop (pos+t)).take 1)=b at *
    generalize val (((bitsL xs).drop pos).take t)=v at *
    have hor:=or_next v b (by omega) hb1
    have hcn:=Htab1.out.cnt (t+1) (by omega)
    have ha1:=Hacc.out (t+1) (by omega)
    have hup:(ordUp ls t).length≤5000:=by
     have h1:=ordUp_le ls t
     have h2:=Nat.mul_le_mul ht Hlen.out
     omega
    have Hff:Hid (first ls (t+1+1)=2*(first ls (t+1)+cnt ls (t+1))):=Lib.hid rfl
    have Hupn:Hid ((ordUp ls (t+1)).length=(ordUp ls t).length+cnt ls (t+1)):=Lib.hid (by rw[ordUp_succ,List.length_append];simp[cnt])
    clear hvl
    by_cases hit:2*v+b < first ls (t+1)+cnt ls (t+1)
    ·obtain⟨i,hi1,hi2⟩:=findC_some ls (t+1) (val (((bitsL xs).drop pos).take (t+1))) (by rw[Hval.out];omega)
     have Hhit:=Lib.hid (nxt_hit ls ((bitsL xs).drop pos) (14 - t) (t+1) i (by omega) hi1)
     have Hpl:=Lib.hid (ordUp_get ls t _ i hlt hi1)
     rw[Hval.out]at Hpl
     obtain⟨B,cap,hB1,hB2⟩:=Htab1.out.ord
     have Hnn:=Hnx.out
     rw[show 15 - t=14 - t+1 by omega,Hhit.out]at Hnn
     have hlk:=(List.getElem?_eq_some_iff.1 Hpl.out).1
     obtain⟨b2,o2,hBe,hBc⟩:=SlAt.get hB2 (k:=(ordUp ls t).length+(2*v+b - first ls (t+1))) (by simpa using hlk)
     subst hBe
     have hcell:w1.cell? ⟨b2,o2+((ordUp ls t).length+(2*v+b - first ls (t+1))),none⟩=some (.int .i64 (i:Int)):=by
      rw[hBc]
      have h1:=Hpl.out
      rw[List.getElem?_eq_getElem hlk]at h1
      injection h1 with h1
      simp[natV,h1]
     have Hdone:=Lib.hid Hnn
     clear hBc hB2 hi1 hi2 Hnn Hhit Hpl Hval Hupn Hff
     generalize hix:(ordUp ls t).length+(2*v+b - first ls (t+1))=ix at *
     have hixI:(((ordUp ls t).length:Nat):Int)+((2*v+b:Nat):Int) - ((first ls (t+1):Nat):Int)=(ix:Int):=by omega
     generalize (ordUp ls 15).length=m15 at *
     generalize (ordUp ls t).length=ut at *
     generalize first ls (t+1)=ff at *
     generalize cnt ls (t+1)=cc at *
     generalize hvb:2*v+b=vb at *
     have hlt1:((vb:Nat):Int) - (ff:Int) < (cc:Int):=by omega
     go_wp2_with fail
     go_ret2
     refine⟨⟨i,t+1,0,Hdone.out,rfl,fun _=>⟨?_,by omega⟩⟩,Hk1.out⟩
     rw[←Nat.add_assoc];exact Hs3.out
    ·have hno:¬ (first ls (t+1)≤val (((bitsL xs).drop pos).take (t+1))∧val (((bitsL xs).drop pos).take (t+1)) < first ls (t+1)+cnt ls (t+1)):=by rw[Hval.out];omega
     have Hmiss:=Lib.hid (nxt_miss ls ((bitsL xs).drop pos) (14 - t) (t+1) (by omega) (findC_none ls _ _ hno))
     have Hnn:=Hnx.out
     rw[show 15 - t=14 - t+1 by omega,Hmiss.out]at Hnn
     have Hnx2:=Lib.hid Hnn
     clear hno Hmiss Hnn Hnx
     generalize hut:(ordUp ls t).length=ut at *
     generalize hff:first ls (t+1)=ff at *
     generalize hcc:cnt ls (t+1)=cc at *
     generalize hvb:2*v+b=vb at *
     have Hcc:=Lib.hid hcc
     clear hcc hut hff
     have hlt1:¬ (((vb:Nat):Int) - (ff:Int) < (cc:Int)):=by omega
     go_wp2_with fail
     go_roundw
     case rel=>
      refine⟨t+1,by omega,by go_num,int_eq (by rw[Hval.out];omega),int_eq (by rw[Hff.out];omega),int_eq (by rw[Hupn.out];omega),by rw[Hval.out,Hff.out];omega,by omega,?_,?_,Htab1.out,Hby.out,Hk1.out⟩
      ·rw[Hnx2.out,show 15 - (t+1)=14 - t by omega]
      ·rw[←Nat.add_assoc];exact Hs3.out
     case measure=>simp[intOf];omega
   ·have Ht:=Lib.hid (nxt_torn ls ((bitsL xs).drop pos) (14 - t) (t+1) (by rw[Hrl.out];omega))
    have Hnn:=Hnx.out
    rw[show 15 - t=14 - t+1 by omega,Ht.out]at Hnn
    have Hdone:=Lib.hid Hnn
    clear Hnn Ht hs3
    go_wp2_with fail
    go_ret2
    exact⟨⟨0,0,7,Hdone.out,rfl,fun h=>by omega⟩,Hk1.out⟩
  ·obtain rfl:t=15:=by omega
   clear hsrc htab hby hk hnx hrl
   go_wp2_with fail
   go_ret2
   exact⟨⟨0,0,8,by rw[Hnx.out];rfl,rfl,fun h=>by omega⟩,Hk.out⟩
end Go.Proofs.YtabdianhoabhhaaGreatDoor.Code
namespace Go.Proofs.YtabdianhoabhhaaGreatDoor.Inf
open Go Go.RowKit Go.Proofs.YtabdianhoabhhaaGreatDoor Go.Proofs.YtabdianhoabhhaaGreatDoor.Bits Go.Proofs.YtabdianhoabhhaaGreatDoor.Code
set_option linter.unusedVariables false
def stopE (x:Int):Ending:=.panicked [{ v:=.iface 171 (.agg #[.int .i64 x]),recovered:=false }]
set_option maxRecDepth 100000 in
theorem fail_any (x:Int) (w:World):Calls Tryz.prog 165 #[.int .i64 x] w fun e w'=>e=stopE x∧w'=w:=by
 go_enter Tryz.func165,Tryz.ntmps165
 go_wp2_with fail
 exact⟨rfl,rfl,rfl⟩
def infT:List TypeId:=[177,213,5]
structure InAt_ (w:World) (base:Nat) (A:Option Addr) (n:Nat) (xs:List UInt8):Prop where
 len:xs.length=n
 few:n≤1099511627776
 at_:ByAt w A xs
 low:∀ b o,A=some ⟨b,o,none⟩→0 < n→b < base
theorem InAt_.keeps {w w':World} {base:Nat} {T:List TypeId} {A:Option Addr} {n:Nat} {xs:List UInt8} (h:InAt_ w base A n xs) (hk:Keeps base T w w'):InAt_ w' base A n xs:=
 ⟨h.len,h.few,SlAt.keepsB h.at_ hk (fun b o e hp=>h.low b o e (by rw[←h.len];simpa using hp)),h.low⟩
structure RdAt (w:World) (base g q:Nat) (A:Option Addr) (n c pos:Nat) (out:List UInt8) (ks:List Nat):Prop where
 gle:base≤g
 qle:base≤q
 ple:pos≤8*n
 few:out.length≤3000
 blk:∃ vo vk,Blk w g 177 #[.pointer (some ⟨q,0,none⟩),vo,vk]∧w.ownsRow base 5 1 vo out.length (out.map u8v)∧w.ownsRow base 3 1 vk ks.length (ks.map natV)
 src:SrcAt w q A n c pos
theorem RdAt.below {w w':World} {base g q:Nat} {A:Option Addr} {n c pos:Nat} {out:List UInt8} {ks:List Nat} (h:RdAt w base g q A n c pos out ks) (hb:Below w.heap.size w w'):RdAt w' base g q A n c pos out ks:=by
 obtain⟨h1,h2,h3,h8,⟨vo,vk,h4,h5,h6⟩,h7⟩:=h
 exact⟨h1,h2,h3,h8,⟨vo,vk,h4.below hb h4.lt,own_keep h5 hb,own_keep h6 hb⟩,Blk.below h7 hb h7.lt⟩
def RPost {α:Type} (r:Rd α) (ok:α→Ending→World→Prop) (e:Ending) (w':World):Prop:=match r with | .bad x=>e=stopE x | .ok a=>ok a e w'
theorem kT {base q:Nat} {w w':World} (hk:Keeps q srcT w w') (hq:base≤q):Keeps base infT w w':=
 hk.mono hq (fun t ht=>by simp only[srcT,List.mem_singleton]at ht;subst ht;simp[infT])
set_option maxRecDepth 100000 in
set_option maxHeartbeats 1600000 in
theorem get_r (base g q:Nat) (A:Option Addr) (n c pos size:Nat) (xs:List UInt8) (out:List UInt8) (ks:List Nat) (w:World) (h:RdAt w base g q A n c pos out ks) (hi:InAt_ w base A n xs) (hs:size≤61) :
  Calls Tryz.prog 160 #[.pointer (some ⟨g,0,none⟩),.int .i64 (size:Int)] w fun e w'=>
   RPost (getR (bitsL xs) pos size) (fun a e w'=>e=.returned (.int .i64 (a.1:Int))∧RdAt w' base g q A n c a.2 out ks) e w'∧Keeps base infT w w':=by
 have HI:=Lib.hid hi
 have Hrow:Hid ((bitsL xs).length=8*n):=Lib.hid (by rw[bitsL_length,hi.len])
 have HG:=Lib.hid (get_any q A n c pos size xs w h.src hi.len hi.at_ hs h.ple hi.few (fun b o e hp=>by have:=hi.low b o e hp;have:=h.qle;omega))
 have HR:=Lib.hid h
 obtain⟨hg,hq,hp,hfew,⟨vo,vk,hb,ho,hk⟩,hsrc⟩:=h
 have b0:w.cell? ⟨g,0,none⟩=some (.pointer (some ⟨q,0,none⟩)):=by rw[hb.cell];rfl
 have HB:=Lib.hid hb
 have HO:=Lib.hid ho
 have HK:=Lib.hid hk
 clear hi hb ho hk hsrc
 go_enter Tryz.func160,Tryz.ntmps160
 go_wp2_with fail
 refine (HG.out).mono ?_
 rintro e w2 ⟨hcase,hk2⟩
 have HK2:=Lib.hid hk2
 clear hk2 b0 HG
 rcases hcase with ⟨h1,rfl,hs2⟩ | ⟨h1,rfl,_⟩
 ·have HS2:=Lib.hid hs2
  clear hs2
  go_wp2_with fail
  go_ret
  refine⟨?_,kT HK2.out hq⟩
  unfold RPost getR
  rw[Hrow.out,if_pos h1]
  exact⟨rfl,hg,hq,h1,hfew,⟨vo,vk,HK2.out.blk HB.out (by decide),HK2.out.own HO.out (by decide),HK2.out.own HK.out (by decide)⟩,HS2.out⟩
 ·go_wp2_with fail
  refine (fail_any 7 _).mono ?_
  rintro e w3 ⟨rfl,rfl⟩
  unfold stopE
  go_wp2_with fail
  refine⟨rfl,?_,kT HK2.out hq⟩
  unfold RPost getR
  rw[Hrow.out,if_neg (by omega)]
  rfl
set_option maxRecDepth 100000 in
set_option maxHeartbeats 1600000 in
theorem sym_r (base g q tp:Nat) (A:Option Addr) (n c pos:Nat) (xs:List UInt8) (out:List UInt8) (ks ls:List Nat) (w:World) (h:RdAt w base g q A n c pos out ks) (hi:InAt_ w base A n xs)
  (hT:TabAt w base tp ls) (hl:∀ x∈ls,x≤15) (hr:room ls≤32768) (hlen:ls.length≤288) :
  Calls Tryz.prog 203 #[.pointer (some ⟨g,0,none⟩),.pointer (some ⟨tp,0,none⟩)] w fun e w'=>
   RPost (symR (bitsL xs) ls pos) (fun a e w'=>e=.returned (.int .i64 (a.1:Int))∧RdAt w' base g q A n c a.2 out ks) e w'∧Keeps base infT w w':=by
 have HG:=Lib.hid (tread_any base tp q A n c pos xs ls w hT h.src hi.len hi.at_ h.ple hi.few (fun b o e hp=>by have:=hi.low b o e hp;have:=h.qle;omega) hl hr hlen)
 obtain⟨hg,hq,hp,hfew,⟨vo,vk,hb,ho,hk⟩,hsrc⟩:=h
 have b0:w.cell? ⟨g,0,none⟩=some (.pointer (some ⟨q,0,none⟩)):=by rw[hb.cell];rfl
 have HB:=Lib.hid hb
 have HO:=Lib.hid ho
 have HK:=Lib.hid hk
 clear hi hb ho hk hsrc hT hl hr hlen
 go_enter Tryz.func203,Tryz.ntmps203
 go_wp2_with fail
 refine (HG.out).mono ?_
 rintro e w2 ⟨⟨k,m,z,hn,rfl,hz⟩,hk2⟩
 have HK2:=Lib.hid hk2
 have HZ:=Lib.hid hz
 have HN:=Lib.hid hn
 clear hk2 hz hn b0 HG
 by_cases h0:z=0
 ·subst h0
  go_wp2_with fail
  go_ret
  refine⟨?_,kT HK2.out hq⟩
  unfold RPost symR
  rw[HN.out]
  exact⟨rfl,hg,hq,(HZ.out (by simp)).2,hfew,⟨vo,vk,HK2.out.blk HB.out (by decide),HK2.out.own HO.out (by decide),HK2.out.own HK.out (by decide)⟩,(HZ.out (by simp)).1⟩
 ·have hz1:(z != 0)=true:=by simpa using h0
  go_wp2_with fail
  refine (fail_any z _).mono ?_
  rintro e w3 ⟨rfl,rfl⟩
  unfold stopE
  go_wp2_with fail
  refine⟨rfl,?_,kT HK2.out hq⟩
  unfold RPost symR
  rw[HN.out,if_neg (show ¬ (k,m,z).2.2=0 from h0)]
  rfl
theorem ty8':SliceTy Tryz.prog 23 5 (.int .u8 0) 1 1:=⟨Tryz.underlying23,by kernel_rfl,rfl,by omega⟩
set_option maxRecDepth 100000 in
set_option maxHeartbeats 1600000 in
theorem put_r (base g q:Nat) (A:Option Addr) (n c pos:Nat) (x:UInt8) (out:List UInt8) (ks:List Nat) (w:World) (h:RdAt w base g q A n c pos out ks) :
  Calls Tryz.prog 202 #[.pointer (some ⟨g,0,none⟩),u8v x] w fun e w'=>
   RPost (pushR out x) (fun o e w'=>e=.returned (.tuple #[])∧RdAt w' base g q A n c pos o ks) e w'∧Keeps base infT w w':=by
 obtain⟨hg,hq,hp,hfew,⟨vo,vk,hb,ho,hk⟩,hsrc⟩:=h
 obtain⟨Ao,co,rfl,_⟩:=own_slat ho
 obtain⟨ol,hol⟩:∃ ol,ol=out.length:=⟨_,rfl⟩
 have hout:=hfew
 rw[←hol]at hb ho hout
 have hbw:base≤w.heap.size:=by have:=hb.lt;omega
 have Hol:=Lib.hid hol
 have b1:w.cell? ⟨g,1,none⟩=some (.slice Ao ol co):=by rw[hb.cell];rfl
 have f1:=hb.frozen 1
 have hlt:=hb.lt
 have HB:=Lib.hid hb
 have HO:=Lib.hid ho
 have HK:=Lib.hid hk
 have HS:=Lib.hid hsrc
 clear hb ho hk hsrc hol
 unfold u8v
 by_cases h3:ol=3000
 ·have h3':(ol:Int)=3000:=by omega
  have h3b:((ol:Int) == 3000)=true:=by simpa using h3'
  go_enter Tryz.func202,Tryz.ntmps202
  go_wp2_with fail
  refine (fail_any 2 _).mono ?_
  rintro e w3 ⟨rfl,rfl⟩
  unfold stopE
  go_wp2_with fail
  refine⟨rfl,?_,Keeps.refl _ _ _⟩
  unfold RPost pushR
  rw[if_pos (by rw[←Hol.out];exact h3)]
  rfl
 ·have h3':¬ (ol:Int)=3000:=by omega
  have h3b:((ol:Int) == 3000)=false:=by simpa using h3'
  go_enter Tryz.func202,Tryz.ntmps202
  have hbA:Below w.heap.size w (w.alloc (.cells #[.int .u8 (n8 x)] 5)):=(Below.refl _ _).alloc (Nat.le_refl _) _
  have HO2:=Lib.hid (own_keep HO.out hbA)
  have HB2:=Lib.hid (HB.out.below hbA HB.out.lt)
  have HKA:Hid (Keeps base infT w (w.alloc (.cells #[.int .u8 (n8 x)] 5))):=Lib.hid (Keeps.of_below hbA hbw)
  have hbw2:base≤(w.alloc (.cells #[.int .u8 (n8 x)] 5)).heap.size:=Nat.le_trans hbw hbA.size
  have HZ:Hid (SlAt (w.alloc (.cells #[.int .u8 (n8 x)] 5)) (some ⟨w.heap.size,0,none⟩) [.int .u8 (n8 x)]):=Lib.hid (SlAt.of_heap (heap_alloc_new _ _) rfl)
  clear hbA
  go_wp2_with (at_builtin;refine wpList_app _ rfl (.tmp 15) (.tmp 17) _ rfl base 5 _ 1 1 ty8' _ ol (out.map u8v) rfl HO2.out (some ⟨w.heap.size,0,none⟩) 1 1 [.int .u8 (n8 x)] rfl rfl HZ.out (by simp[Value.oneCell']) (by simp) (by unfold maxLen;omega) (by omega) hbw2 ?_;intro v8 w8 hown8 hg8 _;obtain⟨A8,d8,rfl,_⟩:=own_slat hown8;have hkp:Keeps base [5] (w.alloc (.cells #[.int .u8 (n8 x)] 5)) w8:=(Keeps.refl _ _ _).grown HO2.out hg8 (by simp) hbw2;have HB8:=Lib.hid (hkp.blk HB2.out (by decide));have HK8:=Lib.hid hkp;have Ho8:=Lib.hid hown8;have c8:w8.cell? ⟨g,1,none⟩=some (.slice Ao ol co):=(HB8.out.cell 1).trans rfl;have f8:=HB8.out.frozen 1;clear hown8 hg8 hkp)
  go_end0
  have k8:Keeps base infT w w8:=HKA.out.trans (HK8.out.mono (Nat.le_refl _) (fun t ht=>by rw[List.mem_singleton]at ht;subst ht;simp[infT]))
  refine⟨?_,k8.setBlk HB8.out (by simp[infT]) hg 1 _⟩
  unfold RPost pushR
  rw[if_neg (by rw[←Hol.out];exact h3)]
  have hw9:Keeps base [177] w8 (w8.setCell ⟨g,1,none⟩ (.slice A8 (ol+1) d8)):=(Keeps.refl _ _ _).setBlk HB8.out (by simp) hg 1 _
  have hkk:Keeps base [5,177] w (w8.setCell ⟨g,1,none⟩ (.slice A8 (ol+1) d8)):=((Keeps.of_below ((Below.refl _ _).alloc (Nat.le_refl _) _) hbw).trans (HK8.out.mono (Nat.le_refl _) (by simp))).trans (hw9.mono (Nat.le_refl _) (by simp))
  refine⟨rfl,hg,hq,hp,by rw[List.length_append,←Hol.out];simp;omega,⟨_,vk,HB8.out.set_ 1 _,?_,hkk.own HK.out (by decide)⟩,hkk.blk HS.out (by decide)⟩
  have h9:=hw9.own Ho8.out (by decide)
  rw[List.length_append,←Hol.out,List.map_append]
  exact h9
end Go.Proofs.YtabdianhoabhhaaGreatDoor.Inf
namespace Go.Proofs.YtabdianhoabhhaaGreatDoor.Inf
open Go Go.RowKit Go.Proofs.YtabdianhoabhhaaGreatDoor Go.Proofs.YtabdianhoabhhaaGreatDoor.Bits Go.Proofs.YtabdianhoabhhaaGreatDoor.Code
set_option linter.unusedVariables false
theorem RdAt.bw {w:World} {base g q:Nat} {A:Option Addr} {n c pos:Nat} {out:List UInt8} {ks:List Nat} (h:RdAt w base g q A n c pos out ks):base≤w.heap.size:=by
 obtain⟨h1,_,_,_,⟨vo,vk,h4,_,_⟩,_⟩:=h
 have:=h4.lt
 omega
theorem RdAt.src0 {w:World} {base g q:Nat} {A:Option Addr} {n c pos:Nat} {out:List UInt8} {ks:List Nat} (h:RdAt w base g q A n c pos out ks):w.cell? ⟨g,0,none⟩=some (.pointer (some ⟨q,0,none⟩)):=by
 obtain⟨_,_,_,_,⟨vo,vk,h4,_,_⟩,_⟩:=h
 rw[h4.cell];rfl
theorem xor16 (n:Nat) (h:n < 65536):Go.bits .xor .i64 (n:Int) 65535=((65535 - n:Nat):Int):=by
 have hx:n ^^^ 65535=65535 - n:=by
  apply Nat.eq_of_testBit_eq
  intro i
  have e1:(65535 - n).testBit i=(decide (i < 16) && !n.testBit i):=by
   rw[show 65535 - n=2 ^ 16 - (n+1) by omega]
   exact Nat.testBit_two_pow_sub_succ (by omega) i
  have e2:(65535:Nat).testBit i=decide (i < 16):=by
   rw[show (65535:Nat)=2 ^ 16 - 1 by decide,Nat.testBit_two_pow_sub_one]
  rw[Nat.testBit_xor,e1,e2]
  by_cases hi:i < 16
  ·simp[hi]
  ·have:n.testBit i=false:=Nat.testBit_lt_two_pow (Nat.lt_of_lt_of_le h (show 65536≤2 ^ i from by rw[show (65536:Nat)=2 ^ 16 by decide];exact Nat.pow_le_pow_right (by omega) (by omega)))
   simp[hi,this]
 show IntKind.i64.wrap ((BitVec.ofInt 64 (n:Int) ^^^ BitVec.ofInt 64 (65535:Int)).toNat:Int)=_
 have h1:(BitVec.ofInt 64 (n:Int) ^^^ BitVec.ofInt 64 (65535:Int)).toNat=65535 - n:=by
  rw[BitVec.toNat_xor,BitVec.ofInt_natCast,BitVec.toNat_ofNat,Nat.mod_eq_of_lt (by omega),show (BitVec.ofInt 64 (65535:Int)).toNat=65535 from rfl,hx]
 rw[h1]
 exact IntWalk.i64_in _ (by omega)
set_option maxRecDepth 100000 in
set_option maxHeartbeats 1600000 in
theorem fill_any (q:Nat) (A:Option Addr) (n c pos:Nat) (w:World) (h:SrcAt w q A n c pos) (hp:pos≤8*n) (hn:n≤1099511627776) :
  Calls Tryz.prog 201 #[.pointer (some ⟨q,0,none⟩)] w fun e w'=>e=.returned (.tuple #[])∧SrcAt w' q A n c (fillP pos)∧Keeps q srcT w w':=by
 have c1:w.cell? ⟨q,1,none⟩=some (.int .i64 (pos:Int)):=by rw[h.cell];rfl
 have f1:=Blk.frozen h 1
 have HS:=Lib.hid h
 have h1:IntKind.i64.wrap ((pos:Int)+7)=(pos:Int)+7:=IntWalk.i64_in _ (by omega)
 have h2:IntKind.i64.wrap (((pos:Int)+7) / 8)=((pos:Int)+7) / 8:=IntWalk.i64_in _ (by omega)
 have h3:IntKind.i64.wrap (((pos:Int)+7) / 8*8)=((fillP pos:Nat):Int):=by
  rw[show ((pos:Int)+7) / 8*8=((fillP pos:Nat):Int) by unfold fillP;omega]
  exact IntWalk.i64_in _ (by unfold fillP;omega)
 have h4:((pos:Int)+7).tdiv 8=((pos:Int)+7) / 8:=Int.tdiv_eq_ediv_of_nonneg (by omega)
 have hq:=Blk.lt h
 clear h
 go_enter Tryz.func201,Tryz.ntmps201
 go_wp2_with fail
 go_end0
 exact⟨rfl,HS.out.set_ 1 _,(Keeps.refl _ _ _).setBlk HS.out (by simp[srcT]) (Nat.le_refl _) 1 _⟩
theorem rpost_bad {α:Type} {r:Rd α} {ok:α→Ending→World→Prop} {e:Ending} {w:World} {x:Int} (h:RPost r ok e w) (hr:r=.bad x):e=stopE x:=by rw[hr]at h;exact h
theorem rpost_ok {α:Type} {r:Rd α} {ok:α→Ending→World→Prop} {e:Ending} {w:World} {a:α} (h:RPost r ok e w) (hr:r=.ok a):ok a e w:=by rw[hr]at h;exact h
theorem bad_rpost {α:Type} {r:Rd α} {ok:α→Ending→World→Prop} {w:World} {x:Int} (hr:r=.bad x):RPost r ok (stopE x) w:=by rw[hr];rfl
theorem ok_rpost {α:Type} {r:Rd α} {ok:α→Ending→World→Prop} {e:Ending} {w:World} {a:α} (hr:r=.ok a) (h:ok a e w):RPost r ok e w:=by rw[hr];exact h
theorem RdAt.filled {w w':World} {base g q:Nat} {A:Option Addr} {n c pos pos':Nat} {out:List UInt8} {ks:List Nat} (h:RdAt w base g q A n c pos out ks) (hk:Keeps q srcT w w') (hs:SrcAt w' q A n c pos') (hp:pos'≤8*n):RdAt w' base g q A n c pos' out ks:=by
 obtain⟨hg,hq,_,hfew,⟨vo,vk,hb,ho,hk'⟩,_⟩:=h
 exact⟨hg,hq,hp,hfew,⟨vo,vk,hk.blk hb (by decide),hk.own ho (by decide),hk.own hk' (by decide)⟩,hs⟩
theorem getR_lt {row:List Bool} {p n:Nat} {a:Nat×Nat} (h:getR row p n=.ok a):a.1 < 2 ^ n:=by
 unfold getR at h
 split at h
 ·injection h with h
  subst h
  exact Nat.lt_of_lt_of_le (num_lt _) (Nat.pow_le_pow_right (by omega) (by rw[List.length_take];omega))
 ·cases h
set_option maxRecDepth 100000 in
set_option maxHeartbeats 4000000 in
theorem stored_r (base g q:Nat) (A:Option Addr) (n c pos:Nat) (xs:List UInt8) (out:List UInt8) (ks:List Nat) (w:World) (h:RdAt w base g q A n c pos out ks) (hi:InAt_ w base A n xs) :
  Calls Tryz.prog 161 #[.pointer (some ⟨g,0,none⟩)] w fun e w'=>
   RPost (storedR (bitsL xs) pos out) (fun a e w'=>e=.returned (.tuple #[])∧RdAt w' base g q A n c a.1 a.2 ks) e w'∧Keeps base infT w w':=by
 obtain⟨R,hR⟩:∃ R,R=storedR (bitsL xs) pos out:=⟨_,rfl⟩
 have HU:=Lib.hid (show R=(getR (bitsL xs) (fillP pos) 16).then_ fun x=>(getR (bitsL xs) x.2 16).then_ fun y=>if x.1+y.1≠65535 then .bad 4 else rawR (bitsL xs) x.1 y.2 out from hR)
 rw[←hR]
 clear hR
 have HI:=Lib.hid hi
 have H:=Lib.hid h
 have hle:fillP pos≤8*n:=by have:=h.ple;unfold fillP;omega
 have HF:=Lib.hid (fill_any q A n c pos w h.src h.ple hi.few)
 have b0:=h.src0
 have hq:=h.qle
 clear h hi
 go_enter Tryz.func161,Tryz.ntmps161
 go_wp2_with fail
 refine (HF.out).mono ?_
 rintro e w2 ⟨rfl,hs2,hk2⟩
 have HK2:=Lib.hid (kT hk2 hq)
 have H2:=Lib.hid (H.out.filled hk2 hs2 hle)
 have HI2:=Lib.hid (HI.out.keeps HK2.out)
 have HG:=Lib.hid (get_r base g q A n c (fillP pos) 16 xs out ks w2 H2.out HI2.out (by omega))
 clear hs2 hk2 b0 HF
 go_wp2_with fail
 refine (HG.out).mono ?_
 rintro e w3 ⟨hr3,hk3⟩
 have HK3:=Lib.hid (HK2.out.trans hk3)
 have HI3:=Lib.hid (HI2.out.keeps hk3)
 cases hg3:getR (bitsL xs) (fillP pos) 16 with
 | bad z=>
  have he:=rpost_bad hr3 hg3
  subst he
  have HU:=Lib.hid (show R=.bad z by rw[HU.out,hg3];rfl)
  clear hr3 hk3 hg3
  unfold stopE
  go_wp2_with fail
  exact⟨rfl,bad_rpost HU.out,HK3.out⟩
 | ok x=>
  obtain⟨he,hrd3⟩:=rpost_ok hr3 hg3
  subst he
  have hx:=getR_lt hg3
  have HU:=Lib.hid (show R=(getR (bitsL xs) x.2 16).then_ fun y=>if x.1+y.1≠65535 then .bad 4 else rawR (bitsL xs) x.1 y.2 out by rw[HU.out,hg3];rfl)
  have H3:=Lib.hid hrd3
  have HG:=Lib.hid (get_r base g q A n c x.2 16 xs out ks w3 H3.out HI3.out (by omega))
  obtain⟨nb,p3⟩:=x
  dsimp only at hx HU H3 HG⊢
  clear hr3 hk3 hg3 hrd3
  go_wp2_with fail
  refine (HG.out).mono ?_
  rintro e w4 ⟨hr4,hk4⟩
  have HK4:=Lib.hid (HK3.out.trans hk4)
  have HI4:=Lib.hid (HI3.out.keeps hk4)
  cases hg4:getR (bitsL xs) p3 16 with
  | bad z=>
   have he:=rpost_bad hr4 hg4
   subst he
   have HU:=Lib.hid (show R=.bad z by rw[HU.out,hg4];rfl)
   clear hr4 hk4 hg4
   unfold stopE
   go_wp2_with fail
   exact⟨rfl,bad_rpost HU.out,HK4.out⟩
  | ok y=>
   obtain⟨he,hrd4⟩:=rpost_ok hr4 hg4
   subst he
   have hy:=getR_lt hg4
   have HU:=Lib.hid (show R=if nb+y.1≠65535 then .bad 4 else rawR (bitsL xs) nb y.2 out by rw[HU.out,hg4];rfl)
   have H4:=Lib.hid hrd4
   obtain⟨mb,p4⟩:=y
   dsimp only at hy HU H4⊢
   have hxr:=xor16 nb (by omega)
   clear hr4 hk4 hg4 hrd4 HG
   by_cases hne:nb+mb=65535
   ·have HU:=Lib.hid (show R=rawR (bitsL xs) nb p4 out by rw[HU.out,if_neg (by omega)])
    have hq1:(((65535 - nb:Nat):Int) != (mb:Int))=false:=by
     have:((65535 - nb:Nat):Int)=(mb:Int):=by omega
     rw[this];simp
    have hn65:nb≤65535:=by omega
    clear hne
    go_wp2_with fail
    go_loopw [19] (fun vi wr=>∃ (j p:Nat) (o:List UInt8),j≤nb∧vi=.int .i64 (j:Int)∧rawR (bitsL xs) nb p4 out=rawR (bitsL xs) (nb - j) p o∧RdAt wr base g q A n c p o ks∧Keeps base infT w wr∧InAt_ wr base A n xs) (fun vi _=>nb - (intOf vi).toNat)
    case atStart=>exact⟨0,p4,out,Nat.zero_le _,rfl,rfl,H4.out,HK4.out,HI4.out⟩
    case round=>
     obtain⟨j,p,o,hj,rfl,hraw,hrd,hk,hin⟩:=hrel
     have HRaw:=Lib.hid hraw
     have HR:=Lib.hid hrd
     have HK:=Lib.hid hk
     have HIn:=Lib.hid hin
     clear hraw hrd hk hin
     by_cases hlt:j < nb
     ·have HU:=Lib.hid (show R=(getR (bitsL xs) p 8).then_ fun x=>(pushR o (UInt8.ofNat x.1)).then_ fun o=>rawR (bitsL xs) (nb - (j+1)) x.2 o by
       rw[HU.out,HRaw.out,show nb - j=(nb - (j+1))+1 by omega];rfl)
      have HG:=Lib.hid (get_r base g q A n c p 8 xs o ks wr HR.out HIn.out (by omega))
      have HRaw:=Lib.hid (show rawR (bitsL xs) nb p4 out=(getR (bitsL xs) p 8).then_ fun x=>(pushR o (UInt8.ofNat x.1)).then_ fun o=>rawR (bitsL xs) (nb - (j+1)) x.2 o by
       rw[HRaw.out,show nb - j=(nb - (j+1))+1 by omega];rfl)
      go_wp2_with fail
      refine (HG.out).mono ?_
      rintro e w5 ⟨hr5,hk5⟩
      have HK5:=Lib.hid (HK.out.trans hk5)
      have HI5:=Lib.hid (HIn.out.keeps hk5)
      cases hg5:getR (bitsL xs) p 8 with
      | bad z=>
       have he:=rpost_bad hr5 hg5
       subst he
       have HU:=Lib.hid (show R=.bad z by rw[HU.out,hg5];rfl)
       clear hr5 hk5 hg5
       unfold stopE
       go_wp2_with fail
       exact⟨rfl,bad_rpost HU.out,HK5.out⟩
      | ok x=>
       obtain⟨he,hrd5⟩:=rpost_ok hr5 hg5
       subst he
       have hx5:=getR_lt hg5
       have HU:=Lib.hid (show R=(pushR o (UInt8.ofNat x.1)).then_ fun o=>rawR (bitsL xs) (nb - (j+1)) x.2 o by rw[HU.out,hg5];rfl)
       have HRaw:=Lib.hid (show rawR (bitsL xs) nb p4 out=(pushR o (UInt8.ofNat x.1)).then_ fun o=>rawR (bitsL xs) (nb - (j+1)) x.2 o by rw[HRaw.out,hg5];rfl)
       have H5:=Lib.hid hrd5
       obtain⟨bx,p5⟩:=x
       dsimp only at hx5 HU HRaw H5⊢
       have HP:=Lib.hid (put_r base g q A n c p5 (UInt8.ofNat bx) o ks w5 H5.out)
       have hcv:u8v (UInt8.ofNat bx)=.int .u8 (bx:Int):=by
        unfold u8v n8
        have:(UInt8.ofNat bx).toNat=bx:=by show bx % 2 ^ 8=bx;omega
        rw[this]
       rw[hcv]at HP
       clear hr5 hk5 hg5 hrd5 HG
       go_wp2_with fail
       refine (HP.out).mono ?_
       rintro e w6 ⟨hr6,hk6⟩
       have HK6:=Lib.hid (HK5.out.trans hk6)
       have HI6:=Lib.hid (HI5.out.keeps hk6)
       cases hg6:pushR o (UInt8.ofNat bx) with
       | bad z=>
        have he:=rpost_bad hr6 hg6
        subst he
        have HU:=Lib.hid (show R=.bad z by rw[HU.out,hg6];rfl)
        clear hr6 hk6 hg6
        unfold stopE
        go_wp2_with fail
        exact⟨rfl,bad_rpost HU.out,HK6.out⟩
       | ok o2=>
        obtain⟨he,hrd6⟩:=rpost_ok hr6 hg6
        subst he
        have HRaw:=Lib.hid (show rawR (bitsL xs) nb p4 out=rawR (bitsL xs) (nb - (j+1)) p5 o2 by rw[HRaw.out,hg6];rfl)
        have H6:=Lib.hid hrd6
        clear hr6 hk6 hg6 hrd6 hx5 hcv HP
        go_wp2_with fail
        go_roundw
        case rel=>exact⟨j+1,p5,o2,by omega,by go_num,HRaw.out,H6.out,HK6.out,HI6.out⟩
        case measure=>simp[intOf];omega
     ·obtain rfl:j=nb:=by omega
      have HU:=Lib.hid (show R=.ok (p,o) by rw[HU.out,HRaw.out,Nat.sub_self];rfl)
      go_wp2_with fail
      go_end0
      exact⟨ok_rpost HU.out ⟨rfl,HR.out⟩,HK.out⟩
   ·have HU:=Lib.hid (show R=.bad 4 by rw[HU.out,if_pos hne])
    have hq1:(((65535 - nb:Nat):Int) != (mb:Int))=true:=by
     simp only[bne_iff_ne,ne_eq]
     omega
    clear hne
    go_wp2_with fail
    refine (fail_any 4 _).mono ?_
    rintro e w5 ⟨rfl,rfl⟩
    unfold stopE
    go_wp2_with fail
    exact⟨rfl,bad_rpost HU.out,HK4.out⟩
end Go.Proofs.YtabdianhoabhhaaGreatDoor.Inf
namespace Go.Proofs.YtabdianhoabhhaaGreatDoor.Inf
open Go Go.RowKit Go.Proofs.YtabdianhoabhhaaGreatDoor Go.Proofs.YtabdianhoabhhaaGreatDoor.Bits Go.Proofs.YtabdianhoabhhaaGreatDoor.Code
set_option linter.unusedVariables false
set_option maxRecDepth 100000 in
set_option maxHeartbeats 1600000 in
theorem table_r (A:Option Addr) (n c:Nat) (zs:List Int) (w:World) (hn:zs.length=n) (hx:n≤maxLen) (hA:InAt w A zs) :
  Calls Tryz.prog 205 #[.slice A n c] w fun e w'=>
   RPost (tableR zs) (fun ls e w'=>chkL zs=0∧∃ p,e=.returned (.pointer (some ⟨p,0,none⟩))∧TabAt w' w.heap.size p ls) e w'∧Below w.heap.size w w':=by
 have HCk:=Lib.hid (check_any A n c zs w hn hx hA)
 have HA:=Lib.hid hA
 have Hn:=Lib.hid hn
 clear hA hn
 go_enter Tryz.func205,Tryz.ntmps205
 go_wp2_with fail
 refine (HCk.out).mono ?_
 rintro e w2 ⟨rfl,hw2⟩
 have hb2:Below w.heap.size w w2:=by
  first
   | exact hw2
   | (obtain⟨d,rfl⟩:=hw2;exact (Below.refl _ _).drewN' d)
   | (rw[hw2];exact Below.refl _ _)
 have Hb2:=Lib.hid hb2
 clear hw2 hb2 HCk
 obtain⟨z,hz⟩:∃ z,z=chkL zs:=⟨_,rfl⟩
 rw[←hz]
 by_cases h0:z=0
 ·subst h0
  have HM:=Lib.hid (make_any A n c zs w2 Hn.out (SlAt.below HA.out Hb2.out) hz.symm)
  have Hz:=Lib.hid hz.symm
  clear hz
  go_wp2_with fail
  refine (HM.out).mono ?_
  rintro e w3 ⟨⟨p,rfl,ht⟩,hb3⟩
  have HT:=Lib.hid ht
  have Hb3:=Lib.hid hb3
  clear ht hb3 HM
  go_wp2_with fail
  go_ret
  refine⟨ok_rpost (a:=lsOf zs) (by unfold tableR;rw[if_pos Hz.out]) ⟨Hz.out,p,rfl,?_⟩,Hb2.out.trans (Hb3.out.mono Hb2.out.size)⟩
  obtain⟨h1,v,h2,h3⟩:=HT.out
  exact⟨Nat.le_trans Hb2.out.size h1,v,h2,own_base h3 Hb2.out.size⟩
 ·have hz1:(z != 0)=true:=by simpa using h0
  have Hz:=Lib.hid (show chkL zs≠0 by rw[←hz];exact h0)
  clear hz
  go_wp2_with fail
  refine (fail_any 8 _).mono ?_
  rintro e w3 ⟨rfl,rfl⟩
  unfold stopE
  go_wp2_with fail
  exact⟨rfl,bad_rpost (by unfold tableR;rw[if_neg Hz.out]),Hb2.out⟩
end Go.Proofs.YtabdianhoabhhaaGreatDoor.Inf
namespace Go.Proofs.YtabdianhoabhhaaGreatDoor.Inf
open Go Go.RowKit Go.Proofs.YtabdianhoabhhaaGreatDoor Go.Proofs.YtabdianhoabhhaaGreatDoor.Bits Go.Proofs.YtabdianhoabhhaaGreatDoor.Code
set_option linter.unusedVariables false
theorem run_maxI {P:Program} (ts:Array TypeId) (t:TypeId) (a b:Int) (w:World) :
  (Builtin.max_ ts t #[.int .i64 a,.int .i64 b]).run P w=.ok (.int .i64 (max a b)) w:=by
 simp[Builtin.max_,Builtin.max2]
 (repeat' split) <;> omega
theorem tyI:SliceTy Tryz.prog 89 3 (.int .i64 0) 1 8:=⟨Tryz.underlying89,by kernel_rfl,rfl,by omega⟩
def exC (x:Nat×Nat):List Value:=[.int .i64 (x.1:Int),.int .i64 (x.2:Int)]
theorem exC_len (l:List (Nat×Nat)):(l.flatMap exC).length=l.length*2:=by
 induction l with
 | nil=>rfl
 | cons a l ih=>rw[List.flatMap_cons,List.length_append,ih,List.length_cons];simp[exC];omega
theorem tyX:SliceTy Tryz.prog 254 259 (.agg #[.int .i64 0,.int .i64 0]) 2 16:=⟨Tryz.underlying254,by kernel_rfl,rfl,by omega⟩
def fromS (k:Nat):Nat:=(List.range k).foldl (fun f i=>f+2 ^ (i / 4 - 1)) 3
theorem fromS_next (k:Nat):fromS (k+1)=fromS k+2 ^ (k / 4 - 1):=by unfold fromS;rw[List.range_succ,List.foldl_append];rfl
theorem sameL_get:∀ k < 28,sameL.getD k (0,0)=(fromS k,k / 4 - 1)∧fromS k≤1000:=by decide
set_option maxRecDepth 100000 in
set_option maxHeartbeats 1600000 in
theorem sames_any (w:World):Calls Tryz.prog 196 #[] w fun e w'=>∃ A c,e=.returned (.slice A 29 c)∧w'.ownsRow w.heap.size 259 2 (.slice A 29 c) 29 (sameL.flatMap exC)∧Below w.heap.size w w':=by
 go_enter Tryz.func196,Tryz.ntmps196
 go_wp2_with fail
 go_loopw [1,2,5] (fun pl pf vi wr=>∃ k:Nat,k≤28∧vi=.int .i64 (k:Int)∧pf=.int .i64 (fromS k:Int)∧wr.ownsRow w.heap.size 259 2 pl k ((sameL.take k).flatMap exC)∧Below w.heap.size w wr) (fun _ _ vi _=>28 - (intOf vi).toNat)
 case atStart=>exact⟨0,Nat.zero_le _,rfl,rfl,World.ownsRow_nil ..,Below.refl _ _⟩
 case round=>
  obtain⟨k,hk,rfl,rfl,ho,hb⟩:=hrel
  have HO:=Lib.hid ho
  have Hb:=Lib.hid hb
  clear ho hb
  by_cases hlt:k < 28
  ·obtain⟨h1,h2⟩:=sameL_get k hlt
   obtain⟨b,hb⟩:∃ b,b=k / 4 - 1:=⟨_,rfl⟩
   have hmm:max (0:Int) ((k:Int) / 4 - 1)=(b:Int):=by omega
   have hmax:∀ (ts:Array TypeId) (ty:TypeId) (W:World),(Builtin.max_ ts ty #[.int .i64 0,.int .i64 ((k:Int) / 4 - 1)]).run Tryz.prog W=.ok (.int .i64 (b:Int)) W:=fun ts ty W=>by rw[run_maxI,hmm]
   rw[←hb]at h1
   have hnx:=fromS_next k
   rw[←hb]at hnx
   obtain⟨f,hf⟩:∃ f,f=fromS k:=⟨_,rfl⟩
   rw[←hf]at h1 h2 hnx⊢
   have hb8:b≤8:=by omega
   have hp2:2 ^ b≤256:=Nat.le_trans (Nat.pow_le_pow_right (by omega) hb8) (by decide)
   have hpi:((2:Int) ^ b)=((2 ^ b:Nat):Int):=by simp
   have hsh:IntKind.i64.wrap ((2:Int) ^ b)=(2:Int) ^ b:=by
    rw[hpi]
    exact IntWalk.i64_in _ (by omega)
   have hsm:IntKind.i64.wrap ((f:Int)+(2:Int) ^ b)=((f+2 ^ b:Nat):Int):=by
    rw[hpi,←Int.natCast_add]
    exact IntWalk.i64_in _ (by omega)
   have H1:=Lib.hid h1
   have Hnx:=Lib.hid hnx
   have hba:Below wr.heap.size wr (wr.alloc (.cells #[.int .i64 (f:Int),.int .i64 (b:Int)] 259)):=(Below.refl _ _).alloc (Nat.le_refl _) _
   have HO2:=Lib.hid (own_keep HO.out hba)
   have Hb2:=Lib.hid (Hb.out.trans (hba.mono Hb.out.size))
   have HZ:Hid (SlAt (wr.alloc (.cells #[.int .i64 (f:Int),.int .i64 (b:Int)] 259)) (some ⟨wr.heap.size,0,none⟩) [.int .i64 (f:Int),.int .i64 (b:Int)]):=Lib.hid (SlAt.of_heap (heap_alloc_new _ _) rfl)
   clear h1 hnx hf hb hmm hba hpi
   go_wp2_with (at_builtin;refine wpList_app _ rfl (.tmp 12) (.tmp 16) _ rfl w.heap.size 259 _ 2 16 tyX _ k ((sameL.take k).flatMap exC) rfl HO2.out (some ⟨wr.heap.size,0,none⟩) 1 1 [.int .i64 (f:Int),.int .i64 (b:Int)] rfl rfl HZ.out (by simp[Value.oneCell']) (by simp) (by unfold maxLen;omega) (by omega) Hb2.out.size ?_;intro v8 w8 hown8 hg8 _;have Hb8:=Lib.hid (own_below HO2.out hg8 Hb2.out Hb2.out.size);have Ho8:=Lib.hid hown8;clear hown8 hg8)
   go_roundw
   case rel=>exact⟨k+1,by omega,by go_num,by rw[Hnx.out];simp,by
    have h:sameL.take (k+1)=sameL.take k++[(f,b)]:=by
     have hk29:k < sameL.length:=by show k < 29;omega
     rw[take_snoc _ _ hk29]
     congr 2
     have:=H1.out
     rw[List.getD_eq_getElem?_getD,List.getElem?_eq_getElem hk29]at this
     exact this
    rw[h,List.flatMap_append]
    exact Ho8.out,Hb8.out⟩
   case measure=>simp[intOf];omega
  ·obtain rfl:k=28:=by omega
   have hba:Below wr.heap.size wr (wr.alloc (.cells #[.int .i64 258,.int .i64 0] 259)):=(Below.refl _ _).alloc (Nat.le_refl _) _
   have HO2:=Lib.hid (own_keep HO.out hba)
   have Hb2:=Lib.hid (Hb.out.trans (hba.mono Hb.out.size))
   have HZ:Hid (SlAt (wr.alloc (.cells #[.int .i64 258,.int .i64 0] 259)) (some ⟨wr.heap.size,0,none⟩) [.int .i64 258,.int .i64 0]):=Lib.hid (SlAt.of_heap (heap_alloc_new _ _) rfl)
   clear hba
   go_wp2_with (at_builtin;refine wpList_app _ rfl (.tmp 23) (.tmp 25) _ rfl w.heap.size 259 _ 2 16 tyX _ 28 ((sameL.take 28).flatMap exC) rfl HO2.out (some ⟨wr.heap.size,0,none⟩) 1 1 [.int .i64 258,.int .i64 0] rfl rfl HZ.out (by simp[Value.oneCell']) (by simp) (by unfold maxLen;omega) (by omega) Hb2.out.size ?_;intro v8 w8 hown8 hg8 _;have Hb8:=Lib.hid (own_below HO2.out hg8 Hb2.out Hb2.out.size);have Ho8:=Lib.hid hown8;clear hown8 hg8)
   go_ret
   obtain⟨A8,c8,rfl,_⟩:=own_slat Ho8.out
   refine⟨A8,c8,rfl,?_,Hb8.out⟩
   have h:sameL.flatMap exC=(sameL.take 28).flatMap exC++[.int .i64 258,.int .i64 0]:=by rfl
   rw[h]
   exact Ho8.out
def fromF (k:Nat):Nat:=(List.range k).foldl (fun f i=>f+2 ^ (i / 2 - 1)) 1
theorem fromF_next (k:Nat):fromF (k+1)=fromF k+2 ^ (k / 2 - 1):=by unfold fromF;rw[List.range_succ,List.foldl_append];rfl
theorem farL_get:∀ k < 30,farL.getD k (0,0)=(fromF k,k / 2 - 1)∧fromF k≤40000:=by decide
set_option maxRecDepth 100000 in
set_option maxHeartbeats 1600000 in
theorem fars_any (w:World):Calls Tryz.prog 197 #[] w fun e w'=>∃ A c,e=.returned (.slice A 30 c)∧w'.ownsRow w.heap.size 259 2 (.slice A 30 c) 30 (farL.flatMap exC)∧Below w.heap.size w w':=by
 go_enter Tryz.func197,Tryz.ntmps197
 go_wp2_with fail
 go_loopw [1,2,5] (fun pl pf vi wr=>∃ k:Nat,k≤30∧vi=.int .i64 (k:Int)∧pf=.int .i64 (fromF k:Int)∧wr.ownsRow w.heap.size 259 2 pl k ((farL.take k).flatMap exC)∧Below w.heap.size w wr) (fun _ _ vi _=>30 - (intOf vi).toNat)
 case atStart=>exact⟨0,Nat.zero_le _,rfl,rfl,World.ownsRow_nil ..,Below.refl _ _⟩
 case round=>
  obtain⟨k,hk,rfl,rfl,ho,hb⟩:=hrel
  have HO:=Lib.hid ho
  have Hb:=Lib.hid hb
  clear ho hb
  by_cases hlt:k < 30
  ·obtain⟨h1,h2⟩:=farL_get k hlt
   obtain⟨b,hb⟩:∃ b,b=k / 2 - 1:=⟨_,rfl⟩
   have hmm:max (0:Int) ((k:Int) / 2 - 1)=(b:Int):=by omega
   have hmax:∀ (ts:Array TypeId) (ty:TypeId) (W:World),(Builtin.max_ ts ty #[.int .i64 0,.int .i64 ((k:Int) / 2 - 1)]).run Tryz.prog W=.ok (.int .i64 (b:Int)) W:=fun ts ty W=>by rw[run_maxI,hmm]
   rw[←hb]at h1
   have hnx:=fromF_next k
   rw[←hb]at hnx
   obtain⟨f,hf⟩:∃ f,f=fromF k:=⟨_,rfl⟩
   rw[←hf]at h1 h2 hnx⊢
   have hb8:b≤14:=by omega
   have hp2:2 ^ b≤16384:=Nat.le_trans (Nat.pow_le_pow_right (by omega) hb8) (by decide)
   have hpi:((2:Int) ^ b)=((2 ^ b:Nat):Int):=by simp
   have hsh:IntKind.i64.wrap ((2:Int) ^ b)=(2:Int) ^ b:=by
    rw[hpi]
    exact IntWalk.i64_in _ (by omega)
   have hsm:IntKind.i64.wrap ((f:Int)+(2:Int) ^ b)=((f+2 ^ b:Nat):Int):=by
    rw[hpi,←Int.natCast_add]
    exact IntWalk.i64_in _ (by omega)
   have H1:=Lib.hid h1
   have Hnx:=Lib.hid hnx
   have hba:Below wr.heap.size wr (wr.alloc (.cells #[.int .i64 (f:Int),.int .i64 (b:Int)] 259)):=(Below.refl _ _).alloc (Nat.le_refl _) _
   have HO2:=Lib.hid (own_keep HO.out hba)
   have Hb2:=Lib.hid (Hb.out.trans (hba.mono Hb.out.size))
   have HZ:Hid (SlAt (wr.alloc (.cells #[.int .i64 (f:Int),.int .i64 (b:Int)] 259)) (some ⟨wr.heap.size,0,none⟩) [.int .i64 (f:Int),.int .i64 (b:Int)]):=Lib.hid (SlAt.of_heap (heap_alloc_new _ _) rfl)
   clear h1 hnx hf hb hmm hba hpi
   go_wp2_with (at_builtin;refine wpList_app _ rfl (.tmp 12) (.tmp 16) _ rfl w.heap.size 259 _ 2 16 tyX _ k ((farL.take k).flatMap exC) rfl HO2.out (some ⟨wr.heap.size,0,none⟩) 1 1 [.int .i64 (f:Int),.int .i64 (b:Int)] rfl rfl HZ.out (by simp[Value.oneCell']) (by simp) (by unfold maxLen;omega) (by omega) Hb2.out.size ?_;intro v8 w8 hown8 hg8 _;have Hb8:=Lib.hid (own_below HO2.out hg8 Hb2.out Hb2.out.size);have Ho8:=Lib.hid hown8;clear hown8 hg8)
   go_roundw
   case rel=>exact⟨k+1,by omega,by go_num,by rw[Hnx.out];simp,by
    have h:farL.take (k+1)=farL.take k++[(f,b)]:=by
     have hk29:k < farL.length:=by show k < 30;omega
     rw[take_snoc _ _ hk29]
     congr 2
     have:=H1.out
     rw[List.getD_eq_getElem?_getD,List.getElem?_eq_getElem hk29]at this
     exact this
    rw[h,List.flatMap_append]
    exact Ho8.out,Hb8.out⟩
   case measure=>simp[intOf];omega
  ·obtain rfl:k=30:=by omega
   obtain⟨A8,c8,rfl,_⟩:=own_slat HO.out
   go_wp2_with fail
   go_ret
   exact⟨A8,c8,rfl,HO.out,Hb.out⟩
set_option maxRecDepth 100000 in
set_option maxHeartbeats 4000000 in
theorem fixed_any (w:World):Calls Tryz.prog 156 #[] w fun e w'=>∃ A a B b,e=.returned (.tuple #[.slice A 288 a,.slice B 32 b])∧w'.ownsRow w.heap.size 3 1 (.slice A 288 a) 288 (fixedA.map natV)∧w'.ownsRow w.heap.size 3 1 (.slice B 32 b) 32 (fixedB.map natV)∧Below w.heap.size w w':=by
 go_enter Tryz.func156,Tryz.ntmps156
 go_wp2_with fail
 go_loopw [0,4] (fun pl vi wr=>∃ k:Nat,k≤288∧vi=.int .i64 (k:Int)∧wr.ownsRow w.heap.size 3 1 pl k ((fixedA.take k).map natV)∧Below w.heap.size w wr) (fun _ vi _=>288 - (intOf vi).toNat)
 case atStart=>exact⟨0,Nat.zero_le _,rfl,World.ownsRow_nil ..,Below.refl _ _⟩
 case round=>
  obtain⟨k,hk,rfl,ho,hb⟩:=hrel
  have HO:=Lib.hid ho
  have Hb:=Lib.hid hb
  clear ho hb
  by_cases hlt:k < 288
  ·have hkl:k < fixedA.length:=by simp[fixedA];omega
   have HT:Hid ((fixedA.take (k+1)).map natV=(fixedA.take k).map natV++[natV fixedA[k]]):=Lib.hid (by rw[take_snoc _ _ hkl,List.map_append];rfl)
   have hv:fixedA[k]=if 144≤k∧k < 256 then 9 else if 256≤k∧k < 280 then 7 else 8:=by simp[fixedA]
   rcases (by omega:(144≤k∧k < 256)∨(256≤k∧k < 280)∨(k < 144∨280≤k)) with hc | hc | hc
   ·have hvv:fixedA[k]=9:=by rw[hv];rw[if_pos hc]
    have HT2:Hid ((fixedA.take (k+1)).map natV=(fixedA.take k).map natV++[.int .i64 9]):=Lib.hid (by rw[HT.out,hvv];rfl)
    have hba:Below wr.heap.size wr (wr.alloc (.cells #[.int .i64 9] 3)):=(Below.refl _ _).alloc (Nat.le_refl _) _
    have HO2:=Lib.hid (own_keep HO.out hba)
    have Hb2:=Lib.hid (Hb.out.trans (hba.mono Hb.out.size))
    have HZ:Hid (SlAt (wr.alloc (.cells #[.int .i64 9] 3)) (some ⟨wr.heap.size,0,none⟩) [.int .i64 9]):=Lib.hid (SlAt.of_heap (heap_alloc_new _ _) rfl)
    have hq1:(144:Int)≤(k:Int):=by omega
    have hq2:(k:Int) < 256:=by omega
    clear hba hv hvv hkl HT hc
    go_wp2_with (at_builtin;refine wpList_app _ rfl (.tmp 21) (.tmp 23) _ rfl w.heap.size 3 _ 1 8 tyI _ k ((fixedA.take k).map natV) rfl HO2.out (some ⟨wr.heap.size,0,none⟩) 1 1 [.int .i64 9] rfl rfl HZ.out (by simp[Value.oneCell']) (by simp) (by unfold maxLen;omega) (by omega) Hb2.out.size ?_;intro v8 w8 hown8 hg8 _;have Hb8:=Lib.hid (own_below HO2.out hg8 Hb2.out Hb2.out.size);have Ho8:=Lib.hid hown8;clear hown8 hg8)
    all_goals (
     go_roundw
     case rel=>exact⟨k+1,by omega,by go_num,by rw[HT2.out];exact Ho8.out,Hb8.out⟩
     case measure=>simp[intOf];omega)
   ·have hvv:fixedA[k]=7:=by rw[hv];rw[if_neg (by omega),if_pos hc]
    have HT2:Hid ((fixedA.take (k+1)).map natV=(fixedA.take k).map natV++[.int .i64 7]):=Lib.hid (by rw[HT.out,hvv];rfl)
    have hba:Below wr.heap.size wr (wr.alloc (.cells #[.int .i64 7] 3)):=(Below.refl _ _).alloc (Nat.le_refl _) _
    have HO2:=Lib.hid (own_keep HO.out hba)
    have Hb2:=Lib.hid (Hb.out.trans (hba.mono Hb.out.size))
    have HZ:Hid (SlAt (wr.alloc (.cells #[.int .i64 7] 3)) (some ⟨wr.heap.size,0,none⟩) [.int .i64 7]):=Lib.hid (SlAt.of_heap (heap_alloc_new _ _) rfl)
    have hq1:(144:Int)≤(k:Int):=by omega
    have hq2:¬ (k:Int) < 256:=by omega
    have hq3:(256:Int)≤(k:Int):=by omega
    have hq4:(k:Int) < 280:=by omega
    clear hba hv hvv hkl HT hc
    go_wp2_with (at_builtin;refine wpList_app _ rfl (.tmp 21) (.tmp 23) _ rfl w.heap.size 3 _ 1 8 tyI _ k ((fixedA.take k).map natV) rfl HO2.out (some ⟨wr.heap.size,0,none⟩) 1 1 [.int .i64 7] rfl rfl HZ.out (by simp[Value.oneCell']) (by simp) (by unfold maxLen;omega) (by omega) Hb2.out.size ?_;intro v8 w8 hown8 hg8 _;have Hb8:=Lib.hid (own_below HO2.out hg8 Hb2.out Hb2.out.size);have Ho8:=Lib.hid hown8;clear hown8 hg8)
    all_goals (
     go_roundw
     case rel=>exact⟨k+1,by omega,by go_num,by rw[HT2.out];exact Ho8.out,Hb8.out⟩
     case measure=>simp[intOf];omega)
   ·have hvv:fixedA[k]=8:=by rw[hv];rw[if_neg (by omega),if_neg (by omega)]
    have HT2:Hid ((fixedA.take (k+1)).map natV=(fixedA.take k).map natV++[.int .i64 8]):=Lib.hid (by rw[HT.out,hvv];rfl)
    have hba:Below wr.heap.size wr (wr.alloc (.cells #[.int .i64 8] 3)):=(Below.refl _ _).alloc (Nat.le_refl _) _
    have HO2:=Lib.hid (own_keep HO.out hba)
    have Hb2:=Lib.hid (Hb.out.trans (hba.mono Hb.out.size))
    have HZ:Hid (SlAt (wr.alloc (.cells #[.int .i64 8] 3)) (some ⟨wr.heap.size,0,none⟩) [.int .i64 8]):=Lib.hid (SlAt.of_heap (heap_alloc_new _ _) rfl)
    clear hv hvv hkl HT
    rcases hc with hc | hc
    ·have hq1:¬ (144:Int)≤(k:Int):=by omega
     have hq3:¬ (256:Int)≤(k:Int):=by omega
     clear hba hc
     go_wp2_with (at_builtin;refine wpList_app _ rfl (.tmp 21) (.tmp 23) _ rfl w.heap.size 3 _ 1 8 tyI _ k ((fixedA.take k).map natV) rfl HO2.out (some ⟨wr.heap.size,0,none⟩) 1 1 [.int .i64 8] rfl rfl HZ.out (by simp[Value.oneCell']) (by simp) (by unfold maxLen;omega) (by omega) Hb2.out.size ?_;intro v8 w8 hown8 hg8 _;have Hb8:=Lib.hid (own_below HO2.out hg8 Hb2.out Hb2.out.size);have Ho8:=Lib.hid hown8;clear hown8 hg8)
     all_goals (
      go_roundw
      case rel=>exact⟨k+1,by omega,by go_num,by rw[HT2.out];exact Ho8.out,Hb8.out⟩
      case measure=>simp[intOf];omega)
    ·have hq1:(144:Int)≤(k:Int):=by omega
     have hq2:¬ (k:Int) < 256:=by omega
     have hq3:(256:Int)≤(k:Int):=by omega
     have hq4:¬ (k:Int) < 280:=by omega
     clear hba hc
     go_wp2_with (at_builtin;refine wpList_app _ rfl (.tmp 21) (.tmp 23) _ rfl w.heap.size 3 _ 1 8 tyI _ k ((fixedA.take k).map natV) rfl HO2.out (some ⟨wr.heap.size,0,none⟩) 1 1 [.int .i64 8] rfl rfl HZ.out (by simp[Value.oneCell']) (by simp) (by unfold maxLen;omega) (by omega) Hb2.out.size ?_;intro v8 w8 hown8 hg8 _;have Hb8:=Lib.hid (own_below HO2.out hg8 Hb2.out Hb2.out.size);have Ho8:=Lib.hid hown8;clear hown8 hg8)
     all_goals (
      go_roundw
      case rel=>exact⟨k+1,by omega,by go_num,by rw[HT2.out];exact Ho8.out,Hb8.out⟩
      case measure=>simp[intOf];omega)
  ·obtain rfl:k=288:=by omega
   obtain⟨A8,c8,rfl,_⟩:=own_slat HO.out
   have HOA:=HO
   have HbA:=Hb
   obtain⟨w1,rfl⟩:∃ w1,w1=wr:=⟨_,rfl⟩
   clear hlt hk
   go_wp2_with fail
   go_loopw [1,26] (fun pl vi wr=>∃ k:Nat,k≤32∧vi=.int .i64 (k:Int)∧wr.ownsRow w1.heap.size 3 1 pl k ((fixedB.take k).map natV)∧Below w1.heap.size w1 wr) (fun _ vi _=>32 - (intOf vi).toNat)
   case atStart=>exact⟨0,Nat.zero_le _,rfl,World.ownsRow_nil ..,Below.refl _ _⟩
   case round=>
    obtain⟨k,hk,rfl,ho,hb⟩:=hrel
    have HO:=Lib.hid ho
    have Hb:=Lib.hid hb
    clear ho hb
    by_cases hlt:k < 32
    ·have HT:Hid ((fixedB.take (k+1)).map natV=(fixedB.take k).map natV++[.int .i64 5]):=Lib.hid (by
      have hkl:k < fixedB.length:=by simp[fixedB];omega
      have hv:fixedB[k]=5:=List.eq_of_mem_replicate (List.getElem_mem hkl)
      rw[take_snoc _ _ hkl,List.map_append,hv]
      rfl)
     have hba:Below wr.heap.size wr (wr.alloc (.cells #[.int .i64 5] 3)):=(Below.refl _ _).alloc (Nat.le_refl _) _
     have HO2:=Lib.hid (own_keep HO.out hba)
     have Hb2:=Lib.hid (Hb.out.trans (hba.mono Hb.out.size))
     have HZ:Hid (SlAt (wr.alloc (.cells #[.int .i64 5] 3)) (some ⟨wr.heap.size,0,none⟩) [.int .i64 5]):=Lib.hid (SlAt.of_heap (heap_alloc_new _ _) rfl)
     clear hba
     go_wp2_with (at_builtin;refine wpList_app _ rfl (.tmp 28) (.tmp 29) _ rfl w1.heap.size 3 _ 1 8 tyI _ k ((fixedB.take k).map natV) rfl HO2.out (some ⟨wr.heap.size,0,none⟩) 1 1 [.int .i64 5] rfl rfl HZ.out (by simp[Value.oneCell']) (by simp) (by unfold maxLen;omega) (by omega) Hb2.out.size ?_;intro v8 w8 hown8 hg8 _;have Hb8:=Lib.hid (own_below HO2.out hg8 Hb2.out Hb2.out.size);have Ho8:=Lib.hid hown8;clear hown8 hg8)
     go_roundw
     case rel=>exact⟨_,_,_,_,_,_,_,⟨k+1,by omega,by go_num,by rw[HT.out];exact Ho8.out,Hb8.out⟩,rfl⟩
     case measure=>simp[intOf];omega
    ·obtain rfl:k=32:=by omega
     obtain⟨B8,d8,rfl,_⟩:=own_slat HO.out
     go_wp2_with fail
     go_ret2
     refine⟨A8,c8,B8,d8,rfl,?_,own_base HO.out HbA.out.size,HbA.out.trans (Hb.out.mono HbA.out.size)⟩
     exact own_keep HOA.out Hb.out
end Go.Proofs.YtabdianhoabhhaaGreatDoor.Inf
namespace Go.Proofs
open Go.Shelf
def YtabdianhoabhhaaGreatDoor.lays212_ren:Go.Shelf.Ren:=⟨fun | 212=>175 | 263=>211 | 264=>212 | n=>n,fun | 46=>59 | 51=>41 | 146=>271 | 53=>205 | 148=>273 | n=>n,fun | n=>n⟩
theorem YtabdianhoabhhaaGreatDoor.lays212:Go.Proofs.Lays.n212 Tryz.prog YtabdianhoabhhaaGreatDoor.lays212_ren:={
 mixed:=by kernel_rfl
 f212:=Tryz.func175.trans (congrArg some (by kernel_rfl))
 f263:=Tryz.func211.trans (congrArg some (by kernel_rfl))
 f264:=Tryz.func212.trans (congrArg some (by kernel_rfl))
 t46:=Tryz.underlying59
 a46:=Tryz.isAgg59
 z46:=Tryz.sizeOf59
 v46:=Tryz.zeroValue59
 t51:=Tryz.underlying41
 a51:=Tryz.isAgg41
 z51:=Tryz.sizeOf41
 v51:=Tryz.zeroValue41
 t53:=Tryz.underlying205
 a53:=Tryz.isAgg205
 z53:=Tryz.sizeOf205
 v53:=Tryz.zeroValue205
 t146:=Tryz.underlying271
 a146:=Tryz.isAgg271
 z146:=Tryz.sizeOf271
 v146:=Tryz.zeroValue271
 t148:=Tryz.underlying273
 a148:=Tryz.isAgg273
 z148:=Tryz.sizeOf273
 v148:=Tryz.zeroValue273 }
end Go.Proofs
namespace Go.Proofs.YtabdianhoabhhaaGreatDoor.Inf
open Go Go.RowKit Go.Proofs.YtabdianhoabhhaaGreatDoor Go.Proofs.YtabdianhoabhhaaGreatDoor.Code
set_option linter.unusedVariables false
set_option linter.unusedSimpArgs false
def repRow (v:Int) (k n:Nat):List Value:=List.replicate n (.int .i64 v)++List.replicate (k - n) (.int .i64 0)
theorem repRow_len (v:Int) (k n:Nat) (h:n≤k):(repRow v k n).length=k:=by simp[repRow];omega
theorem repRow_end (v:Int) (k:Nat):repRow v k k=List.replicate k (.int .i64 v):=by simp[repRow]
theorem repRow_zero (v:Int) (k:Nat):madeCells #[.int .i64 0] k=(repRow v k 0).toArray:=by
 rw[nats_zero]
 unfold nats repRow natV
 simp
theorem repRow_more (v:Int) (k n m:Nat) (h:n+m≤k):splice (repRow v k n) n (List.replicate m (.int .i64 v))=repRow v k (n+m):=by
 unfold splice repRow
 rw[List.length_replicate,List.take_append_of_le_length (by simp),List.take_of_length_le (by simp),List.drop_append,List.drop_of_length_le (by simp)]
 simp only[List.length_replicate,List.nil_append,List.drop_replicate]
 rw[←List.append_assoc,List.replicate_append_replicate]
 congr 2
 omega
theorem repRow_get (v:Int) (k n j:Nat) (h:j < n):(repRow v k n)[j]?=some (.int .i64 v):=by
 unfold repRow
 rw[List.getElem?_append_left (by simp;omega),List.getElem?_replicate,if_pos h]
theorem src_of {w:World} {A:Option Addr} {X:List Value} (h:SlAt w A X):0 < X.length→∃ ad,A=some ad∧∀ j v,X[j]?=some v→w.cell? (ad.add j)=some v:=fun hp=>by
 obtain⟨b,o,e,hc⟩:=h hp
 exact⟨_,e,fun j v hj=>by
  have:=hc j v hj
  by_cases hj0:j=0
  ·subst hj0;simpa [Addr.add] using this
  ·simpa [Addr.add,hj0] using this⟩
theorem sizeI:(Tryz.prog.info? 3).map (·.size)=some 1:=by kernel_rfl
set_option maxRecDepth 100000 in
set_option maxHeartbeats 1600000 in
theorem repeat1_any (A:Option Addr) (c k:Nat) (v:Int) (w:World) (hA:SlAt w A [.int .i64 v]) (h1:1≤k) (hk:k≤1000) :
    Calls Tryz.prog 136 #[.slice A 1 c,.int .i64 (k:Int)] w fun e w'=>(∃ A',e=.returned (.slice A' k k)∧SlAt w' A' (List.replicate k (.int .i64 v)))∧Below w.heap.size w w':=by
  have hv1:k < 18446744073709551616:=by omega
  have HM:Hid (∀ W,Calls Tryz.prog 175 #[.int .u64 1,.int .u64 (k:Int)] W fun e w'=>e=.returned (.tuple #[.int .u64 0,.int .u64 (k:Int)])∧w'=W):=Lib.hid (fun W=>by
    have h:=Any.bits_Mul YtabdianhoabhhaaGreatDoor.lays212 1 k (by omega) hv1 W
    rw[Nat.one_mul,Nat.div_eq_of_lt hv1,Nat.mod_eq_of_lt hv1]at h
    exact h)
  have hmk:=make_ints k (by omega)
  have HA:=Lib.hid hA
  have Hz:=Lib.hid (repRow_zero v k)
  clear hA hv1
  go_enter Tryz.func136,Tryz.ntmps136
  go_wp2_with fail
  refine (HM.out _).mono ?_
  rintro e w2 ⟨rfl,rfl⟩
  obtain⟨g,hg⟩:∃ g,g=w2.heap.size:=⟨_,rfl⟩
  have Hg:=Lib.hid hg
  obtain⟨X,hX⟩:∃ X,X=[Value.int .i64 v]:=⟨_,rfl⟩
  have HX:=Lib.hid hX
  rw[←hX]at HA
  obtain⟨r0,hr0⟩:∃ r,r=repRow v k 0:=⟨_,rfl⟩
  rw[←hr0]at Hz
  have HR0:=Lib.hid hr0
  have hk1:X.length=Nat.min 1 k:=by rw[hX];exact (Nat.min_eq_left h1).symm
  have hX1:X.length=1:=by rw[hX];rfl
  have Hr0:Hid (r0.length=k):=Lib.hid (by rw[hr0];exact repRow_len v k 0 (by omega))
  have Hone:Hid (∀ u∈X,u.oneCell'=true):=Lib.hid (by rw[hX];simp[Value.oneCell'])
  have HMk:Hid (∀ (u:World),(Instr.makeSlice 89 (.int .i64 (k:Int)) (.int .i64 (k:Int))).run Tryz.prog u=.ok (.slice (some ⟨u.heap.size,0,none⟩) k k) (u.alloc (.cells r0.toArray 3))):=Lib.hid (fun u=>by rw[hmk u,Hz.out])
  replace hmk:=HMk.out w2
  rw[←hg]at hmk
  have Hnew:Hid ((w2.alloc (.cells r0.toArray 3)).heap[g]?=some (.cells r0.toArray 3 (0,0))):=Lib.hid (by rw[hg];exact heap_alloc_new _ _)
  have Hb1:Hid (Below w2.heap.size w2 (w2.alloc (.cells r0.toArray 3))):=Lib.hid ((Below.refl _ _).alloc (Nat.le_refl _) _)
  have HA1:=Lib.hid (src_of (HA.out.below Hb1.out))
  clear HM HMk hg hX hr0 Hz
  generalize w2.alloc (.cells r0.toArray 3)=w3 at *
  go_wp2_with (with_reducible refine wpList_copy_splice (o:=⟨some 33,_,_,_,_,_⟩) ?hgd (.tmp 31) (.tmp 32) 89 89 ?ho 3 ?hu ?hsz (some ⟨g,0,none⟩) A k k 1 c ?hd ?hs g 0 r0 3 ?hg X ?hn ?hpos ?hfit ?h1 w2.heap.size w2 ?hb ?hBg ?h;(case hgd=>(rfl));(case ho=>(rfl));(case hu=>(exact Tryz.underlying89));(case hsz=>(exact sizeI));(case hd=>(simp[Act.eval]));(case hs=>(simp[Act.eval]));(case hg=>(exact Hnew.out));(case hn=>(exact hk1));(case hpos=>(exact (fun hp=>⟨rfl,HA1.out hp⟩)));(case hfit=>(rw[hX1,Hr0.out];omega));(case h1=>(exact Hone.out));(case hb=>(exact Hb1.out));(case hBg=>(rw[Hg.out];exact Nat.le_refl _));intro w4 HG4 hB4;rw[hX1];have HB4:=Lib.hid hB4;clear hB4)
  have HG4:Hid (w4.heap[g]?=some (.cells (repRow v k 1).toArray 3 (0,0))):=Lib.hid (by
    rw[HG4.out,HR0.out,HX.out]
    exact congrArg (fun l=>some (Obj.cells (List.toArray l) 3 (0,0))) (repRow_more v k 0 1 (by omega)))
  clear Hb1 HA1 Hnew HA Hr0 hk1 hX1 Hone HX HR0 hmk
  go_loopw [8] (fun vn wr=>∃ n:Nat,1≤n∧n≤k∧vn=.int .i64 (n:Int)∧wr.heap[g]?=some (.cells (repRow v k n).toArray 3 (0,0))∧Below w2.heap.size w2 wr) (fun vn _=>k - (intOf vn).toNat)
  case atStart=>exact⟨1,by omega,h1,rfl,HG4.out,HB4.out⟩
  case round=>
    obtain⟨n,hn1,hnk,rfl,hg,hb⟩:=hrel
    have HG:=Lib.hid hg
    have HB:=Lib.hid hb
    clear hg hb HG4 HB4
    by_cases hlt:n < k
    · obtain⟨m,hm⟩:∃ m,m=Nat.min n (k - n):=⟨_,rfl⟩
      have hm1:1≤m∧n+m≤k:=by rw[hm];show 1≤min n (k - n)∧n+min n (k - n)≤k;omega
      obtain⟨X,hX⟩:∃ X,X=List.replicate m (Value.int .i64 v):=⟨_,rfl⟩
      have hXl:X.length=m:=by rw[hX];simp
      have Hone:Hid (∀ u∈X,u.oneCell'=true):=Lib.hid (by rw[hX];intro u hu;rw[List.eq_of_mem_replicate hu];rfl)
      obtain⟨r0,hr0⟩:∃ r,r=repRow v k n:=⟨_,rfl⟩
      have Hrl:Hid (r0.length=k):=Lib.hid (by rw[hr0];exact repRow_len v k n hnk)
      have HS:Hid (splice r0 n X=repRow v k (n+m)):=Lib.hid (by rw[hr0,hX];exact repRow_more v k n m hm1.2)
      have HA:Hid (SlAt wr (some ⟨g,0,none⟩) X):=Lib.hid (fun _=>⟨g,0,rfl,fun j u hj=>by
        rw[cell_of_row wr g _ _ _ _ HG.out]
        have hjm:j < m:=by
          rcases Nat.lt_or_ge j m with h | h
          · exact h
          · rw[hX,List.getElem?_eq_none (by simp;omega)]at hj;cases hj
        rw[hX,List.getElem?_replicate,if_pos hjm]at hj
        rw[←hj,Nat.zero_add,List.getElem?_toArray]
        exact repRow_get v k n j (by have:m≤n:=by rw[hm];exact Nat.min_le_left _ _;
                                     omega)⟩)
      rw[←hr0]at HG
      have hwn:IntKind.i64.wrap ((n:Int)+(m:Int))=((n+m:Nat):Int):=by rw[show (n:Int)+(m:Int)=((n+m:Nat):Int) by omega];exact IntWalk.i64_in _ (by omega)
      have hlt':(n:Int) < (k:Int):=by omega
      have hkn:¬ k=n:=by omega
      have Hm:=Lib.hid hm
      clear hm hX hr0
      go_wp2_with fail
      have hbd:Below wr.heap.size wr wr.drew:=(Below.refl _ _).drew
      have HGd:=Lib.hid (show wr.drew.heap[g]?=some (.cells r0.toArray 3 (0,0)) from HG.out)
      have HAd:=Lib.hid (src_of (HA.out.below hbd))
      have HBd:=Lib.hid (show Below w2.heap.size w2 wr.drew from HB.out.drew)
      have Hmn:Hid (X.length=Nat.min n (k - n)):=Lib.hid (by rw[hXl];exact Hm.out)
      clear hbd HG HA HB Hm
      go_region_law ((first
        | (refine step_copy_splice rfl (.tmp 41) (.tmp 44) 89 89 rfl 3 Tryz.underlying89 sizeI (some ⟨g,n,none⟩) (some ⟨g,0,none⟩) (k - n) (k - n) n k (by simp[Act.eval,Act.put,hkn]) (by simp[Act.eval,Act.put,hkn]) g n r0 3 HGd.out X Hmn.out (fun hp=>⟨rfl,HAd.out hp⟩) (by rw[hXl,Hrl.out];exact hm1.2) Hone.out w2.heap.size w2 HBd.out (by rw[Hg.out];exact Nat.le_refl _) ?_
           intro w4 HG4 hB4
           rw[hXl]
           have HB4:=Lib.hid hB4
           clear hB4)))
      rw[HS.out]at HG4
      simp only[Act.put,List.getElem_toArray,List.getElem_cons_zero,List.getElem_cons_succ,List.setIfInBounds_toArray,List.set_cons_zero,List.set_cons_succ]
      go_roundw
      case rel=>
        first
        | exact⟨_,_,_,_,_,_,_,_,⟨n+m,by omega,by omega,rfl,HG4.out,HB4.out⟩,rfl⟩
        | exact⟨_,_,_,_,_,_,_,_,_,⟨n+m,by omega,by omega,rfl,HG4.out,HB4.out⟩,rfl⟩
        | exact⟨_,_,_,_,_,_,_,_,_,_,⟨n+m,by omega,by omega,rfl,HG4.out,HB4.out⟩,rfl⟩
        | exact⟨_,_,_,_,_,_,_,_,_,_,_,⟨n+m,by omega,by omega,rfl,HG4.out,HB4.out⟩,rfl⟩
        | exact⟨_,_,_,_,_,_,_,_,_,_,_,_,⟨n+m,by omega,by omega,rfl,HG4.out,HB4.out⟩,rfl⟩
        | exact⟨_,_,_,_,_,_,_,_,_,_,_,_,_,⟨n+m,by omega,by omega,rfl,HG4.out,HB4.out⟩,rfl⟩
        | exact⟨_,_,_,_,_,_,_,_,_,_,_,_,_,_,⟨n+m,by omega,by omega,rfl,HG4.out,HB4.out⟩,rfl⟩
      case measure=>simp[intOf];omega
    · obtain rfl:n=k:=by omega
      have hlt':¬ (n:Int) < (n:Int):=by omega
      go_wp2_with fail
      go_ret
      exact⟨⟨_,rfl,SlAt.of_heap HG.out (by rw[repRow_end])⟩,HB.out⟩
end Go.Proofs.YtabdianhoabhhaaGreatDoor.Inf
namespace Go.Proofs.YtabdianhoabhhaaGreatDoor
open Go
set_option linter.unusedVariables false
section
variable {P:Program} {ops:Array Oper} {Q:Exit→Act→World→Prop} {md:Region.Mode} {S:World→Prop} {n:Nat}
def lastB (md:Region.Mode) (ops:Array Oper) (n i:Nat):Bool:=
 match ops[n]? with
 | none=>false
 | some o=>o.after.any fun e=>Region.binds md e && e.on == i
def wpAnyS (P:Program) (md:Region.Mode) (ops:Array Oper) (Q:Exit→Act→World→Prop) (S:World→Prop) (n:Nat):Nat→Array Bool→Act→World→Prop
 | 0,listed,a,w=>Region.ready md ops listed=[]∧Q .normal a w
 | fuel+1,listed,a,w=>
  (Region.ready md ops listed=[]→Q .normal a w)∧
  ∀ i∈Region.ready md ops listed,wpOp P ops Q i (fun a' w'=>(i≠n→S w')∧wpAnyS P md ops Q S n fuel (listed.setIfInBounds i true) a' w') a w
theorem wpAny_of_S:∀ (fuel:Nat) (listed:Array Bool) (a:Act) (w:World),wpAnyS P md ops Q S n fuel listed a w→wpAny P md ops Q fuel listed a w
 | 0,_,_,_,h=>h
 | fuel+1,_,_,_,h=>⟨h.1,fun i hi=>wpOp_mono (fun a' w' h'=>wpAny_of_S fuel _ a' w' h'.2) (h.2 i hi)⟩
theorem wpAnyS_first {i:Nat} {oi:Oper} {v:Value} (hl:lastB md ops n i=true) (hi:ops[i]?=some oi) (hsel:∀ (j:Nat) (o:Oper) cs b,ops[j]?=some o→o.op≠.select cs b)
  (hQ:∀ c a w,Q (.panic c) (a.put oi.dst v) w→Q (.panic c) a w) :
  ∀ (fuel:Nat) (listed:Array Bool) (a:Act) (w:World),
   (∀ j oj,ops[j]?=some oj→j≠i→listed.getD j true=false→(∀ e∈oj.after,Region.binds md e=true→e.on≠i)→oi.apart ops oj=true)→
   i∈Region.ready md ops listed→YieldsIf P ops S oi v a→S w→
   wpAnyS P md ops Q S n fuel (listed.setIfInBounds i true) (a.put oi.dst v) w→wpAnyS P md ops Q S n (fuel+1) listed a w:=by
 intro fuel
 induction fuel with
 | zero=>
  intro listed a w _ hr hy hS H
  refine⟨fun h=>(by rw[h]at hr;cases hr),fun j hj=>?_⟩
  by_cases hji:j=i
  ·subst hji;exact hy.wpOp hi hS ⟨fun _=>hS,H⟩
  ·have:=ready_mono hj hji
   rw[H.1]at this
   cases this
 | succ fuel ih=>
  intro listed a w hfree hr hy hS H
  refine⟨fun h=>(by rw[h]at hr;cases hr),fun j hj=>?_⟩
  by_cases hji:j=i
  ·subst hji;exact hy.wpOp hi hS ⟨fun _=>hS,H⟩
  ·have h1:=H.2 j (ready_mono hj hji)
   obtain⟨hjun,oj,hoj,hall⟩:=mem_ready.1 hj
   have hnot:∀ e∈oj.after,Region.binds md e=true→e.on≠i:=fun e he hb heq=>by
    have h1:=hall e he hb
    have h0:=(mem_ready.1 hr).1
    rw[heq]at h1
    rcases Nat.lt_or_ge i listed.size with h' | h'
    ·simp[h']at h0 h1;rw[h0]at h1;cases h1
    ·simp[Array.getElem?_eq_none h']at h1
   have hjn:j≠n:=fun e=>by
    subst e
    unfold lastB at hl
    rw[hoj]at hl
    simp only at hl
    rw[Array.any_eq_true]at hl
    obtain⟨m,hm,he⟩:=hl
    simp only[Bool.and_eq_true,beq_iff_eq]at he
    exact hnot _ (Array.getElem_mem hm) he.1 he.2
   have h2:=wpOp_putIf hoj (hfree j oj hoj hji hjun hnot) (fun cs b=>hsel i oi cs b hi) (fun cs b=>hsel j oj cs b hoj) hQ hy h1
   have hfree':∀ k ok,ops[k]?=some ok→k≠i→(listed.setIfInBounds j true).getD k true=false→
     (∀ e∈ok.after,Region.binds md e=true→e.on≠i)→oi.apart ops ok=true:=fun k ok hk hki hun hno=>by
    refine hfree k ok hk hki ?_ hno
    by_cases hjk:j=k
    ·subst hjk;exact hjun
    ·rw[getD_set_ne true hjk]at hun;exact hun
   refine wpOp_mono (fun a' w' h3=>⟨h3.2.1,ih (listed.setIfInBounds j true) a' w' hfree' (ready_mono hr (Ne.symm hji)) h3.1 (h3.2.1 hjn) ?_⟩) h2
   rw[Array.setIfInBounds_comm _ _ hji]
   exact h3.2.2
theorem wpAnyS_take {i:Nat} {oi:Oper} {v:Value} {fuel:Nat} {listed:Array Bool} {a:Act} {w:World} (hl:lastB md ops n i=true) (hi:ops[i]?=some oi)
  (hs:Region.noSelect ops=true) (hf:Region.free md ops listed i=true) (hr:(Region.ready md ops listed).contains i=true)
  (hQ:∀ c a w,Q (.panic c) (a.put oi.dst v) w→Q (.panic c) a w) (hw:Region.wanted oi (yielded ops a.tmps)=true) (hS:S w) (hy:∀ w,S w→(execOp a.eval oi).run P w=.ok (.value v) w)
  (h:wpAnyS P md ops Q S n fuel (listed.setIfInBounds i true) (a.put oi.dst v) w):wpAnyS P md ops Q S n (fuel+1) listed a w:=
 wpAnyS_first hl hi (Region.noSelect_spec hs) hQ fuel listed a w (Region.free_spec hi hf) (by simpa using hr) (.inl ⟨hw,hy⟩) hS h
theorem wpAnyS_only {i:Nat} {o:Oper} {fuel:Nat} {listed:Array Bool} {a:Act} {w:World} (hi:ops[i]?=some o) (hr:Region.ready md ops listed=[i])
  (h:∀ K':Act→World→Prop,Shut (∀ a w,S w→(S w→wpAnyS P md ops Q S n fuel (listed.setIfInBounds i true) a w)→K' a w)→if Region.wanted o (yielded ops a.tmps)=true then Oper.wp P o a w K' Q else K' (a.put o.dst undef) w) :
  wpAnyS P md ops Q S n (fuel+1) listed a w:=by
 refine⟨fun h0=>(by rw[hr]at h0;cases h0),fun j hj=>?_⟩
 rw[hr,List.mem_singleton]at hj
 subst hj
 exact wpOp_step hi (fun K' hK=>h K' (fun a w hS hW=>hK a w ⟨fun _=>hS,hW hS⟩))
theorem wpAnyS_last {o:Oper} {fuel:Nat} {listed:Array Bool} {a:Act} {w:World} (hi:ops[n]?=some o) (hr:Region.ready md ops listed=[n]) (hd:Region.ready md ops (listed.setIfInBounds n true)=[])
  (h:∀ K':Act→World→Prop,Shut (∀ a w,Q .normal a w→K' a w)→if Region.wanted o (yielded ops a.tmps)=true then Oper.wp P o a w K' Q else K' (a.put o.dst undef) w) :
  wpAnyS P md ops Q S n (fuel+1) listed a w:=by
 refine⟨fun h0=>(by rw[hr]at h0;cases h0),fun j hj=>?_⟩
 rw[hr,List.mem_singleton]at hj
 subst hj
 refine wpOp_step hi (fun K' hK=>h K' (fun a w hq=>hK a w ⟨fun hh=>absurd rfl hh,?_⟩))
 cases fuel with
 | zero=>exact⟨hd,hq⟩
 | succ f=>exact⟨fun _=>hq,by rw[hd];simp⟩
theorem wp_region_S (S:World→Prop) (n:Nat) {id:Nat} {a:Act} {w:World} (hm:P.follows .mixedOrders=true)
  (h:wpAnyS P .any ops Q S n ops.size (Array.replicate ops.size false) a w.drew):(Code.region id ops true).wp P Q a w:=
 wp_region_any hm (wpAny_of_S _ _ _ _ h)
end
end Go.Proofs.YtabdianhoabhhaaGreatDoor
namespace Go.Proofs.YtabdianhoabhhaaGreatDoor
open Go
set_option linter.unusedVariables false
section
variable {P:Program} {ops:Array Oper} {Q:Exit→Act→World→Prop} {md:Region.Mode} {S:World→Prop} {n:Nat}
def reachB (md:Region.Mode) (ops:Array Oper):Nat→Nat→Nat→Bool
 | 0,_,_=>false
 | f+1,n,i=>match ops[n]? with
  | none=>false
  | some o=>o.after.any fun e=>Region.binds md e && (e.on == i || reachB md ops f e.on i)
def Closed (md:Region.Mode) (ops:Array Oper) (listed:Array Bool):Prop:=∀ j o,ops[j]?=some o→listed.getD j false=true→∀ e∈o.after,Region.binds md e=true→listed.getD e.on false=true
def closedB (md:Region.Mode) (ops:Array Oper) (listed:Array Bool):Bool:=(List.range ops.size).all fun j=>match ops[j]? with
 | none=>true
 | some o=>!listed.getD j false || o.after.all fun e=>!Region.binds md e || listed.getD e.on false
theorem closed_of {listed:Array Bool} (h:closedB md ops listed=true):Closed md ops listed:=by
 intro j o ho hl e he hb
 unfold closedB at h
 rw[List.all_eq_true]at h
 have hj:j < ops.size:=by
  rcases Nat.lt_or_ge j ops.size with h1 | h1
  ·exact h1
  ·rw[Array.getElem?_eq_none h1]at ho;cases ho
 have h1:=h j (List.mem_range.2 hj)
 rw[ho]at h1
 simp only[hl,Bool.not_true,Bool.false_or,Array.all_eq_true]at h1
 obtain⟨m,hm,rfl⟩:=Array.mem_iff_getElem.1 he
 have h2:=h1 m hm
 rw[hb]at h2
 simpa using h2
theorem closed_set {listed:Array Bool} (h:Closed md ops listed) {j:Nat} (hj:j∈Region.ready md ops listed):Closed md ops (listed.setIfInBounds j true):=by
 intro k o ho hl e he hb
 by_cases hkj:k=j
 ·subst hkj
  obtain⟨_,o',ho',hall⟩:=mem_ready.1 hj
  rw[ho]at ho'
  injection ho' with ho'
  subst ho'
  exact getD_set_true (hall e he hb)
 ·rw[getD_set_ne false (Ne.symm hkj)]at hl
  exact getD_set_true (h k o ho hl e he hb)
theorem reach_listed {listed:Array Bool} (h:Closed md ops listed):∀ (f n i:Nat),reachB md ops f n i=true→(∀ o,ops[n]?=some o→∀ e∈o.after,Region.binds md e=true→listed.getD e.on false=true)→listed.getD i false=true
 | 0,n,i,hr,_=>by cases hr
 | f+1,n,i,hr,hn=>by
  unfold reachB at hr
  cases ho:ops[n]? with
  | none=>rw[ho]at hr;cases hr
  | some o=>
   rw[ho]at hr
   simp only at hr
   rw[Array.any_eq_true]at hr
   obtain⟨m,hm,he⟩:=hr
   simp only[Bool.and_eq_true,Bool.or_eq_true,beq_iff_eq]at he
   have hl:=hn o ho _ (Array.getElem_mem hm) he.1
   rcases he.2 with h1 | h1
   ·rw[h1]at hl;exact hl
   ·exact reach_listed h f _ i h1 (fun o' ho' e' he' hb'=>h _ o' ho' hl e' he' hb')
theorem not_ready {listed:Array Bool} (h:Closed md ops listed) {f i:Nat} (hl:reachB md ops f n i=true) (hr:i∈Region.ready md ops listed):n∉Region.ready md ops listed:=fun hn=>by
 obtain⟨_,o,ho,hall⟩:=mem_ready.1 hn
 have h1:=reach_listed h f n i hl (fun o' ho' e he hb=>by
  rw[ho]at ho'
  injection ho' with ho'
  subst ho'
  exact hall e he hb)
 have h0:=(mem_ready.1 hr).1
 rcases Nat.lt_or_ge i listed.size with h' | h'
 ·simp[h']at h0 h1
  rw[h0]at h1
  cases h1
 ·simp[Array.getElem?_eq_none h']at h1
theorem wpAnyS_firstT {f i:Nat} {oi:Oper} {v:Value} (hl:reachB md ops f n i=true) (hi:ops[i]?=some oi) (hsel:∀ (j:Nat) (o:Oper) cs b,ops[j]?=some o→o.op≠.select cs b)
  (hQ:∀ c a w,Q (.panic c) (a.put oi.dst v) w→Q (.panic c) a w) :
  ∀ (fuel:Nat) (listed:Array Bool) (a:Act) (w:World),Closed md ops listed→
   (∀ j oj,ops[j]?=some oj→j≠i→listed.getD j true=false→(∀ e∈oj.after,Region.binds md e=true→e.on≠i)→oi.apart ops oj=true)→
   i∈Region.ready md ops listed→YieldsIf P ops S oi v a→S w→
   wpAnyS P md ops Q S n fuel (listed.setIfInBounds i true) (a.put oi.dst v) w→wpAnyS P md ops Q S n (fuel+1) listed a w:=by
 intro fuel
 induction fuel with
 | zero=>
  intro listed a w _ _ hr hy hS H
  refine⟨fun h=>(by rw[h]at hr;cases hr),fun j hj=>?_⟩
  by_cases hji:j=i
  ·subst hji;exact hy.wpOp hi hS ⟨fun _=>hS,H⟩
  ·have:=ready_mono hj hji
   rw[H.1]at this
   cases this
 | succ fuel ih=>
  intro listed a w hc hfree hr hy hS H
  refine⟨fun h=>(by rw[h]at hr;cases hr),fun j hj=>?_⟩
  by_cases hji:j=i
  ·subst hji;exact hy.wpOp hi hS ⟨fun _=>hS,H⟩
  ·have h1:=H.2 j (ready_mono hj hji)
   obtain⟨hjun,oj,hoj,hall⟩:=mem_ready.1 hj
   have hnot:∀ e∈oj.after,Region.binds md e=true→e.on≠i:=fun e he hb heq=>by
    have h1:=hall e he hb
    have h0:=(mem_ready.1 hr).1
    rw[heq]at h1
    rcases Nat.lt_or_ge i listed.size with h' | h'
    ·simp[h']at h0 h1;rw[h0]at h1;cases h1
    ·simp[Array.getElem?_eq_none h']at h1
   have hjn:j≠n:=fun e=>by
    subst e
    exact not_ready hc hl hr hj
   have h2:=wpOp_putIf hoj (hfree j oj hoj hji hjun hnot) (fun cs b=>hsel i oi cs b hi) (fun cs b=>hsel j oj cs b hoj) hQ hy h1
   have hfree':∀ k ok,ops[k]?=some ok→k≠i→(listed.setIfInBounds j true).getD k true=false→
     (∀ e∈ok.after,Region.binds md e=true→e.on≠i)→oi.apart ops ok=true:=fun k ok hk hki hun hno=>by
    refine hfree k ok hk hki ?_ hno
    by_cases hjk:j=k
    ·subst hjk;exact hjun
    ·rw[getD_set_ne true hjk]at hun;exact hun
   refine wpOp_mono (fun a' w' h3=>⟨h3.2.1,ih (listed.setIfInBounds j true) a' w' (closed_set hc hj) hfree' (ready_mono hr (Ne.symm hji)) h3.1 (h3.2.1 hjn) ?_⟩) h2
   rw[Array.setIfInBounds_comm _ _ hji]
   exact h3.2.2
theorem wpAnyS_takeT {i:Nat} {oi:Oper} {v:Value} {fuel:Nat} {listed:Array Bool} {a:Act} {w:World} (hl:reachB md ops ops.size n i=true) (hcl:closedB md ops listed=true) (hi:ops[i]?=some oi)
  (hs:Region.noSelect ops=true) (hf:Region.free md ops listed i=true) (hr:(Region.ready md ops listed).contains i=true)
  (hQ:∀ c a w,Q (.panic c) (a.put oi.dst v) w→Q (.panic c) a w) (hw:Region.wanted oi (yielded ops a.tmps)=true) (hS:S w) (hy:∀ w,S w→(execOp a.eval oi).run P w=.ok (.value v) w)
  (h:wpAnyS P md ops Q S n fuel (listed.setIfInBounds i true) (a.put oi.dst v) w):wpAnyS P md ops Q S n (fuel+1) listed a w:=
 wpAnyS_firstT hl hi (Region.noSelect_spec hs) hQ fuel listed a w (closed_of hcl) (Region.free_spec hi hf) (by simpa using hr) (.inl ⟨hw,hy⟩) hS h
end
end Go.Proofs.YtabdianhoabhhaaGreatDoor
