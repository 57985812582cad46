/- texts joined: MergeBoth3 DEqF DEqualF DSame DFs ZipGet ZipNames EqualBb ShScan DiskMem ShChk ShFlush. -/
import Derived.Test.YtabdianhoabhhaaGreatDoorShelfKeepsQ7
import Derived.Test.YtabdianhoabhhaaGreatDoorShelfKeepsQ8
import Derived.Test.YtabdianhoabhhaaGreatDoorShelfKeepsQ1
import Derived.Test.YtabdianhoabhhaaGreatDoorProg
import Derived.WalkSpells
import Derived.Lib.AppendZeros
import Derived.Test.YtabdianhoabhhaaGreatDoorShelfKeepsQ10
import Derived.Deep.RegionHeld3
import Derived.Deep.AppendLies
import Derived.Deep.DrawnRows
import Derived.Test.YtabdianhoabhhaaGreatDoorShelfKeepsQ3
import Derived.Deep.QuietTactic
import Derived.BigQuiet
import Derived.Deep.CutRange
open List renaming getElem_toArray→l0A,getElem_cons_zero→l0B,getElem_cons_succ→l0C,setIfInBounds_toArray→l0D,set_cons_zero→l0E,set_cons_succ→l0F
namespace Go.Proofs.YtabdianhoabhhaaGreatDoor.Merge
open Go Go.RowKit Go.Proofs.YtabdianhoabhhaaGreatDoor Go.Proofs.YtabdianhoabhhaaGreatDoor.Name
set_option linter.unusedVariables false
theorem Zm (A:Option Addr) (n c k:Nat) (hk:k≤n) (w:World):(Instr.slice 22 (.slice A n c) (some (.int .i64 (k:Int))) none none).run Tryz.prog w=.ok (sliced A k n c 5) w:=by
 have ht:Tryz.prog.underlying 22=some (.slice (Tryz.prog.elem 22)):=by kernel_rfl
 have he:Tryz.prog.elem 22=36:=by kernel_rfl
 rw[run_slice_l _ _ _ _ _ ht .i64 (k:Int) (by omega) (by omega),he,Tryz.sizeOf36]
 simp[Result.andThen]
def adv (A:Option Addr) (c:Nat):Option Addr:=if c=1 then A else A.map (·.add 5)
theorem Ta {w:World} {A:Option Addr} {n c:Nat} {x:Fx} {l:List Fx} (h:CO w (.slice A n c) (x :: l)) :
  (∀ w',(Instr.slice 22 (.slice A n c) (some (.int .i64 1)) none none).run Tryz.prog w'=.ok (.slice (adv A c) (n - 1) (c - 1)) w')∧CO w (.slice (adv A c) (n - 1) (c - 1)) l∧n=l.length+1:=by
 obtain⟨A0,c0,e,h1,h2,h3,h4,h5⟩:=h
 injection e with e1 e2 e3
 subst e1 e2 e3
 refine⟨fun w'=>?_,?_,rfl⟩
 ·have:=Zm A (x :: l).length c 1 (by simp) w'
  rw[show ((1:Nat):Int)=1 from rfl]at this
  rw[this]
  rfl
 ·refine⟨adv A c,c - 1,by simp,by simp at h1;omega,by omega,?_,?_,fun y hy=>h5 y (by simp[hy])⟩
  ·by_cases hl:l=[]
   ·subst hl;exact AQ.nil
   ·have hlen:=List.length_pos_iff.2 hl
    obtain⟨b,o,e,_⟩:=h3 (by rw[Kt];simp)
    subst e
    have hc:¬ c=1:=by simp at h1;omega
    unfold adv
    rw[if_neg hc]
    show AQ w (some ((⟨b,o,none⟩:Addr).add 5)) (l.flatMap fC)
    rw[addr_add]
    have:=h3.drop 5
    rw[List.flatMap_cons,List.drop_append_of_le_length (by rw[Ku];exact Nat.le_refl _),List.drop_of_length_le (by rw[Ku];exact Nat.le_refl _)]at this
    exact this
  ·intro e
   unfold adv at e
   split at e
   ·cases h4 e
   ·cases A with
    | none=>cases h4 rfl
    | some a=>cases e
end Go.Proofs.YtabdianhoabhhaaGreatDoor.Merge
namespace Go.Proofs.YtabdianhoabhhaaGreatDoor.LF
open Go Go.RowKit Go.Proofs.YtabdianhoabhhaaGreatDoor
set_option linter.unusedVariables false
theorem ty:Bj Tryz.prog 22 36 ((.agg #[.string ByteArray.empty,.slice none 0 0,.int .i64 0,.int .i64 0,.bool false])) 5 64:=⟨Tryz.underlying22,by kernel_rfl,rfl,by omega⟩
theorem DL (z:Array Value) (n:Nat):(Builtin.zeroCells z n).size=n*z.size:=by simp[Builtin.zeroCells]
set_option maxHeartbeats 400000 in
theorem Ma (n:Nat) (w:World) (hn:n*64≤140737488355328) :
  Calls Tryz.prog 115 #[.slice none 0 0,.int .i64 (n:Int)] w fun e w'=>∃ v,e=.returned v∧w'.ownsRow w.heap.size 36 5 v 0 []∧Below w.heap.size w w':=by
 by_cases h0:n=0
 ·subst h0
  go_enter Tryz.func115,Tryz.ntmps115
  go_wp2_with fail
  go_ret
  exact⟨_,rfl,World.ownsRow_nil _ _ _ _,Below.refl _ _⟩
 ·obtain⟨ht,i,hi,hz,hsize,hby,hzs,hsz⟩:=ty.parts
  have hpos:0 < n:=by omega
  have h1:¬ ((n:Int) < 0):=by omega
  have hp:(0:Int) < (n:Int):=by omega
  have AGJ:(n:Int)≤140737488355328:=by omega
  have hrun:=Lib.run_append_nil_zeros (P:=Tryz.prog) w 22 3 22 36 i ((.agg #[.string ByteArray.empty,.slice none 0 0,.int .i64 0,.int .i64 0,.bool false])) .i64 .i64 ht Tryz.underlying3 hi hz n hpos (by omega) (by omega) (by rw[hby];omega)
  have hcap:=grownCap_ge w n 0 36
  have hcm:=grownCap_le_maxLen w n 0 36 (by unfold maxLen;omega)
  have hsz2:(Builtin.zeroCells (Value.cells ((.agg #[.string ByteArray.empty,.slice none 0 0,.int .i64 0,.int .i64 0,.bool false]))) n++Builtin.zeroCells (Value.cells ((.agg #[.string ByteArray.empty,.slice none 0 0,.int .i64 0,.int .i64 0,.bool false]))) (grownCap w n 0 36 - n)).size=grownCap w n 0 36*5:=by
   rw[Array.size_append,DL,DL,hzs,←Nat.add_mul,Nat.add_sub_cancel' hcap]
  have hblk:(w.drew.alloc (.cells (Builtin.zeroCells (Value.cells ((.agg #[.string ByteArray.empty,.slice none 0 0,.int .i64 0,.int .i64 0,.bool false]))) n++Builtin.zeroCells (Value.cells ((.agg #[.string ByteArray.empty,.slice none 0 0,.int .i64 0,.int .i64 0,.bool false]))) (grownCap w n 0 36 - n)) 36)).heap[w.heap.size]?=some (.cells (Builtin.zeroCells (Value.cells ((.agg #[.string ByteArray.empty,.slice none 0 0,.int .i64 0,.int .i64 0,.bool false]))) n++Builtin.zeroCells (Value.cells ((.agg #[.string ByteArray.empty,.slice none 0 0,.int .i64 0,.int .i64 0,.bool false]))) (grownCap w n 0 36 - n)) 36 (0,0)):=heap_alloc_new w.drew _
  have hbel:Below w.heap.size w (w.drew.alloc (.cells (Builtin.zeroCells (Value.cells ((.agg #[.string ByteArray.empty,.slice none 0 0,.int .i64 0,.int .i64 0,.bool false]))) n++Builtin.zeroCells (Value.cells ((.agg #[.string ByteArray.empty,.slice none 0 0,.int .i64 0,.int .i64 0,.bool false]))) (grownCap w n 0 36 - n)) 36)):=((Below.refl _ _).drew).alloc (Nat.le_refl _) _
  generalize (w.drew.alloc (.cells (Builtin.zeroCells (Value.cells ((.agg #[.string ByteArray.empty,.slice none 0 0,.int .i64 0,.int .i64 0,.bool false]))) n++Builtin.zeroCells (Value.cells ((.agg #[.string ByteArray.empty,.slice none 0 0,.int .i64 0,.int .i64 0,.bool false]))) (grownCap w n 0 36 - n)) 36))=W at *
  generalize (Builtin.zeroCells (Value.cells ((.agg #[.string ByteArray.empty,.slice none 0 0,.int .i64 0,.int .i64 0,.bool false]))) n++Builtin.zeroCells (Value.cells ((.agg #[.string ByteArray.empty,.slice none 0 0,.int .i64 0,.int .i64 0,.bool false]))) (grownCap w n 0 36 - n))=cs at *
  generalize grownCap w n 0 36=cap at *
  have Sl:=Lib.hid hrun
  have Qu:=Lib.hid hsz2
  have Et:=Lib.hid hblk
  have uJ:=Lib.hid hbel
  have hcm2:cap≤9223372036854775807:=by unfold maxLen at hcm;omega
  have Hcm:=Lib.hid hcm
  clear hrun hsz2 hblk hbel hi hz hsize hby hzs hsz ht hcm
  go_enter Tryz.func115,Tryz.ntmps115
  go_wp2_with (at_builtin;refine Lib.wpList_append_run _ rfl (.tmp 20) (.tmp 21) _ _ rfl _ _ rfl rfl _ _ Sl.out ?_)
  go_ret
  exact⟨_,rfl,Gw _ _ _ _ w.heap.size cap cs (Nat.le_refl _) Et.out Hcm.out Qu.out,uJ.out⟩
def total (rows:List (Value×Nat×List Value)):Nat:=(rows.map (·.2.1)).sum
def cellsOf (rows:List (Value×Nat×List Value)):List Value:=(rows.map (·.2.2)).flatten
theorem Eu (rows:List (Value×Nat×List Value)) (k:Nat) (h:k < rows.length):total (rows.take (k+1))=total (rows.take k)+rows[k].2.1:=by
 unfold total;rw[BJ _ _ h]
 simp only[List.map_append,List.map_cons,List.map_nil,List.sum_append,List.sum_cons,List.sum_nil,Nat.add_zero]
theorem GQ (rows:List (Value×Nat×List Value)) (k:Nat) (h:k < rows.length):cellsOf (rows.take (k+1))=cellsOf (rows.take k)++rows[k].2.2:=by
 unfold cellsOf;rw[BJ _ _ h]
 simp only[List.map_append,List.map_cons,List.map_nil,List.flatten_append,List.flatten_cons,List.flatten_nil,List.append_nil]
theorem G8 (l:List Nat) (k:Nat):(l.take k).sum≤l.sum:=by
 induction l generalizing k with
 | nil=>simp
 | cons a l ih=>cases k with
  | zero=>simp
  | succ k=>simp only[List.take_succ_cons,List.sum_cons];have:=ih k;omega
theorem G9 (rows:List (Value×Nat×List Value)) (k:Nat):total (rows.take k)≤total rows:=by
 unfold total;rw[List.map_take];exact G8 _ _
set_option maxHeartbeats 800000 in
theorem JA (A:Option Addr) (m c:Nat) (rows:List (Value×Nat×List Value)) (w:World) (hm:rows.length=m) (sK:m≤4611686018427387904) (ha:AQ w A (rows.map (·.1)))
  (hrows:∀ r∈rows,Ol w 5 r.1 r.2.1 r.2.2) (h1:∀ r∈rows,∀ u∈r.2.2,u.oneCell'=true) (ht:total rows*64≤140737488355328) :
  Calls Tryz.prog 77 #[.slice A m c] w fun e w'=>∃ v,e=.returned v∧w'.ownsRow w.heap.size 36 5 v (total rows) (cellsOf rows)∧Below w.heap.size w w':=by
 have Hm:=Lib.hid hm
 have Ha:=Lib.hid ha
 have Qv:=Lib.hid hrows
 have H1:=Lib.hid h1
 have Ht:=Lib.hid ht
 clear hm ha hrows h1 ht
 go_enter Tryz.func77,Tryz.ntmps77
 go_wp2_with fail
 go_loop [3,11] (fun s i=>∃ k:Nat,k≤m∧i=.int .i64 k∧s=.int .i64 (total (rows.take k):Nat)) (fun _ i=>m - (intOf i).toNat)
 case atStart=>exact⟨0,Nat.zero_le _,rfl,rfl⟩
 case round=>
  obtain⟨k,hk,rfl,rfl⟩:=hrel
  by_cases hlt:k < m
  ·have hkr:k < rows.length:=by rw[Hm.out];exact hlt
   obtain⟨b,o,rfl,hcell⟩:=Ha.out.get (k:=k) (by simpa using hkr)
   obtain⟨B,cb,hv,hl1,hl2,hl3,hB,hB0⟩:=Qv.out rows[k] (List.getElem_mem hkr)
   simp only[List.getElem_map]at hcell
   rw[hv]at hcell
   have Hs:=Lib.hid (Eu rows k hkr)
   have htl:=G9 rows (k+1)
   rw[Hs.out]at htl
   have hb1:total (rows.take k)+rows[k].2.1≤140737488355328:=by have:=Ht.out;omega
   have hnn:0≤((total (rows.take k):Nat):Int)+((rows[k].2.1:Nat):Int):=by omega
   clear htl hB hB0 hl3 hv
   generalize total (rows.take k)=s0 at *
   generalize rows[k].2.1=n0 at *
   go_wp2_with fail
   go_round
   case rel=>exact⟨k+1,by omega,by go_num,by rw[Hs.out];go_num⟩
   case measure=>simp[intOf];omega
  ·have hk2:k=m:=by omega
   have FY:Hid (rows.take k=rows):=Lib.hid (List.take_of_length_le (by rw[Hm.out];omega))
   rw[FY.out]
   have htt:total rows≤140737488355328:=by have:=Ht.out;omega
   obtain⟨T,hT⟩:∃ T,T=total rows:=⟨_,rfl⟩
   rw[←hT]at htt⊢
   have HT:=Lib.hid hT
   clear hT FY hk2
   go_wp2_with fail
   refine (Ma T _ (by rw[HT.out];exact Ht.out)).mono ?_
   rintro e w1 ⟨v1,rfl,hown1,hb1⟩
   have Ho:=Lib.hid hown1
   have Hb:=Lib.hid hb1
   clear hown1 hb1
   go_wp2_with fail
   go_loopw [6,27] (fun s i wr=>∃ k:Nat,k≤m∧i=.int .i64 k∧wr.ownsRow w.heap.size 36 5 s (total (rows.take k)) (cellsOf (rows.take k))∧Below w.heap.size w wr) (fun _ i _=>m - (intOf i).toNat)
   case atStart=>exact⟨0,Nat.zero_le _,rfl,Ho.out,Hb.out⟩
   case round=>
    obtain⟨k,hk,rfl,hown,hbr⟩:=hrel
    rename_i v3 _ _ _ _ _ _ _ _ _
    have How:=Lib.hid hown
    have GN:=Lib.hid hbr
    by_cases hlt:k < m
    ·have hkr:k < rows.length:=by rw[Hm.out];exact hlt
     obtain⟨b,o,rfl,hcell⟩:=(Ha.out.below hbr).get (k:=k) (by simpa using hkr)
     obtain⟨B,cb,hv,hl1,hl2,hl3,hB,hB0⟩:=(Qv.out rows[k] (List.getElem_mem hkr)).below hbr
     simp only[List.getElem_map]at hcell
     rw[hv]at hcell
     have Hs:=Lib.hid (Eu rows k hkr)
     have Hcs:=Lib.hid (GQ rows k hkr)
     have htl:=G9 rows (k+1)
     rw[Hs.out]at htl
     have hb1:total (rows.take k)+rows[k].2.1≤maxLen∧(total (rows.take k)+rows[k].2.1)*64≤140737488355328:=by
      have:=Ht.out;unfold maxLen;omega
     have HB:=Lib.hid hB
     have HB0:=Lib.hid hB0
     have bq:=Lib.hid hl3
     have Lx:=Lib.hid (H1.out rows[k] (List.getElem_mem hkr))
     have Hb1:=Lib.hid hb1
     clear htl hv hB hB0 hl3 hb1 hown hbr
     go_wp2_with (at_builtin;refine MI rfl (.tmp 31) (.tmp 32) _ rfl 36 _ 5 64 ty _ _ _ rfl How.out GN.out B _ cb _ rfl bq.out HB.out Lx.out HB0.out Hb1.out.1 Hb1.out.2 ?_;intro v4 w4 DJ hb4 _ _;have uK:=Lib.hid DJ;have Hb4:=Lib.hid hb4;clear DJ hb4)
     go_roundw
     case rel=>exact⟨k+1,by omega,by go_num,by rw[Hs.out,Hcs.out];exact uK.out,Hb4.out⟩
     case measure=>simp[intOf];omega
    ·have FY:Hid (rows.take k=rows):=Lib.hid (List.take_of_length_le (by rw[Hm.out];omega))
     go_wp2_with fail
     go_ret
     exact⟨_,rfl,by have:=How.out;rw[FY.out]at this;exact this,GN.out⟩
end Go.Proofs.YtabdianhoabhhaaGreatDoor.LF
namespace Go.Proofs.YtabdianhoabhhaaGreatDoor.Merge
open Go Go.RowKit Go.Proofs.YtabdianhoabhhaaGreatDoor Go.Proofs.YtabdianhoabhhaaGreatDoor.Name
set_option linter.unusedVariables false
theorem KU {P:Program} {ops:Array Oper} {o:Oper} {a:Act} {w:World} {K:Act→World→Prop} {Q:Exit→Act→World→Prop} {E:Prop} (hgd:o.guard=none) (s x:Operand) (t:TypeId)
  (hop:o.op=.call { callee:=.builtin .append,args:=#[s,x],argTypes:=#[t,t] })
  (base:Nat) (e:TypeId) (z:Value) (size bytes:Nat) (hT:Bj P t e z size bytes)
  (v:Value) (n:Nat) (xs:List Value) (hs:a.eval s=v) (hown:w.ownsRow base e size v n xs)
  (A:Option Addr) (m c:Nat) (news:List Value) (hx:a.eval x=.slice A m c) (hl:news.length=m*size) (hr:AQ w A news) (h1:∀ u∈news,u.oneCell'=true)
  (hA:A=none→m=0) (h63:n+m≤maxLen) (hbytes:(n+m)*bytes≤140737488355328) (hbase:base≤w.heap.size)
  (hK:∀ v' w',w'.ownsRow base e size v' (n+m) (xs++news)→w.grownBy w' v.ownBlock→K (a.put o.dst v') w') :
  if Region.wanted o (yielded ops a.tmps)=true then Oper.wp P o a w K Q else E:=by
 have hw:Region.wanted o (yielded ops a.tmps)=true:=by simp[Region.wanted,hgd]
 rw[if_pos hw]
 obtain⟨v',w',hrun,h2,h3,h4⟩:=GM (P:=P) w base t o.type e z size bytes hT v n xs hown A m c news hl hr h1 hA h63 hbytes hbase
 unfold Oper.wp
 simp[execOp,hop,resolve,invoke,builtin,hs,hx,hrun,Result.andThen]
 exact hK v' w' h2 h3
def Zn (am bm:List Fl) (w:World) (e:Ending) (w':World):Prop:=
 ∃ v l',e=.returned (.tuple #[v,.int .i64 (Bt am bm).1])∧FX w' w.heap.size v l'∧l'.map Prod.fst=(Bt am bm).2∧Below w.heap.size w w'
theorem AAu {am bm:List Fl} (h:Bb am≠0):Bt am bm=(Bb am,[]):=by unfold Bt;rw[if_pos h]
theorem AAv {am bm:List Fl} (h:Bb am=0) (h2:Bb bm≠0):Bt am bm=(Bb bm,[]):=by unfold Bt;rw[if_neg (by simpa using h),if_pos h2]
theorem AAw {am bm:List Fl} (h:Bb am=0) (h2:Bb bm=0) (h3:12 < (CL am bm).length):Bt am bm=(11,[]):=by unfold Bt;rw[if_neg (by simpa using h),if_neg (by simpa using h2),if_pos h3]
theorem AAx {a b:Fl} (h:later a b < 0):Gn a b=b:=by unfold Gn;rw[if_pos h]
theorem AAy {a b:Fl} (h:¬ later a b < 0):Gn a b=a:=by unfold Gn;rw[if_neg h]
theorem PI {w w':World} (hb:Below w.heap.size w w') {p0 p1 p2 p3 p4:Addr} {v0 v1 v2 v3 v4:Value} (h:w.cell? p0=some v0∧w.cell? p1=some v1∧w.cell? p2=some v2∧w.cell? p3=some v3∧w.cell? p4=some v4) :
  w'.cell? p0=some v0∧w'.cell? p1=some v1∧w'.cell? p2=some v2∧w'.cell? p3=some v3∧w'.cell? p4=some v4:=
 ⟨cell_below hb h.1,cell_below hb h.2.1,cell_below hb h.2.2.1,cell_below hb h.2.2.2.1,cell_below hb h.2.2.2.2⟩
theorem AGz {α:Type} {os ar br:List α} {x:α} (u:α) (hu:u∈os++[x]∨u∈ar∨u∈br):u∈os∨u∈x :: ar∨u∈br:=by
 simp at hu⊢;rcases hu with (h | h) | h | h <;> simp[h]
theorem AG0 {α:Type} {os ar br:List α} {y:α} (u:α) (hu:u∈os++[y]∨u∈ar∨u∈br):u∈os∨u∈ar∨u∈y :: br:=by
 simp at hu⊢;rcases hu with (h | h) | h | h <;> simp[h]
theorem ACU {α:Type} {os ar br:List α} {x y f:α} (hf:f=x∨f=y) (u:α) (hu:u∈os++[f]∨u∈ar∨u∈br):u∈os∨u∈x :: ar∨u∈y :: br:=by
 simp at hu⊢;rcases hu with (h | h) | h | h
 ·simp[h]
 ·rcases hf with rfl | rfl <;> simp[h]
 ·simp[h]
 ·simp[h]
def nY:Value→Nat | .slice _ n _=>n | _=>0
theorem tyF:Bj Tryz.prog 22 36 (.agg #[.string ByteArray.empty,.slice none 0 0,.int .i64 0,.int .i64 0,.bool false]) 5 64:=⟨Tryz.underlying22,by kernel_rfl,rfl,by omega⟩
set_option maxRecDepth 100000 in
set_option maxHeartbeats 4000000 in
theorem O0 (v1 v2:Value) (a b:List Fx) (w:World) (hm:ML w) (h1:CO w v1 a) (h2:CO w v2 b) :
  Calls Tryz.prog 55 #[v1,v2] w (Zn (a.map Prod.fst) (b.map Prod.fst) w):=by
 have HC1:=Lib.hid (fun w' (hb:Below w.heap.size w w')=>F7 v1 a w' (hm.below hb) (h1.below hb))
 have HC2:=Lib.hid (fun w' (hb:Below w.heap.size w w')=>F7 v2 b w' (hm.below hb) (h2.below hb))
 have H1:=Lib.hid h1
 have H2:=Lib.hid h2
 obtain⟨A,c,rfl,_⟩:=h1
 obtain⟨B,d,rfl,_⟩:=h2
 obtain⟨n,hn⟩:∃ n,n=a.length:=⟨_,rfl⟩
 obtain⟨m,hm'⟩:∃ m,m=b.length:=⟨_,rfl⟩
 have Hn:=Lib.hid hn
 have Hm:=Lib.hid hm'
 have HR1:=Lib.hid (AAu (am:=a.map Prod.fst) (bm:=b.map Prod.fst))
 have HR2:=Lib.hid (AAv (am:=a.map Prod.fst) (bm:=b.map Prod.fst))
 have HR3:=Lib.hid (AAw (am:=a.map Prod.fst) (bm:=b.map Prod.fst))
 have HR4:=Lib.hid (O3 (a:=a.map Prod.fst) (b:=b.map Prod.fst))
 have Vd:Hid (Bb (a.map Prod.fst)=0→a.length≤12∧∀ x∈a,x.1.bytes.length≤3000):=Lib.hid (fun h=>by
  rw[NK]at h
  refine⟨by have:=h.1;rwa [List.length_map]at this,fun x hx=>?_⟩
  have:=h.2.1 x.1 (List.mem_map_of_mem hx)
  unfold EW at this
  split at this
  ·rename_i g;exact absurd this g
  ·split at this
   ·simp at this
   ·omega)
 have F3:Hid (Bb (b.map Prod.fst)=0→b.length≤12∧∀ x∈b,x.1.bytes.length≤3000):=Lib.hid (fun h=>by
  rw[NK]at h
  refine⟨by have:=h.1;rwa [List.length_map]at this,fun x hx=>?_⟩
  have:=h.2.1 x.1 (List.mem_map_of_mem hx)
  unfold EW at this
  split at this
  ·rename_i g;exact absurd this g
  ·split at this
   ·simp at this
   ·omega)
 rw[←hn]at HC1 H1⊢
 rw[←hm']at HC2 H2⊢
 clear hm hn hm'
 unfold Zn
 generalize hR:Bt (a.map Prod.fst) (b.map Prod.fst)=R at *
 clear hR
 have i0:∀ w,(Instr.index 124 (.agg #[.slice A n c,.slice B m d]) (.int .i64 0)).run Tryz.prog w=.ok (.slice A n c) w:=fun _=>by kernel_rfl
 have i1:∀ w,(Instr.index 124 (.agg #[.slice A n c,.slice B m d]) (.int .i64 1)).run Tryz.prog w=.ok (.slice B m d) w:=fun _=>by kernel_rfl
 go_enter Tryz.func55,Tryz.ntmps55
 go_wp2_with fail
 go_loopw [15] (fun i wx=>∃ k:Nat,k≤2∧i=.int .i64 (k:Int)∧Below w.heap.size w wx∧(1≤k→Bb (a.map Prod.fst)=0)∧(2≤k→Bb (b.map Prod.fst)=0)) (fun i _=>2 - (intOf i).toNat)
 case atStart=>exact⟨0,Nat.zero_le _,rfl,Below.refl _ _,by simp,by simp⟩
 case round=>
  obtain⟨k,hk,rfl,hb,h1,h2⟩:=hrel
  have Hb:=Lib.hid hb
  have K1:=Lib.hid h1
  have K2:=Lib.hid h2
  clear hb h1 h2
  rcases (by omega:k=0∨k=1∨k=2) with rfl | rfl | rfl
  ·go_wp2_with fail
   refine (HC1.out _ Hb.out).mono ?_
   rintro e wx ⟨rfl,hbx⟩
   have Ee:=Lib.hid (CK Hb.out hbx)
   clear hbx
   by_cases he:Bb (a.map Prod.fst)=0
   ·rw[he]
    go_wp2_with fail
    go_roundw
    case rel=>exact⟨1,by omega,by go_num,Ee.out,fun _=>he,by simp⟩
    case measure=>simp[intOf]
   ·have HU:=Lib.hid (HR1.out he)
    generalize Bb (a.map Prod.fst)=z at *
    have hz1:(z != 0)=true:=by simpa using he
    go_wp2_with fail
    go_ret2
    exact⟨_,[],by rw[HU.out];rfl,FX.nil _ _,by rw[HU.out];rfl,Ee.out⟩
  ·have hs0:=K1.out (Nat.le_refl _)
   go_wp2_with fail
   refine (HC2.out _ Hb.out).mono ?_
   rintro e wx ⟨rfl,hbx⟩
   have Ee:=Lib.hid (CK Hb.out hbx)
   clear hbx
   by_cases he:Bb (b.map Prod.fst)=0
   ·rw[he]
    go_wp2_with fail
    go_roundw
    case rel=>exact⟨2,by omega,by go_num,Ee.out,fun _=>hs0,fun _=>he⟩
    case measure=>simp[intOf]
   ·have HU:=Lib.hid (HR2.out hs0 he)
    generalize Bb (b.map Prod.fst)=z at *
    have hz1:(z != 0)=true:=by simpa using he
    go_wp2_with fail
    go_ret2
    exact⟨_,[],by rw[HU.out];rfl,FX.nil _ _,by rw[HU.out];rfl,Ee.out⟩
  ·have jC:=K1.out (by omega)
   have hcb:=K2.out (by omega)
   have Yq:=Lib.hid (HR3.out jC hcb)
   have Lh:=Lib.hid (HR4.out jC hcb)
   obtain⟨ANJ,_⟩:=Vd.out jC
   obtain⟨ZX,_⟩:=F3.out hcb
   have Ya:Hid (∀ x:Fx,(x∈a∨x∈b)→x.1.bytes.length≤3000):=Lib.hid (fun x hx=>by
    rcases hx with h | h
    ·exact (Vd.out jC).2 x h
    ·exact (F3.out hcb).2 x h)
   clear HR1 HR2 HR3 HR4 HC1 HC2 jC hcb K1 K2 Vd F3
   rw[show ((2:Nat):Int)=(2:Int) from rfl]
   go_wp2_with fail
   go_loopw [0,1,9] (fun va vb vo wx=>∃ ar br os:List Fx,CO w va ar∧CO w vb br∧wx.ownsRow w.heap.size 36 5 vo os.length (os.flatMap fC)∧(∀ x∈os,D9 w x)∧
    (∀ x:Fx,(x∈os∨x∈ar∨x∈br)→(x∈a∨x∈b))∧
    CL (a.map Prod.fst) (b.map Prod.fst)=os.map Prod.fst++CL (ar.map Prod.fst) (br.map Prod.fst)∧os.length+ar.length+br.length≤24∧Below w.heap.size w wx) (fun va vb _ _=>nY va+nY vb)
   case atStart=>exact⟨a,b,[],H1.out,H2.out,World.ownsRow_nil _ _ _ _,by simp,by simp,rfl,by simp;omega,Hb.out⟩
   case round=>
    obtain⟨ar,br,os,hfa,hfb,hown,hos,hmem,heq,hlen,hbx⟩:=hrel
    have Hfa:=Lib.hid hfa
    have Hfb:=Lib.hid hfb
    have DK:=Lib.hid hown
    have Hos:=Lib.hid hos
    have nZ:=Lib.hid hmem
    have Heq:=Lib.hid heq
    have Hlen:=Lib.hid hlen
    have Ee:=Lib.hid hbx
    clear hfa hfb hown hos hmem heq hlen hbx Hb
    obtain⟨A1,c1,rfl,ha1,ha2,hsa,ha0,hda⟩:=Hfa.out
    obtain⟨B1,d1,rfl,hb1,hb2,hsb,hb0,hdb⟩:=Hfb.out
    have Hsa:=Lib.hid hsa
    have Hsb:=Lib.hid hsb
    have Ha0:=Lib.hid ha0
    have Hb0:=Lib.hid hb0
    have Hda:=Lib.hid hda
    have Hdb:=Lib.hid hdb
    have zu:=Lib.hid (And.intro ha1 ha2)
    have VR:=Lib.hid (And.intro hb1 hb2)
    clear hsa hsb ha0 hb0 hda hdb ha1 ha2 hb1 hb2
    by_cases hz:ar=[]∨br=[]
    ·obtain⟨Ao,co,rfl,_,_,_,_⟩:=Ad DK.out
     have Hfs:Hid (∀ w',Below w.heap.size w w'→∀ x∈os++ar++br,D9 w' x):=Lib.hid (fun w' hb x hx=>by
      rcases List.mem_append.1 hx with hx | hx
      ·rcases List.mem_append.1 hx with hx | hx
       ·exact (Hos.out x hx).below hb
       ·exact (Hda.out x hx).below hb
      ·exact (Hdb.out x hx).below hb)
     have Hbl:Hid (∀ x∈os++ar++br,x.1.bytes.length≤3000):=Lib.hid (fun x hx=>by
      refine Ya.out x (nZ.out x ?_)
      simpa [or_assoc] using hx)
     have AAz:Hid (CL (a.map Prod.fst) (b.map Prod.fst)=(os++ar++br).map Prod.fst):=Lib.hid (by
      rw[Heq.out,List.map_append,List.map_append,List.append_assoc]
      congr 1
      rcases hz with h | h
      ·rw[h];simp[FZ]
      ·rw[h];simp[KR])
     obtain⟨an,han⟩:∃ an,an=ar.length:=⟨_,rfl⟩
     obtain⟨bn,hbn⟩:∃ bn,bn=br.length:=⟨_,rfl⟩
     have Han:=Lib.hid han
     have lS:=Lib.hid hbn
     rw[←han]at zu⊢
     rw[←hbn]at VR⊢
     clear han hbn
     have hz2:an=0∨(0 < an∧bn=0):=by
      rcases hz with h | h
      ·left;rw[Han.out,h];rfl
      ·rcases Nat.eq_zero_or_pos an with h2 | h2
       ·exact .inl h2
       ·exact .inr ⟨h2,by rw[lS.out,h];rfl⟩
     clear hz
     have HC:Hid (∀ w',Below wr.heap.size wr w'→AQ w' (some ⟨wr.heap.size,0,none⟩) [.slice Ao os.length co,.slice A1 an c1,.slice B1 bn d1]→Calls Tryz.prog 77 #[.slice (some ⟨wr.heap.size,0,none⟩) 3 3] w' fun e w2=>∃ v,e=.returned v∧CO w2 v (os++ar++br)∧Below w'.heap.size w' w2):=Lib.hid (fun w' hb hs=>by
      have hbw:=Ee.out.trans (hb.mono Ee.out.size)
      refine (LF.JA (some ⟨wr.heap.size,0,none⟩) 3 3 [(.slice Ao os.length co,os.length,os.flatMap fC),(.slice A1 an c1,an,ar.flatMap fC),(.slice B1 bn d1,bn,br.flatMap fC)] w' rfl (by omega) hs ?_ ?_ ?_).mono ?_
      ·intro r hr
       simp only[List.mem_cons,List.not_mem_nil,or_false]at hr
       rcases hr with rfl | rfl | rfl
       ·obtain⟨A9,c9,h1,h2,h3,h4,h5⟩:=Ad DK.out
        exact⟨A9,c9,h1,h2,h3,Kt _,AQ.below h4 hb,h5⟩
       ·exact⟨A1,c1,rfl,zu.out.1,zu.out.2,by rw[Kt,Han.out],AQ.below Hsa.out hbw,fun e=>by rw[Han.out,Ha0.out e];rfl⟩
       ·exact⟨B1,d1,rfl,VR.out.1,VR.out.2,by rw[Kt,lS.out],AQ.below Hsb.out hbw,fun e=>by rw[lS.out,Hb0.out e];rfl⟩
      ·intro r hr
       simp only[List.mem_cons,List.not_mem_nil,or_false]at hr
       rcases hr with rfl | rfl | rfl <;> exact XN _
      ·simp only[LF.total,List.map_cons,List.map_nil,List.sum_cons,List.sum_nil]
       have h1:=Hlen.out
       have h2:=Han.out
       have h3:=lS.out
       omega
      ·rintro e w2 ⟨v,rfl,hown2,hb2⟩
       refine⟨v,rfl,QA (base:=w'.heap.size) (n:=LF.total [(.slice Ao os.length co,os.length,os.flatMap fC),(.slice A1 an c1,an,ar.flatMap fC),(.slice B1 bn d1,bn,br.flatMap fC)]) ?_ ?_ (fun x hx=>Hfs.out _ (hbw.trans (hb2.mono hbw.size)) x hx),hb2⟩
       ·have e1:LF.cellsOf [(.slice Ao os.length co,os.length,os.flatMap fC),(.slice A1 an c1,an,ar.flatMap fC),(.slice B1 bn d1,bn,br.flatMap fC)]=(os++ar++br).flatMap fC:=by simp[LF.cellsOf]
        rw[e1]at hown2
        exact hown2
       ·simp[LF.total,Han.out,lS.out])
     have Hnw:=Lib.hid ((Below.refl wr.heap.size wr).alloc (Nat.le_refl _) (.cells #[.slice Ao os.length co,.slice A1 an c1,.slice B1 bn d1] 22))
     have VA:Hid (AQ (wr.alloc (.cells #[.slice Ao os.length co,.slice A1 an c1,.slice B1 bn d1] 22)) (some ⟨wr.heap.size,0,none⟩) [.slice Ao os.length co,.slice A1 an c1,.slice B1 bn d1]):=Lib.hid (AQ.of_heap (heap_alloc_new _ _) rfl)
     have bq:Hid ((os++ar++br).length≤24):=Lib.hid (by have:=Hlen.out;simp;omega)
     obtain⟨rs,hrs⟩:∃ rs,rs=os++ar++br:=⟨_,rfl⟩
     rw[←hrs]at Hfs Hbl AAz HC bq
     clear hrs Heq Hlen nZ Ya Hos DK Hda Hdb Hsa Hsb Ha0 Hb0 Hfa Hfb Han lS zu VR
     obtain⟨N,hN⟩:∃ N,N=rs.length:=⟨_,rfl⟩
     have HN:=Lib.hid hN
     clear hN
     rcases hz2 with rfl | ⟨hz3,rfl⟩
     all_goals (
      go_wp2_with fail
      refine (HC.out _ Hnw.out VA.out).mono ?_
      rintro e w2 ⟨v,rfl,hf2,hb2⟩
      have Hf2:=Lib.hid hf2
      have Hb2:=Lib.hid ((Ee.out.trans (Hnw.out.mono Ee.out.size)).trans (hb2.mono (by have:=Ee.out.size;have:=Hnw.out.size;omega)))
      clear hf2 hb2
      obtain⟨A2,c2,rfl,_⟩:=Hf2.out
      rw[←HN.out]at Hf2⊢
      by_cases h12:12 < N
      ·have HU:=Lib.hid (Yq.out (by rw[AAz.out,List.length_map,←HN.out];exact h12))
       go_wp2_with fail
       go_ret2
       exact⟨_,[],by rw[HU.out];rfl,FX.nil _ _,by rw[HU.out];rfl,Hb2.out⟩
      ·have HU:=Lib.hid (Lh.out (by rw[AAz.out,List.length_map,←HN.out];omega))
       have HCo:=Lib.hid (su _ rs _ Hf2.out (by rw[←HN.out];omega) (fun x hx=>by have:=Hbl.out x hx;omega))
       go_wp2_with fail
       refine (HCo.out).mono ?_
       rintro e w3 ⟨v3,l3,rfl,ho3,he3,hb3⟩
       have P6:=Lib.hid (ho3.Qr Hb2.out.size)
       have He3:=Lib.hid he3
       have Hb3:=Lib.hid (Hb2.out.trans (hb3.mono Hb2.out.size))
       clear ho3 he3 hb3
       go_wp2_with fail
       go_ret2
       exact⟨_,l3,by rw[HU.out];rfl,P6.out,by rw[HU.out,He3.out,AAz.out],Hb3.out⟩)
    ·obtain⟨x,ar',rfl⟩:∃ x l,ar=x :: l:=by
      cases ar with
      | nil=>exact absurd (.inl rfl) hz
      | cons x l=>exact⟨x,l,rfl⟩
     obtain⟨y,br',rfl⟩:∃ y l,br=y :: l:=by
      cases br with
      | nil=>exact absurd (.inr rfl) hz
      | cons x l=>exact⟨x,l,rfl⟩
     clear hz Yq Lh Ya
     obtain⟨htA,hfA,hnA⟩:=Ta Hfa.out
     obtain⟨htB,hfB,hnB⟩:=Ta Hfb.out
     have HfA:=Lib.hid hfA
     have HfB:=Lib.hid hfB
     have Hfx:Hid (D9 w x):=Lib.hid (Hda.out x (by simp))
     have Hfy:Hid (D9 w y):=Lib.hid (Hdb.out y (by simp))
     obtain⟨ba,oa,rfl,mQ,uN,uP,uR,uT⟩:=GD Hsa.out (k:=0) (by simp)
     obtain⟨bb,ob,rfl,mR,uO,uQ,uS,uU⟩:=GD Hsb.out (k:=0) (by simp)
     simp only[Nat.zero_mul,Nat.add_zero,List.getElem_cons_zero]at mQ uN uP uR uT mR uO uQ uS uU
     obtain⟨an,han⟩:∃ an,an=(x :: ar').length:=⟨_,rfl⟩
     obtain⟨bn,hbn⟩:∃ bn,bn=(y :: br').length:=⟨_,rfl⟩
     rw[←han]at htA HfA hnA Hfa⊢
     rw[←hbn]at htB HfB hnB Hfb⊢
     have HnA:=Lib.hid hnA
     have HnB:=Lib.hid hnB
     have ha1:0 < an:=by omega
     have hb1:0 < bn:=by omega
     have ha2:(0:Int) < (an:Int):=by omega
     have hb2:(0:Int) < (bn:Int):=by omega
     have ha3:decide ((0:Int) < (an:Int))=true:=decide_eq_true ha2
     have hb3:decide ((0:Int) < (bn:Int))=true:=decide_eq_true hb2
     have hle:os.length≤24:=by have:=Hlen.out;omega
     have AA0:Hid (os.length+ar'.length+br'.length+2≤24):=Lib.hid (by have:=Hlen.out;simp at this;omega)
     clear hfA hfB han hbn hnA hnB Hlen Hsa Hsb Ha0 Hb0 Hda Hdb
     obtain⟨⟨n1,b1,s1,d1,g1⟩,A3,l3,c3⟩:=x
     obtain⟨⟨n2,b2,s2,d2,g2⟩,A4,l4,c4⟩:=y
     simp only[Cm]at mQ uN uP uR uT mR uO uQ uS uU
     have qa0:=fun p:Ap wr=>Ap.cell (show wr.cell? ⟨ba,oa,none⟩=_ from cell_below Ee.out mQ) p
     have qb0:=fun p:Ap wr=>Ap.cell (show wr.cell? ⟨bb,ob,none⟩=_ from cell_below Ee.out mR) p
     have zu:=Lib.hid (And.intro mQ (And.intro uN (And.intro uP (And.intro uR uT))))
     have VR:=Lib.hid (And.intro mR (And.intro uO (And.intro uQ (And.intro uS uU))))
     clear mQ uN uP uR uT mR uO uQ uS uU
     go_wp2_with fail
     refine Lp (by kernel_rfl) (by kernel_rfl) ?_
     repeat (quiet_step (first | exact LG (OG _ _ _)))
     refine wpQuiet_nil ?_
     intro wq hq
     have hbq:Below wr.heap.size wr wq:=by obtain⟨p,hp⟩:=hq;rw[hp];exact p.h
     have VB:=Lib.hid (Ee.out.trans (hbq.mono Ee.out.size))
     have ji:=Lib.hid (AP DK.out hbq)
     clear hq hbq qa0 qb0 Ee DK
     obtain⟨mQ,uN,uP,uR,uT⟩:=zu.out
     obtain⟨mR,uO,uQ,uS,uU⟩:=VR.out
     have ea0:=cell_below VB.out mQ
     have ea1:=cell_below VB.out uN
     have ea2:=cell_below VB.out uP
     have ea3:=cell_below VB.out uR
     have ea4:=cell_below VB.out uT
     have eb0:=cell_below VB.out mR
     have eb1:=cell_below VB.out uO
     have eb2:=cell_below VB.out uQ
     have eb3:=cell_below VB.out uS
     have eb4:=cell_below VB.out uU
     clear mQ uN uP uR uT mR uO uQ uS uU
     have HL:=Lib.hid (Rv (x:=(⟨n1,b1,s1,d1,g1⟩:Fl)) (y:=(⟨n2,b2,s2,d2,g2⟩:Fl)) (ar'.map Prod.fst) (br'.map Prod.fst))
     have HG:=Lib.hid (Rw (x:=(⟨n1,b1,s1,d1,g1⟩:Fl)) (y:=(⟨n2,b2,s2,d2,g2⟩:Fl)) (ar'.map Prod.fst) (br'.map Prod.fst))
     have HE:=Lib.hid (Rx (x:=(⟨n1,b1,s1,d1,g1⟩:Fl)) (y:=(⟨n2,b2,s2,d2,g2⟩:Fl)) (ar'.map Prod.fst) (br'.map Prod.fst))
     obtain⟨z,hz⟩:∃ z,cb n1 n2=z:=⟨_,rfl⟩
     have Hz:=Lib.hid hz
     rw[hz]
     clear hz
     rcases (by omega:z < 0∨0 < z∨z=0) with h | h | rfl
     ·have hd1:decide (z < 0)=true:=decide_eq_true h
      have hd2:decide (z > 0)=false:=decide_eq_false (by omega)
      have RV:Hid ((wq.drew.alloc (.cells #[.string (Name.AR n1),.slice A3 l3 c3,.int .i64 s1,.int .i64 d1,.bool g1] 36)).ownsRow w.heap.size 36 5 u9 os.length (os.flatMap fC)):=Lib.hid ((I7 ji.out).alloc _)
      have FR:Hid (Below w.heap.size w (wq.drew.alloc (.cells #[.string (Name.AR n1),.slice A3 l3 c3,.int .i64 s1,.int .i64 d1,.bool g1] 36))):=Lib.hid (VB.out.drew.alloc VB.out.size _)
      have jk:Hid (AQ (wq.drew.alloc (.cells #[.string (Name.AR n1),.slice A3 l3 c3,.int .i64 s1,.int .i64 d1,.bool g1] 36)) (some ⟨wq.heap.size,0,none⟩) [.string (Name.AR n1),.slice A3 l3 c3,.int .i64 s1,.int .i64 d1,.bool g1]):=Lib.hid (AQ.of_heap (heap_alloc_new _ _) rfl)
      go_wp2_with fail
      go_region_held3 (fun W=>W.cell? ⟨ba,oa,none⟩=some (.string (Name.AR n1))∧W.cell? ⟨ba,oa+1,none⟩=some (.slice A3 l3 c3)∧W.cell? ⟨ba,oa+2,none⟩=some (.int .i64 s1)∧W.cell? ⟨ba,oa+3,none⟩=some (.int .i64 d1)∧W.cell? ⟨ba,oa+4,none⟩=some (.bool g1)) (first | exact PI VB.out.drew zu.out | exact PI FR.out zu.out | exact PI (own_below RV.out MH.out FR.out FR.out.size) zu.out) ((refine KU rfl (.tmp 66) (.tmp 70) _ rfl w.heap.size 36 _ 5 64 tyF u9 os.length (os.flatMap fC) (by simp[Act.eval]) RV.out (some ⟨wq.heap.size,0,none⟩) 1 1 [.string (Name.AR n1),.slice A3 l3 c3,.int .i64 s1,.int .i64 d1,.bool g1] (by simp[Act.eval]) rfl jk.out (by simp[Value.oneCell']) (by simp) (by unfold maxLen;omega) (by omega) FR.out.size ?_;intro v8 w8 Au Dj;have GL:=Lib.hid Au;have MH:=Lib.hid Dj;clear Au Dj))
      all_goals (
       have EJ:=Lib.hid (own_below RV.out MH.out FR.out FR.out.size)
       clear RV FR jk MH
       go_wp2_with fail
       go_roundw
       case rel=>skip;exact⟨ar',(⟨n2,b2,s2,d2,g2⟩,A4,l4,c4) :: br',os++[(⟨n1,b1,s1,d1,g1⟩,A3,l3,c3)],HfA.out,Hfb.out,by rw[List.length_append,List.flatMap_append];exact GL.out,(fun u hu=>by
         rcases List.mem_append.1 hu with hu | hu
         ·exact Hos.out u hu
         ·rw[List.mem_singleton.1 hu];exact Hfx.out),(fun u hu=>nZ.out u (AGz u hu)),by rw[Heq.out,List.map_cons,List.map_cons,HL.out (by rw[Hz.out];exact h),List.map_append,List.append_assoc];rfl,by have:=AA0.out;simp;omega,EJ.out⟩
       case measure=>simp[nY];omega)
     ·have hd1:decide (z < 0)=false:=decide_eq_false (by omega)
      have hd2:decide (z > 0)=true:=decide_eq_true h
      have RV:Hid ((wq.drew.alloc (.cells #[.string (Name.AR n2),.slice A4 l4 c4,.int .i64 s2,.int .i64 d2,.bool g2] 36)).ownsRow w.heap.size 36 5 u9 os.length (os.flatMap fC)):=Lib.hid ((I7 ji.out).alloc _)
      have FR:Hid (Below w.heap.size w (wq.drew.alloc (.cells #[.string (Name.AR n2),.slice A4 l4 c4,.int .i64 s2,.int .i64 d2,.bool g2] 36))):=Lib.hid (VB.out.drew.alloc VB.out.size _)
      have jk:Hid (AQ (wq.drew.alloc (.cells #[.string (Name.AR n2),.slice A4 l4 c4,.int .i64 s2,.int .i64 d2,.bool g2] 36)) (some ⟨wq.heap.size,0,none⟩) [.string (Name.AR n2),.slice A4 l4 c4,.int .i64 s2,.int .i64 d2,.bool g2]):=Lib.hid (AQ.of_heap (heap_alloc_new _ _) rfl)
      go_wp2_with fail
      go_region_held3 (fun W=>W.cell? ⟨bb,ob,none⟩=some (.string (Name.AR n2))∧W.cell? ⟨bb,ob+1,none⟩=some (.slice A4 l4 c4)∧W.cell? ⟨bb,ob+2,none⟩=some (.int .i64 s2)∧W.cell? ⟨bb,ob+3,none⟩=some (.int .i64 d2)∧W.cell? ⟨bb,ob+4,none⟩=some (.bool g2)) (first | exact PI VB.out.drew VR.out | exact PI FR.out VR.out | exact PI (own_below RV.out MH.out FR.out FR.out.size) VR.out) ((refine KU rfl (.tmp 77) (.tmp 81) _ rfl w.heap.size 36 _ 5 64 tyF u9 os.length (os.flatMap fC) (by simp[Act.eval]) RV.out (some ⟨wq.heap.size,0,none⟩) 1 1 [.string (Name.AR n2),.slice A4 l4 c4,.int .i64 s2,.int .i64 d2,.bool g2] (by simp[Act.eval]) rfl jk.out (by simp[Value.oneCell']) (by simp) (by unfold maxLen;omega) (by omega) FR.out.size ?_;intro v8 w8 Au Dj;have GL:=Lib.hid Au;have MH:=Lib.hid Dj;clear Au Dj))
      all_goals (
       have EJ:=Lib.hid (own_below RV.out MH.out FR.out FR.out.size)
       clear RV FR jk MH
       go_wp2_with fail
       go_roundw
       case rel=>skip;exact⟨(⟨n1,b1,s1,d1,g1⟩,A3,l3,c3) :: ar',br',os++[(⟨n2,b2,s2,d2,g2⟩,A4,l4,c4)],Hfa.out,HfB.out,by rw[List.length_append,List.flatMap_append];exact GL.out,(fun u hu=>by
         rcases List.mem_append.1 hu with hu | hu
         ·exact Hos.out u hu
         ·rw[List.mem_singleton.1 hu];exact Hfy.out),(fun u hu=>nZ.out u (AG0 u hu)),by rw[Heq.out,List.map_cons,List.map_cons,HG.out (by rw[Hz.out];exact h),List.map_append,List.append_assoc];rfl,by have:=AA0.out;simp;omega,EJ.out⟩
       case measure=>simp[nY];omega)
     ·have Zo:=Lib.hid (VB.out.alloc VB.out.size (.cells #[.string (Name.AR n1),.slice A3 l3 c3,.int .i64 s1,.int .i64 d1,.bool g1] 36))
      have B3:=Lib.hid (AV.new wq 36 #[.string (Name.AR n1),.slice A3 l3 c3,.int .i64 s1,.int .i64 d1,.bool g1])
      have Zp:=Lib.hid (ji.out.alloc (.cells #[.string (Name.AR n1),.slice A3 l3 c3,.int .i64 s1,.int .i64 d1,.bool g1] 36))
      have lQ:Hid (u9.ownBlock≠some wq.heap.size):=Lib.hid (fun h=>by have:=(ji.out.lt _ h).2;omega)
      have wP:Hid (∀ k:Nat,w.heap.size≤(⟨wq.heap.size,k,none⟩:Addr).block):=Lib.hid (fun _=>VB.out.size)
      obtain⟨w3,hw3⟩:∃ w3,w3=wq.alloc (.cells #[.string (Name.AR n1),.slice A3 l3 c3,.int .i64 s1,.int .i64 d1,.bool g1] 36):=⟨_,rfl⟩
      rw[←hw3]at Zo B3 Zp
      have Hw3:=Lib.hid hw3.symm
      clear hw3
      go_wp2_with fail
      rw[Hw3.out]
      clear Hw3 ea0 ea1 ea2 ea3 ea4 eb0 eb1 eb2 eb3 eb4
      have AG1:=Lib.hid (Hfx.out.below Zo.out)
      have AG2:=Lib.hid (Hfy.out.below Zo.out)
      obtain⟨mQ,uN,uP,uR,uT⟩:=PI Zo.out zu.out
      obtain⟨mR,uO,uQ,uS,uU⟩:=PI Zo.out VR.out
      have p0:=fun p:Ap w3=>Ap.cell mQ p
      have q0:=fun p:Ap w3=>Ap.cell mR p
      have p1:=fun p:Ap w3=>Ap.cell uN p
      have q1:=fun p:Ap w3=>Ap.cell uO p
      have p2:=fun p:Ap w3=>Ap.cell uP p
      have q2:=fun p:Ap w3=>Ap.cell uQ p
      have p3:=fun p:Ap w3=>Ap.cell uR p
      have q3:=fun p:Ap w3=>Ap.cell uS p
      have p4:=fun p:Ap w3=>Ap.cell uT p
      have q4:=fun p:Ap w3=>Ap.cell uU p
      clear mQ uN uP uR uT mR uO uQ uS uU
      refine Lp (by kernel_rfl) (by kernel_rfl) ?_
      repeat (quiet_step (first | exact Jv (ng (⟨n1,b1,s1,d1,g1⟩,A3,l3,c3) (⟨n2,b2,s2,d2,g2⟩,A4,l4,c4) _ (AG1.out.below (Ap.h _)) (AG2.out.below (Ap.h _)))))
      refine wpQuiet_nil ?_
      intro w4 hq
      have hb4:Below w3.heap.size w3 w4:=by obtain⟨p,hp⟩:=hq;rw[hp];exact p.h
      have Hb4:=Lib.hid (Zo.out.trans (hb4.mono Zo.out.size))
      have B4:=Lib.hid (B3.out.below hb4 B3.out.lt)
      have jl:=Lib.hid (AP Zp.out hb4)
      clear hq hb4 AG1 AG2 B3 Zp Zo p0 p1 p2 p3 p4 q0 q1 q2 q3 q4
      obtain⟨z2,hz2⟩:∃ z2,later (⟨n1,b1,s1,d1,g1⟩:Fl) ⟨n2,b2,s2,d2,g2⟩=z2:=⟨_,rfl⟩
      have Hz2:=Lib.hid hz2
      try simp only
      rw[hz2]
      clear hz2
      by_cases h:z2 < 0
      ·have hd3:decide (z2 < 0)=true:=decide_eq_true h
       obtain⟨eb0,eb1,eb2,eb3,eb4⟩:=PI Hb4.out VR.out
       obtain⟨ex0,ex1,ex2,ex3,ex4⟩:=OH B4.out
       have hf0:=B4.out.frozen 0
       have hf1:=B4.out.frozen 1
       have hf2:=B4.out.frozen 2
       have hf3:=B4.out.frozen 3
       have hf4:=B4.out.frozen 4
       have B5:Hid (AV (((((w4.setCell ⟨wq.heap.size,0,none⟩ (.string (Name.AR n2))).setCell ⟨wq.heap.size,1,none⟩ (.slice A4 l4 c4)).setCell ⟨wq.heap.size,2,none⟩ (.int .i64 s2)).setCell ⟨wq.heap.size,3,none⟩ (.int .i64 d2)).setCell ⟨wq.heap.size,4,none⟩ (.bool g2)) wq.heap.size 36 #[.string (Name.AR n2),.slice A4 l4 c4,.int .i64 s2,.int .i64 d2,.bool g2]):=Lib.hid (((((B4.out.Ca 0 (.string (Name.AR n2))).Ca 1 (.slice A4 l4 c4)).Ca 2 (.int .i64 s2)).Ca 3 (.int .i64 d2)).Ca 4 (.bool g2))
       have jq:=Lib.hid (ownsRow_setCell_other (ownsRow_setCell_other (ownsRow_setCell_other (ownsRow_setCell_other (ownsRow_setCell_other jl.out (a:=⟨wq.heap.size,0,none⟩) lQ.out (.string (Name.AR n2))) (a:=⟨wq.heap.size,1,none⟩) lQ.out (.slice A4 l4 c4)) (a:=⟨wq.heap.size,2,none⟩) lQ.out (.int .i64 s2)) (a:=⟨wq.heap.size,3,none⟩) lQ.out (.int .i64 d2)) (a:=⟨wq.heap.size,4,none⟩) lQ.out (.bool g2))
       have Hb5:=Lib.hid (((((Hb4.out.setCell (show w.heap.size≤(⟨wq.heap.size,0,none⟩:Addr).block from wP.out 0) (.string (Name.AR n2))).setCell (show w.heap.size≤(⟨wq.heap.size,1,none⟩:Addr).block from wP.out 1) (.slice A4 l4 c4)).setCell (show w.heap.size≤(⟨wq.heap.size,2,none⟩:Addr).block from wP.out 2) (.int .i64 s2)).setCell (show w.heap.size≤(⟨wq.heap.size,3,none⟩:Addr).block from wP.out 3) (.int .i64 d2)).setCell (show w.heap.size≤(⟨wq.heap.size,4,none⟩:Addr).block from wP.out 4) (.bool g2))
       obtain⟨w5,hw5⟩:∃ w5,w5=(((((w4.setCell ⟨wq.heap.size,0,none⟩ (.string (Name.AR n2))).setCell ⟨wq.heap.size,1,none⟩ (.slice A4 l4 c4)).setCell ⟨wq.heap.size,2,none⟩ (.int .i64 s2)).setCell ⟨wq.heap.size,3,none⟩ (.int .i64 d2)).setCell ⟨wq.heap.size,4,none⟩ (.bool g2)):=⟨_,rfl⟩
       rw[←hw5]at B5 jq Hb5
       have Hw5:=Lib.hid hw5.symm
       clear hw5
       go_wp2_with fail
       rw[Hw5.out]
       clear Hw5 eb0 eb1 eb2 eb3 eb4 ex0 ex1 ex2 ex3 ex4 hf0 hf1 hf2 hf3 hf4 B4 jl Hb4
       have RV:Hid ((w5.drew.alloc (.cells #[.string (Name.AR n2),.slice A4 l4 c4,.int .i64 s2,.int .i64 d2,.bool g2] 36)).ownsRow w.heap.size 36 5 u9 os.length (os.flatMap fC)):=Lib.hid ((I7 jq.out).alloc _)
       have FR:Hid (Below w.heap.size w (w5.drew.alloc (.cells #[.string (Name.AR n2),.slice A4 l4 c4,.int .i64 s2,.int .i64 d2,.bool g2] 36))):=Lib.hid (Hb5.out.drew.alloc Hb5.out.size _)
       have jk:Hid (AQ (w5.drew.alloc (.cells #[.string (Name.AR n2),.slice A4 l4 c4,.int .i64 s2,.int .i64 d2,.bool g2] 36)) (some ⟨w5.heap.size,0,none⟩) [.string (Name.AR n2),.slice A4 l4 c4,.int .i64 s2,.int .i64 d2,.bool g2]):=Lib.hid (AQ.of_heap (heap_alloc_new _ _) rfl)
       go_wp2_with fail
       go_region_held3 (fun W=>W.cell? ⟨wq.heap.size,0,none⟩=some (.string (Name.AR n2))∧W.cell? ⟨wq.heap.size,1,none⟩=some (.slice A4 l4 c4)∧W.cell? ⟨wq.heap.size,2,none⟩=some (.int .i64 s2)∧W.cell? ⟨wq.heap.size,3,none⟩=some (.int .i64 d2)∧W.cell? ⟨wq.heap.size,4,none⟩=some (.bool g2)) (first | exact OH B5.out.drew | exact OH (B5.out.drew.alloc _) | exact OH ((B5.out.drew.alloc _).grown MH.out lQ.out)) ((refine KU rfl (.tmp 55) (.tmp 57) _ rfl w.heap.size 36 _ 5 64 tyF u9 os.length (os.flatMap fC) (by simp[Act.eval]) RV.out (some ⟨w5.heap.size,0,none⟩) 1 1 [.string (Name.AR n2),.slice A4 l4 c4,.int .i64 s2,.int .i64 d2,.bool g2] (by simp[Act.eval]) rfl jk.out (by simp[Value.oneCell']) (by simp) (by unfold maxLen;omega) (by omega) FR.out.size ?_;intro v8 w8 Au Dj;have GL:=Lib.hid Au;have MH:=Lib.hid Dj;clear Au Dj))
       all_goals (
        have EJ:=Lib.hid (own_below RV.out MH.out FR.out FR.out.size)
        clear RV FR jk MH
        go_wp2_with fail
        go_roundw
        case rel=>skip;exact⟨ar',br',os++[(⟨n2,b2,s2,d2,g2⟩,A4,l4,c4)],HfA.out,HfB.out,by rw[List.length_append,List.flatMap_append];exact GL.out,(fun u hu=>by
          rcases List.mem_append.1 hu with hu | hu
          ·exact Hos.out u hu
          ·rw[List.mem_singleton.1 hu];exact Hfy.out),(fun u hu=>nZ.out u (ACU (by simp) u hu)),by rw[Heq.out,List.map_cons,List.map_cons,HE.out Hz.out,AAx (by have:=Hz2.out;omega),List.map_append,List.append_assoc];rfl,by have:=AA0.out;simp;omega,EJ.out⟩
        case measure=>simp[nY];omega)
      ·have hd3:decide (z2 < 0)=false:=decide_eq_false h
       have B5:=B4
       have jq:=jl
       have Hb5:=Hb4
       clear B4 jl Hb4
       have RV:Hid ((w4.drew.alloc (.cells #[.string (Name.AR n1),.slice A3 l3 c3,.int .i64 s1,.int .i64 d1,.bool g1] 36)).ownsRow w.heap.size 36 5 u9 os.length (os.flatMap fC)):=Lib.hid ((I7 jq.out).alloc _)
       have FR:Hid (Below w.heap.size w (w4.drew.alloc (.cells #[.string (Name.AR n1),.slice A3 l3 c3,.int .i64 s1,.int .i64 d1,.bool g1] 36))):=Lib.hid (Hb5.out.drew.alloc Hb5.out.size _)
       have jk:Hid (AQ (w4.drew.alloc (.cells #[.string (Name.AR n1),.slice A3 l3 c3,.int .i64 s1,.int .i64 d1,.bool g1] 36)) (some ⟨w4.heap.size,0,none⟩) [.string (Name.AR n1),.slice A3 l3 c3,.int .i64 s1,.int .i64 d1,.bool g1]):=Lib.hid (AQ.of_heap (heap_alloc_new _ _) rfl)
       go_wp2_with fail
       go_region_held3 (fun W=>W.cell? ⟨wq.heap.size,0,none⟩=some (.string (Name.AR n1))∧W.cell? ⟨wq.heap.size,1,none⟩=some (.slice A3 l3 c3)∧W.cell? ⟨wq.heap.size,2,none⟩=some (.int .i64 s1)∧W.cell? ⟨wq.heap.size,3,none⟩=some (.int .i64 d1)∧W.cell? ⟨wq.heap.size,4,none⟩=some (.bool g1)) (first | exact OH B5.out.drew | exact OH (B5.out.drew.alloc _) | exact OH ((B5.out.drew.alloc _).grown MH.out lQ.out)) ((refine KU rfl (.tmp 55) (.tmp 57) _ rfl w.heap.size 36 _ 5 64 tyF u9 os.length (os.flatMap fC) (by simp[Act.eval]) RV.out (some ⟨w4.heap.size,0,none⟩) 1 1 [.string (Name.AR n1),.slice A3 l3 c3,.int .i64 s1,.int .i64 d1,.bool g1] (by simp[Act.eval]) rfl jk.out (by simp[Value.oneCell']) (by simp) (by unfold maxLen;omega) (by omega) FR.out.size ?_;intro v8 w8 Au Dj;have GL:=Lib.hid Au;have MH:=Lib.hid Dj;clear Au Dj))
       all_goals (
        have EJ:=Lib.hid (own_below RV.out MH.out FR.out FR.out.size)
        clear RV FR jk MH
        go_wp2_with fail
        go_roundw
        case rel=>skip;exact⟨ar',br',os++[(⟨n1,b1,s1,d1,g1⟩,A3,l3,c3)],HfA.out,HfB.out,by rw[List.length_append,List.flatMap_append];exact GL.out,(fun u hu=>by
          rcases List.mem_append.1 hu with hu | hu
          ·exact Hos.out u hu
          ·rw[List.mem_singleton.1 hu];exact Hfx.out),(fun u hu=>nZ.out u (ACU (by simp) u hu)),by rw[Heq.out,List.map_cons,List.map_cons,HE.out Hz.out,AAy (by have:=Hz2.out;omega),List.map_append,List.append_assoc];rfl,by have:=AA0.out;simp;omega,EJ.out⟩
        case measure=>simp[nY];omega)
end Go.Proofs.YtabdianhoabhhaaGreatDoor.Merge
namespace Go.Proofs.YtabdianhoabhhaaGreatDoor.Merge
open Go Go.RowKit Go.Proofs.YtabdianhoabhhaaGreatDoor
def bu {α β:Type} (p:α→β→Bool) (a:List α) (b:List β):Bool:=decide (a.length=b.length) && (a.zip b).all fun x=>p x.1 x.2
theorem ADV {α β:Type} {p:α→β→Bool} {a:List α} {b:List β} (h:a.length≠b.length):bu p a b=false:=by
 unfold bu;rw[decide_eq_false h];rfl
theorem uL {α β:Type} {p:α→β→Bool} {a:List α} {b:List β} {k:Nat} (hk:k < a.length) (hk2:k < b.length) (h:p a[k] b[k]=false):bu p a b=false:=by
 unfold bu
 have:(a.zip b).all (fun x=>p x.1 x.2)=false:=by
  rw[List.all_eq_false]
  refine⟨(a[k],b[k]),?_,by simp[h]⟩
  rw[List.mem_iff_getElem]
  exact⟨k,by rw[List.length_zip];omega,by simp⟩
 rw[this,Bool.and_false]
theorem uM {α β:Type} {p:α→β→Bool} {a:List α} {b:List β} {k:Nat} (hk:k < a.length) (hk2:k < b.length) (h0:∀ x∈(a.zip b).take k,p x.1 x.2=true) (h:p a[k] b[k]=true):∀ x∈(a.zip b).take (k+1),p x.1 x.2=true:=by
 have hl:k < (a.zip b).length:=by rw[List.length_zip];omega
 rw[BJ _ _ hl]
 intro x hx
 rcases List.mem_append.1 hx with hx | hx
 ·exact h0 x hx
 ·simp at hx;subst hx;exact h
theorem AAU {α β:Type} {p:α→β→Bool} {a:List α} {b:List β} {k:Nat} (hl:a.length=b.length) (hk:k=a.length) (h0:∀ x∈(a.zip b).take k,p x.1 x.2=true):bu p a b=true:=by
 unfold bu
 rw[List.take_of_length_le (by rw[List.length_zip];omega)]at h0
 rw[decide_eq_true hl,Bool.true_and,List.all_eq_true]
 exact h0
theorem XU {α β:Type} {p:α→α→Bool} {f:α→β} (hp:∀ x y,p x y=true↔f x=f y):∀ a b:List α,bu p a b=true↔a.map f=b.map f
 | [],[]=>by simp[bu]
 | [],y :: b=>by simp[bu]
 | x :: a,[]=>by simp[bu]
 | x :: a,y :: b=>by
  have ih:=XU hp a b
  have:bu p (x :: a) (y :: b)=true↔p x y=true∧bu p a b=true:=by simp[bu];constructor <;> (rintro⟨h1,h2,h3⟩;exact⟨h2,h1,h3⟩)
  rw[this,ih,hp,List.map_cons,List.map_cons,List.cons.injEq]
end Go.Proofs.YtabdianhoabhhaaGreatDoor.Merge
namespace Go.Proofs.YtabdianhoabhhaaGreatDoor.Merge
open Go Go.RowKit Go.Proofs.YtabdianhoabhhaaGreatDoor Go.Proofs.YtabdianhoabhhaaGreatDoor.Name
set_option linter.unusedVariables false
set_option maxRecDepth 100000 in
set_option maxHeartbeats 1600000 in
theorem RL (A B:Option Addr) (n m ca cb:Nat) (xs ys:List (Fx)) (g:FuncId) (cap:Array Value) (p:Fx→Fx→Bool) (w:World) (hn:xs.length=n) (hm:ys.length=m) (hx:n≤maxLen) (hy:m≤maxLen)
  (ha:AQ w A (xs.flatMap fC)) (hb:AQ w B (ys.flatMap fC))
  (hcf:∀ args w',(callFunc g args).run Tryz.prog w'=.ok (.enter g args) w')
  (hf:∀ x∈xs,∀ y∈ys,∀ w',Below w.heap.size w w'→Calls Tryz.prog g (#[fV x,fV y]++cap) w' fun e w''=>e=.returned (.bool (p x y))∧Below w'.heap.size w' w'') :
  Calls Tryz.prog 49 #[.slice A n ca,.slice B m cb,.func (.func g) #[] cap] w fun e w'=>e=.returned (.bool (bu p xs ys))∧Below w.heap.size w w':=by
 unfold maxLen at hx hy
 have Hn:=Lib.hid hn
 have Hm:=Lib.hid hm
 have Ha:=Lib.hid ha
 have Hb:=Lib.hid hb
 have Hf:=Lib.hid hf
 clear hn hm ha hb hf
 by_cases hnm:n=m
 ·subst hnm
  go_enter Tryz.func49,Tryz.ntmps49
  go_wp2_with fail
  go_loopw [17] (fun i wr=>∃ k:Nat,k≤n∧i=.int .i64 (k:Int)∧(∀ x∈(xs.zip ys).take k,p x.1 x.2=true)∧Below w.heap.size w wr) (fun i _=>n - (intOf i).toNat)
  case atStart=>exact⟨0,Nat.zero_le _,rfl,by simp,Below.refl _ _⟩
  case round=>
   obtain⟨k,hk,rfl,hall,hbr⟩:=hrel
   have FY:=Lib.hid hall
   have GN:=Lib.hid hbr
   clear hall hbr
   by_cases hlt:k < n
   ·have hkx:k < xs.length:=by rw[Hn.out];exact hlt
    have Rk:k < ys.length:=by rw[Hm.out];exact hlt
    obtain⟨ba,oa,rfl,jC⟩:=EI (size:=5) Ku (by omega) (Ha.out.below GN.out) hkx
    obtain⟨bb,ob,rfl,hcb⟩:=EI (size:=5) Ku (by omega) (Hb.out.below GN.out) Rk
    have Sy:=Lib.hid (fun w' hb=>Hf.out xs[k] (List.getElem_mem hkx) ys[k] (List.getElem_mem Rk) w' hb)
    have Hy:=Lib.hid (uL (p:=p) hkx Rk)
    have Hz:=Lib.hid (uM (p:=p) hkx Rk FY.out)
    generalize xs[k]=x at *
    generalize ys[k]=y at *
    obtain⟨⟨n1,b1,s1,d1,g1⟩,A1,l1,c1⟩:=x
    obtain⟨⟨n2,b2,s2,d2,g2⟩,A2,l2,c2⟩:=y
    have mQ:wr.cell? ⟨ba,oa+k*5,none⟩=some (.string (Name.AR n1)):=jC 0 _ rfl
    have mR:wr.cell? ⟨bb,ob+k*5,none⟩=some (.string (Name.AR n2)):=hcb 0 _ rfl
    have uN:wr.cell? ⟨ba,oa+k*5+1,none⟩=some (.slice A1 l1 c1):=jC 1 _ rfl
    have uO:wr.cell? ⟨bb,ob+k*5+1,none⟩=some (.slice A2 l2 c2):=hcb 1 _ rfl
    have uP:wr.cell? ⟨ba,oa+k*5+2,none⟩=some (.int .i64 s1):=jC 2 _ rfl
    have uQ:wr.cell? ⟨bb,ob+k*5+2,none⟩=some (.int .i64 s2):=hcb 2 _ rfl
    have uR:wr.cell? ⟨ba,oa+k*5+3,none⟩=some (.int .i64 d1):=jC 3 _ rfl
    have uS:wr.cell? ⟨bb,ob+k*5+3,none⟩=some (.int .i64 d2):=hcb 3 _ rfl
    have uT:wr.cell? ⟨ba,oa+k*5+4,none⟩=some (.bool g1):=jC 4 _ rfl
    have uU:wr.cell? ⟨bb,ob+k*5+4,none⟩=some (.bool g2):=hcb 4 _ rfl
    have HA2:=Lib.hid (((Below.refl wr.heap.size wr).alloc (Nat.le_refl _) (.cells #[.string (Name.AR n1),.slice A1 l1 c1,.int .i64 s1,.int .i64 d1,.bool g1] 36)).alloc (by simp) (.cells #[.string (Name.AR n2),.slice A2 l2 c2,.int .i64 s2,.int .i64 d2,.bool g2] 36))
    have la:=block_lt_of_cell mQ
    have lb:=block_lt_of_cell mR
    clear jC hcb Hf
    obtain⟨pv,hpv⟩:∃ pv,p ⟨⟨n1,b1,s1,d1,g1⟩,A1,l1,c1⟩ ⟨⟨n2,b2,s2,d2,g2⟩,A2,l2,c2⟩=pv:=⟨_,rfl⟩
    rw[hpv]at Sy Hy Hz
    clear hpv
    go_wp2_with fail
    refine (Sy.out _ (GN.out.trans (HA2.out.mono GN.out.size))).mono ?_
    rintro e w1 ⟨rfl,hb1⟩
    have Hb1:=Lib.hid (GN.out.trans (CK HA2.out hb1 |>.mono GN.out.size))
    clear hb1
    cases pv with
    | true=>
     have Hi:=Lib.hid (Hz.out rfl)
     go_wp2_with fail
     go_roundw
     case rel=>exact⟨k+1,by omega,by go_num,Hi.out,Hb1.out⟩
     case measure=>simp[intOf];omega
    | false=>
     have Hi:=Lib.hid (Hy.out rfl)
     go_wp2_with fail
     go_ret
     exact⟨DN Hi.out.symm,Hb1.out⟩
   ·have Hi:=Lib.hid (AAU (p:=p) (by rw[Hn.out,Hm.out]) (show k=xs.length by rw[Hn.out];omega) FY.out)
    go_wp2_with fail
    go_ret
    exact⟨DN Hi.out.symm,GN.out⟩
 ·have Hi:=Lib.hid (ADV (p:=p) (a:=xs) (b:=ys) (by rw[Hn.out,Hm.out];exact hnm))
  have hne:decide ((n:Int)=(m:Int))=false:=decide_eq_false (by omega)
  have hni:¬ (n:Int)=(m:Int):=by omega
  clear hnm
  go_enter Tryz.func49,Tryz.ntmps49
  go_wp2_with fail
  go_ret
  exact⟨DN Hi.out.symm,Below.refl _ _⟩
end Go.Proofs.YtabdianhoabhhaaGreatDoor.Merge
namespace Go.Proofs.YtabdianhoabhhaaGreatDoor.Merge
open Go Go.RowKit Go.Proofs.YtabdianhoabhhaaGreatDoor Go.Proofs.YtabdianhoabhhaaGreatDoor.Name
set_option linter.unusedVariables false
def uV (a b:List Fx):Bool:=bu (fun x y=>Qw x.1 y.1) a b
theorem dY (a b:List Fx):uV a b=true↔a.map Prod.fst=b.map Prod.fst:=XU (fun x y=>Vq x.1 y.1) a b
theorem CO.le {w:World} {v:Value} {l:List Fx} (h:CO w v l):l.length≤maxLen:=by obtain⟨A,c,_,h1,h2,_⟩:=h;omega
theorem AKB:∀ args w',(callFunc 20 args).run Tryz.prog w'=.ok (.enter 20 args) w':=enters_of Tryz.func20 (by kernel_rfl) rfl
set_option maxHeartbeats 400000 in
theorem VF (v1 v2:Value) (a b:List Fx) (w:World) (h1:CO w v1 a) (h2:CO w v2 b) :
  Calls Tryz.prog 15 #[v1,v2] w fun e w'=>e=.returned (.bool (uV a b))∧Below w.heap.size w w':=by
 obtain⟨A,ca,rfl,a1,a2,a3,a4,a5⟩:=h1
 obtain⟨B,cb,rfl,b1,b2,b3,b4,b5⟩:=h2
 have HC:=Lib.hid (RL A B a.length b.length ca cb a b 20 #[] (fun x y=>Qw x.1 y.1) w rfl rfl (by omega) (by omega) a3 b3 AKB (fun x hx y hy w' hb=>XV x y w' ((a5 x hx).below hb) ((b5 y hy).below hb)))
 obtain⟨n,hn⟩:∃ n,n=a.length:=⟨_,rfl⟩
 obtain⟨m,hm⟩:∃ m,m=b.length:=⟨_,rfl⟩
 rw[←hn,←hm]at HC⊢
 clear a1 a2 a3 a4 a5 b1 b2 b3 b4 b5 hn hm
 go_enter Tryz.func15,Tryz.ntmps15
 go_wp2_with fail
 refine (HC.out).mono ?_
 rintro e w1 ⟨rfl,hb⟩
 have Hb:=Lib.hid hb
 clear hb HC
 go_wp2_with fail
 go_ret
 exact⟨rfl,Hb.out⟩
end Go.Proofs.YtabdianhoabhhaaGreatDoor.Merge
namespace Go.Proofs.YtabdianhoabhhaaGreatDoor.Merge
open Go Go.RowKit Go.Proofs.YtabdianhoabhhaaGreatDoor Go.Proofs.YtabdianhoabhhaaGreatDoor.Name
set_option linter.unusedVariables false
def Fs (w:World) (v:Value) (l:List Fl):Prop:=∃ lx,CO w v lx∧lx.map Prod.fst=l
theorem Fs.below {w w':World} {v:Value} {l:List Fl} (h:Fs w v l) (hb:Below w.heap.size w w'):Fs w' v l:=by
 obtain⟨x,h1,h2⟩:=h
 exact⟨x,h1.below hb,h2⟩
theorem CO.fs {w:World} {v:Value} {l:List Fx} (h:CO w v l):Fs w v (l.map Prod.fst):=⟨l,h,rfl⟩
theorem FX.fs {w:World} {base:Nat} {v:Value} {l:List Fx} (h:FX w base v l):Fs w v (l.map Prod.fst):=h.files.fs
theorem Fs.slice {w:World} {v:Value} {l:List Fl} (h:Fs w v l):∃ A c,v=.slice A l.length c:=by
 obtain⟨x,⟨A,c,rfl,_⟩,rfl⟩:=h
 exact⟨A,c,by rw[List.length_map]⟩
theorem Fs.nil (w:World):Fs w (.slice none 0 0) []:=⟨[],(FX.nil w 0).files,rfl⟩
def ADW (er:Int) (l:List Fl) (w:World) (e:Ending) (w':World):Prop:=
 ∃ v,e=.returned (.tuple #[v,.int .i64 er])∧Fs w' v l∧Below w.heap.size w w'
theorem AAV (v1 v2:Value) (a b:List Fl) (w:World) (hm:ML w) (h1:Fs w v1 a) (h2:Fs w v2 b) :
  Calls Tryz.prog 55 #[v1,v2] w (ADW (Bt a b).1 (Bt a b).2 w):=by
 obtain⟨x,k1,rfl⟩:=h1
 obtain⟨y,k2,rfl⟩:=h2
 refine (O0 v1 v2 x y w hm k1 k2).mono ?_
 rintro e w' ⟨v,l',he,ho,hl,hb⟩
 exact⟨v,he,by rw[←hl];exact ho.fs,hb⟩
def BB (a b:List Fl):Bool:=bu Qw a b
theorem Vp (a b:List Fl):BB a b=true↔a=b:=by
 have:=XU (p:=Qw) (f:=id) Vq a b
 rwa [List.map_id,List.map_id]at this
theorem Sz (a:List Fl):BB a a=true:=(Vp a a).2 rfl
theorem jO (v1 v2:Value) (a b:List Fl) (w:World) (h1:Fs w v1 a) (h2:Fs w v2 b) :
  Calls Tryz.prog 15 #[v1,v2] w fun e w'=>e=.returned (.bool (BB a b))∧Below w.heap.size w w':=by
 obtain⟨x,k1,rfl⟩:=h1
 obtain⟨y,k2,rfl⟩:=h2
 refine (VF v1 v2 x y w k1 k2).mono ?_
 rintro e w' ⟨he,hb⟩
 refine⟨?_,hb⟩
 rw[he]
 apply DN
 rw[Bool.eq_iff_iff,dY,Vp]
theorem ZA (w:World) (f:Fl) (h:f.bytes=[]) (hn:f.name.length≤maxLen) (hs:l8 f.stamp) (hd:l8 f.node):D9 w (f,none,0,0):=
 ⟨by simp[h],by simp[h],Nat.zero_le _,by rw[h];exact AQ.nil,hn,hs,hd⟩
theorem mU {w:World} {g:Nat} {l:List Fx} {n:Nat} (h:AV w g 36 (l.flatMap fC).toArray) (hn:l.length=n) (hx:n≤1000) (hd:∀ x∈l,D9 w x):CO w (.slice (some ⟨g,0,none⟩) n n) l:=by
 subst hn
 exact⟨_,_,rfl,Nat.le_refl _,by unfold maxLen;omega,ZB h,by simp,hd⟩
end Go.Proofs.YtabdianhoabhhaaGreatDoor.Merge
namespace Go.Proofs.YtabdianhoabhhaaGreatDoor.Zip
open Go Go.RowKit Go.Proofs.YtabdianhoabhhaaGreatDoor Go.Proofs.YtabdianhoabhhaaGreatDoor.Bits Go.Proofs.YtabdianhoabhhaaGreatDoor.Merge Go.Proofs.YtabdianhoabhhaaGreatDoor.Name
set_option linter.unusedVariables false
set_option linter.unusedSimpArgs false
theorem lF:∀ (l:List Ex) (n:Nat) (y:Ex),y∈ME l n→∃ x∈l,∃ m,y=setAt x m
 | [],n,y,h=>by cases h
 | x :: l,n,y,h=>by
  unfold ME at h
  rcases List.mem_cons.1 h with h | h
  ·exact⟨x,List.mem_cons_self ..,n,h⟩
  ·obtain⟨z,hz,m,hm⟩:=lF l _ y h
   exact⟨z,List.mem_cons_of_mem _ hz,m,hm⟩
theorem YR (A:Option Addr) (n c:Nat) (b:List UInt8) (w:World) (hn:b.length=n) (hnc:n≤c) (hcm:c≤maxLen) (h12:n≤12000) (hA:BI w A b) :
  Calls Tryz.prog 47 #[.slice A n c] w fun e w'=>(∃ (ys:List Ex) (vl:Value),e=.returned (.tuple #[vl,.bool (Kh b).1])∧ys.map Ex.e=(Kh b).2∧w'.ownsRow w.heap.size 78 9 vl ys.length (ys.flatMap eC)∧(∀ y∈ys,BN w' w.heap.size (Cm y.bs) y.e.f.bytes))∧Below w.heap.size w w':=by
 refine (bH A n c b w hn hnc hcm h12 hA).mono ?_
 rintro e w' ⟨h,hb⟩
 refine⟨?_,hb⟩
 unfold Kh
 cases hr:Dt b 14 0 [] with
 | none=>rw[hr]at h;exact⟨[],_,h,rfl,World.ownsRow_nil _ _ _ _,by simp⟩
 | some l=>
  rw[hr]at h
  obtain⟨xs,vl,h1,h2,h3,h4⟩:=h
  refine⟨ME xs 0,vl,h1,(AIM xs 0).trans h2,by rw[LZ];exact h3,fun y hy=>?_⟩
  obtain⟨x,hx,m,rfl⟩:=lF xs 0 y hy
  exact (h4 x hx).own
def zT (x:Ex):Fx:=(x.e.f,x.bs)
theorem zU (x:Int) (h:0≤x) (h2:x≤9223372036854775807):l8 x:=by
 simp only[l8,Lit.wf,IntKind.min,IntKind.max,IntKind.signed,IntKind.bits]
 simp
 omega
theorem AFJ {w:World} {B:Nat} {y:Ex} (hg:Good y.e) (ho:BN w B (Cm y.bs) y.e.f.bytes):D9 w (zT y):=by
 obtain⟨A,c,e,h1,h2,h3,_⟩:=ho.slice
 unfold Cm at e
 injection e with e1 e2 e3
 refine⟨e2,?_,?_,?_,?_,?_,?_⟩
 ·show _≤y.bs.2.2;rw[e3];exact h1
 ·show y.bs.2.2≤_;rw[e3];exact h2
 ·show BI w y.bs.1 _;rw[e1];exact h3
 ·have:=hg.name;show y.e.f.name.length≤maxLen;unfold maxLen;omega
 ·have:=hg.stamp;exact zU y.e.f.stamp (by omega) (by omega)
 ·have:=hg.node;exact zU y.e.f.node (by omega) (by omega)
theorem AL1 (ys:List Ex):(ys.map zT).map Prod.fst=(ys.map Ex.e).map Dp.f:=by rw[List.map_map,List.map_map];rfl
def qd (R:Inf.Rd (List Fl)) (w:World) (e:Ending) (w':World):Prop:=
  (match R with
   | .bad z=>e=.returned (.tuple #[.slice none 0 0,.int .i64 z])
   | .ok l=>∃ v,e=.returned (.tuple #[v,.int .i64 0])∧Fs w' v l)∧Below w.heap.size w w'
def PU (b:List UInt8) (w:World) (e:Ending) (w':World):Prop:=qd (Dl b) w e w'
theorem AB6 (a b:Nat):((a:Int) == (b:Int))=(a == b):=by rw[Bool.eq_iff_iff,beq_iff_eq,beq_iff_eq];omega
set_option maxRecDepth 100000 in
set_option maxHeartbeats 4000000 in
theorem NB (A:Option Addr) (n c:Nat) (b:List UInt8) (w:World) (hm:ML w) (hn:b.length=n) (hnc:n≤c) (hcm:c≤maxLen) (hA:BI w A b) :
  Calls Tryz.prog 14 #[.slice A n c] w (PU b w):=by
 by_cases h12:12000 < n
 ·have AFK:(12000:Int) < (n:Int):=by omega
  have HR:=Lib.hid (Ws (show 12000 < b.length by rw[hn];exact h12))
  clear hn hA
  go_enter Tryz.func14,Tryz.ntmps14
  go_wp2_with fail
  go_ret2
  unfold PU qd
  rw[HR.out]
  exact⟨rfl,Below.refl _ _⟩
 have AFK:¬ (12000:Int) < (n:Int):=by omega
 have HE:=Lib.hid (YR A n c b w hn hnc hcm (by omega) hA)
 have HR:=Lib.hid (lG (show ¬ 12000 < b.length by rw[hn];exact h12))
 have hok:=zV b
 have HK:Hid (∀ e∈(Kh b).2,Good e∧e.f.bytes.length≤12000):=Lib.hid (fun e he=>⟨hok.good e he,hok.bytes (by rw[hn];omega) e he⟩)
 have hcount:=hok.count
 have Hm:=Lib.hid hm
 clear hn hA hok hm
 obtain⟨ok,hok⟩:∃ ok,ok=(Kh b).1:=⟨_,rfl⟩
 obtain⟨L,hL⟩:∃ L,L=(Kh b).2:=⟨_,rfl⟩
 obtain⟨R,hRe⟩:∃ R,R=Dl b:=⟨_,rfl⟩
 unfold PU
 rw[←hRe]
 rw[←hok,←hL]at HE
 rw[←hok,←hL,←hRe]at HR
 rw[←hL]at HK hcount
 clear hok hL hRe
 obtain⟨B,hB⟩:∃ B,B=w.heap.size:=⟨_,rfl⟩
 rw[←hB]at HE
 have HB:=Lib.hid hB
 clear hB
 go_enter Tryz.func14,Tryz.ntmps14
 go_wp2_with fail
 refine (HE.out).mono ?_
 rintro e w1 ⟨⟨ys,vl,rfl,hys,hol,hby⟩,hb1⟩
 have Hys:=Lib.hid hys
 have HOl:=Lib.hid hol
 have HBy:=Lib.hid hby
 have Hb1:=Lib.hid hb1
 obtain⟨m,hm⟩:∃ m,m=ys.length:=⟨_,rfl⟩
 have sK:m≤13:=by
  have:=congrArg List.length hys
  rw[List.length_map]at this
  omega
 rw[←hm]at HOl
 have Hml:=Lib.hid hm
 obtain⟨Al,cl,rfl,hl1,hl2,_,_⟩:=Ad HOl.out
 clear hys hol hby hb1 hm HE hcount
 go_wp2_with fail
 go_loopw [6,7,22] (fun vo vr vi wr=>∃ k,k≤m∧vi=.int .i64 (k:Int)∧vr=.bool (RI ((ys.take k).map Ex.e))∧wr.ownsRow B 36 5 vo k (((ys.take k).map zT).flatMap fC)∧wr.ownsRow B 78 9 (.slice Al m cl) m (ys.flatMap eC)∧(∀ y∈ys,BN wr B (Cm y.bs) y.e.f.bytes)∧Below B w wr) (fun _ _ vi _=>m - (intOf vi).toNat)
 case atStart=>exact⟨0,Nat.zero_le _,rfl,rfl,World.ownsRow_nil _ _ _ _,HOl.out,HBy.out,Hb1.out⟩
 case round=>
  obtain⟨k,hk,rfl,rfl,ho,he,hby,hb⟩:=hrel
  obtain⟨sv,hsv⟩:∃ sv,sv=RI ((ys.take k).map Ex.e):=⟨_,rfl⟩
  rw[←hsv]
  have HSv:=Lib.hid hsv.symm
  clear hsv
  have HO:=Lib.hid ho
  have HE:=Lib.hid he
  have HX:=Lib.hid hby
  have Hb:=Lib.hid hb
  clear ho he hby hb HOl HBy Hb1
  by_cases hlt:k < m
  ·have hlt':(k:Int) < (m:Int):=by omega
   have hk0:(0:Int)≤(k:Int):=by omega
   have hkl:k < ys.length:=by rw[←Hml.out];exact hlt
   obtain⟨g,cap,hv,_,_⟩:=HE.out.form (by omega)
   injection hv with hv1 _ hv2
   subst hv1 hv2
   obtain⟨x,hx⟩:∃ x,x=ys[k]:=⟨_,rfl⟩
   have hxm:x∈ys:=by rw[hx];exact List.getElem_mem hkl
   have hsg:ys[k]?=some x:=by rw[hx];exact List.getElem?_eq_getElem hkl
   obtain⟨_,_,e1,_,_,hsl,_⟩:=Ad HE.out
   injection e1 with e1 _ e2
   subst e1 e2
   obtain⟨c0,c1,c2,c3,c4,c5,c6,c7,c8⟩:=Qf hsl hsg
   have dA:Hid (ys.take (k+1)=ys.take k++[x]):=Lib.hid (by rw[List.take_succ_eq_append_getElem hkl,←hx])
   have HXx:=Lib.hid (HX.out x hxm)
   have hxL:x.e∈L:=by rw[←Hys.out];exact List.mem_map_of_mem hxm
   have mq:=Lib.hid (HK.out x.e hxL).2
   unfold Cm at c1 c6
   clear hx hsg hsl hxm hxL
   have Xi:B≤wr.heap.size:=by rw[HB.out];exact Hb.out.size
   go_upto_region 9 with fail
   have hB2:=AV.new wr 78 #[.string (Name.AR x.e.f.name),.slice x.bs.1 x.bs.2.1 x.bs.2.2,.int .i64 x.e.f.stamp,.int .i64 x.e.f.node,.bool x.e.f.gone,.int .i64 (x.e.method:Int),.slice x.pk.1 x.pk.2.1 x.pk.2.2,.int .u32 (x.e.crc:Int),.int .i64 (x.at_:Int)]
   have hbel:Below wr.heap.size wr (wr.alloc (.cells #[.string (Name.AR x.e.f.name),.slice x.bs.1 x.bs.2.1 x.bs.2.2,.int .i64 x.e.f.stamp,.int .i64 x.e.f.node,.bool x.e.f.gone,.int .i64 (x.e.method:Int),.slice x.pk.1 x.pk.2.1 x.pk.2.2,.int .u32 (x.e.crc:Int),.int .i64 (x.at_:Int)] 78)):=(Below.refl _ _).alloc (Nat.le_refl _) _
   generalize wr.alloc (.cells #[.string (Name.AR x.e.f.name),.slice x.bs.1 x.bs.2.1 x.bs.2.2,.int .i64 x.e.f.stamp,.int .i64 x.e.f.node,.bool x.e.f.gone,.int .i64 (x.e.method:Int),.slice x.pk.1 x.pk.2.1 x.pk.2.2,.int .u32 (x.e.crc:Int),.int .i64 (x.at_:Int)] 78)=w2 at *
   have HB2:=Lib.hid hB2
   have Cz:=Lib.hid (AP HO.out hbel)
   have HE2:=Lib.hid (AP HE.out hbel)
   have HX2:Hid (∀ y∈ys,BN w2 B (Cm y.bs) y.e.f.bytes):=Lib.hid (fun y hy=>AP (HX.out y hy) hbel)
   have AI5:=Lib.hid (AP HXx.out hbel)
   have Hb2:=Lib.hid (Hb.out.trans (hbel.mono Xi))
   have hs2:B≤w2.heap.size:=Nat.le_trans Xi hbel.size
   have d0:w2.cell? ⟨wr.heap.size,0,none⟩=some (.string (Name.AR x.e.f.name)):=hB2.cell 0
   have d1:w2.cell? ⟨wr.heap.size,1,none⟩=some (.slice x.bs.1 x.bs.2.1 x.bs.2.2):=hB2.cell 1
   have d2:w2.cell? ⟨wr.heap.size,2,none⟩=some (.int .i64 x.e.f.stamp):=hB2.cell 2
   have d3:w2.cell? ⟨wr.heap.size,3,none⟩=some (.int .i64 x.e.f.node):=hB2.cell 3
   have d4:w2.cell? ⟨wr.heap.size,4,none⟩=some (.bool x.e.f.gone):=hB2.cell 4
   have hgs:wr.heap.size < w2.heap.size:=hB2.lt
   clear hB2 HO HE HX Hb HXx c0 c1 c2 c3 c4 c5 c6 c7 c8 Xi
   generalize wr.heap.size=ge at *
   have Ki:Below w2.heap.size w2 (w2.alloc (.cells #[.string (Name.AR x.e.f.name),.slice x.bs.1 x.bs.2.1 x.bs.2.2,.int .i64 x.e.f.stamp,.int .i64 x.e.f.node,.bool x.e.f.gone] 36)):=(Below.refl _ _).alloc (Nat.le_refl _) _
   have HZ:Hid (AQ (w2.alloc (.cells #[.string (Name.AR x.e.f.name),.slice x.bs.1 x.bs.2.1 x.bs.2.2,.int .i64 x.e.f.stamp,.int .i64 x.e.f.node,.bool x.e.f.gone] 36)) (some ⟨w2.heap.size,0,none⟩) (fC (zT x))):=Lib.hid (AQ.of_heap (heap_alloc_new _ _) rfl)
   have Xh:=Lib.hid (AP Cz.out Ki)
   have zK:=Lib.hid (AP HE2.out Ki)
   have eD:Hid (∀ y∈ys,BN (w2.alloc (.cells #[.string (Name.AR x.e.f.name),.slice x.bs.1 x.bs.2.1 x.bs.2.2,.int .i64 x.e.f.stamp,.int .i64 x.e.f.node,.bool x.e.f.gone] 36)) B (Cm y.bs) y.e.f.bytes):=Lib.hid (fun y hy=>AP (HX2.out y hy) Ki)
   have AI6:=Lib.hid (AP AI5.out Ki)
   have HB3:=Lib.hid (HB2.out.below Ki hgs)
   have Hb3:=Lib.hid (Hb2.out.trans (Ki.mono hs2))
   have hs3:B≤(w2.alloc (.cells #[.string (Name.AR x.e.f.name),.slice x.bs.1 x.bs.2.1 x.bs.2.2,.int .i64 x.e.f.stamp,.int .i64 x.e.f.node,.bool x.e.f.gone] 36)).heap.size:=Nat.le_trans hs2 Ki.size
   clear hbel Ki Cz HE2 HX2 AI5 HB2 Hb2
   go_wp2_with (at_builtin;refine AY _ rfl (.tmp 26) (.tmp 29) _ rfl B 36 _ 5 64 dS.ty _ k (((ys.take k).map zT).flatMap fC) rfl Xh.out (some ⟨w2.heap.size,0,none⟩) 1 1 (fC (zT x)) rfl rfl HZ.out (fun u hu=>XN [zT x] u (by simpa using hu)) (by simp) (by unfold maxLen;omega) (by omega) hs3 ?_;intro v4 w4 DJ hg4 _;have qZ:=Lib.hid ((AJ.refl B [36] _).grown Xh.out hg4 (by simp) hs3);have KQ:=Lib.hid DJ;have F4:=Lib.hid (qZ.out.blk HB3.out (by decide));have d14:w4.cell? ⟨ge,1,none⟩=some (.slice x.bs.1 x.bs.2.1 x.bs.2.2):=F4.out.cell 1;clear DJ hg4)
   have Ps:=Lib.hid (qZ.out.own zK.out (by decide))
   have jZ:Hid (∀ y∈ys,BN w4 B (Cm y.bs) y.e.f.bytes):=Lib.hid (fun y hy=>qZ.out.own (eD.out y hy) (by decide))
   have AI7:BN w4 B (Cm x.bs) x.e.f.bytes:=qZ.out.own AI6.out (by decide)
   have Hb4:=Lib.hid (Hb3.out.trans qZ.out.below)
   have hs4:B≤w4.heap.size:=Nat.le_trans hs3 qZ.out.size
   obtain⟨Ax,cx,hxe,q1,q2,q3,_⟩:=AI7.slice
   unfold Cm at hxe
   injection hxe with hx1 hx2 hx3
   have HC:=Lib.hid (Sum.YE 0#32 0 rfl x.bs.1 x.bs.2.1 x.bs.2.2 x.e.f.bytes w4 hx2.symm (by rw[hx2];exact mq.out) (by rw[hx1];exact q3))
   clear AI7 hx1 hx2 hx3 q1 q2 q3 Xh zK eD AI6 HB3 Hb3 HZ qZ hs3
   refine (HC.out).mono ?_
   rintro e w5 ⟨rfl,hb5⟩
   have YY:=Lib.hid (AP KQ.out hb5)
   have HE5:=Lib.hid (AP Ps.out hb5)
   have nE:Hid (∀ y∈ys,BN w5 B (Cm y.bs) y.e.f.bytes):=Lib.hid (fun y hy=>AP (jZ.out y hy) hb5)
   have hB5:=F4.out.below hb5 F4.out.lt
   have Hb5:=Lib.hid (Hb4.out.trans (hb5.mono hs4))
   have d7:w5.cell? ⟨ge,7,none⟩=some (.int .u32 (x.e.crc:Int)):=hB5.cell 7
   obtain⟨ci,hcv⟩:∃ ci:Int,ci=n32 (Sum.crc 0#32 x.e.f.bytes):=⟨_,rfl⟩
   rw[←hcv]
   have Hcv:=Lib.hid (show ci=((GR x.e.f.bytes:Nat):Int) from hcv)
   have HSn:Hid (RI ((ys.take (k+1)).map Ex.e)=(sv && (ci == (x.e.crc:Int)))):=Lib.hid (by
    rw[dA.out,List.map_append,List.map_cons,List.map_nil,iL,HSv.out,hcv]
    congr 1
    exact (AB6 _ _).symm)
   have OD:Hid (w5.ownsRow B 36 5 v4 (k+1) (((ys.take (k+1)).map zT).flatMap fC)):=Lib.hid (by
    have:=YY.out
    rw[dA.out]
    simpa only[List.map_append,List.map_cons,List.map_nil,List.flatMap_append,List.flatMap_cons,List.flatMap_nil,List.append_nil] using this)
   clear hcv hb5 hB5 HC KQ Ps jZ F4 Hb4 d0 d1 d2 d3 d4 d14 YY
   cases sv with
   | false=>
    go_wp2_with fail
    go_roundw
    case rel=>exact⟨k+1,by omega,by go_num,by rw[HSn.out];rfl,OD.out,HE5.out,nE.out,Hb5.out⟩
    case measure=>simp[intOf];omega
   | true=>
    go_wp2_with fail
    go_roundw
    case rel=>exact⟨k+1,by omega,by go_num,by rw[HSn.out];rfl,OD.out,HE5.out,nE.out,Hb5.out⟩
    case measure=>simp[intOf];omega
  ·have hlt':¬ (k:Int) < (m:Int):=by omega
   obtain rfl:k=m:=by omega
   have htk:ys.take k=ys:=by rw[Hml.out];exact List.take_length
   rw[htk]at HO HSv
   rw[Hys.out]at HSv
   have hfs:(ys.map zT).map Prod.fst=L.map Dp.f:=by rw[AL1,Hys.out]
   have HF:Hid (CO wr _ (ys.map zT)):=Lib.hid (QA HO.out (by rw[List.length_map];exact Hml.out.symm) (fun f hf=>by
    obtain⟨y,hy,rfl⟩:=List.mem_map.1 hf
    exact AFJ (HK.out y.e (by rw[←Hys.out];exact List.mem_map_of_mem hy)).1 (HX.out y hy)))
   have hFs:=HF.out.fs
   rw[hfs]at hFs
   have kD:=Lib.hid hFs
   have HC:=Lib.hid (F7 _ (ys.map zT) wr (Hm.out.below (by rw[←HB.out];exact Hb.out)) HF.out)
   rw[hfs]at HC
   clear hfs htk hFs HO HE HX
   obtain⟨z,hz⟩:∃ z,z=Bb (L.map Dp.f):=⟨_,rfl⟩
   rw[←hz]at HC HR
   rw[HSv.out]at HR
   clear hz
   cases ok with
   | false=>
    replace HR:=Lib.hid (show R=.bad 7 from HR.out.trans (if_pos rfl))
    go_wp2_with fail
    go_ret2
    unfold qd
    rw[HR.out]
    exact⟨rfl,by rw[←HB.out];exact Hb.out⟩
   | true=>
    replace HR:=Lib.hid (HR.out.trans (if_neg (by simp)))
    go_wp2_with fail
    refine (HC.out).mono ?_
    rintro e w2 ⟨rfl,hb2⟩
    have Hb2:=Lib.hid (Hb.out.trans (hb2.mono (by rw[HB.out];exact Hb.out.size)))
    have AL2:=Lib.hid (kD.out.below hb2)
    clear hb2 HC HF kD Hb
    by_cases hz:z=0
    ·replace HR:=Lib.hid (HR.out.trans (if_neg (fun h=>h hz)))
     subst hz
     cases sv with
     | false=>
      replace HR:=Lib.hid (show R=.bad 10 from HR.out.trans (if_neg (by simp)))
      go_wp2_with fail
      go_ret2
      unfold qd
      rw[HR.out]
      exact⟨rfl,by rw[←HB.out];exact Hb2.out⟩
     | true=>
      replace HR:=Lib.hid (show R=.ok (L.map Dp.f) from HR.out.trans (if_pos rfl))
      go_wp2_with fail
      go_ret2
      unfold qd
      rw[HR.out]
      exact⟨⟨_,rfl,AL2.out⟩,by rw[←HB.out];exact Hb2.out⟩
    ·replace HR:=Lib.hid (show R=.bad 7 from HR.out.trans (if_pos hz))
     have hz1:(z != 0)=true:=by simpa using hz
     go_wp2_with fail
     go_ret2
     unfold qd
     rw[HR.out]
     exact⟨rfl,by rw[←HB.out];exact Hb2.out⟩
end Go.Proofs.YtabdianhoabhhaaGreatDoor.Zip
namespace Go.Proofs.YtabdianhoabhhaaGreatDoor.Zip
open Go Go.RowKit Go.Proofs.YtabdianhoabhhaaGreatDoor Go.Proofs.YtabdianhoabhhaaGreatDoor.Bits Go.Proofs.YtabdianhoabhhaaGreatDoor.Merge Go.Proofs.YtabdianhoabhhaaGreatDoor.Name
set_option linter.unusedVariables false
set_option linter.unusedSimpArgs false
theorem kE {b:List UInt8} {z:Int} (h:Dl b=.bad z):z=2∨z=7∨z=10:=by
 by_cases hl:12000 < b.length
 ·rw[Ws hl]at h;injection h with h;exact .inl h.symm
 ·rw[lG hl]at h
  split at h
  ·injection h with h;exact .inr (.inl h.symm)
  ·split at h
   ·injection h with h;exact .inr (.inl h.symm)
   ·split at h
    ·cases h
    ·injection h with h;exact .inr (.inr h.symm)
end Go.Proofs.YtabdianhoabhhaaGreatDoor.Zip
namespace Go.Proofs.YtabdianhoabhhaaGreatDoor
open Go Go.RowKit
set_option linter.unusedVariables false
theorem AGM {x y:UInt8} (h:n8 x=n8 y):x=y:=by
 unfold n8 at h
 exact UInt8.toNat_inj.1 (by omega)
set_option maxHeartbeats 400000 in
theorem mf (A B:Option Addr) (n m ca cb:Nat) (xs ys:List UInt8) (w:World) (hn:xs.length=n) (hm:ys.length=m) (hx:n≤maxLen) (hy:m≤maxLen) (ha:BI w A xs) (hb:BI w B ys) :
  Calls Tryz.prog 82 #[.slice A n ca,.slice B m cb] w fun e w'=>e=.returned (.bool (decide (xs=ys)))∧∃ d,w'=w.drewN d:=by
 unfold maxLen at hx hy
 by_cases hnm:n=m
 ·subst hnm
  have hq:((n:Int) != (n:Int))=false:=by simp
  have Hn:=Lib.hid hn
  have Hm:=Lib.hid hm
  have Ha:=Lib.hid ha
  have Hb:=Lib.hid hb
  clear hn hm ha hb
  go_enter Tryz.func82,Tryz.ntmps82
  go_wp2_with fail
  go_loopw [13] (fun i wr=>∃ k:Nat,k≤n∧i=.int .i64 k∧xs.take k=ys.take k∧∃ d,wr=w.drewN d) (fun i _=>n - (intOf i).toNat)
  case atStart=>exact⟨0,Nat.zero_le _,rfl,rfl,0,rfl⟩
  case round=>
   obtain⟨k,hk,rfl,htk,d,rfl⟩:=hrel
   have Ht:=Lib.hid htk
   clear htk
   by_cases hlt:k < n
   ·have h1:k < xs.length:=by rw[Hn.out];exact hlt
    have h2:k < ys.length:=by rw[Hm.out];exact hlt
    obtain⟨b1,o1,rfl,hc1⟩:=Ha.out.get h1
    obtain⟨b2,o2,rfl,hc2⟩:=Hb.out.get h2
    have hI:(k:Int) < (n:Int):=by omega
    by_cases he:xs[k]=ys[k]
    ·have Hs:=Lib.hid (XZ xs ys k h1 h2 Ht.out he)
     have hne:(n8 xs[k] != n8 ys[k])=false:=by simp[he]
     have hne':(n8 xs[k] == n8 ys[k])=true:=by simp[he]
     clear he
     generalize n8 xs[k]=x at *
     generalize n8 ys[k]=y at *
     go_wp2_with fail
     go_quiet (fail)
     go_wp2_with fail
     go_roundw
     case rel=>exact⟨k+1,by omega,by go_num,Hs.out,_,rfl⟩
     case measure=>simp[intOf];omega
    ·have hnn:n8 xs[k]≠n8 ys[k]:=fun h=>he (AGM h)
     have hne:(n8 xs[k] != n8 ys[k])=true:=by simpa using hnn
     have hne':(n8 xs[k] == n8 ys[k])=false:=by simpa using hnn
     clear hnn
     have Hf:Hid (decide (xs=ys)=false):=Lib.hid (by simpa using mg xs ys k h1 h2 he)
     clear he
     generalize n8 xs[k]=x at *
     generalize n8 ys[k]=y at *
     go_wp2_with fail
     go_quiet (fail)
     go_wp2_with fail
     go_ret
     exact⟨DN Hf.out.symm,_,World.drewN_drewN _ _ _⟩
   ·have Hf:Hid (decide (xs=ys)=true):=Lib.hid (by
     have e1:xs.take k=xs:=List.take_of_length_le (by rw[Hn.out];omega)
     have e2:ys.take k=ys:=List.take_of_length_le (by rw[Hm.out];omega)
     have:=Ht.out;rw[e1,e2]at this;simpa using this)
    go_wp2_with fail
    go_ret
    exact⟨DN Hf.out.symm,_,rfl⟩
 ·have hq:((n:Int) != (m:Int))=true:=by simp;omega
  have Hf:Hid (decide (xs=ys)=false):=Lib.hid (by simp;intro h;subst h;omega)
  go_enter Tryz.func82,Tryz.ntmps82
  go_wp2_with fail
  go_ret
  exact⟨DN Hf.out.symm,0,rfl⟩
end Go.Proofs.YtabdianhoabhhaaGreatDoor
namespace Go.Proofs.YtabdianhoabhhaaGreatDoor.KJ
open Go Go.RowKit Go.Proofs.YtabdianhoabhhaaGreatDoor Go.Proofs.YtabdianhoabhhaaGreatDoor.Bits Go.Proofs.YtabdianhoabhhaaGreatDoor.Merge Go.Proofs.YtabdianhoabhhaaGreatDoor.Name Go.Proofs.YtabdianhoabhhaaGreatDoor.Zip
open Go.Proofs.YtabdianhoabhhaaGreatDoor.Inf (FI)
set_option linter.unusedVariables false
set_option linter.unusedSimpArgs false
set_option linter.constructorNameAsVariable false
def VD (w:World) (base:Nat) (v:Value) (l:List Fl):Prop:=∃ lx,FX w base v lx∧lx.map Prod.fst=l
theorem VD.fs {w:World} {base:Nat} {v:Value} {l:List Fl} (h:VD w base v l):Fs w v l:=by
 obtain⟨lx,h1,rfl⟩:=h
 exact h1.files.fs
theorem VD.below {w w':World} {base:Nat} {v:Value} {l:List Fl} (h:VD w base v l) (hb:Below w.heap.size w w'):VD w' base v l:=by
 obtain⟨lx,h1,h2⟩:=h
 exact⟨lx,h1.below hb,h2⟩
theorem VD.Qr {w:World} {base base':Nat} {v:Value} {l:List Fl} (h:VD w base v l) (hb:base'≤base):VD w base' v l:=by
 obtain⟨lx,h1,h2⟩:=h
 exact⟨lx,h1.Qr hb,h2⟩
theorem VD.nil (w:World) (base:Nat):VD w base (.slice none 0 0) []:=⟨[],FX.nil w base,rfl⟩
theorem VD.keeps {w w':World} {B0 base:Nat} {T:List TypeId} {v:Value} {l:List Fl} (h:VD w base v l) (hk:AJ B0 T w w') (h1:36∉T) (h2:5∉T):VD w' base v l:=by
 obtain⟨lx,⟨g1,g2⟩,h3⟩:=h
 exact⟨lx,⟨hk.own g1 h1,fun x hx=>⟨hk.own (g2 x hx).own h2,(g2 x hx).name,(g2 x hx).stamp,(g2 x hx).node⟩⟩,h3⟩
theorem xn (v1 v2:Value) (a b:List Fl) (w:World) (hm:ML w) (h1:Fs w v1 a) (h2:Fs w v2 b) :
  Calls Tryz.prog 55 #[v1,v2] w fun e w'=>∃ v,e=.returned (.tuple #[v,.int .i64 (Bt a b).1])∧VD w' w.heap.size v (Bt a b).2∧Below w.heap.size w w':=by
 obtain⟨x,k1,rfl⟩:=h1
 obtain⟨y,k2,rfl⟩:=h2
 refine (O0 v1 v2 x y w hm k1 k2).mono ?_
 rintro e w' ⟨v,l',he,ho,hl,hb⟩
 exact⟨v,he,⟨l',ho,hl⟩,hb⟩
theorem aI {r:List UInt8} (h:r.length < 8):FM r=none:=by unfold FM;rw[if_pos h]
theorem pV (b:List UInt8) (f u:Nat) (l:List Fl):IW b (f+1) u l=match FM (b.drop u) with
  | none=>(l,u)
  | some x=>if (Bt l x.1).1=0 then IW b f (u+(8+x.2)) (Bt l x.1).2 else (l,u):=rfl
theorem four {r:List UInt8} (h:4≤r.length):∃ x0 x1 x2 x3 t,r=x0 :: x1 :: x2 :: x3 :: t:=by
 match r,h with
 | x0 :: x1 :: x2 :: x3 :: t,_=>exact⟨x0,x1,x2,x3,t,rfl⟩
theorem byte_at {w:World} {a o k:Nat} {xs:List UInt8} {x:UInt8} (h:BI w (some ⟨a,o,none⟩) xs) (hk:xs[k]?=some x):w.cell? ⟨a,o+k,none⟩=some (.int .u8 (n8 x)):=by
 have hl:k < xs.length:=by
  rcases Nat.lt_or_ge k xs.length with h1 | h1
  ·exact h1
  ·rw[List.getElem?_eq_none h1]at hk;cases hk
 obtain⟨b,o',e,hc⟩:=h.get hl
 injection e with e
 injection e with e1 e2
 subst e1 e2
 rw[List.getElem?_eq_getElem hl]at hk
 injection hk with hk
 rw[hc,hk]
theorem ni (x0 x1 x2 x3:UInt8):bits .or .i64 (bits .or .i64 (bits .or .i64 (n8 x0) (wrap64 (n8 x1*256))) (wrap64 (n8 x2*65536))) (wrap64 (n8 x3*16777216))=((x0.toNat+256*(x1.toNat+256*(x2.toNat+256*x3.toNat)):Nat):Int):=by
 have h0:=x0.toNat_lt
 have h1:=x1.toNat_lt
 have h2:=x2.toNat_lt
 have e1:bits .or .i64 (n8 x0) (wrap64 (n8 x1*256))=((x0.toNat+x1.toNat*256 ^ 1:Nat):Int):=R7 x0.toNat 1 x1 (by omega) (by omega)
 have e2:bits .or .i64 ((x0.toNat+x1.toNat*256 ^ 1:Nat):Int) (wrap64 (n8 x2*65536))=((x0.toNat+x1.toNat*256 ^ 1+x2.toNat*256 ^ 2:Nat):Int):=R7 _ 2 x2 (by omega) (by omega)
 have e3:bits .or .i64 ((x0.toNat+x1.toNat*256 ^ 1+x2.toNat*256 ^ 2:Nat):Int) (wrap64 (n8 x3*16777216))=((x0.toNat+x1.toNat*256 ^ 1+x2.toNat*256 ^ 2+x3.toNat*256 ^ 3:Nat):Int):=R7 _ 3 x3 (by omega) (by omega)
 rw[e1,e2,e3]
 congr 1
 omega
set_option maxRecDepth 100000 in
set_option maxHeartbeats 4000000 in
theorem aA (A:Option Addr) (n c:Nat) (b:List UInt8) (w:World) (hm:ML w) (hn:b.length=n) (hnc:n≤c) (hcm:c≤maxLen) (jy:n≤40000) (hA:BI w A b) :
  Calls Tryz.prog 60 #[.slice A n c] w fun e w'=>(∃ v,e=.returned (.tuple #[v,.int .i64 ((scan b).2:Int)])∧VD w' w.heap.size v (scan b).1)∧Below w.heap.size w w':=by
 have Hm:=Lib.hid hm
 have Hn:=Lib.hid hn
 have HA:=Lib.hid hA
 obtain⟨R,hR⟩:∃ R,R=scan b:=⟨_,rfl⟩
 rw[←hR]
 have HR:=Lib.hid (show R=IW b (n+1) 0 [] by rw[hR,←hn];rfl)
 clear hn hA hm hR
 go_enter Tryz.func60,Tryz.ntmps60
 go_wp2_with fail
 go_loopw [2,3] (fun vl vu wr=>∃ (f u:Nat) (l:List Fl),R=IW b f u l∧u≤n∧n < f+u∧vu=.int .i64 (u:Int)∧VD wr w.heap.size vl l∧Below w.heap.size w wr) (fun _ vu _=>n - (intOf vu).toNat)
 case atStart=>exact⟨n+1,0,[],HR.out,Nat.zero_le _,by omega,rfl,VD.nil w _,Below.refl _ _⟩
 case round=>
  obtain⟨f,u,l,hR,hu,hfu,rfl,hl,hb⟩:=hrel
  obtain⟨f,rfl⟩:∃ f',f=f'+1:=⟨f - 1,by omega⟩
  rw[pV]at hR
  have HR:=Lib.hid hR
  have HL:=Lib.hid hl
  have Hb:=Lib.hid hb
  clear hR hl hb
  have hnu:IntKind.i64.wrap ((n:Int) - (u:Int))=(n:Int) - (u:Int):=IntWalk.i64_in _ (by omega)
  by_cases h8:n - u < 8
  ·have HRe:=Lib.hid (show R=(l,u) by rw[HR.out,aI (by rw[List.length_drop,Hn.out];exact h8)])
   have h8':¬ (8:Int)≤(n:Int) - (u:Int):=by omega
   go_wp2_with fail
   go_ret2
   rw[HRe.out]
   exact⟨⟨_,rfl,HL.out⟩,Hb.out⟩
  ·have h8':(8:Int)≤(n:Int) - (u:Int):=by omega
   have hun:u < b.length:=by rw[Hn.out];omega
   obtain⟨a,o,rfl,_⟩:=HA.out.get (k:=u) hun
   obtain⟨r,hr⟩:∃ r,r=b.drop u:=⟨_,rfl⟩
   rw[←hr]at HR
   obtain⟨m,hm⟩:∃ m,m=n - u:=⟨_,rfl⟩
   have hrl:r.length=m:=by rw[hr,List.length_drop,Hn.out,hm]
   have HD:Hid (BI wr (some ⟨a,o+u,none⟩) r):=Lib.hid (by rw[hr];exact BI.drop (BI.below HA.out Hb.out) u)
   have hm8:8≤m:=by omega
   have hmn:m≤n:=by omega
   have hcu:¬ c=u:=by omega
   have huc:(u:Int)≤(c:Int):=by omega
   have AKr:(u:Int)≤(n:Int):=by omega
   have hu0:(0:Int)≤(u:Int):=by omega
   obtain⟨x0,x1,x2,x3,t,hxs⟩:=four (r:=r) (by omega)
   have k0:wr.cell? ⟨a,o+u,none⟩=some (.int .u8 (n8 x0)):=byte_at HD.out (k:=0) (x:=x0) (by rw[hxs];rfl)
   have k1:=byte_at HD.out (k:=1) (x:=x1) (by rw[hxs];rfl)
   have k2:=byte_at HD.out (k:=2) (x:=x2) (by rw[hxs];rfl)
   have k3:=byte_at HD.out (k:=3) (x:=x3) (by rw[hxs];rfl)
   have KQ:Hid (BM (r.take 4)=x0.toNat+256*(x1.toNat+256*(x2.toNat+256*x3.toNat))):=Lib.hid (by rw[hxs];rfl)
   have Hrl:=Lib.hid hrl
   have Hme:=Lib.hid hm
   have Hr:=Lib.hid hr
   clear hrl hm hr hxs
   go_upto_region 3 with fail
   obtain⟨cm,hcm'⟩:∃ cm,cm=c - u:=⟨_,rfl⟩
   rw[←Hme.out,←hcm']
   have hmc:m≤cm:=by have:=Hme.out;omega
   have hcm2:cm≤maxLen:=by omega
   have hi0:0 < m:=by omega
   have hi1:(1:Int) < (m:Int):=by omega
   have hi2:(2:Int) < (m:Int):=by omega
   have hi3:(3:Int) < (m:Int):=by omega
   clear hcm' hnu h8' hcu huc AKr
   go_quiet (fail)
   rw[ni,←KQ.out]
   obtain⟨N,hN⟩:∃ N,N=BM (r.take 4):=⟨_,rfl⟩
   rw[←hN]
   have AKs:N < 4294967296:=by
    have h0:=x0.toNat_lt
    have h1:=x1.toNat_lt
    have h2:=x2.toNat_lt
    have h3:=x3.toNat_lt
    rw[hN,KQ.out];omega
   obtain⟨x,hx⟩:∃ x,x=(r.drop 8).take N:=⟨_,rfl⟩
   obtain⟨hd,hhd⟩:∃ hd,hd=(m - 8 < N∨C8 x≠r.take 8):=⟨_,rfl⟩
   have rJ:Hid (FM r=if (m - 8 < N∨C8 x≠r.take 8) then none else match Dl x with
     | .ok fs=>some (fs,N)
     | .bad _=>none):=Lib.hid (by
    unfold FM
    rw[Hrl.out,if_neg (by omega),←hN,←hx]
    rfl)
   obtain⟨Aq,hAq⟩:∃ Aq,Aq=if cm=8 then some (⟨a,o+u,none⟩:Addr) else some ⟨a,o+u+8,none⟩:=⟨_,rfl⟩
   have HXl:Hid (N≤m - 8→x.length=N):=Lib.hid (fun h=>by rw[hx,List.length_take,List.length_drop,Hrl.out];omega)
   have HXa:Hid (∀ W,BI W (some ⟨a,o+u,none⟩) r→N≤m - 8→BI W Aq x):=Lib.hid (fun W h hNm=>by
    rw[hAq,hx]
    by_cases hc8:cm=8
    ·rw[show (r.drop 8).take N=[] by rw[show N=0 by omega];rfl]
     exact AQ.nil
    ·rw[if_neg hc8]
     exact (BI.drop h 8).take N)
   have HAe:=Lib.hid hAq.symm
   have HX:=Lib.hid hx
   clear hx hAq hd hhd
   have HN:=Lib.hid hN
   have hbd:Below wr.heap.size wr (wr.drewN nq):=(Below.refl _ _).drewN' nq
   have HD4:=Lib.hid (BI.below HD.out hbd)
   have HL4:=Lib.hid (HL.out.below hbd)
   have Hb4:=Lib.hid (Hb.out.trans (hbd.mono Hb.out.size))
   clear k0 k1 k2 k3 hbd hN HD HL Hb KQ
   generalize wr.drewN nq=w4 at *
   go_upto_region 4 with fail
   go_cut [54] from 39 to 54 (fun bv wx=>bv=.bool (decide (m - 8 < N∨C8 x≠r.take 8))∧Below w4.heap.size w4 wx)
   case first=>
    have ANQ:IntKind.i64.wrap ((m:Int) - 8)=(m:Int) - 8:=IntWalk.i64_in _ (by omega)
    refine FI ?_
    refine Bp (fun _=>True) 15 (by kernel_rfl) ?_
    have hHeld:True:=trivial
    have hdr:Below w4.heap.size w4 w4.drew:=(Below.refl _ _).drew
    have HD5:=Lib.hid (BI.below HD4.out hdr)
    have Hb5:=Lib.hid hdr
    clear hdr
    generalize w4.drew=w5 at *
    by_cases hNm:m - 8 < N
    ·have hNi:(m:Int) - 8 < (N:Int):=by omega
     refine AA (i:=0) (v:=?zn) (by kernel_rfl) (by kernel_rfl) rfl (by kernel_rfl) (by kernel_rfl) (by kernel_rfl) (fun _ _ _ h=>by cases h.1) (by rfl) (by assumption) ?Js ?Jt
     case Js=>(intro W hSW;go_simp;try with_reducible rfl)
     (try simp only[Act.put,l0A,l0B,l0C,l0D,l0E,l0F])
     refine AA (i:=1) (v:=?vG) (by kernel_rfl) (by kernel_rfl) rfl (by kernel_rfl) (by kernel_rfl) (by kernel_rfl) (fun _ _ _ h=>by cases h.1) (by rfl) (by assumption) ?JE ?JF
     case JE=>(intro W hSW;go_simp;try with_reducible rfl)
     (try simp only[Act.put,l0A,l0B,l0C,l0D,l0E,l0F])
     refine AA (i:=2) (v:=?va2) (by kernel_rfl) (by kernel_rfl) rfl (by kernel_rfl) (by kernel_rfl) (by kernel_rfl) (fun _ _ _ h=>by cases h.1) (by rfl) (by assumption) ?OA ?OB
     case OA=>(intro W hSW;go_simp;try with_reducible rfl)
     (try simp only[Act.put,l0A,l0B,l0C,l0D,l0E,l0F])
     refine AA (i:=3) (v:=?va3) (by kernel_rfl) (by kernel_rfl) rfl (by kernel_rfl) (by kernel_rfl) (by kernel_rfl) (fun _ _ _ h=>by cases h.1) (by rfl) (by assumption) ?K5 ?K6
     case K5=>(intro W hSW;go_simp;try with_reducible rfl)
     (try simp only[Act.put,l0A,l0B,l0C,l0D,l0E,l0F])
     refine AA (i:=4) (v:=?va4) (by kernel_rfl) (by kernel_rfl) rfl (by kernel_rfl) (by kernel_rfl) (by kernel_rfl) (fun _ _ _ h=>by cases h.1) (by rfl) (by assumption) ?K7 ?K8
     case K7=>(intro W hSW;go_simp;try with_reducible rfl)
     (try simp only[Act.put,l0A,l0B,l0C,l0D,l0E,l0F])
     refine AA (i:=5) (v:=?va5) (by kernel_rfl) (by kernel_rfl) rfl (by kernel_rfl) (by kernel_rfl) (by kernel_rfl) (fun _ _ _ h=>by cases h.1) (by rfl) (by assumption) ?K9 ?LC
     case K9=>(intro W hSW;go_simp;try with_reducible rfl)
     (try simp only[Act.put,l0A,l0B,l0C,l0D,l0E,l0F])
     refine BF (i:=6) (by kernel_rfl) (by kernel_rfl) rfl (by kernel_rfl) (by kernel_rfl) (by kernel_rfl) (fun _ _ _ h=>by cases h.1) (by rfl) (by assumption) ?_
     (try simp only[Act.put,l0A,l0B,l0C,l0D,l0E,l0F])
     refine BF (i:=7) (by kernel_rfl) (by kernel_rfl) rfl (by kernel_rfl) (by kernel_rfl) (by kernel_rfl) (fun _ _ _ h=>by cases h.1) (by rfl) (by assumption) ?_
     (try simp only[Act.put,l0A,l0B,l0C,l0D,l0E,l0F])
     refine BF (i:=8) (by kernel_rfl) (by kernel_rfl) rfl (by kernel_rfl) (by kernel_rfl) (by kernel_rfl) (fun _ _ _ h=>by cases h.1) (by rfl) (by assumption) ?_
     (try simp only[Act.put,l0A,l0B,l0C,l0D,l0E,l0F])
     refine BF (i:=9) (by kernel_rfl) (by kernel_rfl) rfl (by kernel_rfl) (by kernel_rfl) (by kernel_rfl) (fun _ _ _ h=>by cases h.1) (by rfl) (by assumption) ?_
     (try simp only[Act.put,l0A,l0B,l0C,l0D,l0E,l0F])
     refine BF (i:=11) (by kernel_rfl) (by kernel_rfl) rfl (by kernel_rfl) (by kernel_rfl) (by kernel_rfl) (fun _ _ _ h=>by cases h.1) (by rfl) (by assumption) ?_
     (try simp only[Act.put,l0A,l0B,l0C,l0D,l0E,l0F])
     refine BF (i:=12) (by kernel_rfl) (by kernel_rfl) rfl (by kernel_rfl) (by kernel_rfl) (by kernel_rfl) (fun _ _ _ h=>by cases h.1) (by rfl) (by assumption) ?_
     (try simp only[Act.put,l0A,l0B,l0C,l0D,l0E,l0F])
     refine AB (i:=10) rfl (by kernel_rfl) (fun K hK=>?_)
     go_simp
     refine hK.out _ _ trivial (fun hHeld=>?_)
     clear hK K
     (try simp only[Act.put,l0A,l0B,l0C,l0D,l0E,l0F])
     refine AB (i:=13) rfl (by kernel_rfl) (fun K hK=>?_)
     go_simp
     refine hK.out _ _ trivial (fun hHeld=>?_)
     clear hK K
     (try simp only[Act.put,l0A,l0B,l0C,l0D,l0E,l0F])
     refine BF (i:=14) (by kernel_rfl) (by kernel_rfl) rfl (by kernel_rfl) (by kernel_rfl) (by kernel_rfl) (fun _ _ _ h=>by cases h.1) (by rfl) (by assumption) ?_
     (try simp only[Act.put,l0A,l0B,l0C,l0D,l0E,l0F])
     refine BH rfl (by kernel_rfl) (by kernel_rfl) (fun K hK=>?_)
     go_simp
     clear hHeld
     refine hK.out _ _ ⟨rfl,?_⟩
     clear hK K
     go_wp2_with fail
     go_meet
     case rel=>exact⟨by simp[hNm],Hb5.out⟩
    ·have hNi:¬ (m:Int) - 8 < (N:Int):=by omega
     have hw8:IntKind.i64.wrap (8+(N:Int))=8+(N:Int):=IntWalk.i64_in _ (by omega)
     have hs1:(8:Int)≤8+(N:Int):=by omega
     have hs2:8+(N:Int)≤(cm:Int):=by omega
     have hs3:(8:Int)≤(cm:Int):=by omega
     refine AA (i:=0) (v:=?vb0) (by kernel_rfl) (by kernel_rfl) rfl (by kernel_rfl) (by kernel_rfl) (by kernel_rfl) (fun _ _ _ h=>by cases h.1) (by rfl) (by assumption) ?ADj ?ADk
     case ADj=>(intro W hSW;go_simp;try with_reducible rfl)
     (try simp only[Act.put,l0A,l0B,l0C,l0D,l0E,l0F])
     refine AA (i:=1) (v:=?vb1) (by kernel_rfl) (by kernel_rfl) rfl (by kernel_rfl) (by kernel_rfl) (by kernel_rfl) (fun _ _ _ h=>by cases h.1) (by rfl) (by assumption) ?ADl ?ADm
     case ADl=>(intro W hSW;go_simp;try with_reducible rfl)
     (try simp only[Act.put,l0A,l0B,l0C,l0D,l0E,l0F])
     refine AA (i:=2) (v:=?vb2) (by kernel_rfl) (by kernel_rfl) rfl (by kernel_rfl) (by kernel_rfl) (by kernel_rfl) (fun _ _ _ h=>by cases h.1) (by rfl) (by assumption) ?ADn ?ADo
     case ADn=>(intro W hSW;go_simp;try with_reducible rfl)
     (try simp only[Act.put,l0A,l0B,l0C,l0D,l0E,l0F])
     refine AA (i:=3) (v:=?vb3) (by kernel_rfl) (by kernel_rfl) rfl (by kernel_rfl) (by kernel_rfl) (by kernel_rfl) (fun _ _ _ h=>by cases h.1) (by rfl) (by assumption) ?ADp ?ADq
     case ADp=>(intro W hSW;go_simp;try with_reducible rfl)
     (try simp only[Act.put,l0A,l0B,l0C,l0D,l0E,l0F])
     refine AA (i:=4) (v:=?vb4) (by kernel_rfl) (by kernel_rfl) rfl (by kernel_rfl) (by kernel_rfl) (by kernel_rfl) (fun _ _ _ h=>by cases h.1) (by rfl) (by assumption) ?ADr ?ADs
     case ADr=>(intro W hSW;go_simp;try with_reducible rfl)
     (try simp only[Act.put,l0A,l0B,l0C,l0D,l0E,l0F])
     refine AA (i:=5) (v:=?vb5) (by kernel_rfl) (by kernel_rfl) rfl (by kernel_rfl) (by kernel_rfl) (by kernel_rfl) (fun _ _ _ h=>by cases h.1) (by rfl) (by assumption) ?ADt ?ADu
     case ADt=>(intro W hSW;go_simp;try with_reducible rfl)
     (try simp only[Act.put,l0A,l0B,l0C,l0D,l0E,l0F])
     refine AA (i:=6) (v:=?vb6) (by kernel_rfl) (by kernel_rfl) rfl (by kernel_rfl) (by kernel_rfl) (by kernel_rfl) (fun _ _ _ h=>by cases h.1) (by rfl) (by assumption) ?ADv ?ADw
     case ADv=>(intro W hSW;go_simp;try with_reducible rfl)
     (try simp only[Act.put,l0A,l0B,l0C,l0D,l0E,l0F])
     refine AA (i:=7) (v:=?vb7) (by kernel_rfl) (by kernel_rfl) rfl (by kernel_rfl) (by kernel_rfl) (by kernel_rfl) (fun _ _ _ h=>by cases h.1) (by rfl) (by assumption) ?ADx ?ADy
     case ADx=>(intro W hSW;go_simp;try with_reducible rfl)
     (try simp only[Act.put,l0A,l0B,l0C,l0D,l0E,l0F])
     refine AA (i:=8) (v:=?vb8) (by kernel_rfl) (by kernel_rfl) rfl (by kernel_rfl) (by kernel_rfl) (by kernel_rfl) (fun _ _ _ h=>by cases h.1) (by rfl) (by assumption) ?vI ?vJ
     case vI=>(intro W hSW;go_simp;try with_reducible rfl)
     (try simp only[Act.put,l0A,l0B,l0C,l0D,l0E,l0F])
     refine AA (i:=9) (v:=?vb9) (by kernel_rfl) (by kernel_rfl) rfl (by kernel_rfl) (by kernel_rfl) (by kernel_rfl) (fun _ _ _ h=>by cases h.1) (by rfl) (by assumption) ?dn ?dw
     case dn=>(intro W hSW;go_simp;try with_reducible rfl)
     (try simp only[Act.put,l0A,l0B,l0C,l0D,l0E,l0F])
     rw[HAe.out,show ((8:Int)+(N:Int)).toNat - 8=N by omega]
     refine AA (i:=11) (v:=?AHJ) (by kernel_rfl) (by kernel_rfl) rfl (by kernel_rfl) (by kernel_rfl) (by kernel_rfl) (fun _ _ _ h=>by cases h.1) (by rfl) (by assumption) ?aD ?kC
     case aD=>(intro W hSW;go_simp;try with_reducible rfl)
     (try simp only[Act.put,l0A,l0B,l0C,l0D,l0E,l0F])
     refine AA (i:=12) (v:=?ANR) (by kernel_rfl) (by kernel_rfl) rfl (by kernel_rfl) (by kernel_rfl) (by kernel_rfl) (fun _ _ _ h=>by cases h.1) (by rfl) (by assumption) ?AHQ ?AJN
     case AHQ=>(intro W hSW;go_simp;try with_reducible rfl)
     (try simp only[Act.put,l0A,l0B,l0C,l0D,l0E,l0F])
     have AHR:N≤m - 8:=by omega
     have YV:=Lib.hid (MP Aq N (cm - 8) x w5 (HXl.out AHR) AKs (HXa.out w5 HD5.out AHR))
     refine AB (i:=10) rfl (by kernel_rfl) (fun K hK=>?_)
     go_simp
     clear hHeld
     go_at_call 56
     refine (YV.out).mono ?_
     rintro e w6 ⟨⟨vh,rfl,hoh⟩,hb6⟩
     obtain⟨Ah,ch,rfl,_,_,hh3,_⟩:=Ad hoh
     have HH6:Hid (BI w6 Ah (C8 x)):=Lib.hid hh3
     have HD6:=Lib.hid (BI.below HD5.out hb6)
     have Jc:=Lib.hid (Hb5.out.trans (hb6.mono Hb5.out.size))
     clear hoh hh3 hb6 HD5 Hb5 YV
     refine hK.out _ _ trivial (fun hHeld=>?_)
     clear hK K
     (try simp only[Act.put,l0A,l0B,l0C,l0D,l0E,l0F])
     refine AB (i:=13) rfl (by kernel_rfl) (fun K hK=>?_)
     go_simp
     clear hHeld
     go_at_call 82
     refine (mf Ah (some ⟨a,o+u,none⟩) 8 8 ch cm (C8 x) (r.take 8) w6 (Hw x) (by rw[List.length_take,Hrl.out];omega) (by unfold maxLen;omega) (by unfold maxLen;omega) HH6.out (HD6.out.take 8)).mono ?_
     rintro e w7 ⟨rfl,q,rfl⟩
     have FR:=Lib.hid (Jc.out.drewN' q)
     refine hK.out _ _ trivial (fun hHeld=>?_)
     clear hK K HH6 HD6 Jc
     (try simp only[Act.put,l0A,l0B,l0C,l0D,l0E,l0F])
     obtain⟨eb,heb⟩:∃ eb,eb=decide (C8 x=r.take 8):=⟨_,rfl⟩
     rw[←heb]
     have Heb:=Lib.hid heb
     clear heb
     generalize w6.drewN q=w7 at *
     refine AA (i:=14) (v:=?ANT) (by kernel_rfl) (by kernel_rfl) rfl (by kernel_rfl) (by kernel_rfl) (by kernel_rfl) (fun _ _ _ h=>by cases h.1) (by rfl) (by assumption) ?AHS ?AJO
     case AHS=>(intro W hSW;go_simp;try with_reducible rfl)
     (try simp only[Act.put,l0A,l0B,l0C,l0D,l0E,l0F])
     refine BH rfl (by kernel_rfl) (by kernel_rfl) (fun K hK=>?_)
     go_simp
     clear hHeld
     refine hK.out _ _ ⟨rfl,?_⟩
     clear hK K
     go_wp2_with fail
     go_meet
     case rel=>exact⟨by rw[Heb.out];simp[hNm],FR.out⟩
   case rest=>
    obtain⟨rfl,hbx⟩:=hcut
    have HDc:=Lib.hid (BI.below HD4.out hbx)
    have HLc:=Lib.hid (HL4.out.below hbx)
    have Hbc:=Lib.hid (Hb4.out.trans (hbx.mono Hb4.out.size))
    clear hbx HD4 HL4 Hb4
    by_cases hbad:m - 8 < N∨C8 x≠r.take 8
    ·have HRe:=Lib.hid (show R=(l,u) by rw[HR.out,rJ.out,if_pos hbad])
     rw[show decide (m - 8 < N∨C8 x≠r.take 8)=true from decide_eq_true hbad]
     clear hbad HR rJ
     go_wp2_with fail
     go_ret2
     rw[HRe.out]
     exact⟨⟨_,rfl,HLc.out⟩,Hbc.out⟩
    ·have ABM:=Lib.hid (rJ.out.trans (if_neg hbad))
     rw[show decide (m - 8 < N∨C8 x≠r.take 8)=false from decide_eq_false hbad]
     have hNm:N≤m - 8:=by
      rcases Nat.lt_or_ge (m - 8) N with h | h
      ·exact absurd (Or.inl h) hbad
      ·exact h
     clear hbad rJ
     have hw8:IntKind.i64.wrap (8+(N:Int))=8+(N:Int):=IntWalk.i64_in _ (by omega)
     have hs1:(8:Int)≤8+(N:Int):=by omega
     have hs2:8+(N:Int)≤(cm:Int):=by omega
     have hs3:(8:Int)≤(cm:Int):=by omega
     have HGt:=Lib.hid (NB Aq N (cm - 8) x wc (Hm.out.below Hbc.out) (HXl.out hNm) (by omega) (by omega) (HXa.out wc HDc.out hNm))
     have hAe:=HAe.out
     have h8N:((8:Int)+(N:Int)).toNat - 8=N:=by omega
     go_wp2_with fail
     clear hAe
     refine (HGt.out).mono ?_
     rintro e w8 ⟨hr,Kk⟩
     have HL8:=Lib.hid (HLc.out.below Kk)
     have EJ:=Lib.hid (Hbc.out.trans (Kk.mono Hbc.out.size))
     clear Kk HLc Hbc HGt HDc
     cases hrd:Dl x with
     | bad z=>
      rw[hrd]at hr
      obtain rfl:=hr
      have HRe:=Lib.hid (show R=(l,u) by rw[HR.out,ABM.out,hrd])
      have hz1:(z != 0)=true:=by
       have:=kE hrd
       simp
       omega
      clear hrd ABM HR
      go_wp2_with fail
      go_ret2
      rw[HRe.out]
      exact⟨⟨_,rfl,HL8.out⟩,EJ.out⟩
     | ok fs=>
      rw[hrd]at hr
      obtain⟨v8,rfl,hv8⟩:=hr
      have HR8:=Lib.hid (show R=if (Bt l fs).1=0 then IW b f (u+(8+N)) (Bt l fs).2 else (l,u) by rw[HR.out,ABM.out,hrd])
      have HB:=Lib.hid (xn _ v8 l fs w8 (Hm.out.below EJ.out) HL8.out.fs hv8)
      clear hrd ABM HR hv8
      generalize (Bt l fs).1=be at *
      generalize (Bt l fs).2=bl at *
      go_wp2_with fail
      refine (HB.out).mono ?_
      rintro e w9 ⟨v9,rfl,hv9,VW⟩
      have HV9:=Lib.hid (hv9.Qr EJ.out.size)
      have HL9:=Lib.hid (HL8.out.below VW)
      have Sa:=Lib.hid (EJ.out.trans (VW.mono EJ.out.size))
      clear hv9 VW HB HL8 EJ
      by_cases hbe:be=0
      ·have HR9:=Lib.hid (HR8.out.trans (if_pos hbe))
       subst hbe
       have hwu:IntKind.i64.wrap ((u:Int)+(8+(N:Int)))=((u+(8+N):Nat):Int):=by
        rw[show (u:Int)+(8+(N:Int))=((u+(8+N):Nat):Int) by omega];exact IntWalk.i64_in _ (by omega)
       have hmu:u+(8+N)≤n:=by have:=Hme.out;omega
       go_wp2_with fail
       go_roundw
       case rel=>exact⟨f,u+(8+N),bl,HR9.out,hmu,by omega,by go_num,HV9.out,Sa.out⟩
       case measure=>simp[intOf];omega
      ·have HRe:=Lib.hid (HR8.out.trans (if_neg hbe))
       have hz1:(be != 0)=true:=by simpa using hbe
       go_wp2_with fail
       go_ret2
       rw[HRe.out]
       exact⟨⟨_,rfl,HL9.out⟩,Sa.out⟩
   end Go.Proofs.YtabdianhoabhhaaGreatDoor.KJ
namespace Go.Proofs.YtabdianhoabhhaaGreatDoor.Worlds
open Go Go.ChangeShapes Go.WideShapes Go.ChangeAt Go.RowKit Go.Proofs.YtabdianhoabhhaaGreatDoor Go.Proofs.YtabdianhoabhhaaGreatDoor.Name Go.Proofs.YtabdianhoabhhaaGreatDoor.Merge
set_option linter.unusedVariables false
abbrev Nx:=YW×List Fx
def nC (x:Nx):List Value:=[Cm x.1]
def N7 (w:World) (x:Nx):Prop:=CO w (Cm x.1) x.2
theorem N7.below {w w':World} {x:Nx} (h:N7 w x) (hb:Below w.heap.size w w'):N7 w' x:=CO.below h hb
theorem uW (x:Nx):(nC x).length=1:=rfl
theorem mV {w:World} {A:Option Addr} {l:List Nx} (h:AQ w A (l.flatMap nC)) {k:Nat} (hk:k < l.length):∃ b o,A=some ⟨b,o,none⟩∧w.cell? ⟨b,o+k,none⟩=some (Cm l[k].1):=by
 obtain⟨b,o,e,hc⟩:=EI (size:=1) uW (by omega) h hk
 exact⟨b,o,e,by have:=hc 0 _ rfl;rwa [Nat.mul_one,Nat.add_zero]at this⟩
instance:Inhabited Fx:=⟨(⟨[],[],0,0,false⟩,none,0,0)⟩
structure Dx where
 vs:Value
 safe:List UInt8
 vw:Value
 wait:List UInt8
def dV (x:Dx):Value:=.agg #[x.vs,x.vw]
structure Fq (w:World) (x:Dx):Prop where
 safe:BD w x.vs x.safe
 wait:BD w x.vw x.wait
section
variable {H:Type} {enc:TypeId×Value→H} {w:World}
set_option maxRecDepth 100000 in
theorem uX:Rd H enc Tryz.prog w 22 nC (N7 w):=by
 intro base spare held fuel cs x h
 obtain⟨s,h1,h2,h3⟩:=ZC Tryz.underlying22 (show Tryz.prog.cellsOf 36=5 by kernel_rfl) (by omega) Ku (jP (w:=w)) h
 refine⟨((s.A,s.l.length,s.cap),s.l),by rw[h1];rfl,s.A,s.cap,rfl,h2⟩
set_option maxRecDepth 100000 in
theorem ZF {base b0:Nat} {spare:Nat→Bool} {held:Bool} {r:Reach} {v:Value} {d:DataW H} {ps:List MemPlace} (hv:Value.okWide Tryz.prog w r b0 67 v) (h:DataW.Trod enc Tryz.prog w base spare held 67 v d ps) :
  ∃ l:List Nx,IsL w nC (N7 w) v l∧ZE d=l.length:=
 uY (size:=1) Tryz.underlying67 (by kernel_rfl) (by omega) uW (fun enc=>uX) hv h
end
end Go.Proofs.YtabdianhoabhhaaGreatDoor.Worlds
namespace Go.Proofs.YtabdianhoabhhaaGreatDoor.KJ
open Go Go.RowKit Go.Proofs.YtabdianhoabhhaaGreatDoor Go.Proofs.YtabdianhoabhhaaGreatDoor.Bits Go.Proofs.YtabdianhoabhhaaGreatDoor.Merge Go.Proofs.YtabdianhoabhhaaGreatDoor.Name Go.Proofs.YtabdianhoabhhaaGreatDoor.Zip Go.Proofs.YtabdianhoabhhaaGreatDoor.Worlds
set_option linter.unusedVariables false
set_option linter.unusedSimpArgs false
set_option linter.constructorNameAsVariable false
theorem _root_.Go.Proofs.YtabdianhoabhhaaGreatDoor.Worlds.Fq.below {w w':World} {x:Dx} (h:Fq w x) (hb:Below w.heap.size w w'):Fq w' x:=⟨h.safe.Bu hb,h.wait.Bu hb⟩
def SzD (x:Dx):Prop:=x.safe.length≤140737488355328∧x.wait.length≤140737488355328
theorem R5 (v1 v2:Value) (s t:List UInt8) (w:World) (h1:BD w v1 s) (h2:BD w v2 t) (hl:(s++t).length≤140737488355328) :
  Calls Tryz.prog 32 #[.slice (some ⟨w.heap.size,0,none⟩) 2 2] (w.alloc (.cells #[v1,v2] 23)) fun e w'=>(∃ v,e=.returned v∧BN w' w.heap.size v (s++t))∧Below w.heap.size w w':=
 LU [(v1,s),(v2,t)] (s++t) 2 w rfl (fun q hq=>by
  rcases List.mem_cons.1 hq with rfl | hq
  ·exact h1
  ·rw[List.mem_singleton.1 hq];exact h2) (by simp) hl (by omega) _ rfl
theorem OQ (v:Value) (b:List UInt8) (w:World) (hm:ML w) (h:BD w v b) (jy:b.length≤40000) :
  Calls Tryz.prog 60 #[v] w fun e w'=>(∃ v,e=.returned (.tuple #[v,.int .i64 ((scan b).2:Int)])∧VD w' w.heap.size v (scan b).1)∧Below w.heap.size w w':=by
 obtain⟨A,c,rfl,h1,h2,h3⟩:=h
 exact aA A b.length c b w hm rfl h1 h2 jy h3
set_option maxRecDepth 100000 in
set_option maxHeartbeats 2000000 in
theorem UF (x:Dx) (w:World) (hm:ML w) (hd:Fq w x) (hsz:SzD x) :
  Calls Tryz.prog 39 #[dV x] w fun e w'=>e=.returned (.int .i64 (EK x.safe x.wait))∧Below w.heap.size w w':=by
 obtain⟨vs,s,vw,t⟩:=x
 obtain⟨hs,ht⟩:=hd
 obtain⟨hl1,hl2⟩:=hsz
 dsimp only at hs ht hl1 hl2
 have HS:=Lib.hid hs
 have HT:=Lib.hid ht
 have Hm:=Lib.hid hm
 have zt:Hid (EK s t=if 40000 < s.length+t.length then 2 else if (scan s).2≠s.length then 7 else if (scan (s++t)).2≠(s++t).length then 7 else 0):=Lib.hid rfl
 obtain⟨A1,c1,rfl,_,_,_⟩:=hs
 obtain⟨A2,c2,rfl,_,_,_⟩:=ht
 obtain⟨ns,hns⟩:∃ n,n=s.length:=⟨_,rfl⟩
 obtain⟨nt,hnt⟩:∃ n,n=t.length:=⟨_,rfl⟩
 rw[←hns]at zt HS hl1
 rw[←hnt]at zt HT hl2
 have VA:=Lib.hid hns.symm
 have WQ:=Lib.hid hnt.symm
 have Hlen:Hid ((s++t).length=ns+nt):=Lib.hid (by rw[List.length_append,←hns,←hnt])
 rw[Hlen.out]at zt
 unfold dV
 dsimp only
 rw[←hns,←hnt]
 show Calls _ _ _ w fun e w'=>e=.returned (.int .i64 (EK s t))∧Below w.heap.size w w'
 obtain⟨z,hz⟩:∃ z,z=EK s t:=⟨_,rfl⟩
 rw[←hz]at zt⊢
 clear hns hnt hm hz
 go_enter Tryz.func39,Tryz.ntmps39
 go_upto_region 1 with fail
 have HB1:=Lib.hid (AV.new w 52 #[.slice A1 ns c1,.slice A2 nt c2])
 have BA:Below w.heap.size w (w.alloc (.cells #[.slice A1 ns c1,.slice A2 nt c2] 52)):=(Below.refl _ _).alloc (Nat.le_refl _) _
 have dI:=Lib.hid (HS.out.Bu BA)
 have HT1:=Lib.hid (HT.out.Bu BA)
 have Hb1:=Lib.hid BA
 clear BA HS HT
 generalize w.alloc (.cells #[.slice A1 ns c1,.slice A2 nt c2] 52)=w1 at *
 have k0:w1.cell? ⟨w.heap.size,0,none⟩=some (.slice A1 ns c1):=HB1.out.cell 0
 have k1:w1.cell? ⟨w.heap.size,1,none⟩=some (.slice A2 nt c2):=HB1.out.cell 1
 have hw:IntKind.i64.wrap ((ns:Int)+(nt:Int))=(ns:Int)+(nt:Int):=IntWalk.i64_in _ (by omega)
 by_cases jy:40000 < ns+nt
 ·have xW:(40000:Int) < (ns:Int)+(nt:Int):=by omega
  have HZ:=Lib.hid (zt.out.trans (if_pos jy))
  go_wp2_with fail
  go_ret
  exact⟨by rw[HZ.out];rfl,Hb1.out⟩
 ·have xW:¬ (40000:Int) < (ns:Int)+(nt:Int):=by omega
  have HZ:=Lib.hid (zt.out.trans (if_neg jy))
  have HSc:=Lib.hid (OQ _ s w1 (Hm.out.below Hb1.out) dI.out (by rw[VA.out];omega))
  clear zt
  generalize (scan s).2=u1 at *
  go_wp2_with fail
  refine (HSc.out).mono ?_
  rintro e w2 ⟨⟨v2,rfl,hv2⟩,hb2⟩
  have HB2:=Lib.hid (HB1.out.below hb2 HB1.out.lt)
  have HS2:=Lib.hid (dI.out.Bu hb2)
  have HT2:=Lib.hid (HT1.out.Bu hb2)
  have Hb2:=Lib.hid (Hb1.out.trans (hb2.mono Hb1.out.size))
  clear k0 k1 hb2 HSc HB1 dI HT1 Hb1 hv2
  have k0:w2.cell? ⟨w.heap.size,0,none⟩=some (.slice A1 ns c1):=HB2.out.cell 0
  have k1:w2.cell? ⟨w.heap.size,1,none⟩=some (.slice A2 nt c2):=HB2.out.cell 1
  by_cases hu:u1=ns
  ·have hu1:((u1:Int) != (ns:Int))=false:=by rw[bne_eq_false_iff_eq];omega
   have hu2:((u1:Int) == (ns:Int))=true:=by rw[beq_iff_eq];omega
   have HZ2:=Lib.hid (HZ.out.trans (if_neg (fun h=>h hu)))
   clear HZ hu
   have pQ:=Lib.hid (R5 _ _ s t w2 HS2.out HT2.out (by rw[Hlen.out];omega))
   go_wp2_with fail
   refine (pQ.out).mono ?_
   rintro e w3 ⟨⟨v3,rfl,ho3⟩,hb3⟩
   have AHG:=ho3.bytes
   have HB3:=Lib.hid (HB2.out.below hb3 HB2.out.lt)
   have Hb3:=Lib.hid (Hb2.out.trans (hb3.mono Hb2.out.size))
   obtain⟨A3,c3,rfl,_,_,_,_⟩:=ho3.slice
   have HSc:=Lib.hid (OQ _ (s++t) w3 (Hm.out.below Hb3.out) AHG (by rw[Hlen.out];omega))
   rw[Hlen.out]at HSc⊢
   clear k0 k1 hb3 pQ HB2 HS2 HT2 Hb2 ho3 AHG hu1 hu2
   generalize (scan (s++t)).2=u2 at *
   go_wp2_with fail
   refine (HSc.out).mono ?_
   rintro e w4 ⟨⟨v4,rfl,hv4⟩,hb4⟩
   have F4:=Lib.hid (HB3.out.below hb4 HB3.out.lt)
   have Hb4:=Lib.hid (Hb3.out.trans (hb4.mono Hb3.out.size))
   clear hb4 HSc HB3 Hb3 hv4
   have k0:w4.cell? ⟨w.heap.size,0,none⟩=some (.slice A1 ns c1):=F4.out.cell 0
   have k1:w4.cell? ⟨w.heap.size,1,none⟩=some (.slice A2 nt c2):=F4.out.cell 1
   by_cases hu:u2=ns+nt
   ·have hu1:((u2:Int) != (ns:Int)+(nt:Int))=false:=by rw[bne_eq_false_iff_eq];omega
    have hu2:((u2:Int) == (ns:Int)+(nt:Int))=true:=by rw[beq_iff_eq];omega
    have HZ3:=Lib.hid (HZ2.out.trans (if_neg (fun h=>h hu)))
    clear hu
    go_wp2_with fail
    go_ret
    exact⟨by rw[HZ3.out];rfl,Hb4.out⟩
   ·have hu1:((u2:Int) != (ns:Int)+(nt:Int))=true:=by rw[bne_iff_ne];omega
    have hu2:((u2:Int) == (ns:Int)+(nt:Int))=false:=by rw[beq_eq_false_iff_ne];omega
    have HZ3:=Lib.hid (HZ2.out.trans (if_pos hu))
    clear hu
    go_wp2_with fail
    go_ret
    exact⟨by rw[HZ3.out];rfl,Hb4.out⟩
  ·have hu1:((u1:Int) != (ns:Int))=true:=by rw[bne_iff_ne];omega
   have hu2:((u1:Int) == (ns:Int))=false:=by rw[beq_eq_false_iff_ne];omega
   have HZ2:=Lib.hid (HZ.out.trans (if_pos hu))
   clear hu
   go_wp2_with fail
   go_ret
   exact⟨by rw[HZ2.out];rfl,Hb2.out⟩
def fq (z:Int) (l:List Fl) (w:World) (e:Ending) (w':World):Prop:=
 (if z≠0 then e=.returned (.tuple #[.slice none 0 0,.int .i64 z]) else ∃ v,e=.returned (.tuple #[v,.int .i64 0])∧VD w' w.heap.size v l)∧Below w.heap.size w w'
def Gp (s t:List UInt8) (w:World) (e:Ending) (w':World):Prop:=fq (EK s t) (Cc s t) w e w'
set_option maxRecDepth 100000 in
set_option maxHeartbeats 2000000 in
theorem KW (x:Dx) (w:World) (hm:ML w) (hd:Fq w x) (hsz:SzD x) :
  Calls Tryz.prog 35 #[dV x] w (Gp x.safe x.wait w):=by
 obtain⟨vs,s,vw,t⟩:=x
 obtain⟨A1,c1,e1,_,_,_⟩:=(show BD w vs s from hd.safe)
 obtain⟨A2,c2,e2,_,_,_⟩:=(show BD w vw t from hd.wait)
 subst e1 e2
 have HD:=Lib.hid hd
 have Hm:=Lib.hid hm
 have Qu:=Lib.hid hsz
 have hck:=@Ic s t
 unfold Gp
 dsimp only
 generalize hns:s.length=ns at *
 generalize hnt:t.length=nt at *
 have VA:=Lib.hid hns
 have WQ:=Lib.hid hnt
 obtain⟨z,hz⟩:∃ z,z=EK s t:=⟨_,rfl⟩
 rw[←hz]at hck⊢
 have Hz:=Lib.hid hz
 have Hck:=Lib.hid hck
 clear hm hz hck hd hns hnt hsz
 go_enter Tryz.func35,Tryz.ntmps35
 unfold dV
 go_upto_region 1 with fail
 have HB1:=Lib.hid (AV.new w 52 #[.slice A1 ns c1,.slice A2 nt c2])
 have BA:Below w.heap.size w (w.alloc (.cells #[.slice A1 ns c1,.slice A2 nt c2] 52)):=(Below.refl _ _).alloc (Nat.le_refl _) _
 have HD1:=Lib.hid (HD.out.below BA)
 have Hb1:=Lib.hid BA
 clear BA HD
 generalize w.alloc (.cells #[.slice A1 ns c1,.slice A2 nt c2] 52)=w1 at *
 have k0:w1.cell? ⟨w.heap.size,0,none⟩=some (.slice A1 ns c1):=HB1.out.cell 0
 have k1:w1.cell? ⟨w.heap.size,1,none⟩=some (.slice A2 nt c2):=HB1.out.cell 1
 have HC:=Lib.hid (UF _ w1 (Hm.out.below Hb1.out) HD1.out Qu.out)
 unfold dV at HC
 dsimp only at HC
 rw[←Hz.out]at HC
 go_wp2_with fail
 refine (HC.out).mono ?_
 rintro e w2 ⟨rfl,hb2⟩
 have HB2:=Lib.hid (HB1.out.below hb2 HB1.out.lt)
 have HD2:=Lib.hid (HD1.out.below hb2)
 have Hb2:=Lib.hid (Hb1.out.trans (hb2.mono Hb1.out.size))
 clear k0 k1 hb2 HC HB1 HD1 Hb1
 by_cases h0:z=0
 ·obtain⟨hlen,_,_⟩:=Hck.out.1 h0
  subst h0
  obtain⟨hs,ht⟩:=HD2.out
  have k0:w2.cell? ⟨w.heap.size,0,none⟩=some (.slice A1 ns c1):=HB2.out.cell 0
  have k1:w2.cell? ⟨w.heap.size,1,none⟩=some (.slice A2 nt c2):=HB2.out.cell 1
  have pQ:=Lib.hid (R5 _ _ s t w2 hs ht (by rw[List.length_append,VA.out,WQ.out];omega))
  clear hs ht
  go_wp2_with fail
  refine (pQ.out).mono ?_
  rintro e w3 ⟨⟨v3,rfl,ho3⟩,hb3⟩
  have Hb3:=Lib.hid (Hb2.out.trans (hb3.mono Hb2.out.size))
  have HSc:=Lib.hid (OQ _ (s++t) w3 (Hm.out.below Hb3.out) ho3.bytes (by rw[List.length_append,VA.out,WQ.out];omega))
  clear k0 k1 hb3 pQ HB2 HD2 Hb2 ho3
  go_wp2_with fail
  refine (HSc.out).mono ?_
  rintro e w4 ⟨⟨v4,rfl,hv4⟩,hb4⟩
  have Hb4:=Lib.hid (Hb3.out.trans (hb4.mono Hb3.out.size))
  have HV4:=Lib.hid (hv4.Qr Hb3.out.size)
  clear hb4 HSc Hb3 hv4
  go_wp2_with fail
  go_ret2
  unfold fq
  rw[if_neg (by simp)]
  exact⟨⟨_,rfl,HV4.out⟩,Hb4.out⟩
 ·have hz1:(z != 0)=true:=by simpa using h0
  go_wp2_with fail
  go_ret2
  unfold fq
  rw[if_pos h0]
  exact⟨rfl,Hb2.out⟩
end Go.Proofs.YtabdianhoabhhaaGreatDoor.KJ
namespace Go.Proofs.YtabdianhoabhhaaGreatDoor.KJ
open Go Go.RowKit Go.Proofs.YtabdianhoabhhaaGreatDoor Go.Proofs.YtabdianhoabhhaaGreatDoor.Bits Go.Proofs.YtabdianhoabhhaaGreatDoor.Merge Go.Proofs.YtabdianhoabhhaaGreatDoor.Name Go.Proofs.YtabdianhoabhhaaGreatDoor.Zip Go.Proofs.YtabdianhoabhhaaGreatDoor.Worlds
set_option linter.unusedVariables false
set_option linter.unusedSimpArgs false
set_option linter.constructorNameAsVariable false
theorem DY {P:Program} {fn:Func} {p q:Tmp} {ty:TypeId} (h:fn.results=#[.cell p ty,.tmp q]) (tmps:Array Value) (w:World) (g:Nat) (t:TypeId) (cs:Array Value) (fr:Nat×Nat) (d:TypeDesc) (v:Value)
  (hp:tmps.getD p undef=.pointer (some ⟨g,0,none⟩)) (hq:tmps.getD q undef=v) (hg:w.heap[g]?=some (.cells cs t fr))
  (hu:P.underlying ty=some d) (hd:(match d with | .struct _ | .array _ _=>true | _=>false)=true) (hi:(P.info? ty).map (·.size)=some cs.size) :
  (results fn tmps).run P w=.ok (.tuple #[.agg cs,v]) w:=by
 have hp':tmps[p]?.getD undef=.pointer (some ⟨g,0,none⟩):=by simpa using hp
 have hq':tmps[q]?.getD undef=v:=by simpa using hq
 simp[results,h,hp',hq',asAddr,run_loadVar_row w g t ty cs fr d hg hu hd hi]
theorem GI {P:Program} {fn:Func} {p q r:Tmp} {ty:TypeId} (h:fn.results=#[.cell p ty,.tmp q,.tmp r]) (tmps:Array Value) (w:World) (g:Nat) (t:TypeId) (cs:Array Value) (fr:Nat×Nat) (d:TypeDesc) (v u:Value)
  (hp:tmps.getD p undef=.pointer (some ⟨g,0,none⟩)) (hq:tmps.getD q undef=v) (hr:tmps.getD r undef=u) (hg:w.heap[g]?=some (.cells cs t fr))
  (hu:P.underlying ty=some d) (hd:(match d with | .struct _ | .array _ _=>true | _=>false)=true) (hi:(P.info? ty).map (·.size)=some cs.size) :
  (results fn tmps).run P w=.ok (.tuple #[.agg cs,v,u]) w:=by
 have hp':tmps[p]?.getD undef=.pointer (some ⟨g,0,none⟩):=by simpa using hp
 have hq':tmps[q]?.getD undef=v:=by simpa using hq
 have hr':tmps[r]?.getD undef=u:=by simpa using hr
 simp[results,h,hp',hq',hr',asAddr,run_loadVar_row w g t ty cs fr d hg hu hd hi]
theorem Ct {w:World} {g:Nat} {t:TypeId} {a0 a1:Value} (h:AV w g t #[a0,a1]) (b0 b1:Value):AV ((w.setCell ⟨g,0,none⟩ b0).setCell ⟨g,1,none⟩ b1) g t #[b0,b1]:=by
 have h0:AV (w.setCell ⟨g,0,none⟩ b0) g t #[b0,a1]:=h.Ca 0 b0
 exact h0.Ca 1 b1
theorem CY {w0 w:World} {B g:Nat} (h:Below B w0 w) (hg:B≤g) (b0 b1:Value):Below B w0 ((w.setCell ⟨g,0,none⟩ b0).setCell ⟨g,1,none⟩ b1):=(h.setCell (p:=⟨g,0,none⟩) hg b0).setCell (p:=⟨g,1,none⟩) hg b1
theorem Ij {w:World} {base:Nat} {v:Value} {xs:List UInt8} {g:Nat} (h:BN w base v xs) (hg:g < base) (b0 b1:Value):BN ((w.setCell ⟨g,0,none⟩ b0).setCell ⟨g,1,none⟩ b1) base v xs:=
 ownsRow_setCell_below (ownsRow_setCell_below h (a:=⟨g,0,none⟩) hg b0) (a:=⟨g,1,none⟩) hg b1
def noD:Value:=.agg #[.slice none 0 0,.slice none 0 0]
def JL (r:Inf.Rd (List UInt8×List UInt8)) (w:World) (e:Ending) (w':World):Prop:=
  (match r with
   | .bad z=>e=.returned (.tuple #[noD,.int .i64 z])
   | .ok a=>∃ vs vw,e=.returned (.tuple #[.agg #[vs,vw],.int .i64 0])∧BN w' w.heap.size vs a.1∧BN w' w.heap.size vw a.2)∧Below w.heap.size w w'
def aB (r:Inf.Rd (List UInt8×Nat)) (w:World) (e:Ending) (w':World):Prop:=
  (match r with
   | .bad z=>e=.returned (.tuple #[noD,.int .i64 0,.int .i64 z])
   | .ok a=>∃ vs,e=.returned (.tuple #[.agg #[vs,.slice none 0 0],.int .i64 (a.2:Int),.int .i64 0])∧BN w' w.heap.size vs a.1)∧Below w.heap.size w w'
structure ABJ (w0 w:World) (g gi:Nat) (v1 v2:Value):Prop where
 Oh:AV w gi 52 #[v1,v2]
 out:AV w g 52 #[.slice none 0 0,.slice none 0 0]
 below:Below w0.heap.size w0 w
theorem ABJ.step {w0 w w':World} {g gi:Nat} {v1 v2:Value} (h:ABJ w0 w g gi v1 v2) (hb:Below w.heap.size w w'):ABJ w0 w' g gi v1 v2:=
 ⟨h.Oh.below hb h.Oh.lt,h.out.below hb h.out.lt,h.below.trans (hb.mono h.below.size)⟩
theorem PS (w:World) (v1 v2:Value):ABJ w ((w.alloc (.cells #[v1,v2] 52)).alloc (.cells #[.slice none 0 0,.slice none 0 0] 52)) (w.heap.size+1) w.heap.size v1 v2:=by
 have h2:=AV.new (w.alloc (.cells #[v1,v2] 52)) 52 #[.slice none 0 0,.slice none 0 0]
 simp only[World.size_alloc]at h2
 exact⟨(AV.new w _ _).alloc _,h2,((Below.refl _ _).alloc (Nat.le_refl _) _).alloc (by simp only[World.size_alloc];omega) _⟩
set_option maxRecDepth 100000 in
set_option maxHeartbeats 2000000 in
theorem QU (x:Dx) (w:World) (hm:ML w) (hd:Fq w x) (hsz:SzD x) :
  Calls Tryz.prog 36 #[dV x] w (JL (IL x.safe x.wait) w):=by
 obtain⟨vs,s,vw,t⟩:=x
 obtain⟨A1,c1,e1,_,_,_⟩:=(show BD w vs s from hd.safe)
 obtain⟨A2,c2,e2,_,_,_⟩:=(show BD w vw t from hd.wait)
 subst e1 e2
 have HD:=Lib.hid hd
 have Hm:=Lib.hid hm
 have Qu:=Lib.hid hsz
 have hck:=@Ic s t
 dsimp only
 generalize hns:s.length=ns at *
 generalize hnt:t.length=nt at *
 have VA:=Lib.hid hns
 have WQ:=Lib.hid hnt
 have HF:Hid (IL s t=if EK s t≠0 then .bad (EK s t) else .ok (s++t,[])):=Lib.hid rfl
 obtain⟨R,hR⟩:∃ R,R=IL s t:=⟨_,rfl⟩
 rw[←hR]at HF⊢
 obtain⟨z,hz⟩:∃ z,z=EK s t:=⟨_,rfl⟩
 rw[←hz]at hck HF
 have Hz:=Lib.hid hz
 have Hck:=Lib.hid hck
 clear hm hz hck hd hns hnt hsz hR
 unfold dV
 dsimp only
 go_enter Tryz.func36,Tryz.ntmps36
 go_upto_region 1 with fail
 have h2:=PS w (.slice A1 ns c1) (.slice A2 nt c2)
 have HD1:=Lib.hid (HD.out.below h2.below)
 have HT1:=Lib.hid h2
 clear h2 HD
 generalize (w.alloc (.cells #[.slice A1 ns c1,.slice A2 nt c2] 52)).alloc (.cells #[.slice none 0 0,.slice none 0 0] 52)=w1 at *
 have k0:w1.cell? ⟨w.heap.size,0,none⟩=some (.slice A1 ns c1):=HT1.out.Oh.cell 0
 have k1:w1.cell? ⟨w.heap.size,1,none⟩=some (.slice A2 nt c2):=HT1.out.Oh.cell 1
 have HC:=Lib.hid (UF _ w1 (Hm.out.below HT1.out.below) HD1.out Qu.out)
 unfold dV at HC
 dsimp only at HC
 rw[←Hz.out]at HC
 go_wp2_with fail
 refine (HC.out).mono ?_
 rintro e w2 ⟨rfl,hb2⟩
 have HT2:=Lib.hid (HT1.out.step hb2)
 have HD2:=Lib.hid (HD1.out.below hb2)
 clear k0 k1 hb2 HC HT1 HD1
 have hgg:w.heap.size+1 < w2.heap.size:=HT2.out.out.lt
 by_cases h0:z=0
 ·obtain⟨hlen,_,_⟩:=Hck.out.1 h0
  have HR:=Lib.hid (HF.out.trans (if_neg (fun h=>h h0)))
  subst h0
  obtain⟨hs,ht⟩:=HD2.out
  have k0:w2.cell? ⟨w.heap.size,0,none⟩=some (.slice A1 ns c1):=HT2.out.Oh.cell 0
  have k1:w2.cell? ⟨w.heap.size,1,none⟩=some (.slice A2 nt c2):=HT2.out.Oh.cell 1
  have pQ:=Lib.hid (R5 _ _ s t w2 hs ht (by rw[List.length_append,VA.out,WQ.out];omega))
  clear hs ht
  go_wp2_with fail
  refine (pQ.out).mono ?_
  rintro e w3 ⟨⟨v3,rfl,ho3⟩,hb3⟩
  obtain⟨A3,c3,rfl,_,_,_,_⟩:=ho3.slice
  obtain⟨L,hL⟩:∃ L,L=(s++t).length:=⟨_,rfl⟩
  rw[←hL]at ho3⊢
  clear hL
  have HT3:=Lib.hid (HT2.out.step hb3)
  have Xh:=Lib.hid (Ij ho3 hgg (.slice A3 L c3) (.slice none 0 0))
  have Jw:=Lib.hid (Ct HT3.out.out (.slice A3 L c3) (.slice none 0 0))
  have Ee:=Lib.hid (CY (g:=w.heap.size+1) HT3.out.below (by omega) (.slice A3 L c3) (.slice none 0 0))
  have q0:w3.cell? ⟨w.heap.size+1,0,none⟩=some (.slice none 0 0):=HT3.out.out.cell 0
  have q1:w3.cell? ⟨w.heap.size+1,1,none⟩=some (.slice none 0 0):=HT3.out.out.cell 1
  have z0:=HT3.out.out.frozen 0
  have z1:=HT3.out.out.frozen 1
  have hss:=HT2.out.below.size
  clear k0 k1 hb3 pQ HT2 HD2 ho3
  go_wp2_with fail
  refine bodyPost_ret (DY rfl _ _ (w.heap.size+1) 52 #[.slice A3 L c3,.slice none 0 0] (0,0) _ _ rfl rfl Jw.out Tryz.underlying52 rfl (by kernel_rfl)) rfl ?_
  unfold JL
  rw[HR.out]
  exact⟨⟨_,_,rfl,AZ Xh.out hss,BN.nil _ _⟩,Ee.out⟩
 ·have hz1:(z != 0)=true:=by simpa using h0
  have HR:=Lib.hid (HF.out.trans (if_pos h0))
  have Jw:=Lib.hid (Ct HT2.out.out (.slice none 0 0) (.slice none 0 0))
  have Ee:=Lib.hid (CY (g:=w.heap.size+1) HT2.out.below (by omega) (.slice none 0 0) (.slice none 0 0))
  have q0:w2.cell? ⟨w.heap.size+1,0,none⟩=some (.slice none 0 0):=HT2.out.out.cell 0
  have q1:w2.cell? ⟨w.heap.size+1,1,none⟩=some (.slice none 0 0):=HT2.out.out.cell 1
  have z0:=HT2.out.out.frozen 0
  have z1:=HT2.out.out.frozen 1
  go_wp2_with fail
  refine bodyPost_ret (DY rfl _ _ (w.heap.size+1) 52 #[.slice none 0 0,.slice none 0 0] (0,0) _ _ rfl rfl Jw.out Tryz.underlying52 rfl (by kernel_rfl)) rfl ?_
  unfold JL
  rw[HR.out]
  exact⟨rfl,Ee.out⟩
set_option maxRecDepth 100000 in
set_option maxHeartbeats 2000000 in
theorem aC (A:Option Addr) (n c:Nat) (b:List UInt8) (w:World) (hm:ML w) (hn:b.length=n) (hnc:n≤c) (hcm:c≤maxLen) (hA:BI w A b) :
  Calls Tryz.prog 38 #[.slice A n c] w (aB (D6 b) w):=by
 have HF:Hid (D6 b=if 40000 < n then .bad 2 else .ok (b.take (scan b).2,n - (scan b).2)):=Lib.hid (by rw[←hn];rfl)
 have hle:=Rl b
 rw[hn]at hle
 have Hn:=Lib.hid hn
 have HA:=Lib.hid hA
 have Hm:=Lib.hid hm
 obtain⟨R,hR⟩:∃ R,R=D6 b:=⟨_,rfl⟩
 rw[←hR]at HF⊢
 clear hm hn hA hR
 go_enter Tryz.func38,Tryz.ntmps38
 go_upto_region 1 with fail
 have HB1:=Lib.hid (AV.new w 52 #[.slice none 0 0,.slice none 0 0])
 have BA:Below w.heap.size w (w.alloc (.cells #[.slice none 0 0,.slice none 0 0] 52)):=(Below.refl _ _).alloc (Nat.le_refl _) _
 have HA1:=Lib.hid (BI.below HA.out BA)
 have Hb1:=Lib.hid BA
 clear BA HA
 generalize w.alloc (.cells #[.slice none 0 0,.slice none 0 0] 52)=w1 at *
 by_cases jy:40000 < n
 ·have xW:(40000:Int) < (n:Int):=by omega
  have HR:=Lib.hid (HF.out.trans (if_pos jy))
  have Jw:=Lib.hid (Ct HB1.out (.slice none 0 0) (.slice none 0 0))
  have Ee:=Lib.hid (CY (g:=w.heap.size) Hb1.out (by omega) (.slice none 0 0) (.slice none 0 0))
  have q0:w1.cell? ⟨w.heap.size,0,none⟩=some (.slice none 0 0):=HB1.out.cell 0
  have q1:w1.cell? ⟨w.heap.size,1,none⟩=some (.slice none 0 0):=HB1.out.cell 1
  have z0:=HB1.out.frozen 0
  have z1:=HB1.out.frozen 1
  go_wp2_with fail
  refine bodyPost_ret (GI rfl _ _ w.heap.size 52 #[.slice none 0 0,.slice none 0 0] (0,0) _ _ _ rfl rfl rfl Jw.out Tryz.underlying52 rfl (by kernel_rfl)) rfl ?_
  unfold aB
  rw[HR.out]
  exact⟨rfl,Ee.out⟩
 ·have xW:¬ (40000:Int) < (n:Int):=by omega
  have HR:=Lib.hid (HF.out.trans (if_neg jy))
  have HSc:=Lib.hid (aA A n c b w1 (Hm.out.below Hb1.out) Hn.out hnc hcm (by omega) HA1.out)
  clear HF
  generalize (scan b).2=u at *
  go_wp2_with fail
  refine (HSc.out).mono ?_
  rintro e w2 ⟨⟨v2,rfl,hv2⟩,hb2⟩
  have HB2:=Lib.hid (HB1.out.below hb2 HB1.out.lt)
  have HA2:=Lib.hid (BI.below HA1.out hb2)
  have Hb2:=Lib.hid (Hb1.out.trans (hb2.mono Hb1.out.size))
  have hgg:w.heap.size < w2.heap.size:=HB2.out.lt
  clear hb2 HSc HB1 HA1 Hb1 hv2
  have hcu:(u:Int)≤(c:Int):=by omega
  have hu0:(0:Int)≤(u:Int):=by omega
  have hnu:IntKind.i64.wrap ((n:Int) - (u:Int))=((n - u:Nat):Int):=by
   rw[show (n:Int) - (u:Int)=((n - u:Nat):Int) by omega];exact IntWalk.i64_in _ (by omega)
  have HCl:=Lib.hid (Sm.Ei A u c ((b.take u).map Eh) w2 (by rw[List.length_map,List.length_take,Hn.out];omega) (HA2.out.take u) (fun h=>by
   rcases Nat.eq_zero_or_pos u with h0 | h0
   ·exact h0
   ·obtain⟨a,o,e,_⟩:=HA2.out.get (k:=0) (by rw[Hn.out];omega)
    rw[h]at e;cases e) (Ia _) (by unfold maxLen;omega) (by omega))
  obtain⟨nu,AHO⟩:∃ nu,nu=n - u:=⟨_,rfl⟩
  rw[←AHO]at hnu HR
  clear AHO
  go_wp2_with fail
  refine (HCl.out).mono ?_
  rintro e w3 ⟨v3,rfl,ho3,hb3⟩
  obtain⟨A3,c3,rfl,_,_,_,_⟩:=Ad ho3
  have ho3:BN w3 w2.heap.size (.slice A3 u c3) (b.take u):=by
   unfold BN
   rw[List.length_take,Hn.out,Nat.min_eq_left hle]
   exact ho3
  have HB3:=Lib.hid (HB2.out.below hb3 HB2.out.lt)
  have Hb3:=Lib.hid (Hb2.out.trans (hb3.mono Hb2.out.size))
  have Xh:=Lib.hid (Ij ho3 hgg (.slice A3 u c3) (.slice none 0 0))
  have Jw:=Lib.hid (Ct HB3.out (.slice A3 u c3) (.slice none 0 0))
  have Ee:=Lib.hid (CY (g:=w.heap.size) Hb3.out (by omega) (.slice A3 u c3) (.slice none 0 0))
  have q0:w3.cell? ⟨w.heap.size,0,none⟩=some (.slice none 0 0):=HB3.out.cell 0
  have q1:w3.cell? ⟨w.heap.size,1,none⟩=some (.slice none 0 0):=HB3.out.cell 1
  have z0:=HB3.out.frozen 0
  have z1:=HB3.out.frozen 1
  have hss:=Hb2.out.size
  clear hb3 HCl HB2 HA2 ho3
  go_wp2_with fail
  refine bodyPost_ret (GI rfl _ _ w.heap.size 52 #[.slice A3 u c3,.slice none 0 0] (0,0) _ _ _ rfl rfl rfl Jw.out Tryz.underlying52 rfl (by kernel_rfl)) rfl ?_
  unfold aB
  rw[HR.out]
  exact⟨⟨_,rfl,AZ Xh.out hss⟩,Ee.out⟩
end Go.Proofs.YtabdianhoabhhaaGreatDoor.KJ
