/- texts joined: MergeBoth3 DEqF DEqualF DSame DFs ZipGet ZipNames ShelfEqS EqualS ZipFact. -/
import Derived.Test.YtabdianhoabhhaaGreatDoorZbQ1
import Derived.Test.YtabdianhoabhhaaGreatDoorZbQ8
import Derived.Test.YtabdianhoabhhaaGreatDoorProg
import Derived.WalkSpells
import Derived.Lib.AppendZeros
import Derived.Test.YtabdianhoabhhaaGreatDoorZbQ10
import Derived.Deep.RegionHeld3
import Derived.Deep.AppendLies
import Derived.Deep.DrawnRows
import Derived.Test.YtabdianhoabhhaaGreatDoorZbQ4
import Derived.Shelf.Slices.Equal
import Derived.Lib.SlBytesConst
namespace Go.Proofs.YtabdianhoabhhaaGreatDoor.Merge
open Go Go.RowKit Go.Proofs.YtabdianhoabhhaaGreatDoor Go.Proofs.YtabdianhoabhhaaGreatDoor.Name
set_option linter.unusedVariables false
theorem files_slice (A:Option Addr) (n c k:Nat) (hk:k≤n) (w:World):(Instr.slice 22 (.slice A n c) (some (.int .i64 (k:Int))) none none).run Tryz.prog w=.ok (sliced A k n c 5) w:=by
 have ht:Tryz.prog.underlying 22=some (.slice (Tryz.prog.elem 22)):=by kernel_rfl
 have he:Tryz.prog.elem 22=36:=by kernel_rfl
 rw[run_slice_l _ _ _ _ _ ht .i64 (k:Int) (by omega) (by omega),he,Tryz.sizeOf36]
 simp[Result.andThen]
def adv (A:Option Addr) (c:Nat):Option Addr:=if c=1 then A else A.map (·.add 5)
theorem files_tail {w:World} {A:Option Addr} {n c:Nat} {x:Fx} {l:List Fx} (h:IsFiles w (.slice A n c) (x :: l)) :
  (∀ w',(Instr.slice 22 (.slice A n c) (some (.int .i64 1)) none none).run Tryz.prog w'=.ok (.slice (adv A c) (n - 1) (c - 1)) w')∧IsFiles w (.slice (adv A c) (n - 1) (c - 1)) l∧n=l.length+1:=by
 obtain⟨A0,c0,e,h1,h2,h3,h4,h5⟩:=h
 injection e with e1 e2 e3
 subst e1 e2 e3
 refine⟨fun w'=>?_,?_,rfl⟩
 ·have:=files_slice A (x :: l).length c 1 (by simp) w'
  rw[show ((1:Nat):Int)=1 from rfl]at this
  rw[this]
  rfl
 ·refine⟨adv A c,c - 1,by simp,by simp at h1;omega,by omega,?_,?_,fun y hy=>h5 y (by simp[hy])⟩
  ·by_cases hl:l=[]
   ·subst hl;exact SlAt.nil
   ·have hlen:=List.length_pos_iff.2 hl
    obtain⟨b,o,e,_⟩:=h3 (by rw[fCs_len];simp)
    subst e
    have hc:¬ c=1:=by simp at h1;omega
    unfold adv
    rw[if_neg hc]
    show SlAt w (some ((⟨b,o,none⟩:Addr).add 5)) (l.flatMap fC)
    rw[addr_add]
    have:=h3.drop 5
    rw[List.flatMap_cons,List.drop_append_of_le_length (by rw[fC_len];exact Nat.le_refl _),List.drop_of_length_le (by rw[fC_len];exact Nat.le_refl _)]at this
    exact this
  ·intro e
   unfold adv at e
   split at e
   ·cases h4 e
   ·cases A with
    | none=>cases h4 rfl
    | some a=>cases e
end Go.Proofs.YtabdianhoabhhaaGreatDoor.Merge
namespace Go.Proofs.YtabdianhoabhhaaGreatDoor.ConcatF
open Go Go.RowKit Go.Proofs.YtabdianhoabhhaaGreatDoor
set_option linter.unusedVariables false
theorem ty:SliceTy Tryz.prog 22 36 ((.agg #[.string ByteArray.empty,.slice none 0 0,.int .i64 0,.int .i64 0,.bool false])) 5 64:=⟨Tryz.underlying22,by kernel_rfl,rfl,by omega⟩
theorem zeroCells_size (z:Array Value) (n:Nat):(Builtin.zeroCells z n).size=n*z.size:=by simp[Builtin.zeroCells]
set_option maxHeartbeats 400000 in
theorem grow_any (n:Nat) (w:World) (hn:n*64≤140737488355328) :
  Calls Tryz.prog 115 #[.slice none 0 0,.int .i64 (n:Int)] w fun e w'=>∃ v,e=.returned v∧w'.ownsRow w.heap.size 36 5 v 0 []∧Below w.heap.size w w':=by
 by_cases h0:n=0
 ·subst h0
  go_enter Tryz.func115,Tryz.ntmps115
  go_wp2_with fail
  go_ret
  exact⟨_,rfl,World.ownsRow_nil _ _ _ _,Below.refl _ _⟩
 ·obtain⟨ht,i,hi,hz,hsize,hby,hzs,hsz⟩:=ty.parts
  have hpos:0 < n:=by omega
  have h1:¬ ((n:Int) < 0):=by omega
  have hp:(0:Int) < (n:Int):=by omega
  have hb63:(n:Int)≤140737488355328:=by omega
  have hrun:=Lib.run_append_nil_zeros (P:=Tryz.prog) w 22 3 22 36 i ((.agg #[.string ByteArray.empty,.slice none 0 0,.int .i64 0,.int .i64 0,.bool false])) .i64 .i64 ht Tryz.underlying3 hi hz n hpos (by omega) (by omega) (by rw[hby];omega)
  have hcap:=grownCap_ge w n 0 36
  have hcm:=grownCap_le_maxLen w n 0 36 (by unfold maxLen;omega)
  have hsz2:(Builtin.zeroCells (Value.cells ((.agg #[.string ByteArray.empty,.slice none 0 0,.int .i64 0,.int .i64 0,.bool false]))) n++Builtin.zeroCells (Value.cells ((.agg #[.string ByteArray.empty,.slice none 0 0,.int .i64 0,.int .i64 0,.bool false]))) (grownCap w n 0 36 - n)).size=grownCap w n 0 36*5:=by
   rw[Array.size_append,zeroCells_size,zeroCells_size,hzs,←Nat.add_mul,Nat.add_sub_cancel' hcap]
  have hblk:(w.drew.alloc (.cells (Builtin.zeroCells (Value.cells ((.agg #[.string ByteArray.empty,.slice none 0 0,.int .i64 0,.int .i64 0,.bool false]))) n++Builtin.zeroCells (Value.cells ((.agg #[.string ByteArray.empty,.slice none 0 0,.int .i64 0,.int .i64 0,.bool false]))) (grownCap w n 0 36 - n)) 36)).heap[w.heap.size]?=some (.cells (Builtin.zeroCells (Value.cells ((.agg #[.string ByteArray.empty,.slice none 0 0,.int .i64 0,.int .i64 0,.bool false]))) n++Builtin.zeroCells (Value.cells ((.agg #[.string ByteArray.empty,.slice none 0 0,.int .i64 0,.int .i64 0,.bool false]))) (grownCap w n 0 36 - n)) 36 (0,0)):=heap_alloc_new w.drew _
  have hbel:Below w.heap.size w (w.drew.alloc (.cells (Builtin.zeroCells (Value.cells ((.agg #[.string ByteArray.empty,.slice none 0 0,.int .i64 0,.int .i64 0,.bool false]))) n++Builtin.zeroCells (Value.cells ((.agg #[.string ByteArray.empty,.slice none 0 0,.int .i64 0,.int .i64 0,.bool false]))) (grownCap w n 0 36 - n)) 36)):=((Below.refl _ _).drew).alloc (Nat.le_refl _) _
  generalize (w.drew.alloc (.cells (Builtin.zeroCells (Value.cells ((.agg #[.string ByteArray.empty,.slice none 0 0,.int .i64 0,.int .i64 0,.bool false]))) n++Builtin.zeroCells (Value.cells ((.agg #[.string ByteArray.empty,.slice none 0 0,.int .i64 0,.int .i64 0,.bool false]))) (grownCap w n 0 36 - n)) 36))=W at *
  generalize (Builtin.zeroCells (Value.cells ((.agg #[.string ByteArray.empty,.slice none 0 0,.int .i64 0,.int .i64 0,.bool false]))) n++Builtin.zeroCells (Value.cells ((.agg #[.string ByteArray.empty,.slice none 0 0,.int .i64 0,.int .i64 0,.bool false]))) (grownCap w n 0 36 - n))=cs at *
  generalize grownCap w n 0 36=cap at *
  have Hrun:=Lib.hid hrun
  have Hsz:=Lib.hid hsz2
  have Hblk:=Lib.hid hblk
  have Hbel:=Lib.hid hbel
  have hcm2:cap≤9223372036854775807:=by unfold maxLen at hcm;omega
  have Hcm:=Lib.hid hcm
  clear hrun hsz2 hblk hbel hi hz hsize hby hzs hsz ht hcm
  go_enter Tryz.func115,Tryz.ntmps115
  go_wp2_with (at_builtin;refine Lib.wpList_append_run _ rfl (.tmp 20) (.tmp 21) _ _ rfl _ _ rfl rfl _ _ Hrun.out ?_)
  go_ret
  exact⟨_,rfl,own_zero _ _ _ _ w.heap.size cap cs (Nat.le_refl _) Hblk.out Hcm.out Hsz.out,Hbel.out⟩
def total (rows:List (Value×Nat×List Value)):Nat:=(rows.map (·.2.1)).sum
def cellsOf (rows:List (Value×Nat×List Value)):List Value:=(rows.map (·.2.2)).flatten
theorem total_snoc (rows:List (Value×Nat×List Value)) (k:Nat) (h:k < rows.length):total (rows.take (k+1))=total (rows.take k)+rows[k].2.1:=by
 unfold total;rw[take_snoc _ _ h]
 simp only[List.map_append,List.map_cons,List.map_nil,List.sum_append,List.sum_cons,List.sum_nil,Nat.add_zero]
theorem cellsOf_snoc (rows:List (Value×Nat×List Value)) (k:Nat) (h:k < rows.length):cellsOf (rows.take (k+1))=cellsOf (rows.take k)++rows[k].2.2:=by
 unfold cellsOf;rw[take_snoc _ _ h]
 simp only[List.map_append,List.map_cons,List.map_nil,List.flatten_append,List.flatten_cons,List.flatten_nil,List.append_nil]
theorem sum_take_le (l:List Nat) (k:Nat):(l.take k).sum≤l.sum:=by
 induction l generalizing k with
 | nil=>simp
 | cons a l ih=>cases k with
  | zero=>simp
  | succ k=>simp only[List.take_succ_cons,List.sum_cons];have:=ih k;omega
theorem total_le (rows:List (Value×Nat×List Value)) (k:Nat):total (rows.take k)≤total rows:=by
 unfold total;rw[List.map_take];exact sum_take_le _ _
set_option maxHeartbeats 800000 in
theorem concat_any (A:Option Addr) (m c:Nat) (rows:List (Value×Nat×List Value)) (w:World) (hm:rows.length=m) (hml:m≤4611686018427387904) (ha:SlAt w A (rows.map (·.1)))
  (hrows:∀ r∈rows,IsSl w 5 r.1 r.2.1 r.2.2) (h1:∀ r∈rows,∀ u∈r.2.2,u.oneCell'=true) (ht:total rows*64≤140737488355328) :
  Calls Tryz.prog 77 #[.slice A m c] w fun e w'=>∃ v,e=.returned v∧w'.ownsRow w.heap.size 36 5 v (total rows) (cellsOf rows)∧Below w.heap.size w w':=by
 have Hm:=Lib.hid hm
 have Ha:=Lib.hid ha
 have Hrows:=Lib.hid hrows
 have H1:=Lib.hid h1
 have Ht:=Lib.hid ht
 clear hm ha hrows h1 ht
 go_enter Tryz.func77,Tryz.ntmps77
 go_wp2_with fail
 go_loop [3,11] (fun s i=>∃ k:Nat,k≤m∧i=.int .i64 k∧s=.int .i64 (total (rows.take k):Nat)) (fun _ i=>m - (intOf i).toNat)
 case atStart=>exact⟨0,Nat.zero_le _,rfl,rfl⟩
 case round=>
  obtain⟨k,hk,rfl,rfl⟩:=hrel
  by_cases hlt:k < m
  ·have hkr:k < rows.length:=by rw[Hm.out];exact hlt
   obtain⟨b,o,rfl,hcell⟩:=Ha.out.get (k:=k) (by simpa using hkr)
   obtain⟨B,cb,hv,hl1,hl2,hl3,hB,hB0⟩:=Hrows.out rows[k] (List.getElem_mem hkr)
   simp only[List.getElem_map]at hcell
   rw[hv]at hcell
   have Hs:=Lib.hid (total_snoc rows k hkr)
   have htl:=total_le rows (k+1)
   rw[Hs.out]at htl
   have hb1:total (rows.take k)+rows[k].2.1≤140737488355328:=by have:=Ht.out;omega
   have hnn:0≤((total (rows.take k):Nat):Int)+((rows[k].2.1:Nat):Int):=by omega
   clear htl hB hB0 hl3 hv
   generalize total (rows.take k)=s0 at *
   generalize rows[k].2.1=n0 at *
   go_wp2_with fail
   go_round
   case rel=>exact⟨k+1,by omega,by go_num,by rw[Hs.out];go_num⟩
   case measure=>simp[intOf];omega
  ·have hk2:k=m:=by omega
   have Hall:Hid (rows.take k=rows):=Lib.hid (List.take_of_length_le (by rw[Hm.out];omega))
   rw[Hall.out]
   have htt:total rows≤140737488355328:=by have:=Ht.out;omega
   obtain⟨T,hT⟩:∃ T,T=total rows:=⟨_,rfl⟩
   rw[←hT]at htt⊢
   have HT:=Lib.hid hT
   clear hT Hall hk2
   go_wp2_with fail
   refine (grow_any T _ (by rw[HT.out];exact Ht.out)).mono ?_
   rintro e w1 ⟨v1,rfl,hown1,hb1⟩
   have Ho:=Lib.hid hown1
   have Hb:=Lib.hid hb1
   clear hown1 hb1
   go_wp2_with fail
   go_loopw [6,27] (fun s i wr=>∃ k:Nat,k≤m∧i=.int .i64 k∧wr.ownsRow w.heap.size 36 5 s (total (rows.take k)) (cellsOf (rows.take k))∧Below w.heap.size w wr) (fun _ i _=>m - (intOf i).toNat)
   case atStart=>exact⟨0,Nat.zero_le _,rfl,Ho.out,Hb.out⟩
   case round=>
    obtain⟨k,hk,rfl,hown,hbr⟩:=hrel
    rename_i v3 _ _ _ _ _ _ _ _ _
    have How:=Lib.hid hown
    have Hbr:=Lib.hid hbr
    by_cases hlt:k < m
    ·have hkr:k < rows.length:=by rw[Hm.out];exact hlt
     obtain⟨b,o,rfl,hcell⟩:=(Ha.out.below hbr).get (k:=k) (by simpa using hkr)
     obtain⟨B,cb,hv,hl1,hl2,hl3,hB,hB0⟩:=(Hrows.out rows[k] (List.getElem_mem hkr)).below hbr
     simp only[List.getElem_map]at hcell
     rw[hv]at hcell
     have Hs:=Lib.hid (total_snoc rows k hkr)
     have Hcs:=Lib.hid (cellsOf_snoc rows k hkr)
     have htl:=total_le rows (k+1)
     rw[Hs.out]at htl
     have hb1:total (rows.take k)+rows[k].2.1≤maxLen∧(total (rows.take k)+rows[k].2.1)*64≤140737488355328:=by
      have:=Ht.out;unfold maxLen;omega
     have HB:=Lib.hid hB
     have HB0:=Lib.hid hB0
     have Hl3:=Lib.hid hl3
     have Hone:=Lib.hid (H1.out rows[k] (List.getElem_mem hkr))
     have Hb1:=Lib.hid hb1
     clear htl hv hB hB0 hl3 hb1 hown hbr
     go_wp2_with (at_builtin;refine wpList_appb rfl (.tmp 31) (.tmp 32) _ rfl 36 _ 5 64 ty _ _ _ rfl How.out Hbr.out B _ cb _ rfl Hl3.out HB.out Hone.out HB0.out Hb1.out.1 Hb1.out.2 ?_;intro v4 w4 hown4 hb4 _ _;have How4:=Lib.hid hown4;have Hb4:=Lib.hid hb4;clear hown4 hb4)
     go_roundw
     case rel=>exact⟨k+1,by omega,by go_num,by rw[Hs.out,Hcs.out];exact How4.out,Hb4.out⟩
     case measure=>simp[intOf];omega
    ·have Hall:Hid (rows.take k=rows):=Lib.hid (List.take_of_length_le (by rw[Hm.out];omega))
     go_wp2_with fail
     go_ret
     exact⟨_,rfl,by have:=How.out;rw[Hall.out]at this;exact this,Hbr.out⟩
end Go.Proofs.YtabdianhoabhhaaGreatDoor.ConcatF
namespace Go.Proofs.YtabdianhoabhhaaGreatDoor.Merge
open Go Go.RowKit Go.Proofs.YtabdianhoabhhaaGreatDoor Go.Proofs.YtabdianhoabhhaaGreatDoor.Name
set_option linter.unusedVariables false
theorem step_app {P:Program} {ops:Array Oper} {o:Oper} {a:Act} {w:World} {K:Act→World→Prop} {Q:Exit→Act→World→Prop} {E:Prop} (hgd:o.guard=none) (s x:Operand) (t:TypeId)
  (hop:o.op=.call { callee:=.builtin .append,args:=#[s,x],argTypes:=#[t,t] })
  (base:Nat) (e:TypeId) (z:Value) (size bytes:Nat) (hT:SliceTy P t e z size bytes)
  (v:Value) (n:Nat) (xs:List Value) (hs:a.eval s=v) (hown:w.ownsRow base e size v n xs)
  (A:Option Addr) (m c:Nat) (news:List Value) (hx:a.eval x=.slice A m c) (hl:news.length=m*size) (hr:SlAt w A news) (h1:∀ u∈news,u.oneCell'=true)
  (hA:A=none→m=0) (h63:n+m≤maxLen) (hbytes:(n+m)*bytes≤140737488355328) (hbase:base≤w.heap.size)
  (hK:∀ v' w',w'.ownsRow base e size v' (n+m) (xs++news)→w.grownBy w' v.ownBlock→K (a.put o.dst v') w') :
  if Region.wanted o (yielded ops a.tmps)=true then Oper.wp P o a w K Q else E:=by
 have hw:Region.wanted o (yielded ops a.tmps)=true:=by simp[Region.wanted,hgd]
 rw[if_pos hw]
 obtain⟨v',w',hrun,h2,h3,h4⟩:=run_app (P:=P) w base t o.type e z size bytes hT v n xs hown A m c news hl hr h1 hA h63 hbytes hbase
 unfold Oper.wp
 simp[execOp,hop,resolve,invoke,builtin,hs,hx,hrun,Result.andThen]
 exact hK v' w' h2 h3
def BothPost (am bm:List Fl) (w:World) (e:Ending) (w':World):Prop:=
 ∃ v l',e=.returned (.tuple #[v,.int .i64 (bothR am bm).1])∧OwnFs w' w.heap.size v l'∧l'.map Prod.fst=(bothR am bm).2∧Below w.heap.size w w'
theorem bothR_1 {am bm:List Fl} (h:chkF am≠0):bothR am bm=(chkF am,[]):=by unfold bothR;rw[if_pos h]
theorem bothR_2 {am bm:List Fl} (h:chkF am=0) (h2:chkF bm≠0):bothR am bm=(chkF bm,[]):=by unfold bothR;rw[if_neg (by simpa using h),if_pos h2]
theorem bothR_3 {am bm:List Fl} (h:chkF am=0) (h2:chkF bm=0) (h3:12 < (bothL am bm).length):bothR am bm=(11,[]):=by unfold bothR;rw[if_neg (by simpa using h),if_neg (by simpa using h2),if_pos h3]
theorem maxF_lt {a b:Fl} (h:later a b < 0):maxF a b=b:=by unfold maxF;rw[if_pos h]
theorem maxF_ge {a b:Fl} (h:¬ later a b < 0):maxF a b=a:=by unfold maxF;rw[if_neg h]
theorem keep5 {w w':World} (hb:Below w.heap.size w w') {p0 p1 p2 p3 p4:Addr} {v0 v1 v2 v3 v4:Value} (h:w.cell? p0=some v0∧w.cell? p1=some v1∧w.cell? p2=some v2∧w.cell? p3=some v3∧w.cell? p4=some v4) :
  w'.cell? p0=some v0∧w'.cell? p1=some v1∧w'.cell? p2=some v2∧w'.cell? p3=some v3∧w'.cell? p4=some v4:=
 ⟨cell_below hb h.1,cell_below hb h.2.1,cell_below hb h.2.2.1,cell_below hb h.2.2.2.1,cell_below hb h.2.2.2.2⟩
theorem mem_l {α:Type} {os ar br:List α} {x:α} (u:α) (hu:u∈os++[x]∨u∈ar∨u∈br):u∈os∨u∈x :: ar∨u∈br:=by
 simp at hu⊢;rcases hu with (h | h) | h | h <;> simp[h]
theorem mem_r {α:Type} {os ar br:List α} {y:α} (u:α) (hu:u∈os++[y]∨u∈ar∨u∈br):u∈os∨u∈ar∨u∈y :: br:=by
 simp at hu⊢;rcases hu with (h | h) | h | h <;> simp[h]
theorem mem_b {α:Type} {os ar br:List α} {x y f:α} (hf:f=x∨f=y) (u:α) (hu:u∈os++[f]∨u∈ar∨u∈br):u∈os∨u∈x :: ar∨u∈y :: br:=by
 simp at hu⊢;rcases hu with (h | h) | h | h
 ·simp[h]
 ·rcases hf with rfl | rfl <;> simp[h]
 ·simp[h]
 ·simp[h]
def lenV:Value→Nat | .slice _ n _=>n | _=>0
theorem tyF:SliceTy Tryz.prog 22 36 (.agg #[.string ByteArray.empty,.slice none 0 0,.int .i64 0,.int .i64 0,.bool false]) 5 64:=⟨Tryz.underlying22,by kernel_rfl,rfl,by omega⟩
set_option maxRecDepth 100000 in
set_option maxHeartbeats 4000000 in
theorem both_any (v1 v2:Value) (a b:List Fx) (w:World) (hm:ML w) (h1:IsFiles w v1 a) (h2:IsFiles w v2 b) :
  Calls Tryz.prog 55 #[v1,v2] w (BothPost (a.map Prod.fst) (b.map Prod.fst) w):=by
 have HC1:=Lib.hid (fun w' (hb:Below w.heap.size w w')=>check_any v1 a w' (hm.below hb) (h1.below hb))
 have HC2:=Lib.hid (fun w' (hb:Below w.heap.size w w')=>check_any v2 b w' (hm.below hb) (h2.below hb))
 have H1:=Lib.hid h1
 have H2:=Lib.hid h2
 obtain⟨A,c,rfl,_⟩:=h1
 obtain⟨B,d,rfl,_⟩:=h2
 obtain⟨n,hn⟩:∃ n,n=a.length:=⟨_,rfl⟩
 obtain⟨m,hm'⟩:∃ m,m=b.length:=⟨_,rfl⟩
 have Hn:=Lib.hid hn
 have Hm:=Lib.hid hm'
 have HR1:=Lib.hid (bothR_1 (am:=a.map Prod.fst) (bm:=b.map Prod.fst))
 have HR2:=Lib.hid (bothR_2 (am:=a.map Prod.fst) (bm:=b.map Prod.fst))
 have HR3:=Lib.hid (bothR_3 (am:=a.map Prod.fst) (bm:=b.map Prod.fst))
 have HR4:=Lib.hid (bothR_of (a:=a.map Prod.fst) (b:=b.map Prod.fst))
 have HK1:Hid (chkF (a.map Prod.fst)=0→a.length≤12∧∀ x∈a,x.1.bytes.length≤3000):=Lib.hid (fun h=>by
  rw[chkF_ok]at h
  refine⟨by have:=h.1;rwa [List.length_map]at this,fun x hx=>?_⟩
  have:=h.2.1 x.1 (List.mem_map_of_mem hx)
  unfold fileE at this
  split at this
  ·rename_i g;exact absurd this g
  ·split at this
   ·simp at this
   ·omega)
 have HK2:Hid (chkF (b.map Prod.fst)=0→b.length≤12∧∀ x∈b,x.1.bytes.length≤3000):=Lib.hid (fun h=>by
  rw[chkF_ok]at h
  refine⟨by have:=h.1;rwa [List.length_map]at this,fun x hx=>?_⟩
  have:=h.2.1 x.1 (List.mem_map_of_mem hx)
  unfold fileE at this
  split at this
  ·rename_i g;exact absurd this g
  ·split at this
   ·simp at this
   ·omega)
 rw[←hn]at HC1 H1⊢
 rw[←hm']at HC2 H2⊢
 clear hm hn hm'
 unfold BothPost
 generalize hR:bothR (a.map Prod.fst) (b.map Prod.fst)=R at *
 clear hR
 have i0:∀ w,(Instr.index 124 (.agg #[.slice A n c,.slice B m d]) (.int .i64 0)).run Tryz.prog w=.ok (.slice A n c) w:=fun _=>by kernel_rfl
 have i1:∀ w,(Instr.index 124 (.agg #[.slice A n c,.slice B m d]) (.int .i64 1)).run Tryz.prog w=.ok (.slice B m d) w:=fun _=>by kernel_rfl
 go_enter Tryz.func55,Tryz.ntmps55
 go_wp2_with fail
 go_loopw [15] (fun i wx=>∃ k:Nat,k≤2∧i=.int .i64 (k:Int)∧Below w.heap.size w wx∧(1≤k→chkF (a.map Prod.fst)=0)∧(2≤k→chkF (b.map Prod.fst)=0)) (fun i _=>2 - (intOf i).toNat)
 case atStart=>exact⟨0,Nat.zero_le _,rfl,Below.refl _ _,by simp,by simp⟩
 case round=>
  obtain⟨k,hk,rfl,hb,h1,h2⟩:=hrel
  have Hb:=Lib.hid hb
  have K1:=Lib.hid h1
  have K2:=Lib.hid h2
  clear hb h1 h2
  rcases (by omega:k=0∨k=1∨k=2) with rfl | rfl | rfl
  ·go_wp2_with fail
   refine (HC1.out _ Hb.out).mono ?_
   rintro e wx ⟨rfl,hbx⟩
   have Hbx:=Lib.hid (stepN Hb.out hbx)
   clear hbx
   by_cases he:chkF (a.map Prod.fst)=0
   ·rw[he]
    go_wp2_with fail
    go_roundw
    case rel=>exact⟨1,by omega,by go_num,Hbx.out,fun _=>he,by simp⟩
    case measure=>simp[intOf]
   ·have HU:=Lib.hid (HR1.out he)
    generalize chkF (a.map Prod.fst)=z at *
    have hz1:(z != 0)=true:=by simpa using he
    go_wp2_with fail
    go_ret2
    exact⟨_,[],by rw[HU.out];rfl,OwnFs.nil _ _,by rw[HU.out];rfl,Hbx.out⟩
  ·have hs0:=K1.out (Nat.le_refl _)
   go_wp2_with fail
   refine (HC2.out _ Hb.out).mono ?_
   rintro e wx ⟨rfl,hbx⟩
   have Hbx:=Lib.hid (stepN Hb.out hbx)
   clear hbx
   by_cases he:chkF (b.map Prod.fst)=0
   ·rw[he]
    go_wp2_with fail
    go_roundw
    case rel=>exact⟨2,by omega,by go_num,Hbx.out,fun _=>hs0,fun _=>he⟩
    case measure=>simp[intOf]
   ·have HU:=Lib.hid (HR2.out hs0 he)
    generalize chkF (b.map Prod.fst)=z at *
    have hz1:(z != 0)=true:=by simpa using he
    go_wp2_with fail
    go_ret2
    exact⟨_,[],by rw[HU.out];rfl,OwnFs.nil _ _,by rw[HU.out];rfl,Hbx.out⟩
  ·have hca:=K1.out (by omega)
   have hcb:=K2.out (by omega)
   have HR5:=Lib.hid (HR3.out hca hcb)
   have HR6:=Lib.hid (HR4.out hca hcb)
   obtain⟨ha12,_⟩:=HK1.out hca
   obtain⟨hb12,_⟩:=HK2.out hcb
   have HBd:Hid (∀ x:Fx,(x∈a∨x∈b)→x.1.bytes.length≤3000):=Lib.hid (fun x hx=>by
    rcases hx with h | h
    ·exact (HK1.out hca).2 x h
    ·exact (HK2.out hcb).2 x h)
   clear HR1 HR2 HR3 HR4 HC1 HC2 hca hcb K1 K2 HK1 HK2
   rw[show ((2:Nat):Int)=(2:Int) from rfl]
   go_wp2_with fail
   go_loopw [0,1,9] (fun va vb vo wx=>∃ ar br os:List Fx,IsFiles w va ar∧IsFiles w vb br∧wx.ownsRow w.heap.size 36 5 vo os.length (os.flatMap fC)∧(∀ x∈os,FileAt w x)∧
    (∀ x:Fx,(x∈os∨x∈ar∨x∈br)→(x∈a∨x∈b))∧
    bothL (a.map Prod.fst) (b.map Prod.fst)=os.map Prod.fst++bothL (ar.map Prod.fst) (br.map Prod.fst)∧os.length+ar.length+br.length≤24∧Below w.heap.size w wx) (fun va vb _ _=>lenV va+lenV vb)
   case atStart=>exact⟨a,b,[],H1.out,H2.out,World.ownsRow_nil _ _ _ _,by simp,by simp,rfl,by simp;omega,Hb.out⟩
   case round=>
    obtain⟨ar,br,os,hfa,hfb,hown,hos,hmem,heq,hlen,hbx⟩:=hrel
    have Hfa:=Lib.hid hfa
    have Hfb:=Lib.hid hfb
    have Hown:=Lib.hid hown
    have Hos:=Lib.hid hos
    have Hmem:=Lib.hid hmem
    have Heq:=Lib.hid heq
    have Hlen:=Lib.hid hlen
    have Hbx:=Lib.hid hbx
    clear hfa hfb hown hos hmem heq hlen hbx Hb
    obtain⟨A1,c1,rfl,ha1,ha2,hsa,ha0,hda⟩:=Hfa.out
    obtain⟨B1,d1,rfl,hb1,hb2,hsb,hb0,hdb⟩:=Hfb.out
    have Hsa:=Lib.hid hsa
    have Hsb:=Lib.hid hsb
    have Ha0:=Lib.hid ha0
    have Hb0:=Lib.hid hb0
    have Hda:=Lib.hid hda
    have Hdb:=Lib.hid hdb
    have Hca:=Lib.hid (And.intro ha1 ha2)
    have Hcb:=Lib.hid (And.intro hb1 hb2)
    clear hsa hsb ha0 hb0 hda hdb ha1 ha2 hb1 hb2
    by_cases hz:ar=[]∨br=[]
    ·obtain⟨Ao,co,rfl,_,_,_,_⟩:=own_slat Hown.out
     have Hfs:Hid (∀ w',Below w.heap.size w w'→∀ x∈os++ar++br,FileAt w' x):=Lib.hid (fun w' hb x hx=>by
      rcases List.mem_append.1 hx with hx | hx
      ·rcases List.mem_append.1 hx with hx | hx
       ·exact (Hos.out x hx).below hb
       ·exact (Hda.out x hx).below hb
      ·exact (Hdb.out x hx).below hb)
     have Hbl:Hid (∀ x∈os++ar++br,x.1.bytes.length≤3000):=Lib.hid (fun x hx=>by
      refine HBd.out x (Hmem.out x ?_)
      simpa [or_assoc] using hx)
     have Heq2:Hid (bothL (a.map Prod.fst) (b.map Prod.fst)=(os++ar++br).map Prod.fst):=Lib.hid (by
      rw[Heq.out,List.map_append,List.map_append,List.append_assoc]
      congr 1
      rcases hz with h | h
      ·rw[h];simp[both_nil]
      ·rw[h];simp[both_nil'])
     obtain⟨an,han⟩:∃ an,an=ar.length:=⟨_,rfl⟩
     obtain⟨bn,hbn⟩:∃ bn,bn=br.length:=⟨_,rfl⟩
     have Han:=Lib.hid han
     have Hbn:=Lib.hid hbn
     rw[←han]at Hca⊢
     rw[←hbn]at Hcb⊢
     clear han hbn
     have hz2:an=0∨(0 < an∧bn=0):=by
      rcases hz with h | h
      ·left;rw[Han.out,h];rfl
      ·rcases Nat.eq_zero_or_pos an with h2 | h2
       ·exact .inl h2
       ·exact .inr ⟨h2,by rw[Hbn.out,h];rfl⟩
     clear hz
     have HC:Hid (∀ w',Below wr.heap.size wr w'→SlAt w' (some ⟨wr.heap.size,0,none⟩) [.slice Ao os.length co,.slice A1 an c1,.slice B1 bn d1]→Calls Tryz.prog 77 #[.slice (some ⟨wr.heap.size,0,none⟩) 3 3] w' fun e w2=>∃ v,e=.returned v∧IsFiles w2 v (os++ar++br)∧Below w'.heap.size w' w2):=Lib.hid (fun w' hb hs=>by
      have hbw:=Hbx.out.trans (hb.mono Hbx.out.size)
      refine (ConcatF.concat_any (some ⟨wr.heap.size,0,none⟩) 3 3 [(.slice Ao os.length co,os.length,os.flatMap fC),(.slice A1 an c1,an,ar.flatMap fC),(.slice B1 bn d1,bn,br.flatMap fC)] w' rfl (by omega) hs ?_ ?_ ?_).mono ?_
      ·intro r hr
       simp only[List.mem_cons,List.not_mem_nil,or_false]at hr
       rcases hr with rfl | rfl | rfl
       ·obtain⟨A9,c9,h1,h2,h3,h4,h5⟩:=own_slat Hown.out
        exact⟨A9,c9,h1,h2,h3,fCs_len _,SlAt.below h4 hb,h5⟩
       ·exact⟨A1,c1,rfl,Hca.out.1,Hca.out.2,by rw[fCs_len,Han.out],SlAt.below Hsa.out hbw,fun e=>by rw[Han.out,Ha0.out e];rfl⟩
       ·exact⟨B1,d1,rfl,Hcb.out.1,Hcb.out.2,by rw[fCs_len,Hbn.out],SlAt.below Hsb.out hbw,fun e=>by rw[Hbn.out,Hb0.out e];rfl⟩
      ·intro r hr
       simp only[List.mem_cons,List.not_mem_nil,or_false]at hr
       rcases hr with rfl | rfl | rfl <;> exact fCs_one _
      ·simp only[ConcatF.total,List.map_cons,List.map_nil,List.sum_cons,List.sum_nil]
       have h1:=Hlen.out
       have h2:=Han.out
       have h3:=Hbn.out
       omega
      ·rintro e w2 ⟨v,rfl,hown2,hb2⟩
       refine⟨v,rfl,own_files (base:=w'.heap.size) (n:=ConcatF.total [(.slice Ao os.length co,os.length,os.flatMap fC),(.slice A1 an c1,an,ar.flatMap fC),(.slice B1 bn d1,bn,br.flatMap fC)]) ?_ ?_ (fun x hx=>Hfs.out _ (hbw.trans (hb2.mono hbw.size)) x hx),hb2⟩
       ·have e1:ConcatF.cellsOf [(.slice Ao os.length co,os.length,os.flatMap fC),(.slice A1 an c1,an,ar.flatMap fC),(.slice B1 bn d1,bn,br.flatMap fC)]=(os++ar++br).flatMap fC:=by simp[ConcatF.cellsOf]
        rw[e1]at hown2
        exact hown2
       ·simp[ConcatF.total,Han.out,Hbn.out])
     have Hnw:=Lib.hid ((Below.refl wr.heap.size wr).alloc (Nat.le_refl _) (.cells #[.slice Ao os.length co,.slice A1 an c1,.slice B1 bn d1] 22))
     have Hns:Hid (SlAt (wr.alloc (.cells #[.slice Ao os.length co,.slice A1 an c1,.slice B1 bn d1] 22)) (some ⟨wr.heap.size,0,none⟩) [.slice Ao os.length co,.slice A1 an c1,.slice B1 bn d1]):=Lib.hid (SlAt.of_heap (heap_alloc_new _ _) rfl)
     have Hl3:Hid ((os++ar++br).length≤24):=Lib.hid (by have:=Hlen.out;simp;omega)
     obtain⟨rs,hrs⟩:∃ rs,rs=os++ar++br:=⟨_,rfl⟩
     rw[←hrs]at Hfs Hbl Heq2 HC Hl3
     clear hrs Heq Hlen Hmem HBd Hos Hown Hda Hdb Hsa Hsb Ha0 Hb0 Hfa Hfb Han Hbn Hca Hcb
     obtain⟨N,hN⟩:∃ N,N=rs.length:=⟨_,rfl⟩
     have HN:=Lib.hid hN
     clear hN
     rcases hz2 with rfl | ⟨hz3,rfl⟩
     all_goals (
      go_wp2_with fail
      refine (HC.out _ Hnw.out Hns.out).mono ?_
      rintro e w2 ⟨v,rfl,hf2,hb2⟩
      have Hf2:=Lib.hid hf2
      have Hb2:=Lib.hid ((Hbx.out.trans (Hnw.out.mono Hbx.out.size)).trans (hb2.mono (by have:=Hbx.out.size;have:=Hnw.out.size;omega)))
      clear hf2 hb2
      obtain⟨A2,c2,rfl,_⟩:=Hf2.out
      rw[←HN.out]at Hf2⊢
      by_cases h12:12 < N
      ·have HU:=Lib.hid (HR5.out (by rw[Heq2.out,List.length_map,←HN.out];exact h12))
       go_wp2_with fail
       go_ret2
       exact⟨_,[],by rw[HU.out];rfl,OwnFs.nil _ _,by rw[HU.out];rfl,Hb2.out⟩
      ·have HU:=Lib.hid (HR6.out (by rw[Heq2.out,List.length_map,←HN.out];omega))
       have HCo:=Lib.hid (copy_any _ rs _ Hf2.out (by rw[←HN.out];omega) (fun x hx=>by have:=Hbl.out x hx;omega))
       go_wp2_with fail
       refine (HCo.out).mono ?_
       rintro e w3 ⟨v3,l3,rfl,ho3,he3,hb3⟩
       have Ho3:=Lib.hid (ho3.base_ Hb2.out.size)
       have He3:=Lib.hid he3
       have Hb3:=Lib.hid (Hb2.out.trans (hb3.mono Hb2.out.size))
       clear ho3 he3 hb3
       go_wp2_with fail
       go_ret2
       exact⟨_,l3,by rw[HU.out];rfl,Ho3.out,by rw[HU.out,He3.out,Heq2.out],Hb3.out⟩)
    ·obtain⟨x,ar',rfl⟩:∃ x l,ar=x :: l:=by
      cases ar with
      | nil=>exact absurd (.inl rfl) hz
      | cons x l=>exact⟨x,l,rfl⟩
     obtain⟨y,br',rfl⟩:∃ y l,br=y :: l:=by
      cases br with
      | nil=>exact absurd (.inr rfl) hz
      | cons x l=>exact⟨x,l,rfl⟩
     clear hz HR5 HR6 HBd
     obtain⟨htA,hfA,hnA⟩:=files_tail Hfa.out
     obtain⟨htB,hfB,hnB⟩:=files_tail Hfb.out
     have HfA:=Lib.hid hfA
     have HfB:=Lib.hid hfB
     have Hfx:Hid (FileAt w x):=Lib.hid (Hda.out x (by simp))
     have Hfy:Hid (FileAt w y):=Lib.hid (Hdb.out y (by simp))
     obtain⟨ba,oa,rfl,ca0,ca1,ca2,ca3,ca4⟩:=files_cells Hsa.out (k:=0) (by simp)
     obtain⟨bb,ob,rfl,cb0,cb1,cb2,cb3,cb4⟩:=files_cells Hsb.out (k:=0) (by simp)
     simp only[Nat.zero_mul,Nat.add_zero,List.getElem_cons_zero]at ca0 ca1 ca2 ca3 ca4 cb0 cb1 cb2 cb3 cb4
     obtain⟨an,han⟩:∃ an,an=(x :: ar').length:=⟨_,rfl⟩
     obtain⟨bn,hbn⟩:∃ bn,bn=(y :: br').length:=⟨_,rfl⟩
     rw[←han]at htA HfA hnA Hfa⊢
     rw[←hbn]at htB HfB hnB Hfb⊢
     have HnA:=Lib.hid hnA
     have HnB:=Lib.hid hnB
     have ha1:0 < an:=by omega
     have hb1:0 < bn:=by omega
     have ha2:(0:Int) < (an:Int):=by omega
     have hb2:(0:Int) < (bn:Int):=by omega
     have ha3:decide ((0:Int) < (an:Int))=true:=decide_eq_true ha2
     have hb3:decide ((0:Int) < (bn:Int))=true:=decide_eq_true hb2
     have hle:os.length≤24:=by have:=Hlen.out;omega
     have Hle2:Hid (os.length+ar'.length+br'.length+2≤24):=Lib.hid (by have:=Hlen.out;simp at this;omega)
     clear hfA hfB han hbn hnA hnB Hlen Hsa Hsb Ha0 Hb0 Hda Hdb
     obtain⟨⟨n1,b1,s1,d1,g1⟩,A3,l3,c3⟩:=x
     obtain⟨⟨n2,b2,s2,d2,g2⟩,A4,l4,c4⟩:=y
     simp only[slv]at ca0 ca1 ca2 ca3 ca4 cb0 cb1 cb2 cb3 cb4
     have qa0:=fun p:BelowBy wr=>BelowBy.cell (show wr.cell? ⟨ba,oa,none⟩=_ from cell_below Hbx.out ca0) p
     have qb0:=fun p:BelowBy wr=>BelowBy.cell (show wr.cell? ⟨bb,ob,none⟩=_ from cell_below Hbx.out cb0) p
     have Hca:=Lib.hid (And.intro ca0 (And.intro ca1 (And.intro ca2 (And.intro ca3 ca4))))
     have Hcb:=Lib.hid (And.intro cb0 (And.intro cb1 (And.intro cb2 (And.intro cb3 cb4))))
     clear ca0 ca1 ca2 ca3 ca4 cb0 cb1 cb2 cb3 cb4
     go_wp2_with fail
     refine wp_region_below (by kernel_rfl) (by kernel_rfl) ?_
     repeat (quiet_step (first | exact belowBy_same (stringsCompare_any _ _ _)))
     refine wpQuiet_nil ?_
     intro wq hq
     have hbq:Below wr.heap.size wr wq:=by obtain⟨p,hp⟩:=hq;rw[hp];exact p.h
     have Hbq:=Lib.hid (Hbx.out.trans (hbq.mono Hbx.out.size))
     have Hownq:=Lib.hid (own_keep Hown.out hbq)
     clear hq hbq qa0 qb0 Hbx Hown
     obtain⟨ca0,ca1,ca2,ca3,ca4⟩:=Hca.out
     obtain⟨cb0,cb1,cb2,cb3,cb4⟩:=Hcb.out
     have ea0:=cell_below Hbq.out ca0
     have ea1:=cell_below Hbq.out ca1
     have ea2:=cell_below Hbq.out ca2
     have ea3:=cell_below Hbq.out ca3
     have ea4:=cell_below Hbq.out ca4
     have eb0:=cell_below Hbq.out cb0
     have eb1:=cell_below Hbq.out cb1
     have eb2:=cell_below Hbq.out cb2
     have eb3:=cell_below Hbq.out cb3
     have eb4:=cell_below Hbq.out cb4
     clear ca0 ca1 ca2 ca3 ca4 cb0 cb1 cb2 cb3 cb4
     have HL:=Lib.hid (both_lt (x:=(⟨n1,b1,s1,d1,g1⟩:Fl)) (y:=(⟨n2,b2,s2,d2,g2⟩:Fl)) (ar'.map Prod.fst) (br'.map Prod.fst))
     have HG:=Lib.hid (both_gt (x:=(⟨n1,b1,s1,d1,g1⟩:Fl)) (y:=(⟨n2,b2,s2,d2,g2⟩:Fl)) (ar'.map Prod.fst) (br'.map Prod.fst))
     have HE:=Lib.hid (both_eq (x:=(⟨n1,b1,s1,d1,g1⟩:Fl)) (y:=(⟨n2,b2,s2,d2,g2⟩:Fl)) (ar'.map Prod.fst) (br'.map Prod.fst))
     obtain⟨z,hz⟩:∃ z,cb n1 n2=z:=⟨_,rfl⟩
     have Hz:=Lib.hid hz
     rw[hz]
     clear hz
     rcases (by omega:z < 0∨0 < z∨z=0) with h | h | rfl
     ·have hd1:decide (z < 0)=true:=decide_eq_true h
      have hd2:decide (z > 0)=false:=decide_eq_false (by omega)
      have Hp7:Hid ((wq.drew.alloc (.cells #[.string (Name.strB n1),.slice A3 l3 c3,.int .i64 s1,.int .i64 d1,.bool g1] 36)).ownsRow w.heap.size 36 5 u9 os.length (os.flatMap fC)):=Lib.hid ((own_drew Hownq.out).alloc _)
      have Hb7:Hid (Below w.heap.size w (wq.drew.alloc (.cells #[.string (Name.strB n1),.slice A3 l3 c3,.int .i64 s1,.int .i64 d1,.bool g1] 36))):=Lib.hid (Hbq.out.drew.alloc Hbq.out.size _)
      have Hs7:Hid (SlAt (wq.drew.alloc (.cells #[.string (Name.strB n1),.slice A3 l3 c3,.int .i64 s1,.int .i64 d1,.bool g1] 36)) (some ⟨wq.heap.size,0,none⟩) [.string (Name.strB n1),.slice A3 l3 c3,.int .i64 s1,.int .i64 d1,.bool g1]):=Lib.hid (SlAt.of_heap (heap_alloc_new _ _) rfl)
      go_wp2_with fail
      go_region_held3 (fun W=>W.cell? ⟨ba,oa,none⟩=some (.string (Name.strB n1))∧W.cell? ⟨ba,oa+1,none⟩=some (.slice A3 l3 c3)∧W.cell? ⟨ba,oa+2,none⟩=some (.int .i64 s1)∧W.cell? ⟨ba,oa+3,none⟩=some (.int .i64 d1)∧W.cell? ⟨ba,oa+4,none⟩=some (.bool g1)) (first | exact keep5 Hbq.out.drew Hca.out | exact keep5 Hb7.out Hca.out | exact keep5 (own_below Hp7.out Hg8.out Hb7.out Hb7.out.size) Hca.out) ((refine step_app rfl (.tmp 66) (.tmp 70) _ rfl w.heap.size 36 _ 5 64 tyF u9 os.length (os.flatMap fC) (by simp[Act.eval]) Hp7.out (some ⟨wq.heap.size,0,none⟩) 1 1 [.string (Name.strB n1),.slice A3 l3 c3,.int .i64 s1,.int .i64 d1,.bool g1] (by simp[Act.eval]) rfl Hs7.out (by simp[Value.oneCell']) (by simp) (by unfold maxLen;omega) (by omega) Hb7.out.size ?_;intro v8 w8 hown8 hg8;have Ho8:=Lib.hid hown8;have Hg8:=Lib.hid hg8;clear hown8 hg8))
      all_goals (
       have Hb8:=Lib.hid (own_below Hp7.out Hg8.out Hb7.out Hb7.out.size)
       clear Hp7 Hb7 Hs7 Hg8
       go_wp2_with fail
       go_roundw
       case rel=>skip;exact⟨ar',(⟨n2,b2,s2,d2,g2⟩,A4,l4,c4) :: br',os++[(⟨n1,b1,s1,d1,g1⟩,A3,l3,c3)],HfA.out,Hfb.out,by rw[List.length_append,List.flatMap_append];exact Ho8.out,(fun u hu=>by
         rcases List.mem_append.1 hu with hu | hu
         ·exact Hos.out u hu
         ·rw[List.mem_singleton.1 hu];exact Hfx.out),(fun u hu=>Hmem.out u (mem_l u hu)),by rw[Heq.out,List.map_cons,List.map_cons,HL.out (by rw[Hz.out];exact h),List.map_append,List.append_assoc];rfl,by have:=Hle2.out;simp;omega,Hb8.out⟩
       case measure=>simp[lenV];omega)
     ·have hd1:decide (z < 0)=false:=decide_eq_false (by omega)
      have hd2:decide (z > 0)=true:=decide_eq_true h
      have Hp7:Hid ((wq.drew.alloc (.cells #[.string (Name.strB n2),.slice A4 l4 c4,.int .i64 s2,.int .i64 d2,.bool g2] 36)).ownsRow w.heap.size 36 5 u9 os.length (os.flatMap fC)):=Lib.hid ((own_drew Hownq.out).alloc _)
      have Hb7:Hid (Below w.heap.size w (wq.drew.alloc (.cells #[.string (Name.strB n2),.slice A4 l4 c4,.int .i64 s2,.int .i64 d2,.bool g2] 36))):=Lib.hid (Hbq.out.drew.alloc Hbq.out.size _)
      have Hs7:Hid (SlAt (wq.drew.alloc (.cells #[.string (Name.strB n2),.slice A4 l4 c4,.int .i64 s2,.int .i64 d2,.bool g2] 36)) (some ⟨wq.heap.size,0,none⟩) [.string (Name.strB n2),.slice A4 l4 c4,.int .i64 s2,.int .i64 d2,.bool g2]):=Lib.hid (SlAt.of_heap (heap_alloc_new _ _) rfl)
      go_wp2_with fail
      go_region_held3 (fun W=>W.cell? ⟨bb,ob,none⟩=some (.string (Name.strB n2))∧W.cell? ⟨bb,ob+1,none⟩=some (.slice A4 l4 c4)∧W.cell? ⟨bb,ob+2,none⟩=some (.int .i64 s2)∧W.cell? ⟨bb,ob+3,none⟩=some (.int .i64 d2)∧W.cell? ⟨bb,ob+4,none⟩=some (.bool g2)) (first | exact keep5 Hbq.out.drew Hcb.out | exact keep5 Hb7.out Hcb.out | exact keep5 (own_below Hp7.out Hg8.out Hb7.out Hb7.out.size) Hcb.out) ((refine step_app rfl (.tmp 77) (.tmp 81) _ rfl w.heap.size 36 _ 5 64 tyF u9 os.length (os.flatMap fC) (by simp[Act.eval]) Hp7.out (some ⟨wq.heap.size,0,none⟩) 1 1 [.string (Name.strB n2),.slice A4 l4 c4,.int .i64 s2,.int .i64 d2,.bool g2] (by simp[Act.eval]) rfl Hs7.out (by simp[Value.oneCell']) (by simp) (by unfold maxLen;omega) (by omega) Hb7.out.size ?_;intro v8 w8 hown8 hg8;have Ho8:=Lib.hid hown8;have Hg8:=Lib.hid hg8;clear hown8 hg8))
      all_goals (
       have Hb8:=Lib.hid (own_below Hp7.out Hg8.out Hb7.out Hb7.out.size)
       clear Hp7 Hb7 Hs7 Hg8
       go_wp2_with fail
       go_roundw
       case rel=>skip;exact⟨(⟨n1,b1,s1,d1,g1⟩,A3,l3,c3) :: ar',br',os++[(⟨n2,b2,s2,d2,g2⟩,A4,l4,c4)],Hfa.out,HfB.out,by rw[List.length_append,List.flatMap_append];exact Ho8.out,(fun u hu=>by
         rcases List.mem_append.1 hu with hu | hu
         ·exact Hos.out u hu
         ·rw[List.mem_singleton.1 hu];exact Hfy.out),(fun u hu=>Hmem.out u (mem_r u hu)),by rw[Heq.out,List.map_cons,List.map_cons,HG.out (by rw[Hz.out];exact h),List.map_append,List.append_assoc];rfl,by have:=Hle2.out;simp;omega,Hb8.out⟩
       case measure=>simp[lenV];omega)
     ·have Hbq3:=Lib.hid (Hbq.out.alloc Hbq.out.size (.cells #[.string (Name.strB n1),.slice A3 l3 c3,.int .i64 s1,.int .i64 d1,.bool g1] 36))
      have B3:=Lib.hid (Blk.new wq 36 #[.string (Name.strB n1),.slice A3 l3 c3,.int .i64 s1,.int .i64 d1,.bool g1])
      have Hown3:=Lib.hid (Hownq.out.alloc (.cells #[.string (Name.strB n1),.slice A3 l3 c3,.int .i64 s1,.int .i64 d1,.bool g1] 36))
      have Hne:Hid (u9.ownBlock≠some wq.heap.size):=Lib.hid (fun h=>by have:=(Hownq.out.lt _ h).2;omega)
      have Hgle:Hid (∀ k:Nat,w.heap.size≤(⟨wq.heap.size,k,none⟩:Addr).block):=Lib.hid (fun _=>Hbq.out.size)
      obtain⟨w3,hw3⟩:∃ w3,w3=wq.alloc (.cells #[.string (Name.strB n1),.slice A3 l3 c3,.int .i64 s1,.int .i64 d1,.bool g1] 36):=⟨_,rfl⟩
      rw[←hw3]at Hbq3 B3 Hown3
      have Hw3:=Lib.hid hw3.symm
      clear hw3
      go_wp2_with fail
      rw[Hw3.out]
      clear Hw3 ea0 ea1 ea2 ea3 ea4 eb0 eb1 eb2 eb3 eb4
      have Hfx3:=Lib.hid (Hfx.out.below Hbq3.out)
      have Hfy3:=Lib.hid (Hfy.out.below Hbq3.out)
      obtain⟨ca0,ca1,ca2,ca3,ca4⟩:=keep5 Hbq3.out Hca.out
      obtain⟨cb0,cb1,cb2,cb3,cb4⟩:=keep5 Hbq3.out Hcb.out
      have p0:=fun p:BelowBy w3=>BelowBy.cell ca0 p
      have q0:=fun p:BelowBy w3=>BelowBy.cell cb0 p
      have p1:=fun p:BelowBy w3=>BelowBy.cell ca1 p
      have q1:=fun p:BelowBy w3=>BelowBy.cell cb1 p
      have p2:=fun p:BelowBy w3=>BelowBy.cell ca2 p
      have q2:=fun p:BelowBy w3=>BelowBy.cell cb2 p
      have p3:=fun p:BelowBy w3=>BelowBy.cell ca3 p
      have q3:=fun p:BelowBy w3=>BelowBy.cell cb3 p
      have p4:=fun p:BelowBy w3=>BelowBy.cell ca4 p
      have q4:=fun p:BelowBy w3=>BelowBy.cell cb4 p
      clear ca0 ca1 ca2 ca3 ca4 cb0 cb1 cb2 cb3 cb4
      refine wp_region_below (by kernel_rfl) (by kernel_rfl) ?_
      repeat (quiet_step (first | exact belowBy_calls (newer_any (⟨n1,b1,s1,d1,g1⟩,A3,l3,c3) (⟨n2,b2,s2,d2,g2⟩,A4,l4,c4) _ (Hfx3.out.below (BelowBy.h _)) (Hfy3.out.below (BelowBy.h _)))))
      refine wpQuiet_nil ?_
      intro w4 hq
      have hb4:Below w3.heap.size w3 w4:=by obtain⟨p,hp⟩:=hq;rw[hp];exact p.h
      have Hb4:=Lib.hid (Hbq3.out.trans (hb4.mono Hbq3.out.size))
      have B4:=Lib.hid (B3.out.below hb4 B3.out.lt)
      have Hown4:=Lib.hid (own_keep Hown3.out hb4)
      clear hq hb4 Hfx3 Hfy3 B3 Hown3 Hbq3 p0 p1 p2 p3 p4 q0 q1 q2 q3 q4
      obtain⟨z2,hz2⟩:∃ z2,later (⟨n1,b1,s1,d1,g1⟩:Fl) ⟨n2,b2,s2,d2,g2⟩=z2:=⟨_,rfl⟩
      have Hz2:=Lib.hid hz2
      try simp only
      rw[hz2]
      clear hz2
      by_cases h:z2 < 0
      ·have hd3:decide (z2 < 0)=true:=decide_eq_true h
       obtain⟨eb0,eb1,eb2,eb3,eb4⟩:=keep5 Hb4.out Hcb.out
       obtain⟨ex0,ex1,ex2,ex3,ex4⟩:=blk5 B4.out
       have hf0:=B4.out.frozen 0
       have hf1:=B4.out.frozen 1
       have hf2:=B4.out.frozen 2
       have hf3:=B4.out.frozen 3
       have hf4:=B4.out.frozen 4
       have B5:Hid (Blk (((((w4.setCell ⟨wq.heap.size,0,none⟩ (.string (Name.strB n2))).setCell ⟨wq.heap.size,1,none⟩ (.slice A4 l4 c4)).setCell ⟨wq.heap.size,2,none⟩ (.int .i64 s2)).setCell ⟨wq.heap.size,3,none⟩ (.int .i64 d2)).setCell ⟨wq.heap.size,4,none⟩ (.bool g2)) wq.heap.size 36 #[.string (Name.strB n2),.slice A4 l4 c4,.int .i64 s2,.int .i64 d2,.bool g2]):=Lib.hid (((((B4.out.set_ 0 (.string (Name.strB n2))).set_ 1 (.slice A4 l4 c4)).set_ 2 (.int .i64 s2)).set_ 3 (.int .i64 d2)).set_ 4 (.bool g2))
       have Hown5:=Lib.hid (ownsRow_setCell_other (ownsRow_setCell_other (ownsRow_setCell_other (ownsRow_setCell_other (ownsRow_setCell_other Hown4.out (a:=⟨wq.heap.size,0,none⟩) Hne.out (.string (Name.strB n2))) (a:=⟨wq.heap.size,1,none⟩) Hne.out (.slice A4 l4 c4)) (a:=⟨wq.heap.size,2,none⟩) Hne.out (.int .i64 s2)) (a:=⟨wq.heap.size,3,none⟩) Hne.out (.int .i64 d2)) (a:=⟨wq.heap.size,4,none⟩) Hne.out (.bool g2))
       have Hb5:=Lib.hid (((((Hb4.out.setCell (show w.heap.size≤(⟨wq.heap.size,0,none⟩:Addr).block from Hgle.out 0) (.string (Name.strB n2))).setCell (show w.heap.size≤(⟨wq.heap.size,1,none⟩:Addr).block from Hgle.out 1) (.slice A4 l4 c4)).setCell (show w.heap.size≤(⟨wq.heap.size,2,none⟩:Addr).block from Hgle.out 2) (.int .i64 s2)).setCell (show w.heap.size≤(⟨wq.heap.size,3,none⟩:Addr).block from Hgle.out 3) (.int .i64 d2)).setCell (show w.heap.size≤(⟨wq.heap.size,4,none⟩:Addr).block from Hgle.out 4) (.bool g2))
       obtain⟨w5,hw5⟩:∃ w5,w5=(((((w4.setCell ⟨wq.heap.size,0,none⟩ (.string (Name.strB n2))).setCell ⟨wq.heap.size,1,none⟩ (.slice A4 l4 c4)).setCell ⟨wq.heap.size,2,none⟩ (.int .i64 s2)).setCell ⟨wq.heap.size,3,none⟩ (.int .i64 d2)).setCell ⟨wq.heap.size,4,none⟩ (.bool g2)):=⟨_,rfl⟩
       rw[←hw5]at B5 Hown5 Hb5
       have Hw5:=Lib.hid hw5.symm
       clear hw5
       go_wp2_with fail
       rw[Hw5.out]
       clear Hw5 eb0 eb1 eb2 eb3 eb4 ex0 ex1 ex2 ex3 ex4 hf0 hf1 hf2 hf3 hf4 B4 Hown4 Hb4
       have Hp7:Hid ((w5.drew.alloc (.cells #[.string (Name.strB n2),.slice A4 l4 c4,.int .i64 s2,.int .i64 d2,.bool g2] 36)).ownsRow w.heap.size 36 5 u9 os.length (os.flatMap fC)):=Lib.hid ((own_drew Hown5.out).alloc _)
       have Hb7:Hid (Below w.heap.size w (w5.drew.alloc (.cells #[.string (Name.strB n2),.slice A4 l4 c4,.int .i64 s2,.int .i64 d2,.bool g2] 36))):=Lib.hid (Hb5.out.drew.alloc Hb5.out.size _)
       have Hs7:Hid (SlAt (w5.drew.alloc (.cells #[.string (Name.strB n2),.slice A4 l4 c4,.int .i64 s2,.int .i64 d2,.bool g2] 36)) (some ⟨w5.heap.size,0,none⟩) [.string (Name.strB n2),.slice A4 l4 c4,.int .i64 s2,.int .i64 d2,.bool g2]):=Lib.hid (SlAt.of_heap (heap_alloc_new _ _) rfl)
       go_wp2_with fail
       go_region_held3 (fun W=>W.cell? ⟨wq.heap.size,0,none⟩=some (.string (Name.strB n2))∧W.cell? ⟨wq.heap.size,1,none⟩=some (.slice A4 l4 c4)∧W.cell? ⟨wq.heap.size,2,none⟩=some (.int .i64 s2)∧W.cell? ⟨wq.heap.size,3,none⟩=some (.int .i64 d2)∧W.cell? ⟨wq.heap.size,4,none⟩=some (.bool g2)) (first | exact blk5 B5.out.drew | exact blk5 (B5.out.drew.alloc _) | exact blk5 ((B5.out.drew.alloc _).grown Hg8.out Hne.out)) ((refine step_app rfl (.tmp 55) (.tmp 57) _ rfl w.heap.size 36 _ 5 64 tyF u9 os.length (os.flatMap fC) (by simp[Act.eval]) Hp7.out (some ⟨w5.heap.size,0,none⟩) 1 1 [.string (Name.strB n2),.slice A4 l4 c4,.int .i64 s2,.int .i64 d2,.bool g2] (by simp[Act.eval]) rfl Hs7.out (by simp[Value.oneCell']) (by simp) (by unfold maxLen;omega) (by omega) Hb7.out.size ?_;intro v8 w8 hown8 hg8;have Ho8:=Lib.hid hown8;have Hg8:=Lib.hid hg8;clear hown8 hg8))
       all_goals (
        have Hb8:=Lib.hid (own_below Hp7.out Hg8.out Hb7.out Hb7.out.size)
        clear Hp7 Hb7 Hs7 Hg8
        go_wp2_with fail
        go_roundw
        case rel=>skip;exact⟨ar',br',os++[(⟨n2,b2,s2,d2,g2⟩,A4,l4,c4)],HfA.out,HfB.out,by rw[List.length_append,List.flatMap_append];exact Ho8.out,(fun u hu=>by
          rcases List.mem_append.1 hu with hu | hu
          ·exact Hos.out u hu
          ·rw[List.mem_singleton.1 hu];exact Hfy.out),(fun u hu=>Hmem.out u (mem_b (by simp) u hu)),by rw[Heq.out,List.map_cons,List.map_cons,HE.out Hz.out,maxF_lt (by have:=Hz2.out;omega),List.map_append,List.append_assoc];rfl,by have:=Hle2.out;simp;omega,Hb8.out⟩
        case measure=>simp[lenV];omega)
      ·have hd3:decide (z2 < 0)=false:=decide_eq_false h
       have B5:=B4
       have Hown5:=Hown4
       have Hb5:=Hb4
       clear B4 Hown4 Hb4
       have Hp7:Hid ((w4.drew.alloc (.cells #[.string (Name.strB n1),.slice A3 l3 c3,.int .i64 s1,.int .i64 d1,.bool g1] 36)).ownsRow w.heap.size 36 5 u9 os.length (os.flatMap fC)):=Lib.hid ((own_drew Hown5.out).alloc _)
       have Hb7:Hid (Below w.heap.size w (w4.drew.alloc (.cells #[.string (Name.strB n1),.slice A3 l3 c3,.int .i64 s1,.int .i64 d1,.bool g1] 36))):=Lib.hid (Hb5.out.drew.alloc Hb5.out.size _)
       have Hs7:Hid (SlAt (w4.drew.alloc (.cells #[.string (Name.strB n1),.slice A3 l3 c3,.int .i64 s1,.int .i64 d1,.bool g1] 36)) (some ⟨w4.heap.size,0,none⟩) [.string (Name.strB n1),.slice A3 l3 c3,.int .i64 s1,.int .i64 d1,.bool g1]):=Lib.hid (SlAt.of_heap (heap_alloc_new _ _) rfl)
       go_wp2_with fail
       go_region_held3 (fun W=>W.cell? ⟨wq.heap.size,0,none⟩=some (.string (Name.strB n1))∧W.cell? ⟨wq.heap.size,1,none⟩=some (.slice A3 l3 c3)∧W.cell? ⟨wq.heap.size,2,none⟩=some (.int .i64 s1)∧W.cell? ⟨wq.heap.size,3,none⟩=some (.int .i64 d1)∧W.cell? ⟨wq.heap.size,4,none⟩=some (.bool g1)) (first | exact blk5 B5.out.drew | exact blk5 (B5.out.drew.alloc _) | exact blk5 ((B5.out.drew.alloc _).grown Hg8.out Hne.out)) ((refine step_app rfl (.tmp 55) (.tmp 57) _ rfl w.heap.size 36 _ 5 64 tyF u9 os.length (os.flatMap fC) (by simp[Act.eval]) Hp7.out (some ⟨w4.heap.size,0,none⟩) 1 1 [.string (Name.strB n1),.slice A3 l3 c3,.int .i64 s1,.int .i64 d1,.bool g1] (by simp[Act.eval]) rfl Hs7.out (by simp[Value.oneCell']) (by simp) (by unfold maxLen;omega) (by omega) Hb7.out.size ?_;intro v8 w8 hown8 hg8;have Ho8:=Lib.hid hown8;have Hg8:=Lib.hid hg8;clear hown8 hg8))
       all_goals (
        have Hb8:=Lib.hid (own_below Hp7.out Hg8.out Hb7.out Hb7.out.size)
        clear Hp7 Hb7 Hs7 Hg8
        go_wp2_with fail
        go_roundw
        case rel=>skip;exact⟨ar',br',os++[(⟨n1,b1,s1,d1,g1⟩,A3,l3,c3)],HfA.out,HfB.out,by rw[List.length_append,List.flatMap_append];exact Ho8.out,(fun u hu=>by
          rcases List.mem_append.1 hu with hu | hu
          ·exact Hos.out u hu
          ·rw[List.mem_singleton.1 hu];exact Hfx.out),(fun u hu=>Hmem.out u (mem_b (by simp) u hu)),by rw[Heq.out,List.map_cons,List.map_cons,HE.out Hz.out,maxF_ge (by have:=Hz2.out;omega),List.map_append,List.append_assoc];rfl,by have:=Hle2.out;simp;omega,Hb8.out⟩
        case measure=>simp[lenV];omega)
end Go.Proofs.YtabdianhoabhhaaGreatDoor.Merge
namespace Go.Proofs.YtabdianhoabhhaaGreatDoor.Merge
open Go Go.RowKit Go.Proofs.YtabdianhoabhhaaGreatDoor
def eqF {α β:Type} (p:α→β→Bool) (a:List α) (b:List β):Bool:=decide (a.length=b.length) && (a.zip b).all fun x=>p x.1 x.2
theorem eqF_ne {α β:Type} {p:α→β→Bool} {a:List α} {b:List β} (h:a.length≠b.length):eqF p a b=false:=by
 unfold eqF;rw[decide_eq_false h];rfl
theorem eqF_here {α β:Type} {p:α→β→Bool} {a:List α} {b:List β} {k:Nat} (hk:k < a.length) (hk2:k < b.length) (h:p a[k] b[k]=false):eqF p a b=false:=by
 unfold eqF
 have:(a.zip b).all (fun x=>p x.1 x.2)=false:=by
  rw[List.all_eq_false]
  refine⟨(a[k],b[k]),?_,by simp[h]⟩
  rw[List.mem_iff_getElem]
  exact⟨k,by rw[List.length_zip];omega,by simp⟩
 rw[this,Bool.and_false]
theorem eqF_step {α β:Type} {p:α→β→Bool} {a:List α} {b:List β} {k:Nat} (hk:k < a.length) (hk2:k < b.length) (h0:∀ x∈(a.zip b).take k,p x.1 x.2=true) (h:p a[k] b[k]=true):∀ x∈(a.zip b).take (k+1),p x.1 x.2=true:=by
 have hl:k < (a.zip b).length:=by rw[List.length_zip];omega
 rw[take_snoc _ _ hl]
 intro x hx
 rcases List.mem_append.1 hx with hx | hx
 ·exact h0 x hx
 ·simp at hx;subst hx;exact h
theorem eqF_end {α β:Type} {p:α→β→Bool} {a:List α} {b:List β} {k:Nat} (hl:a.length=b.length) (hk:k=a.length) (h0:∀ x∈(a.zip b).take k,p x.1 x.2=true):eqF p a b=true:=by
 unfold eqF
 rw[List.take_of_length_le (by rw[List.length_zip];omega)]at h0
 rw[decide_eq_true hl,Bool.true_and,List.all_eq_true]
 exact h0
theorem eqF_map {α β:Type} {p:α→α→Bool} {f:α→β} (hp:∀ x y,p x y=true↔f x=f y):∀ a b:List α,eqF p a b=true↔a.map f=b.map f
 | [],[]=>by simp[eqF]
 | [],y :: b=>by simp[eqF]
 | x :: a,[]=>by simp[eqF]
 | x :: a,y :: b=>by
  have ih:=eqF_map hp a b
  have:eqF p (x :: a) (y :: b)=true↔p x y=true∧eqF p a b=true:=by simp[eqF];constructor <;> (rintro⟨h1,h2,h3⟩;exact⟨h2,h1,h3⟩)
  rw[this,ih,hp,List.map_cons,List.map_cons,List.cons.injEq]
end Go.Proofs.YtabdianhoabhhaaGreatDoor.Merge
namespace Go.Proofs.YtabdianhoabhhaaGreatDoor.Merge
open Go Go.RowKit Go.Proofs.YtabdianhoabhhaaGreatDoor Go.Proofs.YtabdianhoabhhaaGreatDoor.Name
set_option linter.unusedVariables false
set_option maxRecDepth 100000 in
set_option maxHeartbeats 1600000 in
theorem equalFunc_files (A B:Option Addr) (n m ca cb:Nat) (xs ys:List (Fx)) (g:FuncId) (cap:Array Value) (p:Fx→Fx→Bool) (w:World) (hn:xs.length=n) (hm:ys.length=m) (hx:n≤maxLen) (hy:m≤maxLen)
  (ha:SlAt w A (xs.flatMap fC)) (hb:SlAt w B (ys.flatMap fC))
  (hcf:∀ args w',(callFunc g args).run Tryz.prog w'=.ok (.enter g args) w')
  (hf:∀ x∈xs,∀ y∈ys,∀ w',Below w.heap.size w w'→Calls Tryz.prog g (#[fV x,fV y]++cap) w' fun e w''=>e=.returned (.bool (p x y))∧Below w'.heap.size w' w'') :
  Calls Tryz.prog 49 #[.slice A n ca,.slice B m cb,.func (.func g) #[] cap] w fun e w'=>e=.returned (.bool (eqF p xs ys))∧Below w.heap.size w w':=by
 unfold maxLen at hx hy
 have Hn:=Lib.hid hn
 have Hm:=Lib.hid hm
 have Ha:=Lib.hid ha
 have Hb:=Lib.hid hb
 have Hf:=Lib.hid hf
 clear hn hm ha hb hf
 by_cases hnm:n=m
 ·subst hnm
  go_enter Tryz.func49,Tryz.ntmps49
  go_wp2_with fail
  go_loopw [17] (fun i wr=>∃ k:Nat,k≤n∧i=.int .i64 (k:Int)∧(∀ x∈(xs.zip ys).take k,p x.1 x.2=true)∧Below w.heap.size w wr) (fun i _=>n - (intOf i).toNat)
  case atStart=>exact⟨0,Nat.zero_le _,rfl,by simp,Below.refl _ _⟩
  case round=>
   obtain⟨k,hk,rfl,hall,hbr⟩:=hrel
   have Hall:=Lib.hid hall
   have Hbr:=Lib.hid hbr
   clear hall hbr
   by_cases hlt:k < n
   ·have hkx:k < xs.length:=by rw[Hn.out];exact hlt
    have hky:k < ys.length:=by rw[Hm.out];exact hlt
    obtain⟨ba,oa,rfl,hca⟩:=slat_elem (size:=5) fC_len (by omega) (Ha.out.below Hbr.out) hkx
    obtain⟨bb,ob,rfl,hcb⟩:=slat_elem (size:=5) fC_len (by omega) (Hb.out.below Hbr.out) hky
    have Hcall:=Lib.hid (fun w' hb=>Hf.out xs[k] (List.getElem_mem hkx) ys[k] (List.getElem_mem hky) w' hb)
    have Hy:=Lib.hid (eqF_here (p:=p) hkx hky)
    have Hz:=Lib.hid (eqF_step (p:=p) hkx hky Hall.out)
    generalize xs[k]=x at *
    generalize ys[k]=y at *
    obtain⟨⟨n1,b1,s1,d1,g1⟩,A1,l1,c1⟩:=x
    obtain⟨⟨n2,b2,s2,d2,g2⟩,A2,l2,c2⟩:=y
    have ca0:wr.cell? ⟨ba,oa+k*5,none⟩=some (.string (Name.strB n1)):=hca 0 _ rfl
    have cb0:wr.cell? ⟨bb,ob+k*5,none⟩=some (.string (Name.strB n2)):=hcb 0 _ rfl
    have ca1:wr.cell? ⟨ba,oa+k*5+1,none⟩=some (.slice A1 l1 c1):=hca 1 _ rfl
    have cb1:wr.cell? ⟨bb,ob+k*5+1,none⟩=some (.slice A2 l2 c2):=hcb 1 _ rfl
    have ca2:wr.cell? ⟨ba,oa+k*5+2,none⟩=some (.int .i64 s1):=hca 2 _ rfl
    have cb2:wr.cell? ⟨bb,ob+k*5+2,none⟩=some (.int .i64 s2):=hcb 2 _ rfl
    have ca3:wr.cell? ⟨ba,oa+k*5+3,none⟩=some (.int .i64 d1):=hca 3 _ rfl
    have cb3:wr.cell? ⟨bb,ob+k*5+3,none⟩=some (.int .i64 d2):=hcb 3 _ rfl
    have ca4:wr.cell? ⟨ba,oa+k*5+4,none⟩=some (.bool g1):=hca 4 _ rfl
    have cb4:wr.cell? ⟨bb,ob+k*5+4,none⟩=some (.bool g2):=hcb 4 _ rfl
    have HA2:=Lib.hid (((Below.refl wr.heap.size wr).alloc (Nat.le_refl _) (.cells #[.string (Name.strB n1),.slice A1 l1 c1,.int .i64 s1,.int .i64 d1,.bool g1] 36)).alloc (by simp) (.cells #[.string (Name.strB n2),.slice A2 l2 c2,.int .i64 s2,.int .i64 d2,.bool g2] 36))
    have la:=block_lt_of_cell ca0
    have lb:=block_lt_of_cell cb0
    clear hca hcb Hf
    obtain⟨pv,hpv⟩:∃ pv,p ⟨⟨n1,b1,s1,d1,g1⟩,A1,l1,c1⟩ ⟨⟨n2,b2,s2,d2,g2⟩,A2,l2,c2⟩=pv:=⟨_,rfl⟩
    rw[hpv]at Hcall Hy Hz
    clear hpv
    go_wp2_with fail
    refine (Hcall.out _ (Hbr.out.trans (HA2.out.mono Hbr.out.size))).mono ?_
    rintro e w1 ⟨rfl,hb1⟩
    have Hb1:=Lib.hid (Hbr.out.trans (stepN HA2.out hb1 |>.mono Hbr.out.size))
    clear hb1
    cases pv with
    | true=>
     have Hi:=Lib.hid (Hz.out rfl)
     go_wp2_with fail
     go_roundw
     case rel=>exact⟨k+1,by omega,by go_num,Hi.out,Hb1.out⟩
     case measure=>simp[intOf];omega
    | false=>
     have Hi:=Lib.hid (Hy.out rfl)
     go_wp2_with fail
     go_ret
     exact⟨ret_bool Hi.out.symm,Hb1.out⟩
   ·have Hi:=Lib.hid (eqF_end (p:=p) (by rw[Hn.out,Hm.out]) (show k=xs.length by rw[Hn.out];omega) Hall.out)
    go_wp2_with fail
    go_ret
    exact⟨ret_bool Hi.out.symm,Hbr.out⟩
 ·have Hi:=Lib.hid (eqF_ne (p:=p) (a:=xs) (b:=ys) (by rw[Hn.out,Hm.out];exact hnm))
  have hne:decide ((n:Int)=(m:Int))=false:=decide_eq_false (by omega)
  have hni:¬ (n:Int)=(m:Int):=by omega
  clear hnm
  go_enter Tryz.func49,Tryz.ntmps49
  go_wp2_with fail
  go_ret
  exact⟨ret_bool Hi.out.symm,Below.refl _ _⟩
end Go.Proofs.YtabdianhoabhhaaGreatDoor.Merge
namespace Go.Proofs.YtabdianhoabhhaaGreatDoor.Merge
open Go Go.RowKit Go.Proofs.YtabdianhoabhhaaGreatDoor Go.Proofs.YtabdianhoabhhaaGreatDoor.Name
set_option linter.unusedVariables false
def sameFs (a b:List Fx):Bool:=eqF (fun x y=>sameF x.1 y.1) a b
theorem sameFs_iff (a b:List Fx):sameFs a b=true↔a.map Prod.fst=b.map Prod.fst:=eqF_map (fun x y=>sameF_iff x.1 y.1) a b
theorem IsFiles.le {w:World} {v:Value} {l:List Fx} (h:IsFiles w v l):l.length≤maxLen:=by obtain⟨A,c,_,h1,h2,_⟩:=h;omega
theorem eg45:∀ args w',(callFunc 20 args).run Tryz.prog w'=.ok (.enter 20 args) w':=enters_of Tryz.func20 (by kernel_rfl) rfl
set_option maxHeartbeats 400000 in
theorem sameFiles_any (v1 v2:Value) (a b:List Fx) (w:World) (h1:IsFiles w v1 a) (h2:IsFiles w v2 b) :
  Calls Tryz.prog 15 #[v1,v2] w fun e w'=>e=.returned (.bool (sameFs a b))∧Below w.heap.size w w':=by
 obtain⟨A,ca,rfl,a1,a2,a3,a4,a5⟩:=h1
 obtain⟨B,cb,rfl,b1,b2,b3,b4,b5⟩:=h2
 have HC:=Lib.hid (equalFunc_files A B a.length b.length ca cb a b 20 #[] (fun x y=>sameF x.1 y.1) w rfl rfl (by omega) (by omega) a3 b3 eg45 (fun x hx y hy w' hb=>sameFile_any x y w' ((a5 x hx).below hb) ((b5 y hy).below hb)))
 obtain⟨n,hn⟩:∃ n,n=a.length:=⟨_,rfl⟩
 obtain⟨m,hm⟩:∃ m,m=b.length:=⟨_,rfl⟩
 rw[←hn,←hm]at HC⊢
 clear a1 a2 a3 a4 a5 b1 b2 b3 b4 b5 hn hm
 go_enter Tryz.func15,Tryz.ntmps15
 go_wp2_with fail
 refine (HC.out).mono ?_
 rintro e w1 ⟨rfl,hb⟩
 have Hb:=Lib.hid hb
 clear hb HC
 go_wp2_with fail
 go_ret
 exact⟨rfl,Hb.out⟩
end Go.Proofs.YtabdianhoabhhaaGreatDoor.Merge
namespace Go.Proofs.YtabdianhoabhhaaGreatDoor.Merge
open Go Go.RowKit Go.Proofs.YtabdianhoabhhaaGreatDoor Go.Proofs.YtabdianhoabhhaaGreatDoor.Name
set_option linter.unusedVariables false
def Fs (w:World) (v:Value) (l:List Fl):Prop:=∃ lx,IsFiles w v lx∧lx.map Prod.fst=l
theorem Fs.below {w w':World} {v:Value} {l:List Fl} (h:Fs w v l) (hb:Below w.heap.size w w'):Fs w' v l:=by
 obtain⟨x,h1,h2⟩:=h
 exact⟨x,h1.below hb,h2⟩
theorem IsFiles.fs {w:World} {v:Value} {l:List Fx} (h:IsFiles w v l):Fs w v (l.map Prod.fst):=⟨l,h,rfl⟩
theorem OwnFs.fs {w:World} {base:Nat} {v:Value} {l:List Fx} (h:OwnFs w base v l):Fs w v (l.map Prod.fst):=h.files.fs
theorem Fs.slice {w:World} {v:Value} {l:List Fl} (h:Fs w v l):∃ A c,v=.slice A l.length c:=by
 obtain⟨x,⟨A,c,rfl,_⟩,rfl⟩:=h
 exact⟨A,c,by rw[List.length_map]⟩
theorem Fs.nil (w:World):Fs w (.slice none 0 0) []:=⟨[],(OwnFs.nil w 0).files,rfl⟩
theorem check_fs (v1:Value) (a:List Fl) (w:World) (hm:ML w) (h1:Fs w v1 a) :
  Calls Tryz.prog 17 #[v1] w fun e w'=>e=.returned (.int .i64 (chkF a))∧Below w.heap.size w w':=by
 obtain⟨x,k1,rfl⟩:=h1
 exact check_any v1 x w hm k1
def sameL (a b:List Fl):Bool:=eqF sameF a b
theorem sameL_iff (a b:List Fl):sameL a b=true↔a=b:=by
 have:=eqF_map (p:=sameF) (f:=id) sameF_iff a b
 rwa [List.map_id,List.map_id]at this
theorem sameL_self (a:List Fl):sameL a a=true:=(sameL_iff a a).2 rfl
theorem same_fs (v1 v2:Value) (a b:List Fl) (w:World) (h1:Fs w v1 a) (h2:Fs w v2 b) :
  Calls Tryz.prog 15 #[v1,v2] w fun e w'=>e=.returned (.bool (sameL a b))∧Below w.heap.size w w':=by
 obtain⟨x,k1,rfl⟩:=h1
 obtain⟨y,k2,rfl⟩:=h2
 refine (sameFiles_any v1 v2 x y w k1 k2).mono ?_
 rintro e w' ⟨he,hb⟩
 refine⟨?_,hb⟩
 rw[he]
 apply ret_bool
 rw[Bool.eq_iff_iff,sameFs_iff,sameL_iff]
theorem same_self (v1 v2:Value) (a:List Fl) (w:World) (h1:Fs w v1 a) (h2:Fs w v2 a) :
  Calls Tryz.prog 15 #[v1,v2] w fun e w'=>e=.returned (.bool true)∧Below w.heap.size w w':=by
 have:=same_fs v1 v2 a a w h1 h2
 rwa [sameL_self]at this
theorem map_one {l:List Fx} {f:Fl} (h:l.map Prod.fst=[f]):∃ s,l=[(f,s)]:=by
 cases l with
 | nil=>cases h
 | cons x l=>
  rw[List.map_cons,List.cons.injEq]at h
  obtain⟨h1,h2⟩:=h
  have:=List.map_eq_nil_iff.1 h2
  subst this
  exact⟨x.2,by rw[←h1]⟩
theorem files_blk {w:World} {g:Nat} {l:List Fx} {n:Nat} (h:Blk w g 36 (l.flatMap fC).toArray) (hn:l.length=n) (hx:n≤1000) (hd:∀ x∈l,FileAt w x):IsFiles w (.slice (some ⟨g,0,none⟩) n n) l:=by
 subst hn
 exact⟨_,_,rfl,Nat.le_refl _,by unfold maxLen;omega,blk_slat h,by simp,hd⟩
end Go.Proofs.YtabdianhoabhhaaGreatDoor.Merge
namespace Go.Proofs.YtabdianhoabhhaaGreatDoor.Zip
open Go Go.RowKit Go.Proofs.YtabdianhoabhhaaGreatDoor Go.Proofs.YtabdianhoabhhaaGreatDoor.Bits Go.Proofs.YtabdianhoabhhaaGreatDoor.Merge Go.Proofs.YtabdianhoabhhaaGreatDoor.Name
set_option linter.unusedVariables false
set_option linter.unusedSimpArgs false
theorem ats_mem:∀ (l:List Ex) (n:Nat) (y:Ex),y∈atsL l n→∃ x∈l,∃ m,y=setAt x m
 | [],n,y,h=>by cases h
 | x :: l,n,y,h=>by
  unfold atsL at h
  rcases List.mem_cons.1 h with h | h
  ·exact⟨x,List.mem_cons_self ..,n,h⟩
  ·obtain⟨z,hz,m,hm⟩:=ats_mem l _ y h
   exact⟨z,List.mem_cons_of_mem _ hz,m,hm⟩
theorem entries_both (A:Option Addr) (n c:Nat) (b:List UInt8) (w:World) (hn:b.length=n) (hnc:n≤c) (hcm:c≤maxLen) (h12:n≤12000) (hA:ByAt w A b) :
  Calls Tryz.prog 47 #[.slice A n c] w fun e w'=>(∃ (ys:List Ex) (vl:Value),e=.returned (.tuple #[vl,.bool (entsO b).1])∧ys.map Ex.e=(entsO b).2∧w'.ownsRow w.heap.size 78 9 vl ys.length (ys.flatMap eC)∧(∀ y∈ys,OwnB w' w.heap.size (slv y.bs) y.e.f.bytes))∧Below w.heap.size w w':=by
 refine (entries_any A n c b w hn hnc hcm h12 hA).mono ?_
 rintro e w' ⟨h,hb⟩
 refine⟨?_,hb⟩
 unfold entsO
 cases hr:entsR b 14 0 [] with
 | none=>rw[hr]at h;exact⟨[],_,h,rfl,World.ownsRow_nil _ _ _ _,by simp⟩
 | some l=>
  rw[hr]at h
  obtain⟨xs,vl,h1,h2,h3,h4⟩:=h
  refine⟨atsL xs 0,vl,h1,(ats_e xs 0).trans h2,by rw[ats_len];exact h3,fun y hy=>?_⟩
  obtain⟨x,hx,m,rfl⟩:=ats_mem xs 0 y hy
  exact (h4 x hx).own
def exF (x:Ex):Fx:=(x.e.f,x.bs)
theorem wfI_of (x:Int) (h:0≤x) (h2:x≤9223372036854775807):wfI x:=by
 simp only[wfI,Lit.wf,IntKind.min,IntKind.max,IntKind.signed,IntKind.bits]
 simp
 omega
theorem exF_at {w:World} {B:Nat} {y:Ex} (hg:Good y.e) (ho:OwnB w B (slv y.bs) y.e.f.bytes):FileAt w (exF y):=by
 obtain⟨A,c,e,h1,h2,h3,_⟩:=ho.slice
 unfold slv at e
 injection e with e1 e2 e3
 refine⟨e2,?_,?_,?_,?_,?_,?_⟩
 ·show _≤y.bs.2.2;rw[e3];exact h1
 ·show y.bs.2.2≤_;rw[e3];exact h2
 ·show ByAt w y.bs.1 _;rw[e1];exact h3
 ·have:=hg.name;show y.e.f.name.length≤maxLen;unfold maxLen;omega
 ·have:=hg.stamp;exact wfI_of y.e.f.stamp (by omega) (by omega)
 ·have:=hg.node;exact wfI_of y.e.f.node (by omega) (by omega)
theorem exFs (ys:List Ex):(ys.map exF).map Prod.fst=(ys.map Ex.e).map Ent.f:=by rw[List.map_map,List.map_map];rfl
def GetR (R:Inf.Rd (List Fl)) (w:World) (e:Ending) (w':World):Prop:=
  (match R with
   | .bad z=>e=.returned (.tuple #[.slice none 0 0,.int .i64 z])
   | .ok l=>∃ v,e=.returned (.tuple #[v,.int .i64 0])∧Fs w' v l)∧Below w.heap.size w w'
def GetPost (b:List UInt8) (w:World) (e:Ending) (w':World):Prop:=GetR (readR b) w e w'
theorem int_beq (a b:Nat):((a:Int) == (b:Int))=(a == b):=by rw[Bool.eq_iff_iff,beq_iff_eq,beq_iff_eq];omega
set_option maxRecDepth 100000 in
set_option maxHeartbeats 4000000 in
theorem get_any (A:Option Addr) (n c:Nat) (b:List UInt8) (w:World) (hm:ML w) (hn:b.length=n) (hnc:n≤c) (hcm:c≤maxLen) (hA:ByAt w A b) :
  Calls Tryz.prog 14 #[.slice A n c] w (GetPost b w):=by
 by_cases h12:12000 < n
 ·have h12':(12000:Int) < (n:Int):=by omega
  have HR:=Lib.hid (read_long (show 12000 < b.length by rw[hn];exact h12))
  clear hn hA
  go_enter Tryz.func14,Tryz.ntmps14
  go_wp2_with fail
  go_ret2
  unfold GetPost GetR
  rw[HR.out]
  exact⟨rfl,Below.refl _ _⟩
 have h12':¬ (12000:Int) < (n:Int):=by omega
 have HE:=Lib.hid (entries_both A n c b w hn hnc hcm (by omega) hA)
 have HR:=Lib.hid (read_eq (show ¬ 12000 < b.length by rw[hn];exact h12))
 have hok:=entsO_ok b
 have HK:Hid (∀ e∈(entsO b).2,Good e∧e.f.bytes.length≤12000):=Lib.hid (fun e he=>⟨hok.good e he,hok.bytes (by rw[hn];omega) e he⟩)
 have hcount:=hok.count
 have Hm:=Lib.hid hm
 clear hn hA hok hm
 obtain⟨ok,hok⟩:∃ ok,ok=(entsO b).1:=⟨_,rfl⟩
 obtain⟨L,hL⟩:∃ L,L=(entsO b).2:=⟨_,rfl⟩
 obtain⟨R,hRe⟩:∃ R,R=readR b:=⟨_,rfl⟩
 unfold GetPost
 rw[←hRe]
 rw[←hok,←hL]at HE
 rw[←hok,←hL,←hRe]at HR
 rw[←hL]at HK hcount
 clear hok hL hRe
 obtain⟨B,hB⟩:∃ B,B=w.heap.size:=⟨_,rfl⟩
 rw[←hB]at HE
 have HB:=Lib.hid hB
 clear hB
 go_enter Tryz.func14,Tryz.ntmps14
 go_wp2_with fail
 refine (HE.out).mono ?_
 rintro e w1 ⟨⟨ys,vl,rfl,hys,hol,hby⟩,hb1⟩
 have Hys:=Lib.hid hys
 have HOl:=Lib.hid hol
 have HBy:=Lib.hid hby
 have Hb1:=Lib.hid hb1
 obtain⟨m,hm⟩:∃ m,m=ys.length:=⟨_,rfl⟩
 have hml:m≤13:=by
  have:=congrArg List.length hys
  rw[List.length_map]at this
  omega
 rw[←hm]at HOl
 have Hml:=Lib.hid hm
 obtain⟨Al,cl,rfl,hl1,hl2,_,_⟩:=own_slat HOl.out
 clear hys hol hby hb1 hm HE hcount
 go_wp2_with fail
 go_loopw [6,7,22] (fun vo vr vi wr=>∃ k,k≤m∧vi=.int .i64 (k:Int)∧vr=.bool (sumsE ((ys.take k).map Ex.e))∧wr.ownsRow B 36 5 vo k (((ys.take k).map exF).flatMap fC)∧wr.ownsRow B 78 9 (.slice Al m cl) m (ys.flatMap eC)∧(∀ y∈ys,OwnB wr B (slv y.bs) y.e.f.bytes)∧Below B w wr) (fun _ _ vi _=>m - (intOf vi).toNat)
 case atStart=>exact⟨0,Nat.zero_le _,rfl,rfl,World.ownsRow_nil _ _ _ _,HOl.out,HBy.out,Hb1.out⟩
 case round=>
  obtain⟨k,hk,rfl,rfl,ho,he,hby,hb⟩:=hrel
  obtain⟨sv,hsv⟩:∃ sv,sv=sumsE ((ys.take k).map Ex.e):=⟨_,rfl⟩
  rw[←hsv]
  have HSv:=Lib.hid hsv.symm
  clear hsv
  have HO:=Lib.hid ho
  have HE:=Lib.hid he
  have HX:=Lib.hid hby
  have Hb:=Lib.hid hb
  clear ho he hby hb HOl HBy Hb1
  by_cases hlt:k < m
  ·have hlt':(k:Int) < (m:Int):=by omega
   have hk0:(0:Int)≤(k:Int):=by omega
   have hkl:k < ys.length:=by rw[←Hml.out];exact hlt
   obtain⟨g,cap,hv,_,_⟩:=HE.out.form (by omega)
   injection hv with hv1 _ hv2
   subst hv1 hv2
   obtain⟨x,hx⟩:∃ x,x=ys[k]:=⟨_,rfl⟩
   have hxm:x∈ys:=by rw[hx];exact List.getElem_mem hkl
   have hsg:ys[k]?=some x:=by rw[hx];exact List.getElem?_eq_getElem hkl
   obtain⟨_,_,e1,_,_,hsl,_⟩:=own_slat HE.out
   injection e1 with e1 _ e2
   subst e1 e2
   obtain⟨c0,c1,c2,c3,c4,c5,c6,c7,c8⟩:=row_cells hsl hsg
   have HTk:Hid (ys.take (k+1)=ys.take k++[x]):=Lib.hid (by rw[List.take_succ_eq_append_getElem hkl,←hx])
   have HXx:=Lib.hid (HX.out x hxm)
   have hxL:x.e∈L:=by rw[←Hys.out];exact List.mem_map_of_mem hxm
   have HF3:=Lib.hid (HK.out x.e hxL).2
   unfold slv at c1 c6
   clear hx hsg hsl hxm hxL
   have hsr:B≤wr.heap.size:=by rw[HB.out];exact Hb.out.size
   go_upto_region 9 with fail
   have hB2:=Blk.new wr 78 #[.string (Name.strB x.e.f.name),.slice x.bs.1 x.bs.2.1 x.bs.2.2,.int .i64 x.e.f.stamp,.int .i64 x.e.f.node,.bool x.e.f.gone,.int .i64 (x.e.method:Int),.slice x.pk.1 x.pk.2.1 x.pk.2.2,.int .u32 (x.e.crc:Int),.int .i64 (x.at_:Int)]
   have hbel:Below wr.heap.size wr (wr.alloc (.cells #[.string (Name.strB x.e.f.name),.slice x.bs.1 x.bs.2.1 x.bs.2.2,.int .i64 x.e.f.stamp,.int .i64 x.e.f.node,.bool x.e.f.gone,.int .i64 (x.e.method:Int),.slice x.pk.1 x.pk.2.1 x.pk.2.2,.int .u32 (x.e.crc:Int),.int .i64 (x.at_:Int)] 78)):=(Below.refl _ _).alloc (Nat.le_refl _) _
   generalize wr.alloc (.cells #[.string (Name.strB x.e.f.name),.slice x.bs.1 x.bs.2.1 x.bs.2.2,.int .i64 x.e.f.stamp,.int .i64 x.e.f.node,.bool x.e.f.gone,.int .i64 (x.e.method:Int),.slice x.pk.1 x.pk.2.1 x.pk.2.2,.int .u32 (x.e.crc:Int),.int .i64 (x.at_:Int)] 78)=w2 at *
   have HB2:=Lib.hid hB2
   have HO2:=Lib.hid (own_keep HO.out hbel)
   have HE2:=Lib.hid (own_keep HE.out hbel)
   have HX2:Hid (∀ y∈ys,OwnB w2 B (slv y.bs) y.e.f.bytes):=Lib.hid (fun y hy=>own_keep (HX.out y hy) hbel)
   have HXx2:=Lib.hid (own_keep HXx.out hbel)
   have Hb2:=Lib.hid (Hb.out.trans (hbel.mono hsr))
   have hs2:B≤w2.heap.size:=Nat.le_trans hsr hbel.size
   have d0:w2.cell? ⟨wr.heap.size,0,none⟩=some (.string (Name.strB x.e.f.name)):=hB2.cell 0
   have d1:w2.cell? ⟨wr.heap.size,1,none⟩=some (.slice x.bs.1 x.bs.2.1 x.bs.2.2):=hB2.cell 1
   have d2:w2.cell? ⟨wr.heap.size,2,none⟩=some (.int .i64 x.e.f.stamp):=hB2.cell 2
   have d3:w2.cell? ⟨wr.heap.size,3,none⟩=some (.int .i64 x.e.f.node):=hB2.cell 3
   have d4:w2.cell? ⟨wr.heap.size,4,none⟩=some (.bool x.e.f.gone):=hB2.cell 4
   have hgs:wr.heap.size < w2.heap.size:=hB2.lt
   clear hB2 HO HE HX Hb HXx c0 c1 c2 c3 c4 c5 c6 c7 c8 hsr
   generalize wr.heap.size=ge at *
   have hbel3:Below w2.heap.size w2 (w2.alloc (.cells #[.string (Name.strB x.e.f.name),.slice x.bs.1 x.bs.2.1 x.bs.2.2,.int .i64 x.e.f.stamp,.int .i64 x.e.f.node,.bool x.e.f.gone] 36)):=(Below.refl _ _).alloc (Nat.le_refl _) _
   have HZ:Hid (SlAt (w2.alloc (.cells #[.string (Name.strB x.e.f.name),.slice x.bs.1 x.bs.2.1 x.bs.2.2,.int .i64 x.e.f.stamp,.int .i64 x.e.f.node,.bool x.e.f.gone] 36)) (some ⟨w2.heap.size,0,none⟩) (fC (exF x))):=Lib.hid (SlAt.of_heap (heap_alloc_new _ _) rfl)
   have HO3:=Lib.hid (own_keep HO2.out hbel3)
   have HE3:=Lib.hid (own_keep HE2.out hbel3)
   have HX3:Hid (∀ y∈ys,OwnB (w2.alloc (.cells #[.string (Name.strB x.e.f.name),.slice x.bs.1 x.bs.2.1 x.bs.2.2,.int .i64 x.e.f.stamp,.int .i64 x.e.f.node,.bool x.e.f.gone] 36)) B (slv y.bs) y.e.f.bytes):=Lib.hid (fun y hy=>own_keep (HX2.out y hy) hbel3)
   have HXx3:=Lib.hid (own_keep HXx2.out hbel3)
   have HB3:=Lib.hid (HB2.out.below hbel3 hgs)
   have Hb3:=Lib.hid (Hb2.out.trans (hbel3.mono hs2))
   have hs3:B≤(w2.alloc (.cells #[.string (Name.strB x.e.f.name),.slice x.bs.1 x.bs.2.1 x.bs.2.2,.int .i64 x.e.f.stamp,.int .i64 x.e.f.node,.bool x.e.f.gone] 36)).heap.size:=Nat.le_trans hs2 hbel3.size
   clear hbel hbel3 HO2 HE2 HX2 HXx2 HB2 Hb2
   go_wp2_with (at_builtin;refine wpList_app _ rfl (.tmp 26) (.tmp 29) _ rfl B 36 _ 5 64 CloneF.ty _ k (((ys.take k).map exF).flatMap fC) rfl HO3.out (some ⟨w2.heap.size,0,none⟩) 1 1 (fC (exF x)) rfl rfl HZ.out (fun u hu=>fCs_one [exF x] u (by simpa using hu)) (by simp) (by unfold maxLen;omega) (by omega) hs3 ?_;intro v4 w4 hown4 hg4 _;have Hk4:=Lib.hid ((Keeps.refl B [36] _).grown HO3.out hg4 (by simp) hs3);have HO4:=Lib.hid hown4;have HB4:=Lib.hid (Hk4.out.blk HB3.out (by decide));have d14:w4.cell? ⟨ge,1,none⟩=some (.slice x.bs.1 x.bs.2.1 x.bs.2.2):=HB4.out.cell 1;clear hown4 hg4)
   have HE4:=Lib.hid (Hk4.out.own HE3.out (by decide))
   have HX4:Hid (∀ y∈ys,OwnB w4 B (slv y.bs) y.e.f.bytes):=Lib.hid (fun y hy=>Hk4.out.own (HX3.out y hy) (by decide))
   have hXx4:OwnB w4 B (slv x.bs) x.e.f.bytes:=Hk4.out.own HXx3.out (by decide)
   have Hb4:=Lib.hid (Hb3.out.trans Hk4.out.below)
   have hs4:B≤w4.heap.size:=Nat.le_trans hs3 Hk4.out.size
   obtain⟨Ax,cx,hxe,q1,q2,q3,_⟩:=hXx4.slice
   unfold slv at hxe
   injection hxe with hx1 hx2 hx3
   have HC:=Lib.hid (Sum.crc_any 0#32 0 rfl x.bs.1 x.bs.2.1 x.bs.2.2 x.e.f.bytes w4 hx2.symm (by rw[hx2];exact HF3.out) (by rw[hx1];exact q3))
   clear hXx4 hx1 hx2 hx3 q1 q2 q3 HO3 HE3 HX3 HXx3 HB3 Hb3 HZ Hk4 hs3
   refine (HC.out).mono ?_
   rintro e w5 ⟨rfl,hb5⟩
   have HO5:=Lib.hid (own_keep HO4.out hb5)
   have HE5:=Lib.hid (own_keep HE4.out hb5)
   have HX5:Hid (∀ y∈ys,OwnB w5 B (slv y.bs) y.e.f.bytes):=Lib.hid (fun y hy=>own_keep (HX4.out y hy) hb5)
   have hB5:=HB4.out.below hb5 HB4.out.lt
   have Hb5:=Lib.hid (Hb4.out.trans (hb5.mono hs4))
   have d7:w5.cell? ⟨ge,7,none⟩=some (.int .u32 (x.e.crc:Int)):=hB5.cell 7
   obtain⟨ci,hcv⟩:∃ ci:Int,ci=n32 (Sum.crc 0#32 x.e.f.bytes):=⟨_,rfl⟩
   rw[←hcv]
   have Hcv:=Lib.hid (show ci=((sumN x.e.f.bytes:Nat):Int) from hcv)
   have HSn:Hid (sumsE ((ys.take (k+1)).map Ex.e)=(sv && (ci == (x.e.crc:Int)))):=Lib.hid (by
    rw[HTk.out,List.map_append,List.map_cons,List.map_nil,sumsE_snoc,HSv.out,hcv]
    congr 1
    exact (int_beq _ _).symm)
   have HO6:Hid (w5.ownsRow B 36 5 v4 (k+1) (((ys.take (k+1)).map exF).flatMap fC)):=Lib.hid (by
    have:=HO5.out
    rw[HTk.out]
    simpa only[List.map_append,List.map_cons,List.map_nil,List.flatMap_append,List.flatMap_cons,List.flatMap_nil,List.append_nil] using this)
   clear hcv hb5 hB5 HC HO4 HE4 HX4 HB4 Hb4 d0 d1 d2 d3 d4 d14 HO5
   cases sv with
   | false=>
    go_wp2_with fail
    go_roundw
    case rel=>exact⟨k+1,by omega,by go_num,by rw[HSn.out];rfl,HO6.out,HE5.out,HX5.out,Hb5.out⟩
    case measure=>simp[intOf];omega
   | true=>
    go_wp2_with fail
    go_roundw
    case rel=>exact⟨k+1,by omega,by go_num,by rw[HSn.out];rfl,HO6.out,HE5.out,HX5.out,Hb5.out⟩
    case measure=>simp[intOf];omega
  ·have hlt':¬ (k:Int) < (m:Int):=by omega
   obtain rfl:k=m:=by omega
   have htk:ys.take k=ys:=by rw[Hml.out];exact List.take_length
   rw[htk]at HO HSv
   rw[Hys.out]at HSv
   have hfs:(ys.map exF).map Prod.fst=L.map Ent.f:=by rw[exFs,Hys.out]
   have HF:Hid (IsFiles wr _ (ys.map exF)):=Lib.hid (own_files HO.out (by rw[List.length_map];exact Hml.out.symm) (fun f hf=>by
    obtain⟨y,hy,rfl⟩:=List.mem_map.1 hf
    exact exF_at (HK.out y.e (by rw[←Hys.out];exact List.mem_map_of_mem hy)).1 (HX.out y hy)))
   have hFs:=HF.out.fs
   rw[hfs]at hFs
   have HFs:=Lib.hid hFs
   have HC:=Lib.hid (check_any _ (ys.map exF) wr (Hm.out.below (by rw[←HB.out];exact Hb.out)) HF.out)
   rw[hfs]at HC
   clear hfs htk hFs HO HE HX
   obtain⟨z,hz⟩:∃ z,z=chkF (L.map Ent.f):=⟨_,rfl⟩
   rw[←hz]at HC HR
   rw[HSv.out]at HR
   clear hz
   cases ok with
   | false=>
    replace HR:=Lib.hid (show R=.bad 7 from HR.out.trans (if_pos rfl))
    go_wp2_with fail
    go_ret2
    unfold GetR
    rw[HR.out]
    exact⟨rfl,by rw[←HB.out];exact Hb.out⟩
   | true=>
    replace HR:=Lib.hid (HR.out.trans (if_neg (by simp)))
    go_wp2_with fail
    refine (HC.out).mono ?_
    rintro e w2 ⟨rfl,hb2⟩
    have Hb2:=Lib.hid (Hb.out.trans (hb2.mono (by rw[HB.out];exact Hb.out.size)))
    have HFs2:=Lib.hid (HFs.out.below hb2)
    clear hb2 HC HF HFs Hb
    by_cases hz:z=0
    ·replace HR:=Lib.hid (HR.out.trans (if_neg (fun h=>h hz)))
     subst hz
     cases sv with
     | false=>
      replace HR:=Lib.hid (show R=.bad 10 from HR.out.trans (if_neg (by simp)))
      go_wp2_with fail
      go_ret2
      unfold GetR
      rw[HR.out]
      exact⟨rfl,by rw[←HB.out];exact Hb2.out⟩
     | true=>
      replace HR:=Lib.hid (show R=.ok (L.map Ent.f) from HR.out.trans (if_pos rfl))
      go_wp2_with fail
      go_ret2
      unfold GetR
      rw[HR.out]
      exact⟨⟨_,rfl,HFs2.out⟩,by rw[←HB.out];exact Hb2.out⟩
    ·replace HR:=Lib.hid (show R=.bad 7 from HR.out.trans (if_pos hz))
     have hz1:(z != 0)=true:=by simpa using hz
     go_wp2_with fail
     go_ret2
     unfold GetR
     rw[HR.out]
     exact⟨rfl,by rw[←HB.out];exact Hb2.out⟩
end Go.Proofs.YtabdianhoabhhaaGreatDoor.Zip
namespace Go.Proofs.YtabdianhoabhhaaGreatDoor.Zip
open Go Go.RowKit Go.Proofs.YtabdianhoabhhaaGreatDoor Go.Proofs.YtabdianhoabhhaaGreatDoor.Bits Go.Proofs.YtabdianhoabhhaaGreatDoor.Merge Go.Proofs.YtabdianhoabhhaaGreatDoor.Name
set_option linter.unusedVariables false
set_option linter.unusedSimpArgs false
theorem tySt:SliceTy Tryz.prog 47 9 (.string ByteArray.empty) 1 16:=⟨Tryz.underlying47,by kernel_rfl,rfl,by omega⟩
theorem read_nz {b:List UInt8} {z:Int} (h:readR b=.bad z):z=2∨z=7∨z=10:=by
 by_cases hl:12000 < b.length
 ·rw[read_long hl]at h;injection h with h;exact .inl h.symm
 ·rw[read_eq hl]at h
  split at h
  ·injection h with h;exact .inr (.inl h.symm)
  ·split at h
   ·injection h with h;exact .inr (.inl h.symm)
   ·split at h
    ·cases h
    ·injection h with h;exact .inr (.inr h.symm)
def nmV (x:Fx):Value:=sv x.1.name
def NamesPost (b:List UInt8) (w:World) (e:Ending) (w':World):Prop:=
  (match readR b with
   | .bad z=>e=.returned (.tuple #[.slice none 0 0,.int .i64 z])
   | .ok l=>∃ v,e=.returned (.tuple #[v,.int .i64 0])∧w'.ownsRow w.heap.size 9 1 v l.length (l.map fun f=>sv f.name))∧Below w.heap.size w w'
set_option maxRecDepth 100000 in
set_option maxHeartbeats 2000000 in
theorem names_any (A:Option Addr) (n c:Nat) (b:List UInt8) (w:World) (hm:ML w) (hn:b.length=n) (hnc:n≤c) (hcm:c≤maxLen) (hA:ByAt w A b) :
  Calls Tryz.prog 23 #[.slice A n c] w (NamesPost b w):=by
 have HG:=Lib.hid (get_any A n c b w hm hn hnc hcm hA)
 clear hn hA hm
 go_enter Tryz.func23,Tryz.ntmps23
 go_wp2_with fail
 refine (HG.out).mono ?_
 rintro e w1 ⟨hr,hb1⟩
 have Hb1:=Lib.hid hb1
 clear HG hb1
 cases hR:readR b with
 | bad z=>
  rw[hR]at hr
  obtain rfl:=hr
  have hz1:(z != 0)=true:=by have:=read_nz hR;simp;omega
  have HR:=Lib.hid hR
  clear hR
  go_wp2_with fail
  go_ret2
  refine⟨?_,Hb1.out⟩
  rw[HR.out]
  rfl
 | ok l=>
  rw[hR]at hr
  obtain⟨v,rfl,hv⟩:=hr
  obtain⟨lx,⟨A1,c1,rfl,h1,h2,h3,h4,h5⟩,hl⟩:=hv
  have HR:=Lib.hid hR
  have HA:=Lib.hid h3
  have Hl:=Lib.hid hl
  obtain⟨m,hm⟩:∃ m,m=lx.length:=⟨_,rfl⟩
  rw[←hm]at h1⊢
  have Hm:=Lib.hid hm
  have hl12:m≤12:=by
   have:=(chk_file (read_ok hR).2.1).1
   rw[←hl,List.length_map,←hm]at this
   exact this
  clear hR h3 h4 h5 hl hm
  go_wp2_with fail
  go_loopw [6,19] (fun vo vi wr=>∃ k,k≤m∧vi=.int .i64 (k:Int)∧wr.ownsRow w1.heap.size 9 1 vo k ((lx.take k).map nmV)∧Below w1.heap.size w1 wr) (fun _ vi _=>m - (intOf vi).toNat)
  case atStart=>exact⟨0,Nat.zero_le _,rfl,World.ownsRow_nil _ _ _ _,Below.refl _ _⟩
  case round=>
   obtain⟨k,hk,rfl,ho,hb⟩:=hrel
   have HO:=Lib.hid ho
   have Hb:=Lib.hid hb
   clear ho hb
   by_cases hlt:k < m
   ·have hlt':(k:Int) < (m:Int):=by omega
    have hk0:(0:Int)≤(k:Int):=by omega
    have hkl:k < lx.length:=by rw[←Hm.out];exact hlt
    obtain⟨a,o,rfl,c0,c1,c2,c3,c4⟩:=files_cells (HA.out.below Hb.out) hkl
    obtain⟨f,hf⟩:∃ f,f=lx[k]:=⟨_,rfl⟩
    have HTk:Hid (lx.take (k+1)=lx.take k++[f]):=Lib.hid (by rw[List.take_succ_eq_append_getElem hkl,←hf])
    rw[←hf]at c0 c1 c2 c3 c4
    clear hf
    unfold slv at c1
    have hsr:w1.heap.size≤wr.heap.size:=Hb.out.size
    go_upto_region 8 with fail
    have hB2:=Blk.new wr 36 #[.string (Name.strB f.1.name),.slice f.2.1 f.2.2.1 f.2.2.2,.int .i64 f.1.stamp,.int .i64 f.1.node,.bool f.1.gone]
    have hbel:Below wr.heap.size wr (wr.alloc (.cells #[.string (Name.strB f.1.name),.slice f.2.1 f.2.2.1 f.2.2.2,.int .i64 f.1.stamp,.int .i64 f.1.node,.bool f.1.gone] 36)):=(Below.refl _ _).alloc (Nat.le_refl _) _
    generalize wr.alloc (.cells #[.string (Name.strB f.1.name),.slice f.2.1 f.2.2.1 f.2.2.2,.int .i64 f.1.stamp,.int .i64 f.1.node,.bool f.1.gone] 36)=w2 at *
    have HO2:=Lib.hid (own_keep HO.out hbel)
    have Hb2:=Lib.hid (Hb.out.trans (hbel.mono hsr))
    have hs2:w1.heap.size≤w2.heap.size:=Hb2.out.size
    have d0:w2.cell? ⟨wr.heap.size,0,none⟩=some (.string (Name.strB f.1.name)):=hB2.cell 0
    clear hB2 HO Hb c0 c1 c2 c3 c4 hsr
    generalize wr.heap.size=ge at *
    have hbel3:Below w2.heap.size w2 (w2.alloc (.cells #[.string (Name.strB f.1.name)] 9)):=(Below.refl _ _).alloc (Nat.le_refl _) _
    have HZ:Hid (SlAt (w2.alloc (.cells #[.string (Name.strB f.1.name)] 9)) (some ⟨w2.heap.size,0,none⟩) [nmV f]):=Lib.hid (SlAt.of_heap (heap_alloc_new _ _) rfl)
    have HO3:=Lib.hid (own_keep HO2.out hbel3)
    have Hb3:=Lib.hid (Hb2.out.trans (hbel3.mono hs2))
    have hs3:w1.heap.size≤(w2.alloc (.cells #[.string (Name.strB f.1.name)] 9)).heap.size:=Nat.le_trans hs2 hbel3.size
    clear hbel hbel3 HO2 Hb2
    go_wp2_with (at_builtin;refine wpList_app _ rfl (.tmp 23) (.tmp 26) _ rfl w1.heap.size 9 _ 1 16 tySt _ k ((lx.take k).map nmV) rfl HO3.out (some ⟨w2.heap.size,0,none⟩) 1 1 [nmV f] rfl rfl HZ.out (by simp[nmV,sv,Value.oneCell']) (by simp) (by unfold maxLen;omega) (by omega) hs3 ?_;intro v4 w4 hown4 hg4 _;have Hk4:=Lib.hid ((Keeps.refl w1.heap.size [9] _).grown HO3.out hg4 (by simp) hs3);have HO4:=Lib.hid hown4;clear hown4 hg4)
    have Hb4:=Lib.hid (Hb3.out.trans Hk4.out.below)
    go_roundw
    case rel=>exact⟨k+1,by omega,by go_num,by rw[HTk.out,List.map_append];exact HO4.out,Hb4.out⟩
    case measure=>simp[intOf];omega
   ·have hlt':¬ (k:Int) < (m:Int):=by omega
    obtain rfl:k=m:=by omega
    have htk:lx.take k=lx:=by rw[Hm.out];exact List.take_length
    rw[htk]at HO
    clear htk
    go_wp2_with fail
    go_ret2
    refine⟨?_,Hb1.out.trans (Hb.out.mono Hb1.out.size)⟩
    rw[HR.out]
    refine⟨_,rfl,?_⟩
    have:=own_base HO.out Hb1.out.size
    rw[←Hl.out,List.length_map,←Hm.out,List.map_map]
    exact this
end Go.Proofs.YtabdianhoabhhaaGreatDoor.Zip
namespace Go.Proofs
open Go.Shelf
def YtabdianhoabhhaaGreatDoor.lays193_ren:Go.Shelf.Ren:=⟨fun | 193=>25 | n=>n,fun | 31=>47 | 9=>9 | 4=>4 | 3=>3 | 0=>0 | n=>n,fun | n=>n⟩
theorem YtabdianhoabhhaaGreatDoor.lays193:Go.Proofs.Lays.n193 Tryz.prog YtabdianhoabhhaaGreatDoor.lays193_ren:={
 mixed:=by kernel_rfl
 f193:=Tryz.func25.trans (congrArg some (by kernel_rfl))
 t0:=Tryz.underlying0
 a0:=Tryz.isAgg0
 z0:=Tryz.sizeOf0
 v0:=Tryz.zeroValue0
 t3:=Tryz.underlying3
 a3:=Tryz.isAgg3
 z3:=Tryz.sizeOf3
 v3:=Tryz.zeroValue3
 t4:=Tryz.underlying4
 a4:=Tryz.isAgg4
 z4:=Tryz.sizeOf4
 v4:=Tryz.zeroValue4
 t9:=Tryz.underlying9
 a9:=Tryz.isAgg9
 z9:=Tryz.sizeOf9
 v9:=Tryz.zeroValue9
 t31:=Tryz.underlying47
 a31:=Tryz.isAgg47
 z31:=Tryz.sizeOf47
 v31:=Tryz.zeroValue47 }
end Go.Proofs
namespace Go.Proofs.YtabdianhoabhhaaGreatDoor.Zip
open Go Go.RowKit Go.Proofs.YtabdianhoabhhaaGreatDoor Go.Proofs.YtabdianhoabhhaaGreatDoor.Name
set_option linter.unusedVariables false
theorem cells_strs {w:World} {b o:Nat} {xs:List (List UInt8)} (h:∀ j v,(xs.map sv)[j]?=some v→w.cell? ⟨b,o+j,none⟩=some v):∀ j,j < (xs.map Name.strB).length→w.cell? ⟨b,o+j,none⟩=some (.string ((xs.map Name.strB).getD j ByteArray.empty)):=by
 intro j hj
 rw[List.length_map]at hj
 rw[h j (sv xs[j]) (by rw[List.getElem?_map,List.getElem?_eq_getElem hj];rfl)]
 simp[sv,List.getD_eq_getElem?_getD,hj]
theorem equal_strs (A B:Option Addr) (n c d:Nat) (xs ys:List (List UInt8)) (w:World) (hx:xs.length=n) (hy:ys.length=n) (hn:n≤4000000) (hA:SlAt w A (xs.map sv)) (hB:SlAt w B (ys.map sv)) :
  Calls Tryz.prog 25 #[.slice A n c,.slice B n d] w fun e w'=>e=.returned (.bool (decide (xs=ys)))∧∃ q,w'=w.drewN q:=by
 by_cases h0:n=0
 ·subst h0
  have hx0:xs=[]:=List.eq_nil_of_length_eq_zero hx
  have hy0:ys=[]:=List.eq_nil_of_length_eq_zero hy
  subst hx0 hy0
  have cc:Calls Tryz.prog 25 #[.slice A 0 c,.slice B 0 d] w _:=Any.slices_Equal_string_empty YtabdianhoabhhaaGreatDoor.lays193 A B c 0 d w (by omega)
  refine cc.mono ?_
  rintro e w' ⟨rfl,rfl⟩
  exact⟨ret_bool (by decide),0,rfl⟩
 ·obtain⟨b1,o1,rfl,h1⟩:=hA (by rw[List.length_map];omega)
  obtain⟨b2,o2,rfl,h2⟩:=hB (by rw[List.length_map];omega)
  have cc:Calls Tryz.prog 25 #[.slice (some ⟨b1,o1,none⟩) n c,.slice (some ⟨b2,o2,none⟩) n d] w _:=
   Any.slices_Equal_string YtabdianhoabhhaaGreatDoor.lays193 b1 o1 n c b2 o2 n d (xs.map Name.strB) (ys.map Name.strB) w (by rw[List.length_map];omega) (by rw[List.length_map];omega) (by omega) (by omega) (cells_strs h1) (cells_strs h2)
  refine cc.mono ?_
  rintro e w' ⟨rfl,hq⟩
  refine⟨ret_bool ?_,hq⟩
  rw[List.take_of_length_le (by rw[List.length_map];omega),List.take_of_length_le (by rw[List.length_map];omega)]
  apply decide_eq_decide.2
  constructor
  ·intro h
   have:=congrArg (List.map fun b:ByteArray=>b.data.toList) h
   rw[List.map_map,List.map_map]at this
   have e:∀ l:List (List UInt8),l.map ((fun b:ByteArray=>b.data.toList) ∘ Name.strB)=l:=fun l=>by
    conv=>rhs;rw[←List.map_id l]
    apply List.map_congr_left
    intro x _;simp[Name.strB]
   rwa [e,e]at this
  ·intro h;rw[h]
end Go.Proofs.YtabdianhoabhhaaGreatDoor.Zip
namespace Go.Proofs.YtabdianhoabhhaaGreatDoor.Zip
open Go Go.RowKit Go.Proofs.YtabdianhoabhhaaGreatDoor Go.Proofs.YtabdianhoabhhaaGreatDoor.Bits Go.Proofs.YtabdianhoabhhaaGreatDoor.Merge Go.Proofs.YtabdianhoabhhaaGreatDoor.Name
set_option linter.unusedVariables false
set_option linter.unusedSimpArgs false
set_option linter.constructorNameAsVariable false
def fX:Fl:=⟨[97],[120,121],3,0,false⟩
theorem arch_write:∃ b,writeR bestX [fX]=.ok b∧b.length=124∧readR b=.ok [fX]:=by
 have hc:chkF [fX]=0:=by decide +kernel
 have hw:writeE bestX [fX]=[⟨fX,0,[120,121],sumN [120,121]⟩]:=by
  unfold writeE
  rw[List.map_cons,List.map_nil,small_as_is fX (by decide)]
  rfl
 have hl:(laidB (writeE bestX [fX])).length=124:=by rw[hw,laid_len];rfl
 have h:writeR bestX [fX]=.ok (laidB (writeE bestX [fX])):=by
  unfold writeR
  rw[if_neg (fun h=>h hc),if_neg (by omega)]
 exact⟨_,h,hl,read_write packs_best h⟩
set_option maxRecDepth 100000 in
set_option maxHeartbeats 2000000 in
theorem archived_any (w:World) (hm:ML w) :
  Calls Tryz.prog 13 #[] w fun e w'=>e=.returned (.bool true)∧Below w.heap.size w w':=by
 obtain⟨b,hwr,hlen,hrd⟩:=arch_write
 have Hm:=Lib.hid hm
 have Hlen:=Lib.hid hlen
 clear hm
 obtain⟨w2,hw2⟩:∃ w2,w2=(w.alloc (.cells #[.int .u8 120,.int .u8 121] 5 (2,3))).alloc (.cells #[.string ⟨#[97]⟩,.slice (some ⟨w.heap.size,0,none⟩) 2 2,.int .i64 3,.int .i64 0,.bool false] 36):=⟨_,rfl⟩
 have hb2:Below w.heap.size w w2:=by rw[hw2];exact ((Below.refl _ _).alloc (Nat.le_refl _) _).alloc (by simp) _
 have B2:Blk w2 (w.heap.size+1) 36 ([((fX,some ⟨w.heap.size,0,none⟩,2,2):Fx)].flatMap fC).toArray:=by
  rw[hw2]
  have:=Blk.new (w.alloc (.cells #[.int .u8 120,.int .u8 121] 5 (2,3))) 36 ([((fX,some ⟨w.heap.size,0,none⟩,2,2):Fx)].flatMap fC).toArray
  rw[show (w.alloc (.cells #[.int .u8 120,.int .u8 121] 5 (2,3))).heap.size=w.heap.size+1 by simp]at this
  exact this
 have hbs:ByAt w2 (some ⟨w.heap.size,0,none⟩) [120,121]:=by
  rw[hw2]
  exact SlAt.alloc (ByAt.of_new w 5 #[.int .u8 120,.int .u8 121] (2,3) (xs:=[120,121]) rfl) _
 have F2:=files_blk (n:=1) B2 rfl (by omega) (fun x hx=>by
  rw[List.mem_singleton]at hx
  subst hx
  exact⟨rfl,Nat.le_refl 2,by show 2≤maxLen;decide,hbs,by show [(97:UInt8)].length≤maxLen;decide,rfl,rfl⟩)
 have HP:=Lib.hid (put_any _ _ _ (Hm.out.below hb2) F2)
 have Hb2:=Lib.hid hb2
 have Hw2:=Lib.hid hw2.symm
 have kk:=fun (w:World) (C:Array Value) (n c:Nat)=>Lib.run_convert_bytes_const (P:=Tryz.prog) w 23 5 C n c Tryz.underlying23 Tryz.underlying5
 clear hb2 hw2 B2 F2 hbs
 go_enter Tryz.func13,Tryz.ntmps13
 go_wp2_with fail
 rw[Hw2.out]
 refine (HP.out).mono ?_
 rintro e w3 ⟨hp,hb3⟩
 rw[show ([((fX,some ⟨w.heap.size,0,none⟩,2,2):Fx)]:List Fx).map Prod.fst=[fX] from rfl,hwr]at hp
 obtain⟨vb,rfl,ho⟩:=hp
 have Hb3:=Lib.hid (Hb2.out.trans (hb3.mono Hb2.out.size))
 obtain⟨A3,c3,rfl,h31,h32,h33,_⟩:=ho.slice
 rw[hlen]at h31⊢
 have H33:=Lib.hid h33
 clear HP ho hb3 h33 kk Hw2
 go_wp2_with fail
 refine (get_any A3 124 c3 b w3 (Hm.out.below Hb3.out) Hlen.out h31 h32 H33.out).mono ?_
 rintro e w4 ⟨hr,hb4⟩
 rw[hrd]at hr
 obtain⟨v4,rfl,hv4⟩:=hr
 have Hv4:=Lib.hid hv4
 have Hb4:=Lib.hid (Hb3.out.trans (hb4.mono Hb3.out.size))
 have H34:=Lib.hid (ByAt.below H33.out hb4)
 clear hv4 hb4 H33
 go_wp2_with fail
 refine (names_any A3 124 c3 b w4 (Hm.out.below Hb4.out) Hlen.out h31 h32 H34.out).mono ?_
 rintro e w5 ⟨hr,hb5⟩
 rw[hrd]at hr
 obtain⟨v5,rfl,ho5⟩:=hr
 have hv5:=Hv4.out.below hb5
 have Hb5:=Lib.hid (Hb4.out.trans (hb5.mono Hb4.out.size))
 obtain⟨lx,⟨A4,c4,rfl,g1,g2,g3,_,g5⟩,hlx⟩:=hv5
 obtain⟨s,rfl⟩:=map_one hlx
 have hfa:=g5 (fX,s) (by simp)
 obtain⟨b1,q1,rfl,p0,p1,p2,p3,p4⟩:=files_cells g3 (k:=0) (by simp)
 have p1':w5.cell? ⟨b1,q1+1,none⟩=some (.slice s.1 s.2.1 s.2.2):=p1
 have p2':w5.cell? ⟨b1,q1+2,none⟩=some (.int .i64 3):=p2
 have hs2:s.2.1=2:=hfa.len
 have hcv:=conv_bytes s.1 2 s.2.2 [120,121] w5 rfl hfa.at_
 rw[hs2]at p1'
 have hts:(strB [120,121]).toList=[120,121]:=by rw[ByteArray.toList_eq];rfl
 obtain⟨A5,c5,rfl,h51,h52,h53,_⟩:=own_slat ho5
 have HS5:=Lib.hid (SlAt.alloc h53 (.cells #[.string (Name.strB [97])] 9))
 have HB5:=Lib.hid (blk_slat (w:=w5.alloc (.cells #[.string (Name.strB [97])] 9)) (cs:=[[97]].map sv) (Blk.new w5 9 #[.string (Name.strB [97])]))
 clear p0 p1 p2 p3 p4 g3 g5 ho5 h53 hlx hfa hwr hrd
 simp only[List.length_cons,List.length_nil]
 go_wp2_with fail
 refine (equal_strs _ _ 1 c5 1 [[97]] [[97]] _ rfl rfl (by omega) HS5.out HB5.out).mono ?_
 rintro e w6 ⟨rfl,q,rfl⟩
 go_wp2_with fail
 go_ret
 exact⟨rfl,(Hb5.out.alloc Hb5.out.size _).drewN' q⟩
end Go.Proofs.YtabdianhoabhhaaGreatDoor.Zip
