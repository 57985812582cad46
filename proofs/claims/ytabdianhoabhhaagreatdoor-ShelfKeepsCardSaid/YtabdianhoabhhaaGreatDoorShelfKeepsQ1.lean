/- texts joined: Mem App BitsPure CodePure InfPure InAt Open CodeCheck Keep Nats BlkFixed MatchPure BlkPure Read Pairs BlkSym BlkSum Kat. -/
import Derived.Test.YtabdianhoabhhaaGreatDoorSkWords
import Derived.Lib.Hide
import Derived.Deep.Draws
import Derived.Maps.AppendAt
import Derived.Deep.AppendLies
import Derived.Laws.MakeOwn
import Derived.Laws.OwnMore
import Derived.Test.YtabdianhoabhhaaGreatDoorProg
import Derived.WalkSpells
import Derived.Deep.QuietTactic
import Derived.BigQuiet
import Derived.ProofKit
import Derived.OpenShut
import Derived.ShutString
import Derived.ChangeOld
import Derived.JoinedCond
import Derived.Test.YtabdianhoabhhaaGreatDoorSkWeighPure
import Derived.Deep.Slices
namespace Go.Proofs.YtabdianhoabhhaaGreatDoor
open Go Go.RowKit
def AQ (w:World) (A:Option Addr) (cs:List Value):Prop:=
 0 < cs.length→∃ b o,A=some ⟨b,o,none⟩∧∀ j v,cs[j]?=some v→w.cell? ⟨b,o+j,none⟩=some v
theorem AQ.keep {w w':World} {A:Option Addr} {cs:List Value} (h:AQ w A cs)
  (hk:∀ p v,w.cell? p=some v→w'.cell? p=some v):AQ w' A cs:=fun hp=>by
 obtain⟨b,o,e,hc⟩:=h hp
 exact⟨b,o,e,fun j v hj=>hk _ _ (hc j v hj)⟩
theorem cell_below {w w':World} (hb:Below w.heap.size w w') {p:Addr} {v:Value} (h:w.cell? p=some v):w'.cell? p=some v:=by
 rw[hb.cell (block_lt_of_cell h)];exact h
theorem AQ.below {w w':World} {A:Option Addr} {cs:List Value} (h:AQ w A cs) (hb:Below w.heap.size w w'):AQ w' A cs:=
 h.keep fun _ _ hc=>cell_below hb hc
theorem AQ.alloc {w:World} {A:Option Addr} {cs:List Value} (h:AQ w A cs) (o:Obj):AQ (w.alloc o) A cs:=h.below ((Below.refl _ _).alloc (Nat.le_refl _) _)
theorem AQ.drewN {w:World} {A:Option Addr} {cs:List Value} (h:AQ w A cs) (n:Nat):AQ (w.drewN n) A cs:=h
theorem AQ.nil {w:World} {A:Option Addr}:AQ w A []:=fun h=>absurd h (by simp)
theorem AQ.get {w:World} {A:Option Addr} {cs:List Value} (h:AQ w A cs) {k:Nat} (hk:k < cs.length) :
  ∃ b o,A=some ⟨b,o,none⟩∧w.cell? ⟨b,o+k,none⟩=some cs[k]:=by
 obtain⟨b,o,e,hc⟩:=h (by omega)
 exact⟨b,o,e,hc k _ (by simp[hk])⟩
def Eh (x:UInt8):Value:=.int .u8 (n8 x)
def BI (w:World) (A:Option Addr) (xs:List UInt8):Prop:=AQ w A (xs.map Eh)
theorem BI.below {w w':World} {A:Option Addr} {xs:List UInt8} (h:BI w A xs) (hb:Below w.heap.size w w'):BI w' A xs:=AQ.below h hb
theorem AQ.take {w:World} {A:Option Addr} {cs:List Value} (h:AQ w A cs) (n:Nat):AQ w A (cs.take n):=fun hp=>by
 obtain⟨b,o,e,hc⟩:=h (by simp at hp;omega)
 refine⟨b,o,e,fun j v hj=>hc j v ?_⟩
 rw[List.getElem?_take]at hj
 split at hj
 ·exact hj
 ·cases hj
theorem AQ.drop {w:World} {b o:Nat} {cs:List Value} (h:AQ w (some ⟨b,o,none⟩) cs) (n:Nat):AQ w (some ⟨b,o+n,none⟩) (cs.drop n):=fun hp=>by
 obtain⟨b',o',e,hc⟩:=h (by simp at hp;omega)
 injection e with e;injection e with e1 e2 e3
 subst e1 e2
 refine⟨b,o+n,rfl,fun j v hj=>?_⟩
 rw[List.getElem?_drop]at hj
 rw[Nat.add_assoc]
 exact hc _ _ hj
theorem BI.take {w:World} {A:Option Addr} {xs:List UInt8} (h:BI w A xs) (n:Nat):BI w A (xs.take n):=by
 unfold BI;rw[List.map_take];exact AQ.take h n
theorem BI.drop {w:World} {b o:Nat} {xs:List UInt8} (h:BI w (some ⟨b,o,none⟩) xs) (n:Nat):BI w (some ⟨b,o+n,none⟩) (xs.drop n):=by
 unfold BI;rw[List.map_drop];exact AQ.drop h n
theorem BI.get {w:World} {A:Option Addr} {xs:List UInt8} (h:BI w A xs) {k:Nat} (hk:k < xs.length) :
  ∃ b o,A=some ⟨b,o,none⟩∧w.cell? ⟨b,o+k,none⟩=some (.int .u8 (n8 xs[k])):=by
 obtain⟨b,o,e,hc⟩:=AQ.get h (k:=k) (by simpa using hk)
 exact⟨b,o,e,by rw[hc];simp[Eh]⟩
theorem C9 {k:IntKind} {a b:Int} (h:a=b):Ending.returned (.int k a)=.returned (.int k b):=by rw[h]
theorem DN {a b:Bool} (h:a=b):Ending.returned (.bool a)=.returned (.bool b):=by rw[h]
theorem int_eq {k:IntKind} {a b:Int} (h:a=b):Value.int k a=Value.int k b:=by rw[h]
theorem BJ {α:Type} (l:List α) (k:Nat) (h:k < l.length):l.take (k+1)=l.take k++[l[k]]:=by
 rw[List.take_succ_eq_append_getElem h]
def AV (w:World) (g:Nat) (t:TypeId) (cs:Array Value):Prop:=w.heap[g]?=some (.cells cs t (0,0))
section
variable {w w':World} {g:Nat} {t:TypeId} {cs:Array Value}
theorem AV.lt (h:AV w g t cs):g < w.heap.size:=lt_of_block h
theorem AV.cell (h:AV w g t cs) (i:Nat):w.cell? ⟨g,i,none⟩=cs[i]?:=cell_of_row w g i cs t (0,0) h
theorem AV.frozen (h:AV w g t cs) (i:Nat):w.frozen? ⟨g,i,none⟩=false:=by unfold AV at h;simp[World.frozen?,h]
theorem AV.new (w:World) (t:TypeId) (cs:Array Value):AV (w.alloc (.cells cs t)) w.heap.size t cs:=heap_alloc_new w _
theorem AV.drew (h:AV w g t cs):AV w.drew g t cs:=h
theorem AV.drewN (h:AV w g t cs) (n:Nat):AV (w.drewN n) g t cs:=h
theorem AV.alloc (h:AV w g t cs) (o:Obj):AV (w.alloc o) g t cs:=(Below.heap_alloc w o g h.lt).trans h
theorem AV.Ca (h:AV w g t cs) (i:Nat) (u:Value):AV (w.setCell ⟨g,i,none⟩ u) g t (cs.setIfInBounds i u):=by
 unfold AV at h⊢;simp[World.setCell,Array.getElem?_modify,h]
theorem AV.far (h:AV w g t cs) {p:Addr} (hp:g≠p.block) (u:Value):AV (w.setCell p u) g t cs:=(Below.heap_setCell w p u g hp).trans h
theorem AV.below {B:Nat} (h:AV w g t cs) (hb:Below B w w') (hg:g < B):AV w' g t cs:=(hb.block g hg).trans h
theorem AV.setRow (h:AV w g t cs) (ds:Array Value):AV (w.setRow g ds) g t ds:=setRow_heap w g cs ds t _ h
end
theorem AQ.of_heap {w:World} {g:Nat} {t:TypeId} {cs:Array Value} {fr:Nat×Nat} {xs:List Value} (h:w.heap[g]?=some (.cells cs t fr)) (e:cs.toList=xs):AQ w (some ⟨g,0,none⟩) xs:=fun _=>
 ⟨g,0,rfl,fun j v hj=>by rw[cell_of_row w g _ cs t fr h,←hj,←e];simp⟩
end Go.Proofs.YtabdianhoabhhaaGreatDoor
namespace Go.Proofs.YtabdianhoabhhaaGreatDoor
open Go Go.RowKit
def Bj (P:Program) (t e:TypeId) (z:Value) (size bytes:Nat):Prop:=
 P.underlying t=some (.slice e)∧(P.info? e).map (fun i=>(i.zero,i.size,i.bytes))=some (some z,size,bytes)∧z.cells.size=size∧0 < size
theorem Bj.parts {P:Program} {t e:TypeId} {z:Value} {size bytes:Nat} (h:Bj P t e z size bytes) :
  P.underlying t=some (.slice e)∧∃ i,P.info? e=some i∧i.zero=some z∧i.size=size∧i.bytes=bytes∧z.cells.size=size∧0 < size:=by
 obtain⟨h1,h2,h3,h4⟩:=h
 obtain⟨i,hi,hz,hs,hb⟩:=info_parts h2
 exact⟨h1,i,hi,hz,hs,hb,h3,h4⟩
section
variable {P:Program} (w:World)
theorem Oj (base:Nat) (t ty e:TypeId) (i:TypeInfo) (size:Nat) (ht:P.underlying t=some (.slice e)) (hi:P.info? e=some i)
  (v:Value) (n:Nat) (xs:List Value) (hown:w.ownsRow base e size v n xs) (c:Nat):(Builtin.append_ #[t,t] ty #[v,.slice none 0 c]).run P w=.ok v w:=by
 rcases hown.2 with ⟨rfl,rfl⟩ | ⟨g,cap,cur,rfl,_,_,hnc,_⟩
 ·simp[Builtin.append_,run_underlying ht,sizeOf,typeInfo,hi,Builtin.lenOf,Builtin.firstCells]
 ·simp[Builtin.append_,run_underlying ht,sizeOf,typeInfo,hi,Builtin.lenOf,Builtin.firstCells,hnc,storeCells]
theorem GM (base:Nat) (t ty e:TypeId) (z:Value) (size bytes:Nat) (hT:Bj P t e z size bytes)
  (v:Value) (n:Nat) (xs:List Value) (hown:w.ownsRow base e size v n xs)
  (A:Option Addr) (m c:Nat) (news:List Value) (hl:news.length=m*size) (hr:AQ w A news) (h1:∀ u∈news,u.oneCell'=true)
  (hA:A=none→m=0) (h63:n+m≤maxLen) (hbytes:(n+m)*bytes≤140737488355328) (hbase:base≤w.heap.size) :
  ∃ v' w',(Builtin.append_ #[t,t] ty #[v,.slice A m c]).run P w=.ok v' w'∧w'.ownsRow base e size v' (n+m) (xs++news)∧w.grownBy w' v.ownBlock∧
   (v'.ownBlock=v.ownBlock∨v'.ownBlock=some w.heap.size):=by
 obtain⟨ht,i,hi,hz,hsize,hby,hzs,hsz⟩:=hT.parts
 rcases A with _ | ad
 ·have hm:=hA rfl
  subst hm
  have hn:news=[]:=List.eq_nil_of_length_eq_zero (by simpa using hl)
  subst hn
  exact⟨v,w,Oj w base t ty e i size ht hi v n xs hown c,by simpa using hown,World.grownBy.refl w _,.inl rfl⟩
 ·have hcells:∀ j u,news[j]?=some u→w.cell? (ad.add j)=some u:=by
   intro j u hu
   have hj:j < news.length:=by
    rcases Nat.lt_or_ge j news.length with h | h
    ·exact h
    ·rw[List.getElem?_eq_none h]at hu;cases hu
   obtain⟨b,o,e,hc⟩:=hr (by omega)
   injection e with e
   subst e
   have:=hc j u hu
   unfold Addr.add
   split
   ·subst_vars;exact this
   ·exact this
  obtain⟨v',w',hrun,h2,h3,_,h5⟩:=run_append_own_at (P:=P) w base t ty e i z size bytes ht hi hz hsize hby hzs hsz v n xs hown ad m c news hl hcells h1 h63 hbytes hbase
  exact⟨v',w',hrun,h2,h3,h5⟩
theorem AY {ops:Array Oper} {rest:List Oper} {o:Oper} {a:Act} {Q:Exit→Act→World→Prop} (hgd:o.guard=none) (s x:Operand) (t:TypeId)
  (ho:o.op=.call { callee:=.builtin .append,args:=#[s,x],argTypes:=#[t,t] })
  (base:Nat) (e:TypeId) (z:Value) (size bytes:Nat) (hT:Bj P t e z size bytes)
  (v:Value) (n:Nat) (xs:List Value) (hs:a.eval s=v) (hown:w.ownsRow base e size v n xs)
  (A:Option Addr) (m c:Nat) (news:List Value) (hx:a.eval x=.slice A m c) (hl:news.length=m*size) (hr:AQ w A news) (h1:∀ u∈news,u.oneCell'=true)
  (hA:A=none→m=0) (h63:n+m≤maxLen) (hbytes:(n+m)*bytes≤140737488355328) (hbase:base≤w.heap.size)
  (h:∀ v' w',w'.ownsRow base e size v' (n+m) (xs++news)→w.grownBy w' v.ownBlock→(v'.ownBlock=v.ownBlock∨v'.ownBlock=some w.heap.size)→wpList P ops Q rest (a.put o.dst v') w'):wpList P ops Q (o :: rest) a w:=
 wpList_plain hgd fun _ hK=>by
  obtain⟨v',w',hrun,h2,h3,h4⟩:=GM (P:=P) w base t o.type e z size bytes hT v n xs hown A m c news hl hr h1 hA h63 hbytes hbase
  unfold Oper.wp execOp
  simp only[ho,resolve,invoke,builtin,Sem.run_bind,Sem.run_pure,Result.andThen_ok,List.map_toArray,List.map_cons,List.map_nil,hs,hx,hrun]
  exact hK _ _ (h v' w' h2 h3 h4)
end
section
variable {w w':World} {base:Nat} {e:TypeId} {size n:Nat} {v:Value} {xs:List Value}
theorem own_below {w0:World} (hown:w.ownsRow base e size v n xs) (hg:w.grownBy w' v.ownBlock) (hb:Below base w0 w) (hB:base≤w.heap.size):Below base w0 w':=
 hb.grown hg hB fun k hk=>(hown.lt k hk).1
theorem Ad (hown:w.ownsRow base e size v n xs):∃ A cap,v=.slice A n cap∧n≤cap∧cap≤maxLen∧AQ w A xs∧(A=none→n=0):=by
 rcases hown.2 with ⟨rfl,rfl⟩ | ⟨g,cap,cur,rfl,hbg,hg,hnc,hcm,hcs,htake⟩
 ·have:xs=[]:=List.eq_nil_of_length_eq_zero (by simpa using hown.1)
  subst this
  exact⟨none,0,rfl,Nat.le_refl _,by unfold maxLen;omega,AQ.nil,fun _=>rfl⟩
 ·refine⟨_,cap,rfl,hnc,hcm,fun _=>⟨g,0,rfl,fun j u hu=>?_⟩,by simp⟩
  rw[cell_of_row w g _ cur e (0,0) hg]
  rw[←htake,List.getElem?_take]at hu
  split at hu
  ·simpa using hu
  ·cases hu
theorem AP (hown:w.ownsRow base e size v n xs) (hb:Below w.heap.size w w'):w'.ownsRow base e size v n xs:=by
 refine⟨hown.1,?_⟩
 rcases hown.2 with h | ⟨g,cap,cur,rfl,hbg,hg,r⟩
 ·exact .inl h
 ·exact .inr ⟨g,cap,cur,rfl,hbg,by rw[hb.block g (lt_of_block hg)];exact hg,r⟩
theorem I7 (hown:w.ownsRow base e size v n xs):w.drew.ownsRow base e size v n xs:=hown
theorem AZ {base':Nat} (hown:w.ownsRow base e size v n xs) (h:base'≤base):w.ownsRow base' e size v n xs:=by
 refine⟨hown.1,?_⟩
 rcases hown.2 with h | ⟨g,cap,cur,rfl,hbg,r⟩
 ·exact .inl h
 ·exact .inr ⟨g,cap,cur,rfl,by omega,r⟩
end
theorem MI {P:Program} {w0 w:World} {ops:Array Oper} {rest:List Oper} {o:Oper} {a:Act} {Q:Exit→Act→World→Prop} (hgd:o.guard=none) (s x:Operand) (t:TypeId)
  (ho:o.op=.call { callee:=.builtin .append,args:=#[s,x],argTypes:=#[t,t] })
  (e:TypeId) (z:Value) (size bytes:Nat) (hT:Bj P t e z size bytes)
  (v:Value) (n:Nat) (xs:List Value) (hs:a.eval s=v) (hown:w.ownsRow w0.heap.size e size v n xs) (hb:Below w0.heap.size w0 w)
  (A:Option Addr) (m c:Nat) (news:List Value) (hx:a.eval x=.slice A m c) (hl:news.length=m*size) (hr:AQ w A news) (h1:∀ u∈news,u.oneCell'=true)
  (hA:A=none→m=0) (h63:n+m≤maxLen) (hbytes:(n+m)*bytes≤140737488355328)
  (h:∀ v' w',w'.ownsRow w0.heap.size e size v' (n+m) (xs++news)→Below w0.heap.size w0 w'→w.grownBy w' v.ownBlock→(v'.ownBlock=v.ownBlock∨v'.ownBlock=some w.heap.size)→wpList P ops Q rest (a.put o.dst v') w'):wpList P ops Q (o :: rest) a w:=
 AY w hgd s x t ho w0.heap.size e z size bytes hT v n xs hs hown A m c news hx hl hr h1 hA h63 hbytes hb.size
  fun v' w' h2 h3 h4=>h v' w' h2 (own_below hown h3 hb hb.size) h3 h4
def Ol (w:World) (size:Nat) (v:Value) (n:Nat) (cs:List Value):Prop:=
 ∃ A cap,v=.slice A n cap∧n≤cap∧cap≤maxLen∧cs.length=n*size∧AQ w A cs∧(A=none→n=0)
theorem Ol.keep {w w':World} {size n:Nat} {v:Value} {cs:List Value} (h:Ol w size v n cs) (hk:∀ p u,w.cell? p=some u→w'.cell? p=some u):Ol w' size v n cs:=by
 obtain⟨A,cap,e,h1,h2,h3,h4,h5⟩:=h
 exact⟨A,cap,e,h1,h2,h3,h4.keep hk,h5⟩
theorem Ol.below {w w':World} {size n:Nat} {v:Value} {cs:List Value} (h:Ol w size v n cs) (hb:Below w.heap.size w w'):Ol w' size v n cs:=h.keep fun _ _ hc=>cell_below hb hc
theorem Yf {w:World} {base:Nat} {e:TypeId} {size n:Nat} {v:Value} {xs:List Value} (hown:w.ownsRow base e size v n xs):Ol w size v n xs:=by
 obtain⟨A,cap,hv,h1,h2,h3,h4⟩:=Ad hown
 exact⟨A,cap,hv,h1,h2,hown.1,h3,h4⟩
theorem Gw (w:World) (base:Nat) (e:TypeId) (size g cap:Nat) (cs:Array Value) (hb:base≤g) (hg:w.heap[g]?=some (.cells cs e (0,0))) (hc:cap≤maxLen) (hs:cs.size=cap*size) :
  w.ownsRow base e size (.slice (some ⟨g,0,none⟩) 0 cap) 0 []:=⟨by simp,.inr ⟨g,cap,cs,rfl,hb,hg,Nat.zero_le _,hc,hs,by simp⟩⟩
theorem SC (w:World) (t:TypeId) (u:Value):AQ (w.alloc (.cells #[u] t)) (some ⟨w.heap.size,0,none⟩) [u]:=AQ.of_heap (heap_alloc_new w _) rfl
theorem Ia (xs:List UInt8):∀ u∈xs.map Eh,u.oneCell'=true:=by
 intro u hu;simp at hu;obtain⟨x,_,rfl⟩:=hu;rfl
end Go.Proofs.YtabdianhoabhhaaGreatDoor
namespace Go.Proofs.YtabdianhoabhhaaGreatDoor.Bits
open Go Go.RowKit Go.Proofs.YtabdianhoabhhaaGreatDoor
set_option linter.unusedVariables false
def num:List Bool→Nat
 | []=>0
 | b :: l=>b.toNat+2*num l
def byteOf (l:List Bool):UInt8:=UInt8.ofNat (num l)
def pack (l:List Bool):List UInt8:=(List.range ((l.length+7) / 8)).map fun i=>byteOf ((l.drop (8*i)).take 8)
def numBits (n size:Nat):List Bool:=(List.range size).map fun k=>n.testBit k
def bitsOf (x:UInt8):List Bool:=numBits x.toNat 8
def AO (l:List UInt8):List Bool:=l.flatMap bitsOf
theorem Pt (l:List Bool):num l < 2 ^ l.length:=by
 induction l with
 | nil=>simp[num]
 | cons b l ih=>
  unfold num
  simp only[List.length_cons,Nat.pow_succ]
  cases b <;> simp <;> omega
theorem SE (l m:List Bool):num (l++m)=num l+2 ^ l.length*num m:=by
 induction l with
 | nil=>simp[num]
 | cons b l ih=>
  simp only[List.cons_append,num,ih,List.length_cons,Nat.pow_succ]
  rw[Nat.mul_add,Nat.mul_comm (2 ^ l.length) 2,Nat.mul_assoc];omega
theorem Jb (l:List Bool) (k:Nat):(num l).testBit k=l.getD k false:=by
 induction l generalizing k with
 | nil=>simp[num]
 | cons b l ih=>
  cases k with
  | zero=>
   unfold num;rw[Nat.testBit_zero]
   cases b <;> simp[Nat.add_mod]
  | succ k=>
   unfold num
   rw[Nat.testBit_succ]
   have:(b.toNat+2*num l) / 2=num l:=by cases b <;> simp <;> omega
   rw[this,ih];simp
theorem AL (n size:Nat):(numBits n size).length=size:=by simp[numBits]
theorem Qn (n size:Nat):num (numBits n size)=n % 2 ^ size:=by
 apply Nat.eq_of_testBit_eq
 intro i
 rw[Jb,Nat.testBit_mod_two_pow]
 by_cases h:i < size
 ·simp[numBits,h]
 ·simp[numBits,h]
theorem XA (n k:Nat):numBits n (k+1)=numBits n k++[n.testBit k]:=by
 simp[numBits,List.range_succ]
theorem DC (x:UInt8):(bitsOf x).length=8:=AL _ _
theorem BV (l:List UInt8):(AO l).length=8*l.length:=by
 induction l with
 | nil=>rfl
 | cons x l ih=>simp only[AO,List.flatMap_cons,List.length_append,DC,List.length_cons]at *;omega
theorem DD (l m:List UInt8):AO (l++m)=AO l++AO m:=by simp[AO]
theorem SF (x:UInt8) (l:List UInt8):AO (x :: l)=bitsOf x++AO l:=rfl
theorem Km (l:List Bool) (h:l.length≤8):(byteOf l).toNat=num l:=by
 unfold byteOf;rw[UInt8.toNat_ofNat']
 have:=Pt l
 have h2:2 ^ l.length≤2 ^ 8:=Nat.pow_le_pow_right (by omega) h
 exact Nat.mod_eq_of_lt (by omega)
theorem BL (l:List Bool):(pack l).length=(l.length+7) / 8:=by simp[pack]
theorem FT (l:List Bool) (i:Nat) (h:i < (l.length+7) / 8):(pack l)[i]'(by rw[BL];exact h)=byteOf ((l.drop (8*i)).take 8):=by simp[pack]
theorem rT (l:List Bool) (b:Bool) (h:l.length % 8=0):pack (l++[b])=pack l++[byteOf [b]]:=by
 apply List.ext_getElem
 ·simp[BL];omega
 ·intro i h1 h2
  rw[BL]at h1
  simp at h1
  rw[FT _ _ (by simpa using h1)]
  by_cases hi:i < (l.length+7) / 8
  ·rw[List.getElem_append_left (by rw[BL];exact hi),FT _ _ hi]
   rw[List.drop_append_of_le_length (by omega),List.take_append_of_le_length (by simp;omega)]
  ·rw[List.getElem_append_right (by rw[BL];omega)]
   have:i=(l.length+7) / 8:=by omega
   subst this
   simp[BL]
   have e:8*((l.length+7) / 8)=l.length:=by omega
   rw[e];simp
theorem lJ (l:List Bool) (b:Bool) (h:l.length % 8≠0) :
  pack (l++[b])=(pack l).set (l.length / 8) ((pack l).getD (l.length / 8) 0 ||| UInt8.ofNat (b.toNat*2 ^ (l.length % 8))):=by
 have hl:(l.length+7) / 8=l.length / 8+1:=by omega
 have h8:(l.length+1+7) / 8=l.length / 8+1:=by omega
 apply List.ext_getElem
 ·simp[BL];omega
 ·intro i h1 h2
  rw[BL]at h1
  simp at h1
  rw[FT _ _ (by simpa using h1),List.getElem_set]
  by_cases hi:i=l.length / 8
  ·subst hi
   rw[if_pos rfl]
   have hg:(pack l).getD (l.length / 8) 0=byteOf ((l.drop (8*(l.length / 8))).take 8):=by
    rw[List.getD_eq_getElem?_getD,List.getElem?_eq_getElem (by rw[BL];omega),Option.getD_some,FT _ _ (by omega)]
   rw[hg,List.drop_append_of_le_length (by omega)]
   have hd:(l.drop (8*(l.length / 8))).length=l.length % 8:=by simp;omega
   generalize l.drop (8*(l.length / 8))=m at *
   have hm8:m.length < 8:=by omega
   rw[List.take_of_length_le (by simp;omega),List.take_of_length_le (by omega)]
   apply UInt8.toNat_inj.1
   rw[UInt8.toNat_or,Km _ (by simp;omega),Km _ (by omega),UInt8.toNat_ofNat',←hd,SE]
   have hn:=Pt m
   have h2:2 ^ m.length≤2 ^ 7:=Nat.pow_le_pow_right (by omega) (by omega)
   have hb:b.toNat≤1:=by cases b <;> simp
   have hbb:b.toNat*2 ^ m.length≤1*2 ^ m.length:=Nat.mul_le_mul_right _ hb
   have hmod:b.toNat*2 ^ m.length % 2 ^ 8=b.toNat*2 ^ m.length:=Nat.mod_eq_of_lt (by omega)
   rw[hmod,Nat.or_comm,nat_join m.length (b.toNat*2 ^ m.length) (num m) (Nat.mul_mod_left _ _) hn]
   simp[num]
   rw[Nat.mul_comm];omega
  ·rw[if_neg (by omega),FT _ _ (by omega)]
   rw[List.drop_append_of_le_length (by omega),List.take_append_of_le_length (by simp;omega)]
theorem Pv (l:List UInt8) (i:Nat) (h:i < 8*l.length):(AO l)[i]?=some ((l.getD (i / 8) 0).toNat.testBit (i % 8)):=by
 induction l generalizing i with
 | nil=>simp at h
 | cons x l ih=>
  rw[SF]
  by_cases h8:i < 8
  ·rw[List.getElem?_append_left (by rw[DC];exact h8)]
   simp[bitsOf,numBits,h8,Nat.div_eq_of_lt h8,Nat.mod_eq_of_lt h8]
  ·rw[List.getElem?_append_right (by rw[DC];omega),DC,ih _ (by simp at h;omega)]
   have h1:i / 8=(i - 8) / 8+1:=by omega
   have h2:i % 8=(i - 8) % 8:=by omega
   rw[h1,h2];simp
theorem Nl (l:List Bool):AO (pack l)=l++List.replicate (8*((l.length+7) / 8) - l.length) false:=by
 apply List.ext_getElem?
 intro i
 by_cases hi:i < 8*((l.length+7) / 8)
 ·rw[Pv _ _ (by rw[BL];exact hi)]
  have hd:i / 8 < (l.length+7) / 8:=by omega
  have hg:(pack l).getD (i / 8) 0=byteOf ((l.drop (8*(i / 8))).take 8):=by
   rw[List.getD_eq_getElem?_getD,List.getElem?_eq_getElem (by rw[BL];exact hd),Option.getD_some,FT _ _ hd]
  rw[hg,Km _ (by simp;omega),Jb]
  have hx:8*(i / 8)+i % 8=i:=by omega
  rw[List.getD_eq_getElem?_getD,List.getElem?_take,if_pos (by omega),List.getElem?_drop,hx]
  by_cases hl:i < l.length
  ·rw[List.getElem?_append_left hl,List.getElem?_eq_getElem hl];simp
  ·rw[List.getElem?_append_right (by omega),List.getElem?_replicate,if_pos (by omega),List.getElem?_eq_none (by omega)];simp
 ·rw[List.getElem?_eq_none (by rw[BV,BL];omega),List.getElem?_eq_none (by simp;omega)]
theorem Nn (l:List UInt8):pack (AO l)=l:=by
 apply List.ext_getElem
 ·rw[BL,BV];omega
 ·intro i h1 h2
  rw[FT _ _ (by rw[BV];omega)]
  apply UInt8.toNat_inj.1
  rw[Km _ (by simp;omega)]
  apply Nat.eq_of_testBit_eq
  intro j
  rw[Jb,List.getD_eq_getElem?_getD,List.getElem?_take]
  by_cases hj:j < 8
  ·rw[if_pos hj,List.getElem?_drop,Pv _ _ (by omega)]
   have e1:(8*i+j) / 8=i:=by omega
   have e2:(8*i+j) % 8=j:=by omega
   rw[e1,e2];simp[List.getD,h2]
  ·rw[if_neg hj]
   have:l[i].toNat < 2 ^ j:=Nat.lt_of_lt_of_le l[i].toNat_lt (Nat.pow_le_pow_right (by omega) (by omega))
   rw[Nat.testBit_lt_two_pow this];simp
def pad (l:List Bool):List Bool:=l++List.replicate (8*((l.length+7) / 8) - l.length) false
theorem Np (l:List Bool):(pad l).length=8*((l.length+7) / 8):=by simp[pad];omega
theorem rU (l:List Bool):pack (pad l)=pack l:=by
 have h:=Nl l
 rw[show l++List.replicate (8*((l.length+7) / 8) - l.length) false=pad l from rfl]at h
 rw[←h,Nn]
end Go.Proofs.YtabdianhoabhhaaGreatDoor.Bits
namespace Go.Proofs.YtabdianhoabhhaaGreatDoor.Code
open Go.Proofs.YtabdianhoabhhaaGreatDoor.Bits
set_option linter.unusedVariables false
def DU (ls:List Nat) (n:Nat):List Nat:=(List.range ls.length).filter fun i=>ls.getD i 0 == n
def cnt (ls:List Nat) (n:Nat):Nat:=if n=0 then 0 else (DU ls n).length
def first (ls:List Nat):Nat→Nat
 | 0=>0
 | n+1=>2*(first ls n+cnt ls n)
def rank (ls:List Nat) (i:Nat):Nat:=(DU (ls.take i) (ls.getD i 0)).length
def codeOf (ls:List Nat) (i:Nat):Nat:=if ls.getD i 0=0 then 0 else first ls (ls.getD i 0)+rank ls i
def room (ls:List Nat):Nat:=(ls.map fun n=>if n=0 then 0 else 2 ^ (15 - n)).sum
theorem QD (ls:List Nat) (x n:Nat):DU (ls++[x]) n=DU ls n++if x=n then [ls.length] else []:=by
 unfold DU
 rw[List.length_append,List.length_singleton,List.range_succ,List.filter_append]
 congr 1
 ·apply List.filter_congr
  intro i hi
  simp at hi
  simp only[List.getD_eq_getElem?_getD]
  rw[List.getElem?_append_left hi]
 ·simp only[List.filter_cons,List.filter_nil,List.getD_eq_getElem?_getD]
  rw[List.getElem?_append_right (Nat.le_refl _)]
  simp
theorem tq (ls:List Nat) (n i:Nat):i∈DU ls n↔i < ls.length∧ls.getD i 0=n:=by
 unfold DU;simp
theorem KE (ls:List Nat) (i n:Nat) (h:i < ls.length):DU (ls.take (i+1)) n=DU (ls.take i) n++if ls.getD i 0=n then [i] else []:=by
 rw[List.take_succ_eq_append_getElem h,QD]
 have:(ls.take i).length=i:=by simp;omega
 rw[this]
 simp[List.getD_eq_getElem?_getD,List.getElem?_eq_getElem h]
theorem Y6 (ls:List Nat) (i n:Nat) (h:i≤ls.length):∃ t,DU ls n=DU (ls.take i) n++t:=by
 have key:∀ d,i+d≤ls.length→∃ t,DU (ls.take (i+d)) n=DU (ls.take i) n++t:=by
  intro d
  induction d with
  | zero=>intro _;exact⟨[],by simp⟩
  | succ d ih=>
   intro hd
   obtain⟨t,ht⟩:=ih (by omega)
   rw[←Nat.add_assoc,KE ls (i+d) n (by omega),ht]
   exact⟨t++_,by rw[List.append_assoc]⟩
 obtain⟨t,ht⟩:=key (ls.length - i) (by omega)
 rw[show i+(ls.length - i)=ls.length by omega,List.take_length]at ht
 exact⟨t,ht⟩
theorem KH (ls:List Nat) (i:Nat) (h:i < ls.length):(DU ls (ls.getD i 0))[rank ls i]?=some i:=by
 obtain⟨t,ht⟩:=Y6 ls (i+1) (ls.getD i 0) (by omega)
 rw[ht,KE ls i _ h,if_pos rfl]
 unfold rank
 rw[List.append_assoc,List.getElem?_append_right (Nat.le_refl _)]
 simp
theorem AAP (ls:List Nat) (i:Nat) (h:i < ls.length):rank ls i < (DU ls (ls.getD i 0)).length:=by
 have:=KH ls i h
 exact (List.getElem?_eq_some_iff.1 this).1
theorem ND (ls:List Nat) (i:Nat) (h:i < ls.length) (h0:ls.getD i 0≠0):first ls (ls.getD i 0)≤codeOf ls i∧codeOf ls i < first ls (ls.getD i 0)+cnt ls (ls.getD i 0):=by
 have:=AAP ls i h
 unfold codeOf cnt
 rw[if_neg h0,if_neg h0];omega
theorem mI (ls:List Nat) (m d:Nat):2 ^ (d+1)*(first ls m+cnt ls m)≤first ls (m+d+1):=by
 induction d with
 | zero=>simp[first]
 | succ d ih=>
  have e:first ls (m+(d+1)+1)=2*(first ls (m+d+1)+cnt ls (m+d+1)):=rfl
  rw[e]
  have:2 ^ (d+1+1)*(first ls m+cnt ls m)=2*(2 ^ (d+1)*(first ls m+cnt ls m)):=by rw[Nat.pow_succ 2 (d+1),Nat.mul_comm (2 ^ (d+1)) 2,Nat.mul_assoc]
  omega
theorem Y7 (ls:List Nat) (k m:Nat) (hk:k < ls.length) (hm:m < ls.getD k 0):first ls m+cnt ls m≤codeOf ls k / 2 ^ (ls.getD k 0 - m):=by
 obtain⟨h1,h2⟩:=ND ls k hk (by omega)
 have h3:=mI ls m (ls.getD k 0 - m - 1)
 rw[show m+(ls.getD k 0 - m - 1)+1=ls.getD k 0 by omega,show ls.getD k 0 - m - 1+1=ls.getD k 0 - m by omega]at h3
 rw[Nat.le_div_iff_mul_le (Nat.pow_pos (by omega)),Nat.mul_comm]
 omega
def Oz (ls:List Nat) (n:Nat):Nat:=((List.range n).map fun k=>cnt ls (k+1)*2 ^ (15 - (k+1))).sum
theorem uA (ls:List Nat) (n:Nat) (hn:n≤15):(first ls n+cnt ls n)*2 ^ (15 - n)=Oz ls n:=by
 induction n with
 | zero=>simp[first,cnt,Oz]
 | succ n ih=>
  have ih:=ih (by omega)
  unfold Oz at ih⊢
  rw[List.range_succ,List.map_append,List.sum_append,←ih]
  simp only[List.map_cons,List.map_nil,List.sum_cons,List.sum_nil,Nat.add_zero]
  have e:first ls (n+1)=2*(first ls n+cnt ls n):=rfl
  rw[e,Nat.add_mul]
  congr 1
  have:2 ^ (15 - n)=2*2 ^ (15 - (n+1)):=by rw[show 15 - n=(15 - (n+1))+1 by omega,Nat.pow_succ,Nat.mul_comm]
  rw[this,Nat.mul_comm 2 (first ls n+cnt ls n),Nat.mul_assoc]
theorem mJ (ls:List Nat) (x n:Nat):Oz (ls++[x]) n=Oz ls n+if 1≤x∧x≤n then 2 ^ (15 - x) else 0:=by
 have hc:∀ k,cnt (ls++[x]) (k+1)=cnt ls (k+1)+if x=k+1 then 1 else 0:=by
  intro k
  unfold cnt
  rw[if_neg (by omega),if_neg (by omega),QD]
  split <;> simp
 induction n with
 | zero=>simp[Oz];omega
 | succ n ih=>
  unfold Oz at ih⊢
  rw[List.range_succ,List.map_append,List.sum_append,List.map_append,List.sum_append,ih]
  simp only[List.map_cons,List.map_nil,List.sum_cons,List.sum_nil,Nat.add_zero]
  rw[hc n]
  by_cases h1:x=n+1
  ·subst h1
   rw[if_neg (by omega),if_pos rfl,if_pos ⟨by omega,by omega⟩,Nat.add_mul];omega
  ·rw[if_neg h1]
   by_cases h2:1≤x∧x≤n
   ·rw[if_pos h2,if_pos ⟨by omega,by omega⟩];simp only[Nat.add_zero];omega
   ·rw[if_neg h2,if_neg (by omega)];simp only[Nat.add_zero]
theorem uB (n:Nat):Oz [] n=0:=by
 induction n with
 | zero=>rfl
 | succ n ih=>
  unfold Oz at ih⊢
  rw[List.range_succ,List.map_append,List.sum_append,ih]
  simp[cnt,DU]
theorem uC {P:List Nat→Prop} (h0:P []) (hs:∀ l x,P l→P (l++[x])):∀ l,P l:=by
 intro l
 have:∀ n,∀ l:List Nat,l.length=n→P l:=by
  intro n
  induction n with
  | zero=>intro l hl;rw[List.eq_nil_of_length_eq_zero hl];exact h0
  | succ n ih=>
   intro l hl
   have hne:l≠[]:=fun h=>by rw[h]at hl;simp at hl
   rw[←List.dropLast_concat_getLast hne]
   exact hs _ _ (ih _ (by simp[hl]))
 exact this _ l rfl
theorem Vm (ls:List Nat):(∀ x∈ls,x≤15)→room ls=Oz ls 15:=by
 refine uC (P:=fun ls=>(∀ x∈ls,x≤15)→room ls=Oz ls 15) (fun _=>by rw[uB];rfl) ?_ ls
 intro l x ih h
 have h1:=ih (fun y hy=>h y (by simp[hy]))
 have h2:=h x (by simp)
 rw[mJ,←h1]
 unfold room
 rw[List.map_append,List.sum_append]
 simp only[List.map_cons,List.map_nil,List.sum_cons,List.sum_nil,Nat.add_zero]
 by_cases h3:x=0
 ·rw[if_pos h3,if_neg (by omega)]
 ·rw[if_neg h3,if_pos ⟨by omega,h2⟩]
theorem mK (ls:List Nat) (n d:Nat):Oz ls n≤Oz ls (n+d):=by
 induction d with
 | zero=>exact Nat.le_refl _
 | succ d ih=>
  refine Nat.le_trans ih ?_
  unfold Oz
  rw[←Nat.add_assoc,List.range_succ,List.map_append,List.sum_append]
  exact Nat.le_add_right _ _
theorem dU (ls:List Nat) (n:Nat) (hn:n≤15) (hl:∀ x∈ls,x≤15) (hr:room ls≤32768):first ls n+cnt ls n≤2 ^ n:=by
 have h1:=uA ls n hn
 have h2:=mK ls n (15 - n)
 rw[show n+(15 - n)=15 by omega,←Vm ls hl,←h1]at h2
 have h3:(2:Nat) ^ 15=2 ^ n*2 ^ (15 - n):=by rw[←Nat.pow_add];congr 1;omega
 have h4:(first ls n+cnt ls n)*2 ^ (15 - n)≤2 ^ n*2 ^ (15 - n):=by rw[←h3];omega
 exact Nat.le_of_mul_le_mul_right h4 (Nat.pow_pos (by omega))
theorem VT (ls:List Nat) (i:Nat) (h:i < ls.length) (h0:ls.getD i 0≠0) (hl:∀ x∈ls,x≤15) (hr:room ls≤32768):codeOf ls i < 2 ^ ls.getD i 0:=by
 obtain⟨h1,h2⟩:=ND ls i h h0
 have h3:ls.getD i 0≤15:=by
  rw[List.getD_eq_getElem?_getD,List.getElem?_eq_getElem h]
  exact hl _ (List.getElem_mem h)
 have:=dU ls _ h3 hl hr
 omega
def val (l:List Bool):Nat:=num l.reverse
def hi (n c:Nat):List Bool:=(numBits c n).reverse
theorem Df (n c:Nat):(hi n c).length=n:=by simp[hi,AL]
theorem uE (n c:Nat) (h:c < 2 ^ n):val (hi n c)=c:=by
 unfold val hi;rw[List.reverse_reverse,Qn,Nat.mod_eq_of_lt h]
theorem Y4 (l:List Bool) (b:Bool):val (l++[b])=2*val l+b.toNat:=by
 unfold val;rw[List.reverse_append];simp[num];omega
theorem tY (l:List Bool):val l < 2 ^ l.length:=by
 have:=Pt l.reverse
 simpa [val] using this
theorem AAO:val []=0:=rfl
theorem AAQ (n c m:Nat) (h:m≤n):(hi n c).take m=hi m (c / 2 ^ (n - m)):=by
 unfold hi
 rw[List.take_reverse,AL]
 congr 1
 unfold numBits
 rw[List.map_drop.symm]
 apply List.ext_getElem
 ·simp;omega
 ·intro j h1 h2
  simp at h1 h2⊢
  rw[Nat.testBit_div_two_pow]
  congr 1;omega
def JB (ls:List Nat) (n c:Nat):Option Nat:=if first ls n≤c∧c < first ls n+cnt ls n then (DU ls n)[c - first ls n]? else none
theorem Kv (ls:List Nat) (n c:Nat) (h:¬ (first ls n≤c∧c < first ls n+cnt ls n)):JB ls n c=none:=by unfold JB;rw[if_neg h]
theorem jM (ls:List Nat) (n:Nat) (h:0 < cnt ls n):cnt ls n=(DU ls n).length∧n≠0:=by
 unfold cnt at h⊢
 by_cases h0:n=0
 ·rw[if_pos h0]at h;omega
 ·rw[if_neg h0];exact⟨rfl,h0⟩
theorem Su (ls:List Nat) (n c:Nat) (h:first ls n≤c∧c < first ls n+cnt ls n):∃ i,JB ls n c=some i∧(DU ls n)[c - first ls n]?=some i:=by
 have h1:=jM ls n (by omega)
 have hlt:c - first ls n < (DU ls n).length:=by omega
 refine⟨_,?_,List.getElem?_eq_getElem hlt⟩
 unfold JB;rw[if_pos h,List.getElem?_eq_getElem hlt]
theorem dX (ls:List Nat) (i:Nat) (hi:i < ls.length) (h0:ls.getD i 0≠0):JB ls (ls.getD i 0) (codeOf ls i)=some i:=by
 obtain⟨h1,h2⟩:=ND ls i hi h0
 unfold JB
 rw[if_pos ⟨h1,h2⟩]
 have:codeOf ls i - first ls (ls.getD i 0)=rank ls i:=by unfold codeOf;rw[if_neg h0];omega
 rw[this];exact KH ls i hi
theorem mM (ls:List Nat) (n c i:Nat) (h:JB ls n c=some i):i < ls.length∧ls.getD i 0=n∧n≠0∧codeOf ls i=c:=by
 unfold JB at h
 split at h
 ·rename_i h1
  have hm:=List.mem_of_getElem? h
  rw[tq]at hm
  have hn:=(jM ls n (by omega)).2
  refine⟨hm.1,hm.2,hn,?_⟩
  have h3:=KH ls i hm.1
  rw[hm.2]at h3
  have hnd:(DU ls n).Nodup:=List.Pairwise.filter _ List.nodup_range
  have h4:(DU ls n)[rank ls i]?=(DU ls n)[c - first ls n]?:=by rw[h3,h]
  have h5:=(List.getElem?_inj (by exact (List.getElem?_eq_some_iff.1 h3).1) hnd).1 h4
  unfold codeOf;rw[hm.2,if_neg hn];omega
 ·cases h
def QC (ls:List Nat) (row:List Bool):Nat→Nat→Nat×Nat×Int
 | 0,_=>(0,0,8)
 | k+1,n=>if row.length < n then (0,0,7) else match JB ls n (val (row.take n)) with
  | some i=>(i,n,0)
  | none=>QC ls row k (n+1)
def next (ls:List Nat) (row:List Bool):Nat×Nat×Int:=QC ls row 15 1
theorem KG (ls:List Nat) (row:List Bool) (k n:Nat) (h:row.length < n):QC ls row (k+1) n=(0,0,7):=by unfold QC;rw[if_pos h]
theorem NC (ls:List Nat) (row:List Bool) (k n i:Nat) (h:n≤row.length) (hf:JB ls n (val (row.take n))=some i):QC ls row (k+1) n=(i,n,0):=by
 unfold QC;rw[if_neg (by omega),hf]
theorem KF (ls:List Nat) (row:List Bool) (k n:Nat) (h:n≤row.length) (hf:JB ls n (val (row.take n))=none):QC ls row (k+1) n=QC ls row k (n+1):=by
 conv=>lhs;unfold QC
 rw[if_neg (by omega),hf]
theorem Vn (ls:List Nat) (i:Nat) (rest:List Bool) (hi':i < ls.length) (h0:ls.getD i 0≠0) (hl:∀ x∈ls,x≤15) (hr:room ls≤32768):next ls (hi (ls.getD i 0) (codeOf ls i)++rest)=(i,ls.getD i 0,0):=by
 have hlt:=VT ls i hi' h0 hl hr
 have rA:ls.getD i 0≤15:=by
  rw[List.getD_eq_getElem?_getD,List.getElem?_eq_getElem hi']
  exact hl _ (List.getElem_mem hi')
 have key:∀ d k,d < ls.getD i 0→k+(ls.getD i 0 - d)=16→1≤ls.getD i 0 - d→QC ls (hi (ls.getD i 0) (codeOf ls i)++rest) k (ls.getD i 0 - d)=(i,ls.getD i 0,0):=by
  intro d
  induction d with
  | zero=>
   intro k h1 h2 h3
   obtain⟨k,rfl⟩:∃ j,k=j+1:=⟨k - 1,by omega⟩
   rw[Nat.sub_zero]
   refine NC ls _ k _ i (by simp[Df]) ?_
   rw[List.take_append_of_le_length (by rw[Df];exact Nat.le_refl _),List.take_of_length_le (by rw[Df];exact Nat.le_refl _),uE _ _ hlt]
   exact dX ls i hi' h0
  | succ d ih=>
   intro k h1 h2 h3
   obtain⟨k,rfl⟩:∃ j,k=j+1:=⟨k - 1,by omega⟩
   rw[KF ls _ k _ (by simp[Df];omega)]
   ·rw[show ls.getD i 0 - (d+1)+1=ls.getD i 0 - d by omega]
    exact ih k (by omega) (by omega) (by omega)
   ·rw[List.take_append_of_le_length (by rw[Df];omega),AAQ _ _ _ (by omega)]
    have hd:codeOf ls i / 2 ^ (ls.getD i 0 - (ls.getD i 0 - (d+1))) < 2 ^ (ls.getD i 0 - (d+1)):=by
     rw[Nat.div_lt_iff_lt_mul (Nat.pow_pos (by omega)),←Nat.pow_add]
     rw[show ls.getD i 0 - (d+1)+(ls.getD i 0 - (ls.getD i 0 - (d+1)))=ls.getD i 0 by omega]
     exact hlt
    rw[uE _ _ hd]
    refine Kv ls _ _ (fun h=>?_)
    have:=Y7 ls i (ls.getD i 0 - (d+1)) hi' (by omega)
    omega
 have:=key (ls.getD i 0 - 1) 15 (by omega) (by omega) (by omega)
 rw[show ls.getD i 0 - (ls.getD i 0 - 1)=1 by omega]at this
 exact this
def cst (ls:List Nat) (s i:Nat):List Nat:=(List.range ls.length).map fun j=>if ls.getD j 0≠0∧(ls.getD j 0 < s∨(ls.getD j 0=s∧j < i)) then codeOf ls j else 0
theorem Sq (ls:List Nat) (s i:Nat):(cst ls s i).length=ls.length:=by simp[cst]
theorem tJ (ls:List Nat):cst ls 1 0=List.replicate ls.length 0:=by
 unfold cst
 apply List.ext_getElem
 ·simp
 ·intro j h1 h2
  simp only[List.getElem_map,List.getElem_range,List.getElem_replicate]
  rw[if_neg (by omega)]
theorem AAL (ls:List Nat) (s i:Nat) (hi:i < ls.length) (hs:ls.getD i 0=s) (h0:s≠0):cst ls s (i+1)=(cst ls s i).set i (first ls s+(DU (ls.take i) s).length):=by
 apply List.ext_getElem
 ·simp[cst]
 ·intro j h1 h2
  rw[List.getElem_set]
  simp only[cst,List.getElem_map,List.getElem_range]
  by_cases hij:i=j
  ·subst hij
   rw[if_pos rfl,if_pos (by omega)]
   unfold codeOf rank
   rw[if_neg (by omega),hs]
  ·rw[if_neg hij]
   by_cases hc:ls.getD j 0≠0∧(ls.getD j 0 < s∨(ls.getD j 0=s∧j < i))
   ·rw[if_pos hc,if_pos (by omega)]
   ·rw[if_neg hc,if_neg (by omega)]
theorem tL (ls:List Nat) (s i:Nat) (hs:ls.getD i 0≠s):cst ls s (i+1)=cst ls s i:=by
 unfold cst
 apply List.map_congr_left
 intro j hj
 by_cases hij:i=j
 ·subst hij
  by_cases hc:ls.getD i 0≠0∧(ls.getD i 0 < s∨(ls.getD i 0=s∧i < i))
  ·rw[if_pos hc,if_pos (by omega)]
  ·rw[if_neg hc,if_neg (by omega)]
 ·by_cases hc:ls.getD j 0≠0∧(ls.getD j 0 < s∨(ls.getD j 0=s∧j < i))
  ·rw[if_pos hc,if_pos (by omega)]
  ·rw[if_neg hc,if_neg (by omega)]
theorem tN (ls:List Nat) (s:Nat):cst ls s ls.length=cst ls (s+1) 0:=by
 unfold cst
 apply List.map_congr_left
 intro j hj
 simp at hj
 by_cases hc:ls.getD j 0≠0∧(ls.getD j 0 < s∨(ls.getD j 0=s∧j < ls.length))
 ·rw[if_pos hc,if_pos (by omega)]
 ·rw[if_neg hc,if_neg (by omega)]
def I8 (ls:List Nat):List Nat:=(List.range ls.length).map (codeOf ls)
theorem AAK (ls:List Nat) (hl:∀ x∈ls,x≤15):cst ls 16 0=I8 ls:=by
 unfold cst I8
 apply List.map_congr_left
 intro j hj
 simp at hj
 have:ls.getD j 0≤15:=by
  rw[List.getD_eq_getElem?_getD,List.getElem?_eq_getElem hj];exact hl _ (List.getElem_mem hj)
 by_cases h0:ls.getD j 0=0
 ·rw[if_neg (by omega)];unfold codeOf;rw[if_pos h0]
 ·rw[if_pos (by omega)]
def Da (ls:List Nat) (s:Nat):List Nat:=(List.range s).flatMap fun k=>DU ls (k+1)
theorem Gj (ls:List Nat) (s:Nat):Da ls (s+1)=Da ls s++DU ls (s+1):=by
 unfold Da;rw[List.range_succ,List.flatMap_append];simp
theorem XT (ls:List Nat) (s d:Nat):∃ t,Da ls (s+d)=Da ls s++t:=by
 induction d with
 | zero=>exact⟨[],by simp⟩
 | succ d ih=>
  obtain⟨t,ht⟩:=ih
  rw[←Nat.add_assoc,Gj,ht]
  exact⟨t++_,by rw[List.append_assoc]⟩
theorem mH (ls:List Nat) (n c i:Nat) (hn:n < 15) (hf:JB ls (n+1) c=some i):(Da ls 15)[(Da ls n).length+(c - first ls (n+1))]?=some i:=by
 have h1:first ls (n+1)≤c∧c < first ls (n+1)+cnt ls (n+1):=by
  rcases Classical.em (first ls (n+1)≤c∧c < first ls (n+1)+cnt ls (n+1)) with h | h
  ·exact h
  ·rw[Kv ls _ _ h]at hf;cases hf
 have h2:(DU ls (n+1))[c - first ls (n+1)]?=some i:=by
  unfold JB at hf;rw[if_pos h1]at hf;exact hf
 have h3:=(List.getElem?_eq_some_iff.1 h2).1
 obtain⟨t,ht⟩:=XT ls (n+1) (14 - n)
 rw[show n+1+(14 - n)=15 by omega]at ht
 rw[ht,Gj,List.append_assoc,List.getElem?_append_right (by omega),List.getElem?_append_left (by omega)]
 rw[←h2];congr 1;omega
theorem Jg (ls:List Nat) (n:Nat):(DU ls n).length≤ls.length:=by
 have:=List.length_filter_le (fun i=>ls.getD i 0 == n) (List.range ls.length)
 simpa [DU] using this
def Fj (x:Int):Bool:=decide (x < 0) || decide (15 < x)
def BC (zs:List Int):List Nat:=zs.map Int.toNat
def GK (zs:List Int):Int:=if 288 < zs.length then 2 else if zs.any Fj=true then 3 else if 32768 < room (BC zs) then 8 else 0
theorem NF (ls:List Nat) (x:Nat):room (ls++[x])=room ls+if x=0 then 0 else 2 ^ (15 - x):=by
 unfold room;rw[List.map_append,List.sum_append];simp
theorem mP (zs:List Int) (k:Nat) (h:k < zs.length):BC (zs.take (k+1))=BC (zs.take k)++[zs[k].toNat]:=by
 unfold BC;rw[List.take_succ_eq_append_getElem h,List.map_append];rfl
theorem mF (zs:List Int) (k:Nat) (h:k < zs.length):room (BC (zs.take (k+1)))=room (BC (zs.take k))+if zs[k].toNat=0 then 0 else 2 ^ (15 - zs[k].toNat):=by
 rw[mP zs k h,NF]
theorem room_le (ls:List Nat):room ls≤32768*ls.length:=by
 induction ls with
 | nil=>simp[room]
 | cons x ls ih=>
  have e:room (x :: ls)=(if x=0 then 0 else 2 ^ (15 - x))+room ls:=by simp[room]
  have h:(if x=0 then 0 else 2 ^ (15 - x))≤32768:=by
   split
   ·omega
   ·exact Nat.le_trans (Nat.pow_le_pow_right (by omega) (by omega:15 - x≤15)) (by decide)
  rw[e,List.length_cons];omega
theorem Sn (zs:List Int) (h:GK zs=0):zs.length≤288∧zs.any Fj=false∧room (BC zs)≤32768∧(∀ x∈BC zs,x≤15)∧∀ x∈zs,0≤x∧x≤15:=by
 unfold GK at h
 by_cases h1:288 < zs.length
 ·rw[if_pos h1]at h;simp at h
 ·rw[if_neg h1]at h
  by_cases h2:zs.any Fj=true
  ·rw[if_pos h2]at h;simp at h
  ·rw[if_neg h2]at h
   by_cases h3:32768 < room (BC zs)
   ·rw[if_pos h3]at h;simp at h
   ·have hb:zs.any Fj=false:=by simpa using h2
    have hall:∀ x∈zs,0≤x∧x≤15:=fun x hx=>by
     have:=(List.any_eq_false.1 hb) x hx
     simp[Fj]at this;omega
    refine⟨by omega,hb,by omega,?_,hall⟩
    intro x hx
    obtain⟨z,hz,rfl⟩:=List.mem_map.1 hx
    have:=hall z hz;omega
end Go.Proofs.YtabdianhoabhhaaGreatDoor.Code
namespace Go.Proofs.YtabdianhoabhhaaGreatDoor.Inf
open Go.Proofs.YtabdianhoabhhaaGreatDoor.Bits Go.Proofs.YtabdianhoabhhaaGreatDoor.Code
set_option linter.unusedVariables false
inductive Rd (α:Type) where
 | bad (e:Int)
 | ok (a:α)
def Rd.Ag {α β:Type} (r:Rd α) (f:α→Rd β):Rd β:=match r with | .bad e=>.bad e | .ok a=>f a
theorem then_ok {α β:Type} (a:α) (f:α→Rd β):(Rd.ok a).Ag f=f a:=rfl
def CJ (row:List Bool) (p n:Nat):Rd (Nat×Nat):=if p+n≤row.length then .ok (num ((row.drop p).take n),p+n) else .bad 7
def IM (row:List Bool) (ls:List Nat) (p:Nat):Rd (Nat×Nat):=
 if (next ls (row.drop p)).2.2=0 then .ok ((next ls (row.drop p)).1,p+(next ls (row.drop p)).2.1) else .bad (next ls (row.drop p)).2.2
def Ef (out:List UInt8) (x:UInt8):Rd (List UInt8):=if out.length=3000 then .bad 2 else .ok (out++[x])
def JH (p:Nat):Nat:=(p+7) / 8*8
def Ig (row:List Bool):Nat→Nat→List UInt8→Rd (Nat×List UInt8)
 | 0,p,out=>.ok (p,out)
 | n+1,p,out=>(CJ row p 8).Ag fun x=>(Ef out (UInt8.ofNat x.1)).Ag fun o=>Ig row n x.2 o
def Fe (row:List Bool) (p:Nat) (out:List UInt8):Rd (Nat×List UInt8):=
 (CJ row (JH p) 16).Ag fun x=>(CJ row x.2 16).Ag fun y=>if x.1+y.1≠65535 then .bad 4 else Ig row x.1 y.2 out
def Em (zs:List Int):Rd (List Nat):=if GK zs=0 then .ok (BC zs) else .bad 8
def Dm (n:Nat) (l:List Nat) (v k:Nat):Rd (List Nat):=if n < l.length+k then .bad 8 else .ok (l++List.replicate k v)
def GU (row:List Bool) (ls:List Nat) (n p:Nat) (l:List Nat):Rd (Nat×List Nat):=
 (IM row ls p).Ag fun k=>
  if k.1=16 then (if l=[] then .bad 8 else (CJ row k.2 2).Ag fun x=>(Dm n l (l.getLastD 0) (3+x.1)).Ag fun m=>.ok (x.2,m))
  else if k.1=17 then (CJ row k.2 3).Ag fun x=>(Dm n l 0 (3+x.1)).Ag fun m=>.ok (x.2,m)
  else if k.1=18 then (CJ row k.2 7).Ag fun x=>(Dm n l 0 (11+x.1)).Ag fun m=>.ok (x.2,m)
  else (Dm n l k.1 1).Ag fun m=>.ok (k.2,m)
def JZ (row:List Bool) (ls:List Nat) (n:Nat):Nat→Nat→List Nat→Rd (Nat×List Nat)
 | 0,p,l=>.ok (p,l)
 | f+1,p,l=>if n≤l.length then .ok (p,l) else (GU row ls n p l).Ag fun x=>JZ row ls n f x.1 x.2
def Aw:List Nat:=[16,17,18,0,8,7,9,6,10,5,11,4,12,3,13,2,14,1,15]
def JG (row:List Bool):List Nat→Nat→List Nat→Rd (Nat×List Nat)
 | [],p,s=>.ok (p,s)
 | k :: ks,p,s=>(CJ row p 3).Ag fun x=>JG row ks x.2 (s.set k x.1)
def EZ (l:List Nat):List Int:=l.map Int.ofNat
def Mg (row:List Bool) (p:Nat):Rd (Nat×List Nat×List Nat):=
 (CJ row p 5).Ag fun a=>(CJ row a.2 5).Ag fun b=>(CJ row b.2 4).Ag fun c=>
  if 286 < a.1+257∨30 < b.1+1 then .bad 8
  else (JG row (Aw.take (c.1+4)) c.2 (List.replicate 19 0)).Ag fun s=>(Em (EZ s.2)).Ag fun t=>
   (JZ row t (a.1+257+(b.1+1)) (a.1+257+(b.1+1)) s.1 []).Ag fun l=>
    if l.2.getD 256 0=0 then .bad 8
    else (Em (EZ (l.2.take (a.1+257)))).Ag fun x=>(Em (EZ (l.2.drop (a.1+257)))).Ag fun y=>.ok (l.1,x,y)
def BB:List (Nat×Nat):=[(3,0),(4,0),(5,0),(6,0),(7,0),(8,0),(9,0),(10,0),(11,1),(13,1),(15,1),(17,1),(19,2),(23,2),(27,2),(31,2),(35,3),(43,3),(51,3),(59,3),(67,4),(83,4),(99,4),(115,4),(131,5),(163,5),(195,5),(227,5),(258,0)]
def Br:List (Nat×Nat):=[(1,0),(2,0),(3,0),(4,0),(5,1),(7,1),(9,2),(13,2),(17,3),(25,3),(33,4),(49,4),(65,5),(97,5),(129,6),(193,6),(257,7),(385,7),(513,8),(769,8),(1025,9),(1537,9),(2049,10),(3073,10),(4097,11),(6145,11),(8193,12),(12289,12),(16385,13),(24577,13)]
def JD (d:Nat):Nat→List UInt8→Rd (List UInt8)
 | 0,out=>.ok out
 | n+1,out=>(Ef out (out.getD (out.length - d) 0)).Ag fun o=>JD d n o
def CQ (row:List Bool) (lit far:List Nat) (p:Nat) (out:List UInt8):Rd (Bool×Nat×List UInt8):=
 (IM row lit p).Ag fun k=>
  if k.1 < 256 then (Ef out (UInt8.ofNat k.1)).Ag fun o=>.ok (false,k.2,o)
  else if k.1=256 then .ok (true,k.2,out)
  else if 29≤k.1 - 257 then .bad 8
  else (CJ row k.2 (BB.getD (k.1 - 257) (0,0)).2).Ag fun x=>(IM row far x.2).Ag fun f=>
   if 30≤f.1 then .bad 8
   else (CJ row f.2 (Br.getD f.1 (0,0)).2).Ag fun y=>
    if out.length < (Br.getD f.1 (0,0)).1+y.1 then .bad 9
    else (JD ((Br.getD f.1 (0,0)).1+y.1) ((BB.getD (k.1 - 257) (0,0)).1+x.1) out).Ag fun o=>.ok (false,y.2,o)
def Ew (row:List Bool) (lit far:List Nat):Nat→Nat→List UInt8→Rd (Nat×List UInt8)
 | 0,p,out=>.bad 7
 | f+1,p,out=>(CQ row lit far p out).Ag fun x=>if x.1=true then .ok x.2 else Ew row lit far f x.2.1 x.2.2
def BU:List Nat:=(List.range 288).map fun k=>if 144≤k∧k < 256 then 9 else if 256≤k∧k < 280 then 7 else 8
def Co:List Nat:=List.replicate 32 5
def Eb (row:List Bool) (p:Nat) (out:List UInt8):Rd (Bool×Nat×Nat×List UInt8):=
 (CJ row p 1).Ag fun l=>(CJ row l.2 2).Ag fun k=>
  if k.1=0 then (Fe row k.2 out).Ag fun x=>.ok (l.1 == 1,k.1,x.1,x.2)
  else if k.1=1 then (Ew row BU Co (row.length+1) k.2 out).Ag fun x=>.ok (l.1 == 1,k.1,x.1,x.2)
  else if k.1=2 then (Mg row k.2).Ag fun h=>(Ew row h.2.1 h.2.2 (row.length+1) h.1 out).Ag fun x=>.ok (l.1 == 1,k.1,x.1,x.2)
  else .bad 4
def Dq (row:List Bool):Nat→Nat→List UInt8→List Nat→Rd (Nat×List UInt8×List Nat)
 | 0,p,out,ks=>.bad 7
 | f+1,p,out,ks=>(Eb row p out).Ag fun x=>if x.1=true then .ok (x.2.2.1,x.2.2.2,ks++[x.2.1]) else Dq row f x.2.2.1 x.2.2.2 (ks++[x.2.1])
def CF (b:List UInt8):Rd (List UInt8×Nat×List Nat):=
 if 6000 < b.length then .bad 2 else (Dq (AO b) (8*b.length+1) 0 [] []).Ag fun x=>.ok (x.2.1,(x.1+7) / 8,x.2.2)
theorem TL (ls:List Nat) (row:List Bool) (L:Nat) (hL:L≤row.length):∀ (k n i m:Nat),1≤n→QC ls row k n=(i,m,0)→n≤m∧m≤row.length∧(if m≤L then QC ls (row.take L) k n=(i,m,0) else QC ls (row.take L) k n=(0,0,7))
 | 0,n,i,m,_,h=>by simp[QC]at h
 | k+1,n,i,m,hn,h=>by
  by_cases h1:row.length < n
  ·rw[KG _ _ _ _ h1]at h
   simp at h
  ·cases hf:JB ls n (val (row.take n)) with
   | some j=>
    rw[NC ls row k n j (by omega) hf]at h
    simp only[Prod.mk.injEq]at h
    obtain⟨rfl,rfl,_⟩:=h
    refine⟨Nat.le_refl _,by omega,?_⟩
    by_cases h2:n≤L
    ·rw[if_pos h2]
     refine NC ls _ k n j (by rw[List.length_take];omega) ?_
     rw[List.take_take,Nat.min_eq_left h2]
     exact hf
    ·rw[if_neg h2]
     exact KG _ _ _ _ (by rw[List.length_take];omega)
   | none=>
    rw[KF ls row k n (by omega) hf]at h
    obtain⟨h3,h4,h5⟩:=TL ls row L hL k (n+1) i m (by omega) h
    refine⟨by omega,h4,?_⟩
    by_cases h2:n≤L
    ·have e:QC ls (row.take L) (k+1) n=QC ls (row.take L) k (n+1):=by
      refine KF ls _ k n (by rw[List.length_take];omega) ?_
      rw[List.take_take,Nat.min_eq_left h2]
      exact hf
     rw[e]
     exact h5
    ·rw[if_neg (by omega)]
     exact KG _ _ _ _ (by rw[List.length_take];omega)
end Go.Proofs.YtabdianhoabhhaaGreatDoor.Inf
namespace Go.Proofs.YtabdianhoabhhaaGreatDoor
open Go Go.RowKit
set_option linter.unusedVariables false
def iv (x:Int):Value:=.int .i64 x
def Lv (w:World) (A:Option Addr) (xs:List Int):Prop:=AQ w A (xs.map iv)
theorem Lv.below {w w':World} {A:Option Addr} {xs:List Int} (h:Lv w A xs) (hb:Below w.heap.size w w'):Lv w' A xs:=AQ.below h hb
theorem Lv.get {w:World} {A:Option Addr} {xs:List Int} (h:Lv w A xs) {k:Nat} (hk:k < xs.length) :
  ∃ b o,A=some ⟨b,o,none⟩∧w.cell? ⟨b,o+k,none⟩=some (.int .i64 xs[k]):=by
 obtain⟨b,o,e,hc⟩:=AQ.get h (k:=k) (by simpa using hk)
 exact⟨b,o,e,by rw[hc];simp[iv]⟩
theorem below_drewN' {B:Nat} {a w:World} (h:Below B a w) (n:Nat):Below B a (w.drewN n):=⟨h.os,h.tape,h.output,h.size,h.block⟩
theorem XZ {α:Type} [DecidableEq α] (xs ys:List α) (k:Nat) (h1:k < xs.length) (h2:k < ys.length) (h:xs.take k=ys.take k) (he:xs[k]=ys[k]):xs.take (k+1)=ys.take (k+1):=by
 rw[BJ _ _ h1,BJ _ _ h2,h,he]
theorem mg {α:Type} (xs ys:List α) (k:Nat) (h1:k < xs.length) (h2:k < ys.length) (he:xs[k]≠ys[k]):xs≠ys:=by
 intro h;subst h;exact he rfl
end Go.Proofs.YtabdianhoabhhaaGreatDoor
namespace Go.Proofs.YtabdianhoabhhaaGreatDoor
open Go Go.ChangeShapes Go.WideShapes Go.ChangeAt Go.RowKit
def BD (w:World) (v:Value) (xs:List UInt8):Prop:=
 ∃ A cap,v=.slice A xs.length cap∧xs.length≤cap∧cap≤maxLen∧BI w A xs
theorem cell_spot {w:World} {b o:Nat} {s:Option Nat} {v:Value} (h:w.cell? ⟨b,o,s⟩=some v):s=none:=World.cell?_spot h
def ZE {H:Type}:DataW H→Nat
 | .slice e _=>e.length
 | _=>0
theorem Ls {H:Type} {enc:TypeId×Value→H} {P:Program} {w:World} {base fuel:Nat} {spare:Nat→Bool} {held:Bool} {t e:TypeId} {A:Option Addr} {len cap:Nat} {d:DataW H} {ps:List MemPlace}
  (ht:P.underlying t=some (.slice e)) (he:P.underlying e=some (.int .u8)) (hc:P.cellsOf e=1)
  (hf:DataW.trod enc P w base spare held fuel t [.slice A len cap]=some (d,ps)):∃ xs,BD w (.slice A len cap) xs∧ZE d=xs.length:=by
 rcases open_ints ht he hc hf with ⟨hcs,hd⟩ | ⟨x,l,c,zs,hcs,_,hl,hm,hz,hd,hcell,hwz⟩
 ·simp at hcs
  obtain⟨rfl,rfl,rfl⟩:=hcs
  simp only[Prod.mk.injEq]at hd
  obtain⟨rfl,_⟩:=hd
  exact⟨[],⟨none,0,rfl,Nat.le_refl _,by unfold maxLen;omega,AQ.nil⟩,rfl⟩
 ·simp at hcs
  obtain⟨rfl,rfl,rfl⟩:=hcs
  have hlen:len≤zs.length:=by rw[hz];split <;> omega
  have hb:∀ i,i < zs.length→zs.getD i 0=n8 (UInt8.ofNat (zs.getD i 0).toNat):=by
   intro i hi
   have eg:zs.getD i 0=zs[i]:=by simp[List.getD,hi]
   have hw:=hwz (zs.getD i 0) (by rw[eg];exact List.getElem_mem hi)
   have:0≤zs.getD i 0∧zs.getD i 0≤255:=by simpa [Lit.wf,IntKind.min,IntKind.max,IntKind.signed,IntKind.bits] using hw
   unfold n8;rw[UInt8.toNat_ofNat'];omega
  simp only[Prod.mk.injEq]at hd
  obtain⟨rfl,_⟩:=hd
  refine⟨(zs.take len).map fun z=>UInt8.ofNat z.toNat,⟨some x,cap,?_,?_,hm,?_⟩,by simp[ZE,lits]⟩
  ·simp;omega
  ·simp;omega
  ·intro hp
   obtain⟨b,o,s⟩:=x
   have h0:0 < zs.length:=by simp at hp;omega
   have hs:s=none:=by have:=hcell 0 h0;simp[Addr.add]at this;exact cell_spot this
   subst hs
   refine⟨b,o,rfl,fun j u hj=>?_⟩
   simp only[List.getElem?_map]at hj
   by_cases hjl:j < (zs.take len).length
   ·have hjz:j < zs.length:=by simp at hjl;omega
    have hc1:=hcell j hjz
    have e1:(Addr.add ⟨b,o,none⟩ j) =⟨b,o+j,none⟩:=by
     unfold Addr.add;split
     ·subst_vars;rfl
     ·rfl
    rw[e1]at hc1
    rw[hc1,hb j hjz]
    rw[List.getElem?_eq_getElem hjl]at hj
    simp at hj
    rw[←hj]
    have eg:zs.getD j 0=zs[j]:=by simp[List.getD,hjz]
    rw[eg];rfl
   ·rw[List.getElem?_eq_none (by omega)]at hj
    simp at hj
theorem RX {H:Type} {enc:TypeId×Value→H} {P:Program} {w:World} {base fuel:Nat} {spare:Nat→Bool} {held:Bool} {t e:TypeId} {A:Option Addr} {len cap:Nat} {x:DataW H×List MemPlace}
  (ht:P.underlying t=some (.slice e)) (he:P.underlying e=some (.int .u8)) (hc:P.cellsOf e=1)
  (hf:DataW.trod enc P w base spare held fuel t [.slice A len cap]=some x):∃ xs,BD w (.slice A len cap) xs:=by
 obtain⟨d,ps⟩:=x
 obtain⟨xs,h,_⟩:=Ls ht he hc hf
 exact⟨xs,h⟩
end Go.Proofs.YtabdianhoabhhaaGreatDoor
namespace Go.Proofs.YtabdianhoabhhaaGreatDoor.Code
open Go Go.RowKit Go.Proofs.YtabdianhoabhhaaGreatDoor
set_option linter.unusedVariables false
theorem tF (zs:List Int) (k:Nat) (h:k < zs.length) (h1:(zs.take k).any Fj=false) (h2:Fj zs[k]=false):(zs.take (k+1)).any Fj=false:=by
 rw[BJ _ _ h,List.any_append,h1];simp[h2]
theorem mD (zs:List Int) (k:Nat) (h:k < zs.length) (hl:zs.length≤288) (h2:Fj zs[k]=true):GK zs=3:=by
 unfold GK
 rw[if_neg (by omega),if_pos (List.any_eq_true.2 ⟨_,List.getElem_mem h,h2⟩)]
theorem tH (zs:List Int) (hl:zs.length≤288) (h:zs.any Fj=false):GK zs=if 32768 < room (BC zs) then 8 else 0:=by
 unfold GK
 rw[if_neg (by omega),if_neg (by rw[h];simp)]
theorem ADP (m:Nat):(2:Int) ^ m=((2 ^ m:Nat):Int):=by simp
set_option maxRecDepth 100000 in
set_option maxHeartbeats 1600000 in
theorem mE (A:Option Addr) (n c:Nat) (zs:List Int) (w:World) (hn:zs.length=n) (hx:n≤288) (hA:Lv w A zs) :
  Calls Tryz.prog 231 #[.slice A n c] w fun e w'=>e=.returned (.int .i64 (GK zs))∧w'=w:=by
 have Hn:=Lib.hid hn
 have HA:=Lib.hid hA
 clear hn hA
 have hnm:¬ (288 < (n:Int)):=by omega
 go_enter Tryz.func231,Tryz.ntmps231
 go_wp2_with fail
 go_loop [3,11] (fun r i=>∃ k:Nat,k≤n∧i=.int .i64 (k:Int)∧(zs.take k).any Fj=false∧r=.int .i64 ((room (BC (zs.take k)):Nat):Int)) (fun _ i=>n - (intOf i).toNat)
 case atStart=>exact⟨0,Nat.zero_le _,rfl,rfl,rfl⟩
 case round=>
  obtain⟨k,hk,rfl,hany,rfl⟩:=hrel
  have XO:=Lib.hid hany
  clear hany
  have hroom:room (BC (zs.take k))≤9437184:=by
   have h1:=room_le (BC (zs.take k))
   have h2:(BC (zs.take k)).length≤288:=by unfold BC;rw[List.length_map,List.length_take];omega
   omega
  by_cases hlt:k < n
  ·have hkl:k < zs.length:=by rw[Hn.out];exact hlt
   obtain⟨b,o,rfl,hc⟩:=HA.out.get hkl
   have Hr:=Lib.hid (mF zs k hkl)
   have Ox:=Lib.hid (tF zs k hkl XO.out)
   have QB:=Lib.hid (mD zs k hkl (by rw[Hn.out];exact hx))
   generalize room (BC (zs.take k))=r at *
   generalize zs[k]=z at *
   by_cases h1:z < 0
   ·have Hf:=Lib.hid (QB.out (by simp[Fj,h1]))
    clear QB Ox Hr
    go_wp2_with fail
    go_ret
    exact⟨C9 Hf.out.symm,rfl⟩
   ·by_cases h2:15 < z
    ·have Hf:=Lib.hid (QB.out (by simp[Fj,h2]))
     clear QB Ox Hr
     go_wp2_with fail
     go_ret
     exact⟨C9 Hf.out.symm,rfl⟩
    ·obtain⟨x,rfl⟩:=Int.eq_ofNat_of_zero_le (by omega:0≤z)
     have Ha:=Lib.hid (Ox.out (by simp[Fj];omega))
     rw[Int.toNat_natCast]at Hr
     clear QB Ox
     by_cases h0:x=0
     ·subst h0
      have Hr':Hid (room (BC (zs.take (k+1)))=r):=Lib.hid (by rw[Hr.out];rfl)
      go_wp2_with fail
      go_round
      case rel=>exact⟨k+1,by omega,by go_num,Ha.out,by rw[Hr'.out]⟩
      case measure=>simp[intOf];omega
     ·have hx1:1≤x:=by omega
      have h0i:(0:Int) < (x:Int):=by omega
      have Hr':Hid (room (BC (zs.take (k+1)))=r+2 ^ (15 - x)):=Lib.hid (by rw[Hr.out,if_neg h0])
      have h3:(2:Nat) ^ (15 - x)≤2 ^ 15:=Nat.pow_le_pow_right (by omega) (by omega)
      have ht:=ADP (15 - x)
      generalize 2 ^ (15 - x)=y at *
      go_wp2_with fail
      go_round
      case rel=>exact⟨k+1,by omega,by go_num,Ha.out,by rw[Hr'.out];go_num⟩
      case measure=>simp[intOf];omega
  ·obtain rfl:k=n:=by omega
   have hal:=XO.out
   have Rb:=Lib.hid (List.take_of_length_le (by rw[Hn.out];omega:zs.length≤k))
   rw[Rb.out]at hal hroom⊢
   have Hf:=Lib.hid (tH zs (by rw[Hn.out];exact hx) hal)
   clear hal
   generalize room (BC zs)=r at *
   by_cases h3:32768 < r
   ·have Hr:Hid (GK zs=8):=Lib.hid (by rw[Hf.out,if_pos h3])
    go_wp2_with fail
    go_ret
    exact⟨C9 Hr.out.symm,rfl⟩
   ·have Hr:Hid (GK zs=0):=Lib.hid (by rw[Hf.out,if_neg h3])
    go_wp2_with fail
    go_ret
    exact⟨C9 Hr.out.symm,rfl⟩
theorem F7 (A:Option Addr) (n c:Nat) (zs:List Int) (w:World) (hn:zs.length=n) (hx:n≤maxLen) (hA:Lv w A zs) :
  Calls Tryz.prog 231 #[.slice A n c] w fun e w'=>e=.returned (.int .i64 (GK zs))∧w'=w:=by
 by_cases h:n≤288
 ·exact mE A n c zs w hn h hA
 ·have Hc:Hid (GK zs=2):=Lib.hid (by unfold GK;rw[if_pos (by omega)])
  have hnm:288 < (n:Int):=by omega
  unfold maxLen at hx
  clear hn hA
  go_enter Tryz.func231,Tryz.ntmps231
  go_wp2_with fail
  go_ret
  exact⟨C9 Hc.out.symm,rfl⟩
end Go.Proofs.YtabdianhoabhhaaGreatDoor.Code
namespace Go.Proofs.YtabdianhoabhhaaGreatDoor
open Go Go.RowKit
set_option linter.unusedVariables false
structure AJ (base:Nat) (T:List TypeId) (w w':World):Prop where
 os:w'.os=w.os
 tape:w'.tape=w.tape
 output:w'.output=w.output
 size:w.heap.size≤w'.heap.size
 block:∀ k,k < base→w'.heap[k]?=w.heap[k]?
 other:∀ (k:Nat) (o:Obj),w.heap[k]?=some o→(∀ cs t fr,o=Obj.cells cs t fr→t∉T)→w'.heap[k]?=some o
section
variable {base:Nat} {T:List TypeId} {w w' w'':World}
theorem AJ.refl (base:Nat) (T:List TypeId) (w:World):AJ base T w w:=⟨rfl,rfl,rfl,Nat.le_refl _,fun _ _=>rfl,fun _ _ h _=>h⟩
theorem AJ.trans (h:AJ base T w w') (k:AJ base T w' w''):AJ base T w w'':=
 ⟨k.os.trans h.os,k.tape.trans h.tape,k.output.trans h.output,Nat.le_trans h.size k.size,fun i hi=>(k.block i hi).trans (h.block i hi),fun i o ho ht=>k.other i o (h.other i o ho ht) ht⟩
theorem AJ.mono (h:AJ base T w w') {base':Nat} {T':List TypeId} (hb:base'≤base) (hT:∀ t,t∈T→t∈T'):AJ base' T' w w':=
 ⟨h.os,h.tape,h.output,h.size,fun i hi=>h.block i (by omega),fun i o ho ht=>h.other i o ho fun cs t fr e ht'=>ht cs t fr e (hT t ht')⟩
theorem AJ.drew (h:AJ base T w w'):AJ base T w w'.drew:=⟨h.os,h.tape,h.output,h.size,h.block,h.other⟩
theorem AJ.drewN (h:AJ base T w w') (n:Nat):AJ base T w (w'.drewN n):=⟨h.os,h.tape,h.output,h.size,h.block,h.other⟩
theorem AJ.alloc (h:AJ base T w w') (hb:base≤w'.heap.size) (o:Obj):AJ base T w (w'.alloc o):=
 h.trans ⟨rfl,rfl,rfl,by simp,fun k hk=>Below.heap_alloc _ _ _ (by omega),fun k x hx _=>by
  have hlt:k < w'.heap.size:=by
   rcases Nat.lt_or_ge k w'.heap.size with h | h
   ·exact h
   ·rw[Array.getElem?_eq_none h]at hx;cases hx
  rw[Below.heap_alloc _ _ _ hlt];exact hx⟩
theorem AJ.of_below (h:Below w.heap.size w w') (hb:base≤w.heap.size):AJ base T w w':=
 ⟨h.os,h.tape,h.output,h.size,fun k hk=>h.block k (by omega),fun k x hx _=>by
  have hlt:k < w.heap.size:=by
   rcases Nat.lt_or_ge k w.heap.size with h | h
   ·exact h
   ·rw[Array.getElem?_eq_none h]at hx;cases hx
  rw[h.block k hlt];exact hx⟩
theorem AJ.setCell (h:AJ base T w w') {p:Addr} {t:TypeId} {cs:Array Value} {fr:Nat×Nat} (hp:w'.heap[p.block]?=some (.cells cs t fr)) (ht:t∈T) (hb:base≤p.block) (u:Value):AJ base T w (w'.setCell p u):=
 h.trans ⟨rfl,rfl,rfl,by simp[World.setCell],fun k hk=>Below.heap_setCell _ _ _ _ (by omega),fun k x hx hn=>by
  have hne:k≠p.block:=by
   rintro rfl
   rw[hp]at hx
   injection hx with hx
   exact hn _ _ _ hx.symm ht
  rw[Below.heap_setCell _ _ _ _ hne];exact hx⟩
theorem AJ.grown (h:AJ base T w w') {e:TypeId} {size n:Nat} {v:Value} {xs:List Value} (hown:w'.ownsRow base e size v n xs) (hg:w'.grownBy w'' v.ownBlock) (ht:e∈T) (hB:base≤w'.heap.size):AJ base T w w'':=by
 refine h.trans ⟨hg.os,hg.tape,hg.output,hg.size,fun k hk=>hg.block k (by omega) (fun e=>by have:=(hown.lt k e.symm).1;omega),fun k x hx hn=>?_⟩
 have hlt:k < w'.heap.size:=by
  rcases Nat.lt_or_ge k w'.heap.size with h | h
  ·exact h
  ·rw[Array.getElem?_eq_none h]at hx;cases hx
 rw[hg.block k hlt ?_]
 ·exact hx
 ·intro he
  rcases hown.2 with ⟨rfl,_⟩ | ⟨g,cap,cur,rfl,hbg,hgb,r⟩
  ·simp[Value.ownBlock]at he
  ·have:k=g:=by simpa [Value.ownBlock] using he
   subst this
   rw[hgb]at hx
   injection hx with hx
   exact hn _ _ _ hx.symm ht
theorem AJ.Dc (h:AJ base T w w') {g:Nat} {t:TypeId} {cs:Array Value} (hp:AV w' g t cs) (ht:t∈T) (hb:base≤g) (i:Nat) (u:Value):AJ base T w (w'.setCell ⟨g,i,none⟩ u):=
 h.setCell (p:=⟨g,i,none⟩) hp ht hb u
theorem AJ.stored (h:AJ base T w w') {e:TypeId} {size n m cap g:Nat} {xs:List Value} (hown:w'.ownsRow base e size (.slice (some ⟨g,0,none⟩) m cap) n xs) (ht:e∈T) (i:Nat) (u:Value):AJ base T w (w'.setCell ⟨g,i,none⟩ u):=by
 rcases hown.2 with ⟨hv,_⟩ | ⟨g',cap',cur,hv,hbg,hg,r⟩
 ·cases hv
 ·injection hv with hv
  injection hv with hv
  injection hv with hv
  subst hv
  exact h.setCell (p:=⟨g,i,none⟩) hg ht hbg u
theorem AJ.below (h:AJ base T w w'):Below base w w':=⟨h.os,h.tape,h.output,h.size,h.block⟩
theorem AJ.blk (h:AJ base T w w') {g:Nat} {t:TypeId} {cs:Array Value} (hb:AV w g t cs) (ht:t∉T):AV w' g t cs:=
 h.other g _ hb fun cs' t' fr e=>by injection e with e1 e2;rw[←e2];exact ht
theorem AJ.own (h:AJ base T w w') {B:Nat} {e:TypeId} {size n:Nat} {v:Value} {xs:List Value} (hown:w.ownsRow B e size v n xs) (ht:e∉T):w'.ownsRow B e size v n xs:=by
 refine⟨hown.1,?_⟩
 rcases hown.2 with h1 | ⟨g,cap,cur,rfl,hbg,hg,r⟩
 ·exact .inl h1
 ·exact .inr ⟨g,cap,cur,rfl,hbg,h.other g _ hg fun cs' t' fr e=>by injection e with e1 e2;rw[←e2];exact ht,r⟩
end
theorem own_ne {w:World} {base:Nat} {e:TypeId} {size n:Nat} {v:Value} {xs:List Value} {g:Nat} {t:TypeId} {cs:Array Value} (h:w.ownsRow base e size v n xs) (hg:AV w g t cs) (hne:e≠t):v.ownBlock≠some g:=by
 rcases h.2 with ⟨rfl,_⟩ | ⟨g',cap,cur,rfl,_,hh,_⟩
 ·simp[Value.ownBlock]
 ·intro he
  have:g'=g:=by simpa [Value.ownBlock] using he
  subst this
  unfold AV at hg
  rw[hh]at hg
  injection hg with hg
  injection hg with _ ht
  exact hne ht
theorem AV.c0 {w:World} {g:Nat} {t:TypeId} {a b:Value} (h:AV w g t #[a,b]):w.cell? ⟨g,0,none⟩=some a:=by rw[h.cell];rfl
theorem AV.c1 {w:World} {g:Nat} {t:TypeId} {a b:Value} (h:AV w g t #[a,b]):w.cell? ⟨g,1,none⟩=some b:=by rw[h.cell];rfl
theorem AV.s0 {w:World} {g:Nat} {t:TypeId} {a b:Value} (h:AV w g t #[a,b]) (u:Value):AV (w.setCell ⟨g,0,none⟩ u) g t #[u,b]:=h.Ca 0 u
theorem AV.s1 {w:World} {g:Nat} {t:TypeId} {a b:Value} (h:AV w g t #[a,b]) (u:Value):AV (w.setCell ⟨g,1,none⟩ u) g t #[a,u]:=h.Ca 1 u
theorem AV.grown {w w':World} {g:Nat} {t:TypeId} {cs:Array Value} (hg:AV w g t cs) {row:Option Nat} (h:w.grownBy w' row) (hne:row≠some g):AV w' g t cs:=(h.block g hg.lt (fun e=>hne e.symm)).trans hg
end Go.Proofs.YtabdianhoabhhaaGreatDoor
namespace Go.Proofs.YtabdianhoabhhaaGreatDoor.Code
open Go Go.RowKit Go.Proofs.YtabdianhoabhhaaGreatDoor
set_option linter.unusedVariables false
def BR (n:Nat):Value:=.int .i64 (n:Int)
theorem wm:(Tryz.prog.info? 3).map (fun i=>(i.zero,i.size,i.bytes))=some (some (.int .i64 0),1,8):=by kernel_rfl
theorem F6 (n:Nat) (hn:n≤1000000) (u:World):(Instr.makeSlice 89 (.int .i64 (n:Int)) (.int .i64 (n:Int))).run Tryz.prog u =
   .ok (.slice (some ⟨u.heap.size,0,none⟩) n n) (u.alloc (.cells (madeCells #[.int .i64 0] n) 3)):=by
 obtain⟨i0,hi,hz0,hz1,hz2⟩:=info_parts wm
 have h:=run_make (P:=Tryz.prog) u 89 3 i0 (.int .i64 0) Tryz.underlying89 hi hz0 .i64 .i64 (n:Int) (n:Int) (by omega) (Int.le_refl _) (by rw[hz2];omega) (by omega)
 simpa [hz1,Value.cells] using h
def ED (l:List Nat):Array Value:=(l.map BR).toArray
theorem Ir (n:Nat):madeCells #[.int .i64 0] n=ED (List.replicate n 0):=by
 unfold madeCells ED
 apply Array.ext'
 simp
 apply List.ext_getElem
 ·simp
 ·intro i h1 h2
  simp[BR,Nat.mod_one]
theorem SN (l:List Nat) (i x:Nat):(ED l).setIfInBounds i (.int .i64 (x:Int))=ED (l.set i x):=by
 unfold ED
 apply Array.ext'
 simp[List.map_set,BR]
theorem SL (l:List Nat) (i:Nat) (h:i < l.length):(ED l)[i]?=some (.int .i64 (l[i]:Int)):=by
 simp[ED,h,BR]
theorem Rh (zs:List Int) (k:Nat) (h:k < zs.length):(BC zs).getD k 0=zs[k].toNat:=by
 simp[BC,List.getD_eq_getElem?_getD,h]
theorem Y2 (zs:List Int):(BC zs).length=zs.length:=by simp[BC]
end Go.Proofs.YtabdianhoabhhaaGreatDoor.Code
namespace Go.Proofs.YtabdianhoabhhaaGreatDoor.Inf
open Go Go.RowKit Go.Proofs.YtabdianhoabhhaaGreatDoor Go.Proofs.YtabdianhoabhhaaGreatDoor.Bits Go.Proofs.YtabdianhoabhhaaGreatDoor.Code
set_option linter.unusedVariables false
theorem Yj {P:Program} (ts:Array TypeId) (t:TypeId) (a b:Int) (w:World) :
  (Builtin.max_ ts t #[.int .i64 a,.int .i64 b]).run P w=.ok (.int .i64 (max a b)) w:=by
 simp[Builtin.max_,Builtin.max2]
 (repeat' split) <;> omega
theorem bX:Bj Tryz.prog 89 3 (.int .i64 0) 1 8:=⟨Tryz.underlying89,by kernel_rfl,rfl,by omega⟩
def Og (x:Nat×Nat):List Value:=[.int .i64 (x.1:Int),.int .i64 (x.2:Int)]
theorem jA (l:List (Nat×Nat)):(l.flatMap Og).length=l.length*2:=by
 induction l with
 | nil=>rfl
 | cons a l ih=>rw[List.flatMap_cons,List.length_append,ih,List.length_cons];simp[Og];omega
theorem tyX:Bj Tryz.prog 254 259 (.agg #[.int .i64 0,.int .i64 0]) 2 16:=⟨Tryz.underlying254,by kernel_rfl,rfl,by omega⟩
def SS (k:Nat):Nat:=(List.range k).foldl (fun f i=>f+2 ^ (i / 4 - 1)) 3
theorem dF (k:Nat):SS (k+1)=SS k+2 ^ (k / 4 - 1):=by unfold SS;rw[List.range_succ,List.foldl_append];rfl
theorem lU:∀ k < 28,BB.getD k (0,0)=(SS k,k / 4 - 1)∧SS k≤1000:=by decide
set_option maxRecDepth 100000 in
set_option maxHeartbeats 1600000 in
theorem Px (w:World):Calls Tryz.prog 196 #[] w fun e w'=>∃ A c,e=.returned (.slice A 29 c)∧w'.ownsRow w.heap.size 259 2 (.slice A 29 c) 29 (BB.flatMap Og)∧Below w.heap.size w w':=by
 go_enter Tryz.func196,Tryz.ntmps196
 go_wp2_with fail
 go_loopw [1,2,5] (fun pl pf vi wr=>∃ k:Nat,k≤28∧vi=.int .i64 (k:Int)∧pf=.int .i64 (SS k:Int)∧wr.ownsRow w.heap.size 259 2 pl k ((BB.take k).flatMap Og)∧Below w.heap.size w wr) (fun _ _ vi _=>28 - (intOf vi).toNat)
 case atStart=>exact⟨0,Nat.zero_le _,rfl,rfl,World.ownsRow_nil ..,Below.refl _ _⟩
 case round=>
  obtain⟨k,hk,rfl,rfl,ho,hb⟩:=hrel
  have HO:=Lib.hid ho
  have Hb:=Lib.hid hb
  clear ho hb
  by_cases hlt:k < 28
  ·obtain⟨h1,h2⟩:=lU k hlt
   obtain⟨b,hb⟩:∃ b,b=k / 4 - 1:=⟨_,rfl⟩
   have hmm:max (0:Int) ((k:Int) / 4 - 1)=(b:Int):=by omega
   have hmax:∀ (ts:Array TypeId) (ty:TypeId) (W:World),(Builtin.max_ ts ty #[.int .i64 0,.int .i64 ((k:Int) / 4 - 1)]).run Tryz.prog W=.ok (.int .i64 (b:Int)) W:=fun ts ty W=>by rw[Yj,hmm]
   rw[←hb]at h1
   have hnx:=dF k
   rw[←hb]at hnx
   obtain⟨f,hf⟩:∃ f,f=SS k:=⟨_,rfl⟩
   rw[←hf]at h1 h2 hnx⊢
   have Kk:b≤8:=by omega
   have hp2:2 ^ b≤256:=Nat.le_trans (Nat.pow_le_pow_right (by omega) Kk) (by decide)
   have hpi:((2:Int) ^ b)=((2 ^ b:Nat):Int):=by simp
   have hsh:IntKind.i64.wrap ((2:Int) ^ b)=(2:Int) ^ b:=by
    rw[hpi]
    exact IntWalk.i64_in _ (by omega)
   have hsm:IntKind.i64.wrap ((f:Int)+(2:Int) ^ b)=((f+2 ^ b:Nat):Int):=by
    rw[hpi,←Int.natCast_add]
    exact IntWalk.i64_in _ (by omega)
   have H1:=Lib.hid h1
   have Yk:=Lib.hid hnx
   have BA:Below wr.heap.size wr (wr.alloc (.cells #[.int .i64 (f:Int),.int .i64 (b:Int)] 259)):=(Below.refl _ _).alloc (Nat.le_refl _) _
   have Cz:=Lib.hid (AP HO.out BA)
   have Hb2:=Lib.hid (Hb.out.trans (BA.mono Hb.out.size))
   have HZ:Hid (AQ (wr.alloc (.cells #[.int .i64 (f:Int),.int .i64 (b:Int)] 259)) (some ⟨wr.heap.size,0,none⟩) [.int .i64 (f:Int),.int .i64 (b:Int)]):=Lib.hid (AQ.of_heap (heap_alloc_new _ _) rfl)
   clear h1 hnx hf hb hmm BA hpi
   go_wp2_with (at_builtin;refine AY _ rfl (.tmp 12) (.tmp 16) _ rfl w.heap.size 259 _ 2 16 tyX _ k ((BB.take k).flatMap Og) rfl Cz.out (some ⟨wr.heap.size,0,none⟩) 1 1 [.int .i64 (f:Int),.int .i64 (b:Int)] rfl rfl HZ.out (by simp[Value.oneCell']) (by simp) (by unfold maxLen;omega) (by omega) Hb2.out.size ?_;intro v8 w8 Au Dj _;have EJ:=Lib.hid (own_below Cz.out Dj Hb2.out Hb2.out.size);have GL:=Lib.hid Au;clear Au Dj)
   go_roundw
   case rel=>exact⟨k+1,by omega,by go_num,by rw[Yk.out];simp,by
    have h:BB.take (k+1)=BB.take k++[(f,b)]:=by
     have sD:k < BB.length:=by show k < 29;omega
     rw[BJ _ _ sD]
     congr 2
     have:=H1.out
     rw[List.getD_eq_getElem?_getD,List.getElem?_eq_getElem sD]at this
     exact this
    rw[h,List.flatMap_append]
    exact GL.out,EJ.out⟩
   case measure=>simp[intOf];omega
  ·obtain rfl:k=28:=by omega
   have BA:Below wr.heap.size wr (wr.alloc (.cells #[.int .i64 258,.int .i64 0] 259)):=(Below.refl _ _).alloc (Nat.le_refl _) _
   have Cz:=Lib.hid (AP HO.out BA)
   have Hb2:=Lib.hid (Hb.out.trans (BA.mono Hb.out.size))
   have HZ:Hid (AQ (wr.alloc (.cells #[.int .i64 258,.int .i64 0] 259)) (some ⟨wr.heap.size,0,none⟩) [.int .i64 258,.int .i64 0]):=Lib.hid (AQ.of_heap (heap_alloc_new _ _) rfl)
   clear BA
   go_wp2_with (at_builtin;refine AY _ rfl (.tmp 23) (.tmp 25) _ rfl w.heap.size 259 _ 2 16 tyX _ 28 ((BB.take 28).flatMap Og) rfl Cz.out (some ⟨wr.heap.size,0,none⟩) 1 1 [.int .i64 258,.int .i64 0] rfl rfl HZ.out (by simp[Value.oneCell']) (by simp) (by unfold maxLen;omega) (by omega) Hb2.out.size ?_;intro v8 w8 Au Dj _;have EJ:=Lib.hid (own_below Cz.out Dj Hb2.out Hb2.out.size);have GL:=Lib.hid Au;clear Au Dj)
   go_ret
   obtain⟨A8,c8,rfl,_⟩:=Ad GL.out
   refine⟨A8,c8,rfl,?_,EJ.out⟩
   have h:BB.flatMap Og=(BB.take 28).flatMap Og++[.int .i64 258,.int .i64 0]:=by rfl
   rw[h]
   exact GL.out
def SV (k:Nat):Nat:=(List.range k).foldl (fun f i=>f+2 ^ (i / 2 - 1)) 1
theorem dG (k:Nat):SV (k+1)=SV k+2 ^ (k / 2 - 1):=by unfold SV;rw[List.range_succ,List.foldl_append];rfl
theorem sF:∀ k < 30,Br.getD k (0,0)=(SV k,k / 2 - 1)∧SV k≤40000:=by decide
set_option maxRecDepth 100000 in
set_option maxHeartbeats 1600000 in
theorem SI (w:World):Calls Tryz.prog 197 #[] w fun e w'=>∃ A c,e=.returned (.slice A 30 c)∧w'.ownsRow w.heap.size 259 2 (.slice A 30 c) 30 (Br.flatMap Og)∧Below w.heap.size w w':=by
 go_enter Tryz.func197,Tryz.ntmps197
 go_wp2_with fail
 go_loopw [1,2,5] (fun pl pf vi wr=>∃ k:Nat,k≤30∧vi=.int .i64 (k:Int)∧pf=.int .i64 (SV k:Int)∧wr.ownsRow w.heap.size 259 2 pl k ((Br.take k).flatMap Og)∧Below w.heap.size w wr) (fun _ _ vi _=>30 - (intOf vi).toNat)
 case atStart=>exact⟨0,Nat.zero_le _,rfl,rfl,World.ownsRow_nil ..,Below.refl _ _⟩
 case round=>
  obtain⟨k,hk,rfl,rfl,ho,hb⟩:=hrel
  have HO:=Lib.hid ho
  have Hb:=Lib.hid hb
  clear ho hb
  by_cases hlt:k < 30
  ·obtain⟨h1,h2⟩:=sF k hlt
   obtain⟨b,hb⟩:∃ b,b=k / 2 - 1:=⟨_,rfl⟩
   have hmm:max (0:Int) ((k:Int) / 2 - 1)=(b:Int):=by omega
   have hmax:∀ (ts:Array TypeId) (ty:TypeId) (W:World),(Builtin.max_ ts ty #[.int .i64 0,.int .i64 ((k:Int) / 2 - 1)]).run Tryz.prog W=.ok (.int .i64 (b:Int)) W:=fun ts ty W=>by rw[Yj,hmm]
   rw[←hb]at h1
   have hnx:=dG k
   rw[←hb]at hnx
   obtain⟨f,hf⟩:∃ f,f=SV k:=⟨_,rfl⟩
   rw[←hf]at h1 h2 hnx⊢
   have Kk:b≤14:=by omega
   have hp2:2 ^ b≤16384:=Nat.le_trans (Nat.pow_le_pow_right (by omega) Kk) (by decide)
   have hpi:((2:Int) ^ b)=((2 ^ b:Nat):Int):=by simp
   have hsh:IntKind.i64.wrap ((2:Int) ^ b)=(2:Int) ^ b:=by
    rw[hpi]
    exact IntWalk.i64_in _ (by omega)
   have hsm:IntKind.i64.wrap ((f:Int)+(2:Int) ^ b)=((f+2 ^ b:Nat):Int):=by
    rw[hpi,←Int.natCast_add]
    exact IntWalk.i64_in _ (by omega)
   have H1:=Lib.hid h1
   have Yk:=Lib.hid hnx
   have BA:Below wr.heap.size wr (wr.alloc (.cells #[.int .i64 (f:Int),.int .i64 (b:Int)] 259)):=(Below.refl _ _).alloc (Nat.le_refl _) _
   have Cz:=Lib.hid (AP HO.out BA)
   have Hb2:=Lib.hid (Hb.out.trans (BA.mono Hb.out.size))
   have HZ:Hid (AQ (wr.alloc (.cells #[.int .i64 (f:Int),.int .i64 (b:Int)] 259)) (some ⟨wr.heap.size,0,none⟩) [.int .i64 (f:Int),.int .i64 (b:Int)]):=Lib.hid (AQ.of_heap (heap_alloc_new _ _) rfl)
   clear h1 hnx hf hb hmm BA hpi
   go_wp2_with (at_builtin;refine AY _ rfl (.tmp 12) (.tmp 16) _ rfl w.heap.size 259 _ 2 16 tyX _ k ((Br.take k).flatMap Og) rfl Cz.out (some ⟨wr.heap.size,0,none⟩) 1 1 [.int .i64 (f:Int),.int .i64 (b:Int)] rfl rfl HZ.out (by simp[Value.oneCell']) (by simp) (by unfold maxLen;omega) (by omega) Hb2.out.size ?_;intro v8 w8 Au Dj _;have EJ:=Lib.hid (own_below Cz.out Dj Hb2.out Hb2.out.size);have GL:=Lib.hid Au;clear Au Dj)
   go_roundw
   case rel=>exact⟨k+1,by omega,by go_num,by rw[Yk.out];simp,by
    have h:Br.take (k+1)=Br.take k++[(f,b)]:=by
     have sD:k < Br.length:=by show k < 30;omega
     rw[BJ _ _ sD]
     congr 2
     have:=H1.out
     rw[List.getD_eq_getElem?_getD,List.getElem?_eq_getElem sD]at this
     exact this
    rw[h,List.flatMap_append]
    exact GL.out,EJ.out⟩
   case measure=>simp[intOf];omega
  ·obtain rfl:k=30:=by omega
   obtain⟨A8,c8,rfl,_⟩:=Ad HO.out
   go_wp2_with fail
   go_ret
   exact⟨A8,c8,rfl,HO.out,Hb.out⟩
set_option maxRecDepth 100000 in
set_option maxHeartbeats 4000000 in
theorem Pz (w:World):Calls Tryz.prog 156 #[] w fun e w'=>∃ A a B b,e=.returned (.tuple #[.slice A 288 a,.slice B 32 b])∧w'.ownsRow w.heap.size 3 1 (.slice A 288 a) 288 (BU.map BR)∧w'.ownsRow w.heap.size 3 1 (.slice B 32 b) 32 (Co.map BR)∧Below w.heap.size w w':=by
 go_enter Tryz.func156,Tryz.ntmps156
 go_wp2_with fail
 go_loopw [0,4] (fun pl vi wr=>∃ k:Nat,k≤288∧vi=.int .i64 (k:Int)∧wr.ownsRow w.heap.size 3 1 pl k ((BU.take k).map BR)∧Below w.heap.size w wr) (fun _ vi _=>288 - (intOf vi).toNat)
 case atStart=>exact⟨0,Nat.zero_le _,rfl,World.ownsRow_nil ..,Below.refl _ _⟩
 case round=>
  obtain⟨k,hk,rfl,ho,hb⟩:=hrel
  have HO:=Lib.hid ho
  have Hb:=Lib.hid hb
  clear ho hb
  by_cases hlt:k < 288
  ·have hkl:k < BU.length:=by simp[BU];omega
   have HT:Hid ((BU.take (k+1)).map BR=(BU.take k).map BR++[BR BU[k]]):=Lib.hid (by rw[BJ _ _ hkl,List.map_append];rfl)
   have hv:BU[k]=if 144≤k∧k < 256 then 9 else if 256≤k∧k < 280 then 7 else 8:=by simp[BU]
   rcases (by omega:(144≤k∧k < 256)∨(256≤k∧k < 280)∨(k < 144∨280≤k)) with hc | hc | hc
   ·have hvv:BU[k]=9:=by rw[hv];rw[if_pos hc]
    have HT2:Hid ((BU.take (k+1)).map BR=(BU.take k).map BR++[.int .i64 9]):=Lib.hid (by rw[HT.out,hvv];rfl)
    have BA:Below wr.heap.size wr (wr.alloc (.cells #[.int .i64 9] 3)):=(Below.refl _ _).alloc (Nat.le_refl _) _
    have Cz:=Lib.hid (AP HO.out BA)
    have Hb2:=Lib.hid (Hb.out.trans (BA.mono Hb.out.size))
    have HZ:Hid (AQ (wr.alloc (.cells #[.int .i64 9] 3)) (some ⟨wr.heap.size,0,none⟩) [.int .i64 9]):=Lib.hid (AQ.of_heap (heap_alloc_new _ _) rfl)
    have hq1:(144:Int)≤(k:Int):=by omega
    have hq2:(k:Int) < 256:=by omega
    clear BA hv hvv hkl HT hc
    go_wp2_with (at_builtin;refine AY _ rfl (.tmp 21) (.tmp 23) _ rfl w.heap.size 3 _ 1 8 bX _ k ((BU.take k).map BR) rfl Cz.out (some ⟨wr.heap.size,0,none⟩) 1 1 [.int .i64 9] rfl rfl HZ.out (by simp[Value.oneCell']) (by simp) (by unfold maxLen;omega) (by omega) Hb2.out.size ?_;intro v8 w8 Au Dj _;have EJ:=Lib.hid (own_below Cz.out Dj Hb2.out Hb2.out.size);have GL:=Lib.hid Au;clear Au Dj)
    all_goals (
     go_roundw
     case rel=>exact⟨k+1,by omega,by go_num,by rw[HT2.out];exact GL.out,EJ.out⟩
     case measure=>simp[intOf];omega)
   ·have hvv:BU[k]=7:=by rw[hv];rw[if_neg (by omega),if_pos hc]
    have HT2:Hid ((BU.take (k+1)).map BR=(BU.take k).map BR++[.int .i64 7]):=Lib.hid (by rw[HT.out,hvv];rfl)
    have BA:Below wr.heap.size wr (wr.alloc (.cells #[.int .i64 7] 3)):=(Below.refl _ _).alloc (Nat.le_refl _) _
    have Cz:=Lib.hid (AP HO.out BA)
    have Hb2:=Lib.hid (Hb.out.trans (BA.mono Hb.out.size))
    have HZ:Hid (AQ (wr.alloc (.cells #[.int .i64 7] 3)) (some ⟨wr.heap.size,0,none⟩) [.int .i64 7]):=Lib.hid (AQ.of_heap (heap_alloc_new _ _) rfl)
    have hq1:(144:Int)≤(k:Int):=by omega
    have hq2:¬ (k:Int) < 256:=by omega
    have hq3:(256:Int)≤(k:Int):=by omega
    have hq4:(k:Int) < 280:=by omega
    clear BA hv hvv hkl HT hc
    go_wp2_with (at_builtin;refine AY _ rfl (.tmp 21) (.tmp 23) _ rfl w.heap.size 3 _ 1 8 bX _ k ((BU.take k).map BR) rfl Cz.out (some ⟨wr.heap.size,0,none⟩) 1 1 [.int .i64 7] rfl rfl HZ.out (by simp[Value.oneCell']) (by simp) (by unfold maxLen;omega) (by omega) Hb2.out.size ?_;intro v8 w8 Au Dj _;have EJ:=Lib.hid (own_below Cz.out Dj Hb2.out Hb2.out.size);have GL:=Lib.hid Au;clear Au Dj)
    all_goals (
     go_roundw
     case rel=>exact⟨k+1,by omega,by go_num,by rw[HT2.out];exact GL.out,EJ.out⟩
     case measure=>simp[intOf];omega)
   ·have hvv:BU[k]=8:=by rw[hv];rw[if_neg (by omega),if_neg (by omega)]
    have HT2:Hid ((BU.take (k+1)).map BR=(BU.take k).map BR++[.int .i64 8]):=Lib.hid (by rw[HT.out,hvv];rfl)
    have BA:Below wr.heap.size wr (wr.alloc (.cells #[.int .i64 8] 3)):=(Below.refl _ _).alloc (Nat.le_refl _) _
    have Cz:=Lib.hid (AP HO.out BA)
    have Hb2:=Lib.hid (Hb.out.trans (BA.mono Hb.out.size))
    have HZ:Hid (AQ (wr.alloc (.cells #[.int .i64 8] 3)) (some ⟨wr.heap.size,0,none⟩) [.int .i64 8]):=Lib.hid (AQ.of_heap (heap_alloc_new _ _) rfl)
    clear hv hvv hkl HT
    rcases hc with hc | hc
    ·have hq1:¬ (144:Int)≤(k:Int):=by omega
     have hq3:¬ (256:Int)≤(k:Int):=by omega
     clear BA hc
     go_wp2_with (at_builtin;refine AY _ rfl (.tmp 21) (.tmp 23) _ rfl w.heap.size 3 _ 1 8 bX _ k ((BU.take k).map BR) rfl Cz.out (some ⟨wr.heap.size,0,none⟩) 1 1 [.int .i64 8] rfl rfl HZ.out (by simp[Value.oneCell']) (by simp) (by unfold maxLen;omega) (by omega) Hb2.out.size ?_;intro v8 w8 Au Dj _;have EJ:=Lib.hid (own_below Cz.out Dj Hb2.out Hb2.out.size);have GL:=Lib.hid Au;clear Au Dj)
     all_goals (
      go_roundw
      case rel=>exact⟨k+1,by omega,by go_num,by rw[HT2.out];exact GL.out,EJ.out⟩
      case measure=>simp[intOf];omega)
    ·have hq1:(144:Int)≤(k:Int):=by omega
     have hq2:¬ (k:Int) < 256:=by omega
     have hq3:(256:Int)≤(k:Int):=by omega
     have hq4:¬ (k:Int) < 280:=by omega
     clear BA hc
     go_wp2_with (at_builtin;refine AY _ rfl (.tmp 21) (.tmp 23) _ rfl w.heap.size 3 _ 1 8 bX _ k ((BU.take k).map BR) rfl Cz.out (some ⟨wr.heap.size,0,none⟩) 1 1 [.int .i64 8] rfl rfl HZ.out (by simp[Value.oneCell']) (by simp) (by unfold maxLen;omega) (by omega) Hb2.out.size ?_;intro v8 w8 Au Dj _;have EJ:=Lib.hid (own_below Cz.out Dj Hb2.out Hb2.out.size);have GL:=Lib.hid Au;clear Au Dj)
     all_goals (
      go_roundw
      case rel=>exact⟨k+1,by omega,by go_num,by rw[HT2.out];exact GL.out,EJ.out⟩
      case measure=>simp[intOf];omega)
  ·obtain rfl:k=288:=by omega
   obtain⟨A8,c8,rfl,_⟩:=Ad HO.out
   have HOA:=HO
   have HbA:=Hb
   obtain⟨w1,rfl⟩:∃ w1,w1=wr:=⟨_,rfl⟩
   clear hlt hk
   go_wp2_with fail
   go_loopw [1,26] (fun pl vi wr=>∃ k:Nat,k≤32∧vi=.int .i64 (k:Int)∧wr.ownsRow w1.heap.size 3 1 pl k ((Co.take k).map BR)∧Below w1.heap.size w1 wr) (fun _ vi _=>32 - (intOf vi).toNat)
   case atStart=>exact⟨0,Nat.zero_le _,rfl,World.ownsRow_nil ..,Below.refl _ _⟩
   case round=>
    obtain⟨k,hk,rfl,ho,hb⟩:=hrel
    have HO:=Lib.hid ho
    have Hb:=Lib.hid hb
    clear ho hb
    by_cases hlt:k < 32
    ·have HT:Hid ((Co.take (k+1)).map BR=(Co.take k).map BR++[.int .i64 5]):=Lib.hid (by
      have hkl:k < Co.length:=by simp[Co];omega
      have hv:Co[k]=5:=List.eq_of_mem_replicate (List.getElem_mem hkl)
      rw[BJ _ _ hkl,List.map_append,hv]
      rfl)
     have BA:Below wr.heap.size wr (wr.alloc (.cells #[.int .i64 5] 3)):=(Below.refl _ _).alloc (Nat.le_refl _) _
     have Cz:=Lib.hid (AP HO.out BA)
     have Hb2:=Lib.hid (Hb.out.trans (BA.mono Hb.out.size))
     have HZ:Hid (AQ (wr.alloc (.cells #[.int .i64 5] 3)) (some ⟨wr.heap.size,0,none⟩) [.int .i64 5]):=Lib.hid (AQ.of_heap (heap_alloc_new _ _) rfl)
     clear BA
     go_wp2_with (at_builtin;refine AY _ rfl (.tmp 28) (.tmp 29) _ rfl w1.heap.size 3 _ 1 8 bX _ k ((Co.take k).map BR) rfl Cz.out (some ⟨wr.heap.size,0,none⟩) 1 1 [.int .i64 5] rfl rfl HZ.out (by simp[Value.oneCell']) (by simp) (by unfold maxLen;omega) (by omega) Hb2.out.size ?_;intro v8 w8 Au Dj _;have EJ:=Lib.hid (own_below Cz.out Dj Hb2.out Hb2.out.size);have GL:=Lib.hid Au;clear Au Dj)
     go_roundw
     case rel=>exact⟨_,_,_,_,_,_,_,⟨k+1,by omega,by go_num,by rw[HT.out];exact GL.out,EJ.out⟩,rfl⟩
     case measure=>simp[intOf];omega
    ·obtain rfl:k=32:=by omega
     obtain⟨B8,d8,rfl,_⟩:=Ad HO.out
     go_wp2_with fail
     go_ret2
     refine⟨A8,c8,B8,d8,rfl,?_,AZ HO.out HbA.out.size,HbA.out.trans (Hb.out.mono HbA.out.size)⟩
     exact AP HOA.out Hb.out
end Go.Proofs.YtabdianhoabhhaaGreatDoor.Inf
namespace Go.Proofs.YtabdianhoabhhaaGreatDoor.Match
set_option linter.unusedVariables false
def EN (b:List UInt8) (i k:Nat):Nat:=(((b.drop i).zip ((b.drop k).take 258)).takeWhile (fun p=>p.1 == p.2)).length
theorem AGs {α:Type} (p:α→Bool) (l:List α):(l.takeWhile p).length≤l.length:=by
 induction l with
 | nil=>simp
 | cons a l ih=>simp only[List.takeWhile_cons];split <;> simp <;> omega
theorem jI {α:Type} (p:α→Bool) (l:List α) (n:Nat) (h:n≤(l.takeWhile p).length) (hn:n < l.length) (hp:p l[n]=true):n+1≤(l.takeWhile p).length:=by
 induction l generalizing n with
 | nil=>simp at hn
 | cons a l ih=>
  simp only[List.takeWhile_cons]at h⊢
  cases n with
  | zero=>simp at hp;simp[hp]
  | succ n=>
   cases hpa:p a with
   | false=>simp[hpa]at h
   | true=>
    simp only[hpa,if_true,List.length_cons]at h⊢
    have:=ih n (by omega) (by simpa using hn) (by simpa using hp)
    omega
theorem XM {α:Type} (p:α→Bool) (l:List α) (n:Nat) (h:n < (l.takeWhile p).length):∃ hn:n < l.length,p l[n]=true:=by
 induction l generalizing n with
 | nil=>simp at h
 | cons a l ih=>
  simp only[List.takeWhile_cons]at h
  cases hpa:p a with
  | false=>simp[hpa]at h
  | true=>
   simp only[hpa,if_true,List.length_cons]at h
   cases n with
   | zero=>exact⟨by simp,by simpa using hpa⟩
   | succ n=>
    obtain⟨h1,h2⟩:=ih n (by omega)
    exact⟨by simpa using h1,by simpa using h2⟩
theorem jh (b:List UInt8) (i k:Nat) (hik:i≤k):((b.drop i).zip ((b.drop k).take 258)).length=min 258 (b.length - k):=by
 simp;omega
theorem Ru (b:List UInt8) (i k:Nat) (hik:i≤k):EN b i k≤258∧EN b i k≤b.length - k:=by
 have:=AGs (fun p:UInt8×UInt8=>p.1 == p.2) ((b.drop i).zip ((b.drop k).take 258))
 rw[jh b i k hik]at this
 unfold EN;omega
theorem NJ (b:List UInt8) (i k n:Nat) (hik:i≤k) (h:n≤EN b i k) (h1:n < 258) (h2:k+n < b.length) (h3:b[i+n]'(by omega)=b[k+n]):n+1≤EN b i k:=by
 refine jI _ _ n h (by rw[jh b i k hik];omega) ?_
 simpa using h3
theorem nQ (b:List UInt8) (i k n:Nat) (hik:i≤k) (h:n≤EN b i k) (hs:¬ (n < 258)∨¬ (k+n < b.length)∨∃ (h:k+n < b.length),b[i+n]'(by omega)≠b[k+n]):EN b i k=n:=by
 rcases Nat.lt_or_ge n (EN b i k) with hlt | hge
 ·have hl:=Ru b i k hik
  rcases hs with hs | hs | ⟨h2,h3⟩
  ·omega
  ·omega
  ·obtain⟨_,hp⟩:=XM _ _ n hlt
   simp at hp
   exact absurd hp h3
 ·omega
theorem PG (b:List UInt8) (i k n:Nat) (hik:i≤k) (h:n < EN b i k):∃ h2:k+n < b.length,b[i+n]'(by omega)=b[k+n]:=by
 have hl:=Ru b i k hik
 obtain⟨_,hp⟩:=XM _ _ n h
 simp at hp
 exact⟨by omega,hp⟩
def IE (b:List UInt8) (k:Nat) (s:Nat×Nat) (i:Nat):Nat×Nat:=if s.1 < EN b i k then (EN b i k,k - i) else s
def Gf (b:List UInt8) (k:Nat):Nat→Nat×Nat
 | 0=>(0,0)
 | d+1=>IE b k (Gf b k d) (k - (d+1))
def nS (s:Nat×Nat):Nat×Nat:=if s.1 < 3 then (0,0) else s
def longest (b:List UInt8) (k:Nat):Nat×Nat:=nS (Gf b k k)
theorem wK (b:List UInt8) (k d:Nat) (hd:d≤k):(Gf b k d).1≤258∧(Gf b k d).1≤b.length - k∧(Gf b k d).2≤d∧(0 < (Gf b k d).1→0 < (Gf b k d).2∧(Gf b k d).1=EN b (k - (Gf b k d).2) k):=by
 induction d with
 | zero=>simp[Gf]
 | succ d ih=>
  obtain⟨h1,h2,h3,h4⟩:=ih (by omega)
  have hs:=Ru b (k - (d+1)) k (by omega)
  unfold Gf IE
  split
  ·refine⟨hs.1,hs.2,by simp;omega,fun _=>⟨by simp;omega,?_⟩⟩
   have:k - (k - (k - (d+1)))=k - (d+1):=by omega
   simp[this]
  ·exact⟨h1,h2,by omega,h4⟩
theorem Gm (b:List UInt8) (k:Nat):(longest b k).1≤258∧(longest b k).1≤b.length - k∧(longest b k).2≤k∧(0 < (longest b k).1→3≤(longest b k).1∧0 < (longest b k).2∧(longest b k).1=EN b (k - (longest b k).2) k):=by
 obtain⟨h1,h2,h3,h4⟩:=wK b k k (Nat.le_refl _)
 by_cases h:(Gf b k k).1 < 3
 ·have:longest b k=(0,0):=by unfold longest nS;rw[if_pos h]
  rw[this];simp
 ·have:longest b k=Gf b k k:=by unfold longest nS;rw[if_neg h]
  rw[this]
  exact⟨h1,h2,h3,fun h=>⟨by omega,h4 h⟩⟩
theorem Xv (b:List UInt8) (k:Nat) (h:(longest b k).1=0):longest b k=(0,0):=by
 by_cases h':(Gf b k k).1 < 3
 ·unfold longest nS;rw[if_pos h']
 ·have:longest b k=Gf b k k:=by unfold longest nS;rw[if_neg h']
  rw[this]at h;omega
def Yb (b:List UInt8) (k:Nat):List UInt8:=(b.drop k).take 3
def VJ (b:List UInt8) (t:List UInt8) (K:Nat):List Nat:=(List.range K).filter fun p=>decide (p+3≤b.length) && (Yb b p == t)
theorem Zi (b:List UInt8) (t:List UInt8) (K:Nat):VJ b t (K+1)=VJ b t K++if K+3≤b.length∧Yb b K=t then [K] else []:=by
 unfold VJ
 rw[List.range_succ,List.filter_append]
 by_cases h1:K+3≤b.length <;> by_cases h2:Yb b K=t <;> simp[h1,h2]
theorem AED (b:List UInt8) (t:List UInt8) (K:Nat):∀ p∈VJ b t K,p < K∧p+3≤b.length∧Yb b p=t:=by
 intro p hp
 unfold VJ at hp
 simpa using hp
theorem jg (b:List UInt8) (t:List UInt8) (K:Nat):(VJ b t K).length≤K:=by
 have:=List.length_filter_le (fun p=>decide (p+3≤b.length) && (Yb b p == t)) (List.range K)
 simpa [VJ] using this
theorem wL (b:List UInt8) (i k:Nat) (hik:i≤k) (hk:k+3≤b.length):Yb b i=Yb b k↔3≤EN b i k:=by
 have e:∀ j,j+3≤b.length→∃ (h:j+3≤b.length),Yb b j=[b[j],b[j+1],b[j+2]]:=by
  intro j h
  refine⟨h,?_⟩
  unfold Yb
  rw[List.drop_eq_getElem_cons (by omega),List.drop_eq_getElem_cons (by omega),List.drop_eq_getElem_cons (by omega),List.take_succ_cons,List.take_succ_cons,List.take_succ_cons,List.take_zero]
 obtain⟨h1,e1⟩:=e i (by omega)
 obtain⟨h2,e2⟩:=e k hk
 rw[e1,e2]
 constructor
 ·intro h
  simp at h
  obtain⟨a1,a2,a3⟩:=h
  have s1:=NJ b i k 0 hik (by omega) (by omega) (by omega) a1
  have s2:=NJ b i k 1 hik s1 (by omega) (by omega) a2
  exact NJ b i k 2 hik s2 (by omega) (by omega) a3
 ·intro h
  obtain⟨_,a1⟩:=PG b i k 0 hik (by omega)
  obtain⟨_,a2⟩:=PG b i k 1 hik (by omega)
  obtain⟨_,a3⟩:=PG b i k 2 hik (by omega)
  simp at a1 a2 a3⊢
  exact⟨a1,a2,a3⟩
def tryAll (b:List UInt8) (k:Nat) (l:List Nat):Nat×Nat:=l.foldl (IE b k) (0,0)
theorem Q4 (b:List UInt8) (k:Nat) (l:List Nat) (i:Nat):tryAll b k (l++[i])=IE b k (tryAll b k l) i:=by
 unfold tryAll;rw[List.foldl_append];rfl
theorem wM (b:List UInt8) (k d:Nat) (hd:d≤k):Gf b k d=tryAll b k ((List.range' (k - d) d).reverse):=by
 induction d with
 | zero=>simp[Gf,tryAll]
 | succ d ih=>
  have:List.range' (k - (d+1)) (d+1)=(k - (d+1)) :: List.range' (k - d) d:=by
   rw[List.range'_succ];congr 2;omega
  rw[this,List.reverse_cons,Q4,←ih (by omega)]
  rfl
theorem nU (b:List UInt8) (k:Nat) (l:List Nat) (q:Nat→Bool) (hq:∀ i∈l,q i=true↔3≤EN b i k) :
  (tryAll b k l).1 < 3∧tryAll b k (l.filter q)=(0,0)∨3≤(tryAll b k l).1∧tryAll b k (l.filter q)=tryAll b k l:=by
 have key:∀ (l:List Nat) (s t:Nat×Nat),(∀ i∈l,q i=true↔3≤EN b i k)→(s.1 < 3∧t=(0,0)∨3≤s.1∧t=s)→
   ((l.foldl (IE b k) s).1 < 3∧(l.filter q).foldl (IE b k) t=(0,0)∨3≤(l.foldl (IE b k) s).1∧(l.filter q).foldl (IE b k) t=l.foldl (IE b k) s):=by
  intro l
  induction l with
  | nil=>intro s t _ h;simpa using h
  | cons a l ih=>
   intro s t hl h
   have ha:=hl a (by simp)
   have hl':∀ i∈l,q i=true↔3≤EN b i k:=fun i hi=>hl i (by simp[hi])
   cases hqa:q a with
   | true=>
    rw[List.filter_cons_of_pos hqa,List.foldl_cons,List.foldl_cons]
    refine ih _ _ hl' ?_
    have h3:=ha.1 hqa
    unfold IE
    rcases h with ⟨h1,rfl⟩ | ⟨h1,rfl⟩
    ·rw[if_pos (by omega),if_pos (by simp;omega)]
     exact Or.inr ⟨h3,rfl⟩
    ·split
     ·exact Or.inr ⟨h3,rfl⟩
     ·exact Or.inr ⟨h1,rfl⟩
   | false=>
    rw[List.filter_cons_of_neg (by simp[hqa]),List.foldl_cons]
    refine ih _ _ hl' ?_
    have h3:¬ 3≤EN b a k:=fun h=>by rw[ha.2 h]at hqa;cases hqa
    unfold IE
    rcases h with ⟨h1,rfl⟩ | ⟨h1,rfl⟩
    ·split
     ·exact Or.inl ⟨by simp;omega,rfl⟩
     ·exact Or.inl ⟨h1,rfl⟩
    ·rw[if_neg (by omega)]
     exact Or.inr ⟨h1,rfl⟩
 exact key l (0,0) (0,0) hq (Or.inl ⟨by simp,rfl⟩)
theorem find_eq (b:List UInt8) (k:Nat) (hk:k+3≤b.length):tryAll b k ((VJ b (Yb b k) k).reverse)=longest b k:=by
 have e:(VJ b (Yb b k) k).reverse=((List.range' 0 k).reverse).filter (fun p=>decide (p+3≤b.length) && (Yb b p == Yb b k)):=by
  unfold VJ;rw[List.filter_reverse,List.range_eq_range']
 rw[e]
 have hf:=nU b k ((List.range' 0 k).reverse) (fun p=>decide (p+3≤b.length) && (Yb b p == Yb b k)) (by
  intro i hi
  simp at hi
  rw[←wL b i k (by omega) hk]
  simp
  intro _;omega)
 have el:Gf b k k=tryAll b k ((List.range' 0 k).reverse):=by rw[wM b k k (Nat.le_refl _)];simp
 unfold longest nS
 rw[el]
 rcases hf with ⟨h1,h2⟩ | ⟨h1,h2⟩
 ·rw[if_pos h1,h2]
 ·rw[if_neg (by omega),h2]
theorem Zj (b:List UInt8) (k:Nat) (hk:b.length < k+3):longest b k=(0,0):=by
 refine Xv b k ?_
 obtain⟨h1,h2,h3,h4⟩:=Gm b k
 rcases Nat.eq_zero_or_pos (longest b k).1 with h | h
 ·exact h
 ·have:=h4 h;omega
abbrev Tok:=UInt8×Int×Int
def KT (b:List UInt8) (s:Nat×List Tok):Nat×List Tok:=
 if s.1 < b.length then
  if (longest b s.1).1=0∨(s.1+1 < b.length∧(longest b s.1).1 < (longest b (s.1+1)).1) then (s.1+1,s.2++[(b.getD s.1 0,0,0)])
  else (s.1+(longest b s.1).1,s.2++[(0,((longest b s.1).1:Int),((longest b s.1).2:Int))])
 else s
def Bl (b:List UInt8):Nat→Nat×List Tok
 | 0=>(0,[])
 | m+1=>KT b (Bl b m)
def toks (b:List UInt8):List Tok:=(Bl b b.length).2
theorem eu (b:List UInt8) (s:Nat×List Tok) (h:b.length≤s.1):KT b s=s:=by unfold KT;rw[if_neg (by omega)]
theorem PH (b:List UInt8) (m:Nat):(Bl b m).1≤b.length∧(b.length≤(Bl b m).1∨m≤(Bl b m).1)∧(Bl b m).2.length≤(Bl b m).1:=by
 induction m with
 | zero=>simp[Bl]
 | succ m ih=>
  obtain⟨h1,h2,h3⟩:=ih
  have hl:=Gm b (Bl b m).1
  unfold Bl KT
  by_cases ha:(Bl b m).1 < b.length
  ·rw[if_pos ha]
   by_cases hb:(longest b (Bl b m).1).1=0∨((Bl b m).1+1 < b.length∧(longest b (Bl b m).1).1 < (longest b ((Bl b m).1+1)).1)
   ·rw[if_pos hb];simp;omega
   ·rw[if_neg hb];simp
    have:0 < (longest b (Bl b m).1).1:=by omega
    omega
  ·rw[if_neg ha];omega
theorem V6 (b:List UInt8) (m j:Nat) (h:b.length≤(Bl b m).1):Bl b (m+j)=Bl b m:=by
 induction j with
 | zero=>rfl
 | succ j ih=>show KT b (Bl b (m+j))=_;rw[ih,eu b _ h]
theorem fA (b:List UInt8) (m:Nat) (h:b.length≤(Bl b m).1):(Bl b m).2=toks b:=by
 unfold toks
 have h2:b.length≤(Bl b b.length).1:=by have:=(PH b b.length).2.1;omega
 rcases Nat.le_total m b.length with hm | hm
 ·obtain⟨j,hj⟩:=Nat.exists_eq_add_of_le hm
  rw[hj,V6 b m j h]
 ·obtain⟨j,hj⟩:=Nat.exists_eq_add_of_le hm
  have:=V6 b b.length j h2
  rw[hj,this]
def TZ (d:Nat):Nat→List UInt8→List UInt8
 | 0,l=>l
 | n+1,l=>TZ d n l++[(TZ d n l).getD ((TZ d n l).length - d) 0]
def DX (l:List UInt8) (t:Tok):List UInt8:=if t.2.1=0 then l++[t.1] else TZ t.2.2.toNat t.2.1.toNat l
def expand (ts:List Tok):List UInt8:=ts.foldl DX []
theorem JJ (d n:Nat) (l:List UInt8):(TZ d n l).length=l.length+n:=by
 induction n with
 | zero=>rfl
 | succ n ih=>simp[TZ,ih];omega
theorem wN (b:List UInt8) (k d n:Nat) (hd0:0 < d) (hd:d≤k) (hn:n≤EN b (k - d) k):TZ d n (b.take k)=b.take (k+n):=by
 induction n with
 | zero=>rfl
 | succ n ih=>
  obtain⟨h2,h3⟩:=PG b (k - d) k n (by omega) (by omega)
  have e:=ih (by omega)
  simp only[TZ]
  rw[e]
  have hlen:(b.take (k+n)).length=k+n:=by simp;omega
  rw[hlen,←Nat.add_assoc,List.take_succ_eq_append_getElem h2]
  congr 2
  rw[List.getD_eq_getElem?_getD,List.getElem?_take,if_pos (by omega),List.getElem?_eq_getElem (by omega)]
  have:k+n - d=k - d+n:=by omega
  simp only[this,Option.getD_some]
  exact h3
theorem Xw (b:List UInt8) (m:Nat):expand (Bl b m).2=b.take (Bl b m).1:=by
 induction m with
 | zero=>simp[Bl,expand]
 | succ m ih=>
  have hle:=PH b m
  have hl:=Gm b (Bl b m).1
  unfold Bl KT
  by_cases ha:(Bl b m).1 < b.length
  ·rw[if_pos ha]
   by_cases hb:(longest b (Bl b m).1).1=0∨((Bl b m).1+1 < b.length∧(longest b (Bl b m).1).1 < (longest b ((Bl b m).1+1)).1)
   ·rw[if_pos hb]
    unfold expand at ih⊢
    rw[List.foldl_append,ih]
    simp only[List.foldl_cons,List.foldl_nil,DX,if_true]
    rw[List.take_succ_eq_append_getElem ha,List.getD_eq_getElem?_getD,List.getElem?_eq_getElem ha];rfl
   ·rw[if_neg hb]
    unfold expand at ih⊢
    rw[List.foldl_append,ih]
    have h0:0 < (longest b (Bl b m).1).1:=by omega
    obtain⟨h3,h4,h5⟩:=hl.2.2.2 h0
    simp only[List.foldl_cons,List.foldl_nil,DX]
    rw[if_neg (by omega)]
    simp only[Int.toNat_natCast]
    exact wN b _ _ _ h4 hl.2.2.1 (by omega)
  ·rw[if_neg ha];exact ih
theorem P8 (b:List UInt8):(Bl b b.length).1=b.length:=by
 have:=PH b b.length;omega
theorem Zl (b:List UInt8):expand (toks b)=b:=by
 unfold toks;rw[Xw,P8,List.take_length]
theorem Ot (b:List UInt8):(toks b).length≤b.length:=by
 have:=PH b b.length;unfold toks;omega
def DV (n:Int) (t:Tok):Int×Int:=
 if t.2.1=0 then (if t.2.2≠0 then (4,n) else (0,n+1))
 else if t.1≠0 then (4,n)
 else if t.2.1 < 3∨258 < t.2.1∨t.2.2 < 1 then (3,n)
 else if n < t.2.2 then (9,n)
 else (0,n+t.2.1)
def Ci:List Tok→Int→Int×Int
 | [],n=>(0,n)
 | t :: ts,n=>if (DV n t).1=0 then Ci ts (DV n t).2 else ((DV n t).1,n)
def chk (ts:List Tok):Int:=if 3000 < ts.length then 2 else if (Ci ts 0).1≠0 then (Ci ts 0).1 else if 3000 < (Ci ts 0).2 then 2 else 0
theorem Nb (a c:List Tok) (n:Int) (h:(Ci a n).1=0):Ci (a++c) n=Ci c (Ci a n).2:=by
 induction a generalizing n with
 | nil=>rfl
 | cons t a ih=>
  simp only[List.cons_append,Ci]at h⊢
  split
  ·rename_i h1;rw[if_pos h1]at h;rw[ih _ h]
  ·rename_i h1;rw[if_neg h1]at h;exact absurd h h1
theorem nV (n s f:Int) (h1:3≤s) (h2:s≤258) (h3:1≤f) (h4:f≤n):DV n (0,s,f)=(0,n+s):=by
 unfold DV
 dsimp only
 rw[if_neg (by omega),if_neg (by simp),if_neg (by omega),if_neg (by omega)]
theorem Kr (b:List UInt8) (m:Nat):Ci (Bl b m).2 0=(0,((Bl b m).1:Int)):=by
 induction m with
 | zero=>simp[Bl,Ci]
 | succ m ih=>
  have hl:=Gm b (Bl b m).1
  unfold Bl KT
  by_cases ha:(Bl b m).1 < b.length
  ·rw[if_pos ha]
   by_cases hb:(longest b (Bl b m).1).1=0∨((Bl b m).1+1 < b.length∧(longest b (Bl b m).1).1 < (longest b ((Bl b m).1+1)).1)
   ·rw[if_pos hb,Nb _ _ _ (by rw[ih]),ih]
    simp[Ci,DV]
   ·rw[if_neg hb,Nb _ _ _ (by rw[ih]),ih]
    have h0:0 < (longest b (Bl b m).1).1:=by omega
    obtain⟨h3,h4,h5⟩:=hl.2.2.2 h0
    have e:=nV ((Bl b m).1:Int) ((longest b (Bl b m).1).1:Int) ((longest b (Bl b m).1).2:Int) (by omega) (by omega) (by omega) (by omega)
    unfold Ci Ci
    rw[e]
    simp
  ·rw[if_neg ha];exact ih
end Go.Proofs.YtabdianhoabhhaaGreatDoor.Match
namespace Go.Proofs.YtabdianhoabhhaaGreatDoor.AV
open Go.Proofs.YtabdianhoabhhaaGreatDoor Go.Proofs.YtabdianhoabhhaaGreatDoor.Bits Go.Proofs.YtabdianhoabhhaaGreatDoor.Code Go.Proofs.YtabdianhoabhhaaGreatDoor.Match Go.Proofs.YtabdianhoabhhaaGreatDoor.SP
set_option linter.unusedVariables false
def L6 (l:List (Nat×Nat)) (n:Nat):Nat→Nat
 | 0=>0
 | k+1=>if (l.getD k (0,0)).1≤n then k else L6 l n k
def Di (l:List (Nat×Nat)) (n:Nat):Nat:=L6 l n l.length
theorem jG (l:List (Nat×Nat)) (n:Nat):∀ k,0 < k→L6 l n k < k
 | 0,h=>absurd h (by omega)
 | k+1,_=>by
  unfold L6
  split
  ·omega
  ·rcases Nat.eq_zero_or_pos k with h | h
   ·subst h;show L6 l n 0 < 1;unfold L6;omega
   ·have:=jG l n k h;omega
theorem Gr (l:List (Nat×Nat)) (n:Nat) (h:0 < l.length):Di l n < l.length:=jG l n _ h
theorem jH (l:List (Nat×Nat)) (n:Nat) (h0:(l.getD 0 (0,0)).1≤n):∀ k,0 < k→(l.getD (L6 l n k) (0,0)).1≤n
 | 0,h=>absurd h (by omega)
 | k+1,_=>by
  unfold L6
  split
  ·assumption
  ·rcases Nat.eq_zero_or_pos k with h | h
   ·subst h;exact h0
   ·exact jH l n h0 k h
theorem Rc (l:List (Nat×Nat)) (n:Nat) (h:0 < l.length) (h0:(l.getD 0 (0,0)).1≤n):(l.getD (Di l n) (0,0)).1≤n:=jH l n h0 _ h
def bump (l:List Nat) (i:Nat):List Nat:=l.set i (l.getD i 0+1)
theorem MX (l:List Nat) (i:Nat):(bump l i).length=l.length:=by simp[bump]
theorem sZ (l:List Nat) (i:Nat) (h:i < l.length):(bump l i).sum=l.sum+1:=by
 unfold bump
 induction l generalizing i with
 | nil=>simp at h
 | cons a l ih=>
  cases i with
  | zero=>simp;omega
  | succ i=>
   have:=ih i (by simpa using h)
   simp only[List.set_cons_succ,List.sum_cons,List.getD_cons_succ]
   rw[this];omega
def DZ (s:List Nat×List Nat) (t:Tok):List Nat×List Nat:=
 if t.2.1=0 then (bump s.1 t.1.toNat,s.2) else (bump s.1 (257+Di Inf.BB t.2.1.toNat),bump s.2 (Di Inf.Br t.2.2.toNat))
def CX (l:List Tok):List Nat×List Nat:=l.foldl DZ (List.replicate 286 0,List.replicate 30 0)
def Cs (l:List Tok):List Nat×List Nat:=(bump (CX l).1 256,(CX l).2)
theorem XE (l:List Tok) (t:Tok):CX (l++[t])=DZ (CX l) t:=by unfold CX;rw[List.foldl_append];rfl
theorem Vh (s:List Nat×List Nat) (t:Tok):(DZ s t).1.length=s.1.length∧(DZ s t).2.length=s.2.length:=by
 unfold DZ
 split
 ·exact⟨MX _ _,rfl⟩
 ·exact⟨MX _ _,MX _ _⟩
theorem MN (l:List Tok):(CX l).1.length=286∧(CX l).2.length=30:=by
 unfold CX
 have key:∀ (l:List Tok) (s:List Nat×List Nat),(l.foldl DZ s).1.length=s.1.length∧(l.foldl DZ s).2.length=s.2.length:=by
  intro l
  induction l with
  | nil=>intro s;exact⟨rfl,rfl⟩
  | cons t l ih=>intro s;rw[List.foldl_cons];have h:=ih (DZ s t);have k:=Vh s t;exact⟨h.1.trans k.1,h.2.trans k.2⟩
 obtain⟨h1,h2⟩:=key l (List.replicate 286 0,List.replicate 30 0)
 exact⟨h1.trans List.length_replicate,h2.trans List.length_replicate⟩
def Ck (l:List Tok):List Nat×List Nat:=(AX (Cs l).1 15,AX (Cs l).2 15)
def D5 (v:Nat):Nat→Nat→List (Nat×Nat×Nat)
 | 0,_=>[]
 | f+1,n=>
  if n=0 then []
  else if v=0∧11≤n then (18,min n 138 - 11,7) :: D5 v f (n - min n 138)
  else if v=0∧3≤n then (17,min n 10 - 3,3) :: D5 v f (n - min n 10)
  else if v≠0∧3≤n then (16,min n 6 - 3,2) :: D5 v f (n - min n 6)
  else (v,0,0) :: D5 v f (n - 1)
def runN (l:List Nat) (i:Nat):Nat:=1+((l.drop (i+1)).takeWhile fun x=>x == l.getD i 0).length
def I9 (v n:Nat):List (Nat×Nat×Nat):=if v=0 then D5 0 n n else (v,0,0) :: D5 v (n - 1) (n - 1)
def FV (l:List Nat):Nat→Nat→List (Nat×Nat×Nat)
 | 0,_=>[]
 | f+1,i=>if l.length≤i then [] else I9 (l.getD i 0) (runN l i)++FV l f (i+runN l i)
def Dk (l:List Nat):List (Nat×Nat×Nat):=FV l l.length 0
def Ed (l:List Nat) (least:Nat):Nat→Nat
 | 0=>0
 | n+1=>if least < n+1∧l.getD n 0=0 then Ed l least n else n+1
def BQ (l:List Nat) (least:Nat):List Nat:=l.take (Ed l least l.length)
theorem G6 (l:List Nat) (least:Nat):∀ n,Ed l least n≤n
 | 0=>Nat.le_refl _
 | n+1=>by
  unfold Ed
  split
  ·exact Nat.le_succ_of_le (G6 l least n)
  ·exact Nat.le_refl _
theorem MQ (l:List Nat) (least:Nat):∀ n,least≤n→least≤Ed l least n
 | 0,h=>h
 | n+1,h=>by
  unfold Ed
  split
  ·exact MQ l least n (by omega)
  ·exact h
def FU (rs:List (Nat×Nat×Nat)):List Nat:=rs.foldl (fun m x=>bump m x.1) (List.replicate 19 0)
def ES (ls:List Nat) (i:Nat):List Bool:=hi (ls.getD i 0) (codeOf ls i)
def C8 (lit far:List Nat):List Bool:=
 numBits ((BQ lit 257).length - 257) 5++numBits ((BQ far 1).length - 1) 5 ++
 numBits ((BQ (Inf.Aw.map fun k=>(AX (FU (Dk (BQ lit 257++BQ far 1))) 7).getD k 0) 4).length - 4) 4 ++
 (BQ (Inf.Aw.map fun k=>(AX (FU (Dk (BQ lit 257++BQ far 1))) 7).getD k 0) 4).flatMap (fun n=>numBits n 3) ++
 (Dk (BQ lit 257++BQ far 1)).flatMap fun x=>ES (AX (FU (Dk (BQ lit 257++BQ far 1))) 7) x.1++numBits x.2.1 x.2.2
def Gc (lit far:List Nat) (t:Tok):List Bool:=
 if t.2.1=0 then ES lit t.1.toNat
 else ES lit (257+Di Inf.BB t.2.1.toNat)++numBits (t.2.1.toNat - (Inf.BB.getD (Di Inf.BB t.2.1.toNat) (0,0)).1) (Inf.BB.getD (Di Inf.BB t.2.1.toNat) (0,0)).2 ++
  ES far (Di Inf.Br t.2.2.toNat)++numBits (t.2.2.toNat - (Inf.Br.getD (Di Inf.Br t.2.2.toNat) (0,0)).1) (Inf.Br.getD (Di Inf.Br t.2.2.toNat) (0,0)).2
def En (l:List Tok) (lit far:List Nat):List Bool:=l.flatMap (Gc lit far)++ES lit 256
def J9 (r:List Bool) (b:List UInt8) (kind:Nat) (last:Bool):List Bool:=
 if kind=0 then pad (r++[last]++numBits 0 2)++numBits b.length 16++numBits (65535 - b.length) 16++AO b
 else if kind=1 then r++[last]++numBits 1 2++En (toks b) Inf.BU Inf.Co
 else r++[last]++numBits kind 2++C8 (Ck (toks b)).1 (Ck (toks b)).2++En (toks b) (Ck (toks b)).1 (Ck (toks b)).2
def DI (parts:List (List UInt8)) (kinds:List Nat):Nat→List Bool
 | 0=>[]
 | i+1=>J9 (DI parts kinds i) (parts.getD i []) (kinds.getD i 0) (decide (i+1=parts.length))
def Cw (parts:List (List UInt8)) (kinds:List Nat):List UInt8:=pack (DI parts kinds parts.length)
def IV (parts:List (List UInt8)) (kinds:List Int):Nat→Nat→Nat→Int
 | 0,_,_=>0
 | f+1,i,n=>if 3000 < n+(parts.getD i []).length∨40≤i then 2 else if kinds.getD i 0 < 0∨2 < kinds.getD i 0 then 3 else IV parts kinds f (i+1) (n+(parts.getD i []).length)
end Go.Proofs.YtabdianhoabhhaaGreatDoor.AV
namespace Go.Proofs.YtabdianhoabhhaaGreatDoor
open Go Go.ChangeShapes Go.WideShapes Go.ChangeAt Go.RowKit
set_option linter.unusedVariables false
def Rd {α:Type} (H:Type) (enc:TypeId×Value→H) (P:Program) (w:World) (t:TypeId) (cells:α→List Value) (deep:α→Prop):Prop:=
 ∀ (base:Nat) (spare:Nat→Bool) (held:Bool) (fuel:Nat) (cs:List Value) (x:DataW H×List MemPlace),DataW.trod enc P w base spare held fuel t cs=some x→∃ a,cs=cells a∧deep a
structure SlV (α:Type) where
 A:Option Addr
 cap:Nat
 l:List α
def X7 {α:Type} (s:SlV α):List Value:=[.slice s.A s.l.length s.cap]
def AET {α:Type} (w:World) (cells:α→List Value) (deep:α→Prop) (s:SlV α):Prop:=
 s.l.length≤s.cap∧s.cap≤maxLen∧AQ w s.A (s.l.flatMap cells)∧(s.A=none→s.l=[])∧∀ a∈s.l,deep a
section
variable {H:Type} {enc:TypeId×Value→H} {P:Program} {w:World}
theorem df {t:TypeId} {k:IntKind} (ht:P.underlying t=some (.int k)):Rd H enc P w t (fun n:Int=>[.int k n]) (fun n=>(Lit.int k n).wf=true):=by
 intro base spare held fuel cs x h
 obtain⟨n,h1,_,h3⟩:=DataW.trod_int ht h
 exact⟨n,h1,h3⟩
theorem AAY {t:TypeId} (ht:P.underlying t=some .bool):Rd H enc P w t (fun b:Bool=>[.bool b]) (fun _=>True):=by
 intro base spare held fuel cs x h
 obtain⟨b,h1,_⟩:=DataW.trod_bool ht h
 exact⟨b,h1,trivial⟩
theorem mh {t:TypeId} (ht:P.underlying t=some .string):Rd H enc P w t (fun s:ByteArray=>[.string s]) (fun s=>s.size≤maxLen):=by
 intro base spare held fuel cs x h
 obtain⟨s,h1,_,h3⟩:=DataW.trod_string ht h
 exact⟨s,h1,h3⟩
theorem S9 {t e:TypeId} (ht:P.underlying t=some (.slice e)) (he:P.underlying e=some (.int .u8)) (hc:P.cellsOf e=1) :
  Rd H enc P w t (fun p:Value×List UInt8=>[p.1]) (fun p=>BD w p.1 p.2):=by
 intro base spare held fuel cs x h
 obtain⟨A,len,cap,hcs⟩:∃ A len cap,cs=[Value.slice A len cap]:=by
  rcases open_ints ht he hc h with ⟨hcs,_⟩ | ⟨x,l,c,zs,hcs,_⟩
  ·exact⟨_,_,_,hcs⟩
  ·exact⟨_,_,_,hcs⟩
 subst hcs
 obtain⟨xs,hx⟩:=RX (enc:=enc) ht he hc h
 exact⟨(_,xs),rfl,hx⟩
theorem addr_add (b o j:Nat):(Addr.add ⟨b,o,none⟩ j) =⟨b,o+j,none⟩:=by
 unfold Addr.add;split
 ·subst_vars;rfl
 ·rfl
theorem Tn {base:Nat} {a:Addr} {n:Nat} {cs:List Value} (h:w.cells? base a n=some cs):cs.length=n∧∀ i v,cs[i]?=some v→w.cell? (a.add i)=some v:=by
 obtain⟨_,h1,h2⟩:=World.cells?_some h
 refine⟨h1,fun i v hi=>?_⟩
 have hlt:i < n:=by
  rcases Nat.lt_or_ge i cs.length with h | h
  ·omega
  ·rw[List.getElem?_eq_none h]at hi;cases hi
 rw[h2 i hlt,hi]
theorem flat_get {α:Type} (f:α→List Value) (size:Nat) (hs:∀ a,(f a).length=size) (hpos:0 < size) (l:List α) (j:Nat) (v:Value) (h:(l.flatMap f)[j]?=some v) :
  ∃ a,l[j / size]?=some a∧(f a)[j % size]?=some v:=by
 induction l generalizing j with
 | nil=>simp at h
 | cons a l ih=>
  rw[List.flatMap_cons]at h
  by_cases hj:j < size
  ·rw[List.getElem?_append_left (by rw[hs];exact hj)]at h
   exact⟨a,by rw[Nat.div_eq_of_lt hj];rfl,by rw[Nat.mod_eq_of_lt hj];exact h⟩
  ·rw[List.getElem?_append_right (by rw[hs];omega),hs]at h
   obtain⟨b,h1,h2⟩:=ih _ h
   have e1:j / size=(j - size) / size+1:=by rw[Nat.div_eq_sub_div hpos (by omega)]
   have e2:j % size=(j - size) % size:=by rw[Nat.mod_eq_sub_mod (by omega)]
   exact⟨b,by rw[e1];exact h1,by rw[e2];exact h2⟩
theorem ZC {α:Type} [Inhabited α] {t e:TypeId} {cells:α→List Value} {deep:α→Prop} {size:Nat} (ht:P.underlying t=some (.slice e)) (hsz:P.cellsOf e=size) (hpos:0 < size) (hc:∀ a,(cells a).length=size) (he:Rd H enc P w e cells deep)
  {base:Nat} {spare:Nat→Bool} {held:Bool} {fuel:Nat} {cs:List Value} {x:DataW H×List MemPlace} (h:DataW.trod enc P w base spare held fuel t cs=some x) :
  ∃ s:SlV α,cs=X7 s∧AET w cells deep s∧ZE x.1=s.l.length:=by
 rcases Deep.open_slice ht h with ⟨rfl,rfl⟩ | ⟨a,len,cap,m,n,D,Pl,rfl,hb,hl,hm,hmm,rfl,hel⟩
 ·exact⟨⟨none,0,[]⟩,rfl,⟨Nat.le_refl _,(by show (0:Nat)≤maxLen;unfold maxLen;omega),AQ.nil,fun _=>rfl,fun a ha=>by simp at ha⟩,rfl⟩
 ·rw[hsz]at hel
  have hlm:len≤m:=by rw[hmm];split <;> omega
  obtain⟨f,hf⟩:=Deep.choose_lt (α:=α) (p:=fun i a=>w.cells? base (Addr.add ‹Addr› (i*size)) size=some (cells a)∧deep a) (n:=len) (fun i hi=>by
   obtain⟨cs',h1,h2⟩:=hel i (by omega)
   obtain⟨a',rfl,hd⟩:=he _ _ _ _ _ _ h2
   exact⟨a',h1,hd⟩)
  refine⟨⟨some a,cap,(List.range len).map f⟩,by simp[X7],⟨by simpa using hl,hm,?_,by simp,?_⟩,by simp[ZE]⟩
  ·intro hp
   have hlen:0 < len:=by
    rcases Nat.eq_zero_or_pos len with h0 | h0
    ·subst h0;simp at hp
    ·exact h0
   obtain⟨b,o,s⟩:=a
   have hs:s=none:=by
    obtain⟨h1,_⟩:=hf 0 hlen
    obtain⟨h2,h3⟩:=Tn h1
    have:=h3 0 ((cells (f 0))[0]'(by rw[hc];exact hpos)) (by simp)
    simp[Addr.add]at this
    exact cell_spot this
   subst hs
   refine⟨b,o,rfl,fun j v hj=>?_⟩
   obtain⟨a',h1,h2⟩:=flat_get cells size hc hpos _ _ _ hj
   have hjl:j / size < len:=by
    have:j / size < ((List.range len).map f).length:=by
     rcases Nat.lt_or_ge (j / size) ((List.range len).map f).length with h | h
     ·exact h
     ·rw[List.getElem?_eq_none h]at h1;cases h1
    simpa using this
   have ha':f (j / size)=a':=by simpa [hjl] using h1
   obtain⟨h3,_⟩:=hf _ hjl
   rw[ha',addr_add]at h3
   obtain⟨_,h4⟩:=Tn h3
   have h5:=h4 _ _ h2
   rw[addr_add]at h5
   rw[←h5]
   congr 2
   have:=Nat.div_add_mod j size
   rw[Nat.mul_comm]at this
   omega
  ·intro a' ha'
   simp at ha'
   obtain⟨i,hi,rfl⟩:=ha'
   exact (hf i hi).2
end
end Go.Proofs.YtabdianhoabhhaaGreatDoor
namespace Go.Proofs.YtabdianhoabhhaaGreatDoor
open Go Go.ChangeShapes Go.WideShapes Go.ChangeAt Go.RowKit
set_option linter.unusedVariables false
def IsL {α:Type} (w:World) (cells:α→List Value) (deep:α→Prop) (v:Value) (l:List α):Prop:=
 ∃ A cap,v=.slice A l.length cap∧l.length≤cap∧cap≤maxLen∧AQ w A (l.flatMap cells)∧(A=none→l=[])∧∀ a∈l,deep a
theorem uY {H:Type} {enc:TypeId×Value→H} {P:Program} {w:World} {α:Type} [Inhabited α] {t e:TypeId} {cells:α→List Value} {deep:α→Prop} {size:Nat} (ht:P.underlying t=some (.slice e)) (hsz:P.cellsOf e=size) (hpos:0 < size) (hc:∀ a,(cells a).length=size)
  (he:∀ enc:TypeId×Value→H,Rd H enc P w e cells deep) {base b0:Nat} {spare:Nat→Bool} {held:Bool} {r:Reach} {v:Value} {d:DataW H} {ps:List MemPlace} (hv:Value.okWide P w r b0 t v) (h:DataW.Trod enc P w base spare held t v d ps) :
  ∃ l:List α,IsL w cells deep v l∧ZE d=l.length:=by
 obtain⟨A,len,cap,rfl⟩:=okWide_slice ht hv
 obtain⟨fuel,hf⟩:=h
 obtain⟨s,h1,h2,h3⟩:=ZC ht hsz hpos hc (he enc) hf
 refine⟨s.l,⟨s.A,s.cap,?_,h2⟩,h3⟩
 simpa [Value.cells,X7] using h1
def l8 (x:Int):Prop:=(Lit.int .i64 x).wf=true
theorem jK {α:Type} (f:α→List Value) (size:Nat) (hs:∀ a,(f a).length=size) (l:List α) (k j:Nat) (hk:k < l.length) (hj:j < size):(l.flatMap f)[k*size+j]?=(f l[k])[j]?:=by
 induction l generalizing k with
 | nil=>simp at hk
 | cons a l ih=>
  rw[List.flatMap_cons]
  cases k with
  | zero=>rw[List.getElem?_append_left (by rw[hs];omega)];simp
  | succ k=>
   rw[List.getElem?_append_right (by rw[hs];rw[Nat.succ_mul];omega),hs,show (k+1)*size+j - size=k*size+j by rw[Nat.succ_mul];omega,ih k (by simpa using hk)]
   simp
theorem EI {α:Type} {w:World} {A:Option Addr} {f:α→List Value} {size:Nat} (hs:∀ a,(f a).length=size) (hpos:0 < size) {l:List α} (h:AQ w A (l.flatMap f)) {k:Nat} (hk:k < l.length) :
  ∃ b o,A=some ⟨b,o,none⟩∧∀ j v,(f l[k])[j]?=some v→w.cell? ⟨b,o+k*size+j,none⟩=some v:=by
 have hlen:(l.flatMap f).length=l.length*size:=by
  clear hk h
  induction l with
  | nil=>simp
  | cons a l ih=>rw[List.flatMap_cons,List.length_append,hs,ih,List.length_cons,Nat.succ_mul];omega
 have hp:0 < (l.flatMap f).length:=by rw[hlen];exact Nat.mul_pos (by omega) hpos
 obtain⟨b,o,e,hc⟩:=h hp
 refine⟨b,o,e,fun j v hj=>?_⟩
 rw[Nat.add_assoc]
 refine hc _ v ?_
 have hjs:j < size:=by
  rcases Nat.lt_or_ge j (f l[k]).length with h | h
  ·rw[hs]at h;exact h
  ·rw[List.getElem?_eq_none h]at hj;cases hj
 rw[jK f size hs l k j hk hjs,hj]
end Go.Proofs.YtabdianhoabhhaaGreatDoor
namespace Go.Proofs.YtabdianhoabhhaaGreatDoor.AV
open Go Go.RowKit Go.Proofs.YtabdianhoabhhaaGreatDoor Go.Proofs.YtabdianhoabhhaaGreatDoor.Bits Go.Proofs.YtabdianhoabhhaaGreatDoor.Code Go.Proofs.YtabdianhoabhhaaGreatDoor.Inf
set_option linter.unusedVariables false
theorem lh (l:List (Nat×Nat)) (n k:Nat) (h:k < l.length):L6 l n (k+1)=if l[k].1≤n then k else L6 l n k:=by
 show (if (l.getD k (0,0)).1≤n then k else L6 l n k)=_
 rw[List.getD_eq_getElem?_getD,List.getElem?_eq_getElem h];rfl
set_option maxRecDepth 100000 in
set_option maxHeartbeats 1600000 in
theorem Ko (A:Option Addr) (m c:Nat) (l:List (Nat×Nat)) (n:Nat) (w:World) (hm:l.length=m) (hx:m≤1000) (hA:AQ w A (l.flatMap Og)) :
  Calls Tryz.prog 199 #[.slice A m c,.int .i64 (n:Int)] w fun e w'=>e=.returned (.int .i64 (Di l n:Int))∧Below w.heap.size w w':=by
 have HM:=Lib.hid hm
 have HA:=Lib.hid hA
 clear hm hA
 go_enter Tryz.func199,Tryz.ntmps199
 go_wp2_with fail
 go_loopw [5,10] (fun r i wr=>∃ k:Nat,k≤m∧i=.int .i64 (k:Int)∧r=.int .i64 (L6 l n k:Int)∧Below w.heap.size w wr) (fun _ i _=>m - (intOf i).toNat)
 case atStart=>exact⟨0,Nat.zero_le _,rfl,rfl,Below.refl _ _⟩
 case round=>
  obtain⟨k,hk,rfl,rfl,hb⟩:=hrel
  have Hb:=Lib.hid hb
  clear hb
  by_cases hlt:k < m
  ·have hkl:k < l.length:=by rw[HM.out];exact hlt
   obtain⟨b,o,rfl,hc⟩:=EI (size:=2) (fun _=>rfl) (by omega) (HA.out.below Hb.out) hkl
   have hc0:=hc 0 _ rfl
   have hc1:=hc 1 _ rfl
   have Hs:=Lib.hid (lh l n k hkl)
   simp only[Nat.add_zero]at hc0
   clear hc
   generalize l[k]=x at *
   obtain⟨x0,x1⟩:=x
   dsimp only at hc0 hc1 Hs
   generalize L6 l n k=s at *
   have Hb2:=Lib.hid (Hb.out.alloc Hb.out.size (.cells #[.int .i64 (x0:Int),.int .i64 (x1:Int)] 259))
   by_cases h:x0≤n
   ·have hi:(x0:Int)≤(n:Int):=by omega
    rw[if_pos h]at Hs
    go_wp2_with fail
    go_roundw
    case rel=>exact⟨k+1,by omega,by go_num,by rw[Hs.out],Hb2.out⟩
    case measure=>simp[intOf];omega
   ·have hi:¬ (x0:Int)≤(n:Int):=by omega
    rw[if_neg h]at Hs
    go_wp2_with fail
    go_roundw
    case rel=>exact⟨k+1,by omega,by go_num,by rw[Hs.out],Hb2.out⟩
    case measure=>simp[intOf];omega
  ·obtain rfl:k=m:=by omega
   have Hs:Hid (Di l n=L6 l n k):=Lib.hid (by unfold Di;rw[HM.out])
   rw[←Hs.out]
   go_wp2_with fail
   go_ret
   exact⟨rfl,Hb.out⟩
theorem dP (l:List Nat) (least k:Nat) (h:least < k+1) (h2:k < l.length) (h0:l[k]=0):Ed l least (k+1)=Ed l least k:=by
 conv=>lhs;unfold Ed
 rw[if_pos ⟨h,by rw[List.getD_eq_getElem?_getD,List.getElem?_eq_getElem h2];exact h0⟩]
theorem dQ (l:List Nat) (least k:Nat) (h:¬ least < k):Ed l least k=k:=by
 cases k with
 | zero=>rfl
 | succ k=>unfold Ed;rw[if_neg (fun hh=>h hh.1)]
theorem lu (l:List Nat) (least k:Nat) (h2:k < l.length) (h0:l[k]≠0):Ed l least (k+1)=k+1:=by
 unfold Ed
 rw[if_neg (fun hh=>h0 (by have:=hh.2;rw[List.getD_eq_getElem?_getD,List.getElem?_eq_getElem h2]at this;exact this))]
set_option maxRecDepth 100000 in
set_option maxHeartbeats 1600000 in
theorem MR (b o m c:Nat) (l:List Nat) (least:Nat) (w:World) (hm:l.length=m) (hmc:m≤c) (hx:m≤1000) (hA:AQ w (some ⟨b,o,none⟩) (l.map BR)) (hl:least≤1000) :
  Calls Tryz.prog 191 #[.slice (some ⟨b,o,none⟩) m c,.int .i64 (least:Int)] w fun e w'=>e=.returned (.slice (some ⟨b,o,none⟩) (Ed l least m) c)∧w'=w:=by
 have HM:=Lib.hid hm
 have HA:=Lib.hid hA
 clear hm hA
 go_enter Tryz.func191,Tryz.ntmps191
 go_wp2_with fail
 go_loop [5] (fun i=>∃ k:Nat,k≤m∧i=.int .i64 (k:Int)∧Ed l least m=Ed l least k) (fun i=>(intOf i).toNat)
 case atStart=>exact⟨m,Nat.le_refl _,rfl,rfl⟩
 case round=>
  obtain⟨k,hk,rfl,ht⟩:=hrel
  have Ht:=Lib.hid ht
  clear ht
  by_cases hlt:least < k
  ·obtain⟨j,rfl⟩:∃ j,k=j+1:=⟨k - 1,by omega⟩
   have hjl:j < l.length:=by rw[HM.out];omega
   obtain⟨b',o',e,hc⟩:=HA.out.get (k:=j) (by simpa using hjl)
   injection e with e
   injection e with e1 e2
   subst e1 e2
   simp only[List.getElem_map,BR]at hc
   have hw:IntKind.i64.wrap ((j:Int)+1 - 1)=(j:Int):=by rw[show (j:Int)+1 - 1=(j:Int) by omega];exact IntWalk.i64_in _ (by omega)
   have hli:(least:Int) < (j:Int)+1:=by omega
   by_cases h0:l[j]=0
   ·have Hn:=Lib.hid (Ht.out.trans (dP l least j hlt hjl h0))
    rw[h0]at hc
    clear h0
    go_wp2_with fail
    go_round
    case rel=>exact⟨j,by omega,rfl,Hn.out⟩
    case measure=>simp[intOf]
   ·have Hn:=Lib.hid (Ht.out.trans (lu l least j hjl h0))
    generalize hx0:l[j]=x0 at *
    have hz:((x0:Int) == 0)=false:=by rw[beq_eq_false_iff_ne];omega
    clear hx0 h0
    go_wp2_with fail
    go_ret
    exact⟨by rw[Hn.out];rfl,rfl⟩
  ·have Hn:=Lib.hid (Ht.out.trans (dQ l least k hlt))
   have hb:¬ (least:Int) < (k:Int):=by omega
   have hkc:(k:Int)≤(c:Int):=by omega
   clear hlt
   go_wp2_with fail
   go_ret
   exact⟨by rw[Hn.out];rfl,rfl⟩
end Go.Proofs.YtabdianhoabhhaaGreatDoor.AV
namespace Go.Proofs.YtabdianhoabhhaaGreatDoor.AV
open Go.Proofs.YtabdianhoabhhaaGreatDoor.Match
set_option linter.unusedVariables false
theorem G5 (l:List Nat) (i:Nat):(bump l i).sum≤l.sum+1:=by
 by_cases h:i < l.length
 ·rw[sZ l i h];exact Nat.le_refl _
 ·unfold bump
  rw[List.set_eq_of_length_le (by omega)];omega
theorem Qq (l:List Tok):(CX l).1.sum≤l.length∧(CX l).2.sum≤l.length:=by
 have key:∀ (l:List Tok) (s:List Nat×List Nat),(l.foldl DZ s).1.sum≤s.1.sum+l.length∧(l.foldl DZ s).2.sum≤s.2.sum+l.length:=by
  intro l
  induction l with
  | nil=>intro s;exact⟨Nat.le_refl _,Nat.le_refl _⟩
  | cons t l ih=>
   intro s
   rw[List.foldl_cons,List.length_cons]
   have h:=ih (DZ s t)
   have k:(DZ s t).1.sum≤s.1.sum+1∧(DZ s t).2.sum≤s.2.sum+1:=by
    unfold DZ
    split
    ·exact⟨G5 _ _,by show s.2.sum≤_;omega⟩
    ·exact⟨G5 _ _,G5 _ _⟩
   omega
 have z:∀ n,(List.replicate n 0).sum=0:=by intro n;simp
 have h:=key l (List.replicate 286 0,List.replicate 30 0)
 rw[z,z,Nat.zero_add]at h
 exact h
theorem XF (l:List Nat) (x:Nat) (h:x∈l):x≤l.sum:=by
 induction l with
 | nil=>cases h
 | cons a l ih=>
  rw[List.sum_cons]
  rcases List.mem_cons.1 h with rfl | h
  ·omega
  ·have:=ih h;omega
theorem XK (l:List Tok):(∀ x∈(Cs l).1,x≤l.length+1)∧∀ x∈(Cs l).2,x≤l.length:=by
 have h:=Qq l
 constructor
 ·intro x hx
  have h1:=XF _ x hx
  have h2:=G5 (CX l).1 256
  have h3:(Cs l).1=bump (CX l).1 256:=rfl
  rw[h3]at h1
  omega
 ·intro x hx
  have h1:=XF _ x hx
  have h3:(Cs l).2=(CX l).2:=rfl
  rw[h3]at h1
  omega
theorem Sb (l:List Tok):(Cs l).1.length=286∧(Cs l).2.length=30:=by
 have h:=MN l
 exact⟨(MX _ _).trans h.1,h.2⟩
end Go.Proofs.YtabdianhoabhhaaGreatDoor.AV
namespace Go.Proofs.YtabdianhoabhhaaGreatDoor
open Go Go.RowKit
set_option linter.unusedVariables false
def J2 (w:World) (e:TypeId) (A:Option Addr) (cs:List Value):Prop:=
 0 < cs.length→∃ b o cur,A=some ⟨b,o,none⟩∧w.heap[b]?=some (.cells cur e (0,0))∧∀ j v,cs[j]?=some v→cur[o+j]?=some v
section
variable {w w':World} {e:TypeId} {A:Option Addr} {cs:List Value}
theorem J2.Ib (h:J2 w e A cs):AQ w A cs:=fun hp=>by
 obtain⟨b,o,cur,hA,hb,hc⟩:=h hp
 exact⟨b,o,hA,fun j v hj=>by rw[cell_of_row w b _ cur e (0,0) hb];exact hc j v hj⟩
theorem J2.keeps {base:Nat} {T:List TypeId} (h:J2 w e A cs) (hk:AJ base T w w') (ht:e∉T):J2 w' e A cs:=fun hp=>by
 obtain⟨b,o,cur,hA,hb,hc⟩:=h hp
 exact⟨b,o,cur,hA,hk.other b _ hb fun cs' t' fr he=>by injection he with e1 e2;rw[←e2];exact ht,hc⟩
theorem J2.below (h:J2 w e A cs) (hb:Below w.heap.size w w'):J2 w' e A cs:=fun hp=>by
 obtain⟨b,o,cur,hA,hh,hc⟩:=h hp
 exact⟨b,o,cur,hA,by rw[hb.block b (lt_of_block hh)];exact hh,hc⟩
theorem J2.nil:J2 w e A []:=fun h=>absurd h (by simp)
theorem J2.take (h:J2 w e A cs) (n:Nat):J2 w e A (cs.take n):=fun hp=>by
 obtain⟨b,o,cur,hA,hb,hc⟩:=h (by simp at hp;omega)
 refine⟨b,o,cur,hA,hb,fun j v hj=>hc j v ?_⟩
 rw[List.getElem?_take]at hj
 split at hj
 ·exact hj
 ·cases hj
theorem J2.drop {b o:Nat} (h:J2 w e (some ⟨b,o,none⟩) cs) (n:Nat):J2 w e (some ⟨b,o+n,none⟩) (cs.drop n):=fun hp=>by
 obtain⟨b',o',cur,hA,hb,hc⟩:=h (by simp at hp;omega)
 injection hA with hA;injection hA with e1 e2 e3
 subst e1 e2
 refine⟨b,o+n,cur,rfl,hb,fun j v hj=>?_⟩
 rw[List.getElem?_drop]at hj
 rw[Nat.add_assoc]
 exact hc _ _ hj
theorem Dz {base size n:Nat} {v:Value} (hown:w.ownsRow base e size v n cs):∃ A cap,v=.slice A n cap∧n≤cap∧cap≤maxLen∧J2 w e A cs∧(A=none→n=0):=by
 rcases hown.2 with ⟨rfl,rfl⟩ | ⟨g,cap,cur,rfl,hbg,hg,hnc,hcm,hcs,htake⟩
 ·have:cs=[]:=List.eq_nil_of_length_eq_zero (by simpa using hown.1)
  subst this
  exact⟨none,0,rfl,Nat.le_refl _,by unfold maxLen;omega,J2.nil,fun _=>rfl⟩
 ·refine⟨_,cap,rfl,hnc,hcm,fun _=>⟨g,0,cur,rfl,hg,fun j u hu=>?_⟩,by simp⟩
  rw[←htake,List.getElem?_take]at hu
  split at hu
  ·simpa using hu
  ·cases hu
theorem AV.kat {g:Nat} {a:Array Value} (h:AV w g e a):J2 w e (some ⟨g,0,none⟩) a.toList:=fun _=>⟨g,0,a,rfl,h,fun j v hj=>by simpa using hj⟩
theorem Below.keeps {base:Nat} {T:List TypeId} (h:Below w.heap.size w w') (hb:base≤w.heap.size):AJ base T w w':=AJ.of_below h hb
end
end Go.Proofs.YtabdianhoabhhaaGreatDoor
