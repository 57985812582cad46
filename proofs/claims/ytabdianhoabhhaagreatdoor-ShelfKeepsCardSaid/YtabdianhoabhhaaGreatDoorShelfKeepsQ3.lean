/- texts joined: WeighRow WeighBd WeighBest RtBits RtLens WeighLen Row0 Src CodeTable CodeNext Row CodeCodes0 CodeRow. -/
import Derived.Test.YtabdianhoabhhaaGreatDoorShelfKeepsQ2
import Derived.Test.YtabdianhoabhhaaGreatDoorShelfKeepsQ1
import Derived.StillTailTactics
import Derived.Deep.CutRange
import Derived.Deep.RegionLaw
import Derived.Test.YtabdianhoabhhaaGreatDoorProg
import Derived.WalkSpells
import Derived.Deep.QuietTactic
import Derived.BigQuiet
namespace Go.Proofs.YtabdianhoabhhaaGreatDoor.Cx
open Go Go.RowKit Go.Proofs.YtabdianhoabhhaaGreatDoor Go.Proofs.YtabdianhoabhhaaGreatDoor.SP
set_option linter.unusedVariables false
def f2 (e:El):Pk:=(e.1,e.2.2)
def CV (w:World) (base m:Nat) (e:El):Prop:=∃ g cap,e.2.1=(some ⟨g,0,none⟩,m,cap)∧w.ownsRow base 3 1 (.slice (some ⟨g,0,none⟩) m cap) m (e.2.2.map nv)
theorem CV.below {w w':World} {base m:Nat} {e:El} (h:CV w base m e) (hb:Below w.heap.size w w'):CV w' base m e:=by
 obtain⟨g,cap,h1,h2⟩:=h
 exact⟨g,cap,h1,AP h2 hb⟩
theorem CV.base {w:World} {base base' m:Nat} {e:El} (h:CV w base m e) (hb:base'≤base):CV w base' m e:=by
 obtain⟨g,cap,h1,h2⟩:=h
 exact⟨g,cap,h1,AZ h2 hb⟩
theorem Wj {w w':World} {base size n g:Nat} {el t:TypeId} {v:Value} {xs:List Value} {cs:Array Value} (h:w.ownsRow base el size v n xs) (hg:w.grownBy w' (some g)) (hb:AV w g t cs) (hne:el≠t):w'.ownsRow base el size v n xs:=by
 refine⟨h.1,?_⟩
 have h0:=own_ne h hb hne
 rcases h.2 with h1 | ⟨g',cap,cur,rfl,hbg,hgb,r⟩
 ·exact .inl h1
 ·refine .inr ⟨g',cap,cur,rfl,hbg,?_,r⟩
  have hne2:g'≠g:=by simpa [Value.ownBlock] using h0
  rw[hg.block g' (lt_of_block hgb) (by intro e;injection e with e;exact hne2 e)];exact hgb
theorem LX {w w':World} {b1 b2 s1 s2 n1 n2:Nat} {el t:TypeId} {v1 v2:Value} {x1 x2:List Value} (h:w.ownsRow b1 el s1 v1 n1 x1) (ho:w.ownsRow b2 t s2 v2 n2 x2) (hg:w.grownBy w' v2.ownBlock) (hne:el≠t):w'.ownsRow b1 el s1 v1 n1 x1:=by
 rcases ho.2 with ⟨rfl,_⟩ | ⟨g,cap,cur,rfl,_,hgb,_⟩
 ·refine⟨h.1,?_⟩
  rcases h.2 with h1 | ⟨g',cap,cur,rfl,hbg,hgb,r⟩
  ·exact .inl h1
  ·refine .inr ⟨g',cap,cur,rfl,hbg,?_,r⟩
   rw[hg.block g' (lt_of_block hgb) (by simp[Value.ownBlock])];exact hgb
 ·exact Wj h hg hgb hne
theorem CV.Qc {w w':World} {base m b2 s2 n2:Nat} {e:El} {v2:Value} {x2:List Value} (h:CV w base m e) (ho:w.ownsRow b2 292 s2 v2 n2 x2) (hg:w.grownBy w' v2.ownBlock):CV w' base m e:=by
 obtain⟨g',cap,h1,h2⟩:=h
 exact⟨g',cap,h1,LX h2 ho hg (by decide)⟩
theorem CV.grown {w w':World} {base m g:Nat} {e:El} {cs:Array Value} (h:CV w base m e) (hg:w.grownBy w' (some g)) (hb:AV w g 292 cs):CV w' base m e:=by
 obtain⟨g',cap,h1,h2⟩:=h
 exact⟨g',cap,h1,Wj h2 hg hb (by decide)⟩
theorem CV.Ca {w:World} {base m:Nat} {e:El} (h:CV w base m e) (p:Addr) (hp:p.block < base) (u:Value):CV (w.setCell p u) base m e:=by
 obtain⟨g,cap,h1,h2⟩:=h
 refine⟨g,cap,h1,ownsRow_setCell_other h2 ?_ u⟩
 have:=(h2.lt g rfl).1
 simp[Value.ownBlock];omega
theorem CV.len {w:World} {base m:Nat} {e:El} (h:CV w base m e):e.2.2.length=m:=by
 obtain⟨g,cap,h1,h2⟩:=h
 have:=h2.1;simpa using this
theorem CV.val {w:World} {base m:Nat} {e:El} (h:CV w base m e):∃ g cap,Cm e.2.1=.slice (some ⟨g,0,none⟩) m cap∧AQ w (some ⟨g,0,none⟩) (e.2.2.map nv):=by
 obtain⟨g,cap,h1,h2⟩:=h
 obtain⟨A,c,h3,_,_,h4,_⟩:=Ad h2
 injection h3 with h3
 subst h3
 exact⟨g,cap,by rw[h1];rfl,h4⟩
theorem FC (es:List El):(es.flatMap CP).length=es.length*2:=by
 induction es with
 | nil=>rfl
 | cons a d ih=>rw[List.flatMap_cons,List.length_append,ih];simp[CP];omega
theorem OX (es:List El):∀ u∈es.flatMap CP,u.oneCell'=true:=by
 intro u hu
 obtain⟨e,_,he⟩:=List.mem_flatMap.1 hu
 simp[CP]at he
 rcases he with rfl | rfl <;> rfl
theorem ABl {w:World} {base g n cap:Nat} {es:List El} (h:w.ownsRow base 292 2 (.slice (some ⟨g,0,none⟩) n cap) n (es.flatMap CP)) :
  ∃ rest,RB w g rest es∧es.length=n∧n*2+rest.length=cap*2∧base≤g∧n≤cap∧cap≤maxLen:=by
 have hl:=h.1
 rw[FC]at hl
 rcases h.2 with ⟨h1,_⟩ | ⟨g',cap',cur,hv,hbg,hgb,hnc,hcm,hcs,htk⟩
 ·cases h1
 ·injection hv with h1 h2 h3
  injection h1 with h1
  injection h1 with h1
  subst h1 h3
  refine⟨cur.toList.drop (n*2),?_,by omega,?_,hbg,hnc,hcm⟩
  ·unfold RB
   rw[←htk,List.take_append_drop]
   exact hgb
  ·rw[List.length_drop,Array.length_toList,hcs];omega
theorem ABm {w:World} {base g n cap:Nat} {rest:List Value} {es:List El} (h:RB w g rest es) (hl:es.length=n) (hr:n*2+rest.length=cap*2) (hb:base≤g) (hn:n≤cap) (hc:cap≤maxLen) :
  w.ownsRow base 292 2 (.slice (some ⟨g,0,none⟩) n cap) n (es.flatMap CP):=by
 refine⟨by rw[FC,hl],.inr ⟨g,cap,_,rfl,hb,h,hn,hc,?_,?_⟩⟩
 ·rw[List.size_toArray,List.length_append,FC,hl,hr]
 ·rw[List.toList_toArray,List.take_append_of_le_length (by rw[FC,hl];exact Nat.le_refl _),List.take_of_length_le (by rw[FC,hl];exact Nat.le_refl _)]
set_option maxHeartbeats 800000 in
theorem Ue (base g n cap:Nat) (es:List El) (w:World) (h:w.ownsRow base 292 2 (.slice (some ⟨g,0,none⟩) n cap) n (es.flatMap CP)) (hN:n≤1000000) (hk:∀ e∈es,e.1≤1152921504606846976) :
  Calls Tryz.prog 225 #[.slice (some ⟨g,0,none⟩) n cap] w fun e w'=>e=.returned (.slice (some ⟨g,0,none⟩) n cap)∧w'.ownsRow base 292 2 (.slice (some ⟨g,0,none⟩) n cap) n ((CS CR es).flatMap CP)∧w.grownBy w' (some g):=by
 obtain⟨rest,h1,h2,h3,h4,h5,h6⟩:=ABl h
 have Hc:=Lib.hid (UO g n cap rest es w h1 h2 hN hk)
 have Hx:=Lib.hid (And.intro h2 (And.intro h3 (And.intro h4 (And.intro h5 h6))))
 clear h h1 h2 h3 h4 h5 h6 hk
 unfold PT at Hc
 go_enter Tryz.func225,Tryz.ntmps225
 go_wp2_with fail
 refine (Hc.out).mono ?_
 rintro e w2 ⟨rfl,hp,hg⟩
 have Hp:=Lib.hid hp
 have Hg:=Lib.hid hg
 clear hp hg
 go_wp2_with fail
 go_ret
 exact⟨rfl,ABm Hp.out (by rw[EY];exact Hx.out.1) Hx.out.2.1 Hx.out.2.2.1 Hx.out.2.2.2.1 Hx.out.2.2.2.2,Hg.out⟩
def Ud (ls:List Nat) (k:Nat):List Pk:=(((List.range k).filter fun i=>decide (0 < ls.getD i 0)).map fun i=>(ls.getD i 0,unit ls.length i))
theorem qN (ls:List Nat):Ud ls ls.length=ones ls:=rfl
theorem gY (ls:List Nat) (k:Nat):Ud ls (k+1)=Ud ls k++if 0 < ls.getD k 0 then [(ls.getD k 0,unit ls.length k)] else []:=by
 unfold Ud
 rw[List.range_succ,List.filter_append,List.map_append]
 congr 1
 by_cases h:0 < ls.getD k 0
 ·rw[if_pos h,List.filter_cons_of_pos (by simpa using h)];rfl
 ·rw[if_neg h,List.filter_cons_of_neg (by simpa using h)];rfl
theorem yP (n i:Nat):(List.replicate n 0).set i 1=unit n i:=by
 apply List.ext_getElem
 ·simp[unit]
 ·intro j h1 h2
  simp[unit,List.getElem_set]
  by_cases hx:i=j
  ·simp[hx]
  ·rw[if_neg hx,if_neg (fun e=>hx e.symm)]
end Go.Proofs.YtabdianhoabhhaaGreatDoor.Cx
namespace Go.Proofs.YtabdianhoabhhaaGreatDoor.Cx
open Go Go.RowKit Go.Proofs.YtabdianhoabhhaaGreatDoor Go.Proofs.YtabdianhoabhhaaGreatDoor.SP
set_option linter.unusedVariables false
theorem KU {P:Program} {ops:Array Oper} {o:Oper} {a:Act} {w:World} {K:Act→World→Prop} {Q:Exit→Act→World→Prop} {E:Prop} (hgd:o.guard=none) (s x:Operand) (t:TypeId)
  (hop:o.op=.call { callee:=.builtin .append,args:=#[s,x],argTypes:=#[t,t] })
  (base:Nat) (e:TypeId) (z:Value) (size bytes:Nat) (hT:Bj P t e z size bytes)
  (v:Value) (n:Nat) (xs:List Value) (hs:a.eval s=v) (hown:w.ownsRow base e size v n xs)
  (A:Option Addr) (m c:Nat) (news:List Value) (hx:a.eval x=.slice A m c) (hl:news.length=m*size) (hr:AQ w A news) (h1:∀ u∈news,u.oneCell'=true)
  (hA:A=none→m=0) (h63:n+m≤maxLen) (hbytes:(n+m)*bytes≤140737488355328) (hbase:base≤w.heap.size)
  (hK:∀ v' w',w'.ownsRow base e size v' (n+m) (xs++news)→w.grownBy w' v.ownBlock→K (a.put o.dst v') w') :
  if Region.wanted o (yielded ops a.tmps)=true then Oper.wp P o a w K Q else E:=by
 have hw:Region.wanted o (yielded ops a.tmps)=true:=by simp[Region.wanted,hgd]
 rw[if_pos hw]
 obtain⟨v',w',hrun,h2,h3,h4⟩:=GM (P:=P) w base t o.type e z size bytes hT v n xs hown A m c news hl hr h1 hA h63 hbytes hbase
 unfold Oper.wp
 simp[execOp,hop,resolve,invoke,builtin,hs,hx,hrun,Result.andThen]
 exact hK v' w' h2 h3
theorem ABd {w w':World} {base el size n m c g:Nat} {xs:List Value} {B:Nat} (h:w.ownsRow base el size (.slice (some ⟨g,0,none⟩) m c) n xs) (hb:Below B w w') (hg:g < B):w'.ownsRow base el size (.slice (some ⟨g,0,none⟩) m c) n xs:=by
 refine⟨h.1,?_⟩
 rcases h.2 with h1 | ⟨g',cap,cur,hv,hbg,hgb,r⟩
 ·exact .inl h1
 ·refine .inr ⟨g',cap,cur,hv,hbg,?_,r⟩
  have:g'=g:=by injection hv with hv;injection hv with hv;injection hv with hv;exact hv.symm
  subst this
  rw[hb.block g' hg];exact hgb
def qF (t:Nat) (p:Pk):Prop:=p.1≤1000000*2 ^ t∧∀ x∈p.2,x≤2 ^ t
theorem qF.up {t:Nat} {p:Pk} (h:qF t p):qF (t+1) p:=by
 obtain⟨h1,h2⟩:=h
 refine⟨by rw[Nat.pow_succ];omega,fun x hx=>?_⟩
 have:=h2 x hx
 rw[Nat.pow_succ];omega
theorem kR (a b:List Nat) (x:Nat) (h:x∈List.zipWith (·+·) a b):∃ y∈a,∃ z∈b,x=y+z:=by
 induction a generalizing b with
 | nil=>simp at h
 | cons c a ih=>
  cases b with
  | nil=>simp at h
  | cons d b=>
   rw[List.zipWith_cons_cons,List.mem_cons]at h
   rcases h with h | h
   ·exact⟨c,by simp,d,by simp,h⟩
   ·obtain⟨y,hy,z,hz,e⟩:=ih b h
    exact⟨y,by simp[hy],z,by simp[hz],e⟩
theorem qF.both {t:Nat} {p q:Pk} (h:qF t p) (k:qF t q):qF (t+1) (both p q):=by
 obtain⟨h1,h2⟩:=h
 obtain⟨k1,k2⟩:=k
 refine⟨by show p.1+q.1≤_;rw[Nat.pow_succ];omega,fun x hx=>?_⟩
 obtain⟨y,hy,z,hz,rfl⟩:=kR _ _ _ hx
 have:=h2 y hy
 have:=k2 z hz
 rw[Nat.pow_succ];omega
theorem qG (l:List Pk) (a b:Pk) (j:Nat) (h:l.length=2*j):pairs (l++[a,b])=pairs l++[both a b]:=by
 induction j generalizing l with
 | zero=>
  have:l=[]:=List.eq_nil_of_length_eq_zero (by omega)
  subst this;rfl
 | succ j ih=>
  rcases l with _ | ⟨x,_ | ⟨y,l⟩⟩
  ·simp at h
  ·simp at h;omega
  ·simp only[List.cons_append,pairs]
   rw[ih l (by simp at h;omega)]
theorem qH (l:List Pk) (j:Nat) (h1:l.length≤2*j+1) (h2:2*j≤l.length):pairs (l.take (2*j))=pairs l:=by
 induction j generalizing l with
 | zero=>
  rcases l with _ | ⟨x,_ | ⟨y,l⟩⟩
  ·rfl
  ·rfl
  ·simp at h1
 | succ j ih=>
  rcases l with _ | ⟨x,_ | ⟨y,l⟩⟩
  ·simp at h2
  ·simp at h2;omega
  ·have e:2*(j+1)=2*j+1+1:=by omega
   rw[e,List.take_succ_cons,List.take_succ_cons]
   simp only[pairs]
   rw[ih l (by simp at h1;omega) (by simp at h2;omega)]
theorem qI (l:List Pk) (p:Pk) (h:p∈pairs l):∃ a∈l,∃ b∈l,p=both a b:=by
 have:∀ n,∀ l:List Pk,l.length≤n→p∈pairs l→∃ a∈l,∃ b∈l,p=both a b:=by
  intro n
  induction n with
  | zero=>intro l hl hp;rw[List.eq_nil_of_length_eq_zero (by omega:l.length=0)]at hp;simp[pairs]at hp
  | succ n ih=>
   intro l hl hp
   rcases l with _ | ⟨x,_ | ⟨y,l⟩⟩
   ·simp[pairs]at hp
   ·simp[pairs]at hp
   ·simp only[pairs,List.mem_cons]at hp
    rcases hp with hp | hp
    ·exact⟨x,by simp,y,by simp,hp⟩
    ·obtain⟨a,ha,b,hb,e⟩:=ih l (by simp at hl;omega) hp
     exact⟨a,by simp[ha],b,by simp[hb],e⟩
 exact this _ l (Nat.le_refl _) h
theorem R8 (one:List Pk) (h:∀ p∈one,qF 0 p) (t:Nat):∀ p∈BS one t,qF t p:=by
 induction t with
 | zero=>exact h
 | succ t ih=>
  intro p hp
  have h1:=(Cv BZ _).mem_iff.1 hp
  rcases List.mem_append.1 h1 with h2 | h2
  ·have:∀ s,qF s p:=fun s=>by
    induction s with
    | zero=>exact h p h2
    | succ s ih=>exact ih.up
   exact this _
  ·obtain⟨a,ha,b,hb,rfl⟩:=qI _ p h2
   exact (ih a ha).both (ih b hb)
theorem kS (ls:List Nat) (h:∀ x∈ls,x≤1000000):∀ p∈CS BZ (ones ls),qF 0 p:=by
 intro p hp
 have h1:=(Cv BZ _).mem_iff.1 hp
 unfold ones at h1
 obtain⟨i,hi,rfl⟩:=List.mem_map.1 h1
 refine⟨?_,fun x hx=>?_⟩
 ·show ls.getD i 0≤_
  rw[List.getD_eq_getElem?_getD]
  by_cases hl:i < ls.length
  ·rw[List.getElem?_eq_getElem hl]
   have:=h _ (List.getElem_mem hl)
   simp;omega
  ·rw[List.getElem?_eq_none (by omega)];simp
 ·simp[unit]at hx
  obtain⟨j,_,rfl⟩:=hx
  split <;> simp
theorem UU {t:Nat} {e:El} (h:qF t (f2 e)) (ht:t≤15):e.1≤40000000000∧∀ x∈e.2.2,x≤40000:=by
 have h2:(2:Nat) ^ t≤2 ^ 15:=Nat.pow_le_pow_right (by omega) ht
 refine⟨?_,fun x hx=>?_⟩
 ·have:=h.1
  show (f2 e).1≤_
  omega
 ·have:=h.2 x hx
  omega
theorem PW (es:List El) (k:Nat) (h:k < es.length):es.flatMap CP=(es.take k).flatMap CP++(nv es[k].1 :: Cm es[k].2.1 :: (es.drop (k+1)).flatMap CP):=by
 have e:es=es.take k++es[k] :: es.drop (k+1):=by rw[←List.drop_eq_getElem_cons h,List.take_append_drop]
 conv=>lhs;rw[e]
 rw[List.flatMap_append,List.flatMap_cons];rfl
theorem UW (es:List El) (k:Nat) (h:k < es.length):(es.flatMap CP)[k*2]?=some (nv es[k].1):=by
 have l:((es.take k).flatMap CP).length=k*2:=by rw[FC,List.length_take];omega
 rw[PW es k h,List.getElem?_append_right (by omega),l]
 simp
theorem UX (es:List El) (k:Nat) (h:k < es.length):(es.flatMap CP)[k*2+1]?=some (Cm es[k].2.1):=by
 have l:((es.take k).flatMap CP).length=k*2:=by rw[FC,List.length_take];omega
 rw[PW es k h,List.getElem?_append_right (by omega),l]
 simp
theorem M0 (n:Nat) (l:List Pk) (p:Pk):Dw n (l++[p])=List.zipWith (·+·) (Dw n l) p.2:=by simp[Dw]
theorem gT (n:Nat) (l:List Pk) (h:∀ p∈l,p.2.length=n):(Dw n l).length=n:=by
 have:∀ m,∀ l:List Pk,l.length=m→(∀ p∈l,p.2.length=n)→(Dw n l).length=n:=by
  intro m
  induction m with
  | zero=>intro l hl _;rw[List.eq_nil_of_length_eq_zero hl];simp[Dw]
  | succ m ih=>
   intro l hl hp
   have hne:l≠[]:=fun e=>by rw[e]at hl;simp at hl
   rw[←List.dropLast_concat_getLast hne,M0,List.length_zipWith,ih _ (by simp[hl]) (fun p hp'=>hp p ((List.dropLast_sublist l).subset hp')),hp _ (List.getLast_mem hne)]
   omega
 exact this _ l rfl h
theorem qJ (n c:Nat) (l:List Pk) (h:∀ p∈l,∀ x∈p.2,x≤c):∀ x∈Dw n l,x≤c*l.length:=by
 have:∀ m,∀ l:List Pk,l.length=m→(∀ p∈l,∀ x∈p.2,x≤c)→∀ x∈Dw n l,x≤c*l.length:=by
  intro m
  induction m with
  | zero=>intro l hl _ x hx;rw[List.eq_nil_of_length_eq_zero hl]at hx;simp[Dw]at hx;omega
  | succ m ih=>
   intro l hl hp x hx
   have hne:l≠[]:=fun e=>by rw[e]at hl;simp at hl
   rw[←List.dropLast_concat_getLast hne,M0]at hx
   obtain⟨y,hy,z,hz,rfl⟩:=kR _ _ _ hx
   have h1:=ih l.dropLast (by simp[hl]) (fun p hp'=>hp p ((List.dropLast_sublist l).subset hp')) y hy
   have h2:=hp _ (List.getLast_mem hne) z hz
   rw[List.length_dropLast,hl,Nat.add_sub_cancel]at h1
   rw[hl,Nat.mul_succ];omega
 exact this _ l rfl h
theorem VY (zs:List Int):Kc zs=(ones (CU zs)).length:=by
 rw[GZ]
 unfold Kc used
 have e:CU zs=(List.range (CU zs).length).map (fun i=>(CU zs).getD i 0):=by
  apply List.ext_getElem
  ·simp
  ·intro i h1 h2
   simp[List.getD_eq_getElem?_getD,h1]
 have h:((CU zs).filter (fun x=>decide (0 < x))).length=((List.range (CU zs).length).filter fun i=>decide (0 < (CU zs).getD i 0)).length:=by
  conv=>lhs;rw[e]
  rw[List.filter_map,List.length_map];rfl
 rw[←h]
 unfold CU
 rw[List.filter_map,List.length_map]
 congr 1
 apply List.filter_congr
 intro x _
 simp[Function.comp]
theorem Kq (ls:List Nat):(ones ls).length≤ls.length:=by
 rw[GZ]
 unfold used
 have:=List.length_filter_le (fun i=>decide (0 < ls.getD i 0)) (List.range ls.length)
 rwa [List.length_range]at this
end Go.Proofs.YtabdianhoabhhaaGreatDoor.Cx
namespace Go.Proofs.YtabdianhoabhhaaGreatDoor.SP
set_option linter.unusedVariables false
def JN (ps:List (Nat×Nat)) (L:Nat):Prop:=(∀ p∈ps,0 < p.1→1≤p.2∧p.2≤L)∧(ps.map fun p=>if 0 < p.1 then 2 ^ (L - p.2) else 0).sum≤2 ^ L
def IY (ps:List (Nat×Nat)):Nat:=(ps.map fun p=>p.1*p.2).sum
theorem WX {β:Type} (g:Nat×Nat→β) (ls ms:List Nat) (h:ms.length=ls.length):(ls.zip ms).map g=(List.range ls.length).map fun i=>g (ls.getD i 0,ms.getD i 0):=by
 apply List.ext_getElem
 ·simp[h]
 ·intro i h1 h2
  simp at h1 h2
  simp[List.getD_eq_getElem?_getD,h2,h]
theorem JO (ls ms:List Nat) (h:ms.length=ls.length):IY (ls.zip ms)=cost ls ms:=by
 unfold IY cost
 rw[WX _ ls ms h]
theorem Qa (ls ms:List Nat):cost ls ms=((used ls).map fun i=>ls.getD i 0*ms.getD i 0).sum:=UY ls _ (fun i _ h=>by rw[h];simp)
theorem WN (ls ms:List Nat) (f:Nat→Nat) (h:ms.length=ls.length):((ls.zip ms).map fun p=>if 0 < p.1 then f p.2 else 0).sum=((used ls).map fun i=>f (ms.getD i 0)).sum:=by
 rw[WX _ ls ms h,UY ls _ (fun i _ h=>by show (if 0 < ls.getD i 0 then _ else 0)=0;rw[h];rfl)]
 congr 1
 apply List.map_congr_left
 intro i hi
 have:=(DR ls i).1 hi
 rw[if_pos this.2]
theorem Q7 (ls ms:List Nat) (h:ms.length=ls.length) (p:Nat×Nat) (hp:p∈ls.zip ms):∃ i,i < ls.length∧p=(ls.getD i 0,ms.getD i 0):=by
 obtain⟨i,hi,rfl⟩:=List.mem_iff_getElem.1 hp
 rw[List.length_zip]at hi
 have h1:i < ls.length:=by omega
 have h2:i < ms.length:=by omega
 exact⟨i,h1,by simp[List.getD_eq_getElem?_getD,h1,h2]⟩
theorem aa (ls ms:List Nat) (h:ms.length=ls.length) (i:Nat) (hi:i < ls.length):(ls.getD i 0,ms.getD i 0)∈ls.zip ms:=by
 rw[List.mem_iff_getElem]
 have h2:i < ms.length:=by omega
 exact⟨i,by rw[List.length_zip];omega,by simp[List.getD_eq_getElem?_getD,hi,h2]⟩
theorem II (ls ms:List Nat) (L:Nat) (h:ms.length=ls.length):JN (ls.zip ms) L↔(∀ i∈used ls,1≤ms.getD i 0∧ms.getD i 0≤L)∧((used ls).map fun i=>2 ^ (L - ms.getD i 0)).sum≤2 ^ L:=by
 unfold JN
 rw[WN ls ms (fun x=>2 ^ (L - x)) h]
 constructor
 ·rintro⟨h1,h2⟩
  refine⟨fun i hi=>?_,h2⟩
  have:=(DR ls i).1 hi
  exact h1 _ (aa ls ms h i this.1) this.2
 ·rintro⟨h1,h2⟩
  refine⟨fun p hp h0=>?_,h2⟩
  obtain⟨i,hi,rfl⟩:=Q7 ls ms h p hp
  exact h1 i ((DR ls i).2 ⟨hi,h0⟩)
theorem BG (ls:List Nat) (L:Nat) (hL:1≤L) (hn:(ones ls).length≤2 ^ L):(AX ls L).length=ls.length∧JN (ls.zip (AX ls L)) L∧(∀ x∈AX ls L,x≤L)∧
  ∀ ms:List Nat,ms.length=ls.length→JN (ls.zip ms) L→IY (ls.zip (AX ls L))≤IY (ls.zip ms):=by
 by_cases h2:2≤(ones ls).length
 ·obtain⟨h3,h4,h5,_⟩:=LM ls L hL h2 hn
  refine⟨h3,(II ls _ L h3).2 ⟨fun i hi=>?_,Nat.le_of_eq h5⟩,fun x hx=>?_,fun ms hm hv=>?_⟩
  ·have hu:=(DR ls i).1 hi
   have:=h4 i hu.1
   refine⟨?_,this.2⟩
   rcases Nat.eq_zero_or_pos ((AX ls L).getD i 0) with h | h
   ·have:=this.1.1 h;omega
   ·exact h
  ·obtain⟨i,hi,rfl⟩:=List.mem_iff_getElem.1 hx
   have:=(h4 i (by omega)).2
   simpa [List.getD_eq_getElem?_getD,hi] using this
  ·rw[JO _ _ h3,JO _ _ hm]
   obtain⟨v1,v2⟩:=(II ls ms L hm).1 hv
   exact YI ls ms L hL h2 hn (fun i hi=>(v1 i hi).2) v2
 ·by_cases h0:(ones ls).length=0
  ·have hu:used ls=[]:=List.eq_nil_of_length_eq_zero (by rw[←GZ];exact h0)
   have hl:AX ls L=List.replicate ls.length 0:=by unfold AX;rw[if_pos h0]
   have h3:(AX ls L).length=ls.length:=by rw[hl];simp
   refine⟨h3,(II ls _ L h3).2 ⟨by rw[hu];simp,by rw[hu];simp⟩,fun x hx=>?_,fun ms hm hv=>?_⟩
   ·rw[hl]at hx
    have:=(List.mem_replicate.1 hx).2
    omega
   ·rw[JO _ _ h3,Qa,hu];simp
  ·have h1:(ones ls).length=1:=by omega
   have xS:(used ls).length=1:=by rw[←GZ];exact h1
   obtain⟨i,hu⟩:=List.length_eq_one_iff.1 xS
   have him:=(DR ls i).1 (by rw[hu];simp)
   have hl:AX ls L=unit ls.length i:=by
    unfold AX
    rw[if_neg h0,if_pos h1]
    unfold ones
    rw[hu];rfl
   have h3:(AX ls L).length=ls.length:=by rw[hl,PX]
   have hg:(AX ls L).getD i 0=1:=by rw[hl,KV _ _ _ him.1,if_pos rfl]
   refine⟨h3,(II ls _ L h3).2 ⟨?_,?_⟩,fun x hx=>?_,fun ms hm hv=>?_⟩
   ·rw[hu];intro j hj;simp at hj;subst hj;rw[hg];omega
   ·rw[hu]
    simp only[List.map_cons,List.map_nil,List.sum_cons,List.sum_nil,Nat.add_zero,hg]
    exact Nat.pow_le_pow_right (by omega) (by omega)
   ·rw[hl]at hx
    obtain⟨j,hj,rfl⟩:=List.mem_iff_getElem.1 hx
    have:(unit ls.length i).getD j 0≤1:=by rw[KV _ _ _ (by simpa [unit] using hj)];split <;> omega
    rw[List.getD_eq_getElem?_getD,List.getElem?_eq_getElem hj]at this
    simp at this;omega
   ·rw[JO _ _ h3,JO _ _ hm,Qa,Qa,hu]
    simp only[List.map_cons,List.map_nil,List.sum_cons,List.sum_nil,Nat.add_zero,hg]
    have hv1:=((II ls ms L hm).1 hv).1 i (by rw[hu];simp)
    exact Nat.mul_le_mul_left _ hv1.1
end Go.Proofs.YtabdianhoabhhaaGreatDoor.SP
namespace Go.Proofs.YtabdianhoabhhaaGreatDoor.Rt
open Go.Proofs.YtabdianhoabhhaaGreatDoor.Bits Go.Proofs.YtabdianhoabhhaaGreatDoor.Code Go.Proofs.YtabdianhoabhhaaGreatDoor.Match Go.Proofs.YtabdianhoabhhaaGreatDoor.SP Go.Proofs.YtabdianhoabhhaaGreatDoor.Inf Go.Proofs.YtabdianhoabhhaaGreatDoor.AV
set_option linter.unusedVariables false
theorem thn {α β:Type} (a:α) (f:α→Inf.Rd β):(Inf.Rd.ok a).Ag f=f a:=rfl
def Has (row:List Bool) (p:Nat) (bs:List Bool):Prop:=p≤row.length∧∃ t,row.drop p=bs++t
section
variable {row a b bs:List Bool} {p:Nat}
theorem Has.le (h:Has row p bs):p+bs.length≤row.length:=by
 obtain⟨h1,t,h2⟩:=h
 have:=congrArg List.length h2
 rw[List.length_drop,List.length_append]at this;omega
theorem Has.left (h:Has row p (a++b)):Has row p a:=by
 obtain⟨h1,t,h2⟩:=h
 exact⟨h1,b++t,by rw[h2,List.append_assoc]⟩
theorem Has.right (h:Has row p (a++b)):Has row (p+a.length) b:=by
 have hl:=h.le
 obtain⟨h1,t,h2⟩:=h
 rw[List.length_append]at hl
 exact⟨by omega,t,by rw[←List.drop_drop,h2,List.append_assoc,List.drop_left]⟩
theorem EH {n k:Nat} (h:Has row p (numBits n k)) (hn:n < 2 ^ k):CJ row p k=.ok (n,p+k):=by
 have hl:=h.le
 rw[AL]at hl
 unfold CJ
 rw[if_pos hl]
 obtain⟨_,t,h2⟩:=h
 rw[h2,List.take_append_of_le_length (by rw[AL];exact Nat.le_refl _),List.take_of_length_le (by rw[AL];exact Nat.le_refl _),Qn,Nat.mod_eq_of_lt hn]
structure Cd (ls:List Nat):Prop where
 le:∀ x∈ls,x≤15
 room:room ls≤32768
theorem getD_lt {ls:List Nat} {i:Nat} (h:ls.getD i 0≠0):i < ls.length:=by
 rcases Nat.lt_or_ge i ls.length with h1 | h1
 ·exact h1
 ·rw[List.getD_eq_getElem?_getD,List.getElem?_eq_none h1]at h;exact absurd rfl h
theorem Cd.bits {ls:List Nat} (hc:Cd ls) {i:Nat}:ls.getD i 0≤15:=by
 rw[List.getD_eq_getElem?_getD]
 rcases Nat.lt_or_ge i ls.length with h1 | h1
 ·rw[List.getElem?_eq_getElem h1];exact hc.le _ (List.getElem_mem h1)
 ·rw[List.getElem?_eq_none h1];exact Nat.zero_le _
theorem PN {ls:List Nat} {i:Nat} (hc:Cd ls) (h:Has row p (ES ls i)) (h0:ls.getD i 0≠0):IM row ls p=.ok (i,p+ls.getD i 0):=by
 obtain⟨_,t,h2⟩:=h
 have hn:=Vn ls i t (getD_lt h0) h0 hc.le hc.room
 unfold ES at h2
 unfold IM
 rw[h2,hn];rfl
theorem Bz (ls:List Nat) (i:Nat):(ES ls i).length=ls.getD i 0:=Df _ _
end
theorem PO (x:UInt8):UInt8.ofNat x.toNat=x:=by apply UInt8.toNat_inj.1;simp
theorem X8 {out:List UInt8} (x:UInt8) (h:out.length < 3000):Ef out x=.ok (out++[x]):=by
 unfold Ef;rw[if_neg (by omega)]
theorem j3 {row:List Bool}:∀ (b:List UInt8) (p:Nat) (out:List UInt8),Has row p (AO b)→out.length+b.length≤3000→Ig row b.length p out=.ok (p+8*b.length,out++b)
 | [],p,out,h,hl=>by simp[Ig]
 | x :: b,p,out,h,hl=>by
  rw[List.length_cons]at hl
  rw[SF]at h
  have h1:=h.left
  have h2:=h.right
  rw[DC]at h2
  have e:CJ row p 8=.ok (x.toNat,p+8):=EH h1 x.toNat_lt
  show (CJ row p 8).Ag _=_
  rw[e,thn]
  dsimp only
  rw[PO,X8 x (by omega),thn,j3 b (p+8) (out++[x]) h2 (by simp;omega),List.append_assoc]
  congr 2
  rw[List.length_cons];omega
theorem Tt (l:List (Nat×Nat)) (n:Nat):∀ K j,L6 l n K < j→j < K→n < (l.getD j (0,0)).1
 | 0,j,_,h=>absurd h (by omega)
 | K+1,j,h,hj=>by
  unfold L6 at h
  split at h
  ·omega
  ·rename_i hn
   by_cases e:j=K
   ·subst e;omega
   ·exact Tt l n K j h (by omega)
theorem fO:∀ k < 28,(BB.getD (k+1) (0,0)).1≤(BB.getD k (0,0)).1+2 ^ (BB.getD k (0,0)).2:=by decide
theorem ou:∀ k < 29,(Br.getD (k+1) (0,0)).1≤(Br.getD k (0,0)).1+2 ^ (Br.getD k (0,0)).2:=by decide
theorem xB (n:Nat) (h1:3≤n) (h2:n≤258):Di BB n < 29∧(BB.getD (Di BB n) (0,0)).1≤n∧n - (BB.getD (Di BB n) (0,0)).1 < 2 ^ (BB.getD (Di BB n) (0,0)).2:=by
 have h3:Di BB n < 29:=Gr BB n (by decide)
 have h4:=Rc BB n (by decide) h1
 have h5:=Tt BB n 29
 have e:L6 BB n 29=Di BB n:=rfl
 rw[e]at h5
 refine⟨h3,h4,?_⟩
 generalize Di BB n=k at *
 by_cases hk:k < 28
 ·have:=h5 (k+1) (by omega) (by omega)
  have:=fO k hk
  omega
 ·obtain rfl:k=28:=by omega
  have e28:BB.getD 28 (0,0)=(258,0):=rfl
  rw[e28]at h4⊢
  dsimp only at h4⊢
  omega
theorem ABC (n:Nat) (h1:1≤n) (h2:n≤3000):Di Br n < 30∧(Br.getD (Di Br n) (0,0)).1≤n∧n - (Br.getD (Di Br n) (0,0)).1 < 2 ^ (Br.getD (Di Br n) (0,0)).2:=by
 have h3:Di Br n < 30:=Gr Br n (by decide)
 have h4:=Rc Br n (by decide) h1
 have h5:=Tt Br n 30
 have e:L6 Br n 30=Di Br n:=rfl
 rw[e]at h5
 refine⟨h3,h4,?_⟩
 generalize Di Br n=k at *
 by_cases hk:k < 29
 ·have:=h5 (k+1) (by omega) (by omega)
  have:=ou k hk
  omega
 ·obtain rfl:k=29:=by omega
  have e29:Br.getD 29 (0,0)=(24577,13):=rfl
  rw[e29]at h4
  dsimp only at h4
  omega
theorem WG (d:Nat):∀ (n:Nat) (l:List UInt8),TZ d (n+1) l=TZ d n (l++[l.getD (l.length - d) 0])
 | 0,l=>rfl
 | n+1,l=>by
  have ih:=WG d n l
  show TZ d (n+1) l++[(TZ d (n+1) l).getD ((TZ d (n+1) l).length - d) 0]=_
  rw[ih];rfl
theorem j4 (d:Nat):∀ (n:Nat) (out:List UInt8),out.length+n≤3000→JD d n out=.ok (TZ d n out)
 | 0,out,_=>rfl
 | n+1,out,h=>by
  show (Ef out (out.getD (out.length - d) 0)).Ag _=_
  rw[X8 _ (by omega),thn,j4 d n _ (by simp;omega),WG]
theorem WH (o:List UInt8) (d:Nat) (h1:1≤d):∀ (n:Nat) (l:List UInt8),d≤l.length→TZ d n (o++l)=o++TZ d n l
 | 0,l,_=>rfl
 | n+1,l,h=>by
  show TZ d n (o++l)++[(TZ d n (o++l)).getD ((TZ d n (o++l)).length - d) 0]=o++(TZ d n l++[(TZ d n l).getD ((TZ d n l).length - d) 0])
  rw[WH o d h1 n l h,←List.append_assoc]
  congr 2
  have hl:=JJ d n l
  rw[List.getD_eq_getElem?_getD,List.getD_eq_getElem?_getD,List.length_append,List.getElem?_append_right (by omega)]
  congr 2
  omega
theorem WI (o:List UInt8):∀ (ts:List Tok) (l:List UInt8),(Ci ts (l.length:Int)).1=0→ts.foldl DX (o++l)=o++ts.foldl DX l
 | [],l,_=>rfl
 | t :: ts,l,h=>by
  simp only[Ci]at h
  have ht:(DV (l.length:Int) t).1=0:=by
   by_cases h1:(DV (l.length:Int) t).1=0
   ·exact h1
   ·rw[if_neg h1]at h;exact h
  rw[if_pos ht]at h
  rw[List.foldl_cons,List.foldl_cons]
  have hp:DX (o++l) t=o++DX l t∧(DV (l.length:Int) t).2=((DX l t).length:Int):=by
   unfold DV at ht⊢
   unfold DX
   by_cases h1:t.2.1=0
   ·rw[if_pos h1]at ht⊢
    rw[if_pos h1,if_pos h1]
    by_cases h2:t.2.2≠0
    ·rw[if_pos h2]at ht;simp at ht
    ·rw[if_neg h2];simp
   ·rw[if_neg h1]at ht⊢
    rw[if_neg h1,if_neg h1]
    by_cases h2:t.1≠0
    ·rw[if_pos h2]at ht;simp at ht
    ·rw[if_neg h2]at ht⊢
     by_cases h3:t.2.1 < 3∨258 < t.2.1∨t.2.2 < 1
     ·rw[if_pos h3]at ht;simp at ht
     ·rw[if_neg h3]at ht⊢
      by_cases h4:(l.length:Int) < t.2.2
      ·rw[if_pos h4]at ht;simp at ht
      ·rw[if_neg h4]
       refine⟨WH o _ (by omega) _ l (by omega),?_⟩
       rw[JJ];dsimp only;omega
  rw[hp.1]
  rw[hp.2]at h
  exact WI o ts (DX l t) h
def Dv (lit far:List Nat) (t:Tok):Prop:=
 if t.2.1=0 then lit.getD t.1.toNat 0≠0 else lit.getD (257+Di BB t.2.1.toNat) 0≠0∧far.getD (Di Br t.2.2.toNat) 0≠0
theorem ABD {row:List Bool} {lit far:List Nat} {p:Nat} {out:List UInt8} {t:Tok} (hc:Cd lit) (h:Has row p (Gc lit far t)) (h0:t.2.1=0) (hf:Dv lit far t) (hl:out.length < 3000) :
  CQ row lit far p out=.ok (false,p+(Gc lit far t).length,out++[t.1]):=by
 unfold Gc at h⊢
 unfold Dv at hf
 rw[if_pos h0]at h hf⊢
 have hx:=t.1.toNat_lt
 unfold CQ
 rw[PN hc h hf,thn,Bz]
 dsimp only
 rw[if_pos (by omega),PO,X8 _ hl,thn]
theorem ABE {row:List Bool} {lit far:List Nat} {p s f:Nat} {out:List UInt8} {x:UInt8} (hc:Cd lit) (hd:Cd far) (h:Has row p (Gc lit far (x,(s:Int),(f:Int)))) (hf:Dv lit far (x,(s:Int),(f:Int)))
  (h1:3≤s) (h2:s≤258) (h3:1≤f) (h4:f≤3000) (h5:f≤out.length) (hl:out.length+s≤3000) :
  CQ row lit far p out=.ok (false,p+(Gc lit far (x,(s:Int),(f:Int))).length,TZ f s out):=by
 have hz:¬ ((x,(s:Int),(f:Int)):Tok).2.1=0:=by dsimp only;omega
 unfold Gc at h⊢
 unfold Dv at hf
 rw[if_neg hz]at h hf⊢
 dsimp only at h hf⊢
 simp only[Int.toNat_natCast]at h hf⊢
 obtain⟨k1,k2,k3⟩:=xB s h1 h2
 obtain⟨g1,g2,g3⟩:=ABC f h3 h4
 have a1:=h.left.left.left
 have a2:=h.left.left.right
 have a3:=h.left.right
 have a4:=h.right
 simp only[List.length_append,AL,Bz]at a2 a3 a4⊢
 unfold CQ
 rw[PN hc a1 hf.1,thn]
 dsimp only
 rw[if_neg (by omega),if_neg (by omega),show 257+Di BB s - 257=Di BB s by omega,if_neg (by omega),EH a2 k3,thn]
 dsimp only
 rw[PN hd (by simp only[Nat.add_assoc]at a3⊢;exact a3) hf.2,thn]
 dsimp only
 rw[if_neg (by omega),EH (by simp only[Nat.add_assoc]at a4⊢;exact a4) g3,thn]
 dsimp only
 rw[show (Br.getD (Di Br f) (0,0)).1+(f - (Br.getD (Di Br f) (0,0)).1)=f by omega,show (BB.getD (Di BB s) (0,0)).1+(s - (BB.getD (Di BB s) (0,0)).1)=s by omega,if_neg (by omega),j4 f s out hl,thn]
 simp only[Nat.add_assoc]
theorem AEU (l:List UInt8) (t:Tok):l.length≤(DX l t).length:=by
 unfold DX
 split
 ·simp
 ·rw[JJ];omega
theorem xC:∀ (ts:List Tok) (l:List UInt8),l.length≤(ts.foldl DX l).length
 | [],l=>Nat.le_refl _
 | t :: ts,l=>Nat.le_trans (AEU l t) (xC ts _)
theorem Tu (t:Tok) (ts:List Tok) (lit far:List Nat):En (t :: ts) lit far=Gc lit far t++En ts lit far:=by
 unfold En;rw[List.flatMap_cons,List.append_assoc]
theorem Zz {row:List Bool} {lit far:List Nat} (hc:Cd lit) (hd:Cd far) (he:lit.getD 256 0≠0):∀ (ts:List Tok) (p:Nat) (out:List UInt8) (fuel:Nat) (n:Int),Has row p (En ts lit far)→(∀ t∈ts,Dv lit far t)→
  (Ci ts n).1=0→0≤n→n≤(out.length:Int)→(ts.foldl DX out).length≤3000→ts.length < fuel→Ew row lit far fuel p out=.ok (p+(En ts lit far).length,ts.foldl DX out)
 | ts,p,out,0,n,_,_,_,_,_,_,hf=>absurd hf (by omega)
 | [],p,out,g+1,n,h,hfit,hk,hn0,hn,hl,hf=>by
  have h':Has row p (ES lit 256):=h
  show (CQ row lit far p out).Ag _=_
  unfold CQ
  rw[PN hc h' he,thn]
  dsimp only
  rw[if_neg (by omega),if_pos rfl,thn,if_pos rfl]
  show Inf.Rd.ok _=Inf.Rd.ok (p+(ES lit 256).length,out)
  rw[Bz]
 | t :: ts,p,out,g+1,n,h,hfit,hk,hn0,hn,hl,hf=>by
  rw[Tu]at h⊢
  have ha:=h.left
  have hb:=h.right
  have hft:=hfit t List.mem_cons_self
  rw[List.foldl_cons]at hl⊢
  have hl1:(DX out t).length≤3000:=Nat.le_trans (xC ts (DX out t)) hl
  simp only[Ci]at hk
  have ht:(DV n t).1=0:=by
   by_cases h1:(DV n t).1=0
   ·exact h1
   ·rw[if_neg h1]at hk;exact hk
  rw[if_pos ht]at hk
  have key:CQ row lit far p out=.ok (false,p+(Gc lit far t).length,DX out t)∧0≤(DV n t).2∧(DV n t).2≤((DX out t).length:Int):=by
   obtain⟨x,s,f⟩:=t
   unfold DV at ht⊢
   unfold DX at hl1⊢
   dsimp only at ht hl1⊢
   by_cases h1:s=0
   ·rw[if_pos h1]at ht hl1⊢
    rw[if_pos h1]
    by_cases h2:f≠0
    ·rw[if_pos h2]at ht;simp at ht
    ·rw[if_neg h2]
     rw[List.length_append,List.length_singleton]at hl1
     refine⟨ABD hc ha h1 hft (by omega),by dsimp only;omega,?_⟩
     rw[List.length_append,List.length_singleton];dsimp only;omega
   ·rw[if_neg h1]at ht hl1⊢
    rw[if_neg h1]
    by_cases h2:x≠0
    ·rw[if_pos h2]at ht;simp at ht
    ·rw[if_neg h2]at ht⊢
     by_cases h3:s < 3∨258 < s∨f < 1
     ·rw[if_pos h3]at ht;simp at ht
     ·rw[if_neg h3]at ht⊢
      by_cases h4:n < f
      ·rw[if_pos h4]at ht;simp at ht
      ·rw[if_neg h4]
       rw[JJ]at hl1⊢
       obtain⟨s',rfl⟩:=Int.eq_ofNat_of_zero_le (by omega:0≤s)
       obtain⟨f',rfl⟩:=Int.eq_ofNat_of_zero_le (by omega:0≤f)
       rw[Int.toNat_natCast]at hl1⊢
       rw[Int.toNat_natCast]
       refine⟨ABE hc hd ha hft (by omega) (by omega) (by omega) (by omega) (by omega) (by omega),by dsimp only;omega,by dsimp only;omega⟩
  show (CQ row lit far p out).Ag _=_
  rw[key.1,thn]
  rw[if_neg (by simp)]
  dsimp only
  rw[Zz hc hd he ts _ _ g _ hb (fun t ht=>hfit t (List.mem_cons_of_mem _ ht)) hk key.2.1 key.2.2 hl (by simpa using hf)]
  rw[List.length_append,Nat.add_assoc]
end Go.Proofs.YtabdianhoabhhaaGreatDoor.Rt
namespace Go.Proofs.YtabdianhoabhhaaGreatDoor.Rt
open Go.Proofs.YtabdianhoabhhaaGreatDoor.Bits Go.Proofs.YtabdianhoabhhaaGreatDoor.Code Go.Proofs.YtabdianhoabhhaaGreatDoor.Match Go.Proofs.YtabdianhoabhhaaGreatDoor.SP Go.Proofs.YtabdianhoabhhaaGreatDoor.Inf Go.Proofs.YtabdianhoabhhaaGreatDoor.AV
set_option linter.unusedVariables false
theorem xR (ls:List Nat) (L:Nat) (h1:(ones ls).length=1):∃ i,i < ls.length∧0 < ls.getD i 0∧(∀ j,j < ls.length→0 < ls.getD j 0→j=i)∧AX ls L=unit ls.length i:=by
 have xS:(used ls).length=1:=by rw[←GZ];exact h1
 obtain⟨i,hu⟩:=List.length_eq_one_iff.1 xS
 have him:=(DR ls i).1 (by rw[hu];simp)
 refine⟨i,him.1,him.2,fun j hj h0=>?_,?_⟩
 ·have:=(DR ls j).2 ⟨hj,h0⟩
  rw[hu]at this
  simpa using this
 ·unfold AX
  rw[if_neg (by omega),if_pos h1]
  unfold ones
  rw[hu];rfl
theorem AEW (ls:List Nat) (L:Nat) (h0:(ones ls).length=0):AX ls L=List.replicate ls.length 0∧∀ i,ls.getD i 0=0:=by
 refine⟨by unfold AX;rw[if_pos h0],fun i=>?_⟩
 rcases Nat.eq_zero_or_pos (ls.getD i 0) with h | h
 ·exact h
 ·have:=(DR ls i).2 ⟨getD_lt (by omega),h⟩
  have hu:used ls=[]:=List.eq_nil_of_length_eq_zero (by rw[←GZ];exact h0)
  rw[hu]at this;cases this
theorem Z7 (n i:Nat):(List.replicate n 0).getD i 0=0:=by
 simp[List.getD_eq_getElem?_getD,List.getElem?_replicate];split <;> rfl
theorem xU (n:Nat):room (List.replicate n 0)=0:=by
 induction n with
 | zero=>rfl
 | succ n ih=>rw[List.replicate_succ'];rw[NF,ih];rfl
theorem pM (n i:Nat) (h:i < n):room (unit n i)=16384:=by
 have key:∀ m,room ((List.range m).map fun j=>if j=i then 1 else 0)=if i < m then 16384 else 0:=by
  intro m
  induction m with
  | zero=>rfl
  | succ m ih=>
   rw[List.range_succ,List.map_append,List.map_cons,List.map_nil,NF,ih]
   by_cases h1:m=i
   ·subst h1
    have e1:(if m < m then 16384 else 0)=0:=if_neg (by omega)
    have e2:(if m < m+1 then 16384 else 0)=16384:=if_pos (by omega)
    rw[e1,e2,if_pos rfl];rfl
   ·rw[if_neg h1]
    by_cases h2:i < m
    ·have e1:(if i < m then 16384 else 0)=16384:=if_pos h2
     have e2:(if i < m+1 then 16384 else 0)=16384:=if_pos (by omega)
     rw[e1,e2];rfl
    ·have e1:(if i < m then 16384 else 0)=0:=if_neg h2
     have e2:(if i < m+1 then 16384 else 0)=0:=if_neg (by omega)
     rw[e1,e2];rfl
 have:=key n
 rw[if_pos h]at this
 exact this
theorem QQ (ls:List Nat) (L:Nat) (hL:1≤L) (hL2:L≤15) (hn:(ones ls).length≤2 ^ L) :
  (AX ls L).length=ls.length∧Cd (AX ls L)∧(∀ x∈AX ls L,x≤L)∧∀ i,(AX ls L).getD i 0=0↔ls.getD i 0=0:=by
 obtain⟨b1,b2,b3,b4⟩:=BG ls L hL hn
 have hout:∀ i,¬ i < ls.length→((AX ls L).getD i 0=0↔ls.getD i 0=0):=fun i hi=>by
  rw[List.getD_eq_getElem?_getD,List.getD_eq_getElem?_getD,List.getElem?_eq_none (by omega),List.getElem?_eq_none (by omega)]
 by_cases h0:(ones ls).length=0
 ·obtain⟨e,hz⟩:=AEW ls L h0
  refine⟨b1,⟨fun x hx=>Nat.le_trans (b3 x hx) hL2,by rw[e,xU];omega⟩,b3,fun i=>?_⟩
  rw[e,Z7]
  exact⟨fun _=>hz i,fun _=>rfl⟩
 ·by_cases h1:(ones ls).length=1
  ·obtain⟨i,hi,hp,hu,e⟩:=xR ls L h1
   refine⟨b1,⟨fun x hx=>Nat.le_trans (b3 x hx) hL2,by rw[e,pM _ _ hi];omega⟩,b3,fun j=>?_⟩
   by_cases hj:j < ls.length
   ·rw[e,KV _ _ _ hj]
    by_cases hji:j=i
    ·subst hji;rw[if_pos rfl];omega
    ·rw[if_neg hji]
     refine⟨fun _=>?_,fun _=>rfl⟩
     rcases Nat.eq_zero_or_pos (ls.getD j 0) with h | h
     ·exact h
     ·exact absurd (hu j hj h) hji
   ·exact hout j hj
  ·obtain⟨h3,h4,h5,_⟩:=LM ls L hL (by omega) hn
   refine⟨b1,⟨fun x hx=>Nat.le_trans (b3 x hx) hL2,?_⟩,b3,fun i=>?_⟩
   ·generalize hm:AX ls L=m at *
    have hr:room m=(ls.zip m |>.map fun p=>if 0 < p.1 then 2 ^ (15 - p.2) else 0).sum:=by
     unfold room
     have e:m=(ls.zip m).map (·.2):=by rw[List.map_snd_zip (by omega)]
     conv=>lhs;rw[e]
     rw[List.map_map]
     congr 1
     apply List.map_congr_left
     intro p hp
     obtain⟨i,hi,rfl⟩:=Q7 _ _ h3 p hp
     have:=(h4 i hi).1
     simp only[Function.comp]
     by_cases h0:ls.getD i 0=0
     ·rw[if_pos (this.2 h0),if_neg (by omega)]
     ·rw[if_neg (fun hh=>h0 (this.1 hh)),if_pos (by omega)]
    rw[hr,WN ls m (fun x=>2 ^ (15 - x)) h3]
    have e2:((used ls).map fun i=>2 ^ (15 - m.getD i 0))=(used ls).map fun i=>2 ^ (15 - L)*2 ^ (L - m.getD i 0):=by
     apply List.map_congr_left
     intro i hi
     have h6:=(h4 i ((DR _ i).1 hi).1).2
     rw[←Nat.pow_add,show 15 - L+(L - m.getD i 0)=15 - m.getD i 0 by omega]
    rw[e2]
    have e3:∀ l:List Nat,(l.map fun i=>2 ^ (15 - L)*2 ^ (L - m.getD i 0)).sum=2 ^ (15 - L)*(l.map fun i=>2 ^ (L - m.getD i 0)).sum:=by
     intro l
     induction l with
     | nil=>simp
     | cons a l ih=>simp only[List.map_cons,List.sum_cons,ih,Nat.mul_add]
    rw[e3,h5,←Nat.pow_add,show 15 - L+L=15 by omega]
    exact Nat.le_refl _
   ·by_cases hi:i < ls.length
    ·exact (h4 i hi).1
    ·exact hout i hi
theorem fQ (ls:List Nat) (n k:Nat) (hn:n≠0):DU (ls++List.replicate k 0) n=DU ls n:=by
 induction k with
 | zero=>rw[List.replicate_zero,List.append_nil]
 | succ k ih=>
  rw[List.replicate_succ',←List.append_assoc,QD,ih,if_neg (fun h=>hn h.symm),List.append_nil]
theorem pO (ls:List Nat) (n k:Nat):cnt (ls++List.replicate k 0) n=cnt ls n:=by
 unfold cnt
 by_cases h:n=0
 ·rw[if_pos h,if_pos h]
 ·rw[if_neg h,if_neg h,fQ _ _ _ h]
theorem Q8 (ls:List Nat) (k:Nat):∀ n,first (ls++List.replicate k 0) n=first ls n
 | 0=>rfl
 | n+1=>by unfold first;rw[Q8 ls k n,pO]
theorem fT (ls:List Nat) (k:Nat):room (ls++List.replicate k 0)=room ls:=by
 induction k with
 | zero=>rw[List.replicate_zero,List.append_nil]
 | succ k ih=>rw[List.replicate_succ',←List.append_assoc,NF,ih,if_pos rfl,Nat.add_zero]
theorem LQ (ls:List Nat) (k i:Nat):(ls++List.replicate k 0).getD i 0=ls.getD i 0:=by
 rw[List.getD_eq_getElem?_getD,List.getD_eq_getElem?_getD]
 rcases Nat.lt_or_ge i ls.length with h | h
 ·rw[List.getElem?_append_left h]
 ·rw[List.getElem?_append_right h,List.getElem?_eq_none h,List.getElem?_replicate];split <;> rfl
theorem fU (ls:List Nat) (k i:Nat):ES (ls++List.replicate k 0) i=ES ls i:=by
 unfold ES
 rw[LQ]
 by_cases h0:ls.getD i 0=0
 ·rw[h0];rfl
 ·congr 1
  have hi:=getD_lt h0
  unfold codeOf
  rw[LQ,if_neg h0,if_neg h0,Q8]
  unfold rank
  rw[LQ,List.take_append_of_le_length (by omega)]
theorem OO (l:List Nat) (least:Nat):∀ n j,Ed l least n≤j→j < n→l.getD j 0=0
 | 0,j,_,h=>absurd h (by omega)
 | n+1,j,h,hj=>by
  unfold Ed at h
  split at h
  ·rename_i h1
   by_cases e:j=n
   ·subst e;exact h1.2
   ·exact OO l least n j h (by omega)
  ·omega
theorem OP (l:List Nat) (least:Nat):l=BQ l least++List.replicate (l.length - Ed l least l.length) 0:=by
 have hle:=G6 l least l.length
 have hz:=OO l least l.length
 unfold BQ
 generalize Ed l least l.length=m at *
 apply List.ext_getElem
 ·simp;omega
 ·intro i h1 h2
  by_cases hi:i < m
  ·rw[List.getElem_append_left (by simp;omega)];simp
  ·rw[List.getElem_append_right (by simp;omega),List.getElem_replicate]
   have:=hz i (by omega) h1
   rw[List.getD_eq_getElem?_getD,List.getElem?_eq_getElem h1]at this
   exact this
theorem QR (l:List Nat) (least i:Nat):(BQ l least).getD i 0=l.getD i 0:=by
 conv=>rhs;rw[OP l least]
 rw[LQ]
theorem WO (l:List Nat) (least i:Nat):ES (BQ l least) i=ES l i:=by
 conv=>rhs;rw[OP l least]
 rw[fU]
theorem Je (l:List Nat) (least:Nat) (h:Cd l):Cd (BQ l least):=by
 refine⟨fun x hx=>h.le x (List.mem_of_mem_take hx),?_⟩
 have:=h.room
 rw[OP l least,fT]at this
 exact this
theorem J8 (l:List Nat) (least:Nat) (h:least≤l.length):least≤(BQ l least).length∧(BQ l least).length≤l.length:=by
 have h1:=G6 l least l.length
 have h2:=MQ l least l.length h
 unfold BQ
 rw[List.length_take];omega
theorem xV (lit far:List Nat) (a b:Nat) (t:Tok):Gc (BQ lit a) (BQ far b) t=Gc lit far t:=by
 unfold Gc;simp only[WO]
theorem pG (ts:List Tok) (lit far:List Nat) (a b:Nat):En ts (BQ lit a) (BQ far b)=En ts lit far:=by
 unfold En
 rw[WO]
 congr 1
 induction ts with
 | nil=>rfl
 | cons t ts ih=>rw[List.flatMap_cons,List.flatMap_cons,xV,ih]
theorem xH (lit far:List Nat) (a b:Nat) (t:Tok) (h:Dv lit far t):Dv (BQ lit a) (BQ far b) t:=by
 unfold Dv at h⊢;simp only[QR];exact h
theorem FD (l:List Nat):BC (EZ l)=l:=by
 unfold BC EZ;rw[List.map_map]
 conv=>rhs;rw[←List.map_id l]
 apply List.map_congr_left
 intro x _;rfl
theorem Oq (l:List Nat) (h:Cd l) (hl:l.length≤288):Em (EZ l)=.ok l:=by
 have hc:GK (EZ l)=0:=by
  unfold GK
  rw[if_neg (by unfold EZ;rw[List.length_map];omega),if_neg,FD,if_neg (by have:=h.room;omega)]
  rw[Bool.not_eq_true,List.any_eq_false]
  intro x hx
  obtain⟨y,hy,rfl⟩:=List.mem_map.1 hx
  have:=h.le y hy
  have e:Int.ofNat y=(y:Int):=rfl
  rw[e]
  simp[Fj];omega
 unfold Em
 rw[if_pos hc,FD]
end Go.Proofs.YtabdianhoabhhaaGreatDoor.Rt
namespace Go.Proofs.YtabdianhoabhhaaGreatDoor.Cx
open Go Go.RowKit Go.Proofs.YtabdianhoabhhaaGreatDoor Go.Proofs.YtabdianhoabhhaaGreatDoor.SP
set_option linter.unusedVariables false
theorem wm:(Tryz.prog.info? 3).map (fun i=>(i.zero,i.size,i.bytes))=some (some (.int .i64 0),1,8):=by kernel_rfl
theorem F6 (n:Nat) (hn:n≤1000000) (u:World):(Instr.makeSlice 89 (.int .i64 (n:Int)) (.int .i64 (n:Int))).run Tryz.prog u =
   .ok (.slice (some ⟨u.heap.size,0,none⟩) n n) (u.alloc (.cells (madeCells #[.int .i64 0] n) 3)):=by
 obtain⟨i0,hi,hz0,hz1,hz2⟩:=info_parts wm
 have h:=run_make (P:=Tryz.prog) u 89 3 i0 (.int .i64 0) Tryz.underlying89 hi hz0 .i64 .i64 (n:Int) (n:Int) (by omega) (Int.le_refl _) (by rw[hz2];omega) (by omega)
 simpa [hz1,Value.cells] using h
theorem Wh (n:Nat):madeCells #[.int .i64 0] n=((List.replicate n 0).map nv).toArray:=by
 unfold madeCells
 apply Array.ext'
 simp
 apply List.ext_getElem
 ·simp
 ·intro i h1 h2
  simp[nv,Nat.mod_one]
theorem ae (w:World) (base n:Nat) (l:List Nat) (hb:base≤w.heap.size) (hl:l.length=n) (hn:n≤1000000):(w.alloc (.cells ((l.map nv).toArray) 3)).ownsRow base 3 1 (.slice (some ⟨w.heap.size,0,none⟩) n n) n (l.map nv):=
 ⟨by simp[hl],.inr ⟨w.heap.size,n,_,rfl,hb,heap_alloc_new w _,Nat.le_refl _,by unfold maxLen;omega,by simp[hl],by rw[List.toList_toArray,Nat.mul_one,List.take_of_length_le (by simp[hl])]⟩⟩
theorem tyP:Bj Tryz.prog 290 292 (.agg #[.int .i64 0,.slice none 0 0]) 2 32:=⟨Tryz.underlying290,by kernel_rfl,rfl,by omega⟩
def kV (zs:List Int) (most:Int) (w:World) (e:Ending) (w':World):Prop:=
  (MV zs most≠0∧e=.returned (.tuple #[.slice none 0 0,.int .i64 (MV zs most)])∨
   MV zs most=0∧∃ v,e=.returned (.tuple #[v,.int .i64 0])∧w'.ownsRow w.heap.size 3 1 v zs.length ((AX (CU zs) most.toNat).map nv))∧Below w.heap.size w w'
theorem gV (zs:List Int) (k:Nat) (h:k < zs.length):(CU zs).getD k 0=zs[k].toNat:=by simp[CU,List.getD_eq_getElem?_getD,h]
theorem gW (zs:List Int):(CU zs).length=zs.length:=by simp[CU]
theorem ABe (one:List Pk) (t:Nat):one.length≤(BS one t).length:=by
 cases t with
 | zero=>exact Nat.le_refl _
 | succ t=>rw[PZ];exact Nat.le_add_right _ _
theorem kW (es:List El):(CS CR es).map f2=CS BZ (es.map f2):=yC BZ f2 es
set_option maxRecDepth 100000 in
set_option maxHeartbeats 8000000 in
theorem gX (A:Option Addr) (n c L:Nat) (zs:List Int) (w:World) (hn:zs.length=n) (hx:n≤maxLen) (hA:Lv w A zs) (h0:MV zs (L:Int)=0) :
    Calls Tryz.prog 190 #[.slice A n c,.int .i64 (L:Int)] w (kV zs L w):=by
  have Hn:=Lib.hid hn
  have HA:=Lib.hid hA
  have hc:=Uc A n c zs L w hn hx hA
  rw[h0]at hc
  have HC:=Lib.hid hc
  obtain⟨f1,f2,f3,f4,f5⟩:=We zs L h0
  have H0:=Lib.hid h0
  have F2:=Lib.hid f2
  have F5:=Lib.hid f5
  have AH1:n≤288:=by omega
  have hL1:1≤L:=by omega
  have ANm:L≤15:=by omega
  have hmk:=F6 n (by omega)
  have Hnl:Hid ((CU zs).length=n):=Lib.hid (by rw[gW];exact hn)
  clear hn hx hA h0 hc f1 f2 f3 f4 f5
  go_enter Tryz.func190,Tryz.ntmps190
  go_wp2_with fail
  refine (HC.out).mono ?_
  rintro e wx ⟨rfl,hw⟩
  have hw:=hw.symm
  subst hw
  go_wp2_with fail
  have af:=Lib.hid (ae w w.heap.size n (List.replicate n 0) (Nat.le_refl _) (by simp) (by omega))
  rw[←Wh]at af
  have Hb1:=Lib.hid ((Below.refl w.heap.size w).alloc (Nat.le_refl _) (.cells (madeCells #[.int .i64 0] n) 3))
  have dB:Hid ((w.alloc (.cells (madeCells #[.int .i64 0] n) 3)).heap.size=w.heap.size+1):=Lib.hid (by simp)
  generalize w.alloc (.cells (madeCells #[.int .i64 0] n) 3)=w1 at *
  generalize hg0:w.heap.size=g0 at *
  have Hg0:=Lib.hid hg0
  clear hg0
  go_loopw [8,31] (fun v i wr=>∃ (k:Nat) (es:List El),k≤n∧i=.int .i64 (k:Int)∧wr.ownsRow (g0+1) 292 2 v es.length (es.flatMap CP)∧(∀ e∈es,CV wr (g0+1) n e)∧es.map f2=Ud (CU zs) k∧Below (g0+1) w1 wr) (fun _ i _=>n - (intOf i).toNat)
  case atStart=>exact⟨0,[],Nat.zero_le _,rfl,World.ownsRow_nil _ _ _ _,by simp,rfl,Below.refl _ _⟩
  case round=>
    obtain⟨k,es,hk,rfl,hown,Pb,yO,hbr⟩:=hrel
    have DK:=Lib.hid hown
    have VO:=Lib.hid Pb
    have kX:=Lib.hid yO
    have GN:=Lib.hid hbr
    have hel:es.length≤288:=by
      have h1:=congrArg List.length yO
      rw[List.length_map]at h1
      have h2:(Ud (CU zs) k).length≤k:=by
        unfold Ud
        rw[List.length_map]
        have:=List.length_filter_le (fun i=>decide (0 < (CU zs).getD i 0)) (List.range k)
        rw[List.length_range]at this
        exact this
      omega
    clear hown Pb yO hbr
    by_cases hlt:k < n
    · have hkl:k < zs.length:=by rw[Hn.out];exact hlt
      obtain⟨b,o,rfl,hcell⟩:=((HA.out.below (Hg0.out.symm▸Hb1.out)).below (GN.out.mono (by rw[dB.out];exact Nat.le_refl _))).get hkl
      have hz:=F2.out zs[k] (List.getElem_mem hkl)
      have Hd:=Lib.hid (gV zs k hkl)
      have Lr:=Lib.hid (gY (CU zs) k)
      rw[Hd.out,Hnl.out]at Lr
      generalize zs[k]=z at *
      obtain⟨x,rfl⟩:=Int.eq_ofNat_of_zero_le hz.1
      rw[Int.toNat_natCast]at Lr
      by_cases h0:x=0
      · subst h0
        rw[if_neg (by omega),List.append_nil]at Lr
        go_wp2_with fail
        go_roundw
        case rel=>exact⟨k+1,es,by omega,by go_num,DK.out,VO.out,by rw[Lr.out];exact kX.out,GN.out⟩
        case measure=>simp[intOf];omega
      · have hx0:(0:Int) < (x:Int):=by omega
        rw[if_pos (by omega)]at Lr
        go_upto_region 11 with fail
        have hm:=ae wr (g0+1) n (List.replicate n 0) (by have:=GN.out.size;have:=dB.out;omega) (by simp) (by omega)
        rw[←Wh]at hm
        have Hm:=Lib.hid (hm.alloc (.cells #[.int .i64 (x:Int),.slice (some ⟨wr.heap.size,0,none⟩) n n] 292))
        have hp:=AV.new (wr.alloc (.cells (madeCells #[.int .i64 0] n) 3)) 292 #[.int .i64 (x:Int),.slice (some ⟨wr.heap.size,0,none⟩) n n]
        rw[show (wr.alloc (.cells (madeCells #[.int .i64 0] n) 3)).heap.size=wr.heap.size+1 by simp]at hp
        have Hp:=Lib.hid hp
        have HbW:=Lib.hid (((Below.refl wr.heap.size wr).alloc (Nat.le_refl _) (.cells (madeCells #[.int .i64 0] n) 3)).alloc (by simp) (.cells #[.int .i64 (x:Int),.slice (some ⟨wr.heap.size,0,none⟩) n n] 292))
        clear hm hp
        generalize (wr.alloc (.cells (madeCells #[.int .i64 0] n) 3)).alloc (.cells #[.int .i64 (x:Int),.slice (some ⟨wr.heap.size,0,none⟩) n n] 292)=W at *
        generalize hy0:wr.heap.size=y0 at *
        have Hy0:=Lib.hid hy0
        clear hy0
        have c1:=Hp.out.c1
        have ck:W.cell? ⟨y0,k,none⟩=some (.int .i64 0):=by rw[Hm.out.cellAt k (by omega)];simp[hlt,nv]
        have fk:=Hm.out.frozenAt k
        go_upto_region 12 with fail
        have Hm2:Hid ((W.setCell ⟨y0,k,none⟩ (.int .i64 1)).ownsRow (g0+1) 3 1 (.slice (some ⟨y0,0,none⟩) n n) n ((unit n k).map nv)):=Lib.hid (by
          have:=(Hm.out.stored k (.int .i64 1)).1
          rw[←yP,List.map_set];exact this)
        have XL:Hid (AV (W.setCell ⟨y0,k,none⟩ (.int .i64 1)) (y0+1) 292 #[.int .i64 (x:Int),.slice (some ⟨y0,0,none⟩) n n]):=Lib.hid (Hp.out.far (by show y0+1≠y0;omega) _)
        have AEv:Hid (Below wr.heap.size wr (W.setCell ⟨y0,k,none⟩ (.int .i64 1))):=Lib.hid (by rw[Hy0.out];exact HbW.out.setCell (Nat.le_refl _) _)
        clear Hm Hp HbW c1 ck fk
        generalize W.setCell ⟨y0,k,none⟩ (.int .i64 1)=W2 at *
        have Gd:=Lib.hid ((AP DK.out AEv.out).alloc (.cells #[.int .i64 (x:Int),.slice (some ⟨y0,0,none⟩) n n] 292))
        have Hm3:=Lib.hid (Hm2.out.alloc (.cells #[.int .i64 (x:Int),.slice (some ⟨y0,0,none⟩) n n] 292))
        have Hb3:Hid (Below wr.heap.size wr (W2.alloc (.cells #[.int .i64 (x:Int),.slice (some ⟨y0,0,none⟩) n n] 292))):=Lib.hid (AEv.out.alloc AEv.out.size _)
        have NA:Hid (AQ (W2.alloc (.cells #[.int .i64 (x:Int),.slice (some ⟨y0,0,none⟩) n n] 292)) (some ⟨W2.heap.size,0,none⟩) [.int .i64 (x:Int),.slice (some ⟨y0,0,none⟩) n n]):=Lib.hid (AQ.of_heap (heap_alloc_new _ _) rfl)
        have AH2:=Lib.hid (GN.out.trans (Hb3.out.mono (by have:=GN.out.size;have:=dB.out;omega)))
        have hc0:=XL.out.c0
        have hc1:=XL.out.c1
        have Hbs:Hid (g0+1≤(W2.alloc (.cells #[.int .i64 (x:Int),.slice (some ⟨y0,0,none⟩) n n] 292)).heap.size):=Lib.hid (by have:=AH2.out.size;have:=dB.out;omega)
        go_wp2_with (at_builtin;refine AY _ rfl (.tmp 47) (.tmp 49) _ rfl (g0+1) 292 _ 2 32 tyP u8 es.length (es.flatMap CP) rfl Gd.out (some ⟨W2.heap.size,0,none⟩) 1 1 [.int .i64 (x:Int),.slice (some ⟨y0,0,none⟩) n n] rfl rfl NA.out (by simp[Value.oneCell']) (by simp) (by unfold maxLen;omega) (by omega) Hbs.out ?_;intro v4 w4 DJ hg4 _;have bY:=Lib.hid DJ;have J3:=Lib.hid hg4;clear DJ hg4)
        go_roundw
        case rel=>
          refine⟨k+1,es++[(x,(some ⟨y0,0,none⟩,n,n),unit n k)],by omega,by go_num,?_,?_,?_,?_⟩
          · rw[List.length_append,List.flatMap_append];exact bY.out
          · intro e he
            rcases List.mem_append.1 he with he | he
            · exact ((VO.out e he).below Hb3.out).Qc Gd.out J3.out
            · simp at he
              subst he
              exact CV.Qc ⟨y0,n,rfl,Hm3.out⟩ Gd.out J3.out
          · rw[List.map_append,kX.out,Lr.out];rfl
          · exact own_below Gd.out J3.out AH2.out Hbs.out
        case measure=>simp[intOf];omega
    · obtain rfl:k=n:=by omega
      have hon:=kX.out
      rw[←Hnl.out,qN]at hon
      have Hon:=Lib.hid hon
      have VP:Hid ((ones (CU zs)).length=es.length):=Lib.hid (by rw[←hon,List.length_map])
      have rD:Hid (Below g0 w wr):=Lib.hid (Hb1.out.trans (GN.out.mono (by omega)))
      have ACn:Hid (wr.ownsRow g0 3 1 (.slice (some ⟨g0,0,none⟩) k k) k ((List.replicate k 0).map nv)):=Lib.hid (by
        have:=af.out
        refine⟨this.1,?_⟩
        rcases this.2 with h1 | ⟨g',cap,cur,hv,hbg,hgb,r⟩
        · exact .inl h1
        · refine .inr ⟨g',cap,cur,hv,hbg,?_,r⟩
          have:g'=g0:=by injection hv with hv;injection hv with hv;injection hv with hv;exact hv.symm
          subst this
          rw[GN.out.block g' (by omega)];exact hgb)
      clear hon kX
      obtain⟨N1,hN⟩:∃ N1,es.length=N1:=⟨_,rfl⟩
      have sI:=Lib.hid hN
      rw[hN]at DK VP hel
      clear hN
      by_cases hN0:N1=0
      · have Hf:Hid (AX (CU zs) (L:Int).toNat=List.replicate k 0):=Lib.hid (by unfold AX;rw[if_pos (by rw[VP.out];exact hN0),Hnl.out])
        have e0:((N1:Int) == 0)=true:=by simp;omega
        obtain⟨A1,c1,hv,_,_,_,_⟩:=Ad DK.out
        subst hv
        clear hN0
        go_wp2_with fail
        go_ret2
        refine⟨.inr ⟨H0.out,_,rfl,?_⟩,by rw[Hg0.out];exact rD.out⟩
        rw[Hf.out,Hn.out,Hg0.out];exact ACn.out
      · have e0:((N1:Int) == 0)=false:=by simp;omega
        obtain⟨g1,c1,hv,hg1,hg2⟩:=DK.out.form (by omega)
        subst hv
        have Hg1:=Lib.hid hg1
        clear hg1 hg2
        by_cases hN1:N1=1
        · obtain⟨e,hee⟩:=List.length_eq_one_iff.1 (sI.out.trans hN1)
          subst hee
          obtain⟨g',cap,he1,he2⟩:=VO.out e (by simp)
          have hcell:wr.cell? ⟨g1,1,none⟩=some (.slice (some ⟨g',0,none⟩) k cap):=by
            rw[DK.out.cellAt 1 (by omega)]
            show some (Cm e.2.1)=_
            rw[he1];rfl
          have Hf:Hid (AX (CU zs) (L:Int).toNat=e.2.2):=Lib.hid (by
            unfold AX
            rw[if_neg (by rw[VP.out];exact hN0),if_pos (by rw[VP.out];exact hN1),←Hon.out];rfl)
          have He2:=Lib.hid he2
          have e1:((N1:Int) == 1)=true:=by simp;omega
          have e2:0 < N1:=by omega
          clear he1 he2 hN0 hN1
          go_wp2_with fail
          go_ret2
          refine⟨.inr ⟨H0.out,_,rfl,?_⟩,by rw[Hg0.out];exact rD.out⟩
          rw[Hf.out,Hn.out,Hg0.out];exact AZ He2.out (by omega)
        · have e1:((N1:Int) == 1)=false:=by simp;omega
          have AEu:∀ e∈es,e.1≤1152921504606846976:=fun e he=>by
            have h1:f2 e∈CS BZ (ones (CU zs)):=(Cv BZ _).mem_iff.2 (by rw[←Hon.out];exact List.mem_map_of_mem he)
            have:=(UU (kS (CU zs) (fun x hx=>by
              obtain⟨z,hz,rfl⟩:=List.mem_map.1 hx
              have:=F2.out z hz;omega) _ h1) (by omega)).1
            omega
          have Hr:=Ue (g0+1) g1 N1 c1 es wr DK.out (by omega) AEu
          have HR:=Lib.hid Hr
          have RP:2≤N1:=by omega
          have AMd:N1≤288:=by omega
          clear hN0 hN1 AEu Hr hel
          go_wp2_with fail
          refine (HR.out).mono ?_
          rintro e w2 ⟨rfl,hown2,hg2⟩
          have hsz1:g0+1≤wr.heap.size:=by have:=GN.out.size;have:=dB.out;omega
          have Gd:=Lib.hid hown2
          have Hb2:=Lib.hid (own_below DK.out hg2 GN.out hsz1)
          have yQ:Hid (∀ e∈CS CR es,CV w2 (g0+1) k e):=Lib.hid (fun e he=>(VO.out e ((Cv CR es).mem_iff.1 he)).Qc DK.out hg2)
          have Lx:Hid ((CS CR es).map f2=CS BZ (ones (CU zs))):=Lib.hid (by rw[kW,Hon.out])
          have Hln:Hid ((CS CR es).length=N1):=Lib.hid (by rw[EY];exact sI.out)
          have YX:Hid ((CS BZ (ones (CU zs))).length=N1):=Lib.hid (by rw[EY];exact VP.out)
          have yR:Hid (∀ p∈CS BZ (ones (CU zs)),qF 0 p):=Lib.hid (kS (CU zs) (fun x hx=>by
            obtain⟨z,hz,rfl⟩:=List.mem_map.1 hx
            have:=F2.out z hz;omega))
          have HLP:Hid (AX (CU zs) (L:Int).toNat=Dw k ((BS (CS BZ (ones (CU zs))) (L - 1)).take (2*N1 - 2))):=Lib.hid (by
            unfold AX
            rw[if_neg (by rw[VP.out];omega),if_neg (by rw[VP.out];omega),VP.out,Hnl.out,Int.toNat_natCast])
          have Hus:Hid (N1≤2 ^ L):=Lib.hid (by
            have h1:=F5.out
            rw[Int.toNat_natCast]at h1
            have h2:=VY zs
            rw[VP.out]at h2
            omega)
          have Hk1:Hid (N1≤k):=Lib.hid (by have:=Kq (CU zs);rw[VP.out,Hnl.out]at this;exact this)
          clear hown2 hg2 HR DK GN VO ACn rD hsz1 HC
          generalize CS CR es=ag at *
          generalize CS BZ (ones (CU zs))=MB at *
          have hcb:N1*32≤140737488355328:=by omega
          go_wp2_with fail
          refine (tC.Ei (some ⟨g1,0,none⟩) N1 c1 (ag.flatMap CP) w2 (by rw[FC,Hln.out]) (by obtain⟨A9,c9,h9,_,_,h10,_⟩:=Ad Gd.out;injection h9 with h9;rw[h9];exact h10) (by simp) (OX ag) (by unfold maxLen;omega) hcb).mono ?_
          rintro e w3 ⟨v3,rfl,hown3,hb3⟩
          have Zp:Hid (w3.ownsRow (g0+1) 292 2 v3 ag.length (ag.flatMap CP)):=Lib.hid (by rw[Hln.out];exact AZ hown3 (by have:=Hb2.out.size;have:=dB.out;omega))
          have Hb3:=Lib.hid hb3
          clear hown3 hb3
          obtain⟨L1,hL⟩:∃ L1,L=L1+1:=⟨L - 1,by omega⟩
          have eL:(L:Int) - 1=(L1:Int):=by omega
          have HL:=Lib.hid hL
          have ANn:L1≤14:=by omega
          clear hL
          go_wp2_with fail
          clear eL
          go_loopw [13,70] (fun rv i wr=>∃ (t:Nat) (et:List El),t≤L1∧i=.int .i64 (t:Int)∧wr.ownsRow (g0+1) 292 2 rv et.length (et.flatMap CP)∧(∀ e∈et,CV wr (g0+1) k e)∧et.map f2=BS MB t∧Below w2.heap.size w2 wr) (fun _ i _=>L1 - (intOf i).toNat)
          case atStart=>exact⟨0,ag,Nat.zero_le _,rfl,Zp.out,fun e he=>(yQ.out e he).below Hb3.out,Lx.out,Hb3.out⟩
          case round=>
            obtain⟨t,et,ht,rfl,hown,Pb,hrow,hbr⟩:=hrel
            have VO:=Lib.hid Pb
            have G7:=Lib.hid hrow
            have GN:=Lib.hid hbr
            obtain⟨Nt,hNt⟩:∃ Nt,et.length=Nt:=⟨_,rfl⟩
            have HNt:=Lib.hid hNt
            have ANo:Nt≤576:=by
              have h1:=(ah MB t).1
              rw[←hrow,List.length_map,hNt,YX.out]at h1
              omega
            have ANp:N1≤Nt:=by
              have h1:=ABe MB t
              rw[←hrow,List.length_map,hNt,YX.out]at h1
              exact h1
            rw[hNt]at hown
            obtain⟨gr,cr,hv,ANq,ANr⟩:=hown.form (by omega)
            subst hv
            have DK:=Lib.hid hown
            clear hown Pb hrow hbr hNt
            by_cases hlt:t < L1
            · generalize hB:wr.heap.size=B at *
              have HB:=Lib.hid hB
              clear hB
              go_wp2_with fail
              go_loopw [14,15] (fun pv kv wx=>∃ (j:Nat) (ps:List El),kv=.int .i64 ((2*j:Nat):Int)∧2*j≤Nt∧wx.ownsRow B 292 2 pv ps.length (ps.flatMap CP)∧(∀ e∈ps,CV wx (g0+1) k e)∧ps.map f2=pairs ((BS MB t).take (2*j))∧Below B wr wx) (fun _ kv _=>Nt - (intOf kv).toNat)
              case atStart=>exact⟨0,[],rfl,Nat.zero_le _,World.ownsRow_nil _ _ _ _,by simp,rfl,Below.refl _ _⟩
              case round=>
                obtain⟨j,ps,rfl,hj,hown,Pb,hps,hbr⟩:=hrel
                have ai:=Lib.hid hown
                have yS:=Lib.hid Pb
                have Hps:=Lib.hid hps
                have Ee:=Lib.hid hbr
                have hpl:ps.length≤576:=by
                  have h1:=congrArg List.length hps
                  rw[List.length_map,Kg,List.length_take]at h1
                  omega
                clear hown Pb hps hbr
                obtain⟨kk,hkk⟩:∃ kk,kk=2*j:=⟨_,rfl⟩
                have e2:(kk:Int)+1=((kk+1:Nat):Int):=by omega
                obtain⟨kq,hkq⟩:∃ kq,kq=kk+1:=⟨_,rfl⟩
                rw[←hkq]at e2
                rw[←hkk]at hj⊢
                have Hkk:=Lib.hid (And.intro hkk hkq)
                clear hkk
                by_cases hlt2:kq < Nt
                · have hkl:kk < et.length:=by rw[HNt.out];omega
                  have Q9:kq < et.length:=by rw[HNt.out];omega
                  have hrow2:=AP DK.out (HB.out.symm▸Ee.out)
                  have Hma:=Lib.hid ((VO.out _ (List.getElem_mem hkl)).below (HB.out.symm▸Ee.out))
                  have Hmb:=Lib.hid ((VO.out _ (List.getElem_mem Q9)).below (HB.out.symm▸Ee.out))
                  obtain⟨ga,ca,hva,hSa⟩:=Hma.out.val
                  obtain⟨gb,cb,hvb,hSb⟩:=Hmb.out.val
                  have ck0:wr.cell? ⟨gr,kk*2,none⟩=some (.int .i64 (et[kk].1:Int)):=by rw[hrow2.cellAt (kk*2) (by omega),UW et kk hkl];rfl
                  have ck1:wr.cell? ⟨gr,kk*2+1,none⟩=some (.slice (some ⟨ga,0,none⟩) k ca):=by rw[hrow2.cellAt (kk*2+1) (by omega),UX et kk hkl,hva]
                  have cq0:wr.cell? ⟨gr,kq*2,none⟩=some (.int .i64 (et[kq].1:Int)):=by rw[hrow2.cellAt (kq*2) (by omega),UW et kq Q9];rfl
                  have cq1:wr.cell? ⟨gr,kq*2+1,none⟩=some (.slice (some ⟨gb,0,none⟩) k cb):=by rw[hrow2.cellAt (kq*2+1) (by omega),UX et kq Q9,hvb]
                  have BA:=UU (R8 MB yR.out t _ (by rw[←G7.out];exact List.mem_map_of_mem (List.getElem_mem hkl))) (by omega)
                  have hbb:=UU (R8 MB yR.out t _ (by rw[←G7.out];exact List.mem_map_of_mem (List.getElem_mem Q9))) (by omega)
                  have hla:=Hma.out.len
                  have hlb:=Hmb.out.len
                  have yT:Hid (pairs ((BS MB t).take (2*(j+1)))=pairs ((BS MB t).take (2*j))++[both (f2 et[kk]) (f2 et[kq])]):=Lib.hid (by
                    have h1:=Hkk.out
                    have e:(BS MB t).take (2*(j+1))=(BS MB t).take (2*j)++[f2 et[kk],f2 et[kq]]:=by
                      rw[←G7.out,show 2*(j+1)=kk+1+1 by omega,←List.map_take,←List.map_take,List.take_succ_eq_append_getElem (by omega:kk+1 < et.length),List.take_succ_eq_append_getElem hkl,←h1.1]
                      have h3:et[kk+1]=et[kq]:=by simp only[h1.2]
                      rw[h3];simp only[List.map_append,List.map_cons,List.map_nil,List.append_assoc,List.cons_append,List.nil_append]
                    rw[e]
                    exact qG _ _ _ j (by rw[←G7.out,List.length_take,List.length_map,HNt.out];omega))
                  obtain⟨x,hx⟩:∃ x,et[kk]=x:=⟨_,rfl⟩
                  obtain⟨y,hy⟩:∃ y,et[kq]=y:=⟨_,rfl⟩
                  rw[hx]at hSa ck0 BA hla yT
                  rw[hy]at hSb cq0 hbb hlb yT
                  have Yi:=Lib.hid hSa
                  have FP:=Lib.hid hSb
                  have Hla:=Lib.hid hla
                  have Hlb:=Lib.hid hlb
                  have Hba:=Lib.hid BA
                  have Hbb:=Lib.hid hbb
                  have ANs:kk < Nt:=by omega
                  obtain⟨sm,hsm⟩:∃ sm,x.1+y.1=sm:=⟨_,rfl⟩
                  have Hsm:=Lib.hid hsm
                  clear hsm
                  have hw:IntKind.i64.wrap (kq:Int)=(kq:Int):=IntWalk.i64_in _ (by omega)
                  have hn1:Hid (1≤k):=Lib.hid (by have:=Hk1.out;omega)
                  have VM:=Lib.hid (Ee.out.drew)
                  clear hSa hSb hla hlb BA hbb hx hy hva hvb hrow2 Hma Hmb hkl Q9 hkq
                  go_wp2_with fail
                  go_region_law ((first
                    | (refine KU rfl (.tmp 79) (.tmp 90) _ rfl B 292 _ 2 32 tyP u14 ps.length (ps.flatMap CP) (by simp[Act.eval]) RV.out (some ⟨w5.heap.size,0,none⟩) 1 1 [.int .i64 (sm:Int),.slice (some ⟨gm,0,none⟩) k cm] (by simp[Act.eval]) rfl jk.out (by simp[Value.oneCell']) (by simp) (by unfold maxLen;omega) (by omega) AEw.out ?_
                       intro v8 w8 Au Dj
                       have GL:=Lib.hid Au
                       have MH:=Lib.hid Dj
                       clear Au Dj)
                    | (go_simp
                       go_at_call 229
                       refine (O0 x.1 y.1 k ca cb _ _ x.2.2 y.2.2 _ Hla.out Hlb.out hn1.out AH1 (by have:=Hba.out.1;omega) (by have:=Hbb.out.1;omega) (by exact Yi.out) (by exact FP.out) (fun z hz=>by have:=Hba.out.2 z hz;omega) (fun z hz=>by have:=Hbb.out.2 z hz;omega)).mono ?_
                       rintro e w5 ⟨⟨gm,cm,rfl,hm5⟩,hb5⟩
                       rw[Hsm.out]
                       have Hm7:=Lib.hid (hm5.alloc (.cells #[.int .i64 (sm:Int),.slice (some ⟨gm,0,none⟩) k cm] 292))
                       have RV:=Lib.hid ((AP (I7 ai.out) hb5).alloc (.cells #[.int .i64 (sm:Int),.slice (some ⟨gm,0,none⟩) k cm] 292))
                       have AEx:=Lib.hid (hb5.alloc hb5.size (.cells #[.int .i64 (sm:Int),.slice (some ⟨gm,0,none⟩) k cm] 292))
                       have FR:=Lib.hid ((Ee.out.drew).trans (AEx.out.mono (by have:=Ee.out.size;have:=HB.out;show B≤wr.heap.size;omega)))
                       have AEw:Hid (B≤(w5.alloc (.cells #[.int .i64 (sm:Int),.slice (some ⟨gm,0,none⟩) k cm] 292)).heap.size):=Lib.hid (by have:=FR.out.size;have:=HB.out;omega)
                       have jk:Hid (AQ (w5.alloc (.cells #[.int .i64 (sm:Int),.slice (some ⟨gm,0,none⟩) k cm] 292)) (some ⟨w5.heap.size,0,none⟩) [.int .i64 (sm:Int),.slice (some ⟨gm,0,none⟩) k cm]):=Lib.hid (AQ.of_heap (heap_alloc_new _ _) rfl)
                       have ACo:Hid (∀ e∈ps,CV (w5.alloc (.cells #[.int .i64 (sm:Int),.slice (some ⟨gm,0,none⟩) k cm] 292)) (g0+1) k e):=Lib.hid (fun e he=>CV.below (w:=wr.drew) (by exact yS.out e he) AEx.out)
                       clear hm5 hb5)))
                  all_goals (
                    have EJ:=Lib.hid (own_below RV.out MH.out FR.out AEw.out)
                    have AH3:Hid (∀ e∈ps++[(sm,(some ⟨gm,0,none⟩,k,cm),List.zipWith (·+·) x.2.2 y.2.2)],CV w8 (g0+1) k e):=Lib.hid (fun e he=>by
                      rcases List.mem_append.1 he with he | he
                      · exact (ACo.out e he).Qc RV.out MH.out
                      · simp at he
                        subst he
                        have hle:g0+1≤wr.drew.heap.size:=by
                          show g0+1≤wr.heap.size
                          have h1:=Hb2.out.size;have h2:=dB.out;have h3:=GN.out.size;have h4:=Ee.out.size;have h5:=HB.out;omega
                        have hmm:CV (w5.alloc (.cells #[.int .i64 (sm:Int),.slice (some ⟨gm,0,none⟩) k cm] 292)) (g0+1) k (sm,(some ⟨gm,0,none⟩,k,cm),List.zipWith (·+·) x.2.2 y.2.2):=⟨gm,cm,rfl,AZ Hm7.out hle⟩
                        exact hmm.Qc RV.out MH.out)
                    have ALI:Hid ((ps++([(sm,(some ⟨gm,0,none⟩,k,cm),List.zipWith (·+·) x.2.2 y.2.2)]:List El)).map f2=pairs ((BS MB t).take (2*(j+1)))):=Lib.hid (by rw[yT.out,List.map_append,Hps.out,←Hsm.out];rfl)
                    clear Hm7 RV FR AEw jk ACo AEx MH ck0 ck1 cq0 cq1
                    go_wp2_with fail
                    go_roundw
                    case rel=>exact⟨j+1,_,int_eq (by have:=Hkk.out;omega),by have:=Hkk.out;omega,by rw[List.length_append,List.flatMap_append];exact GL.out,AH3.out,ALI.out,EJ.out⟩
                    case measure=>simp[intOf];omega)
                · have Hpf:Hid (ps.map f2=pairs (BS MB t)):=Lib.hid (by
                    have h1:=Hkk.out
                    have h2:(BS MB t).length=Nt:=by rw[←G7.out,List.length_map,HNt.out]
                    rw[Hps.out]
                    exact qH _ j (by omega) (by omega))
                  obtain⟨PA,pc,hv,_,_,_,_⟩:=Ad ai.out
                  subst hv
                  obtain⟨pl,AEy⟩:∃ pl,ps.length=pl:=⟨_,rfl⟩
                  have Hpl:=Lib.hid AEy
                  rw[AEy]at ai⊢
                  have ANt:pl≤576:=by omega
                  clear hpl AEy Hkk Hps hkq
                  have H1o:=Lib.hid (AP (AP Gd.out GN.out) (HB.out.symm▸Ee.out))
                  have AH4:Hid (Ol (wr.alloc (.cells #[.slice (some ⟨g1,0,none⟩) N1 c1,.slice PA pl pc] 290)) 2 (.slice (some ⟨g1,0,none⟩) N1 c1) N1 (ag.flatMap CP)):=Lib.hid (Yf (H1o.out.alloc _))
                  have AH5:Hid (Ol (wr.alloc (.cells #[.slice (some ⟨g1,0,none⟩) N1 c1,.slice PA pl pc] 290)) 2 (.slice PA pl pc) pl (ps.flatMap CP)):=Lib.hid (Yf (ai.out.alloc _))
                  have rC:Hid (AQ (wr.alloc (.cells #[.slice (some ⟨g1,0,none⟩) N1 c1,.slice PA pl pc] 290)) (some ⟨wr.heap.size,0,none⟩) [.slice (some ⟨g1,0,none⟩) N1 c1,.slice PA pl pc]):=Lib.hid (AQ.of_heap (heap_alloc_new _ _) rfl)
                  have rD:Hid (Below wr.heap.size wr (wr.alloc (.cells #[.slice (some ⟨g1,0,none⟩) N1 c1,.slice PA pl pc] 290))):=Lib.hid ((Below.refl _ _).alloc (Nat.le_refl _) _)
                  go_wp2_with fail
                  refine (Ky.JA (some ⟨wr.heap.size,0,none⟩) 2 2 [(.slice (some ⟨g1,0,none⟩) N1 c1,N1,ag.flatMap CP),(.slice PA pl pc,pl,ps.flatMap CP)] _ rfl (by omega) rC.out (fun r hr=>by
                    simp at hr
                    rcases hr with rfl | rfl
                    · exact AH4.out
                    · exact AH5.out) (fun r hr=>by
                    simp at hr
                    rcases hr with rfl | rfl
                    · exact OX ag
                    · exact OX ps) (by simp[Ky.total];omega)).mono ?_
                  rintro e w6 ⟨v6,rfl,hown6,hb6⟩
                  have hcc:Ky.cellsOf [(Value.slice (some ⟨g1,0,none⟩) N1 c1,N1,ag.flatMap CP),(Value.slice PA pl pc,pl,ps.flatMap CP)]=(ag++ps).flatMap CP:=by simp[Ky.cellsOf]
                  have htt:Ky.total [(Value.slice (some ⟨g1,0,none⟩) N1 c1,N1,ag.flatMap CP),(Value.slice PA pl pc,pl,ps.flatMap CP)]=N1+pl:=by simp[Ky.total]
                  rw[hcc,htt]at hown6
                  obtain⟨NN,hNN⟩:∃ NN,N1+pl=NN:=⟨_,rfl⟩
                  rw[hNN]at hown6
                  obtain⟨g6,c6,hv6,IJ,ALJ⟩:=hown6.form (by omega)
                  subst hv6
                  have nH:Hid (g0+1≤wr.heap.size∧w2.heap.size≤wr.heap.size):=Lib.hid (by
                    have h1:=Hb2.out.size;have h2:=dB.out;have h3:=GN.out.size;have h4:=Ee.out.size;have h5:=HB.out;omega)
                  have yU:=Lib.hid (AZ hown6 (by have h1:=rD.out.size;have:=nH.out.2;omega:w2.heap.size≤_))
                  have AEz:=Lib.hid (GN.out.trans ((Ee.out.mono (by have h3:=GN.out.size;have h5:=HB.out;omega)).trans ((rD.out.mono nH.out.2).trans (hb6.mono (by have h1:=rD.out.size;have:=nH.out.2;omega)))))
                  have Hm1:Hid (∀ e∈ag++ps,CV w6 (g0+1) k e):=Lib.hid (fun e he=>by
                    rcases List.mem_append.1 he with he | he
                    · exact ((yQ.out e he).below AEz.out)
                    · exact (((yS.out e he).below rD.out).below hb6))
                  have AH6:Hid ((CS CR (ag++ps)).map f2=BS MB (t+1)):=Lib.hid (by rw[kW,List.map_append,Lx.out,Hpf.out];rfl)
                  have Hr6:=Lib.hid (Ue w2.heap.size g6 NN c6 (ag++ps) w6 yU.out (by omega) (fun e he=>by
                    have h1:f2 e∈BS MB (t+1):=by rw[←AH6.out];exact List.mem_map_of_mem ((Cv CR _).mem_iff.2 he)
                    have:=(UU (R8 MB yR.out (t+1) _ h1) (by omega)).1
                    omega))
                  have AH7:Hid ((CS CR (ag++ps)).length=NN):=Lib.hid (by rw[EY,List.length_append,Hln.out,Hpl.out];exact hNN)
                  clear hown6 hb6 hcc htt IJ ALJ AH4 AH5 rC H1o ai yS
                  go_wp2_with fail
                  refine (Hr6.out).mono ?_
                  rintro e w7 ⟨rfl,WS,ET⟩
                  have AH8:=Lib.hid (AZ WS (by have h1:=Hb2.out.size;have h2:=dB.out;omega:g0+1≤w2.heap.size))
                  have ALK:=Lib.hid (own_below yU.out ET AEz.out AEz.out.size)
                  have Hm7:Hid (∀ e∈CS CR (ag++ps),CV w7 (g0+1) k e):=Lib.hid (fun e he=>(Hm1.out e ((Cv CR _).mem_iff.1 he)).Qc yU.out ET)
                  clear WS ET Hr6
                  go_wp2_with fail
                  go_roundw
                  case rel=>exact⟨t+1,CS CR (ag++ps),by omega,by go_num,by rw[AH7.out];exact AH8.out,Hm7.out,AH6.out,ALK.out⟩
                  case measure=>simp[intOf];omega
            · obtain rfl:t=L1:=by omega
              obtain⟨M,hM⟩:∃ M,M=2*N1 - 2:=⟨_,rfl⟩
              have hMN:M≤Nt:=by
                have h1:=RF MB L hL1 (by rw[YX.out];exact Hus.out)
                rw[show L - 1=t by have:=HL.out;omega,←G7.out,List.length_map,HNt.out,YX.out]at h1
                omega
              obtain⟨A9,c9,hv9,hcap,_,_,_⟩:=Ad DK.out
              injection hv9 with hv1 hv2 hv3
              subst hv3
              clear hv1 hv2
              have eM:2*(N1:Int) - 2=(M:Int):=by omega
              have hMc:M≤cr:=by omega
              have AH9:Hid (wr.ownsRow g0 3 1 (.slice (some ⟨g0,0,none⟩) k k) k ((Dw k (([]:List El).map f2)).map nv)):=Lib.hid (by
                have h1:=ABd af.out (Hb2.out.trans (GN.out.mono (by have h1:=Hb2.out.size;have h2:=dB.out;omega))) (by omega:g0 < g0+1)
                simpa [Dw] using h1)
              have rD:Hid (Below g0 w wr):=Lib.hid (Hb1.out.trans ((Hb2.out.mono (by omega)).trans (GN.out.mono (by have h1:=Hb2.out.size;have h2:=dB.out;omega))))
              have ALM:Hid (AX (CU zs) (L:Int).toNat=Dw k ((et.map f2).take M)):=Lib.hid (by rw[HLP.out,hM,G7.out,show L - 1=t by have:=HL.out;omega])
              have Hlen:Hid (∀ e∈et,e.2.2.length=k):=Lib.hid (fun e he=>(VO.out e he).len)
              have cK:Hid (∀ e∈et,∀ x∈e.2.2,x≤40000):=Lib.hid (fun e he=>(UU (R8 MB yR.out t _ (by rw[←G7.out];exact List.mem_map_of_mem he)) (by omega)).2)
              clear hM af Hb2 yQ Lx Hln YX yR HLP Hus Gd GN G7
              go_wp2_with fail
              clear eM
              go_loopw [106] (fun i wr=>∃ j:Nat,j≤M∧i=.int .i64 (j:Int)∧wr.ownsRow g0 3 1 (.slice (some ⟨g0,0,none⟩) k k) k ((Dw k ((et.map f2).take j)).map nv)∧wr.ownsRow (g0+1) 292 2 (.slice (some ⟨gr,0,none⟩) Nt cr) Nt (et.flatMap CP)∧(∀ e∈et,CV wr (g0+1) k e)∧Below g0 w wr) (fun i _=>M - (intOf i).toNat)
              case atStart=>exact⟨0,Nat.zero_le _,rfl,by simpa using AH9.out,DK.out,VO.out,rD.out⟩
              case round=>
                obtain⟨j,hj,rfl,hout,hown,Pb,hbw⟩:=hrel
                have af:=Lib.hid hout
                have AIA:=Lib.hid hown
                have yV:=Lib.hid Pb
                have ABf:=Lib.hid hbw
                clear hout Pb hbw
                by_cases hlt:j < M
                · have hjl:j < et.length:=by rw[HNt.out];omega
                  obtain⟨ga,ca,hva,_⟩:=(yV.out _ (List.getElem_mem hjl)).val
                  have c0:wr.cell? ⟨gr,j*2,none⟩=some (.int .i64 (et[j].1:Int)):=by rw[hown.cellAt (j*2) (by omega),UW et j hjl];rfl
                  have c1:wr.cell? ⟨gr,j*2+1,none⟩=some (.slice (some ⟨ga,0,none⟩) k ca):=by rw[hown.cellAt (j*2+1) (by omega),UX et j hjl,hva]
                  have Hsn:Hid ((et.map f2).take (j+1)=(et.map f2).take j++[f2 et[j]]):=Lib.hid (by rw[List.take_succ_eq_append_getElem (by rw[List.length_map];exact hjl),List.getElem_map])
                  have Hme:=Lib.hid (List.getElem_mem hjl)
                  obtain⟨x,hx⟩:∃ x,et[j]=x:=⟨_,rfl⟩
                  rw[hx]at hva c0 Hsn Hme
                  have aU:=Lib.hid (Hlen.out x Hme.out)
                  have Hxb:=Lib.hid (cK.out x Hme.out)
                  have Hcl:Hid ((Dw k ((et.map f2).take j)).length=k):=Lib.hid (gT k _ (fun p hp=>by
                    obtain⟨e,he,rfl⟩:=List.mem_map.1 (List.mem_of_mem_take hp)
                    exact Hlen.out e he))
                  have VR:Hid (∀ z∈Dw k ((et.map f2).take j),z≤100000000):=Lib.hid (fun z hz=>by
                    have:=qJ k 40000 _ (fun p hp=>by
                      obtain⟨e,he,rfl⟩:=List.mem_map.1 (List.mem_of_mem_take hp)
                      exact cK.out e he) z hz
                    rw[List.length_take]at this
                    have h2:min j (et.map f2).length≤j:=Nat.min_le_left _ _
                    have h3:40000*min j (et.map f2).length≤40000*576:=Nat.mul_le_mul_left _ (by omega)
                    omega)
                  have Hva:=Lib.hid hva
                  have hjc:j < cr:=by omega
                  clear hown hva hx
                  generalize AIB:Dw k ((et.map f2).take j)=cur at *
                  have ALN:=Lib.hid AIB
                  clear AIB
                  go_wp2_with fail
                  have AIC:=Lib.hid (af.out.alloc (.cells #[.int .i64 (x.1:Int),.slice (some ⟨ga,0,none⟩) k ca] 292))
                  have AID:=Lib.hid (AIA.out.alloc (.cells #[.int .i64 (x.1:Int),.slice (some ⟨ga,0,none⟩) k ca] 292))
                  have AIE:Hid (∀ e∈et,CV (wr.alloc (.cells #[.int .i64 (x.1:Int),.slice (some ⟨ga,0,none⟩) k ca] 292)) (g0+1) k e):=Lib.hid (fun e he=>(yV.out e he).below ((Below.refl _ _).alloc (Nat.le_refl _) _))
                  have ALO:=Lib.hid (ABf.out.alloc (by rw[←Hg0.out];exact ABf.out.size) (.cells #[.int .i64 (x.1:Int),.slice (some ⟨ga,0,none⟩) k ca] 292))
                  clear af AIA yV ABf c0 c1
                  generalize wr.alloc (.cells #[.int .i64 (x.1:Int),.slice (some ⟨ga,0,none⟩) k ca] 292)=wq at *
                  go_loopw [113] (fun i wx=>∃ q:Nat,q≤k∧i=.int .i64 (q:Int)∧wx.ownsRow g0 3 1 (.slice (some ⟨g0,0,none⟩) k k) k ((Ke cur x.2.2 q).map nv)∧wx.ownsRow (g0+1) 292 2 (.slice (some ⟨gr,0,none⟩) Nt cr) Nt (et.flatMap CP)∧(∀ e∈et,CV wx (g0+1) k e)∧Below g0 w wx) (fun i _=>k - (intOf i).toNat)
                  case atStart=>exact⟨0,Nat.zero_le _,rfl,by rw[Ub];exact AIC.out,AID.out,AIE.out,ALO.out⟩
                  case round=>
                    obtain⟨q,hq,rfl,hout,hown,Pb,hbw⟩:=hrel
                    have ACp:=Lib.hid hown
                    have yX:=Lib.hid Pb
                    have AIF:=Lib.hid hbw
                    clear hown Pb hbw
                    by_cases hlt3:q < k
                    · have q1:q < cur.length:=by rw[Hcl.out];exact hlt3
                      have q2:q < x.2.2.length:=by rw[aU.out];exact hlt3
                      obtain⟨ga',ca',AIH,hS⟩:=(yX.out x Hme.out).val
                      rw[Hva.out]at AIH
                      injection AIH with v1 v2 v3
                      injection v1 with v1
                      injection v1 with v1
                      subst v1
                      obtain⟨b9,o9,VW,hc9⟩:=AQ.get hS (k:=q) (by rw[List.length_map];exact q2)
                      injection VW with VW
                      injection VW with ALP ALQ
                      subst ALP ALQ
                      have hcx:wr.cell? ⟨ga,q,none⟩=some (.int .i64 (x.2.2[q]:Int)):=by
                        have:=hc9
                        simpa [nv] using this
                      have hget:=WZ cur x.2.2 q q1 q2
                      have Lr:=Lib.hid (Ua cur x.2.2 q q1 q2)
                      have hco:wr.cell? ⟨g0,q,none⟩=some (.int .i64 (cur[q]:Int)):=by rw[hout.cellAt q (by omega),List.getElem?_map,hget];rfl
                      have hfz:=hout.frozenAt q
                      have Cy:=Lib.hid (fun u=>(hout.stored q u).1)
                      have hb1:=VR.out _ (List.getElem_mem q1)
                      have hb2:=Hxb.out _ (List.getElem_mem q2)
                      generalize cur[q]=a1 at *
                      generalize x.2.2[q]=a2 at *
                      clear hout hget hc9 hS v2 v3
                      go_wp2_with fail
                      go_roundw
                      case rel=>
                        refine⟨q+1,by omega,by go_num,?_,ownsRow_setCell_other ACp.out (by simp[Value.ownBlock];omega) _,fun e he=>(yX.out e he).Ca _ (by show g0 < g0+1;omega) _,AIF.out.setCell (Nat.le_refl _) _⟩
                        have:=Cy.out (.int .i64 ((a1:Int)+(a2:Int)))
                        rw[Lr.out,List.map_set]
                        exact this
                      case measure=>simp[intOf];omega
                    · obtain rfl:q=k:=by omega
                      have hall:=Wd cur x.2.2 (by rw[Hcl.out,aU.out])
                      rw[Hcl.out]at hall
                      rw[hall]at hout
                      have AII:=Lib.hid hout
                      clear hout hall
                      go_wp2_with fail
                      go_roundw
                      case rel=>exact⟨j+1,by omega,by go_num,by rw[Hsn.out,M0,ALN.out];exact AII.out,ACp.out,yX.out,AIF.out⟩
                      case measure=>simp[intOf];omega
                · obtain rfl:j=M:=by omega
                  go_wp2_with fail
                  go_ret2
                  refine⟨.inr ⟨H0.out,_,rfl,?_⟩,by rw[Hg0.out];exact ABf.out⟩
                  rw[ALM.out,Hn.out,Hg0.out];exact af.out
theorem Yo (A:Option Addr) (n c:Nat) (zs:List Int) (most:Int) (w:World) (hn:zs.length=n) (hx:n≤maxLen) (hA:Lv w A zs) :
  Calls Tryz.prog 190 #[.slice A n c,.int .i64 most] w (kV zs most w):=by
 by_cases h0:MV zs most=0
 ·obtain⟨L,rfl⟩:=Int.eq_ofNat_of_zero_le (by have:=We zs most h0;omega:0≤most)
  exact gX A n c L zs w hn hx hA h0
 ·have HC:=Lib.hid (Uc A n c zs most w hn hx hA)
  clear hn hx hA
  generalize hz:MV zs most=z at *
  have Hz:=Lib.hid hz
  have h1:(z == 0)=false:=by simpa using h0
  clear hz
  go_enter Tryz.func190,Tryz.ntmps190
  go_wp2_with fail
  refine (HC.out).mono ?_
  rintro e wx ⟨rfl,rfl⟩
  go_wp2_with fail
  go_ret2
  exact⟨.inl ⟨by rw[Hz.out];exact h0,by rw[Hz.out];rfl⟩,Below.refl _ _⟩
end Go.Proofs.YtabdianhoabhhaaGreatDoor.Cx
namespace Go.Proofs.YtabdianhoabhhaaGreatDoor.Bits
open Go Go.RowKit Go.Proofs.YtabdianhoabhhaaGreatDoor
set_option linter.unusedVariables false
theorem ty8:Bj Tryz.prog 23 5 (.int .u8 0) 1 1:=⟨Tryz.underlying23,by kernel_rfl,rfl,by omega⟩
theorem oq (n k:Nat) (h:n < 9223372036854775808):bits .and .i64 ((n:Int) / 2 ^ k) 1=((n.testBit k).toNat:Int):=by
 have h2:(n:Int) / 2 ^ k=((n / 2 ^ k:Nat):Int):=by simp
 have hlt:n / 2 ^ k < 9223372036854775808:=Nat.lt_of_le_of_lt (Nat.div_le_self _ _) h
 have hx:BitVec.ofInt 64 ((n / 2 ^ k:Nat):Int)=BitVec.ofNat 64 (n / 2 ^ k):=by rw[BitVec.ofInt_natCast]
 rw[h2]
 show IntKind.i64.wrap ((BitVec.ofInt 64 ((n / 2 ^ k:Nat):Int) &&& BitVec.ofInt 64 (1:Int)).toNat:Int)=_
 have h1:(BitVec.ofInt 64 ((n / 2 ^ k:Nat):Int) &&& BitVec.ofInt 64 (1:Int)).toNat=(n / 2 ^ k) % 2:=by
  rw[hx,BitVec.toNat_and,BitVec.toNat_ofNat,Nat.mod_eq_of_lt (by omega),show (BitVec.ofInt 64 (1:Int)).toNat=1 from rfl,nat_mask1]
 rw[h1,Nat.toNat_testBit];exact IntWalk.i64_in _ (by omega)
def Tq (b:Bool):Int:=(b.toNat:Int)
theorem xA (n k:Nat) (h:n < 9223372036854775808):bits .and .i64 ((n:Int) / 2 ^ k) 1=Tq (n.testBit k):=oq n k h
end Go.Proofs.YtabdianhoabhhaaGreatDoor.Bits
namespace Go.Proofs.YtabdianhoabhhaaGreatDoor.Bits
open Go Go.RowKit Go.Proofs.YtabdianhoabhhaaGreatDoor
set_option linter.unusedVariables false
def EB (w:World) (p:Nat) (A:Option Addr) (n c:Nat) (pos:Nat):Prop:=AV w p 213 #[.slice A n c,.int .i64 (pos:Int)]
def Fp:List TypeId:=[213]
theorem aV (x:UInt8) (r:Nat):bits .and .u8 (n8 x / 2 ^ r) 1=Tq (x.toNat.testBit r):=by
 have hx:=x.toNat_lt
 have hlt:x.toNat / 2 ^ r < 256:=Nat.lt_of_le_of_lt (Nat.div_le_self _ _) hx
 have h2:n8 x / 2 ^ r=((x.toNat / 2 ^ r:Nat):Int):=by unfold n8;simp
 rw[h2,show (1:Int)=((1:Nat):Int) from rfl,u8_and_nat _ _ hlt (by omega),nat_mask1]
 unfold Tq;rw[Nat.toNat_testBit]
theorem ABX (b:Bool):0≤Tq b∧Tq b≤1:=by cases b <;> decide
theorem ADR (a b i:Nat) (ha:a % 2 ^ i=0) (hb:b < 2 ^ i) (hs:a+b < 9223372036854775808):bits .or .i64 (a:Int) (b:Int)=((a+b:Nat):Int):=by
 have h1:BitVec.ofInt 64 (a:Int)=BitVec.ofNat 64 a:=by rw[BitVec.ofInt_natCast]
 have h2:BitVec.ofInt 64 (b:Int)=BitVec.ofNat 64 b:=by rw[BitVec.ofInt_natCast]
 show IntKind.i64.wrap ((BitVec.ofInt 64 (a:Int) ||| BitVec.ofInt 64 (b:Int)).toNat:Int)=_
 rw[h1,h2,BitVec.toNat_or,BitVec.toNat_ofNat,BitVec.toNat_ofNat,Nat.mod_eq_of_lt (by omega),Nat.mod_eq_of_lt (by omega),nat_join i a b ha hb]
 exact IntWalk.i64_in _ (by omega)
theorem WV (a b:Int):bits .or .i64 a b=bits .or .i64 b a:=by
 show IntKind.i64.wrap ((BitVec.ofInt 64 a ||| BitVec.ofInt 64 b).toNat:Int)=IntKind.i64.wrap ((BitVec.ofInt 64 b ||| BitVec.ofInt 64 a).toNat:Int)
 rw[BitVec.or_comm]
theorem yE (n k:Nat) (b:Bool) (hn:n < 2 ^ k) (hk:k≤61):bits .or .i64 (n:Int) (wrap64 (Tq b*2 ^ k))=((n+b.toNat*2 ^ k:Nat):Int):=by
 have h2:2 ^ k≤2 ^ 61:=Nat.pow_le_pow_right (by omega) hk
 have hb:b.toNat≤1:=by cases b <;> simp
 have hbb:b.toNat*2 ^ k≤1*2 ^ k:=Nat.mul_le_mul_right _ hb
 have e:Tq b*2 ^ k=((b.toNat*2 ^ k:Nat):Int):=by unfold Tq;simp
 have e2:wrap64 ((b.toNat*2 ^ k:Nat):Int)=((b.toNat*2 ^ k:Nat):Int):=by unfold wrap64;omega
 rw[e,e2,WV,ADR _ _ k (Nat.mul_mod_left _ _) hn (by omega),Nat.add_comm]
theorem YF {w:World} {A:Option Addr} {cs:List Value} (h:AQ w A cs) {p:Addr} (hne:∀ b o,A=some ⟨b,o,none⟩→0 < cs.length→b≠p.block) (u:Value):AQ (w.setCell p u) A cs:=fun hp=>by
 obtain⟨b,o,e,hc⟩:=h hp
 refine⟨b,o,e,fun j v hj=>?_⟩
 rw[World.cell?_of_block (Below.heap_setCell w p u b (hne b o e hp))]
 exact hc j v hj
theorem VN (l:List Bool) (k:Nat) (h:k < l.length):num (l.take (k+1))=num (l.take k)+l[k].toNat*2 ^ k:=by
 rw[BJ _ _ h,SE]
 simp[num,Nat.min_eq_left (Nat.le_of_lt h)]
 exact Nat.mul_comm _ _
theorem eZ (A:Option Addr) (n c:Nat) (w:World) :
  Calls Tryz.prog 121 #[.slice A n c] w fun e w'=>e=.returned (.pointer (some ⟨w.heap.size,0,none⟩))∧EB w' w.heap.size A n c 0∧Below w.heap.size w w':=by
 go_enter Tryz.func121,Tryz.ntmps121
 go_wp2
 go_ret
 exact⟨rfl,AV.new w _ _,(Below.refl _ _).alloc (Nat.le_refl _) _⟩
def PU (p:Nat) (A:Option Addr) (n c pos size:Nat) (xs:List UInt8) (w:World) (e:Ending) (w':World):Prop:=
  (pos+size≤8*n∧e=.returned (.tuple #[.int .i64 (num (((AO xs).drop pos).take size):Nat),.bool true])∧EB w' p A n c (pos+size)∨
   8*n < pos+size∧e=.returned (.tuple #[.int .i64 0,.bool false])∧∃ q,EB w' p A n c q)∧AJ p Fp w w'
set_option maxRecDepth 100000 in
set_option maxHeartbeats 1600000 in
theorem NB (p:Nat) (A:Option Addr) (n c pos size:Nat) (xs:List UInt8) (w:World) (h:EB w p A n c pos) (hn:xs.length=n) (hA:BI w A xs) (hs:size≤61) (hp:pos≤8*n) (hnn:n≤1099511627776) (hbx:∀ b o,A=some ⟨b,o,none⟩→0 < n→b≠p) :
  Calls Tryz.prog 200 #[.pointer (some ⟨p,0,none⟩),.int .i64 (size:Int)] w (PU p A n c pos size xs w):=by
 have H:=Lib.hid h
 have Hn:=Lib.hid hn
 have HA:=Lib.hid hA
 have Ee:=Lib.hid hbx
 clear h hn hA hbx
 go_enter Tryz.func200,Tryz.ntmps200
 go_wp2_with fail
 go_loopw [6,9] (fun a i wr=>∃ k:Nat,k≤size∧pos+k≤8*n∧i=.int .i64 k∧a=.int .i64 (num (((AO xs).drop pos).take k):Nat)∧EB wr p A n c (pos+k)∧AJ p Fp w wr∧BI wr A xs) (fun _ i _=>size - (intOf i).toNat)
 case atStart=>exact⟨0,Nat.zero_le _,hp,rfl,rfl,H.out,AJ.refl _ _ _,HA.out⟩
 case round=>
  obtain⟨k,hk,hpk,rfl,rfl,hsrc,hkeep,hby⟩:=hrel
  have yF:=Lib.hid hsrc
  have yG:=Lib.hid hkeep
  have Hby:=Lib.hid hby
  have e0:=hsrc.c0
  have e1:=hsrc.c1
  have z1:=hsrc.frozen 1
  obtain⟨q,hq⟩:∃ q,q=pos+k:=⟨_,rfl⟩
  rw[←hq]at e1 hpk yF
  have Hq:=Lib.hid hq
  clear hsrc hkeep hby hq
  by_cases hlt:k < size
  ·by_cases hin:q < 8*n
   ·have Q9:q < (AO xs).length:=by rw[BV,Hn.out];exact hin
    have hkd:k < ((AO xs).drop pos).length:=by rw[List.length_drop];have:=Hq.out;omega
    have hx:q / 8 < xs.length:=by rw[Hn.out];omega
    obtain⟨b,o,rfl,hc⟩:=Hby.out.get hx
    have AHw:=Lib.hid (VN ((AO xs).drop pos) k hkd)
    have hbit:((AO xs).drop pos)[k]=xs[q / 8].toNat.testBit (q % 8):=by
     have h1:=Pv xs q (by rw[Hn.out];exact hin)
     rw[List.getElem_drop]
     have h2:(AO xs)[pos+k]?=(AO xs)[q]?:=by rw[Hq.out]
     rw[h1]at h2
     have h3:(AO xs)[pos+k]'(by have:=Hq.out;omega)=xs[q / 8].toNat.testBit (q % 8):=by
      have h4:=List.getElem?_eq_getElem (l:=AO xs) (i:=pos+k) (by have:=Hq.out;omega)
      rw[h4]at h2
      injection h2 with h2
      rw[h2];simp[List.getD,hx]
     exact h3
    rw[hbit]at AHw
    have ALF:num (((AO xs).drop pos).take k) < 2 ^ k:=by
     have:=Pt (((AO xs).drop pos).take k)
     rwa [List.length_take,Nat.min_eq_left (by omega)]at this
    have hor:=yE _ k (xs[q / 8].toNat.testBit (q % 8)) ALF (by omega)
    have hand:=aV xs[q / 8] (q % 8)
    generalize num (((AO xs).drop pos).take k)=m at *
    generalize xs[q / 8]=x at *
    generalize x.toNat.testBit (q % 8)=bb at *
    have hbb:=ABX bb
    have hr8:q % 8 < 8:=by omega
    have hge:¬ (8*(n:Int)≤(q:Int)):=by omega
    clear hbit hx
    go_wp2_with fail
    go_quiet (fail)
    go_wp2_with fail
    go_quiet (fail)
    go_wp2_with fail
    go_roundw
    case rel=>
     refine⟨k+1,by omega,by have:=Hq.out;omega,by go_num,int_eq (by rw[AHw.out];simp),?_,?_,?_⟩
     ·have h2:((pos+(k+1):Nat):Int)=(q:Int)+1:=by have:=Hq.out;omega
      unfold EB
      rw[h2];exact AV.s1 (AV.drewN yF.out _) _
     ·exact (yG.out.drewN _).Dc (yF.out.drewN _) (by simp[Fp]) (Nat.le_refl _) 1 _
     ·exact YF (Hby.out) (fun b' o' e _=>Ee.out b' o' e (by omega)) _
    case measure=>simp[intOf];omega
   ·have hge:8*(n:Int)≤(q:Int):=by omega
    go_wp2_with fail
    go_quiet (fail)
    go_wp2_with fail
    go_ret2
    exact⟨.inr ⟨by have:=Hq.out;omega,rfl,q,yF.out⟩,yG.out.drewN _⟩
  ·have hk2:k=size:=by omega
   have Hk2:=Lib.hid hk2
   clear hk2
   go_wp2_with fail
   go_ret2
   refine⟨.inl ⟨by have:=Hq.out;have:=Hk2.out;omega,by rw[←Hk2.out];rfl,?_⟩,yG.out⟩
   have h1:=yF.out
   rw[Hq.out,Hk2.out]at h1
   exact h1
end Go.Proofs.YtabdianhoabhhaaGreatDoor.Bits
namespace Go.Proofs.YtabdianhoabhhaaGreatDoor.Code
open Go Go.RowKit Go.Proofs.YtabdianhoabhhaaGreatDoor Go.Proofs.YtabdianhoabhhaaGreatDoor.Bits
set_option linter.unusedVariables false
theorem bX:Bj Tryz.prog 89 3 (.int .i64 0) 1 8:=⟨Tryz.underlying89,by kernel_rfl,rfl,by omega⟩
def tab (cs:List Nat) (v:Value):Array Value:=(cs.map BR++[v]).toArray
theorem XP (cs:List Nat) (v:Value) (i:Nat) (h:i < cs.length):(tab cs v)[i]?=some (.int .i64 (cs[i]:Int)):=by
 simp[tab,List.getElem?_append_left,h,BR]
theorem Sr (cs:List Nat) (v:Value):(tab cs v)[cs.length]?=some v:=by
 simp[tab]
theorem jN (cs:List Nat) (v:Value) (i x:Nat) (h:i < cs.length):(tab cs v).setIfInBounds i (.int .i64 (x:Int))=tab (cs.set i x) v:=by
 unfold tab
 apply Array.ext'
 simp[BR,h]
theorem uG (cs:List Nat) (v u:Value):(tab cs v).setIfInBounds cs.length u=tab cs u:=by
 unfold tab
 apply Array.ext'
 simp
def Vo (ls:List Nat) (k:Nat):List Nat:=(List.range 16).map fun s=>(DU (ls.take k) s).length
theorem Kw (ls:List Nat) (k:Nat):(Vo ls k).length=16:=by simp[Vo]
theorem uH (ls:List Nat):Vo ls 0=List.replicate 16 0:=by simp[Vo,DU];decide
theorem Rj (ls:List Nat) (k s:Nat) (h:s < 16):(Vo ls k)[s]'(by rw[Kw];exact h)=(DU (ls.take k) s).length:=by simp[Vo]
theorem uI (ls:List Nat) (k:Nat) (h:k < ls.length) (rA:ls.getD k 0 < 16):Vo ls (k+1)=(Vo ls k).set (ls.getD k 0) ((DU (ls.take k) (ls.getD k 0)).length+1):=by
 apply List.ext_getElem
 ·simp[Vo]
 ·intro i h1 h2
  have hi:i < 16:=by simpa [Vo] using h1
  rw[Rj _ _ _ hi,KE ls k i h,List.getElem_set]
  by_cases hx:ls.getD k 0=i
  ·rw[if_pos hx,if_pos hx,hx];simp
  ·rw[if_neg hx,if_neg hx,Rj _ _ _ hi];simp
def QE (ls:List Nat):List Nat:=(List.range 16).map (cnt ls)
theorem AAT (ls:List Nat):(Vo ls ls.length).set 0 0=QE ls:=by
 apply List.ext_getElem
 ·simp[Vo,QE]
 ·intro i h1 h2
  have hi:i < 16:=by simpa [Vo] using h1
  rw[List.getElem_set]
  simp only[QE,List.getElem_map,List.getElem_range]
  by_cases hx:0=i
  ·rw[if_pos hx,←hx];rfl
  ·rw[if_neg hx,Rj _ _ _ hi,List.take_length];unfold cnt;rw[if_neg (by omega)]
theorem F8 (ls:List Nat):(QE ls).length=16:=by simp[QE]
theorem tV (ls:List Nat) (s:Nat) (h:s < 16):(QE ls)[s]'(by rw[F8];exact h)=cnt ls s:=by simp[QE]
def TabAt (w:World) (base p:Nat) (ls:List Nat):Prop:=base≤p∧∃ v,AV w p 264 (tab (QE ls) v)∧w.ownsRow base 3 1 v (Da ls 15).length ((Da ls 15).map BR)
theorem Y5 (ls:List Nat) (t:Nat):(Da ls t).length≤t*ls.length:=by
 induction t with
 | zero=>simp[Da]
 | succ t ih=>
  rw[Gj,List.length_append,Nat.succ_mul]
  have:=Jg ls (t+1)
  omega
set_option maxRecDepth 100000 in
set_option maxHeartbeats 1600000 in
theorem Sw (A:Option Addr) (n c:Nat) (zs:List Int) (w:World) (hn:zs.length=n) (hA:Lv w A zs) (hc:GK zs=0) :
  Calls Tryz.prog 163 #[.slice A n c] w fun e w'=>(∃ p,e=.returned (.pointer (some ⟨p,0,none⟩))∧TabAt w' w.heap.size p (BC zs))∧Below w.heap.size w w':=by
 obtain⟨f1,f2,f3,f4,f5⟩:=Sn zs hc
 have hx:n≤288:=by omega
 have Hl:=Lib.hid (Y2 zs)
 rw[hn]at Hl
 have H5:=Lib.hid f5
 have Hn:=Lib.hid hn
 have HA:=Lib.hid hA
 have Hcz:=Lib.hid (uH (BC zs))
 clear hn hA hc f1 f2 f3 f4 f5
 go_enter Tryz.func163,Tryz.ntmps163
 go_wp2_with fail
 generalize hg:w.heap.size=g at *
 have Hg:=Lib.hid hg
 clear hg
 go_loopw [13] (fun i wr=>∃ k:Nat,k≤n∧i=.int .i64 (k:Int)∧AV wr g 264 (tab (Vo (BC zs) k) (.slice none 0 0))∧Below w.heap.size w wr) (fun i _=>n - (intOf i).toNat)
 case atStart=>
  refine⟨0,Nat.zero_le _,rfl,?_,(Below.refl _ _).alloc (Nat.le_refl _) _⟩
  rw[Hcz.out,←Hg.out];exact AV.new w _ _
 case round=>
  obtain⟨k,hk,rfl,hblk,hb⟩:=hrel
  have Et:=Lib.hid hblk
  have Hb:=Lib.hid hb
  clear hblk hb
  by_cases hlt:k < n
  ·have hkl:k < zs.length:=by rw[Hn.out];exact hlt
   have tK:k < (BC zs).length:=by rw[Hl.out];exact hlt
   obtain⟨b,o,rfl,hcell⟩:=(HA.out.below Hb.out).get hkl
   have hz:=H5.out zs[k] (List.getElem_mem hkl)
   have Hd:=Lib.hid (Rh zs k hkl)
   have Hs:=Lib.hid (uI (BC zs) k tK)
   rw[Hd.out]at Hs
   generalize zs[k]=z at *
   obtain⟨x,rfl⟩:=Int.eq_ofNat_of_zero_le hz.1
   rw[Int.toNat_natCast]at Hs
   have hx16:x < 16:=by omega
   have hxl:x < (Vo (BC zs) k).length:=by rw[Kw];exact hx16
   have hcc:wr.cell? ⟨g,x,none⟩=some (.int .i64 ((DU ((BC zs).take k) x).length:Int)):=by rw[Et.out.cell,XP _ _ _ hxl,Rj _ _ _ hx16]
   have hfz:=Et.out.frozen x
   have hq:(DU ((BC zs).take k) x).length≤288:=by
    have h1:=Jg ((BC zs).take k) x
    have h2:((BC zs).take k).length≤k:=by simp;omega
    omega
   generalize (DU ((BC zs).take k) x).length=q at *
   go_wp2_with fail
   go_region
   go_wp2_with fail
   go_roundw
   case rel=>
    refine⟨k+1,by omega,by go_num,?_,?_⟩
    ·rw[Hs.out hx16,←jN _ _ _ _ hxl];exact (Et.out.Ca x _).drew
    ·exact (Hb.out.setCell (by show w.heap.size≤g;rw[Hg.out];exact Nat.le_refl _) _).drew
   case measure=>simp[intOf];omega
  ·obtain rfl:k=n:=by omega
   have h0l:0 < (Vo (BC zs) k).length:=by rw[Kw];omega
   have Hlen:=Lib.hid (Kw (BC zs) k)
   have Hcf:Hid ((Vo (BC zs) k).set 0 0=QE (BC zs)):=Lib.hid (by rw[←AAT,Hl.out])
   have hfz:=Et.out.frozen 0
   have hcc:wr.cell? ⟨g,0,none⟩=some (.int .i64 (((Vo (BC zs) k)[0]'h0l:Nat):Int)):=by rw[Et.out.cell,XP _ _ _ h0l]
   generalize (Vo (BC zs) k)[0]'h0l=q at *
   have Hb1:=Lib.hid (Hb.out.setCell (p:=⟨g,0,none⟩) (by show w.heap.size≤g;rw[Hg.out];exact Nat.le_refl _) (.int .i64 0))
   have AGI:Hid (AV (wr.setCell ⟨g,0,none⟩ (.int .i64 0)) g 264 (tab (QE (BC zs)) (.slice none 0 0))):=Lib.hid (by
    rw[←Hcf.out]
    have:=jN (Vo (BC zs) k) (.slice none 0 0) 0 0 h0l
    rw[←this];exact Et.out.Ca 0 _)
   go_wp2_with fail
   clear hcc hfz
   generalize wr.setCell ⟨g,0,none⟩ (.int .i64 0)=wz at *
   clear Hb Et Hcf
   go_loopw [6] (fun s wo=>∃ t:Nat,t≤15∧s=.int .i64 ((t:Int)+1)∧(∃ v,AV wo g 264 (tab (QE (BC zs)) v)∧wo.ownsRow w.heap.size 3 1 v (Da (BC zs) t).length ((Da (BC zs) t).map BR))∧Below w.heap.size w wo) (fun s _=>17 - (intOf s).toNat)
   case atStart=>exact⟨0,Nat.zero_le _,rfl,⟨_,AGI.out,⟨rfl,.inl ⟨rfl,rfl⟩⟩⟩,Hb1.out⟩
   case round=>
    obtain⟨t,ht,rfl,⟨v,hblk,hown⟩,hb⟩:=hrel
    have Et:=Lib.hid hblk
    have DK:=Lib.hid hown
    have Hb:=Lib.hid hb
    clear hblk hb hown
    by_cases hlt:t < 15
    ·have e15:decide ((t:Int)+1≤15)=true:=by simp;omega
     go_wp2_with fail
     clear e15
     go_loopw [38] (fun i wx=>∃ j:Nat,j≤k∧i=.int .i64 (j:Int)∧(∃ v,AV wx g 264 (tab (QE (BC zs)) v)∧wx.ownsRow w.heap.size 3 1 v (Da (BC zs) t++DU ((BC zs).take j) (t+1)).length ((Da (BC zs) t++DU ((BC zs).take j) (t+1)).map BR))∧Below w.heap.size w wx) (fun i _=>k - (intOf i).toNat)
     case atStart=>exact⟨0,Nat.zero_le _,rfl,⟨v,Et.out,by simpa [DU] using DK.out⟩,Hb.out⟩
     case round=>
      obtain⟨j,hj,rfl,⟨v2,hblk,hown⟩,hb⟩:=hrel
      by_cases hjk:j < k
      ·have hjl:j < zs.length:=by rw[Hn.out];exact hjk
       have AKA:j < (BC zs).length:=by rw[Hl.out];exact hjk
       obtain⟨b,o,rfl,hcell⟩:=(HA.out.below hb).get hjl
       have hz:=H5.out zs[j] (List.getElem_mem hjl)
       have Hd:=Lib.hid (Rh zs j hjl)
       have Ht:=Lib.hid (KE (BC zs) j (t+1) AKA)
       rw[Hd.out]at Ht
       have hN:(Da (BC zs) t++DU ((BC zs).take j) (t+1)).length≤100000:=by
        rw[List.length_append]
        have h1:=Y5 (BC zs) t
        have h2:=Jg ((BC zs).take j) (t+1)
        have h3:((BC zs).take j).length≤j:=by simp;omega
        rw[Hl.out]at h1
        have h4:t*k≤15*k:=Nat.mul_le_mul_right _ ht
        omega
       generalize zs[j]=z at *
       obtain⟨x,rfl⟩:=Int.eq_ofNat_of_zero_le hz.1
       rw[Int.toNat_natCast]at Ht
       generalize hys:Da (BC zs) t++DU ((BC zs).take j) (t+1)=ys at *
       have Hys:=Lib.hid hys
       clear hys
       generalize hNN:ys.length=N at *
       have HN:=Lib.hid hNN
       clear hNN
       by_cases hxt:x=t+1
       ·have e1:((x:Int) == (t:Int)+1)=true:=by simp;omega
        have Hr:Hid (Da (BC zs) t++DU ((BC zs).take (j+1)) (t+1)=ys++[j]):=Lib.hid (by rw[Ht.out,if_pos hxt,←List.append_assoc,Hys.out])
        clear Ht hxt
        have hc16:wr.cell? ⟨g,16,none⟩=some v2:=by rw[hblk.cell,←F8 (BC zs),Sr]
        have Gd:=Lib.hid (hown.alloc (.cells #[.int .i64 (j:Int)] 3))
        have NA:=Lib.hid (SC wr 3 (.int .i64 (j:Int)))
        have Qt:=Lib.hid (hblk.alloc (.cells #[.int .i64 (j:Int)] 3))
        have Hb2:=Lib.hid (hb.alloc hb.size (.cells #[.int .i64 (j:Int)] 3))
        have Hbs:=Lib.hid Hb2.out.size
        clear hblk hown hb
        go_wp2_with (at_builtin;refine AY _ rfl (.tmp 50) (.tmp 52) _ rfl w.heap.size 3 _ 1 8 bX v2 N (ys.map BR) rfl Gd.out (some ⟨wr.heap.size,0,none⟩) 1 1 [.int .i64 (j:Int)] rfl rfl NA.out (by simp[Value.oneCell']) (by simp) (by unfold maxLen;omega) (by omega) Hbs.out ?_;intro v3 w3 hown3 hg3 _;obtain⟨g3,c3,hv3,_,_⟩:=hown3.form (by omega);subst hv3;have P6:=Lib.hid hown3;have Hb3:=Lib.hid (Qt.out.grown hg3 (own_ne Gd.out Qt.out (by decide)));have Hk3:=Lib.hid (own_below Gd.out hg3 Hb2.out Hbs.out);clear hown3 hg3;have AMw:=Hb3.out.frozen 16;have AMx:w3.cell? ⟨g,16,none⟩=some v2:=(by rw[Hb3.out.cell,←F8 (BC zs),Sr]))
        go_roundw
        case rel=>
         refine⟨j+1,by omega,by go_num,⟨Go.Value.slice (some ⟨g3,0,none⟩) (N+1) c3,?_,?_⟩,?_⟩
         ·have:=uG (QE (BC zs)) v2 (Go.Value.slice (some ⟨g3,0,none⟩) (N+1) c3)
          rw[F8]at this
          rw[←this];exact Hb3.out.Ca 16 _
         ·rw[Hr.out,List.length_append,HN.out,List.map_append]
          exact ownsRow_setCell_other P6.out (a:=⟨g,16,none⟩) (by exact own_ne P6.out Hb3.out (by decide)) _
         ·exact Hk3.out.setCell (by show w.heap.size≤g;rw[Hg.out];exact Nat.le_refl _) _
        case measure=>simp[intOf];omega
       ·have e1:((x:Int) == (t:Int)+1)=false:=by simp;omega
        have Hr:Hid (Da (BC zs) t++DU ((BC zs).take (j+1)) (t+1)=ys):=Lib.hid (by rw[Ht.out,if_neg hxt,List.append_nil,Hys.out])
        have Et:=Lib.hid hblk
        have DK:=Lib.hid hown
        have Hb:=Lib.hid hb
        clear Ht hxt hblk hown hb
        go_wp2_with fail
        go_roundw
        case rel=>exact⟨j+1,by omega,by go_num,⟨v2,Et.out,by rw[Hr.out,HN.out];exact DK.out⟩,Hb.out⟩
        case measure=>simp[intOf];omega
      ·obtain rfl:j=k:=by omega
       have FY:Hid ((BC zs).take j=BC zs):=Lib.hid (List.take_of_length_le (by rw[Hl.out];omega))
       have Et:=Lib.hid hblk
       have DK:=Lib.hid hown
       have Hb:=Lib.hid hb
       clear hblk hown hb
       rw[FY.out,←Gj]at DK
       go_wp2_with fail
       go_roundw
       case rel=>exact⟨t+1,by omega,by go_num,⟨v2,Et.out,DK.out⟩,Hb.out⟩
       case measure=>simp[intOf];omega
    ·obtain rfl:t=15:=by omega
     go_wp2_with fail
     go_ret
     exact⟨⟨g,rfl,by rw[Hg.out];exact Nat.le_refl _,v,Et.out,DK.out⟩,Hb.out⟩
end Go.Proofs.YtabdianhoabhhaaGreatDoor.Code
namespace Go.Proofs.YtabdianhoabhhaaGreatDoor.Code
open Go Go.RowKit Go.Proofs.YtabdianhoabhhaaGreatDoor Go.Proofs.YtabdianhoabhhaaGreatDoor.Bits
set_option linter.unusedVariables false
theorem tO (row:List Bool) (t:Nat) (h:t < row.length):val (row.take (t+1))=2*val (row.take t)+num ((row.drop t).take 1):=by
 rw[BJ _ _ h,Y4,List.drop_eq_getElem_cons h]
 show 2*_+_=2*_+num [row[t]]
 simp[num]
theorem AAM (l:List Bool):num (l.take 1)≤1:=by
 have:=Pt (l.take 1)
 have h2:(l.take 1).length≤1:=by rw[List.length_take];omega
 have h3:2 ^ (l.take 1).length≤2 ^ 1:=Nat.pow_le_pow_right (by omega) h2
 omega
theorem AAN (v b:Nat) (hv:v≤1000000) (hb:b≤1):Go.bits .or .i64 (2*(v:Int)) (b:Int)=((2*v+b:Nat):Int):=by
 have:=ADR (2*v) b 1 (by omega) (by omega) (by omega)
 rwa [Int.natCast_mul]at this
theorem AQ.tQ {w w':World} {A:Option Addr} {cs:List Value} {q:Nat} {T:List TypeId} (h:AQ w A cs) (hk:AJ q T w w') (hlt:∀ b o,A=some ⟨b,o,none⟩→0 < cs.length→b < q):AQ w' A cs:=fun hp=>by
 obtain⟨b,o,e,hc⟩:=h hp
 refine⟨b,o,e,fun j v hj=>?_⟩
 rw[World.cell?_of_block (hk.block b (hlt b o e hp))]
 exact hc j v hj
def tT (q:Nat) (A:Option Addr) (n c pos:Nat) (xs:List UInt8) (ls:List Nat) (w:World) (e:Ending) (w':World):Prop:=
 (∃ k m x,next ls ((AO xs).drop pos)=(k,m,x)∧e=.returned (.tuple #[.int .i64 (k:Int),.int .i64 x])∧(x=0→EB w' q A n c (pos+m)∧pos+m≤8*n))∧AJ q Fp w w'
theorem TabAt.keeps {w w':World} {base p q:Nat} {ls:List Nat} (h:TabAt w base p ls) (hk:AJ q Fp w w'):TabAt w' base p ls:=by
 obtain⟨h1,v,h2,h3⟩:=h
 exact⟨h1,v,hk.blk h2 (by simp[Fp]),hk.own h3 (by simp[Fp])⟩
theorem TabAt.cnt {w:World} {base p:Nat} {ls:List Nat} (h:TabAt w base p ls) (s:Nat) (hs:s < 16):w.cell? ⟨p,s,none⟩=some (.int .i64 (cnt ls s:Int)):=by
 obtain⟨h1,v,h2,h3⟩:=h
 rw[h2.cell,XP _ _ _ (by rw[F8];exact hs),tV _ _ hs]
theorem TabAt.ord {w:World} {base p:Nat} {ls:List Nat} (h:TabAt w base p ls):∃ A cap,w.cell? ⟨p,16,none⟩=some (.slice A (Da ls 15).length cap)∧AQ w A ((Da ls 15).map BR):=by
 obtain⟨h1,v,h2,h3⟩:=h
 obtain⟨A,cap,rfl,_,_,h4,_⟩:=Ad h3
 exact⟨A,cap,by rw[h2.cell,←F8 ls,Sr],h4⟩
set_option maxRecDepth 100000 in
set_option maxHeartbeats 1600000 in
theorem Vl (base p q:Nat) (A:Option Addr) (n c pos:Nat) (xs:List UInt8) (ls:List Nat) (w:World) (hT:TabAt w base p ls) (hS:EB w q A n c pos) (hn:xs.length=n) (hA:BI w A xs) (hp:pos≤8*n) (hnn:n≤1099511627776)
  (hbx:∀ b o,A=some ⟨b,o,none⟩→0 < n→b < q) (hl:∀ x∈ls,x≤15) (hr:room ls≤32768) (hlen:ls.length≤288) :
  Calls Tryz.prog 233 #[.pointer (some ⟨p,0,none⟩),.pointer (some ⟨q,0,none⟩)] w (tT q A n c pos xs ls w):=by
 have HT:=Lib.hid hT
 have HS:=Lib.hid hS
 have Hn:=Lib.hid hn
 have HA:=Lib.hid hA
 have Ee:=Lib.hid hbx
 have ADQ:Hid (∀ s,s≤15→first ls s+cnt ls s≤32768):=Lib.hid (fun s hs=>by
  have h1:=dU ls s hs hl hr
  have h2:(2:Nat) ^ s≤2 ^ 15:=Nat.pow_le_pow_right (by omega) hs
  omega)
 have Hlen:=Lib.hid hlen
 clear hT hS hn hA hbx hl hr
 go_enter Tryz.func233,Tryz.ntmps233
 go_wp2_with fail
 go_loopw [6,7,8,9] (fun cd ft at_ sz wr=>∃ t:Nat,t≤15∧sz=.int .i64 ((t:Int)+1)∧cd=.int .i64 ((2*val (((AO xs).drop pos).take t):Nat):Int)∧ft=.int .i64 ((first ls (t+1):Nat):Int)∧at_=.int .i64 ((Da ls t).length:Int)∧
  first ls (t+1)≤2*val (((AO xs).drop pos).take t)∧pos+t≤8*n∧next ls ((AO xs).drop pos)=QC ls ((AO xs).drop pos) (15 - t) (t+1)∧EB wr q A n c (pos+t)∧TabAt wr base p ls∧BI wr A xs∧AJ q Fp w wr) (fun _ _ _ sz _=>17 - (intOf sz).toNat)
 case atStart=>exact⟨0,Nat.zero_le _,rfl,rfl,rfl,rfl,by simp[first,cnt,AAO],hp,rfl,HS.out,HT.out,HA.out,AJ.refl _ _ _⟩
 case round=>
  obtain⟨t,ht,rfl,rfl,rfl,rfl,hfi,hpt,hnx,hsrc,htab,hby,hk⟩:=hrel
  have Yk:=Lib.hid hnx
  have AJ7:=Lib.hid htab
  have Hk:=Lib.hid hk
  have hrl:((AO xs).drop pos).length=8*n - pos:=by rw[List.length_drop,BV,Hn.out]
  have Hrl:=Lib.hid hrl
  by_cases hlt:t < 15
  ·have XQ:=Lib.hid (NB q A n c (pos+t) 1 xs wr hsrc Hn.out hby (by omega) hpt hnn (fun b o e h=>Nat.ne_of_lt (Ee.out b o e h)))
   have AGG:=Lib.hid hby
   clear hsrc htab hby hk hnx hrl
   go_wp2_with fail
   refine (XQ.out).mono ?_
   rintro e w1 ⟨hg,hk1⟩
   have Hk1:=Lib.hid (Hk.out.trans hk1)
   have tX:=Lib.hid (AJ7.out.keeps hk1)
   have Hby:Hid (BI w1 A xs):=Lib.hid (AQ.tQ AGG.out hk1 (fun b o e h=>Ee.out b o e (by rw[List.length_map,Hn.out]at h;exact h)))
   clear AGG
   clear hk1
   rcases hg with ⟨hfit,rfl,hs3⟩ | ⟨hno,rfl,q3,hs3⟩
   ·have Hs3:=Lib.hid hs3
    clear hs3
    have htl:t < ((AO xs).drop pos).length:=by rw[Hrl.out];omega
    have dW:=Lib.hid (tO _ t htl)
    rw[List.drop_drop]at dW
    have hb1:=AAM ((AO xs).drop (pos+t))
    have hvl:=tY (((AO xs).drop pos).take t)
    have hv2:val (((AO xs).drop pos).take t)≤32768:=by
     have h1:(((AO xs).drop pos).take t).length≤15:=by rw[List.length_take];omega
     have h2:(2:Nat) ^ (((AO xs).drop pos).take t).length≤2 ^ 15:=Nat.pow_le_pow_right (by omega) h1
     omega
    generalize num (((AO xs).drop (pos+t)).take 1)=b at *
    generalize val (((AO xs).drop pos).take t)=v at *
    have hor:=AAN v b (by omega) hb1
    have hcn:=tX.out.cnt (t+1) (by omega)
    have ha1:=ADQ.out (t+1) (by omega)
    have hup:(Da ls t).length≤5000:=by
     have h1:=Y5 ls t
     have h2:=Nat.mul_le_mul ht Hlen.out
     omega
    have Hff:Hid (first ls (t+1+1)=2*(first ls (t+1)+cnt ls (t+1))):=Lib.hid rfl
    have AGH:Hid ((Da ls (t+1)).length=(Da ls t).length+cnt ls (t+1)):=Lib.hid (by rw[Gj,List.length_append];simp[cnt])
    clear hvl
    by_cases hit:2*v+b < first ls (t+1)+cnt ls (t+1)
    ·obtain⟨i,hi1,hi2⟩:=Su ls (t+1) (val (((AO xs).drop pos).take (t+1))) (by rw[dW.out];omega)
     have Y3:=Lib.hid (NC ls ((AO xs).drop pos) (14 - t) (t+1) i (by omega) hi1)
     have Hpl:=Lib.hid (mH ls t _ i hlt hi1)
     rw[dW.out]at Hpl
     obtain⟨B,cap,hB1,hB2⟩:=tX.out.ord
     have tZ:=Yk.out
     rw[show 15 - t=14 - t+1 by omega,Y3.out]at tZ
     have hlk:=(List.getElem?_eq_some_iff.1 Hpl.out).1
     obtain⟨b2,o2,hBe,hBc⟩:=AQ.get hB2 (k:=(Da ls t).length+(2*v+b - first ls (t+1))) (by simpa using hlk)
     subst hBe
     have hcell:w1.cell? ⟨b2,o2+((Da ls t).length+(2*v+b - first ls (t+1))),none⟩=some (.int .i64 (i:Int)):=by
      rw[hBc]
      have h1:=Hpl.out
      rw[List.getElem?_eq_getElem hlk]at h1
      injection h1 with h1
      simp[BR,h1]
     have Oy:=Lib.hid tZ
     clear hBc hB2 hi1 hi2 tZ Y3 Hpl dW AGH Hff
     generalize hix:(Da ls t).length+(2*v+b - first ls (t+1))=ix at *
     have AMv:(((Da ls t).length:Nat):Int)+((2*v+b:Nat):Int) - ((first ls (t+1):Nat):Int)=(ix:Int):=by omega
     generalize (Da ls 15).length=m15 at *
     generalize (Da ls t).length=ut at *
     generalize first ls (t+1)=ff at *
     generalize cnt ls (t+1)=cc at *
     generalize hvb:2*v+b=vb at *
     have hlt1:((vb:Nat):Int) - (ff:Int) < (cc:Int):=by omega
     go_wp2_with fail
     go_ret2
     refine⟨⟨i,t+1,0,Oy.out,rfl,fun _=>⟨?_,by omega⟩⟩,Hk1.out⟩
     rw[←Nat.add_assoc];exact Hs3.out
    ·have hno:¬ (first ls (t+1)≤val (((AO xs).drop pos).take (t+1))∧val (((AO xs).drop pos).take (t+1)) < first ls (t+1)+cnt ls (t+1)):=by rw[dW.out];omega
     have Qs:=Lib.hid (KF ls ((AO xs).drop pos) (14 - t) (t+1) (by omega) (Kv ls _ _ hno))
     have tZ:=Yk.out
     rw[show 15 - t=14 - t+1 by omega,Qs.out]at tZ
     have AJ8:=Lib.hid tZ
     clear hno Qs tZ Yk
     generalize hut:(Da ls t).length=ut at *
     generalize hff:first ls (t+1)=ff at *
     generalize hcc:cnt ls (t+1)=cc at *
     generalize hvb:2*v+b=vb at *
     have Hcc:=Lib.hid hcc
     clear hcc hut hff
     have hlt1:¬ (((vb:Nat):Int) - (ff:Int) < (cc:Int)):=by omega
     go_wp2_with fail
     go_roundw
     case rel=>
      refine⟨t+1,by omega,by go_num,int_eq (by rw[dW.out];omega),int_eq (by rw[Hff.out];omega),int_eq (by rw[AGH.out];omega),by rw[dW.out,Hff.out];omega,by omega,?_,?_,tX.out,Hby.out,Hk1.out⟩
      ·rw[AJ8.out,show 15 - (t+1)=14 - t by omega]
      ·rw[←Nat.add_assoc];exact Hs3.out
     case measure=>simp[intOf];omega
   ·have Ht:=Lib.hid (KG ls ((AO xs).drop pos) (14 - t) (t+1) (by rw[Hrl.out];omega))
    have tZ:=Yk.out
    rw[show 15 - t=14 - t+1 by omega,Ht.out]at tZ
    have Oy:=Lib.hid tZ
    clear tZ Ht hs3
    go_wp2_with fail
    go_ret2
    exact⟨⟨0,0,7,Oy.out,rfl,fun h=>by omega⟩,Hk1.out⟩
  ·obtain rfl:t=15:=by omega
   clear hsrc htab hby hk hnx hrl
   go_wp2_with fail
   go_ret2
   exact⟨⟨0,0,8,by rw[Yk.out];rfl,rfl,fun h=>by omega⟩,Hk.out⟩
end Go.Proofs.YtabdianhoabhhaaGreatDoor.Code
namespace Go.Proofs.YtabdianhoabhhaaGreatDoor.Bits
open Go Go.RowKit Go.Proofs.YtabdianhoabhhaaGreatDoor
set_option linter.unusedVariables false
def Gi:List TypeId:=[5,128]
def CZ (w:World) (base p:Nat) (l:List Bool):Prop:=
 base≤p∧∃ v,AV w p 128 #[v,.int .i64 ((l.length % 8:Nat):Int)]∧w.ownsRow base 5 1 v (pack l).length ((pack l).map Eh)
theorem CZ.below {w w':World} {base p:Nat} {l:List Bool} (h:CZ w base p l) (hb:Below w.heap.size w w'):CZ w' base p l:=by
 obtain⟨h1,v,h2,h3⟩:=h
 exact⟨h1,v,h2.below hb h2.lt,AP h3 hb⟩
theorem CZ.lt {w:World} {base p:Nat} {l:List Bool} (h:CZ w base p l):p < w.heap.size:=by
 obtain⟨h1,v,h2,h3⟩:=h
 exact h2.lt
theorem CZ.new (w:World) {base:Nat} (hb:base≤w.heap.size):CZ (w.alloc (.cells #[.slice none 0 0,.int .i64 0] 128)) base w.heap.size []:=
 ⟨hb,.slice none 0 0,AV.new w _ _,World.ownsRow_nil _ _ _ _⟩
theorem or_bit (y:UInt8) (b:Bool) (h:Nat) (hh:h < 8):bits .or .u8 (n8 y) (Tq b % 256*2 ^ h % 256)=n8 (y ||| UInt8.ofNat (b.toNat*2 ^ h)):=by
 have hy:=y.toNat_lt
 have hb:b.toNat≤1:=by cases b <;> simp
 have h2:2 ^ h≤2 ^ 7:=Nat.pow_le_pow_right (by omega) (by omega)
 have hbb:b.toNat*2 ^ h≤1*2 ^ h:=Nat.mul_le_mul_right _ hb
 have e:Tq b % 256*2 ^ h % 256=((b.toNat*2 ^ h:Nat):Int):=by
  unfold Tq
  rw[show (b.toNat:Int) % 256=(b.toNat:Int) by omega]
  have:((b.toNat:Int)*2 ^ h)=((b.toNat*2 ^ h:Nat):Int):=by simp
  rw[this,Int.emod_eq_of_lt (by omega) (by omega)]
 rw[e]
 unfold n8
 rw[u8_or_nat _ _ hy (by omega),UInt8.toNat_or,UInt8.toNat_ofNat',Nat.mod_eq_of_lt (by omega)]
theorem wu (ys:List UInt8) (N:Nat) (x:UInt8) (h:ys.length=N):(ys.map Eh++[Value.int .u8 0]).set N (.int .u8 (n8 x))=(ys++[x]).map Eh:=by
 subst h;simp[Eh]
theorem wy (b:Bool) (h:Nat) (hh:h=0) (y:UInt8) (hy:y=0):y ||| UInt8.ofNat (b.toNat*2 ^ h)=byteOf [b]:=by
 subst hh hy;cases b <;> decide
theorem Zy {w:World} {base p g M cap h:Nat} {zs:List UInt8} {m:List Bool} (hbp:base≤p) (hB:AV w p 128 #[.slice (some ⟨g,0,none⟩) (M+1) cap,.int .i64 (h:Int)]) (hh:h=m.length % 8)
  (hO:w.ownsRow base 5 1 (.slice (some ⟨g,0,none⟩) (M+1) cap) (M+1) (zs.map Eh)) (hz:pack m=zs):CZ w base p m:=by
 have hl:M+1=(pack m).length:=by have:=hO.1;simp at this;rw[hz];omega
 rw[hl]at hB hO
 subst hh
 refine⟨hbp,_,hB,?_⟩
 rw[hz]at hO⊢
 exact hO
set_option maxRecDepth 100000 in
set_option maxHeartbeats 800000 in
theorem CW (base p n size:Nat) (l:List Bool) (w:World) (h:CZ w base p l) (hn:n < 9223372036854775808) (hs:size≤62) (hl:l.length+size≤1099511627776) :
  Calls Tryz.prog 79 #[.pointer (some ⟨p,0,none⟩),.int .i64 (n:Int),.int .i64 (size:Int)] w fun e w'=>e=.returned (.tuple #[])∧CZ w' base p (l++numBits n size)∧AJ base Gi w w':=by
 have H:=Lib.hid h
 clear h
 go_enter Tryz.func79,Tryz.ntmps79
 go_wp2_with fail
 go_loopw [8] (fun i wr=>∃ k:Nat,k≤size∧i=.int .i64 k∧CZ wr base p (l++numBits n k)∧AJ base Gi w wr) (fun i _=>size - (intOf i).toNat)
 case atStart=>exact⟨0,Nat.zero_le _,rfl,by simpa [numBits] using H.out,AJ.refl _ _ _⟩
 case round=>
  obtain⟨k,hk,rfl,⟨hbp,v,hblk,hown⟩,hkeep⟩:=hrel
  by_cases hlt:k < size
  ·have Hs:=Lib.hid (XA n k)
   have Hb:=Lib.hid (xA n k hn)
   have hlen:(l++numBits n k).length≤1099511627776:=by simp[AL];omega
   generalize hm0:l++numBits n k=m at *
   have Hm0:=Lib.hid hm0
   clear hm0
   have Et:=Lib.hid hblk
   have hown':=hown
   have Hk:=Lib.hid hkeep
   have hand:=Hb.out
   generalize n.testBit k=b at *
   have hc0:wr.cell? ⟨p,0,none⟩=some v:=by rw[hblk.cell];rfl
   have hc1:wr.cell? ⟨p,1,none⟩=some (.int .i64 ((m.length % 8:Nat):Int)):=by rw[hblk.cell];rfl
   have hz0:wr.frozen? ⟨p,0,none⟩=false:=hblk.frozen 0
   have hz1:wr.frozen? ⟨p,1,none⟩=false:=hblk.frozen 1
   clear hblk hown hkeep
   by_cases h8:m.length % 8=0
   ·have Hm:=Lib.hid (rT m b h8)
    have Hp1:=Lib.hid hown'
    obtain⟨h,hh⟩:∃ h,h=m.length % 8:=⟨_,rfl⟩
    obtain⟨y,hy0'⟩:∃ y:UInt8,y=0:=⟨_,rfl⟩
    have HY0:Hid (Value.int .u8 0=.int .u8 (n8 y)):=Lib.hid (by rw[hy0'];rfl)
    have hh8:h < 8:=by omega
    have heq:(((h:Nat):Int) == 0)=true:=by simp;omega
    have Hb1:=Lib.hid (wy b h (by omega) y hy0')
    rw[←hh]at hc1 Et
    have Hh:=Lib.hid hh
    clear hy0' hh
    have hpl:(pack m).length≤1099511627776:=by rw[BL];omega
    clear h8 hown'
    generalize pack m=ys at *
    generalize hN:ys.length=N at *
    have HN:=Lib.hid hN
    clear hN
    have Gd:=Lib.hid (Hp1.out.alloc (.cells #[.int .u8 0] 5))
    have NA:=Lib.hid (SC wr 5 (.int .u8 0))
    have Hk2:=Lib.hid (Hk.out.alloc (Nat.le_trans hbp (Nat.le_of_lt Et.out.lt)) (.cells #[.int .u8 0] 5))
    have Qt:=Lib.hid (Et.out.alloc (.cells #[.int .u8 0] 5))
    have Hbs:=Lib.hid (Nat.le_trans hbp (Nat.le_of_lt Qt.out.lt))
    go_wp2_with (at_builtin;refine AY _ rfl (.tmp 20) (.tmp 21) _ rfl base 5 _ 1 1 ty8 v N (ys.map Eh) rfl Gd.out (some ⟨wr.heap.size,0,none⟩) 1 1 [.int .u8 0] rfl rfl NA.out (by simp[Value.oneCell']) (by simp) (by unfold maxLen;omega) (by omega) Hbs.out ?_;intro v2 w2 hown2 hg2 _;obtain⟨g,cap,hv,hgb,hgl⟩:=hown2.form (by omega);subst hv;have P6:=Lib.hid hown2;have Hb3:=Lib.hid (Qt.out.grown hg2 (own_ne Gd.out Qt.out (by decide)));have Hk3:=Lib.hid (Hk2.out.grown Gd.out hg2 (by simp[Gi]) Hbs.out);clear hown2 hg2;have hd0:=Hb3.out.c0;have hd1:=Hb3.out.c1;have hy0:=Hb3.out.frozen 0)
    have HB:=Lib.hid (Hb3.out.s0 (.slice (some ⟨g,0,none⟩) (N+1) cap))
    have HO:=Lib.hid (ownsRow_setCell_other P6.out (a:=⟨p,0,none⟩) (by have:=own_ne P6.out Hb3.out (by decide);exact this) (.slice (some ⟨g,0,none⟩) (N+1) cap))
    have HK:=Lib.hid (Hk3.out.Dc Hb3.out (by simp[Gi]) hbp 0 (.slice (some ⟨g,0,none⟩) (N+1) cap))
    generalize w2.setCell ⟨p,0,none⟩ (.slice (some ⟨g,0,none⟩) (N+1) cap)=W at *
    clear hd0 hd1 hy0 hc0 hc1 hz0 hz1
    have hcb:W.cell? ⟨g,N,none⟩=some (.int .u8 (n8 y)):=by rw[HO.out.cellAt N (by omega),List.getElem?_append_right (by simp;have:=HN.out;omega)];simp[HN.out];have:=HY0.out;injection this
    have hzb:W.frozen? ⟨g,N,none⟩=false:=HO.out.frozenAt N
    have hor:=or_bit y b h hh8
    have e0:=HB.out.c0
    have e1:=HB.out.c1
    generalize hx:y ||| UInt8.ofNat (b.toNat*2 ^ h)=x at *
    have Hx:=Lib.hid hx
    clear hx
    skip
    go_region
    have hpg:p≠g:=by
     have:=own_ne HO.out HB.out (by decide)
     intro hpg;subst hpg;exact this rfl
    have HB2:=Lib.hid ((HB.out.far (p:=⟨g,N,none⟩) hpg (.int .u8 (n8 x))).drew)
    have Cz:=Lib.hid (I7 (HO.out.stored N (.int .u8 (n8 x))).1)
    have F3:=Lib.hid ((HK.out.stored HO.out (by simp[Gi]) N (.int .u8 (n8 x))).drew)
    generalize (W.setCell ⟨g,N,none⟩ (.int .u8 (n8 x))).drew=W2 at *
    have f1:=HB2.out.c1
    have z1:=HB2.out.frozen 1
    clear hcb hzb hor e0 e1 hpg
    go_wp2_with fail
    go_roundw
    case rel=>
     refine⟨k+1,by omega,by go_num,?_,F3.out.Dc HB2.out (by simp[Gi]) hbp 1 _⟩
     rw[Hs.out,←List.append_assoc,Hm0.out]
     exact Zy (h:=(h+1) % 8) hbp (HB2.out.s1 _) (by have:=Hh.out;simp;omega) (ownsRow_setCell_other (by have:=Cz.out;rw[wu ys N x HN.out]at this;exact this) (own_ne Cz.out HB2.out (by decide)) _) (zs:=ys++[x]) (by rw[Hm.out,Hb1.out])
    case measure=>simp[intOf];omega
   ·obtain⟨h,hh⟩:∃ h,h=m.length % 8:=⟨_,rfl⟩
    have hh0:0 < h:=by omega
    have hh8:h < 8:=by omega
    have hML:(pack m).length=m.length / 8+1:=by rw[BL];omega
    have Hm:=Lib.hid (lJ m b h8)
    rw[←hh]at Hm hc1 Et
    have Hh:=Lib.hid hh
    clear h8 hh
    obtain⟨g,cap,hv,hgb,hgl⟩:=hown'.form (by omega)
    obtain⟨M,hM⟩:∃ M,M=m.length / 8:=⟨_,rfl⟩
    rw[←hM]at Hm hML
    have hy:∃ y,(pack m).getD M 0=y∧((pack m).map Eh)[M]?=some (.int .u8 (n8 y)):=⟨_,rfl,by
     rw[List.getElem?_map,List.getElem?_eq_getElem (by omega),List.getD_eq_getElem?_getD,List.getElem?_eq_getElem (by omega)];rfl⟩
    obtain⟨y,hy1,hy2⟩:=hy
    rw[hML]at hown' hv
    rw[hy1]at Hm
    have Hy2:=Lib.hid hy2
    have HML:=Lib.hid hML
    generalize pack m=ys at *
    subst hv
    have HO:=Lib.hid hown'
    have HB:=Et
    have HK:=Hk
    have hne:(((h:Nat):Int) == 0)=false:=by simp;omega
    have hMb:M≤1099511627776:=by omega
    clear hown' hy1 hy2 hML hM hc0 hc1
    have hcb:wr.cell? ⟨g,M,none⟩=some (.int .u8 (n8 y)):=by rw[HO.out.cellAt M (by omega)];exact Hy2.out
    have hzb:wr.frozen? ⟨g,M,none⟩=false:=HO.out.frozenAt M
    have hor:=or_bit y b h hh8
    have e0:=HB.out.c0
    have e1:=HB.out.c1
    generalize hx:y ||| UInt8.ofNat (b.toNat*2 ^ h)=x at *
    have Hx:=Lib.hid hx
    clear hx
    go_wp2_with fail
    go_region
    have hpg:p≠g:=by
     have:=own_ne HO.out HB.out (by decide)
     intro hpg;subst hpg;exact this rfl
    have HB2:=Lib.hid ((HB.out.far (p:=⟨g,M,none⟩) hpg (.int .u8 (n8 x))).drew)
    have Cz:=Lib.hid (I7 (HO.out.stored M (.int .u8 (n8 x))).1)
    have F3:=Lib.hid ((HK.out.stored HO.out (by simp[Gi]) M (.int .u8 (n8 x))).drew)
    generalize (wr.setCell ⟨g,M,none⟩ (.int .u8 (n8 x))).drew=W2 at *
    have f1:=HB2.out.c1
    have z1:=HB2.out.frozen 1
    clear hcb hzb hor e0 e1 hpg
    go_wp2_with fail
    go_roundw
    case rel=>
     refine⟨k+1,by omega,by go_num,?_,F3.out.Dc HB2.out (by simp[Gi]) hbp 1 _⟩
     rw[Hs.out,←List.append_assoc,Hm0.out]
     exact Zy (h:=(h+1) % 8) hbp (HB2.out.s1 _) (by have:=Hh.out;simp;omega) (ownsRow_setCell_other (by rw[List.map_set];exact Cz.out) (own_ne Cz.out HB2.out (by decide)) _) (zs:=ys.set M x) Hm.out
    case measure=>simp[intOf];omega
  ·obtain rfl:k=size:=by omega
   have Hr:=Lib.hid (show CZ wr base p (l++numBits n k) from⟨hbp,v,hblk,hown⟩)
   have Hk:=Lib.hid hkeep
   clear hblk hown hkeep
   go_wp2_with fail
   go_end0
   exact⟨rfl,Hr.out,Hk.out⟩
theorem Vg (p:Nat) (v x:Value) (w:World) (h:AV w p 128 #[v,x]) :
  Calls Tryz.prog 80 #[.pointer (some ⟨p,0,none⟩)] w fun e w'=>e=.returned v∧w=w':=by
 have hv0:=h.c0
 have H:=Lib.hid h
 clear h
 go_enter Tryz.func80,Tryz.ntmps80
 go_wp2
 go_ret
 exact⟨rfl,rfl⟩
end Go.Proofs.YtabdianhoabhhaaGreatDoor.Bits
namespace Go.Proofs.YtabdianhoabhhaaGreatDoor.Code
open Go Go.RowKit Go.Proofs.YtabdianhoabhhaaGreatDoor
set_option linter.unusedVariables false
set_option maxRecDepth 100000 in
set_option maxHeartbeats 1600000 in
theorem mG (A:Option Addr) (n c:Nat) (zs:List Int) (w:World) (hn:zs.length=n) (hA:Lv w A zs) (hc:GK zs=0) :
  Calls Tryz.prog 232 #[.slice A n c] w fun e w'=>(∃ g,e=.returned (.slice (some ⟨g,0,none⟩) n n)∧w.heap.size≤g∧AV w' g 3 (ED (I8 (BC zs))))∧Below w.heap.size w w':=by
 obtain⟨f1,f2,f3,f4,f5⟩:=Sn zs hc
 have hx:n≤288:=by omega
 have Hl:=Lib.hid (Y2 zs)
 rw[hn]at Hl
 have ADQ:Hid (∀ s,s≤15→first (BC zs) s+cnt (BC zs) s≤32768):=Lib.hid (fun s hs=>by
  have h1:=dU (BC zs) s hs f4 f3
  have h2:(2:Nat) ^ s≤2 ^ 15:=Nat.pow_le_pow_right (by omega) hs
  omega)
 have sj:=Lib.hid (AAK (BC zs) f4)
 have H5:=Lib.hid f5
 have Hn:=Lib.hid hn
 have HA:=Lib.hid hA
 have hmk:=F6 n (by omega)
 have Hz:=Lib.hid (Ir n)
 have Hcz:=Lib.hid (tJ (BC zs))
 clear hn hA hc f1 f2 f3 f4 f5
 go_enter Tryz.func232,Tryz.ntmps232
 go_wp2_with fail
 clear hmk
 rw[Hz.out]
 generalize hg:w.heap.size=g at *
 have Hg:=Lib.hid hg
 clear hg
 go_loopw [4,5] (fun v s wr=>∃ t:Nat,t≤15∧s=.int .i64 ((t:Int)+1)∧v=.int .i64 ((first (BC zs) t+cnt (BC zs) t:Nat):Int)∧AV wr g 3 (ED (cst (BC zs) (t+1) 0))∧Below w.heap.size w wr) (fun _ s _=>17 - (intOf s).toNat)
 case atStart=>exact⟨0,Nat.zero_le _,rfl,rfl,by rw[Hcz.out,Hl.out];have:=AV.new w 3 (ED (List.replicate n 0));rw[Hg.out]at this;exact this,(Below.refl _ _).alloc (Nat.le_refl _) _⟩
 case round=>
  obtain⟨t,ht,rfl,rfl,hblk,hb⟩:=hrel
  have Et:=Lib.hid hblk
  have Hb:=Lib.hid hb
  clear hblk hb
  by_cases hlt:t < 15
  ·have hacc:=ADQ.out t ht
   have Hf:Hid (first (BC zs) (t+1)=2*(first (BC zs) t+cnt (BC zs) t)):=Lib.hid rfl
   generalize first (BC zs) t+cnt (BC zs) t=a at *
   go_wp2_with fail
   go_loopw [4,19] (fun v i wx=>∃ k:Nat,k≤n∧i=.int .i64 (k:Int)∧v=.int .i64 ((first (BC zs) (t+1)+(DU ((BC zs).take k) (t+1)).length:Nat):Int)∧AV wx g 3 (ED (cst (BC zs) (t+1) k))∧Below w.heap.size w wx) (fun _ i _=>n - (intOf i).toNat)
   case atStart=>exact⟨0,Nat.zero_le _,rfl,by rw[Hf.out];simp[DU];omega,Et.out,Hb.out⟩
   case round=>
    obtain⟨k,hk,rfl,rfl,hblk,hbx⟩:=hrel
    have Hbk:=Lib.hid hblk
    have Ee:=Lib.hid hbx
    clear hblk hbx
    have hol:(DU ((BC zs).take k) (t+1)).length≤288:=by
     have h1:=Jg ((BC zs).take k) (t+1)
     have h2:((BC zs).take k).length≤k:=by simp;omega
     omega
    by_cases hkn:k < n
    ·have hkl:k < zs.length:=by rw[Hn.out];exact hkn
     have tK:k < (BC zs).length:=by rw[Hl.out];exact hkn
     obtain⟨b,o,rfl,hcell⟩:=(HA.out.below Ee.out).get hkl
     have hz:=H5.out zs[k] (List.getElem_mem hkl)
     have Hd:=Lib.hid (Rh zs k hkl)
     have Ht:=Lib.hid (KE (BC zs) k (t+1) tK)
     have Y3:=Lib.hid (AAL (BC zs) (t+1) k tK)
     have Qs:=Lib.hid (tL (BC zs) (t+1) k)
     rw[Hd.out]at Ht Y3 Qs
     generalize zs[k]=z at *
     obtain⟨x,rfl⟩:=Int.eq_ofNat_of_zero_le hz.1
     rw[Int.toNat_natCast]at Ht Y3 Qs
     have ACH:k < (cst (BC zs) (t+1) k).length:=by rw[Sq];exact tK
     have AMM:=Lib.hid (Sq (BC zs) (t+1) k)
     generalize first (BC zs) (t+1)=ff at *
     generalize AGF:(DU ((BC zs).take k) (t+1)).length=q at *
     have Hq:=Lib.hid AGF
     clear AGF
     by_cases hxt:x=t+1
     ·have e1:((x:Int) == (t:Int)+1)=true:=by simp;omega
      have Hs:=Lib.hid (Y3.out hxt (by omega))
      have Hr:Hid ((DU ((BC zs).take (k+1)) (t+1)).length=q+1):=Lib.hid (by rw[Ht.out,if_pos hxt,List.length_append,Hq.out];rfl)
      clear Y3 Qs Ht hxt
      have hfz:=Hbk.out.frozen k
      have hff:ff+q≤1000000:=by have:=Hf.out;omega
      have hce:wr.cell? ⟨g,k,none⟩=some (.int .i64 (((cst (BC zs) (t+1) k)[k]'ACH:Nat):Int)):=by rw[Hbk.out.cell,SL _ _ ACH]
      go_wp2_with fail
      go_roundw
      case rel=>
       refine⟨k+1,by omega,by go_num,by rw[Hr.out];go_num,?_,?_⟩
       ·rw[Hs.out,←SN];exact Hbk.out.Ca k _
       ·exact Ee.out.setCell (by show w.heap.size≤g;rw[Hg.out];exact Nat.le_refl _) _
      case measure=>simp[intOf];omega
     ·have e1:((x:Int) == (t:Int)+1)=false:=by simp;omega
      have Hs:=Lib.hid (Qs.out hxt)
      have Hr:Hid ((DU ((BC zs).take (k+1)) (t+1)).length=q):=Lib.hid (by rw[Ht.out,if_neg hxt,List.append_nil,Hq.out])
      clear Y3 Qs Ht hxt
      go_wp2_with fail
      go_roundw
      case rel=>exact⟨k+1,by omega,by go_num,by rw[Hr.out],by rw[Hs.out];exact Hbk.out,Ee.out⟩
      case measure=>simp[intOf];omega
    ·obtain rfl:k=n:=by omega
     have FY:Hid ((BC zs).take k=BC zs):=Lib.hid (List.take_of_length_le (by rw[Hl.out];omega))
     have Hcn:=Lib.hid (tN (BC zs) (t+1))
     have AJ6:Hid (cnt (BC zs) (t+1)=(DU (BC zs) (t+1)).length):=Lib.hid (by unfold cnt;rw[if_neg (by omega)])
     rw[FY.out,←AJ6.out]
     rw[Hl.out]at Hcn
     go_wp2_with fail
     go_roundw
     case rel=>exact⟨t+1,by omega,by go_num,rfl,by rw[←Hcn.out];exact Hbk.out,Ee.out⟩
     case measure=>simp[intOf];omega
  ·obtain rfl:t=15:=by omega
   go_wp2_with fail
   go_ret
   exact⟨⟨g,rfl,by rw[Hg.out];exact Nat.le_refl _,by rw[←sj.out];exact Et.out⟩,Hb.out⟩
end Go.Proofs.YtabdianhoabhhaaGreatDoor.Code
namespace Go.Proofs.YtabdianhoabhhaaGreatDoor.Code
open Go Go.RowKit Go.Proofs.YtabdianhoabhhaaGreatDoor Go.Proofs.YtabdianhoabhhaaGreatDoor.Bits
set_option linter.unusedVariables false
theorem ADU (s n j:Nat) (h:j < s):(hi s n)[j]'(by rw[Df];exact h)=n.testBit (s - 1 - j):=by
 unfold hi numBits
 simp
theorem AAS (s n m:Nat) (h:m+1≤s):(hi s n).take (s - m)=(hi s n).take (s - (m+1))++numBits (n / 2 ^ m) 1:=by
 have e:s - m=(s - (m+1))+1:=by omega
 rw[e,BJ _ _ (by rw[Df];omega),ADU _ _ _ (by omega)]
 congr 1
 simp[numBits]
 rw[show s - 1 - (s - (m+1))=m by omega,Nat.testBit]
 have h3:n / 2 ^ m % 2 < 2:=Nat.mod_lt _ (by omega)
 rw[Nat.shiftRight_eq_div_pow]
 by_cases h1:n / 2 ^ m % 2=1
 ·simp[h1]
 ·have:n / 2 ^ m % 2=0:=by omega
  simp[this]
set_option maxRecDepth 100000 in
set_option maxHeartbeats 800000 in
theorem SH (base p n size:Nat) (l:List Bool) (w:World) (h:CZ w base p l) (hn:n < 9223372036854775808) (hs:size≤62) (hl:l.length+size≤1099511627776) :
  Calls Tryz.prog 195 #[.pointer (some ⟨p,0,none⟩),.int .i64 (n:Int),.int .i64 (size:Int)] w fun e w'=>e=.returned (.tuple #[])∧CZ w' base p (l++hi size n)∧AJ base Gi w w':=by
 have H:=Lib.hid h
 clear h
 go_enter Tryz.func195,Tryz.ntmps195
 go_wp2_with fail
 go_loopw [6] (fun i wr=>∃ (m:Nat) (x:Int),m≤size∧x=(m:Int) - 1∧i=.int .i64 x∧CZ wr base p (l++(hi size n).take (size - m))∧AJ base Gi w wr) (fun i _=>(intOf i+1).toNat)
 case atStart=>exact⟨size,_,Nat.le_refl _,rfl,rfl,by simpa using H.out,AJ.refl _ _ _⟩
 case round=>
  obtain⟨m,x,hm,hx,rfl,hrow,hk⟩:=hrel
  have G7:=Lib.hid hrow
  have Hk:=Lib.hid hk
  clear hrow hk
  rcases m with _ | m
  ·have hx0:x < 0:=by omega
   clear hx
   have Hf:Hid ((hi size n).take (size - 0)=hi size n):=Lib.hid (List.take_of_length_le (by rw[Df];omega))
   rw[Hf.out]at G7
   go_wp2_with fail
   go_end0
   exact⟨rfl,G7.out,Hk.out⟩
  ·obtain rfl:x=(m:Int):=by omega
   clear hx
   have hnd:n / 2 ^ m < 9223372036854775808:=Nat.lt_of_le_of_lt (Nat.div_le_self _ _) hn
   have hput:=CW base p (n / 2 ^ m) 1 _ wr G7.out hnd (by omega) (by rw[List.length_append,List.length_take,Df];omega)
   have Cy:=Lib.hid (AAS size n m hm)
   rw[List.append_assoc,←Cy.out]at hput
   have hdd:(n:Int) / 2 ^ m=((n / 2 ^ m:Nat):Int):=by simp
   have AJ9:=Lib.hid hput
   clear hput
   generalize n / 2 ^ m=d at *
   go_wp2_with fail
   refine (AJ9.out).mono ?_
   rintro e w1 ⟨rfl,hr1,hk1⟩
   have Hr1:=Lib.hid hr1
   have Hk1:=Lib.hid (Hk.out.trans hk1)
   clear hr1 hk1
   go_wp2_with fail
   go_roundw
   case rel=>exact⟨m,_,by omega,rfl,rfl,Hr1.out,Hk1.out⟩
   case measure=>simp[intOf]
theorem dL (A:Option Addr) (n c:Nat) (zs:List Int) (w:World) (hn:zs.length=n) (hx:n≤maxLen) (hA:Lv w A zs) :
  Calls Tryz.prog 194 #[.slice A n c] w fun e w'=>(GK zs≠0∧e=.returned (.tuple #[.slice none 0 0,.int .i64 (GK zs)])∨
   GK zs=0∧∃ g,e=.returned (.tuple #[.slice (some ⟨g,0,none⟩) n n,.int .i64 0])∧w.heap.size≤g∧AV w' g 3 (ED (I8 (BC zs))))∧Below w.heap.size w w':=by
 have Hc:=Lib.hid (F7 A n c zs w hn hx hA)
 have Hd:Hid (GK zs=0→_):=Lib.hid (mG A n c zs w hn hA)
 clear hn hx hA
 go_enter Tryz.func194,Tryz.ntmps194
 go_wp2_with fail
 refine (Hc.out).mono ?_
 rintro e w1 ⟨rfl,rfl⟩
 by_cases h0:GK zs=0
 ·have Hdd:=Lib.hid (Hd.out h0)
  rw[h0]
  have H0:=Lib.hid h0
  clear h0
  go_wp2_with fail
  refine (Hdd.out).mono ?_
  rintro e w2 ⟨⟨g,rfl,hg,hb⟩,hbw⟩
  have Hb:=Lib.hid hb
  have rD:=Lib.hid hbw
  clear hb hbw
  go_wp2_with fail
  go_ret2
  exact⟨.inr ⟨H0.out,g,rfl,hg,Hb.out⟩,rD.out⟩
 ·have H0:=Lib.hid h0
  generalize hz:GK zs=z at *
  have Hz:=Lib.hid hz
  clear hz
  have h1:(z == 0)=false:=by simpa using h0
  go_wp2_with fail
  go_ret2
  exact⟨.inl ⟨by rw[Hz.out];exact h0,by rw[Hz.out];rfl⟩,Below.refl _ _⟩
end Go.Proofs.YtabdianhoabhhaaGreatDoor.Code
