/- texts joined: WeighRow WeighBd WeighBest RtBits RtLens WeighLen Row0 Src CodeTable CodeNext Row CodeCodes0 CodeRow. -/
import Derived.Test.YtabdianhoabhhaaGreatDoorSbQ2
import Derived.Test.YtabdianhoabhhaaGreatDoorSbQ1
import Derived.StillTailTactics
import Derived.Deep.CutRange
import Derived.Deep.RegionLaw
import Derived.Test.YtabdianhoabhhaaGreatDoorProg
import Derived.WalkSpells
import Derived.Deep.QuietTactic
import Derived.BigQuiet
namespace Go.Proofs.YtabdianhoabhhaaGreatDoor.Cv
open Go Go.RowKit Go.Proofs.YtabdianhoabhhaaGreatDoor Go.Proofs.YtabdianhoabhhaaGreatDoor.SP
set_option linter.unusedVariables false
def f2 (e:El):Pk:=(e.1,e.2.2)
def CU (w:World) (base m:Nat) (e:El):Prop:=∃ g cap,e.2.1=(some ⟨g,0,none⟩,m,cap)∧w.ownsRow base 3 1 (.slice (some ⟨g,0,none⟩) m cap) m (e.2.2.map nv)
theorem CU.below {w w':World} {base m:Nat} {e:El} (h:CU w base m e) (hb:Below w.heap.size w w'):CU w' base m e:=by
 obtain⟨g,cap,h1,h2⟩:=h
 exact⟨g,cap,h1,AP h2 hb⟩
theorem CU.base {w:World} {base base' m:Nat} {e:El} (h:CU w base m e) (hb:base'≤base):CU w base' m e:=by
 obtain⟨g,cap,h1,h2⟩:=h
 exact⟨g,cap,h1,Ai h2 hb⟩
theorem WS {w w':World} {base size n g:Nat} {el t:TypeId} {v:Value} {xs:List Value} {cs:Array Value} (h:w.ownsRow base el size v n xs) (hg:w.grownBy w' (some g)) (hb:AX w g t cs) (hne:el≠t):w'.ownsRow base el size v n xs:=by
 refine⟨h.1,?_⟩
 have h0:=own_ne h hb hne
 rcases h.2 with h1 | ⟨g',cap,cur,rfl,hbg,hgb,r⟩
 ·exact .inl h1
 ·refine .inr ⟨g',cap,cur,rfl,hbg,?_,r⟩
  have hne2:g'≠g:=by simpa [Value.ownBlock] using h0
  rw[hg.block g' (lt_of_block hgb) (by intro e;injection e with e;exact hne2 e)];exact hgb
theorem LC {w w':World} {b1 b2 s1 s2 n1 n2:Nat} {el t:TypeId} {v1 v2:Value} {x1 x2:List Value} (h:w.ownsRow b1 el s1 v1 n1 x1) (ho:w.ownsRow b2 t s2 v2 n2 x2) (hg:w.grownBy w' v2.ownBlock) (hne:el≠t):w'.ownsRow b1 el s1 v1 n1 x1:=by
 rcases ho.2 with ⟨rfl,_⟩ | ⟨g,cap,cur,rfl,_,hgb,_⟩
 ·refine⟨h.1,?_⟩
  rcases h.2 with h1 | ⟨g',cap,cur,rfl,hbg,hgb,r⟩
  ·exact .inl h1
  ·refine .inr ⟨g',cap,cur,rfl,hbg,?_,r⟩
   rw[hg.block g' (lt_of_block hgb) (by simp[Value.ownBlock])];exact hgb
 ·exact WS h hg hgb hne
theorem CU.QY {w w':World} {base m b2 s2 n2:Nat} {e:El} {v2:Value} {x2:List Value} (h:CU w base m e) (ho:w.ownsRow b2 292 s2 v2 n2 x2) (hg:w.grownBy w' v2.ownBlock):CU w' base m e:=by
 obtain⟨g',cap,h1,h2⟩:=h
 exact⟨g',cap,h1,LC h2 ho hg (by decide)⟩
theorem CU.grown {w w':World} {base m g:Nat} {e:El} {cs:Array Value} (h:CU w base m e) (hg:w.grownBy w' (some g)) (hb:AX w g 292 cs):CU w' base m e:=by
 obtain⟨g',cap,h1,h2⟩:=h
 exact⟨g',cap,h1,WS h2 hg hb (by decide)⟩
theorem CU.Ca {w:World} {base m:Nat} {e:El} (h:CU w base m e) (p:Addr) (hp:p.block < base) (u:Value):CU (w.setCell p u) base m e:=by
 obtain⟨g,cap,h1,h2⟩:=h
 refine⟨g,cap,h1,ownsRow_setCell_other h2 ?_ u⟩
 have:=(h2.lt g rfl).1
 simp[Value.ownBlock];omega
theorem CU.len {w:World} {base m:Nat} {e:El} (h:CU w base m e):e.2.2.length=m:=by
 obtain⟨g,cap,h1,h2⟩:=h
 have:=h2.1;simpa using this
theorem CU.val {w:World} {base m:Nat} {e:El} (h:CU w base m e):∃ g cap,Cj e.2.1=.slice (some ⟨g,0,none⟩) m cap∧AR w (some ⟨g,0,none⟩) (e.2.2.map nv):=by
 obtain⟨g,cap,h1,h2⟩:=h
 obtain⟨A,c,h3,_,_,h4,_⟩:=Ag h2
 injection h3 with h3
 subst h3
 exact⟨g,cap,by rw[h1];rfl,h4⟩
theorem E8 (es:List El):(es.flatMap CO).length=es.length*2:=by
 induction es with
 | nil=>rfl
 | cons a d ih=>rw[List.flatMap_cons,List.length_append,ih];simp[CO];omega
theorem OO (es:List El):∀ u∈es.flatMap CO,u.oneCell'=true:=by
 intro u hu
 obtain⟨e,_,he⟩:=List.mem_flatMap.1 hu
 simp[CO]at he
 rcases he with rfl | rfl <;> rfl
theorem ABd {w:World} {base g n cap:Nat} {es:List El} (h:w.ownsRow base 292 2 (.slice (some ⟨g,0,none⟩) n cap) n (es.flatMap CO)) :
  ∃ rest,Q7 w g rest es∧es.length=n∧n*2+rest.length=cap*2∧base≤g∧n≤cap∧cap≤maxLen:=by
 have hl:=h.1
 rw[E8]at hl
 rcases h.2 with ⟨h1,_⟩ | ⟨g',cap',cur,hv,hbg,hgb,hnc,hcm,hcs,htk⟩
 ·cases h1
 ·injection hv with h1 h2 h3
  injection h1 with h1
  injection h1 with h1
  subst h1 h3
  refine⟨cur.toList.drop (n*2),?_,by omega,?_,hbg,hnc,hcm⟩
  ·unfold Q7
   rw[←htk,List.take_append_drop]
   exact hgb
  ·rw[List.length_drop,Array.length_toList,hcs];omega
theorem ABe {w:World} {base g n cap:Nat} {rest:List Value} {es:List El} (h:Q7 w g rest es) (hl:es.length=n) (hr:n*2+rest.length=cap*2) (hb:base≤g) (hn:n≤cap) (hc:cap≤maxLen) :
  w.ownsRow base 292 2 (.slice (some ⟨g,0,none⟩) n cap) n (es.flatMap CO):=by
 refine⟨by rw[E8,hl],.inr ⟨g,cap,_,rfl,hb,h,hn,hc,?_,?_⟩⟩
 ·rw[List.size_toArray,List.length_append,E8,hl,hr]
 ·rw[List.toList_toArray,List.take_append_of_le_length (by rw[E8,hl];exact Nat.le_refl _),List.take_of_length_le (by rw[E8,hl];exact Nat.le_refl _)]
set_option maxHeartbeats 800000 in
theorem UW (base g n cap:Nat) (es:List El) (w:World) (h:w.ownsRow base 292 2 (.slice (some ⟨g,0,none⟩) n cap) n (es.flatMap CO)) (hN:n≤1000000) (hk:∀ e∈es,e.1≤1152921504606846976) :
  Calls Tryz.prog 225 #[.slice (some ⟨g,0,none⟩) n cap] w fun e w'=>e=.returned (.slice (some ⟨g,0,none⟩) n cap)∧w'.ownsRow base 292 2 (.slice (some ⟨g,0,none⟩) n cap) n ((CR CQ es).flatMap CO)∧w.grownBy w' (some g):=by
 obtain⟨rest,h1,h2,h3,h4,h5,h6⟩:=ABd h
 have Hc:=Lib.hid (UG g n cap rest es w h1 h2 hN hk)
 have Hx:=Lib.hid (And.intro h2 (And.intro h3 (And.intro h4 (And.intro h5 h6))))
 clear h h1 h2 h3 h4 h5 h6 hk
 unfold PL at Hc
 go_enter Tryz.func225,Tryz.ntmps225
 go_wp2_with fail
 refine (Hc.out).mono ?_
 rintro e w2 ⟨rfl,hp,hg⟩
 have Hp:=Lib.hid hp
 have Hg:=Lib.hid hg
 clear hp hg
 go_wp2_with fail
 go_ret
 exact⟨rfl,ABe Hp.out (by rw[EW];exact Hx.out.1) Hx.out.2.1 Hx.out.2.2.1 Hx.out.2.2.2.1 Hx.out.2.2.2.2,Hg.out⟩
def UU (ls:List Nat) (k:Nat):List Pk:=(((List.range k).filter fun i=>decide (0 < ls.getD i 0)).map fun i=>(ls.getD i 0,unit ls.length i))
theorem pR (ls:List Nat):UU ls ls.length=ones ls:=rfl
theorem gD (ls:List Nat) (k:Nat):UU ls (k+1)=UU ls k++if 0 < ls.getD k 0 then [(ls.getD k 0,unit ls.length k)] else []:=by
 unfold UU
 rw[List.range_succ,List.filter_append,List.map_append]
 congr 1
 by_cases h:0 < ls.getD k 0
 ·rw[if_pos h,List.filter_cons_of_pos (by simpa using h)];rfl
 ·rw[if_neg h,List.filter_cons_of_neg (by simpa using h)];rfl
theorem yA (n i:Nat):(List.replicate n 0).set i 1=unit n i:=by
 apply List.ext_getElem
 ·simp[unit]
 ·intro j h1 h2
  simp[unit,List.getElem_set]
  by_cases hx:i=j
  ·simp[hx]
  ·rw[if_neg hx,if_neg (fun e=>hx e.symm)]
end Go.Proofs.YtabdianhoabhhaaGreatDoor.Cv
namespace Go.Proofs.YtabdianhoabhhaaGreatDoor.Cv
open Go Go.RowKit Go.Proofs.YtabdianhoabhhaaGreatDoor Go.Proofs.YtabdianhoabhhaaGreatDoor.SP
set_option linter.unusedVariables false
theorem KN {P:Program} {ops:Array Oper} {o:Oper} {a:Act} {w:World} {K:Act→World→Prop} {Q:Exit→Act→World→Prop} {E:Prop} (hgd:o.guard=none) (s x:Operand) (t:TypeId)
  (hop:o.op=.call { callee:=.builtin .append,args:=#[s,x],argTypes:=#[t,t] })
  (base:Nat) (e:TypeId) (z:Value) (size bytes:Nat) (hT:Bo P t e z size bytes)
  (v:Value) (n:Nat) (xs:List Value) (hs:a.eval s=v) (hown:w.ownsRow base e size v n xs)
  (A:Option Addr) (m c:Nat) (news:List Value) (hx:a.eval x=.slice A m c) (hl:news.length=m*size) (hr:AR w A news) (h1:∀ u∈news,u.oneCell'=true)
  (hA:A=none→m=0) (h63:n+m≤maxLen) (hbytes:(n+m)*bytes≤140737488355328) (hbase:base≤w.heap.size)
  (hK:∀ v' w',w'.ownsRow base e size v' (n+m) (xs++news)→w.grownBy w' v.ownBlock→K (a.put o.dst v') w') :
  if Region.wanted o (yielded ops a.tmps)=true then Oper.wp P o a w K Q else E:=by
 have hw:Region.wanted o (yielded ops a.tmps)=true:=by simp[Region.wanted,hgd]
 rw[if_pos hw]
 obtain⟨v',w',hrun,h2,h3,h4⟩:=GI (P:=P) w base t o.type e z size bytes hT v n xs hown A m c news hl hr h1 hA h63 hbytes hbase
 unfold Oper.wp
 simp[execOp,hop,resolve,invoke,builtin,hs,hx,hrun,Result.andThen]
 exact hK v' w' h2 h3
theorem ABV {w w':World} {base el size n m c g:Nat} {xs:List Value} {B:Nat} (h:w.ownsRow base el size (.slice (some ⟨g,0,none⟩) m c) n xs) (hb:Below B w w') (hg:g < B):w'.ownsRow base el size (.slice (some ⟨g,0,none⟩) m c) n xs:=by
 refine⟨h.1,?_⟩
 rcases h.2 with h1 | ⟨g',cap,cur,hv,hbg,hgb,r⟩
 ·exact .inl h1
 ·refine .inr ⟨g',cap,cur,hv,hbg,?_,r⟩
  have:g'=g:=by injection hv with hv;injection hv with hv;injection hv with hv;exact hv.symm
  subst this
  rw[hb.block g' hg];exact hgb
def pF (t:Nat) (p:Pk):Prop:=p.1≤1000000*2 ^ t∧∀ x∈p.2,x≤2 ^ t
theorem pF.up {t:Nat} {p:Pk} (h:pF t p):pF (t+1) p:=by
 obtain⟨h1,h2⟩:=h
 refine⟨by rw[Nat.pow_succ];omega,fun x hx=>?_⟩
 have:=h2 x hx
 rw[Nat.pow_succ];omega
theorem jl (a b:List Nat) (x:Nat) (h:x∈List.zipWith (·+·) a b):∃ y∈a,∃ z∈b,x=y+z:=by
 induction a generalizing b with
 | nil=>simp at h
 | cons c a ih=>
  cases b with
  | nil=>simp at h
  | cons d b=>
   rw[List.zipWith_cons_cons,List.mem_cons]at h
   rcases h with h | h
   ·exact⟨c,by simp,d,by simp,h⟩
   ·obtain⟨y,hy,z,hz,e⟩:=ih b h
    exact⟨y,by simp[hy],z,by simp[hz],e⟩
theorem pF.both {t:Nat} {p q:Pk} (h:pF t p) (k:pF t q):pF (t+1) (both p q):=by
 obtain⟨h1,h2⟩:=h
 obtain⟨k1,k2⟩:=k
 refine⟨by show p.1+q.1≤_;rw[Nat.pow_succ];omega,fun x hx=>?_⟩
 obtain⟨y,hy,z,hz,rfl⟩:=jl _ _ _ hx
 have:=h2 y hy
 have:=k2 z hz
 rw[Nat.pow_succ];omega
theorem pG (l:List Pk) (a b:Pk) (j:Nat) (h:l.length=2*j):pairs (l++[a,b])=pairs l++[both a b]:=by
 induction j generalizing l with
 | zero=>
  have:l=[]:=List.eq_nil_of_length_eq_zero (by omega)
  subst this;rfl
 | succ j ih=>
  rcases l with _ | ⟨x,_ | ⟨y,l⟩⟩
  ·simp at h
  ·simp at h;omega
  ·simp only[List.cons_append,pairs]
   rw[ih l (by simp at h;omega)]
theorem pI (l:List Pk) (j:Nat) (h1:l.length≤2*j+1) (h2:2*j≤l.length):pairs (l.take (2*j))=pairs l:=by
 induction j generalizing l with
 | zero=>
  rcases l with _ | ⟨x,_ | ⟨y,l⟩⟩
  ·rfl
  ·rfl
  ·simp at h1
 | succ j ih=>
  rcases l with _ | ⟨x,_ | ⟨y,l⟩⟩
  ·simp at h2
  ·simp at h2;omega
  ·have e:2*(j+1)=2*j+1+1:=by omega
   rw[e,List.take_succ_cons,List.take_succ_cons]
   simp only[pairs]
   rw[ih l (by simp at h1;omega) (by simp at h2;omega)]
theorem pJ (l:List Pk) (p:Pk) (h:p∈pairs l):∃ a∈l,∃ b∈l,p=both a b:=by
 have:∀ n,∀ l:List Pk,l.length≤n→p∈pairs l→∃ a∈l,∃ b∈l,p=both a b:=by
  intro n
  induction n with
  | zero=>intro l hl hp;rw[List.eq_nil_of_length_eq_zero (by omega:l.length=0)]at hp;simp[pairs]at hp
  | succ n ih=>
   intro l hl hp
   rcases l with _ | ⟨x,_ | ⟨y,l⟩⟩
   ·simp[pairs]at hp
   ·simp[pairs]at hp
   ·simp only[pairs,List.mem_cons]at hp
    rcases hp with hp | hp
    ·exact⟨x,by simp,y,by simp,hp⟩
    ·obtain⟨a,ha,b,hb,e⟩:=ih l (by simp at hl;omega) hp
     exact⟨a,by simp[ha],b,by simp[hb],e⟩
 exact this _ l (Nat.le_refl _) h
theorem Ry (one:List Pk) (h:∀ p∈one,pF 0 p) (t:Nat):∀ p∈BS one t,pF t p:=by
 induction t with
 | zero=>exact h
 | succ t ih=>
  intro p hp
  have h1:=(Ct BZ _).mem_iff.1 hp
  rcases List.mem_append.1 h1 with h2 | h2
  ·have:∀ s,pF s p:=fun s=>by
    induction s with
    | zero=>exact h p h2
    | succ s ih=>exact ih.up
   exact this _
  ·obtain⟨a,ha,b,hb,rfl⟩:=pJ _ p h2
   exact (ih a ha).both (ih b hb)
theorem jq (ls:List Nat) (h:∀ x∈ls,x≤1000000):∀ p∈CR BZ (ones ls),pF 0 p:=by
 intro p hp
 have h1:=(Ct BZ _).mem_iff.1 hp
 unfold ones at h1
 obtain⟨i,hi,rfl⟩:=List.mem_map.1 h1
 refine⟨?_,fun x hx=>?_⟩
 ·show ls.getD i 0≤_
  rw[List.getD_eq_getElem?_getD]
  by_cases hl:i < ls.length
  ·rw[List.getElem?_eq_getElem hl]
   have:=h _ (List.getElem_mem hl)
   simp;omega
  ·rw[List.getElem?_eq_none (by omega)];simp
 ·simp[unit]at hx
  obtain⟨j,_,rfl⟩:=hx
  split <;> simp
theorem UK {t:Nat} {e:El} (h:pF t (f2 e)) (ht:t≤15):e.1≤40000000000∧∀ x∈e.2.2,x≤40000:=by
 have h2:(2:Nat) ^ t≤2 ^ 15:=Nat.pow_le_pow_right (by omega) ht
 refine⟨?_,fun x hx=>?_⟩
 ·have:=h.1
  show (f2 e).1≤_
  omega
 ·have:=h.2 x hx
  omega
theorem PO (es:List El) (k:Nat) (h:k < es.length):es.flatMap CO=(es.take k).flatMap CO++(nv es[k].1 :: Cj es[k].2.1 :: (es.drop (k+1)).flatMap CO):=by
 have e:es=es.take k++es[k] :: es.drop (k+1):=by rw[←List.drop_eq_getElem_cons h,List.take_append_drop]
 conv=>lhs;rw[e]
 rw[List.flatMap_append,List.flatMap_cons];rfl
theorem UL (es:List El) (k:Nat) (h:k < es.length):(es.flatMap CO)[k*2]?=some (nv es[k].1):=by
 have l:((es.take k).flatMap CO).length=k*2:=by rw[E8,List.length_take];omega
 rw[PO es k h,List.getElem?_append_right (by omega),l]
 simp
theorem UM (es:List El) (k:Nat) (h:k < es.length):(es.flatMap CO)[k*2+1]?=some (Cj es[k].2.1):=by
 have l:((es.take k).flatMap CO).length=k*2:=by rw[E8,List.length_take];omega
 rw[PO es k h,List.getElem?_append_right (by omega),l]
 simp
theorem Mt (n:Nat) (l:List Pk) (p:Pk):Dy n (l++[p])=List.zipWith (·+·) (Dy n l) p.2:=by simp[Dy]
theorem fZ (n:Nat) (l:List Pk) (h:∀ p∈l,p.2.length=n):(Dy n l).length=n:=by
 have:∀ m,∀ l:List Pk,l.length=m→(∀ p∈l,p.2.length=n)→(Dy n l).length=n:=by
  intro m
  induction m with
  | zero=>intro l hl _;rw[List.eq_nil_of_length_eq_zero hl];simp[Dy]
  | succ m ih=>
   intro l hl hp
   have hne:l≠[]:=fun e=>by rw[e]at hl;simp at hl
   rw[←List.dropLast_concat_getLast hne,Mt,List.length_zipWith,ih _ (by simp[hl]) (fun p hp'=>hp p ((List.dropLast_sublist l).subset hp')),hp _ (List.getLast_mem hne)]
   omega
 exact this _ l rfl h
theorem pK (n c:Nat) (l:List Pk) (h:∀ p∈l,∀ x∈p.2,x≤c):∀ x∈Dy n l,x≤c*l.length:=by
 have:∀ m,∀ l:List Pk,l.length=m→(∀ p∈l,∀ x∈p.2,x≤c)→∀ x∈Dy n l,x≤c*l.length:=by
  intro m
  induction m with
  | zero=>intro l hl _ x hx;rw[List.eq_nil_of_length_eq_zero hl]at hx;simp[Dy]at hx;omega
  | succ m ih=>
   intro l hl hp x hx
   have hne:l≠[]:=fun e=>by rw[e]at hl;simp at hl
   rw[←List.dropLast_concat_getLast hne,Mt]at hx
   obtain⟨y,hy,z,hz,rfl⟩:=jl _ _ _ hx
   have h1:=ih l.dropLast (by simp[hl]) (fun p hp'=>hp p ((List.dropLast_sublist l).subset hp')) y hy
   have h2:=hp _ (List.getLast_mem hne) z hz
   rw[List.length_dropLast,hl,Nat.add_sub_cancel]at h1
   rw[hl,Nat.mul_succ];omega
 exact this _ l rfl h
theorem VP (zs:List Int):KT zs=(ones (CS zs)).length:=by
 rw[GU]
 unfold KT used
 have e:CS zs=(List.range (CS zs).length).map (fun i=>(CS zs).getD i 0):=by
  apply List.ext_getElem
  ·simp
  ·intro i h1 h2
   simp[List.getD_eq_getElem?_getD,h1]
 have h:((CS zs).filter (fun x=>decide (0 < x))).length=((List.range (CS zs).length).filter fun i=>decide (0 < (CS zs).getD i 0)).length:=by
  conv=>lhs;rw[e]
  rw[List.filter_map,List.length_map];rfl
 rw[←h]
 unfold CS
 rw[List.filter_map,List.length_map]
 congr 1
 apply List.filter_congr
 intro x _
 simp[Function.comp]
theorem Kg (ls:List Nat):(ones ls).length≤ls.length:=by
 rw[GU]
 unfold used
 have:=List.length_filter_le (fun i=>decide (0 < ls.getD i 0)) (List.range ls.length)
 rwa [List.length_range]at this
end Go.Proofs.YtabdianhoabhhaaGreatDoor.Cv
namespace Go.Proofs.YtabdianhoabhhaaGreatDoor.SP
set_option linter.unusedVariables false
def JM (ps:List (Nat×Nat)) (L:Nat):Prop:=(∀ p∈ps,0 < p.1→1≤p.2∧p.2≤L)∧(ps.map fun p=>if 0 < p.1 then 2 ^ (L - p.2) else 0).sum≤2 ^ L
def IY (ps:List (Nat×Nat)):Nat:=(ps.map fun p=>p.1*p.2).sum
theorem WK {β:Type} (g:Nat×Nat→β) (ls ms:List Nat) (h:ms.length=ls.length):(ls.zip ms).map g=(List.range ls.length).map fun i=>g (ls.getD i 0,ms.getD i 0):=by
 apply List.ext_getElem
 ·simp[h]
 ·intro i h1 h2
  simp at h1 h2
  simp[List.getD_eq_getElem?_getD,h2,h]
theorem JN (ls ms:List Nat) (h:ms.length=ls.length):IY (ls.zip ms)=cost ls ms:=by
 unfold IY cost
 rw[WK _ ls ms h]
theorem QW (ls ms:List Nat):cost ls ms=((used ls).map fun i=>ls.getD i 0*ms.getD i 0).sum:=UN ls _ (fun i _ h=>by rw[h];simp)
theorem V9 (ls ms:List Nat) (f:Nat→Nat) (h:ms.length=ls.length):((ls.zip ms).map fun p=>if 0 < p.1 then f p.2 else 0).sum=((used ls).map fun i=>f (ms.getD i 0)).sum:=by
 rw[WK _ ls ms h,UN ls _ (fun i _ h=>by show (if 0 < ls.getD i 0 then _ else 0)=0;rw[h];rfl)]
 congr 1
 apply List.map_congr_left
 intro i hi
 have:=(DJ ls i).1 hi
 rw[if_pos this.2]
theorem Qz (ls ms:List Nat) (h:ms.length=ls.length) (p:Nat×Nat) (hp:p∈ls.zip ms):∃ i,i < ls.length∧p=(ls.getD i 0,ms.getD i 0):=by
 obtain⟨i,hi,rfl⟩:=List.mem_iff_getElem.1 hp
 rw[List.length_zip]at hi
 have h1:i < ls.length:=by omega
 have h2:i < ms.length:=by omega
 exact⟨i,h1,by simp[List.getD_eq_getElem?_getD,h1,h2]⟩
theorem aF (ls ms:List Nat) (h:ms.length=ls.length) (i:Nat) (hi:i < ls.length):(ls.getD i 0,ms.getD i 0)∈ls.zip ms:=by
 rw[List.mem_iff_getElem]
 have h2:i < ms.length:=by omega
 exact⟨i,by rw[List.length_zip];omega,by simp[List.getD_eq_getElem?_getD,hi,h2]⟩
theorem IG (ls ms:List Nat) (L:Nat) (h:ms.length=ls.length):JM (ls.zip ms) L↔(∀ i∈used ls,1≤ms.getD i 0∧ms.getD i 0≤L)∧((used ls).map fun i=>2 ^ (L - ms.getD i 0)).sum≤2 ^ L:=by
 unfold JM
 rw[V9 ls ms (fun x=>2 ^ (L - x)) h]
 constructor
 ·rintro⟨h1,h2⟩
  refine⟨fun i hi=>?_,h2⟩
  have:=(DJ ls i).1 hi
  exact h1 _ (aF ls ms h i this.1) this.2
 ·rintro⟨h1,h2⟩
  refine⟨fun p hp h0=>?_,h2⟩
  obtain⟨i,hi,rfl⟩:=Qz ls ms h p hp
  exact h1 i ((DJ ls i).2 ⟨hi,h0⟩)
theorem BC (ls:List Nat) (L:Nat) (hL:1≤L) (hn:(ones ls).length≤2 ^ L):(AV ls L).length=ls.length∧JM (ls.zip (AV ls L)) L∧(∀ x∈AV ls L,x≤L)∧
  ∀ ms:List Nat,ms.length=ls.length→JM (ls.zip ms) L→IY (ls.zip (AV ls L))≤IY (ls.zip ms):=by
 by_cases h2:2≤(ones ls).length
 ·obtain⟨h3,h4,h5,_⟩:=K6 ls L hL h2 hn
  refine⟨h3,(IG ls _ L h3).2 ⟨fun i hi=>?_,Nat.le_of_eq h5⟩,fun x hx=>?_,fun ms hm hv=>?_⟩
  ·have hu:=(DJ ls i).1 hi
   have:=h4 i hu.1
   refine⟨?_,this.2⟩
   rcases Nat.eq_zero_or_pos ((AV ls L).getD i 0) with h | h
   ·have:=this.1.1 h;omega
   ·exact h
  ·obtain⟨i,hi,rfl⟩:=List.mem_iff_getElem.1 hx
   have:=(h4 i (by omega)).2
   simpa [List.getD_eq_getElem?_getD,hi] using this
  ·rw[JN _ _ h3,JN _ _ hm]
   obtain⟨v1,v2⟩:=(IG ls ms L hm).1 hv
   exact X6 ls ms L hL h2 hn (fun i hi=>(v1 i hi).2) v2
 ·by_cases h0:(ones ls).length=0
  ·have hu:used ls=[]:=List.eq_nil_of_length_eq_zero (by rw[←GU];exact h0)
   have hl:AV ls L=List.replicate ls.length 0:=by unfold AV;rw[if_pos h0]
   have h3:(AV ls L).length=ls.length:=by rw[hl];simp
   refine⟨h3,(IG ls _ L h3).2 ⟨by rw[hu];simp,by rw[hu];simp⟩,fun x hx=>?_,fun ms hm hv=>?_⟩
   ·rw[hl]at hx
    have:=(List.mem_replicate.1 hx).2
    omega
   ·rw[JN _ _ h3,QW,hu];simp
  ·have h1:(ones ls).length=1:=by omega
   have wu:(used ls).length=1:=by rw[←GU];exact h1
   obtain⟨i,hu⟩:=List.length_eq_one_iff.1 wu
   have him:=(DJ ls i).1 (by rw[hu];simp)
   have hl:AV ls L=unit ls.length i:=by
    unfold AV
    rw[if_neg h0,if_pos h1]
    unfold ones
    rw[hu];rfl
   have h3:(AV ls L).length=ls.length:=by rw[hl,PQ]
   have hg:(AV ls L).getD i 0=1:=by rw[hl,KO _ _ _ him.1,if_pos rfl]
   refine⟨h3,(IG ls _ L h3).2 ⟨?_,?_⟩,fun x hx=>?_,fun ms hm hv=>?_⟩
   ·rw[hu];intro j hj;simp at hj;subst hj;rw[hg];omega
   ·rw[hu]
    simp only[List.map_cons,List.map_nil,List.sum_cons,List.sum_nil,Nat.add_zero,hg]
    exact Nat.pow_le_pow_right (by omega) (by omega)
   ·rw[hl]at hx
    obtain⟨j,hj,rfl⟩:=List.mem_iff_getElem.1 hx
    have:(unit ls.length i).getD j 0≤1:=by rw[KO _ _ _ (by simpa [unit] using hj)];split <;> omega
    rw[List.getD_eq_getElem?_getD,List.getElem?_eq_getElem hj]at this
    simp at this;omega
   ·rw[JN _ _ h3,JN _ _ hm,QW,QW,hu]
    simp only[List.map_cons,List.map_nil,List.sum_cons,List.sum_nil,Nat.add_zero,hg]
    have hv1:=((IG ls ms L hm).1 hv).1 i (by rw[hu];simp)
    exact Nat.mul_le_mul_left _ hv1.1
end Go.Proofs.YtabdianhoabhhaaGreatDoor.SP
namespace Go.Proofs.YtabdianhoabhhaaGreatDoor.Rt
open Go.Proofs.YtabdianhoabhhaaGreatDoor.Bits Go.Proofs.YtabdianhoabhhaaGreatDoor.Code Go.Proofs.YtabdianhoabhhaaGreatDoor.Match Go.Proofs.YtabdianhoabhhaaGreatDoor.SP Go.Proofs.YtabdianhoabhhaaGreatDoor.Inf Go.Proofs.YtabdianhoabhhaaGreatDoor.AX
set_option linter.unusedVariables false
theorem thn {α β:Type} (a:α) (f:α→Inf.Rd β):(Inf.Rd.ok a).Ad f=f a:=rfl
def Has (row:List Bool) (p:Nat) (bs:List Bool):Prop:=p≤row.length∧∃ t,row.drop p=bs++t
section
variable {row a b bs:List Bool} {p:Nat}
theorem Has.le (h:Has row p bs):p+bs.length≤row.length:=by
 obtain⟨h1,t,h2⟩:=h
 have:=congrArg List.length h2
 rw[List.length_drop,List.length_append]at this;omega
theorem Has.left (h:Has row p (a++b)):Has row p a:=by
 obtain⟨h1,t,h2⟩:=h
 exact⟨h1,b++t,by rw[h2,List.append_assoc]⟩
theorem Has.right (h:Has row p (a++b)):Has row (p+a.length) b:=by
 have hl:=h.le
 obtain⟨h1,t,h2⟩:=h
 rw[List.length_append]at hl
 exact⟨by omega,t,by rw[←List.drop_drop,h2,List.append_assoc,List.drop_left]⟩
theorem EI {n k:Nat} (h:Has row p (numBits n k)) (hn:n < 2 ^ k):CF row p k=.ok (n,p+k):=by
 have hl:=h.le
 rw[AJ]at hl
 unfold CF
 rw[if_pos hl]
 obtain⟨_,t,h2⟩:=h
 rw[h2,List.take_append_of_le_length (by rw[AJ];exact Nat.le_refl _),List.take_of_length_le (by rw[AJ];exact Nat.le_refl _),Qj,Nat.mod_eq_of_lt hn]
structure Cd (ls:List Nat):Prop where
 le:∀ x∈ls,x≤15
 room:room ls≤32768
theorem getD_lt {ls:List Nat} {i:Nat} (h:ls.getD i 0≠0):i < ls.length:=by
 rcases Nat.lt_or_ge i ls.length with h1 | h1
 ·exact h1
 ·rw[List.getD_eq_getElem?_getD,List.getElem?_eq_none h1]at h;exact absurd rfl h
theorem Cd.bits {ls:List Nat} (hc:Cd ls) {i:Nat}:ls.getD i 0≤15:=by
 rw[List.getD_eq_getElem?_getD]
 rcases Nat.lt_or_ge i ls.length with h1 | h1
 ·rw[List.getElem?_eq_getElem h1];exact hc.le _ (List.getElem_mem h1)
 ·rw[List.getElem?_eq_none h1];exact Nat.zero_le _
theorem PE {ls:List Nat} {i:Nat} (hc:Cd ls) (h:Has row p (ER ls i)) (h0:ls.getD i 0≠0):IP row ls p=.ok (i,p+ls.getD i 0):=by
 obtain⟨_,t,h2⟩:=h
 have hn:=Ve ls i t (getD_lt h0) h0 hc.le hc.room
 unfold ER at h2
 unfold IP
 rw[h2,hn];rfl
theorem Bv (ls:List Nat) (i:Nat):(ER ls i).length=ls.getD i 0:=Df _ _
end
theorem PG (x:UInt8):UInt8.ofNat x.toNat=x:=by apply UInt8.toNat_inj.1;simp
theorem Xt {out:List UInt8} (x:UInt8) (h:out.length < 3000):Ef out x=.ok (out++[x]):=by
 unfold Ef;rw[if_neg (by omega)]
theorem jU {row:List Bool}:∀ (b:List UInt8) (p:Nat) (out:List UInt8),Has row p (AO b)→out.length+b.length≤3000→Ie row b.length p out=.ok (p+8*b.length,out++b)
 | [],p,out,h,hl=>by simp[Ie]
 | x :: b,p,out,h,hl=>by
  rw[List.length_cons]at hl
  rw[R8]at h
  have h1:=h.left
  have h2:=h.right
  rw[Cz]at h2
  have e:CF row p 8=.ok (x.toNat,p+8):=EI h1 x.toNat_lt
  show (CF row p 8).Ad _=_
  rw[e,thn]
  dsimp only
  rw[PG,Xt x (by omega),thn,jU b (p+8) (out++[x]) h2 (by simp;omega),List.append_assoc]
  congr 2
  rw[List.length_cons];omega
theorem Tg (l:List (Nat×Nat)) (n:Nat):∀ K j,Lh l n K < j→j < K→n < (l.getD j (0,0)).1
 | 0,j,_,h=>absurd h (by omega)
 | K+1,j,h,hj=>by
  unfold Lh at h
  split at h
  ·omega
  ·rename_i hn
   by_cases e:j=K
   ·subst e;omega
   ·exact Tg l n K j h (by omega)
theorem eY:∀ k < 28,(BG.getD (k+1) (0,0)).1≤(BG.getD k (0,0)).1+2 ^ (BG.getD k (0,0)).2:=by decide
theorem ni:∀ k < 29,(Bp.getD (k+1) (0,0)).1≤(Bp.getD k (0,0)).1+2 ^ (Bp.getD k (0,0)).2:=by decide
theorem wM (n:Nat) (h1:3≤n) (h2:n≤258):Di BG n < 29∧(BG.getD (Di BG n) (0,0)).1≤n∧n - (BG.getD (Di BG n) (0,0)).1 < 2 ^ (BG.getD (Di BG n) (0,0)).2:=by
 have h3:Di BG n < 29:=Gp BG n (by decide)
 have h4:=RZ BG n (by decide) h1
 have h5:=Tg BG n 29
 have e:Lh BG n 29=Di BG n:=rfl
 rw[e]at h5
 refine⟨h3,h4,?_⟩
 generalize Di BG n=k at *
 by_cases hk:k < 28
 ·have:=h5 (k+1) (by omega) (by omega)
  have:=eY k hk
  omega
 ·obtain rfl:k=28:=by omega
  have e28:BG.getD 28 (0,0)=(258,0):=rfl
  rw[e28]at h4⊢
  dsimp only at h4⊢
  omega
theorem AA3 (n:Nat) (h1:1≤n) (h2:n≤3000):Di Bp n < 30∧(Bp.getD (Di Bp n) (0,0)).1≤n∧n - (Bp.getD (Di Bp n) (0,0)).1 < 2 ^ (Bp.getD (Di Bp n) (0,0)).2:=by
 have h3:Di Bp n < 30:=Gp Bp n (by decide)
 have h4:=RZ Bp n (by decide) h1
 have h5:=Tg Bp n 30
 have e:Lh Bp n 30=Di Bp n:=rfl
 rw[e]at h5
 refine⟨h3,h4,?_⟩
 generalize Di Bp n=k at *
 by_cases hk:k < 29
 ·have:=h5 (k+1) (by omega) (by omega)
  have:=ni k hk
  omega
 ·obtain rfl:k=29:=by omega
  have e29:Bp.getD 29 (0,0)=(24577,13):=rfl
  rw[e29]at h4
  dsimp only at h4
  omega
theorem Vz (d:Nat):∀ (n:Nat) (l:List UInt8),TS d (n+1) l=TS d n (l++[l.getD (l.length - d) 0])
 | 0,l=>rfl
 | n+1,l=>by
  have ih:=Vz d n l
  show TS d (n+1) l++[(TS d (n+1) l).getD ((TS d (n+1) l).length - d) 0]=_
  rw[ih];rfl
theorem jV (d:Nat):∀ (n:Nat) (out:List UInt8),out.length+n≤3000→JD d n out=.ok (TS d n out)
 | 0,out,_=>rfl
 | n+1,out,h=>by
  show (Ef out (out.getD (out.length - d) 0)).Ad _=_
  rw[Xt _ (by omega),thn,jV d n _ (by simp;omega),Vz]
theorem V3 (o:List UInt8) (d:Nat) (h1:1≤d):∀ (n:Nat) (l:List UInt8),d≤l.length→TS d n (o++l)=o++TS d n l
 | 0,l,_=>rfl
 | n+1,l,h=>by
  show TS d n (o++l)++[(TS d n (o++l)).getD ((TS d n (o++l)).length - d) 0]=o++(TS d n l++[(TS d n l).getD ((TS d n l).length - d) 0])
  rw[V3 o d h1 n l h,←List.append_assoc]
  congr 2
  have hl:=JG d n l
  rw[List.getD_eq_getElem?_getD,List.getD_eq_getElem?_getD,List.length_append,List.getElem?_append_right (by omega)]
  congr 2
  omega
theorem V4 (o:List UInt8):∀ (ts:List Tok) (l:List UInt8),(Ce ts (l.length:Int)).1=0→ts.foldl DT (o++l)=o++ts.foldl DT l
 | [],l,_=>rfl
 | t :: ts,l,h=>by
  simp only[Ce]at h
  have ht:(DN (l.length:Int) t).1=0:=by
   by_cases h1:(DN (l.length:Int) t).1=0
   ·exact h1
   ·rw[if_neg h1]at h;exact h
  rw[if_pos ht]at h
  rw[List.foldl_cons,List.foldl_cons]
  have hp:DT (o++l) t=o++DT l t∧(DN (l.length:Int) t).2=((DT l t).length:Int):=by
   unfold DN at ht⊢
   unfold DT
   by_cases h1:t.2.1=0
   ·rw[if_pos h1]at ht⊢
    rw[if_pos h1,if_pos h1]
    by_cases h2:t.2.2≠0
    ·rw[if_pos h2]at ht;simp at ht
    ·rw[if_neg h2];simp
   ·rw[if_neg h1]at ht⊢
    rw[if_neg h1,if_neg h1]
    by_cases h2:t.1≠0
    ·rw[if_pos h2]at ht;simp at ht
    ·rw[if_neg h2]at ht⊢
     by_cases h3:t.2.1 < 3∨258 < t.2.1∨t.2.2 < 1
     ·rw[if_pos h3]at ht;simp at ht
     ·rw[if_neg h3]at ht⊢
      by_cases h4:(l.length:Int) < t.2.2
      ·rw[if_pos h4]at ht;simp at ht
      ·rw[if_neg h4]
       refine⟨V3 o _ (by omega) _ l (by omega),?_⟩
       rw[JG];dsimp only;omega
  rw[hp.1]
  rw[hp.2]at h
  exact V4 o ts (DT l t) h
def Dw (lit far:List Nat) (t:Tok):Prop:=
 if t.2.1=0 then lit.getD t.1.toNat 0≠0 else lit.getD (257+Di BG t.2.1.toNat) 0≠0∧far.getD (Di Bp t.2.2.toNat) 0≠0
theorem AA4 {row:List Bool} {lit far:List Nat} {p:Nat} {out:List UInt8} {t:Tok} (hc:Cd lit) (h:Has row p (GY lit far t)) (h0:t.2.1=0) (hf:Dw lit far t) (hl:out.length < 3000) :
  CP row lit far p out=.ok (false,p+(GY lit far t).length,out++[t.1]):=by
 unfold GY at h⊢
 unfold Dw at hf
 rw[if_pos h0]at h hf⊢
 have hx:=t.1.toNat_lt
 unfold CP
 rw[PE hc h hf,thn,Bv]
 dsimp only
 rw[if_pos (by omega),PG,Xt _ hl,thn]
theorem AA5 {row:List Bool} {lit far:List Nat} {p s f:Nat} {out:List UInt8} {x:UInt8} (hc:Cd lit) (hd:Cd far) (h:Has row p (GY lit far (x,(s:Int),(f:Int)))) (hf:Dw lit far (x,(s:Int),(f:Int)))
  (h1:3≤s) (h2:s≤258) (h3:1≤f) (h4:f≤3000) (h5:f≤out.length) (hl:out.length+s≤3000) :
  CP row lit far p out=.ok (false,p+(GY lit far (x,(s:Int),(f:Int))).length,TS f s out):=by
 have hz:¬ ((x,(s:Int),(f:Int)):Tok).2.1=0:=by dsimp only;omega
 unfold GY at h⊢
 unfold Dw at hf
 rw[if_neg hz]at h hf⊢
 dsimp only at h hf⊢
 simp only[Int.toNat_natCast]at h hf⊢
 obtain⟨k1,k2,k3⟩:=wM s h1 h2
 obtain⟨g1,g2,g3⟩:=AA3 f h3 h4
 have a1:=h.left.left.left
 have a2:=h.left.left.right
 have a3:=h.left.right
 have a4:=h.right
 simp only[List.length_append,AJ,Bv]at a2 a3 a4⊢
 unfold CP
 rw[PE hc a1 hf.1,thn]
 dsimp only
 rw[if_neg (by omega),if_neg (by omega),show 257+Di BG s - 257=Di BG s by omega,if_neg (by omega),EI a2 k3,thn]
 dsimp only
 rw[PE hd (by simp only[Nat.add_assoc]at a3⊢;exact a3) hf.2,thn]
 dsimp only
 rw[if_neg (by omega),EI (by simp only[Nat.add_assoc]at a4⊢;exact a4) g3,thn]
 dsimp only
 rw[show (Bp.getD (Di Bp f) (0,0)).1+(f - (Bp.getD (Di Bp f) (0,0)).1)=f by omega,show (BG.getD (Di BG s) (0,0)).1+(s - (BG.getD (Di BG s) (0,0)).1)=s by omega,if_neg (by omega),jV f s out hl,thn]
 simp only[Nat.add_assoc]
theorem AEO (l:List UInt8) (t:Tok):l.length≤(DT l t).length:=by
 unfold DT
 split
 ·simp
 ·rw[JG];omega
theorem wN:∀ (ts:List Tok) (l:List UInt8),l.length≤(ts.foldl DT l).length
 | [],l=>Nat.le_refl _
 | t :: ts,l=>Nat.le_trans (AEO l t) (wN ts _)
theorem Ti (t:Tok) (ts:List Tok) (lit far:List Nat):En (t :: ts) lit far=GY lit far t++En ts lit far:=by
 unfold En;rw[List.flatMap_cons,List.append_assoc]
theorem Zi {row:List Bool} {lit far:List Nat} (hc:Cd lit) (hd:Cd far) (he:lit.getD 256 0≠0):∀ (ts:List Tok) (p:Nat) (out:List UInt8) (fuel:Nat) (n:Int),Has row p (En ts lit far)→(∀ t∈ts,Dw lit far t)→
  (Ce ts n).1=0→0≤n→n≤(out.length:Int)→(ts.foldl DT out).length≤3000→ts.length < fuel→Ev row lit far fuel p out=.ok (p+(En ts lit far).length,ts.foldl DT out)
 | ts,p,out,0,n,_,_,_,_,_,_,hf=>absurd hf (by omega)
 | [],p,out,g+1,n,h,hfit,hk,hn0,hn,hl,hf=>by
  have h':Has row p (ER lit 256):=h
  show (CP row lit far p out).Ad _=_
  unfold CP
  rw[PE hc h' he,thn]
  dsimp only
  rw[if_neg (by omega),if_pos rfl,thn,if_pos rfl]
  show Inf.Rd.ok _=Inf.Rd.ok (p+(ER lit 256).length,out)
  rw[Bv]
 | t :: ts,p,out,g+1,n,h,hfit,hk,hn0,hn,hl,hf=>by
  rw[Ti]at h⊢
  have ha:=h.left
  have hb:=h.right
  have hft:=hfit t List.mem_cons_self
  rw[List.foldl_cons]at hl⊢
  have hl1:(DT out t).length≤3000:=Nat.le_trans (wN ts (DT out t)) hl
  simp only[Ce]at hk
  have ht:(DN n t).1=0:=by
   by_cases h1:(DN n t).1=0
   ·exact h1
   ·rw[if_neg h1]at hk;exact hk
  rw[if_pos ht]at hk
  have key:CP row lit far p out=.ok (false,p+(GY lit far t).length,DT out t)∧0≤(DN n t).2∧(DN n t).2≤((DT out t).length:Int):=by
   obtain⟨x,s,f⟩:=t
   unfold DN at ht⊢
   unfold DT at hl1⊢
   dsimp only at ht hl1⊢
   by_cases h1:s=0
   ·rw[if_pos h1]at ht hl1⊢
    rw[if_pos h1]
    by_cases h2:f≠0
    ·rw[if_pos h2]at ht;simp at ht
    ·rw[if_neg h2]
     rw[List.length_append,List.length_singleton]at hl1
     refine⟨AA4 hc ha h1 hft (by omega),by dsimp only;omega,?_⟩
     rw[List.length_append,List.length_singleton];dsimp only;omega
   ·rw[if_neg h1]at ht hl1⊢
    rw[if_neg h1]
    by_cases h2:x≠0
    ·rw[if_pos h2]at ht;simp at ht
    ·rw[if_neg h2]at ht⊢
     by_cases h3:s < 3∨258 < s∨f < 1
     ·rw[if_pos h3]at ht;simp at ht
     ·rw[if_neg h3]at ht⊢
      by_cases h4:n < f
      ·rw[if_pos h4]at ht;simp at ht
      ·rw[if_neg h4]
       rw[JG]at hl1⊢
       obtain⟨s',rfl⟩:=Int.eq_ofNat_of_zero_le (by omega:0≤s)
       obtain⟨f',rfl⟩:=Int.eq_ofNat_of_zero_le (by omega:0≤f)
       rw[Int.toNat_natCast]at hl1⊢
       rw[Int.toNat_natCast]
       refine⟨AA5 hc hd ha hft (by omega) (by omega) (by omega) (by omega) (by omega) (by omega),by dsimp only;omega,by dsimp only;omega⟩
  show (CP row lit far p out).Ad _=_
  rw[key.1,thn]
  rw[if_neg (by simp)]
  dsimp only
  rw[Zi hc hd he ts _ _ g _ hb (fun t ht=>hfit t (List.mem_cons_of_mem _ ht)) hk key.2.1 key.2.2 hl (by simpa using hf)]
  rw[List.length_append,Nat.add_assoc]
end Go.Proofs.YtabdianhoabhhaaGreatDoor.Rt
namespace Go.Proofs.YtabdianhoabhhaaGreatDoor.Rt
open Go.Proofs.YtabdianhoabhhaaGreatDoor.Bits Go.Proofs.YtabdianhoabhhaaGreatDoor.Code Go.Proofs.YtabdianhoabhhaaGreatDoor.Match Go.Proofs.YtabdianhoabhhaaGreatDoor.SP Go.Proofs.YtabdianhoabhhaaGreatDoor.Inf Go.Proofs.YtabdianhoabhhaaGreatDoor.AX
set_option linter.unusedVariables false
theorem wm (ls:List Nat) (L:Nat) (h1:(ones ls).length=1):∃ i,i < ls.length∧0 < ls.getD i 0∧(∀ j,j < ls.length→0 < ls.getD j 0→j=i)∧AV ls L=unit ls.length i:=by
 have wu:(used ls).length=1:=by rw[←GU];exact h1
 obtain⟨i,hu⟩:=List.length_eq_one_iff.1 wu
 have him:=(DJ ls i).1 (by rw[hu];simp)
 refine⟨i,him.1,him.2,fun j hj h0=>?_,?_⟩
 ·have:=(DJ ls j).2 ⟨hj,h0⟩
  rw[hu]at this
  simpa using this
 ·unfold AV
  rw[if_neg (by omega),if_pos h1]
  unfold ones
  rw[hu];rfl
theorem AEQ (ls:List Nat) (L:Nat) (h0:(ones ls).length=0):AV ls L=List.replicate ls.length 0∧∀ i,ls.getD i 0=0:=by
 refine⟨by unfold AV;rw[if_pos h0],fun i=>?_⟩
 rcases Nat.eq_zero_or_pos (ls.getD i 0) with h | h
 ·exact h
 ·have:=(DJ ls i).2 ⟨getD_lt (by omega),h⟩
  have hu:used ls=[]:=List.eq_nil_of_length_eq_zero (by rw[←GU];exact h0)
  rw[hu]at this;cases this
theorem Zm (n i:Nat):(List.replicate n 0).getD i 0=0:=by
 simp[List.getD_eq_getElem?_getD,List.getElem?_replicate];split <;> rfl
theorem wy (n:Nat):room (List.replicate n 0)=0:=by
 induction n with
 | zero=>rfl
 | succ n ih=>rw[List.replicate_succ'];rw[M9,ih];rfl
theorem oM (n i:Nat) (h:i < n):room (unit n i)=16384:=by
 have key:∀ m,room ((List.range m).map fun j=>if j=i then 1 else 0)=if i < m then 16384 else 0:=by
  intro m
  induction m with
  | zero=>rfl
  | succ m ih=>
   rw[List.range_succ,List.map_append,List.map_cons,List.map_nil,M9,ih]
   by_cases h1:m=i
   ·subst h1
    have e1:(if m < m then 16384 else 0)=0:=if_neg (by omega)
    have e2:(if m < m+1 then 16384 else 0)=16384:=if_pos (by omega)
    rw[e1,e2,if_pos rfl];rfl
   ·rw[if_neg h1]
    by_cases h2:i < m
    ·have e1:(if i < m then 16384 else 0)=16384:=if_pos h2
     have e2:(if i < m+1 then 16384 else 0)=16384:=if_pos (by omega)
     rw[e1,e2];rfl
    ·have e1:(if i < m then 16384 else 0)=0:=if_neg h2
     have e2:(if i < m+1 then 16384 else 0)=0:=if_neg (by omega)
     rw[e1,e2];rfl
 have:=key n
 rw[if_pos h]at this
 exact this
theorem QO (ls:List Nat) (L:Nat) (hL:1≤L) (hL2:L≤15) (hn:(ones ls).length≤2 ^ L) :
  (AV ls L).length=ls.length∧Cd (AV ls L)∧(∀ x∈AV ls L,x≤L)∧∀ i,(AV ls L).getD i 0=0↔ls.getD i 0=0:=by
 obtain⟨b1,b2,b3,b4⟩:=BC ls L hL hn
 have hout:∀ i,¬ i < ls.length→((AV ls L).getD i 0=0↔ls.getD i 0=0):=fun i hi=>by
  rw[List.getD_eq_getElem?_getD,List.getD_eq_getElem?_getD,List.getElem?_eq_none (by omega),List.getElem?_eq_none (by omega)]
 by_cases h0:(ones ls).length=0
 ·obtain⟨e,hz⟩:=AEQ ls L h0
  refine⟨b1,⟨fun x hx=>Nat.le_trans (b3 x hx) hL2,by rw[e,wy];omega⟩,b3,fun i=>?_⟩
  rw[e,Zm]
  exact⟨fun _=>hz i,fun _=>rfl⟩
 ·by_cases h1:(ones ls).length=1
  ·obtain⟨i,hi,hp,hu,e⟩:=wm ls L h1
   refine⟨b1,⟨fun x hx=>Nat.le_trans (b3 x hx) hL2,by rw[e,oM _ _ hi];omega⟩,b3,fun j=>?_⟩
   by_cases hj:j < ls.length
   ·rw[e,KO _ _ _ hj]
    by_cases hji:j=i
    ·subst hji;rw[if_pos rfl];omega
    ·rw[if_neg hji]
     refine⟨fun _=>?_,fun _=>rfl⟩
     rcases Nat.eq_zero_or_pos (ls.getD j 0) with h | h
     ·exact h
     ·exact absurd (hu j hj h) hji
   ·exact hout j hj
  ·obtain⟨h3,h4,h5,_⟩:=K6 ls L hL (by omega) hn
   refine⟨b1,⟨fun x hx=>Nat.le_trans (b3 x hx) hL2,?_⟩,b3,fun i=>?_⟩
   ·generalize hm:AV ls L=m at *
    have hr:room m=(ls.zip m |>.map fun p=>if 0 < p.1 then 2 ^ (15 - p.2) else 0).sum:=by
     unfold room
     have e:m=(ls.zip m).map (·.2):=by rw[List.map_snd_zip (by omega)]
     conv=>lhs;rw[e]
     rw[List.map_map]
     congr 1
     apply List.map_congr_left
     intro p hp
     obtain⟨i,hi,rfl⟩:=Qz _ _ h3 p hp
     have:=(h4 i hi).1
     simp only[Function.comp]
     by_cases h0:ls.getD i 0=0
     ·rw[if_pos (this.2 h0),if_neg (by omega)]
     ·rw[if_neg (fun hh=>h0 (this.1 hh)),if_pos (by omega)]
    rw[hr,V9 ls m (fun x=>2 ^ (15 - x)) h3]
    have e2:((used ls).map fun i=>2 ^ (15 - m.getD i 0))=(used ls).map fun i=>2 ^ (15 - L)*2 ^ (L - m.getD i 0):=by
     apply List.map_congr_left
     intro i hi
     have h6:=(h4 i ((DJ _ i).1 hi).1).2
     rw[←Nat.pow_add,show 15 - L+(L - m.getD i 0)=15 - m.getD i 0 by omega]
    rw[e2]
    have e3:∀ l:List Nat,(l.map fun i=>2 ^ (15 - L)*2 ^ (L - m.getD i 0)).sum=2 ^ (15 - L)*(l.map fun i=>2 ^ (L - m.getD i 0)).sum:=by
     intro l
     induction l with
     | nil=>simp
     | cons a l ih=>simp only[List.map_cons,List.sum_cons,ih,Nat.mul_add]
    rw[e3,h5,←Nat.pow_add,show 15 - L+L=15 by omega]
    exact Nat.le_refl _
   ·by_cases hi:i < ls.length
    ·exact (h4 i hi).1
    ·exact hout i hi
theorem ed (ls:List Nat) (n k:Nat) (hn:n≠0):DL (ls++List.replicate k 0) n=DL ls n:=by
 induction k with
 | zero=>rw[List.replicate_zero,List.append_nil]
 | succ k ih=>
  rw[List.replicate_succ',←List.append_assoc,P8,ih,if_neg (fun h=>hn h.symm),List.append_nil]
theorem oN (ls:List Nat) (n k:Nat):cnt (ls++List.replicate k 0) n=cnt ls n:=by
 unfold cnt
 by_cases h:n=0
 ·rw[if_pos h,if_pos h]
 ·rw[if_neg h,if_neg h,ed _ _ _ h]
theorem Q0 (ls:List Nat) (k:Nat):∀ n,first (ls++List.replicate k 0) n=first ls n
 | 0=>rfl
 | n+1=>by unfold first;rw[Q0 ls k n,oN]
theorem ek (ls:List Nat) (k:Nat):room (ls++List.replicate k 0)=room ls:=by
 induction k with
 | zero=>rw[List.replicate_zero,List.append_nil]
 | succ k ih=>rw[List.replicate_succ',←List.append_assoc,M9,ih,if_pos rfl,Nat.add_zero]
theorem K7 (ls:List Nat) (k i:Nat):(ls++List.replicate k 0).getD i 0=ls.getD i 0:=by
 rw[List.getD_eq_getElem?_getD,List.getD_eq_getElem?_getD]
 rcases Nat.lt_or_ge i ls.length with h | h
 ·rw[List.getElem?_append_left h]
 ·rw[List.getElem?_append_right h,List.getElem?_eq_none h,List.getElem?_replicate];split <;> rfl
theorem eu (ls:List Nat) (k i:Nat):ER (ls++List.replicate k 0) i=ER ls i:=by
 unfold ER
 rw[K7]
 by_cases h0:ls.getD i 0=0
 ·rw[h0];rfl
 ·congr 1
  have hi:=getD_lt h0
  unfold codeOf
  rw[K7,if_neg h0,if_neg h0,Q0]
  unfold rank
  rw[K7,List.take_append_of_le_length (by omega)]
theorem OE (l:List Nat) (least:Nat):∀ n j,Eb l least n≤j→j < n→l.getD j 0=0
 | 0,j,_,h=>absurd h (by omega)
 | n+1,j,h,hj=>by
  unfold Eb at h
  split at h
  ·rename_i h1
   by_cases e:j=n
   ·subst e;exact h1.2
   ·exact OE l least n j h (by omega)
  ·omega
theorem OG (l:List Nat) (least:Nat):l=BQ l least++List.replicate (l.length - Eb l least l.length) 0:=by
 have hle:=G5 l least l.length
 have hz:=OE l least l.length
 unfold BQ
 generalize Eb l least l.length=m at *
 apply List.ext_getElem
 ·simp;omega
 ·intro i h1 h2
  by_cases hi:i < m
  ·rw[List.getElem_append_left (by simp;omega)];simp
  ·rw[List.getElem_append_right (by simp;omega),List.getElem_replicate]
   have:=hz i (by omega) h1
   rw[List.getD_eq_getElem?_getD,List.getElem?_eq_getElem h1]at this
   exact this
theorem QP (l:List Nat) (least i:Nat):(BQ l least).getD i 0=l.getD i 0:=by
 conv=>rhs;rw[OG l least]
 rw[K7]
theorem WA (l:List Nat) (least i:Nat):ER (BQ l least) i=ER l i:=by
 conv=>rhs;rw[OG l least]
 rw[eu]
theorem Jb (l:List Nat) (least:Nat) (h:Cd l):Cd (BQ l least):=by
 refine⟨fun x hx=>h.le x (List.mem_of_mem_take hx),?_⟩
 have:=h.room
 rw[OG l least,ek]at this
 exact this
theorem J5 (l:List Nat) (least:Nat) (h:least≤l.length):least≤(BQ l least).length∧(BQ l least).length≤l.length:=by
 have h1:=G5 l least l.length
 have h2:=MC l least l.length h
 unfold BQ
 rw[List.length_take];omega
theorem xA (lit far:List Nat) (a b:Nat) (t:Tok):GY (BQ lit a) (BQ far b) t=GY lit far t:=by
 unfold GY;simp only[WA]
theorem oH (ts:List Tok) (lit far:List Nat) (a b:Nat):En ts (BQ lit a) (BQ far b)=En ts lit far:=by
 unfold En
 rw[WA]
 congr 1
 induction ts with
 | nil=>rfl
 | cons t ts ih=>rw[List.flatMap_cons,List.flatMap_cons,xA,ih]
theorem wR (lit far:List Nat) (a b:Nat) (t:Tok) (h:Dw lit far t):Dw (BQ lit a) (BQ far b) t:=by
 unfold Dw at h⊢;simp only[QP];exact h
theorem FB (l:List Nat):BB (EX l)=l:=by
 unfold BB EX;rw[List.map_map]
 conv=>rhs;rw[←List.map_id l]
 apply List.map_congr_left
 intro x _;rfl
theorem Oh (l:List Nat) (h:Cd l) (hl:l.length≤288):Em (EX l)=.ok l:=by
 have hc:GG (EX l)=0:=by
  unfold GG
  rw[if_neg (by unfold EX;rw[List.length_map];omega),if_neg,FB,if_neg (by have:=h.room;omega)]
  rw[Bool.not_eq_true,List.any_eq_false]
  intro x hx
  obtain⟨y,hy,rfl⟩:=List.mem_map.1 hx
  have:=h.le y hy
  have e:Int.ofNat y=(y:Int):=rfl
  rw[e]
  simp[Fg];omega
 unfold Em
 rw[if_pos hc,FB]
end Go.Proofs.YtabdianhoabhhaaGreatDoor.Rt
namespace Go.Proofs.YtabdianhoabhhaaGreatDoor.Cv
open Go Go.RowKit Go.Proofs.YtabdianhoabhhaaGreatDoor Go.Proofs.YtabdianhoabhhaaGreatDoor.SP
set_option linter.unusedVariables false
theorem wI:(Tryz.prog.info? 3).map (fun i=>(i.zero,i.size,i.bytes))=some (some (.int .i64 0),1,8):=by kernel_rfl
theorem Fw (n:Nat) (hn:n≤1000000) (u:World):(Instr.makeSlice 89 (.int .i64 (n:Int)) (.int .i64 (n:Int))).run Tryz.prog u =
   .ok (.slice (some ⟨u.heap.size,0,none⟩) n n) (u.alloc (.cells (madeCells #[.int .i64 0] n) 3)):=by
 obtain⟨i0,hi,hz0,hz1,hz2⟩:=info_parts wI
 have h:=run_make (P:=Tryz.prog) u 89 3 i0 (.int .i64 0) Tryz.underlying89 hi hz0 .i64 .i64 (n:Int) (n:Int) (by omega) (Int.le_refl _) (by rw[hz2];omega) (by omega)
 simpa [hz1,Value.cells] using h
theorem WQ (n:Nat):madeCells #[.int .i64 0] n=((List.replicate n 0).map nv).toArray:=by
 unfold madeCells
 apply Array.ext'
 simp
 apply List.ext_getElem
 ·simp
 ·intro i h1 h2
  simp[nv,Nat.mod_one]
theorem aG (w:World) (base n:Nat) (l:List Nat) (hb:base≤w.heap.size) (hl:l.length=n) (hn:n≤1000000):(w.alloc (.cells ((l.map nv).toArray) 3)).ownsRow base 3 1 (.slice (some ⟨w.heap.size,0,none⟩) n n) n (l.map nv):=
 ⟨by simp[hl],.inr ⟨w.heap.size,n,_,rfl,hb,heap_alloc_new w _,Nat.le_refl _,by unfold maxLen;omega,by simp[hl],by rw[List.toList_toArray,Nat.mul_one,List.take_of_length_le (by simp[hl])]⟩⟩
theorem tyP:Bo Tryz.prog 290 292 (.agg #[.int .i64 0,.slice none 0 0]) 2 32:=⟨Tryz.underlying290,by kernel_rfl,rfl,by omega⟩
def jw (zs:List Int) (most:Int) (w:World) (e:Ending) (w':World):Prop:=
  (MG zs most≠0∧e=.returned (.tuple #[.slice none 0 0,.int .i64 (MG zs most)])∨
   MG zs most=0∧∃ v,e=.returned (.tuple #[v,.int .i64 0])∧w'.ownsRow w.heap.size 3 1 v zs.length ((AV (CS zs) most.toNat).map nv))∧Below w.heap.size w w'
theorem fu (zs:List Int) (k:Nat) (h:k < zs.length):(CS zs).getD k 0=zs[k].toNat:=by simp[CS,List.getD_eq_getElem?_getD,h]
theorem fw (zs:List Int):(CS zs).length=zs.length:=by simp[CS]
theorem ABW (one:List Pk) (t:Nat):one.length≤(BS one t).length:=by
 cases t with
 | zero=>exact Nat.le_refl _
 | succ t=>rw[PS];exact Nat.le_add_right _ _
theorem jy (es:List El):(CR CQ es).map f2=CR BZ (es.map f2):=xW BZ f2 es
set_option maxRecDepth 100000 in
set_option maxHeartbeats 8000000 in
theorem gB (A:Option Addr) (n c L:Nat) (zs:List Int) (w:World) (hn:zs.length=n) (hx:n≤maxLen) (hA:Lf w A zs) (h0:MG zs (L:Int)=0) :
    Calls Tryz.prog 190 #[.slice A n c,.int .i64 (L:Int)] w (jw zs L w):=by
  have Hn:=Lib.hid hn
  have HA:=Lib.hid hA
  have hc:=UT A n c zs L w hn hx hA
  rw[h0]at hc
  have HC:=Lib.hid hc
  obtain⟨f1,f2,f3,f4,f5⟩:=WO zs L h0
  have H0:=Lib.hid h0
  have F2:=Lib.hid f2
  have F5:=Lib.hid f5
  have AHl:n≤288:=by omega
  have hL1:1≤L:=by omega
  have AM3:L≤15:=by omega
  have hmk:=Fw n (by omega)
  have Hnl:Hid ((CS zs).length=n):=Lib.hid (by rw[fw];exact hn)
  clear hn hx hA h0 hc f1 f2 f3 f4 f5
  go_enter Tryz.func190,Tryz.ntmps190
  go_wp2_with fail
  refine (HC.out).mono ?_
  rintro e wx ⟨rfl,hw⟩
  have hw:=hw.symm
  subst hw
  go_wp2_with fail
  have aH:=Lib.hid (aG w w.heap.size n (List.replicate n 0) (Nat.le_refl _) (by simp) (by omega))
  rw[←WQ]at aH
  have Hb1:=Lib.hid ((Below.refl w.heap.size w).alloc (Nat.le_refl _) (.cells (madeCells #[.int .i64 0] n) 3))
  have bL:Hid ((w.alloc (.cells (madeCells #[.int .i64 0] n) 3)).heap.size=w.heap.size+1):=Lib.hid (by simp)
  generalize w.alloc (.cells (madeCells #[.int .i64 0] n) 3)=w1 at *
  generalize hg0:w.heap.size=g0 at *
  have Hg0:=Lib.hid hg0
  clear hg0
  go_loopw [8,31] (fun v i wr=>∃ (k:Nat) (es:List El),k≤n∧i=.int .i64 (k:Int)∧wr.ownsRow (g0+1) 292 2 v es.length (es.flatMap CO)∧(∀ e∈es,CU wr (g0+1) n e)∧es.map f2=UU (CS zs) k∧Below (g0+1) w1 wr) (fun _ i _=>n - (intOf i).toNat)
  case atStart=>exact⟨0,[],Nat.zero_le _,rfl,World.ownsRow_nil _ _ _ _,by simp,rfl,Below.refl _ _⟩
  case round=>
    obtain⟨k,es,hk,rfl,hown,PT,x9,hbr⟩:=hrel
    have DF:=Lib.hid hown
    have VG:=Lib.hid PT
    have j3:=Lib.hid x9
    have Gf:=Lib.hid hbr
    have hel:es.length≤288:=by
      have h1:=congrArg List.length x9
      rw[List.length_map]at h1
      have h2:(UU (CS zs) k).length≤k:=by
        unfold UU
        rw[List.length_map]
        have:=List.length_filter_le (fun i=>decide (0 < (CS zs).getD i 0)) (List.range k)
        rw[List.length_range]at this
        exact this
      omega
    clear hown PT x9 hbr
    by_cases hlt:k < n
    · have hkl:k < zs.length:=by rw[Hn.out];exact hlt
      obtain⟨b,o,rfl,hcell⟩:=((HA.out.below (Hg0.out.symm▸Hb1.out)).below (Gf.out.mono (by rw[bL.out];exact Nat.le_refl _))).get hkl
      have hz:=F2.out zs[k] (List.getElem_mem hkl)
      have Hd:=Lib.hid (fu zs k hkl)
      have Lb:=Lib.hid (gD (CS zs) k)
      rw[Hd.out,Hnl.out]at Lb
      generalize zs[k]=z at *
      obtain⟨x,rfl⟩:=Int.eq_ofNat_of_zero_le hz.1
      rw[Int.toNat_natCast]at Lb
      by_cases h0:x=0
      · subst h0
        rw[if_neg (by omega),List.append_nil]at Lb
        go_wp2_with fail
        go_roundw
        case rel=>exact⟨k+1,es,by omega,by go_num,DF.out,VG.out,by rw[Lb.out];exact j3.out,Gf.out⟩
        case measure=>simp[intOf];omega
      · have hx0:(0:Int) < (x:Int):=by omega
        rw[if_pos (by omega)]at Lb
        go_upto_region 11 with fail
        have hm:=aG wr (g0+1) n (List.replicate n 0) (by have:=Gf.out.size;have:=bL.out;omega) (by simp) (by omega)
        rw[←WQ]at hm
        have Hm:=Lib.hid (hm.alloc (.cells #[.int .i64 (x:Int),.slice (some ⟨wr.heap.size,0,none⟩) n n] 292))
        have hp:=AX.new (wr.alloc (.cells (madeCells #[.int .i64 0] n) 3)) 292 #[.int .i64 (x:Int),.slice (some ⟨wr.heap.size,0,none⟩) n n]
        rw[show (wr.alloc (.cells (madeCells #[.int .i64 0] n) 3)).heap.size=wr.heap.size+1 by simp]at hp
        have Hp:=Lib.hid hp
        have HbW:=Lib.hid (((Below.refl wr.heap.size wr).alloc (Nat.le_refl _) (.cells (madeCells #[.int .i64 0] n) 3)).alloc (by simp) (.cells #[.int .i64 (x:Int),.slice (some ⟨wr.heap.size,0,none⟩) n n] 292))
        clear hm hp
        generalize (wr.alloc (.cells (madeCells #[.int .i64 0] n) 3)).alloc (.cells #[.int .i64 (x:Int),.slice (some ⟨wr.heap.size,0,none⟩) n n] 292)=W at *
        generalize hy0:wr.heap.size=y0 at *
        have Hy0:=Lib.hid hy0
        clear hy0
        have c1:=Hp.out.c1
        have ck:W.cell? ⟨y0,k,none⟩=some (.int .i64 0):=by rw[Hm.out.cellAt k (by omega)];simp[hlt,nv]
        have fk:=Hm.out.frozenAt k
        go_upto_region 12 with fail
        have Hm2:Hid ((W.setCell ⟨y0,k,none⟩ (.int .i64 1)).ownsRow (g0+1) 3 1 (.slice (some ⟨y0,0,none⟩) n n) n ((unit n k).map nv)):=Lib.hid (by
          have:=(Hm.out.stored k (.int .i64 1)).1
          rw[←yA,List.map_set];exact this)
        have W9:Hid (AX (W.setCell ⟨y0,k,none⟩ (.int .i64 1)) (y0+1) 292 #[.int .i64 (x:Int),.slice (some ⟨y0,0,none⟩) n n]):=Lib.hid (Hp.out.far (by show y0+1≠y0;omega) _)
        have AEu:Hid (Below wr.heap.size wr (W.setCell ⟨y0,k,none⟩ (.int .i64 1))):=Lib.hid (by rw[Hy0.out];exact HbW.out.setCell (Nat.le_refl _) _)
        clear Hm Hp HbW c1 ck fk
        generalize W.setCell ⟨y0,k,none⟩ (.int .i64 1)=W2 at *
        have GZ:=Lib.hid ((AP DF.out AEu.out).alloc (.cells #[.int .i64 (x:Int),.slice (some ⟨y0,0,none⟩) n n] 292))
        have Hm3:=Lib.hid (Hm2.out.alloc (.cells #[.int .i64 (x:Int),.slice (some ⟨y0,0,none⟩) n n] 292))
        have Hb3:Hid (Below wr.heap.size wr (W2.alloc (.cells #[.int .i64 (x:Int),.slice (some ⟨y0,0,none⟩) n n] 292))):=Lib.hid (AEu.out.alloc AEu.out.size _)
        have M5:Hid (AR (W2.alloc (.cells #[.int .i64 (x:Int),.slice (some ⟨y0,0,none⟩) n n] 292)) (some ⟨W2.heap.size,0,none⟩) [.int .i64 (x:Int),.slice (some ⟨y0,0,none⟩) n n]):=Lib.hid (AR.of_heap (heap_alloc_new _ _) rfl)
        have AHm:=Lib.hid (Gf.out.trans (Hb3.out.mono (by have:=Gf.out.size;have:=bL.out;omega)))
        have hc0:=W9.out.c0
        have hc1:=W9.out.c1
        have Hbs:Hid (g0+1≤(W2.alloc (.cells #[.int .i64 (x:Int),.slice (some ⟨y0,0,none⟩) n n] 292)).heap.size):=Lib.hid (by have:=AHm.out.size;have:=bL.out;omega)
        go_wp2_with (at_builtin;refine AY _ rfl (.tmp 47) (.tmp 49) _ rfl (g0+1) 292 _ 2 32 tyP u8 es.length (es.flatMap CO) rfl GZ.out (some ⟨W2.heap.size,0,none⟩) 1 1 [.int .i64 (x:Int),.slice (some ⟨y0,0,none⟩) n n] rfl rfl M5.out (by simp[Value.oneCell']) (by simp) (by unfold maxLen;omega) (by omega) Hbs.out ?_;intro v4 w4 DD hg4 _;have aj:=Lib.hid DD;have Jy:=Lib.hid hg4;clear DD hg4)
        go_roundw
        case rel=>
          refine⟨k+1,es++[(x,(some ⟨y0,0,none⟩,n,n),unit n k)],by omega,by go_num,?_,?_,?_,?_⟩
          · rw[List.length_append,List.flatMap_append];exact aj.out
          · intro e he
            rcases List.mem_append.1 he with he | he
            · exact ((VG.out e he).below Hb3.out).QY GZ.out Jy.out
            · simp at he
              subst he
              exact CU.QY ⟨y0,n,rfl,Hm3.out⟩ GZ.out Jy.out
          · rw[List.map_append,j3.out,Lb.out];rfl
          · exact own_below GZ.out Jy.out AHm.out Hbs.out
        case measure=>simp[intOf];omega
    · obtain rfl:k=n:=by omega
      have hon:=j3.out
      rw[←Hnl.out,pR]at hon
      have Hon:=Lib.hid hon
      have VH:Hid ((ones (CS zs)).length=es.length):=Lib.hid (by rw[←hon,List.length_map])
      have qV:Hid (Below g0 w wr):=Lib.hid (Hb1.out.trans (Gf.out.mono (by omega)))
      have ACi:Hid (wr.ownsRow g0 3 1 (.slice (some ⟨g0,0,none⟩) k k) k ((List.replicate k 0).map nv)):=Lib.hid (by
        have:=aH.out
        refine⟨this.1,?_⟩
        rcases this.2 with h1 | ⟨g',cap,cur,hv,hbg,hgb,r⟩
        · exact .inl h1
        · refine .inr ⟨g',cap,cur,hv,hbg,?_,r⟩
          have:g'=g0:=by injection hv with hv;injection hv with hv;injection hv with hv;exact hv.symm
          subst this
          rw[Gf.out.block g' (by omega)];exact hgb)
      clear hon j3
      obtain⟨N1,hN⟩:∃ N1,es.length=N1:=⟨_,rfl⟩
      have rG:=Lib.hid hN
      rw[hN]at DF VH hel
      clear hN
      by_cases hN0:N1=0
      · have Hf:Hid (AV (CS zs) (L:Int).toNat=List.replicate k 0):=Lib.hid (by unfold AV;rw[if_pos (by rw[VH.out];exact hN0),Hnl.out])
        have e0:((N1:Int) == 0)=true:=by simp;omega
        obtain⟨A1,c1,hv,_,_,_,_⟩:=Ag DF.out
        subst hv
        clear hN0
        go_wp2_with fail
        go_ret2
        refine⟨.inr ⟨H0.out,_,rfl,?_⟩,by rw[Hg0.out];exact qV.out⟩
        rw[Hf.out,Hn.out,Hg0.out];exact ACi.out
      · have e0:((N1:Int) == 0)=false:=by simp;omega
        obtain⟨g1,c1,hv,hg1,hg2⟩:=DF.out.form (by omega)
        subst hv
        have Hg1:=Lib.hid hg1
        clear hg1 hg2
        by_cases hN1:N1=1
        · obtain⟨e,hee⟩:=List.length_eq_one_iff.1 (rG.out.trans hN1)
          subst hee
          obtain⟨g',cap,he1,he2⟩:=VG.out e (by simp)
          have hcell:wr.cell? ⟨g1,1,none⟩=some (.slice (some ⟨g',0,none⟩) k cap):=by
            rw[DF.out.cellAt 1 (by omega)]
            show some (Cj e.2.1)=_
            rw[he1];rfl
          have Hf:Hid (AV (CS zs) (L:Int).toNat=e.2.2):=Lib.hid (by
            unfold AV
            rw[if_neg (by rw[VH.out];exact hN0),if_pos (by rw[VH.out];exact hN1),←Hon.out];rfl)
          have He2:=Lib.hid he2
          have e1:((N1:Int) == 1)=true:=by simp;omega
          have e2:0 < N1:=by omega
          clear he1 he2 hN0 hN1
          go_wp2_with fail
          go_ret2
          refine⟨.inr ⟨H0.out,_,rfl,?_⟩,by rw[Hg0.out];exact qV.out⟩
          rw[Hf.out,Hn.out,Hg0.out];exact Ai He2.out (by omega)
        · have e1:((N1:Int) == 1)=false:=by simp;omega
          have AEt:∀ e∈es,e.1≤1152921504606846976:=fun e he=>by
            have h1:f2 e∈CR BZ (ones (CS zs)):=(Ct BZ _).mem_iff.2 (by rw[←Hon.out];exact List.mem_map_of_mem he)
            have:=(UK (jq (CS zs) (fun x hx=>by
              obtain⟨z,hz,rfl⟩:=List.mem_map.1 hx
              have:=F2.out z hz;omega) _ h1) (by omega)).1
            omega
          have Hr:=UW (g0+1) g1 N1 c1 es wr DF.out (by omega) AEt
          have HR:=Lib.hid Hr
          have RI:2≤N1:=by omega
          have AL5:N1≤288:=by omega
          clear hN0 hN1 AEt Hr hel
          go_wp2_with fail
          refine (HR.out).mono ?_
          rintro e w2 ⟨rfl,hown2,hg2⟩
          have hsz1:g0+1≤wr.heap.size:=by have:=Gf.out.size;have:=bL.out;omega
          have GZ:=Lib.hid hown2
          have Hb2:=Lib.hid (own_below DF.out hg2 Gf.out hsz1)
          have yB:Hid (∀ e∈CR CQ es,CU w2 (g0+1) k e):=Lib.hid (fun e he=>(VG.out e ((Ct CQ es).mem_iff.1 he)).QY DF.out hg2)
          have Lg:Hid ((CR CQ es).map f2=CR BZ (ones (CS zs))):=Lib.hid (by rw[jy,Hon.out])
          have Hln:Hid ((CR CQ es).length=N1):=Lib.hid (by rw[EW];exact rG.out)
          have YJ:Hid ((CR BZ (ones (CS zs))).length=N1):=Lib.hid (by rw[EW];exact VH.out)
          have yC:Hid (∀ p∈CR BZ (ones (CS zs)),pF 0 p):=Lib.hid (jq (CS zs) (fun x hx=>by
            obtain⟨z,hz,rfl⟩:=List.mem_map.1 hx
            have:=F2.out z hz;omega))
          have HLP:Hid (AV (CS zs) (L:Int).toNat=Dy k ((BS (CR BZ (ones (CS zs))) (L - 1)).take (2*N1 - 2))):=Lib.hid (by
            unfold AV
            rw[if_neg (by rw[VH.out];omega),if_neg (by rw[VH.out];omega),VH.out,Hnl.out,Int.toNat_natCast])
          have Hus:Hid (N1≤2 ^ L):=Lib.hid (by
            have h1:=F5.out
            rw[Int.toNat_natCast]at h1
            have h2:=VP zs
            rw[VH.out]at h2
            omega)
          have Hk1:Hid (N1≤k):=Lib.hid (by have:=Kg (CS zs);rw[VH.out,Hnl.out]at this;exact this)
          clear hown2 hg2 HR DF Gf VG ACi qV hsz1 HC
          generalize CR CQ es=aI at *
          generalize CR BZ (ones (CS zs))=Lj at *
          have hcb:N1*32≤140737488355328:=by omega
          go_wp2_with fail
          refine (ru.Ei (some ⟨g1,0,none⟩) N1 c1 (aI.flatMap CO) w2 (by rw[E8,Hln.out]) (by obtain⟨A9,c9,h9,_,_,h10,_⟩:=Ag GZ.out;injection h9 with h9;rw[h9];exact h10) (by simp) (OO aI) (by unfold maxLen;omega) hcb).mono ?_
          rintro e w3 ⟨v3,rfl,hown3,hb3⟩
          have ZZ:Hid (w3.ownsRow (g0+1) 292 2 v3 aI.length (aI.flatMap CO)):=Lib.hid (by rw[Hln.out];exact Ai hown3 (by have:=Hb2.out.size;have:=bL.out;omega))
          have Hb3:=Lib.hid hb3
          clear hown3 hb3
          obtain⟨L1,hL⟩:∃ L1,L=L1+1:=⟨L - 1,by omega⟩
          have eL:(L:Int) - 1=(L1:Int):=by omega
          have HL:=Lib.hid hL
          have AM4:L1≤14:=by omega
          clear hL
          go_wp2_with fail
          clear eL
          go_loopw [13,70] (fun rv i wr=>∃ (t:Nat) (et:List El),t≤L1∧i=.int .i64 (t:Int)∧wr.ownsRow (g0+1) 292 2 rv et.length (et.flatMap CO)∧(∀ e∈et,CU wr (g0+1) k e)∧et.map f2=BS Lj t∧Below w2.heap.size w2 wr) (fun _ i _=>L1 - (intOf i).toNat)
          case atStart=>exact⟨0,aI,Nat.zero_le _,rfl,ZZ.out,fun e he=>(yB.out e he).below Hb3.out,Lg.out,Hb3.out⟩
          case round=>
            obtain⟨t,et,ht,rfl,hown,PT,hrow,hbr⟩:=hrel
            have VG:=Lib.hid PT
            have G6:=Lib.hid hrow
            have Gf:=Lib.hid hbr
            obtain⟨Nt,hNt⟩:∃ Nt,et.length=Nt:=⟨_,rfl⟩
            have HNt:=Lib.hid hNt
            have AM5:Nt≤576:=by
              have h1:=(aJ Lj t).1
              rw[←hrow,List.length_map,hNt,YJ.out]at h1
              omega
            have AM6:N1≤Nt:=by
              have h1:=ABW Lj t
              rw[←hrow,List.length_map,hNt,YJ.out]at h1
              exact h1
            rw[hNt]at hown
            obtain⟨gr,cr,hv,AM7,AM8⟩:=hown.form (by omega)
            subst hv
            have DF:=Lib.hid hown
            clear hown PT hrow hbr hNt
            by_cases hlt:t < L1
            · generalize hB:wr.heap.size=B at *
              have HB:=Lib.hid hB
              clear hB
              go_wp2_with fail
              go_loopw [14,15] (fun pv kv wx=>∃ (j:Nat) (ps:List El),kv=.int .i64 ((2*j:Nat):Int)∧2*j≤Nt∧wx.ownsRow B 292 2 pv ps.length (ps.flatMap CO)∧(∀ e∈ps,CU wx (g0+1) k e)∧ps.map f2=pairs ((BS Lj t).take (2*j))∧Below B wr wx) (fun _ kv _=>Nt - (intOf kv).toNat)
              case atStart=>exact⟨0,[],rfl,Nat.zero_le _,World.ownsRow_nil _ _ _ _,by simp,rfl,Below.refl _ _⟩
              case round=>
                obtain⟨j,ps,rfl,hj,hown,PT,hps,hbr⟩:=hrel
                have aK:=Lib.hid hown
                have yD:=Lib.hid PT
                have Hps:=Lib.hid hps
                have Ec:=Lib.hid hbr
                have hpl:ps.length≤576:=by
                  have h1:=congrArg List.length hps
                  rw[List.length_map,KV,List.length_take]at h1
                  omega
                clear hown PT hps hbr
                obtain⟨kk,hkk⟩:∃ kk,kk=2*j:=⟨_,rfl⟩
                have e2:(kk:Int)+1=((kk+1:Nat):Int):=by omega
                obtain⟨kq,hkq⟩:∃ kq,kq=kk+1:=⟨_,rfl⟩
                rw[←hkq]at e2
                rw[←hkk]at hj⊢
                have Hkk:=Lib.hid (And.intro hkk hkq)
                clear hkk
                by_cases hlt2:kq < Nt
                · have hkl:kk < et.length:=by rw[HNt.out];omega
                  have RS:kq < et.length:=by rw[HNt.out];omega
                  have hrow2:=AP DF.out (HB.out.symm▸Ec.out)
                  have Hma:=Lib.hid ((VG.out _ (List.getElem_mem hkl)).below (HB.out.symm▸Ec.out))
                  have Hmb:=Lib.hid ((VG.out _ (List.getElem_mem RS)).below (HB.out.symm▸Ec.out))
                  obtain⟨ga,ca,hva,hSa⟩:=Hma.out.val
                  obtain⟨gb,cb,hvb,hSb⟩:=Hmb.out.val
                  have ck0:wr.cell? ⟨gr,kk*2,none⟩=some (.int .i64 (et[kk].1:Int)):=by rw[hrow2.cellAt (kk*2) (by omega),UL et kk hkl];rfl
                  have ck1:wr.cell? ⟨gr,kk*2+1,none⟩=some (.slice (some ⟨ga,0,none⟩) k ca):=by rw[hrow2.cellAt (kk*2+1) (by omega),UM et kk hkl,hva]
                  have cq0:wr.cell? ⟨gr,kq*2,none⟩=some (.int .i64 (et[kq].1:Int)):=by rw[hrow2.cellAt (kq*2) (by omega),UL et kq RS];rfl
                  have cq1:wr.cell? ⟨gr,kq*2+1,none⟩=some (.slice (some ⟨gb,0,none⟩) k cb):=by rw[hrow2.cellAt (kq*2+1) (by omega),UM et kq RS,hvb]
                  have BH:=UK (Ry Lj yC.out t _ (by rw[←G6.out];exact List.mem_map_of_mem (List.getElem_mem hkl))) (by omega)
                  have hbb:=UK (Ry Lj yC.out t _ (by rw[←G6.out];exact List.mem_map_of_mem (List.getElem_mem RS))) (by omega)
                  have hla:=Hma.out.len
                  have hlb:=Hmb.out.len
                  have yE:Hid (pairs ((BS Lj t).take (2*(j+1)))=pairs ((BS Lj t).take (2*j))++[both (f2 et[kk]) (f2 et[kq])]):=Lib.hid (by
                    have h1:=Hkk.out
                    have e:(BS Lj t).take (2*(j+1))=(BS Lj t).take (2*j)++[f2 et[kk],f2 et[kq]]:=by
                      rw[←G6.out,show 2*(j+1)=kk+1+1 by omega,←List.map_take,←List.map_take,List.take_succ_eq_append_getElem (by omega:kk+1 < et.length),List.take_succ_eq_append_getElem hkl,←h1.1]
                      have h3:et[kk+1]=et[kq]:=by simp only[h1.2]
                      rw[h3];simp only[List.map_append,List.map_cons,List.map_nil,List.append_assoc,List.cons_append,List.nil_append]
                    rw[e]
                    exact pG _ _ _ j (by rw[←G6.out,List.length_take,List.length_map,HNt.out];omega))
                  obtain⟨x,hx⟩:∃ x,et[kk]=x:=⟨_,rfl⟩
                  obtain⟨y,hy⟩:∃ y,et[kq]=y:=⟨_,rfl⟩
                  rw[hx]at hSa ck0 BH hla yE
                  rw[hy]at hSb cq0 hbb hlb yE
                  have YV:=Lib.hid hSa
                  have FM:=Lib.hid hSb
                  have Hla:=Lib.hid hla
                  have Hlb:=Lib.hid hlb
                  have Hba:=Lib.hid BH
                  have Hbb:=Lib.hid hbb
                  have AM9:kk < Nt:=by omega
                  obtain⟨sm,hsm⟩:∃ sm,x.1+y.1=sm:=⟨_,rfl⟩
                  have Hsm:=Lib.hid hsm
                  clear hsm
                  have hw:IntKind.i64.wrap (kq:Int)=(kq:Int):=IntWalk.i64_in _ (by omega)
                  have hn1:Hid (1≤k):=Lib.hid (by have:=Hk1.out;omega)
                  have VE:=Lib.hid (Ec.out.drew)
                  clear hSa hSb hla hlb BH hbb hx hy hva hvb hrow2 Hma Hmb hkl RS hkq
                  go_wp2_with fail
                  go_region_law ((first
                    | (refine KN rfl (.tmp 79) (.tmp 90) _ rfl B 292 _ 2 32 tyP u14 ps.length (ps.flatMap CO) (by simp[Act.eval]) RP.out (some ⟨w5.heap.size,0,none⟩) 1 1 [.int .i64 (sm:Int),.slice (some ⟨gm,0,none⟩) k cm] (by simp[Act.eval]) rfl jQ.out (by simp[Value.oneCell']) (by simp) (by unfold maxLen;omega) (by omega) AEv.out ?_
                       intro v8 w8 Aw Dj
                       have GH:=Lib.hid Aw
                       have Lt:=Lib.hid Dj
                       clear Aw Dj)
                    | (go_simp
                       go_at_call 229
                       refine (Ov x.1 y.1 k ca cb _ _ x.2.2 y.2.2 _ Hla.out Hlb.out hn1.out AHl (by have:=Hba.out.1;omega) (by have:=Hbb.out.1;omega) (by exact YV.out) (by exact FM.out) (fun z hz=>by have:=Hba.out.2 z hz;omega) (fun z hz=>by have:=Hbb.out.2 z hz;omega)).mono ?_
                       rintro e w5 ⟨⟨gm,cm,rfl,hm5⟩,hb5⟩
                       rw[Hsm.out]
                       have Hm7:=Lib.hid (hm5.alloc (.cells #[.int .i64 (sm:Int),.slice (some ⟨gm,0,none⟩) k cm] 292))
                       have RP:=Lib.hid ((AP (I6 aK.out) hb5).alloc (.cells #[.int .i64 (sm:Int),.slice (some ⟨gm,0,none⟩) k cm] 292))
                       have AEw:=Lib.hid (hb5.alloc hb5.size (.cells #[.int .i64 (sm:Int),.slice (some ⟨gm,0,none⟩) k cm] 292))
                       have Fe:=Lib.hid ((Ec.out.drew).trans (AEw.out.mono (by have:=Ec.out.size;have:=HB.out;show B≤wr.heap.size;omega)))
                       have AEv:Hid (B≤(w5.alloc (.cells #[.int .i64 (sm:Int),.slice (some ⟨gm,0,none⟩) k cm] 292)).heap.size):=Lib.hid (by have:=Fe.out.size;have:=HB.out;omega)
                       have jQ:Hid (AR (w5.alloc (.cells #[.int .i64 (sm:Int),.slice (some ⟨gm,0,none⟩) k cm] 292)) (some ⟨w5.heap.size,0,none⟩) [.int .i64 (sm:Int),.slice (some ⟨gm,0,none⟩) k cm]):=Lib.hid (AR.of_heap (heap_alloc_new _ _) rfl)
                       have ACj:Hid (∀ e∈ps,CU (w5.alloc (.cells #[.int .i64 (sm:Int),.slice (some ⟨gm,0,none⟩) k cm] 292)) (g0+1) k e):=Lib.hid (fun e he=>CU.below (w:=wr.drew) (by exact yD.out e he) AEw.out)
                       clear hm5 hb5)))
                  all_goals (
                    have EG:=Lib.hid (own_below RP.out Lt.out Fe.out AEv.out)
                    have AHn:Hid (∀ e∈ps++[(sm,(some ⟨gm,0,none⟩,k,cm),List.zipWith (·+·) x.2.2 y.2.2)],CU w8 (g0+1) k e):=Lib.hid (fun e he=>by
                      rcases List.mem_append.1 he with he | he
                      · exact (ACj.out e he).QY RP.out Lt.out
                      · simp at he
                        subst he
                        have hle:g0+1≤wr.drew.heap.size:=by
                          show g0+1≤wr.heap.size
                          have h1:=Hb2.out.size;have h2:=bL.out;have h3:=Gf.out.size;have h4:=Ec.out.size;have h5:=HB.out;omega
                        have hmm:CU (w5.alloc (.cells #[.int .i64 (sm:Int),.slice (some ⟨gm,0,none⟩) k cm] 292)) (g0+1) k (sm,(some ⟨gm,0,none⟩,k,cm),List.zipWith (·+·) x.2.2 y.2.2):=⟨gm,cm,rfl,Ai Hm7.out hle⟩
                        exact hmm.QY RP.out Lt.out)
                    have AKm:Hid ((ps++([(sm,(some ⟨gm,0,none⟩,k,cm),List.zipWith (·+·) x.2.2 y.2.2)]:List El)).map f2=pairs ((BS Lj t).take (2*(j+1)))):=Lib.hid (by rw[yE.out,List.map_append,Hps.out,←Hsm.out];rfl)
                    clear Hm7 RP Fe AEv jQ ACj AEw Lt ck0 ck1 cq0 cq1
                    go_wp2_with fail
                    go_roundw
                    case rel=>exact⟨j+1,_,int_eq (by have:=Hkk.out;omega),by have:=Hkk.out;omega,by rw[List.length_append,List.flatMap_append];exact GH.out,AHn.out,AKm.out,EG.out⟩
                    case measure=>simp[intOf];omega)
                · have Hpf:Hid (ps.map f2=pairs (BS Lj t)):=Lib.hid (by
                    have h1:=Hkk.out
                    have h2:(BS Lj t).length=Nt:=by rw[←G6.out,List.length_map,HNt.out]
                    rw[Hps.out]
                    exact pI _ j (by omega) (by omega))
                  obtain⟨PA,pc,hv,_,_,_,_⟩:=Ag aK.out
                  subst hv
                  obtain⟨pl,AEx⟩:∃ pl,ps.length=pl:=⟨_,rfl⟩
                  have Hpl:=Lib.hid AEx
                  rw[AEx]at aK⊢
                  have ANA:pl≤576:=by omega
                  clear hpl AEx Hkk Hps hkq
                  have H1o:=Lib.hid (AP (AP GZ.out Gf.out) (HB.out.symm▸Ec.out))
                  have AHo:Hid (Od (wr.alloc (.cells #[.slice (some ⟨g1,0,none⟩) N1 c1,.slice PA pl pc] 290)) 2 (.slice (some ⟨g1,0,none⟩) N1 c1) N1 (aI.flatMap CO)):=Lib.hid (YS (H1o.out.alloc _))
                  have AHp:Hid (Od (wr.alloc (.cells #[.slice (some ⟨g1,0,none⟩) N1 c1,.slice PA pl pc] 290)) 2 (.slice PA pl pc) pl (ps.flatMap CO)):=Lib.hid (YS (aK.out.alloc _))
                  have qU:Hid (AR (wr.alloc (.cells #[.slice (some ⟨g1,0,none⟩) N1 c1,.slice PA pl pc] 290)) (some ⟨wr.heap.size,0,none⟩) [.slice (some ⟨g1,0,none⟩) N1 c1,.slice PA pl pc]):=Lib.hid (AR.of_heap (heap_alloc_new _ _) rfl)
                  have qV:Hid (Below wr.heap.size wr (wr.alloc (.cells #[.slice (some ⟨g1,0,none⟩) N1 c1,.slice PA pl pc] 290))):=Lib.hid ((Below.refl _ _).alloc (Nat.le_refl _) _)
                  go_wp2_with fail
                  refine (Km.I9 (some ⟨wr.heap.size,0,none⟩) 2 2 [(.slice (some ⟨g1,0,none⟩) N1 c1,N1,aI.flatMap CO),(.slice PA pl pc,pl,ps.flatMap CO)] _ rfl (by omega) qU.out (fun r hr=>by
                    simp at hr
                    rcases hr with rfl | rfl
                    · exact AHo.out
                    · exact AHp.out) (fun r hr=>by
                    simp at hr
                    rcases hr with rfl | rfl
                    · exact OO aI
                    · exact OO ps) (by simp[Km.total];omega)).mono ?_
                  rintro e w6 ⟨v6,rfl,hown6,hb6⟩
                  have hcc:Km.cellsOf [(Value.slice (some ⟨g1,0,none⟩) N1 c1,N1,aI.flatMap CO),(Value.slice PA pl pc,pl,ps.flatMap CO)]=(aI++ps).flatMap CO:=by simp[Km.cellsOf]
                  have htt:Km.total [(Value.slice (some ⟨g1,0,none⟩) N1 c1,N1,aI.flatMap CO),(Value.slice PA pl pc,pl,ps.flatMap CO)]=N1+pl:=by simp[Km.total]
                  rw[hcc,htt]at hown6
                  obtain⟨NN,hNN⟩:∃ NN,N1+pl=NN:=⟨_,rfl⟩
                  rw[hNN]at hown6
                  obtain⟨g6,c6,hv6,IJ,AKn⟩:=hown6.form (by omega)
                  subst hv6
                  have mQ:Hid (g0+1≤wr.heap.size∧w2.heap.size≤wr.heap.size):=Lib.hid (by
                    have h1:=Hb2.out.size;have h2:=bL.out;have h3:=Gf.out.size;have h4:=Ec.out.size;have h5:=HB.out;omega)
                  have yF:=Lib.hid (Ai hown6 (by have h1:=qV.out.size;have:=mQ.out.2;omega:w2.heap.size≤_))
                  have AEy:=Lib.hid (Gf.out.trans ((Ec.out.mono (by have h3:=Gf.out.size;have h5:=HB.out;omega)).trans ((qV.out.mono mQ.out.2).trans (hb6.mono (by have h1:=qV.out.size;have:=mQ.out.2;omega)))))
                  have Hm1:Hid (∀ e∈aI++ps,CU w6 (g0+1) k e):=Lib.hid (fun e he=>by
                    rcases List.mem_append.1 he with he | he
                    · exact ((yB.out e he).below AEy.out)
                    · exact (((yD.out e he).below qV.out).below hb6))
                  have AHq:Hid ((CR CQ (aI++ps)).map f2=BS Lj (t+1)):=Lib.hid (by rw[jy,List.map_append,Lg.out,Hpf.out];rfl)
                  have Hr6:=Lib.hid (UW w2.heap.size g6 NN c6 (aI++ps) w6 yF.out (by omega) (fun e he=>by
                    have h1:f2 e∈BS Lj (t+1):=by rw[←AHq.out];exact List.mem_map_of_mem ((Ct CQ _).mem_iff.2 he)
                    have:=(UK (Ry Lj yC.out (t+1) _ h1) (by omega)).1
                    omega))
                  have AHr:Hid ((CR CQ (aI++ps)).length=NN):=Lib.hid (by rw[EW,List.length_append,Hln.out,Hpl.out];exact hNN)
                  clear hown6 hb6 hcc htt IJ AKn AHo AHp qU H1o aK yD
                  go_wp2_with fail
                  refine (Hr6.out).mono ?_
                  rintro e w7 ⟨rfl,ACk,Ee⟩
                  have AHs:=Lib.hid (Ai ACk (by have h1:=Hb2.out.size;have h2:=bL.out;omega:g0+1≤w2.heap.size))
                  have AKo:=Lib.hid (own_below yF.out Ee AEy.out AEy.out.size)
                  have Hm7:Hid (∀ e∈CR CQ (aI++ps),CU w7 (g0+1) k e):=Lib.hid (fun e he=>(Hm1.out e ((Ct CQ _).mem_iff.1 he)).QY yF.out Ee)
                  clear ACk Ee Hr6
                  go_wp2_with fail
                  go_roundw
                  case rel=>exact⟨t+1,CR CQ (aI++ps),by omega,by go_num,by rw[AHr.out];exact AHs.out,Hm7.out,AHq.out,AKo.out⟩
                  case measure=>simp[intOf];omega
            · obtain rfl:t=L1:=by omega
              obtain⟨M,hM⟩:∃ M,M=2*N1 - 2:=⟨_,rfl⟩
              have hMN:M≤Nt:=by
                have h1:=Q9 Lj L hL1 (by rw[YJ.out];exact Hus.out)
                rw[show L - 1=t by have:=HL.out;omega,←G6.out,List.length_map,HNt.out,YJ.out]at h1
                omega
              obtain⟨A9,c9,hv9,hcap,_,_,_⟩:=Ag DF.out
              injection hv9 with hv1 hv2 hv3
              subst hv3
              clear hv1 hv2
              have eM:2*(N1:Int) - 2=(M:Int):=by omega
              have hMc:M≤cr:=by omega
              have AHt:Hid (wr.ownsRow g0 3 1 (.slice (some ⟨g0,0,none⟩) k k) k ((Dy k (([]:List El).map f2)).map nv)):=Lib.hid (by
                have h1:=ABV aH.out (Hb2.out.trans (Gf.out.mono (by have h1:=Hb2.out.size;have h2:=bL.out;omega))) (by omega:g0 < g0+1)
                simpa [Dy] using h1)
              have qV:Hid (Below g0 w wr):=Lib.hid (Hb1.out.trans ((Hb2.out.mono (by omega)).trans (Gf.out.mono (by have h1:=Hb2.out.size;have h2:=bL.out;omega))))
              have AKp:Hid (AV (CS zs) (L:Int).toNat=Dy k ((et.map f2).take M)):=Lib.hid (by rw[HLP.out,hM,G6.out,show L - 1=t by have:=HL.out;omega])
              have Hlen:Hid (∀ e∈et,e.2.2.length=k):=Lib.hid (fun e he=>(VG.out e he).len)
              have bE:Hid (∀ e∈et,∀ x∈e.2.2,x≤40000):=Lib.hid (fun e he=>(UK (Ry Lj yC.out t _ (by rw[←G6.out];exact List.mem_map_of_mem he)) (by omega)).2)
              clear hM aH Hb2 yB Lg Hln YJ yC HLP Hus GZ Gf G6
              go_wp2_with fail
              clear eM
              go_loopw [106] (fun i wr=>∃ j:Nat,j≤M∧i=.int .i64 (j:Int)∧wr.ownsRow g0 3 1 (.slice (some ⟨g0,0,none⟩) k k) k ((Dy k ((et.map f2).take j)).map nv)∧wr.ownsRow (g0+1) 292 2 (.slice (some ⟨gr,0,none⟩) Nt cr) Nt (et.flatMap CO)∧(∀ e∈et,CU wr (g0+1) k e)∧Below g0 w wr) (fun i _=>M - (intOf i).toNat)
              case atStart=>exact⟨0,Nat.zero_le _,rfl,by simpa using AHt.out,DF.out,VG.out,qV.out⟩
              case round=>
                obtain⟨j,hj,rfl,hout,hown,PT,hbw⟩:=hrel
                have aH:=Lib.hid hout
                have AHu:=Lib.hid hown
                have yG:=Lib.hid PT
                have ABX:=Lib.hid hbw
                clear hout PT hbw
                by_cases hlt:j < M
                · have hjl:j < et.length:=by rw[HNt.out];omega
                  obtain⟨ga,ca,hva,_⟩:=(yG.out _ (List.getElem_mem hjl)).val
                  have c0:wr.cell? ⟨gr,j*2,none⟩=some (.int .i64 (et[j].1:Int)):=by rw[hown.cellAt (j*2) (by omega),UL et j hjl];rfl
                  have c1:wr.cell? ⟨gr,j*2+1,none⟩=some (.slice (some ⟨ga,0,none⟩) k ca):=by rw[hown.cellAt (j*2+1) (by omega),UM et j hjl,hva]
                  have Hsn:Hid ((et.map f2).take (j+1)=(et.map f2).take j++[f2 et[j]]):=Lib.hid (by rw[List.take_succ_eq_append_getElem (by rw[List.length_map];exact hjl),List.getElem_map])
                  have Hme:=Lib.hid (List.getElem_mem hjl)
                  obtain⟨x,hx⟩:∃ x,et[j]=x:=⟨_,rfl⟩
                  rw[hx]at hva c0 Hsn Hme
                  have Z8:=Lib.hid (Hlen.out x Hme.out)
                  have Hxb:=Lib.hid (bE.out x Hme.out)
                  have Hcl:Hid ((Dy k ((et.map f2).take j)).length=k):=Lib.hid (fZ k _ (fun p hp=>by
                    obtain⟨e,he,rfl⟩:=List.mem_map.1 (List.mem_of_mem_take hp)
                    exact Hlen.out e he))
                  have VJ:Hid (∀ z∈Dy k ((et.map f2).take j),z≤100000000):=Lib.hid (fun z hz=>by
                    have:=pK k 40000 _ (fun p hp=>by
                      obtain⟨e,he,rfl⟩:=List.mem_map.1 (List.mem_of_mem_take hp)
                      exact bE.out e he) z hz
                    rw[List.length_take]at this
                    have h2:min j (et.map f2).length≤j:=Nat.min_le_left _ _
                    have h3:40000*min j (et.map f2).length≤40000*576:=Nat.mul_le_mul_left _ (by omega)
                    omega)
                  have Hva:=Lib.hid hva
                  have hjc:j < cr:=by omega
                  clear hown hva hx
                  generalize AHv:Dy k ((et.map f2).take j)=cur at *
                  have AKq:=Lib.hid AHv
                  clear AHv
                  go_wp2_with fail
                  have AHw:=Lib.hid (aH.out.alloc (.cells #[.int .i64 (x.1:Int),.slice (some ⟨ga,0,none⟩) k ca] 292))
                  have AHx:=Lib.hid (AHu.out.alloc (.cells #[.int .i64 (x.1:Int),.slice (some ⟨ga,0,none⟩) k ca] 292))
                  have AHy:Hid (∀ e∈et,CU (wr.alloc (.cells #[.int .i64 (x.1:Int),.slice (some ⟨ga,0,none⟩) k ca] 292)) (g0+1) k e):=Lib.hid (fun e he=>(yG.out e he).below ((Below.refl _ _).alloc (Nat.le_refl _) _))
                  have AKr:=Lib.hid (ABX.out.alloc (by rw[←Hg0.out];exact ABX.out.size) (.cells #[.int .i64 (x.1:Int),.slice (some ⟨ga,0,none⟩) k ca] 292))
                  clear aH AHu yG ABX c0 c1
                  generalize wr.alloc (.cells #[.int .i64 (x.1:Int),.slice (some ⟨ga,0,none⟩) k ca] 292)=wq at *
                  go_loopw [113] (fun i wx=>∃ q:Nat,q≤k∧i=.int .i64 (q:Int)∧wx.ownsRow g0 3 1 (.slice (some ⟨g0,0,none⟩) k k) k ((KU cur x.2.2 q).map nv)∧wx.ownsRow (g0+1) 292 2 (.slice (some ⟨gr,0,none⟩) Nt cr) Nt (et.flatMap CO)∧(∀ e∈et,CU wx (g0+1) k e)∧Below g0 w wx) (fun i _=>k - (intOf i).toNat)
                  case atStart=>exact⟨0,Nat.zero_le _,rfl,by rw[UR];exact AHw.out,AHx.out,AHy.out,AKr.out⟩
                  case round=>
                    obtain⟨q,hq,rfl,hout,hown,PT,hbw⟩:=hrel
                    have ACl:=Lib.hid hown
                    have yH:=Lib.hid PT
                    have AHz:=Lib.hid hbw
                    clear hown PT hbw
                    by_cases hlt3:q < k
                    · have q1:q < cur.length:=by rw[Hcl.out];exact hlt3
                      have q2:q < x.2.2.length:=by rw[Z8.out];exact hlt3
                      obtain⟨ga',ca',AH0,hS⟩:=(yH.out x Hme.out).val
                      rw[Hva.out]at AH0
                      injection AH0 with v1 v2 v3
                      injection v1 with v1
                      injection v1 with v1
                      subst v1
                      obtain⟨b9,o9,Px,hc9⟩:=AR.get hS (k:=q) (by rw[List.length_map];exact q2)
                      injection Px with Px
                      injection Px with AKs AKt
                      subst AKs AKt
                      have hcx:wr.cell? ⟨ga,q,none⟩=some (.int .i64 (x.2.2[q]:Int)):=by
                        have:=hc9
                        simpa [nv] using this
                      have hget:=WM cur x.2.2 q q1 q2
                      have Lb:=Lib.hid (UQ cur x.2.2 q q1 q2)
                      have hco:wr.cell? ⟨g0,q,none⟩=some (.int .i64 (cur[q]:Int)):=by rw[hout.cellAt q (by omega),List.getElem?_map,hget];rfl
                      have hfz:=hout.frozenAt q
                      have Cw:=Lib.hid (fun u=>(hout.stored q u).1)
                      have hb1:=VJ.out _ (List.getElem_mem q1)
                      have hb2:=Hxb.out _ (List.getElem_mem q2)
                      generalize cur[q]=a1 at *
                      generalize x.2.2[q]=a2 at *
                      clear hout hget hc9 hS v2 v3
                      go_wp2_with fail
                      go_roundw
                      case rel=>
                        refine⟨q+1,by omega,by go_num,?_,ownsRow_setCell_other ACl.out (by simp[Value.ownBlock];omega) _,fun e he=>(yH.out e he).Ca _ (by show g0 < g0+1;omega) _,AHz.out.setCell (Nat.le_refl _) _⟩
                        have:=Cw.out (.int .i64 ((a1:Int)+(a2:Int)))
                        rw[Lb.out,List.map_set]
                        exact this
                      case measure=>simp[intOf];omega
                    · obtain rfl:q=k:=by omega
                      have hall:=WN cur x.2.2 (by rw[Hcl.out,Z8.out])
                      rw[Hcl.out]at hall
                      rw[hall]at hout
                      have AH1:=Lib.hid hout
                      clear hout hall
                      go_wp2_with fail
                      go_roundw
                      case rel=>exact⟨j+1,by omega,by go_num,by rw[Hsn.out,Mt,AKq.out];exact AH1.out,ACl.out,yH.out,AHz.out⟩
                      case measure=>simp[intOf];omega
                · obtain rfl:j=M:=by omega
                  go_wp2_with fail
                  go_ret2
                  refine⟨.inr ⟨H0.out,_,rfl,?_⟩,by rw[Hg0.out];exact ABX.out⟩
                  rw[AKp.out,Hn.out,Hg0.out];exact aH.out
theorem Yc (A:Option Addr) (n c:Nat) (zs:List Int) (most:Int) (w:World) (hn:zs.length=n) (hx:n≤maxLen) (hA:Lf w A zs) :
  Calls Tryz.prog 190 #[.slice A n c,.int .i64 most] w (jw zs most w):=by
 by_cases h0:MG zs most=0
 ·obtain⟨L,rfl⟩:=Int.eq_ofNat_of_zero_le (by have:=WO zs most h0;omega:0≤most)
  exact gB A n c L zs w hn hx hA h0
 ·have HC:=Lib.hid (UT A n c zs most w hn hx hA)
  clear hn hx hA
  generalize hz:MG zs most=z at *
  have Hz:=Lib.hid hz
  have h1:(z == 0)=false:=by simpa using h0
  clear hz
  go_enter Tryz.func190,Tryz.ntmps190
  go_wp2_with fail
  refine (HC.out).mono ?_
  rintro e wx ⟨rfl,rfl⟩
  go_wp2_with fail
  go_ret2
  exact⟨.inl ⟨by rw[Hz.out];exact h0,by rw[Hz.out];rfl⟩,Below.refl _ _⟩
end Go.Proofs.YtabdianhoabhhaaGreatDoor.Cv
namespace Go.Proofs.YtabdianhoabhhaaGreatDoor.Bits
open Go Go.RowKit Go.Proofs.YtabdianhoabhhaaGreatDoor
set_option linter.unusedVariables false
theorem ty8:Bo Tryz.prog 23 5 (.int .u8 0) 1 1:=⟨Tryz.underlying23,by kernel_rfl,rfl,by omega⟩
theorem ng (n k:Nat) (h:n < 9223372036854775808):bits .and .i64 ((n:Int) / 2 ^ k) 1=((n.testBit k).toNat:Int):=by
 have h2:(n:Int) / 2 ^ k=((n / 2 ^ k:Nat):Int):=by simp
 have hlt:n / 2 ^ k < 9223372036854775808:=Nat.lt_of_le_of_lt (Nat.div_le_self _ _) h
 have hx:BitVec.ofInt 64 ((n / 2 ^ k:Nat):Int)=BitVec.ofNat 64 (n / 2 ^ k):=by rw[BitVec.ofInt_natCast]
 rw[h2]
 show IntKind.i64.wrap ((BitVec.ofInt 64 ((n / 2 ^ k:Nat):Int) &&& BitVec.ofInt 64 (1:Int)).toNat:Int)=_
 have h1:(BitVec.ofInt 64 ((n / 2 ^ k:Nat):Int) &&& BitVec.ofInt 64 (1:Int)).toNat=(n / 2 ^ k) % 2:=by
  rw[hx,BitVec.toNat_and,BitVec.toNat_ofNat,Nat.mod_eq_of_lt (by omega),show (BitVec.ofInt 64 (1:Int)).toNat=1 from rfl,nat_mask1]
 rw[h1,Nat.toNat_testBit];exact IntWalk.i64_in _ (by omega)
def Tf (b:Bool):Int:=(b.toNat:Int)
theorem wL (n k:Nat) (h:n < 9223372036854775808):bits .and .i64 ((n:Int) / 2 ^ k) 1=Tf (n.testBit k):=ng n k h
end Go.Proofs.YtabdianhoabhhaaGreatDoor.Bits
namespace Go.Proofs.YtabdianhoabhhaaGreatDoor.Bits
open Go Go.RowKit Go.Proofs.YtabdianhoabhhaaGreatDoor
set_option linter.unusedVariables false
def EB (w:World) (p:Nat) (A:Option Addr) (n c:Nat) (pos:Nat):Prop:=AX w p 213 #[.slice A n c,.int .i64 (pos:Int)]
def Fh:List TypeId:=[213]
theorem Z9 (x:UInt8) (r:Nat):bits .and .u8 (n8 x / 2 ^ r) 1=Tf (x.toNat.testBit r):=by
 have hx:=x.toNat_lt
 have hlt:x.toNat / 2 ^ r < 256:=Nat.lt_of_le_of_lt (Nat.div_le_self _ _) hx
 have h2:n8 x / 2 ^ r=((x.toNat / 2 ^ r:Nat):Int):=by unfold n8;simp
 rw[h2,show (1:Int)=((1:Nat):Int) from rfl,u8_and_nat _ _ hlt (by omega),nat_mask1]
 unfold Tf;rw[Nat.toNat_testBit]
theorem ABP (b:Bool):0≤Tf b∧Tf b≤1:=by cases b <;> decide
theorem ADO (a b i:Nat) (ha:a % 2 ^ i=0) (hb:b < 2 ^ i) (hs:a+b < 9223372036854775808):bits .or .i64 (a:Int) (b:Int)=((a+b:Nat):Int):=by
 have h1:BitVec.ofInt 64 (a:Int)=BitVec.ofNat 64 a:=by rw[BitVec.ofInt_natCast]
 have h2:BitVec.ofInt 64 (b:Int)=BitVec.ofNat 64 b:=by rw[BitVec.ofInt_natCast]
 show IntKind.i64.wrap ((BitVec.ofInt 64 (a:Int) ||| BitVec.ofInt 64 (b:Int)).toNat:Int)=_
 rw[h1,h2,BitVec.toNat_or,BitVec.toNat_ofNat,BitVec.toNat_ofNat,Nat.mod_eq_of_lt (by omega),Nat.mod_eq_of_lt (by omega),nat_join i a b ha hb]
 exact IntWalk.i64_in _ (by omega)
theorem WI (a b:Int):bits .or .i64 a b=bits .or .i64 b a:=by
 show IntKind.i64.wrap ((BitVec.ofInt 64 a ||| BitVec.ofInt 64 b).toNat:Int)=IntKind.i64.wrap ((BitVec.ofInt 64 b ||| BitVec.ofInt 64 a).toNat:Int)
 rw[BitVec.or_comm]
theorem xY (n k:Nat) (b:Bool) (hn:n < 2 ^ k) (hk:k≤61):bits .or .i64 (n:Int) (wrap64 (Tf b*2 ^ k))=((n+b.toNat*2 ^ k:Nat):Int):=by
 have h2:2 ^ k≤2 ^ 61:=Nat.pow_le_pow_right (by omega) hk
 have hb:b.toNat≤1:=by cases b <;> simp
 have hbb:b.toNat*2 ^ k≤1*2 ^ k:=Nat.mul_le_mul_right _ hb
 have e:Tf b*2 ^ k=((b.toNat*2 ^ k:Nat):Int):=by unfold Tf;simp
 have e2:wrap64 ((b.toNat*2 ^ k:Nat):Int)=((b.toNat*2 ^ k:Nat):Int):=by unfold wrap64;omega
 rw[e,e2,WI,ADO _ _ k (Nat.mul_mod_left _ _) hn (by omega),Nat.add_comm]
theorem X0 {w:World} {A:Option Addr} {cs:List Value} (h:AR w A cs) {p:Addr} (hne:∀ b o,A=some ⟨b,o,none⟩→0 < cs.length→b≠p.block) (u:Value):AR (w.setCell p u) A cs:=fun hp=>by
 obtain⟨b,o,e,hc⟩:=h hp
 refine⟨b,o,e,fun j v hj=>?_⟩
 rw[World.cell?_of_block (Below.heap_setCell w p u b (hne b o e hp))]
 exact hc j v hj
theorem VF (l:List Bool) (k:Nat) (h:k < l.length):num (l.take (k+1))=num (l.take k)+l[k].toNat*2 ^ k:=by
 rw[BI _ _ h,R7]
 simp[num,Nat.min_eq_left (Nat.le_of_lt h)]
 exact Nat.mul_comm _ _
theorem di (A:Option Addr) (n c:Nat) (w:World) :
  Calls Tryz.prog 121 #[.slice A n c] w fun e w'=>e=.returned (.pointer (some ⟨w.heap.size,0,none⟩))∧EB w' w.heap.size A n c 0∧Below w.heap.size w w':=by
 go_enter Tryz.func121,Tryz.ntmps121
 go_wp2
 go_ret
 exact⟨rfl,AX.new w _ _,(Below.refl _ _).alloc (Nat.le_refl _) _⟩
def PM (p:Nat) (A:Option Addr) (n c pos size:Nat) (xs:List UInt8) (w:World) (e:Ending) (w':World):Prop:=
  (pos+size≤8*n∧e=.returned (.tuple #[.int .i64 (num (((AO xs).drop pos).take size):Nat),.bool true])∧EB w' p A n c (pos+size)∨
   8*n < pos+size∧e=.returned (.tuple #[.int .i64 0,.bool false])∧∃ q,EB w' p A n c q)∧AB p Fh w w'
set_option maxRecDepth 100000 in
set_option maxHeartbeats 1600000 in
theorem M6 (p:Nat) (A:Option Addr) (n c pos size:Nat) (xs:List UInt8) (w:World) (h:EB w p A n c pos) (hn:xs.length=n) (hA:BD w A xs) (hs:size≤61) (hp:pos≤8*n) (hnn:n≤1099511627776) (hbx:∀ b o,A=some ⟨b,o,none⟩→0 < n→b≠p) :
  Calls Tryz.prog 200 #[.pointer (some ⟨p,0,none⟩),.int .i64 (size:Int)] w (PM p A n c pos size xs w):=by
 have H:=Lib.hid h
 have Hn:=Lib.hid hn
 have HA:=Lib.hid hA
 have Ec:=Lib.hid hbx
 clear h hn hA hbx
 go_enter Tryz.func200,Tryz.ntmps200
 go_wp2_with fail
 go_loopw [6,9] (fun a i wr=>∃ k:Nat,k≤size∧pos+k≤8*n∧i=.int .i64 k∧a=.int .i64 (num (((AO xs).drop pos).take k):Nat)∧EB wr p A n c (pos+k)∧AB p Fh w wr∧BD wr A xs) (fun _ i _=>size - (intOf i).toNat)
 case atStart=>exact⟨0,Nat.zero_le _,hp,rfl,rfl,H.out,AB.refl _ _ _,HA.out⟩
 case round=>
  obtain⟨k,hk,hpk,rfl,rfl,hsrc,hkeep,hby⟩:=hrel
  have xZ:=Lib.hid hsrc
  have xg:=Lib.hid hkeep
  have Hby:=Lib.hid hby
  have e0:=hsrc.c0
  have e1:=hsrc.c1
  have z1:=hsrc.frozen 1
  obtain⟨q,hq⟩:∃ q,q=pos+k:=⟨_,rfl⟩
  rw[←hq]at e1 hpk xZ
  have Hq:=Lib.hid hq
  clear hsrc hkeep hby hq
  by_cases hlt:k < size
  ·by_cases hin:q < 8*n
   ·have RS:q < (AO xs).length:=by rw[BV,Hn.out];exact hin
    have hkd:k < ((AO xs).drop pos).length:=by rw[List.length_drop];have:=Hq.out;omega
    have hx:q / 8 < xs.length:=by rw[Hn.out];omega
    obtain⟨b,o,rfl,hc⟩:=Hby.out.get hx
    have AHg:=Lib.hid (VF ((AO xs).drop pos) k hkd)
    have hbit:((AO xs).drop pos)[k]=xs[q / 8].toNat.testBit (q % 8):=by
     have h1:=Pn xs q (by rw[Hn.out];exact hin)
     rw[List.getElem_drop]
     have h2:(AO xs)[pos+k]?=(AO xs)[q]?:=by rw[Hq.out]
     rw[h1]at h2
     have h3:(AO xs)[pos+k]'(by have:=Hq.out;omega)=xs[q / 8].toNat.testBit (q % 8):=by
      have h4:=List.getElem?_eq_getElem (l:=AO xs) (i:=pos+k) (by have:=Hq.out;omega)
      rw[h4]at h2
      injection h2 with h2
      rw[h2];simp[List.getD,hx]
     exact h3
    rw[hbit]at AHg
    have AKj:num (((AO xs).drop pos).take k) < 2 ^ k:=by
     have:=Pm (((AO xs).drop pos).take k)
     rwa [List.length_take,Nat.min_eq_left (by omega)]at this
    have hor:=xY _ k (xs[q / 8].toNat.testBit (q % 8)) AKj (by omega)
    have hand:=Z9 xs[q / 8] (q % 8)
    generalize num (((AO xs).drop pos).take k)=m at *
    generalize xs[q / 8]=x at *
    generalize x.toNat.testBit (q % 8)=bb at *
    have hbb:=ABP bb
    have hr8:q % 8 < 8:=by omega
    have hge:¬ (8*(n:Int)≤(q:Int)):=by omega
    clear hbit hx
    go_wp2_with fail
    go_quiet (fail)
    go_wp2_with fail
    go_quiet (fail)
    go_wp2_with fail
    go_roundw
    case rel=>
     refine⟨k+1,by omega,by have:=Hq.out;omega,by go_num,int_eq (by rw[AHg.out];simp),?_,?_,?_⟩
     ·have h2:((pos+(k+1):Nat):Int)=(q:Int)+1:=by have:=Hq.out;omega
      unfold EB
      rw[h2];exact AX.s1 (AX.drewN xZ.out _) _
     ·exact (xg.out.drewN _).Dv (xZ.out.drewN _) (by simp[Fh]) (Nat.le_refl _) 1 _
     ·exact X0 (Hby.out) (fun b' o' e _=>Ec.out b' o' e (by omega)) _
    case measure=>simp[intOf];omega
   ·have hge:8*(n:Int)≤(q:Int):=by omega
    go_wp2_with fail
    go_quiet (fail)
    go_wp2_with fail
    go_ret2
    exact⟨.inr ⟨by have:=Hq.out;omega,rfl,q,xZ.out⟩,xg.out.drewN _⟩
  ·have hk2:k=size:=by omega
   have Hk2:=Lib.hid hk2
   clear hk2
   go_wp2_with fail
   go_ret2
   refine⟨.inl ⟨by have:=Hq.out;have:=Hk2.out;omega,by rw[←Hk2.out];rfl,?_⟩,xg.out⟩
   have h1:=xZ.out
   rw[Hq.out,Hk2.out]at h1
   exact h1
end Go.Proofs.YtabdianhoabhhaaGreatDoor.Bits
namespace Go.Proofs.YtabdianhoabhhaaGreatDoor.Code
open Go Go.RowKit Go.Proofs.YtabdianhoabhhaaGreatDoor Go.Proofs.YtabdianhoabhhaaGreatDoor.Bits
set_option linter.unusedVariables false
theorem ai:Bo Tryz.prog 89 3 (.int .i64 0) 1 8:=⟨Tryz.underlying89,by kernel_rfl,rfl,by omega⟩
def tab (cs:List Nat) (v:Value):Array Value:=(cs.map BR++[v]).toArray
theorem XD (cs:List Nat) (v:Value) (i:Nat) (h:i < cs.length):(tab cs v)[i]?=some (.int .i64 (cs[i]:Int)):=by
 simp[tab,List.getElem?_append_left,h,BR]
theorem Sl (cs:List Nat) (v:Value):(tab cs v)[cs.length]?=some v:=by
 simp[tab]
theorem iq (cs:List Nat) (v:Value) (i x:Nat) (h:i < cs.length):(tab cs v).setIfInBounds i (.int .i64 (x:Int))=tab (cs.set i x) v:=by
 unfold tab
 apply Array.ext'
 simp[BR,h]
theorem sj (cs:List Nat) (v u:Value):(tab cs v).setIfInBounds cs.length u=tab cs u:=by
 unfold tab
 apply Array.ext'
 simp
def Vf (ls:List Nat) (k:Nat):List Nat:=(List.range 16).map fun s=>(DL (ls.take k) s).length
theorem Kl (ls:List Nat) (k:Nat):(Vf ls k).length=16:=by simp[Vf]
theorem su (ls:List Nat):Vf ls 0=List.replicate 16 0:=by simp[Vf,DL];decide
theorem Rf (ls:List Nat) (k s:Nat) (h:s < 16):(Vf ls k)[s]'(by rw[Kl];exact h)=(DL (ls.take k) s).length:=by simp[Vf]
theorem sw (ls:List Nat) (k:Nat) (h:k < ls.length) (qR:ls.getD k 0 < 16):Vf ls (k+1)=(Vf ls k).set (ls.getD k 0) ((DL (ls.take k) (ls.getD k 0)).length+1):=by
 apply List.ext_getElem
 ·simp[Vf]
 ·intro i h1 h2
  have hi:i < 16:=by simpa [Vf] using h1
  rw[Rf _ _ _ hi,J9 ls k i h,List.getElem_set]
  by_cases hx:ls.getD k 0=i
  ·rw[if_pos hx,if_pos hx,hx];simp
  ·rw[if_neg hx,if_neg hx,Rf _ _ _ hi];simp
def P9 (ls:List Nat):List Nat:=(List.range 16).map (cnt ls)
theorem AAJ (ls:List Nat):(Vf ls ls.length).set 0 0=P9 ls:=by
 apply List.ext_getElem
 ·simp[Vf,P9]
 ·intro i h1 h2
  have hi:i < 16:=by simpa [Vf] using h1
  rw[List.getElem_set]
  simp only[P9,List.getElem_map,List.getElem_range]
  by_cases hx:0=i
  ·rw[if_pos hx,←hx];rfl
  ·rw[if_neg hx,Rf _ _ _ hi,List.take_length];unfold cnt;rw[if_neg (by omega)]
theorem Fz (ls:List Nat):(P9 ls).length=16:=by simp[P9]
theorem sK (ls:List Nat) (s:Nat) (h:s < 16):(P9 ls)[s]'(by rw[Fz];exact h)=cnt ls s:=by simp[P9]
def TabAt (w:World) (base p:Nat) (ls:List Nat):Prop:=base≤p∧∃ v,AX w p 264 (tab (P9 ls) v)∧w.ownsRow base 3 1 v (DW ls 15).length ((DW ls 15).map BR)
theorem Yu (ls:List Nat) (t:Nat):(DW ls t).length≤t*ls.length:=by
 induction t with
 | zero=>simp[DW]
 | succ t ih=>
  rw[Gg,List.length_append,Nat.succ_mul]
  have:=Jd ls (t+1)
  omega
set_option maxRecDepth 100000 in
set_option maxHeartbeats 1600000 in
theorem Sq (A:Option Addr) (n c:Nat) (zs:List Int) (w:World) (hn:zs.length=n) (hA:Lf w A zs) (hc:GG zs=0) :
  Calls Tryz.prog 163 #[.slice A n c] w fun e w'=>(∃ p,e=.returned (.pointer (some ⟨p,0,none⟩))∧TabAt w' w.heap.size p (BB zs))∧Below w.heap.size w w':=by
 obtain⟨f1,f2,f3,f4,f5⟩:=Sj zs hc
 have hx:n≤288:=by omega
 have Hl:=Lib.hid (Yq zs)
 rw[hn]at Hl
 have H5:=Lib.hid f5
 have Hn:=Lib.hid hn
 have HA:=Lib.hid hA
 have Hcz:=Lib.hid (su (BB zs))
 clear hn hA hc f1 f2 f3 f4 f5
 go_enter Tryz.func163,Tryz.ntmps163
 go_wp2_with fail
 generalize hg:w.heap.size=g at *
 have Hg:=Lib.hid hg
 clear hg
 go_loopw [13] (fun i wr=>∃ k:Nat,k≤n∧i=.int .i64 (k:Int)∧AX wr g 264 (tab (Vf (BB zs) k) (.slice none 0 0))∧Below w.heap.size w wr) (fun i _=>n - (intOf i).toNat)
 case atStart=>
  refine⟨0,Nat.zero_le _,rfl,?_,(Below.refl _ _).alloc (Nat.le_refl _) _⟩
  rw[Hcz.out,←Hg.out];exact AX.new w _ _
 case round=>
  obtain⟨k,hk,rfl,hblk,hb⟩:=hrel
  have Et:=Lib.hid hblk
  have Hb:=Lib.hid hb
  clear hblk hb
  by_cases hlt:k < n
  ·have hkl:k < zs.length:=by rw[Hn.out];exact hlt
   have sD:k < (BB zs).length:=by rw[Hl.out];exact hlt
   obtain⟨b,o,rfl,hcell⟩:=(HA.out.below Hb.out).get hkl
   have hz:=H5.out zs[k] (List.getElem_mem hkl)
   have Hd:=Lib.hid (Rc zs k hkl)
   have Hs:=Lib.hid (sw (BB zs) k sD)
   rw[Hd.out]at Hs
   generalize zs[k]=z at *
   obtain⟨x,rfl⟩:=Int.eq_ofNat_of_zero_le hz.1
   rw[Int.toNat_natCast]at Hs
   have hx16:x < 16:=by omega
   have hxl:x < (Vf (BB zs) k).length:=by rw[Kl];exact hx16
   have hcc:wr.cell? ⟨g,x,none⟩=some (.int .i64 ((DL ((BB zs).take k) x).length:Int)):=by rw[Et.out.cell,XD _ _ _ hxl,Rf _ _ _ hx16]
   have hfz:=Et.out.frozen x
   have hq:(DL ((BB zs).take k) x).length≤288:=by
    have h1:=Jd ((BB zs).take k) x
    have h2:((BB zs).take k).length≤k:=by simp;omega
    omega
   generalize (DL ((BB zs).take k) x).length=q at *
   go_wp2_with fail
   go_region
   go_wp2_with fail
   go_roundw
   case rel=>
    refine⟨k+1,by omega,by go_num,?_,?_⟩
    ·rw[Hs.out hx16,←iq _ _ _ _ hxl];exact (Et.out.Ca x _).drew
    ·exact (Hb.out.setCell (by show w.heap.size≤g;rw[Hg.out];exact Nat.le_refl _) _).drew
   case measure=>simp[intOf];omega
  ·obtain rfl:k=n:=by omega
   have h0l:0 < (Vf (BB zs) k).length:=by rw[Kl];omega
   have Hlen:=Lib.hid (Kl (BB zs) k)
   have Hcf:Hid ((Vf (BB zs) k).set 0 0=P9 (BB zs)):=Lib.hid (by rw[←AAJ,Hl.out])
   have hfz:=Et.out.frozen 0
   have hcc:wr.cell? ⟨g,0,none⟩=some (.int .i64 (((Vf (BB zs) k)[0]'h0l:Nat):Int)):=by rw[Et.out.cell,XD _ _ _ h0l]
   generalize (Vf (BB zs) k)[0]'h0l=q at *
   have Hb1:=Lib.hid (Hb.out.setCell (p:=⟨g,0,none⟩) (by show w.heap.size≤g;rw[Hg.out];exact Nat.le_refl _) (.int .i64 0))
   have AGI:Hid (AX (wr.setCell ⟨g,0,none⟩ (.int .i64 0)) g 264 (tab (P9 (BB zs)) (.slice none 0 0))):=Lib.hid (by
    rw[←Hcf.out]
    have:=iq (Vf (BB zs) k) (.slice none 0 0) 0 0 h0l
    rw[←this];exact Et.out.Ca 0 _)
   go_wp2_with fail
   clear hcc hfz
   generalize wr.setCell ⟨g,0,none⟩ (.int .i64 0)=wz at *
   clear Hb Et Hcf
   go_loopw [6] (fun s wo=>∃ t:Nat,t≤15∧s=.int .i64 ((t:Int)+1)∧(∃ v,AX wo g 264 (tab (P9 (BB zs)) v)∧wo.ownsRow w.heap.size 3 1 v (DW (BB zs) t).length ((DW (BB zs) t).map BR))∧Below w.heap.size w wo) (fun s _=>17 - (intOf s).toNat)
   case atStart=>exact⟨0,Nat.zero_le _,rfl,⟨_,AGI.out,⟨rfl,.inl ⟨rfl,rfl⟩⟩⟩,Hb1.out⟩
   case round=>
    obtain⟨t,ht,rfl,⟨v,hblk,hown⟩,hb⟩:=hrel
    have Et:=Lib.hid hblk
    have DF:=Lib.hid hown
    have Hb:=Lib.hid hb
    clear hblk hb hown
    by_cases hlt:t < 15
    ·have e15:decide ((t:Int)+1≤15)=true:=by simp;omega
     go_wp2_with fail
     clear e15
     go_loopw [38] (fun i wx=>∃ j:Nat,j≤k∧i=.int .i64 (j:Int)∧(∃ v,AX wx g 264 (tab (P9 (BB zs)) v)∧wx.ownsRow w.heap.size 3 1 v (DW (BB zs) t++DL ((BB zs).take j) (t+1)).length ((DW (BB zs) t++DL ((BB zs).take j) (t+1)).map BR))∧Below w.heap.size w wx) (fun i _=>k - (intOf i).toNat)
     case atStart=>exact⟨0,Nat.zero_le _,rfl,⟨v,Et.out,by simpa [DL] using DF.out⟩,Hb.out⟩
     case round=>
      obtain⟨j,hj,rfl,⟨v2,hblk,hown⟩,hb⟩:=hrel
      by_cases hjk:j < k
      ·have hjl:j < zs.length:=by rw[Hn.out];exact hjk
       have AJq:j < (BB zs).length:=by rw[Hl.out];exact hjk
       obtain⟨b,o,rfl,hcell⟩:=(HA.out.below hb).get hjl
       have hz:=H5.out zs[j] (List.getElem_mem hjl)
       have Hd:=Lib.hid (Rc zs j hjl)
       have Ht:=Lib.hid (J9 (BB zs) j (t+1) AJq)
       rw[Hd.out]at Ht
       have hN:(DW (BB zs) t++DL ((BB zs).take j) (t+1)).length≤100000:=by
        rw[List.length_append]
        have h1:=Yu (BB zs) t
        have h2:=Jd ((BB zs).take j) (t+1)
        have h3:((BB zs).take j).length≤j:=by simp;omega
        rw[Hl.out]at h1
        have h4:t*k≤15*k:=Nat.mul_le_mul_right _ ht
        omega
       generalize zs[j]=z at *
       obtain⟨x,rfl⟩:=Int.eq_ofNat_of_zero_le hz.1
       rw[Int.toNat_natCast]at Ht
       generalize hys:DW (BB zs) t++DL ((BB zs).take j) (t+1)=ys at *
       have Hys:=Lib.hid hys
       clear hys
       generalize hNN:ys.length=N at *
       have HN:=Lib.hid hNN
       clear hNN
       by_cases hxt:x=t+1
       ·have e1:((x:Int) == (t:Int)+1)=true:=by simp;omega
        have Hr:Hid (DW (BB zs) t++DL ((BB zs).take (j+1)) (t+1)=ys++[j]):=Lib.hid (by rw[Ht.out,if_pos hxt,←List.append_assoc,Hys.out])
        clear Ht hxt
        have hc16:wr.cell? ⟨g,16,none⟩=some v2:=by rw[hblk.cell,←Fz (BB zs),Sl]
        have GZ:=Lib.hid (hown.alloc (.cells #[.int .i64 (j:Int)] 3))
        have M5:=Lib.hid (R6 wr 3 (.int .i64 (j:Int)))
        have Qp:=Lib.hid (hblk.alloc (.cells #[.int .i64 (j:Int)] 3))
        have Hb2:=Lib.hid (hb.alloc hb.size (.cells #[.int .i64 (j:Int)] 3))
        have Hbs:=Lib.hid Hb2.out.size
        clear hblk hown hb
        go_wp2_with (at_builtin;refine AY _ rfl (.tmp 50) (.tmp 52) _ rfl w.heap.size 3 _ 1 8 ai v2 N (ys.map BR) rfl GZ.out (some ⟨wr.heap.size,0,none⟩) 1 1 [.int .i64 (j:Int)] rfl rfl M5.out (by simp[Value.oneCell']) (by simp) (by unfold maxLen;omega) (by omega) Hbs.out ?_;intro v3 w3 hown3 hg3 _;obtain⟨g3,c3,hv3,_,_⟩:=hown3.form (by omega);subst hv3;have Pv:=Lib.hid hown3;have Hb3:=Lib.hid (Qp.out.grown hg3 (own_ne GZ.out Qp.out (by decide)));have Hk3:=Lib.hid (own_below GZ.out hg3 Hb2.out Hbs.out);clear hown3 hg3;have AMN:=Hb3.out.frozen 16;have AMO:w3.cell? ⟨g,16,none⟩=some v2:=(by rw[Hb3.out.cell,←Fz (BB zs),Sl]))
        go_roundw
        case rel=>
         refine⟨j+1,by omega,by go_num,⟨Go.Value.slice (some ⟨g3,0,none⟩) (N+1) c3,?_,?_⟩,?_⟩
         ·have:=sj (P9 (BB zs)) v2 (Go.Value.slice (some ⟨g3,0,none⟩) (N+1) c3)
          rw[Fz]at this
          rw[←this];exact Hb3.out.Ca 16 _
         ·rw[Hr.out,List.length_append,HN.out,List.map_append]
          exact ownsRow_setCell_other Pv.out (a:=⟨g,16,none⟩) (by exact own_ne Pv.out Hb3.out (by decide)) _
         ·exact Hk3.out.setCell (by show w.heap.size≤g;rw[Hg.out];exact Nat.le_refl _) _
        case measure=>simp[intOf];omega
       ·have e1:((x:Int) == (t:Int)+1)=false:=by simp;omega
        have Hr:Hid (DW (BB zs) t++DL ((BB zs).take (j+1)) (t+1)=ys):=Lib.hid (by rw[Ht.out,if_neg hxt,List.append_nil,Hys.out])
        have Et:=Lib.hid hblk
        have DF:=Lib.hid hown
        have Hb:=Lib.hid hb
        clear Ht hxt hblk hown hb
        go_wp2_with fail
        go_roundw
        case rel=>exact⟨j+1,by omega,by go_num,⟨v2,Et.out,by rw[Hr.out,HN.out];exact DF.out⟩,Hb.out⟩
        case measure=>simp[intOf];omega
      ·obtain rfl:j=k:=by omega
       have FU:Hid ((BB zs).take j=BB zs):=Lib.hid (List.take_of_length_le (by rw[Hl.out];omega))
       have Et:=Lib.hid hblk
       have DF:=Lib.hid hown
       have Hb:=Lib.hid hb
       clear hblk hown hb
       rw[FU.out,←Gg]at DF
       go_wp2_with fail
       go_roundw
       case rel=>exact⟨t+1,by omega,by go_num,⟨v2,Et.out,DF.out⟩,Hb.out⟩
       case measure=>simp[intOf];omega
    ·obtain rfl:t=15:=by omega
     go_wp2_with fail
     go_ret
     exact⟨⟨g,rfl,by rw[Hg.out];exact Nat.le_refl _,v,Et.out,DF.out⟩,Hb.out⟩
end Go.Proofs.YtabdianhoabhhaaGreatDoor.Code
namespace Go.Proofs.YtabdianhoabhhaaGreatDoor.Code
open Go Go.RowKit Go.Proofs.YtabdianhoabhhaaGreatDoor Go.Proofs.YtabdianhoabhhaaGreatDoor.Bits
set_option linter.unusedVariables false
theorem sH (row:List Bool) (t:Nat) (h:t < row.length):val (row.take (t+1))=2*val (row.take t)+num ((row.drop t).take 1):=by
 rw[BI _ _ h,Yt,List.drop_eq_getElem_cons h]
 show 2*_+_=2*_+num [row[t]]
 simp[num]
theorem AAC (l:List Bool):num (l.take 1)≤1:=by
 have:=Pm (l.take 1)
 have h2:(l.take 1).length≤1:=by rw[List.length_take];omega
 have h3:2 ^ (l.take 1).length≤2 ^ 1:=Nat.pow_le_pow_right (by omega) h2
 omega
theorem AAD (v b:Nat) (hv:v≤1000000) (hb:b≤1):Go.bits .or .i64 (2*(v:Int)) (b:Int)=((2*v+b:Nat):Int):=by
 have:=ADO (2*v) b 1 (by omega) (by omega) (by omega)
 rwa [Int.natCast_mul]at this
theorem AR.sI {w w':World} {A:Option Addr} {cs:List Value} {q:Nat} {T:List TypeId} (h:AR w A cs) (hk:AB q T w w') (hlt:∀ b o,A=some ⟨b,o,none⟩→0 < cs.length→b < q):AR w' A cs:=fun hp=>by
 obtain⟨b,o,e,hc⟩:=h hp
 refine⟨b,o,e,fun j v hj=>?_⟩
 rw[World.cell?_of_block (hk.block b (hlt b o e hp))]
 exact hc j v hj
def sJ (q:Nat) (A:Option Addr) (n c pos:Nat) (xs:List UInt8) (ls:List Nat) (w:World) (e:Ending) (w':World):Prop:=
 (∃ k m x,next ls ((AO xs).drop pos)=(k,m,x)∧e=.returned (.tuple #[.int .i64 (k:Int),.int .i64 x])∧(x=0→EB w' q A n c (pos+m)∧pos+m≤8*n))∧AB q Fh w w'
theorem TabAt.keeps {w w':World} {base p q:Nat} {ls:List Nat} (h:TabAt w base p ls) (hk:AB q Fh w w'):TabAt w' base p ls:=by
 obtain⟨h1,v,h2,h3⟩:=h
 exact⟨h1,v,hk.blk h2 (by simp[Fh]),hk.own h3 (by simp[Fh])⟩
theorem TabAt.cnt {w:World} {base p:Nat} {ls:List Nat} (h:TabAt w base p ls) (s:Nat) (hs:s < 16):w.cell? ⟨p,s,none⟩=some (.int .i64 (cnt ls s:Int)):=by
 obtain⟨h1,v,h2,h3⟩:=h
 rw[h2.cell,XD _ _ _ (by rw[Fz];exact hs),sK _ _ hs]
theorem TabAt.ord {w:World} {base p:Nat} {ls:List Nat} (h:TabAt w base p ls):∃ A cap,w.cell? ⟨p,16,none⟩=some (.slice A (DW ls 15).length cap)∧AR w A ((DW ls 15).map BR):=by
 obtain⟨h1,v,h2,h3⟩:=h
 obtain⟨A,cap,rfl,_,_,h4,_⟩:=Ag h3
 exact⟨A,cap,by rw[h2.cell,←Fz ls,Sl],h4⟩
set_option maxRecDepth 100000 in
set_option maxHeartbeats 1600000 in
theorem Vb (base p q:Nat) (A:Option Addr) (n c pos:Nat) (xs:List UInt8) (ls:List Nat) (w:World) (hT:TabAt w base p ls) (hS:EB w q A n c pos) (hn:xs.length=n) (hA:BD w A xs) (hp:pos≤8*n) (hnn:n≤1099511627776)
  (hbx:∀ b o,A=some ⟨b,o,none⟩→0 < n→b < q) (hl:∀ x∈ls,x≤15) (hr:room ls≤32768) (hlen:ls.length≤288) :
  Calls Tryz.prog 233 #[.pointer (some ⟨p,0,none⟩),.pointer (some ⟨q,0,none⟩)] w (sJ q A n c pos xs ls w):=by
 have HT:=Lib.hid hT
 have HS:=Lib.hid hS
 have Hn:=Lib.hid hn
 have HA:=Lib.hid hA
 have Ec:=Lib.hid hbx
 have ADN:Hid (∀ s,s≤15→first ls s+cnt ls s≤32768):=Lib.hid (fun s hs=>by
  have h1:=cu ls s hs hl hr
  have h2:(2:Nat) ^ s≤2 ^ 15:=Nat.pow_le_pow_right (by omega) hs
  omega)
 have Hlen:=Lib.hid hlen
 clear hT hS hn hA hbx hl hr
 go_enter Tryz.func233,Tryz.ntmps233
 go_wp2_with fail
 go_loopw [6,7,8,9] (fun cd ft at_ sz wr=>∃ t:Nat,t≤15∧sz=.int .i64 ((t:Int)+1)∧cd=.int .i64 ((2*val (((AO xs).drop pos).take t):Nat):Int)∧ft=.int .i64 ((first ls (t+1):Nat):Int)∧at_=.int .i64 ((DW ls t).length:Int)∧
  first ls (t+1)≤2*val (((AO xs).drop pos).take t)∧pos+t≤8*n∧next ls ((AO xs).drop pos)=P7 ls ((AO xs).drop pos) (15 - t) (t+1)∧EB wr q A n c (pos+t)∧TabAt wr base p ls∧BD wr A xs∧AB q Fh w wr) (fun _ _ _ sz _=>17 - (intOf sz).toNat)
 case atStart=>exact⟨0,Nat.zero_le _,rfl,rfl,rfl,rfl,by simp[first,cnt,AAE],hp,rfl,HS.out,HT.out,HA.out,AB.refl _ _ _⟩
 case round=>
  obtain⟨t,ht,rfl,rfl,rfl,rfl,hfi,hpt,hnx,hsrc,htab,hby,hk⟩:=hrel
  have YY:=Lib.hid hnx
  have AJn:=Lib.hid htab
  have Hk:=Lib.hid hk
  have hrl:((AO xs).drop pos).length=8*n - pos:=by rw[List.length_drop,BV,Hn.out]
  have Hrl:=Lib.hid hrl
  by_cases hlt:t < 15
  ·have XE:=Lib.hid (M6 q A n c (pos+t) 1 xs wr hsrc Hn.out hby (by omega) hpt hnn (fun b o e h=>Nat.ne_of_lt (Ec.out b o e h)))
   have AGG:=Lib.hid hby
   clear hsrc htab hby hk hnx hrl
   go_wp2_with fail
   refine (XE.out).mono ?_
   rintro e w1 ⟨hg,hk1⟩
   have Hk1:=Lib.hid (Hk.out.trans hk1)
   have sM:=Lib.hid (AJn.out.keeps hk1)
   have Hby:Hid (BD w1 A xs):=Lib.hid (AR.sI AGG.out hk1 (fun b o e h=>Ec.out b o e (by rw[List.length_map,Hn.out]at h;exact h)))
   clear AGG
   clear hk1
   rcases hg with ⟨hfit,rfl,hs3⟩ | ⟨hno,rfl,q3,hs3⟩
   ·have Hs3:=Lib.hid hs3
    clear hs3
    have htl:t < ((AO xs).drop pos).length:=by rw[Hrl.out];omega
    have dA:=Lib.hid (sH _ t htl)
    rw[List.drop_drop]at dA
    have hb1:=AAC ((AO xs).drop (pos+t))
    have hvl:=sN (((AO xs).drop pos).take t)
    have hv2:val (((AO xs).drop pos).take t)≤32768:=by
     have h1:(((AO xs).drop pos).take t).length≤15:=by rw[List.length_take];omega
     have h2:(2:Nat) ^ (((AO xs).drop pos).take t).length≤2 ^ 15:=Nat.pow_le_pow_right (by omega) h1
     omega
    generalize num (((AO xs).drop (pos+t)).take 1)=b at *
    generalize val (((AO xs).drop pos).take t)=v at *
    have hor:=AAD v b (by omega) hb1
    have hcn:=sM.out.cnt (t+1) (by omega)
    have ha1:=ADN.out (t+1) (by omega)
    have hup:(DW ls t).length≤5000:=by
     have h1:=Yu ls t
     have h2:=Nat.mul_le_mul ht Hlen.out
     omega
    have Hff:Hid (first ls (t+1+1)=2*(first ls (t+1)+cnt ls (t+1))):=Lib.hid rfl
    have AGH:Hid ((DW ls (t+1)).length=(DW ls t).length+cnt ls (t+1)):=Lib.hid (by rw[Gg,List.length_append];simp[cnt])
    clear hvl
    by_cases hit:2*v+b < first ls (t+1)+cnt ls (t+1)
    ·obtain⟨i,hi1,hi2⟩:=Sm ls (t+1) (val (((AO xs).drop pos).take (t+1))) (by rw[dA.out];omega)
     have Yr:=Lib.hid (M7 ls ((AO xs).drop pos) (14 - t) (t+1) i (by omega) hi1)
     have Hpl:=Lib.hid (lJ ls t _ i hlt hi1)
     rw[dA.out]at Hpl
     obtain⟨B,cap,hB1,hB2⟩:=sM.out.ord
     have sO:=YY.out
     rw[show 15 - t=14 - t+1 by omega,Yr.out]at sO
     have hlk:=(List.getElem?_eq_some_iff.1 Hpl.out).1
     obtain⟨b2,o2,hBe,hBc⟩:=AR.get hB2 (k:=(DW ls t).length+(2*v+b - first ls (t+1))) (by simpa using hlk)
     subst hBe
     have hcell:w1.cell? ⟨b2,o2+((DW ls t).length+(2*v+b - first ls (t+1))),none⟩=some (.int .i64 (i:Int)):=by
      rw[hBc]
      have h1:=Hpl.out
      rw[List.getElem?_eq_getElem hlk]at h1
      injection h1 with h1
      simp[BR,h1]
     have Oq:=Lib.hid sO
     clear hBc hB2 hi1 hi2 sO Yr Hpl dA AGH Hff
     generalize hix:(DW ls t).length+(2*v+b - first ls (t+1))=ix at *
     have AMM:(((DW ls t).length:Nat):Int)+((2*v+b:Nat):Int) - ((first ls (t+1):Nat):Int)=(ix:Int):=by omega
     generalize (DW ls 15).length=m15 at *
     generalize (DW ls t).length=ut at *
     generalize first ls (t+1)=ff at *
     generalize cnt ls (t+1)=cc at *
     generalize hvb:2*v+b=vb at *
     have hlt1:((vb:Nat):Int) - (ff:Int) < (cc:Int):=by omega
     go_wp2_with fail
     go_ret2
     refine⟨⟨i,t+1,0,Oq.out,rfl,fun _=>⟨?_,by omega⟩⟩,Hk1.out⟩
     rw[←Nat.add_assoc];exact Hs3.out
    ·have hno:¬ (first ls (t+1)≤val (((AO xs).drop pos).take (t+1))∧val (((AO xs).drop pos).take (t+1)) < first ls (t+1)+cnt ls (t+1)):=by rw[dA.out];omega
     have Qo:=Lib.hid (KC ls ((AO xs).drop pos) (14 - t) (t+1) (by omega) (Kk ls _ _ hno))
     have sO:=YY.out
     rw[show 15 - t=14 - t+1 by omega,Qo.out]at sO
     have AJo:=Lib.hid sO
     clear hno Qo sO YY
     generalize hut:(DW ls t).length=ut at *
     generalize hff:first ls (t+1)=ff at *
     generalize hcc:cnt ls (t+1)=cc at *
     generalize hvb:2*v+b=vb at *
     have Hcc:=Lib.hid hcc
     clear hcc hut hff
     have hlt1:¬ (((vb:Nat):Int) - (ff:Int) < (cc:Int)):=by omega
     go_wp2_with fail
     go_roundw
     case rel=>
      refine⟨t+1,by omega,by go_num,int_eq (by rw[dA.out];omega),int_eq (by rw[Hff.out];omega),int_eq (by rw[AGH.out];omega),by rw[dA.out,Hff.out];omega,by omega,?_,?_,sM.out,Hby.out,Hk1.out⟩
      ·rw[AJo.out,show 15 - (t+1)=14 - t by omega]
      ·rw[←Nat.add_assoc];exact Hs3.out
     case measure=>simp[intOf];omega
   ·have Ht:=Lib.hid (KD ls ((AO xs).drop pos) (14 - t) (t+1) (by rw[Hrl.out];omega))
    have sO:=YY.out
    rw[show 15 - t=14 - t+1 by omega,Ht.out]at sO
    have Oq:=Lib.hid sO
    clear sO Ht hs3
    go_wp2_with fail
    go_ret2
    exact⟨⟨0,0,7,Oq.out,rfl,fun h=>by omega⟩,Hk1.out⟩
  ·obtain rfl:t=15:=by omega
   clear hsrc htab hby hk hnx hrl
   go_wp2_with fail
   go_ret2
   exact⟨⟨0,0,8,by rw[YY.out];rfl,rfl,fun h=>by omega⟩,Hk.out⟩
end Go.Proofs.YtabdianhoabhhaaGreatDoor.Code
namespace Go.Proofs.YtabdianhoabhhaaGreatDoor.Bits
open Go Go.RowKit Go.Proofs.YtabdianhoabhhaaGreatDoor
set_option linter.unusedVariables false
def Gd:List TypeId:=[5,128]
def CY (w:World) (base p:Nat) (l:List Bool):Prop:=
 base≤p∧∃ v,AX w p 128 #[v,.int .i64 ((l.length % 8:Nat):Int)]∧w.ownsRow base 5 1 v (pack l).length ((pack l).map Eh)
theorem CY.below {w w':World} {base p:Nat} {l:List Bool} (h:CY w base p l) (hb:Below w.heap.size w w'):CY w' base p l:=by
 obtain⟨h1,v,h2,h3⟩:=h
 exact⟨h1,v,h2.below hb h2.lt,AP h3 hb⟩
theorem CY.lt {w:World} {base p:Nat} {l:List Bool} (h:CY w base p l):p < w.heap.size:=by
 obtain⟨h1,v,h2,h3⟩:=h
 exact h2.lt
theorem CY.new (w:World) {base:Nat} (hb:base≤w.heap.size):CY (w.alloc (.cells #[.slice none 0 0,.int .i64 0] 128)) base w.heap.size []:=
 ⟨hb,.slice none 0 0,AX.new w _ _,World.ownsRow_nil _ _ _ _⟩
theorem or_bit (y:UInt8) (b:Bool) (h:Nat) (hh:h < 8):bits .or .u8 (n8 y) (Tf b % 256*2 ^ h % 256)=n8 (y ||| UInt8.ofNat (b.toNat*2 ^ h)):=by
 have hy:=y.toNat_lt
 have hb:b.toNat≤1:=by cases b <;> simp
 have h2:2 ^ h≤2 ^ 7:=Nat.pow_le_pow_right (by omega) (by omega)
 have hbb:b.toNat*2 ^ h≤1*2 ^ h:=Nat.mul_le_mul_right _ hb
 have e:Tf b % 256*2 ^ h % 256=((b.toNat*2 ^ h:Nat):Int):=by
  unfold Tf
  rw[show (b.toNat:Int) % 256=(b.toNat:Int) by omega]
  have:((b.toNat:Int)*2 ^ h)=((b.toNat*2 ^ h:Nat):Int):=by simp
  rw[this,Int.emod_eq_of_lt (by omega) (by omega)]
 rw[e]
 unfold n8
 rw[u8_or_nat _ _ hy (by omega),UInt8.toNat_or,UInt8.toNat_ofNat',Nat.mod_eq_of_lt (by omega)]
theorem wJ (ys:List UInt8) (N:Nat) (x:UInt8) (h:ys.length=N):(ys.map Eh++[Value.int .u8 0]).set N (.int .u8 (n8 x))=(ys++[x]).map Eh:=by
 subst h;simp[Eh]
theorem wK (b:Bool) (h:Nat) (hh:h=0) (y:UInt8) (hy:y=0):y ||| UInt8.ofNat (b.toNat*2 ^ h)=byteOf [b]:=by
 subst hh hy;cases b <;> decide
theorem Zh {w:World} {base p g M cap h:Nat} {zs:List UInt8} {m:List Bool} (hbp:base≤p) (hB:AX w p 128 #[.slice (some ⟨g,0,none⟩) (M+1) cap,.int .i64 (h:Int)]) (hh:h=m.length % 8)
  (hO:w.ownsRow base 5 1 (.slice (some ⟨g,0,none⟩) (M+1) cap) (M+1) (zs.map Eh)) (hz:pack m=zs):CY w base p m:=by
 have hl:M+1=(pack m).length:=by have:=hO.1;simp at this;rw[hz];omega
 rw[hl]at hB hO
 subst hh
 refine⟨hbp,_,hB,?_⟩
 rw[hz]at hO⊢
 exact hO
set_option maxRecDepth 100000 in
set_option maxHeartbeats 800000 in
theorem CV (base p n size:Nat) (l:List Bool) (w:World) (h:CY w base p l) (hn:n < 9223372036854775808) (hs:size≤62) (hl:l.length+size≤1099511627776) :
  Calls Tryz.prog 79 #[.pointer (some ⟨p,0,none⟩),.int .i64 (n:Int),.int .i64 (size:Int)] w fun e w'=>e=.returned (.tuple #[])∧CY w' base p (l++numBits n size)∧AB base Gd w w':=by
 have H:=Lib.hid h
 clear h
 go_enter Tryz.func79,Tryz.ntmps79
 go_wp2_with fail
 go_loopw [8] (fun i wr=>∃ k:Nat,k≤size∧i=.int .i64 k∧CY wr base p (l++numBits n k)∧AB base Gd w wr) (fun i _=>size - (intOf i).toNat)
 case atStart=>exact⟨0,Nat.zero_le _,rfl,by simpa [numBits] using H.out,AB.refl _ _ _⟩
 case round=>
  obtain⟨k,hk,rfl,⟨hbp,v,hblk,hown⟩,hkeep⟩:=hrel
  by_cases hlt:k < size
  ·have Hs:=Lib.hid (Wo n k)
   have Hb:=Lib.hid (wL n k hn)
   have hlen:(l++numBits n k).length≤1099511627776:=by simp[AJ];omega
   generalize hm0:l++numBits n k=m at *
   have Hm0:=Lib.hid hm0
   clear hm0
   have Et:=Lib.hid hblk
   have hown':=hown
   have Hk:=Lib.hid hkeep
   have hand:=Hb.out
   generalize n.testBit k=b at *
   have hc0:wr.cell? ⟨p,0,none⟩=some v:=by rw[hblk.cell];rfl
   have hc1:wr.cell? ⟨p,1,none⟩=some (.int .i64 ((m.length % 8:Nat):Int)):=by rw[hblk.cell];rfl
   have hz0:wr.frozen? ⟨p,0,none⟩=false:=hblk.frozen 0
   have hz1:wr.frozen? ⟨p,1,none⟩=false:=hblk.frozen 1
   clear hblk hown hkeep
   by_cases h8:m.length % 8=0
   ·have Hm:=Lib.hid (qh m b h8)
    have Hp1:=Lib.hid hown'
    obtain⟨h,hh⟩:∃ h,h=m.length % 8:=⟨_,rfl⟩
    obtain⟨y,hy0'⟩:∃ y:UInt8,y=0:=⟨_,rfl⟩
    have HY0:Hid (Value.int .u8 0=.int .u8 (n8 y)):=Lib.hid (by rw[hy0'];rfl)
    have hh8:h < 8:=by omega
    have heq:(((h:Nat):Int) == 0)=true:=by simp;omega
    have Hb1:=Lib.hid (wK b h (by omega) y hy0')
    rw[←hh]at hc1 Et
    have Hh:=Lib.hid hh
    clear hy0' hh
    have hpl:(pack m).length≤1099511627776:=by rw[BK];omega
    clear h8 hown'
    generalize pack m=ys at *
    generalize hN:ys.length=N at *
    have HN:=Lib.hid hN
    clear hN
    have GZ:=Lib.hid (Hp1.out.alloc (.cells #[.int .u8 0] 5))
    have M5:=Lib.hid (R6 wr 5 (.int .u8 0))
    have Hk2:=Lib.hid (Hk.out.alloc (Nat.le_trans hbp (Nat.le_of_lt Et.out.lt)) (.cells #[.int .u8 0] 5))
    have Qp:=Lib.hid (Et.out.alloc (.cells #[.int .u8 0] 5))
    have Hbs:=Lib.hid (Nat.le_trans hbp (Nat.le_of_lt Qp.out.lt))
    go_wp2_with (at_builtin;refine AY _ rfl (.tmp 20) (.tmp 21) _ rfl base 5 _ 1 1 ty8 v N (ys.map Eh) rfl GZ.out (some ⟨wr.heap.size,0,none⟩) 1 1 [.int .u8 0] rfl rfl M5.out (by simp[Value.oneCell']) (by simp) (by unfold maxLen;omega) (by omega) Hbs.out ?_;intro v2 w2 hown2 hg2 _;obtain⟨g,cap,hv,hgb,hgl⟩:=hown2.form (by omega);subst hv;have Pv:=Lib.hid hown2;have Hb3:=Lib.hid (Qp.out.grown hg2 (own_ne GZ.out Qp.out (by decide)));have Hk3:=Lib.hid (Hk2.out.grown GZ.out hg2 (by simp[Gd]) Hbs.out);clear hown2 hg2;have hd0:=Hb3.out.c0;have hd1:=Hb3.out.c1;have hy0:=Hb3.out.frozen 0)
    have HB:=Lib.hid (Hb3.out.s0 (.slice (some ⟨g,0,none⟩) (N+1) cap))
    have HO:=Lib.hid (ownsRow_setCell_other Pv.out (a:=⟨p,0,none⟩) (by have:=own_ne Pv.out Hb3.out (by decide);exact this) (.slice (some ⟨g,0,none⟩) (N+1) cap))
    have HK:=Lib.hid (Hk3.out.Dv Hb3.out (by simp[Gd]) hbp 0 (.slice (some ⟨g,0,none⟩) (N+1) cap))
    generalize w2.setCell ⟨p,0,none⟩ (.slice (some ⟨g,0,none⟩) (N+1) cap)=W at *
    clear hd0 hd1 hy0 hc0 hc1 hz0 hz1
    have hcb:W.cell? ⟨g,N,none⟩=some (.int .u8 (n8 y)):=by rw[HO.out.cellAt N (by omega),List.getElem?_append_right (by simp;have:=HN.out;omega)];simp[HN.out];have:=HY0.out;injection this
    have hzb:W.frozen? ⟨g,N,none⟩=false:=HO.out.frozenAt N
    have hor:=or_bit y b h hh8
    have e0:=HB.out.c0
    have e1:=HB.out.c1
    generalize hx:y ||| UInt8.ofNat (b.toNat*2 ^ h)=x at *
    have Hx:=Lib.hid hx
    clear hx
    skip
    go_region
    have hpg:p≠g:=by
     have:=own_ne HO.out HB.out (by decide)
     intro hpg;subst hpg;exact this rfl
    have HB2:=Lib.hid ((HB.out.far (p:=⟨g,N,none⟩) hpg (.int .u8 (n8 x))).drew)
    have Cx:=Lib.hid (I6 (HO.out.stored N (.int .u8 (n8 x))).1)
    have Fv:=Lib.hid ((HK.out.stored HO.out (by simp[Gd]) N (.int .u8 (n8 x))).drew)
    generalize (W.setCell ⟨g,N,none⟩ (.int .u8 (n8 x))).drew=W2 at *
    have f1:=HB2.out.c1
    have z1:=HB2.out.frozen 1
    clear hcb hzb hor e0 e1 hpg
    go_wp2_with fail
    go_roundw
    case rel=>
     refine⟨k+1,by omega,by go_num,?_,Fv.out.Dv HB2.out (by simp[Gd]) hbp 1 _⟩
     rw[Hs.out,←List.append_assoc,Hm0.out]
     exact Zh (h:=(h+1) % 8) hbp (HB2.out.s1 _) (by have:=Hh.out;simp;omega) (ownsRow_setCell_other (by have:=Cx.out;rw[wJ ys N x HN.out]at this;exact this) (own_ne Cx.out HB2.out (by decide)) _) (zs:=ys++[x]) (by rw[Hm.out,Hb1.out])
    case measure=>simp[intOf];omega
   ·obtain⟨h,hh⟩:∃ h,h=m.length % 8:=⟨_,rfl⟩
    have hh0:0 < h:=by omega
    have hh8:h < 8:=by omega
    have hML:(pack m).length=m.length / 8+1:=by rw[BK];omega
    have Hm:=Lib.hid (kN m b h8)
    rw[←hh]at Hm hc1 Et
    have Hh:=Lib.hid hh
    clear h8 hh
    obtain⟨g,cap,hv,hgb,hgl⟩:=hown'.form (by omega)
    obtain⟨M,hM⟩:∃ M,M=m.length / 8:=⟨_,rfl⟩
    rw[←hM]at Hm hML
    have hy:∃ y,(pack m).getD M 0=y∧((pack m).map Eh)[M]?=some (.int .u8 (n8 y)):=⟨_,rfl,by
     rw[List.getElem?_map,List.getElem?_eq_getElem (by omega),List.getD_eq_getElem?_getD,List.getElem?_eq_getElem (by omega)];rfl⟩
    obtain⟨y,hy1,hy2⟩:=hy
    rw[hML]at hown' hv
    rw[hy1]at Hm
    have Hy2:=Lib.hid hy2
    have HML:=Lib.hid hML
    generalize pack m=ys at *
    subst hv
    have HO:=Lib.hid hown'
    have HB:=Et
    have HK:=Hk
    have hne:(((h:Nat):Int) == 0)=false:=by simp;omega
    have hMb:M≤1099511627776:=by omega
    clear hown' hy1 hy2 hML hM hc0 hc1
    have hcb:wr.cell? ⟨g,M,none⟩=some (.int .u8 (n8 y)):=by rw[HO.out.cellAt M (by omega)];exact Hy2.out
    have hzb:wr.frozen? ⟨g,M,none⟩=false:=HO.out.frozenAt M
    have hor:=or_bit y b h hh8
    have e0:=HB.out.c0
    have e1:=HB.out.c1
    generalize hx:y ||| UInt8.ofNat (b.toNat*2 ^ h)=x at *
    have Hx:=Lib.hid hx
    clear hx
    go_wp2_with fail
    go_region
    have hpg:p≠g:=by
     have:=own_ne HO.out HB.out (by decide)
     intro hpg;subst hpg;exact this rfl
    have HB2:=Lib.hid ((HB.out.far (p:=⟨g,M,none⟩) hpg (.int .u8 (n8 x))).drew)
    have Cx:=Lib.hid (I6 (HO.out.stored M (.int .u8 (n8 x))).1)
    have Fv:=Lib.hid ((HK.out.stored HO.out (by simp[Gd]) M (.int .u8 (n8 x))).drew)
    generalize (wr.setCell ⟨g,M,none⟩ (.int .u8 (n8 x))).drew=W2 at *
    have f1:=HB2.out.c1
    have z1:=HB2.out.frozen 1
    clear hcb hzb hor e0 e1 hpg
    go_wp2_with fail
    go_roundw
    case rel=>
     refine⟨k+1,by omega,by go_num,?_,Fv.out.Dv HB2.out (by simp[Gd]) hbp 1 _⟩
     rw[Hs.out,←List.append_assoc,Hm0.out]
     exact Zh (h:=(h+1) % 8) hbp (HB2.out.s1 _) (by have:=Hh.out;simp;omega) (ownsRow_setCell_other (by rw[List.map_set];exact Cx.out) (own_ne Cx.out HB2.out (by decide)) _) (zs:=ys.set M x) Hm.out
    case measure=>simp[intOf];omega
  ·obtain rfl:k=size:=by omega
   have Hr:=Lib.hid (show CY wr base p (l++numBits n k) from⟨hbp,v,hblk,hown⟩)
   have Hk:=Lib.hid hkeep
   clear hblk hown hkeep
   go_wp2_with fail
   go_end0
   exact⟨rfl,Hr.out,Hk.out⟩
theorem VW (p:Nat) (v x:Value) (w:World) (h:AX w p 128 #[v,x]) :
  Calls Tryz.prog 80 #[.pointer (some ⟨p,0,none⟩)] w fun e w'=>e=.returned v∧w=w':=by
 have hv0:=h.c0
 have H:=Lib.hid h
 clear h
 go_enter Tryz.func80,Tryz.ntmps80
 go_wp2
 go_ret
 exact⟨rfl,rfl⟩
end Go.Proofs.YtabdianhoabhhaaGreatDoor.Bits
namespace Go.Proofs.YtabdianhoabhhaaGreatDoor.Code
open Go Go.RowKit Go.Proofs.YtabdianhoabhhaaGreatDoor
set_option linter.unusedVariables false
set_option maxRecDepth 100000 in
set_option maxHeartbeats 1600000 in
theorem lI (A:Option Addr) (n c:Nat) (zs:List Int) (w:World) (hn:zs.length=n) (hA:Lf w A zs) (hc:GG zs=0) :
  Calls Tryz.prog 232 #[.slice A n c] w fun e w'=>(∃ g,e=.returned (.slice (some ⟨g,0,none⟩) n n)∧w.heap.size≤g∧AX w' g 3 (ED (I7 (BB zs))))∧Below w.heap.size w w':=by
 obtain⟨f1,f2,f3,f4,f5⟩:=Sj zs hc
 have hx:n≤288:=by omega
 have Hl:=Lib.hid (Yq zs)
 rw[hn]at Hl
 have ADN:Hid (∀ s,s≤15→first (BB zs) s+cnt (BB zs) s≤32768):=Lib.hid (fun s hs=>by
  have h1:=cu (BB zs) s hs f4 f3
  have h2:(2:Nat) ^ s≤2 ^ 15:=Nat.pow_le_pow_right (by omega) hs
  omega)
 have rY:=Lib.hid (AAA (BB zs) f4)
 have H5:=Lib.hid f5
 have Hn:=Lib.hid hn
 have HA:=Lib.hid hA
 have hmk:=Fw n (by omega)
 have Hz:=Lib.hid (Iq n)
 have Hcz:=Lib.hid (r9 (BB zs))
 clear hn hA hc f1 f2 f3 f4 f5
 go_enter Tryz.func232,Tryz.ntmps232
 go_wp2_with fail
 clear hmk
 rw[Hz.out]
 generalize hg:w.heap.size=g at *
 have Hg:=Lib.hid hg
 clear hg
 go_loopw [4,5] (fun v s wr=>∃ t:Nat,t≤15∧s=.int .i64 ((t:Int)+1)∧v=.int .i64 ((first (BB zs) t+cnt (BB zs) t:Nat):Int)∧AX wr g 3 (ED (cst (BB zs) (t+1) 0))∧Below w.heap.size w wr) (fun _ s _=>17 - (intOf s).toNat)
 case atStart=>exact⟨0,Nat.zero_le _,rfl,rfl,by rw[Hcz.out,Hl.out];have:=AX.new w 3 (ED (List.replicate n 0));rw[Hg.out]at this;exact this,(Below.refl _ _).alloc (Nat.le_refl _) _⟩
 case round=>
  obtain⟨t,ht,rfl,rfl,hblk,hb⟩:=hrel
  have Et:=Lib.hid hblk
  have Hb:=Lib.hid hb
  clear hblk hb
  by_cases hlt:t < 15
  ·have hacc:=ADN.out t ht
   have Hf:Hid (first (BB zs) (t+1)=2*(first (BB zs) t+cnt (BB zs) t)):=Lib.hid rfl
   generalize first (BB zs) t+cnt (BB zs) t=a at *
   go_wp2_with fail
   go_loopw [4,19] (fun v i wx=>∃ k:Nat,k≤n∧i=.int .i64 (k:Int)∧v=.int .i64 ((first (BB zs) (t+1)+(DL ((BB zs).take k) (t+1)).length:Nat):Int)∧AX wx g 3 (ED (cst (BB zs) (t+1) k))∧Below w.heap.size w wx) (fun _ i _=>n - (intOf i).toNat)
   case atStart=>exact⟨0,Nat.zero_le _,rfl,by rw[Hf.out];simp[DL];omega,Et.out,Hb.out⟩
   case round=>
    obtain⟨k,hk,rfl,rfl,hblk,hbx⟩:=hrel
    have Hbk:=Lib.hid hblk
    have Ec:=Lib.hid hbx
    clear hblk hbx
    have hol:(DL ((BB zs).take k) (t+1)).length≤288:=by
     have h1:=Jd ((BB zs).take k) (t+1)
     have h2:((BB zs).take k).length≤k:=by simp;omega
     omega
    by_cases hkn:k < n
    ·have hkl:k < zs.length:=by rw[Hn.out];exact hkn
     have sD:k < (BB zs).length:=by rw[Hl.out];exact hkn
     obtain⟨b,o,rfl,hcell⟩:=(HA.out.below Ec.out).get hkl
     have hz:=H5.out zs[k] (List.getElem_mem hkl)
     have Hd:=Lib.hid (Rc zs k hkl)
     have Ht:=Lib.hid (J9 (BB zs) k (t+1) sD)
     have Yr:=Lib.hid (AAB (BB zs) (t+1) k sD)
     have Qo:=Lib.hid (sF (BB zs) (t+1) k)
     rw[Hd.out]at Ht Yr Qo
     generalize zs[k]=z at *
     obtain⟨x,rfl⟩:=Int.eq_ofNat_of_zero_le hz.1
     rw[Int.toNat_natCast]at Ht Yr Qo
     have AB9:k < (cst (BB zs) (t+1) k).length:=by rw[Sk];exact sD
     have ALq:=Lib.hid (Sk (BB zs) (t+1) k)
     generalize first (BB zs) (t+1)=ff at *
     generalize AGF:(DL ((BB zs).take k) (t+1)).length=q at *
     have Hq:=Lib.hid AGF
     clear AGF
     by_cases hxt:x=t+1
     ·have e1:((x:Int) == (t:Int)+1)=true:=by simp;omega
      have Hs:=Lib.hid (Yr.out hxt (by omega))
      have Hr:Hid ((DL ((BB zs).take (k+1)) (t+1)).length=q+1):=Lib.hid (by rw[Ht.out,if_pos hxt,List.length_append,Hq.out];rfl)
      clear Yr Qo Ht hxt
      have hfz:=Hbk.out.frozen k
      have hff:ff+q≤1000000:=by have:=Hf.out;omega
      have hce:wr.cell? ⟨g,k,none⟩=some (.int .i64 (((cst (BB zs) (t+1) k)[k]'AB9:Nat):Int)):=by rw[Hbk.out.cell,SG _ _ AB9]
      go_wp2_with fail
      go_roundw
      case rel=>
       refine⟨k+1,by omega,by go_num,by rw[Hr.out];go_num,?_,?_⟩
       ·rw[Hs.out,←SH];exact Hbk.out.Ca k _
       ·exact Ec.out.setCell (by show w.heap.size≤g;rw[Hg.out];exact Nat.le_refl _) _
      case measure=>simp[intOf];omega
     ·have e1:((x:Int) == (t:Int)+1)=false:=by simp;omega
      have Hs:=Lib.hid (Qo.out hxt)
      have Hr:Hid ((DL ((BB zs).take (k+1)) (t+1)).length=q):=Lib.hid (by rw[Ht.out,if_neg hxt,List.append_nil,Hq.out])
      clear Yr Qo Ht hxt
      go_wp2_with fail
      go_roundw
      case rel=>exact⟨k+1,by omega,by go_num,by rw[Hr.out],by rw[Hs.out];exact Hbk.out,Ec.out⟩
      case measure=>simp[intOf];omega
    ·obtain rfl:k=n:=by omega
     have FU:Hid ((BB zs).take k=BB zs):=Lib.hid (List.take_of_length_le (by rw[Hl.out];omega))
     have Hcn:=Lib.hid (sG (BB zs) (t+1))
     have AJm:Hid (cnt (BB zs) (t+1)=(DL (BB zs) (t+1)).length):=Lib.hid (by unfold cnt;rw[if_neg (by omega)])
     rw[FU.out,←AJm.out]
     rw[Hl.out]at Hcn
     go_wp2_with fail
     go_roundw
     case rel=>exact⟨t+1,by omega,by go_num,rfl,by rw[←Hcn.out];exact Hbk.out,Ec.out⟩
     case measure=>simp[intOf];omega
  ·obtain rfl:t=15:=by omega
   go_wp2_with fail
   go_ret
   exact⟨⟨g,rfl,by rw[Hg.out];exact Nat.le_refl _,by rw[←rY.out];exact Et.out⟩,Hb.out⟩
end Go.Proofs.YtabdianhoabhhaaGreatDoor.Code
namespace Go.Proofs.YtabdianhoabhhaaGreatDoor.Code
open Go Go.RowKit Go.Proofs.YtabdianhoabhhaaGreatDoor Go.Proofs.YtabdianhoabhhaaGreatDoor.Bits
set_option linter.unusedVariables false
theorem ADR (s n j:Nat) (h:j < s):(hi s n)[j]'(by rw[Df];exact h)=n.testBit (s - 1 - j):=by
 unfold hi numBits
 simp
theorem AAI (s n m:Nat) (h:m+1≤s):(hi s n).take (s - m)=(hi s n).take (s - (m+1))++numBits (n / 2 ^ m) 1:=by
 have e:s - m=(s - (m+1))+1:=by omega
 rw[e,BI _ _ (by rw[Df];omega),ADR _ _ _ (by omega)]
 congr 1
 simp[numBits]
 rw[show s - 1 - (s - (m+1))=m by omega,Nat.testBit]
 have h3:n / 2 ^ m % 2 < 2:=Nat.mod_lt _ (by omega)
 rw[Nat.shiftRight_eq_div_pow]
 by_cases h1:n / 2 ^ m % 2=1
 ·simp[h1]
 ·have:n / 2 ^ m % 2=0:=by omega
  simp[this]
set_option maxRecDepth 100000 in
set_option maxHeartbeats 800000 in
theorem SC (base p n size:Nat) (l:List Bool) (w:World) (h:CY w base p l) (hn:n < 9223372036854775808) (hs:size≤62) (hl:l.length+size≤1099511627776) :
  Calls Tryz.prog 195 #[.pointer (some ⟨p,0,none⟩),.int .i64 (n:Int),.int .i64 (size:Int)] w fun e w'=>e=.returned (.tuple #[])∧CY w' base p (l++hi size n)∧AB base Gd w w':=by
 have H:=Lib.hid h
 clear h
 go_enter Tryz.func195,Tryz.ntmps195
 go_wp2_with fail
 go_loopw [6] (fun i wr=>∃ (m:Nat) (x:Int),m≤size∧x=(m:Int) - 1∧i=.int .i64 x∧CY wr base p (l++(hi size n).take (size - m))∧AB base Gd w wr) (fun i _=>(intOf i+1).toNat)
 case atStart=>exact⟨size,_,Nat.le_refl _,rfl,rfl,by simpa using H.out,AB.refl _ _ _⟩
 case round=>
  obtain⟨m,x,hm,hx,rfl,hrow,hk⟩:=hrel
  have G6:=Lib.hid hrow
  have Hk:=Lib.hid hk
  clear hrow hk
  rcases m with _ | m
  ·have hx0:x < 0:=by omega
   clear hx
   have Hf:Hid ((hi size n).take (size - 0)=hi size n):=Lib.hid (List.take_of_length_le (by rw[Df];omega))
   rw[Hf.out]at G6
   go_wp2_with fail
   go_end0
   exact⟨rfl,G6.out,Hk.out⟩
  ·obtain rfl:x=(m:Int):=by omega
   clear hx
   have hnd:n / 2 ^ m < 9223372036854775808:=Nat.lt_of_le_of_lt (Nat.div_le_self _ _) hn
   have hput:=CV base p (n / 2 ^ m) 1 _ wr G6.out hnd (by omega) (by rw[List.length_append,List.length_take,Df];omega)
   have Cw:=Lib.hid (AAI size n m hm)
   rw[List.append_assoc,←Cw.out]at hput
   have hdd:(n:Int) / 2 ^ m=((n / 2 ^ m:Nat):Int):=by simp
   have AJp:=Lib.hid hput
   clear hput
   generalize n / 2 ^ m=d at *
   go_wp2_with fail
   refine (AJp.out).mono ?_
   rintro e w1 ⟨rfl,hr1,hk1⟩
   have Hr1:=Lib.hid hr1
   have Hk1:=Lib.hid (Hk.out.trans hk1)
   clear hr1 hk1
   go_wp2_with fail
   go_roundw
   case rel=>exact⟨m,_,by omega,rfl,rfl,Hr1.out,Hk1.out⟩
   case measure=>simp[intOf]
theorem bY (A:Option Addr) (n c:Nat) (zs:List Int) (w:World) (hn:zs.length=n) (hx:n≤maxLen) (hA:Lf w A zs) :
  Calls Tryz.prog 194 #[.slice A n c] w fun e w'=>(GG zs≠0∧e=.returned (.tuple #[.slice none 0 0,.int .i64 (GG zs)])∨
   GG zs=0∧∃ g,e=.returned (.tuple #[.slice (some ⟨g,0,none⟩) n n,.int .i64 0])∧w.heap.size≤g∧AX w' g 3 (ED (I7 (BB zs))))∧Below w.heap.size w w':=by
 have Hc:=Lib.hid (Fy A n c zs w hn hx hA)
 have Hd:Hid (GG zs=0→_):=Lib.hid (lI A n c zs w hn hA)
 clear hn hx hA
 go_enter Tryz.func194,Tryz.ntmps194
 go_wp2_with fail
 refine (Hc.out).mono ?_
 rintro e w1 ⟨rfl,rfl⟩
 by_cases h0:GG zs=0
 ·have Hdd:=Lib.hid (Hd.out h0)
  rw[h0]
  have H0:=Lib.hid h0
  clear h0
  go_wp2_with fail
  refine (Hdd.out).mono ?_
  rintro e w2 ⟨⟨g,rfl,hg,hb⟩,hbw⟩
  have Hb:=Lib.hid hb
  have qV:=Lib.hid hbw
  clear hb hbw
  go_wp2_with fail
  go_ret2
  exact⟨.inr ⟨H0.out,g,rfl,hg,Hb.out⟩,qV.out⟩
 ·have H0:=Lib.hid h0
  generalize hz:GG zs=z at *
  have Hz:=Lib.hid hz
  clear hz
  have h1:(z == 0)=false:=by simpa using h0
  go_wp2_with fail
  go_ret2
  exact⟨.inl ⟨by rw[Hz.out];exact h0,by rw[Hz.out];rfl⟩,Below.refl _ _⟩
end Go.Proofs.YtabdianhoabhhaaGreatDoor.Code
