/- texts joined: WeighPure. -/
import Derived.Test.YtabdianhoabhhaaGreatDoorSkSortPure
namespace Go.Proofs.YtabdianhoabhhaaGreatDoor
namespace SP
set_option linter.unusedVariables false
abbrev Pk:=Nat×List Nat
def BZ (p:Pk):Nat:=p.1
def both (p q:Pk):Pk:=(p.1+q.1,List.zipWith (·+·) p.2 q.2)
def pairs:List Pk→List Pk
 | p :: q :: l=>both p q :: pairs l
 | _=>[]
def BS (one:List Pk):Nat→List Pk
 | 0=>one
 | t+1=>CS BZ (one++pairs (BS one t))
def unit (n i:Nat):List Nat:=(List.range n).map fun j=>if j=i then 1 else 0
def used (ls:List Nat):List Nat:=(List.range ls.length).filter fun i=>decide (0 < ls.getD i 0)
def ones (ls:List Nat):List Pk:=(used ls).map fun i=>(ls.getD i 0,unit ls.length i)
def Dw (n:Nat) (l:List Pk):List Nat:=l.foldl (fun acc p=>List.zipWith (·+·) acc p.2) (List.replicate n 0)
def AX (ls:List Nat) (most:Nat):List Nat:=
 if (ones ls).length=0 then List.replicate ls.length 0
 else if (ones ls).length=1 then ((ones ls).getD 0 (0,[])).2
 else Dw ls.length ((BS (CS BZ (ones ls)) (most - 1)).take (2*(ones ls).length - 2))
def cv (i:Nat) (p:Pk):Nat:=p.2.getD i 0
def wt (l:List Pk):Nat:=(l.map BZ).sum
def cs (i:Nat) (l:List Pk):Nat:=(l.map (cv i)).sum
theorem Kg (l:List Pk):(pairs l).length=l.length / 2:=by
 have key:∀ n,∀ l:List Pk,l.length≤n→(pairs l).length=l.length / 2:=by
  intro n
  induction n with
  | zero=>intro l hl;obtain rfl:=List.eq_nil_of_length_eq_zero (show l.length=0 by omega);rfl
  | succ n ih=>
   intro l hl
   match l with
   | []=>rfl
   | [a]=>simp[pairs]
   | a :: b :: l=>simp only[pairs,List.length_cons];rw[ih l (by simp at hl;omega)];omega
 exact key _ l (Nat.le_refl _)
theorem yY (a b:List Nat) (n:Nat) (ha:a.length=n) (hb:b.length=n):(List.zipWith (·+·) a b).length=n:=by simp[ha,hb]
theorem gZ (a b:List Nat) (n i:Nat) (ha:a.length=n) (hb:b.length=n):(List.zipWith (·+·) a b).getD i 0=a.getD i 0+b.getD i 0:=by
 simp only[List.getD_eq_getElem?_getD,List.getElem?_zipWith]
 rcases Nat.lt_or_ge i n with h | h
 ·rw[List.getElem?_eq_getElem (by omega),List.getElem?_eq_getElem (by omega)];rfl
 ·rw[List.getElem?_eq_none (by omega),List.getElem?_eq_none (by omega)];rfl
def OY (n:Nat) (l:List Pk):Prop:=∀ p∈l,p.2.length=n∧0 < p.1
theorem Uf (n:Nat) (l:List Pk) (h:OY n l) (q:Nat) (hq:2*q≤l.length) :
  wt ((pairs l).take q)=wt (l.take (2*q))∧(∀ i,cs i ((pairs l).take q)=cs i (l.take (2*q)))∧∀ x∈l.take (2*q),∃ y∈(pairs l).take q,x.1 < y.1:=by
 induction q generalizing l with
 | zero=>simp[wt,cs]
 | succ q ih=>
  match l with
  | []=>simp at hq
  | [a]=>simp at hq;omega
  | a :: b :: l=>
   have ha:=h a (by simp)
   have hb:=h b (by simp)
   have hf:OY n l:=fun p hp=>h p (by simp[hp])
   obtain⟨h1,h2,h3⟩:=ih l hf (by simp at hq;omega)
   have e:2*(q+1)=(2*q)+1+1:=by omega
   rw[e]
   simp only[pairs,List.take_succ_cons]
   refine⟨?_,?_,?_⟩
   ·simp only[wt,List.map_cons,List.sum_cons]at h1⊢
    rw[h1];simp[both,BZ];omega
   ·intro i
    have:=h2 i
    simp only[cs,List.map_cons,List.sum_cons]at this⊢
    rw[this]
    simp only[cv,both]
    rw[gZ a.2 b.2 n i ha.1 hb.1];omega
   ·intro x hx
    rcases List.mem_cons.1 hx with rfl | hx
    ·exact⟨both x b,by simp,by simp[both];omega⟩
    ·rcases List.mem_cons.1 hx with rfl | hx
     ·exact⟨both a x,by simp,by simp[both];omega⟩
     ·obtain⟨y,hy,hxy⟩:=h3 x hx
      exact⟨y,by simp[hy],hxy⟩
theorem gp (n:Nat) (l:List Pk) (h:OY n l):OY n (pairs l):=by
 have key:∀ m,∀ l:List Pk,l.length≤m→OY n l→OY n (pairs l):=by
  intro m
  induction m with
  | zero=>intro l hl _;obtain rfl:=List.eq_nil_of_length_eq_zero (show l.length=0 by omega);intro p hp;simp[pairs]at hp
  | succ m ih=>
   intro l hl hf
   match l with
   | []=>intro p hp;simp[pairs]at hp
   | [a]=>intro p hp;simp[pairs]at hp
   | a :: b :: l=>
    intro p hp
    simp only[pairs]at hp
    have ha:=hf a (by simp)
    have hb:=hf b (by simp)
    rcases List.mem_cons.1 hp with rfl | hp
    ·exact⟨yY _ _ n ha.1 hb.1,by simp[both];omega⟩
    ·exact ih l (by simp at hl;omega) (fun p hp=>hf p (by simp[hp])) p hp
 exact key _ l (Nat.le_refl _) h
def Sorted (l:List Pk):Prop:=l.Pairwise (fun x y=>BZ x≤BZ y)
theorem YJ (l:List Pk) (h:Sorted l):Sorted (pairs l):=by
 have key:∀ m,∀ l:List Pk,l.length≤m→Sorted l→Sorted (pairs l)∧∀ x∈pairs l,∀ a b r,l=a :: b :: r→BZ a+BZ b≤BZ x:=by
  intro m
  induction m with
  | zero=>intro l hl _;obtain rfl:=List.eq_nil_of_length_eq_zero (show l.length=0 by omega);exact⟨List.Pairwise.nil,fun x hx=>by simp[pairs]at hx⟩
  | succ m ih=>
   intro l hl hs
   match l with
   | []=>exact⟨List.Pairwise.nil,fun x hx=>by simp[pairs]at hx⟩
   | [a]=>exact⟨List.Pairwise.nil,fun x hx=>by simp[pairs]at hx⟩
   | a :: b :: l=>
    have hs':Sorted l:=by
     have:=(List.pairwise_cons.1 hs).2
     exact (List.pairwise_cons.1 this).2
    have hab:∀ y∈l,BZ a≤BZ y∧BZ b≤BZ y:=fun y hy=>
     ⟨(List.pairwise_cons.1 hs).1 y (by simp[hy]),(List.pairwise_cons.1 (List.pairwise_cons.1 hs).2).1 y hy⟩
    obtain⟨h1,h2⟩:=ih l (by simp at hl;omega) hs'
    have hall:∀ x∈pairs l,BZ a+BZ b≤BZ x:=by
     intro x hx
     match l with
     | []=>simp[pairs]at hx
     | [c]=>simp[pairs]at hx
     | c :: d :: r=>
      have h3:=h2 x hx c d r rfl
      have h4:=(hab c (by simp)).1
      have h5:=(hab d (by simp)).2
      omega
    refine⟨?_,?_⟩
    ·simp only[pairs]
     refine List.pairwise_cons.2 ⟨fun y hy=>?_,h1⟩
     have:=hall y hy
     simp only[BZ,both]at this⊢;omega
    ·intro x hx a' b' r' he
     injection he with e1 e2;injection e2 with e2 e3
     subst e1 e2 e3
     simp only[pairs]at hx
     rcases List.mem_cons.1 hx with rfl | hx
     ·simp[BZ,both]
     ·exact hall x hx
 exact (key _ l (Nat.le_refl _) h).1
theorem NL (n:Nat) (l:List Pk) (h:OY n l):OY n (CS BZ l):=fun p hp=>h p ((Cv BZ l).mem_iff.1 hp)
theorem NM (n:Nat) (one:List Pk) (h:OY n one) (t:Nat):OY n (BS one t):=by
 induction t with
 | zero=>exact h
 | succ t ih=>
  refine NL n _ (fun p hp=>?_)
  rcases List.mem_append.1 hp with hp | hp
  ·exact h p hp
  ·exact gp n _ ih p hp
theorem Jl (one:List Pk) (h:Sorted one) (t:Nat):Sorted (BS one t):=by
 cases t with
 | zero=>exact h
 | succ t=>exact Jk BZ _
theorem PZ (one:List Pk) (t:Nat):(BS one (t+1)).length=one.length+(BS one t).length / 2:=by
 show (CS BZ _).length=_
 rw[EY,List.length_append,Kg]
theorem qO (one P:List Pk) (h1:Sorted one) (h2:Sorted P) (k:Nat) (hk:k≤(CS BZ (one++P)).length) :
  ∃ a q,a+q=k∧a≤one.length∧q≤P.length∧((CS BZ (one++P)).take k).Perm (one.take a++P.take q)∧((CS BZ (one++P)).drop k).Perm (one.drop a++P.drop q):=by
 have hp:=Fz BZ (one++P)
 have hz:(one++P).zipIdx=one.zipIdx++P.zipIdx (0+one.length):=List.zipIdx_append
 rw[hz]at hp
 obtain⟨a,q,e1,e2,e3,e4,e5⟩:=gK (le:=Cq BZ) (WU BZ (one++P)) one.zipIdx (P.zipIdx (0+one.length)) (by
   intro x y hx hy hxy hyx
   have hx':=(Fz BZ (one++P)).mem_iff.1 hx
   have hy':=(Fz BZ (one++P)).mem_iff.1 hy
   obtain⟨_,a2,a3⟩:=List.mem_zipIdx (x:=x.1) (i:=x.2) hx'
   obtain⟨_,b2,b3⟩:=List.mem_zipIdx (x:=y.1) (i:=y.2) hy'
   have hi:x.2=y.2:=by unfold Cq at hxy hyx;omega
   have:x.1=y.1:=by
    rw[a3,b3]
    simp only[hi]
   exact Prod.ext this hi) hp (Ik BZ _) (Ni BZ one 0 h1) (Ni BZ P _ h2) (fun a=>by unfold Cq;omega) k (by unfold CS at hk;simpa using hk)
 refine⟨a,q,e1,by simpa using e2,by simpa using e3,?_,?_⟩
 ·have:=e4.map (·.1)
  rw[List.map_append,List.map_take,List.map_take,List.map_take,List.zipIdx_map_fst,List.zipIdx_map_fst]at this
  exact this
 ·have:=e5.map (·.1)
  rw[List.map_append,List.map_drop,List.map_drop,List.map_drop,List.zipIdx_map_fst,List.zipIdx_map_fst]at this
  exact this
end SP
namespace SP
set_option linter.unusedVariables false
def wd:List Nat→Nat
 | []=>0
 | a :: as=>a*2 ^ as.length+wd as
def yZ (f:Nat→Nat) (as:List Nat):Nat:=(as.map f).sum
theorem Wi (i:Nat) (a b:List Pk):cs i (a++b)=cs i a+cs i b:=by simp[cs]
theorem ABg (i:Nat) (a b:List Pk) (h:a.Perm b):cs i a=cs i b:=(h.map _).sum_nat
theorem qP (a b:List Pk):wt (a++b)=wt a+wt b:=by simp[wt]
theorem levels (n:Nat) (one:List Pk) (hf:OY n one) (hs:Sorted one) (t:Nat):∀ k,k≤(BS one t).length→
  ∃ as:List Nat,as.length=t+1∧(∀ i,cs i ((BS one t).take k)=yZ (fun a=>cs i (one.take a)) as)∧wd as=k*2 ^ t∧as.Pairwise (fun a b=>b≤a)∧(∀ a∈as,a≤one.length)∧
   ∀ a r,as=a :: r→∀ x∈one.take a,x∈(BS one t).take k:=by
 induction t with
 | zero=>
  intro k hk
  refine⟨[k],rfl,fun i=>by simp[yZ,BS],by simp[wd],by simp,by simpa [BS] using hk,?_⟩
  intro a r h x hx
  injection h with h1 h2
  subst h1;exact hx
 | succ t ih=>
  intro k hk
  have hPs:=YJ _ (Jl one hs t)
  obtain⟨a,q,e1,e2,e3,e4,e5⟩:=qO one (pairs (BS one t)) hs hPs k hk
  have hq:2*q≤(BS one t).length:=by rw[Kg]at e3;omega
  obtain⟨as,g1,g2,g3,g4,g5,g6⟩:=ih (2*q) hq
  obtain⟨p1,p2,p3⟩:=Uf n (BS one t) (NM n one hf t) q hq
  have hsort:Sorted (BS one (t+1)):=Jl one hs (t+1)
  refine⟨a :: as,by simp[g1],fun i=>?_,?_,?_,?_,?_⟩
  ·have:cs i ((BS one (t+1)).take k)=cs i (one.take a++(pairs (BS one t)).take q):=ABg i _ _ e4
   rw[this,Wi,p2,g2];simp[yZ]
  ·simp only[wd];rw[g1,g3,Nat.pow_succ]
   rw[←e1,Nat.add_mul]
   congr 1
   rw[Nat.mul_comm 2 q,Nat.mul_assoc,Nat.mul_comm 2 (2 ^ t)]
  ·refine List.pairwise_cons.2 ⟨?_,g4⟩
   match as,g1 with
   | a' :: r,_=>
    have hle:a'≤a:=by
     rcases Nat.lt_or_ge a a' with hlt | hge
     ·exfalso
      have ha1:a < one.length:=by have:=g5 a' (by simp);omega
      have hx:one[a]∈one.take a':=by
       rw[List.mem_iff_getElem]
       exact⟨a,by simp;omega,by simp⟩
      have hx2:=g6 a' r rfl _ hx
      obtain⟨y,hy,hxy⟩:=p3 _ hx2
      have hy2:y∈(BS one (t+1)).take k:=e4.mem_iff.2 (List.mem_append_right _ hy)
      have hx3:one[a]∈(BS one (t+1)).drop k:=e5.mem_iff.2 (List.mem_append_left _ (by rw[List.drop_eq_getElem_cons ha1];exact List.mem_cons_self))
      have hsp:((BS one (t+1)).take k++(BS one (t+1)).drop k).Pairwise (fun x y=>BZ x≤BZ y):=by rw[List.take_append_drop];exact hsort
      have:=(List.pairwise_append.1 hsp).2.2 y hy2 _ hx3
      simp only[BZ]at this
      omega
     ·exact hge
    intro b hb
    rcases List.mem_cons.1 hb with rfl | hb
    ·exact hle
    ·exact Nat.le_trans ((List.pairwise_cons.1 g4).1 b hb) hle
  ·intro b hb
   rcases List.mem_cons.1 hb with rfl | hb
   ·exact e2
   ·exact g5 b hb
  ·intro b r h x hx
   injection h with h1 h2
   subst h1
   exact e4.mem_iff.2 (List.mem_append_left _ hx)
def gq (as:List Nat) (r:Nat):Nat:=(as.filter fun a=>decide (r < a)).length
def cO (as:List Nat) (r:Nat):Nat:=wd (as.map fun a=>if r < a then 1 else 0)
theorem kY (as:List Nat) (r:Nat) (h:as.Pairwise (fun a b=>b≤a)):cO as r+2 ^ (as.length - gq as r)=2 ^ as.length∧gq as r≤as.length:=by
 induction as with
 | nil=>simp[cO,wd,gq]
 | cons a as ih=>
  obtain⟨h1,h2⟩:=List.pairwise_cons.1 h
  obtain⟨i1,i2⟩:=ih h2
  by_cases hr:r < a
  ·have e1:gq (a :: as) r=gq as r+1:=by unfold gq;rw[List.filter_cons_of_pos (by simpa using hr)];simp
   have e2:cO (a :: as) r=2 ^ as.length+cO as r:=by unfold cO;simp[wd,hr]
   rw[e1,e2,List.length_cons,show as.length+1 - (gq as r+1)=as.length - gq as r by omega,Nat.pow_succ]
   omega
  ·have hall:∀ b∈as,¬ r < b:=fun b hb=>by have:=h1 b hb;omega
   have e1:gq (a :: as) r=0:=by
    unfold gq
    rw[List.filter_eq_nil_iff.2 (fun b hb=>by rcases List.mem_cons.1 hb with rfl | hb <;> simp <;> first | omega | (have:=hall b hb;omega))];rfl
   have e2:∀ l:List Nat,(∀ b∈l,¬ r < b)→cO l r=0:=by
    intro l
    induction l with
    | nil=>intro _;rfl
    | cons b l ih=>
     intro hb
     have e3:cO (b :: l) r=cO l r:=by unfold cO;simp[wd,hb b (by simp)]
     rw[e3];exact ih (fun c hc=>hb c (by simp[hc]))
   rw[e1,e2 _ (fun b hb=>by rcases List.mem_cons.1 hb with rfl | hb;exact hr;exact hall b hb)]
   simp
theorem Qd (m c:Nat):((List.range m).map fun _=>c).sum=m*c:=by
 induction m with
 | zero=>simp
 | succ m ih=>rw[List.range_succ,List.map_append,List.sum_append,ih,Nat.add_mul];simp
theorem sum_lt (a n:Nat) (h:a≤n):((List.range n).map fun r=>if r < a then 1 else 0).sum=a:=by
 induction n with
 | zero=>simp at h;subst h;rfl
 | succ n ih=>
  rw[List.range_succ,List.map_append,List.sum_append]
  simp only[List.map_cons,List.map_nil,List.sum_cons,List.sum_nil,Nat.add_zero]
  rcases Nat.lt_or_ge n a with h1 | h1
  ·have ha:a=n+1:=by omega
   subst ha
   rw[if_pos h1]
   have:((List.range n).map fun r=>if r < n+1 then 1 else 0).sum=((List.range n).map fun r=>if r < n then 1 else 0).sum:=by
    congr 1
    apply List.map_congr_left
    intro r hr
    simp at hr
    rw[if_pos hr,if_pos (by omega)]
   have e:∀ m,((List.range m).map fun r=>if r < m then 1 else 0).sum=m:=by
    intro m
    have:((List.range m).map fun r=>if r < m then 1 else 0)=(List.range m).map fun _=>1:=by
     apply List.map_congr_left;intro r hr;simp at hr;rw[if_pos hr]
    rw[this,Qd,Nat.mul_one]
   rw[this,e]
  ·rw[if_neg (by omega),ih h1];rfl
theorem AE0 (as:List Nat) (n:Nat) (h:∀ a∈as,a≤n):wd as=((List.range n).map (cO as)).sum:=by
 induction as with
 | nil=>
  have:(List.range n).map (cO [])=(List.range n).map fun _=>0:=by apply List.map_congr_left;intro r _;rfl
  rw[this,Qd];rfl
 | cons a as ih=>
  have e:(List.range n).map (cO (a :: as))=(List.range n).map (fun r=>(if r < a then 1 else 0)*2 ^ as.length+cO as r):=by
   apply List.map_congr_left;intro r _;simp[cO,wd]
  have add:∀ (l:List Nat) (f g:Nat→Nat),(l.map fun r=>f r+g r).sum=(l.map f).sum+(l.map g).sum:=by
   intro l f g
   induction l with
   | nil=>rfl
   | cons b l ih=>simp only[List.map_cons,List.sum_cons];omega
  have mul:∀ (l:List Nat) (f:Nat→Nat) (c:Nat),(l.map fun r=>f r*c).sum=(l.map f).sum*c:=by
   intro l f c
   induction l with
   | nil=>simp
   | cons b l ih=>simp only[List.map_cons,List.sum_cons,ih,Nat.add_mul]
  rw[e,add,mul,sum_lt a n (h a (by simp)),←ih (fun b hb=>h b (by simp[hb]))]
  rfl
theorem qQ (as:List Nat) (n:Nat) (h:as.Pairwise (fun a b=>b≤a)) (ha:∀ a∈as,a≤n) (hn:1≤n) (hw:wd as=(n - 1)*2 ^ as.length):((List.range n).map fun r=>2 ^ (as.length - gq as r)).sum=2 ^ as.length:=by
 have h1:=AE0 as n ha
 have add:∀ (l:List Nat) (f g:Nat→Nat),(l.map fun r=>f r+g r).sum=(l.map f).sum+(l.map g).sum:=by
  intro l f g
  induction l with
  | nil=>rfl
  | cons b l ih=>simp only[List.map_cons,List.sum_cons];omega
 have h2:((List.range n).map fun r=>cO as r+2 ^ (as.length - gq as r)).sum=n*2 ^ as.length:=by
  have:((List.range n).map fun r=>cO as r+2 ^ (as.length - gq as r))=(List.range n).map fun _=>2 ^ as.length:=by
   apply List.map_congr_left;intro r _;exact (kY as r h).1
  rw[this,Qd]
 rw[add,←h1,hw]at h2
 obtain⟨m,rfl⟩:∃ m,n=m+1:=⟨n - 1,by omega⟩
 rw[Nat.add_sub_cancel,Nat.add_mul]at h2
 omega
end SP
namespace SP
set_option linter.unusedVariables false
theorem PX (n i:Nat):(unit n i).length=n:=by simp[unit]
theorem KV (n i j:Nat) (h:j < n):(unit n i).getD j 0=if j=i then 1 else 0:=by
 simp[unit,List.getD_eq_getElem?_getD,h]
def JP (ls:List Nat) (i:Nat):Pk:=(ls.getD i 0,unit ls.length i)
theorem NP (ls:List Nat):ones ls=(used ls).map (JP ls):=rfl
theorem DR (ls:List Nat) (i:Nat):i∈used ls↔i < ls.length∧0 < ls.getD i 0:=by unfold used;simp
theorem gu (ls:List Nat):(used ls).Nodup:=List.Pairwise.filter _ List.nodup_range
theorem GZ (ls:List Nat):(ones ls).length=(used ls).length:=by simp[ones]
theorem Qe (ls:List Nat):OY ls.length (ones ls):=by
 intro p hp
 rw[NP]at hp
 obtain⟨i,hi,rfl⟩:=List.mem_map.1 hp
 rw[DR]at hi
 exact⟨PX _ _,hi.2⟩
def who (p:Pk):Nat:=p.2.idxOf 1
theorem kZ (ls:List Nat) (i:Nat) (h:i < ls.length):who (JP ls i)=i:=by
 unfold who JP
 have hl:(unit ls.length i).idxOf 1 < (unit ls.length i).length:=by
  rw[List.idxOf_lt_length_iff]
  rw[List.mem_iff_getElem]
  exact⟨i,by rw[PX];exact h,by simp[unit]⟩
 have hg:=List.getElem_idxOf hl
 rw[PX]at hl
 simp only[unit,List.getElem_map,List.getElem_range]at hg
 simp only
 split at hg
 ·assumption
 ·omega
def MC (ls:List Nat):List Nat:=(CS BZ (ones ls)).map who
theorem I5 (ls:List Nat):(MC ls).Perm (used ls):=by
 have h:=(Cv BZ (ones ls)).map who
 rw[NP,List.map_map]at h
 have e:(used ls).map (who ∘ JP ls)=used ls:=by
  conv=>rhs;rw[←List.map_id (used ls)]
  apply List.map_congr_left
  intro i hi
  exact kZ ls i ((DR ls i).1 hi).1
 rw[e]at h
 exact h
theorem Ug (ls:List Nat):CS BZ (ones ls)=(MC ls).map (JP ls):=by
 unfold MC
 rw[List.map_map]
 conv=>lhs;rw[←List.map_id (CS BZ (ones ls))]
 apply List.map_congr_left
 intro p hp
 have hp':=(Cv BZ (ones ls)).mem_iff.1 hp
 rw[NP]at hp'
 obtain⟨i,hi,rfl⟩:=List.mem_map.1 hp'
 show JP ls i=JP ls (who (JP ls i))
 rw[kZ ls i ((DR ls i).1 hi).1]
theorem gy (ls:List Nat):(MC ls).Nodup:=(I5 ls).nodup_iff.2 (gu ls)
theorem ABh (ls:List Nat) (r i a:Nat) (hr:(MC ls)[r]?=some i):cs i ((CS BZ (ones ls)).take a)=if r < a then 1 else 0:=by
 have hrl:=(List.getElem?_eq_some_iff.1 hr).1
 have him:i∈MC ls:=List.mem_of_getElem? hr
 have hil:i < ls.length:=((DR ls i).1 ((I5 ls).mem_iff.1 him)).1
 induction a with
 | zero=>simp[cs]
 | succ a ih=>
  rcases Nat.lt_or_ge a (MC ls).length with ha | ha
  ·have hl:a < (CS BZ (ones ls)).length:=by rw[Ug];simpa using ha
   rw[List.take_succ_eq_append_getElem hl,Wi,ih]
   have e:cs i [(CS BZ (ones ls))[a]]=if a=r then 1 else 0:=by
    have e2:(CS BZ (ones ls))[a]=JP ls (MC ls)[a]:=by
     have:=congrArg (fun l=>l[a]?) (Ug ls)
     simp only[List.getElem?_map,List.getElem?_eq_getElem hl,List.getElem?_eq_getElem ha,Option.map_some]at this
     exact Option.some.inj this
    rw[e2]
    simp only[cs,List.map_cons,List.map_nil,List.sum_cons,List.sum_nil,Nat.add_zero,cv,JP]
    rw[KV _ _ _ hil]
    by_cases har:a=r
    ·subst har
     rw[if_pos rfl,if_pos]
     rw[List.getElem?_eq_getElem ha]at hr
     exact (Option.some.inj hr).symm
    ·rw[if_neg har,if_neg]
     intro hh
     apply har
     have h1:(MC ls)[a]?=(MC ls)[r]?:=by rw[hr,List.getElem?_eq_getElem ha,hh]
     exact (List.getElem?_inj ha (gy ls)).1 h1
   rw[e]
   split <;> split <;> split <;> omega
  ·have hl:(CS BZ (ones ls)).length≤a:=by rw[Ug];simpa using ha
   rw[List.take_of_length_le hl]at ih
   rw[List.take_of_length_le (by omega),ih]
   rw[if_pos (by omega),if_pos (by omega)]
theorem Uh (n:Nat) (l:List Pk) (hl:∀ p∈l,p.2.length=n) (i:Nat) (hi:i < n):(Dw n l).getD i 0=cs i l∧(Dw n l).length=n:=by
 have key:∀ (l:List Pk) (acc:List Nat),acc.length=n→(∀ p∈l,p.2.length=n)→(l.foldl (fun acc p=>List.zipWith (·+·) acc p.2) acc).getD i 0=acc.getD i 0+cs i l∧(l.foldl (fun acc p=>List.zipWith (·+·) acc p.2) acc).length=n:=by
  intro l
  induction l with
  | nil=>intro acc h _;exact⟨by simp[cs],h⟩
  | cons p l ih=>
   intro acc h hp
   have hp0:=hp p (by simp)
   obtain⟨h1,h2⟩:=ih (List.zipWith (·+·) acc p.2) (yY _ _ n h hp0) (fun q hq=>hp q (by simp[hq]))
   simp only[List.foldl_cons]
   refine⟨?_,h2⟩
   rw[h1,gZ acc p.2 n i h hp0]
   simp[cs,cv];omega
 have:=key l (List.replicate n 0) (by simp) hl
 refine⟨?_,this.2⟩
 unfold Dw
 rw[this.1]
 simp[List.getD_eq_getElem?_getD,hi]
theorem ah (one:List Pk) (t:Nat):(BS one t).length≤2*one.length∧(2*one.length - (BS one t).length)*2 ^ t+1≤one.length+2 ^ t:=by
 induction t with
 | zero=>simp[BS];omega
 | succ t ih=>
  obtain⟨h1,h2⟩:=ih
  rw[PZ]
  refine⟨by omega,?_⟩
  have h3:2*one.length - (one.length+(BS one t).length / 2)≤(2*one.length - (BS one t).length+1) / 2:=by omega
  have h4:(2*one.length - (one.length+(BS one t).length / 2))*2 ^ (t+1)≤(2*one.length - (BS one t).length+1)*2 ^ t:=by
   rw[Nat.pow_succ,Nat.mul_comm (2 ^ t) 2,←Nat.mul_assoc]
   exact Nat.mul_le_mul_right _ (by omega)
  rw[Nat.add_mul]at h4
  rw[Nat.pow_succ]at h4⊢
  omega
theorem RF (one:List Pk) (L:Nat) (hL:1≤L) (hn:one.length≤2 ^ L):2*one.length - 2≤(BS one (L - 1)).length:=by
 obtain⟨h1,h2⟩:=ah one (L - 1)
 obtain⟨M,rfl⟩:∃ M,L=M+1:=⟨L - 1,by omega⟩
 rw[Nat.add_sub_cancel]at *
 rw[Nat.pow_succ]at hn
 have h3:(2*one.length - (BS one M).length)*2 ^ M < 3*2 ^ M:=by omega
 have h4:=Nat.lt_of_mul_lt_mul_right h3
 omega
theorem Pf (as:List Nat):(as.map fun _=>0).sum=0:=by
 induction as with
 | nil=>rfl
 | cons a as ih=>rw[List.map_cons,List.sum_cons,ih]
theorem gz (as:List Nat) (r:Nat):(as.map fun a=>if r < a then 1 else 0).sum=(as.filter fun a=>decide (r < a)).length:=by
 induction as with
 | nil=>rfl
 | cons a as ih=>
  simp only[List.map_cons,List.sum_cons,List.filter_cons]
  by_cases h:r < a
  ·rw[if_pos h,if_pos (by simpa using h),List.length_cons,ih];omega
  ·rw[if_neg h,if_neg (by simpa using h),ih];omega
theorem LM (ls:List Nat) (L:Nat) (hL:1≤L) (h2:2≤(ones ls).length) (hn:(ones ls).length≤2 ^ L) :
  (AX ls L).length=ls.length∧(∀ i,i < ls.length→((AX ls L).getD i 0=0↔ls.getD i 0=0)∧(AX ls L).getD i 0≤L)∧((used ls).map fun i=>2 ^ (L - (AX ls L).getD i 0)).sum=2 ^ L∧
   ∀ i,i < ls.length→(AX ls L).getD i 0=cs i ((BS (CS BZ (ones ls)) (L - 1)).take (2*(ones ls).length - 2)):=by
 have hN:(CS BZ (ones ls)).length=(ones ls).length:=EY _ _
 have hf:OY ls.length (CS BZ (ones ls)):=NL _ _ (Qe ls)
 have hk:2*(ones ls).length - 2≤(BS (CS BZ (ones ls)) (L - 1)).length:=by
  have:=RF (CS BZ (ones ls)) L hL (by rw[hN];exact hn)
  rw[hN]at this;exact this
 have e:AX ls L=Dw ls.length ((BS (CS BZ (ones ls)) (L - 1)).take (2*(ones ls).length - 2)):=by
  unfold AX;rw[if_neg (by omega),if_neg (by omega)]
 have hfr:∀ p∈(BS (CS BZ (ones ls)) (L - 1)).take (2*(ones ls).length - 2),p.2.length=ls.length:=fun p hp=>(NM _ _ hf _ p (List.mem_of_mem_take hp)).1
 have hget:∀ i,i < ls.length→(AX ls L).getD i 0=cs i ((BS (CS BZ (ones ls)) (L - 1)).take (2*(ones ls).length - 2)):=fun i hi=>by rw[e];exact (Uh _ _ hfr i hi).1
 have hlen:(AX ls L).length=ls.length:=by
  rcases Nat.eq_zero_or_pos ls.length with h0 | h0
  ·exfalso
   have:ls=[]:=List.eq_nil_of_length_eq_zero h0
   subst this;simp[ones,used]at h2
  ·rw[e];exact (Uh _ _ hfr 0 h0).2
 obtain⟨as,g1,g2,g3,g4,g5,_⟩:=levels ls.length (CS BZ (ones ls)) hf (Jk _ _) (L - 1) _ hk
 rw[hN]at g5
 have gl:as.length=L:=by omega
 have AIJ:∀ (r i:Nat),(MC ls)[r]?=some i→(AX ls L).getD i 0=gq as r:=by
  intro r i hr
  have him:i∈MC ls:=List.mem_of_getElem? hr
  have hil:i < ls.length:=((DR ls i).1 ((I5 ls).mem_iff.1 him)).1
  rw[hget i hil,g2]
  unfold yZ gq
  have:(as.map fun a=>cs i ((CS BZ (ones ls)).take a))=as.map fun a=>if r < a then 1 else 0:=by
   apply List.map_congr_left;intro a _;exact ABh ls r i a hr
  rw[this]
  exact gz as r
 have hw:wd as=((ones ls).length - 1)*2 ^ as.length:=by
  rw[g3,gl]
  obtain⟨M,rfl⟩:∃ M,L=M+1:=⟨L - 1,by omega⟩
  rw[Nat.add_sub_cancel,Nat.pow_succ,show 2*(ones ls).length - 2=((ones ls).length - 1)*2 by omega,Nat.mul_assoc,Nat.mul_comm 2]
 have hkr:=qQ as (ones ls).length g4 g5 (by omega) hw
 have hUl:(MC ls).length=(ones ls).length:=by rw[(I5 ls).length_eq,GZ]
 have hsum:((MC ls).map fun i=>2 ^ (L - (AX ls L).getD i 0)).sum=2 ^ L:=by
  rw[gl]at hkr
  rw[←hkr]
  congr 1
  apply List.ext_getElem
  ·simp[hUl]
  ·intro r h1 h2
   simp only[List.getElem_map,List.getElem_range]
   simp at h1
   rw[AIJ r _ (List.getElem?_eq_getElem h1)]
 have hpos:∀ (r i:Nat),(MC ls)[r]?=some i→(AX ls L).getD i 0≠0:=by
  intro r i hr h0
  have hrl:=(List.getElem?_eq_some_iff.1 hr).1
  obtain⟨s,t,hst⟩:=List.append_of_mem (List.mem_of_getElem? hr)
  rw[hst]at hsum
  rw[List.map_append,List.sum_append,List.map_cons,List.sum_cons,h0,Nat.sub_zero]at hsum
  have hex:s++t≠[]:=fun hnil=>by
   have:(MC ls).length=(s++t).length+1:=by rw[hst];simp;omega
   rw[hnil]at this;simp at this;omega
  obtain⟨j,hj⟩:=List.exists_mem_of_ne_nil _ hex
  have hp:1≤((s++t).map fun i=>2 ^ (L - (AX ls L).getD i 0)).sum:=by
   obtain⟨s',t',hst'⟩:=List.append_of_mem hj
   rw[hst',List.map_append,List.sum_append,List.map_cons,List.sum_cons]
   have:1≤2 ^ (L - (AX ls L).getD j 0):=Nat.one_le_two_pow
   omega
  rw[List.map_append,List.sum_append]at hp
  omega
 refine⟨hlen,fun i hi=>?_,?_,hget⟩
 ·by_cases h0:ls.getD i 0=0
  ·have hz:(AX ls L).getD i 0=0:=by
    rw[hget i hi,g2]
    have:∀ a,cs i ((CS BZ (ones ls)).take a)=0:=by
     intro a
     have hall:∀ p∈(CS BZ (ones ls)).take a,cv i p=0:=by
      intro p hp
      have hp':=(Cv BZ (ones ls)).mem_iff.1 (List.mem_of_mem_take hp)
      rw[NP]at hp'
      obtain⟨j,hj,rfl⟩:=List.mem_map.1 hp'
      rw[DR]at hj
      simp only[cv,JP]
      rw[KV _ _ _ hi,if_neg]
      intro hij;subst hij;omega
     unfold cs
     generalize (CS BZ (ones ls)).take a=l at hall
     induction l with
     | nil=>rfl
     | cons p l ih=>rw[List.map_cons,List.sum_cons,hall p (by simp),ih (fun q hq=>hall q (by simp[hq]))]
    unfold yZ
    have e2:(as.map fun a=>cs i ((CS BZ (ones ls)).take a))=as.map fun _=>0:=by
     apply List.map_congr_left;intro a _;exact this a
    rw[e2];exact Pf as
   exact⟨⟨fun _=>h0,fun _=>hz⟩,by omega⟩
  ·have him:i∈MC ls:=(I5 ls).mem_iff.2 ((DR ls i).2 ⟨hi,by omega⟩)
   obtain⟨r,hr1,hr2⟩:=List.mem_iff_getElem.1 him
   have hr:(MC ls)[r]?=some i:=by rw[List.getElem?_eq_getElem hr1,hr2]
   refine⟨⟨fun h=>absurd h (hpos r i hr),fun h=>absurd h h0⟩,?_⟩
   rw[AIJ r i hr]
   have:=(kY as r g4).2
   omega
 ·have:=((I5 ls).map fun i=>2 ^ (L - (AX ls L).getD i 0)).sum_nat
  rw[←this];exact hsum
end SP
namespace SP
set_option linter.unusedVariables false
def yf:List (Nat×Nat)→Nat
 | []=>0
 | c :: cs=>c.1*2 ^ cs.length+yf cs
theorem kg (Z A B:List Pk) (p:Z.Perm (A++B)) (hZ:Sorted Z) (a b:Nat) (ha:a≤A.length) (hb:b≤B.length):wt (Z.take (a+b))≤wt (A.take a)+wt (B.take b):=by
 have hp:Z.Perm ((A.take a++B.take b)++(A.drop a++B.drop b)):=by
  refine p.trans ?_
  have h1:(A++B).Perm ((A.take a++A.drop a)++(B.take b++B.drop b)):=by rw[List.take_append_drop,List.take_append_drop]
  refine h1.trans ?_
  rw[List.append_assoc,List.append_assoc]
  refine List.Perm.append_left _ ?_
  rw[←List.append_assoc,←List.append_assoc]
  exact List.Perm.append_right _ List.perm_append_comm
 have:=UM BZ Z (A.take a++B.take b) (A.drop a++B.drop b) hp hZ
 rw[List.length_append,List.length_take,List.length_take,Nat.min_eq_left ha,Nat.min_eq_left hb,List.map_append,List.sum_append]at this
 exact this
theorem ko (l:List Pk) (a b:Nat) (h:a≤b):wt (l.take a)≤wt (l.take b):=by
 obtain⟨d,rfl⟩:=Nat.exists_eq_add_of_le h
 have:l.take (a+d)=l.take a++(l.drop a).take d:=by rw[List.take_add]
 rw[this,qP];omega
theorem ABi (n:Nat) (one:List Pk) (hf:OY n one) (hs:Sorted one) (t:Nat):∀ (cs:List (Nat×Nat)) (k:Nat),cs.length=t+1→(∀ c∈cs,c.1≤one.length∧wt (one.take c.1)≤c.2)→k*2 ^ t≤yf cs→
  k≤(BS one t).length∧wt ((BS one t).take k)≤(cs.map (·.2)).sum:=by
 induction t with
 | zero=>
  intro cs k hl hc hk
  match cs,hl with
  | [c],_=>
   have h1:=hc c (by simp)
   simp[yf]at hk
   refine⟨by simp only[BS];omega,?_⟩
   have:=ko one k c.1 hk
   simp only[BS,List.map_cons,List.map_nil,List.sum_cons,List.sum_nil]
   omega
 | succ t ih=>
  intro cs k hl hc hk
  match cs,hl with
  | c :: cs,hl=>
   have h1:=hc c (by simp)
   have hl':cs.length=t+1:=by simpa using hl
   have hc':∀ d∈cs,d.1≤one.length∧wt (one.take d.1)≤d.2:=fun d hd=>hc d (by simp[hd])
   simp only[yf,hl']at hk
   simp only[List.map_cons,List.sum_cons]
   rcases Nat.lt_or_ge c.1 k with hck | hck
   ·have hk2:(2*(k - c.1))*2 ^ t≤yf cs:=by
     have e:k*2 ^ (t+1)=c.1*2 ^ (t+1)+(2*(k - c.1))*2 ^ t:=by
      have:2*(k - c.1)*2 ^ t=(k - c.1)*2 ^ (t+1):=by rw[Nat.pow_succ,Nat.mul_comm 2 (k - c.1),Nat.mul_assoc,Nat.mul_comm 2]
      rw[this,←Nat.add_mul];congr 1;omega
     omega
    obtain⟨i1,i2⟩:=ih cs _ hl' hc' hk2
    have hp:k - c.1≤(pairs (BS one t)).length:=by rw[Kg];omega
    obtain⟨p1,_,_⟩:=Uf n (BS one t) (NM n one hf t) (k - c.1) i1
    have hk3:k≤(BS one (t+1)).length:=by rw[PZ];rw[Kg]at hp;omega
    refine⟨hk3,?_⟩
    have h2:=kg (BS one (t+1)) one (pairs (BS one t)) (Cv _ _) (Jl one hs (t+1)) c.1 (k - c.1) h1.1 hp
    rw[show c.1+(k - c.1)=k by omega,p1]at h2
    omega
   ·refine⟨by rw[PZ];omega,?_⟩
    have h2:=kg (BS one (t+1)) one (pairs (BS one t)) (Cv _ _) (Jl one hs (t+1)) k 0 (by omega) (Nat.zero_le _)
    have h3:=ko one k c.1 hck
    simp only[Nat.add_zero,List.take_zero]at h2
    have:wt []=0:=rfl
    omega
def cost (ls ms:List Nat):Nat:=((List.range ls.length).map fun i=>ls.getD i 0*ms.getD i 0).sum
theorem UY (ls:List Nat) (f:Nat→Nat) (h:∀ i,i < ls.length→ls.getD i 0=0→f i=0):((List.range ls.length).map f).sum=((used ls).map f).sum:=by
 unfold used
 have key:∀ l:List Nat,(∀ i∈l,i < ls.length)→(l.map f).sum=((l.filter fun i=>decide (0 < ls.getD i 0)).map f).sum:=by
  intro l
  induction l with
  | nil=>intro _;rfl
  | cons i l ih=>
   intro hl
   have ih':=ih (fun j hj=>hl j (by simp[hj]))
   rw[List.map_cons,List.sum_cons]
   by_cases h0:0 < ls.getD i 0
   ·rw[List.filter_cons_of_pos (by simpa using h0),List.map_cons,List.sum_cons,ih']
   ·rw[List.filter_cons_of_neg (by simpa using h0),←ih',h i (hl i (by simp)) (by omega)];omega
 exact key _ (fun i hi=>by simpa using hi)
def deep (ls ms:List Nat) (d:Nat):Nat×Nat:=(((used ls).filter fun i=>decide (d < ms.getD i 0)).length,(((used ls).filter fun i=>decide (d < ms.getD i 0)).map fun i=>ls.getD i 0).sum)
theorem ABj (ls ms:List Nat) (d:Nat):(deep ls ms d).1≤(CS BZ (ones ls)).length∧wt ((CS BZ (ones ls)).take (deep ls ms d).1)≤(deep ls ms d).2:=by
 have hle:(deep ls ms d).1≤(used ls).length:=List.length_filter_le _ _
 refine⟨by rw[EY,GZ];exact hle,?_⟩
 have hp:(CS BZ (ones ls)).Perm ((((used ls).filter fun i=>decide (d < ms.getD i 0)).map (JP ls))++(((used ls).filter fun i=>!decide (d < ms.getD i 0)).map (JP ls))):=by
  refine (Cv BZ (ones ls)).trans ?_
  rw[NP,←List.map_append]
  exact (List.filter_append_perm _ _).symm.map _
 have:=UM BZ _ _ _ hp (Jk BZ (ones ls))
 rw[List.length_map,List.map_map]at this
 exact this
theorem qR (ls ms:List Nat) (L:Nat) (hm:∀ i∈used ls,ms.getD i 0≤L):(((List.range L).map fun d=>(deep ls ms d).2)).sum=((used ls).map fun i=>ls.getD i 0*ms.getD i 0).sum:=by
 have add:∀ (l:List Nat) (f g:Nat→Nat),(l.map fun r=>f r+g r).sum=(l.map f).sum+(l.map g).sum:=by
  intro l f g
  induction l with
  | nil=>rfl
  | cons b l ih=>simp only[List.map_cons,List.sum_cons];omega
 unfold deep
 simp only
 have key:∀ us:List Nat,(∀ i∈us,ms.getD i 0≤L)→((List.range L).map fun d=>((us.filter fun i=>decide (d < ms.getD i 0)).map fun i=>ls.getD i 0).sum).sum=(us.map fun i=>ls.getD i 0*ms.getD i 0).sum:=by
  intro us
  induction us with
  | nil=>intro _;simp only[List.filter_nil,List.map_nil,List.sum_nil];exact Pf _
  | cons i us ih=>
   intro h
   have e:(fun d=>(((i :: us).filter fun i=>decide (d < ms.getD i 0)).map fun i=>ls.getD i 0).sum)=fun d=>(if d < ms.getD i 0 then 1 else 0)*ls.getD i 0+((us.filter fun i=>decide (d < ms.getD i 0)).map fun i=>ls.getD i 0).sum:=by
    funext d
    by_cases hd:d < ms.getD i 0
    ·rw[List.filter_cons_of_pos (by simpa using hd),if_pos hd,List.map_cons,List.sum_cons];omega
    ·rw[List.filter_cons_of_neg (by simpa using hd),if_neg hd];omega
   rw[e,add,ih (fun j hj=>h j (by simp[hj])),List.map_cons,List.sum_cons]
   congr 1
   have mul:∀ (l:List Nat) (f:Nat→Nat) (c:Nat),(l.map fun r=>f r*c).sum=(l.map f).sum*c:=by
    intro l f c
    induction l with
    | nil=>simp
    | cons b l ih=>simp only[List.map_cons,List.sum_cons,ih,Nat.add_mul]
   rw[mul,sum_lt _ _ (h i (by simp)),Nat.mul_comm]
 exact key _ hm
theorem sum_add (l:List Nat) (f g:Nat→Nat):(l.map fun r=>f r+g r).sum=(l.map f).sum+(l.map g).sum:=by
 induction l with
 | nil=>rfl
 | cons b l ih=>simp only[List.map_cons,List.sum_cons];omega
theorem ABk (l:List Nat) (f:Nat→Nat) (c:Nat):(l.map fun r=>f r*c).sum=(l.map f).sum*c:=by
 induction l with
 | nil=>simp
 | cons b l ih=>simp only[List.map_cons,List.sum_cons,ih,Nat.add_mul]
theorem iA (us:List Nat) (p:Nat→Bool):(us.filter p).length=(us.map fun i=>if p i then 1 else 0).sum:=by
 induction us with
 | nil=>rfl
 | cons i us ih=>
  rw[List.map_cons,List.sum_cons,←ih]
  by_cases h:p i=true
  ·rw[List.filter_cons_of_pos h,if_pos h,List.length_cons];omega
  ·rw[List.filter_cons_of_neg h,if_neg h];omega
def single (x s m:Nat):Nat:=wd ((List.range' s m).map fun d=>if d < x then 1 else 0)
theorem M3 (x s m:Nat):single x s (m+1)=(if s < x then 1 else 0)*2 ^ m+single x (s+1) m:=by
 unfold single
 rw[List.range'_succ,List.map_cons]
 simp[wd]
theorem aj (x s m:Nat) (h:x≤s):single x s m=0:=by
 induction m generalizing s with
 | zero=>rfl
 | succ m ih=>rw[M3,if_neg (by omega),ih (s+1) (by omega)];simp
theorem qU (x s m:Nat) (h1:s≤x) (h2:x≤s+m):single x s m+2 ^ (s+m - x)=2 ^ m:=by
 induction m generalizing s with
 | zero=>
  have:x=s:=by omega
  subst this;simp[single,wd]
 | succ m ih=>
  rw[M3]
  by_cases h:s < x
  ·rw[if_pos h]
   have:=ih (s+1) (by omega) (by omega)
   rw[show s+(m+1) - x=s+1+m - x by omega,Nat.pow_succ]
   omega
  ·have:x=s:=by omega
   subst this
   rw[if_neg (by omega),aj _ _ _ (by omega),show x+(m+1) - x=m+1 by omega];simp
theorem iB (ls ms:List Nat) (s m:Nat):yf ((List.range' s m).map (deep ls ms))=((used ls).map fun i=>single (ms.getD i 0) s m).sum:=by
 induction m generalizing s with
 | zero=>
  have:((used ls).map fun i=>single (ms.getD i 0) s 0)=(used ls).map fun _=>0:=by apply List.map_congr_left;intro i _;rfl
  rw[this,Pf];rfl
 | succ m ih=>
  rw[List.range'_succ,List.map_cons]
  simp only[yf,List.length_map,List.length_range',ih]
  have:((used ls).map fun i=>single (ms.getD i 0) s (m+1))=(used ls).map fun i=>(if s < ms.getD i 0 then 1 else 0)*2 ^ m+single (ms.getD i 0) (s+1) m:=by
   apply List.map_congr_left;intro i _;exact M3 _ _ _
  rw[this,sum_add,ABk]
  congr 2
  unfold deep
  simp only
  rw[iA]
  congr 1
  apply List.map_congr_left;intro i _
  simp
theorem iC (ls ms:List Nat) (L:Nat) (hm:∀ i∈used ls,ms.getD i 0≤L):yf ((List.range L).map (deep ls ms))+((used ls).map fun i=>2 ^ (L - ms.getD i 0)).sum=(used ls).length*2 ^ L:=by
 rw[List.range_eq_range',iB,←sum_add]
 have:((used ls).map fun i=>single (ms.getD i 0) 0 L+2 ^ (L - ms.getD i 0))=(used ls).map fun _=>2 ^ L:=by
  apply List.map_congr_left
  intro i hi
  have:=qU (ms.getD i 0) 0 L (Nat.zero_le _) (by have:=hm i hi;omega)
  rwa [Nat.zero_add]at this
 rw[this]
 generalize used ls=us
 induction us with
 | nil=>simp
 | cons a us ih=>rw[List.map_cons,List.sum_cons,ih,List.length_cons,Nat.add_mul];omega
def Ga (ls:List Nat) (p:Pk):Prop:=p.1=((List.range ls.length).map fun i=>ls.getD i 0*cv i p).sum
theorem iD (ls:List Nat) (j:Nat) (hj:j < ls.length):Ga ls (JP ls j):=by
 unfold Ga JP
 simp only
 have key:∀ n,n≤ls.length→((List.range n).map fun i=>ls.getD i 0*cv i (ls.getD j 0,unit ls.length j)).sum=if j < n then ls.getD j 0 else 0:=by
  intro n
  induction n with
  | zero=>intro _;rfl
  | succ n ih=>
   intro hn
   rw[List.range_succ,List.map_append,List.sum_append,ih (by omega)]
   simp only[List.map_cons,List.map_nil,List.sum_cons,List.sum_nil,cv]
   rw[KV _ _ _ (by omega)]
   by_cases h:n=j
   ·subst h;rw[if_pos rfl,if_neg (by omega),if_pos (by omega)];omega
   ·rw[if_neg h]
    by_cases h2:j < n
    ·rw[if_pos h2,if_pos (by omega)];omega
    ·rw[if_neg h2,if_neg (by omega)];omega
 rw[key _ (Nat.le_refl _),if_pos hj]
theorem ak (ls:List Nat) (p q:Pk) (hp:Ga ls p) (hq:Ga ls q) (lp:p.2.length=ls.length) (lq:q.2.length=ls.length):Ga ls (both p q):=by
 unfold Ga at *
 simp only[both]
 rw[hp,hq,←sum_add]
 congr 1
 apply List.map_congr_left
 intro i _
 simp only[cv]
 rw[gZ _ _ _ i lp lq,Nat.mul_add]
theorem YK (ls:List Nat) (l:List Pk) (h:∀ p∈l,Ga ls p∧p.2.length=ls.length):∀ p∈pairs l,Ga ls p:=by
 have key:∀ m,∀ l:List Pk,l.length≤m→(∀ p∈l,Ga ls p∧p.2.length=ls.length)→∀ p∈pairs l,Ga ls p:=by
  intro m
  induction m with
  | zero=>intro l hl _;obtain rfl:=List.eq_nil_of_length_eq_zero (show l.length=0 by omega);intro p hp;simp[pairs]at hp
  | succ m ih=>
   intro l hl h p hp
   match l with
   | []=>simp[pairs]at hp
   | [a]=>simp[pairs]at hp
   | a :: b :: l=>
    simp only[pairs]at hp
    have ha:=h a (by simp)
    have hb:=h b (by simp)
    rcases List.mem_cons.1 hp with rfl | hp
    ·exact ak ls a b ha.1 hb.1 ha.2 hb.2
    ·exact ih l (by simp at hl;omega) (fun q hq=>h q (by simp[hq])) p hp
 exact key _ l (Nat.le_refl _) h
theorem iE (ls:List Nat) (t:Nat):∀ p∈BS (CS BZ (ones ls)) t,Ga ls p:=by
 have h1:∀ p∈CS BZ (ones ls),Ga ls p:=fun p hp=>by
  have hp':=(Cv BZ (ones ls)).mem_iff.1 hp
  rw[NP]at hp'
  obtain⟨i,hi,rfl⟩:=List.mem_map.1 hp'
  exact iD ls i ((DR ls i).1 hi).1
 have hf:OY ls.length (CS BZ (ones ls)):=NL _ _ (Qe ls)
 induction t with
 | zero=>exact h1
 | succ t ih=>
  intro p hp
  have hp':=(Cv BZ _).mem_iff.1 hp
  rcases List.mem_append.1 hp' with hp' | hp'
  ·exact h1 p hp'
  ·exact YK ls _ (fun q hq=>⟨ih q hq,(NM _ _ hf t q hq).1⟩) p hp'
theorem AIK (ls:List Nat) (l:List Pk) (h:∀ p∈l,Ga ls p):wt l=((List.range ls.length).map fun i=>ls.getD i 0*cs i l).sum:=by
 induction l with
 | nil=>
  have:((List.range ls.length).map fun i=>ls.getD i 0*cs i [])=(List.range ls.length).map fun _=>0:=by apply List.map_congr_left;intro i _;simp[cs]
  rw[this,Pf];rfl
 | cons p l ih=>
  have e:((List.range ls.length).map fun i=>ls.getD i 0*cs i (p :: l))=(List.range ls.length).map fun i=>ls.getD i 0*cv i p+ls.getD i 0*cs i l:=by
   apply List.map_congr_left;intro i _;simp[cs,Nat.mul_add]
  rw[e,sum_add,←ih (fun q hq=>h q (by simp[hq]))]
  have:=h p (by simp)
  unfold Ga at this
  simp only[wt,List.map_cons,List.sum_cons,BZ]
  rw[this]
theorem YL (ls:List Nat) (L:Nat) (hL:1≤L) (h2:2≤(ones ls).length) (hn:(ones ls).length≤2 ^ L):cost ls (AX ls L)=wt ((BS (CS BZ (ones ls)) (L - 1)).take (2*(ones ls).length - 2)):=by
 obtain⟨_,_,_,h4⟩:=LM ls L hL h2 hn
 rw[AIK ls _ (fun p hp=>iE ls _ p (List.mem_of_mem_take hp))]
 unfold cost
 congr 1
 apply List.map_congr_left
 intro i hi
 simp at hi
 rw[h4 i hi]
theorem YI (ls ms:List Nat) (L:Nat) (hL:1≤L) (h2:2≤(ones ls).length) (hn:(ones ls).length≤2 ^ L) (hm:∀ i∈used ls,ms.getD i 0≤L) (hk:((used ls).map fun i=>2 ^ (L - ms.getD i 0)).sum≤2 ^ L) :
  cost ls (AX ls L)≤cost ls ms:=by
 rw[YL ls L hL h2 hn]
 have hw:=iC ls ms L hm
 have hN:(CS BZ (ones ls)).length=(ones ls).length:=EY _ _
 obtain⟨M,rfl⟩:∃ M,L=M+1:=⟨L - 1,by omega⟩
 rw[Nat.add_sub_cancel]
 have AIL:=(ABi ls.length (CS BZ (ones ls)) (NL _ _ (Qe ls)) (Jk _ _) M ((List.range (M+1)).map (deep ls ms)) (2*(ones ls).length - 2) (by simp)
  (fun c hc=>by
   obtain⟨d,_,rfl⟩:=List.mem_map.1 hc
   exact ABj ls ms d) (by
  rw[←GZ]at hw
  have e:(2*(ones ls).length - 2)*2 ^ M=((ones ls).length - 1)*2 ^ (M+1):=by
   rw[show 2*(ones ls).length - 2=((ones ls).length - 1)*2 by omega,Nat.mul_assoc,Nat.pow_succ,Nat.mul_comm 2]
  have e2:(ones ls).length*2 ^ (M+1)=((ones ls).length - 1)*2 ^ (M+1)+2 ^ (M+1):=by
   conv=>lhs;rw[show (ones ls).length=((ones ls).length - 1)+1 by omega,Nat.add_mul,Nat.one_mul]
  omega)).2
 rw[List.map_map]at AIL
 have hc:=qR ls ms (M+1) hm
 have e:cost ls ms=((used ls).map fun i=>ls.getD i 0*ms.getD i 0).sum:=UY ls _ (fun i _ h0=>by rw[h0];simp)
 rw[e,←hc]
 exact AIL
end SP
end Go.Proofs.YtabdianhoabhhaaGreatDoor
