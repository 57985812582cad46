/- texts joined: SortPure. -/
import Derived.Test.YtabdianhoabhhaaGreatDoorSkWords
namespace Go.Proofs.YtabdianhoabhhaaGreatDoor
namespace SP
set_option linter.unusedVariables false
section
variable {α:Type} {le:α→α→Prop}
theorem EO (a b:List α):(a++b).Pairwise le↔a.Pairwise le∧b.Pairwise le∧∀ x∈a,∀ y∈b,le x y:=List.pairwise_append
theorem ABP (l:List α) (k:Nat) (h:l.Pairwise le):(l.take k).Pairwise le:=h.sublist (List.take_sublist k l)
theorem ABQ (l:List α) (k:Nat) (h:l.Pairwise le):(l.drop k).Pairwise le:=h.sublist (List.drop_sublist k l)
theorem yA (l:List α) (h:l.Pairwise le) (i j:Nat) (hj:j < l.length) (hij:i < j):le (l[i]'(by omega)) l[j]:=List.pairwise_iff_getElem.1 h i j (by omega) hj hij
theorem ahead (tr:∀ a b c,le a b→le b c→le a c) (l:List α) (h:l.Pairwise le) (t:Nat) (ht:t≤l.length) (h0:0 < t) (y:α) (hy:le (l[t - 1]'(by omega)) y):∀ x∈l.take t,le x y:=by
 intro x hx
 obtain⟨i,hi,rfl⟩:=List.mem_iff_getElem.1 hx
 simp at hi
 rw[List.getElem_take]
 rcases Nat.lt_or_ge i (t - 1) with h1 | h1
 ·exact tr _ _ _ (yA l h i (t - 1) (by omega) h1) hy
 ·have:i=t - 1:=by omega
  subst this;exact hy
theorem behind (tr:∀ a b c,le a b→le b c→le a c) (l:List α) (h:l.Pairwise le) (t:Nat) (ht:t < l.length) (y:α) (hy:le y l[t]):∀ x∈l.drop t,le y x:=by
 intro x hx
 obtain⟨i,hi,rfl⟩:=List.mem_iff_getElem.1 hx
 simp at hi
 rw[List.getElem_drop]
 rcases Nat.eq_zero_or_pos i with h1 | h1
 ·subst h1;exact hy
 ·exact tr _ _ _ hy (yA l h t (t+i) (by omega) (by omega))
theorem AEi (tr:∀ a b c,le a b→le b c→le a c) (x:α) (l:List α) (t:Nat) (ht:t≤l.length) (h:l.Pairwise le) (h1:t=0∨∃ h:t - 1 < l.length,le l[t - 1] x) (h2:t=l.length∨∃ h:t < l.length,le x l[t]) :
  (l.take t++x :: l.drop t).Pairwise le:=by
 have ha:∀ y∈l.take t,le y x:=by
  rcases h1 with rfl | ⟨_,h1⟩
  ·simp
  ·rcases Nat.eq_zero_or_pos t with h0 | h0
   ·subst h0;simp
   ·exact ahead tr l h t ht h0 x h1
 have hb:∀ y∈l.drop t,le x y:=by
  rcases h2 with rfl | ⟨h3,h2⟩
  ·simp
  ·exact behind tr l h t h3 x h2
 rw[EO]
 refine⟨ABP l t h,?_,?_⟩
 ·rw[List.pairwise_cons];exact⟨hb,ABQ l t h⟩
 ·intro a haa b hbb
  rcases List.mem_cons.1 hbb with rfl | hbb
  ·exact ha a haa
  ·exact tr _ _ _ (ha a haa) (hb b hbb)
theorem halves (tr:∀ a b c,le a b→le b c→le a c) (L R:List α) (s e:Nat) (hs:s≤L.length) (he:e≤R.length) (hL:L.Pairwise le) (hR:R.Pairwise le)
  (h1:s=0∨e=R.length∨∃ (a:s - 1 < L.length) (b:e < R.length),le L[s - 1] R[e]) (h2:e=0∨s=L.length∨∃ (a:e - 1 < R.length) (b:s < L.length),le R[e - 1] L[s]) :
  ∀ x∈L.take s++R.take e,∀ y∈L.drop s++R.drop e,le x y:=by
 intro x hx y hy
 have cross:∀ (l m:List α) (i j:Nat),i≤l.length→l.Pairwise le→m.Pairwise le→(i=0∨j=m.length∨∃ (a:i - 1 < l.length) (b:j < m.length),le l[i - 1] m[j])→j≤m.length→∀ x∈l.take i,∀ y∈m.drop j,le x y:=by
  intro l m i j hi hl hm h hj x hx y hy
  rcases h with rfl | rfl | ⟨a,b,h⟩
  ·simp at hx
  ·simp at hy
  ·rcases Nat.eq_zero_or_pos i with h0 | h0
   ·subst h0;simp at hx
   ·exact behind tr m hm j b x (ahead tr l hl i hi h0 _ h x hx) y hy
 have own:∀ (l:List α) (i:Nat),l.Pairwise le→∀ x∈l.take i,∀ y∈l.drop i,le x y:=by
  intro l i hl
  have:(l.take i++l.drop i).Pairwise le:=by rw[List.take_append_drop];exact hl
  exact (EO _ _).1 this |>.2.2
 rcases List.mem_append.1 hx with hx | hx <;> rcases List.mem_append.1 hy with hy | hy
 ·exact own L s hL x hx y hy
 ·exact cross L R s e hs hL hR h1 he x hx y hy
 ·exact cross R L e s he hR hL h2 hs x hx y hy
 ·exact own R e hR x hx y hy
theorem aS (M1 M2 A B:List α) (p1:M1.Perm A) (p2:M2.Perm B) (s1:M1.Pairwise le) (s2:M2.Pairwise le) (h:∀ x∈A,∀ y∈B,le x y):(M1++M2).Pairwise le:=
 (EO _ _).2 ⟨s1,s2,fun x hx y hy=>h x (p1.mem_iff.1 hx) y (p2.mem_iff.1 hy)⟩
end
end SP
namespace SP
set_option linter.unusedVariables false
section
variable {α:Type} (key:α→Nat)
def lexB (x y:α×Nat):Bool:=decide (key x.1 < key y.1) || (decide (key x.1=key y.1) && decide (x.2≤y.2))
def Cq (x y:α×Nat):Prop:=key x.1 < key y.1∨(key x.1=key y.1∧x.2≤y.2)
theorem Ka (x y:α×Nat):lexB key x y=true↔Cq key x y:=by simp[lexB,Cq]
theorem OV (x y z:α×Nat) (h1:Cq key x y) (h2:Cq key y z):Cq key x z:=by unfold Cq at *;omega
theorem gJ (x y:α×Nat):Cq key x y∨Cq key y x:=by unfold Cq;omega
def WU (l:List α):List (α×Nat):=l.zipIdx.mergeSort (lexB key)
def CS (l:List α):List α:=(WU key l).map (·.1)
theorem Fz (l:List α):(WU key l).Perm l.zipIdx:=List.mergeSort_perm _ _
theorem Ik (l:List α):(WU key l).Pairwise (Cq key):=by
 have h:=List.pairwise_mergeSort (le:=lexB key) (fun a b c h1 h2=>(Ka key a c).2 (OV key a b c ((Ka key a b).1 h1) ((Ka key b c).1 h2)))
  (fun a b=>by
   rcases gJ key a b with h | h
   ·rw[(Ka key a b).2 h];rfl
   ·rw[(Ka key b a).2 h];simp) l.zipIdx
 exact h.imp (fun h=>(Ka key _ _).1 h)
theorem Cv (l:List α):(CS key l).Perm l:=by
 have:=(Fz key l).map (·.1)
 rw[List.zipIdx_map_fst]at this
 exact this
theorem Jk (l:List α):(CS key l).Pairwise (fun x y=>key x≤key y):=by
 unfold CS
 rw[List.pairwise_map]
 exact (Ik key l).imp (fun h=>by unfold Cq at h;omega)
theorem EY (l:List α):(CS key l).length=l.length:=(Cv key l).length_eq
theorem Ni (l:List α) (k:Nat) (h:l.Pairwise (fun x y=>key x≤key y)):(l.zipIdx k).Pairwise (Cq key):=by
 induction l generalizing k with
 | nil=>simp
 | cons a l ih=>
  rw[List.pairwise_cons]at h
  rw[List.zipIdx_cons,List.pairwise_cons]
  refine⟨fun y hy=>?_,ih (k+1) h.2⟩
  obtain⟨h1,h2,h3⟩:=List.mem_zipIdx (x:=y.1) (i:=y.2) (by simpa using hy)
  have:=h.1 y.1 (by rw[h3];exact List.getElem_mem _)
  unfold Cq;simp only;omega
end
section
variable {β:Type} {le:β→β→Prop}
theorem head_drop (l:List β) (k:Nat) (h:k < l.length):l.drop k=l[k] :: l.drop (k+1):=List.drop_eq_getElem_cons h
theorem QX (rf:∀ a,le a a) (A:List β) (hA:A.Pairwise le) (a:Nat) (z:β) (hz:z∈A.drop a):∃ h:a < A.length,le A[a] z:=by
 have h:a < A.length:=by
  rcases Nat.lt_or_ge a A.length with h | h
  ·exact h
  ·rw[List.drop_of_length_le h]at hz;simp at hz
 refine⟨h,?_⟩
 rw[head_drop A a h]at hz
 rcases List.mem_cons.1 hz with rfl | hz
 ·exact rf _
 ·have hp:(A.drop a).Pairwise le:=hA.sublist (List.drop_sublist a A)
  rw[head_drop A a h,List.pairwise_cons]at hp
  exact hp.1 z hz
theorem gK (Z A B:List β) (ABR:∀ a b,a∈Z→b∈Z→le a b→le b a→a=b) (p:Z.Perm (A++B)) (hZ:Z.Pairwise le) (hA:A.Pairwise le) (hB:B.Pairwise le) (rf:∀ a,le a a) (k:Nat) (hk:k≤Z.length) :
  ∃ a q,a+q=k∧a≤A.length∧q≤B.length∧(Z.take k).Perm (A.take a++B.take q)∧(Z.drop k).Perm (A.drop a++B.drop q):=by
 induction k with
 | zero=>exact⟨0,0,rfl,Nat.zero_le _,Nat.zero_le _,by simp,by simpa using p⟩
 | succ k ih=>
  obtain⟨a,q,h1,h2,h3,h4,h5⟩:=ih (by omega)
  have hk':k < Z.length:=by omega
  have hzm:Z[k]∈A.drop a++B.drop q:=h5.mem_iff.1 (by rw[head_drop Z k hk'];exact List.mem_cons_self)
  have hmin:∀ y∈Z.drop k,le Z[k] y:=fun y hy=>(QX rf Z hZ k y hy).2
  rw[head_drop Z k hk']at h5
  have AHo:Z[k]∈Z:=List.getElem_mem hk'
  have inZ:∀ x,x∈A.drop a++B.drop q→x∈Z.drop k:=fun x hx=>by rw[head_drop Z k hk'];exact h5.mem_iff.2 hx
  rcases List.mem_append.1 hzm with hz | hz
  ·obtain⟨ha,hle⟩:=QX rf A hA a _ hz
   have hx:A[a]∈A.drop a++B.drop q:=by rw[head_drop A a ha];exact List.mem_append_left _ List.mem_cons_self
   have he:Z[k]=A[a]:=ABR _ _ AHo (List.mem_of_mem_drop (inZ _ hx)) (hmin _ (inZ _ hx)) hle
   refine⟨a+1,q,by omega,ha,h3,?_,?_⟩
   ·rw[List.take_succ_eq_append_getElem hk',List.take_succ_eq_append_getElem ha,he]
    refine (h4.append_right _).trans ?_
    rw[List.append_assoc,List.append_assoc]
    exact List.Perm.append_left _ List.perm_append_comm
   ·rw[head_drop A a ha,he,List.cons_append]at h5
    exact h5.cons_inv
  ·obtain⟨hb,hle⟩:=QX rf B hB q _ hz
   have hx:B[q]∈A.drop a++B.drop q:=by rw[head_drop B q hb];exact List.mem_append_right _ List.mem_cons_self
   have he:Z[k]=B[q]:=ABR _ _ AHo (List.mem_of_mem_drop (inZ _ hx)) (hmin _ (inZ _ hx)) hle
   refine⟨a,q+1,by omega,h2,hb,?_,?_⟩
   ·rw[List.take_succ_eq_append_getElem hk',List.take_succ_eq_append_getElem hb,he,←List.append_assoc]
    exact h4.append_right _
   ·rw[head_drop B q hb,he]at h5
    exact (h5.trans List.perm_middle).cons_inv
theorem UM (w:β→Nat) (Z X Y:List β) (p:Z.Perm (X++Y)) (hZ:Z.Pairwise (fun a b=>w a≤w b)):((Z.take X.length).map w).sum≤(X.map w).sum:=by
 induction Z generalizing X Y with
 | nil=>
  simp
 | cons z Z ih=>
  rw[List.pairwise_cons]at hZ
  have hz:z∈X++Y:=p.mem_iff.1 (by simp)
  rcases List.mem_append.1 hz with hx | hy
  ·obtain⟨s,t,rfl⟩:=List.append_of_mem hx
   have p2:Z.Perm ((s++t)++Y):=by
    have:(s++z :: t++Y).Perm (z :: (s++t++Y)):=by
     rw[List.append_assoc,List.append_assoc,List.cons_append];exact List.perm_middle
    exact (p.trans this).cons_inv
   have:=ih (s++t) Y p2 hZ.2
   have e:(s++z :: t).length=(s++t).length+1:=by simp;omega
   rw[e,List.take_succ_cons,List.map_cons,List.sum_cons]
   have e2:((s++z :: t).map w).sum=w z+((s++t).map w).sum:=by simp;omega
   rw[e2];omega
  ·obtain⟨s,t,rfl⟩:=List.append_of_mem hy
   have p2:Z.Perm (X++(s++t)):=by
    have:(X++(s++z :: t)).Perm (z :: (X++(s++t))):=by
     rw[←List.append_assoc,←List.append_assoc];exact List.perm_middle
    exact (p.trans this).cons_inv
   have h1:=ih X (s++t) p2 hZ.2
   refine Nat.le_trans ?_ h1
   have hl:X.length≤Z.length:=by have:=p2.length_eq;simp at this;omega
   cases hX:X.length with
   | zero=>simp
   | succ m=>
    rw[List.take_succ_cons,List.map_cons,List.sum_cons]
    have hm:m < Z.length:=by omega
    rw[List.take_succ_eq_append_getElem hm,List.map_append,List.sum_append]
    have:=hZ.1 Z[m] (List.getElem_mem hm)
    simp;omega
end
end SP
namespace SP
set_option linter.unusedVariables false
section
variable {α:Type} (key:α→Nat)
inductive Ch (bs:Nat):List (α×Nat)→List (α×Nat)→Prop
 | last (l0 l:List (α×Nat)):l.length≤bs→l.Perm l0→l.Pairwise (Cq key)→Ch bs l0 l
 | more (s0 s r0 r:List (α×Nat)):s.length=bs→s.Perm s0→s.Pairwise (Cq key)→Ch bs r0 r→Ch bs (s0++r0) (s++r)
theorem Ch.perm {bs:Nat} {l0 l:List (α×Nat)} (h:Ch key bs l0 l):l.Perm l0:=by
 induction h with
 | last l0 l h1 h2 h3=>exact h2
 | more s0 s r0 r h1 h2 h3 h4 ih=>exact h2.append ih
theorem Ch.nil (bs:Nat):Ch key bs [] []:=.last [] [] (by simp) (List.Perm.refl _) List.Pairwise.nil
theorem Ch.small {bs:Nat} {l0 l:List (α×Nat)} (h:Ch key bs l0 l) (hl:l.length≤bs):l.Perm l0∧l.Pairwise (Cq key):=by
 cases h with
 | last l0 l h1 h2 h3=>exact⟨h2,h3⟩
 | more s0 s r0 r h1 h2 h3 h4=>
  rw[List.length_append]at hl
  have hr:r=[]:=List.eq_nil_of_length_eq_zero (by omega)
  subst hr
  have hr0:r0=[]:=List.eq_nil_of_length_eq_zero (by have:=h4.perm.length_eq;simpa using this.symm)
  subst hr0
  simp only[List.append_nil]
  exact⟨h2,h3⟩
theorem Ch.split {bs:Nat} {l0 l:List (α×Nat)} (h:Ch key bs l0 l) (hl:bs≤l.length) (hb:0 < bs):∃ s0 s r0 r,l0=s0++r0∧l=s++r∧s.length=bs∧s.Perm s0∧s.Pairwise (Cq key)∧Ch key bs r0 r:=by
 cases h with
 | last l0 l h1 h2 h3=>exact⟨l0,l,[],[],by simp,by simp,by omega,h2,h3,Ch.nil key bs⟩
 | more s0 s r0 r h1 h2 h3 h4=>exact⟨s0,s,r0,r,rfl,rfl,h1,h2,h3,h4⟩
def Ahead (bs:Nat) (s0 s:List (α×Nat)):Prop:=∀ r0 r,Ch key bs r0 r→Ch key bs (s0++r0) (s++r)
theorem Ahead.nil (bs:Nat):Ahead key bs [] []:=fun _ _ h=>h
theorem Ahead.more {bs:Nat} {s0 s c0 c:List (α×Nat)} (h:Ahead key bs s0 s) (hl:c.length=bs) (hp:c.Perm c0) (hs:c.Pairwise (Cq key)):Ahead key bs (s0++c0) (s++c):=fun r0 r hr=>by
 rw[List.append_assoc,List.append_assoc];exact h _ _ (.more c0 c r0 r hl hp hs hr)
def Ja (l:List (α×Nat)):Prop:=l.Pairwise (fun x y=>x.2 < y.2)
theorem Ja.cross {a b a' b':List (α×Nat)} (h:Ja (a++b)) (p:a'.Perm a) (q:b'.Perm b):∀ x∈a',∀ y∈b',x.2 < y.2:=by
 intro x hx y hy
 exact (List.pairwise_append.1 h).2.2 x (p.mem_iff.1 hx) y (q.mem_iff.1 hy)
theorem Ja.left {a b:List (α×Nat)} (h:Ja (a++b)):Ja a:=(List.pairwise_append.1 h).1
theorem Ja.right {a b:List (α×Nat)} (h:Ja (a++b)):Ja b:=(List.pairwise_append.1 h).2.1
theorem aT (l:List α) (k:Nat):Ja (l.zipIdx k):=by
 induction l generalizing k with
 | nil=>exact List.Pairwise.nil
 | cons a l ih=>
  rw[List.zipIdx_cons]
  refine List.Pairwise.cons ?_ (ih (k+1))
  intro x hx
  have:=(List.le_snd_of_mem_zipIdx hx)
  show k < x.2
  omega
theorem yB (l:List (α×Nat)) (h:Ja l) (a b:α×Nat) (ha:a∈l) (hb:b∈l) (h1:Cq key a b) (h2:Cq key b a):a=b:=by
 have e:a.2=b.2:=by unfold Cq at *;omega
 obtain⟨i,hi,rfl⟩:=List.mem_iff_getElem.1 ha
 obtain⟨j,hj,rfl⟩:=List.mem_iff_getElem.1 hb
 rcases Nat.lt_trichotomy i j with h | h | h
 ·have:=List.pairwise_iff_getElem.1 ‹Ja l› i j hi hj h;omega
 ·subst h;rfl
 ·have:=List.pairwise_iff_getElem.1 ‹Ja l› j i hj hi h;omega
theorem RA (l:List α) (d:List (α×Nat)) (hp:d.Perm l.zipIdx) (hs:d.Pairwise (Cq key)):d.map (·.1)=CS key l:=by
 unfold CS
 congr 1
 refine List.Perm.eq_of_pairwise (fun a b ha hb h1 h2=>?_) hs (Ik key l) (hp.trans (Fz key l).symm)
 exact yB key _ (aT l 0) a b (hp.mem_iff.1 ha) ((Fz key l).mem_iff.1 hb) h1 h2
theorem yC {β:Type} (f:β→α) (l:List β):(CS (fun b=>key (f b)) l).map f=CS key (l.map f):=by
 have h1:((WU (fun b=>key (f b)) l).map fun p=>(f p.1,p.2)).Perm (l.map f).zipIdx:=by
  have:=(Fz (fun b=>key (f b)) l).map fun p=>(f p.1,p.2)
  refine this.trans ?_
  rw[List.zipIdx_map]
  exact List.Perm.of_eq (List.map_congr_left (fun x _=>rfl))
 have h2:((WU (fun b=>key (f b)) l).map fun p=>(f p.1,p.2)).Pairwise (Cq key):=by
  rw[List.pairwise_map];exact Ik (fun b=>key (f b)) l
 have:=RA key (l.map f) _ h1 h2
 rw[←this]
 unfold CS
 rw[List.map_map,List.map_map]
 rfl
theorem UI (x:α×Nat) (l:List (α×Nat)) (t:Nat) (ht:t≤l.length) (h:l.Pairwise (Cq key)) (h1:t=0∨∃ h:t - 1 < l.length,Cq key l[t - 1] x) (h2:t=l.length∨∃ h:t < l.length,Cq key x l[t]) :
  (l.take t++x :: l.drop t).Pairwise (Cq key):=AEi (fun a b c=>OV key a b c) x l t ht h h1 h2
theorem aP (x:α×Nat) (l:List (α×Nat)) (t:Nat):(l.take t++x :: l.drop t).Perm (x :: l):=by
 refine (List.perm_middle).trans ?_
 rw[List.take_append_drop]
end
end SP
end Go.Proofs.YtabdianhoabhhaaGreatDoor
