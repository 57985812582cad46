/- texts joined: ZipBackWalk Door DiskMem. -/
import Derived.Test.YtabdianhoabhhaaGreatDoorZbQ11
import Derived.Test.YtabdianhoabhhaaGreatDoorZbQ1
import Derived.Test.YtabdianhoabhhaaGreatDoorRows
import Derived.HandedShaped
import Derived.ProofKit
import Derived.Shelf.Vars
import Derived.Lay
import Derived.LaidOnce
import Derived.SevenTiedAt
namespace Go.Proofs.YtabdianhoabhhaaGreatDoor.ZipBack
open Go Go.RowKit Go.Proofs.YtabdianhoabhhaaGreatDoor Go.Proofs.YtabdianhoabhhaaGreatDoor.Bits Go.Proofs.YtabdianhoabhhaaGreatDoor.Merge Go.Proofs.YtabdianhoabhhaaGreatDoor.Name Go.Proofs.YtabdianhoabhhaaGreatDoor.Zip
set_option linter.unusedVariables false
set_option linter.unusedSimpArgs false
set_option linter.constructorNameAsVariable false
theorem write_nz {best:List UInt8→List UInt8} {l:List Fl} {z:Int} (h:writeR best l=.bad z):z≠0:=by
 unfold writeR at h
 split at h
 ·rename_i hc
  injection h with h
  subst h;exact hc
 ·split at h
  ·injection h with h
   subst h;decide
  ·cases h
theorem u8_of {m:Int} (h:(Lit.int .u8 m).wf=true):∃ x:UInt8,m=n8 x:=by
 have:0≤m∧m≤255:=by simpa [Lit.wf,IntKind.min,IntKind.max,IntKind.signed,IntKind.bits] using h
 refine⟨UInt8.ofNat m.toNat,?_⟩
 unfold n8
 rw[UInt8.toNat_ofNat']
 omega
set_option maxRecDepth 100000 in
set_option maxHeartbeats 4000000 in
theorem walk (W:World) (hm:ML W) (v0:Value) (l:List Fx) (h0:IsFiles W v0 l) (m:Int) (wm:(Lit.int .u8 m).wf=true) :
  Calls Tryz.prog 3 #[v0,.int .u8 m] W fun e W'=>e=.returned (.bool true)∧Below W.heap.size W W':=by
 obtain⟨x,rfl⟩:=u8_of wm
 have HP:=Lib.hid (put_any v0 l W hm h0)
 have HF:Hid (∀ w,Below W.heap.size W w→Calls _ _ _ w _):=Lib.hid (fun w hb=>archived_any w (hm.below hb))
 have Hm:=Lib.hid hm
 have H0:=Lib.hid h0.fs
 clear hm h0 wm
 generalize l.map Prod.fst=fl at *
 cases hw:writeR bestX fl with
 | bad z=>
  have hz:(z != 0)=true:=by simpa using write_nz hw
  have Hw:=Lib.hid hw
  clear hw
  go_enter Tryz.func3,Tryz.ntmps3
  go_wp2_with fail
  refine (HP.out).mono ?_
  rintro e w1 ⟨hp,hb1⟩
  rw[Hw.out]at hp
  obtain rfl:=hp
  have Hb1:=Lib.hid hb1
  clear hb1
  go_wp2_with fail
  refine (HF.out _ Hb1.out).mono ?_
  rintro e w2 ⟨rfl,hb2⟩
  have Hb2:=Lib.hid (Hb1.out.trans (hb2.mono Hb1.out.size))
  clear hb2
  go_wp2_with fail
  refine (HF.out _ Hb2.out).mono ?_
  rintro e w3 ⟨rfl,hb3⟩
  have Hb3:=Lib.hid (Hb2.out.trans (hb3.mono Hb2.out.size))
  clear hb3
  go_wp2_with fail
  go_ret
  exact⟨rfl,Hb3.out⟩
 | ok b=>
  have HR1:=Lib.hid (read_write packs_best hw)
  have HR2:=Lib.hid (read_less packs_best hw)
  have HR3:=Lib.hid (read_more packs_best hw x)
  have hbl:=(write_inv hw).2.2
  have hb22:22≤b.length:=by rw[(write_inv hw).2.1,laid_len];omega
  have Hw:=Lib.hid hw
  clear hw
  obtain⟨n,hn⟩:∃ n,n=b.length:=⟨_,rfl⟩
  rw[←hn]at hbl hb22 HR2 HR3
  have Hn:=Lib.hid hn.symm
  clear hn
  go_enter Tryz.func3,Tryz.ntmps3
  go_wp2_with fail
  refine (HP.out).mono ?_
  rintro e w1 ⟨hp,hb1⟩
  rw[Hw.out]at hp
  obtain⟨vb,rfl,ho⟩:=hp
  obtain⟨A,c,rfl,hc1,hc2,hA,_⟩:=ho.slice
  rw[Hn.out]at hc1⊢
  have HA:=Lib.hid hA
  have Hb1:=Lib.hid hb1
  have hbl0:0 < b.length:=by rw[Hn.out];omega
  obtain⟨a,o,rfl,_⟩:=hA.get (k:=0) hbl0
  clear hb1 hA ho
  go_wp2_with fail
  refine (HF.out _ Hb1.out).mono ?_
  rintro e w2 ⟨rfl,hb2⟩
  have HA2:=Lib.hid (ByAt.below HA.out hb2)
  have Hb2:=Lib.hid (Hb1.out.trans (hb2.mono Hb1.out.size))
  clear hb2 HA
  go_wp2_with fail
  refine (get_any _ n c b w2 (Hm.out.below Hb2.out) Hn.out hc1 hc2 HA2.out).mono ?_
  rintro e w3 ⟨hr,hb3⟩
  rw[HR1.out]at hr
  obtain⟨v3,rfl,hv3⟩:=hr
  have HV3:=Lib.hid hv3
  have HA3:=Lib.hid (ByAt.below HA2.out hb3)
  have Hb3:=Lib.hid (Hb2.out.trans (hb3.mono Hb2.out.size))
  clear hv3 hb3 HA2
  have h22:¬ (n:Int) < 22:=by omega
  go_wp2_with fail
  refine (same_self _ _ fl w3 (H0.out.below Hb3.out) HV3.out).mono ?_
  rintro e w4 ⟨rfl,hb4⟩
  have HA4:=Lib.hid (ByAt.below HA3.out hb4)
  have Hb4:=Lib.hid (Hb3.out.trans (hb4.mono Hb3.out.size))
  clear hb4 HA3 HV3
  have hn1:IntKind.i64.wrap ((n:Int) - 1)=((n - 1:Nat):Int):=by
   rw[show (n:Int) - 1=((n - 1:Nat):Int) by omega];exact IntWalk.i64_in _ (by omega)
  have hs1:((n - 1:Nat):Int)≤(c:Int):=by omega
  have HG:=Lib.hid (get_any (some ⟨a,o,none⟩) (n - 1) c (b.take (n - 1)) w4 (Hm.out.below Hb4.out) (by rw[List.length_take,Hn.out];omega) (by omega) hc2 (HA4.out.take _))
  obtain⟨n1,hn1e⟩:∃ n1,n1=n - 1:=⟨_,rfl⟩
  rw[←hn1e]at hn1 hs1 HG HR2
  have Hn1e:=Lib.hid hn1e
  clear hn1e
  go_wp2_with fail
  refine (HG.out).mono ?_
  rintro e w5 ⟨hr,hb5⟩
  rw[HR2.out]at hr
  obtain rfl:=hr
  have HA5:=Lib.hid (ByAt.below HA4.out hb5)
  have Hb5:=Lib.hid (Hb4.out.trans (hb5.mono Hb4.out.size))
  clear hb5 HA4 HG
  go_wp2_with fail
  refine (CloneB.clone_any (some ⟨a,o,none⟩) n c (b.map u8v) w5 (by rw[List.length_map,Hn.out,Nat.mul_one]) HA5.out (fun h=>by cases h) (u8s_one b) (by unfold maxLen;omega) (by omega)).mono ?_
  rintro e w6 ⟨v6,rfl,ho6,hb6⟩
  have HO6:=Lib.hid ho6
  have Hb6:=Lib.hid (Hb5.out.trans (hb6.mono Hb5.out.size))
  obtain⟨A6,c6,rfl,h61,h62,_,_⟩:=own_slat ho6
  have hs65:w5.heap.size≤w6.heap.size:=hb6.size
  have hba:Below w6.heap.size w6 (w6.alloc (.cells #[.int .u8 (n8 x)] 5)):=(Below.refl _ _).alloc (Nat.le_refl _) _
  have HZ:Hid (SlAt (w6.alloc (.cells #[.int .u8 (n8 x)] 5)) (some ⟨w6.heap.size,0,none⟩) [u8v x]):=Lib.hid (SlAt.of_heap (heap_alloc_new _ _) rfl)
  have HO7:=Lib.hid (own_keep HO6.out hba)
  have Hb7:=Lib.hid (Hb6.out.trans (hba.mono Hb6.out.size))
  have hs7:w5.heap.size≤(w6.alloc (.cells #[.int .u8 (n8 x)] 5)).heap.size:=Nat.le_trans hs65 hba.size
  clear ho6 hb6 hba HO6 Hb6 HA5
  go_wp2_with (at_builtin;refine wpList_app _ rfl (.tmp 53) (.tmp 55) _ rfl w5.heap.size 5 _ 1 1 ty8z _ n (b.map u8v) rfl HO7.out (some ⟨w6.heap.size,0,none⟩) 1 1 [u8v x] rfl rfl HZ.out (by simp[u8v,Value.oneCell']) (by simp) (by unfold maxLen;omega) (by omega) hs7 ?_;intro v8 w8 hown8 hg8 _;have Hk8:=Lib.hid ((Keeps.refl w5.heap.size [5] _).grown HO7.out hg8 (by simp) hs7);have HO8:=Lib.hid hown8;obtain⟨A8,c8,rfl,h81,h82,h83,_⟩:=own_slat HO8.out;clear hown8 hg8)
  have Hb8:=Lib.hid (Hb7.out.trans (Hk8.out.below.mono Hb5.out.size))
  have HA8:Hid (ByAt w8 A8 (b++[x])):=Lib.hid (by
   show SlAt w8 A8 ((b++[x]).map u8v)
   rw[List.map_append];exact h83)
  have HG:=Lib.hid (get_any A8 (n+1) c8 (b++[x]) w8 (Hm.out.below Hb8.out) (by rw[List.length_append,Hn.out];rfl) h81 h82 HA8.out)
  clear HA8 h83 HO8 HO7 Hk8 Hb7 HZ
  refine (HG.out).mono ?_
  rintro e w9 ⟨hr,hb9⟩
  have Hb9:=Lib.hid (Hb8.out.trans (hb9.mono Hb8.out.size))
  rw[HR3.out]at hr
  by_cases h12:12000 < n+1
  ·rw[if_pos h12]at hr
   obtain rfl:=hr
   have hn12:((n:Int) == 12000)=true:=by rw[beq_iff_eq];omega
   clear hb9 HG
   go_wp2_with fail
   go_ret
   exact⟨rfl,Hb9.out⟩
  ·rw[if_neg h12]at hr
   obtain rfl:=hr
   clear hb9 HG
   go_wp2_with fail
   go_ret
   exact⟨rfl,Hb9.out⟩
end Go.Proofs.YtabdianhoabhhaaGreatDoor.ZipBack
namespace Go.Proofs.YtabdianhoabhhaaGreatDoor
open Go Go.ChangeShapes Go.WideShapes Go.ChangeAt Go.RowKit
theorem returnsInHanded_of_laid {H:Type} {enc:TypeId×Value→H} {a:Assume} {C:Checked} {os:Os} {f:FuncId} {fn:Func} {s:ChangeSpec} {conds:List PathCond} {apart fresh handsOn again:Bool} {X:World→Array Value→Prop}
  (own:ownKnob C.prog.godebug=none) (started:os.Started) (noInit:C.prog.inits.idxOf? f=none) (hfn:C.prog.funcs[f]?=some fn)
  (witness:∃ (w:World) (tape:Tape) (i:Input),w.os=os∧(w.forCall tape i).Shaped C.prog∧i.vars=[]∧Input.okWide C.prog (w.forCall tape i) .any w.heap.size f i∧
   ((s.pre enc C.prog fn conds apart (w.forCall tape i).memory i.args∧X (w.forCall tape i).memory i.args)∧sizedMet enc C.prog fn (OpenSpec.ofChange s) apart (w.forCall tape i).memory i.args)∧a.holds C.prog (lone (Frame.enter C.prog f i.args .normal) [] (w.forCall tape i)))
  (contract:∀ (W:World) (base:Nat) (args:Array Value) (ds gs:List (DataW H)) (before:List MemPlace),
   (∀ (j:Nat) t v,fn.params[j]?=some t→args[j]?=some v→Value.okWide C.prog W .any base t v)→
   DataW.Whole enc C.prog fn.params.toList s.vars apart W args.toList ds gs before→
   (DataW.weightsEach C.prog (fn.params.toList++s.plain.varTypes C.prog) (ds++gs)).all (·≤reachBytes)=true→
   W.ShapedOpen C.prog→
   Calls C.prog f args W fun e W'=>∃ v,e=.returned v∧s.post enc C.prog fn apart fresh handsOn again W args v W') :
  ReturnsInHanded a C os f .any (fun w args=>(s.pre enc C.prog fn conds apart w args∧X w args)∧sizedMet enc C.prog fn (OpenSpec.ofChange s) apart w args) (s.post enc C.prog fn apart fresh handsOn again):=by
 refine returnsInHanded_of_calls own started noInit witness ?_
 intro w tape i _ hsh _ hok hpre hholds
 obtain⟨_,_,_,fn',hfn',_,_,_,_,hval⟩:=hok
 have e:fn'=fn:=Option.some.inj (hfn'.symm.trans hfn)
 subst e
 obtain⟨⟨⟨ds,gs,before,hw,hc⟩,hx⟩,hz⟩:=hpre
 have hw':=DataW.Whole.of_heap (w':=w.forCall tape i) (by rfl) hw
 refine (contract (w.forCall tape i) w.heap.size i.args ds gs before hval hw' (hz.weights hw) hsh).mono fun e W' ⟨v,he,hp⟩=>?_
 subst he
 exact ChangeSpec.post_blind hp
theorem ml_of_shaped {W:World} (h:W.ShapedOpen Tryz.prog):Name.ML W:=
 cell_of_shapedOpen_int (g:=0) (t:=3) (zero:=#[.int .i64 0]) h (of_decide_eq_true (by kernel_rfl)) (by kernel_rfl) rfl (by kernel_rfl) (by kernel_rfl) Tryz.underlying3
end Go.Proofs.YtabdianhoabhhaaGreatDoor
namespace Go.Proofs.YtabdianhoabhhaaGreatDoor.Worlds
open Go Go.ChangeShapes Go.WideShapes Go.ChangeAt Go.RowKit Go.Proofs.YtabdianhoabhhaaGreatDoor Go.Proofs.YtabdianhoabhhaaGreatDoor.Name Go.Proofs.YtabdianhoabhhaaGreatDoor.Merge
set_option linter.unusedVariables false
abbrev Nx:=Sl3×List Fx
def NodeAt (w:World) (x:Nx):Prop:=IsFiles w (slv x.1) x.2
theorem NodeAt.below {w w':World} {x:Nx} (h:NodeAt w x) (hb:Below w.heap.size w w'):NodeAt w' x:=IsFiles.below h hb
instance:Inhabited Fx:=⟨(⟨[],[],0,0,false⟩,none,0,0)⟩
section
variable {H:Type} {enc:TypeId×Value→H} {w:World}
set_option maxRecDepth 100000 in
theorem open_files {base b0:Nat} {spare:Nat→Bool} {held:Bool} {r:Reach} {v:Value} {d:DataW H} {ps:List MemPlace} (hv:Value.okWide Tryz.prog w r b0 22 v) (h:DataW.Trod enc Tryz.prog w base spare held 22 v d ps) :
  ∃ l:List Fx,IsFiles w v l∧dlen d=l.length:=
 open_L (size:=5) Tryz.underlying22 (by kernel_rfl) (by omega) fC_len (fun enc=>rd_file) hv h
end
end Go.Proofs.YtabdianhoabhhaaGreatDoor.Worlds
