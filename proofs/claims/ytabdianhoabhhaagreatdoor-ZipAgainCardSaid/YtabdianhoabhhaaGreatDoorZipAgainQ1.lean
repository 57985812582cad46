/- texts joined: ZipAgainWalk Door DiskMem. -/
import Derived.Test.YtabdianhoabhhaaGreatDoorZbQ11
import Derived.Test.YtabdianhoabhhaaGreatDoorZbQ1
import Derived.Test.YtabdianhoabhhaaGreatDoorRows
import Derived.HandedShaped
import Derived.ProofKit
import Derived.Shelf.Vars
import Derived.Lay
import Derived.LaidOnce
import Derived.SevenTiedAt
namespace Go.Proofs.YtabdianhoabhhaaGreatDoor.ZipAgain
open Go Go.RowKit Go.Proofs.YtabdianhoabhhaaGreatDoor Go.Proofs.YtabdianhoabhhaaGreatDoor.Bits Go.Proofs.YtabdianhoabhhaaGreatDoor.Merge Go.Proofs.YtabdianhoabhhaaGreatDoor.Name Go.Proofs.YtabdianhoabhhaaGreatDoor.Zip
set_option linter.unusedVariables false
set_option linter.unusedSimpArgs false
set_option linter.constructorNameAsVariable false
set_option maxRecDepth 100000 in
set_option maxHeartbeats 4000000 in
theorem walk (W:World) (hm:ML W) (v0:Value) (b:List UInt8) (h0:IsBytes W v0 b) :
  Calls Tryz.prog 4 #[v0] W fun e W'=>e=.returned (.bool true)∧Below W.heap.size W W':=by
 obtain⟨A,cA,rfl,h1,h2,hA⟩:=h0
 have HG:=Lib.hid (get_any A b.length cA b W hm rfl h1 h2 hA)
 have HF:Hid (∀ w,Below W.heap.size W w→Calls _ _ _ w _):=Lib.hid (fun w hb=>archived_any w (hm.below hb))
 have Hm:=Lib.hid hm
 clear hm hA h1 h2
 cases hr:readR b with
 | bad z=>
  have hz:(z != 0)=true:=by
   have:=read_nz hr
   simp
   omega
  have Hr:=Lib.hid hr
  clear hr
  go_enter Tryz.func4,Tryz.ntmps4
  go_wp2_with fail
  refine (HG.out).mono ?_
  rintro e w1 ⟨hp,hb1⟩
  rw[Hr.out]at hp
  obtain rfl:=hp
  have Hb1:=Lib.hid hb1
  clear hb1
  go_wp2_with fail
  refine (HF.out _ Hb1.out).mono ?_
  rintro e w2 ⟨rfl,hb2⟩
  have Hb2:=Lib.hid (Hb1.out.trans (hb2.mono Hb1.out.size))
  clear hb2
  go_wp2_with fail
  refine (HF.out _ Hb2.out).mono ?_
  rintro e w3 ⟨rfl,hb3⟩
  have Hb3:=Lib.hid (Hb2.out.trans (hb3.mono Hb2.out.size))
  clear hb3
  go_wp2_with fail
  go_ret
  exact⟨rfl,Hb3.out⟩
 | ok l=>
  have hck:=(read_ok hr).2.1
  have Hr:=Lib.hid hr
  have Hck:=Lib.hid hck
  clear hr hck
  go_enter Tryz.func4,Tryz.ntmps4
  go_wp2_with fail
  refine (HG.out).mono ?_
  rintro e w1 ⟨hp,hb1⟩
  rw[Hr.out]at hp
  obtain⟨v1,rfl,hv1⟩:=hp
  have HV1:=Lib.hid hv1
  have Hb1:=Lib.hid hb1
  clear hb1 hv1 HG
  go_wp2_with fail
  refine (HF.out _ Hb1.out).mono ?_
  rintro e w2 ⟨rfl,hb2⟩
  obtain⟨lx,hlx,hl⟩:=HV1.out.below hb2
  have HL2:=Lib.hid hlx
  have Hl:=Lib.hid hl
  have Hb2:=Lib.hid (Hb1.out.trans (hb2.mono Hb1.out.size))
  clear hb2 hlx hl HV1
  have HP:=Lib.hid (put_any v1 lx w2 (Hm.out.below Hb2.out) HL2.out)
  rw[Hl.out]at HP
  go_wp2_with fail
  refine (HP.out).mono ?_
  rintro e w3 ⟨hp,hb3⟩
  have HV3:Hid (Fs w3 v1 l):=Lib.hid ⟨lx,HL2.out.below hb3,Hl.out⟩
  have Hb3:=Lib.hid (Hb2.out.trans (hb3.mono Hb2.out.size))
  clear hb3 HP
  cases hw:writeR bestX l with
  | bad z=>
   obtain⟨hz,_⟩:=write_bad hw Hck.out
   subst hz
   rw[hw]at hp
   obtain rfl:=hp
   clear hw
   go_wp2_with fail
   refine (check_fs v1 l w3 (Hm.out.below Hb3.out) HV3.out).mono ?_
   rintro e w4 ⟨rfl,hb4⟩
   have Hb4:=Lib.hid (Hb3.out.trans (hb4.mono Hb3.out.size))
   clear hb4
   rw[Hck.out]
   go_wp2_with fail
   go_ret
   exact⟨rfl,Hb4.out⟩
  | ok c=>
   have HR:=Lib.hid (read_write packs_best hw)
   rw[hw]at hp
   obtain⟨vc,rfl,ho⟩:=hp
   obtain⟨Ac,cc,rfl,c1,c2,hAc,_⟩:=ho.slice
   have HC:=Lib.hid (get_any Ac c.length cc c w3 (Hm.out.below Hb3.out) rfl c1 c2 hAc)
   clear hw ho hAc
   go_wp2_with fail
   refine (HC.out).mono ?_
   rintro e w4 ⟨hp,hb4⟩
   rw[HR.out]at hp
   obtain⟨v4,rfl,hv4⟩:=hp
   have HV4:=Lib.hid hv4
   have HV4':=Lib.hid (HV3.out.below hb4)
   have Hb4:=Lib.hid (Hb3.out.trans (hb4.mono Hb3.out.size))
   clear hb4 hv4 HC
   go_wp2_with fail
   refine (same_self _ _ l w4 HV4'.out HV4.out).mono ?_
   rintro e w5 ⟨rfl,hb5⟩
   have Hb5:=Lib.hid (Hb4.out.trans (hb5.mono Hb4.out.size))
   clear hb5
   go_wp2_with fail
   go_ret
   exact⟨rfl,Hb5.out⟩
end Go.Proofs.YtabdianhoabhhaaGreatDoor.ZipAgain
namespace Go.Proofs.YtabdianhoabhhaaGreatDoor
open Go Go.ChangeShapes Go.WideShapes Go.ChangeAt Go.RowKit
theorem returnsInHanded_of_laid {H:Type} {enc:TypeId×Value→H} {a:Assume} {C:Checked} {os:Os} {f:FuncId} {fn:Func} {s:ChangeSpec} {conds:List PathCond} {apart fresh handsOn again:Bool} {X:World→Array Value→Prop}
  (own:ownKnob C.prog.godebug=none) (started:os.Started) (noInit:C.prog.inits.idxOf? f=none) (hfn:C.prog.funcs[f]?=some fn)
  (witness:∃ (w:World) (tape:Tape) (i:Input),w.os=os∧(w.forCall tape i).Shaped C.prog∧i.vars=[]∧Input.okWide C.prog (w.forCall tape i) .any w.heap.size f i∧
   ((s.pre enc C.prog fn conds apart (w.forCall tape i).memory i.args∧X (w.forCall tape i).memory i.args)∧sizedMet enc C.prog fn (OpenSpec.ofChange s) apart (w.forCall tape i).memory i.args)∧a.holds C.prog (lone (Frame.enter C.prog f i.args .normal) [] (w.forCall tape i)))
  (contract:∀ (W:World) (base:Nat) (args:Array Value) (ds gs:List (DataW H)) (before:List MemPlace),
   (∀ (j:Nat) t v,fn.params[j]?=some t→args[j]?=some v→Value.okWide C.prog W .any base t v)→
   DataW.Whole enc C.prog fn.params.toList s.vars apart W args.toList ds gs before→
   (DataW.weightsEach C.prog (fn.params.toList++s.plain.varTypes C.prog) (ds++gs)).all (·≤reachBytes)=true→
   W.ShapedOpen C.prog→
   Calls C.prog f args W fun e W'=>∃ v,e=.returned v∧s.post enc C.prog fn apart fresh handsOn again W args v W') :
  ReturnsInHanded a C os f .any (fun w args=>(s.pre enc C.prog fn conds apart w args∧X w args)∧sizedMet enc C.prog fn (OpenSpec.ofChange s) apart w args) (s.post enc C.prog fn apart fresh handsOn again):=by
 refine returnsInHanded_of_calls own started noInit witness ?_
 intro w tape i _ hsh _ hok hpre hholds
 obtain⟨_,_,_,fn',hfn',_,_,_,_,hval⟩:=hok
 have e:fn'=fn:=Option.some.inj (hfn'.symm.trans hfn)
 subst e
 obtain⟨⟨⟨ds,gs,before,hw,hc⟩,hx⟩,hz⟩:=hpre
 have hw':=DataW.Whole.of_heap (w':=w.forCall tape i) (by rfl) hw
 refine (contract (w.forCall tape i) w.heap.size i.args ds gs before hval hw' (hz.weights hw) hsh).mono fun e W' ⟨v,he,hp⟩=>?_
 subst he
 exact ChangeSpec.post_blind hp
theorem ml_of_shaped {W:World} (h:W.ShapedOpen Tryz.prog):Name.ML W:=
 cell_of_shapedOpen_int (g:=0) (t:=3) (zero:=#[.int .i64 0]) h (of_decide_eq_true (by kernel_rfl)) (by kernel_rfl) rfl (by kernel_rfl) (by kernel_rfl) Tryz.underlying3
end Go.Proofs.YtabdianhoabhhaaGreatDoor
namespace Go.Proofs.YtabdianhoabhhaaGreatDoor.Worlds
open Go Go.ChangeShapes Go.WideShapes Go.ChangeAt Go.RowKit Go.Proofs.YtabdianhoabhhaaGreatDoor Go.Proofs.YtabdianhoabhhaaGreatDoor.Name Go.Proofs.YtabdianhoabhhaaGreatDoor.Merge
set_option linter.unusedVariables false
abbrev Nx:=Sl3×List Fx
def NodeAt (w:World) (x:Nx):Prop:=IsFiles w (slv x.1) x.2
theorem NodeAt.below {w w':World} {x:Nx} (h:NodeAt w x) (hb:Below w.heap.size w w'):NodeAt w' x:=IsFiles.below h hb
instance:Inhabited Fx:=⟨(⟨[],[],0,0,false⟩,none,0,0)⟩
section
variable {H:Type} {enc:TypeId×Value→H} {w:World}
set_option maxRecDepth 100000 in
theorem open_files {base b0:Nat} {spare:Nat→Bool} {held:Bool} {r:Reach} {v:Value} {d:DataW H} {ps:List MemPlace} (hv:Value.okWide Tryz.prog w r b0 22 v) (h:DataW.Trod enc Tryz.prog w base spare held 22 v d ps) :
  ∃ l:List Fx,IsFiles w v l∧dlen d=l.length:=
 open_L (size:=5) Tryz.underlying22 (by kernel_rfl) (by omega) fC_len (fun enc=>rd_file) hv h
end
end Go.Proofs.YtabdianhoabhhaaGreatDoor.Worlds
