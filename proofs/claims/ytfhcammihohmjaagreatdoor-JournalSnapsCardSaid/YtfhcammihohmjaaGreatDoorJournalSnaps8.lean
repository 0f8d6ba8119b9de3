/- The statement of the law JournalSnaps, as a tied card: for every input the law returns true, and its arguments read as they did. The listed tables hold what the program's text lays. No other conditions. -/
import Derived.Test.YtfhcammihohmjaaGreatDoorRows
import Derived.Test.YtfhcammihohmjaaGreatDoorTie
import Derived.Test.YtfhcammihohmjaaGreatDoorCards
import Derived.WalkKit
import Derived.ProofKit
import Derived.OpenShut
import Derived.ShutString
import Derived.ChangeOld
import Derived.Below
import Derived.LaidMore
import Derived.Stop.Joined
import Derived.SevenTiedAt
import Derived.Lay
import Derived.MakeChecks
import Derived.Test.YtfhcammihohmjaaGreatDoorFw1
import Derived.Test.YtfhcammihohmjaaGreatDoorFw2
import Derived.Test.YtfhcammihohmjaaGreatDoorFw3
import Derived.Test.YtfhcammihohmjaaGreatDoorJournalSnaps1
import Derived.Test.YtfhcammihohmjaaGreatDoorJournalSnaps2
import Derived.Test.YtfhcammihohmjaaGreatDoorJournalSnaps3
import Derived.Test.YtfhcammihohmjaaGreatDoorJournalSnaps4
import Derived.Test.YtfhcammihohmjaaGreatDoorJournalSnaps5
import Derived.Test.YtfhcammihohmjaaGreatDoorJournalSnaps6
import Derived.Test.YtfhcammihohmjaaGreatDoorJournalSnaps7
set_option linter.unusedVariables false
set_option linter.unusedSimpArgs false
set_option linter.unusedSectionVars false
noncomputable section
/- The statement of the law JournalSnaps, as a tied card: for every input the law returns true, and its arguments read as they did. The listed tables hold what the program's text lays. No other conditions. -/
namespace Go.Proofs.YtfhcammihohmjaaGreatDoor.journalSnapsDone
open Go.ChangeShapes Go.WideShapes Go.ChangeAt Go.RowKit
open Pal

theorem own:ownKnob Tryz.prog.godebug=none:=by kernel_rfl
theorem oQ:laidOutB Tryz.prog=true:=by kernel_rfl
set_option maxRecDepth 100000 in
theorem Be (os:Os) (args:Array Value):laidMetH Tryz.prog Rows.journalSnapsRow.laid ((World.laidAll Tryz.prog os Rows.journalSnapsRow.laid).forCall (fun _ _=>0) ⟨#[],args,[]⟩).memory:=by
 rw [MakeChecks.laidMetH_plain _ _ _ (by kernel_rfl)];exact laidMet_laidAll _ (by kernel_rfl) (by kernel_rfl)
theorem DZ {W:World} (hL:laidMetH Tryz.prog Rows.journalSnapsRow.laid W):MonoC.tab (AT W):=by
 rw [MakeChecks.laidMetH_plain _ _ _ (by kernel_rfl)] at hL
 have h3 := Lib.laidMet.reads hL (n := "unicode/utf8.first") (d := Go.Pinned.utf8First) (by simp [Rows.journalSnapsRow, Rows.laid_unicode_utf8_first])
 have h4 := Lib.laidMet.reads hL (n := "unicode/utf8.acceptRanges") (d := Rows.laid_unicode_utf8_acceptRanges) (by simp [Rows.journalSnapsRow])
 rw [Pinned.utf8First_eq] at h3
 exact xI h3 (show Lib.VarReads Tryz.prog W "unicode/utf8.acceptRanges" Lib.acceptData from (show Rows.laid_unicode_utf8_acceptRanges = Lib.acceptData by kernel_rfl) ▸ h4)
theorem H6:gf Tryz.prog 40 31 aI=true:=by kernel_rfl
theorem H4:gf Tryz.prog 40 48 b7=true:=by kernel_rfl
theorem H7:gf Tryz.prog 40 48 b7=true:=by kernel_rfl
theorem Hd:gf Tryz.prog 40 3 (.int .i64)=true:=by kernel_rfl

theorem vq (W:World) (hTab:MonoC.tab (AT W)) (v0:Value) (x0:Ty.D aI) (h0:aY (Do W) W (.dat aI x0) v0 []) (f0:gL aI x0) (v1:Value) (x1:Ty.D b7) (h1:aY (Do W) W (.dat b7 x1) v1 []) (f1:gL b7 x1) (v2:Value) (x2:Ty.D b7) (h2:aY (Do W) W (.dat b7 x2) v2 []) (f2:gL b7 x2) (v3:Value) (x3:Ty.D (.int .i64)) (h3:aY (Do W) W (.dat (.int .i64) x3) v3 []) (f3:gL (.int .i64) x3) :
  Calls Tryz.prog 4 #[v0,v1,v2,v3] W fun e w'=>e = .returned (.bool true)∧Below W.heap.size W w':=by
 obtain ⟨k,hk⟩:=mZ x0 f0 x1 f1 x2 f2 x3 f3
 exact xP (args:=[.dat aI x0,.dat b7 x1,.dat b7 x2,.dat (.int .i64) x3]) (argv:=[v0,v1,v2,v3]) (code:=(bo Tryz.f4)) (σ:=z0j.sg) (F:=fun x=>z0j.f k x.1 x.2.1 x.2.2.1 x.2.2.2) (x:=(x0,x1,x2,x3)) (r:=true) (z0j.ok k) Tryz.func4 (by kernel_rfl) (by kernel_rfl) (by kernel_rfl) (by kernel_rfl) hk rfl rfl
  ⟨v0,_,[],[],rfl,rfl,h0,⟨v1,_,[],[],rfl,rfl,h1,⟨v2,_,[],[],rfl,rfl,h2,⟨v3,_,[],[],rfl,rfl,h3,⟨rfl,rfl⟩⟩⟩⟩⟩ hTab

set_option maxRecDepth 100000 in
theorem Fw (os:Os) (started:os.Started) (H:Type) (enc:TypeId × Value→H) :
  ReturnsInHanded {} Tryz.checked os 4 .any (fun w args=>(Rows.journalSnapsSpec.pre enc Tryz.prog Tryz.f4 [] false w args∧laidMetH Tryz.prog Rows.journalSnapsRow.laid w)∧sizedMet enc Tryz.prog Tryz.f4 (OpenSpec.ofChange Rows.journalSnapsSpec) false w args)
   (Rows.journalSnapsSpec.post enc Tryz.prog Tryz.f4 false true false false):=by
 refine returnsInHanded_of_change_and (C:=Tryz.checked) (X:=fun w _=>laidMetH Tryz.prog Rows.journalSnapsRow.laid w) (fun _ _ _ hh h=>h.of_heap hh) own started (by kernel_rfl) Tryz.func4
  (ChangeSpec.witness_shaped (enc:=enc) (C:=Tryz.checked) (os:=os) (X:=fun w _=>laidMetH Tryz.prog Rows.journalSnapsRow.laid w) false (World.laidAll Tryz.prog os Rows.journalSnapsRow.laid) #[.agg #[.slice none 0 0,.slice none 0 0,.int .i64 0,.int .i64 0,.int .i64 0,.int .i64 0,.int .i64 0,.int .i64 0,.int .i64 0,.int .i64 0,.int .i64 0,.int .i64 0,.int .i64 0,.int .i64 0,.int .i64 0,.int .i64 0,.int .i64 0,.int .i64 0,.slice none 0 0,.int .i64 0,.int .i64 0,.int .i64 0,.int .i64 0,.int .i64 0,.int .i64 0,.int .i64 0,.int .i64 0,.int .i64 0,.int .i64 0,.int .i64 0,.int .i64 0,.int .i64 0,.int .i64 0,.int .i64 0,.int .i64 0,.slice none 0 0,.slice none 0 0,.slice none 0 0,.slice none 0 0,.slice none 0 0,.slice none 0 0,.slice none 0 0,.slice none 0 0,.slice none 0 0],.agg #[.int .i64 0,.int .i64 0,.int .i64 0,.int .i64 0,.int .i64 0,.bool false,.slice none 0 0,.int .i64 0,.int .i64 0,.int .i64 0,.int .i64 0,.int .i64 0,.slice none 0 0,.slice none 0 0,.slice none 0 0,.slice none 0 0,.slice none 0 0,.int .i64 0,.int .i64 0,.int .i64 0,.int .i64 0,.int .i64 0,.int .i64 0,.int .i64 0,.int .i64 0,.int .i64 0,.int .i64 0,.int .i64 0,.int .i64 0,.int .i64 0,.int .i64 0,.int .i64 0,.int .i64 0,.slice none 0 0,.int .i64 0,.int .i64 0,.int .i64 0,.int .i64 0,.int .i64 0,.int .i64 0,.int .i64 0,.int .i64 0,.int .i64 0,.int .i64 0,.int .i64 0,.int .i64 0,.int .i64 0,.int .i64 0,.int .i64 0,.int .i64 0,.slice none 0 0,.slice none 0 0,.slice none 0 0,.slice none 0 0,.slice none 0 0,.slice none 0 0,.slice none 0 0,.slice none 0 0,.slice none 0 0],.agg #[.int .i64 0,.int .i64 0,.int .i64 0,.int .i64 0,.int .i64 0,.bool false,.slice none 0 0,.int .i64 0,.int .i64 0,.int .i64 0,.int .i64 0,.int .i64 0,.slice none 0 0,.slice none 0 0,.slice none 0 0,.slice none 0 0,.slice none 0 0,.int .i64 0,.int .i64 0,.int .i64 0,.int .i64 0,.int .i64 0,.int .i64 0,.int .i64 0,.int .i64 0,.int .i64 0,.int .i64 0,.int .i64 0,.int .i64 0,.int .i64 0,.int .i64 0,.int .i64 0,.int .i64 0,.slice none 0 0,.int .i64 0,.int .i64 0,.int .i64 0,.int .i64 0,.int .i64 0,.int .i64 0,.int .i64 0,.int .i64 0,.int .i64 0,.int .i64 0,.int .i64 0,.int .i64 0,.int .i64 0,.int .i64 0,.int .i64 0,.int .i64 0,.slice none 0 0,.slice none 0 0,.slice none 0 0,.slice none 0 0,.slice none 0 0,.slice none 0 0,.slice none 0 0,.slice none 0 0,.slice none 0 0],.int .i64 0] 12 (World.laidAll_os _ _ _) (World.shaped_of_ZipB (by kernel_rfl) (by kernel_rfl)) (by kernel_rfl) (by kernel_rfl) (by kernel_rfl) (Be os _)) ?_
 intro W base args ds gs before hval0 hW _ _ hL _
 have hval:∀ (j:Nat) t v,Tryz.f4.params[j]? = some t→args[j]? = some v→Value.okWide Tryz.prog W .any base t v:=hval0
 have hW':=hW
 obtain ⟨p,q,hA0,hV,rfl,hfz,hnd⟩:=hW
 have hA:DataW.TrodAll enc Tryz.prog W 0 (fun _=>true) true Tryz.f4.params.toList args.toList ds p:=hA0
 rw [Tryz.params4] at hA hval
 obtain ⟨v0,vs0,d0,ds0,p0,q0,hargs,rfl,rfl,h0,r0⟩:=trodAll_cons hA
 obtain ⟨v1,vs1,d1,ds1,p1,q1,rfl,rfl,rfl,h1,r1⟩:=trodAll_cons r0
 obtain ⟨v2,vs2,d2,ds2,p2,q2,rfl,rfl,rfl,h2,r2⟩:=trodAll_cons r1
 obtain ⟨v3,vs3,d3,ds3,p3,q3,rfl,rfl,rfl,h3,r3⟩:=trodAll_cons r2
 obtain ⟨rfl,rfl,rfl⟩:=trodAll_nil r3
 obtain rfl:args=#[v0,v1,v2,v3]:=by cases args;simp_all
 obtain ⟨rfl,rfl⟩:=trodVars_none hV
 have k0:=h0
 have lt0:∀ x ∈ p0,x.block<W.heap.size:=by obtain ⟨m,hm⟩:=k0;exact DataW.trod_lt m _ _ _ hm
 obtain ⟨x0,g0,f0⟩:=mI H6 (hval 0 31 v0 rfl rfl) h0
 have k1:=h1
 have lt1:∀ x ∈ p1,x.block<W.heap.size:=by obtain ⟨m,hm⟩:=k1;exact DataW.trod_lt m _ _ _ hm
 obtain ⟨x1,g1,f1⟩:=mI H4 (hval 1 48 v1 rfl rfl) h1
 have k2:=h2
 have lt2:∀ x ∈ p2,x.block<W.heap.size:=by obtain ⟨m,hm⟩:=k2;exact DataW.trod_lt m _ _ _ hm
 obtain ⟨x2,g2,f2⟩:=mI H7 (hval 2 48 v2 rfl rfl) h2
 have k3:=h3
 have lt3:∀ x ∈ p3,x.block<W.heap.size:=by obtain ⟨m,hm⟩:=k3;exact DataW.trod_lt m _ _ _ hm
 obtain ⟨x3,g3,f3⟩:=mI Hd (hval 3 3 v3 rfl rfl) h3
 clear hA0 hval0
 refine (vq W (DZ hL) v0 x0 g0 f0 v1 x1 g1 f1 v2 x2 g2 f2 v3 x3 g3 f3).mono fun e W' ⟨he,bel⟩=>?_
 subst he
 exact ⟨_,rfl,_,_,_,[],_,[],hW',trodAll_mk1 (shut_bool Tryz.underlying4 _),(trodAll_cons_mk (Below.trod oQ (by kernel_rfl) (of_decide_eq_true (by kernel_rfl)) k0 bel lt0) (trodAll_cons_mk (Below.trod oQ (by kernel_rfl) (of_decide_eq_true (by kernel_rfl)) k1 bel lt1) (trodAll_cons_mk (Below.trod oQ (by kernel_rfl) (of_decide_eq_true (by kernel_rfl)) k2 bel lt2) (trodAll_cons_mk (Below.trod oQ (by kernel_rfl) (of_decide_eq_true (by kernel_rfl)) k3 bel lt3) trodAll_mk0)))),rfl,bel.frame _,fun h=>by cases h⟩

theorem lR:Rows.journalSnapsRow.holds Tryz.pinned (OpenSpec.ofChange Rows.journalSnapsSpec) :=
 OpenClaim.holds_of_wide 4 Tryz.f4 rfl rfl rfl rfl rfl rfl rfl ⟨rfl,rfl,rfl,rfl,rfl⟩ rfl rfl rfl rfl rfl (by kernel_rfl) Tryz.func4 closed
  (of_decide_eq_true (by kernel_rfl)) (by unfold Func.isWrapper;first | (rw [if_pos (by decide +kernel)];kernel_rfl) | (rw [if_neg (by decide +kernel)];exact ⟨rfl,rfl⟩))
  (fun os started H enc _=>Fw os started H enc)

theorem proved:Rows.JournalSnapsCardSaid :=
 Claim7.holds_tied_plain_at .later [] [.data, .pinned] true (true, "dacd4b837f92803a22abd739cf04c9ab07c2c82405347fa89f6a75300f2d646a") false
  lR (fun _ h=>by cases h) (by kernel_rfl) (fun _ h=>by cases h) journalSnaps_row_tie rfl ⟨rfl,rfl⟩ (by kernel_rfl) rfl
  (fun f fn hf hfn=>by
   obtain rfl : f = 4 := Option.some.inj ((show Tryz.prog.funcNamed "palinode/palinodelaw25.JournalSnaps" = some 4 by kernel_rfl).symm.trans hf) |>.symm
   obtain rfl:fn=Tryz.f4:=(Option.some.inj (Tryz.func4.symm.trans hfn)).symm
   exact ⟨by kernel_rfl,fun j t ht=>by
    rw [Tryz.params4] at ht
    have hm:t ∈ [31,48,48,3]:=by simpa using Array.mem_of_getElem? ht
    have hall:([31,48,48,3].all fun u=>!Tryz.prog.wantsStandIn u)=true:=by kernel_rfl
    exact (show Tryz.prog.wantsStandIn t=false by simpa using List.all_eq_true.1 hall t hm)⟩)
  (by kernel_rfl)
#print axioms proved
end Go.Proofs.YtfhcammihohmjaaGreatDoor.journalSnapsDone
end
