/- The statement of the law MessageTells, as a tied card: for every input the law returns true, and its arguments read as they did. The listed tables hold what the program's text lays. No other conditions. -/
import Derived.Test.YtggcagclpkhlhaaGreatDoorRows
import Derived.Test.YtggcagclpkhlhaaGreatDoorTie
import Derived.Test.YtggcagclpkhlhaaGreatDoorCards
import Derived.WalkKit
import Derived.ProofKit
import Derived.OpenShut
import Derived.ShutString
import Derived.ChangeOld
import Derived.Below
import Derived.LaidMore
import Derived.Stop.Joined
import Derived.SevenTiedAt
import Derived.Lay
import Derived.MakeChecks
import Derived.Test.YtggcagclpkhlhaaGreatDoorFw1
import Derived.Test.YtggcagclpkhlhaaGreatDoorFw2
import Derived.Test.YtggcagclpkhlhaaGreatDoorFw3
import Derived.Test.YtggcagclpkhlhaaGreatDoorMessageTells1
import Derived.Test.YtggcagclpkhlhaaGreatDoorMessageTells2
import Derived.Test.YtggcagclpkhlhaaGreatDoorMessageTells3
set_option linter.unusedVariables false
set_option linter.unusedSimpArgs false
set_option linter.unusedSectionVars false
noncomputable section
/- The statement of the law MessageTells, as a tied card: for every input the law returns true, and its arguments read as they did. The listed tables hold what the program's text lays. No other conditions. -/
namespace Go.Proofs.YtggcagclpkhlhaaGreatDoor.messageTellsDone
open Go.ChangeShapes Go.WideShapes Go.ChangeAt Go.RowKit
open Pal

theorem own:ownKnob Tryz.prog.godebug=none:=by kernel_rfl
theorem laidOut:laidOutB Tryz.prog=true:=by kernel_rfl
set_option maxRecDepth 100000 in
theorem door_met (os:Os) (args:Array Value):laidMetH Tryz.prog Rows.messageTellsRow.laid ((World.laidAll Tryz.prog os Rows.messageTellsRow.laid).forCall (fun _ _=>0) ⟨#[],args,[]⟩).memory:=by
 rw [MakeChecks.laidMetH_plain _ _ _ (by kernel_rfl)];exact laidMet_laidAll _ (by kernel_rfl) (by kernel_rfl)
theorem tabs_of {W:World} (hL:laidMetH Tryz.prog Rows.messageTellsRow.laid W):MonoC.tab (img W):=by
 rw [MakeChecks.laidMetH_plain _ _ _ (by kernel_rfl)] at hL
 have h3 := Lib.laidMet.reads hL (n := "unicode/utf8.first") (d := Go.Pinned.utf8First) (by simp [Rows.messageTellsRow, Rows.laid_unicode_utf8_first])
 have h4 := Lib.laidMet.reads hL (n := "unicode/utf8.acceptRanges") (d := Rows.laid_unicode_utf8_acceptRanges) (by simp [Rows.messageTellsRow])
 rw [Pinned.utf8First_eq] at h3
 exact tabs_reads h3 (show Lib.VarReads Tryz.prog W "unicode/utf8.acceptRanges" Lib.acceptData from (show Rows.laid_unicode_utf8_acceptRanges = Lib.acceptData by kernel_rfl) ▸ h4)
theorem ty0:tyB Tryz.prog 40 53 tMessage=true:=by kernel_rfl

theorem walk (W:World) (hTab:MonoC.tab (img W)) (v0:Value) (x0:Ty.D tMessage) (h0:TRep (gh0 W) W (.dat tMessage x0) v0 []) (f0:Fits tMessage x0) :
  Calls Tryz.prog 4 #[v0] W fun e w'=>e = .returned (.bool true)∧Below W.heap.size W w':=by
 obtain ⟨k,hk⟩:=messageTells_true x0 f0
 exact law_calls' (args:=[.dat tMessage x0]) (argv:=[v0]) (code:=z0b.body) (σ:=z0b.sg) (F:=fun x=>z0b.f k x) (x:=(x0)) (r:=true) (z0b.ok k) Tryz.func4 (by kernel_rfl) (by kernel_rfl) (by kernel_rfl) (by kernel_rfl) hk rfl rfl
  ⟨v0,_,[],[],rfl,rfl,h0,⟨rfl,rfl⟩⟩ hTab

set_option maxRecDepth 100000 in
theorem lifted (os:Os) (started:os.Started) (H:Type) (enc:TypeId × Value→H) :
  ReturnsInHanded {} Tryz.checked os 4 .any (fun w args=>(Rows.messageTellsSpec.pre enc Tryz.prog Tryz.f4 [] false w args∧laidMetH Tryz.prog Rows.messageTellsRow.laid w)∧sizedMet enc Tryz.prog Tryz.f4 (OpenSpec.ofChange Rows.messageTellsSpec) false w args)
   (Rows.messageTellsSpec.post enc Tryz.prog Tryz.f4 false true false false):=by
 refine returnsInHanded_of_change_and (C:=Tryz.checked) (X:=fun w _=>laidMetH Tryz.prog Rows.messageTellsRow.laid w) (fun _ _ _ hh h=>h.of_heap hh) own started (by kernel_rfl) Tryz.func4
  (ChangeSpec.witness_shaped (enc:=enc) (C:=Tryz.checked) (os:=os) (X:=fun w _=>laidMetH Tryz.prog Rows.messageTellsRow.laid w) false (World.laidAll Tryz.prog os Rows.messageTellsRow.laid) #[.agg #[.int .i64 0,.int .i64 0,.int .i64 0,.slice none 0 0,.slice none 0 0,.slice none 0 0,.int .i64 0,.int .i64 0,.int .i64 0,.int .i64 0,.int .i64 0,.int .i64 0,.int .i64 0,.int .i64 0,.int .i64 0,.int .i64 0,.int .i64 0,.int .i64 0,.int .i64 0,.int .i64 0,.int .i64 0,.int .i64 0,.slice none 0 0,.slice none 0 0,.int .i64 0,.int .i64 0,.int .i64 0,.int .i64 0,.int .i64 0,.int .i64 0,.int .i64 0,.int .i64 0,.int .i64 0,.int .i64 0,.int .i64 0,.int .i64 0,.int .i64 0,.int .i64 0,.int .i64 0,.int .i64 0,.slice none 0 0]] 12 (World.laidAll_os _ _ _) (World.shaped_of_ZipB (by kernel_rfl) (by kernel_rfl)) (by kernel_rfl) (by kernel_rfl) (by kernel_rfl) (door_met os _)) ?_
 intro W base args ds gs before hval0 hW _ _ hL _
 have hval:∀ (j:Nat) t v,Tryz.f4.params[j]? = some t→args[j]? = some v→Value.okWide Tryz.prog W .any base t v:=hval0
 have hW':=hW
 obtain ⟨p,q,hA0,hV,rfl,hfz,hnd⟩:=hW
 have hA:DataW.TrodAll enc Tryz.prog W 0 (fun _=>true) true Tryz.f4.params.toList args.toList ds p:=hA0
 rw [Tryz.params4] at hA hval
 obtain ⟨v0,vs0,d0,ds0,p0,q0,hargs,rfl,rfl,h0,r0⟩:=trodAll_cons hA
 obtain ⟨rfl,rfl,rfl⟩:=trodAll_nil r0
 obtain rfl:args=#[v0]:=by cases args;simp_all
 obtain ⟨rfl,rfl⟩:=trodVars_none hV
 have k0:=h0
 have lt0:∀ x ∈ p0,x.block<W.heap.size:=by obtain ⟨m,hm⟩:=k0;exact DataW.trod_lt m _ _ _ hm
 obtain ⟨x0,g0,f0⟩:=arg_open ty0 (hval 0 53 v0 rfl rfl) h0
 clear hA0 hval0
 refine (walk W (tabs_of hL) v0 x0 g0 f0).mono fun e W' ⟨he,bel⟩=>?_
 subst he
 exact ⟨_,rfl,_,_,_,[],_,[],hW',trodAll_mk1 (shut_bool Tryz.underlying4 _),(trodAll_cons_mk (Below.trod laidOut (by kernel_rfl) (of_decide_eq_true (by kernel_rfl)) k0 bel lt0) trodAll_mk0),rfl,bel.frame _,fun h=>by cases h⟩

theorem over:Rows.messageTellsRow.holds Tryz.pinned (OpenSpec.ofChange Rows.messageTellsSpec) :=
 OpenClaim.holds_of_wide 4 Tryz.f4 rfl rfl rfl rfl rfl rfl rfl ⟨rfl,rfl,rfl,rfl,rfl⟩ rfl rfl rfl rfl rfl (by kernel_rfl) Tryz.func4 (by kernel_rfl)
  (of_decide_eq_true (by kernel_rfl)) (by unfold Func.isWrapper;first | (rw [if_pos (by decide +kernel)];kernel_rfl) | (rw [if_neg (by decide +kernel)];exact ⟨rfl,rfl⟩))
  (fun os started H enc _=>lifted os started H enc)

theorem proved:Rows.MessageTellsCardSaid :=
 Claim7.holds_tied_plain_at .later [] [.data, .pinned] true (true, "244fe2b4c6ec632993cb86302b47a80af1155e767e834c2bf2bf28329493421f") false
  over (fun _ h=>by cases h) (by kernel_rfl) (fun _ h=>by cases h) messageTells_row_tie rfl ⟨rfl,rfl⟩ (by kernel_rfl) rfl
  (fun f fn hf hfn=>by
   obtain rfl : f = 4 := Option.some.inj ((show Tryz.prog.funcNamed "palinode/palinodelaw28.MessageTells" = some 4 by kernel_rfl).symm.trans hf) |>.symm
   obtain rfl:fn=Tryz.f4:=(Option.some.inj (Tryz.func4.symm.trans hfn)).symm
   exact ⟨by kernel_rfl,fun j t ht=>by
    rw [Tryz.params4] at ht
    have hm:t ∈ [53]:=by simpa using Array.mem_of_getElem? ht
    have hall:([53].all fun u=>!Tryz.prog.wantsStandIn u)=true:=by kernel_rfl
    exact (show Tryz.prog.wantsStandIn t=false by simpa using List.all_eq_true.1 hall t hm)⟩)
  (by kernel_rfl)
#print axioms proved
end Go.Proofs.YtggcagclpkhlhaaGreatDoor.messageTellsDone
end
