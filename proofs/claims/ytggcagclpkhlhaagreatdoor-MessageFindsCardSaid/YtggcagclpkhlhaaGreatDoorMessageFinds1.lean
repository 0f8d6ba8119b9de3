/- The functions that the statement reaches, and what they come to. Part 1. -/
import Derived.Test.YtggcagclpkhlhaaGreatDoorProg
import Derived.Shelf.SlGeneric
import Derived.Shelf.SlLaysE0
import Derived.Shelf.SlLaysF0
import Derived.Ground.SlsfProg
import Derived.Ground.SlgnProg
import Derived.KernelRfl
import Derived.Shelf.SlSortCmp.KitK
import Derived.Shelf.SlicesE.DeleteFunc
import Derived.Sort.WalkB12
import Derived.Lib.SliceRun
import Derived.Shelf.Strings.Builder1
import Derived.WalkKit
import Derived.BigCall
import Derived.Laws.IdiomStrings
import Derived.RegionCalls
import Derived.Deep.RegionWith
import Derived.Lib.BufferRead
import Derived.WalkSpells
import Derived.Deep.LoopGhost
import Derived.Lib.OthersKept
import Derived.BigQuiet
import Derived.Deep.QuietTactic
import Derived.OwnWalk
import Derived.Shelf.Unicode.DecodeAny
import Derived.Lib.LaidU8T
import Derived.Lib.RuneCountTail
import Derived.Test.YtggcagclpkhlhaaGreatDoorFw1
import Derived.Test.YtggcagclpkhlhaaGreatDoorFw2
import Derived.Test.YtggcagclpkhlhaaGreatDoorFw3
set_option linter.unusedVariables false
set_option linter.unusedSimpArgs false
set_option linter.unusedSectionVars false
noncomputable section
/- slices.Clone at Dot: the walk, and its contract. -/
namespace Go.Proofs.YtggcagclpkhlhaaGreatDoor
open Go.Shelf Go.RowKit Go.Lib
theorem ciDot:∃ i z,Tryz.prog.info? 33=some i∧i.zero=some z∧i.size=2∧i.bytes≤16384∧z.cells.size=2:=okInfoK_spec (by kernel_rfl)
theorem cuDot:Tryz.prog.underlying 26=some (.slice 33):=by kernel_rfl
set_option maxHeartbeats 4000000 in
set_option maxRecDepth 100000 in
theorem cloneDot_nil (c:Nat) (w:World):Calls Tryz.prog 138 #[.slice none 0 c] w fun e w'=>e = .returned (.slice none 0 0)∧w'=w:=by
 have heq:(binOp .eql 26 (.slice none 0 c) (.slice none 0 0)).run Tryz.prog w = .ok (.bool true) w:=Go.run_eql_slice_nil (P:=Tryz.prog) w 26 33 none 0 c cuDot
 go_enter Tryz.func138,Tryz.ntmps138
 go_wp2
 all_goals (go_ret;exact ⟨rfl,rfl⟩)
set_option maxHeartbeats 4000000 in
set_option maxRecDepth 100000 in
theorem cloneDot_none (a:Addr) (c:Nat) (w:World):Calls Tryz.prog 138 #[.slice (some a) 0 c] w fun e w'=>e = .returned (.slice (some ⟨w.heap.size,0,none⟩) 0 0)∧w'=w.alloc (.cells #[] 33):=by
 have heq:(binOp .eql 26 (.slice (some a) 0 c) (.slice none 0 0)).run Tryz.prog w = .ok (.bool false) w:=Go.run_eql_slice_nil (P:=Tryz.prog) w 26 33 (some a) 0 c cuDot
 go_enter Tryz.func138,Tryz.ntmps138
 go_wp2
 all_goals (go_ret;exact ⟨rfl,rfl⟩)
set_option maxHeartbeats 4000000 in
set_option maxRecDepth 100000 in
theorem cloneDot_some (a:Addr) (n c:Nat) (cs:List Value) (w:World) (hn:0<n) (hbig:n≤4294967296) (hcl:cs.length=n * 2) (hcs:∀ (j:Nat) (v:Value),cs[j]? = some v→w.cell? (a.add j)=some v) (h1:∀ v ∈ cs,v.oneCell'=true) :
  Calls Tryz.prog 138 #[.slice (some a) n c] w fun e w'=>∃ cap,n≤cap∧cap≤9223372036854775807∧e = .returned (.slice (some ⟨w.heap.size+1,0,none⟩) n cap)∧∃ ROW:Array Value,ROW.size=cap * 2∧(∀ (j:Nat) (v:Value),cs[j]? = some v→ROW[j]? = some v)∧w'=(w.alloc (.cells #[] 33)).drew.alloc (.cells ROW 33):=by
 obtain ⟨i0,z0,hi0,hz0,hzs,hzb,hzc⟩:=ciDot
 obtain ⟨W,hW⟩:∃ W,W=w.alloc (.cells #[] 33):=⟨_,rfl⟩
 have hWs:W.heap.size=w.heap.size+1:=by rw [hW];simp
 have hsrc:Src Tryz.prog i0.size 26 (.slice (some a) n c) n cs W:=by
  rw [hzs]
  exact Src.ofSlice W cuDot a n c cs (by omega) (fun j u hj=>by rw [hW];exact Lib.cell?_alloc_some _ (hcs j u hj)) h1
 have hold:(Builtin.firstCells i0.size 0 (.slice (some ⟨w.heap.size,0,none⟩) 0 0)).run Tryz.prog W.drew = .ok ([]:List Value).toArray W.drew:=by
  rw [hzs]
  exact run_firstCells_some W.drew 2 0 ⟨w.heap.size,0,none⟩ 0 0 [] (by simp) (fun j v hj=>by simp at hj)
 have hge:=grownCap_ge W n 0 33
 have hle:=grownCap_le_maxLen W n 0 33 (by unfold maxLen;omega)
 unfold maxLen at hle
 obtain ⟨cap,hcap⟩:∃ cap,cap=grownCap W n 0 33:=⟨_,rfl⟩
 obtain ⟨ROW,hROW⟩:∃ ROW:Array Value,ROW=cs.toArray++Builtin.zeroCells z0.cells (cap - n):=⟨_,rfl⟩
 have hrun:∀ ty,(Builtin.append_ #[26,26] ty #[.slice (some ⟨w.heap.size,0,none⟩) 0 0,.slice (some a) n c]).run Tryz.prog W = .ok (.slice (some ⟨w.heap.size+1,0,none⟩) n cap) (W.drew.alloc (.cells ROW 33)):=fun ty=>by
  have h:=run_append_grow_src W 26 26 ty 33 i0 z0 cuDot hi0 hz0 (some ⟨w.heap.size,0,none⟩) 0 0 [] hold _ n cs hsrc (by omega) (by omega) (by rw [Nat.zero_add];have:=Nat.mul_le_mul hbig hzb;exact growslice_fits (by omega) (by omega))
  rw [Nat.zero_add,List.nil_append,← hcap,← hROW,hWs] at h
  exact h
 rw [← hcap] at hge hle
 have hRs:ROW.size=cap * 2:=by rw [hROW];simp [Builtin.zeroCells,hzc,hcl];omega
 have hRp:∀ (j:Nat) (v:Value),cs[j]? = some v→ROW[j]? = some v:=fun j v hj=>by
  have:=(List.getElem?_eq_some_iff.1 hj).1
  rw [hROW,Array.getElem?_append_left (by simpa using this)]
  simpa using hj
 clear hROW hcap hold
 subst hW
 have heq:(binOp .eql 26 (.slice (some a) n c) (.slice none 0 0)).run Tryz.prog w = .ok (.bool false) w:=Go.run_eql_slice_nil (P:=Tryz.prog) w 26 33 (some a) n c cuDot
 go_enter Tryz.func138,Tryz.ntmps138
 go_wp2_with (at_builtin;refine Lib.wpList_append_run _ rfl _ _ _ _ rfl _ _ rfl rfl _ _ (hrun _) ?_)
 all_goals (go_ret;exact ⟨cap,hge,hle,rfl,ROW,hRs,hRp,rfl⟩)
end Go.Proofs.YtggcagclpkhlhaaGreatDoor
namespace Go.Proofs.YtggcagclpkhlhaaGreatDoor.Pal
open Go Go.Sort
@[reducible] def celDot:Ty:=(.pair (.int .i64) (.int .i64))
theorem cloneDot_ok:CallOK Tryz.prog 138 (cloneE celDot):=by
 have eF:∀ args w,(callFunc 138 args).run Tryz.prog w = .ok (.enter 138 args) w:=enters_of Tryz.func138 (by kernel_rfl) rfl
 have val:∀ args objs v os,(cloneE celDot).val args objs=some (v,os)→∃ (xs:List celDot.D) (va:V),args=[va]∧V.as (.slc celDot) va=some xs∧objs=[]∧xs.length≤4294967296∧v = .raw celDot xs∧os=[]:=by
  intro args objs v os h
  unfold Entry.val cloneE at h
  simp only at h
  split at h
  ·rename_i va
   rw [Option.bind_eq_some_iff] at h
   obtain ⟨xs,hxs,h⟩:=h
   obtain ⟨hr,h⟩:=br_then h
   injection h with h;injection h with h1 h2
   exact ⟨xs,va,rfl,hxs,rfl,by have:=hr;simp only [room,List.length_nil,Nat.zero_add,decide_eq_true_eq] at this;exact this,h1.symm,h2.symm⟩
  ·cases h
 refine ⟨fun α args objs K=>?_,fun args objs vr os hval X G w argv tA tM hW hTab hX hA hM hcnt htok=>?_⟩
 ·unfold Entry.val cloneE
  simp only
  split
  ·rename_i va
   cases V.as (.slc celDot) va with
   | none=>rfl
   | some ys=>simp only [Option.bind_some];rw [br_bind];rfl
  ·rfl
 ·obtain ⟨xs,va,rfl,hva,rfl,hlen,rfl,rfl⟩:=val _ _ _ _ hval
  obtain ⟨x2,r2,t5,t6,rfl,rfl,hx2,rfl,rfl⟩:=hA
  obtain ⟨ad,n,c,rfl,g2,g3,g4⟩:=(TRep.as_ hva hx2).slc
  refine .inl ⟨eF _ _,?_⟩
  have empty:∀ (ad':Option Addr) (w':World),xs=[]→Evo X w w'→(∀ b o v,G.I b o=some v→w'.cell? ⟨b,o,none⟩=some v)→∃ G',Post X G w 0 (.raw celDot xs) [] (.slice ad' 0 0) (some (.slice ad n c)) G' w':=by
   intro ad' w' hx hE hc
   subst hx
   exact ⟨G,⟨hE,Im.le_refl _,fun _ _ _ h=>.inl h,fun _ _ _=>rfl⟩,⟨hc,hW.io,fun b o k h=>Nat.lt_of_lt_of_le (hW.lt b o k h) hE.size⟩,fun _ _=>rfl,[],[],[],⟨_,⟨ad',0,0,rfl,rfl,by omega,.inl ⟨rfl,rfl⟩⟩,rfl⟩,rfl,rfl,fun q=>by simp,fun q hq=>by simp at hq⟩
  rcases Nat.eq_zero_or_pos n with h0 | h0
  ·have hxs:xs=[]:=List.eq_nil_of_length_eq_zero (by omega)
   subst h0
   cases ad with
   | none =>
    refine Calls.mono (cloneDot_nil c w) fun e' w' hh=>?_
    obtain ⟨rfl,rfl⟩:=hh
    exact empty none w' hxs (Evo.refl X w') hW.holds
   | some a =>
    refine Calls.mono (cloneDot_none a c w) fun e' w' hh=>?_
    obtain ⟨rfl,rfl⟩:=hh
    exact empty _ _ hxs (Evo.alloc X w _) (fun b o v hv=>Lib.cell?_alloc_some _ (hW.holds b o v hv))
  ·rcases g4 with hx0 | ⟨b,o,rfl,hel⟩
   ·subst hx0;simp at g2;omega
   obtain ⟨cs,hcA,hcat⟩:=Elems.all2 (fun x c=>DRep.length celDot x c) xs b o hel
   have hcl:cs.length=n * 2:=by rw [← g2];exact hcA.len
   refine Calls.mono (cloneDot_some ⟨b,o,none⟩ n c cs w h0 (by omega) hcl (fun j v hj=>by rw [Addr.add_lit];exact hW.holds b _ v (hcat j v hj)) (all2_plain xs cs hcA)) fun e' w' hh=>?_
   obtain ⟨cap,hge,hle,rfl,ROW,hRs,hRp,rfl⟩:=hh
   have hW1:((w.alloc (.cells #[] 33)).drew).heap.size=w.heap.size+1:=by show (w.heap.push _).size=_;simp
   have hnew:((w.alloc (.cells #[] 33)).drew.alloc (.cells ROW 33)).heap[w.heap.size+1]? = some (.cells ROW 33 (0,0)):=by
    show ((w.heap.push _).push _)[w.heap.size+1]? = _
    have:w.heap.size+1=(w.heap.push (Obj.cells #[] 33 (0,0))).size:=by simp
    rw [this];exact Array.getElem?_push_size
   have hE:Evo X w ((w.alloc (.cells #[] 33)).drew.alloc (.cells ROW 33)) :=
    (Evo.alloc X w _).trans ((Evo.drew X _).trans (Evo.alloc X _ _) (fun _ _ _ h=>h) (fun _ _ _ h=>h)) (fun _ _ _ h=>h) (fun _ _ _ h=>h)
   have hc:∀ b o v,G.I b o=some v→((w.alloc (.cells #[] 33)).drew.alloc (.cells ROW 33)).cell? ⟨b,o,none⟩=some v:=fun b o v hv=>by
    refine Lib.cell?_alloc_some _ ?_
    show (w.alloc (.cells #[] 33)).cell? ⟨b,o,none⟩=some v
    exact Lib.cell?_alloc_some _ (hW.holds b o v hv)
   have hIn:∀ o,G.I (w.heap.size+1) o=none:=fun o=>by
    cases hv:G.I (w.heap.size+1) o with
    | none=>rfl
    | some v=>have:=World.block_lt_of_cell? w _ (hW.holds _ _ v hv);have:w.heap.size+1<w.heap.size:=this;omega
   have hOn:∀ o,G.O (w.heap.size+1) o=none:=fun o=>by
    cases hv:G.O (w.heap.size+1) o with
    | none=>rfl
    | some v=>have:=hW.lt _ _ v hv;omega
   refine ⟨G,⟨hE,Im.le_refl _,fun _ _ _ h=>.inl h,fun _ _ _=>rfl⟩,⟨hc,hW.io,fun b o k h=>Nat.lt_of_lt_of_le (hW.lt b o k h) hE.size⟩,fun _ _=>rfl,[w.heap.size+1],[],[],⟨_,⟨_,n,cap,rfl,g2,⟨hge,hle⟩,.inr ⟨w.heap.size+1,rfl,rfl,⟨ROW,33,cs,hnew,hRs,hcA,hRp⟩,hIn,hOn⟩⟩,rfl⟩,rfl,rfl,fun q=>?_,fun q hq=>?_⟩
   ·have:cnt q [w.heap.size+1]≤1:=by simp only [cnt];exact List.count_le_length
    simpa using this
   ·have:q=w.heap.size+1:=by simpa [cnt_pos.symm] using hq
    subst this;exact .inl (by omega)
end Go.Proofs.YtggcagclpkhlhaaGreatDoor.Pal
end
noncomputable section
/- slices.Clone at Txn: the walk, and its contract. -/
namespace Go.Proofs.YtggcagclpkhlhaaGreatDoor
open Go.Shelf Go.RowKit Go.Lib
end Go.Proofs.YtggcagclpkhlhaaGreatDoor
namespace Go.Proofs.YtggcagclpkhlhaaGreatDoor.Pal
open Go Go.Sort
@[reducible] def celTxn:Ty:=(.pair (.pair (.int .i64) (.int .i64)) (.pair (.int .i64) (.pair (.int .i64) (.pair .bool (.slc (.pair (.int .i64) (.pair (.slc .str) (.pair (.pair (.int .i64) (.pair (.int .i64) .str)) (.pair (.int .i64) (.slc (.pair (.pair (.int .i64) (.int .i64)) (.int .i64))))))))))))
end Go.Proofs.YtggcagclpkhlhaaGreatDoor.Pal
end
noncomputable section
/- slices.Clone at Undo: the walk, and its contract. -/
namespace Go.Proofs.YtggcagclpkhlhaaGreatDoor
open Go.Shelf Go.RowKit Go.Lib
end Go.Proofs.YtggcagclpkhlhaaGreatDoor
namespace Go.Proofs.YtggcagclpkhlhaaGreatDoor.Pal
open Go Go.Sort
@[reducible] def celUndo:Ty:=(.pair (.pair (.int .i64) (.int .i64)) (.int .i64))
end Go.Proofs.YtggcagclpkhlhaaGreatDoor.Pal
end
noncomputable section
/- slices.Grow at Dot: the walk, and its contract. -/
namespace Go.Proofs.YtggcagclpkhlhaaGreatDoor
open Go.Shelf Go.RowKit Go.Lib
end Go.Proofs.YtggcagclpkhlhaaGreatDoor
namespace Go.Proofs.YtggcagclpkhlhaaGreatDoor.Pal
open Go Go.Sort
@[reducible] def gelDot:Ty:=(.pair (.int .i64) (.int .i64))
end Go.Proofs.YtggcagclpkhlhaaGreatDoor.Pal
end
noncomputable section
/- slices.Insert at Dot: the walk, and its contract. -/
namespace Go.Proofs.YtggcagclpkhlhaaGreatDoor
open Go.Shelf Go.RowKit Go.Lib
theorem iDot:∃ i z,Tryz.prog.info? 33=some i∧i.zero=some z∧i.size=2∧i.bytes≤16384∧z.cells.size=2:=okInfoK_spec (by kernel_rfl)
theorem zDot:∀ w,(Go.sizeOf 33).run Tryz.prog w = .ok 2 w:=fun w=>by
 obtain ⟨i,z,h1,h2,h3,h4⟩:=iDot
 simp [Go.sizeOf,typeInfo,h1,h3]
end Go.Proofs.YtggcagclpkhlhaaGreatDoor
namespace Go.Proofs.YtggcagclpkhlhaaGreatDoor.Pal
open Go Go.Sort
@[reducible] def elDot:Ty:=(.pair (.int .i64) (.int .i64))
end Go.Proofs.YtggcagclpkhlhaaGreatDoor.Pal
end
noncomputable section
/- slices.Insert at Txn: the walk, and its contract. -/
namespace Go.Proofs.YtggcagclpkhlhaaGreatDoor
open Go.Shelf Go.RowKit Go.Lib
end Go.Proofs.YtggcagclpkhlhaaGreatDoor
namespace Go.Proofs.YtggcagclpkhlhaaGreatDoor.Pal
open Go Go.Sort
@[reducible] def elTxn:Ty:=(.pair (.pair (.int .i64) (.int .i64)) (.pair (.int .i64) (.pair (.int .i64) (.pair .bool (.slc (.pair (.int .i64) (.pair (.slc .str) (.pair (.pair (.int .i64) (.pair (.int .i64) .str)) (.pair (.int .i64) (.slc (.pair (.pair (.int .i64) (.int .i64)) (.int .i64))))))))))))
end Go.Proofs.YtggcagclpkhlhaaGreatDoor.Pal
end
noncomputable section
/- The library's functions at this program's types. -/
namespace Go.Proofs.YtggcagclpkhlhaaGreatDoor
open Pal Go
end Go.Proofs.YtggcagclpkhlhaaGreatDoor
end
noncomputable section
/- Where slices.SortFunc at dots and what it calls lie in this program. -/
namespace Go.Proofs.YtggcagclpkhlhaaGreatDoor
open Go.Proofs
open Go.Shelf
def laysSortDot_ren:Go.Shelf.Ren:=⟨fun | 6=>182 | 15=>229 | 14=>228 | 28=>257 | 29=>258 | 20=>249 | 21=>250 | 22=>251 | 23=>252 | 24=>253 | 25=>254 | 26=>255 | 27=>256 | 46=>266 | 47=>267 | 48=>268 | 49=>269 | 50=>270 | 57=>274 | n=>n,fun | 22=>26 | 24=>33 | 25=>142 | 3=>3 | 39=>163 | 0=>0 | 53=>170 | 55=>248 | 4=>4 | 46=>241 | 45=>240 | 50=>191 | 5=>5 | 9=>9 | 66=>256 | 70=>260 | 76=>264 | 77=>232 | n=>n,fun | n=>n⟩
theorem laysSortDot:Go.Proofs.SlLaysF0.n6 Tryz.prog laysSortDot_ren:={
 mixed:=by kernel_rfl
 f6:=⟨Tryz.f182.name,by decide,Tryz.func182.trans (congrArg some (by kernel_rfl))⟩
 f14:=⟨Tryz.f228.name,by decide,Tryz.func228.trans (congrArg some (by kernel_rfl))⟩
 f15:=Tryz.func229.trans (congrArg some (by kernel_rfl))
 f20:=⟨Tryz.f249.name,by decide,Tryz.func249.trans (congrArg some (by kernel_rfl))⟩
 f21:=⟨Tryz.f250.name,by decide,Tryz.func250.trans (congrArg some (by kernel_rfl))⟩
 f22:=⟨Tryz.f251.name,by decide,Tryz.func251.trans (congrArg some (by kernel_rfl))⟩
 f23:=⟨Tryz.f252.name,by decide,Tryz.func252.trans (congrArg some (by kernel_rfl))⟩
 f24:=⟨Tryz.f253.name,by decide,Tryz.func253.trans (congrArg some (by kernel_rfl))⟩
 f25:=⟨Tryz.f254.name,by decide,Tryz.func254.trans (congrArg some (by kernel_rfl))⟩
 f26:=⟨Tryz.f255.name,by decide,Tryz.func255.trans (congrArg some (by kernel_rfl))⟩
 f27:=⟨Tryz.f256.name,by decide,Tryz.func256.trans (congrArg some (by kernel_rfl))⟩
 f28:=Tryz.func257.trans (congrArg some (by kernel_rfl))
 f29:=Tryz.func258.trans (congrArg some (by kernel_rfl))
 f46:=⟨Tryz.f266.name,by decide,Tryz.func266.trans (congrArg some (by kernel_rfl))⟩
 f47:=Tryz.func267.trans (congrArg some (by kernel_rfl))
 f48:=Tryz.func268.trans (congrArg some (by kernel_rfl))
 f49:=⟨Tryz.f269.name,by decide,Tryz.func269.trans (congrArg some (by kernel_rfl))⟩
 f50:=⟨Tryz.f270.name,by decide,Tryz.func270.trans (congrArg some (by kernel_rfl))⟩
 f57:=⟨Tryz.f274.name,by decide,Tryz.func274.trans (congrArg some (by kernel_rfl))⟩
 t0:=Tryz.underlying0
 a0:=Tryz.isAgg0
 z0:=Tryz.sizeOf0
 v0:=Tryz.zeroValue0
 t3:=Tryz.underlying3
 a3:=Tryz.isAgg3
 z3:=Tryz.sizeOf3
 v3:=Tryz.zeroValue3
 t4:=Tryz.underlying4
 a4:=Tryz.isAgg4
 z4:=Tryz.sizeOf4
 v4:=Tryz.zeroValue4
 t5:=Tryz.underlying5
 a5:=Tryz.isAgg5
 z5:=Tryz.sizeOf5
 v5:=Tryz.zeroValue5
 t9:=Tryz.underlying9
 a9:=Tryz.isAgg9
 z9:=Tryz.sizeOf9
 v9:=Tryz.zeroValue9
 t22:=Tryz.underlying26
 a22:=Tryz.isAgg26
 z22:=Tryz.sizeOf26
 v22:=Tryz.zeroValue26
 t25:=Tryz.underlying142
 a25:=Tryz.isAgg142
 z25:=Tryz.sizeOf142
 v25:=Tryz.zeroValue142
 t39:=Tryz.underlying163
 a39:=Tryz.isAgg163
 z39:=Tryz.sizeOf163
 v39:=Tryz.zeroValue163
 t45:=Tryz.underlying240
 a45:=Tryz.isAgg240
 z45:=Tryz.sizeOf240
 v45:=Tryz.zeroValue240
 t46:=Tryz.underlying241
 a46:=Tryz.isAgg241
 z46:=Tryz.sizeOf241
 v46:=Tryz.zeroValue241
 t50:=Tryz.underlying191
 a50:=Tryz.isAgg191
 z50:=Tryz.sizeOf191
 v50:=Tryz.zeroValue191
 t53:=Tryz.underlying170
 a53:=Tryz.isAgg170
 z53:=Tryz.sizeOf170
 v53:=Tryz.zeroValue170
 t55:=Tryz.underlying248
 a55:=Tryz.isAgg248
 z55:=Tryz.sizeOf248
 v55:=Tryz.zeroValue248
 t66:=Tryz.underlying256
 a66:=Tryz.isAgg256
 z66:=Tryz.sizeOf256
 v66:=Tryz.zeroValue256
 t70:=Tryz.underlying260
 a70:=Tryz.isAgg260
 z70:=Tryz.sizeOf260
 v70:=Tryz.zeroValue260
 t76:=Tryz.underlying264
 a76:=Tryz.isAgg264
 z76:=Tryz.sizeOf264
 v76:=Tryz.zeroValue264
 t77:=Tryz.underlying232
 a77:=Tryz.isAgg232
 z77:=Tryz.sizeOf232
 v77:=Tryz.zeroValue232 }
end Go.Proofs.YtggcagclpkhlhaaGreatDoor
end
noncomputable section
/- The types, and some of the program's functions, as plain equations. -/
namespace Go.Proofs.YtggcagclpkhlhaaGreatDoor
open Pal
set_option maxRecDepth 100000
def ri (a b:List Nat):RInfo:=⟨a,b,[],[],0,[],[],[],[],[]⟩
def rq (a b:List Nat) (q:Nat):RInfo:=⟨a,b,[],[],q,[],[],[],[],[]⟩
variable [MonoC]
@[reducible] def tVec:Ty:=.arr 16 (.int .i64)
@[reducible] def tDot:Ty:=.pair (.int .i64) (.int .i64)
@[reducible] def tpackReader:Ty:=.pair .str (.int .i64)
@[reducible] def terrorAddressString:Ty:=.pair .str (.int .u64)
@[reducible] def tacceptRange:Ty:=.pair (.int .u8) (.int .u8)
@[reducible] def tUndo:Ty:=.pair tDot (.int .i64)
@[reducible] def tValue:Ty:=.pair (.int .i64) (.pair (.int .i64) .str)
@[reducible] def tref02Reader:Ty:=.pair .str tDot
@[reducible] def tDots:Ty:=.pair tVec (.slc tDot)
@[reducible] def tboundsError:Ty:=.pair (.int .i64) (.pair (.int .i64) (.pair .bool (.int .u8)))
@[reducible] def tOp:Ty:=.pair (.int .i64) (.pair (.slc .str) (.pair tValue (.pair (.int .i64) (.slc tUndo))))
@[reducible] def tKnow:Ty:=.pair tDots (.pair (.slc tUndo) tDots)
@[reducible] def tTxn:Ty:=.pair tDot (.pair (.int .i64) (.pair (.int .i64) (.pair .bool (.slc tOp))))
@[reducible] def tDelta:Ty:=.pair (.slc tTxn) (.pair (.slc tUndo) (.slc tDot))
@[reducible] def tState:Ty:=.pair (.slc tTxn) (.pair (.slc tUndo) (.pair tDots (.pair tDots (.arr 8 (.slc tDot)))))
@[reducible] def tMessage:Ty:=.pair (.int .i64) (.pair (.int .i64) (.pair (.int .i64) (.pair tDelta tKnow)))
@[reducible] def tRecord:Ty:=.pair (.int .i64) (.pair tTxn (.pair (.int .i64) (.pair tUndo (.pair (.int .i64) (.pair tDelta tState)))))
def tt:List (Nat × TInfo):=[(2,⟨(.int .i64),0⟩),(3,⟨(.int .i64),0⟩),(4,⟨.bool,0⟩),(5,⟨(.int .u8),0⟩),(6,⟨(.int .u8),0⟩),(7,⟨tboundsError,4⟩),(8,⟨tboundsError,4⟩),(9,⟨.str,0⟩),(10,⟨.str,0⟩),(11,⟨.str,0⟩),(12,⟨(.int .u64),0⟩),(21,⟨(.int .i32),0⟩),(22,⟨(.slc tTxn),0⟩),(23,⟨(.slc tUndo),0⟩),(24,⟨tVec,0⟩),(25,⟨tVec,0⟩),(26,⟨(.slc tDot),0⟩),(27,⟨tDots,2⟩),(28,⟨tDots,2⟩),(29,⟨(.arr 8 (.slc tDot)),0⟩),(30,⟨tState,5⟩),(31,⟨tState,5⟩),(32,⟨tDot,2⟩),(33,⟨tDot,2⟩),(34,⟨(.slc tOp),0⟩),(35,⟨tTxn,5⟩),(36,⟨tTxn,5⟩),(37,⟨tUndo,2⟩),(38,⟨tUndo,2⟩),(39,⟨tDelta,3⟩),(40,⟨tDelta,3⟩),(41,⟨tRecord,7⟩),(42,⟨tRecord,7⟩),(50,⟨tKnow,3⟩),(51,⟨tKnow,3⟩),(52,⟨tMessage,5⟩),(53,⟨tMessage,5⟩),(56,⟨(.int .i64),0⟩),(61,⟨tref02Reader,3⟩),(62,⟨tref02Reader,3⟩),(83,⟨(.slc .str),0⟩),(84,⟨tValue,3⟩),(85,⟨tValue,3⟩),(86,⟨(.slc tUndo),0⟩),(87,⟨tOp,5⟩),(88,⟨tOp,5⟩),(119,⟨(.slc (.int .u8)),0⟩),(120,⟨tpackReader,2⟩),(121,⟨tpackReader,2⟩),(163,⟨(.int .u64),0⟩),(170,⟨(.int .u32),0⟩),(202,⟨tUndo,2⟩),(203,⟨tUndo,2⟩),(216,⟨(.slc (.int .i64)),0⟩),(235,⟨(.slc (.int .i32)),0⟩),(240,⟨(.int .i64),0⟩),(248,⟨(.int .u64),0⟩),(249,⟨(.slc (.slc tDot)),0⟩),(252,⟨(.arr 16 (.int .u32)),0⟩),(256,⟨(.int .u64),0⟩),(266,⟨(.arr 256 (.int .u8)),0⟩),(267,⟨tacceptRange,2⟩),(268,⟨tacceptRange,2⟩),(269,⟨(.arr 16 tacceptRange),0⟩),(275,⟨(.int .u8),0⟩),(276,⟨(.int .u8),0⟩),(278,⟨(.int .i32),0⟩),(279,⟨(.int .i32),0⟩)]
def pp:List Nat:=[15,16,17,60,66,157,199,260,264]
def mm:List (Nat × (Ty × Ty)):=[]
theorem tt_ok:tt.all (fun x=>tiB Tryz.prog x.1 x.2)=true:=by kernel_rfl
theorem pp_ok:pp.all (ptB Tryz.prog)=true:=by kernel_rfl
theorem mm_ok:mm.all (fun x=>mpB Tryz.prog x.1 x.2)=true:=by kernel_rfl
theorem mixed:Tryz.prog.follows .mixedOrders=true:=by kernel_rfl
def z1O.body:Go.Code:=Tryz.f119.body.getD .skip
def z1O.rs:List Go.ResultVar:=Tryz.f119.results.toList
def z1O.regs:List (Nat × RInfo):=[(0,ri [1] [1]),(1,ri [2] [])]
def z1O.cx (k:Nat):Cx:=⟨tt,pp,[],z1O.regs,k,mm⟩
@[reducible] def z1O.sg:Sg:=⟨[.dat tDot],[],.dat .bool,[]⟩
def z1O.f (k:Nat) (a0:Ty.D tDot):Option (Sg.Out z1O.sg):=Sg.fn z1O.sg (z1O.cx k) z1O.body z1O.rs a0
theorem z1O.f_eq (k:Nat) (a0:Ty.D tDot):z1O.f k a0=br (ile 0 a0.1) (br (ilt a0.1 16) (br (ile 1 a0.2) (some (ile a0.2 1048576)) (some false)) (some false)) (some false):=by kernel_rfl
def z1O.e (k:Nat):Entry:=Sg.entry z1O.sg fun x=>z1O.f k x
theorem z1O.ok (k:Nat):CallOK Tryz.prog 119 (z1O.e k):=fn_ok (c:=z1O.cx k) (code:=z1O.body) (TT.of tt_ok pp_ok mm_ok) (fns_ok trivial) mixed Tryz.func119 (by kernel_rfl) (by kernel_rfl) (by kernel_rfl) (by kernel_rfl) (by kernel_rfl) (by kernel_rfl) (fun x=>by kernel_rfl)
def z0t.body:Go.Code:=Tryz.f248.body.getD .skip
def z0t.rs:List Go.ResultVar:=Tryz.f248.results.toList
def z0t.regs:List (Nat × RInfo):=[(0,ri [0] []),(1,ri [2] [])]
def z0t.cx (k:Nat):Cx:=⟨tt,pp,[],z0t.regs,k,mm⟩
@[reducible] def z0t.sg:Sg:=⟨[.dat (.int .i64)],[],.dat .bool,[]⟩
def z0t.f (k:Nat) (a0:Ty.D (.int .i64)):Option (Sg.Out z0t.sg):=Sg.fn z0t.sg (z0t.cx k) z0t.body z0t.rs a0
theorem z0t.f_eq (k:Nat) (a0:Ty.D (.int .i64)):z0t.f k a0=some (bnot (ieq a0 a0)):=by kernel_rfl
def z0t.e (k:Nat):Entry:=Sg.entry z0t.sg fun x=>z0t.f k x
theorem z0t.ok (k:Nat):CallOK Tryz.prog 248 (z0t.e k):=fn_ok (c:=z0t.cx k) (code:=z0t.body) (TT.of tt_ok pp_ok mm_ok) (fns_ok trivial) mixed Tryz.func248 (by kernel_rfl) (by kernel_rfl) (by kernel_rfl) (by kernel_rfl) (by kernel_rfl) (by kernel_rfl) (fun x=>by kernel_rfl)
def z0o.body:Go.Code:=Tryz.f227.body.getD .skip
def z0o.rs:List Go.ResultVar:=Tryz.f227.results.toList
def z0o.regs:List (Nat × RInfo):=[(0,ri [0,1] []),(1,ri [0,1,5] [8]),(2,ri [0,1,5,6] [8,10]),(3,ri [0,1,6,11] [8,10]),(4,ri [12] [10]),(5,ri [4] []),(6,ri [4] []),(7,ri [0,1,13] [10]),(8,ri [4] []),(9,ri [0,1,16] []),(10,ri [4] []),(11,ri [19] []),(12,ri [4] []),(13,ri [4] [])]
def z0o.cx (k:Nat):Cx:=⟨tt,pp,[(248,(z0t.e k))],z0o.regs,k,mm⟩
@[reducible] def z0o.sg:Sg:=⟨[.dat (.int .i64),.dat (.int .i64)],[],.dat (.int .i64),[]⟩
def z0o.f (k:Nat) (a0:Ty.D (.int .i64)) (a1:Ty.D (.int .i64)):Option (Sg.Out z0o.sg):=Sg.fn z0o.sg (z0o.cx k) z0o.body z0o.rs (a0,a1)
theorem z0o.f_eq (k:Nat) (a0:Ty.D (.int .i64)) (a1:Ty.D (.int .i64)):z0o.f k a0 a1=bnd (z0t.f k a0) fun r0=>bnd (z0t.f k a1) fun r1=>br r0 (br r1 (some 0) (some (-1))) (br r1 (some 1) (br (ilt a0 a1) (some (-1)) (br (ilt a1 a0) (some 1) (some 0)))):=by kernel_rfl
def z0o.e (k:Nat):Entry:=Sg.entry z0o.sg fun x=>z0o.f k x.1 x.2
theorem z0o.ok (k:Nat):CallOK Tryz.prog 227 (z0o.e k):=fn_ok (c:=z0o.cx k) (code:=z0o.body) (TT.of tt_ok pp_ok mm_ok) (fns_ok ⟨(z0t.ok k),trivial⟩) mixed Tryz.func227 (by kernel_rfl) (by kernel_rfl) (by kernel_rfl) (by kernel_rfl) (by kernel_rfl) (by kernel_rfl) (fun x=>by kernel_rfl)
def z1e.body:Go.Code:=Tryz.f226.body.getD .skip
def z1e.rs:List Go.ResultVar:=Tryz.f226.results.toList
def z1e.regs:List (Nat × RInfo):=[(0,ri [0] []),(1,ri [0,3] []),(2,ri [3,6,7,8] []),(3,⟨[3,6,7,8,9],[],[],[],0,[3,6,7,8],[],[],[],[]⟩),(4,ri [3,5,6,7,8] []),(5,ri [3,5,6,7,8,14] []),(6,ri [2] []),(7,ri [3,6,7,8] []),(8,ri [2] [])]
def z1e.cx (k:Nat):Cx:=⟨tt,pp,[],z1e.regs,k,mm⟩
@[reducible] def z1e.sg:Sg:=⟨[.dat (.slc (.int .i64))],[],.dat (.int .i64),[]⟩
def z1e.f (k:Nat) (a0:Ty.D (.slc (.int .i64))):Option (Sg.Out z1e.sg):=Sg.fn z1e.sg (z1e.cx k) z1e.body z1e.rs a0
def z1e.l3 (k:Nat) (n:Nat) (x3:Ty.D (.int .i64)) (x6:Ty.D (.slc (.int .i64))) (x7:Ty.D (.int .i64)) (x8:Ty.D (.int .i64)):Option (Sg.Out z1e.sg):=loopAt (z1e.cx k) z1e.body [1,1,0,1,0] 3 [3,6,7,8] [] [] (Sg.K z1e.sg (z1e.cx k) z1e.rs) n ⟨[(3,.dat (.int .i64) x3),(6,.dat (.slc (.int .i64)) x6),(7,.dat (.int .i64) x7),(8,.dat (.int .i64) x8)],[]⟩
theorem z1e.f_eq (k:Nat) (a0:Ty.D (.slc (.int .i64))):z1e.f k a0=z1e.l3 k k 0 a0 (ilen a0) 0:=by kernel_rfl
theorem z1e.l3_eq (k:Nat) (n3:Nat) (x3:Ty.D (.int .i64)) (x6:Ty.D (.slc (.int .i64))) (x7:Ty.D (.int .i64)) (x8:Ty.D (.int .i64)):z1e.l3 k (n3+1) x3 x6 x7 x8=br (ilt x8 x7) (br (inL x8 x6) (br (bnot (ieq (rd (.int .i64) x6 (natOf x8)) x3)) (some (rd (.int .i64) x6 (natOf x8))) (z1e.l3 k n3 x3 x6 x7 (iadd .i64 x8 1))) none) (some x3):=by kernel_rfl
def z1e.e (k:Nat):Entry:=Sg.entry z1e.sg fun x=>z1e.f k x
theorem z1e.ok (k:Nat):CallOK Tryz.prog 226 (z1e.e k):=fn_ok (c:=z1e.cx k) (code:=z1e.body) (TT.of tt_ok pp_ok mm_ok) (fns_ok trivial) mixed Tryz.func226 (by kernel_rfl) (by kernel_rfl) (by kernel_rfl) (by kernel_rfl) (by kernel_rfl) (by kernel_rfl) (fun x=>by kernel_rfl)
def z0L.body:Go.Code:=Tryz.f176.body.getD .skip
def z0L.rs:List Go.ResultVar:=Tryz.f176.results.toList
def z0L.regs:List (Nat × RInfo):=[(0,ri [2,3] [2,3]),(1,rq [4] [16] 12)]
def z0L.cx (k:Nat):Cx:=⟨tt,pp,[(227,(z0o.e k)),(226,(z1e.e k))],z0L.regs,k,mm⟩
@[reducible] def z0L.sg:Sg:=⟨[.dat tDot,.dat tDot],[],.dat (.int .i64),[]⟩
def z0L.f (k:Nat) (a0:Ty.D tDot) (a1:Ty.D tDot):Option (Sg.Out z0L.sg):=Sg.fn z0L.sg (z0L.cx k) z0L.body z0L.rs (a0,a1)
theorem z0L.f_eq (k:Nat) (a0:Ty.D tDot) (a1:Ty.D tDot):z0L.f k a0 a1=bnd (z0o.f k a0.1 a1.1) fun r0=>bnd (z0o.f k a0.2 a1.2) fun r1=>bnd (z1e.f k (r0::(r1::[]))) fun r2=>some r2:=by kernel_rfl
def z0L.e (k:Nat):Entry:=Sg.entry z0L.sg fun x=>z0L.f k x.1 x.2
theorem z0L.ok (k:Nat):CallOK Tryz.prog 176 (z0L.e k):=fn_ok (c:=z0L.cx k) (code:=z0L.body) (TT.of tt_ok pp_ok mm_ok) (fns_ok ⟨(z0o.ok k),(z1e.ok k),trivial⟩) mixed Tryz.func176 (by kernel_rfl) (by kernel_rfl) (by kernel_rfl) (by kernel_rfl) (by kernel_rfl) (by kernel_rfl) (fun x=>by kernel_rfl)
def z1T.body:Go.Code:=Tryz.f181.body.getD .skip
def z1T.rs:List Go.ResultVar:=Tryz.f181.results.toList
def z1T.regs:List (Nat × RInfo):=[(0,ri [1] [1]),(1,ri [2] [])]
def z1T.cx (k:Nat):Cx:=⟨tt,pp,[(119,(z1O.e k))],z1T.regs,k,mm⟩
@[reducible] def z1T.sg:Sg:=⟨[.dat tDot],[],.dat .bool,[]⟩
def z1T.f (k:Nat) (a0:Ty.D tDot):Option (Sg.Out z1T.sg):=Sg.fn z1T.sg (z1T.cx k) z1T.body z1T.rs a0
theorem z1T.f_eq (k:Nat) (a0:Ty.D tDot):z1T.f k a0=bnd (z1O.f k a0) fun r0=>some (bnot r0):=by kernel_rfl
def z1T.e (k:Nat):Entry:=Sg.entry z1T.sg fun x=>z1T.f k x
theorem z1T.ok (k:Nat):CallOK Tryz.prog 181 (z1T.e k):=fn_ok (c:=z1T.cx k) (code:=z1T.body) (TT.of tt_ok pp_ok mm_ok) (fns_ok ⟨(z1O.ok k),trivial⟩) mixed Tryz.func181 (by kernel_rfl) (by kernel_rfl) (by kernel_rfl) (by kernel_rfl) (by kernel_rfl) (by kernel_rfl) (fun x=>by kernel_rfl)
end Go.Proofs.YtggcagclpkhlhaaGreatDoor
end
noncomputable section
/- What the library's functions do, at dots. -/
namespace Go.Proofs.YtggcagclpkhlhaaGreatDoor
open Pal Go Go.Sort
abbrev Dot:=Int × Int
def cmpI (a b:Int):Int:=if a<b then -1 else if b<a then 1 else 0
def cmpD (a b:Dot):Int:=if cmpI a.1 b.1=0 then cmpI a.2 b.2 else cmpI a.1 b.1
theorem cmpI_is (k:Nat) (a b:Int):z0o.f k a b=some (cmpI a b):=by
 rw [z0o.f_eq,z0t.f_eq,z0t.f_eq]
 have h:∀ x:Int,bnot (ieq x x)=false:=fun x=>by simp [bnot,ieq]
 simp only [h,bnd,br_false]
 unfold cmpI
 by_cases h1:a<b
 ·simp [ilt,h1,br_true]
 ·by_cases h2:b<a
  ·simp [ilt,h1,h2,br_true,br_false]
  ·simp [ilt,h1,h2,br_false]
theorem or2 (k:Nat) (a b:Int):z1e.f (k+3) (a::b::[])=some (if a=0 then b else a):=by
 have h:z1e.f (k+3) (a::b::[])=br (bnot (ieq a 0)) (some a) (br (bnot (ieq b 0)) (some b) (some 0)):=by
  rw [z1e.f_eq,z1e.l3_eq,z1e.l3_eq,z1e.l3_eq];rfl
 rw [h,ieq_dec,ieq_dec,bnot_dec,bnot_dec]
 by_cases h1:a=0
 ·by_cases h2:b=0
  ·simp [h1,h2,br_false]
  ·simp [h1,h2,br_false,br_true]
 ·simp [h1,br_true]
theorem cmpD_is (k:Nat) (a b:Dot):z0L.f (k+3) a b=some (cmpD a b):=by
 rw [z0L.f_eq,cmpI_is,cmpI_is]
 simp only [bnd]
 rw [or2];rfl
abbrev dotLt:Dot→Dot→Bool:=Go.Proofs.ltOf cmpD
theorem cmpI_lt (a b:Int):cmpI a b<0 ↔ a<b:=by unfold cmpI;split <;> (try split) <;> omega
theorem cmpI_eq (a b:Int):cmpI a b=0 ↔ a=b:=by unfold cmpI;split <;> (try split) <;> omega
theorem dotLt_iff (a b:Dot):dotLt a b=true ↔ a.1<b.1∨(a.1=b.1∧a.2<b.2):=by
 show decide (cmpD a b<0)=true ↔ _
 rw [decide_eq_true_iff]
 unfold cmpD
 by_cases h:a.1=b.1
 ·rw [if_pos ((cmpI_eq _ _).2 h),cmpI_lt];omega
 ·rw [if_neg (fun e=>h ((cmpI_eq _ _).1 e)),cmpI_lt];omega
theorem dotLt_swo:SWO dotLt where
 irrefl x:=by rw [← Bool.not_eq_true,dotLt_iff];omega
 trans x y z h1 h2:=by rw [dotLt_iff] at *;omega
 ntrans x y z h1 h2:=by rw [← Bool.not_eq_true,dotLt_iff] at *;omega
theorem dotLt_tot (x y:Dot) (h1:dotLt x y=false) (h2:dotLt y x=false):x=y:=by
 rw [← Bool.not_eq_true,dotLt_iff] at h1 h2
 apply Prod.ext <;> omega
def rightD (d:Dot):Bool:=decide (0≤d.1∧d.1<16∧1≤d.2∧d.2≤1048576)
theorem right_is (k:Nat) (d:Dot):z1O.f k d=some (rightD d):=by
 rw [z1O.f_eq]
 unfold rightD
 by_cases h1:0≤d.1 <;> by_cases h2:d.1<16 <;> by_cases h3:1≤d.2 <;> by_cases h4:d.2≤1048576 <;> simp [ile,ilt,h1,h2,h3,h4,br_true,br_false]
abbrev dotKeep:Dot→Bool:=rightD
theorem f6_is:laysSortDot_ren.f 6=182:=by kernel_rfl
theorem t24_is:laysSortDot_ren.t 24=33:=by kernel_rfl
theorem aggDot (w:World):(isAgg 33).run Tryz.prog w = .ok true w:=by kernel_rfl
theorem cmp_val (x y:Dot):(z0L.e 10).val [.dat tDot x,.dat tDot y] []=some (.dat (.int .i64) (cmpD x y),[]):=by
 have h:z0L.f 10 x y=some (cmpD x y):=cmpD_is 7 x y
 have e:(z0L.e 10).val [.dat tDot x,.dat tDot y] []=bnd (z0L.f 10 x y) (fun r=>some (.dat (.int .i64) r,[])):=by kernel_rfl
 rw [e,h];rfl
theorem sortDot_ok:CallOK Tryz.prog 182 (sortE tDot 176 dotLt):=by
 have h:=sort_ok (P:=Tryz.prog) (ρ:=laysSortDot_ren) (e:=tDot) (g:=176) (ce:=z0L.e 10) (cf:=cmpD) laysSortDot rfl rfl (fun w=>by rw [t24_is];exact aggDot w) (fun w=>by rw [t24_is];exact zDot w) dotLt_swo dotLt_tot (@z0L.ok (.just True) 10) (enters_of Tryz.func176 (by kernel_rfl) rfl) (by rw [f6_is];exact enters_of Tryz.func182 (by kernel_rfl) rfl) cmp_val
 rw [f6_is] at h
 exact h
end Go.Proofs.YtggcagclpkhlhaaGreatDoor
end
noncomputable section
/- slices.DeleteFunc at dots: the walk. -/
namespace Go.Proofs.YtggcagclpkhlhaaGreatDoor
open Go.Shelf Go.RowKit Go.Lib Go.Sort

def encD (x:Int × Int):List Value:=[.int .i64 x.1,.int .i64 x.2]
def idxOf (p:Int × Int→Bool) (l:List (Int × Int)):Int:=Lib.idxBy (fun _ y=>p y) l default

theorem cell_new (w:World) (C:Array Value) (t:TypeId) (j:Nat):(w.alloc (.cells C t)).cell? ⟨w.heap.size,j,none⟩=C[j]?:=by unfold World.alloc World.cell?;simp

theorem cell_g {w:World} {a:Addr} {v:Value} {o:Obj} (h:w.cell? a=some v) (n:Nat) (os:Array Obj):(grow ((w.alloc o).drewN n) os).cell? a=some v :=
 cell_grown (by rw [World.size_alloc];exact Nat.lt_succ_of_lt (World.block_lt_of_cell? w a h)) (Lib.cell?_alloc_some o h) n os

theorem frz_g {w:World} {a:Addr} {c:Array Value} {t:TypeId} (hb:a.block<w.heap.size) (h:w.frozen? a=false) (n:Nat) (os:Array Obj):(grow ((w.alloc (.cells c t)).drewN n) os).frozen? a=false:=by
 rw [frozen?_grow _ _ _ (by show a.block<(w.alloc _).heap.size;rw [World.size_alloc];omega)]
 show (w.alloc _).frozen? a=false
 rw [frozen?_alloc_cells];exact h

section
variable {α:Type} [Inhabited α]
theorem setMany_set (enc : α → List Value) (k : Nat) (hk : ∀ x, (enc x).length = k) (d : Array α) (i : Nat) (u : α) (hi : i < d.size) :
    setMany (flatK enc k d) (i * k) (enc u) = flatK enc k (d.setIfInBounds i u) := by
  refine ext_get! (by simp) fun t ht => ?_
  have ht' : t < d.size * k := by simpa using ht
  have k0 : 0 < k := by rcases Nat.eq_zero_or_pos k with h | h; · subst h; simp at ht'
                        · exact h
  rw [get_setMany _ _ _ t (by simpa using ht'), get_flatK _ _ _ t ht', get_flatK _ _ _ t (by simpa using ht'), hk]
  by_cases a : t / k = i
  · rw [if_pos ((blk_iff k i t k0).2 a), a, getElem!_set_same d i u hi, Nat.mod_eq_sub_div_mul, a]
  · rw [if_neg (fun h => a ((blk_iff k i t k0).1 h)), getElem!_set_other d i (t / k) u a]

theorem swk_set {enc:α→List Value} {k:Nat} {w0 W:World} {blk off:Nat} {dk:Array α} (h:SWK enc k w0 blk off dk W) (hk:∀ x,(enc x).length=k) (hblk:blk<w0.heap.size) (i:Nat) (u:α) (hi:i<dk.size) :
  SWK enc k w0 blk off (dk.setIfInBounds i u) (W.setCells blk (off+i * k) (enc u)):=by
 obtain ⟨n,os,rfl⟩:=h
 refine ⟨n,os,?_⟩
 have hb:i * k+k≤dk.size * k:=by
  have:=Nat.mul_le_mul_right k (show i+1≤dk.size from hi);rwa [Nat.add_mul,Nat.one_mul] at this
 unfold sortWorldK
 rw [← putRowK_grow enc k (Sort.ahead w0 n) os blk off dk hblk,← putRowK_grow enc k (Sort.ahead w0 n) os blk off _ hblk]
 unfold putRowK
 rw [setCells_putRow _ _ _ _ _ _ (by rw [hk,size_flatK];exact hb),setMany_set enc k hk dk i u hi]

theorem setCells_app (b:Nat):∀ (xs ys:List Value) (o:Nat) (w:World),w.setCells b o (xs++ys)=(w.setCells b o xs).setCells b (o+xs.length) ys
 | [],ys,o,w=>rfl
 | x::xs,ys,o,w=>by
  show (w.setCell ⟨b,o,none⟩ x).setCells b (o+1) (xs++ys)=_
  rw [setCells_app b xs ys (o+1) _,show o+(x::xs).length=o+1+xs.length by simp;omega];rfl

theorem swk_lay {enc:α→List Value} {k:Nat} {w0:World} {blk off:Nat} (hk:∀ x,(enc x).length=k) (hblk:blk<w0.heap.size):∀ (xs:List α) (i:Nat) (dk:Array α) (W:World),SWK enc k w0 blk off dk W→i+xs.length≤dk.size →
  SWK enc k w0 blk off (Lib.lay dk i xs) (W.setCells blk (off+i * k) (xs.flatMap enc))
 | [],_,_,_,h,_=>h
 | x::r,i,dk,W,h,hl=>by
  have hl':i+(r.length+1)≤dk.size:=by simpa using hl
  rw [List.flatMap_cons,setCells_app,hk,Nat.add_assoc,show i * k+k=(i+1) * k by rw [Nat.add_mul,Nat.one_mul]]
  exact swk_lay hk hblk r (i+1) _ _ (swk_set h hk hblk i x (by omega)) (by simp;omega)
end

theorem zeros2:∀ n,(List.replicate n (0,0):List (Int × Int)).flatMap encD=List.replicate (n * 2) (.int .i64 0)
 | 0=>rfl
 | n+1=>by
  rw [List.replicate_succ,List.flatMap_cons,zeros2 n,Nat.add_mul,Nat.one_mul]
  rfl

theorem run_clear2 {P:Program} (w:World) (t e ty:TypeId) (ht:P.underlying t=some (.slice e)) (hv:∀ w,(zeroValue e).run P w = .ok (.agg #[.int .i64 0,.int .i64 0]) w) (b o n c:Nat) (hn:0<n)
  (hc:∀ j,j<n * 2→(w.cell? ⟨b,o+j,none⟩).isSome=true) (hf:∀ j,j<n * 2→w.frozen? ⟨b,o+j,none⟩=false) :
  (Builtin.clear_ #[t] ty #[.slice (some ⟨b,o,none⟩) n c]).run P w = .ok (.tuple #[]) (w.setCells b o (List.replicate (n * 2) (.int .i64 0))):=by
 have hzc:(Builtin.zeroCells (Value.agg #[.int .i64 0,.int .i64 0]).cells n).toList=List.replicate (n * 2) (.int .i64 0):=by
  apply List.ext_getElem
  ·simp [Builtin.zeroCells,Value.cells]
  ·intro i h1 h2
   have:i % 2=0∨i % 2=1:=by omega
   rcases this with h | h <;> simp [Builtin.zeroCells,Value.cells,h]
 have hst:=run_storeCells_cells (P:=P) b o (List.replicate (n * 2) (.int .i64 0)) 0 w (by simpa using hc) (by simpa using hf) (by intro v hv';rw [List.eq_of_mem_replicate hv'];rfl)
 simp only [Nat.add_zero] at hst
 obtain ⟨m,rfl⟩:∃ m,n=m+1:=⟨n - 1,by omega⟩
 simp [Builtin.clear_,run_underlying ht,hv,hzc,hst]

def GrownOf (w w':World):Prop:=∃ q os,w'=grow (w.drewN q) os
theorem GrownOf.refl (w:World):GrownOf w w:=⟨0,#[],(grow_empty _).symm⟩
theorem GrownOf.grown {w w':World} (h:GrownOf w w') (q:Nat) (os:Array Obj):GrownOf w (grow (w'.drewN q) os):=by
 obtain ⟨q0,os0,rfl⟩:=h
 exact ⟨q0+q,os0++os,by rw [← grow_grow];unfold grow World.drewN;simp [Nat.add_assoc]⟩
theorem holds_grown {w w':World} {blk off:Nat} {d:Array (Int × Int)} (hH:HoldsK encD 2 w blk off d) (hblk:blk<w.heap.size) (h:GrownOf w w'):HoldsK encD 2 w' blk off d:=by
 obtain ⟨q,os,rfl⟩:=h
 exact holdsK_grow encD 2 _ os blk off d hblk (holdsK_ahead encD 2 w q blk off d hH)

set_option maxHeartbeats 4000000 in
set_option maxRecDepth 1000000 in
theorem idx_walk (p:Int × Int→Bool) (blk off cap:Nat) (d:Array (Int × Int)) (w:World) (hH:HoldsK encD 2 w blk off d) (hblk:blk<w.heap.size) (hsz:d.size≤4294967296)
  (hcl:∀ (W:World) x,Calls Tryz.prog 181 #[.agg (encD x).toArray] W fun e w'=>e = .returned (.bool (p x))∧∃ q os,w'=grow (W.drewN q) os) :
  Calls Tryz.prog 178 #[.slice (some ⟨blk,off,none⟩) d.size cap,.func (.func 181) #[] #[]] w fun e w'=>e = .returned (.int .i64 (idxOf p d.toList))∧∃ q os,w'=grow (w.drewN q) os:=by
 have e63:∀ args w,(callFunc 181 args).run Tryz.prog w = .ok (.enter 181 args) w:=enters_of Tryz.func181 (by kernel_rfl) rfl
 have tl:∀ j,j<d.size→d.toList[j]! = d[j]!:=fun j hj=>by rw [getElem!_pos d j hj,getElem!_pos d.toList j (by simpa using hj)];simp
 have HH:Aside (HoldsK encD 2 w blk off d):=hH
 have HC:Aside _:=hcl
 have HT:Aside _:=tl
 have htk:Aside (d.toList.take d.size=d.toList):=List.take_of_length_le (by simp)
 clear hH hcl tl
 go_enter Tryz.func178,Tryz.ntmps178
 go_wp2
 go_loopg [5,8] d.size (fun gg _ s8 wr=>∃ kk:Nat,kk≤d.size∧d.size - kk≤gg∧s8 = .int .i64 kk∧Aside (GrownOf w wr)∧Aside (∀ j,j<kk→p d.toList[j]! = false))
 case atStart=>exact ⟨0,Nat.zero_le _,by omega,rfl,GrownOf.refl w,fun j hj=>absurd hj (Nat.not_lt_zero _)⟩
 case round =>
  obtain ⟨kk,hkk,hg,rfl,W2,A⟩:=hrel
  by_cases hlt:kk<d.size
  ·have hltz:(kk:Int)<(d.size:Int):=by omega
   have hHold:=holds_grown HH.out hblk W2.out
   have cj0:=(hHold (kk * 2) (by rw [size_flatK];omega)).1
   have cj1:=(hHold (kk * 2+1) (by rw [size_flatK];omega)).1
   rw [get_flatK _ _ _ _ (by omega)] at cj0 cj1
   rw [show kk * 2 / 2=kk by omega,show kk * 2 % 2=0 by omega] at cj0
   rw [show (kk * 2+1) / 2=kk by omega,show (kk * 2+1) % 2=1 by omega,← Nat.add_assoc] at cj1
   obtain ⟨u,hu⟩:∃ u,d[kk]! = u:=⟨_,rfl⟩
   rw [hu] at cj0 cj1
   have C:Aside (d.toList[kk]! = u):=(HT.out kk hlt).trans hu
   clear hu hHold
   obtain ⟨u1,u2⟩:=u
   have cj0:wr.cell? ⟨blk,off+kk * 2,none⟩=some (.int .i64 u1):=cj0
   have cj1:wr.cell? ⟨blk,off+kk * 2+1,none⟩=some (.int .i64 u2):=cj1
   have hcall:∀ W,Calls Tryz.prog 181 #[.agg #[.int .i64 u1,.int .i64 u2]] W fun e w'=>e = .returned (.bool (p (u1,u2)))∧∃ q os,w'=grow (W.drewN q) os:=fun W=>HC.out W (u1,u2)
   cases hq:p (u1,u2) with
   | true =>
    rw [hq] at hcall
    go_wp2_with (go_at_call 181;refine (hcall _).mono ?_;rintro e w' ⟨rfl,qq,oss,rfl⟩)
    go_ret
    refine ⟨?_,W2.out.grown qq oss⟩
    have:=Lib.idxBy_hit (fun _ y=>p y) d.toList d.size kk default hlt (by simp) (by show p d.toList[kk]! = true;rw [C.out];exact hq) A.out
    rw [htk.out] at this
    unfold idxOf;rw [this];rfl
   | false =>
    rw [hq] at hcall
    go_wp2_with (go_at_call 181;refine (hcall _).mono ?_;rintro e w' ⟨rfl,qq,oss,rfl⟩)
    go_roundg (d.size - (kk+1))
    case measure=>omega
    case rel =>
     refine ⟨kk+1,by omega,by omega,by go_num,(show Aside _ from W2.out.grown qq oss),(show Aside _ from fun j hj=>?_)⟩
     by_cases e:j=kk
     ·subst e
      rw [C.out];exact hq
     ·exact A.out j (by omega)
  ·have hltz:¬ (kk:Int)<(d.size:Int):=by omega
   have:kk=d.size:=by omega
   subst this
   go_wp2
   go_ret
   refine ⟨?_,W2.out⟩
   have:=Lib.idxBy_miss (fun _ y=>p y) d.toList d.size default A.out
   rw [htk.out] at this
   unfold idxOf;rw [this];rfl

set_option maxHeartbeats 4000000 in
set_option maxRecDepth 1000000 in
theorem idx_none (a:Option Addr) (c:Nat) (fv:Value) (w:World) :
  Calls Tryz.prog 178 #[.slice a 0 c,fv] w fun e w'=>e = .returned (.int .i64 (-1))∧w'=w:=by
 go_enter Tryz.func178,Tryz.ntmps178
 go_wp2
 go_loopg [5,8] 0 (fun _ _ s8 wr=>s8 = .int .i64 0∧wr=w)
 case atStart=>exact ⟨rfl,rfl⟩
 case round =>
  obtain ⟨rfl,rfl⟩:=hrel
  go_wp2
  go_ret
  exact ⟨rfl,rfl⟩

set_option maxHeartbeats 4000000 in
set_option maxRecDepth 1000000 in
theorem del_none (a:Option Addr) (c:Nat) (w:World) :
  Calls Tryz.prog 180 #[.slice a 0 c,.func (.func 181) #[] #[]] w fun e w'=>e = .returned (.slice a 0 c)∧w'=w:=by
 have e109:∀ args w,(callFunc 178 args).run Tryz.prog w = .ok (.enter 178 args) w:=enters_of Tryz.func178 (by kernel_rfl) rfl
 go_enter Tryz.func180,Tryz.ntmps180
 go_wp2_with (go_at_call 178;refine (idx_none a c _ _).mono ?_;rintro e w' ⟨rfl,rfl⟩)
 go_ret
 exact ⟨rfl,rfl⟩

set_option maxHeartbeats 4000000 in
set_option maxRecDepth 1000000 in
theorem del_walk (p:Int × Int→Bool) (blk off cap:Nat) (d:Array (Int × Int)) (w:World) (hH:HoldsK encD 2 w blk off d) (hblk:blk<w.heap.size) (hsz:d.size≤4294967296) (hcap:d.size≤cap)
  (hcl:∀ (W:World) x,Calls Tryz.prog 181 #[.agg (encD x).toArray] W fun e w'=>e = .returned (.bool (p x))∧∃ q os,w'=grow (W.drewN q) os)
  (hIF:Calls Tryz.prog 178 #[.slice (some ⟨blk,off,none⟩) d.size cap,.func (.func 181) #[] #[]] w fun e w'=>e = .returned (.int .i64 (idxOf p d.toList))∧∃ q os,w'=grow (w.drewN q) os) :
  Calls Tryz.prog 180 #[.slice (some ⟨blk,off,none⟩) d.size cap,.func (.func 181) #[] #[]] w fun e w' =>
   e = .returned (.slice (some ⟨blk,off,none⟩) (d.toList.filter fun x=>!p x).length cap)∧SWK encD 2 w blk off ((d.toList.filter fun x=>!p x)++List.replicate (d.size - (d.toList.filter fun x=>!p x).length) (0,0)).toArray w':=by
 have e109:∀ args w,(callFunc 178 args).run Tryz.prog w = .ok (.enter 178 args) w:=enters_of Tryz.func178 (by kernel_rfl) rfl
 have e63:∀ args w,(callFunc 181 args).run Tryz.prog w = .ok (.enter 181 args) w:=enters_of Tryz.func181 (by kernel_rfl) rfl
 have hk:∀ x,(encD x).length=2:=fun _=>rfl
 have h1:∀ x,∀ v ∈ encD x,v.oneCell'=true:=fun x v hv=>by simp [encD] at hv;rcases hv with rfl | rfl <;> rfl
 have R:RowK encD 2 w blk off d:=⟨hk,h1,hH,hblk⟩
 have hst:SWK encD 2 w blk off d w:=⟨0,#[],by unfold sortWorldK;rw [grow_empty];exact (putRowK_self encD 2 w blk off d hH).symm⟩
 have tl:∀ j,j<d.size→d.toList[j]! = d[j]!:=fun j hj=>by rw [getElem!_pos d j hj,getElem!_pos d.toList j (by simpa using hj)];simp
 obtain ⟨kp,HK⟩:∃ kp:Nat→Bool,Hid (kp=fun j=>!p d[j]!):=⟨_,rfl⟩
 have hfil:(d.toList.filter fun x=>!p x)=keptUpTo kp d d.size:=by rw [HK.out];exact (keptUpTo_filter (fun x=>!p x) d).symm
 rw [hfil]
 rcases idxByFrom_spec (fun _ y=>p y) (default:Int × Int) d.toList 0 with ⟨e1,hall⟩ | ⟨k0,hk0,e1,ht,hall⟩
 ·have e2:idxOf p d.toList=-1:=e1
  rw [e2] at hIF
  have hkeep:∀ j,j<d.size→kp j=true:=fun j hj=>by rw [HK.out];show (!p d[j]!)=true;rw [← tl j hj,hall j (by simpa using hj)];rfl
  have e3:keptUpTo kp d d.size=d.toList:=by rw [keptUpTo_all kp d _ hkeep,range_map_get]
  have HS:Aside (SWK encD 2 w blk off d w):=hst
  clear hH hst hcl R
  go_enter Tryz.func180,Tryz.ntmps180
  go_wp2_with (go_at_call 178;refine hIF.mono ?_;rintro e w' ⟨rfl,q0,os0,rfl⟩)
  go_ret
  rw [e3]
  refine ⟨by simp,?_⟩
  simp only [Array.length_toList,Nat.sub_self,List.replicate_zero,List.append_nil,Array.toArray_toList]
  exact HS.out.grown q0 os0
 ·have hk0':k0<d.size:=by simpa using hk0
  have e2:idxOf p d.toList=(k0:Int):=by unfold idxOf Lib.idxBy;rw [e1];simp
  rw [e2] at hIF
  have hkeep:∀ j,j<k0→kp j=true:=fun j hj=>by rw [HK.out];show (!p d[j]!)=true;rw [← tl j (by omega),hall j hj];rfl
  have hdrop:kp k0=false:=by rw [HK.out];show (!p d[k0]!)=false;rw [← tl k0 hk0'];rw [show p d.toList[k0]! = true from ht];rfl
  have hne1:((k0:Int) == -1)=false:=beq_eq_false_iff_ne.2 (by omega)
  have HC:Aside _:=hcl
  have HS:Aside (SWK encD 2 w blk off d w):=hst
  have HR:Aside (RowK encD 2 w blk off d):=R
  clear hH hst hcl R hall ht e1 e2 tl hk h1
  go_enter Tryz.func180,Tryz.ntmps180
  go_wp2_with (go_at_call 178;refine hIF.mono ?_;rintro e w' ⟨rfl,q0,os0,rfl⟩)
  go_loopg [5,6,7] d.size (fun gg s5 s6 _ wr=>∃ (i j:Nat) (dk:Array (Int × Int)),s5 = .int .i64 i∧s6 = .int .i64 j∧j≤d.size∧d.size - j≤gg∧Aside (SWK encD 2 w blk off dk wr)∧Aside (KeptInv kp d j i dk))
  case atStart=>exact ⟨k0,k0+1,d,rfl,by go_num,by omega,by omega,HS.out.grown q0 os0,KeptInv.start hkeep hdrop⟩
  case round =>
   obtain ⟨i,j,dk,rfl,rfl,hjd,hgg,W2,I2⟩:=hrel
   have hij:=I2.out.lt
   have hds:=I2.out.size
   by_cases hlt:j<d.size
   ·have hltz:(j:Int)<(d.size:Int):=by omega
    have hHold:HoldsK encD 2 wr blk off dk:=W2.out.holds hblk HR.out.hH hds
    have cel:∀ x,x<dk.size→(wr.cell? ⟨blk,off+x * 2,none⟩=some (.int .i64 dk[x]!.1)∧wr.cell? ⟨blk,off+x * 2+1,none⟩=some (.int .i64 dk[x]!.2))∧wr.frozen? ⟨blk,off+x * 2,none⟩=false∧wr.frozen? ⟨blk,off+x * 2+1,none⟩=false:=by
     intro x hx
     have g0:=hHold (x * 2) (by simp;omega)
     have g1:=hHold (x * 2+1) (by simp;omega)
     rw [get_flatK _ _ _ _ (by omega)] at g0 g1
     have d0:x * 2 / 2=x:=by omega
     have d1:(x * 2+1) / 2=x:=by omega
     have m0:x * 2 % 2=0:=by omega
     have m1:(x * 2+1) % 2=1:=by omega
     rw [d0,m0] at g0;rw [d1,m1] at g1
     rw [← Nat.add_assoc] at g1
     exact ⟨⟨g0.1,g1.1⟩,g0.2,g1.2⟩
    obtain ⟨⟨cj0,cj1⟩,_,_⟩:=cel j (by omega)
    obtain ⟨⟨ci0,ci1⟩,fi0,fi1⟩:=cel i (by omega)
    rw [I2.out.high j (by omega)] at cj0 cj1
    obtain ⟨u,hu⟩:∃ u,d[j]! = u:=⟨_,rfl⟩
    rw [hu] at cj0 cj1
    have C:Aside (d[j]! = u):=hu
    clear hu hHold cel
    obtain ⟨u1,u2⟩:=u
    simp only at cj0 cj1
    generalize dk[i]!.1=o1 at ci0
    generalize dk[i]!.2=o2 at ci1
    have hblk':blk<wr.heap.size:=World.block_lt_of_cell? wr _ cj0
    have hcall:∀ W,Calls Tryz.prog 181 #[.agg #[.int .i64 u1,.int .i64 u2]] W fun e w'=>e = .returned (.bool (p (u1,u2)))∧∃ q os,w'=grow (W.drewN q) os:=fun W=>HC.out W (u1,u2)
    have hne:¬ (blk=wr.heap.size):=by omega
    have hnew0:∀ n os,(grow ((wr.alloc (.cells #[.int .i64 u1,.int .i64 u2] 33)).drewN n) os).cell? ⟨wr.heap.size,0,none⟩=some (.int .i64 u1):=fun n os=>cell_grown (by simp) (by rw [cell_new];rfl) n os
    have hnew1:∀ n os,(grow ((wr.alloc (.cells #[.int .i64 u1,.int .i64 u2] 33)).drewN n) os).cell? ⟨wr.heap.size,1,none⟩=some (.int .i64 u2):=fun n os=>cell_grown (by simp) (by rw [cell_new];rfl) n os
    have gi0:∀ n os,(grow ((wr.alloc (.cells #[.int .i64 u1,.int .i64 u2] 33)).drewN n) os).cell? ⟨blk,off+i * 2,none⟩=some (.int .i64 o1):=fun n os=>cell_g ci0 n os
    have gf0:∀ n os,(grow ((wr.alloc (.cells #[.int .i64 u1,.int .i64 u2] 33)).drewN n) os).frozen? ⟨blk,off+i * 2,none⟩=false:=fun n os=>frz_g hblk' fi0 n os
    have gi1:∀ n os v,((grow ((wr.alloc (.cells #[.int .i64 u1,.int .i64 u2] 33)).drewN n) os).setCell ⟨blk,off+i * 2,none⟩ v).cell? ⟨blk,off+i * 2+1,none⟩=some (.int .i64 o2):=fun n os v=>by rw [World.cell?_setCell_other _ _ _ _ (by intro h;injection h;omega)];exact cell_g ci1 n os
    have gf1:∀ n os v,((grow ((wr.alloc (.cells #[.int .i64 u1,.int .i64 u2] 33)).drewN n) os).setCell ⟨blk,off+i * 2,none⟩ v).frozen? ⟨blk,off+i * 2+1,none⟩=false:=fun n os v=>by rw [World.frozen?_setCell];exact frz_g hblk' fi1 n os
    cases hq:p (u1,u2) with
    | false =>
     rw [hq] at hcall
     go_wp2_with (go_at_call 181;refine (hcall _).mono ?_;rintro e w' ⟨rfl,qq,oss,rfl⟩)
     go_roundg (d.size - (j+1))
     case measure=>omega
     case rel =>
      refine ⟨i+1,j+1,dk.setIfInBounds i (u1,u2),by go_num,by go_num,by omega,Nat.le_refl _,(show Aside _ from ?_),(show Aside _ from ?_)⟩
      ·exact swk_set ((W2.out.alloc _).grown qq oss) HR.out.hk HR.out.hblk i (u1,u2) (by omega)
      ·have:=I2.out.keep hlt (by rw [HK.out];show (!p d[j]!)=true;rw [C.out,hq];rfl)
       rwa [C.out] at this
    | true =>
     rw [hq] at hcall
     go_wp2_with (go_at_call 181;refine (hcall _).mono ?_;rintro e w' ⟨rfl,qq,oss,rfl⟩)
     go_roundg (d.size - (j+1))
     case measure=>omega
     case rel=>exact ⟨i,j+1,dk,rfl,by go_num,by omega,Nat.le_refl _,(W2.out.alloc _).grown qq oss,I2.out.skip (by rw [HK.out];show (!p d[j]!)=false;rw [C.out,hq];rfl)⟩
   ·obtain rfl:j=d.size:=by omega
    have hltz:¬ (d.size:Int)<(d.size:Int):=by omega
    have hHold:HoldsK encD 2 wr blk off dk:=W2.out.holds hblk HR.out.hH hds
    have hcel:∀ t,t<(d.size - i) * 2→wr.cell? ⟨blk,off+i * 2+t,none⟩=some (flatK encD 2 dk)[i * 2+t]!∧wr.frozen? ⟨blk,off+i * 2+t,none⟩=false:=fun t ht=>by
     rw [Nat.add_assoc];exact hHold (i * 2+t) (by rw [size_flatK];omega)
    have hcl:∀ ty,(Builtin.clear_ #[26] ty #[.slice (some ⟨blk,off+i * 2,none⟩) (d.size - i) (cap - i)]).run Tryz.prog wr = .ok (.tuple #[]) (wr.setCells blk (off+i * 2) ((List.replicate (d.size - i) (0,0)).flatMap encD)):=by
     intro ty
     rw [zeros2]
     exact run_clear2 wr 26 33 ty (by rfl) (fun w=>by rfl) blk (off+i * 2) (d.size - i) (cap - i) (by omega) (fun t ht=>by rw [(hcel t ht).1];rfl) (fun t ht=>(hcel t ht).2)
    clear hHold hcel
    go_wp2
    go_ret
    have hI:=I2.out
    refine ⟨by rw [hI.len];rfl,?_⟩
    rw [hI.len,← hI.done (0,0)]
    exact swk_lay HR.out.hk HR.out.hblk _ i dk wr W2.out (by simp;omega)
end Go.Proofs.YtggcagclpkhlhaaGreatDoor
end
noncomputable section
/- slices.DeleteFunc at dots: its contract. -/
namespace Go.Proofs.YtggcagclpkhlhaaGreatDoor.Pal
open Go Go.Sort
theorem swk_raw {G:Gh} {w w':World} {e:Ty} {gb len cap:Nat} {xs ys:List e.D} {X:Nat→Nat→Prop} (hp:plainT e=true) (hraw:RawB G.I w gb e xs (cap * e.cells)) (hcap:len≤cap∧cap≤9223372036854775807) (hI:∀ o,G.I gb o=none) (hO:∀ o,G.O gb o=none) (hW:Wf G w) (hX:∀ o,X gb o)
  {dk:Array e.D} (hs:dk.size=len) (hpre:∀ (j:Nat) (x:e.D),ys[j]? = some x→dk[j]? = some x) (h:SWK (encT e) e.cells w gb 0 xs.toArray w∧SWK (encT e) e.cells w gb 0 dk w') :
  Ev X G w G w'∧Wf G w'∧RawRep G w' e ys [.slice (some ⟨gb,0,none⟩) ys.length cap] [gb]:=by
 obtain ⟨_,n,os,rfl⟩:=h
 obtain ⟨cells,ty,cc,hgc,hcs,hA2,hcc⟩:=hraw
 obtain ⟨k1,k2,k3⟩:=heap_put (F:=flatK (encT e) e.cells dk) hgc n os
 have hyl:ys.length≤len:=by
  rcases Nat.lt_or_ge len ys.length with h | h
  ·have:=hpre len _ (List.getElem?_eq_getElem h)
   have:=(Array.getElem?_eq_some_iff.1 this).1
   omega
  ·exact h
 have hE:Evo X w (sortWorldK (encT e) e.cells w gb 0 n dk os):=by
  refine ⟨rfl,rfl,rfl,k3,fun b hb=>?_,fun _=>Nat.le_add_right _ _⟩
  by_cases hb':b=gb
  ·subst hb'
   exact .inr (.inl ⟨cells,_,ty,(0,0),hgc,k1,by simp [putCells],fun j hj=>absurd (hX j) hj⟩)
  ·exact .inl (k2 b hb hb')
 refine ⟨⟨hE,Im.le_refl _,fun _ _ _ h=>.inl h,fun _ _ _=>rfl⟩,⟨fun b o v hv=>?_,hW.io,fun b o k h=>Nat.lt_of_lt_of_le (hW.lt b o k h) hE.size⟩,?_⟩
 ·have hb':b ≠ gb:=fun e=>by subst e;rw [hI o] at hv;cases hv
  have hh:=hW.holds b o v hv
  have hlt':=World.block_lt_of_cell? w _ hh
  have:(sortWorldK (encT e) e.cells w gb 0 n dk os).cell? ⟨b,o,none⟩=w.cell? ⟨b,o,none⟩:=World.cell?_of_block (w:=w) (k2 b hlt' hb')
  rw [this];exact hh
 ·refine ⟨_,ys.length,cap,rfl,rfl,by omega,.inr ⟨gb,rfl,rfl,⟨_,ty,_,k1,by simp [putCells,hcs],(all2_flat hp _ _).2 rfl,fun j v hj=>?_⟩,hI,hO⟩⟩
  have hjl:j<ys.length * e.cells:=by
   have:=(List.getElem?_eq_some_iff.1 hj).1
   rwa [flatMap_len hp] at this
  obtain ⟨x,q1,q2⟩:=flatMap_get hp _ j hjl
  rw [q2] at hj
  have hjd:j<dk.size * e.cells:=by rw [hs];exact Nat.lt_of_lt_of_le hjl (Nat.mul_le_mul_right _ hyl)
  have hjc:j<cells.size:=by
   rw [hcs]
   exact Nat.lt_of_lt_of_le hjd (Nat.mul_le_mul_right _ (by omega))
  have hx:dk[j / e.cells]! = x:=by
   have:=hpre _ _ q1
   rw [Array.getElem!_eq_getD,Array.getD_eq_getD_getElem?,this];rfl
  have hm:=(List.getElem?_eq_some_iff.1 hj)
  simp only [putCells,Array.getElem?_mapIdx,Array.getElem?_eq_getElem hjc,Option.map_some,size_flatK,Nat.zero_add,Nat.sub_zero]
  rw [if_pos ⟨Nat.zero_le _,hjd⟩,get_flatK _ _ _ _ hjd,hx,getElem!_pos (encT e x) (j % e.cells) hm.1]
  exact congrArg some hm.2

abbrev dotT:Ty:=.pair (.int .i64) (.int .i64)
theorem del_ok {ce : Entry} {keep : Int × Int → Bool} (hg : @CallOK (.just True) Tryz.prog 181 ce) (hcf : ∀ x : dotT.D, ce.val [.dat dotT x] [] = some (.dat .bool (!keep x), [])) : CallOK Tryz.prog 180 (delE dotT 181 keep) := by
  have e61 : ∀ args w, (callFunc 180 args).run Tryz.prog w = .ok (.enter 180 args) w := enters_of Tryz.func180 (by kernel_rfl) rfl
  have e63 : ∀ args w, (callFunc 181 args).run Tryz.prog w = .ok (.enter 181 args) w := enters_of Tryz.func181 (by kernel_rfl) rfl
  have val : ∀ args objs v os, (delE dotT 181 keep).val args objs = some (v, os) → ∃ xs : List dotT.D, args = [.raw dotT xs, .fn 181 []] ∧ objs = [] ∧ xs.length ≤ 4294967296 ∧ v = .raw dotT (kept keep xs) ∧ os = [] := by
    intro args objs v os h
    unfold Entry.val delE at h
    simp only at h
    split at h
    · rename_i e' xs g'
      split at h
      · rename_i he; subst he
        obtain ⟨hb, h⟩ := cond_then h
        obtain ⟨hr, h⟩ := br_then h
        injection h with h; injection h with h1 h2
        have := beq_nat.1 hb
        subst this
        exact ⟨xs, rfl, rfl, by have := hr; simp only [room, List.length_nil, Nat.zero_add, decide_eq_true_eq] at this; exact this, h1.symm, h2.symm⟩
      · cases h
    · cases h
  refine ⟨fun α args objs K => ?_, fun args objs vr os hval X G w argv tA tM hW hTab hX hA hM hcnt htok => ?_⟩
  · unfold Entry.val delE
    simp only
    split
    · split
      · rw [cond_bind]; congr 1
        rw [br_bind]; rfl
      · rfl
    · rfl
  · obtain ⟨xs, rfl, rfl, hlen, rfl, rfl⟩ := val _ _ _ _ hval
    obtain ⟨x0, r0, t1, t2, rfl, rfl, ⟨cs, ⟨ad, len, cap, e1, e2, e3, e4⟩, hx⟩, x1, r1, t3, t4, rfl, rfl, ⟨cs1, ⟨cv, f1, f2, f3⟩, hx1⟩, rfl, rfl⟩ := hA
    simp only [V.agg, Bool.false_eq_true, if_false] at hx hx1
    rw [e1] at hx; rw [f1] at hx1
    simp only [List.cons.injEq, and_true] at hx hx1
    subst hx; subst hx1; subst f3
    have hcv : cv = #[] := by apply Array.ext'; simpa [capsRep] using f2
    subst hcv
    obtain ⟨hM1, hM2⟩ : tM = [] ∧ True := ⟨hM, trivial⟩
    have post : ∀ w' len', Ev X G w G w' → Wf G w' → RawRep G w' dotT (kept keep xs) [.slice ad len' cap] t1 →
        ∃ G', Post X G w 0 (.raw dotT (kept keep xs)) [] (.slice ad len' cap) (some (.slice ad len cap)) G' w' := by
      intro w' len' hE hc hr
      refine ⟨G, hE, hc, fun _ _ => rfl, t1, [], [], ⟨_, hr, rfl⟩, rfl, rfl, fun q => ?_, fun q hq => ?_⟩
      · have := hcnt q; simp at this ⊢; omega
      · exact .inr (htok q (by simp at hq ⊢; omega))
    refine .inl ⟨e61 _ _, ?_⟩
    rcases Nat.eq_zero_or_pos len with h0 | h0
    · have hxs : xs = [] := List.eq_nil_of_length_eq_zero (by omega)
      subst hxs; subst h0
      refine Calls.mono (del_none ad cap w) fun e' w' hh => ?_
      obtain ⟨rfl, rfl⟩ := hh
      exact post w' 0 (Ev.refl _ _ _) hW ⟨ad, 0, cap, rfl, rfl, e3, e4⟩
    · rcases e4 with ⟨hc0, _⟩ | ⟨gb, rfl, rfl, hraw, hI, hO'⟩
      · omega
      · obtain ⟨hH, hlt⟩ := holds_raw (e := dotT) rfl hraw
        have hsz : xs.toArray.size = len := by simpa using e2
        have hcl : ∀ (W : World) (x : Int × Int), Calls Tryz.prog 181 #[.agg (encD x).toArray] W fun e w' => e = .returned (.bool (!keep x)) ∧ ∃ q os, w' = grow (W.drewN q) os := by
          intro W x
          refine Calls.mono (plain_call (w := W) (argv := [.agg (encT dotT x).toArray]) hg e63 (hcf x) (fun G => ⟨_, _, [], [], rfl, rfl, run_dat dotT rfl rfl _ _ x, rfl, rfl⟩)) fun e' w' hh => ?_
          obtain ⟨⟨G', y, t, h1, h2⟩, h3⟩ := hh
          exact ⟨by rw [h1, h2.dat_bool], h3⟩
        have hIF := idx_walk (fun x => !keep x) gb 0 cap xs.toArray w hH hlt (by rw [hsz]; omega) hcl
        have hcon := del_walk (fun x => !keep x) gb 0 cap xs.toArray w hH hlt (by rw [hsz]; omega) (by rw [hsz]; exact e3.1) hcl hIF
        rw [hsz] at hcon
        have hk : (xs.toArray.toList.filter fun x => !(!keep x)) = kept keep xs := by simp [kept]
        rw [hk] at hcon
        refine Calls.mono hcon fun e' w' hh => ?_
        obtain ⟨rfl, hsw⟩ := hh
        have hkl : (kept keep xs).length ≤ len := by rw [← e2]; exact List.length_filter_le _ _
        have hone : cnt gb [gb] = 1 := by simp [cnt]
        have hX1 : ∀ o, X gb o := htok gb (by simp only [cnt_append]; omega)
        obtain ⟨q1, q2, q3⟩ := swk_raw (X := X) (e := dotT) (ys := kept keep xs) rfl hraw e3 hI hO' hW hX1 (by simp; omega) (fun j x hj => by
          rw [List.getElem?_toArray, List.getElem?_append_left (List.getElem?_eq_some_iff.1 hj).1]; exact hj) ⟨SWK.start hH, hsw⟩
        exact post w' _ q1 q2 q3
end Go.Proofs.YtggcagclpkhlhaaGreatDoor.Pal
end
noncomputable section
/- What slices.DeleteFunc does, at dots. -/
namespace Go.Proofs.YtggcagclpkhlhaaGreatDoor
open Pal Go Go.Sort
theorem delDot_ok:CallOK Tryz.prog 180 (delE tDot 181 dotKeep):=by
 refine del_ok (ce:=z1T.e 10) (@z1T.ok (.just True) 10) ?_
 intro x
 show bnd (z1T.f 10 x) _=_
 rw [z1T.f_eq,right_is];rfl
end Go.Proofs.YtggcagclpkhlhaaGreatDoor
end
noncomputable section
/- Where strings.Builder's WriteByte and String and what they call lie in this program. -/
namespace Go.Proofs.YtggcagclpkhlhaaGreatDoor
open Go.Proofs
open Go.Shelf
def bld_ren:Go.Shelf.Ren:=⟨fun | 167=>142 | 169=>143 | 240=>193 | 276=>237 | _=>0,fun | 0=>0 | 3=>3 | 4=>4 | 5=>5 | 9=>9 | 20=>20 | 37=>119 | 70=>157 | 72=>159 | 75=>161 | 80=>164 | 127=>199 | 164=>229 | _=>0,fun _=>0⟩
theorem laysWB:Go.Proofs.Lays.n167 Tryz.prog bld_ren:={
 mixed:=by kernel_rfl
 f167:=Tryz.func142.trans (congrArg some (by kernel_rfl))
 f240:=Tryz.func193.trans (congrArg some (by kernel_rfl))
 f276:=Tryz.func237.trans (congrArg some (by kernel_rfl))
 t0:=Tryz.underlying0
 a0:=Tryz.isAgg0
 z0:=Tryz.sizeOf0
 v0:=Tryz.zeroValue0
 t4:=Tryz.underlying4
 a4:=Tryz.isAgg4
 z4:=Tryz.sizeOf4
 v4:=Tryz.zeroValue4
 t5:=Tryz.underlying5
 a5:=Tryz.isAgg5
 z5:=Tryz.sizeOf5
 v5:=Tryz.zeroValue5
 t9:=Tryz.underlying9
 a9:=Tryz.isAgg9
 z9:=Tryz.sizeOf9
 v9:=Tryz.zeroValue9
 t20:=Tryz.underlying20
 a20:=Tryz.isAgg20
 z20:=Tryz.sizeOf20
 v20:=Tryz.zeroValue20
 t37:=Tryz.underlying119
 a37:=Tryz.isAgg119
 z37:=Tryz.sizeOf119
 v37:=Tryz.zeroValue119
 t70:=Tryz.underlying157
 a70:=Tryz.isAgg157
 z70:=Tryz.sizeOf157
 v70:=Tryz.zeroValue157
 t72:=Tryz.underlying159
 a72:=Tryz.isAgg159
 z72:=Tryz.sizeOf159
 v72:=Tryz.zeroValue159
 t75:=Tryz.underlying161
 a75:=Tryz.isAgg161
 z75:=Tryz.sizeOf161
 v75:=Tryz.zeroValue161
 t164:=Tryz.underlying229
 a164:=Tryz.isAgg229
 z164:=Tryz.sizeOf229
 v164:=Tryz.zeroValue229 }
theorem laysBS:Go.Proofs.Lays.n169 Tryz.prog bld_ren:={
 mixed:=by kernel_rfl
 f169:=Tryz.func143.trans (congrArg some (by kernel_rfl))
 t0:=Tryz.underlying0
 a0:=Tryz.isAgg0
 z0:=Tryz.sizeOf0
 v0:=Tryz.zeroValue0
 t3:=Tryz.underlying3
 a3:=Tryz.isAgg3
 z3:=Tryz.sizeOf3
 v3:=Tryz.zeroValue3
 t9:=Tryz.underlying9
 a9:=Tryz.isAgg9
 z9:=Tryz.sizeOf9
 v9:=Tryz.zeroValue9
 t37:=Tryz.underlying119
 a37:=Tryz.isAgg119
 z37:=Tryz.sizeOf119
 v37:=Tryz.zeroValue119
 t70:=Tryz.underlying157
 a70:=Tryz.isAgg157
 z70:=Tryz.sizeOf157
 v70:=Tryz.zeroValue157
 t72:=Tryz.underlying159
 a72:=Tryz.isAgg159
 z72:=Tryz.sizeOf159
 v72:=Tryz.zeroValue159
 t127:=Tryz.underlying199
 a127:=Tryz.isAgg199
 z127:=Tryz.sizeOf199
 v127:=Tryz.zeroValue199 }
theorem bldX:Go.Proofs.Builder.Extra Tryz.prog bld_ren:={
 sizeBuilder:=by kernel_rfl
 liesBuilder:=by kernel_rfl
 t5:=Tryz.underlying5
 a5:=Tryz.isAgg5
 z5:=Tryz.sizeOf5
 v5:=Tryz.zeroValue5
 infoByte:=by kernel_rfl
 cellsByte:=by kernel_rfl
 sizeByte:=by kernel_rfl
 neB5:=by decide }
end Go.Proofs.YtggcagclpkhlhaaGreatDoor
end
noncomputable section
/- A number's bytes. -/
namespace Go.Proofs.YtggcagclpkhlhaaGreatDoor
def packB (n:Nat):List UInt8:=if _h:n<128 then [UInt8.ofNat n] else UInt8.ofNat (n % 128+128)::packB (n / 128)
termination_by n
decreasing_by omega
def packI (n:Int):Option (List UInt8):=@ite _ (n<72057594037927936) (Classical.propDecidable _) (some (packB n.toNat)) none
theorem packI_is {n:Int} (h:n<72057594037927936):packI n=some (packB n.toNat):=if_pos h
theorem packB_lo {n:Nat} (h:n<128):packB n=[UInt8.ofNat n]:=by rw [packB,dif_pos h]
theorem packB_hi {n:Nat} (h:¬ n<128):packB n=UInt8.ofNat (n % 128+128)::packB (n / 128):=by rw [packB,dif_neg h]
theorem packB_pos (n:Nat):0<(packB n).length:=by
 by_cases h:n<128
 ·rw [packB_lo h];simp
 ·rw [packB_hi h];simp
theorem packB_len:∀ (j n:Nat),n<2 ^ (7 * (j+1))→(packB n).length≤j+1
 | 0,n,h=>by
  have h:n<128:=h
  rw [packB_lo h];simp
 | j+1,n,h=>by
  by_cases h1:n<128
  ·rw [packB_lo h1];simp
  ·have e2:2 ^ (7 * (j+1+1))=2 ^ (7 * (j+1)) * 128:=by rw [show 7 * (j+1+1)=7 * (j+1)+7 by omega,Nat.pow_add]
   rw [packB_hi h1,List.length_cons]
   have:=packB_len j (n / 128) (by rw [e2] at h;omega)
   omega
end Go.Proofs.YtggcagclpkhlhaaGreatDoor
end
noncomputable section
/- A function by hand: of a number, that tells a text, and turns nothing that was there. -/
namespace Go.Proofs.YtggcagclpkhlhaaGreatDoor.Pal
open Go
variable {P:Program}
theorem pureIS_ok [MonoC] (hoff:¬ MonoC.on) {f:Nat} {k:IntKind} {F:Int→Option (List UInt8)} (he:∀ args w,(callFunc f args).run P w = .ok (.enter f args) w)
  (h:∀ (n:Int) (r:List UInt8),F n=some r→∀ w:World,Calls P f #[.int k n] w fun e w'=>e = .returned (.string ⟨r.toArray⟩)∧RowKit.Below w.heap.size w w') :
  CallOK P f (Sg.entry ⟨[.dat (.int k)],[],.dat .str,[]⟩ F):=by
 refine ⟨fun α args objs K=>entry_nat α args objs K,fun args objs vr os hval X G w argv tA tM hW hTab hX hA hM hcnt htok=>?_⟩
 obtain ⟨ds,x,r,h1,h2,h3,rfl,rfl⟩:=entry_val hval
 obtain ⟨hl1,hl2⟩:=pull_length _ _ _ _ h1
 obtain ⟨hs1,hs2⟩:=(dec_asL _ _ _ h2).split hl1
 have hA2:=lay_rep _ _ _ _ _ _ _ h1 hs1 hA
 have hobj:objs=[]:=List.eq_nil_of_length_eq_zero hs2.lengths.1
 subst hobj
 obtain ⟨x0,xs0,t1,t2,rfl,ht12,hT0,rfl,rfl⟩:=hA2
 have hx0:x0 = .int k x:=by
  obtain ⟨cs,⟨c1,c2⟩,c3⟩:=hT0
  have c1':cs=[.int k x]:=c1
  have c3':cs=[x0]:=c3
  rw [c1'] at c3'
  injection c3' with c3';exact c3'.symm
 subst hx0
 refine .inl ⟨he _ _,Calls.mono (h x r h3 w) fun e w' hh=>?_⟩
 obtain ⟨rfl,hb⟩:=hh
 have hE:Ev X G w G w':=⟨⟨hb.os,hb.tape,hb.output,hb.size,fun b hb'=>.inl (hb.block b hb'),fun h=>absurd h hoff⟩,Im.le_refl _,fun _ _ _ h=>.inl h,fun _ _ _=>rfl⟩
 have hcell:∀ b o,b<w.heap.size→w'.cell? ⟨b,o,none⟩=w.cell? ⟨b,o,none⟩:=fun b o hlt=>World.cell?_of_block (w:=w) (hb.block b hlt)
 refine ⟨G,hE,⟨fun b o v hv=>?_,hW.io,fun b o k hk=>Nat.lt_of_lt_of_le (hW.lt b o k hk) hb.size⟩,fun _ _=>rfl,[],[],[],?_,rfl,rfl,fun g=>by simp,fun g hg=>by simp at hg⟩
 ·have hh:=hW.holds b o v hv
  rw [hcell b o (World.block_lt_of_cell? w _ hh)];exact hh
 ·exact ⟨[.string ⟨r.toArray⟩],⟨rfl,rfl⟩,rfl⟩
theorem pureS3_ok [MonoC] (hoff:¬ MonoC.on) {f:Nat} {k1 k2:IntKind} {F:List UInt8 × Int × Int→Option (List UInt8)} (he:∀ args w,(callFunc f args).run P w = .ok (.enter f args) w)
  (h:∀ (s:List UInt8) (n m:Int) (r:List UInt8),F (s,n,m)=some r→∀ w:World,Calls P f #[.string ⟨s.toArray⟩,.int k1 n,.int k2 m] w fun e w'=>e = .returned (.string ⟨r.toArray⟩)∧RowKit.Below w.heap.size w w') :
  CallOK P f (Sg.entry ⟨[.dat .str,.dat (.int k1),.dat (.int k2)],[],.dat .str,[]⟩ F):=by
 refine ⟨fun α args objs K=>entry_nat α args objs K,fun args objs vr os hval X G w argv tA tM hW hTab hX hA hM hcnt htok=>?_⟩
 obtain ⟨ds,x,r,h1,h2,h3,rfl,rfl⟩:=entry_val hval
 obtain ⟨hl1,hl2⟩:=pull_length _ _ _ _ h1
 obtain ⟨hs1,hs2⟩:=(dec_asL _ _ _ h2).split hl1
 have hA2:=lay_rep _ _ _ _ _ _ _ h1 hs1 hA
 have hobj:objs=[]:=List.eq_nil_of_length_eq_zero hs2.lengths.1
 subst hobj
 obtain ⟨x,n,m⟩:=x
 obtain ⟨x0,xs0,t1,t2,rfl,ht12,hT0,x1,xs1,t3,t4,rfl,ht34,hT1,x2,xs2,t5,t6,rfl,ht56,hT2,rfl,rfl⟩:=hA2
 have hx0:x0 = .string ⟨(show List UInt8 from x).toArray⟩:=by
  obtain ⟨cs,⟨c1,c2⟩,c3⟩:=hT0
  have c1':cs=[.string ⟨(show List UInt8 from x).toArray⟩]:=c1
  have c3':cs=[x0]:=c3
  rw [c1'] at c3'
  injection c3' with c3';exact c3'.symm
 subst hx0
 have hx1:x1 = .int k1 n:=by
  obtain ⟨cs,⟨c1,c2⟩,c3⟩:=hT1
  have c1':cs=[.int k1 n]:=c1
  have c3':cs=[x1]:=c3
  rw [c1'] at c3'
  injection c3' with c3';exact c3'.symm
 subst hx1
 have hx2:x2 = .int k2 m:=by
  obtain ⟨cs,⟨c1,c2⟩,c3⟩:=hT2
  have c1':cs=[.int k2 m]:=c1
  have c3':cs=[x2]:=c3
  rw [c1'] at c3'
  injection c3' with c3';exact c3'.symm
 subst hx2
 refine .inl ⟨he _ _,Calls.mono (h x n m r h3 w) fun e w' hh=>?_⟩
 obtain ⟨rfl,hb⟩:=hh
 have hE:Ev X G w G w':=⟨⟨hb.os,hb.tape,hb.output,hb.size,fun b hb'=>.inl (hb.block b hb'),fun h=>absurd h hoff⟩,Im.le_refl _,fun _ _ _ h=>.inl h,fun _ _ _=>rfl⟩
 have hcell:∀ b o,b<w.heap.size→w'.cell? ⟨b,o,none⟩=w.cell? ⟨b,o,none⟩:=fun b o hlt=>World.cell?_of_block (w:=w) (hb.block b hlt)
 refine ⟨G,hE,⟨fun b o v hv=>?_,hW.io,fun b o k hk=>Nat.lt_of_lt_of_le (hW.lt b o k hk) hb.size⟩,fun _ _=>rfl,[],[],[],?_,rfl,rfl,fun g=>by simp,fun g hg=>by simp at hg⟩
 ·have hh:=hW.holds b o v hv
  rw [hcell b o (World.block_lt_of_cell? w _ hh)];exact hh
 ·exact ⟨[.string ⟨r.toArray⟩],⟨rfl,rfl⟩,rfl⟩
theorem pureSL_ok [MonoC] (hoff:¬ MonoC.on) {f T:Nat} {k:IntKind} {TW:World→Prop} {F:List UInt8→Option (List Int × Bool)} (he:∀ args w,(callFunc f args).run P w = .ok (.enter f args) w)
  (ht:∀ (G:Gh) (w:World),Wf G w→MonoC.tab G.I→TW w)
  (h:∀ (s:List UInt8) (r:List Int × Bool),F s=some r→∀ w:World,TW w→Calls P f #[.string ⟨s.toArray⟩] w fun e w'=>∃ v,e = .returned (.tuple #[v,.bool r.2])∧w'.ownsRow w.heap.size T 1 v r.1.length (r.1.map (Value.int k))∧RowKit.Below w.heap.size w w') :
  CallOK P f (Sg.entry ⟨[.dat .str],[],.t2 (.dat (.slc (.int k))) (.dat .bool),[]⟩ F):=by
 refine ⟨fun α args objs K=>entry_nat α args objs K,fun args objs vr os hval X G w argv tA tM hW hTab hX hA hM hcnt htok=>?_⟩
 obtain ⟨ds,x,r,h1,h2,h3,rfl,rfl⟩:=entry_val hval
 obtain ⟨hl1,hl2⟩:=pull_length _ _ _ _ h1
 obtain ⟨hs1,hs2⟩:=(dec_asL _ _ _ h2).split hl1
 have hA2:=lay_rep _ _ _ _ _ _ _ h1 hs1 hA
 have hobj:objs=[]:=List.eq_nil_of_length_eq_zero hs2.lengths.1
 subst hobj
 obtain ⟨x0,xs0,t1,t2,rfl,ht12,hT0,rfl,rfl⟩:=hA2
 have hx0:x0 = .string ⟨(show List UInt8 from x).toArray⟩:=by
  obtain ⟨cs,⟨c1,c2⟩,c3⟩:=hT0
  have c1':cs=[.string ⟨(show List UInt8 from x).toArray⟩]:=c1
  have c3':cs=[x0]:=c3
  rw [c1'] at c3'
  injection c3' with c3';exact c3'.symm
 subst hx0
 refine .inl ⟨he _ _,Calls.mono (h x r h3 w (ht G w hW hTab)) fun e w' hh=>?_⟩
 obtain ⟨v,rfl,hown,hb⟩:=hh
 have hevo:Evo X w w':=⟨hb.os,hb.tape,hb.output,hb.size,fun b hb'=>.inl (hb.block b hb'),fun h=>absurd h hoff⟩
 have hcell:∀ b o,b<w.heap.size→w'.cell? ⟨b,o,none⟩=w.cell? ⟨b,o,none⟩:=fun b o hlt=>World.cell?_of_block (w:=w) (hb.block b hlt)
 have hlow:∀ b o u,G.I b o=some u→b<w.heap.size:=fun b o u hu=>World.block_lt_of_cell? w _ (hW.holds b o u hu)
 have hold:∀ b o u,G.I b o=some u→w'.cell? ⟨b,o,none⟩=some u:=fun b o u hu=>by rw [hcell b o (hlow b o u hu)];exact hW.holds b o u hu
 rcases hown.2 with ⟨rfl,h0⟩ | ⟨g,cap,cur,rfl,hg,hgc,hn,hcm,hcs,htk⟩
 ·have e0:(show List Int from r.1)=[]:=List.eq_nil_of_length_eq_zero h0
  refine ⟨G,⟨hevo,Im.le_refl _,fun _ _ _ h=>.inl h,fun _ _ _=>rfl⟩,⟨hold,hW.io,fun b o k hk=>Nat.lt_of_lt_of_le (hW.lt b o k hk) hb.size⟩,fun _ _=>rfl,[],[],[],?_,rfl,rfl,fun g=>by simp,fun g hg=>by simp at hg⟩
  exact ⟨[.tuple #[.slice none 0 0,.bool r.2]],⟨.slice none 0 0,.bool r.2,[.slice none 0 0],[.bool r.2],[],[],rfl,rfl,⟨⟨none,0,0,rfl,h0,Nat.le_refl _,.inl e0⟩,rfl⟩,⟨rfl,rfl⟩,⟨rfl,rfl⟩,⟨rfl,rfl⟩⟩,rfl⟩
 ·have hcg:∀ o u,((show List Int from r.1).map (Value.int k))[o]? = some u→w'.cell? ⟨g,o,none⟩=some u:=fun o u hu=>by
   have:=hown.cells (g:=g) rfl o u hu
   rw [Addr.add_lit,Nat.zero_add] at this;exact this
  let G':Gh:={ G with I:=fun b o=>if b=g then ((show List Int from r.1).map (Value.int k))[o]? else G.I b o }
  have hne:∀ b o u,G.I b o=some u→b ≠ g:=fun b o u hu e=>by have:=hlow b o u hu;omega
  have hle:Im.le G.I G'.I:=fun b o u hu=>by
   show (if b=g then _ else G.I b o)=some u
   rw [if_neg (hne b o u hu)];exact hu
  refine ⟨G',⟨hevo,hle,fun b o u hu=>?_,fun _ _ _=>rfl⟩,⟨fun b o u hu=>?_,fun b o u hu=>?_,fun b o k hk=>Nat.lt_of_lt_of_le (hW.lt b o k hk) hb.size⟩,fun _ _=>rfl,[],[],[],?_,rfl,rfl,fun g=>by simp,fun g hg=>by simp at hg⟩
  ·by_cases hbg:b=g
   ·exact .inr (.inl (by omega))
   ·have hu:(if b=g then _ else G.I b o)=some u:=hu
    rw [if_neg hbg] at hu;exact .inl hu
  ·have hu:(if b=g then ((show List Int from r.1).map (Value.int k))[o]? else G.I b o)=some u:=hu
   by_cases hbg:b=g
   ·rw [if_pos hbg] at hu;rw [hbg];exact hcg o u hu
   ·rw [if_neg hbg] at hu;exact hold b o u hu
  ·have hu:(if b=g then ((show List Int from r.1).map (Value.int k))[o]? else G.I b o)=some u:=hu
   show G.O b o=none
   by_cases hbg:b=g
   ·cases hO:G.O b o with
    | none=>rfl
    | some q=>have:=hW.lt b o q hO;omega
   ·rw [if_neg hbg] at hu;exact hW.io b o u hu
  ·refine ⟨[.tuple #[.slice (some ⟨g,0,none⟩) (show List Int from r.1).length cap,.bool r.2]],⟨.slice (some ⟨g,0,none⟩) (show List Int from r.1).length cap,.bool r.2,[.slice (some ⟨g,0,none⟩) (show List Int from r.1).length cap],[.bool r.2],[],[],rfl,rfl,⟨⟨some ⟨g,0,none⟩,_,cap,rfl,rfl,hn,.inr ⟨g,0,rfl,?_⟩⟩,rfl⟩,⟨rfl,rfl⟩,⟨rfl,rfl⟩,⟨rfl,rfl⟩⟩,rfl⟩
   intro i x hx
   refine ⟨[.int k x],rfl,?_⟩
   intro j u hj
   have hj0:j=0∧u = .int k x:=by
    match j,hj with
    | 0,hj=>exact ⟨rfl,by simpa using hj.symm⟩
    | j+1,hj=>simp at hj
   obtain ⟨rfl,rfl⟩:=hj0
   show (if g=g then ((show List Int from r.1).map (Value.int k))[0+i * 1+0]? else _)=_
   rw [if_pos rfl,List.getElem?_map,Nat.zero_add,Nat.mul_one,Nat.add_zero]
   have hx':(show List Int from r.1)[i]? = some x:=hx
   rw [hx'];rfl
end Go.Proofs.YtggcagclpkhlhaaGreatDoor.Pal
end
noncomputable section
/- pack.Int: what it does on the machine. -/
namespace Go.Proofs.YtggcagclpkhlhaaGreatDoor
open Go Go.RowKit
theorem wb_is (B b:Nat) (bs:List Value) (c:Int) (w:World) (h:Lib.IsBuilder 159 5 B b bs w) (hlen:bs.length+1≤140737488355328) (hBw:B≤w.heap.size) :
  Calls Tryz.prog 142 #[.pointer (some ⟨b,0,none⟩),.int .u8 c] w fun e w'=>e = .returned .nilIface∧(Lib.BuilderAt 159 5 B b (.pointer (some ⟨b,0,none⟩)) (bs++[.int .u8 c]) w'∧Below B w w') :=
 Any.Builder_WriteByte laysWB bldX B b bs c w h hlen hBw
theorem bstr_is (B b:Nat) (l:List UInt8) (w:World) (h:Lib.IsBuilder 159 5 B b (Lib.byteCells l) w) (h0:l ≠ []) :
  Calls Tryz.prog 143 #[.pointer (some ⟨b,0,none⟩)] w fun e w'=>e = .returned (.string ⟨l.toArray⟩)∧Below B w w' :=
 Any.Builder_String laysBS bldX B b l w h h0
theorem and127 {c:Nat} (h:c<9000000000000000000):bits .and .i64 (c:Int) 127=((c % 128:Nat):Int):=by
 show IntKind.wrap .i64 (((BitVec.ofInt 64 (c:Int) &&& BitVec.ofInt 64 127).toNat:Nat):Int)=_
 have e:(BitVec.ofInt 64 (c:Int) &&& BitVec.ofInt 64 127).toNat=c % 128:=by
  have e1:BitVec.ofInt 64 (c:Int)=BitVec.ofNat 64 c:=by simp
  have e2:BitVec.ofInt 64 127=BitVec.ofNat 64 127:=by decide
  rw [e1,e2,BitVec.toNat_and,BitVec.toNat_ofNat,BitVec.toNat_ofNat,Nat.mod_eq_of_lt (show c<2 ^ 64 by omega),show 127 % 2 ^ 64=2 ^ 7 - 1 by decide,Nat.and_two_pow_sub_one_eq_mod]
 rw [e]
 rw [IntKind.wrap_i64];omega
theorem or128 {a:Nat} (ha:a<128):bits .or .i64 (a:Int) 128=((a+128:Nat):Int):=by
 show IntKind.wrap .i64 (((BitVec.ofInt 64 (a:Int) ||| BitVec.ofInt 64 128).toNat:Nat):Int)=_
 have e:(BitVec.ofInt 64 (a:Int) ||| BitVec.ofInt 64 128).toNat=a+128:=by
  have e1:BitVec.ofInt 64 (a:Int)=BitVec.ofNat 64 a:=by simp
  have e2:BitVec.ofInt 64 128=BitVec.ofNat 64 (2 ^ 7 * 1):=by decide
  rw [e1,e2,BitVec.toNat_or,BitVec.toNat_ofNat,BitVec.toNat_ofNat,Nat.mod_eq_of_lt (show a<2 ^ 64 by omega),show 2 ^ 7 * 1 % 2 ^ 64=2 ^ 7 * 1 by decide,Nat.or_comm,← Nat.two_pow_add_eq_or_of_lt (show a<2 ^ 7 from ha)];omega
 rw [e]
 rw [IntKind.wrap_i64];omega
theorem cells_snoc (acc:List UInt8) (c:Nat) (h:c<256):Lib.byteCells acc++[.int .u8 (c:Int)]=Lib.byteCells (acc++[UInt8.ofNat c]):=by
 rw [Lib.byteCells_append]
 have:(UInt8.ofNat c).toNat=c:=by rw [UInt8.toNat_ofNat'];omega
 simp [Lib.byteCells,this]
set_option maxHeartbeats 4000000 in
set_option maxRecDepth 1000000 in
theorem packint_walk (n:Int) (hn:n<72057594037927936) (w:World) :
  Calls Tryz.prog 60 #[.int .i64 n] w fun e w'=>e = .returned (.string ⟨(packB n.toNat).toArray⟩)∧Below w.heap.size w w':=by
 go_enter Tryz.func60,Tryz.ntmps60
 go_wp2
 go_loopw [0] (fun v wr=>∃ (m:Int) (acc:List UInt8),v = .int .i64 m∧m<72057594037927936∧Lib.IsBuilder 159 5 w.heap.size w.heap.size (Lib.byteCells acc) wr∧Below w.heap.size w wr∧acc++packB m.toNat=packB n.toNat∧(acc=[]∨0≤m)) (fun v _=>(Lib.intOf v).toNat)
 case atStart =>
  exact ⟨n,[],rfl,hn,Lib.fresh_isBuilder 159 5 w,(Below.refl _ w).alloc (Nat.le_refl _) _,rfl,.inl rfl⟩
 case round =>
  obtain ⟨m,acc,rfl,hm,hI,hbw,hacc,hor⟩:=hrel
  have hlen:(Lib.byteCells acc).length+1≤140737488355328:=by
   have h1:=packB_len 7 n.toNat (by show n.toNat<72057594037927936;omega)
   have h2:=congrArg List.length hacc
   rw [List.length_append] at h2
   rw [Lib.byteCells_length];omega
  by_cases h128:128≤m
  ·go_wp2_with (go_at_call 142;refine (wb_is w.heap.size w.heap.size _ _ _ hI hlen hbw.size).mono ?_)
   rintro e W1 ⟨rfl,h1,b1⟩
   go_wp2
   go_roundw
   case rel =>
    obtain ⟨c,rfl⟩:∃ c:Nat,m=(c:Int):=⟨m.toNat,by omega⟩
    have hc:¬ c<128:=by omega
    have e1:bits .or .i64 (bits .and .i64 (c:Int) 127) 128 % 256=((c % 128+128:Nat):Int):=by
     rw [and127 (by omega),or128 (by omega)];omega
    rw [e1,cells_snoc _ _ (by omega)] at h1
    refine ⟨((c / 128:Nat):Int),acc++[UInt8.ofNat (c % 128+128)],by congr 1,by omega,.inr h1,hbw.trans b1,?_,.inr (by omega)⟩
    rw [← hacc,Int.toNat_natCast,Int.toNat_natCast,packB_hi hc,List.append_assoc];rfl
   case measure =>
    show (m / 128).toNat<m.toNat
    omega
  ·go_wp2_with (go_at_call 142;refine (wb_is w.heap.size w.heap.size _ _ _ hI hlen hbw.size).mono ?_)
   rintro e W1 rfl h1 b1
   have h2:Lib.IsBuilder 159 5 w.heap.size w.heap.size (Lib.byteCells (packB n.toNat)) W1:=by
    have e0:max m 0=((m.toNat:Nat):Int):=by omega
    rw [e0,cells_snoc _ _ (by omega)] at h1
    rw [← hacc,packB_lo (by omega)]
    exact .inr h1
   go_wp2_with (go_at_call 143;refine (bstr_is w.heap.size w.heap.size _ _ h2 ?_).mono ?_)
   ·intro h0;have:=packB_pos n.toNat;rw [h0] at this;exact absurd this (by decide)
   ·rintro e W2 ⟨rfl,b2⟩
    go_wp2
    go_ret
    exact ⟨rfl,(hbw.trans b1).trans b2⟩
open Pal in
def packIntE:Entry:=Sg.entry ⟨[.dat (.int .i64)],[],.dat .str,[]⟩ packI
open Pal in
theorem packint_ok:CallOK Tryz.prog 60 packIntE :=
 pureIS_ok monoOff_off (enters_of Tryz.func60 (by kernel_rfl) rfl) fun n r h w=>by
  unfold packI at h
  by_cases hn:n<72057594037927936
  ·rw [if_pos hn] at h;injection h with h;subst h;exact packint_walk n hn w
  ·rw [if_neg hn] at h;cases h
end Go.Proofs.YtggcagclpkhlhaaGreatDoor
end
noncomputable section
/- The document's ref02.Int: what it does on the machine; it calls itself. -/
namespace Go.Proofs.YtggcagclpkhlhaaGreatDoor
open Go Go.RowKit
theorem ri_conv (W:World) (b:Nat) (x:UInt8) (n:Int) (h:n=(x.toNat:Int)) (hc:W.cell? ⟨b,0,none⟩=some (.int .u8 n)) :
  (convert 119 9 (.slice (some ⟨b,0,none⟩) 1 1)).run Tryz.prog W = .ok (.string ⟨#[x]⟩) W :=
 run_convert_bytes_back (P:=Tryz.prog) W 119 9 5 ⟨b,0,none⟩ 1 [x] Tryz.underlying119 Tryz.underlying5 Tryz.underlying9 (fun j hj=>by
  have:j=0:=by simpa using hj
  subst this
  have e:(⟨b,0,none⟩:Addr).add 0=⟨b,0,none⟩:=rfl
  rw [e,hc,h];rfl)
theorem ri_new (w:World) (n:Int):(w.alloc (.cells #[.int .u8 n] 5)).cell? ⟨w.heap.size,0,none⟩=some (.int .u8 n):=by simp [go_sem]
theorem ri_newd (w:World) (n:Int):(w.alloc (.cells #[.int .u8 n] 5)).drew.cell? ⟨w.heap.size,0,none⟩=some (.int .u8 n):=by simp [go_sem]
theorem ri_dnew (w:World) (n:Int):(w.drew.alloc (.cells #[.int .u8 n] 5)).cell? ⟨w.heap.size,0,none⟩=some (.int .u8 n):=ri_new w.drew n
theorem ri_val (n:Int) (h0:128≤n) (hn:n<72057594037927936):IntKind.u8.wrap (IntKind.i64.wrap (n.tmod 128+128))=(((UInt8.ofNat (n.toNat % 128+128)).toNat:Nat):Int):=by
 obtain ⟨c,rfl⟩:∃ c:Nat,n=(c:Int):=⟨n.toNat,by omega⟩
 have e1:((c:Int)).tmod 128=((c % 128:Nat):Int):=rfl
 rw [e1,IntKind.wrap_i64,IntKind.wrap_u8,UInt8.toNat_ofNat',Int.toNat_natCast];omega
theorem ri_quo (n:Int) (h0:128≤n) (hn:n<72057594037927936):IntKind.i64.wrap (n.tdiv 128)=n / 128:=by
 obtain ⟨c,rfl⟩:∃ c:Nat,n=(c:Int):=⟨n.toNat,by omega⟩
 have e1:((c:Int)).tdiv 128=((c / 128:Nat):Int):=rfl
 rw [e1,IntKind.wrap_i64];omega
theorem ri_add (W:World) (x:UInt8) (l:List UInt8) (h:l.length≤8):(binOp .add 9 (.string ⟨#[x]⟩) (.string ⟨l.toArray⟩)).run Tryz.prog W = .ok (.string ⟨(x::l).toArray⟩) W:=by
 have hm:IntKind.i64.max=9223372036854775807:=rfl
 have hs:(⟨#[x]⟩:ByteArray).size+(⟨l.toArray⟩:ByteArray).size=1+l.length:=by simp [ByteArray.size]
 simp only [binOp,Op.stringOp]
 rw [if_neg (by rw [hm];omega)]
 have e:(⟨#[x]⟩:ByteArray)++⟨l.toArray⟩=⟨(x::l).toArray⟩:=by
  apply ByteArray.ext
  simp
 first | rw [e];rfl | rfl
theorem ri_end (n:Int) (h0:128≤n):((⟨#[UInt8.ofNat (n.toNat % 128)+128]⟩:ByteArray)++⟨(packB (n / 128).toNat).toArray⟩)=⟨(packB n.toNat).toArray⟩:=by
 have h1:(n / 128).toNat=n.toNat / 128:=by omega
 have h2:UInt8.ofNat (n.toNat % 128+128)=UInt8.ofNat (n.toNat % 128)+128:=by rw [UInt8.ofNat_add];rfl
 rw [packB_hi (n:=n.toNat) (by omega),h1,h2]
 apply ByteArray.ext
 simp
theorem ri_conv1 (w:World) (b:UInt8) (n:Int) (h:n=(b.toNat:Int)) :
  (convert 119 9 (.slice (some ⟨w.heap.size,0,none⟩) 1 1)).run Tryz.prog (w.alloc (.cells #[.int .u8 n] 5)) = .ok (.string ⟨#[b]⟩) (w.alloc (.cells #[.int .u8 n] 5)) :=
 ri_conv _ _ b n h (ri_new w n)
set_option maxHeartbeats 4000000 in
set_option maxRecDepth 1000000 in
theorem rpackint_walk:∀ (j:Nat) (n:Int) (w:World),n.toNat≤j→n<72057594037927936 →
  Calls Tryz.prog 64 #[.int .i64 n] w fun e w'=>e = .returned (.string ⟨(packB n.toNat).toArray⟩)∧Below w.heap.size w w':=by
 intro j
 induction j with
 | zero =>
  intro n w hj hn
  go_enter Tryz.func64,Tryz.ntmps64
  by_cases h0:n<0
  ·go_wp2
   rw [ri_conv1 w 0 0 rfl]
   go_wp2
   go_ret
   exact ⟨by rw [packB_lo (by omega),show n.toNat=0 by omega];rfl,(Below.refl _ w).alloc (Nat.le_refl _) _⟩
  ·go_wp2
   rw [ri_conv1 w 0 n (by show n=((0:Nat):Int);omega)]
   go_wp2
   go_ret
   exact ⟨by rw [packB_lo (by omega),show n.toNat=0 by omega];rfl,(Below.refl _ w).alloc (Nat.le_refl _) _⟩
 | succ j ih =>
  intro n w hj hn
  go_enter Tryz.func64,Tryz.ntmps64
  by_cases h0:n<0
  ·go_wp2
   rw [ri_conv1 w 0 0 rfl]
   go_wp2
   go_ret
   exact ⟨by rw [packB_lo (by omega),show n.toNat=0 by omega];rfl,(Below.refl _ w).alloc (Nat.le_refl _) _⟩
  by_cases h1:n<128
  ·go_wp2
   rw [ri_conv1 w (UInt8.ofNat n.toNat) n (by rw [UInt8.toNat_ofNat'];omega)]
   go_wp2
   go_ret
   exact ⟨by rw [packB_lo (by omega)];rfl,(Below.refl _ w).alloc (Nat.le_refl _) _⟩
  ·have h128:128≤n:=by omega
   have ihq:=fun W=>ih (IntKind.i64.wrap (n.tdiv 128)) W (by rw [ri_quo n h128 hn];omega) (by rw [ri_quo n h128 hn];omega)
   have hl8:(packB (IntKind.i64.wrap (n.tdiv 128)).toNat).length≤8:=packB_len 7 _ (by show _<72057594037927936;rw [ri_quo n h128 hn];omega)
   go_wp2
   go_region_with (first
    | (rw [ri_add _ _ _ hl8])
    | (go_at_call 64;refine (ihq _).mono ?_;rintro e W1 ⟨rfl,hb⟩)
    | (rw [ri_conv _ _ (UInt8.ofNat (n.toNat % 128+128)) _ (ri_val n (by omega) hn) (by first | exact ri_new _ _ | exact ri_newd _ _ | exact ri_dnew _ _ | exact (hb.cell (by simp)).trans (ri_newd _ _))]))
   all_goals go_wp2
   all_goals go_ret
   all_goals refine ⟨by rw [ri_end n h128];rfl,?_⟩
   ·exact (((Below.refl _ w).alloc (Nat.le_refl _) _).drew).trans (hb.mono (by simp))
   ·exact (((Below.refl _ w).alloc (Nat.le_refl _) _).drew).trans (hb.mono (by simp))
   ·exact (((Below.refl _ w).drew).trans (hb.mono (by simp))).alloc hb.size _
open Pal in
theorem rpackint_ok:CallOK Tryz.prog 64 packIntE :=
 pureIS_ok monoOff_off (enters_of Tryz.func64 (by kernel_rfl) rfl) fun n r h w=>by
  unfold packI at h
  by_cases hn:n<72057594037927936
  ·rw [if_pos hn] at h;injection h with h;subst h;exact rpackint_walk _ n w (Nat.le_refl _) hn
  ·rw [if_neg hn] at h;cases h
end Go.Proofs.YtggcagclpkhlhaaGreatDoor
end
noncomputable section
/- The sum's steps, bit by bit and four at once: plain numbers. -/
namespace Go.Proofs.YtggcagclpkhlhaaGreatDoor.Crc
def P:Nat:=0xEDB88320
def step (c:Nat):Nat:=if c % 2=1 then (c / 2) ^^^ P else c / 2
def step4 (c:Nat):Nat:=step (step (step (step c)))
theorem xor_div2 (a b:Nat):(a ^^^ b) / 2=(a / 2) ^^^ (b / 2):=by
 have:=@Nat.shiftRight_xor_distrib 1 a b
 simpa [Nat.shiftRight_eq_div_pow] using this
theorem xor_mod2 (a b:Nat):(a ^^^ b) % 2=(a+b) % 2:=by
 have:=@Nat.xor_mod_two_pow a b 1
 simp only [Nat.pow_one] at this
 rw [this]
 rcases Nat.mod_two_eq_zero_or_one a with h | h <;> rcases Nat.mod_two_eq_zero_or_one b with h' | h' <;> rw [h,h',Nat.add_mod,h,h'] <;> rfl
theorem step_xor (a b:Nat):step (a ^^^ b)=step a ^^^ step b:=by
 unfold step
 rw [xor_mod2,xor_div2,Nat.add_mod]
 rcases Nat.mod_two_eq_zero_or_one a with h | h <;> rcases Nat.mod_two_eq_zero_or_one b with h' | h' <;> rw [h,h']
 ·simp
 ·simp [Nat.xor_assoc]
 ·simp [Nat.xor_assoc,Nat.xor_comm P (b / 2)]
 ·simp only [Nat.reduceAdd,Nat.reduceMod,if_true]
  rw [if_neg (by decide),Nat.xor_assoc,← Nat.xor_assoc P,Nat.xor_comm P (b / 2),Nat.xor_assoc (b / 2),Nat.xor_self,Nat.xor_zero]
theorem split16 (c:Nat):c=(16 * (c / 16)) ^^^ (c % 16):=by
 apply Nat.eq_of_testBit_eq
 intro i
 rw [Nat.testBit_xor]
 have e:(16:Nat)=2 ^ 4:=rfl
 rw [e,Nat.testBit_two_pow_mul,Nat.testBit_mod_two_pow,Nat.testBit_div_two_pow]
 by_cases h:i<4
 ·have:¬ i≥4:=by omega
  simp [h,this]
 ·have h2:i≥4:=by omega
  have:i - 4+4=i:=by omega
  simp [h,h2,this]
theorem step_even (h:Nat):step (2 * h)=h:=by
 unfold step
 rw [if_neg (by omega)];omega
theorem step4_is (c:Nat):step4 c=(c / 16) ^^^ step4 (c % 16):=by
 have key:∀ a b,step4 (a ^^^ b)=step4 a ^^^ step4 b:=fun a b=>by unfold step4;rw [step_xor,step_xor,step_xor,step_xor]
 have e:step4 (16 * (c / 16))=c / 16:=by
  unfold step4
  rw [show 16 * (c / 16)=2 * (2 * (2 * (2 * (c / 16)))) by omega,step_even,step_even,step_even,step_even]
 conv=>lhs;rw [split16 c]
 rw [key,e]
theorem step_lt {c:Nat} (h:c<4294967296):step c<4294967296:=by
 unfold step
 split
 ·exact Nat.xor_lt_two_pow (n:=32) (by omega) (by decide)
 ·omega
theorem odd_hi {c:Nat} (h:c<2147483648):(c ^^^ P).testBit 31=true:=by
 rw [Nat.testBit_xor,Nat.testBit_lt_two_pow (x:=c) (i:=31) h];decide
theorem step_inj {a b:Nat} (ha:a<4294967296) (hb:b<4294967296) (h:step a=step b):a=b:=by
 unfold step at h
 have t:∀ x,x<2147483648→x.testBit 31=false:=fun x hx=>Nat.testBit_lt_two_pow (i:=31) hx
 have ha2:a / 2<2147483648:=by omega
 have hb2:b / 2<2147483648:=by omega
 by_cases h1:a % 2=1 <;> by_cases h2:b % 2=1
 ·rw [if_pos h1,if_pos h2] at h
  have h3:=congrArg (fun x=>x ^^^ P) h
  simp only [Nat.xor_assoc,Nat.xor_self,Nat.xor_zero] at h3
  omega
 ·rw [if_pos h1,if_neg h2] at h
  have:=odd_hi ha2
  rw [h,t _ hb2] at this;cases this
 ·rw [if_neg h1,if_pos h2] at h
  have:=odd_hi hb2
  rw [← h,t _ ha2] at this;cases this
 ·rw [if_neg h1,if_neg h2] at h;omega
end Go.Proofs.YtggcagclpkhlhaaGreatDoor.Crc
end
noncomputable section
/- The sum of a text: plain numbers; another byte, another sum. -/
namespace Go.Proofs.YtggcagclpkhlhaaGreatDoor.Crc
def byteStep (c b:Nat):Nat:=step4 (step4 (c ^^^ b))
def crc (c:Nat) (s:List UInt8):Nat:=s.foldl (fun c b=>byteStep c b.toNat) c
def ones:Nat:=4294967295
def more (a:Nat) (s:List UInt8):Nat:=crc (a ^^^ ones) s ^^^ ones
def sumN (s:List UInt8):Nat:=more 0 s
theorem step4_lt {c:Nat} (h:c<4294967296):step4 c<4294967296:=step_lt (step_lt (step_lt (step_lt h)))
theorem step4_inj {a b:Nat} (ha:a<4294967296) (hb:b<4294967296) (h:step4 a=step4 b):a=b :=
 step_inj ha hb (step_inj (step_lt ha) (step_lt hb) (step_inj (step_lt (step_lt ha)) (step_lt (step_lt hb)) (step_inj (step_lt (step_lt (step_lt ha))) (step_lt (step_lt (step_lt hb))) h)))
theorem xor_lt {a b:Nat} (ha:a<4294967296) (hb:b<4294967296):a ^^^ b<4294967296:=Nat.xor_lt_two_pow (n:=32) ha hb
theorem xor_can {a b c:Nat} (h:a ^^^ c=b ^^^ c):a=b:=by
 have h3:=congrArg (fun x=>x ^^^ c) h
 simp only [Nat.xor_assoc,Nat.xor_self,Nat.xor_zero] at h3
 exact h3
theorem byteStep_lt {c b:Nat} (hc:c<4294967296) (hb:b<256):byteStep c b<4294967296:=step4_lt (step4_lt (xor_lt hc (by omega)))
theorem byteStep_inj {a c b:Nat} (ha:a<4294967296) (hc:c<4294967296) (hb:b<256) (h:byteStep a b=byteStep c b):a=c :=
 xor_can (step4_inj (xor_lt ha (by omega)) (xor_lt hc (by omega)) (step4_inj (step4_lt (xor_lt ha (by omega))) (step4_lt (xor_lt hc (by omega))) h))
theorem byteStep_ne {c b b':Nat} (hc:c<4294967296) (hb:b<256) (hb':b'<256) (h:byteStep c b=byteStep c b'):b=b':=by
 have:=step4_inj (xor_lt hc (by omega)) (xor_lt hc (by omega)) (step4_inj (step4_lt (xor_lt hc (by omega))) (step4_lt (xor_lt hc (by omega))) h)
 rw [Nat.xor_comm c,Nat.xor_comm c] at this
 exact xor_can this
theorem ub (b:UInt8):b.toNat<256:=b.toNat_lt
theorem crc_lt:∀ (s:List UInt8) (c:Nat),c<4294967296→crc c s<4294967296
 | [],c,h=>h
 | b::s,c,h=>crc_lt s _ (byteStep_lt h (ub b))
theorem crc_inj:∀ (s:List UInt8) (a c:Nat),a<4294967296→c<4294967296→crc a s=crc c s→a=c
 | [],a,c,_,_,h=>h
 | b::s,a,c,ha,hc,h=>byteStep_inj ha hc (ub b) (crc_inj s _ _ (byteStep_lt ha (ub b)) (byteStep_lt hc (ub b)) h)
theorem crc_app (c:Nat) (s t:List UInt8):crc c (s++t)=crc (crc c s) t:=List.foldl_append
theorem sum_lt (s:List UInt8):sumN s<4294967296:=xor_lt (crc_lt s _ (by decide)) (by decide)
theorem sum_ne (p q:List UInt8) {b b':UInt8} (h:b ≠ b'):sumN (p++b::q) ≠ sumN (p++b'::q):=by
 intro he
 have h1:=xor_can he
 rw [crc_app,crc_app] at h1
 have hp:crc (0 ^^^ ones) p<4294967296:=crc_lt p _ (by decide)
 have h2:=crc_inj q _ _ (byteStep_lt hp (ub b)) (byteStep_lt hp (ub b')) h1
 have h3:=byteStep_ne hp (ub b) (ub b') h2
 exact h (UInt8.toNat_inj.1 h3)
def sumB (n:Nat):List UInt8:=[UInt8.ofNat n,UInt8.ofNat (n / 256),UInt8.ofNat (n / 65536),UInt8.ofNat (n / 16777216)]
theorem sumB_inj {a b:Nat} (ha:a<4294967296) (hb:b<4294967296) (h:sumB a=sumB b):a=b:=by
 unfold sumB at h
 injection h with h1 h;injection h with h2 h;injection h with h3 h;injection h with h4 _
 have e (x y:Nat) (h:UInt8.ofNat x=UInt8.ofNat y):x % 256=y % 256:=by
  have:=congrArg UInt8.toNat h
  simpa using this
 have:=e _ _ h1;have:=e _ _ h2;have:=e _ _ h3;have:=e _ _ h4
 omega
end Go.Proofs.YtggcagclpkhlhaaGreatDoor.Crc
end
noncomputable section
/- The sums' bytes, and a changed text: what they do on the machine. (Draft: the walks are open.) -/
namespace Go.Proofs.YtggcagclpkhlhaaGreatDoor
open Go Go.RowKit
def sumBI (n:Int):Option (List UInt8):=@ite _ (0≤n∧n<4294967296) (Classical.propDecidable _) (some (Crc.sumB n.toNat)) none
theorem sumBI_is {n:Nat} (h:n<4294967296):sumBI (n:Int)=some (Crc.sumB n):=(if_pos ⟨by omega,by omega⟩).trans (by rw [Int.toNat_natCast])
def changedB (s:List UInt8) (p x:Int):List UInt8:=if 0≤p then s.set p.toNat (s.getD p.toNat 0 ^^^ UInt8.ofNat x.toNat) else s
def changedI (a:List UInt8 × Int × Int):Option (List UInt8):=@ite _ (a.1.length<4000000∧0≤a.2.2∧a.2.2<256) (Classical.propDecidable _) (some (changedB a.1 a.2.1 a.2.2)) none
theorem changedI_is {s:List UInt8} {p x:Int} (h:s.length<4000000) (h1:0≤x∧x<256):changedI (s,(p,x))=some (changedB s p x):=if_pos ⟨h,h1.1,h1.2⟩
open Pal in
def sumBE:Entry:=Sg.entry ⟨[.dat (.int .u32)],[],.dat .str,[]⟩ sumBI
open Pal in
def changedE:Entry:=Sg.entry ⟨[.dat .str,.dat (.int .i64),.dat (.int .u8)],[],.dat .str,[]⟩ changedI
theorem sb_conv (w:World) (n:Nat) (hn:n<4294967296) :
  (convert 119 9 (.slice (some ⟨w.heap.size,0,none⟩) 4 4)).run Tryz.prog (w.alloc (.cells #[.int .u8 ((n:Int) % 256),.int .u8 ((n:Int) / 256 % 256),.int .u8 ((n:Int) / 65536 % 256),.int .u8 ((n:Int) / 16777216)] 5)) = .ok (.string ⟨(Crc.sumB n).toArray⟩) (w.alloc (.cells #[.int .u8 ((n:Int) % 256),.int .u8 ((n:Int) / 256 % 256),.int .u8 ((n:Int) / 65536 % 256),.int .u8 ((n:Int) / 16777216)] 5)):=by
 have h0:((UInt8.ofNat n).toNat:Int)=(n:Int) % 256:=by rw [UInt8.toNat_ofNat'];omega
 have h1:((UInt8.ofNat (n / 256)).toNat:Int)=(n:Int) / 256 % 256:=by rw [UInt8.toNat_ofNat'];omega
 have h2:((UInt8.ofNat (n / 65536)).toNat:Int)=(n:Int) / 65536 % 256:=by rw [UInt8.toNat_ofNat'];omega
 have h3:((UInt8.ofNat (n / 16777216)).toNat:Int)=(n:Int) / 16777216:=by rw [UInt8.toNat_ofNat'];omega
 refine run_convert_bytes_back (P:=Tryz.prog) _ 119 9 5 ⟨w.heap.size,0,none⟩ 4 (Crc.sumB n) Tryz.underlying119 Tryz.underlying5 Tryz.underlying9 (fun j hj=>?_)
 have hj4:j<4:=hj
 match j,hj4 with
 | 0,_=>show _=some (Value.int .u8 ((UInt8.ofNat n).toNat:Int));rw [h0];simp [go_sem]
 | 1,_=>show _=some (Value.int .u8 ((UInt8.ofNat (n / 256)).toNat:Int));rw [h1];simp [go_sem]
 | 2,_=>show _=some (Value.int .u8 ((UInt8.ofNat (n / 65536)).toNat:Int));rw [h2];simp [go_sem]
 | 3,_=>show _=some (Value.int .u8 ((UInt8.ofNat (n / 16777216)).toNat:Int));rw [h3];simp [go_sem]
set_option maxHeartbeats 4000000 in
set_option maxRecDepth 1000000 in
theorem sumbytes_walk (n:Nat) (hn:n<4294967296) (w:World) :
  Calls Tryz.prog 206 #[.int .u32 (n:Int)] w fun e w'=>e = .returned (.string ⟨(Crc.sumB n).toArray⟩)∧Below w.heap.size w w':=by
 go_enter Tryz.func206,Tryz.ntmps206
 go_wp2
 rw [sb_conv w n hn]
 go_wp2
 go_ret
 exact ⟨rfl,(Below.refl _ w).alloc (Nat.le_refl _) _⟩
def bcl (l:List UInt8):List Value:=l.map fun b=>.int .u8 (b.toNat:Int)
theorem conv_own (W:World) (base:Nat) (v:Value) (l:List UInt8) (h:W.ownsRow base 5 1 v l.length (bcl l)):(convert 119 9 v).run Tryz.prog W = .ok (.string ⟨l.toArray⟩) W:=by
 rcases h.2 with ⟨rfl,h0⟩ | ⟨g,cap,cur,rfl,hg,hgc,hn,hcm,hcs,htk⟩
 ·have:l=[]:=List.eq_nil_of_length_eq_zero h0
  subst this
  exact Lib.run_convert_nil_bytes W 119 9 5 0 Tryz.underlying119 Tryz.underlying5 Tryz.underlying9
 ·exact run_convert_bytes_back W 119 9 5 ⟨g,0,none⟩ cap l Tryz.underlying119 Tryz.underlying5 Tryz.underlying9 (fun j hj=>h.cells (g:=g) rfl j _ (by unfold bcl;rw [List.getElem?_map,List.getElem?_eq_getElem hj];rfl))
theorem binfo:(Tryz.prog.info? 5).map (fun i=>(i.zero,i.size,i.bytes))=some (some (.int .u8 0),1,1):=by kernel_rfl
theorem bnew (w:World) (a:Value) (t:TypeId):∀ j u,[a][j]? = some u→(w.alloc (.cells #[a] t)).cell? ((⟨w.heap.size,0,none⟩:Addr).add j)=some u:=fun j u h=>by
 match j,h with
 | 0,h=>simp at h;subst h;simp [go_sem]
 | j+1,h=>simp at h
theorem sumB_at (n i:Nat) (hi:i<4):(Crc.sumB n)[i]? = some (UInt8.ofNat (n / 256 ^ i)):=by
 match i,hi with
 | 0,_=>show some (UInt8.ofNat n)=_;rw [Nat.pow_zero,Nat.div_one]
 | 1,_=>rfl
 | 2,_=>rfl
 | 3,_=>rfl
set_option maxHeartbeats 4000000 in
set_option maxRecDepth 1000000 in
theorem rsumbytes_walk (n : Nat) (hn : n < 4294967296) (w : World) :
    Calls Tryz.prog 155 #[.int .u32 (n : Int)] w fun e w' => e = .returned (.string ⟨(Crc.sumB n).toArray⟩) ∧ Below w.heap.size w w' := by
  obtain ⟨i0, hi, hz0, hz1, hz2⟩ := info_parts binfo
  go_enter Tryz.func155, Tryz.ntmps155
  go_wp2
  go_loopw [0, 3, 4] (fun v0 v3 v4 wr => ∃ (i m : Nat), i ≤ 4 ∧ m = n / 256 ^ i ∧ v0 = .int .u32 (m : Int) ∧ v4 = .int .i64 (i : Int) ∧ wr.ownsRow w.heap.size 5 1 v3 i (bcl ((Crc.sumB n).take i)) ∧ Below w.heap.size w wr) (fun _ _ v4 _ => 4 - (Lib.intOf v4).toNat)
  case atStart => exact ⟨0, n, by omega, by rw [Nat.pow_zero, Nat.div_one], rfl, rfl, World.ownsRow_nil _ _ _ _, Below.refl _ _⟩
  case round =>
    obtain ⟨i, m, hi4, hm, rfl, rfl, hown, hbw⟩ := hrel
    have hm32 : m < 4294967296 := by rw [hm]; exact Nat.lt_of_le_of_lt (Nat.div_le_self _ _) hn
    have hsz := hbw.size
    have hlen : ((Crc.sumB n).take i).length = i := by rw [List.length_take]; show min i 4 = i; omega
    by_cases h4 : i < 4
    · go_wp2_with (first
        | (at_builtin; refine wpList_append_own _ rfl _ _ 119 rfl w.heap.size 5 i0 (.int .u8 0) 1 1 Tryz.underlying119 hi hz0 hz1 hz2 rfl (by decide) _ _ _ rfl (hown.alloc _) ⟨wr.heap.size, 0, none⟩ 1 1 [_] rfl rfl (bnew _ _ _) (fun x hx => by simp at hx; subst hx; rfl) (by unfold maxLen; omega) (by omega) (by simp; omega) ?_; intro v' w3 hown' hgrow3 hnil3
           have hbw3 : Below w.heap.size w w3 := Below.grown (hbw.alloc (by omega) _) hgrow3 (by simp; omega) (fun j hj => by have := (hown.lt _ hj).1; omega)
           have X := And.intro hown' hbw3
           clear hown' hgrow3 hnil3 hbw3))
      have en : (n : Int) / 256 ^ i = (m : Int) := by rw [hm]; simp
      have t1 : (m : Int).tdiv 256 = ((m / 256 : Nat) : Int) := rfl
      have t2 : (m : Int).tmod 256 = ((m % 256 : Nat) : Int) := rfl
      refine ⟨⟨i + 1, m / 256, by omega, by rw [hm, Nat.div_div_eq_div_mul, ← Nat.pow_succ], ?_, ?_, ?_, X.2⟩, ?_⟩
      · rw [en, t1]; congr 1; omega
      · congr 1
      · have h1 := X.1
        rw [en, t2, show (((m % 256 : Nat) : Int)) % 256 = (((UInt8.ofNat (n / 256 ^ i)).toNat : Nat) : Int) from by rw [UInt8.toNat_ofNat', ← hm]; omega] at h1
        rw [List.take_add_one, sumB_at n i h4]
        unfold bcl at h1 ⊢
        rw [List.map_append]; exact h1
      · simp [Lib.intOf]; omega
    · have e4 : i = 4 := by omega
      subst e4
      go_wp2
      rw [conv_own wr w.heap.size u3 (Crc.sumB n) hown]
      go_wp2
      go_ret
      exact ⟨rfl, hbw⟩
theorem changed_len (s:List UInt8) (p x:Int):(changedB s p x).length=s.length:=by unfold changedB;split <;> simp
theorem bits_u8 (a:UInt8) (x:Int) (hx:0≤x∧x<256):bits .xor .u8 (a.toNat:Int) x=(((a ^^^ UInt8.ofNat x.toNat).toNat:Nat):Int):=by
 obtain ⟨m,rfl⟩:∃ m:Nat,x=(m:Int):=⟨x.toNat,by omega⟩
 have ha:=a.toNat_lt
 have hm:m<256:=by omega
 show IntKind.wrap .u8 (((BitVec.ofInt 8 (a.toNat:Int) ^^^ BitVec.ofInt 8 (m:Int)).toNat:Nat):Int)=_
 have e:(BitVec.ofInt 8 (a.toNat:Int) ^^^ BitVec.ofInt 8 (m:Int)).toNat=a.toNat ^^^ m:=by
  rw [show BitVec.ofInt 8 (a.toNat:Int)=BitVec.ofNat 8 a.toNat from by simp,show BitVec.ofInt 8 (m:Int)=BitVec.ofNat 8 m from by simp,BitVec.toNat_xor,BitVec.toNat_ofNat,BitVec.toNat_ofNat,Nat.mod_eq_of_lt (show a.toNat<2 ^ 8 by omega),Nat.mod_eq_of_lt (show m<2 ^ 8 by omega)]
 have hl:a.toNat ^^^ m<2 ^ 8:=Nat.xor_lt_two_pow (by omega) (by omega)
 rw [e,IntKind.wrap_u8,UInt8.toNat_xor,Int.toNat_natCast,UInt8.toNat_ofNat',Nat.mod_eq_of_lt (show m<2 ^ 8 by omega)]
 omega
theorem changed_at (s:List UInt8) (p x:Int) (i:Nat) (hi:i<s.length):(changedB s p x)[i]? = some (if (i:Int)=p then s[i] ^^^ UInt8.ofNat x.toNat else s[i]):=by
 unfold changedB
 by_cases hp:(i:Int)=p
 ·subst hp
  rw [if_pos (by omega),if_pos rfl,Int.toNat_natCast,List.getElem?_set_self hi,List.getD_eq_getElem?_getD,List.getElem?_eq_getElem hi];rfl
 ·rw [if_neg hp]
  split
  ·rw [List.getElem?_set_ne (by omega),List.getElem?_eq_getElem hi]
  ·exact List.getElem?_eq_getElem hi
set_option maxHeartbeats 4000000 in
set_option maxRecDepth 1000000 in
theorem changed_walk (s : List UInt8) (p x : Int) (hs : s.length < 4000000) (hx : 0 ≤ x ∧ x < 256) (w : World) :
    Calls Tryz.prog 29 #[.string ⟨s.toArray⟩, .int .i64 p, .int .u8 x] w fun e w' => e = .returned (.string ⟨(changedB s p x).toArray⟩) ∧ Below w.heap.size w w' := by
  obtain ⟨i0, hi, hz0, hz1, hz2⟩ := info_parts binfo
  have hcl := changed_len s p x
  have hsz0 : (⟨s.toArray⟩ : ByteArray).size = s.length := by simp [ByteArray.size]
  go_enter Tryz.func29, Tryz.ntmps29
  go_wp2
  go_loopw [7, 8] (fun v7 v8 wr => ∃ (i : Nat), i ≤ s.length ∧ v8 = .int .i64 (i : Int) ∧ wr.ownsRow w.heap.size 5 1 v7 i (bcl ((changedB s p x).take i)) ∧ Below w.heap.size w wr) (fun _ v8 _ => s.length - (Lib.intOf v8).toNat)
  case atStart => exact ⟨0, by omega, rfl, World.ownsRow_nil _ _ _ _, Below.refl _ _⟩
  case round =>
    obtain ⟨i, hi4, rfl, hown, hbw⟩ := hrel
    have hsz := hbw.size
    have hlen : ((changedB s p x).take i).length = i := by rw [List.length_take]; omega
    by_cases h4 : i < s.length
    · by_cases hp : (i : Int) = p
      · subst hp
        go_wp2_with (first
        | (at_builtin; refine wpList_append_own _ rfl _ _ 119 rfl w.heap.size 5 i0 (.int .u8 0) 1 1 Tryz.underlying119 hi hz0 hz1 hz2 rfl (by decide) _ _ _ rfl (hown.alloc _) ⟨wr.heap.size, 0, none⟩ 1 1 [_] rfl rfl (bnew _ _ _) (fun x hx => by simp at hx; subst hx; rfl) (by unfold maxLen; omega) (by omega) (by simp; omega) ?_; intro v' w3 hown' hgrow3 hnil3
           have hbw3 : Below w.heap.size w w3 := Below.grown (hbw.alloc (by omega) _) hgrow3 (by simp; omega) (fun j hj => by have := (hown.lt _ hj).1; omega)
           have X := And.intro hown' hbw3
           clear hown' hgrow3 hnil3 hbw3))
        refine ⟨⟨i + 1, by omega, by congr 1, ?_, X.2⟩, ?_⟩
        · have h1 := X.1
          rw [show (⟨s.toArray⟩ : ByteArray)[i].toNat = s[i].toNat from rfl, bits_u8 _ x hx] at h1
          rw [List.take_add_one, changed_at s (i : Int) x i h4, if_pos rfl]
          unfold bcl at h1 ⊢
          rw [List.map_append]; exact h1
        · simp [Lib.intOf]; omega
      · go_wp2_with (first
        | (at_builtin; refine wpList_append_own _ rfl _ _ 119 rfl w.heap.size 5 i0 (.int .u8 0) 1 1 Tryz.underlying119 hi hz0 hz1 hz2 rfl (by decide) _ _ _ rfl (hown.alloc _) ⟨wr.heap.size, 0, none⟩ 1 1 [_] rfl rfl (bnew _ _ _) (fun x hx => by simp at hx; subst hx; rfl) (by unfold maxLen; omega) (by omega) (by simp; omega) ?_; intro v' w3 hown' hgrow3 hnil3
           have hbw3 : Below w.heap.size w w3 := Below.grown (hbw.alloc (by omega) _) hgrow3 (by simp; omega) (fun j hj => by have := (hown.lt _ hj).1; omega)
           have X := And.intro hown' hbw3
           clear hown' hgrow3 hnil3 hbw3))
        refine ⟨⟨i + 1, by omega, by congr 1, ?_, X.2⟩, ?_⟩
        · have h1 := X.1
          rw [show (⟨s.toArray⟩ : ByteArray)[i].toNat = s[i].toNat from rfl] at h1
          rw [List.take_add_one, changed_at s p x i h4, if_neg hp]
          unfold bcl at h1 ⊢
          rw [List.map_append]; exact h1
        · simp [Lib.intOf]; omega
    · have e4 : i = s.length := by omega
      subst e4
      have hw : (changedB s p x).take s.length = changedB s p x := List.take_of_length_le (by omega)
      rw [hw] at hown
      have hown2 : wr.ownsRow w.heap.size 5 1 u7 (changedB s p x).length (bcl (changedB s p x)) := by rw [hcl]; exact hown
      go_wp2
      rw [conv_own wr w.heap.size _ (changedB s p x) hown2]
      go_wp2
      go_ret
      exact ⟨rfl, hbw⟩
open Pal in
theorem sumBytes_ok:CallOK Tryz.prog 206 sumBE :=
 pureIS_ok monoOff_off (enters_of Tryz.func206 (by kernel_rfl) rfl) fun n r h w=>by
  unfold sumBI at h
  by_cases hn:0≤n∧n<4294967296
  ·rw [if_pos hn] at h;injection h with h;subst h
   obtain ⟨m,rfl⟩:∃ m:Nat,n=(m:Int):=⟨n.toNat,by omega⟩
   rw [Int.toNat_natCast]
   exact sumbytes_walk m (by omega) w
  ·rw [if_neg hn] at h;cases h
open Pal in
theorem rsumBytes_ok:CallOK Tryz.prog 155 sumBE :=
 pureIS_ok monoOff_off (enters_of Tryz.func155 (by kernel_rfl) rfl) fun n r h w=>by
  unfold sumBI at h
  by_cases hn:0≤n∧n<4294967296
  ·rw [if_pos hn] at h;injection h with h;subst h
   obtain ⟨m,rfl⟩:∃ m:Nat,n=(m:Int):=⟨n.toNat,by omega⟩
   rw [Int.toNat_natCast]
   exact rsumbytes_walk m (by omega) w
  ·rw [if_neg hn] at h;cases h
open Pal in
theorem changed_ok:CallOK Tryz.prog 29 changedE :=
 pureS3_ok monoOff_off (enters_of Tryz.func29 (by kernel_rfl) rfl) fun s p x r h w=>by
  unfold changedI at h
  by_cases hn:s.length<4000000∧0≤x∧x<256
  ·rw [if_pos hn] at h;injection h with h;subst h
   exact changed_walk s p x hn.1 hn.2 w
  ·rw [if_neg hn] at h;cases h
end Go.Proofs.YtggcagclpkhlhaaGreatDoor
end
noncomputable section
/- name.Runes, name.Right: what they do on the machine, at every text that holds no replacement rune and no wrong byte. -/
namespace Go.Proofs.YtggcagclpkhlhaaGreatDoor
open Go Go.RowKit
def mayB (c:Int):Bool:=!(decide (c<32) || (decide (127≤c) && decide (c<160))) && !decide (c=65533)
theorem rwidth_pos (s:ByteArray) (pos:Nat) (h:pos<s.size):1≤(Utf8.decode s pos).2:=by
 by_cases ha:(s[pos]'h).toNat<128
 ·rw [decode_ascii s pos h ha]
  exact Nat.le_refl _
 ·exact (decode_high s pos h (by omega)).2
theorem rown_iterAt {w:World} {base:Nat} {e:TypeId} {size:Nat} {v:Value} {n:Nat} {xs:List Value} (h:w.ownsRow base e size v n xs) {k:Nat} (hk:k<base) (s:ByteArray) (p:Nat):(w.iterAt k s p).ownsRow base e size v n xs:=by
 obtain ⟨h1,h2⟩:=h
 refine ⟨h1,?_⟩
 rcases h2 with h2 | ⟨g,cap,cur,a,b,c,d⟩
 ·exact .inl h2
 ·exact .inr ⟨g,cap,cur,a,b,by rw [Lib.iterAt_other _ _ _ _ _ (by omega)];exact c,d⟩
theorem riterPos_of {w:World} {k:Nat} {s:ByteArray} {p:Nat} (h:w.heap[k]? = some (.stringIter s p)):w.iterPos k=p:=by simp [World.iterPos,h]
theorem rcell_new (w:World) (a:Value) (t:TypeId):∀ j u,[a][j]? = some u→(w.alloc (.cells #[a] t)).cell? ((⟨w.heap.size,0,none⟩:Addr).add j)=some u:=by
 intro j u hj
 match j,hj with
 | 0,hj=>simp at hj;subst hj;simp [Addr.add]
 | j+1,hj=>simp at hj
def rcells (l:List Int):List Value:=l.map (Value.int .i32)
theorem rinfo:(Tryz.prog.info? 21).map (fun i=>(i.zero,i.size,i.bytes))=some (some (.int .i32 0),1,4):=by kernel_rfl
theorem runder:Tryz.prog.underlying 235=some (.slice 21):=by kernel_rfl
end Go.Proofs.YtggcagclpkhlhaaGreatDoor
end
noncomputable section
/- Where unicode/utf8's DecodeRuneInString and what it calls lie in this program; its two tables. -/
namespace Go.Proofs.YtggcagclpkhlhaaGreatDoor
open Go Go.Proofs
open Go.Shelf
def u8_ren:Go.Shelf.Ren:=⟨fun | 197=>265 | 260=>273 | _=>0,fun | 0=>0 | 3=>3 | 4=>4 | 5=>5 | 9=>9 | 21=>21 | 46=>163 | 105=>254 | 119=>266 | 138=>268 | 139=>269 | _=>0,fun | 3=>0 | 4=>1 | _=>0⟩
set_option maxRecDepth 100000 in
theorem laysU8:Go.Proofs.Lays.n197 Tryz.prog u8_ren:={
 mixed:=by kernel_rfl
 f197:=Tryz.func265.trans (congrArg some (by kernel_rfl))
 f260:=Tryz.func273.trans (congrArg some (by kernel_rfl))
 t0:=Tryz.underlying0
 a0:=Tryz.isAgg0
 z0:=Tryz.sizeOf0
 v0:=Tryz.zeroValue0
 t3:=Tryz.underlying3
 a3:=Tryz.isAgg3
 z3:=Tryz.sizeOf3
 v3:=Tryz.zeroValue3
 t4:=Tryz.underlying4
 a4:=Tryz.isAgg4
 z4:=Tryz.sizeOf4
 v4:=Tryz.zeroValue4
 t5:=Tryz.underlying5
 a5:=Tryz.isAgg5
 z5:=Tryz.sizeOf5
 v5:=Tryz.zeroValue5
 t9:=Tryz.underlying9
 a9:=Tryz.isAgg9
 z9:=Tryz.sizeOf9
 v9:=Tryz.zeroValue9
 t21:=Tryz.underlying21
 a21:=Tryz.isAgg21
 z21:=Tryz.sizeOf21
 v21:=Tryz.zeroValue21
 t46:=Tryz.underlying163
 a46:=Tryz.isAgg163
 z46:=Tryz.sizeOf163
 v46:=Tryz.zeroValue163
 t105:=Tryz.underlying254
 a105:=Tryz.isAgg254
 z105:=Tryz.sizeOf254
 v105:=Tryz.zeroValue254
 t119:=Tryz.underlying266
 a119:=Tryz.isAgg266
 z119:=Tryz.sizeOf266
 t138:=Tryz.underlying268
 a138:=Tryz.isAgg268
 z138:=Tryz.sizeOf268
 v138:=Tryz.zeroValue268
 t139:=Tryz.underlying269
 a139:=Tryz.isAgg269
 z139:=Tryz.sizeOf269
 v139:=Tryz.zeroValue269
 g3:=by kernel_rfl
 g4:=by kernel_rfl }
theorem u8Extra:U8Extra Tryz.prog u8_ren:=⟨by kernel_rfl,by kernel_rfl,by kernel_rfl,by kernel_rfl,by kernel_rfl,by kernel_rfl,by kernel_rfl⟩
theorem dec_is (s:ByteArray) (w:World) (hT:Lib.Utf8Tabs 0 1 w) :
  Calls Tryz.prog 265 #[.string s] w fun e w'=>e = .returned (.tuple #[.int .i32 (Lib.decodeGo s).1,.int .i64 (Lib.decodeGo s).2])∧RowKit.Below w.heap.size w w' :=
 Any.utf8_DecodeRuneInString laysU8 s w hT
end Go.Proofs.YtggcagclpkhlhaaGreatDoor
end
noncomputable section
/- name.Runes, name.Right: what they do on the machine, at every text, where unicode/utf8's two tables are as the program lays them. -/
namespace Go.Proofs.YtggcagclpkhlhaaGreatDoor
open Go Go.RowKit
def badAt (s:ByteArray) (pos:Nat):Bool:=decide ((Utf8.decode s pos).1=65533) && decide ((Utf8.decode s pos).2≤1)
def runesX (s:ByteArray):Nat→Nat→Option (List Int)
 | 0,_=>some []
 | fuel+1,pos=>if pos<s.size then (if badAt s pos=true then none else (runesX s fuel (pos+(Utf8.decode s pos).2)).map fun l=>((Utf8.decode s pos).1:Int)::l) else some []
theorem runesX_end (s:ByteArray) (fuel pos:Nat) (h:¬ pos<s.size):runesX s fuel pos=some []:=by
 cases fuel with
 | zero=>rfl
 | succ f=>simp [runesX,h]
theorem runesX_bad {s:ByteArray} {fuel pos:Nat} {R:Option (List Int)} {acc:List Int} (h:pos<s.size) (hb:badAt s pos=true) (e:(runesX s (fuel+1) pos).map (acc ++ ·)=R):R=none:=by
 rw [runesX,if_pos h,if_pos hb] at e;exact e.symm
theorem runesX_step {s:ByteArray} {fuel pos:Nat} {R:Option (List Int)} {acc:List Int} (h:pos<s.size) (hb:badAt s pos=false) (e:(runesX s (fuel+1) pos).map (acc ++ ·)=R) :
  (runesX s fuel (pos+(Utf8.decode s pos).2)).map ((acc++[((Utf8.decode s pos).1:Int)]) ++ ·)=R:=by
 rw [runesX,if_pos h,if_neg (by rw [hb];decide)] at e
 rw [← e]
 cases hr:runesX s fuel (pos+(Utf8.decode s pos).2) with
 | none=>rfl
 | some l=>simp
theorem dec_tail (s:ByteArray) (pos:Nat) (h:pos<s.size):Lib.decodeGo (s.extract pos s.size)=Utf8.decode s pos:=by
 unfold Lib.decodeGo
 rw [if_neg (by rw [ByteArray.size_extract];omega),Lib.tail_decode];rfl
theorem rown_below {w w':World} {base:Nat} {e:TypeId} {size:Nat} {v:Value} {n:Nat} {xs:List Value} (h:w.ownsRow base e size v n xs) (hb:Below w.heap.size w w'):w'.ownsRow base e size v n xs:=by
 obtain ⟨h1,h2⟩:=h
 refine ⟨h1,?_⟩
 rcases h2 with h2 | ⟨g,cap,cur,a,b,c,d⟩
 ·exact .inl h2
 ·exact .inr ⟨g,cap,cur,a,b,by rw [hb.block g (Array.getElem?_eq_some_iff.1 c).1];exact c,d⟩
set_option maxRecDepth 1000000 in
set_option maxHeartbeats 4000000 in
theorem runesX_walk (s : ByteArray) (R : Option (List Int)) (hR : runesX s s.size 0 = R) (hsz : s.size ≤ 1099511627776) (w : World) (hT : Lib.Utf8Tabs 0 1 w) :
    Calls Tryz.prog 246 #[.string s] w fun e w' => ∃ v, e = .returned (.tuple #[v, .bool R.isSome]) ∧ w'.ownsRow (w.heap.size + 1) 21 1 v (R.getD []).length (rcells (R.getD [])) ∧ Below w.heap.size w w' := by
  obtain ⟨i0, hi, hz0, hz1, hz2⟩ := info_parts rinfo
  go_enter Tryz.func246, Tryz.ntmps246
  go_wp2
  go_loopw [4] (fun v wr => ∃ (pos fuel : Nat) (acc : List Int), wr.heap[w.heap.size]? = some (.stringIter s pos) ∧ wr.ownsRow (w.heap.size + 1) 21 1 v acc.length (rcells acc) ∧ Below w.heap.size w wr ∧ (runesX s fuel pos).map (acc ++ ·) = R ∧ s.size ≤ pos + fuel ∧ acc.length ≤ pos) (fun _ wr => s.size - wr.iterPos w.heap.size)
  case atStart => exact ⟨0, s.size, [], World.iter_heap w s 0, World.ownsRow_nil _ _ _ _, (Below.refl _ _).alloc (Nat.le_refl _) _, by rw [hR]; cases R <;> simp, by omega, by simp⟩
  case round =>
    obtain ⟨pos, fuel, acc, hit, hown, hbw, HS, hb, hlen⟩ := hrel
    have hpos0 := riterPos_of hit
    by_cases hp : pos < s.size
    · have hnx : ∀ ty, (Instr.next (.pointer (some ⟨w.heap.size, 0, none⟩)) true ty).run Tryz.prog wr = _ := fun ty => Lib.run_next_any_at wr w.heap.size s pos ty hit hp
      have hwd := rwidth_pos s pos hp
      have hdl := decode_le s pos
      obtain ⟨fuel, rfl⟩ : ∃ f', fuel = f' + 1 := ⟨fuel - 1, by omega⟩
      have hit2 := Lib.iterAt_heap wr w.heap.size s pos (pos + (Utf8.decode s pos).2) hit
      have hbw2 := Lib.below_iterAt hbw (k := w.heap.size) (Nat.le_refl _) s (pos + (Utf8.decode s pos).2)
      have hown2 := rown_iterAt hown (k := w.heap.size) (by omega) s (pos + (Utf8.decode s pos).2)
      obtain ⟨W1, hW1⟩ : ∃ W1, W1 = wr.iterAt w.heap.size s (pos + (Utf8.decode s pos).2) := ⟨_, rfl⟩
      rw [← hW1] at hnx hit2 hbw2 hown2
      have hBlt : w.heap.size < W1.heap.size := (Array.getElem?_eq_some_iff.1 hit2).1
      have hT1 : Lib.Utf8Tabs 0 1 W1 := Utf8Tabs_below hT hbw2
      clear hW1 hit hown hbw
      by_cases hne : (Utf8.decode s pos).1 = 65533
      · have hne1 : (((Utf8.decode s pos).1 : Int) == 65533) = true := by simp [hne]
        have hix0 : (0 : Int) ≤ (pos : Int) := by omega
        have hix1 : (pos : Int) ≤ (s.size : Int) := by omega
        have hdc : Calls Tryz.prog 265 #[.string (s.extract pos s.size)] W1 fun e w' => e = .returned (.tuple #[.int .i32 65533, .int .i64 ((Utf8.decode s pos).2 : Int)]) ∧ Below W1.heap.size W1 w' := by
          have h := dec_is (s.extract pos s.size) W1 hT1
          rw [dec_tail s pos hp, hne] at h; exact h
        by_cases hw1 : (Utf8.decode s pos).2 ≤ 1
        · have hR0 : R = none := runesX_bad hp (by unfold badAt; rw [decide_eq_true hne, decide_eq_true hw1]; rfl) HS
          subst hR0
          have hw2 : ((Utf8.decode s pos).2 : Int) ≤ 1 := by omega
          go_wp2_with (go_at_call 265; refine hdc.mono ?_; rintro e W2 ⟨rfl, hb2⟩)
          go_ret2
          exact ⟨_, rfl, World.ownsRow_nil _ _ _ _, hbw2.trans (hb2.mono (by omega))⟩
        · have HS2 := runesX_step hp (by unfold badAt; rw [decide_eq_false hw1, Bool.and_false]) HS
          have hw2 : ¬ ((Utf8.decode s pos).2 : Int) ≤ 1 := by omega
          have he : (((Utf8.decode s pos).1 : Nat) : Int) = 65533 := by rw [hne]; rfl
          rw [he] at HS2
          go_wp2_with (first
            | (go_at_call 265; refine hdc.mono ?_; rintro e W2 ⟨rfl, hb2⟩
               have hown3 := rown_below hown2 hb2
               have hbw3 : Below w.heap.size w W2 := hbw2.trans (hb2.mono (by omega))
               have hit3 : W2.heap[w.heap.size]? = some (.stringIter s (pos + (Utf8.decode s pos).2)) := by rw [hb2.block _ hBlt]; exact hit2
               have hBlt3 : w.heap.size < W2.heap.size := by have := hb2.size; omega
               clear hdc)
            | (at_builtin; refine wpList_append_own _ rfl _ _ 235 rfl (w.heap.size + 1) 21 i0 (.int .i32 0) 1 4 runder hi hz0 hz1 hz2 rfl (by decide) _ _ _ rfl (hown3.alloc _) ⟨W2.heap.size, 0, none⟩ 1 1 [.int .i32 65533] rfl rfl (rcell_new _ _ _) (fun x hx => by simp at hx; subst hx; rfl) (by unfold maxLen; omega) (by omega) (by simp; omega) ?_; intro v' w4 hown' hgrow3 hnil3
               have hit4 : w4.heap[w.heap.size]? = some (.stringIter s (pos + (Utf8.decode s pos).2)) := by
                 rw [hgrow3.block w.heap.size (by simp; omega) (fun h => by have := (hown3.lt _ h.symm).1; omega), Below.heap_alloc _ _ _ hBlt3]; exact hit3
               have hbw4 : Below w.heap.size w w4 := Below.grown (hbw3.alloc (by omega) _) hgrow3 (by simp; omega) (fun j hj => by have := (hown3.lt _ hj).1; omega)
               have X : Aside (w4.ownsRow (w.heap.size + 1) 21 1 v' (acc.length + 1) (rcells acc ++ [.int .i32 65533]) ∧ w4.heap[w.heap.size]? = some (.stringIter s (pos + (Utf8.decode s pos).2)) ∧ Below w.heap.size w w4) := ⟨hown', hit4, hbw4⟩
               clear hown' hgrow3 hnil3 hit4 hbw4))
          go_roundw
          case rel =>
            refine ⟨_, fuel, acc ++ [65533], X.out.2.1, ?_, X.out.2.2, HS2, by omega, by simp; omega⟩
            have h := X.out.1
            rw [List.length_append]
            unfold rcells at h ⊢
            rw [List.map_append]; exact h
          case measure =>
            rw [riterPos_of X.out.2.1, hpos0]; omega
      · have HS2 := runesX_step hp (by unfold badAt; rw [decide_eq_false hne, Bool.false_and]) HS
        have hne1 : (((Utf8.decode s pos).1 : Int) == 65533) = false := by simp; omega
        have hne2 : ¬ (((Utf8.decode s pos).1 : Int) = 65533) := by omega
        go_wp2_with (first
            | (at_builtin; refine wpList_append_own _ rfl _ _ 235 rfl (w.heap.size + 1) 21 i0 (.int .i32 0) 1 4 runder hi hz0 hz1 hz2 rfl (by decide) _ _ _ rfl (hown2.alloc _) ⟨W1.heap.size, 0, none⟩ 1 1 [.int .i32 ((Utf8.decode s pos).1 : Int)] rfl rfl (rcell_new _ _ _) (fun x hx => by simp at hx; subst hx; rfl) (by unfold maxLen; omega) (by omega) (by simp; omega) ?_; intro v' w3 hown' hgrow3 hnil3
               have hit3 : w3.heap[w.heap.size]? = some (.stringIter s (pos + (Utf8.decode s pos).2)) := by
                 rw [hgrow3.block w.heap.size (by simp; omega) (fun h => by have := (hown2.lt _ h.symm).1; omega), Below.heap_alloc _ _ _ hBlt]; exact hit2
               have hbw3 : Below w.heap.size w w3 := Below.grown (hbw2.alloc (by omega) _) hgrow3 (by simp; omega) (fun j hj => by have := (hown2.lt _ hj).1; omega)
               have X : Aside (w3.ownsRow (w.heap.size + 1) 21 1 v' (acc.length + 1) (rcells acc ++ [.int .i32 ((Utf8.decode s pos).1 : Int)]) ∧ w3.heap[w.heap.size]? = some (.stringIter s (pos + (Utf8.decode s pos).2)) ∧ Below w.heap.size w w3) := ⟨hown', hit3, hbw3⟩
               clear hown' hgrow3 hnil3 hit3 hbw3))
        go_roundw
        case rel =>
          refine ⟨_, fuel, acc ++ [((Utf8.decode s pos).1 : Int)], X.out.2.1, ?_, X.out.2.2, HS2, by omega, by simp; omega⟩
          · have h := X.out.1
            rw [List.length_append]
            unfold rcells at h ⊢
            rw [List.map_append]; exact h
        case measure =>
          rw [riterPos_of X.out.2.1, hpos0]; omega
    · have hnx : ∀ ty, (Instr.next (.pointer (some ⟨w.heap.size, 0, none⟩)) true ty).run Tryz.prog wr = _ := fun ty => Lib.run_next_end_at wr w.heap.size s pos ty hit hp
      rw [runesX_end s fuel pos hp] at HS
      have eL : R = some acc := by rw [← HS]; simp
      subst eL
      go_wp2
      go_ret2
      exact ⟨_, rfl, hown, hbw⟩
end Go.Proofs.YtggcagclpkhlhaaGreatDoor
end
noncomputable section
/- name.Runes: its contract. -/
namespace Go.Proofs.YtggcagclpkhlhaaGreatDoor
open Pal
def runesB (s:List UInt8):Option (List Int × Bool):=bif Nat.ble s.length 1099511627776 then some (match runesX ⟨s.toArray⟩ s.length 0 with | some l=>(l,true) | none=>([],false)) else none
def runesE:Entry:=Sg.entry ⟨[.dat .str],[],.t2 (.dat (.slc (.int .i32))) (.dat .bool),[]⟩ runesB
theorem tabs_wf (G:Gh) (w:Go.World) (h:Wf G w) (ht:MonoC.tab G.I):Go.Lib.Utf8Tabs 0 1 w :=
 ⟨fun c hc=>h.holds _ _ _ (ht.1 c hc),fun i hi=>⟨h.holds _ _ _ (ht.2 i hi).1,h.holds _ _ _ (ht.2 i hi).2⟩⟩
theorem runes_ok:CallOK Tryz.prog 246 runesE :=
 pureSL_ok (T:=21) monoOff_off (enters_of Tryz.func246 (by kernel_rfl) rfl) tabs_wf fun s r h w hT=>by
  unfold runesB at h
  cases hz:Nat.ble s.length 1099511627776 with
  | false=>rw [hz] at h;cases h
  | true =>
   rw [hz,cond_true] at h
   have hsz:s.length≤1099511627776:=Nat.le_of_ble_eq_true hz
   have hsz1:(⟨s.toArray⟩:ByteArray).size=s.length:=by simp [ByteArray.size]
   have hw:=runesX_walk ⟨s.toArray⟩ _ rfl (by rw [hsz1];exact hsz) w hT
   rw [hsz1] at hw
   injection h with h
   subst h
   refine hw.mono fun e w' hh=>?_
   obtain ⟨v,rfl,hown,hb⟩:=hh
   have hbase:∀ {n:Nat} {xs:List Go.Value},w'.ownsRow (w.heap.size+1) 21 1 v n xs→w'.ownsRow w.heap.size 21 1 v n xs:=fun {n xs} h=>⟨h.1,h.2.imp id fun ⟨g,cap,cur,a,b,c⟩=>⟨g,cap,cur,a,by omega,c⟩⟩
   cases hr:runesX ⟨s.toArray⟩ s.length 0 with
   | none=>rw [hr] at hown;exact ⟨v,by rfl,hbase hown,hb⟩
   | some l=>rw [hr] at hown;exact ⟨v,by rfl,hbase hown,hb⟩
end Go.Proofs.YtggcagclpkhlhaaGreatDoor
end
noncomputable section
/- The program's functions, as plain equations. -/
namespace Go.Proofs.YtggcagclpkhlhaaGreatDoor
open Pal
set_option maxRecDepth 100000
def z1F.body:Go.Code:=Tryz.f30.body.getD .skip
def z1F.rs:List Go.ResultVar:=Tryz.f30.results.toList
def z1F.regs:List (Nat × RInfo):=[(0,ri [0] []),(1,ri [2] [5])]
def z1F.cx (k:Nat):Cx:=⟨tt,pp,[],z1F.regs,k,mm⟩
@[reducible] def z1F.sg:Sg:=⟨[.dat .str],[],.new,[tpackReader]⟩
def z1F.f (k:Nat) (a0:Ty.D .str):Option (Sg.Out z1F.sg):=Sg.fn z1F.sg (z1F.cx k) z1F.body z1F.rs a0
theorem z1F.f_eq (k:Nat) (a0:Ty.D .str):z1F.f k a0=some ((),(a0,0)):=by kernel_rfl
def z1F.e (k:Nat):Entry:=Sg.entry z1F.sg fun x=>z1F.f k x
theorem z1F.ok (k:Nat):CallOK Tryz.prog 30 (z1F.e k):=fn_ok (c:=z1F.cx k) (code:=z1F.body) (TT.of tt_ok pp_ok mm_ok) (fns_ok trivial) mixed Tryz.func30 (by kernel_rfl) (by kernel_rfl) (by kernel_rfl) (by kernel_rfl) (by kernel_rfl) (by kernel_rfl) (fun x=>by kernel_rfl)
def z0d.body:Go.Code:=Tryz.f98.body.getD .skip
def z0d.rs:List Go.ResultVar:=Tryz.f98.results.toList
def z0d.regs:List (Nat × RInfo):=[(0,ri [0] [1000000]),(1,ri [2] [1000000])]
def z0d.cx (k:Nat):Cx:=⟨tt,pp,[],z0d.regs,k,mm⟩
@[reducible] def z0d.sg:Sg:=⟨[.ref],[tpackReader],.dat .bool,[tpackReader]⟩
def z0d.f (k:Nat) (o0:Ty.D tpackReader):Option (Sg.Out z0d.sg):=Sg.fn z0d.sg (z0d.cx k) z0d.body z0d.rs o0
theorem z0d.f_eq (k:Nat) (o0:Ty.D tpackReader):z0d.f k o0=some ((ieq o0.2 0),o0):=by kernel_rfl
def z0d.e (k:Nat):Entry:=Sg.entry z0d.sg fun x=>z0d.f k x
theorem z0d.ok (k:Nat):CallOK Tryz.prog 98 (z0d.e k):=fn_ok (c:=z0d.cx k) (code:=z0d.body) (TT.of tt_ok pp_ok mm_ok) (fns_ok trivial) mixed Tryz.func98 (by kernel_rfl) (by kernel_rfl) (by kernel_rfl) (by kernel_rfl) (by kernel_rfl) (by kernel_rfl) (fun x=>by kernel_rfl)
def z0f.body:Go.Code:=Tryz.f89.body.getD .skip
def z0f.rs:List Go.ResultVar:=Tryz.f89.results.toList
def z0f.regs:List (Nat × RInfo):=[(0,ri [0,1,5] [5,1000000]),(1,ri [] [1000000])]
def z0f.cx (k:Nat):Cx:=⟨tt,pp,[(98,(z0d.e k))],z0f.regs,k,mm⟩
@[reducible] def z0f.sg:Sg:=⟨[.ref,.dat (.int .i64)],[tpackReader],.unit,[tpackReader]⟩
def z0f.f (k:Nat) (a1:Ty.D (.int .i64)) (o0:Ty.D tpackReader):Option (Sg.Out z0f.sg):=Sg.fn z0f.sg (z0f.cx k) z0f.body z0f.rs (a1,o0)
theorem z0f.f_eq (k:Nat) (a1:Ty.D (.int .i64)) (o0:Ty.D tpackReader):z0f.f k a1 o0=bnd (z0d.f k o0) fun r0=>br r0.1 (some ((),(r0.2.1,a1))) (some ((),r0.2)):=by kernel_rfl
def z0f.e (k:Nat):Entry:=Sg.entry z0f.sg fun x=>z0f.f k x.1 x.2
theorem z0f.ok (k:Nat):CallOK Tryz.prog 89 (z0f.e k):=fn_ok (c:=z0f.cx k) (code:=z0f.body) (TT.of tt_ok pp_ok mm_ok) (fns_ok ⟨(z0d.ok k),trivial⟩) mixed Tryz.func89 (by kernel_rfl) (by kernel_rfl) (by kernel_rfl) (by kernel_rfl) (by kernel_rfl) (by kernel_rfl) (fun x=>by kernel_rfl)
def z0p.body:Go.Code:=Tryz.f87.body.getD .skip
def z0p.rs:List Go.ResultVar:=Tryz.f87.results.toList
def z0p.regs:List (Nat × RInfo):=[(0,ri [0] [1000000]),(1,ri [0,3] [1000000]),(2,ri [0,3,4] [1000000]),(3,⟨[0,3,4,7],[7,1000000],[],[],0,[0,3,4],[1000000],[],[],[]⟩),(5,ri [0,3,4,10] [1000000]),(6,ri [0,3,4] [1000000]),(7,ri [0,3,4,15] [1000000]),(8,ri [0,3,4] [1000000]),(9,ri [0,3,4,5] [1000000]),(10,ri [0,3,4,5] [1000000]),(11,ri [0,3,4,5,39] [1000000]),(12,ri [0,3,4,42] [1000000]),(13,ri [0,3,4] [1000000]),(14,ri [3] [1000000]),(15,ri [2] [1000000]),(4,ri [0,3,4] [1000000]),(16,ri [2] [1000000])]
def z0p.cx (k:Nat):Cx:=⟨tt,pp,[(98,(z0d.e k)),(89,(z0f.e k))],z0p.regs,k,mm⟩
@[reducible] def z0p.sg:Sg:=⟨[.ref],[tpackReader],.dat (.int .i64),[tpackReader]⟩
def z0p.f (k:Nat) (o0:Ty.D tpackReader):Option (Sg.Out z0p.sg):=Sg.fn z0p.sg (z0p.cx k) z0p.body z0p.rs o0
def z0p.l3 (k:Nat) (n:Nat) (x3:Ty.D (.int .i64)) (x4:Ty.D (.int .i64)) (m1000000:Ty.D tpackReader):Option (Sg.Out z0p.sg):=loopAt (z0p.cx k) z0p.body [1,1,0,1,0] 3 [0,3,4] [1000000] [] (Sg.K z0p.sg (z0p.cx k) z0p.rs) n ⟨[(0,.ref 1000000 []),(3,.dat (.int .i64) x3),(4,.dat (.int .i64) x4)],[(1000000,.dat tpackReader m1000000)]⟩
theorem z0p.f_eq (k:Nat) (o0:Ty.D tpackReader):z0p.f k o0=z0p.l3 k k 0 0 o0:=by kernel_rfl
theorem z0p.l3_eq (k:Nat) (n3:Nat) (x3:Ty.D (.int .i64)) (x4:Ty.D (.int .i64)) (m1000000:Ty.D tpackReader):z0p.l3 k (n3+1) x3 x4 m1000000=bnd (z0d.f k m1000000) fun r0=>br r0.1 (br (ieq x4 8) (bnd (z0f.f k 6 r0.2) fun r1=>z0p.l3 k n3 x3 (iadd .i64 x4 1) r1.2) (br (ile (ilen r0.2.1) x4) (bnd (z0f.f k 4 r0.2) fun r2=>z0p.l3 k n3 x3 (iadd .i64 x4 1) r2.2) (br (inL x4 r0.2.1) (br (ilt (imul .i64 7 x4) 0) none (br (ile 128 (iwrap .i64 (byteAt r0.2.1 x4))) (z0p.l3 k n3 (ior .i64 x3 (ishl .i64 (iand .i64 (iwrap .i64 (byteAt r0.2.1 x4)) 127) (imul .i64 7 x4))) (iadd .i64 x4 1) r0.2) (br (ieq (iwrap .i64 (byteAt r0.2.1 x4)) 0) (br (ilt 0 x4) (bnd (z0f.f k 3 r0.2) fun r3=>z0p.l3 k n3 (ior .i64 x3 (ishl .i64 (iand .i64 (iwrap .i64 (byteAt r0.2.1 x4)) 127) (imul .i64 7 x4))) (iadd .i64 x4 1) r3.2) (br (inS (iadd .i64 x4 1) (ilen r0.2.1) (ilen r0.2.1)) (some ((ior .i64 x3 (ishl .i64 (iand .i64 (iwrap .i64 (byteAt r0.2.1 x4)) 127) (imul .i64 7 x4))),((piece r0.2.1 (iadd .i64 x4 1) (ilen r0.2.1)),r0.2.2))) none)) (br (inS (iadd .i64 x4 1) (ilen r0.2.1) (ilen r0.2.1)) (some ((ior .i64 x3 (ishl .i64 (iand .i64 (iwrap .i64 (byteAt r0.2.1 x4)) 127) (imul .i64 7 x4))),((piece r0.2.1 (iadd .i64 x4 1) (ilen r0.2.1)),r0.2.2))) none)))) none))) (some (0,r0.2)):=by kernel_rfl
def z0p.e (k:Nat):Entry:=Sg.entry z0p.sg fun x=>z0p.f k x
theorem z0p.ok (k:Nat):CallOK Tryz.prog 87 (z0p.e k):=fn_ok (c:=z0p.cx k) (code:=z0p.body) (TT.of tt_ok pp_ok mm_ok) (fns_ok ⟨(z0d.ok k),(z0f.ok k),trivial⟩) mixed Tryz.func87 (by kernel_rfl) (by kernel_rfl) (by kernel_rfl) (by kernel_rfl) (by kernel_rfl) (by kernel_rfl) (fun x=>by kernel_rfl)
def z0c.body:Go.Code:=Tryz.f34.body.getD .skip
def z0c.rs:List Go.ResultVar:=Tryz.f34.results.toList
def z0c.regs:List (Nat × RInfo):=[(0,ri [0] [1000000]),(1,ri [0,4] [1000000]),(2,ri [2] [1000000]),(3,ri [2] [1000000])]
def z0c.cx (k:Nat):Cx:=⟨tt,pp,[],z0c.regs,k,mm⟩
@[reducible] def z0c.sg:Sg:=⟨[.ref],[tpackReader],.dat (.int .i64),[tpackReader]⟩
def z0c.f (k:Nat) (o0:Ty.D tpackReader):Option (Sg.Out z0c.sg):=Sg.fn z0c.sg (z0c.cx k) z0c.body z0c.rs o0
theorem z0c.f_eq (k:Nat) (o0:Ty.D tpackReader):z0c.f k o0=some (o0.2,o0):=by kernel_rfl
def z0c.e (k:Nat):Entry:=Sg.entry z0c.sg fun x=>z0c.f k x
theorem z0c.ok (k:Nat):CallOK Tryz.prog 34 (z0c.e k):=fn_ok (c:=z0c.cx k) (code:=z0c.body) (TT.of tt_ok pp_ok mm_ok) (fns_ok trivial) mixed Tryz.func34 (by kernel_rfl) (by kernel_rfl) (by kernel_rfl) (by kernel_rfl) (by kernel_rfl) (by kernel_rfl) (fun x=>by kernel_rfl)
def z27.body:Go.Code:=Tryz.f106.body.getD .skip
def z27.rs:List Go.ResultVar:=Tryz.f106.results.toList
def z27.regs:List (Nat × RInfo):=[(0,ri [0,2] [2,1000000]),(1,ri [0,2,3] [2,3,1000000]),(2,ri [0,2,3,16] [2,3,1000000]),(3,ri [0,2,3] [2,3,1000000]),(4,ri [2,3,21] [2,3,1000000]),(5,ri [2] [2,1000000]),(6,ri [2] [2,1000000])]
def z27.cx (k:Nat):Cx:=⟨tt,pp,[(87,(z0p.e k)),(34,(z0c.e k)),(119,(z1O.e k)),(89,(z0f.e k))],z27.regs,k,mm⟩
@[reducible] def z27.sg:Sg:=⟨[.ref],[tpackReader],.dat tDot,[tpackReader]⟩
def z27.f (k:Nat) (o0:Ty.D tpackReader):Option (Sg.Out z27.sg):=Sg.fn z27.sg (z27.cx k) z27.body z27.rs o0
theorem z27.f_eq (k:Nat) (o0:Ty.D tpackReader):z27.f k o0=bnd (z0p.f k o0) fun r0=>bnd (z0p.f k r0.2) fun r1=>bnd (z0c.f k r1.2) fun r2=>br (ieq r2.1 0) (bnd (z1O.f k (r0.1,r1.1)) fun r3=>br (bnot r3) (bnd (z0f.f k 2 r2.2) fun r4=>bnd (z0c.f k r4.2) fun r5=>br (bnot (ieq r5.1 0)) (some ((0,0),r5.2)) (some ((r0.1,r1.1),r5.2))) (bnd (z0c.f k r2.2) fun r6=>br (bnot (ieq r6.1 0)) (some ((0,0),r6.2)) (some ((r0.1,r1.1),r6.2)))) (bnd (z0c.f k r2.2) fun r7=>br (bnot (ieq r7.1 0)) (some ((0,0),r7.2)) (some ((r0.1,r1.1),r7.2))):=by kernel_rfl
def z27.e (k:Nat):Entry:=Sg.entry z27.sg fun x=>z27.f k x
theorem z27.ok (k:Nat):CallOK Tryz.prog 106 (z27.e k):=fn_ok (c:=z27.cx k) (code:=z27.body) (TT.of tt_ok pp_ok mm_ok) (fns_ok ⟨(z0p.ok k),(z0c.ok k),(z1O.ok k),(z0f.ok k),trivial⟩) mixed Tryz.func106 (by kernel_rfl) (by kernel_rfl) (by kernel_rfl) (by kernel_rfl) (by kernel_rfl) (by kernel_rfl) (fun x=>by kernel_rfl)
def z0k.body:Go.Code:=Tryz.f161.body.getD .skip
def z0k.rs:List Go.ResultVar:=Tryz.f161.results.toList
def z0k.regs:List (Nat × RInfo):=[(0,ri [0,1] [1000000]),(1,ri [0,1,5] [7,1000000]),(2,ri [0,1,5,8] [7,1000000]),(3,ri [4] [7,1000000]),(4,ri [0,5,12] [7,1000000]),(5,ri [] [1000000]),(6,ri [4] [7,1000000]),(7,ri [0,5,18] [7,1000000]),(8,ri [] [1000000]),(9,ri [4] [7,1000000]),(10,ri [4] [7,1000000])]
def z0k.cx (k:Nat):Cx:=⟨tt,pp,[(87,(z0p.e k)),(98,(z0d.e k)),(89,(z0f.e k))],z0k.regs,k,mm⟩
@[reducible] def z0k.sg:Sg:=⟨[.ref,.dat (.int .i64)],[tpackReader],.dat (.int .i64),[tpackReader]⟩
def z0k.f (k:Nat) (a1:Ty.D (.int .i64)) (o0:Ty.D tpackReader):Option (Sg.Out z0k.sg):=Sg.fn z0k.sg (z0k.cx k) z0k.body z0k.rs (a1,o0)
theorem z0k.f_eq (k:Nat) (a1:Ty.D (.int .i64)) (o0:Ty.D tpackReader):z0k.f k a1 o0=bnd (z0p.f k o0) fun r0=>bnd (z0d.f k r0.2) fun r1=>br (bnot r1.1) (some (0,r1.2)) (br (ilt a1 r0.1) (bnd (z0f.f k 6 r1.2) fun r2=>some (0,r2.2)) (br (ilt (ilen r1.2.1) r0.1) (bnd (z0f.f k 4 r1.2) fun r3=>some (0,r3.2)) (some (r0.1,r1.2)))):=by kernel_rfl
def z0k.e (k:Nat):Entry:=Sg.entry z0k.sg fun x=>z0k.f k x.1 x.2
theorem z0k.ok (k:Nat):CallOK Tryz.prog 161 (z0k.e k):=fn_ok (c:=z0k.cx k) (code:=z0k.body) (TT.of tt_ok pp_ok mm_ok) (fns_ok ⟨(z0p.ok k),(z0d.ok k),(z0f.ok k),trivial⟩) mixed Tryz.func161 (by kernel_rfl) (by kernel_rfl) (by kernel_rfl) (by kernel_rfl) (by kernel_rfl) (by kernel_rfl) (fun x=>by kernel_rfl)
def z0g.body:Go.Code:=Tryz.f241.body.getD .skip
def z0g.rs:List Go.ResultVar:=Tryz.f241.results.toList
def z0g.regs:List (Nat × RInfo):=[(0,ri [0] [1000000]),(1,ri [0,3] [6,1000000]),(2,ri [0,3,17] [6,8,1000000]),(3,ri [0,3] [6,1000000]),(4,ri [0,3,22] [6,1000000]),(5,ri [2] [6,1000000]),(6,ri [0,3,4] [6,1000000]),(7,ri [4] [6,1000000]),(8,ri [2] [6,1000000])]
def z0g.cx (k:Nat):Cx:=⟨tt,pp,[(87,(z0p.e k)),(98,(z0d.e k)),(89,(z0f.e k))],z0g.regs,k,mm⟩
@[reducible] def z0g.sg:Sg:=⟨[.ref],[tpackReader],.dat .str,[tpackReader]⟩
def z0g.f (k:Nat) (o0:Ty.D tpackReader):Option (Sg.Out z0g.sg):=Sg.fn z0g.sg (z0g.cx k) z0g.body z0g.rs o0
theorem z0g.f_eq (k:Nat) (o0:Ty.D tpackReader):z0g.f k o0=bnd (z0p.f k o0) fun r0=>bnd (z0d.f k r0.2) fun r1=>br r1.1 (br (ilt (ilen r1.2.1) r0.1) (bnd (z0f.f k 4 r1.2) fun r2=>bnd (z0d.f k r2.2) fun r3=>br (bnot r3.1) (some ([],r3.2)) (br (inS 0 r0.1 (ilen r3.2.1)) (br (inS r0.1 (ilen r3.2.1) (ilen r3.2.1)) (some ((piece r3.2.1 0 r0.1),((piece r3.2.1 r0.1 (ilen r3.2.1)),r3.2.2))) none) none)) (bnd (z0d.f k r1.2) fun r4=>br (bnot r4.1) (some ([],r4.2)) (br (inS 0 r0.1 (ilen r4.2.1)) (br (inS r0.1 (ilen r4.2.1) (ilen r4.2.1)) (some ((piece r4.2.1 0 r0.1),((piece r4.2.1 r0.1 (ilen r4.2.1)),r4.2.2))) none) none))) (bnd (z0d.f k r1.2) fun r5=>br (bnot r5.1) (some ([],r5.2)) (br (inS 0 r0.1 (ilen r5.2.1)) (br (inS r0.1 (ilen r5.2.1) (ilen r5.2.1)) (some ((piece r5.2.1 0 r0.1),((piece r5.2.1 r0.1 (ilen r5.2.1)),r5.2.2))) none) none)):=by kernel_rfl
def z0g.e (k:Nat):Entry:=Sg.entry z0g.sg fun x=>z0g.f k x
theorem z0g.ok (k:Nat):CallOK Tryz.prog 241 (z0g.e k):=fn_ok (c:=z0g.cx k) (code:=z0g.body) (TT.of tt_ok pp_ok mm_ok) (fns_ok ⟨(z0p.ok k),(z0d.ok k),(z0f.ok k),trivial⟩) mixed Tryz.func241 (by kernel_rfl) (by kernel_rfl) (by kernel_rfl) (by kernel_rfl) (by kernel_rfl) (by kernel_rfl) (fun x=>by kernel_rfl)
def z2c.body:Go.Code:=Tryz.f247.body.getD .skip
def z2c.rs:List Go.ResultVar:=Tryz.f247.results.toList
def z2c.regs:List (Nat × RInfo):=[(0,ri [0] []),(1,ri [0,3] []),(2,ri [0,3] []),(3,ri [2] []),(4,ri [2] [])]
def z2c.cx (k:Nat):Cx:=⟨tt,pp,[],z2c.regs,k,mm⟩
@[reducible] def z2c.sg:Sg:=⟨[.dat (.int .i32)],[],.dat .bool,[]⟩
def z2c.f (k:Nat) (a0:Ty.D (.int .i32)):Option (Sg.Out z2c.sg):=Sg.fn z2c.sg (z2c.cx k) z2c.body z2c.rs a0
theorem z2c.f_eq (k:Nat) (a0:Ty.D (.int .i32)):z2c.f k a0=br (ilt a0 32) (br (ilt a0 32) (some false) (some (bnot (ieq a0 65533)))) (br (ile 127 a0) (br (ilt a0 160) (some false) (some (bnot (ieq a0 65533)))) (some (bnot (ieq a0 65533)))):=by kernel_rfl
def z2c.e (k:Nat):Entry:=Sg.entry z2c.sg fun x=>z2c.f k x
theorem z2c.ok (k:Nat):CallOK Tryz.prog 247 (z2c.e k):=fn_ok (c:=z2c.cx k) (code:=z2c.body) (TT.of tt_ok pp_ok mm_ok) (fns_ok trivial) mixed Tryz.func247 (by kernel_rfl) (by kernel_rfl) (by kernel_rfl) (by kernel_rfl) (by kernel_rfl) (by kernel_rfl) (fun x=>by kernel_rfl)
def z1a.body:Go.Code:=Tryz.f223.body.getD .skip
def z1a.rs:List Go.ResultVar:=Tryz.f223.results.toList
def z1a.regs:List (Nat × RInfo):=[(0,ri [0] []),(1,⟨[3,4],[9],[5],[],0,[],[],[],[],[]⟩),(2,ri [3,23] [9]),(3,ri [2] []),(4,ri [24,25,26] [9]),(5,⟨[24,25,26,27],[9],[],[],0,[24,25,26],[9],[],[],[]⟩),(6,ri [6,24,25,26] [9]),(7,ri [24,25,26,32] [9]),(8,ri [2] []),(9,ri [24,25,26] [9]),(10,ri [2] [])]
def z1a.cx (k:Nat):Cx:=⟨tt,pp,[(246,runesE),(247,(z2c.e k))],z1a.regs,k,mm⟩
@[reducible] def z1a.sg:Sg:=⟨[.dat .str],[],.dat .bool,[]⟩
def z1a.f (k:Nat) (a0:Ty.D .str):Option (Sg.Out z1a.sg):=Sg.fn z1a.sg (z1a.cx k) z1a.body z1a.rs a0
def z1a.l5 (k:Nat) (n:Nat) (x24:Ty.D (.slc (.int .i32))) (x25:Ty.D (.int .i64)) (x26:Ty.D (.int .i64)):Option (Sg.Out z1a.sg):=loopAt (z1a.cx k) z1a.body [1,1,1,0,1,0] 5 [24,25,26] [9] [] (Sg.K z1a.sg (z1a.cx k) z1a.rs) n ⟨[(24,.dat (.slc (.int .i32)) x24),(25,.dat (.int .i64) x25),(26,.dat (.int .i64) x26)],[]⟩
theorem z1a.f_eq (k:Nat) (a0:Ty.D .str):z1a.f k a0=bnd (runesB a0) fun r0=>br (bnot r0.2) (some false) (br (ieq (ilen r0.1) 0) (some false) (br (ilt 24 (ilen r0.1)) (some false) (z1a.l5 k k r0.1 (ilen r0.1) 0))):=by kernel_rfl
theorem z1a.l5_eq (k:Nat) (n5:Nat) (x24:Ty.D (.slc (.int .i32))) (x25:Ty.D (.int .i64)) (x26:Ty.D (.int .i64)):z1a.l5 k (n5+1) x24 x25 x26=br (ilt x26 x25) (br (inL x26 x24) (bnd (z2c.f k (rd (.int .i32) x24 (natOf x26))) fun r0=>br (bnot r0) (some false) (z1a.l5 k n5 x24 x25 (iadd .i64 x26 1))) none) (some true):=by kernel_rfl
def z1a.e (k:Nat):Entry:=Sg.entry z1a.sg fun x=>z1a.f k x
theorem z1a.ok (k:Nat):CallOK Tryz.prog 223 (z1a.e k):=fn_ok (c:=z1a.cx k) (code:=z1a.body) (TT.of tt_ok pp_ok mm_ok) (fns_ok ⟨runes_ok,(z2c.ok k),trivial⟩) mixed Tryz.func223 (by kernel_rfl) (by kernel_rfl) (by kernel_rfl) (by kernel_rfl) (by kernel_rfl) (by kernel_rfl) (fun x=>by kernel_rfl)
def z0B.body:Go.Code:=Tryz.f222.body.getD .skip
def z0B.rs:List Go.ResultVar:=Tryz.f222.results.toList
def z0B.regs:List (Nat × RInfo):=[(0,ri [0] []),(1,ri [2] [])]
def z0B.cx (k:Nat):Cx:=⟨tt,pp,[(223,(z1a.e k))],z0B.regs,k,mm⟩
@[reducible] def z0B.sg:Sg:=⟨[.dat .str],[],.dat .bool,[]⟩
def z0B.f (k:Nat) (a0:Ty.D .str):Option (Sg.Out z0B.sg):=Sg.fn z0B.sg (z0B.cx k) z0B.body z0B.rs a0
theorem z0B.f_eq (k:Nat) (a0:Ty.D .str):z0B.f k a0=bnd (z1a.f k a0) fun r0=>some (bnot r0):=by kernel_rfl
def z0B.e (k:Nat):Entry:=Sg.entry z0B.sg fun x=>z0B.f k x
theorem z0B.ok (k:Nat):CallOK Tryz.prog 222 (z0B.e k):=fn_ok (c:=z0B.cx k) (code:=z0B.body) (TT.of tt_ok pp_ok mm_ok) (fns_ok ⟨(z1a.ok k),trivial⟩) mixed Tryz.func222 (by kernel_rfl) (by kernel_rfl) (by kernel_rfl) (by kernel_rfl) (by kernel_rfl) (by kernel_rfl) (fun x=>by kernel_rfl)
def z09.body:Go.Code:=Tryz.f245.body.getD .skip
def z09.rs:List Go.ResultVar:=Tryz.f245.results.toList
def z09.regs:List (Nat × RInfo):=[(0,ri [0,1] []),(1,ri [0,1,7,8] []),(2,⟨[0,1,7,8,9],[],[],[],0,[0,1,7,8],[],[],[],[]⟩),(3,ri [0,1,5,7,8] []),(4,ri [0,1,5,7,8,16] [16]),(5,ri [4] []),(6,ri [0,1,7,8] []),(7,ri [4] [])]
def z09.cx (k:Nat):Cx:=⟨tt,pp,[(222,(z0B.e k))],z09.regs,k,mm⟩
@[reducible] def z09.sg:Sg:=⟨[.dat (.slc .str),.fn 222 0],[],.dat (.int .i64),[]⟩
def z09.f (k:Nat) (a0:Ty.D (.slc .str)):Option (Sg.Out z09.sg):=Sg.fn z09.sg (z09.cx k) z09.body z09.rs a0
def z09.l2 (k:Nat) (n:Nat) (x0:Ty.D (.slc .str)) (x7:Ty.D (.int .i64)) (x8:Ty.D (.int .i64)):Option (Sg.Out z09.sg):=loopAt (z09.cx k) z09.body [1,0,1,0] 2 [0,1,7,8] [] [] (Sg.K z09.sg (z09.cx k) z09.rs) n ⟨[(0,.dat (.slc .str) x0),(1,.fn 222 []),(7,.dat (.int .i64) x7),(8,.dat (.int .i64) x8)],[]⟩
theorem z09.f_eq (k:Nat) (a0:Ty.D (.slc .str)):z09.f k a0=z09.l2 k k a0 (ilen a0) 0:=by kernel_rfl
theorem z09.l2_eq (k:Nat) (n2:Nat) (x0:Ty.D (.slc .str)) (x7:Ty.D (.int .i64)) (x8:Ty.D (.int .i64)):z09.l2 k (n2+1) x0 x7 x8=br (ilt x8 x7) (br (inL x8 x0) (bnd (z0B.f k (rd .str x0 (natOf x8))) fun r0=>br r0 (some x8) (z09.l2 k n2 x0 x7 (iadd .i64 x8 1))) none) (some (-1)):=by kernel_rfl
def z09.e (k:Nat):Entry:=Sg.entry z09.sg fun x=>z09.f k x
theorem z09.ok (k:Nat):CallOK Tryz.prog 245 (z09.e k):=fn_ok (c:=z09.cx k) (code:=z09.body) (TT.of tt_ok pp_ok mm_ok) (fns_ok ⟨(z0B.ok k),trivial⟩) mixed Tryz.func245 (by kernel_rfl) (by kernel_rfl) (by kernel_rfl) (by kernel_rfl) (by kernel_rfl) (by kernel_rfl) (fun x=>by kernel_rfl)
def z07.body:Go.Code:=Tryz.f221.body.getD .skip
def z07.rs:List Go.ResultVar:=Tryz.f221.results.toList
def z07.regs:List (Nat × RInfo):=[(0,ri [0,1] []),(1,ri [4] [])]
def z07.cx (k:Nat):Cx:=⟨tt,pp,[(245,(z09.e k)),(222,(z0B.e k))],z07.regs,k,mm⟩
@[reducible] def z07.sg:Sg:=⟨[.dat (.slc .str),.fn 222 0],[],.dat .bool,[]⟩
def z07.f (k:Nat) (a0:Ty.D (.slc .str)):Option (Sg.Out z07.sg):=Sg.fn z07.sg (z07.cx k) z07.body z07.rs a0
theorem z07.f_eq (k:Nat) (a0:Ty.D (.slc .str)):z07.f k a0=bnd (z09.f k a0) fun r0=>some (ile 0 r0):=by kernel_rfl
def z07.e (k:Nat):Entry:=Sg.entry z07.sg fun x=>z07.f k x
theorem z07.ok (k:Nat):CallOK Tryz.prog 221 (z07.e k):=fn_ok (c:=z07.cx k) (code:=z07.body) (TT.of tt_ok pp_ok mm_ok) (fns_ok ⟨(z09.ok k),(z0B.ok k),trivial⟩) mixed Tryz.func221 (by kernel_rfl) (by kernel_rfl) (by kernel_rfl) (by kernel_rfl) (by kernel_rfl) (by kernel_rfl) (fun x=>by kernel_rfl)
def z1f.body:Go.Code:=Tryz.f172.body.getD .skip
def z1f.rs:List Go.ResultVar:=Tryz.f172.results.toList
def z1f.regs:List (Nat × RInfo):=[(0,ri [0] []),(1,ri [0,3] []),(2,ri [2] []),(3,ri [0,7] []),(4,ri [2] []),(5,ri [11] [13]),(6,ri [2] []),(7,ri [2] [])]
def z1f.cx (k:Nat):Cx:=⟨tt,pp,[(221,(z07.e k)),(222,(z0B.e k))],z1f.regs,k,mm⟩
@[reducible] def z1f.sg:Sg:=⟨[.dat (.slc .str)],[],.dat (.int .i64),[]⟩
def z1f.f (k:Nat) (a0:Ty.D (.slc .str)):Option (Sg.Out z1f.sg):=Sg.fn z1f.sg (z1f.cx k) z1f.body z1f.rs a0
theorem z1f.f_eq (k:Nat) (a0:Ty.D (.slc .str)):z1f.f k a0=br (ieq (ilen a0) 0) (some 8) (br (ilt 8 (ilen a0)) (some 9) (bnd (z07.f k a0) fun r0=>br r0 (some 8) (some 0))):=by kernel_rfl
def z1f.e (k:Nat):Entry:=Sg.entry z1f.sg fun x=>z1f.f k x
theorem z1f.ok (k:Nat):CallOK Tryz.prog 172 (z1f.e k):=fn_ok (c:=z1f.cx k) (code:=z1f.body) (TT.of tt_ok pp_ok mm_ok) (fns_ok ⟨(z07.ok k),(z0B.ok k),trivial⟩) mixed Tryz.func172 (by kernel_rfl) (by kernel_rfl) (by kernel_rfl) (by kernel_rfl) (by kernel_rfl) (by kernel_rfl) (fun x=>by kernel_rfl)
def z1H.body:Go.Code:=Tryz.f209.body.getD .skip
def z1H.rs:List Go.ResultVar:=Tryz.f209.results.toList
def z1H.regs:List (Nat × RInfo):=[(0,ri [0] [1000000]),(1,ri [0,3] [1000000]),(2,ri [0,3,5,6] [5,1000000]),(3,⟨[0,3,5,6,7],[5,1000000],[],[],0,[0,3,5,6],[5,1000000],[],[],[]⟩),(4,⟨[0,3,5,6],[5,1000000],[0,4,5],[],0,[],[],[],[],[]⟩),(5,ri [0,3,5,6] [5,1000000]),(6,ri [0,3,16] [1000000]),(7,ri [0,3] [1000000]),(8,ri [3,23] [1000000]),(9,ri [2] [1000000]),(10,⟨[2],[1000000],[0,1],[],0,[],[],[],[],[]⟩)]
def z1H.cx (k:Nat):Cx:=⟨tt,pp,[(161,(z0k.e k)),(241,(z0g.e k)),(34,(z0c.e k)),(172,(z1f.e k)),(89,(z0f.e k))],z1H.regs,k,mm⟩
@[reducible] def z1H.sg:Sg:=⟨[.ref],[tpackReader],.own .str,[tpackReader]⟩
def z1H.f (k:Nat) (o0:Ty.D tpackReader):Option (Sg.Out z1H.sg):=Sg.fn z1H.sg (z1H.cx k) z1H.body z1H.rs o0
def z1H.l3 (k:Nat) (n:Nat) (x3:List (Ty.D .str)) (x5:Ty.D (.int .i64)) (x6:Ty.D (.int .i64)) (m1000000:Ty.D tpackReader):Option (Sg.Out z1H.sg):=loopAt (z1H.cx k) z1H.body [1,1,0,1,0] 3 [0,3,5,6] [5,1000000] [] (Sg.K z1H.sg (z1H.cx k) z1H.rs) n ⟨[(0,.ref 1000000 []),(3,.own .str x3),(5,.dat (.int .i64) x5),(6,.dat (.int .i64) x6)],[(1000000,.dat tpackReader m1000000)]⟩
theorem z1H.f_eq (k:Nat) (o0:Ty.D tpackReader):z1H.f k o0=bnd (z0k.f k 8 o0) fun r0=>z1H.l3 k k [] r0.1 0 r0.2:=by kernel_rfl
theorem z1H.l3_eq (k:Nat) (n3:Nat) (x3:List (Ty.D .str)) (x5:Ty.D (.int .i64)) (x6:Ty.D (.int .i64)) (m1000000:Ty.D tpackReader):z1H.l3 k (n3+1) x3 x5 x6 m1000000=br (ilt x6 x5) (bnd (z0g.f k m1000000) fun r0=>br (room x3 (r0.1::[])) (z1H.l3 k n3 (app x3 (r0.1::[])) x5 (iadd .i64 x6 1) r0.2) none) (bnd (z0c.f k m1000000) fun r1=>br (ieq r1.1 0) (bnd (z1f.f k x3) fun r2=>bnd (z0f.f k r2 r1.2) fun r3=>bnd (z0c.f k r3.2) fun r4=>br (bnot (ieq r4.1 0)) (some ([],r4.2)) (some (x3,r4.2))) (bnd (z0c.f k r1.2) fun r5=>br (bnot (ieq r5.1 0)) (some ([],r5.2)) (some (x3,r5.2)))):=by kernel_rfl
def z1H.e (k:Nat):Entry:=Sg.entry z1H.sg fun x=>z1H.f k x
theorem z1H.ok (k:Nat):CallOK Tryz.prog 209 (z1H.e k):=fn_ok (c:=z1H.cx k) (code:=z1H.body) (TT.of tt_ok pp_ok mm_ok) (fns_ok ⟨(z0k.ok k),(z0g.ok k),(z0c.ok k),(z1f.ok k),(z0f.ok k),trivial⟩) mixed Tryz.func209 (by kernel_rfl) (by kernel_rfl) (by kernel_rfl) (by kernel_rfl) (by kernel_rfl) (by kernel_rfl) (fun x=>by kernel_rfl)
def z0A.body:Go.Code:=Tryz.f210.body.getD .skip
def z0A.rs:List Go.ResultVar:=Tryz.f210.results.toList
def z0A.regs:List (Nat × RInfo):=[(0,ri [0] []),(1,ri [0,5] []),(2,ri [2] []),(3,ri [2] [])]
def z0A.cx (k:Nat):Cx:=⟨tt,pp,[],z0A.regs,k,mm⟩
@[reducible] def z0A.sg:Sg:=⟨[.dat (.int .i64)],[],.dat (.int .i64),[]⟩
def z0A.f (k:Nat) (a0:Ty.D (.int .i64)):Option (Sg.Out z0A.sg):=Sg.fn z0A.sg (z0A.cx k) z0A.body z0A.rs a0
theorem z0A.f_eq (k:Nat) (a0:Ty.D (.int .i64)):z0A.f k a0=br (ieq (irem a0 2) 1) (some (iquo .i64 (isub .i64 0 (iadd .i64 a0 1)) 2)) (some (iquo .i64 a0 2)):=by kernel_rfl
def z0A.e (k:Nat):Entry:=Sg.entry z0A.sg fun x=>z0A.f k x
theorem z0A.ok (k:Nat):CallOK Tryz.prog 210 (z0A.e k):=fn_ok (c:=z0A.cx k) (code:=z0A.body) (TT.of tt_ok pp_ok mm_ok) (fns_ok trivial) mixed Tryz.func210 (by kernel_rfl) (by kernel_rfl) (by kernel_rfl) (by kernel_rfl) (by kernel_rfl) (by kernel_rfl) (fun x=>by kernel_rfl)
def z0Y.body:Go.Code:=Tryz.f224.body.getD .skip
def z0Y.rs:List Go.ResultVar:=Tryz.f224.results.toList
def z0Y.regs:List (Nat × RInfo):=[(0,ri [1] [1]),(1,ri [1,6] [1]),(2,ri [1,6,7] [1]),(3,ri [2] [27]),(4,ri [1,6,22] [1]),(5,⟨[1,4],[1,27],[6],[],0,[],[],[],[],[]⟩),(6,ri [2] [27]),(7,ri [1,42] [1]),(8,ri [2] [27]),(9,ri [2] [27])]
def z0Y.cx (k:Nat):Cx:=⟨tt,pp,[(246,runesE)],z0Y.regs,k,mm⟩
@[reducible] def z0Y.sg:Sg:=⟨[.dat tValue],[],.dat .bool,[]⟩
def z0Y.f (k:Nat) (a0:Ty.D tValue):Option (Sg.Out z0Y.sg):=Sg.fn z0Y.sg (z0Y.cx k) z0Y.body z0Y.rs a0
theorem z0Y.f_eq (k:Nat) (a0:Ty.D tValue):z0Y.f k a0=br (ieq a0.1 1) (br (seq a0.2.2 []) (br (ile (-2147483647) a0.2.1) (some (ile a0.2.1 2147483647)) (some false)) (some false)) (br (ieq a0.1 2) (bnd (runesB a0.2.2) fun r0=>br r0.2 (br (ieq a0.2.1 0) (some (ile (ilen a0.2.2) 64)) (some false)) (some false)) (br (ieq a0.1 3) (br (seq a0.2.2 []) (br (ieq a0.2.1 0) (some true) (some (ieq a0.2.1 1))) (some false)) (some false))):=by kernel_rfl
def z0Y.e (k:Nat):Entry:=Sg.entry z0Y.sg fun x=>z0Y.f k x
theorem z0Y.ok (k:Nat):CallOK Tryz.prog 224 (z0Y.e k):=fn_ok (c:=z0Y.cx k) (code:=z0Y.body) (TT.of tt_ok pp_ok mm_ok) (fns_ok ⟨runes_ok,trivial⟩) mixed Tryz.func224 (by kernel_rfl) (by kernel_rfl) (by kernel_rfl) (by kernel_rfl) (by kernel_rfl) (by kernel_rfl) (fun x=>by kernel_rfl)
def z1y.body:Go.Code:=Tryz.f211.body.getD .skip
def z1y.rs:List Go.ResultVar:=Tryz.f211.results.toList
def z1y.regs:List (Nat × RInfo):=[(0,ri [0,2] [2,1000000]),(1,ri [0,2,3] [2,3,1000000]),(2,ri [0,2,3,9] [2,3,1000000]),(3,ri [0,2,3] [2,3,1000000]),(4,ri [0,2,3] [2,3,1000000]),(5,ri [0,2,3,24] [2,3,1000000]),(6,ri [0,2,3] [2,3,1000000]),(7,ri [2,3,29] [2,3,1000000]),(8,ri [2] [2,1000000]),(9,ri [2] [2,1000000])]
def z1y.cx (k:Nat):Cx:=⟨tt,pp,[(87,(z0p.e k)),(241,(z0g.e k)),(210,(z0A.e k)),(34,(z0c.e k)),(224,(z0Y.e k)),(89,(z0f.e k))],z1y.regs,k,mm⟩
@[reducible] def z1y.sg:Sg:=⟨[.ref],[tpackReader],.dat tValue,[tpackReader]⟩
def z1y.f (k:Nat) (o0:Ty.D tpackReader):Option (Sg.Out z1y.sg):=Sg.fn z1y.sg (z1y.cx k) z1y.body z1y.rs o0
theorem z1y.f_eq (k:Nat) (o0:Ty.D tpackReader):z1y.f k o0=bnd (z0p.f k o0) fun r0=>br (ieq r0.1 2) (bnd (z0g.f k r0.2) fun r1=>bnd (z0c.f k r1.2) fun r2=>br (ieq r2.1 0) (bnd (z0Y.f k (r0.1,(0,r1.1))) fun r3=>br (bnot r3) (bnd (z0f.f k 2 r2.2) fun r4=>bnd (z0c.f k r4.2) fun r5=>br (bnot (ieq r5.1 0)) (some ((0,(0,[])),r5.2)) (some ((r0.1,(0,r1.1)),r5.2))) (bnd (z0c.f k r2.2) fun r6=>br (bnot (ieq r6.1 0)) (some ((0,(0,[])),r6.2)) (some ((r0.1,(0,r1.1)),r6.2)))) (bnd (z0c.f k r2.2) fun r7=>br (bnot (ieq r7.1 0)) (some ((0,(0,[])),r7.2)) (some ((r0.1,(0,r1.1)),r7.2)))) (bnd (z0p.f k r0.2) fun r8=>bnd (z0A.f k r8.1) fun r9=>bnd (z0c.f k r8.2) fun r10=>br (ieq r10.1 0) (bnd (z0Y.f k (r0.1,(r9,[]))) fun r11=>br (bnot r11) (bnd (z0f.f k 2 r10.2) fun r12=>bnd (z0c.f k r12.2) fun r13=>br (bnot (ieq r13.1 0)) (some ((0,(0,[])),r13.2)) (some ((r0.1,(r9,[])),r13.2))) (bnd (z0c.f k r10.2) fun r14=>br (bnot (ieq r14.1 0)) (some ((0,(0,[])),r14.2)) (some ((r0.1,(r9,[])),r14.2)))) (bnd (z0c.f k r10.2) fun r15=>br (bnot (ieq r15.1 0)) (some ((0,(0,[])),r15.2)) (some ((r0.1,(r9,[])),r15.2)))):=by kernel_rfl
def z1y.e (k:Nat):Entry:=Sg.entry z1y.sg fun x=>z1y.f k x
theorem z1y.ok (k:Nat):CallOK Tryz.prog 211 (z1y.e k):=fn_ok (c:=z1y.cx k) (code:=z1y.body) (TT.of tt_ok pp_ok mm_ok) (fns_ok ⟨(z0p.ok k),(z0g.ok k),(z0A.ok k),(z0c.ok k),(z0Y.ok k),(z0f.ok k),trivial⟩) mixed Tryz.func211 (by kernel_rfl) (by kernel_rfl) (by kernel_rfl) (by kernel_rfl) (by kernel_rfl) (by kernel_rfl) (fun x=>by kernel_rfl)
def z2i.body:Go.Code:=Tryz.f212.body.getD .skip
def z2i.rs:List Go.ResultVar:=Tryz.f212.results.toList
def z2i.regs:List (Nat × RInfo):=[(0,ri [0] [1000000]),(1,ri [0,3] [1000000]),(2,ri [0,3,5,6] [5,1000000]),(3,⟨[0,3,5,6,7],[5,1000000],[],[],0,[0,3,5,6],[5,1000000],[],[],[]⟩),(4,⟨[0,3,5,6],[5,1000000],[0,7,8],[],0,[],[],[],[],[]⟩),(5,ri [0,3,5,6] [5,1000000]),(6,⟨[2],[1000000],[0,1],[],0,[],[],[],[],[]⟩)]
def z2i.cx (k:Nat):Cx:=⟨tt,pp,[(161,(z0k.e k)),(106,(z27.e k)),(87,(z0p.e k))],z2i.regs,k,mm⟩
@[reducible] def z2i.sg:Sg:=⟨[.ref],[tpackReader],.own tUndo,[tpackReader]⟩
def z2i.f (k:Nat) (o0:Ty.D tpackReader):Option (Sg.Out z2i.sg):=Sg.fn z2i.sg (z2i.cx k) z2i.body z2i.rs o0
def z2i.l3 (k:Nat) (n:Nat) (x3:List (Ty.D tUndo)) (x5:Ty.D (.int .i64)) (x6:Ty.D (.int .i64)) (m1000000:Ty.D tpackReader):Option (Sg.Out z2i.sg):=loopAt (z2i.cx k) z2i.body [1,1,0,1,0] 3 [0,3,5,6] [5,1000000] [] (Sg.K z2i.sg (z2i.cx k) z2i.rs) n ⟨[(0,.ref 1000000 []),(3,.own tUndo x3),(5,.dat (.int .i64) x5),(6,.dat (.int .i64) x6)],[(1000000,.dat tpackReader m1000000)]⟩
theorem z2i.f_eq (k:Nat) (o0:Ty.D tpackReader):z2i.f k o0=bnd (z0k.f k 256 o0) fun r0=>z2i.l3 k k [] r0.1 0 r0.2:=by kernel_rfl
theorem z2i.l3_eq (k:Nat) (n3:Nat) (x3:List (Ty.D tUndo)) (x5:Ty.D (.int .i64)) (x6:Ty.D (.int .i64)) (m1000000:Ty.D tpackReader):z2i.l3 k (n3+1) x3 x5 x6 m1000000=br (ilt x6 x5) (bnd (z27.f k m1000000) fun r0=>bnd (z0p.f k r0.2) fun r1=>br (room x3 ((r0.1,r1.1)::[])) (z2i.l3 k n3 (app x3 ((r0.1,r1.1)::[])) x5 (iadd .i64 x6 1) r1.2) none) (some (x3,m1000000)):=by kernel_rfl
def z2i.e (k:Nat):Entry:=Sg.entry z2i.sg fun x=>z2i.f k x
theorem z2i.ok (k:Nat):CallOK Tryz.prog 212 (z2i.e k):=fn_ok (c:=z2i.cx k) (code:=z2i.body) (TT.of tt_ok pp_ok mm_ok) (fns_ok ⟨(z0k.ok k),(z27.ok k),(z0p.ok k),trivial⟩) mixed Tryz.func212 (by kernel_rfl) (by kernel_rfl) (by kernel_rfl) (by kernel_rfl) (by kernel_rfl) (by kernel_rfl) (fun x=>by kernel_rfl)
def z1S.body:Go.Code:=Tryz.f173.body.getD .skip
def z1S.rs:List Go.ResultVar:=Tryz.f173.results.toList
def z1S.regs:List (Nat × RInfo):=[(0,⟨[1],[1],[0],[],0,[],[],[],[],[]⟩),(1,ri [1,10] [1]),(2,ri [2] [17]),(3,ri [2] [17])]
def z1S.cx (k:Nat):Cx:=⟨tt,pp,[(224,(z0Y.e k))],z1S.regs,k,mm⟩
@[reducible] def z1S.sg:Sg:=⟨[.dat tOp],[],.dat .bool,[]⟩
def z1S.f (k:Nat) (a0:Ty.D tOp):Option (Sg.Out z1S.sg):=Sg.fn z1S.sg (z1S.cx k) z1S.body z1S.rs a0
theorem z1S.f_eq (k:Nat) (a0:Ty.D tOp):z1S.f k a0=br (ieq a0.1 3) (some (deq tValue a0.2.2.1 (0,(0,[])))) (br (ieq a0.1 5) (some (deq tValue a0.2.2.1 (0,(0,[])))) (bnd (z0Y.f k a0.2.2.1) fun r0=>some r0)):=by kernel_rfl
def z1S.e (k:Nat):Entry:=Sg.entry z1S.sg fun x=>z1S.f k x
theorem z1S.ok (k:Nat):CallOK Tryz.prog 173 (z1S.e k):=fn_ok (c:=z1S.cx k) (code:=z1S.body) (TT.of tt_ok pp_ok mm_ok) (fns_ok ⟨(z0Y.ok k),trivial⟩) mixed Tryz.func173 (by kernel_rfl) (by kernel_rfl) (by kernel_rfl) (by kernel_rfl) (by kernel_rfl) (by kernel_rfl) (fun x=>by kernel_rfl)
def z1V.body:Go.Code:=Tryz.f174.body.getD .skip
def z1V.rs:List Go.ResultVar:=Tryz.f174.results.toList
def z1V.regs:List (Nat × RInfo):=[(0,⟨[1],[1],[0],[],0,[],[],[],[],[]⟩),(1,ri [1,5] [1]),(2,ri [2] []),(3,ri [2] [])]
def z1V.cx (k:Nat):Cx:=⟨tt,pp,[],z1V.regs,k,mm⟩
@[reducible] def z1V.sg:Sg:=⟨[.dat tOp],[],.dat .bool,[]⟩
def z1V.f (k:Nat) (a0:Ty.D tOp):Option (Sg.Out z1V.sg):=Sg.fn z1V.sg (z1V.cx k) z1V.body z1V.rs a0
theorem z1V.f_eq (k:Nat) (a0:Ty.D tOp):z1V.f k a0=br (ieq a0.1 3) (br (bnot (ieq a0.2.2.2.1 0)) (br (ile (-2147483647) a0.2.2.2.1) (some (ile a0.2.2.2.1 2147483647)) (some false)) (some false)) (some (ieq a0.2.2.2.1 0)):=by kernel_rfl
def z1V.e (k:Nat):Entry:=Sg.entry z1V.sg fun x=>z1V.f k x
theorem z1V.ok (k:Nat):CallOK Tryz.prog 174 (z1V.e k):=fn_ok (c:=z1V.cx k) (code:=z1V.body) (TT.of tt_ok pp_ok mm_ok) (fns_ok trivial) mixed Tryz.func174 (by kernel_rfl) (by kernel_rfl) (by kernel_rfl) (by kernel_rfl) (by kernel_rfl) (by kernel_rfl) (fun x=>by kernel_rfl)
def z29.body:Go.Code:=Tryz.f225.body.getD .skip
def z29.rs:List Go.ResultVar:=Tryz.f225.results.toList
def z29.regs:List (Nat × RInfo):=[(0,ri [2,3] [2,3]),(1,rq [4] [16] 12)]
def z29.cx (k:Nat):Cx:=⟨tt,pp,[(176,(z0L.e k)),(227,(z0o.e k)),(226,(z1e.e k))],z29.regs,k,mm⟩
@[reducible] def z29.sg:Sg:=⟨[.dat tUndo,.dat tUndo],[],.dat (.int .i64),[]⟩
def z29.f (k:Nat) (a0:Ty.D tUndo) (a1:Ty.D tUndo):Option (Sg.Out z29.sg):=Sg.fn z29.sg (z29.cx k) z29.body z29.rs (a0,a1)
theorem z29.f_eq (k:Nat) (a0:Ty.D tUndo) (a1:Ty.D tUndo):z29.f k a0 a1=bnd (z0L.f k a0.1 a1.1) fun r0=>bnd (z0o.f k a0.2 a1.2) fun r1=>bnd (z1e.f k (r0::(r1::[]))) fun r2=>some r2:=by kernel_rfl
def z29.e (k:Nat):Entry:=Sg.entry z29.sg fun x=>z29.f k x.1 x.2
theorem z29.ok (k:Nat):CallOK Tryz.prog 225 (z29.e k):=fn_ok (c:=z29.cx k) (code:=z29.body) (TT.of tt_ok pp_ok mm_ok) (fns_ok ⟨(z0L.ok k),(z0o.ok k),(z1e.ok k),trivial⟩) mixed Tryz.func225 (by kernel_rfl) (by kernel_rfl) (by kernel_rfl) (by kernel_rfl) (by kernel_rfl) (by kernel_rfl) (fun x=>by kernel_rfl)
def z2m.body:Go.Code:=Tryz.f175.body.getD .skip
def z2m.rs:List Go.ResultVar:=Tryz.f175.results.toList
def z2m.regs:List (Nat × RInfo):=[(0,ri [0] []),(1,ri [0,5,6,7] []),(2,⟨[0,5,6,7,8],[],[],[],0,[0,5,6,7],[],[],[],[]⟩),(3,ri [0,3,4,5,6,7] [4]),(4,rq [0,5,6,7,39] [] 28),(5,ri [2] []),(6,ri [0,5,6,7] []),(7,ri [2] [])]
def z2m.cx (k:Nat):Cx:=⟨tt,pp,[(119,(z1O.e k)),(225,(z29.e k))],z2m.regs,k,mm⟩
@[reducible] def z2m.sg:Sg:=⟨[.dat (.slc tUndo)],[],.dat .bool,[]⟩
def z2m.f (k:Nat) (a0:Ty.D (.slc tUndo)):Option (Sg.Out z2m.sg):=Sg.fn z2m.sg (z2m.cx k) z2m.body z2m.rs a0
def z2m.l2 (k:Nat) (n:Nat) (x0:Ty.D (.slc tUndo)) (x5:Ty.D (.slc tUndo)) (x6:Ty.D (.int .i64)) (x7:Ty.D (.int .i64)):Option (Sg.Out z2m.sg):=loopAt (z2m.cx k) z2m.body [1,0,1,0] 2 [0,5,6,7] [] [] (Sg.K z2m.sg (z2m.cx k) z2m.rs) n ⟨[(0,.dat (.slc tUndo) x0),(5,.dat (.slc tUndo) x5),(6,.dat (.int .i64) x6),(7,.dat (.int .i64) x7)],[]⟩
theorem z2m.f_eq (k:Nat) (a0:Ty.D (.slc tUndo)):z2m.f k a0=z2m.l2 k k a0 a0 (ilen a0) 0:=by kernel_rfl
theorem z2m.l2_eq (k:Nat) (n2:Nat) (x0:Ty.D (.slc tUndo)) (x5:Ty.D (.slc tUndo)) (x6:Ty.D (.int .i64)) (x7:Ty.D (.int .i64)):z2m.l2 k (n2+1) x0 x5 x6 x7=br (ilt x7 x6) (br (inL x7 x5) (bnd (z1O.f k ((rd tUndo x5 (natOf x7)).1)) fun r0=>br (bnot r0) (some false) (br (ilt ((rd tUndo x5 (natOf x7)).2) 0) (some false) (br (ile 16 ((rd tUndo x5 (natOf x7)).2)) (some false) (br (ilt 0 x7) (br (inL (isub .i64 x7 1) x0) (bnd (z29.f k (rd tUndo x0 (natOf (isub .i64 x7 1))) (rd tUndo x5 (natOf x7))) fun r1=>br (ile 0 r1) (some false) (z2m.l2 k n2 x0 x5 x6 (iadd .i64 x7 1))) none) (z2m.l2 k n2 x0 x5 x6 (iadd .i64 x7 1)))))) none) (some true):=by kernel_rfl
def z2m.e (k:Nat):Entry:=Sg.entry z2m.sg fun x=>z2m.f k x
theorem z2m.ok (k:Nat):CallOK Tryz.prog 175 (z2m.e k):=fn_ok (c:=z2m.cx k) (code:=z2m.body) (TT.of tt_ok pp_ok mm_ok) (fns_ok ⟨(z1O.ok k),(z29.ok k),trivial⟩) mixed Tryz.func175 (by kernel_rfl) (by kernel_rfl) (by kernel_rfl) (by kernel_rfl) (by kernel_rfl) (by kernel_rfl) (fun x=>by kernel_rfl)
def z28.body:Go.Code:=Tryz.f121.body.getD .skip
def z28.rs:List Go.ResultVar:=Tryz.f121.results.toList
def z28.regs:List (Nat × RInfo):=[(0,⟨[1],[1],[0],[],0,[],[],[],[],[]⟩),(1,ri [1,12] [1]),(2,ri [2] [15]),(3,ri [1,3] [1,15]),(4,ri [1,3,17] [1,15]),(5,ri [2] [15]),(6,ri [1,4] [1]),(7,ri [1,4,32] [1]),(8,ri [1,4,32] [1]),(9,ri [1,32] [1]),(10,ri [2] [15]),(11,ri [1,47] [1]),(12,ri [2] [15]),(13,ri [52] []),(14,ri [2] [15]),(15,ri [2] [15])]
def z28.cx (k:Nat):Cx:=⟨tt,pp,[(172,(z1f.e k)),(173,(z1S.e k)),(174,(z1V.e k)),(175,(z2m.e k))],z28.regs,k,mm⟩
@[reducible] def z28.sg:Sg:=⟨[.dat tOp],[],.dat (.int .i64),[]⟩
def z28.f (k:Nat) (a0:Ty.D tOp):Option (Sg.Out z28.sg):=Sg.fn z28.sg (z28.cx k) z28.body z28.rs a0
theorem z28.f_eq (k:Nat) (a0:Ty.D tOp):z28.f k a0=br (ilt a0.1 1) (some 18) (br (ilt 5 a0.1) (some 18) (bnd (z1f.f k a0.2.1) fun r0=>br (bnot (ieq r0 0)) (some r0) (br (ieq a0.1 1) (bnd (z1S.f k a0) fun r1=>br (bnot r1) (br (bnot r1) (some 2) (br (ilt 256 (ilen a0.2.2.2.2)) (some 7) (bnd (z2m.f k a0.2.2.2.2) fun r2=>br (bnot r2) (some 2) (some 0)))) (bnd (z1V.f k a0) fun r3=>br (bnot r3) (br (bnot r3) (some 2) (br (ilt 256 (ilen a0.2.2.2.2)) (some 7) (bnd (z2m.f k a0.2.2.2.2) fun r4=>br (bnot r4) (some 2) (some 0)))) (br (bnot true) (br (ilt 0 (ilen a0.2.2.2.2)) (some 2) (br (ilt 256 (ilen a0.2.2.2.2)) (some 7) (bnd (z2m.f k a0.2.2.2.2) fun r5=>br (bnot r5) (some 2) (some 0)))) (br (ilt 256 (ilen a0.2.2.2.2)) (some 7) (bnd (z2m.f k a0.2.2.2.2) fun r6=>br (bnot r6) (some 2) (some 0)))))) (br (ieq a0.1 4) (bnd (z1S.f k a0) fun r7=>br (bnot r7) (br (bnot r7) (some 2) (br (ilt 256 (ilen a0.2.2.2.2)) (some 7) (bnd (z2m.f k a0.2.2.2.2) fun r8=>br (bnot r8) (some 2) (some 0)))) (bnd (z1V.f k a0) fun r9=>br (bnot r9) (br (bnot r9) (some 2) (br (ilt 256 (ilen a0.2.2.2.2)) (some 7) (bnd (z2m.f k a0.2.2.2.2) fun r10=>br (bnot r10) (some 2) (some 0)))) (br (bnot true) (br (ilt 0 (ilen a0.2.2.2.2)) (some 2) (br (ilt 256 (ilen a0.2.2.2.2)) (some 7) (bnd (z2m.f k a0.2.2.2.2) fun r11=>br (bnot r11) (some 2) (some 0)))) (br (ilt 256 (ilen a0.2.2.2.2)) (some 7) (bnd (z2m.f k a0.2.2.2.2) fun r12=>br (bnot r12) (some 2) (some 0)))))) (bnd (z1S.f k a0) fun r13=>br (bnot r13) (br (bnot r13) (some 2) (br (ilt 256 (ilen a0.2.2.2.2)) (some 7) (bnd (z2m.f k a0.2.2.2.2) fun r14=>br (bnot r14) (some 2) (some 0)))) (bnd (z1V.f k a0) fun r15=>br (bnot r15) (br (bnot r15) (some 2) (br (ilt 256 (ilen a0.2.2.2.2)) (some 7) (bnd (z2m.f k a0.2.2.2.2) fun r16=>br (bnot r16) (some 2) (some 0)))) (br (bnot (ieq a0.1 5)) (br (ilt 0 (ilen a0.2.2.2.2)) (some 2) (br (ilt 256 (ilen a0.2.2.2.2)) (some 7) (bnd (z2m.f k a0.2.2.2.2) fun r17=>br (bnot r17) (some 2) (some 0)))) (br (ilt 256 (ilen a0.2.2.2.2)) (some 7) (bnd (z2m.f k a0.2.2.2.2) fun r18=>br (bnot r18) (some 2) (some 0)))))))))):=by kernel_rfl
def z28.e (k:Nat):Entry:=Sg.entry z28.sg fun x=>z28.f k x
theorem z28.ok (k:Nat):CallOK Tryz.prog 121 (z28.e k):=fn_ok (c:=z28.cx k) (code:=z28.body) (TT.of tt_ok pp_ok mm_ok) (fns_ok ⟨(z1f.ok k),(z1S.ok k),(z1V.ok k),(z2m.ok k),trivial⟩) mixed Tryz.func121 (by kernel_rfl) (by kernel_rfl) (by kernel_rfl) (by kernel_rfl) (by kernel_rfl) (by kernel_rfl) (fun x=>by kernel_rfl)
def z2k.body:Go.Code:=Tryz.f163.body.getD .skip
def z2k.rs:List Go.ResultVar:=Tryz.f163.results.toList
def z2k.regs:List (Nat × RInfo):=[(0,ri [0,2] [2,1000000]),(1,⟨[0,2,3],[2,3,1000000],[4],[],0,[],[],[],[],[]⟩),(2,ri [0,2,3,9] [2,3,1000000]),(3,⟨[2],[2,1000000],[1],[],0,[],[],[],[],[]⟩),(4,⟨[0,2,3],[2,3,1000000],[3],[],0,[],[],[],[],[]⟩),(5,ri [0,2,3,15] [2,3,1000000]),(6,ri [0,2,3,15,16] [2,3,1000000]),(7,ri [0,2,3] [2,3,1000000]),(8,ri [0,2,3,15,22] [2,3,1000000]),(9,ri [0,2,3,15,22] [2,3,1000000]),(10,ri [0,2,3] [2,3,1000000]),(11,⟨[0,2,3],[2,3,1000000],[3],[],0,[],[],[],[],[]⟩),(12,ri [0,2,3,15,31] [2,3,1000000]),(13,ri [0,2,3] [2,3,1000000]),(14,ri [0,2,3,36] [2,3,1000000]),(15,⟨[0,2,3],[2,3,1000000],[3],[],0,[],[],[],[],[]⟩),(16,ri [0,2,3,43] [2,3,1000000]),(17,ri [0,2,3] [2,3,1000000]),(18,ri [2,3,50] [2,3,1000000]),(19,⟨[2],[2,1000000],[1],[],0,[],[],[],[],[]⟩),(20,⟨[2],[2,1000000],[1],[],0,[],[],[],[],[]⟩)]
def z2k.cx (k:Nat):Cx:=⟨tt,pp,[(87,(z0p.e k)),(209,(z1H.e k)),(210,(z0A.e k)),(211,(z1y.e k)),(212,(z2i.e k)),(34,(z0c.e k)),(121,(z28.e k)),(89,(z0f.e k))],z2k.regs,k,mm⟩
@[reducible] def z2k.sg:Sg:=⟨[.ref],[tpackReader],.dat tOp,[tpackReader]⟩
def z2k.f (k:Nat) (o0:Ty.D tpackReader):Option (Sg.Out z2k.sg):=Sg.fn z2k.sg (z2k.cx k) z2k.body z2k.rs o0
theorem z2k.f_eq (k:Nat) (o0:Ty.D tpackReader):z2k.f k o0=bnd (z0p.f k o0) fun r0=>br (ieq r0.1 0) (some ((r0.1,([],((0,(0,[])),(0,[])))),r0.2)) (bnd (z1H.f k r0.2) fun r1=>br (ieq r0.1 3) (bnd (z0p.f k r1.2) fun r2=>bnd (z0A.f k r2.1) fun r3=>bnd (z0c.f k r2.2) fun r4=>br (ieq r4.1 0) (bnd (z28.f k (r0.1,(r1.1,((0,(0,[])),(r3,[]))))) fun r5=>bnd (z0f.f k r5 r4.2) fun r6=>bnd (z0c.f k r6.2) fun r7=>br (bnot (ieq r7.1 0)) (some ((0,([],((0,(0,[])),(0,[])))),r7.2)) (some ((r0.1,(r1.1,((0,(0,[])),(r3,[])))),r7.2))) (bnd (z0c.f k r4.2) fun r8=>br (bnot (ieq r8.1 0)) (some ((0,([],((0,(0,[])),(0,[])))),r8.2)) (some ((r0.1,(r1.1,((0,(0,[])),(r3,[])))),r8.2)))) (br (ieq r0.1 1) (br (ieq r0.1 1) (bnd (z1y.f k r1.2) fun r9=>bnd (z2i.f k r9.2) fun r10=>bnd (z0c.f k r10.2) fun r11=>br (ieq r11.1 0) (bnd (z28.f k (r0.1,(r1.1,(r9.1,(0,r10.1))))) fun r12=>bnd (z0f.f k r12 r11.2) fun r13=>bnd (z0c.f k r13.2) fun r14=>br (bnot (ieq r14.1 0)) (some ((0,([],((0,(0,[])),(0,[])))),r14.2)) (some ((r0.1,(r1.1,(r9.1,(0,r10.1)))),r14.2))) (bnd (z0c.f k r11.2) fun r15=>br (bnot (ieq r15.1 0)) (some ((0,([],((0,(0,[])),(0,[])))),r15.2)) (some ((r0.1,(r1.1,(r9.1,(0,r10.1)))),r15.2)))) (br (ieq r0.1 2) (bnd (z1y.f k r1.2) fun r16=>bnd (z0c.f k r16.2) fun r17=>br (ieq r17.1 0) (bnd (z28.f k (r0.1,(r1.1,(r16.1,(0,[]))))) fun r18=>bnd (z0f.f k r18 r17.2) fun r19=>bnd (z0c.f k r19.2) fun r20=>br (bnot (ieq r20.1 0)) (some ((0,([],((0,(0,[])),(0,[])))),r20.2)) (some ((r0.1,(r1.1,(r16.1,(0,[])))),r20.2))) (bnd (z0c.f k r17.2) fun r21=>br (bnot (ieq r21.1 0)) (some ((0,([],((0,(0,[])),(0,[])))),r21.2)) (some ((r0.1,(r1.1,(r16.1,(0,[])))),r21.2)))) (br (ieq r0.1 5) (bnd (z2i.f k r1.2) fun r22=>bnd (z0c.f k r22.2) fun r23=>br (ieq r23.1 0) (bnd (z28.f k (r0.1,(r1.1,((0,(0,[])),(0,r22.1))))) fun r24=>bnd (z0f.f k r24 r23.2) fun r25=>bnd (z0c.f k r25.2) fun r26=>br (bnot (ieq r26.1 0)) (some ((0,([],((0,(0,[])),(0,[])))),r26.2)) (some ((r0.1,(r1.1,((0,(0,[])),(0,r22.1)))),r26.2))) (bnd (z0c.f k r23.2) fun r27=>br (bnot (ieq r27.1 0)) (some ((0,([],((0,(0,[])),(0,[])))),r27.2)) (some ((r0.1,(r1.1,((0,(0,[])),(0,r22.1)))),r27.2)))) (bnd (z0c.f k r1.2) fun r28=>br (ieq r28.1 0) (bnd (z28.f k (r0.1,(r1.1,((0,(0,[])),(0,[]))))) fun r29=>bnd (z0f.f k r29 r28.2) fun r30=>bnd (z0c.f k r30.2) fun r31=>br (bnot (ieq r31.1 0)) (some ((0,([],((0,(0,[])),(0,[])))),r31.2)) (some ((r0.1,(r1.1,((0,(0,[])),(0,[])))),r31.2))) (bnd (z0c.f k r28.2) fun r32=>br (bnot (ieq r32.1 0)) (some ((0,([],((0,(0,[])),(0,[])))),r32.2)) (some ((r0.1,(r1.1,((0,(0,[])),(0,[])))),r32.2))))))) (br (ieq r0.1 4) (bnd (z1y.f k r1.2) fun r33=>bnd (z2i.f k r33.2) fun r34=>bnd (z0c.f k r34.2) fun r35=>br (ieq r35.1 0) (bnd (z28.f k (r0.1,(r1.1,(r33.1,(0,r34.1))))) fun r36=>bnd (z0f.f k r36 r35.2) fun r37=>bnd (z0c.f k r37.2) fun r38=>br (bnot (ieq r38.1 0)) (some ((0,([],((0,(0,[])),(0,[])))),r38.2)) (some ((r0.1,(r1.1,(r33.1,(0,r34.1)))),r38.2))) (bnd (z0c.f k r35.2) fun r39=>br (bnot (ieq r39.1 0)) (some ((0,([],((0,(0,[])),(0,[])))),r39.2)) (some ((r0.1,(r1.1,(r33.1,(0,r34.1)))),r39.2)))) (br (ieq r0.1 2) (bnd (z1y.f k r1.2) fun r40=>bnd (z0c.f k r40.2) fun r41=>br (ieq r41.1 0) (bnd (z28.f k (r0.1,(r1.1,(r40.1,(0,[]))))) fun r42=>bnd (z0f.f k r42 r41.2) fun r43=>bnd (z0c.f k r43.2) fun r44=>br (bnot (ieq r44.1 0)) (some ((0,([],((0,(0,[])),(0,[])))),r44.2)) (some ((r0.1,(r1.1,(r40.1,(0,[])))),r44.2))) (bnd (z0c.f k r41.2) fun r45=>br (bnot (ieq r45.1 0)) (some ((0,([],((0,(0,[])),(0,[])))),r45.2)) (some ((r0.1,(r1.1,(r40.1,(0,[])))),r45.2)))) (br (ieq r0.1 5) (bnd (z2i.f k r1.2) fun r46=>bnd (z0c.f k r46.2) fun r47=>br (ieq r47.1 0) (bnd (z28.f k (r0.1,(r1.1,((0,(0,[])),(0,r46.1))))) fun r48=>bnd (z0f.f k r48 r47.2) fun r49=>bnd (z0c.f k r49.2) fun r50=>br (bnot (ieq r50.1 0)) (some ((0,([],((0,(0,[])),(0,[])))),r50.2)) (some ((r0.1,(r1.1,((0,(0,[])),(0,r46.1)))),r50.2))) (bnd (z0c.f k r47.2) fun r51=>br (bnot (ieq r51.1 0)) (some ((0,([],((0,(0,[])),(0,[])))),r51.2)) (some ((r0.1,(r1.1,((0,(0,[])),(0,r46.1)))),r51.2)))) (bnd (z0c.f k r1.2) fun r52=>br (ieq r52.1 0) (bnd (z28.f k (r0.1,(r1.1,((0,(0,[])),(0,[]))))) fun r53=>bnd (z0f.f k r53 r52.2) fun r54=>bnd (z0c.f k r54.2) fun r55=>br (bnot (ieq r55.1 0)) (some ((0,([],((0,(0,[])),(0,[])))),r55.2)) (some ((r0.1,(r1.1,((0,(0,[])),(0,[])))),r55.2))) (bnd (z0c.f k r52.2) fun r56=>br (bnot (ieq r56.1 0)) (some ((0,([],((0,(0,[])),(0,[])))),r56.2)) (some ((r0.1,(r1.1,((0,(0,[])),(0,[])))),r56.2))))))))):=by kernel_rfl
def z2k.e (k:Nat):Entry:=Sg.entry z2k.sg fun x=>z2k.f k x
theorem z2k.ok (k:Nat):CallOK Tryz.prog 163 (z2k.e k):=fn_ok (c:=z2k.cx k) (code:=z2k.body) (TT.of tt_ok pp_ok mm_ok) (fns_ok ⟨(z0p.ok k),(z1H.ok k),(z0A.ok k),(z1y.ok k),(z2i.ok k),(z0c.ok k),(z28.ok k),(z0f.ok k),trivial⟩) mixed Tryz.func163 (by kernel_rfl) (by kernel_rfl) (by kernel_rfl) (by kernel_rfl) (by kernel_rfl) (by kernel_rfl) (fun x=>by kernel_rfl)
def z2l.body:Go.Code:=Tryz.f120.body.getD .skip
def z2l.rs:List Go.ResultVar:=Tryz.f120.results.toList
def z2l.regs:List (Nat × RInfo):=[(0,⟨[1],[1],[0],[],0,[],[],[],[],[]⟩),(1,ri [2] [])]
def z2l.cx (k:Nat):Cx:=⟨tt,pp,[],z2l.regs,k,mm⟩
@[reducible] def z2l.sg:Sg:=⟨[.dat tOp],[],.dat .bool,[]⟩
def z2l.f (k:Nat) (a0:Ty.D tOp):Option (Sg.Out z2l.sg):=Sg.fn z2l.sg (z2l.cx k) z2l.body z2l.rs a0
theorem z2l.f_eq (k:Nat) (a0:Ty.D tOp):z2l.f k a0=br (ieq a0.1 0) (br (ieq (ilen a0.2.1) 0) (br (deq tValue a0.2.2.1 (0,(0,[]))) (br (ieq a0.2.2.2.1 0) (some (ieq (ilen a0.2.2.2.2) 0)) (some false)) (some false)) (some false)) (some false):=by kernel_rfl
def z2l.e (k:Nat):Entry:=Sg.entry z2l.sg fun x=>z2l.f k x
theorem z2l.ok (k:Nat):CallOK Tryz.prog 120 (z2l.e k):=fn_ok (c:=z2l.cx k) (code:=z2l.body) (TT.of tt_ok pp_ok mm_ok) (fns_ok trivial) mixed Tryz.func120 (by kernel_rfl) (by kernel_rfl) (by kernel_rfl) (by kernel_rfl) (by kernel_rfl) (by kernel_rfl) (fun x=>by kernel_rfl)
def z1K.body:Go.Code:=Tryz.f50.body.getD .skip
def z1K.rs:List Go.ResultVar:=Tryz.f50.results.toList
def z1K.regs:List (Nat × RInfo):=[(0,⟨[1],[1],[0],[],0,[],[],[],[],[]⟩),(1,ri [1,6] [1]),(2,ri [1,6] [1]),(3,ri [1,6] [1]),(4,ri [2] [51]),(5,ri [1,27] [1]),(6,ri [2] [51]),(7,ri [1,32] [1]),(8,ri [2] [51]),(9,ri [1,38,39,40] [1]),(10,⟨[1,38,39,40,41],[1],[],[],0,[1,38,39,40],[1],[],[],[]⟩),(11,⟨[1,4,38,39,40],[1,4],[3],[],0,[],[],[],[],[]⟩),(12,ri [1,4,38,39,40,49] [1,4,48]),(13,ri [1,5,38,39,40] [1,51]),(14,ri [1,5,38,39,40,53] [1,51]),(15,ri [2] [51]),(16,ri [1,38,39,40] [1]),(17,ri [2] [51])]
def z1K.cx (k:Nat):Cx:=⟨tt,pp,[(119,(z1O.e k)),(120,(z2l.e k)),(121,(z28.e k))],z1K.regs,k,mm⟩
@[reducible] def z1K.sg:Sg:=⟨[.dat tTxn],[],.dat (.int .i64),[]⟩
def z1K.f (k:Nat) (a0:Ty.D tTxn):Option (Sg.Out z1K.sg):=Sg.fn z1K.sg (z1K.cx k) z1K.body z1K.rs a0
def z1K.l10 (k:Nat) (n:Nat) (x38:Ty.D (.slc tOp)) (x39:Ty.D (.int .i64)) (x40:Ty.D (.int .i64)) (m1:Ty.D tTxn):Option (Sg.Out z1K.sg):=loopAt (z1K.cx k) z1K.body [1,1,0,1,0] 10 [1,38,39,40] [1] [] (Sg.K z1K.sg (z1K.cx k) z1K.rs) n ⟨[(1,.ref 1 []),(38,.dat (.slc tOp) x38),(39,.dat (.int .i64) x39),(40,.dat (.int .i64) x40)],[(1,.dat tTxn m1)]⟩
theorem z1K.f_eq (k:Nat) (a0:Ty.D tTxn):z1K.f k a0=bnd (z1O.f k a0.1) fun r0=>br (bnot r0) (br (bnot r0) (some 2) (br (ieq (ilen a0.2.2.2.2) 0) (some 11) (br (ilt 16 (ilen a0.2.2.2.2)) (some 7) (z1K.l10 k k a0.2.2.2.2 (ilen a0.2.2.2.2) 0 a0)))) (br (ilt a0.2.1 0) (some 2) (br (ile 8 a0.2.1) (br (ile 8 a0.2.1) (some 2) (br (ieq (ilen a0.2.2.2.2) 0) (some 11) (br (ilt 16 (ilen a0.2.2.2.2)) (some 7) (z1K.l10 k k a0.2.2.2.2 (ilen a0.2.2.2.2) 0 a0)))) (br (ilt a0.2.2.1 1) (some 2) (br (ilt 1099511627776 a0.2.2.1) (some 2) (br (ieq (ilen a0.2.2.2.2) 0) (some 11) (br (ilt 16 (ilen a0.2.2.2.2)) (some 7) (z1K.l10 k k a0.2.2.2.2 (ilen a0.2.2.2.2) 0 a0))))))):=by kernel_rfl
theorem z1K.l10_eq (k:Nat) (n10:Nat) (x38:Ty.D (.slc tOp)) (x39:Ty.D (.int .i64)) (x40:Ty.D (.int .i64)) (m1:Ty.D tTxn):z1K.l10 k (n10+1) x38 x39 x40 m1=br (ilt x40 x39) (br (inL x40 x38) (br m1.2.2.2.1 (bnd (z2l.f k (rd tOp x38 (natOf x40))) fun r0=>br r0 (z1K.l10 k n10 x38 x39 (iadd .i64 x40 1) m1) (bnd (z28.f k (rd tOp x38 (natOf x40))) fun r1=>br (bnot (ieq r1 0)) (some r1) (z1K.l10 k n10 x38 x39 (iadd .i64 x40 1) m1))) (bnd (z28.f k (rd tOp x38 (natOf x40))) fun r2=>br (bnot (ieq r2 0)) (some r2) (z1K.l10 k n10 x38 x39 (iadd .i64 x40 1) m1))) none) (some 0):=by kernel_rfl
def z1K.e (k:Nat):Entry:=Sg.entry z1K.sg fun x=>z1K.f k x
theorem z1K.ok (k:Nat):CallOK Tryz.prog 50 (z1K.e k):=fn_ok (c:=z1K.cx k) (code:=z1K.body) (TT.of tt_ok pp_ok mm_ok) (fns_ok ⟨(z1O.ok k),(z2l.ok k),(z28.ok k),trivial⟩) mixed Tryz.func50 (by kernel_rfl) (by kernel_rfl) (by kernel_rfl) (by kernel_rfl) (by kernel_rfl) (by kernel_rfl) (fun x=>by kernel_rfl)
def z2g.body:Go.Code:=Tryz.f105.body.getD .skip
def z2g.rs:List Go.ResultVar:=Tryz.f105.results.toList
def z2g.regs:List (Nat × RInfo):=[(0,ri [0,2] [2,1000000]),(1,⟨[0,2,3],[2,3,1000000],[8],[],0,[],[],[],[],[]⟩),(2,ri [0,2,3,4] [2,3,13,1000000]),(3,ri [0,2,3,4] [2,3,13,1000000]),(4,ri [0,2,3,23] [2,3,1000000]),(5,ri [0,2,3] [2,3,1000000]),(6,ri [0,2,3,27,28] [2,3,27,1000000]),(7,⟨[0,2,3,27,28,29],[2,3,27,1000000],[],[],0,[0,2,3,27,28],[2,3,27,1000000],[],[],[]⟩),(8,⟨[0,2,3,27,28],[2,3,27,1000000],[1,5,7],[],6,[],[],[],[[],[],[],[],[3],[1,3],[1,3],[1,3]],[]⟩),(9,ri [0,2,3,27,28] [2,3,27,1000000]),(10,ri [0,2,3,40] [2,3,1000000]),(11,ri [0,2,3] [2,3,1000000]),(12,ri [2,3,47] [2,3,1000000]),(13,⟨[2],[2,1000000],[1],[],0,[],[],[],[],[]⟩),(14,⟨[2],[2,1000000],[1],[],0,[],[],[],[],[]⟩)]
def z2g.cx (k:Nat):Cx:=⟨tt,pp,[(106,(z27.e k)),(87,(z0p.e k)),(34,(z0c.e k)),(89,(z0f.e k)),(161,(z0k.e k)),(163,(z2k.e k)),(50,(z1K.e k))],z2g.regs,k,mm⟩
@[reducible] def z2g.sg:Sg:=⟨[.ref],[tpackReader],.dat tTxn,[tpackReader]⟩
def z2g.f (k:Nat) (o0:Ty.D tpackReader):Option (Sg.Out z2g.sg):=Sg.fn z2g.sg (z2g.cx k) z2g.body z2g.rs o0
def z2g.l7 (k:Nat) (n:Nat) (x27:Ty.D (.int .i64)) (x28:Ty.D (.int .i64)) (m2a:Ty.D tDot) (m2ba:Ty.D (.int .i64)) (m2bba:Ty.D (.int .i64)) (m2bbba:Ty.D .bool) (m2bbbb:List (Ty.D tOp)) (m3a:Ty.D tDot) (m3ba:Ty.D (.int .i64)) (m3bba:Ty.D (.int .i64)) (m3bbba:Ty.D .bool) (m3bbbb:List (Ty.D tOp)) (m1000000:Ty.D tpackReader):Option (Sg.Out z2g.sg):=loopAt (z2g.cx k) z2g.body [1,1,1,1,1,0,1,0] 7 [0,2,3,27,28] [2,3,27,1000000] [] (Sg.K z2g.sg (z2g.cx k) z2g.rs) n ⟨[(0,.ref 1000000 []),(2,.ref 2 []),(3,.ref 3 []),(27,.dat (.int .i64) x27),(28,.dat (.int .i64) x28)],[(2,.pr (.dat tDot m2a) (.pr (.dat (.int .i64) m2ba) (.pr (.dat (.int .i64) m2bba) (.pr (.dat .bool m2bbba) (.own tOp m2bbbb))))),(3,.pr (.dat tDot m3a) (.pr (.dat (.int .i64) m3ba) (.pr (.dat (.int .i64) m3bba) (.pr (.dat .bool m3bbba) (.own tOp m3bbbb))))),(1000000,.dat tpackReader m1000000)]⟩
theorem z2g.f_eq (k:Nat) (o0:Ty.D tpackReader):z2g.f k o0=bnd (z27.f k o0) fun r0=>bnd (z0p.f k r0.2) fun r1=>bnd (z0p.f k r1.2) fun r2=>bnd (z0p.f k r2.2) fun r3=>bnd (z0c.f k r3.2) fun r4=>br (ieq r4.1 0) (br (ilt 1 r3.1) (bnd (z0f.f k 3 r4.2) fun r5=>bnd (z0k.f k 16 r5.2) fun r6=>z2g.l7 k k r6.1 0 (0,0) 0 0 false [] r0.1 r1.1 r2.1 (ieq r3.1 1) [] r6.2) (bnd (z0k.f k 16 r4.2) fun r7=>z2g.l7 k k r7.1 0 (0,0) 0 0 false [] r0.1 r1.1 r2.1 (ieq r3.1 1) [] r7.2)) (bnd (z0k.f k 16 r4.2) fun r8=>z2g.l7 k k r8.1 0 (0,0) 0 0 false [] r0.1 r1.1 r2.1 (ieq r3.1 1) [] r8.2):=by kernel_rfl
theorem z2g.l7_eq (k:Nat) (n7:Nat) (x27:Ty.D (.int .i64)) (x28:Ty.D (.int .i64)) (m2a:Ty.D tDot) (m2ba:Ty.D (.int .i64)) (m2bba:Ty.D (.int .i64)) (m2bbba:Ty.D .bool) (m2bbbb:List (Ty.D tOp)) (m3a:Ty.D tDot) (m3ba:Ty.D (.int .i64)) (m3bba:Ty.D (.int .i64)) (m3bbba:Ty.D .bool) (m3bbbb:List (Ty.D tOp)) (m1000000:Ty.D tpackReader):z2g.l7 k (n7+1) x27 x28 m2a m2ba m2bba m2bbba m2bbbb m3a m3ba m3bba m3bbba m3bbbb m1000000=br (ilt x28 x27) (bnd (z2k.f k m1000000) fun r0=>br (room m3bbbb (r0.1::[])) (z2g.l7 k n7 x27 (iadd .i64 x28 1) m2a m2ba m2bba m2bbba m2bbbb m3a m3ba m3bba m3bbba (app m3bbbb (r0.1::[])) r0.2) none) (bnd (z0c.f k m1000000) fun r1=>br (ieq r1.1 0) (bnd (z1K.f k (m3a,(m3ba,(m3bba,(m3bbba,m3bbbb))))) fun r2=>bnd (z0f.f k r2 r1.2) fun r3=>bnd (z0c.f k r3.2) fun r4=>br (bnot (ieq r4.1 0)) (some (((0,0),(0,(0,(false,[])))),r4.2)) (some ((m3a,(m3ba,(m3bba,(m3bbba,m3bbbb)))),r4.2))) (bnd (z0c.f k r1.2) fun r5=>br (bnot (ieq r5.1 0)) (some (((0,0),(0,(0,(false,[])))),r5.2)) (some ((m3a,(m3ba,(m3bba,(m3bbba,m3bbbb)))),r5.2)))):=by kernel_rfl
def z2g.e (k:Nat):Entry:=Sg.entry z2g.sg fun x=>z2g.f k x
theorem z2g.ok (k:Nat):CallOK Tryz.prog 105 (z2g.e k):=fn_ok (c:=z2g.cx k) (code:=z2g.body) (TT.of tt_ok pp_ok mm_ok) (fns_ok ⟨(z27.ok k),(z0p.ok k),(z0c.ok k),(z0f.ok k),(z0k.ok k),(z2k.ok k),(z1K.ok k),trivial⟩) mixed Tryz.func105 (by kernel_rfl) (by kernel_rfl) (by kernel_rfl) (by kernel_rfl) (by kernel_rfl) (by kernel_rfl) (fun x=>by kernel_rfl)
def z1R.body:Go.Code:=Tryz.f125.body.getD .skip
def z1R.rs:List Go.ResultVar:=Tryz.f125.results.toList
def z1R.regs:List (Nat × RInfo):=[(0,ri [0] []),(1,ri [0,5,6,7] []),(2,⟨[0,5,6,7,8],[],[],[],0,[0,5,6,7],[],[],[],[]⟩),(3,⟨[0,3,4,5,6,7],[4],[5],[],0,[],[],[],[],[]⟩),(4,rq [0,5,6,7,25] [] 14),(5,ri [2] []),(6,ri [0,5,6,7] []),(7,ri [2] [])]
def z1R.cx (k:Nat):Cx:=⟨tt,pp,[(176,(z0L.e k))],z1R.regs,k,mm⟩
@[reducible] def z1R.sg:Sg:=⟨[.dat (.slc tTxn)],[],.dat .bool,[]⟩
def z1R.f (k:Nat) (a0:Ty.D (.slc tTxn)):Option (Sg.Out z1R.sg):=Sg.fn z1R.sg (z1R.cx k) z1R.body z1R.rs a0
def z1R.l2 (k:Nat) (n:Nat) (x0:Ty.D (.slc tTxn)) (x5:Ty.D (.slc tTxn)) (x6:Ty.D (.int .i64)) (x7:Ty.D (.int .i64)):Option (Sg.Out z1R.sg):=loopAt (z1R.cx k) z1R.body [1,0,1,0] 2 [0,5,6,7] [] [] (Sg.K z1R.sg (z1R.cx k) z1R.rs) n ⟨[(0,.dat (.slc tTxn) x0),(5,.dat (.slc tTxn) x5),(6,.dat (.int .i64) x6),(7,.dat (.int .i64) x7)],[]⟩
theorem z1R.f_eq (k:Nat) (a0:Ty.D (.slc tTxn)):z1R.f k a0=z1R.l2 k k a0 a0 (ilen a0) 0:=by kernel_rfl
theorem z1R.l2_eq (k:Nat) (n2:Nat) (x0:Ty.D (.slc tTxn)) (x5:Ty.D (.slc tTxn)) (x6:Ty.D (.int .i64)) (x7:Ty.D (.int .i64)):z1R.l2 k (n2+1) x0 x5 x6 x7=br (ilt x7 x6) (br (inL x7 x5) (br (ilt 0 x7) (br (inL (isub .i64 x7 1) x0) (bnd (z0L.f k ((rd tTxn x0 (natOf (isub .i64 x7 1))).1) ((rd tTxn x5 (natOf x7)).1)) fun r0=>br (ile 0 r0) (some false) (z1R.l2 k n2 x0 x5 x6 (iadd .i64 x7 1))) none) (z1R.l2 k n2 x0 x5 x6 (iadd .i64 x7 1))) none) (some true):=by kernel_rfl
def z1R.e (k:Nat):Entry:=Sg.entry z1R.sg fun x=>z1R.f k x
theorem z1R.ok (k:Nat):CallOK Tryz.prog 125 (z1R.e k):=fn_ok (c:=z1R.cx k) (code:=z1R.body) (TT.of tt_ok pp_ok mm_ok) (fns_ok ⟨(z0L.ok k),trivial⟩) mixed Tryz.func125 (by kernel_rfl) (by kernel_rfl) (by kernel_rfl) (by kernel_rfl) (by kernel_rfl) (by kernel_rfl) (fun x=>by kernel_rfl)
def z0G.body:Go.Code:=Tryz.f92.body.getD .skip
def z0G.rs:List Go.ResultVar:=Tryz.f92.results.toList
def z0G.regs:List (Nat × RInfo):=[(0,ri [0,1] [1000000]),(1,ri [0,1,5] [1000000]),(2,ri [0,5,8,9] [8,1000000]),(3,⟨[0,5,8,9,10],[8,1000000],[],[],0,[0,5,8,9],[8,1000000],[],[],[]⟩),(4,⟨[0,5,8,9],[8,1000000],[0,4,5],[],0,[],[],[],[],[]⟩),(5,ri [0,5,8,9] [8,1000000]),(6,ri [0,5,24] [1000000]),(7,ri [0,5] [1000000]),(8,ri [5,29] [1000000]),(9,ri [4] [1000000]),(10,⟨[4],[1000000],[0,1],[],0,[],[],[],[],[]⟩)]
def z0G.cx (k:Nat):Cx:=⟨tt,pp,[(161,(z0k.e k)),(105,(z2g.e k)),(34,(z0c.e k)),(125,(z1R.e k)),(89,(z0f.e k))],z0G.regs,k,mm⟩
@[reducible] def z0G.sg:Sg:=⟨[.ref,.dat (.int .i64)],[tpackReader],.own tTxn,[tpackReader]⟩
def z0G.f (k:Nat) (a1:Ty.D (.int .i64)) (o0:Ty.D tpackReader):Option (Sg.Out z0G.sg):=Sg.fn z0G.sg (z0G.cx k) z0G.body z0G.rs (a1,o0)
def z0G.l3 (k:Nat) (n:Nat) (x5:List (Ty.D tTxn)) (x8:Ty.D (.int .i64)) (x9:Ty.D (.int .i64)) (m1000000:Ty.D tpackReader):Option (Sg.Out z0G.sg):=loopAt (z0G.cx k) z0G.body [1,1,0,1,0] 3 [0,5,8,9] [8,1000000] [] (Sg.K z0G.sg (z0G.cx k) z0G.rs) n ⟨[(0,.ref 1000000 []),(5,.own tTxn x5),(8,.dat (.int .i64) x8),(9,.dat (.int .i64) x9)],[(1000000,.dat tpackReader m1000000)]⟩
theorem z0G.f_eq (k:Nat) (a1:Ty.D (.int .i64)) (o0:Ty.D tpackReader):z0G.f k a1 o0=bnd (z0k.f k a1 o0) fun r0=>z0G.l3 k k [] r0.1 0 r0.2:=by kernel_rfl
theorem z0G.l3_eq (k:Nat) (n3:Nat) (x5:List (Ty.D tTxn)) (x8:Ty.D (.int .i64)) (x9:Ty.D (.int .i64)) (m1000000:Ty.D tpackReader):z0G.l3 k (n3+1) x5 x8 x9 m1000000=br (ilt x9 x8) (bnd (z2g.f k m1000000) fun r0=>br (room x5 (r0.1::[])) (z0G.l3 k n3 (app x5 (r0.1::[])) x8 (iadd .i64 x9 1) r0.2) none) (bnd (z0c.f k m1000000) fun r1=>br (ieq r1.1 0) (bnd (z1R.f k x5) fun r2=>br (bnot r2) (bnd (z0f.f k 2 r1.2) fun r3=>bnd (z0c.f k r3.2) fun r4=>br (bnot (ieq r4.1 0)) (some ([],r4.2)) (some (x5,r4.2))) (bnd (z0c.f k r1.2) fun r5=>br (bnot (ieq r5.1 0)) (some ([],r5.2)) (some (x5,r5.2)))) (bnd (z0c.f k r1.2) fun r6=>br (bnot (ieq r6.1 0)) (some ([],r6.2)) (some (x5,r6.2)))):=by kernel_rfl
def z0G.e (k:Nat):Entry:=Sg.entry z0G.sg fun x=>z0G.f k x.1 x.2
theorem z0G.ok (k:Nat):CallOK Tryz.prog 92 (z0G.e k):=fn_ok (c:=z0G.cx k) (code:=z0G.body) (TT.of tt_ok pp_ok mm_ok) (fns_ok ⟨(z0k.ok k),(z2g.ok k),(z0c.ok k),(z1R.ok k),(z0f.ok k),trivial⟩) mixed Tryz.func92 (by kernel_rfl) (by kernel_rfl) (by kernel_rfl) (by kernel_rfl) (by kernel_rfl) (by kernel_rfl) (fun x=>by kernel_rfl)
def z0z.body:Go.Code:=Tryz.f122.body.getD .skip
def z0z.rs:List Go.ResultVar:=Tryz.f122.results.toList
def z0z.regs:List (Nat × RInfo):=[(0,ri [2,3] [2,3]),(1,ri [4] [9])]
def z0z.cx (k:Nat):Cx:=⟨tt,pp,[(176,(z0L.e k))],z0z.regs,k,mm⟩
@[reducible] def z0z.sg:Sg:=⟨[.dat tUndo,.dat tUndo],[],.dat (.int .i64),[]⟩
def z0z.f (k:Nat) (a0:Ty.D tUndo) (a1:Ty.D tUndo):Option (Sg.Out z0z.sg):=Sg.fn z0z.sg (z0z.cx k) z0z.body z0z.rs (a0,a1)
theorem z0z.f_eq (k:Nat) (a0:Ty.D tUndo) (a1:Ty.D tUndo):z0z.f k a0 a1=bnd (z0L.f k a0.1 a1.1) fun r0=>some r0:=by kernel_rfl
def z0z.e (k:Nat):Entry:=Sg.entry z0z.sg fun x=>z0z.f k x.1 x.2
theorem z0z.ok (k:Nat):CallOK Tryz.prog 122 (z0z.e k):=fn_ok (c:=z0z.cx k) (code:=z0z.body) (TT.of tt_ok pp_ok mm_ok) (fns_ok ⟨(z0L.ok k),trivial⟩) mixed Tryz.func122 (by kernel_rfl) (by kernel_rfl) (by kernel_rfl) (by kernel_rfl) (by kernel_rfl) (by kernel_rfl) (fun x=>by kernel_rfl)
def z0Z.body:Go.Code:=Tryz.f52.body.getD .skip
def z0Z.rs:List Go.ResultVar:=Tryz.f52.results.toList
def z0Z.regs:List (Nat × RInfo):=[(0,ri [0] []),(1,ri [0,5,6,7] []),(2,⟨[0,5,6,7,8],[],[],[],0,[0,5,6,7],[],[],[],[]⟩),(3,ri [0,3,4,5,6,7] [4]),(4,rq [0,5,6,7,39] [] 28),(5,ri [2] []),(6,ri [0,5,6,7] []),(7,ri [2] [])]
def z0Z.cx (k:Nat):Cx:=⟨tt,pp,[(119,(z1O.e k)),(122,(z0z.e k))],z0Z.regs,k,mm⟩
@[reducible] def z0Z.sg:Sg:=⟨[.dat (.slc tUndo)],[],.dat .bool,[]⟩
def z0Z.f (k:Nat) (a0:Ty.D (.slc tUndo)):Option (Sg.Out z0Z.sg):=Sg.fn z0Z.sg (z0Z.cx k) z0Z.body z0Z.rs a0
def z0Z.l2 (k:Nat) (n:Nat) (x0:Ty.D (.slc tUndo)) (x5:Ty.D (.slc tUndo)) (x6:Ty.D (.int .i64)) (x7:Ty.D (.int .i64)):Option (Sg.Out z0Z.sg):=loopAt (z0Z.cx k) z0Z.body [1,0,1,0] 2 [0,5,6,7] [] [] (Sg.K z0Z.sg (z0Z.cx k) z0Z.rs) n ⟨[(0,.dat (.slc tUndo) x0),(5,.dat (.slc tUndo) x5),(6,.dat (.int .i64) x6),(7,.dat (.int .i64) x7)],[]⟩
theorem z0Z.f_eq (k:Nat) (a0:Ty.D (.slc tUndo)):z0Z.f k a0=z0Z.l2 k k a0 a0 (ilen a0) 0:=by kernel_rfl
theorem z0Z.l2_eq (k:Nat) (n2:Nat) (x0:Ty.D (.slc tUndo)) (x5:Ty.D (.slc tUndo)) (x6:Ty.D (.int .i64)) (x7:Ty.D (.int .i64)):z0Z.l2 k (n2+1) x0 x5 x6 x7=br (ilt x7 x6) (br (inL x7 x5) (bnd (z1O.f k ((rd tUndo x5 (natOf x7)).1)) fun r0=>br (bnot r0) (some false) (br (ilt ((rd tUndo x5 (natOf x7)).2) 1) (some false) (br (ilt 64 ((rd tUndo x5 (natOf x7)).2)) (some false) (br (ilt 0 x7) (br (inL (isub .i64 x7 1) x0) (bnd (z0z.f k (rd tUndo x0 (natOf (isub .i64 x7 1))) (rd tUndo x5 (natOf x7))) fun r1=>br (ile 0 r1) (some false) (z0Z.l2 k n2 x0 x5 x6 (iadd .i64 x7 1))) none) (z0Z.l2 k n2 x0 x5 x6 (iadd .i64 x7 1)))))) none) (some true):=by kernel_rfl
def z0Z.e (k:Nat):Entry:=Sg.entry z0Z.sg fun x=>z0Z.f k x
theorem z0Z.ok (k:Nat):CallOK Tryz.prog 52 (z0Z.e k):=fn_ok (c:=z0Z.cx k) (code:=z0Z.body) (TT.of tt_ok pp_ok mm_ok) (fns_ok ⟨(z1O.ok k),(z0z.ok k),trivial⟩) mixed Tryz.func52 (by kernel_rfl) (by kernel_rfl) (by kernel_rfl) (by kernel_rfl) (by kernel_rfl) (by kernel_rfl) (fun x=>by kernel_rfl)
def z19.body:Go.Code:=Tryz.f93.body.getD .skip
def z19.rs:List Go.ResultVar:=Tryz.f93.results.toList
def z19.regs:List (Nat × RInfo):=[(0,ri [0,1] [1000000]),(1,ri [0,1,5] [1000000]),(2,ri [0,5,8,9] [8,1000000]),(3,⟨[0,5,8,9,10],[8,1000000],[],[],0,[0,5,8,9],[8,1000000],[],[],[]⟩),(4,⟨[0,5,8,9],[8,1000000],[0,7,8],[],0,[],[],[],[],[]⟩),(5,ri [0,5,8,9] [8,1000000]),(6,ri [0,5,27] [1000000]),(7,ri [0,5] [1000000]),(8,ri [5,32] [1000000]),(9,ri [4] [1000000]),(10,⟨[4],[1000000],[0,1],[],0,[],[],[],[],[]⟩)]
def z19.cx (k:Nat):Cx:=⟨tt,pp,[(161,(z0k.e k)),(106,(z27.e k)),(87,(z0p.e k)),(34,(z0c.e k)),(52,(z0Z.e k)),(89,(z0f.e k))],z19.regs,k,mm⟩
@[reducible] def z19.sg:Sg:=⟨[.ref,.dat (.int .i64)],[tpackReader],.own tUndo,[tpackReader]⟩
def z19.f (k:Nat) (a1:Ty.D (.int .i64)) (o0:Ty.D tpackReader):Option (Sg.Out z19.sg):=Sg.fn z19.sg (z19.cx k) z19.body z19.rs (a1,o0)
def z19.l3 (k:Nat) (n:Nat) (x5:List (Ty.D tUndo)) (x8:Ty.D (.int .i64)) (x9:Ty.D (.int .i64)) (m1000000:Ty.D tpackReader):Option (Sg.Out z19.sg):=loopAt (z19.cx k) z19.body [1,1,0,1,0] 3 [0,5,8,9] [8,1000000] [] (Sg.K z19.sg (z19.cx k) z19.rs) n ⟨[(0,.ref 1000000 []),(5,.own tUndo x5),(8,.dat (.int .i64) x8),(9,.dat (.int .i64) x9)],[(1000000,.dat tpackReader m1000000)]⟩
theorem z19.f_eq (k:Nat) (a1:Ty.D (.int .i64)) (o0:Ty.D tpackReader):z19.f k a1 o0=bnd (z0k.f k a1 o0) fun r0=>z19.l3 k k [] r0.1 0 r0.2:=by kernel_rfl
theorem z19.l3_eq (k:Nat) (n3:Nat) (x5:List (Ty.D tUndo)) (x8:Ty.D (.int .i64)) (x9:Ty.D (.int .i64)) (m1000000:Ty.D tpackReader):z19.l3 k (n3+1) x5 x8 x9 m1000000=br (ilt x9 x8) (bnd (z27.f k m1000000) fun r0=>bnd (z0p.f k r0.2) fun r1=>br (room x5 ((r0.1,r1.1)::[])) (z19.l3 k n3 (app x5 ((r0.1,r1.1)::[])) x8 (iadd .i64 x9 1) r1.2) none) (bnd (z0c.f k m1000000) fun r2=>br (ieq r2.1 0) (bnd (z0Z.f k x5) fun r3=>br (bnot r3) (bnd (z0f.f k 2 r2.2) fun r4=>bnd (z0c.f k r4.2) fun r5=>br (bnot (ieq r5.1 0)) (some ([],r5.2)) (some (x5,r5.2))) (bnd (z0c.f k r2.2) fun r6=>br (bnot (ieq r6.1 0)) (some ([],r6.2)) (some (x5,r6.2)))) (bnd (z0c.f k r2.2) fun r7=>br (bnot (ieq r7.1 0)) (some ([],r7.2)) (some (x5,r7.2)))):=by kernel_rfl
def z19.e (k:Nat):Entry:=Sg.entry z19.sg fun x=>z19.f k x.1 x.2
theorem z19.ok (k:Nat):CallOK Tryz.prog 93 (z19.e k):=fn_ok (c:=z19.cx k) (code:=z19.body) (TT.of tt_ok pp_ok mm_ok) (fns_ok ⟨(z0k.ok k),(z27.ok k),(z0p.ok k),(z0c.ok k),(z0Z.ok k),(z0f.ok k),trivial⟩) mixed Tryz.func93 (by kernel_rfl) (by kernel_rfl) (by kernel_rfl) (by kernel_rfl) (by kernel_rfl) (by kernel_rfl) (fun x=>by kernel_rfl)
def z0s.body:Go.Code:=Tryz.f94.body.getD .skip
def z0s.rs:List Go.ResultVar:=Tryz.f94.results.toList
def z0s.regs:List (Nat × RInfo):=[(0,ri [0,1] [1000000]),(1,ri [0,1,5] [1000000]),(2,ri [0,5,8,9] [8,1000000]),(3,⟨[0,5,8,9,10],[8,1000000],[],[],0,[0,5,8,9],[8,1000000],[],[],[]⟩),(4,⟨[0,5,8,9],[8,1000000],[0,4,5],[],0,[],[],[],[],[]⟩),(5,ri [0,5,8,9] [8,1000000]),(6,ri [5,19] [1000000]),(7,ri [4] [1000000]),(8,⟨[4],[1000000],[0,1],[],0,[],[],[],[],[]⟩)]
def z0s.cx (k:Nat):Cx:=⟨tt,pp,[(161,(z0k.e k)),(106,(z27.e k)),(34,(z0c.e k))],z0s.regs,k,mm⟩
@[reducible] def z0s.sg:Sg:=⟨[.ref,.dat (.int .i64)],[tpackReader],.own tDot,[tpackReader]⟩
def z0s.f (k:Nat) (a1:Ty.D (.int .i64)) (o0:Ty.D tpackReader):Option (Sg.Out z0s.sg):=Sg.fn z0s.sg (z0s.cx k) z0s.body z0s.rs (a1,o0)
def z0s.l3 (k:Nat) (n:Nat) (x5:List (Ty.D tDot)) (x8:Ty.D (.int .i64)) (x9:Ty.D (.int .i64)) (m1000000:Ty.D tpackReader):Option (Sg.Out z0s.sg):=loopAt (z0s.cx k) z0s.body [1,1,0,1,0] 3 [0,5,8,9] [8,1000000] [] (Sg.K z0s.sg (z0s.cx k) z0s.rs) n ⟨[(0,.ref 1000000 []),(5,.own tDot x5),(8,.dat (.int .i64) x8),(9,.dat (.int .i64) x9)],[(1000000,.dat tpackReader m1000000)]⟩
theorem z0s.f_eq (k:Nat) (a1:Ty.D (.int .i64)) (o0:Ty.D tpackReader):z0s.f k a1 o0=bnd (z0k.f k a1 o0) fun r0=>z0s.l3 k k [] r0.1 0 r0.2:=by kernel_rfl
theorem z0s.l3_eq (k:Nat) (n3:Nat) (x5:List (Ty.D tDot)) (x8:Ty.D (.int .i64)) (x9:Ty.D (.int .i64)) (m1000000:Ty.D tpackReader):z0s.l3 k (n3+1) x5 x8 x9 m1000000=br (ilt x9 x8) (bnd (z27.f k m1000000) fun r0=>br (room x5 (r0.1::[])) (z0s.l3 k n3 (app x5 (r0.1::[])) x8 (iadd .i64 x9 1) r0.2) none) (bnd (z0c.f k m1000000) fun r1=>br (bnot (ieq r1.1 0)) (some ([],r1.2)) (some (x5,r1.2))):=by kernel_rfl
def z0s.e (k:Nat):Entry:=Sg.entry z0s.sg fun x=>z0s.f k x.1 x.2
theorem z0s.ok (k:Nat):CallOK Tryz.prog 94 (z0s.e k):=fn_ok (c:=z0s.cx k) (code:=z0s.body) (TT.of tt_ok pp_ok mm_ok) (fns_ok ⟨(z0k.ok k),(z27.ok k),(z0c.ok k),trivial⟩) mixed Tryz.func94 (by kernel_rfl) (by kernel_rfl) (by kernel_rfl) (by kernel_rfl) (by kernel_rfl) (by kernel_rfl) (fun x=>by kernel_rfl)
def z0e.body:Go.Code:=Tryz.f32.body.getD .skip
def z0e.rs:List Go.ResultVar:=Tryz.f32.results.toList
def z0e.regs:List (Nat × RInfo):=[(0,ri [0,2] [2,1000000]),(1,⟨[0,2,3],[2,3,1000000],[8],[],0,[],[],[],[],[]⟩),(2,ri [2,3,13] [2,3,1000000]),(3,⟨[2],[2,1000000],[1],[],0,[],[],[],[],[]⟩),(4,⟨[2],[2,1000000],[1],[],0,[],[],[],[],[]⟩)]
def z0e.cx (k:Nat):Cx:=⟨tt,pp,[(92,(z0G.e k)),(93,(z19.e k)),(94,(z0s.e k)),(34,(z0c.e k))],z0e.regs,k,mm⟩
@[reducible] def z0e.sg:Sg:=⟨[.ref],[tpackReader],.dat tDelta,[tpackReader]⟩
def z0e.f (k:Nat) (o0:Ty.D tpackReader):Option (Sg.Out z0e.sg):=Sg.fn z0e.sg (z0e.cx k) z0e.body z0e.rs o0
theorem z0e.f_eq (k:Nat) (o0:Ty.D tpackReader):z0e.f k o0=bnd (z0G.f k 1000 o0) fun r0=>bnd (z19.f k 1048576 r0.2) fun r1=>bnd (z0s.f k 1048576 r1.2) fun r2=>bnd (z0c.f k r2.2) fun r3=>br (bnot (ieq r3.1 0)) (some (([],([],[])),r3.2)) (some ((r0.1,(r1.1,r2.1)),r3.2)):=by kernel_rfl
def z0e.e (k:Nat):Entry:=Sg.entry z0e.sg fun x=>z0e.f k x
theorem z0e.ok (k:Nat):CallOK Tryz.prog 32 (z0e.e k):=fn_ok (c:=z0e.cx k) (code:=z0e.body) (TT.of tt_ok pp_ok mm_ok) (fns_ok ⟨(z0G.ok k),(z19.ok k),(z0s.ok k),(z0c.ok k),trivial⟩) mixed Tryz.func32 (by kernel_rfl) (by kernel_rfl) (by kernel_rfl) (by kernel_rfl) (by kernel_rfl) (by kernel_rfl) (fun x=>by kernel_rfl)
def z1I.body:Go.Code:=Tryz.f184.body.getD .skip
def z1I.rs:List Go.ResultVar:=Tryz.f184.results.toList
def z1I.regs:List (Nat × RInfo):=[(0,ri [1] [1]),(1,ri [5,6] []),(2,⟨[5,6,7],[],[],[],0,[5,6],[],[],[],[]⟩),(3,ri [4,5,6] []),(4,ri [5,6,14] []),(5,ri [2] []),(6,ri [5,6] []),(7,ri [2] [])]
def z1I.cx (k:Nat):Cx:=⟨tt,pp,[],z1I.regs,k,mm⟩
@[reducible] def z1I.sg:Sg:=⟨[.dat tVec],[],.dat .bool,[]⟩
def z1I.f (k:Nat) (a0:Ty.D tVec):Option (Sg.Out z1I.sg):=Sg.fn z1I.sg (z1I.cx k) z1I.body z1I.rs a0
def z1I.l2 (k:Nat) (n:Nat) (x5:Ty.D tVec) (x6:Ty.D (.int .i64)):Option (Sg.Out z1I.sg):=loopAt (z1I.cx k) z1I.body [1,0,1,0] 2 [5,6] [] [] (Sg.K z1I.sg (z1I.cx k) z1I.rs) n ⟨[(5,.dat tVec x5),(6,.dat (.int .i64) x6)],[]⟩
theorem z1I.f_eq (k:Nat) (a0:Ty.D tVec):z1I.f k a0=z1I.l2 k k a0 0:=by kernel_rfl
theorem z1I.l2_eq (k:Nat) (n2:Nat) (x5:Ty.D tVec) (x6:Ty.D (.int .i64)):z1I.l2 k (n2+1) x5 x6=br (ilt x6 16) (br (inB x6 16) (br (ilt (rd (.int .i64) x5 (natOf x6)) 0) (some false) (br (ilt 1048576 (rd (.int .i64) x5 (natOf x6))) (some false) (z1I.l2 k n2 x5 (iadd .i64 x6 1)))) none) (some true):=by kernel_rfl
def z1I.e (k:Nat):Entry:=Sg.entry z1I.sg fun x=>z1I.f k x
theorem z1I.ok (k:Nat):CallOK Tryz.prog 184 (z1I.e k):=fn_ok (c:=z1I.cx k) (code:=z1I.body) (TT.of tt_ok pp_ok mm_ok) (fns_ok trivial) mixed Tryz.func184 (by kernel_rfl) (by kernel_rfl) (by kernel_rfl) (by kernel_rfl) (by kernel_rfl) (by kernel_rfl) (fun x=>by kernel_rfl)
def z2d.body:Go.Code:=Tryz.f208.body.getD .skip
def z2d.rs:List Go.ResultVar:=Tryz.f208.results.toList
def z2d.regs:List (Nat × RInfo):=[(0,ri [0,2] [2,1000000]),(1,ri [0,2,3] [2,3,1000000]),(2,ri [0,2,3,5] [2,3,1000000]),(3,⟨[0,2,3,5,6],[2,3,1000000],[],[],0,[0,2,3,5],[2,3,1000000],[],[],[]⟩),(4,ri [0,2,3,4,5] [2,3,1000000]),(5,ri [0,2,3,5] [2,3,1000000]),(6,ri [0,2,3,5] [2,3,1000000]),(7,ri [0,2,3,20] [2,3,1000000]),(8,ri [0,2,3] [2,3,1000000]),(9,ri [2,3,25] [2,3,1000000]),(10,ri [2] [2,1000000]),(11,ri [2] [2,1000000])]
def z2d.cx (k:Nat):Cx:=⟨tt,pp,[(87,(z0p.e k)),(34,(z0c.e k)),(184,(z1I.e k)),(89,(z0f.e k))],z2d.regs,k,mm⟩
@[reducible] def z2d.sg:Sg:=⟨[.ref],[tpackReader],.dat tVec,[tpackReader]⟩
def z2d.f (k:Nat) (o0:Ty.D tpackReader):Option (Sg.Out z2d.sg):=Sg.fn z2d.sg (z2d.cx k) z2d.body z2d.rs o0
def z2d.e (k:Nat):Entry:=Sg.entry z2d.sg fun x=>z2d.f k x
theorem z2d.ok (k:Nat):CallOK Tryz.prog 208 (z2d.e k):=fn_ok (c:=z2d.cx k) (code:=z2d.body) (TT.of tt_ok pp_ok mm_ok) (fns_ok ⟨(z0p.ok k),(z0c.ok k),(z1I.ok k),(z0f.ok k),trivial⟩) mixed Tryz.func208 (by kernel_rfl) (by kernel_rfl) (by kernel_rfl) (by kernel_rfl) (by kernel_rfl) (by kernel_rfl) (fun x=>by kernel_rfl)
def z1E.body:Go.Code:=Tryz.f133.body.getD .skip
def z1E.rs:List Go.ResultVar:=Tryz.f133.results.toList
def z1E.regs:List (Nat × RInfo):=[(0,⟨[1],[1],[0],[],0,[],[],[],[],[]⟩),(1,ri [1,14] [1]),(2,ri [2] []),(3,ri [1,16,17,18] [1]),(4,⟨[1,16,17,18,19],[1],[],[],0,[1,16,17,18],[1],[],[],[]⟩),(5,ri [1,3,4,16,17,18] [1,4]),(6,rq [1,16,17,18,51] [1] 29),(7,ri [2] []),(8,ri [1,16,17,18] [1]),(9,ri [2] [])]
def z1E.cx (k:Nat):Cx:=⟨tt,pp,[(184,(z1I.e k)),(119,(z1O.e k)),(176,(z0L.e k))],z1E.regs,k,mm⟩
@[reducible] def z1E.sg:Sg:=⟨[.dat tDots],[],.dat .bool,[]⟩
def z1E.f (k:Nat) (a0:Ty.D tDots):Option (Sg.Out z1E.sg):=Sg.fn z1E.sg (z1E.cx k) z1E.body z1E.rs a0
def z1E.l4 (k:Nat) (n:Nat) (x16:Ty.D (.slc tDot)) (x17:Ty.D (.int .i64)) (x18:Ty.D (.int .i64)) (m1:Ty.D tDots):Option (Sg.Out z1E.sg):=loopAt (z1E.cx k) z1E.body [1,1,0,1,0] 4 [1,16,17,18] [1] [] (Sg.K z1E.sg (z1E.cx k) z1E.rs) n ⟨[(1,.ref 1 []),(16,.dat (.slc tDot) x16),(17,.dat (.int .i64) x17),(18,.dat (.int .i64) x18)],[(1,.dat tDots m1)]⟩
theorem z1E.f_eq (k:Nat) (a0:Ty.D tDots):z1E.f k a0=bnd (z1I.f k a0.1) fun r0=>br (bnot r0) (some false) (br (ilt 4096 (ilen a0.2)) (some false) (z1E.l4 k k a0.2 (ilen a0.2) 0 a0)):=by kernel_rfl
theorem z1E.l4_eq (k:Nat) (n4:Nat) (x16:Ty.D (.slc tDot)) (x17:Ty.D (.int .i64)) (x18:Ty.D (.int .i64)) (m1:Ty.D tDots):z1E.l4 k (n4+1) x16 x17 x18 m1=br (ilt x18 x17) (br (inL x18 x16) (bnd (z1O.f k (rd tDot x16 (natOf x18))) fun r0=>br (bnot r0) (some false) (br (inB ((rd tDot x16 (natOf x18)).1) 16) (br (ile ((rd tDot x16 (natOf x18)).2) (iadd .i64 (rd (.int .i64) m1.1 (natOf ((rd tDot x16 (natOf x18)).1))) 1)) (some false) (br (ilt 0 x18) (br (inL (isub .i64 x18 1) m1.2) (bnd (z0L.f k (rd tDot m1.2 (natOf (isub .i64 x18 1))) (rd tDot x16 (natOf x18))) fun r1=>br (ile 0 r1) (some false) (z1E.l4 k n4 x16 x17 (iadd .i64 x18 1) m1)) none) (z1E.l4 k n4 x16 x17 (iadd .i64 x18 1) m1))) none)) none) (some true):=by kernel_rfl
def z1E.e (k:Nat):Entry:=Sg.entry z1E.sg fun x=>z1E.f k x
theorem z1E.ok (k:Nat):CallOK Tryz.prog 133 (z1E.e k):=fn_ok (c:=z1E.cx k) (code:=z1E.body) (TT.of tt_ok pp_ok mm_ok) (fns_ok ⟨(z1I.ok k),(z1O.ok k),(z0L.ok k),trivial⟩) mixed Tryz.func133 (by kernel_rfl) (by kernel_rfl) (by kernel_rfl) (by kernel_rfl) (by kernel_rfl) (by kernel_rfl) (fun x=>by kernel_rfl)
def z1J.body:Go.Code:=Tryz.f160.body.getD .skip
def z1J.rs:List Go.ResultVar:=Tryz.f160.results.toList
def z1J.regs:List (Nat × RInfo):=[(0,ri [0,2] [2,1000000]),(1,⟨[0,2,3],[2,3,1000000],[6],[],0,[],[],[],[],[]⟩),(2,ri [0,2,3,16] [2,3,1000000]),(3,ri [0,2,3] [2,3,1000000]),(4,ri [2,3,21] [2,3,1000000]),(5,⟨[2],[2,1000000],[1],[],0,[],[],[],[],[]⟩),(6,⟨[2],[2,1000000],[1],[],0,[],[],[],[],[]⟩)]
def z1J.cx (k:Nat):Cx:=⟨tt,pp,[(208,(z2d.e k)),(94,(z0s.e k)),(34,(z0c.e k)),(133,(z1E.e k)),(89,(z0f.e k))],z1J.regs,k,mm⟩
@[reducible] def z1J.sg:Sg:=⟨[.ref],[tpackReader],.dat tDots,[tpackReader]⟩
def z1J.f (k:Nat) (o0:Ty.D tpackReader):Option (Sg.Out z1J.sg):=Sg.fn z1J.sg (z1J.cx k) z1J.body z1J.rs o0
def z1J.e (k:Nat):Entry:=Sg.entry z1J.sg fun x=>z1J.f k x
theorem z1J.ok (k:Nat):CallOK Tryz.prog 160 (z1J.e k):=fn_ok (c:=z1J.cx k) (code:=z1J.body) (TT.of tt_ok pp_ok mm_ok) (fns_ok ⟨(z2d.ok k),(z0s.ok k),(z0c.ok k),(z1E.ok k),(z0f.ok k),trivial⟩) mixed Tryz.func160 (by kernel_rfl) (by kernel_rfl) (by kernel_rfl) (by kernel_rfl) (by kernel_rfl) (by kernel_rfl) (fun x=>by kernel_rfl)
def z0K.body:Go.Code:=Tryz.f130.body.getD .skip
def z0K.rs:List Go.ResultVar:=Tryz.f130.results.toList
def z0K.regs:List (Nat × RInfo):=[(0,ri [0] []),(1,ri [0,3] []),(2,ri [3,6,7,8] []),(3,⟨[3,6,7,8,9],[],[],[],0,[3,6,7,8],[],[],[],[]⟩),(4,⟨[3,5,6,7,8],[5],[3],[],0,[],[],[],[],[]⟩),(5,⟨[3,6,7,8],[],[0,4,5],[],0,[],[],[],[],[]⟩),(6,ri [3,6,7,8] []),(7,⟨[2],[],[0,1],[],0,[],[],[],[],[]⟩)]
def z0K.cx (k:Nat):Cx:=⟨tt,pp,[],z0K.regs,k,mm⟩
@[reducible] def z0K.sg:Sg:=⟨[.dat (.slc tTxn)],[],.own tDot,[]⟩
def z0K.f (k:Nat) (a0:Ty.D (.slc tTxn)):Option (Sg.Out z0K.sg):=Sg.fn z0K.sg (z0K.cx k) z0K.body z0K.rs a0
def z0K.e (k:Nat):Entry:=Sg.entry z0K.sg fun x=>z0K.f k x
theorem z0K.ok (k:Nat):CallOK Tryz.prog 130 (z0K.e k):=fn_ok (c:=z0K.cx k) (code:=z0K.body) (TT.of tt_ok pp_ok mm_ok) (fns_ok trivial) mixed Tryz.func130 (by kernel_rfl) (by kernel_rfl) (by kernel_rfl) (by kernel_rfl) (by kernel_rfl) (by kernel_rfl) (fun x=>by kernel_rfl)
def z1M.body:Go.Code:=Tryz.f183.body.getD .skip
def z1M.rs:List Go.ResultVar:=Tryz.f183.results.toList
def z1M.regs:List (Nat × RInfo):=[(0,ri [1,2,4] [2,4]),(1,⟨[1,4,5],[4,5],[3],[],0,[],[],[],[],[]⟩),(2,ri [4,5,10,11,12] [4,5]),(3,⟨[4,5,10,11,12,13],[4,5],[],[],0,[4,5,10,11,12],[4,5],[],[],[]⟩),(4,ri [4,5,7,10,11,12] [4,5,7]),(5,rq [4,5,7,10,11,12,16] [4,5,7] 9),(6,rq [4,5,7,10,11,12,25] [4,5,7] 10),(7,ri [4,5,10,11,12] [4,5]),(8,rq [4,5,7,10,11,12,41] [4,5,7] 17),(9,⟨[4,5,10,11,12],[4,5],[1,4,6],[],0,[],[],[],[],[]⟩),(10,ri [4,5,10,11,12] [4,5]),(11,⟨[4],[4],[1],[],0,[],[],[],[],[]⟩)]
def z1M.cx (k:Nat):Cx:=⟨tt,pp,[],z1M.regs,k,mm⟩
@[reducible] def z1M.sg:Sg:=⟨[.dat tVec,.dat (.slc tDot)],[],.dat tDots,[]⟩
def z1M.f (k:Nat) (a0:Ty.D tVec) (a1:Ty.D (.slc tDot)):Option (Sg.Out z1M.sg):=Sg.fn z1M.sg (z1M.cx k) z1M.body z1M.rs (a0,a1)
def z1M.e (k:Nat):Entry:=Sg.entry z1M.sg fun x=>z1M.f k x.1 x.2
theorem z1M.ok (k:Nat):CallOK Tryz.prog 183 (z1M.e k):=fn_ok (c:=z1M.cx k) (code:=z1M.body) (TT.of tt_ok pp_ok mm_ok) (fns_ok trivial) mixed Tryz.func183 (by kernel_rfl) (by kernel_rfl) (by kernel_rfl) (by kernel_rfl) (by kernel_rfl) (by kernel_rfl) (fun x=>by kernel_rfl)
def z2n.body:Go.Code:=Tryz.f129.body.getD .skip
def z2n.rs:List Go.ResultVar:=Tryz.f129.results.toList
def z2n.regs:List (Nat × RInfo):=[(0,ri [0,2] [2,5]),(1,⟨[0,2],[2,5],[2,3],[],0,[],[],[],[],[]⟩),(2,⟨[0,2],[2,5],[0,1],[0],0,[],[],[],[],[]⟩),(3,⟨[2],[2],[3],[],0,[],[],[0,2],[],[]⟩)]
def z2n.cx (k:Nat):Cx:=⟨tt,pp,[(138,(cloneE tDot)),(180,(delE tDot 181 dotKeep)),(182,(sortE tDot 176 dotLt)),(176,(z0L.e k)),(183,(z1M.e k))],z2n.regs,k,mm⟩
@[reducible] def z2n.sg:Sg:=⟨[.dat (.slc tDot)],[],.dat tDots,[]⟩
def z2n.f (k:Nat) (a0:Ty.D (.slc tDot)):Option (Sg.Out z2n.sg):=Sg.fn z2n.sg (z2n.cx k) z2n.body z2n.rs a0
def z2n.e (k:Nat):Entry:=Sg.entry z2n.sg fun x=>z2n.f k x
theorem z2n.ok (k:Nat):CallOK Tryz.prog 129 (z2n.e k):=fn_ok (c:=z2n.cx k) (code:=z2n.body) (TT.of tt_ok pp_ok mm_ok) (fns_ok ⟨cloneDot_ok,delDot_ok,sortDot_ok,(z0L.ok k),(z1M.ok k),trivial⟩) mixed Tryz.func129 (by kernel_rfl) (by kernel_rfl) (by kernel_rfl) (by kernel_rfl) (by kernel_rfl) (by kernel_rfl) (fun x=>by kernel_rfl)
def z0a.body:Go.Code:=Tryz.f179.body.getD .skip
def z0a.rs:List Go.ResultVar:=Tryz.f179.results.toList
def z0a.regs:List (Nat × RInfo):=[(0,ri [0,1] []),(1,ri [0,1,10] []),(2,ri [4] []),(3,ri [0,1,12,13] []),(4,⟨[0,1,12,13,14],[],[],[],0,[0,1,12,13],[],[],[],[]⟩),(5,ri [0,1,5,12,13] []),(6,rq [0,1,12,13,24] [] 9),(7,ri [4] []),(8,ri [0,1,12,13] []),(9,ri [4] [])]
def z0a.cx (k:Nat):Cx:=⟨tt,pp,[],z0a.regs,k,mm⟩
@[reducible] def z0a.sg:Sg:=⟨[.dat (.slc tDot),.dat (.slc tDot)],[],.dat .bool,[]⟩
def z0a.f (k:Nat) (a0:Ty.D (.slc tDot)) (a1:Ty.D (.slc tDot)):Option (Sg.Out z0a.sg):=Sg.fn z0a.sg (z0a.cx k) z0a.body z0a.rs (a0,a1)
def z0a.e (k:Nat):Entry:=Sg.entry z0a.sg fun x=>z0a.f k x.1 x.2
theorem z0a.ok (k:Nat):CallOK Tryz.prog 179 (z0a.e k):=fn_ok (c:=z0a.cx k) (code:=z0a.body) (TT.of tt_ok pp_ok mm_ok) (fns_ok trivial) mixed Tryz.func179 (by kernel_rfl) (by kernel_rfl) (by kernel_rfl) (by kernel_rfl) (by kernel_rfl) (by kernel_rfl) (fun x=>by kernel_rfl)
def z1Q.body:Go.Code:=Tryz.f128.body.getD .skip
def z1Q.rs:List Go.ResultVar:=Tryz.f128.results.toList
def z1Q.regs:List (Nat × RInfo):=[(0,⟨[2,3],[2,3],[0,1],[],0,[],[],[],[],[]⟩),(1,ri [4] [15])]
def z1Q.cx (k:Nat):Cx:=⟨tt,pp,[(179,(z0a.e k))],z1Q.regs,k,mm⟩
@[reducible] def z1Q.sg:Sg:=⟨[.dat tDots,.dat tDots],[],.dat .bool,[]⟩
def z1Q.f (k:Nat) (a0:Ty.D tDots) (a1:Ty.D tDots):Option (Sg.Out z1Q.sg):=Sg.fn z1Q.sg (z1Q.cx k) z1Q.body z1Q.rs (a0,a1)
def z1Q.e (k:Nat):Entry:=Sg.entry z1Q.sg fun x=>z1Q.f k x.1 x.2
theorem z1Q.ok (k:Nat):CallOK Tryz.prog 128 (z1Q.e k):=fn_ok (c:=z1Q.cx k) (code:=z1Q.body) (TT.of tt_ok pp_ok mm_ok) (fns_ok ⟨(z0a.ok k),trivial⟩) mixed Tryz.func128 (by kernel_rfl) (by kernel_rfl) (by kernel_rfl) (by kernel_rfl) (by kernel_rfl) (by kernel_rfl) (fun x=>by kernel_rfl)
def z0w.body:Go.Code:=Tryz.f131.body.getD .skip
def z0w.rs:List Go.ResultVar:=Tryz.f131.results.toList
def z0w.regs:List (Nat × RInfo):=[(0,⟨[1],[1],[0],[],0,[],[],[],[],[]⟩),(1,ri [2] [])]
def z0w.cx (k:Nat):Cx:=⟨tt,pp,[(50,(z1K.e k))],z0w.regs,k,mm⟩
@[reducible] def z0w.sg:Sg:=⟨[.dat tTxn],[],.dat .bool,[]⟩
def z0w.f (k:Nat) (a0:Ty.D tTxn):Option (Sg.Out z0w.sg):=Sg.fn z0w.sg (z0w.cx k) z0w.body z0w.rs a0
def z0w.e (k:Nat):Entry:=Sg.entry z0w.sg fun x=>z0w.f k x
theorem z0w.ok (k:Nat):CallOK Tryz.prog 131 (z0w.e k):=fn_ok (c:=z0w.cx k) (code:=z0w.body) (TT.of tt_ok pp_ok mm_ok) (fns_ok ⟨(z1K.ok k),trivial⟩) mixed Tryz.func131 (by kernel_rfl) (by kernel_rfl) (by kernel_rfl) (by kernel_rfl) (by kernel_rfl) (by kernel_rfl) (fun x=>by kernel_rfl)
def z08.body:Go.Code:=Tryz.f177.body.getD .skip
def z08.rs:List Go.ResultVar:=Tryz.f177.results.toList
def z08.regs:List (Nat × RInfo):=[(0,ri [0,1] []),(1,ri [0,1,7,8] []),(2,⟨[0,1,7,8,9],[],[],[],0,[0,1,7,8],[],[],[],[]⟩),(3,ri [0,1,5,7,8] []),(4,ri [0,1,5,7,8,16] [16]),(5,ri [4] []),(6,ri [0,1,7,8] []),(7,ri [4] [])]
def z08.cx (k:Nat):Cx:=⟨tt,pp,[(131,(z0w.e k))],z08.regs,k,mm⟩
@[reducible] def z08.sg:Sg:=⟨[.dat (.slc tTxn),.fn 131 0],[],.dat (.int .i64),[]⟩
def z08.f (k:Nat) (a0:Ty.D (.slc tTxn)):Option (Sg.Out z08.sg):=Sg.fn z08.sg (z08.cx k) z08.body z08.rs a0
def z08.e (k:Nat):Entry:=Sg.entry z08.sg fun x=>z08.f k x
theorem z08.ok (k:Nat):CallOK Tryz.prog 177 (z08.e k):=fn_ok (c:=z08.cx k) (code:=z08.body) (TT.of tt_ok pp_ok mm_ok) (fns_ok ⟨(z0w.ok k),trivial⟩) mixed Tryz.func177 (by kernel_rfl) (by kernel_rfl) (by kernel_rfl) (by kernel_rfl) (by kernel_rfl) (by kernel_rfl) (fun x=>by kernel_rfl)
def z02.body:Go.Code:=Tryz.f126.body.getD .skip
def z02.rs:List Go.ResultVar:=Tryz.f126.results.toList
def z02.regs:List (Nat × RInfo):=[(0,ri [0,1] []),(1,ri [4] [])]
def z02.cx (k:Nat):Cx:=⟨tt,pp,[(177,(z08.e k)),(131,(z0w.e k))],z02.regs,k,mm⟩
@[reducible] def z02.sg:Sg:=⟨[.dat (.slc tTxn),.fn 131 0],[],.dat .bool,[]⟩
def z02.f (k:Nat) (a0:Ty.D (.slc tTxn)):Option (Sg.Out z02.sg):=Sg.fn z02.sg (z02.cx k) z02.body z02.rs a0
def z02.e (k:Nat):Entry:=Sg.entry z02.sg fun x=>z02.f k x
theorem z02.ok (k:Nat):CallOK Tryz.prog 126 (z02.e k):=fn_ok (c:=z02.cx k) (code:=z02.body) (TT.of tt_ok pp_ok mm_ok) (fns_ok ⟨(z08.ok k),(z0w.ok k),trivial⟩) mixed Tryz.func126 (by kernel_rfl) (by kernel_rfl) (by kernel_rfl) (by kernel_rfl) (by kernel_rfl) (by kernel_rfl) (fun x=>by kernel_rfl)
def z0u.body:Go.Code:=Tryz.f132.body.getD .skip
def z0u.rs:List Go.ResultVar:=Tryz.f132.results.toList
def z0u.regs:List (Nat × RInfo):=[(0,ri [1] [1]),(1,ri [2] [])]
def z0u.cx (k:Nat):Cx:=⟨tt,pp,[(119,(z1O.e k))],z0u.regs,k,mm⟩
@[reducible] def z0u.sg:Sg:=⟨[.dat tDot],[],.dat .bool,[]⟩
def z0u.f (k:Nat) (a0:Ty.D tDot):Option (Sg.Out z0u.sg):=Sg.fn z0u.sg (z0u.cx k) z0u.body z0u.rs a0
def z0u.e (k:Nat):Entry:=Sg.entry z0u.sg fun x=>z0u.f k x
theorem z0u.ok (k:Nat):CallOK Tryz.prog 132 (z0u.e k):=fn_ok (c:=z0u.cx k) (code:=z0u.body) (TT.of tt_ok pp_ok mm_ok) (fns_ok ⟨(z1O.ok k),trivial⟩) mixed Tryz.func132 (by kernel_rfl) (by kernel_rfl) (by kernel_rfl) (by kernel_rfl) (by kernel_rfl) (by kernel_rfl) (fun x=>by kernel_rfl)
def z06.body:Go.Code:=Tryz.f178.body.getD .skip
def z06.rs:List Go.ResultVar:=Tryz.f178.results.toList
def z06.regs:List (Nat × RInfo):=[(0,ri [0,1] []),(1,ri [0,1,7,8] []),(2,⟨[0,1,7,8,9],[],[],[],0,[0,1,7,8],[],[],[],[]⟩),(3,ri [0,1,5,7,8] []),(4,ri [0,1,5,7,8,16] [16]),(5,ri [4] []),(6,ri [0,1,7,8] []),(7,ri [4] [])]
def z06.cx (k:Nat):Cx:=⟨tt,pp,[(132,(z0u.e k))],z06.regs,k,mm⟩
@[reducible] def z06.sg:Sg:=⟨[.dat (.slc tDot),.fn 132 0],[],.dat (.int .i64),[]⟩
def z06.f (k:Nat) (a0:Ty.D (.slc tDot)):Option (Sg.Out z06.sg):=Sg.fn z06.sg (z06.cx k) z06.body z06.rs a0
def z06.e (k:Nat):Entry:=Sg.entry z06.sg fun x=>z06.f k x
theorem z06.ok (k:Nat):CallOK Tryz.prog 178 (z06.e k):=fn_ok (c:=z06.cx k) (code:=z06.body) (TT.of tt_ok pp_ok mm_ok) (fns_ok ⟨(z0u.ok k),trivial⟩) mixed Tryz.func178 (by kernel_rfl) (by kernel_rfl) (by kernel_rfl) (by kernel_rfl) (by kernel_rfl) (by kernel_rfl) (fun x=>by kernel_rfl)
def z03.body:Go.Code:=Tryz.f127.body.getD .skip
def z03.rs:List Go.ResultVar:=Tryz.f127.results.toList
def z03.regs:List (Nat × RInfo):=[(0,ri [0,1] []),(1,ri [4] [])]
def z03.cx (k:Nat):Cx:=⟨tt,pp,[(178,(z06.e k)),(132,(z0u.e k))],z03.regs,k,mm⟩
@[reducible] def z03.sg:Sg:=⟨[.dat (.slc tDot),.fn 132 0],[],.dat .bool,[]⟩
def z03.f (k:Nat) (a0:Ty.D (.slc tDot)):Option (Sg.Out z03.sg):=Sg.fn z03.sg (z03.cx k) z03.body z03.rs a0
def z03.e (k:Nat):Entry:=Sg.entry z03.sg fun x=>z03.f k x
theorem z03.ok (k:Nat):CallOK Tryz.prog 127 (z03.e k):=fn_ok (c:=z03.cx k) (code:=z03.body) (TT.of tt_ok pp_ok mm_ok) (fns_ok ⟨(z06.ok k),(z0u.ok k),trivial⟩) mixed Tryz.func127 (by kernel_rfl) (by kernel_rfl) (by kernel_rfl) (by kernel_rfl) (by kernel_rfl) (by kernel_rfl) (fun x=>by kernel_rfl)
def z0X.body:Go.Code:=Tryz.f54.body.getD .skip
def z0X.rs:List Go.ResultVar:=Tryz.f54.results.toList
def z0X.regs:List (Nat × RInfo):=[(0,⟨[1],[1],[0],[],0,[],[],[],[],[]⟩),(1,rq [1,30] [1] 26),(2,ri [2] [49,53]),(3,ri [1,33] [1,33]),(4,ri [2] [49,53]),(5,ri [1,35,36] [1]),(6,⟨[1,35,36,37],[1],[],[],0,[1,35,36],[1],[],[],[]⟩),(7,⟨[1,4,35,36],[1],[1],[],0,[],[],[],[],[]⟩),(8,ri [1,35,36,45] [1,44]),(9,ri [2] [49,53]),(10,ri [1,35,36] [1]),(11,ri [2] [49,53])]
def z0X.cx (k:Nat):Cx:=⟨tt,pp,[(125,(z1R.e k)),(52,(z0Z.e k)),(130,(z0K.e k)),(129,(z2n.e k)),(128,(z1Q.e k)),(126,(z02.e k)),(131,(z0w.e k)),(127,(z03.e k)),(132,(z0u.e k)),(133,(z1E.e k))],z0X.regs,k,mm⟩
@[reducible] def z0X.sg:Sg:=⟨[.dat tState],[],.dat .bool,[]⟩
def z0X.f (k:Nat) (a0:Ty.D tState):Option (Sg.Out z0X.sg):=Sg.fn z0X.sg (z0X.cx k) z0X.body z0X.rs a0
def z0X.e (k:Nat):Entry:=Sg.entry z0X.sg fun x=>z0X.f k x
theorem z0X.ok (k:Nat):CallOK Tryz.prog 54 (z0X.e k):=fn_ok (c:=z0X.cx k) (code:=z0X.body) (TT.of tt_ok pp_ok mm_ok) (fns_ok ⟨(z1R.ok k),(z0Z.ok k),(z0K.ok k),(z2n.ok k),(z1Q.ok k),(z02.ok k),(z0w.ok k),(z03.ok k),(z0u.ok k),(z1E.ok k),trivial⟩) mixed Tryz.func54 (by kernel_rfl) (by kernel_rfl) (by kernel_rfl) (by kernel_rfl) (by kernel_rfl) (by kernel_rfl) (fun x=>by kernel_rfl)
@[reducible] def state_Read.sg:Sg:=⟨[.ref],[tpackReader],.dat tState,[tpackReader]⟩
def z0i.body:Go.Code:=Tryz.f35.body.getD .skip
def z0i.rs:List Go.ResultVar:=Tryz.f35.results.toList
def z0i.regs:List (Nat × RInfo):=[(0,ri [0] [1000000]),(1,ri [0,5] [1000000]),(2,ri [2] [1000000]),(3,ri [2] [1000000])]
def z0i.cx (k:Nat):Cx:=⟨tt,pp,[(98,(z0d.e k))],z0i.regs,k,mm⟩
@[reducible] def z0i.sg:Sg:=⟨[.ref],[tpackReader],.dat (.int .i64),[tpackReader]⟩
def z0i.f (k:Nat) (o0:Ty.D tpackReader):Option (Sg.Out z0i.sg):=Sg.fn z0i.sg (z0i.cx k) z0i.body z0i.rs o0
theorem z0i.f_eq (k:Nat) (o0:Ty.D tpackReader):z0i.f k o0=bnd (z0d.f k o0) fun r0=>br (bnot r0.1) (some (0,r0.2)) (some ((ilen r0.2.1),r0.2)):=by kernel_rfl
def z0i.e (k:Nat):Entry:=Sg.entry z0i.sg fun x=>z0i.f k x
theorem z0i.ok (k:Nat):CallOK Tryz.prog 35 (z0i.e k):=fn_ok (c:=z0i.cx k) (code:=z0i.body) (TT.of tt_ok pp_ok mm_ok) (fns_ok ⟨(z0d.ok k),trivial⟩) mixed Tryz.func35 (by kernel_rfl) (by kernel_rfl) (by kernel_rfl) (by kernel_rfl) (by kernel_rfl) (by kernel_rfl) (fun x=>by kernel_rfl)
def z0m.body:Go.Code:=Tryz.f41.body.getD .skip
def z0m.rs:List Go.ResultVar:=Tryz.f41.results.toList
def z0m.regs:List (Nat × RInfo):=[(0,ri [0] [1000000]),(1,ri [0,5] [1000000]),(2,ri [0] [1000000]),(3,ri [2] [9,1000000])]
def z0m.cx (k:Nat):Cx:=⟨tt,pp,[(35,(z0i.e k)),(89,(z0f.e k)),(34,(z0c.e k))],z0m.regs,k,mm⟩
@[reducible] def z0m.sg:Sg:=⟨[.ref],[tpackReader],.dat (.int .i64),[tpackReader]⟩
def z0m.f (k:Nat) (o0:Ty.D tpackReader):Option (Sg.Out z0m.sg):=Sg.fn z0m.sg (z0m.cx k) z0m.body z0m.rs o0
theorem z0m.f_eq (k:Nat) (o0:Ty.D tpackReader):z0m.f k o0=bnd (z0i.f k o0) fun r0=>br (ilt 0 r0.1) (bnd (z0f.f k 3 r0.2) fun r1=>bnd (z0c.f k r1.2) fun r2=>some (r2.1,r2.2)) (bnd (z0c.f k r0.2) fun r3=>some (r3.1,r3.2)):=by kernel_rfl
def z0m.e (k:Nat):Entry:=Sg.entry z0m.sg fun x=>z0m.f k x
theorem z0m.ok (k:Nat):CallOK Tryz.prog 41 (z0m.e k):=fn_ok (c:=z0m.cx k) (code:=z0m.body) (TT.of tt_ok pp_ok mm_ok) (fns_ok ⟨(z0i.ok k),(z0f.ok k),(z0c.ok k),trivial⟩) mixed Tryz.func41 (by kernel_rfl) (by kernel_rfl) (by kernel_rfl) (by kernel_rfl) (by kernel_rfl) (by kernel_rfl) (fun x=>by kernel_rfl)
def z17.body:Go.Code:=Tryz.f51.body.getD .skip
def z17.rs:List Go.ResultVar:=Tryz.f51.results.toList
def z17.regs:List (Nat × RInfo):=[(0,ri [0] []),(1,ri [2] [])]
def z17.cx (k:Nat):Cx:=⟨tt,pp,[],z17.regs,k,mm⟩
@[reducible] def z17.sg:Sg:=⟨[.dat (.int .i64)],[],.dat .bool,[]⟩
def z17.f (k:Nat) (a0:Ty.D (.int .i64)):Option (Sg.Out z17.sg):=Sg.fn z17.sg (z17.cx k) z17.body z17.rs a0
def z17.e (k:Nat):Entry:=Sg.entry z17.sg fun x=>z17.f k x
theorem z17.ok (k:Nat):CallOK Tryz.prog 51 (z17.e k):=fn_ok (c:=z17.cx k) (code:=z17.body) (TT.of tt_ok pp_ok mm_ok) (fns_ok trivial) mixed Tryz.func51 (by kernel_rfl) (by kernel_rfl) (by kernel_rfl) (by kernel_rfl) (by kernel_rfl) (by kernel_rfl) (fun x=>by kernel_rfl)
def z0q.body:Go.Code:=Tryz.f123.body.getD .skip
def z0q.rs:List Go.ResultVar:=Tryz.f123.results.toList
def z0q.regs:List (Nat × RInfo):=[(0,⟨[1],[1],[0],[],0,[],[],[],[],[]⟩),(1,ri [2] [])]
def z0q.cx (k:Nat):Cx:=⟨tt,pp,[(50,(z1K.e k))],z0q.regs,k,mm⟩
@[reducible] def z0q.sg:Sg:=⟨[.dat tTxn],[],.dat .bool,[]⟩
def z0q.f (k:Nat) (a0:Ty.D tTxn):Option (Sg.Out z0q.sg):=Sg.fn z0q.sg (z0q.cx k) z0q.body z0q.rs a0
theorem z0q.f_eq (k:Nat) (a0:Ty.D tTxn):z0q.f k a0=bnd (z1K.f k a0) fun r0=>some (bnot (ieq r0 0)):=by kernel_rfl
def z0q.e (k:Nat):Entry:=Sg.entry z0q.sg fun x=>z0q.f k x
theorem z0q.ok (k:Nat):CallOK Tryz.prog 123 (z0q.e k):=fn_ok (c:=z0q.cx k) (code:=z0q.body) (TT.of tt_ok pp_ok mm_ok) (fns_ok ⟨(z1K.ok k),trivial⟩) mixed Tryz.func123 (by kernel_rfl) (by kernel_rfl) (by kernel_rfl) (by kernel_rfl) (by kernel_rfl) (by kernel_rfl) (fun x=>by kernel_rfl)
def z05.body:Go.Code:=Tryz.f177.body.getD .skip
def z05.rs:List Go.ResultVar:=Tryz.f177.results.toList
def z05.regs:List (Nat × RInfo):=[(0,ri [0,1] []),(1,ri [0,1,7,8] []),(2,⟨[0,1,7,8,9],[],[],[],0,[0,1,7,8],[],[],[],[]⟩),(3,ri [0,1,5,7,8] []),(4,ri [0,1,5,7,8,16] [16]),(5,ri [4] []),(6,ri [0,1,7,8] []),(7,ri [4] [])]
def z05.cx (k:Nat):Cx:=⟨tt,pp,[(123,(z0q.e k))],z05.regs,k,mm⟩
@[reducible] def z05.sg:Sg:=⟨[.dat (.slc tTxn),.fn 123 0],[],.dat (.int .i64),[]⟩
def z05.f (k:Nat) (a0:Ty.D (.slc tTxn)):Option (Sg.Out z05.sg):=Sg.fn z05.sg (z05.cx k) z05.body z05.rs a0
def z05.l2 (k:Nat) (n:Nat) (x0:Ty.D (.slc tTxn)) (x7:Ty.D (.int .i64)) (x8:Ty.D (.int .i64)):Option (Sg.Out z05.sg):=loopAt (z05.cx k) z05.body [1,0,1,0] 2 [0,1,7,8] [] [] (Sg.K z05.sg (z05.cx k) z05.rs) n ⟨[(0,.dat (.slc tTxn) x0),(1,.fn 123 []),(7,.dat (.int .i64) x7),(8,.dat (.int .i64) x8)],[]⟩
theorem z05.f_eq (k:Nat) (a0:Ty.D (.slc tTxn)):z05.f k a0=z05.l2 k k a0 (ilen a0) 0:=by kernel_rfl
theorem z05.l2_eq (k:Nat) (n2:Nat) (x0:Ty.D (.slc tTxn)) (x7:Ty.D (.int .i64)) (x8:Ty.D (.int .i64)):z05.l2 k (n2+1) x0 x7 x8=br (ilt x8 x7) (br (inL x8 x0) (bnd (z0q.f k (rd tTxn x0 (natOf x8))) fun r0=>br r0 (some x8) (z05.l2 k n2 x0 x7 (iadd .i64 x8 1))) none) (some (-1)):=by kernel_rfl
def z05.e (k:Nat):Entry:=Sg.entry z05.sg fun x=>z05.f k x
theorem z05.ok (k:Nat):CallOK Tryz.prog 177 (z05.e k):=fn_ok (c:=z05.cx k) (code:=z05.body) (TT.of tt_ok pp_ok mm_ok) (fns_ok ⟨(z0q.ok k),trivial⟩) mixed Tryz.func177 (by kernel_rfl) (by kernel_rfl) (by kernel_rfl) (by kernel_rfl) (by kernel_rfl) (by kernel_rfl) (fun x=>by kernel_rfl)
def z00.body:Go.Code:=Tryz.f126.body.getD .skip
def z00.rs:List Go.ResultVar:=Tryz.f126.results.toList
def z00.regs:List (Nat × RInfo):=[(0,ri [0,1] []),(1,ri [4] [])]
def z00.cx (k:Nat):Cx:=⟨tt,pp,[(177,(Entry.alt z08.sg (z08.e k) (z05.e k))),(123,(z0q.e k))],z00.regs,k,mm⟩
@[reducible] def z00.sg:Sg:=⟨[.dat (.slc tTxn),.fn 123 0],[],.dat .bool,[]⟩
def z00.f (k:Nat) (a0:Ty.D (.slc tTxn)):Option (Sg.Out z00.sg):=Sg.fn z00.sg (z00.cx k) z00.body z00.rs a0
theorem z00.f_eq (k:Nat) (a0:Ty.D (.slc tTxn)):z00.f k a0=bnd (z05.f k a0) fun r0=>some (ile 0 r0):=by kernel_rfl
def z00.e (k:Nat):Entry:=Sg.entry z00.sg fun x=>z00.f k x
theorem z00.ok (k:Nat):CallOK Tryz.prog 126 (z00.e k):=fn_ok (c:=z00.cx k) (code:=z00.body) (TT.of tt_ok pp_ok mm_ok) (fns_ok ⟨(alt_ok (z08.ok k) (z05.ok k)),(z0q.ok k),trivial⟩) mixed Tryz.func126 (by kernel_rfl) (by kernel_rfl) (by kernel_rfl) (by kernel_rfl) (by kernel_rfl) (by kernel_rfl) (fun x=>by kernel_rfl)
def z0r.body:Go.Code:=Tryz.f124.body.getD .skip
def z0r.rs:List Go.ResultVar:=Tryz.f124.results.toList
def z0r.regs:List (Nat × RInfo):=[(0,ri [1] [1]),(1,ri [2] [])]
def z0r.cx (k:Nat):Cx:=⟨tt,pp,[(119,(z1O.e k))],z0r.regs,k,mm⟩
@[reducible] def z0r.sg:Sg:=⟨[.dat tDot],[],.dat .bool,[]⟩
def z0r.f (k:Nat) (a0:Ty.D tDot):Option (Sg.Out z0r.sg):=Sg.fn z0r.sg (z0r.cx k) z0r.body z0r.rs a0
theorem z0r.f_eq (k:Nat) (a0:Ty.D tDot):z0r.f k a0=bnd (z1O.f k a0) fun r0=>some (bnot r0):=by kernel_rfl
def z0r.e (k:Nat):Entry:=Sg.entry z0r.sg fun x=>z0r.f k x
theorem z0r.ok (k:Nat):CallOK Tryz.prog 124 (z0r.e k):=fn_ok (c:=z0r.cx k) (code:=z0r.body) (TT.of tt_ok pp_ok mm_ok) (fns_ok ⟨(z1O.ok k),trivial⟩) mixed Tryz.func124 (by kernel_rfl) (by kernel_rfl) (by kernel_rfl) (by kernel_rfl) (by kernel_rfl) (by kernel_rfl) (fun x=>by kernel_rfl)
def z04.body:Go.Code:=Tryz.f178.body.getD .skip
def z04.rs:List Go.ResultVar:=Tryz.f178.results.toList
def z04.regs:List (Nat × RInfo):=[(0,ri [0,1] []),(1,ri [0,1,7,8] []),(2,⟨[0,1,7,8,9],[],[],[],0,[0,1,7,8],[],[],[],[]⟩),(3,ri [0,1,5,7,8] []),(4,ri [0,1,5,7,8,16] [16]),(5,ri [4] []),(6,ri [0,1,7,8] []),(7,ri [4] [])]
def z04.cx (k:Nat):Cx:=⟨tt,pp,[(124,(z0r.e k))],z04.regs,k,mm⟩
@[reducible] def z04.sg:Sg:=⟨[.dat (.slc tDot),.fn 124 0],[],.dat (.int .i64),[]⟩
def z04.f (k:Nat) (a0:Ty.D (.slc tDot)):Option (Sg.Out z04.sg):=Sg.fn z04.sg (z04.cx k) z04.body z04.rs a0
def z04.l2 (k:Nat) (n:Nat) (x0:Ty.D (.slc tDot)) (x7:Ty.D (.int .i64)) (x8:Ty.D (.int .i64)):Option (Sg.Out z04.sg):=loopAt (z04.cx k) z04.body [1,0,1,0] 2 [0,1,7,8] [] [] (Sg.K z04.sg (z04.cx k) z04.rs) n ⟨[(0,.dat (.slc tDot) x0),(1,.fn 124 []),(7,.dat (.int .i64) x7),(8,.dat (.int .i64) x8)],[]⟩
theorem z04.f_eq (k:Nat) (a0:Ty.D (.slc tDot)):z04.f k a0=z04.l2 k k a0 (ilen a0) 0:=by kernel_rfl
theorem z04.l2_eq (k:Nat) (n2:Nat) (x0:Ty.D (.slc tDot)) (x7:Ty.D (.int .i64)) (x8:Ty.D (.int .i64)):z04.l2 k (n2+1) x0 x7 x8=br (ilt x8 x7) (br (inL x8 x0) (bnd (z0r.f k (rd tDot x0 (natOf x8))) fun r0=>br r0 (some x8) (z04.l2 k n2 x0 x7 (iadd .i64 x8 1))) none) (some (-1)):=by kernel_rfl
def z04.e (k:Nat):Entry:=Sg.entry z04.sg fun x=>z04.f k x
theorem z04.ok (k:Nat):CallOK Tryz.prog 178 (z04.e k):=fn_ok (c:=z04.cx k) (code:=z04.body) (TT.of tt_ok pp_ok mm_ok) (fns_ok ⟨(z0r.ok k),trivial⟩) mixed Tryz.func178 (by kernel_rfl) (by kernel_rfl) (by kernel_rfl) (by kernel_rfl) (by kernel_rfl) (by kernel_rfl) (fun x=>by kernel_rfl)
def z01.body:Go.Code:=Tryz.f127.body.getD .skip
def z01.rs:List Go.ResultVar:=Tryz.f127.results.toList
def z01.regs:List (Nat × RInfo):=[(0,ri [0,1] []),(1,ri [4] [])]
def z01.cx (k:Nat):Cx:=⟨tt,pp,[(178,(Entry.alt z06.sg (z06.e k) (z04.e k))),(124,(z0r.e k))],z01.regs,k,mm⟩
@[reducible] def z01.sg:Sg:=⟨[.dat (.slc tDot),.fn 124 0],[],.dat .bool,[]⟩
def z01.f (k:Nat) (a0:Ty.D (.slc tDot)):Option (Sg.Out z01.sg):=Sg.fn z01.sg (z01.cx k) z01.body z01.rs a0
theorem z01.f_eq (k:Nat) (a0:Ty.D (.slc tDot)):z01.f k a0=bnd (z04.f k a0) fun r0=>some (ile 0 r0):=by kernel_rfl
def z01.e (k:Nat):Entry:=Sg.entry z01.sg fun x=>z01.f k x
theorem z01.ok (k:Nat):CallOK Tryz.prog 127 (z01.e k):=fn_ok (c:=z01.cx k) (code:=z01.body) (TT.of tt_ok pp_ok mm_ok) (fns_ok ⟨(alt_ok (z06.ok k) (z04.ok k)),(z0r.ok k),trivial⟩) mixed Tryz.func127 (by kernel_rfl) (by kernel_rfl) (by kernel_rfl) (by kernel_rfl) (by kernel_rfl) (by kernel_rfl) (fun x=>by kernel_rfl)
def z0H.body:Go.Code:=Tryz.f53.body.getD .skip
def z0H.rs:List Go.ResultVar:=Tryz.f53.results.toList
def z0H.regs:List (Nat × RInfo):=[(0,⟨[1],[1],[0],[],0,[],[],[],[],[]⟩),(1,ri [1,3] [1]),(2,ri [1,3,4] [1]),(3,ri [2] [12,24])]
def z0H.cx (k:Nat):Cx:=⟨tt,pp,[(123,(z0q.e k)),(124,(z0r.e k)),(125,(z1R.e k)),(126,(Entry.alt z02.sg (z02.e k) (z00.e k))),(52,(z0Z.e k)),(127,(Entry.alt z03.sg (z03.e k) (z01.e k)))],z0H.regs,k,mm⟩
@[reducible] def z0H.sg:Sg:=⟨[.dat tDelta],[],.dat .bool,[]⟩
def z0H.f (k:Nat) (a0:Ty.D tDelta):Option (Sg.Out z0H.sg):=Sg.fn z0H.sg (z0H.cx k) z0H.body z0H.rs a0
theorem z0H.f_eq (k:Nat) (a0:Ty.D tDelta):z0H.f k a0=br (ile (ilen a0.1) 1000) (bnd (z1R.f k a0.1) fun r0=>br r0 (bnd (z00.f k a0.1) fun r1=>br (bnot r1) (bnd (z0Z.f k a0.2.1) fun r2=>br r2 (bnd (z01.f k a0.2.2) fun r3=>some (bnot r3)) (some false)) (some false)) (some false)) (some false):=by kernel_rfl
def z0H.e (k:Nat):Entry:=Sg.entry z0H.sg fun x=>z0H.f k x
theorem z0H.ok (k:Nat):CallOK Tryz.prog 53 (z0H.e k):=fn_ok (c:=z0H.cx k) (code:=z0H.body) (TT.of tt_ok pp_ok mm_ok) (fns_ok ⟨(z0q.ok k),(z0r.ok k),(z1R.ok k),(alt_ok (z02.ok k) (z00.ok k)),(z0Z.ok k),(alt_ok (z03.ok k) (z01.ok k)),trivial⟩) mixed Tryz.func53 (by kernel_rfl) (by kernel_rfl) (by kernel_rfl) (by kernel_rfl) (by kernel_rfl) (by kernel_rfl) (fun x=>by kernel_rfl)
def z0E.body:Go.Code:=Tryz.f13.body.getD .skip
def z0E.rs:List Go.ResultVar:=Tryz.f13.results.toList
def z0E.regs:List (Nat × RInfo):=[(0,⟨[1],[1],[0],[],0,[],[],[],[],[]⟩),(1,ri [1,4] [1]),(2,ri [1,4,5] [1]),(3,ri [2] [15,20,36,41]),(4,ri [1,4,11] [1]),(5,ri [2] [15,20,36,41]),(6,ri [1,4,32] [1]),(7,ri [2] [15,20,36,41]),(8,ri [1,37] [1]),(9,ri [2] [15,20,36,41]),(10,ri [2] [15,20,36,41])]
def z0E.cx (k:Nat):Cx:=⟨tt,pp,[(50,(z1K.e k)),(51,(z17.e k)),(52,(z0Z.e k)),(53,(z0H.e k)),(54,(z0X.e k))],z0E.regs,k,mm⟩
@[reducible] def z0E.sg:Sg:=⟨[.dat tRecord],[],.dat .bool,[]⟩
def z0E.f (k:Nat) (a0:Ty.D tRecord):Option (Sg.Out z0E.sg):=Sg.fn z0E.sg (z0E.cx k) z0E.body z0E.rs a0
theorem z0E.f_eq (k:Nat) (a0:Ty.D tRecord):z0E.f k a0=br (ieq a0.1 1) (bnd (z1K.f k a0.2.1) fun r0=>some (ieq r0 0)) (br (ieq a0.1 2) (bnd (z17.f k a0.2.2.1) fun r1=>br r1 (bnd (z0Z.f k (a0.2.2.2.1::[])) fun r2=>br r2 (br (ile 0 a0.2.2.2.2.1) (some (ile a0.2.2.2.2.1 2)) (some false)) (some false)) (some false)) (br (ieq a0.1 3) (bnd (z0H.f k a0.2.2.2.2.2.1) fun r3=>some r3) (br (ieq a0.1 4) (bnd (z0X.f k a0.2.2.2.2.2.2) fun r4=>some r4) (some false)))):=by kernel_rfl
def z0E.e (k:Nat):Entry:=Sg.entry z0E.sg fun x=>z0E.f k x
theorem z0E.ok (k:Nat):CallOK Tryz.prog 13 (z0E.e k):=fn_ok (c:=z0E.cx k) (code:=z0E.body) (TT.of tt_ok pp_ok mm_ok) (fns_ok ⟨(z1K.ok k),(z17.ok k),(z0Z.ok k),(z0H.ok k),(z0X.ok k),trivial⟩) mixed Tryz.func13 (by kernel_rfl) (by kernel_rfl) (by kernel_rfl) (by kernel_rfl) (by kernel_rfl) (by kernel_rfl) (fun x=>by kernel_rfl)
@[reducible] def record_Parse.sg:Sg:=⟨[.dat .str],[],.t2 (.dat tRecord) (.dat (.int .i64)),[]⟩
end Go.Proofs.YtggcagclpkhlhaaGreatDoor
end
