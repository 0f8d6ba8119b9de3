/- The functions that the statement reaches, and what they come to. Part 1. -/
import Derived.Test.YtggcagclpkhlhaaGreatDoorProg
import Derived.Shelf.SlGeneric
import Derived.Shelf.SlLaysE0
import Derived.Shelf.SlLaysF0
import Derived.Ground.SlsfProg
import Derived.Ground.SlgnProg
import Derived.KernelRfl
import Derived.Shelf.SlSortCmp.KitK
import Derived.Shelf.SlicesE.DeleteFunc
import Derived.Sort.WalkB12
import Derived.Lib.SliceRun
import Derived.Shelf.Strings.Builder1
import Derived.WalkKit
import Derived.BigCall
import Derived.Laws.IdiomStrings
import Derived.RegionCalls
import Derived.Deep.RegionWith
import Derived.WalkSpells
import Derived.Deep.LoopGhost
import Derived.Lib.OthersKept
import Derived.BigQuiet
import Derived.Deep.QuietTactic
import Derived.OwnWalk
import Derived.Shelf.Unicode.DecodeAny
import Derived.Lib.LaidU8T
import Derived.Lib.RuneCountTail
import Derived.Test.YtggcagclpkhlhaaGreatDoorFw1
import Derived.Test.YtggcagclpkhlhaaGreatDoorFw2
import Derived.Test.YtggcagclpkhlhaaGreatDoorFw3
set_option linter.unusedVariables false
set_option linter.unusedSimpArgs false
set_option linter.unusedSectionVars false
noncomputable section
/- slices.Clone at Dot: the walk, and its contract. -/
namespace Go.Proofs.YtggcagclpkhlhaaGreatDoor
open Go.Shelf Go.RowKit Go.Lib
theorem ciDot:∃ i z,Tryz.prog.info? 33=some i∧i.zero=some z∧i.size=2∧i.bytes≤16384∧z.cells.size=2:=okInfoK_spec (by kernel_rfl)
theorem cuDot:Tryz.prog.underlying 26=some (.slice 33):=by kernel_rfl
set_option maxHeartbeats 4000000 in
set_option maxRecDepth 100000 in
theorem cloneDot_nil (c:Nat) (w:World):Calls Tryz.prog 138 #[.slice none 0 c] w fun e w'=>e = .returned (.slice none 0 0)∧w'=w:=by
 have heq:(binOp .eql 26 (.slice none 0 c) (.slice none 0 0)).run Tryz.prog w = .ok (.bool true) w:=Go.run_eql_slice_nil (P:=Tryz.prog) w 26 33 none 0 c cuDot
 go_enter Tryz.func138,Tryz.ntmps138
 go_wp2
 all_goals (go_ret;exact ⟨rfl,rfl⟩)
set_option maxHeartbeats 4000000 in
set_option maxRecDepth 100000 in
theorem cloneDot_none (a:Addr) (c:Nat) (w:World):Calls Tryz.prog 138 #[.slice (some a) 0 c] w fun e w'=>e = .returned (.slice (some ⟨w.heap.size,0,none⟩) 0 0)∧w'=w.alloc (.cells #[] 33):=by
 have heq:(binOp .eql 26 (.slice (some a) 0 c) (.slice none 0 0)).run Tryz.prog w = .ok (.bool false) w:=Go.run_eql_slice_nil (P:=Tryz.prog) w 26 33 (some a) 0 c cuDot
 go_enter Tryz.func138,Tryz.ntmps138
 go_wp2
 all_goals (go_ret;exact ⟨rfl,rfl⟩)
set_option maxHeartbeats 4000000 in
set_option maxRecDepth 100000 in
theorem cloneDot_some (a:Addr) (n c:Nat) (cs:List Value) (w:World) (hn:0<n) (hbig:n≤4294967296) (hcl:cs.length=n * 2) (hcs:∀ (j:Nat) (v:Value),cs[j]? = some v→w.cell? (a.add j)=some v) (h1:∀ v ∈ cs,v.oneCell'=true) :
  Calls Tryz.prog 138 #[.slice (some a) n c] w fun e w'=>∃ cap,n≤cap∧cap≤9223372036854775807∧e = .returned (.slice (some ⟨w.heap.size+1,0,none⟩) n cap)∧∃ ROW:Array Value,ROW.size=cap * 2∧(∀ (j:Nat) (v:Value),cs[j]? = some v→ROW[j]? = some v)∧w'=(w.alloc (.cells #[] 33)).drew.alloc (.cells ROW 33):=by
 obtain ⟨i0,z0,hi0,hz0,hzs,hzb,hzc⟩:=ciDot
 obtain ⟨W,hW⟩:∃ W,W=w.alloc (.cells #[] 33):=⟨_,rfl⟩
 have hWs:W.heap.size=w.heap.size+1:=by rw [hW];simp
 have hsrc:Src Tryz.prog i0.size 26 (.slice (some a) n c) n cs W:=by
  rw [hzs]
  exact Src.ofSlice W cuDot a n c cs (by omega) (fun j u hj=>by rw [hW];exact Lib.cell?_alloc_some _ (hcs j u hj)) h1
 have hold:(Builtin.firstCells i0.size 0 (.slice (some ⟨w.heap.size,0,none⟩) 0 0)).run Tryz.prog W.drew = .ok ([]:List Value).toArray W.drew:=by
  rw [hzs]
  exact run_firstCells_some W.drew 2 0 ⟨w.heap.size,0,none⟩ 0 0 [] (by simp) (fun j v hj=>by simp at hj)
 have hge:=grownCap_ge W n 0 33
 have hle:=grownCap_le_maxLen W n 0 33 (by unfold maxLen;omega)
 unfold maxLen at hle
 obtain ⟨cap,hcap⟩:∃ cap,cap=grownCap W n 0 33:=⟨_,rfl⟩
 obtain ⟨ROW,hROW⟩:∃ ROW:Array Value,ROW=cs.toArray++Builtin.zeroCells z0.cells (cap - n):=⟨_,rfl⟩
 have hrun:∀ ty,(Builtin.append_ #[26,26] ty #[.slice (some ⟨w.heap.size,0,none⟩) 0 0,.slice (some a) n c]).run Tryz.prog W = .ok (.slice (some ⟨w.heap.size+1,0,none⟩) n cap) (W.drew.alloc (.cells ROW 33)):=fun ty=>by
  have h:=run_append_grow_src W 26 26 ty 33 i0 z0 cuDot hi0 hz0 (some ⟨w.heap.size,0,none⟩) 0 0 [] hold _ n cs hsrc (by omega) (by omega) (by rw [Nat.zero_add];have:=Nat.mul_le_mul hbig hzb;exact growslice_fits (by omega) (by omega))
  rw [Nat.zero_add,List.nil_append,← hcap,← hROW,hWs] at h
  exact h
 rw [← hcap] at hge hle
 have hRs:ROW.size=cap * 2:=by rw [hROW];simp [Builtin.zeroCells,hzc,hcl];omega
 have hRp:∀ (j:Nat) (v:Value),cs[j]? = some v→ROW[j]? = some v:=fun j v hj=>by
  have:=(List.getElem?_eq_some_iff.1 hj).1
  rw [hROW,Array.getElem?_append_left (by simpa using this)]
  simpa using hj
 clear hROW hcap hold
 subst hW
 have heq:(binOp .eql 26 (.slice (some a) n c) (.slice none 0 0)).run Tryz.prog w = .ok (.bool false) w:=Go.run_eql_slice_nil (P:=Tryz.prog) w 26 33 (some a) n c cuDot
 go_enter Tryz.func138,Tryz.ntmps138
 go_wp2_with (at_builtin;refine Lib.wpList_append_run _ rfl _ _ _ _ rfl _ _ rfl rfl _ _ (hrun _) ?_)
 all_goals (go_ret;exact ⟨cap,hge,hle,rfl,ROW,hRs,hRp,rfl⟩)
end Go.Proofs.YtggcagclpkhlhaaGreatDoor
namespace Go.Proofs.YtggcagclpkhlhaaGreatDoor.Pal
open Go Go.Sort
@[reducible] def celDot:Ty:=(.pair (.int .i64) (.int .i64))
theorem cloneDot_ok:CallOK Tryz.prog 138 (cloneE celDot):=by
 have eF:∀ args w,(callFunc 138 args).run Tryz.prog w = .ok (.enter 138 args) w:=enters_of Tryz.func138 (by kernel_rfl) rfl
 have val:∀ args objs v os,(cloneE celDot).val args objs=some (v,os)→∃ (xs:List celDot.D) (va:V),args=[va]∧V.as (.slc celDot) va=some xs∧objs=[]∧xs.length≤4294967296∧v = .raw celDot xs∧os=[]:=by
  intro args objs v os h
  unfold Entry.val cloneE at h
  simp only at h
  split at h
  ·rename_i va
   rw [Option.bind_eq_some_iff] at h
   obtain ⟨xs,hxs,h⟩:=h
   obtain ⟨hr,h⟩:=br_then h
   injection h with h;injection h with h1 h2
   exact ⟨xs,va,rfl,hxs,rfl,by have:=hr;simp only [room,List.length_nil,Nat.zero_add,decide_eq_true_eq] at this;exact this,h1.symm,h2.symm⟩
  ·cases h
 refine ⟨fun α args objs K=>?_,fun args objs vr os hval X G w argv tA tM hW hTab hX hA hM hcnt htok=>?_⟩
 ·unfold Entry.val cloneE
  simp only
  split
  ·rename_i va
   cases V.as (.slc celDot) va with
   | none=>rfl
   | some ys=>simp only [Option.bind_some];rw [br_bind];rfl
  ·rfl
 ·obtain ⟨xs,va,rfl,hva,rfl,hlen,rfl,rfl⟩:=val _ _ _ _ hval
  obtain ⟨x2,r2,t5,t6,rfl,rfl,hx2,rfl,rfl⟩:=hA
  obtain ⟨ad,n,c,rfl,g2,g3,g4⟩:=(TRep.as_ hva hx2).slc
  refine .inl ⟨eF _ _,?_⟩
  have empty:∀ (ad':Option Addr) (w':World),xs=[]→Evo X w w'→(∀ b o v,G.I b o=some v→w'.cell? ⟨b,o,none⟩=some v)→∃ G',Post X G w 0 (.raw celDot xs) [] (.slice ad' 0 0) (some (.slice ad n c)) G' w':=by
   intro ad' w' hx hE hc
   subst hx
   exact ⟨G,⟨hE,Im.le_refl _,fun _ _ _ h=>.inl h,fun _ _ _=>rfl⟩,⟨hc,hW.io,fun b o k h=>Nat.lt_of_lt_of_le (hW.lt b o k h) hE.size⟩,fun _ _=>rfl,[],[],[],⟨_,⟨ad',0,0,rfl,rfl,by omega,.inl ⟨rfl,rfl⟩⟩,rfl⟩,rfl,rfl,fun q=>by simp,fun q hq=>by simp at hq⟩
  rcases Nat.eq_zero_or_pos n with h0 | h0
  ·have hxs:xs=[]:=List.eq_nil_of_length_eq_zero (by omega)
   subst h0
   cases ad with
   | none =>
    refine Calls.mono (cloneDot_nil c w) fun e' w' hh=>?_
    obtain ⟨rfl,rfl⟩:=hh
    exact empty none w' hxs (Evo.refl X w') hW.holds
   | some a =>
    refine Calls.mono (cloneDot_none a c w) fun e' w' hh=>?_
    obtain ⟨rfl,rfl⟩:=hh
    exact empty _ _ hxs (Evo.alloc X w _) (fun b o v hv=>Lib.cell?_alloc_some _ (hW.holds b o v hv))
  ·rcases g4 with hx0 | ⟨b,o,rfl,hel⟩
   ·subst hx0;simp at g2;omega
   obtain ⟨cs,hcA,hcat⟩:=Elems.all2 (fun x c=>DRep.length celDot x c) xs b o hel
   have hcl:cs.length=n * 2:=by rw [← g2];exact hcA.len
   refine Calls.mono (cloneDot_some ⟨b,o,none⟩ n c cs w h0 (by omega) hcl (fun j v hj=>by rw [Addr.add_lit];exact hW.holds b _ v (hcat j v hj)) (all2_plain xs cs hcA)) fun e' w' hh=>?_
   obtain ⟨cap,hge,hle,rfl,ROW,hRs,hRp,rfl⟩:=hh
   have hW1:((w.alloc (.cells #[] 33)).drew).heap.size=w.heap.size+1:=by show (w.heap.push _).size=_;simp
   have hnew:((w.alloc (.cells #[] 33)).drew.alloc (.cells ROW 33)).heap[w.heap.size+1]? = some (.cells ROW 33 (0,0)):=by
    show ((w.heap.push _).push _)[w.heap.size+1]? = _
    have:w.heap.size+1=(w.heap.push (Obj.cells #[] 33 (0,0))).size:=by simp
    rw [this];exact Array.getElem?_push_size
   have hE:Evo X w ((w.alloc (.cells #[] 33)).drew.alloc (.cells ROW 33)) :=
    (Evo.alloc X w _).trans ((Evo.drew X _).trans (Evo.alloc X _ _) (fun _ _ _ h=>h) (fun _ _ _ h=>h)) (fun _ _ _ h=>h) (fun _ _ _ h=>h)
   have hc:∀ b o v,G.I b o=some v→((w.alloc (.cells #[] 33)).drew.alloc (.cells ROW 33)).cell? ⟨b,o,none⟩=some v:=fun b o v hv=>by
    refine Lib.cell?_alloc_some _ ?_
    show (w.alloc (.cells #[] 33)).cell? ⟨b,o,none⟩=some v
    exact Lib.cell?_alloc_some _ (hW.holds b o v hv)
   have hIn:∀ o,G.I (w.heap.size+1) o=none:=fun o=>by
    cases hv:G.I (w.heap.size+1) o with
    | none=>rfl
    | some v=>have:=World.block_lt_of_cell? w _ (hW.holds _ _ v hv);have:w.heap.size+1<w.heap.size:=this;omega
   have hOn:∀ o,G.O (w.heap.size+1) o=none:=fun o=>by
    cases hv:G.O (w.heap.size+1) o with
    | none=>rfl
    | some v=>have:=hW.lt _ _ v hv;omega
   refine ⟨G,⟨hE,Im.le_refl _,fun _ _ _ h=>.inl h,fun _ _ _=>rfl⟩,⟨hc,hW.io,fun b o k h=>Nat.lt_of_lt_of_le (hW.lt b o k h) hE.size⟩,fun _ _=>rfl,[w.heap.size+1],[],[],⟨_,⟨_,n,cap,rfl,g2,⟨hge,hle⟩,.inr ⟨w.heap.size+1,rfl,rfl,⟨ROW,33,cs,hnew,hRs,hcA,hRp⟩,hIn,hOn⟩⟩,rfl⟩,rfl,rfl,fun q=>?_,fun q hq=>?_⟩
   ·have:cnt q [w.heap.size+1]≤1:=by simp only [cnt];exact List.count_le_length
    simpa using this
   ·have:q=w.heap.size+1:=by simpa [cnt_pos.symm] using hq
    subst this;exact .inl (by omega)
end Go.Proofs.YtggcagclpkhlhaaGreatDoor.Pal
end
noncomputable section
/- slices.Clone at Txn: the walk, and its contract. -/
namespace Go.Proofs.YtggcagclpkhlhaaGreatDoor
open Go.Shelf Go.RowKit Go.Lib
theorem ciTxn:∃ i z,Tryz.prog.info? 36=some i∧i.zero=some z∧i.size=6∧i.bytes≤16384∧z.cells.size=6:=okInfoK_spec (by kernel_rfl)
theorem cuTxn:Tryz.prog.underlying 22=some (.slice 36):=by kernel_rfl
set_option maxHeartbeats 4000000 in
set_option maxRecDepth 100000 in
theorem cloneTxn_nil (c:Nat) (w:World):Calls Tryz.prog 140 #[.slice none 0 c] w fun e w'=>e = .returned (.slice none 0 0)∧w'=w:=by
 have heq:(binOp .eql 22 (.slice none 0 c) (.slice none 0 0)).run Tryz.prog w = .ok (.bool true) w:=Go.run_eql_slice_nil (P:=Tryz.prog) w 22 36 none 0 c cuTxn
 go_enter Tryz.func140,Tryz.ntmps140
 go_wp2
 all_goals (go_ret;exact ⟨rfl,rfl⟩)
set_option maxHeartbeats 4000000 in
set_option maxRecDepth 100000 in
theorem cloneTxn_none (a:Addr) (c:Nat) (w:World):Calls Tryz.prog 140 #[.slice (some a) 0 c] w fun e w'=>e = .returned (.slice (some ⟨w.heap.size,0,none⟩) 0 0)∧w'=w.alloc (.cells #[] 36):=by
 have heq:(binOp .eql 22 (.slice (some a) 0 c) (.slice none 0 0)).run Tryz.prog w = .ok (.bool false) w:=Go.run_eql_slice_nil (P:=Tryz.prog) w 22 36 (some a) 0 c cuTxn
 go_enter Tryz.func140,Tryz.ntmps140
 go_wp2
 all_goals (go_ret;exact ⟨rfl,rfl⟩)
set_option maxHeartbeats 4000000 in
set_option maxRecDepth 100000 in
theorem cloneTxn_some (a:Addr) (n c:Nat) (cs:List Value) (w:World) (hn:0<n) (hbig:n≤4294967296) (hcl:cs.length=n * 6) (hcs:∀ (j:Nat) (v:Value),cs[j]? = some v→w.cell? (a.add j)=some v) (h1:∀ v ∈ cs,v.oneCell'=true) :
  Calls Tryz.prog 140 #[.slice (some a) n c] w fun e w'=>∃ cap,n≤cap∧cap≤9223372036854775807∧e = .returned (.slice (some ⟨w.heap.size+1,0,none⟩) n cap)∧∃ ROW:Array Value,ROW.size=cap * 6∧(∀ (j:Nat) (v:Value),cs[j]? = some v→ROW[j]? = some v)∧w'=(w.alloc (.cells #[] 36)).drew.alloc (.cells ROW 36):=by
 obtain ⟨i0,z0,hi0,hz0,hzs,hzb,hzc⟩:=ciTxn
 obtain ⟨W,hW⟩:∃ W,W=w.alloc (.cells #[] 36):=⟨_,rfl⟩
 have hWs:W.heap.size=w.heap.size+1:=by rw [hW];simp
 have hsrc:Src Tryz.prog i0.size 22 (.slice (some a) n c) n cs W:=by
  rw [hzs]
  exact Src.ofSlice W cuTxn a n c cs (by omega) (fun j u hj=>by rw [hW];exact Lib.cell?_alloc_some _ (hcs j u hj)) h1
 have hold:(Builtin.firstCells i0.size 0 (.slice (some ⟨w.heap.size,0,none⟩) 0 0)).run Tryz.prog W.drew = .ok ([]:List Value).toArray W.drew:=by
  rw [hzs]
  exact run_firstCells_some W.drew 6 0 ⟨w.heap.size,0,none⟩ 0 0 [] (by simp) (fun j v hj=>by simp at hj)
 have hge:=grownCap_ge W n 0 36
 have hle:=grownCap_le_maxLen W n 0 36 (by unfold maxLen;omega)
 unfold maxLen at hle
 obtain ⟨cap,hcap⟩:∃ cap,cap=grownCap W n 0 36:=⟨_,rfl⟩
 obtain ⟨ROW,hROW⟩:∃ ROW:Array Value,ROW=cs.toArray++Builtin.zeroCells z0.cells (cap - n):=⟨_,rfl⟩
 have hrun:∀ ty,(Builtin.append_ #[22,22] ty #[.slice (some ⟨w.heap.size,0,none⟩) 0 0,.slice (some a) n c]).run Tryz.prog W = .ok (.slice (some ⟨w.heap.size+1,0,none⟩) n cap) (W.drew.alloc (.cells ROW 36)):=fun ty=>by
  have h:=run_append_grow_src W 22 22 ty 36 i0 z0 cuTxn hi0 hz0 (some ⟨w.heap.size,0,none⟩) 0 0 [] hold _ n cs hsrc (by omega) (by omega) (by rw [Nat.zero_add];have:=Nat.mul_le_mul hbig hzb;exact growslice_fits (by omega) (by omega))
  rw [Nat.zero_add,List.nil_append,← hcap,← hROW,hWs] at h
  exact h
 rw [← hcap] at hge hle
 have hRs:ROW.size=cap * 6:=by rw [hROW];simp [Builtin.zeroCells,hzc,hcl];omega
 have hRp:∀ (j:Nat) (v:Value),cs[j]? = some v→ROW[j]? = some v:=fun j v hj=>by
  have:=(List.getElem?_eq_some_iff.1 hj).1
  rw [hROW,Array.getElem?_append_left (by simpa using this)]
  simpa using hj
 clear hROW hcap hold
 subst hW
 have heq:(binOp .eql 22 (.slice (some a) n c) (.slice none 0 0)).run Tryz.prog w = .ok (.bool false) w:=Go.run_eql_slice_nil (P:=Tryz.prog) w 22 36 (some a) n c cuTxn
 go_enter Tryz.func140,Tryz.ntmps140
 go_wp2_with (at_builtin;refine Lib.wpList_append_run _ rfl _ _ _ _ rfl _ _ rfl rfl _ _ (hrun _) ?_)
 all_goals (go_ret;exact ⟨cap,hge,hle,rfl,ROW,hRs,hRp,rfl⟩)
end Go.Proofs.YtggcagclpkhlhaaGreatDoor
namespace Go.Proofs.YtggcagclpkhlhaaGreatDoor.Pal
open Go Go.Sort
@[reducible] def celTxn:Ty:=(.pair (.pair (.int .i64) (.int .i64)) (.pair (.int .i64) (.pair (.int .i64) (.pair .bool (.slc (.pair (.int .i64) (.pair (.slc .str) (.pair (.pair (.int .i64) (.pair (.int .i64) .str)) (.pair (.int .i64) (.slc (.pair (.pair (.int .i64) (.int .i64)) (.int .i64))))))))))))
theorem cloneTxn_ok:CallOK Tryz.prog 140 (cloneE celTxn):=by
 have eF:∀ args w,(callFunc 140 args).run Tryz.prog w = .ok (.enter 140 args) w:=enters_of Tryz.func140 (by kernel_rfl) rfl
 have val:∀ args objs v os,(cloneE celTxn).val args objs=some (v,os)→∃ (xs:List celTxn.D) (va:V),args=[va]∧V.as (.slc celTxn) va=some xs∧objs=[]∧xs.length≤4294967296∧v = .raw celTxn xs∧os=[]:=by
  intro args objs v os h
  unfold Entry.val cloneE at h
  simp only at h
  split at h
  ·rename_i va
   rw [Option.bind_eq_some_iff] at h
   obtain ⟨xs,hxs,h⟩:=h
   obtain ⟨hr,h⟩:=br_then h
   injection h with h;injection h with h1 h2
   exact ⟨xs,va,rfl,hxs,rfl,by have:=hr;simp only [room,List.length_nil,Nat.zero_add,decide_eq_true_eq] at this;exact this,h1.symm,h2.symm⟩
  ·cases h
 refine ⟨fun α args objs K=>?_,fun args objs vr os hval X G w argv tA tM hW hTab hX hA hM hcnt htok=>?_⟩
 ·unfold Entry.val cloneE
  simp only
  split
  ·rename_i va
   cases V.as (.slc celTxn) va with
   | none=>rfl
   | some ys=>simp only [Option.bind_some];rw [br_bind];rfl
  ·rfl
 ·obtain ⟨xs,va,rfl,hva,rfl,hlen,rfl,rfl⟩:=val _ _ _ _ hval
  obtain ⟨x2,r2,t5,t6,rfl,rfl,hx2,rfl,rfl⟩:=hA
  obtain ⟨ad,n,c,rfl,g2,g3,g4⟩:=(TRep.as_ hva hx2).slc
  refine .inl ⟨eF _ _,?_⟩
  have empty:∀ (ad':Option Addr) (w':World),xs=[]→Evo X w w'→(∀ b o v,G.I b o=some v→w'.cell? ⟨b,o,none⟩=some v)→∃ G',Post X G w 0 (.raw celTxn xs) [] (.slice ad' 0 0) (some (.slice ad n c)) G' w':=by
   intro ad' w' hx hE hc
   subst hx
   exact ⟨G,⟨hE,Im.le_refl _,fun _ _ _ h=>.inl h,fun _ _ _=>rfl⟩,⟨hc,hW.io,fun b o k h=>Nat.lt_of_lt_of_le (hW.lt b o k h) hE.size⟩,fun _ _=>rfl,[],[],[],⟨_,⟨ad',0,0,rfl,rfl,by omega,.inl ⟨rfl,rfl⟩⟩,rfl⟩,rfl,rfl,fun q=>by simp,fun q hq=>by simp at hq⟩
  rcases Nat.eq_zero_or_pos n with h0 | h0
  ·have hxs:xs=[]:=List.eq_nil_of_length_eq_zero (by omega)
   subst h0
   cases ad with
   | none =>
    refine Calls.mono (cloneTxn_nil c w) fun e' w' hh=>?_
    obtain ⟨rfl,rfl⟩:=hh
    exact empty none w' hxs (Evo.refl X w') hW.holds
   | some a =>
    refine Calls.mono (cloneTxn_none a c w) fun e' w' hh=>?_
    obtain ⟨rfl,rfl⟩:=hh
    exact empty _ _ hxs (Evo.alloc X w _) (fun b o v hv=>Lib.cell?_alloc_some _ (hW.holds b o v hv))
  ·rcases g4 with hx0 | ⟨b,o,rfl,hel⟩
   ·subst hx0;simp at g2;omega
   obtain ⟨cs,hcA,hcat⟩:=Elems.all2 (fun x c=>DRep.length celTxn x c) xs b o hel
   have hcl:cs.length=n * 6:=by rw [← g2];exact hcA.len
   refine Calls.mono (cloneTxn_some ⟨b,o,none⟩ n c cs w h0 (by omega) hcl (fun j v hj=>by rw [Addr.add_lit];exact hW.holds b _ v (hcat j v hj)) (all2_plain xs cs hcA)) fun e' w' hh=>?_
   obtain ⟨cap,hge,hle,rfl,ROW,hRs,hRp,rfl⟩:=hh
   have hW1:((w.alloc (.cells #[] 36)).drew).heap.size=w.heap.size+1:=by show (w.heap.push _).size=_;simp
   have hnew:((w.alloc (.cells #[] 36)).drew.alloc (.cells ROW 36)).heap[w.heap.size+1]? = some (.cells ROW 36 (0,0)):=by
    show ((w.heap.push _).push _)[w.heap.size+1]? = _
    have:w.heap.size+1=(w.heap.push (Obj.cells #[] 36 (0,0))).size:=by simp
    rw [this];exact Array.getElem?_push_size
   have hE:Evo X w ((w.alloc (.cells #[] 36)).drew.alloc (.cells ROW 36)) :=
    (Evo.alloc X w _).trans ((Evo.drew X _).trans (Evo.alloc X _ _) (fun _ _ _ h=>h) (fun _ _ _ h=>h)) (fun _ _ _ h=>h) (fun _ _ _ h=>h)
   have hc:∀ b o v,G.I b o=some v→((w.alloc (.cells #[] 36)).drew.alloc (.cells ROW 36)).cell? ⟨b,o,none⟩=some v:=fun b o v hv=>by
    refine Lib.cell?_alloc_some _ ?_
    show (w.alloc (.cells #[] 36)).cell? ⟨b,o,none⟩=some v
    exact Lib.cell?_alloc_some _ (hW.holds b o v hv)
   have hIn:∀ o,G.I (w.heap.size+1) o=none:=fun o=>by
    cases hv:G.I (w.heap.size+1) o with
    | none=>rfl
    | some v=>have:=World.block_lt_of_cell? w _ (hW.holds _ _ v hv);have:w.heap.size+1<w.heap.size:=this;omega
   have hOn:∀ o,G.O (w.heap.size+1) o=none:=fun o=>by
    cases hv:G.O (w.heap.size+1) o with
    | none=>rfl
    | some v=>have:=hW.lt _ _ v hv;omega
   refine ⟨G,⟨hE,Im.le_refl _,fun _ _ _ h=>.inl h,fun _ _ _=>rfl⟩,⟨hc,hW.io,fun b o k h=>Nat.lt_of_lt_of_le (hW.lt b o k h) hE.size⟩,fun _ _=>rfl,[w.heap.size+1],[],[],⟨_,⟨_,n,cap,rfl,g2,⟨hge,hle⟩,.inr ⟨w.heap.size+1,rfl,rfl,⟨ROW,36,cs,hnew,hRs,hcA,hRp⟩,hIn,hOn⟩⟩,rfl⟩,rfl,rfl,fun q=>?_,fun q hq=>?_⟩
   ·have:cnt q [w.heap.size+1]≤1:=by simp only [cnt];exact List.count_le_length
    simpa using this
   ·have:q=w.heap.size+1:=by simpa [cnt_pos.symm] using hq
    subst this;exact .inl (by omega)
end Go.Proofs.YtggcagclpkhlhaaGreatDoor.Pal
end
noncomputable section
/- slices.Clone at Undo: the walk, and its contract. -/
namespace Go.Proofs.YtggcagclpkhlhaaGreatDoor
open Go.Shelf Go.RowKit Go.Lib
end Go.Proofs.YtggcagclpkhlhaaGreatDoor
namespace Go.Proofs.YtggcagclpkhlhaaGreatDoor.Pal
open Go Go.Sort
@[reducible] def celUndo:Ty:=(.pair (.pair (.int .i64) (.int .i64)) (.int .i64))
end Go.Proofs.YtggcagclpkhlhaaGreatDoor.Pal
end
noncomputable section
/- slices.Grow at Dot: the walk, and its contract. -/
namespace Go.Proofs.YtggcagclpkhlhaaGreatDoor
open Go.Shelf Go.RowKit Go.Lib
theorem giDot:∃ i z,Tryz.prog.info? 33=some i∧i.zero=some z∧i.size=2∧i.bytes≤16384∧z.cells.size=2:=okInfoK_spec (by kernel_rfl)
theorem guDot:Tryz.prog.underlying 26=some (.slice 33):=by kernel_rfl
theorem gu3Dot:Tryz.prog.underlying 3=some (.int .i64):=by kernel_rfl
set_option maxHeartbeats 4000000 in
set_option maxRecDepth 100000 in
theorem growDot_walk (base : Option Addr) (len cap n : Nat) (olds : List Value) (w : World) (hlc : len ≤ cap) (hc63 : cap ≤ 9223372036854775807) (hgt : cap < len + n) (hbig : len + n ≤ 8589934592) (hol : olds.length = cap * 2) (hnil : base = none → cap = 0)
    (hcs : ∀ a, base = some a → ∀ (j : Nat) (v : Value), olds[j]? = some v → w.cell? (a.add j) = some v) :
    Calls Tryz.prog 261 #[.slice base len cap, .int .i64 n] w fun e w' => e = .returned (.slice (some ⟨w.heap.size, 0, none⟩) len (grownCap w (len + n) cap 33)) ∧
      ∃ ROW : Array Value, ROW.size = grownCap w (len + n) cap 33 * 2 ∧ (∀ (j : Nat) (v : Value), olds[j]? = some v → ROW[j]? = some v) ∧ w' = w.drew.alloc (.cells ROW 33) := by
  obtain ⟨i0, z0, hi0, hz0, hzs, hzb, hzc⟩ := giDot
  have h1 : ¬ ((n : Int) < 0) := by omega
  have hw : IntKind.i64.wrap ((cap : Int) - (len : Int)) = (cap : Int) - (len : Int) := by rw [IntKind.wrap_i64]; omega
  have hw2 : IntKind.i64.wrap ((n : Int) - ((cap : Int) - (len : Int))) = ((len + n - cap : Nat) : Int) := by rw [IntKind.wrap_i64]; omega
  have h2 : (0 : Int) < ((len + n - cap : Nat) : Int) := by omega
  have hik : cap + (len + n - cap) = len + n := by omega
  have hold : (Builtin.firstCells i0.size cap (.slice base cap cap)).run Tryz.prog w.drew = .ok olds.toArray w.drew := by
    rw [hzs]
    cases base with
    | none =>
      have h0 := hnil rfl
      subst h0
      rw [List.length_eq_zero_iff.1 hol]
      exact run_firstCells_none w.drew 2 0 0 0
    | some a => exact run_firstCells_some w.drew 2 cap a cap cap olds (by omega) (fun j v hj => hcs a rfl j v hj)
  have hrz : ∀ ty, (Builtin.append_ #[26, 3] ty #[.slice base cap cap, .int .i64 ((len + n - cap : Nat) : Int)]).run Tryz.prog w =
      .ok (.slice (some ⟨w.heap.size, 0, none⟩) (len + n) (grownCap w (len + n) cap 33)) (w.drew.alloc (.cells (olds.toArray ++ Builtin.zeroCells z0.cells (len + n - cap) ++ Builtin.zeroCells z0.cells (grownCap w (len + n) cap 33 - (len + n))) 33)) := fun ty => by
    have h := Lib.run_append_grow_zeros w 26 3 ty 33 i0 z0 .i64 .i64 guDot gu3Dot hi0 hz0 base cap cap olds hold (len + n - cap) (by omega) (by omega) (by omega) (by omega) (by have := Nat.mul_le_mul (show len + n - cap ≤ 8589934592 by omega) hzb; omega) (by rw [hik]; have := Nat.mul_le_mul hbig hzb; exact growslice_fits hgt (by omega))
    rw [hik] at h
    exact h
  have hGn : len + n ≤ grownCap w (len + n) cap 33 := grownCap_ge w _ _ _
  have hG63 : grownCap w (len + n) cap 33 ≤ 9223372036854775807 := by
    have := grownCap_le_maxLen w (len + n) cap 33 (by unfold maxLen; omega)
    unfold maxLen at this
    omega
  obtain ⟨ROW, hROW⟩ : ∃ ROW : Array Value, ROW = olds.toArray ++ Builtin.zeroCells z0.cells (len + n - cap) ++ Builtin.zeroCells z0.cells (grownCap w (len + n) cap 33 - (len + n)) := ⟨_, rfl⟩
  rw [← hROW] at hrz
  have hRs : ROW.size = grownCap w (len + n) cap 33 * 2 := by rw [hROW]; simp [Builtin.zeroCells, hzc, hol]; omega
  have hRp : ∀ (j : Nat) (v : Value), olds[j]? = some v → ROW[j]? = some v := fun j v hj => by
    have := (List.getElem?_eq_some_iff.1 hj).1
    rw [hROW, Array.getElem?_append_left (by simp; omega), Array.getElem?_append_left (by simpa using this)]
    simpa using hj
  clear hROW
  generalize grownCap w (len + n) cap 33 = G at hrz hGn hG63 hRs ⊢
  generalize hk : len + n - cap = q at hrz hw2 h2 hik ⊢
  have hlG : (len : Int) ≤ (G : Int) := by omega
  have hlc' : (len : Int) ≤ (cap : Int) := by omega
  clear hold hcs
  go_enter Tryz.func261, Tryz.ntmps261
  cases base with
  | none =>
    have h0 := hnil rfl
    subst h0
    have hl0 : len = 0 := by omega
    subst hl0
    have hqn : q = n := by omega
    subst hqn
    rw [Nat.zero_add] at hrz hGn
    clear hw hw2 hik hlG hlc' hk hgt
    have hgt : (0 : Int) < (q : Int) := h2
    go_wp2_with (at_builtin; refine Lib.wpList_append_run _ rfl _ _ _ _ rfl _ _ rfl rfl _ _ (hrz _) ?_)
    all_goals (go_ret; first | exact ⟨rfl, ROW, hRs, hRp, rfl⟩ | exact ⟨rfl, ROW, hRs, rfl⟩)
  | some a =>
    obtain ⟨ab, ao, asp⟩ := a
    go_wp2_with (at_builtin; refine Lib.wpList_append_run _ rfl _ _ _ _ rfl _ _ rfl rfl _ _ (hrz _) ?_)
    all_goals (go_ret; first | exact ⟨rfl, ROW, hRs, hRp, rfl⟩ | exact ⟨rfl, ROW, hRs, rfl⟩)

set_option maxHeartbeats 4000000 in
set_option maxRecDepth 100000 in
theorem growDot_stay (base:Option Addr) (len cap n:Nat) (w:World) (hlc:len≤cap) (hc63:cap≤9223372036854775807) (hgt:len+n≤cap) :
  Calls Tryz.prog 261 #[.slice base len cap,.int .i64 n] w fun e w'=>e = .returned (.slice base len cap)∧w'=w:=by
 have h1:¬ ((n:Int)<0):=by omega
 have hw:IntKind.i64.wrap ((cap:Int) - (len:Int))=(cap:Int) - (len:Int):=by rw [IntKind.wrap_i64];omega
 have hw2:IntKind.i64.wrap ((n:Int) - ((cap:Int) - (len:Int)))=(n:Int) - ((cap:Int) - (len:Int)):=by rw [IntKind.wrap_i64];omega
 have h2:¬ (0:Int)<(n:Int) - ((cap:Int) - (len:Int)):=by omega
 go_enter Tryz.func261,Tryz.ntmps261
 go_wp2
 all_goals first
  | (go_ret;exact ⟨rfl,rfl⟩)
  | (exfalso;omega)
end Go.Proofs.YtggcagclpkhlhaaGreatDoor
namespace Go.Proofs.YtggcagclpkhlhaaGreatDoor.Pal
open Go Go.Sort
theorem ilt_fDot {a b:Int} (h:ilt a b=false):b≤a:=by simp [ilt] at h;exact h
@[reducible] def gelDot:Ty:=(.pair (.int .i64) (.int .i64))
theorem growDot_ok:CallOK Tryz.prog 261 (growE gelDot):=by
 have eF:∀ args w,(callFunc 261 args).run Tryz.prog w = .ok (.enter 261 args) w:=enters_of Tryz.func261 (by kernel_rfl) rfl
 have val:∀ args objs v os,(growE gelDot).val args objs=some (v,os)→∃ (xs:List gelDot.D) (n:Int),args=[.own gelDot xs,.dat (.int .i64) n]∧objs=[]∧(0≤n∧n≤4294967296)∧xs.length≤4294967296∧v = .own gelDot xs∧os=[]:=by
  intro args objs v os h
  unfold Entry.val growE at h
  simp only at h
  split at h
  ·rename_i e' xs n
   split at h
   ·rename_i he;subst he
    obtain ⟨h1,h⟩:=br_else h
    obtain ⟨h2,h⟩:=br_else h
    obtain ⟨hr,h⟩:=br_then h
    injection h with h;injection h with h3 h4
    exact ⟨xs,n,rfl,rfl,⟨ilt_fDot h1,ilt_fDot h2⟩,by have:=hr;simp only [room,List.length_nil,Nat.zero_add,decide_eq_true_eq] at this;exact this,h3.symm,h4.symm⟩
   ·cases h
  ·cases h
 refine ⟨fun α args objs K=>?_,fun args objs vr os hval X G w argv tA tM hW hTab hX hA hM hcnt htok=>?_⟩
 ·unfold Entry.val growE
  simp only
  split
  ·split
   ·rw [br_bind,br_bind,br_bind];rfl
   ·rfl
  ·rfl
 ·obtain ⟨xs,nn,rfl,rfl,⟨hn0,hn1⟩,hlen,rfl,rfl⟩:=val _ _ _ _ hval
  obtain ⟨n,rfl⟩:∃ n:Nat,nn=(n:Int):=⟨nn.toNat,by omega⟩
  obtain ⟨x0,r0,t1,t2,rfl,rfl,hx0,x1,r1,t3,t4,rfl,rfl,⟨cs1,⟨f1,f2⟩,hx1⟩,rfl,rfl⟩:=hA
  have hx0':=hx0
  obtain ⟨cs0,⟨ad,len,cap,e1,e2,e3,e4⟩,hx⟩:=hx0
  simp only [V.agg,Bool.false_eq_true,if_false] at hx hx1
  rw [e1] at hx
  have f1:cs1=[.int .i64 n]:=f1
  rw [f1] at hx1
  simp only [Ty.agg,Bool.false_eq_true,if_false,List.cons.injEq,and_true] at hx hx1
  subst hx;subst hx1;subst f2
  obtain ⟨hM1,hM2⟩:tM=[]∧True:=⟨hM,trivial⟩
  refine .inl ⟨eF _ _,?_⟩
  by_cases hstay:len+n≤cap
  ·refine Calls.mono (growDot_stay ad len cap n w e3.1 e3.2 hstay) fun e' w' hh=>?_
   obtain ⟨rfl,rfl⟩:=hh
   exact ⟨G,Ev.refl _ _ _,hW,fun _ _=>rfl,t1,[],[],hx0',rfl,rfl,fun q=>by have:=hcnt q;simp at this ⊢;omega,fun q hq=>.inr (htok q (by simp at hq ⊢;omega))⟩
  ·have hbig:len+n≤8589934592:=by omega
   obtain ⟨olds,hol,hnil,hcs,vs,hvA,hpre⟩:∃ olds:List Value,olds.length=cap * 2∧(ad=none→cap=0)∧(∀ a,ad=some a→∀ (j:Nat) (v:Value),olds[j]? = some v→w.cell? (a.add j)=some v)∧∃ vs,All2 (DRep G.I gelDot) xs vs∧∀ (j:Nat) (v:Value),vs[j]? = some v→olds[j]? = some v:=by
    rcases e4 with ⟨hc0,_⟩ | ⟨gb,rfl,_,hel,⟨cells,ty,hgc,hs⟩,_,_⟩
    ·have:xs=[]:=List.eq_nil_of_length_eq_zero (by omega)
     subst this
     exact ⟨[],by rw [hc0];rfl,fun _=>hc0,fun a _ j v hj=>(by simp at hj),[],rfl,fun j v hj=>(by simp at hj)⟩
    ·obtain ⟨vs,hvA,hvat⟩:=Elems.all2 (fun x c=>DRep.length gelDot x c) xs gb 0 hel
     refine ⟨cells.toList,by simp [hs];rfl,fun h=>(by cases h),fun a ha j v hj=>?_,vs,hvA,fun j v hj=>?_⟩
     ·injection ha with ha;subst ha
      rw [Addr.add_lit,cell_of hgc,Nat.zero_add];simpa using hj
     ·have:=hW.holds gb _ v (hvat j v hj)
      rw [Nat.zero_add,cell_of hgc] at this
      simpa using this
   refine Calls.mono (growDot_walk ad len cap n olds w e3.1 e3.2 (by omega) hbig hol hnil hcs) fun e' w' hh=>?_
   obtain ⟨rfl,ROW,hRs,hRp,rfl⟩:=hh
   have hge:=grownCap_ge w (len+n) cap 33
   have hle:=grownCap_le_maxLen w (len+n) cap 33 (by unfold maxLen;omega)
   unfold maxLen at hle
   obtain ⟨G2,hG2⟩:∃ G2,G2=grownCap w (len+n) cap 33:=⟨_,rfl⟩
   rw [← hG2] at hge hle hRs ⊢
   have hnew:(w.drew.alloc (.cells ROW 33)).heap[w.heap.size]? = some (.cells ROW 33 (0,0)):=by show (w.heap.push _)[w.heap.size]? = _;simp
   have hk1:∀ b,b<w.heap.size→(w.drew.alloc (.cells ROW 33)).heap[b]? = w.heap[b]?:=fun b hb=>by
    show (w.heap.push _)[b]? = _
    rw [Array.getElem?_push_lt hb,Array.getElem?_eq_getElem hb]
   have:=own_post (e:=gelDot) (zs:=xs) (X:=X) (ax:=some (.slice ad len cap)) (cap:=G2) (w':=w.drew.alloc (.cells ROW 33)) hW ⟨rfl,rfl,rfl,by show _≤(w.heap.push _).size;simp,fun b hb=>.inl (hk1 b hb),fun _=>by show w.drawn≤w.drawn+1;omega⟩ (fun b hb _=>hk1 b hb) hnew hRs ⟨by omega,hle⟩ hvA (fun j v hj=>by
    rw [cell_of hnew];exact hRp j v (hpre j v hj)) (fun o=>(hW.none_new o).1) (fun o=>(hW.none_new o).2) (.inl (Nat.le_refl _))
   rw [e2] at this
   exact this
end Go.Proofs.YtggcagclpkhlhaaGreatDoor.Pal
end
noncomputable section
/- slices.Insert at Dot: the walk, and its contract. -/
namespace Go.Proofs.YtggcagclpkhlhaaGreatDoor
open Go.Shelf Go.RowKit Go.Lib
theorem iDot:∃ i z,Tryz.prog.info? 33=some i∧i.zero=some z∧i.size=2∧i.bytes≤16384∧z.cells.size=2:=okInfoK_spec (by kernel_rfl)
theorem uDot:Tryz.prog.underlying 26=some (.slice 33):=by kernel_rfl
theorem u3Dot:Tryz.prog.underlying 3=some (.int .i64):=by kernel_rfl
theorem zDot:∀ w,(Go.sizeOf 33).run Tryz.prog w = .ok 2 w:=fun w=>by
 obtain ⟨i,z,h1,h2,h3,h4⟩:=iDot
 simp [Go.sizeOf,typeInfo,h1,h3]
theorem sDot:(Tryz.prog.info? 33).map (·.size)=some 2:=by
 obtain ⟨i,z,h1,h2,h3,h4⟩:=iDot
 rw [h1];simp [h3]
set_option maxHeartbeats 4000000 in
set_option maxRecDepth 100000 in
theorem insDot_shift (b off n c i vb voff m vc:Nat) (cs vs:List Value) (w:World) (hi:i<n) (hm:0<m) (hroom:n+m≤c) (hc63:c≤9223372036854775807) (hvb:vb ≠ b)
  (hcl:cs.length=n * 2) (hvl:vs.length=m * 2)
  (hcs:∀ j v,cs[j]? = some v→w.cell? ⟨b,off+j,none⟩=some v) (hsp:∀ j,j<(n+m) * 2→(w.cell? ⟨b,off+j,none⟩).isSome=true) (hfz:∀ j,j<(n+m) * 2→w.frozen? ⟨b,off+j,none⟩=false)
  (hvs:∀ j v,vs[j]? = some v→w.cell? ⟨vb,voff+j,none⟩=some v) (h1c:∀ v ∈ cs,v.oneCell'=true) (h1v:∀ v ∈ vs,v.oneCell'=true)
  (tA tB:TypeId) (kA kB:Nat) (hsa:w.shape? vb=some (tA,kA)) (hsb:w.shape? b=some (tB,kB)) (hkA:kA ≠ 0) (hfa:∀ o,w.frozen? ⟨b,o,none⟩=false) :
  Calls Tryz.prog 191 #[.slice (some ⟨b,off,none⟩) n c,.int .i64 i,.slice (some ⟨vb,voff,none⟩) m vc] w fun e w' =>
   e = .returned (.slice (some ⟨b,off,none⟩) (n+m) c)∧w'=(w.drew.setCells b (off+(i+m) * 2) (cs.drop (i * 2))).setCells b (off+i * 2) vs:=by
 have hz1:¬ ((m:Int)=0):=by omega
 have hz2:¬ ((i:Int)=(n:Int)):=by omega
 have hsz:(Tryz.prog.info? 33).map (·.size)=some 2:=sDot
 have hov:∀ lb cb,(callFunc 233 #[.slice (some ⟨vb,voff,none⟩) m vc,.slice (some ⟨b,off+(i+m) * 2,none⟩) lb cb]).run Tryz.prog w = .ok (.value (.bool false)) w:=fun lb cb=>by
  rw [run_callFunc_extern Tryz.func233 (by kernel_rfl) (by kernel_rfl) (by kernel_rfl) (e:=Extern.SlicesOverlaps.overlaps #[26,26] #[4]) (by kernel_rfl),
   overlaps_apart w 26 4 33 uDot 2 zDot ⟨vb,voff,none⟩ ⟨b,off+(i+m) * 2,none⟩ m vc lb cb hvb tA tB kA kB hsa hsb hkA (hfa _) (hfa _)]
  rfl
 have hdl:(cs.drop (i * 2)).length=(n - i) * 2:=by rw [List.length_drop,hcl];omega
 have hw1:IntKind.i64.wrap ((i:Int)+(m:Int))=(i:Int)+(m:Int):=by rw [IntKind.wrap_i64];omega
 have hb1:(0:Int)≤(i:Int)+(m:Int):=by omega
 have hin:i≤n:=by omega
 have htn:((i:Int)+(m:Int)).toNat=i+m:=by omega
 have hb2:¬ (c=i+m):=by omega
 have hb3:(i:Int)≤(n:Int)+(m:Int):=by omega
 have hb4:¬ (c=i):=by omega
 have hcp1:∀ ty dc sc,(Builtin.copy_ #[26,26] ty #[.slice (some ⟨b,off+(i+m) * 2,none⟩) (n+m - (i+m)) dc,.slice (some ⟨b,off+i * 2,none⟩) (n+m - i) sc]).run Tryz.prog w.drew = .ok (goInt (n - i:Nat)) (w.drew.setCells b (off+(i+m) * 2) (cs.drop (i * 2))):=fun ty dc sc =>
  run_copy_k 2 w.drew _ _ ty 33 b (off+(i+m) * 2) (n+m - (i+m)) dc ⟨b,off+i * 2,none⟩ (n+m - i) sc (cs.drop (i * 2)) uDot hsz (n - i) (by simp only [Nat.min_def];split <;> omega) hdl
   (fun j v hj=>by rw [Addr.add_lit,Nat.add_assoc];exact hcs (i * 2+j) v (by rwa [List.getElem?_drop] at hj))
   (fun j hj=>by rw [Nat.add_assoc];exact hsp _ (by omega)) (fun j hj=>by rw [Nat.add_assoc];exact hfz _ (by omega)) (fun v hv=>h1c v (List.mem_of_mem_drop hv))
 obtain ⟨W1,hW1⟩:∃ W1,W1=w.drew.setCells b (off+(i+m) * 2) (cs.drop (i * 2)):=⟨_,rfl⟩
 have hsp1:∀ k,k<(n+m) * 2→(W1.cell? ⟨b,off+k,none⟩).isSome=true:=fun k hk=>by
  rw [hW1]
  exact isSome_setCells b _ _ _ (fun j hj=>by rw [Nat.add_assoc];exact hsp _ (by omega)) _ (hsp k hk)
 have hcp2:∀ (W:World),(∀ x,W.cell? x=W1.cell? x)→(∀ x,W.frozen? x=W1.frozen? x)→∀ ty dc,(Builtin.copy_ #[26,26] ty #[.slice (some ⟨b,off+i * 2,none⟩) (n+m - i) dc,.slice (some ⟨vb,voff,none⟩) m vc]).run Tryz.prog W = .ok (goInt (m:Nat)) (W.setCells b (off+i * 2) vs):=fun W hWc hWf ty dc =>
  run_copy_k 2 W _ _ ty 33 b (off+i * 2) (n+m - i) dc ⟨vb,voff,none⟩ m vc vs uDot hsz m (by simp only [Nat.min_def];split <;> omega) hvl
   (fun j v hj=>by
    rw [Addr.add_lit,hWc,hW1,World.cell?_setCells_out b _ _ _ _ (fun h _=>absurd h hvb)]
    exact hvs j v hj)
   (fun j hj=>by rw [hWc,Nat.add_assoc];exact hsp1 _ (by omega)) (fun j hj=>by rw [hWf,hW1,World.frozen?_setCells,Nat.add_assoc];exact hfz _ (by omega)) h1v
 rw [← hW1] at hcp1
 have mixed:Tryz.prog.follows .mixedOrders=true:=by kernel_rfl
 go_enter Tryz.func191,Tryz.ntmps191
 go_wp2_with (simp only [hov])
 go_region_law_o (refine step_copy_runI rfl _ _ 26 26 rfl _ _ (by simp [Act.eval,Act.put]) (by simp [Act.eval,Act.put]) (hcp1 _ _ _) ?_)
 go_wp2_with (at_builtin;refine wpList_copy_runI _ rfl _ _ 26 26 rfl _ _ rfl rfl (hcp2 _ (fun _=>rfl) (fun _=>rfl) _ _) ?_)
 go_ret
 first | exact ⟨rfl,rfl⟩ | exact ⟨rfl,by rw [hW1]⟩

set_option maxHeartbeats 4000000 in
set_option maxRecDepth 100000 in
theorem insDot_end_room (b off n c vb voff m vc : Nat) (vs : List Value) (w : World) (hm : 0 < m) (hroom : n + m ≤ c) (hc63 : c ≤ 9223372036854775807)
    (hvl : vs.length = m * 2) (hsp : ∀ j, j < m * 2 → (w.cell? ⟨b, off + n * 2 + j, none⟩).isSome = true) (hfz : ∀ j, j < m * 2 → w.frozen? ⟨b, off + n * 2 + j, none⟩ = false)
    (hvs : ∀ j v, vs[j]? = some v → w.cell? ⟨vb, voff + j, none⟩ = some v) (h1v : ∀ v ∈ vs, v.oneCell' = true) :
    Calls Tryz.prog 191 #[.slice (some ⟨b, off, none⟩) n c, .int .i64 n, .slice (some ⟨vb, voff, none⟩) m vc] w fun e w' =>
      e = .returned (.slice (some ⟨b, off, none⟩) (n + m) c) ∧ w' = w.setCells b (off + n * 2) vs := by
  have hz1 : ¬ ((m : Int) = 0) := by omega
  obtain ⟨i0, z0, hi0, hz0, hzs, hzb, hzc⟩ := iDot
  have hsrc : Src Tryz.prog i0.size 26 (.slice (some ⟨vb, voff, none⟩) m vc) m vs w := by
   rw [hzs]
   exact Src.ofSlice w uDot ⟨vb, voff, none⟩ m vc vs (by omega) (fun j u hj => by rw [Addr.add_lit]; exact hvs j u hj) h1v
  go_enter Tryz.func191, Tryz.ntmps191
  go_wp2_with (at_builtin; refine wpList_append_room_src _ rfl _ _ 26 26 rfl 33 i0 uDot hi0 b off n c rfl _ rfl m vs hsrc hroom (by rw [hvl, hzs]; exact hsp) (by rw [hvl, hzs]; exact hfz) ?_)
  go_ret
  exact ⟨rfl, rfl⟩

set_option maxHeartbeats 4000000 in
set_option maxRecDepth 100000 in
theorem insDot_end_grow (base:Option Addr) (n c vb voff m vc:Nat) (cs vs:List Value) (w:World) (hm:0<m) (hnc:n≤c) (hroom:c<n+m) (hbig:n+m≤4294967296)
  (hcl:cs.length=n * 2) (hvl:vs.length=m * 2) (hnil:base=none→n=0)
  (hcs:∀ a,base=some a→∀ (j:Nat) (v:Value),cs[j]? = some v→w.cell? (a.add j)=some v)
  (hvs:∀ j v,vs[j]? = some v→w.cell? ⟨vb,voff+j,none⟩=some v) (h1v:∀ v ∈ vs,v.oneCell'=true) :
  Calls Tryz.prog 191 #[.slice base n c,.int .i64 n,.slice (some ⟨vb,voff,none⟩) m vc] w fun e w' =>
   e = .returned (.slice (some ⟨w.heap.size,0,none⟩) (n+m) (grownCap w (n+m) c 33)) ∧
   ∃ ROW:Array Value,ROW.size=grownCap w (n+m) c 33 * 2∧(∀ (j:Nat) (v:Value),(cs++vs)[j]? = some v→ROW[j]? = some v)∧w'=w.drew.alloc (.cells ROW 33):=by
 obtain ⟨i0,z0,hi0,hz0,hzs,hzb,hzc⟩:=iDot
 have hz1:¬ ((m:Int)=0):=by omega
 have hsrc:Src Tryz.prog i0.size 26 (.slice (some ⟨vb,voff,none⟩) m vc) m vs w:=by
  rw [hzs]
  exact Src.ofSlice w uDot ⟨vb,voff,none⟩ m vc vs (by omega) (fun j u hj=>by rw [Addr.add_lit];exact hvs j u hj) h1v
 have hold:(Builtin.firstCells i0.size n (.slice base n c)).run Tryz.prog w.drew =   .ok cs.toArray w.drew:=by
  rw [hzs]
  cases base with
  | none =>
   have h0:=hnil rfl
   subst h0
   rw [List.length_eq_zero_iff.1 hcl]
   exact run_firstCells_none w.drew 2 0 0 c
  | some a=>exact run_firstCells_some w.drew 2 n a n c cs (by omega) (fun j v hj=>hcs a rfl j v hj)
 have hge:=grownCap_ge w (n+m) c 33
 obtain ⟨ROW,hROW⟩:∃ ROW:Array Value,ROW=(cs++vs).toArray++Builtin.zeroCells z0.cells (grownCap w (n+m) c 33 - (n+m)):=⟨_,rfl⟩
 have hRs:ROW.size=grownCap w (n+m) c 33 * 2:=by rw [hROW];simp [Builtin.zeroCells,hzc,hcl,hvl];omega
 have hRp:∀ (j:Nat) (v:Value),(cs++vs)[j]? = some v→ROW[j]? = some v:=fun j v hj=>by
  have:=(List.getElem?_eq_some_iff.1 hj).1
  rw [hROW,Array.getElem?_append_left (by simpa using this)]
  simpa using hj
 have hrun:∀ ty,(Builtin.append_ #[26,26] ty #[.slice base n c,.slice (some ⟨vb,voff,none⟩) m vc]).run Tryz.prog w = .ok (.slice (some ⟨w.heap.size,0,none⟩) (n+m) (grownCap w (n+m) c 33)) (w.drew.alloc (.cells ROW 33)):=fun ty=>by
  rw [hROW]
  exact run_append_grow_src w 26 26 ty 33 i0 z0 uDot hi0 hz0 base n c cs hold _ m vs hsrc hroom (by omega) (by have:=Nat.mul_le_mul hbig hzb;exact growslice_fits hroom (by omega))
 clear hROW
 obtain ⟨G,hG⟩:∃ G,G=grownCap w (n+m) c 33:=⟨_,rfl⟩
 rw [← hG] at hrun hRs ⊢
 clear hG hge
 go_enter Tryz.func191,Tryz.ntmps191
 cases base with
 | none =>
  have h0:=hnil rfl
  subst h0
  go_wp2_with (at_builtin;refine Lib.wpList_append_run _ rfl _ _ _ _ rfl _ _ rfl rfl _ _ (hrun _) ?_)
  go_ret
  exact ⟨rfl,ROW,hRs,hRp,rfl⟩
 | some a =>
  obtain ⟨ab,ao,asp⟩:=a
  go_wp2_with (at_builtin;refine Lib.wpList_append_run _ rfl _ _ _ _ rfl _ _ rfl rfl _ _ (hrun _) ?_)
  all_goals (go_ret;exact ⟨rfl,ROW,hRs,hRp,rfl⟩)

set_option maxHeartbeats 4000000 in
set_option maxRecDepth 100000 in
theorem insDot_grow (b off n c i vb voff m vc : Nat) (cs vs : List Value) (w : World) (hi : i < n) (hm : 0 < m) (hnc : n ≤ c) (hroom : c < n + m) (hbig : n + m ≤ 4294967296)
    (hcl : cs.length = n * 2) (hvl : vs.length = m * 2)
    (hcs : ∀ j v, cs[j]? = some v → w.cell? ⟨b, off + j, none⟩ = some v)
    (hvs : ∀ j v, vs[j]? = some v → w.cell? ⟨vb, voff + j, none⟩ = some v) (h1c : ∀ v ∈ cs, v.oneCell' = true) (h1v : ∀ v ∈ vs, v.oneCell' = true) :
    Calls Tryz.prog 191 #[.slice (some ⟨b, off, none⟩) n c, .int .i64 i, .slice (some ⟨vb, voff, none⟩) m vc] w fun e w' =>
      e = .returned (.slice (some ⟨w.heap.size, 0, none⟩) (n + m) (grownCap w (n + m) c 33)) ∧
      ∃ ROW : Array Value, ROW.size = grownCap w (n + m) c 33 * 2 ∧ (∀ (j : Nat) (v : Value), (cs.take (i * 2))[j]? = some v → ROW[j]? = some v) ∧
        w' = (((w.alloc (.cells ROW 33)).drew.setCells w.heap.size (i * 2) vs).drew).setCells w.heap.size ((i + m) * 2) (cs.drop (i * 2)) := by
  obtain ⟨i0, z0, hi0, hz0, hzs, hzb, hzc⟩ := iDot
  have hz1 : ¬ ((m : Int) = 0) := by omega
  have hz2 : ¬ ((i : Int) = (n : Int)) := by omega
  have hz3 : (c : Int) < (n : Int) + (m : Int) := by omega
  have hsz : (Tryz.prog.info? 33).map (·.size) = some 2 := sDot
  have hbw : b < w.heap.size := block_lt_of_cell (hcs 0 _ (List.getElem?_eq_getElem (by omega)))
  have hvw : vb < w.heap.size := block_lt_of_cell (hvs 0 _ (List.getElem?_eq_getElem (by omega)))
  have hkk : (n : Int) + (m : Int) - (i : Int) = ((n + m - i : Nat) : Int) := by omega
  have hik : i + (n + m - i) = n + m := by omega
  have hold : (Builtin.firstCells i0.size i (.slice (some ⟨b, off, none⟩) i c)).run Tryz.prog w.drew = .ok (cs.take (i * 2)).toArray w.drew := by
    rw [hzs]
    exact run_firstCells_some w.drew 2 i ⟨b, off, none⟩ i c (cs.take (i * 2)) (by rw [List.length_take]; omega) (fun j v hj => by
      rw [Addr.add_lit]
      rw [List.getElem?_take] at hj
      split at hj
      · exact hcs j v hj
      · cases hj)
  have hrz : ∀ ty, (Builtin.append_ #[26, 3] ty #[.slice (some ⟨b, off, none⟩) i c, .int .i64 ((n : Int) + (m : Int) - (i : Int))]).run Tryz.prog w =
      .ok (.slice (some ⟨w.heap.size, 0, none⟩) (n + m) (grownCap w (n + m) c 33)) (w.drew.alloc (.cells ((cs.take (i * 2)).toArray ++ Builtin.zeroCells z0.cells (n + m - i) ++ Builtin.zeroCells z0.cells (grownCap w (n + m) c 33 - (n + m))) 33)) := fun ty => by
    have h := Lib.run_append_grow_zeros w 26 3 ty 33 i0 z0 .i64 .i64 uDot u3Dot hi0 hz0 (some ⟨b, off, none⟩) i c (cs.take (i * 2)) hold (n + m - i) (by omega) (by omega) (by omega) (by omega) (by have := Nat.mul_le_mul (show n + m - i ≤ 4294967296 by omega) hzb; omega) (by rw [hik]; have := Nat.mul_le_mul hbig hzb; exact growslice_fits hroom (by omega))
    rw [hik] at h
    rw [hkk]
    exact h
  obtain ⟨G, hG⟩ : ∃ G, G = grownCap w (n + m) c 33 := ⟨_, rfl⟩
  obtain ⟨ROW, hROW⟩ : ∃ ROW : Array Value, ROW = (cs.take (i * 2)).toArray ++ Builtin.zeroCells z0.cells (n + m - i) ++ Builtin.zeroCells z0.cells (G - (n + m)) := ⟨_, rfl⟩
  rw [← hG] at hrz ⊢
  rw [← hROW] at hrz
  have hRl : (n + m) * 2 ≤ ROW.size := by
    rw [hROW]
    simp [Builtin.zeroCells, hzc, hcl]
    omega
  obtain ⟨W1, hW1⟩ : ∃ W1, W1 = w.drew.alloc (.cells ROW 33) := ⟨_, rfl⟩
  rw [← hW1] at hrz
  have hN : ∀ j, j < (n + m) * 2 → (W1.cell? ⟨w.heap.size, j, none⟩).isSome = true := fun j hj => by
    rw [hW1, World.cell?_alloc_at (w := w.drew) ROW _ w.heap.size j rfl, Array.getElem?_eq_getElem (by omega)]; rfl
  have hNf : ∀ j, W1.frozen? ⟨w.heap.size, j, none⟩ = false := fun j => by rw [hW1]; exact World.frozen?_alloc_at (w := w.drew) ROW _ w.heap.size j rfl
  have hOb : ∀ j v, w.cell? ⟨b, j, none⟩ = some v → W1.cell? ⟨b, j, none⟩ = some v := fun j v h => by rw [hW1, World.cell?_alloc_past (w := w.drew) _ b j hbw]; exact h
  have hOv : ∀ j v, w.cell? ⟨vb, j, none⟩ = some v → W1.cell? ⟨vb, j, none⟩ = some v := fun j v h => by rw [hW1, World.cell?_alloc_past (w := w.drew) _ vb j hvw]; exact h
  have hcpA : ∀ (W : World), (∀ x, W.cell? x = W1.cell? x) → (∀ x, W.frozen? x = W1.frozen? x) → ∀ ty dc, (Builtin.copy_ #[26, 26] ty #[.slice (some ⟨w.heap.size, i * 2, none⟩) (n + m - i) dc, .slice (some ⟨vb, voff, none⟩) m vc]).run Tryz.prog W = .ok (goInt (m : Nat)) (W.setCells w.heap.size (i * 2) vs) := fun W hWc hWf ty dc =>
    run_copy_k 2 W _ _ ty 33 w.heap.size (i * 2) (n + m - i) dc ⟨vb, voff, none⟩ m vc vs uDot hsz m (by simp only [Nat.min_def]; split <;> omega) hvl
      (fun j v hj => by rw [Addr.add_lit, hWc]; exact hOv _ v (hvs j v hj))
      (fun j hj => by rw [hWc]; exact hN _ (by omega)) (fun j hj => by rw [hWf]; exact hNf _) h1v
  have hRp : ∀ (j : Nat) (v : Value), (cs.take (i * 2))[j]? = some v → ROW[j]? = some v := fun j v hj => by
    have := (List.getElem?_eq_some_iff.1 hj).1
    rw [hROW, Array.getElem?_append_left (by simp at this ⊢; omega), Array.getElem?_append_left (by simpa using this)]
    simpa using hj
  have hGn : n + m ≤ G := by rw [hG]; exact grownCap_ge w _ _ _
  have hG63 : G ≤ 9223372036854775807 := by
    have := grownCap_le_maxLen w (n + m) c 33 (by unfold maxLen; omega)
    rw [← hG] at this
    unfold maxLen at this
    omega
  have hGi : ¬ (G = i) := by omega
  have hGim : ¬ (G = i + m) := by omega
  have hci : ¬ (c = i) := by omega
  have hbN : b ≠ w.heap.size := by omega
  have hdl : (cs.drop (i * 2)).length = (n - i) * 2 := by rw [List.length_drop, hcl]; omega
  have hcpB : ∀ (W : World), (∀ x, W.cell? x = (W1.setCells w.heap.size (i * 2) vs).cell? x) → (∀ x, W.frozen? x = (W1.setCells w.heap.size (i * 2) vs).frozen? x) → ∀ ty dc sc, (Builtin.copy_ #[26, 26] ty #[.slice (some ⟨w.heap.size, (i + m) * 2, none⟩) (n + m - (i + m)) dc, .slice (some ⟨b, off + i * 2, none⟩) (n - i) sc]).run Tryz.prog W = .ok (goInt (n - i : Nat)) (W.setCells w.heap.size ((i + m) * 2) (cs.drop (i * 2))) := fun W hWc hWf ty dc sc =>
    run_copy_k 2 W _ _ ty 33 w.heap.size ((i + m) * 2) (n + m - (i + m)) dc ⟨b, off + i * 2, none⟩ (n - i) sc (cs.drop (i * 2)) uDot hsz (n - i) (by simp only [Nat.min_def]; split <;> omega) hdl
      (fun j v hj => by
        rw [Addr.add_lit, hWc, World.cell?_setCells_out _ _ _ _ _ (fun h _ => absurd h hbN), Nat.add_assoc]
        exact hOb _ v (hcs (i * 2 + j) v (by rwa [List.getElem?_drop] at hj)))
      (fun j hj => by rw [hWc]; exact isSome_setCells _ _ _ _ (fun t ht => hN _ (by omega)) _ (hN _ (by omega)))
      (fun j hj => by rw [hWf, World.frozen?_setCells]; exact hNf _) (fun v hv => h1c v (List.mem_of_mem_drop hv))
  subst hW1
  have hE1 : ∀ x, ((w.alloc (.cells ROW 33)).drew).cell? x = (w.drew.alloc (.cells ROW 33)).cell? x := fun x => rfl
  have hE2 : ∀ x, ((w.alloc (.cells ROW 33)).drew).frozen? x = (w.drew.alloc (.cells ROW 33)).frozen? x := fun x => rfl
  have hF1 : ∀ x, (((w.alloc (.cells ROW 33)).drew.setCells w.heap.size (i * 2) vs).drew).cell? x = ((w.drew.alloc (.cells ROW 33)).setCells w.heap.size (i * 2) vs).cell? x := fun x => rfl
  have hF2 : ∀ x, (((w.alloc (.cells ROW 33)).drew.setCells w.heap.size (i * 2) vs).drew).frozen? x = ((w.drew.alloc (.cells ROW 33)).setCells w.heap.size (i * 2) vs).frozen? x := fun x => rfl
  have hw1 : IntKind.i64.wrap ((i : Int) + (m : Int)) = (i : Int) + (m : Int) := by rw [IntKind.wrap_i64]; omega
  have hb1 : (0 : Int) ≤ (i : Int) + (m : Int) := by omega
  have hin : i ≤ n := by omega
  have htn : ((i : Int) + (m : Int)).toNat = i + m := by omega
  have hb3 : (i : Int) ≤ (n : Int) := by omega
  have hRs : ROW.size = G * 2 := by rw [hROW]; simp [Builtin.zeroCells, hzc, hcl]; omega
  clear hkk hik hold hROW hG hRl
  have mixed : Tryz.prog.follows .mixedOrders = true := by kernel_rfl
  go_enter Tryz.func191, Tryz.ntmps191
  go_wp2_with (first
    | (at_builtin; refine Lib.wpList_append_run _ rfl _ _ _ _ rfl _ _ rfl rfl _ _ (hrz _) ?_)
    | (at_builtin; refine wpList_copy_runI _ rfl _ _ 26 26 rfl _ _ rfl rfl (hcpA _ hE1 hE2 _ _) ?_)
    | (at_builtin; refine wpList_copy_runI _ rfl _ _ 26 26 rfl _ _ rfl rfl (hcpB _ (fun _ => rfl) (fun _ => rfl) _ _ _) ?_))
  go_region_law_o (refine step_copy_runI rfl _ _ 26 26 rfl (.slice (some ⟨w.heap.size, (i + m) * 2, none⟩) (n + m - (i + m)) (G - (i + m))) (.slice (some ⟨b, off + i * 2, none⟩) (n - i) (c - i)) (by simp [Act.eval, Act.put]) (by simp [Act.eval, Act.put]) (hcpB _ hF1 hF2 3 (G - (i + m)) (c - i)) ?_)
  go_wp2
  go_ret
  exact ⟨rfl, ROW, hRs, hRp, rfl⟩


set_option maxHeartbeats 4000000 in
set_option maxRecDepth 100000 in
theorem insDot_none (a:Option Addr) (n c i:Nat) (y:Option Addr) (vc:Nat) (w:World) (hi:i≤n) (hn:n≤c) (hc:c≤9223372036854775807) :
  Calls Tryz.prog 191 #[.slice a n c,.int .i64 i,.slice y 0 vc] w fun e w'=>e = .returned (.slice a n c)∧w'=w:=by
 have h1:(i:Int)≤(n:Int):=by omega
 go_enter Tryz.func191,Tryz.ntmps191
 cases a with
 | none =>
  go_wp2
  all_goals (go_ret;exact ⟨rfl,rfl⟩)
 | some a =>
  obtain ⟨ab,ao,asp⟩:=a
  go_wp2
  all_goals (go_ret;exact ⟨rfl,rfl⟩)
end Go.Proofs.YtggcagclpkhlhaaGreatDoor
namespace Go.Proofs.YtggcagclpkhlhaaGreatDoor.Pal
open Go Go.Sort
@[reducible] def elDot:Ty:=(.pair (.int .i64) (.int .i64))
theorem insDot_ok : CallOK Tryz.prog 191 (insE elDot) := by
  have eF : ∀ args w, (callFunc 191 args).run Tryz.prog w = .ok (.enter 191 args) w := enters_of Tryz.func191 (by kernel_rfl) rfl
  have val : ∀ args objs v os, (insE elDot).val args objs = some (v, os) → ∃ (xs ys : List elDot.D) (i : Int) (va : V), args = [.raw elDot xs, .dat (.int .i64) i, va] ∧ V.as (.slc elDot) va = some ys ∧ objs = [] ∧ (0 ≤ i ∧ i ≤ xs.length) ∧ xs.length + ys.length ≤ 4294967296 ∧ v = .own elDot (insAt xs i ys) ∧ os = [] := by
    intro args objs v os h
    unfold Entry.val insE at h
    simp only at h
    split at h
    · rename_i e' xs i va
      split at h
      · rename_i he; subst he
        rw [Option.bind_eq_some_iff] at h
        obtain ⟨ys, hys, h⟩ := h
        obtain ⟨hb, h⟩ := br_then h
        obtain ⟨hr, h⟩ := br_then h
        injection h with h; injection h with h1 h2
        obtain ⟨_, i1, i2⟩ := inS_spec hb
        exact ⟨xs, ys, i, va, rfl, hys, rfl, ⟨i1, i2⟩, room_spec hr, h1.symm, h2.symm⟩
      · cases h
    · cases h
  refine ⟨fun α args objs K => ?_, fun args objs vr os hval X G w argv tA tM hW hTab hX hA hM hcnt htok => ?_⟩
  · unfold Entry.val insE
    simp only
    split
    · split
      · rename_i va _
        cases V.as (.slc elDot) va with
        | none => rfl
        | some ys => simp only [Option.bind_some]; rw [br_bind, br_bind]; rfl
      · rfl
    · rfl
  · obtain ⟨xs, ys, ii, va, rfl, hva, rfl, ⟨hi0, hi1⟩, hlen, rfl, rfl⟩ := val _ _ _ _ hval
    obtain ⟨i, rfl⟩ : ∃ i : Nat, ii = (i : Int) := ⟨ii.toNat, by omega⟩
    have hin : i ≤ xs.length := by omega
    obtain ⟨x0, r0, t1, t2, rfl, rfl, ⟨cs0, ⟨ad, n, c, e1, e2, e3, e4⟩, hx⟩, x1, r1, t3, t4, rfl, rfl, ⟨cs1, ⟨f1, f2⟩, hx1⟩, x2, r2, t5, t6, rfl, rfl, hx2, rfl, rfl⟩ := hA
    obtain ⟨ad2, m, vc, rfl, g2, g3, g4⟩ := (TRep.as_ hva hx2).slc
    simp only [V.agg, Bool.false_eq_true, if_false] at hx hx1
    rw [e1] at hx
    have f1 : cs1 = [.int .i64 i] := f1
    rw [f1] at hx1
    simp only [Ty.agg, Bool.false_eq_true, if_false, List.cons.injEq, and_true] at hx hx1
    subst hx; subst hx1; subst f2
    obtain ⟨hM1, hM2⟩ : tM = [] ∧ True := ⟨hM, trivial⟩
    obtain ⟨cs, hAc, e5⟩ : ∃ cs, All2 (DRep G.I elDot) xs cs ∧ ((c = 0 ∧ t1 = []) ∨ ∃ gb, ad = some ⟨gb, 0, none⟩ ∧ t1 = [gb] ∧ (∃ cells ty, w.heap[gb]? = some (.cells cells ty (0, 0)) ∧ cells.size = c * 2 ∧ ∀ (j : Nat) (v : Value), cs[j]? = some v → cells[j]? = some v) ∧ (∀ o, G.I gb o = none) ∧ ∀ o, G.O gb o = none) := by
      rcases e4 with ⟨hc0, ht⟩ | ⟨gb, h1, h2, ⟨cells, ty, cc, hgc, hs, hAc, hcc⟩, hI, hO'⟩
      · have : xs = [] := List.eq_nil_of_length_eq_zero (by omega)
        subst this
        exact ⟨[], rfl, .inl ⟨hc0, ht⟩⟩
      · exact ⟨cc, hAc, .inr ⟨gb, h1, h2, ⟨cells, ty, hgc, hs, hcc⟩, hI, hO'⟩⟩
    have hia : (insAt xs (i : Int) ys) = xs.take i ++ (ys ++ xs.drop i) := rfl
    have hzl : (insAt xs (i : Int) ys).length = n + m := by rw [hia]; simp [← e2, ← g2]; omega
    have hcl : cs.length = n * 2 := by rw [← e2]; exact hAc.len
    obtain ⟨hAt, hAd⟩ := All2.split (sz := 2) (fun x c h => DRep.length elDot x c h) xs cs i hin hAc
    have h1c : ∀ v ∈ cs, v.oneCell' = true := all2_plain xs cs hAc
    refine .inl ⟨eF _ _, ?_⟩
    have hfr : ∀ {b : Nat} {C : Array Value} {T : TypeId} (o : Nat), w.heap[b]? = some (.cells C T (0, 0)) → w.frozen? ⟨b, o, none⟩ = false := fun o h => by simp only [World.frozen?, h]; simp
    rcases Nat.eq_zero_or_pos m with hm0 | hm0
    · have hys : ys = [] := List.eq_nil_of_length_eq_zero (by omega)
      subst hys; subst hm0
      have hxx : insAt xs (i : Int) [] = xs := by rw [hia]; simp
      rw [hxx] at hzl ⊢
      refine Calls.mono (insDot_none ad n c i ad2 vc w (by omega) e3.1 e3.2) fun e' w' hh => ?_
      obtain ⟨rfl, rfl⟩ := hh
      rcases e5 with ⟨hc0, rfl⟩ | ⟨gb, rfl, rfl, ⟨cells, ty, hgc, hs, hcc⟩, hI, hO'⟩
      · exact ⟨G, Ev.refl _ _ _, hW, fun _ _ => rfl, [], [], [], ⟨_, ⟨ad, n, c, rfl, e2, e3, .inl ⟨hc0, rfl⟩⟩, rfl⟩, rfl, rfl, fun q => by simp, fun q hq => by simp at hq⟩
      · have hone : cnt gb [gb] = 1 := by simp [cnt]
        have hX1 : ∀ o, X gb o := htok gb (by simp only [cnt_append]; omega)
        have := own_post (e := elDot) (zs := xs) (ax := some (.slice (some ⟨gb, 0, none⟩) n c)) hW (Evo.refl X w') (fun _ _ _ => rfl) hgc hs (by rw [e2]; exact e3) hAc (fun j v hj => by rw [cell_of hgc]; exact hcc j v hj) hI hO' (.inr hX1)
        rw [e2] at this
        exact this
    · rcases g4 with hy0 | ⟨vb, vo, rfl, hel⟩
      · subst hy0; simp at g2; omega
      obtain ⟨vs, hvA, hvat⟩ := Elems.all2 (fun x c => DRep.length elDot x c) ys vb vo hel
      have hvl : vs.length = m * 2 := by rw [← g2]; exact hvA.len
      have h1v : ∀ v ∈ vs, v.oneCell' = true := all2_plain ys vs hvA
      have hA2 : All2 (DRep G.I elDot) (insAt xs (i : Int) ys) (cs.take (i * 2) ++ (vs ++ cs.drop (i * 2))) := by
        rw [hia]; exact All2.append _ _ _ _ hAt (All2.append _ _ _ _ hvA hAd)
      have hvc : ∀ (j : Nat) (v : Value), vs[j]? = some v → w.cell? ⟨vb, vo + j, none⟩ = some v := fun j v hj => hW.holds vb _ v (hvat j v hj)
      have hvI : ∃ v, G.I vb vo = some v := ⟨_, by have := hvat 0 vs[0] (List.getElem?_eq_getElem (by omega)); simpa using this⟩
      obtain ⟨kA, tA, hkA, hsa⟩ : ∃ kA tA, kA ≠ 0 ∧ w.shape? vb = some (tA, kA) := by
        obtain ⟨v, hv⟩ := hvI
        have h := hW.holds vb vo v hv
        unfold World.cell? at h
        split at h
        · rename_i C T fr hb
          simp only [Option.isSome_none, Bool.false_eq_true, if_false] at h
          exact ⟨C.size, T, by have := (Array.getElem?_eq_some_iff.1 h).1; omega, by have hb' : w.heap[vb]? = some (.cells C T fr) := hb; simp only [World.shape?, hb']⟩
        · cases h
      have hbig : n + m ≤ 4294967296 := by omega
      have fresh : ∀ w' (cap : Nat), (∀ b, b < w.heap.size → w'.heap[b]? = w.heap[b]?) → w'.os = w.os → w'.tape = w.tape → w'.output = w.output → w.drawn ≤ w'.drawn → w.heap.size ≤ w'.heap.size → (∃ C T, w'.heap[w.heap.size]? = some (.cells C T (0, 0)) ∧ C.size = cap * 2) → (n + m ≤ cap ∧ cap ≤ 9223372036854775807) →
          (∀ (j : Nat) (v : Value), (cs.take (i * 2) ++ (vs ++ cs.drop (i * 2)))[j]? = some v → w'.cell? ⟨w.heap.size, j, none⟩ = some v) →
          ∃ G', Post X G w 0 (.own elDot (insAt xs i ys)) [] (.slice (some ⟨w.heap.size, 0, none⟩) (n + m) cap) (some (.slice ad n c)) G' w' := by
        intro w' cap k1 k2 k3 k4 k5 k6 ⟨C, T, k7, k8⟩ k9 k10
        have := own_post (e := elDot) (zs := insAt xs i ys) (X := X) (ax := some (.slice ad n c)) hW ⟨k2, k3, k4, k6, fun b hb => .inl (k1 b hb), fun _ => k5⟩ (fun b hb _ => k1 b hb) k7 k8 (by rw [hzl]; exact k9) hA2 k10 (fun o => (hW.none_new o).1) (fun o => (hW.none_new o).2) (.inl (Nat.le_refl _))
        rw [hzl] at this
        exact this
      rcases Nat.lt_or_ge i n with hlt | hge
      · rcases e5 with ⟨hc0, _⟩ | ⟨gb, rfl, rfl, ⟨cells, ty, hgc, hs, hcc⟩, hI, hO'⟩
        · omega
        have hgv : gb ≠ vb := by
          intro e; subst e
          obtain ⟨v, hv⟩ := hvI
          rw [hI vo] at hv; cases hv
        have hcc' : ∀ (j : Nat) (v : Value), cs[j]? = some v → w.cell? ⟨gb, 0 + j, none⟩ = some v := fun j v hj => by rw [cell_of hgc, Nat.zero_add]; exact hcc j v hj
        by_cases hroom : n + m ≤ c
        · have hsz : (n + m) * 2 ≤ cells.size := by rw [hs]; exact Nat.mul_le_mul_right 2 hroom
          have hshape : ∀ {b : Nat} {C : Array Value} {T : TypeId}, w.heap[b]? = some (.cells C T (0, 0)) → w.shape? b = some (T, C.size) := fun h => by simp only [World.shape?, h]
          refine Calls.mono (insDot_shift gb 0 n c i vb vo m vc cs vs w hlt hm0 hroom e3.2 (Ne.symm hgv) hcl hvl hcc' (fun j hj => by rw [cell_of hgc, Nat.zero_add, Array.getElem?_eq_getElem (by omega)]; rfl) (fun j hj => hfr _ hgc) hvc h1c h1v tA ty kA _ hsa (hshape hgc) hkA (fun o => hfr o hgc)) fun e' w' hh => ?_
          obtain ⟨rfl, rfl⟩ := hh
          obtain ⟨C1, q1, q2⟩ := setCells_block gb (cs.drop (i * 2)) (0 + (i + m) * 2) w.drew cells ty (0, 0) hgc
          obtain ⟨C2, q3, q4⟩ := setCells_block gb vs (0 + i * 2) _ C1 ty (0, 0) q1
          have hone : cnt gb [gb] = 1 := by simp [cnt]
          have hX1 : ∀ o, X gb o := htok gb (by simp only [cnt_append]; omega)
          have hold : ∀ b, b ≠ gb → ((w.drew.setCells gb (0 + (i + m) * 2) (cs.drop (i * 2))).setCells gb (0 + i * 2) vs).heap[b]? = w.heap[b]? := fun b hb => by
            rw [setCells_other gb _ _ _ b hb, setCells_other gb _ _ _ b hb]; rfl
          have hE1 := Evo.setCells (X := X) gb (cs.drop (i * 2)) (0 + (i + m) * 2) w.drew (fun j _ => hX1 _)
          have hE2 := Evo.setCells (X := X) gb vs (0 + i * 2) (w.drew.setCells gb (0 + (i + m) * 2) (cs.drop (i * 2))) (fun j _ => hX1 _)
          have := own_post (e := elDot) (zs := insAt xs i ys) (ax := some (.slice (some ⟨gb, 0, none⟩) n c)) (cap := c) (X := X) hW (w' := (w.drew.setCells gb (0 + (i + m) * 2) (cs.drop (i * 2))).setCells gb (0 + i * 2) vs) (g := gb) ?_ (fun b _ hb => hold b hb) q3 (by rw [q4, q2, hs]; rfl) (by rw [hzl]; exact ⟨hroom, e3.2⟩) hA2 (fun j v hj => ?_) hI hO' (.inr hX1)
          · rw [hzl] at this; exact this
          · exact (Evo.drew X w).trans (hE1.trans hE2 (fun _ _ _ h => h) (fun _ _ _ h => h)) (fun _ _ _ h => h) (fun _ _ _ h => h)
          · have := two_a (W := w.drew) (b := gb) (k := i * 2) (l := m * 2) (cs := cs) (vs := vs) (by omega) hvl (fun j hj => by show (w.cell? ⟨gb, j, none⟩).isSome = true; rw [cell_of hgc, Array.getElem?_eq_getElem (by omega)]; rfl) (fun j v _ hj => by show w.cell? ⟨gb, j, none⟩ = some v; rw [cell_of hgc]; exact hcc j v hj) j v hj
            rw [Nat.zero_add, Nat.zero_add, Nat.add_mul]; exact this
        · refine Calls.mono (insDot_grow gb 0 n c i vb vo m vc cs vs w hlt hm0 e3.1 (by omega) hbig hcl hvl hcc' hvc h1c h1v) fun e' w' hh => ?_
          obtain ⟨rfl, ROW, hRs, hRp, rfl⟩ := hh
          have hge := grownCap_ge w (n + m) c 33
          have hle := grownCap_le_maxLen w (n + m) c 33 (by unfold maxLen; omega)
          unfold maxLen at hle
          obtain ⟨cap, hcap⟩ : ∃ cap, cap = grownCap w (n + m) c 33 := ⟨_, rfl⟩
          rw [← hcap] at hge hle hRs ⊢
          have hnew : ((w.alloc (.cells ROW 33)).drew).heap[w.heap.size]? = some (.cells ROW 33 (0, 0)) := by show (w.heap.push _)[w.heap.size]? = _; simp
          obtain ⟨C1, q1, q2⟩ := setCells_block w.heap.size vs (i * 2) _ ROW 33 (0, 0) hnew
          obtain ⟨C2, q3, q4⟩ := setCells_block w.heap.size (cs.drop (i * 2)) ((i + m) * 2) (((w.alloc (.cells ROW 33)).drew.setCells w.heap.size (i * 2) vs).drew) C1 33 (0, 0) q1
          have hszs : ∀ (vs : List Value) (o : Nat) (W : World), (W.setCells w.heap.size o vs).heap.size = W.heap.size := fun vs o W => World.size_setCells _ vs o W
          refine fresh _ cap (fun b hb => ?_) (by rw [setCells_os]; exact setCells_os _ _ _ _) (by rw [setCells_tape]; exact setCells_tape _ _ _ _) (by rw [setCells_output]; exact setCells_output _ _ _ _) (by rw [setCells_drawn]; show _ ≤ (World.setCells _ _ _ _).drawn + 1; rw [setCells_drawn]; show w.drawn ≤ w.drawn + 1 + 1; omega) (by rw [hszs]; show _ ≤ (World.setCells _ _ _ _).heap.size; rw [hszs]; show _ ≤ (w.heap.push _).size; simp) ⟨C2, 33, q3, by rw [q4, q2, hRs]⟩ ⟨hge, hle⟩ (fun j v hj => ?_)
          · rw [setCells_other _ _ _ _ b (by omega)]
            show (World.setCells _ _ _ _).heap[b]? = _
            rw [setCells_other _ _ _ _ b (by omega)]
            show (w.heap.push _)[b]? = _
            rw [Array.getElem?_push_lt hb, Array.getElem?_eq_getElem hb]
          · have := two_b (W := (w.alloc (.cells ROW 33)).drew) (b := w.heap.size) (k := i * 2) (l := m * 2) (cs := cs) (vs := vs) (by omega) hvl (fun j hj => by
                rw [cell_of hnew, Array.getElem?_eq_getElem (by omega)]; rfl) (fun j v hj1 hj2 => by
                rw [cell_of hnew]; exact hRp j v (by rw [List.getElem?_take, if_pos hj1]; exact hj2)) j v hj
            rw [← drew_setCells, Nat.add_mul]; exact this
      · have hie : i = n := by omega
        subst hie
        by_cases hroom : i + m ≤ c
        · rcases e5 with ⟨hc0, _⟩ | ⟨gb, rfl, rfl, ⟨cells, ty, hgc, hs, hcc⟩, hI, hO'⟩
          · omega
          have hsz : (i + m) * 2 ≤ cells.size := by rw [hs]; exact Nat.mul_le_mul_right 2 hroom
          have hsome : ∀ j, j < (i + m) * 2 → (w.cell? ⟨gb, j, none⟩).isSome = true := fun j hj => by rw [cell_of hgc, Array.getElem?_eq_getElem (by omega)]; rfl
          refine Calls.mono (insDot_end_room gb 0 i c vb vo m vc vs w hm0 hroom e3.2 hvl (fun j hj => hsome _ (by omega)) (fun j hj => hfr _ hgc) hvc h1v) fun e' w' hh => ?_
          obtain ⟨rfl, rfl⟩ := hh
          obtain ⟨C2, q3, q4⟩ := setCells_block gb vs (0 + i * 2) w cells ty (0, 0) hgc
          have hone : cnt gb [gb] = 1 := by simp [cnt]
          have hX1 : ∀ o, X gb o := htok gb (by simp only [cnt_append]; omega)
          have := own_post (e := elDot) (zs := insAt xs i ys) (ax := some (.slice (some ⟨gb, 0, none⟩) i c)) (cap := c) (X := X) hW (w' := w.setCells gb (0 + i * 2) vs) (g := gb) (Evo.setCells (X := X) gb vs (0 + i * 2) w (fun j _ => hX1 _)) (fun b _ hb => setCells_other gb _ _ _ b hb) q3 (by rw [q4, hs]; rfl) (by rw [hzl]; exact ⟨hroom, e3.2⟩) hA2 (fun j v hj => ?_) hI hO' (.inr hX1)
          · rw [hzl] at this; exact this
          · have h0 : cs.drop (i * 2) = [] := List.drop_of_length_le (by omega)
            have := two_a (W := w) (b := gb) (k := i * 2) (l := m * 2) (cs := cs) (vs := vs) (by omega) hvl (fun j hj => hsome _ (by omega)) (fun j v _ hj => by rw [cell_of hgc]; exact hcc j v hj) j v hj
            rw [h0] at this
            rw [Nat.zero_add]; exact this
        · have hnil : ad = none → i = 0 := fun h => by
            rcases e5 with ⟨hc0, _⟩ | ⟨gb, h1, _⟩
            · omega
            · rw [h] at h1; cases h1
          have hold : ∀ a, ad = some a → ∀ (j : Nat) (v : Value), cs[j]? = some v → w.cell? (a.add j) = some v := fun a ha j v hj => by
            rcases e5 with ⟨hc0, _⟩ | ⟨gb, h1, _, ⟨cells, ty, hgc, hs, hcc⟩, hI, hO'⟩
            · have := (List.getElem?_eq_some_iff.1 hj).1; omega
            · rw [h1] at ha; injection ha with ha; subst ha
              rw [Addr.add_lit, cell_of hgc, Nat.zero_add]; exact hcc j v hj
          refine Calls.mono (insDot_end_grow ad i c vb vo m vc cs vs w hm0 e3.1 (by omega) hbig hcl hvl hnil hold hvc h1v) fun e' w' hh => ?_
          obtain ⟨rfl, ROW, hRs, hRp, rfl⟩ := hh
          have hge := grownCap_ge w (i + m) c 33
          have hle := grownCap_le_maxLen w (i + m) c 33 (by unfold maxLen; omega)
          unfold maxLen at hle
          obtain ⟨cap, hcap⟩ : ∃ cap, cap = grownCap w (i + m) c 33 := ⟨_, rfl⟩
          rw [← hcap] at hge hle hRs ⊢
          have hnew : (w.drew.alloc (.cells ROW 33)).heap[w.heap.size]? = some (.cells ROW 33 (0, 0)) := by show (w.heap.push _)[w.heap.size]? = _; simp
          refine fresh _ cap (fun b hb => ?_) rfl rfl rfl (by show w.drawn ≤ w.drawn + 1; omega) (by show _ ≤ (w.heap.push _).size; simp) ⟨ROW, 33, hnew, hRs⟩ ⟨hge, hle⟩ (fun j v hj => ?_)
          · show (w.heap.push _)[b]? = _
            rw [Array.getElem?_push_lt hb, Array.getElem?_eq_getElem hb]
          · have h0 : cs.drop (i * 2) = [] := List.drop_of_length_le (by omega)
            have h1 : cs.take (i * 2) = cs := List.take_of_length_le (by omega)
            rw [h0, h1, List.append_nil] at hj
            rw [cell_of hnew]; exact hRp j v hj
end Go.Proofs.YtggcagclpkhlhaaGreatDoor.Pal
end
noncomputable section
/- slices.Insert at Txn: the walk, and its contract. -/
namespace Go.Proofs.YtggcagclpkhlhaaGreatDoor
open Go.Shelf Go.RowKit Go.Lib
theorem iTxn:∃ i z,Tryz.prog.info? 36=some i∧i.zero=some z∧i.size=6∧i.bytes≤16384∧z.cells.size=6:=okInfoK_spec (by kernel_rfl)
theorem uTxn:Tryz.prog.underlying 22=some (.slice 36):=by kernel_rfl
theorem u3Txn:Tryz.prog.underlying 3=some (.int .i64):=by kernel_rfl
theorem zTxn:∀ w,(Go.sizeOf 36).run Tryz.prog w = .ok 6 w:=fun w=>by
 obtain ⟨i,z,h1,h2,h3,h4⟩:=iTxn
 simp [Go.sizeOf,typeInfo,h1,h3]
theorem sTxn:(Tryz.prog.info? 36).map (·.size)=some 6:=by
 obtain ⟨i,z,h1,h2,h3,h4⟩:=iTxn
 rw [h1];simp [h3]
set_option maxHeartbeats 4000000 in
set_option maxRecDepth 100000 in
theorem insTxn_shift (b off n c i vb voff m vc:Nat) (cs vs:List Value) (w:World) (hi:i<n) (hm:0<m) (hroom:n+m≤c) (hc63:c≤9223372036854775807) (hvb:vb ≠ b)
  (hcl:cs.length=n * 6) (hvl:vs.length=m * 6)
  (hcs:∀ j v,cs[j]? = some v→w.cell? ⟨b,off+j,none⟩=some v) (hsp:∀ j,j<(n+m) * 6→(w.cell? ⟨b,off+j,none⟩).isSome=true) (hfz:∀ j,j<(n+m) * 6→w.frozen? ⟨b,off+j,none⟩=false)
  (hvs:∀ j v,vs[j]? = some v→w.cell? ⟨vb,voff+j,none⟩=some v) (h1c:∀ v ∈ cs,v.oneCell'=true) (h1v:∀ v ∈ vs,v.oneCell'=true)
  (tA tB:TypeId) (kA kB:Nat) (hsa:w.shape? vb=some (tA,kA)) (hsb:w.shape? b=some (tB,kB)) (hkA:kA ≠ 0) (hfa:∀ o,w.frozen? ⟨b,o,none⟩=false) :
  Calls Tryz.prog 188 #[.slice (some ⟨b,off,none⟩) n c,.int .i64 i,.slice (some ⟨vb,voff,none⟩) m vc] w fun e w' =>
   e = .returned (.slice (some ⟨b,off,none⟩) (n+m) c)∧w'=(w.drew.setCells b (off+(i+m) * 6) (cs.drop (i * 6))).setCells b (off+i * 6) vs:=by
 have hz1:¬ ((m:Int)=0):=by omega
 have hz2:¬ ((i:Int)=(n:Int)):=by omega
 have hsz:(Tryz.prog.info? 36).map (·.size)=some 6:=sTxn
 have hov:∀ lb cb,(callFunc 230 #[.slice (some ⟨vb,voff,none⟩) m vc,.slice (some ⟨b,off+(i+m) * 6,none⟩) lb cb]).run Tryz.prog w = .ok (.value (.bool false)) w:=fun lb cb=>by
  rw [run_callFunc_extern Tryz.func230 (by kernel_rfl) (by kernel_rfl) (by kernel_rfl) (e:=Extern.SlicesOverlaps.overlaps #[22,22] #[4]) (by kernel_rfl),
   overlaps_apart w 22 4 36 uTxn 6 zTxn ⟨vb,voff,none⟩ ⟨b,off+(i+m) * 6,none⟩ m vc lb cb hvb tA tB kA kB hsa hsb hkA (hfa _) (hfa _)]
  rfl
 have hdl:(cs.drop (i * 6)).length=(n - i) * 6:=by rw [List.length_drop,hcl];omega
 have hw1:IntKind.i64.wrap ((i:Int)+(m:Int))=(i:Int)+(m:Int):=by rw [IntKind.wrap_i64];omega
 have hb1:(0:Int)≤(i:Int)+(m:Int):=by omega
 have hin:i≤n:=by omega
 have htn:((i:Int)+(m:Int)).toNat=i+m:=by omega
 have hb2:¬ (c=i+m):=by omega
 have hb3:(i:Int)≤(n:Int)+(m:Int):=by omega
 have hb4:¬ (c=i):=by omega
 have hcp1:∀ ty dc sc,(Builtin.copy_ #[22,22] ty #[.slice (some ⟨b,off+(i+m) * 6,none⟩) (n+m - (i+m)) dc,.slice (some ⟨b,off+i * 6,none⟩) (n+m - i) sc]).run Tryz.prog w.drew = .ok (goInt (n - i:Nat)) (w.drew.setCells b (off+(i+m) * 6) (cs.drop (i * 6))):=fun ty dc sc =>
  run_copy_k 6 w.drew _ _ ty 36 b (off+(i+m) * 6) (n+m - (i+m)) dc ⟨b,off+i * 6,none⟩ (n+m - i) sc (cs.drop (i * 6)) uTxn hsz (n - i) (by simp only [Nat.min_def];split <;> omega) hdl
   (fun j v hj=>by rw [Addr.add_lit,Nat.add_assoc];exact hcs (i * 6+j) v (by rwa [List.getElem?_drop] at hj))
   (fun j hj=>by rw [Nat.add_assoc];exact hsp _ (by omega)) (fun j hj=>by rw [Nat.add_assoc];exact hfz _ (by omega)) (fun v hv=>h1c v (List.mem_of_mem_drop hv))
 obtain ⟨W1,hW1⟩:∃ W1,W1=w.drew.setCells b (off+(i+m) * 6) (cs.drop (i * 6)):=⟨_,rfl⟩
 have hsp1:∀ k,k<(n+m) * 6→(W1.cell? ⟨b,off+k,none⟩).isSome=true:=fun k hk=>by
  rw [hW1]
  exact isSome_setCells b _ _ _ (fun j hj=>by rw [Nat.add_assoc];exact hsp _ (by omega)) _ (hsp k hk)
 have hcp2:∀ (W:World),(∀ x,W.cell? x=W1.cell? x)→(∀ x,W.frozen? x=W1.frozen? x)→∀ ty dc,(Builtin.copy_ #[22,22] ty #[.slice (some ⟨b,off+i * 6,none⟩) (n+m - i) dc,.slice (some ⟨vb,voff,none⟩) m vc]).run Tryz.prog W = .ok (goInt (m:Nat)) (W.setCells b (off+i * 6) vs):=fun W hWc hWf ty dc =>
  run_copy_k 6 W _ _ ty 36 b (off+i * 6) (n+m - i) dc ⟨vb,voff,none⟩ m vc vs uTxn hsz m (by simp only [Nat.min_def];split <;> omega) hvl
   (fun j v hj=>by
    rw [Addr.add_lit,hWc,hW1,World.cell?_setCells_out b _ _ _ _ (fun h _=>absurd h hvb)]
    exact hvs j v hj)
   (fun j hj=>by rw [hWc,Nat.add_assoc];exact hsp1 _ (by omega)) (fun j hj=>by rw [hWf,hW1,World.frozen?_setCells,Nat.add_assoc];exact hfz _ (by omega)) h1v
 rw [← hW1] at hcp1
 have mixed:Tryz.prog.follows .mixedOrders=true:=by kernel_rfl
 go_enter Tryz.func188,Tryz.ntmps188
 go_wp2_with (simp only [hov])
 go_region_law_o (refine step_copy_runI rfl _ _ 22 22 rfl _ _ (by simp [Act.eval,Act.put]) (by simp [Act.eval,Act.put]) (hcp1 _ _ _) ?_)
 go_wp2_with (at_builtin;refine wpList_copy_runI _ rfl _ _ 22 22 rfl _ _ rfl rfl (hcp2 _ (fun _=>rfl) (fun _=>rfl) _ _) ?_)
 go_ret
 first | exact ⟨rfl,rfl⟩ | exact ⟨rfl,by rw [hW1]⟩

set_option maxHeartbeats 4000000 in
set_option maxRecDepth 100000 in
theorem insTxn_end_room (b off n c vb voff m vc : Nat) (vs : List Value) (w : World) (hm : 0 < m) (hroom : n + m ≤ c) (hc63 : c ≤ 9223372036854775807)
    (hvl : vs.length = m * 6) (hsp : ∀ j, j < m * 6 → (w.cell? ⟨b, off + n * 6 + j, none⟩).isSome = true) (hfz : ∀ j, j < m * 6 → w.frozen? ⟨b, off + n * 6 + j, none⟩ = false)
    (hvs : ∀ j v, vs[j]? = some v → w.cell? ⟨vb, voff + j, none⟩ = some v) (h1v : ∀ v ∈ vs, v.oneCell' = true) :
    Calls Tryz.prog 188 #[.slice (some ⟨b, off, none⟩) n c, .int .i64 n, .slice (some ⟨vb, voff, none⟩) m vc] w fun e w' =>
      e = .returned (.slice (some ⟨b, off, none⟩) (n + m) c) ∧ w' = w.setCells b (off + n * 6) vs := by
  have hz1 : ¬ ((m : Int) = 0) := by omega
  obtain ⟨i0, z0, hi0, hz0, hzs, hzb, hzc⟩ := iTxn
  have hsrc : Src Tryz.prog i0.size 22 (.slice (some ⟨vb, voff, none⟩) m vc) m vs w := by
   rw [hzs]
   exact Src.ofSlice w uTxn ⟨vb, voff, none⟩ m vc vs (by omega) (fun j u hj => by rw [Addr.add_lit]; exact hvs j u hj) h1v
  go_enter Tryz.func188, Tryz.ntmps188
  go_wp2_with (at_builtin; refine wpList_append_room_src _ rfl _ _ 22 22 rfl 36 i0 uTxn hi0 b off n c rfl _ rfl m vs hsrc hroom (by rw [hvl, hzs]; exact hsp) (by rw [hvl, hzs]; exact hfz) ?_)
  go_ret
  exact ⟨rfl, rfl⟩

set_option maxHeartbeats 4000000 in
set_option maxRecDepth 100000 in
theorem insTxn_end_grow (base:Option Addr) (n c vb voff m vc:Nat) (cs vs:List Value) (w:World) (hm:0<m) (hnc:n≤c) (hroom:c<n+m) (hbig:n+m≤4294967296)
  (hcl:cs.length=n * 6) (hvl:vs.length=m * 6) (hnil:base=none→n=0)
  (hcs:∀ a,base=some a→∀ (j:Nat) (v:Value),cs[j]? = some v→w.cell? (a.add j)=some v)
  (hvs:∀ j v,vs[j]? = some v→w.cell? ⟨vb,voff+j,none⟩=some v) (h1v:∀ v ∈ vs,v.oneCell'=true) :
  Calls Tryz.prog 188 #[.slice base n c,.int .i64 n,.slice (some ⟨vb,voff,none⟩) m vc] w fun e w' =>
   e = .returned (.slice (some ⟨w.heap.size,0,none⟩) (n+m) (grownCap w (n+m) c 36)) ∧
   ∃ ROW:Array Value,ROW.size=grownCap w (n+m) c 36 * 6∧(∀ (j:Nat) (v:Value),(cs++vs)[j]? = some v→ROW[j]? = some v)∧w'=w.drew.alloc (.cells ROW 36):=by
 obtain ⟨i0,z0,hi0,hz0,hzs,hzb,hzc⟩:=iTxn
 have hz1:¬ ((m:Int)=0):=by omega
 have hsrc:Src Tryz.prog i0.size 22 (.slice (some ⟨vb,voff,none⟩) m vc) m vs w:=by
  rw [hzs]
  exact Src.ofSlice w uTxn ⟨vb,voff,none⟩ m vc vs (by omega) (fun j u hj=>by rw [Addr.add_lit];exact hvs j u hj) h1v
 have hold:(Builtin.firstCells i0.size n (.slice base n c)).run Tryz.prog w.drew =   .ok cs.toArray w.drew:=by
  rw [hzs]
  cases base with
  | none =>
   have h0:=hnil rfl
   subst h0
   rw [List.length_eq_zero_iff.1 hcl]
   exact run_firstCells_none w.drew 6 0 0 c
  | some a=>exact run_firstCells_some w.drew 6 n a n c cs (by omega) (fun j v hj=>hcs a rfl j v hj)
 have hge:=grownCap_ge w (n+m) c 36
 obtain ⟨ROW,hROW⟩:∃ ROW:Array Value,ROW=(cs++vs).toArray++Builtin.zeroCells z0.cells (grownCap w (n+m) c 36 - (n+m)):=⟨_,rfl⟩
 have hRs:ROW.size=grownCap w (n+m) c 36 * 6:=by rw [hROW];simp [Builtin.zeroCells,hzc,hcl,hvl];omega
 have hRp:∀ (j:Nat) (v:Value),(cs++vs)[j]? = some v→ROW[j]? = some v:=fun j v hj=>by
  have:=(List.getElem?_eq_some_iff.1 hj).1
  rw [hROW,Array.getElem?_append_left (by simpa using this)]
  simpa using hj
 have hrun:∀ ty,(Builtin.append_ #[22,22] ty #[.slice base n c,.slice (some ⟨vb,voff,none⟩) m vc]).run Tryz.prog w = .ok (.slice (some ⟨w.heap.size,0,none⟩) (n+m) (grownCap w (n+m) c 36)) (w.drew.alloc (.cells ROW 36)):=fun ty=>by
  rw [hROW]
  exact run_append_grow_src w 22 22 ty 36 i0 z0 uTxn hi0 hz0 base n c cs hold _ m vs hsrc hroom (by omega) (by have:=Nat.mul_le_mul hbig hzb;exact growslice_fits hroom (by omega))
 clear hROW
 obtain ⟨G,hG⟩:∃ G,G=grownCap w (n+m) c 36:=⟨_,rfl⟩
 rw [← hG] at hrun hRs ⊢
 clear hG hge
 go_enter Tryz.func188,Tryz.ntmps188
 cases base with
 | none =>
  have h0:=hnil rfl
  subst h0
  go_wp2_with (at_builtin;refine Lib.wpList_append_run _ rfl _ _ _ _ rfl _ _ rfl rfl _ _ (hrun _) ?_)
  go_ret
  exact ⟨rfl,ROW,hRs,hRp,rfl⟩
 | some a =>
  obtain ⟨ab,ao,asp⟩:=a
  go_wp2_with (at_builtin;refine Lib.wpList_append_run _ rfl _ _ _ _ rfl _ _ rfl rfl _ _ (hrun _) ?_)
  all_goals (go_ret;exact ⟨rfl,ROW,hRs,hRp,rfl⟩)

set_option maxHeartbeats 4000000 in
set_option maxRecDepth 100000 in
theorem insTxn_grow (b off n c i vb voff m vc : Nat) (cs vs : List Value) (w : World) (hi : i < n) (hm : 0 < m) (hnc : n ≤ c) (hroom : c < n + m) (hbig : n + m ≤ 4294967296)
    (hcl : cs.length = n * 6) (hvl : vs.length = m * 6)
    (hcs : ∀ j v, cs[j]? = some v → w.cell? ⟨b, off + j, none⟩ = some v)
    (hvs : ∀ j v, vs[j]? = some v → w.cell? ⟨vb, voff + j, none⟩ = some v) (h1c : ∀ v ∈ cs, v.oneCell' = true) (h1v : ∀ v ∈ vs, v.oneCell' = true) :
    Calls Tryz.prog 188 #[.slice (some ⟨b, off, none⟩) n c, .int .i64 i, .slice (some ⟨vb, voff, none⟩) m vc] w fun e w' =>
      e = .returned (.slice (some ⟨w.heap.size, 0, none⟩) (n + m) (grownCap w (n + m) c 36)) ∧
      ∃ ROW : Array Value, ROW.size = grownCap w (n + m) c 36 * 6 ∧ (∀ (j : Nat) (v : Value), (cs.take (i * 6))[j]? = some v → ROW[j]? = some v) ∧
        w' = (((w.alloc (.cells ROW 36)).drew.setCells w.heap.size (i * 6) vs).drew).setCells w.heap.size ((i + m) * 6) (cs.drop (i * 6)) := by
  obtain ⟨i0, z0, hi0, hz0, hzs, hzb, hzc⟩ := iTxn
  have hz1 : ¬ ((m : Int) = 0) := by omega
  have hz2 : ¬ ((i : Int) = (n : Int)) := by omega
  have hz3 : (c : Int) < (n : Int) + (m : Int) := by omega
  have hsz : (Tryz.prog.info? 36).map (·.size) = some 6 := sTxn
  have hbw : b < w.heap.size := block_lt_of_cell (hcs 0 _ (List.getElem?_eq_getElem (by omega)))
  have hvw : vb < w.heap.size := block_lt_of_cell (hvs 0 _ (List.getElem?_eq_getElem (by omega)))
  have hkk : (n : Int) + (m : Int) - (i : Int) = ((n + m - i : Nat) : Int) := by omega
  have hik : i + (n + m - i) = n + m := by omega
  have hold : (Builtin.firstCells i0.size i (.slice (some ⟨b, off, none⟩) i c)).run Tryz.prog w.drew = .ok (cs.take (i * 6)).toArray w.drew := by
    rw [hzs]
    exact run_firstCells_some w.drew 6 i ⟨b, off, none⟩ i c (cs.take (i * 6)) (by rw [List.length_take]; omega) (fun j v hj => by
      rw [Addr.add_lit]
      rw [List.getElem?_take] at hj
      split at hj
      · exact hcs j v hj
      · cases hj)
  have hrz : ∀ ty, (Builtin.append_ #[22, 3] ty #[.slice (some ⟨b, off, none⟩) i c, .int .i64 ((n : Int) + (m : Int) - (i : Int))]).run Tryz.prog w =
      .ok (.slice (some ⟨w.heap.size, 0, none⟩) (n + m) (grownCap w (n + m) c 36)) (w.drew.alloc (.cells ((cs.take (i * 6)).toArray ++ Builtin.zeroCells z0.cells (n + m - i) ++ Builtin.zeroCells z0.cells (grownCap w (n + m) c 36 - (n + m))) 36)) := fun ty => by
    have h := Lib.run_append_grow_zeros w 22 3 ty 36 i0 z0 .i64 .i64 uTxn u3Txn hi0 hz0 (some ⟨b, off, none⟩) i c (cs.take (i * 6)) hold (n + m - i) (by omega) (by omega) (by omega) (by omega) (by have := Nat.mul_le_mul (show n + m - i ≤ 4294967296 by omega) hzb; omega) (by rw [hik]; have := Nat.mul_le_mul hbig hzb; exact growslice_fits hroom (by omega))
    rw [hik] at h
    rw [hkk]
    exact h
  obtain ⟨G, hG⟩ : ∃ G, G = grownCap w (n + m) c 36 := ⟨_, rfl⟩
  obtain ⟨ROW, hROW⟩ : ∃ ROW : Array Value, ROW = (cs.take (i * 6)).toArray ++ Builtin.zeroCells z0.cells (n + m - i) ++ Builtin.zeroCells z0.cells (G - (n + m)) := ⟨_, rfl⟩
  rw [← hG] at hrz ⊢
  rw [← hROW] at hrz
  have hRl : (n + m) * 6 ≤ ROW.size := by
    rw [hROW]
    simp [Builtin.zeroCells, hzc, hcl]
    omega
  obtain ⟨W1, hW1⟩ : ∃ W1, W1 = w.drew.alloc (.cells ROW 36) := ⟨_, rfl⟩
  rw [← hW1] at hrz
  have hN : ∀ j, j < (n + m) * 6 → (W1.cell? ⟨w.heap.size, j, none⟩).isSome = true := fun j hj => by
    rw [hW1, World.cell?_alloc_at (w := w.drew) ROW _ w.heap.size j rfl, Array.getElem?_eq_getElem (by omega)]; rfl
  have hNf : ∀ j, W1.frozen? ⟨w.heap.size, j, none⟩ = false := fun j => by rw [hW1]; exact World.frozen?_alloc_at (w := w.drew) ROW _ w.heap.size j rfl
  have hOb : ∀ j v, w.cell? ⟨b, j, none⟩ = some v → W1.cell? ⟨b, j, none⟩ = some v := fun j v h => by rw [hW1, World.cell?_alloc_past (w := w.drew) _ b j hbw]; exact h
  have hOv : ∀ j v, w.cell? ⟨vb, j, none⟩ = some v → W1.cell? ⟨vb, j, none⟩ = some v := fun j v h => by rw [hW1, World.cell?_alloc_past (w := w.drew) _ vb j hvw]; exact h
  have hcpA : ∀ (W : World), (∀ x, W.cell? x = W1.cell? x) → (∀ x, W.frozen? x = W1.frozen? x) → ∀ ty dc, (Builtin.copy_ #[22, 22] ty #[.slice (some ⟨w.heap.size, i * 6, none⟩) (n + m - i) dc, .slice (some ⟨vb, voff, none⟩) m vc]).run Tryz.prog W = .ok (goInt (m : Nat)) (W.setCells w.heap.size (i * 6) vs) := fun W hWc hWf ty dc =>
    run_copy_k 6 W _ _ ty 36 w.heap.size (i * 6) (n + m - i) dc ⟨vb, voff, none⟩ m vc vs uTxn hsz m (by simp only [Nat.min_def]; split <;> omega) hvl
      (fun j v hj => by rw [Addr.add_lit, hWc]; exact hOv _ v (hvs j v hj))
      (fun j hj => by rw [hWc]; exact hN _ (by omega)) (fun j hj => by rw [hWf]; exact hNf _) h1v
  have hRp : ∀ (j : Nat) (v : Value), (cs.take (i * 6))[j]? = some v → ROW[j]? = some v := fun j v hj => by
    have := (List.getElem?_eq_some_iff.1 hj).1
    rw [hROW, Array.getElem?_append_left (by simp at this ⊢; omega), Array.getElem?_append_left (by simpa using this)]
    simpa using hj
  have hGn : n + m ≤ G := by rw [hG]; exact grownCap_ge w _ _ _
  have hG63 : G ≤ 9223372036854775807 := by
    have := grownCap_le_maxLen w (n + m) c 36 (by unfold maxLen; omega)
    rw [← hG] at this
    unfold maxLen at this
    omega
  have hGi : ¬ (G = i) := by omega
  have hGim : ¬ (G = i + m) := by omega
  have hci : ¬ (c = i) := by omega
  have hbN : b ≠ w.heap.size := by omega
  have hdl : (cs.drop (i * 6)).length = (n - i) * 6 := by rw [List.length_drop, hcl]; omega
  have hcpB : ∀ (W : World), (∀ x, W.cell? x = (W1.setCells w.heap.size (i * 6) vs).cell? x) → (∀ x, W.frozen? x = (W1.setCells w.heap.size (i * 6) vs).frozen? x) → ∀ ty dc sc, (Builtin.copy_ #[22, 22] ty #[.slice (some ⟨w.heap.size, (i + m) * 6, none⟩) (n + m - (i + m)) dc, .slice (some ⟨b, off + i * 6, none⟩) (n - i) sc]).run Tryz.prog W = .ok (goInt (n - i : Nat)) (W.setCells w.heap.size ((i + m) * 6) (cs.drop (i * 6))) := fun W hWc hWf ty dc sc =>
    run_copy_k 6 W _ _ ty 36 w.heap.size ((i + m) * 6) (n + m - (i + m)) dc ⟨b, off + i * 6, none⟩ (n - i) sc (cs.drop (i * 6)) uTxn hsz (n - i) (by simp only [Nat.min_def]; split <;> omega) hdl
      (fun j v hj => by
        rw [Addr.add_lit, hWc, World.cell?_setCells_out _ _ _ _ _ (fun h _ => absurd h hbN), Nat.add_assoc]
        exact hOb _ v (hcs (i * 6 + j) v (by rwa [List.getElem?_drop] at hj)))
      (fun j hj => by rw [hWc]; exact isSome_setCells _ _ _ _ (fun t ht => hN _ (by omega)) _ (hN _ (by omega)))
      (fun j hj => by rw [hWf, World.frozen?_setCells]; exact hNf _) (fun v hv => h1c v (List.mem_of_mem_drop hv))
  subst hW1
  have hE1 : ∀ x, ((w.alloc (.cells ROW 36)).drew).cell? x = (w.drew.alloc (.cells ROW 36)).cell? x := fun x => rfl
  have hE2 : ∀ x, ((w.alloc (.cells ROW 36)).drew).frozen? x = (w.drew.alloc (.cells ROW 36)).frozen? x := fun x => rfl
  have hF1 : ∀ x, (((w.alloc (.cells ROW 36)).drew.setCells w.heap.size (i * 6) vs).drew).cell? x = ((w.drew.alloc (.cells ROW 36)).setCells w.heap.size (i * 6) vs).cell? x := fun x => rfl
  have hF2 : ∀ x, (((w.alloc (.cells ROW 36)).drew.setCells w.heap.size (i * 6) vs).drew).frozen? x = ((w.drew.alloc (.cells ROW 36)).setCells w.heap.size (i * 6) vs).frozen? x := fun x => rfl
  have hw1 : IntKind.i64.wrap ((i : Int) + (m : Int)) = (i : Int) + (m : Int) := by rw [IntKind.wrap_i64]; omega
  have hb1 : (0 : Int) ≤ (i : Int) + (m : Int) := by omega
  have hin : i ≤ n := by omega
  have htn : ((i : Int) + (m : Int)).toNat = i + m := by omega
  have hb3 : (i : Int) ≤ (n : Int) := by omega
  have hRs : ROW.size = G * 6 := by rw [hROW]; simp [Builtin.zeroCells, hzc, hcl]; omega
  clear hkk hik hold hROW hG hRl
  have mixed : Tryz.prog.follows .mixedOrders = true := by kernel_rfl
  go_enter Tryz.func188, Tryz.ntmps188
  go_wp2_with (first
    | (at_builtin; refine Lib.wpList_append_run _ rfl _ _ _ _ rfl _ _ rfl rfl _ _ (hrz _) ?_)
    | (at_builtin; refine wpList_copy_runI _ rfl _ _ 22 22 rfl _ _ rfl rfl (hcpA _ hE1 hE2 _ _) ?_)
    | (at_builtin; refine wpList_copy_runI _ rfl _ _ 22 22 rfl _ _ rfl rfl (hcpB _ (fun _ => rfl) (fun _ => rfl) _ _ _) ?_))
  go_region_law_o (refine step_copy_runI rfl _ _ 22 22 rfl (.slice (some ⟨w.heap.size, (i + m) * 6, none⟩) (n + m - (i + m)) (G - (i + m))) (.slice (some ⟨b, off + i * 6, none⟩) (n - i) (c - i)) (by simp [Act.eval, Act.put]) (by simp [Act.eval, Act.put]) (hcpB _ hF1 hF2 3 (G - (i + m)) (c - i)) ?_)
  go_wp2
  go_ret
  exact ⟨rfl, ROW, hRs, hRp, rfl⟩


set_option maxHeartbeats 4000000 in
set_option maxRecDepth 100000 in
theorem insTxn_none (a:Option Addr) (n c i:Nat) (y:Option Addr) (vc:Nat) (w:World) (hi:i≤n) (hn:n≤c) (hc:c≤9223372036854775807) :
  Calls Tryz.prog 188 #[.slice a n c,.int .i64 i,.slice y 0 vc] w fun e w'=>e = .returned (.slice a n c)∧w'=w:=by
 have h1:(i:Int)≤(n:Int):=by omega
 go_enter Tryz.func188,Tryz.ntmps188
 cases a with
 | none =>
  go_wp2
  all_goals (go_ret;exact ⟨rfl,rfl⟩)
 | some a =>
  obtain ⟨ab,ao,asp⟩:=a
  go_wp2
  all_goals (go_ret;exact ⟨rfl,rfl⟩)
end Go.Proofs.YtggcagclpkhlhaaGreatDoor
namespace Go.Proofs.YtggcagclpkhlhaaGreatDoor.Pal
open Go Go.Sort
@[reducible] def elTxn:Ty:=(.pair (.pair (.int .i64) (.int .i64)) (.pair (.int .i64) (.pair (.int .i64) (.pair .bool (.slc (.pair (.int .i64) (.pair (.slc .str) (.pair (.pair (.int .i64) (.pair (.int .i64) .str)) (.pair (.int .i64) (.slc (.pair (.pair (.int .i64) (.int .i64)) (.int .i64))))))))))))
theorem insTxn_ok : CallOK Tryz.prog 188 (insE elTxn) := by
  have eF : ∀ args w, (callFunc 188 args).run Tryz.prog w = .ok (.enter 188 args) w := enters_of Tryz.func188 (by kernel_rfl) rfl
  have val : ∀ args objs v os, (insE elTxn).val args objs = some (v, os) → ∃ (xs ys : List elTxn.D) (i : Int) (va : V), args = [.raw elTxn xs, .dat (.int .i64) i, va] ∧ V.as (.slc elTxn) va = some ys ∧ objs = [] ∧ (0 ≤ i ∧ i ≤ xs.length) ∧ xs.length + ys.length ≤ 4294967296 ∧ v = .own elTxn (insAt xs i ys) ∧ os = [] := by
    intro args objs v os h
    unfold Entry.val insE at h
    simp only at h
    split at h
    · rename_i e' xs i va
      split at h
      · rename_i he; subst he
        rw [Option.bind_eq_some_iff] at h
        obtain ⟨ys, hys, h⟩ := h
        obtain ⟨hb, h⟩ := br_then h
        obtain ⟨hr, h⟩ := br_then h
        injection h with h; injection h with h1 h2
        obtain ⟨_, i1, i2⟩ := inS_spec hb
        exact ⟨xs, ys, i, va, rfl, hys, rfl, ⟨i1, i2⟩, room_spec hr, h1.symm, h2.symm⟩
      · cases h
    · cases h
  refine ⟨fun α args objs K => ?_, fun args objs vr os hval X G w argv tA tM hW hTab hX hA hM hcnt htok => ?_⟩
  · unfold Entry.val insE
    simp only
    split
    · split
      · rename_i va _
        cases V.as (.slc elTxn) va with
        | none => rfl
        | some ys => simp only [Option.bind_some]; rw [br_bind, br_bind]; rfl
      · rfl
    · rfl
  · obtain ⟨xs, ys, ii, va, rfl, hva, rfl, ⟨hi0, hi1⟩, hlen, rfl, rfl⟩ := val _ _ _ _ hval
    obtain ⟨i, rfl⟩ : ∃ i : Nat, ii = (i : Int) := ⟨ii.toNat, by omega⟩
    have hin : i ≤ xs.length := by omega
    obtain ⟨x0, r0, t1, t2, rfl, rfl, ⟨cs0, ⟨ad, n, c, e1, e2, e3, e4⟩, hx⟩, x1, r1, t3, t4, rfl, rfl, ⟨cs1, ⟨f1, f2⟩, hx1⟩, x2, r2, t5, t6, rfl, rfl, hx2, rfl, rfl⟩ := hA
    obtain ⟨ad2, m, vc, rfl, g2, g3, g4⟩ := (TRep.as_ hva hx2).slc
    simp only [V.agg, Bool.false_eq_true, if_false] at hx hx1
    rw [e1] at hx
    have f1 : cs1 = [.int .i64 i] := f1
    rw [f1] at hx1
    simp only [Ty.agg, Bool.false_eq_true, if_false, List.cons.injEq, and_true] at hx hx1
    subst hx; subst hx1; subst f2
    obtain ⟨hM1, hM2⟩ : tM = [] ∧ True := ⟨hM, trivial⟩
    obtain ⟨cs, hAc, e5⟩ : ∃ cs, All2 (DRep G.I elTxn) xs cs ∧ ((c = 0 ∧ t1 = []) ∨ ∃ gb, ad = some ⟨gb, 0, none⟩ ∧ t1 = [gb] ∧ (∃ cells ty, w.heap[gb]? = some (.cells cells ty (0, 0)) ∧ cells.size = c * 6 ∧ ∀ (j : Nat) (v : Value), cs[j]? = some v → cells[j]? = some v) ∧ (∀ o, G.I gb o = none) ∧ ∀ o, G.O gb o = none) := by
      rcases e4 with ⟨hc0, ht⟩ | ⟨gb, h1, h2, ⟨cells, ty, cc, hgc, hs, hAc, hcc⟩, hI, hO'⟩
      · have : xs = [] := List.eq_nil_of_length_eq_zero (by omega)
        subst this
        exact ⟨[], rfl, .inl ⟨hc0, ht⟩⟩
      · exact ⟨cc, hAc, .inr ⟨gb, h1, h2, ⟨cells, ty, hgc, hs, hcc⟩, hI, hO'⟩⟩
    have hia : (insAt xs (i : Int) ys) = xs.take i ++ (ys ++ xs.drop i) := rfl
    have hzl : (insAt xs (i : Int) ys).length = n + m := by rw [hia]; simp [← e2, ← g2]; omega
    have hcl : cs.length = n * 6 := by rw [← e2]; exact hAc.len
    obtain ⟨hAt, hAd⟩ := All2.split (sz := 6) (fun x c h => DRep.length elTxn x c h) xs cs i hin hAc
    have h1c : ∀ v ∈ cs, v.oneCell' = true := all2_plain xs cs hAc
    refine .inl ⟨eF _ _, ?_⟩
    have hfr : ∀ {b : Nat} {C : Array Value} {T : TypeId} (o : Nat), w.heap[b]? = some (.cells C T (0, 0)) → w.frozen? ⟨b, o, none⟩ = false := fun o h => by simp only [World.frozen?, h]; simp
    rcases Nat.eq_zero_or_pos m with hm0 | hm0
    · have hys : ys = [] := List.eq_nil_of_length_eq_zero (by omega)
      subst hys; subst hm0
      have hxx : insAt xs (i : Int) [] = xs := by rw [hia]; simp
      rw [hxx] at hzl ⊢
      refine Calls.mono (insTxn_none ad n c i ad2 vc w (by omega) e3.1 e3.2) fun e' w' hh => ?_
      obtain ⟨rfl, rfl⟩ := hh
      rcases e5 with ⟨hc0, rfl⟩ | ⟨gb, rfl, rfl, ⟨cells, ty, hgc, hs, hcc⟩, hI, hO'⟩
      · exact ⟨G, Ev.refl _ _ _, hW, fun _ _ => rfl, [], [], [], ⟨_, ⟨ad, n, c, rfl, e2, e3, .inl ⟨hc0, rfl⟩⟩, rfl⟩, rfl, rfl, fun q => by simp, fun q hq => by simp at hq⟩
      · have hone : cnt gb [gb] = 1 := by simp [cnt]
        have hX1 : ∀ o, X gb o := htok gb (by simp only [cnt_append]; omega)
        have := own_post (e := elTxn) (zs := xs) (ax := some (.slice (some ⟨gb, 0, none⟩) n c)) hW (Evo.refl X w') (fun _ _ _ => rfl) hgc hs (by rw [e2]; exact e3) hAc (fun j v hj => by rw [cell_of hgc]; exact hcc j v hj) hI hO' (.inr hX1)
        rw [e2] at this
        exact this
    · rcases g4 with hy0 | ⟨vb, vo, rfl, hel⟩
      · subst hy0; simp at g2; omega
      obtain ⟨vs, hvA, hvat⟩ := Elems.all2 (fun x c => DRep.length elTxn x c) ys vb vo hel
      have hvl : vs.length = m * 6 := by rw [← g2]; exact hvA.len
      have h1v : ∀ v ∈ vs, v.oneCell' = true := all2_plain ys vs hvA
      have hA2 : All2 (DRep G.I elTxn) (insAt xs (i : Int) ys) (cs.take (i * 6) ++ (vs ++ cs.drop (i * 6))) := by
        rw [hia]; exact All2.append _ _ _ _ hAt (All2.append _ _ _ _ hvA hAd)
      have hvc : ∀ (j : Nat) (v : Value), vs[j]? = some v → w.cell? ⟨vb, vo + j, none⟩ = some v := fun j v hj => hW.holds vb _ v (hvat j v hj)
      have hvI : ∃ v, G.I vb vo = some v := ⟨_, by have := hvat 0 vs[0] (List.getElem?_eq_getElem (by omega)); simpa using this⟩
      obtain ⟨kA, tA, hkA, hsa⟩ : ∃ kA tA, kA ≠ 0 ∧ w.shape? vb = some (tA, kA) := by
        obtain ⟨v, hv⟩ := hvI
        have h := hW.holds vb vo v hv
        unfold World.cell? at h
        split at h
        · rename_i C T fr hb
          simp only [Option.isSome_none, Bool.false_eq_true, if_false] at h
          exact ⟨C.size, T, by have := (Array.getElem?_eq_some_iff.1 h).1; omega, by have hb' : w.heap[vb]? = some (.cells C T fr) := hb; simp only [World.shape?, hb']⟩
        · cases h
      have hbig : n + m ≤ 4294967296 := by omega
      have fresh : ∀ w' (cap : Nat), (∀ b, b < w.heap.size → w'.heap[b]? = w.heap[b]?) → w'.os = w.os → w'.tape = w.tape → w'.output = w.output → w.drawn ≤ w'.drawn → w.heap.size ≤ w'.heap.size → (∃ C T, w'.heap[w.heap.size]? = some (.cells C T (0, 0)) ∧ C.size = cap * 6) → (n + m ≤ cap ∧ cap ≤ 9223372036854775807) →
          (∀ (j : Nat) (v : Value), (cs.take (i * 6) ++ (vs ++ cs.drop (i * 6)))[j]? = some v → w'.cell? ⟨w.heap.size, j, none⟩ = some v) →
          ∃ G', Post X G w 0 (.own elTxn (insAt xs i ys)) [] (.slice (some ⟨w.heap.size, 0, none⟩) (n + m) cap) (some (.slice ad n c)) G' w' := by
        intro w' cap k1 k2 k3 k4 k5 k6 ⟨C, T, k7, k8⟩ k9 k10
        have := own_post (e := elTxn) (zs := insAt xs i ys) (X := X) (ax := some (.slice ad n c)) hW ⟨k2, k3, k4, k6, fun b hb => .inl (k1 b hb), fun _ => k5⟩ (fun b hb _ => k1 b hb) k7 k8 (by rw [hzl]; exact k9) hA2 k10 (fun o => (hW.none_new o).1) (fun o => (hW.none_new o).2) (.inl (Nat.le_refl _))
        rw [hzl] at this
        exact this
      rcases Nat.lt_or_ge i n with hlt | hge
      · rcases e5 with ⟨hc0, _⟩ | ⟨gb, rfl, rfl, ⟨cells, ty, hgc, hs, hcc⟩, hI, hO'⟩
        · omega
        have hgv : gb ≠ vb := by
          intro e; subst e
          obtain ⟨v, hv⟩ := hvI
          rw [hI vo] at hv; cases hv
        have hcc' : ∀ (j : Nat) (v : Value), cs[j]? = some v → w.cell? ⟨gb, 0 + j, none⟩ = some v := fun j v hj => by rw [cell_of hgc, Nat.zero_add]; exact hcc j v hj
        by_cases hroom : n + m ≤ c
        · have hsz : (n + m) * 6 ≤ cells.size := by rw [hs]; exact Nat.mul_le_mul_right 6 hroom
          have hshape : ∀ {b : Nat} {C : Array Value} {T : TypeId}, w.heap[b]? = some (.cells C T (0, 0)) → w.shape? b = some (T, C.size) := fun h => by simp only [World.shape?, h]
          refine Calls.mono (insTxn_shift gb 0 n c i vb vo m vc cs vs w hlt hm0 hroom e3.2 (Ne.symm hgv) hcl hvl hcc' (fun j hj => by rw [cell_of hgc, Nat.zero_add, Array.getElem?_eq_getElem (by omega)]; rfl) (fun j hj => hfr _ hgc) hvc h1c h1v tA ty kA _ hsa (hshape hgc) hkA (fun o => hfr o hgc)) fun e' w' hh => ?_
          obtain ⟨rfl, rfl⟩ := hh
          obtain ⟨C1, q1, q2⟩ := setCells_block gb (cs.drop (i * 6)) (0 + (i + m) * 6) w.drew cells ty (0, 0) hgc
          obtain ⟨C2, q3, q4⟩ := setCells_block gb vs (0 + i * 6) _ C1 ty (0, 0) q1
          have hone : cnt gb [gb] = 1 := by simp [cnt]
          have hX1 : ∀ o, X gb o := htok gb (by simp only [cnt_append]; omega)
          have hold : ∀ b, b ≠ gb → ((w.drew.setCells gb (0 + (i + m) * 6) (cs.drop (i * 6))).setCells gb (0 + i * 6) vs).heap[b]? = w.heap[b]? := fun b hb => by
            rw [setCells_other gb _ _ _ b hb, setCells_other gb _ _ _ b hb]; rfl
          have hE1 := Evo.setCells (X := X) gb (cs.drop (i * 6)) (0 + (i + m) * 6) w.drew (fun j _ => hX1 _)
          have hE2 := Evo.setCells (X := X) gb vs (0 + i * 6) (w.drew.setCells gb (0 + (i + m) * 6) (cs.drop (i * 6))) (fun j _ => hX1 _)
          have := own_post (e := elTxn) (zs := insAt xs i ys) (ax := some (.slice (some ⟨gb, 0, none⟩) n c)) (cap := c) (X := X) hW (w' := (w.drew.setCells gb (0 + (i + m) * 6) (cs.drop (i * 6))).setCells gb (0 + i * 6) vs) (g := gb) ?_ (fun b _ hb => hold b hb) q3 (by rw [q4, q2, hs]; rfl) (by rw [hzl]; exact ⟨hroom, e3.2⟩) hA2 (fun j v hj => ?_) hI hO' (.inr hX1)
          · rw [hzl] at this; exact this
          · exact (Evo.drew X w).trans (hE1.trans hE2 (fun _ _ _ h => h) (fun _ _ _ h => h)) (fun _ _ _ h => h) (fun _ _ _ h => h)
          · have := two_a (W := w.drew) (b := gb) (k := i * 6) (l := m * 6) (cs := cs) (vs := vs) (by omega) hvl (fun j hj => by show (w.cell? ⟨gb, j, none⟩).isSome = true; rw [cell_of hgc, Array.getElem?_eq_getElem (by omega)]; rfl) (fun j v _ hj => by show w.cell? ⟨gb, j, none⟩ = some v; rw [cell_of hgc]; exact hcc j v hj) j v hj
            rw [Nat.zero_add, Nat.zero_add, Nat.add_mul]; exact this
        · refine Calls.mono (insTxn_grow gb 0 n c i vb vo m vc cs vs w hlt hm0 e3.1 (by omega) hbig hcl hvl hcc' hvc h1c h1v) fun e' w' hh => ?_
          obtain ⟨rfl, ROW, hRs, hRp, rfl⟩ := hh
          have hge := grownCap_ge w (n + m) c 36
          have hle := grownCap_le_maxLen w (n + m) c 36 (by unfold maxLen; omega)
          unfold maxLen at hle
          obtain ⟨cap, hcap⟩ : ∃ cap, cap = grownCap w (n + m) c 36 := ⟨_, rfl⟩
          rw [← hcap] at hge hle hRs ⊢
          have hnew : ((w.alloc (.cells ROW 36)).drew).heap[w.heap.size]? = some (.cells ROW 36 (0, 0)) := by show (w.heap.push _)[w.heap.size]? = _; simp
          obtain ⟨C1, q1, q2⟩ := setCells_block w.heap.size vs (i * 6) _ ROW 36 (0, 0) hnew
          obtain ⟨C2, q3, q4⟩ := setCells_block w.heap.size (cs.drop (i * 6)) ((i + m) * 6) (((w.alloc (.cells ROW 36)).drew.setCells w.heap.size (i * 6) vs).drew) C1 36 (0, 0) q1
          have hszs : ∀ (vs : List Value) (o : Nat) (W : World), (W.setCells w.heap.size o vs).heap.size = W.heap.size := fun vs o W => World.size_setCells _ vs o W
          refine fresh _ cap (fun b hb => ?_) (by rw [setCells_os]; exact setCells_os _ _ _ _) (by rw [setCells_tape]; exact setCells_tape _ _ _ _) (by rw [setCells_output]; exact setCells_output _ _ _ _) (by rw [setCells_drawn]; show _ ≤ (World.setCells _ _ _ _).drawn + 1; rw [setCells_drawn]; show w.drawn ≤ w.drawn + 1 + 1; omega) (by rw [hszs]; show _ ≤ (World.setCells _ _ _ _).heap.size; rw [hszs]; show _ ≤ (w.heap.push _).size; simp) ⟨C2, 36, q3, by rw [q4, q2, hRs]⟩ ⟨hge, hle⟩ (fun j v hj => ?_)
          · rw [setCells_other _ _ _ _ b (by omega)]
            show (World.setCells _ _ _ _).heap[b]? = _
            rw [setCells_other _ _ _ _ b (by omega)]
            show (w.heap.push _)[b]? = _
            rw [Array.getElem?_push_lt hb, Array.getElem?_eq_getElem hb]
          · have := two_b (W := (w.alloc (.cells ROW 36)).drew) (b := w.heap.size) (k := i * 6) (l := m * 6) (cs := cs) (vs := vs) (by omega) hvl (fun j hj => by
                rw [cell_of hnew, Array.getElem?_eq_getElem (by omega)]; rfl) (fun j v hj1 hj2 => by
                rw [cell_of hnew]; exact hRp j v (by rw [List.getElem?_take, if_pos hj1]; exact hj2)) j v hj
            rw [← drew_setCells, Nat.add_mul]; exact this
      · have hie : i = n := by omega
        subst hie
        by_cases hroom : i + m ≤ c
        · rcases e5 with ⟨hc0, _⟩ | ⟨gb, rfl, rfl, ⟨cells, ty, hgc, hs, hcc⟩, hI, hO'⟩
          · omega
          have hsz : (i + m) * 6 ≤ cells.size := by rw [hs]; exact Nat.mul_le_mul_right 6 hroom
          have hsome : ∀ j, j < (i + m) * 6 → (w.cell? ⟨gb, j, none⟩).isSome = true := fun j hj => by rw [cell_of hgc, Array.getElem?_eq_getElem (by omega)]; rfl
          refine Calls.mono (insTxn_end_room gb 0 i c vb vo m vc vs w hm0 hroom e3.2 hvl (fun j hj => hsome _ (by omega)) (fun j hj => hfr _ hgc) hvc h1v) fun e' w' hh => ?_
          obtain ⟨rfl, rfl⟩ := hh
          obtain ⟨C2, q3, q4⟩ := setCells_block gb vs (0 + i * 6) w cells ty (0, 0) hgc
          have hone : cnt gb [gb] = 1 := by simp [cnt]
          have hX1 : ∀ o, X gb o := htok gb (by simp only [cnt_append]; omega)
          have := own_post (e := elTxn) (zs := insAt xs i ys) (ax := some (.slice (some ⟨gb, 0, none⟩) i c)) (cap := c) (X := X) hW (w' := w.setCells gb (0 + i * 6) vs) (g := gb) (Evo.setCells (X := X) gb vs (0 + i * 6) w (fun j _ => hX1 _)) (fun b _ hb => setCells_other gb _ _ _ b hb) q3 (by rw [q4, hs]; rfl) (by rw [hzl]; exact ⟨hroom, e3.2⟩) hA2 (fun j v hj => ?_) hI hO' (.inr hX1)
          · rw [hzl] at this; exact this
          · have h0 : cs.drop (i * 6) = [] := List.drop_of_length_le (by omega)
            have := two_a (W := w) (b := gb) (k := i * 6) (l := m * 6) (cs := cs) (vs := vs) (by omega) hvl (fun j hj => hsome _ (by omega)) (fun j v _ hj => by rw [cell_of hgc]; exact hcc j v hj) j v hj
            rw [h0] at this
            rw [Nat.zero_add]; exact this
        · have hnil : ad = none → i = 0 := fun h => by
            rcases e5 with ⟨hc0, _⟩ | ⟨gb, h1, _⟩
            · omega
            · rw [h] at h1; cases h1
          have hold : ∀ a, ad = some a → ∀ (j : Nat) (v : Value), cs[j]? = some v → w.cell? (a.add j) = some v := fun a ha j v hj => by
            rcases e5 with ⟨hc0, _⟩ | ⟨gb, h1, _, ⟨cells, ty, hgc, hs, hcc⟩, hI, hO'⟩
            · have := (List.getElem?_eq_some_iff.1 hj).1; omega
            · rw [h1] at ha; injection ha with ha; subst ha
              rw [Addr.add_lit, cell_of hgc, Nat.zero_add]; exact hcc j v hj
          refine Calls.mono (insTxn_end_grow ad i c vb vo m vc cs vs w hm0 e3.1 (by omega) hbig hcl hvl hnil hold hvc h1v) fun e' w' hh => ?_
          obtain ⟨rfl, ROW, hRs, hRp, rfl⟩ := hh
          have hge := grownCap_ge w (i + m) c 36
          have hle := grownCap_le_maxLen w (i + m) c 36 (by unfold maxLen; omega)
          unfold maxLen at hle
          obtain ⟨cap, hcap⟩ : ∃ cap, cap = grownCap w (i + m) c 36 := ⟨_, rfl⟩
          rw [← hcap] at hge hle hRs ⊢
          have hnew : (w.drew.alloc (.cells ROW 36)).heap[w.heap.size]? = some (.cells ROW 36 (0, 0)) := by show (w.heap.push _)[w.heap.size]? = _; simp
          refine fresh _ cap (fun b hb => ?_) rfl rfl rfl (by show w.drawn ≤ w.drawn + 1; omega) (by show _ ≤ (w.heap.push _).size; simp) ⟨ROW, 36, hnew, hRs⟩ ⟨hge, hle⟩ (fun j v hj => ?_)
          · show (w.heap.push _)[b]? = _
            rw [Array.getElem?_push_lt hb, Array.getElem?_eq_getElem hb]
          · have h0 : cs.drop (i * 6) = [] := List.drop_of_length_le (by omega)
            have h1 : cs.take (i * 6) = cs := List.take_of_length_le (by omega)
            rw [h0, h1, List.append_nil] at hj
            rw [cell_of hnew]; exact hRp j v hj
end Go.Proofs.YtggcagclpkhlhaaGreatDoor.Pal
end
noncomputable section
/- The library's functions at this program's types. -/
namespace Go.Proofs.YtggcagclpkhlhaaGreatDoor
open Pal Go
set_option maxRecDepth 100000 in
theorem cloneODot_ok:CallOK Tryz.prog 138 (cloneO ((.pair (.int .i64) (.int .i64)))) :=
 cloneO_ok (T:=26) (B:=4) (TT.of (by kernel_rfl) (by kernel_rfl)) (by kernel_rfl) (by kernel_rfl) Tryz.func138 (by kernel_rfl) (by kernel_rfl) (by kernel_rfl) (by kernel_rfl) (by kernel_rfl) (fun xs=>by kernel_rfl) (by kernel_rfl) (fun xs=>by kernel_rfl)
set_option maxRecDepth 100000 in
theorem cloneOTxn_ok:CallOK Tryz.prog 140 (cloneO ((.pair (.pair (.int .i64) (.int .i64)) (.pair (.int .i64) (.pair (.int .i64) (.pair .bool (.slc (.pair (.int .i64) (.pair (.slc .str) (.pair (.pair (.int .i64) (.pair (.int .i64) .str)) (.pair (.int .i64) (.slc (.pair (.pair (.int .i64) (.int .i64)) (.int .i64)))))))))))))) :=
 cloneO_ok (T:=22) (B:=4) (TT.of (by kernel_rfl) (by kernel_rfl)) (by kernel_rfl) (by kernel_rfl) Tryz.func140 (by kernel_rfl) (by kernel_rfl) (by kernel_rfl) (by kernel_rfl) (by kernel_rfl) (fun xs=>by kernel_rfl) (by kernel_rfl) (fun xs=>by kernel_rfl)
set_option maxRecDepth 100000 in
theorem cloneOUndo_ok:CallOK Tryz.prog 141 (cloneO ((.pair (.pair (.int .i64) (.int .i64)) (.int .i64)))) :=
 cloneO_ok (T:=23) (B:=4) (TT.of (by kernel_rfl) (by kernel_rfl)) (by kernel_rfl) (by kernel_rfl) Tryz.func141 (by kernel_rfl) (by kernel_rfl) (by kernel_rfl) (by kernel_rfl) (by kernel_rfl) (fun xs=>by kernel_rfl) (by kernel_rfl) (fun xs=>by kernel_rfl)
end Go.Proofs.YtggcagclpkhlhaaGreatDoor
end
noncomputable section
/- Where slices.SortFunc at dots and what it calls lie in this program. -/
namespace Go.Proofs.YtggcagclpkhlhaaGreatDoor
open Go.Proofs
open Go.Shelf
def laysSortDot_ren:Go.Shelf.Ren:=⟨fun | 6=>182 | 15=>229 | 14=>228 | 28=>257 | 29=>258 | 20=>249 | 21=>250 | 22=>251 | 23=>252 | 24=>253 | 25=>254 | 26=>255 | 27=>256 | 46=>266 | 47=>267 | 48=>268 | 49=>269 | 50=>270 | 57=>274 | n=>n,fun | 22=>26 | 24=>33 | 25=>142 | 3=>3 | 39=>163 | 0=>0 | 53=>170 | 55=>248 | 4=>4 | 46=>241 | 45=>240 | 50=>191 | 5=>5 | 9=>9 | 66=>256 | 70=>260 | 76=>264 | 77=>232 | n=>n,fun | n=>n⟩
theorem laysSortDot:Go.Proofs.SlLaysF0.n6 Tryz.prog laysSortDot_ren:={
 mixed:=by kernel_rfl
 f6:=⟨Tryz.f182.name,by decide,Tryz.func182.trans (congrArg some (by kernel_rfl))⟩
 f14:=⟨Tryz.f228.name,by decide,Tryz.func228.trans (congrArg some (by kernel_rfl))⟩
 f15:=Tryz.func229.trans (congrArg some (by kernel_rfl))
 f20:=⟨Tryz.f249.name,by decide,Tryz.func249.trans (congrArg some (by kernel_rfl))⟩
 f21:=⟨Tryz.f250.name,by decide,Tryz.func250.trans (congrArg some (by kernel_rfl))⟩
 f22:=⟨Tryz.f251.name,by decide,Tryz.func251.trans (congrArg some (by kernel_rfl))⟩
 f23:=⟨Tryz.f252.name,by decide,Tryz.func252.trans (congrArg some (by kernel_rfl))⟩
 f24:=⟨Tryz.f253.name,by decide,Tryz.func253.trans (congrArg some (by kernel_rfl))⟩
 f25:=⟨Tryz.f254.name,by decide,Tryz.func254.trans (congrArg some (by kernel_rfl))⟩
 f26:=⟨Tryz.f255.name,by decide,Tryz.func255.trans (congrArg some (by kernel_rfl))⟩
 f27:=⟨Tryz.f256.name,by decide,Tryz.func256.trans (congrArg some (by kernel_rfl))⟩
 f28:=Tryz.func257.trans (congrArg some (by kernel_rfl))
 f29:=Tryz.func258.trans (congrArg some (by kernel_rfl))
 f46:=⟨Tryz.f266.name,by decide,Tryz.func266.trans (congrArg some (by kernel_rfl))⟩
 f47:=Tryz.func267.trans (congrArg some (by kernel_rfl))
 f48:=Tryz.func268.trans (congrArg some (by kernel_rfl))
 f49:=⟨Tryz.f269.name,by decide,Tryz.func269.trans (congrArg some (by kernel_rfl))⟩
 f50:=⟨Tryz.f270.name,by decide,Tryz.func270.trans (congrArg some (by kernel_rfl))⟩
 f57:=⟨Tryz.f274.name,by decide,Tryz.func274.trans (congrArg some (by kernel_rfl))⟩
 t0:=Tryz.underlying0
 a0:=Tryz.isAgg0
 z0:=Tryz.sizeOf0
 v0:=Tryz.zeroValue0
 t3:=Tryz.underlying3
 a3:=Tryz.isAgg3
 z3:=Tryz.sizeOf3
 v3:=Tryz.zeroValue3
 t4:=Tryz.underlying4
 a4:=Tryz.isAgg4
 z4:=Tryz.sizeOf4
 v4:=Tryz.zeroValue4
 t5:=Tryz.underlying5
 a5:=Tryz.isAgg5
 z5:=Tryz.sizeOf5
 v5:=Tryz.zeroValue5
 t9:=Tryz.underlying9
 a9:=Tryz.isAgg9
 z9:=Tryz.sizeOf9
 v9:=Tryz.zeroValue9
 t22:=Tryz.underlying26
 a22:=Tryz.isAgg26
 z22:=Tryz.sizeOf26
 v22:=Tryz.zeroValue26
 t25:=Tryz.underlying142
 a25:=Tryz.isAgg142
 z25:=Tryz.sizeOf142
 v25:=Tryz.zeroValue142
 t39:=Tryz.underlying163
 a39:=Tryz.isAgg163
 z39:=Tryz.sizeOf163
 v39:=Tryz.zeroValue163
 t45:=Tryz.underlying240
 a45:=Tryz.isAgg240
 z45:=Tryz.sizeOf240
 v45:=Tryz.zeroValue240
 t46:=Tryz.underlying241
 a46:=Tryz.isAgg241
 z46:=Tryz.sizeOf241
 v46:=Tryz.zeroValue241
 t50:=Tryz.underlying191
 a50:=Tryz.isAgg191
 z50:=Tryz.sizeOf191
 v50:=Tryz.zeroValue191
 t53:=Tryz.underlying170
 a53:=Tryz.isAgg170
 z53:=Tryz.sizeOf170
 v53:=Tryz.zeroValue170
 t55:=Tryz.underlying248
 a55:=Tryz.isAgg248
 z55:=Tryz.sizeOf248
 v55:=Tryz.zeroValue248
 t66:=Tryz.underlying256
 a66:=Tryz.isAgg256
 z66:=Tryz.sizeOf256
 v66:=Tryz.zeroValue256
 t70:=Tryz.underlying260
 a70:=Tryz.isAgg260
 z70:=Tryz.sizeOf260
 v70:=Tryz.zeroValue260
 t76:=Tryz.underlying264
 a76:=Tryz.isAgg264
 z76:=Tryz.sizeOf264
 v76:=Tryz.zeroValue264
 t77:=Tryz.underlying232
 a77:=Tryz.isAgg232
 z77:=Tryz.sizeOf232
 v77:=Tryz.zeroValue232 }
end Go.Proofs.YtggcagclpkhlhaaGreatDoor
end
noncomputable section
/- The types, and some of the program's functions, as plain equations. -/
namespace Go.Proofs.YtggcagclpkhlhaaGreatDoor
open Pal
set_option maxRecDepth 100000
def ri (a b:List Nat):RInfo:=⟨a,b,[],[],0,[],[],[],[],[]⟩
def rq (a b:List Nat) (q:Nat):RInfo:=⟨a,b,[],[],q,[],[],[],[],[]⟩
variable [MonoC]
@[reducible] def tVec:Ty:=.arr 16 (.int .i64)
@[reducible] def tDot:Ty:=.pair (.int .i64) (.int .i64)
@[reducible] def tpackReader:Ty:=.pair .str (.int .i64)
@[reducible] def terrorAddressString:Ty:=.pair .str (.int .u64)
@[reducible] def tacceptRange:Ty:=.pair (.int .u8) (.int .u8)
@[reducible] def tUndo:Ty:=.pair tDot (.int .i64)
@[reducible] def tValue:Ty:=.pair (.int .i64) (.pair (.int .i64) .str)
@[reducible] def tref02Reader:Ty:=.pair .str tDot
@[reducible] def tDots:Ty:=.pair tVec (.slc tDot)
@[reducible] def tboundsError:Ty:=.pair (.int .i64) (.pair (.int .i64) (.pair .bool (.int .u8)))
@[reducible] def tOp:Ty:=.pair (.int .i64) (.pair (.slc .str) (.pair tValue (.pair (.int .i64) (.slc tUndo))))
@[reducible] def tKnow:Ty:=.pair tDots (.pair (.slc tUndo) tDots)
@[reducible] def tTxn:Ty:=.pair tDot (.pair (.int .i64) (.pair (.int .i64) (.pair .bool (.slc tOp))))
@[reducible] def tDelta:Ty:=.pair (.slc tTxn) (.pair (.slc tUndo) (.slc tDot))
@[reducible] def tState:Ty:=.pair (.slc tTxn) (.pair (.slc tUndo) (.pair tDots (.pair tDots (.arr 8 (.slc tDot)))))
@[reducible] def tMessage:Ty:=.pair (.int .i64) (.pair (.int .i64) (.pair (.int .i64) (.pair tDelta tKnow)))
@[reducible] def tRecord:Ty:=.pair (.int .i64) (.pair tTxn (.pair (.int .i64) (.pair tUndo (.pair (.int .i64) (.pair tDelta tState)))))
def tt:List (Nat × TInfo):=[(2,⟨(.int .i64),0⟩),(3,⟨(.int .i64),0⟩),(4,⟨.bool,0⟩),(5,⟨(.int .u8),0⟩),(6,⟨(.int .u8),0⟩),(7,⟨tboundsError,4⟩),(8,⟨tboundsError,4⟩),(9,⟨.str,0⟩),(10,⟨.str,0⟩),(11,⟨.str,0⟩),(12,⟨(.int .u64),0⟩),(21,⟨(.int .i32),0⟩),(22,⟨(.slc tTxn),0⟩),(23,⟨(.slc tUndo),0⟩),(24,⟨tVec,0⟩),(25,⟨tVec,0⟩),(26,⟨(.slc tDot),0⟩),(27,⟨tDots,2⟩),(28,⟨tDots,2⟩),(29,⟨(.arr 8 (.slc tDot)),0⟩),(30,⟨tState,5⟩),(31,⟨tState,5⟩),(32,⟨tDot,2⟩),(33,⟨tDot,2⟩),(34,⟨(.slc tOp),0⟩),(35,⟨tTxn,5⟩),(36,⟨tTxn,5⟩),(37,⟨tUndo,2⟩),(38,⟨tUndo,2⟩),(39,⟨tDelta,3⟩),(40,⟨tDelta,3⟩),(41,⟨tRecord,7⟩),(42,⟨tRecord,7⟩),(50,⟨tKnow,3⟩),(51,⟨tKnow,3⟩),(52,⟨tMessage,5⟩),(53,⟨tMessage,5⟩),(56,⟨(.int .i64),0⟩),(61,⟨tref02Reader,3⟩),(62,⟨tref02Reader,3⟩),(83,⟨(.slc .str),0⟩),(84,⟨tValue,3⟩),(85,⟨tValue,3⟩),(86,⟨(.slc tUndo),0⟩),(87,⟨tOp,5⟩),(88,⟨tOp,5⟩),(119,⟨(.slc (.int .u8)),0⟩),(120,⟨tpackReader,2⟩),(121,⟨tpackReader,2⟩),(163,⟨(.int .u64),0⟩),(170,⟨(.int .u32),0⟩),(202,⟨tUndo,2⟩),(203,⟨tUndo,2⟩),(216,⟨(.slc (.int .i64)),0⟩),(235,⟨(.slc (.int .i32)),0⟩),(240,⟨(.int .i64),0⟩),(248,⟨(.int .u64),0⟩),(249,⟨(.slc (.slc tDot)),0⟩),(252,⟨(.arr 16 (.int .u32)),0⟩),(256,⟨(.int .u64),0⟩),(266,⟨(.arr 256 (.int .u8)),0⟩),(267,⟨tacceptRange,2⟩),(268,⟨tacceptRange,2⟩),(269,⟨(.arr 16 tacceptRange),0⟩),(275,⟨(.int .u8),0⟩),(276,⟨(.int .u8),0⟩),(278,⟨(.int .i32),0⟩),(279,⟨(.int .i32),0⟩)]
def pp:List Nat:=[15,16,17,60,66,157,199,260,264]
def mm:List (Nat × (Ty × Ty)):=[]
theorem tt_ok:tt.all (fun x=>tiB Tryz.prog x.1 x.2)=true:=by kernel_rfl
theorem pp_ok:pp.all (ptB Tryz.prog)=true:=by kernel_rfl
theorem mm_ok:mm.all (fun x=>mpB Tryz.prog x.1 x.2)=true:=by kernel_rfl
theorem mixed:Tryz.prog.follows .mixedOrders=true:=by kernel_rfl
def z1P.body:Go.Code:=Tryz.f119.body.getD .skip
def z1P.rs:List Go.ResultVar:=Tryz.f119.results.toList
def z1P.regs:List (Nat × RInfo):=[(0,ri [1] [1]),(1,ri [2] [])]
def z1P.cx (k:Nat):Cx:=⟨tt,pp,[],z1P.regs,k,mm⟩
@[reducible] def z1P.sg:Sg:=⟨[.dat tDot],[],.dat .bool,[]⟩
def z1P.f (k:Nat) (a0:Ty.D tDot):Option (Sg.Out z1P.sg):=Sg.fn z1P.sg (z1P.cx k) z1P.body z1P.rs a0
theorem z1P.f_eq (k:Nat) (a0:Ty.D tDot):z1P.f k a0=br (ile 0 a0.1) (br (ilt a0.1 16) (br (ile 1 a0.2) (some (ile a0.2 1048576)) (some false)) (some false)) (some false):=by kernel_rfl
def z1P.e (k:Nat):Entry:=Sg.entry z1P.sg fun x=>z1P.f k x
theorem z1P.ok (k:Nat):CallOK Tryz.prog 119 (z1P.e k):=fn_ok (c:=z1P.cx k) (code:=z1P.body) (TT.of tt_ok pp_ok mm_ok) (fns_ok trivial) mixed Tryz.func119 (by kernel_rfl) (by kernel_rfl) (by kernel_rfl) (by kernel_rfl) (by kernel_rfl) (by kernel_rfl) (fun x=>by kernel_rfl)
def z0v.body:Go.Code:=Tryz.f248.body.getD .skip
def z0v.rs:List Go.ResultVar:=Tryz.f248.results.toList
def z0v.regs:List (Nat × RInfo):=[(0,ri [0] []),(1,ri [2] [])]
def z0v.cx (k:Nat):Cx:=⟨tt,pp,[],z0v.regs,k,mm⟩
@[reducible] def z0v.sg:Sg:=⟨[.dat (.int .i64)],[],.dat .bool,[]⟩
def z0v.f (k:Nat) (a0:Ty.D (.int .i64)):Option (Sg.Out z0v.sg):=Sg.fn z0v.sg (z0v.cx k) z0v.body z0v.rs a0
theorem z0v.f_eq (k:Nat) (a0:Ty.D (.int .i64)):z0v.f k a0=some (bnot (ieq a0 a0)):=by kernel_rfl
def z0v.e (k:Nat):Entry:=Sg.entry z0v.sg fun x=>z0v.f k x
theorem z0v.ok (k:Nat):CallOK Tryz.prog 248 (z0v.e k):=fn_ok (c:=z0v.cx k) (code:=z0v.body) (TT.of tt_ok pp_ok mm_ok) (fns_ok trivial) mixed Tryz.func248 (by kernel_rfl) (by kernel_rfl) (by kernel_rfl) (by kernel_rfl) (by kernel_rfl) (by kernel_rfl) (fun x=>by kernel_rfl)
def z0n.body:Go.Code:=Tryz.f227.body.getD .skip
def z0n.rs:List Go.ResultVar:=Tryz.f227.results.toList
def z0n.regs:List (Nat × RInfo):=[(0,ri [0,1] []),(1,ri [0,1,5] [8]),(2,ri [0,1,5,6] [8,10]),(3,ri [0,1,6,11] [8,10]),(4,ri [12] [10]),(5,ri [4] []),(6,ri [4] []),(7,ri [0,1,13] [10]),(8,ri [4] []),(9,ri [0,1,16] []),(10,ri [4] []),(11,ri [19] []),(12,ri [4] []),(13,ri [4] [])]
def z0n.cx (k:Nat):Cx:=⟨tt,pp,[(248,(z0v.e k))],z0n.regs,k,mm⟩
@[reducible] def z0n.sg:Sg:=⟨[.dat (.int .i64),.dat (.int .i64)],[],.dat (.int .i64),[]⟩
def z0n.f (k:Nat) (a0:Ty.D (.int .i64)) (a1:Ty.D (.int .i64)):Option (Sg.Out z0n.sg):=Sg.fn z0n.sg (z0n.cx k) z0n.body z0n.rs (a0,a1)
theorem z0n.f_eq (k:Nat) (a0:Ty.D (.int .i64)) (a1:Ty.D (.int .i64)):z0n.f k a0 a1=bnd (z0v.f k a0) fun r0=>bnd (z0v.f k a1) fun r1=>br r0 (br r1 (some 0) (some (-1))) (br r1 (some 1) (br (ilt a0 a1) (some (-1)) (br (ilt a1 a0) (some 1) (some 0)))):=by kernel_rfl
def z0n.e (k:Nat):Entry:=Sg.entry z0n.sg fun x=>z0n.f k x.1 x.2
theorem z0n.ok (k:Nat):CallOK Tryz.prog 227 (z0n.e k):=fn_ok (c:=z0n.cx k) (code:=z0n.body) (TT.of tt_ok pp_ok mm_ok) (fns_ok ⟨(z0v.ok k),trivial⟩) mixed Tryz.func227 (by kernel_rfl) (by kernel_rfl) (by kernel_rfl) (by kernel_rfl) (by kernel_rfl) (by kernel_rfl) (fun x=>by kernel_rfl)
def z14.body:Go.Code:=Tryz.f226.body.getD .skip
def z14.rs:List Go.ResultVar:=Tryz.f226.results.toList
def z14.regs:List (Nat × RInfo):=[(0,ri [0] []),(1,ri [0,3] []),(2,ri [3,6,7,8] []),(3,⟨[3,6,7,8,9],[],[],[],0,[3,6,7,8],[],[],[],[]⟩),(4,ri [3,5,6,7,8] []),(5,ri [3,5,6,7,8,14] []),(6,ri [2] []),(7,ri [3,6,7,8] []),(8,ri [2] [])]
def z14.cx (k:Nat):Cx:=⟨tt,pp,[],z14.regs,k,mm⟩
@[reducible] def z14.sg:Sg:=⟨[.dat (.slc (.int .i64))],[],.dat (.int .i64),[]⟩
def z14.f (k:Nat) (a0:Ty.D (.slc (.int .i64))):Option (Sg.Out z14.sg):=Sg.fn z14.sg (z14.cx k) z14.body z14.rs a0
def z14.l3 (k:Nat) (n:Nat) (x3:Ty.D (.int .i64)) (x6:Ty.D (.slc (.int .i64))) (x7:Ty.D (.int .i64)) (x8:Ty.D (.int .i64)):Option (Sg.Out z14.sg):=loopAt (z14.cx k) z14.body [1,1,0,1,0] 3 [3,6,7,8] [] [] (Sg.K z14.sg (z14.cx k) z14.rs) n ⟨[(3,.dat (.int .i64) x3),(6,.dat (.slc (.int .i64)) x6),(7,.dat (.int .i64) x7),(8,.dat (.int .i64) x8)],[]⟩
theorem z14.f_eq (k:Nat) (a0:Ty.D (.slc (.int .i64))):z14.f k a0=z14.l3 k k 0 a0 (ilen a0) 0:=by kernel_rfl
theorem z14.l3_eq (k:Nat) (n3:Nat) (x3:Ty.D (.int .i64)) (x6:Ty.D (.slc (.int .i64))) (x7:Ty.D (.int .i64)) (x8:Ty.D (.int .i64)):z14.l3 k (n3+1) x3 x6 x7 x8=br (ilt x8 x7) (br (inL x8 x6) (br (bnot (ieq (rd (.int .i64) x6 (natOf x8)) x3)) (some (rd (.int .i64) x6 (natOf x8))) (z14.l3 k n3 x3 x6 x7 (iadd .i64 x8 1))) none) (some x3):=by kernel_rfl
def z14.e (k:Nat):Entry:=Sg.entry z14.sg fun x=>z14.f k x
theorem z14.ok (k:Nat):CallOK Tryz.prog 226 (z14.e k):=fn_ok (c:=z14.cx k) (code:=z14.body) (TT.of tt_ok pp_ok mm_ok) (fns_ok trivial) mixed Tryz.func226 (by kernel_rfl) (by kernel_rfl) (by kernel_rfl) (by kernel_rfl) (by kernel_rfl) (by kernel_rfl) (fun x=>by kernel_rfl)
def z0I.body:Go.Code:=Tryz.f176.body.getD .skip
def z0I.rs:List Go.ResultVar:=Tryz.f176.results.toList
def z0I.regs:List (Nat × RInfo):=[(0,ri [2,3] [2,3]),(1,rq [4] [16] 12)]
def z0I.cx (k:Nat):Cx:=⟨tt,pp,[(227,(z0n.e k)),(226,(z14.e k))],z0I.regs,k,mm⟩
@[reducible] def z0I.sg:Sg:=⟨[.dat tDot,.dat tDot],[],.dat (.int .i64),[]⟩
def z0I.f (k:Nat) (a0:Ty.D tDot) (a1:Ty.D tDot):Option (Sg.Out z0I.sg):=Sg.fn z0I.sg (z0I.cx k) z0I.body z0I.rs (a0,a1)
theorem z0I.f_eq (k:Nat) (a0:Ty.D tDot) (a1:Ty.D tDot):z0I.f k a0 a1=bnd (z0n.f k a0.1 a1.1) fun r0=>bnd (z0n.f k a0.2 a1.2) fun r1=>bnd (z14.f k (r0::(r1::[]))) fun r2=>some r2:=by kernel_rfl
def z0I.e (k:Nat):Entry:=Sg.entry z0I.sg fun x=>z0I.f k x.1 x.2
theorem z0I.ok (k:Nat):CallOK Tryz.prog 176 (z0I.e k):=fn_ok (c:=z0I.cx k) (code:=z0I.body) (TT.of tt_ok pp_ok mm_ok) (fns_ok ⟨(z0n.ok k),(z14.ok k),trivial⟩) mixed Tryz.func176 (by kernel_rfl) (by kernel_rfl) (by kernel_rfl) (by kernel_rfl) (by kernel_rfl) (by kernel_rfl) (fun x=>by kernel_rfl)
def z1N.body:Go.Code:=Tryz.f181.body.getD .skip
def z1N.rs:List Go.ResultVar:=Tryz.f181.results.toList
def z1N.regs:List (Nat × RInfo):=[(0,ri [1] [1]),(1,ri [2] [])]
def z1N.cx (k:Nat):Cx:=⟨tt,pp,[(119,(z1P.e k))],z1N.regs,k,mm⟩
@[reducible] def z1N.sg:Sg:=⟨[.dat tDot],[],.dat .bool,[]⟩
def z1N.f (k:Nat) (a0:Ty.D tDot):Option (Sg.Out z1N.sg):=Sg.fn z1N.sg (z1N.cx k) z1N.body z1N.rs a0
theorem z1N.f_eq (k:Nat) (a0:Ty.D tDot):z1N.f k a0=bnd (z1P.f k a0) fun r0=>some (bnot r0):=by kernel_rfl
def z1N.e (k:Nat):Entry:=Sg.entry z1N.sg fun x=>z1N.f k x
theorem z1N.ok (k:Nat):CallOK Tryz.prog 181 (z1N.e k):=fn_ok (c:=z1N.cx k) (code:=z1N.body) (TT.of tt_ok pp_ok mm_ok) (fns_ok ⟨(z1P.ok k),trivial⟩) mixed Tryz.func181 (by kernel_rfl) (by kernel_rfl) (by kernel_rfl) (by kernel_rfl) (by kernel_rfl) (by kernel_rfl) (fun x=>by kernel_rfl)

end Go.Proofs.YtggcagclpkhlhaaGreatDoor
end
noncomputable section
/- What the library's functions do, at dots. -/
namespace Go.Proofs.YtggcagclpkhlhaaGreatDoor
open Pal Go Go.Sort
abbrev Dot:=Int × Int
def cmpI (a b:Int):Int:=if a<b then -1 else if b<a then 1 else 0
def cmpD (a b:Dot):Int:=if cmpI a.1 b.1=0 then cmpI a.2 b.2 else cmpI a.1 b.1
theorem cmpI_is (k:Nat) (a b:Int):z0n.f k a b=some (cmpI a b):=by
 rw [z0n.f_eq,z0v.f_eq,z0v.f_eq]
 have h:∀ x:Int,bnot (ieq x x)=false:=fun x=>by simp [bnot,ieq]
 simp only [h,bnd,br_false]
 unfold cmpI
 by_cases h1:a<b
 ·simp [ilt,h1,br_true]
 ·by_cases h2:b<a
  ·simp [ilt,h1,h2,br_true,br_false]
  ·simp [ilt,h1,h2,br_false]
theorem or2 (k:Nat) (a b:Int):z14.f (k+3) (a::b::[])=some (if a=0 then b else a):=by
 have h:z14.f (k+3) (a::b::[])=br (bnot (ieq a 0)) (some a) (br (bnot (ieq b 0)) (some b) (some 0)):=by
  rw [z14.f_eq,z14.l3_eq,z14.l3_eq,z14.l3_eq];rfl
 rw [h,ieq_dec,ieq_dec,bnot_dec,bnot_dec]
 by_cases h1:a=0
 ·by_cases h2:b=0
  ·simp [h1,h2,br_false]
  ·simp [h1,h2,br_false,br_true]
 ·simp [h1,br_true]
theorem cmpD_is (k:Nat) (a b:Dot):z0I.f (k+3) a b=some (cmpD a b):=by
 rw [z0I.f_eq,cmpI_is,cmpI_is]
 simp only [bnd]
 rw [or2];rfl
abbrev dotLt:Dot→Dot→Bool:=Go.Proofs.ltOf cmpD
theorem cmpI_lt (a b:Int):cmpI a b<0 ↔ a<b:=by unfold cmpI;split <;> (try split) <;> omega
theorem cmpI_eq (a b:Int):cmpI a b=0 ↔ a=b:=by unfold cmpI;split <;> (try split) <;> omega
theorem dotLt_iff (a b:Dot):dotLt a b=true ↔ a.1<b.1∨(a.1=b.1∧a.2<b.2):=by
 show decide (cmpD a b<0)=true ↔ _
 rw [decide_eq_true_iff]
 unfold cmpD
 by_cases h:a.1=b.1
 ·rw [if_pos ((cmpI_eq _ _).2 h),cmpI_lt];omega
 ·rw [if_neg (fun e=>h ((cmpI_eq _ _).1 e)),cmpI_lt];omega
theorem dotLt_swo:SWO dotLt where
 irrefl x:=by rw [← Bool.not_eq_true,dotLt_iff];omega
 trans x y z h1 h2:=by rw [dotLt_iff] at *;omega
 ntrans x y z h1 h2:=by rw [← Bool.not_eq_true,dotLt_iff] at *;omega
theorem dotLt_tot (x y:Dot) (h1:dotLt x y=false) (h2:dotLt y x=false):x=y:=by
 rw [← Bool.not_eq_true,dotLt_iff] at h1 h2
 apply Prod.ext <;> omega
def rightD (d:Dot):Bool:=decide (0≤d.1∧d.1<16∧1≤d.2∧d.2≤1048576)
theorem right_is (k:Nat) (d:Dot):z1P.f k d=some (rightD d):=by
 rw [z1P.f_eq]
 unfold rightD
 by_cases h1:0≤d.1 <;> by_cases h2:d.1<16 <;> by_cases h3:1≤d.2 <;> by_cases h4:d.2≤1048576 <;> simp [ile,ilt,h1,h2,h3,h4,br_true,br_false]
abbrev dotKeep:Dot→Bool:=rightD
theorem f6_is:laysSortDot_ren.f 6=182:=by kernel_rfl
theorem t24_is:laysSortDot_ren.t 24=33:=by kernel_rfl
theorem aggDot (w:World):(isAgg 33).run Tryz.prog w = .ok true w:=by kernel_rfl
theorem cmp_val (x y:Dot):(z0I.e 10).val [.dat tDot x,.dat tDot y] []=some (.dat (.int .i64) (cmpD x y),[]):=by
 have h:z0I.f 10 x y=some (cmpD x y):=cmpD_is 7 x y
 have e:(z0I.e 10).val [.dat tDot x,.dat tDot y] []=bnd (z0I.f 10 x y) (fun r=>some (.dat (.int .i64) r,[])):=by kernel_rfl
 rw [e,h];rfl
theorem sortDot_ok:CallOK Tryz.prog 182 (sortE tDot 176 dotLt):=by
 have h:=sort_ok (P:=Tryz.prog) (ρ:=laysSortDot_ren) (e:=tDot) (g:=176) (ce:=z0I.e 10) (cf:=cmpD) laysSortDot rfl rfl (fun w=>by rw [t24_is];exact aggDot w) (fun w=>by rw [t24_is];exact zDot w) dotLt_swo dotLt_tot (@z0I.ok (.just True) 10) (enters_of Tryz.func176 (by kernel_rfl) rfl) (by rw [f6_is];exact enters_of Tryz.func182 (by kernel_rfl) rfl) cmp_val
 rw [f6_is] at h
 exact h
end Go.Proofs.YtggcagclpkhlhaaGreatDoor
end
noncomputable section
/- slices.DeleteFunc at dots: the walk. -/
namespace Go.Proofs.YtggcagclpkhlhaaGreatDoor
open Go.Shelf Go.RowKit Go.Lib Go.Sort

def encD (x:Int × Int):List Value:=[.int .i64 x.1,.int .i64 x.2]
def idxOf (p:Int × Int→Bool) (l:List (Int × Int)):Int:=Lib.idxBy (fun _ y=>p y) l default

theorem cell_new (w:World) (C:Array Value) (t:TypeId) (j:Nat):(w.alloc (.cells C t)).cell? ⟨w.heap.size,j,none⟩=C[j]?:=by unfold World.alloc World.cell?;simp

theorem cell_g {w:World} {a:Addr} {v:Value} {o:Obj} (h:w.cell? a=some v) (n:Nat) (os:Array Obj):(grow ((w.alloc o).drewN n) os).cell? a=some v :=
 cell_grown (by rw [World.size_alloc];exact Nat.lt_succ_of_lt (World.block_lt_of_cell? w a h)) (Lib.cell?_alloc_some o h) n os

theorem frz_g {w:World} {a:Addr} {c:Array Value} {t:TypeId} (hb:a.block<w.heap.size) (h:w.frozen? a=false) (n:Nat) (os:Array Obj):(grow ((w.alloc (.cells c t)).drewN n) os).frozen? a=false:=by
 rw [frozen?_grow _ _ _ (by show a.block<(w.alloc _).heap.size;rw [World.size_alloc];omega)]
 show (w.alloc _).frozen? a=false
 rw [frozen?_alloc_cells];exact h

section
variable {α:Type} [Inhabited α]
theorem setMany_set (enc : α → List Value) (k : Nat) (hk : ∀ x, (enc x).length = k) (d : Array α) (i : Nat) (u : α) (hi : i < d.size) :
    setMany (flatK enc k d) (i * k) (enc u) = flatK enc k (d.setIfInBounds i u) := by
  refine ext_get! (by simp) fun t ht => ?_
  have ht' : t < d.size * k := by simpa using ht
  have k0 : 0 < k := by rcases Nat.eq_zero_or_pos k with h | h; · subst h; simp at ht'
                        · exact h
  rw [get_setMany _ _ _ t (by simpa using ht'), get_flatK _ _ _ t ht', get_flatK _ _ _ t (by simpa using ht'), hk]
  by_cases a : t / k = i
  · rw [if_pos ((blk_iff k i t k0).2 a), a, getElem!_set_same d i u hi, Nat.mod_eq_sub_div_mul, a]
  · rw [if_neg (fun h => a ((blk_iff k i t k0).1 h)), getElem!_set_other d i (t / k) u a]

theorem swk_set {enc:α→List Value} {k:Nat} {w0 W:World} {blk off:Nat} {dk:Array α} (h:SWK enc k w0 blk off dk W) (hk:∀ x,(enc x).length=k) (hblk:blk<w0.heap.size) (i:Nat) (u:α) (hi:i<dk.size) :
  SWK enc k w0 blk off (dk.setIfInBounds i u) (W.setCells blk (off+i * k) (enc u)):=by
 obtain ⟨n,os,rfl⟩:=h
 refine ⟨n,os,?_⟩
 have hb:i * k+k≤dk.size * k:=by
  have:=Nat.mul_le_mul_right k (show i+1≤dk.size from hi);rwa [Nat.add_mul,Nat.one_mul] at this
 unfold sortWorldK
 rw [← putRowK_grow enc k (Sort.ahead w0 n) os blk off dk hblk,← putRowK_grow enc k (Sort.ahead w0 n) os blk off _ hblk]
 unfold putRowK
 rw [setCells_putRow _ _ _ _ _ _ (by rw [hk,size_flatK];exact hb),setMany_set enc k hk dk i u hi]

theorem setCells_app (b:Nat):∀ (xs ys:List Value) (o:Nat) (w:World),w.setCells b o (xs++ys)=(w.setCells b o xs).setCells b (o+xs.length) ys
 | [],ys,o,w=>rfl
 | x::xs,ys,o,w=>by
  show (w.setCell ⟨b,o,none⟩ x).setCells b (o+1) (xs++ys)=_
  rw [setCells_app b xs ys (o+1) _,show o+(x::xs).length=o+1+xs.length by simp;omega];rfl

theorem swk_lay {enc:α→List Value} {k:Nat} {w0:World} {blk off:Nat} (hk:∀ x,(enc x).length=k) (hblk:blk<w0.heap.size):∀ (xs:List α) (i:Nat) (dk:Array α) (W:World),SWK enc k w0 blk off dk W→i+xs.length≤dk.size →
  SWK enc k w0 blk off (Lib.lay dk i xs) (W.setCells blk (off+i * k) (xs.flatMap enc))
 | [],_,_,_,h,_=>h
 | x::r,i,dk,W,h,hl=>by
  have hl':i+(r.length+1)≤dk.size:=by simpa using hl
  rw [List.flatMap_cons,setCells_app,hk,Nat.add_assoc,show i * k+k=(i+1) * k by rw [Nat.add_mul,Nat.one_mul]]
  exact swk_lay hk hblk r (i+1) _ _ (swk_set h hk hblk i x (by omega)) (by simp;omega)
end

theorem zeros2:∀ n,(List.replicate n (0,0):List (Int × Int)).flatMap encD=List.replicate (n * 2) (.int .i64 0)
 | 0=>rfl
 | n+1=>by
  rw [List.replicate_succ,List.flatMap_cons,zeros2 n,Nat.add_mul,Nat.one_mul]
  rfl

theorem run_clear2 {P:Program} (w:World) (t e ty:TypeId) (ht:P.underlying t=some (.slice e)) (hv:∀ w,(zeroValue e).run P w = .ok (.agg #[.int .i64 0,.int .i64 0]) w) (b o n c:Nat) (hn:0<n)
  (hc:∀ j,j<n * 2→(w.cell? ⟨b,o+j,none⟩).isSome=true) (hf:∀ j,j<n * 2→w.frozen? ⟨b,o+j,none⟩=false) :
  (Builtin.clear_ #[t] ty #[.slice (some ⟨b,o,none⟩) n c]).run P w = .ok (.tuple #[]) (w.setCells b o (List.replicate (n * 2) (.int .i64 0))):=by
 have hzc:(Builtin.zeroCells (Value.agg #[.int .i64 0,.int .i64 0]).cells n).toList=List.replicate (n * 2) (.int .i64 0):=by
  apply List.ext_getElem
  ·simp [Builtin.zeroCells,Value.cells]
  ·intro i h1 h2
   have:i % 2=0∨i % 2=1:=by omega
   rcases this with h | h <;> simp [Builtin.zeroCells,Value.cells,h]
 have hst:=run_storeCells_cells (P:=P) b o (List.replicate (n * 2) (.int .i64 0)) 0 w (by simpa using hc) (by simpa using hf) (by intro v hv';rw [List.eq_of_mem_replicate hv'];rfl)
 simp only [Nat.add_zero] at hst
 obtain ⟨m,rfl⟩:∃ m,n=m+1:=⟨n - 1,by omega⟩
 simp [Builtin.clear_,run_underlying ht,hv,hzc,hst]

def GrownOf (w w':World):Prop:=∃ q os,w'=grow (w.drewN q) os
theorem GrownOf.refl (w:World):GrownOf w w:=⟨0,#[],(grow_empty _).symm⟩
theorem GrownOf.grown {w w':World} (h:GrownOf w w') (q:Nat) (os:Array Obj):GrownOf w (grow (w'.drewN q) os):=by
 obtain ⟨q0,os0,rfl⟩:=h
 exact ⟨q0+q,os0++os,by rw [← grow_grow];unfold grow World.drewN;simp [Nat.add_assoc]⟩
theorem holds_grown {w w':World} {blk off:Nat} {d:Array (Int × Int)} (hH:HoldsK encD 2 w blk off d) (hblk:blk<w.heap.size) (h:GrownOf w w'):HoldsK encD 2 w' blk off d:=by
 obtain ⟨q,os,rfl⟩:=h
 exact holdsK_grow encD 2 _ os blk off d hblk (holdsK_ahead encD 2 w q blk off d hH)

set_option maxHeartbeats 4000000 in
set_option maxRecDepth 1000000 in
theorem idx_walk (p:Int × Int→Bool) (blk off cap:Nat) (d:Array (Int × Int)) (w:World) (hH:HoldsK encD 2 w blk off d) (hblk:blk<w.heap.size) (hsz:d.size≤4294967296)
  (hcl:∀ (W:World) x,Calls Tryz.prog 181 #[.agg (encD x).toArray] W fun e w'=>e = .returned (.bool (p x))∧∃ q os,w'=grow (W.drewN q) os) :
  Calls Tryz.prog 178 #[.slice (some ⟨blk,off,none⟩) d.size cap,.func (.func 181) #[] #[]] w fun e w'=>e = .returned (.int .i64 (idxOf p d.toList))∧∃ q os,w'=grow (w.drewN q) os:=by
 have e63:∀ args w,(callFunc 181 args).run Tryz.prog w = .ok (.enter 181 args) w:=enters_of Tryz.func181 (by kernel_rfl) rfl
 have tl:∀ j,j<d.size→d.toList[j]! = d[j]!:=fun j hj=>by rw [getElem!_pos d j hj,getElem!_pos d.toList j (by simpa using hj)];simp
 have HH:Aside (HoldsK encD 2 w blk off d):=hH
 have HC:Aside _:=hcl
 have HT:Aside _:=tl
 have htk:Aside (d.toList.take d.size=d.toList):=List.take_of_length_le (by simp)
 clear hH hcl tl
 go_enter Tryz.func178,Tryz.ntmps178
 go_wp2
 go_loopg [5,8] d.size (fun gg _ s8 wr=>∃ kk:Nat,kk≤d.size∧d.size - kk≤gg∧s8 = .int .i64 kk∧Aside (GrownOf w wr)∧Aside (∀ j,j<kk→p d.toList[j]! = false))
 case atStart=>exact ⟨0,Nat.zero_le _,by omega,rfl,GrownOf.refl w,fun j hj=>absurd hj (Nat.not_lt_zero _)⟩
 case round =>
  obtain ⟨kk,hkk,hg,rfl,W2,A⟩:=hrel
  by_cases hlt:kk<d.size
  ·have hltz:(kk:Int)<(d.size:Int):=by omega
   have hHold:=holds_grown HH.out hblk W2.out
   have cj0:=(hHold (kk * 2) (by rw [size_flatK];omega)).1
   have cj1:=(hHold (kk * 2+1) (by rw [size_flatK];omega)).1
   rw [get_flatK _ _ _ _ (by omega)] at cj0 cj1
   rw [show kk * 2 / 2=kk by omega,show kk * 2 % 2=0 by omega] at cj0
   rw [show (kk * 2+1) / 2=kk by omega,show (kk * 2+1) % 2=1 by omega,← Nat.add_assoc] at cj1
   obtain ⟨u,hu⟩:∃ u,d[kk]! = u:=⟨_,rfl⟩
   rw [hu] at cj0 cj1
   have C:Aside (d.toList[kk]! = u):=(HT.out kk hlt).trans hu
   clear hu hHold
   obtain ⟨u1,u2⟩:=u
   have cj0:wr.cell? ⟨blk,off+kk * 2,none⟩=some (.int .i64 u1):=cj0
   have cj1:wr.cell? ⟨blk,off+kk * 2+1,none⟩=some (.int .i64 u2):=cj1
   have hcall:∀ W,Calls Tryz.prog 181 #[.agg #[.int .i64 u1,.int .i64 u2]] W fun e w'=>e = .returned (.bool (p (u1,u2)))∧∃ q os,w'=grow (W.drewN q) os:=fun W=>HC.out W (u1,u2)
   cases hq:p (u1,u2) with
   | true =>
    rw [hq] at hcall
    go_wp2_with (go_at_call 181;refine (hcall _).mono ?_;rintro e w' ⟨rfl,qq,oss,rfl⟩)
    go_ret
    refine ⟨?_,W2.out.grown qq oss⟩
    have:=Lib.idxBy_hit (fun _ y=>p y) d.toList d.size kk default hlt (by simp) (by show p d.toList[kk]! = true;rw [C.out];exact hq) A.out
    rw [htk.out] at this
    unfold idxOf;rw [this];rfl
   | false =>
    rw [hq] at hcall
    go_wp2_with (go_at_call 181;refine (hcall _).mono ?_;rintro e w' ⟨rfl,qq,oss,rfl⟩)
    go_roundg (d.size - (kk+1))
    case measure=>omega
    case rel =>
     refine ⟨kk+1,by omega,by omega,by go_num,(show Aside _ from W2.out.grown qq oss),(show Aside _ from fun j hj=>?_)⟩
     by_cases e:j=kk
     ·subst e
      rw [C.out];exact hq
     ·exact A.out j (by omega)
  ·have hltz:¬ (kk:Int)<(d.size:Int):=by omega
   have:kk=d.size:=by omega
   subst this
   go_wp2
   go_ret
   refine ⟨?_,W2.out⟩
   have:=Lib.idxBy_miss (fun _ y=>p y) d.toList d.size default A.out
   rw [htk.out] at this
   unfold idxOf;rw [this];rfl

set_option maxHeartbeats 4000000 in
set_option maxRecDepth 1000000 in
theorem idx_none (a:Option Addr) (c:Nat) (fv:Value) (w:World) :
  Calls Tryz.prog 178 #[.slice a 0 c,fv] w fun e w'=>e = .returned (.int .i64 (-1))∧w'=w:=by
 go_enter Tryz.func178,Tryz.ntmps178
 go_wp2
 go_loopg [5,8] 0 (fun _ _ s8 wr=>s8 = .int .i64 0∧wr=w)
 case atStart=>exact ⟨rfl,rfl⟩
 case round =>
  obtain ⟨rfl,rfl⟩:=hrel
  go_wp2
  go_ret
  exact ⟨rfl,rfl⟩

set_option maxHeartbeats 4000000 in
set_option maxRecDepth 1000000 in
theorem del_none (a:Option Addr) (c:Nat) (w:World) :
  Calls Tryz.prog 180 #[.slice a 0 c,.func (.func 181) #[] #[]] w fun e w'=>e = .returned (.slice a 0 c)∧w'=w:=by
 have e109:∀ args w,(callFunc 178 args).run Tryz.prog w = .ok (.enter 178 args) w:=enters_of Tryz.func178 (by kernel_rfl) rfl
 go_enter Tryz.func180,Tryz.ntmps180
 go_wp2_with (go_at_call 178;refine (idx_none a c _ _).mono ?_;rintro e w' ⟨rfl,rfl⟩)
 go_ret
 exact ⟨rfl,rfl⟩

set_option maxHeartbeats 4000000 in
set_option maxRecDepth 1000000 in
theorem del_walk (p:Int × Int→Bool) (blk off cap:Nat) (d:Array (Int × Int)) (w:World) (hH:HoldsK encD 2 w blk off d) (hblk:blk<w.heap.size) (hsz:d.size≤4294967296) (hcap:d.size≤cap)
  (hcl:∀ (W:World) x,Calls Tryz.prog 181 #[.agg (encD x).toArray] W fun e w'=>e = .returned (.bool (p x))∧∃ q os,w'=grow (W.drewN q) os)
  (hIF:Calls Tryz.prog 178 #[.slice (some ⟨blk,off,none⟩) d.size cap,.func (.func 181) #[] #[]] w fun e w'=>e = .returned (.int .i64 (idxOf p d.toList))∧∃ q os,w'=grow (w.drewN q) os) :
  Calls Tryz.prog 180 #[.slice (some ⟨blk,off,none⟩) d.size cap,.func (.func 181) #[] #[]] w fun e w' =>
   e = .returned (.slice (some ⟨blk,off,none⟩) (d.toList.filter fun x=>!p x).length cap)∧SWK encD 2 w blk off ((d.toList.filter fun x=>!p x)++List.replicate (d.size - (d.toList.filter fun x=>!p x).length) (0,0)).toArray w':=by
 have e109:∀ args w,(callFunc 178 args).run Tryz.prog w = .ok (.enter 178 args) w:=enters_of Tryz.func178 (by kernel_rfl) rfl
 have e63:∀ args w,(callFunc 181 args).run Tryz.prog w = .ok (.enter 181 args) w:=enters_of Tryz.func181 (by kernel_rfl) rfl
 have hk:∀ x,(encD x).length=2:=fun _=>rfl
 have h1:∀ x,∀ v ∈ encD x,v.oneCell'=true:=fun x v hv=>by simp [encD] at hv;rcases hv with rfl | rfl <;> rfl
 have R:RowK encD 2 w blk off d:=⟨hk,h1,hH,hblk⟩
 have hst:SWK encD 2 w blk off d w:=⟨0,#[],by unfold sortWorldK;rw [grow_empty];exact (putRowK_self encD 2 w blk off d hH).symm⟩
 have tl:∀ j,j<d.size→d.toList[j]! = d[j]!:=fun j hj=>by rw [getElem!_pos d j hj,getElem!_pos d.toList j (by simpa using hj)];simp
 obtain ⟨kp,HK⟩:∃ kp:Nat→Bool,Hid (kp=fun j=>!p d[j]!):=⟨_,rfl⟩
 have hfil:(d.toList.filter fun x=>!p x)=keptUpTo kp d d.size:=by rw [HK.out];exact (keptUpTo_filter (fun x=>!p x) d).symm
 rw [hfil]
 rcases idxByFrom_spec (fun _ y=>p y) (default:Int × Int) d.toList 0 with ⟨e1,hall⟩ | ⟨k0,hk0,e1,ht,hall⟩
 ·have e2:idxOf p d.toList=-1:=e1
  rw [e2] at hIF
  have hkeep:∀ j,j<d.size→kp j=true:=fun j hj=>by rw [HK.out];show (!p d[j]!)=true;rw [← tl j hj,hall j (by simpa using hj)];rfl
  have e3:keptUpTo kp d d.size=d.toList:=by rw [keptUpTo_all kp d _ hkeep,range_map_get]
  have HS:Aside (SWK encD 2 w blk off d w):=hst
  clear hH hst hcl R
  go_enter Tryz.func180,Tryz.ntmps180
  go_wp2_with (go_at_call 178;refine hIF.mono ?_;rintro e w' ⟨rfl,q0,os0,rfl⟩)
  go_ret
  rw [e3]
  refine ⟨by simp,?_⟩
  simp only [Array.length_toList,Nat.sub_self,List.replicate_zero,List.append_nil,Array.toArray_toList]
  exact HS.out.grown q0 os0
 ·have hk0':k0<d.size:=by simpa using hk0
  have e2:idxOf p d.toList=(k0:Int):=by unfold idxOf Lib.idxBy;rw [e1];simp
  rw [e2] at hIF
  have hkeep:∀ j,j<k0→kp j=true:=fun j hj=>by rw [HK.out];show (!p d[j]!)=true;rw [← tl j (by omega),hall j hj];rfl
  have hdrop:kp k0=false:=by rw [HK.out];show (!p d[k0]!)=false;rw [← tl k0 hk0'];rw [show p d.toList[k0]! = true from ht];rfl
  have hne1:((k0:Int) == -1)=false:=beq_eq_false_iff_ne.2 (by omega)
  have HC:Aside _:=hcl
  have HS:Aside (SWK encD 2 w blk off d w):=hst
  have HR:Aside (RowK encD 2 w blk off d):=R
  clear hH hst hcl R hall ht e1 e2 tl hk h1
  go_enter Tryz.func180,Tryz.ntmps180
  go_wp2_with (go_at_call 178;refine hIF.mono ?_;rintro e w' ⟨rfl,q0,os0,rfl⟩)
  go_loopg [5,6,7] d.size (fun gg s5 s6 _ wr=>∃ (i j:Nat) (dk:Array (Int × Int)),s5 = .int .i64 i∧s6 = .int .i64 j∧j≤d.size∧d.size - j≤gg∧Aside (SWK encD 2 w blk off dk wr)∧Aside (KeptInv kp d j i dk))
  case atStart=>exact ⟨k0,k0+1,d,rfl,by go_num,by omega,by omega,HS.out.grown q0 os0,KeptInv.start hkeep hdrop⟩
  case round =>
   obtain ⟨i,j,dk,rfl,rfl,hjd,hgg,W2,I2⟩:=hrel
   have hij:=I2.out.lt
   have hds:=I2.out.size
   by_cases hlt:j<d.size
   ·have hltz:(j:Int)<(d.size:Int):=by omega
    have hHold:HoldsK encD 2 wr blk off dk:=W2.out.holds hblk HR.out.hH hds
    have cel:∀ x,x<dk.size→(wr.cell? ⟨blk,off+x * 2,none⟩=some (.int .i64 dk[x]!.1)∧wr.cell? ⟨blk,off+x * 2+1,none⟩=some (.int .i64 dk[x]!.2))∧wr.frozen? ⟨blk,off+x * 2,none⟩=false∧wr.frozen? ⟨blk,off+x * 2+1,none⟩=false:=by
     intro x hx
     have g0:=hHold (x * 2) (by simp;omega)
     have g1:=hHold (x * 2+1) (by simp;omega)
     rw [get_flatK _ _ _ _ (by omega)] at g0 g1
     have d0:x * 2 / 2=x:=by omega
     have d1:(x * 2+1) / 2=x:=by omega
     have m0:x * 2 % 2=0:=by omega
     have m1:(x * 2+1) % 2=1:=by omega
     rw [d0,m0] at g0;rw [d1,m1] at g1
     rw [← Nat.add_assoc] at g1
     exact ⟨⟨g0.1,g1.1⟩,g0.2,g1.2⟩
    obtain ⟨⟨cj0,cj1⟩,_,_⟩:=cel j (by omega)
    obtain ⟨⟨ci0,ci1⟩,fi0,fi1⟩:=cel i (by omega)
    rw [I2.out.high j (by omega)] at cj0 cj1
    obtain ⟨u,hu⟩:∃ u,d[j]! = u:=⟨_,rfl⟩
    rw [hu] at cj0 cj1
    have C:Aside (d[j]! = u):=hu
    clear hu hHold cel
    obtain ⟨u1,u2⟩:=u
    simp only at cj0 cj1
    generalize dk[i]!.1=o1 at ci0
    generalize dk[i]!.2=o2 at ci1
    have hblk':blk<wr.heap.size:=World.block_lt_of_cell? wr _ cj0
    have hcall:∀ W,Calls Tryz.prog 181 #[.agg #[.int .i64 u1,.int .i64 u2]] W fun e w'=>e = .returned (.bool (p (u1,u2)))∧∃ q os,w'=grow (W.drewN q) os:=fun W=>HC.out W (u1,u2)
    have hne:¬ (blk=wr.heap.size):=by omega
    have hnew0:∀ n os,(grow ((wr.alloc (.cells #[.int .i64 u1,.int .i64 u2] 33)).drewN n) os).cell? ⟨wr.heap.size,0,none⟩=some (.int .i64 u1):=fun n os=>cell_grown (by simp) (by rw [cell_new];rfl) n os
    have hnew1:∀ n os,(grow ((wr.alloc (.cells #[.int .i64 u1,.int .i64 u2] 33)).drewN n) os).cell? ⟨wr.heap.size,1,none⟩=some (.int .i64 u2):=fun n os=>cell_grown (by simp) (by rw [cell_new];rfl) n os
    have gi0:∀ n os,(grow ((wr.alloc (.cells #[.int .i64 u1,.int .i64 u2] 33)).drewN n) os).cell? ⟨blk,off+i * 2,none⟩=some (.int .i64 o1):=fun n os=>cell_g ci0 n os
    have gf0:∀ n os,(grow ((wr.alloc (.cells #[.int .i64 u1,.int .i64 u2] 33)).drewN n) os).frozen? ⟨blk,off+i * 2,none⟩=false:=fun n os=>frz_g hblk' fi0 n os
    have gi1:∀ n os v,((grow ((wr.alloc (.cells #[.int .i64 u1,.int .i64 u2] 33)).drewN n) os).setCell ⟨blk,off+i * 2,none⟩ v).cell? ⟨blk,off+i * 2+1,none⟩=some (.int .i64 o2):=fun n os v=>by rw [World.cell?_setCell_other _ _ _ _ (by intro h;injection h;omega)];exact cell_g ci1 n os
    have gf1:∀ n os v,((grow ((wr.alloc (.cells #[.int .i64 u1,.int .i64 u2] 33)).drewN n) os).setCell ⟨blk,off+i * 2,none⟩ v).frozen? ⟨blk,off+i * 2+1,none⟩=false:=fun n os v=>by rw [World.frozen?_setCell];exact frz_g hblk' fi1 n os
    cases hq:p (u1,u2) with
    | false =>
     rw [hq] at hcall
     go_wp2_with (go_at_call 181;refine (hcall _).mono ?_;rintro e w' ⟨rfl,qq,oss,rfl⟩)
     go_roundg (d.size - (j+1))
     case measure=>omega
     case rel =>
      refine ⟨i+1,j+1,dk.setIfInBounds i (u1,u2),by go_num,by go_num,by omega,Nat.le_refl _,(show Aside _ from ?_),(show Aside _ from ?_)⟩
      ·exact swk_set ((W2.out.alloc _).grown qq oss) HR.out.hk HR.out.hblk i (u1,u2) (by omega)
      ·have:=I2.out.keep hlt (by rw [HK.out];show (!p d[j]!)=true;rw [C.out,hq];rfl)
       rwa [C.out] at this
    | true =>
     rw [hq] at hcall
     go_wp2_with (go_at_call 181;refine (hcall _).mono ?_;rintro e w' ⟨rfl,qq,oss,rfl⟩)
     go_roundg (d.size - (j+1))
     case measure=>omega
     case rel=>exact ⟨i,j+1,dk,rfl,by go_num,by omega,Nat.le_refl _,(W2.out.alloc _).grown qq oss,I2.out.skip (by rw [HK.out];show (!p d[j]!)=false;rw [C.out,hq];rfl)⟩
   ·obtain rfl:j=d.size:=by omega
    have hltz:¬ (d.size:Int)<(d.size:Int):=by omega
    have hHold:HoldsK encD 2 wr blk off dk:=W2.out.holds hblk HR.out.hH hds
    have hcel:∀ t,t<(d.size - i) * 2→wr.cell? ⟨blk,off+i * 2+t,none⟩=some (flatK encD 2 dk)[i * 2+t]!∧wr.frozen? ⟨blk,off+i * 2+t,none⟩=false:=fun t ht=>by
     rw [Nat.add_assoc];exact hHold (i * 2+t) (by rw [size_flatK];omega)
    have hcl:∀ ty,(Builtin.clear_ #[26] ty #[.slice (some ⟨blk,off+i * 2,none⟩) (d.size - i) (cap - i)]).run Tryz.prog wr = .ok (.tuple #[]) (wr.setCells blk (off+i * 2) ((List.replicate (d.size - i) (0,0)).flatMap encD)):=by
     intro ty
     rw [zeros2]
     exact run_clear2 wr 26 33 ty (by rfl) (fun w=>by rfl) blk (off+i * 2) (d.size - i) (cap - i) (by omega) (fun t ht=>by rw [(hcel t ht).1];rfl) (fun t ht=>(hcel t ht).2)
    clear hHold hcel
    go_wp2
    go_ret
    have hI:=I2.out
    refine ⟨by rw [hI.len];rfl,?_⟩
    rw [hI.len,← hI.done (0,0)]
    exact swk_lay HR.out.hk HR.out.hblk _ i dk wr W2.out (by simp;omega)
end Go.Proofs.YtggcagclpkhlhaaGreatDoor
end
noncomputable section
/- slices.DeleteFunc at dots: its contract. -/
namespace Go.Proofs.YtggcagclpkhlhaaGreatDoor.Pal
open Go Go.Sort
theorem swk_raw {G:Gh} {w w':World} {e:Ty} {gb len cap:Nat} {xs ys:List e.D} {X:Nat→Nat→Prop} (hp:plainT e=true) (hraw:RawB G.I w gb e xs (cap * e.cells)) (hcap:len≤cap∧cap≤9223372036854775807) (hI:∀ o,G.I gb o=none) (hO:∀ o,G.O gb o=none) (hW:Wf G w) (hX:∀ o,X gb o)
  {dk:Array e.D} (hs:dk.size=len) (hpre:∀ (j:Nat) (x:e.D),ys[j]? = some x→dk[j]? = some x) (h:SWK (encT e) e.cells w gb 0 xs.toArray w∧SWK (encT e) e.cells w gb 0 dk w') :
  Ev X G w G w'∧Wf G w'∧RawRep G w' e ys [.slice (some ⟨gb,0,none⟩) ys.length cap] [gb]:=by
 obtain ⟨_,n,os,rfl⟩:=h
 obtain ⟨cells,ty,cc,hgc,hcs,hA2,hcc⟩:=hraw
 obtain ⟨k1,k2,k3⟩:=heap_put (F:=flatK (encT e) e.cells dk) hgc n os
 have hyl:ys.length≤len:=by
  rcases Nat.lt_or_ge len ys.length with h | h
  ·have:=hpre len _ (List.getElem?_eq_getElem h)
   have:=(Array.getElem?_eq_some_iff.1 this).1
   omega
  ·exact h
 have hE:Evo X w (sortWorldK (encT e) e.cells w gb 0 n dk os):=by
  refine ⟨rfl,rfl,rfl,k3,fun b hb=>?_,fun _=>Nat.le_add_right _ _⟩
  by_cases hb':b=gb
  ·subst hb'
   exact .inr (.inl ⟨cells,_,ty,(0,0),hgc,k1,by simp [putCells],fun j hj=>absurd (hX j) hj⟩)
  ·exact .inl (k2 b hb hb')
 refine ⟨⟨hE,Im.le_refl _,fun _ _ _ h=>.inl h,fun _ _ _=>rfl⟩,⟨fun b o v hv=>?_,hW.io,fun b o k h=>Nat.lt_of_lt_of_le (hW.lt b o k h) hE.size⟩,?_⟩
 ·have hb':b ≠ gb:=fun e=>by subst e;rw [hI o] at hv;cases hv
  have hh:=hW.holds b o v hv
  have hlt':=World.block_lt_of_cell? w _ hh
  have:(sortWorldK (encT e) e.cells w gb 0 n dk os).cell? ⟨b,o,none⟩=w.cell? ⟨b,o,none⟩:=World.cell?_of_block (w:=w) (k2 b hlt' hb')
  rw [this];exact hh
 ·refine ⟨_,ys.length,cap,rfl,rfl,by omega,.inr ⟨gb,rfl,rfl,⟨_,ty,_,k1,by simp [putCells,hcs],(all2_flat hp _ _).2 rfl,fun j v hj=>?_⟩,hI,hO⟩⟩
  have hjl:j<ys.length * e.cells:=by
   have:=(List.getElem?_eq_some_iff.1 hj).1
   rwa [flatMap_len hp] at this
  obtain ⟨x,q1,q2⟩:=flatMap_get hp _ j hjl
  rw [q2] at hj
  have hjd:j<dk.size * e.cells:=by rw [hs];exact Nat.lt_of_lt_of_le hjl (Nat.mul_le_mul_right _ hyl)
  have hjc:j<cells.size:=by
   rw [hcs]
   exact Nat.lt_of_lt_of_le hjd (Nat.mul_le_mul_right _ (by omega))
  have hx:dk[j / e.cells]! = x:=by
   have:=hpre _ _ q1
   rw [Array.getElem!_eq_getD,Array.getD_eq_getD_getElem?,this];rfl
  have hm:=(List.getElem?_eq_some_iff.1 hj)
  simp only [putCells,Array.getElem?_mapIdx,Array.getElem?_eq_getElem hjc,Option.map_some,size_flatK,Nat.zero_add,Nat.sub_zero]
  rw [if_pos ⟨Nat.zero_le _,hjd⟩,get_flatK _ _ _ _ hjd,hx,getElem!_pos (encT e x) (j % e.cells) hm.1]
  exact congrArg some hm.2

abbrev dotT:Ty:=.pair (.int .i64) (.int .i64)
theorem del_ok {ce : Entry} {keep : Int × Int → Bool} (hg : @CallOK (.just True) Tryz.prog 181 ce) (hcf : ∀ x : dotT.D, ce.val [.dat dotT x] [] = some (.dat .bool (!keep x), [])) : CallOK Tryz.prog 180 (delE dotT 181 keep) := by
  have e61 : ∀ args w, (callFunc 180 args).run Tryz.prog w = .ok (.enter 180 args) w := enters_of Tryz.func180 (by kernel_rfl) rfl
  have e63 : ∀ args w, (callFunc 181 args).run Tryz.prog w = .ok (.enter 181 args) w := enters_of Tryz.func181 (by kernel_rfl) rfl
  have val : ∀ args objs v os, (delE dotT 181 keep).val args objs = some (v, os) → ∃ xs : List dotT.D, args = [.raw dotT xs, .fn 181 []] ∧ objs = [] ∧ xs.length ≤ 4294967296 ∧ v = .raw dotT (kept keep xs) ∧ os = [] := by
    intro args objs v os h
    unfold Entry.val delE at h
    simp only at h
    split at h
    · rename_i e' xs g'
      split at h
      · rename_i he; subst he
        obtain ⟨hb, h⟩ := cond_then h
        obtain ⟨hr, h⟩ := br_then h
        injection h with h; injection h with h1 h2
        have := beq_nat.1 hb
        subst this
        exact ⟨xs, rfl, rfl, by have := hr; simp only [room, List.length_nil, Nat.zero_add, decide_eq_true_eq] at this; exact this, h1.symm, h2.symm⟩
      · cases h
    · cases h
  refine ⟨fun α args objs K => ?_, fun args objs vr os hval X G w argv tA tM hW hTab hX hA hM hcnt htok => ?_⟩
  · unfold Entry.val delE
    simp only
    split
    · split
      · rw [cond_bind]; congr 1
        rw [br_bind]; rfl
      · rfl
    · rfl
  · obtain ⟨xs, rfl, rfl, hlen, rfl, rfl⟩ := val _ _ _ _ hval
    obtain ⟨x0, r0, t1, t2, rfl, rfl, ⟨cs, ⟨ad, len, cap, e1, e2, e3, e4⟩, hx⟩, x1, r1, t3, t4, rfl, rfl, ⟨cs1, ⟨cv, f1, f2, f3⟩, hx1⟩, rfl, rfl⟩ := hA
    simp only [V.agg, Bool.false_eq_true, if_false] at hx hx1
    rw [e1] at hx; rw [f1] at hx1
    simp only [List.cons.injEq, and_true] at hx hx1
    subst hx; subst hx1; subst f3
    have hcv : cv = #[] := by apply Array.ext'; simpa [capsRep] using f2
    subst hcv
    obtain ⟨hM1, hM2⟩ : tM = [] ∧ True := ⟨hM, trivial⟩
    have post : ∀ w' len', Ev X G w G w' → Wf G w' → RawRep G w' dotT (kept keep xs) [.slice ad len' cap] t1 →
        ∃ G', Post X G w 0 (.raw dotT (kept keep xs)) [] (.slice ad len' cap) (some (.slice ad len cap)) G' w' := by
      intro w' len' hE hc hr
      refine ⟨G, hE, hc, fun _ _ => rfl, t1, [], [], ⟨_, hr, rfl⟩, rfl, rfl, fun q => ?_, fun q hq => ?_⟩
      · have := hcnt q; simp at this ⊢; omega
      · exact .inr (htok q (by simp at hq ⊢; omega))
    refine .inl ⟨e61 _ _, ?_⟩
    rcases Nat.eq_zero_or_pos len with h0 | h0
    · have hxs : xs = [] := List.eq_nil_of_length_eq_zero (by omega)
      subst hxs; subst h0
      refine Calls.mono (del_none ad cap w) fun e' w' hh => ?_
      obtain ⟨rfl, rfl⟩ := hh
      exact post w' 0 (Ev.refl _ _ _) hW ⟨ad, 0, cap, rfl, rfl, e3, e4⟩
    · rcases e4 with ⟨hc0, _⟩ | ⟨gb, rfl, rfl, hraw, hI, hO'⟩
      · omega
      · obtain ⟨hH, hlt⟩ := holds_raw (e := dotT) rfl hraw
        have hsz : xs.toArray.size = len := by simpa using e2
        have hcl : ∀ (W : World) (x : Int × Int), Calls Tryz.prog 181 #[.agg (encD x).toArray] W fun e w' => e = .returned (.bool (!keep x)) ∧ ∃ q os, w' = grow (W.drewN q) os := by
          intro W x
          refine Calls.mono (plain_call (w := W) (argv := [.agg (encT dotT x).toArray]) hg e63 (hcf x) (fun G => ⟨_, _, [], [], rfl, rfl, run_dat dotT rfl rfl _ _ x, rfl, rfl⟩)) fun e' w' hh => ?_
          obtain ⟨⟨G', y, t, h1, h2⟩, h3⟩ := hh
          exact ⟨by rw [h1, h2.dat_bool], h3⟩
        have hIF := idx_walk (fun x => !keep x) gb 0 cap xs.toArray w hH hlt (by rw [hsz]; omega) hcl
        have hcon := del_walk (fun x => !keep x) gb 0 cap xs.toArray w hH hlt (by rw [hsz]; omega) (by rw [hsz]; exact e3.1) hcl hIF
        rw [hsz] at hcon
        have hk : (xs.toArray.toList.filter fun x => !(!keep x)) = kept keep xs := by simp [kept]
        rw [hk] at hcon
        refine Calls.mono hcon fun e' w' hh => ?_
        obtain ⟨rfl, hsw⟩ := hh
        have hkl : (kept keep xs).length ≤ len := by rw [← e2]; exact List.length_filter_le _ _
        have hone : cnt gb [gb] = 1 := by simp [cnt]
        have hX1 : ∀ o, X gb o := htok gb (by simp only [cnt_append]; omega)
        obtain ⟨q1, q2, q3⟩ := swk_raw (X := X) (e := dotT) (ys := kept keep xs) rfl hraw e3 hI hO' hW hX1 (by simp; omega) (fun j x hj => by
          rw [List.getElem?_toArray, List.getElem?_append_left (List.getElem?_eq_some_iff.1 hj).1]; exact hj) ⟨SWK.start hH, hsw⟩
        exact post w' _ q1 q2 q3
end Go.Proofs.YtggcagclpkhlhaaGreatDoor.Pal
end
noncomputable section
/- What slices.DeleteFunc does, at dots. -/
namespace Go.Proofs.YtggcagclpkhlhaaGreatDoor
open Pal Go Go.Sort
theorem delDot_ok:CallOK Tryz.prog 180 (delE tDot 181 dotKeep):=by
 refine del_ok (ce:=z1N.e 10) (@z1N.ok (.just True) 10) ?_
 intro x
 show bnd (z1N.f 10 x) _=_
 rw [z1N.f_eq,right_is];rfl
end Go.Proofs.YtggcagclpkhlhaaGreatDoor
end
noncomputable section
/- Where strings.Builder's WriteByte and String and what they call lie in this program. -/
namespace Go.Proofs.YtggcagclpkhlhaaGreatDoor
open Go.Proofs
open Go.Shelf
def bld_ren:Go.Shelf.Ren:=⟨fun | 167=>142 | 169=>143 | 240=>193 | 276=>237 | _=>0,fun | 0=>0 | 3=>3 | 4=>4 | 5=>5 | 9=>9 | 20=>20 | 37=>119 | 70=>157 | 72=>159 | 75=>161 | 80=>164 | 127=>199 | 164=>229 | _=>0,fun _=>0⟩
theorem laysWB:Go.Proofs.Lays.n167 Tryz.prog bld_ren:={
 mixed:=by kernel_rfl
 f167:=Tryz.func142.trans (congrArg some (by kernel_rfl))
 f240:=Tryz.func193.trans (congrArg some (by kernel_rfl))
 f276:=Tryz.func237.trans (congrArg some (by kernel_rfl))
 t0:=Tryz.underlying0
 a0:=Tryz.isAgg0
 z0:=Tryz.sizeOf0
 v0:=Tryz.zeroValue0
 t4:=Tryz.underlying4
 a4:=Tryz.isAgg4
 z4:=Tryz.sizeOf4
 v4:=Tryz.zeroValue4
 t5:=Tryz.underlying5
 a5:=Tryz.isAgg5
 z5:=Tryz.sizeOf5
 v5:=Tryz.zeroValue5
 t9:=Tryz.underlying9
 a9:=Tryz.isAgg9
 z9:=Tryz.sizeOf9
 v9:=Tryz.zeroValue9
 t20:=Tryz.underlying20
 a20:=Tryz.isAgg20
 z20:=Tryz.sizeOf20
 v20:=Tryz.zeroValue20
 t37:=Tryz.underlying119
 a37:=Tryz.isAgg119
 z37:=Tryz.sizeOf119
 v37:=Tryz.zeroValue119
 t70:=Tryz.underlying157
 a70:=Tryz.isAgg157
 z70:=Tryz.sizeOf157
 v70:=Tryz.zeroValue157
 t72:=Tryz.underlying159
 a72:=Tryz.isAgg159
 z72:=Tryz.sizeOf159
 v72:=Tryz.zeroValue159
 t75:=Tryz.underlying161
 a75:=Tryz.isAgg161
 z75:=Tryz.sizeOf161
 v75:=Tryz.zeroValue161
 t164:=Tryz.underlying229
 a164:=Tryz.isAgg229
 z164:=Tryz.sizeOf229
 v164:=Tryz.zeroValue229 }
theorem laysBS:Go.Proofs.Lays.n169 Tryz.prog bld_ren:={
 mixed:=by kernel_rfl
 f169:=Tryz.func143.trans (congrArg some (by kernel_rfl))
 t0:=Tryz.underlying0
 a0:=Tryz.isAgg0
 z0:=Tryz.sizeOf0
 v0:=Tryz.zeroValue0
 t3:=Tryz.underlying3
 a3:=Tryz.isAgg3
 z3:=Tryz.sizeOf3
 v3:=Tryz.zeroValue3
 t9:=Tryz.underlying9
 a9:=Tryz.isAgg9
 z9:=Tryz.sizeOf9
 v9:=Tryz.zeroValue9
 t37:=Tryz.underlying119
 a37:=Tryz.isAgg119
 z37:=Tryz.sizeOf119
 v37:=Tryz.zeroValue119
 t70:=Tryz.underlying157
 a70:=Tryz.isAgg157
 z70:=Tryz.sizeOf157
 v70:=Tryz.zeroValue157
 t72:=Tryz.underlying159
 a72:=Tryz.isAgg159
 z72:=Tryz.sizeOf159
 v72:=Tryz.zeroValue159
 t127:=Tryz.underlying199
 a127:=Tryz.isAgg199
 z127:=Tryz.sizeOf199
 v127:=Tryz.zeroValue199 }
theorem bldX:Go.Proofs.Builder.Extra Tryz.prog bld_ren:={
 sizeBuilder:=by kernel_rfl
 liesBuilder:=by kernel_rfl
 t5:=Tryz.underlying5
 a5:=Tryz.isAgg5
 z5:=Tryz.sizeOf5
 v5:=Tryz.zeroValue5
 infoByte:=by kernel_rfl
 cellsByte:=by kernel_rfl
 sizeByte:=by kernel_rfl
 neB5:=by decide }
end Go.Proofs.YtggcagclpkhlhaaGreatDoor
end
noncomputable section
/- A number's bytes. -/
namespace Go.Proofs.YtggcagclpkhlhaaGreatDoor
def packB (n:Nat):List UInt8:=if _h:n<128 then [UInt8.ofNat n] else UInt8.ofNat (n % 128+128)::packB (n / 128)
termination_by n
decreasing_by omega
def packI (n:Int):Option (List UInt8):=@ite _ (n<72057594037927936) (Classical.propDecidable _) (some (packB n.toNat)) none
theorem packI_is {n:Int} (h:n<72057594037927936):packI n=some (packB n.toNat):=if_pos h
theorem packB_lo {n:Nat} (h:n<128):packB n=[UInt8.ofNat n]:=by rw [packB,dif_pos h]
theorem packB_hi {n:Nat} (h:¬ n<128):packB n=UInt8.ofNat (n % 128+128)::packB (n / 128):=by rw [packB,dif_neg h]
theorem packB_pos (n:Nat):0<(packB n).length:=by
 by_cases h:n<128
 ·rw [packB_lo h];simp
 ·rw [packB_hi h];simp
theorem packB_len:∀ (j n:Nat),n<2 ^ (7 * (j+1))→(packB n).length≤j+1
 | 0,n,h=>by
  have h:n<128:=h
  rw [packB_lo h];simp
 | j+1,n,h=>by
  by_cases h1:n<128
  ·rw [packB_lo h1];simp
  ·have e2:2 ^ (7 * (j+1+1))=2 ^ (7 * (j+1)) * 128:=by rw [show 7 * (j+1+1)=7 * (j+1)+7 by omega,Nat.pow_add]
   rw [packB_hi h1,List.length_cons]
   have:=packB_len j (n / 128) (by rw [e2] at h;omega)
   omega
end Go.Proofs.YtggcagclpkhlhaaGreatDoor
end
noncomputable section
/- A function by hand: of a number, that tells a text, and turns nothing that was there. -/
namespace Go.Proofs.YtggcagclpkhlhaaGreatDoor.Pal
open Go
variable {P:Program}
theorem pureIS_ok [MonoC] (hoff:¬ MonoC.on) {f:Nat} {k:IntKind} {F:Int→Option (List UInt8)} (he:∀ args w,(callFunc f args).run P w = .ok (.enter f args) w)
  (h:∀ (n:Int) (r:List UInt8),F n=some r→∀ w:World,Calls P f #[.int k n] w fun e w'=>e = .returned (.string ⟨r.toArray⟩)∧RowKit.Below w.heap.size w w') :
  CallOK P f (Sg.entry ⟨[.dat (.int k)],[],.dat .str,[]⟩ F):=by
 refine ⟨fun α args objs K=>entry_nat α args objs K,fun args objs vr os hval X G w argv tA tM hW hTab hX hA hM hcnt htok=>?_⟩
 obtain ⟨ds,x,r,h1,h2,h3,rfl,rfl⟩:=entry_val hval
 obtain ⟨hl1,hl2⟩:=pull_length _ _ _ _ h1
 obtain ⟨hs1,hs2⟩:=(dec_asL _ _ _ h2).split hl1
 have hA2:=lay_rep _ _ _ _ _ _ _ h1 hs1 hA
 have hobj:objs=[]:=List.eq_nil_of_length_eq_zero hs2.lengths.1
 subst hobj
 obtain ⟨x0,xs0,t1,t2,rfl,ht12,hT0,rfl,rfl⟩:=hA2
 have hx0:x0 = .int k x:=by
  obtain ⟨cs,⟨c1,c2⟩,c3⟩:=hT0
  have c1':cs=[.int k x]:=c1
  have c3':cs=[x0]:=c3
  rw [c1'] at c3'
  injection c3' with c3';exact c3'.symm
 subst hx0
 refine .inl ⟨he _ _,Calls.mono (h x r h3 w) fun e w' hh=>?_⟩
 obtain ⟨rfl,hb⟩:=hh
 have hE:Ev X G w G w':=⟨⟨hb.os,hb.tape,hb.output,hb.size,fun b hb'=>.inl (hb.block b hb'),fun h=>absurd h hoff⟩,Im.le_refl _,fun _ _ _ h=>.inl h,fun _ _ _=>rfl⟩
 have hcell:∀ b o,b<w.heap.size→w'.cell? ⟨b,o,none⟩=w.cell? ⟨b,o,none⟩:=fun b o hlt=>World.cell?_of_block (w:=w) (hb.block b hlt)
 refine ⟨G,hE,⟨fun b o v hv=>?_,hW.io,fun b o k hk=>Nat.lt_of_lt_of_le (hW.lt b o k hk) hb.size⟩,fun _ _=>rfl,[],[],[],?_,rfl,rfl,fun g=>by simp,fun g hg=>by simp at hg⟩
 ·have hh:=hW.holds b o v hv
  rw [hcell b o (World.block_lt_of_cell? w _ hh)];exact hh
 ·exact ⟨[.string ⟨r.toArray⟩],⟨rfl,rfl⟩,rfl⟩
theorem pureSL_ok [MonoC] (hoff:¬ MonoC.on) {f T:Nat} {k:IntKind} {TW:World→Prop} {F:List UInt8→Option (List Int × Bool)} (he:∀ args w,(callFunc f args).run P w = .ok (.enter f args) w)
  (ht:∀ (G:Gh) (w:World),Wf G w→MonoC.tab G.I→TW w)
  (h:∀ (s:List UInt8) (r:List Int × Bool),F s=some r→∀ w:World,TW w→Calls P f #[.string ⟨s.toArray⟩] w fun e w'=>∃ v,e = .returned (.tuple #[v,.bool r.2])∧w'.ownsRow w.heap.size T 1 v r.1.length (r.1.map (Value.int k))∧RowKit.Below w.heap.size w w') :
  CallOK P f (Sg.entry ⟨[.dat .str],[],.t2 (.dat (.slc (.int k))) (.dat .bool),[]⟩ F):=by
 refine ⟨fun α args objs K=>entry_nat α args objs K,fun args objs vr os hval X G w argv tA tM hW hTab hX hA hM hcnt htok=>?_⟩
 obtain ⟨ds,x,r,h1,h2,h3,rfl,rfl⟩:=entry_val hval
 obtain ⟨hl1,hl2⟩:=pull_length _ _ _ _ h1
 obtain ⟨hs1,hs2⟩:=(dec_asL _ _ _ h2).split hl1
 have hA2:=lay_rep _ _ _ _ _ _ _ h1 hs1 hA
 have hobj:objs=[]:=List.eq_nil_of_length_eq_zero hs2.lengths.1
 subst hobj
 obtain ⟨x0,xs0,t1,t2,rfl,ht12,hT0,rfl,rfl⟩:=hA2
 have hx0:x0 = .string ⟨(show List UInt8 from x).toArray⟩:=by
  obtain ⟨cs,⟨c1,c2⟩,c3⟩:=hT0
  have c1':cs=[.string ⟨(show List UInt8 from x).toArray⟩]:=c1
  have c3':cs=[x0]:=c3
  rw [c1'] at c3'
  injection c3' with c3';exact c3'.symm
 subst hx0
 refine .inl ⟨he _ _,Calls.mono (h x r h3 w (ht G w hW hTab)) fun e w' hh=>?_⟩
 obtain ⟨v,rfl,hown,hb⟩:=hh
 have hevo:Evo X w w':=⟨hb.os,hb.tape,hb.output,hb.size,fun b hb'=>.inl (hb.block b hb'),fun h=>absurd h hoff⟩
 have hcell:∀ b o,b<w.heap.size→w'.cell? ⟨b,o,none⟩=w.cell? ⟨b,o,none⟩:=fun b o hlt=>World.cell?_of_block (w:=w) (hb.block b hlt)
 have hlow:∀ b o u,G.I b o=some u→b<w.heap.size:=fun b o u hu=>World.block_lt_of_cell? w _ (hW.holds b o u hu)
 have hold:∀ b o u,G.I b o=some u→w'.cell? ⟨b,o,none⟩=some u:=fun b o u hu=>by rw [hcell b o (hlow b o u hu)];exact hW.holds b o u hu
 rcases hown.2 with ⟨rfl,h0⟩ | ⟨g,cap,cur,rfl,hg,hgc,hn,hcm,hcs,htk⟩
 ·have e0:(show List Int from r.1)=[]:=List.eq_nil_of_length_eq_zero h0
  refine ⟨G,⟨hevo,Im.le_refl _,fun _ _ _ h=>.inl h,fun _ _ _=>rfl⟩,⟨hold,hW.io,fun b o k hk=>Nat.lt_of_lt_of_le (hW.lt b o k hk) hb.size⟩,fun _ _=>rfl,[],[],[],?_,rfl,rfl,fun g=>by simp,fun g hg=>by simp at hg⟩
  exact ⟨[.tuple #[.slice none 0 0,.bool r.2]],⟨.slice none 0 0,.bool r.2,[.slice none 0 0],[.bool r.2],[],[],rfl,rfl,⟨⟨none,0,0,rfl,h0,Nat.le_refl _,.inl e0⟩,rfl⟩,⟨rfl,rfl⟩,⟨rfl,rfl⟩,⟨rfl,rfl⟩⟩,rfl⟩
 ·have hcg:∀ o u,((show List Int from r.1).map (Value.int k))[o]? = some u→w'.cell? ⟨g,o,none⟩=some u:=fun o u hu=>by
   have:=hown.cells (g:=g) rfl o u hu
   rw [Addr.add_lit,Nat.zero_add] at this;exact this
  let G':Gh:={ G with I:=fun b o=>if b=g then ((show List Int from r.1).map (Value.int k))[o]? else G.I b o }
  have hne:∀ b o u,G.I b o=some u→b ≠ g:=fun b o u hu e=>by have:=hlow b o u hu;omega
  have hle:Im.le G.I G'.I:=fun b o u hu=>by
   show (if b=g then _ else G.I b o)=some u
   rw [if_neg (hne b o u hu)];exact hu
  refine ⟨G',⟨hevo,hle,fun b o u hu=>?_,fun _ _ _=>rfl⟩,⟨fun b o u hu=>?_,fun b o u hu=>?_,fun b o k hk=>Nat.lt_of_lt_of_le (hW.lt b o k hk) hb.size⟩,fun _ _=>rfl,[],[],[],?_,rfl,rfl,fun g=>by simp,fun g hg=>by simp at hg⟩
  ·by_cases hbg:b=g
   ·exact .inr (.inl (by omega))
   ·have hu:(if b=g then _ else G.I b o)=some u:=hu
    rw [if_neg hbg] at hu;exact .inl hu
  ·have hu:(if b=g then ((show List Int from r.1).map (Value.int k))[o]? else G.I b o)=some u:=hu
   by_cases hbg:b=g
   ·rw [if_pos hbg] at hu;rw [hbg];exact hcg o u hu
   ·rw [if_neg hbg] at hu;exact hold b o u hu
  ·have hu:(if b=g then ((show List Int from r.1).map (Value.int k))[o]? else G.I b o)=some u:=hu
   show G.O b o=none
   by_cases hbg:b=g
   ·cases hO:G.O b o with
    | none=>rfl
    | some q=>have:=hW.lt b o q hO;omega
   ·rw [if_neg hbg] at hu;exact hW.io b o u hu
  ·refine ⟨[.tuple #[.slice (some ⟨g,0,none⟩) (show List Int from r.1).length cap,.bool r.2]],⟨.slice (some ⟨g,0,none⟩) (show List Int from r.1).length cap,.bool r.2,[.slice (some ⟨g,0,none⟩) (show List Int from r.1).length cap],[.bool r.2],[],[],rfl,rfl,⟨⟨some ⟨g,0,none⟩,_,cap,rfl,rfl,hn,.inr ⟨g,0,rfl,?_⟩⟩,rfl⟩,⟨rfl,rfl⟩,⟨rfl,rfl⟩,⟨rfl,rfl⟩⟩,rfl⟩
   intro i x hx
   refine ⟨[.int k x],rfl,?_⟩
   intro j u hj
   have hj0:j=0∧u = .int k x:=by
    match j,hj with
    | 0,hj=>exact ⟨rfl,by simpa using hj.symm⟩
    | j+1,hj=>simp at hj
   obtain ⟨rfl,rfl⟩:=hj0
   show (if g=g then ((show List Int from r.1).map (Value.int k))[0+i * 1+0]? else _)=_
   rw [if_pos rfl,List.getElem?_map,Nat.zero_add,Nat.mul_one,Nat.add_zero]
   have hx':(show List Int from r.1)[i]? = some x:=hx
   rw [hx'];rfl
end Go.Proofs.YtggcagclpkhlhaaGreatDoor.Pal
end
noncomputable section
/- pack.Int: what it does on the machine. -/
namespace Go.Proofs.YtggcagclpkhlhaaGreatDoor
open Go Go.RowKit
theorem wb_is (B b:Nat) (bs:List Value) (c:Int) (w:World) (h:Lib.IsBuilder 159 5 B b bs w) (hlen:bs.length+1≤140737488355328) (hBw:B≤w.heap.size) :
  Calls Tryz.prog 142 #[.pointer (some ⟨b,0,none⟩),.int .u8 c] w fun e w'=>e = .returned .nilIface∧(Lib.BuilderAt 159 5 B b (.pointer (some ⟨b,0,none⟩)) (bs++[.int .u8 c]) w'∧Below B w w') :=
 Any.Builder_WriteByte laysWB bldX B b bs c w h hlen hBw
theorem bstr_is (B b:Nat) (l:List UInt8) (w:World) (h:Lib.IsBuilder 159 5 B b (Lib.byteCells l) w) (h0:l ≠ []) :
  Calls Tryz.prog 143 #[.pointer (some ⟨b,0,none⟩)] w fun e w'=>e = .returned (.string ⟨l.toArray⟩)∧Below B w w' :=
 Any.Builder_String laysBS bldX B b l w h h0
theorem and127 {c:Nat} (h:c<9000000000000000000):bits .and .i64 (c:Int) 127=((c % 128:Nat):Int):=by
 show IntKind.wrap .i64 (((BitVec.ofInt 64 (c:Int) &&& BitVec.ofInt 64 127).toNat:Nat):Int)=_
 have e:(BitVec.ofInt 64 (c:Int) &&& BitVec.ofInt 64 127).toNat=c % 128:=by
  have e1:BitVec.ofInt 64 (c:Int)=BitVec.ofNat 64 c:=by simp
  have e2:BitVec.ofInt 64 127=BitVec.ofNat 64 127:=by decide
  rw [e1,e2,BitVec.toNat_and,BitVec.toNat_ofNat,BitVec.toNat_ofNat,Nat.mod_eq_of_lt (show c<2 ^ 64 by omega),show 127 % 2 ^ 64=2 ^ 7 - 1 by decide,Nat.and_two_pow_sub_one_eq_mod]
 rw [e]
 rw [IntKind.wrap_i64];omega
theorem or128 {a:Nat} (ha:a<128):bits .or .i64 (a:Int) 128=((a+128:Nat):Int):=by
 show IntKind.wrap .i64 (((BitVec.ofInt 64 (a:Int) ||| BitVec.ofInt 64 128).toNat:Nat):Int)=_
 have e:(BitVec.ofInt 64 (a:Int) ||| BitVec.ofInt 64 128).toNat=a+128:=by
  have e1:BitVec.ofInt 64 (a:Int)=BitVec.ofNat 64 a:=by simp
  have e2:BitVec.ofInt 64 128=BitVec.ofNat 64 (2 ^ 7 * 1):=by decide
  rw [e1,e2,BitVec.toNat_or,BitVec.toNat_ofNat,BitVec.toNat_ofNat,Nat.mod_eq_of_lt (show a<2 ^ 64 by omega),show 2 ^ 7 * 1 % 2 ^ 64=2 ^ 7 * 1 by decide,Nat.or_comm,← Nat.two_pow_add_eq_or_of_lt (show a<2 ^ 7 from ha)];omega
 rw [e]
 rw [IntKind.wrap_i64];omega
theorem cells_snoc (acc:List UInt8) (c:Nat) (h:c<256):Lib.byteCells acc++[.int .u8 (c:Int)]=Lib.byteCells (acc++[UInt8.ofNat c]):=by
 rw [Lib.byteCells_append]
 have:(UInt8.ofNat c).toNat=c:=by rw [UInt8.toNat_ofNat'];omega
 simp [Lib.byteCells,this]
set_option maxHeartbeats 4000000 in
set_option maxRecDepth 1000000 in
theorem packint_walk (n:Int) (hn:n<72057594037927936) (w:World) :
  Calls Tryz.prog 60 #[.int .i64 n] w fun e w'=>e = .returned (.string ⟨(packB n.toNat).toArray⟩)∧Below w.heap.size w w':=by
 go_enter Tryz.func60,Tryz.ntmps60
 go_wp2
 go_loopw [0] (fun v wr=>∃ (m:Int) (acc:List UInt8),v = .int .i64 m∧m<72057594037927936∧Lib.IsBuilder 159 5 w.heap.size w.heap.size (Lib.byteCells acc) wr∧Below w.heap.size w wr∧acc++packB m.toNat=packB n.toNat∧(acc=[]∨0≤m)) (fun v _=>(Lib.intOf v).toNat)
 case atStart =>
  exact ⟨n,[],rfl,hn,Lib.fresh_isBuilder 159 5 w,(Below.refl _ w).alloc (Nat.le_refl _) _,rfl,.inl rfl⟩
 case round =>
  obtain ⟨m,acc,rfl,hm,hI,hbw,hacc,hor⟩:=hrel
  have hlen:(Lib.byteCells acc).length+1≤140737488355328:=by
   have h1:=packB_len 7 n.toNat (by show n.toNat<72057594037927936;omega)
   have h2:=congrArg List.length hacc
   rw [List.length_append] at h2
   rw [Lib.byteCells_length];omega
  by_cases h128:128≤m
  ·go_wp2_with (go_at_call 142;refine (wb_is w.heap.size w.heap.size _ _ _ hI hlen hbw.size).mono ?_)
   rintro e W1 ⟨rfl,h1,b1⟩
   go_wp2
   go_roundw
   case rel =>
    obtain ⟨c,rfl⟩:∃ c:Nat,m=(c:Int):=⟨m.toNat,by omega⟩
    have hc:¬ c<128:=by omega
    have e1:bits .or .i64 (bits .and .i64 (c:Int) 127) 128 % 256=((c % 128+128:Nat):Int):=by
     rw [and127 (by omega),or128 (by omega)];omega
    rw [e1,cells_snoc _ _ (by omega)] at h1
    refine ⟨((c / 128:Nat):Int),acc++[UInt8.ofNat (c % 128+128)],by congr 1,by omega,.inr h1,hbw.trans b1,?_,.inr (by omega)⟩
    rw [← hacc,Int.toNat_natCast,Int.toNat_natCast,packB_hi hc,List.append_assoc];rfl
   case measure =>
    show (m / 128).toNat<m.toNat
    omega
  ·go_wp2_with (go_at_call 142;refine (wb_is w.heap.size w.heap.size _ _ _ hI hlen hbw.size).mono ?_)
   rintro e W1 rfl h1 b1
   have h2:Lib.IsBuilder 159 5 w.heap.size w.heap.size (Lib.byteCells (packB n.toNat)) W1:=by
    have e0:max m 0=((m.toNat:Nat):Int):=by omega
    rw [e0,cells_snoc _ _ (by omega)] at h1
    rw [← hacc,packB_lo (by omega)]
    exact .inr h1
   go_wp2_with (go_at_call 143;refine (bstr_is w.heap.size w.heap.size _ _ h2 ?_).mono ?_)
   ·intro h0;have:=packB_pos n.toNat;rw [h0] at this;exact absurd this (by decide)
   ·rintro e W2 ⟨rfl,b2⟩
    go_wp2
    go_ret
    exact ⟨rfl,(hbw.trans b1).trans b2⟩
open Pal in
def packIntE:Entry:=Sg.entry ⟨[.dat (.int .i64)],[],.dat .str,[]⟩ packI
open Pal in
theorem packint_ok:CallOK Tryz.prog 60 packIntE :=
 pureIS_ok monoOff_off (enters_of Tryz.func60 (by kernel_rfl) rfl) fun n r h w=>by
  unfold packI at h
  by_cases hn:n<72057594037927936
  ·rw [if_pos hn] at h;injection h with h;subst h;exact packint_walk n hn w
  ·rw [if_neg hn] at h;cases h
end Go.Proofs.YtggcagclpkhlhaaGreatDoor
end
noncomputable section
/- The document's ref02.Int: what it does on the machine; it calls itself. -/
namespace Go.Proofs.YtggcagclpkhlhaaGreatDoor
open Go Go.RowKit
theorem ri_conv (W:World) (b:Nat) (x:UInt8) (n:Int) (h:n=(x.toNat:Int)) (hc:W.cell? ⟨b,0,none⟩=some (.int .u8 n)) :
  (convert 119 9 (.slice (some ⟨b,0,none⟩) 1 1)).run Tryz.prog W = .ok (.string ⟨#[x]⟩) W :=
 run_convert_bytes_back (P:=Tryz.prog) W 119 9 5 ⟨b,0,none⟩ 1 [x] Tryz.underlying119 Tryz.underlying5 Tryz.underlying9 (fun j hj=>by
  have:j=0:=by simpa using hj
  subst this
  have e:(⟨b,0,none⟩:Addr).add 0=⟨b,0,none⟩:=rfl
  rw [e,hc,h];rfl)
theorem ri_new (w:World) (n:Int):(w.alloc (.cells #[.int .u8 n] 5)).cell? ⟨w.heap.size,0,none⟩=some (.int .u8 n):=by simp [go_sem]
theorem ri_newd (w:World) (n:Int):(w.alloc (.cells #[.int .u8 n] 5)).drew.cell? ⟨w.heap.size,0,none⟩=some (.int .u8 n):=by simp [go_sem]
theorem ri_dnew (w:World) (n:Int):(w.drew.alloc (.cells #[.int .u8 n] 5)).cell? ⟨w.heap.size,0,none⟩=some (.int .u8 n):=ri_new w.drew n
theorem ri_val (n:Int) (h0:128≤n) (hn:n<72057594037927936):IntKind.u8.wrap (IntKind.i64.wrap (n.tmod 128+128))=(((UInt8.ofNat (n.toNat % 128+128)).toNat:Nat):Int):=by
 obtain ⟨c,rfl⟩:∃ c:Nat,n=(c:Int):=⟨n.toNat,by omega⟩
 have e1:((c:Int)).tmod 128=((c % 128:Nat):Int):=rfl
 rw [e1,IntKind.wrap_i64,IntKind.wrap_u8,UInt8.toNat_ofNat',Int.toNat_natCast];omega
theorem ri_quo (n:Int) (h0:128≤n) (hn:n<72057594037927936):IntKind.i64.wrap (n.tdiv 128)=n / 128:=by
 obtain ⟨c,rfl⟩:∃ c:Nat,n=(c:Int):=⟨n.toNat,by omega⟩
 have e1:((c:Int)).tdiv 128=((c / 128:Nat):Int):=rfl
 rw [e1,IntKind.wrap_i64];omega
theorem ri_add (W:World) (x:UInt8) (l:List UInt8) (h:l.length≤8):(binOp .add 9 (.string ⟨#[x]⟩) (.string ⟨l.toArray⟩)).run Tryz.prog W = .ok (.string ⟨(x::l).toArray⟩) W:=by
 have hm:IntKind.i64.max=9223372036854775807:=rfl
 have hs:(⟨#[x]⟩:ByteArray).size+(⟨l.toArray⟩:ByteArray).size=1+l.length:=by simp [ByteArray.size]
 simp only [binOp,Op.stringOp]
 rw [if_neg (by rw [hm];omega)]
 have e:(⟨#[x]⟩:ByteArray)++⟨l.toArray⟩=⟨(x::l).toArray⟩:=by
  apply ByteArray.ext
  simp
 first | rw [e];rfl | rfl
theorem ri_end (n:Int) (h0:128≤n):((⟨#[UInt8.ofNat (n.toNat % 128)+128]⟩:ByteArray)++⟨(packB (n / 128).toNat).toArray⟩)=⟨(packB n.toNat).toArray⟩:=by
 have h1:(n / 128).toNat=n.toNat / 128:=by omega
 have h2:UInt8.ofNat (n.toNat % 128+128)=UInt8.ofNat (n.toNat % 128)+128:=by rw [UInt8.ofNat_add];rfl
 rw [packB_hi (n:=n.toNat) (by omega),h1,h2]
 apply ByteArray.ext
 simp
theorem ri_conv1 (w:World) (b:UInt8) (n:Int) (h:n=(b.toNat:Int)) :
  (convert 119 9 (.slice (some ⟨w.heap.size,0,none⟩) 1 1)).run Tryz.prog (w.alloc (.cells #[.int .u8 n] 5)) = .ok (.string ⟨#[b]⟩) (w.alloc (.cells #[.int .u8 n] 5)) :=
 ri_conv _ _ b n h (ri_new w n)
set_option maxHeartbeats 4000000 in
set_option maxRecDepth 1000000 in
theorem rpackint_walk:∀ (j:Nat) (n:Int) (w:World),n.toNat≤j→n<72057594037927936 →
  Calls Tryz.prog 64 #[.int .i64 n] w fun e w'=>e = .returned (.string ⟨(packB n.toNat).toArray⟩)∧Below w.heap.size w w':=by
 intro j
 induction j with
 | zero =>
  intro n w hj hn
  go_enter Tryz.func64,Tryz.ntmps64
  by_cases h0:n<0
  ·go_wp2
   rw [ri_conv1 w 0 0 rfl]
   go_wp2
   go_ret
   exact ⟨by rw [packB_lo (by omega),show n.toNat=0 by omega];rfl,(Below.refl _ w).alloc (Nat.le_refl _) _⟩
  ·go_wp2
   rw [ri_conv1 w 0 n (by show n=((0:Nat):Int);omega)]
   go_wp2
   go_ret
   exact ⟨by rw [packB_lo (by omega),show n.toNat=0 by omega];rfl,(Below.refl _ w).alloc (Nat.le_refl _) _⟩
 | succ j ih =>
  intro n w hj hn
  go_enter Tryz.func64,Tryz.ntmps64
  by_cases h0:n<0
  ·go_wp2
   rw [ri_conv1 w 0 0 rfl]
   go_wp2
   go_ret
   exact ⟨by rw [packB_lo (by omega),show n.toNat=0 by omega];rfl,(Below.refl _ w).alloc (Nat.le_refl _) _⟩
  by_cases h1:n<128
  ·go_wp2
   rw [ri_conv1 w (UInt8.ofNat n.toNat) n (by rw [UInt8.toNat_ofNat'];omega)]
   go_wp2
   go_ret
   exact ⟨by rw [packB_lo (by omega)];rfl,(Below.refl _ w).alloc (Nat.le_refl _) _⟩
  ·have h128:128≤n:=by omega
   have ihq:=fun W=>ih (IntKind.i64.wrap (n.tdiv 128)) W (by rw [ri_quo n h128 hn];omega) (by rw [ri_quo n h128 hn];omega)
   have hl8:(packB (IntKind.i64.wrap (n.tdiv 128)).toNat).length≤8:=packB_len 7 _ (by show _<72057594037927936;rw [ri_quo n h128 hn];omega)
   go_wp2
   go_region_with (first
    | (rw [ri_add _ _ _ hl8])
    | (go_at_call 64;refine (ihq _).mono ?_;rintro e W1 ⟨rfl,hb⟩)
    | (rw [ri_conv _ _ (UInt8.ofNat (n.toNat % 128+128)) _ (ri_val n (by omega) hn) (by first | exact ri_new _ _ | exact ri_newd _ _ | exact ri_dnew _ _ | exact (hb.cell (by simp)).trans (ri_newd _ _))]))
   all_goals go_wp2
   all_goals go_ret
   all_goals refine ⟨by rw [ri_end n h128];rfl,?_⟩
   ·exact (((Below.refl _ w).alloc (Nat.le_refl _) _).drew).trans (hb.mono (by simp))
   ·exact (((Below.refl _ w).alloc (Nat.le_refl _) _).drew).trans (hb.mono (by simp))
   ·exact (((Below.refl _ w).drew).trans (hb.mono (by simp))).alloc hb.size _
open Pal in
theorem rpackint_ok:CallOK Tryz.prog 64 packIntE :=
 pureIS_ok monoOff_off (enters_of Tryz.func64 (by kernel_rfl) rfl) fun n r h w=>by
  unfold packI at h
  by_cases hn:n<72057594037927936
  ·rw [if_pos hn] at h;injection h with h;subst h;exact rpackint_walk _ n w (Nat.le_refl _) hn
  ·rw [if_neg hn] at h;cases h
end Go.Proofs.YtggcagclpkhlhaaGreatDoor
end
noncomputable section
/- name.Runes, name.Right: what they do on the machine, at every text that holds no replacement rune and no wrong byte. -/
namespace Go.Proofs.YtggcagclpkhlhaaGreatDoor
open Go Go.RowKit
def mayB (c:Int):Bool:=!(decide (c<32) || (decide (127≤c) && decide (c<160))) && !decide (c=65533)
theorem rwidth_pos (s:ByteArray) (pos:Nat) (h:pos<s.size):1≤(Utf8.decode s pos).2:=by
 by_cases ha:(s[pos]'h).toNat<128
 ·rw [decode_ascii s pos h ha]
  exact Nat.le_refl _
 ·exact (decode_high s pos h (by omega)).2
theorem rown_iterAt {w:World} {base:Nat} {e:TypeId} {size:Nat} {v:Value} {n:Nat} {xs:List Value} (h:w.ownsRow base e size v n xs) {k:Nat} (hk:k<base) (s:ByteArray) (p:Nat):(w.iterAt k s p).ownsRow base e size v n xs:=by
 obtain ⟨h1,h2⟩:=h
 refine ⟨h1,?_⟩
 rcases h2 with h2 | ⟨g,cap,cur,a,b,c,d⟩
 ·exact .inl h2
 ·exact .inr ⟨g,cap,cur,a,b,by rw [Lib.iterAt_other _ _ _ _ _ (by omega)];exact c,d⟩
theorem riterPos_of {w:World} {k:Nat} {s:ByteArray} {p:Nat} (h:w.heap[k]? = some (.stringIter s p)):w.iterPos k=p:=by simp [World.iterPos,h]
theorem rcell_new (w:World) (a:Value) (t:TypeId):∀ j u,[a][j]? = some u→(w.alloc (.cells #[a] t)).cell? ((⟨w.heap.size,0,none⟩:Addr).add j)=some u:=by
 intro j u hj
 match j,hj with
 | 0,hj=>simp at hj;subst hj;simp [Addr.add]
 | j+1,hj=>simp at hj
def rcells (l:List Int):List Value:=l.map (Value.int .i32)
theorem rinfo:(Tryz.prog.info? 21).map (fun i=>(i.zero,i.size,i.bytes))=some (some (.int .i32 0),1,4):=by kernel_rfl
theorem runder:Tryz.prog.underlying 235=some (.slice 21):=by kernel_rfl
end Go.Proofs.YtggcagclpkhlhaaGreatDoor
end
noncomputable section
/- Where unicode/utf8's DecodeRuneInString and what it calls lie in this program; its two tables. -/
namespace Go.Proofs.YtggcagclpkhlhaaGreatDoor
open Go Go.Proofs
open Go.Shelf
def u8_ren:Go.Shelf.Ren:=⟨fun | 197=>265 | 260=>273 | _=>0,fun | 0=>0 | 3=>3 | 4=>4 | 5=>5 | 9=>9 | 21=>21 | 46=>163 | 105=>254 | 119=>266 | 138=>268 | 139=>269 | _=>0,fun | 3=>0 | 4=>1 | _=>0⟩
set_option maxRecDepth 100000 in
theorem laysU8:Go.Proofs.Lays.n197 Tryz.prog u8_ren:={
 mixed:=by kernel_rfl
 f197:=Tryz.func265.trans (congrArg some (by kernel_rfl))
 f260:=Tryz.func273.trans (congrArg some (by kernel_rfl))
 t0:=Tryz.underlying0
 a0:=Tryz.isAgg0
 z0:=Tryz.sizeOf0
 v0:=Tryz.zeroValue0
 t3:=Tryz.underlying3
 a3:=Tryz.isAgg3
 z3:=Tryz.sizeOf3
 v3:=Tryz.zeroValue3
 t4:=Tryz.underlying4
 a4:=Tryz.isAgg4
 z4:=Tryz.sizeOf4
 v4:=Tryz.zeroValue4
 t5:=Tryz.underlying5
 a5:=Tryz.isAgg5
 z5:=Tryz.sizeOf5
 v5:=Tryz.zeroValue5
 t9:=Tryz.underlying9
 a9:=Tryz.isAgg9
 z9:=Tryz.sizeOf9
 v9:=Tryz.zeroValue9
 t21:=Tryz.underlying21
 a21:=Tryz.isAgg21
 z21:=Tryz.sizeOf21
 v21:=Tryz.zeroValue21
 t46:=Tryz.underlying163
 a46:=Tryz.isAgg163
 z46:=Tryz.sizeOf163
 v46:=Tryz.zeroValue163
 t105:=Tryz.underlying254
 a105:=Tryz.isAgg254
 z105:=Tryz.sizeOf254
 v105:=Tryz.zeroValue254
 t119:=Tryz.underlying266
 a119:=Tryz.isAgg266
 z119:=Tryz.sizeOf266
 t138:=Tryz.underlying268
 a138:=Tryz.isAgg268
 z138:=Tryz.sizeOf268
 v138:=Tryz.zeroValue268
 t139:=Tryz.underlying269
 a139:=Tryz.isAgg269
 z139:=Tryz.sizeOf269
 v139:=Tryz.zeroValue269
 g3:=by kernel_rfl
 g4:=by kernel_rfl }
theorem u8Extra:U8Extra Tryz.prog u8_ren:=⟨by kernel_rfl,by kernel_rfl,by kernel_rfl,by kernel_rfl,by kernel_rfl,by kernel_rfl,by kernel_rfl⟩
theorem dec_is (s:ByteArray) (w:World) (hT:Lib.Utf8Tabs 0 1 w) :
  Calls Tryz.prog 265 #[.string s] w fun e w'=>e = .returned (.tuple #[.int .i32 (Lib.decodeGo s).1,.int .i64 (Lib.decodeGo s).2])∧RowKit.Below w.heap.size w w' :=
 Any.utf8_DecodeRuneInString laysU8 s w hT
end Go.Proofs.YtggcagclpkhlhaaGreatDoor
end
noncomputable section
/- name.Runes, name.Right: what they do on the machine, at every text, where unicode/utf8's two tables are as the program lays them. -/
namespace Go.Proofs.YtggcagclpkhlhaaGreatDoor
open Go Go.RowKit
def badAt (s:ByteArray) (pos:Nat):Bool:=decide ((Utf8.decode s pos).1=65533) && decide ((Utf8.decode s pos).2≤1)
def runesX (s:ByteArray):Nat→Nat→Option (List Int)
 | 0,_=>some []
 | fuel+1,pos=>if pos<s.size then (if badAt s pos=true then none else (runesX s fuel (pos+(Utf8.decode s pos).2)).map fun l=>((Utf8.decode s pos).1:Int)::l) else some []
theorem runesX_end (s:ByteArray) (fuel pos:Nat) (h:¬ pos<s.size):runesX s fuel pos=some []:=by
 cases fuel with
 | zero=>rfl
 | succ f=>simp [runesX,h]
theorem runesX_bad {s:ByteArray} {fuel pos:Nat} {R:Option (List Int)} {acc:List Int} (h:pos<s.size) (hb:badAt s pos=true) (e:(runesX s (fuel+1) pos).map (acc ++ ·)=R):R=none:=by
 rw [runesX,if_pos h,if_pos hb] at e;exact e.symm
theorem runesX_step {s:ByteArray} {fuel pos:Nat} {R:Option (List Int)} {acc:List Int} (h:pos<s.size) (hb:badAt s pos=false) (e:(runesX s (fuel+1) pos).map (acc ++ ·)=R) :
  (runesX s fuel (pos+(Utf8.decode s pos).2)).map ((acc++[((Utf8.decode s pos).1:Int)]) ++ ·)=R:=by
 rw [runesX,if_pos h,if_neg (by rw [hb];decide)] at e
 rw [← e]
 cases hr:runesX s fuel (pos+(Utf8.decode s pos).2) with
 | none=>rfl
 | some l=>simp
theorem dec_tail (s:ByteArray) (pos:Nat) (h:pos<s.size):Lib.decodeGo (s.extract pos s.size)=Utf8.decode s pos:=by
 unfold Lib.decodeGo
 rw [if_neg (by rw [ByteArray.size_extract];omega),Lib.tail_decode];rfl
theorem rown_below {w w':World} {base:Nat} {e:TypeId} {size:Nat} {v:Value} {n:Nat} {xs:List Value} (h:w.ownsRow base e size v n xs) (hb:Below w.heap.size w w'):w'.ownsRow base e size v n xs:=by
 obtain ⟨h1,h2⟩:=h
 refine ⟨h1,?_⟩
 rcases h2 with h2 | ⟨g,cap,cur,a,b,c,d⟩
 ·exact .inl h2
 ·exact .inr ⟨g,cap,cur,a,b,by rw [hb.block g (Array.getElem?_eq_some_iff.1 c).1];exact c,d⟩
set_option maxRecDepth 1000000 in
set_option maxHeartbeats 4000000 in
theorem runesX_walk (s : ByteArray) (R : Option (List Int)) (hR : runesX s s.size 0 = R) (hsz : s.size ≤ 1099511627776) (w : World) (hT : Lib.Utf8Tabs 0 1 w) :
    Calls Tryz.prog 246 #[.string s] w fun e w' => ∃ v, e = .returned (.tuple #[v, .bool R.isSome]) ∧ w'.ownsRow (w.heap.size + 1) 21 1 v (R.getD []).length (rcells (R.getD [])) ∧ Below w.heap.size w w' := by
  obtain ⟨i0, hi, hz0, hz1, hz2⟩ := info_parts rinfo
  go_enter Tryz.func246, Tryz.ntmps246
  go_wp2
  go_loopw [4] (fun v wr => ∃ (pos fuel : Nat) (acc : List Int), wr.heap[w.heap.size]? = some (.stringIter s pos) ∧ wr.ownsRow (w.heap.size + 1) 21 1 v acc.length (rcells acc) ∧ Below w.heap.size w wr ∧ (runesX s fuel pos).map (acc ++ ·) = R ∧ s.size ≤ pos + fuel ∧ acc.length ≤ pos) (fun _ wr => s.size - wr.iterPos w.heap.size)
  case atStart => exact ⟨0, s.size, [], World.iter_heap w s 0, World.ownsRow_nil _ _ _ _, (Below.refl _ _).alloc (Nat.le_refl _) _, by rw [hR]; cases R <;> simp, by omega, by simp⟩
  case round =>
    obtain ⟨pos, fuel, acc, hit, hown, hbw, HS, hb, hlen⟩ := hrel
    have hpos0 := riterPos_of hit
    by_cases hp : pos < s.size
    · have hnx : ∀ ty, (Instr.next (.pointer (some ⟨w.heap.size, 0, none⟩)) true ty).run Tryz.prog wr = _ := fun ty => Lib.run_next_any_at wr w.heap.size s pos ty hit hp
      have hwd := rwidth_pos s pos hp
      have hdl := decode_le s pos
      obtain ⟨fuel, rfl⟩ : ∃ f', fuel = f' + 1 := ⟨fuel - 1, by omega⟩
      have hit2 := Lib.iterAt_heap wr w.heap.size s pos (pos + (Utf8.decode s pos).2) hit
      have hbw2 := Lib.below_iterAt hbw (k := w.heap.size) (Nat.le_refl _) s (pos + (Utf8.decode s pos).2)
      have hown2 := rown_iterAt hown (k := w.heap.size) (by omega) s (pos + (Utf8.decode s pos).2)
      obtain ⟨W1, hW1⟩ : ∃ W1, W1 = wr.iterAt w.heap.size s (pos + (Utf8.decode s pos).2) := ⟨_, rfl⟩
      rw [← hW1] at hnx hit2 hbw2 hown2
      have hBlt : w.heap.size < W1.heap.size := (Array.getElem?_eq_some_iff.1 hit2).1
      have hT1 : Lib.Utf8Tabs 0 1 W1 := Utf8Tabs_below hT hbw2
      clear hW1 hit hown hbw
      by_cases hne : (Utf8.decode s pos).1 = 65533
      · have hne1 : (((Utf8.decode s pos).1 : Int) == 65533) = true := by simp [hne]
        have hix0 : (0 : Int) ≤ (pos : Int) := by omega
        have hix1 : (pos : Int) ≤ (s.size : Int) := by omega
        have hdc : Calls Tryz.prog 265 #[.string (s.extract pos s.size)] W1 fun e w' => e = .returned (.tuple #[.int .i32 65533, .int .i64 ((Utf8.decode s pos).2 : Int)]) ∧ Below W1.heap.size W1 w' := by
          have h := dec_is (s.extract pos s.size) W1 hT1
          rw [dec_tail s pos hp, hne] at h; exact h
        by_cases hw1 : (Utf8.decode s pos).2 ≤ 1
        · have hR0 : R = none := runesX_bad hp (by unfold badAt; rw [decide_eq_true hne, decide_eq_true hw1]; rfl) HS
          subst hR0
          have hw2 : ((Utf8.decode s pos).2 : Int) ≤ 1 := by omega
          go_wp2_with (go_at_call 265; refine hdc.mono ?_; rintro e W2 ⟨rfl, hb2⟩)
          go_ret2
          exact ⟨_, rfl, World.ownsRow_nil _ _ _ _, hbw2.trans (hb2.mono (by omega))⟩
        · have HS2 := runesX_step hp (by unfold badAt; rw [decide_eq_false hw1, Bool.and_false]) HS
          have hw2 : ¬ ((Utf8.decode s pos).2 : Int) ≤ 1 := by omega
          have he : (((Utf8.decode s pos).1 : Nat) : Int) = 65533 := by rw [hne]; rfl
          rw [he] at HS2
          go_wp2_with (first
            | (go_at_call 265; refine hdc.mono ?_; rintro e W2 ⟨rfl, hb2⟩
               have hown3 := rown_below hown2 hb2
               have hbw3 : Below w.heap.size w W2 := hbw2.trans (hb2.mono (by omega))
               have hit3 : W2.heap[w.heap.size]? = some (.stringIter s (pos + (Utf8.decode s pos).2)) := by rw [hb2.block _ hBlt]; exact hit2
               have hBlt3 : w.heap.size < W2.heap.size := by have := hb2.size; omega
               clear hdc)
            | (at_builtin; refine wpList_append_own _ rfl _ _ 235 rfl (w.heap.size + 1) 21 i0 (.int .i32 0) 1 4 runder hi hz0 hz1 hz2 rfl (by decide) _ _ _ rfl (hown3.alloc _) ⟨W2.heap.size, 0, none⟩ 1 1 [.int .i32 65533] rfl rfl (rcell_new _ _ _) (fun x hx => by simp at hx; subst hx; rfl) (by unfold maxLen; omega) (by omega) (by simp; omega) ?_; intro v' w4 hown' hgrow3 hnil3
               have hit4 : w4.heap[w.heap.size]? = some (.stringIter s (pos + (Utf8.decode s pos).2)) := by
                 rw [hgrow3.block w.heap.size (by simp; omega) (fun h => by have := (hown3.lt _ h.symm).1; omega), Below.heap_alloc _ _ _ hBlt3]; exact hit3
               have hbw4 : Below w.heap.size w w4 := Below.grown (hbw3.alloc (by omega) _) hgrow3 (by simp; omega) (fun j hj => by have := (hown3.lt _ hj).1; omega)
               have X : Aside (w4.ownsRow (w.heap.size + 1) 21 1 v' (acc.length + 1) (rcells acc ++ [.int .i32 65533]) ∧ w4.heap[w.heap.size]? = some (.stringIter s (pos + (Utf8.decode s pos).2)) ∧ Below w.heap.size w w4) := ⟨hown', hit4, hbw4⟩
               clear hown' hgrow3 hnil3 hit4 hbw4))
          go_roundw
          case rel =>
            refine ⟨_, fuel, acc ++ [65533], X.out.2.1, ?_, X.out.2.2, HS2, by omega, by simp; omega⟩
            have h := X.out.1
            rw [List.length_append]
            unfold rcells at h ⊢
            rw [List.map_append]; exact h
          case measure =>
            rw [riterPos_of X.out.2.1, hpos0]; omega
      · have HS2 := runesX_step hp (by unfold badAt; rw [decide_eq_false hne, Bool.false_and]) HS
        have hne1 : (((Utf8.decode s pos).1 : Int) == 65533) = false := by simp; omega
        have hne2 : ¬ (((Utf8.decode s pos).1 : Int) = 65533) := by omega
        go_wp2_with (first
            | (at_builtin; refine wpList_append_own _ rfl _ _ 235 rfl (w.heap.size + 1) 21 i0 (.int .i32 0) 1 4 runder hi hz0 hz1 hz2 rfl (by decide) _ _ _ rfl (hown2.alloc _) ⟨W1.heap.size, 0, none⟩ 1 1 [.int .i32 ((Utf8.decode s pos).1 : Int)] rfl rfl (rcell_new _ _ _) (fun x hx => by simp at hx; subst hx; rfl) (by unfold maxLen; omega) (by omega) (by simp; omega) ?_; intro v' w3 hown' hgrow3 hnil3
               have hit3 : w3.heap[w.heap.size]? = some (.stringIter s (pos + (Utf8.decode s pos).2)) := by
                 rw [hgrow3.block w.heap.size (by simp; omega) (fun h => by have := (hown2.lt _ h.symm).1; omega), Below.heap_alloc _ _ _ hBlt]; exact hit2
               have hbw3 : Below w.heap.size w w3 := Below.grown (hbw2.alloc (by omega) _) hgrow3 (by simp; omega) (fun j hj => by have := (hown2.lt _ hj).1; omega)
               have X : Aside (w3.ownsRow (w.heap.size + 1) 21 1 v' (acc.length + 1) (rcells acc ++ [.int .i32 ((Utf8.decode s pos).1 : Int)]) ∧ w3.heap[w.heap.size]? = some (.stringIter s (pos + (Utf8.decode s pos).2)) ∧ Below w.heap.size w w3) := ⟨hown', hit3, hbw3⟩
               clear hown' hgrow3 hnil3 hit3 hbw3))
        go_roundw
        case rel =>
          refine ⟨_, fuel, acc ++ [((Utf8.decode s pos).1 : Int)], X.out.2.1, ?_, X.out.2.2, HS2, by omega, by simp; omega⟩
          · have h := X.out.1
            rw [List.length_append]
            unfold rcells at h ⊢
            rw [List.map_append]; exact h
        case measure =>
          rw [riterPos_of X.out.2.1, hpos0]; omega
    · have hnx : ∀ ty, (Instr.next (.pointer (some ⟨w.heap.size, 0, none⟩)) true ty).run Tryz.prog wr = _ := fun ty => Lib.run_next_end_at wr w.heap.size s pos ty hit hp
      rw [runesX_end s fuel pos hp] at HS
      have eL : R = some acc := by rw [← HS]; simp
      subst eL
      go_wp2
      go_ret2
      exact ⟨_, rfl, hown, hbw⟩
end Go.Proofs.YtggcagclpkhlhaaGreatDoor
end
noncomputable section
/- name.Runes: its contract. -/
namespace Go.Proofs.YtggcagclpkhlhaaGreatDoor
open Pal
def runesB (s:List UInt8):Option (List Int × Bool):=bif Nat.ble s.length 1099511627776 then some (match runesX ⟨s.toArray⟩ s.length 0 with | some l=>(l,true) | none=>([],false)) else none
def runesE:Entry:=Sg.entry ⟨[.dat .str],[],.t2 (.dat (.slc (.int .i32))) (.dat .bool),[]⟩ runesB
theorem tabs_wf (G:Gh) (w:Go.World) (h:Wf G w) (ht:MonoC.tab G.I):Go.Lib.Utf8Tabs 0 1 w :=
 ⟨fun c hc=>h.holds _ _ _ (ht.1 c hc),fun i hi=>⟨h.holds _ _ _ (ht.2 i hi).1,h.holds _ _ _ (ht.2 i hi).2⟩⟩
theorem runes_ok:CallOK Tryz.prog 246 runesE :=
 pureSL_ok (T:=21) monoOff_off (enters_of Tryz.func246 (by kernel_rfl) rfl) tabs_wf fun s r h w hT=>by
  unfold runesB at h
  cases hz:Nat.ble s.length 1099511627776 with
  | false=>rw [hz] at h;cases h
  | true =>
   rw [hz,cond_true] at h
   have hsz:s.length≤1099511627776:=Nat.le_of_ble_eq_true hz
   have hsz1:(⟨s.toArray⟩:ByteArray).size=s.length:=by simp [ByteArray.size]
   have hw:=runesX_walk ⟨s.toArray⟩ _ rfl (by rw [hsz1];exact hsz) w hT
   rw [hsz1] at hw
   injection h with h
   subst h
   refine hw.mono fun e w' hh=>?_
   obtain ⟨v,rfl,hown,hb⟩:=hh
   have hbase:∀ {n:Nat} {xs:List Go.Value},w'.ownsRow (w.heap.size+1) 21 1 v n xs→w'.ownsRow w.heap.size 21 1 v n xs:=fun {n xs} h=>⟨h.1,h.2.imp id fun ⟨g,cap,cur,a,b,c⟩=>⟨g,cap,cur,a,by omega,c⟩⟩
   cases hr:runesX ⟨s.toArray⟩ s.length 0 with
   | none=>rw [hr] at hown;exact ⟨v,by rfl,hbase hown,hb⟩
   | some l=>rw [hr] at hown;exact ⟨v,by rfl,hbase hown,hb⟩
end Go.Proofs.YtggcagclpkhlhaaGreatDoor
end
