/- The functions that the statement reaches, and what they come to. Part 1. -/
import Derived.Test.YtfhcammihohmjaaGreatDoorProg
import Derived.Shelf.SlGeneric
import Derived.Shelf.SlLaysE0
import Derived.Shelf.SlLaysF0
import Derived.Ground.SlsfProg
import Derived.Ground.SlgnProg
import Derived.KernelRfl
import Derived.Shelf.SlSortCmp.KitK
import Derived.Shelf.SlicesE.DeleteFunc
import Derived.Sort.WalkB12
import Derived.Lib.SliceRun
import Derived.Shelf.Strings.Builder1
import Derived.WalkKit
import Derived.BigCall
import Derived.Laws.IdiomStrings
import Derived.RegionCalls
import Derived.Deep.RegionWith
import Derived.Lib.BufferRead
import Derived.WalkSpells
import Derived.Deep.LoopGhost
import Derived.Lib.OthersKept
import Derived.BigQuiet
import Derived.Deep.QuietTactic
import Derived.OwnWalk
import Derived.Shelf.Unicode.DecodeAny
import Derived.Lib.LaidU8T
import Derived.Lib.RuneCountTail
import Derived.Test.YtfhcammihohmjaaGreatDoorFw1
import Derived.Test.YtfhcammihohmjaaGreatDoorFw2
import Derived.Test.YtfhcammihohmjaaGreatDoorFw3
set_option linter.unusedVariables false
set_option linter.unusedSimpArgs false
set_option linter.unusedSectionVars false
noncomputable section
/- slices.Clone at bu: the vq, and its contract. -/
namespace Go.Proofs.YtfhcammihohmjaaGreatDoor
open Go.Shelf Go.RowKit Go.Lib
theorem G5:∃ i z,Tryz.prog.info? 39=some i∧i.zero=some z∧i.size=2∧i.bytes≤16384∧z.cells.size=2:=fZ (by kernel_rfl)
theorem uV:Tryz.prog.underlying 26=some (.slice 39):=by kernel_rfl
set_option maxHeartbeats 4000000 in
set_option maxRecDepth 100000 in
theorem tq (c:Nat) (w:World):Calls Tryz.prog 113 #[.slice none 0 c] w fun e w'=>e = .returned (.slice none 0 0)∧w'=w:=by
 have heq:(binOp .eql 26 (.slice none 0 c) (.slice none 0 0)).run Tryz.prog w = .ok (.bool true) w:=Go.run_eql_slice_nil (P:=Tryz.prog) w 26 39 none 0 c uV
 go_enter Tryz.func113,Tryz.ntmps113
 go_wp2
 all_goals (go_ret;exact ⟨rfl,rfl⟩)
set_option maxHeartbeats 4000000 in
set_option maxRecDepth 100000 in
theorem rF (a:Addr) (c:Nat) (w:World):Calls Tryz.prog 113 #[.slice (some a) 0 c] w fun e w'=>e = .returned (.slice (some ⟨w.heap.size,0,none⟩) 0 0)∧w'=w.alloc (.cells #[] 39):=by
 have heq:(binOp .eql 26 (.slice (some a) 0 c) (.slice none 0 0)).run Tryz.prog w = .ok (.bool false) w:=Go.run_eql_slice_nil (P:=Tryz.prog) w 26 39 (some a) 0 c uV
 go_enter Tryz.func113,Tryz.ntmps113
 go_wp2
 all_goals (go_ret;exact ⟨rfl,rfl⟩)
set_option maxHeartbeats 4000000 in
set_option maxRecDepth 100000 in
theorem rH (a:Addr) (n c:Nat) (cs:List Value) (w:World) (hn:0<n) (hbig:n≤4294967296) (hcl:cs.length=n * 2) (hcs:∀ (j:Nat) (v:Value),cs[j]? = some v→w.cell? (a.add j)=some v) (h1:∀ v ∈ cs,v.oneCell'=true) :
  Calls Tryz.prog 113 #[.slice (some a) n c] w fun e w'=>∃ cap,n≤cap∧cap≤9223372036854775807∧e = .returned (.slice (some ⟨w.heap.size+1,0,none⟩) n cap)∧∃ ROW:Array Value,ROW.size=cap * 2∧(∀ (j:Nat) (v:Value),cs[j]? = some v→ROW[j]? = some v)∧w'=(w.alloc (.cells #[] 39)).drew.alloc (.cells ROW 39):=by
 obtain ⟨i0,z0,hi0,hz0,hzs,hzb,hzc⟩:=G5
 obtain ⟨W,hW⟩:∃ W,W=w.alloc (.cells #[] 39):=⟨_,rfl⟩
 have hWs:W.heap.size=w.heap.size+1:=by rw [hW];simp
 have hsrc:Src Tryz.prog i0.size 26 (.slice (some a) n c) n cs W:=by
  rw [hzs]
  exact Src.ofSlice W uV a n c cs (by omega) (fun j u hj=>by rw [hW];exact Lib.cell?_alloc_some _ (hcs j u hj)) h1
 have hold:(Builtin.firstCells i0.size 0 (.slice (some ⟨w.heap.size,0,none⟩) 0 0)).run Tryz.prog W.drew = .ok ([]:List Value).toArray W.drew:=by
  rw [hzs]
  exact run_firstCells_some W.drew 2 0 ⟨w.heap.size,0,none⟩ 0 0 [] (by simp) (fun j v hj=>by simp at hj)
 have hge:=grownCap_ge W n 0 39
 have hle:=grownCap_le_maxLen W n 0 39 (by unfold maxLen;omega)
 unfold maxLen at hle
 obtain ⟨cap,hcap⟩:∃ cap,cap=grownCap W n 0 39:=⟨_,rfl⟩
 obtain ⟨ROW,hROW⟩:∃ ROW:Array Value,ROW=cs.toArray++Builtin.zeroCells z0.cells (cap - n):=⟨_,rfl⟩
 have hrun:∀ ty,(Builtin.append_ #[26,26] ty #[.slice (some ⟨w.heap.size,0,none⟩) 0 0,.slice (some a) n c]).run Tryz.prog W = .ok (.slice (some ⟨w.heap.size+1,0,none⟩) n cap) (W.drew.alloc (.cells ROW 39)):=fun ty=>by
  have h:=run_append_grow_src W 26 26 ty 39 i0 z0 uV hi0 hz0 (some ⟨w.heap.size,0,none⟩) 0 0 [] hold _ n cs hsrc (by omega) (by omega) (by rw [Nat.zero_add];have:=Nat.mul_le_mul hbig hzb;exact growslice_fits (by omega) (by omega))
  rw [Nat.zero_add,List.nil_append,← hcap,← hROW,hWs] at h
  exact h
 rw [← hcap] at hge hle
 have hRs:ROW.size=cap * 2:=by rw [hROW];simp [Builtin.zeroCells,hzc,hcl];omega
 have hRp:∀ (j:Nat) (v:Value),cs[j]? = some v→ROW[j]? = some v:=fun j v hj=>by
  have:=(List.getElem?_eq_some_iff.1 hj).1
  rw [hROW,Array.getElem?_append_left (by simpa using this)]
  simpa using hj
 clear hROW hcap hold
 subst hW
 have heq:(binOp .eql 26 (.slice (some a) n c) (.slice none 0 0)).run Tryz.prog w = .ok (.bool false) w:=Go.run_eql_slice_nil (P:=Tryz.prog) w 26 39 (some a) n c uV
 go_enter Tryz.func113,Tryz.ntmps113
 go_wp2_with (at_builtin;refine Lib.wpList_append_run _ rfl _ _ _ _ rfl _ _ rfl rfl _ _ (hrun _) ?_)
 all_goals (go_ret;exact ⟨cap,hge,hle,rfl,ROW,hRs,hRp,rfl⟩)
end Go.Proofs.YtfhcammihohmjaaGreatDoor
namespace Go.Proofs.YtfhcammihohmjaaGreatDoor.Pal
open Go Go.Sort
@[reducible] def kF:Ty:=(.pair (.int .i64) (.int .i64))
theorem o7:CallOK Tryz.prog 113 (iE kF):=by
 have eF:∀ args w,(callFunc 113 args).run Tryz.prog w = .ok (.enter 113 args) w:=enters_of Tryz.func113 (by kernel_rfl) rfl
 have val:∀ args objs v os,(iE kF).val args objs=some (v,os)→∃ (xs:List kF.D) (va:V),args=[va]∧V.as (.slc kF) va=some xs∧objs=[]∧xs.length≤4294967296∧v = .raw kF xs∧os=[]:=by
  intro args objs v os h
  unfold Entry.val iE at h
  simp only at h
  split at h
  ·rename_i va
   rw [Option.bind_eq_some_iff] at h
   obtain ⟨xs,hxs,h⟩:=h
   obtain ⟨hr,h⟩:=cw h
   injection h with h;injection h with h1 h2
   exact ⟨xs,va,rfl,hxs,rfl,by have:=hr;simp only [bm,List.length_nil,Nat.zero_add,decide_eq_true_eq] at this;exact this,h1.symm,h2.symm⟩
  ·cases h
 refine ⟨fun α args objs K=>?_,fun args objs vr os hval X G w argv tA tM hW hTab hX hA hM hcnt htok=>?_⟩
 ·unfold Entry.val iE
  simp only
  split
  ·rename_i va
   cases V.as (.slc kF) va with
   | none=>rfl
   | some ys=>simp only [Option.bind_some];rw [bX];rfl
  ·rfl
 ·obtain ⟨xs,va,rfl,hva,rfl,hlen,rfl,rfl⟩:=val _ _ _ _ hval
  obtain ⟨x2,r2,t5,t6,rfl,rfl,hx2,rfl,rfl⟩:=hA
  obtain ⟨ad,n,c,rfl,g2,g3,g4⟩:=(aY.as_ hva hx2).slc
  refine .inl ⟨eF _ _,?_⟩
  have empty:∀ (ad':Option Addr) (w':World),xs=[]→Evo X w w'→(∀ b o v,G.I b o=some v→w'.cell? ⟨b,o,none⟩=some v)→∃ G',uo X G w 0 (.raw kF xs) [] (.slice ad' 0 0) (some (.slice ad n c)) G' w':=by
   intro ad' w' hx hE hc
   subst hx
   exact ⟨G,⟨hE,Im.le_refl _,fun _ _ _ h=>.inl h,fun _ _ _=>rfl⟩,⟨hc,hW.io,fun b o k h=>Nat.lt_of_lt_of_le (hW.lt b o k h) hE.size,hW.whole⟩,fun _ _=>rfl,[],[],[],⟨_,⟨ad',0,0,rfl,rfl,by omega,.inl ⟨rfl,rfl⟩⟩,rfl⟩,rfl,rfl,fun q=>by simp,fun q hq=>by simp at hq⟩
  rcases Nat.eq_zero_or_pos n with h0 | h0
  ·have hxs:xs=[]:=List.eq_nil_of_length_eq_zero (by omega)
   subst h0
   cases ad with
   | none =>
    refine Calls.mono (tq c w) fun e' w' hh=>?_
    obtain ⟨rfl,rfl⟩:=hh
    exact empty none w' hxs (Evo.refl X w') hW.holds
   | some a =>
    refine Calls.mono (rF a c w) fun e' w' hh=>?_
    obtain ⟨rfl,rfl⟩:=hh
    exact empty _ _ hxs (Evo.alloc X w _) (fun b o v hv=>Lib.cell?_alloc_some _ (hW.holds b o v hv))
  ·rcases g4 with hx0 | ⟨b,o,rfl,hel⟩
   ·subst hx0;simp at g2;omega
   obtain ⟨cs,hcA,hcat⟩:=d8.all2 (fun x c=>aR.length kF x c) xs b o hel
   have hcl:cs.length=n * 2:=by rw [← g2];exact hcA.len
   refine Calls.mono (rH ⟨b,o,none⟩ n c cs w h0 (by omega) hcl (fun j v hj=>by rw [Addr.add_lit];exact hW.holds b _ v (hcat j v hj)) (fz xs cs hcA)) fun e' w' hh=>?_
   obtain ⟨cap,hge,hle,rfl,ROW,hRs,hRp,rfl⟩:=hh
   have hW1:((w.alloc (.cells #[] 39)).drew).heap.size=w.heap.size+1:=by show (w.heap.push _).size=_;simp
   have hnew:((w.alloc (.cells #[] 39)).drew.alloc (.cells ROW 39)).heap[w.heap.size+1]? = some (.cells ROW 39 (0,0)):=by
    show ((w.heap.push _).push _)[w.heap.size+1]? = _
    have:w.heap.size+1=(w.heap.push (Obj.cells #[] 39 (0,0))).size:=by simp
    rw [this];exact Array.getElem?_push_size
   have hE:Evo X w ((w.alloc (.cells #[] 39)).drew.alloc (.cells ROW 39)) :=
    (Evo.alloc X w _).trans ((Evo.drew X _).trans (Evo.alloc X _ _) (fun _ _ _ h=>h) (fun _ _ _ h=>h)) (fun _ _ _ h=>h) (fun _ _ _ h=>h)
   have hc:∀ b o v,G.I b o=some v→((w.alloc (.cells #[] 39)).drew.alloc (.cells ROW 39)).cell? ⟨b,o,none⟩=some v:=fun b o v hv=>by
    refine Lib.cell?_alloc_some _ ?_
    show (w.alloc (.cells #[] 39)).cell? ⟨b,o,none⟩=some v
    exact Lib.cell?_alloc_some _ (hW.holds b o v hv)
   have hIn:∀ o,G.I (w.heap.size+1) o=none:=fun o=>by
    cases hv:G.I (w.heap.size+1) o with
    | none=>rfl
    | some v=>have:=World.block_lt_of_cell? w _ (hW.holds _ _ v hv);have:w.heap.size+1<w.heap.size:=this;omega
   have hOn:∀ o,G.O (w.heap.size+1) o=none:=fun o=>by
    cases hv:G.O (w.heap.size+1) o with
    | none=>rfl
    | some v=>have:=hW.lt _ _ v hv;omega
   refine ⟨G,⟨hE,Im.le_refl _,fun _ _ _ h=>.inl h,fun _ _ _=>rfl⟩,⟨hc,hW.io,fun b o k h=>Nat.lt_of_lt_of_le (hW.lt b o k h) hE.size,hW.whole⟩,fun _ _=>rfl,[w.heap.size+1],[],[],⟨_,⟨_,n,cap,rfl,g2,⟨hge,hle⟩,.inr ⟨w.heap.size+1,rfl,rfl,⟨ROW,39,cs,hnew,hRs,hcA,hRp⟩,hIn,hOn⟩⟩,rfl⟩,rfl,rfl,fun q=>?_,fun q hq=>?_⟩
   ·have:bi q [w.heap.size+1]≤1:=by simp only [bi];exact List.count_le_length
    simpa using this
   ·have:q=w.heap.size+1:=by simpa [bb.symm] using hq
    subst this;exact .inl (by omega)
end Go.Proofs.YtfhcammihohmjaaGreatDoor.Pal
end
noncomputable section
/- slices.Clone at cG: the vq, and its contract. -/
namespace Go.Proofs.YtfhcammihohmjaaGreatDoor
open Go.Shelf Go.RowKit Go.Lib
theorem FU:∃ i z,Tryz.prog.info? 42=some i∧i.zero=some z∧i.size=6∧i.bytes≤16384∧z.cells.size=6:=fZ (by kernel_rfl)
theorem uR:Tryz.prog.underlying 22=some (.slice 42):=by kernel_rfl
set_option maxHeartbeats 4000000 in
set_option maxRecDepth 100000 in
theorem u3 (c:Nat) (w:World):Calls Tryz.prog 115 #[.slice none 0 c] w fun e w'=>e = .returned (.slice none 0 0)∧w'=w:=by
 have heq:(binOp .eql 22 (.slice none 0 c) (.slice none 0 0)).run Tryz.prog w = .ok (.bool true) w:=Go.run_eql_slice_nil (P:=Tryz.prog) w 22 42 none 0 c uR
 go_enter Tryz.func115,Tryz.ntmps115
 go_wp2
 all_goals (go_ret;exact ⟨rfl,rfl⟩)
set_option maxHeartbeats 4000000 in
set_option maxRecDepth 100000 in
theorem ry (a:Addr) (c:Nat) (w:World):Calls Tryz.prog 115 #[.slice (some a) 0 c] w fun e w'=>e = .returned (.slice (some ⟨w.heap.size,0,none⟩) 0 0)∧w'=w.alloc (.cells #[] 42):=by
 have heq:(binOp .eql 22 (.slice (some a) 0 c) (.slice none 0 0)).run Tryz.prog w = .ok (.bool false) w:=Go.run_eql_slice_nil (P:=Tryz.prog) w 22 42 (some a) 0 c uR
 go_enter Tryz.func115,Tryz.ntmps115
 go_wp2
 all_goals (go_ret;exact ⟨rfl,rfl⟩)
set_option maxHeartbeats 4000000 in
set_option maxRecDepth 100000 in
theorem rn (a:Addr) (n c:Nat) (cs:List Value) (w:World) (hn:0<n) (hbig:n≤4294967296) (hcl:cs.length=n * 6) (hcs:∀ (j:Nat) (v:Value),cs[j]? = some v→w.cell? (a.add j)=some v) (h1:∀ v ∈ cs,v.oneCell'=true) :
  Calls Tryz.prog 115 #[.slice (some a) n c] w fun e w'=>∃ cap,n≤cap∧cap≤9223372036854775807∧e = .returned (.slice (some ⟨w.heap.size+1,0,none⟩) n cap)∧∃ ROW:Array Value,ROW.size=cap * 6∧(∀ (j:Nat) (v:Value),cs[j]? = some v→ROW[j]? = some v)∧w'=(w.alloc (.cells #[] 42)).drew.alloc (.cells ROW 42):=by
 obtain ⟨i0,z0,hi0,hz0,hzs,hzb,hzc⟩:=FU
 obtain ⟨W,hW⟩:∃ W,W=w.alloc (.cells #[] 42):=⟨_,rfl⟩
 have hWs:W.heap.size=w.heap.size+1:=by rw [hW];simp
 have hsrc:Src Tryz.prog i0.size 22 (.slice (some a) n c) n cs W:=by
  rw [hzs]
  exact Src.ofSlice W uR a n c cs (by omega) (fun j u hj=>by rw [hW];exact Lib.cell?_alloc_some _ (hcs j u hj)) h1
 have hold:(Builtin.firstCells i0.size 0 (.slice (some ⟨w.heap.size,0,none⟩) 0 0)).run Tryz.prog W.drew = .ok ([]:List Value).toArray W.drew:=by
  rw [hzs]
  exact run_firstCells_some W.drew 6 0 ⟨w.heap.size,0,none⟩ 0 0 [] (by simp) (fun j v hj=>by simp at hj)
 have hge:=grownCap_ge W n 0 42
 have hle:=grownCap_le_maxLen W n 0 42 (by unfold maxLen;omega)
 unfold maxLen at hle
 obtain ⟨cap,hcap⟩:∃ cap,cap=grownCap W n 0 42:=⟨_,rfl⟩
 obtain ⟨ROW,hROW⟩:∃ ROW:Array Value,ROW=cs.toArray++Builtin.zeroCells z0.cells (cap - n):=⟨_,rfl⟩
 have hrun:∀ ty,(Builtin.append_ #[22,22] ty #[.slice (some ⟨w.heap.size,0,none⟩) 0 0,.slice (some a) n c]).run Tryz.prog W = .ok (.slice (some ⟨w.heap.size+1,0,none⟩) n cap) (W.drew.alloc (.cells ROW 42)):=fun ty=>by
  have h:=run_append_grow_src W 22 22 ty 42 i0 z0 uR hi0 hz0 (some ⟨w.heap.size,0,none⟩) 0 0 [] hold _ n cs hsrc (by omega) (by omega) (by rw [Nat.zero_add];have:=Nat.mul_le_mul hbig hzb;exact growslice_fits (by omega) (by omega))
  rw [Nat.zero_add,List.nil_append,← hcap,← hROW,hWs] at h
  exact h
 rw [← hcap] at hge hle
 have hRs:ROW.size=cap * 6:=by rw [hROW];simp [Builtin.zeroCells,hzc,hcl];omega
 have hRp:∀ (j:Nat) (v:Value),cs[j]? = some v→ROW[j]? = some v:=fun j v hj=>by
  have:=(List.getElem?_eq_some_iff.1 hj).1
  rw [hROW,Array.getElem?_append_left (by simpa using this)]
  simpa using hj
 clear hROW hcap hold
 subst hW
 have heq:(binOp .eql 22 (.slice (some a) n c) (.slice none 0 0)).run Tryz.prog w = .ok (.bool false) w:=Go.run_eql_slice_nil (P:=Tryz.prog) w 22 42 (some a) n c uR
 go_enter Tryz.func115,Tryz.ntmps115
 go_wp2_with (at_builtin;refine Lib.wpList_append_run _ rfl _ _ _ _ rfl _ _ rfl rfl _ _ (hrun _) ?_)
 all_goals (go_ret;exact ⟨cap,hge,hle,rfl,ROW,hRs,hRp,rfl⟩)
end Go.Proofs.YtfhcammihohmjaaGreatDoor
namespace Go.Proofs.YtfhcammihohmjaaGreatDoor.Pal
open Go Go.Sort
@[reducible] def jV:Ty:=(.pair (.pair (.int .i64) (.int .i64)) (.pair (.int .i64) (.pair (.int .i64) (.pair .bool (.slc (.pair (.int .i64) (.pair (.slc .str) (.pair (.pair (.int .i64) (.pair (.int .i64) .str)) (.pair (.int .i64) (.slc (.pair (.pair (.int .i64) (.int .i64)) (.int .i64))))))))))))
theorem uE:CallOK Tryz.prog 115 (iE jV):=by
 have eF:∀ args w,(callFunc 115 args).run Tryz.prog w = .ok (.enter 115 args) w:=enters_of Tryz.func115 (by kernel_rfl) rfl
 have val:∀ args objs v os,(iE jV).val args objs=some (v,os)→∃ (xs:List jV.D) (va:V),args=[va]∧V.as (.slc jV) va=some xs∧objs=[]∧xs.length≤4294967296∧v = .raw jV xs∧os=[]:=by
  intro args objs v os h
  unfold Entry.val iE at h
  simp only at h
  split at h
  ·rename_i va
   rw [Option.bind_eq_some_iff] at h
   obtain ⟨xs,hxs,h⟩:=h
   obtain ⟨hr,h⟩:=cw h
   injection h with h;injection h with h1 h2
   exact ⟨xs,va,rfl,hxs,rfl,by have:=hr;simp only [bm,List.length_nil,Nat.zero_add,decide_eq_true_eq] at this;exact this,h1.symm,h2.symm⟩
  ·cases h
 refine ⟨fun α args objs K=>?_,fun args objs vr os hval X G w argv tA tM hW hTab hX hA hM hcnt htok=>?_⟩
 ·unfold Entry.val iE
  simp only
  split
  ·rename_i va
   cases V.as (.slc jV) va with
   | none=>rfl
   | some ys=>simp only [Option.bind_some];rw [bX];rfl
  ·rfl
 ·obtain ⟨xs,va,rfl,hva,rfl,hlen,rfl,rfl⟩:=val _ _ _ _ hval
  obtain ⟨x2,r2,t5,t6,rfl,rfl,hx2,rfl,rfl⟩:=hA
  obtain ⟨ad,n,c,rfl,g2,g3,g4⟩:=(aY.as_ hva hx2).slc
  refine .inl ⟨eF _ _,?_⟩
  have empty:∀ (ad':Option Addr) (w':World),xs=[]→Evo X w w'→(∀ b o v,G.I b o=some v→w'.cell? ⟨b,o,none⟩=some v)→∃ G',uo X G w 0 (.raw jV xs) [] (.slice ad' 0 0) (some (.slice ad n c)) G' w':=by
   intro ad' w' hx hE hc
   subst hx
   exact ⟨G,⟨hE,Im.le_refl _,fun _ _ _ h=>.inl h,fun _ _ _=>rfl⟩,⟨hc,hW.io,fun b o k h=>Nat.lt_of_lt_of_le (hW.lt b o k h) hE.size,hW.whole⟩,fun _ _=>rfl,[],[],[],⟨_,⟨ad',0,0,rfl,rfl,by omega,.inl ⟨rfl,rfl⟩⟩,rfl⟩,rfl,rfl,fun q=>by simp,fun q hq=>by simp at hq⟩
  rcases Nat.eq_zero_or_pos n with h0 | h0
  ·have hxs:xs=[]:=List.eq_nil_of_length_eq_zero (by omega)
   subst h0
   cases ad with
   | none =>
    refine Calls.mono (u3 c w) fun e' w' hh=>?_
    obtain ⟨rfl,rfl⟩:=hh
    exact empty none w' hxs (Evo.refl X w') hW.holds
   | some a =>
    refine Calls.mono (ry a c w) fun e' w' hh=>?_
    obtain ⟨rfl,rfl⟩:=hh
    exact empty _ _ hxs (Evo.alloc X w _) (fun b o v hv=>Lib.cell?_alloc_some _ (hW.holds b o v hv))
  ·rcases g4 with hx0 | ⟨b,o,rfl,hel⟩
   ·subst hx0;simp at g2;omega
   obtain ⟨cs,hcA,hcat⟩:=d8.all2 (fun x c=>aR.length jV x c) xs b o hel
   have hcl:cs.length=n * 6:=by rw [← g2];exact hcA.len
   refine Calls.mono (rn ⟨b,o,none⟩ n c cs w h0 (by omega) hcl (fun j v hj=>by rw [Addr.add_lit];exact hW.holds b _ v (hcat j v hj)) (fz xs cs hcA)) fun e' w' hh=>?_
   obtain ⟨cap,hge,hle,rfl,ROW,hRs,hRp,rfl⟩:=hh
   have hW1:((w.alloc (.cells #[] 42)).drew).heap.size=w.heap.size+1:=by show (w.heap.push _).size=_;simp
   have hnew:((w.alloc (.cells #[] 42)).drew.alloc (.cells ROW 42)).heap[w.heap.size+1]? = some (.cells ROW 42 (0,0)):=by
    show ((w.heap.push _).push _)[w.heap.size+1]? = _
    have:w.heap.size+1=(w.heap.push (Obj.cells #[] 42 (0,0))).size:=by simp
    rw [this];exact Array.getElem?_push_size
   have hE:Evo X w ((w.alloc (.cells #[] 42)).drew.alloc (.cells ROW 42)) :=
    (Evo.alloc X w _).trans ((Evo.drew X _).trans (Evo.alloc X _ _) (fun _ _ _ h=>h) (fun _ _ _ h=>h)) (fun _ _ _ h=>h) (fun _ _ _ h=>h)
   have hc:∀ b o v,G.I b o=some v→((w.alloc (.cells #[] 42)).drew.alloc (.cells ROW 42)).cell? ⟨b,o,none⟩=some v:=fun b o v hv=>by
    refine Lib.cell?_alloc_some _ ?_
    show (w.alloc (.cells #[] 42)).cell? ⟨b,o,none⟩=some v
    exact Lib.cell?_alloc_some _ (hW.holds b o v hv)
   have hIn:∀ o,G.I (w.heap.size+1) o=none:=fun o=>by
    cases hv:G.I (w.heap.size+1) o with
    | none=>rfl
    | some v=>have:=World.block_lt_of_cell? w _ (hW.holds _ _ v hv);have:w.heap.size+1<w.heap.size:=this;omega
   have hOn:∀ o,G.O (w.heap.size+1) o=none:=fun o=>by
    cases hv:G.O (w.heap.size+1) o with
    | none=>rfl
    | some v=>have:=hW.lt _ _ v hv;omega
   refine ⟨G,⟨hE,Im.le_refl _,fun _ _ _ h=>.inl h,fun _ _ _=>rfl⟩,⟨hc,hW.io,fun b o k h=>Nat.lt_of_lt_of_le (hW.lt b o k h) hE.size,hW.whole⟩,fun _ _=>rfl,[w.heap.size+1],[],[],⟨_,⟨_,n,cap,rfl,g2,⟨hge,hle⟩,.inr ⟨w.heap.size+1,rfl,rfl,⟨ROW,42,cs,hnew,hRs,hcA,hRp⟩,hIn,hOn⟩⟩,rfl⟩,rfl,rfl,fun q=>?_,fun q hq=>?_⟩
   ·have:bi q [w.heap.size+1]≤1:=by simp only [bi];exact List.count_le_length
    simpa using this
   ·have:q=w.heap.size+1:=by simpa [bb.symm] using hq
    subst this;exact .inl (by omega)
end Go.Proofs.YtfhcammihohmjaaGreatDoor.Pal
end
noncomputable section
/- slices.Clone at bq: the vq, and its contract. -/
namespace Go.Proofs.YtfhcammihohmjaaGreatDoor
open Go.Shelf Go.RowKit Go.Lib
end Go.Proofs.YtfhcammihohmjaaGreatDoor
namespace Go.Proofs.YtfhcammihohmjaaGreatDoor.Pal
open Go Go.Sort
@[reducible] def GF:Ty:=(.pair (.pair (.int .i64) (.int .i64)) (.int .i64))
end Go.Proofs.YtfhcammihohmjaaGreatDoor.Pal
end
noncomputable section
/- slices.Grow at bu: the vq, and its contract. -/
namespace Go.Proofs.YtfhcammihohmjaaGreatDoor
open Go.Shelf Go.RowKit Go.Lib
theorem G7:∃ i z,Tryz.prog.info? 39=some i∧i.zero=some z∧i.size=2∧i.bytes≤16384∧z.cells.size=2:=fZ (by kernel_rfl)
theorem FX:Tryz.prog.underlying 26=some (.slice 39):=by kernel_rfl
theorem F9:Tryz.prog.underlying 3=some (.int .i64):=by kernel_rfl
set_option maxHeartbeats 4000000 in
set_option maxRecDepth 100000 in
theorem ud (base : Option Addr) (len cap n : Nat) (olds : List Value) (w : World) (hlc : len ≤ cap) (hc63 : cap ≤ 9223372036854775807) (hgt : cap < len + n) (hbig : len + n ≤ 8589934592) (hol : olds.length = cap * 2) (hnil : base = none → cap = 0)
    (hcs:∀ a,base=some a→∀ (j:Nat) (v:Value),olds[j]? = some v→w.cell? (a.add j)=some v) :
    Calls Tryz.prog 255 #[.slice base len cap, .int .i64 n] w fun e w' => e = .returned (.slice (some ⟨w.heap.size, 0, none⟩) len (grownCap w (len + n) cap 39)) ∧
      ∃ ROW:Array Value,ROW.size=grownCap w (len+n) cap 39 * 2∧(∀ (j:Nat) (v:Value),olds[j]? = some v→ROW[j]? = some v)∧w'=w.drew.alloc (.cells ROW 39):=by
  obtain ⟨i0,z0,hi0,hz0,hzs,hzb,hzc⟩:=G7
  have h1:¬ ((n:Int)<0):=by omega
  have hw:IntKind.i64.wrap ((cap:Int) - (len:Int))=(cap:Int) - (len:Int):=by rw [IntKind.wrap_i64];omega
  have hw2:IntKind.i64.wrap ((n:Int) - ((cap:Int) - (len:Int)))=((len+n - cap:Nat):Int):=by rw [IntKind.wrap_i64];omega
  have h2:(0:Int)<((len+n - cap:Nat):Int):=by omega
  have hik:cap+(len+n - cap)=len+n:=by omega
  have hold : (Builtin.firstCells i0.size cap (.slice base cap cap)).run Tryz.prog w.drew = .ok olds.toArray w.drew := by
    rw [hzs]
    cases base with
    | none =>
      have h0:=hnil rfl
      subst h0
      rw [List.length_eq_zero_iff.1 hol]
      exact run_firstCells_none w.drew 2 0 0 0
    | some a=>exact run_firstCells_some w.drew 2 cap a cap cap olds (by omega) (fun j v hj=>hcs a rfl j v hj)
  have hrz : ∀ ty, (Builtin.append_ #[26, 3] ty #[.slice base cap cap, .int .i64 ((len + n - cap : Nat) : Int)]).run Tryz.prog w =
      .ok (.slice (some ⟨w.heap.size,0,none⟩) (len+n) (grownCap w (len+n) cap 39)) (w.drew.alloc (.cells (olds.toArray++Builtin.zeroCells z0.cells (len+n - cap)++Builtin.zeroCells z0.cells (grownCap w (len+n) cap 39 - (len+n))) 39)):=fun ty=>by
    have h:=Lib.run_append_grow_zeros w 26 3 ty 39 i0 z0 .i64 .i64 FX F9 hi0 hz0 base cap cap olds hold (len+n - cap) (by omega) (by omega) (by omega) (by omega) (by have:=Nat.mul_le_mul (show len+n - cap≤8589934592 by omega) hzb;omega) (by rw [hik];have:=Nat.mul_le_mul hbig hzb;exact growslice_fits hgt (by omega))
    rw [hik] at h
    exact h
  have hGn:len+n≤grownCap w (len+n) cap 39:=grownCap_ge w _ _ _
  have hG63 : grownCap w (len + n) cap 39 ≤ 9223372036854775807 := by
    have:=grownCap_le_maxLen w (len+n) cap 39 (by unfold maxLen;omega)
    unfold maxLen at this
    omega
  obtain ⟨ROW,hROW⟩:∃ ROW:Array Value,ROW=olds.toArray++Builtin.zeroCells z0.cells (len+n - cap)++Builtin.zeroCells z0.cells (grownCap w (len+n) cap 39 - (len+n)):=⟨_,rfl⟩
  rw [← hROW] at hrz
  have hRs:ROW.size=grownCap w (len+n) cap 39 * 2:=by rw [hROW];simp [Builtin.zeroCells,hzc,hol];omega
  have hRp : ∀ (j : Nat) (v : Value), olds[j]? = some v → ROW[j]? = some v := fun j v hj => by
    have:=(List.getElem?_eq_some_iff.1 hj).1
    rw [hROW,Array.getElem?_append_left (by simp;omega),Array.getElem?_append_left (by simpa using this)]
    simpa using hj
  clear hROW
  generalize grownCap w (len+n) cap 39=G at hrz hGn hG63 hRs ⊢
  generalize hk:len+n - cap=q at hrz hw2 h2 hik ⊢
  have hlG:(len:Int)≤(G:Int):=by omega
  have hlc':(len:Int)≤(cap:Int):=by omega
  clear hold hcs
  go_enter Tryz.func255,Tryz.ntmps255
  cases base with
  | none =>
    have h0:=hnil rfl
    subst h0
    have hl0:len=0:=by omega
    subst hl0
    have hqn:q=n:=by omega
    subst hqn
    rw [Nat.zero_add] at hrz hGn
    clear hw hw2 hik hlG hlc' hk hgt
    have hgt:(0:Int)<(q:Int):=h2
    go_wp2_with (at_builtin;refine Lib.wpList_append_run _ rfl _ _ _ _ rfl _ _ rfl rfl _ _ (hrz _) ?_)
    all_goals (go_ret;first | exact ⟨rfl,ROW,hRs,hRp,rfl⟩ | exact ⟨rfl,ROW,hRs,rfl⟩)
  | some a =>
    obtain ⟨ab,ao,asp⟩:=a
    go_wp2_with (at_builtin;refine Lib.wpList_append_run _ rfl _ _ _ _ rfl _ _ rfl rfl _ _ (hrz _) ?_)
    all_goals (go_ret;first | exact ⟨rfl,ROW,hRs,hRp,rfl⟩ | exact ⟨rfl,ROW,hRs,rfl⟩)

set_option maxHeartbeats 4000000 in
set_option maxRecDepth 100000 in
theorem tN (base:Option Addr) (len cap n:Nat) (w:World) (hlc:len≤cap) (hc63:cap≤9223372036854775807) (hgt:len+n≤cap) :
  Calls Tryz.prog 255 #[.slice base len cap,.int .i64 n] w fun e w'=>e = .returned (.slice base len cap)∧w'=w:=by
 have h1:¬ ((n:Int)<0):=by omega
 have hw:IntKind.i64.wrap ((cap:Int) - (len:Int))=(cap:Int) - (len:Int):=by rw [IntKind.wrap_i64];omega
 have hw2:IntKind.i64.wrap ((n:Int) - ((cap:Int) - (len:Int)))=(n:Int) - ((cap:Int) - (len:Int)):=by rw [IntKind.wrap_i64];omega
 have h2:¬ (0:Int)<(n:Int) - ((cap:Int) - (len:Int)):=by omega
 go_enter Tryz.func255,Tryz.ntmps255
 go_wp2
 all_goals first
  | (go_ret;exact ⟨rfl,rfl⟩)
  | (exfalso;omega)
end Go.Proofs.YtfhcammihohmjaaGreatDoor
namespace Go.Proofs.YtfhcammihohmjaaGreatDoor.Pal
open Go Go.Sort
theorem uJ {a b:Int} (h:aq a b=false):b≤a:=by simp [aq] at h;exact h
@[reducible] def kc:Ty:=(.pair (.int .i64) (.int .i64))
theorem yy:CallOK Tryz.prog 255 (wm kc):=by
 have eF:∀ args w,(callFunc 255 args).run Tryz.prog w = .ok (.enter 255 args) w:=enters_of Tryz.func255 (by kernel_rfl) rfl
 have val:∀ args objs v os,(wm kc).val args objs=some (v,os)→∃ (xs:List kc.D) (n:Int),args=[.own kc xs,.dat (.int .i64) n]∧objs=[]∧(0≤n∧n≤4294967296)∧xs.length≤4294967296∧v = .own kc xs∧os=[]:=by
  intro args objs v os h
  unfold Entry.val wm at h
  simp only at h
  split at h
  ·rename_i e' xs n
   split at h
   ·rename_i he;subst he
    obtain ⟨h1,h⟩:=lh h
    obtain ⟨h2,h⟩:=lh h
    obtain ⟨hr,h⟩:=cw h
    injection h with h;injection h with h3 h4
    exact ⟨xs,n,rfl,rfl,⟨uJ h1,uJ h2⟩,by have:=hr;simp only [bm,List.length_nil,Nat.zero_add,decide_eq_true_eq] at this;exact this,h3.symm,h4.symm⟩
   ·cases h
  ·cases h
 refine ⟨fun α args objs K=>?_,fun args objs vr os hval X G w argv tA tM hW hTab hX hA hM hcnt htok=>?_⟩
 ·unfold Entry.val wm
  simp only
  split
  ·split
   ·rw [bX,bX,bX];rfl
   ·rfl
  ·rfl
 ·obtain ⟨xs,nn,rfl,rfl,⟨hn0,hn1⟩,hlen,rfl,rfl⟩:=val _ _ _ _ hval
  obtain ⟨n,rfl⟩:∃ n:Nat,nn=(n:Int):=⟨nn.toNat,by omega⟩
  obtain ⟨x0,r0,t1,t2,rfl,rfl,hx0,x1,r1,t3,t4,rfl,rfl,⟨cs1,⟨f1,f2⟩,hx1⟩,rfl,rfl⟩:=hA
  have hx0':=hx0
  obtain ⟨cs0,⟨ad,len,cap,e1,e2,e3,e4⟩,hx⟩:=hx0
  simp only [V.agg,Bool.false_eq_true,if_false] at hx hx1
  rw [e1] at hx
  have f1:cs1=[.int .i64 n]:=f1
  rw [f1] at hx1
  simp only [Ty.agg,Bool.false_eq_true,if_false,List.cons.injEq,and_true] at hx hx1
  subst hx;subst hx1;subst f2
  obtain ⟨hM1,hM2⟩:tM=[]∧True:=⟨hM,trivial⟩
  refine .inl ⟨eF _ _,?_⟩
  by_cases hstay:len+n≤cap
  ·refine Calls.mono (tN ad len cap n w e3.1 e3.2 hstay) fun e' w' hh=>?_
   obtain ⟨rfl,rfl⟩:=hh
   exact ⟨G,Ev.refl _ _ _,hW,fun _ _=>rfl,t1,[],[],hx0',rfl,rfl,fun q=>by have:=hcnt q;simp at this ⊢;omega,fun q hq=>.inr (htok q (by simp at hq ⊢;omega))⟩
  ·have hbig:len+n≤8589934592:=by omega
   obtain ⟨olds,hol,hnil,hcs,vs,hvA,hpre⟩:∃ olds:List Value,olds.length=cap * 2∧(ad=none→cap=0)∧(∀ a,ad=some a→∀ (j:Nat) (v:Value),olds[j]? = some v→w.cell? (a.add j)=some v)∧∃ vs,bC (aR G.I kc) xs vs∧∀ (j:Nat) (v:Value),vs[j]? = some v→olds[j]? = some v:=by
    rcases e4 with ⟨hc0,_⟩ | ⟨gb,rfl,_,hel,⟨cells,ty,hgc,hs⟩,_,_⟩
    ·have:xs=[]:=List.eq_nil_of_length_eq_zero (by omega)
     subst this
     exact ⟨[],by rw [hc0];rfl,fun _=>hc0,fun a _ j v hj=>(by simp at hj),[],rfl,fun j v hj=>(by simp at hj)⟩
    ·obtain ⟨vs,hvA,hvat⟩:=d8.all2 (fun x c=>aR.length kc x c) xs gb 0 hel
     refine ⟨cells.toList,by simp [hs];rfl,fun h=>(by cases h),fun a ha j v hj=>?_,vs,hvA,fun j v hj=>?_⟩
     ·injection ha with ha;subst ha
      rw [Addr.add_lit,bF hgc,Nat.zero_add];simpa using hj
     ·have:=hW.holds gb _ v (hvat j v hj)
      rw [Nat.zero_add,bF hgc] at this
      simpa using this
   refine Calls.mono (ud ad len cap n olds w e3.1 e3.2 (by omega) hbig hol hnil hcs) fun e' w' hh=>?_
   obtain ⟨rfl,ROW,hRs,hRp,rfl⟩:=hh
   have hge:=grownCap_ge w (len+n) cap 39
   have hle:=grownCap_le_maxLen w (len+n) cap 39 (by unfold maxLen;omega)
   unfold maxLen at hle
   obtain ⟨G2,hG2⟩:∃ G2,G2=grownCap w (len+n) cap 39:=⟨_,rfl⟩
   rw [← hG2] at hge hle hRs ⊢
   have hnew:(w.drew.alloc (.cells ROW 39)).heap[w.heap.size]? = some (.cells ROW 39 (0,0)):=by show (w.heap.push _)[w.heap.size]? = _;simp
   have hk1:∀ b,b<w.heap.size→(w.drew.alloc (.cells ROW 39)).heap[b]? = w.heap[b]?:=fun b hb=>by
    show (w.heap.push _)[b]? = _
    rw [Array.getElem?_push_lt hb,Array.getElem?_eq_getElem hb]
   have:=fU (e:=kc) (zs:=xs) (X:=X) (ax:=some (.slice ad len cap)) (cap:=G2) (w':=w.drew.alloc (.cells ROW 39)) hW ⟨rfl,rfl,rfl,by show _≤(w.heap.push _).size;simp,fun b hb=>.inl (hk1 b hb),fun _=>by show w.drawn≤w.drawn+1;omega⟩ (fun b hb _=>hk1 b hb) hnew hRs ⟨by omega,hle⟩ hvA (fun j v hj=>by
    rw [bF hnew];exact hRp j v (hpre j v hj)) (fun o=>(hW.none_new o).1) (fun o=>(hW.none_new o).2) (.inl (Nat.le_refl _))
   rw [e2] at this
   exact this
end Go.Proofs.YtfhcammihohmjaaGreatDoor.Pal
end
noncomputable section
/- slices.Insert at bu: the vq, and its contract. -/
namespace Go.Proofs.YtfhcammihohmjaaGreatDoor
open Go.Shelf Go.RowKit Go.Lib
theorem Bj:∃ i z,Tryz.prog.info? 39=some i∧i.zero=some z∧i.size=2∧i.bytes≤16384∧z.cells.size=2:=fZ (by kernel_rfl)
theorem qZ:Tryz.prog.underlying 26=some (.slice 39):=by kernel_rfl
theorem Gu:Tryz.prog.underlying 3=some (.int .i64):=by kernel_rfl
theorem FV:∀ w,(Go.sizeOf 39).run Tryz.prog w = .ok 2 w:=fun w=>by
 obtain ⟨i,z,h1,h2,h3,h4⟩:=Bj
 simp [Go.sizeOf,typeInfo,h1,h3]
theorem FS:(Tryz.prog.info? 39).map (·.size)=some 2:=by
 obtain ⟨i,z,h1,h2,h3,h4⟩:=Bj
 rw [h1];simp [h3]
set_option maxHeartbeats 4000000 in
set_option maxRecDepth 100000 in
theorem tz (b off n c i vb voff m vc:Nat) (cs vs:List Value) (w:World) (hi:i<n) (hm:0<m) (hroom:n+m≤c) (hc63:c≤9223372036854775807) (hvb:vb ≠ b)
  (hcl:cs.length=n * 2) (hvl:vs.length=m * 2)
  (hcs:∀ j v,cs[j]? = some v→w.cell? ⟨b,off+j,none⟩=some v) (hsp:∀ j,j<(n+m) * 2→(w.cell? ⟨b,off+j,none⟩).isSome=true) (hfz:∀ j,j<(n+m) * 2→w.frozen? ⟨b,off+j,none⟩=false)
  (hvs:∀ j v,vs[j]? = some v→w.cell? ⟨vb,voff+j,none⟩=some v) (h1c:∀ v ∈ cs,v.oneCell'=true) (h1v:∀ v ∈ vs,v.oneCell'=true)
  (tA tB:TypeId) (kA kB:Nat) (hsa:w.shape? vb=some (tA,kA)) (hsb:w.shape? b=some (tB,kB)) (hkA:kA ≠ 0) (hfa:∀ o,w.frozen? ⟨b,o,none⟩=false) :
  Calls Tryz.prog 184 #[.slice (some ⟨b,off,none⟩) n c,.int .i64 i,.slice (some ⟨vb,voff,none⟩) m vc] w fun e w' =>
   e = .returned (.slice (some ⟨b,off,none⟩) (n+m) c)∧w'=(w.drew.setCells b (off+(i+m) * 2) (cs.drop (i * 2))).setCells b (off+i * 2) vs:=by
 have hz1:¬ ((m:Int)=0):=by omega
 have hz2:¬ ((i:Int)=(n:Int)):=by omega
 have hsz:(Tryz.prog.info? 39).map (·.size)=some 2:=FS
 have hov:∀ lb cb,(callFunc 229 #[.slice (some ⟨vb,voff,none⟩) m vc,.slice (some ⟨b,off+(i+m) * 2,none⟩) lb cb]).run Tryz.prog w = .ok (.value (.bool false)) w:=fun lb cb=>by
  rw [run_callFunc_extern Tryz.func229 (by kernel_rfl) (by kernel_rfl) (by kernel_rfl) (e:=Extern.SlicesOverlaps.overlaps #[26,26] #[4]) (by kernel_rfl),
   jX w 26 4 39 qZ 2 FV ⟨vb,voff,none⟩ ⟨b,off+(i+m) * 2,none⟩ m vc lb cb hvb tA tB kA kB hsa hsb hkA (hfa _) (hfa _)]
  rfl
 have hdl:(cs.drop (i * 2)).length=(n - i) * 2:=by rw [List.length_drop,hcl];omega
 have hw1:IntKind.i64.wrap ((i:Int)+(m:Int))=(i:Int)+(m:Int):=by rw [IntKind.wrap_i64];omega
 have hb1:(0:Int)≤(i:Int)+(m:Int):=by omega
 have hin:i≤n:=by omega
 have htn:((i:Int)+(m:Int)).toNat=i+m:=by omega
 have hb2:¬ (c=i+m):=by omega
 have hb3:(i:Int)≤(n:Int)+(m:Int):=by omega
 have hb4:¬ (c=i):=by omega
 have hcp1:∀ ty dc sc,(Builtin.copy_ #[26,26] ty #[.slice (some ⟨b,off+(i+m) * 2,none⟩) (n+m - (i+m)) dc,.slice (some ⟨b,off+i * 2,none⟩) (n+m - i) sc]).run Tryz.prog w.drew = .ok (goInt (n - i:Nat)) (w.drew.setCells b (off+(i+m) * 2) (cs.drop (i * 2))):=fun ty dc sc =>
  eP 2 w.drew _ _ ty 39 b (off+(i+m) * 2) (n+m - (i+m)) dc ⟨b,off+i * 2,none⟩ (n+m - i) sc (cs.drop (i * 2)) qZ hsz (n - i) (by simp only [Nat.min_def];split <;> omega) hdl
   (fun j v hj=>by rw [Addr.add_lit,Nat.add_assoc];exact hcs (i * 2+j) v (by rwa [List.getElem?_drop] at hj))
   (fun j hj=>by rw [Nat.add_assoc];exact hsp _ (by omega)) (fun j hj=>by rw [Nat.add_assoc];exact hfz _ (by omega)) (fun v hv=>h1c v (List.mem_of_mem_drop hv))
 obtain ⟨W1,hW1⟩:∃ W1,W1=w.drew.setCells b (off+(i+m) * 2) (cs.drop (i * 2)):=⟨_,rfl⟩
 have hsp1:∀ k,k<(n+m) * 2→(W1.cell? ⟨b,off+k,none⟩).isSome=true:=fun k hk=>by
  rw [hW1]
  exact isSome_setCells b _ _ _ (fun j hj=>by rw [Nat.add_assoc];exact hsp _ (by omega)) _ (hsp k hk)
 have hcp2:∀ (W:World),(∀ x,W.cell? x=W1.cell? x)→(∀ x,W.frozen? x=W1.frozen? x)→∀ ty dc,(Builtin.copy_ #[26,26] ty #[.slice (some ⟨b,off+i * 2,none⟩) (n+m - i) dc,.slice (some ⟨vb,voff,none⟩) m vc]).run Tryz.prog W = .ok (goInt (m:Nat)) (W.setCells b (off+i * 2) vs):=fun W hWc hWf ty dc =>
  eP 2 W _ _ ty 39 b (off+i * 2) (n+m - i) dc ⟨vb,voff,none⟩ m vc vs qZ hsz m (by simp only [Nat.min_def];split <;> omega) hvl
   (fun j v hj=>by
    rw [Addr.add_lit,hWc,hW1,World.cell?_setCells_out b _ _ _ _ (fun h _=>absurd h hvb)]
    exact hvs j v hj)
   (fun j hj=>by rw [hWc,Nat.add_assoc];exact hsp1 _ (by omega)) (fun j hj=>by rw [hWf,hW1,World.frozen?_setCells,Nat.add_assoc];exact hfz _ (by omega)) h1v
 rw [← hW1] at hcp1
 have mixed:Tryz.prog.follows .mixedOrders=true:=by kernel_rfl
 go_enter Tryz.func184,Tryz.ntmps184
 go_wp2_with (simp only [hov])
 go_region_law_o (refine step_copy_runI rfl _ _ 26 26 rfl _ _ (by simp [Act.eval,Act.put]) (by simp [Act.eval,Act.put]) (hcp1 _ _ _) ?_)
 go_wp2_with (at_builtin;refine wpList_copy_runI _ rfl _ _ 26 26 rfl _ _ rfl rfl (hcp2 _ (fun _=>rfl) (fun _=>rfl) _ _) ?_)
 go_ret
 first | exact ⟨rfl,rfl⟩ | exact ⟨rfl,by rw [hW1]⟩

set_option maxHeartbeats 4000000 in
set_option maxRecDepth 100000 in
theorem oE (b off n c vb voff m vc : Nat) (vs : List Value) (w : World) (hm : 0 < m) (hroom : n + m ≤ c) (hc63 : c ≤ 9223372036854775807)
    (hvl:vs.length=m * 2) (hsp:∀ j,j<m * 2→(w.cell? ⟨b,off+n * 2+j,none⟩).isSome=true) (hfz:∀ j,j<m * 2→w.frozen? ⟨b,off+n * 2+j,none⟩=false)
    (hvs:∀ j v,vs[j]? = some v→w.cell? ⟨vb,voff+j,none⟩=some v) (h1v:∀ v ∈ vs,v.oneCell'=true) :
    Calls Tryz.prog 184 #[.slice (some ⟨b, off, none⟩) n c, .int .i64 n, .slice (some ⟨vb, voff, none⟩) m vc] w fun e w' =>
      e = .returned (.slice (some ⟨b,off,none⟩) (n+m) c)∧w'=w.setCells b (off+n * 2) vs:=by
  have hz1:¬ ((m:Int)=0):=by omega
  obtain ⟨i0,z0,hi0,hz0,hzs,hzb,hzc⟩:=Bj
  have hsrc : Src Tryz.prog i0.size 26 (.slice (some ⟨vb, voff, none⟩) m vc) m vs w := by
   rw [hzs]
   exact Src.ofSlice w qZ ⟨vb,voff,none⟩ m vc vs (by omega) (fun j u hj=>by rw [Addr.add_lit];exact hvs j u hj) h1v
  go_enter Tryz.func184,Tryz.ntmps184
  go_wp2_with (at_builtin;refine wpList_append_room_src _ rfl _ _ 26 26 rfl 39 i0 qZ hi0 b off n c rfl _ rfl m vs hsrc hroom (by rw [hvl,hzs];exact hsp) (by rw [hvl,hzs];exact hfz) ?_)
  go_ret
  exact ⟨rfl,rfl⟩

set_option maxHeartbeats 4000000 in
set_option maxRecDepth 100000 in
theorem ow (base:Option Addr) (n c vb voff m vc:Nat) (cs vs:List Value) (w:World) (hm:0<m) (hnc:n≤c) (hroom:c<n+m) (hbig:n+m≤4294967296)
  (hcl:cs.length=n * 2) (hvl:vs.length=m * 2) (hnil:base=none→n=0)
  (hcs:∀ a,base=some a→∀ (j:Nat) (v:Value),cs[j]? = some v→w.cell? (a.add j)=some v)
  (hvs:∀ j v,vs[j]? = some v→w.cell? ⟨vb,voff+j,none⟩=some v) (h1v:∀ v ∈ vs,v.oneCell'=true) :
  Calls Tryz.prog 184 #[.slice base n c,.int .i64 n,.slice (some ⟨vb,voff,none⟩) m vc] w fun e w' =>
   e = .returned (.slice (some ⟨w.heap.size,0,none⟩) (n+m) (grownCap w (n+m) c 39)) ∧
   ∃ ROW:Array Value,ROW.size=grownCap w (n+m) c 39 * 2∧(∀ (j:Nat) (v:Value),(cs++vs)[j]? = some v→ROW[j]? = some v)∧w'=w.drew.alloc (.cells ROW 39):=by
 obtain ⟨i0,z0,hi0,hz0,hzs,hzb,hzc⟩:=Bj
 have hz1:¬ ((m:Int)=0):=by omega
 have hsrc:Src Tryz.prog i0.size 26 (.slice (some ⟨vb,voff,none⟩) m vc) m vs w:=by
  rw [hzs]
  exact Src.ofSlice w qZ ⟨vb,voff,none⟩ m vc vs (by omega) (fun j u hj=>by rw [Addr.add_lit];exact hvs j u hj) h1v
 have hold:(Builtin.firstCells i0.size n (.slice base n c)).run Tryz.prog w.drew =   .ok cs.toArray w.drew:=by
  rw [hzs]
  cases base with
  | none =>
   have h0:=hnil rfl
   subst h0
   rw [List.length_eq_zero_iff.1 hcl]
   exact run_firstCells_none w.drew 2 0 0 c
  | some a=>exact run_firstCells_some w.drew 2 n a n c cs (by omega) (fun j v hj=>hcs a rfl j v hj)
 have hge:=grownCap_ge w (n+m) c 39
 obtain ⟨ROW,hROW⟩:∃ ROW:Array Value,ROW=(cs++vs).toArray++Builtin.zeroCells z0.cells (grownCap w (n+m) c 39 - (n+m)):=⟨_,rfl⟩
 have hRs:ROW.size=grownCap w (n+m) c 39 * 2:=by rw [hROW];simp [Builtin.zeroCells,hzc,hcl,hvl];omega
 have hRp:∀ (j:Nat) (v:Value),(cs++vs)[j]? = some v→ROW[j]? = some v:=fun j v hj=>by
  have:=(List.getElem?_eq_some_iff.1 hj).1
  rw [hROW,Array.getElem?_append_left (by simpa using this)]
  simpa using hj
 have hrun:∀ ty,(Builtin.append_ #[26,26] ty #[.slice base n c,.slice (some ⟨vb,voff,none⟩) m vc]).run Tryz.prog w = .ok (.slice (some ⟨w.heap.size,0,none⟩) (n+m) (grownCap w (n+m) c 39)) (w.drew.alloc (.cells ROW 39)):=fun ty=>by
  rw [hROW]
  exact run_append_grow_src w 26 26 ty 39 i0 z0 qZ hi0 hz0 base n c cs hold _ m vs hsrc hroom (by omega) (by have:=Nat.mul_le_mul hbig hzb;exact growslice_fits hroom (by omega))
 clear hROW
 obtain ⟨G,hG⟩:∃ G,G=grownCap w (n+m) c 39:=⟨_,rfl⟩
 rw [← hG] at hrun hRs ⊢
 clear hG hge
 go_enter Tryz.func184,Tryz.ntmps184
 cases base with
 | none =>
  have h0:=hnil rfl
  subst h0
  go_wp2_with (at_builtin;refine Lib.wpList_append_run _ rfl _ _ _ _ rfl _ _ rfl rfl _ _ (hrun _) ?_)
  go_ret
  exact ⟨rfl,ROW,hRs,hRp,rfl⟩
 | some a =>
  obtain ⟨ab,ao,asp⟩:=a
  go_wp2_with (at_builtin;refine Lib.wpList_append_run _ rfl _ _ _ _ rfl _ _ rfl rfl _ _ (hrun _) ?_)
  all_goals (go_ret;exact ⟨rfl,ROW,hRs,hRp,rfl⟩)

set_option maxHeartbeats 4000000 in
set_option maxRecDepth 100000 in
theorem ve (b off n c i vb voff m vc : Nat) (cs vs : List Value) (w : World) (hi : i < n) (hm : 0 < m) (hnc : n ≤ c) (hroom : c < n + m) (hbig : n + m ≤ 4294967296)
    (hcl:cs.length=n * 2) (hvl:vs.length=m * 2)
    (hcs:∀ j v,cs[j]? = some v→w.cell? ⟨b,off+j,none⟩=some v)
    (hvs:∀ j v,vs[j]? = some v→w.cell? ⟨vb,voff+j,none⟩=some v) (h1c:∀ v ∈ cs,v.oneCell'=true) (h1v:∀ v ∈ vs,v.oneCell'=true) :
    Calls Tryz.prog 184 #[.slice (some ⟨b, off, none⟩) n c, .int .i64 i, .slice (some ⟨vb, voff, none⟩) m vc] w fun e w' =>
      e = .returned (.slice (some ⟨w.heap.size,0,none⟩) (n+m) (grownCap w (n+m) c 39)) ∧
      ∃ ROW : Array Value, ROW.size = grownCap w (n + m) c 39 * 2 ∧ (∀ (j : Nat) (v : Value), (cs.take (i * 2))[j]? = some v → ROW[j]? = some v) ∧
        w'=(((w.alloc (.cells ROW 39)).drew.setCells w.heap.size (i * 2) vs).drew).setCells w.heap.size ((i+m) * 2) (cs.drop (i * 2)):=by
  obtain ⟨i0,z0,hi0,hz0,hzs,hzb,hzc⟩:=Bj
  have hz1:¬ ((m:Int)=0):=by omega
  have hz2:¬ ((i:Int)=(n:Int)):=by omega
  have hz3:(c:Int)<(n:Int)+(m:Int):=by omega
  have hsz:(Tryz.prog.info? 39).map (·.size)=some 2:=FS
  have hbw:b<w.heap.size:=block_lt_of_cell (hcs 0 _ (List.getElem?_eq_getElem (by omega)))
  have hvw:vb<w.heap.size:=block_lt_of_cell (hvs 0 _ (List.getElem?_eq_getElem (by omega)))
  have hkk:(n:Int)+(m:Int) - (i:Int)=((n+m - i:Nat):Int):=by omega
  have hik:i+(n+m - i)=n+m:=by omega
  have hold : (Builtin.firstCells i0.size i (.slice (some ⟨b, off, none⟩) i c)).run Tryz.prog w.drew = .ok (cs.take (i * 2)).toArray w.drew := by
    rw [hzs]
    exact run_firstCells_some w.drew 2 i ⟨b, off, none⟩ i c (cs.take (i * 2)) (by rw [List.length_take]; omega) (fun j v hj => by
      rw [Addr.add_lit]
      rw [List.getElem?_take] at hj
      split at hj
      · exact hcs j v hj
      · cases hj)
  have hrz : ∀ ty, (Builtin.append_ #[26, 3] ty #[.slice (some ⟨b, off, none⟩) i c, .int .i64 ((n : Int) + (m : Int) - (i : Int))]).run Tryz.prog w =
      .ok (.slice (some ⟨w.heap.size,0,none⟩) (n+m) (grownCap w (n+m) c 39)) (w.drew.alloc (.cells ((cs.take (i * 2)).toArray++Builtin.zeroCells z0.cells (n+m - i)++Builtin.zeroCells z0.cells (grownCap w (n+m) c 39 - (n+m))) 39)):=fun ty=>by
    have h:=Lib.run_append_grow_zeros w 26 3 ty 39 i0 z0 .i64 .i64 qZ Gu hi0 hz0 (some ⟨b,off,none⟩) i c (cs.take (i * 2)) hold (n+m - i) (by omega) (by omega) (by omega) (by omega) (by have:=Nat.mul_le_mul (show n+m - i≤4294967296 by omega) hzb;omega) (by rw [hik];have:=Nat.mul_le_mul hbig hzb;exact growslice_fits hroom (by omega))
    rw [hik] at h
    rw [hkk]
    exact h
  obtain ⟨G,hG⟩:∃ G,G=grownCap w (n+m) c 39:=⟨_,rfl⟩
  obtain ⟨ROW,hROW⟩:∃ ROW:Array Value,ROW=(cs.take (i * 2)).toArray++Builtin.zeroCells z0.cells (n+m - i)++Builtin.zeroCells z0.cells (G - (n+m)):=⟨_,rfl⟩
  rw [← hG] at hrz ⊢
  rw [← hROW] at hrz
  have hRl : (n + m) * 2 ≤ ROW.size := by
    rw [hROW]
    simp [Builtin.zeroCells,hzc,hcl]
    omega
  obtain ⟨W1,hW1⟩:∃ W1,W1=w.drew.alloc (.cells ROW 39):=⟨_,rfl⟩
  rw [← hW1] at hrz
  have hN : ∀ j, j < (n + m) * 2 → (W1.cell? ⟨w.heap.size, j, none⟩).isSome = true := fun j hj => by
    rw [hW1,World.cell?_alloc_at (w:=w.drew) ROW _ w.heap.size j rfl,Array.getElem?_eq_getElem (by omega)];rfl
  have hNf:∀ j,W1.frozen? ⟨w.heap.size,j,none⟩=false:=fun j=>by rw [hW1];exact World.frozen?_alloc_at (w:=w.drew) ROW _ w.heap.size j rfl
  have hOb:∀ j v,w.cell? ⟨b,j,none⟩=some v→W1.cell? ⟨b,j,none⟩=some v:=fun j v h=>by rw [hW1,World.cell?_alloc_past (w:=w.drew) _ b j hbw];exact h
  have hOv:∀ j v,w.cell? ⟨vb,j,none⟩=some v→W1.cell? ⟨vb,j,none⟩=some v:=fun j v h=>by rw [hW1,World.cell?_alloc_past (w:=w.drew) _ vb j hvw];exact h
  have hcpA : ∀ (W : World), (∀ x, W.cell? x = W1.cell? x) → (∀ x, W.frozen? x = W1.frozen? x) → ∀ ty dc, (Builtin.copy_ #[26, 26] ty #[.slice (some ⟨w.heap.size, i * 2, none⟩) (n + m - i) dc, .slice (some ⟨vb, voff, none⟩) m vc]).run Tryz.prog W = .ok (goInt (m : Nat)) (W.setCells w.heap.size (i * 2) vs) := fun W hWc hWf ty dc =>
    eP 2 W _ _ ty 39 w.heap.size (i * 2) (n + m - i) dc ⟨vb, voff, none⟩ m vc vs qZ hsz m (by simp only [Nat.min_def]; split <;> omega) hvl
      (fun j v hj=>by rw [Addr.add_lit,hWc];exact hOv _ v (hvs j v hj))
      (fun j hj=>by rw [hWc];exact hN _ (by omega)) (fun j hj=>by rw [hWf];exact hNf _) h1v
  have hRp : ∀ (j : Nat) (v : Value), (cs.take (i * 2))[j]? = some v → ROW[j]? = some v := fun j v hj => by
    have:=(List.getElem?_eq_some_iff.1 hj).1
    rw [hROW,Array.getElem?_append_left (by simp at this ⊢;omega),Array.getElem?_append_left (by simpa using this)]
    simpa using hj
  have hGn:n+m≤G:=by rw [hG];exact grownCap_ge w _ _ _
  have hG63 : G ≤ 9223372036854775807 := by
    have:=grownCap_le_maxLen w (n+m) c 39 (by unfold maxLen;omega)
    rw [← hG] at this
    unfold maxLen at this
    omega
  have hGi:¬ (G=i):=by omega
  have hGim:¬ (G=i+m):=by omega
  have hci:¬ (c=i):=by omega
  have hbN:b ≠ w.heap.size:=by omega
  have hdl:(cs.drop (i * 2)).length=(n - i) * 2:=by rw [List.length_drop,hcl];omega
  have hcpB : ∀ (W : World), (∀ x, W.cell? x = (W1.setCells w.heap.size (i * 2) vs).cell? x) → (∀ x, W.frozen? x = (W1.setCells w.heap.size (i * 2) vs).frozen? x) → ∀ ty dc sc, (Builtin.copy_ #[26, 26] ty #[.slice (some ⟨w.heap.size, (i + m) * 2, none⟩) (n + m - (i + m)) dc, .slice (some ⟨b, off + i * 2, none⟩) (n - i) sc]).run Tryz.prog W = .ok (goInt (n - i : Nat)) (W.setCells w.heap.size ((i + m) * 2) (cs.drop (i * 2))) := fun W hWc hWf ty dc sc =>
    eP 2 W _ _ ty 39 w.heap.size ((i + m) * 2) (n + m - (i + m)) dc ⟨b, off + i * 2, none⟩ (n - i) sc (cs.drop (i * 2)) qZ hsz (n - i) (by simp only [Nat.min_def]; split <;> omega) hdl
      (fun j v hj => by
        rw [Addr.add_lit,hWc,World.cell?_setCells_out _ _ _ _ _ (fun h _=>absurd h hbN),Nat.add_assoc]
        exact hOb _ v (hcs (i * 2+j) v (by rwa [List.getElem?_drop] at hj)))
      (fun j hj=>by rw [hWc];exact isSome_setCells _ _ _ _ (fun t ht=>hN _ (by omega)) _ (hN _ (by omega)))
      (fun j hj=>by rw [hWf,World.frozen?_setCells];exact hNf _) (fun v hv=>h1c v (List.mem_of_mem_drop hv))
  subst hW1
  have hE1:∀ x,((w.alloc (.cells ROW 39)).drew).cell? x=(w.drew.alloc (.cells ROW 39)).cell? x:=fun x=>rfl
  have hE2:∀ x,((w.alloc (.cells ROW 39)).drew).frozen? x=(w.drew.alloc (.cells ROW 39)).frozen? x:=fun x=>rfl
  have hF1:∀ x,(((w.alloc (.cells ROW 39)).drew.setCells w.heap.size (i * 2) vs).drew).cell? x=((w.drew.alloc (.cells ROW 39)).setCells w.heap.size (i * 2) vs).cell? x:=fun x=>rfl
  have hF2:∀ x,(((w.alloc (.cells ROW 39)).drew.setCells w.heap.size (i * 2) vs).drew).frozen? x=((w.drew.alloc (.cells ROW 39)).setCells w.heap.size (i * 2) vs).frozen? x:=fun x=>rfl
  have hw1:IntKind.i64.wrap ((i:Int)+(m:Int))=(i:Int)+(m:Int):=by rw [IntKind.wrap_i64];omega
  have hb1:(0:Int)≤(i:Int)+(m:Int):=by omega
  have hin:i≤n:=by omega
  have htn:((i:Int)+(m:Int)).toNat=i+m:=by omega
  have hb3:(i:Int)≤(n:Int):=by omega
  have hRs:ROW.size=G * 2:=by rw [hROW];simp [Builtin.zeroCells,hzc,hcl];omega
  clear hkk hik hold hROW hG hRl
  have mixed:Tryz.prog.follows .mixedOrders=true:=by kernel_rfl
  go_enter Tryz.func184,Tryz.ntmps184
  go_wp2_with (first
    | (at_builtin;refine Lib.wpList_append_run _ rfl _ _ _ _ rfl _ _ rfl rfl _ _ (hrz _) ?_)
    | (at_builtin;refine wpList_copy_runI _ rfl _ _ 26 26 rfl _ _ rfl rfl (hcpA _ hE1 hE2 _ _) ?_)
    | (at_builtin;refine wpList_copy_runI _ rfl _ _ 26 26 rfl _ _ rfl rfl (hcpB _ (fun _=>rfl) (fun _=>rfl) _ _ _) ?_))
  go_region_law_o (refine step_copy_runI rfl _ _ 26 26 rfl (.slice (some ⟨w.heap.size,(i+m) * 2,none⟩) (n+m - (i+m)) (G - (i+m))) (.slice (some ⟨b,off+i * 2,none⟩) (n - i) (c - i)) (by simp [Act.eval,Act.put]) (by simp [Act.eval,Act.put]) (hcpB _ hF1 hF2 3 (G - (i+m)) (c - i)) ?_)
  go_wp2
  go_ret
  exact ⟨rfl,ROW,hRs,hRp,rfl⟩


set_option maxHeartbeats 4000000 in
set_option maxRecDepth 100000 in
theorem wB (a:Option Addr) (n c i:Nat) (y:Option Addr) (vc:Nat) (w:World) (hi:i≤n) (hn:n≤c) (hc:c≤9223372036854775807) :
  Calls Tryz.prog 184 #[.slice a n c,.int .i64 i,.slice y 0 vc] w fun e w'=>e = .returned (.slice a n c)∧w'=w:=by
 have h1:(i:Int)≤(n:Int):=by omega
 go_enter Tryz.func184,Tryz.ntmps184
 cases a with
 | none =>
  go_wp2
  all_goals (go_ret;exact ⟨rfl,rfl⟩)
 | some a =>
  obtain ⟨ab,ao,asp⟩:=a
  go_wp2
  all_goals (go_ret;exact ⟨rfl,rfl⟩)
end Go.Proofs.YtfhcammihohmjaaGreatDoor
namespace Go.Proofs.YtfhcammihohmjaaGreatDoor.Pal
open Go Go.Sort
@[reducible] def gT:Ty:=(.pair (.int .i64) (.int .i64))
theorem AS : CallOK Tryz.prog 184 (rl gT) := by
  have eF:∀ args w,(callFunc 184 args).run Tryz.prog w = .ok (.enter 184 args) w:=enters_of Tryz.func184 (by kernel_rfl) rfl
  have val : ∀ args objs v os, (rl gT).val args objs = some (v, os) → ∃ (xs ys : List gT.D) (i : Int) (va : V), args = [.raw gT xs, .dat (.int .i64) i, va] ∧ V.as (.slc gT) va = some ys ∧ objs = [] ∧ (0 ≤ i ∧ i ≤ xs.length) ∧ xs.length + ys.length ≤ 4294967296 ∧ v = .own gT (eC xs i ys) ∧ os = [] := by
    intro args objs v os h
    unfold Entry.val rl at h
    simp only at h
    split at h
    · rename_i e' xs i va
      split at h
      · rename_i he;subst he
        rw [Option.bind_eq_some_iff] at h
        obtain ⟨ys,hys,h⟩:=h
        obtain ⟨hb,h⟩:=cw h
        obtain ⟨hr,h⟩:=cw h
        injection h with h;injection h with h1 h2
        obtain ⟨_,i1,i2⟩:=km hb
        exact ⟨xs,ys,i,va,rfl,hys,rfl,⟨i1,i2⟩,nL hr,h1.symm,h2.symm⟩
      · cases h
    · cases h
  refine ⟨fun α args objs K=>?_,fun args objs vr os hval X G w argv tA tM hW hTab hX hA hM hcnt htok=>?_⟩
  · unfold Entry.val rl
    simp only
    split
    · split
      · rename_i va _
        cases V.as (.slc gT) va with
        | none=>rfl
        | some ys=>simp only [Option.bind_some];rw [bX,bX];rfl
      · rfl
    · rfl
  · obtain ⟨xs,ys,ii,va,rfl,hva,rfl,⟨hi0,hi1⟩,hlen,rfl,rfl⟩:=val _ _ _ _ hval
    obtain ⟨i,rfl⟩:∃ i:Nat,ii=(i:Int):=⟨ii.toNat,by omega⟩
    have hin:i≤xs.length:=by omega
    obtain ⟨x0,r0,t1,t2,rfl,rfl,⟨cs0,⟨ad,n,c,e1,e2,e3,e4⟩,hx⟩,x1,r1,t3,t4,rfl,rfl,⟨cs1,⟨f1,f2⟩,hx1⟩,x2,r2,t5,t6,rfl,rfl,hx2,rfl,rfl⟩:=hA
    obtain ⟨ad2,m,vc,rfl,g2,g3,g4⟩:=(aY.as_ hva hx2).slc
    simp only [V.agg,Bool.false_eq_true,if_false] at hx hx1
    rw [e1] at hx
    have f1:cs1=[.int .i64 i]:=f1
    rw [f1] at hx1
    simp only [Ty.agg,Bool.false_eq_true,if_false,List.cons.injEq,and_true] at hx hx1
    subst hx;subst hx1;subst f2
    obtain ⟨hM1,hM2⟩:tM=[]∧True:=⟨hM,trivial⟩
    obtain ⟨cs, hAc, e5⟩ : ∃ cs, bC (aR G.I gT) xs cs ∧ ((c = 0 ∧ t1 = []) ∨ ∃ gb, ad = some ⟨gb, 0, none⟩ ∧ t1 = [gb] ∧ (∃ cells ty, w.heap[gb]? = some (.cells cells ty (0, 0)) ∧ cells.size = c * 2 ∧ ∀ (j : Nat) (v : Value), cs[j]? = some v → cells[j]? = some v) ∧ (∀ o, G.I gb o = none) ∧ ∀ o, G.O gb o = none) := by
      rcases e4 with ⟨hc0,ht⟩ | ⟨gb,h1,h2,⟨cells,ty,cc,hgc,hs,hAc,hcc⟩,hI,hO'⟩
      · have:xs=[]:=List.eq_nil_of_length_eq_zero (by omega)
        subst this
        exact ⟨[],rfl,.inl ⟨hc0,ht⟩⟩
      · exact ⟨cc,hAc,.inr ⟨gb,h1,h2,⟨cells,ty,hgc,hs,hcc⟩,hI,hO'⟩⟩
    have hia:(eC xs (i:Int) ys)=xs.take i++(ys++xs.drop i):=rfl
    have hzl:(eC xs (i:Int) ys).length=n+m:=by rw [hia];simp [← e2,← g2];omega
    have hcl:cs.length=n * 2:=by rw [← e2];exact hAc.len
    obtain ⟨hAt,hAd⟩:=bC.split (sz:=2) (fun x c h=>aR.length gT x c h) xs cs i hin hAc
    have h1c:∀ v ∈ cs,v.oneCell'=true:=fz xs cs hAc
    refine .inl ⟨eF _ _,?_⟩
    have hfr:∀ {b:Nat} {C:Array Value} {T:TypeId} (o:Nat),w.heap[b]? = some (.cells C T (0,0))→w.frozen? ⟨b,o,none⟩=false:=fun o h=>by simp only [World.frozen?,h];simp
    rcases Nat.eq_zero_or_pos m with hm0 | hm0
    · have hys:ys=[]:=List.eq_nil_of_length_eq_zero (by omega)
      subst hys;subst hm0
      have hxx:eC xs (i:Int) []=xs:=by rw [hia];simp
      rw [hxx] at hzl ⊢
      refine Calls.mono (wB ad n c i ad2 vc w (by omega) e3.1 e3.2) fun e' w' hh=>?_
      obtain ⟨rfl,rfl⟩:=hh
      rcases e5 with ⟨hc0,rfl⟩ | ⟨gb,rfl,rfl,⟨cells,ty,hgc,hs,hcc⟩,hI,hO'⟩
      · exact ⟨G,Ev.refl _ _ _,hW,fun _ _=>rfl,[],[],[],⟨_,⟨ad,n,c,rfl,e2,e3,.inl ⟨hc0,rfl⟩⟩,rfl⟩,rfl,rfl,fun q=>by simp,fun q hq=>by simp at hq⟩
      · have hone:bi gb [gb]=1:=by simp [bi]
        have hX1:∀ o,X gb o:=htok gb (by simp only [bN];omega)
        have:=fU (e:=gT) (zs:=xs) (ax:=some (.slice (some ⟨gb,0,none⟩) n c)) hW (Evo.refl X w') (fun _ _ _=>rfl) hgc hs (by rw [e2];exact e3) hAc (fun j v hj=>by rw [bF hgc];exact hcc j v hj) hI hO' (.inr hX1)
        rw [e2] at this
        exact this
    · rcases g4 with hy0 | ⟨vb,vo,rfl,hel⟩
      · subst hy0;simp at g2;omega
      obtain ⟨vs,hvA,hvat⟩:=d8.all2 (fun x c=>aR.length gT x c) ys vb vo hel
      have hvl:vs.length=m * 2:=by rw [← g2];exact hvA.len
      have h1v:∀ v ∈ vs,v.oneCell'=true:=fz ys vs hvA
      have hA2 : bC (aR G.I gT) (eC xs (i : Int) ys) (cs.take (i * 2) ++ (vs ++ cs.drop (i * 2))) := by
        rw [hia];exact bC.append _ _ _ _ hAt (bC.append _ _ _ _ hvA hAd)
      have hvc:∀ (j:Nat) (v:Value),vs[j]? = some v→w.cell? ⟨vb,vo+j,none⟩=some v:=fun j v hj=>hW.holds vb _ v (hvat j v hj)
      have hvI:∃ v,G.I vb vo=some v:=⟨_,by have:=hvat 0 vs[0] (List.getElem?_eq_getElem (by omega));simpa using this⟩
      obtain ⟨kA, tA, hkA, hsa⟩ : ∃ kA tA, kA ≠ 0 ∧ w.shape? vb = some (tA, kA) := by
        obtain ⟨v,hv⟩:=hvI
        have h:=hW.holds vb vo v hv
        unfold World.cell? at h
        split at h
        · rename_i C T fr hb
          simp only [Option.isSome_none,Bool.false_eq_true,if_false] at h
          exact ⟨C.size,T,by have:=(Array.getElem?_eq_some_iff.1 h).1;omega,by have hb':w.heap[vb]? = some (.cells C T fr):=hb;simp only [World.shape?,hb']⟩
        · cases h
      have hbig:n+m≤4294967296:=by omega
      have fresh : ∀ w' (cap : Nat), (∀ b, b < w.heap.size → w'.heap[b]? = w.heap[b]?) → w'.os = w.os → w'.tape = w.tape → w'.output = w.output → w.drawn ≤ w'.drawn → w.heap.size ≤ w'.heap.size → (∃ C T, w'.heap[w.heap.size]? = some (.cells C T (0, 0)) ∧ C.size = cap * 2) → (n + m ≤ cap ∧ cap ≤ 9223372036854775807) →
          (∀ (j:Nat) (v:Value),(cs.take (i * 2)++(vs++cs.drop (i * 2)))[j]? = some v→w'.cell? ⟨w.heap.size,j,none⟩=some v) →
          ∃ G',uo X G w 0 (.own gT (eC xs i ys)) [] (.slice (some ⟨w.heap.size,0,none⟩) (n+m) cap) (some (.slice ad n c)) G' w':=by
        intro w' cap k1 k2 k3 k4 k5 k6 ⟨C,T,k7,k8⟩ k9 k10
        have:=fU (e:=gT) (zs:=eC xs i ys) (X:=X) (ax:=some (.slice ad n c)) hW ⟨k2,k3,k4,k6,fun b hb=>.inl (k1 b hb),fun _=>k5⟩ (fun b hb _=>k1 b hb) k7 k8 (by rw [hzl];exact k9) hA2 k10 (fun o=>(hW.none_new o).1) (fun o=>(hW.none_new o).2) (.inl (Nat.le_refl _))
        rw [hzl] at this
        exact this
      rcases Nat.lt_or_ge i n with hlt | hge
      · rcases e5 with ⟨hc0,_⟩ | ⟨gb,rfl,rfl,⟨cells,ty,hgc,hs,hcc⟩,hI,hO'⟩
        · omega
        have hgv : gb ≠ vb := by
          intro e;subst e
          obtain ⟨v,hv⟩:=hvI
          rw [hI vo] at hv;cases hv
        have hcc':∀ (j:Nat) (v:Value),cs[j]? = some v→w.cell? ⟨gb,0+j,none⟩=some v:=fun j v hj=>by rw [bF hgc,Nat.zero_add];exact hcc j v hj
        by_cases hroom:n+m≤c
        · have hsz:(n+m) * 2≤cells.size:=by rw [hs];exact Nat.mul_le_mul_right 2 hroom
          have hshape:∀ {b:Nat} {C:Array Value} {T:TypeId},w.heap[b]? = some (.cells C T (0,0))→w.shape? b=some (T,C.size):=fun h=>by simp only [World.shape?,h]
          refine Calls.mono (tz gb 0 n c i vb vo m vc cs vs w hlt hm0 hroom e3.2 (Ne.symm hgv) hcl hvl hcc' (fun j hj=>by rw [bF hgc,Nat.zero_add,Array.getElem?_eq_getElem (by omega)];rfl) (fun j hj=>hfr _ hgc) hvc h1c h1v tA ty kA _ hsa (hshape hgc) hkA (fun o=>hfr o hgc)) fun e' w' hh=>?_
          obtain ⟨rfl,rfl⟩:=hh
          obtain ⟨C1,q1,q2⟩:=bU gb (cs.drop (i * 2)) (0+(i+m) * 2) w.drew cells ty (0,0) hgc
          obtain ⟨C2,q3,q4⟩:=bU gb vs (0+i * 2) _ C1 ty (0,0) q1
          have hone:bi gb [gb]=1:=by simp [bi]
          have hX1:∀ o,X gb o:=htok gb (by simp only [bN];omega)
          have hold : ∀ b, b ≠ gb → ((w.drew.setCells gb (0 + (i + m) * 2) (cs.drop (i * 2))).setCells gb (0 + i * 2) vs).heap[b]? = w.heap[b]? := fun b hb => by
            rw [bT gb _ _ _ b hb,bT gb _ _ _ b hb];rfl
          have hE1:=Evo.setCells (X:=X) gb (cs.drop (i * 2)) (0+(i+m) * 2) w.drew (fun j _=>hX1 _)
          have hE2:=Evo.setCells (X:=X) gb vs (0+i * 2) (w.drew.setCells gb (0+(i+m) * 2) (cs.drop (i * 2))) (fun j _=>hX1 _)
          have:=fU (e:=gT) (zs:=eC xs i ys) (ax:=some (.slice (some ⟨gb,0,none⟩) n c)) (cap:=c) (X:=X) hW (w':=(w.drew.setCells gb (0+(i+m) * 2) (cs.drop (i * 2))).setCells gb (0+i * 2) vs) (g:=gb) ?_ (fun b _ hb=>hold b hb) q3 (by rw [q4,q2,hs];rfl) (by rw [hzl];exact ⟨hroom,e3.2⟩) hA2 (fun j v hj=>?_) hI hO' (.inr hX1)
          · rw [hzl] at this;exact this
          · exact (Evo.drew X w).trans (hE1.trans hE2 (fun _ _ _ h=>h) (fun _ _ _ h=>h)) (fun _ _ _ h=>h) (fun _ _ _ h=>h)
          · have:=zl (W:=w.drew) (b:=gb) (k:=i * 2) (l:=m * 2) (cs:=cs) (vs:=vs) (by omega) hvl (fun j hj=>by show (w.cell? ⟨gb,j,none⟩).isSome=true;rw [bF hgc,Array.getElem?_eq_getElem (by omega)];rfl) (fun j v _ hj=>by show w.cell? ⟨gb,j,none⟩=some v;rw [bF hgc];exact hcc j v hj) j v hj
            rw [Nat.zero_add,Nat.zero_add,Nat.add_mul];exact this
        · refine Calls.mono (ve gb 0 n c i vb vo m vc cs vs w hlt hm0 e3.1 (by omega) hbig hcl hvl hcc' hvc h1c h1v) fun e' w' hh=>?_
          obtain ⟨rfl,ROW,hRs,hRp,rfl⟩:=hh
          have hge:=grownCap_ge w (n+m) c 39
          have hle:=grownCap_le_maxLen w (n+m) c 39 (by unfold maxLen;omega)
          unfold maxLen at hle
          obtain ⟨cap,hcap⟩:∃ cap,cap=grownCap w (n+m) c 39:=⟨_,rfl⟩
          rw [← hcap] at hge hle hRs ⊢
          have hnew:((w.alloc (.cells ROW 39)).drew).heap[w.heap.size]? = some (.cells ROW 39 (0,0)):=by show (w.heap.push _)[w.heap.size]? = _;simp
          obtain ⟨C1,q1,q2⟩:=bU w.heap.size vs (i * 2) _ ROW 39 (0,0) hnew
          obtain ⟨C2,q3,q4⟩:=bU w.heap.size (cs.drop (i * 2)) ((i+m) * 2) (((w.alloc (.cells ROW 39)).drew.setCells w.heap.size (i * 2) vs).drew) C1 39 (0,0) q1
          have hszs:∀ (vs:List Value) (o:Nat) (W:World),(W.setCells w.heap.size o vs).heap.size=W.heap.size:=fun vs o W=>World.size_setCells _ vs o W
          refine fresh _ cap (fun b hb=>?_) (by rw [gR];exact gR _ _ _ _) (by rw [fe];exact fe _ _ _ _) (by rw [dZ];exact dZ _ _ _ _) (by rw [eO];show _≤(World.setCells _ _ _ _).drawn+1;rw [eO];show w.drawn≤w.drawn+1+1;omega) (by rw [hszs];show _≤(World.setCells _ _ _ _).heap.size;rw [hszs];show _≤(w.heap.push _).size;simp) ⟨C2,39,q3,by rw [q4,q2,hRs]⟩ ⟨hge,hle⟩ (fun j v hj=>?_)
          · rw [bT _ _ _ _ b (by omega)]
            show (World.setCells _ _ _ _).heap[b]? = _
            rw [bT _ _ _ _ b (by omega)]
            show (w.heap.push _)[b]? = _
            rw [Array.getElem?_push_lt hb,Array.getElem?_eq_getElem hb]
          · have := ER (W := (w.alloc (.cells ROW 39)).drew) (b := w.heap.size) (k := i * 2) (l := m * 2) (cs := cs) (vs := vs) (by omega) hvl (fun j hj => by
                rw [bF hnew,Array.getElem?_eq_getElem (by omega)];rfl) (fun j v hj1 hj2=>by
                rw [bF hnew];exact hRp j v (by rw [List.getElem?_take,if_pos hj1];exact hj2)) j v hj
            rw [← drew_setCells,Nat.add_mul];exact this
      · have hie:i=n:=by omega
        subst hie
        by_cases hroom:i+m≤c
        · rcases e5 with ⟨hc0,_⟩ | ⟨gb,rfl,rfl,⟨cells,ty,hgc,hs,hcc⟩,hI,hO'⟩
          · omega
          have hsz:(i+m) * 2≤cells.size:=by rw [hs];exact Nat.mul_le_mul_right 2 hroom
          have hsome:∀ j,j<(i+m) * 2→(w.cell? ⟨gb,j,none⟩).isSome=true:=fun j hj=>by rw [bF hgc,Array.getElem?_eq_getElem (by omega)];rfl
          refine Calls.mono (oE gb 0 i c vb vo m vc vs w hm0 hroom e3.2 hvl (fun j hj=>hsome _ (by omega)) (fun j hj=>hfr _ hgc) hvc h1v) fun e' w' hh=>?_
          obtain ⟨rfl,rfl⟩:=hh
          obtain ⟨C2,q3,q4⟩:=bU gb vs (0+i * 2) w cells ty (0,0) hgc
          have hone:bi gb [gb]=1:=by simp [bi]
          have hX1:∀ o,X gb o:=htok gb (by simp only [bN];omega)
          have:=fU (e:=gT) (zs:=eC xs i ys) (ax:=some (.slice (some ⟨gb,0,none⟩) i c)) (cap:=c) (X:=X) hW (w':=w.setCells gb (0+i * 2) vs) (g:=gb) (Evo.setCells (X:=X) gb vs (0+i * 2) w (fun j _=>hX1 _)) (fun b _ hb=>bT gb _ _ _ b hb) q3 (by rw [q4,hs];rfl) (by rw [hzl];exact ⟨hroom,e3.2⟩) hA2 (fun j v hj=>?_) hI hO' (.inr hX1)
          · rw [hzl] at this;exact this
          · have h0:cs.drop (i * 2)=[]:=List.drop_of_length_le (by omega)
            have:=zl (W:=w) (b:=gb) (k:=i * 2) (l:=m * 2) (cs:=cs) (vs:=vs) (by omega) hvl (fun j hj=>hsome _ (by omega)) (fun j v _ hj=>by rw [bF hgc];exact hcc j v hj) j v hj
            rw [h0] at this
            rw [Nat.zero_add];exact this
        · have hnil : ad = none → i = 0 := fun h => by
            rcases e5 with ⟨hc0,_⟩ | ⟨gb,h1,_⟩
            · omega
            · rw [h] at h1;cases h1
          have hold : ∀ a, ad = some a → ∀ (j : Nat) (v : Value), cs[j]? = some v → w.cell? (a.add j) = some v := fun a ha j v hj => by
            rcases e5 with ⟨hc0,_⟩ | ⟨gb,h1,_,⟨cells,ty,hgc,hs,hcc⟩,hI,hO'⟩
            · have:=(List.getElem?_eq_some_iff.1 hj).1;omega
            · rw [h1] at ha;injection ha with ha;subst ha
              rw [Addr.add_lit,bF hgc,Nat.zero_add];exact hcc j v hj
          refine Calls.mono (ow ad i c vb vo m vc cs vs w hm0 e3.1 (by omega) hbig hcl hvl hnil hold hvc h1v) fun e' w' hh=>?_
          obtain ⟨rfl,ROW,hRs,hRp,rfl⟩:=hh
          have hge:=grownCap_ge w (i+m) c 39
          have hle:=grownCap_le_maxLen w (i+m) c 39 (by unfold maxLen;omega)
          unfold maxLen at hle
          obtain ⟨cap,hcap⟩:∃ cap,cap=grownCap w (i+m) c 39:=⟨_,rfl⟩
          rw [← hcap] at hge hle hRs ⊢
          have hnew:(w.drew.alloc (.cells ROW 39)).heap[w.heap.size]? = some (.cells ROW 39 (0,0)):=by show (w.heap.push _)[w.heap.size]? = _;simp
          refine fresh _ cap (fun b hb=>?_) rfl rfl rfl (by show w.drawn≤w.drawn+1;omega) (by show _≤(w.heap.push _).size;simp) ⟨ROW,39,hnew,hRs⟩ ⟨hge,hle⟩ (fun j v hj=>?_)
          · show (w.heap.push _)[b]? = _
            rw [Array.getElem?_push_lt hb,Array.getElem?_eq_getElem hb]
          · have h0:cs.drop (i * 2)=[]:=List.drop_of_length_le (by omega)
            have h1:cs.take (i * 2)=cs:=List.take_of_length_le (by omega)
            rw [h0,h1,List.append_nil] at hj
            rw [bF hnew];exact hRp j v hj
end Go.Proofs.YtfhcammihohmjaaGreatDoor.Pal
end
noncomputable section
/- slices.Insert at cG: the vq, and its contract. -/
namespace Go.Proofs.YtfhcammihohmjaaGreatDoor
open Go.Shelf Go.RowKit Go.Lib
theorem B2:∃ i z,Tryz.prog.info? 42=some i∧i.zero=some z∧i.size=6∧i.bytes≤16384∧z.cells.size=6:=fZ (by kernel_rfl)
theorem rG:Tryz.prog.underlying 22=some (.slice 42):=by kernel_rfl
theorem Ge:Tryz.prog.underlying 3=some (.int .i64):=by kernel_rfl
theorem GU:∀ w,(Go.sizeOf 42).run Tryz.prog w = .ok 6 w:=fun w=>by
 obtain ⟨i,z,h1,h2,h3,h4⟩:=B2
 simp [Go.sizeOf,typeInfo,h1,h3]
theorem Gr:(Tryz.prog.info? 42).map (·.size)=some 6:=by
 obtain ⟨i,z,h1,h2,h3,h4⟩:=B2
 rw [h1];simp [h3]
set_option maxHeartbeats 4000000 in
set_option maxRecDepth 100000 in
theorem tC (b off n c i vb voff m vc:Nat) (cs vs:List Value) (w:World) (hi:i<n) (hm:0<m) (hroom:n+m≤c) (hc63:c≤9223372036854775807) (hvb:vb ≠ b)
  (hcl:cs.length=n * 6) (hvl:vs.length=m * 6)
  (hcs:∀ j v,cs[j]? = some v→w.cell? ⟨b,off+j,none⟩=some v) (hsp:∀ j,j<(n+m) * 6→(w.cell? ⟨b,off+j,none⟩).isSome=true) (hfz:∀ j,j<(n+m) * 6→w.frozen? ⟨b,off+j,none⟩=false)
  (hvs:∀ j v,vs[j]? = some v→w.cell? ⟨vb,voff+j,none⟩=some v) (h1c:∀ v ∈ cs,v.oneCell'=true) (h1v:∀ v ∈ vs,v.oneCell'=true)
  (tA tB:TypeId) (kA kB:Nat) (hsa:w.shape? vb=some (tA,kA)) (hsb:w.shape? b=some (tB,kB)) (hkA:kA ≠ 0) (hfa:∀ o,w.frozen? ⟨b,o,none⟩=false) :
  Calls Tryz.prog 180 #[.slice (some ⟨b,off,none⟩) n c,.int .i64 i,.slice (some ⟨vb,voff,none⟩) m vc] w fun e w' =>
   e = .returned (.slice (some ⟨b,off,none⟩) (n+m) c)∧w'=(w.drew.setCells b (off+(i+m) * 6) (cs.drop (i * 6))).setCells b (off+i * 6) vs:=by
 have hz1:¬ ((m:Int)=0):=by omega
 have hz2:¬ ((i:Int)=(n:Int)):=by omega
 have hsz:(Tryz.prog.info? 42).map (·.size)=some 6:=Gr
 have hov:∀ lb cb,(callFunc 226 #[.slice (some ⟨vb,voff,none⟩) m vc,.slice (some ⟨b,off+(i+m) * 6,none⟩) lb cb]).run Tryz.prog w = .ok (.value (.bool false)) w:=fun lb cb=>by
  rw [run_callFunc_extern Tryz.func226 (by kernel_rfl) (by kernel_rfl) (by kernel_rfl) (e:=Extern.SlicesOverlaps.overlaps #[22,22] #[4]) (by kernel_rfl),
   jX w 22 4 42 rG 6 GU ⟨vb,voff,none⟩ ⟨b,off+(i+m) * 6,none⟩ m vc lb cb hvb tA tB kA kB hsa hsb hkA (hfa _) (hfa _)]
  rfl
 have hdl:(cs.drop (i * 6)).length=(n - i) * 6:=by rw [List.length_drop,hcl];omega
 have hw1:IntKind.i64.wrap ((i:Int)+(m:Int))=(i:Int)+(m:Int):=by rw [IntKind.wrap_i64];omega
 have hb1:(0:Int)≤(i:Int)+(m:Int):=by omega
 have hin:i≤n:=by omega
 have htn:((i:Int)+(m:Int)).toNat=i+m:=by omega
 have hb2:¬ (c=i+m):=by omega
 have hb3:(i:Int)≤(n:Int)+(m:Int):=by omega
 have hb4:¬ (c=i):=by omega
 have hcp1:∀ ty dc sc,(Builtin.copy_ #[22,22] ty #[.slice (some ⟨b,off+(i+m) * 6,none⟩) (n+m - (i+m)) dc,.slice (some ⟨b,off+i * 6,none⟩) (n+m - i) sc]).run Tryz.prog w.drew = .ok (goInt (n - i:Nat)) (w.drew.setCells b (off+(i+m) * 6) (cs.drop (i * 6))):=fun ty dc sc =>
  eP 6 w.drew _ _ ty 42 b (off+(i+m) * 6) (n+m - (i+m)) dc ⟨b,off+i * 6,none⟩ (n+m - i) sc (cs.drop (i * 6)) rG hsz (n - i) (by simp only [Nat.min_def];split <;> omega) hdl
   (fun j v hj=>by rw [Addr.add_lit,Nat.add_assoc];exact hcs (i * 6+j) v (by rwa [List.getElem?_drop] at hj))
   (fun j hj=>by rw [Nat.add_assoc];exact hsp _ (by omega)) (fun j hj=>by rw [Nat.add_assoc];exact hfz _ (by omega)) (fun v hv=>h1c v (List.mem_of_mem_drop hv))
 obtain ⟨W1,hW1⟩:∃ W1,W1=w.drew.setCells b (off+(i+m) * 6) (cs.drop (i * 6)):=⟨_,rfl⟩
 have hsp1:∀ k,k<(n+m) * 6→(W1.cell? ⟨b,off+k,none⟩).isSome=true:=fun k hk=>by
  rw [hW1]
  exact isSome_setCells b _ _ _ (fun j hj=>by rw [Nat.add_assoc];exact hsp _ (by omega)) _ (hsp k hk)
 have hcp2:∀ (W:World),(∀ x,W.cell? x=W1.cell? x)→(∀ x,W.frozen? x=W1.frozen? x)→∀ ty dc,(Builtin.copy_ #[22,22] ty #[.slice (some ⟨b,off+i * 6,none⟩) (n+m - i) dc,.slice (some ⟨vb,voff,none⟩) m vc]).run Tryz.prog W = .ok (goInt (m:Nat)) (W.setCells b (off+i * 6) vs):=fun W hWc hWf ty dc =>
  eP 6 W _ _ ty 42 b (off+i * 6) (n+m - i) dc ⟨vb,voff,none⟩ m vc vs rG hsz m (by simp only [Nat.min_def];split <;> omega) hvl
   (fun j v hj=>by
    rw [Addr.add_lit,hWc,hW1,World.cell?_setCells_out b _ _ _ _ (fun h _=>absurd h hvb)]
    exact hvs j v hj)
   (fun j hj=>by rw [hWc,Nat.add_assoc];exact hsp1 _ (by omega)) (fun j hj=>by rw [hWf,hW1,World.frozen?_setCells,Nat.add_assoc];exact hfz _ (by omega)) h1v
 rw [← hW1] at hcp1
 have mixed:Tryz.prog.follows .mixedOrders=true:=by kernel_rfl
 go_enter Tryz.func180,Tryz.ntmps180
 go_wp2_with (simp only [hov])
 go_region_law_o (refine step_copy_runI rfl _ _ 22 22 rfl _ _ (by simp [Act.eval,Act.put]) (by simp [Act.eval,Act.put]) (hcp1 _ _ _) ?_)
 go_wp2_with (at_builtin;refine wpList_copy_runI _ rfl _ _ 22 22 rfl _ _ rfl rfl (hcp2 _ (fun _=>rfl) (fun _=>rfl) _ _) ?_)
 go_ret
 first | exact ⟨rfl,rfl⟩ | exact ⟨rfl,by rw [hW1]⟩

set_option maxHeartbeats 4000000 in
set_option maxRecDepth 100000 in
theorem oF (b off n c vb voff m vc : Nat) (vs : List Value) (w : World) (hm : 0 < m) (hroom : n + m ≤ c) (hc63 : c ≤ 9223372036854775807)
    (hvl:vs.length=m * 6) (hsp:∀ j,j<m * 6→(w.cell? ⟨b,off+n * 6+j,none⟩).isSome=true) (hfz:∀ j,j<m * 6→w.frozen? ⟨b,off+n * 6+j,none⟩=false)
    (hvs:∀ j v,vs[j]? = some v→w.cell? ⟨vb,voff+j,none⟩=some v) (h1v:∀ v ∈ vs,v.oneCell'=true) :
    Calls Tryz.prog 180 #[.slice (some ⟨b, off, none⟩) n c, .int .i64 n, .slice (some ⟨vb, voff, none⟩) m vc] w fun e w' =>
      e = .returned (.slice (some ⟨b,off,none⟩) (n+m) c)∧w'=w.setCells b (off+n * 6) vs:=by
  have hz1:¬ ((m:Int)=0):=by omega
  obtain ⟨i0,z0,hi0,hz0,hzs,hzb,hzc⟩:=B2
  have hsrc : Src Tryz.prog i0.size 22 (.slice (some ⟨vb, voff, none⟩) m vc) m vs w := by
   rw [hzs]
   exact Src.ofSlice w rG ⟨vb,voff,none⟩ m vc vs (by omega) (fun j u hj=>by rw [Addr.add_lit];exact hvs j u hj) h1v
  go_enter Tryz.func180,Tryz.ntmps180
  go_wp2_with (at_builtin;refine wpList_append_room_src _ rfl _ _ 22 22 rfl 42 i0 rG hi0 b off n c rfl _ rfl m vs hsrc hroom (by rw [hvl,hzs];exact hsp) (by rw [hvl,hzs];exact hfz) ?_)
  go_ret
  exact ⟨rfl,rfl⟩

set_option maxHeartbeats 4000000 in
set_option maxRecDepth 100000 in
theorem oD (base:Option Addr) (n c vb voff m vc:Nat) (cs vs:List Value) (w:World) (hm:0<m) (hnc:n≤c) (hroom:c<n+m) (hbig:n+m≤4294967296)
  (hcl:cs.length=n * 6) (hvl:vs.length=m * 6) (hnil:base=none→n=0)
  (hcs:∀ a,base=some a→∀ (j:Nat) (v:Value),cs[j]? = some v→w.cell? (a.add j)=some v)
  (hvs:∀ j v,vs[j]? = some v→w.cell? ⟨vb,voff+j,none⟩=some v) (h1v:∀ v ∈ vs,v.oneCell'=true) :
  Calls Tryz.prog 180 #[.slice base n c,.int .i64 n,.slice (some ⟨vb,voff,none⟩) m vc] w fun e w' =>
   e = .returned (.slice (some ⟨w.heap.size,0,none⟩) (n+m) (grownCap w (n+m) c 42)) ∧
   ∃ ROW:Array Value,ROW.size=grownCap w (n+m) c 42 * 6∧(∀ (j:Nat) (v:Value),(cs++vs)[j]? = some v→ROW[j]? = some v)∧w'=w.drew.alloc (.cells ROW 42):=by
 obtain ⟨i0,z0,hi0,hz0,hzs,hzb,hzc⟩:=B2
 have hz1:¬ ((m:Int)=0):=by omega
 have hsrc:Src Tryz.prog i0.size 22 (.slice (some ⟨vb,voff,none⟩) m vc) m vs w:=by
  rw [hzs]
  exact Src.ofSlice w rG ⟨vb,voff,none⟩ m vc vs (by omega) (fun j u hj=>by rw [Addr.add_lit];exact hvs j u hj) h1v
 have hold:(Builtin.firstCells i0.size n (.slice base n c)).run Tryz.prog w.drew =   .ok cs.toArray w.drew:=by
  rw [hzs]
  cases base with
  | none =>
   have h0:=hnil rfl
   subst h0
   rw [List.length_eq_zero_iff.1 hcl]
   exact run_firstCells_none w.drew 6 0 0 c
  | some a=>exact run_firstCells_some w.drew 6 n a n c cs (by omega) (fun j v hj=>hcs a rfl j v hj)
 have hge:=grownCap_ge w (n+m) c 42
 obtain ⟨ROW,hROW⟩:∃ ROW:Array Value,ROW=(cs++vs).toArray++Builtin.zeroCells z0.cells (grownCap w (n+m) c 42 - (n+m)):=⟨_,rfl⟩
 have hRs:ROW.size=grownCap w (n+m) c 42 * 6:=by rw [hROW];simp [Builtin.zeroCells,hzc,hcl,hvl];omega
 have hRp:∀ (j:Nat) (v:Value),(cs++vs)[j]? = some v→ROW[j]? = some v:=fun j v hj=>by
  have:=(List.getElem?_eq_some_iff.1 hj).1
  rw [hROW,Array.getElem?_append_left (by simpa using this)]
  simpa using hj
 have hrun:∀ ty,(Builtin.append_ #[22,22] ty #[.slice base n c,.slice (some ⟨vb,voff,none⟩) m vc]).run Tryz.prog w = .ok (.slice (some ⟨w.heap.size,0,none⟩) (n+m) (grownCap w (n+m) c 42)) (w.drew.alloc (.cells ROW 42)):=fun ty=>by
  rw [hROW]
  exact run_append_grow_src w 22 22 ty 42 i0 z0 rG hi0 hz0 base n c cs hold _ m vs hsrc hroom (by omega) (by have:=Nat.mul_le_mul hbig hzb;exact growslice_fits hroom (by omega))
 clear hROW
 obtain ⟨G,hG⟩:∃ G,G=grownCap w (n+m) c 42:=⟨_,rfl⟩
 rw [← hG] at hrun hRs ⊢
 clear hG hge
 go_enter Tryz.func180,Tryz.ntmps180
 cases base with
 | none =>
  have h0:=hnil rfl
  subst h0
  go_wp2_with (at_builtin;refine Lib.wpList_append_run _ rfl _ _ _ _ rfl _ _ rfl rfl _ _ (hrun _) ?_)
  go_ret
  exact ⟨rfl,ROW,hRs,hRp,rfl⟩
 | some a =>
  obtain ⟨ab,ao,asp⟩:=a
  go_wp2_with (at_builtin;refine Lib.wpList_append_run _ rfl _ _ _ _ rfl _ _ rfl rfl _ _ (hrun _) ?_)
  all_goals (go_ret;exact ⟨rfl,ROW,hRs,hRp,rfl⟩)

set_option maxHeartbeats 4000000 in
set_option maxRecDepth 100000 in
theorem uN (b off n c i vb voff m vc : Nat) (cs vs : List Value) (w : World) (hi : i < n) (hm : 0 < m) (hnc : n ≤ c) (hroom : c < n + m) (hbig : n + m ≤ 4294967296)
    (hcl:cs.length=n * 6) (hvl:vs.length=m * 6)
    (hcs:∀ j v,cs[j]? = some v→w.cell? ⟨b,off+j,none⟩=some v)
    (hvs:∀ j v,vs[j]? = some v→w.cell? ⟨vb,voff+j,none⟩=some v) (h1c:∀ v ∈ cs,v.oneCell'=true) (h1v:∀ v ∈ vs,v.oneCell'=true) :
    Calls Tryz.prog 180 #[.slice (some ⟨b, off, none⟩) n c, .int .i64 i, .slice (some ⟨vb, voff, none⟩) m vc] w fun e w' =>
      e = .returned (.slice (some ⟨w.heap.size,0,none⟩) (n+m) (grownCap w (n+m) c 42)) ∧
      ∃ ROW : Array Value, ROW.size = grownCap w (n + m) c 42 * 6 ∧ (∀ (j : Nat) (v : Value), (cs.take (i * 6))[j]? = some v → ROW[j]? = some v) ∧
        w'=(((w.alloc (.cells ROW 42)).drew.setCells w.heap.size (i * 6) vs).drew).setCells w.heap.size ((i+m) * 6) (cs.drop (i * 6)):=by
  obtain ⟨i0,z0,hi0,hz0,hzs,hzb,hzc⟩:=B2
  have hz1:¬ ((m:Int)=0):=by omega
  have hz2:¬ ((i:Int)=(n:Int)):=by omega
  have hz3:(c:Int)<(n:Int)+(m:Int):=by omega
  have hsz:(Tryz.prog.info? 42).map (·.size)=some 6:=Gr
  have hbw:b<w.heap.size:=block_lt_of_cell (hcs 0 _ (List.getElem?_eq_getElem (by omega)))
  have hvw:vb<w.heap.size:=block_lt_of_cell (hvs 0 _ (List.getElem?_eq_getElem (by omega)))
  have hkk:(n:Int)+(m:Int) - (i:Int)=((n+m - i:Nat):Int):=by omega
  have hik:i+(n+m - i)=n+m:=by omega
  have hold : (Builtin.firstCells i0.size i (.slice (some ⟨b, off, none⟩) i c)).run Tryz.prog w.drew = .ok (cs.take (i * 6)).toArray w.drew := by
    rw [hzs]
    exact run_firstCells_some w.drew 6 i ⟨b, off, none⟩ i c (cs.take (i * 6)) (by rw [List.length_take]; omega) (fun j v hj => by
      rw [Addr.add_lit]
      rw [List.getElem?_take] at hj
      split at hj
      · exact hcs j v hj
      · cases hj)
  have hrz : ∀ ty, (Builtin.append_ #[22, 3] ty #[.slice (some ⟨b, off, none⟩) i c, .int .i64 ((n : Int) + (m : Int) - (i : Int))]).run Tryz.prog w =
      .ok (.slice (some ⟨w.heap.size,0,none⟩) (n+m) (grownCap w (n+m) c 42)) (w.drew.alloc (.cells ((cs.take (i * 6)).toArray++Builtin.zeroCells z0.cells (n+m - i)++Builtin.zeroCells z0.cells (grownCap w (n+m) c 42 - (n+m))) 42)):=fun ty=>by
    have h:=Lib.run_append_grow_zeros w 22 3 ty 42 i0 z0 .i64 .i64 rG Ge hi0 hz0 (some ⟨b,off,none⟩) i c (cs.take (i * 6)) hold (n+m - i) (by omega) (by omega) (by omega) (by omega) (by have:=Nat.mul_le_mul (show n+m - i≤4294967296 by omega) hzb;omega) (by rw [hik];have:=Nat.mul_le_mul hbig hzb;exact growslice_fits hroom (by omega))
    rw [hik] at h
    rw [hkk]
    exact h
  obtain ⟨G,hG⟩:∃ G,G=grownCap w (n+m) c 42:=⟨_,rfl⟩
  obtain ⟨ROW,hROW⟩:∃ ROW:Array Value,ROW=(cs.take (i * 6)).toArray++Builtin.zeroCells z0.cells (n+m - i)++Builtin.zeroCells z0.cells (G - (n+m)):=⟨_,rfl⟩
  rw [← hG] at hrz ⊢
  rw [← hROW] at hrz
  have hRl : (n + m) * 6 ≤ ROW.size := by
    rw [hROW]
    simp [Builtin.zeroCells,hzc,hcl]
    omega
  obtain ⟨W1,hW1⟩:∃ W1,W1=w.drew.alloc (.cells ROW 42):=⟨_,rfl⟩
  rw [← hW1] at hrz
  have hN : ∀ j, j < (n + m) * 6 → (W1.cell? ⟨w.heap.size, j, none⟩).isSome = true := fun j hj => by
    rw [hW1,World.cell?_alloc_at (w:=w.drew) ROW _ w.heap.size j rfl,Array.getElem?_eq_getElem (by omega)];rfl
  have hNf:∀ j,W1.frozen? ⟨w.heap.size,j,none⟩=false:=fun j=>by rw [hW1];exact World.frozen?_alloc_at (w:=w.drew) ROW _ w.heap.size j rfl
  have hOb:∀ j v,w.cell? ⟨b,j,none⟩=some v→W1.cell? ⟨b,j,none⟩=some v:=fun j v h=>by rw [hW1,World.cell?_alloc_past (w:=w.drew) _ b j hbw];exact h
  have hOv:∀ j v,w.cell? ⟨vb,j,none⟩=some v→W1.cell? ⟨vb,j,none⟩=some v:=fun j v h=>by rw [hW1,World.cell?_alloc_past (w:=w.drew) _ vb j hvw];exact h
  have hcpA : ∀ (W : World), (∀ x, W.cell? x = W1.cell? x) → (∀ x, W.frozen? x = W1.frozen? x) → ∀ ty dc, (Builtin.copy_ #[22, 22] ty #[.slice (some ⟨w.heap.size, i * 6, none⟩) (n + m - i) dc, .slice (some ⟨vb, voff, none⟩) m vc]).run Tryz.prog W = .ok (goInt (m : Nat)) (W.setCells w.heap.size (i * 6) vs) := fun W hWc hWf ty dc =>
    eP 6 W _ _ ty 42 w.heap.size (i * 6) (n + m - i) dc ⟨vb, voff, none⟩ m vc vs rG hsz m (by simp only [Nat.min_def]; split <;> omega) hvl
      (fun j v hj=>by rw [Addr.add_lit,hWc];exact hOv _ v (hvs j v hj))
      (fun j hj=>by rw [hWc];exact hN _ (by omega)) (fun j hj=>by rw [hWf];exact hNf _) h1v
  have hRp : ∀ (j : Nat) (v : Value), (cs.take (i * 6))[j]? = some v → ROW[j]? = some v := fun j v hj => by
    have:=(List.getElem?_eq_some_iff.1 hj).1
    rw [hROW,Array.getElem?_append_left (by simp at this ⊢;omega),Array.getElem?_append_left (by simpa using this)]
    simpa using hj
  have hGn:n+m≤G:=by rw [hG];exact grownCap_ge w _ _ _
  have hG63 : G ≤ 9223372036854775807 := by
    have:=grownCap_le_maxLen w (n+m) c 42 (by unfold maxLen;omega)
    rw [← hG] at this
    unfold maxLen at this
    omega
  have hGi:¬ (G=i):=by omega
  have hGim:¬ (G=i+m):=by omega
  have hci:¬ (c=i):=by omega
  have hbN:b ≠ w.heap.size:=by omega
  have hdl:(cs.drop (i * 6)).length=(n - i) * 6:=by rw [List.length_drop,hcl];omega
  have hcpB : ∀ (W : World), (∀ x, W.cell? x = (W1.setCells w.heap.size (i * 6) vs).cell? x) → (∀ x, W.frozen? x = (W1.setCells w.heap.size (i * 6) vs).frozen? x) → ∀ ty dc sc, (Builtin.copy_ #[22, 22] ty #[.slice (some ⟨w.heap.size, (i + m) * 6, none⟩) (n + m - (i + m)) dc, .slice (some ⟨b, off + i * 6, none⟩) (n - i) sc]).run Tryz.prog W = .ok (goInt (n - i : Nat)) (W.setCells w.heap.size ((i + m) * 6) (cs.drop (i * 6))) := fun W hWc hWf ty dc sc =>
    eP 6 W _ _ ty 42 w.heap.size ((i + m) * 6) (n + m - (i + m)) dc ⟨b, off + i * 6, none⟩ (n - i) sc (cs.drop (i * 6)) rG hsz (n - i) (by simp only [Nat.min_def]; split <;> omega) hdl
      (fun j v hj => by
        rw [Addr.add_lit,hWc,World.cell?_setCells_out _ _ _ _ _ (fun h _=>absurd h hbN),Nat.add_assoc]
        exact hOb _ v (hcs (i * 6+j) v (by rwa [List.getElem?_drop] at hj)))
      (fun j hj=>by rw [hWc];exact isSome_setCells _ _ _ _ (fun t ht=>hN _ (by omega)) _ (hN _ (by omega)))
      (fun j hj=>by rw [hWf,World.frozen?_setCells];exact hNf _) (fun v hv=>h1c v (List.mem_of_mem_drop hv))
  subst hW1
  have hE1:∀ x,((w.alloc (.cells ROW 42)).drew).cell? x=(w.drew.alloc (.cells ROW 42)).cell? x:=fun x=>rfl
  have hE2:∀ x,((w.alloc (.cells ROW 42)).drew).frozen? x=(w.drew.alloc (.cells ROW 42)).frozen? x:=fun x=>rfl
  have hF1:∀ x,(((w.alloc (.cells ROW 42)).drew.setCells w.heap.size (i * 6) vs).drew).cell? x=((w.drew.alloc (.cells ROW 42)).setCells w.heap.size (i * 6) vs).cell? x:=fun x=>rfl
  have hF2:∀ x,(((w.alloc (.cells ROW 42)).drew.setCells w.heap.size (i * 6) vs).drew).frozen? x=((w.drew.alloc (.cells ROW 42)).setCells w.heap.size (i * 6) vs).frozen? x:=fun x=>rfl
  have hw1:IntKind.i64.wrap ((i:Int)+(m:Int))=(i:Int)+(m:Int):=by rw [IntKind.wrap_i64];omega
  have hb1:(0:Int)≤(i:Int)+(m:Int):=by omega
  have hin:i≤n:=by omega
  have htn:((i:Int)+(m:Int)).toNat=i+m:=by omega
  have hb3:(i:Int)≤(n:Int):=by omega
  have hRs:ROW.size=G * 6:=by rw [hROW];simp [Builtin.zeroCells,hzc,hcl];omega
  clear hkk hik hold hROW hG hRl
  have mixed:Tryz.prog.follows .mixedOrders=true:=by kernel_rfl
  go_enter Tryz.func180,Tryz.ntmps180
  go_wp2_with (first
    | (at_builtin;refine Lib.wpList_append_run _ rfl _ _ _ _ rfl _ _ rfl rfl _ _ (hrz _) ?_)
    | (at_builtin;refine wpList_copy_runI _ rfl _ _ 22 22 rfl _ _ rfl rfl (hcpA _ hE1 hE2 _ _) ?_)
    | (at_builtin;refine wpList_copy_runI _ rfl _ _ 22 22 rfl _ _ rfl rfl (hcpB _ (fun _=>rfl) (fun _=>rfl) _ _ _) ?_))
  go_region_law_o (refine step_copy_runI rfl _ _ 22 22 rfl (.slice (some ⟨w.heap.size,(i+m) * 6,none⟩) (n+m - (i+m)) (G - (i+m))) (.slice (some ⟨b,off+i * 6,none⟩) (n - i) (c - i)) (by simp [Act.eval,Act.put]) (by simp [Act.eval,Act.put]) (hcpB _ hF1 hF2 3 (G - (i+m)) (c - i)) ?_)
  go_wp2
  go_ret
  exact ⟨rfl,ROW,hRs,hRp,rfl⟩


set_option maxHeartbeats 4000000 in
set_option maxRecDepth 100000 in
theorem wg (a:Option Addr) (n c i:Nat) (y:Option Addr) (vc:Nat) (w:World) (hi:i≤n) (hn:n≤c) (hc:c≤9223372036854775807) :
  Calls Tryz.prog 180 #[.slice a n c,.int .i64 i,.slice y 0 vc] w fun e w'=>e = .returned (.slice a n c)∧w'=w:=by
 have h1:(i:Int)≤(n:Int):=by omega
 go_enter Tryz.func180,Tryz.ntmps180
 cases a with
 | none =>
  go_wp2
  all_goals (go_ret;exact ⟨rfl,rfl⟩)
 | some a =>
  obtain ⟨ab,ao,asp⟩:=a
  go_wp2
  all_goals (go_ret;exact ⟨rfl,rfl⟩)
end Go.Proofs.YtfhcammihohmjaaGreatDoor
namespace Go.Proofs.YtfhcammihohmjaaGreatDoor.Pal
open Go Go.Sort
@[reducible] def gU:Ty:=(.pair (.pair (.int .i64) (.int .i64)) (.pair (.int .i64) (.pair (.int .i64) (.pair .bool (.slc (.pair (.int .i64) (.pair (.slc .str) (.pair (.pair (.int .i64) (.pair (.int .i64) .str)) (.pair (.int .i64) (.slc (.pair (.pair (.int .i64) (.int .i64)) (.int .i64))))))))))))
theorem Aj : CallOK Tryz.prog 180 (rl gU) := by
  have eF:∀ args w,(callFunc 180 args).run Tryz.prog w = .ok (.enter 180 args) w:=enters_of Tryz.func180 (by kernel_rfl) rfl
  have val : ∀ args objs v os, (rl gU).val args objs = some (v, os) → ∃ (xs ys : List gU.D) (i : Int) (va : V), args = [.raw gU xs, .dat (.int .i64) i, va] ∧ V.as (.slc gU) va = some ys ∧ objs = [] ∧ (0 ≤ i ∧ i ≤ xs.length) ∧ xs.length + ys.length ≤ 4294967296 ∧ v = .own gU (eC xs i ys) ∧ os = [] := by
    intro args objs v os h
    unfold Entry.val rl at h
    simp only at h
    split at h
    · rename_i e' xs i va
      split at h
      · rename_i he;subst he
        rw [Option.bind_eq_some_iff] at h
        obtain ⟨ys,hys,h⟩:=h
        obtain ⟨hb,h⟩:=cw h
        obtain ⟨hr,h⟩:=cw h
        injection h with h;injection h with h1 h2
        obtain ⟨_,i1,i2⟩:=km hb
        exact ⟨xs,ys,i,va,rfl,hys,rfl,⟨i1,i2⟩,nL hr,h1.symm,h2.symm⟩
      · cases h
    · cases h
  refine ⟨fun α args objs K=>?_,fun args objs vr os hval X G w argv tA tM hW hTab hX hA hM hcnt htok=>?_⟩
  · unfold Entry.val rl
    simp only
    split
    · split
      · rename_i va _
        cases V.as (.slc gU) va with
        | none=>rfl
        | some ys=>simp only [Option.bind_some];rw [bX,bX];rfl
      · rfl
    · rfl
  · obtain ⟨xs,ys,ii,va,rfl,hva,rfl,⟨hi0,hi1⟩,hlen,rfl,rfl⟩:=val _ _ _ _ hval
    obtain ⟨i,rfl⟩:∃ i:Nat,ii=(i:Int):=⟨ii.toNat,by omega⟩
    have hin:i≤xs.length:=by omega
    obtain ⟨x0,r0,t1,t2,rfl,rfl,⟨cs0,⟨ad,n,c,e1,e2,e3,e4⟩,hx⟩,x1,r1,t3,t4,rfl,rfl,⟨cs1,⟨f1,f2⟩,hx1⟩,x2,r2,t5,t6,rfl,rfl,hx2,rfl,rfl⟩:=hA
    obtain ⟨ad2,m,vc,rfl,g2,g3,g4⟩:=(aY.as_ hva hx2).slc
    simp only [V.agg,Bool.false_eq_true,if_false] at hx hx1
    rw [e1] at hx
    have f1:cs1=[.int .i64 i]:=f1
    rw [f1] at hx1
    simp only [Ty.agg,Bool.false_eq_true,if_false,List.cons.injEq,and_true] at hx hx1
    subst hx;subst hx1;subst f2
    obtain ⟨hM1,hM2⟩:tM=[]∧True:=⟨hM,trivial⟩
    obtain ⟨cs, hAc, e5⟩ : ∃ cs, bC (aR G.I gU) xs cs ∧ ((c = 0 ∧ t1 = []) ∨ ∃ gb, ad = some ⟨gb, 0, none⟩ ∧ t1 = [gb] ∧ (∃ cells ty, w.heap[gb]? = some (.cells cells ty (0, 0)) ∧ cells.size = c * 6 ∧ ∀ (j : Nat) (v : Value), cs[j]? = some v → cells[j]? = some v) ∧ (∀ o, G.I gb o = none) ∧ ∀ o, G.O gb o = none) := by
      rcases e4 with ⟨hc0,ht⟩ | ⟨gb,h1,h2,⟨cells,ty,cc,hgc,hs,hAc,hcc⟩,hI,hO'⟩
      · have:xs=[]:=List.eq_nil_of_length_eq_zero (by omega)
        subst this
        exact ⟨[],rfl,.inl ⟨hc0,ht⟩⟩
      · exact ⟨cc,hAc,.inr ⟨gb,h1,h2,⟨cells,ty,hgc,hs,hcc⟩,hI,hO'⟩⟩
    have hia:(eC xs (i:Int) ys)=xs.take i++(ys++xs.drop i):=rfl
    have hzl:(eC xs (i:Int) ys).length=n+m:=by rw [hia];simp [← e2,← g2];omega
    have hcl:cs.length=n * 6:=by rw [← e2];exact hAc.len
    obtain ⟨hAt,hAd⟩:=bC.split (sz:=6) (fun x c h=>aR.length gU x c h) xs cs i hin hAc
    have h1c:∀ v ∈ cs,v.oneCell'=true:=fz xs cs hAc
    refine .inl ⟨eF _ _,?_⟩
    have hfr:∀ {b:Nat} {C:Array Value} {T:TypeId} (o:Nat),w.heap[b]? = some (.cells C T (0,0))→w.frozen? ⟨b,o,none⟩=false:=fun o h=>by simp only [World.frozen?,h];simp
    rcases Nat.eq_zero_or_pos m with hm0 | hm0
    · have hys:ys=[]:=List.eq_nil_of_length_eq_zero (by omega)
      subst hys;subst hm0
      have hxx:eC xs (i:Int) []=xs:=by rw [hia];simp
      rw [hxx] at hzl ⊢
      refine Calls.mono (wg ad n c i ad2 vc w (by omega) e3.1 e3.2) fun e' w' hh=>?_
      obtain ⟨rfl,rfl⟩:=hh
      rcases e5 with ⟨hc0,rfl⟩ | ⟨gb,rfl,rfl,⟨cells,ty,hgc,hs,hcc⟩,hI,hO'⟩
      · exact ⟨G,Ev.refl _ _ _,hW,fun _ _=>rfl,[],[],[],⟨_,⟨ad,n,c,rfl,e2,e3,.inl ⟨hc0,rfl⟩⟩,rfl⟩,rfl,rfl,fun q=>by simp,fun q hq=>by simp at hq⟩
      · have hone:bi gb [gb]=1:=by simp [bi]
        have hX1:∀ o,X gb o:=htok gb (by simp only [bN];omega)
        have:=fU (e:=gU) (zs:=xs) (ax:=some (.slice (some ⟨gb,0,none⟩) n c)) hW (Evo.refl X w') (fun _ _ _=>rfl) hgc hs (by rw [e2];exact e3) hAc (fun j v hj=>by rw [bF hgc];exact hcc j v hj) hI hO' (.inr hX1)
        rw [e2] at this
        exact this
    · rcases g4 with hy0 | ⟨vb,vo,rfl,hel⟩
      · subst hy0;simp at g2;omega
      obtain ⟨vs,hvA,hvat⟩:=d8.all2 (fun x c=>aR.length gU x c) ys vb vo hel
      have hvl:vs.length=m * 6:=by rw [← g2];exact hvA.len
      have h1v:∀ v ∈ vs,v.oneCell'=true:=fz ys vs hvA
      have hA2 : bC (aR G.I gU) (eC xs (i : Int) ys) (cs.take (i * 6) ++ (vs ++ cs.drop (i * 6))) := by
        rw [hia];exact bC.append _ _ _ _ hAt (bC.append _ _ _ _ hvA hAd)
      have hvc:∀ (j:Nat) (v:Value),vs[j]? = some v→w.cell? ⟨vb,vo+j,none⟩=some v:=fun j v hj=>hW.holds vb _ v (hvat j v hj)
      have hvI:∃ v,G.I vb vo=some v:=⟨_,by have:=hvat 0 vs[0] (List.getElem?_eq_getElem (by omega));simpa using this⟩
      obtain ⟨kA, tA, hkA, hsa⟩ : ∃ kA tA, kA ≠ 0 ∧ w.shape? vb = some (tA, kA) := by
        obtain ⟨v,hv⟩:=hvI
        have h:=hW.holds vb vo v hv
        unfold World.cell? at h
        split at h
        · rename_i C T fr hb
          simp only [Option.isSome_none,Bool.false_eq_true,if_false] at h
          exact ⟨C.size,T,by have:=(Array.getElem?_eq_some_iff.1 h).1;omega,by have hb':w.heap[vb]? = some (.cells C T fr):=hb;simp only [World.shape?,hb']⟩
        · cases h
      have hbig:n+m≤4294967296:=by omega
      have fresh : ∀ w' (cap : Nat), (∀ b, b < w.heap.size → w'.heap[b]? = w.heap[b]?) → w'.os = w.os → w'.tape = w.tape → w'.output = w.output → w.drawn ≤ w'.drawn → w.heap.size ≤ w'.heap.size → (∃ C T, w'.heap[w.heap.size]? = some (.cells C T (0, 0)) ∧ C.size = cap * 6) → (n + m ≤ cap ∧ cap ≤ 9223372036854775807) →
          (∀ (j:Nat) (v:Value),(cs.take (i * 6)++(vs++cs.drop (i * 6)))[j]? = some v→w'.cell? ⟨w.heap.size,j,none⟩=some v) →
          ∃ G',uo X G w 0 (.own gU (eC xs i ys)) [] (.slice (some ⟨w.heap.size,0,none⟩) (n+m) cap) (some (.slice ad n c)) G' w':=by
        intro w' cap k1 k2 k3 k4 k5 k6 ⟨C,T,k7,k8⟩ k9 k10
        have:=fU (e:=gU) (zs:=eC xs i ys) (X:=X) (ax:=some (.slice ad n c)) hW ⟨k2,k3,k4,k6,fun b hb=>.inl (k1 b hb),fun _=>k5⟩ (fun b hb _=>k1 b hb) k7 k8 (by rw [hzl];exact k9) hA2 k10 (fun o=>(hW.none_new o).1) (fun o=>(hW.none_new o).2) (.inl (Nat.le_refl _))
        rw [hzl] at this
        exact this
      rcases Nat.lt_or_ge i n with hlt | hge
      · rcases e5 with ⟨hc0,_⟩ | ⟨gb,rfl,rfl,⟨cells,ty,hgc,hs,hcc⟩,hI,hO'⟩
        · omega
        have hgv : gb ≠ vb := by
          intro e;subst e
          obtain ⟨v,hv⟩:=hvI
          rw [hI vo] at hv;cases hv
        have hcc':∀ (j:Nat) (v:Value),cs[j]? = some v→w.cell? ⟨gb,0+j,none⟩=some v:=fun j v hj=>by rw [bF hgc,Nat.zero_add];exact hcc j v hj
        by_cases hroom:n+m≤c
        · have hsz:(n+m) * 6≤cells.size:=by rw [hs];exact Nat.mul_le_mul_right 6 hroom
          have hshape:∀ {b:Nat} {C:Array Value} {T:TypeId},w.heap[b]? = some (.cells C T (0,0))→w.shape? b=some (T,C.size):=fun h=>by simp only [World.shape?,h]
          refine Calls.mono (tC gb 0 n c i vb vo m vc cs vs w hlt hm0 hroom e3.2 (Ne.symm hgv) hcl hvl hcc' (fun j hj=>by rw [bF hgc,Nat.zero_add,Array.getElem?_eq_getElem (by omega)];rfl) (fun j hj=>hfr _ hgc) hvc h1c h1v tA ty kA _ hsa (hshape hgc) hkA (fun o=>hfr o hgc)) fun e' w' hh=>?_
          obtain ⟨rfl,rfl⟩:=hh
          obtain ⟨C1,q1,q2⟩:=bU gb (cs.drop (i * 6)) (0+(i+m) * 6) w.drew cells ty (0,0) hgc
          obtain ⟨C2,q3,q4⟩:=bU gb vs (0+i * 6) _ C1 ty (0,0) q1
          have hone:bi gb [gb]=1:=by simp [bi]
          have hX1:∀ o,X gb o:=htok gb (by simp only [bN];omega)
          have hold : ∀ b, b ≠ gb → ((w.drew.setCells gb (0 + (i + m) * 6) (cs.drop (i * 6))).setCells gb (0 + i * 6) vs).heap[b]? = w.heap[b]? := fun b hb => by
            rw [bT gb _ _ _ b hb,bT gb _ _ _ b hb];rfl
          have hE1:=Evo.setCells (X:=X) gb (cs.drop (i * 6)) (0+(i+m) * 6) w.drew (fun j _=>hX1 _)
          have hE2:=Evo.setCells (X:=X) gb vs (0+i * 6) (w.drew.setCells gb (0+(i+m) * 6) (cs.drop (i * 6))) (fun j _=>hX1 _)
          have:=fU (e:=gU) (zs:=eC xs i ys) (ax:=some (.slice (some ⟨gb,0,none⟩) n c)) (cap:=c) (X:=X) hW (w':=(w.drew.setCells gb (0+(i+m) * 6) (cs.drop (i * 6))).setCells gb (0+i * 6) vs) (g:=gb) ?_ (fun b _ hb=>hold b hb) q3 (by rw [q4,q2,hs];rfl) (by rw [hzl];exact ⟨hroom,e3.2⟩) hA2 (fun j v hj=>?_) hI hO' (.inr hX1)
          · rw [hzl] at this;exact this
          · exact (Evo.drew X w).trans (hE1.trans hE2 (fun _ _ _ h=>h) (fun _ _ _ h=>h)) (fun _ _ _ h=>h) (fun _ _ _ h=>h)
          · have:=zl (W:=w.drew) (b:=gb) (k:=i * 6) (l:=m * 6) (cs:=cs) (vs:=vs) (by omega) hvl (fun j hj=>by show (w.cell? ⟨gb,j,none⟩).isSome=true;rw [bF hgc,Array.getElem?_eq_getElem (by omega)];rfl) (fun j v _ hj=>by show w.cell? ⟨gb,j,none⟩=some v;rw [bF hgc];exact hcc j v hj) j v hj
            rw [Nat.zero_add,Nat.zero_add,Nat.add_mul];exact this
        · refine Calls.mono (uN gb 0 n c i vb vo m vc cs vs w hlt hm0 e3.1 (by omega) hbig hcl hvl hcc' hvc h1c h1v) fun e' w' hh=>?_
          obtain ⟨rfl,ROW,hRs,hRp,rfl⟩:=hh
          have hge:=grownCap_ge w (n+m) c 42
          have hle:=grownCap_le_maxLen w (n+m) c 42 (by unfold maxLen;omega)
          unfold maxLen at hle
          obtain ⟨cap,hcap⟩:∃ cap,cap=grownCap w (n+m) c 42:=⟨_,rfl⟩
          rw [← hcap] at hge hle hRs ⊢
          have hnew:((w.alloc (.cells ROW 42)).drew).heap[w.heap.size]? = some (.cells ROW 42 (0,0)):=by show (w.heap.push _)[w.heap.size]? = _;simp
          obtain ⟨C1,q1,q2⟩:=bU w.heap.size vs (i * 6) _ ROW 42 (0,0) hnew
          obtain ⟨C2,q3,q4⟩:=bU w.heap.size (cs.drop (i * 6)) ((i+m) * 6) (((w.alloc (.cells ROW 42)).drew.setCells w.heap.size (i * 6) vs).drew) C1 42 (0,0) q1
          have hszs:∀ (vs:List Value) (o:Nat) (W:World),(W.setCells w.heap.size o vs).heap.size=W.heap.size:=fun vs o W=>World.size_setCells _ vs o W
          refine fresh _ cap (fun b hb=>?_) (by rw [gR];exact gR _ _ _ _) (by rw [fe];exact fe _ _ _ _) (by rw [dZ];exact dZ _ _ _ _) (by rw [eO];show _≤(World.setCells _ _ _ _).drawn+1;rw [eO];show w.drawn≤w.drawn+1+1;omega) (by rw [hszs];show _≤(World.setCells _ _ _ _).heap.size;rw [hszs];show _≤(w.heap.push _).size;simp) ⟨C2,42,q3,by rw [q4,q2,hRs]⟩ ⟨hge,hle⟩ (fun j v hj=>?_)
          · rw [bT _ _ _ _ b (by omega)]
            show (World.setCells _ _ _ _).heap[b]? = _
            rw [bT _ _ _ _ b (by omega)]
            show (w.heap.push _)[b]? = _
            rw [Array.getElem?_push_lt hb,Array.getElem?_eq_getElem hb]
          · have := ER (W := (w.alloc (.cells ROW 42)).drew) (b := w.heap.size) (k := i * 6) (l := m * 6) (cs := cs) (vs := vs) (by omega) hvl (fun j hj => by
                rw [bF hnew,Array.getElem?_eq_getElem (by omega)];rfl) (fun j v hj1 hj2=>by
                rw [bF hnew];exact hRp j v (by rw [List.getElem?_take,if_pos hj1];exact hj2)) j v hj
            rw [← drew_setCells,Nat.add_mul];exact this
      · have hie:i=n:=by omega
        subst hie
        by_cases hroom:i+m≤c
        · rcases e5 with ⟨hc0,_⟩ | ⟨gb,rfl,rfl,⟨cells,ty,hgc,hs,hcc⟩,hI,hO'⟩
          · omega
          have hsz:(i+m) * 6≤cells.size:=by rw [hs];exact Nat.mul_le_mul_right 6 hroom
          have hsome:∀ j,j<(i+m) * 6→(w.cell? ⟨gb,j,none⟩).isSome=true:=fun j hj=>by rw [bF hgc,Array.getElem?_eq_getElem (by omega)];rfl
          refine Calls.mono (oF gb 0 i c vb vo m vc vs w hm0 hroom e3.2 hvl (fun j hj=>hsome _ (by omega)) (fun j hj=>hfr _ hgc) hvc h1v) fun e' w' hh=>?_
          obtain ⟨rfl,rfl⟩:=hh
          obtain ⟨C2,q3,q4⟩:=bU gb vs (0+i * 6) w cells ty (0,0) hgc
          have hone:bi gb [gb]=1:=by simp [bi]
          have hX1:∀ o,X gb o:=htok gb (by simp only [bN];omega)
          have:=fU (e:=gU) (zs:=eC xs i ys) (ax:=some (.slice (some ⟨gb,0,none⟩) i c)) (cap:=c) (X:=X) hW (w':=w.setCells gb (0+i * 6) vs) (g:=gb) (Evo.setCells (X:=X) gb vs (0+i * 6) w (fun j _=>hX1 _)) (fun b _ hb=>bT gb _ _ _ b hb) q3 (by rw [q4,hs];rfl) (by rw [hzl];exact ⟨hroom,e3.2⟩) hA2 (fun j v hj=>?_) hI hO' (.inr hX1)
          · rw [hzl] at this;exact this
          · have h0:cs.drop (i * 6)=[]:=List.drop_of_length_le (by omega)
            have:=zl (W:=w) (b:=gb) (k:=i * 6) (l:=m * 6) (cs:=cs) (vs:=vs) (by omega) hvl (fun j hj=>hsome _ (by omega)) (fun j v _ hj=>by rw [bF hgc];exact hcc j v hj) j v hj
            rw [h0] at this
            rw [Nat.zero_add];exact this
        · have hnil : ad = none → i = 0 := fun h => by
            rcases e5 with ⟨hc0,_⟩ | ⟨gb,h1,_⟩
            · omega
            · rw [h] at h1;cases h1
          have hold : ∀ a, ad = some a → ∀ (j : Nat) (v : Value), cs[j]? = some v → w.cell? (a.add j) = some v := fun a ha j v hj => by
            rcases e5 with ⟨hc0,_⟩ | ⟨gb,h1,_,⟨cells,ty,hgc,hs,hcc⟩,hI,hO'⟩
            · have:=(List.getElem?_eq_some_iff.1 hj).1;omega
            · rw [h1] at ha;injection ha with ha;subst ha
              rw [Addr.add_lit,bF hgc,Nat.zero_add];exact hcc j v hj
          refine Calls.mono (oD ad i c vb vo m vc cs vs w hm0 e3.1 (by omega) hbig hcl hvl hnil hold hvc h1v) fun e' w' hh=>?_
          obtain ⟨rfl,ROW,hRs,hRp,rfl⟩:=hh
          have hge:=grownCap_ge w (i+m) c 42
          have hle:=grownCap_le_maxLen w (i+m) c 42 (by unfold maxLen;omega)
          unfold maxLen at hle
          obtain ⟨cap,hcap⟩:∃ cap,cap=grownCap w (i+m) c 42:=⟨_,rfl⟩
          rw [← hcap] at hge hle hRs ⊢
          have hnew:(w.drew.alloc (.cells ROW 42)).heap[w.heap.size]? = some (.cells ROW 42 (0,0)):=by show (w.heap.push _)[w.heap.size]? = _;simp
          refine fresh _ cap (fun b hb=>?_) rfl rfl rfl (by show w.drawn≤w.drawn+1;omega) (by show _≤(w.heap.push _).size;simp) ⟨ROW,42,hnew,hRs⟩ ⟨hge,hle⟩ (fun j v hj=>?_)
          · show (w.heap.push _)[b]? = _
            rw [Array.getElem?_push_lt hb,Array.getElem?_eq_getElem hb]
          · have h0:cs.drop (i * 6)=[]:=List.drop_of_length_le (by omega)
            have h1:cs.take (i * 6)=cs:=List.take_of_length_le (by omega)
            rw [h0,h1,List.append_nil] at hj
            rw [bF hnew];exact hRp j v hj
end Go.Proofs.YtfhcammihohmjaaGreatDoor.Pal
end
noncomputable section
/- The library's functions at this program's types. -/
namespace Go.Proofs.YtfhcammihohmjaaGreatDoor
open Pal Go
set_option maxRecDepth 100000 in
theorem mD:CallOK Tryz.prog 113 (iX ((.pair (.int .i64) (.int .i64)))) :=
 nV (T:=26) (B:=4) (TT.of (by kernel_rfl) (by kernel_rfl)) (by kernel_rfl) (by kernel_rfl) Tryz.func113 (by kernel_rfl) (by kernel_rfl) (by kernel_rfl) (by kernel_rfl) (by kernel_rfl) (fun xs=>by kernel_rfl) (by kernel_rfl) (fun xs=>by kernel_rfl)
set_option maxRecDepth 100000 in
theorem tZ:CallOK Tryz.prog 115 (iX ((.pair (.pair (.int .i64) (.int .i64)) (.pair (.int .i64) (.pair (.int .i64) (.pair .bool (.slc (.pair (.int .i64) (.pair (.slc .str) (.pair (.pair (.int .i64) (.pair (.int .i64) .str)) (.pair (.int .i64) (.slc (.pair (.pair (.int .i64) (.int .i64)) (.int .i64)))))))))))))) :=
 nV (T:=22) (B:=4) (TT.of (by kernel_rfl) (by kernel_rfl)) (by kernel_rfl) (by kernel_rfl) Tryz.func115 (by kernel_rfl) (by kernel_rfl) (by kernel_rfl) (by kernel_rfl) (by kernel_rfl) (fun xs=>by kernel_rfl) (by kernel_rfl) (fun xs=>by kernel_rfl)
set_option maxRecDepth 100000 in
theorem rp:CallOK Tryz.prog 116 (iX ((.pair (.pair (.int .i64) (.int .i64)) (.int .i64)))) :=
 nV (T:=23) (B:=4) (TT.of (by kernel_rfl) (by kernel_rfl)) (by kernel_rfl) (by kernel_rfl) Tryz.func116 (by kernel_rfl) (by kernel_rfl) (by kernel_rfl) (by kernel_rfl) (by kernel_rfl) (fun xs=>by kernel_rfl) (by kernel_rfl) (fun xs=>by kernel_rfl)
end Go.Proofs.YtfhcammihohmjaaGreatDoor
end
noncomputable section
/- Where slices.SortFunc at dots and what it calls lie in this program. -/
namespace Go.Proofs.YtfhcammihohmjaaGreatDoor
open Go.Proofs
open Go.Shelf
def fg:Go.Shelf.Ren:=⟨fun | 6=>199 | 15=>241 | 14=>240 | 28=>271 | 29=>272 | 20=>263 | 21=>264 | 22=>265 | 23=>266 | 24=>267 | 25=>268 | 26=>269 | 27=>270 | 46=>278 | 47=>279 | 48=>280 | 49=>281 | 50=>282 | 57=>284 | n=>n,fun | 22=>26 | 24=>39 | 25=>131 | 3=>3 | 39=>198 | 0=>0 | 53=>123 | 55=>267 | 4=>4 | 46=>260 | 45=>259 | 50=>204 | 5=>5 | 9=>9 | 66=>274 | 70=>278 | 76=>280 | 77=>247 | n=>n,fun | n=>n⟩
theorem vy:Go.Proofs.SlLaysF0.n6 Tryz.prog fg:={
 mixed:=by kernel_rfl
 f6:=⟨Tryz.f199.name,by decide,Tryz.func199.trans (congrArg some (by kernel_rfl))⟩
 f14:=⟨Tryz.f240.name,by decide,Tryz.func240.trans (congrArg some (by kernel_rfl))⟩
 f15:=Tryz.func241.trans (congrArg some (by kernel_rfl))
 f20:=⟨Tryz.f263.name,by decide,Tryz.func263.trans (congrArg some (by kernel_rfl))⟩
 f21:=⟨Tryz.f264.name,by decide,Tryz.func264.trans (congrArg some (by kernel_rfl))⟩
 f22:=⟨Tryz.f265.name,by decide,Tryz.func265.trans (congrArg some (by kernel_rfl))⟩
 f23:=⟨Tryz.f266.name,by decide,Tryz.func266.trans (congrArg some (by kernel_rfl))⟩
 f24:=⟨Tryz.f267.name,by decide,Tryz.func267.trans (congrArg some (by kernel_rfl))⟩
 f25:=⟨Tryz.f268.name,by decide,Tryz.func268.trans (congrArg some (by kernel_rfl))⟩
 f26:=⟨Tryz.f269.name,by decide,Tryz.func269.trans (congrArg some (by kernel_rfl))⟩
 f27:=⟨Tryz.f270.name,by decide,Tryz.func270.trans (congrArg some (by kernel_rfl))⟩
 f28:=Tryz.func271.trans (congrArg some (by kernel_rfl))
 f29:=Tryz.func272.trans (congrArg some (by kernel_rfl))
 f46:=⟨Tryz.f278.name,by decide,Tryz.func278.trans (congrArg some (by kernel_rfl))⟩
 f47:=Tryz.func279.trans (congrArg some (by kernel_rfl))
 f48:=Tryz.func280.trans (congrArg some (by kernel_rfl))
 f49:=⟨Tryz.f281.name,by decide,Tryz.func281.trans (congrArg some (by kernel_rfl))⟩
 f50:=⟨Tryz.f282.name,by decide,Tryz.func282.trans (congrArg some (by kernel_rfl))⟩
 f57:=⟨Tryz.f284.name,by decide,Tryz.func284.trans (congrArg some (by kernel_rfl))⟩
 t0:=Tryz.underlying0
 a0:=Tryz.isAgg0
 z0:=Tryz.sizeOf0
 v0:=Tryz.zeroValue0
 t3:=Tryz.underlying3
 a3:=Tryz.isAgg3
 z3:=Tryz.sizeOf3
 v3:=Tryz.zeroValue3
 t4:=Tryz.underlying4
 a4:=Tryz.isAgg4
 z4:=Tryz.sizeOf4
 v4:=Tryz.zeroValue4
 t5:=Tryz.underlying5
 a5:=Tryz.isAgg5
 z5:=Tryz.sizeOf5
 v5:=Tryz.zeroValue5
 t9:=Tryz.underlying9
 a9:=Tryz.isAgg9
 z9:=Tryz.sizeOf9
 v9:=Tryz.zeroValue9
 t22:=Tryz.underlying26
 a22:=Tryz.isAgg26
 z22:=Tryz.sizeOf26
 v22:=Tryz.zeroValue26
 t25:=Tryz.underlying131
 a25:=Tryz.isAgg131
 z25:=Tryz.sizeOf131
 v25:=Tryz.zeroValue131
 t39:=Tryz.underlying198
 a39:=Tryz.isAgg198
 z39:=Tryz.sizeOf198
 v39:=Tryz.zeroValue198
 t45:=Tryz.underlying259
 a45:=Tryz.isAgg259
 z45:=Tryz.sizeOf259
 v45:=Tryz.zeroValue259
 t46:=Tryz.underlying260
 a46:=Tryz.isAgg260
 z46:=Tryz.sizeOf260
 v46:=Tryz.zeroValue260
 t50:=Tryz.underlying204
 a50:=Tryz.isAgg204
 z50:=Tryz.sizeOf204
 v50:=Tryz.zeroValue204
 t53:=Tryz.underlying123
 a53:=Tryz.isAgg123
 z53:=Tryz.sizeOf123
 v53:=Tryz.zeroValue123
 t55:=Tryz.underlying267
 a55:=Tryz.isAgg267
 z55:=Tryz.sizeOf267
 v55:=Tryz.zeroValue267
 t66:=Tryz.underlying274
 a66:=Tryz.isAgg274
 z66:=Tryz.sizeOf274
 v66:=Tryz.zeroValue274
 t70:=Tryz.underlying278
 a70:=Tryz.isAgg278
 z70:=Tryz.sizeOf278
 v70:=Tryz.zeroValue278
 t76:=Tryz.underlying280
 a76:=Tryz.isAgg280
 z76:=Tryz.sizeOf280
 v76:=Tryz.zeroValue280
 t77:=Tryz.underlying247
 a77:=Tryz.isAgg247
 z77:=Tryz.sizeOf247
 v77:=Tryz.zeroValue247 }
end Go.Proofs.YtfhcammihohmjaaGreatDoor
end
noncomputable section
/- The types, and some of the program's functions, as plain equations. -/
namespace Go.Proofs.YtfhcammihohmjaaGreatDoor
open Pal
set_option maxRecDepth 100000
variable [MonoC]
variable (k:Nat)
@[reducible] def bc:Ty:=.arr 16 (.int .i64)
@[reducible] def ah:Ty:=.pair (.int .i64) (.int .i64)
@[reducible] def ag:Ty:=.pair .str (.int .i64)
@[reducible] def wN:Ty:=.pair .str (.int .u64)
@[reducible] def jp:Ty:=.pair (.int .u8) (.int .u8)
@[reducible] def ak:Ty:=.pair ah (.int .i64)
@[reducible] def cC:Ty:=.pair (.int .i64) (.pair (.int .i64) .str)
@[reducible] def bJ:Ty:=.pair .str ag
@[reducible] def aN:Ty:=.pair .str ah
@[reducible] def bp:Ty:=.pair bc (.slc ah)
@[reducible] def eo:Ty:=.pair bJ (.int .i64)
@[reducible] def mH:Ty:=.pair (.int .i64) (.pair (.int .i64) (.pair .bool (.int .u8)))
@[reducible] def aX:Ty:=.pair (.box bJ) (.int .i64)
@[reducible] def eJ:Ty:=.pair (.int .i64) (.pair (.slc .str) (.pair cC (.pair (.int .i64) (.slc ak))))
@[reducible] def aJ:Ty:=.pair ah (.pair (.int .i64) (.pair (.int .i64) (.pair .bool (.slc eJ))))
@[reducible] def bI:Ty:=.pair (.slc aJ) (.pair (.slc ak) (.slc ah))
@[reducible] def aI:Ty:=.pair (.slc aJ) (.pair (.slc ak) (.pair bp (.pair bp (.arr 8 (.slc ah)))))
@[reducible] def b7:Ty:=.pair (.int .i64) (.pair aJ (.pair (.int .i64) (.pair ak (.pair (.int .i64) (.pair bI aI)))))
@[reducible] def wL:Ty:=.pair (.int .i64) (.pair (.int .i64) b7)
def tt:List (Nat × TInfo):=[(2,⟨(.int .i64),0⟩),(3,⟨(.int .i64),0⟩),(4,⟨.bool,0⟩),(5,⟨(.int .u8),0⟩),(6,⟨(.int .u8),0⟩),(7,⟨mH,4⟩),(8,⟨mH,4⟩),(9,⟨.str,0⟩),(10,⟨.str,0⟩),(11,⟨.str,0⟩),(12,⟨(.int .u64),0⟩),(21,⟨(.int .i32),0⟩),(22,⟨(.slc aJ),0⟩),(23,⟨(.slc ak),0⟩),(24,⟨bc,0⟩),(25,⟨bc,0⟩),(26,⟨(.slc ah),0⟩),(27,⟨bp,2⟩),(28,⟨bp,2⟩),(29,⟨(.arr 8 (.slc ah)),0⟩),(30,⟨aI,5⟩),(31,⟨aI,5⟩),(38,⟨ah,2⟩),(39,⟨ah,2⟩),(40,⟨(.slc eJ),0⟩),(41,⟨aJ,5⟩),(42,⟨aJ,5⟩),(43,⟨ak,2⟩),(44,⟨ak,2⟩),(45,⟨bI,3⟩),(46,⟨bI,3⟩),(47,⟨b7,7⟩),(48,⟨b7,7⟩),(52,⟨(.int .i64),0⟩),(60,⟨(.slc wL),0⟩),(62,⟨bJ,3⟩),(63,⟨bJ,3⟩),(64,⟨eo,2⟩),(65,⟨eo,2⟩),(66,⟨wL,3⟩),(67,⟨wL,3⟩),(72,⟨aX,2⟩),(73,⟨aX,2⟩),(76,⟨(.slc .str),0⟩),(120,⟨aN,3⟩),(121,⟨aN,3⟩),(123,⟨(.int .u32),0⟩),(135,⟨cC,3⟩),(136,⟨cC,3⟩),(137,⟨(.slc ak),0⟩),(138,⟨eJ,5⟩),(139,⟨eJ,5⟩),(142,⟨bJ,3⟩),(143,⟨bJ,3⟩),(162,⟨ag,2⟩),(163,⟨ag,2⟩),(172,⟨(.slc (.int .u8)),0⟩),(198,⟨(.int .u64),0⟩),(220,⟨ak,2⟩),(221,⟨ak,2⟩),(225,⟨(.slc (.int .i64)),0⟩),(244,⟨(.arr 16 (.int .u32)),0⟩),(252,⟨(.slc (.slc ah)),0⟩),(255,⟨(.slc (.int .i32)),0⟩),(259,⟨(.int .i64),0⟩),(267,⟨(.int .u64),0⟩),(274,⟨(.int .u64),0⟩),(282,⟨(.arr 256 (.int .u8)),0⟩),(283,⟨jp,2⟩),(284,⟨jp,2⟩),(285,⟨(.arr 16 jp),0⟩),(291,⟨(.int .u8),0⟩),(292,⟨(.int .u8),0⟩),(294,⟨(.int .i32),0⟩),(295,⟨(.int .i32),0⟩)]
def pp:List Nat:=[15,16,17,50,61,71,111,119,159,192,233,278,280]
def mm:List (Nat × (Ty × Ty)):=[]
theorem aC:tt.all (fun x=>FO Tryz.prog x.1 x.2)=true:=by kernel_rfl
theorem aG:pp.all (FQ Tryz.prog)=true:=by kernel_rfl
theorem aD:mm.all (fun x=>Ds Tryz.prog x.1 x.2)=true:=by kernel_rfl
theorem mixed:Tryz.prog.follows .mixedOrders=true:=by kernel_rfl
def bo (f:Go.Func):Go.Code:=f.body.getD .skip
def ro (f:Go.Func):List Go.ResultVar:=f.results.toList
def rg:Nat→List RInfo→List (Nat×RInfo)
 | _,[]=>[]
 | i,a::l=>(i,a)::rg (i+1) l
def ri (a b:List Nat):RInfo:=⟨a,b,[],[],0,[],[],[],[],[],[],[]⟩
def rq (a b:List Nat) (q:Nat):RInfo:=⟨a,b,[],[],q,[],[],[],[],[],[],[]⟩
def rv (a b c:List Nat):RInfo:=⟨a,b,c,[],0,[],[],[],[],[],[],[]⟩
def rh (a b c d:List Nat):RInfo:=⟨a,b,[],[],0,c,d,[],[],[],[],[]⟩
def rx (a b c d:List Nat) (q:Nat) (e f:List Nat):RInfo:=⟨a,b,c,d,q,e,f,[],[],[],[],[]⟩
def co (r:List (Nat×RInfo)) (l:List (Nat×Entry)) (k:Nat):Cx:=⟨tt,pp,l,r,k,mm⟩
def fo (σ:Sg) (c:Cx) (f:Go.Func) (x:σ.In):Option σ.Out:=Sg.fn σ c (bo f) (ro f) x
def lo (σ:Sg) (c:Cx) (f:Go.Func) (p:List Nat) (i:Nat) (a b q:List Nat) (n:Nat) (s:St):Option σ.Out:=aU c (bo f) p i a b q (Sg.K σ c (ro f)) n s
theorem GW {i:Nat} {fn:Go.Func} {σ:Sg} {F:σ.In→Option σ.Out} (c:Cx) (hf:Tryz.prog.funcs[i]?=some fn) (h:GQ Tryz.prog c.fns) (hT:TT Tryz.prog c:=by exact TT.of aC aG aD) (hb:fn.body=some (bo fn):=by kernel_rfl) (h1:(fn.name=="runtime.NumGoroutine")=false:=by kernel_rfl) (h2:Nat.ble σ.args.length fn.ntmps=true:=by kernel_rfl) (h3:vw fn.results.toList=true:=by kernel_rfl) (h4:zN σ=true:=by kernel_rfl) (h5:dy c fn.ntmps (bo fn)=true:=by kernel_rfl) (h6:∀ x,F x=σ.fn c (bo fn) fn.results.toList x:=by exact fun x=>by kernel_rfl):CallOK Tryz.prog i (σ.entry F):=aF (c:=c) (code:=bo fn) hT (am h) mixed hf hb h1 h2 h3 h4 h5 h6
abbrev J:Ty:=.int .i64
abbrev DJ:=Ty.D J
def z2F.cx:=co (rg 0 [ri [1] [1],ri [2] []]) [] k
abbrev z2F.sg:Sg:=⟨[.dat ah],[],.dat .bool,[]⟩
def z2F.f (a0:Ty.D ah):=fo z2F.sg (z2F.cx k) Tryz.f128 a0
theorem z2F.f_eq (a0:Ty.D ah):z2F.f k a0=br (bM 0 a0.1) (br (aq a0.1 16) (br (bM 1 a0.2) (some (bM a0.2 1048576)) (some false)) (some false)) (some false):=by kernel_rfl
def z2F.e:=Sg.entry z2F.sg fun x=>z2F.f k x
theorem z2F.ok:CallOK Tryz.prog 128 (z2F.e k):=GW (z2F.cx k) Tryz.func128 trivial
def z0N.cx:=co (rg 0 [ri [0] [],ri [2] []]) [] k
abbrev z0N.sg:Sg:=⟨[.dat J],[],.dat .bool,[]⟩
def z0N.f (a0:DJ):=fo z0N.sg (z0N.cx k) Tryz.f252 a0
theorem z0N.f_eq (a0:DJ):z0N.f k a0=some (ai (az a0 a0)):=by kernel_rfl
def z0N.e:=Sg.entry z0N.sg fun x=>z0N.f k x
theorem z0N.ok:CallOK Tryz.prog 252 (z0N.e k):=GW (z0N.cx k) Tryz.func252 trivial
def z0D.cx:=co (rg 0 [ri [0,1] [],ri [0,1,5] [8],ri [0,1,5,6] [8,10],ri [0,1,6,11] [8,10],ri [12] [10],ri [4] [],ri [4] [],ri [0,1,13] [10],ri [4] [],ri [0,1,16] [],ri [4] [],ri [19] [],ri [4] [],ri [4] []]) [(252,z0N.e k)] k
abbrev z0D.sg:Sg:=⟨[.dat J,.dat J],[],.dat J,[]⟩
def z0D.f (a0 a1:DJ):=fo z0D.sg (z0D.cx k) Tryz.f225 (a0,a1)
theorem z0D.f_eq (a0 a1:DJ):z0D.f k a0 a1=bnd (z0N.f k a0) fun r0=>bnd (z0N.f k a1) fun r1=>br r0 (br r1 (some 0) (some (-1))) (br r1 (some 1) (br (aq a0 a1) (some (-1)) (br (aq a1 a0) (some 1) (some 0)))):=by kernel_rfl
def z0D.e:=Sg.entry z0D.sg fun x=>z0D.f k x.1 x.2
theorem z0D.ok:CallOK Tryz.prog 225 (z0D.e k):=GW (z0D.cx k) Tryz.func225 ⟨z0N.ok k,trivial⟩
def z1F.cx:=co (rg 0 [ri [0] [],ri [0,3] [],ri [3,6,7,8] [],rh [3,6,7,8,9] [] [3,6,7,8] [],ri [3,5,6,7,8] [],ri [3,5,6,7,8,14] [],ri [2] [],ri [3,6,7,8] [],ri [2] []]) [] k
abbrev z1F.sg:Sg:=⟨[.dat (.slc J)],[],.dat J,[]⟩
def z1F.f (a0:Ty.D (.slc (.int .i64))):=fo z1F.sg (z1F.cx k) Tryz.f224 a0
def z1F.l3 (n:Nat) (x3:DJ) (x6:Ty.D (.slc (.int .i64))) (x7 x8:DJ):=lo z1F.sg (z1F.cx k) Tryz.f224 [1,1,0,1,0] 3 [3,6,7,8] [] [] n ⟨[(3,.dat J x3),(6,.dat (.slc J) x6),(7,.dat J x7),(8,.dat J x8)],[]⟩
theorem z1F.f_eq (a0:Ty.D (.slc (.int .i64))):z1F.f k a0=z1F.l3 k k 0 a0 (af a0) 0:=by kernel_rfl
theorem z1F.l3_eq (n3:Nat) (x3:DJ) (x6:Ty.D (.slc (.int .i64))) (x7 x8:DJ):z1F.l3 k (n3+1) x3 x6 x7 x8=br (aq x8 x7) (br (bO x8 x6) (br (ai (az (rd (.int .i64) x6 (aj x8)) x3)) (some (rd (.int .i64) x6 (aj x8))) (z1F.l3 k n3 x3 x6 x7 (aH .i64 x8 1))) none) (some x3):=by kernel_rfl
def z1F.e:=Sg.entry z1F.sg fun x=>z1F.f k x
theorem z1F.ok:CallOK Tryz.prog 224 (z1F.e k):=GW (z1F.cx k) Tryz.func224 trivial
def z1d.cx:=co (rg 0 [ri [2,3] [2,3],rq [4] [16] 12]) [(225,z0D.e k),(224,z1F.e k)] k
abbrev z1d.sg:Sg:=⟨[.dat ah,.dat ah],[],.dat J,[]⟩
def z1d.f (a0 a1:Ty.D ah):=fo z1d.sg (z1d.cx k) Tryz.f178 (a0,a1)
theorem z1d.f_eq (a0 a1:Ty.D ah):z1d.f k a0 a1=bnd (z0D.f k a0.1 a1.1) fun r0=>bnd (z0D.f k a0.2 a1.2) fun r1=>bnd (z1F.f k (r0::(r1::[]))) fun r2=>some r2:=by kernel_rfl
def z1d.e:=Sg.entry z1d.sg fun x=>z1d.f k x.1 x.2
theorem z1d.ok:CallOK Tryz.prog 178 (z1d.e k):=GW (z1d.cx k) Tryz.func178 ⟨z0D.ok k,z1F.ok k,trivial⟩
def z2w.cx:=co (rg 0 [ri [1] [1],ri [2] []]) [(128,z2F.e k)] k
abbrev z2w.sg:Sg:=⟨[.dat ah],[],.dat .bool,[]⟩
def z2w.f (a0:Ty.D ah):=fo z2w.sg (z2w.cx k) Tryz.f198 a0
theorem z2w.f_eq (a0:Ty.D ah):z2w.f k a0=bnd (z2F.f k a0) fun r0=>some (ai r0):=by kernel_rfl
def z2w.e:=Sg.entry z2w.sg fun x=>z2w.f k x
theorem z2w.ok:CallOK Tryz.prog 198 (z2w.e k):=GW (z2w.cx k) Tryz.func198 ⟨z2F.ok k,trivial⟩

end Go.Proofs.YtfhcammihohmjaaGreatDoor
end
noncomputable section
/- What the library's functions do, at dots. -/
namespace Go.Proofs.YtfhcammihohmjaaGreatDoor
open Pal Go Go.Sort
abbrev bu:=Int × Int
def gS (a b:Int):Int:=if a<b then -1 else if b<a then 1 else 0
def dw (a b:bu):Int:=if gS a.1 b.1=0 then gS a.2 b.2 else gS a.1 b.1
theorem uk (k:Nat) (a b:Int):z0D.f k a b=some (gS a b):=by
 rw [z0D.f_eq,z0N.f_eq,z0N.f_eq]
 have h:∀ x:Int,ai (az x x)=false:=fun x=>by simp [ai,az]
 simp only [h,bnd,aa]
 unfold gS
 by_cases h1:a<b
 ·simp [aq,h1,ac]
 ·by_cases h2:b<a
  ·simp [aq,h1,h2,ac,aa]
  ·simp [aq,h1,h2,aa]
theorem H2 (k:Nat) (a b:Int):z1F.f (k+3) (a::b::[])=some (if a=0 then b else a):=by
 have h:z1F.f (k+3) (a::b::[])=br (ai (az a 0)) (some a) (br (ai (az b 0)) (some b) (some 0)):=by
  rw [z1F.f_eq,z1F.l3_eq,z1F.l3_eq,z1F.l3_eq];rfl
 rw [h,aW,aW,bB,bB]
 by_cases h1:a=0
 ·by_cases h2:b=0
  ·simp [h1,h2,aa]
  ·simp [h1,h2,aa,ac]
 ·simp [h1,ac]
theorem fJ (k:Nat) (a b:bu):z1d.f (k+3) a b=some (dw a b):=by
 rw [z1d.f_eq,uk,uk]
 simp only [bnd]
 rw [H2];rfl
abbrev aP:bu→bu→Bool:=Go.Proofs.ltOf dw
theorem yV (a b:Int):gS a b<0 ↔ a<b:=by unfold gS;split <;> (try split) <;> omega
theorem eB (a b:Int):gS a b=0 ↔ a=b:=by unfold gS;split <;> (try split) <;> omega
theorem fD (a b:bu):aP a b=true ↔ a.1<b.1∨(a.1=b.1∧a.2<b.2):=by
 show decide (dw a b<0)=true ↔ _
 rw [decide_eq_true_iff]
 unfold dw
 by_cases h:a.1=b.1
 ·rw [if_pos ((eB _ _).2 h),yV];omega
 ·rw [if_neg (fun e=>h ((eB _ _).1 e)),yV];omega
theorem cE:SWO aP where
 irrefl x:=by rw [← Bool.not_eq_true,fD];omega
 trans x y z h1 h2:=by rw [fD] at *;omega
 ntrans x y z h1 h2:=by rw [← Bool.not_eq_true,fD] at *;omega
theorem dM (x y:bu) (h1:aP x y=false) (h2:aP y x=false):x=y:=by
 rw [← Bool.not_eq_true,fD] at h1 h2
 apply Prod.ext <;> omega
def aK (d:bu):Bool:=decide (0≤d.1∧d.1<16∧1≤d.2∧d.2≤1048576)
theorem dN (k:Nat) (d:bu):z2F.f k d=some (aK d):=by
 rw [z2F.f_eq]
 unfold aK
 by_cases h1:0≤d.1 <;> by_cases h2:d.1<16 <;> by_cases h3:1≤d.2 <;> by_cases h4:d.2≤1048576 <;> simp [bM,aq,h1,h2,h3,h4,ac,aa]
abbrev lg:bu→Bool:=aK
theorem EU:fg.f 6=199:=by kernel_rfl
theorem Cu:fg.t 24=39:=by kernel_rfl
theorem Fj (w:World):(isAgg 39).run Tryz.prog w = .ok true w:=by kernel_rfl
theorem Dk (x y:bu):(z1d.e 10).val [.dat ah x,.dat ah y] []=some (.dat (.int .i64) (dw x y),[]):=by
 have h:z1d.f 10 x y=some (dw x y):=fJ 7 x y
 have e:(z1d.e 10).val [.dat ah x,.dat ah y] []=bnd (z1d.f 10 x y) (fun r=>some (.dat (.int .i64) r,[])):=by kernel_rfl
 rw [e,h];rfl
theorem pH:CallOK Tryz.prog 199 (qV ah 178 aP):=by
 have h:=DY (P:=Tryz.prog) (ρ:=fg) (e:=ah) (g:=178) (ce:=z1d.e 10) (cf:=dw) vy rfl rfl (fun w=>by rw [Cu];exact Fj w) (fun w=>by rw [Cu];exact FV w) cE dM (@z1d.ok (.just True) 10) (enters_of Tryz.func178 (by kernel_rfl) rfl) (by rw [EU];exact enters_of Tryz.func199 (by kernel_rfl) rfl) Dk
 rw [EU] at h
 exact h
end Go.Proofs.YtfhcammihohmjaaGreatDoor
end
noncomputable section
/- slices.DeleteFunc at dots: the vq. -/
namespace Go.Proofs.YtfhcammihohmjaaGreatDoor
open Go.Shelf Go.RowKit Go.Lib Go.Sort

def gK (x:Int × Int):List Value:=[.int .i64 x.1,.int .i64 x.2]
def qz (p:Int × Int→Bool) (l:List (Int × Int)):Int:=Lib.idxBy (fun _ y=>p y) l default

theorem vA (w:World) (C:Array Value) (t:TypeId) (j:Nat):(w.alloc (.cells C t)).cell? ⟨w.heap.size,j,none⟩=C[j]?:=by unfold World.alloc World.cell?;simp

theorem Cz {w:World} {a:Addr} {v:Value} {o:Obj} (h:w.cell? a=some v) (n:Nat) (os:Array Obj):(grow ((w.alloc o).drewN n) os).cell? a=some v :=
 cell_grown (by rw [World.size_alloc];exact Nat.lt_succ_of_lt (World.block_lt_of_cell? w a h)) (Lib.cell?_alloc_some o h) n os

theorem F7 {w:World} {a:Addr} {c:Array Value} {t:TypeId} (hb:a.block<w.heap.size) (h:w.frozen? a=false) (n:Nat) (os:Array Obj):(grow ((w.alloc (.cells c t)).drewN n) os).frozen? a=false:=by
 rw [frozen?_grow _ _ _ (by show a.block<(w.alloc _).heap.size;rw [World.size_alloc];omega)]
 show (w.alloc _).frozen? a=false
 rw [frozen?_alloc_cells];exact h

section
variable {α:Type} [Inhabited α]
theorem vS (enc : α → List Value) (k : Nat) (hk : ∀ x, (enc x).length = k) (d : Array α) (i : Nat) (u : α) (hi : i < d.size) :
    setMany (flatK enc k d) (i * k) (enc u)=flatK enc k (d.setIfInBounds i u):=by
  refine ext_get! (by simp) fun t ht=>?_
  have ht':t<d.size * k:=by simpa using ht
  have k0 : 0 < k := by rcases Nat.eq_zero_or_pos k with h | h; · subst h; simp at ht'
                        · exact h
  rw [get_setMany _ _ _ t (by simpa using ht'),get_flatK _ _ _ t ht',get_flatK _ _ _ t (by simpa using ht'),hk]
  by_cases a:t / k=i
  · rw [if_pos ((blk_iff k i t k0).2 a),a,getElem!_set_same d i u hi,Nat.mod_eq_sub_div_mul,a]
  · rw [if_neg (fun h=>a ((blk_iff k i t k0).1 h)),getElem!_set_other d i (t / k) u a]

theorem zM {enc:α→List Value} {k:Nat} {w0 W:World} {blk off:Nat} {dk:Array α} (h:SWK enc k w0 blk off dk W) (hk:∀ x,(enc x).length=k) (hblk:blk<w0.heap.size) (i:Nat) (u:α) (hi:i<dk.size) :
  SWK enc k w0 blk off (dk.setIfInBounds i u) (W.setCells blk (off+i * k) (enc u)):=by
 obtain ⟨n,os,rfl⟩:=h
 refine ⟨n,os,?_⟩
 have hb:i * k+k≤dk.size * k:=by
  have:=Nat.mul_le_mul_right k (show i+1≤dk.size from hi);rwa [Nat.add_mul,Nat.one_mul] at this
 unfold sortWorldK
 rw [← putRowK_grow enc k (Sort.ahead w0 n) os blk off dk hblk,← putRowK_grow enc k (Sort.ahead w0 n) os blk off _ hblk]
 unfold putRowK
 rw [setCells_putRow _ _ _ _ _ _ (by rw [hk,size_flatK];exact hb),vS enc k hk dk i u hi]

theorem nr (b:Nat):∀ (xs ys:List Value) (o:Nat) (w:World),w.setCells b o (xs++ys)=(w.setCells b o xs).setCells b (o+xs.length) ys
 | [],ys,o,w=>rfl
 | x::xs,ys,o,w=>by
  show (w.setCell ⟨b,o,none⟩ x).setCells b (o+1) (xs++ys)=_
  rw [nr b xs ys (o+1) _,show o+(x::xs).length=o+1+xs.length by simp;omega];rfl

theorem zz {enc:α→List Value} {k:Nat} {w0:World} {blk off:Nat} (hk:∀ x,(enc x).length=k) (hblk:blk<w0.heap.size):∀ (xs:List α) (i:Nat) (dk:Array α) (W:World),SWK enc k w0 blk off dk W→i+xs.length≤dk.size →
  SWK enc k w0 blk off (Lib.lay dk i xs) (W.setCells blk (off+i * k) (xs.flatMap enc))
 | [],_,_,_,h,_=>h
 | x::r,i,dk,W,h,hl=>by
  have hl':i+(r.length+1)≤dk.size:=by simpa using hl
  rw [List.flatMap_cons,nr,hk,Nat.add_assoc,show i * k+k=(i+1) * k by rw [Nat.add_mul,Nat.one_mul]]
  exact zz hk hblk r (i+1) _ _ (zM h hk hblk i x (by omega)) (by simp;omega)
end

theorem C7:∀ n,(List.replicate n (0,0):List (Int × Int)).flatMap gK=List.replicate (n * 2) (.int .i64 0)
 | 0=>rfl
 | n+1=>by
  rw [List.replicate_succ,List.flatMap_cons,C7 n,Nat.add_mul,Nat.one_mul]
  rfl

theorem xn {P:Program} (w:World) (t e ty:TypeId) (ht:P.underlying t=some (.slice e)) (hv:∀ w,(zeroValue e).run P w = .ok (.agg #[.int .i64 0,.int .i64 0]) w) (b o n c:Nat) (hn:0<n)
  (hc:∀ j,j<n * 2→(w.cell? ⟨b,o+j,none⟩).isSome=true) (hf:∀ j,j<n * 2→w.frozen? ⟨b,o+j,none⟩=false) :
  (Builtin.clear_ #[t] ty #[.slice (some ⟨b,o,none⟩) n c]).run P w = .ok (.tuple #[]) (w.setCells b o (List.replicate (n * 2) (.int .i64 0))):=by
 have hzc:(Builtin.zeroCells (Value.agg #[.int .i64 0,.int .i64 0]).cells n).toList=List.replicate (n * 2) (.int .i64 0):=by
  apply List.ext_getElem
  ·simp [Builtin.zeroCells,Value.cells]
  ·intro i h1 h2
   have:i % 2=0∨i % 2=1:=by omega
   rcases this with h | h <;> simp [Builtin.zeroCells,Value.cells,h]
 have hst:=run_storeCells_cells (P:=P) b o (List.replicate (n * 2) (.int .i64 0)) 0 w (by simpa using hc) (by simpa using hf) (by intro v hv';rw [List.eq_of_mem_replicate hv'];rfl)
 simp only [Nat.add_zero] at hst
 obtain ⟨m,rfl⟩:∃ m,n=m+1:=⟨n - 1,by omega⟩
 simp [Builtin.clear_,run_underlying ht,hv,hzc,hst]

def iS (w w':World):Prop:=∃ q os,w'=grow (w.drewN q) os
theorem iS.refl (w:World):iS w w:=⟨0,#[],(grow_empty _).symm⟩
theorem iS.grown {w w':World} (h:iS w w') (q:Nat) (os:Array Obj):iS w (grow (w'.drewN q) os):=by
 obtain ⟨q0,os0,rfl⟩:=h
 exact ⟨q0+q,os0++os,by rw [← grow_grow];unfold grow World.drewN;simp [Nat.add_assoc]⟩
theorem wy {w w':World} {blk off:Nat} {d:Array (Int × Int)} (hH:HoldsK gK 2 w blk off d) (hblk:blk<w.heap.size) (h:iS w w'):HoldsK gK 2 w' blk off d:=by
 obtain ⟨q,os,rfl⟩:=h
 exact holdsK_grow gK 2 _ os blk off d hblk (holdsK_ahead gK 2 w q blk off d hH)

set_option maxHeartbeats 4000000 in
set_option maxRecDepth 1000000 in
theorem CT (p:Int × Int→Bool) (blk off cap:Nat) (d:Array (Int × Int)) (w:World) (hH:HoldsK gK 2 w blk off d) (hblk:blk<w.heap.size) (hsz:d.size≤4294967296)
  (hcl:∀ (W:World) x,Calls Tryz.prog 198 #[.agg (gK x).toArray] W fun e w'=>e = .returned (.bool (p x))∧∃ q os,w'=grow (W.drewN q) os) :
  Calls Tryz.prog 216 #[.slice (some ⟨blk,off,none⟩) d.size cap,.func (.func 198) #[] #[]] w fun e w'=>e = .returned (.int .i64 (qz p d.toList))∧∃ q os,w'=grow (w.drewN q) os:=by
 have e63:∀ args w,(callFunc 198 args).run Tryz.prog w = .ok (.enter 198 args) w:=enters_of Tryz.func198 (by kernel_rfl) rfl
 have tl:∀ j,j<d.size→d.toList[j]! = d[j]!:=fun j hj=>by rw [getElem!_pos d j hj,getElem!_pos d.toList j (by simpa using hj)];simp
 have HH:Aside (HoldsK gK 2 w blk off d):=hH
 have HC:Aside _:=hcl
 have HT:Aside _:=tl
 have htk:Aside (d.toList.take d.size=d.toList):=List.take_of_length_le (by simp)
 clear hH hcl tl
 go_enter Tryz.func216,Tryz.ntmps216
 go_wp2
 go_loopg [5,8] d.size (fun gg _ s8 wr=>∃ kk:Nat,kk≤d.size∧d.size - kk≤gg∧s8 = .int .i64 kk∧Aside (iS w wr)∧Aside (∀ j,j<kk→p d.toList[j]! = false))
 case atStart=>exact ⟨0,Nat.zero_le _,by omega,rfl,iS.refl w,fun j hj=>absurd hj (Nat.not_lt_zero _)⟩
 case round =>
  obtain ⟨kk,hkk,hg,rfl,W2,A⟩:=hrel
  by_cases hlt:kk<d.size
  ·have hltz:(kk:Int)<(d.size:Int):=by omega
   have hHold:=wy HH.out hblk W2.out
   have cj0:=(hHold (kk * 2) (by rw [size_flatK];omega)).1
   have cj1:=(hHold (kk * 2+1) (by rw [size_flatK];omega)).1
   rw [get_flatK _ _ _ _ (by omega)] at cj0 cj1
   rw [show kk * 2 / 2=kk by omega,show kk * 2 % 2=0 by omega] at cj0
   rw [show (kk * 2+1) / 2=kk by omega,show (kk * 2+1) % 2=1 by omega,← Nat.add_assoc] at cj1
   obtain ⟨u,hu⟩:∃ u,d[kk]! = u:=⟨_,rfl⟩
   rw [hu] at cj0 cj1
   have C:Aside (d.toList[kk]! = u):=(HT.out kk hlt).trans hu
   clear hu hHold
   obtain ⟨u1,u2⟩:=u
   have cj0:wr.cell? ⟨blk,off+kk * 2,none⟩=some (.int .i64 u1):=cj0
   have cj1:wr.cell? ⟨blk,off+kk * 2+1,none⟩=some (.int .i64 u2):=cj1
   have hcall:∀ W,Calls Tryz.prog 198 #[.agg #[.int .i64 u1,.int .i64 u2]] W fun e w'=>e = .returned (.bool (p (u1,u2)))∧∃ q os,w'=grow (W.drewN q) os:=fun W=>HC.out W (u1,u2)
   cases hq:p (u1,u2) with
   | true =>
    rw [hq] at hcall
    go_wp2_with (go_at_call 198;refine (hcall _).mono ?_;rintro e w' ⟨rfl,qq,oss,rfl⟩)
    go_ret
    refine ⟨?_,W2.out.grown qq oss⟩
    have:=Lib.idxBy_hit (fun _ y=>p y) d.toList d.size kk default hlt (by simp) (by show p d.toList[kk]! = true;rw [C.out];exact hq) A.out
    rw [htk.out] at this
    unfold qz;rw [this];rfl
   | false =>
    rw [hq] at hcall
    go_wp2_with (go_at_call 198;refine (hcall _).mono ?_;rintro e w' ⟨rfl,qq,oss,rfl⟩)
    go_roundg (d.size - (kk+1))
    case measure=>omega
    case rel =>
     refine ⟨kk+1,by omega,by omega,by go_num,(show Aside _ from W2.out.grown qq oss),(show Aside _ from fun j hj=>?_)⟩
     by_cases e:j=kk
     ·subst e
      rw [C.out];exact hq
     ·exact A.out j (by omega)
  ·have hltz:¬ (kk:Int)<(d.size:Int):=by omega
   have:kk=d.size:=by omega
   subst this
   go_wp2
   go_ret
   refine ⟨?_,W2.out⟩
   have:=Lib.idxBy_miss (fun _ y=>p y) d.toList d.size default A.out
   rw [htk.out] at this
   unfold qz;rw [this];rfl

set_option maxHeartbeats 4000000 in
set_option maxRecDepth 1000000 in
theorem CG (a:Option Addr) (c:Nat) (fv:Value) (w:World) :
  Calls Tryz.prog 216 #[.slice a 0 c,fv] w fun e w'=>e = .returned (.int .i64 (-1))∧w'=w:=by
 go_enter Tryz.func216,Tryz.ntmps216
 go_wp2
 go_loopg [5,8] 0 (fun _ _ s8 wr=>s8 = .int .i64 0∧wr=w)
 case atStart=>exact ⟨rfl,rfl⟩
 case round =>
  obtain ⟨rfl,rfl⟩:=hrel
  go_wp2
  go_ret
  exact ⟨rfl,rfl⟩

set_option maxHeartbeats 4000000 in
set_option maxRecDepth 1000000 in
theorem Bb (a:Option Addr) (c:Nat) (w:World) :
  Calls Tryz.prog 197 #[.slice a 0 c,.func (.func 198) #[] #[]] w fun e w'=>e = .returned (.slice a 0 c)∧w'=w:=by
 have e109:∀ args w,(callFunc 216 args).run Tryz.prog w = .ok (.enter 216 args) w:=enters_of Tryz.func216 (by kernel_rfl) rfl
 go_enter Tryz.func197,Tryz.ntmps197
 go_wp2_with (go_at_call 216;refine (CG a c _ _).mono ?_;rintro e w' ⟨rfl,rfl⟩)
 go_ret
 exact ⟨rfl,rfl⟩

set_option maxHeartbeats 4000000 in
set_option maxRecDepth 1000000 in
theorem BB (p:Int × Int→Bool) (blk off cap:Nat) (d:Array (Int × Int)) (w:World) (hH:HoldsK gK 2 w blk off d) (hblk:blk<w.heap.size) (hsz:d.size≤4294967296) (hcap:d.size≤cap)
  (hcl:∀ (W:World) x,Calls Tryz.prog 198 #[.agg (gK x).toArray] W fun e w'=>e = .returned (.bool (p x))∧∃ q os,w'=grow (W.drewN q) os)
  (hIF:Calls Tryz.prog 216 #[.slice (some ⟨blk,off,none⟩) d.size cap,.func (.func 198) #[] #[]] w fun e w'=>e = .returned (.int .i64 (qz p d.toList))∧∃ q os,w'=grow (w.drewN q) os) :
  Calls Tryz.prog 197 #[.slice (some ⟨blk,off,none⟩) d.size cap,.func (.func 198) #[] #[]] w fun e w' =>
   e = .returned (.slice (some ⟨blk,off,none⟩) (d.toList.filter fun x=>!p x).length cap)∧SWK gK 2 w blk off ((d.toList.filter fun x=>!p x)++List.replicate (d.size - (d.toList.filter fun x=>!p x).length) (0,0)).toArray w':=by
 have e109:∀ args w,(callFunc 216 args).run Tryz.prog w = .ok (.enter 216 args) w:=enters_of Tryz.func216 (by kernel_rfl) rfl
 have e63:∀ args w,(callFunc 198 args).run Tryz.prog w = .ok (.enter 198 args) w:=enters_of Tryz.func198 (by kernel_rfl) rfl
 have hk:∀ x,(gK x).length=2:=fun _=>rfl
 have h1:∀ x,∀ v ∈ gK x,v.oneCell'=true:=fun x v hv=>by simp [gK] at hv;rcases hv with rfl | rfl <;> rfl
 have R:RowK gK 2 w blk off d:=⟨hk,h1,hH,hblk⟩
 have hst:SWK gK 2 w blk off d w:=⟨0,#[],by unfold sortWorldK;rw [grow_empty];exact (putRowK_self gK 2 w blk off d hH).symm⟩
 have tl:∀ j,j<d.size→d.toList[j]! = d[j]!:=fun j hj=>by rw [getElem!_pos d j hj,getElem!_pos d.toList j (by simpa using hj)];simp
 obtain ⟨kp,HK⟩:∃ kp:Nat→Bool,Hid (kp=fun j=>!p d[j]!):=⟨_,rfl⟩
 have hfil:(d.toList.filter fun x=>!p x)=keptUpTo kp d d.size:=by rw [HK.out];exact (keptUpTo_filter (fun x=>!p x) d).symm
 rw [hfil]
 rcases idxByFrom_spec (fun _ y=>p y) (default:Int × Int) d.toList 0 with ⟨e1,hall⟩ | ⟨k0,hk0,e1,ht,hall⟩
 ·have e2:qz p d.toList=-1:=e1
  rw [e2] at hIF
  have hkeep:∀ j,j<d.size→kp j=true:=fun j hj=>by rw [HK.out];show (!p d[j]!)=true;rw [← tl j hj,hall j (by simpa using hj)];rfl
  have e3:keptUpTo kp d d.size=d.toList:=by rw [keptUpTo_all kp d _ hkeep,range_map_get]
  have HS:Aside (SWK gK 2 w blk off d w):=hst
  clear hH hst hcl R
  go_enter Tryz.func197,Tryz.ntmps197
  go_wp2_with (go_at_call 216;refine hIF.mono ?_;rintro e w' ⟨rfl,q0,os0,rfl⟩)
  go_ret
  rw [e3]
  refine ⟨by simp,?_⟩
  simp only [Array.length_toList,Nat.sub_self,List.replicate_zero,List.append_nil,Array.toArray_toList]
  exact HS.out.grown q0 os0
 ·have hk0':k0<d.size:=by simpa using hk0
  have e2:qz p d.toList=(k0:Int):=by unfold qz Lib.idxBy;rw [e1];simp
  rw [e2] at hIF
  have hkeep:∀ j,j<k0→kp j=true:=fun j hj=>by rw [HK.out];show (!p d[j]!)=true;rw [← tl j (by omega),hall j hj];rfl
  have hdrop:kp k0=false:=by rw [HK.out];show (!p d[k0]!)=false;rw [← tl k0 hk0'];rw [show p d.toList[k0]! = true from ht];rfl
  have hne1:((k0:Int) == -1)=false:=beq_eq_false_iff_ne.2 (by omega)
  have HC:Aside _:=hcl
  have HS:Aside (SWK gK 2 w blk off d w):=hst
  have HR:Aside (RowK gK 2 w blk off d):=R
  clear hH hst hcl R hall ht e1 e2 tl hk h1
  go_enter Tryz.func197,Tryz.ntmps197
  go_wp2_with (go_at_call 216;refine hIF.mono ?_;rintro e w' ⟨rfl,q0,os0,rfl⟩)
  go_loopg [5,6,7] d.size (fun gg s5 s6 _ wr=>∃ (i j:Nat) (dk:Array (Int × Int)),s5 = .int .i64 i∧s6 = .int .i64 j∧j≤d.size∧d.size - j≤gg∧Aside (SWK gK 2 w blk off dk wr)∧Aside (KeptInv kp d j i dk))
  case atStart=>exact ⟨k0,k0+1,d,rfl,by go_num,by omega,by omega,HS.out.grown q0 os0,KeptInv.start hkeep hdrop⟩
  case round =>
   obtain ⟨i,j,dk,rfl,rfl,hjd,hgg,W2,I2⟩:=hrel
   have hij:=I2.out.lt
   have hds:=I2.out.size
   by_cases hlt:j<d.size
   ·have hltz:(j:Int)<(d.size:Int):=by omega
    have hHold:HoldsK gK 2 wr blk off dk:=W2.out.holds hblk HR.out.hH hds
    have cel:∀ x,x<dk.size→(wr.cell? ⟨blk,off+x * 2,none⟩=some (.int .i64 dk[x]!.1)∧wr.cell? ⟨blk,off+x * 2+1,none⟩=some (.int .i64 dk[x]!.2))∧wr.frozen? ⟨blk,off+x * 2,none⟩=false∧wr.frozen? ⟨blk,off+x * 2+1,none⟩=false:=by
     intro x hx
     have g0:=hHold (x * 2) (by simp;omega)
     have g1:=hHold (x * 2+1) (by simp;omega)
     rw [get_flatK _ _ _ _ (by omega)] at g0 g1
     have d0:x * 2 / 2=x:=by omega
     have d1:(x * 2+1) / 2=x:=by omega
     have m0:x * 2 % 2=0:=by omega
     have m1:(x * 2+1) % 2=1:=by omega
     rw [d0,m0] at g0;rw [d1,m1] at g1
     rw [← Nat.add_assoc] at g1
     exact ⟨⟨g0.1,g1.1⟩,g0.2,g1.2⟩
    obtain ⟨⟨cj0,cj1⟩,_,_⟩:=cel j (by omega)
    obtain ⟨⟨ci0,ci1⟩,fi0,fi1⟩:=cel i (by omega)
    rw [I2.out.high j (by omega)] at cj0 cj1
    obtain ⟨u,hu⟩:∃ u,d[j]! = u:=⟨_,rfl⟩
    rw [hu] at cj0 cj1
    have C:Aside (d[j]! = u):=hu
    clear hu hHold cel
    obtain ⟨u1,u2⟩:=u
    simp only at cj0 cj1
    generalize dk[i]!.1=o1 at ci0
    generalize dk[i]!.2=o2 at ci1
    have hblk':blk<wr.heap.size:=World.block_lt_of_cell? wr _ cj0
    have hcall:∀ W,Calls Tryz.prog 198 #[.agg #[.int .i64 u1,.int .i64 u2]] W fun e w'=>e = .returned (.bool (p (u1,u2)))∧∃ q os,w'=grow (W.drewN q) os:=fun W=>HC.out W (u1,u2)
    have hne:¬ (blk=wr.heap.size):=by omega
    have hnew0:∀ n os,(grow ((wr.alloc (.cells #[.int .i64 u1,.int .i64 u2] 39)).drewN n) os).cell? ⟨wr.heap.size,0,none⟩=some (.int .i64 u1):=fun n os=>cell_grown (by simp) (by rw [vA];rfl) n os
    have hnew1:∀ n os,(grow ((wr.alloc (.cells #[.int .i64 u1,.int .i64 u2] 39)).drewN n) os).cell? ⟨wr.heap.size,1,none⟩=some (.int .i64 u2):=fun n os=>cell_grown (by simp) (by rw [vA];rfl) n os
    have gi0:∀ n os,(grow ((wr.alloc (.cells #[.int .i64 u1,.int .i64 u2] 39)).drewN n) os).cell? ⟨blk,off+i * 2,none⟩=some (.int .i64 o1):=fun n os=>Cz ci0 n os
    have gf0:∀ n os,(grow ((wr.alloc (.cells #[.int .i64 u1,.int .i64 u2] 39)).drewN n) os).frozen? ⟨blk,off+i * 2,none⟩=false:=fun n os=>F7 hblk' fi0 n os
    have gi1:∀ n os v,((grow ((wr.alloc (.cells #[.int .i64 u1,.int .i64 u2] 39)).drewN n) os).setCell ⟨blk,off+i * 2,none⟩ v).cell? ⟨blk,off+i * 2+1,none⟩=some (.int .i64 o2):=fun n os v=>by rw [World.cell?_setCell_other _ _ _ _ (by intro h;injection h;omega)];exact Cz ci1 n os
    have gf1:∀ n os v,((grow ((wr.alloc (.cells #[.int .i64 u1,.int .i64 u2] 39)).drewN n) os).setCell ⟨blk,off+i * 2,none⟩ v).frozen? ⟨blk,off+i * 2+1,none⟩=false:=fun n os v=>by rw [World.frozen?_setCell];exact F7 hblk' fi1 n os
    cases hq:p (u1,u2) with
    | false =>
     rw [hq] at hcall
     go_wp2_with (go_at_call 198;refine (hcall _).mono ?_;rintro e w' ⟨rfl,qq,oss,rfl⟩)
     go_roundg (d.size - (j+1))
     case measure=>omega
     case rel =>
      refine ⟨i+1,j+1,dk.setIfInBounds i (u1,u2),by go_num,by go_num,by omega,Nat.le_refl _,(show Aside _ from ?_),(show Aside _ from ?_)⟩
      ·exact zM ((W2.out.alloc _).grown qq oss) HR.out.hk HR.out.hblk i (u1,u2) (by omega)
      ·have:=I2.out.keep hlt (by rw [HK.out];show (!p d[j]!)=true;rw [C.out,hq];rfl)
       rwa [C.out] at this
    | true =>
     rw [hq] at hcall
     go_wp2_with (go_at_call 198;refine (hcall _).mono ?_;rintro e w' ⟨rfl,qq,oss,rfl⟩)
     go_roundg (d.size - (j+1))
     case measure=>omega
     case rel=>exact ⟨i,j+1,dk,rfl,by go_num,by omega,Nat.le_refl _,(W2.out.alloc _).grown qq oss,I2.out.skip (by rw [HK.out];show (!p d[j]!)=false;rw [C.out,hq];rfl)⟩
   ·obtain rfl:j=d.size:=by omega
    have hltz:¬ (d.size:Int)<(d.size:Int):=by omega
    have hHold:HoldsK gK 2 wr blk off dk:=W2.out.holds hblk HR.out.hH hds
    have hcel:∀ t,t<(d.size - i) * 2→wr.cell? ⟨blk,off+i * 2+t,none⟩=some (flatK gK 2 dk)[i * 2+t]!∧wr.frozen? ⟨blk,off+i * 2+t,none⟩=false:=fun t ht=>by
     rw [Nat.add_assoc];exact hHold (i * 2+t) (by rw [size_flatK];omega)
    have hcl:∀ ty,(Builtin.clear_ #[26] ty #[.slice (some ⟨blk,off+i * 2,none⟩) (d.size - i) (cap - i)]).run Tryz.prog wr = .ok (.tuple #[]) (wr.setCells blk (off+i * 2) ((List.replicate (d.size - i) (0,0)).flatMap gK)):=by
     intro ty
     rw [C7]
     exact xn wr 26 39 ty (by rfl) (fun w=>by rfl) blk (off+i * 2) (d.size - i) (cap - i) (by omega) (fun t ht=>by rw [(hcel t ht).1];rfl) (fun t ht=>(hcel t ht).2)
    clear hHold hcel
    go_wp2
    go_ret
    have hI:=I2.out
    refine ⟨by rw [hI.len];rfl,?_⟩
    rw [hI.len,← hI.done (0,0)]
    exact zz HR.out.hk HR.out.hblk _ i dk wr W2.out (by simp;omega)
end Go.Proofs.YtfhcammihohmjaaGreatDoor
end
noncomputable section
/- slices.DeleteFunc at dots: its contract. -/
namespace Go.Proofs.YtfhcammihohmjaaGreatDoor.Pal
open Go Go.Sort
theorem Dq {G:Gh} {w w':World} {e:Ty} {gb len cap:Nat} {xs ys:List e.D} {X:Nat→Nat→Prop} (hp:eM e=true) (hraw:Cf G.I w gb e xs (cap * e.cells)) (hcap:len≤cap∧cap≤9223372036854775807) (hI:∀ o,G.I gb o=none) (hO:∀ o,G.O gb o=none) (hW:Wf G w) (hX:∀ o,X gb o)
  {dk:Array e.D} (hs:dk.size=len) (hpre:∀ (j:Nat) (x:e.D),ys[j]? = some x→dk[j]? = some x) (h:SWK (eD e) e.cells w gb 0 xs.toArray w∧SWK (eD e) e.cells w gb 0 dk w') :
  Ev X G w G w'∧Wf G w'∧iV G w' e ys [.slice (some ⟨gb,0,none⟩) ys.length cap] [gb]:=by
 obtain ⟨_,n,os,rfl⟩:=h
 obtain ⟨cells,ty,cc,hgc,hcs,hA2,hcc⟩:=hraw
 obtain ⟨k1,k2,k3⟩:=vG (F:=flatK (eD e) e.cells dk) hgc n os
 have hyl:ys.length≤len:=by
  rcases Nat.lt_or_ge len ys.length with h | h
  ·have:=hpre len _ (List.getElem?_eq_getElem h)
   have:=(Array.getElem?_eq_some_iff.1 this).1
   omega
  ·exact h
 have hE:Evo X w (sortWorldK (eD e) e.cells w gb 0 n dk os):=by
  refine ⟨rfl,rfl,rfl,k3,fun b hb=>?_,fun _=>Nat.le_add_right _ _⟩
  by_cases hb':b=gb
  ·subst hb'
   exact .inr (.inl ⟨cells,_,ty,(0,0),hgc,k1,by simp [putCells],fun j hj=>absurd (hX j) hj⟩)
  ·exact .inl (k2 b hb hb')
 refine ⟨⟨hE,Im.le_refl _,fun _ _ _ h=>.inl h,fun _ _ _=>rfl⟩,⟨fun b o v hv=>?_,hW.io,fun b o k h=>Nat.lt_of_lt_of_le (hW.lt b o k h) hE.size,hW.whole⟩,?_⟩
 ·have hb':b ≠ gb:=fun e=>by subst e;rw [hI o] at hv;cases hv
  have hh:=hW.holds b o v hv
  have hlt':=World.block_lt_of_cell? w _ hh
  have:(sortWorldK (eD e) e.cells w gb 0 n dk os).cell? ⟨b,o,none⟩=w.cell? ⟨b,o,none⟩:=World.cell?_of_block (w:=w) (k2 b hlt' hb')
  rw [this];exact hh
 ·refine ⟨_,ys.length,cap,rfl,rfl,by omega,.inr ⟨gb,rfl,rfl,⟨_,ty,_,k1,by simp [putCells,hcs],(i9 hp _ _).2 rfl,fun j v hj=>?_⟩,hI,hO⟩⟩
  have hjl:j<ys.length * e.cells:=by
   have:=(List.getElem?_eq_some_iff.1 hj).1
   rwa [om hp] at this
  obtain ⟨x,q1,q2⟩:=iL hp _ j hjl
  rw [q2] at hj
  have hjd:j<dk.size * e.cells:=by rw [hs];exact Nat.lt_of_lt_of_le hjl (Nat.mul_le_mul_right _ hyl)
  have hjc:j<cells.size:=by
   rw [hcs]
   exact Nat.lt_of_lt_of_le hjd (Nat.mul_le_mul_right _ (by omega))
  have hx:dk[j / e.cells]! = x:=by
   have:=hpre _ _ q1
   rw [Array.getElem!_eq_getD,Array.getD_eq_getD_getElem?,this];rfl
  have hm:=(List.getElem?_eq_some_iff.1 hj)
  simp only [putCells,Array.getElem?_mapIdx,Array.getElem?_eq_getElem hjc,Option.map_some,size_flatK,Nat.zero_add,Nat.sub_zero]
  rw [if_pos ⟨Nat.zero_le _,hjd⟩,get_flatK _ _ _ _ hjd,hx,getElem!_pos (eD e x) (j % e.cells) hm.1]
  exact congrArg some hm.2

abbrev nA:Ty:=.pair (.int .i64) (.int .i64)
theorem Ft {ce : Entry} {keep : Int × Int → Bool} (hg : @CallOK (.just True) Tryz.prog 198 ce) (hcf : ∀ x : nA.D, ce.val [.dat nA x] [] = some (.dat .bool (!keep x), [])) : CallOK Tryz.prog 197 (AM nA 198 keep) := by
  have e61:∀ args w,(callFunc 197 args).run Tryz.prog w = .ok (.enter 197 args) w:=enters_of Tryz.func197 (by kernel_rfl) rfl
  have e63:∀ args w,(callFunc 198 args).run Tryz.prog w = .ok (.enter 198 args) w:=enters_of Tryz.func198 (by kernel_rfl) rfl
  have val : ∀ args objs v os, (AM nA 198 keep).val args objs = some (v, os) → ∃ xs : List nA.D, args = [.raw nA xs, .fn 198 []] ∧ objs = [] ∧ xs.length ≤ 4294967296 ∧ v = .raw nA (iI keep xs) ∧ os = [] := by
    intro args objs v os h
    unfold Entry.val AM at h
    simp only at h
    split at h
    · rename_i e' xs g'
      split at h
      · rename_i he;subst he
        obtain ⟨hb,h⟩:=ap h
        obtain ⟨hr,h⟩:=cw h
        injection h with h;injection h with h1 h2
        have:=aS.1 hb
        subst this
        exact ⟨xs,rfl,rfl,by have:=hr;simp only [bm,List.length_nil,Nat.zero_add,decide_eq_true_eq] at this;exact this,h1.symm,h2.symm⟩
      · cases h
    · cases h
  refine ⟨fun α args objs K=>?_,fun args objs vr os hval X G w argv tA tM hW hTab hX hA hM hcnt htok=>?_⟩
  · unfold Entry.val AM
    simp only
    split
    · split
      · rw [bD];congr 1
        rw [bX];rfl
      · rfl
    · rfl
  · obtain ⟨xs,rfl,rfl,hlen,rfl,rfl⟩:=val _ _ _ _ hval
    obtain ⟨x0,r0,t1,t2,rfl,rfl,⟨cs,⟨ad,len,cap,e1,e2,e3,e4⟩,hx⟩,x1,r1,t3,t4,rfl,rfl,⟨cs1,⟨cv,f1,f2,f3⟩,hx1⟩,rfl,rfl⟩:=hA
    simp only [V.agg,Bool.false_eq_true,if_false] at hx hx1
    rw [e1] at hx;rw [f1] at hx1
    simp only [List.cons.injEq,and_true] at hx hx1
    subst hx;subst hx1;subst f3
    have hcv:cv=#[]:=by apply Array.ext';simpa [dB] using f2
    subst hcv
    obtain ⟨hM1,hM2⟩:tM=[]∧True:=⟨hM,trivial⟩
    have post : ∀ w' len', Ev X G w G w' → Wf G w' → iV G w' nA (iI keep xs) [.slice ad len' cap] t1 →
        ∃ G',uo X G w 0 (.raw nA (iI keep xs)) [] (.slice ad len' cap) (some (.slice ad len cap)) G' w':=by
      intro w' len' hE hc hr
      refine ⟨G,hE,hc,fun _ _=>rfl,t1,[],[],⟨_,hr,rfl⟩,rfl,rfl,fun q=>?_,fun q hq=>?_⟩
      · have:=hcnt q;simp at this ⊢;omega
      · exact .inr (htok q (by simp at hq ⊢;omega))
    refine .inl ⟨e61 _ _,?_⟩
    rcases Nat.eq_zero_or_pos len with h0 | h0
    · have hxs:xs=[]:=List.eq_nil_of_length_eq_zero (by omega)
      subst hxs;subst h0
      refine Calls.mono (Bb ad cap w) fun e' w' hh=>?_
      obtain ⟨rfl,rfl⟩:=hh
      exact post w' 0 (Ev.refl _ _ _) hW ⟨ad,0,cap,rfl,rfl,e3,e4⟩
    · rcases e4 with ⟨hc0,_⟩ | ⟨gb,rfl,rfl,hraw,hI,hO'⟩
      · omega
      · obtain ⟨hH,hlt⟩:=rK (e:=nA) rfl hraw
        have hsz:xs.toArray.size=len:=by simpa using e2
        have hcl : ∀ (W : World) (x : Int × Int), Calls Tryz.prog 198 #[.agg (gK x).toArray] W fun e w' => e = .returned (.bool (!keep x)) ∧ ∃ q os, w' = grow (W.drewN q) os := by
          intro W x
          refine Calls.mono (pT (w:=W) (argv:=[.agg (eD nA x).toArray]) hg e63 (hcf x) (fun G=>⟨_,_,[],[],rfl,rfl,tj nA rfl rfl _ _ x,rfl,rfl⟩)) fun e' w' hh=>?_
          obtain ⟨⟨G',y,t,h1,h2⟩,h3⟩:=hh
          exact ⟨by rw [h1,h2.dat_bool],h3⟩
        have hIF:=CT (fun x=>!keep x) gb 0 cap xs.toArray w hH hlt (by rw [hsz];omega) hcl
        have hcon:=BB (fun x=>!keep x) gb 0 cap xs.toArray w hH hlt (by rw [hsz];omega) (by rw [hsz];exact e3.1) hcl hIF
        rw [hsz] at hcon
        have hk:(xs.toArray.toList.filter fun x=>!(!keep x))=iI keep xs:=by simp [iI]
        rw [hk] at hcon
        refine Calls.mono hcon fun e' w' hh=>?_
        obtain ⟨rfl,hsw⟩:=hh
        have hkl:(iI keep xs).length≤len:=by rw [← e2];exact List.length_filter_le _ _
        have hone:bi gb [gb]=1:=by simp [bi]
        have hX1:∀ o,X gb o:=htok gb (by simp only [bN];omega)
        obtain ⟨q1, q2, q3⟩ := Dq (X := X) (e := nA) (ys := iI keep xs) rfl hraw e3 hI hO' hW hX1 (by simp; omega) (fun j x hj => by
          rw [List.getElem?_toArray,List.getElem?_append_left (List.getElem?_eq_some_iff.1 hj).1];exact hj) ⟨SWK.start hH,hsw⟩
        exact post w' _ q1 q2 q3
end Go.Proofs.YtfhcammihohmjaaGreatDoor.Pal
end
noncomputable section
/- What slices.DeleteFunc does, at dots. -/
namespace Go.Proofs.YtfhcammihohmjaaGreatDoor
open Pal Go Go.Sort
theorem AP:CallOK Tryz.prog 197 (AM ah 198 lg):=by
 refine Ft (ce:=z2w.e 10) (@z2w.ok (.just True) 10) ?_
 intro x
 show bnd (z2w.f 10 x) _=_
 rw [z2w.f_eq,dN];rfl
end Go.Proofs.YtfhcammihohmjaaGreatDoor
end
noncomputable section
/- Where strings.Builder's WriteByte and String and what they call lie in this program. -/
namespace Go.Proofs.YtfhcammihohmjaaGreatDoor
open Go.Proofs
open Go.Shelf
def tI:Go.Shelf.Ren:=⟨fun | 167=>169 | 169=>170 | 240=>219 | 276=>251 | _=>0,fun | 0=>0 | 3=>3 | 4=>4 | 5=>5 | 9=>9 | 20=>20 | 37=>172 | 70=>192 | 72=>194 | 75=>196 | 80=>69 | 127=>233 | 164=>250 | _=>0,fun _=>0⟩
theorem FG:Go.Proofs.Lays.n167 Tryz.prog tI:={
 mixed:=by kernel_rfl
 f167:=Tryz.func169.trans (congrArg some (by kernel_rfl))
 f240:=Tryz.func219.trans (congrArg some (by kernel_rfl))
 f276:=Tryz.func251.trans (congrArg some (by kernel_rfl))
 t0:=Tryz.underlying0
 a0:=Tryz.isAgg0
 z0:=Tryz.sizeOf0
 v0:=Tryz.zeroValue0
 t4:=Tryz.underlying4
 a4:=Tryz.isAgg4
 z4:=Tryz.sizeOf4
 v4:=Tryz.zeroValue4
 t5:=Tryz.underlying5
 a5:=Tryz.isAgg5
 z5:=Tryz.sizeOf5
 v5:=Tryz.zeroValue5
 t9:=Tryz.underlying9
 a9:=Tryz.isAgg9
 z9:=Tryz.sizeOf9
 v9:=Tryz.zeroValue9
 t20:=Tryz.underlying20
 a20:=Tryz.isAgg20
 z20:=Tryz.sizeOf20
 v20:=Tryz.zeroValue20
 t37:=Tryz.underlying172
 a37:=Tryz.isAgg172
 z37:=Tryz.sizeOf172
 v37:=Tryz.zeroValue172
 t70:=Tryz.underlying192
 a70:=Tryz.isAgg192
 z70:=Tryz.sizeOf192
 v70:=Tryz.zeroValue192
 t72:=Tryz.underlying194
 a72:=Tryz.isAgg194
 z72:=Tryz.sizeOf194
 v72:=Tryz.zeroValue194
 t75:=Tryz.underlying196
 a75:=Tryz.isAgg196
 z75:=Tryz.sizeOf196
 v75:=Tryz.zeroValue196
 t164:=Tryz.underlying250
 a164:=Tryz.isAgg250
 z164:=Tryz.sizeOf250
 v164:=Tryz.zeroValue250 }
theorem Fz:Go.Proofs.Lays.n169 Tryz.prog tI:={
 mixed:=by kernel_rfl
 f169:=Tryz.func170.trans (congrArg some (by kernel_rfl))
 t0:=Tryz.underlying0
 a0:=Tryz.isAgg0
 z0:=Tryz.sizeOf0
 v0:=Tryz.zeroValue0
 t3:=Tryz.underlying3
 a3:=Tryz.isAgg3
 z3:=Tryz.sizeOf3
 v3:=Tryz.zeroValue3
 t9:=Tryz.underlying9
 a9:=Tryz.isAgg9
 z9:=Tryz.sizeOf9
 v9:=Tryz.zeroValue9
 t37:=Tryz.underlying172
 a37:=Tryz.isAgg172
 z37:=Tryz.sizeOf172
 v37:=Tryz.zeroValue172
 t70:=Tryz.underlying192
 a70:=Tryz.isAgg192
 z70:=Tryz.sizeOf192
 v70:=Tryz.zeroValue192
 t72:=Tryz.underlying194
 a72:=Tryz.isAgg194
 z72:=Tryz.sizeOf194
 v72:=Tryz.zeroValue194
 t127:=Tryz.underlying233
 a127:=Tryz.isAgg233
 z127:=Tryz.sizeOf233
 v127:=Tryz.zeroValue233 }
theorem Gd:Go.Proofs.Builder.Extra Tryz.prog tI:={
 sizeBuilder:=by kernel_rfl
 liesBuilder:=by kernel_rfl
 t5:=Tryz.underlying5
 a5:=Tryz.isAgg5
 z5:=Tryz.sizeOf5
 v5:=Tryz.zeroValue5
 infoByte:=by kernel_rfl
 cellsByte:=by kernel_rfl
 sizeByte:=by kernel_rfl
 neB5:=by decide }
end Go.Proofs.YtfhcammihohmjaaGreatDoor
end
noncomputable section
/- A number's bytes. -/
namespace Go.Proofs.YtfhcammihohmjaaGreatDoor
def al (n:Nat):List UInt8:=if _h:n<128 then [UInt8.ofNat n] else UInt8.ofNat (n % 128+128)::al (n / 128)
termination_by n
decreasing_by omega
def bK (n:Int):Option (List UInt8):=@ite _ (n<72057594037927936) (Classical.propDecidable _) (some (al n.toNat)) none
theorem cr {n:Int} (h:n<72057594037927936):bK n=some (al n.toNat):=if_pos h
theorem jc {n:Nat} (h:n<128):al n=[UInt8.ofNat n]:=by rw [al,dif_pos h]
theorem kK {n:Nat} (h:¬ n<128):al n=UInt8.ofNat (n % 128+128)::al (n / 128):=by rw [al,dif_neg h]
theorem gy (n:Nat):0<(al n).length:=by
 by_cases h:n<128
 ·rw [jc h];simp
 ·rw [kK h];simp
theorem fE:∀ (j n:Nat),n<2 ^ (7 * (j+1))→(al n).length≤j+1
 | 0,n,h=>by
  have h:n<128:=h
  rw [jc h];simp
 | j+1,n,h=>by
  by_cases h1:n<128
  ·rw [jc h1];simp
  ·have e2:2 ^ (7 * (j+1+1))=2 ^ (7 * (j+1)) * 128:=by rw [show 7 * (j+1+1)=7 * (j+1)+7 by omega,Nat.pow_add]
   rw [kK h1,List.length_cons]
   have:=fE j (n / 128) (by rw [e2] at h;omega)
   omega
end Go.Proofs.YtfhcammihohmjaaGreatDoor
end
noncomputable section
/- A function by hand: of a cW, that tells a text, and turns nothing that was there. -/
namespace Go.Proofs.YtfhcammihohmjaaGreatDoor.Pal
open Go
variable {P:Program}
theorem sn [MonoC] (hoff:¬ MonoC.on) {f:Nat} {k:IntKind} {F:Int→Option (List UInt8)} (he:∀ args w,(callFunc f args).run P w = .ok (.enter f args) w)
  (h:∀ (n:Int) (r:List UInt8),F n=some r→∀ w:World,Calls P f #[.int k n] w fun e w'=>e = .returned (.string ⟨r.toArray⟩)∧RowKit.Below w.heap.size w w') :
  CallOK P f (Sg.entry ⟨[.dat (.int k)],[],.dat .str,[]⟩ F):=by
 refine ⟨fun α args objs K=>nQ α args objs K,fun args objs vr os hval X G w argv tA tM hW hTab hX hA hM hcnt htok=>?_⟩
 obtain ⟨ds,x,r,h1,h2,h3,rfl,rfl⟩:=nR hval
 obtain ⟨hl1,hl2⟩:=eK _ _ _ _ h1
 obtain ⟨hs1,hs2⟩:=(mP _ _ _ h2).split hl1
 obtain ⟨tA',_,hA2⟩:=jF _ _ _ _ _ _ _ h1 hs1 hA
 have hobj:objs=[]:=List.eq_nil_of_length_eq_zero hs2.lengths.1
 subst hobj
 obtain ⟨x0,xs0,t1,t2,rfl,ht12,hT0,rfl,rfl⟩:=hA2
 have hx0:x0 = .int k x:=by
  obtain ⟨cs,⟨c1,c2⟩,c3⟩:=hT0
  have c1':cs=[.int k x]:=c1
  have c3':cs=[x0]:=c3
  rw [c1'] at c3'
  injection c3' with c3';exact c3'.symm
 subst hx0
 refine .inl ⟨he _ _,Calls.mono (h x r h3 w) fun e w' hh=>?_⟩
 obtain ⟨rfl,hb⟩:=hh
 have hE:Ev X G w G w':=⟨⟨hb.os,hb.tape,hb.output,hb.size,fun b hb'=>.inl (hb.block b hb'),fun h=>absurd h hoff⟩,Im.le_refl _,fun _ _ _ h=>.inl h,fun _ _ _=>rfl⟩
 have hcell:∀ b o,b<w.heap.size→w'.cell? ⟨b,o,none⟩=w.cell? ⟨b,o,none⟩:=fun b o hlt=>World.cell?_of_block (w:=w) (hb.block b hlt)
 refine ⟨G,hE,⟨fun b o v hv=>?_,hW.io,fun b o k hk=>Nat.lt_of_lt_of_le (hW.lt b o k hk) hb.size,hW.whole⟩,fun _ _=>rfl,[],[],[],?_,rfl,rfl,fun g=>by simp,fun g hg=>by simp at hg⟩
 ·have hh:=hW.holds b o v hv
  rw [hcell b o (World.block_lt_of_cell? w _ hh)];exact hh
 ·exact ⟨[.string ⟨r.toArray⟩],⟨rfl,rfl⟩,rfl⟩
theorem AA [MonoC] (hoff:¬ MonoC.on) {f T:Nat} {k:IntKind} {TW:World→Prop} {F:List UInt8→Option (List Int × Bool)} (he:∀ args w,(callFunc f args).run P w = .ok (.enter f args) w)
  (ht:∀ (G:Gh) (w:World),Wf G w→MonoC.tab G.I→TW w)
  (h:∀ (s:List UInt8) (r:List Int × Bool),F s=some r→∀ w:World,TW w→Calls P f #[.string ⟨s.toArray⟩] w fun e w'=>∃ v,e = .returned (.tuple #[v,.bool r.2])∧w'.ownsRow w.heap.size T 1 v r.1.length (r.1.map (Value.int k))∧RowKit.Below w.heap.size w w') :
  CallOK P f (Sg.entry ⟨[.dat .str],[],.t2 (.dat (.slc (.int k))) (.dat .bool),[]⟩ F):=by
 refine ⟨fun α args objs K=>nQ α args objs K,fun args objs vr os hval X G w argv tA tM hW hTab hX hA hM hcnt htok=>?_⟩
 obtain ⟨ds,x,r,h1,h2,h3,rfl,rfl⟩:=nR hval
 obtain ⟨hl1,hl2⟩:=eK _ _ _ _ h1
 obtain ⟨hs1,hs2⟩:=(mP _ _ _ h2).split hl1
 obtain ⟨tA',_,hA2⟩:=jF _ _ _ _ _ _ _ h1 hs1 hA
 have hobj:objs=[]:=List.eq_nil_of_length_eq_zero hs2.lengths.1
 subst hobj
 obtain ⟨x0,xs0,t1,t2,rfl,ht12,hT0,rfl,rfl⟩:=hA2
 have hx0:x0 = .string ⟨(show List UInt8 from x).toArray⟩:=by
  obtain ⟨cs,⟨c1,c2⟩,c3⟩:=hT0
  have c1':cs=[.string ⟨(show List UInt8 from x).toArray⟩]:=c1
  have c3':cs=[x0]:=c3
  rw [c1'] at c3'
  injection c3' with c3';exact c3'.symm
 subst hx0
 refine .inl ⟨he _ _,Calls.mono (h x r h3 w (ht G w hW hTab)) fun e w' hh=>?_⟩
 obtain ⟨v,rfl,hown,hb⟩:=hh
 have hevo:Evo X w w':=⟨hb.os,hb.tape,hb.output,hb.size,fun b hb'=>.inl (hb.block b hb'),fun h=>absurd h hoff⟩
 have hcell:∀ b o,b<w.heap.size→w'.cell? ⟨b,o,none⟩=w.cell? ⟨b,o,none⟩:=fun b o hlt=>World.cell?_of_block (w:=w) (hb.block b hlt)
 have hlow:∀ b o u,G.I b o=some u→b<w.heap.size:=fun b o u hu=>World.block_lt_of_cell? w _ (hW.holds b o u hu)
 have hold:∀ b o u,G.I b o=some u→w'.cell? ⟨b,o,none⟩=some u:=fun b o u hu=>by rw [hcell b o (hlow b o u hu)];exact hW.holds b o u hu
 rcases hown.2 with ⟨rfl,h0⟩ | ⟨g,cap,cur,rfl,hg,hgc,hn,hcm,hcs,htk⟩
 ·have e0:(show List Int from r.1)=[]:=List.eq_nil_of_length_eq_zero h0
  refine ⟨G,⟨hevo,Im.le_refl _,fun _ _ _ h=>.inl h,fun _ _ _=>rfl⟩,⟨hold,hW.io,fun b o k hk=>Nat.lt_of_lt_of_le (hW.lt b o k hk) hb.size,hW.whole⟩,fun _ _=>rfl,[],[],[],?_,rfl,rfl,fun g=>by simp,fun g hg=>by simp at hg⟩
  exact ⟨[.tuple #[.slice none 0 0,.bool r.2]],⟨.slice none 0 0,.bool r.2,[.slice none 0 0],[.bool r.2],[],[],rfl,rfl,⟨⟨none,0,0,rfl,h0,Nat.le_refl _,.inl e0⟩,rfl⟩,⟨rfl,rfl⟩,⟨rfl,rfl⟩,⟨rfl,rfl⟩⟩,rfl⟩
 ·have hcg:∀ o u,((show List Int from r.1).map (Value.int k))[o]? = some u→w'.cell? ⟨g,o,none⟩=some u:=fun o u hu=>by
   have:=hown.cells (g:=g) rfl o u hu
   rw [Addr.add_lit,Nat.zero_add] at this;exact this
  let G':Gh:={ G with I:=fun b o=>if b=g then ((show List Int from r.1).map (Value.int k))[o]? else G.I b o }
  have hne:∀ b o u,G.I b o=some u→b ≠ g:=fun b o u hu e=>by have:=hlow b o u hu;omega
  have hle:Im.le G.I G'.I:=fun b o u hu=>by
   show (if b=g then _ else G.I b o)=some u
   rw [if_neg (hne b o u hu)];exact hu
  refine ⟨G',⟨hevo,hle,fun b o u hu=>?_,fun _ _ _=>rfl⟩,⟨fun b o u hu=>?_,fun b o u hu=>?_,fun b o k hk=>Nat.lt_of_lt_of_le (hW.lt b o k hk) hb.size,hW.whole⟩,fun _ _=>rfl,[],[],[],?_,rfl,rfl,fun g=>by simp,fun g hg=>by simp at hg⟩
  ·by_cases hbg:b=g
   ·exact .inr (.inl (by omega))
   ·have hu:(if b=g then _ else G.I b o)=some u:=hu
    rw [if_neg hbg] at hu;exact .inl hu
  ·have hu:(if b=g then ((show List Int from r.1).map (Value.int k))[o]? else G.I b o)=some u:=hu
   by_cases hbg:b=g
   ·rw [if_pos hbg] at hu;rw [hbg];exact hcg o u hu
   ·rw [if_neg hbg] at hu;exact hold b o u hu
  ·have hu:(if b=g then ((show List Int from r.1).map (Value.int k))[o]? else G.I b o)=some u:=hu
   show G.O b o=none
   by_cases hbg:b=g
   ·cases hO:G.O b o with
    | none=>rfl
    | some q=>have:=hW.lt b o q hO;omega
   ·rw [if_neg hbg] at hu;exact hW.io b o u hu
  ·refine ⟨[.tuple #[.slice (some ⟨g,0,none⟩) (show List Int from r.1).length cap,.bool r.2]],⟨.slice (some ⟨g,0,none⟩) (show List Int from r.1).length cap,.bool r.2,[.slice (some ⟨g,0,none⟩) (show List Int from r.1).length cap],[.bool r.2],[],[],rfl,rfl,⟨⟨some ⟨g,0,none⟩,_,cap,rfl,rfl,hn,.inr ⟨g,0,rfl,?_⟩⟩,rfl⟩,⟨rfl,rfl⟩,⟨rfl,rfl⟩,⟨rfl,rfl⟩⟩,rfl⟩
   intro i x hx
   refine ⟨[.int k x],rfl,?_⟩
   intro j u hj
   have hj0:j=0∧u = .int k x:=by
    match j,hj with
    | 0,hj=>exact ⟨rfl,by simpa using hj.symm⟩
    | j+1,hj=>simp at hj
   obtain ⟨rfl,rfl⟩:=hj0
   show (if g=g then ((show List Int from r.1).map (Value.int k))[0+i * 1+0]? else _)=_
   rw [if_pos rfl,List.getElem?_map,Nat.zero_add,Nat.mul_one,Nat.add_zero]
   have hx':(show List Int from r.1)[i]? = some x:=hx
   rw [hx'];rfl
end Go.Proofs.YtfhcammihohmjaaGreatDoor.Pal
end
noncomputable section
/- pack.Int: what it does on the machine. -/
namespace Go.Proofs.YtfhcammihohmjaaGreatDoor
open Go Go.RowKit
theorem EW (B b:Nat) (bs:List Value) (c:Int) (w:World) (h:Lib.IsBuilder 194 5 B b bs w) (hlen:bs.length+1≤140737488355328) (hBw:B≤w.heap.size) :
  Calls Tryz.prog 169 #[.pointer (some ⟨b,0,none⟩),.int .u8 c] w fun e w'=>e = .returned .nilIface∧(Lib.BuilderAt 194 5 B b (.pointer (some ⟨b,0,none⟩)) (bs++[.int .u8 c]) w'∧Below B w w') :=
 Any.Builder_WriteByte FG Gd B b bs c w h hlen hBw
theorem D6 (B b:Nat) (l:List UInt8) (w:World) (h:Lib.IsBuilder 194 5 B b (Lib.byteCells l) w) (h0:l ≠ []) :
  Calls Tryz.prog 170 #[.pointer (some ⟨b,0,none⟩)] w fun e w'=>e = .returned (.string ⟨l.toArray⟩)∧Below B w w' :=
 Any.Builder_String Fz Gd B b l w h h0
theorem FE {c:Nat} (h:c<9000000000000000000):bits .and .i64 (c:Int) 127=((c % 128:Nat):Int):=by
 show IntKind.wrap .i64 (((BitVec.ofInt 64 (c:Int) &&& BitVec.ofInt 64 127).toNat:Nat):Int)=_
 have e:(BitVec.ofInt 64 (c:Int) &&& BitVec.ofInt 64 127).toNat=c % 128:=by
  have e1:BitVec.ofInt 64 (c:Int)=BitVec.ofNat 64 c:=by simp
  have e2:BitVec.ofInt 64 127=BitVec.ofNat 64 127:=by decide
  rw [e1,e2,BitVec.toNat_and,BitVec.toNat_ofNat,BitVec.toNat_ofNat,Nat.mod_eq_of_lt (show c<2 ^ 64 by omega),show 127 % 2 ^ 64=2 ^ 7 - 1 by decide,Nat.and_two_pow_sub_one_eq_mod]
 rw [e]
 rw [IntKind.wrap_i64];omega
theorem Gw {a:Nat} (ha:a<128):bits .or .i64 (a:Int) 128=((a+128:Nat):Int):=by
 show IntKind.wrap .i64 (((BitVec.ofInt 64 (a:Int) ||| BitVec.ofInt 64 128).toNat:Nat):Int)=_
 have e:(BitVec.ofInt 64 (a:Int) ||| BitVec.ofInt 64 128).toNat=a+128:=by
  have e1:BitVec.ofInt 64 (a:Int)=BitVec.ofNat 64 a:=by simp
  have e2:BitVec.ofInt 64 128=BitVec.ofNat 64 (2 ^ 7 * 1):=by decide
  rw [e1,e2,BitVec.toNat_or,BitVec.toNat_ofNat,BitVec.toNat_ofNat,Nat.mod_eq_of_lt (show a<2 ^ 64 by omega),show 2 ^ 7 * 1 % 2 ^ 64=2 ^ 7 * 1 by decide,Nat.or_comm,← Nat.two_pow_add_eq_or_of_lt (show a<2 ^ 7 from ha)];omega
 rw [e]
 rw [IntKind.wrap_i64];omega
theorem qp (acc:List UInt8) (c:Nat) (h:c<256):Lib.byteCells acc++[.int .u8 (c:Int)]=Lib.byteCells (acc++[UInt8.ofNat c]):=by
 rw [Lib.byteCells_append]
 have:(UInt8.ofNat c).toNat=c:=by rw [UInt8.toNat_ofNat'];omega
 simp [Lib.byteCells,this]
set_option maxHeartbeats 4000000 in
set_option maxRecDepth 1000000 in
theorem tL (n:Int) (hn:n<72057594037927936) (w:World) :
  Calls Tryz.prog 104 #[.int .i64 n] w fun e w'=>e = .returned (.string ⟨(al n.toNat).toArray⟩)∧Below w.heap.size w w':=by
 go_enter Tryz.func104,Tryz.ntmps104
 go_wp2
 go_loopw [0] (fun v wr=>∃ (m:Int) (acc:List UInt8),v = .int .i64 m∧m<72057594037927936∧Lib.IsBuilder 194 5 w.heap.size w.heap.size (Lib.byteCells acc) wr∧Below w.heap.size w wr∧acc++al m.toNat=al n.toNat∧(acc=[]∨0≤m)) (fun v _=>(Lib.intOf v).toNat)
 case atStart =>
  exact ⟨n,[],rfl,hn,Lib.fresh_isBuilder 194 5 w,(Below.refl _ w).alloc (Nat.le_refl _) _,rfl,.inl rfl⟩
 case round =>
  obtain ⟨m,acc,rfl,hm,hI,hbw,hacc,hor⟩:=hrel
  have hlen:(Lib.byteCells acc).length+1≤140737488355328:=by
   have h1:=fE 7 n.toNat (by show n.toNat<72057594037927936;omega)
   have h2:=congrArg List.length hacc
   rw [List.length_append] at h2
   rw [Lib.byteCells_length];omega
  by_cases h128:128≤m
  ·go_wp2_with (go_at_call 169;refine (EW w.heap.size w.heap.size _ _ _ hI hlen hbw.size).mono ?_)
   rintro e W1 ⟨rfl,h1,b1⟩
   go_wp2
   go_roundw
   case rel =>
    obtain ⟨c,rfl⟩:∃ c:Nat,m=(c:Int):=⟨m.toNat,by omega⟩
    have hc:¬ c<128:=by omega
    have e1:bits .or .i64 (bits .and .i64 (c:Int) 127) 128 % 256=((c % 128+128:Nat):Int):=by
     rw [FE (by omega),Gw (by omega)];omega
    rw [e1,qp _ _ (by omega)] at h1
    refine ⟨((c / 128:Nat):Int),acc++[UInt8.ofNat (c % 128+128)],by congr 1,by omega,.inr h1,hbw.trans b1,?_,.inr (by omega)⟩
    rw [← hacc,Int.toNat_natCast,Int.toNat_natCast,kK hc,List.append_assoc];rfl
   case measure =>
    show (m / 128).toNat<m.toNat
    omega
  ·go_wp2_with (go_at_call 169;refine (EW w.heap.size w.heap.size _ _ _ hI hlen hbw.size).mono ?_)
   rintro e W1 rfl h1 b1
   have h2:Lib.IsBuilder 194 5 w.heap.size w.heap.size (Lib.byteCells (al n.toNat)) W1:=by
    have e0:max m 0=((m.toNat:Nat):Int):=by omega
    rw [e0,qp _ _ (by omega)] at h1
    rw [← hacc,jc (by omega)]
    exact .inr h1
   go_wp2_with (go_at_call 170;refine (D6 w.heap.size w.heap.size _ _ h2 ?_).mono ?_)
   ·intro h0;have:=gy n.toNat;rw [h0] at this;exact absurd this (by decide)
   ·rintro e W2 ⟨rfl,b2⟩
    go_wp2
    go_ret
    exact ⟨rfl,(hbw.trans b1).trans b2⟩
open Pal in
def ek:Entry:=Sg.entry ⟨[.dat (.int .i64)],[],.dat .str,[]⟩ bK
open Pal in
theorem di:CallOK Tryz.prog 104 ek :=
 sn kl (enters_of Tryz.func104 (by kernel_rfl) rfl) fun n r h w=>by
  unfold bK at h
  by_cases hn:n<72057594037927936
  ·rw [if_pos hn] at h;injection h with h;subst h;exact tL n hn w
  ·rw [if_neg hn] at h;cases h
end Go.Proofs.YtfhcammihohmjaaGreatDoor
end
noncomputable section
/- The document's ref02.Int: what it does on the machine; it calls itself. -/
namespace Go.Proofs.YtfhcammihohmjaaGreatDoor
open Go Go.RowKit
end Go.Proofs.YtfhcammihohmjaaGreatDoor
end
noncomputable section
/- The sum's steps, bit by bit and four at once: plain numbers. -/
namespace Go.Proofs.YtfhcammihohmjaaGreatDoor.Crc
def P:Nat:=0xEDB88320
def step (c:Nat):Nat:=if c % 2=1 then (c / 2) ^^^ P else c / 2
def step4 (c:Nat):Nat:=step (step (step (step c)))
theorem B8 (a b:Nat):(a ^^^ b) / 2=(a / 2) ^^^ (b / 2):=by
 have:=@Nat.shiftRight_xor_distrib 1 a b
 simpa [Nat.shiftRight_eq_div_pow] using this
theorem Bv (a b:Nat):(a ^^^ b) % 2=(a+b) % 2:=by
 have:=@Nat.xor_mod_two_pow a b 1
 simp only [Nat.pow_one] at this
 rw [this]
 rcases Nat.mod_two_eq_zero_or_one a with h | h <;> rcases Nat.mod_two_eq_zero_or_one b with h' | h' <;> rw [h,h',Nat.add_mod,h,h'] <;> rfl
theorem mu (a b:Nat):step (a ^^^ b)=step a ^^^ step b:=by
 unfold step
 rw [Bv,B8,Nat.add_mod]
 rcases Nat.mod_two_eq_zero_or_one a with h | h <;> rcases Nat.mod_two_eq_zero_or_one b with h' | h' <;> rw [h,h']
 ·simp
 ·simp [Nat.xor_assoc]
 ·simp [Nat.xor_assoc,Nat.xor_comm P (b / 2)]
 ·simp only [Nat.reduceAdd,Nat.reduceMod,if_true]
  rw [if_neg (by decide),Nat.xor_assoc,← Nat.xor_assoc P,Nat.xor_comm P (b / 2),Nat.xor_assoc (b / 2),Nat.xor_self,Nat.xor_zero]
theorem DL (c:Nat):c=(16 * (c / 16)) ^^^ (c % 16):=by
 apply Nat.eq_of_testBit_eq
 intro i
 rw [Nat.testBit_xor]
 have e:(16:Nat)=2 ^ 4:=rfl
 rw [e,Nat.testBit_two_pow_mul,Nat.testBit_mod_two_pow,Nat.testBit_div_two_pow]
 by_cases h:i<4
 ·have:¬ i≥4:=by omega
  simp [h,this]
 ·have h2:i≥4:=by omega
  have:i - 4+4=i:=by omega
  simp [h,h2,this]
theorem lj (h:Nat):step (2 * h)=h:=by
 unfold step
 rw [if_neg (by omega)];omega
theorem step4_is (c:Nat):step4 c=(c / 16) ^^^ step4 (c % 16):=by
 have key:∀ a b,step4 (a ^^^ b)=step4 a ^^^ step4 b:=fun a b=>by unfold step4;rw [mu,mu,mu,mu]
 have e:step4 (16 * (c / 16))=c / 16:=by
  unfold step4
  rw [show 16 * (c / 16)=2 * (2 * (2 * (2 * (c / 16)))) by omega,lj,lj,lj,lj]
 conv=>lhs;rw [DL c]
 rw [key,e]
theorem step_lt {c:Nat} (h:c<4294967296):step c<4294967296:=by
 unfold step
 split
 ·exact Nat.xor_lt_two_pow (n:=32) (by omega) (by decide)
 ·omega
end Go.Proofs.YtfhcammihohmjaaGreatDoor.Crc
end
noncomputable section
/- The sum of a text: plain numbers; another byte, another sum. -/
namespace Go.Proofs.YtfhcammihohmjaaGreatDoor.Crc
def byteStep (c b:Nat):Nat:=step4 (step4 (c ^^^ b))
def crc (c:Nat) (s:List UInt8):Nat:=s.foldl (fun c b=>byteStep c b.toNat) c
def wT:Nat:=4294967295
def more (a:Nat) (s:List UInt8):Nat:=crc (a ^^^ wT) s ^^^ wT
def sumN (s:List UInt8):Nat:=more 0 s
theorem step4_lt {c:Nat} (h:c<4294967296):step4 c<4294967296:=step_lt (step_lt (step_lt (step_lt h)))
theorem xor_lt {a b:Nat} (ha:a<4294967296) (hb:b<4294967296):a ^^^ b<4294967296:=Nat.xor_lt_two_pow (n:=32) ha hb
theorem byteStep_lt {c b:Nat} (hc:c<4294967296) (hb:b<256):byteStep c b<4294967296:=step4_lt (step4_lt (xor_lt hc (by omega)))
theorem ub (b:UInt8):b.toNat<256:=b.toNat_lt
theorem BY:∀ (s:List UInt8) (c:Nat),c<4294967296→crc c s<4294967296
 | [],c,h=>h
 | b::s,c,h=>BY s _ (byteStep_lt h (ub b))
theorem sum_lt (s:List UInt8):sumN s<4294967296:=xor_lt (BY s _ (by decide)) (by decide)
def sumB (n:Nat):List UInt8:=[UInt8.ofNat n,UInt8.ofNat (n / 256),UInt8.ofNat (n / 65536),UInt8.ofNat (n / 16777216)]
end Go.Proofs.YtfhcammihohmjaaGreatDoor.Crc
end
noncomputable section
/- The sums' bytes, and a changed text: what they do on the machine. (Draft: the walks are open.) -/
namespace Go.Proofs.YtfhcammihohmjaaGreatDoor
open Go Go.RowKit
def sumBI (n:Int):Option (List UInt8):=@ite _ (0≤n∧n<4294967296) (Classical.propDecidable _) (some (Crc.sumB n.toNat)) none
theorem pY {n:Nat} (h:n<4294967296):sumBI (n:Int)=some (Crc.sumB n):=(if_pos ⟨by omega,by omega⟩).trans (by rw [Int.toNat_natCast])
open Pal in
def yE:Entry:=Sg.entry ⟨[.dat (.int .u32)],[],.dat .str,[]⟩ sumBI
theorem Ef (w:World) (n:Nat) (hn:n<4294967296) :
  (convert 172 9 (.slice (some ⟨w.heap.size,0,none⟩) 4 4)).run Tryz.prog (w.alloc (.cells #[.int .u8 ((n:Int) % 256),.int .u8 ((n:Int) / 256 % 256),.int .u8 ((n:Int) / 65536 % 256),.int .u8 ((n:Int) / 16777216)] 5)) = .ok (.string ⟨(Crc.sumB n).toArray⟩) (w.alloc (.cells #[.int .u8 ((n:Int) % 256),.int .u8 ((n:Int) / 256 % 256),.int .u8 ((n:Int) / 65536 % 256),.int .u8 ((n:Int) / 16777216)] 5)):=by
 have h0:((UInt8.ofNat n).toNat:Int)=(n:Int) % 256:=by rw [UInt8.toNat_ofNat'];omega
 have h1:((UInt8.ofNat (n / 256)).toNat:Int)=(n:Int) / 256 % 256:=by rw [UInt8.toNat_ofNat'];omega
 have h2:((UInt8.ofNat (n / 65536)).toNat:Int)=(n:Int) / 65536 % 256:=by rw [UInt8.toNat_ofNat'];omega
 have h3:((UInt8.ofNat (n / 16777216)).toNat:Int)=(n:Int) / 16777216:=by rw [UInt8.toNat_ofNat'];omega
 refine run_convert_bytes_back (P:=Tryz.prog) _ 172 9 5 ⟨w.heap.size,0,none⟩ 4 (Crc.sumB n) Tryz.underlying172 Tryz.underlying5 Tryz.underlying9 (fun j hj=>?_)
 have hj4:j<4:=hj
 match j,hj4 with
 | 0,_=>show _=some (Value.int .u8 ((UInt8.ofNat n).toNat:Int));rw [h0];simp [go_sem]
 | 1,_=>show _=some (Value.int .u8 ((UInt8.ofNat (n / 256)).toNat:Int));rw [h1];simp [go_sem]
 | 2,_=>show _=some (Value.int .u8 ((UInt8.ofNat (n / 65536)).toNat:Int));rw [h2];simp [go_sem]
 | 3,_=>show _=some (Value.int .u8 ((UInt8.ofNat (n / 16777216)).toNat:Int));rw [h3];simp [go_sem]
set_option maxHeartbeats 4000000 in
set_option maxRecDepth 1000000 in
theorem rB (n:Nat) (hn:n<4294967296) (w:World) :
  Calls Tryz.prog 135 #[.int .u32 (n:Int)] w fun e w'=>e = .returned (.string ⟨(Crc.sumB n).toArray⟩)∧Below w.heap.size w w':=by
 go_enter Tryz.func135,Tryz.ntmps135
 go_wp2
 rw [Ef w n hn]
 go_wp2
 go_ret
 exact ⟨rfl,(Below.refl _ w).alloc (Nat.le_refl _) _⟩
open Pal in
theorem o8:CallOK Tryz.prog 135 yE :=
 sn kl (enters_of Tryz.func135 (by kernel_rfl) rfl) fun n r h w=>by
  unfold sumBI at h
  by_cases hn:0≤n∧n<4294967296
  ·rw [if_pos hn] at h;injection h with h;subst h
   obtain ⟨m,rfl⟩:∃ m:Nat,n=(m:Int):=⟨n.toNat,by omega⟩
   rw [Int.toNat_natCast]
   exact rB m (by omega) w
  ·rw [if_neg hn] at h;cases h
end Go.Proofs.YtfhcammihohmjaaGreatDoor
end
noncomputable section
/- name.Runes, name.Right: what they do on the machine, at every text that holds no replacement rune and no wrong byte. -/
namespace Go.Proofs.YtfhcammihohmjaaGreatDoor
open Go Go.RowKit
def uW (c:Int):Bool:=!(decide (c<32) || (decide (127≤c) && decide (c<160))) && !decide (c=65533)
theorem qU (s:ByteArray) (pos:Nat) (h:pos<s.size):1≤(Utf8.decode s pos).2:=by
 by_cases ha:(s[pos]'h).toNat<128
 ·rw [decode_ascii s pos h ha]
  exact Nat.le_refl _
 ·exact (decode_high s pos h (by omega)).2
theorem vP {w:World} {base:Nat} {e:TypeId} {size:Nat} {v:Value} {n:Nat} {xs:List Value} (h:w.ownsRow base e size v n xs) {k:Nat} (hk:k<base) (s:ByteArray) (p:Nat):(w.iterAt k s p).ownsRow base e size v n xs:=by
 obtain ⟨h1,h2⟩:=h
 refine ⟨h1,?_⟩
 rcases h2 with h2 | ⟨g,cap,cur,a,b,c,d⟩
 ·exact .inl h2
 ·exact .inr ⟨g,cap,cur,a,b,by rw [Lib.iterAt_other _ _ _ _ _ (by omega)];exact c,d⟩
theorem ko {w:World} {k:Nat} {s:ByteArray} {p:Nat} (h:w.heap[k]? = some (.stringIter s p)):w.iterPos k=p:=by simp [World.iterPos,h]
theorem sL (w:World) (a:Value) (t:TypeId):∀ j u,[a][j]? = some u→(w.alloc (.cells #[a] t)).cell? ((⟨w.heap.size,0,none⟩:Addr).add j)=some u:=by
 intro j u hj
 match j,hj with
 | 0,hj=>simp at hj;subst hj;simp [Addr.add]
 | j+1,hj=>simp at hj
def nZ (l:List Int):List Value:=l.map (Value.int .i32)
theorem Gm:(Tryz.prog.info? 21).map (fun i=>(i.zero,i.size,i.bytes))=some (some (.int .i32 0),1,4):=by kernel_rfl
theorem Bw:Tryz.prog.underlying 255=some (.slice 21):=by kernel_rfl
end Go.Proofs.YtfhcammihohmjaaGreatDoor
end
noncomputable section
/- Where unicode/utf8's DecodeRuneInString and what it calls lie in this program; its two tables. -/
namespace Go.Proofs.YtfhcammihohmjaaGreatDoor
open Go Go.Proofs
open Go.Shelf
def BS:Go.Shelf.Ren:=⟨fun | 197=>277 | 260=>283 | _=>0,fun | 0=>0 | 3=>3 | 4=>4 | 5=>5 | 9=>9 | 21=>21 | 46=>198 | 105=>272 | 119=>282 | 138=>284 | 139=>285 | _=>0,fun | 3=>0 | 4=>1 | _=>0⟩
set_option maxRecDepth 100000 in
theorem B5:Go.Proofs.Lays.n197 Tryz.prog BS:={
 mixed:=by kernel_rfl
 f197:=Tryz.func277.trans (congrArg some (by kernel_rfl))
 f260:=Tryz.func283.trans (congrArg some (by kernel_rfl))
 t0:=Tryz.underlying0
 a0:=Tryz.isAgg0
 z0:=Tryz.sizeOf0
 v0:=Tryz.zeroValue0
 t3:=Tryz.underlying3
 a3:=Tryz.isAgg3
 z3:=Tryz.sizeOf3
 v3:=Tryz.zeroValue3
 t4:=Tryz.underlying4
 a4:=Tryz.isAgg4
 z4:=Tryz.sizeOf4
 v4:=Tryz.zeroValue4
 t5:=Tryz.underlying5
 a5:=Tryz.isAgg5
 z5:=Tryz.sizeOf5
 v5:=Tryz.zeroValue5
 t9:=Tryz.underlying9
 a9:=Tryz.isAgg9
 z9:=Tryz.sizeOf9
 v9:=Tryz.zeroValue9
 t21:=Tryz.underlying21
 a21:=Tryz.isAgg21
 z21:=Tryz.sizeOf21
 v21:=Tryz.zeroValue21
 t46:=Tryz.underlying198
 a46:=Tryz.isAgg198
 z46:=Tryz.sizeOf198
 v46:=Tryz.zeroValue198
 t105:=Tryz.underlying272
 a105:=Tryz.isAgg272
 z105:=Tryz.sizeOf272
 v105:=Tryz.zeroValue272
 t119:=Tryz.underlying282
 a119:=Tryz.isAgg282
 z119:=Tryz.sizeOf282
 t138:=Tryz.underlying284
 a138:=Tryz.isAgg284
 z138:=Tryz.sizeOf284
 v138:=Tryz.zeroValue284
 t139:=Tryz.underlying285
 a139:=Tryz.isAgg285
 z139:=Tryz.sizeOf285
 v139:=Tryz.zeroValue285
 g3:=by kernel_rfl
 g4:=by kernel_rfl }
theorem Dh:U8Extra Tryz.prog BS:=⟨by kernel_rfl,by kernel_rfl,by kernel_rfl,by kernel_rfl,by kernel_rfl,by kernel_rfl,by kernel_rfl⟩
theorem FN (s:ByteArray) (w:World) (hT:Lib.Utf8Tabs 0 1 w) :
  Calls Tryz.prog 277 #[.string s] w fun e w'=>e = .returned (.tuple #[.int .i32 (Lib.decodeGo s).1,.int .i64 (Lib.decodeGo s).2])∧RowKit.Below w.heap.size w w' :=
 Any.utf8_DecodeRuneInString B5 s w hT
end Go.Proofs.YtfhcammihohmjaaGreatDoor
end
noncomputable section
/- name.Runes, name.Right: what they do on the machine, at every text, where unicode/utf8's two tables are as the program lays them. -/
namespace Go.Proofs.YtfhcammihohmjaaGreatDoor
open Go Go.RowKit
def lD (s:ByteArray) (pos:Nat):Bool:=decide ((Utf8.decode s pos).1=65533) && decide ((Utf8.decode s pos).2≤1)
def dG (s:ByteArray):Nat→Nat→Option (List Int)
 | 0,_=>some []
 | fuel+1,pos=>if pos<s.size then (if lD s pos=true then none else (dG s fuel (pos+(Utf8.decode s pos).2)).map fun l=>((Utf8.decode s pos).1:Int)::l) else some []
theorem xt (s:ByteArray) (fuel pos:Nat) (h:¬ pos<s.size):dG s fuel pos=some []:=by
 cases fuel with
 | zero=>rfl
 | succ f=>simp [dG,h]
theorem xR {s:ByteArray} {fuel pos:Nat} {R:Option (List Int)} {acc:List Int} (h:pos<s.size) (hb:lD s pos=true) (e:(dG s (fuel+1) pos).map (acc ++ ·)=R):R=none:=by
 rw [dG,if_pos h,if_pos hb] at e;exact e.symm
theorem oj {s:ByteArray} {fuel pos:Nat} {R:Option (List Int)} {acc:List Int} (h:pos<s.size) (hb:lD s pos=false) (e:(dG s (fuel+1) pos).map (acc ++ ·)=R) :
  (dG s fuel (pos+(Utf8.decode s pos).2)).map ((acc++[((Utf8.decode s pos).1:Int)]) ++ ·)=R:=by
 rw [dG,if_pos h,if_neg (by rw [hb];decide)] at e
 rw [← e]
 cases hr:dG s fuel (pos+(Utf8.decode s pos).2) with
 | none=>rfl
 | some l=>simp
theorem BL (s:ByteArray) (pos:Nat) (h:pos<s.size):Lib.decodeGo (s.extract pos s.size)=Utf8.decode s pos:=by
 unfold Lib.decodeGo
 rw [if_neg (by rw [ByteArray.size_extract];omega),Lib.tail_decode];rfl
theorem yq {w w':World} {base:Nat} {e:TypeId} {size:Nat} {v:Value} {n:Nat} {xs:List Value} (h:w.ownsRow base e size v n xs) (hb:Below w.heap.size w w'):w'.ownsRow base e size v n xs:=by
 obtain ⟨h1,h2⟩:=h
 refine ⟨h1,?_⟩
 rcases h2 with h2 | ⟨g,cap,cur,a,b,c,d⟩
 ·exact .inl h2
 ·exact .inr ⟨g,cap,cur,a,b,by rw [hb.block g (Array.getElem?_eq_some_iff.1 c).1];exact c,d⟩
set_option maxRecDepth 1000000 in
set_option maxHeartbeats 4000000 in
theorem wI (s : ByteArray) (R : Option (List Int)) (hR : dG s s.size 0 = R) (hsz : s.size ≤ 1099511627776) (w : World) (hT : Lib.Utf8Tabs 0 1 w) :
    Calls Tryz.prog 262 #[.string s] w fun e w'=>∃ v,e = .returned (.tuple #[v,.bool R.isSome])∧w'.ownsRow (w.heap.size+1) 21 1 v (R.getD []).length (nZ (R.getD []))∧Below w.heap.size w w':=by
  obtain ⟨i0,hi,hz0,hz1,hz2⟩:=info_parts Gm
  go_enter Tryz.func262,Tryz.ntmps262
  go_wp2
  go_loopw [4] (fun v wr=>∃ (pos fuel:Nat) (acc:List Int),wr.heap[w.heap.size]? = some (.stringIter s pos)∧wr.ownsRow (w.heap.size+1) 21 1 v acc.length (nZ acc)∧Below w.heap.size w wr∧(dG s fuel pos).map (acc ++ ·)=R∧s.size≤pos+fuel∧acc.length≤pos) (fun _ wr=>s.size - wr.iterPos w.heap.size)
  case atStart=>exact ⟨0,s.size,[],World.iter_heap w s 0,World.ownsRow_nil _ _ _ _,(Below.refl _ _).alloc (Nat.le_refl _) _,by rw [hR];cases R <;> simp,by omega,by simp⟩
  case round =>
    obtain ⟨pos,fuel,acc,hit,hown,hbw,HS,hb,hlen⟩:=hrel
    have hpos0:=ko hit
    by_cases hp:pos<s.size
    · have hnx:∀ ty,(Instr.next (.pointer (some ⟨w.heap.size,0,none⟩)) true ty).run Tryz.prog wr=_:=fun ty=>Lib.run_next_any_at wr w.heap.size s pos ty hit hp
      have hwd:=qU s pos hp
      have hdl:=decode_le s pos
      obtain ⟨fuel,rfl⟩:∃ f',fuel=f'+1:=⟨fuel - 1,by omega⟩
      have hit2:=Lib.iterAt_heap wr w.heap.size s pos (pos+(Utf8.decode s pos).2) hit
      have hbw2:=Lib.below_iterAt hbw (k:=w.heap.size) (Nat.le_refl _) s (pos+(Utf8.decode s pos).2)
      have hown2:=vP hown (k:=w.heap.size) (by omega) s (pos+(Utf8.decode s pos).2)
      obtain ⟨W1,hW1⟩:∃ W1,W1=wr.iterAt w.heap.size s (pos+(Utf8.decode s pos).2):=⟨_,rfl⟩
      rw [← hW1] at hnx hit2 hbw2 hown2
      have hBlt:w.heap.size<W1.heap.size:=(Array.getElem?_eq_some_iff.1 hit2).1
      have hT1:Lib.Utf8Tabs 0 1 W1:=Utf8Tabs_below hT hbw2
      clear hW1 hit hown hbw
      by_cases hne:(Utf8.decode s pos).1=65533
      · have hne1:(((Utf8.decode s pos).1:Int) == 65533)=true:=by simp [hne]
        have hix0:(0:Int)≤(pos:Int):=by omega
        have hix1:(pos:Int)≤(s.size:Int):=by omega
        have hdc : Calls Tryz.prog 277 #[.string (s.extract pos s.size)] W1 fun e w' => e = .returned (.tuple #[.int .i32 65533, .int .i64 ((Utf8.decode s pos).2 : Int)]) ∧ Below W1.heap.size W1 w' := by
          have h:=FN (s.extract pos s.size) W1 hT1
          rw [BL s pos hp,hne] at h;exact h
        by_cases hw1:(Utf8.decode s pos).2≤1
        · have hR0:R=none:=xR hp (by unfold lD;rw [decide_eq_true hne,decide_eq_true hw1];rfl) HS
          subst hR0
          have hw2:((Utf8.decode s pos).2:Int)≤1:=by omega
          go_wp2_with (go_at_call 277;refine hdc.mono ?_;rintro e W2 ⟨rfl,hb2⟩)
          go_ret2
          exact ⟨_,rfl,World.ownsRow_nil _ _ _ _,hbw2.trans (hb2.mono (by omega))⟩
        · have HS2:=oj hp (by unfold lD;rw [decide_eq_false hw1,Bool.and_false]) HS
          have hw2:¬ ((Utf8.decode s pos).2:Int)≤1:=by omega
          have he:(((Utf8.decode s pos).1:Nat):Int)=65533:=by rw [hne];rfl
          rw [he] at HS2
          go_wp2_with (first
            | (go_at_call 277; refine hdc.mono ?_; rintro e W2 ⟨rfl, hb2⟩
               have hown3:=yq hown2 hb2
               have hbw3:Below w.heap.size w W2:=hbw2.trans (hb2.mono (by omega))
               have hit3:W2.heap[w.heap.size]? = some (.stringIter s (pos+(Utf8.decode s pos).2)):=by rw [hb2.block _ hBlt];exact hit2
               have hBlt3:w.heap.size<W2.heap.size:=by have:=hb2.size;omega
               clear hdc)
            | (at_builtin; refine wpList_append_own _ rfl _ _ 255 rfl (w.heap.size + 1) 21 i0 (.int .i32 0) 1 4 Bw hi hz0 hz1 hz2 rfl (by decide) _ _ _ rfl (hown3.alloc _) ⟨W2.heap.size, 0, none⟩ 1 1 [.int .i32 65533] rfl rfl (sL _ _ _) (fun x hx => by simp at hx; subst hx; rfl) (by unfold maxLen; omega) (by omega) (by simp; omega) ?_; intro v' w4 hown' hgrow3 hnil3
               have hit4 : w4.heap[w.heap.size]? = some (.stringIter s (pos + (Utf8.decode s pos).2)) := by
                 rw [hgrow3.block w.heap.size (by simp;omega) (fun h=>by have:=(hown3.lt _ h.symm).1;omega),Below.heap_alloc _ _ _ hBlt3];exact hit3
               have hbw4:Below w.heap.size w w4:=Below.grown (hbw3.alloc (by omega) _) hgrow3 (by simp;omega) (fun j hj=>by have:=(hown3.lt _ hj).1;omega)
               have X:Aside (w4.ownsRow (w.heap.size+1) 21 1 v' (acc.length+1) (nZ acc++[.int .i32 65533])∧w4.heap[w.heap.size]? = some (.stringIter s (pos+(Utf8.decode s pos).2))∧Below w.heap.size w w4):=⟨hown',hit4,hbw4⟩
               clear hown' hgrow3 hnil3 hit4 hbw4))
          go_roundw
          case rel =>
            refine ⟨_,fuel,acc++[65533],X.out.2.1,?_,X.out.2.2,HS2,by omega,by simp;omega⟩
            have h:=X.out.1
            rw [List.length_append]
            unfold nZ at h ⊢
            rw [List.map_append];exact h
          case measure =>
            rw [ko X.out.2.1,hpos0];omega
      · have HS2:=oj hp (by unfold lD;rw [decide_eq_false hne,Bool.false_and]) HS
        have hne1:(((Utf8.decode s pos).1:Int) == 65533)=false:=by simp;omega
        have hne2:¬ (((Utf8.decode s pos).1:Int)=65533):=by omega
        go_wp2_with (first
            | (at_builtin; refine wpList_append_own _ rfl _ _ 255 rfl (w.heap.size + 1) 21 i0 (.int .i32 0) 1 4 Bw hi hz0 hz1 hz2 rfl (by decide) _ _ _ rfl (hown2.alloc _) ⟨W1.heap.size, 0, none⟩ 1 1 [.int .i32 ((Utf8.decode s pos).1 : Int)] rfl rfl (sL _ _ _) (fun x hx => by simp at hx; subst hx; rfl) (by unfold maxLen; omega) (by omega) (by simp; omega) ?_; intro v' w3 hown' hgrow3 hnil3
               have hit3 : w3.heap[w.heap.size]? = some (.stringIter s (pos + (Utf8.decode s pos).2)) := by
                 rw [hgrow3.block w.heap.size (by simp;omega) (fun h=>by have:=(hown2.lt _ h.symm).1;omega),Below.heap_alloc _ _ _ hBlt];exact hit2
               have hbw3:Below w.heap.size w w3:=Below.grown (hbw2.alloc (by omega) _) hgrow3 (by simp;omega) (fun j hj=>by have:=(hown2.lt _ hj).1;omega)
               have X:Aside (w3.ownsRow (w.heap.size+1) 21 1 v' (acc.length+1) (nZ acc++[.int .i32 ((Utf8.decode s pos).1:Int)])∧w3.heap[w.heap.size]? = some (.stringIter s (pos+(Utf8.decode s pos).2))∧Below w.heap.size w w3):=⟨hown',hit3,hbw3⟩
               clear hown' hgrow3 hnil3 hit3 hbw3))
        go_roundw
        case rel =>
          refine ⟨_,fuel,acc++[((Utf8.decode s pos).1:Int)],X.out.2.1,?_,X.out.2.2,HS2,by omega,by simp;omega⟩
          · have h:=X.out.1
            rw [List.length_append]
            unfold nZ at h ⊢
            rw [List.map_append];exact h
        case measure =>
          rw [ko X.out.2.1,hpos0];omega
    · have hnx:∀ ty,(Instr.next (.pointer (some ⟨w.heap.size,0,none⟩)) true ty).run Tryz.prog wr=_:=fun ty=>Lib.run_next_end_at wr w.heap.size s pos ty hit hp
      rw [xt s fuel pos hp] at HS
      have eL:R=some acc:=by rw [← HS];simp
      subst eL
      go_wp2
      go_ret2
      exact ⟨_,rfl,hown,hbw⟩
end Go.Proofs.YtfhcammihohmjaaGreatDoor
end
noncomputable section
/- name.Runes: its contract. -/
namespace Go.Proofs.YtfhcammihohmjaaGreatDoor
open Pal
def gz (s:List UInt8):Option (List Int × Bool):=bif Nat.ble s.length 1099511627776 then some (match dG ⟨s.toArray⟩ s.length 0 with | some l=>(l,true) | none=>([],false)) else none
def yA:Entry:=Sg.entry ⟨[.dat .str],[],.t2 (.dat (.slc (.int .i32))) (.dat .bool),[]⟩ gz
theorem E8 (G:Gh) (w:Go.World) (h:Wf G w) (ht:MonoC.tab G.I):Go.Lib.Utf8Tabs 0 1 w :=
 ⟨fun c hc=>h.holds _ _ _ (ht.1 c hc),fun i hi=>⟨h.holds _ _ _ (ht.2 i hi).1,h.holds _ _ _ (ht.2 i hi).2⟩⟩
theorem vi:CallOK Tryz.prog 262 yA :=
 AA (T:=21) kl (enters_of Tryz.func262 (by kernel_rfl) rfl) E8 fun s r h w hT=>by
  unfold gz at h
  cases hz:Nat.ble s.length 1099511627776 with
  | false=>rw [hz] at h;cases h
  | true =>
   rw [hz,cond_true] at h
   have hsz:s.length≤1099511627776:=Nat.le_of_ble_eq_true hz
   have hsz1:(⟨s.toArray⟩:ByteArray).size=s.length:=by simp [ByteArray.size]
   have hw:=wI ⟨s.toArray⟩ _ rfl (by rw [hsz1];exact hsz) w hT
   rw [hsz1] at hw
   injection h with h
   subst h
   refine hw.mono fun e w' hh=>?_
   obtain ⟨v,rfl,hown,hb⟩:=hh
   have hbase:∀ {n:Nat} {xs:List Go.Value},w'.ownsRow (w.heap.size+1) 21 1 v n xs→w'.ownsRow w.heap.size 21 1 v n xs:=fun {n xs} h=>⟨h.1,h.2.imp id fun ⟨g,cap,cur,a,b,c⟩=>⟨g,cap,cur,a,by omega,c⟩⟩
   cases hr:dG ⟨s.toArray⟩ s.length 0 with
   | none=>rw [hr] at hown;exact ⟨v,by rfl,hbase hown,hb⟩
   | some l=>rw [hr] at hown;exact ⟨v,by rfl,hbase hown,hb⟩
end Go.Proofs.YtfhcammihohmjaaGreatDoor
end
