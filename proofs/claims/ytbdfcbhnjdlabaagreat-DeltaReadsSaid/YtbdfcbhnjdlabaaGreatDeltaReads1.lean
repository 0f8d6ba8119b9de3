/- The functions that the statement reaches, and what they come to. Part 1. -/
import Derived.Test.YtbdfcbhnjdlabaaGreatProg
import Derived.Shelf.SlGeneric
import Derived.Shelf.SlLaysE0
import Derived.Shelf.SlLaysF0
import Derived.Ground.SlsfProg
import Derived.Ground.SlgnProg
import Derived.KernelRfl
import Derived.Shelf.Strings.Builder1
import Derived.WalkKit
import Derived.BigCall
import Derived.Test.YtbdfcbhnjdlabaaGreatFw1
import Derived.Test.YtbdfcbhnjdlabaaGreatFw2
import Derived.Test.YtbdfcbhnjdlabaaGreatFw3
set_option linter.unusedVariables false
set_option linter.unusedSimpArgs false
set_option linter.unusedSectionVars false
section
/- slices.Clone at Dot: the walk, and its contract. -/
namespace Go.Proofs.YtbdfcbhnjdlabaaGreat
open Go.Shelf Go.RowKit Go.Lib
set_option linter.unusedVariables false
set_option linter.unusedSimpArgs false
theorem ciDot : ∃ i z, Tryz.prog.info? 54 = some i ∧ i.zero = some z ∧ i.size = 2 ∧ i.bytes ≤ 16384 ∧ z.cells.size = 2 := okInfoK_spec (by kernel_rfl)
theorem cuDot : Tryz.prog.underlying 24 = some (.slice 54) := by kernel_rfl
set_option maxHeartbeats 4000000 in
set_option maxRecDepth 100000 in
theorem cloneDot_nil (c : Nat) (w : World) : Calls Tryz.prog 75 #[.slice none 0 c] w fun e w' => e = .returned (.slice none 0 0) ∧ w' = w := by
  have heq : (binOp .eql 24 (.slice none 0 c) (.slice none 0 0)).run Tryz.prog w = .ok (.bool true) w := Go.run_eql_slice_nil (P := Tryz.prog) w 24 54 none 0 c cuDot
  go_enter Tryz.func75, Tryz.ntmps75
  go_wp2
  all_goals (go_ret; exact ⟨rfl, rfl⟩)
set_option maxHeartbeats 4000000 in
set_option maxRecDepth 100000 in
theorem cloneDot_none (a : Addr) (c : Nat) (w : World) : Calls Tryz.prog 75 #[.slice (some a) 0 c] w fun e w' => e = .returned (.slice (some ⟨w.heap.size, 0, none⟩) 0 0) ∧ w' = w.alloc (.cells #[] 54) := by
  have heq : (binOp .eql 24 (.slice (some a) 0 c) (.slice none 0 0)).run Tryz.prog w = .ok (.bool false) w := Go.run_eql_slice_nil (P := Tryz.prog) w 24 54 (some a) 0 c cuDot
  go_enter Tryz.func75, Tryz.ntmps75
  go_wp2
  all_goals (go_ret; exact ⟨rfl, rfl⟩)
set_option maxHeartbeats 4000000 in
set_option maxRecDepth 100000 in
theorem cloneDot_some (a : Addr) (n c : Nat) (cs : List Value) (w : World) (hn : 0 < n) (hbig : n ≤ 4294967296) (hcl : cs.length = n * 2) (hcs : ∀ (j : Nat) (v : Value), cs[j]? = some v → w.cell? (a.add j) = some v) (h1 : ∀ v ∈ cs, v.oneCell' = true) :
    Calls Tryz.prog 75 #[.slice (some a) n c] w fun e w' => ∃ cap, n ≤ cap ∧ cap ≤ 9223372036854775807 ∧ e = .returned (.slice (some ⟨w.heap.size + 1, 0, none⟩) n cap) ∧ ∃ ROW : Array Value, ROW.size = cap * 2 ∧ (∀ (j : Nat) (v : Value), cs[j]? = some v → ROW[j]? = some v) ∧ w' = (w.alloc (.cells #[] 54)).drew.alloc (.cells ROW 54) := by
  obtain ⟨i0, z0, hi0, hz0, hzs, hzb, hzc⟩ := ciDot
  obtain ⟨W, hW⟩ : ∃ W, W = w.alloc (.cells #[] 54) := ⟨_, rfl⟩
  have hWs : W.heap.size = w.heap.size + 1 := by rw [hW]; simp
  have hsrc : Src Tryz.prog i0.size 24 (.slice (some a) n c) n cs W := by
    rw [hzs]
    exact Src.ofSlice W cuDot a n c cs (by omega) (fun j u hj => by rw [hW]; exact Lib.cell?_alloc_some _ (hcs j u hj)) h1
  have hold : (Builtin.firstCells i0.size 0 (.slice (some ⟨w.heap.size, 0, none⟩) 0 0)).run Tryz.prog W.drew = .ok ([] : List Value).toArray W.drew := by
    rw [hzs]
    exact run_firstCells_some W.drew 2 0 ⟨w.heap.size, 0, none⟩ 0 0 [] (by simp) (fun j v hj => by simp at hj)
  have hge := grownCap_ge W n 0 54
  have hle := grownCap_le_maxLen W n 0 54 (by unfold maxLen; omega)
  unfold maxLen at hle
  obtain ⟨cap, hcap⟩ : ∃ cap, cap = grownCap W n 0 54 := ⟨_, rfl⟩
  obtain ⟨ROW, hROW⟩ : ∃ ROW : Array Value, ROW = cs.toArray ++ Builtin.zeroCells z0.cells (cap - n) := ⟨_, rfl⟩
  have hrun : ∀ ty, (Builtin.append_ #[24, 24] ty #[.slice (some ⟨w.heap.size, 0, none⟩) 0 0, .slice (some a) n c]).run Tryz.prog W = .ok (.slice (some ⟨w.heap.size + 1, 0, none⟩) n cap) (W.drew.alloc (.cells ROW 54)) := fun ty => by
    have h := run_append_grow_src W 24 24 ty 54 i0 z0 cuDot hi0 hz0 (some ⟨w.heap.size, 0, none⟩) 0 0 [] hold _ n cs hsrc (by omega) (by omega) (by rw [Nat.zero_add]; have := Nat.mul_le_mul hbig hzb; exact growslice_fits (by omega) (by omega))
    rw [Nat.zero_add, List.nil_append, ← hcap, ← hROW, hWs] at h
    exact h
  rw [← hcap] at hge hle
  have hRs : ROW.size = cap * 2 := by rw [hROW]; simp [Builtin.zeroCells, hzc, hcl]; omega
  have hRp : ∀ (j : Nat) (v : Value), cs[j]? = some v → ROW[j]? = some v := fun j v hj => by
    have := (List.getElem?_eq_some_iff.1 hj).1
    rw [hROW, Array.getElem?_append_left (by simpa using this)]
    simpa using hj
  clear hROW hcap hold
  subst hW
  have heq : (binOp .eql 24 (.slice (some a) n c) (.slice none 0 0)).run Tryz.prog w = .ok (.bool false) w := Go.run_eql_slice_nil (P := Tryz.prog) w 24 54 (some a) n c cuDot
  go_enter Tryz.func75, Tryz.ntmps75
  go_wp2_with (at_builtin; refine Lib.wpList_append_run _ rfl _ _ _ _ rfl _ _ rfl rfl _ _ (hrun _) ?_)
  all_goals (go_ret; exact ⟨cap, hge, hle, rfl, ROW, hRs, hRp, rfl⟩)
end Go.Proofs.YtbdfcbhnjdlabaaGreat
namespace Go.Proofs.YtbdfcbhnjdlabaaGreat.Pal
open Go Go.Sort
@[reducible] def celDot : Ty := (.pair (.int .i64) (.int .i64))
theorem cloneDot_ok : CallOK Tryz.prog 75 (cloneE celDot) := by
  have eF : ∀ args w, (callFunc 75 args).run Tryz.prog w = .ok (.enter 75 args) w := enters_of Tryz.func75 (by kernel_rfl) rfl
  have val : ∀ args objs v os, (cloneE celDot).val args objs = some (v, os) → ∃ (xs : List celDot.D) (va : V), args = [va] ∧ V.as (.slc celDot) va = some xs ∧ objs = [] ∧ xs.length ≤ 4294967296 ∧ v = .raw celDot xs ∧ os = [] := by
    intro args objs v os h
    unfold Entry.val cloneE at h
    simp only at h
    split at h
    · rename_i va
      rw [Option.bind_eq_some_iff] at h
      obtain ⟨xs, hxs, h⟩ := h
      obtain ⟨hr, h⟩ := br_then h
      injection h with h; injection h with h1 h2
      exact ⟨xs, va, rfl, hxs, rfl, by have := hr; simp only [room, List.length_nil, Nat.zero_add, decide_eq_true_eq] at this; exact this, h1.symm, h2.symm⟩
    · cases h
  refine ⟨fun α args objs K => ?_, fun args objs vr os hval X G w argv tA tM hW hTab hX hA hM hcnt htok => ?_⟩
  · unfold Entry.val cloneE
    simp only
    split
    · rename_i va
      cases V.as (.slc celDot) va with
      | none => rfl
      | some ys => simp only [Option.bind_some]; rw [br_bind]; rfl
    · rfl
  · obtain ⟨xs, va, rfl, hva, rfl, hlen, rfl, rfl⟩ := val _ _ _ _ hval
    obtain ⟨x2, r2, t5, t6, rfl, rfl, hx2, rfl, rfl⟩ := hA
    obtain ⟨ad, n, c, rfl, g2, g3, g4⟩ := (TRep.as_ hva hx2).slc
    refine .inl ⟨eF _ _, ?_⟩
    have empty : ∀ (ad' : Option Addr) (w' : World), xs = [] → Evo X w w' → (∀ b o v, G.I b o = some v → w'.cell? ⟨b, o, none⟩ = some v) → ∃ G', Post X G w 0 (.raw celDot xs) [] (.slice ad' 0 0) (some (.slice ad n c)) G' w' := by
      intro ad' w' hx hE hc
      subst hx
      exact ⟨G, ⟨hE, Im.le_refl _, fun _ _ _ h => .inl h, fun _ _ _ => rfl⟩, ⟨hc, hW.io, fun b o k h => Nat.lt_of_lt_of_le (hW.lt b o k h) hE.size⟩, fun _ _ => rfl, [], [], [], ⟨_, ⟨ad', 0, 0, rfl, rfl, by omega, .inl ⟨rfl, rfl⟩⟩, rfl⟩, rfl, rfl, fun q => by simp, fun q hq => by simp at hq⟩
    rcases Nat.eq_zero_or_pos n with h0 | h0
    · have hxs : xs = [] := List.eq_nil_of_length_eq_zero (by omega)
      subst h0
      cases ad with
      | none =>
        refine Calls.mono (cloneDot_nil c w) fun e' w' hh => ?_
        obtain ⟨rfl, rfl⟩ := hh
        exact empty none w' hxs (Evo.refl X w') hW.holds
      | some a =>
        refine Calls.mono (cloneDot_none a c w) fun e' w' hh => ?_
        obtain ⟨rfl, rfl⟩ := hh
        exact empty _ _ hxs (Evo.alloc X w _) (fun b o v hv => Lib.cell?_alloc_some _ (hW.holds b o v hv))
    · rcases g4 with hx0 | ⟨b, o, rfl, hel⟩
      · subst hx0; simp at g2; omega
      obtain ⟨cs, hcA, hcat⟩ := Elems.all2 (fun x c => DRep.length celDot x c) xs b o hel
      have hcl : cs.length = n * 2 := by rw [← g2]; exact hcA.len
      refine Calls.mono (cloneDot_some ⟨b, o, none⟩ n c cs w h0 (by omega) hcl (fun j v hj => by rw [Addr.add_lit]; exact hW.holds b _ v (hcat j v hj)) (all2_plain xs cs hcA)) fun e' w' hh => ?_
      obtain ⟨cap, hge, hle, rfl, ROW, hRs, hRp, rfl⟩ := hh
      have hW1 : ((w.alloc (.cells #[] 54)).drew).heap.size = w.heap.size + 1 := by show (w.heap.push _).size = _; simp
      have hnew : ((w.alloc (.cells #[] 54)).drew.alloc (.cells ROW 54)).heap[w.heap.size + 1]? = some (.cells ROW 54 (0, 0)) := by
        show ((w.heap.push _).push _)[w.heap.size + 1]? = _
        have : w.heap.size + 1 = (w.heap.push (Obj.cells #[] 54 (0, 0))).size := by simp
        rw [this]; exact Array.getElem?_push_size
      have hE : Evo X w ((w.alloc (.cells #[] 54)).drew.alloc (.cells ROW 54)) :=
        (Evo.alloc X w _).trans ((Evo.drew X _).trans (Evo.alloc X _ _) (fun _ _ _ h => h) (fun _ _ _ h => h)) (fun _ _ _ h => h) (fun _ _ _ h => h)
      have hc : ∀ b o v, G.I b o = some v → ((w.alloc (.cells #[] 54)).drew.alloc (.cells ROW 54)).cell? ⟨b, o, none⟩ = some v := fun b o v hv => by
        refine Lib.cell?_alloc_some _ ?_
        show (w.alloc (.cells #[] 54)).cell? ⟨b, o, none⟩ = some v
        exact Lib.cell?_alloc_some _ (hW.holds b o v hv)
      have hIn : ∀ o, G.I (w.heap.size + 1) o = none := fun o => by
        cases hv : G.I (w.heap.size + 1) o with
        | none => rfl
        | some v => have := World.block_lt_of_cell? w _ (hW.holds _ _ v hv); have : w.heap.size + 1 < w.heap.size := this; omega
      have hOn : ∀ o, G.O (w.heap.size + 1) o = none := fun o => by
        cases hv : G.O (w.heap.size + 1) o with
        | none => rfl
        | some v => have := hW.lt _ _ v hv; omega
      refine ⟨G, ⟨hE, Im.le_refl _, fun _ _ _ h => .inl h, fun _ _ _ => rfl⟩, ⟨hc, hW.io, fun b o k h => Nat.lt_of_lt_of_le (hW.lt b o k h) hE.size⟩, fun _ _ => rfl, [w.heap.size + 1], [], [], ⟨_, ⟨_, n, cap, rfl, g2, ⟨hge, hle⟩, .inr ⟨w.heap.size + 1, rfl, rfl, ⟨ROW, 54, cs, hnew, hRs, hcA, hRp⟩, hIn, hOn⟩⟩, rfl⟩, rfl, rfl, fun q => ?_, fun q hq => ?_⟩
      · have : cnt q [w.heap.size + 1] ≤ 1 := by simp only [cnt]; exact List.count_le_length
        simpa using this
      · have : q = w.heap.size + 1 := by simpa [cnt_pos.symm] using hq
        subst this; exact .inl (by omega)
end Go.Proofs.YtbdfcbhnjdlabaaGreat.Pal
end
section
/- slices.Clone at Txn: the walk, and its contract. -/
namespace Go.Proofs.YtbdfcbhnjdlabaaGreat
open Go.Shelf Go.RowKit Go.Lib
set_option linter.unusedVariables false
set_option linter.unusedSimpArgs false
theorem ciTxn : ∃ i z, Tryz.prog.info? 63 = some i ∧ i.zero = some z ∧ i.size = 6 ∧ i.bytes ≤ 16384 ∧ z.cells.size = 6 := okInfoK_spec (by kernel_rfl)
theorem cuTxn : Tryz.prog.underlying 64 = some (.slice 63) := by kernel_rfl
set_option maxHeartbeats 4000000 in
set_option maxRecDepth 100000 in
theorem cloneTxn_nil (c : Nat) (w : World) : Calls Tryz.prog 71 #[.slice none 0 c] w fun e w' => e = .returned (.slice none 0 0) ∧ w' = w := by
  have heq : (binOp .eql 64 (.slice none 0 c) (.slice none 0 0)).run Tryz.prog w = .ok (.bool true) w := Go.run_eql_slice_nil (P := Tryz.prog) w 64 63 none 0 c cuTxn
  go_enter Tryz.func71, Tryz.ntmps71
  go_wp2
  all_goals (go_ret; exact ⟨rfl, rfl⟩)
set_option maxHeartbeats 4000000 in
set_option maxRecDepth 100000 in
theorem cloneTxn_none (a : Addr) (c : Nat) (w : World) : Calls Tryz.prog 71 #[.slice (some a) 0 c] w fun e w' => e = .returned (.slice (some ⟨w.heap.size, 0, none⟩) 0 0) ∧ w' = w.alloc (.cells #[] 63) := by
  have heq : (binOp .eql 64 (.slice (some a) 0 c) (.slice none 0 0)).run Tryz.prog w = .ok (.bool false) w := Go.run_eql_slice_nil (P := Tryz.prog) w 64 63 (some a) 0 c cuTxn
  go_enter Tryz.func71, Tryz.ntmps71
  go_wp2
  all_goals (go_ret; exact ⟨rfl, rfl⟩)
set_option maxHeartbeats 4000000 in
set_option maxRecDepth 100000 in
theorem cloneTxn_some (a : Addr) (n c : Nat) (cs : List Value) (w : World) (hn : 0 < n) (hbig : n ≤ 4294967296) (hcl : cs.length = n * 6) (hcs : ∀ (j : Nat) (v : Value), cs[j]? = some v → w.cell? (a.add j) = some v) (h1 : ∀ v ∈ cs, v.oneCell' = true) :
    Calls Tryz.prog 71 #[.slice (some a) n c] w fun e w' => ∃ cap, n ≤ cap ∧ cap ≤ 9223372036854775807 ∧ e = .returned (.slice (some ⟨w.heap.size + 1, 0, none⟩) n cap) ∧ ∃ ROW : Array Value, ROW.size = cap * 6 ∧ (∀ (j : Nat) (v : Value), cs[j]? = some v → ROW[j]? = some v) ∧ w' = (w.alloc (.cells #[] 63)).drew.alloc (.cells ROW 63) := by
  obtain ⟨i0, z0, hi0, hz0, hzs, hzb, hzc⟩ := ciTxn
  obtain ⟨W, hW⟩ : ∃ W, W = w.alloc (.cells #[] 63) := ⟨_, rfl⟩
  have hWs : W.heap.size = w.heap.size + 1 := by rw [hW]; simp
  have hsrc : Src Tryz.prog i0.size 64 (.slice (some a) n c) n cs W := by
    rw [hzs]
    exact Src.ofSlice W cuTxn a n c cs (by omega) (fun j u hj => by rw [hW]; exact Lib.cell?_alloc_some _ (hcs j u hj)) h1
  have hold : (Builtin.firstCells i0.size 0 (.slice (some ⟨w.heap.size, 0, none⟩) 0 0)).run Tryz.prog W.drew = .ok ([] : List Value).toArray W.drew := by
    rw [hzs]
    exact run_firstCells_some W.drew 6 0 ⟨w.heap.size, 0, none⟩ 0 0 [] (by simp) (fun j v hj => by simp at hj)
  have hge := grownCap_ge W n 0 63
  have hle := grownCap_le_maxLen W n 0 63 (by unfold maxLen; omega)
  unfold maxLen at hle
  obtain ⟨cap, hcap⟩ : ∃ cap, cap = grownCap W n 0 63 := ⟨_, rfl⟩
  obtain ⟨ROW, hROW⟩ : ∃ ROW : Array Value, ROW = cs.toArray ++ Builtin.zeroCells z0.cells (cap - n) := ⟨_, rfl⟩
  have hrun : ∀ ty, (Builtin.append_ #[64, 64] ty #[.slice (some ⟨w.heap.size, 0, none⟩) 0 0, .slice (some a) n c]).run Tryz.prog W = .ok (.slice (some ⟨w.heap.size + 1, 0, none⟩) n cap) (W.drew.alloc (.cells ROW 63)) := fun ty => by
    have h := run_append_grow_src W 64 64 ty 63 i0 z0 cuTxn hi0 hz0 (some ⟨w.heap.size, 0, none⟩) 0 0 [] hold _ n cs hsrc (by omega) (by omega) (by rw [Nat.zero_add]; have := Nat.mul_le_mul hbig hzb; exact growslice_fits (by omega) (by omega))
    rw [Nat.zero_add, List.nil_append, ← hcap, ← hROW, hWs] at h
    exact h
  rw [← hcap] at hge hle
  have hRs : ROW.size = cap * 6 := by rw [hROW]; simp [Builtin.zeroCells, hzc, hcl]; omega
  have hRp : ∀ (j : Nat) (v : Value), cs[j]? = some v → ROW[j]? = some v := fun j v hj => by
    have := (List.getElem?_eq_some_iff.1 hj).1
    rw [hROW, Array.getElem?_append_left (by simpa using this)]
    simpa using hj
  clear hROW hcap hold
  subst hW
  have heq : (binOp .eql 64 (.slice (some a) n c) (.slice none 0 0)).run Tryz.prog w = .ok (.bool false) w := Go.run_eql_slice_nil (P := Tryz.prog) w 64 63 (some a) n c cuTxn
  go_enter Tryz.func71, Tryz.ntmps71
  go_wp2_with (at_builtin; refine Lib.wpList_append_run _ rfl _ _ _ _ rfl _ _ rfl rfl _ _ (hrun _) ?_)
  all_goals (go_ret; exact ⟨cap, hge, hle, rfl, ROW, hRs, hRp, rfl⟩)
end Go.Proofs.YtbdfcbhnjdlabaaGreat
namespace Go.Proofs.YtbdfcbhnjdlabaaGreat.Pal
open Go Go.Sort
@[reducible] def celTxn : Ty := (.pair (.pair (.int .i64) (.int .i64)) (.pair (.int .i64) (.pair (.int .i64) (.pair .bool (.slc (.pair (.int .i64) (.pair (.slc .str) (.pair (.pair (.int .i64) (.pair (.int .i64) .str)) (.pair (.int .i64) (.slc (.pair (.pair (.int .i64) (.int .i64)) (.int .i64))))))))))))
theorem cloneTxn_ok : CallOK Tryz.prog 71 (cloneE celTxn) := by
  have eF : ∀ args w, (callFunc 71 args).run Tryz.prog w = .ok (.enter 71 args) w := enters_of Tryz.func71 (by kernel_rfl) rfl
  have val : ∀ args objs v os, (cloneE celTxn).val args objs = some (v, os) → ∃ (xs : List celTxn.D) (va : V), args = [va] ∧ V.as (.slc celTxn) va = some xs ∧ objs = [] ∧ xs.length ≤ 4294967296 ∧ v = .raw celTxn xs ∧ os = [] := by
    intro args objs v os h
    unfold Entry.val cloneE at h
    simp only at h
    split at h
    · rename_i va
      rw [Option.bind_eq_some_iff] at h
      obtain ⟨xs, hxs, h⟩ := h
      obtain ⟨hr, h⟩ := br_then h
      injection h with h; injection h with h1 h2
      exact ⟨xs, va, rfl, hxs, rfl, by have := hr; simp only [room, List.length_nil, Nat.zero_add, decide_eq_true_eq] at this; exact this, h1.symm, h2.symm⟩
    · cases h
  refine ⟨fun α args objs K => ?_, fun args objs vr os hval X G w argv tA tM hW hTab hX hA hM hcnt htok => ?_⟩
  · unfold Entry.val cloneE
    simp only
    split
    · rename_i va
      cases V.as (.slc celTxn) va with
      | none => rfl
      | some ys => simp only [Option.bind_some]; rw [br_bind]; rfl
    · rfl
  · obtain ⟨xs, va, rfl, hva, rfl, hlen, rfl, rfl⟩ := val _ _ _ _ hval
    obtain ⟨x2, r2, t5, t6, rfl, rfl, hx2, rfl, rfl⟩ := hA
    obtain ⟨ad, n, c, rfl, g2, g3, g4⟩ := (TRep.as_ hva hx2).slc
    refine .inl ⟨eF _ _, ?_⟩
    have empty : ∀ (ad' : Option Addr) (w' : World), xs = [] → Evo X w w' → (∀ b o v, G.I b o = some v → w'.cell? ⟨b, o, none⟩ = some v) → ∃ G', Post X G w 0 (.raw celTxn xs) [] (.slice ad' 0 0) (some (.slice ad n c)) G' w' := by
      intro ad' w' hx hE hc
      subst hx
      exact ⟨G, ⟨hE, Im.le_refl _, fun _ _ _ h => .inl h, fun _ _ _ => rfl⟩, ⟨hc, hW.io, fun b o k h => Nat.lt_of_lt_of_le (hW.lt b o k h) hE.size⟩, fun _ _ => rfl, [], [], [], ⟨_, ⟨ad', 0, 0, rfl, rfl, by omega, .inl ⟨rfl, rfl⟩⟩, rfl⟩, rfl, rfl, fun q => by simp, fun q hq => by simp at hq⟩
    rcases Nat.eq_zero_or_pos n with h0 | h0
    · have hxs : xs = [] := List.eq_nil_of_length_eq_zero (by omega)
      subst h0
      cases ad with
      | none =>
        refine Calls.mono (cloneTxn_nil c w) fun e' w' hh => ?_
        obtain ⟨rfl, rfl⟩ := hh
        exact empty none w' hxs (Evo.refl X w') hW.holds
      | some a =>
        refine Calls.mono (cloneTxn_none a c w) fun e' w' hh => ?_
        obtain ⟨rfl, rfl⟩ := hh
        exact empty _ _ hxs (Evo.alloc X w _) (fun b o v hv => Lib.cell?_alloc_some _ (hW.holds b o v hv))
    · rcases g4 with hx0 | ⟨b, o, rfl, hel⟩
      · subst hx0; simp at g2; omega
      obtain ⟨cs, hcA, hcat⟩ := Elems.all2 (fun x c => DRep.length celTxn x c) xs b o hel
      have hcl : cs.length = n * 6 := by rw [← g2]; exact hcA.len
      refine Calls.mono (cloneTxn_some ⟨b, o, none⟩ n c cs w h0 (by omega) hcl (fun j v hj => by rw [Addr.add_lit]; exact hW.holds b _ v (hcat j v hj)) (all2_plain xs cs hcA)) fun e' w' hh => ?_
      obtain ⟨cap, hge, hle, rfl, ROW, hRs, hRp, rfl⟩ := hh
      have hW1 : ((w.alloc (.cells #[] 63)).drew).heap.size = w.heap.size + 1 := by show (w.heap.push _).size = _; simp
      have hnew : ((w.alloc (.cells #[] 63)).drew.alloc (.cells ROW 63)).heap[w.heap.size + 1]? = some (.cells ROW 63 (0, 0)) := by
        show ((w.heap.push _).push _)[w.heap.size + 1]? = _
        have : w.heap.size + 1 = (w.heap.push (Obj.cells #[] 63 (0, 0))).size := by simp
        rw [this]; exact Array.getElem?_push_size
      have hE : Evo X w ((w.alloc (.cells #[] 63)).drew.alloc (.cells ROW 63)) :=
        (Evo.alloc X w _).trans ((Evo.drew X _).trans (Evo.alloc X _ _) (fun _ _ _ h => h) (fun _ _ _ h => h)) (fun _ _ _ h => h) (fun _ _ _ h => h)
      have hc : ∀ b o v, G.I b o = some v → ((w.alloc (.cells #[] 63)).drew.alloc (.cells ROW 63)).cell? ⟨b, o, none⟩ = some v := fun b o v hv => by
        refine Lib.cell?_alloc_some _ ?_
        show (w.alloc (.cells #[] 63)).cell? ⟨b, o, none⟩ = some v
        exact Lib.cell?_alloc_some _ (hW.holds b o v hv)
      have hIn : ∀ o, G.I (w.heap.size + 1) o = none := fun o => by
        cases hv : G.I (w.heap.size + 1) o with
        | none => rfl
        | some v => have := World.block_lt_of_cell? w _ (hW.holds _ _ v hv); have : w.heap.size + 1 < w.heap.size := this; omega
      have hOn : ∀ o, G.O (w.heap.size + 1) o = none := fun o => by
        cases hv : G.O (w.heap.size + 1) o with
        | none => rfl
        | some v => have := hW.lt _ _ v hv; omega
      refine ⟨G, ⟨hE, Im.le_refl _, fun _ _ _ h => .inl h, fun _ _ _ => rfl⟩, ⟨hc, hW.io, fun b o k h => Nat.lt_of_lt_of_le (hW.lt b o k h) hE.size⟩, fun _ _ => rfl, [w.heap.size + 1], [], [], ⟨_, ⟨_, n, cap, rfl, g2, ⟨hge, hle⟩, .inr ⟨w.heap.size + 1, rfl, rfl, ⟨ROW, 63, cs, hnew, hRs, hcA, hRp⟩, hIn, hOn⟩⟩, rfl⟩, rfl, rfl, fun q => ?_, fun q hq => ?_⟩
      · have : cnt q [w.heap.size + 1] ≤ 1 := by simp only [cnt]; exact List.count_le_length
        simpa using this
      · have : q = w.heap.size + 1 := by simpa [cnt_pos.symm] using hq
        subst this; exact .inl (by omega)
end Go.Proofs.YtbdfcbhnjdlabaaGreat.Pal
end
section
/- slices.Clone at Undo: the walk, and its contract. -/
namespace Go.Proofs.YtbdfcbhnjdlabaaGreat
open Go.Shelf Go.RowKit Go.Lib
set_option linter.unusedVariables false
set_option linter.unusedSimpArgs false
end Go.Proofs.YtbdfcbhnjdlabaaGreat
namespace Go.Proofs.YtbdfcbhnjdlabaaGreat.Pal
open Go Go.Sort
@[reducible] def celUndo : Ty := (.pair (.pair (.int .i64) (.int .i64)) (.int .i64))
end Go.Proofs.YtbdfcbhnjdlabaaGreat.Pal
end
section
/- slices.Grow at Dot: the walk, and its contract. -/
namespace Go.Proofs.YtbdfcbhnjdlabaaGreat
open Go.Shelf Go.RowKit Go.Lib
set_option linter.unusedVariables false
theorem giDot : ∃ i z, Tryz.prog.info? 54 = some i ∧ i.zero = some z ∧ i.size = 2 ∧ i.bytes ≤ 16384 ∧ z.cells.size = 2 := okInfoK_spec (by kernel_rfl)
theorem guDot : Tryz.prog.underlying 24 = some (.slice 54) := by kernel_rfl
theorem gu3Dot : Tryz.prog.underlying 3 = some (.int .i64) := by kernel_rfl
set_option maxHeartbeats 4000000 in
set_option maxRecDepth 100000 in
theorem growDot_walk (base : Option Addr) (len cap n : Nat) (olds : List Value) (w : World) (hlc : len ≤ cap) (hc63 : cap ≤ 9223372036854775807) (hgt : cap < len + n) (hbig : len + n ≤ 8589934592) (hol : olds.length = cap * 2) (hnil : base = none → cap = 0)
    (hcs : ∀ a, base = some a → ∀ (j : Nat) (v : Value), olds[j]? = some v → w.cell? (a.add j) = some v) :
    Calls Tryz.prog 102 #[.slice base len cap, .int .i64 n] w fun e w' => e = .returned (.slice (some ⟨w.heap.size, 0, none⟩) len (grownCap w (len + n) cap 54)) ∧
      ∃ ROW : Array Value, ROW.size = grownCap w (len + n) cap 54 * 2 ∧ (∀ (j : Nat) (v : Value), olds[j]? = some v → ROW[j]? = some v) ∧ w' = w.drew.alloc (.cells ROW 54) := by
  obtain ⟨i0, z0, hi0, hz0, hzs, hzb, hzc⟩ := giDot
  have h1 : ¬ ((n : Int) < 0) := by omega
  have hw : IntKind.i64.wrap ((cap : Int) - (len : Int)) = (cap : Int) - (len : Int) := by rw [IntKind.wrap_i64]; omega
  have hw2 : IntKind.i64.wrap ((n : Int) - ((cap : Int) - (len : Int))) = ((len + n - cap : Nat) : Int) := by rw [IntKind.wrap_i64]; omega
  have h2 : (0 : Int) < ((len + n - cap : Nat) : Int) := by omega
  have hik : cap + (len + n - cap) = len + n := by omega
  have hold : (Builtin.firstCells i0.size cap (.slice base cap cap)).run Tryz.prog w.drew = .ok olds.toArray w.drew := by
    rw [hzs]
    cases base with
    | none =>
      have h0 := hnil rfl
      subst h0
      rw [List.length_eq_zero_iff.1 hol]
      exact run_firstCells_none w.drew 2 0 0 0
    | some a => exact run_firstCells_some w.drew 2 cap a cap cap olds (by omega) (fun j v hj => hcs a rfl j v hj)
  have hrz : ∀ ty, (Builtin.append_ #[24, 3] ty #[.slice base cap cap, .int .i64 ((len + n - cap : Nat) : Int)]).run Tryz.prog w =
      .ok (.slice (some ⟨w.heap.size, 0, none⟩) (len + n) (grownCap w (len + n) cap 54)) (w.drew.alloc (.cells (olds.toArray ++ Builtin.zeroCells z0.cells (len + n - cap) ++ Builtin.zeroCells z0.cells (grownCap w (len + n) cap 54 - (len + n))) 54)) := fun ty => by
    have h := Lib.run_append_grow_zeros w 24 3 ty 54 i0 z0 .i64 .i64 guDot gu3Dot hi0 hz0 base cap cap olds hold (len + n - cap) (by omega) (by omega) (by omega) (by omega) (by have := Nat.mul_le_mul (show len + n - cap ≤ 8589934592 by omega) hzb; omega) (by rw [hik]; have := Nat.mul_le_mul hbig hzb; exact growslice_fits hgt (by omega))
    rw [hik] at h
    exact h
  have hGn : len + n ≤ grownCap w (len + n) cap 54 := grownCap_ge w _ _ _
  have hG63 : grownCap w (len + n) cap 54 ≤ 9223372036854775807 := by
    have := grownCap_le_maxLen w (len + n) cap 54 (by unfold maxLen; omega)
    unfold maxLen at this
    omega
  obtain ⟨ROW, hROW⟩ : ∃ ROW : Array Value, ROW = olds.toArray ++ Builtin.zeroCells z0.cells (len + n - cap) ++ Builtin.zeroCells z0.cells (grownCap w (len + n) cap 54 - (len + n)) := ⟨_, rfl⟩
  rw [← hROW] at hrz
  have hRs : ROW.size = grownCap w (len + n) cap 54 * 2 := by rw [hROW]; simp [Builtin.zeroCells, hzc, hol]; omega
  have hRp : ∀ (j : Nat) (v : Value), olds[j]? = some v → ROW[j]? = some v := fun j v hj => by
    have := (List.getElem?_eq_some_iff.1 hj).1
    rw [hROW, Array.getElem?_append_left (by simp; omega), Array.getElem?_append_left (by simpa using this)]
    simpa using hj
  clear hROW
  generalize grownCap w (len + n) cap 54 = G at hrz hGn hG63 hRs ⊢
  generalize hk : len + n - cap = q at hrz hw2 h2 hik ⊢
  have hlG : (len : Int) ≤ (G : Int) := by omega
  have hlc' : (len : Int) ≤ (cap : Int) := by omega
  clear hold hcs
  go_enter Tryz.func102, Tryz.ntmps102
  cases base with
  | none =>
    have h0 := hnil rfl
    subst h0
    have hl0 : len = 0 := by omega
    subst hl0
    have hqn : q = n := by omega
    subst hqn
    rw [Nat.zero_add] at hrz hGn
    clear hw hw2 hik hlG hlc' hk hgt
    have hgt : (0 : Int) < (q : Int) := h2
    go_wp2_with (at_builtin; refine Lib.wpList_append_run _ rfl _ _ _ _ rfl _ _ rfl rfl _ _ (hrz _) ?_)
    all_goals (go_ret; first | exact ⟨rfl, ROW, hRs, hRp, rfl⟩ | exact ⟨rfl, ROW, hRs, rfl⟩)
  | some a =>
    obtain ⟨ab, ao, asp⟩ := a
    go_wp2_with (at_builtin; refine Lib.wpList_append_run _ rfl _ _ _ _ rfl _ _ rfl rfl _ _ (hrz _) ?_)
    all_goals (go_ret; first | exact ⟨rfl, ROW, hRs, hRp, rfl⟩ | exact ⟨rfl, ROW, hRs, rfl⟩)

set_option maxHeartbeats 4000000 in
set_option maxRecDepth 100000 in
theorem growDot_stay (base : Option Addr) (len cap n : Nat) (w : World) (hlc : len ≤ cap) (hc63 : cap ≤ 9223372036854775807) (hgt : len + n ≤ cap) :
    Calls Tryz.prog 102 #[.slice base len cap, .int .i64 n] w fun e w' => e = .returned (.slice base len cap) ∧ w' = w := by
  have h1 : ¬ ((n : Int) < 0) := by omega
  have hw : IntKind.i64.wrap ((cap : Int) - (len : Int)) = (cap : Int) - (len : Int) := by rw [IntKind.wrap_i64]; omega
  have hw2 : IntKind.i64.wrap ((n : Int) - ((cap : Int) - (len : Int))) = (n : Int) - ((cap : Int) - (len : Int)) := by rw [IntKind.wrap_i64]; omega
  have h2 : ¬ (0 : Int) < (n : Int) - ((cap : Int) - (len : Int)) := by omega
  go_enter Tryz.func102, Tryz.ntmps102
  go_wp2
  all_goals first
    | (go_ret; exact ⟨rfl, rfl⟩)
    | (exfalso; omega)
end Go.Proofs.YtbdfcbhnjdlabaaGreat
namespace Go.Proofs.YtbdfcbhnjdlabaaGreat.Pal
open Go Go.Sort
theorem ilt_fDot {a b : Int} (h : ilt a b = false) : b ≤ a := by simp [ilt] at h; exact h
@[reducible] def gelDot : Ty := (.pair (.int .i64) (.int .i64))
theorem growDot_ok : CallOK Tryz.prog 102 (growE gelDot) := by
  have eF : ∀ args w, (callFunc 102 args).run Tryz.prog w = .ok (.enter 102 args) w := enters_of Tryz.func102 (by kernel_rfl) rfl
  have val : ∀ args objs v os, (growE gelDot).val args objs = some (v, os) → ∃ (xs : List gelDot.D) (n : Int), args = [.own gelDot xs, .dat (.int .i64) n] ∧ objs = [] ∧ (0 ≤ n ∧ n ≤ 4294967296) ∧ xs.length ≤ 4294967296 ∧ v = .own gelDot xs ∧ os = [] := by
    intro args objs v os h
    unfold Entry.val growE at h
    simp only at h
    split at h
    · rename_i e' xs n
      split at h
      · rename_i he; subst he
        obtain ⟨h1, h⟩ := br_else h
        obtain ⟨h2, h⟩ := br_else h
        obtain ⟨hr, h⟩ := br_then h
        injection h with h; injection h with h3 h4
        exact ⟨xs, n, rfl, rfl, ⟨ilt_fDot h1, ilt_fDot h2⟩, by have := hr; simp only [room, List.length_nil, Nat.zero_add, decide_eq_true_eq] at this; exact this, h3.symm, h4.symm⟩
      · cases h
    · cases h
  refine ⟨fun α args objs K => ?_, fun args objs vr os hval X G w argv tA tM hW hTab hX hA hM hcnt htok => ?_⟩
  · unfold Entry.val growE
    simp only
    split
    · split
      · rw [br_bind, br_bind, br_bind]; rfl
      · rfl
    · rfl
  · obtain ⟨xs, nn, rfl, rfl, ⟨hn0, hn1⟩, hlen, rfl, rfl⟩ := val _ _ _ _ hval
    obtain ⟨n, rfl⟩ : ∃ n : Nat, nn = (n : Int) := ⟨nn.toNat, by omega⟩
    obtain ⟨x0, r0, t1, t2, rfl, rfl, hx0, x1, r1, t3, t4, rfl, rfl, ⟨cs1, ⟨f1, f2⟩, hx1⟩, rfl, rfl⟩ := hA
    have hx0' := hx0
    obtain ⟨cs0, ⟨ad, len, cap, e1, e2, e3, e4⟩, hx⟩ := hx0
    simp only [V.agg, Bool.false_eq_true, if_false] at hx hx1
    rw [e1] at hx
    have f1 : cs1 = [.int .i64 n] := f1
    rw [f1] at hx1
    simp only [Ty.agg, Bool.false_eq_true, if_false, List.cons.injEq, and_true] at hx hx1
    subst hx; subst hx1; subst f2
    obtain ⟨hM1, hM2⟩ : tM = [] ∧ True := ⟨hM, trivial⟩
    refine .inl ⟨eF _ _, ?_⟩
    by_cases hstay : len + n ≤ cap
    · refine Calls.mono (growDot_stay ad len cap n w e3.1 e3.2 hstay) fun e' w' hh => ?_
      obtain ⟨rfl, rfl⟩ := hh
      exact ⟨G, Ev.refl _ _ _, hW, fun _ _ => rfl, t1, [], [], hx0', rfl, rfl, fun q => by have := hcnt q; simp at this ⊢; omega, fun q hq => .inr (htok q (by simp at hq ⊢; omega))⟩
    · have hbig : len + n ≤ 8589934592 := by omega
      obtain ⟨olds, hol, hnil, hcs, vs, hvA, hpre⟩ : ∃ olds : List Value, olds.length = cap * 2 ∧ (ad = none → cap = 0) ∧ (∀ a, ad = some a → ∀ (j : Nat) (v : Value), olds[j]? = some v → w.cell? (a.add j) = some v) ∧ ∃ vs, All2 (DRep G.I gelDot) xs vs ∧ ∀ (j : Nat) (v : Value), vs[j]? = some v → olds[j]? = some v := by
        rcases e4 with ⟨hc0, _⟩ | ⟨gb, rfl, _, hel, ⟨cells, ty, hgc, hs⟩, _, _⟩
        · have : xs = [] := List.eq_nil_of_length_eq_zero (by omega)
          subst this
          exact ⟨[], by rw [hc0]; rfl, fun _ => hc0, fun a _ j v hj => (by simp at hj), [], rfl, fun j v hj => (by simp at hj)⟩
        · obtain ⟨vs, hvA, hvat⟩ := Elems.all2 (fun x c => DRep.length gelDot x c) xs gb 0 hel
          refine ⟨cells.toList, by simp [hs]; rfl, fun h => (by cases h), fun a ha j v hj => ?_, vs, hvA, fun j v hj => ?_⟩
          · injection ha with ha; subst ha
            rw [Addr.add_lit, cell_of hgc, Nat.zero_add]; simpa using hj
          · have := hW.holds gb _ v (hvat j v hj)
            rw [Nat.zero_add, cell_of hgc] at this
            simpa using this
      refine Calls.mono (growDot_walk ad len cap n olds w e3.1 e3.2 (by omega) hbig hol hnil hcs) fun e' w' hh => ?_
      obtain ⟨rfl, ROW, hRs, hRp, rfl⟩ := hh
      have hge := grownCap_ge w (len + n) cap 54
      have hle := grownCap_le_maxLen w (len + n) cap 54 (by unfold maxLen; omega)
      unfold maxLen at hle
      obtain ⟨G2, hG2⟩ : ∃ G2, G2 = grownCap w (len + n) cap 54 := ⟨_, rfl⟩
      rw [← hG2] at hge hle hRs ⊢
      have hnew : (w.drew.alloc (.cells ROW 54)).heap[w.heap.size]? = some (.cells ROW 54 (0, 0)) := by show (w.heap.push _)[w.heap.size]? = _; simp
      have hk1 : ∀ b, b < w.heap.size → (w.drew.alloc (.cells ROW 54)).heap[b]? = w.heap[b]? := fun b hb => by
        show (w.heap.push _)[b]? = _
        rw [Array.getElem?_push_lt hb, Array.getElem?_eq_getElem hb]
      have := own_post (e := gelDot) (zs := xs) (X := X) (ax := some (.slice ad len cap)) (cap := G2) (w' := w.drew.alloc (.cells ROW 54)) hW ⟨rfl, rfl, rfl, by show _ ≤ (w.heap.push _).size; simp, fun b hb => .inl (hk1 b hb), fun _ => by show w.drawn ≤ w.drawn + 1; omega⟩ (fun b hb _ => hk1 b hb) hnew hRs ⟨by omega, hle⟩ hvA (fun j v hj => by
        rw [cell_of hnew]; exact hRp j v (hpre j v hj)) (fun o => (hW.none_new o).1) (fun o => (hW.none_new o).2) (.inl (Nat.le_refl _))
      rw [e2] at this
      exact this
end Go.Proofs.YtbdfcbhnjdlabaaGreat.Pal
end
section
/- slices.Insert at Dot: the walk, and its contract. -/
namespace Go.Proofs.YtbdfcbhnjdlabaaGreat
open Go.Shelf Go.RowKit Go.Lib
set_option linter.unusedVariables false
set_option linter.unusedSimpArgs false
theorem iDot : ∃ i z, Tryz.prog.info? 54 = some i ∧ i.zero = some z ∧ i.size = 2 ∧ i.bytes ≤ 16384 ∧ z.cells.size = 2 := okInfoK_spec (by kernel_rfl)
theorem uDot : Tryz.prog.underlying 24 = some (.slice 54) := by kernel_rfl
theorem u3Dot : Tryz.prog.underlying 3 = some (.int .i64) := by kernel_rfl
theorem zDot : ∀ w, (Go.sizeOf 54).run Tryz.prog w = .ok 2 w := fun w => by
  obtain ⟨i, z, h1, h2, h3, h4⟩ := iDot
  simp [Go.sizeOf, typeInfo, h1, h3]
theorem sDot : (Tryz.prog.info? 54).map (·.size) = some 2 := by
  obtain ⟨i, z, h1, h2, h3, h4⟩ := iDot
  rw [h1]; simp [h3]
set_option maxHeartbeats 4000000 in
set_option maxRecDepth 100000 in
theorem insDot_shift (b off n c i vb voff m vc : Nat) (cs vs : List Value) (w : World) (hi : i < n) (hm : 0 < m) (hroom : n + m ≤ c) (hc63 : c ≤ 9223372036854775807) (hvb : vb ≠ b)
    (hcl : cs.length = n * 2) (hvl : vs.length = m * 2)
    (hcs : ∀ j v, cs[j]? = some v → w.cell? ⟨b, off + j, none⟩ = some v) (hsp : ∀ j, j < (n + m) * 2 → (w.cell? ⟨b, off + j, none⟩).isSome = true) (hfz : ∀ j, j < (n + m) * 2 → w.frozen? ⟨b, off + j, none⟩ = false)
    (hvs : ∀ j v, vs[j]? = some v → w.cell? ⟨vb, voff + j, none⟩ = some v) (h1c : ∀ v ∈ cs, v.oneCell' = true) (h1v : ∀ v ∈ vs, v.oneCell' = true)
    (tA tB : TypeId) (kA kB : Nat) (hsa : w.shape? vb = some (tA, kA)) (hsb : w.shape? b = some (tB, kB)) (hkA : kA ≠ 0) (hfa : ∀ o, w.frozen? ⟨b, o, none⟩ = false) :
    Calls Tryz.prog 74 #[.slice (some ⟨b, off, none⟩) n c, .int .i64 i, .slice (some ⟨vb, voff, none⟩) m vc] w fun e w' =>
      e = .returned (.slice (some ⟨b, off, none⟩) (n + m) c) ∧ w' = (w.drew.setCells b (off + (i + m) * 2) (cs.drop (i * 2))).setCells b (off + i * 2) vs := by
  have hz1 : ¬ ((m : Int) = 0) := by omega
  have hz2 : ¬ ((i : Int) = (n : Int)) := by omega
  have hsz : (Tryz.prog.info? 54).map (·.size) = some 2 := sDot
  have hov : ∀ lb cb, (callFunc 89 #[.slice (some ⟨vb, voff, none⟩) m vc, .slice (some ⟨b, off + (i + m) * 2, none⟩) lb cb]).run Tryz.prog w = .ok (.value (.bool false)) w := fun lb cb => by
    rw [run_callFunc_extern Tryz.func89 (by kernel_rfl) (by kernel_rfl) (by kernel_rfl) (e := Extern.SlicesOverlaps.overlaps #[24, 24] #[4]) (by kernel_rfl),
      overlaps_apart w 24 4 54 uDot 2 zDot ⟨vb, voff, none⟩ ⟨b, off + (i + m) * 2, none⟩ m vc lb cb hvb tA tB kA kB hsa hsb hkA (hfa _) (hfa _)]
    rfl
  have hdl : (cs.drop (i * 2)).length = (n - i) * 2 := by rw [List.length_drop, hcl]; omega
  have hw1 : IntKind.i64.wrap ((i : Int) + (m : Int)) = (i : Int) + (m : Int) := by rw [IntKind.wrap_i64]; omega
  have hb1 : (0 : Int) ≤ (i : Int) + (m : Int) := by omega
  have hin : i ≤ n := by omega
  have htn : ((i : Int) + (m : Int)).toNat = i + m := by omega
  have hb2 : ¬ (c = i + m) := by omega
  have hb3 : (i : Int) ≤ (n : Int) + (m : Int) := by omega
  have hb4 : ¬ (c = i) := by omega
  have hcp1 : ∀ ty dc sc, (Builtin.copy_ #[24, 24] ty #[.slice (some ⟨b, off + (i + m) * 2, none⟩) (n + m - (i + m)) dc, .slice (some ⟨b, off + i * 2, none⟩) (n + m - i) sc]).run Tryz.prog w.drew = .ok (goInt (n - i : Nat)) (w.drew.setCells b (off + (i + m) * 2) (cs.drop (i * 2))) := fun ty dc sc =>
    run_copy_k 2 w.drew _ _ ty 54 b (off + (i + m) * 2) (n + m - (i + m)) dc ⟨b, off + i * 2, none⟩ (n + m - i) sc (cs.drop (i * 2)) uDot hsz (n - i) (by simp only [Nat.min_def]; split <;> omega) hdl
      (fun j v hj => by rw [Addr.add_lit, Nat.add_assoc]; exact hcs (i * 2 + j) v (by rwa [List.getElem?_drop] at hj))
      (fun j hj => by rw [Nat.add_assoc]; exact hsp _ (by omega)) (fun j hj => by rw [Nat.add_assoc]; exact hfz _ (by omega)) (fun v hv => h1c v (List.mem_of_mem_drop hv))
  obtain ⟨W1, hW1⟩ : ∃ W1, W1 = w.drew.setCells b (off + (i + m) * 2) (cs.drop (i * 2)) := ⟨_, rfl⟩
  have hsp1 : ∀ k, k < (n + m) * 2 → (W1.cell? ⟨b, off + k, none⟩).isSome = true := fun k hk => by
    rw [hW1]
    exact isSome_setCells b _ _ _ (fun j hj => by rw [Nat.add_assoc]; exact hsp _ (by omega)) _ (hsp k hk)
  have hcp2 : ∀ (W : World), (∀ x, W.cell? x = W1.cell? x) → (∀ x, W.frozen? x = W1.frozen? x) → ∀ ty dc, (Builtin.copy_ #[24, 24] ty #[.slice (some ⟨b, off + i * 2, none⟩) (n + m - i) dc, .slice (some ⟨vb, voff, none⟩) m vc]).run Tryz.prog W = .ok (goInt (m : Nat)) (W.setCells b (off + i * 2) vs) := fun W hWc hWf ty dc =>
    run_copy_k 2 W _ _ ty 54 b (off + i * 2) (n + m - i) dc ⟨vb, voff, none⟩ m vc vs uDot hsz m (by simp only [Nat.min_def]; split <;> omega) hvl
      (fun j v hj => by
        rw [Addr.add_lit, hWc, hW1, World.cell?_setCells_out b _ _ _ _ (fun h _ => absurd h hvb)]
        exact hvs j v hj)
      (fun j hj => by rw [hWc, Nat.add_assoc]; exact hsp1 _ (by omega)) (fun j hj => by rw [hWf, hW1, World.frozen?_setCells, Nat.add_assoc]; exact hfz _ (by omega)) h1v
  rw [← hW1] at hcp1
  have mixed : Tryz.prog.follows .mixedOrders = true := by kernel_rfl
  go_enter Tryz.func74, Tryz.ntmps74
  go_wp2_with (simp only [hov])
  go_region_law_o (refine step_copy_runI rfl _ _ 24 24 rfl _ _ (by simp [Act.eval, Act.put]) (by simp [Act.eval, Act.put]) (hcp1 _ _ _) ?_)
  go_wp2_with (at_builtin; refine wpList_copy_runI _ rfl _ _ 24 24 rfl _ _ rfl rfl (hcp2 _ (fun _ => rfl) (fun _ => rfl) _ _) ?_)
  go_ret
  first | exact ⟨rfl, rfl⟩ | exact ⟨rfl, by rw [hW1]⟩

set_option maxHeartbeats 4000000 in
set_option maxRecDepth 100000 in
theorem insDot_end_room (b off n c vb voff m vc : Nat) (vs : List Value) (w : World) (hm : 0 < m) (hroom : n + m ≤ c) (hc63 : c ≤ 9223372036854775807)
    (hvl : vs.length = m * 2) (hsp : ∀ j, j < m * 2 → (w.cell? ⟨b, off + n * 2 + j, none⟩).isSome = true) (hfz : ∀ j, j < m * 2 → w.frozen? ⟨b, off + n * 2 + j, none⟩ = false)
    (hvs : ∀ j v, vs[j]? = some v → w.cell? ⟨vb, voff + j, none⟩ = some v) (h1v : ∀ v ∈ vs, v.oneCell' = true) :
    Calls Tryz.prog 74 #[.slice (some ⟨b, off, none⟩) n c, .int .i64 n, .slice (some ⟨vb, voff, none⟩) m vc] w fun e w' =>
      e = .returned (.slice (some ⟨b, off, none⟩) (n + m) c) ∧ w' = w.setCells b (off + n * 2) vs := by
  have hz1 : ¬ ((m : Int) = 0) := by omega
  obtain ⟨i0, z0, hi0, hz0, hzs, hzb, hzc⟩ := iDot
  have hsrc : Src Tryz.prog i0.size 24 (.slice (some ⟨vb, voff, none⟩) m vc) m vs w := by
   rw [hzs]
   exact Src.ofSlice w uDot ⟨vb, voff, none⟩ m vc vs (by omega) (fun j u hj => by rw [Addr.add_lit]; exact hvs j u hj) h1v
  go_enter Tryz.func74, Tryz.ntmps74
  go_wp2_with (at_builtin; refine wpList_append_room_src _ rfl _ _ 24 24 rfl 54 i0 uDot hi0 b off n c rfl _ rfl m vs hsrc hroom (by rw [hvl, hzs]; exact hsp) (by rw [hvl, hzs]; exact hfz) ?_)
  go_ret
  exact ⟨rfl, rfl⟩

set_option maxHeartbeats 4000000 in
set_option maxRecDepth 100000 in
theorem insDot_end_grow (base : Option Addr) (n c vb voff m vc : Nat) (cs vs : List Value) (w : World) (hm : 0 < m) (hnc : n ≤ c) (hroom : c < n + m) (hbig : n + m ≤ 4294967296)
    (hcl : cs.length = n * 2) (hvl : vs.length = m * 2) (hnil : base = none → n = 0)
    (hcs : ∀ a, base = some a → ∀ (j : Nat) (v : Value), cs[j]? = some v → w.cell? (a.add j) = some v)
    (hvs : ∀ j v, vs[j]? = some v → w.cell? ⟨vb, voff + j, none⟩ = some v) (h1v : ∀ v ∈ vs, v.oneCell' = true) :
    Calls Tryz.prog 74 #[.slice base n c, .int .i64 n, .slice (some ⟨vb, voff, none⟩) m vc] w fun e w' =>
      e = .returned (.slice (some ⟨w.heap.size, 0, none⟩) (n + m) (grownCap w (n + m) c 54)) ∧
      ∃ ROW : Array Value, ROW.size = grownCap w (n + m) c 54 * 2 ∧ (∀ (j : Nat) (v : Value), (cs ++ vs)[j]? = some v → ROW[j]? = some v) ∧ w' = w.drew.alloc (.cells ROW 54) := by
  obtain ⟨i0, z0, hi0, hz0, hzs, hzb, hzc⟩ := iDot
  have hz1 : ¬ ((m : Int) = 0) := by omega
  have hsrc : Src Tryz.prog i0.size 24 (.slice (some ⟨vb, voff, none⟩) m vc) m vs w := by
    rw [hzs]
    exact Src.ofSlice w uDot ⟨vb, voff, none⟩ m vc vs (by omega) (fun j u hj => by rw [Addr.add_lit]; exact hvs j u hj) h1v
  have hold : (Builtin.firstCells i0.size n (.slice base n c)).run Tryz.prog w.drew =   .ok cs.toArray w.drew := by
    rw [hzs]
    cases base with
    | none =>
      have h0 := hnil rfl
      subst h0
      rw [List.length_eq_zero_iff.1 hcl]
      exact run_firstCells_none w.drew 2 0 0 c
    | some a => exact run_firstCells_some w.drew 2 n a n c cs (by omega) (fun j v hj => hcs a rfl j v hj)
  have hge := grownCap_ge w (n + m) c 54
  obtain ⟨ROW, hROW⟩ : ∃ ROW : Array Value, ROW = (cs ++ vs).toArray ++ Builtin.zeroCells z0.cells (grownCap w (n + m) c 54 - (n + m)) := ⟨_, rfl⟩
  have hRs : ROW.size = grownCap w (n + m) c 54 * 2 := by rw [hROW]; simp [Builtin.zeroCells, hzc, hcl, hvl]; omega
  have hRp : ∀ (j : Nat) (v : Value), (cs ++ vs)[j]? = some v → ROW[j]? = some v := fun j v hj => by
    have := (List.getElem?_eq_some_iff.1 hj).1
    rw [hROW, Array.getElem?_append_left (by simpa using this)]
    simpa using hj
  have hrun : ∀ ty, (Builtin.append_ #[24, 24] ty #[.slice base n c, .slice (some ⟨vb, voff, none⟩) m vc]).run Tryz.prog w = .ok (.slice (some ⟨w.heap.size, 0, none⟩) (n + m) (grownCap w (n + m) c 54)) (w.drew.alloc (.cells ROW 54)) := fun ty => by
    rw [hROW]
    exact run_append_grow_src w 24 24 ty 54 i0 z0 uDot hi0 hz0 base n c cs hold _ m vs hsrc hroom (by omega) (by have := Nat.mul_le_mul hbig hzb; exact growslice_fits hroom (by omega))
  clear hROW
  obtain ⟨G, hG⟩ : ∃ G, G = grownCap w (n + m) c 54 := ⟨_, rfl⟩
  rw [← hG] at hrun hRs ⊢
  clear hG hge
  go_enter Tryz.func74, Tryz.ntmps74
  cases base with
  | none =>
    have h0 := hnil rfl
    subst h0
    go_wp2_with (at_builtin; refine Lib.wpList_append_run _ rfl _ _ _ _ rfl _ _ rfl rfl _ _ (hrun _) ?_)
    go_ret
    exact ⟨rfl, ROW, hRs, hRp, rfl⟩
  | some a =>
    obtain ⟨ab, ao, asp⟩ := a
    go_wp2_with (at_builtin; refine Lib.wpList_append_run _ rfl _ _ _ _ rfl _ _ rfl rfl _ _ (hrun _) ?_)
    all_goals (go_ret; exact ⟨rfl, ROW, hRs, hRp, rfl⟩)

set_option maxHeartbeats 4000000 in
set_option maxRecDepth 100000 in
theorem insDot_grow (b off n c i vb voff m vc : Nat) (cs vs : List Value) (w : World) (hi : i < n) (hm : 0 < m) (hnc : n ≤ c) (hroom : c < n + m) (hbig : n + m ≤ 4294967296)
    (hcl : cs.length = n * 2) (hvl : vs.length = m * 2)
    (hcs : ∀ j v, cs[j]? = some v → w.cell? ⟨b, off + j, none⟩ = some v)
    (hvs : ∀ j v, vs[j]? = some v → w.cell? ⟨vb, voff + j, none⟩ = some v) (h1c : ∀ v ∈ cs, v.oneCell' = true) (h1v : ∀ v ∈ vs, v.oneCell' = true) :
    Calls Tryz.prog 74 #[.slice (some ⟨b, off, none⟩) n c, .int .i64 i, .slice (some ⟨vb, voff, none⟩) m vc] w fun e w' =>
      e = .returned (.slice (some ⟨w.heap.size, 0, none⟩) (n + m) (grownCap w (n + m) c 54)) ∧
      ∃ ROW : Array Value, ROW.size = grownCap w (n + m) c 54 * 2 ∧ (∀ (j : Nat) (v : Value), (cs.take (i * 2))[j]? = some v → ROW[j]? = some v) ∧
        w' = (((w.alloc (.cells ROW 54)).drew.setCells w.heap.size (i * 2) vs).drew).setCells w.heap.size ((i + m) * 2) (cs.drop (i * 2)) := by
  obtain ⟨i0, z0, hi0, hz0, hzs, hzb, hzc⟩ := iDot
  have hz1 : ¬ ((m : Int) = 0) := by omega
  have hz2 : ¬ ((i : Int) = (n : Int)) := by omega
  have hz3 : (c : Int) < (n : Int) + (m : Int) := by omega
  have hsz : (Tryz.prog.info? 54).map (·.size) = some 2 := sDot
  have hbw : b < w.heap.size := block_lt_of_cell (hcs 0 _ (List.getElem?_eq_getElem (by omega)))
  have hvw : vb < w.heap.size := block_lt_of_cell (hvs 0 _ (List.getElem?_eq_getElem (by omega)))
  have hkk : (n : Int) + (m : Int) - (i : Int) = ((n + m - i : Nat) : Int) := by omega
  have hik : i + (n + m - i) = n + m := by omega
  have hold : (Builtin.firstCells i0.size i (.slice (some ⟨b, off, none⟩) i c)).run Tryz.prog w.drew = .ok (cs.take (i * 2)).toArray w.drew := by
    rw [hzs]
    exact run_firstCells_some w.drew 2 i ⟨b, off, none⟩ i c (cs.take (i * 2)) (by rw [List.length_take]; omega) (fun j v hj => by
      rw [Addr.add_lit]
      rw [List.getElem?_take] at hj
      split at hj
      · exact hcs j v hj
      · cases hj)
  have hrz : ∀ ty, (Builtin.append_ #[24, 3] ty #[.slice (some ⟨b, off, none⟩) i c, .int .i64 ((n : Int) + (m : Int) - (i : Int))]).run Tryz.prog w =
      .ok (.slice (some ⟨w.heap.size, 0, none⟩) (n + m) (grownCap w (n + m) c 54)) (w.drew.alloc (.cells ((cs.take (i * 2)).toArray ++ Builtin.zeroCells z0.cells (n + m - i) ++ Builtin.zeroCells z0.cells (grownCap w (n + m) c 54 - (n + m))) 54)) := fun ty => by
    have h := Lib.run_append_grow_zeros w 24 3 ty 54 i0 z0 .i64 .i64 uDot u3Dot hi0 hz0 (some ⟨b, off, none⟩) i c (cs.take (i * 2)) hold (n + m - i) (by omega) (by omega) (by omega) (by omega) (by have := Nat.mul_le_mul (show n + m - i ≤ 4294967296 by omega) hzb; omega) (by rw [hik]; have := Nat.mul_le_mul hbig hzb; exact growslice_fits hroom (by omega))
    rw [hik] at h
    rw [hkk]
    exact h
  obtain ⟨G, hG⟩ : ∃ G, G = grownCap w (n + m) c 54 := ⟨_, rfl⟩
  obtain ⟨ROW, hROW⟩ : ∃ ROW : Array Value, ROW = (cs.take (i * 2)).toArray ++ Builtin.zeroCells z0.cells (n + m - i) ++ Builtin.zeroCells z0.cells (G - (n + m)) := ⟨_, rfl⟩
  rw [← hG] at hrz ⊢
  rw [← hROW] at hrz
  have hRl : (n + m) * 2 ≤ ROW.size := by
    rw [hROW]
    simp [Builtin.zeroCells, hzc, hcl]
    omega
  obtain ⟨W1, hW1⟩ : ∃ W1, W1 = w.drew.alloc (.cells ROW 54) := ⟨_, rfl⟩
  rw [← hW1] at hrz
  have hN : ∀ j, j < (n + m) * 2 → (W1.cell? ⟨w.heap.size, j, none⟩).isSome = true := fun j hj => by
    rw [hW1, World.cell?_alloc_at (w := w.drew) ROW _ w.heap.size j rfl, Array.getElem?_eq_getElem (by omega)]; rfl
  have hNf : ∀ j, W1.frozen? ⟨w.heap.size, j, none⟩ = false := fun j => by rw [hW1]; exact World.frozen?_alloc_at (w := w.drew) ROW _ w.heap.size j rfl
  have hOb : ∀ j v, w.cell? ⟨b, j, none⟩ = some v → W1.cell? ⟨b, j, none⟩ = some v := fun j v h => by rw [hW1, World.cell?_alloc_past (w := w.drew) _ b j hbw]; exact h
  have hOv : ∀ j v, w.cell? ⟨vb, j, none⟩ = some v → W1.cell? ⟨vb, j, none⟩ = some v := fun j v h => by rw [hW1, World.cell?_alloc_past (w := w.drew) _ vb j hvw]; exact h
  have hcpA : ∀ (W : World), (∀ x, W.cell? x = W1.cell? x) → (∀ x, W.frozen? x = W1.frozen? x) → ∀ ty dc, (Builtin.copy_ #[24, 24] ty #[.slice (some ⟨w.heap.size, i * 2, none⟩) (n + m - i) dc, .slice (some ⟨vb, voff, none⟩) m vc]).run Tryz.prog W = .ok (goInt (m : Nat)) (W.setCells w.heap.size (i * 2) vs) := fun W hWc hWf ty dc =>
    run_copy_k 2 W _ _ ty 54 w.heap.size (i * 2) (n + m - i) dc ⟨vb, voff, none⟩ m vc vs uDot hsz m (by simp only [Nat.min_def]; split <;> omega) hvl
      (fun j v hj => by rw [Addr.add_lit, hWc]; exact hOv _ v (hvs j v hj))
      (fun j hj => by rw [hWc]; exact hN _ (by omega)) (fun j hj => by rw [hWf]; exact hNf _) h1v
  have hRp : ∀ (j : Nat) (v : Value), (cs.take (i * 2))[j]? = some v → ROW[j]? = some v := fun j v hj => by
    have := (List.getElem?_eq_some_iff.1 hj).1
    rw [hROW, Array.getElem?_append_left (by simp at this ⊢; omega), Array.getElem?_append_left (by simpa using this)]
    simpa using hj
  have hGn : n + m ≤ G := by rw [hG]; exact grownCap_ge w _ _ _
  have hG63 : G ≤ 9223372036854775807 := by
    have := grownCap_le_maxLen w (n + m) c 54 (by unfold maxLen; omega)
    rw [← hG] at this
    unfold maxLen at this
    omega
  have hGi : ¬ (G = i) := by omega
  have hGim : ¬ (G = i + m) := by omega
  have hci : ¬ (c = i) := by omega
  have hbN : b ≠ w.heap.size := by omega
  have hdl : (cs.drop (i * 2)).length = (n - i) * 2 := by rw [List.length_drop, hcl]; omega
  have hcpB : ∀ (W : World), (∀ x, W.cell? x = (W1.setCells w.heap.size (i * 2) vs).cell? x) → (∀ x, W.frozen? x = (W1.setCells w.heap.size (i * 2) vs).frozen? x) → ∀ ty dc sc, (Builtin.copy_ #[24, 24] ty #[.slice (some ⟨w.heap.size, (i + m) * 2, none⟩) (n + m - (i + m)) dc, .slice (some ⟨b, off + i * 2, none⟩) (n - i) sc]).run Tryz.prog W = .ok (goInt (n - i : Nat)) (W.setCells w.heap.size ((i + m) * 2) (cs.drop (i * 2))) := fun W hWc hWf ty dc sc =>
    run_copy_k 2 W _ _ ty 54 w.heap.size ((i + m) * 2) (n + m - (i + m)) dc ⟨b, off + i * 2, none⟩ (n - i) sc (cs.drop (i * 2)) uDot hsz (n - i) (by simp only [Nat.min_def]; split <;> omega) hdl
      (fun j v hj => by
        rw [Addr.add_lit, hWc, World.cell?_setCells_out _ _ _ _ _ (fun h _ => absurd h hbN), Nat.add_assoc]
        exact hOb _ v (hcs (i * 2 + j) v (by rwa [List.getElem?_drop] at hj)))
      (fun j hj => by rw [hWc]; exact isSome_setCells _ _ _ _ (fun t ht => hN _ (by omega)) _ (hN _ (by omega)))
      (fun j hj => by rw [hWf, World.frozen?_setCells]; exact hNf _) (fun v hv => h1c v (List.mem_of_mem_drop hv))
  subst hW1
  have hE1 : ∀ x, ((w.alloc (.cells ROW 54)).drew).cell? x = (w.drew.alloc (.cells ROW 54)).cell? x := fun x => rfl
  have hE2 : ∀ x, ((w.alloc (.cells ROW 54)).drew).frozen? x = (w.drew.alloc (.cells ROW 54)).frozen? x := fun x => rfl
  have hF1 : ∀ x, (((w.alloc (.cells ROW 54)).drew.setCells w.heap.size (i * 2) vs).drew).cell? x = ((w.drew.alloc (.cells ROW 54)).setCells w.heap.size (i * 2) vs).cell? x := fun x => rfl
  have hF2 : ∀ x, (((w.alloc (.cells ROW 54)).drew.setCells w.heap.size (i * 2) vs).drew).frozen? x = ((w.drew.alloc (.cells ROW 54)).setCells w.heap.size (i * 2) vs).frozen? x := fun x => rfl
  have hw1 : IntKind.i64.wrap ((i : Int) + (m : Int)) = (i : Int) + (m : Int) := by rw [IntKind.wrap_i64]; omega
  have hb1 : (0 : Int) ≤ (i : Int) + (m : Int) := by omega
  have hin : i ≤ n := by omega
  have htn : ((i : Int) + (m : Int)).toNat = i + m := by omega
  have hb3 : (i : Int) ≤ (n : Int) := by omega
  have hRs : ROW.size = G * 2 := by rw [hROW]; simp [Builtin.zeroCells, hzc, hcl]; omega
  clear hkk hik hold hROW hG hRl
  have mixed : Tryz.prog.follows .mixedOrders = true := by kernel_rfl
  go_enter Tryz.func74, Tryz.ntmps74
  go_wp2_with (first
    | (at_builtin; refine Lib.wpList_append_run _ rfl _ _ _ _ rfl _ _ rfl rfl _ _ (hrz _) ?_)
    | (at_builtin; refine wpList_copy_runI _ rfl _ _ 24 24 rfl _ _ rfl rfl (hcpA _ hE1 hE2 _ _) ?_)
    | (at_builtin; refine wpList_copy_runI _ rfl _ _ 24 24 rfl _ _ rfl rfl (hcpB _ (fun _ => rfl) (fun _ => rfl) _ _ _) ?_))
  go_region_law_o (refine step_copy_runI rfl _ _ 24 24 rfl (.slice (some ⟨w.heap.size, (i + m) * 2, none⟩) (n + m - (i + m)) (G - (i + m))) (.slice (some ⟨b, off + i * 2, none⟩) (n - i) (c - i)) (by simp [Act.eval, Act.put]) (by simp [Act.eval, Act.put]) (hcpB _ hF1 hF2 3 (G - (i + m)) (c - i)) ?_)
  go_wp2
  go_ret
  exact ⟨rfl, ROW, hRs, hRp, rfl⟩


set_option maxHeartbeats 4000000 in
set_option maxRecDepth 100000 in
theorem insDot_none (a : Option Addr) (n c i : Nat) (y : Option Addr) (vc : Nat) (w : World) (hi : i ≤ n) (hn : n ≤ c) (hc : c ≤ 9223372036854775807) :
    Calls Tryz.prog 74 #[.slice a n c, .int .i64 i, .slice y 0 vc] w fun e w' => e = .returned (.slice a n c) ∧ w' = w := by
  have h1 : (i : Int) ≤ (n : Int) := by omega
  go_enter Tryz.func74, Tryz.ntmps74
  cases a with
  | none =>
    go_wp2
    all_goals (go_ret; exact ⟨rfl, rfl⟩)
  | some a =>
    obtain ⟨ab, ao, asp⟩ := a
    go_wp2
    all_goals (go_ret; exact ⟨rfl, rfl⟩)
end Go.Proofs.YtbdfcbhnjdlabaaGreat
namespace Go.Proofs.YtbdfcbhnjdlabaaGreat.Pal
open Go Go.Sort
@[reducible] def elDot : Ty := (.pair (.int .i64) (.int .i64))
theorem insDot_ok : CallOK Tryz.prog 74 (insE elDot) := by
  have eF : ∀ args w, (callFunc 74 args).run Tryz.prog w = .ok (.enter 74 args) w := enters_of Tryz.func74 (by kernel_rfl) rfl
  have val : ∀ args objs v os, (insE elDot).val args objs = some (v, os) → ∃ (xs ys : List elDot.D) (i : Int) (va : V), args = [.raw elDot xs, .dat (.int .i64) i, va] ∧ V.as (.slc elDot) va = some ys ∧ objs = [] ∧ (0 ≤ i ∧ i ≤ xs.length) ∧ xs.length + ys.length ≤ 4294967296 ∧ v = .own elDot (insAt xs i ys) ∧ os = [] := by
    intro args objs v os h
    unfold Entry.val insE at h
    simp only at h
    split at h
    · rename_i e' xs i va
      split at h
      · rename_i he; subst he
        rw [Option.bind_eq_some_iff] at h
        obtain ⟨ys, hys, h⟩ := h
        obtain ⟨hb, h⟩ := br_then h
        obtain ⟨hr, h⟩ := br_then h
        injection h with h; injection h with h1 h2
        obtain ⟨_, i1, i2⟩ := inS_spec hb
        exact ⟨xs, ys, i, va, rfl, hys, rfl, ⟨i1, i2⟩, room_spec hr, h1.symm, h2.symm⟩
      · cases h
    · cases h
  refine ⟨fun α args objs K => ?_, fun args objs vr os hval X G w argv tA tM hW hTab hX hA hM hcnt htok => ?_⟩
  · unfold Entry.val insE
    simp only
    split
    · split
      · rename_i va _
        cases V.as (.slc elDot) va with
        | none => rfl
        | some ys => simp only [Option.bind_some]; rw [br_bind, br_bind]; rfl
      · rfl
    · rfl
  · obtain ⟨xs, ys, ii, va, rfl, hva, rfl, ⟨hi0, hi1⟩, hlen, rfl, rfl⟩ := val _ _ _ _ hval
    obtain ⟨i, rfl⟩ : ∃ i : Nat, ii = (i : Int) := ⟨ii.toNat, by omega⟩
    have hin : i ≤ xs.length := by omega
    obtain ⟨x0, r0, t1, t2, rfl, rfl, ⟨cs0, ⟨ad, n, c, e1, e2, e3, e4⟩, hx⟩, x1, r1, t3, t4, rfl, rfl, ⟨cs1, ⟨f1, f2⟩, hx1⟩, x2, r2, t5, t6, rfl, rfl, hx2, rfl, rfl⟩ := hA
    obtain ⟨ad2, m, vc, rfl, g2, g3, g4⟩ := (TRep.as_ hva hx2).slc
    simp only [V.agg, Bool.false_eq_true, if_false] at hx hx1
    rw [e1] at hx
    have f1 : cs1 = [.int .i64 i] := f1
    rw [f1] at hx1
    simp only [Ty.agg, Bool.false_eq_true, if_false, List.cons.injEq, and_true] at hx hx1
    subst hx; subst hx1; subst f2
    obtain ⟨hM1, hM2⟩ : tM = [] ∧ True := ⟨hM, trivial⟩
    obtain ⟨cs, hAc, e5⟩ : ∃ cs, All2 (DRep G.I elDot) xs cs ∧ ((c = 0 ∧ t1 = []) ∨ ∃ gb, ad = some ⟨gb, 0, none⟩ ∧ t1 = [gb] ∧ (∃ cells ty, w.heap[gb]? = some (.cells cells ty (0, 0)) ∧ cells.size = c * 2 ∧ ∀ (j : Nat) (v : Value), cs[j]? = some v → cells[j]? = some v) ∧ (∀ o, G.I gb o = none) ∧ ∀ o, G.O gb o = none) := by
      rcases e4 with ⟨hc0, ht⟩ | ⟨gb, h1, h2, ⟨cells, ty, cc, hgc, hs, hAc, hcc⟩, hI, hO'⟩
      · have : xs = [] := List.eq_nil_of_length_eq_zero (by omega)
        subst this
        exact ⟨[], rfl, .inl ⟨hc0, ht⟩⟩
      · exact ⟨cc, hAc, .inr ⟨gb, h1, h2, ⟨cells, ty, hgc, hs, hcc⟩, hI, hO'⟩⟩
    have hia : (insAt xs (i : Int) ys) = xs.take i ++ (ys ++ xs.drop i) := rfl
    have hzl : (insAt xs (i : Int) ys).length = n + m := by rw [hia]; simp [← e2, ← g2]; omega
    have hcl : cs.length = n * 2 := by rw [← e2]; exact hAc.len
    obtain ⟨hAt, hAd⟩ := All2.split (sz := 2) (fun x c h => DRep.length elDot x c h) xs cs i hin hAc
    have h1c : ∀ v ∈ cs, v.oneCell' = true := all2_plain xs cs hAc
    refine .inl ⟨eF _ _, ?_⟩
    have hfr : ∀ {b : Nat} {C : Array Value} {T : TypeId} (o : Nat), w.heap[b]? = some (.cells C T (0, 0)) → w.frozen? ⟨b, o, none⟩ = false := fun o h => by simp only [World.frozen?, h]; simp
    rcases Nat.eq_zero_or_pos m with hm0 | hm0
    · have hys : ys = [] := List.eq_nil_of_length_eq_zero (by omega)
      subst hys; subst hm0
      have hxx : insAt xs (i : Int) [] = xs := by rw [hia]; simp
      rw [hxx] at hzl ⊢
      refine Calls.mono (insDot_none ad n c i ad2 vc w (by omega) e3.1 e3.2) fun e' w' hh => ?_
      obtain ⟨rfl, rfl⟩ := hh
      rcases e5 with ⟨hc0, rfl⟩ | ⟨gb, rfl, rfl, ⟨cells, ty, hgc, hs, hcc⟩, hI, hO'⟩
      · exact ⟨G, Ev.refl _ _ _, hW, fun _ _ => rfl, [], [], [], ⟨_, ⟨ad, n, c, rfl, e2, e3, .inl ⟨hc0, rfl⟩⟩, rfl⟩, rfl, rfl, fun q => by simp, fun q hq => by simp at hq⟩
      · have hone : cnt gb [gb] = 1 := by simp [cnt]
        have hX1 : ∀ o, X gb o := htok gb (by simp only [cnt_append]; omega)
        have := own_post (e := elDot) (zs := xs) (ax := some (.slice (some ⟨gb, 0, none⟩) n c)) hW (Evo.refl X w') (fun _ _ _ => rfl) hgc hs (by rw [e2]; exact e3) hAc (fun j v hj => by rw [cell_of hgc]; exact hcc j v hj) hI hO' (.inr hX1)
        rw [e2] at this
        exact this
    · rcases g4 with hy0 | ⟨vb, vo, rfl, hel⟩
      · subst hy0; simp at g2; omega
      obtain ⟨vs, hvA, hvat⟩ := Elems.all2 (fun x c => DRep.length elDot x c) ys vb vo hel
      have hvl : vs.length = m * 2 := by rw [← g2]; exact hvA.len
      have h1v : ∀ v ∈ vs, v.oneCell' = true := all2_plain ys vs hvA
      have hA2 : All2 (DRep G.I elDot) (insAt xs (i : Int) ys) (cs.take (i * 2) ++ (vs ++ cs.drop (i * 2))) := by
        rw [hia]; exact All2.append _ _ _ _ hAt (All2.append _ _ _ _ hvA hAd)
      have hvc : ∀ (j : Nat) (v : Value), vs[j]? = some v → w.cell? ⟨vb, vo + j, none⟩ = some v := fun j v hj => hW.holds vb _ v (hvat j v hj)
      have hvI : ∃ v, G.I vb vo = some v := ⟨_, by have := hvat 0 vs[0] (List.getElem?_eq_getElem (by omega)); simpa using this⟩
      obtain ⟨kA, tA, hkA, hsa⟩ : ∃ kA tA, kA ≠ 0 ∧ w.shape? vb = some (tA, kA) := by
        obtain ⟨v, hv⟩ := hvI
        have h := hW.holds vb vo v hv
        unfold World.cell? at h
        split at h
        · rename_i C T fr hb
          simp only [Option.isSome_none, Bool.false_eq_true, if_false] at h
          exact ⟨C.size, T, by have := (Array.getElem?_eq_some_iff.1 h).1; omega, by have hb' : w.heap[vb]? = some (.cells C T fr) := hb; simp only [World.shape?, hb']⟩
        · cases h
      have hbig : n + m ≤ 4294967296 := by omega
      have fresh : ∀ w' (cap : Nat), (∀ b, b < w.heap.size → w'.heap[b]? = w.heap[b]?) → w'.os = w.os → w'.tape = w.tape → w'.output = w.output → w.drawn ≤ w'.drawn → w.heap.size ≤ w'.heap.size → (∃ C T, w'.heap[w.heap.size]? = some (.cells C T (0, 0)) ∧ C.size = cap * 2) → (n + m ≤ cap ∧ cap ≤ 9223372036854775807) →
          (∀ (j : Nat) (v : Value), (cs.take (i * 2) ++ (vs ++ cs.drop (i * 2)))[j]? = some v → w'.cell? ⟨w.heap.size, j, none⟩ = some v) →
          ∃ G', Post X G w 0 (.own elDot (insAt xs i ys)) [] (.slice (some ⟨w.heap.size, 0, none⟩) (n + m) cap) (some (.slice ad n c)) G' w' := by
        intro w' cap k1 k2 k3 k4 k5 k6 ⟨C, T, k7, k8⟩ k9 k10
        have := own_post (e := elDot) (zs := insAt xs i ys) (X := X) (ax := some (.slice ad n c)) hW ⟨k2, k3, k4, k6, fun b hb => .inl (k1 b hb), fun _ => k5⟩ (fun b hb _ => k1 b hb) k7 k8 (by rw [hzl]; exact k9) hA2 k10 (fun o => (hW.none_new o).1) (fun o => (hW.none_new o).2) (.inl (Nat.le_refl _))
        rw [hzl] at this
        exact this
      rcases Nat.lt_or_ge i n with hlt | hge
      · rcases e5 with ⟨hc0, _⟩ | ⟨gb, rfl, rfl, ⟨cells, ty, hgc, hs, hcc⟩, hI, hO'⟩
        · omega
        have hgv : gb ≠ vb := by
          intro e; subst e
          obtain ⟨v, hv⟩ := hvI
          rw [hI vo] at hv; cases hv
        have hcc' : ∀ (j : Nat) (v : Value), cs[j]? = some v → w.cell? ⟨gb, 0 + j, none⟩ = some v := fun j v hj => by rw [cell_of hgc, Nat.zero_add]; exact hcc j v hj
        by_cases hroom : n + m ≤ c
        · have hsz : (n + m) * 2 ≤ cells.size := by rw [hs]; exact Nat.mul_le_mul_right 2 hroom
          have hshape : ∀ {b : Nat} {C : Array Value} {T : TypeId}, w.heap[b]? = some (.cells C T (0, 0)) → w.shape? b = some (T, C.size) := fun h => by simp only [World.shape?, h]
          refine Calls.mono (insDot_shift gb 0 n c i vb vo m vc cs vs w hlt hm0 hroom e3.2 (Ne.symm hgv) hcl hvl hcc' (fun j hj => by rw [cell_of hgc, Nat.zero_add, Array.getElem?_eq_getElem (by omega)]; rfl) (fun j hj => hfr _ hgc) hvc h1c h1v tA ty kA _ hsa (hshape hgc) hkA (fun o => hfr o hgc)) fun e' w' hh => ?_
          obtain ⟨rfl, rfl⟩ := hh
          obtain ⟨C1, q1, q2⟩ := setCells_block gb (cs.drop (i * 2)) (0 + (i + m) * 2) w.drew cells ty (0, 0) hgc
          obtain ⟨C2, q3, q4⟩ := setCells_block gb vs (0 + i * 2) _ C1 ty (0, 0) q1
          have hone : cnt gb [gb] = 1 := by simp [cnt]
          have hX1 : ∀ o, X gb o := htok gb (by simp only [cnt_append]; omega)
          have hold : ∀ b, b ≠ gb → ((w.drew.setCells gb (0 + (i + m) * 2) (cs.drop (i * 2))).setCells gb (0 + i * 2) vs).heap[b]? = w.heap[b]? := fun b hb => by
            rw [setCells_other gb _ _ _ b hb, setCells_other gb _ _ _ b hb]; rfl
          have hE1 := Evo.setCells (X := X) gb (cs.drop (i * 2)) (0 + (i + m) * 2) w.drew (fun j _ => hX1 _)
          have hE2 := Evo.setCells (X := X) gb vs (0 + i * 2) (w.drew.setCells gb (0 + (i + m) * 2) (cs.drop (i * 2))) (fun j _ => hX1 _)
          have := own_post (e := elDot) (zs := insAt xs i ys) (ax := some (.slice (some ⟨gb, 0, none⟩) n c)) (cap := c) (X := X) hW (w' := (w.drew.setCells gb (0 + (i + m) * 2) (cs.drop (i * 2))).setCells gb (0 + i * 2) vs) (g := gb) ?_ (fun b _ hb => hold b hb) q3 (by rw [q4, q2, hs]; rfl) (by rw [hzl]; exact ⟨hroom, e3.2⟩) hA2 (fun j v hj => ?_) hI hO' (.inr hX1)
          · rw [hzl] at this; exact this
          · exact (Evo.drew X w).trans (hE1.trans hE2 (fun _ _ _ h => h) (fun _ _ _ h => h)) (fun _ _ _ h => h) (fun _ _ _ h => h)
          · have := two_a (W := w.drew) (b := gb) (k := i * 2) (l := m * 2) (cs := cs) (vs := vs) (by omega) hvl (fun j hj => by show (w.cell? ⟨gb, j, none⟩).isSome = true; rw [cell_of hgc, Array.getElem?_eq_getElem (by omega)]; rfl) (fun j v _ hj => by show w.cell? ⟨gb, j, none⟩ = some v; rw [cell_of hgc]; exact hcc j v hj) j v hj
            rw [Nat.zero_add, Nat.zero_add, Nat.add_mul]; exact this
        · refine Calls.mono (insDot_grow gb 0 n c i vb vo m vc cs vs w hlt hm0 e3.1 (by omega) hbig hcl hvl hcc' hvc h1c h1v) fun e' w' hh => ?_
          obtain ⟨rfl, ROW, hRs, hRp, rfl⟩ := hh
          have hge := grownCap_ge w (n + m) c 54
          have hle := grownCap_le_maxLen w (n + m) c 54 (by unfold maxLen; omega)
          unfold maxLen at hle
          obtain ⟨cap, hcap⟩ : ∃ cap, cap = grownCap w (n + m) c 54 := ⟨_, rfl⟩
          rw [← hcap] at hge hle hRs ⊢
          have hnew : ((w.alloc (.cells ROW 54)).drew).heap[w.heap.size]? = some (.cells ROW 54 (0, 0)) := by show (w.heap.push _)[w.heap.size]? = _; simp
          obtain ⟨C1, q1, q2⟩ := setCells_block w.heap.size vs (i * 2) _ ROW 54 (0, 0) hnew
          obtain ⟨C2, q3, q4⟩ := setCells_block w.heap.size (cs.drop (i * 2)) ((i + m) * 2) (((w.alloc (.cells ROW 54)).drew.setCells w.heap.size (i * 2) vs).drew) C1 54 (0, 0) q1
          have hszs : ∀ (vs : List Value) (o : Nat) (W : World), (W.setCells w.heap.size o vs).heap.size = W.heap.size := fun vs o W => World.size_setCells _ vs o W
          refine fresh _ cap (fun b hb => ?_) (by rw [setCells_os]; exact setCells_os _ _ _ _) (by rw [setCells_tape]; exact setCells_tape _ _ _ _) (by rw [setCells_output]; exact setCells_output _ _ _ _) (by rw [setCells_drawn]; show _ ≤ (World.setCells _ _ _ _).drawn + 1; rw [setCells_drawn]; show w.drawn ≤ w.drawn + 1 + 1; omega) (by rw [hszs]; show _ ≤ (World.setCells _ _ _ _).heap.size; rw [hszs]; show _ ≤ (w.heap.push _).size; simp) ⟨C2, 54, q3, by rw [q4, q2, hRs]⟩ ⟨hge, hle⟩ (fun j v hj => ?_)
          · rw [setCells_other _ _ _ _ b (by omega)]
            show (World.setCells _ _ _ _).heap[b]? = _
            rw [setCells_other _ _ _ _ b (by omega)]
            show (w.heap.push _)[b]? = _
            rw [Array.getElem?_push_lt hb, Array.getElem?_eq_getElem hb]
          · have := two_b (W := (w.alloc (.cells ROW 54)).drew) (b := w.heap.size) (k := i * 2) (l := m * 2) (cs := cs) (vs := vs) (by omega) hvl (fun j hj => by
                rw [cell_of hnew, Array.getElem?_eq_getElem (by omega)]; rfl) (fun j v hj1 hj2 => by
                rw [cell_of hnew]; exact hRp j v (by rw [List.getElem?_take, if_pos hj1]; exact hj2)) j v hj
            rw [← drew_setCells, Nat.add_mul]; exact this
      · have hie : i = n := by omega
        subst hie
        by_cases hroom : i + m ≤ c
        · rcases e5 with ⟨hc0, _⟩ | ⟨gb, rfl, rfl, ⟨cells, ty, hgc, hs, hcc⟩, hI, hO'⟩
          · omega
          have hsz : (i + m) * 2 ≤ cells.size := by rw [hs]; exact Nat.mul_le_mul_right 2 hroom
          have hsome : ∀ j, j < (i + m) * 2 → (w.cell? ⟨gb, j, none⟩).isSome = true := fun j hj => by rw [cell_of hgc, Array.getElem?_eq_getElem (by omega)]; rfl
          refine Calls.mono (insDot_end_room gb 0 i c vb vo m vc vs w hm0 hroom e3.2 hvl (fun j hj => hsome _ (by omega)) (fun j hj => hfr _ hgc) hvc h1v) fun e' w' hh => ?_
          obtain ⟨rfl, rfl⟩ := hh
          obtain ⟨C2, q3, q4⟩ := setCells_block gb vs (0 + i * 2) w cells ty (0, 0) hgc
          have hone : cnt gb [gb] = 1 := by simp [cnt]
          have hX1 : ∀ o, X gb o := htok gb (by simp only [cnt_append]; omega)
          have := own_post (e := elDot) (zs := insAt xs i ys) (ax := some (.slice (some ⟨gb, 0, none⟩) i c)) (cap := c) (X := X) hW (w' := w.setCells gb (0 + i * 2) vs) (g := gb) (Evo.setCells (X := X) gb vs (0 + i * 2) w (fun j _ => hX1 _)) (fun b _ hb => setCells_other gb _ _ _ b hb) q3 (by rw [q4, hs]; rfl) (by rw [hzl]; exact ⟨hroom, e3.2⟩) hA2 (fun j v hj => ?_) hI hO' (.inr hX1)
          · rw [hzl] at this; exact this
          · have h0 : cs.drop (i * 2) = [] := List.drop_of_length_le (by omega)
            have := two_a (W := w) (b := gb) (k := i * 2) (l := m * 2) (cs := cs) (vs := vs) (by omega) hvl (fun j hj => hsome _ (by omega)) (fun j v _ hj => by rw [cell_of hgc]; exact hcc j v hj) j v hj
            rw [h0] at this
            rw [Nat.zero_add]; exact this
        · have hnil : ad = none → i = 0 := fun h => by
            rcases e5 with ⟨hc0, _⟩ | ⟨gb, h1, _⟩
            · omega
            · rw [h] at h1; cases h1
          have hold : ∀ a, ad = some a → ∀ (j : Nat) (v : Value), cs[j]? = some v → w.cell? (a.add j) = some v := fun a ha j v hj => by
            rcases e5 with ⟨hc0, _⟩ | ⟨gb, h1, _, ⟨cells, ty, hgc, hs, hcc⟩, hI, hO'⟩
            · have := (List.getElem?_eq_some_iff.1 hj).1; omega
            · rw [h1] at ha; injection ha with ha; subst ha
              rw [Addr.add_lit, cell_of hgc, Nat.zero_add]; exact hcc j v hj
          refine Calls.mono (insDot_end_grow ad i c vb vo m vc cs vs w hm0 e3.1 (by omega) hbig hcl hvl hnil hold hvc h1v) fun e' w' hh => ?_
          obtain ⟨rfl, ROW, hRs, hRp, rfl⟩ := hh
          have hge := grownCap_ge w (i + m) c 54
          have hle := grownCap_le_maxLen w (i + m) c 54 (by unfold maxLen; omega)
          unfold maxLen at hle
          obtain ⟨cap, hcap⟩ : ∃ cap, cap = grownCap w (i + m) c 54 := ⟨_, rfl⟩
          rw [← hcap] at hge hle hRs ⊢
          have hnew : (w.drew.alloc (.cells ROW 54)).heap[w.heap.size]? = some (.cells ROW 54 (0, 0)) := by show (w.heap.push _)[w.heap.size]? = _; simp
          refine fresh _ cap (fun b hb => ?_) rfl rfl rfl (by show w.drawn ≤ w.drawn + 1; omega) (by show _ ≤ (w.heap.push _).size; simp) ⟨ROW, 54, hnew, hRs⟩ ⟨hge, hle⟩ (fun j v hj => ?_)
          · show (w.heap.push _)[b]? = _
            rw [Array.getElem?_push_lt hb, Array.getElem?_eq_getElem hb]
          · have h0 : cs.drop (i * 2) = [] := List.drop_of_length_le (by omega)
            have h1 : cs.take (i * 2) = cs := List.take_of_length_le (by omega)
            rw [h0, h1, List.append_nil] at hj
            rw [cell_of hnew]; exact hRp j v hj
end Go.Proofs.YtbdfcbhnjdlabaaGreat.Pal
end
section
/- slices.Insert at Txn: the walk, and its contract. -/
namespace Go.Proofs.YtbdfcbhnjdlabaaGreat
open Go.Shelf Go.RowKit Go.Lib
set_option linter.unusedVariables false
set_option linter.unusedSimpArgs false
theorem iTxn : ∃ i z, Tryz.prog.info? 63 = some i ∧ i.zero = some z ∧ i.size = 6 ∧ i.bytes ≤ 16384 ∧ z.cells.size = 6 := okInfoK_spec (by kernel_rfl)
theorem uTxn : Tryz.prog.underlying 64 = some (.slice 63) := by kernel_rfl
theorem u3Txn : Tryz.prog.underlying 3 = some (.int .i64) := by kernel_rfl
theorem zTxn : ∀ w, (Go.sizeOf 63).run Tryz.prog w = .ok 6 w := fun w => by
  obtain ⟨i, z, h1, h2, h3, h4⟩ := iTxn
  simp [Go.sizeOf, typeInfo, h1, h3]
theorem sTxn : (Tryz.prog.info? 63).map (·.size) = some 6 := by
  obtain ⟨i, z, h1, h2, h3, h4⟩ := iTxn
  rw [h1]; simp [h3]
set_option maxHeartbeats 4000000 in
set_option maxRecDepth 100000 in
theorem insTxn_shift (b off n c i vb voff m vc : Nat) (cs vs : List Value) (w : World) (hi : i < n) (hm : 0 < m) (hroom : n + m ≤ c) (hc63 : c ≤ 9223372036854775807) (hvb : vb ≠ b)
    (hcl : cs.length = n * 6) (hvl : vs.length = m * 6)
    (hcs : ∀ j v, cs[j]? = some v → w.cell? ⟨b, off + j, none⟩ = some v) (hsp : ∀ j, j < (n + m) * 6 → (w.cell? ⟨b, off + j, none⟩).isSome = true) (hfz : ∀ j, j < (n + m) * 6 → w.frozen? ⟨b, off + j, none⟩ = false)
    (hvs : ∀ j v, vs[j]? = some v → w.cell? ⟨vb, voff + j, none⟩ = some v) (h1c : ∀ v ∈ cs, v.oneCell' = true) (h1v : ∀ v ∈ vs, v.oneCell' = true)
    (tA tB : TypeId) (kA kB : Nat) (hsa : w.shape? vb = some (tA, kA)) (hsb : w.shape? b = some (tB, kB)) (hkA : kA ≠ 0) (hfa : ∀ o, w.frozen? ⟨b, o, none⟩ = false) :
    Calls Tryz.prog 70 #[.slice (some ⟨b, off, none⟩) n c, .int .i64 i, .slice (some ⟨vb, voff, none⟩) m vc] w fun e w' =>
      e = .returned (.slice (some ⟨b, off, none⟩) (n + m) c) ∧ w' = (w.drew.setCells b (off + (i + m) * 6) (cs.drop (i * 6))).setCells b (off + i * 6) vs := by
  have hz1 : ¬ ((m : Int) = 0) := by omega
  have hz2 : ¬ ((i : Int) = (n : Int)) := by omega
  have hsz : (Tryz.prog.info? 63).map (·.size) = some 6 := sTxn
  have hov : ∀ lb cb, (callFunc 87 #[.slice (some ⟨vb, voff, none⟩) m vc, .slice (some ⟨b, off + (i + m) * 6, none⟩) lb cb]).run Tryz.prog w = .ok (.value (.bool false)) w := fun lb cb => by
    rw [run_callFunc_extern Tryz.func87 (by kernel_rfl) (by kernel_rfl) (by kernel_rfl) (e := Extern.SlicesOverlaps.overlaps #[64, 64] #[4]) (by kernel_rfl),
      overlaps_apart w 64 4 63 uTxn 6 zTxn ⟨vb, voff, none⟩ ⟨b, off + (i + m) * 6, none⟩ m vc lb cb hvb tA tB kA kB hsa hsb hkA (hfa _) (hfa _)]
    rfl
  have hdl : (cs.drop (i * 6)).length = (n - i) * 6 := by rw [List.length_drop, hcl]; omega
  have hw1 : IntKind.i64.wrap ((i : Int) + (m : Int)) = (i : Int) + (m : Int) := by rw [IntKind.wrap_i64]; omega
  have hb1 : (0 : Int) ≤ (i : Int) + (m : Int) := by omega
  have hin : i ≤ n := by omega
  have htn : ((i : Int) + (m : Int)).toNat = i + m := by omega
  have hb2 : ¬ (c = i + m) := by omega
  have hb3 : (i : Int) ≤ (n : Int) + (m : Int) := by omega
  have hb4 : ¬ (c = i) := by omega
  have hcp1 : ∀ ty dc sc, (Builtin.copy_ #[64, 64] ty #[.slice (some ⟨b, off + (i + m) * 6, none⟩) (n + m - (i + m)) dc, .slice (some ⟨b, off + i * 6, none⟩) (n + m - i) sc]).run Tryz.prog w.drew = .ok (goInt (n - i : Nat)) (w.drew.setCells b (off + (i + m) * 6) (cs.drop (i * 6))) := fun ty dc sc =>
    run_copy_k 6 w.drew _ _ ty 63 b (off + (i + m) * 6) (n + m - (i + m)) dc ⟨b, off + i * 6, none⟩ (n + m - i) sc (cs.drop (i * 6)) uTxn hsz (n - i) (by simp only [Nat.min_def]; split <;> omega) hdl
      (fun j v hj => by rw [Addr.add_lit, Nat.add_assoc]; exact hcs (i * 6 + j) v (by rwa [List.getElem?_drop] at hj))
      (fun j hj => by rw [Nat.add_assoc]; exact hsp _ (by omega)) (fun j hj => by rw [Nat.add_assoc]; exact hfz _ (by omega)) (fun v hv => h1c v (List.mem_of_mem_drop hv))
  obtain ⟨W1, hW1⟩ : ∃ W1, W1 = w.drew.setCells b (off + (i + m) * 6) (cs.drop (i * 6)) := ⟨_, rfl⟩
  have hsp1 : ∀ k, k < (n + m) * 6 → (W1.cell? ⟨b, off + k, none⟩).isSome = true := fun k hk => by
    rw [hW1]
    exact isSome_setCells b _ _ _ (fun j hj => by rw [Nat.add_assoc]; exact hsp _ (by omega)) _ (hsp k hk)
  have hcp2 : ∀ (W : World), (∀ x, W.cell? x = W1.cell? x) → (∀ x, W.frozen? x = W1.frozen? x) → ∀ ty dc, (Builtin.copy_ #[64, 64] ty #[.slice (some ⟨b, off + i * 6, none⟩) (n + m - i) dc, .slice (some ⟨vb, voff, none⟩) m vc]).run Tryz.prog W = .ok (goInt (m : Nat)) (W.setCells b (off + i * 6) vs) := fun W hWc hWf ty dc =>
    run_copy_k 6 W _ _ ty 63 b (off + i * 6) (n + m - i) dc ⟨vb, voff, none⟩ m vc vs uTxn hsz m (by simp only [Nat.min_def]; split <;> omega) hvl
      (fun j v hj => by
        rw [Addr.add_lit, hWc, hW1, World.cell?_setCells_out b _ _ _ _ (fun h _ => absurd h hvb)]
        exact hvs j v hj)
      (fun j hj => by rw [hWc, Nat.add_assoc]; exact hsp1 _ (by omega)) (fun j hj => by rw [hWf, hW1, World.frozen?_setCells, Nat.add_assoc]; exact hfz _ (by omega)) h1v
  rw [← hW1] at hcp1
  have mixed : Tryz.prog.follows .mixedOrders = true := by kernel_rfl
  go_enter Tryz.func70, Tryz.ntmps70
  go_wp2_with (simp only [hov])
  go_region_law_o (refine step_copy_runI rfl _ _ 64 64 rfl _ _ (by simp [Act.eval, Act.put]) (by simp [Act.eval, Act.put]) (hcp1 _ _ _) ?_)
  go_wp2_with (at_builtin; refine wpList_copy_runI _ rfl _ _ 64 64 rfl _ _ rfl rfl (hcp2 _ (fun _ => rfl) (fun _ => rfl) _ _) ?_)
  go_ret
  first | exact ⟨rfl, rfl⟩ | exact ⟨rfl, by rw [hW1]⟩

set_option maxHeartbeats 4000000 in
set_option maxRecDepth 100000 in
theorem insTxn_end_room (b off n c vb voff m vc : Nat) (vs : List Value) (w : World) (hm : 0 < m) (hroom : n + m ≤ c) (hc63 : c ≤ 9223372036854775807)
    (hvl : vs.length = m * 6) (hsp : ∀ j, j < m * 6 → (w.cell? ⟨b, off + n * 6 + j, none⟩).isSome = true) (hfz : ∀ j, j < m * 6 → w.frozen? ⟨b, off + n * 6 + j, none⟩ = false)
    (hvs : ∀ j v, vs[j]? = some v → w.cell? ⟨vb, voff + j, none⟩ = some v) (h1v : ∀ v ∈ vs, v.oneCell' = true) :
    Calls Tryz.prog 70 #[.slice (some ⟨b, off, none⟩) n c, .int .i64 n, .slice (some ⟨vb, voff, none⟩) m vc] w fun e w' =>
      e = .returned (.slice (some ⟨b, off, none⟩) (n + m) c) ∧ w' = w.setCells b (off + n * 6) vs := by
  have hz1 : ¬ ((m : Int) = 0) := by omega
  obtain ⟨i0, z0, hi0, hz0, hzs, hzb, hzc⟩ := iTxn
  have hsrc : Src Tryz.prog i0.size 64 (.slice (some ⟨vb, voff, none⟩) m vc) m vs w := by
   rw [hzs]
   exact Src.ofSlice w uTxn ⟨vb, voff, none⟩ m vc vs (by omega) (fun j u hj => by rw [Addr.add_lit]; exact hvs j u hj) h1v
  go_enter Tryz.func70, Tryz.ntmps70
  go_wp2_with (at_builtin; refine wpList_append_room_src _ rfl _ _ 64 64 rfl 63 i0 uTxn hi0 b off n c rfl _ rfl m vs hsrc hroom (by rw [hvl, hzs]; exact hsp) (by rw [hvl, hzs]; exact hfz) ?_)
  go_ret
  exact ⟨rfl, rfl⟩

set_option maxHeartbeats 4000000 in
set_option maxRecDepth 100000 in
theorem insTxn_end_grow (base : Option Addr) (n c vb voff m vc : Nat) (cs vs : List Value) (w : World) (hm : 0 < m) (hnc : n ≤ c) (hroom : c < n + m) (hbig : n + m ≤ 4294967296)
    (hcl : cs.length = n * 6) (hvl : vs.length = m * 6) (hnil : base = none → n = 0)
    (hcs : ∀ a, base = some a → ∀ (j : Nat) (v : Value), cs[j]? = some v → w.cell? (a.add j) = some v)
    (hvs : ∀ j v, vs[j]? = some v → w.cell? ⟨vb, voff + j, none⟩ = some v) (h1v : ∀ v ∈ vs, v.oneCell' = true) :
    Calls Tryz.prog 70 #[.slice base n c, .int .i64 n, .slice (some ⟨vb, voff, none⟩) m vc] w fun e w' =>
      e = .returned (.slice (some ⟨w.heap.size, 0, none⟩) (n + m) (grownCap w (n + m) c 63)) ∧
      ∃ ROW : Array Value, ROW.size = grownCap w (n + m) c 63 * 6 ∧ (∀ (j : Nat) (v : Value), (cs ++ vs)[j]? = some v → ROW[j]? = some v) ∧ w' = w.drew.alloc (.cells ROW 63) := by
  obtain ⟨i0, z0, hi0, hz0, hzs, hzb, hzc⟩ := iTxn
  have hz1 : ¬ ((m : Int) = 0) := by omega
  have hsrc : Src Tryz.prog i0.size 64 (.slice (some ⟨vb, voff, none⟩) m vc) m vs w := by
    rw [hzs]
    exact Src.ofSlice w uTxn ⟨vb, voff, none⟩ m vc vs (by omega) (fun j u hj => by rw [Addr.add_lit]; exact hvs j u hj) h1v
  have hold : (Builtin.firstCells i0.size n (.slice base n c)).run Tryz.prog w.drew =   .ok cs.toArray w.drew := by
    rw [hzs]
    cases base with
    | none =>
      have h0 := hnil rfl
      subst h0
      rw [List.length_eq_zero_iff.1 hcl]
      exact run_firstCells_none w.drew 6 0 0 c
    | some a => exact run_firstCells_some w.drew 6 n a n c cs (by omega) (fun j v hj => hcs a rfl j v hj)
  have hge := grownCap_ge w (n + m) c 63
  obtain ⟨ROW, hROW⟩ : ∃ ROW : Array Value, ROW = (cs ++ vs).toArray ++ Builtin.zeroCells z0.cells (grownCap w (n + m) c 63 - (n + m)) := ⟨_, rfl⟩
  have hRs : ROW.size = grownCap w (n + m) c 63 * 6 := by rw [hROW]; simp [Builtin.zeroCells, hzc, hcl, hvl]; omega
  have hRp : ∀ (j : Nat) (v : Value), (cs ++ vs)[j]? = some v → ROW[j]? = some v := fun j v hj => by
    have := (List.getElem?_eq_some_iff.1 hj).1
    rw [hROW, Array.getElem?_append_left (by simpa using this)]
    simpa using hj
  have hrun : ∀ ty, (Builtin.append_ #[64, 64] ty #[.slice base n c, .slice (some ⟨vb, voff, none⟩) m vc]).run Tryz.prog w = .ok (.slice (some ⟨w.heap.size, 0, none⟩) (n + m) (grownCap w (n + m) c 63)) (w.drew.alloc (.cells ROW 63)) := fun ty => by
    rw [hROW]
    exact run_append_grow_src w 64 64 ty 63 i0 z0 uTxn hi0 hz0 base n c cs hold _ m vs hsrc hroom (by omega) (by have := Nat.mul_le_mul hbig hzb; exact growslice_fits hroom (by omega))
  clear hROW
  obtain ⟨G, hG⟩ : ∃ G, G = grownCap w (n + m) c 63 := ⟨_, rfl⟩
  rw [← hG] at hrun hRs ⊢
  clear hG hge
  go_enter Tryz.func70, Tryz.ntmps70
  cases base with
  | none =>
    have h0 := hnil rfl
    subst h0
    go_wp2_with (at_builtin; refine Lib.wpList_append_run _ rfl _ _ _ _ rfl _ _ rfl rfl _ _ (hrun _) ?_)
    go_ret
    exact ⟨rfl, ROW, hRs, hRp, rfl⟩
  | some a =>
    obtain ⟨ab, ao, asp⟩ := a
    go_wp2_with (at_builtin; refine Lib.wpList_append_run _ rfl _ _ _ _ rfl _ _ rfl rfl _ _ (hrun _) ?_)
    all_goals (go_ret; exact ⟨rfl, ROW, hRs, hRp, rfl⟩)

set_option maxHeartbeats 4000000 in
set_option maxRecDepth 100000 in
theorem insTxn_grow (b off n c i vb voff m vc : Nat) (cs vs : List Value) (w : World) (hi : i < n) (hm : 0 < m) (hnc : n ≤ c) (hroom : c < n + m) (hbig : n + m ≤ 4294967296)
    (hcl : cs.length = n * 6) (hvl : vs.length = m * 6)
    (hcs : ∀ j v, cs[j]? = some v → w.cell? ⟨b, off + j, none⟩ = some v)
    (hvs : ∀ j v, vs[j]? = some v → w.cell? ⟨vb, voff + j, none⟩ = some v) (h1c : ∀ v ∈ cs, v.oneCell' = true) (h1v : ∀ v ∈ vs, v.oneCell' = true) :
    Calls Tryz.prog 70 #[.slice (some ⟨b, off, none⟩) n c, .int .i64 i, .slice (some ⟨vb, voff, none⟩) m vc] w fun e w' =>
      e = .returned (.slice (some ⟨w.heap.size, 0, none⟩) (n + m) (grownCap w (n + m) c 63)) ∧
      ∃ ROW : Array Value, ROW.size = grownCap w (n + m) c 63 * 6 ∧ (∀ (j : Nat) (v : Value), (cs.take (i * 6))[j]? = some v → ROW[j]? = some v) ∧
        w' = (((w.alloc (.cells ROW 63)).drew.setCells w.heap.size (i * 6) vs).drew).setCells w.heap.size ((i + m) * 6) (cs.drop (i * 6)) := by
  obtain ⟨i0, z0, hi0, hz0, hzs, hzb, hzc⟩ := iTxn
  have hz1 : ¬ ((m : Int) = 0) := by omega
  have hz2 : ¬ ((i : Int) = (n : Int)) := by omega
  have hz3 : (c : Int) < (n : Int) + (m : Int) := by omega
  have hsz : (Tryz.prog.info? 63).map (·.size) = some 6 := sTxn
  have hbw : b < w.heap.size := block_lt_of_cell (hcs 0 _ (List.getElem?_eq_getElem (by omega)))
  have hvw : vb < w.heap.size := block_lt_of_cell (hvs 0 _ (List.getElem?_eq_getElem (by omega)))
  have hkk : (n : Int) + (m : Int) - (i : Int) = ((n + m - i : Nat) : Int) := by omega
  have hik : i + (n + m - i) = n + m := by omega
  have hold : (Builtin.firstCells i0.size i (.slice (some ⟨b, off, none⟩) i c)).run Tryz.prog w.drew = .ok (cs.take (i * 6)).toArray w.drew := by
    rw [hzs]
    exact run_firstCells_some w.drew 6 i ⟨b, off, none⟩ i c (cs.take (i * 6)) (by rw [List.length_take]; omega) (fun j v hj => by
      rw [Addr.add_lit]
      rw [List.getElem?_take] at hj
      split at hj
      · exact hcs j v hj
      · cases hj)
  have hrz : ∀ ty, (Builtin.append_ #[64, 3] ty #[.slice (some ⟨b, off, none⟩) i c, .int .i64 ((n : Int) + (m : Int) - (i : Int))]).run Tryz.prog w =
      .ok (.slice (some ⟨w.heap.size, 0, none⟩) (n + m) (grownCap w (n + m) c 63)) (w.drew.alloc (.cells ((cs.take (i * 6)).toArray ++ Builtin.zeroCells z0.cells (n + m - i) ++ Builtin.zeroCells z0.cells (grownCap w (n + m) c 63 - (n + m))) 63)) := fun ty => by
    have h := Lib.run_append_grow_zeros w 64 3 ty 63 i0 z0 .i64 .i64 uTxn u3Txn hi0 hz0 (some ⟨b, off, none⟩) i c (cs.take (i * 6)) hold (n + m - i) (by omega) (by omega) (by omega) (by omega) (by have := Nat.mul_le_mul (show n + m - i ≤ 4294967296 by omega) hzb; omega) (by rw [hik]; have := Nat.mul_le_mul hbig hzb; exact growslice_fits hroom (by omega))
    rw [hik] at h
    rw [hkk]
    exact h
  obtain ⟨G, hG⟩ : ∃ G, G = grownCap w (n + m) c 63 := ⟨_, rfl⟩
  obtain ⟨ROW, hROW⟩ : ∃ ROW : Array Value, ROW = (cs.take (i * 6)).toArray ++ Builtin.zeroCells z0.cells (n + m - i) ++ Builtin.zeroCells z0.cells (G - (n + m)) := ⟨_, rfl⟩
  rw [← hG] at hrz ⊢
  rw [← hROW] at hrz
  have hRl : (n + m) * 6 ≤ ROW.size := by
    rw [hROW]
    simp [Builtin.zeroCells, hzc, hcl]
    omega
  obtain ⟨W1, hW1⟩ : ∃ W1, W1 = w.drew.alloc (.cells ROW 63) := ⟨_, rfl⟩
  rw [← hW1] at hrz
  have hN : ∀ j, j < (n + m) * 6 → (W1.cell? ⟨w.heap.size, j, none⟩).isSome = true := fun j hj => by
    rw [hW1, World.cell?_alloc_at (w := w.drew) ROW _ w.heap.size j rfl, Array.getElem?_eq_getElem (by omega)]; rfl
  have hNf : ∀ j, W1.frozen? ⟨w.heap.size, j, none⟩ = false := fun j => by rw [hW1]; exact World.frozen?_alloc_at (w := w.drew) ROW _ w.heap.size j rfl
  have hOb : ∀ j v, w.cell? ⟨b, j, none⟩ = some v → W1.cell? ⟨b, j, none⟩ = some v := fun j v h => by rw [hW1, World.cell?_alloc_past (w := w.drew) _ b j hbw]; exact h
  have hOv : ∀ j v, w.cell? ⟨vb, j, none⟩ = some v → W1.cell? ⟨vb, j, none⟩ = some v := fun j v h => by rw [hW1, World.cell?_alloc_past (w := w.drew) _ vb j hvw]; exact h
  have hcpA : ∀ (W : World), (∀ x, W.cell? x = W1.cell? x) → (∀ x, W.frozen? x = W1.frozen? x) → ∀ ty dc, (Builtin.copy_ #[64, 64] ty #[.slice (some ⟨w.heap.size, i * 6, none⟩) (n + m - i) dc, .slice (some ⟨vb, voff, none⟩) m vc]).run Tryz.prog W = .ok (goInt (m : Nat)) (W.setCells w.heap.size (i * 6) vs) := fun W hWc hWf ty dc =>
    run_copy_k 6 W _ _ ty 63 w.heap.size (i * 6) (n + m - i) dc ⟨vb, voff, none⟩ m vc vs uTxn hsz m (by simp only [Nat.min_def]; split <;> omega) hvl
      (fun j v hj => by rw [Addr.add_lit, hWc]; exact hOv _ v (hvs j v hj))
      (fun j hj => by rw [hWc]; exact hN _ (by omega)) (fun j hj => by rw [hWf]; exact hNf _) h1v
  have hRp : ∀ (j : Nat) (v : Value), (cs.take (i * 6))[j]? = some v → ROW[j]? = some v := fun j v hj => by
    have := (List.getElem?_eq_some_iff.1 hj).1
    rw [hROW, Array.getElem?_append_left (by simp at this ⊢; omega), Array.getElem?_append_left (by simpa using this)]
    simpa using hj
  have hGn : n + m ≤ G := by rw [hG]; exact grownCap_ge w _ _ _
  have hG63 : G ≤ 9223372036854775807 := by
    have := grownCap_le_maxLen w (n + m) c 63 (by unfold maxLen; omega)
    rw [← hG] at this
    unfold maxLen at this
    omega
  have hGi : ¬ (G = i) := by omega
  have hGim : ¬ (G = i + m) := by omega
  have hci : ¬ (c = i) := by omega
  have hbN : b ≠ w.heap.size := by omega
  have hdl : (cs.drop (i * 6)).length = (n - i) * 6 := by rw [List.length_drop, hcl]; omega
  have hcpB : ∀ (W : World), (∀ x, W.cell? x = (W1.setCells w.heap.size (i * 6) vs).cell? x) → (∀ x, W.frozen? x = (W1.setCells w.heap.size (i * 6) vs).frozen? x) → ∀ ty dc sc, (Builtin.copy_ #[64, 64] ty #[.slice (some ⟨w.heap.size, (i + m) * 6, none⟩) (n + m - (i + m)) dc, .slice (some ⟨b, off + i * 6, none⟩) (n - i) sc]).run Tryz.prog W = .ok (goInt (n - i : Nat)) (W.setCells w.heap.size ((i + m) * 6) (cs.drop (i * 6))) := fun W hWc hWf ty dc sc =>
    run_copy_k 6 W _ _ ty 63 w.heap.size ((i + m) * 6) (n + m - (i + m)) dc ⟨b, off + i * 6, none⟩ (n - i) sc (cs.drop (i * 6)) uTxn hsz (n - i) (by simp only [Nat.min_def]; split <;> omega) hdl
      (fun j v hj => by
        rw [Addr.add_lit, hWc, World.cell?_setCells_out _ _ _ _ _ (fun h _ => absurd h hbN), Nat.add_assoc]
        exact hOb _ v (hcs (i * 6 + j) v (by rwa [List.getElem?_drop] at hj)))
      (fun j hj => by rw [hWc]; exact isSome_setCells _ _ _ _ (fun t ht => hN _ (by omega)) _ (hN _ (by omega)))
      (fun j hj => by rw [hWf, World.frozen?_setCells]; exact hNf _) (fun v hv => h1c v (List.mem_of_mem_drop hv))
  subst hW1
  have hE1 : ∀ x, ((w.alloc (.cells ROW 63)).drew).cell? x = (w.drew.alloc (.cells ROW 63)).cell? x := fun x => rfl
  have hE2 : ∀ x, ((w.alloc (.cells ROW 63)).drew).frozen? x = (w.drew.alloc (.cells ROW 63)).frozen? x := fun x => rfl
  have hF1 : ∀ x, (((w.alloc (.cells ROW 63)).drew.setCells w.heap.size (i * 6) vs).drew).cell? x = ((w.drew.alloc (.cells ROW 63)).setCells w.heap.size (i * 6) vs).cell? x := fun x => rfl
  have hF2 : ∀ x, (((w.alloc (.cells ROW 63)).drew.setCells w.heap.size (i * 6) vs).drew).frozen? x = ((w.drew.alloc (.cells ROW 63)).setCells w.heap.size (i * 6) vs).frozen? x := fun x => rfl
  have hw1 : IntKind.i64.wrap ((i : Int) + (m : Int)) = (i : Int) + (m : Int) := by rw [IntKind.wrap_i64]; omega
  have hb1 : (0 : Int) ≤ (i : Int) + (m : Int) := by omega
  have hin : i ≤ n := by omega
  have htn : ((i : Int) + (m : Int)).toNat = i + m := by omega
  have hb3 : (i : Int) ≤ (n : Int) := by omega
  have hRs : ROW.size = G * 6 := by rw [hROW]; simp [Builtin.zeroCells, hzc, hcl]; omega
  clear hkk hik hold hROW hG hRl
  have mixed : Tryz.prog.follows .mixedOrders = true := by kernel_rfl
  go_enter Tryz.func70, Tryz.ntmps70
  go_wp2_with (first
    | (at_builtin; refine Lib.wpList_append_run _ rfl _ _ _ _ rfl _ _ rfl rfl _ _ (hrz _) ?_)
    | (at_builtin; refine wpList_copy_runI _ rfl _ _ 64 64 rfl _ _ rfl rfl (hcpA _ hE1 hE2 _ _) ?_)
    | (at_builtin; refine wpList_copy_runI _ rfl _ _ 64 64 rfl _ _ rfl rfl (hcpB _ (fun _ => rfl) (fun _ => rfl) _ _ _) ?_))
  go_region_law_o (refine step_copy_runI rfl _ _ 64 64 rfl (.slice (some ⟨w.heap.size, (i + m) * 6, none⟩) (n + m - (i + m)) (G - (i + m))) (.slice (some ⟨b, off + i * 6, none⟩) (n - i) (c - i)) (by simp [Act.eval, Act.put]) (by simp [Act.eval, Act.put]) (hcpB _ hF1 hF2 3 (G - (i + m)) (c - i)) ?_)
  go_wp2
  go_ret
  exact ⟨rfl, ROW, hRs, hRp, rfl⟩


set_option maxHeartbeats 4000000 in
set_option maxRecDepth 100000 in
theorem insTxn_none (a : Option Addr) (n c i : Nat) (y : Option Addr) (vc : Nat) (w : World) (hi : i ≤ n) (hn : n ≤ c) (hc : c ≤ 9223372036854775807) :
    Calls Tryz.prog 70 #[.slice a n c, .int .i64 i, .slice y 0 vc] w fun e w' => e = .returned (.slice a n c) ∧ w' = w := by
  have h1 : (i : Int) ≤ (n : Int) := by omega
  go_enter Tryz.func70, Tryz.ntmps70
  cases a with
  | none =>
    go_wp2
    all_goals (go_ret; exact ⟨rfl, rfl⟩)
  | some a =>
    obtain ⟨ab, ao, asp⟩ := a
    go_wp2
    all_goals (go_ret; exact ⟨rfl, rfl⟩)
end Go.Proofs.YtbdfcbhnjdlabaaGreat
namespace Go.Proofs.YtbdfcbhnjdlabaaGreat.Pal
open Go Go.Sort
@[reducible] def elTxn : Ty := (.pair (.pair (.int .i64) (.int .i64)) (.pair (.int .i64) (.pair (.int .i64) (.pair .bool (.slc (.pair (.int .i64) (.pair (.slc .str) (.pair (.pair (.int .i64) (.pair (.int .i64) .str)) (.pair (.int .i64) (.slc (.pair (.pair (.int .i64) (.int .i64)) (.int .i64))))))))))))
theorem insTxn_ok : CallOK Tryz.prog 70 (insE elTxn) := by
  have eF : ∀ args w, (callFunc 70 args).run Tryz.prog w = .ok (.enter 70 args) w := enters_of Tryz.func70 (by kernel_rfl) rfl
  have val : ∀ args objs v os, (insE elTxn).val args objs = some (v, os) → ∃ (xs ys : List elTxn.D) (i : Int) (va : V), args = [.raw elTxn xs, .dat (.int .i64) i, va] ∧ V.as (.slc elTxn) va = some ys ∧ objs = [] ∧ (0 ≤ i ∧ i ≤ xs.length) ∧ xs.length + ys.length ≤ 4294967296 ∧ v = .own elTxn (insAt xs i ys) ∧ os = [] := by
    intro args objs v os h
    unfold Entry.val insE at h
    simp only at h
    split at h
    · rename_i e' xs i va
      split at h
      · rename_i he; subst he
        rw [Option.bind_eq_some_iff] at h
        obtain ⟨ys, hys, h⟩ := h
        obtain ⟨hb, h⟩ := br_then h
        obtain ⟨hr, h⟩ := br_then h
        injection h with h; injection h with h1 h2
        obtain ⟨_, i1, i2⟩ := inS_spec hb
        exact ⟨xs, ys, i, va, rfl, hys, rfl, ⟨i1, i2⟩, room_spec hr, h1.symm, h2.symm⟩
      · cases h
    · cases h
  refine ⟨fun α args objs K => ?_, fun args objs vr os hval X G w argv tA tM hW hTab hX hA hM hcnt htok => ?_⟩
  · unfold Entry.val insE
    simp only
    split
    · split
      · rename_i va _
        cases V.as (.slc elTxn) va with
        | none => rfl
        | some ys => simp only [Option.bind_some]; rw [br_bind, br_bind]; rfl
      · rfl
    · rfl
  · obtain ⟨xs, ys, ii, va, rfl, hva, rfl, ⟨hi0, hi1⟩, hlen, rfl, rfl⟩ := val _ _ _ _ hval
    obtain ⟨i, rfl⟩ : ∃ i : Nat, ii = (i : Int) := ⟨ii.toNat, by omega⟩
    have hin : i ≤ xs.length := by omega
    obtain ⟨x0, r0, t1, t2, rfl, rfl, ⟨cs0, ⟨ad, n, c, e1, e2, e3, e4⟩, hx⟩, x1, r1, t3, t4, rfl, rfl, ⟨cs1, ⟨f1, f2⟩, hx1⟩, x2, r2, t5, t6, rfl, rfl, hx2, rfl, rfl⟩ := hA
    obtain ⟨ad2, m, vc, rfl, g2, g3, g4⟩ := (TRep.as_ hva hx2).slc
    simp only [V.agg, Bool.false_eq_true, if_false] at hx hx1
    rw [e1] at hx
    have f1 : cs1 = [.int .i64 i] := f1
    rw [f1] at hx1
    simp only [Ty.agg, Bool.false_eq_true, if_false, List.cons.injEq, and_true] at hx hx1
    subst hx; subst hx1; subst f2
    obtain ⟨hM1, hM2⟩ : tM = [] ∧ True := ⟨hM, trivial⟩
    obtain ⟨cs, hAc, e5⟩ : ∃ cs, All2 (DRep G.I elTxn) xs cs ∧ ((c = 0 ∧ t1 = []) ∨ ∃ gb, ad = some ⟨gb, 0, none⟩ ∧ t1 = [gb] ∧ (∃ cells ty, w.heap[gb]? = some (.cells cells ty (0, 0)) ∧ cells.size = c * 6 ∧ ∀ (j : Nat) (v : Value), cs[j]? = some v → cells[j]? = some v) ∧ (∀ o, G.I gb o = none) ∧ ∀ o, G.O gb o = none) := by
      rcases e4 with ⟨hc0, ht⟩ | ⟨gb, h1, h2, ⟨cells, ty, cc, hgc, hs, hAc, hcc⟩, hI, hO'⟩
      · have : xs = [] := List.eq_nil_of_length_eq_zero (by omega)
        subst this
        exact ⟨[], rfl, .inl ⟨hc0, ht⟩⟩
      · exact ⟨cc, hAc, .inr ⟨gb, h1, h2, ⟨cells, ty, hgc, hs, hcc⟩, hI, hO'⟩⟩
    have hia : (insAt xs (i : Int) ys) = xs.take i ++ (ys ++ xs.drop i) := rfl
    have hzl : (insAt xs (i : Int) ys).length = n + m := by rw [hia]; simp [← e2, ← g2]; omega
    have hcl : cs.length = n * 6 := by rw [← e2]; exact hAc.len
    obtain ⟨hAt, hAd⟩ := All2.split (sz := 6) (fun x c h => DRep.length elTxn x c h) xs cs i hin hAc
    have h1c : ∀ v ∈ cs, v.oneCell' = true := all2_plain xs cs hAc
    refine .inl ⟨eF _ _, ?_⟩
    have hfr : ∀ {b : Nat} {C : Array Value} {T : TypeId} (o : Nat), w.heap[b]? = some (.cells C T (0, 0)) → w.frozen? ⟨b, o, none⟩ = false := fun o h => by simp only [World.frozen?, h]; simp
    rcases Nat.eq_zero_or_pos m with hm0 | hm0
    · have hys : ys = [] := List.eq_nil_of_length_eq_zero (by omega)
      subst hys; subst hm0
      have hxx : insAt xs (i : Int) [] = xs := by rw [hia]; simp
      rw [hxx] at hzl ⊢
      refine Calls.mono (insTxn_none ad n c i ad2 vc w (by omega) e3.1 e3.2) fun e' w' hh => ?_
      obtain ⟨rfl, rfl⟩ := hh
      rcases e5 with ⟨hc0, rfl⟩ | ⟨gb, rfl, rfl, ⟨cells, ty, hgc, hs, hcc⟩, hI, hO'⟩
      · exact ⟨G, Ev.refl _ _ _, hW, fun _ _ => rfl, [], [], [], ⟨_, ⟨ad, n, c, rfl, e2, e3, .inl ⟨hc0, rfl⟩⟩, rfl⟩, rfl, rfl, fun q => by simp, fun q hq => by simp at hq⟩
      · have hone : cnt gb [gb] = 1 := by simp [cnt]
        have hX1 : ∀ o, X gb o := htok gb (by simp only [cnt_append]; omega)
        have := own_post (e := elTxn) (zs := xs) (ax := some (.slice (some ⟨gb, 0, none⟩) n c)) hW (Evo.refl X w') (fun _ _ _ => rfl) hgc hs (by rw [e2]; exact e3) hAc (fun j v hj => by rw [cell_of hgc]; exact hcc j v hj) hI hO' (.inr hX1)
        rw [e2] at this
        exact this
    · rcases g4 with hy0 | ⟨vb, vo, rfl, hel⟩
      · subst hy0; simp at g2; omega
      obtain ⟨vs, hvA, hvat⟩ := Elems.all2 (fun x c => DRep.length elTxn x c) ys vb vo hel
      have hvl : vs.length = m * 6 := by rw [← g2]; exact hvA.len
      have h1v : ∀ v ∈ vs, v.oneCell' = true := all2_plain ys vs hvA
      have hA2 : All2 (DRep G.I elTxn) (insAt xs (i : Int) ys) (cs.take (i * 6) ++ (vs ++ cs.drop (i * 6))) := by
        rw [hia]; exact All2.append _ _ _ _ hAt (All2.append _ _ _ _ hvA hAd)
      have hvc : ∀ (j : Nat) (v : Value), vs[j]? = some v → w.cell? ⟨vb, vo + j, none⟩ = some v := fun j v hj => hW.holds vb _ v (hvat j v hj)
      have hvI : ∃ v, G.I vb vo = some v := ⟨_, by have := hvat 0 vs[0] (List.getElem?_eq_getElem (by omega)); simpa using this⟩
      obtain ⟨kA, tA, hkA, hsa⟩ : ∃ kA tA, kA ≠ 0 ∧ w.shape? vb = some (tA, kA) := by
        obtain ⟨v, hv⟩ := hvI
        have h := hW.holds vb vo v hv
        unfold World.cell? at h
        split at h
        · rename_i C T fr hb
          simp only [Option.isSome_none, Bool.false_eq_true, if_false] at h
          exact ⟨C.size, T, by have := (Array.getElem?_eq_some_iff.1 h).1; omega, by have hb' : w.heap[vb]? = some (.cells C T fr) := hb; simp only [World.shape?, hb']⟩
        · cases h
      have hbig : n + m ≤ 4294967296 := by omega
      have fresh : ∀ w' (cap : Nat), (∀ b, b < w.heap.size → w'.heap[b]? = w.heap[b]?) → w'.os = w.os → w'.tape = w.tape → w'.output = w.output → w.drawn ≤ w'.drawn → w.heap.size ≤ w'.heap.size → (∃ C T, w'.heap[w.heap.size]? = some (.cells C T (0, 0)) ∧ C.size = cap * 6) → (n + m ≤ cap ∧ cap ≤ 9223372036854775807) →
          (∀ (j : Nat) (v : Value), (cs.take (i * 6) ++ (vs ++ cs.drop (i * 6)))[j]? = some v → w'.cell? ⟨w.heap.size, j, none⟩ = some v) →
          ∃ G', Post X G w 0 (.own elTxn (insAt xs i ys)) [] (.slice (some ⟨w.heap.size, 0, none⟩) (n + m) cap) (some (.slice ad n c)) G' w' := by
        intro w' cap k1 k2 k3 k4 k5 k6 ⟨C, T, k7, k8⟩ k9 k10
        have := own_post (e := elTxn) (zs := insAt xs i ys) (X := X) (ax := some (.slice ad n c)) hW ⟨k2, k3, k4, k6, fun b hb => .inl (k1 b hb), fun _ => k5⟩ (fun b hb _ => k1 b hb) k7 k8 (by rw [hzl]; exact k9) hA2 k10 (fun o => (hW.none_new o).1) (fun o => (hW.none_new o).2) (.inl (Nat.le_refl _))
        rw [hzl] at this
        exact this
      rcases Nat.lt_or_ge i n with hlt | hge
      · rcases e5 with ⟨hc0, _⟩ | ⟨gb, rfl, rfl, ⟨cells, ty, hgc, hs, hcc⟩, hI, hO'⟩
        · omega
        have hgv : gb ≠ vb := by
          intro e; subst e
          obtain ⟨v, hv⟩ := hvI
          rw [hI vo] at hv; cases hv
        have hcc' : ∀ (j : Nat) (v : Value), cs[j]? = some v → w.cell? ⟨gb, 0 + j, none⟩ = some v := fun j v hj => by rw [cell_of hgc, Nat.zero_add]; exact hcc j v hj
        by_cases hroom : n + m ≤ c
        · have hsz : (n + m) * 6 ≤ cells.size := by rw [hs]; exact Nat.mul_le_mul_right 6 hroom
          have hshape : ∀ {b : Nat} {C : Array Value} {T : TypeId}, w.heap[b]? = some (.cells C T (0, 0)) → w.shape? b = some (T, C.size) := fun h => by simp only [World.shape?, h]
          refine Calls.mono (insTxn_shift gb 0 n c i vb vo m vc cs vs w hlt hm0 hroom e3.2 (Ne.symm hgv) hcl hvl hcc' (fun j hj => by rw [cell_of hgc, Nat.zero_add, Array.getElem?_eq_getElem (by omega)]; rfl) (fun j hj => hfr _ hgc) hvc h1c h1v tA ty kA _ hsa (hshape hgc) hkA (fun o => hfr o hgc)) fun e' w' hh => ?_
          obtain ⟨rfl, rfl⟩ := hh
          obtain ⟨C1, q1, q2⟩ := setCells_block gb (cs.drop (i * 6)) (0 + (i + m) * 6) w.drew cells ty (0, 0) hgc
          obtain ⟨C2, q3, q4⟩ := setCells_block gb vs (0 + i * 6) _ C1 ty (0, 0) q1
          have hone : cnt gb [gb] = 1 := by simp [cnt]
          have hX1 : ∀ o, X gb o := htok gb (by simp only [cnt_append]; omega)
          have hold : ∀ b, b ≠ gb → ((w.drew.setCells gb (0 + (i + m) * 6) (cs.drop (i * 6))).setCells gb (0 + i * 6) vs).heap[b]? = w.heap[b]? := fun b hb => by
            rw [setCells_other gb _ _ _ b hb, setCells_other gb _ _ _ b hb]; rfl
          have hE1 := Evo.setCells (X := X) gb (cs.drop (i * 6)) (0 + (i + m) * 6) w.drew (fun j _ => hX1 _)
          have hE2 := Evo.setCells (X := X) gb vs (0 + i * 6) (w.drew.setCells gb (0 + (i + m) * 6) (cs.drop (i * 6))) (fun j _ => hX1 _)
          have := own_post (e := elTxn) (zs := insAt xs i ys) (ax := some (.slice (some ⟨gb, 0, none⟩) n c)) (cap := c) (X := X) hW (w' := (w.drew.setCells gb (0 + (i + m) * 6) (cs.drop (i * 6))).setCells gb (0 + i * 6) vs) (g := gb) ?_ (fun b _ hb => hold b hb) q3 (by rw [q4, q2, hs]; rfl) (by rw [hzl]; exact ⟨hroom, e3.2⟩) hA2 (fun j v hj => ?_) hI hO' (.inr hX1)
          · rw [hzl] at this; exact this
          · exact (Evo.drew X w).trans (hE1.trans hE2 (fun _ _ _ h => h) (fun _ _ _ h => h)) (fun _ _ _ h => h) (fun _ _ _ h => h)
          · have := two_a (W := w.drew) (b := gb) (k := i * 6) (l := m * 6) (cs := cs) (vs := vs) (by omega) hvl (fun j hj => by show (w.cell? ⟨gb, j, none⟩).isSome = true; rw [cell_of hgc, Array.getElem?_eq_getElem (by omega)]; rfl) (fun j v _ hj => by show w.cell? ⟨gb, j, none⟩ = some v; rw [cell_of hgc]; exact hcc j v hj) j v hj
            rw [Nat.zero_add, Nat.zero_add, Nat.add_mul]; exact this
        · refine Calls.mono (insTxn_grow gb 0 n c i vb vo m vc cs vs w hlt hm0 e3.1 (by omega) hbig hcl hvl hcc' hvc h1c h1v) fun e' w' hh => ?_
          obtain ⟨rfl, ROW, hRs, hRp, rfl⟩ := hh
          have hge := grownCap_ge w (n + m) c 63
          have hle := grownCap_le_maxLen w (n + m) c 63 (by unfold maxLen; omega)
          unfold maxLen at hle
          obtain ⟨cap, hcap⟩ : ∃ cap, cap = grownCap w (n + m) c 63 := ⟨_, rfl⟩
          rw [← hcap] at hge hle hRs ⊢
          have hnew : ((w.alloc (.cells ROW 63)).drew).heap[w.heap.size]? = some (.cells ROW 63 (0, 0)) := by show (w.heap.push _)[w.heap.size]? = _; simp
          obtain ⟨C1, q1, q2⟩ := setCells_block w.heap.size vs (i * 6) _ ROW 63 (0, 0) hnew
          obtain ⟨C2, q3, q4⟩ := setCells_block w.heap.size (cs.drop (i * 6)) ((i + m) * 6) (((w.alloc (.cells ROW 63)).drew.setCells w.heap.size (i * 6) vs).drew) C1 63 (0, 0) q1
          have hszs : ∀ (vs : List Value) (o : Nat) (W : World), (W.setCells w.heap.size o vs).heap.size = W.heap.size := fun vs o W => World.size_setCells _ vs o W
          refine fresh _ cap (fun b hb => ?_) (by rw [setCells_os]; exact setCells_os _ _ _ _) (by rw [setCells_tape]; exact setCells_tape _ _ _ _) (by rw [setCells_output]; exact setCells_output _ _ _ _) (by rw [setCells_drawn]; show _ ≤ (World.setCells _ _ _ _).drawn + 1; rw [setCells_drawn]; show w.drawn ≤ w.drawn + 1 + 1; omega) (by rw [hszs]; show _ ≤ (World.setCells _ _ _ _).heap.size; rw [hszs]; show _ ≤ (w.heap.push _).size; simp) ⟨C2, 63, q3, by rw [q4, q2, hRs]⟩ ⟨hge, hle⟩ (fun j v hj => ?_)
          · rw [setCells_other _ _ _ _ b (by omega)]
            show (World.setCells _ _ _ _).heap[b]? = _
            rw [setCells_other _ _ _ _ b (by omega)]
            show (w.heap.push _)[b]? = _
            rw [Array.getElem?_push_lt hb, Array.getElem?_eq_getElem hb]
          · have := two_b (W := (w.alloc (.cells ROW 63)).drew) (b := w.heap.size) (k := i * 6) (l := m * 6) (cs := cs) (vs := vs) (by omega) hvl (fun j hj => by
                rw [cell_of hnew, Array.getElem?_eq_getElem (by omega)]; rfl) (fun j v hj1 hj2 => by
                rw [cell_of hnew]; exact hRp j v (by rw [List.getElem?_take, if_pos hj1]; exact hj2)) j v hj
            rw [← drew_setCells, Nat.add_mul]; exact this
      · have hie : i = n := by omega
        subst hie
        by_cases hroom : i + m ≤ c
        · rcases e5 with ⟨hc0, _⟩ | ⟨gb, rfl, rfl, ⟨cells, ty, hgc, hs, hcc⟩, hI, hO'⟩
          · omega
          have hsz : (i + m) * 6 ≤ cells.size := by rw [hs]; exact Nat.mul_le_mul_right 6 hroom
          have hsome : ∀ j, j < (i + m) * 6 → (w.cell? ⟨gb, j, none⟩).isSome = true := fun j hj => by rw [cell_of hgc, Array.getElem?_eq_getElem (by omega)]; rfl
          refine Calls.mono (insTxn_end_room gb 0 i c vb vo m vc vs w hm0 hroom e3.2 hvl (fun j hj => hsome _ (by omega)) (fun j hj => hfr _ hgc) hvc h1v) fun e' w' hh => ?_
          obtain ⟨rfl, rfl⟩ := hh
          obtain ⟨C2, q3, q4⟩ := setCells_block gb vs (0 + i * 6) w cells ty (0, 0) hgc
          have hone : cnt gb [gb] = 1 := by simp [cnt]
          have hX1 : ∀ o, X gb o := htok gb (by simp only [cnt_append]; omega)
          have := own_post (e := elTxn) (zs := insAt xs i ys) (ax := some (.slice (some ⟨gb, 0, none⟩) i c)) (cap := c) (X := X) hW (w' := w.setCells gb (0 + i * 6) vs) (g := gb) (Evo.setCells (X := X) gb vs (0 + i * 6) w (fun j _ => hX1 _)) (fun b _ hb => setCells_other gb _ _ _ b hb) q3 (by rw [q4, hs]; rfl) (by rw [hzl]; exact ⟨hroom, e3.2⟩) hA2 (fun j v hj => ?_) hI hO' (.inr hX1)
          · rw [hzl] at this; exact this
          · have h0 : cs.drop (i * 6) = [] := List.drop_of_length_le (by omega)
            have := two_a (W := w) (b := gb) (k := i * 6) (l := m * 6) (cs := cs) (vs := vs) (by omega) hvl (fun j hj => hsome _ (by omega)) (fun j v _ hj => by rw [cell_of hgc]; exact hcc j v hj) j v hj
            rw [h0] at this
            rw [Nat.zero_add]; exact this
        · have hnil : ad = none → i = 0 := fun h => by
            rcases e5 with ⟨hc0, _⟩ | ⟨gb, h1, _⟩
            · omega
            · rw [h] at h1; cases h1
          have hold : ∀ a, ad = some a → ∀ (j : Nat) (v : Value), cs[j]? = some v → w.cell? (a.add j) = some v := fun a ha j v hj => by
            rcases e5 with ⟨hc0, _⟩ | ⟨gb, h1, _, ⟨cells, ty, hgc, hs, hcc⟩, hI, hO'⟩
            · have := (List.getElem?_eq_some_iff.1 hj).1; omega
            · rw [h1] at ha; injection ha with ha; subst ha
              rw [Addr.add_lit, cell_of hgc, Nat.zero_add]; exact hcc j v hj
          refine Calls.mono (insTxn_end_grow ad i c vb vo m vc cs vs w hm0 e3.1 (by omega) hbig hcl hvl hnil hold hvc h1v) fun e' w' hh => ?_
          obtain ⟨rfl, ROW, hRs, hRp, rfl⟩ := hh
          have hge := grownCap_ge w (i + m) c 63
          have hle := grownCap_le_maxLen w (i + m) c 63 (by unfold maxLen; omega)
          unfold maxLen at hle
          obtain ⟨cap, hcap⟩ : ∃ cap, cap = grownCap w (i + m) c 63 := ⟨_, rfl⟩
          rw [← hcap] at hge hle hRs ⊢
          have hnew : (w.drew.alloc (.cells ROW 63)).heap[w.heap.size]? = some (.cells ROW 63 (0, 0)) := by show (w.heap.push _)[w.heap.size]? = _; simp
          refine fresh _ cap (fun b hb => ?_) rfl rfl rfl (by show w.drawn ≤ w.drawn + 1; omega) (by show _ ≤ (w.heap.push _).size; simp) ⟨ROW, 63, hnew, hRs⟩ ⟨hge, hle⟩ (fun j v hj => ?_)
          · show (w.heap.push _)[b]? = _
            rw [Array.getElem?_push_lt hb, Array.getElem?_eq_getElem hb]
          · have h0 : cs.drop (i * 6) = [] := List.drop_of_length_le (by omega)
            have h1 : cs.take (i * 6) = cs := List.take_of_length_le (by omega)
            rw [h0, h1, List.append_nil] at hj
            rw [cell_of hnew]; exact hRp j v hj
end Go.Proofs.YtbdfcbhnjdlabaaGreat.Pal
end
section
/- The library's functions at this program's types. -/
namespace Go.Proofs.YtbdfcbhnjdlabaaGreat
open Pal Go
set_option maxRecDepth 100000 in
theorem cloneOUndo_ok : CallOK Tryz.prog 52 (cloneO ((.pair (.pair (.int .i64) (.int .i64)) (.int .i64)))) :=
  cloneO_ok (T := 27) (B := 4) (TT.of (by kernel_rfl) (by kernel_rfl)) (by kernel_rfl) (by kernel_rfl) Tryz.func52 (by kernel_rfl) (by kernel_rfl) (by kernel_rfl) (by kernel_rfl) (by kernel_rfl) (fun xs => by kernel_rfl) (by kernel_rfl) (fun xs => by kernel_rfl)
end Go.Proofs.YtbdfcbhnjdlabaaGreat
end
section
/- Where slices.SortFunc at dots and what it calls lie in this program. -/
namespace Go.Proofs.YtbdfcbhnjdlabaaGreat
open Go.Proofs
open Go.Shelf
def laysSortDot_ren : Go.Shelf.Ren := ⟨fun | 6 => 95 | 15 => 104 | 14 => 103 | 28 => 118 | 29 => 119 | 20 => 110 | 21 => 111 | 22 => 112 | 23 => 113 | 24 => 114 | 25 => 115 | 26 => 116 | 27 => 117 | 46 => 120 | 47 => 121 | 48 => 122 | 49 => 123 | 50 => 124 | 57 => 125 | n => n, fun | 22 => 24 | 24 => 54 | 25 => 102 | 3 => 3 | 39 => 124 | 0 => 0 | 53 => 156 | 55 => 158 | 4 => 4 | 46 => 150 | 45 => 149 | 50 => 105 | 5 => 5 | 9 => 9 | 66 => 159 | 70 => 163 | 76 => 165 | 77 => 166 | n => n, fun | n => n⟩
theorem laysSortDot : Go.Proofs.SlLaysF0.n6 Tryz.prog laysSortDot_ren := {
  mixed := by kernel_rfl
  f6 := ⟨Tryz.f95.name, by decide, Tryz.func95.trans (congrArg some (by kernel_rfl))⟩
  f14 := ⟨Tryz.f103.name, by decide, Tryz.func103.trans (congrArg some (by kernel_rfl))⟩
  f15 := Tryz.func104.trans (congrArg some (by kernel_rfl))
  f20 := ⟨Tryz.f110.name, by decide, Tryz.func110.trans (congrArg some (by kernel_rfl))⟩
  f21 := ⟨Tryz.f111.name, by decide, Tryz.func111.trans (congrArg some (by kernel_rfl))⟩
  f22 := ⟨Tryz.f112.name, by decide, Tryz.func112.trans (congrArg some (by kernel_rfl))⟩
  f23 := ⟨Tryz.f113.name, by decide, Tryz.func113.trans (congrArg some (by kernel_rfl))⟩
  f24 := ⟨Tryz.f114.name, by decide, Tryz.func114.trans (congrArg some (by kernel_rfl))⟩
  f25 := ⟨Tryz.f115.name, by decide, Tryz.func115.trans (congrArg some (by kernel_rfl))⟩
  f26 := ⟨Tryz.f116.name, by decide, Tryz.func116.trans (congrArg some (by kernel_rfl))⟩
  f27 := ⟨Tryz.f117.name, by decide, Tryz.func117.trans (congrArg some (by kernel_rfl))⟩
  f28 := Tryz.func118.trans (congrArg some (by kernel_rfl))
  f29 := Tryz.func119.trans (congrArg some (by kernel_rfl))
  f46 := ⟨Tryz.f120.name, by decide, Tryz.func120.trans (congrArg some (by kernel_rfl))⟩
  f47 := Tryz.func121.trans (congrArg some (by kernel_rfl))
  f48 := Tryz.func122.trans (congrArg some (by kernel_rfl))
  f49 := ⟨Tryz.f123.name, by decide, Tryz.func123.trans (congrArg some (by kernel_rfl))⟩
  f50 := ⟨Tryz.f124.name, by decide, Tryz.func124.trans (congrArg some (by kernel_rfl))⟩
  f57 := ⟨Tryz.f125.name, by decide, Tryz.func125.trans (congrArg some (by kernel_rfl))⟩
  t0 := Tryz.underlying0
  a0 := Tryz.isAgg0
  z0 := Tryz.sizeOf0
  v0 := Tryz.zeroValue0
  t3 := Tryz.underlying3
  a3 := Tryz.isAgg3
  z3 := Tryz.sizeOf3
  v3 := Tryz.zeroValue3
  t4 := Tryz.underlying4
  a4 := Tryz.isAgg4
  z4 := Tryz.sizeOf4
  v4 := Tryz.zeroValue4
  t5 := Tryz.underlying5
  a5 := Tryz.isAgg5
  z5 := Tryz.sizeOf5
  v5 := Tryz.zeroValue5
  t9 := Tryz.underlying9
  a9 := Tryz.isAgg9
  z9 := Tryz.sizeOf9
  v9 := Tryz.zeroValue9
  t22 := Tryz.underlying24
  a22 := Tryz.isAgg24
  z22 := Tryz.sizeOf24
  v22 := Tryz.zeroValue24
  t25 := Tryz.underlying102
  a25 := Tryz.isAgg102
  z25 := Tryz.sizeOf102
  v25 := Tryz.zeroValue102
  t39 := Tryz.underlying124
  a39 := Tryz.isAgg124
  z39 := Tryz.sizeOf124
  v39 := Tryz.zeroValue124
  t45 := Tryz.underlying149
  a45 := Tryz.isAgg149
  z45 := Tryz.sizeOf149
  v45 := Tryz.zeroValue149
  t46 := Tryz.underlying150
  a46 := Tryz.isAgg150
  z46 := Tryz.sizeOf150
  v46 := Tryz.zeroValue150
  t50 := Tryz.underlying105
  a50 := Tryz.isAgg105
  z50 := Tryz.sizeOf105
  v50 := Tryz.zeroValue105
  t53 := Tryz.underlying156
  a53 := Tryz.isAgg156
  z53 := Tryz.sizeOf156
  v53 := Tryz.zeroValue156
  t55 := Tryz.underlying158
  a55 := Tryz.isAgg158
  z55 := Tryz.sizeOf158
  v55 := Tryz.zeroValue158
  t66 := Tryz.underlying159
  a66 := Tryz.isAgg159
  z66 := Tryz.sizeOf159
  v66 := Tryz.zeroValue159
  t70 := Tryz.underlying163
  a70 := Tryz.isAgg163
  z70 := Tryz.sizeOf163
  v70 := Tryz.zeroValue163
  t76 := Tryz.underlying165
  a76 := Tryz.isAgg165
  z76 := Tryz.sizeOf165
  v76 := Tryz.zeroValue165
  t77 := Tryz.underlying166
  a77 := Tryz.isAgg166
  z77 := Tryz.sizeOf166
  v77 := Tryz.zeroValue166 }
end Go.Proofs.YtbdfcbhnjdlabaaGreat
end
section
/- The types, and some of the program's functions, as plain equations. -/
namespace Go.Proofs.YtbdfcbhnjdlabaaGreat
open Pal
set_option maxRecDepth 100000
def ri (a b : List Nat) : RInfo := ⟨a, b, [], [], 0, [], [], [], [], []⟩
def rq (a b : List Nat) (q : Nat) : RInfo := ⟨a, b, [], [], q, [], [], [], [], []⟩
variable [MonoC]
@[reducible] def tVec : Ty := .arr 16 (.int .i64)
@[reducible] def tDot : Ty := .pair (.int .i64) (.int .i64)
@[reducible] def tpackReader : Ty := .pair .str (.int .i64)
@[reducible] def terrorAddressString : Ty := .pair .str (.int .u64)
@[reducible] def tValue : Ty := .pair (.int .i64) (.pair (.int .i64) .str)
@[reducible] def tUndo : Ty := .pair tDot (.int .i64)
@[reducible] def tref02Reader : Ty := .pair .str tDot
@[reducible] def tDots : Ty := .pair tVec (.slc tDot)
@[reducible] def tboundsError : Ty := .pair (.int .i64) (.pair (.int .i64) (.pair .bool (.int .u8)))
@[reducible] def tOp : Ty := .pair (.int .i64) (.pair (.slc .str) (.pair tValue (.pair (.int .i64) (.slc tUndo))))
@[reducible] def tKnow : Ty := .pair tDots (.pair (.slc tUndo) tDots)
@[reducible] def tTxn : Ty := .pair tDot (.pair (.int .i64) (.pair (.int .i64) (.pair .bool (.slc tOp))))
@[reducible] def tDelta : Ty := .pair (.slc tTxn) (.pair (.slc tUndo) (.slc tDot))
@[reducible] def tState : Ty := .pair (.slc tTxn) (.pair (.slc tUndo) (.pair tDots (.pair tDots (.arr 8 (.slc tDot)))))
def tt : List (Nat × TInfo) := [(2, ⟨(.int .i64), 0⟩), (3, ⟨(.int .i64), 0⟩), (4, ⟨.bool, 0⟩), (5, ⟨(.int .u8), 0⟩), (6, ⟨(.int .u8), 0⟩), (7, ⟨tboundsError, 4⟩), (8, ⟨tboundsError, 4⟩), (9, ⟨.str, 0⟩), (10, ⟨.str, 0⟩), (11, ⟨.str, 0⟩), (12, ⟨(.int .u64), 0⟩), (21, ⟨(.int .i32), 0⟩), (22, ⟨tVec, 0⟩), (23, ⟨tVec, 0⟩), (24, ⟨(.slc tDot), 0⟩), (25, ⟨tDots, 2⟩), (26, ⟨tDots, 2⟩), (27, ⟨(.slc tUndo), 0⟩), (28, ⟨tKnow, 3⟩), (29, ⟨tKnow, 3⟩), (33, ⟨tref02Reader, 3⟩), (34, ⟨tref02Reader, 3⟩), (38, ⟨(.int .i64), 0⟩), (45, ⟨tpackReader, 2⟩), (46, ⟨tpackReader, 2⟩), (53, ⟨tDot, 2⟩), (54, ⟨tDot, 2⟩), (55, ⟨(.slc .str), 0⟩), (56, ⟨tValue, 3⟩), (57, ⟨tValue, 3⟩), (58, ⟨(.slc tUndo), 0⟩), (59, ⟨tOp, 5⟩), (60, ⟨tOp, 5⟩), (61, ⟨(.slc tOp), 0⟩), (62, ⟨tTxn, 5⟩), (63, ⟨tTxn, 5⟩), (64, ⟨(.slc tTxn), 0⟩), (65, ⟨(.arr 8 (.slc tDot)), 0⟩), (66, ⟨tState, 5⟩), (67, ⟨tState, 5⟩), (69, ⟨tDelta, 3⟩), (70, ⟨tDelta, 3⟩), (78, ⟨tUndo, 2⟩), (79, ⟨tUndo, 2⟩), (118, ⟨(.slc (.int .u8)), 0⟩), (124, ⟨(.int .u64), 0⟩), (136, ⟨(.slc (.int .i64)), 0⟩), (139, ⟨(.slc (.slc tDot)), 0⟩), (149, ⟨(.int .i64), 0⟩), (156, ⟨(.int .u32), 0⟩), (158, ⟨(.int .u64), 0⟩), (159, ⟨(.int .u64), 0⟩), (173, ⟨(.int .u8), 0⟩), (174, ⟨(.int .u8), 0⟩), (176, ⟨(.int .i32), 0⟩), (177, ⟨(.int .i32), 0⟩), (180, ⟨tUndo, 2⟩), (181, ⟨tUndo, 2⟩)]
def pp : List Nat := [15, 16, 17, 30, 32, 117, 135, 163, 165]
def mm : List (Nat × (Ty × Ty)) := []
theorem tt_ok : tt.all (fun x => tiB Tryz.prog x.1 x.2) = true := by kernel_rfl
theorem pp_ok : pp.all (ptB Tryz.prog) = true := by kernel_rfl
theorem mm_ok : mm.all (fun x => mpB Tryz.prog x.1 x.2) = true := by kernel_rfl
theorem mixed : Tryz.prog.follows .mixedOrders = true := by kernel_rfl
noncomputable def dot_Right.body : Go.Code := Tryz.f60.body.getD .skip
noncomputable def dot_Right.rs : List Go.ResultVar := Tryz.f60.results.toList
def dot_Right.regs : List (Nat × RInfo) := [(0, ri [1] [1]), (1, ri [2] [])]
noncomputable def dot_Right.cx (k : Nat) : Cx := ⟨tt, pp, [], dot_Right.regs, k, mm⟩
@[reducible] def dot_Right.sg : Sg := ⟨[.dat tDot], [], .dat .bool, []⟩
noncomputable def dot_Right.f (k : Nat) (a0 : Ty.D tDot) : Option (Sg.Out dot_Right.sg) := Sg.fn dot_Right.sg (dot_Right.cx k) dot_Right.body dot_Right.rs a0
theorem dot_Right.f_eq (k : Nat) (a0 : Ty.D tDot) : dot_Right.f k a0 = br (ile 0 a0.1) (br (ilt a0.1 16) (br (ile 1 a0.2) (some (ile a0.2 1048576)) (some false)) (some false)) (some false) := by kernel_rfl
noncomputable def dot_Right.e (k : Nat) : Entry := Sg.entry dot_Right.sg fun x => dot_Right.f k x
theorem dot_Right.ok (k : Nat) : CallOK Tryz.prog 60 (dot_Right.e k) := fn_ok (c := dot_Right.cx k) (code := dot_Right.body) (TT.of tt_ok pp_ok mm_ok) (fns_ok trivial) mixed Tryz.func60 (by kernel_rfl) (by kernel_rfl) (by kernel_rfl) (by kernel_rfl) (by kernel_rfl) (by kernel_rfl) (fun x => by kernel_rfl)
noncomputable def cmp_isNaN_int.body : Go.Code := Tryz.f98.body.getD .skip
noncomputable def cmp_isNaN_int.rs : List Go.ResultVar := Tryz.f98.results.toList
def cmp_isNaN_int.regs : List (Nat × RInfo) := [(0, ri [0] []), (1, ri [2] [])]
noncomputable def cmp_isNaN_int.cx (k : Nat) : Cx := ⟨tt, pp, [], cmp_isNaN_int.regs, k, mm⟩
@[reducible] def cmp_isNaN_int.sg : Sg := ⟨[.dat (.int .i64)], [], .dat .bool, []⟩
noncomputable def cmp_isNaN_int.f (k : Nat) (a0 : Ty.D (.int .i64)) : Option (Sg.Out cmp_isNaN_int.sg) := Sg.fn cmp_isNaN_int.sg (cmp_isNaN_int.cx k) cmp_isNaN_int.body cmp_isNaN_int.rs a0
theorem cmp_isNaN_int.f_eq (k : Nat) (a0 : Ty.D (.int .i64)) : cmp_isNaN_int.f k a0 = some (bnot (ieq a0 a0)) := by kernel_rfl
noncomputable def cmp_isNaN_int.e (k : Nat) : Entry := Sg.entry cmp_isNaN_int.sg fun x => cmp_isNaN_int.f k x
theorem cmp_isNaN_int.ok (k : Nat) : CallOK Tryz.prog 98 (cmp_isNaN_int.e k) := fn_ok (c := cmp_isNaN_int.cx k) (code := cmp_isNaN_int.body) (TT.of tt_ok pp_ok mm_ok) (fns_ok trivial) mixed Tryz.func98 (by kernel_rfl) (by kernel_rfl) (by kernel_rfl) (by kernel_rfl) (by kernel_rfl) (by kernel_rfl) (fun x => by kernel_rfl)
noncomputable def cmp_Compare_int.body : Go.Code := Tryz.f85.body.getD .skip
noncomputable def cmp_Compare_int.rs : List Go.ResultVar := Tryz.f85.results.toList
def cmp_Compare_int.regs : List (Nat × RInfo) := [(0, ri [0,1] []), (1, ri [0,1,5] [8]), (2, ri [0,1,5,6] [8,10]), (3, ri [0,1,6,11] [8,10]), (4, ri [12] [10]), (5, ri [4] []), (6, ri [4] []), (7, ri [0,1,13] [10]), (8, ri [4] []), (9, ri [0,1,16] []), (10, ri [4] []), (11, ri [19] []), (12, ri [4] []), (13, ri [4] [])]
noncomputable def cmp_Compare_int.cx (k : Nat) : Cx := ⟨tt, pp, [(98, (cmp_isNaN_int.e k))], cmp_Compare_int.regs, k, mm⟩
@[reducible] def cmp_Compare_int.sg : Sg := ⟨[.dat (.int .i64), .dat (.int .i64)], [], .dat (.int .i64), []⟩
noncomputable def cmp_Compare_int.f (k : Nat) (a0 : Ty.D (.int .i64)) (a1 : Ty.D (.int .i64)) : Option (Sg.Out cmp_Compare_int.sg) := Sg.fn cmp_Compare_int.sg (cmp_Compare_int.cx k) cmp_Compare_int.body cmp_Compare_int.rs (a0, a1)
theorem cmp_Compare_int.f_eq (k : Nat) (a0 : Ty.D (.int .i64)) (a1 : Ty.D (.int .i64)) : cmp_Compare_int.f k a0 a1 = bnd (cmp_isNaN_int.f k a0) fun r0 => bnd (cmp_isNaN_int.f k a1) fun r1 => br r0 (br r1 (some 0) (some (-1))) (br r1 (some 1) (br (ilt a0 a1) (some (-1)) (br (ilt a1 a0) (some 1) (some 0)))) := by kernel_rfl
noncomputable def cmp_Compare_int.e (k : Nat) : Entry := Sg.entry cmp_Compare_int.sg fun x => cmp_Compare_int.f k x.1 x.2
theorem cmp_Compare_int.ok (k : Nat) : CallOK Tryz.prog 85 (cmp_Compare_int.e k) := fn_ok (c := cmp_Compare_int.cx k) (code := cmp_Compare_int.body) (TT.of tt_ok pp_ok mm_ok) (fns_ok ⟨(cmp_isNaN_int.ok k), trivial⟩) mixed Tryz.func85 (by kernel_rfl) (by kernel_rfl) (by kernel_rfl) (by kernel_rfl) (by kernel_rfl) (by kernel_rfl) (fun x => by kernel_rfl)
noncomputable def cmp_Or_int.body : Go.Code := Tryz.f84.body.getD .skip
noncomputable def cmp_Or_int.rs : List Go.ResultVar := Tryz.f84.results.toList
def cmp_Or_int.regs : List (Nat × RInfo) := [(0, ri [0] []), (1, ri [0,3] []), (2, ri [3,6,7,8] []), (3, ⟨[3, 6, 7, 8, 9], [], [], [], 0, [3, 6, 7, 8], [], [], [], []⟩), (4, ri [3,5,6,7,8] []), (5, ri [3,5,6,7,8,14] []), (6, ri [2] []), (7, ri [3,6,7,8] []), (8, ri [2] [])]
noncomputable def cmp_Or_int.cx (k : Nat) : Cx := ⟨tt, pp, [], cmp_Or_int.regs, k, mm⟩
@[reducible] def cmp_Or_int.sg : Sg := ⟨[.dat (.slc (.int .i64))], [], .dat (.int .i64), []⟩
noncomputable def cmp_Or_int.f (k : Nat) (a0 : Ty.D (.slc (.int .i64))) : Option (Sg.Out cmp_Or_int.sg) := Sg.fn cmp_Or_int.sg (cmp_Or_int.cx k) cmp_Or_int.body cmp_Or_int.rs a0
noncomputable def cmp_Or_int.l3 (k : Nat) (n : Nat) (x3 : Ty.D (.int .i64)) (x6 : Ty.D (.slc (.int .i64))) (x7 : Ty.D (.int .i64)) (x8 : Ty.D (.int .i64)) : Option (Sg.Out cmp_Or_int.sg) := loopAt (cmp_Or_int.cx k) cmp_Or_int.body [1, 1, 0, 1, 0] 3 [3, 6, 7, 8] [] [] (Sg.K cmp_Or_int.sg (cmp_Or_int.cx k) cmp_Or_int.rs) n ⟨[(3, .dat (.int .i64) x3), (6, .dat (.slc (.int .i64)) x6), (7, .dat (.int .i64) x7), (8, .dat (.int .i64) x8)], []⟩
theorem cmp_Or_int.f_eq (k : Nat) (a0 : Ty.D (.slc (.int .i64))) : cmp_Or_int.f k a0 = cmp_Or_int.l3 k k 0 a0 (ilen a0) 0 := by kernel_rfl
theorem cmp_Or_int.l3_eq (k : Nat) (n3 : Nat) (x3 : Ty.D (.int .i64)) (x6 : Ty.D (.slc (.int .i64))) (x7 : Ty.D (.int .i64)) (x8 : Ty.D (.int .i64)) : cmp_Or_int.l3 k (n3 + 1) x3 x6 x7 x8 = br (ilt x8 x7) (br (inL x8 x6) (br (bnot (ieq (rd (.int .i64) x6 (natOf x8)) x3)) (some (rd (.int .i64) x6 (natOf x8))) (cmp_Or_int.l3 k n3 x3 x6 x7 (iadd .i64 x8 1))) none) (some x3) := by kernel_rfl
noncomputable def cmp_Or_int.e (k : Nat) : Entry := Sg.entry cmp_Or_int.sg fun x => cmp_Or_int.f k x
theorem cmp_Or_int.ok (k : Nat) : CallOK Tryz.prog 84 (cmp_Or_int.e k) := fn_ok (c := cmp_Or_int.cx k) (code := cmp_Or_int.body) (TT.of tt_ok pp_ok mm_ok) (fns_ok trivial) mixed Tryz.func84 (by kernel_rfl) (by kernel_rfl) (by kernel_rfl) (by kernel_rfl) (by kernel_rfl) (by kernel_rfl) (fun x => by kernel_rfl)
noncomputable def dot_Compare.body : Go.Code := Tryz.f61.body.getD .skip
noncomputable def dot_Compare.rs : List Go.ResultVar := Tryz.f61.results.toList
def dot_Compare.regs : List (Nat × RInfo) := [(0, ri [2,3] [2,3]), (1, rq [4] [16] 12)]
noncomputable def dot_Compare.cx (k : Nat) : Cx := ⟨tt, pp, [(85, (cmp_Compare_int.e k)), (84, (cmp_Or_int.e k))], dot_Compare.regs, k, mm⟩
@[reducible] def dot_Compare.sg : Sg := ⟨[.dat tDot, .dat tDot], [], .dat (.int .i64), []⟩
noncomputable def dot_Compare.f (k : Nat) (a0 : Ty.D tDot) (a1 : Ty.D tDot) : Option (Sg.Out dot_Compare.sg) := Sg.fn dot_Compare.sg (dot_Compare.cx k) dot_Compare.body dot_Compare.rs (a0, a1)
theorem dot_Compare.f_eq (k : Nat) (a0 : Ty.D tDot) (a1 : Ty.D tDot) : dot_Compare.f k a0 a1 = bnd (cmp_Compare_int.f k a0.1 a1.1) fun r0 => bnd (cmp_Compare_int.f k a0.2 a1.2) fun r1 => bnd (cmp_Or_int.f k (r0 :: (r1 :: []))) fun r2 => some r2 := by kernel_rfl
noncomputable def dot_Compare.e (k : Nat) : Entry := Sg.entry dot_Compare.sg fun x => dot_Compare.f k x.1 x.2
theorem dot_Compare.ok (k : Nat) : CallOK Tryz.prog 61 (dot_Compare.e k) := fn_ok (c := dot_Compare.cx k) (code := dot_Compare.body) (TT.of tt_ok pp_ok mm_ok) (fns_ok ⟨(cmp_Compare_int.ok k), (cmp_Or_int.ok k), trivial⟩) mixed Tryz.func61 (by kernel_rfl) (by kernel_rfl) (by kernel_rfl) (by kernel_rfl) (by kernel_rfl) (by kernel_rfl) (fun x => by kernel_rfl)
end Go.Proofs.YtbdfcbhnjdlabaaGreat
end
section
/- What the library's functions do, at dots. -/
namespace Go.Proofs.YtbdfcbhnjdlabaaGreat
open Pal Go Go.Sort
abbrev Dot := Int × Int
def cmpI (a b : Int) : Int := if a < b then -1 else if b < a then 1 else 0
def cmpD (a b : Dot) : Int := if cmpI a.1 b.1 = 0 then cmpI a.2 b.2 else cmpI a.1 b.1
theorem cmpI_is (k : Nat) (a b : Int) : cmp_Compare_int.f k a b = some (cmpI a b) := by
  rw [cmp_Compare_int.f_eq, cmp_isNaN_int.f_eq, cmp_isNaN_int.f_eq]
  have h : ∀ x : Int, bnot (ieq x x) = false := fun x => by simp [bnot, ieq]
  simp only [h, bnd, br_false]
  unfold cmpI
  by_cases h1 : a < b
  · simp [ilt, h1, br_true]
  · by_cases h2 : b < a
    · simp [ilt, h1, h2, br_true, br_false]
    · simp [ilt, h1, h2, br_false]
theorem or2 (k : Nat) (a b : Int) : cmp_Or_int.f (k + 3) (a :: b :: []) = some (if a = 0 then b else a) := by
  have h : cmp_Or_int.f (k + 3) (a :: b :: []) = br (bnot (ieq a 0)) (some a) (br (bnot (ieq b 0)) (some b) (some 0)) := by
    rw [cmp_Or_int.f_eq, cmp_Or_int.l3_eq, cmp_Or_int.l3_eq, cmp_Or_int.l3_eq]; rfl
  rw [h, ieq_dec, ieq_dec, bnot_dec, bnot_dec]
  by_cases h1 : a = 0
  · by_cases h2 : b = 0
    · simp [h1, h2, br_false]
    · simp [h1, h2, br_false, br_true]
  · simp [h1, br_true]
theorem cmpD_is (k : Nat) (a b : Dot) : dot_Compare.f (k + 3) a b = some (cmpD a b) := by
  rw [dot_Compare.f_eq, cmpI_is, cmpI_is]
  simp only [bnd]
  rw [or2]; rfl
abbrev dotLt : Dot → Dot → Bool := Go.Proofs.ltOf cmpD
theorem cmpI_lt (a b : Int) : cmpI a b < 0 ↔ a < b := by unfold cmpI; split <;> (try split) <;> omega
theorem cmpI_eq (a b : Int) : cmpI a b = 0 ↔ a = b := by unfold cmpI; split <;> (try split) <;> omega
theorem dotLt_iff (a b : Dot) : dotLt a b = true ↔ a.1 < b.1 ∨ (a.1 = b.1 ∧ a.2 < b.2) := by
  show decide (cmpD a b < 0) = true ↔ _
  rw [decide_eq_true_iff]
  unfold cmpD
  by_cases h : a.1 = b.1
  · rw [if_pos ((cmpI_eq _ _).2 h), cmpI_lt]; omega
  · rw [if_neg (fun e => h ((cmpI_eq _ _).1 e)), cmpI_lt]; omega
theorem dotLt_swo : SWO dotLt where
  irrefl x := by rw [← Bool.not_eq_true, dotLt_iff]; omega
  trans x y z h1 h2 := by rw [dotLt_iff] at *; omega
  ntrans x y z h1 h2 := by rw [← Bool.not_eq_true, dotLt_iff] at *; omega
theorem dotLt_tot (x y : Dot) (h1 : dotLt x y = false) (h2 : dotLt y x = false) : x = y := by
  rw [← Bool.not_eq_true, dotLt_iff] at h1 h2
  apply Prod.ext <;> omega
def rightD (d : Dot) : Bool := decide (0 ≤ d.1 ∧ d.1 < 16 ∧ 1 ≤ d.2 ∧ d.2 ≤ 1048576)
theorem right_is (k : Nat) (d : Dot) : dot_Right.f k d = some (rightD d) := by
  rw [dot_Right.f_eq]
  unfold rightD
  by_cases h1 : 0 ≤ d.1 <;> by_cases h2 : d.1 < 16 <;> by_cases h3 : 1 ≤ d.2 <;> by_cases h4 : d.2 ≤ 1048576 <;> simp [ile, ilt, h1, h2, h3, h4, br_true, br_false]
theorem f6_is : laysSortDot_ren.f 6 = 95 := by kernel_rfl
theorem t24_is : laysSortDot_ren.t 24 = 54 := by kernel_rfl
theorem aggDot (w : World) : (isAgg 54).run Tryz.prog w = .ok true w := by kernel_rfl
theorem cmp_val (x y : Dot) : (dot_Compare.e 10).val [.dat tDot x, .dat tDot y] [] = some (.dat (.int .i64) (cmpD x y), []) := by
  have h : dot_Compare.f 10 x y = some (cmpD x y) := cmpD_is 7 x y
  have e : (dot_Compare.e 10).val [.dat tDot x, .dat tDot y] [] = bnd (dot_Compare.f 10 x y) (fun r => some (.dat (.int .i64) r, [])) := by kernel_rfl
  rw [e, h]; rfl
theorem sortDot_ok : CallOK Tryz.prog 95 (sortE tDot 61 dotLt) := by
  have h := sort_ok (P := Tryz.prog) (ρ := laysSortDot_ren) (e := tDot) (g := 61) (ce := dot_Compare.e 10) (cf := cmpD) laysSortDot rfl rfl (fun w => by rw [t24_is]; exact aggDot w) (fun w => by rw [t24_is]; exact zDot w) dotLt_swo dotLt_tot (@dot_Compare.ok (.just True) 10) (enters_of Tryz.func61 (by kernel_rfl) rfl) (by rw [f6_is]; exact enters_of Tryz.func95 (by kernel_rfl) rfl) cmp_val
  rw [f6_is] at h
  exact h
end Go.Proofs.YtbdfcbhnjdlabaaGreat
end
section
/- Where strings.Builder's WriteByte and String and what they call lie in this program. -/
namespace Go.Proofs.YtbdfcbhnjdlabaaGreat
open Go.Proofs
open Go.Shelf
def bld_ren : Go.Shelf.Ren := ⟨fun | 167 => 82 | 169 => 83 | 240 => 97 | 276 => 107 | _ => 0, fun | 0 => 0 | 3 => 3 | 4 => 4 | 5 => 5 | 9 => 9 | 20 => 20 | 37 => 118 | 70 => 117 | 72 => 120 | 75 => 122 | 80 => 125 | 127 => 135 | 164 => 144 | _ => 0, fun _ => 0⟩
theorem laysWB : Go.Proofs.Lays.n167 Tryz.prog bld_ren := {
  mixed := by kernel_rfl
  f167 := Tryz.func82.trans (congrArg some (by kernel_rfl))
  f240 := Tryz.func97.trans (congrArg some (by kernel_rfl))
  f276 := Tryz.func107.trans (congrArg some (by kernel_rfl))
  t0 := Tryz.underlying0
  a0 := Tryz.isAgg0
  z0 := Tryz.sizeOf0
  v0 := Tryz.zeroValue0
  t4 := Tryz.underlying4
  a4 := Tryz.isAgg4
  z4 := Tryz.sizeOf4
  v4 := Tryz.zeroValue4
  t5 := Tryz.underlying5
  a5 := Tryz.isAgg5
  z5 := Tryz.sizeOf5
  v5 := Tryz.zeroValue5
  t9 := Tryz.underlying9
  a9 := Tryz.isAgg9
  z9 := Tryz.sizeOf9
  v9 := Tryz.zeroValue9
  t20 := Tryz.underlying20
  a20 := Tryz.isAgg20
  z20 := Tryz.sizeOf20
  v20 := Tryz.zeroValue20
  t37 := Tryz.underlying118
  a37 := Tryz.isAgg118
  z37 := Tryz.sizeOf118
  v37 := Tryz.zeroValue118
  t70 := Tryz.underlying117
  a70 := Tryz.isAgg117
  z70 := Tryz.sizeOf117
  v70 := Tryz.zeroValue117
  t72 := Tryz.underlying120
  a72 := Tryz.isAgg120
  z72 := Tryz.sizeOf120
  v72 := Tryz.zeroValue120
  t75 := Tryz.underlying122
  a75 := Tryz.isAgg122
  z75 := Tryz.sizeOf122
  v75 := Tryz.zeroValue122
  t164 := Tryz.underlying144
  a164 := Tryz.isAgg144
  z164 := Tryz.sizeOf144
  v164 := Tryz.zeroValue144 }
theorem laysBS : Go.Proofs.Lays.n169 Tryz.prog bld_ren := {
  mixed := by kernel_rfl
  f169 := Tryz.func83.trans (congrArg some (by kernel_rfl))
  t0 := Tryz.underlying0
  a0 := Tryz.isAgg0
  z0 := Tryz.sizeOf0
  v0 := Tryz.zeroValue0
  t3 := Tryz.underlying3
  a3 := Tryz.isAgg3
  z3 := Tryz.sizeOf3
  v3 := Tryz.zeroValue3
  t9 := Tryz.underlying9
  a9 := Tryz.isAgg9
  z9 := Tryz.sizeOf9
  v9 := Tryz.zeroValue9
  t37 := Tryz.underlying118
  a37 := Tryz.isAgg118
  z37 := Tryz.sizeOf118
  v37 := Tryz.zeroValue118
  t70 := Tryz.underlying117
  a70 := Tryz.isAgg117
  z70 := Tryz.sizeOf117
  v70 := Tryz.zeroValue117
  t72 := Tryz.underlying120
  a72 := Tryz.isAgg120
  z72 := Tryz.sizeOf120
  v72 := Tryz.zeroValue120
  t127 := Tryz.underlying135
  a127 := Tryz.isAgg135
  z127 := Tryz.sizeOf135
  v127 := Tryz.zeroValue135 }
theorem bldX : Go.Proofs.Builder.Extra Tryz.prog bld_ren := {
  sizeBuilder := by kernel_rfl
  liesBuilder := by kernel_rfl
  t5 := Tryz.underlying5
  a5 := Tryz.isAgg5
  z5 := Tryz.sizeOf5
  v5 := Tryz.zeroValue5
  infoByte := by kernel_rfl
  cellsByte := by kernel_rfl
  sizeByte := by kernel_rfl
  neB5 := by decide }
end Go.Proofs.YtbdfcbhnjdlabaaGreat
end
section
/- A number's bytes. -/
namespace Go.Proofs.YtbdfcbhnjdlabaaGreat
def packB (n : Nat) : List UInt8 := if _h : n < 128 then [UInt8.ofNat n] else UInt8.ofNat (n % 128 + 128) :: packB (n / 128)
termination_by n
decreasing_by omega
noncomputable def packI (n : Int) : Option (List UInt8) := @ite _ (n < 72057594037927936) (Classical.propDecidable _) (some (packB n.toNat)) none
theorem packI_is {n : Int} (h : n < 72057594037927936) : packI n = some (packB n.toNat) := if_pos h
theorem packB_lo {n : Nat} (h : n < 128) : packB n = [UInt8.ofNat n] := by rw [packB, dif_pos h]
theorem packB_hi {n : Nat} (h : ¬ n < 128) : packB n = UInt8.ofNat (n % 128 + 128) :: packB (n / 128) := by rw [packB, dif_neg h]
theorem packB_pos (n : Nat) : 0 < (packB n).length := by
  by_cases h : n < 128
  · rw [packB_lo h]; simp
  · rw [packB_hi h]; simp
theorem packB_len : ∀ (j n : Nat), n < 2 ^ (7 * (j + 1)) → (packB n).length ≤ j + 1
  | 0, n, h => by
    have h : n < 128 := h
    rw [packB_lo h]; simp
  | j + 1, n, h => by
    by_cases h1 : n < 128
    · rw [packB_lo h1]; simp
    · have e2 : 2 ^ (7 * (j + 1 + 1)) = 2 ^ (7 * (j + 1)) * 128 := by rw [show 7 * (j + 1 + 1) = 7 * (j + 1) + 7 by omega, Nat.pow_add]
      rw [packB_hi h1, List.length_cons]
      have := packB_len j (n / 128) (by rw [e2] at h; omega)
      omega
end Go.Proofs.YtbdfcbhnjdlabaaGreat
end
section
/- A function by hand: of a number, that tells a text, and turns nothing that was there. -/
namespace Go.Proofs.YtbdfcbhnjdlabaaGreat.Pal
open Go
variable {P : Program}
theorem pureIS_ok [MonoC] (hoff : ¬ MonoC.on) {f : Nat} {k : IntKind} {F : Int → Option (List UInt8)} (he : ∀ args w, (callFunc f args).run P w = .ok (.enter f args) w)
    (h : ∀ (n : Int) (r : List UInt8), F n = some r → ∀ w : World, Calls P f #[.int k n] w fun e w' => e = .returned (.string ⟨r.toArray⟩) ∧ RowKit.Below w.heap.size w w') :
    CallOK P f (Sg.entry ⟨[.dat (.int k)], [], .dat .str, []⟩ F) := by
  refine ⟨fun α args objs K => entry_nat α args objs K, fun args objs vr os hval X G w argv tA tM hW hTab hX hA hM hcnt htok => ?_⟩
  obtain ⟨ds, x, r, h1, h2, h3, rfl, rfl⟩ := entry_val hval
  obtain ⟨hl1, hl2⟩ := pull_length _ _ _ _ h1
  obtain ⟨hs1, hs2⟩ := (dec_asL _ _ _ h2).split hl1
  have hA2 := lay_rep _ _ _ _ _ _ _ h1 hs1 hA
  have hobj : objs = [] := List.eq_nil_of_length_eq_zero hs2.lengths.1
  subst hobj
  obtain ⟨x0, xs0, t1, t2, rfl, ht12, hT0, rfl, rfl⟩ := hA2
  have hx0 : x0 = .int k x := by
    obtain ⟨cs, ⟨c1, c2⟩, c3⟩ := hT0
    have c1' : cs = [.int k x] := c1
    have c3' : cs = [x0] := c3
    rw [c1'] at c3'
    injection c3' with c3'; exact c3'.symm
  subst hx0
  refine .inl ⟨he _ _, Calls.mono (h x r h3 w) fun e w' hh => ?_⟩
  obtain ⟨rfl, hb⟩ := hh
  have hE : Ev X G w G w' := ⟨⟨hb.os, hb.tape, hb.output, hb.size, fun b hb' => .inl (hb.block b hb'), fun h => absurd h hoff⟩, Im.le_refl _, fun _ _ _ h => .inl h, fun _ _ _ => rfl⟩
  have hcell : ∀ b o, b < w.heap.size → w'.cell? ⟨b, o, none⟩ = w.cell? ⟨b, o, none⟩ := fun b o hlt => World.cell?_of_block (w := w) (hb.block b hlt)
  refine ⟨G, hE, ⟨fun b o v hv => ?_, hW.io, fun b o k hk => Nat.lt_of_lt_of_le (hW.lt b o k hk) hb.size⟩, fun _ _ => rfl, [], [], [], ?_, rfl, rfl, fun g => by simp, fun g hg => by simp at hg⟩
  · have hh := hW.holds b o v hv
    rw [hcell b o (World.block_lt_of_cell? w _ hh)]; exact hh
  · exact ⟨[.string ⟨r.toArray⟩], ⟨rfl, rfl⟩, rfl⟩
end Go.Proofs.YtbdfcbhnjdlabaaGreat.Pal
end
section
/- pack.Int: what it does on the machine. -/
namespace Go.Proofs.YtbdfcbhnjdlabaaGreat
open Go Go.RowKit
theorem wb_is (B b : Nat) (bs : List Value) (c : Int) (w : World) (h : Lib.IsBuilder 120 5 B b bs w) (hlen : bs.length + 1 ≤ 140737488355328) (hBw : B ≤ w.heap.size) :
    Calls Tryz.prog 82 #[.pointer (some ⟨b, 0, none⟩), .int .u8 c] w fun e w' => e = .returned .nilIface ∧ (Lib.BuilderAt 120 5 B b (.pointer (some ⟨b, 0, none⟩)) (bs ++ [.int .u8 c]) w' ∧ Below B w w') :=
  Any.Builder_WriteByte laysWB bldX B b bs c w h hlen hBw
theorem bstr_is (B b : Nat) (l : List UInt8) (w : World) (h : Lib.IsBuilder 120 5 B b (Lib.byteCells l) w) (h0 : l ≠ []) :
    Calls Tryz.prog 83 #[.pointer (some ⟨b, 0, none⟩)] w fun e w' => e = .returned (.string ⟨l.toArray⟩) ∧ Below B w w' :=
  Any.Builder_String laysBS bldX B b l w h h0
theorem and127 {c : Nat} (h : c < 9000000000000000000) : bits .and .i64 (c : Int) 127 = ((c % 128 : Nat) : Int) := by
  show IntKind.wrap .i64 (((BitVec.ofInt 64 (c : Int) &&& BitVec.ofInt 64 127).toNat : Nat) : Int) = _
  have e : (BitVec.ofInt 64 (c : Int) &&& BitVec.ofInt 64 127).toNat = c % 128 := by
    have e1 : BitVec.ofInt 64 (c : Int) = BitVec.ofNat 64 c := by simp
    have e2 : BitVec.ofInt 64 127 = BitVec.ofNat 64 127 := by decide
    rw [e1, e2, BitVec.toNat_and, BitVec.toNat_ofNat, BitVec.toNat_ofNat, Nat.mod_eq_of_lt (show c < 2 ^ 64 by omega), show 127 % 2 ^ 64 = 2 ^ 7 - 1 by decide, Nat.and_two_pow_sub_one_eq_mod]
  rw [e]
  rw [IntKind.wrap_i64]; omega
theorem or128 {a : Nat} (ha : a < 128) : bits .or .i64 (a : Int) 128 = ((a + 128 : Nat) : Int) := by
  show IntKind.wrap .i64 (((BitVec.ofInt 64 (a : Int) ||| BitVec.ofInt 64 128).toNat : Nat) : Int) = _
  have e : (BitVec.ofInt 64 (a : Int) ||| BitVec.ofInt 64 128).toNat = a + 128 := by
    have e1 : BitVec.ofInt 64 (a : Int) = BitVec.ofNat 64 a := by simp
    have e2 : BitVec.ofInt 64 128 = BitVec.ofNat 64 (2 ^ 7 * 1) := by decide
    rw [e1, e2, BitVec.toNat_or, BitVec.toNat_ofNat, BitVec.toNat_ofNat, Nat.mod_eq_of_lt (show a < 2 ^ 64 by omega), show 2 ^ 7 * 1 % 2 ^ 64 = 2 ^ 7 * 1 by decide, Nat.or_comm, ← Nat.two_pow_add_eq_or_of_lt (show a < 2 ^ 7 from ha)]; omega
  rw [e]
  rw [IntKind.wrap_i64]; omega
theorem cells_snoc (acc : List UInt8) (c : Nat) (h : c < 256) : Lib.byteCells acc ++ [.int .u8 (c : Int)] = Lib.byteCells (acc ++ [UInt8.ofNat c]) := by
  rw [Lib.byteCells_append]
  have : (UInt8.ofNat c).toNat = c := by rw [UInt8.toNat_ofNat']; omega
  simp [Lib.byteCells, this]
set_option maxHeartbeats 4000000 in
set_option maxRecDepth 1000000 in
theorem packint_walk (n : Int) (hn : n < 72057594037927936) (w : World) :
    Calls Tryz.prog 57 #[.int .i64 n] w fun e w' => e = .returned (.string ⟨(packB n.toNat).toArray⟩) ∧ Below w.heap.size w w' := by
  go_enter Tryz.func57, Tryz.ntmps57
  go_wp2
  go_loopw [0] (fun v wr => ∃ (m : Int) (acc : List UInt8), v = .int .i64 m ∧ m < 72057594037927936 ∧ Lib.IsBuilder 120 5 w.heap.size w.heap.size (Lib.byteCells acc) wr ∧ Below w.heap.size w wr ∧ acc ++ packB m.toNat = packB n.toNat ∧ (acc = [] ∨ 0 ≤ m)) (fun v _ => (Lib.intOf v).toNat)
  case atStart =>
    exact ⟨n, [], rfl, hn, Lib.fresh_isBuilder 120 5 w, (Below.refl _ w).alloc (Nat.le_refl _) _, rfl, .inl rfl⟩
  case round =>
    obtain ⟨m, acc, rfl, hm, hI, hbw, hacc, hor⟩ := hrel
    have hlen : (Lib.byteCells acc).length + 1 ≤ 140737488355328 := by
      have h1 := packB_len 7 n.toNat (by show n.toNat < 72057594037927936; omega)
      have h2 := congrArg List.length hacc
      rw [List.length_append] at h2
      rw [Lib.byteCells_length]; omega
    by_cases h128 : 128 ≤ m
    · go_wp2_with (go_at_call 82; refine (wb_is w.heap.size w.heap.size _ _ _ hI hlen hbw.size).mono ?_)
      rintro e W1 ⟨rfl, h1, b1⟩
      go_wp2
      go_roundw
      case rel =>
        obtain ⟨c, rfl⟩ : ∃ c : Nat, m = (c : Int) := ⟨m.toNat, by omega⟩
        have hc : ¬ c < 128 := by omega
        have e1 : bits .or .i64 (bits .and .i64 (c : Int) 127) 128 % 256 = ((c % 128 + 128 : Nat) : Int) := by
          rw [and127 (by omega), or128 (by omega)]; omega
        rw [e1, cells_snoc _ _ (by omega)] at h1
        refine ⟨((c / 128 : Nat) : Int), acc ++ [UInt8.ofNat (c % 128 + 128)], by congr 1, by omega, .inr h1, hbw.trans b1, ?_, .inr (by omega)⟩
        rw [← hacc, Int.toNat_natCast, Int.toNat_natCast, packB_hi hc, List.append_assoc]; rfl
      case measure =>
        show (m / 128).toNat < m.toNat
        omega
    · go_wp2_with (go_at_call 82; refine (wb_is w.heap.size w.heap.size _ _ _ hI hlen hbw.size).mono ?_)
      rintro e W1 rfl h1 b1
      have h2 : Lib.IsBuilder 120 5 w.heap.size w.heap.size (Lib.byteCells (packB n.toNat)) W1 := by
        have e0 : max m 0 = ((m.toNat : Nat) : Int) := by omega
        rw [e0, cells_snoc _ _ (by omega)] at h1
        rw [← hacc, packB_lo (by omega)]
        exact .inr h1
      go_wp2_with (go_at_call 83; refine (bstr_is w.heap.size w.heap.size _ _ h2 ?_).mono ?_)
      · intro h0; have := packB_pos n.toNat; rw [h0] at this; exact absurd this (by decide)
      · rintro e W2 ⟨rfl, b2⟩
        go_wp2
        go_ret
        exact ⟨rfl, (hbw.trans b1).trans b2⟩
open Pal in
noncomputable def packIntE : Entry := Sg.entry ⟨[.dat (.int .i64)], [], .dat .str, []⟩ packI
open Pal in
theorem packint_ok : CallOK Tryz.prog 57 packIntE :=
  pureIS_ok monoOff_off (enters_of Tryz.func57 (by kernel_rfl) rfl) fun n r h w => by
    unfold packI at h
    by_cases hn : n < 72057594037927936
    · rw [if_pos hn] at h; injection h with h; subst h; exact packint_walk n hn w
    · rw [if_neg hn] at h; cases h
end Go.Proofs.YtbdfcbhnjdlabaaGreat
end
section
/- The program's functions, as plain equations. -/
namespace Go.Proofs.YtbdfcbhnjdlabaaGreat
open Pal
set_option maxRecDepth 100000
noncomputable def pack_Open.body : Go.Code := Tryz.f4.body.getD .skip
noncomputable def pack_Open.rs : List Go.ResultVar := Tryz.f4.results.toList
def pack_Open.regs : List (Nat × RInfo) := [(0, ri [0] []), (1, ri [2] [5])]
noncomputable def pack_Open.cx (k : Nat) : Cx := ⟨tt, pp, [], pack_Open.regs, k, mm⟩
@[reducible] def pack_Open.sg : Sg := ⟨[.dat .str], [], .new, [tpackReader]⟩
noncomputable def pack_Open.f (k : Nat) (a0 : Ty.D .str) : Option (Sg.Out pack_Open.sg) := Sg.fn pack_Open.sg (pack_Open.cx k) pack_Open.body pack_Open.rs a0
theorem pack_Open.f_eq (k : Nat) (a0 : Ty.D .str) : pack_Open.f k a0 = some ((), (a0, 0)) := by kernel_rfl
noncomputable def pack_Open.e (k : Nat) : Entry := Sg.entry pack_Open.sg fun x => pack_Open.f k x
theorem pack_Open.ok (k : Nat) : CallOK Tryz.prog 4 (pack_Open.e k) := fn_ok (c := pack_Open.cx k) (code := pack_Open.body) (TT.of tt_ok pp_ok mm_ok) (fns_ok trivial) mixed Tryz.func4 (by kernel_rfl) (by kernel_rfl) (by kernel_rfl) (by kernel_rfl) (by kernel_rfl) (by kernel_rfl) (fun x => by kernel_rfl)
noncomputable def pack_Reader_fine.body : Go.Code := Tryz.f21.body.getD .skip
noncomputable def pack_Reader_fine.rs : List Go.ResultVar := Tryz.f21.results.toList
def pack_Reader_fine.regs : List (Nat × RInfo) := [(0, ri [0] [1000000]), (1, ri [2] [1000000])]
noncomputable def pack_Reader_fine.cx (k : Nat) : Cx := ⟨tt, pp, [], pack_Reader_fine.regs, k, mm⟩
@[reducible] def pack_Reader_fine.sg : Sg := ⟨[.ref], [tpackReader], .dat .bool, [tpackReader]⟩
noncomputable def pack_Reader_fine.f (k : Nat) (o0 : Ty.D tpackReader) : Option (Sg.Out pack_Reader_fine.sg) := Sg.fn pack_Reader_fine.sg (pack_Reader_fine.cx k) pack_Reader_fine.body pack_Reader_fine.rs o0
theorem pack_Reader_fine.f_eq (k : Nat) (o0 : Ty.D tpackReader) : pack_Reader_fine.f k o0 = some ((ieq o0.2 0), o0) := by kernel_rfl
noncomputable def pack_Reader_fine.e (k : Nat) : Entry := Sg.entry pack_Reader_fine.sg fun x => pack_Reader_fine.f k x
theorem pack_Reader_fine.ok (k : Nat) : CallOK Tryz.prog 21 (pack_Reader_fine.e k) := fn_ok (c := pack_Reader_fine.cx k) (code := pack_Reader_fine.body) (TT.of tt_ok pp_ok mm_ok) (fns_ok trivial) mixed Tryz.func21 (by kernel_rfl) (by kernel_rfl) (by kernel_rfl) (by kernel_rfl) (by kernel_rfl) (by kernel_rfl) (fun x => by kernel_rfl)
noncomputable def pack_Reader_Fail.body : Go.Code := Tryz.f31.body.getD .skip
noncomputable def pack_Reader_Fail.rs : List Go.ResultVar := Tryz.f31.results.toList
def pack_Reader_Fail.regs : List (Nat × RInfo) := [(0, ri [0,1,5] [5,1000000]), (1, ri [] [1000000])]
noncomputable def pack_Reader_Fail.cx (k : Nat) : Cx := ⟨tt, pp, [(21, (pack_Reader_fine.e k))], pack_Reader_Fail.regs, k, mm⟩
@[reducible] def pack_Reader_Fail.sg : Sg := ⟨[.ref, .dat (.int .i64)], [tpackReader], .unit, [tpackReader]⟩
noncomputable def pack_Reader_Fail.f (k : Nat) (a1 : Ty.D (.int .i64)) (o0 : Ty.D tpackReader) : Option (Sg.Out pack_Reader_Fail.sg) := Sg.fn pack_Reader_Fail.sg (pack_Reader_Fail.cx k) pack_Reader_Fail.body pack_Reader_Fail.rs (a1, o0)
theorem pack_Reader_Fail.f_eq (k : Nat) (a1 : Ty.D (.int .i64)) (o0 : Ty.D tpackReader) : pack_Reader_Fail.f k a1 o0 = bnd (pack_Reader_fine.f k o0) fun r0 => br r0.1 (some ((), (r0.2.1, a1))) (some ((), r0.2)) := by kernel_rfl
noncomputable def pack_Reader_Fail.e (k : Nat) : Entry := Sg.entry pack_Reader_Fail.sg fun x => pack_Reader_Fail.f k x.1 x.2
theorem pack_Reader_Fail.ok (k : Nat) : CallOK Tryz.prog 31 (pack_Reader_Fail.e k) := fn_ok (c := pack_Reader_Fail.cx k) (code := pack_Reader_Fail.body) (TT.of tt_ok pp_ok mm_ok) (fns_ok ⟨(pack_Reader_fine.ok k), trivial⟩) mixed Tryz.func31 (by kernel_rfl) (by kernel_rfl) (by kernel_rfl) (by kernel_rfl) (by kernel_rfl) (by kernel_rfl) (fun x => by kernel_rfl)
noncomputable def pack_Reader_Int.body : Go.Code := Tryz.f38.body.getD .skip
noncomputable def pack_Reader_Int.rs : List Go.ResultVar := Tryz.f38.results.toList
def pack_Reader_Int.regs : List (Nat × RInfo) := [(0, ri [0] [1000000]), (1, ri [0,3] [1000000]), (2, ri [0,3,4] [1000000]), (3, ⟨[0, 3, 4, 7], [7, 1000000], [], [], 0, [0, 3, 4], [1000000], [], [], []⟩), (5, ri [0,3,4,10] [1000000]), (6, ri [0,3,4] [1000000]), (7, ri [0,3,4,15] [1000000]), (8, ri [0,3,4] [1000000]), (9, ri [0,3,4,5] [1000000]), (10, ri [0,3,4,5] [1000000]), (11, ri [0,3,4,5,39] [1000000]), (12, ri [0,3,4,42] [1000000]), (13, ri [0,3,4] [1000000]), (14, ri [3] [1000000]), (15, ri [2] [1000000]), (4, ri [0,3,4] [1000000]), (16, ri [2] [1000000])]
noncomputable def pack_Reader_Int.cx (k : Nat) : Cx := ⟨tt, pp, [(21, (pack_Reader_fine.e k)), (31, (pack_Reader_Fail.e k))], pack_Reader_Int.regs, k, mm⟩
@[reducible] def pack_Reader_Int.sg : Sg := ⟨[.ref], [tpackReader], .dat (.int .i64), [tpackReader]⟩
noncomputable def pack_Reader_Int.f (k : Nat) (o0 : Ty.D tpackReader) : Option (Sg.Out pack_Reader_Int.sg) := Sg.fn pack_Reader_Int.sg (pack_Reader_Int.cx k) pack_Reader_Int.body pack_Reader_Int.rs o0
noncomputable def pack_Reader_Int.l3 (k : Nat) (n : Nat) (x3 : Ty.D (.int .i64)) (x4 : Ty.D (.int .i64)) (m1000000 : Ty.D tpackReader) : Option (Sg.Out pack_Reader_Int.sg) := loopAt (pack_Reader_Int.cx k) pack_Reader_Int.body [1, 1, 0, 1, 0] 3 [0, 3, 4] [1000000] [] (Sg.K pack_Reader_Int.sg (pack_Reader_Int.cx k) pack_Reader_Int.rs) n ⟨[(0, .ref 1000000 []), (3, .dat (.int .i64) x3), (4, .dat (.int .i64) x4)], [(1000000, .dat tpackReader m1000000)]⟩
theorem pack_Reader_Int.f_eq (k : Nat) (o0 : Ty.D tpackReader) : pack_Reader_Int.f k o0 = pack_Reader_Int.l3 k k 0 0 o0 := by kernel_rfl
theorem pack_Reader_Int.l3_eq (k : Nat) (n3 : Nat) (x3 : Ty.D (.int .i64)) (x4 : Ty.D (.int .i64)) (m1000000 : Ty.D tpackReader) : pack_Reader_Int.l3 k (n3 + 1) x3 x4 m1000000 = bnd (pack_Reader_fine.f k m1000000) fun r0 => br r0.1 (br (ieq x4 8) (bnd (pack_Reader_Fail.f k 6 r0.2) fun r1 => pack_Reader_Int.l3 k n3 x3 (iadd .i64 x4 1) r1.2) (br (ile (ilen r0.2.1) x4) (bnd (pack_Reader_Fail.f k 4 r0.2) fun r2 => pack_Reader_Int.l3 k n3 x3 (iadd .i64 x4 1) r2.2) (br (inL x4 r0.2.1) (br (ilt (imul .i64 7 x4) 0) none (br (ile 128 (iwrap .i64 (byteAt r0.2.1 x4))) (pack_Reader_Int.l3 k n3 (ior .i64 x3 (ishl .i64 (iand .i64 (iwrap .i64 (byteAt r0.2.1 x4)) 127) (imul .i64 7 x4))) (iadd .i64 x4 1) r0.2) (br (ieq (iwrap .i64 (byteAt r0.2.1 x4)) 0) (br (ilt 0 x4) (bnd (pack_Reader_Fail.f k 3 r0.2) fun r3 => pack_Reader_Int.l3 k n3 (ior .i64 x3 (ishl .i64 (iand .i64 (iwrap .i64 (byteAt r0.2.1 x4)) 127) (imul .i64 7 x4))) (iadd .i64 x4 1) r3.2) (br (inS (iadd .i64 x4 1) (ilen r0.2.1) (ilen r0.2.1)) (some ((ior .i64 x3 (ishl .i64 (iand .i64 (iwrap .i64 (byteAt r0.2.1 x4)) 127) (imul .i64 7 x4))), ((piece r0.2.1 (iadd .i64 x4 1) (ilen r0.2.1)), r0.2.2))) none)) (br (inS (iadd .i64 x4 1) (ilen r0.2.1) (ilen r0.2.1)) (some ((ior .i64 x3 (ishl .i64 (iand .i64 (iwrap .i64 (byteAt r0.2.1 x4)) 127) (imul .i64 7 x4))), ((piece r0.2.1 (iadd .i64 x4 1) (ilen r0.2.1)), r0.2.2))) none)))) none))) (some (0, r0.2)) := by kernel_rfl
noncomputable def pack_Reader_Int.e (k : Nat) : Entry := Sg.entry pack_Reader_Int.sg fun x => pack_Reader_Int.f k x
theorem pack_Reader_Int.ok (k : Nat) : CallOK Tryz.prog 38 (pack_Reader_Int.e k) := fn_ok (c := pack_Reader_Int.cx k) (code := pack_Reader_Int.body) (TT.of tt_ok pp_ok mm_ok) (fns_ok ⟨(pack_Reader_fine.ok k), (pack_Reader_Fail.ok k), trivial⟩) mixed Tryz.func38 (by kernel_rfl) (by kernel_rfl) (by kernel_rfl) (by kernel_rfl) (by kernel_rfl) (by kernel_rfl) (fun x => by kernel_rfl)
noncomputable def pack_Reader_Fault.body : Go.Code := Tryz.f8.body.getD .skip
noncomputable def pack_Reader_Fault.rs : List Go.ResultVar := Tryz.f8.results.toList
def pack_Reader_Fault.regs : List (Nat × RInfo) := [(0, ri [0] [1000000]), (1, ri [0,4] [1000000]), (2, ri [2] [1000000]), (3, ri [2] [1000000])]
noncomputable def pack_Reader_Fault.cx (k : Nat) : Cx := ⟨tt, pp, [], pack_Reader_Fault.regs, k, mm⟩
@[reducible] def pack_Reader_Fault.sg : Sg := ⟨[.ref], [tpackReader], .dat (.int .i64), [tpackReader]⟩
noncomputable def pack_Reader_Fault.f (k : Nat) (o0 : Ty.D tpackReader) : Option (Sg.Out pack_Reader_Fault.sg) := Sg.fn pack_Reader_Fault.sg (pack_Reader_Fault.cx k) pack_Reader_Fault.body pack_Reader_Fault.rs o0
theorem pack_Reader_Fault.f_eq (k : Nat) (o0 : Ty.D tpackReader) : pack_Reader_Fault.f k o0 = some (o0.2, o0) := by kernel_rfl
noncomputable def pack_Reader_Fault.e (k : Nat) : Entry := Sg.entry pack_Reader_Fault.sg fun x => pack_Reader_Fault.f k x
theorem pack_Reader_Fault.ok (k : Nat) : CallOK Tryz.prog 8 (pack_Reader_Fault.e k) := fn_ok (c := pack_Reader_Fault.cx k) (code := pack_Reader_Fault.body) (TT.of tt_ok pp_ok mm_ok) (fns_ok trivial) mixed Tryz.func8 (by kernel_rfl) (by kernel_rfl) (by kernel_rfl) (by kernel_rfl) (by kernel_rfl) (by kernel_rfl) (fun x => by kernel_rfl)
noncomputable def vec_Right.body : Go.Code := Tryz.f59.body.getD .skip
noncomputable def vec_Right.rs : List Go.ResultVar := Tryz.f59.results.toList
def vec_Right.regs : List (Nat × RInfo) := [(0, ri [1] [1]), (1, ri [5,6] []), (2, ⟨[5, 6, 7], [], [], [], 0, [5, 6], [], [], [], []⟩), (3, ri [4,5,6] []), (4, ri [5,6,14] []), (5, ri [2] []), (6, ri [5,6] []), (7, ri [2] [])]
noncomputable def vec_Right.cx (k : Nat) : Cx := ⟨tt, pp, [], vec_Right.regs, k, mm⟩
@[reducible] def vec_Right.sg : Sg := ⟨[.dat tVec], [], .dat .bool, []⟩
noncomputable def vec_Right.f (k : Nat) (a0 : Ty.D tVec) : Option (Sg.Out vec_Right.sg) := Sg.fn vec_Right.sg (vec_Right.cx k) vec_Right.body vec_Right.rs a0
noncomputable def vec_Right.l2 (k : Nat) (n : Nat) (x5 : Ty.D tVec) (x6 : Ty.D (.int .i64)) : Option (Sg.Out vec_Right.sg) := loopAt (vec_Right.cx k) vec_Right.body [1, 0, 1, 0] 2 [5, 6] [] [] (Sg.K vec_Right.sg (vec_Right.cx k) vec_Right.rs) n ⟨[(5, .dat tVec x5), (6, .dat (.int .i64) x6)], []⟩
theorem vec_Right.f_eq (k : Nat) (a0 : Ty.D tVec) : vec_Right.f k a0 = vec_Right.l2 k k a0 0 := by kernel_rfl
theorem vec_Right.l2_eq (k : Nat) (n2 : Nat) (x5 : Ty.D tVec) (x6 : Ty.D (.int .i64)) : vec_Right.l2 k (n2 + 1) x5 x6 = br (ilt x6 16) (br (inB x6 16) (br (ilt (rd (.int .i64) x5 (natOf x6)) 0) (some false) (br (ilt 1048576 (rd (.int .i64) x5 (natOf x6))) (some false) (vec_Right.l2 k n2 x5 (iadd .i64 x6 1)))) none) (some true) := by kernel_rfl
noncomputable def vec_Right.e (k : Nat) : Entry := Sg.entry vec_Right.sg fun x => vec_Right.f k x
theorem vec_Right.ok (k : Nat) : CallOK Tryz.prog 59 (vec_Right.e k) := fn_ok (c := vec_Right.cx k) (code := vec_Right.body) (TT.of tt_ok pp_ok mm_ok) (fns_ok trivial) mixed Tryz.func59 (by kernel_rfl) (by kernel_rfl) (by kernel_rfl) (by kernel_rfl) (by kernel_rfl) (by kernel_rfl) (fun x => by kernel_rfl)
noncomputable def vec_Read.body : Go.Code := Tryz.f33.body.getD .skip
noncomputable def vec_Read.rs : List Go.ResultVar := Tryz.f33.results.toList
def vec_Read.regs : List (Nat × RInfo) := [(0, ri [0,2] [2,1000000]), (1, ri [0,2,3] [2,3,1000000]), (2, ri [0,2,3,5] [2,3,1000000]), (3, ⟨[0, 2, 3, 5, 6], [2, 3, 1000000], [], [], 0, [0, 2, 3, 5], [2, 3, 1000000], [], [], []⟩), (4, ri [0,2,3,4,5] [2,3,1000000]), (5, ri [0,2,3,5] [2,3,1000000]), (6, ri [0,2,3,5] [2,3,1000000]), (7, ri [0,2,3,20] [2,3,1000000]), (8, ri [0,2,3] [2,3,1000000]), (9, ri [2,3,25] [2,3,1000000]), (10, ri [2] [2,1000000]), (11, ri [2] [2,1000000])]
noncomputable def vec_Read.cx (k : Nat) : Cx := ⟨tt, pp, [(38, (pack_Reader_Int.e k)), (8, (pack_Reader_Fault.e k)), (59, (vec_Right.e k)), (31, (pack_Reader_Fail.e k))], vec_Read.regs, k, mm⟩
@[reducible] def vec_Read.sg : Sg := ⟨[.ref], [tpackReader], .dat tVec, [tpackReader]⟩
noncomputable def vec_Read.f (k : Nat) (o0 : Ty.D tpackReader) : Option (Sg.Out vec_Read.sg) := Sg.fn vec_Read.sg (vec_Read.cx k) vec_Read.body vec_Read.rs o0
noncomputable def vec_Read.l3 (k : Nat) (n : Nat) (x5 : Ty.D (.int .i64)) (m2 : Ty.D tVec) (m3 : Ty.D tVec) (m1000000 : Ty.D tpackReader) : Option (Sg.Out vec_Read.sg) := loopAt (vec_Read.cx k) vec_Read.body [1, 1, 0, 1, 0] 3 [0, 2, 3, 5] [2, 3, 1000000] [] (Sg.K vec_Read.sg (vec_Read.cx k) vec_Read.rs) n ⟨[(0, .ref 1000000 []), (2, .ref 2 []), (3, .ref 3 []), (5, .dat (.int .i64) x5)], [(2, .dat tVec m2), (3, .dat tVec m3), (1000000, .dat tpackReader m1000000)]⟩
theorem vec_Read.f_eq (k : Nat) (o0 : Ty.D tpackReader) : vec_Read.f k o0 = vec_Read.l3 k k 0 (zarr 16 0) (zarr 16 0) o0 := by kernel_rfl
theorem vec_Read.l3_eq (k : Nat) (n3 : Nat) (x5 : Ty.D (.int .i64)) (m2 : Ty.D tVec) (m3 : Ty.D tVec) (m1000000 : Ty.D tpackReader) : vec_Read.l3 k (n3 + 1) x5 m2 m3 m1000000 = br (ilt x5 16) (bnd (pack_Reader_Int.f k m1000000) fun r0 => br (inB x5 16) (vec_Read.l3 k n3 (iadd .i64 x5 1) m2 (upd m3 (natOf x5) r0.1) r0.2) none) (bnd (pack_Reader_Fault.f k m1000000) fun r1 => br (ieq r1.1 0) (bnd (vec_Right.f k m3) fun r2 => br (bnot r2) (bnd (pack_Reader_Fail.f k 2 r1.2) fun r3 => bnd (pack_Reader_Fault.f k r3.2) fun r4 => br (bnot (ieq r4.1 0)) (some ((zarr 16 0), r4.2)) (some (m3, r4.2))) (bnd (pack_Reader_Fault.f k r1.2) fun r5 => br (bnot (ieq r5.1 0)) (some ((zarr 16 0), r5.2)) (some (m3, r5.2)))) (bnd (pack_Reader_Fault.f k r1.2) fun r6 => br (bnot (ieq r6.1 0)) (some ((zarr 16 0), r6.2)) (some (m3, r6.2)))) := by kernel_rfl
noncomputable def vec_Read.e (k : Nat) : Entry := Sg.entry vec_Read.sg fun x => vec_Read.f k x
theorem vec_Read.ok (k : Nat) : CallOK Tryz.prog 33 (vec_Read.e k) := fn_ok (c := vec_Read.cx k) (code := vec_Read.body) (TT.of tt_ok pp_ok mm_ok) (fns_ok ⟨(pack_Reader_Int.ok k), (pack_Reader_Fault.ok k), (vec_Right.ok k), (pack_Reader_Fail.ok k), trivial⟩) mixed Tryz.func33 (by kernel_rfl) (by kernel_rfl) (by kernel_rfl) (by kernel_rfl) (by kernel_rfl) (by kernel_rfl) (fun x => by kernel_rfl)
noncomputable def pack_Reader_Many.body : Go.Code := Tryz.f36.body.getD .skip
noncomputable def pack_Reader_Many.rs : List Go.ResultVar := Tryz.f36.results.toList
def pack_Reader_Many.regs : List (Nat × RInfo) := [(0, ri [0,1] [1000000]), (1, ri [0,1,5] [7,1000000]), (2, ri [0,1,5,8] [7,1000000]), (3, ri [4] [7,1000000]), (4, ri [0,5,12] [7,1000000]), (5, ri [] [1000000]), (6, ri [4] [7,1000000]), (7, ri [0,5,18] [7,1000000]), (8, ri [] [1000000]), (9, ri [4] [7,1000000]), (10, ri [4] [7,1000000])]
noncomputable def pack_Reader_Many.cx (k : Nat) : Cx := ⟨tt, pp, [(38, (pack_Reader_Int.e k)), (21, (pack_Reader_fine.e k)), (31, (pack_Reader_Fail.e k))], pack_Reader_Many.regs, k, mm⟩
@[reducible] def pack_Reader_Many.sg : Sg := ⟨[.ref, .dat (.int .i64)], [tpackReader], .dat (.int .i64), [tpackReader]⟩
noncomputable def pack_Reader_Many.f (k : Nat) (a1 : Ty.D (.int .i64)) (o0 : Ty.D tpackReader) : Option (Sg.Out pack_Reader_Many.sg) := Sg.fn pack_Reader_Many.sg (pack_Reader_Many.cx k) pack_Reader_Many.body pack_Reader_Many.rs (a1, o0)
theorem pack_Reader_Many.f_eq (k : Nat) (a1 : Ty.D (.int .i64)) (o0 : Ty.D tpackReader) : pack_Reader_Many.f k a1 o0 = bnd (pack_Reader_Int.f k o0) fun r0 => bnd (pack_Reader_fine.f k r0.2) fun r1 => br (bnot r1.1) (some (0, r1.2)) (br (ilt a1 r0.1) (bnd (pack_Reader_Fail.f k 6 r1.2) fun r2 => some (0, r2.2)) (br (ilt (ilen r1.2.1) r0.1) (bnd (pack_Reader_Fail.f k 4 r1.2) fun r3 => some (0, r3.2)) (some (r0.1, r1.2)))) := by kernel_rfl
noncomputable def pack_Reader_Many.e (k : Nat) : Entry := Sg.entry pack_Reader_Many.sg fun x => pack_Reader_Many.f k x.1 x.2
theorem pack_Reader_Many.ok (k : Nat) : CallOK Tryz.prog 36 (pack_Reader_Many.e k) := fn_ok (c := pack_Reader_Many.cx k) (code := pack_Reader_Many.body) (TT.of tt_ok pp_ok mm_ok) (fns_ok ⟨(pack_Reader_Int.ok k), (pack_Reader_fine.ok k), (pack_Reader_Fail.ok k), trivial⟩) mixed Tryz.func36 (by kernel_rfl) (by kernel_rfl) (by kernel_rfl) (by kernel_rfl) (by kernel_rfl) (by kernel_rfl) (fun x => by kernel_rfl)
noncomputable def dot_Read.body : Go.Code := Tryz.f37.body.getD .skip
noncomputable def dot_Read.rs : List Go.ResultVar := Tryz.f37.results.toList
def dot_Read.regs : List (Nat × RInfo) := [(0, ri [0,2] [2,1000000]), (1, ri [0,2,3] [2,3,1000000]), (2, ri [0,2,3,16] [2,3,1000000]), (3, ri [0,2,3] [2,3,1000000]), (4, ri [2,3,21] [2,3,1000000]), (5, ri [2] [2,1000000]), (6, ri [2] [2,1000000])]
noncomputable def dot_Read.cx (k : Nat) : Cx := ⟨tt, pp, [(38, (pack_Reader_Int.e k)), (8, (pack_Reader_Fault.e k)), (60, (dot_Right.e k)), (31, (pack_Reader_Fail.e k))], dot_Read.regs, k, mm⟩
@[reducible] def dot_Read.sg : Sg := ⟨[.ref], [tpackReader], .dat tDot, [tpackReader]⟩
noncomputable def dot_Read.f (k : Nat) (o0 : Ty.D tpackReader) : Option (Sg.Out dot_Read.sg) := Sg.fn dot_Read.sg (dot_Read.cx k) dot_Read.body dot_Read.rs o0
theorem dot_Read.f_eq (k : Nat) (o0 : Ty.D tpackReader) : dot_Read.f k o0 = bnd (pack_Reader_Int.f k o0) fun r0 => bnd (pack_Reader_Int.f k r0.2) fun r1 => bnd (pack_Reader_Fault.f k r1.2) fun r2 => br (ieq r2.1 0) (bnd (dot_Right.f k (r0.1, r1.1)) fun r3 => br (bnot r3) (bnd (pack_Reader_Fail.f k 2 r2.2) fun r4 => bnd (pack_Reader_Fault.f k r4.2) fun r5 => br (bnot (ieq r5.1 0)) (some ((0, 0), r5.2)) (some ((r0.1, r1.1), r5.2))) (bnd (pack_Reader_Fault.f k r2.2) fun r6 => br (bnot (ieq r6.1 0)) (some ((0, 0), r6.2)) (some ((r0.1, r1.1), r6.2)))) (bnd (pack_Reader_Fault.f k r2.2) fun r7 => br (bnot (ieq r7.1 0)) (some ((0, 0), r7.2)) (some ((r0.1, r1.1), r7.2))) := by kernel_rfl
noncomputable def dot_Read.e (k : Nat) : Entry := Sg.entry dot_Read.sg fun x => dot_Read.f k x
theorem dot_Read.ok (k : Nat) : CallOK Tryz.prog 37 (dot_Read.e k) := fn_ok (c := dot_Read.cx k) (code := dot_Read.body) (TT.of tt_ok pp_ok mm_ok) (fns_ok ⟨(pack_Reader_Int.ok k), (pack_Reader_Fault.ok k), (dot_Right.ok k), (pack_Reader_Fail.ok k), trivial⟩) mixed Tryz.func37 (by kernel_rfl) (by kernel_rfl) (by kernel_rfl) (by kernel_rfl) (by kernel_rfl) (by kernel_rfl) (fun x => by kernel_rfl)
noncomputable def dots_ReadList.body : Go.Code := Tryz.f34.body.getD .skip
noncomputable def dots_ReadList.rs : List Go.ResultVar := Tryz.f34.results.toList
def dots_ReadList.regs : List (Nat × RInfo) := [(0, ri [0,1] [1000000]), (1, ri [0,1,5] [1000000]), (2, ri [0,5,8,9] [8,1000000]), (3, ⟨[0, 5, 8, 9, 10], [8, 1000000], [], [], 0, [0, 5, 8, 9], [8, 1000000], [], [], []⟩), (4, ⟨[0, 5, 8, 9], [8, 1000000], [0, 4, 5], [], 0, [], [], [], [], []⟩), (5, ri [0,5,8,9] [8,1000000]), (6, ri [5,19] [1000000]), (7, ri [4] [1000000]), (8, ⟨[4], [1000000], [0, 1], [], 0, [], [], [], [], []⟩)]
noncomputable def dots_ReadList.cx (k : Nat) : Cx := ⟨tt, pp, [(36, (pack_Reader_Many.e k)), (37, (dot_Read.e k)), (8, (pack_Reader_Fault.e k))], dots_ReadList.regs, k, mm⟩
@[reducible] def dots_ReadList.sg : Sg := ⟨[.ref, .dat (.int .i64)], [tpackReader], .own tDot, [tpackReader]⟩
noncomputable def dots_ReadList.f (k : Nat) (a1 : Ty.D (.int .i64)) (o0 : Ty.D tpackReader) : Option (Sg.Out dots_ReadList.sg) := Sg.fn dots_ReadList.sg (dots_ReadList.cx k) dots_ReadList.body dots_ReadList.rs (a1, o0)
noncomputable def dots_ReadList.l3 (k : Nat) (n : Nat) (x5 : List (Ty.D tDot)) (x8 : Ty.D (.int .i64)) (x9 : Ty.D (.int .i64)) (m1000000 : Ty.D tpackReader) : Option (Sg.Out dots_ReadList.sg) := loopAt (dots_ReadList.cx k) dots_ReadList.body [1, 1, 0, 1, 0] 3 [0, 5, 8, 9] [8, 1000000] [] (Sg.K dots_ReadList.sg (dots_ReadList.cx k) dots_ReadList.rs) n ⟨[(0, .ref 1000000 []), (5, .own tDot x5), (8, .dat (.int .i64) x8), (9, .dat (.int .i64) x9)], [(1000000, .dat tpackReader m1000000)]⟩
theorem dots_ReadList.f_eq (k : Nat) (a1 : Ty.D (.int .i64)) (o0 : Ty.D tpackReader) : dots_ReadList.f k a1 o0 = bnd (pack_Reader_Many.f k a1 o0) fun r0 => dots_ReadList.l3 k k [] r0.1 0 r0.2 := by kernel_rfl
theorem dots_ReadList.l3_eq (k : Nat) (n3 : Nat) (x5 : List (Ty.D tDot)) (x8 : Ty.D (.int .i64)) (x9 : Ty.D (.int .i64)) (m1000000 : Ty.D tpackReader) : dots_ReadList.l3 k (n3 + 1) x5 x8 x9 m1000000 = br (ilt x9 x8) (bnd (dot_Read.f k m1000000) fun r0 => br (room x5 (r0.1 :: [])) (dots_ReadList.l3 k n3 (app x5 (r0.1 :: [])) x8 (iadd .i64 x9 1) r0.2) none) (bnd (pack_Reader_Fault.f k m1000000) fun r1 => br (bnot (ieq r1.1 0)) (some ([], r1.2)) (some (x5, r1.2))) := by kernel_rfl
noncomputable def dots_ReadList.e (k : Nat) : Entry := Sg.entry dots_ReadList.sg fun x => dots_ReadList.f k x.1 x.2
theorem dots_ReadList.ok (k : Nat) : CallOK Tryz.prog 34 (dots_ReadList.e k) := fn_ok (c := dots_ReadList.cx k) (code := dots_ReadList.body) (TT.of tt_ok pp_ok mm_ok) (fns_ok ⟨(pack_Reader_Many.ok k), (dot_Read.ok k), (pack_Reader_Fault.ok k), trivial⟩) mixed Tryz.func34 (by kernel_rfl) (by kernel_rfl) (by kernel_rfl) (by kernel_rfl) (by kernel_rfl) (by kernel_rfl) (fun x => by kernel_rfl)
noncomputable def dots_Right.body : Go.Code := Tryz.f35.body.getD .skip
noncomputable def dots_Right.rs : List Go.ResultVar := Tryz.f35.results.toList
def dots_Right.regs : List (Nat × RInfo) := [(0, ⟨[1], [1], [0], [], 0, [], [], [], [], []⟩), (1, ri [1,14] [1]), (2, ri [2] []), (3, ri [1,16,17,18] [1]), (4, ⟨[1, 16, 17, 18, 19], [1], [], [], 0, [1, 16, 17, 18], [1], [], [], []⟩), (5, ri [1,3,4,16,17,18] [1,4]), (6, rq [1,16,17,18,51] [1] 29), (7, ri [2] []), (8, ri [1,16,17,18] [1]), (9, ri [2] [])]
noncomputable def dots_Right.cx (k : Nat) : Cx := ⟨tt, pp, [(59, (vec_Right.e k)), (60, (dot_Right.e k)), (61, (dot_Compare.e k))], dots_Right.regs, k, mm⟩
@[reducible] def dots_Right.sg : Sg := ⟨[.dat tDots], [], .dat .bool, []⟩
noncomputable def dots_Right.f (k : Nat) (a0 : Ty.D tDots) : Option (Sg.Out dots_Right.sg) := Sg.fn dots_Right.sg (dots_Right.cx k) dots_Right.body dots_Right.rs a0
noncomputable def dots_Right.l4 (k : Nat) (n : Nat) (x16 : Ty.D (.slc tDot)) (x17 : Ty.D (.int .i64)) (x18 : Ty.D (.int .i64)) (m1 : Ty.D tDots) : Option (Sg.Out dots_Right.sg) := loopAt (dots_Right.cx k) dots_Right.body [1, 1, 0, 1, 0] 4 [1, 16, 17, 18] [1] [] (Sg.K dots_Right.sg (dots_Right.cx k) dots_Right.rs) n ⟨[(1, .ref 1 []), (16, .dat (.slc tDot) x16), (17, .dat (.int .i64) x17), (18, .dat (.int .i64) x18)], [(1, .dat tDots m1)]⟩
theorem dots_Right.f_eq (k : Nat) (a0 : Ty.D tDots) : dots_Right.f k a0 = bnd (vec_Right.f k a0.1) fun r0 => br (bnot r0) (some false) (br (ilt 4096 (ilen a0.2)) (some false) (dots_Right.l4 k k a0.2 (ilen a0.2) 0 a0)) := by kernel_rfl
theorem dots_Right.l4_eq (k : Nat) (n4 : Nat) (x16 : Ty.D (.slc tDot)) (x17 : Ty.D (.int .i64)) (x18 : Ty.D (.int .i64)) (m1 : Ty.D tDots) : dots_Right.l4 k (n4 + 1) x16 x17 x18 m1 = br (ilt x18 x17) (br (inL x18 x16) (bnd (dot_Right.f k (rd tDot x16 (natOf x18))) fun r0 => br (bnot r0) (some false) (br (inB ((rd tDot x16 (natOf x18)).1) 16) (br (ile ((rd tDot x16 (natOf x18)).2) (iadd .i64 (rd (.int .i64) m1.1 (natOf ((rd tDot x16 (natOf x18)).1))) 1)) (some false) (br (ilt 0 x18) (br (inL (isub .i64 x18 1) m1.2) (bnd (dot_Compare.f k (rd tDot m1.2 (natOf (isub .i64 x18 1))) (rd tDot x16 (natOf x18))) fun r1 => br (ile 0 r1) (some false) (dots_Right.l4 k n4 x16 x17 (iadd .i64 x18 1) m1)) none) (dots_Right.l4 k n4 x16 x17 (iadd .i64 x18 1) m1))) none)) none) (some true) := by kernel_rfl
noncomputable def dots_Right.e (k : Nat) : Entry := Sg.entry dots_Right.sg fun x => dots_Right.f k x
theorem dots_Right.ok (k : Nat) : CallOK Tryz.prog 35 (dots_Right.e k) := fn_ok (c := dots_Right.cx k) (code := dots_Right.body) (TT.of tt_ok pp_ok mm_ok) (fns_ok ⟨(vec_Right.ok k), (dot_Right.ok k), (dot_Compare.ok k), trivial⟩) mixed Tryz.func35 (by kernel_rfl) (by kernel_rfl) (by kernel_rfl) (by kernel_rfl) (by kernel_rfl) (by kernel_rfl) (fun x => by kernel_rfl)
noncomputable def dots_Read.body : Go.Code := Tryz.f17.body.getD .skip
noncomputable def dots_Read.rs : List Go.ResultVar := Tryz.f17.results.toList
def dots_Read.regs : List (Nat × RInfo) := [(0, ri [0,2] [2,1000000]), (1, ⟨[0, 2, 3], [2, 3, 1000000], [6], [], 0, [], [], [], [], []⟩), (2, ri [0,2,3,16] [2,3,1000000]), (3, ri [0,2,3] [2,3,1000000]), (4, ri [2,3,21] [2,3,1000000]), (5, ⟨[2], [2, 1000000], [1], [], 0, [], [], [], [], []⟩), (6, ⟨[2], [2, 1000000], [1], [], 0, [], [], [], [], []⟩)]
noncomputable def dots_Read.cx (k : Nat) : Cx := ⟨tt, pp, [(33, (vec_Read.e k)), (34, (dots_ReadList.e k)), (8, (pack_Reader_Fault.e k)), (35, (dots_Right.e k)), (31, (pack_Reader_Fail.e k))], dots_Read.regs, k, mm⟩
@[reducible] def dots_Read.sg : Sg := ⟨[.ref], [tpackReader], .dat tDots, [tpackReader]⟩
noncomputable def dots_Read.f (k : Nat) (o0 : Ty.D tpackReader) : Option (Sg.Out dots_Read.sg) := Sg.fn dots_Read.sg (dots_Read.cx k) dots_Read.body dots_Read.rs o0
theorem dots_Read.f_eq (k : Nat) (o0 : Ty.D tpackReader) : dots_Read.f k o0 = bnd (vec_Read.f k o0) fun r0 => bnd (dots_ReadList.f k 4096 r0.2) fun r1 => bnd (pack_Reader_Fault.f k r1.2) fun r2 => br (ieq r2.1 0) (bnd (dots_Right.f k (r0.1, r1.1)) fun r3 => br (bnot r3) (bnd (pack_Reader_Fail.f k 2 r2.2) fun r4 => bnd (pack_Reader_Fault.f k r4.2) fun r5 => br (bnot (ieq r5.1 0)) (some (((zarr 16 0), []), r5.2)) (some ((r0.1, r1.1), r5.2))) (bnd (pack_Reader_Fault.f k r2.2) fun r6 => br (bnot (ieq r6.1 0)) (some (((zarr 16 0), []), r6.2)) (some ((r0.1, r1.1), r6.2)))) (bnd (pack_Reader_Fault.f k r2.2) fun r7 => br (bnot (ieq r7.1 0)) (some (((zarr 16 0), []), r7.2)) (some ((r0.1, r1.1), r7.2))) := by kernel_rfl
noncomputable def dots_Read.e (k : Nat) : Entry := Sg.entry dots_Read.sg fun x => dots_Read.f k x
theorem dots_Read.ok (k : Nat) : CallOK Tryz.prog 17 (dots_Read.e k) := fn_ok (c := dots_Read.cx k) (code := dots_Read.body) (TT.of tt_ok pp_ok mm_ok) (fns_ok ⟨(vec_Read.ok k), (dots_ReadList.ok k), (pack_Reader_Fault.ok k), (dots_Right.ok k), (pack_Reader_Fail.ok k), trivial⟩) mixed Tryz.func17 (by kernel_rfl) (by kernel_rfl) (by kernel_rfl) (by kernel_rfl) (by kernel_rfl) (by kernel_rfl) (fun x => by kernel_rfl)
noncomputable def tally_compare.body : Go.Code := Tryz.f62.body.getD .skip
noncomputable def tally_compare.rs : List Go.ResultVar := Tryz.f62.results.toList
def tally_compare.regs : List (Nat × RInfo) := [(0, ri [2,3] [2,3]), (1, ri [4] [9])]
noncomputable def tally_compare.cx (k : Nat) : Cx := ⟨tt, pp, [(61, (dot_Compare.e k))], tally_compare.regs, k, mm⟩
@[reducible] def tally_compare.sg : Sg := ⟨[.dat tUndo, .dat tUndo], [], .dat (.int .i64), []⟩
noncomputable def tally_compare.f (k : Nat) (a0 : Ty.D tUndo) (a1 : Ty.D tUndo) : Option (Sg.Out tally_compare.sg) := Sg.fn tally_compare.sg (tally_compare.cx k) tally_compare.body tally_compare.rs (a0, a1)
theorem tally_compare.f_eq (k : Nat) (a0 : Ty.D tUndo) (a1 : Ty.D tUndo) : tally_compare.f k a0 a1 = bnd (dot_Compare.f k a0.1 a1.1) fun r0 => some r0 := by kernel_rfl
noncomputable def tally_compare.e (k : Nat) : Entry := Sg.entry tally_compare.sg fun x => tally_compare.f k x.1 x.2
theorem tally_compare.ok (k : Nat) : CallOK Tryz.prog 62 (tally_compare.e k) := fn_ok (c := tally_compare.cx k) (code := tally_compare.body) (TT.of tt_ok pp_ok mm_ok) (fns_ok ⟨(dot_Compare.ok k), trivial⟩) mixed Tryz.func62 (by kernel_rfl) (by kernel_rfl) (by kernel_rfl) (by kernel_rfl) (by kernel_rfl) (by kernel_rfl) (fun x => by kernel_rfl)
noncomputable def tally_Right.body : Go.Code := Tryz.f39.body.getD .skip
noncomputable def tally_Right.rs : List Go.ResultVar := Tryz.f39.results.toList
def tally_Right.regs : List (Nat × RInfo) := [(0, ri [0] []), (1, ri [0,5,6,7] []), (2, ⟨[0, 5, 6, 7, 8], [], [], [], 0, [0, 5, 6, 7], [], [], [], []⟩), (3, ri [0,3,4,5,6,7] [4]), (4, rq [0,5,6,7,39] [] 28), (5, ri [2] []), (6, ri [0,5,6,7] []), (7, ri [2] [])]
noncomputable def tally_Right.cx (k : Nat) : Cx := ⟨tt, pp, [(60, (dot_Right.e k)), (62, (tally_compare.e k))], tally_Right.regs, k, mm⟩
@[reducible] def tally_Right.sg : Sg := ⟨[.dat (.slc tUndo)], [], .dat .bool, []⟩
noncomputable def tally_Right.f (k : Nat) (a0 : Ty.D (.slc tUndo)) : Option (Sg.Out tally_Right.sg) := Sg.fn tally_Right.sg (tally_Right.cx k) tally_Right.body tally_Right.rs a0
noncomputable def tally_Right.l2 (k : Nat) (n : Nat) (x0 : Ty.D (.slc tUndo)) (x5 : Ty.D (.slc tUndo)) (x6 : Ty.D (.int .i64)) (x7 : Ty.D (.int .i64)) : Option (Sg.Out tally_Right.sg) := loopAt (tally_Right.cx k) tally_Right.body [1, 0, 1, 0] 2 [0, 5, 6, 7] [] [] (Sg.K tally_Right.sg (tally_Right.cx k) tally_Right.rs) n ⟨[(0, .dat (.slc tUndo) x0), (5, .dat (.slc tUndo) x5), (6, .dat (.int .i64) x6), (7, .dat (.int .i64) x7)], []⟩
theorem tally_Right.f_eq (k : Nat) (a0 : Ty.D (.slc tUndo)) : tally_Right.f k a0 = tally_Right.l2 k k a0 a0 (ilen a0) 0 := by kernel_rfl
theorem tally_Right.l2_eq (k : Nat) (n2 : Nat) (x0 : Ty.D (.slc tUndo)) (x5 : Ty.D (.slc tUndo)) (x6 : Ty.D (.int .i64)) (x7 : Ty.D (.int .i64)) : tally_Right.l2 k (n2 + 1) x0 x5 x6 x7 = br (ilt x7 x6) (br (inL x7 x5) (bnd (dot_Right.f k ((rd tUndo x5 (natOf x7)).1)) fun r0 => br (bnot r0) (some false) (br (ilt ((rd tUndo x5 (natOf x7)).2) 1) (some false) (br (ilt 64 ((rd tUndo x5 (natOf x7)).2)) (some false) (br (ilt 0 x7) (br (inL (isub .i64 x7 1) x0) (bnd (tally_compare.f k (rd tUndo x0 (natOf (isub .i64 x7 1))) (rd tUndo x5 (natOf x7))) fun r1 => br (ile 0 r1) (some false) (tally_Right.l2 k n2 x0 x5 x6 (iadd .i64 x7 1))) none) (tally_Right.l2 k n2 x0 x5 x6 (iadd .i64 x7 1)))))) none) (some true) := by kernel_rfl
noncomputable def tally_Right.e (k : Nat) : Entry := Sg.entry tally_Right.sg fun x => tally_Right.f k x
theorem tally_Right.ok (k : Nat) : CallOK Tryz.prog 39 (tally_Right.e k) := fn_ok (c := tally_Right.cx k) (code := tally_Right.body) (TT.of tt_ok pp_ok mm_ok) (fns_ok ⟨(dot_Right.ok k), (tally_compare.ok k), trivial⟩) mixed Tryz.func39 (by kernel_rfl) (by kernel_rfl) (by kernel_rfl) (by kernel_rfl) (by kernel_rfl) (by kernel_rfl) (fun x => by kernel_rfl)
noncomputable def tally_Read.body : Go.Code := Tryz.f18.body.getD .skip
noncomputable def tally_Read.rs : List Go.ResultVar := Tryz.f18.results.toList
def tally_Read.regs : List (Nat × RInfo) := [(0, ri [0,1] [1000000]), (1, ri [0,1,5] [1000000]), (2, ri [0,5,8,9] [8,1000000]), (3, ⟨[0, 5, 8, 9, 10], [8, 1000000], [], [], 0, [0, 5, 8, 9], [8, 1000000], [], [], []⟩), (4, ⟨[0, 5, 8, 9], [8, 1000000], [0, 7, 8], [], 0, [], [], [], [], []⟩), (5, ri [0,5,8,9] [8,1000000]), (6, ri [0,5,27] [1000000]), (7, ri [0,5] [1000000]), (8, ri [5,32] [1000000]), (9, ri [4] [1000000]), (10, ⟨[4], [1000000], [0, 1], [], 0, [], [], [], [], []⟩)]
noncomputable def tally_Read.cx (k : Nat) : Cx := ⟨tt, pp, [(36, (pack_Reader_Many.e k)), (37, (dot_Read.e k)), (38, (pack_Reader_Int.e k)), (8, (pack_Reader_Fault.e k)), (39, (tally_Right.e k)), (31, (pack_Reader_Fail.e k))], tally_Read.regs, k, mm⟩
@[reducible] def tally_Read.sg : Sg := ⟨[.ref, .dat (.int .i64)], [tpackReader], .own tUndo, [tpackReader]⟩
noncomputable def tally_Read.f (k : Nat) (a1 : Ty.D (.int .i64)) (o0 : Ty.D tpackReader) : Option (Sg.Out tally_Read.sg) := Sg.fn tally_Read.sg (tally_Read.cx k) tally_Read.body tally_Read.rs (a1, o0)
noncomputable def tally_Read.l3 (k : Nat) (n : Nat) (x5 : List (Ty.D tUndo)) (x8 : Ty.D (.int .i64)) (x9 : Ty.D (.int .i64)) (m1000000 : Ty.D tpackReader) : Option (Sg.Out tally_Read.sg) := loopAt (tally_Read.cx k) tally_Read.body [1, 1, 0, 1, 0] 3 [0, 5, 8, 9] [8, 1000000] [] (Sg.K tally_Read.sg (tally_Read.cx k) tally_Read.rs) n ⟨[(0, .ref 1000000 []), (5, .own tUndo x5), (8, .dat (.int .i64) x8), (9, .dat (.int .i64) x9)], [(1000000, .dat tpackReader m1000000)]⟩
theorem tally_Read.f_eq (k : Nat) (a1 : Ty.D (.int .i64)) (o0 : Ty.D tpackReader) : tally_Read.f k a1 o0 = bnd (pack_Reader_Many.f k a1 o0) fun r0 => tally_Read.l3 k k [] r0.1 0 r0.2 := by kernel_rfl
theorem tally_Read.l3_eq (k : Nat) (n3 : Nat) (x5 : List (Ty.D tUndo)) (x8 : Ty.D (.int .i64)) (x9 : Ty.D (.int .i64)) (m1000000 : Ty.D tpackReader) : tally_Read.l3 k (n3 + 1) x5 x8 x9 m1000000 = br (ilt x9 x8) (bnd (dot_Read.f k m1000000) fun r0 => bnd (pack_Reader_Int.f k r0.2) fun r1 => br (room x5 ((r0.1, r1.1) :: [])) (tally_Read.l3 k n3 (app x5 ((r0.1, r1.1) :: [])) x8 (iadd .i64 x9 1) r1.2) none) (bnd (pack_Reader_Fault.f k m1000000) fun r2 => br (ieq r2.1 0) (bnd (tally_Right.f k x5) fun r3 => br (bnot r3) (bnd (pack_Reader_Fail.f k 2 r2.2) fun r4 => bnd (pack_Reader_Fault.f k r4.2) fun r5 => br (bnot (ieq r5.1 0)) (some ([], r5.2)) (some (x5, r5.2))) (bnd (pack_Reader_Fault.f k r2.2) fun r6 => br (bnot (ieq r6.1 0)) (some ([], r6.2)) (some (x5, r6.2)))) (bnd (pack_Reader_Fault.f k r2.2) fun r7 => br (bnot (ieq r7.1 0)) (some ([], r7.2)) (some (x5, r7.2)))) := by kernel_rfl
noncomputable def tally_Read.e (k : Nat) : Entry := Sg.entry tally_Read.sg fun x => tally_Read.f k x.1 x.2
theorem tally_Read.ok (k : Nat) : CallOK Tryz.prog 18 (tally_Read.e k) := fn_ok (c := tally_Read.cx k) (code := tally_Read.body) (TT.of tt_ok pp_ok mm_ok) (fns_ok ⟨(pack_Reader_Many.ok k), (dot_Read.ok k), (pack_Reader_Int.ok k), (pack_Reader_Fault.ok k), (tally_Right.ok k), (pack_Reader_Fail.ok k), trivial⟩) mixed Tryz.func18 (by kernel_rfl) (by kernel_rfl) (by kernel_rfl) (by kernel_rfl) (by kernel_rfl) (by kernel_rfl) (fun x => by kernel_rfl)
noncomputable def delta_Read.body : Go.Code := Tryz.f6.body.getD .skip
noncomputable def delta_Read.rs : List Go.ResultVar := Tryz.f6.results.toList
def delta_Read.regs : List (Nat × RInfo) := [(0, ri [0,2] [2,1000000]), (1, ⟨[0, 2, 3], [2, 3, 1000000], [8], [], 0, [], [], [], [], []⟩), (2, ri [2,3,13] [2,3,1000000]), (3, ⟨[2], [2, 1000000], [1], [], 0, [], [], [], [], []⟩), (4, ⟨[2], [2, 1000000], [1], [], 0, [], [], [], [], []⟩)]
noncomputable def delta_Read.cx (k : Nat) : Cx := ⟨tt, pp, [(17, (dots_Read.e k)), (18, (tally_Read.e k)), (8, (pack_Reader_Fault.e k))], delta_Read.regs, k, mm⟩
@[reducible] def delta_Read.sg : Sg := ⟨[.ref], [tpackReader], .dat tKnow, [tpackReader]⟩
noncomputable def delta_Read.f (k : Nat) (o0 : Ty.D tpackReader) : Option (Sg.Out delta_Read.sg) := Sg.fn delta_Read.sg (delta_Read.cx k) delta_Read.body delta_Read.rs o0
theorem delta_Read.f_eq (k : Nat) (o0 : Ty.D tpackReader) : delta_Read.f k o0 = bnd (dots_Read.f k o0) fun r0 => bnd (tally_Read.f k 1048576 r0.2) fun r1 => bnd (dots_Read.f k r1.2) fun r2 => bnd (pack_Reader_Fault.f k r2.2) fun r3 => br (bnot (ieq r3.1 0)) (some ((((zarr 16 0), []), ([], ((zarr 16 0), []))), r3.2)) (some ((r0.1, (r1.1, r2.1)), r3.2)) := by kernel_rfl
noncomputable def delta_Read.e (k : Nat) : Entry := Sg.entry delta_Read.sg fun x => delta_Read.f k x
theorem delta_Read.ok (k : Nat) : CallOK Tryz.prog 6 (delta_Read.e k) := fn_ok (c := delta_Read.cx k) (code := delta_Read.body) (TT.of tt_ok pp_ok mm_ok) (fns_ok ⟨(dots_Read.ok k), (tally_Read.ok k), (pack_Reader_Fault.ok k), trivial⟩) mixed Tryz.func6 (by kernel_rfl) (by kernel_rfl) (by kernel_rfl) (by kernel_rfl) (by kernel_rfl) (by kernel_rfl) (fun x => by kernel_rfl)
noncomputable def ref02_Reader_Int.body : Go.Code := Tryz.f45.body.getD .skip
noncomputable def ref02_Reader_Int.rs : List Go.ResultVar := Tryz.f45.results.toList
def ref02_Reader_Int.regs : List (Nat × RInfo) := [(0, ri [0] [1000000]), (1, ri [0,11] [1000000]), (2, ri [2] [1000000]), (3, ri [0,3,4] [1000000]), (4, ri [0,3,4,5] [1000000]), (5, ⟨[0, 3, 4, 5, 13], [1000000], [], [], 0, [0, 3, 4, 5], [1000000], [], [], []⟩), (7, rq [0,3,4,5,27] [1000000] 12), (8, ri [] [1000000]), (9, ri [2] [1000000]), (10, rq [0,3,4,5,6] [1000000] 12), (11, ri [0,3,4,5,6,44] [1000000]), (12, ri [0,3,4,5,6,50] [1000000]), (13, ri [] [1000000]), (14, ri [2] [1000000]), (15, ri [3,4,6] [1000000]), (16, ri [2] [1000000]), (17, ri [0,3,4,5] [1000000]), (18, ri [0,3,4,5] [1000000]), (6, ri [0,3,4,5] [1000000]), (19, ri [] [1000000]), (20, ri [2] [1000000])]
noncomputable def ref02_Reader_Int.cx (k : Nat) : Cx := ⟨tt, pp, [], ref02_Reader_Int.regs, k, mm⟩
@[reducible] def ref02_Reader_Int.sg : Sg := ⟨[.ref], [tref02Reader], .dat (.int .i64), [tref02Reader]⟩
noncomputable def ref02_Reader_Int.f (k : Nat) (o0 : Ty.D tref02Reader) : Option (Sg.Out ref02_Reader_Int.sg) := Sg.fn ref02_Reader_Int.sg (ref02_Reader_Int.cx k) ref02_Reader_Int.body ref02_Reader_Int.rs o0
noncomputable def ref02_Reader_Int.l5 (k : Nat) (n : Nat) (x3 : Ty.D (.int .i64)) (x4 : Ty.D (.int .i64)) (x5 : Ty.D (.int .i64)) (m1000000 : Ty.D tref02Reader) : Option (Sg.Out ref02_Reader_Int.sg) := loopAt (ref02_Reader_Int.cx k) ref02_Reader_Int.body [1, 1, 1, 0, 1, 0] 5 [0, 3, 4, 5] [1000000] [] (Sg.K ref02_Reader_Int.sg (ref02_Reader_Int.cx k) ref02_Reader_Int.rs) n ⟨[(0, .ref 1000000 []), (3, .dat (.int .i64) x3), (4, .dat (.int .i64) x4), (5, .dat (.int .i64) x5)], [(1000000, .dat tref02Reader m1000000)]⟩
theorem ref02_Reader_Int.f_eq (k : Nat) (o0 : Ty.D tref02Reader) : ref02_Reader_Int.f k o0 = br (bnot (ieq o0.2.2 0)) (some (0, o0)) (ref02_Reader_Int.l5 k k 0 1 0 o0) := by kernel_rfl
theorem ref02_Reader_Int.l5_eq (k : Nat) (n5 : Nat) (x3 : Ty.D (.int .i64)) (x4 : Ty.D (.int .i64)) (x5 : Ty.D (.int .i64)) (m1000000 : Ty.D tref02Reader) : ref02_Reader_Int.l5 k (n5 + 1) x3 x4 x5 m1000000 = br (ilt x5 8) (br (ile (ilen m1000000.1) (iadd .i64 m1000000.2.1 x5)) (some (0, (m1000000.1, (m1000000.2.1, 4)))) (br (inL (iadd .i64 m1000000.2.1 x5) m1000000.1) (br (ilt (iwrap .i64 (byteAt m1000000.1 (iadd .i64 m1000000.2.1 x5))) 128) (br (ieq (iwrap .i64 (byteAt m1000000.1 (iadd .i64 m1000000.2.1 x5))) 0) (br (ilt 0 x5) (some (0, (m1000000.1, (m1000000.2.1, 3)))) (some ((iadd .i64 x3 (imul .i64 (iwrap .i64 (byteAt m1000000.1 (iadd .i64 m1000000.2.1 x5))) x4)), (m1000000.1, ((iadd .i64 (iadd .i64 m1000000.2.1 x5) 1), m1000000.2.2))))) (some ((iadd .i64 x3 (imul .i64 (iwrap .i64 (byteAt m1000000.1 (iadd .i64 m1000000.2.1 x5))) x4)), (m1000000.1, ((iadd .i64 (iadd .i64 m1000000.2.1 x5) 1), m1000000.2.2))))) (ref02_Reader_Int.l5 k n5 (iadd .i64 x3 (imul .i64 (isub .i64 (iwrap .i64 (byteAt m1000000.1 (iadd .i64 m1000000.2.1 x5))) 128) x4)) (imul .i64 x4 128) (iadd .i64 x5 1) m1000000)) none)) (some (0, (m1000000.1, (m1000000.2.1, 6)))) := by kernel_rfl
noncomputable def ref02_Reader_Int.e (k : Nat) : Entry := Sg.entry ref02_Reader_Int.sg fun x => ref02_Reader_Int.f k x
theorem ref02_Reader_Int.ok (k : Nat) : CallOK Tryz.prog 45 (ref02_Reader_Int.e k) := fn_ok (c := ref02_Reader_Int.cx k) (code := ref02_Reader_Int.body) (TT.of tt_ok pp_ok mm_ok) (fns_ok trivial) mixed Tryz.func45 (by kernel_rfl) (by kernel_rfl) (by kernel_rfl) (by kernel_rfl) (by kernel_rfl) (by kernel_rfl) (fun x => by kernel_rfl)
noncomputable def ref05_Right.body : Go.Code := Tryz.f63.body.getD .skip
noncomputable def ref05_Right.rs : List Go.ResultVar := Tryz.f63.results.toList
def ref05_Right.regs : List (Nat × RInfo) := [(0, ri [1] [1]), (1, ri [1,3] [1]), (2, ⟨[1, 3, 5], [1], [], [], 0, [1, 3], [1], [], [], []⟩), (4, ri [1,3,17] [1]), (5, ri [2] []), (3, ri [1,3] [1]), (6, ri [2] [])]
noncomputable def ref05_Right.cx (k : Nat) : Cx := ⟨tt, pp, [], ref05_Right.regs, k, mm⟩
@[reducible] def ref05_Right.sg : Sg := ⟨[.dat tVec], [], .dat .bool, []⟩
noncomputable def ref05_Right.f (k : Nat) (a0 : Ty.D tVec) : Option (Sg.Out ref05_Right.sg) := Sg.fn ref05_Right.sg (ref05_Right.cx k) ref05_Right.body ref05_Right.rs a0
noncomputable def ref05_Right.l2 (k : Nat) (n : Nat) (x3 : Ty.D (.int .i64)) (m1 : Ty.D tVec) : Option (Sg.Out ref05_Right.sg) := loopAt (ref05_Right.cx k) ref05_Right.body [1, 0, 1, 0] 2 [1, 3] [1] [] (Sg.K ref05_Right.sg (ref05_Right.cx k) ref05_Right.rs) n ⟨[(1, .ref 1 []), (3, .dat (.int .i64) x3)], [(1, .dat tVec m1)]⟩
theorem ref05_Right.f_eq (k : Nat) (a0 : Ty.D tVec) : ref05_Right.f k a0 = ref05_Right.l2 k k 0 a0 := by kernel_rfl
theorem ref05_Right.l2_eq (k : Nat) (n2 : Nat) (x3 : Ty.D (.int .i64)) (m1 : Ty.D tVec) : ref05_Right.l2 k (n2 + 1) x3 m1 = br (ilt x3 16) (br (inB x3 16) (br (ilt (rd (.int .i64) m1 (natOf x3)) 0) (some false) (br (inB x3 16) (br (ilt 1048576 (rd (.int .i64) m1 (natOf x3))) (some false) (ref05_Right.l2 k n2 (iadd .i64 x3 1) m1)) none)) none) (some true) := by kernel_rfl
noncomputable def ref05_Right.e (k : Nat) : Entry := Sg.entry ref05_Right.sg fun x => ref05_Right.f k x
theorem ref05_Right.ok (k : Nat) : CallOK Tryz.prog 63 (ref05_Right.e k) := fn_ok (c := ref05_Right.cx k) (code := ref05_Right.body) (TT.of tt_ok pp_ok mm_ok) (fns_ok trivial) mixed Tryz.func63 (by kernel_rfl) (by kernel_rfl) (by kernel_rfl) (by kernel_rfl) (by kernel_rfl) (by kernel_rfl) (fun x => by kernel_rfl)
noncomputable def ref05_Read.body : Go.Code := Tryz.f40.body.getD .skip
noncomputable def ref05_Read.rs : List Go.ResultVar := Tryz.f40.results.toList
def ref05_Read.regs : List (Nat × RInfo) := [(0, ri [0,2] [2,1000000]), (1, ri [0,2,3] [2,3,1000000]), (2, ri [0,2,3,4] [2,3,1000000]), (3, ⟨[0, 2, 3, 4, 7], [2, 3, 1000000], [], [], 0, [0, 2, 3, 4], [2, 3, 1000000], [], [], []⟩), (5, ri [0,2,3,4] [2,3,1000000]), (4, ri [0,2,3,4] [2,3,1000000]), (6, ri [0,2,3,23] [2,3,1000000]), (7, ri [0,2,3] [2,3,1000000]), (8, ri [2,3,31] [2,3,1000000]), (9, ri [2] [2,1000000]), (10, ri [2] [2,1000000])]
noncomputable def ref05_Read.cx (k : Nat) : Cx := ⟨tt, pp, [(45, (ref02_Reader_Int.e k)), (63, (ref05_Right.e k))], ref05_Read.regs, k, mm⟩
@[reducible] def ref05_Read.sg : Sg := ⟨[.ref], [tref02Reader], .dat tVec, [tref02Reader]⟩
noncomputable def ref05_Read.f (k : Nat) (o0 : Ty.D tref02Reader) : Option (Sg.Out ref05_Read.sg) := Sg.fn ref05_Read.sg (ref05_Read.cx k) ref05_Read.body ref05_Read.rs o0
noncomputable def ref05_Read.l3 (k : Nat) (n : Nat) (x4 : Ty.D (.int .i64)) (m2 : Ty.D tVec) (m3 : Ty.D tVec) (m1000000 : Ty.D tref02Reader) : Option (Sg.Out ref05_Read.sg) := loopAt (ref05_Read.cx k) ref05_Read.body [1, 1, 0, 1, 0] 3 [0, 2, 3, 4] [2, 3, 1000000] [] (Sg.K ref05_Read.sg (ref05_Read.cx k) ref05_Read.rs) n ⟨[(0, .ref 1000000 []), (2, .ref 2 []), (3, .ref 3 []), (4, .dat (.int .i64) x4)], [(2, .dat tVec m2), (3, .dat tVec m3), (1000000, .dat tref02Reader m1000000)]⟩
theorem ref05_Read.f_eq (k : Nat) (o0 : Ty.D tref02Reader) : ref05_Read.f k o0 = ref05_Read.l3 k k 0 (zarr 16 0) (zarr 16 0) o0 := by kernel_rfl
theorem ref05_Read.l3_eq (k : Nat) (n3 : Nat) (x4 : Ty.D (.int .i64)) (m2 : Ty.D tVec) (m3 : Ty.D tVec) (m1000000 : Ty.D tref02Reader) : ref05_Read.l3 k (n3 + 1) x4 m2 m3 m1000000 = br (ilt x4 16) (bnd (ref02_Reader_Int.f k m1000000) fun r0 => br (inB x4 16) (ref05_Read.l3 k n3 (iadd .i64 x4 1) m2 (upd m3 (natOf x4) r0.1) r0.2) none) (br (ieq m1000000.2.2 0) (bnd (ref05_Right.f k m3) fun r1 => br (bnot r1) (some ((zarr 16 0), (m1000000.1, (m1000000.2.1, 2)))) (br (bnot (ieq m1000000.2.2 0)) (some ((zarr 16 0), m1000000)) (some (m3, m1000000)))) (br (bnot (ieq m1000000.2.2 0)) (some ((zarr 16 0), m1000000)) (some (m3, m1000000)))) := by kernel_rfl
noncomputable def ref05_Read.e (k : Nat) : Entry := Sg.entry ref05_Read.sg fun x => ref05_Read.f k x
theorem ref05_Read.ok (k : Nat) : CallOK Tryz.prog 40 (ref05_Read.e k) := fn_ok (c := ref05_Read.cx k) (code := ref05_Read.body) (TT.of tt_ok pp_ok mm_ok) (fns_ok ⟨(ref02_Reader_Int.ok k), (ref05_Right.ok k), trivial⟩) mixed Tryz.func40 (by kernel_rfl) (by kernel_rfl) (by kernel_rfl) (by kernel_rfl) (by kernel_rfl) (by kernel_rfl) (fun x => by kernel_rfl)
noncomputable def ref02_Reader_Many.body : Go.Code := Tryz.f43.body.getD .skip
noncomputable def ref02_Reader_Many.rs : List Go.ResultVar := Tryz.f43.results.toList
def ref02_Reader_Many.regs : List (Nat × RInfo) := [(0, ri [0,1] [1000000]), (1, ri [0,1,5] [7,1000000]), (2, ri [0,5,17] [7,1000000]), (3, ri [0,5] [7,1000000]), (4, rq [0,5,39] [7,1000000] 19), (5, ri [0,5] [7,1000000]), (6, ri [5,47] [7,1000000]), (7, ri [4] [7,1000000]), (8, ri [4] [7,1000000])]
noncomputable def ref02_Reader_Many.cx (k : Nat) : Cx := ⟨tt, pp, [(45, (ref02_Reader_Int.e k))], ref02_Reader_Many.regs, k, mm⟩
@[reducible] def ref02_Reader_Many.sg : Sg := ⟨[.ref, .dat (.int .i64)], [tref02Reader], .dat (.int .i64), [tref02Reader]⟩
noncomputable def ref02_Reader_Many.f (k : Nat) (a1 : Ty.D (.int .i64)) (o0 : Ty.D tref02Reader) : Option (Sg.Out ref02_Reader_Many.sg) := Sg.fn ref02_Reader_Many.sg (ref02_Reader_Many.cx k) ref02_Reader_Many.body ref02_Reader_Many.rs (a1, o0)
theorem ref02_Reader_Many.f_eq (k : Nat) (a1 : Ty.D (.int .i64)) (o0 : Ty.D tref02Reader) : ref02_Reader_Many.f k a1 o0 = bnd (ref02_Reader_Int.f k o0) fun r0 => br (ieq r0.2.2.2 0) (br (ilt a1 r0.1) (some (0, (r0.2.1, (r0.2.2.1, 6)))) (br (ieq r0.2.2.2 0) (br (ilt (isub .i64 (ilen r0.2.1) r0.2.2.1) r0.1) (some (0, (r0.2.1, (r0.2.2.1, 4)))) (br (bnot (ieq r0.2.2.2 0)) (some (0, r0.2)) (some (r0.1, r0.2)))) (br (bnot (ieq r0.2.2.2 0)) (some (0, r0.2)) (some (r0.1, r0.2))))) (br (ieq r0.2.2.2 0) (br (ilt (isub .i64 (ilen r0.2.1) r0.2.2.1) r0.1) (some (0, (r0.2.1, (r0.2.2.1, 4)))) (br (bnot (ieq r0.2.2.2 0)) (some (0, r0.2)) (some (r0.1, r0.2)))) (br (bnot (ieq r0.2.2.2 0)) (some (0, r0.2)) (some (r0.1, r0.2)))) := by kernel_rfl
noncomputable def ref02_Reader_Many.e (k : Nat) : Entry := Sg.entry ref02_Reader_Many.sg fun x => ref02_Reader_Many.f k x.1 x.2
theorem ref02_Reader_Many.ok (k : Nat) : CallOK Tryz.prog 43 (ref02_Reader_Many.e k) := fn_ok (c := ref02_Reader_Many.cx k) (code := ref02_Reader_Many.body) (TT.of tt_ok pp_ok mm_ok) (fns_ok ⟨(ref02_Reader_Int.ok k), trivial⟩) mixed Tryz.func43 (by kernel_rfl) (by kernel_rfl) (by kernel_rfl) (by kernel_rfl) (by kernel_rfl) (by kernel_rfl) (fun x => by kernel_rfl)
noncomputable def ref04_Right.body : Go.Code := Tryz.f64.body.getD .skip
noncomputable def ref04_Right.rs : List Go.ResultVar := Tryz.f64.results.toList
def ref04_Right.regs : List (Nat × RInfo) := [(0, ri [1] [1]), (1, ri [2] [])]
noncomputable def ref04_Right.cx (k : Nat) : Cx := ⟨tt, pp, [], ref04_Right.regs, k, mm⟩
@[reducible] def ref04_Right.sg : Sg := ⟨[.dat tDot], [], .dat .bool, []⟩
noncomputable def ref04_Right.f (k : Nat) (a0 : Ty.D tDot) : Option (Sg.Out ref04_Right.sg) := Sg.fn ref04_Right.sg (ref04_Right.cx k) ref04_Right.body ref04_Right.rs a0
theorem ref04_Right.f_eq (k : Nat) (a0 : Ty.D tDot) : ref04_Right.f k a0 = br (ile 0 a0.1) (br (ile a0.1 15) (br (ile 1 a0.2) (some (ile a0.2 1048576)) (some false)) (some false)) (some false) := by kernel_rfl
noncomputable def ref04_Right.e (k : Nat) : Entry := Sg.entry ref04_Right.sg fun x => ref04_Right.f k x
theorem ref04_Right.ok (k : Nat) : CallOK Tryz.prog 64 (ref04_Right.e k) := fn_ok (c := ref04_Right.cx k) (code := ref04_Right.body) (TT.of tt_ok pp_ok mm_ok) (fns_ok trivial) mixed Tryz.func64 (by kernel_rfl) (by kernel_rfl) (by kernel_rfl) (by kernel_rfl) (by kernel_rfl) (by kernel_rfl) (fun x => by kernel_rfl)
noncomputable def ref04_Read.body : Go.Code := Tryz.f44.body.getD .skip
noncomputable def ref04_Read.rs : List Go.ResultVar := Tryz.f44.results.toList
def ref04_Read.regs : List (Nat × RInfo) := [(0, ri [0,2] [2,1000000]), (1, ri [0,2,3] [2,6,1000000]), (2, ri [0,2,4] [2,4,1000000]), (3, ri [0,2,4,20] [2,4,1000000]), (4, ri [0,2,4] [2,4,1000000]), (5, ri [2,4,28] [2,4,1000000]), (6, ri [2] [2,1000000]), (7, ri [2] [2,1000000])]
noncomputable def ref04_Read.cx (k : Nat) : Cx := ⟨tt, pp, [(45, (ref02_Reader_Int.e k)), (64, (ref04_Right.e k))], ref04_Read.regs, k, mm⟩
@[reducible] def ref04_Read.sg : Sg := ⟨[.ref], [tref02Reader], .dat tDot, [tref02Reader]⟩
noncomputable def ref04_Read.f (k : Nat) (o0 : Ty.D tref02Reader) : Option (Sg.Out ref04_Read.sg) := Sg.fn ref04_Read.sg (ref04_Read.cx k) ref04_Read.body ref04_Read.rs o0
theorem ref04_Read.f_eq (k : Nat) (o0 : Ty.D tref02Reader) : ref04_Read.f k o0 = bnd (ref02_Reader_Int.f k o0) fun r0 => bnd (ref02_Reader_Int.f k r0.2) fun r1 => br (ieq r1.2.2.2 0) (bnd (ref04_Right.f k (r0.1, r1.1)) fun r2 => br (bnot r2) (some ((0, 0), (r1.2.1, (r1.2.2.1, 2)))) (br (bnot (ieq r1.2.2.2 0)) (some ((0, 0), r1.2)) (some ((r0.1, r1.1), r1.2)))) (br (bnot (ieq r1.2.2.2 0)) (some ((0, 0), r1.2)) (some ((r0.1, r1.1), r1.2))) := by kernel_rfl
noncomputable def ref04_Read.e (k : Nat) : Entry := Sg.entry ref04_Read.sg fun x => ref04_Read.f k x
theorem ref04_Read.ok (k : Nat) : CallOK Tryz.prog 44 (ref04_Read.e k) := fn_ok (c := ref04_Read.cx k) (code := ref04_Read.body) (TT.of tt_ok pp_ok mm_ok) (fns_ok ⟨(ref02_Reader_Int.ok k), (ref04_Right.ok k), trivial⟩) mixed Tryz.func44 (by kernel_rfl) (by kernel_rfl) (by kernel_rfl) (by kernel_rfl) (by kernel_rfl) (by kernel_rfl) (fun x => by kernel_rfl)
noncomputable def ref06_ReadList.body : Go.Code := Tryz.f41.body.getD .skip
noncomputable def ref06_ReadList.rs : List Go.ResultVar := Tryz.f41.results.toList
def ref06_ReadList.regs : List (Nat × RInfo) := [(0, ri [0,1] [1000000]), (1, ri [0,5] [10,1000000]), (2, ri [0,5,6] [10,1000000]), (3, ri [0,5,6,7] [10,1000000]), (4, ⟨[0, 5, 6, 7, 13], [10, 1000000], [], [], 0, [0, 5, 6, 7], [10, 1000000], [], [], []⟩), (6, ⟨[0, 5, 6, 7], [10, 1000000], [0, 4, 5], [], 0, [], [], [], [], []⟩), (5, ri [0,5,6,7] [10,1000000]), (7, ri [6,25] [1000000]), (8, ri [4] [1000000]), (9, ⟨[4], [1000000], [0, 1], [], 0, [], [], [], [], []⟩)]
noncomputable def ref06_ReadList.cx (k : Nat) : Cx := ⟨tt, pp, [(43, (ref02_Reader_Many.e k)), (44, (ref04_Read.e k))], ref06_ReadList.regs, k, mm⟩
@[reducible] def ref06_ReadList.sg : Sg := ⟨[.ref, .dat (.int .i64)], [tref02Reader], .own tDot, [tref02Reader]⟩
noncomputable def ref06_ReadList.f (k : Nat) (a1 : Ty.D (.int .i64)) (o0 : Ty.D tref02Reader) : Option (Sg.Out ref06_ReadList.sg) := Sg.fn ref06_ReadList.sg (ref06_ReadList.cx k) ref06_ReadList.body ref06_ReadList.rs (a1, o0)
noncomputable def ref06_ReadList.l4 (k : Nat) (n : Nat) (x5 : Ty.D (.int .i64)) (x6 : List (Ty.D tDot)) (x7 : Ty.D (.int .i64)) (m1000000 : Ty.D tref02Reader) : Option (Sg.Out ref06_ReadList.sg) := loopAt (ref06_ReadList.cx k) ref06_ReadList.body [1, 1, 1, 0, 1, 0] 4 [0, 5, 6, 7] [10, 1000000] [] (Sg.K ref06_ReadList.sg (ref06_ReadList.cx k) ref06_ReadList.rs) n ⟨[(0, .ref 1000000 []), (5, .dat (.int .i64) x5), (6, .own tDot x6), (7, .dat (.int .i64) x7)], [(1000000, .dat tref02Reader m1000000)]⟩
theorem ref06_ReadList.f_eq (k : Nat) (a1 : Ty.D (.int .i64)) (o0 : Ty.D tref02Reader) : ref06_ReadList.f k a1 o0 = bnd (ref02_Reader_Many.f k a1 o0) fun r0 => ref06_ReadList.l4 k k r0.1 [] 0 r0.2 := by kernel_rfl
theorem ref06_ReadList.l4_eq (k : Nat) (n4 : Nat) (x5 : Ty.D (.int .i64)) (x6 : List (Ty.D tDot)) (x7 : Ty.D (.int .i64)) (m1000000 : Ty.D tref02Reader) : ref06_ReadList.l4 k (n4 + 1) x5 x6 x7 m1000000 = br (ilt x7 x5) (bnd (ref04_Read.f k m1000000) fun r0 => br (room x6 (r0.1 :: [])) (ref06_ReadList.l4 k n4 x5 (app x6 (r0.1 :: [])) (iadd .i64 x7 1) r0.2) none) (br (bnot (ieq m1000000.2.2 0)) (some ([], m1000000)) (some (x6, m1000000))) := by kernel_rfl
noncomputable def ref06_ReadList.e (k : Nat) : Entry := Sg.entry ref06_ReadList.sg fun x => ref06_ReadList.f k x.1 x.2
theorem ref06_ReadList.ok (k : Nat) : CallOK Tryz.prog 41 (ref06_ReadList.e k) := fn_ok (c := ref06_ReadList.cx k) (code := ref06_ReadList.body) (TT.of tt_ok pp_ok mm_ok) (fns_ok ⟨(ref02_Reader_Many.ok k), (ref04_Read.ok k), trivial⟩) mixed Tryz.func41 (by kernel_rfl) (by kernel_rfl) (by kernel_rfl) (by kernel_rfl) (by kernel_rfl) (by kernel_rfl) (fun x => by kernel_rfl)
noncomputable def ref04_ints.body : Go.Code := Tryz.f86.body.getD .skip
noncomputable def ref04_ints.rs : List Go.ResultVar := Tryz.f86.results.toList
def ref04_ints.regs : List (Nat × RInfo) := [(0, ri [0,1] []), (1, ri [0,1,7] []), (2, ri [4] []), (3, ri [10] []), (4, ri [4] []), (5, ri [4] [])]
noncomputable def ref04_ints.cx (k : Nat) : Cx := ⟨tt, pp, [], ref04_ints.regs, k, mm⟩
@[reducible] def ref04_ints.sg : Sg := ⟨[.dat (.int .i64), .dat (.int .i64)], [], .dat (.int .i64), []⟩
noncomputable def ref04_ints.f (k : Nat) (a0 : Ty.D (.int .i64)) (a1 : Ty.D (.int .i64)) : Option (Sg.Out ref04_ints.sg) := Sg.fn ref04_ints.sg (ref04_ints.cx k) ref04_ints.body ref04_ints.rs (a0, a1)
theorem ref04_ints.f_eq (k : Nat) (a0 : Ty.D (.int .i64)) (a1 : Ty.D (.int .i64)) : ref04_ints.f k a0 a1 = br (ilt a0 a1) (some (-1)) (br (ilt a1 a0) (some 1) (some 0)) := by kernel_rfl
noncomputable def ref04_ints.e (k : Nat) : Entry := Sg.entry ref04_ints.sg fun x => ref04_ints.f k x.1 x.2
theorem ref04_ints.ok (k : Nat) : CallOK Tryz.prog 86 (ref04_ints.e k) := fn_ok (c := ref04_ints.cx k) (code := ref04_ints.body) (TT.of tt_ok pp_ok mm_ok) (fns_ok trivial) mixed Tryz.func86 (by kernel_rfl) (by kernel_rfl) (by kernel_rfl) (by kernel_rfl) (by kernel_rfl) (by kernel_rfl) (fun x => by kernel_rfl)
noncomputable def ref04_Compare.body : Go.Code := Tryz.f65.body.getD .skip
noncomputable def ref04_Compare.rs : List Go.ResultVar := Tryz.f65.results.toList
def ref04_Compare.regs : List (Nat × RInfo) := [(0, ri [2,3] [2,3]), (1, ri [2,3,9] [2,3]), (2, ri [4] [14,19]), (3, ri [4] [14,19])]
noncomputable def ref04_Compare.cx (k : Nat) : Cx := ⟨tt, pp, [(86, (ref04_ints.e k))], ref04_Compare.regs, k, mm⟩
@[reducible] def ref04_Compare.sg : Sg := ⟨[.dat tDot, .dat tDot], [], .dat (.int .i64), []⟩
noncomputable def ref04_Compare.f (k : Nat) (a0 : Ty.D tDot) (a1 : Ty.D tDot) : Option (Sg.Out ref04_Compare.sg) := Sg.fn ref04_Compare.sg (ref04_Compare.cx k) ref04_Compare.body ref04_Compare.rs (a0, a1)
theorem ref04_Compare.f_eq (k : Nat) (a0 : Ty.D tDot) (a1 : Ty.D tDot) : ref04_Compare.f k a0 a1 = br (bnot (ieq a0.1 a1.1)) (bnd (ref04_ints.f k a0.1 a1.1) fun r0 => some r0) (bnd (ref04_ints.f k a0.2 a1.2) fun r1 => some r1) := by kernel_rfl
noncomputable def ref04_Compare.e (k : Nat) : Entry := Sg.entry ref04_Compare.sg fun x => ref04_Compare.f k x.1 x.2
theorem ref04_Compare.ok (k : Nat) : CallOK Tryz.prog 65 (ref04_Compare.e k) := fn_ok (c := ref04_Compare.cx k) (code := ref04_Compare.body) (TT.of tt_ok pp_ok mm_ok) (fns_ok ⟨(ref04_ints.ok k), trivial⟩) mixed Tryz.func65 (by kernel_rfl) (by kernel_rfl) (by kernel_rfl) (by kernel_rfl) (by kernel_rfl) (by kernel_rfl) (fun x => by kernel_rfl)
noncomputable def ref06_Right.body : Go.Code := Tryz.f42.body.getD .skip
noncomputable def ref06_Right.rs : List Go.ResultVar := Tryz.f42.results.toList
def ref06_Right.regs : List (Nat × RInfo) := [(0, ⟨[1], [1], [0], [], 0, [], [], [], [], []⟩), (1, ri [1,14] [1]), (2, ri [2] []), (3, ri [1,3] [1]), (4, ⟨[1, 3, 19], [1], [], [], 0, [1, 3], [1], [], [], []⟩), (6, ri [1,3,4] [1,4]), (7, rq [1,3,4,40] [1,4] 14), (8, ri [2] []), (9, rq [1,3,53] [1] 13), (10, ri [2] []), (5, ri [1,3] [1]), (11, ri [2] [])]
noncomputable def ref06_Right.cx (k : Nat) : Cx := ⟨tt, pp, [(63, (ref05_Right.e k)), (64, (ref04_Right.e k)), (65, (ref04_Compare.e k))], ref06_Right.regs, k, mm⟩
@[reducible] def ref06_Right.sg : Sg := ⟨[.dat tDots], [], .dat .bool, []⟩
noncomputable def ref06_Right.f (k : Nat) (a0 : Ty.D tDots) : Option (Sg.Out ref06_Right.sg) := Sg.fn ref06_Right.sg (ref06_Right.cx k) ref06_Right.body ref06_Right.rs a0
noncomputable def ref06_Right.l4 (k : Nat) (n : Nat) (x3 : Ty.D (.int .i64)) (m1 : Ty.D tDots) : Option (Sg.Out ref06_Right.sg) := loopAt (ref06_Right.cx k) ref06_Right.body [1, 1, 0, 1, 0] 4 [1, 3] [1] [] (Sg.K ref06_Right.sg (ref06_Right.cx k) ref06_Right.rs) n ⟨[(1, .ref 1 []), (3, .dat (.int .i64) x3)], [(1, .dat tDots m1)]⟩
theorem ref06_Right.f_eq (k : Nat) (a0 : Ty.D tDots) : ref06_Right.f k a0 = bnd (ref05_Right.f k a0.1) fun r0 => br (bnot r0) (some false) (br (ilt 4096 (ilen a0.2)) (some false) (ref06_Right.l4 k k 0 a0)) := by kernel_rfl
theorem ref06_Right.l4_eq (k : Nat) (n4 : Nat) (x3 : Ty.D (.int .i64)) (m1 : Ty.D tDots) : ref06_Right.l4 k (n4 + 1) x3 m1 = br (ilt x3 (ilen m1.2)) (br (inL x3 m1.2) (bnd (ref04_Right.f k (rd tDot m1.2 (natOf x3))) fun r0 => br (bnot r0) (some false) (br (inB ((rd tDot m1.2 (natOf x3)).1) 16) (br (ile (isub .i64 ((rd tDot m1.2 (natOf x3)).2) 1) (rd (.int .i64) m1.1 (natOf ((rd tDot m1.2 (natOf x3)).1)))) (some false) (br (ilt 0 x3) (br (inL (isub .i64 x3 1) m1.2) (bnd (ref04_Compare.f k (rd tDot m1.2 (natOf (isub .i64 x3 1))) (rd tDot m1.2 (natOf x3))) fun r1 => br (bnot (ieq r1 (-1))) (some false) (ref06_Right.l4 k n4 (iadd .i64 x3 1) m1)) none) (ref06_Right.l4 k n4 (iadd .i64 x3 1) m1))) none)) none) (some true) := by kernel_rfl
noncomputable def ref06_Right.e (k : Nat) : Entry := Sg.entry ref06_Right.sg fun x => ref06_Right.f k x
theorem ref06_Right.ok (k : Nat) : CallOK Tryz.prog 42 (ref06_Right.e k) := fn_ok (c := ref06_Right.cx k) (code := ref06_Right.body) (TT.of tt_ok pp_ok mm_ok) (fns_ok ⟨(ref05_Right.ok k), (ref04_Right.ok k), (ref04_Compare.ok k), trivial⟩) mixed Tryz.func42 (by kernel_rfl) (by kernel_rfl) (by kernel_rfl) (by kernel_rfl) (by kernel_rfl) (by kernel_rfl) (fun x => by kernel_rfl)
noncomputable def ref06_Read.body : Go.Code := Tryz.f19.body.getD .skip
noncomputable def ref06_Read.rs : List Go.ResultVar := Tryz.f19.results.toList
def ref06_Read.regs : List (Nat × RInfo) := [(0, ri [0,2] [2,1000000]), (1, ⟨[0, 2, 3], [2, 3, 1000000], [2], [], 0, [], [], [], [], []⟩), (2, ri [0,2,3] [2,3,1000000]), (3, ⟨[0, 2, 3], [2, 3, 1000000], [3], [], 0, [], [], [], [], []⟩), (4, ri [0,2,3,20] [2,3,1000000]), (5, ri [0,2,3] [2,3,1000000]), (6, ri [2,3,28] [2,3,1000000]), (7, ⟨[2], [2, 1000000], [1], [], 0, [], [], [], [], []⟩), (8, ⟨[2], [2, 1000000], [1], [], 0, [], [], [], [], []⟩)]
noncomputable def ref06_Read.cx (k : Nat) : Cx := ⟨tt, pp, [(40, (ref05_Read.e k)), (41, (ref06_ReadList.e k)), (42, (ref06_Right.e k))], ref06_Read.regs, k, mm⟩
@[reducible] def ref06_Read.sg : Sg := ⟨[.ref], [tref02Reader], .dat tDots, [tref02Reader]⟩
noncomputable def ref06_Read.f (k : Nat) (o0 : Ty.D tref02Reader) : Option (Sg.Out ref06_Read.sg) := Sg.fn ref06_Read.sg (ref06_Read.cx k) ref06_Read.body ref06_Read.rs o0
theorem ref06_Read.f_eq (k : Nat) (o0 : Ty.D tref02Reader) : ref06_Read.f k o0 = bnd (ref05_Read.f k o0) fun r0 => bnd (ref06_ReadList.f k 4096 r0.2) fun r1 => br (ieq r1.2.2.2 0) (bnd (ref06_Right.f k (r0.1, r1.1)) fun r2 => br (bnot r2) (some (((zarr 16 0), []), (r1.2.1, (r1.2.2.1, 2)))) (br (bnot (ieq r1.2.2.2 0)) (some (((zarr 16 0), []), r1.2)) (some ((r0.1, r1.1), r1.2)))) (br (bnot (ieq r1.2.2.2 0)) (some (((zarr 16 0), []), r1.2)) (some ((r0.1, r1.1), r1.2))) := by kernel_rfl
noncomputable def ref06_Read.e (k : Nat) : Entry := Sg.entry ref06_Read.sg fun x => ref06_Read.f k x
theorem ref06_Read.ok (k : Nat) : CallOK Tryz.prog 19 (ref06_Read.e k) := fn_ok (c := ref06_Read.cx k) (code := ref06_Read.body) (TT.of tt_ok pp_ok mm_ok) (fns_ok ⟨(ref05_Read.ok k), (ref06_ReadList.ok k), (ref06_Right.ok k), trivial⟩) mixed Tryz.func19 (by kernel_rfl) (by kernel_rfl) (by kernel_rfl) (by kernel_rfl) (by kernel_rfl) (by kernel_rfl) (fun x => by kernel_rfl)
noncomputable def ref08_one.body : Go.Code := Tryz.f66.body.getD .skip
noncomputable def ref08_one.rs : List Go.ResultVar := Tryz.f66.results.toList
def ref08_one.regs : List (Nat × RInfo) := [(0, ri [1] [1]), (1, ri [2] [5])]
noncomputable def ref08_one.cx (k : Nat) : Cx := ⟨tt, pp, [(64, (ref04_Right.e k))], ref08_one.regs, k, mm⟩
@[reducible] def ref08_one.sg : Sg := ⟨[.dat tUndo], [], .dat .bool, []⟩
noncomputable def ref08_one.f (k : Nat) (a0 : Ty.D tUndo) : Option (Sg.Out ref08_one.sg) := Sg.fn ref08_one.sg (ref08_one.cx k) ref08_one.body ref08_one.rs a0
theorem ref08_one.f_eq (k : Nat) (a0 : Ty.D tUndo) : ref08_one.f k a0 = bnd (ref04_Right.f k a0.1) fun r0 => br r0 (br (ile 1 a0.2) (some (ile a0.2 64)) (some false)) (some false) := by kernel_rfl
noncomputable def ref08_one.e (k : Nat) : Entry := Sg.entry ref08_one.sg fun x => ref08_one.f k x
theorem ref08_one.ok (k : Nat) : CallOK Tryz.prog 66 (ref08_one.e k) := fn_ok (c := ref08_one.cx k) (code := ref08_one.body) (TT.of tt_ok pp_ok mm_ok) (fns_ok ⟨(ref04_Right.ok k), trivial⟩) mixed Tryz.func66 (by kernel_rfl) (by kernel_rfl) (by kernel_rfl) (by kernel_rfl) (by kernel_rfl) (by kernel_rfl) (fun x => by kernel_rfl)
noncomputable def ref08_Right.body : Go.Code := Tryz.f46.body.getD .skip
noncomputable def ref08_Right.rs : List Go.ResultVar := Tryz.f46.results.toList
def ref08_Right.regs : List (Nat × RInfo) := [(0, ri [0] []), (1, ri [0,3] []), (2, ⟨[0, 3, 7], [], [], [], 0, [0, 3], [], [], [], []⟩), (4, rq [0,3,34] [] 25), (5, ri [2] []), (3, ri [0,3] []), (6, ri [2] [])]
noncomputable def ref08_Right.cx (k : Nat) : Cx := ⟨tt, pp, [(66, (ref08_one.e k)), (65, (ref04_Compare.e k))], ref08_Right.regs, k, mm⟩
@[reducible] def ref08_Right.sg : Sg := ⟨[.dat (.slc tUndo)], [], .dat .bool, []⟩
noncomputable def ref08_Right.f (k : Nat) (a0 : Ty.D (.slc tUndo)) : Option (Sg.Out ref08_Right.sg) := Sg.fn ref08_Right.sg (ref08_Right.cx k) ref08_Right.body ref08_Right.rs a0
noncomputable def ref08_Right.l2 (k : Nat) (n : Nat) (x0 : Ty.D (.slc tUndo)) (x3 : Ty.D (.int .i64)) : Option (Sg.Out ref08_Right.sg) := loopAt (ref08_Right.cx k) ref08_Right.body [1, 0, 1, 0] 2 [0, 3] [] [] (Sg.K ref08_Right.sg (ref08_Right.cx k) ref08_Right.rs) n ⟨[(0, .dat (.slc tUndo) x0), (3, .dat (.int .i64) x3)], []⟩
theorem ref08_Right.f_eq (k : Nat) (a0 : Ty.D (.slc tUndo)) : ref08_Right.f k a0 = ref08_Right.l2 k k a0 0 := by kernel_rfl
theorem ref08_Right.l2_eq (k : Nat) (n2 : Nat) (x0 : Ty.D (.slc tUndo)) (x3 : Ty.D (.int .i64)) : ref08_Right.l2 k (n2 + 1) x0 x3 = br (ilt x3 (ilen x0)) (br (inL x3 x0) (bnd (ref08_one.f k (rd tUndo x0 (natOf x3))) fun r0 => br (bnot r0) (some false) (br (ilt 0 x3) (br (inL (isub .i64 x3 1) x0) (br (inL x3 x0) (bnd (ref04_Compare.f k ((rd tUndo x0 (natOf (isub .i64 x3 1))).1) ((rd tUndo x0 (natOf x3)).1)) fun r1 => br (bnot (ieq r1 (-1))) (some false) (ref08_Right.l2 k n2 x0 (iadd .i64 x3 1))) none) none) (ref08_Right.l2 k n2 x0 (iadd .i64 x3 1)))) none) (some true) := by kernel_rfl
noncomputable def ref08_Right.e (k : Nat) : Entry := Sg.entry ref08_Right.sg fun x => ref08_Right.f k x
theorem ref08_Right.ok (k : Nat) : CallOK Tryz.prog 46 (ref08_Right.e k) := fn_ok (c := ref08_Right.cx k) (code := ref08_Right.body) (TT.of tt_ok pp_ok mm_ok) (fns_ok ⟨(ref08_one.ok k), (ref04_Compare.ok k), trivial⟩) mixed Tryz.func46 (by kernel_rfl) (by kernel_rfl) (by kernel_rfl) (by kernel_rfl) (by kernel_rfl) (by kernel_rfl) (fun x => by kernel_rfl)
noncomputable def ref08_Read.body : Go.Code := Tryz.f20.body.getD .skip
noncomputable def ref08_Read.rs : List Go.ResultVar := Tryz.f20.results.toList
def ref08_Read.regs : List (Nat × RInfo) := [(0, ri [0,1] [1000000]), (1, ri [0,5] [11,1000000]), (2, ri [0,5,6] [11,1000000]), (3, ri [0,5,6,7] [11,1000000]), (4, ⟨[0, 5, 6, 7, 14], [11, 1000000], [], [], 0, [0, 5, 6, 7], [11, 1000000], [], [], []⟩), (6, ri [0,5,6,7,8] [8,11,1000000]), (7, ⟨[0, 5, 6, 7], [11, 1000000], [0, 6, 7], [], 7, [], [], [], [[], [], [], [], [1, 3], [1, 3], [1, 3], [1, 3]], []⟩), (5, ri [0,5,6,7] [11,1000000]), (8, ri [0,6,35] [1000000]), (9, ri [0,6] [1000000]), (10, ri [6,43] [1000000]), (11, ri [4] [1000000]), (12, ⟨[4], [1000000], [0, 1], [], 0, [], [], [], [], []⟩)]
noncomputable def ref08_Read.cx (k : Nat) : Cx := ⟨tt, pp, [(43, (ref02_Reader_Many.e k)), (44, (ref04_Read.e k)), (45, (ref02_Reader_Int.e k)), (46, (ref08_Right.e k))], ref08_Read.regs, k, mm⟩
@[reducible] def ref08_Read.sg : Sg := ⟨[.ref, .dat (.int .i64)], [tref02Reader], .own tUndo, [tref02Reader]⟩
noncomputable def ref08_Read.f (k : Nat) (a1 : Ty.D (.int .i64)) (o0 : Ty.D tref02Reader) : Option (Sg.Out ref08_Read.sg) := Sg.fn ref08_Read.sg (ref08_Read.cx k) ref08_Read.body ref08_Read.rs (a1, o0)
noncomputable def ref08_Read.l4 (k : Nat) (n : Nat) (x5 : Ty.D (.int .i64)) (x6 : List (Ty.D tUndo)) (x7 : Ty.D (.int .i64)) (m1000000 : Ty.D tref02Reader) : Option (Sg.Out ref08_Read.sg) := loopAt (ref08_Read.cx k) ref08_Read.body [1, 1, 1, 0, 1, 0] 4 [0, 5, 6, 7] [11, 1000000] [] (Sg.K ref08_Read.sg (ref08_Read.cx k) ref08_Read.rs) n ⟨[(0, .ref 1000000 []), (5, .dat (.int .i64) x5), (6, .own tUndo x6), (7, .dat (.int .i64) x7)], [(1000000, .dat tref02Reader m1000000)]⟩
theorem ref08_Read.f_eq (k : Nat) (a1 : Ty.D (.int .i64)) (o0 : Ty.D tref02Reader) : ref08_Read.f k a1 o0 = bnd (ref02_Reader_Many.f k a1 o0) fun r0 => ref08_Read.l4 k k r0.1 [] 0 r0.2 := by kernel_rfl
theorem ref08_Read.l4_eq (k : Nat) (n4 : Nat) (x5 : Ty.D (.int .i64)) (x6 : List (Ty.D tUndo)) (x7 : Ty.D (.int .i64)) (m1000000 : Ty.D tref02Reader) : ref08_Read.l4 k (n4 + 1) x5 x6 x7 m1000000 = br (ilt x7 x5) (bnd (ref04_Read.f k m1000000) fun r0 => bnd (ref02_Reader_Int.f k r0.2) fun r1 => br (room x6 ((r0.1, r1.1) :: [])) (ref08_Read.l4 k n4 x5 (app x6 ((r0.1, r1.1) :: [])) (iadd .i64 x7 1) r1.2) none) (br (ieq m1000000.2.2 0) (bnd (ref08_Right.f k x6) fun r2 => br (bnot r2) (some ([], (m1000000.1, (m1000000.2.1, 2)))) (br (bnot (ieq m1000000.2.2 0)) (some ([], m1000000)) (some (x6, m1000000)))) (br (bnot (ieq m1000000.2.2 0)) (some ([], m1000000)) (some (x6, m1000000)))) := by kernel_rfl
noncomputable def ref08_Read.e (k : Nat) : Entry := Sg.entry ref08_Read.sg fun x => ref08_Read.f k x.1 x.2
theorem ref08_Read.ok (k : Nat) : CallOK Tryz.prog 20 (ref08_Read.e k) := fn_ok (c := ref08_Read.cx k) (code := ref08_Read.body) (TT.of tt_ok pp_ok mm_ok) (fns_ok ⟨(ref02_Reader_Many.ok k), (ref04_Read.ok k), (ref02_Reader_Int.ok k), (ref08_Right.ok k), trivial⟩) mixed Tryz.func20 (by kernel_rfl) (by kernel_rfl) (by kernel_rfl) (by kernel_rfl) (by kernel_rfl) (by kernel_rfl) (fun x => by kernel_rfl)
noncomputable def ref24_Read.body : Go.Code := Tryz.f7.body.getD .skip
noncomputable def ref24_Read.rs : List Go.ResultVar := Tryz.f7.results.toList
def ref24_Read.regs : List (Nat × RInfo) := [(0, ri [0,2] [2,1000000]), (1, ⟨[0, 2, 3], [2, 3, 1000000], [2], [], 0, [], [], [], [], []⟩), (2, ⟨[0, 2, 3], [2, 3, 1000000], [3], [], 0, [], [], [], [], []⟩), (3, ⟨[0, 2, 3], [2, 3, 1000000], [3], [], 0, [], [], [], [], []⟩), (4, ⟨[0, 2, 3], [2, 3, 1000000], [3], [], 0, [], [], [], [], []⟩), (5, ri [2,3,18] [2,3,1000000]), (6, ⟨[2], [2, 1000000], [1], [], 0, [], [], [], [], []⟩), (7, ⟨[2], [2, 1000000], [1], [], 0, [], [], [], [], []⟩)]
noncomputable def ref24_Read.cx (k : Nat) : Cx := ⟨tt, pp, [(19, (ref06_Read.e k)), (20, (ref08_Read.e k))], ref24_Read.regs, k, mm⟩
@[reducible] def ref24_Read.sg : Sg := ⟨[.ref], [tref02Reader], .dat tKnow, [tref02Reader]⟩
noncomputable def ref24_Read.f (k : Nat) (o0 : Ty.D tref02Reader) : Option (Sg.Out ref24_Read.sg) := Sg.fn ref24_Read.sg (ref24_Read.cx k) ref24_Read.body ref24_Read.rs o0
theorem ref24_Read.f_eq (k : Nat) (o0 : Ty.D tref02Reader) : ref24_Read.f k o0 = bnd (ref06_Read.f k o0) fun r0 => bnd (ref08_Read.f k 1048576 r0.2) fun r1 => bnd (ref06_Read.f k r1.2) fun r2 => br (bnot (ieq r2.2.2.2 0)) (some ((((zarr 16 0), []), ([], ((zarr 16 0), []))), r2.2)) (some ((r0.1, (r1.1, r2.1)), r2.2)) := by kernel_rfl
noncomputable def ref24_Read.e (k : Nat) : Entry := Sg.entry ref24_Read.sg fun x => ref24_Read.f k x
theorem ref24_Read.ok (k : Nat) : CallOK Tryz.prog 7 (ref24_Read.e k) := fn_ok (c := ref24_Read.cx k) (code := ref24_Read.body) (TT.of tt_ok pp_ok mm_ok) (fns_ok ⟨(ref06_Read.ok k), (ref08_Read.ok k), trivial⟩) mixed Tryz.func7 (by kernel_rfl) (by kernel_rfl) (by kernel_rfl) (by kernel_rfl) (by kernel_rfl) (by kernel_rfl) (fun x => by kernel_rfl)
noncomputable def ref04_Same.body : Go.Code := Tryz.f32.body.getD .skip
noncomputable def ref04_Same.rs : List Go.ResultVar := Tryz.f32.results.toList
def ref04_Same.regs : List (Nat × RInfo) := [(0, ri [0,1] []), (1, ri [0,1,10] []), (2, ri [4] []), (3, ri [0,1,5] []), (4, ⟨[0, 1, 5, 14], [], [], [], 0, [0, 1, 5], [], [], [], []⟩), (6, rq [0,1,5,25] [] 9), (7, ri [4] []), (5, ri [0,1,5] []), (8, ri [4] [])]
noncomputable def ref04_Same.cx (k : Nat) : Cx := ⟨tt, pp, [], ref04_Same.regs, k, mm⟩
@[reducible] def ref04_Same.sg : Sg := ⟨[.dat (.slc tDot), .dat (.slc tDot)], [], .dat .bool, []⟩
noncomputable def ref04_Same.f (k : Nat) (a0 : Ty.D (.slc tDot)) (a1 : Ty.D (.slc tDot)) : Option (Sg.Out ref04_Same.sg) := Sg.fn ref04_Same.sg (ref04_Same.cx k) ref04_Same.body ref04_Same.rs (a0, a1)
noncomputable def ref04_Same.l4 (k : Nat) (n : Nat) (x0 : Ty.D (.slc tDot)) (x1 : Ty.D (.slc tDot)) (x5 : Ty.D (.int .i64)) : Option (Sg.Out ref04_Same.sg) := loopAt (ref04_Same.cx k) ref04_Same.body [1, 1, 0, 1, 0] 4 [0, 1, 5] [] [] (Sg.K ref04_Same.sg (ref04_Same.cx k) ref04_Same.rs) n ⟨[(0, .dat (.slc tDot) x0), (1, .dat (.slc tDot) x1), (5, .dat (.int .i64) x5)], []⟩
theorem ref04_Same.f_eq (k : Nat) (a0 : Ty.D (.slc tDot)) (a1 : Ty.D (.slc tDot)) : ref04_Same.f k a0 a1 = br (bnot (ieq (ilen a0) (ilen a1))) (some false) (ref04_Same.l4 k k a0 a1 0) := by kernel_rfl
theorem ref04_Same.l4_eq (k : Nat) (n4 : Nat) (x0 : Ty.D (.slc tDot)) (x1 : Ty.D (.slc tDot)) (x5 : Ty.D (.int .i64)) : ref04_Same.l4 k (n4 + 1) x0 x1 x5 = br (ilt x5 (ilen x0)) (br (inL x5 x0) (br (inL x5 x1) (br (bnot (deq tDot (rd tDot x0 (natOf x5)) (rd tDot x1 (natOf x5)))) (some false) (ref04_Same.l4 k n4 x0 x1 (iadd .i64 x5 1))) none) none) (some true) := by kernel_rfl
noncomputable def ref04_Same.e (k : Nat) : Entry := Sg.entry ref04_Same.sg fun x => ref04_Same.f k x.1 x.2
theorem ref04_Same.ok (k : Nat) : CallOK Tryz.prog 32 (ref04_Same.e k) := fn_ok (c := ref04_Same.cx k) (code := ref04_Same.body) (TT.of tt_ok pp_ok mm_ok) (fns_ok trivial) mixed Tryz.func32 (by kernel_rfl) (by kernel_rfl) (by kernel_rfl) (by kernel_rfl) (by kernel_rfl) (by kernel_rfl) (fun x => by kernel_rfl)
noncomputable def ref06_Same.body : Go.Code := Tryz.f15.body.getD .skip
noncomputable def ref06_Same.rs : List Go.ResultVar := Tryz.f15.results.toList
def ref06_Same.regs : List (Nat × RInfo) := [(0, ⟨[2, 3], [2, 3], [0, 1], [], 0, [], [], [], [], []⟩), (1, ri [4] [15])]
noncomputable def ref06_Same.cx (k : Nat) : Cx := ⟨tt, pp, [(32, (ref04_Same.e k))], ref06_Same.regs, k, mm⟩
@[reducible] def ref06_Same.sg : Sg := ⟨[.dat tDots, .dat tDots], [], .dat .bool, []⟩
noncomputable def ref06_Same.f (k : Nat) (a0 : Ty.D tDots) (a1 : Ty.D tDots) : Option (Sg.Out ref06_Same.sg) := Sg.fn ref06_Same.sg (ref06_Same.cx k) ref06_Same.body ref06_Same.rs (a0, a1)
theorem ref06_Same.f_eq (k : Nat) (a0 : Ty.D tDots) (a1 : Ty.D tDots) : ref06_Same.f k a0 a1 = br (deq tVec a0.1 a1.1) (bnd (ref04_Same.f k a0.2 a1.2) fun r0 => some r0) (some false) := by kernel_rfl
noncomputable def ref06_Same.e (k : Nat) : Entry := Sg.entry ref06_Same.sg fun x => ref06_Same.f k x.1 x.2
theorem ref06_Same.ok (k : Nat) : CallOK Tryz.prog 15 (ref06_Same.e k) := fn_ok (c := ref06_Same.cx k) (code := ref06_Same.body) (TT.of tt_ok pp_ok mm_ok) (fns_ok ⟨(ref04_Same.ok k), trivial⟩) mixed Tryz.func15 (by kernel_rfl) (by kernel_rfl) (by kernel_rfl) (by kernel_rfl) (by kernel_rfl) (by kernel_rfl) (fun x => by kernel_rfl)
noncomputable def ref08_Same.body : Go.Code := Tryz.f16.body.getD .skip
noncomputable def ref08_Same.rs : List Go.ResultVar := Tryz.f16.results.toList
def ref08_Same.regs : List (Nat × RInfo) := [(0, ri [0,1] []), (1, ri [0,1,10] []), (2, ri [4] []), (3, ri [0,1,5] []), (4, ⟨[0, 1, 5, 14], [], [], [], 0, [0, 1, 5], [], [], [], []⟩), (6, rq [0,1,5,25] [] 9), (7, ri [4] []), (5, ri [0,1,5] []), (8, ri [4] [])]
noncomputable def ref08_Same.cx (k : Nat) : Cx := ⟨tt, pp, [], ref08_Same.regs, k, mm⟩
@[reducible] def ref08_Same.sg : Sg := ⟨[.dat (.slc tUndo), .dat (.slc tUndo)], [], .dat .bool, []⟩
noncomputable def ref08_Same.f (k : Nat) (a0 : Ty.D (.slc tUndo)) (a1 : Ty.D (.slc tUndo)) : Option (Sg.Out ref08_Same.sg) := Sg.fn ref08_Same.sg (ref08_Same.cx k) ref08_Same.body ref08_Same.rs (a0, a1)
noncomputable def ref08_Same.l4 (k : Nat) (n : Nat) (x0 : Ty.D (.slc tUndo)) (x1 : Ty.D (.slc tUndo)) (x5 : Ty.D (.int .i64)) : Option (Sg.Out ref08_Same.sg) := loopAt (ref08_Same.cx k) ref08_Same.body [1, 1, 0, 1, 0] 4 [0, 1, 5] [] [] (Sg.K ref08_Same.sg (ref08_Same.cx k) ref08_Same.rs) n ⟨[(0, .dat (.slc tUndo) x0), (1, .dat (.slc tUndo) x1), (5, .dat (.int .i64) x5)], []⟩
theorem ref08_Same.f_eq (k : Nat) (a0 : Ty.D (.slc tUndo)) (a1 : Ty.D (.slc tUndo)) : ref08_Same.f k a0 a1 = br (bnot (ieq (ilen a0) (ilen a1))) (some false) (ref08_Same.l4 k k a0 a1 0) := by kernel_rfl
theorem ref08_Same.l4_eq (k : Nat) (n4 : Nat) (x0 : Ty.D (.slc tUndo)) (x1 : Ty.D (.slc tUndo)) (x5 : Ty.D (.int .i64)) : ref08_Same.l4 k (n4 + 1) x0 x1 x5 = br (ilt x5 (ilen x0)) (br (inL x5 x0) (br (inL x5 x1) (br (bnot (deq tUndo (rd tUndo x0 (natOf x5)) (rd tUndo x1 (natOf x5)))) (some false) (ref08_Same.l4 k n4 x0 x1 (iadd .i64 x5 1))) none) none) (some true) := by kernel_rfl
noncomputable def ref08_Same.e (k : Nat) : Entry := Sg.entry ref08_Same.sg fun x => ref08_Same.f k x.1 x.2
theorem ref08_Same.ok (k : Nat) : CallOK Tryz.prog 16 (ref08_Same.e k) := fn_ok (c := ref08_Same.cx k) (code := ref08_Same.body) (TT.of tt_ok pp_ok mm_ok) (fns_ok trivial) mixed Tryz.func16 (by kernel_rfl) (by kernel_rfl) (by kernel_rfl) (by kernel_rfl) (by kernel_rfl) (by kernel_rfl) (fun x => by kernel_rfl)
noncomputable def ref24_Same.body : Go.Code := Tryz.f5.body.getD .skip
noncomputable def ref24_Same.rs : List Go.ResultVar := Tryz.f5.results.toList
def ref24_Same.regs : List (Nat × RInfo) := [(0, ⟨[2, 3], [2, 3], [0, 1], [], 0, [], [], [], [], []⟩), (1, ri [4] [9,15,22])]
noncomputable def ref24_Same.cx (k : Nat) : Cx := ⟨tt, pp, [(15, (ref06_Same.e k)), (16, (ref08_Same.e k))], ref24_Same.regs, k, mm⟩
@[reducible] def ref24_Same.sg : Sg := ⟨[.dat tKnow, .dat tKnow], [], .dat .bool, []⟩
noncomputable def ref24_Same.f (k : Nat) (a0 : Ty.D tKnow) (a1 : Ty.D tKnow) : Option (Sg.Out ref24_Same.sg) := Sg.fn ref24_Same.sg (ref24_Same.cx k) ref24_Same.body ref24_Same.rs (a0, a1)
theorem ref24_Same.f_eq (k : Nat) (a0 : Ty.D tKnow) (a1 : Ty.D tKnow) : ref24_Same.f k a0 a1 = bnd (ref06_Same.f k a0.1 a1.1) fun r0 => br r0 (bnd (ref08_Same.f k a0.2.1 a1.2.1) fun r1 => br r1 (bnd (ref06_Same.f k a0.2.2 a1.2.2) fun r2 => some r2) (some false)) (some false) := by kernel_rfl
noncomputable def ref24_Same.e (k : Nat) : Entry := Sg.entry ref24_Same.sg fun x => ref24_Same.f k x.1 x.2
theorem ref24_Same.ok (k : Nat) : CallOK Tryz.prog 5 (ref24_Same.e k) := fn_ok (c := ref24_Same.cx k) (code := ref24_Same.body) (TT.of tt_ok pp_ok mm_ok) (fns_ok ⟨(ref06_Same.ok k), (ref08_Same.ok k), trivial⟩) mixed Tryz.func5 (by kernel_rfl) (by kernel_rfl) (by kernel_rfl) (by kernel_rfl) (by kernel_rfl) (by kernel_rfl) (fun x => by kernel_rfl)
noncomputable def pack_Reader_Left.body : Go.Code := Tryz.f9.body.getD .skip
noncomputable def pack_Reader_Left.rs : List Go.ResultVar := Tryz.f9.results.toList
def pack_Reader_Left.regs : List (Nat × RInfo) := [(0, ri [0] [1000000]), (1, ri [0,5] [1000000]), (2, ri [2] [1000000]), (3, ri [2] [1000000])]
noncomputable def pack_Reader_Left.cx (k : Nat) : Cx := ⟨tt, pp, [(21, (pack_Reader_fine.e k))], pack_Reader_Left.regs, k, mm⟩
@[reducible] def pack_Reader_Left.sg : Sg := ⟨[.ref], [tpackReader], .dat (.int .i64), [tpackReader]⟩
noncomputable def pack_Reader_Left.f (k : Nat) (o0 : Ty.D tpackReader) : Option (Sg.Out pack_Reader_Left.sg) := Sg.fn pack_Reader_Left.sg (pack_Reader_Left.cx k) pack_Reader_Left.body pack_Reader_Left.rs o0
theorem pack_Reader_Left.f_eq (k : Nat) (o0 : Ty.D tpackReader) : pack_Reader_Left.f k o0 = bnd (pack_Reader_fine.f k o0) fun r0 => br (bnot r0.1) (some (0, r0.2)) (some ((ilen r0.2.1), r0.2)) := by kernel_rfl
noncomputable def pack_Reader_Left.e (k : Nat) : Entry := Sg.entry pack_Reader_Left.sg fun x => pack_Reader_Left.f k x
theorem pack_Reader_Left.ok (k : Nat) : CallOK Tryz.prog 9 (pack_Reader_Left.e k) := fn_ok (c := pack_Reader_Left.cx k) (code := pack_Reader_Left.body) (TT.of tt_ok pp_ok mm_ok) (fns_ok ⟨(pack_Reader_fine.ok k), trivial⟩) mixed Tryz.func9 (by kernel_rfl) (by kernel_rfl) (by kernel_rfl) (by kernel_rfl) (by kernel_rfl) (by kernel_rfl) (fun x => by kernel_rfl)
noncomputable def ref02_Reader_Left.body : Go.Code := Tryz.f10.body.getD .skip
noncomputable def ref02_Reader_Left.rs : List Go.ResultVar := Tryz.f10.results.toList
def ref02_Reader_Left.regs : List (Nat × RInfo) := [(0, ri [0] [1000000]), (1, ri [0,7] [1000000]), (2, ri [2] [1000000]), (3, rq [2] [1000000] 10)]
noncomputable def ref02_Reader_Left.cx (k : Nat) : Cx := ⟨tt, pp, [], ref02_Reader_Left.regs, k, mm⟩
@[reducible] def ref02_Reader_Left.sg : Sg := ⟨[.ref], [tref02Reader], .dat (.int .i64), [tref02Reader]⟩
noncomputable def ref02_Reader_Left.f (k : Nat) (o0 : Ty.D tref02Reader) : Option (Sg.Out ref02_Reader_Left.sg) := Sg.fn ref02_Reader_Left.sg (ref02_Reader_Left.cx k) ref02_Reader_Left.body ref02_Reader_Left.rs o0
theorem ref02_Reader_Left.f_eq (k : Nat) (o0 : Ty.D tref02Reader) : ref02_Reader_Left.f k o0 = br (bnot (ieq o0.2.2 0)) (some (0, o0)) (some ((isub .i64 (ilen o0.1) o0.2.1), o0)) := by kernel_rfl
noncomputable def ref02_Reader_Left.e (k : Nat) : Entry := Sg.entry ref02_Reader_Left.sg fun x => ref02_Reader_Left.f k x
theorem ref02_Reader_Left.ok (k : Nat) : CallOK Tryz.prog 10 (ref02_Reader_Left.e k) := fn_ok (c := ref02_Reader_Left.cx k) (code := ref02_Reader_Left.body) (TT.of tt_ok pp_ok mm_ok) (fns_ok trivial) mixed Tryz.func10 (by kernel_rfl) (by kernel_rfl) (by kernel_rfl) (by kernel_rfl) (by kernel_rfl) (by kernel_rfl) (fun x => by kernel_rfl)
noncomputable def ref24_Short.body : Go.Code := Tryz.f22.body.getD .skip
noncomputable def ref24_Short.rs : List Go.ResultVar := Tryz.f22.results.toList
def ref24_Short.regs : List (Nat × RInfo) := [(0, ⟨[1], [1], [0], [], 0, [], [], [], [], []⟩), (1, ri [2] [])]
noncomputable def ref24_Short.cx (k : Nat) : Cx := ⟨tt, pp, [], ref24_Short.regs, k, mm⟩
@[reducible] def ref24_Short.sg : Sg := ⟨[.dat tKnow], [], .dat .bool, []⟩
noncomputable def ref24_Short.f (k : Nat) (a0 : Ty.D tKnow) : Option (Sg.Out ref24_Short.sg) := Sg.fn ref24_Short.sg (ref24_Short.cx k) ref24_Short.body ref24_Short.rs a0
theorem ref24_Short.f_eq (k : Nat) (a0 : Ty.D tKnow) : ref24_Short.f k a0 = br (ile (ilen a0.1.2) 100) (br (ile (ilen a0.2.1) 100) (some (ile (ilen a0.2.2.2) 100)) (some false)) (some false) := by kernel_rfl
noncomputable def ref24_Short.e (k : Nat) : Entry := Sg.entry ref24_Short.sg fun x => ref24_Short.f k x
theorem ref24_Short.ok (k : Nat) : CallOK Tryz.prog 22 (ref24_Short.e k) := fn_ok (c := ref24_Short.cx k) (code := ref24_Short.body) (TT.of tt_ok pp_ok mm_ok) (fns_ok trivial) mixed Tryz.func22 (by kernel_rfl) (by kernel_rfl) (by kernel_rfl) (by kernel_rfl) (by kernel_rfl) (by kernel_rfl) (fun x => by kernel_rfl)
noncomputable def ref24_Right.body : Go.Code := Tryz.f23.body.getD .skip
noncomputable def ref24_Right.rs : List Go.ResultVar := Tryz.f23.results.toList
def ref24_Right.regs : List (Nat × RInfo) := [(0, ⟨[1], [1], [0], [], 0, [], [], [], [], []⟩), (1, ri [2] [5,9,14])]
noncomputable def ref24_Right.cx (k : Nat) : Cx := ⟨tt, pp, [(42, (ref06_Right.e k)), (46, (ref08_Right.e k))], ref24_Right.regs, k, mm⟩
@[reducible] def ref24_Right.sg : Sg := ⟨[.dat tKnow], [], .dat .bool, []⟩
noncomputable def ref24_Right.f (k : Nat) (a0 : Ty.D tKnow) : Option (Sg.Out ref24_Right.sg) := Sg.fn ref24_Right.sg (ref24_Right.cx k) ref24_Right.body ref24_Right.rs a0
theorem ref24_Right.f_eq (k : Nat) (a0 : Ty.D tKnow) : ref24_Right.f k a0 = bnd (ref06_Right.f k a0.1) fun r0 => br r0 (bnd (ref08_Right.f k a0.2.1) fun r1 => br r1 (bnd (ref06_Right.f k a0.2.2) fun r2 => some r2) (some false)) (some false) := by kernel_rfl
noncomputable def ref24_Right.e (k : Nat) : Entry := Sg.entry ref24_Right.sg fun x => ref24_Right.f k x
theorem ref24_Right.ok (k : Nat) : CallOK Tryz.prog 23 (ref24_Right.e k) := fn_ok (c := ref24_Right.cx k) (code := ref24_Right.body) (TT.of tt_ok pp_ok mm_ok) (fns_ok ⟨(ref06_Right.ok k), (ref08_Right.ok k), trivial⟩) mixed Tryz.func23 (by kernel_rfl) (by kernel_rfl) (by kernel_rfl) (by kernel_rfl) (by kernel_rfl) (by kernel_rfl) (fun x => by kernel_rfl)
noncomputable def ref24_Good.body : Go.Code := Tryz.f11.body.getD .skip
noncomputable def ref24_Good.rs : List Go.ResultVar := Tryz.f11.results.toList
def ref24_Good.regs : List (Nat × RInfo) := [(0, ⟨[1], [1], [0], [], 0, [], [], [], [], []⟩), (1, ri [2] [4,7])]
noncomputable def ref24_Good.cx (k : Nat) : Cx := ⟨tt, pp, [(22, (ref24_Short.e k)), (23, (ref24_Right.e k))], ref24_Good.regs, k, mm⟩
@[reducible] def ref24_Good.sg : Sg := ⟨[.dat tKnow], [], .dat .bool, []⟩
noncomputable def ref24_Good.f (k : Nat) (a0 : Ty.D tKnow) : Option (Sg.Out ref24_Good.sg) := Sg.fn ref24_Good.sg (ref24_Good.cx k) ref24_Good.body ref24_Good.rs a0
theorem ref24_Good.f_eq (k : Nat) (a0 : Ty.D tKnow) : ref24_Good.f k a0 = bnd (ref24_Short.f k a0) fun r0 => br r0 (bnd (ref24_Right.f k a0) fun r1 => some r1) (some false) := by kernel_rfl
noncomputable def ref24_Good.e (k : Nat) : Entry := Sg.entry ref24_Good.sg fun x => ref24_Good.f k x
theorem ref24_Good.ok (k : Nat) : CallOK Tryz.prog 11 (ref24_Good.e k) := fn_ok (c := ref24_Good.cx k) (code := ref24_Good.body) (TT.of tt_ok pp_ok mm_ok) (fns_ok ⟨(ref24_Short.ok k), (ref24_Right.ok k), trivial⟩) mixed Tryz.func11 (by kernel_rfl) (by kernel_rfl) (by kernel_rfl) (by kernel_rfl) (by kernel_rfl) (by kernel_rfl) (fun x => by kernel_rfl)
noncomputable def txn_Find_1.body : Go.Code := Tryz.f68.body.getD .skip
noncomputable def txn_Find_1.rs : List Go.ResultVar := Tryz.f68.results.toList
def txn_Find_1.regs : List (Nat × RInfo) := [(0, ⟨[2, 3], [2, 3], [0], [], 0, [], [], [], [], []⟩), (1, ri [4] [8])]
noncomputable def txn_Find_1.cx (k : Nat) : Cx := ⟨tt, pp, [(61, (dot_Compare.e k))], txn_Find_1.regs, k, mm⟩
@[reducible] def txn_Find_1.sg : Sg := ⟨[.dat tTxn, .dat tDot], [], .dat (.int .i64), []⟩
noncomputable def txn_Find_1.f (k : Nat) (a0 : Ty.D tTxn) (a1 : Ty.D tDot) : Option (Sg.Out txn_Find_1.sg) := Sg.fn txn_Find_1.sg (txn_Find_1.cx k) txn_Find_1.body txn_Find_1.rs (a0, a1)
noncomputable def txn_Find_1.e (k : Nat) : Entry := Sg.entry txn_Find_1.sg fun x => txn_Find_1.f k x.1 x.2
theorem txn_Find_1.ok (k : Nat) : CallOK Tryz.prog 68 (txn_Find_1.e k) := fn_ok (c := txn_Find_1.cx k) (code := txn_Find_1.body) (TT.of tt_ok pp_ok mm_ok) (fns_ok ⟨(dot_Compare.ok k), trivial⟩) mixed Tryz.func68 (by kernel_rfl) (by kernel_rfl) (by kernel_rfl) (by kernel_rfl) (by kernel_rfl) (by kernel_rfl) (fun x => by kernel_rfl)
noncomputable def slices_BinarySearchFunc_api_Txn_api_Txn_api_Dot_txn_Find_1.body : Go.Code := Tryz.f67.body.getD .skip
noncomputable def slices_BinarySearchFunc_api_Txn_api_Txn_api_Dot_txn_Find_1.rs : List Go.ResultVar := Tryz.f67.results.toList
def slices_BinarySearchFunc_api_Txn_api_Txn_api_Dot_txn_Find_1.regs : List (Nat × RInfo) := [(0, ri [0,2,4] [4]), (1, ri [0,2,4,8] [4]), (2, ri [0,2,4,8,9,10] [4]), (3, ⟨[0, 2, 4, 8, 9, 10, 17], [4], [], [], 0, [0, 2, 4, 8, 9, 10], [4], [], [], []⟩), (4, ri [0,2,4,8,9,10,11] [4]), (5, ⟨[0, 2, 4, 8, 9, 10, 11, 31], [4], [], [], 8, [], [], [], [[], [], [], [], [], [], [4, 5], [6, 4, 5]], []⟩), (6, ri [0,2,4,8,9,10] [4]), (7, ri [0,2,4,8,9,10] [4]), (8, ⟨[6, 7], [], [], [], 15, [], [], [], [[], [], [], [], [], [], [], [], [], [], [], [9, 10], [11, 9, 10], [11, 9, 10], [11, 9, 10], [11, 9, 10]], []⟩)]
noncomputable def slices_BinarySearchFunc_api_Txn_api_Txn_api_Dot_txn_Find_1.cx (k : Nat) : Cx := ⟨tt, pp, [(68, (txn_Find_1.e k))], slices_BinarySearchFunc_api_Txn_api_Txn_api_Dot_txn_Find_1.regs, k, mm⟩
@[reducible] def slices_BinarySearchFunc_api_Txn_api_Txn_api_Dot_txn_Find_1.sg : Sg := ⟨[.dat (.slc tTxn), .dat tDot, .fn 68 0], [], .t2 (.dat (.int .i64)) (.dat .bool), []⟩
noncomputable def slices_BinarySearchFunc_api_Txn_api_Txn_api_Dot_txn_Find_1.f (k : Nat) (a0 : Ty.D (.slc tTxn)) (a1 : Ty.D tDot) : Option (Sg.Out slices_BinarySearchFunc_api_Txn_api_Txn_api_Dot_txn_Find_1.sg) := Sg.fn slices_BinarySearchFunc_api_Txn_api_Txn_api_Dot_txn_Find_1.sg (slices_BinarySearchFunc_api_Txn_api_Txn_api_Dot_txn_Find_1.cx k) slices_BinarySearchFunc_api_Txn_api_Txn_api_Dot_txn_Find_1.body slices_BinarySearchFunc_api_Txn_api_Txn_api_Dot_txn_Find_1.rs (a0, a1)
noncomputable def slices_BinarySearchFunc_api_Txn_api_Txn_api_Dot_txn_Find_1.e (k : Nat) : Entry := Sg.entry slices_BinarySearchFunc_api_Txn_api_Txn_api_Dot_txn_Find_1.sg fun x => slices_BinarySearchFunc_api_Txn_api_Txn_api_Dot_txn_Find_1.f k x.1 x.2
theorem slices_BinarySearchFunc_api_Txn_api_Txn_api_Dot_txn_Find_1.ok (k : Nat) : CallOK Tryz.prog 67 (slices_BinarySearchFunc_api_Txn_api_Txn_api_Dot_txn_Find_1.e k) := fn_ok (c := slices_BinarySearchFunc_api_Txn_api_Txn_api_Dot_txn_Find_1.cx k) (code := slices_BinarySearchFunc_api_Txn_api_Txn_api_Dot_txn_Find_1.body) (TT.of tt_ok pp_ok mm_ok) (fns_ok ⟨(txn_Find_1.ok k), trivial⟩) mixed Tryz.func67 (by kernel_rfl) (by kernel_rfl) (by kernel_rfl) (by kernel_rfl) (by kernel_rfl) (by kernel_rfl) (fun x => by kernel_rfl)
noncomputable def txn_Find.body : Go.Code := Tryz.f47.body.getD .skip
noncomputable def txn_Find.rs : List Go.ResultVar := Tryz.f47.results.toList
def txn_Find.regs : List (Nat × RInfo) := [(0, ri [0,3] [3]), (1, ri [5,6] [10]), (2, ri [5,14] [10]), (3, ri [4] [10]), (4, ri [4] [10])]
noncomputable def txn_Find.cx (k : Nat) : Cx := ⟨tt, pp, [(67, (slices_BinarySearchFunc_api_Txn_api_Txn_api_Dot_txn_Find_1.e k)), (68, (txn_Find_1.e k))], txn_Find.regs, k, mm⟩
@[reducible] def txn_Find.sg : Sg := ⟨[.dat (.slc tTxn), .dat tDot], [], .dat (.int .i64), []⟩
noncomputable def txn_Find.f (k : Nat) (a0 : Ty.D (.slc tTxn)) (a1 : Ty.D tDot) : Option (Sg.Out txn_Find.sg) := Sg.fn txn_Find.sg (txn_Find.cx k) txn_Find.body txn_Find.rs (a0, a1)
noncomputable def txn_Find.e (k : Nat) : Entry := Sg.entry txn_Find.sg fun x => txn_Find.f k x.1 x.2
theorem txn_Find.ok (k : Nat) : CallOK Tryz.prog 47 (txn_Find.e k) := fn_ok (c := txn_Find.cx k) (code := txn_Find.body) (TT.of tt_ok pp_ok mm_ok) (fns_ok ⟨(slices_BinarySearchFunc_api_Txn_api_Txn_api_Dot_txn_Find_1.ok k), (txn_Find_1.ok k), trivial⟩) mixed Tryz.func47 (by kernel_rfl) (by kernel_rfl) (by kernel_rfl) (by kernel_rfl) (by kernel_rfl) (by kernel_rfl) (fun x => by kernel_rfl)
noncomputable def txn_Put_1.body : Go.Code := Tryz.f69.body.getD .skip
noncomputable def txn_Put_1.rs : List Go.ResultVar := Tryz.f69.results.toList
def txn_Put_1.regs : List (Nat × RInfo) := [(0, ⟨[2, 3], [2, 3], [0], [], 0, [], [], [], [], []⟩), (1, ri [4] [8])]
noncomputable def txn_Put_1.cx (k : Nat) : Cx := ⟨tt, pp, [(61, (dot_Compare.e k))], txn_Put_1.regs, k, mm⟩
@[reducible] def txn_Put_1.sg : Sg := ⟨[.dat tTxn, .dat tDot], [], .dat (.int .i64), []⟩
noncomputable def txn_Put_1.f (k : Nat) (a0 : Ty.D tTxn) (a1 : Ty.D tDot) : Option (Sg.Out txn_Put_1.sg) := Sg.fn txn_Put_1.sg (txn_Put_1.cx k) txn_Put_1.body txn_Put_1.rs (a0, a1)
noncomputable def txn_Put_1.e (k : Nat) : Entry := Sg.entry txn_Put_1.sg fun x => txn_Put_1.f k x.1 x.2
theorem txn_Put_1.ok (k : Nat) : CallOK Tryz.prog 69 (txn_Put_1.e k) := fn_ok (c := txn_Put_1.cx k) (code := txn_Put_1.body) (TT.of tt_ok pp_ok mm_ok) (fns_ok ⟨(dot_Compare.ok k), trivial⟩) mixed Tryz.func69 (by kernel_rfl) (by kernel_rfl) (by kernel_rfl) (by kernel_rfl) (by kernel_rfl) (by kernel_rfl) (fun x => by kernel_rfl)
noncomputable def slices_BinarySearchFunc_api_Txn_api_Txn_api_Dot_txn_Put_1.body : Go.Code := Tryz.f67.body.getD .skip
noncomputable def slices_BinarySearchFunc_api_Txn_api_Txn_api_Dot_txn_Put_1.rs : List Go.ResultVar := Tryz.f67.results.toList
def slices_BinarySearchFunc_api_Txn_api_Txn_api_Dot_txn_Put_1.regs : List (Nat × RInfo) := [(0, ri [0,2,4] [4]), (1, ri [0,2,4,8] [4]), (2, ri [0,2,4,8,9,10] [4]), (3, ⟨[0, 2, 4, 8, 9, 10, 17], [4], [], [], 0, [0, 2, 4, 8, 9, 10], [4], [], [], []⟩), (4, ri [0,2,4,8,9,10,11] [4]), (5, ⟨[0, 2, 4, 8, 9, 10, 11, 31], [4], [], [], 8, [], [], [], [[], [], [], [], [], [], [4, 5], [6, 4, 5]], []⟩), (6, ri [0,2,4,8,9,10] [4]), (7, ri [0,2,4,8,9,10] [4]), (8, ⟨[6, 7], [], [], [], 15, [], [], [], [[], [], [], [], [], [], [], [], [], [], [], [9, 10], [11, 9, 10], [11, 9, 10], [11, 9, 10], [11, 9, 10]], []⟩)]
noncomputable def slices_BinarySearchFunc_api_Txn_api_Txn_api_Dot_txn_Put_1.cx (k : Nat) : Cx := ⟨tt, pp, [(69, (txn_Put_1.e k))], slices_BinarySearchFunc_api_Txn_api_Txn_api_Dot_txn_Put_1.regs, k, mm⟩
@[reducible] def slices_BinarySearchFunc_api_Txn_api_Txn_api_Dot_txn_Put_1.sg : Sg := ⟨[.dat (.slc tTxn), .dat tDot, .fn 69 0], [], .t2 (.dat (.int .i64)) (.dat .bool), []⟩
noncomputable def slices_BinarySearchFunc_api_Txn_api_Txn_api_Dot_txn_Put_1.f (k : Nat) (a0 : Ty.D (.slc tTxn)) (a1 : Ty.D tDot) : Option (Sg.Out slices_BinarySearchFunc_api_Txn_api_Txn_api_Dot_txn_Put_1.sg) := Sg.fn slices_BinarySearchFunc_api_Txn_api_Txn_api_Dot_txn_Put_1.sg (slices_BinarySearchFunc_api_Txn_api_Txn_api_Dot_txn_Put_1.cx k) slices_BinarySearchFunc_api_Txn_api_Txn_api_Dot_txn_Put_1.body slices_BinarySearchFunc_api_Txn_api_Txn_api_Dot_txn_Put_1.rs (a0, a1)
noncomputable def slices_BinarySearchFunc_api_Txn_api_Txn_api_Dot_txn_Put_1.e (k : Nat) : Entry := Sg.entry slices_BinarySearchFunc_api_Txn_api_Txn_api_Dot_txn_Put_1.sg fun x => slices_BinarySearchFunc_api_Txn_api_Txn_api_Dot_txn_Put_1.f k x.1 x.2
theorem slices_BinarySearchFunc_api_Txn_api_Txn_api_Dot_txn_Put_1.ok (k : Nat) : CallOK Tryz.prog 67 (slices_BinarySearchFunc_api_Txn_api_Txn_api_Dot_txn_Put_1.e k) := fn_ok (c := slices_BinarySearchFunc_api_Txn_api_Txn_api_Dot_txn_Put_1.cx k) (code := slices_BinarySearchFunc_api_Txn_api_Txn_api_Dot_txn_Put_1.body) (TT.of tt_ok pp_ok mm_ok) (fns_ok ⟨(txn_Put_1.ok k), trivial⟩) mixed Tryz.func67 (by kernel_rfl) (by kernel_rfl) (by kernel_rfl) (by kernel_rfl) (by kernel_rfl) (by kernel_rfl) (fun x => by kernel_rfl)
noncomputable def txn_Put.body : Go.Code := Tryz.f48.body.getD .skip
noncomputable def txn_Put.rs : List Go.ResultVar := Tryz.f48.results.toList
def txn_Put.regs : List (Nat × RInfo) := [(0, ⟨[0, 3], [3], [0], [], 0, [], [], [1], [], []⟩), (1, ⟨[0, 3, 5, 6], [3, 11], [], [], 0, [], [], [0, 3], [], []⟩), (2, ⟨[0, 3, 5, 14], [3, 11], [], [], 0, [], [], [6], [], []⟩), (3, ⟨[4], [21], [0, 1], [], 0, [], [], [], [], []⟩), (4, ⟨[4], [21], [5, 6], [], 6, [], [], [0, 5, 3], [], []⟩)]
noncomputable def txn_Put.cx (k : Nat) : Cx := ⟨tt, pp, [(67, (Entry.alt slices_BinarySearchFunc_api_Txn_api_Txn_api_Dot_txn_Find_1.sg (slices_BinarySearchFunc_api_Txn_api_Txn_api_Dot_txn_Find_1.e k) (slices_BinarySearchFunc_api_Txn_api_Txn_api_Dot_txn_Put_1.e k))), (69, (txn_Put_1.e k)), (71, (cloneE tTxn)), (70, (insE tTxn))], txn_Put.regs, k, mm⟩
@[reducible] def txn_Put.sg : Sg := ⟨[.dat (.slc tTxn), .dat tTxn], [], .dat (.slc tTxn), []⟩
noncomputable def txn_Put.f (k : Nat) (a0 : Ty.D (.slc tTxn)) (a1 : Ty.D tTxn) : Option (Sg.Out txn_Put.sg) := Sg.fn txn_Put.sg (txn_Put.cx k) txn_Put.body txn_Put.rs (a0, a1)
noncomputable def txn_Put.e (k : Nat) : Entry := Sg.entry txn_Put.sg fun x => txn_Put.f k x.1 x.2
theorem txn_Put.ok (k : Nat) : CallOK Tryz.prog 48 (txn_Put.e k) := fn_ok (c := txn_Put.cx k) (code := txn_Put.body) (TT.of tt_ok pp_ok mm_ok) (fns_ok ⟨(alt_ok (slices_BinarySearchFunc_api_Txn_api_Txn_api_Dot_txn_Find_1.ok k) (slices_BinarySearchFunc_api_Txn_api_Txn_api_Dot_txn_Put_1.ok k)), (txn_Put_1.ok k), cloneTxn_ok, insTxn_ok, trivial⟩) mixed Tryz.func48 (by kernel_rfl) (by kernel_rfl) (by kernel_rfl) (by kernel_rfl) (by kernel_rfl) (by kernel_rfl) (fun x => by kernel_rfl)
noncomputable def vec_Has.body : Go.Code := Tryz.f76.body.getD .skip
noncomputable def vec_Has.rs : List Go.ResultVar := Tryz.f76.results.toList
def vec_Has.regs : List (Nat × RInfo) := [(0, ri [2,3] [2,3]), (1, rq [4] [6] 11)]
noncomputable def vec_Has.cx (k : Nat) : Cx := ⟨tt, pp, [(60, (dot_Right.e k))], vec_Has.regs, k, mm⟩
@[reducible] def vec_Has.sg : Sg := ⟨[.dat tVec, .dat tDot], [], .dat .bool, []⟩
noncomputable def vec_Has.f (k : Nat) (a0 : Ty.D tVec) (a1 : Ty.D tDot) : Option (Sg.Out vec_Has.sg) := Sg.fn vec_Has.sg (vec_Has.cx k) vec_Has.body vec_Has.rs (a0, a1)
noncomputable def vec_Has.e (k : Nat) : Entry := Sg.entry vec_Has.sg fun x => vec_Has.f k x.1 x.2
theorem vec_Has.ok (k : Nat) : CallOK Tryz.prog 76 (vec_Has.e k) := fn_ok (c := vec_Has.cx k) (code := vec_Has.body) (TT.of tt_ok pp_ok mm_ok) (fns_ok ⟨(dot_Right.ok k), trivial⟩) mixed Tryz.func76 (by kernel_rfl) (by kernel_rfl) (by kernel_rfl) (by kernel_rfl) (by kernel_rfl) (by kernel_rfl) (fun x => by kernel_rfl)
noncomputable def slices_BinarySearchFunc_api_Dot_api_Dot_api_Dot_dot_Compare.body : Go.Code := Tryz.f72.body.getD .skip
noncomputable def slices_BinarySearchFunc_api_Dot_api_Dot_api_Dot_dot_Compare.rs : List Go.ResultVar := Tryz.f72.results.toList
def slices_BinarySearchFunc_api_Dot_api_Dot_api_Dot_dot_Compare.regs : List (Nat × RInfo) := [(0, ri [0,2,4] [4]), (1, ri [0,2,4,8] [4]), (2, ri [0,2,4,8,9,10] [4]), (3, ⟨[0, 2, 4, 8, 9, 10, 17], [4], [], [], 0, [0, 2, 4, 8, 9, 10], [4], [], [], []⟩), (4, ri [0,2,4,8,9,10,11] [4]), (5, ⟨[0, 2, 4, 8, 9, 10, 11, 31], [4], [], [], 8, [], [], [], [[], [], [], [], [], [], [4, 5], [6, 4, 5]], []⟩), (6, ri [0,2,4,8,9,10] [4]), (7, ri [0,2,4,8,9,10] [4]), (8, ⟨[6, 7], [], [], [], 15, [], [], [], [[], [], [], [], [], [], [], [], [], [], [], [9, 10], [11, 9, 10], [11, 9, 10], [11, 9, 10], [11, 9, 10]], []⟩)]
noncomputable def slices_BinarySearchFunc_api_Dot_api_Dot_api_Dot_dot_Compare.cx (k : Nat) : Cx := ⟨tt, pp, [(61, (dot_Compare.e k))], slices_BinarySearchFunc_api_Dot_api_Dot_api_Dot_dot_Compare.regs, k, mm⟩
@[reducible] def slices_BinarySearchFunc_api_Dot_api_Dot_api_Dot_dot_Compare.sg : Sg := ⟨[.dat (.slc tDot), .dat tDot, .fn 61 0], [], .t2 (.dat (.int .i64)) (.dat .bool), []⟩
noncomputable def slices_BinarySearchFunc_api_Dot_api_Dot_api_Dot_dot_Compare.f (k : Nat) (a0 : Ty.D (.slc tDot)) (a1 : Ty.D tDot) : Option (Sg.Out slices_BinarySearchFunc_api_Dot_api_Dot_api_Dot_dot_Compare.sg) := Sg.fn slices_BinarySearchFunc_api_Dot_api_Dot_api_Dot_dot_Compare.sg (slices_BinarySearchFunc_api_Dot_api_Dot_api_Dot_dot_Compare.cx k) slices_BinarySearchFunc_api_Dot_api_Dot_api_Dot_dot_Compare.body slices_BinarySearchFunc_api_Dot_api_Dot_api_Dot_dot_Compare.rs (a0, a1)
noncomputable def slices_BinarySearchFunc_api_Dot_api_Dot_api_Dot_dot_Compare.e (k : Nat) : Entry := Sg.entry slices_BinarySearchFunc_api_Dot_api_Dot_api_Dot_dot_Compare.sg fun x => slices_BinarySearchFunc_api_Dot_api_Dot_api_Dot_dot_Compare.f k x.1 x.2
theorem slices_BinarySearchFunc_api_Dot_api_Dot_api_Dot_dot_Compare.ok (k : Nat) : CallOK Tryz.prog 72 (slices_BinarySearchFunc_api_Dot_api_Dot_api_Dot_dot_Compare.e k) := fn_ok (c := slices_BinarySearchFunc_api_Dot_api_Dot_api_Dot_dot_Compare.cx k) (code := slices_BinarySearchFunc_api_Dot_api_Dot_api_Dot_dot_Compare.body) (TT.of tt_ok pp_ok mm_ok) (fns_ok ⟨(dot_Compare.ok k), trivial⟩) mixed Tryz.func72 (by kernel_rfl) (by kernel_rfl) (by kernel_rfl) (by kernel_rfl) (by kernel_rfl) (by kernel_rfl) (fun x => by kernel_rfl)
noncomputable def dots_Has.body : Go.Code := Tryz.f50.body.getD .skip
noncomputable def dots_Has.rs : List Go.ResultVar := Tryz.f50.results.toList
def dots_Has.regs : List (Nat × RInfo) := [(0, ⟨[2, 3], [2, 3], [0], [], 0, [], [], [], [], []⟩), (1, ri [2,3,10] [2,3,10]), (2, ri [4] [15]), (3, ri [6] [15]), (4, ri [4] [15])]
noncomputable def dots_Has.cx (k : Nat) : Cx := ⟨tt, pp, [(76, (vec_Has.e k)), (72, (slices_BinarySearchFunc_api_Dot_api_Dot_api_Dot_dot_Compare.e k)), (61, (dot_Compare.e k))], dots_Has.regs, k, mm⟩
@[reducible] def dots_Has.sg : Sg := ⟨[.dat tDots, .dat tDot], [], .dat .bool, []⟩
noncomputable def dots_Has.f (k : Nat) (a0 : Ty.D tDots) (a1 : Ty.D tDot) : Option (Sg.Out dots_Has.sg) := Sg.fn dots_Has.sg (dots_Has.cx k) dots_Has.body dots_Has.rs (a0, a1)
noncomputable def dots_Has.e (k : Nat) : Entry := Sg.entry dots_Has.sg fun x => dots_Has.f k x.1 x.2
theorem dots_Has.ok (k : Nat) : CallOK Tryz.prog 50 (dots_Has.e k) := fn_ok (c := dots_Has.cx k) (code := dots_Has.body) (TT.of tt_ok pp_ok mm_ok) (fns_ok ⟨(vec_Has.ok k), (slices_BinarySearchFunc_api_Dot_api_Dot_api_Dot_dot_Compare.ok k), (dot_Compare.ok k), trivial⟩) mixed Tryz.func50 (by kernel_rfl) (by kernel_rfl) (by kernel_rfl) (by kernel_rfl) (by kernel_rfl) (by kernel_rfl) (fun x => by kernel_rfl)
noncomputable def dots_made.body : Go.Code := Tryz.f73.body.getD .skip
noncomputable def dots_made.rs : List Go.ResultVar := Tryz.f73.results.toList
def dots_made.regs : List (Nat × RInfo) := [(0, ri [1,2,4] [2,4]), (1, ⟨[1, 4, 5], [4, 5], [3], [], 0, [], [], [], [], []⟩), (2, ri [4,5,10,11,12] [4,5]), (3, ⟨[4, 5, 10, 11, 12, 13], [4, 5], [], [], 0, [4, 5, 10, 11, 12], [4, 5], [], [], []⟩), (4, ri [4,5,7,10,11,12] [4,5,7]), (5, rq [4,5,7,10,11,12,16] [4,5,7] 9), (6, rq [4,5,7,10,11,12,25] [4,5,7] 10), (7, ri [4,5,10,11,12] [4,5]), (8, rq [4,5,7,10,11,12,41] [4,5,7] 17), (9, ⟨[4, 5, 10, 11, 12], [4, 5], [1, 4, 6], [], 0, [], [], [], [], []⟩), (10, ri [4,5,10,11,12] [4,5]), (11, ⟨[4], [4], [1], [], 0, [], [], [], [], []⟩)]
noncomputable def dots_made.cx (k : Nat) : Cx := ⟨tt, pp, [], dots_made.regs, k, mm⟩
@[reducible] def dots_made.sg : Sg := ⟨[.dat tVec, .dat (.slc tDot)], [], .dat tDots, []⟩
noncomputable def dots_made.f (k : Nat) (a0 : Ty.D tVec) (a1 : Ty.D (.slc tDot)) : Option (Sg.Out dots_made.sg) := Sg.fn dots_made.sg (dots_made.cx k) dots_made.body dots_made.rs (a0, a1)
noncomputable def dots_made.e (k : Nat) : Entry := Sg.entry dots_made.sg fun x => dots_made.f k x.1 x.2
theorem dots_made.ok (k : Nat) : CallOK Tryz.prog 73 (dots_made.e k) := fn_ok (c := dots_made.cx k) (code := dots_made.body) (TT.of tt_ok pp_ok mm_ok) (fns_ok trivial) mixed Tryz.func73 (by kernel_rfl) (by kernel_rfl) (by kernel_rfl) (by kernel_rfl) (by kernel_rfl) (by kernel_rfl) (fun x => by kernel_rfl)
noncomputable def dots_Put.body : Go.Code := Tryz.f49.body.getD .skip
noncomputable def dots_Put.rs : List Go.ResultVar := Tryz.f49.results.toList
def dots_Put.regs : List (Nat × RInfo) := [(0, ⟨[2, 3, 4], [2, 3, 4], [0], [], 0, [], [], [0, 1], [], []⟩), (1, ⟨[2, 3, 4, 14], [2, 3, 4, 13], [], [], 0, [], [], [3, 2], [], []⟩), (2, ⟨[4], [4], [1], [], 0, [], [], [2, 4], [], []⟩), (3, ⟨[2, 3, 4, 5], [2, 3, 4, 20], [], [], 0, [], [], [2, 3], [], []⟩), (4, ⟨[4], [4], [8, 10], [], 10, [], [], [2, 5, 3, 4], [[], [], [], [], [3], [], [], [6], [3, 6], [1, 3, 6], [1, 3, 6]], []⟩)]
noncomputable def dots_Put.cx (k : Nat) : Cx := ⟨tt, pp, [(60, (dot_Right.e k)), (50, (dots_Has.e k)), (72, (slices_BinarySearchFunc_api_Dot_api_Dot_api_Dot_dot_Compare.e k)), (61, (dot_Compare.e k)), (75, (cloneE tDot)), (74, (insE tDot)), (73, (dots_made.e k))], dots_Put.regs, k, mm⟩
@[reducible] def dots_Put.sg : Sg := ⟨[.dat tDots, .dat tDot], [], .dat tDots, []⟩
noncomputable def dots_Put.f (k : Nat) (a0 : Ty.D tDots) (a1 : Ty.D tDot) : Option (Sg.Out dots_Put.sg) := Sg.fn dots_Put.sg (dots_Put.cx k) dots_Put.body dots_Put.rs (a0, a1)
noncomputable def dots_Put.e (k : Nat) : Entry := Sg.entry dots_Put.sg fun x => dots_Put.f k x.1 x.2
theorem dots_Put.ok (k : Nat) : CallOK Tryz.prog 49 (dots_Put.e k) := fn_ok (c := dots_Put.cx k) (code := dots_Put.body) (TT.of tt_ok pp_ok mm_ok) (fns_ok ⟨(dot_Right.ok k), (dots_Has.ok k), (slices_BinarySearchFunc_api_Dot_api_Dot_api_Dot_dot_Compare.ok k), (dot_Compare.ok k), cloneDot_ok, insDot_ok, (dots_made.ok k), trivial⟩) mixed Tryz.func49 (by kernel_rfl) (by kernel_rfl) (by kernel_rfl) (by kernel_rfl) (by kernel_rfl) (by kernel_rfl) (fun x => by kernel_rfl)
noncomputable def state_Put.body : Go.Code := Tryz.f24.body.getD .skip
noncomputable def state_Put.rs : List Go.ResultVar := Tryz.f24.results.toList
def state_Put.regs : List (Nat × RInfo) := [(0, ⟨[2, 3, 4], [2, 3, 4], [0, 1], [], 0, [], [], [], [], []⟩), (1, ri [2,3,4,10] [2,3,4]), (2, ⟨[4], [4], [1], [], 0, [], [], [], [], []⟩), (3, ⟨[2, 3, 4], [2, 3, 4], [5], [], 0, [], [], [], [], []⟩), (4, ⟨[2, 4], [2, 4], [6], [], 0, [], [], [], [], []⟩), (5, ⟨[4], [4], [1], [], 0, [], [], [], [], []⟩)]
noncomputable def state_Put.cx (k : Nat) : Cx := ⟨tt, pp, [(47, (txn_Find.e k)), (48, (txn_Put.e k)), (49, (dots_Put.e k))], state_Put.regs, k, mm⟩
@[reducible] def state_Put.sg : Sg := ⟨[.dat tState, .dat tTxn], [], .dat tState, []⟩
noncomputable def state_Put.f (k : Nat) (a0 : Ty.D tState) (a1 : Ty.D tTxn) : Option (Sg.Out state_Put.sg) := Sg.fn state_Put.sg (state_Put.cx k) state_Put.body state_Put.rs (a0, a1)
noncomputable def state_Put.e (k : Nat) : Entry := Sg.entry state_Put.sg fun x => state_Put.f k x.1 x.2
theorem state_Put.ok (k : Nat) : CallOK Tryz.prog 24 (state_Put.e k) := fn_ok (c := state_Put.cx k) (code := state_Put.body) (TT.of tt_ok pp_ok mm_ok) (fns_ok ⟨(txn_Find.ok k), (txn_Put.ok k), (dots_Put.ok k), trivial⟩) mixed Tryz.func24 (by kernel_rfl) (by kernel_rfl) (by kernel_rfl) (by kernel_rfl) (by kernel_rfl) (by kernel_rfl) (fun x => by kernel_rfl)
noncomputable def slices_BinarySearchFunc_api_Undo_api_Undo_api_Undo_tally_compare.body : Go.Code := Tryz.f101.body.getD .skip
noncomputable def slices_BinarySearchFunc_api_Undo_api_Undo_api_Undo_tally_compare.rs : List Go.ResultVar := Tryz.f101.results.toList
def slices_BinarySearchFunc_api_Undo_api_Undo_api_Undo_tally_compare.regs : List (Nat × RInfo) := [(0, ri [0,2,4] [4]), (1, ri [0,2,4,8] [4]), (2, ri [0,2,4,8,9,10] [4]), (3, ⟨[0, 2, 4, 8, 9, 10, 17], [4], [], [], 0, [0, 2, 4, 8, 9, 10], [4], [], [], []⟩), (4, ri [0,2,4,8,9,10,11] [4]), (5, ⟨[0, 2, 4, 8, 9, 10, 11, 31], [4], [], [], 8, [], [], [], [[], [], [], [], [], [], [4, 5], [6, 4, 5]], []⟩), (6, ri [0,2,4,8,9,10] [4]), (7, ri [0,2,4,8,9,10] [4]), (8, ⟨[6, 7], [], [], [], 15, [], [], [], [[], [], [], [], [], [], [], [], [], [], [], [9, 10], [11, 9, 10], [11, 9, 10], [11, 9, 10], [11, 9, 10]], []⟩)]
noncomputable def slices_BinarySearchFunc_api_Undo_api_Undo_api_Undo_tally_compare.cx (k : Nat) : Cx := ⟨tt, pp, [(62, (tally_compare.e k))], slices_BinarySearchFunc_api_Undo_api_Undo_api_Undo_tally_compare.regs, k, mm⟩
@[reducible] def slices_BinarySearchFunc_api_Undo_api_Undo_api_Undo_tally_compare.sg : Sg := ⟨[.dat (.slc tUndo), .dat tUndo, .fn 62 0], [], .t2 (.dat (.int .i64)) (.dat .bool), []⟩
noncomputable def slices_BinarySearchFunc_api_Undo_api_Undo_api_Undo_tally_compare.f (k : Nat) (a0 : Ty.D (.slc tUndo)) (a1 : Ty.D tUndo) : Option (Sg.Out slices_BinarySearchFunc_api_Undo_api_Undo_api_Undo_tally_compare.sg) := Sg.fn slices_BinarySearchFunc_api_Undo_api_Undo_api_Undo_tally_compare.sg (slices_BinarySearchFunc_api_Undo_api_Undo_api_Undo_tally_compare.cx k) slices_BinarySearchFunc_api_Undo_api_Undo_api_Undo_tally_compare.body slices_BinarySearchFunc_api_Undo_api_Undo_api_Undo_tally_compare.rs (a0, a1)
noncomputable def slices_BinarySearchFunc_api_Undo_api_Undo_api_Undo_tally_compare.e (k : Nat) : Entry := Sg.entry slices_BinarySearchFunc_api_Undo_api_Undo_api_Undo_tally_compare.sg fun x => slices_BinarySearchFunc_api_Undo_api_Undo_api_Undo_tally_compare.f k x.1 x.2
theorem slices_BinarySearchFunc_api_Undo_api_Undo_api_Undo_tally_compare.ok (k : Nat) : CallOK Tryz.prog 101 (slices_BinarySearchFunc_api_Undo_api_Undo_api_Undo_tally_compare.e k) := fn_ok (c := slices_BinarySearchFunc_api_Undo_api_Undo_api_Undo_tally_compare.cx k) (code := slices_BinarySearchFunc_api_Undo_api_Undo_api_Undo_tally_compare.body) (TT.of tt_ok pp_ok mm_ok) (fns_ok ⟨(tally_compare.ok k), trivial⟩) mixed Tryz.func101 (by kernel_rfl) (by kernel_rfl) (by kernel_rfl) (by kernel_rfl) (by kernel_rfl) (by kernel_rfl) (fun x => by kernel_rfl)
noncomputable def tally_at.body : Go.Code := Tryz.f91.body.getD .skip
noncomputable def tally_at.rs : List Go.ResultVar := Tryz.f91.results.toList
def tally_at.regs : List (Nat × RInfo) := [(0, ri [0,3] [3]), (1, ri [4,5] [9])]
noncomputable def tally_at.cx (k : Nat) : Cx := ⟨tt, pp, [(101, (slices_BinarySearchFunc_api_Undo_api_Undo_api_Undo_tally_compare.e k)), (62, (tally_compare.e k))], tally_at.regs, k, mm⟩
@[reducible] def tally_at.sg : Sg := ⟨[.dat (.slc tUndo), .dat tDot], [], .t2 (.dat (.int .i64)) (.dat .bool), []⟩
noncomputable def tally_at.f (k : Nat) (a0 : Ty.D (.slc tUndo)) (a1 : Ty.D tDot) : Option (Sg.Out tally_at.sg) := Sg.fn tally_at.sg (tally_at.cx k) tally_at.body tally_at.rs (a0, a1)
noncomputable def tally_at.e (k : Nat) : Entry := Sg.entry tally_at.sg fun x => tally_at.f k x.1 x.2
theorem tally_at.ok (k : Nat) : CallOK Tryz.prog 91 (tally_at.e k) := fn_ok (c := tally_at.cx k) (code := tally_at.body) (TT.of tt_ok pp_ok mm_ok) (fns_ok ⟨(slices_BinarySearchFunc_api_Undo_api_Undo_api_Undo_tally_compare.ok k), (tally_compare.ok k), trivial⟩) mixed Tryz.func91 (by kernel_rfl) (by kernel_rfl) (by kernel_rfl) (by kernel_rfl) (by kernel_rfl) (by kernel_rfl) (fun x => by kernel_rfl)
noncomputable def tally_Get.body : Go.Code := Tryz.f77.body.getD .skip
noncomputable def tally_Get.rs : List Go.ResultVar := Tryz.f77.results.toList
def tally_Get.regs : List (Nat × RInfo) := [(0, ri [0,3] [3]), (1, ri [0,5,6] [10]), (2, ri [0,5,13] [10]), (3, ri [4] []), (4, ri [4] [])]
noncomputable def tally_Get.cx (k : Nat) : Cx := ⟨tt, pp, [(91, (tally_at.e k))], tally_Get.regs, k, mm⟩
@[reducible] def tally_Get.sg : Sg := ⟨[.dat (.slc tUndo), .dat tDot], [], .dat (.int .i64), []⟩
noncomputable def tally_Get.f (k : Nat) (a0 : Ty.D (.slc tUndo)) (a1 : Ty.D tDot) : Option (Sg.Out tally_Get.sg) := Sg.fn tally_Get.sg (tally_Get.cx k) tally_Get.body tally_Get.rs (a0, a1)
noncomputable def tally_Get.e (k : Nat) : Entry := Sg.entry tally_Get.sg fun x => tally_Get.f k x.1 x.2
theorem tally_Get.ok (k : Nat) : CallOK Tryz.prog 77 (tally_Get.e k) := fn_ok (c := tally_Get.cx k) (code := tally_Get.body) (TT.of tt_ok pp_ok mm_ok) (fns_ok ⟨(tally_at.ok k), trivial⟩) mixed Tryz.func77 (by kernel_rfl) (by kernel_rfl) (by kernel_rfl) (by kernel_rfl) (by kernel_rfl) (by kernel_rfl) (fun x => by kernel_rfl)
noncomputable def tally_Over.body : Go.Code := Tryz.f51.body.getD .skip
noncomputable def tally_Over.rs : List Go.ResultVar := Tryz.f51.results.toList
def tally_Over.regs : List (Nat × RInfo) := [(0, ri [0,1] []), (1, ri [0,1,5] []), (2, ri [1,5,8,9,10] []), (3, ⟨[1, 5, 8, 9, 10, 11], [], [], [], 0, [1, 5, 8, 9, 10], [], [], [], []⟩), (4, ri [1,5,7,8,9,10] [7]), (5, rq [1,5,7,8,9,10,20] [7] 7), (6, ⟨[1, 5, 8, 9, 10], [], [0, 3, 4], [], 0, [], [], [], [], []⟩), (7, ri [1,5,8,9,10] []), (8, ⟨[4], [], [0, 1], [], 0, [], [], [], [], []⟩)]
noncomputable def tally_Over.cx (k : Nat) : Cx := ⟨tt, pp, [(77, (tally_Get.e k))], tally_Over.regs, k, mm⟩
@[reducible] def tally_Over.sg : Sg := ⟨[.dat (.slc tUndo), .dat (.slc tUndo)], [], .own tUndo, []⟩
noncomputable def tally_Over.f (k : Nat) (a0 : Ty.D (.slc tUndo)) (a1 : Ty.D (.slc tUndo)) : Option (Sg.Out tally_Over.sg) := Sg.fn tally_Over.sg (tally_Over.cx k) tally_Over.body tally_Over.rs (a0, a1)
noncomputable def tally_Over.e (k : Nat) : Entry := Sg.entry tally_Over.sg fun x => tally_Over.f k x.1 x.2
theorem tally_Over.ok (k : Nat) : CallOK Tryz.prog 51 (tally_Over.e k) := fn_ok (c := tally_Over.cx k) (code := tally_Over.body) (TT.of tt_ok pp_ok mm_ok) (fns_ok ⟨(tally_Get.ok k), trivial⟩) mixed Tryz.func51 (by kernel_rfl) (by kernel_rfl) (by kernel_rfl) (by kernel_rfl) (by kernel_rfl) (by kernel_rfl) (fun x => by kernel_rfl)
noncomputable def delta_Diff.body : Go.Code := Tryz.f25.body.getD .skip
noncomputable def delta_Diff.rs : List Go.ResultVar := Tryz.f25.results.toList
def delta_Diff.regs : List (Nat × RInfo) := [(0, ⟨[2, 3, 4], [2, 3, 4], [0, 1], [], 0, [], [], [], [], []⟩), (1, ri [2,3,4,5] [2,3,4,5]), (2, ri [2,3,4,5,9,10,11] [2,3,4,5]), (3, ⟨[2, 3, 4, 5, 9, 10, 11, 12], [2, 3, 4, 5], [], [], 0, [2, 3, 4, 5, 9, 10, 11], [2, 3, 4, 5], [], [], []⟩), (4, ⟨[2, 3, 4, 5, 7, 9, 10, 11], [2, 3, 4, 5, 7], [3], [], 0, [], [], [], [], []⟩), (5, ri [2,3,4,5,7,9,10,11,20] [2,3,4,5,7]), (6, ⟨[2, 3, 4, 5, 7, 9, 10, 11], [2, 3, 4, 5, 7], [1, 4, 6], [], 0, [], [], [], [], []⟩), (7, ri [2,3,4,5,7,9,10,11,39] [2,3,4,5,7,31]), (8, ⟨[2, 3, 4, 5, 9, 10, 11], [2, 3, 4, 5], [1, 5, 7], [], 0, [], [], [], [], []⟩), (9, ri [2,3,4,5,9,10,11] [2,3,4,5]), (10, ⟨[4, 5], [4, 5], [6], [], 0, [], [], [], [], []⟩), (11, ⟨[4], [4], [1], [], 0, [], [], [], [], []⟩)]
noncomputable def delta_Diff.cx (k : Nat) : Cx := ⟨tt, pp, [(50, (dots_Has.e k)), (51, (tally_Over.e k))], delta_Diff.regs, k, mm⟩
@[reducible] def delta_Diff.sg : Sg := ⟨[.dat tState, .dat tKnow], [], .dat tDelta, []⟩
noncomputable def delta_Diff.f (k : Nat) (a0 : Ty.D tState) (a1 : Ty.D tKnow) : Option (Sg.Out delta_Diff.sg) := Sg.fn delta_Diff.sg (delta_Diff.cx k) delta_Diff.body delta_Diff.rs (a0, a1)
noncomputable def delta_Diff.e (k : Nat) : Entry := Sg.entry delta_Diff.sg fun x => delta_Diff.f k x.1 x.2
theorem delta_Diff.ok (k : Nat) : CallOK Tryz.prog 25 (delta_Diff.e k) := fn_ok (c := delta_Diff.cx k) (code := delta_Diff.body) (TT.of tt_ok pp_ok mm_ok) (fns_ok ⟨(dots_Has.ok k), (tally_Over.ok k), trivial⟩) mixed Tryz.func25 (by kernel_rfl) (by kernel_rfl) (by kernel_rfl) (by kernel_rfl) (by kernel_rfl) (by kernel_rfl) (fun x => by kernel_rfl)
noncomputable def delta_Empty.body : Go.Code := Tryz.f26.body.getD .skip
noncomputable def delta_Empty.rs : List Go.ResultVar := Tryz.f26.results.toList
def delta_Empty.regs : List (Nat × RInfo) := [(0, ⟨[1], [1], [0], [], 0, [], [], [], [], []⟩), (1, ri [2] [])]
noncomputable def delta_Empty.cx (k : Nat) : Cx := ⟨tt, pp, [], delta_Empty.regs, k, mm⟩
@[reducible] def delta_Empty.sg : Sg := ⟨[.dat tDelta], [], .dat .bool, []⟩
noncomputable def delta_Empty.f (k : Nat) (a0 : Ty.D tDelta) : Option (Sg.Out delta_Empty.sg) := Sg.fn delta_Empty.sg (delta_Empty.cx k) delta_Empty.body delta_Empty.rs a0
noncomputable def delta_Empty.e (k : Nat) : Entry := Sg.entry delta_Empty.sg fun x => delta_Empty.f k x
theorem delta_Empty.ok (k : Nat) : CallOK Tryz.prog 26 (delta_Empty.e k) := fn_ok (c := delta_Empty.cx k) (code := delta_Empty.body) (TT.of tt_ok pp_ok mm_ok) (fns_ok trivial) mixed Tryz.func26 (by kernel_rfl) (by kernel_rfl) (by kernel_rfl) (by kernel_rfl) (by kernel_rfl) (by kernel_rfl) (fun x => by kernel_rfl)
noncomputable def delta_Of.body : Go.Code := Tryz.f27.body.getD .skip
noncomputable def delta_Of.rs : List Go.ResultVar := Tryz.f27.results.toList
def delta_Of.regs : List (Nat × RInfo) := [(0, ⟨[1, 2], [1, 2], [0], [], 0, [], [], [], [], []⟩), (1, ⟨[2], [2], [8], [], 8, [], [], [], [[], [], [], [], [3], [], [], [1, 3, 6], [1, 3, 6]], []⟩)]
noncomputable def delta_Of.cx (k : Nat) : Cx := ⟨tt, pp, [(52, (cloneO tUndo))], delta_Of.regs, k, mm⟩
@[reducible] def delta_Of.sg : Sg := ⟨[.dat tState], [], .dat tKnow, []⟩
noncomputable def delta_Of.f (k : Nat) (a0 : Ty.D tState) : Option (Sg.Out delta_Of.sg) := Sg.fn delta_Of.sg (delta_Of.cx k) delta_Of.body delta_Of.rs a0
noncomputable def delta_Of.e (k : Nat) : Entry := Sg.entry delta_Of.sg fun x => delta_Of.f k x
theorem delta_Of.ok (k : Nat) : CallOK Tryz.prog 27 (delta_Of.e k) := fn_ok (c := delta_Of.cx k) (code := delta_Of.body) (TT.of tt_ok pp_ok mm_ok) (fns_ok ⟨cloneOUndo_ok, trivial⟩) mixed Tryz.func27 (by kernel_rfl) (by kernel_rfl) (by kernel_rfl) (by kernel_rfl) (by kernel_rfl) (by kernel_rfl) (fun x => by kernel_rfl)
noncomputable def slices_Concat_api_Dot_api_Dot.body : Go.Code := Tryz.f94.body.getD .skip
noncomputable def slices_Concat_api_Dot_api_Dot.rs : List Go.ResultVar := Tryz.f94.results.toList
def slices_Concat_api_Dot_api_Dot.regs : List (Nat × RInfo) := [(0, ri [0] []), (1, ri [0,3] []), (2, ri [0,3,9,10,11] []), (3, ⟨[0, 3, 9, 10, 11, 12], [], [], [], 0, [0, 3, 9, 10, 11], [], [], [], []⟩), (4, ⟨[0, 3, 5, 9, 10, 11], [], [2], [], 0, [], [], [], [], []⟩), (5, ri [0,3,9,10,11] []), (6, ri [0,3,9,10,11,20] []), (7, ri [0,3,9,10,11] []), (8, ri [0,3,9,10,11] []), (9, ⟨[0, 6], [24], [2], [], 0, [], [], [], [], []⟩), (10, ri [6,25,26,27] [24]), (11, ⟨[6, 25, 26, 27, 28], [24], [], [], 0, [6, 25, 26, 27], [24], [], [], []⟩), (12, ⟨[6, 8, 25, 26, 27], [24], [2], [], 0, [], [], [], [], []⟩), (13, ⟨[6, 25, 26, 27], [24], [0, 2, 3], [], 0, [], [], [], [], []⟩), (14, ri [6,25,26,27] [24]), (15, ⟨[2], [24], [0, 1], [], 0, [], [], [], [], []⟩)]
noncomputable def slices_Concat_api_Dot_api_Dot.cx (k : Nat) : Cx := ⟨tt, pp, [(102, (growE tDot))], slices_Concat_api_Dot_api_Dot.regs, k, mm⟩
@[reducible] def slices_Concat_api_Dot_api_Dot.sg : Sg := ⟨[.dat (.slc (.slc tDot))], [], .raw tDot, []⟩
noncomputable def slices_Concat_api_Dot_api_Dot.f (k : Nat) (a0 : Ty.D (.slc (.slc tDot))) : Option (Sg.Out slices_Concat_api_Dot_api_Dot.sg) := Sg.fn slices_Concat_api_Dot_api_Dot.sg (slices_Concat_api_Dot_api_Dot.cx k) slices_Concat_api_Dot_api_Dot.body slices_Concat_api_Dot_api_Dot.rs a0
noncomputable def slices_Concat_api_Dot_api_Dot.e (k : Nat) : Entry := Sg.entry slices_Concat_api_Dot_api_Dot.sg fun x => slices_Concat_api_Dot_api_Dot.f k x
theorem slices_Concat_api_Dot_api_Dot.ok (k : Nat) : CallOK Tryz.prog 94 (slices_Concat_api_Dot_api_Dot.e k) := fn_ok (c := slices_Concat_api_Dot_api_Dot.cx k) (code := slices_Concat_api_Dot_api_Dot.body) (TT.of tt_ok pp_ok mm_ok) (fns_ok ⟨growDot_ok, trivial⟩) mixed Tryz.func94 (by kernel_rfl) (by kernel_rfl) (by kernel_rfl) (by kernel_rfl) (by kernel_rfl) (by kernel_rfl) (fun x => by kernel_rfl)
noncomputable def vec_Join_1.body : Go.Code := Tryz.f106.body.getD .skip
noncomputable def vec_Join_1.rs : List Go.ResultVar := Tryz.f106.results.toList
def vec_Join_1.regs : List (Nat × RInfo) := [(0, ri [0,1] []), (1, ri [4] [])]
noncomputable def vec_Join_1.cx (k : Nat) : Cx := ⟨tt, pp, [], vec_Join_1.regs, k, mm⟩
@[reducible] def vec_Join_1.sg : Sg := ⟨[.dat (.int .i64), .dat (.int .i64)], [], .dat (.int .i64), []⟩
noncomputable def vec_Join_1.f (k : Nat) (a0 : Ty.D (.int .i64)) (a1 : Ty.D (.int .i64)) : Option (Sg.Out vec_Join_1.sg) := Sg.fn vec_Join_1.sg (vec_Join_1.cx k) vec_Join_1.body vec_Join_1.rs (a0, a1)
noncomputable def vec_Join_1.e (k : Nat) : Entry := Sg.entry vec_Join_1.sg fun x => vec_Join_1.f k x.1 x.2
theorem vec_Join_1.ok (k : Nat) : CallOK Tryz.prog 106 (vec_Join_1.e k) := fn_ok (c := vec_Join_1.cx k) (code := vec_Join_1.body) (TT.of tt_ok pp_ok mm_ok) (fns_ok trivial) mixed Tryz.func106 (by kernel_rfl) (by kernel_rfl) (by kernel_rfl) (by kernel_rfl) (by kernel_rfl) (by kernel_rfl) (fun x => by kernel_rfl)
noncomputable def vec_both_vec_Join_1.body : Go.Code := Tryz.f105.body.getD .skip
noncomputable def vec_both_vec_Join_1.rs : List Go.ResultVar := Tryz.f105.results.toList
def vec_both_vec_Join_1.regs : List (Nat × RInfo) := [(0, ri [2,3,4,6] [3,4,6]), (1, ri [2,3,4,6,8] [3,4,6]), (2, ⟨[2, 3, 4, 6, 8, 9], [3, 4, 6], [], [], 0, [2, 3, 4, 6, 8], [3, 4, 6], [], [], []⟩), (3, ri [2,3,4,6,7,8] [3,4,6]), (4, ⟨[2, 3, 4, 6, 8], [3, 4, 6], [], [], 9, [], [], [], [[], [], [], [], [], [], [], [], [4, 7], [4, 7, 8], [4, 7, 8]], []⟩), (5, ri [2,3,4,6,8] [3,4,6]), (6, ri [6] [6])]
noncomputable def vec_both_vec_Join_1.cx (k : Nat) : Cx := ⟨tt, pp, [(106, (vec_Join_1.e k))], vec_both_vec_Join_1.regs, k, mm⟩
@[reducible] def vec_both_vec_Join_1.sg : Sg := ⟨[.dat tVec, .dat tVec, .fn 106 0], [], .dat tVec, []⟩
noncomputable def vec_both_vec_Join_1.f (k : Nat) (a0 : Ty.D tVec) (a1 : Ty.D tVec) : Option (Sg.Out vec_both_vec_Join_1.sg) := Sg.fn vec_both_vec_Join_1.sg (vec_both_vec_Join_1.cx k) vec_both_vec_Join_1.body vec_both_vec_Join_1.rs (a0, a1)
noncomputable def vec_both_vec_Join_1.e (k : Nat) : Entry := Sg.entry vec_both_vec_Join_1.sg fun x => vec_both_vec_Join_1.f k x.1 x.2
theorem vec_both_vec_Join_1.ok (k : Nat) : CallOK Tryz.prog 105 (vec_both_vec_Join_1.e k) := fn_ok (c := vec_both_vec_Join_1.cx k) (code := vec_both_vec_Join_1.body) (TT.of tt_ok pp_ok mm_ok) (fns_ok ⟨(vec_Join_1.ok k), trivial⟩) mixed Tryz.func105 (by kernel_rfl) (by kernel_rfl) (by kernel_rfl) (by kernel_rfl) (by kernel_rfl) (by kernel_rfl) (fun x => by kernel_rfl)
noncomputable def vec_Join.body : Go.Code := Tryz.f96.body.getD .skip
noncomputable def vec_Join.rs : List Go.ResultVar := Tryz.f96.results.toList
def vec_Join.regs : List (Nat × RInfo) := [(0, ri [2,3,4] [2,3,4]), (1, ri [4] [4])]
noncomputable def vec_Join.cx (k : Nat) : Cx := ⟨tt, pp, [(105, (vec_both_vec_Join_1.e k)), (106, (vec_Join_1.e k))], vec_Join.regs, k, mm⟩
@[reducible] def vec_Join.sg : Sg := ⟨[.dat tVec, .dat tVec], [], .dat tVec, []⟩
noncomputable def vec_Join.f (k : Nat) (a0 : Ty.D tVec) (a1 : Ty.D tVec) : Option (Sg.Out vec_Join.sg) := Sg.fn vec_Join.sg (vec_Join.cx k) vec_Join.body vec_Join.rs (a0, a1)
noncomputable def vec_Join.e (k : Nat) : Entry := Sg.entry vec_Join.sg fun x => vec_Join.f k x.1 x.2
theorem vec_Join.ok (k : Nat) : CallOK Tryz.prog 96 (vec_Join.e k) := fn_ok (c := vec_Join.cx k) (code := vec_Join.body) (TT.of tt_ok pp_ok mm_ok) (fns_ok ⟨(vec_both_vec_Join_1.ok k), (vec_Join_1.ok k), trivial⟩) mixed Tryz.func96 (by kernel_rfl) (by kernel_rfl) (by kernel_rfl) (by kernel_rfl) (by kernel_rfl) (by kernel_rfl) (fun x => by kernel_rfl)
noncomputable def dots_Union.body : Go.Code := Tryz.f80.body.getD .skip
noncomputable def dots_Union.rs : List Go.ResultVar := Tryz.f80.results.toList
def dots_Union.regs : List (Nat × RInfo) := [(0, ⟨[2, 3, 4], [2, 3, 4], [0, 1], [], 0, [], [], [0, 1], [], []⟩), (1, ⟨[2, 3, 4, 5], [2, 3, 4, 11], [6], [], 0, [], [], [2, 3], [], []⟩), (2, ⟨[2, 3, 4, 5], [2, 3, 4, 11], [0, 1], [0], 0, [], [], [], [], []⟩), (3, ⟨[4], [4], [7], [], 0, [], [], [2, 3, 5, 4], [], []⟩)]
noncomputable def dots_Union.cx (k : Nat) : Cx := ⟨tt, pp, [(94, (slices_Concat_api_Dot_api_Dot.e k)), (95, (sortE tDot 61 dotLt)), (61, (dot_Compare.e k)), (96, (vec_Join.e k)), (73, (dots_made.e k))], dots_Union.regs, k, mm⟩
@[reducible] def dots_Union.sg : Sg := ⟨[.dat tDots, .dat tDots], [], .dat tDots, []⟩
noncomputable def dots_Union.f (k : Nat) (a0 : Ty.D tDots) (a1 : Ty.D tDots) : Option (Sg.Out dots_Union.sg) := Sg.fn dots_Union.sg (dots_Union.cx k) dots_Union.body dots_Union.rs (a0, a1)
noncomputable def dots_Union.e (k : Nat) : Entry := Sg.entry dots_Union.sg fun x => dots_Union.f k x.1 x.2
theorem dots_Union.ok (k : Nat) : CallOK Tryz.prog 80 (dots_Union.e k) := fn_ok (c := dots_Union.cx k) (code := dots_Union.body) (TT.of tt_ok pp_ok mm_ok) (fns_ok ⟨(slices_Concat_api_Dot_api_Dot.ok k), sortDot_ok, (dot_Compare.ok k), (vec_Join.ok k), (dots_made.ok k), trivial⟩) mixed Tryz.func80 (by kernel_rfl) (by kernel_rfl) (by kernel_rfl) (by kernel_rfl) (by kernel_rfl) (by kernel_rfl) (fun x => by kernel_rfl)
noncomputable def tally_Join.body : Go.Code := Tryz.f81.body.getD .skip
noncomputable def tally_Join.rs : List Go.ResultVar := Tryz.f81.results.toList
def tally_Join.regs : List (Nat × RInfo) := [(0, ri [0,1] []), (1, ri [0,1,5] []), (2, ⟨[0, 1, 5, 14], [], [], [], 0, [0, 1, 5], [], [], [], []⟩), (3, ri [0,1,5,6] [29]), (4, ri [0,1,5,6,15] [29]), (5, ri [0,1,5,6] [29]), (6, ri [0,1,5,6,19] [29]), (7, rq [0,1,5,6] [29] 7), (10, ri [0,1,5,6,51] [29]), (11, ⟨[0, 1, 5], [], [0, 5, 8, 9], [], 9, [], [], [], [], []⟩), (12, ri [0,1,5,62] []), (13, ⟨[0, 1, 5], [], [0, 5, 8, 9], [], 9, [], [], [], [], []⟩), (8, ⟨[0, 1, 5], [], [0, 16, 17], [], 17, [], [], [], [], []⟩), (9, ⟨[0, 1, 5], [], [4, 5], [], 5, [], [], [], [], []⟩), (14, ⟨[4], [], [0, 1], [], 0, [], [], [], [], []⟩)]
noncomputable def tally_Join.cx (k : Nat) : Cx := ⟨tt, pp, [(62, (tally_compare.e k))], tally_Join.regs, k, mm⟩
@[reducible] def tally_Join.sg : Sg := ⟨[.dat (.slc tUndo), .dat (.slc tUndo)], [], .own tUndo, []⟩
noncomputable def tally_Join.f (k : Nat) (a0 : Ty.D (.slc tUndo)) (a1 : Ty.D (.slc tUndo)) : Option (Sg.Out tally_Join.sg) := Sg.fn tally_Join.sg (tally_Join.cx k) tally_Join.body tally_Join.rs (a0, a1)
noncomputable def tally_Join.e (k : Nat) : Entry := Sg.entry tally_Join.sg fun x => tally_Join.f k x.1 x.2
theorem tally_Join.ok (k : Nat) : CallOK Tryz.prog 81 (tally_Join.e k) := fn_ok (c := tally_Join.cx k) (code := tally_Join.body) (TT.of tt_ok pp_ok mm_ok) (fns_ok ⟨(tally_compare.ok k), trivial⟩) mixed Tryz.func81 (by kernel_rfl) (by kernel_rfl) (by kernel_rfl) (by kernel_rfl) (by kernel_rfl) (by kernel_rfl) (fun x => by kernel_rfl)
noncomputable def delta_Join.body : Go.Code := Tryz.f54.body.getD .skip
noncomputable def delta_Join.rs : List Go.ResultVar := Tryz.f54.results.toList
def delta_Join.regs : List (Nat × RInfo) := [(0, ⟨[2, 3, 4], [2, 3, 4], [0, 1], [], 0, [], [], [], [], []⟩), (1, ⟨[4], [4], [16], [], 16, [], [], [], [[], [], [], [], [1, 3], [], [], [], [], [6, 8, 1, 3], [], [], [], [], [11, 13, 6, 8, 1, 3], [1, 3, 6, 8, 11, 13], [1, 3, 6, 8, 11, 13]], []⟩)]
noncomputable def delta_Join.cx (k : Nat) : Cx := ⟨tt, pp, [(80, (dots_Union.e k)), (81, (tally_Join.e k))], delta_Join.regs, k, mm⟩
@[reducible] def delta_Join.sg : Sg := ⟨[.dat tKnow, .dat tKnow], [], .dat tKnow, []⟩
noncomputable def delta_Join.f (k : Nat) (a0 : Ty.D tKnow) (a1 : Ty.D tKnow) : Option (Sg.Out delta_Join.sg) := Sg.fn delta_Join.sg (delta_Join.cx k) delta_Join.body delta_Join.rs (a0, a1)
noncomputable def delta_Join.e (k : Nat) : Entry := Sg.entry delta_Join.sg fun x => delta_Join.f k x.1 x.2
theorem delta_Join.ok (k : Nat) : CallOK Tryz.prog 54 (delta_Join.e k) := fn_ok (c := delta_Join.cx k) (code := delta_Join.body) (TT.of tt_ok pp_ok mm_ok) (fns_ok ⟨(dots_Union.ok k), (tally_Join.ok k), trivial⟩) mixed Tryz.func54 (by kernel_rfl) (by kernel_rfl) (by kernel_rfl) (by kernel_rfl) (by kernel_rfl) (by kernel_rfl) (fun x => by kernel_rfl)
noncomputable def slices_Equal_api_Dot_api_Dot.body : Go.Code := Tryz.f92.body.getD .skip
noncomputable def slices_Equal_api_Dot_api_Dot.rs : List Go.ResultVar := Tryz.f92.results.toList
def slices_Equal_api_Dot_api_Dot.regs : List (Nat × RInfo) := [(0, ri [0,1] []), (1, ri [0,1,10] []), (2, ri [4] []), (3, ri [0,1,12,13] []), (4, ⟨[0, 1, 12, 13, 14], [], [], [], 0, [0, 1, 12, 13], [], [], [], []⟩), (5, ri [0,1,5,12,13] []), (6, rq [0,1,12,13,24] [] 9), (7, ri [4] []), (8, ri [0,1,12,13] []), (9, ri [4] [])]
noncomputable def slices_Equal_api_Dot_api_Dot.cx (k : Nat) : Cx := ⟨tt, pp, [], slices_Equal_api_Dot_api_Dot.regs, k, mm⟩
@[reducible] def slices_Equal_api_Dot_api_Dot.sg : Sg := ⟨[.dat (.slc tDot), .dat (.slc tDot)], [], .dat .bool, []⟩
noncomputable def slices_Equal_api_Dot_api_Dot.f (k : Nat) (a0 : Ty.D (.slc tDot)) (a1 : Ty.D (.slc tDot)) : Option (Sg.Out slices_Equal_api_Dot_api_Dot.sg) := Sg.fn slices_Equal_api_Dot_api_Dot.sg (slices_Equal_api_Dot_api_Dot.cx k) slices_Equal_api_Dot_api_Dot.body slices_Equal_api_Dot_api_Dot.rs (a0, a1)
noncomputable def slices_Equal_api_Dot_api_Dot.e (k : Nat) : Entry := Sg.entry slices_Equal_api_Dot_api_Dot.sg fun x => slices_Equal_api_Dot_api_Dot.f k x.1 x.2
theorem slices_Equal_api_Dot_api_Dot.ok (k : Nat) : CallOK Tryz.prog 92 (slices_Equal_api_Dot_api_Dot.e k) := fn_ok (c := slices_Equal_api_Dot_api_Dot.cx k) (code := slices_Equal_api_Dot_api_Dot.body) (TT.of tt_ok pp_ok mm_ok) (fns_ok trivial) mixed Tryz.func92 (by kernel_rfl) (by kernel_rfl) (by kernel_rfl) (by kernel_rfl) (by kernel_rfl) (by kernel_rfl) (fun x => by kernel_rfl)
noncomputable def dots_Same.body : Go.Code := Tryz.f78.body.getD .skip
noncomputable def dots_Same.rs : List Go.ResultVar := Tryz.f78.results.toList
def dots_Same.regs : List (Nat × RInfo) := [(0, ⟨[2, 3], [2, 3], [0, 1], [], 0, [], [], [], [], []⟩), (1, ri [4] [15])]
noncomputable def dots_Same.cx (k : Nat) : Cx := ⟨tt, pp, [(92, (slices_Equal_api_Dot_api_Dot.e k))], dots_Same.regs, k, mm⟩
@[reducible] def dots_Same.sg : Sg := ⟨[.dat tDots, .dat tDots], [], .dat .bool, []⟩
noncomputable def dots_Same.f (k : Nat) (a0 : Ty.D tDots) (a1 : Ty.D tDots) : Option (Sg.Out dots_Same.sg) := Sg.fn dots_Same.sg (dots_Same.cx k) dots_Same.body dots_Same.rs (a0, a1)
noncomputable def dots_Same.e (k : Nat) : Entry := Sg.entry dots_Same.sg fun x => dots_Same.f k x.1 x.2
theorem dots_Same.ok (k : Nat) : CallOK Tryz.prog 78 (dots_Same.e k) := fn_ok (c := dots_Same.cx k) (code := dots_Same.body) (TT.of tt_ok pp_ok mm_ok) (fns_ok ⟨(slices_Equal_api_Dot_api_Dot.ok k), trivial⟩) mixed Tryz.func78 (by kernel_rfl) (by kernel_rfl) (by kernel_rfl) (by kernel_rfl) (by kernel_rfl) (by kernel_rfl) (fun x => by kernel_rfl)
noncomputable def slices_Equal_api_Undo_api_Undo.body : Go.Code := Tryz.f93.body.getD .skip
noncomputable def slices_Equal_api_Undo_api_Undo.rs : List Go.ResultVar := Tryz.f93.results.toList
def slices_Equal_api_Undo_api_Undo.regs : List (Nat × RInfo) := [(0, ri [0,1] []), (1, ri [0,1,10] []), (2, ri [4] []), (3, ri [0,1,12,13] []), (4, ⟨[0, 1, 12, 13, 14], [], [], [], 0, [0, 1, 12, 13], [], [], [], []⟩), (5, ri [0,1,5,12,13] []), (6, rq [0,1,12,13,24] [] 9), (7, ri [4] []), (8, ri [0,1,12,13] []), (9, ri [4] [])]
noncomputable def slices_Equal_api_Undo_api_Undo.cx (k : Nat) : Cx := ⟨tt, pp, [], slices_Equal_api_Undo_api_Undo.regs, k, mm⟩
@[reducible] def slices_Equal_api_Undo_api_Undo.sg : Sg := ⟨[.dat (.slc tUndo), .dat (.slc tUndo)], [], .dat .bool, []⟩
noncomputable def slices_Equal_api_Undo_api_Undo.f (k : Nat) (a0 : Ty.D (.slc tUndo)) (a1 : Ty.D (.slc tUndo)) : Option (Sg.Out slices_Equal_api_Undo_api_Undo.sg) := Sg.fn slices_Equal_api_Undo_api_Undo.sg (slices_Equal_api_Undo_api_Undo.cx k) slices_Equal_api_Undo_api_Undo.body slices_Equal_api_Undo_api_Undo.rs (a0, a1)
noncomputable def slices_Equal_api_Undo_api_Undo.e (k : Nat) : Entry := Sg.entry slices_Equal_api_Undo_api_Undo.sg fun x => slices_Equal_api_Undo_api_Undo.f k x.1 x.2
theorem slices_Equal_api_Undo_api_Undo.ok (k : Nat) : CallOK Tryz.prog 93 (slices_Equal_api_Undo_api_Undo.e k) := fn_ok (c := slices_Equal_api_Undo_api_Undo.cx k) (code := slices_Equal_api_Undo_api_Undo.body) (TT.of tt_ok pp_ok mm_ok) (fns_ok trivial) mixed Tryz.func93 (by kernel_rfl) (by kernel_rfl) (by kernel_rfl) (by kernel_rfl) (by kernel_rfl) (by kernel_rfl) (fun x => by kernel_rfl)
noncomputable def tally_Same.body : Go.Code := Tryz.f79.body.getD .skip
noncomputable def tally_Same.rs : List Go.ResultVar := Tryz.f79.results.toList
def tally_Same.regs : List (Nat × RInfo) := [(0, ri [0,1] []), (1, ri [4] [7])]
noncomputable def tally_Same.cx (k : Nat) : Cx := ⟨tt, pp, [(93, (slices_Equal_api_Undo_api_Undo.e k))], tally_Same.regs, k, mm⟩
@[reducible] def tally_Same.sg : Sg := ⟨[.dat (.slc tUndo), .dat (.slc tUndo)], [], .dat .bool, []⟩
noncomputable def tally_Same.f (k : Nat) (a0 : Ty.D (.slc tUndo)) (a1 : Ty.D (.slc tUndo)) : Option (Sg.Out tally_Same.sg) := Sg.fn tally_Same.sg (tally_Same.cx k) tally_Same.body tally_Same.rs (a0, a1)
noncomputable def tally_Same.e (k : Nat) : Entry := Sg.entry tally_Same.sg fun x => tally_Same.f k x.1 x.2
theorem tally_Same.ok (k : Nat) : CallOK Tryz.prog 79 (tally_Same.e k) := fn_ok (c := tally_Same.cx k) (code := tally_Same.body) (TT.of tt_ok pp_ok mm_ok) (fns_ok ⟨(slices_Equal_api_Undo_api_Undo.ok k), trivial⟩) mixed Tryz.func79 (by kernel_rfl) (by kernel_rfl) (by kernel_rfl) (by kernel_rfl) (by kernel_rfl) (by kernel_rfl) (fun x => by kernel_rfl)
noncomputable def delta_Same.body : Go.Code := Tryz.f53.body.getD .skip
noncomputable def delta_Same.rs : List Go.ResultVar := Tryz.f53.results.toList
def delta_Same.regs : List (Nat × RInfo) := [(0, ⟨[2, 3], [2, 3], [0, 1], [], 0, [], [], [], [], []⟩), (1, ri [4] [9,15,22])]
noncomputable def delta_Same.cx (k : Nat) : Cx := ⟨tt, pp, [(78, (dots_Same.e k)), (79, (tally_Same.e k))], delta_Same.regs, k, mm⟩
@[reducible] def delta_Same.sg : Sg := ⟨[.dat tKnow, .dat tKnow], [], .dat .bool, []⟩
noncomputable def delta_Same.f (k : Nat) (a0 : Ty.D tKnow) (a1 : Ty.D tKnow) : Option (Sg.Out delta_Same.sg) := Sg.fn delta_Same.sg (delta_Same.cx k) delta_Same.body delta_Same.rs (a0, a1)
noncomputable def delta_Same.e (k : Nat) : Entry := Sg.entry delta_Same.sg fun x => delta_Same.f k x.1 x.2
theorem delta_Same.ok (k : Nat) : CallOK Tryz.prog 53 (delta_Same.e k) := fn_ok (c := delta_Same.cx k) (code := delta_Same.body) (TT.of tt_ok pp_ok mm_ok) (fns_ok ⟨(dots_Same.ok k), (tally_Same.ok k), trivial⟩) mixed Tryz.func53 (by kernel_rfl) (by kernel_rfl) (by kernel_rfl) (by kernel_rfl) (by kernel_rfl) (by kernel_rfl) (fun x => by kernel_rfl)
noncomputable def delta_Within.body : Go.Code := Tryz.f28.body.getD .skip
noncomputable def delta_Within.rs : List Go.ResultVar := Tryz.f28.results.toList
def delta_Within.regs : List (Nat × RInfo) := [(0, ⟨[2, 3], [2, 3], [0, 1], [], 0, [], [], [], [], []⟩), (1, rq [4] [9] 5)]
noncomputable def delta_Within.cx (k : Nat) : Cx := ⟨tt, pp, [(54, (delta_Join.e k)), (53, (delta_Same.e k))], delta_Within.regs, k, mm⟩
@[reducible] def delta_Within.sg : Sg := ⟨[.dat tKnow, .dat tKnow], [], .dat .bool, []⟩
noncomputable def delta_Within.f (k : Nat) (a0 : Ty.D tKnow) (a1 : Ty.D tKnow) : Option (Sg.Out delta_Within.sg) := Sg.fn delta_Within.sg (delta_Within.cx k) delta_Within.body delta_Within.rs (a0, a1)
noncomputable def delta_Within.e (k : Nat) : Entry := Sg.entry delta_Within.sg fun x => delta_Within.f k x.1 x.2
theorem delta_Within.ok (k : Nat) : CallOK Tryz.prog 28 (delta_Within.e k) := fn_ok (c := delta_Within.cx k) (code := delta_Within.body) (TT.of tt_ok pp_ok mm_ok) (fns_ok ⟨(delta_Join.ok k), (delta_Same.ok k), trivial⟩) mixed Tryz.func28 (by kernel_rfl) (by kernel_rfl) (by kernel_rfl) (by kernel_rfl) (by kernel_rfl) (by kernel_rfl) (fun x => by kernel_rfl)
noncomputable def law24_awake.body : Go.Code := Tryz.f12.body.getD .skip
noncomputable def law24_awake.rs : List Go.ResultVar := Tryz.f12.results.toList
def law24_awake.regs : List (Nat × RInfo) := [(0, ri [] []), (1, ⟨[1], [1], [6], [], 0, [], [], [], [], []⟩), (2, ⟨[2], [2], [4], [], 0, [], [], [], [], []⟩), (3, ⟨[2, 3], [2, 3], [4], [], 0, [], [], [], [], []⟩), (4, rq [0] [29,35] 22)]
noncomputable def law24_awake.cx (k : Nat) : Cx := ⟨tt, pp, [(24, (state_Put.e k)), (25, (delta_Diff.e k)), (26, (delta_Empty.e k)), (27, (delta_Of.e k)), (28, (delta_Within.e k))], law24_awake.regs, k, mm⟩
@[reducible] def law24_awake.sg : Sg := ⟨[], [], .dat .bool, []⟩
noncomputable def law24_awake.f (k : Nat) : Option (Sg.Out law24_awake.sg) := Sg.fn law24_awake.sg (law24_awake.cx k) law24_awake.body law24_awake.rs ()
noncomputable def law24_awake.e (k : Nat) : Entry := Sg.entry law24_awake.sg fun x => law24_awake.f k
theorem law24_awake.ok (k : Nat) : CallOK Tryz.prog 12 (law24_awake.e k) := fn_ok (c := law24_awake.cx k) (code := law24_awake.body) (TT.of tt_ok pp_ok mm_ok) (fns_ok ⟨(state_Put.ok k), (delta_Diff.ok k), (delta_Empty.ok k), (delta_Of.ok k), (delta_Within.ok k), trivial⟩) mixed Tryz.func12 (by kernel_rfl) (by kernel_rfl) (by kernel_rfl) (by kernel_rfl) (by kernel_rfl) (by kernel_rfl) (fun x => by kernel_rfl)
noncomputable def vec_Code.body : Go.Code := Tryz.f55.body.getD .skip
noncomputable def vec_Code.rs : List Go.ResultVar := Tryz.f55.results.toList
def vec_Code.regs : List (Nat × RInfo) := [(0, ri [1] [1]), (1, ri [1,3] [1]), (2, ri [3,6,7] []), (3, ⟨[3, 6, 7, 8], [], [], [], 0, [3, 6, 7], [], [], [], []⟩), (4, ri [3,5,6,7] []), (5, ri [3,6,7] []), (6, ri [3,6,7] []), (7, ri [2] [])]
noncomputable def vec_Code.cx (k : Nat) : Cx := ⟨tt, pp, [(57, packIntE)], vec_Code.regs, k, mm⟩
@[reducible] def vec_Code.sg : Sg := ⟨[.dat tVec], [], .dat .str, []⟩
noncomputable def vec_Code.f (k : Nat) (a0 : Ty.D tVec) : Option (Sg.Out vec_Code.sg) := Sg.fn vec_Code.sg (vec_Code.cx k) vec_Code.body vec_Code.rs a0
noncomputable def vec_Code.l3 (k : Nat) (n : Nat) (x3 : Ty.D .str) (x6 : Ty.D tVec) (x7 : Ty.D (.int .i64)) : Option (Sg.Out vec_Code.sg) := loopAt (vec_Code.cx k) vec_Code.body [1, 1, 0, 1, 0] 3 [3, 6, 7] [] [] (Sg.K vec_Code.sg (vec_Code.cx k) vec_Code.rs) n ⟨[(3, .dat .str x3), (6, .dat tVec x6), (7, .dat (.int .i64) x7)], []⟩
theorem vec_Code.f_eq (k : Nat) (a0 : Ty.D tVec) : vec_Code.f k a0 = vec_Code.l3 k k [] a0 0 := by kernel_rfl
theorem vec_Code.l3_eq (k : Nat) (n3 : Nat) (x3 : Ty.D .str) (x6 : Ty.D tVec) (x7 : Ty.D (.int .i64)) : vec_Code.l3 k (n3 + 1) x3 x6 x7 = br (ilt x7 16) (br (inB x7 16) (bnd (packI (rd (.int .i64) x6 (natOf x7))) fun r0 => br (roomS x3 r0) (vec_Code.l3 k n3 (app x3 r0) x6 (iadd .i64 x7 1)) none) none) (some x3) := by kernel_rfl
noncomputable def vec_Code.e (k : Nat) : Entry := Sg.entry vec_Code.sg fun x => vec_Code.f k x
theorem vec_Code.ok (k : Nat) : CallOK Tryz.prog 55 (vec_Code.e k) := fn_ok (c := vec_Code.cx k) (code := vec_Code.body) (TT.of tt_ok pp_ok mm_ok) (fns_ok ⟨packint_ok, trivial⟩) mixed Tryz.func55 (by kernel_rfl) (by kernel_rfl) (by kernel_rfl) (by kernel_rfl) (by kernel_rfl) (by kernel_rfl) (fun x => by kernel_rfl)
end Go.Proofs.YtbdfcbhnjdlabaaGreat
end
