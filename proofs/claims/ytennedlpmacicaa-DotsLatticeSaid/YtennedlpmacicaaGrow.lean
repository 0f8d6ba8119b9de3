/- slices.Grow at dots: the walk, and its contract. -/
import Derived.Test.YtennedlpmacicaaIns2
namespace Go.Proofs.Ytennedlpmacicaa
open Go.Shelf Go.RowKit Go.Lib
set_option linter.unusedVariables false
set_option maxHeartbeats 4000000 in
set_option maxRecDepth 100000 in
theorem grow_walk (base : Option Addr) (len cap n : Nat) (olds : List Value) (w : World) (hlc : len ≤ cap) (hc63 : cap ≤ 9223372036854775807) (hgt : cap < len + n) (hbig : (len + n) * 16 ≤ 140737488355328) (hol : olds.length = cap * 2) (hnil : base = none → cap = 0)
    (hcs : ∀ a, base = some a → ∀ (j : Nat) (v : Value), olds[j]? = some v → w.cell? (a.add j) = some v) :
    Calls Try.prog 117 #[.slice base len cap, .int .i64 n] w fun e w' => e = .returned (.slice (some ⟨w.heap.size, 0, none⟩) len (grownCap w (len + n) cap 23)) ∧
      w' = w.drew.alloc (.cells (olds.toArray ++ Builtin.zeroCells zeroD.cells (len + n - cap) ++ Builtin.zeroCells zeroD.cells (grownCap w (len + n) cap 23 - (len + n))) 23) := by
  obtain ⟨i0, hi0, hz0, hzs, hzb⟩ := i23
  have h1 : ¬ ((n : Int) < 0) := by omega
  have hw : IntKind.i64.wrap ((cap : Int) - (len : Int)) = (cap : Int) - (len : Int) := by rw [IntKind.wrap_i64]; omega
  have hw2 : IntKind.i64.wrap ((n : Int) - ((cap : Int) - (len : Int))) = ((len + n - cap : Nat) : Int) := by rw [IntKind.wrap_i64]; omega
  have h2 : (0 : Int) < ((len + n - cap : Nat) : Int) := by omega
  have hik : cap + (len + n - cap) = len + n := by omega
  have hold : (Builtin.firstCells i0.size cap (.slice base cap cap)).run Try.prog w.drew = .ok olds.toArray w.drew := by
    rw [hzs]
    cases base with
    | none =>
      have h0 := hnil rfl
      subst h0
      rw [List.length_eq_zero_iff.1 hol]
      exact run_firstCells_none w.drew 2 0 0 0
    | some a => exact run_firstCells_some w.drew 2 cap a cap cap olds (by omega) (fun j v hj => hcs a rfl j v hj)
  have hrz : ∀ ty, (Builtin.append_ #[30, 3] ty #[.slice base cap cap, .int .i64 ((len + n - cap : Nat) : Int)]).run Try.prog w =
      .ok (.slice (some ⟨w.heap.size, 0, none⟩) (len + n) (grownCap w (len + n) cap 23)) (w.drew.alloc (.cells (olds.toArray ++ Builtin.zeroCells zeroD.cells (len + n - cap) ++ Builtin.zeroCells zeroD.cells (grownCap w (len + n) cap 23 - (len + n))) 23)) := fun ty => by
    have h := Lib.run_append_grow_zeros w 30 3 ty 23 i0 zeroD .i64 .i64 u30 u3 hi0 hz0 base cap cap olds hold (len + n - cap) (by omega) (by omega) (by omega) (by omega) (by rw [hzb]; omega) (by rw [hzb, hik]; exact growslice_fits hgt hbig)
    rw [hik] at h
    exact h
  have hGn : len + n ≤ grownCap w (len + n) cap 23 := grownCap_ge w _ _ _
  have hG63 : grownCap w (len + n) cap 23 ≤ 9223372036854775807 := by
    have := grownCap_le_maxLen w (len + n) cap 23 (by unfold maxLen; omega)
    unfold maxLen at this
    omega
  generalize grownCap w (len + n) cap 23 = G at hrz hGn hG63 ⊢
  generalize hk : len + n - cap = q at hrz hw2 h2 hik ⊢
  have hlG : (len : Int) ≤ (G : Int) := by omega
  have hlc' : (len : Int) ≤ (cap : Int) := by omega
  clear hold hcs
  go_enter Try.func117, Try.ntmps117
  cases base with
  | none =>
    have h0 := hnil rfl
    subst h0
    have hl0 : len = 0 := by omega
    subst hl0
    have hqn : q = n := by omega
    subst hqn
    rw [Nat.zero_add] at hrz hGn ⊢
    clear hw hw2 hik hlG hlc' hk hgt
    have hgt : (0 : Int) < (q : Int) := h2
    go_wp2_with (at_builtin; refine Lib.wpList_append_run _ rfl _ _ _ _ rfl _ _ rfl rfl _ _ (hrz _) ?_)
    all_goals (go_ret; exact ⟨rfl, rfl⟩)
  | some a =>
    obtain ⟨ab, ao, asp⟩ := a
    go_wp2_with (at_builtin; refine Lib.wpList_append_run _ rfl _ _ _ _ rfl _ _ rfl rfl _ _ (hrz _) ?_)
    all_goals (go_ret; exact ⟨rfl, rfl⟩)

set_option maxHeartbeats 4000000 in
set_option maxRecDepth 100000 in
theorem grow_stay (base : Option Addr) (len cap n : Nat) (w : World) (hlc : len ≤ cap) (hc63 : cap ≤ 9223372036854775807) (hgt : len + n ≤ cap) :
    Calls Try.prog 117 #[.slice base len cap, .int .i64 n] w fun e w' => e = .returned (.slice base len cap) ∧ w' = w := by
  have h1 : ¬ ((n : Int) < 0) := by omega
  have hw : IntKind.i64.wrap ((cap : Int) - (len : Int)) = (cap : Int) - (len : Int) := by rw [IntKind.wrap_i64]; omega
  have hw2 : IntKind.i64.wrap ((n : Int) - ((cap : Int) - (len : Int))) = (n : Int) - ((cap : Int) - (len : Int)) := by rw [IntKind.wrap_i64]; omega
  have h2 : ¬ (0 : Int) < (n : Int) - ((cap : Int) - (len : Int)) := by omega
  go_enter Try.func117, Try.ntmps117
  go_wp2
  all_goals first
    | (go_ret; exact ⟨rfl, rfl⟩)
    | (exfalso; omega)
end Go.Proofs.Ytennedlpmacicaa
namespace Go.Proofs.Ytennedlpmacicaa.Pal
open Go Go.Sort
theorem ilt_f {a b : Int} (h : ilt a b = false) : b ≤ a := by simp [ilt] at h; exact h
theorem grow_ok : CallOK Try.prog 117 (growE dotT) := by
  have e117 : ∀ args w, (callFunc 117 args).run Try.prog w = .ok (.enter 117 args) w := enters_of Try.func117 (by kernel_rfl) rfl
  have val : ∀ args objs v os, (growE dotT).val args objs = some (v, os) → ∃ (xs : List dotT.D) (n : Int), args = [.own dotT xs, .dat (.int .i64) n] ∧ objs = [] ∧ (0 ≤ n ∧ n ≤ 4294967296) ∧ xs.length ≤ 4294967296 ∧ v = .own dotT xs ∧ os = [] := by
    intro args objs v os h
    unfold Entry.val growE at h
    simp only at h
    split at h
    · rename_i e' xs n
      split at h
      · rename_i he; subst he
        obtain ⟨h1, h⟩ := br_else h
        obtain ⟨h2, h⟩ := br_else h
        obtain ⟨hr, h⟩ := br_then h
        injection h with h; injection h with h3 h4
        exact ⟨xs, n, rfl, rfl, ⟨ilt_f h1, ilt_f h2⟩, by have := hr; simp only [room, List.length_nil, Nat.zero_add, decide_eq_true_eq] at this; exact this, h3.symm, h4.symm⟩
      · cases h
    · cases h
  refine ⟨fun α args objs K => ?_, fun args objs vr os hval X G w argv tA tM hW hX hA hM hcnt htok => ?_⟩
  · unfold Entry.val growE
    simp only
    split
    · split
      · rw [br_bind, br_bind, br_bind]; rfl
      · rfl
    · rfl
  · obtain ⟨xs, nn, rfl, rfl, ⟨hn0, hn1⟩, hlen, rfl, rfl⟩ := val _ _ _ _ hval
    obtain ⟨n, rfl⟩ : ∃ n : Nat, nn = (n : Int) := ⟨nn.toNat, by omega⟩
    obtain ⟨x0, r0, t1, t2, rfl, rfl, hx0, x1, r1, t3, t4, rfl, rfl, ⟨cs1, ⟨f1, f2⟩, hx1⟩, rfl, rfl⟩ := hA
    have hx0' := hx0
    obtain ⟨cs0, ⟨ad, len, cap, e1, e2, e3, e4⟩, hx⟩ := hx0
    simp only [V.agg, Bool.false_eq_true, if_false] at hx hx1
    rw [e1] at hx
    have f1 : cs1 = [.int .i64 n] := f1
    rw [f1] at hx1
    simp only [Ty.agg, Bool.false_eq_true, if_false, List.cons.injEq, and_true] at hx hx1
    subst hx; subst hx1; subst f2
    obtain ⟨hM1, hM2⟩ : tM = [] ∧ True := ⟨hM, trivial⟩
    refine .inl ⟨e117 _ _, ?_⟩
    by_cases hstay : len + n ≤ cap
    · refine Calls.mono (grow_stay ad len cap n w e3.1 e3.2 hstay) fun e' w' hh => ?_
      obtain ⟨rfl, rfl⟩ := hh
      exact ⟨G, Ev.refl _ _ _, hW, fun _ _ => rfl, t1, [], [], hx0', rfl, rfl, fun q => by have := hcnt q; simp at this ⊢; omega, fun q hq => .inr (htok q (by simp at hq ⊢; omega))⟩
    · have hbig : (len + n) * 16 ≤ 140737488355328 := by omega
      obtain ⟨olds, hol, hnil, hcs, hpre⟩ : ∃ olds : List Value, olds.length = cap * 2 ∧ (ad = none → cap = 0) ∧ (∀ a, ad = some a → ∀ (j : Nat) (v : Value), olds[j]? = some v → w.cell? (a.add j) = some v) ∧ ∀ (j : Nat) (v : Value), (xs.flatMap (encT dotT))[j]? = some v → olds[j]? = some v := by
        rcases e4 with ⟨hc0, _⟩ | ⟨gb, rfl, _, hel, ⟨cells, ty, hgc, hs⟩, _, _⟩
        · refine ⟨[], by rw [hc0]; rfl, fun _ => hc0, fun a _ j v hj => by simp at hj, fun j v hj => ?_⟩
          have : xs = [] := List.eq_nil_of_length_eq_zero (by omega)
          subst this; simp at hj
        · obtain ⟨vcc, hvA, hvat⟩ := Elems.all2 (fun x c => DRep.length dotT x c) xs gb 0 hel
          have hvcc : vcc = xs.flatMap (encT dotT) := (all2_flat (e := dotT) rfl xs vcc).1 (All2.mono (fun x c => flat_DRep dotT x c rfl) _ _ hvA)
          refine ⟨cells.toList, by simp [hs]; rfl, fun h => (by cases h), fun a ha j v hj => ?_, fun j v hj => ?_⟩
          · injection ha with ha; subst ha
            rw [Addr.add_lit, cell_of hgc, Nat.zero_add]; simpa using hj
          · have := hW.holds gb _ v (hvat j v (by rw [hvcc]; exact hj))
            rw [Nat.zero_add, cell_of hgc] at this
            simpa using this
      refine Calls.mono (grow_walk ad len cap n olds w e3.1 e3.2 (by omega) hbig hol hnil hcs) fun e' w' hh => ?_
      obtain ⟨rfl, rfl⟩ := hh
      have hge := grownCap_ge w (len + n) cap 23
      have hle := grownCap_le_maxLen w (len + n) cap 23 (by unfold maxLen; omega)
      unfold maxLen at hle
      obtain ⟨G2, hG2⟩ : ∃ G2, G2 = grownCap w (len + n) cap 23 := ⟨_, rfl⟩
      rw [← hG2] at hge hle ⊢
      obtain ⟨ROW, hROW⟩ : ∃ ROW : Array Value, ROW = olds.toArray ++ Builtin.zeroCells zeroD.cells (len + n - cap) ++ Builtin.zeroCells zeroD.cells (G2 - (len + n)) := ⟨_, rfl⟩
      rw [← hROW]
      have hRs : ROW.size = G2 * 2 := by rw [hROW]; simp [Builtin.zeroCells, zeroD, Value.cells, hol]; omega
      have hnew : (w.drew.alloc (.cells ROW 23)).heap[w.heap.size]? = some (.cells ROW 23 (0, 0)) := by show (w.heap.push _)[w.heap.size]? = _; simp
      have hk1 : ∀ b, b < w.heap.size → (w.drew.alloc (.cells ROW 23)).heap[b]? = w.heap[b]? := fun b hb => by
        show (w.heap.push _)[b]? = _
        rw [Array.getElem?_push_lt hb, Array.getElem?_eq_getElem hb]
      have := own_post (e := dotT) (zs := xs) (X := X) (ax := some (.slice ad len cap)) (cap := G2) (w' := w.drew.alloc (.cells ROW 23)) hW ⟨rfl, rfl, rfl, by show _ ≤ (w.heap.push _).size; simp, fun b hb => .inl (hk1 b hb), by show w.drawn ≤ w.drawn + 1; omega⟩ (fun b hb _ => hk1 b hb) hnew hRs ⟨by omega, hle⟩ ((all2_flat (e := dotT) rfl xs _).2 rfl) (fun j v hj => by
        have h1 := hpre j v hj
        have h2 := (List.getElem?_eq_some_iff.1 h1).1
        rw [cell_of hnew, hROW, Array.getElem?_append_left (by simp; omega), Array.getElem?_append_left (by simpa using h2)]
        simpa using h1) (fun o => (hW.none_new o).1) (fun o => (hW.none_new o).2) (.inl (Nat.le_refl _))
      rw [e2] at this
      exact this
#print axioms grow_ok
end Go.Proofs.Ytennedlpmacicaa.Pal
